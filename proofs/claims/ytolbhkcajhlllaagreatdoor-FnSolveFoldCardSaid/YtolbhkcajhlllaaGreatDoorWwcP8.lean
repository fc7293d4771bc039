import Derived.Test.YtolbhkcajhlllaaGreatDoorWwcP7
import Derived.LaidEql
import Derived.Stop.Asserts
/- A part of the proof. -/
set_option linter.all false
set_option maxRecDepth 9999
set_option maxHeartbeats 2000000
noncomputable section
namespace Go.Proofs.YtolbhkcajhlllaaGreatDoor
open Go Go.Vc Go.Proofs Go.Shelf
section
variable {w:World} {K:oK} {F X Q:Nat->Prop}
def Za0:ByteArray:=⟨#[48,49,50,51,52,53,54,55,56,57,97,98,99,100,101,102,103,104,105,106,107,108,109,110,111,112,113,114,115,116,117,118,119,120,121,122]⟩
theorem digit_text:∀k:Fin 10,(Za0.extract k.1 (k.1+1)).data.toList=M.digL (k.1:Int):=by decide+kernel
theorem Itoa_spec {k:Nat} (c:k<10) (b:∀s:ByteArray,s.data.toList=M.digL (k:Int)->K (.string s) w):vcall j0 #[nI k] w K:=by
 refine zf {} Tryz.func230 ?_;refine zf {} Tryz.func257 ?_;refine zf {cuts:=[(12292,[]),(28680,[6])]} Tryz.func290 ?_;simp only[push_cast];refine zb (λ_=>?_) (λh=>absurd trivial h);refine zo (λ_ _=>False) ?_ (λ_ _ _ h=>h.elim);intro J d;refine zb (λ_=>?_) (λh=>oM);refine zb (λ_=>?_) (λh=>oM);refine zf {} Tryz.func304 ?_;simp(disch:=omega) only[push_cast,zj];refine zb (λ_=>?_) (λh=>oM);have a:Za0.size=36:=by decide+kernel
 show xk yZ (.string Za0) _ _ _ w _;rw[yX0 rK oM oM (by rw[a];omega)];rw[show((k:Int)).toNat=k by omega,show((k:Int)+1).toNat=k+1 by omega];exact b _ (digit_text ⟨k,c⟩)
def byV (c:UInt8):Value:= .int .u8 c.toNat
theorem xt0 {v:Value} {l:List UInt8} (h:OwnV y6 w v (l.map byV)) (g:l≠[]):VR y6 yZ v w K=K (.string ⟨l.toArray⟩) w:=by
 obtain⟨a,c,k,p,n,d⟩:=(OwnV.vals h).shape;have f:(l.map byV).map (λx=>[x])≠[]:=by simpa using g
 obtain⟨b,o,m,_,_,e⟩:=d f;simp only[X0] at k e;subst m;subst k;refine y7 (run_convert_bytes_back w y6 yZ qK ⟨b,o,none⟩ c l Xi rK rK λj i=>?_);have:=e j i 0 (byV l[j]) (by
  rw[q0,Gv,Gv,gi i];rfl)
 rw[yn] at this⊢;rw[pL,GO] at this;exact this
def j00 (n:Nat) (i:Nat):UInt8:=if n/2^i%2=1 then 49 else 48
theorem bitC_take {wd n j:Nat} (a:j<wd):((List.range wd).reverse.map (j00 n)).take (j+1)=((List.range wd).reverse.map (j00 n)).take j++[j00 n (wd-1-j)]:=by
 have b:j<((List.range wd).reverse.map (j00 n)).length:=by simpa using a
 rw[M.take_add b 0];congr 1;rw[q0,Gv,List.getElem?_reverse (by simpa using a),GQ,pQ oM];rfl
theorem VecText_spec {wd n:Int} (C:M.vok wd n=true) (hK:∀w' s,Ext w w'->s.data.toList=M.vecL wd.toNat n.toNat->K (.string s) w'):vcall YF #[xS wd n] w K:=by
 refine zf {loops:=[(5,[3,4])]} Tryz.func229 ?_;obtain⟨U,V,W,X⟩:=M.vok_iff.1 C;have hp:(2:Int)^wd.toNat<=16:=by
  have:=pow4 (k:=wd.toNat) oM oM;have e:=JD wd.toNat;omega
 refine zk λb1 w1 a0 z aa g=>?_;have y:∀w':World,Blk w' b1 [nI wd,nI n] zg->∀K:oK,zt zg (oP b1 0) w' K=K (xS wd n) w':=λw' hB K=>Blk.ldAgg hB (by exact zr);rw[y w1 g];refine VecOk_spec λw2 o=>?_;rw[C];simp only[push_cast,GN];refine zC Xi rK (show yl qK (.int .u8 0) by unfold yl;kernel_rfl) rfl rfl λb3 w3 a5 A ab I=>?_;have D:=g.ext (o.trans A);have e3:=z.trans (o.trans A);have s1:=z.size;have s2:=o.size;have S:OwnV y6 w3 (.slice (some ⟨b3,0,none⟩) 1 1) ([(35:UInt8)].map byV):=Blk.own1 (t:=y6) (cs:=[byV 35]) (by rw[qR0];exact I) (gJ _) rfl rfl oM;simp(disch:=first|(simp only[push_cast])|omega) only[push_cast,D.ld0,zj];refine kf (λm u w'=> ∃j r,u=[r,nI ((m:Int)-1)]/\(m:Int)+(j:Nat)=wd/\Ext w w'/\Blk w' b1 [nI wd,nI n] zg/\OwnV y6 w' r ((35::((List.range wd.toNat).reverse.map (j00 n.toNat)).take j).map byV)/\∀b,r.ownBlock=some b->w1.heap.size<=b) wd.toNat
  ⟨0,_,by rw[show((wd.toNat:Nat):Int)=wd by omega],oM,e3,D,S,λb l=>by have e:b3=b:=K3 l;omega⟩ ?_
 rintro m _ _ Y Z ⟨j,r,rfl,a9,p,i,v,q⟩ L;simp only[push_cast];refine zb (λa7=>?_) (λa8=>?_)
 ·rw[y Y i];rw[show n=((n.toNat:Nat):Int) by omega];refine raw_spec oM λw6 O=>?_;rw[show(m:Int)-1=((m-1:Nat):Int) by omega];refine bit_spec oM oM ?_;have step:∀(x:UInt8) (G:oK),x=j00 n.toNat (wd.toNat-1-j)->(∀d a,Ext w a->Blk a b1 [nI wd,nI n] zg->OwnV y6 a d ((35::((List.range wd.toNat).reverse.map (j00 n.toNat)).take (j+1)).map byV)->(∀b,d.ownBlock=some b->w1.heap.size<=b)->G d a)->
    vbuildS y6 1 [(0,.int .u8 x.toNat)] w6 λt21 F=>vbi .append [y6,y6] y6 [r,t21] F G:=by
   intro x G hx N;refine zC Xi rK (show yl qK (.int .u8 0) by unfold yl;kernel_rfl) rfl rfl λb7 a a6 Q ad J=>?_;have f:=O.trans Q;have hl:((35::((List.range wd.toNat).reverse.map (j00 n.toNat)).take j).map byV).length<=20:=by
    simp only[X0,gz,gg,List.length_reverse,GQ];omega
   refine(v.ext f).app1 jZ0 J rfl oM oM λr8 w8 T E R=>?_;have ac:=p.size;have z67:=f.size;refine N r8 w8 (Ext.then (p.trans f) E λb l=>by have:=q b l;omega) ((i.ext f).same E λl=>by have:=q b1 l;have:=g.lt;omega) ?_ λb l=>(R b l).elim (q b) λh=>by have:=i.lt;omega
   rw[bitC_take oM,<-hx,<-GA,gw];exact T
  have B:wd.toNat-1-j=m-1:=oM;have fin:∀d a,Ext w a->Blk a b1 [nI wd,nI n] zg->OwnV y6 a d ((35::((List.range wd.toNat).reverse.map (j00 n.toNat)).take (j+1)).map byV)->(∀b,d.ownBlock=some b->w1.heap.size<=b)->Z [d,nI (((m-1:Nat):Int)-1)] a:=λd a U V W X=>
   L (m-1) _ _ oM ⟨j+1,d,rfl,oM,U,V,W,X⟩
  refine zb (λc=>?_) (λc=>?_)
  ·refine step 49 _ (by rw[B];unfold j00;rw[if_pos c]) λd a H a2 a3 a4=>?_;rw[zj oM oM];exact fin d a H a2 a3 a4
  ·refine step 48 _ (by rw[B];unfold j00;rw[if_neg c]) λd a H a2 a3 a4=>?_;rw[zj oM oM];exact fin d a H a2 a3 a4
 ·rw[gC (by simp;omega)] at v;rw[xt0 v (by simp)];exact hK Y _ p rfl
theorem joinX:Builder.Extra P YtolbhkcajhlllaaGreatDoor.joinL_ren where
 sizeBuilder:=rK
 liesBuilder:=rK
 t5:=rK
 a5:=λw=>rK
 z5:=λw=>rK
 v5:=λw=>rK
 infoByte:=rK
 cellsByte:=rK
 sizeByte:=rK
 neB5:=by decide+kernel
def joinB:List (List UInt8)->List UInt8
 |[]=>[]
 |x::xs=>x++xs.flatMap λy=>32::y
theorem qz0 (xs:List (List UInt8)):Lib.join xs [32]=joinB xs:=by
 unfold Lib.join joinB;induction xs with
 |nil=>rfl
 |cons x xs a=>
  cases xs with
  |nil=>simp[List.intercalate,List.intersperse]
  |cons y ys=>
   simp only[List.intercalate,List.intersperse_cons_cons,GJ] at a⊢;rw[a];simp
theorem Join_spec {v:Value} {xs:List ByteArray} (h:OwnV yE w v (xs.map .string)) (n:2<=xs.length) (y:xs.length<=1000) (g:(joinB (xs.map (·.data.toList))).length<=1000000)
  (q:∀w' s,Ext w w'->s.data.toList=joinB (xs.map (·.data.toList))->K (.string s) w'):vcall YB #[v,.string ⟨#[32]⟩] w K:=by
 obtain⟨a,c,m,l,u,d⟩:=(OwnV.vals h).shape;have k:(xs.map Value.string).map (λx=>[x])≠[]:=by intro e;have:=congrArg List.length e;simp only[X0,pR] at this;omega
 obtain⟨b,o,r,_,t,f⟩:=d k;simp only[X0] at m f l;subst r;subst m;refine⟨rK,?_⟩;refine(Any.strings_Join_many YtolbhkcajhlllaaGreatDoor.joinL joinX b o c xs ⟨#[32]⟩ w (λj x g=>?_) t n oM l (by rw[show(⟨#[32]⟩:ByteArray).data.toList=[32] from rfl,qz0];omega)).mono ?_
 ·have i:j<xs.length:=(Gn.1 g).1;have:=f j i 0 (.string x) (by
   rw[q0,Gv,Gv,g];rfl)
  rw[yn,pL,GO] at this;exact this
 ·rintro e w' ⟨rfl,p⟩;refine q w' _ (zJ0 p) ?_;rw[show(⟨#[32]⟩:ByteArray).data.toList=[32] from rfl,qz0]
end
end Go.Proofs.YtolbhkcajhlllaaGreatDoor
namespace Go.Proofs.YtolbhkcajhlllaaGreatDoor
open Go Go.Vc Go.Proofs
section
variable {w:World} {K:oK} {F X Q:Nat->Prop}
theorem JE {s:ByteArray} {m:Value} (c:∀w',Ext w w'->K (.string s) w'):vcall yq #[.agg ⟨[.string s,m]⟩] w K:=by
 refine zf {} Tryz.func354 ?_;refine zk λb w1 d he e a=>?_;simp(disch:=first|(simp only[push_cast])|omega) only[push_cast,a.ld0];exact c w1 he
theorem word_spec {o:Int} {v:Value} (k:KindR o v) (l:(1<=o/\o<=17)\/(22<=o/\o<=27)) (a:o≠24) (j:∀w' s,Ext w w'->s.data.toList=M.wordL o->K (.string s) w'):vinvoke v Z7 #[] w K:=by
 obtain⟨s,m,r,rfl,e,g,i⟩:=k.word;have hs:s.data.toList=M.wordL o:=by
  rcases i with h|h|h|h
  ·omega
  ·omega
  ·exact absurd h a
  ·exact h
 have fin:vcall yq #[.agg ⟨[.string s,nI m]⟩] w K:=JE λw' he=>j w' s he hs;unfold kTy;by_cases c:24<=o
 ·obtain⟨f,rfl,_⟩:=g c
  repeat rw[if_neg oM]
  exact zM (ZJ _ _ _) fin
 ·have:=e oM;subst this;by_cases c1:o<=2
  ·rw[if_pos c1];exact zM (X3 _ _) fin
  rw[if_neg c1];by_cases c2:o<=13
  ·rw[if_pos c2];exact zM (Yu _ _) fin
  rw[if_neg c2];by_cases c3:o=14
  ·rw[if_pos c3];exact zM (Yr _ _) fin
  rw[if_neg c3];by_cases b:o<=17
  ·rw[if_pos b];exact zM (Yo _ _) fin
  rw[if_neg b,if_neg oM,if_neg oM];by_cases d:o=22
  ·rw[if_pos d];exact zM (Yl _ _) fin
  rw[if_neg d,if_pos oM];exact zM (X6 _ _) fin
theorem wordL_len (o:Int):(M.wordL o).length<=5:=by
 by_cases h:0<=o/\o<28
 ·have a:∀k:Fin 28,(M.wordL (k.1:Int)).length<=5:=(by decide+kernel);have:=a ⟨o.toNat,oM⟩;rwa[show((o.toNat:Nat):Int)=o by omega] at this
 ·unfold M.wordL
  repeat rw[if_neg oM]
  decide
theorem jE0 (wd n:Nat):(M.vecL wd n).length=wd+1:=by unfold M.vecL;simp
theorem kids_sum {f:M.Tm->Nat} {ks:List M.Tm} {g:M.Tm->List UInt8} (h:∀k,k∈ks->(g k).length+1<=f k):((ks.map g).flatMap (λx=>32::x)).length<=(ks.map f).sum:=by
 induction ks with
 |nil=>simp
 |cons k ks b=>
  have:=h k gj;have:=b λy a=>h y (gl _ a);simp only[Gz,List.flatMap_cons,V0,gz,List.sum_cons];omega
theorem text_len {ds:List M.Dcl} (i:M.declOk ds=true):∀t,M.sortM ds t≠ -1->(M.textL t).length+1<=20*M.sizeM t:=by
 refine M.Tm.ind λt n hs=>?_;obtain⟨h,v,u⟩:=M.right_op hs;rw[M.sizeM_eq,M.textL_eq];have e:((t.ks.map M.textL).flatMap (λx=>32::x)).length<=(t.ks.map λk=>20*M.sizeM k).sum:=kids_sum λk e=>n k e ((M.sort_parts hs).2.1 k e);have g:(t.ks.map λk=>20*M.sizeM k).sum=20*(t.ks.map M.sizeM).sum:=by
  generalize t.ks=l;induction l with
  |nil=>rfl
  |cons k l ihl=>simp only[Gz,List.sum_cons,ihl];omega
 unfold M.textF;by_cases c:t.op=20
 ·rw[if_pos c,jE0];have:=M.vok_iff.1 (M.vec_ok hs c);omega
 rw[if_neg c];by_cases c:t.op=21
 ·rw[if_pos c];have j:=M.name_found hs c;have m:(M.findD ds t.s).toNat<ds.length:=by have:=(M.findD_lt ds t.s).2;omega
  have d:=(M.decl_iff.1 i).2.1 _ m;unfold M.dclOk at d;rw[M.findD_get j] at d;simp only[gh,decide_eq_true_eq,M.nameOk] at d;obtain⟨⟨⟨⟨⟨⟨o,p⟩,q⟩,r⟩,_⟩,_⟩,_⟩:=d;have:t.s.data.toList.length=t.s.size:=by rw[po];rfl
  omega
 rw[if_neg c];by_cases c:t.op=24
 ·rw[if_pos c];simp;omega
 rw[if_neg c];have:=wordL_len t.op;have f:(if t.op=22 then(32:UInt8)::(M.digL t.a++32::M.digL t.b) else[]).length<=4:=by
  split
  ·simp[M.digL]
  ·simp
 simp only[gz,V0,pR];omega
theorem Itoa_int {k:Int} (b:0<=k) (c:k<10) (a:∀s:ByteArray,s.data.toList=M.digL k->K (.string s) w):vcall j0 #[nI k] w K:=by
 obtain⟨j,rfl⟩:∃j:Nat,k=j:=⟨k.toNat,oM⟩;exact Itoa_spec oM a
theorem textOf_spec {ds:List M.Dcl} (hd:M.declOk ds=true) {kb:Nat}:∀(t:M.Tm),M.sortM ds t≠ -1->M.sizeM t<=1000->∀{w:World} {K:oK} {F:Nat->Prop} {tv:Value},KindsR w kb->TermR F w tv t->
  (∀w' s,Ext w w'->s.data.toList=M.textL t->K (.string s) w')->vcall Z2 #[.map (some kb),tv] w K:=by
 refine M.Tm.ind λt ih hs bf w K F tv hk ht n=>?_;obtain⟨ac,hp,ho⟩:=M.right_op hs;have hlen:=text_len hd t hs;obtain⟨kv,rfl,ae⟩:=ht;apply Up;refine zk λb1 w1 b4 f bh m=>?_;have Y:=hk.ext f;have H:=ae.ext f;rw[M.textL_eq] at n hlen;unfold M.textF at n hlen;simp(disch:=first|(simp only[push_cast])|omega) only[push_cast,m.ld0,m.ld1,m.ld2,m.ld3];refine zb (λc=>?_) (λc=>?_)
 ·rw[if_pos c] at n;have hv:=M.vec_ok hs c;have e:yj zg [(0,nI t.a),(1,nI t.b)] w1=λK=>K (xS t.a t.b) w1:=by
   funext K;exact zR Qy (us:=[[nI t.a],[nI t.b]]) rfl rfl
  try rw[e]
  exact VecText_spec hv λw2 s B ak=>n w2 s (f.trans B) ak
 rw[if_neg c] at n hlen;refine zb (λc=>?_) (λc=>?_)
 ·rw[if_pos c] at n;exact n w1 _ f rfl
 rw[if_neg c] at n hlen;refine zb (λc=>?_) (λc=>?_)
 ·rw[if_pos c] at n;exact n w1 _ f rfl
 rw[if_neg c] at n hlen;have ai:(1<=t.op/\t.op<=17)\/(22<=t.op/\t.op<=27):=oM
 refine K4 (ok:=false) Y (by rw[ac];omega) λbm af=>?_;simp only[gZ,if_false];refine word_spec af ai oM λw2 ws B a6=>?_;refine zC kI rK kH rfl rfl λb3 w3 b6 W bi a9=>?_;have O:=B.trans W;have s1:=f.size;have s2:=B.size;have k:=m.ext O;have a2:OwnV yE w3 (.slice (some ⟨b3,0,none⟩) 1 1) ([ws].map .string):=Blk.own1 (t:=yE) (cs:=[Value.string ws]) (by rw[xr0];exact a9) (gJ _) rfl rfl oM;have be:1<=t.ks.length:=by
  have:=M.node_arity ho oM;omega
 have bc:t.ks.length<=3:=by
  have h:M.arity t.op<=3:=by
   unfold M.arity;repeat' split
   all_goals omega
  omega
 refine zo (λu w'=> ∃(wv:Value) (wl:List ByteArray),u=[wv]/\Ext w1 w'/\OwnV yE w' wv (wl.map .string)/\(∀b,wv.ownBlock=some b->w1.heap.size<=b)/\wl.length<=3/\wl.map (·.data.toList)=M.wordL t.op::(if t.op=22 then[M.digL t.a,M.digL t.b] else[])) ?_ ?_
 ·intro J hJ;simp(disch:=first|(simp only[push_cast])|omega) only[push_cast,k.ld0,k.ld1,k.ld2];refine zb (λz=>?_) (λz=>?_)
  ·obtain⟨b2,ba,b0⟩:=M.cut_ab hd hs z;refine zd λw4 X _=>?_;have p:=k.ext X;simp(disch:=first|(simp only[push_cast])|omega) only[push_cast,p.ld1,p.ld2,true_and];refine Itoa_int oM oM λsa am=>?_;simp(disch:=first|(simp only[push_cast])|omega) only[push_cast,p.ld2,true_and,and_self];refine Itoa_int oM oM λsb an=>?_;refine vbuildS_row1 (xs:=[.string sa,.string sb]) kI VN kH (λx a8=>by
    simp only[gd,gn,or_false] at a8;rcases a8 with rfl|rfl<;>rfl) (by simp) λb5 w5 b8 q bj S=>?_
   have ap:Vals (· =b5) w5 (.slice (some ⟨b5,0,none⟩) 2 2) [.string sa,.string sb]:=S.sl1 rfl (by simp);have Q:=X.trans q;refine(a2.ext Q).app zt0 ap (λu hu=>by
    simp only[gd,gn,or_false] at hu;rcases hu with rfl|rfl<;>rfl) (by simp) (by simp) λr6 w6 G al E=>?_
   have z35:=Q.size;have z3:=W.size;refine hJ _ _ ⟨r6,[ws,sa,sb],rfl,Ext.then (O.trans Q) al λb A=>by have e:b3=b:=K3 A;omega,by simpa using G,λb A=>(E b A).elim (λh=>by have e:b3=b:=K3 h;omega) λh=>oM,by simp,?_⟩;rw[if_pos z];simp[a6,am,an]
  ·exact hJ _ _ ⟨_,[ws],rfl,O,a2,λb A=>by have e:b3=b:=K3 A;omega,by simp,by rw[if_neg z];simp[a6]⟩
 rintro _ _ w5 ⟨wv,wl,rfl,q,aj,ah,bg,a7⟩;have S:=m.ext q;have Z:=H.ext q;simp(disch:=first|(simp only[push_cast])|omega) only[push_cast,S.ld4,Z.len];refine vloop_up t.ks.length (λi u w'=> ∃(r:Value) (kl:List ByteArray),u=[r,nI i]/\Ext w1 w'/\OwnV yE w' r ((wl++kl).map .string)/\(∀b,r.ownBlock=some b->w1.heap.size<=b)/\kl.map (·.data.toList)=(t.ks.take i).map M.textL) ⟨wv,[],rfl,q,by simpa using aj,ah,rfl⟩ ?_;rintro i _ g w6 C hi ⟨r,kl,rfl,v,G,E,l⟩ hC;have I:=H.ext v;have av:kl.length=i:=by
  have:=congrArg List.length l;simp only[X0,gg] at this;omega
 simp only[push_cast];refine zb (λa=>?_) (λa=>?_)
 ·have d:i<t.ks.length:=oM;simp(disch:=first|(simp only[push_cast])|omega) only[push_cast,I.iaddr];refine I.load zc d λx hx=>?_;obtain⟨cx,rfl,T⟩:=hx.cells;refine zi zp λb7 w7 b9 D bk aa=>?_;refine stTerm aa rfl (T.ext D) λw8 aq bl ab=>?_;have R:Ext w6 w8:=Ext.then D aq λy hy=>by subst hy;omega
  have v8:=T.ext R;simp only[push_cast,ab.ldAgg (t:=za) (by rw[zV T];exact zc)];have L:t.ks.getD i default∈t.ks:=M.getD_mem d _;have ao:M.sizeM (t.ks.getD i default)<=1000:=by
   have h1:=M.szT_succ d;have h2:=M.szT_mono (ks:=t.ks) (i:=i+1) (j:=t.ks.length) d (gy _);have h3:=M.szT_all t;omega
  refine ih _ L ((M.sort_parts hs).2.1 _ L) ao (Y.ext (v.trans R)) v8.term λw9 sk ad a5=>?_;refine zC kI rK kH rfl rfl λaz w10 au V ax U=>?_;have o:=R.trans (ad.trans V);have bd:((wl++kl).map Value.string).length<=6:=by rw[X0,V0];omega
  refine(G.ext o).app1 zt0 U rfl oM oM λar bn a1 a3 a0=>?_;have z6:=v.size;have ay:=o.size
  try simp(disch:=omega) only[push_cast,zj]
  refine hC d _ _ ⟨ar,kl++[sk],by simp<;>exact⟨rfl,rfl⟩,Ext.then (v.trans o) a3 λb A=>E b A,?_,λb A=>(a0 b A).elim (E b) λh=>oM,?_⟩
  ·rw[<-Ga,gw];exact a1
  ·rw[M.take_add d default,gw,gw,l];simp[a5]
 ·have d:i=t.ks.length:=oM;subst d;rw[gx] at l;have N:joinB ((wl++kl).map (·.data.toList))=M.wordL t.op++((if t.op=22 then(32:UInt8)::(M.digL t.a++32::M.digL t.b) else[])++(t.ks.map M.textL).flatMap λx=>32::x):=by
   rw[gw,a7,l];show joinB (M.wordL t.op::((if t.op=22 then[M.digL t.a,M.digL t.b] else[])++t.ks.map M.textL))=_;rw[show ∀(x:List UInt8) xs,joinB (x::xs)=x++xs.flatMap (λy=>32::y) from λ_ _=>rfl,List.flatMap_append];split<;>simp
  have ag:2<=(wl++kl).length:=by
   have h1:1<=wl.length:=by
    have:=congrArg List.length a7;simp only[X0,gz] at this;omega
   rw[V0];omega
  simp only[gz,V0,pR] at hlen;have bb:(joinB ((wl++kl).map (·.data.toList))).length<=20000:=by
   rw[N];simp only[V0];omega
  refine Join_spec G ag (by rw[V0];omega) oM λw7 sj D a4=>?_;have aw:sj.size<=20000:=by
   have:sj.data.toList.length=sj.size:=by rw[po];rfl
   rw[a4] at this;omega
  have h1:(⟨#[40]⟩:ByteArray).size=1:=(by decide+kernel);have h3:(⟨#[41]⟩:ByteArray).size=1:=(by decide+kernel);have h2:((⟨#[40]⟩:ByteArray)++sj).size=1+sj.size:=(by rw[ByteArray.size_append,h1]);rw[Jn oM,Jn oM];refine n w7 _ (f.trans (v.trans D)) ?_;rw[ByteArray.data_append,ByteArray.data_append,Pp,Pp,a4,N];simp
end
end Go.Proofs.YtolbhkcajhlllaaGreatDoor
section
namespace Go.M
theorem node_right {ds:List Dcl} {t:Tm} (l:declOk ds=true) (hs:sortM ds t≠ -1) {L:Nat->Nat} (n:∀i,i<t.ks.length->L i=lenS (sortM ds (kid t i))):
  (1<=t.op->t.op<=2->t.ks.length=1/\1<=L 0/\L 0<=4)/\(3<=t.op->t.op<=13->t.ks.length=2/\L 0=L 1/\1<=L 0/\L 0<=4)/\(t.op=14->t.ks.length=2/\1<=L 0/\1<=L 1/\L 0+L 1<=4)/\
  (15<=t.op->t.op<=17->t.ks.length=2/\L 0=L 1/\1<=L 0/\L 0<=4)/\(t.op=22->t.ks.length=1/\0<=t.b/\t.b<=t.a/\t.a<L 0/\L 0<=4)/\(t.op=23->t.ks.length=3/\L 0=1/\L 1=L 2/\1<=L 1/\L 1<=4)/\
  (25<=t.op->(t.ks.length=if t.op=25 then 1 else 2)/\∀i,i<t.ks.length->L i=1):=by
 obtain⟨j,m,g⟩:=sort_parts hs;simp only[formed,gh,decide_eq_true_eq] at j;obtain⟨f,q⟩:=j;have k:=arity_ops (o:=t.op) oM;have s:∀i,i<t.ks.length->(t.ks.map (sortM ds)).getD i 0=sortM ds (kid t i):=λi hi=>getD_map _ hi _ _;have d:∀i,-1<=sortM ds (kid t i)/\sortM ds (kid t i)<=4:=λi=>sort_range l _;rw[g] at hs;unfold sortK at hs;unfold arity at f;have u:=d 0;have v:=d 1;have w:=d 2;refine⟨λa b=>?_,λa b=>?_,λa=>?_,λa b=>?_,λa=>?_,λa=>?_,λa=>?_⟩
 ·grind [lenS]
 ·have e:t.ks.length=2:=oM
  grind [lenS]
 ·have e:t.ks.length=2:=oM
  grind [lenS]
 ·have e:t.ks.length=2:=oM
  grind [lenS]
 ·grind [lenS]
 ·have e:t.ks.length=3:=oM
  grind [lenS]
 ·have e:t.ks.length=if t.op=25 then 1 else 2:=by
   grind
  rw[if_neg oM,if_neg oM,if_pos oM] at hs;by_cases c:(t.ks.map (sortM ds)).any (λx=>decide (x≠0))=true
  ·grind
  ·refine⟨e,λi hi=>?_⟩;have h:=n i hi;have r:sortM ds (kid t i)=0:=Gq λp=>c (G7.2 ⟨sortM ds (kid t i),gp.2 ⟨_,getD_mem hi default,rfl⟩,by grind⟩);rw[r] at h;exact h
end Go.M
end
namespace Go.Proofs.YtolbhkcajhlllaaGreatDoor
open Go Go.Vc Go.Proofs
section
variable {w:World} {K:oK} {F F' X Fk Q:Nat->Prop} {n bc bb:Nat} {gs:M.Gs} {v:Value} {ar ab:Addr}
theorem XT {a:TypeId} {v:Value} (b:concB a=true) {xT:TypeId}:zU0 (.iface a v) xT a true w K=K (.tuple #[v,.bool true]) w:=by
 refine y7 ?_;unfold concB at b;cases hu:P.underlying a with
 |none=>rw[hu] at b;cases b
 |some d=>
  rw[hu] at b;cases d<;>first|(cases b;done)|simp[Instr.typeAssert,run_underlying hu]
theorem xP {a t:TypeId} {v z:Value} (b:concB a=true) (e:yl a z) (c:t≠a) {xT:TypeId}:zU0 (.iface t v) xT a true w K=K (.tuple #[z,.bool false]) w:=by
 refine y7 ?_;unfold concB at b;cases hu:P.underlying a with
 |none=>rw[hu] at b;cases b
 |some d=>
  rw[hu] at b;cases d<;>first|(cases b;done)|simp[Instr.typeAssert,run_underlying hu,c,Y2 e,Result.andThen]
structure KidsR (Fk X F:Nat->Prop) (w:World) (kv:Value) (rs:List (List Int)):Prop where
 at_:∃vs:List Value,Vals Fk w kv vs/\vs.length=rs.length/\∀i,i<rs.length->Ints (Off X F) w (vs.getD i undef) (rs.getD i [])
 sm:∀r,r∈rs->SmL r
theorem KidsR.ext {w':World} {kv:Value} {rs:List (List Int)} (h:KidsR Fk X F w kv rs) (he:Ext w w'):KidsR Fk X F w' kv rs:=by
 obtain⟨vs,a,b,c⟩:=h.at_;exact⟨⟨vs,a.ext he,b,λi hi=>(c i hi).ext he⟩,h.sm⟩
theorem KidsR.sml {kv:Value} {rs:List (List Int)} (h:KidsR Fk X F w kv rs) {i:Nat} (hi:i<rs.length):SmL (rs.getD i []):=h.sm _ (M.getD_mem hi [])
theorem KidsR.vals {kv:Value} {rs:List (List Int)} (h:KidsR Fk X F w kv rs):∃vs:List Value,(∀(w':World),Ext w w'->∀i,i<rs.length->∀K:oK,zX zI kv (nI i) w' K=K (.pointer (some (eaddr kv 1 i))) w'/\zt ze (.pointer (some (eaddr kv 1 i))) w' K=K (vs.getD i undef) w')/\
  ∀i,i<rs.length->Ints (Off X F) w (vs.getD i undef) (rs.getD i []):=by
 obtain⟨vs,b,d,c⟩:=h.at_;refine⟨vs,λw' he i hi K=>?_,c⟩;have a:=b.ext he;refine⟨?_,a.load Kz oM⟩;rw[a.iaddr Km oM oM,gm]
theorem stKind {b:Nat} {x y:Value} {t0 tk:TypeId} {s:ByteArray} {m:Int} (h:Blk w b [x,y] t0) (e:aggB tk 2=true) (d:∀w',Same (· =b) w w'->K undef w'):zT tk (oP b 0) (.agg ⟨[.string s,nI m]⟩) w K:=
 h.stAgg rfl e (by intro v a;simp only[gd,gn,or_false] at a;rcases a with rfl|rfl<;>rfl) λw' c _ _=>d w' c
theorem fixB_at {wd nn:Int} {j:Nat} (a:(j:Int)<wd):(M.fixB wd nn).getD j 0=if nn.toNat/2^j%2=1 then 1 else-1:=by
 unfold M.fixB;rw[q0,Gv,pQ oM];rfl
theorem fix_step {wd nn:Int} {j:Nat} (a:(j:Int)<wd):((M.fixB wd nn).take j++List.replicate (wd.toNat-j) (-1)).set j (if nn.toNat/2^j%2=1 then 1 else-1)=(M.fixB wd nn).take (j+1)++List.replicate (wd.toNat-(j+1)) (-1):=by
 have b:((M.fixB wd nn).take j).length=j:=by rw[gg,M.fixB_len];omega
 rw[pD _ _ oM,b,GF,show wd.toNat-j=(wd.toNat-(j+1))+1 by omega,Pq,pa,M.take_add (by rw[M.fixB_len];omega) 0,fixB_at a,Ga];rfl
theorem SmL.fix {wd nn:Int}:SmL (M.fixB wd nn):=λx a=>by
 unfold M.fixB at a;obtain⟨j,_,rfl⟩:=gp.1 a;split<;>decide
theorem SmL.name {ds:List M.Dcl} {k:Nat} (a:M.declOk ds=true) (b:k<ds.length):SmL (M.nameB ds k):=λx c=>by
 have:=M.name_has (m:=9) a b (by have:=(M.decl_iff.1 a).2.2;omega) x c;obtain⟨d,e,f⟩:=this;unfold Sm;omega
def Zh0 (n bb:Nat) (ar ab:Addr) (X F:Nat->Prop) (w:World) (gs:M.Gs) (ds:List M.Dcl) (t:M.Tm) (rs:List (List Int)) (K:oK):Prop:=
 ∀w' F' st' r zs,BdR n bb ar ab X F' w' st'->Mv F w F' w'->Ints (Off X F') w' r zs->SmL zs->M.Bd.Out n (M.nodeB ds t rs) (some gs) st' zs->K r w'
section
variable {bl kb m:Nat} {dv tv kv:Value} {ds:List M.Dcl} {t:M.Tm} {rs:List (List Int)} {G Gt:Nat->Prop}
theorem root_spec (hb:BdR n bb ar ab X F w (some gs)) (hd:M.declOk ds=true) (hs:M.sortM ds t≠ -1) (hB:Blk w bl [oP bb 0,dv,.map (some kb),.map (some m)] yi) (bv:DclsR G w dv ds) (c0:KindsR w kb) (ht:TermR Gt w tv t)
  (o:KidsR Fk X F w kv rs) (cr:rs.length=t.ks.length) (hlen:∀i,i<t.ks.length->(rs.getD i []).length=M.lenS (M.sortM ds (M.kid t i)))
  (hK:Zh0 n bb ar ab X F w gs ds t rs K):vcall X2 #[oP bl 0,tv,kv] w K:=by
 obtain⟨tk,rfl,cq⟩:=ht;refine zf {ord:=[oz 1 (oR 7) [(0,[4,5]),(1,[4,5]),(2,[4,5]),(3,[4,5])],oz 17 (oR 11) [(0,[3,4,5,6,7]),(1,[3,4,5,6,7]),(2,[3,4,5,6,7]),(3,[5,6,7]),(4,[5,6,7])],(20,[0,1,2,3,4,5,6,7,8,9,10,11,12,13,14,15,16],[(0,[1,2,3,15,16]),(1,[2,3,15,16]),(2,[3,15,16]),(3,[15,16]),(4,[5,6,7,8,15,16]),(5,[6,7,8,15,16]),(6,[7,8,15,16]),(7,[8,15,16]),(8,[15,16]),(9,[10,11,15,16]),(10,[11,15,16]),(11,[15,16]),(12,[13,14,15,16]),(13,[14,15,16]),(14,[15,16]),(15,[16])]),oz 23 (oR 11) [(0,[4,5,6,7,8]),(1,[4,5,6,7,8]),(2,[4,5,6,7,8]),(3,[4,5,6,7,8]),(4,[6,7,8]),(5,[6,7,8])],oz 26 (oR 14) [(0,[4,5,6,7,8,9,10,11]),(1,[4,5,6,7,8,9,10,11]),(2,[4,5,6,7,8,9,10,11]),(3,[4,5,6,7,8,9,10,11]),(4,[6,7,8,9,10,11]),(5,[6,7,8,9,10,11]),(6,[9,10,11]),(7,[9,10,11]),(8,[9,10,11])],oz 29 (oR 15) [(0,[4,5,6,7,8,9,10,11]),(1,[4,5,6,7,8,9,10,11]),(2,[4,5,6,7,8,9,10,11]),(3,[4,5,6,7,8,9,10,11]),(4,[6,7,8,9,10,11]),(5,[6,7,8,9,10,11]),(6,[9,10,11]),(7,[9,10,11]),(8,[9,10,11])]],loops:=[(6,[32])]} Tryz.func198 ?_;obtain⟨bs,hp,cf⟩:=M.right_op hs;obtain⟨q1,q2,q3,q4,q5,q6,q7⟩:=M.node_right hd hs (L:=λi=>(rs.getD i []).length) hlen;refine zk λb1 w1 ck bw ct bo=>?_;refine zd λw2 ba _=>?_;have e2:=bw.trans ba;have Z:=hB.ext e2;have U:=bo.ext ba;have z:=hb.ext e2;have b8:=bv.ext e2;simp(disch:=first|(simp only[push_cast])|omega) only[push_cast,Z.ld2,U.ld0,true_and];refine K4 (ok:=false) (c0.ext e2) (by rw[bs];omega) λcu c1=>⟨rfl,?_⟩;obtain⟨s,mm,r,bd,a7,c9,_⟩:=c1.word;simp only[gZ,if_false];rw[bd];have q:∀w3,Ext w2 w3->Zh0 n bb ar ab X F w3 gs ds t rs K:=λw3 I w' F' st' r' zs h1 h2 h3 h4 h5=>hK w' F' st' r' zs h1 ((Mv.refl.ext (e2.trans I)).trans h2) h3 h4 h5;obtain⟨vs,T,S⟩:=(o.ext e2).vals;unfold Zh0 M.nodeB at q;by_cases ae:t.op=20
 ·have D:kTy t.op=zO:=by rw[ae];rfl
  have:=a7 oM;subst this;rw[D,XT yA];simp only[push_cast];rw[if_pos ae] at q;refine zi yH λb3 w3 a9 I ac N=>?_;refine stKind N V6 λw4 O=>?_;have p:Ext w2 w4:=Ext.then I O λy hy=>by subst hy;omega
  have ah:=U.ext p;have hv:=M.vec_ok hs ae;obtain⟨v1,v2,v3,v4⟩:=M.vok_iff.1 hv;have cg:(2:Int)^t.a.toNat<=16:=by
   have:=pow4 (k:=t.a.toNat) oM oM;have e:=JD t.a.toNat;omega
  simp(disch:=first|(simp only[push_cast])|omega) only[push_cast,ah.ld1];rw[show t.a=((t.a.toNat:Nat):Int) by omega];refine offs_spec oM λl ov J ao an=>?_;have d:=p.trans J;have ax:∀(w':World) (K:oK),vbi .len [ze] zE [ov] w' K=K (nI t.a.toNat) w':=λw' K=>(by rw[ao.ints.len yQ,M.offsL_len]);rw[ax];refine vloop_up t.a.toNat (λj u w'=>u=[nI j]/\Ext w2 w'/\OwnI ze w' ov ((M.fixB t.a t.b).take j++List.replicate (t.a.toNat-j) (-1))) ⟨rfl,d,ao⟩ ?_;rintro j _ g w6 C hj ⟨rfl,V,E⟩ hC;have z25:=d.size;have z24:=p.size;simp only[push_cast];refine zb (λc4=>?_) (λcn=>?_)
  ·have br:=U.ext V;simp(disch:=first|(simp only[push_cast])|omega) only[push_cast,br.ld2];rw[qy yA0 (show xD0 QC .u64 by unfold xD0;kernel_rfl),show t.b=((t.b.toNat:Nat):Int) by omega,wrapU oM];refine bit_spec oM oM ?_;have be:((M.fixB t.a t.b).take j++List.replicate (t.a.toNat-j) (-1)).length=t.a.toNat:=by
    rw[V0,gg,M.fixB_len,gF];omega
   refine zb (λc=>?_) (λc=>?_)
   ·rw[E.ints.iaddr yF oM (by rw[be];omega),gm];refine E.st y4 (by rw[be];omega) λw7 bf ca cd=>?_;have aa:=fix_step (wd:=t.a) (nn:=t.b) (j:=j) oM;rw[if_pos c] at aa;rw[aa] at bf
    try simp(disch:=omega) only[push_cast,zj]
    exact hC oM _ _ ⟨by simp,Ext.then V ca λb hb=>by have:=an b hb;omega,bf⟩
   ·have aa:=fix_step (wd:=t.a) (nn:=t.b) (j:=j) oM;rw[if_neg c] at aa;have az:((M.fixB t.a t.b).take j++List.replicate (t.a.toNat-j) (-1)).set j (-1)=(M.fixB t.a t.b).take j++List.replicate (t.a.toNat-j) (-1):=by
     have hl:((M.fixB t.a t.b).take j).length=j:=by rw[gg,M.fixB_len];omega
     rw[pD _ _ oM,hl,GF,show t.a.toNat-j=(t.a.toNat-(j+1))+1 by omega,Pq,pa]
    rw[az] at aa;rw[aa] at E
    try simp(disch:=omega) only[push_cast,zj]
    exact hC oM _ _ ⟨by simp,V,E⟩
  ·have bz:j=t.a.toNat:=oM;rw[bz,GF,pP,gD,gC (by rw[M.fixB_len];exact gy _)] at E;exact q w6 V w6 F (some gs) ov _ (z.ext V) Mv.refl (NewI.of (w:=w2) E (λb hb=>by have:=an b hb;omega) z.lt).ints SmL.fix (M.Bd.Out.ret _ _)
 rw[if_neg ae] at q;by_cases af:t.op=21
 ·have D:kTy t.op=zF:=by rw[af];rfl
  have:=a7 oM;subst this;rw[D];simp only[xP yA yH (show zF≠zO by decide),XT yB,push_cast];rw[if_pos af] at q;refine zi yM λb3 w3 a9 I ac N=>?_;refine stKind N Kb λw4 O=>?_;have p:Ext w2 w4:=Ext.then I O λy hy=>by subst hy;omega
  have ah:=U.ext p;have hf:=M.name_found hs af;have c4:=M.findD_lt ds t.s;simp(disch:=first|(simp only[push_cast])|omega) only[push_cast,ah.ld3];refine inputs_spec (Z.ext p) (b8.ext p) hd hf λl r5 J ao an=>?_;have z24:=p.size;exact q l (p.trans J) l F (some gs) r5 _ (z.ext (p.trans J)) Mv.refl (NewI.of (w:=w2) ao (λb hb=>by have:=an b hb;omega) z.lt).ints (SmL.name hd oM) (M.Bd.Out.ret _ _)
 rw[if_neg af] at q;by_cases bn:24<=t.op
 ·have D:kTy t.op=zx:=by
   unfold kTy
   repeat rw[if_neg oM]
  obtain⟨f,rfl,c8⟩:=c9 bn;rw[D];simp only[xP yA yH (show zx≠zO by decide),xP yB yM (show zx≠zF by decide),xP yW xi (show zx≠zK by decide),xP xy xL (show zx≠zU by decide),xP xN ql (show zx≠zP by decide),xP qe jF (show zx≠zH by decide),xP qd jE (show zx≠zL by decide),xP k6 Zo (show zx≠zG by decide),XT Zg,push_cast];refine zi QP λb3 w3 a9 I ac N=>?_;refine N.stAgg (cs':=[.string s,nI mm,f]) rfl ZP (by intro v hv;simp only[gd,gn,or_false] at hv;rcases hv with rfl|rfl|rfl<;>first|rfl|exact c8) λw4 O _ bp=>?_;have p:Ext w2 w4:=Ext.then I O λy hy=>by subst hy;omega
  have ah:=U.ext p;rw[bp.ldAgg (t:=zx) ZP,ah.ldAgg (t:=za) zc];refine zf {ord:=[oz 5 (oR 16) [(0,[4,5,6,7,8,9,10,11,12,13]),(1,[4,5,6,7,8,9,10,11,12,13]),(2,[4,5,6,7,8,9,10,11,12,13]),(3,[4,5,6,7,8,9,10,11,12,13]),(4,[9,10,11,12,13]),(5,[9,10,11,12,13]),(6,[9,10,11,12,13]),(7,[9,10,11,12,13]),(8,[9,10,11,12,13])],oz 7 (oR 16) [(0,[4,5,6,7,8,9,10,11,12,13]),(1,[4,5,6,7,8,9,10,11,12,13]),(2,[4,5,6,7,8,9,10,11,12,13]),(3,[4,5,6,7,8,9,10,11,12,13]),(4,[9,10,11,12,13]),(5,[9,10,11,12,13]),(6,[9,10,11,12,13]),(7,[9,10,11,12,13]),(8,[9,10,11,12,13])]]} Tryz.func239 ?_;refine zk λb6 w6 cl V ad ch=>?_;refine zk λb7 w7 cm bx cd bq=>?_;have W:Ext w2 w7:=p.trans (V.trans bx);simp(disch:=first|(simp only[push_cast])|omega) only[push_cast,bq.ld0];have fin:∀(Q:World) (F8:Nat->Prop) (ap:Option M.Gs) (x:Int),BdR n bb ar ab X F8 Q ap->Mv F w2 F8 Q->Sm x->M.Bd.Out n (M.nodeB ds t rs) (some gs) ap [x]->vbuildS ze 1 [(0,nI x)] Q K:=λQ F8 ap x h8 c5 cc c7=>by
   refine zC yy y4 ye rfl rfl λb9 w9 bt ai ce au=>?_;have a6:OwnI ze w9 (.slice (some ⟨b9,0,none⟩) 1 1) [x]:=Blk.own1 (t:=ze) (cs:=[nI x]) (by rw[yJ];exact au) (gJ _) rfl rfl oM;exact hK w9 F8 ap _ [x] (h8.ext ai) (((Mv.refl.ext e2).trans c5).ext ai) (NewI.of (w:=Q) a6 (λb hb=>by have e:b9=b:=K3 hb;omega) h8.lt).ints (SmL.one cc) c7
  unfold M.nodeB at fin;rw[if_neg ae,if_neg af] at fin;by_cases c:t.op=24
  ·rw[if_pos c] at fin;rw[decide_eq_false oM,decide_eq_false oM,decide_eq_false oM];simp only[push_cast];exact fin w7 F (some gs) 1 (z.ext W) (Mv.refl.ext W) dC (M.Bd.Out.ret _ _)
  rw[if_neg c] at fin;obtain⟨aw,b5⟩:=q7 oM;have co:1<=t.ks.length:=(by split at aw<;>omega);have ci:=b5 0 oM;by_cases ag:t.op=25
  ·rw[if_pos ag] at fin;rw[decide_eq_true ag];simp only[push_cast];have A0:∀K:oK,zX zI kv (nI 0) w7 K=K (.pointer (some (eaddr kv 1 0))) w7:=λK=>(T w7 W 0 oM K).1;have B0:∀K:oK,zt ze (.pointer (some (eaddr kv 1 0))) w7 K=K (vs.getD 0 undef) w7:=λK=>(T w7 W 0 oM K).2;have R:Ints (Off X F) w7 (vs.getD 0 undef) (rs.getD 0 []):=(S 0 oM).ext W;have S0:=(o.sml (i:=0) oM).get (i:=0) oM;unfold Sm at S0;simp(disch:=first|(simp only[push_cast])|omega) only[A0,B0,R.iaddr,R.load,push_cast,zj,gN];exact fin w7 F (some gs) _ (z.ext W) (Mv.refl.ext W) (by unfold Sm;rw[GZ];exact S0) (M.Bd.Out.ret _ _)
  rw[if_neg ag] at fin;rw[decide_eq_false ag];have cp:t.ks.length=2:=by rw[if_neg ag] at aw;exact aw
  have cj:=b5 1 oM;simp only[push_cast];have two:∀(Q:World),Ext w2 Q->(∀K:oK,zX zI kv (nI 0) Q K=K (.pointer (some (eaddr kv 1 0))) Q)/\(∀K:oK,zt ze (.pointer (some (eaddr kv 1 0))) Q K=K (vs.getD 0 undef) Q)/\(∀K:oK,zX zI kv (nI 1) Q K=K (.pointer (some (eaddr kv 1 1))) Q)/\(∀K:oK,zt ze (.pointer (some (eaddr kv 1 1))) Q K=K (vs.getD 1 undef) Q)/\Ints (Off X F) Q (vs.getD 0 undef) (rs.getD 0 [])/\Ints (Off X F) Q (vs.getD 1 undef) (rs.getD 1 []):=λQ e8=>
   ⟨λK=>(T Q e8 0 oM K).1,λK=>(T Q e8 0 oM K).2,λK=>(T Q e8 1 oM K).1,λK=>(T Q e8 1 oM K).2,(S 0 oM).ext e8,(S 1 oM).ext e8⟩
  have S0:=(o.sml (i:=0) oM).get (i:=0) oM;have S1:=(o.sml (i:=1) oM).get (i:=0) oM;by_cases am:t.op=26
  ·rw[if_pos am] at fin;rw[decide_eq_true am];simp only[push_cast];refine zd λQ av _=>?_;have Y:=W.trans av;have aq:=Z.ext Y;obtain⟨A0,B0,A1,B1,R,V1⟩:=two Q Y;simp(disch:=first|(simp only[push_cast])|omega) only[aq.ld0,A0,B0,A1,B1,R.iaddr,R.load,V1.iaddr,V1.load,push_cast,true_and];refine qJ (z.ext Y) S0 S1 λw9 F9 b2 x h9 ay b0 a6=>fin w9 F9 b2 x h9 ((Mv.refl.ext Y).trans ay) b0 ?_;exact xA a6 (M.Bd.Out.ret _ _)
  rw[if_neg am,if_pos oM] at fin;rw[decide_eq_false am,decide_eq_true (show t.op=27 by omega)];simp only[push_cast];refine zd λQ av _=>?_;have Y:=W.trans av;have aq:=Z.ext Y;obtain⟨A0,B0,A1,B1,R,V1⟩:=two Q Y;simp(disch:=first|(simp only[push_cast])|omega) only[aq.ld0,A0,B0,A1,B1,R.iaddr,R.load,V1.iaddr,V1.load,push_cast,true_and];exact bor_spec (z.ext Y) S0 S1 λw9 F9 b2 x h9 ay b0 a6=>fin w9 F9 b2 x h9 ((Mv.refl.ext Y).trans ay) b0 (M.Bd.Out.map _ a6)
 rw[if_neg oM,if_neg oM,if_neg oM,if_neg oM] at q;by_cases al:t.op=23
 ·have D:kTy t.op=zU:=by rw[al];rfl
  have:=a7 oM;subst this;obtain⟨k1,l0,l1,l2,l3⟩:=q6 al;rw[D];simp only[xP yA yH (show zU≠zO by decide),xP yB yM (show zU≠zF by decide),xP yW xi (show zU≠zK by decide),XT xy,push_cast];rw[if_pos al] at q;refine zi xL λb3 w3 a9 I ac N=>?_;refine stKind N WY λw4 O=>?_;have p:Ext w2 w4:=Ext.then I O λy hy=>by subst hy;omega
  refine zd λl J _=>?_;have d:=p.trans J;have B:=U.ext d;have a0:=Z.ext d;have H:=z.ext d;have A0:∀K:oK,zX zI kv (nI 0) l K=K (.pointer (some (eaddr kv 1 0))) l:=λK=>(T l d 0 oM K).1;have B0:∀K:oK,zt ze (.pointer (some (eaddr kv 1 0))) l K=K (vs.getD 0 undef) l:=λK=>(T l d 0 oM K).2;have R:Ints (Off X F) l (vs.getD 0 undef) (rs.getD 0 []):=(S 0 oM).ext d;have S0:=o.sml (i:=0) oM;have A1:∀K:oK,zX zI kv (nI 1) l K=K (.pointer (some (eaddr kv 1 1))) l:=λK=>(T l d 1 oM K).1;have B1:∀K:oK,zt ze (.pointer (some (eaddr kv 1 1))) l K=K (vs.getD 1 undef) l:=λK=>(T l d 1 oM K).2;have V1:Ints (Off X F) l (vs.getD 1 undef) (rs.getD 1 []):=(S 1 oM).ext d;have S1:=o.sml (i:=1) oM;have A2:∀K:oK,zX zI kv (nI 2) l K=K (.pointer (some (eaddr kv 1 2))) l:=λK=>(T l d 2 oM K).1;have B2:∀K:oK,zt ze (.pointer (some (eaddr kv 1 2))) l K=K (vs.getD 2 undef) l:=λK=>(T l d 2 oM K).2;have V2:Ints (Off X F) l (vs.getD 2 undef) (rs.getD 2 []):=(S 2 oM).ext d;have S2:=o.sml (i:=2) oM;simp(disch:=first|(simp only[push_cast])|omega) only[a0.ld0,B.ld0,B.ld1,B.ld2,A0,B0,R.iaddr,R.load,A1,B1,V1.iaddr,V1.load,A2,B2,V2.iaddr,V2.load,push_cast,zj,true_and];exact choose_spec H ⟨gs,rfl⟩ V1 V2 l1 oM S1 S2 (S0.get oM) λw6 F6 a8 r6 zs h6 a5 aj ad E=>q l d w6 F6 a8 r6 zs h6 a5 aj ad E
 rw[if_neg al] at q;by_cases ak:t.op=22
 ·have D:kTy t.op=zK:=by rw[ak];rfl
  have:=a7 oM;subst this;obtain⟨k1,l0,l1,l2,l3⟩:=q5 ak;rw[D];simp only[xP yA yH (show zK≠zO by decide),xP yB yM (show zK≠zF by decide),XT yW,push_cast];rw[if_pos ak] at q;refine zi xi λb3 w3 a9 I ac N=>?_;refine stKind N V7 λw4 O=>?_;have p:Ext w2 w4:=Ext.then I O λy hy=>by subst hy;omega
  refine zd λl J _=>?_;have d:=p.trans J;have B:=U.ext d;have a0:=Z.ext d;have H:=z.ext d;have A0:∀K:oK,zX zI kv (nI 0) l K=K (.pointer (some (eaddr kv 1 0))) l:=λK=>(T l d 0 oM K).1;have B0:∀K:oK,zt ze (.pointer (some (eaddr kv 1 0))) l K=K (vs.getD 0 undef) l:=λK=>(T l d 0 oM K).2;have R:Ints (Off X F) l (vs.getD 0 undef) (rs.getD 0 []):=(S 0 oM).ext d;have S0:=o.sml (i:=0) oM;simp(disch:=first|(simp only[push_cast])|omega) only[a0.ld0,B.ld0,B.ld1,B.ld2,A0,B0,R.iaddr,R.load,push_cast,zj,true_and];rw[show t.b=((t.b.toNat:Nat):Int) by omega,show t.a+1=((t.a.toNat+1:Nat):Int) by omega];refine Ints.cutLH R yF oM oM λcv bu=>⟨rfl,?_⟩;refine Clone_signal bu (by rw[gg,GU];omega) λw6 r6 V E c6=>?_;refine q l d w6 F (some gs) r6 _ (H.ext V) (Mv.refl.ext V) (NewI.of (w:=l) E c6 H.lt).ints (λx hx=>S0 x (GY (gQ hx))) ?_;rw[show t.a.toNat+1-t.b.toNat=(t.a-t.b+1).toNat by omega];exact M.Bd.Out.ret _ _
 rw[if_neg ak] at q;by_cases c2:t.op<=2
 ·have D:kTy t.op=zP:=by unfold kTy;rw[if_pos c2]
  have:=a7 oM;subst this;obtain⟨k1,l0,l1⟩:=q1 oM c2;rw[D];simp only[xP yA yH (show zP≠zO by decide),xP yB yM (show zP≠zF by decide),xP yW xi (show zP≠zK by decide),xP xy xL (show zP≠zU by decide),XT xN,push_cast];rw[if_pos c2] at q;refine zi ql λb3 w3 a9 I ac N=>?_;refine stKind N WX λw4 O=>?_;have p:Ext w2 w4:=Ext.then I O λy hy=>by subst hy;omega
  refine zd λl J _=>?_;have d:=p.trans J;have B:=U.ext d;have a0:=Z.ext d;have H:=z.ext d;have A0:∀K:oK,zX zI kv (nI 0) l K=K (.pointer (some (eaddr kv 1 0))) l:=λK=>(T l d 0 oM K).1;have B0:∀K:oK,zt ze (.pointer (some (eaddr kv 1 0))) l K=K (vs.getD 0 undef) l:=λK=>(T l d 0 oM K).2;have R:Ints (Off X F) l (vs.getD 0 undef) (rs.getD 0 []):=(S 0 oM).ext d;have S0:=o.sml (i:=0) oM;simp(disch:=first|(simp only[push_cast])|omega) only[a0.ld0,B.ld0,B.ld1,B.ld2,A0,B0,R.iaddr,R.load,push_cast,zj,true_and];exact un_spec H oM R oM S0 λw6 F6 a8 r6 zs h6 a5 aj ad E=>q l d w6 F6 a8 r6 zs h6 a5 aj ad E
 rw[if_neg c2] at q;by_cases b4:15<=t.op
 ·have D:kTy t.op=zG:=by unfold kTy;rw[if_neg oM,if_neg oM,if_neg oM,if_pos oM]
  have:=a7 oM;subst this;obtain⟨k1,l0,l1,l2⟩:=q4 b4 oM;rw[D];simp only[xP yA yH (show zG≠zO by decide),xP yB yM (show zG≠zF by decide),xP yW xi (show zG≠zK by decide),xP xy xL (show zG≠zU by decide),xP xN ql (show zG≠zP by decide),xP qe jF (show zG≠zH by decide),xP qd jE (show zG≠zL by decide),XT k6,push_cast];rw[if_pos oM] at q;refine zi Zo λb3 w3 a9 I ac N=>?_;refine stKind N V8 λw4 O=>?_;have p:Ext w2 w4:=Ext.then I O λy hy=>by subst hy;omega
  refine zd λl J _=>?_;have d:=p.trans J;have B:=U.ext d;have a0:=Z.ext d;have H:=z.ext d;have A0:∀K:oK,zX zI kv (nI 0) l K=K (.pointer (some (eaddr kv 1 0))) l:=λK=>(T l d 0 oM K).1;have B0:∀K:oK,zt ze (.pointer (some (eaddr kv 1 0))) l K=K (vs.getD 0 undef) l:=λK=>(T l d 0 oM K).2;have R:Ints (Off X F) l (vs.getD 0 undef) (rs.getD 0 []):=(S 0 oM).ext d;have S0:=o.sml (i:=0) oM;have A1:∀K:oK,zX zI kv (nI 1) l K=K (.pointer (some (eaddr kv 1 1))) l:=λK=>(T l d 1 oM K).1;have B1:∀K:oK,zt ze (.pointer (some (eaddr kv 1 1))) l K=K (vs.getD 1 undef) l:=λK=>(T l d 1 oM K).2;have V1:Ints (Off X F) l (vs.getD 1 undef) (rs.getD 1 []):=(S 1 oM).ext d;have S1:=o.sml (i:=1) oM;simp(disch:=first|(simp only[push_cast])|omega) only[a0.ld0,B.ld0,B.ld1,B.ld2,A0,B0,R.iaddr,R.load,A1,B1,V1.iaddr,V1.load,push_cast,zj,true_and];refine compare_spec H ⟨gs,rfl⟩ b4 oM R V1 l0 l1 oM S0 S1 λw6 F6 a8 x h6 a5 cb E=>?_;refine zC yy y4 ye rfl rfl λb9 w9 bt ai ce au=>?_;have a6:OwnI ze w9 (.slice (some ⟨b9,0,none⟩) 1 1) [x]:=Blk.own1 (t:=ze) (cs:=[nI x]) (by rw[yJ];exact au) (gJ _) rfl rfl oM;exact q l d w9 F6 a8 _ [x] (h6.ext ai) (a5.ext ai) (NewI.of (w:=w6) a6 (λb hb=>by have e:b9=b:=K3 hb;omega) h6.lt).ints (SmL.one cb) (M.Bd.Out.map _ E)
 rw[if_neg oM] at q;have bc:kTy t.op=zH\/kTy t.op=zL:=by
  unfold kTy;rw[if_neg c2];by_cases c:t.op<=13
  ·rw[if_pos c];exact .inl rfl
  ·rw[if_neg c,if_pos oM];exact .inr rfl
 have:=a7 oM;subst this;have c3:t.ks.length=2/\(t.op≠14->(rs.getD 0 []).length=(rs.getD 1 []).length)/\(t.op=14->(rs.getD 0 []).length+(rs.getD 1 []).length<=4)/\1<=(rs.getD 0 []).length/\(rs.getD 0 []).length<=4:=by
  by_cases c:t.op=14
  ·obtain⟨a1,a2,a3,a4⟩:=q3 c;exact⟨a1,λh=>absurd c h,λ_=>a4,a2,oM⟩
  ·obtain⟨a1,a2,a3,a4⟩:=q2 oM oM;exact⟨a1,λ_=>a2,λh=>absurd h c,a3,a4⟩
 obtain⟨k1,l0,l1,l2,l3⟩:=c3;have go:Zi w2 λA=>zt yC (oP bl 0) A λt107 bg=>bg=A/\zt zE (oP b1 0) A λt109 bh=>bh=A/\
   zX zI kv (nI 0) A λt111 bi=>bi=A/\zt ze t111 A λt112 bj=>bj=A/\zX zI kv (nI 1) A λt114 bk=>bk=A/\
   zt ze t114 A λt115 bm=>bm=A/\vcall ko #[t107,t109,t112,t115] A K:=by
  refine zd λl J _=>?_;have d:=J;have B:=U.ext d;have a0:=Z.ext d;have H:=z.ext d;have A0:∀K:oK,zX zI kv (nI 0) l K=K (.pointer (some (eaddr kv 1 0))) l:=λK=>(T l d 0 oM K).1;have B0:∀K:oK,zt ze (.pointer (some (eaddr kv 1 0))) l K=K (vs.getD 0 undef) l:=λK=>(T l d 0 oM K).2;have R:Ints (Off X F) l (vs.getD 0 undef) (rs.getD 0 []):=(S 0 oM).ext d;have S0:=o.sml (i:=0) oM;have A1:∀K:oK,zX zI kv (nI 1) l K=K (.pointer (some (eaddr kv 1 1))) l:=λK=>(T l d 1 oM K).1;have B1:∀K:oK,zt ze (.pointer (some (eaddr kv 1 1))) l K=K (vs.getD 1 undef) l:=λK=>(T l d 1 oM K).2;have V1:Ints (Off X F) l (vs.getD 1 undef) (rs.getD 1 []):=(S 1 oM).ext d;have S1:=o.sml (i:=1) oM;simp(disch:=first|(simp only[push_cast])|omega) only[a0.ld0,B.ld0,A0,B0,A1,B1,push_cast,true_and];exact bin_spec H ⟨gs,rfl⟩ oM oM R V1 l0 l1 l2 oM S0 S1 λw6 F6 a8 r6 zs h6 a5 aj ad E=>q l d w6 F6 a8 r6 zs h6 a5 aj ad E
 rcases bc with D|D
 ·rw[D];simp only[xP yA yH (show zH≠zO by decide),xP yB yM (show zH≠zF by decide),xP yW xi (show zH≠zK by decide),xP xy xL (show zH≠zU by decide),xP xN ql (show zH≠zP by decide),xP qd jE (show zH≠zL by decide),XT qe,push_cast];exact go
 ·rw[D];simp only[xP yA yH (show zL≠zO by decide),xP yB yM (show zL≠zF by decide),xP yW xi (show zL≠zK by decide),xP xy xL (show zL≠zU by decide),xP xN ql (show zL≠zP by decide),xP qe jF (show zL≠zH by decide),XT qd,push_cast];exact go
end
end
section
variable {w:World} {K:oK} {F F' Q X:Nat->Prop} {n bl bc mb bb kb m:Nat} {gs:M.Gs} {v dv:Value} {ar ab:Addr} {st:Option M.Gs} {ds:List M.Dcl}
def TOut {α:Type} (n:Nat) (p:M.Bd α) (st st':Option M.Gs) (a:α):Prop:=
 (∃gs gs',st=some gs/\st'=some gs'/\p.run n gs=some (gs',a))\/(st'=none/\∀gs,st=some gs->p.run n gs=none)
theorem Out.pre' {α:Type} {p:M.Bd α} {st st':Option M.Gs} {a:α} (h:M.Bd.Out n p st st' a):∀gs',st'=some gs'->∃gs,st=some gs/\gs<+:gs':=λgs' e=>by
 cases st with
 |none=>rw[h.1] at e;cases e
 |some gs=>
  rcases h with⟨g2,c,b⟩|⟨_,b,_⟩
  ·rw[b] at e;cases e;exact⟨gs,rfl,M.Bd.run_pre c⟩
  ·rw[b] at e;cases e
theorem VX (ps:List (M.Bd (List Int))) (p:M.Bd (List Int)):∀(gs:M.Gs),(M.seqB (ps++[p])).run n gs=((M.seqB ps).run n gs).bind λr=>(p.run n r.1).map λq=>(q.1,r.2++[q.2]):=by
 induction ps with
 |nil=>
  intro gs;show((p.bind λr=>(M.Bd.ret []:M.Bd (List (List Int))).map (r:: ·))).run n gs=_;rw[M.Bd.run_bind];show _=(p.run n gs).map _;cases p.run n gs<;>rfl
 |cons q ps c=>
  intro gs;show(q.bind λr=>(M.seqB (ps++[p])).map (r:: ·)).run n gs=((q.bind λr=>(M.seqB ps).map (r:: ·)).run n gs).bind _;rw[M.Bd.run_bind,M.Bd.run_bind];cases q.run n gs with
  |none=>rfl
  |some a=>
   show((M.seqB (ps++[p])).bind λx=>M.Bd.ret (a.2::x)).run n a.1=(((M.seqB ps).bind λx=>M.Bd.ret (a.2::x)).run n a.1).bind _;rw[M.Bd.run_bind,M.Bd.run_bind,c];cases (M.seqB ps).run n a.1 with
   |none=>rfl
   |some b=>
    show((p.run n b.1).map _).bind _=(p.run n b.1).map _;cases p.run n b.1<;>rfl
theorem TOut.snoc {ps:List (M.Bd (List Int))} {p:M.Bd (List Int)} {st a st2:Option M.Gs} {rs:List (List Int)} {r:List Int} (h:TOut n (M.seqB ps) st a rs) (d:TOut n p a st2 r):TOut n (M.seqB (ps++[p])) st st2 (rs++[r]):=by
 rcases h with⟨g0,g1,b,a2,a3⟩|⟨b,a2⟩
 ·rcases d with⟨c,g2,b1,b2,b3⟩|⟨b1,b2⟩
  ·rw[a2] at b1;cases b1;exact .inl ⟨g0,g2,b,b2,by rw[VX,a3];show(p.run n g1).map _=_;rw[b3];rfl⟩
  ·refine .inr ⟨b1,λgs e=>?_⟩;rw[b] at e;cases e;rw[VX,a3];show(p.run n g1).map _=_;rw[b2 g1 a2];rfl
 ·rcases d with⟨c,g2,b1,b2,b3⟩|⟨b1,b2⟩
  ·rw[b] at b1;cases b1
  ·exact .inr ⟨b1,λgs e=>by rw[VX,a2 gs e];rfl⟩
theorem TOut.root {t:M.Tm} {st a st2:Option M.Gs} {rs:List (List Int)} {zs:List Int} (h:TOut n (M.seqB (t.ks.map (M.termB ds))) st a rs):(∀b,a=some b->M.Bd.Out n (M.nodeB ds t rs) (some b) st2 zs)->(a=none->st2=none)->TOut n (M.termB ds t) st st2 zs:=λd f=>by
 rcases h with⟨g0,g1,c,a2,a3⟩|⟨c,a2⟩
 ·rcases d g1 a2 with⟨g2,b1,b2⟩|⟨b1,b2,_⟩
  ·exact .inl ⟨g0,g2,c,b2,by rw[M.termB_eq,M.Bd.run_bind,a3];exact b1⟩
  ·refine .inr ⟨b2,λgs e=>?_⟩;rw[c] at e;cases e;rw[M.termB_eq,M.Bd.run_bind,a3];exact b1
 ·exact .inr ⟨f c,λgs e=>by rw[M.termB_eq,M.Bd.run_bind,a2 gs e];rfl⟩
def P1 (m:Nat) (F:Nat->Prop) (b:Nat):Prop:=F b\/b=m
theorem Mv.p1 {w':World} (h:Mv F w F' w'):Mv (P1 m F) w (P1 m F') w':=
 ⟨h.same.mono λ_ _ h=> .inl h,λb a=>a.elim (λa=>(h.new b a).imp .inl id) λa=> .inl (.inr a)⟩
theorem Sl.mvX {k:Nat} {v:Value} {xs:List (List Value)} {w':World} (h:Sl (Off X F) w k v xs) (d:X m) (hm:Mv (P1 m F) w (P1 m F') w'):Sl (Off X F') w' k v xs:=by
 have f:Sl (λb=>Off X F b/\b<w.heap.size) w k v xs:=h.weaken λb a j=>⟨a,j⟩;have g:=f.same hm.same λb a _ c=>c.elim a.1.1 λe=>a.1.2 (e▸d);exact g.weaken λb a _=>⟨λi=>hm.off (λc=>c.elim a.1.1 λe=>a.1.2 (e▸d)) a.2 (.inl i),a.1.2⟩
def MetR (n:Nat) (ds:List M.Dcl) (m:Nat) (X F:Nat->Prop) (w:World) (st:Option M.Gs):Prop:=
 ∃f,MapF .string w m f/\∀p,p∈f->∃(u:M.Tm) (s:ByteArray) (v:Value) (zs:List Int),p=(.string s,v)/\s.data.toList=M.textL u/\M.sortM ds u≠ -1/\Ints (Off X F) w v zs/\SmL zs/\∀gs,st=some gs->(M.termB ds u).run n gs=some (gs,zs)
structure BlR (n bl bb kb m:Nat) (ar ab:Addr) (ds:List M.Dcl) (dv:Value) (X F:Nat->Prop) (w:World) (st:Option M.Gs):Prop where
 bd:BdR n bb ar ab X F w st
 blk:Blk w bl [oP bb 0,dv,.map (some kb),.map (some m)] yi
 off: ¬F bl/\¬F m/\¬F kb/\bl≠m/\kb≠m
 ext:X m
 dcl:DclsR (Off X F) w dv ds
 kin:KindsR w kb
 met:MetR n ds m X F w st
theorem KindsR.same {w':World} {S:Nat->Prop} (h:KindsR w kb) (hs:Same S w w') (c: ¬S kb):KindsR w' kb:=by
 obtain⟨f,a,b⟩:=h;exact⟨f,a.same hs c,b⟩
theorem KindsR.lt (h:KindsR w kb):kb<w.heap.size:=by obtain⟨f,a,b⟩:=h;exact a.lt
theorem MetR.lt (h:MetR n ds m X F w st):m<w.heap.size:=by obtain⟨f,a,b⟩:=h;exact a.lt
theorem BlR.step {w':World} {st':Option M.Gs} (h:BlR n bl bb kb m ar ab ds dv X F w st) (o:BdR n bb ar ab X F' w' st') (hm:Mv F w F' w') (r:∀gs',st'=some gs'->∃gs,st=some gs/\gs<+:gs'):BlR n bl bb kb m ar ab ds dv X F' w' st':=by
 obtain⟨c,d,g,t,x⟩:=h.off;refine⟨o,h.blk.same hm.same c,⟨hm.off c h.blk.lt,hm.off d h.met.lt,hm.off g h.kin.lt,t,x⟩,h.ext,Sl.mvX h.dcl h.ext hm.p1,h.kin.same hm.same g,?_⟩;obtain⟨f,q,a⟩:=h.met;refine⟨f,q.same hm.same d,λp b=>?_⟩;obtain⟨u,s,v,zs,i,a2,a3,a4,a5,j⟩:=a p b;refine⟨u,s,v,zs,i,a2,a3,Sl.mvX a4 h.ext hm.p1,a5,λgs' e=>?_⟩;obtain⟨gs,k,l⟩:=r gs' e;exact M.Bd.run_again (j gs k) l
theorem BlR.grow {w':World} (h:BlR n bl bb kb m ar ab ds dv X F w st) (he:Ext w w'):BlR n bl bb kb m ar ab ds dv X F w' st:=h.step (h.bd.ext he) (Mv.refl.ext he) λgs e=>⟨gs,e,List.prefix_refl _⟩
theorem BlR.swap {w0 w':World} {t r S Y:Nat->Prop} {o:Option M.Gs} (h:BlR n bl bb kb m ar ab ds dv X F w st) (e:BlR n bl bb kb m ar ab ds dv t r w0 o) (hw:Same S w w') (i:∀b,S b->X b/\w0.heap.size<=b/\¬F b)
  (q:∀b,Y b->b<w'.heap.size/\(b<w.heap.size->X b)) (hm:Y m):BlR n bl bb kb m ar ab ds dv Y F w' st:=by
 have key:∀b,b<w0.heap.size->¬S b:=λb a hs=>by have:=(i b hs).2.1;omega
 have a:=h.bd.upd e.bd.err hw λb a=>(i b a).2;have d:∀b,Off X F b->b<w.heap.size->¬S b:=λb a _ hs=>a.2 (i b hs).1;have cut:∀b,(Off X F b/\b<w.heap.size)->Off Y F b:=λb a=>⟨a.1.1,λA=>a.1.2 ((q b A).2 a.2)⟩;refine⟨⟨a.err,a.blk,a.foot,λb j=>j.elim (λh=>a.lt b (.inl h)) λh=>(q b h).1⟩,h.blk.same hw (key _ e.blk.lt),h.off,hm,?_,h.kin.same hw (key _ e.kin.lt),?_⟩
 ·have g:DclsR (λb=>Off X F b/\b<w.heap.size) w dv ds:=Sl.weaken h.dcl λb a c=>⟨a,c⟩;exact Sl.weaken (Sl.same g hw λb a c=>d b a.1 c) λb a _=>cut b a
 ·obtain⟨f,z,k⟩:=h.met;refine⟨f,z.same hw (key _ e.met.lt),λp l=>?_⟩;obtain⟨u,s,v,zs,x,a2,a3,a4,a5,y⟩:=k p l;have g:Ints (λb=>Off X F b/\b<w.heap.size) w v zs:=Ints.weaken a4 λb a c=>⟨a,c⟩;exact⟨u,s,v,zs,x,a2,a3,Ints.weaken (Ints.same g hw λb a c=>d b a.1 c) λb a _=>cut b a,a5,y⟩
theorem Ints.swap {w':World} {S Y:Nat->Prop} {r:Value} {zs:List Int} (h:Ints (Off X F) w r zs) (hw:Same S w w') (d:∀b,S b->X b) (e:∀b,Y b->b<w.heap.size->X b):Ints (Off Y F) w' r zs:=by
 have c:Ints (λb=>Off X F b/\b<w.heap.size) w r zs:=Ints.weaken h λb a f=>⟨a,f⟩;exact Ints.weaken (Ints.same c hw λb a _ hs=>a.1.2 (d b hs)) λb a _=>⟨a.1.1,λg=>a.1.2 (e b g a.2)⟩
theorem XB:jV0 yL .string ze:=⟨_,jj,rK⟩
theorem BlR.put {s:ByteArray} {t:M.Tm} {r:Value} {zs:List Int} (h:BlR n bl bb kb m ar ab ds dv X F w st) (hs:s.data.toList=M.textL t) (S:M.sortM ds t≠ -1) (hi:Ints (Off X F) w r zs) (z:SmL zs)
  (l:∀gs,st=some gs->(M.termB ds t).run n gs=some (gs,zs)) (N:∀w',BlR n bl bb kb m ar ab ds dv X F w' st->Same (· =m) w w'->K undef w'):UB yL (.map (some m)) (.string s) r w K:=by
 obtain⟨o1,D,o3,U,V⟩:=h.off;obtain⟨f,C,R⟩:=h.met;refine xS0 XB C (XF s) λw' H q o hw T=>N w' ?_ hw;obtain⟨es,cl,x,_⟩:=C;have i:∀(a:Addr),(∃v,w.cell? a=some v)->a.block≠m:=λa ⟨v,O⟩ e=>by
  simp[World.cell?,e,x] at O
 have d:∀{g:Nat} {a:Addr},Sent w g a->g≠m:=λy=>i _ ⟨_,y.cell⟩;have he:=h.bd.err;have W:=d he.room;have Y:=d he.bits;have c:∀b,Off X F b->b<w.heap.size->¬(b=m):=λb k _ e=>k.2 (e▸h.ext);obtain⟨bc,J,L⟩:=h.bd.blk;refine⟨⟨⟨he.room.same hw W,he.bits.same hw Y,he.off⟩,⟨bc,J.same hw λe=>D (e▸h.bd.foot),λgs e=>?_⟩,h.bd.foot,λb k=>by rw[T];exact h.bd.lt b k⟩,h.blk.same hw U,h.off,h.ext,Sl.same h.dcl hw c,h.kin.same hw V,H,q,λp j=>?_⟩
 ·obtain⟨v,mb,Q,I,B⟩:=L gs e;exact⟨v,mb,Q.same hw λb k e=>D (e▸B b k),I,B⟩
 ·rcases o p j with rfl|j
  ·exact⟨t,s,r,zs,rfl,hs,S,Ints.same hi hw c,z,l⟩
  ·obtain⟨u,Z,v,A,E,a2,a3,a4,a5,G⟩:=R p j;exact⟨u,Z,v,A,E,a2,a3,Ints.same a4 hw c,a5,G⟩
structure KidsB (n bl bb kb m:Nat) (ar ab:Addr) (ds:List M.Dcl) (dv:Value) (t:M.Tm) (X F:Nat->Prop) (w:World) (st:Option M.Gs) (i:Nat) (v:Value) (w':World):Prop where
 ex:∃(F1:Nat->Prop) (st1:Option M.Gs) (vs:List Value) (rs:List (List Int)),BlR n bl bb kb m ar ab ds dv (λb=>X b\/v.ownBlock=some b) F1 w' st1/\Mv (P1 m F) w (P1 m F1) w'/\OwnV zI w' v vs/\(∀b,v.ownBlock=some b->w.heap.size<=b/\¬F1 b)/\
  vs.length=i/\rs.length=i/\(∀j,j<i->Ints (Off (λb=>X b\/v.ownBlock=some b) F1) w' (vs.getD j undef) (rs.getD j []))/\(∀r,r∈rs->SmL r)/\TOut n (M.seqB ((t.ks.take i).map (M.termB ds))) st st1 rs
theorem Jg {α:Type} {l r:List α} {d:α} {i:Nat} (h:i<l.length):(l++r).getD i d=l.getD i d:=by
 rw[q0,gI h,<-q0]
theorem Jh {α:Type} {l:List α} {x d:α} {i:Nat} (h:l.length=i):(l++[x]).getD i d=x:=by
 subst h;simp[q0]
theorem TOut.nil:TOut n (M.seqB []) st st []:=by
 cases st with
 |none=>exact .inr ⟨rfl,λgs e=>by cases e⟩
 |some gs=>exact .inl ⟨gs,gs,rfl,rfl,rfl⟩
theorem term_spec (hd:M.declOk ds=true):∀(t:M.Tm),M.sortM ds t≠ -1->M.sizeM t<=1000->∀{w:World} {K:oK} {X F:Nat->Prop} {st:Option M.Gs} {tv:Value},BlR n bl bb kb m ar ab ds dv X F w st->TermR (Off X F) w tv t->
  (∀w' F' st' r zs,BlR n bl bb kb m ar ab ds dv X F' w' st'->Mv (P1 m F) w (P1 m F') w'->Ints (Off X F') w' r zs->SmL zs->TOut n (M.termB ds t) st st' zs->K r w')->
  vcall X1 #[oP bl 0,tv] w K:=by
 refine M.Tm.ind λt ih hs br w K X F st tv d ht hK=>?_;obtain⟨kv,rfl,bn⟩:=ht;refine zf {ord:=[oz 1 (oR 7) [(0,[4]),(1,[4]),(2,[4]),(3,[4])]],loops:=[(7,[8,32])]} Tryz.func156 ?_;refine zk λb1 w1 c5 bk c8 b8=>?_;refine zd λw2 an _=>?_;have e2:=bk.trans an;have ad:=d.grow e2;have ai:=b8.ext an;have Z:=bn.ext e2;simp(disch:=first|(simp only[push_cast])|omega) only[push_cast,ad.blk.ld2,ai.ldAgg (t:=za) zc,true_and];refine textOf_spec hd t hs br ad.kin ⟨kv,rfl,Z⟩ λQ s R b0=>?_;have e3:=e2.trans R;have k:=ad.grow R;have aj:=ai.ext R;have a0:=Z.ext R;simp(disch:=first|(simp only[push_cast])|omega) only[push_cast,k.blk.ld3];obtain⟨f,O,bm⟩:=k.met;by_cases H:∃v,(Value.string s,v)∈f
 ·obtain⟨v,H⟩:=H;rw[Xd XB O (XF s) H];simp only[push_cast,if_true];obtain⟨u,s',v',zs,e,a2,a3,a4,a5,a6⟩:=bm _ H;cases e;have:=M.text_inj hd hs a3 (b0.symm.trans a2);subst this;refine hK Q F st v zs k (Mv.refl.ext e3) a4 a5 ?_;cases st with
  |none=>exact .inr ⟨rfl,λgs e=>by cases e⟩
  |some gs=>exact .inl ⟨gs,gs,rfl,rfl,a6 gs rfl⟩
 rw[UC XB qw O (XF s) λv hv=>H ⟨v,hv⟩];simp(disch:=first|(simp only[push_cast])|omega) only[push_cast,if_true,aj.ld4,a0.len];have c7:t.ks.length<=3:=by
  obtain⟨c4,hp,ho⟩:=M.right_op hs;have h:M.arity t.op<=3:=by
   unfold M.arity;repeat' split
   all_goals omega
  omega
 have S:∀b,(X b\/(Value.slice none 0 0).ownBlock=some b)->b<Q.heap.size/\(b<Q.heap.size->X b):=λb d=>d.elim (λh=>⟨k.bd.lt b (.inr h),λ_=>h⟩) λh=>by cases h
 have ak:=k.swap (Y:=λb=>X b\/(Value.slice none 0 0).ownBlock=some b) k (Same.refl (λ_=>False) Q) (λb d=>d.elim) S (.inl k.ext);have be:TmsR (λb=>Off X F b/\b<Q.heap.size) Q kv t.ks:=a0.weaken λb d hl=>⟨d,hl⟩;refine vloop_up t.ks.length (λi u w'=> ∃v,u=[v,nI i]/\KidsB n bl bb kb m ar ab ds dv t X F Q st i v w') ⟨_,rfl,⟨F,st,[],[],ak,Mv.refl,OwnV.nil,(λb d=>by cases d),rfl,rfl,λj W=>absurd W oM,(λr hr=>by cases hr),TOut.nil⟩⟩ ?_;rintro i _ g w4 C hi ⟨v,rfl,⟨F4,bv,vs,rs,l,A,af,E,b3,ax,hint,az,L⟩⟩ hC;simp only[push_cast];have l4:=A.same.size;have I:TmsR (λb=>Off X F b/\b<Q.heap.size) w4 kv t.ks:=be.same A.same λb d _ hp=>hp.elim d.1.1 λe=>d.1.2 (e▸k.ext);have bf:∀b,(Off X F b/\b<Q.heap.size)->Off (λb=>X b\/v.ownBlock=some b) F4 b:=λb d=>⟨λO=>A.off (λhp=>hp.elim d.1.1 λe=>d.1.2 (e▸k.ext)) d.2 (.inl O),λhx=>hx.elim d.1.2 λho=>by have:=(E b ho).1;omega⟩;refine zb (λa=>?_) (λa=>?_)
 ·have p:i<t.ks.length:=oM;simp(disch:=first|(simp only[push_cast])|omega) only[push_cast,I.iaddr];refine I.load zc p λx hx=>?_;obtain⟨cx,rfl,ae⟩:=hx.cells;refine zi zp λb7 w7 c6 ao c9 b9=>?_;refine stTerm b9 rfl (ae.ext ao) λw8 bt ca ba=>?_;have D:Ext w4 w8:=Ext.then ao bt λy hy=>by subst hy;omega
  have v8:=ae.ext D;simp only[push_cast,ba.ldAgg (t:=za) (by rw[zV ae];exact zc)];have B:t.ks.getD i default∈t.ks:=M.getD_mem p _;have bq:M.sizeM (t.ks.getD i default)<=1000:=by
   have h1:=M.szT_succ p;have h2:=M.szT_mono (ks:=t.ks) (i:=i+1) (j:=t.ks.length) p (gy _);have h3:=M.szT_all t;omega
  have bj:=l.grow D;refine ih _ B ((M.sort_parts hs).2.1 _ B) bq bj (v8.term.weaken λb d _=>bf b d) λw9 F9 bw r zs am J ag bu bs=>?_;refine zC Zs qX qw rfl (Sl.cells1 ag) λc0 w10 bx o bz ah=>?_;have cb:=D.size;have l9:=J.same.size;have b2:∀b,v.ownBlock=some b->¬P1 m F4 b:=λb d hp=>hp.elim (E b d).2 λe=>by have:=(E b d).1;have:=k.met.lt;omega
  have av:OwnV zI w10 v vs:=((af.ext D).same J.same b2).ext o;refine av.app1 K5 ah (Sl.one ag) oM oM λv11 cc a9 z a7=>?_
  try simp(disch:=omega) only[push_cast,zj]
  have a8:∀b,v.ownBlock=some b->¬F9 b:=λb d O=>J.off (b2 b d) (by have:=af.lt d;omega) (.inl O);have G:∀b,(X b\/v11.ownBlock=some b)->b<w10.heap.size->(X b\/v.ownBlock=some b):=λb d hl=>d.elim .inl λh=>(a7 b h).elim .inr λh2=>oM;have T:∀j,j<i->Ints (Off (λb=>X b\/v.ownBlock=some b) F9) w10 (vs.getD j undef) (rs.getD j []):=λj W=>Ints.ext (Sl.mvX (Ints.ext (hint j W) D) (.inl d.ext) J) o;refine hC p _ _ ⟨v11,by simp,⟨F9,bw,vs++[r],rs++[zs],(am.grow o).swap k z (λb d=>⟨.inr d,(E b d).1,a8 b d⟩) (λb d=>⟨?_,G b d⟩) (.inl d.ext),(((A.ext D).trans J).ext o).to z λb d=> .inr (E b d).1,a9,λb d=>?_,by simp[b3],by simp[ax],λj W=>?_,λq hq=>?_,?_⟩⟩
  ·rcases d with h|h
   ·have:=l.bd.lt b (.inr (.inl h));have:=o.size;have:=z.size;omega
   ·exact a9.lt h
  ·rcases a7 b d with h|h
   ·exact⟨(E b h).1,a8 b h⟩
   ·have:=o.size;exact⟨oM,λO=>by have:=am.bd.lt b (.inl O);omega⟩
  ·by_cases c:j<i
   ·rw[Jg oM,Jg oM];exact Ints.swap (T j c) z (λb d=> .inr d) G
   ·have:j=i:=oM;subst this;rw[Jh b3,Jh ax];exact Ints.swap (Ints.ext ag o) z (λb d=> .inr d) G
  ·rcases gk.1 hq with h|h
   ·exact az q h
   ·rw[gq.1 h];exact bu
  ·rw[M.take_add p default,gw];exact L.snoc bs
 ·have p:i=t.ks.length:=oM;subst p;rw[gx] at L;obtain⟨bc,hB,c3⟩:=l.bd.blk;have back:∀{F5:Nat->Prop} {w5:World} {N:Option M.Gs},BlR n bl bb kb m ar ab ds dv (λb=>X b\/v.ownBlock=some b) F5 w5 N->BlR n bl bb kb m ar ab ds dv X F5 w5 N:=λh=>h.swap h (Same.refl (λ_=>False) _) (λb d=>d.elim) (λb d=>⟨h.bd.lt b (.inr (.inl d)),λ_=> .inl d⟩) k.ext;have m3:Mv (P1 m F) w (P1 m F) Q:=Mv.refl.ext e3;cases bv with
  |none=>
   simp only at hB;simp(disch:=first|(simp only[push_cast])|omega) only[push_cast,l.blk.ld0,hB.ld1,Uk];have au:Ints (Off X F4) w4 (.slice none 0 0) []:=Ints.weaken (OwnI.nil (t:=ze)).ints λb d _=>(by cases d);exact hK w4 F4 none _ [] (back l) (m3.trans A) au SmL.nil (TOut.root (st2:=none) L (λb6 e=>by cases e) λ_=>rfl)
  |some c2=>
   simp only at hB;simp(disch:=first|(simp only[push_cast])|omega) only[push_cast,l.blk.ld0,hB.ld1,YQ];have bg:=aj.same A.same λhp=>hp.elim (λO=>by have:=d.bd.lt _ (.inl O);omega) λe=>by have:=d.met.lt;omega
   simp(disch:=first|(simp only[push_cast])|omega) only[push_cast,bg.ldAgg (t:=za) zc];have U:(M.seqB (t.ks.map (M.termB ds))).Reach rs:=by
    rcases L with⟨c1,g1,a1,a2,a3⟩|⟨a1,_⟩
    ·exact M.Bd.reach_of_run a3
    ·cases a1
   obtain⟨ay,bp⟩:=M.seq_reach U;refine root_spec l.bd hd hs l.blk l.dcl l.kin ⟨kv,rfl,I⟩ ⟨⟨vs,af.vals,oM,λj W=>hint j oM⟩,az⟩ ay (λj W=>?_) λw5 F5 N r zs bh ap bo b5 aw=>?_
   ·have B:t.ks.getD j default∈t.ks:=M.getD_mem W _;have:=M.term_len hd _ ((M.sort_parts hs).2.1 _ B) (bp j W);rw[this];rfl
   have al:=l.step bh ap (Out.pre' aw);have ac:TOut n (M.termB ds t) st N zs:=L.root (λb6 e=>by cases e;exact aw) λe=>(by cases e);have aq:Mv (P1 m F) w (P1 m F5) w5:=(m3.trans A).trans ap.p1;have aa:Ints (Off X F5) w5 r zs:=Ints.weaken bo λb d _=>⟨d.1,λhx=>d.2 (.inl hx)⟩;have V:=back al;simp(disch:=first|(simp only[push_cast])|omega) only[push_cast,V.blk.ld3];refine V.put b0 hs aa b5 (λgs e=>?_) λw6 bi b4=>?_
   ·rcases ac with⟨g0,g1,a1,a2,a3⟩|⟨a1,_⟩
    ·rw[a2] at e;cases e;exact M.Bd.run_again a3 (List.prefix_refl _)
    ·rw[a1] at e;cases e
   ·refine hK w6 F5 N r zs bi (aq.to b4 λb d=> .inl (.inr d)) ?_ b5 ac;exact Ints.same aa b4 λb d _ e=>d.2 (e▸k.ext)
end
end Go.Proofs.YtolbhkcajhlllaaGreatDoor
section
namespace Go.Proofs.YtolbhkcajhlllaaGreatDoor
open Go Go.Vc Go.Proofs
section
open Go.RowKit Go.Extern.Stop Go.Stop Go.Extern
theorem zy0 (v:Value) (w:World):(Extern.ReflectliteType.typeOf #[.iface 392 v]).run Tryz.prog w= .ok (.iface 185 (.agg #[oP 11 392])) w:=rK
theorem XE (w:World):(callFunc 400 #[.agg #[oP 11 392]]).run Tryz.prog w= .ok (Next.value (.bool true)) w:=by
 rw[@run_callFunc_extern Tryz.prog 400 _ (Extern.ReflectliteType.method λt=>do Extern.Rtype.noPackHeld "Comparable" t;pure (.bool (<-typeInfo t).comparable)) Tryz.func400 rK rK rK rK];kernel_rfl
theorem zz0 (v:Value) (w:World):(Go.method 531 185 v "Comparable").run Tryz.prog w= .ok (400,v) w:=rK
theorem qD0:(Tryz.prog.info? 392).map (·.comparable)=some true:=rK
theorem qB0:(Tryz.prog.info? 420).map (·.size)=some 1:=rK
theorem noIsE (v:Value) (xT:TypeId) (w:World):(Instr.typeAssert (.iface 392 v) xT 187 true).run Tryz.prog w= .ok (.tuple #[.nilIface,.bool false]) w:=run_typeAssert_lacksB Tryz.underlying187 rK rK v xT w
theorem qf0 (v:Value) (xT:TypeId) (w:World):(Instr.typeAssert (.iface 392 v) xT 190 true).run Tryz.prog w= .ok (.tuple #[.nilIface,.bool false]) w:=run_typeAssert_lacksB Tryz.underlying190 rK rK v xT w
theorem xb0 (v:Value) (xT:TypeId) (w:World):(Instr.typeAssert (.iface 392 v) xT 191 true).run Tryz.prog w= .ok (.tuple #[.nilIface,.bool false]) w:=run_typeAssert_lacksB Tryz.underlying191 rK rK v xT w
theorem Z30 (a : Addr) (w : World) :
    Calls Tryz.prog 49 #[.iface 392 (.pointer (some a)), .iface 392 (.pointer (some a))] w λe w' => e = .returned (.bool true) /\ w' = w := by
  obtain ⟨i, hi, hcmp⟩ := pA.1 qD0
  obtain ⟨j, hj, hjs⟩ := pA.1 qB0
  have h8 := @run_callFunc_extern Tryz.prog 81 _ Extern.ReflectliteType.typeOf Tryz.func81 (by kernel_rfl) (by kernel_rfl) (by kernel_rfl) (by kernel_rfl)
  have h32 : ∀ w : World, (callFunc 400 #[.agg #[.pointer (some ⟨11, 392, none⟩)]]).run Tryz.prog w = .ok (Next.value (.bool true)) w := XE
  have tT := zy0
  have mR := zz0
  have heq := run_eql_iface_ptr_same (P := Tryz.prog) w a Tryz.underlying89 Tryz.underlying392 hi hcmp hj
  go_enter Tryz.func49, Tryz.ntmps49
  go_wp2
  refine wp_loop_rounds 1 ?_
  rw [rounds_succ]
  go_wp2
  go_ret
  exact ⟨rfl, rfl⟩
theorem ZQ0 (b : Addr) (w : World) :
    Calls Tryz.prog 49 #[.nilIface, .iface 392 (.pointer (some b))] w λe w' => e = .returned (.bool false) /\ w' = w := by
  have hn := run_eql_iface_nil_left (P := Tryz.prog) w 392 (.pointer (some b)) Tryz.underlying89
  go_enter Tryz.func49, Tryz.ntmps49
  go_wp2
  go_ret
  exact ⟨rfl, rfl⟩
end
variable {w:World} {K:oK}
theorem zx0 {a:Addr} (b:K (.bool true) w):vcall qa #[erv a,erv a] w K:=
 ⟨rK,(Z30 a w).mono λe w' h=>by obtain⟨rfl,rfl⟩:=h;exact b⟩
theorem qC0 {a:Addr} (b:K (.bool false) w):vcall qa #[.nilIface,erv a] w K:=
 ⟨rK,(ZQ0 a w).mono λe w' h=>by obtain⟨rfl,rfl⟩:=h;exact b⟩
end Go.Proofs.YtolbhkcajhlllaaGreatDoor
end
namespace Go.Proofs.YtolbhkcajhlllaaGreatDoor
open Go Go.Vc Go.Proofs
section
variable {w:World} {K:oK} {F Fx Q X:Nat->Prop} {n bc mb m:Nat} {gs:M.Gs} {v:Value} {ar ab:Addr}
theorem gone (gs:M.Gs):∀y,y∈gs.map yf->∀c,c∈y->c.oneCell'=true:=λy b c a=>by
 obtain⟨g,_,rfl⟩:=gp.1 b;simp only[yf,gd,gn,or_false] at a;rcases a with rfl|rfl|rfl<;>rfl
theorem OwnG.nil:OwnG w (.slice none 0 0) []:=Own.nil 0 3 zA w
theorem Clone_gate (d:GatesR Fx w v gs) (u:gs.length<=1000000) (l:∀w' v',Ext w w'->OwnG w' v' gs->(∀x,v'.ownBlock=some x->w.heap.size<=x)->K v' w'):
  vcall qr #[v] w K:=by
 refine zf {} Tryz.func226 ?_;obtain⟨a,c,rfl,r,s,f⟩:=d.shape;rw[X0] at d r⊢;rw[Vz xW];refine zn (λm=>?_) (λm=>?_)
 ·cases a with
  |some a=>cases m
  |none=>
   have k:gs=[]:=by
    have n:gs.map yf=[]:=Gq λh=>by
     obtain⟨b,o,p,_⟩:=f h;cases p
    simpa using n
   subst k;exact l w _ (Same.refl _ _) OwnG.nil λx d=>by cases d
 ·refine yo j7 YJ λb w1 z he A q=>?_;have g:Own 0 3 zA w1 (.slice (some ⟨b,0,none⟩) 0 0) []:=Blk.ownk (css:=[]) (by rw[XK];exact q) (λx d=>by cases d) rfl oM;have j:Sl Fx w1 3 (.slice a gs.length c) (gs.map yf):=Sl.ext d he;refine vappend (bs:=24) qt dC g j (gone gs) oM (by rw[X0];simp;omega) (by rw[X0];simp;omega) λv' w2 t hs i=>?_;have y:=he.size;refine l w2 v' (Ext.then he hs λx d=>by have e:b=x:=K3 d;omega) t λx d=>?_;rcases i x d with h|h
  ·have e:b=x:=K3 h;omega
  ·omega
theorem sigof_spec {a m:Int} (hm:m.natAbs<=1000000) (b:K (.bool (decide (a≠0/\ -m<=a/\a<=m))) w):vcall QU #[nI a,nI m] w K:=by
 refine zf {} Tryz.func227 ?_;simp only[push_cast];refine zb (λc=>?_) (λc=>?_)
 ·simp(disch:=omega) only[push_cast,zj,gN];refine zb (λd=>?_) (λd=>?_)
  ·try simp only[push_cast]
   rwa[show decide (a≠0/\ -m<=a/\a<=m)=decide (a<=m) from decide_eq_decide.2 ⟨λh=>h.2.2,λh=>⟨c,d,h⟩⟩] at b
  ·rwa[decide_eq_false (λh=>d h.2.1)] at b
 ·rwa[decide_eq_false (λh=>c h.1)] at b
theorem VJ {a:Int} {o:Option Addr} {l c mb:Nat}:yj ya [(0,.agg ⟨[nI a,.slice o l c]⟩),(1,.map (some mb))] w K=K (.agg ⟨[nI a,.slice o l c,.map (some mb)]⟩) w:=zR Vq (us:=[[nI a,.slice o l c],[.map (some mb)]]) rfl rfl
theorem j20 {a:Int} {o:Option Addr} {l c:Nat}:yj zw [(0,nI a),(1,.slice o l c)] w K=K (.agg ⟨[nI a,.slice o l c]⟩) w:=zR Qz (us:=[[nI a],[.slice o l c]]) rfl rfl
structure Rd (n:Nat) (w:World) (bc:Nat) (v':Value) (mb:Nat) (gs:M.Gs) (i:Nat) (w':World):Prop where
 ext:Ext w w'
 blk:Blk w' bc [nI n,v',.map (some mb)] ya
 own:OwnG w' v' gs
 map:∃f,GMap w' mb f/\∀g,Yy g f=if g∈gs.take i then some (2+n+gs.idxOf g:Int) else none
 sep:bc≠mb/\v'.ownBlock≠some bc/\v'.ownBlock≠some mb
 new:∀b,YA bc mb v' b->w.heap.size<=b
theorem readNet_spec (hv:GatesR Fx w v gs) (hg:M.NetG n gs) (hn:n<=8) (hK:∀w' bc v' mb,CktR n bc w' gs v' mb->Ext w w'->(∀b,YA bc mb v' b->w.heap.size<=b)->K (.tuple #[oP bc 0,.bool true]) w'):
  vcall KR #[.agg ⟨[nI n,v]⟩] w K:=by
 refine zf {ord:=[oz 7 (oR 6) [(0,[2,3]),(1,[2,3]),(2,[4]),(3,[4])],oz 10 (oR 11) [(0,[4]),(1,[4]),(2,[4]),(3,[4]),(7,[8]),(8,[9])],oz 13 (oR 10) [(0,[4,5,6,7,8]),(1,[4,5,6,7,8]),(2,[4,5,6,7,8]),(3,[4,5,6,7,8]),(4,[5,6,7,8]),(5,[6])]],loops:=[(5,[37])],cuts:=[(8195,[]),(16388,[4]),(36874,[]),(45069,[])],trees:=[(3,(.st 0 (.st 1 (.st 2 (.st 3 (.alt 4 (.st 5 (.alt 6 (.st 7 (.alt 8 (.st 9 .nil) .no)) .no)) (.alt 6 (.alt 4 (.st 5 (.st 7 (.alt 8 (.st 9 .nil) .no))) .no) .no)))))),[(0,[1,5,7,8,9]),(1,[5,7,8,9]),(2,[3,4,5,7,8,9]),(3,[4,5,7,8,9]),(4,[5,7,8,9]),(5,[7,8,9]),(6,[7,8,9]),(7,[8,9]),(8,[9])])]} Tryz.func196 ?_;refine zk λb1 w1 aq F av x=>?_;have au:GatesR Fx w1 v gs:=Sl.ext hv F;have ae:=hg.few;have hlen:∀(w':World) (K:oK),vbi .len [zA] zE [v] w' K=K (nI gs.length) w':=λw' K=>by rw[Sl.len hv xW,yI0]
 refine zo (λu w'=>u=[]/\w'=w1) ?_ ?_
 ·intro J O;simp(disch:=first|(simp only[push_cast])|omega) only[push_cast,x.ld0];refine zb (λc=>absurd c oM) (λ_=>?_)
  try simp(disch:=first|(simp only[push_cast])|omega) only[push_cast,x.ld0]
  refine zb (λc=>absurd c oM) (λ_=>?_)
  try simp(disch:=first|(simp only[push_cast])|omega) only[push_cast,x.ld1,hlen]
  refine zb (λc=>absurd c oM) (λ_=>?_);exact O _ _ ⟨rfl,rfl⟩
 rintro _ _ w2 ⟨rfl,rfl⟩;refine zo (λu w'=> ∃bc v' mb,u=[oP bc 0]/\Rd n w2 bc v' mb gs 0 w') ?_ ?_
 ·intro J O;refine zd λw3 B _=>?_;have z:=x.ext B;have e3:=F.trans B;simp(disch:=first|(simp only[push_cast])|omega) only[push_cast,z.ld0,z.ld1,true_and,and_true];refine⟨?_,?_⟩
  ·refine Clone_gate (Sl.ext hv e3) oM λw4 v' p k T=>?_;have A:=z.ext p;obtain⟨o,c,rfl,_⟩:=(Own.sl k).shape;simp(disch:=first|(simp only[push_cast])|omega) only[push_cast,A.ld0,true_and,and_true,and_self,j20];refine ZS0 rfl λmb w5 am a2 l ag=>?_;have q:=A.ext l;simp(disch:=first|(simp only[push_cast])|omega) only[push_cast,q.ld0,true_and,and_true,and_self,j20,VJ];refine zk λbc w6 ak r ah E=>?_;have z3:=B.size;have z4:=p.size;have S:=(λb Q=>(Own.lt k (b:=b) Q).2);refine O _ _ ⟨bc,_,mb,rfl,B.trans (p.trans (l.trans r)),E,Own.ext k (l.trans r),⟨[],a2.ext r,λg=>rfl⟩,⟨oM,λh=>by have:=S _ h;omega,λh=>by have:=S _ h;omega⟩,?_⟩;rintro b (rfl|rfl|h)
   ·omega
   ·omega
   ·have:=T b h;omega
  ·refine ZS0 rfl λmb w5 am a2 l ag=>?_;have q:=z.ext l;simp(disch:=first|(simp only[push_cast])|omega) only[push_cast,q.ld0,q.ld1,true_and,and_true,and_self];refine Clone_gate (Sl.ext hv (e3.trans l)) oM λw4 v' p k T=>?_;have A:=q.ext p;obtain⟨o,c,rfl,_⟩:=(Own.sl k).shape;simp(disch:=first|(simp only[push_cast])|omega) only[push_cast,A.ld0,true_and,and_true,and_self,j20,VJ];refine zk λbc w6 ak r ah E=>?_;have z3:=B.size;have z4:=p.size;have S:=(λb Q=>(Own.lt k (b:=b) Q).2);refine O _ _ ⟨bc,_,mb,rfl,B.trans (l.trans (p.trans r)),E,Own.ext k r,⟨[],a2.ext (p.trans r),λg=>rfl⟩,⟨oM,λh=>by have:=S _ h;omega,λh=>by have:=T _ h;omega⟩,?_⟩;rintro b (rfl|rfl|h)
   ·omega
   ·omega
   ·have:=T b h;omega
 rintro _ _ w3 ⟨bc,v',mb,rfl,h3⟩;have z:=x.ext h3.ext;simp(disch:=first|(simp only[push_cast])|omega) only[push_cast,z.ld1,hlen];refine vloop_up gs.length (λi u w'=>u=[nI i]/\Rd n w2 bc v' mb gs i w') ⟨rfl,h3⟩ ?_;rintro i _ _ w4 C hi ⟨rfl,d⟩ hC;have A:=x.ext d.ext;simp only[push_cast];refine zb (λa=>?_) (λa=>?_)
 ·have m:i<gs.length:=oM;have k:Sl Fx w4 3 v (gs.map yf):=Sl.ext hv (F.trans d.ext);have al:(gs.map yf).getD i []=yf gs[i]:=(by simp[q0,m]);rw[Sl.iaddr k ZS oM (by rw[yI0];omega),gm,Sl.ldAgg k xF (by rw[yI0];exact m),al];obtain⟨g1,g2,g3,g4⟩:=hg.gate i m;have Y:gs[i]∉gs.take i:=λh=>by
   obtain⟨j,hj,e⟩:=gr h;rw[gg] at hj;rw[List.getElem_take] at e;exact Gp.1 hg.once j i oM m oM e
  have ao:gs.take (i+1)=gs.take i++[gs[i]]:=by rw[G2,gi m];rfl
  have af:gs.idxOf gs[i]=i:=List.Nodup.idxOf_getElem hg.once i m;generalize gs[i]=g at*;have absN:∀a:Int,M.absI a=(a.natAbs:Int):=λa=>by unfold M.absI;split<;>omega
  have ga:=absN g.a;have gb:=absN g.b;refine zi kc λb5 w5 ar l ag q=>?_;refine q.stAgg (cs':=yf g) rfl xF (λc hc=>by simp only[yf,gd,gn,or_false] at hc;rcases hc with rfl|rfl|rfl<;>rfl) λw6 an ah E=>?_;have ai:Ext w4 w6:=Ext.then l an λy hy=>by subst hy;omega
  refine zd λw7 aa _=>?_;have N:=E.ext aa;have a4:=ai.trans aa;have Z:=A.ext a4;have a1:∀w':World,Blk w' b5 (yf g) zm->∀K:oK,zt zm (oP b5 0) w' K=K (gv g) w':=λw' hB K=>Blk.ldAgg hB (by exact xF);simp(disch:=first|(simp only[push_cast])|omega) only[push_cast,N.ld1,N.ld2,true_and];refine zo (λu w'=>u=[]/\Ext w7 w') ?_ ?_
  ·intro J O;rw[Z.ldAgg (t:=zw) y0];refine nodes_spec oM oM λw8 ab=>?_;refine sigof_spec oM ?_;rw[decide_eq_true ⟨oM,oM,oM⟩];have aj:=Z.ext ab;simp(disch:=first|(simp only[push_cast])|omega) only[push_cast,GN,aj.ldAgg (t:=zw) y0];refine nodes_spec oM oM λw9 D=>?_;refine sigof_spec oM ?_;rw[decide_eq_true ⟨oM,oM,oM⟩];simp only[push_cast,GN];refine node_spec oM ?_;simp only[push_cast];refine zb (λc=>absurd c oM) (λ_=>?_);refine node_spec oM ?_;simp only[push_cast];refine zb (λc=>absurd c oM) (λ_=>?_);refine node_spec oM (node_spec oM ?_);simp only[push_cast];refine zb (λc=>absurd c oM) (λ_=>?_);exact O _ _ ⟨rfl,ab.trans D⟩
  rintro _ _ w9 ⟨rfl,D⟩;have a5:=a4.trans D;refine zo (λu w'=>u=[]/\Ext w9 w') ?_ ?_
  ·intro J O;refine zd λw10 s _=>?_;have e:=a5.trans s;have a6:=d.blk.ext e;have V:=(N.ext D).ext s;obtain⟨f,hf,hl⟩:=d.map;have ac:=hf.ext e;have a3:Yy g f=none:=(by rw[hl,if_neg Y]);simp(disch:=first|(simp only[push_cast])|omega) only[push_cast,a6.ld2,a1 _ V,kE0 ac,a3,true_and];simp(disch:=first|(simp only[push_cast])|omega) only[push_cast,V.ld0];refine zn (λhx=>?_) (λhx=>?_)
   ·obtain⟨p1,p2⟩:=g4 hx
    try simp only[push_cast]
    refine zb (λc=>absurd c oM) (λ_=>?_)
    try simp only[push_cast]
    refine zb (λc=>absurd c oM) (λ_=>?_);exact O _ _ ⟨rfl,s⟩
   ·exact O _ _ ⟨rfl,s⟩
  rintro _ _ aw ⟨rfl,G⟩;refine zd λax H _=>?_;have e:=(a5.trans G).trans H;have a7:=d.blk.ext e;have W:=((N.ext D).ext G).ext H;have a9:=((Z.ext D).ext G).ext H;simp(disch:=first|(simp only[push_cast])|omega) only[push_cast,a7.ld2,a1 _ W,a9.ldAgg (t:=zw) y0,true_and];refine nodes_spec oM oM λay X=>?_;have L:=e.trans X;have U:=d.blk.ext L;have a8:=W.ext X;obtain⟨f,hf,hl⟩:=d.map;have a3:Yy g f=none:=(by rw[hl,if_neg Y]);simp(disch:=first|(simp only[push_cast])|omega) only[push_cast,U.ld2,a1 _ a8,true_and,and_self,and_true,zj];refine gset (hf.ext L) a3 λaz ad I ap=>?_
  try simp(disch:=omega) only[push_cast,zj]
  have l4:=d.ext.size;refine hC m _ _ ⟨by simp,Ext.then (d.ext.trans L) I (λb Q=>by have:=d.new b (.inr (.inl Q));omega),U.same I d.sep.1,Own.same (Own.ext d.own L) I (λb Q e=>d.sep.2.2 (e▸Q)),⟨_,ad,λg'=>?_⟩,d.sep,d.new⟩;have e1:=look_app (g:=g') (h:=g) (n:=1+(n:Int)+i+1) (f:=f) (i:=0);have e2:=hl g';unfold Yy at e2⊢;rw[e1,e2,ao];by_cases R:g'∈gs.take i
  ·rw[if_pos R,if_pos (gk.2 (.inl R))]
  ·rw[if_neg R];by_cases a0:g'=g
   ·subst a0;simp only;rw[if_pos trivial,if_pos (by simp),af];congr 1;omega
   ·simp only;rw[if_neg a0,if_neg (by simp[R,a0])]
 ·have m:i=gs.length:=oM;subst m;obtain⟨f,hf,hl⟩:=d.map;rw[gx] at hl;have z1:=F.size;exact hK w4 bc v' mb ⟨d.blk,d.own,⟨f,hf,hl⟩,d.sep,ae,hn⟩ (F.trans d.ext) λb Q=>by have:=d.new b Q;omega
end
section
variable {w:World} {K:oK} {F Fx Q X:Nat->Prop} {n bl bc mb bb kb m:Nat} {gs:M.Gs} {v dv:Value} {ar ab:Addr} {ds:List M.Dcl}
theorem j10 {a:Int}:yj zw [(0,nI a)] w K=K (.agg ⟨[nI a,.slice none 0 0]⟩) w:=zR Qz (us:=[[nI a]]) rfl rfl
theorem Zc0:yj zw [] w K=K (.agg ⟨[nI 0,.slice none 0 0]⟩) w:=zR Qz (us:=[]) rfl rfl
theorem xu0 {a:Addr}:yj yG [(0,.pointer (some a))] w K=K (.agg ⟨[.pointer (some a),.nilIface]⟩) w:=zR Vs (us:=[[.pointer (some a)]]) rfl rfl
theorem xv0 {a:Addr} {o:Option Addr} {l c k m:Nat}:yj yi [(0,.pointer (some a)),(1,.slice o l c),(2,.map (some k)),(3,.map (some m))] w K=K (.agg ⟨[.pointer (some a),.slice o l c,.map (some k),.map (some m)]⟩) w:=zR Vt (us:=[[.pointer (some a)],[.slice o l c],[.map (some k)],[.map (some m)]]) rfl rfl
theorem GatesR.nil:GatesR Fx w (.slice none 0 0) []:=Sl.weaken (Own.sl (OwnG.nil (w:=w))) λb a _=>by cases a
theorem NetG.nil (n:Nat):M.NetG n []:=⟨by simp,λk h=>absurd h (by simp),G9⟩
theorem newBlaster_spec (A:M.declOk ds=true) (n:DclsR Fx w dv ds) (he:Errs (λ_=>False) w ar ab)
  (I:∀w' bl bb kb m F,BlR (M.bits ds).toNat bl bb kb m ar ab ds dv (· =m) F w' (some [])->Ext w w'->(∀b,F b\/b=m\/b=bl->w.heap.size<=b)->K (oP bl 0) w'):vcall Qd #[dv] w K:=by
 refine zf {} Tryz.func155 ?_;have Y:=(M.decl_iff.1 A).2.2;have X:=M.bits_pos' (ds:=ds) λd B=>by
  obtain⟨i,hi,e⟩:=gr B;have:=(M.dcl_wide A hi).1;rw[q0,gi hi] at this;simp only[GG,e] at this;omega
 refine bitsOf_spec n A λw1 s=>?_;rw[j10,show M.bits ds=(((M.bits ds).toNat:Nat):Int) by omega];refine readNet_spec (Fx:=Fx) (gs:=[]) GatesR.nil (NetG.nil _) oM λw2 bc v' mb G t E=>?_;simp only[push_cast,xu0];refine zk λbb w3 J u S y=>?_;refine kinds_new λV kb q v Q=>?_;refine yp0 XB λm w5 hm D l T=>?_;obtain⟨o,c,rfl,_⟩:=n.shape;rw[xv0];refine zk λbl W L g U z=>?_;have s1:=s.size;have s2:=t.size;have s3:=u.size;have s4:=q.size;have s5:=l.size;have s6:=g.size;have r:=u.trans (q.trans (l.trans g));have x:=t.trans r;have k:=s.trans x;have j:∀b,YA bc mb v' b->b<w2.heap.size:=λb f=>G.lt f;have C:=v.ext (l.trans g);have N:=v.lt;have a:∀b,(YA bc mb v' b\/b=bb)->w.heap.size<=b/\b<V.heap.size:=λb f=>f.elim (λh=>by have:=E b h;have:=j b h;omega) λh=>oM
 refine I W bl bb kb m (λb=>YA bc mb v' b\/b=bb) ⟨⟨⟨?_,?_,?_⟩,⟨bc,y.ext (q.trans (l.trans g)),λgs e=>?_⟩,.inr rfl,λb f=>?_⟩,z,⟨λh=>by have:=(a _ h).2;omega,λh=>by have:=(a _ h).2;omega,?_,oM,oM⟩,rfl,?_,C,?_⟩ k λb f=>?_
 ·exact he.room.same k id
 ·exact he.bits.same k id
 ·have Z:=he.room.lt;have l2:=he.bits.lt;exact⟨λh=>by have:=(a _ h).1;omega,λh=>by have:=(a _ h).1;omega⟩
 ·cases e;exact⟨v',mb,G.ext r,λh=>by have:=j _ h;omega,λb f=> .inl f⟩
 ·rcases f with h|h
  ·have:=(a _ h).2;omega
  ·omega
 ·rintro(h|h)
  ·have:=j _ h;omega
  ·omega
 ·have H:DclsR (λb=>Fx b/\b<w.heap.size) w _ ds:=Sl.weaken n λb f O=>⟨f,O⟩;exact Sl.weaken (Sl.ext H k) λb f _=>⟨λh=>by have:=(a _ h).1;omega,λh=>oM⟩
 ·exact⟨[],D.ext g,λp R=>by cases R⟩
 ·rcases f with h|h|h
  ·exact(a _ h).1
  ·omega
  ·omega
theorem jG0 {t:M.Tm} (h:M.tsort ds t≠ -1):M.fits t=true/\M.declOk ds=true/\M.sortM ds t≠ -1/\M.sizeM t<=20:=by
 unfold M.tsort at h;split at h
 ·next a=>exact⟨a.1,a.2,h,(M.fits_iff.1 a.1).1⟩
 ·exact absurd rfl h
end
section
variable {w:World} {K:oK} {D F Fx Y S:Nat->Prop} {n b4 b8:Nat} {gs:M.Gs} {v nv:Value} {cs':List Value}
theorem net_one {a:Int} {o:Option Addr} {l c:Nat}:∀u,u∈[nI a,.slice o l c]->u.oneCell'=true:=λu hu=>by
 simp only[gd,gn,or_false] at hu;rcases hu with rfl|rfl<;>rfl
theorem qG0 {op:BinOp} (a:op= .eql\/op= .neq) (c:Bool) (x y:Array Value):(eqG op zm c (.agg x) (.agg y)).run P w= .ok () w:=by
 rcases a with rfl|rfl<;>cases c<;>kernel_rfl
theorem zT0 {c:Bool} (g h:M.Gt):xx .eql zm c (gv g) (gv h) w K=K (.bool (decide (g=h))) w:=by
 have a:(Op.equal zm (gv g) (gv h)).run P w= .ok (decide (g=h)) w:=eqGate g h w;refine ym (qG0 (.inl rfl) c _ _) ?_;have e:∀xs ys:Array Value,binOp .eql zm (.agg xs) (.agg ys)=(do let b <-Op.equal zm (.agg xs) (.agg ys);pure (Value.bool b)):=λ_ _=>rfl;unfold gv at a⊢;rw[e,Sem.run_bind,a];rfl
abbrev GOff (D:Nat->Prop) (w:World) (v:Value) (gs:M.Gs):Prop:=GatesR (λb=> ¬D b) w v gs
theorem GOff.swap {w':World} (h:GOff D w v gs) (hw:Same S w w') (d:∀b,S b->D b) (e:∀b,Y b->b<w.heap.size->D b):GOff Y w' v gs:=by
 have c:GatesR (λb=> ¬D b/\b<w.heap.size) w v gs:=Sl.weaken h λb a f=>⟨a,f⟩;exact Sl.weaken (Sl.same c hw λb a _ hs=>a.1 (d b hs)) λb a _ g=>a.1 (e b g a.2)
theorem gates_app {x:Value} {b1:Nat} {t0:TypeId} {g:M.Gt} (q:GatesR Fx w x gs) (l:Blk w b1 (yf g) t0) (s:gs.length<=1000) (o:OwnG w v []) (p:∀b,v.ownBlock=some b->b≠b1)
  (m:∀w' v',OwnG w' v' (gs++[g])->Same (λb=>v.ownBlock=some b\/w.heap.size<=b) w w'->(∀b,v'.ownBlock=some b->v.ownBlock=some b\/w.heap.size<=b)->K v' w'):
  vbi .append [zA,zA] zA [v,x] w λt w1=>vbi .append [zA,zA] zA [t,.slice (some ⟨b1,0,none⟩) 1 1] w1 K:=by
 refine vappend (bs:=24) qt dC o q (gone gs) oM (by rw[X0];simp;omega) (by rw[X0];simp;omega) λv' w2 i a c=>?_;have n:=l.lt;refine Own.app1k (bs:=24) i qt dC (l.same a λe=>p _ e rfl) rfl (gone [g] _ (by simp)) (by simp;omega) (by simp;omega) λv3 r j k f=>?_;have s2:=a.size;refine m r v3 (by unfold OwnG;rw[gw];exact j) (Same.thn (a.mono λb _ h=> .inl h) (k.mono λb _ h=>h) λb d=> .inl ((c b d).imp id id)) λb d=>?_;rcases f b d with h|h
 ·exact c b h
 ·exact .inr oM
theorem sput_spec {g:M.Gt} (hn:n<=8) (hg:GOff D w nv gs) (hl:gs.length<=600) (hD:∀b,D b->b<w.heap.size)
  (hK:∀w' n' gv',Ext w w'->GOff D w' gv' (if(M.putG n gs g).2=0 then[] else(M.putG n gs g).1)->(n'=if(M.putG n gs g).2=0 then 0 else n)->((M.putG n gs g).2=0->gv'= .slice none 0 0)->K (.tuple #[.agg ⟨[nI (n':Nat),gv']⟩,nI (M.putG n gs g).2]) w'):
  vcall QI #[.agg ⟨[nI n,nv]⟩,.agg ⟨yf g⟩] w K:=by
 refine zf {ord:=[oz 4 (oR 7) [(0,[2,5]),(1,[2,5]),(2,[5]),(3,[5]),(4,[5])],oz 5 (oR 8) [(0,[1,2,3,4,5]),(1,[4,6]),(2,[4,6]),(3,[4,6]),(4,[6]),(5,[6])],oz 9 (oR 10) [(0,[1,2,3,4,5,6,7]),(1,[4,5,6,8]),(2,[4,5,6,8]),(3,[4,5,6,8]),(4,[8]),(5,[8]),(6,[8]),(7,[8])]],loops:=[(2,[6])],cuts:=[(36873,[])],trees:=[(8,(.st 1 (.st 2 (.st 4 (.alt 0 (.alt 3 (.alt 5 (.alt 6 (.st 7 (.alt 8 .nil .no)) .no) .no) (.alt 5 (.alt 3 (.alt 6 (.st 7 (.alt 8 .nil .no)) .no) .no) .no)) (.alt 5 (.alt 0 (.alt 3 (.alt 6 (.st 7 (.alt 8 .nil .no)) .no) .no) .no) .no))))),[(0,[3,6,7,8]),(1,[2,3,6,7,8]),(2,[3,6,7,8]),(3,[6,7,8]),(4,[5,6,7,8]),(5,[6,7,8]),(6,[7,8]),(7,[8])])]} Tryz.func214 ?_;refine zk λb1 w1 aw W b0 ae=>?_;refine zk λb2 w2 ax Q b4 af=>?_;refine zi qR λb3 w3 ay a2 b5 a1=>?_;have e3:=W.trans (Q.trans a2);have a6:=ae.ext (Q.trans a2);have a7:=af.ext a2;have X:∀w':World,Blk w' b2 (yf g) zm->∀K:oK,zt zm (oP b2 0) w' K=K (.agg ⟨yf g⟩) w':=λw' hB K=>Blk.ldAgg hB (by exact xF);have hlen:∀(w':World) (K:oK),vbi .len [zA] zE [nv] w' K=K (nI gs.length) w':=λw' K=>by rw[Sl.len hg xW,yI0]
 obtain⟨go,gc,am,_⟩:=hg.shape;have aa:∀i,i<gs.length->gs.getD i ⟨false,0,0⟩=g->g∉gs.take i->(M.putG n gs g)=(gs,(2+n+i:Int)):=λi hi h1 h2=>by
  have hm:g∈gs:=h1▸M.getD_mem hi _;unfold M.putG;rw[if_pos hm];have:gs.idxOf g=i:=by
   have e:=pE i gs;have h3:gs.drop i=gs.getD i ⟨false,0,0⟩::gs.drop (i+1):=by
    rw[PD hi,q0,gi hi];rfl
   rw[<-e,pH,if_neg h2,h3,h1,List.idxOf_cons_self,gg];omega
  rw[this]
 refine vloop_up gs.length (λi u w'=>u=[nI i]/\Ext w3 w'/\g∉gs.take i) ⟨rfl,Same.refl _ _,by simp⟩ ?_;rintro i _ _ w4 C hi ⟨rfl,r,R⟩ hC;have B:=a6.ext r;have Z:=a7.ext r;have e4:=e3.trans r;simp(disch:=first|(simp only[push_cast])|omega) only[push_cast,B.ld1,hlen];refine zb (λa=>?_) (λa=>?_)
 ·have z:i<gs.length:=oM;refine zd λH l _=>?_;have j:=B.ext l;have E:=Z.ext l;have a9:GOff D H nv gs:=Sl.ext hg (e4.trans l);have al:(gs.map yf).getD i []=yf (gs.getD i ⟨false,0,0⟩):=M.getD_map _ z _ _;simp(disch:=first|(simp only[push_cast])|omega) only[push_cast,j.ld1,true_and];rw[Sl.iaddr a9 ZS oM (by rw[yI0];omega),gm];simp(disch:=first|(simp only[push_cast])|omega) only[push_cast,true_and];rw[Sl.ldAgg a9 xF (by rw[yI0];exact z),al];simp(disch:=first|(simp only[push_cast])|omega) only[push_cast,true_and,X _ E];rw[show(Value.agg ⟨yf (gs.getD i ⟨false,0,0⟩)⟩)=gv (gs.getD i ⟨false,0,0⟩) from rfl,show(Value.agg ⟨yf g⟩)=gv g from rfl,zT0];refine⟨rfl,?_⟩;refine zb (λc=>?_) (λc=>?_)
  ·have hp:=aa i z c R;rw[hp] at hK;refine zd λI f _=>?_;have d:=j.ext f;have O:=(a1.ext (r.trans l)).ext f;subst am;simp(disch:=first|(simp only[push_cast])|omega) only[push_cast,d.ld0,d.ldAgg (t:=zw) y0,true_and,zj];refine O.stAgg (cs':=[nI n,.slice go (gs.map yf).length gc]) rfl y0 net_one λv m Y q=>?_;have e7:Ext w v:=Ext.then ((e4.trans l).trans f) m λb p=>by have:=W.size;have:=Q.size;omega
   have k:=d.same m (show¬b1=b3 by omega);simp(disch:=first|(simp only[push_cast])|omega) only[push_cast,k.ld0,true_and,and_self,zj];rw[q.lv (t:=zw) y0];refine hK v n _ e7 ?_ ?_ ?_
   ·rw[if_neg (by show(2+(n:Int)+i)≠0;omega)];exact Sl.ext hg e7
   ·rw[if_neg (by show(2+(n:Int)+i)≠0;omega)]
   ·intro h;exfalso;revert h;show(2+(n:Int)+i)=0->False;omega
  ·simp(disch:=omega) only[push_cast,zj];refine hC z _ _ ⟨by simp,r.trans l,?_⟩;rw[M.take_add z ⟨false,0,0⟩];intro h;rcases gk.1 h with h|h
   ·exact R h
   ·exact c (gq.1 h).symm
 ·have z:i=gs.length:=oM;subst z;rw[gx] at R
  try simp(disch:=first|(simp only[push_cast])|omega) only[push_cast,B.ld1,hlen]
  refine zb (λc=>?_) (λc=>?_)
  ·have hp:M.putG n gs g=(gs,0):=by unfold M.putG;rw[if_neg R,if_pos oM]
   rw[hp] at hK;rw[Zc0];refine(a1.ext r).stAgg (cs':=[nI 0,.slice none 0 0]) rfl y0 net_one λv m Y q=>?_;rw[q.lv (t:=zw) y0];have e7:Ext w v:=Ext.then e4 m λb p=>by have:=W.size;have:=Q.size;omega
   exact hK v 0 _ e7 (by rw[if_pos rfl];exact GatesR.nil) (by rw[if_pos rfl]) λ_=>rfl
  ·have hp:M.putG n gs g=(gs++[g],(2+n+gs.length:Int)):=by unfold M.putG;rw[if_neg R,if_neg oM]
   rw[hp] at hK;have s1:=W.size;have s2:=Q.size;have s4:=e4.size;have bb:=r.size;refine zo (λu w'=>u=[]/\Ext w w'/\∃v',Blk w' b1 [nI n,v'] zw/\Blk w' b3 [nI 0,.slice none 0 0] zw/\OwnG w' v' (gs++[g])/\∀b,v'.ownBlock=some b->w.heap.size<=b/\b≠b1/\b≠b3) ?_ ?_
   ·intro J hJ;refine zd λH l _=>?_;have e5:=e4.trans l;have j:=B.ext l;have E:=Z.ext l;have N:=(a1.ext r).ext l;have s5:=l.size;have fin:∀(U:World) (v':Value),Same (λb=>H.heap.size<=b) H U->OwnG U v' (gs++[g])->(∀b,v'.ownBlock=some b->H.heap.size<=b)->zT zA (.pointer (some (Addr.add ⟨b1,0,none⟩ 1))) v' U λ_ ad=>J [] ad:=λU v' L A G=>by
     have e8:Ext H U:=⟨L.os,L.tape,L.output,L.size,λi hi _=>L.block i hi oM⟩;refine Blk.st (i:=1) (j.ext e8) (Sl.cells1 (Own.sl A)) (Sl.one (Own.sl A)) QF rfl λw9 T ba ah=>?_;refine hJ _ _ ⟨rfl,Ext.then (e5.trans e8) T λb p=>oM,v',ah,(N.ext e8).same T (show¬b3=b1 by omega),Own.same A T (λb p e=>by have:=G b p;omega),λb p=>by have:=G b p;omega⟩
    simp(disch:=first|(simp only[push_cast])|omega) only[push_cast,j.ld1,X _ E,true_and,and_true];have mk:∀(I:World) (K:oK),(∀b7 v,b7=I.heap.size->Ext I v->v.heap.size=I.heap.size+1->Blk v b7 (yf g) zm->K (.slice (some ⟨b7,0,none⟩) 1 1) v)->vbuildS zA 1 [(0,.agg ⟨yf g⟩)] I K:=λI K h=>
     qz j7 rK kc (y:=yf g) rfl rfl (show 3<=16777216 by decide) h
    have nil:∀{I:World} {F:Nat},Blk I F [] zm->OwnG I (.slice (some ⟨F,0,none⟩) 0 0) []:=λh=>Blk.ownk (css:=[]) (by rw[XK];exact h) (λx hx=>by cases hx) rfl oM;refine⟨?_,?_⟩
    ·refine yo j7 YJ λF I aj f av V=>?_;have d:=j.ext f;have a0:=E.ext f;simp(disch:=first|(simp only[push_cast])|omega) only[push_cast,d.ld1,X _ a0,true_and,and_true,and_self];refine⟨?_,?_⟩
     ·refine vappend (bs:=24) qt dC (nil V) (Sl.ext hg (e5.trans f)) (gone gs) oM (by rw[X0];simp;omega) (by rw[X0];simp;omega) λv7 v aq m an=>?_;have s7:=m.size;have a8:=a0.same m λe=>by have e:F=b2:=K3 e;omega
      simp(disch:=first|(simp only[push_cast])|omega) only[push_cast,X _ a8,true_and,and_true,and_self];refine mk v _ λb8 U az a3 b9 ag=>?_;have n7:∀b,v7.ownBlock=some b->H.heap.size<=b:=λb p=>(an b p).elim (λe=>by have e:F=b:=K3 e;omega) λh=>oM;refine Own.app1k (bs:=24) (Own.ext aq a3) qt dC ag rfl (gone [g] _ (by simp)) (by simp;omega) (by simp;omega) λv9 w9 ar T ao=>?_
      try simp(disch:=first|(simp only[push_cast])|omega) only[push_cast,true_and,and_true,and_self]
      have s8:=a3.size;refine fin w9 v9 (Same.thn (((Same.of_ext f).trans (m.mono (S':=λb=>H.heap.size<=b) λb _ e=>by have e:F=b:=K3 e;omega)).trans (Same.of_ext a3)) (T.mono (S':=λb=>H.heap.size<=b) λb _ e=>n7 b e) λb p=> .inl p) (by unfold OwnG;rw[gw];exact ar) λb p=>(ao b p).elim (n7 b) λh=>oM
     ·refine mk I _ λb7 v ak s Y q=>?_;have k:=d.ext s;simp(disch:=first|(simp only[push_cast])|omega) only[push_cast,k.ld1,true_and,and_true,and_self];refine gates_app (Sl.ext hg ((e5.trans f).trans s)) q oM (nil (V.ext s)) (λb e=>by have e:F=b:=K3 e;omega) λU v8 A a5 G=>?_
      try simp(disch:=first|(simp only[push_cast])|omega) only[push_cast,true_and,and_true,and_self]
      refine fin U v8 (((Same.of_ext (f.trans s))).trans (a5.mono (S':=λb=>H.heap.size<=b) λb _ e=>e.elim (λe=>by have e:F=b:=K3 e;omega) λh=>oM)) A λb p=>(G b p).elim (λe=>by have e:F=b:=K3 e;omega) λh=>oM
    ·refine mk H _ λb7 v ak s Y q=>?_;have k:=j.ext s;simp(disch:=first|(simp only[push_cast])|omega) only[push_cast,k.ld1,true_and,and_true,and_self];refine yo j7 YJ λF I aj f av V=>?_;have d:=k.ext f;simp(disch:=first|(simp only[push_cast])|omega) only[push_cast,d.ld1,true_and,and_true,and_self];refine gates_app (Sl.ext hg ((e5.trans s).trans f)) (q.ext f) oM (nil V) (λb e=>by have e:F=b:=K3 e;omega) λU v8 A a5 G=>?_
     try simp(disch:=first|(simp only[push_cast])|omega) only[push_cast,true_and,and_true,and_self]
     refine fin U v8 (((Same.of_ext (s.trans f))).trans (a5.mono (S':=λb=>H.heap.size<=b) λb _ e=>e.elim (λe=>by have e:F=b:=K3 e;omega) λh=>oM)) A λb p=>(G b p).elim (λe=>by have e:F=b:=K3 e;omega) λh=>oM
   rintro _ _ H ⟨rfl,e5,v',j,N,a4,ac⟩;refine zd λI f _=>?_;have d:=j.ext f;have ap:=Own.ext a4 f;have O:=N.ext f;have ab:∀(w':World) (K:oK),vbi .len [zA] zE [v'] w' K=K (nI ((gs.length+1:Nat):Int)) w':=λw' K=>by
    rw[Sl.len (Own.sl a4) xW,X0,V0];rfl
   obtain⟨o,c',au,_⟩:=(Own.sl a4).shape;simp(disch:=first|(simp only[push_cast])|omega) only[push_cast,d.ld0,d.ld1,ab,d.ldAgg (t:=zw) y0,true_and,zj];subst au;refine O.stAgg (cs':=[nI n,.slice o (List.map yf (gs++[g])).length c']) rfl y0 net_one λv m Y q=>?_;have k:=d.same m (show¬b1=b3 by omega);simp(disch:=first|(simp only[push_cast])|omega) only[push_cast,k.ld0,k.ld1,ab,true_and,and_self,zj];rw[q.lv (t:=zw) y0];have e7:Ext w v:=Ext.then (e5.trans f) m λb p=>oM;have S:(2+(n:Int)+gs.length)≠0:=oM;have ai:=hK v n (.slice o (List.map yf (gs++[g])).length c') e7 (by rw[if_neg S];exact Sl.weaken (Own.sl (Own.same ap m λb p e=>(ac b p).2.2 e)) λb p _ hd=>by have:=hD b hd;have:=(ac b p).1;omega) (by rw[if_neg S]) λh=>absurd h S;rwa[show(2+(n:Int)+gs.length)=1+n+((gs.length+1:Nat):Int) by omega] at ai
end
section
variable {w:World} {K:oK} {D F Y S:Nat->Prop} {n b8:Nat} {gs:M.Gs} {v nv:Value} {cs cs':List Value} {a b m:Int}
def NetO (n:Nat) (D:Nat->Prop) (w:World) (gs:M.Gs) (m:Int) (cs:List Value):Prop:=
 if m=0 then cs=[nI 0,.slice none 0 0] else ∃o l c,cs=[nI n,.slice o l c]/\GOff D w (.slice o l c) gs/\gs.length<=600
theorem NetO.form (h:NetO n D w gs m cs):∃(x:Int) (o:Option Addr) (l c:Nat),cs=[nI x,.slice o l c]:=by
 unfold NetO at h;split at h
 ·exact⟨_,_,_,_,h⟩
 ·obtain⟨o,l,c,e,_⟩:=h;exact⟨_,_,_,_,e⟩
theorem NetO.len (h:NetO n D w gs m cs):cs.length=2:=by obtain⟨x,o,l,c,rfl⟩:=h.form;rfl
theorem NetO.one (h:NetO n D w gs m cs):∀u,u∈cs->u.oneCell'=true:=by obtain⟨x,o,l,c,rfl⟩:=h.form;exact net_one
theorem NetO.same {w':World} (h:NetO n D w gs m cs) (hw:Same S w w') (f:∀b,S b->D b):NetO n D w' gs m cs:=by
 unfold NetO at h⊢;by_cases hm:m=0
 ·rw[if_pos hm] at h⊢;exact h
 ·rw[if_neg hm] at h⊢;obtain⟨o,l,c,e,a,d⟩:=h;exact⟨o,l,c,e,a.swap hw f λb g _=>g,d⟩
theorem NetO.weak {Y:Nat->Prop} (h:NetO n D w gs m cs) (f:∀b,Y b->D b):NetO n Y w gs m cs:=by
 unfold NetO at h⊢;by_cases hm:m=0
 ·rw[if_pos hm] at h⊢;exact h
 ·rw[if_neg hm] at h⊢;obtain⟨o,l,c,e,a,d⟩:=h;exact⟨o,l,c,e,Sl.weaken a λb g _ i=>g (f b i),d⟩
theorem NetO.put {f:Nat} {a:Value} (d:GOff D w a (if m=0 then[] else gs)) (b:f=if m=0 then 0 else n) (g:m=0->a= .slice none 0 0) (h:gs.length<=600):NetO n D w gs m [nI (f:Nat),a]:=by
 unfold NetO;by_cases c:m=0
 ·rw[if_pos c] at b⊢;rw[b,g c];rfl
 ·rw[if_neg c] at d b⊢;obtain⟨o,c',e,_⟩:=d.shape;exact⟨o,_,c',by rw[b,e],by rw[<-e];exact d,h⟩
theorem NetO.of {o:Option Addr} {l c:Nat} (h:GOff D w (.slice o l c) gs) (a:gs.length<=600) (hm:m≠0):NetO n D w gs m [nI n,.slice o l c]:=by
 unfold NetO;rw[if_neg hm];exact⟨o,l,c,rfl,h,a⟩
theorem put_len {g:M.Gt} (h:gs.length<=600):(M.putG n gs g).1.length<=600:=by
 unfold M.putG;split
 ·exact h
 ·split
  ·exact h
  ·rw[V0,gX];omega
theorem l4Abs_sm (c:Sm a) (b:K (nI (M.absI a)) w):vcall QJ #[nI a] w K:=by
 refine zf {} Tryz.func213 ?_;unfold M.absI at b;simp only[push_cast];refine zb (λh=>?_) (λh=>?_)
 ·rw[if_pos h] at b;simp(disch:=omega) only[push_cast,zj,gN];exact b
 ·rw[if_neg h] at b;exact b
theorem yR0 (x y:Int):yj zm [(1,nI x),(2,nI y)] w K=K (.agg ⟨yf ⟨false,x,y⟩⟩) w:=zR Zd (us:=[[nI x],[nI y]]) rfl rfl
theorem kp0 (x y:Int):yj zm [(0,.bool true),(1,nI x),(2,nI y)] w K=K (.agg ⟨yf ⟨true,x,y⟩⟩) w:=zR Zd (us:=[[.bool true],[nI x],[nI y]]) rfl rfl
theorem net_out {b2:Nat} {a:List Value} (e:Blk w b2 a zw) (g:a.length=2) (c:cs.length=2) (d:∀u,u∈cs->u.oneCell'=true) (f:∀w',Same (· =b2) w w'->K (.agg ⟨cs⟩) w'):
  zT zw (oP b2 0) (.agg ⟨cs⟩) w λ_ w1=>vlv zw (oP b2 0) w1 K:=by
 refine e.stAgg (cs':=cs) oM (by rw[c];exact y0) d λw1 hs h b=>?_;rw[b.lv (t:=zw) (by rw[c];exact y0)];exact f w1 hs
theorem sand6_spec (hn:n<=8) (L:GOff D w nv gs) (l:gs.length<=600) (hD:∀b,D b->b<w.heap.size) (ha:Sm a) (d:Sm b) (R:a≠0) (S:b≠0)
  (I:∀w' cs,Ext w w'->NetO n D w' (M.andG n gs a b).1 (M.andG n gs a b).2 cs->K (.tuple #[.agg ⟨cs⟩,nI (M.andG n gs a b).2]) w'):
  vcall UZ #[.agg ⟨[nI n,nv]⟩,nI a,nI b] w K:=by
 refine zf {cuts:=[(8201,[]),(8194,[8]),(16388,[22])]} Tryz.func178 ?_;obtain⟨go,gc,U,_⟩:=L.shape;rw[U] at L⊢;refine zk λb1 w1 a0 r a2 O=>?_;refine zi qR λb2 w2 a1 j a3 p=>?_;have N:=r.trans j;have o:=O.ext j;have f:∀K:oK,zt zw (oP b1 0) w2 K=K (.agg ⟨[nI n,.slice go (gs.map yf).length gc]⟩) w2:=λK=>o.ldAgg (t:=zw) y0;have z1:=r.size;have z2:=j.size;have same:∀(x:Int),x≠0->(M.andG n gs a b)=(gs,x)->∀w':World,w'=w2->zT zw (oP b2 0) (.agg ⟨[nI n,.slice go (gs.map yf).length gc]⟩) w' λ_ A=>vlv zw (oP b2 0) A λr6 B=>K (.tuple #[r6,(nI x)]) B:=λx hx e w' ew=>by
  subst ew;rw[e] at I;refine net_out p rfl rfl net_one λm X=>?_;have e3:Ext w m:=Ext.then N X λy Y=>by subst Y;omega
  exact I m _ e3 (NetO.of (Sl.ext L e3) l hx)
 have V:GatesR (λb=> ¬D b/\b<w.heap.size) w (.slice go (gs.map yf).length gc) gs:=Sl.weaken L λb d l=>⟨d,l⟩;have put:∀g:M.Gt,(M.andG n gs a b)=M.putG n gs g->vcall QI #[.agg ⟨[nI n,.slice go (gs.map yf).length gc]⟩,.agg ⟨yf g⟩] w2 λt47 C=>qx t47 0 C λt48 E=>qx t47 1 E λt49 F=>
   zT zw (oP b2 0) t48 F λ_ G=>vlv zw (oP b2 0) G λz H=>K (.tuple #[z,t49]) H:=λg e=>by
  rw[e] at I;refine sput_spec (D:=λb=>D b\/b=b2) hn (Sl.weaken (Sl.ext V N) λb d l hd=>hd.elim d.1 λe=>by have:=d.2;omega) l (λb d=>d.elim (λh=>by have:=hD b h;omega) λh=>oM) λm n' a4 s T W Z=>?_;simp only[push_cast];have Q:=NetO.put T W Z (put_len l);refine net_out (p.ext s) rfl Q.len Q.one λw4 v=>?_;exact I w4 _ (Ext.then (N.trans s) v λy Y=>by subst Y;omega) ((Q.same v λb d=> .inr d).weak λb d=> .inl d)
 unfold Sm at ha d;refine zo (λu w'=>u=[]/\w'=w2/\M.andG n gs a b=M.putG n gs ⟨false,a,b⟩) ?_ ?_
 ·intro J hJ;refine zo (λu w'=>u=[.bool (decide (a= -1\/b= -1\/a= -b))]/\w'=w2) ?_ ?_
  ·intro J1 i;simp only[push_cast];refine zb (λc=>i _ _ ⟨by rw[decide_eq_true (.inl c)],rfl⟩) (λc=>?_)
   try simp only[push_cast]
   refine zb (λc2=>i _ _ ⟨by rw[decide_eq_true (.inr (.inl c2))],rfl⟩) (λc2=>?_);simp(disch:=omega) only[push_cast,zj,gN];refine i _ _ ⟨?_,rfl⟩;rw[decide_eq_decide.2 (show(a= -1\/b= -1\/a= -b)↔a= -b from⟨λh=>h.elim (λh=>absurd h c) λh=>h.elim (λh=>absurd h c2) id,λh=> .inr (.inr h)⟩)]
  rintro _ _ m ⟨rfl,rfl⟩;simp only[push_cast];refine zb (λc=>?_) (λc=>?_)
  ·rw[f];refine same (-1) dC ?_ _ rfl;unfold M.andG;by_cases c1:a= -1\/b= -1
   ·rw[if_pos c1]
   ·rw[if_neg c1];have c2:a= -b:=c.elim (λh=>absurd (.inl h) c1) λh=>h.elim (λh=>absurd (.inr h) c1) id;rw[if_neg oM,if_neg oM];by_cases c3:a=b
    ·exfalso;omega
    ·rw[if_neg c3,if_pos c2]
  refine zo (λu w'=>u=[.bool (decide (a=1\/a=b))]/\w'=m) ?_ ?_
  ·intro J2 q
   try simp only[push_cast]
   refine zb (λc=>q _ _ ⟨by rw[decide_eq_true (.inl c)],rfl⟩) (λc2=>?_)
   try simp only[push_cast]
   refine q _ _ ⟨?_,rfl⟩;rw[decide_eq_decide.2 (show(a=1\/a=b)↔a=b from⟨λh=>h.elim (λh=>absurd h c2) id,.inr⟩)]
  rintro _ _ w4 ⟨rfl,rfl⟩;have c1: ¬(a= -1\/b= -1):=λh=>c (h.elim .inl λh=> .inr (.inl h));simp only[push_cast];refine zb (λc2=>?_) (λc2=>?_)
  ·rw[f];refine same b S ?_ _ rfl;unfold M.andG;rw[if_neg c1];by_cases c3:a=1
   ·rw[if_pos c3]
   ·have k:a=b:=c2.elim (λh=>absurd h c3) id;rw[if_neg c3];by_cases c5:b=1
    ·omega
    ·rw[if_neg c5,if_pos k,k]
  try simp only[push_cast]
  refine zb (λc3=>?_) (λc3=>?_)
  ·rw[f];refine same a R ?_ _ rfl;unfold M.andG;rw[if_neg c1,if_neg (λh=>c2 (.inl h)),if_pos c3]
  have hand:M.andG n gs a b=M.putG n gs (M.gateA a b):=by
   unfold M.andG;rw[if_neg c1,if_neg (λh=>c2 (.inl h)),if_neg c3,if_neg (λh=>c2 (.inr h)),if_neg (λh=>c (.inr (.inr h)))]
  refine l4Abs_sm ha (l4Abs_sm d ?_)
  try simp only[push_cast]
  unfold M.gateA at hand;refine zb (λk=>?_) (λk=>?_)
  ·rw[if_pos k] at hand;rw[f,yR0];exact put _ hand
  ·rw[if_neg k] at hand;exact hJ _ _ ⟨rfl,rfl,hand⟩
 rintro _ _ m ⟨rfl,rfl,hp⟩;rw[f,yR0];exact put _ hp
theorem sxor6_spec (hn:n<=8) (Q:GOff D w nv gs) (z:gs.length<=600) (hD:∀b,D b->b<w.heap.size) (W:Sm a) (j:Sm b) (a6:a≠0) (a7:b≠0)
  (O:∀w' cs,Ext w w'->NetO n D w' (M.xorG n gs a b).1 (M.xorG n gs a b).2 cs->K (.tuple #[.agg ⟨cs⟩,nI (M.xorG n gs a b).2]) w'):
  vcall UX #[.agg ⟨[nI n,nv]⟩,nI a,nI b] w K:=by
 refine zf {cuts:=[(8201,[]),(8194,[13]),(16388,[25]),(45068,[8]),(53262,[8]),(69651,[9,10])]} Tryz.func215 ?_;obtain⟨go,gc,Z,_⟩:=Q.shape;rw[Z] at Q⊢;refine zk λb1 w1 a8 H ad T=>?_;refine zi qR λb2 w2 a9 s ae F=>?_;have R:=H.trans s;have E:=T.ext s;have o:∀K:oK,zt zw (oP b1 0) w2 K=K (.agg ⟨[nI n,.slice go (gs.map yf).length gc]⟩) w2:=λK=>E.ldAgg (t:=zw) y0;have z1:=H.size;have z2:=s.size;have same:∀(x:Int),x≠0->(M.xorG n gs a b)=(gs,x)->∀w':World,w'=w2->zT zw (oP b2 0) (.agg ⟨[nI n,.slice go (gs.map yf).length gc]⟩) w' λ_ I=>vlv zw (oP b2 0) I λr6 L=>K (.tuple #[r6,(nI x)]) L:=λx hx e w' ew=>by
  subst ew;rw[e] at O;refine net_out F rfl rfl net_one λC a2=>?_;have e3:Ext w C:=Ext.then R a2 λy B=>by subst B;omega
  exact O C _ e3 (NetO.of (Sl.ext Q e3) z hx)
 have a0:GatesR (λb=> ¬D b/\b<w.heap.size) w (.slice go (gs.map yf).length gc) gs:=Sl.weaken Q λb j z=>⟨j,z⟩;have absN:∀a:Int,M.absI a=(a.natAbs:Int):=λa=>by unfold M.absI;split<;>omega
 have na:=absN a;have nb:=absN b;unfold Sm at W j;refine zo (λu w'=>u=[]/\w'=w2/\M.xorG n gs a b=((M.putG n gs (M.gateX a b)).1,M.turnI (decide (a<0) != decide (b<0)) (M.putG n gs (M.gateX a b)).2)) ?_ ?_
 ·intro J hJ;refine zo (λu w'=>u=[.bool (decide (a=1\/a= -1))]/\w'=w2) ?_ ?_
  ·intro N i;simp only[push_cast];refine zb (λc=>i _ _ ⟨by rw[decide_eq_true (.inl c)],rfl⟩) (λc=>?_)
   try simp only[push_cast]
   refine i _ _ ⟨?_,rfl⟩;rw[decide_eq_decide.2 (show(a=1\/a= -1)↔a= -1 from⟨λh=>h.elim (λh=>absurd h c) id,.inr⟩)]
  rintro _ _ C ⟨rfl,rfl⟩;simp only[push_cast];refine zb (λc=>?_) (λc=>?_)
  ·rw[o];have e:M.xorG n gs a b=(gs,-a*b):=by
    unfold M.xorG;rcases c with rfl|rfl
    ·rw[if_pos dC];simp[M.turnI]
    ·rw[if_pos dC];simp[M.turnI]
   have hm:(-a*b).natAbs=b.natAbs:=by rcases c with rfl|rfl<;>simp
   have k: -a*b≠0:=oM;simp(disch:=omega) only[push_cast,zj,gN];exact same (-a*b) k e _ rfl
  refine zo (λu w'=>u=[.bool (decide (b=1\/b= -1))]/\w'=C) ?_ ?_
  ·intro N i
   try simp only[push_cast]
   refine zb (λc=>i _ _ ⟨by rw[decide_eq_true (.inl c)],rfl⟩) (λc=>?_)
   try simp only[push_cast]
   refine i _ _ ⟨?_,rfl⟩;rw[decide_eq_decide.2 (show(b=1\/b= -1)↔b= -1 from⟨λh=>h.elim (λh=>absurd h c) id,.inr⟩)]
  rintro _ _ w4 ⟨rfl,rfl⟩;simp only[push_cast];have c1: ¬M.absI a=1:=oM;refine zb (λd=>?_) (λd=>?_)
  ·rw[o];have e:M.xorG n gs a b=(gs,-b*a):=by
    unfold M.xorG;rw[if_neg c1];rcases d with rfl|rfl
    ·rw[if_pos dC];simp[M.turnI]
    ·rw[if_pos dC];simp[M.turnI]
   have hm:(-b*a).natAbs=a.natAbs:=by rcases d with rfl|rfl<;>simp
   have k: -b*a≠0:=oM;simp(disch:=omega) only[push_cast,zj,gN];exact same (-b*a) k e _ rfl
  have c2: ¬M.absI b=1:=oM
  try simp only[push_cast]
  refine zb (λf=>?_) (λf=>?_)
  ·rw[o];exact same (-1) dC (by unfold M.xorG;rw[if_neg c1,if_neg c2,if_pos f]) _ rfl
  try simp(disch:=omega) only[push_cast,zj,gN]
  refine zb (λf2=>?_) (λf2=>?_)
  ·rw[o];exact same 1 dC (by unfold M.xorG;rw[if_neg c1,if_neg c2,if_neg f,if_pos f2]) _ rfl
  exact hJ _ _ ⟨rfl,rfl,by unfold M.xorG;rw[if_neg c1,if_neg c2,if_neg f,if_neg f2]⟩
 rintro _ _ C ⟨rfl,rfl,hx⟩;rw[hx] at O;have ac:=put_abs (g:=M.gateX a b) z hn;refine zo (λu w'=>u=[nI (if a<0 then-1 else 1)]/\w'=C) ?_ ?_
 ·intro N i;simp only[push_cast];refine zb (λc=>?_) (λc=>?_)
  ·simp(disch:=omega) only[push_cast,zj,gN];exact i _ _ ⟨by rw[if_pos c],rfl⟩
  ·exact i _ _ ⟨by rw[if_neg c],rfl⟩
 rintro _ _ w4 ⟨rfl,rfl⟩;refine zo (λu w'=>u=[nI (if(decide (a<0) != decide (b<0)) then-1 else 1)]/\w'=w4) ?_ ?_
 ·intro N i;simp only[push_cast];refine zb (λc=>?_) (λc=>?_)
  ·by_cases d:a<0
   ·rw[if_pos d];simp(disch:=omega) only[push_cast,zj,gN];exact i _ _ ⟨by simp[c,d],rfl⟩
   ·rw[if_neg d];simp(disch:=omega) only[push_cast,zj,gN];exact i _ _ ⟨by simp[c,d],rfl⟩
  ·refine i _ _ ⟨?_,rfl⟩;by_cases d:a<0<;>simp[c,d]
 rintro _ _ w5 ⟨rfl,rfl⟩;refine l4Abs_sm W (l4Abs_sm j ?_);refine zo (λu w'=>u=[nI (M.gateX a b).a,nI (M.gateX a b).b]/\w'=w5) ?_ ?_
 ·intro N i
  try simp only[push_cast]
  unfold M.gateX at i;refine zb (λc=>?_) (λc=>?_)
  ·rw[if_pos c] at i;exact l4Abs_sm j (l4Abs_sm W (i _ _ ⟨rfl,rfl⟩))
  ·rw[if_neg c] at i;exact i _ _ ⟨rfl,rfl⟩
 rintro _ _ w6 ⟨rfl,rfl⟩
 try simp only[push_cast]
 rw[o,kp0,show(⟨true,(M.gateX a b).a,(M.gateX a b).b⟩:M.Gt)=M.gateX a b from by unfold M.gateX;split<;>rfl];refine sput_spec (D:=λb=>D b\/b=b2) hn (Sl.weaken (Sl.ext a0 R) λb j z hd=>hd.elim j.1 λe=>by have:=j.2;omega) z (λb j=>j.elim (λh=>by have:=hD b h;omega) λh=>oM) λw7 n' a4 v X a1 a3=>?_;simp only[push_cast];have q:=NetO.put X a1 a3 (put_len z);generalize [nI (n':Nat),a4]=cs at q⊢;generalize ab:(M.putG n gs (M.gateX a b)).2=pm at*;have r:=q.len;refine zi qR λb8 w8 aa m af U=>?_;have a5:=q.same (Same.of_ext m (S:=λ_=>False)) λb j=>j.elim;refine U.stAgg (cs':=cs) (by rw[r];rfl) (by rw[r];exact y0) q.one λw9 A ag V=>?_;rw[V.ldAgg (t:=zw) (by rw[r];exact y0)];have hmul:(if(decide (a<0) != decide (b<0))=true then(-1:Int) else 1)*pm=M.turnI (decide (a<0) != decide (b<0)) pm:=by
  unfold M.turnI;split<;>omega
 try simp only[push_cast]
 rw[hmul,zj (by have:=Jo (c:=decide (a<0) != decide (b<0)) (a:=pm);omega) (by have:=Jo (c:=decide (a<0) != decide (b<0)) (a:=pm);omega)];have l7:=v.size;have l8:=m.size;have G:=((F.ext v).ext m).same A (show¬b2=b8 by omega);refine net_out G rfl q.len q.one λw10 p=>?_;have e9:Ext w w9:=Ext.then ((R.trans v).trans m) A λy B=>by subst B;omega
 refine O w10 _ (Ext.then e9 p λy B=>by subst B;omega) ?_;have h9:Ext w7 w9:=Ext.then m A λy B=>by subst B;omega
 have l:=((q.same (Same.of_ext h9 (S:=λ_=>False)) λb j=>j.elim).same p λb j=> .inr j).weak (Y:=D) λb j=> .inl j;unfold NetO at l⊢;by_cases k:pm=0
 ·rw[if_pos k] at l;rw[if_pos (M.turn_zero.2 k)];exact l
 ·rw[if_neg k] at l;rw[if_neg (λh=>k (M.turn_zero.1 h))];exact l
end
end Go.Proofs.YtolbhkcajhlllaaGreatDoor
end
