import Derived.Test.YtolbhkcajhlllaaGreatDoorWwaP3
/- A part of the proof. -/
set_option linter.all false
set_option maxRecDepth 9999
set_option maxHeartbeats 2000000
noncomputable section
namespace Go.Proofs.YtolbhkcajhlllaaGreatDoor
open Go Go.Vc Go.Proofs
section
variable {w:World} {K:oK} {F F' X Q:Nat->Prop} {n bc bb:Nat} {v:Value} {ar ab:Addr} {st:Option M.Gs}
theorem yM0 {s:Int} {xs:List Int} {j:Nat} (h:xs.length<=j):M.rowB s (xs.drop j)= .ret []:=by rw[gP h];rfl
theorem qp0 {s:Int} {xs:List Int} {j:Nat} (h:j<xs.length):M.rowB s (xs.drop j)= .and (xs.getD j 0) s λv=>(M.rowB s (xs.drop (j+1))).map (v:: ·):=by rw[yW h];rfl
theorem yR0 {xs ys s:List Int} {i j:Nat} (h:ys.length<=j):M.mulB xs (ys.drop j) i s= .ret s:=by rw[gP h];rfl
def P2 (l t:Nat) (F:Nat->Prop) (b:Nat):Prop:=F b\/b=l\/b=t
theorem Mv.p2 {w':World} {l t:Nat} (h:Mv F w F' w'):Mv (P2 l t F) w (P2 l t F') w':=
 ⟨h.same.mono λ_ _ h=> .inl h,λb a=>a.elim (λa=>(h.new b a).imp .inl id) λa=> .inl (.inr a)⟩
theorem Mv.sub {w' w'':World} {S:Nat->Prop} (h:Mv F w F' w') (hs:Same S w' w'') (a:∀b,S b->F' b):Mv F w F' w'':=h.to hs λb c=> .inl (a b c)
theorem Ints.notD {xs:List Int} {D:Nat} {ds:Option (List Deferred)} (h:Ints F w v xs) (q:w.heap[D]?=some (.deferred ds)):Ints (λb=>F b/\b≠D) w v xs:=by
 obtain⟨⟨a,c,r,p,hm,n⟩,k⟩:=h;refine⟨⟨a,c,r,p,hm,λg=>?_⟩,k⟩;obtain⟨b,o,m,l,i,d⟩:=n g;refine⟨b,o,m,⟨l,λe=>?_⟩,i,d⟩;subst e;have j:=Gu.2 g;have hw:=k _ (M.getD_mem j []);have f:=d 0 j 0 _ (y4 oM);rw[yw] at f;simp[World.cell?,q] at f
theorem mul_spec {xv yv:Value} {xs ys:List Int} (h:BdR n bb ar ab X F w st) (hx:Ints (Off X F) w xv xs) (hy:Ints (Off X F) w yv ys) (hl:xs.length=ys.length) (h8:xs.length<=900) (cw:SmL xs) (cx:SmL ys)
  (hK:∀w' F' st' r zs,BdR n bb ar ab X F' w' st'->Mv F w F' w'->Ints (Off X F') w' r zs->SmL zs->M.Bd.Out n (M.mulB xs ys 0 (M.offsL xs.length)) st st' zs->K r w'):
  vcall kq #[oP bb 0,xv,yv] w K:=by
 apply XZ;unfold qN;have cm:=h.lt;refine yn λb3 w1 de aw dr aq=>?_;replace aq:Blk w1 b3 [oP bb 0] yG:=aq;have cu:Ints (Off X F) w1 xv xs:=hx.ext aw;simp(disch:=first|(simp only[push_cast])|omega) only[push_cast,cu.len];refine offs_spec oM λw2 ba ax a9 co=>?_;refine qj qB λd w3 df a4 ds au=>?_;replace au:Blk w3 d [.slice none 0 0] zf:=au;refine Blk.st (i:=0) au (Sl.cells1 (a9.ext a4).ints) (Sl.one (a9.ext a4).ints) j3 rfl λw4 bu cy a1=>?_;replace a1:Blk w4 d [ba] zf:=a1;have z2:=ax.size;have e2:=aw.trans ax;have an:Ext w1 w4:=Ext.then (ax.trans a4) bu λb a=>oM
 have e4:=aw.trans an;have ag:=aq.ext an;have bv:=(a9.ext a4).same bu λb a hx=>by have:=a9.lt a;omega
 simp(disch:=first|(simp only[push_cast])|omega) only[push_cast,ag.ld0];refine zg {} Tryz.func299 ?_;refine yn λbq w5 dg bh dt av=>?_;replace av:Blk w5 bq [oP bb 0] yG:=av;refine yn λbx w6 dh bi du ci=>?_;refine yn λby_ w7 di ay dv cj=>?_;have be:Blk w6 bx [xv] zf:=by have:=ci;rwa[Sl.cells1 hx] at this
 have bf:Blk w7 by_ [yv] zf:=by have:=cj;rwa[Sl.cells1 hy] at this
 simp only[push_cast];refine⟨jg,⟨[oP by_ 0,oP bx 0,oP bq 0]⟩,rfl,λl D L RR hD dk az dn cl b9 cr af=>?_⟩;have bd:=bi.trans (ay.trans az);have a0:=bh.trans bd;have e8:=e4.trans a0;have z4:=e4.size;have e0:=a0.size;have dx:=an.size;have pq:=av.ext bd;have px:=be.ext (ay.trans az);have py:=bf.ext az;have p3:=ag.ext a0;have p7:=a1.ext a0;have ch:=h.ext e8;have ae:∀b,w.heap.size<=b->¬F b:=λb a hf=>by have:=cm b (.inl hf);omega
 have sz:w1.heap.size=b3+1/\w3.heap.size=d+1/\w5.heap.size=bq+1/\w6.heap.size=bx+1/\w7.heap.size=by_+1/\D=w7.heap.size/\l=D+1:=⟨oM,oM,oM,oM,oM,hD,oM⟩;have dz:w4.heap.size=w3.heap.size:=cy;have dy:=a4.size;have z45:=bh.size;have e1:=bi.size;have z67:=ay.size;have cv:Ints (Off X (P2 l d F)) L xv xs:=by
  have v:Ints (λb=>(¬F b/\¬X b)/\b<w.heap.size) w xv xs:=Ints.weaken hx λ_ v T=>⟨v,T⟩;exact Ints.weaken (v.ext e8) λb a _=>⟨λo=>o.elim a.1.1 λo=>by have:=a.2;omega,a.1.2⟩
 have c1:Ints (Off X (P2 l d F)) L yv ys:=by
  have v:Ints (λb=>(¬F b/\¬X b)/\b<w.heap.size) w yv ys:=Ints.weaken hy λ_ v T=>⟨v,T⟩;exact Ints.weaken (v.ext e8) λb a _=>⟨λo=>o.elim a.1.1 λo=>by have:=a.2;omega,a.1.2⟩
 have ct:Ints (Off X (P2 l d F)) L ba (M.offsL xs.length):=Ints.weaken (bv.ext a0).ints λb a _=>by
  have v:=a9.lt a;have T:=co b a;refine⟨λo=>?_,λhx=>by have:=h.lt b (.inr hx);omega⟩;rcases o with o|o|o
  ·exact ae b oM o
  ·omega
  ·omega
 have off:∀(m:Nat->Prop),(∀b,m b->F b\/L.heap.size<=b)->∀b,w.heap.size<=b->b<L.heap.size->¬m b:=λm hN b v T hf=>(hN b hf).elim (ae b v) λh=>oM
 show vcall jg #[.func (.yield l) #[] #[],oP by_ 0,oP bx 0,oP bq 0] L _;refine zg {ord:=[oz 7 (oR 13) [(0,[1,2,3,4,5,6,7,8,9,10]),(1,[2,3,4,5,6,7,8]),(2,[3,4,5,8]),(3,[4,8]),(4,[8]),(5,[8]),(6,[8]),(7,[8])]],loops:=[(1,[11]),(5,[7,8])]} Tryz.func314 ?_;simp(disch:=first|(simp only[push_cast])|omega) only[push_cast,py.ld0,c1.len];refine vloop_up ys.length (λi u w'=> ∃m J sv s,u=[nI i]/\RR .ready none w'/\BdR n bb ar ab X m w' J/\Mv (P2 l d F) L (P2 l d m) w'/\(∀b,m b->F b\/L.heap.size<=b)/\Blk w' d [sv] zf/\Ints (Off X (P2 l d m)) w' sv s/\s.length=xs.length/\SmL s/\
  ∀st2 res,M.Bd.Out n (M.mulB xs (ys.drop i) i s) J st2 res->M.Bd.Out n (M.mulB xs ys 0 (M.offsL xs.length)) st st2 res)
  ⟨F,st,ba,_,rfl,cr,ch,Mv.refl,λb a=> .inl a,p7,ct,M.offsL_len _,SmL.offs _,λ_ _ h=>h⟩ ?_
 rintro i _ g w9 C hi ⟨m,J,sv,s,rfl,br,h9,V,U,c8,bw,dp,bz,aj⟩ hC;simp only[push_cast];have z9:=V.same.size;have keep:∀{b:Nat} {cs:List Value} {t:TypeId},Blk L b cs t->w.heap.size<=b->b≠l->b≠d->Blk w9 b cs t:=λa v T h3=>a.same V.same λo=>o.elim (ae _ v) λo=>o.elim T h3;have q9:=keep pq oM oM oM;have x9:=keep px oM oM oM;have k9:=keep p3 oM oM oM;have d9:w9.heap[D]?=some (.deferred (some [])):=(V.same.block D oM λo=>o.elim (ae _ oM) λo=>oM).trans cl;refine zb (λdl=>?_) (λd6=>?_)
 ·have b0:i<ys.length:=oM;have c0:=Ints.mv c1 V;simp(disch:=first|(simp only[push_cast])|omega) only[push_cast,c0.iaddr,c0.load];refine offs_spec oM λw10 cc ah bo bn=>?_;have cf:=h9.ext ah;have bs:NewI X w9 m w10 cc (M.offsL i):=NewI.of bo bn h9.lt;have dq:(xs.take (xs.length-i)).length=xs.length-i:=by rw[V0];omega
  refine vloop_up (xs.length-i) (λj u w'=> ∃F2 st2 rv zs,u=[rv,nI ((i+j:Nat):Int)]/\BdR n bb ar ab X F2 w' st2/\Mv m w9 F2 w'/\NewI X w9 F2 w' rv (M.offsL i++zs)/\SmL zs/\zs.length=j/\
   ∀W rs,M.Bd.Out n (M.rowB (ys.getD i 0) ((xs.take (xs.length-i)).drop j)) st2 W rs->M.Bd.Out n (M.rowB (ys.getD i 0) (xs.take (xs.length-i))) J W (zs++rs))
   ⟨m,J,cc,[],rfl,cf,Mv.refl.ext ah,by rw[gz];exact bs,SmL.nil,rfl,λ_ _ h=>h⟩ ?_
  rintro j _ g2 x C2 hj ⟨F2,st2,rv,zs,rfl,ac,f,G,aa,c3,a6⟩ ck;have a5:Mv (P2 l d F) L (P2 l d F2) x:=V.trans f.p2;have O:∀b,F2 b->F b\/L.heap.size<=b:=λb a=>(f.new b a).elim (U b) λh=> .inr oM;have B:∀{b:Nat} {cs:List Value} {t:TypeId},Blk w9 b cs t->w.heap.size<=b->b<L.heap.size->Blk x b cs t:=λa v T=>a.same f.same (off m U _ v T);have d1:=B q9 oM oM;have ce:=B x9 oM oM;have cz:=B k9 oM oM;have c5:=B c8 oM oM;have d11:x.heap[D]?=some (.deferred (some [])):=(f.same.block D oM (off m U D oM oM)).trans d9;have c9:RR .ready none x:=b9 _ _ _ _ br (f.same.block l oM (off m U l oM oM));have dw:=f.same.size;have ak:=Ints.mv cv a5;simp(disch:=first|(simp only[push_cast])|omega) only[push_cast,ce.ld0,ak.len];refine zb (λd8=>?_) (λd7=>?_)
  ·have bj:j<xs.length-i:=oM;refine zd λN y _=>?_;have al:Ints (Off X (P2 l d F2)) N xv xs:=Ints.ext ak y;have d2:=d1.ext y;have d4:=ce.ext y;have ei:((i:Int)+j)-i=(j:Int):=oM;simp(disch:=first|(simp only[push_cast])|omega) only[push_cast,d2.ld0,d4.ld0,zk,ei,al.iaddr,al.load,true_and];refine qM (ac.ext y) (cw.get oM) (cx.get b0) λbc c A cd ao k bt Q=>?_;refine zD yC y9 yh rfl rfl λdd Y d5 a3 c2 E=>?_;have ai:Mv m w9 c Y:=((f.ext y).trans k).ext a3;have ad:=ao.ext a3;have R:NewI X w9 c Y rv (M.offsL i++zs):=((G.mv (Mv.refl.ext y)).mv k).mv (Mv.refl.ext a3);have dm:(M.offsL i++zs).length=i+j:=(by rw[y3,M.offsL_len,c3]);refine R.app1 E ai.same.size ad.lt oM λd3 Z a7 q=>?_;have ap:BdR n bb ar ab X c Z A:=ad.upd h.err q λb a=>⟨by have:=(R.off b a).1;omega,(R.off b a).2⟩;have bm:Mv m w9 c Z:=ai.to q λb a=> .inr (R.off b a).1
   try simp(disch:=omega) only[push_cast,zk]
   refine ck bj _ _ ⟨c,A,d3,zs++[cd],by simp<;>omega,ap,bm,by rw[<-gV];exact a7,aa.app (SmL.one bt),by simp[c3],λW rs ho=>?_⟩;have:=a6 W (cd::rs) ?_
   ·simpa using this
   rw[qp0 oM,Xs bj];exact xC Q (M.Bd.Out.map _ ho)
  ·have dj:j=xs.length-i:=oM;have a8:=a6 st2 [] (by rw[yM0 oM];exact M.Bd.Out.ret _ _);rw[gz] at a8;refine af [rv] x _ rfl c9 ⟨c9,λN p db bg=>?_⟩;have bk:∀b,(b=l)->w.heap.size<=b/\¬F2 b:=λb a=>⟨oM,off F2 O b oM oM⟩;have cg:BdR n bb ar ab X F2 N st2:=ac.upd h.err p bk;have d0:=cz.same p (show¬b3=l by omega);have am:=c5.same p (show¬d=l by omega);have I:=Ints.mv bw f.p2;have b6:Ints (Off X (P2 l d F2)) N sv s:=Ints.same I p λb a _ e=>a.1 (.inr (.inl e));have bp:NewI X w9 F2 N rv (M.offsL i++zs):=⟨G.own.same p λb a e=>by have:=(G.off b a).1;omega,G.off,G.out⟩;simp(disch:=first|(simp only[push_cast])|omega) only[push_cast,d0.ld0,am.ld0];have b8:Ints (Off X F2) N sv s:=Ints.weaken b6 λb a _=>⟨λhf=>a.1 (.inl hf),a.2⟩;refine bsum_spec cg b8 bp.ints (by rw[y3,M.offsL_len];omega) oM bz ((SmL.offs i).app aa) dC λbc c A nv ns ao k z cq Q=>?_;have a2:∀b,c b->F b\/L.heap.size<=b:=λb a=>(k.new b a).elim (O b) λh=> .inr oM;have c6:=am.same k.same (off F2 O d oM oM);refine Blk.st (i:=0) c6 (Sl.cells1 z.own.ints) (Sl.one z.own.ints) j3 rfl λY S c2 E=>?_;replace E:Blk Y d [nv] zf:=E;have ca:RR .busy none bc:=b9 _ _ _ _ bg (k.same.block l oM (off F2 O l oM oM));have cb:RR .busy none Y:=b9 _ _ _ _ ca (S.block l (by have:=k.same.size;omega) oM);refine⟨cb,λZ q dc a7=>?_⟩;have ad:BdR n bb ar ab X c Y A:=ao.upd h.err S λb a=>⟨oM,off c a2 b oM oM⟩;have ap:BdR n bb ar ab X c Z A:=ad.upd h.err q λb a=>⟨oM,off c a2 b oM oM⟩;have z12:=p.size;have b1:Mv (P2 l d F) L (P2 l d F2) N:=a5.sub p λb a=> .inr (.inl a);have b2:Mv (P2 l d F) L (P2 l d c) Z:=(((b1.trans k.p2).sub S λb a=> .inr (.inr a))).sub q λb a=> .inr (.inl a);have c7:=E.same q (show¬d=l by omega);have b4:Ints (Off X (P2 l d c)) Z nv ns:=by
    have v:Ints (Off X (P2 l d c)) bc nv ns:=Ints.weaken z.own.ints λb a _=>⟨λo=>by
     have:=(z.off b a).1;rcases o with o|o|o
     ·exact(z.off b a).2 o
     ·omega
     ·omega,z.out b a⟩
    exact Ints.same (Ints.same v S λb a _ e=>a.1 (.inr (.inr e))) q λb a _ e=>a.1 (.inr (.inl e))
   have cp:ns.length=xs.length:=by
    have:=M.sum_len Q.reach;rw[y3,M.offsL_len] at this;omega
   simp(disch:=omega) only[push_cast,Gc,zk];refine hC b0 _ _ ⟨c,A,nv,ns,by simp,a7,ap,b2,a2,c7,b4,cp,cq,λW res ho=>aj W res ?_⟩;rw[yW b0];exact M.Bd.Out.bind a8 (M.Bd.Out.bind Q ho)
 ·refine⟨.ready,none,dC,br,λw10 H da=>?_⟩;show zu zf _ w10 _;have c4:=c8.same H (show¬d=l by omega);have d10:w10.heap[D]?=some (.deferred (some [])):=(H.block D oM oM).trans d9;simp(disch:=first|(simp only[push_cast])|omega) only[push_cast,c4.ld0];refine⟨d10,λx I aa=>?_⟩;have bl:∀b,w.heap.size<=b->b<L.heap.size->w.heap.size<=b/\¬m b:=λb v T=>⟨v,off m U b v T⟩;have ac:BdR n bb ar ab X m x J:=(h9.upd h.err H λb a=>bl b oM oM).upd h.err I λb a=>bl b oM oM;have cn:Mv F w m x:=by
   refine⟨Same.thn (Same.thn (Same.thn (Same.of_ext e8) V.same λb a=>a.elim .inl λa=> .inr oM) H λb a=> .inr oM) I λb a=> .inr oM,λb a=>(U b a).imp id λh=>?_⟩;have:=e8.size;omega
  have b5:Ints (Off X m) x sv s:=by
   have v:Ints (Off X (P2 l d m)) w10 sv s:=Ints.same bw H λb a _ e=>a.1 (.inr (.inl e));have T:=Ints.notD v d10;exact Ints.weaken (Ints.same T I λb a _ e=>a.2 e) λb a _=>⟨λhf=>a.1.1 (.inl hf),a.1.2⟩
  exact hK x m J sv s ac cn b5 bz (aj J s (by rw[yR0 oM];exact M.Bd.Out.ret _ _))
end
section
variable {w:World} {K:oK} {F F' Fx Fy X Q:Nat->Prop} {n bc bb:Nat} {gs:M.Gs} {v:Value} {ar ab:Addr} {st:Option M.Gs}
theorem qb0 {t ty:TypeId} {a:Option Addr} {l c:Nat} (b:isSl t=true):vbi .cap [t] ty [.slice a l c] w K=K (nI c) w:=by
 obtain⟨e,he⟩:=U3 b;exact ya (by simp[biSem,Builtin.cap_,xw he,goInt])
theorem Grow_nil {m:Nat} (hm:m<=1000) (d:∀w' r,Ext w w'->OwnI zf w' r []->(∀b,r.ownBlock=some b->w.heap.size<=b)->K r w'):vcall qk #[.slice none 0 0,nI m] w K:=by
 refine zg {cuts:=[(8195,[])]} Tryz.func295 ?_;refine zq (λu w'=>w'=w) ?_ ?_
 ·intro J f;simp only[push_cast];refine zb (λh=>?_) (λh=>f _ _ rfl);omega
 rintro _ _ w' hw;rw[hw,qb0 yV,W6 yV];simp(disch:=omega) only[push_cast,zk,Int.sub_zero];refine zb (λh=>?_) (λh=>?_)
 ·rw[qb0 yV];have c0:∀K:oK,xq zf (.slice none 0 0) none (some (nI (0:Nat))) none w K=K (.slice none 0 0) w:=λK=>OwnV.cut (t:=zf) (w:=w) OwnV.nil yJ (n:=0) (by simp);rw[c0];refine vappend_make (bs:=8) yD yN yh rfl QZ oM oM oM λv' w1 e he g=>?_;rw[W6 yV,OwnV.cut e yJ (n:=0) oM];have c:=OwnV.taken e (n:=0) oM;exact d w1 _ he (by rw[pC] at c;exact c) λb a=>g b (by rw[<-xJ v' 0];exact a)
 ·exact d w _ (Same.refl _ _) OwnI.nil λb a=>by cases a
theorem XS {zss:List (List Int)} {i:Nat} (hi:i<zss.length):(zss.take (i+1)).flatten=(zss.take i).flatten++zss.getD i []:=by
 rw[M.take_add hi [],Ph];simp
theorem flat_le {zss:List (List Int)} (i:Nat):(zss.take i).flatten.length<=zss.flatten.length:=by
 have:zss.flatten=(zss.take i).flatten++(zss.drop i).flatten:=by rw[<-Ph,pr]
 rw[this,y3];omega
theorem Concat_spec {vs:List Value} {zss:List (List Int)} (j:Vals Fx w v vs) (L:vs.length=zss.length) (hi:∀i,i<zss.length->Ints Fy w (vs.getD i undef) (zss.getD i [])) (A:zss.flatten.length<=1000) (E:zss.length<=1000)
  (F:∀w' r,Ext w w'->OwnI zf w' r zss.flatten->(∀b,r.ownBlock=some b->w.heap.size<=b)->K r w'):vcall xW #[v] w K:=by
 refine zg {loops:=[(3,[3,11]),(11,[6,27])]} Tryz.func268 ?_;simp(disch:=first|(simp only[push_cast])|omega) only[push_cast,j.len];refine vloop_up zss.length (λi u w'=>u=[nI ((zss.take i).flatten.length:Nat),nI i]/\w'=w) ⟨rfl,rfl⟩ ?_;rintro i _ g w1 C p ⟨rfl,B⟩ k;rw[B];simp only[push_cast];refine zb (λq=>?_) (λn=>?_)
 ·have a:i<zss.length:=oM;have D:=hi i a;have hle:=flat_le (zss:=zss) (i+1);rw[XS a,y3] at hle;simp(disch:=first|(simp only[push_cast])|omega) only[push_cast,j.iaddr,j.load,D.len,zk];refine zb (λJ=>oM) (λ_=>?_);exact k a _ _ ⟨by rw[XS a,y3];simp,rfl⟩
 have o:i=zss.length:=oM
 subst o;rw[gq];refine Grow_nil A λw2 G m x s=>?_;refine vloop_up zss.length (λi u w'=> ∃r,u=[r,nI i]/\Ext w w'/\OwnI zf w' r (zss.take i).flatten/\∀b,r.ownBlock=some b->w.heap.size<=b) ⟨G,rfl,m,x,s⟩ ?_;rintro i _ g I C p ⟨r,rfl,c,e,d⟩ k;simp only[push_cast];refine zb (λq=>?_) (λn=>?_)
 ·have a:i<zss.length:=oM;have D:=(hi i a).ext c;have f:=j.ext c;have hle:=flat_le (zss:=zss) (i+1);rw[XS a,y3] at hle;simp(disch:=first|(simp only[push_cast])|omega) only[push_cast,f.iaddr,f.load];refine e.app yD D oM oM λH M y z t=>?_;have:=c.size
  try simp(disch:=omega) only[push_cast,zk]
  exact k a _ _ ⟨H,by simp<;>exact⟨rfl,rfl⟩,Ext.then c z λb l=>d b l,by rw[XS a];exact y,λb l=>(t b l).elim (d b) λh=>oM⟩
 ·rw[show i=zss.length by omega,gq] at e;exact F I r c e d
theorem un_spec {op:Int} {xv:Value} {xs:List Int} (h:BdR n bb ar ab X F w st) (B:op=1\/op=2) (s:Ints (Off X F) w xv xs) (D:xs.length<=900) (d:SmL xs)
  (e:∀w' F' st' r zs,BdR n bb ar ab X F' w' st'->Mv F w F' w'->Ints (Off X F') w' r zs->SmL zs->M.Bd.Out n (M.unB op xs) st st' zs->K r w'):
  vcall Qr #[oP bb 0,nI op,xv] w K:=by
 refine zg {} Tryz.func236 ?_;simp only[push_cast];unfold M.unB at e;refine zb (λc=>?_) (λc=>?_)
 ·rw[if_pos c] at e;refine negated_spec s oM d λw1 r a p j=>?_;exact e w1 F st r _ (h.ext a) (Mv.refl.ext a) (NewI.of p j h.lt).ints d.neg (M.Bd.Out.ret _ _)
 rw[if_neg c] at e;simp(disch:=first|(simp only[push_cast])|omega) only[push_cast,s.len];refine zb (λc2=>?_) (λc2=>oM);refine offs_spec oM λw1 ov a m l=>?_;refine negated_spec (s.ext a) oM d λw2 nv f k g=>?_;have v:=a.trans f;have E:=a.size;have hO:Ints (Off X F) w2 ov (M.offsL xs.length):=(NewI.of (m.ext f) l h.lt).ints;have z:Ints (Off X F) w2 nv (M.negL xs):=(NewI.of k (λb A=>by have:=g b A;omega) h.lt).ints;refine bsum_spec (h.ext v) hO z (by rw[M.offsL_len,M.negL_len];exact gp _) (by rw[M.offsL_len];omega) (SmL.offs _) d.neg dC λC x u r zs y i q t o=>?_;exact e C x u r zs y ((Mv.refl.ext v).trans i) q.ints t o
theorem bin_spec {op:Int} {xv yv:Value} {xs ys:List Int} (h:BdR n bb ar ab X F w st) (U:∃gs,st=some gs) (u:3<=op) (a0:op<=14) (o:Ints (Off X F) w xv xs) (t:Ints (Off X F) w yv ys) (E:op≠14->xs.length=ys.length) (hc:op=14->xs.length+ys.length<=4) (D:1<=xs.length) (h8:xs.length<=8) (g:SmL xs) (j:SmL ys)
  (d:∀w' F' st' r zs,BdR n bb ar ab X F' w' st'->Mv F w F' w'->Ints (Off X F') w' r zs->SmL zs->M.Bd.Out n (M.binB op xs ys) st st' zs->K r w'):
  vcall ku #[oP bb 0,nI op,xv,yv] w K:=by
 refine zg {} Tryz.func237 ?_;obtain⟨gs,rfl⟩:=U;obtain⟨bc,Z,hC⟩:=h.blk;simp only at Z;unfold M.binB at d;simp only[push_cast,y6 xo h.err.bits.cell];refine zb (λc=>?_) (λc=>?_)
 ·rw[if_pos c] at d;have:=hc c;simp(disch:=first|(simp only[push_cast])|omega) only[push_cast,o.len,t.len,zk,y6 xo h.err.bits.cell];rw[decide_eq_false oM];refine Ku ?_;refine vbuildS_row1 (xs:=[yv,xv]) Zv j3 qB (λx L=>by
   simp only[X0,gm,or_false] at L;rcases L with rfl|rfl
   ·exact Sl.cells1 t
   ·exact Sl.cells1 o) (by simp) λb1 w1 a1 s a2 O=>?_
  have hv:Vals (· =b1) w1 (.slice (some ⟨b1,0,none⟩) [yv,xv].length [yv,xv].length) [yv,xv]:=O.sl1 rfl (by simp);refine Concat_spec (zss:=[ys,xs]) hv rfl (Fy:=Off X F) (λi hi=>?_) (by simp;omega) (by simp) λw2 r Q T S=>?_
  ·match i,hi with
   |0,_=>exact t.ext s
   |1,_=>exact o.ext s
  ·have Y:=s.trans Q;have z1:=s.size;refine d w2 F (some gs) r (ys++xs) (h.ext Y) (Mv.refl.ext Y) (NewI.of (w:=w) (by simpa using T) (λb hb=>by have:=S b hb;omega) h.lt).ints (j.app g) (M.Bd.Out.ret _ _)
 rw[if_neg c] at d;have E:=E c;simp(disch:=first|(simp only[push_cast])|omega) only[push_cast,o.len,t.len,y6 xo h.err.bits.cell];rw[decide_eq_false oM];refine Ku ?_;simp(disch:=first|(simp only[push_cast])|omega) only[push_cast,Z.ld1,YR];refine zb (λc=>?_) (λc=>?_)
 ·rw[if_pos c] at d;exact each_spec (p:=λa b=> .and a b .ret) h o t oM oM g j (λw1 V N x y W D _ B C A=>qM D B C A) λz v k r zs u e l m f=>d z v k r zs u e l.ints m f
 rw[if_neg c] at d;refine zb (λc=>?_) (λc=>?_)
 ·rw[if_pos c] at d;exact each_spec (p:=M.orB) h o t oM oM g j (λw1 V N x y W D _ B C A=>bor_spec D B C A) λz v k r zs u e l m f=>d z v k r zs u e l.ints m f
 rw[if_neg c] at d;refine zb (λc=>?_) (λc=>?_)
 ·rw[if_pos c] at d;exact each_spec (p:=λa b=> .xor a b .ret) h o t oM oM g j (λw1 V N x y W D _ B C A=>ZY D B C A) λz v k r zs u e l m f=>d z v k r zs u e l.ints m f
 rw[if_neg c] at d;refine zb (λc=>?_) (λc=>?_)
 ·rw[if_pos c] at d;exact bsum_spec h o t oM oM g j dC λz v k r zs u e l m f=>d z v k r zs u e l.ints m f
 rw[if_neg c] at d;refine zb (λc=>?_) (λc=>?_)
 ·rw[if_pos c] at d;refine negated_spec t oM j λw1 nv s R G=>?_;exact bsum_spec (h.ext s) (o.ext s) (NewI.of R G h.lt).ints (by rw[M.negL_len];omega) oM g j.neg dC λz v k r zs u e l m f=>d z v k r zs u ((Mv.refl.ext s).trans e) l.ints m f
 rw[if_neg c] at d;refine zb (λc=>?_) (λc=>?_)
 ·rw[if_pos c] at d;exact mul_spec h o t E oM g j d
 rw[if_neg c] at d;refine zb (λc=>?_) (λc=>?_)
 ·rw[if_pos c] at d;refine divide_spec h o t E oM g j λz v k qv rv q r u e H l I J f=>?_;simp only[push_cast];exact d z v k qv q u e H I (M.Bd.Out.map _ f)
 rw[if_neg c] at d;refine zb (λc=>?_) (λc=>?_)
 ·rw[if_pos c] at d;refine divide_spec h o t E oM g j λz v k qv rv q r u e H l I J f=>?_;simp only[push_cast];exact d z v k rv r u e l J (M.Bd.Out.map _ f)
 rw[if_neg c] at d;refine zb (λc=>?_) (λc=>?_)
 ·rw[if_pos c] at d;exact shift_spec h o t oM oM g j dC d
 rw[if_neg c] at d;refine zb (λc=>?_) (λc=>?_)
 ·rw[if_pos c] at d;exact shift_spec h o t oM oM g j dC d
 rw[if_neg c] at d;refine zb (λc=>?_) (λc=>oM);simp(disch:=first|(simp only[push_cast])|omega) only[push_cast,o.len,zk,o.iaddr,o.load];rw[show((xs.length:Int)-1).toNat=xs.length-1 by omega];exact shift_spec h o t oM oM g j (g.get oM) d
theorem compare_spec {op:Int} {xv yv:Value} {xs ys:List Int} (h:BdR n bb ar ab X F w st) (g:∃gs,st=some gs) (m:15<=op) (k:op<=17) (e:Ints (Off X F) w xv xs) (f:Ints (Off X F) w yv ys) (l:xs.length=ys.length) (j:1<=xs.length) (o:xs.length<=8) (b:SmL xs) (d:SmL ys)
  (a:∀w' F' st' r,BdR n bb ar ab X F' w' st'->Mv F w F' w'->Sm r->M.Bd.Out n (M.cmpB op xs ys) st st' r->K (nI r) w'):
  vcall Zl #[oP bb 0,nI op,xv,yv] w K:=by
 refine zg {} Tryz.func238 ?_;obtain⟨gs,rfl⟩:=g;obtain⟨bc,i,p⟩:=h.blk;simp only at i;unfold M.cmpB at a;simp(disch:=first|(simp only[push_cast])|omega) only[push_cast,e.len,f.len,y6 xo h.err.bits.cell];rw[decide_eq_false oM];refine Ku ?_;simp(disch:=first|(simp only[push_cast])|omega) only[push_cast,i.ld1,YR];refine zb (λc=>?_) (λc=>?_)
 ·rw[if_pos c] at a;exact bsame_spec h e f oM oM b d a
 rw[if_neg c] at a;refine zb (λc=>?_) (λc=>?_)
 ·rw[if_pos c] at a;exact bless_spec h e f oM oM b d a
 rw[if_neg c] at a;refine zb (λc=>?_) (λc=>oM);exact under_spec h e f l j oM b d a
end
section
variable {w:World} {K:oK} {F:Nat->Prop}
abbrev xX (wd n:Int):Value:= .agg ⟨[nI wd,nI n]⟩
theorem pow4 {k:Nat} (a:1<=k) (b:k<=4):2<=2^k/\2^k<=16:=by
 rcases(by omega:k=1\/k=2\/k=3\/k=4) with rfl|rfl|rfl|rfl<;>decide
@[push_cast] theorem bd_Vec (a b:Int):yz zh [(0,nI a),(1,nI b)] w K=K (xX a b) w:=zV QJ (us:=[[nI a],[nI b]]) rfl rfl
@[push_cast] theorem bd_VecZ:yz zh [] w K=K (xX 0 0) w:=zV QJ (us:=[]) rfl rfl
theorem stVec {b:Nat} {x y:Value} {t:TypeId} {p q:Int} (h:Blk w b [x,y] t) (c:∀w',Same (· =b) w w'->w'.heap.size=w.heap.size->Blk w' b [nI p,nI q] t->K undef w'):zR zh (oP b 0) (xX p q) w K:=
 h.stAgg rfl rK (by intro v a;simp only[X0,gm,or_false] at a;rcases a with rfl|rfl<;>rfl) c
theorem JK (k:Nat):((2^k:Nat):Int)=2^k:=by simp
theorem VecOk_spec {wd n:Int} (l:∀w',Ext w w'->K (.bool (M.vok wd n)) w'):vcall zE0 #[xX wd n] w K:=by
 refine zg {ord:=[oz 1 (oR 22) [(14,[16,17,18]),(15,[16,17,18])]]} Tryz.func201 ?_;refine zj λb1 w1 m g o i=>?_;refine zd λw2 d _=>?_;have h:=i.ext d;have j:=g.trans d;simp only[push_cast,h.ld0,h.ld1,true_and];have a:=l w2 j;refine zb (λf=>?_) (λf=>?_)
 ·refine zb (λa2=>?_) (λa2=>?_)
  ·refine zb (λa3=>?_) (λa3=>?_)
   ·obtain⟨k,rfl⟩:∃k:Nat,wd=k:=⟨wd.toNat,oM⟩;have p:=pow4 (k:=k) oM oM;have e:xE .shl zC true (nI 1) (nI (k:Int)) w2=λK=>K (nI (2^k:Nat)) w2:=by
     funext K
     have:=vbin_shlI (w:=w2) (K:=K) (c:=true) (t:=zC) (yk:= .i64) (x:=1) (y:=k) oM oM;rw[pS] at this;exact this
    rw[e];simp only[push_cast,true_and];have b:M.vok (k:Int) n=decide (n<(2^k:Nat)):=by
     simp only[M.vok,decide_eq_true f,decide_eq_true a2,decide_eq_true a3,pn,gi,JK]
    rw[b,JK] at a;exact a
   ·have b:M.vok wd n=false:=(by simp only[M.vok,decide_eq_false a3,pf,GA]);rw[b] at a;exact a
  ·have b:M.vok wd n=false:=(by simp only[M.vok,decide_eq_false a2,pf,GA]);rw[b] at a;exact a
 ·have b:M.vok wd n=false:=(by simp only[M.vok,decide_eq_false f,GA]);rw[b] at a;exact a
theorem cut_spec {n k:Nat} (d:n<18446744073709551616) (a:1<=k) (b:k<=4) (c:K (.int .u64 (n%2^k:Nat)) w):vcall V5 #[.int .u64 n,nI k] w K:=by
 refine zg {} Tryz.func360 ?_;have e:=pow4 a b;rw[show(1:Int)=((1:Nat):Int) from rfl,vbin_shlU oM oM,pS,Y2,show((2^k:Nat):Int)-((1:Nat):Int)=((2^k-1:Nat):Int) by omega,wrapU oM,Zs d oM,pZ];exact c
theorem bit_spec {n k:Nat} (f:n<18446744073709551616) (c:k<64) (b:K (.bool (decide (n/2^k%2=1))) w):vcall V6 #[.int .u64 n,nI k] w K:=by
 refine zg {} Tryz.func159 ?_;have d:n/2^k<=n:=Gk _ _;rw[vbin_shrU c,show(1:Int)=((1:Nat):Int) from rfl,Zs oM oM,yI0];have e:n/2^k&&&1=n/2^k%2:=Nat.and_one_is_mod _;rw[e];have a:decide (((n/2^k%2:Nat):Int)=((1:Nat):Int))=decide (n/2^k%2=1):=by
  by_cases h:n/2^k%2=1
  ·rw[h];simp
  ·rw[decide_eq_false h,decide_eq_false];omega
 rw[a];exact b
theorem raw_spec {wd:Int} {n:Nat} (f:n<9223372036854775808) (c:∀w',Ext w w'->K (.int .u64 n) w'):vcall kI #[xX wd n] w K:=by
 refine zg {} Tryz.func256 ?_;refine zj λb1 w1 d a e b=>?_;simp only[push_cast,b.ld1];rw[ja UU yt0,wrapU oM];exact c _ a
theorem ones_spec {k:Nat} {n:Int} (c:1<=k) (d:k<=4) (e:∀w',Ext w w'->K (.int .u64 (2^k-1:Nat)) w'):vcall K7 #[xX k n] w K:=by
 refine zg {} Tryz.func372 ?_;refine zj λb1 w1 f a g b=>?_;simp only[push_cast,b.ld0];have h:=pow4 c d;rw[show(1:Int)=((1:Nat):Int) from rfl,vbin_shlU oM oM,pS,Y2,show((2^k:Nat):Int)-((1:Nat):Int)=((2^k-1:Nat):Int) by omega,wrapU oM];exact e _ a
theorem vec_spec {k n:Nat} {x:Int} (q:n<18446744073709551616) (h:1<=k) (i:k<=4) (j:∀w',Ext w w'->K (xX k (n%2^k:Nat)) w'):vcall Vd #[xX k x,.int .u64 n] w K:=by
 refine zg {ord:=[oz 1 (oR 9) [(0,[2,3,4,5,6]),(1,[2,3,4,5,6]),(2,[3,4])]]} Tryz.func359 ?_;have z:=pow4 h i;have hm:n%2^k<2^k:=pN _ oM;refine zj λb1 w1 o c r e=>?_;refine zi zY λb2 w2 p b s f=>?_;refine zd λA a _=>?_;have l:=(e.ext b).ext a;have u:=f.ext a;simp only[push_cast,l.ld0,true_and];refine cut_spec q h i ?_;obtain⟨m,d⟩:∃m,m=n%2^k:=⟨_,rfl⟩;rw[<-d] at hm j⊢;simp only[push_cast,l.ld0,true_and,and_self];rw[ja JA QZ,wrapN oM];simp only[push_cast,true_and];refine stVec u λB g _ v=>?_;rw[v.lv rK];exact j _ (Ext.then ((c.trans b).trans a) g λy t=>by subst t;omega)
theorem strF_low {k n:Nat} (c:1<=k) (d:k<=4) (e:n<2^k):n|||((18446744073709551615-(2^k-1))&&&4294967295)=n+(4294967296-2^k):=by
 have b:∀v:Fin 5,∀a:Fin 16,1<=v.1->a.1<2^v.1->a.1|||((18446744073709551615-(2^v.1-1))&&&4294967295)=a.1+(4294967296-2^v.1):=by decide+kernel
 have f:=pow4 c d;exact b ⟨k,oM⟩ ⟨n,oM⟩ c e
theorem top_bit {k n:Nat} (c:1<=k) (d:k<=4) (e:n<2^k):decide (n/2^(k-1)%2=1)=decide (¬n<2^(k-1)):=by
 have b:∀v:Fin 5,∀a:Fin 16,1<=v.1->a.1<2^v.1->decide (a.1/2^(v.1-1)%2=1)=decide (¬a.1<2^(v.1-1)):=by decide+kernel
 have f:=pow4 c d;exact b ⟨k,oM⟩ ⟨n,oM⟩ c e
def Zs0 (k n:Nat):Nat:=if n<2^(k-1) then n else n+(4294967296-2^k)
theorem stretched_spec {k n:Nat} (f:1<=k) (g:k<=4) (q:n<2^k) (p:∀w',Ext w w'->K (.int .u64 (Zs0 k n:Nat)) w'):vcall Yi #[xX k n] w K:=by
 refine zg {ord:=[oz 1 [0,2,3,4,1,5] [(0,[2,3,4]),(2,[1]),(3,[1]),(4,[1])],oz 2 [0,2,1,3,4,5,6,7] [(0,[2]),(2,[1])]]} Tryz.func377 ?_;have z:=pow4 f g;refine zj λb1 w1 u d v i=>?_;refine zd λA b _=>?_;have j:=i.ext b;simp only[push_cast,j.ld0,j.ldAgg (t:=zh) zt,true_and];have o:IntKind.i64.wrap ((k:Int)-1)=((k-1:Nat):Int):=by rw[zk oM oM];omega
 rw[o];refine raw_spec oM λB c=>?_;have l:=j.ext c;simp only[push_cast,l.ld0,true_and,o];refine bit_spec oM oM ?_;rw[top_bit f g q];refine zb (λm=>?_) (λm=>?_)
 ·refine zd λC e _=>?_;have r:=l.ext e;simp only[push_cast,r.ldAgg (t:=zh) zt,true_and];refine raw_spec oM λs a=>?_;have x:=r.ext a;simp only[push_cast,x.ldAgg (t:=zh) zt,true_and];refine ones_spec f g λy h=>?_;rw[vun_xorU oM];refine⟨rfl,?_⟩;rw[show(4294967295:Int)=((4294967295:Nat):Int) from rfl,Zs oM oM];refine⟨rfl,?_⟩;have hle:(18446744073709551615-(2^k-1))&&&4294967295<=4294967295:=Nat.and_le_right;rw[yF0 oM oM];refine⟨rfl,?_⟩;have:=p y (((((d.trans b).trans c).trans e).trans a).trans h);unfold Zs0 at this;rw[if_neg m] at this;rw[strF_low f g q];exact this
 ·simp only[push_cast,l.ldAgg (t:=zh) zt,true_and];refine raw_spec oM λs a=>?_;have:=p s (((d.trans b).trans c).trans a);unfold Zs0 at this;rw[if_pos oM] at this;exact this
theorem pre2 {k a b:Nat} (D:a<16) (E:b<16) {X:Value->oK} (s:∀w',Ext w w'->X (.int .u64 a) (.int .u64 b) w'):
  US zh (xX k a) w λt2 m=>
  US zh (xX k b) m λt3 n=>
  kL n λc=>
  zu zh t2 c λt5 o=>o=c/\
  zu zh t3 c λt7 p=>p=c/\
  vcall kI #[t5] c λt6 e=>(zu zh t3 e λv x=>v=t7/\x=e)/\
  vcall kI #[t7] e λt8 q=>X t6 t8 q:=by
 refine zj λb1 w1 u h z j=>?_;refine zj λb2 w2 y f A l=>?_;refine zd λF d _=>?_;have B:=(j.ext f).ext d;have r:=l.ext d;simp only[push_cast,B.ldAgg (t:=zh) zt,r.ldAgg (t:=zh) zt,true_and];refine raw_spec oM λG g=>?_;have C:=r.ext g;simp only[push_cast,C.ldAgg (t:=zh) zt,true_and,and_self];refine raw_spec oM λH i=>?_;exact s _ ((((h.trans f).trans d).trans g).trans i)
theorem pow16 {k a:Nat} (b:k<=4) (c:a<2^k):a<16:=by
 have:2^k<=2^4:=gY oM b;omega
def OpR (K:oK) (w:World) (op k a b:Nat):Prop:=∀w' (r:Nat),Ext w w'->r<18446744073709551616->r%2^k=M.binN op k a b->K (.int .u64 r) w'
theorem bin_ck {f:Nat->Nat->Nat->Nat} {op:Nat} (h:∀v:Fin 5,(List.range 16).all (λa=>(List.range 16).all λb=> !(decide (1<=v.1)&&decide (a<2^v.1)&&decide (b<2^v.1))||decide (f v.1 a b%2^v.1=M.binN op v.1 a b))=true) {k a b:Nat} (g:1<=k) (c:k<=4) (d:a<2^k) (e:b<2^k):f k a b%2^k=M.binN op k a b:=by
 have:=h ⟨k,oM⟩;simp only[gW,gF,Gi,gK,G5,decide_eq_false_iff_not,decide_eq_true_eq] at this;rcases this a (pow16 c d) b (pow16 c e) with(⟨h|h⟩|h)|h
 ·exact absurd g h
 ·exact absurd d h
 ·exact absurd e h
 ·exact h
theorem mul225 {a b:Nat} (c:a<16) (d:b<16):a*b<=225:=by
 have:=PJ (show a<=15 by omega) (show b<=15 by omega);omega
theorem shl_small {a b:Nat} (d:a<16) (e:b<16):a*2^b<=524288:=by
 have c:2^b<=2^15:=gY oM oM;have:=PJ (show a<=15 by omega) c;omega
theorem strN_lt {k n:Nat} (a:1<=k) (b:k<=4) (c:n<2^k):Zs0 k n<4294967296:=by
 have:=pow4 a b;unfold Zs0;split<;>omega
theorem binaries_1_spec {k a b:Nat} (g:1<=k) (e:k<=4) (h:a<2^k) (i:b<2^k) (j:OpR K w 3 k a b):vcall xl #[xX k a,xX k b] w K:=by
 have c:=pow16 e h;have d:=pow16 e i;have l:=pow4 g e;refine zg {ord:=[oz 1 [0,2,1,3,4,5] [(0,[2]),(2,[1])]]} Tryz.func365 ?_;refine pre2 c d λw1 he=>?_;rw[Zs oM oM];exact⟨rfl,j _ _ he (Po Nat.and_le_left oM) (bin_ck (f:=λk a b=>a&&&b) (by decide+kernel) g e h i)⟩
theorem binaries_2_spec {k a b:Nat} (g:1<=k) (e:k<=4) (h:a<2^k) (i:b<2^k) (j:OpR K w 4 k a b):vcall xk #[xX k a,xX k b] w K:=by
 have c:=pow16 e h;have d:=pow16 e i;have l:=pow4 g e;refine zg {ord:=[oz 1 [0,2,1,3,4,5] [(0,[2]),(2,[1])]]} Tryz.func366 ?_;refine pre2 c d λw1 he=>?_;rw[yF0 oM oM];exact⟨rfl,j _ _ he (Nat.lt_trans (Px (n:=4) c d) dC) (bin_ck (f:=λk a b=>a|||b) (by decide+kernel) g e h i)⟩
theorem binaries_3_spec {k a b:Nat} (g:1<=k) (e:k<=4) (h:a<2^k) (i:b<2^k) (j:OpR K w 5 k a b):vcall xj #[xX k a,xX k b] w K:=by
 have c:=pow16 e h;have d:=pow16 e i;have l:=pow4 g e;refine zg {ord:=[oz 1 [0,2,1,3,4,5] [(0,[2]),(2,[1])]]} Tryz.func367 ?_;refine pre2 c d λw1 he=>?_;rw[qc0 oM oM];exact⟨rfl,j _ _ he (Nat.lt_trans (Nat.xor_lt_two_pow (n:=4) c d) dC) (bin_ck (f:=λk a b=>a^^^b) (by decide+kernel) g e h i)⟩
theorem binaries_4_spec {k a b:Nat} (g:1<=k) (e:k<=4) (h:a<2^k) (i:b<2^k) (j:OpR K w 6 k a b):vcall xi #[xX k a,xX k b] w K:=by
 have c:=pow16 e h;have d:=pow16 e i;have l:=pow4 g e;refine zg {ord:=[oz 1 [0,2,1,3,4,5] [(0,[2]),(2,[1])]]} Tryz.func368 ?_;refine pre2 c d λw1 he=>?_;rw[Xo,show(a:Int)+(b:Int)=((a+b:Nat):Int) by omega,wrapU oM];exact⟨rfl,j _ _ he oM (bin_ck (f:=λk a b=>a+b) (by decide+kernel) g e h i)⟩
theorem binaries_5_spec {k a b:Nat} (h:1<=k) (g:k<=4) (i:a<2^k) (j:b<2^k) (l:OpR K w 7 k a b):vcall xh #[xX k a,xX k b] w K:=by
 have c:=pow16 g i;have d:=pow16 g j;have m:=pow4 h g;refine zg {ord:=[oz 1 [0,2,1,3,4,5] [(0,[2]),(2,[1])]]} Tryz.func369 ?_;refine pre2 c d λw1 he=>?_;have e:IntKind.u64.wrap ((a:Int)-(b:Int))=((if b<=a then a-b else 18446744073709551616+a-b:Nat):Int):=by
  simp only[IntKind.wrap,IntKind.bits,IntKind.signed,GA,gQ,if_false];split<;>omega
 rw[Y2,e];exact⟨rfl,l _ _ he (by split<;>omega) (bin_ck (f:=λk a b=>if b<=a then a-b else 18446744073709551616+a-b) (by decide+kernel) h g i j)⟩
theorem binaries_6_spec {k a b:Nat} (g:1<=k) (e:k<=4) (h:a<2^k) (i:b<2^k) (j:OpR K w 8 k a b):vcall xg #[xX k a,xX k b] w K:=by
 have c:=pow16 e h;have d:=pow16 e i;have l:=pow4 g e;refine zg {ord:=[oz 1 [0,2,1,3,4,5] [(0,[2]),(2,[1])]]} Tryz.func370 ?_;refine pre2 c d λw1 he=>?_;have hm:=mul225 c d;rw[k10,show(a:Int)*(b:Int)=((a*b:Nat):Int) by simp,wrapU oM];exact⟨rfl,j _ _ he oM (bin_ck (f:=λk a b=>a*b) (by decide+kernel) g e h i)⟩
theorem binaries_7_spec {k a b:Nat} (l:1<=k) (h:k<=4) (s:a<2^k) (u:b<2^k) (m:OpR K w 9 k a b):vcall xf #[xX k a,xX k b] w K:=by
 have n:=pow16 h s;have o:=pow16 h u;have E:=pow4 l h;refine zg {ord:=[oz 3 [0,2,1,3,4,5] [(0,[2]),(2,[1])]]} Tryz.func371 ?_;refine zj λb1 w1 v e y j=>?_;refine zj λb2 w2 x d z g=>?_;have p:=j.ext d;simp only[push_cast,g.ld1];refine zb (λr=>?_) (λr=>?_)
 ·simp only[push_cast,p.ldAgg (t:=zh) zt];refine ones_spec l h λC c=>m _ _ ((e.trans d).trans c) oM ?_;have:b=0:=oM;subst this;rw[Gd oM];simp[M.binN]
 ·refine zd λC c _=>?_;have A:=p.ext c;have q:=g.ext c;simp only[push_cast,A.ldAgg (t:=zh) zt,q.ldAgg (t:=zh) zt,true_and];refine raw_spec oM λF f=>?_;have B:=q.ext f;simp only[push_cast,B.ldAgg (t:=zh) zt,true_and,and_self];refine raw_spec oM λG i=>?_;have D:a/b<=a:=Gk _ _;rw[ki oM,show(a:Int).tdiv (b:Int)=((a/b:Nat):Int) from rfl,wrapU oM];refine⟨rfl,m _ _ ((((e.trans d).trans c).trans f).trans i) oM ?_⟩;rw[Gd oM];simp[M.binN,show b≠0 by omega]
theorem binaries_8_spec {k a b:Nat} (r:1<=k) (h:k<=4) (s:a<2^k) (u:b<2^k) (l:OpR K w 10 k a b):vcall xe #[xX k a,xX k b] w K:=by
 have m:=pow16 h s;have n:=pow16 h u;have E:=pow4 r h;refine zg {ord:=[oz 3 [0,2,1,3,4,5] [(0,[2]),(2,[1])]]} Tryz.func373 ?_;refine zj λb1 w1 v e y j=>?_;refine zj λb2 w2 x d z g=>?_;have o:=j.ext d;simp only[push_cast,g.ld1];refine zb (λq=>?_) (λq=>?_)
 ·simp only[push_cast,o.ldAgg (t:=zh) zt];refine raw_spec oM λC c=>l _ _ ((e.trans d).trans c) oM ?_;have:b=0:=oM;subst this;rw[Gd oM];simp[M.binN]
 ·refine zd λC c _=>?_;have A:=o.ext c;have p:=g.ext c;simp only[push_cast,A.ldAgg (t:=zh) zt,p.ldAgg (t:=zh) zt,true_and];refine raw_spec oM λF f=>?_;have B:=p.ext f;simp only[push_cast,B.ldAgg (t:=zh) zt,true_and,and_self];refine raw_spec oM λG i=>?_;have D:a%b<=a:=Nat.mod_le _ _;rw[kX oM,show(a:Int).tmod (b:Int)=((a%b:Nat):Int) from rfl];refine⟨rfl,l _ _ ((((e.trans d).trans c).trans f).trans i) oM ?_⟩;rw[Gd oM];simp[M.binN,show b≠0 by omega]
theorem binaries_9_spec {k a b:Nat} (g:1<=k) (e:k<=4) (h:a<2^k) (i:b<2^k) (j:OpR K w 11 k a b):vcall xd #[xX k a,xX k b] w K:=by
 have c:=pow16 e h;have d:=pow16 e i;have l:=pow4 g e;refine zg {ord:=[oz 1 [0,2,1,3,4,5] [(0,[2]),(2,[1])]]} Tryz.func374 ?_;refine pre2 c d λw1 he=>?_;have hm:=shl_small c d;rw[vbin_shlU oM oM];exact⟨rfl,j _ _ he oM (bin_ck (f:=λk a b=>a*2^b) (by decide+kernel) g e h i)⟩
theorem binaries_10_spec {k a b:Nat} (g:1<=k) (e:k<=4) (h:a<2^k) (i:b<2^k) (j:OpR K w 12 k a b):vcall xb #[xX k a,xX k b] w K:=by
 have c:=pow16 e h;have d:=pow16 e i;have l:=pow4 g e;refine zg {ord:=[oz 1 [0,2,1,3,4,5] [(0,[2]),(2,[1])]]} Tryz.func375 ?_;refine pre2 c d λw1 he=>?_;have hm:=Gk a (2^b);rw[vbin_shrU oM];exact⟨rfl,j _ _ he oM (bin_ck (f:=λk a b=>a/2^b) (by decide+kernel) g e h i)⟩
theorem binaries_11_spec {k a b:Nat} (h:1<=k) (d:k<=4) (i:a<2^k) (p:b<2^k) (s:OpR K w 13 k a b):vcall xa #[xX k a,xX k b] w K:=by
 have o:=pow16 d i;have q:=pow16 d p;have B:=pow4 h d;refine zg {ord:=[oz 1 [0,2,1,3,4,5] [(0,[2]),(2,[1])]]} Tryz.func376 ?_;refine zj λb1 w1 u j x m=>?_;refine zj λb2 w2 v e y n=>?_;refine zd λC c _=>?_;have z:=(m.ext e).ext c;have r:=n.ext c;simp only[push_cast,z.ldAgg (t:=zh) zt,r.ldAgg (t:=zh) zt,true_and];refine stretched_spec h d i λD g=>?_;have A:=r.ext g;simp only[push_cast,A.ldAgg (t:=zh) zt,true_and,and_self];refine raw_spec oM λE l=>?_;have hs:=strN_lt h d i;have hm:=Gk (Zs0 k a) (2^b);rw[vbin_shrU oM];exact⟨rfl,s _ _ ((((j.trans e).trans c).trans g).trans l) oM (bin_ck (f:=λk a b=>Zs0 k a/2^b) (by decide+kernel) h d i p)⟩
end
section
variable {w:World} {K:oK} {F:Nat->Prop}
theorem VecSigned_spec {wd n:Int} (h:∀w',Ext w w'->K (nI (if M.vok wd n=true then M.sgn wd n else 0)) w'):vcall Jb #[xX wd n] w K:=by
 refine zg {ord:=[oz 3 [0,2,3,4,1,5] [(0,[2,3,4]),(2,[1]),(3,[1]),(4,[1])],oz 4 (oR 7) [(0,[2,3,4]),(1,[2,3,4])]]} Tryz.func381 ?_;refine zj λb1 w1 x c y m=>?_;simp only[push_cast,m.ldAgg (t:=zh) zt];refine VecOk_spec λw2 b=>?_;have u:=m.ext b;simp only[push_cast];refine zo (λg=>?_) (λg=>?_)
 ·have:=h w2 (c.trans b);rwa[if_neg (by simpa using g)] at this
 ·rw[gJ] at g;rw[if_pos g] at h;obtain⟨k,a,rfl,rfl,q,r,v⟩:=M.vok_nat g;have C:=pow4 q r;refine zd λE d _=>?_;have i:=u.ext d;have l:IntKind.i64.wrap ((k:Int)-1)=((k-1:Nat):Int):=by rw[zk oM oM];omega
  simp only[push_cast,i.ldAgg (t:=zh) zt,i.ld0,true_and,l];refine raw_spec oM λA e=>?_;have j:=i.ext e;simp only[push_cast,j.ld0,true_and,l,and_self];refine bit_spec oM oM ?_;rw[top_bit q r v];have z:=(JK k).symm;have p:(2:Int)^((k:Int).toNat-1)=((2^(k-1):Nat):Int):=(by simp);have D:2^(k-1)<2^k:=Nat.pow_lt_pow_right oM oM;refine zb (λs=>?_) (λs=>?_)
  ·refine zd λB f _=>?_;have o:=j.ext f;simp only[push_cast,o.ld0,o.ld1,true_and];rw[show(1:Int)=((1:Nat):Int) from rfl,vbin_shlI oM oM,pS];refine⟨rfl,?_⟩;rw[Y2,zk oM oM];refine⟨rfl,?_⟩;have:=h B ((((c.trans b).trans d).trans e).trans f);unfold M.sgn at this;rw[if_neg (by rw[p];omega),gi,z] at this;exact this
  ·simp only[push_cast,j.ld1];have:=h A (((c.trans b).trans d).trans e);unfold M.sgn at this;rw[if_pos (by rw[p];omega)] at this;exact this
theorem VecUn_spec {op wd n:Int} (p:∀w',Ext w w'->K (.tuple #[xX (M.vecUn op wd n).1.1 (M.vecUn op wd n).1.2,.bool (M.vecUn op wd n).2]) w'):vcall zD0 #[nI op,xX wd n] w K:=by
 refine zg {ord:=[oz 4 (oR 7) [(0,[1,2,3])],oz 6 (oR 7) [(0,[1,2,3])]]} Tryz.func358 ?_;refine zj λb1 w1 H q J F=>?_;refine zi zY λb2 w2 I r L g2=>?_;have B:=F.ext r;simp only[push_cast,B.ldAgg (t:=zh) zt];refine VecOk_spec λO i=>?_;have C:=B.ext i;have g3:=g2.ext i;have G:=(q.trans r).trans i;have d:∀g v,Ext O g->Same (· =b2) g v->Ext w v:=λg v h E=>Ext.then (G.trans h) E λy N=>by subst N;have:=q.size;omega
 simp only[push_cast];unfold M.vecUn at p;refine zo (λj=>?_) (λj=>?_)
 ·refine stVec g3 λg l _ g4=>?_;rw[g4.lv rK];have:=p g (d _ _ (Same.refl _ _) l);rwa[if_neg (by simp at j;simp[j])] at this
 ·rw[gJ] at j;obtain⟨k,a,rfl,rfl,s,u,D⟩:=M.vok_nat j;have R:=pow4 s u;refine zb (λx=>?_) (λx=>?_)
  ·subst x;refine zd λg b _=>?_;have o:=C.ext b;simp only[push_cast,o.ldAgg (t:=zh) zt,true_and];refine raw_spec oM λv c=>?_;have z:=o.ext c;have g5:=(g3.ext b).ext c;simp only[push_cast,z.ldAgg (t:=zh) zt,true_and,and_self];rw[vun_xorU oM];refine⟨rfl,vec_spec oM s u λQ f=>?_⟩;refine stVec (g5.ext f) λA m _ g7=>?_;rw[g7.lv rK];have:=p A (d _ _ ((b.trans c).trans f) m);rw[if_pos ⟨j,.inl rfl⟩,M.unM_not s u D] at this;exact this
  refine zb (λa2=>?_) (λa2=>?_)
  ·subst a2;refine zd λg b _=>?_;have o:=C.ext b;simp only[push_cast,o.ldAgg (t:=zh) zt,true_and];refine raw_spec oM λv c=>?_;have z:=o.ext c;have g5:=(g3.ext b).ext c;have e:IntKind.u64.wrap (0-(a:Int))=((if a=0 then 0 else 18446744073709551616-a:Nat):Int):=by
    simp only[IntKind.wrap,IntKind.bits,IntKind.signed,GA,gQ,if_false];split<;>omega
   simp only[push_cast,z.ldAgg (t:=zh) zt,true_and,and_self];rw[e];refine vec_spec (by split<;>omega) s u λQ f=>?_;refine stVec (g5.ext f) λA m _ g7=>?_;rw[g7.lv rK];have:=p A (d _ _ ((b.trans c).trans f) m);rw[if_pos ⟨j,.inr rfl⟩,M.unM_neg s u D] at this;exact this
  ·refine stVec g3 λg l _ g4=>?_;rw[g4.lv rK];have:=p g (d _ _ (Same.refl _ _) l);rwa[if_neg (λh=>h.2.elim x a2)] at this
theorem binaries_spec (f:∀w',Ext w w'->K (.agg ⟨[.nilFunc,.nilFunc,.nilFunc,.func (.func xl) #[] #[],.func (.func xk) #[] #[],.func (.func xj) #[] #[],.func (.func xi) #[] #[],.func (.func xh) #[] #[],.func (.func xg) #[] #[],.func (.func xf) #[] #[],.func (.func xe) #[] #[],.func (.func xd) #[] #[],.func (.func xb) #[] #[],.func (.func xa) #[] #[]]⟩) w'):vcall K6 #[] w K:=by
 refine zg {} Tryz.func364 ?_;have j:yi xc (.agg ⟨[.nilFunc,.nilFunc,.nilFunc,.nilFunc,.nilFunc,.nilFunc,.nilFunc,.nilFunc,.nilFunc,.nilFunc,.nilFunc,.nilFunc,.nilFunc,.nilFunc]⟩):=by unfold yi;kernel_rfl
 refine zi j λb1 w1 g a h d=>?_;refine⟨_,w1,run_build (P:=P) w1 _ _ ⟨[.nilFunc,.nilFunc,.nilFunc,.func (.func xl) #[] #[],.func (.func xk) #[] #[],.func (.func xj) #[] #[],.func (.func xi) #[] #[],.func (.func xh) #[] #[],.func (.func xg) #[] #[],.func (.func xf) #[] #[],.func (.func xe) #[] #[],.func (.func xd) #[] #[],.func (.func xb) #[] #[],.func (.func xa) #[] #[]]⟩ rK,?_⟩;refine d.stAgg rfl rK (by intro v c;simp only[X0,gm,or_false] at c;rcases c with rfl|rfl|rfl|rfl|rfl|rfl|rfl|rfl|rfl|rfl|rfl|rfl|rfl|rfl<;>rfl) λw2 b _ e=>?_;rw[e.lv rK];exact f _ (Ext.then a b λy i=>by subst i;omega)
theorem bin_all {op k a b:Nat} (j:3<=op) (i:op<=13) (g:1<=k) (h:k<=4) (e:a<2^k) (f:b<2^k) {K:oK} {w w0:World} (hw:w0=w) (c:OpR K w op k a b) {N:oK}
  (d:∀x,vcallv x #[xX k a,xX k b] w K->N x w):
  q60 xc (.agg ⟨[.nilFunc,.nilFunc,.nilFunc,.func (.func xl) #[] #[],.func (.func xk) #[] #[],.func (.func xj) #[] #[],.func (.func xi) #[] #[],.func (.func xh) #[] #[],.func (.func xg) #[] #[],.func (.func xf) #[] #[],.func (.func xe) #[] #[],.func (.func xd) #[] #[],.func (.func xb) #[] #[],.func (.func xa) #[] #[]]⟩) (nI op) w N:=by
 rcases(by omega:op=3\/op=4\/op=5\/op=6\/op=7\/op=8\/op=9\/op=10\/op=11\/op=12\/op=13) with rfl|rfl|rfl|rfl|rfl|rfl|rfl|rfl|rfl|rfl|rfl
 ·exact⟨.func (.func xl) #[] #[],w,rK,d (.func (.func xl) #[] #[]) (binaries_1_spec g h e f c)⟩
 ·exact⟨.func (.func xk) #[] #[],w,rK,d (.func (.func xk) #[] #[]) (binaries_2_spec g h e f c)⟩
 ·exact⟨.func (.func xj) #[] #[],w,rK,d (.func (.func xj) #[] #[]) (binaries_3_spec g h e f c)⟩
 ·exact⟨.func (.func xi) #[] #[],w,rK,d (.func (.func xi) #[] #[]) (binaries_4_spec g h e f c)⟩
 ·exact⟨.func (.func xh) #[] #[],w,rK,d (.func (.func xh) #[] #[]) (binaries_5_spec g h e f c)⟩
 ·exact⟨.func (.func xg) #[] #[],w,rK,d (.func (.func xg) #[] #[]) (binaries_6_spec g h e f c)⟩
 ·exact⟨.func (.func xf) #[] #[],w,rK,d (.func (.func xf) #[] #[]) (binaries_7_spec g h e f c)⟩
 ·exact⟨.func (.func xe) #[] #[],w,rK,d (.func (.func xe) #[] #[]) (binaries_8_spec g h e f c)⟩
 ·exact⟨.func (.func xd) #[] #[],w,rK,d (.func (.func xd) #[] #[]) (binaries_9_spec g h e f c)⟩
 ·exact⟨.func (.func xb) #[] #[],w,rK,d (.func (.func xb) #[] #[]) (binaries_10_spec g h e f c)⟩
 ·exact⟨.func (.func xa) #[] #[],w,rK,d (.func (.func xa) #[] #[]) (binaries_11_spec g h e f c)⟩
theorem VecBin_spec {op wd n v m:Int} (D:∀w',Ext w w'->K (.tuple #[xX (M.vecBin op wd n v m).1.1 (M.vecBin op wd n v m).1.2,.bool (M.vecBin op wd n v m).2]) w'):vcall WX #[nI op,xX wd n,xX v m] w K:=by
 refine zg {ord:=[(4,[0,1,2,3,4,5,6,7,8,9,10,11,12,13,14,15],[(0,[1,4,13,15]),(1,[4,13,15]),(2,[3,4,13,15]),(3,[4,13,15]),(4,[13,15]),(5,[6,9,12,13,15]),(6,[9,12,13,15]),(7,[8,9,12,13,15]),(8,[9,12,13,15]),(9,[12,13,15]),(10,[11,12,13,15]),(11,[12,13,15]),(12,[13,15]),(13,[15]),(14,[15])]),oz 10 [0,2,4,5,1,3,6,7,8,9] [(0,[2,4,5,1,3,6]),(2,[4,5,1]),(4,[5,1,3]),(5,[1,3])]],cuts:=[(8195,[]),(36874,[])]} Tryz.func363 ?_;refine zj λb1 w1 a9 L ad h1=>?_;refine zj λb2 w2 aa E ae g2=>?_;refine zi zY λb3 V ab F af r3=>?_;have hE:=(L.trans E).trans F;have ah:=L.size;have ai:=E.size;have h3:=(h1.ext E).ext F;have g3:=g2.ext F;have B:∀s A,Ext V s->Same (· =b3) s A->Ext w A:=λs A h h'=>Ext.then (hE.trans h) h' λy hy=>by subst hy;omega
 have d:(M.vecBin op wd n v m)=((0,0),false)->∀s,Ext V s->zR zh (oP b3 0) (xX 0 0) s λ_ A=>vlv zh (oP b3 0) A λr w6=>K (.tuple #[r,.bool false]) w6:=by
  intro e s c;refine stVec (r3.ext c) λA a5 _ U=>?_;rw[U.lv rK];have:=D A (B _ _ c a5);rwa[e] at this
 refine zq (λu s=>u=[]/\Ext V s/\M.vok wd n=true/\M.vok v m=true) (λC hC=>?_) ?_
 ·simp only[push_cast,h3.ldAgg (t:=zh) zt];refine VecOk_spec λs c=>?_;have g4:=g3.ext c;simp only[push_cast];refine zo (λS=>d ?_ _ c) (λS=>?_)
  ·unfold M.vecBin;rw[if_neg (by simp at S;simp[S])]
  ·simp only[push_cast,g4.ldAgg (t:=zh) zt];refine VecOk_spec λA i=>?_;simp only[push_cast];refine zo (λp=>d ?_ _ (c.trans i)) (λp=>?_)
   ·unfold M.vecBin;rw[if_neg (by simp at p;simp[p])]
   ·exact hC _ _ ⟨rfl,c.trans i,by simpa using S,by simpa using p⟩
 ·rintro u g s ⟨rfl,c,O,p⟩;have Y:=h3.ext c;have g4:=g3.ext c;have r4:=r3.ext c;obtain⟨k,a,rfl,rfl,k1,k4,ha⟩:=M.vok_nat O;obtain⟨l,b,rfl,rfl,l1,T,hb⟩:=M.vok_nat p;have I:=pow16 k4 ha;have a8:=pow16 T hb;unfold M.vecBin at D d;rw[if_pos ⟨O,p⟩] at D d;simp only[push_cast];refine zb (λW=>?_) (λW=>?_)
  ·rw[if_pos W] at D d;refine zd λA i _=>?_;have Z:=Y.ext i;have g5:=g4.ext i;have U:=r4.ext i;have hm:a*2^l<=524288:=shl_small I oM;have e1:IntKind.i64.wrap ((k:Int)+(l:Int))=((k+l:Nat):Int):=by rw[zk oM oM];omega
   have eS:∀(w:World) (K:oK),xE .shl zC false (nI (a:Int)) (nI (l:Int)) w K=K (nI (a*2^l:Nat)) w:=λw K=>vbin_shlI oM oM;have eO:∀(w:World) (K:oK),xE .or zC false (nI ((a*2^l:Nat):Int)) (nI (b:Int)) w K=K (nI (a*2^l|||b:Nat)) w:=λw K=>vbin_orI oM oM;have eC:=M.cat_or T k4 ha hb;obtain⟨q,hq⟩:∃q,q=a*2^l:=⟨_,rfl⟩;obtain⟨z,hz⟩:∃z,z=q|||b:=⟨_,rfl⟩;rw[<-hq] at eS eO eC;rw[<-hz] at eO eC;simp only[push_cast,Z.ld0,Z.ld1,g5.ld0,g5.ld1,true_and,e1,eS,eO];refine zi zY λb4 w6 ac f ag p6=>?_;have H:=Z.ext f;have g6:=g5.ext f;have r6:=U.ext f;simp only[push_cast,H.ld0,H.ld1,g6.ld0,g6.ld1,true_and,e1,eS,eO,and_self];refine stVec p6 λw7 R _ p7=>?_;have J:b3≠b4:=by have:=U.lt;omega
   have r7:=r6.same R J;have j:Ext V w7:=Ext.then ((c.trans i).trans f) R λy hy=>by subst hy;have:=(c.trans i).size;omega
   simp only[push_cast,p7.ld0];refine zb (λa2=>d ?_ _ j) (λa2=>?_)
   ·rw[if_neg oM]
   ·simp only[push_cast,p7.ldAgg (t:=zh) zt];refine stVec r7 λw8 a6 _ r8=>?_;rw[r8.lv rK];have:=D w8 (B _ _ j a6);rw[if_pos oM,<-eC] at this;exact this
  ·rw[if_neg W] at D d;refine zq (λu A=>u=[]/\A=s/\3<=op/\op<=13/\(k:Int)=l) (λC hC=>?_) ?_
   ·refine zb (λa2=>d (by rw[if_neg oM]) _ c) (λa2=>?_);refine zb (λa3=>d (by rw[if_neg oM]) _ c) (λa3=>?_);simp only[push_cast,Y.ld0,g4.ld0];refine zb (λa4=>d (by rw[if_neg oM]) _ c) (λa4=>?_);exact hC _ _ ⟨rfl,rfl,oM,oM,oM⟩
   ·rintro u g A ⟨rfl,rfl,c3,X,ckl⟩;have:l=k:=oM;subst this;refine zd λw6 f _=>?_;have H:=Y.ext f;have g6:=g4.ext f;simp only[push_cast,H.ldAgg (t:=zh) zt,g6.ldAgg (t:=zh) zt,true_and];refine binaries_spec λw7 j=>?_;have h7:=H.ext j;have g7:=g6.ext j;simp only[push_cast,h7.ldAgg (t:=zh) zt,g7.ldAgg (t:=zh) zt,true_and,and_self];obtain⟨o,rfl⟩:∃o:Nat,op=o:=⟨op.toNat,oM⟩;refine bin_all oM oM l1 T ha hb rfl ?_ λx hx=>⟨rfl,hx⟩;intro w8 r G hr a0;have h8:=h7.ext G;simp only[push_cast,h8.ldAgg (t:=zh) zt,true_and,and_self];refine vec_spec hr l1 T λw9 N=>?_;have r9:=(((r4.ext f).ext j).ext G).ext N;refine stVec r9 λw10 Q _ a7=>?_;rw[a7.lv rK];have:=D w10 (B _ _ ((((c.trans f).trans j).trans G).trans N) Q);rw[if_pos ⟨c3,X,rfl⟩] at this;rw[a0];exact this
theorem eqVec {a b c d:Int} {t:Bool}:xE .eql zh t (xX a b) (xX c d) w K=K (.bool (decide (a=c/\b=d))) w:=by
 refine yo (run_eqGuard_agg w _ _ _ _ _ _ rK) ?_;have j:(P.fieldsOf zh).toList=[(P.fieldsOf zh).getD 0 default,(P.fieldsOf zh).getD 1 default]:=rK
 have g:((P.fieldsOf zh).getD 0 default).name≠ "_" :=by decide+kernel
 have h:((P.fieldsOf zh).getD 1 default).name≠ "_" :=by decide+kernel
 have i0:P.underlying ((P.fieldsOf zh).getD 0 default).type=some (.int .i64):=rK
 have i1:P.underlying ((P.fieldsOf zh).getD 1 default).type=some (.int .i64):=rK
 have i:∀x y:Value,(part ((P.fieldsOf zh).getD 0 default).type ⟨[x,y]⟩ ((P.fieldsOf zh).getD 0 default).offset).run P w= .ok x w:=λx y=>rK
 have p1:∀x y:Value,(part ((P.fieldsOf zh).getD 1 default).type ⟨[x,y]⟩ ((P.fieldsOf zh).getD 1 default).offset).run P w= .ok y w:=λx y=>rK
 have k:(Op.equalIn 10000 zh (xX a b) (xX c d)).run P w= .ok (decide (a=c/\b=d)) w:=by
  rw[run_equalIn_struct w 9999 zh _ _ rK rK,j];generalize (P.fieldsOf zh).getD 0 default=f0 at g i0 i⊢;generalize (P.fieldsOf zh).getD 1 default=f1 at h i1 p1⊢;simp only[Op.eqFields,if_pos g,if_pos h,Sem.run_bind,i,p1,Result.andThen_ok,run_equalIn_int w 9998 _ _ _ _ _ i0,run_equalIn_int w 9998 _ _ _ _ _ i1];by_cases e:a=c
  ·by_cases f:b=d
   ·subst e;subst f;simp[run_equalIn_int w 9998 _ _ _ _ _ i1,p1]
   ·subst e;simp[run_equalIn_int w 9998 _ _ _ _ _ i1,p1,f]
  ·simp[e]
 rw[run_eql_struct,k];rfl
theorem VecCmp_spec {op wd n v m:Int} (k:∀w',Ext w w'->K (.tuple #[.bool (M.vecCmp op wd n v m).1,.bool (M.vecCmp op wd n v m).2]) w'):vcall WW #[nI op,xX wd n,xX v m] w K:=by
 refine zg {ord:=[oz 9 [0,2,1,3,4,5,6] [(0,[2]),(2,[1])]],cuts:=[(8195,[])]} Tryz.func380 ?_;refine zj λb1 w1 D y F A=>?_;refine zj λb2 w2 E l G g2=>?_;have p:=y.trans l;have r:=A.ext l;have d:(M.vecCmp op wd n v m)=(false,false)->∀f,Ext w2 f->K (.tuple #[.bool false,.bool false]) f:=by
  intro e f a;have:=k f (p.trans a);rwa[e] at this
 refine zq (λu f=>u=[]/\Ext w2 f/\M.vok wd n=true/\M.vok v m=true/\wd=v) (λC B=>?_) ?_
 ·simp only[push_cast,r.ldAgg (t:=zh) zt];refine VecOk_spec λf a=>?_;have g4:=g2.ext a;simp only[push_cast];refine zo (λq=>d ?_ _ a) (λq=>?_)
  ·unfold M.vecCmp;rw[if_neg (by simp at q;simp[q])]
  ·simp only[push_cast,g4.ldAgg (t:=zh) zt];refine VecOk_spec λH b=>?_;have g5:=g4.ext b;have x:=(r.ext a).ext b;simp only[push_cast];refine zo (λc=>d ?_ _ (a.trans b)) (λc=>?_)
   ·unfold M.vecCmp;rw[if_neg (by simp at c;simp[c])]
   ·simp only[push_cast,x.ld0,g5.ld0];refine zb (λj=>d ?_ _ (a.trans b)) (λj=>?_)
    ·unfold M.vecCmp;rw[if_neg (λh=>j h.2.2.1)]
    ·exact B _ _ ⟨rfl,a.trans b,by simpa using q,by simpa using c,oM⟩
 ·rintro u g f ⟨rfl,a,i,c,rfl⟩;have s:=r.ext a;have g4:=g2.ext a;unfold M.vecCmp at k d;simp only[push_cast];refine zb (λj=>?_) (λj=>?_)
  ·subst j;simp only[push_cast,s.ldAgg (t:=zh) zt,g4.ldAgg (t:=zh) zt];rw[eqVec];have:=k f (p.trans a);rw[if_pos ⟨i,c,rfl,oM,oM⟩] at this;simp only[M.cmpM,if_true] at this;simp only[true_and];exact this
  refine zb (λa2=>?_) (λa2=>?_)
  ·subst a2;simp only[push_cast,s.ld1,g4.ld1];have:=k f (p.trans a);rw[if_pos ⟨i,c,rfl,oM,oM⟩] at this;exact this
  refine zb (λa3=>?_) (λa3=>?_)
  ·subst a3;refine zd λH b _=>?_;have x:=s.ext b;have g5:=g4.ext b;simp only[push_cast,x.ldAgg (t:=zh) zt,g5.ldAgg (t:=zh) zt,true_and];refine VecSigned_spec λJ o=>?_;have g6:=g5.ext o;simp only[push_cast,g6.ldAgg (t:=zh) zt,true_and,and_self];refine VecSigned_spec λI z=>?_;simp only[push_cast,if_pos i,if_pos c,true_and];have:=k I (((p.trans a).trans b).trans (o.trans z));rw[if_pos ⟨i,c,rfl,oM,oM⟩] at this;exact this
  ·exact d (by rw[if_neg (λh=>oM)]) _ a
theorem VecCut_spec {wd n hi lo:Int} (m:∀w',Ext w w'->K (.tuple #[xX (M.vecCut wd n hi lo).1.1 (M.vecCut wd n hi lo).1.2,.bool (M.vecCut wd n hi lo).2]) w'):vcall WV #[xX wd n,nI hi,nI lo] w K:=by
 refine zg {cuts:=[(8195,[])]} Tryz.func389 ?_;refine zj λb1 w1 T o V O=>?_;refine zi zY λb3 E U p W I=>?_;have R:=o.trans p;have Z:=o.size;have v:=O.ext p;have f:∀d i,Ext E d->Same (· =b3) d i->Ext w i:=λd i h N=>Ext.then (R.trans h) N λy X=>by subst X;omega
 have c:(M.vecCut wd n hi lo)=((0,0),false)->∀d,Ext E d->zR zh (oP b3 0) (xX 0 0) d λ_ i=>vlv zh (oP b3 0) i λr F=>K (.tuple #[r,.bool false]) F:=by
  intro e d b;refine stVec (I.ext b) λi B _ r5=>?_;rw[r5.lv rK];have:=m i (f _ _ b B);rwa[e] at this
 unfold M.vecCut at m c;refine zq (λu d=>u=[]/\Ext E d/\M.vok wd n=true/\0<=lo/\lo<=hi/\hi<wd) (λC Q=>?_) ?_
 ·simp only[push_cast,v.ldAgg (t:=zh) zt];refine VecOk_spec λd b=>?_;have A:=v.ext b;simp only[push_cast];refine zo (λj=>c ?_ _ b) (λj=>?_)
  ·rw[if_neg (by simp at j;simp[j])]
  refine zb (λJ=>c (if_neg oM) _ b) (λJ=>?_);refine zb (λa2=>c (if_neg oM) _ b) (λa2=>?_);simp only[push_cast,A.ld0];refine zb (λa3=>c (if_neg oM) _ b) (λa3=>?_);exact Q _ _ ⟨rfl,b,by simpa using j,oM,oM,oM⟩
 ·rintro u g d ⟨rfl,b,j,c1,c2,c3⟩;have A:=v.ext b;have r4:=I.ext b;obtain⟨k,a,rfl,rfl,k1,k4,S⟩:=M.vok_nat j;obtain⟨l,rfl⟩:∃l:Nat,lo=l:=⟨lo.toNat,oM⟩;obtain⟨t,H⟩:∃t:Nat,hi-(l:Int)+1=t:=⟨(hi-l+1).toNat,oM⟩;have G:=pow16 k4 S;have L:IntKind.i64.wrap (IntKind.i64.wrap (hi-(l:Int))+1)=(t:Int):=by rw[zk (x:=hi-l) oM oM,zk oM oM];omega
  simp only[push_cast,A.ldAgg (t:=zh) zt,L];refine raw_spec oM λi q=>?_;have hd:=Gk a (2^l);rw[vbin_shrU oM];refine cut_spec oM oM oM ?_;have hm:=Nat.mod_le (a/2^l) (2^t);have s:M.cutM (a:Int) hi (l:Int)=((a/2^l%2^t:Nat):Int):=by
   unfold M.cutM;rw[H];simp
  rw[if_pos ⟨j,c1,c2,c3⟩] at m;simp only[s,H] at m;obtain⟨z,Y⟩:∃z,z=a/2^l%2^t:=⟨_,rfl⟩;rw[<-Y] at hm m⊢;rw[ja JA QZ,wrapN oM];simp only[push_cast];refine stVec (r4.ext q) λF D _ r6=>?_;rw[r6.lv rK];exact m F (f _ _ (b.trans q) D)
end
section
variable {w:World} {K:oK} {F G:Nat->Prop}
@[push_cast] theorem tn0:(0:Int).toNat=0:=rfl
@[push_cast] theorem tn1:(1:Int).toNat=1:=rfl
@[push_cast] theorem tn2:(2:Int).toNat=2:=rfl
theorem jk0 {α:Type} (xs:List α) (d:α) (p:α->Bool):(List.range xs.length).any (λi=>p (xs.getD i d))=xs.any p:=by
 rw[PG,GY,GY];constructor
 ·rintro⟨i,hi,a⟩;exact⟨_,M.getD_mem (gF.1 hi) d,a⟩
 ·rintro⟨x,b,a⟩;obtain⟨i,hi,rfl⟩:=gj b;exact⟨i,gF.2 hi,by rw[y0,y4 hi];exact a⟩
abbrev DclV (d:M.Dcl):Value:= .agg ⟨[.string d.1,nI d.2]⟩
abbrev yY0:M.Dcl:=(M.nada,0)
theorem IndexFunc_Decl {v f:Value} {ds:List M.Dcl} {p:Nat->Bool} (e:DclsR F w v ds) (m:∀i,i<ds.length->FnB w f #[DclV (ds.getD i yY0)] (p i))
  (k:∀w',Ext w w'->K (nI (idxI ds.length p)) w'):vcall qc #[v,f] w K:=by
 refine zg {loops:=[(2,[8])]} Tryz.func122 ?_;simp(disch:=first|(simp only[push_cast])|omega) only[push_cast,e.len];have hlen:=e.small;refine vloop_up ds.length (λi u w'=>u=[nI i]/\Ext w w'/\∀j,j<i->p j=false) ⟨rfl,Same.refl _ _,oM⟩ ?_;rintro i _ g w1 C hi ⟨rfl,he,d⟩ l;simp only[push_cast];refine zb (λq=>?_) (λn=>?_)
 ·have b:=e.ext he;simp(disch:=first|(simp only[push_cast])|omega) only[push_cast,b.iaddr,b.load];refine m i oM w1 _ he λw2 a=>zo (λc=>?_) (λc=>?_)
  ·have:=k w2 (he.trans a);rwa[idxI_some oM c d] at this
  ·rw[inc64' oM];exact l oM _ _ ⟨rfl,he.trans a,λj o=>by
    by_cases h:j=i
    ·subst h;exact c
    ·exact d j oM⟩
 ·have:=k w1 he;rwa[Kj (λj o=>d j oM)] at this
theorem QQ {v f:Value} {ds:List M.Dcl} {p:Nat->Bool} (c:DclsR F w v ds) (b:∀i,i<ds.length->FnB w f #[DclV (ds.getD i yY0)] (p i))
  (a:∀w',Ext w w'->K (.bool ((List.range ds.length).any p)) w'):vcall xN #[v,f] w K:=by
 refine zg {} Tryz.func89 ?_;refine IndexFunc_Decl c b λw' he=>?_;simp only[push_cast,Xc];exact a w' he
theorem YP {b:Bool} (a:K (nI (M.b2i b)) w):vcall WS #[.bool b] w K:=by
 refine zg {} Tryz.func162 ?_;refine zo (λh=>?_) (λh=>?_)<;>subst h<;>exact a
theorem Z0 {b:Bool} {s:Int} (a:K (nI (if b=true then s else-1)) w):vcall Z5 #[.bool b,nI s] w K:=by
 refine zg {} Tryz.func357 ?_;refine zo (λh=>?_) (λh=>?_)<;>subst h<;>exact a
theorem qW {p:Prop} [Decidable p] {s:Int} (a:K (nI (if p then s else-1)) w):vcall Z5 #[.bool (decide p),nI s] w K:=
 Z0 (by simpa using a)
theorem jM {s:Int} (a:K (nI (-1)) w):vcall Z5 #[.bool false,nI s] w K:=Z0 a
theorem qI {s:ByteArray} {n:Int} (c:∀w',Ext w w'->K (nI n) w'):vcall yl #[.agg ⟨[.string s,nI n]⟩] w K:=by
 refine zg {} Tryz.func353 ?_;refine zj λb1 w1 d a e b=>?_;simp only[push_cast,b.ld1];exact c _ a
abbrev KV (s:ByteArray) (n:Int):Value:= .agg ⟨[.string s,nI n]⟩
theorem unKind_sort_spec {s:ByteArray} {n:Int} {dv tv kv:Value} {t:M.Tm} {xs:List Int} (k:TermR F w tv t) (l:Ints G w kv xs) (p:xs.length=1)
  (e:∀w',Ext w w'->K (nI (if 0<xs.getD 0 0 then xs.getD 0 0 else-1)) w'):vcall kk #[KV s n,dv,tv,kv] w K:=by
 refine zg {ord:=[oz 1 (oR 9) [(0,[4,5,6]),(1,[4,5,6]),(2,[4,5,6]),(3,[4,5,6])]]} Tryz.func355 ?_;obtain⟨ksv,rfl,h⟩:=k;refine zj λb1 w1 f a i m=>?_;refine zj λb2 w2 g b j o=>?_;refine zd λq c _=>?_;have d:=l.ext ((a.trans b).trans c);simp(disch:=first|(simp only[push_cast])|omega) only[push_cast,d.iaddr,d.load,true_and];exact qW (e _ ((a.trans b).trans c))
theorem binKind_sort_spec {s:ByteArray} {n:Int} {dv tv kv:Value} {t:M.Tm} {xs:List Int} (m:TermR F w tv t) (o:Ints G w kv xs) (r:xs.length=2)
  (g:∀w',Ext w w'->K (nI (if 0<xs.getD 0 0/\xs.getD 0 0=xs.getD 1 0 then xs.getD 0 0 else-1)) w'):vcall jZ #[KV s n,dv,tv,kv] w K:=by
 refine zg {ord:=[oz 1 (oR 18) [(0,[13,14,15]),(1,[13,14,15]),(2,[13,14,15]),(3,[13,14,15]),(4,[13,14,15]),(5,[8,9,10,13,14,15]),(6,[8,9,10,13,14,15]),(7,[8,9,10,13,14,15]),(8,[13,14,15]),(9,[13,14,15]),(10,[13,14,15]),(11,[13,14,15]),(12,[13,14,15])]]} Tryz.func395 ?_;obtain⟨ksv,rfl,j⟩:=m;refine zj λb1 w1 h b k p=>?_;refine zj λb2 w2 i c l q=>?_;refine zd λu d _=>?_;have e:=o.ext ((b.trans c).trans d);have f:=g _ ((b.trans c).trans d);simp(disch:=first|(simp only[push_cast])|omega) only[push_cast,e.iaddr,e.load,true_and];refine zb (λa=>?_) (λa=>?_)
 ·refine qW ?_;simpa only[a,true_and] using f
 ·refine jM ?_;simpa only[a,false_and,if_false] using f
theorem cmpKind_sort_spec {s:ByteArray} {n:Int} {dv tv kv:Value} {t:M.Tm} {xs:List Int} (m:TermR F w tv t) (o:Ints G w kv xs) (r:xs.length=2)
  (g:∀w',Ext w w'->K (nI (if 0<xs.getD 0 0/\xs.getD 0 0=xs.getD 1 0 then 0 else-1)) w'):vcall jW #[KV s n,dv,tv,kv] w K:=by
 refine zg {ord:=[oz 1 (oR 15) [(5,[8,9,10]),(6,[8,9,10]),(7,[8,9,10])]]} Tryz.func378 ?_;obtain⟨ksv,rfl,j⟩:=m;refine zj λb1 w1 h b k p=>?_;refine zj λb2 w2 i c l q=>?_;refine zd λu d _=>?_;have e:=o.ext ((b.trans c).trans d);have f:=g _ ((b.trans c).trans d);simp(disch:=first|(simp only[push_cast])|omega) only[push_cast,e.iaddr,e.load,true_and];refine zb (λa=>?_) (λa=>?_)
 ·refine qW ?_;simpa only[a,true_and] using f
 ·refine jM ?_;simpa only[a,false_and,if_false] using f
theorem catKind_sort_spec {s:ByteArray} {n:Int} {dv tv kv:Value} {t:M.Tm} {xs:List Int} (r:TermR F w tv t) (u:Ints G w kv xs) (y:xs.length=2) (h:∀i,-1<=xs.getD i 0/\xs.getD i 0<=4)
  (k:∀w',Ext w w'->K (nI (if 0<xs.getD 0 0/\0<xs.getD 1 0/\xs.getD 0 0+xs.getD 1 0<=4 then xs.getD 0 0+xs.getD 1 0 else-1)) w'):vcall jX #[KV s n,dv,tv,kv] w K:=by
 refine zg {ord:=[oz 1 (oR 29) [(0,[20,21,22,23,24,25,26]),(1,[20,21,22,23,24,25,26]),(2,[20,21,22,23,24,25,26]),(3,[20,21,22,23,24,25,26]),(4,[20,21,22,23,24,25,26]),(5,[20,21,22,23,24,25,26]),(6,[20,21,22,23,24,25,26]),(7,[20,21,22,23,24,25,26]),(8,[20,21,22,23,24,25,26]),(9,[20,21,22,23,24,25,26]),(10,[20,21,22,23,24,25,26]),(11,[14,15,16,20,21,22,23,24,25,26]),(12,[14,15,16,20,21,22,23,24,25,26]),(13,[14,15,16,20,21,22,23,24,25,26]),(14,[20,21,22,23,24,25,26]),(15,[20,21,22,23,24,25,26]),(16,[20,21,22,23,24,25,26]),(17,[20,21,22,23,24,25,26]),(18,[20,21,22,23,24,25,26]),(19,[20,21,22,23,24,25,26]),(20,[23,24,25]),(21,[23,24,25]),(22,[23,24,25])]]} Tryz.func361 ?_;obtain⟨ksv,rfl,o⟩:=r;refine zj λb1 w1 l c p v=>?_;refine zj λb2 w2 m d q x=>?_;refine zd λB e _=>?_;have f:=u.ext ((c.trans d).trans e);have g:=k _ ((c.trans d).trans e);have z:=h 0;have A:=h 1;have j:IntKind.i64.wrap (xs.getD 0 0+xs.getD 1 0)=xs.getD 0 0+xs.getD 1 0:=zk oM oM;simp(disch:=first|(simp only[push_cast])|omega) only[push_cast,f.iaddr,f.load,true_and,j];refine zb (λa=>?_) (λa=>?_)
 ·refine zb (λb=>?_) (λb=>?_)
  ·refine qW ?_;simpa only[a,b,true_and] using g
  ·refine jM ?_;simpa only[b,false_and,and_false,if_false] using g
 ·refine jM ?_;simpa only[a,false_and,if_false] using g
theorem ifKind_sort_spec {s:ByteArray} {n:Int} {dv tv kv:Value} {t:M.Tm} {xs:List Int} (m:TermR F w tv t) (o:Ints G w kv xs) (r:xs.length=3)
  (g:∀w',Ext w w'->K (nI (if xs.getD 0 0=0/\xs.getD 1 0=xs.getD 2 0 then xs.getD 1 0 else-1)) w'):vcall km #[KV s n,dv,tv,kv] w K:=by
 refine zg {ord:=[oz 1 (oR 18) [(0,[13,14,15]),(1,[13,14,15]),(2,[13,14,15]),(3,[13,14,15]),(4,[13,14,15]),(5,[8,9,10,13,14,15]),(6,[8,9,10,13,14,15]),(7,[8,9,10,13,14,15]),(8,[13,14,15]),(9,[13,14,15]),(10,[13,14,15]),(11,[13,14,15]),(12,[13,14,15])]]} Tryz.func390 ?_;obtain⟨ksv,rfl,j⟩:=m;refine zj λb1 w1 h b k p=>?_;refine zj λb2 w2 i c l q=>?_;refine zd λu d _=>?_;have e:=o.ext ((b.trans c).trans d);have f:=g _ ((b.trans c).trans d);simp(disch:=first|(simp only[push_cast])|omega) only[push_cast,e.iaddr,e.load,true_and];refine zb (λa=>?_) (λa=>?_)
 ·refine qW ?_;simpa only[a,true_and] using f
 ·refine jM ?_;simpa only[a,false_and,if_false] using f
theorem Qa {s:ByteArray} {n:Int} {dv tv kv:Value} {t:M.Tm} (q:TermR F w tv t)
  (j:∀w',Ext w w'->K (nI (if M.vok t.a t.b=true then t.a else-1)) w'):vcall jP #[KV s n,dv,tv,kv] w K:=by
 refine zg {ord:=[oz 1 [0,1,2,3,4,6,7,5,8,9] [(0,[2,3,6,7]),(1,[2,3,6,7]),(2,[6,7]),(3,[6,7]),(4,[6,7]),(6,[5]),(7,[5])]]} Tryz.func382 ?_;obtain⟨ksv,rfl,m⟩:=q;refine zj λb1 w1 k f o r=>?_;refine zj λb2 w2 l g p h=>?_;refine zd λu c _=>?_;have e:=h.ext c;simp(disch:=first|(simp only[push_cast])|omega) only[push_cast,e.ld1,e.ld2,true_and];refine VecOk_spec λv d=>?_;have i:=e.ext d;simp(disch:=first|(simp only[push_cast])|omega) only[push_cast,i.ld1,true_and,and_self];exact Z0 (j _ (((f.trans g).trans c).trans d))
theorem cutKind_sort_spec {s:ByteArray} {n:Int} {dv tv kv:Value} {t:M.Tm} {xs:List Int} (y:TermR F w tv t) (z:Ints G w kv xs) (B:xs.length=1) (r:∀i,-1<=xs.getD i 0/\xs.getD i 0<=4)
  (m:∀w',Ext w w'->K (nI (if 0<=t.b/\t.b<=t.a/\t.a<xs.getD 0 0 then t.a-t.b+1 else-1)) w'):vcall jV #[KV s n,dv,tv,kv] w K:=by
 refine zg {ord:=[oz 1 (oR 26) [(0,[18,19,20,21,22,23]),(1,[18,19,20,21,22,23]),(2,[18,19,20,21,22,23]),(3,[18,19,20,21,22,23]),(4,[6,7,18,19,20,21,22,23]),(5,[6,7,18,19,20,21,22,23]),(6,[18,19,20,21,22,23]),(7,[18,19,20,21,22,23]),(8,[18,19,20,21,22,23]),(9,[18,19,20,21,22,23]),(10,[18,19,20,21,22,23]),(11,[13,14,15,18,19,20,21,22,23]),(12,[13,14,15,18,19,20,21,22,23]),(13,[18,19,20,21,22,23]),(14,[18,19,20,21,22,23]),(15,[18,19,20,21,22,23]),(16,[18,19,20,21,22,23]),(17,[18,19,20,21,22,23]),(18,[20,21]),(19,[20,21])]]} Tryz.func387 ?_;obtain⟨ksv,rfl,q⟩:=y;refine zj λb1 w1 o e u A=>?_;refine zj λb2 w2 p f v l=>?_;refine zd λD d _=>?_;have g:=z.ext ((e.trans f).trans d);have j:=l.ext d;have h:=m _ ((e.trans f).trans d);have C:=r 0;simp(disch:=first|(simp only[push_cast])|omega) only[push_cast,j.ld1,j.ld2,g.iaddr,g.load,true_and];refine zb (λa=>?_) (λa=>?_)
 ·refine zb (λb=>?_) (λb=>?_)
  ·by_cases c:t.a<xs.getD 0 0
   ·have k:IntKind.i64.wrap (IntKind.i64.wrap (t.a-t.b)+1)=t.a-t.b+1:=(by rw[zk (x:=t.a-t.b) oM oM,zk oM oM]);rw[k];refine qW ?_;simpa only[a,b,c,true_and] using h
   ·refine qW ?_;simpa only[c,and_false,if_false] using h
  ·refine jM ?_;simpa only[b,false_and,and_false,if_false] using h
 ·refine jM ?_;simpa only[a,false_and,if_false] using h
theorem Q0 {s:ByteArray} {n:Int} {f dv tv kv:Value} {t:M.Tm} {xs:List Int} (q:TermR F w tv t) (r:Ints G w kv xs)
  (c:∀w',Ext w w'->K (nI (if xs.any (λx=>decide (x≠0)) then-1 else 0)) w'):vcall jy #[.agg ⟨[.string s,nI n,f]⟩,dv,tv,kv] w K:=by
 refine zg {} Tryz.func392 ?_;obtain⟨ksv,rfl,l⟩:=q;refine zj λb1 w1 j a m u=>?_;refine zj λb2 w2 k b o v=>?_;have e:=r.ext (a.trans b);refine jj (p:=λi=>decide (xs.getD i 0≠0)) e (λi hi=>?_) λy d=>?_
 ·rw[Ki (by simpa using hi)];intro w' K he c;simp only[push_cast];refine zg {} Tryz.func394 ?_;simp only[push_cast];have:=c _ (Same.refl _ _);simpa using this
 ·have g:=c _ ((a.trans b).trans d);rw[y1,jk0 xs 0 (λx=>decide (x≠0))];simp only[push_cast];refine Z0 ?_;cases h:xs.any λx=>decide (x≠0)<;>rw[h] at g<;>exact g
theorem nameKind_sort_spec {s:ByteArray} {n:Int} {dv tv kv:Value} {t:M.Tm} {ds:List M.Dcl} (B:TermR F w tv t) (u:DclsR G w dv ds)
  (h:∀w',Ext w w'->K (nI (if M.findD ds t.s<0 then-1 else(ds.getD (M.findD ds t.s).toNat yY0).2)) w'):vcall jq #[KV s n,dv,tv,kv] w K:=by
 refine zg {} Tryz.func384 ?_;obtain⟨ksv,rfl,x⟩:=B;refine zj λb1 w1 o d y C=>?_;refine zj λb2 w2 q e z k=>?_;simp only[push_cast];have b:=u.ext (d.trans e);refine IndexFunc_Decl (p:=λi=>decide ((ds.getD i yY0).1=t.s)) b (λi hi=>?_) λD f=>?_
 ·intro w' K he h;simp only[push_cast];refine zg {} Tryz.func386 ?_;refine zj λb3 E r g A l=>?_;have m:=(k.ext he).ext g;simp(disch:=first|(simp only[push_cast])|omega) only[push_cast,l.ld0,m.ld3];exact h _ g
 ·have v:=M.findD_lt ds t.s;have j:=h _ ((d.trans e).trans f);have c:=b.ext f;have efd:idxI ds.length (λi=>decide ((ds.getD i yY0).1=t.s))=M.findD ds t.s:=rfl;rw[efd];simp only[push_cast];refine zb (λa=>?_) (λa=>?_)
  ·rwa[if_pos a] at j
  ·rw[if_neg a] at j;simp(disch:=first|(simp only[push_cast])|omega) only[push_cast,c.iaddr];simp(disch:=first|(simp only[push_cast])|omega) only[push_cast,c.load1];exact j
end
section
variable {w:World} {K:oK} {F:Nat->Prop}
theorem l1Max_spec {a b:Int} (c:K (nI (max a b)) w):vcall zu0 #[nI a,nI b] w K:=by
 refine zg {} Tryz.func93 ?_;simp only[push_cast];refine zb (λh=>?_) (λh=>?_)
 ·rwa[show max a b=a by omega] at c
 ·rwa[show max a b=b by omega] at c
theorem l1Min_spec {a b:Int} (c:K (nI (min a b)) w):vcall zt0 #[nI a,nI b] w K:=by
 refine zg {} Tryz.func83 ?_;simp only[push_cast];refine zb (λh=>?_) (λh=>?_)
 ·rwa[show min a b=a by omega] at c
 ·rwa[show min a b=b by omega] at c
theorem pow62 {k:Nat} (h:k<=62):2^k<=4611686018427387904:=gH (gY oM h) dC
theorem l1Two_spec {n:Int} (h:n<=62) (l:K (nI ((2^n.toNat:Nat):Int)) w):vcall QV #[nI n] w K:=by
 refine zg {loops:=[(3,[3,4])]} Tryz.func114 ?_;refine vloop_up n.toNat (λi u w'=>u=[nI (2^i:Nat),nI i]/\w'=w) ⟨rfl,rfl⟩ ?_;rintro i _ _ w1 C hi ⟨rfl,rfl⟩ e;have m:=pow62 (k:=i) oM;have c:((2^i:Nat):Int)*2=((2^(i+1):Nat):Int):=by rw[Nat.pow_succ];omega
 have b:i<n.toNat->2^(i+1)<=4611686018427387904:=λh=>pow62 oM;obtain⟨q,g⟩:∃q,q=2^i:=⟨_,rfl⟩;obtain⟨j,d⟩:∃j,j=2^(i+1):=⟨_,rfl⟩;rw[<-g] at c m⊢;rw[<-d] at c e b;simp only[push_cast];refine zb (λa=>?_) (λa=>?_)
 ·have f:=b oM;rw[c,zk oM oM,inc64' oM];exact e oM _ _ ⟨rfl,rfl⟩
 ·have:i=n.toNat:=oM;subst this;rw[g];exact l
theorem l1Two_nat {n:Nat} (h:n<=62) (a:K (nI ((2^n:Nat):Int)) w):vcall QV #[nI (n:Int)] w K:=
 l1Two_spec oM (by rwa[gi])
theorem spec_VecOk_spec {wd n:Int} (j:∀w',Ext w w'->K (.bool (M.vok wd n)) w'):vcall zy0 #[xX wd n] w K:=by
 refine zg {ord:=[oz 1 (oR 22) [(14,[16,17,18]),(15,[16,17,18])]]} Tryz.func95 ?_;refine zj λb1 w1 k f l h=>?_;refine zd λw2 c _=>?_;have e:=h.ext c;have i:=f.trans c;simp only[push_cast,e.ld0,e.ld1,true_and];have a:=j w2 i;refine zb (λd=>?_) (λd=>?_)
 ·refine zb (λa2=>?_) (λa2=>?_)
  ·refine zb (λa3=>?_) (λa3=>?_)
   ·refine l1Two_spec oM ?_;obtain⟨q,g⟩:∃q,q=2^wd.toNat:=⟨_,rfl⟩;have b:M.vok wd n=decide (n<(q:Nat)):=by
     simp only[M.vok,decide_eq_true d,decide_eq_true a2,decide_eq_true a3,pn];rw[g,JK]
    rw[<-g];simp only[push_cast,e.ld1,true_and,and_self];rw[b] at a;exact a
   ·have b:M.vok wd n=false:=(by simp only[M.vok,decide_eq_false a3,pf,GA]);rw[b] at a;exact a
  ·have b:M.vok wd n=false:=(by simp only[M.vok,decide_eq_false a2,pf,GA]);rw[b] at a;exact a
 ·have b:M.vok wd n=false:=(by simp only[M.vok,decide_eq_false d,GA]);rw[b] at a;exact a
theorem l1Bit_spec {n k:Nat} (d:n<9223372036854775808) (b:k<=62) (a:K (nI ((n/2^k%2:Nat):Int)) w):vcall zv0 #[nI (n:Int),nI (k:Int)] w K:=by
 refine zg {} Tryz.func177 ?_;refine l1Two_nat b ?_;have e:0<2^k:=PK oM;have c:n/2^k<=n:=Gk _ _;rw[ki oM,show(n:Int).tdiv ((2^k:Nat):Int)=((n/2^k:Nat):Int) from rfl,wrapN oM,kX oM,show((n/2^k:Nat):Int).tmod 2=((n/2^k%2:Nat):Int) from rfl];exact a
theorem l1Mod_spec {n:Int} {k:Nat} (h:1<=k) (j:k<=4) (q: -4611686018427387904<=n) (p:n<=4611686018427387904) (f:K (nI (n%(2^k:Nat))) w):vcall zs0 #[nI n,nI (k:Int)] w K:=by
 refine zg {} Tryz.func252 ?_;refine l1Two_nat oM ?_;have o:=pow4 h j;obtain⟨m,hm⟩:∃m,m=2^k:=⟨_,rfl⟩;rw[<-hm] at o f⊢;rw[kX oM];have g:m=2\/m=4\/m=8\/m=16:=by
  rcases(by omega:k=1\/k=2\/k=3\/k=4) with rfl|rfl|rfl|rfl<;>simp at hm<;>omega
 simp only[push_cast];by_cases l:0<=n
 ·rw[pD l];have i:0<=n%(m:Int):=Int.emod_nonneg _ oM;refine zb (λa=>absurd a oM) (λa=>f)
 ·obtain⟨b,rfl⟩:∃b:Nat,n= -(b:Int):=⟨(-n).toNat,oM⟩;rw[Int.neg_tmod,pD oM];have i:0<=(b:Int)%(m:Int):=Int.emod_nonneg _ oM;have h:(b:Int)%(m:Int)<m:=Int.emod_lt_of_pos _ oM;have e:(b:Int)%(m:Int)=0/\ -(b:Int)%(m:Int)=0\/0<(b:Int)%(m:Int)/\ -(b:Int)%(m:Int)= -((b:Int)%(m:Int))+m:=by
   rcases g with rfl|rfl|rfl|rfl<;>omega
  refine zb (λa=>?_) (λa=>?_)
  ·rcases e with⟨d,c⟩|⟨d,c⟩
   ·omega
   ·rw[zk oM oM,<-c];exact f
  ·rcases e with⟨d,c⟩|⟨d,c⟩
   ·rw[d,show-(0:Int)=0 from rfl,<-c];exact f
   ·omega
theorem l1Signed_spec {k a:Nat} (l:1<=k) (m:k<=4) (o:a<2^k) (i:∀w',Ext w w'->K (nI (M.sgn k a)) w'):vcall JQ #[xX k a] w K:=by
 refine zg {ord:=[oz 2 (oR 7) [(0,[2,3,4]),(1,[2,3,4])]]} Tryz.func253 ?_;have s:=pow4 l m;refine zj λb1 w1 p d u f=>?_;have n:IntKind.i64.wrap ((k:Int)-1)=((k-1:Nat):Int):=by rw[zk oM oM];omega
 simp only[push_cast,f.ld0,f.ld1,n];refine l1Bit_spec oM oM ?_;have b:=top_bit l m o;have v:=(JK k).symm;have j:(2:Int)^((k:Int).toNat-1)=((2^(k-1):Nat):Int):=by simp
 have h:a/2^(k-1)%2<2:=pN _ oM;obtain⟨z,x⟩:∃z,z=a/2^(k-1)%2:=⟨_,rfl⟩;rw[<-x] at b h⊢;simp only[push_cast];refine zb (λc=>?_) (λc=>?_)
 ·refine zd λw2 e _=>?_;have g:=f.ext e;simp only[push_cast,g.ld0,g.ld1,true_and];refine l1Two_nat oM ?_;have r: ¬a<2^(k-1):=by
   have:decide (z=1)=true:=decide_eq_true oM;rw[this] at b;exact of_decide_eq_true b.symm
  have:=i w2 (d.trans e);unfold M.sgn at this;rw[if_neg (by rw[j];omega),gi,v] at this;obtain⟨q,t⟩:∃q,q=2^k:=⟨_,rfl⟩;rw[<-t] at s this⊢;have hw:IntKind.i64.wrap ((a:Int)-(q:Int))=(a:Int)-(q:Int):=zk oM oM;simp only[push_cast,g.ld1,true_and,hw];exact this
 ·have r:a<2^(k-1):=by
   have:decide (z=1)=false:=decide_eq_false oM;rw[this] at b;have:=of_decide_eq_false b.symm;omega
  have:=i w1 d;unfold M.sgn at this;rw[if_pos (by rw[j];omega)] at this;simp only[push_cast,f.ld1];exact this
def zN (op x y:Nat):Nat:=if op=4 then x+y-x*y else if op=5 then(x+y)%2 else x*y
theorem zN_ck {op a b i:Nat} (d:3<=op) (g:op<=5) (e:a<16) (f:b<16) (hi:i<4):M.binN op 4 a b/2^(i+1)*2+zN op (a/2^i%2) (b/2^i%2)=M.binN op 4 a b/2^i:=by
 have c:∀o:Fin 6,∀i:Fin 4,3<=o.1->(List.range 16).all (λa=>(List.range 16).all λb=>decide (M.binN o.1 4 a b/2^(i.1+1)*2+zN o.1 (a/2^i.1%2) (b/2^i.1%2)=M.binN o.1 4 a b/2^i.1))=true:=by decide+kernel
 have:=c ⟨op,oM⟩ ⟨i,hi⟩ d;simp only[gW,gF,decide_eq_true_eq] at this;exact this a e b f
theorem zN_16 {op a b:Nat} (d:3<=op) (g:op<=5) (e:a<16) (f:b<16):M.binN op 4 a b<16:=by
 have c:∀o:Fin 6,3<=o.1->(List.range 16).all (λa=>(List.range 16).all λb=>decide (M.binN o.1 4 a b<16))=true:=by decide+kernel
 have:=c ⟨op,oM⟩ d;simp only[gW,gF,decide_eq_true_eq] at this;exact this a e b f
theorem l1Bits_spec {op a b:Nat} (D:3<=op) (E:op<=5) (H:a<16) (I:b<16) (G:K (nI ((M.binN op 4 a b:Nat):Int)) w):vcall WD #[nI (op:Int),nI (a:Int),nI (b:Int)] w K:=by
 refine zg {loops:=[(3,[7,8])]} Tryz.func288 ?_;have k:=zN_16 D E H I;refine vloop_up 4 (λj u w'=>u=[nI ((M.binN op 4 a b/2^(4-j):Nat):Int),nI (3-(j:Int))]/\w'=w) ⟨by rw[show M.binN op 4 a b/2^(4-0)=0 from Nat.div_eq_of_lt k];rfl,rfl⟩ ?_;rintro j _ _ w1 C hj ⟨rfl,rfl⟩ F;obtain⟨f,J⟩:∃f,f=M.binN op 4 a b:=⟨_,rfl⟩;have m:∀i,i<4->f/2^(i+1)*2+zN op (a/2^i%2) (b/2^i%2)=f/2^i:=λi hi=>by rw[J];exact zN_ck D E H I hi
 rw[<-J] at F G k⊢;by_cases U:j<=3
 ·obtain⟨i,hi⟩:∃i,i+j=3:=⟨3-j,oM⟩;have Q:4-j=i+1:=oM;have R:3-(j:Int)=(i:Int):=oM;have S:4-(j+1)=i:=oM;have T:3-((j+1:Nat):Int)=(i:Int)-1:=oM;have g:=F oM;rw[S,T] at g;rw[Q,R];have d:=m i oM;obtain⟨p,n⟩:∃p,p=f/2^(i+1):=⟨_,rfl⟩;obtain⟨q,o⟩:∃q,q=f/2^i:=⟨_,rfl⟩;have W:q<=f:=by rw[o];exact Gk _ _
  have V:p<=f:=by rw[n];exact Gk _ _
  rw[<-n,<-o] at d;rw[<-o] at g;rw[<-n];have ei:IntKind.i64.wrap ((i:Int)-1)=(i:Int)-1:=zk oM oM;simp only[push_cast];refine zb (λc=>?_) (λc=>absurd oM c);refine l1Bit_spec oM oM ?_;refine l1Bit_spec oM oM ?_;have Y:a/2^i%2<2:=pN _ oM;have Z:b/2^i%2<2:=pN _ oM;obtain⟨x,r⟩:∃x,x=a/2^i%2:=⟨_,rfl⟩;obtain⟨y,v⟩:∃y,y=b/2^i%2:=⟨_,rfl⟩;rw[<-r] at Y d⊢;rw[<-v] at Z d⊢;have t:x*y<=1:=by
   have:=PJ (show x<=1 by omega) (show y<=1 by omega);omega
  obtain⟨z,l⟩:∃z,z=x*y:=⟨_,rfl⟩;have A:(x:Int)*(y:Int)=(z:Int):=by rw[l];simp
  have L:z<=x/\z<=y:=by
   rcases(by omega:x=0\/x=1) with h|h<;>rcases(by omega:y=0\/y=1) with B|B<;>subst h<;>subst B<;>simp at l<;>omega
  rw[<-l] at t;unfold zN at d;rw[<-l] at d;simp only[push_cast,A];refine zb (λN=>?_) (λN=>?_)
  ·rw[if_pos oM] at d;rw[zk (x:=z) oM oM,zk (x:=(x:Int)+y) oM oM,zk (x:=(x:Int)+y-z) oM oM,zk (x:=(p:Int)*2) oM oM,zk (x:=(p:Int)*2+((x:Int)+y-z)) oM oM,ei,show(p:Int)*2+((x:Int)+y-z)=(q:Int) by omega];exact g _ _ ⟨rfl,rfl⟩
  rw[if_neg oM] at d;refine zb (λO=>?_) (λO=>?_)
  ·rw[if_pos oM] at d;rw[zk (x:=(x:Int)+y) oM oM,kX oM,show(x:Int)+(y:Int)=((x+y:Nat):Int) by omega,show((x+y:Nat):Int).tmod 2=(((x+y)%2:Nat):Int) from rfl];obtain⟨s,hs⟩:∃s,s=(x+y)%2:=⟨_,rfl⟩;have X:s<2:=oM;rw[<-hs] at d⊢;simp only[push_cast];rw[zk (x:=(p:Int)*2) oM oM,zk (x:=(p:Int)*2+s) oM oM,ei,show(p:Int)*2+(s:Int)=(q:Int) by omega];exact g _ _ ⟨rfl,rfl⟩
  ·rw[if_neg oM] at d;rw[zk (x:=z) oM oM,zk (x:=(p:Int)*2) oM oM,zk (x:=(p:Int)*2+z) oM oM,ei,show(p:Int)*2+(z:Int)=(q:Int) by omega];exact g _ _ ⟨rfl,rfl⟩
 ·have:j=4:=oM;subst this;have e:f/2^(4-4)=f:=Nat.div_one _;rw[e];simp only[push_cast];exact G
end
section
variable {w:World} {K:oK} {F:Nat->Prop}
theorem nat_ck {p:Nat->Nat->Nat->Bool} (h:∀v:Fin 5,(List.range 16).all (λa=>(List.range 16).all λb=> !(decide (1<=v.1)&&decide (a<2^v.1))||p v.1 a b)=true) {k a b:Nat} (d:1<=k) (e:k<=4) (c:a<2^k) (f:b<16):p k a b=true:=by
 have:=h ⟨k,oM⟩;simp only[gW,gF,Gi,gK,G5,decide_eq_false_iff_not] at this;rcases this a (pow16 e c) b f with(h|h)|h
 ·exact absurd d h
 ·exact absurd c h
 ·exact h
theorem shl_ck {k a b:Nat} (c:1<=k) (d:k<=4) (e:a<2^k) (f:b<16):a*2^min b k%2^k=M.binN 11 k a b:=
 of_decide_eq_true (nat_ck (p:=λk a b=>decide (a*2^min b k%2^k=M.binN 11 k a b)) (by decide+kernel) c d e f)
theorem shr_ck {k a b:Nat} (c:1<=k) (d:k<=4) (e:a<2^k) (f:b<16):a/2^min b k=M.binN 12 k a b:=
 of_decide_eq_true (nat_ck (p:=λk a b=>decide (a/2^min b k=M.binN 12 k a b)) (by decide+kernel) c d e f)
theorem sar_ck {k a b:Nat} (c:1<=k) (d:k<=4) (e:a<2^k) (f:b<16):(if a/2^(k-1)%2=0 then a/2^min b k else 2^k-1-(2^k-1-a)/2^min b k)=M.binN 13 k a b:=
 of_decide_eq_true (nat_ck (p:=λk a b=>decide ((if a/2^(k-1)%2=0 then a/2^min b k else 2^k-1-(2^k-1-a)/2^min b k)=M.binN 13 k a b)) (by decide+kernel) c d e f)
theorem l1Shift_spec {op k a b:Nat} (I:11<=op) (J:op<=13) (u:1<=k) (p:k<=4) (r:a<2^k) (A:b<16) (y:∀w',Ext w w'->K (nI ((M.binN op k a b:Nat):Int)) w'):vcall YE #[nI (op:Int),xX k a,nI (b:Int)] w K:=by
 refine zg {ord:=[oz 4 [0,1,2,5,6,3,4,7,8] [(0,[2,5,6,3]),(1,[2,5,6,3]),(2,[5,6]),(5,[3,4]),(6,[3,4])],oz 6 (oR 6) [(0,[2,3]),(1,[2,3])],oz 8 (oR 6) [(0,[2,3]),(1,[2,3])],oz 10 (oR 10) [(0,[1,2,3,4,5,6,7]),(1,[2,3,5,6]),(2,[5,6]),(3,[5,6]),(4,[5,6])]]} Tryz.func289 ?_;have O:=pow4 u p;have s:=pow16 p r;refine zj λb1 w1 L i Q l=>?_;simp only[push_cast,l.ld0];refine l1Min_spec ?_;obtain⟨n,E⟩:∃n,n=min b k:=⟨_,rfl⟩;have N:n<=k:=oM
 rw[show min (b:Int) (k:Int)=(n:Int) by omega];have j:1<=2^n/\2^n<=16:=⟨PK oM,gH (gY oM (show n<=4 by omega)) dC⟩
 try simp only[push_cast]
 refine zb (λc=>?_) (λc=>?_)
 ·have:op=11:=oM;subst this;have f:=shl_ck u p r A;rw[<-E] at f;refine zd λw2 g _=>?_;have h:=l.ext g;simp only[push_cast,h.ld0,h.ld1,true_and];refine l1Two_nat oM ?_;obtain⟨q,o⟩:∃q,q=2^n:=⟨_,rfl⟩;rw[<-o] at f j⊢;have hm:=mul225 s (show q-1<16 by omega);have t:a*q=a*(q-1)+a:=by rw[<-Nat.mul_succ];congr 1;omega
  obtain⟨x,G⟩:∃x,x=a*q:=⟨_,rfl⟩;have e:IntKind.i64.wrap ((a:Int)*(q:Int))=(x:Int):=by
   rw[show(a:Int)*(q:Int)=(x:Int) by rw[G];simp];exact wrapN oM
  rw[<-G] at f;simp only[push_cast,h.ld0,h.ld1,true_and,and_self,e];refine l1Mod_spec u p oM oM ?_;rw[show(x:Int)%((2^k:Nat):Int)=((x%2^k:Nat):Int) from rfl,f];exact y _ (i.trans g)
 refine zb (λc2=>?_) (λc2=>?_)
 ·have:op=12:=oM;subst this;have f:=shr_ck u p r A;rw[<-E] at f;refine zd λw2 g _=>?_;have h:=l.ext g;simp only[push_cast,h.ld1,true_and];refine l1Two_nat oM ?_;obtain⟨q,o⟩:∃q,q=2^n:=⟨_,rfl⟩;rw[<-o] at f j⊢;have B:=Gk a q;simp only[push_cast,h.ld1,true_and,and_self];rw[ki oM,show(a:Int).tdiv (q:Int)=((a/q:Nat):Int) from rfl,wrapN oM,f];exact⟨rfl,y _ (i.trans g)⟩
 ·have:op=13:=oM;subst this;have f:=sar_ck u p r A;rw[<-E] at f;have H:IntKind.i64.wrap ((k:Int)-1)=((k-1:Nat):Int):=by rw[zk oM oM];omega
  simp only[push_cast,l.ld0,l.ld1,H];refine l1Bit_spec oM oM ?_;obtain⟨z,R⟩:∃z,z=a/2^(k-1)%2:=⟨_,rfl⟩;rw[<-R] at f⊢;simp only[push_cast];refine zb (λc3=>?_) (λc3=>?_)
  ·rw[if_pos oM] at f;refine zd λw2 g _=>?_;have h:=l.ext g;simp only[push_cast,h.ld1,true_and];refine l1Two_nat oM ?_;obtain⟨q,o⟩:∃q,q=2^n:=⟨_,rfl⟩;rw[<-o] at f j⊢;have B:=Gk a q;simp only[push_cast,h.ld1,true_and,and_self];rw[ki oM,show(a:Int).tdiv (q:Int)=((a/q:Nat):Int) from rfl,wrapN oM,f];exact⟨rfl,y _ (i.trans g)⟩
  ·rw[if_neg oM] at f;simp only[push_cast,l.ld0];refine l1Two_nat oM ?_;obtain⟨m,hm⟩:∃m,m=2^k:=⟨_,rfl⟩;rw[<-hm] at f O r⊢;have F:IntKind.i64.wrap ((m:Int)-1)=((m-1:Nat):Int):=by rw[zk oM oM];omega
   have v:IntKind.i64.wrap (((m-1:Nat):Int)-(a:Int))=((m-1-a:Nat):Int):=by rw[zk oM oM];omega
   obtain⟨m1,D⟩:∃m1,m1=m-1:=⟨_,rfl⟩;rw[<-D] at F v f;obtain⟨m2,t⟩:∃m2,m2=m1-a:=⟨_,rfl⟩;rw[<-t] at v f;simp only[push_cast,F];refine zd λw2 g _=>?_;have h:=l.ext g;simp only[push_cast,h.ld1,true_and,v];refine l1Two_nat oM ?_;obtain⟨q,o⟩:∃q,q=2^n:=⟨_,rfl⟩;rw[<-o] at f j⊢;have B:=Gk m2 q;simp only[push_cast,h.ld1,true_and,and_self,v];rw[ki oM,show(m2:Int).tdiv (q:Int)=((m2/q:Nat):Int) from rfl,wrapN oM];refine⟨rfl,?_⟩;obtain⟨d,C⟩:∃d,d=m2/q:=⟨_,rfl⟩;rw[<-C] at f B⊢;simp only[push_cast];rw[zk oM oM,show(m1:Int)-(d:Int)=((m1-d:Nat):Int) by omega,f];exact⟨trivial,y _ (i.trans g)⟩
theorem bin4 {op k a b:Nat} (d:3<=op) (e:op<=5):M.binN op 4 a b=M.binN op k a b:=by
 unfold M.binN;by_cases h:op=3
 ·rw[if_pos h,if_pos h]
 by_cases c:op=4
 ·rw[if_neg h,if_neg h,if_pos c,if_pos c]
 ·rw[if_neg h,if_neg h,if_neg c,if_neg c,if_pos oM,if_pos oM]
theorem l1Bin_spec {k a l b:Nat} {op:Int} (D:1<=k) (y:k<=4) (S:a<2^k) (l4:l<=4) (T:b<2^l) (j:∀w' (r:Int),Ext w w'->3<=op->op<=13->(k=l->r=((M.binN op.toNat k a b:Nat):Int))->K (.tuple #[nI r,.bool true]) w')
  (L:∀w',Ext w w'->¬(3<=op/\op<=13)->K (.tuple #[nI 0,.bool false]) w'):vcall zw0 #[nI op,xX k a,xX l b] w K:=by
 refine zg {cuts:=[(12293,[9])]} Tryz.func254 ?_;have X:=pow4 D y;have n:=pow16 y S;have h:=pow16 l4 T;refine zj λb1 w1 V I Y U=>?_;refine zj λb2 w2 W B Z g2=>?_;have f:=U.ext B;have i:=I.trans B;refine zq (λu w'=>u=[.bool (decide (3<=op/\op<=5))]/\w'=w2) (λC H=>?_) ?_
 ·simp only[push_cast];refine zb (λc=>?_) (λc=>?_)
  ·exact H _ _ ⟨by rw[decide_eq_true (show 3<=op/\op<=5 by omega),decide_eq_true c],rfl⟩
  refine zb (λc2=>?_) (λc2=>?_)
  ·exact H _ _ ⟨by rw[decide_eq_true (show 3<=op/\op<=5 by omega),decide_eq_true c2],rfl⟩
  ·refine H _ _ ⟨?_,rfl⟩;by_cases c3:op=5
   ·rw[decide_eq_true (show 3<=op/\op<=5 by omega),decide_eq_true c3]
   ·rw[decide_eq_false (show¬(3<=op/\op<=5) by omega),decide_eq_false c3]
 ·rintro u g w3 ⟨rfl,rfl⟩;simp only[push_cast];refine zb (λc=>?_) (λc=>?_)
  ·simp only[push_cast,f.ld1,g2.ld1];obtain⟨o,rfl⟩:∃o:Nat,op=o:=⟨op.toNat,oM⟩;refine l1Bits_spec oM oM n h ?_;refine j _ _ i oM oM λe=>?_;rw[gi,bin4 (k:=k) oM oM]
  refine zb (λN=>?_) (λN=>?_)
  ·subst N;simp only[push_cast,f.ld0,f.ld1,g2.ld1];rw[zk (x:=(a:Int)+b) oM oM];refine l1Mod_spec D y oM oM ?_;refine j _ _ i oM oM λe=>?_;show _=(((a+b)%2^k:Nat):Int);rw[show(a:Int)+(b:Int)=((a+b:Nat):Int) by omega];rfl
  refine zb (λO=>?_) (λO=>?_)
  ·subst O;simp only[push_cast,f.ld0,f.ld1,g2.ld1];rw[zk (x:=(a:Int)-b) oM oM];refine l1Mod_spec D y oM oM ?_;refine j _ _ i oM oM λe=>?_;subst e;show _=(((a+2^k-b)%2^k:Nat):Int);rcases(by omega:k=1\/k=2\/k=3\/k=4) with rfl|rfl|rfl|rfl<;>simp at T⊢ <;>omega
  refine zb (λQ=>?_) (λQ=>?_)
  ·subst Q;have hm:=mul225 n h;simp only[push_cast,f.ld0,f.ld1,g2.ld1];rw[show(a:Int)*(b:Int)=((a*b:Nat):Int) by simp,wrapN oM];refine l1Mod_spec D y oM oM ?_;exact j _ _ i oM oM λe=>rfl
  refine zb (λR=>?_) (λR=>?_)
  ·subst R;simp only[push_cast,g2.ld1];refine zb (λd=>?_) (λd=>?_)
   ·have s:b=0:=oM;subst s;simp only[push_cast,f.ld0];refine l1Two_nat oM ?_;obtain⟨m,hm⟩:∃m,m=2^k:=⟨_,rfl⟩;rw[<-hm] at X⊢;simp only[push_cast];rw[zk oM oM];refine j _ _ i oM oM λe=>?_;have:M.binN (9:Int).toNat k a 0=2^k-1:=(by simp[M.binN]);rw[this,<-hm];omega
   ·simp only[push_cast,f.ld1,g2.ld1];have hd:=Gk a b;rw[ki oM,show(a:Int).tdiv (b:Int)=((a/b:Nat):Int) from rfl,wrapN oM];refine j _ _ i oM oM λe=>?_;have:M.binN (9:Int).toNat k a b=a/b:=(by simp[M.binN,show b≠0 by omega]);rw[this]
  refine zb (λz=>?_) (λz=>?_)
  ·subst z;simp only[push_cast,g2.ld1];refine zb (λd=>?_) (λd=>?_)
   ·have s:b=0:=oM;subst s;simp only[push_cast,f.ld1];refine j _ _ i oM oM λe=>?_;have:M.binN (10:Int).toNat k a 0=a:=(by simp[M.binN]);rw[this]
   ·simp only[push_cast,f.ld1,g2.ld1];rw[kX oM,show(a:Int).tmod (b:Int)=((a%b:Nat):Int) from rfl];refine j _ _ i oM oM λe=>?_;have:M.binN (10:Int).toNat k a b=a%b:=(by simp[M.binN,show b≠0 by omega]);rw[this]
  have v:∀o:Nat,11<=o->o<=13->op=o->zu zh (oP b1 0) w3 λt80 E=>zu zC (oP b2 1) E λt82 F=>vcall YE #[nI op,t80,t82] F λt83 G=>K (.tuple #[t83,.bool true]) G:=by
   intro o o1 o2 e;subst e;simp only[push_cast,f.ldAgg (t:=zh) zt,g2.ld1];refine l1Shift_spec o1 o2 D y S h λw4 J=>?_;exact j _ _ (i.trans J) oM oM λe=>rfl
  refine zb (λp=>?_) (λp=>?_)
  ·simp only[decide_eq_true p,Yg0];exact v 11 oM oM p
  refine zb (λq=>?_) (λq=>?_)
  ·simp only[decide_eq_true q,Yg0];exact v 12 oM oM q
  refine zb (λA=>?_) (λA=>?_)
  ·exact v 13 oM oM A
  ·exact L _ i oM
theorem spec_VecUn_spec {op wd n:Int} (l:∀w',Ext w w'->K (.tuple #[xX (M.vecUn op wd n).1.1 (M.vecUn op wd n).1.2,.bool (M.vecUn op wd n).2]) w'):vcall zx0 #[nI op,xX wd n] w K:=by
 refine zg {ord:=[oz 5 [0,1,2,3,6,7,4,5,8,9,10,11] [(0,[2,3,6,7,4,5,8]),(1,[2,3,6,7,4,5,8]),(2,[6,7]),(3,[6,7]),(6,[4,5]),(7,[4,5])],oz 7 (oR 11) [(0,[2,3,4,5,6,7]),(1,[2,3,4,5,6,7]),(2,[5,6]),(3,[5,6]),(4,[5,6])]]} Tryz.func218 ?_;refine zj λb1 w1 H o L E=>?_;refine zi zY λb2 w2 I p N g2=>?_;have u:=E.ext p;simp only[push_cast,u.ldAgg (t:=zh) zt];refine spec_VecOk_spec λQ f=>?_;have v:=u.ext f;have g3:=g2.ext f;have F:=(o.trans p).trans f;have c:∀d r,Ext Q d->Same (· =b2) d r->Ext w r:=λd r h D=>Ext.then (F.trans h) D λy O=>by subst O;have:=o.size;omega
 simp only[push_cast];unfold M.vecUn at l;refine zo (λg=>?_) (λg=>?_)
 ·refine stVec g3 λd i _ g4=>?_;rw[g4.lv rK];have:=l d (c _ _ (Same.refl _ _) i);rwa[if_neg (by simp at g;simp[g])] at this
 ·rw[gJ] at g;obtain⟨k,a,rfl,rfl,x,z,G⟩:=M.vok_nat g;have J:=pow4 x z;refine zb (λq=>?_) (λq=>?_)
  ·subst q;refine zd λd b _=>?_;have e:=v.ext b;simp only[push_cast,e.ld0,e.ld1,true_and];refine l1Two_nat oM ?_;have hu:M.unM 1 (k:Int) (a:Int)=((2^k:Nat):Int)-1-a:=(by simp[M.unM]);obtain⟨m,hm⟩:∃m,m=2^k:=⟨_,rfl⟩;rw[<-hm] at J hu G⊢;have B:IntKind.i64.wrap ((m:Int)-1)=(m:Int)-1:=zk oM oM;have C:IntKind.i64.wrap ((m:Int)-1-(a:Int))=(m:Int)-1-a:=zk oM oM;simp only[push_cast,e.ld0,e.ld1,true_and,and_self,B,C];refine stVec (g3.ext b) λs j _ g7=>?_;rw[g7.lv rK];have:=l s (c _ _ b j);rw[if_pos ⟨g,.inl rfl⟩,hu] at this;exact this
  refine zb (λa2=>?_) (λa2=>?_)
  ·subst a2;refine zd λd b _=>?_;have e:=v.ext b;have A:IntKind.i64.wrap (0-(a:Int))=0-(a:Int):=zk oM oM;simp only[push_cast,e.ld0,e.ld1,true_and,A];refine l1Mod_spec x z oM oM ?_;have hu:M.unM 2 (k:Int) (a:Int)=(0-(a:Int))%((2^k:Nat):Int):=by
    unfold M.unM;rw[if_neg oM,gi];rcases(by omega:k=1\/k=2\/k=3\/k=4) with rfl|rfl|rfl|rfl<;>simp<;>omega
   obtain⟨m,hm⟩:∃m:Int,m=(0-(a:Int))%((2^k:Nat):Int):=⟨_,rfl⟩;rw[<-hm] at hu⊢;simp only[push_cast,e.ld0,true_and,and_self];refine stVec (g3.ext b) λs j _ g7=>?_;rw[g7.lv rK];have:=l s (c _ _ b j);rw[if_pos ⟨g,.inr rfl⟩,hu] at this;exact this
  ·refine stVec g3 λd i _ g4=>?_;rw[g4.lv rK];have:=l d (c _ _ (Same.refl _ _) i);rwa[if_neg (λh=>h.2.elim q a2)] at this
theorem spec_VecBin_spec {op wd n v m:Int} (z:∀w',Ext w w'->K (.tuple #[xX (M.vecBin op wd n v m).1.1 (M.vecBin op wd n v m).1.2,.bool (M.vecBin op wd n v m).2]) w'):vcall WG #[nI op,xX wd n,xX v m] w K:=by
 refine zg {ord:=[oz 6 [0,1,2,3,4,5,6,7,8,11,12,9,10,13,14,15,16] [(0,[2,3,5,6,7,8,11,12,9,10,13]),(1,[2,3,5,6,7,8,11,12,9,10,13]),(2,[5,6,7,8,11,12,9,10,13]),(3,[5,6,7,8,11,12,9,10,13]),(4,[5,6,7,8,11,12,9,10,13]),(5,[7,8,11,12,9]),(6,[7,8,11,12,9]),(7,[11,12]),(8,[11,12]),(11,[9,10]),(12,[9,10])]],cuts:=[(8195,[])]} Tryz.func220 ?_;refine zj λb1 w1 a3 F a6 h1=>?_;refine zj λb2 w2 a4 A a7 g2=>?_;refine zi zY λb3 V a5 B a8 r3=>?_;have hE:=(F.trans A).trans B;have a9:=F.size;have aa:=A.size;have X:=(h1.ext A).ext B;have g3:=g2.ext B;have j:∀o p,Ext V o->Same (· =b3) o p->Ext w p:=λo p h h'=>Ext.then (hE.trans h) h' λy hy=>by subst hy;omega
 have f:(M.vecBin op wd n v m)=((0,0),false)->∀o,Ext V o->zR zh (oP b3 0) (xX 0 0) o λ_ p=>vlv zh (oP b3 0) p λr w6=>K (.tuple #[r,.bool false]) w6:=by
  intro e o c;refine stVec (r3.ext c) λp S _ r5=>?_;rw[r5.lv rK];have:=z p (j _ _ c S);rwa[e] at this
 refine zq (λu o=>u=[]/\Ext V o/\M.vok wd n=true/\M.vok v m=true) (λC hC=>?_) ?_
 ·simp only[push_cast,X.ldAgg (t:=zh) zt];refine spec_VecOk_spec λo c=>?_;have g4:=g3.ext c;simp only[push_cast];refine zo (λI=>f ?_ _ c) (λI=>?_)
  ·unfold M.vecBin;rw[if_neg (by simp at I;simp[I])]
  ·simp only[push_cast,g4.ldAgg (t:=zh) zt];refine spec_VecOk_spec λp d=>?_;simp only[push_cast];refine zo (λi=>f ?_ _ (c.trans d)) (λi=>?_)
   ·unfold M.vecBin;rw[if_neg (by simp at i;simp[i])]
   ·exact hC _ _ ⟨rfl,c.trans d,by simpa using I,by simpa using i⟩
 ·rintro u g o ⟨rfl,c,G,i⟩;have H:=X.ext c;have g4:=g3.ext c;have r4:=r3.ext c;obtain⟨k,a,rfl,rfl,k1,k4,Y⟩:=M.vok_nat G;obtain⟨l,b,rfl,rfl,l1,T,Z⟩:=M.vok_nat i;have E:=pow16 k4 Y;have a0:=pow16 T Z;unfold M.vecBin at z f;rw[if_pos ⟨G,i⟩] at z f;simp only[push_cast];refine zb (λJ=>?_) (λJ=>?_)
  ·rw[if_pos J] at z f;have N:IntKind.i64.wrap ((k:Int)+(l:Int))=(k:Int)+(l:Int):=zk oM oM;simp only[push_cast,H.ld0,g4.ld0,N];refine zb (λa2=>f (if_neg oM) _ c) (λa2=>?_);refine zd λp d _=>?_;have x:=H.ext d;have g5:=g4.ext d;simp only[push_cast,x.ld0,x.ld1,g5.ld0,g5.ld1,true_and,N];refine l1Two_nat oM ?_;have Q:=pow4 l1 T;have s:M.catM (l:Int) (a:Int) (b:Int)=(a:Int)*((2^l:Nat):Int)+b:=(by simp[M.catM]);have hm:=mul225 E (show 2^l-1<16 by omega);have R:a*2^l=a*(2^l-1)+a:=by rw[<-Nat.mul_succ];congr 1;omega
   obtain⟨q,hq⟩:∃q,q=2^l:=⟨_,rfl⟩;rw[<-hq] at s hm R Q⊢;have hz:(a:Int)*(q:Int)=((a*q:Nat):Int):=(by simp);have e2:IntKind.i64.wrap ((a:Int)*(q:Int))=(a:Int)*(q:Int):=zk oM oM;have e3:IntKind.i64.wrap ((a:Int)*(q:Int)+(b:Int))=(a:Int)*(q:Int)+b:=zk oM oM;simp only[push_cast,x.ld0,x.ld1,g5.ld0,g5.ld1,true_and,N,e2,e3,and_self];refine stVec (r4.ext d) λW D _ U=>?_;rw[U.lv rK];have:=z W (j _ _ (c.trans d) D);rw[if_pos oM,s] at this;exact this
  ·rw[if_neg J] at z f;simp only[push_cast,H.ldAgg (t:=zh) zt,g4.ldAgg (t:=zh) zt];refine l1Bin_spec k1 k4 Y T Z (λp r d c3 L hr=>?_) λp d hn=>?_
   ·have x:=H.ext d;have g5:=g4.ext d;simp only[push_cast,x.ld0,g5.ld0,Gc];refine zb (λa2=>f (if_neg oM) _ (c.trans d)) (λa2=>?_);have O:k=l:=oM;subst O
    try simp only[push_cast,x.ld0]
    refine stVec (r4.ext d) λW D _ U=>?_;rw[U.lv rK];have:=z W (j _ _ (c.trans d) D);rw[if_pos ⟨c3,L,rfl⟩] at this;rw[hr rfl];exact this
   ·simp only[push_cast,Pr];exact f (if_neg (λh=>hn ⟨h.1,h.2.1⟩)) _ (c.trans d)
theorem spec_VecCmp_spec {op wd n v m:Int} (q:∀w',Ext w w'->K (.tuple #[.bool (M.vecCmp op wd n v m).1,.bool (M.vecCmp op wd n v m).2]) w'):vcall WF #[nI op,xX wd n,xX v m] w K:=by
 refine zg {ord:=[oz 9 [0,2,1,3,4,5,6] [(0,[2]),(2,[1])]],cuts:=[(8195,[])]} Tryz.func219 ?_;refine zj λb1 w1 O D R I=>?_;refine zj λb2 w2 Q r S g2=>?_;have x:=D.trans r;have z:=I.ext r;have i:(M.vecCmp op wd n v m)=(false,false)->∀j,Ext w2 j->K (.tuple #[.bool false,.bool false]) j:=by
  intro e j c;have:=q j (x.trans c);rwa[e] at this
 refine zq (λu j=>u=[]/\Ext w2 j/\M.vok wd n=true/\M.vok v m=true/\wd=v) (λC J=>?_) ?_
 ·simp only[push_cast,z.ldAgg (t:=zh) zt];refine spec_VecOk_spec λj c=>?_;have g4:=g2.ext c;simp only[push_cast];refine zo (λy=>i ?_ _ c) (λy=>?_)
  ·unfold M.vecCmp;rw[if_neg (by simp at y;simp[y])]
  ·simp only[push_cast,g4.ldAgg (t:=zh) zt];refine spec_VecOk_spec λT d=>?_;have g5:=g4.ext d;have B:=(z.ext c).ext d;simp only[push_cast];refine zo (λf=>i ?_ _ (c.trans d)) (λf=>?_)
   ·unfold M.vecCmp;rw[if_neg (by simp at f;simp[f])]
   ·simp only[push_cast,B.ld0,g5.ld0];refine zb (λp=>i ?_ _ (c.trans d)) (λp=>?_)
    ·unfold M.vecCmp;rw[if_neg (λh=>p h.2.2.1)]
    ·exact J _ _ ⟨rfl,c.trans d,by simpa using y,by simpa using f,oM⟩
 ·rintro u g j ⟨rfl,c,o,f,rfl⟩;have A:=z.ext c;have g4:=g2.ext c;unfold M.vecCmp at q i;simp only[push_cast];refine zb (λp=>?_) (λp=>?_)
  ·subst p;simp only[push_cast,A.ld1,g4.ld1];have:=q j (x.trans c);rw[if_pos ⟨o,f,rfl,oM,oM⟩] at this;exact this
  refine zb (λa2=>?_) (λa2=>?_)
  ·subst a2;simp only[push_cast,A.ld1,g4.ld1];have:=q j (x.trans c);rw[if_pos ⟨o,f,rfl,oM,oM⟩] at this;exact this
  refine zb (λa3=>?_) (λa3=>?_)
  ·subst a3;obtain⟨k,a,rfl,rfl,G,H,L⟩:=M.vok_nat o;obtain⟨l,b,V,rfl,W,X,N⟩:=M.vok_nat f;have F:l=k:=oM;subst F;refine zd λT d _=>?_;have B:=A.ext d;have g5:=g4.ext d;simp only[push_cast,B.ldAgg (t:=zh) zt,g5.ldAgg (t:=zh) zt,true_and];refine l1Signed_spec G H L λY s=>?_;have g6:=g5.ext s;simp only[push_cast,g6.ldAgg (t:=zh) zt,true_and,and_self];refine l1Signed_spec G H N λU E=>?_;simp only[push_cast,true_and];have:=q U (((x.trans c).trans d).trans (s.trans E));rw[if_pos ⟨o,f,rfl,oM,oM⟩] at this;exact this
  ·exact i (by rw[if_neg (λh=>oM)]) _ c
theorem spec_VecCut_spec {wd n hi lo:Int} (i:∀w',Ext w w'->K (.tuple #[xX (M.vecCut wd n hi lo).1.1 (M.vecCut wd n hi lo).1.2,.bool (M.vecCut wd n hi lo).2]) w'):vcall WE #[xX wd n,nI hi,nI lo] w K:=by
 refine zg {ord:=[oz 4 [0,1,2,3,6,4,5,7,8,9,10,11] [(0,[1,2,3,6,4,5,7,8]),(1,[3,6,4,7]),(2,[3,6,4,7]),(3,[6]),(6,[4,5]),(5,[7])]],cuts:=[(8195,[])]} Tryz.func217 ?_;refine zj λb1 w1 a0 v a5 X=>?_;refine zi zY λb3 O a4 A a6 T=>?_;have Z:=v.trans A;have a7:=v.size;have D:=X.ext A;have j:∀f m,Ext O f->Same (· =b3) f m->Ext w m:=λf m h W=>Ext.then (Z.trans h) W λy hy=>by subst hy;omega
 have c:(M.vecCut wd n hi lo)=((0,0),false)->∀f,Ext O f->zR zh (oP b3 0) (xX 0 0) f λ_ m=>vlv zh (oP b3 0) m λr Q=>K (.tuple #[r,.bool false]) Q:=by
  intro e f b;refine stVec (T.ext b) λm L _ r5=>?_;rw[r5.lv rK];have:=i m (j _ _ b L);rwa[e] at this
 unfold M.vecCut at i c;refine zq (λu f=>u=[]/\Ext O f/\M.vok wd n=true/\0<=lo/\lo<=hi/\hi<wd) (λC Y=>?_) ?_
 ·simp only[push_cast,D.ldAgg (t:=zh) zt];refine spec_VecOk_spec λf b=>?_;have E:=D.ext b;simp only[push_cast];refine zo (λp=>c ?_ _ b) (λp=>?_)
  ·rw[if_neg (by simp at p;simp[p])]
  refine zb (λU=>c (if_neg oM) _ b) (λU=>?_);refine zb (λa2=>c (if_neg oM) _ b) (λa2=>?_);simp only[push_cast,E.ld0];refine zb (λa3=>c (if_neg oM) _ b) (λa3=>?_);exact Y _ _ ⟨rfl,b,by simpa using p,oM,oM,oM⟩
 ·rintro u g f ⟨rfl,b,p,c1,c2,c3⟩;have E:=D.ext b;have r4:=T.ext b;obtain⟨k,a,rfl,rfl,k1,k4,ha⟩:=M.vok_nat p;obtain⟨l,rfl⟩:∃l:Nat,lo=l:=⟨lo.toNat,oM⟩;obtain⟨t,S⟩:∃t:Nat,hi-(l:Int)+1=t:=⟨(hi-l+1).toNat,oM⟩;have R:=pow16 k4 ha;have V:IntKind.i64.wrap (IntKind.i64.wrap (hi-(l:Int))+1)=(t:Int):=by rw[zk (x:=hi-l) oM oM,zk oM oM];omega
  simp only[push_cast,V];refine zd λm o _=>?_;have F:=E.ext o;simp only[push_cast,F.ld1,true_and];refine l1Two_nat oM ?_;have B:M.cutM (a:Int) hi (l:Int)=((a/2^l%2^t:Nat):Int):=by
   unfold M.cutM;rw[S];simp
  rw[if_pos ⟨p,c1,c2,c3⟩] at i;simp only[B,S] at i;have H:0<2^l:=PK oM;have I:0<2^t:=PK oM;obtain⟨q,hq⟩:∃q,q=2^l:=⟨_,rfl⟩;rw[<-hq] at H i⊢;have hd:=Gk a q;have eQ:∀(w:World) (K:oK),xE .quo zC false (nI (a:Int)) (nI (q:Int)) w K=K (nI ((a/q:Nat):Int)) w:=λw K=>by
   rw[ki oM,show(a:Int).tdiv (q:Int)=((a/q:Nat):Int) from rfl,wrapN oM]
  obtain⟨d,G⟩:∃d,d=a/q:=⟨_,rfl⟩;rw[<-G] at eQ hd i;simp only[push_cast,F.ld1,true_and,and_self,eQ];refine l1Two_nat oM ?_;obtain⟨s,J⟩:∃s,s=2^t:=⟨_,rfl⟩;rw[<-J] at I i⊢;have eR:∀(w:World) (K:oK),xE .rem zC false (nI (d:Int)) (nI (s:Int)) w K=K (nI ((d%s:Nat):Int)) w:=λw K=>by
   rw[kX oM,show(d:Int).tmod (s:Int)=((d%s:Nat):Int) from rfl]
  obtain⟨z,hz⟩:∃z,z=d%s:=⟨_,rfl⟩;rw[<-hz] at i eR;simp only[push_cast,F.ld1,true_and,and_self,eQ,eR];refine stVec (r4.ext o) λQ N _ r6=>?_;rw[r6.lv rK];exact i Q (j _ _ (b.trans o) N)
end
end Go.Proofs.YtolbhkcajhlllaaGreatDoor
end
