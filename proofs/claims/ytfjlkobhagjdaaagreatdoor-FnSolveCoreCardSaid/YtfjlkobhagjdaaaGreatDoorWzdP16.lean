import Derived.Test.YtfjlkobhagjdaaaGreatDoorWzdP15
import Derived.OpenVars
import Derived.MakeChecks
import Derived.Stop.LaidErr
import Derived.Stop.LaidTwo
/- A part of the proof. -/
set_option linter.all false
set_option maxRecDepth 9999
set_option maxHeartbeats 2000000
noncomputable section
namespace Go.Proofs.YtfjlkobhagjdaaaGreatDoor
open Go Go.Vc Go.Proofs
section
variable {w:World} {K:oK} {D F F' G H:oA} {dv tv v ev:Value} {ds:List M.Dcl} {ts:List M.Tm} {t:M.Tm} {env:oI} {xs:List Nat} {at_ an am ar ab:Addr}
theorem V6:(Qi ds ts).2=(yI ds ts []).2:=by
 unfold Qi;split
 .next h=>exact h.symm
 .rfl
theorem pick_drop {i:Nat}:xR ts (List.range' i (ts.length-i))=ts.drop i:=by
 unfold xR;refine gW (by simp) λj b a=>?_;rw[GS] at a;simp[q0,gj (show i+j<ts.length by omega)]
theorem jc0 {i:Nat}:xR ts (coreA ds ts i)++ts.drop (i+1)=xR ts (Zn ds ts i):=by
 rw[<-pick_drop];unfold Zn xR;rw[gD]
theorem core_term {i:Nat} (a:Jb ds ts=true) (hi:i<=ts.length):Jb ds (xR ts (coreA ds ts i))=true:=
 core_all8 a (λx b=>by have:=coreA_lt b;omega) (by have:=coreA_len ds ts i;omega)
theorem FnSolveCore_spec (d:Bytes F w v xs) (er:Er w at_ an am ar ab) (hK:∀w',Ext w w'->K (.bool true) w'):vcall XO #[v] w K:=by
 refine ze {loops:=[(13,[11,12])],cuts:=[(32777,[]),(77843,[16])]} Tryz.func6 ?_;simp only[push_cast,d.len];refine zb (λ_=>hK w (Same.refl _ _)) (λ_=>?_);refine DrawSolveCore_spec d.below (λb hb=>hb) λw1 dv tv ds ts M hd au ht bg=>?_;refine oZ ?_;refine SolveCore_spec hd ht oM (er.ext M) λw2 ev N a0 _=>?_;refine oZ ?_;refine spec_SolveCore_spec (dsn_sized au) (hd.ext N) (ht.ext N) λw3 b9 O a2 _=>?_;refine oZ ?_;have s:=N.trans O;refine Ys (hd.ext s) (ht.ext s) oM (er.ext (M.trans s)) λw4 ba y _ _=>?_;refine oZ ?_;have af:=s.trans y;refine zo (λu w'=>u=[]/\Ext w4 w') (λC hC=>?_) ?_
 .refine zb (λc=>absurd rfl c) (λ_=>?_);refine wpInts_spec ((a0.ints.ext O).ext y) (a2.ints.ext y) λr z=>?_;simp only[push_cast,decide_true,GW];refine zb (λc=>absurd V6 c) (λ_=>?_);exact hC _ _ ⟨rfl,z⟩
 rintro _ _ r ⟨rfl,z⟩;have t:=af.trans z;have L:=M.trans t;have l:=a0.ints.ext (O.trans (y.trans z));refine zb (λc=>?_) (λc=>?_)
 .have:(Qi ds ts).1=[]:=by
   rw[V6] at c;unfold Qi;rw[X0 c]
  simp only[push_cast,l.len];rw[this];exact hK _ L
 have c2:(yI ds ts []).2=2:=by rw[<-V6];exact GU.1 c
 have h8:=Zb (ds:=ds) (ts:=ts) oM;obtain⟨q1,q2,q3⟩:=all8_iff.1 h8;have hR:(Qi ds ts).1=(coreA ds ts ts.length).map Int.ofNat:=by unfold Qi;rw[K3 c2]
 rw[hR] at l;have Y:=hd.ext t;have S:=(ht.weaken (F':=λx=>x<r.heap.size) λx _ hl=>by have:=t.size;omega).ext t;refine y6 yW xq λb6 w6 bc ak bh ah=>?_;have nilR:∀{b:Nat} {wk:World},Blk wk b [] za->LstH (λx=>x<r.heap.size) wk (.slice (some ⟨b,0,none⟩) 0 0) []:=λ{b wk} hB=>⟨[],Blk.ownk (css:=[]) (by rw[qm];exact hB) (by simp) rfl dC,rfl,λi hi=>absurd hi (PQ _)⟩;refine vloop_up ts.length (λi u w'=> ∃lv,u=[lv,nI i]/\Ext r w'/\LstH (λx=>x<r.heap.size) w' lv (xR ts (coreA ds ts i))/\∀x,lv.ownBlock=some x->r.heap.size<=x)
  ⟨_,rfl,ak,nilR ah,λx d=>by have e:b6=x:=gh d;omega⟩ ?_
 rintro i _ _ w7 C hi ⟨lv,rfl,B,A,hO⟩ hC;have av:=S.ext B;have z7:=B.size;have be:=coreA_len ds ts i;have Q:(xR ts (coreA ds ts i)).length=(coreA ds ts i).length:=by unfold xR;rw[V0]
 simp only[push_cast,av.len];refine zb (λa=>?_) (λa=>?_)
 .have o:i<ts.length:=oM;refine y6 yW xq λb8 w8 bd f bi ai=>?_;obtain⟨css,ho,X,aj⟩:=A.ext f;refine LstH.app (H2:=λx=>x<r.heap.size) (us:=xR ts (coreA ds ts i)) (nilR ai) (λx d=>by have e:b8=x:=gh d;omega) ho.sl X aj (by simp;omega) λw9 v9 aw ap a5=>?_;rw[Gp] at a5;have J:Ext w7 w9:=Ext.then f aw λx d=>by have e:b8=x:=gh d;omega
  have e9:=B.trans J;have z9:=J.size;have W:∀x,v9.ownBlock=some x->w7.heap.size<=x:=λx d=>by
   rcases ap x d with e|e
   .have e:b8=x:=gh e;omega
   .have:=f.size;omega
  try simp only[push_cast]
  rw[inc64' oM];obtain⟨v10,a8,a7⟩:=kK0 (S.ext e9) yz0 (a:=i+1) oM;rw[a8];obtain⟨ae,R,a4,a3⟩:=a7;refine LstH.app (H2:=λx=>x<r.heap.size) (us:=ts.drop (i+1)) (a5.weaken (F:=λx=>x<r.heap.size) λx d _=>d.1.elim id id) (λx d=>by have:=W x d;omega) R a4 a3 (by rw[Q,GS];omega) λay v11 a9 b7 G=>?_;rw[jc0] at G;have E:Ext w7 ay:=Ext.then J a9 λx d=>W x d;have U:=B.trans E;have bf:=less_len (ds:=ds) (ts:=ts) o;refine Ys (Y.ext U) G.tms (by unfold xR;rw[V0];omega) (er.ext (L.trans U)) λad az Z _ _=>?_;have D:=E.trans Z;have m:=B.trans D;refine oZ ?_;have p:=A.ext D;have g:=l.ext m;have kk:=core_kept (ds:=ds) (ts:=ts) o;have ac:((coreA ds ts i).length<(coreA ds ts ts.length).length/\(coreA ds ts ts.length).getD (coreA ds ts i).length 0=i)↔ ¬(yI ds (xR ts (Zn ds ts i)) []).2=2:=kk;refine zo (λu w'=>u=[.bool (decide (¬(yI ds (xR ts (Zn ds ts i)) []).2=2))]/\w'=ad) (λC2 V=>?_) ?_
  .simp only[push_cast,p.tms.len,g.len,V0,Q];refine zb (λa1=>?_) (λa1=>?_)
   .have ao:(coreA ds ts i).length<(coreA ds ts ts.length).length:=oM;have hg:((coreA ds ts ts.length).map Int.ofNat).getD (coreA ds ts i).length 0=(((coreA ds ts ts.length).getD (coreA ds ts i).length 0:Nat):Int):=by
     rw[q0,Gq,q0,gj ao];rfl
    simp(disch:=first|(simp only[push_cast])|(simp only[V0];omega)|omega) only[push_cast,g.iaddr,gu,g.load,hg];refine V _ _ ⟨?_,rfl⟩;congr 2;rw[decide_eq_decide,<-ac];omega
   .refine V _ _ ⟨?_,rfl⟩;congr 2;exact(gk λq=>a1 (by have:=(ac.2 q).1;omega)).symm
  rintro _ _ ad ⟨rfl,rfl⟩;refine oZ ?_;have T:=Yr (ds:=ds) (ts:=ts) (k:=i);have T:coreA ds ts (i+1)=if(yI ds (xR ts (Zn ds ts i)) []).2=2 then coreA ds ts i else coreA ds ts i++[i]:=T
  by_cases q:(yI ds (xR ts (Zn ds ts i)) []).2=2
  .rw[K3 q] at T;rw[gl q,gk (by simpa using q: ¬ ¬(yI ds (xR ts (Zn ds ts i)) []).2=2)];refine zm (λh=>by cases h) (λ_=>?_);refine zm (λh=>by cases h) (λ_=>?_);exact hC o _ _ ⟨lv,by rw[show(i:Int)+1=((i+1:Nat):Int) by omega],m,by rw[T];exact p,hO⟩
  .rw[X0 q] at T;rw[gk q,gl q];refine zm (λh=>by cases h) (λ_=>?_);refine zm (λ_=>?_) (λh=>by cases h);have I:=S.ext m;have z12:=m.size;simp(disch:=exact oS) only[push_cast,I.iaddr,gu];refine I.load zc o λx d=>?_;refine push_old (n:=r.heap.size) p hO d oM oM λbj ax aa H a6=>?_
   try simp only[push_cast]
   refine hC o _ _ ⟨ax,by rw[show(i:Int)+1=((i+1:Nat):Int) by omega],Ext.then m aa λ_ h=>h,?_,a6⟩;rw[T];unfold xR at H⊢;rw[gD];exact H
 .have al:i=ts.length:=oM;subst al;have ag:=core_term (ds:=ds) (ts:=ts) h8 (gy _);have aq:(yI ds (xR ts (coreA ds ts ts.length)) []).2=2:=by
   have:=core_no c2 ts.length (gy _);rwa[GK,List.range'_zero,gI] at this
  obtain⟨_,a1⟩:=solveR_no aq;refine wpFirst_spec (Y.ext B) A.tms oM (all8_iff.1 ag).2.2 q2 (pr _) λw8 bb env j f b0 hf=>?_;simp only[push_cast];rcases hf with⟨b1,b2,b3,b4,b5⟩|⟨b1,b2,b3⟩
  .exact absurd b4 (a1 _ b2)
  .refine zb (λ_=>?_) (λc=>absurd oM c);simp only[push_cast,(A.ext f).tms.len,((l.ext B).ext f).len,V0,Q];simp only[decide_true];exact hK _ (L.trans (B.trans f))
end
end Go.Proofs.YtfjlkobhagjdaaaGreatDoor
section
namespace Go.Proofs.YtfjlkobhagjdaaaGreatDoor
open Go Go.Vc Go.Proofs
open Go.RowKit
theorem laid_at {l:List (String×DataW Unit)} {W:World} (h:laidMet P l W):∀k,laidMet P (l.drop k) W
 |0=>h
 |k+1=>by
  have a:=laid_at h k;rw[<-List.tail_drop];cases b:l.drop k with
  |nil=>rw[b] at a;exact a
  |cons x r=>rw[b] at a;exact a.tail
theorem zz0: "*" ++ "errors.errorString" = "*errors.errorString" :=dC
theorem kN0 (u:TypeId) (h:P.typeName? 3 u=some "*errors.errorString"):u=yP:=
 typeName_ptr_named (nm:= "errors.errorString") (by rw[zz0];kernel_rfl) rK dC u (by rw[zz0];exact h)
def ifaceB (t:TypeId):Bool:=match P.underlying t with
 |some (.interface _)=>true
 |_=>false
theorem Z90 {t:TypeId} (h:ifaceB t=true):∃ms,P.underlying t=some (.interface ms):=by
 unfold ifaceB at h;split at h
 .exact⟨_,by assumption⟩
 .cases h
theorem xX0:∃ms,P.underlying xu=some (.interface ms):=Z90 rK
def fieldB (t u:TypeId):Bool:=match P.underlying t with
 |some (.struct fs)=>match fs.toList with
  |[f]=>decide (f.type=u)&&decide (f.offset=0)
  |_=>false
 |_=>false
theorem Zf0 {t u:TypeId} (h:fieldB t u=true):∃f,P.underlying t=some (.struct #[f])/\f.type=u/\f.offset=0:=by
 unfold fieldB at h;split at h
 .rename_i fs a;split at h
  .rename_i f b;simp only[gp,gg] at h;refine⟨f,?_,h⟩;rw[a];congr 2;exact GX.1 (by simpa using b)
  .cases h
 .cases h
theorem kO0:P.underlying yP=some (.pointer 435):=rK
theorem yT0:∃f,P.underlying 435=some (.struct #[f])/\f.type=xb/\f.offset=0:=Zf0 rK
theorem yU0:P.underlying xb=some .string:=rK
theorem Yy0:P.cellsOf 435=1/\P.cellsOf xb=1:=⟨rK,rK⟩
theorem vars_len {H:Type} {enc:TypeId×Value->H} {w:World} {sp:Nat->Bool}:∀{ns:List String} {gs:List (DataW H)} {ps:List MemPlace},DataW.TrodVars enc P w sp ns gs ps->gs.length=ns.length
 |[],[],_,_=>rfl
 |[],_::_,_,h=>h.elim
 |_::_,[],_,h=>h.elim
 |_::_,_::_,_,⟨_,_,_,_,_,_,_,_,_,_,hs,_⟩=>by rw[gH,gH,vars_len hs]
theorem vlist5 {α:Type} {l:List α} (h:l.length=5):∃a b c d e,l=[a,b,c,d,e]:=by
 match l,h with
 |[a,b,c,d,e],_=>exact⟨a,b,c,d,e,rfl⟩
end Go.Proofs.YtfjlkobhagjdaaaGreatDoor
end
section
namespace Go.Proofs.YtfjlkobhagjdaaaGreatDoor
open Go Go.Vc Go.Proofs
open Go.RowKit
theorem Q6 {x y:String×DataW Unit} {r:List (String×DataW Unit)} {w:World} (h:laidMet P (x::y::r) w):laidMet P (x::r) w:=by
 obtain⟨ps,u,j,c⟩:=h;obtain⟨n,d⟩:=x;obtain⟨m,e⟩:=y;obtain⟨g,t,cs,fuel,p,q,o,a2,a3,a4,s,rfl⟩:=u;obtain⟨g2,t2,f,i,p2,l,_,_,_,_,k,rfl⟩:=s;have a:=pP (pW (MemPlace.row ⟨g,0,none⟩ cs.size++p)) (List.sublist_append_right (MemPlace.row ⟨g2,0,none⟩ f.size++p2) l);exact⟨_,⟨g,t,cs,fuel,p,l,o,a2,a3,a4,k,rfl⟩,List.Nodup.sublist a j,λb off hm=>c b off (a.subset hm)⟩
theorem jG {W:World} {g:Nat} {a c:Addr} (h:Sent W g a) (b:Sent W g c):a=c:=by
 unfold Sent at h b;rw[h] at b
 injection b with b
 injection b with _ b
 injection b with b
 exact gh b
theorem Zc {j k:String} {t0 t1:List UInt8} {r:List (String×DataW Unit)} {W:World} {g0 g1:Nat} (h:laidMet P ((j,.iface "*errors.errorString" (.ptr (.agg [.lit (.string t0)])))::(k,.iface "*errors.errorString" (.ptr (.agg [.lit (.string t1)])))::r) W)
  (c:P.globalNamed j=some g0) (g:(P.globals[g0]?).map (·.type)=some xu) (d:P.globalNamed k=some g1) (i:(P.globals[g1]?).map (·.type)=some xu):∃a b,Sent W g0 a/\Sent W g1 b/\a≠b/\RowA W a/\RowA W b:=by
 obtain⟨ms,hi⟩:=xX0;obtain⟨f,m,n,o⟩:=yT0;obtain⟨a0,l,u,s1,c0,c1,s,t,v0,v1,_,_,_,_,_,_,e,p,q⟩:=laid_sentinels2 h c g d i hi kN0 kO0 m n o yU0 Yy0.1 Yy0.2;exact⟨a0,l,by unfold Sent;simpa using World.var?_cell c v0 0,by unfold Sent;simpa using World.var?_cell d v1 0,e,⟨c0,s,p⟩,⟨c1,t,q⟩⟩
theorem er_of {nr nb nt nn nm:String} {tr tb tt tn tm:List UInt8} {r l:List (String×DataW Unit)} {W:World} (h:laidMet P l W) (k:Nat)
  (B:l.drop k=(nr,.iface "*errors.errorString" (.ptr (.agg [.lit (.string tr)])))::(nb,.iface "*errors.errorString" (.ptr (.agg [.lit (.string tb)])))::(nt,.iface "*errors.errorString" (.ptr (.agg [.lit (.string tt)])))::(nn,.iface "*errors.errorString" (.ptr (.agg [.lit (.string tn)])))::(nm,.iface "*errors.errorString" (.ptr (.agg [.lit (.string tm)])))::r)
  (er:P.globalNamed nr=some xO) (eb:P.globalNamed nb=some jc) (et:P.globalNamed nt=some yJ) (en:P.globalNamed nn=some jl) (em:P.globalNamed nm=some qr)
  (fr:(P.globals[xO]?).map (·.type)=some xu) (fb:(P.globals[jc]?).map (·.type)=some xu) (ft:(P.globals[yJ]?).map (·.type)=some xu) (fn:(P.globals[jl]?).map (·.type)=some xu) (fm:(P.globals[qr]?).map (·.type)=some xu):
  ∃at_ an am ar ab,Er W at_ an am ar ab:=by
 have a:=laid_at h k;rw[B] at a;obtain⟨ar,ab,sr,sb,_,rr,_⟩:=Zc a er fr eb fb;have b:=Q6 a;obtain⟨w,at_,j,st,C,_,rt⟩:=Zc b er fr et ft;have q:=Q6 b;obtain⟨x,an,m,sn,D,_,rn⟩:=Zc q er fr en fn;obtain⟨y,am,n,sm,E,_,rm⟩:=Zc (Q6 q) er fr em fm;have c:=b.tail;obtain⟨z,u,o,g,F,_⟩:=Zc c et ft en fn;obtain⟨A,s,p,d,G,_⟩:=Zc (Q6 c) et ft em fm;obtain⟨v,t,i,f,n6,_⟩:=Zc c.tail en fn em fm;obtain rfl:=jG j sr;obtain rfl:=jG m sr;obtain rfl:=jG n sr;obtain rfl:=jG o st;obtain rfl:=jG p st;obtain rfl:=jG g sn;obtain rfl:=jG i sn;obtain rfl:=jG d sm;obtain rfl:=jG f sm;exact⟨_,_,_,_,ab,st,sn,sm,⟨sr,sb,id,id⟩,rt,rn,rm,rr,λe=>F e.symm,λe=>G e.symm,λe=>n6 e.symm,C,D,E⟩
end Go.Proofs.YtfjlkobhagjdaaaGreatDoor
end
end
