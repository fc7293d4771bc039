import Derived.Test.YtfnpmncplaibiaaGreatDoorWqbP12
/- A part of the proof. -/
set_option linter.all false
set_option maxRecDepth 9999
set_option maxHeartbeats 2000000
noncomputable section
section
namespace Go.Proofs.YtfnpmncplaibiaaGreatDoor
open Go Go.Vc Go.Proofs
section
open Go.RowKit Go.Extern.Stop Go.Stop Go.Extern
theorem Yr0 (a b : Addr) (w : World) (hne : a ≠ b) {ca cb : Array Value} {ta tb : TypeId} (ha : w.heap[a.block]? = some (.cells ca ta (0, 0))) (hb : w.heap[b.block]? = some (.cells cb tb (0, 0))) :
    Calls Tryz.prog 49 #[.iface 443 (.pointer (some a)), .iface 443 (.pointer (some b))] w λe w' => e = .returned (.bool false) /\ w' = w := by
  obtain ⟨i, hi, hcmp⟩ := pI.1 jD0
  obtain ⟨j, hj, hjs⟩ := pI.1 jC0
  have h8 := @run_callFunc_extern Tryz.prog 91 _ Extern.ReflectliteType.typeOf Tryz.func91 (by kernel_rfl) (by kernel_rfl) (by kernel_rfl) (by kernel_rfl)
  have h32 : ∀ w : World, (callFunc 402 #[.agg #[.pointer (some ⟨11, 443, none⟩)]]).run Tryz.prog w = .ok (Next.value (.bool true)) w := Qm
  have tT := yv0
  have mR := yw0
  have heq := run_eql_iface_ptr_other (P := Tryz.prog) w Tryz.underlying86 Tryz.underlying443 hi hcmp hj (by rw [hjs]; decide) hne ha hb
  have n1 := noIsE
  have n2 := ji0
  have n3 := qa0
  go_enter Tryz.func49, Tryz.ntmps49
  go_wp2
  refine wp_loop_rounds 1 ?_
  rw [rounds_succ]
  go_wp2
  go_ret
  exact ⟨rfl, rfl⟩
end
variable {w:World} {K:oK}
theorem Z80 {a b:Addr} (c:a≠b) {ca cb:Array Value} {ta tb:TypeId} (f:w.heap[a.block]?=some (.cells ca ta (0,0))) (g:w.heap[b.block]?=some (.cells cb tb (0,0))) (d:K (.bool false) w):vcall xG #[erv a,erv b] w K:=
 ⟨rK,(Yr0 a b w c f g).mono λe w' h=>by obtain⟨rfl,rfl⟩:=h;exact d⟩
end Go.Proofs.YtfnpmncplaibiaaGreatDoor
end
namespace Go.Proofs.YtfnpmncplaibiaaGreatDoor
open Go Go.Vc Go.Proofs Go.M
section
variable {w:World} {K:oK} {F Fr:oA} {many bs:Nat} {c:Cnf} {s:Sat} {N:Nat}
structure SV where
 (vc:Value) (bt:Nat) (vp vpl vl vw vr:Value) (ls:List Value)
def SV.tf (σ:SV):oA:=Za σ.bt σ.vp σ.vpl σ.vl
def SV.f3 (σ:SV) (bs b:Nat):Prop:=b=bs\/σ.vw.ownBlock=some b\/σ.vr.ownBlock=some b
def SV.foot (σ:SV) (bs b:Nat):Prop:=σ.tf b\/σ.f3 bs b
structure SR (N:Nat) (Fr:oA) (w:World) (bs many:Nat) (c:Cnf) (s:Sat) (σ:SV):Prop where
 blk:Blk w bs [nI many,σ.vc,oP σ.bt 0,σ.vw,σ.vr,nI s.code] yz
 cm:c.many=many
 cl:Lists Fr w σ.vc c.list
 tr:TrailR Fr w σ.bt many s.put (yq s.why) σ.vp σ.vpl σ.vl
 rw:OwnI zh w σ.vw s.why
 rl:OwnV zn w σ.vr σ.ls
 lsl:σ.ls.length=s.learned.length
 ll:RowsR N Fr w σ.ls s.learned
 s1:∀x,σ.vw.ownBlock=some x->x≠bs
 s2:∀x,σ.vr.ownBlock=some x->x≠bs
 s3:∀x,σ.vw.ownBlock=some x->σ.vr.ownBlock≠some x
 st:∀x,σ.f3 bs x->¬σ.tf x
 sf:∀x,σ.f3 bs x->¬Fr x
section
variable {σ:SV} {w':World} {S:oA}
theorem SR.notF (h:SR N Fr w bs many c s σ) {x:Nat} (a:σ.foot bs x): ¬Fr x:=by
 obtain⟨_,f1,f2,f3,f4⟩:=sep4.1 h.tr.sep;rcases a with(rfl|e|e|e)|e
 .exact f1 _ rfl
 .exact f2 _ e
 .exact f3 _ e
 .exact f4 _ e
 .exact h.sf _ e
theorem SR.lt (h:SR N Fr w bs many c s σ) {x:Nat} (a:σ.foot bs x):x<w.heap.size:=by
 rcases a with(rfl|e|e|e)|rfl|e|e
 .exact h.tr.blk.lt
 .exact h.tr.rp.lt e
 .exact h.tr.rpl.lt e
 .exact h.tr.rl.lt e
 .exact h.blk.lt
 .exact h.rw.lt e
 .exact h.rl.lt e
theorem SR.same (h:SR N Fr w bs many c s σ) (hw:Same S w w') (hs:∀x,σ.foot bs x->¬S x) (hF:∀x,Fr x->x<w.heap.size->¬S x):SR N Fr w' bs many c s σ:=
 ⟨h.blk.same hw (hs _ (.inr (.inl rfl))),h.cm,h.cl.same hw hF,h.tr.same hw λb a=>hs _ (.inl a),h.rw.same hw λb a=>hs _ (.inr (.inr (.inl a))),h.rl.same hw λb a=>hs _ (.inr (.inr (.inr a))),h.lsl,h.ll.same hw hF,h.s1,h.s2,h.s3,h.st,h.sf⟩
theorem SR.ext (h:SR N Fr w bs many c s σ) (hw:Ext w w'):SR N Fr w' bs many c s σ:=h.same hw (λ_ _ h=>h) λ_ _ _ h=>h
theorem SR.lists (h:SR N Fr w bs many c s σ):Vals (λb=>σ.vr.ownBlock=some b) w σ.vr σ.ls:=h.rl.vals
theorem clause_spec {k:Nat} (h:SR N Fr w bs many c s σ) (q:k<c.list.length+s.learned.length) (p:c.list.length+s.learned.length<=1000000)
  (n:∀v w',Ext w w'->Ints Fr w' v (atM c s k)->K v w'):vcall YJ #[oP bs 0,nI k] w K:=by
 refine ze {} Tryz.func295 ?_;obtain⟨cs,m,b,l⟩:=h.cl;simp(disch:=exact oS) only[push_cast,h.blk.ld1,b.len];refine zb (λa=>?_) (λa=>zd λw1 d _=>?_)
 .simp(disch:=exact oS) only[push_cast,h.blk.ld1,b.iaddr,b.load];refine n _ w (Same.refl _ _) ?_;have:=l k oM;rwa[atM,getD_app_l oM]
 .have g:=h.ext d;have e:=b.ext d;obtain⟨j,rfl⟩:∃j,k=cs.length+j:=⟨k-cs.length,oM⟩;have f:=g.lists;have o:=h.lsl;simp(disch:=exact oS) only[push_cast,g.blk.ld1,g.blk.ld4,e.len,k5];rw[show(cs.length:Int)+j-cs.length=(j:Int) from by omega];simp(disch:=exact oS) only[push_cast,zk,f.iaddr,f.load,k5];refine n _ w1 d ?_;have:=g.ll.int (i:=j) oM;rwa[atM,m,getD_app_r]
theorem assign_spec {l y:Int} (h:SR N Fr w bs many c s σ) (J:l≠0) (hl:l.natAbs<=many) (r:placeOf s.put l.natAbs=0) (C:∀b,Fr b->b<w.heap.size)
  (X:∀W w',SR N Fr w' bs many c {s with put:=s.put++[l],why:=s.why++[y]} W->Same (σ.foot bs) w w'->(∀b,W.foot bs b->σ.foot bs b\/w.heap.size<=b)->K (.tuple #[]) w'):
  vcall YK #[oP bs 0,nI l,nI y] w K:=by
 refine ze {} Tryz.func296 ?_;simp(disch:=exact oS) only[push_cast,h.blk.ld2];refine push_spec (d:=decide (y= -1)) h.tr J hl r C λn m w1 j f D=>?_;have S:=f.size;have t:∀x,σ.f3 bs x->¬Za σ.bt σ.vp σ.vpl σ.vl x:=λx a=>h.st x a;have B:=h.blk.same f (t bs (.inl rfl));have Q:=h.rw.same f λx a=>t x (.inr (.inl a));have M:=h.rl.same f λx a=>t x (.inr (.inr a));have R:=h.tr.few';have a0:=h.tr.few;have hlen:=h.tr.len;rw[jY] at hlen;simp(disch:=exact oS) only[push_cast,B.ld3];refine zB xt yM xJ rfl rfl λb1 w2 Y i a1 I=>?_;have T:=i.size;refine(Q.ext i).app1 xC I oM oM λo w3 z k L=>?_;have U:=k.size;have G:=(B.ext i).same k λe=>h.s1 _ e rfl;have u:∀x,o.ownBlock=some x->σ.vw.ownBlock=some x\/w1.heap.size<=x:=λx a=>(L x a).imp id λh=>oM
 have Z:=h.lt (.inr (.inl rfl));have p:∀x,o.ownBlock=some x->x≠bs:=λx a e=>by
  rcases u x a with A|A
  .exact h.s1 x A e
  .omega
 refine G.st z.ints.cells1 z.ints.one qq rfl λV v a2 H=>?_;have O:∀x,Za σ.bt n σ.vpl m x->x<w1.heap.size:=by
  rintro x (rfl|e|e|e)
  .exact j.blk.lt
  .exact j.rp.lt e
  .exact j.rpl.lt e
  .exact j.rl.lt e
 have E:∀x,σ.f3 bs x->¬Za σ.bt n σ.vpl m x:=λx a g=>by
  rcases D x g with e|e
  .exact h.st x a e
  .have:=h.lt (.inr a);omega
 have F:Same (σ.f3 bs) w1 V:=(Same.of_ext i).trans ((k.mono λx _ e=> .inr (.inl e)).trans (v.mono λx _ e=> .inl e));have q:∀x,(SV.mk σ.vc σ.bt n σ.vpl m o σ.vr σ.ls).f3 bs x->σ.f3 bs x\/w1.heap.size<=x:=by
  rintro x (e|e|e)
  .exact .inl (.inl e)
  .exact(u x e).imp (λe=> .inr (.inl e)) id
  .exact .inl (.inr (.inr e))
 refine X ⟨σ.vc,σ.bt,n,σ.vpl,m,o,σ.vr,σ.ls⟩ V ⟨H,h.cm,(h.cl.same f ?_).same F ?_,?_,z.same v p,?_,h.lsl,?_,p,h.s2,?_,?_,?_⟩ ?_ ?_
 .exact λx hF _ g=>h.notF (.inl g) hF
 .exact λx hF _ g=>h.notF (.inr g) hF
 .have:=j.same F λx a e=>E x e a;rwa[<-jT0] at this
 .exact((M.ext i).same k λx a e=>h.s3 x e a).same v λx a e=>h.s2 x a e
 .exact(h.ll.same f λx hF _ g=>h.notF (.inl g) hF).same F λx hF _ g=>h.notF (.inr g) hF
 .intro x a e;rcases u x a with A|A
  .exact h.s3 x A e
  .have:=h.lt (.inr (.inr (.inr e)));omega
 .intro x a g;rcases q x a with e|e
  .exact E x e g
  .have:=O x g;omega
 .intro x a hF;rcases q x a with e|e
  .exact h.sf x e hF
  .have:=C x hF;omega
 .exact(f.mono λx _ e=> .inl e).trans (F.mono λx _ e=> .inr e)
 .rintro x (e|e)
  .exact(D x e).imp (λe=> .inl e) id
  .exact(q x e).imp (λe=> .inr e) λh=>oM
theorem pop_take {α:Type} {d:α} {xs:List α} {n:Nat} (h:xs.length=n+1):xs=xs.take n++[xs.getD n d]:=by
 have:=G3 n xs;rw[Zg (d:=d) (show n<xs.length by omega),Gj (show xs.length<=n+1 by omega)] at this;exact this.symm
theorem goBack_spec {L:Int} (h:SR N Fr w bs many c s σ)
  (hK:∀f w' n,n=backN (yq s.why) L s.put.length->SR N Fr w' bs many c {s with put:=s.put.take n,why:=s.why.take n} f->Same (σ.foot bs) w w'->(∀b,f.foot bs b->σ.foot bs b)->K (.tuple #[]) w'):
  vcall YI #[oP bs 0,nI L] w K:=by
 refine ze {loops:=[(1,[])],cuts:=[(8194,[])]} Tryz.func323 ?_;simp(disch:=exact oS) only[push_cast,h.blk.ld2];have aq:=h.tr.few';have ai:=h.tr.few;have hlen:=h.tr.len;rw[jY] at hlen;refine vloop_up s.put.length (λi u w'=> ∃f,SR N Fr w' bs many c {s with put:=s.put.take (s.put.length-i),why:=s.why.take (s.put.length-i)} f/\f.bt=σ.bt/\Same (σ.foot bs) w w'/\(∀b,f.foot bs b->σ.foot bs b)/\backN (yq s.why) L (s.put.length-i)=backN (yq s.why) L s.put.length) ⟨σ,?_,rfl,Same.refl _ _,λ_ h=>h,by simp⟩ ?_
 .rw[Nat.sub_zero,gA,<-hlen,gA];exact h
 rintro i u g w1 C hi ⟨f,h1,a4,T,z,U⟩ hC;generalize hn:s.put.length-i=n at*;have W:(s.put.take n).length=n:=by simp;omega
 have ap:(s.why.take n).length=n:=by simp;omega
 have au:(yq (s.why.take n)).length=n:=by rw[jY];exact ap
 have ah:n=backN (yq s.why) L s.put.length->K (.tuple #[]) w1:=λe=>hK f w1 n e h1 T z;rw[<-a4];refine zp (λu w'=>Ext w1 w'/\∃m,n=m+1/\L<lvl (yq s.why) m) ?_ ?_
 .intro J hJ;refine zd λw2 t _=>?_;have G:=h1.ext t;have H:Ints _ w2 f.vp (s.put.take n):=G.tr.rp.ints;have a6:Ints _ w2 f.vl (levels (yq (s.why.take n))):=G.tr.rl.ints;have a7:=YC (yq (s.why.take n));simp(disch:=exact oS) only[push_cast,G.tr.blk.ld0,H.len,k5];have r:n=backN (yq s.why) L s.put.length->K (.tuple #[]) w2:=λe=>hK f w2 n e G (T.trans (Same.of_ext t)) z;refine zb (λa=>?_) (λa=>?_)
  .obtain⟨m,rfl⟩:∃m,n=m+1:=⟨n-1,oM⟩;simp(disch:=exact oS) only[push_cast,G.tr.blk.ld0,G.tr.blk.ld2,H.len,k5];rw[W,show(((m+1:Nat):Int)-1)=(m:Int) from by omega];simp(disch:=exact oS) only[push_cast,zk,a6.iaddr,a6.load,k5];rw[J3 oM,<-yF0,lvl_take oM];refine zb (λb=>hJ _ _ ⟨t,m,rfl,b⟩) (λb=>r ?_);rw[<-U,backN,y3 b]
  .refine r ?_;rw[<-U,show n=0 from by omega];rfl
 rintro _ g2 w2 ⟨t,m,rfl,hL⟩;have G:=h1.ext t;have H:OwnI zh w2 f.vp (s.put.take (m+1)):=G.tr.rp;have a8:=H.ints;simp(disch:=exact oS) only[push_cast,G.tr.blk.ld0,a8.len];rw[W,show(((m+1:Nat):Int)-1)=(m:Int) from by omega];simp(disch:=omega) only[push_cast,zk];refine zd λZ a5 _=>?_;have j:=G.ext a5;have a9:OwnI zh Z f.vp (s.put.take (m+1)):=j.tr.rp;have R:OwnI zh Z f.vpl (places many (s.put.take (m+1))):=j.tr.rpl;have aj:OwnI zh Z f.vl (levels (yq (s.why.take (m+1)))):=j.tr.rl;have an:OwnI zh Z f.vw (s.why.take (m+1)):=j.rw;have Q:=a9.ints;have X:=R.ints;have av:=Zd many (s.put.take (m+1));have hm:(s.put.take (m+1)).getD m 0∈s.put.take (m+1):=getD_meS oM;have ar:=j.tr.bnd _ hm;simp(disch:=exact oS) only[push_cast,j.tr.blk.ld0,j.tr.blk.ld1,Q.iaddr,Q.load,k5];refine variable_spec oM oM ?_;simp(disch:=exact oS) only[push_cast,j.tr.blk.ld1,X.iaddr,k5,gi];refine R.st yM oM λw4 aa p aw=>?_;have l:=pop_take (d:=0) W;rw[pr,GL (by omega:m<=m+1)] at l;generalize hx:(s.put.take (m+1)).getD m 0=x at*;have Y:OwnI zh w4 f.vpl (places many (s.put.take m)):=by
  have hd:Distinct (s.put.take m++[x]):=by rw[<-l];exact j.tr.dis
  rw[<-places_unsnoc (many:=many) hd,<-l];simpa using aa
 obtain⟨⟨t1,t2,t3,t4,t5,t6⟩,f1,f2,f3,f4⟩:=sep4.1 j.tr.sep;have k1:∀y,f.f3 bs y->f.vpl.ownBlock≠some y:=λy k e=>j.st y k (.inr (.inr (.inl e)));have ad:Blk w4 f.bt [f.vp,f.vpl,f.vl] yB:=j.tr.blk.same p λe=>t2 _ rfl e;have a2:Blk w4 bs [nI many,f.vc,oP f.bt 0,f.vw,f.vr,nI s.code] yz:=j.blk.same p λe=>k1 _ (.inl rfl) e;have al:=a9.same p λy k e=>t4 y k e;have ak:=aj.same p λy k e=>t6 y e k;have ao:=an.same p λy k e=>k1 y (.inr (.inl k)) e;have am:=j.rl.same p λy k e=>k1 y (.inr (.inr k)) e;refine zd λw5 o _=>?_;have S:=ad.ext o;have M:=a2.ext o;have I:=al.ext o;have E:=ak.ext o;have A:=ao.ext o;have a7:=YC (yq (s.why.take (m+1)));simp(disch:=exact oS) only[push_cast,S.ld0,S.ld2,M.ld3,I.cut,E.cut,A.cut,k5];refine S.st (I.taken (n:=m) oM).ints.cells1 (I.taken (n:=m) oM).ints.one qq rfl λw6 ab ax ae=>?_
 try simp(disch:=exact oS) only[push_cast,E.cut,A.cut,k5,gi]
 refine ae.st (E.taken (n:=m) oM).ints.cells1 (E.taken (n:=m) oM).ints.one qq rfl λw7 ac ay af=>?_
 try simp(disch:=exact oS) only[push_cast,A.cut,k5,gi]
 have V:bs≠f.bt:=λe=>j.st bs (.inl rfl) (.inl e);have a3:=(M.same ab V).same ac V;refine a3.st (A.taken (n:=m) oM).ints.cells1 (A.taken (n:=m) oM).ints.one qq rfl λw8 F az ag=>?_;have q:Same (· =f.bt) w5 w7:=ab.trans ac;have mv:∀{xs:oI} {v:Value},OwnI zh w5 v xs->(∀y,v.ownBlock=some y->y≠f.bt/\y≠bs)->OwnI zh w8 v xs:=λhv k=>(hv.same q λy e=>(k y e).1).same F λy e=>(k y e).2;have nbt:∀y,f.tf y->y≠bs:=λy k e=>j.st bs (.inl rfl) (e▸k);have hP:=I.taken (n:=m) oM;have a0:=E.taken (n:=m) (by rw[a7];omega);have hW:=A.taken (n:=m) oM;rw[pr,GL (by omega:m<=m+1)] at hP hW;rw[levels_take,yF0,pr,GL (by omega:m<=m+1)] at a0;have a1:Same (σ.foot bs) Z w8:=(p.mono λy _ e=>z _ (.inl (.inr (.inr (.inl e))))).trans ((Same.of_ext o).trans ((q.mono λy _ e=>z _ (.inl (.inl e))).trans (F.mono λy _ e=>z _ (.inr (.inl e)))));have D:Same (f.foot bs) Z w8:=(p.mono λy _ e=>(.inl (.inr (.inr (.inl e))))).trans ((Same.of_ext o).trans ((q.mono λy _ e=>(.inl (.inl e))).trans (F.mono λy _ e=>(.inr (.inl e)))));have O:s.put.length-(i+1)=m:=oM
 refine hC oM _ _ ⟨⟨f.vc,f.bt,cutV f.vp m,f.vpl,cutV f.vl m,cutV f.vw m,f.vr,f.ls⟩,?_,a4,?_,?_,?_⟩
 .rw[O];refine⟨ag,j.cm,j.cl.same D λy k _ ht=>j.notF ht k,?_,?_,?_,j.lsl,j.ll.same D λy k _ ht=>j.notF ht k,?_,j.s2,?_,?_,?_⟩
  .refine⟨(show Blk w7 f.bt [cutV f.vp m,f.vpl,cutV f.vl m] yB from af).same F λe=>V e.symm,mv hP λy e=>?_,mv (Y.ext o) λy e=>?_,mv a0 λy e=>?_,?_,?_,?_,?_,ai⟩
   .rw[xP] at e;exact⟨λB=>t1 _ rfl (B▸e),nbt y (.inr (.inl e))⟩
   .exact⟨λB=>t2 _ rfl (B▸e),nbt y (.inr (.inr (.inl e)))⟩
   .rw[xP] at e;exact⟨λB=>t3 _ rfl (B▸e),nbt y (.inr (.inr (.inr e)))⟩
   .rw[xP,xP];exact j.tr.sep
   .show(yq (s.why.take m)).length=(s.put.take m).length;rw[jY,gh,gh];omega
   .have:=distinct_take j.tr.dis m;rwa[pr,GL (by omega:m<=m+1)] at this
   .intro y k;refine j.tr.bnd y ?_;show y∈s.put.take (m+1);rw[l];exact Ge _ k
  .refine mv hW λy e=>?_;rw[xP] at e;exact⟨λB=>j.st y (.inr (.inl e)) (.inl B),j.s1 y e⟩
  .exact((am.ext o).same q λy e B=>j.st y (.inr (.inr e)) (.inl B)).same F λy e B=>j.s2 y e B
  .intro y e;rw[xP] at e;exact j.s1 y e
  .intro y e;rw[xP] at e;exact j.s3 y e
  .intro y k ht;refine j.st y ?_ ?_
   .rcases k with e|e|e
    .exact .inl e
    .exact .inr (.inl (by rwa[xP] at e))
    .exact .inr (.inr e)
   .rcases ht with e|e|e|e
    .exact .inl e
    .exact .inr (.inl (by rwa[xP] at e))
    .exact .inr (.inr (.inl e))
    .exact .inr (.inr (.inr (by rwa[xP] at e)))
  .intro y k;refine j.sf y ?_;rcases k with e|e|e
   .exact .inl e
   .exact .inr (.inl (by rwa[xP] at e))
   .exact .inr (.inr e)
 .exact T.trans ((Same.of_ext (t.trans a5)).trans a1)
 .intro y k;refine z y ?_;rcases k with(e|e|e|e)|e|e|e
  .exact .inl (.inl e)
  .exact .inl (.inr (.inl (by rwa[xP] at e)))
  .exact .inl (.inr (.inr (.inl e)))
  .exact .inl (.inr (.inr (.inr (by rwa[xP] at e))))
  .exact .inr (.inl e)
  .exact .inr (.inr (.inl (by rwa[xP] at e)))
  .exact .inr (.inr (.inr e))
 .rw[O,<-U,backN,X0 hL]
end
end
section
variable {w:World} {K:oK} {F Fr:oA} {many:Nat}
theorem few_ints {ks:oI} (g:ks.Nodup) (b:∀k,k∈ks->k.natAbs<=700):ks.length<=1401:=by
 have d:(ks.map λk=>(k+701).toNat).Nodup:=by
  unfold List.Nodup;rw[pc];refine(Pl.2 λ{a c} hs=>?_);have e:a∈ks:=hs.subset (by simp);have f:c∈ks:=hs.subset (by simp);have:=b a e;have:=b c f;have i:a≠c:=by
   have:=g.sublist hs;simpa using this
  omega
 have:=nodup_le (m:=1401) d λx j=>by
  obtain⟨k,h,rfl⟩:=gy.1 j;have:=b k h;omega
 simpa using this
theorem greatest_spec {bt b:Nat} {put ks:oI} {ds:List Bool} {vp vpl vl:Value} (h:TrailR Fr w bt many put ds vp vpl vl) (hm:ISet w b ks) (N:∀k,k∈ks->k.natAbs<=many/\placeOf put k.natAbs≠0)
  (hK:∀w' top v xs,Ext w w'->TopOf put ds ks top xs->OwnI zh w' v xs->(∀x,v.ownBlock=some x->w.heap.size<=x)->K (.tuple #[nI (top:Nat),v]) w'):
  vcall Y3 #[oP bt 0,.map (some b)] w K:=by
 refine ze {loops:=[(4,[6,7])]} Tryz.func343 ?_;have ad:=h.few;have a8:=h.few';have hlen:=h.len;have a0:=hm.nodup;have af:ks.length<=1401:=few_ints a0 λk M=>by have:=(N k M).1;omega
 refine Wx xE hm λr w1 hr J W=>?_;refine vloop_up ks.length (λi u w'=> ∃dn top v xs,dn.length=i/\u=[nI (top:Nat),v]/\IterR w' r b ks dn/\OwnI zh w' v xs/\TopOf put ds dn top xs/\Ext w w'/\r<w'.heap.size/\top<=700/\(∀x,v.ownBlock=some x->w.heap.size<=x/\x≠r))
  ⟨[],0,oN,[],rfl,rfl,J,OwnI.nil,⟨by simp,by simp,.inl rfl,pn⟩,W,?_,oM,λx z=>by cases z⟩ ?_
 .exact J.lt
 rintro i _ g w2 C hi ⟨dn,top,v,xs,F,rfl,hit,hv,l,he,ae,D,j⟩ U;refine vnext_set hit (λA=>?_) λk x w3 M Z p S ah=>?_
 .refine oZ ?_;refine hK w2 top v xs he ⟨λk M=>l.le k (A k M),λk=>?_,l.ne,l.nd⟩ hv λx z=>(j x z).1;rw[l.mem];obtain⟨_,_,_,_,_,_,_,_,s,_⟩:=hit;exact⟨λ⟨a,b⟩=>⟨s k a,b⟩,λ⟨a,b⟩=>⟨A k a,b⟩⟩
 have o:Ext w w3:=he.then S λy d=>by subst d;omega
 have a4:=hv.same S λy d=>(j y d).2;refine oZ ?_;refine Wy p λx'=>?_;refine oZ ?_;obtain⟨X,Y⟩:=N k M;refine level_spec (h.ext o) X Y λw4 n=>?_;have T:=a4.ext n;have m:=p.ext n;have Q:lvl ds (placeOf put k.natAbs-1)=lvM put ds k:=rfl;have O:lvM put ds k<=700:=by have:=lvl_le ds (placeOf put k.natAbs-1);rw[Q] at this;omega
 rw[Q];refine oZ ?_;have G:i<ks.length:=by have:=p.len;simp at this;omega
 have B:∀y,y∈xs->y∈dn:=λy d=>((l.mem y).1 d).1;have ag:xs.length<=i:=by have:=Pv l.nd B;omega
 have a9:=o.size;have aa:=n.size;have R:=m.lt;have a1:k∉xs:=λh=>Z (B k h);have memd:∀y,y∈dn++[k]↔y∈dn\/y=k:=λy=>by simp
 refine zb (λa=>?_) (λa=>?_)
 .refine zB xt yM xJ rfl rfl λb1 w5 V f a7 E=>?_;refine U G _ _ ⟨dn++[k],lvM put ds k,_,[k],by simp[F],rfl,m.ext f,Blk.own1 (t:=zh) (cs:=[nI k]) (by rw[qB];exact E) (Gf _) rfl rfl oM,⟨λy d=>?_,λy=>?_,.inr (by simp),by simp⟩,o.trans (n.trans f),oM,O,?_⟩
  .rcases(memd y).1 d with d|rfl
   .have:=l.le y d;omega
   .exact gr _
  .rw[memd,gx];constructor
   .rintro rfl;exact⟨.inr rfl,rfl⟩
   .rintro⟨d|rfl,e⟩
    .have:=l.le y d;omega
    .rfl
  .intro x z;have e:b1=x:=V1 z;omega
 .refine zb (λa2=>?_) (λa2=>?_)
  .refine zB xt yM xJ rfl rfl λb1 w5 V f a7 E=>?_;have a5:=T.ext f;refine a5.app1 xC E oM oM λv' w6 a6 H a3=>?_;have ab:=f.size;have ac:=H.size;have I:∀x,v'.ownBlock=some x->w.heap.size<=x/\x≠r:=λx z=>by
    rcases a3 x z with e|e
    .exact j x e
    .have:=he.size;constructor<;>omega
   have L:=(m.ext f).same H (λe=>by have:=(j b e).1;have:=hm.lt;omega) λe=>(j r e).2 rfl;have hE:Ext w w6:=Ext.then (o.trans (n.trans f)) H λx z=>(j x z).1;refine U G _ _ ⟨dn++[k],top,v',xs++[k],by simp[F],rfl,L,a6,⟨λy d=>?_,λy=>?_,.inr (by simp),?_⟩,hE,oM,D,I⟩
   .rcases(memd y).1 d with d|rfl
    .exact l.le y d
    .omega
   .rw[memd,gl,gx,l.mem];constructor
    .rintro(⟨q,s⟩|rfl)
     .exact⟨.inl q,s⟩
     .exact⟨.inr rfl,oM⟩
    .rintro⟨q|q,s⟩
     .exact .inl ⟨q,s⟩
     .exact .inr q
   .rw[Gu];exact⟨l.nd,by simp,λa ha c hc e=>by simp at hc;subst hc;subst e;exact a1 ha⟩
  .refine U G _ _ ⟨dn++[k],top,v,xs,by simp[F],rfl,m,T,⟨λy d=>?_,λy=>?_,l.ne,l.nd⟩,o.trans n,R,D,j⟩
   .rcases(memd y).1 d with d|rfl
    .exact l.le y d
    .omega
   .rw[memd,l.mem];constructor
    .rintro⟨q,s⟩;exact⟨.inl q,s⟩
    .rintro⟨q|rfl,s⟩
     .exact⟨q,s⟩
     .omega
end
section
variable {w:World} {K:oK} {F:oA}
def Zw0 (a b:Int):Int:=if a<b then-1 else if b<a then 1 else 0
theorem cmpI_pos {a b:Int}:0<Zw0 a b↔b<a:=by unfold Zw0;split<;>(try split)<;>omega
theorem yx0 {a:Int} (b:K (.bool false) w):vcall KU #[nI a] w K:=by
 refine ze {} Tryz.func360 ?_;simp only[push_cast,z0c,not_true_eq_false,decide_false];exact b
theorem Vr {a b:Int} (c:K (nI (Zw0 a b)) w):vcall QX #[nI a,nI b] w K:=by
 refine ze {} Tryz.func346 ?_;refine yx0 (yx0 ?_);simp only[push_cast];unfold Zw0 at c;refine zb (λh=>?_) (λh=>zb (λd=>?_) (λd=>?_))
 .rwa[X0 h] at c
 .rwa[y3 h,X0 d] at c
 .rwa[y3 h,y3 d] at c
def FnI (w0:World) (f:Value) (args:Array Value) (b:Int):Prop:=
 ∀(w':World) (K:oK),Ext w0 w'->(∀w'',Ext w' w''->K (nI b) w'')->vcallv f args w' K
theorem MaxFunc_Lint {v f:Value} {xs:oI} {g:Int->Int} (p:Ints F w v xs) (t:xs≠[]) (B:∀a b,a∈xs->b∈xs->FnI w f #[nI a,nI b] (Zw0 (g a) (g b)))
  (A:∀w' m,Ext w w'->m∈xs->(∀x,x∈xs->g x<=g m)->K (nI m) w'):vcall Z4 #[v,f] w K:=by
 refine ze {loops:=[(5,[5,6])],cuts:=[(8195,[])]} Tryz.func344 ?_;have o:0<xs.length:=GQ.2 t;have hlen:xs.length<=9223372036854775807:=by obtain⟨_,_,_,z,E,_⟩:=p.shape;simp at z;omega
 refine zp (λu w'=>Ext w w'/\w'=w) ?_ ?_
 .intro C r;simp(disch:=exact oS) only[push_cast,p.len];exact zb (λa=>oM) (λa=>r _ _ ⟨Same.refl _ _,rfl⟩)
 rintro _ _ _ ⟨-,rfl⟩;simp(disch:=exact oS) only[p.iaddr,Int.toNat_zero,p.load];refine vloop_up (xs.length-1) (λi u w'=> ∃m,u=[nI m,nI (i+1:Nat)]/\Ext w' w'/\Ext _ w'/\m∈xs/\∀j,j<=i->g (xs.getD j 0)<=g m) ⟨xs.getD 0 0,rfl,Same.refl _ _,Same.refl _ _,getD_meS o,λj n=>by
  have:j=0:=oM;subst this;exact Py _⟩ ?_
 rintro i _ _ w1 C hi ⟨m,rfl,-,he,hm,c⟩ r;have d:=p.ext he;simp(disch:=exact oS) only[sl0,sl1,d.len,kL0];refine zb (λa=>?_) (λa=>?_)
 .simp(disch:=exact oS) only[d.iaddr,gu,d.load];have n:xs.getD (i+1) 0∈xs:=getD_meS oM;refine B _ _ n hm w1 _ he λw2 l=>?_;have q:=d.ext l;have k:IntKind.i64.wrap (((i+1:Nat):Int)+1)=((i+1+1:Nat):Int):=by rw[zk oM oM];omega
  simp only[xt0];refine zb (λb=>?_) (λb=>?_)
  .simp(disch:=exact oS) only[q.iaddr,gu,q.load,XS,k];refine r oM _ _ ⟨_,rfl,Same.refl _ _,he.trans l,n,λj s=>?_⟩;have D:g m<g (xs.getD (i+1) 0):=cmpI_pos.1 b;by_cases e:j=i+1
   .subst e;exact Py _
   .have:=c j oM;omega
  .simp only[XS,k];refine r oM _ _ ⟨_,rfl,Same.refl _ _,he.trans l,hm,λj s=>?_⟩;have hle:g (xs.getD (i+1) 0)<=g m:=Int.not_lt.1 λh=>b (cmpI_pos.2 h);by_cases e:j=i+1
   .subst e;exact hle
   .exact c j oM
 .refine A w1 m he hm λx y=>?_;obtain⟨j,n,rfl⟩:=gq y;have:=c j oM;simpa[y4,n] using this
end
section
variable {w:World} {K:oK} {Fr:oA} {many bs:Nat} {c:Cnf} {s:Sat} {σ:SV} {N:Nat}
theorem learn_2_spec {a b:Int} (d:a.natAbs<=700) (e:b.natAbs<=700) (c:K (nI (Zw0 a.natAbs b.natAbs)) w):vcall yL #[nI a,nI b] w K:=by
 refine ze {} Tryz.func348 ?_;exact variable_spec oM oM (variable_spec oM oM (Vr c))
def plM (put:oI) (a:Int):Int:=(placeOf put a.natAbs:Int)-1
theorem yq0 {a b:Int} {p:Nat} {t:TypeId} {r:List Value} (h:SR N Fr w bs many c s σ) (o:Blk w p (oP bs 0::r) t) (m:a.natAbs<=many) (n:b.natAbs<=many)
  (l:∀w',Ext w w'->K (nI (Zw0 (plM s.put a) (plM s.put b))) w'):vcall Y6 #[nI a,nI b,oP p 0] w K:=by
 refine ze {} Tryz.func345 ?_;refine zd λw1 d _=>?_;have g:=h.ext d;have f:=o.ext d;simp only[push_cast,f.ld0,g.blk.ld2,k5];refine place_spec g.tr m λw2 e=>?_;have k:=g.ext e;have j:=f.ext e;simp only[push_cast,j.ld0,k.blk.ld2,k5,gi];exact place_spec k.tr n λq i=>Vr (l q (d.trans (e.trans i)))
theorem resolve_1_spec {a:Int} {p:Nat} {t:TypeId} {r:List Value} (h:SR N Fr w bs many c s σ) (g:Blk w p (oP bs 0::r) t) (f:a.natAbs<=many) (b:placeOf s.put a.natAbs≠0)
  (e:∀w',Ext w w'->K (.bool (decide (0<lvM s.put (yq s.why) a))) w'):vcall Zt #[nI a,oP p 0] w K:=by
 refine ze {} Tryz.func320 ?_;simp only[push_cast,g.ld0,h.blk.ld2];refine level_spec h.tr f b λw1 d=>?_;have:=e w1 d;simp only[push_cast];rwa[show decide ((0:Int)<(lvl (yq s.why) (placeOf s.put a.natAbs-1):Nat))=decide (0<lvM s.put (yq s.why) a) from decide_eq_decide.2 (by unfold lvM;omega)]
end
section
variable {w:World} {K:oK}
abbrev YV0:={x:Int//x.natAbs<=700}
instance:Inhabited YV0:=⟨⟨0,dC⟩⟩
def litV (x:YV0):Value:= nI x.1
def YM0 (x y:YV0):Int:=Zw0 x.1.natAbs y.1.natAbs
theorem litC_lt (x y:YV0):ltOf YM0 x y=decide (x.1.natAbs<y.1.natAbs):=by
 unfold ltOf YM0 Zw0;refine decide_eq_decide.2 ?_;split<;>(try split)<;>omega
theorem litC_swo:Go.Sort.SWO (ltOf YM0) where
 irrefl x:=by rw[litC_lt];simp
 trans x y z a b:=by rw[litC_lt] at*;simp at*;omega
 ntrans x y z a b:=by rw[litC_lt] at*;simp at*;omega
theorem VZ (args:Array Value) (w:World):(callFunc yL args).run P w= .ok (.enter yL args) w:=callFunc_run rK
theorem UN (blk off size:Nat) (w:World):CmpReads P yL #[] litV YM0 blk off size w:=by
 intro m os dk _ x y;have h:=learn_2_spec (K:=λv w'=>v= nI (YM0 x y)/\∃q,w'=(sortWorld litV w blk off m dk os).drewN q) (w:=sortWorld litV w blk off m dk os) x.2 y.2 ⟨rfl,0,rfl⟩;refine Calls.mono h.2 λe w' he=>?_;cases e with
 |returned v=>exact⟨by rw[he.1],he.2⟩
 |panicked c=>exact he.elim
 |outgrown=>exact he.elim
theorem SortFunc_learn {v : Value} {xs : oI} (hv : OwnI zh w v xs) (hne : xs ≠ []) (hb : ∀ x, x ∈ xs -> x.natAbs <= 700) (hnd : (xs.map Int.natAbs).Nodup)
    (hK : ∀ w' ys, OwnI zh w' v ys -> Srt ys -> (∀ k, k ∈ ys ↔ k ∈ xs) -> Same (λb => v.ownBlock = some b) w w' -> K (.tuple #[]) w') :
    vcall kK #[v, .func (.func yL) #[] #[]] w K := by
  refine ⟨by kernel_rfl, ?_⟩
  have hsm := hv.small
  have hlen : xs.length <= 1401 := few_ints (by
    unfold List.Nodup at hnd ⊢
    rw [pc] at hnd
    exact hnd.imp λh e => h (by rw [e])) hb
  have hrow := Own.row hv
  rcases hrow.2 with ⟨rfl, hn⟩ | ⟨g, cap, cur, rfl, hbg, hg, hnc, hcm, hcs, htake⟩
  · simp at hn; exact absurd hn hne
  let L : List YV0 := xs.attach.map λx => ⟨x.1, hb x.1 x.2⟩
  have hL : L.map (·.1) = xs := by
    simp [L]
  let d : Array YV0 := L.toArray
  have hds : d.size = xs.length := by simp [d, L]
  have hdj : ∀ j, j < xs.length -> litV d[j]! = .int .i64 (xs.getD j 0) := λj hj => by
    have h1 : (L.map (·.1)).getD j 0 = xs.getD j 0 := by rw [hL]
    simp only [litV]
    rw [<- h1, getElem!_pos d j (by omega)]
    have : j < L.length := by simp [L]; exact hj
    simp [d, y4, this]
  have hH : Go.Sort.Holds litV w g 0 d := by
    intro j hj
    rw [hds] at hj
    have hi' : j < ((xs.map λx => Value.int .i64 x).map λx => [x]).length * 1 := by simpa using hj
    have hc := World.ownsRow.cellAt hrow j hi'
    have hf := World.ownsRow.frozenAt hrow j
    rw [Gi]
    refine ⟨?_, hf⟩
    rw [hc, flat1, hdj j hj]
    simp [y4, hj]
  have hcon := Any.slices_SortFunc YtfnpmncplaibiaaGreatDoor.sortL litV (λ_ => rfl) YM0 litC_swo yL #[] g 0 cap d w VZ (UN g 0 d.size w).lays hH (gH.1 hg).1 (by omega)
  have hsz : ((xs.map λx => Value.int .i64 x).map λx => [x]).length = d.size := by simp [hds]
  rw [hsz]
  refine Calls.mono hcon ?_
  rintro e w' ⟨rfl, d', n, os, hp, hs, rfl⟩
  show K _ _
  obtain ⟨hp1, hp2, hp3⟩ := hp
  have hex : d'.toList.Perm L := by
    have e1 : d'.extract 0 d.size = d' := by rw [<- hp1]; simp
    have e2 : d.extract 0 d.size = d := by simp
    rw [e1, e2] at hp3
    exact hp3
  have hmap : (d'.toList.map (·.1)).Perm xs := by rw [<- hL]; exact hex.map _
  have hgl := (gH.1 hg).1
  have hcells : (sortWorld litV w g 0 n d' os).heap[g]? = some (.cells (Go.Sort.putCells litV 0 d' cur) (Yp zh) (0, 0)) := by
    unfold sortWorld Go.Sort.grow Go.Sort.putRow Go.Sort.mapBlock Go.Sort.ahead
    simp only
    rw [PM (by simpa using hgl)]
    simp [G2, hg, Go.Sort.onCells]
  have hlen' : d'.toList.length = xs.length := by simpa [L] using hex.length_eq
  refine hK _ (d'.toList.map (·.1)) ⟨⟨by rw [flat1]; simp only [K3, pU], .inr ⟨g, cap, _, by simp only [K3, hds, hlen'], hbg, hcells, ?_, hcm, ?_, ?_⟩⟩, λy hy => by obtain ⟨u, _, rfl⟩ := gy.1 hy; rfl⟩ ?_ (λk => hmap.mem_iff) ?_
  · simp only [K3] at hnc ⊢; simp at hlen' ⊢; omega
  · simpa [Go.Sort.putCells] using hcs
  · rw [flat1]
    simp only [K3, pU, hlen']
    refine List.ext_getElem? λi => ?_
    rw [List.getElem?_take]
    split
    · rename_i hi
      have hic : i < cur.size := by simp at hnc; omega
      have hid : i < d'.size := by omega
      simp [Go.Sort.putCells, Array.getElem?_mapIdx, hic, hid, litV]
    · rename_i hi
      symm
      rw [Pn]
      simp at hlen' ⊢; omega
  · unfold Srt
    rw [pc, GC]
    intro i j hi hj hij
    have h1 := hs i j (Gf _) hij (by simp at hj; omega)
    rw [litC_lt] at h1
    simp only [decide_eq_false_iff_not, Nat.not_lt] at h1
    simp only [pD] at hi hj
    rw [getElem!_pos d' i hi, getElem!_pos d' j hj] at h1
    simp only [Array.getElem_toList]
    refine Nat.lt_of_le_of_ne h1 λe => ?_
    have hnd2 : ((d'.toList.map (·.1)).map Int.natAbs).Nodup := (hmap.map _).nodup_iff.2 hnd
    unfold List.Nodup at hnd2
    rw [GV, pc, GC] at hnd2
    have := hnd2 i j (by simpa using hi) (by simpa using hj) hij
    simp at this
    exact this e
  · refine ⟨rfl, rfl, rfl, by simp [sortWorld, Go.Sort.grow, Go.Sort.putRow, Go.Sort.mapBlock, Go.Sort.ahead], λb hb' hne' => ?_⟩
    have hbg' : g ≠ b := λe => hne' (by rw [e]; rfl)
    unfold sortWorld Go.Sort.grow Go.Sort.putRow Go.Sort.mapBlock Go.Sort.ahead
    simp only
    rw [PM (by simpa using hb'), G2, y3 hbg']
end
section
variable {w:World} {F:oA} {c:Cnf} {s:Sat}
def SatR (F:oA) (w:World) (v:Value) (s:Sat):Prop:=
 ∃vp vw vl,v= .agg #[vp,vw,vl,nI s.code]/\Ints F w vp s.put/\Ints F w vw s.why/\Lists F w vl s.learned
theorem SatR.ext {v:Value} {w':World} (h:SatR F w v s) (hw:Ext w w'):SatR F w' v s:=by
 obtain⟨vp,vw,vl,d,a,b,c⟩:=h;exact⟨vp,vw,vl,d,a.ext hw,b.ext hw,c.ext hw⟩
end
section
variable {w:World} {K:oK} {F Fr:oA} {many bs:Nat} {c:Cnf} {s:Sat} {σ:SV} {N:Nat}
theorem satOk.many' (h:satOk many c s) (a:c.many=many):many<=700/\c.list.length<=2500:=by
 have:=h.cnf;unfold cnfOk at this;simp only[gg,V0] at this;omega
theorem learn_spec {v:Value} {k:Nat} (h:SR N Fr w bs many c s σ) (D:satOk many c s) (a0:c.many=many) (hk:k<c.list.length+s.learned.length) (o:Ints F w v (atM c s k)) (hc:j3 s.put (atM c s k)) (d5:Z9 s.put (yq s.why) (atM c s k)≠0) (c4:∀b,Fr b->b<w.heap.size)
  (hK:∀w' v',Ext w w'->OwnI zh w' v' (learnM many c s s.put.length (atM c s k))->(∀x,v'.ownBlock=some x->w.heap.size<=x)->K (.tuple #[v',nI (ZH s.put (yq s.why) (learnM many c s s.put.length (atM c s k)))]) w'):
  vcall Xq #[oP bs 0,v] w K:=by
 refine ze {loops:=[(3,[20]),(8,[10]),(12,[59]),(21,[14,15])],cuts:=[(102425,[98])]} Tryz.func322 ?_;obtain⟨cm,db⟩:=satOk.many' D a0;have d1:=D.few;have au:=D.mks;obtain⟨z1,z2,z3,z4⟩:=UM D a0 hk hc;have b2:=Zi hc;have c9:=clauseOk_srt (D.atOk hk);generalize atM c s k=cl at*;refine yj λp w1 hp ce dm c6=>?_;refine kE0 λbm w2 da bg ac=>?_;have dp:=ac.size;have hlen:cl.length<=9223372036854775807:=by obtain⟨_,_,_,h1,h2,_⟩:=o.shape;simp at h1;omega
 simp(disch:=exact oS) only[push_cast,o.len];have c7:Blk w2 p [oP bs 0] yR:=c6.ext ac;have keep:∀{w3 w4:World} {S:oA},(Ext w w3/\Blk w3 p [oP bs 0] yR)->Same S w3 w4->(∀x,S x->w1.heap.size<=x)->(Ext w w4/\Blk w4 p [oP bs 0] yR):=by
  rintro w3 w4 S ⟨a,b⟩ hs hS;exact⟨a.then hs λx o=>by have:=hS x o;omega,b.same hs λe=>by have:=hS p e;omega⟩
 refine vloop_up cl.length (λi u w'=> ∃ks,u=[nI i]/\(Ext w w'/\Blk w' p [oP bs 0] yR)/\ISet w' bm ks/\∀x,x∈ks↔x∈cl.take i) ⟨[],rfl,⟨ce.trans ac,c7⟩,bg,by simp⟩ ?_;rintro i _ _ w3 C hi ⟨ks,rfl,M,B,z⟩ hC;refine oZ ?_;refine zb (λa=>?_) (λa=>?_)
 .have bw:=o.ext M.1;simp(disch:=exact oS) only[push_cast,bw.iaddr,bw.load];refine zB0 xE B λw4 ci cs dr=>?_;simp(disch:=omega) only[push_cast,zk];refine hC oM _ _ ⟨_,by simp,keep M cs (λx o=>oM),ci,λx=>?_⟩;rw[Ki (d:=0) oM,gl,gx,<-z];split
  .rename_i ap;exact⟨.inl,λe=>e.elim id λe=>e▸ap⟩
  .rw[gl,gx]
 clear hC;rw[gD oM] at z;clear bg hi a;have bounds:∀{j:oI},Fls s.put j->∀x,x∈j->x≠0/\x.natAbs<=many/\placeOf s.put x.natAbs≠0:=λhF x o=>by
  have h1:=au.2 _ (hF x o);have h2:=placeOf_ne_zero (hF x o);rw[G0] at h2;exact⟨oM,oM,h2⟩
 have Z:=h.ext M.1;simp only[push_cast,M.2.ld0,Z.blk.ld2];refine greatest_spec Z.tr B (λx o=>(bounds b2 x ((z x).1 o)).2) λw4 top v4 xs A bq bu bl=>?_;refine oZ ?_;have al:TopOf s.put (yq s.why) cl top xs:=Kg z bq;refine ji (λn u w'=> ∃ks j f top v xs,n=lastPl s.put j/\u=[v]/\(Ext w w'/\Blk w' p [oP bs 0] yR)/\ISet w' bm ks/\(∀x,x∈ks↔x∈j)/\
   Fls s.put j/\Srt j/\TopOf s.put (yq s.why) j top xs/\OwnI zh w' v xs/\(∀x,v.ownBlock=some x->w.heap.size<=x/\x≠bm/\x≠p)/\lastPl s.put j<=f/\learnM many c s f j=learnM many c s s.put.length cl) _
  ⟨ks,cl,s.put.length,top,v4,xs,rfl,rfl,keep M (S:=λ_=>False) A (λ_ h=>h.elim),B.ext A,z,b2,c9,al,bu,λx o=>?_,lastPl_le,rfl⟩ ?_
 .have:=bl x o;have:=B.lt;have:=M.2.lt;have:=M.1.size;exact⟨oM,oM,oM⟩
 clear B z bq al bu bl A Z ks top v4 xs M;clear w3 w4;rintro _ _ _ w3 C ⟨ks,j,f,top,v3,xs,rfl,rfl,M,B,z,hF,hS,ht,a7,bk,df,ar⟩ hC;have Z:=h.ext M.1;have bx:=a7.ints;have Q:=bounds hF;have t:∀x,x∈xs->x∈j:=λx o=>((ht.mem x).1 o).1;have cy:xs.length<=1401:=few_ints ht.nd λx o=>by have:=Q x (t x o);omega
 have bt:=topOf_tops (put:=s.put) (ds:=yq s.why) (srt_nodup hS);have dl:xs.length=(Jn s.put (yq s.why) j).length:=j60 ht bt;have ay:top=Z9 s.put (yq s.why) j:=topOf_top ht bt;simp only[push_cast,bx.len];refine zb (λa=>?_) (λa=>?_)
 ·
  have h2:2<=xs.length:=oM;have hf:f≠0:=λe=>by
   subst e;have:xs≠[]:=λe=>by subst e;simp at h2
   obtain⟨q,hq⟩:=pz _ this;exact lastPl_pos hF (λe=>by have:=t q hq;rw[e] at this;cases this) oM
  obtain⟨f,rfl⟩:∃f',f=f'+1:=⟨f-1,oM⟩;rw[learnM,y3 oM] at ar;obtain⟨k1,k2,k3,k4⟩:=learnS_ok D a0 hF hS oM;refine MaxFunc_Lint (g:=plM s.put) bx (λe=>by rw[e] at h2;simp at h2) (λa b ha hb w' K' bb c5=>?_) λw4 m A hm a4=>?_
  .exact yq0 (Z.ext bb) (M.2.ext bb) (Q a (t a ha)).2.1 (Q b (t b hb)).2.1 c5
  have bi:=Q m (t m hm);have cq:placeOf s.put m.natAbs=lastPl s.put j:=lastPl_top ht hm λx o=>by have:=a4 x o;unfold plM at this;omega
  refine yR0 xE (B.ext A) λw5 cj bo dt=>?_;have c3:=keep M (S:=λ_=>False) A (λ_ h=>h.elim);have W:=keep c3 bo (λx o=>oM);refine zd λw6 an _=>?_;have X:=keep W (S:=λ_=>False) an (λ_ h=>h.elim);have aa:=h.ext X.1;have dk:=aa.rw.ints;simp only[push_cast,X.2.ld0,aa.blk.ld2,aa.blk.ld3,k5];refine place_spec aa.tr bi.2.1 λw7 H=>?_;have Y:=keep X (S:=λ_=>False) H (λ_ h=>h.elim);have ab:=h.ext Y.1;have am:=ab.rw.ints;obtain⟨q,hq⟩:∃q,lastPl s.put j=q+1:=⟨lastPl s.put j-1,oM⟩;have cr:(placeOf s.put m.natAbs:Int)-1=(q:Int):=oM;have dh:=D.len;have d2:=placeOf_le s.put m.natAbs;obtain⟨r1,r2,r3,r4,r5,-⟩:=last_reason D hF ht h2 hq;have bn:s.put.getD q 0= -m:=by
   refine distinct_eq au.1 (getD_meS r1) (hF m (t m hm)) ?_;have:=(placeOf_pos bi.2.2).2;rw[cq,hq,GX] at this;rw[this,G0]
  rw[cr];simp(disch:=exact oS) only[push_cast,Y.2.ld0,ab.blk.ld2,ab.blk.ld3,k5,gi,am.iaddr,am.load];obtain⟨y,hy⟩:∃y:Nat,s.why.getD q 0=y:=⟨(s.why.getD q 0).toNat,oM⟩;have az:s.why.getD q 0=(y:Int):=hy;rw[az];refine clause_spec ab oM oM λv8 w8 ao a8=>?_;have V:=keep Y (S:=λ_=>False) ao (λ_ h=>h.elim);have d3:=clauseOk_len (m:=many) (by have:=D.atOk (k:=y) oM;rwa[a0] at this);simp(disch:=exact oS) only[push_cast,a8.len,k5];have ck:ISet w8 bm (ks.erase m):=((cj.ext an).ext H).ext ao;have co:ks.Nodup:=B.nodup;have d6:OwnI zh w8 v3 xs:=((((a7.ext A).same bo λx o=>(bk x o).2.1).ext an).ext H).ext ao;have hj:qQ many c s j=Ql many j (atM c s y) (s.put.getD q 0).natAbs:=by
   unfold qQ;rw[hq,GX,az,gu]
  have cg:∀l,l∈qQ many c s j↔(l∈j/\l≠m)\/(l∈atM c s y/\l≠ -m):=λl=>by
   have:=(learn_join D a0 hF ht h2 hq).1 l;rw[az,gu,<-hj,bn,Int.neg_neg] at this;exact this
  refine vloop_up (atM c s y).length (λi u w'=> ∃bz,u=[nI i]/\(Ext w w'/\Blk w' p [oP bs 0] yR)/\Ints Fr w' v8 (atM c s y)/\ISet w' bm bz/\(∀x,x∈bz↔(x∈j/\x≠m)\/(x∈(atM c s y).take i/\x≠ -m)))
   ⟨ks.erase m,rfl,V,a8,ck,λx=>by rw[co.mem_erase_iff,z];simp[and_comm]⟩ ?_
  rintro i _ _ w9 C9 hi ⟨c0,rfl,O,ae,a3,E⟩ b1;refine oZ ?_;refine zb (λa9=>?_) (λa9=>?_)
  .simp(disch:=exact oS) only[push_cast,ae.iaddr,ae.load];have br:=Ki (d:=0) (xs:=atM c s y) (show i<(atM c s y).length by omega);have d8:∀x,Fr x->x<w.heap.size->¬(x=bm):=λx _ o e=>oM;have G:IntKind.i64.wrap (0-m)= -m:=by rw[zk oM oM];omega
   have T:IntKind.i64.wrap ((i:Int)+1)=((i+1:Nat):Int):=by rw[zk oM oM];omega
   simp only[G,T];refine zb (λb9=>?_) (λb9=>?_)
   .refine zB0 xE a3 λw10 bf ak d7=>?_;simp(disch:=omega) only[push_cast,zk];have a6:Ints Fr w10 v8 (atM c s y):=ae.same ak λx o _ e=>by have:=c4 x o;omega
    refine b1 oM _ _ ⟨_,rfl,keep O ak (λx o=>oM),a6,bf,λx=>?_⟩;rw[br,gl,gx];split
    .rename_i ap;rw[E];constructor
     .rintro(e|⟨G,T⟩)
      .exact .inl e
      .exact .inr ⟨.inl G,T⟩
     .rintro(e|⟨G|G,T⟩)
      .exact .inl e
      .exact .inr ⟨G,T⟩
      .rw[G];exact(E _).1 ap
    .rw[gl,gx,E];constructor
     .rintro((e|⟨G,T⟩)|e)
      .exact .inl e
      .exact .inr ⟨.inl G,T⟩
      .exact .inr ⟨.inr e,by rw[e];exact b9⟩
     .rintro(e|⟨G|G,T⟩)
      .exact .inl (.inl e)
      .exact .inl (.inr ⟨G,T⟩)
      .exact .inr G
   .refine b1 oM _ _ ⟨_,rfl,O,ae,a3,λx=>?_⟩;rw[br,gl,gx,E];constructor
    .rintro(e|⟨G,T⟩)
     .exact .inl e
     .exact .inr ⟨.inl G,T⟩
    .rintro(e|⟨G|G,T⟩)
     .exact .inl e
     .exact .inr ⟨G,T⟩
     .exact absurd (by rw[<-G];exact T) b9
  .rw[gD oM] at E;have R:∀x,x∈c0↔x∈qQ many c s j:=λx=>(by rw[E,cg]);have b4:=h.ext O.1;have cb:=bounds k1;simp only[push_cast,O.2.ld0,b4.blk.ld2];refine greatest_spec b4.tr a3 (λx o=>(cb x ((R x).1 o)).2) λw10 c1 v10 d0 ag bp a6 bj=>?_;refine oZ ?_;have dw:=O.1.size;have:=a3.lt;have:=O.2.lt;refine hC (lastPl s.put (qQ many c s j)) _ _ k3 ⟨c0,qQ many c s j,f,c1,v10,d0,rfl,rfl,keep O (S:=λ_=>False) ag (λ_ h=>h.elim),a3.ext ag,R,k1,k2,Kg R bp,a6,λx o=>?_,oM,ar⟩;have:=bj x o;exact⟨oM,oM,oM⟩
 ·
  have bc:learnM many c s s.put.length cl=j:=by
   rw[<-ar];cases f with
   |zero=>rfl
   |succ f=>rw[learnM,X0 oM]
  rw[bc] at hK z1 z2 z3 z4;rw[z3] at ay;have cx:xs.length=1:=by
   have:=ht.ne;rcases this with e|e
   .omega
   .have:=GQ.2 e;omega
  obtain⟨t0,rfl⟩:=P6.1 cx;have af:∀x,x∈j->(x≠t0↔lvM s.put (yq s.why) x<Z9 s.put (yq s.why) j):=λx o=>by
   have h1:=ht.mem x;have h2:=ht.le x o;rw[gx] at h1;rw[z3];constructor
   .intro cp;have: ¬lvM s.put (yq s.why) x=top:=λe=>cp (h1.2 ⟨o,e⟩);omega
   .intro dg e;have:=(h1.1 e).2;omega
  refine Wx xE B λr w4 hr cf A=>?_;have de:=few_ints B.nodup λx o=>by have:=Q x ((z x).1 o);omega
  have dq:=M.1.size;have di:=B.lt;have dj:=M.2.lt;refine vloop_up ks.length (λi u w'=> ∃dn v,dn.length=i/\u=[nI (maxL ((dn.filter λk=>decide (lvM s.put (yq s.why) k<Z9 s.put (yq s.why) j)).map (lvM s.put (yq s.why))):Nat),v]/\(Ext w w'/\Blk w' p [oP bs 0] yR)/\IterR w' r bm ks dn/\OwnI zh w' v dn/\OwnI zh w' v3 [t0]/\(∀x,v.ownBlock=some x->w3.heap.size<x))
   ⟨[],oN,rfl,rfl,keep M (S:=λ_=>False) A (λ_ h=>h.elim),cf,OwnI.nil,a7.ext A,λx o=>by cases o⟩ ?_
  rintro i _ _ w5 C5 hi ⟨dn,v5,b8,rfl,W,I,bv,ct,L⟩ b0;refine vnext_set I (λb5=>?_) λU x' w6 ch dd a2 a5 du=>?_
  ·
   refine oZ ?_;have a1:∀x,x∈dn↔x∈j:=λx=>⟨λh=>(z x).1 (I.sub h),λh=>b5 x ((z x).2 h)⟩;have ba:dn≠[]:=λe=>by
    have:=(ht.mem t0).1 (by simp);have:=(a1 t0).2 this.1;rw[e] at this;cases this
   have cd:(dn.map Int.natAbs).Nodup:=by
    have h1:=I.nd;unfold List.Nodup at h1⊢;rw[pc];refine Pl.2 λ{a c} hs=>?_;have ca:a≠c:=by
     have:=h1.sublist hs;simpa using this
    have ha:=(a1 a).1 (hs.subset (by simp));have cc:=(a1 c).1 (hs.subset (by simp));intro e;exact ca (by have:=distinct_eq au.1 (hF a ha) (hF c cc) oM;omega)
   refine SortFunc_learn bv ba (λx o=>by have:=Q x ((a1 x).1 o);omega) cd λw6 zs cv c8 bh a5=>?_;have cz:zs=j:=srt_ext c8 hS λx=>(by rw[bh,a1]);subst cz;have a4:maxL ((dn.filter λk=>decide (lvM s.put (yq s.why) k<Z9 s.put (yq s.why) zs)).map (lvM s.put (yq s.why)))=ZH s.put (yq s.why) zs:=by
    unfold ZH;exact qe0 λx=>by simp only[gy,P7,bh]
   simp only[push_cast,a4];exact hK w6 v5 (W.1.then a5 λx o=>by have:=L x o;omega) cv λx o=>by have:=L x o;omega
  .refine oZ ?_;refine Wy a2 λdx=>?_;refine oZ ?_;refine zB xt yM xJ rfl rfl λb7 w7 d9 H dv c2=>?_;have dc:=I.lt;have X:=keep W a5 (λx o=>by have:=ac.size;have:=M.1.size;omega);have Y:=keep X (S:=λ_=>False) H (λ_ h=>h.elim);have d4:=W.1.size;have cw:=(bv.same a5 λx o e=>by have:=L x o;omega).ext H;have cu:=(ct.same a5 λx o e=>by have:=bk x o;have:=a7.lt o;omega).ext H;have bd:=a2.ext H;have b6:i<ks.length:=by have:=a2.len;simp at this;omega
   refine cw.app1 xC c2 oM oM λv8 w8 a8 av cn=>?_;have aj:∀x,v8.ownBlock=some x->w3.heap.size<x:=λx o=>by
    rcases cn x o with e|e
    .exact L x e
    .have:=A.size;have:=I.lt;omega
   have V:=keep Y av (λx o=>by have:=L x o;omega);have aw:=cu.same av λx o e=>by have:=L x e;have:=a7.lt o;omega
   have ai:=bd.same av (λe=>by have:=L _ e;omega) (λe=>by have:=L _ e;omega);have ax:=aw.ints;have aq:U∈j:=(z U).1 ch;have be:=Q U aq;refine zp (λu w'=>u=[.bool (decide (U≠t0))]/\w'=w8) ?_ ?_
   .intro J hJ;simp(disch:=exact oS) only[push_cast,ax.len,ax.iaddr,ax.load];exact hJ _ _ ⟨rfl,rfl⟩
   rintro _ _ _ ⟨rfl,rfl⟩;refine oZ ?_;have ah:(dn++[U]).filter (λk=>decide (lvM s.put (yq s.why) k<Z9 s.put (yq s.why) j))=dn.filter (λk=>decide (lvM s.put (yq s.why) k<Z9 s.put (yq s.why) j))++(if lvM s.put (yq s.why) U<Z9 s.put (yq s.why) j then[U] else[]):=by
    rw[PL];simp[PX]
   refine zb (λb=>?_) (λb=>?_)
   .have b3:=h.ext V.1;simp only[push_cast,V.2.ld0,b3.blk.ld2];refine level_spec b3.tr be.2.1 be.2.2 λw9 ad=>?_;refine oZ ?_;refine b0 b6 _ _ ⟨dn++[U],v8,by simp[b8],?_,keep V (S:=λ_=>False) ad (λ_ h=>h.elim),ai.ext ad,a8.ext ad,aw.ext ad,aj⟩;rw[ah,X0 ((af U aq).1 b),gE,maxL_snoc _ ([U].map (lvM s.put (yq s.why))) (lvM s.put (yq s.why) U) rfl];simp only[Gg,Value.int.injEq,k5,Gh];show(max _ ((lvM s.put (yq s.why) U:Nat):Int))=_;omega
   .refine b0 b6 _ _ ⟨dn++[U],v8,by simp[b8],?_,V,ai,a8,aw,aj⟩;rw[ah,y3 λe=>b ((af U aq).2 e),gK]
end
section
variable {w:World} {Fr:oA} {many:Nat}
theorem TrailR.reframe {a:oA} {bt:Nat} {put:oI} {ds:List Bool} {vp vpl vl:Value} (h:TrailR Fr w bt many put ds vp vpl vl) (b:∀x,Za bt vp vpl vl x->¬a x):TrailR a w bt many put ds vp vpl vl:=by
 obtain⟨hs,_⟩:=sep4.1 h.sep;exact⟨h.blk,h.rp,h.rpl,h.rl,sep4.2 ⟨hs,λx e=>b x (.inl (V1 e).symm),λx e=>b x (.inr (.inl e)),λx e=>b x (.inr (.inr (.inl e))),λx e=>b x (.inr (.inr (.inr e)))⟩,h.len,h.dis,h.bnd,h.few⟩
end
section
variable {w:World} {K:oK} {F Fr:oA} {many bs:Nat} {c:Cnf} {s:Sat} {σ:SV} {N:Nat}
theorem topL_pos {put:oI} {ds:List Bool} {cl:oI}:(Z9 put ds cl≠0)↔((List.range cl.length).any λi=>decide (0<lvM put ds (cl.getD i 0)))=true:=by
 rw[ph];constructor
 .intro h;rcases jl (xs:=cl.map (lvM put ds)) with e|e
  .exact absurd e h
  .obtain⟨q,a,e⟩:=gy.1 e;obtain⟨i,hi,rfl⟩:=gq a;refine⟨i,gJ.2 hi,?_⟩;have:cl.getD i 0=cl[i]:=(by simp[y4,hi]);rw[this,V0,e];unfold Z9 at h;omega
 .rintro⟨i,hi,h⟩;rw[gJ] at hi;rw[V0] at h;have:lvM put ds (cl.getD i 0)<=Z9 put ds cl:=Z7 (Gc (getD_meS hi));omega
theorem SR.setCode (h:SR N Fr w bs many c s σ) {k:Int} (g:∀w',SR N Fr w' bs many c {s with code:=k} σ->Same (σ.foot bs) w w'->w'.heap.size=w.heap.size->K undef w'):
  zG zE (oP bs 5) (nI k) w K:=by
 refine h.blk.st rfl rfl yM rfl λw1 hs i f=>?_;have b:Same (σ.foot bs) w w1:=hs.mono λx _ e=> .inr (.inl e);have d:∀x,σ.tf x->x≠bs:=λx a e=>h.st x (.inl e) a;refine g w1 ⟨f,h.cm,h.cl.same b λx hF _ a=>h.notF a hF,h.tr.same hs λx a e=>d x a e,h.rw.same hs λx a e=>h.s1 x a e,h.rl.same hs λx a e=>h.s2 x a e,h.lsl,h.ll.same b λx hF _ a=>h.notF a hF,h.s1,h.s2,h.s3,h.st,h.sf⟩ b i
def StepTo (N:Nat) (Fr:oA) (w:World) (bs many:Nat) (c:Cnf) (s':Sat) (σ:SV) (w':World):Prop:=
 ∃Fr' σ',SR N Fr' w' bs many c s' σ'/\Same (σ.foot bs) w w'/\(∀b,σ'.foot bs b->σ.foot bs b\/w.heap.size<=b)/\(∀b,Fr' b->Fr b\/w.heap.size<=b)/\(∀b,Fr' b->b<w'.heap.size)
theorem StepTo.trans {s2:Sat} {w1 w2:World} {d:oA} {g:SV} (a2:Same (σ.foot bs) w w1) (a3:∀b,g.foot bs b->σ.foot bs b\/w.heap.size<=b) (a4:∀b,d b->Fr b\/w.heap.size<=b) (i:StepTo N d w1 bs many c s2 g w2):StepTo N Fr w bs many c s2 σ w2:=by
 obtain⟨F2,l,b1,b2,b3,b4,h⟩:=i;have k:=a2.size;refine⟨F2,l,b1,⟨b2.os.trans a2.os,b2.tape.trans a2.tape,b2.output.trans a2.output,gY k b2.size,λb a f=>?_⟩,λb a=>?_,λb a=>?_,h⟩
 .rw[b2.block b oM λj=>?_,a2.block b a f];rcases a3 b j with e|e
  .exact f e
  .omega
 .rcases b3 b a with e|e
  .exact a3 b e
  .exact .inr oM
 .rcases b4 b a with e|e
  .exact a4 b e
  .exact .inr oM
theorem StepTo.refl (h:SR N Fr w bs many c s σ) (hF:∀b,Fr b->b<w.heap.size):StepTo N Fr w bs many c s σ w:=⟨Fr,σ,h,Same.refl _ _,λ_ h=> .inl h,λ_ h=> .inl h,hF⟩
theorem StepTo.ext {w1 w':World} (h:StepTo N Fr w1 bs many c s σ w') (he:Ext w w1):StepTo N Fr w bs many c s σ w':=by
 obtain⟨d,f,e,a2,a3,a4,a5⟩:=h;have g:=he.size;exact⟨d,f,e,(Same.of_ext he).trans a2,λb a=>(a3 b a).imp id λh=>oM,λb a=>(a4 b a).imp id λh=>oM,a5⟩
theorem resolve_spec {v:Value} {k:Nat} (h:SR N Fr w bs many c s σ) (t:satOk many c s) (M:c.many=many) (hk:k<c.list.length+s.learned.length) (d:Ints F w v (atM c s k)) (hc:j3 s.put (atM c s k)) (q:∀b,Fr b->b<w.heap.size)
  (hK:∀w',StepTo N Fr w bs many c (jw many c s (atM c s k)) σ w'->K (.tuple #[]) w'):
  vcall Y5 #[oP bs 0,v] w K:=by
 refine ze {} Tryz.func294 ?_;obtain⟨af,ap⟩:=satOk.many' t M;have ak:=t.few;have aq:=t.mks;refine yj λp w1 hp O ar a8=>?_;have G:Blk w1 p [oP bs 0] yR:=a8;refine oZ ?_;have bounds:∀x,x∈atM c s k->x.natAbs<=many/\placeOf s.put x.natAbs≠0:=λx d=>⟨(t.lit M hk d).2,(hc x d).2⟩;refine jx (p:=λi=>decide (0<lvM s.put (yq s.why) ((atM c s k).getD i 0))) (d.ext O) (λi hi w' K' he a7=>?_) λw2 Z=>?_
 .rw[K3] at hi;rw[V5 hi];obtain⟨b1,b2⟩:=bounds _ (getD_meS hi);exact resolve_1_spec (h.ext (O.trans he)) (G.ext he) b1 b2 λw'' Y=>a7 w'' Y
 have A:=O.trans Z;have I:=h.ext A;have L:=G.ext Z;rw[K3];refine oZ ?_;refine zm (λa=>?_) (λa=>?_)
 ·
  have g:Z9 s.put (yq s.why) (atM c s k)=0:=GK λai=>by
   have:=topL_pos.1 ai;rw[this] at a;cases a
  simp only[push_cast,L.ld0];refine I.setCode λw3 h3 R a4=>hK w3 ⟨Fr,σ,?_,(Same.of_ext A).trans R,λb l=> .inl l,λb l=> .inl l,λb l=>?_⟩
  .unfold jw;rw[X0 g];exact h3
  .have:=q b l;have:=A.size;omega
 have g:Z9 s.put (yq s.why) (atM c s k)≠0:=topL_pos.2 (by simpa using a);have ae:=I.lists;have al:=I.lsl;simp only[push_cast,L.ld0,I.blk.ld4,ae.len];refine zb (λb=>?_) (λb=>?_)
 .refine I.setCode λw3 h3 R a4=>hK w3 ⟨Fr,σ,?_,(Same.of_ext A).trans R,λb l=> .inl l,λb l=> .inl l,λb l=>?_⟩
  .unfold jw;rw[y3 g,X0 oM];exact h3
  .have:=q b l;have:=A.size;omega
 refine learn_spec I t M hk (d.ext A) hc g (λb l=>by have:=q b l;have:=A.size;omega) λw3 v3 B aj ag=>?_;have E3:=A.trans B;have a4:=B.size;have au:=A.size;refine oZ ?_;refine zd λw4 r _=>?_;have h4:=I.ext (B.trans r);have U:=(L.ext B).ext r;have a2:=aj.ext r;have av:=r.size;simp only[push_cast,U.ld0,h4.blk.ld4,k5];refine zB kf qq Xg rfl a2.ints.cells1 λb5 T ao C aw a5=>?_;have J:=h4.ext C;have V:=U.ext C;have S:=a2.ext C;simp only[push_cast,V.ld0,J.blk.ld4,k5,gi];refine OwnV.app1 J.rl jC a5 S.ints.one oM oM λE w6 Q y ah=>?_;have a1:∀x,σ.foot bs x->x≠p:=λx d e=>by have:=h.lt d;omega
 have W:=V.same y λe=>a1 p (.inr (.inr (.inr e))) rfl;have X:=J.blk.same y λe=>h.s2 _ e rfl;have aa:Same (σ.foot bs) T w6:=y.mono λx _ e=> .inr (.inr (.inr e));simp only[push_cast,W.ld0,k5];have j:∀x,v3.ownBlock=some x->w.heap.size<=x/\x<T.heap.size:=λx d=>⟨by have:=ag x d;omega,S.lt d⟩;have u:∀x,E.ownBlock=some x->σ.vr.ownBlock=some x\/T.heap.size<=x:=ah;refine X.st Q.vals.cells1 Q.vals.one jy rfl λw7 D ay a6=>?_;have f:Same (σ.foot bs) T w7:=aa.trans (D.mono λx _ e=> .inr (.inl e));have H:Same (λx=>x=bs\/σ.vr.ownBlock=some x) T w7:=(y.mono λx _ e=> .inr e).trans (D.mono λx _ e=> .inl e);have a9:=W.same D λe=>a1 bs (.inr (.inl rfl)) e.symm;have ax:=y.size;have a3:∀x,E.ownBlock=some x->x≠bs:=λx d e=>by
  rcases u x d with m|m
  .exact h.s2 x m e
  .have:=h.lt (.inr (.inl (rfl:bs=bs)));omega
 have ac:SR N (λb=>Fr b\/v3.ownBlock=some b) w7 bs many c {s with learned:=s.learned++[learnM many c s s.put.length (atM c s k)]} {σ with vr:=E,ls:=σ.ls++[v3]}:=by
  have fr:∀{x},σ.foot bs x->¬(Fr x\/v3.ownBlock=some x):=λ{x} d e=>by
   rcases e with e|e
   .exact h.notF d e
   .have:=h.lt d;have:=(j x e).1;omega
  refine⟨a6,h.cm,(J.cl.same f λx hF _ d=>h.notF d hF).weaken λx d _=> .inl d,?_,?_,?_,by simp[h.lsl],?_,h.s1,a3,?_,?_,?_⟩
  .refine(J.tr.same H λx d e=>?_).reframe λx d=>fr (.inl d);rcases e with e|e
   .exact h.st x (.inl e) d
   .exact h.st x (.inr (.inr e)) d
  .refine J.rw.same H λx d e=>?_;rcases e with e|e
   .exact h.s1 x d e
   .exact h.s3 x d e
  .exact Q.same D λx d e=>a3 x d e
  .refine RowsR.snoc ((J.ll.same f λx hF _ d=>h.notF d hF).weaken λx d _ _=> .inl d) h.lsl (S.same f λx d hf=>?_) (λx d=>⟨.inr d,?_⟩) λi x hi d e=>?_
   .have:=h.lt hf;have:=(j x d).1;omega
   .have:=h.ll.nle;have:=(j x d).1;omega
   .have:=(h.ll.own i hi).lt d;have:=(j x e).1;omega
  .intro x d e;rcases u x e with m|m
   .exact h.s3 x d m
   .have:=h.lt (.inr (.inr (.inl d)));omega
  .rintro x (e|e|e) ht
   .exact h.st x (.inl e) ht
   .exact h.st x (.inr (.inl e)) ht
   .rcases u x e with m|m
    .exact h.st x (.inr (.inr m)) ht
    .have:=h.lt (.inl ht);omega
  .rintro x (e|e|e) hF
   .exact fr (.inr (.inl e)) hF
   .exact fr (.inr (.inr (.inl e))) hF
   .rcases u x e with m|m
    .exact fr (.inr (.inr (.inr m))) hF
    .rcases hF with hF|hF
     .have:=q x hF;omega
     .have:=(j x hF).2;omega
 simp only[push_cast,a9.ld0];have an:=f.size;refine goBack_spec ac λσ8 w8 n hn ab z ad=>?_;subst hn;have a0:∀x,(SV.foot {σ with vr:=E,ls:=σ.ls++[v3]} bs) x->σ.foot bs x\/T.heap.size<=x:=by
  rintro x (e|e|e|e)
  .exact .inl (.inl e)
  .exact .inl (.inr (.inl e))
  .exact .inl (.inr (.inr (.inl e)))
  .exact(u x e).imp (λe=> .inr (.inr (.inr e))) id
 have az:=z.size;refine hK w8 ⟨λb=>Fr b\/v3.ownBlock=some b,σ8,?_,?_,λx d=>?_,λx d=>?_,λx d=>?_⟩
 .unfold jw;rw[y3 g,y3 oM];exact ab
 .have o:Ext w T:=E3.trans (r.trans C);have am:=o.size;refine⟨(z.os.trans f.os).trans o.os,(z.tape.trans f.tape).trans o.tape,(z.output.trans f.output).trans o.output,oM,λx d hn=>?_⟩;rw[z.block x oM λhf=>?_,f.block x oM hn,o.block x d id];rcases a0 x hf with e|e
  .exact hn e
  .omega
 .rcases a0 x (ad x d) with e|e
  .exact .inl e
  .exact .inr oM
 .rcases d with e|e
  .exact .inl e
  .exact .inr (j x e).1
 .rcases d with e|e
  .have:=q x e;omega
  .have:=(j x e).2;omega
theorem neg_ne {n:Nat} (h:1<=n): -(n:Int)≠0:=oM
theorem satOk.bnd (h:satOk many c s) (b:c.many=many) {cl:oI} (a:cl∈c.list++s.learned) {l:Int} (d:l∈cl):l≠0/\l.natAbs<=many:=by
 have:=clauseOk_lit (satOk.cls h a) d;omega
theorem step_spec (h:SR N Fr w bs many c s σ) (g:satOk many c s) (r:c.many=many) (q:∀b,Fr b->b<w.heap.size)
  (o:∀w',StepTo N Fr w bs many c (stepM many c s) σ w'->K (.tuple #[]) w'):
  vcall Q9 #[oP bs 0] w K:=by
 refine ze {loops:=[(3,[5])]} Tryz.func263 ?_;obtain⟨a3,z⟩:=satOk.many' g r;have a9:=g.few;simp only[push_cast,h.blk.ld5];refine zb (λa=>o w (by unfold stepM;rw[y3 (by simpa using a)];exact StepTo.refl h q)) (λa=>?_);have O:stepM many c s=goM many c s:=X0 (by simpa using a);rw[O] at o;clear O;refine zd λw1 H _=>?_;have E:=h.ext H;simp only[push_cast,E.blk.ld1,E.blk.ld2,E.blk.ld4,k5];obtain⟨cs,ad,X,ac⟩:=E.cl;refine vbuildS_row1 (xs:=[σ.vc,σ.vr]) kM0 jy WL (λx hx=>?_) (by simp) λb2 w2 ab Y ah W=>?_
 .simp only[gj,gC,Gn] at hx;rcases hx with rfl|rfl
  .exact X.cells1
  .exact E.lists.cells1
 have E2:=H.trans Y;have B:=h.ext E2;simp only[push_cast,B.blk.ld2,k5];have J:Lists (λ_=>True) w2 σ.vr s.learned:=⟨σ.ls,B.lsl,B.lists.weaken λ_ _ _=>trivial,λi hi=>(B.ll.int hi).weaken λ_ _ _=>trivial⟩;have G:Lists (λ_=>True) w2 σ.vc c.list:=B.cl.weaken λ_ _ _=>trivial;have A:([c.list,s.learned]:List (List (oI))).flatten=c.list++s.learned:=by simp
 refine next_spec (F:=λ_=>True) (vs:=[σ.vc,σ.vr]) (lls:=[c.list,s.learned]) B.tr (Sl.weaken (W.sl1 rfl (by simp)) λ_ _ _=>trivial) rfl (λi hi=>?_) (λcl z l hl=>?_) ?_ λw3 k u x Z I=>?_
 .match i,hi with
  |0,_=>exact G
  |1,_=>exact J
  |n+2,hi=>exact absurd hi (by simp)
 .rw[A] at z;exact(satOk.bnd g r z hl).2
 .rw[A,Q1];omega
 rw[A] at I;have D:=E2.trans Z;have R:=h.ext D;have ai:=D.size;have m:∀b,Fr b->b<w3.heap.size:=λb d=>by have:=q b d;omega
 simp only[push_cast,k5];have f:goM many c s=(if 0<=k then jw many c s (atM c s k.toNat) else if 0<=u then{s with put:=s.put++[x],why:=s.why++[u]}
  else if s.put.length=many then{s with code:=1} else{s with put:=s.put++[-(ZP many s.put:Int)],why:=s.why++[-1]}):=by
  unfold goM;rw[I]
 have hlen:=g.len;have ag:=(satOk.mks g).len;rcases find_cases s.put (c.list++s.learned) with⟨i,u',x',hi,e,hc⟩|⟨hn,⟨i,x',hi,e,hu,-⟩|⟨e,-⟩⟩
 .rw[I,Gw,Gw] at e;obtain⟨rfl,rfl,rfl⟩:=e;rw[Q1] at hi;rw[X0 oM,gu] at f;refine zb (λ_=>?_) (λb=>absurd oM b);refine clause_spec R oM oM λv4 T j a6=>?_;have p:=R.ext j;refine resolve_spec p g r hi a6 hc (λb d=>by have:=m b d;have:=j.size;omega) λU y=>?_;rw[f] at o;exact o U (y.ext (D.trans j))
 .rw[I,Gw,Gw] at e;obtain⟨rfl,rfl,rfl⟩:=e;rw[Q1] at hi;rw[y3 oM,X0 oM] at f;refine zb (λb=>absurd b oM) (λ_=>zb (λ_=>?_) (λb=>absurd oM b));obtain⟨a7,a8⟩:=unit_mem hu;have d:=satOk.bnd g r (atM_mem (s:=s) hi) a7;refine assign_spec R d.1 d.2 a8 m λσ' T p L a0=>?_;rw[f] at o;refine o T (StepTo.ext ⟨Fr,σ',p,L,a0,λb d=> .inl d,λb d=>?_⟩ D);have:=m b d;have:=L.size;omega
 .rw[I,Gw,Gw] at e;obtain⟨rfl,rfl,rfl⟩:=e;rw[y3 oM,y3 oM] at f;refine zb (λb=>absurd b oM) (λ_=>zb (λb=>absurd b oM) (λ_=>?_));refine zd λT j _=>?_;have p:=R.ext j;have V:=D.trans j;have a4:Ints _ T σ.vp s.put:=p.tr.rp.ints;simp only[push_cast,p.blk.ld0,p.blk.ld2,p.tr.blk.ld0,a4.len,k5];refine zb (λb=>?_) (λb=>?_)
  .rw[X0 oM] at f;refine p.setCode λU y a5 aj=>?_;rw[f] at o;refine o U (StepTo.ext ⟨Fr,σ,y,a5,λb d=> .inl d,λb d=> .inl d,λb d=>?_⟩ V);have:=q b d;have:=V.size;omega
  .rw[y3 oM] at f;obtain⟨f1,f2,f3,f4⟩:=free_spec g.mks oM;refine vloop_up (ZP many s.put-1) (λi u w'=>u=[nI (i+1:Nat)]/\Ext w w') ⟨rfl,V⟩ ?_;rintro i _ _ U C hi ⟨rfl,S⟩ hC;have y:=h.ext S;simp only[push_cast,y.blk.ld2];refine assigned_spec y.tr oM λw6 t=>?_;rw[show((i:Int)+1).natAbs=i+1 from by omega];refine zb (λQ=>?_) (λQ=>?_)
   .have a2:i<ZP many s.put-1:=by
     refine GK λae=>?_;have:i+1=ZP many s.put:=oM;rw[this] at Q;exact Q f3
    simp(disch:=omega) only[push_cast,zk];exact hC a2 _ _ ⟨by simp,S.trans t⟩
   .have aa:i+1=ZP many s.put:=by
     refine GK λaf=>Q (f4 _ oM oM)
    have e1:IntKind.i64.wrap (0-((i:Int)+1))= -(ZP many s.put:Int):=by rw[zk oM oM];omega
    rw[e1];have h6:=y.ext t;have v:∀b,Fr b->b<w6.heap.size:=λb d=>by have:=q b d;have:=(S.trans t).size;omega
    refine assign_spec h6 (neg_ne f1) (by rw[G0,pJ];exact f2) (by rw[G0,pJ];exact f3) v λσ' w7 h7 M a1=>?_;rw[f] at o;refine o w7 (StepTo.ext ⟨Fr,σ',h7,M,a1,λb d=> .inl d,λb d=>?_⟩ (S.trans t));have:=v b d;have:=M.size;omega
end
section
variable {w:World} {K:oK} {F Fr:oA} {many bs:Nat} {c:Cnf} {s:Sat} {σ:SV} {N:Nat}
theorem run_spec {v:Value} {n:Nat} (hc:CnfR F w v c) (z:cnfOk c=true) (d:c.many=many) (hn:n<=4000)
  (X:∀Fr bs σ w',Ext w w'->SR w.heap.size Fr w' bs many c (runM many c n emptyS) σ->(∀b,σ.foot bs b->w.heap.size<=b)->(∀b,Fr b->F b\/w.heap.size<=b)->(∀b,Fr b->b<w'.heap.size)->K (oP bs 0) w'):
  vcall qc0 #[v,nI n] w K:=by
 refine ze {loops:=[(3,[13])]} Tryz.func215 ?_;obtain⟨lv,rfl,R⟩:=hc;have s:many<=700:=by
  have:=z;unfold cnfOk at this;simp only[gg,V0] at this;omega
 refine yj λb1 w1 Y J a6 G=>?_;refine zd λw2 m _=>?_;have D:Blk w2 b1 [nI c.many,lv] zq:=G.ext m;rw[D.ldAgg zF];simp only[push_cast,D.ld0,k5];rw[d];have a7:=m.size;refine newTrail_spec (Fr:=λb=>F b/\b<w.heap.size) s (λb l=>by have:=l.2;omega) λbt vp vpl vl w3 o g L=>?_;have S:=D.ext o;rw[S.ldAgg zF,d];simp only[k5];refine QF zs0 (us:=[[nI many,lv],[oP bt 0]]) rfl rfl ?_;refine⟨rfl,?_⟩;refine yj λbs A Z t a9 H=>?_;have B:Ext w A:=J.trans (m.trans (o.trans t));have a8:=o.size;have M:=g.ext t;have a0:=(R.ext B).weaken (F':=λb=>F b) λb h _=>h;have y:Lists (λb=>F b/\b<w.heap.size) A lv c.list:=(R.weaken (F':=λb=>F b/\b<w.heap.size) λb T U=>⟨T,U⟩).ext B;have N:∀x,Za bt vp vpl vl x->x<w3.heap.size:=by
  rintro x (rfl|e|e|e)
  .exact g.blk.lt
  .exact g.rp.lt e
  .exact g.rpl.lt e
  .exact g.rl.lt e
 have p:∀x,(SV.mk lv bt vp vpl vl (oN) (oN) []).f3 bs x->x=bs:=by
  rintro x (e|e|e)
  .exact e
  .cases e
  .cases e
 have I:SR w.heap.size (λb=>F b/\b<w.heap.size) A bs many c emptyS (SV.mk lv bt vp vpl vl (oN) (oN) []):=
  ⟨H,d,y,M,OwnI.nil,OwnV.nil,rfl,RowsR.nil B.size,λx j=>(by cases j),λx j=>(by cases j),λx j=>(by cases j),
   λx j ht=>by have:=p x j;have:=N x ht;omega,λx j hF=>by have:=p x j;have:=hF.2;omega⟩
 have f:∀x,(SV.mk lv bt vp vpl vl (oN) (oN) []).foot bs x->w.heap.size<=x:=by
  rintro x (e|e)
  .have:=L x e;omega
  .have:=p x e;omega
 have k:∀q,StepTo w.heap.size (λb=>F b/\b<w.heap.size) A bs many c (runM many c n emptyS) (SV.mk lv bt vp vpl vl (oN) (oN) []) q->K (oP bs 0) q:=by
  rintro q ⟨E,O,r,a2,a3,a4,a5⟩;refine X E bs O q (B.then a2 f) r (λb l=>?_) (λb l=>?_) a5
  .rcases a3 b l with e|e
   .exact f b e
   .omega
  .rcases a4 b l with e|e
   .exact .inl e.1
   .exact .inr oM
 refine vloop_up n (λi u w'=>u=[nI i]/\StepTo w.heap.size (λb=>F b/\b<w.heap.size) A bs many c (runM many c i emptyS) (SV.mk lv bt vp vpl vl (oN) (oN) []) w') ⟨rfl,StepTo.refl I λb l=>by have:=l.2;omega⟩ ?_;rintro i _ _ q C hi ⟨rfl,Q⟩ W;refine oZ ?_;refine zb (λa=>?_) (λa=>?_)
 .obtain⟨E,O,r,a2,a3,a4,a5⟩:=Q;simp only[push_cast,r.blk.ld5];refine zb (λb=>?_) (λb=>?_)
  .refine k q ⟨E,O,?_,a2,a3,a4,a5⟩;have e:n=i+(n-i):=oM;rw[e,run_add,run_stop b];exact r
  .refine step_spec r (run_ok d (empty_ok z)) d a5 λw6 V=>?_;simp(disch:=omega) only[push_cast,zk];refine W oM _ _ ⟨by simp,StepTo.trans a2 a3 a4 (by rw[run_succ];exact V)⟩
 .have:n=i:=oM;subst this;exact k q Q
theorem ZB0:Vals F w (oN) []:=(OwnV.nil (t:=0)).vals.weaken λx a _=>by cases a
theorem k80:Lists F w (oN) []:=⟨[],rfl,ZB0,λi hi=>absurd hi (by simp)⟩
theorem SatR.fields {v:Value} (h:SatR F w v s):∃p y l,v= .agg #[p,y,l,nI s.code]/\∀x,x∈[p,y,l,nI s.code]->x.oneCell'=true:=by
 obtain⟨p,y,l,rfl,c,d,ls,_,a,_⟩:=h;refine⟨p,y,l,rfl,λx b=>?_⟩;simp only[gj,gC,Gn] at b;rcases b with rfl|rfl|rfl|rfl
 .exact c.one
 .exact d.one
 .exact a.one
 .rfl
theorem CnfR.below {v:Value} (h:CnfR F w v c):CnfR (λb=>F b/\b<w.heap.size) w v c:=by
 obtain⟨lv,e,h⟩:=h;exact⟨lv,e,h.weaken λb a d=>⟨a,d⟩⟩
end
section
variable {w:World} {K:oK} {F Fr:oA} {many bs:Nat} {c:Cnf} {s:Sat} {σ:SV} {N:Nat}
def ZL (many:Nat) (put:oI):List Bool:=(List.range many).map λj=>decide (((j+1:Nat):Int)∈put)
theorem valsM_snoc {many:Nat} {put:oI} {l:Int} (a:Distinct (put++[l])) (g:l≠0):(ZL many put).set (l.natAbs-1) (decide (0<l))=ZL many (put++[l]):=by
 refine gM (by simp[ZL]) λi d f=>?_;rw[pF];simp only[ZL,Pu,pt];have b:∀x,x∈put->x.natAbs≠l.natAbs:=by
  unfold Distinct at a;rw[gE,Gu] at a;exact λx c e=>a.2.2 _ (Gc c) _ (by simp) e
 by_cases hi:l.natAbs-1=i
 .rw[X0 hi];refine decide_eq_decide.2 ⟨λh=>Gv _ (by rw[gx];omega),λh=>?_⟩;rcases gl.1 h with h|h
  .exact absurd oM (b _ h)
  .rw[gx] at h;omega
 .rw[y3 hi];refine decide_eq_decide.2 ⟨λh=>Ge _ h,λh=>?_⟩;rcases gl.1 h with h|h
  .exact h
  .rw[gx] at h;omega
theorem vals_spec (h:SR N Fr w bs many c s σ) (B:∀w' v,Ext w w'->OwnB xx w' v (ZL many s.put)->(∀x,v.ownBlock=some x->w.heap.size<=x)->K v w'):vcall Q8 #[oP bs 0] w K:=by
 refine ze {loops:=[(3,[20])]} Tryz.func217 ?_;have E:=h.tr.few;have z:=h.tr.few';simp only[push_cast,h.blk.ld0];refine vmkS_own (bs:=1) UO K7 qO0 rfl oM oM λv1 w1 t e f=>?_;have m:=h.ext e;have o:Ints _ w1 σ.vp s.put:=m.tr.rp.ints;simp only[push_cast,m.blk.ld2,m.tr.blk.ld0,o.len];have r:OwnB xx w1 v1 (ZL many []):=by
  have:ZL many []=List.replicate many false:=gM (by simp[ZL]) λi a b=>(by simp[ZL]);rw[this];unfold OwnB;rw[GO];exact t
 refine vloop_up s.put.length (λi u w'=>u=[nI i]/\Ext w w'/\OwnB xx w' v1 (ZL many (s.put.take i))) ⟨rfl,e,r⟩ ?_;rintro i _ _ w2 C hi ⟨rfl,he,l⟩ A;refine oZ ?_;refine zb (λa=>?_) (λa=>?_)
 .have g:Ints _ w2 σ.vp s.put:=(h.ext he).tr.rp.ints;simp(disch:=exact oS) only[push_cast,g.iaddr,g.load];have D:=h.tr.bnd _ (getD_meS (show i<s.put.length by omega));have G:(ZL many (s.put.take i)).length=many:=(by simp[ZL]);refine variable_spec oM oM ?_;obtain⟨q,F⟩:∃q,(s.put.getD i 0).natAbs=q+1:=⟨(s.put.getD i 0).natAbs-1,oM⟩;rw[F,show(((q+1:Nat):Int))=(q:Int)+1 from rfl];have n:=l.bools;simp(disch:=exact oS) only[Yw,Int.add_sub_cancel,push_cast,zk,n.iaddr];refine l.st xn0 oM λJ k p I=>?_;have j:(ZL many (s.put.take i)).set q (decide (0<s.put.getD i 0))=ZL many (s.put.take (i+1)):=by
   have y:=distinct_take h.tr.dis (i+1);rw[Ki (d:=0) oM] at y⊢;rw[<-valsM_snoc y D.1,show q=(s.put.getD i 0).natAbs-1 from by omega]
  rw[j] at k;exact A oM _ _ ⟨by simp,Ext.then he p λx H=>by have:=f x H;omega,k⟩
 .rw[gD oM] at l;exact B w2 v1 he l f
end
end Go.Proofs.YtfnpmncplaibiaaGreatDoor
namespace Go.Vc
open Go Go.M
section
variable {w w':World} {K:oK} {F:oA} {k:Nat} {v tv dv:Value} {xs:List (List Value)} {t:TypeId} {ts:List Tm} {ds:List Dcl}
theorem Sl.mid (h:Sl F w k v xs) (z:elB t k=true) {a b:Nat} (r:a<=b) (q:b<=xs.length):
  ∃v1,(∀(n p:IntKind) (w':World) (K:oK),xy t v (some (.int n a)) (some (.int p b)) none w' K=K v1 w')/\Sl F w k v1 ((xs.drop a).take (b-a)):=by
 obtain⟨hu,hs⟩:=Xe z;obtain⟨o,c,rfl,B,s,d⟩:=h.shape;refine⟨sliced o a b c k,λn p w' K=>y9 ?_,?_⟩
 .rw[run_sliceAt_slice w' t _ _ _ _ hu,run_slice_lh w' t _ _ _ hu n p a b oM oM oM,Go.Vc.run_sizeOf hs];simp[Result.andThen]
 .have f:((xs.drop a).take (b-a)).length=b-a:=by rw[gh,pk];omega
  refine⟨⟨_,c-a,by rw[f];rfl,by rw[f];omega,oM,λm=>?_⟩,λx A=>h.wide x (GY (gU A))⟩;have y:a<b:=Nat.lt_of_not_le λe=>m (gL (by rw[f];omega));obtain⟨g,j,rfl,hF,u,l⟩:=d (λe=>by rw[e] at q;simp at q;omega);rw[y3 oM];refine⟨g,j+a*k,by simp[yw],hF,u,λi hi=>?_⟩;rw[f] at hi;have:=l (a+i) oM;have e:((xs.drop a).take (b-a)).getD i []=xs.getD (a+i) []:=by
   rw[take_getD hi,y4,Pd,<-y4]
  rw[e,show j+a*k+i*k=j+(a+i)*k by rw[pa];omega];exact this
theorem DclsR.cellsV (h:DclsR F w dv ds):dv.cells= #[dv]:=by
 obtain⟨a,c,rfl,_⟩:=h.shape;rfl
theorem TmsR.one (h:TmsR F w tv ts):tv.oneCell'=true:=by
 obtain⟨_,h,_⟩:=h;obtain⟨a,c,rfl,_⟩:=h.shape;rfl
theorem TmsR.cellsV (h:TmsR F w tv ts):tv.cells= #[tv]:=by
 obtain⟨_,h,_⟩:=h;obtain⟨a,c,rfl,_⟩:=h.shape;rfl
end
end Go.Vc
namespace Go.M
open Go.Vc
abbrev Lay:=List Dcl×List Tm
end Go.M
namespace Go.Proofs.YtfnpmncplaibiaaGreatDoor
open Go Go.Vc Go.Proofs
section
variable {w w':World} {K:oK} {F F' F2 H H2 S:oA} {k:Nat} {v uv tv:Value} {t:TypeId} {ts us:List M.Tm}
def LstH (H:oA) (w:World) (tv:Value) (ts:List M.Tm):Prop:= ∃css,Own 0 5 zl w tv css/\css.length=ts.length/\∀i,i<ts.length->TmR H w (css.getD i []) (ts.getD i default)
theorem LstH.nil:LstH H w (oN) []:=⟨[],Own.nil 0 5 _ w,rfl,λi hi=>absurd hi (pA _)⟩
theorem LstH.lt (h:LstH H w tv ts) {b:Nat} (a:tv.ownBlock=some b):b<w.heap.size:=by obtain⟨_,c,_⟩:=h;exact(c.lt a).2
theorem LstH.same (h:LstH H w tv ts) (hw:Same S w w') (b:∀x,tv.ownBlock=some x->¬S x) (c:∀x,H x->x<w.heap.size->¬S x):LstH H w' tv ts:=by
 obtain⟨css,e,d,hi⟩:=h;exact⟨css,e.same hw b,d,λi a=>(hi i a).same hw c⟩
theorem LstH.ext (h:LstH H w tv ts) (hw:Ext w w'):LstH H w' tv ts:=h.same hw (λ_ _ h=>h) λ_ _ _ h=>h
theorem LstH.weaken (h:LstH H w tv ts) (c:∀b,H b->b<w.heap.size->F b):LstH F w tv ts:=by
 obtain⟨css,e,d,hi⟩:=h;exact⟨css,e,d,λi a=>(hi i a).weaken c⟩
theorem LstH.tms (h:LstH H w tv ts):TmsR (λx=>H x\/tv.ownBlock=some x) w tv ts:=by
 obtain⟨css,d,c,hi⟩:=h;exact⟨css,d.sl.weaken λx b _=> .inr b,c,λi a=>(hi i a).weaken λx b _=> .inl b⟩
theorem Vo {α:Type} {l r:List α} {i:Nat} {e:α} (h:l.length<=i):(l++r).getD i e=r.getD (i-l.length) e:=by
 rw[y4,GA h,<-y4]
theorem LstH.app {ty:Nat} {c:List (List Value)} (h:LstH H w tv ts) (o:∀x,tv.ownBlock=some x->¬H x/\¬H2 x) (hu:Sl F2 w 5 uv c) (j:c.length=us.length) (g:∀i,i<us.length->TmR H2 w (c.getD i []) (us.getD i default))
  (r:ts.length+us.length<=1000000000)
  (p:∀w' b,Same (λx=>tv.ownBlock=some x) w w'->(∀x,b.ownBlock=some x->tv.ownBlock=some x\/w.heap.size<=x)->LstH (λx=>(H x\/H2 x)/\x<w.heap.size) w' b (ts++us)->K b w'):
  vbi .append [zl,zl] ty [tv,uv] w K:=by
 obtain⟨css,q,f,hi⟩:=h;refine vappend qE dC q hu (one_tms j g) (Gf _) oM oM λb w2 m d l=>p w2 b d l ⟨css++c,m,by simp[f,j],λi k=>?_⟩;rw[Q1] at k;by_cases n:i<ts.length
 .rw[M.app_getD oM,M.app_getD n];exact((hi i n).weaken (F':=λx=>(H x\/H2 x)/\x<w.heap.size/\H x) λx a f=>⟨.inl a,f,a⟩).same d (λx a _ e=>(o x e).1 a.2.2)|>.weaken λx a _=>⟨a.1,a.2.1⟩
 .rw[Vo oM,Vo oM,f];exact((g _ oM).weaken (F':=λx=>(H x\/H2 x)/\x<w.heap.size/\H2 x) λx a f=>⟨.inr a,f,a⟩).same d (λx a _ e=>(o x e).2 a.2.2)|>.weaken λx a _=>⟨a.1,a.2.1⟩
theorem LstH.push {ty:Nat} {t:M.Tm} (h:LstH H w tv ts) (m:∀x,tv.ownBlock=some x->¬H x/\¬H2 x) (q:TermR H2 w uv t) (p:ts.length<=2000000)
  (o:∀w' a,Same (λx=>tv.ownBlock=some x) w w'->(∀x,a.ownBlock=some x->tv.ownBlock=some x\/w.heap.size<=x)->LstH (λx=>(H x\/H2 x)/\x<w.heap.size) w' a (ts++[t])->K a w'):
  vbuildS zl 1 [(0,uv)] w λs w1=>vbi .append [zl,zl] ty [tv,s] w1 K:=by
 obtain⟨cs,rfl,f⟩:=q.cells;refine qJ qC j8 zr rfl (zV f) dC λb w1 u d r g=>?_;have v:=d.size;refine LstH.app (H2:=λx=>H2 x/\x<w.heap.size) (us:=[t]) ((h.weaken (F:=λx=>H x/\x<w.heap.size) λx c j=>⟨c,j⟩).ext d) (λx c=>⟨λe=>(m x c).1 e.1,λe=>(m x c).2 e.1⟩) (g.sl1k (zV f)) rfl (λi hi=>?_) (by simp;omega) λw2 a l k n=>?_
 .have:i=0:=(by simpa using hi);subst this;exact(f.weaken λx c j=>⟨c,j⟩).ext d
 .refine o w2 a ((Same.of_ext d).trans l) (λx c=>(k x c).imp id λh=>oM) (n.weaken λx c _=>?_);rcases c.1 with h|h
  .exact⟨.inl h.1,h.2⟩
  .exact⟨.inr h.1,h.2⟩
end
section
variable {b:Nat} {c:List M.Lay}
theorem two_one {a b:Value} (d:a.oneCell'=true) (e:b.oneCell'=true):∀x,x∈[a,b]->x.oneCell'=true:=λx c=>by
 simp only[gj,gC,Gn] at c;rcases c with rfl|rfl<;>assumption
end
section
variable {w w' w1 w2:World} {K:oK} {F D G H S:oA} {n b k p many:Nat} {v lv tv dv nv ev x3 x4 x5 f:Value} {t:M.Tm} {ts:List M.Tm} {ds:List M.Dcl} {c:M.Cnf} {ar ab at_ an am:Addr}
theorem ZE0 {o:Nat} {cs cs':List Value} {t0 t:TypeId} (h:Blk w b cs t0) (e:o+cs'.length<=cs.length) (g:aggB t cs'.length=true) (a:∀v,v∈cs'->v.oneCell'=true)
  (c:∀w',Same (· =b) w w'->w'.heap.size=w.heap.size->Blk w' b (cs.take o++cs'++cs.drop (o+cs'.length)) t0->K undef w'):zG t (oP b o) (.agg ⟨cs'⟩) w K:=by
 have f:=run_storeCells_at (P:=P) b o t0 cs' 0 ⟨cs⟩ w h (by simpa using e) a;refine⟨(),_,?_,c (w.setRow b (cs.take o++cs'++cs.drop (o+cs'.length)).toArray) ⟨rfl,rfl,rfl,by simp,λk _ d=>setRow_other w b k _ d⟩ (by simp) (setRow_heap w b _ _ t0 _ h)⟩;simp only[Instr.storeAt,Instr.sureAddr,Sem.run_bind,Sem.run_pure,Result.andThen_ok,storeVar,jj g,Value.cells];simp only[pb,z0c,not_true_eq_false,if_false];exact f
theorem jobFold_spec (r:Blk w b [dv,tv,nv,x3,x4,x5] zW) (hd:DclsR F w dv ds) (N:TmsR F w tv ts) (a6:∀x,F x->x≠b) (hs:ts.length<=2000000) (Z:Sent w yG at_)
  (U:∀t,t∈ts->M.tsort ds t≠0->∀w',Ext w w'->K (erv at_) w')
  (V:(∀t,t∈ts->M.tsort ds t=0)->∀w' L,Same (· =b) w w'->Blk w' b [dv,L,nv,x3,x4,x5] zW->TmsR (λx=>w.heap.size<=x) w' L (ts.map (J4 ds))->K .nilIface w'):
  vcall kq #[oP b 0] w K:=by
 refine ze {loops:=[(3,[3,11])]} Tryz.func150 ?_;have lb:=r.lt;simp only[push_cast,r.ld1,N.len];refine vloop_up ts.length (λi u w'=> ∃lv H,u=[lv,nI i]/\Ext w w'/\LstH H w' lv ((ts.take i).map (J4 ds))/\(∀x,H x->w.heap.size<=x)/\(∀x,lv.ownBlock=some x->w.heap.size<=x/\¬H x)/\∀j,j<i->M.tsort ds (ts.getD j default)=0)
  ⟨_,λ_=>False,rfl,Same.refl _ _,LstH.nil,λx d=>d.elim,λx d=>(by cases d),λj D=>absurd D oM⟩ ?_
 rintro i _ _ w2 C hi ⟨lv,H,rfl,c,f,hH,hO,n⟩ hC;refine oZ ?_;refine zb (λa=>?_) (λa=>?_)
 .have m:i<ts.length:=oM;have G:=N.ext c;simp(disch:=exact oS) only[push_cast,G.iaddr];refine G.load zc m λx d=>?_;obtain⟨cs,rfl,l⟩:=d.cells;have hg:aggB za cs.length=true:=by rw[zV l];exact zc
  refine zi zr λb3 w3 a7 s a3 o=>?_;refine stTerm o rfl (l.ext s) λw4 a0 a8 R=>?_;refine zd λw5 v _=>?_;have k:Ext w2 w5:=(Ext.then s a0 λy hy=>by subst hy;omega).trans v;have S:=r.ext (c.trans k);have q5:=R.ext v;simp only[push_cast,S.ld0,k5];rw[q5.ldAgg (t:=za) hg];refine⟨rfl,?_⟩;refine TermSort_spec (hd.ext (c.trans k)) (l.ext k).term λw6 z=>?_;have p:=k.trans z;have e6:=c.trans p;simp only[push_cast,k5];refine zb (λO=>?_) (λO=>?_)
  .have I:=Z.same e6 id;rw[zZ xg I.cell];exact U _ (M.getD_mem m _) O _ e6
  .refine zd λw7 A _=>?_;have g:=p.trans A;have T:=r.ext (c.trans g);have q7:=q5.ext (z.trans A);simp only[push_cast,T.ld0,k5];rw[q7.ldAgg (t:=za) hg];refine⟨rfl,?_⟩;refine TermFold_spec (hd.ext (c.trans g)) (l.ext g).term λw8 a5 B Y=>?_;have q:=g.trans B;have a9:=g.size;have z2:=c.size;have z8:=B.size;have llt:∀x,lv.ownBlock=some x->x<w2.heap.size:=λx d=>f.lt d;refine LstH.push (f.ext q) (λx d=>⟨(hO x d).2,λe=>by have:=llt x d;omega⟩) (xZ0 _ Y).term (by rw[K3,gh];omega) λw9 a4 a2 X E=>?_
   try simp only[push_cast]
   rw[inc64' oM];rw[show(ts.take i).map (J4 ds)++[J4 ds (ts.getD i default)]=(ts.take (i+1)).map (J4 ds) by rw[<-Kh m,gE];rfl] at E;refine hC m _ _ ⟨a4,_,rfl,Ext.then (c.trans q) a2 λx d=>(hO x d).1,E,λx d=>?_,λx d=>?_,λj D=>?_⟩
   .rcases d.1 with h|h
    .exact hH x h
    .have:=h.1;omega
   .rcases X x d with e|e
    .refine⟨(hO x e).1,λh=>?_⟩;have:=llt x e;rcases h.1 with h|h
     .exact(hO x e).2 h
     .have:=h.1;omega
    .exact⟨oM,λh=>by have:=h.2;omega⟩
   .by_cases e:j<i
    .exact n j e
    .have:j=i:=oM;subst this;exact PT.1 O
 .have W:i=ts.length:=oM;subst W;rw[gA] at f;have Q:=r.ext c;refine Q.st (i:=1) f.tms.cellsV f.tms.one xM rfl λw3 J a3 o=>?_;refine V (λt N=>?_) w3 lv ((Same.of_ext c).trans J) o ?_
  .obtain⟨j,D,rfl⟩:=gq N;have:=n j D;rwa[y4,gd D] at this
  .exact(f.tms.same J λx d _ e=>by
    have:w.heap.size<=x:=d.elim (hH x) λh=>(hO x h).1;omega).weaken λx d _=>d.elim (hH x) λh=>(hO x h).1
theorem jobBlast_spec (z:Blk w b [dv,tv,nv,x3,x4,x5] zW) (I:DclsR F w dv ds) (M:TmsR G w tv ts) (he:Errs (λ_=>False) w ar ab) (D:Sent w yG at_)
  (O:∀w' lv ls,Same (· =b) w w'->Blk w' b [dv,tv,nv,nI (cnfE ds ts).1.many,lv,x5] zW->CnfO w.heap.size w' lv ls (cnfE ds ts).1->K (errV ar at_ (cnfE ds ts).2) w'):vcall jz #[oP b 0] w K:=by
 refine ze {cuts:=[(8194,[3,4])]} Tryz.func151 ?_;have lb:=z.lt;refine zp (λu w'=> ∃b3 lv ls,u=[oP b3 0,errV ar at_ (cnfE ds ts).2]/\Ext w w'/\w.heap.size<=b3/\Blk w' b3 [nI (cnfE ds ts).1.many,lv] zq/\CnfO w.heap.size w' lv ls (cnfE ds ts).1) (λJ H=>?_) ?_
 .refine zd λw1 c _=>?_;have k:=z.ext c;have V:=c.size;have j:=D.same c id;have i:=he.ext0 c;simp only[push_cast,k.ld0,k.ld1,k5,Gh];refine⟨?_,?_⟩
  .refine blastCnf_spec (I.ext c) (M.ext c) i j λw2 lv ls g f=>?_;have z2:=g.size;simp only[push_cast,k5,Gh];refine zi xr λb3 E m a s d=>?_;have C:=f.ext a
   try simp only[push_cast,k5,Gh,gi]
   refine d.stAgg (cs':=[nI (cnfE ds ts).1.many,lv]) rfl zF (two_one rfl C.lst.vals.one) λT q R A=>?_
   try simp only[push_cast,k5,Gh,gi]
   refine H _ _ ⟨b3,lv,ls,rfl,Ext.then ((c.trans g).trans a) q λy Q=>oM,oM,A,(f.same ((Same.of_ext a).trans q) λx N L e=>oM).down oM⟩
  .refine zi xr λb3 E m a s d=>?_;have h:=k.ext a;have v:=c.trans a;have z3:=a.size;simp only[push_cast,h.ld0,h.ld1,k5,gi];refine blastCnf_spec (I.ext v) (M.ext v) (i.ext0 a) (j.same a id) λT lv ls n l=>?_;simp only[push_cast,k5,Gh];refine(d.ext n).stAgg (cs':=[nI (cnfE ds ts).1.many,lv]) rfl zF (two_one rfl l.lst.vals.one) λU r S B=>?_
   try simp only[push_cast,k5,Gh,gi]
   exact H _ _ ⟨b3,lv,ls,rfl,Ext.then (v.trans n) r λy Q=>oM,oM,B,(l.same r λx N L e=>oM).down oM⟩
 .rintro _ _ w2 ⟨b3,lv,ls,rfl,g,m,d,f⟩;refine oZ ?_;rw[d.ldAgg (t:=zq) zF]
  try simp only[push_cast]
  refine ZE0 (o:=3) (z.ext g) (by simp) zF (two_one rfl f.lst.vals.one) λE p s d=>?_;exact O E lv ls ((Same.of_ext g).trans p) d (f.same p λx N L e=>oM)
theorem vals_ins {put:oI} (h:1+n<=many):((ZL many put).drop 1).take n=M.insV (M.wayM put) n:=by
 refine gM (by simp[ZL,M.insV];omega) λi a b=>?_;simp[ZL,M.insV,M.wayM,Nat.add_comm 1 i,Pw];rw[show(i:Int)+1+1=i+2 by omega]
theorem jobSearch_spec (g:Blk w b [dv,tv,nv,nI c.many,lv,x5] zW) (hd:DclsR F w dv ds) (a1:∀x,F x->x≠b) (l:M.declOk ds=true) (hc:CnfR G w (.agg #[nI c.many,lv]) c) (u:M.cnfOk c=true) (hn:1+M.nIn ds<=c.many.toNat) (W:Sent w jv an) (U:Sent w qy am)
  (m:(M.searchM 4000 ds c).2=1->∀w' ev,Same (· =b) w w'->Blk w' b [dv,tv,nv,nI c.many,lv,ev] zW->OwnI zh w' ev (M.searchM 4000 ds c).1->(∀x,ev.ownBlock=some x->w.heap.size<=x)->K .nilIface w')
  (o:M.searchM 4000 ds c=([],2)->∀w',Ext w w'->K (erv an) w') (p:M.searchM 4000 ds c=([],3)->∀w',Ext w w'->K (erv am) w'):vcall je #[oP b 0] w K:=by
 refine ze {} Tryz.func153 ?_;have lb:=g.lt;obtain⟨V,a5⟩:=M.nIn_eq l;have R:zu zq (oP b 3) w=λK=>K (.agg #[nI c.many,lv]) w:=by
  funext K
  refine XP (cs:=[nI c.many,lv]) zF λi v C=>?_;rw[yw]
  match i,C with
  |0,C=>exact g.cell (by simpa using C)
  |1,C=>exact g.cell (by simpa using C)
 simp only[push_cast];rw[R];have a3:0<=c.many:=oM
 refine run_spec (many:=c.many.toNat) (n:=4000) hc u oM (gr _) λFr bs σ w2 f h _ _ _=>?_;have a0:=g.ext f;have z2:=f.size;simp only[push_cast,h.blk.ld5];have d:M.searchM 4000 ds c=if(M.runM c.many.toNat c 4000 M.emptyS).code=1 then(M.envB ds (M.insV (M.wayM (M.runM c.many.toNat c 4000 M.emptyS).put) (M.nIn ds)),1) else if(M.runM c.many.toNat c 4000 M.emptyS).code=2 then([],2) else([],3):=rfl
 generalize M.searchM 4000 ds c=sr at d m o p;generalize hs:M.runM c.many.toNat c 4000 M.emptyS=s at h d;refine zb (λa=>?_) (λa=>?_)
 .rw[X0 a] at d;refine zd λw3 z _=>?_;have e3:=f.trans z;have J:=g.ext e3;simp only[push_cast,J.ld0,k5];refine vals_spec (h.ext z) λw4 vv S X a4=>?_;have I:=e3.trans S;have L:=g.ext I;simp only[push_cast,L.ld0,k5,gi];refine bitsOf_spec (hd.ext I) l λw5 A=>?_;have H:=I.trans A;have N:=g.ext H;simp only[push_cast,N.ld0,k5,gi];rw[zk oM oM,<-V,show(1:Int)+(M.nIn ds:Int)=((1+M.nIn ds:Nat):Int) by omega];obtain⟨v6,y,Y⟩:=Sl.mid (X.ext A).bools (t:=xx) (k:=1) xi0 (a:=1) (b:=1+M.nIn ds) oM (by simp[ZL];omega);rw[show(1:Int)=((1:Nat):Int) from rfl,y]
  try simp only[push_cast,k5]
  have D:Bools (λx=>vv.ownBlock=some x) w5 v6 (M.insV (M.wayM s.put) (M.nIn ds)):=by
   have q:=Y;rw[show 1+M.nIn ds-1=M.nIn ds by omega,<-p4,<-GG,<-p4,<-GG,vals_ins hn] at q;exact q
  refine BlastEnv_spec (hd.ext H) D l (by rw[M.insV_len]) λw7 r T j B=>?_;have e7:=H.trans T;have O:=g.ext e7
  try simp only[push_cast,k5]
  refine O.st (i:=5) j.ints.cells1 j.ints.one qq rfl λw8 E a6 Q=>?_;have z5:=H.size;subst d;exact m rfl w8 r ((Same.of_ext e7).trans E) Q (j.same E λx Z e=>by have:=B x Z;omega) λx Z=>by have:=B x Z;omega
 .rw[y3 a] at d;refine zb (λa2=>?_) (λa2=>?_)
  .rw[X0 a2] at d;rw[zZ xg (W.same f id).cell];exact o d w2 f
  .rw[y3 a2] at d;rw[zZ xg (U.same f id).cell];exact p d w2 f
end
section
variable {w w' w1:World} {K:oK} {n b k p:Nat} {f:Value} {xs:List Nat} {t:M.Tm} {us:List M.Tm} {ds:List M.Dcl} {c:M.Cnf} {ar ab at_ an am:Addr}
def RowA (w:World) (a:Addr):Prop:= ∃(c:Array Value) (t:TypeId),w.heap[a.block]?=some (.cells c t (0,0))
theorem RowA.ext {a:Addr} (h:RowA w a) (he:Ext w w'):RowA w' a:=by
 obtain⟨c,t,h⟩:=h;refine⟨c,t,?_⟩;rw[he.block _ (gH.1 h).1 id];exact h
structure Er (w:World) (at_ an am ar ab:Addr):Prop where
 terms:Sent w yG at_
 no:Sent w jv an
 much:Sent w qy am
 errs:Errs (λ_=>False) w ar ab
 rt:RowA w at_
 rn:RowA w an
 rm:RowA w am
 rr:RowA w ar
 d1:an≠at_
 d2:am≠at_
 d3:am≠an
 d4:ar≠at_
 d5:ar≠an
 d6:ar≠am
theorem Er.ext (h:Er w at_ an am ar ab) (he:Ext w w'):Er w' at_ an am ar ab:=
 ⟨h.terms.same he id,h.no.same he id,h.much.same he id,h.errs.ext0 he,h.rt.ext he,h.rn.ext he,h.rm.ext he,h.rr.ext he,h.d1,h.d2,h.d3,h.d4,h.d5,h.d6⟩
def errE (at_ an am ar:Addr):Nat->Value
 |0=> .nilIface
 |1=>erv ar
 |2=>erv at_
 |3=>erv an
 |_=>erv am
theorem V4 {a c:Addr} (h:a≠c) (f:RowA w a) (g:RowA w c) (e:K (.bool false) w):vcall xG #[erv a,erv c] w K:=by
 obtain⟨_,_,b⟩:=f;obtain⟨_,_,d⟩:=g;exact Z80 h b d e
theorem switch_spec {r q j X:World->Prop} (er:Er w at_ an am ar ab) (k:Nat) (l:k=0->X w) (m:k=1->j w) (n:k=2->r w) (o:k=3->q w) (p:4<=k->j w):
  zu xw (oP yG 0) w λt28 e=>vcall xG #[errE at_ an am ar k,t28] e λt29 b=>vif t29 (r b) (
   zu xw (oP jv 0) b λt32 f=>vcall xG #[errE at_ an am ar k,t32] f λt33 c=>vif t33 (q c) (
    zu xw (oP qy 0) c λt36 g=>vcall xG #[errE at_ an am ar k,t36] g λt37 a=>vif t37 (vif t37 (j a) (X a)) (
     zu xw (oP xX 0) a λt39 i=>vcall xG #[errE at_ an am ar k,t39] i λt40 d=>vif t40 (j d) (X d)))):=by
 rw[zZ xg er.terms.cell]
 match k,l,m,n,o,p with
 |0,l,_,_,_,_=>
  refine qg0 (zm (λh=>by cases h) λ_=>?_);rw[zZ xg er.no.cell];refine qg0 (zm (λh=>by cases h) λ_=>?_);rw[zZ xg er.much.cell];refine qg0 (zm (λh=>by cases h) λ_=>?_);rw[zZ xg er.errs.room.cell];exact qg0 (zm (λh=>by cases h) λ_=>l rfl)
 |1,_,m,_,_,_=>
  refine V4 er.d4 er.rr er.rt (zm (λh=>by cases h) λ_=>?_);rw[zZ xg er.no.cell];refine V4 er.d5 er.rr er.rn (zm (λh=>by cases h) λ_=>?_);rw[zZ xg er.much.cell];refine V4 er.d6 er.rr er.rm (zm (λh=>by cases h) λ_=>?_);rw[zZ xg er.errs.room.cell];exact WH (zm (λ_=>m rfl) λh=>by cases h)
 |2,_,_,n,_,_=>exact WH (zm (λ_=>n rfl) λh=>by cases h)
 |3,_,_,_,o,_=>
  refine V4 er.d1 er.rn er.rt (zm (λh=>by cases h) λ_=>?_);rw[zZ xg er.no.cell];exact WH (zm (λ_=>o rfl) λh=>by cases h)
 |k+4,_,_,_,_,p=>
  refine V4 er.d2 er.rm er.rt (zm (λh=>by cases h) λ_=>?_);rw[zZ xg er.no.cell];refine V4 er.d3 er.rm er.rn (zm (λh=>by cases h) λ_=>?_);rw[zZ xg er.much.cell];exact WH (zm (λ_=>zm (λ_=>p oM) λh=>by cases h) λh=>by cases h)
theorem Xp0 {d e f:Option Addr} {a c1 b c2 c c3:Nat}:yA zW [(0,.slice d a c1),(1,.slice e b c2),(2,.slice f c c3)] w K=K (.agg ⟨[.slice d a c1,.slice e b c2,.slice f c c3,nI 0,oN,oN]⟩) w:=
 zU qy0 (us:=[[.slice d a c1],[.slice e b c2],[.slice f c c3]]) rfl rfl
def xx0:List Value:=[.func (.func kq) #[] #[],.func (.func jz) #[] #[],.func (.func qM) #[] #[],.func (.func je) #[] #[]]
theorem stages_spec (d:∀w' b,b=w.heap.size->Ext w w'->Vals (· =b) w' (.slice (some ⟨b,0,none⟩) 4 4) xx0->K (.slice (some ⟨b,0,none⟩) 4 4) w'):vcall UB #[] w K:=by
 refine ze {} Tryz.func109 ?_;exact vbuildS_row1 (xs:=xx0) Z8 Z0 kJ (λx a=>by
  simp only[xx0,gj,gC,Gn] at a;rcases a with rfl|rfl|rfl|rfl<;>rfl) dC λb w1 e he f c=>d w1 b e he (c.sl1 rfl dC)
theorem Zv0:qY c ds []=c:=by unfold qY;simp
end
section
variable {w w' w1 w2:World} {K:oK} {F F' D G H S:oA} {N n b k p:Nat} {v lv tv dv nv ev x5 f:Value} {xs:oI} {ls:List Value} {t:M.Tm} {ts:List M.Tm} {ds:List M.Dcl} {c:M.Cnf} {nots:List (oI)} {ar ab at_ an am:Addr}
theorem CnfO.push {K:oK} (h:CnfO N w lv ls c) (n:OwnI zh w v xs) (m:∀x,v.ownBlock=some x->N<=x/\lv.ownBlock≠some x/\∀i,i<c.list.length->(ls.getD i undef).ownBlock≠some x) (C:ls.length<=100000)
  (u:∀w' g,Same (λx=>lv.ownBlock=some x) w w'->CnfO N w' g (ls++[v]) ⟨c.many,c.list++[xs]⟩->(∀x,g.ownBlock=some x->lv.ownBlock=some x\/w.heap.size<=x)->K g w'):vbuildS zn 1 [(0,v)] w λs w1=>vbi .append [zn,zn] zn [lv,s] w1 K:=by
 refine zB kf qq Xg rfl n.ints.cells1 λb3 D y b A o=>?_;have z3:=b.size;have q:=h.rows.nle;refine OwnV.app1 (h.lst.ext b) jC o n.ints.one oM oM λv4 B p f d=>?_;refine u B v4 ((Same.of_ext b).trans f) (?_:CnfO _ _ _ _ _) λx a=>(d x a).imp id λh=>oM
 refine⟨p,by rw[Q1,Q1,h.len];rfl,λx a=>?_,?_⟩
 .rcases d x a with e|e
  .exact h.dl x e
  .omega
 .have l:RowsR N (λx=>lv.ownBlock≠some x/\x<w.heap.size) w ls c.list:=h.rows.weaken λx r _ t=>⟨r,t⟩;refine RowsR.snoc (((l.ext b).same f λx a _ e=>a.1 e).weaken λx a _ _ e=>?_) h.len ((n.ext b).same f λx a e=>(m x a).2.1 e) (λx a=>⟨λe=>?_,(m x a).1⟩) λj x z a e=>(m x e).2.2 j z a
  .rcases d x e with k|k
   .exact a.1 k
   .have:=a.2;omega
  .rcases d x e with k|k
   .exact(m x a).2.1 k
   .have:=n.lt a;omega
theorem xL0 {i:Nat} (hi:i<(M.insM ds xs).length):(M.exC ds xs).take i++[if(M.insM ds xs).getD i false then-(2+(i:Int)) else 2+i]=(M.exC ds xs).take (i+1):=by
 rw[M.take_add (by unfold M.exC;rw[M.exK_len];exact hi) 0];unfold M.exC;rw[M.exK_get hi]
theorem jobExcl_spec (V:Blk w b [dv,tv,nv,nI c.many,lv,x5] zW) (hO:CnfO N w lv ls c) (af:b<N) (hd:DclsR F w dv ds) (aa:Lists F w nv nots) (hF:∀x,F x->x<b) (ab:∀e,e∈nots->M.envOk ds e=true) (hl:c.list.length+nots.length<=100000)
  (hK:∀w' k ls',Same (λx=>x=b\/N<=x) w w'->Blk w' b [dv,tv,nv,nI c.many,k,x5] zW->CnfO N w' k ls' (qY c ds nots)->K .nilIface w'):vcall qM #[oP b 0] w K:=by
 refine ze {loops:=[(2,[13]),(6,[5,24])]} Tryz.func152 ?_;have lb:=V.lt;have ac:=hO.rows.nle;obtain⟨cs,ag,H,a3⟩:=aa;simp only[push_cast,V.ld2,H.len];refine vloop_up nots.length (λi u w'=> ∃k ls',u=[nI i]/\Same (λx=>x=b\/N<=x) w w'/\Blk w' b [dv,tv,nv,nI c.many,k,x5] zW/\CnfO N w' k ls' (qY c ds (nots.take i)))
  ⟨lv,ls,rfl,Same.refl _ _,V,by rw[show qY c ds (nots.take 0)=c from Zv0];exact hO⟩ ?_
 rintro i _ _ w3 C hi ⟨S,D,rfl,g,t,d⟩ hC;refine oZ ?_;have z3:=g.size;refine zb (λa=>?_) (λa=>?_)
 .have m:i<nots.length:=oM;have o:=H.same g λx f _ e=>by have:=hF x f;omega
  have a4:=hd.same g λx f _ e=>by have:=hF x f;omega
  have a5:=(a3 i m).same g λx f _ e=>by have:=hF x f;omega
  have h:=ab _ (M.getD_mem m []);simp(disch:=exact oS) only[push_cast,o.iaddr,o.load,gu];simp only[push_cast,t.ld0];refine BlastIns_spec a4 a5 h λw4 iv l a7 ad=>?_;have z4:=l.size;have I:=a7.bools;have hlen:=M.insM_n h;obtain⟨ai,aj⟩:=M.nIn_eq (M.env_ok h).1;simp only[push_cast,I.len];generalize z:M.insM ds (nots.getD i [])=bs at*;refine vloop_up bs.length (λj u w'=> ∃r,u=[r,nI j]/\Ext w4 w'/\OwnI zh w' r ((M.exC ds (nots.getD i [])).take j)/\∀x,r.ownBlock=some x->w4.heap.size<=x)
   ⟨_,rfl,Same.refl _ _,OwnI.nil,λx f=>by cases f⟩ ?_
  rintro j _ _ w5 C1 hj ⟨r,rfl,E,B,A⟩ Y;have z5:=E.size;refine oZ ?_;refine zb (λa1=>?_) (λa1=>?_)
  .have J:j<bs.length:=oM;have p:=I.ext E;have R:=xL0 (ds:=ds) (xs:=nots.getD i []) (i:=j) (by rw[z];exact J);rw[z] at R;simp(disch:=exact oS) only[push_cast,p.iaddr,p.load,gu];have next:∀{x:Int},x=(if bs.getD j false then-(2+(j:Int)) else 2+j)->vbuildS zh 1 [(0,nI x)] w5 λs w1=>vbi .append [zh,zh] zh [r,s] w1 λt35 U=>C1 [t35,nI ((j:Int)+1)] U:=λ{x} f=>by
    refine push_int B (by rw[gh];omega) λw6 r6 n O a9=>?_;rw[f,R] at O;rw[show(j:Int)+1=((j+1:Nat):Int) by omega];refine Y J _ _ ⟨r6,rfl,Ext.then E n λy hy=>A y hy,O,λy hy=>?_⟩;rcases a9 y hy with e|e
    .exact A y e
    .omega
   refine zm (λa2=>?_) (λa0=>?_)
   .simp(disch:=omega) only[push_cast,zk];exact next (by rw[X0 a2];exact(by omega:(0:Int)-((j:Int)+2)= -(2+(j:Int))))
   .simp(disch:=omega) only[push_cast,zk];exact next (by rw[y3 (by rw[a0];decide)];exact Int.add_comm _ _)
  .have ah:j=bs.length:=oM;have ak:(M.exC ds (nots.getD i [])).length=bs.length:=by unfold M.exC;rw[M.exK_len,z]
   rw[gD oM] at B;have G:=(t.ext l).ext E;have Z:=(d.ext l).ext E;show zu zn (oP b 4) w5 _;simp(disch:=(simp only[push_cast])) only[G.ld4];have a8:D.length<=100000:=by
    rw[d.len];unfold qY;rw[Q1,K3,gh];omega
   have ae:=d.rows.nle;refine Z.push B (λx f=>?_) a8 λw6 T n v _=>?_
   .have:=A x f;exact⟨oM,λe=>by have:=d.lst.lt e;omega,λq hq e=>by have:=(d.rows.own q hq).lt e;omega⟩
   have L:∀x,S.ownBlock=some x->N<=x:=d.dl;have W:=G.same n λe=>by have:=L _ e;omega
   show zG zn (oP b 4) T w6 _;refine W.st (i:=4) v.lst.vals.cells1 v.lst.vals.one jy rfl λw7 Q al X=>?_;rw[inc64' oM];refine hC m _ _ ⟨T,D++[r],rfl,?_,X,?_⟩
   .exact g.trans (((Same.of_ext (l.trans E)).trans (n.mono λx _ f=> .inr (L x f))).trans (Q.mono λx _ f=> .inl f))
   .have e:qY c ds (nots.take (i+1))=⟨(qY c ds (nots.take i)).many,(qY c ds (nots.take i)).list++[M.exC ds (nots.getD i [])]⟩:=by
     unfold qY;rw[M.take_add m [],gE,<-gZ];rfl
    rw[e];exact v.same Q λx f _ e=>oM
 .have a6:i=nots.length:=oM;subst a6;rw[gA] at d;exact hK w3 S D g t d
def JobN (w0:World) (b N:Nat) (dv tv nv:Value) (ds:List M.Dcl) (ts:List M.Tm) (nots:List (oI)) (w:World):oA
 |0=>Blk w b [dv,tv,nv,nI 0,.slice none 0 0,.slice none 0 0] zW
 |1=>(∀t,t∈ts->M.tsort ds t=0)/\∃tv',Blk w b [dv,tv',nv,nI 0,.slice none 0 0,.slice none 0 0] zW/\TmsR (λx=>w0.heap.size<=x/\x≠b) w tv' (ts.map (J4 ds))
 |2=>all8 ds ts=true/\(cnfE ds (ts.map (M.foldT ds))).2=0/\∃tv' lv ls,Blk w b [dv,tv',nv,nI (cnfE ds (ts.map (M.foldT ds))).1.many,lv,.slice none 0 0] zW/\CnfO N w lv ls (cnfE ds (ts.map (M.foldT ds))).1
 |4=>(yE ds ts nots).2=1/\∃tv' y z ev,Blk w b [dv,tv',nv,y,z,ev] zW/\OwnI zh w ev (yE ds ts nots).1/\∀x,ev.ownBlock=some x->w0.heap.size<=x
 |_=>all8 ds ts=true/\(cnfE ds (ts.map (M.foldT ds))).2=0/\∃tv' lv ls,Blk w b [dv,tv',nv,nI (cnfE ds (ts.map (M.foldT ds))).1.many,lv,.slice none 0 0] zW/\CnfO N w lv ls (qY (cnfE ds (ts.map (M.foldT ds))).1 ds nots)
theorem Xr0 (d:DclsR F w' dv ds) (f:TmsR G w' tv ts) (e:Lists H w' nv nots):yA zW [(0,dv),(1,tv),(2,nv)] w K=K (.agg ⟨[dv,tv,nv,nI 0,oN,oN]⟩) w:=by
 obtain⟨a,c,rfl,_⟩:=d.shape;obtain⟨_,h,_⟩:=f;obtain⟨g,c',rfl,_⟩:=h.shape;obtain⟨_,_,b,_⟩:=e;obtain⟨a2,c2,rfl,_⟩:=b.shape;exact Xp0
theorem solvedN_spec (hd:DclsR F w dv ds) (T:TmsR G w tv ts) (o:Lists H w nv nots) (hs:ts.length<=2000000) (U:nots.length<=80) (Q:∀e,e∈nots->M.envOk ds e=true) (er:Er w at_ an am ar ab)
  (hK:∀w' ev,Ext w w'->OwnI zh w' ev (yE ds ts nots).1->(∀x,ev.ownBlock=some x->w.heap.size<=x)->K (.tuple #[ev,nI (yE ds ts nots).2]) w'):vcall UC #[dv,tv,nv] w K:=by
 refine ze {loops:=[(3,[19])]} Tryz.func71 ?_;rw[Xr0 hd T o];refine zj λb w1 hb W aa a1=>?_;refine stages_spec λw2 b2 a9 N J=>?_;have z1:=W.size;have z2:=N.size;have ac:b2<w2.heap.size:=by
  obtain⟨_,_,e,_,_,hc⟩:=J.shape;obtain⟨q1,q2,q3,q4,q5,_⟩:=hc (by simp[xx0]);omega
 have e2:=W.trans N;have a2:=a1.ext N;have out:∀{w':World} {k:Int},Ext w w'->yE ds ts nots=([],k)->K (.tuple #[oN,nI k]) w':=λ{w' k} he h=>by
  have:=hK w' (oN) he;rw[h] at this;exact this OwnI.nil λx s=>(by cases s)
 simp only[push_cast,J.len];rw[show xx0.length=4 from rfl];refine vloop_up 4 (λi u w'=>u=[nI i]/\Ext w w'/\Same (λx=>x=b\/b2<x) w2 w'/\JobN w b (b2+1) dv tv nv ds ts nots w' i) ⟨rfl,e2,Same.refl _ _,a2⟩ ?_;rintro i _ _ B C hi ⟨rfl,j,R,S⟩ hC;have q:=er.ext j;have A:=(hd.weaken (F':=λx=>x<w.heap.size) λx _ h=>h).ext j;have a4:=(T.weaken (F':=λx=>x<w.heap.size) λx _ h=>h).ext j;have V:=J.same R λx s _ e=>oM
 have z3:=R.size;refine oZ ?_;refine zb (λa=>?_) (λa=>?_)
 .have Y:i<4:=oM;rw[V.iaddr Zf oM (by show(i:Int)<4;omega),gu,V.load Z3 (by exact Y)];have next:∀{f:World},Same (λx=>x=b\/b2<x) B f->JobN w b (b2+1) dv tv nv ds ts nots f (i+1)->C [nI (IntKind.i64.wrap ((i:Int)+1))] f:=λ{f} d h4=>by
   rw[inc64' oM];exact hC Y _ _ ⟨rfl,Ext.then j d λy hy=>oM,R.trans d,h4⟩
  have nextb:∀{f:World},Same (· =b) B f->JobN w b (b2+1) dv tv nv ds ts nots f (i+1)->C [nI (IntKind.i64.wrap ((i:Int)+1))] f:=λ{f} d h4=>next (d.mono λx _ s=> .inl s) h4
  have I:∀{f:World},Same (· =b) B f->Ext w f:=λ{f} d=>Ext.then j d λy hy=>oM;have two:∀{f:World},Ext w f->¬all8 ds ts=true->K (.tuple #[oN,nI 4]) f:=λhe h=>out he (q00 h);rcases(by omega:i=0\/i=1\/i=2\/i=3) with rfl|rfl|rfl|rfl
  .show vcall kq #[oP b 0] B _;refine jobFold_spec (show Blk B b [dv,tv,nv,nI 0,oN,oN] zW from S) A a4 (λx s=>oM) hs q.terms (λt T h f l=>?_) λn f a8 d g a5=>?_
   .have D:=j.trans l;exact switch_spec (er.ext D) 2 (λh=>by cases h) (λh=>by cases h) (λ_=>two D λm=>h ((all8_iff.1 m).2.2 t T)) (λh=>by cases h) (λh=>oM)
   .have z3:=j.size;exact switch_spec (er.ext (I d)) 0 (λ_=>nextb d ⟨n,a8,g,a5.weaken λx s _=>⟨oM,by have:=S.lt;omega⟩⟩) (λh=>by cases h) (λh=>by cases h) (λh=>by cases h) (λh=>oM)
  .obtain⟨n,p,r,a0⟩:=S;show vcall jz #[oP b 0] B _;refine jobBlast_spec r A a0 q.errs q.terms λf lv ls d g v=>?_;have D:=I d;by_cases m:all8 ds ts=true
   .have Z:ts.map (J4 ds)=ts.map (M.foldT ds):=Gq λt T=>(WI (all8_iff.1 m).2.1 (n t T)).2;rw[Z] at g v⊢;rcases Vj (Qz m) with E|E
    .rw[E];exact switch_spec (er.ext D) 0 (λ_=>nextb d ⟨m,E,p,lv,ls,g,v.down oM⟩) (λh=>by cases h) (λh=>by cases h) (λh=>by cases h) (λh=>oM)
    .rw[E];exact switch_spec (er.ext D) 1 (λh=>by cases h) (λ_=>out D (Kj m (by rw[E];decide))) (λh=>by cases h) (λh=>by cases h) (λh=>oM)
   .have E:(cnfE ds (ts.map (J4 ds))).2=2:=by
     unfold cnfE;rw[y3 λh=>m (all8_iff.2 ⟨by have:=(all8_iff.1 h).1;rwa[K3] at this,(all8_iff.1 h).2.1,n⟩)]
    rw[E];exact switch_spec (er.ext D) 2 (λh=>by cases h) (λh=>by cases h) (λ_=>two D m) (λh=>by cases h) (λh=>oM)
  .obtain⟨m,h0,p,lv,ls,r,L⟩:=S;show vcall qM #[oP b 0] B _;have X:(cnfE ds (ts.map (M.foldT ds))).1.list.length+nots.length<=100000:=by
    have q2:=(solveR_run (nots:=nots) m h0 Q U).2.1;unfold M.cnfOk at q2;simp only[gg,V0] at q2;have q3:(qY (cnfE ds (ts.map (M.foldT ds))).1 ds nots).list.length=(cnfE ds (ts.map (M.foldT ds))).1.list.length+nots.length:=by unfold qY;rw[Q1,K3]
    omega
   refine jobExcl_spec (F:=λx=>x<w.heap.size) r L oM A ((o.weaken (F':=λx=>x<w.heap.size) λx _ h=>h).ext j) (λx s=>oM) Q X λf a7 a6 d g v=>?_;exact switch_spec (er.ext (Ext.then j d λy hy=>oM)) 0 (λ_=>next (d.mono λx _ s=>oM) ⟨m,h0,p,a7,a6,g,v⟩) (λh=>by cases h) (λh=>by cases h) (λh=>by cases h) (λh=>oM)
  .obtain⟨m,h0,p,lv,ls,r,L⟩:=S;show vcall je #[oP b 0] B _;obtain⟨q1,q2,q3⟩:=solveR_run (nots:=nots) m h0 Q U;refine jobSearch_spec (c:=qY (cnfE ds (ts.map (M.foldT ds))).1 ds nots) r A (λx s=>oM) (all8_iff.1 m).2.1 L.cnf q2 q3 q.no q.much (λh1 f ev d g O o=>?_) (λh2 f l=>?_) λh3 f l=>?_
   .exact switch_spec (er.ext (I d)) 0 (λ_=>nextb d ⟨by rw[q1];exact h1,p,_,lv,ev,g,by rw[q1];exact O,λx s=>by have:=o x s;have:=j.size;omega⟩) (λh=>by cases h) (λh=>by cases h) (λh=>by cases h) (λh=>oM)
   .exact switch_spec (er.ext (j.trans l)) 3 (λh=>by cases h) (λh=>by cases h) (λh=>by cases h) (λ_=>out (j.trans l) (by rw[q1];exact h2)) (λh=>oM)
   .exact switch_spec (er.ext (j.trans l)) 4 (λh=>by cases h) (λh=>by cases h) (λh=>by cases h) (λh=>by cases h) (λ_=>out (j.trans l) (by rw[q1];exact h3))
 .have a3:i=4:=oM;subst a3;obtain⟨h1,p,y,z,ev,hB,O,o⟩:=S;have:=hK B ev j O o;rw[h1] at this;simp only[push_cast,hB.ld5];exact this
end
end Go.Proofs.YtfnpmncplaibiaaGreatDoor
namespace Go.Proofs.YtfnpmncplaibiaaGreatDoor
open Go Go.Vc Go.Proofs Go.M
section
variable {w:World} {K:oK} {F Fr:oA} {many:Nat} {c:Cnf} {s:Sat}
theorem l4Abs_spec {x:Int} (h:x.natAbs<=9223372036854775807) (b:K (nI x.natAbs) w):vcall Jq #[nI x] w K:=by
 refine ze {} Tryz.func266 ?_;refine oZ ?_;refine zb (λa=>?_) (λa=>?_)
 .rw[zk oM oM,show 0-x=(x.natAbs:Int) from by omega];exact b
 .rwa[show(x.natAbs:Int)=x from by omega] at b
theorem l5Vals_spec {vc v:Value} {put:oI} (R:CnfR F w vc c) (A:c.many=many) (G:many<=700) (j:Ints Fr w v put) (hm:marksOk many put)
  (Q:∀w' v',Ext w w'->OwnI zh w' v' (signs many put)->(∀x,v'.ownBlock=some x->w.heap.size<=x)->K v' w'):vcall U8 #[vc,v] w K:=by
 refine ze {loops:=[(3,[6])]} Tryz.func80 ?_;obtain⟨lv,rfl,-⟩:=R;have hlen:=hm.len;refine yj λb w1 I p T O=>?_;have z:Blk w1 b [nI c.many,lv] zq:=O;simp only[push_cast,z.ld0];rw[A,zk oM oM,show((many:Int)+1)=((many+1:Nat):Int) from by omega];refine vmkS_own (bs:=8) xC qB xJ rfl oM oM λv1 w2 N B l=>?_;have y:OwnI zh w2 v1 (signs many []):=by rw[jb0];unfold OwnI;rw[GO];exact N
 have J:=p.size;refine vloop_up put.length (λi u w'=>u=[nI i]/\Ext w w'/\OwnI zh w' v1 (signs many (put.take i))) ⟨rfl,p.trans B,by simpa using y⟩ ?_;rintro i _ _ U C hi ⟨rfl,g,r⟩ H;have o:=j.ext g;have S:=signs_len many (put.take i);simp only[push_cast,o.len];refine zb (λa=>?_) (λa=>?_)
 .have h:i<put.length:=oM;simp(disch:=exact oS) only[push_cast,o.iaddr,o.load];have I:=hm.2 _ (getD_meS h);have q:=M.take_snoc' (d:=0) h;have t:=distinct_take hm.1 (i+1);have k:placeOf (put.take i) (put.getD i 0).natAbs=0:=by
   refine placeOf_zero λx j e=>?_;rw[q] at t;unfold Distinct at t;rw[gE,Gu] at t;exact t.2.2 _ (Gc j) _ (by simp) e
  have f:=signs_snoc (many:=many) I.1 k;rw[<-q] at f;have s:=r.ints;have E:IntKind.i64.wrap ((i:Int)+1)=((i+1:Nat):Int):=by rw[zk oM oM];omega
  generalize W:put.getD i 0=x at*;refine zb (λb3=>?_) (λb3=>?_)
  .simp(disch:=exact oS) only[push_cast,s.iaddr];rw[show x.toNat=x.natAbs from by omega];refine r.st yM oM λV n m D=>?_;rw[X0 b3] at f;simp only[push_cast,E];exact H h _ _ ⟨rfl,Ext.then g m λx j=>by have:=l x j;omega,by rw[f];exact n⟩
  .have L:IntKind.i64.wrap (0-x)=(x.natAbs:Int):=by rw[zk oM oM];omega
   rw[L];simp(disch:=exact oS) only[push_cast,s.iaddr];refine r.st yM oM λV n m D=>?_;rw[y3 b3] at f;simp only[push_cast,E];exact H h _ _ ⟨rfl,Ext.then g m λx j=>by have:=l x j;omega,by rw[f];exact n⟩
 .rw[gD oM] at r;exact Q U v1 g r λx j=>by have:=l x j;omega
theorem l5Sign_spec {v:Value} {put:oI} {m:Int} (b:Ints F w v (signs many put)) (hm:marksOk many put) (c:many<=700) (h:m≠0) (e:m.natAbs<=many) (d:K (nI (ZM0 put m)) w):vcall U9 #[v,nI m] w K:=by
 refine ze {} Tryz.func275 ?_;have g:=signs_len many put;refine oZ ?_;refine zb (λa=>?_) (λa=>?_)
 .simp(disch:=exact oS) only[push_cast,b.iaddr,b.load];rw[show m.toNat=m.natAbs from by omega,signs_get e,sgn_pos hm a];exact d
 .have f:IntKind.i64.wrap (0-m)=(m.natAbs:Int):=by rw[zk oM oM];omega
  rw[f];simp(disch:=exact oS) only[push_cast,b.iaddr,b.load];have:=sgnV_range put m.natAbs;rw[signs_get e,zk oM oM,Ga,sgn_neg hm oM];exact d
theorem l5Look_spec {v v':Value} {put cl:oI} (t:Ints F w v (signs many put)) (hm:marksOk many put) (g:many<=700) (c:Ints Fr w v' cl) (r:∀l,l∈cl->l≠0/\l.natAbs<=many)
  (p:∀b n x,lookM put cl 0 0=(b,n,x)->K (.tuple #[nI (if b then-1 else(n:Int)),nI (if b then 0 else x)]) w):vcall Ua #[v,v'] w K:=by
 refine ze {loops:=[(4,[6,7,8])]} Tryz.func229 ?_;have hlen:cl.length<=9223372036854775807:=by obtain⟨_,_,_,j,k,_⟩:=c.shape;simp at j;omega
 refine vloop_up cl.length (λi u w'=>w'=w/\∃(n:Nat) (x:Int),u=[nI n,nI x,nI i]/\n<=i/\lookM put (cl.drop i) n x=lookM put cl 0 0) ⟨rfl,0,0,rfl,oM,rfl⟩ ?_;rintro i _ _ _ C hi ⟨rfl,n,x,rfl,y,e⟩ o;simp only[push_cast,c.len];refine zb (λa=>?_) (λa=>?_)
 .have f:i<cl.length:=oM;simp(disch:=exact oS) only[push_cast,c.iaddr,c.load];have h:=r _ (getD_meS f);rw[Zg (d:=0) f,QZ] at e;refine l5Sign_spec t hm g h.1 h.2 ?_;have m:IntKind.i64.wrap ((i:Int)+1)=((i+1:Nat):Int):=by rw[zk oM oM];omega
  have q:IntKind.i64.wrap ((n:Int)+1)=((n+1:Nat):Int):=by rw[zk oM oM];omega
  generalize s:cl.getD i 0=l at*;simp only[xt0,xu0];unfold ZM0;by_cases j:l∈put
  .rw[X0 j] at e⊢;have:=p true 0 0 e.symm;exact zb (λ_=>by simpa using this) (λb=>absurd (by decide:(0:Int)<1) b)
  rw[y3 j] at e⊢;by_cases k:placeOf put l.natAbs=0
  .rw[X0 k] at e⊢;refine zb (λb=>absurd b oM) (λ_=>zb (λ_=>?_) (λb=>absurd rfl b));simp(disch:=exact oS) only[push_cast,c.load];rw[m,q,s];exact o f _ _ ⟨rfl,n+1,l,rfl,oM,e⟩
  .rw[y3 k] at e⊢;refine zb (λb=>absurd b oM) (λ_=>zb (λb=>absurd b oM) (λ_=>?_));rw[m];exact o f _ _ ⟨rfl,n,x,rfl,oM,e⟩
 .rw[Gj oM] at e;have:=p false n x e.symm;simpa using this
end
end Go.Proofs.YtfnpmncplaibiaaGreatDoor
end
