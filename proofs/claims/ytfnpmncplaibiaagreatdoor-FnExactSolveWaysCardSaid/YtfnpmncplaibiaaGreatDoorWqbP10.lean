import Derived.Test.YtfnpmncplaibiaaGreatDoorWqbP9
/- A part of the proof. -/
set_option linter.all false
set_option maxRecDepth 9999
set_option maxHeartbeats 2000000
noncomputable section
namespace Go.Proofs.YtfnpmncplaibiaaGreatDoor
open Go Go.Vc Go.Proofs
section
variable {w:World} {K:oK} {F F' D G:oA}
@[push_cast] theorem bd_TZ:yA za [] w K=K (.agg ⟨WM⟩) w:=zU jg (us:=[]) rfl rfl
theorem tms_op {kv:Value} {ks:List M.Tm} (h:TmsR F w kv ks) {i:Nat} (hi:i<ks.length):zu zE (oE ((eaddr kv 5 i).add 0)) w K=K (nI (ks.getD i default).op) w:=by
 obtain⟨css,hs,c,a⟩:=h;obtain⟨b,e,_⟩:=(a i hi).inv;exact hs.ldField Jy oM (by rw[e];rfl)
theorem tms_kids {kv:Value} {ks:List M.Tm} (h:TmsR F w kv ks) {i:Nat} (hi:i<ks.length) (c:∀a,TmsR F w a (ks.getD i default).ks->K a w):zu zl (oE ((eaddr kv 5 i).add 4)) w K:=by
 obtain⟨css,hs,f,d⟩:=h;obtain⟨a,e,b⟩:=(d i hi).inv;rw[hs.ldField ZZ oM (by rw[e];rfl)];exact c a b
theorem TermSame_spec:∀(t:M.Tm) {w:World} {K:oK} {F G:oA} {va vb:Value} {u:M.Tm},TermR F w va t->TermR G w vb u->(∀w',Ext w w'->K (.bool (decide (t=u))) w')->vcall KO #[va,vb] w K:=by
 refine M.Tm.ind λt ih w K F G va vb u ha hb T=>?_;refine ze {} Tryz.func358 ?_;obtain⟨kva,rfl,p⟩:=ha;obtain⟨kvb,rfl,D⟩:=hb;refine zj λb1 w1 a0 N a4 J=>?_;refine zj λb2 w2 a1 s a5 k=>?_;have I:=J.ext s;have f:=N.trans s;have no:∀w',Ext w w'->t≠u->K (.bool false) w':=λw' h hn=>by
  have:=T w' h;rwa[gm hn] at this
 simp only[push_cast,I.ld0,k.ld0,I.ld1,k.ld1,I.ld2,k.ld2,I.ld3,k.ld3,I.ld4,k.ld4];refine zb (λV=>?_) (λe=>no _ f λh=>e (by rw[h]));refine zb (λW=>?_) (λe=>no _ f λh=>e (by rw[h]));refine zb (λX=>?_) (λe=>no _ f λh=>e (by rw[h]));refine zb (λY=>?_) (λe=>no _ f λh=>e (by rw[h]));refine ze {loops:=[(4,[17])]} Tryz.func364 ?_;have B:=p.ext f;have E:=D.ext f;have a8:=p.small;simp only[push_cast,B.len,E.len];refine zb (λe=>no _ f λh=>e (by rw[h])) (λel=>?_);have el:t.ks.length=u.ks.length:=oM
 refine vloop_up t.ks.length (λi x w'=>x=[nI i]/\Ext w w'/\∀j,j<i->t.ks.getD j default=u.ks.getD j default) ⟨rfl,f,λj U=>absurd U oM⟩ ?_;rintro i _ _ R C hi ⟨rfl,c,g⟩ hC;have l:=p.ext c;have L:=D.ext c;simp(disch:=exact oS) only[push_cast,l.len];refine zb (λa=>?_) (λa=>?_)
 .simp(disch:=exact oS) only[push_cast,l.iaddr];refine l.load zc oM λx hx=>?_;obtain⟨cx,rfl,m⟩:=hx.cells;refine zi zr λb4 w4 a2 v a6 Z=>?_;refine stTerm Z rfl ((m.weaken (F':=λb=>b<R.heap.size) λb _ h=>h).ext v) λS O a9 h5=>?_;have o:Ext R S:=Ext.then v O λy H=>by subst H;omega
  have r:=L.ext o;simp(disch:=exact oS) only[push_cast,r.iaddr];refine r.load zc oM λy H=>?_;obtain⟨cy,rfl,n⟩:=H.cells;refine zi zr λb6 w6 a3 z a7 h6=>?_;refine stTerm h6 rfl ((n.weaken (F':=λb=>b<S.heap.size) λb _ h=>h).ext z) λw7 Q aa h7=>?_;have d:Ext S w7:=Ext.then z Q λy H=>by subst H;omega
  rw[(h5.ext d).ldAgg (t:=za) (by rw[zV m];exact zc),h7.ldAgg (t:=za) (by rw[zV n];exact zc)];simp only[push_cast,gK,Gk];have q:=c.trans (o.trans d);refine ih _ (M.getD_mem oM _) (m.ext (o.trans d)).term (n.ext d).term λw8 A=>?_;refine oZ ?_;refine zm (λb=>?_) (λb=>?_)
  .rw[gS,decide_eq_false_iff_not] at b;exact no _ (q.trans A) λh=>b (by rw[h])
  .rw[gW,V0] at b;rw[inc64' oM];refine hC oM _ _ ⟨rfl,q.trans A,λj U=>?_⟩;by_cases e:j<i
   .exact g j e
   .have:j=i:=oM;subst this;exact b
 .have:t=u:=M.tm_ext V W X Y (gM el λj J k=>by
   have:=g j oM;rwa[y4,gd J,y4,gd k] at this)
  have:=T R c;rwa[gz ‹t=u›] at this
theorem falseTerm_spec (i:∀w' v,Ext w w'->TermR (λb=>w.heap.size<=b) w' v M.flsT->K v w'):vcall JJ #[] w K:=by
 refine ze {} Tryz.func363 ?_;refine zi zr λb1 w1 k d m g=>?_;refine oZ ?_;refine Xc0 (Q3 (o:=24) (F:=λ_=>False)) λw2 a c n u=>?_;refine oZ ?_;have l:TmR (λb=>b≠b1/\w.heap.size<=b) w2 _ M.flsT:=(TmR.of (t:=M.flsT) u).weaken λz r _=>by
  rcases r with h|h
  .exact h.elim
  .exact⟨oM,oM⟩
 refine qh (g.ext c) rfl l (λx p=>p.1) λA f s e=>?_;exact i _ _ (Ext.then (d.trans c) f λy q=>by subst q;omega) (e.weaken λb j _=>j.2)
theorem constant_spec {s n:Int} (f:∀w' v,Ext w w'->TermR (λb=>w.heap.size<=b) w' v (M.constM s n)->K v w'):vcall KK #[nI s,nI n] w K:=by
 refine ze {} Tryz.func354 ?_;refine zi zr λb1 w1 q e r l=>?_;unfold M.constM at f;refine oZ ?_;refine zb (λa=>?_) (λa=>?_)
 .rw[X0 a] at f;refine qh l rfl (yr0 20 s n _:TmR (λ_=>False) w1 _ _) (λx k=>k.elim) λp d i c=>?_;exact f _ _ (Ext.then e d λy h=>by subst h;omega) (c.weaken λb j _=>j.elim)
 .rw[y3 a] at f;refine zb (λb=>?_) (λb=>?_)
  .rw[X0 b] at f;refine qh l rfl (yr0 24 0 0 _:TmR (λ_=>False) w1 _ _) (λx k=>k.elim) λp d i c=>?_;exact f _ _ (Ext.then e d λy h=>by subst h;omega) (c.weaken λb j _=>j.elim)
  .rw[y3 b] at f;refine falseTerm_spec λw2 v g o=>?_;obtain⟨cs,rfl,m⟩:=o.cells;refine qh (l.ext g) rfl m (λx k=>oM) λp d i c=>?_;exact f _ _ (Ext.then (e.trans g) d λy h=>by subst h;omega) (c.weaken λb j _=>by have:=e.size;omega)
theorem yB0 {t:M.Tm} (h:t.op=20):M.fixedM t=if t.ks=[]/\t.s=M.nada/\M.vok t.a t.b=true then some t.b else none:=by
 unfold M.fixedM;rw[y3 (λe=>by rw[e] at h;exact absurd h dC),y3 (λe=>by rw[e] at h;exact absurd h dC)];by_cases c:t.ks=[]/\t.s=M.nada/\M.vok t.a t.b=true
 .rw[X0 c,X0 ⟨h,c⟩]
 .rw[y3 c,y3 (λx=>c x.2)]
theorem nil_len {ks:List M.Tm}:((ks.length:Int)=0)↔ks=[]:=by
 rw[<-Ph];omega
theorem Xf {v:Value} {t:M.Tm} (O:TermR F w v t) (R:∀w',Ext w w'->K (.tuple #[nI ((M.fixedM t).getD 0),.bool (M.fixedM t).isSome]) w'):vcall JL #[v] w K:=by
 refine ze {cuts:=[(16388,[8])]} Tryz.func353 ?_;have A:=O;obtain⟨kv,rfl,H⟩:=O;refine zj λb1 w1 S q T m=>?_;have out:∀w' o,Ext w w'->M.fixedM t=o->K (.tuple #[nI (o.getD 0),.bool o.isSome]) w':=λw' o h e=>by rw[<-e];exact R w' h
 have U:(M.truT).s=M.nada/\(M.flsT).s=M.nada:=⟨rfl,rfl⟩;simp only[push_cast,m.ld3];refine zb (λa=>?_) (λa=>?_)
 .refine out w1 none q ?_;have I:t.s≠M.nada:=a;unfold M.fixedM;rw[y3 (λe=>I (by rw[e];rfl)),y3 (λe=>I (by rw[e];rfl)),y3 (λe=>I e.2.2.1)]
 have hs:t.s=M.nada:=by
  by_cases h:t.s=M.nada
  .exact h
  .exact absurd h a
 refine zp (λu w'=> ∃b:Bool,u=[.bool b]/\Ext w1 w'/\(b=true↔t.op=20/\t.ks=[]/\M.vok t.a t.b=true)) (λC D=>?_) ?_
 .simp only[push_cast,m.ld0];refine zb (λc=>?_) (λc=>?_)
  .simp only[push_cast,m.ld4,H.len];refine zb (λd=>?_) (λd=>?_)
   .try simp only[push_cast,m.ld1,m.ld2]
    refine VecOk_spec λw2 i=>?_;exact D _ _ ⟨_,rfl,i,⟨λh=>⟨c,nil_len.1 d,h⟩,λh=>h.2.2⟩⟩
   .exact D _ _ ⟨false,rfl,Same.refl _ _,⟨λh=>(by cases h),λh=>absurd (nil_len.2 h.2.1) d⟩⟩
  .exact D _ _ ⟨false,rfl,Same.refl _ _,⟨λh=>(by cases h),λh=>absurd h.1 c⟩⟩
 rintro u g w2 ⟨b,rfl,i,N⟩;have J:=m.ext i;have j:=q.trans i;refine oZ ?_;refine zm (λc=>?_) (λc=>?_)
 .obtain⟨c1,c2,c3⟩:=N.1 c;simp only[push_cast,J.ld2];refine out w2 (some t.b) j ?_;rw[yB0 c1,X0 ⟨c2,hs,c3⟩]
 have z: ¬(t.op=20/\t.ks=[]/\t.s=M.nada/\M.vok t.a t.b=true):=λh=>by
  have:=N.2 ⟨h.1,h.2.1,h.2.2.2⟩;rw[c] at this;cases this
 rw[J.ldAgg (t:=za) zc]
 try simp only[push_cast]
 refine TermSame_spec t (A.ext j) (Q3 (o:=24) (F:=λ_=>False)) λW r=>?_;have n:=j.trans r;refine zb (λd=>?_) (λd=>?_)
 .exact out W (some 1) n (X0 d)
 have B: ¬t=M.truT:=d;refine zd λX y _=>?_;have k:=n.trans y;have L:=J.ext (r.trans y);simp only[push_cast,L.ld0,k5];refine zb (λe=>?_) (λe=>?_)
 .simp only[push_cast,L.ldAgg (t:=za) zc,k5];refine falseTerm_spec λY fv l G=>?_;have V:=L.ext l;simp only[push_cast,V.ldAgg (t:=za) zc,k5,gi];refine TermSame_spec t (A.ext (k.trans l)) G λQ E=>?_;have p:=k.trans (l.trans E);refine zb (λf=>?_) (λf=>?_)
  .refine out Q (some 0) p ?_;unfold M.fixedM;rw[y3 B,X0 f]
  .refine out Q none p ?_;unfold M.fixedM;rw[y3 B,y3 f,y3 z]
 .refine out X none k ?_;unfold M.fixedM;rw[y3 B,y3 (λx=>e (by rw[x];rfl)),y3 z]
theorem jD {v:Value} {t:M.Tm} {n:Int} (i:TermR F w v t) (f:∀w',Ext w w'->K (.bool (M.isM t n)) w'):vcall jl0 #[v,nI n] w K:=by
 refine ze {} Tryz.func356 ?_;obtain⟨cs,rfl,a⟩:=i.cells;refine zj λb1 w1 g b h d=>?_;rw[d.ldAgg (t:=za) (by rw[zV a];exact zc)];refine Xf (a.ext b).term λw2 c=>?_;have:=f w2 (b.trans c);unfold M.isM at this;simp only[push_cast];cases e:M.fixedM t with
 |none=>rw[e] at this;exact this
 |some m=>
  rw[e] at this;simp only[Gr] at this;exact this
theorem among_spec {v av:Value} {t:M.Tm} {xs:oI} (z:TermR F w v t) (n:Ints G w av xs) (y:xs.length<=100) (m:∀w',Ext w w'->K (.bool (decide (t.op∈xs))) w'):vcall yl0 #[v,av] w K:=by
 refine ze {} Tryz.func359 ?_;obtain⟨kv,rfl,s⟩:=z;refine zj λb1 w1 r f x p=>?_;simp only[push_cast,p.ld0];refine ze {} Tryz.func365 ?_;refine ze {loops:=[(2,[8])]} Tryz.func375 ?_;have l:=n.ext f;simp only[push_cast,l.len];refine vloop_up xs.length (λi u w'=>u=[nI i]/\Ext w w'/\∀j,j<i->t.op≠xs.getD j 0) ⟨rfl,f,λj k=>absurd k oM⟩ ?_;rintro i _ _ o C hi ⟨rfl,c,d⟩ q;have g:=n.ext c;refine oZ ?_;refine zb (λa=>?_) (λa=>?_)
 .simp(disch:=exact oS) only[push_cast,g.iaddr,g.load];refine zb (λb=>?_) (λb=>?_)
  .have hm:t.op∈xs:=by rw[b];exact M.getD_mem oM _
   have:=m o c;rw[gz hm] at this
   try simp only[push_cast]
   rw[gz oM];exact this
  .rw[inc64' oM];refine q oM _ _ ⟨rfl,c,λj k=>?_⟩;by_cases e:j<i
   .exact d j e
   .have:j=i:=oM;subst this;exact b
 .have hm: ¬t.op∈xs:=λh=>by
   obtain⟨j,k,e⟩:=gq h;have:=d j oM;rw[y4,gd k] at this;exact this e.symm
  have:=m o c;rw[gm hm] at this;exact this
theorem chosen_spec {v:Value} {t:M.Tm} {b:Bool} (u:TermR F w v t) (k:∀w' v',Ext w w'->TermR F w' v' t->K (.tuple #[v',.bool b]) w'):vcall UE #[.bool b,v] w K:=by
 refine ze {} Tryz.func357 ?_;obtain⟨cs,rfl,a⟩:=u.cells;refine zj λb1 w1 m c q i=>?_;refine zi zr λb2 w2 n d s j=>?_;rw[(i.ext d).ldAgg (t:=za) (by rw[zV a];exact zc)];have g:=c.trans d;have o:TmR (λb=>F b/\b<w.heap.size) w2 cs t:=(a.weaken (F':=λb=>F b/\b<w.heap.size) λb h p=>⟨h,p⟩).ext g;have A:=c.size;refine qh (K:=λr w=>K (.tuple #[r,.bool b]) w) j rfl o (λx C=>oM) λD f B e=>?_;exact k _ _ (Ext.then g f λy z=>by subst z;omega) (e.weaken λb l _=>l.1)
end
section
variable {w:World} {K:oK}
theorem lv0 {b:Nat} {x:Value} {t0 t:TypeId} (h:Blk w b [x] t0) (a:oneB t=true):vlv t (oP b 0) w K=K x w:=ZG0 (by rw[h.ld0 a];exact⟨rfl,rfl⟩)
end
end Go.Proofs.YtfnpmncplaibiaaGreatDoor
section
namespace Go.M
def allI (n:Nat) (p:Nat->Bool):Bool:=(List.range n).all p
theorem allI_iff {n:Nat} {p:Nat->Bool}:allI n p=true↔ ∀k,k<n->p k=true:=by
 grind [allI]
def litOk (m l:Int):Bool:=decide (l≠0/\ -m<=l/\l<=m)
def yZ (m:Int) (xs:oI):Bool:=allI xs.length λk=>litOk m (xs.getD k 0)&&(k==0||decide ((xs.getD (k-1) 0).natAbs<(xs.getD k 0).natAbs))
structure Cnf where
 many:Int
 list:List (oI)
structure Sat where
 put:oI
 why:oI
 learned:List (oI)
 code:Int
def cnfOk (c:Cnf):Bool:=decide (0<=c.many)&&decide (c.many<=700)&&decide (c.list.length<=2500)&&allI c.list.length λk=>yZ c.many (c.list.getD k [])
def placeOf (put:oI) (v:Nat):Nat:=match(List.range put.length).find? (λi=>(put.getD i 0).natAbs==v) with|some i=>i+1 |none=>0
theorem Yo {n i:Nat} {p:Nat->Bool} (hi:i<n) (b:p i=true) (a:∀j,j<i->p j=false):(List.range n).find? p=some i:=by
 simp_all
theorem placeOf_zero {put:oI} {v:Nat} (h:∀l,l∈put->l.natAbs≠v):placeOf put v=0:=by
 grind [placeOf]
theorem placeOf_pos {put:oI} {v:Nat} (h:placeOf put v≠0):placeOf put v<=put.length/\(put.getD (placeOf put v-1) 0).natAbs=v:=by
 grind [placeOf]
def Distinct (put:oI):Prop:=(put.map Int.natAbs).Nodup
theorem getD_meS {put:oI} {i:Nat} (hi:i<put.length):put.getD i 0∈put:=by
 grind
theorem placeOf_at {put:oI} (a:Distinct put) {i:Nat} (hi:i<put.length):placeOf put (put.getD i 0).natAbs=i+1:=by
 unfold placeOf;rw[Yo hi (by simp) ?_];intro j b;have c:(put.map Int.natAbs)[j]'(by simp;omega)≠(put.map Int.natAbs)[i]'(by simp;omega):=GC.1 a j i _ _ b
 grind
theorem placeOf_snoc {put:oI} {l:Int} (h:∀x,x∈put->x.natAbs≠l.natAbs) (v:Nat):placeOf (put++[l]) v=if v=l.natAbs then put.length+1 else placeOf put v:=by
 by_cases b:v=l.natAbs
 .rw[X0 b];unfold placeOf;rw[Yo (i:=put.length) (by simp) (by simp[b]) ?_]
  grind
 .rw[y3 b];by_cases c:placeOf put v=0
  .rw[c];refine placeOf_zero λx a=>?_;rw[gl,gx] at a;rcases a with a|rfl
   .intro e;obtain⟨i,hi,rfl⟩:=gq a;unfold placeOf at c;cases d:(List.range put.length).find? (λi=>(put.getD i 0).natAbs==v) with
    |none=>
     simp_all
    |some k=>grind
   omega
  .unfold placeOf at c⊢;cases d:(List.range put.length).find? (λi=>(put.getD i 0).natAbs==v) with
   |none=>grind
   |some k=>
    grind [List.find?_eq_some_iff_getElem]
end Go.M
namespace Go.M
def lookM (put:oI):oI->Nat->Int->Bool×Nat×Int
 |[],n,x=>(false,n,x)
 |l::r,n,x=>if l∈put then(true,0,0) else if placeOf put l.natAbs=0 then lookM put r (n+1) l else lookM put r n x
theorem jx0 (put:oI) (n:Nat) (x:Int):lookM put [] n x=(false,n,x):=rfl
theorem QZ (put:oI) (l:Int) (r:oI) (n:Nat) (x:Int):lookM put (l::r) n x=if l∈put then(true,0,0) else if placeOf put l.natAbs=0 then lookM put r (n+1) l else lookM put r n x:=rfl
def findM (put:oI):List (oI)->Int->Int->Int->Int×Int×Int
 |[],_,u,x=>(-1,u,x)
 |c::r,k,u,x=>
  match lookM put c 0 0 with
  |(true,_,_)=>findM put r (k+1) u x
  |(false,0,_)=>(k,u,x)
  |(false,1,l)=>if u<0 then findM put r (k+1) k l else findM put r (k+1) u x
  |(false,_,_)=>findM put r (k+1) u x
theorem findM_cons (put:oI) (c:oI) (r:List (oI)) (k u x:Int):findM put (c::r) k u x=
  if(lookM put c 0 0).1=true then findM put r (k+1) u x else if(lookM put c 0 0).2.1=0 then(k,u,x) else
  if(lookM put c 0 0).2.1=1 then(if u<0 then findM put r (k+1) k (lookM put c 0 0).2.2 else findM put r (k+1) u x) else findM put r (k+1) u x:=by
 grind [findM]
def places (many:Nat) (put:oI):oI:=(List.range (many+1)).map λv=>(placeOf put v:Int)
theorem Zd (many:Nat) (put:oI):(places many put).length=many+1:=by simp[places]
theorem places_get {many:Nat} {put:oI} {v:Nat} (h:v<=many):(places many put).getD v 0=placeOf put v:=by
 grind [places]
theorem placeOf_le (put:oI) (v:Nat):placeOf put v<=put.length:=by
 grind [placeOf_pos]
theorem placeOf_ne_zero {put:oI} {l:Int} (h:l∈put):placeOf put l.natAbs≠0:=by
 obtain⟨i,hi,rfl⟩:=gq h;intro e;unfold placeOf at e;cases a:(List.range put.length).find? (λj=>(put.getD j 0).natAbs==(put[i]).natAbs) with
 |none=>
  rw[Pc] at a;have:=a i (gJ.2 hi);simp[y4,hi] at this
 |some k=>grind
theorem mem_iff_place {put:oI} (a:Distinct put) {l:Int}:l∈put↔placeOf put l.natAbs≠0/\put.getD (placeOf put l.natAbs-1) 0=l:=by
 constructor
 .intro h;refine⟨placeOf_ne_zero h,?_⟩;obtain⟨i,hi,rfl⟩:=gq h;have:=placeOf_at a hi
  grind
 grind [placeOf_pos]
theorem Zg {α:Type} {d:α} {xs:List α} {i:Nat} (h:i<xs.length):xs.drop i=xs.getD i d::xs.drop (i+1):=by
 simp_all
theorem getD_app_l {α:Type} {a b:List α} {d:α} {k:Nat} (h:k<a.length):(a++b).getD k d=a.getD k d:=by
 grind
theorem getD_app_r {α:Type} {a b:List α} {d:α} {j:Nat}:(a++b).getD (a.length+j) d=b.getD j d:=by
 grind
theorem Kq (v:Nat):placeOf [] v=0:=rfl
theorem q80 (many:Nat):places many []=List.replicate (many+1) 0:=by
 refine gM (by simp[places]) λi a b=>?_;simp[places,Kq]
theorem places_snoc {many:Nat} {put:oI} {l:Int} (h:placeOf put l.natAbs=0):places many (put++[l])=(places many put).set l.natAbs (put.length+1:Nat):=by
 refine gM (by simp[places]) λi a c=>?_;simp only[places,K3,GZ] at a;rw[pF];simp only[places,Pu,pt];have b:∀x,x∈put->x.natAbs≠l.natAbs:=by grind [placeOf_ne_zero]
 grind [placeOf_snoc]
theorem distinct_snoc {put:oI} {l:Int} (a:Distinct put) (h:placeOf put l.natAbs=0):Distinct (put++[l]):=by
 unfold Distinct;rw[gE,Gu];refine⟨a,by simp,?_⟩
 grind [placeOf_ne_zero]
theorem distinct_take {put:oI} (a:Distinct put) (n:Nat):Distinct (put.take n):=by
 grind [Distinct]
theorem places_unsnoc {many:Nat} {put:oI} {l:Int} (c:Distinct (put++[l])):(places many (put++[l])).set l.natAbs 0=places many put:=by
 have h:placeOf put l.natAbs=0:=by
  grind [placeOf_zero,Distinct]
 rw[places_snoc h,P4];refine gM (by grind) λi a b=>?_
 grind [places]
theorem clauseOk_lit {m:Int} {xs:oI} (h:yZ m xs=true) {x:Int} (b:x∈xs):x≠0/\ -m<=x/\x<=m:=by
 obtain⟨k,a,rfl⟩:=gq b;have:=allI_iff.1 h k a
 grind [litOk]
theorem clauseOk_up {m:Int} {xs:oI} (h:yZ m xs=true):∀k,k<xs.length->k+1<=(xs.getD k 0).natAbs
 |0,a=>by have:=(clauseOk_lit h (getD_meS a)).1;omega
 |k+1,a=>by
  have b:=clauseOk_up h k oM;have:=allI_iff.1 h (k+1) a
  grind
theorem clauseOk_len {m:Nat} {xs:oI} (h:yZ m xs=true):xs.length<=m:=by
 cases c:xs.length with
 |zero=>omega
 |succ n=>
  have a:=clauseOk_up h n oM;have b:=clauseOk_lit h (getD_meS (show n<xs.length by omega));omega
def lvl (ds:List Bool) (i:Nat):Nat:=(ds.take (i+1)).count true
def levels (ds:List Bool):oI:=(List.range ds.length).map λi=>(lvl ds i:Int)
theorem YC (ds:List Bool):(levels ds).length=ds.length:=by simp[levels]
theorem J3 {ds:List Bool} {i:Nat} (h:i<ds.length):(levels ds).getD i 0=lvl ds i:=by simp[levels,y4,h]
theorem lvl_le (ds:List Bool) (i:Nat):lvl ds i<=ds.length:=gY (pY) (by simp;omega)
theorem ju0 {ds:List Bool} {i:Nat} (h:ds.length<=i+1):lvl ds i=ds.count true:=by unfold lvl;rw[gD h]
theorem levels_snoc (ds:List Bool) (d:Bool):levels (ds++[d])=levels ds++[((ds.count true+d.toNat:Nat):Int)]:=by
 refine gM (by simp[levels]) λi a b=>?_;simp only[levels,K3,GZ,Q1,gG] at a;by_cases hi:i<ds.length
 .grind [levels,lvl]
 grind [levels,ju0]
theorem levels_take (ds:List Bool) (n:Nat):(levels ds).take n=levels (ds.take n):=by
 refine gM (by simp[levels]) λi a b=>?_;simp only[levels,K3,GZ,gh] at a b
 grind [levels,lvl]
def yq (why:oI):List Bool:=why.map λy=>decide (y= -1)
theorem jY (why:oI):(yq why).length=why.length:=by simp[yq]
theorem jT0 (why:oI) (y:Int):yq (why++[y])=yq why++[decide (y= -1)]:=by simp[yq]
theorem yF0 (why:oI) (n:Nat):(yq why).take n=yq (why.take n):=by simp[yq]
def backN (ds:List Bool) (L:Int):Nat->Nat
 |0=>0
 |n+1=>if L<lvl ds n then backN ds L n else n+1
theorem backN_le (ds:List Bool) (L:Int) (n:Nat):backN ds L n<=n:=by
 induction n with
 |zero=>exact gr _
 |succ n a=>unfold backN;grind
theorem lvl_take {ds:List Bool} {i n:Nat} (h:i<n):lvl (ds.take n) i=lvl ds i:=by grind [lvl]
def lvM (put:oI) (ds:List Bool) (k:Int):Nat:=lvl ds (placeOf put k.natAbs-1)
structure TopOf (put:oI) (ds:List Bool) (ks:oI) (top:Nat) (xs:oI):Prop where
 le:∀k,k∈ks->lvM put ds k<=top
 mem:∀k,k∈xs↔k∈ks/\lvM put ds k=top
 ne:top=0\/xs≠[]
 nd:xs.Nodup
def atM (c:Cnf) (s:Sat) (k:Nat):oI:=(c.list++s.learned).getD k []
def marksOk (many:Nat) (put:oI):Prop:=Distinct put/\∀x,x∈put->x≠0/\x.natAbs<=many
def badM (put:oI) (k:Nat) (l:Int):Bool:=decide (l≠put.getD k 0)&&(decide (placeOf put l.natAbs=0)||(decide (l∈put)||decide ((k:Int)<=(placeOf put l.natAbs:Int)-1)))
def qh0 (put:oI) (k:Nat) (cl:oI):Bool:=decide (put.getD k 0∈cl)&& !((List.range cl.length).any λi=>badM put k (cl.getD i 0))
def qR0 (c:Cnf) (s:Sat) (k:Nat):Prop:=s.why.getD k 0= -1\/(0<=s.why.getD k 0/\s.why.getD k 0<c.list.length+s.learned.length/\qh0 s.put k (atM c s (s.why.getD k 0).toNat)=true)
structure satOk (many:Nat) (c:Cnf) (s:Sat):Prop where
 cnf:cnfOk c=true
 few:s.learned.length<=300
 c0:0<=s.code
 c3:s.code<=3
 len:s.put.length=s.why.length
 lrn:∀x,x∈s.learned->yZ c.many x=true
 mks:marksOk many s.put
 why:∀k,k<s.why.length->qR0 c s k
end Go.M
namespace Go.M
def Srt (xs:oI):Prop:=xs.Pairwise λa b=>a.natAbs<b.natAbs
theorem srt_ext:∀{xs ys:oI},Srt xs->Srt ys->(∀k,k∈xs↔k∈ys)->xs=ys
 |[],[],_,_,_=>rfl
 |[],y::ys,_,_,h=>by grind [List.mem_cons_self]
 |x::xs,[],_,_,h=>by grind [List.mem_cons_self]
 |x::xs,y::ys,a,b,h=>by
  unfold Srt at a b;rw[Pb] at a b;have e:x=y:=by
   grind
  subst e;rw[srt_ext (xs:=xs) (ys:=ys) a.2 b.2 λk=>?_]
  grind
theorem clauseOk_srt {m:Int} {xs:oI} (h:yZ m xs=true):Srt xs:=by
 have step:∀k,k+1<xs.length->(xs.getD k 0).natAbs<(xs.getD (k+1) 0).natAbs:=λk b=>by
  have:=allI_iff.1 h (k+1) b
  grind
 have far:∀d k,k+d+1<xs.length->(xs.getD k 0).natAbs<(xs.getD (k+d+1) 0).natAbs:=by
  intro d;induction d with
  |zero=>omega
  |succ d e=>
   grind
 unfold Srt;rw[GC];intro i j hi c a;have:=far (j-i-1) i oM;rw[show i+(j-i-1)+1=j from by omega] at this
 grind
def Ql (many:Nat) (a b:oI) (m:Nat):oI:=(List.range many).filterMap λi=>
 if i+1=m then none else if((i+1:Nat):Int)∈a\/((i+1:Nat):Int)∈b then some ((i+1:Nat):Int) else if-((i+1:Nat):Int)∈a\/ -((i+1:Nat):Int)∈b then some (-((i+1:Nat):Int)) else none
theorem mem_joinM {many m:Nat} {a b:oI} (f:∀k,k∈a++b->k.natAbs≠m-> -k∉a++b) (c:∀k,k∈a++b->k≠0/\k.natAbs<=many) (k:Int):k∈Ql many a b m↔(k∈a\/k∈b)/\k.natAbs≠m:=by
 unfold Ql;simp only[List.mem_filterMap,gJ];constructor
 .grind
 .rintro⟨h,d⟩;have hm:k∈a++b:=(by grind);obtain⟨e,hle⟩:=c k hm;refine⟨k.natAbs-1,oM,?_⟩
  grind
theorem joinM_srt (many:Nat) (a b:oI) (m:Nat):Srt (Ql many a b m):=by
 unfold Ql Srt;rw[List.pairwise_filterMap];refine List.Pairwise.imp ?_ List.pairwise_lt_range
 grind
theorem distinct_eq {put:oI} (a:Distinct put) {x y:Int} (b:x∈put) (c:y∈put) (h:x.natAbs=y.natAbs):x=y:=by
 grind [mem_iff_place]
def Fls (put cl:oI):Prop:=∀k,k∈cl-> -k∈put
def maxL (xs:List Nat):Nat:=xs.foldl max 0
theorem foldl_max_le {xs:List Nat} {a x:Nat} (h:x∈xs\/x<=a):x<=xs.foldl max a:=by
 induction xs generalizing a with
 |nil=>grind
 |cons y r b=>
  grind
theorem Z7 {xs:List Nat} {x:Nat} (h:x∈xs):x<=maxL xs:=foldl_max_le (.inl h)
theorem foldl_max_mem (xs:List Nat) (a:Nat):xs.foldl max a=a\/xs.foldl max a∈xs:=by
 induction xs generalizing a with
 |nil=>grind
 |cons y r b=>
  grind
theorem jl {xs:List Nat}:maxL xs=0\/maxL xs∈xs:=foldl_max_mem xs 0
theorem lvl_mono {ds:List Bool} {i j:Nat} (h:i<=j):lvl ds i<=lvl ds j:=by
 unfold lvl;refine List.Sublist.count_le true ?_;have:ds.take (i+1)=(ds.take (j+1)).take (i+1):=by grind
 grind
def lastPl (put cl:oI):Nat:=maxL (cl.map λk=>placeOf put k.natAbs)
theorem lastPl_top {put cl xs:oI} {ds:List Bool} {top:Nat} {m:Int} (h:TopOf put ds cl top xs) (hm:m∈xs) (a:∀x,x∈xs->placeOf put x.natAbs<=placeOf put m.natAbs):placeOf put m.natAbs=lastPl put cl:=by
 have b:=(h.mem m).1 hm;have d:placeOf put m.natAbs<=lastPl put cl:=Z7 (gy.2 ⟨m,b.1,rfl⟩);rcases jl (xs:=cl.map λk=>placeOf put k.natAbs) with e|e
 .unfold lastPl at d⊢;omega
 .obtain⟨q,c,e⟩:=gy.1 e;have i:placeOf put q.natAbs=lastPl put cl:=e;have j:lvM put ds m<=lvM put ds q:=lvl_mono oM;have f:=h.le q c;have g:=a q ((h.mem q).2 ⟨c,oM⟩);omega
theorem two_mem {xs:oI} (d:xs.Nodup) (h:2<=xs.length) (p:Int):∃q,q∈xs/\q≠p:=by
 match xs,d,h with
 |a::b::r,d,_=>
  have c:a≠b:=(by grind);by_cases e:a=p
  .exact⟨b,by simp,λf=>c (by rw[e,f])⟩
  simp_all
theorem impl_of {put cl:oI} {k:Nat} (h:qh0 put k cl=true):put.getD k 0∈cl/\∀l,l∈cl->l≠put.getD k 0->placeOf put l.natAbs≠0/\l∉put/\placeOf put l.natAbs<=k:=by
 unfold qh0 at h;simp only[gg,V0,gS,pP] at h;refine⟨h.1,λl c a=>?_⟩;obtain⟨i,hi,rfl⟩:=gq c;have:=h.2 i (gJ.2 hi);simp only[y4,gd hi,GD,badM] at this a⊢;simp only[gg,Gm,V0,not_and,not_or] at this;have b:=this a;exact⟨b.1,b.2.1,by have:=b.2.2;omega⟩
theorem false_of {put:oI} {l:Int} (a:placeOf put l.natAbs≠0) (b:l∉put): -l∈put:=by
 grind [placeOf]
theorem lvl_decided {ds:List Bool} {i k:Nat} (c:k<ds.length) (b:ds.getD k false=true) (h:i<k):lvl ds i<lvl ds k:=by
 have a:lvl ds i<=(ds.take k).count true:=by
  unfold lvl;refine List.Sublist.count_le true ?_;have:ds.take (i+1)=(ds.take k).take (i+1):=by grind
  grind
 grind [lvl,List.take_add_one]
theorem K9 {why:oI} {k:Nat} (a:k<why.length):(yq why).getD k false=decide (why.getD k 0= -1):=by
 simp[yq,y4,a]
theorem last_reason {many:Nat} {c:Cnf} {s:Sat} (h:satOk many c s) {cl xs:oI} {top k:Nat} (hF:Fls s.put cl) (g:TopOf s.put (yq s.why) cl top xs) (t:2<=xs.length) (C:lastPl s.put cl=k+1):
  k<s.put.length/\ -(s.put.getD k 0)∈cl/\0<=s.why.getD k 0/\s.why.getD k 0<c.list.length+s.learned.length/\qh0 s.put k (atM c s (s.why.getD k 0).toNat)=true/\
  ∃q,q∈cl/\q≠ -(s.put.getD k 0)/\lvM s.put (yq s.why) q=top:=by
 have u:=h.mks.1;obtain⟨b,f,A⟩:∃q,q∈cl/\placeOf s.put q.natAbs=k+1:=by
  grind [jl,lastPl]
 have l:=placeOf_pos (put:=s.put) (v:=b.natAbs) oM;rw[A,GX] at l;have i:k<s.put.length:=oM
 have E:s.put.getD k 0= -b:=distinct_eq u (getD_meS i) (hF b f) oM;have hle:∀q,q∈cl->placeOf s.put q.natAbs<=k+1:=λq F=>by rw[<-C];exact Z7 (gy.2 ⟨q,F,rfl⟩)
 have w:lvM s.put (yq s.why) b=top:=by
  obtain⟨x,H,-⟩:=two_mem g.nd t 0;have p:=(g.mem x).1 H;have r:=hle x p.1;have B:lvM s.put (yq s.why) x<=lvM s.put (yq s.why) b:=lvl_mono oM;have:=g.le b f;omega
 obtain⟨d,o,D⟩:=two_mem g.nd t b;have a:=(g.mem d).1 o;have z:=hle d a.1;have y:placeOf s.put d.natAbs≠k+1:=λe=>by
  have m:=placeOf_pos (put:=s.put) (v:=d.natAbs) oM;rw[e,GX] at m;have:=distinct_eq u (hF d a.1) (hF b f) oM;omega
 have n:placeOf s.put d.natAbs≠0:=by have:=placeOf_ne_zero (hF d a.1);grind
 have G:s.why.length=s.put.length:=h.len.symm;have j:s.why.getD k 0≠ -1:=λe=>by
  have r:(yq s.why).getD k false=true:=by rw[K9 oM];grind
  have B:lvM s.put (yq s.why) d<lvl (yq s.why) k:=lvl_decided (by grind) r oM
  grind [lvM]
 rcases h.why k oM with e|⟨I,a2,a3⟩
 .omega
 grind
theorem satOk.lit {many:Nat} {c:Cnf} {s:Sat} (h:satOk many c s) (e:c.many=many) {k:Nat} (j:k<c.list.length+s.learned.length) {l:Int} (f:l∈atM c s k):l≠0/\l.natAbs<=many:=by
 have a:atM c s k∈c.list++s.learned:=by
  grind [atM]
 have b:∀x,x∈c.list->yZ c.many x=true:=λx g=>by
  have d:=h.cnf;unfold cnfOk at d;rw[gg] at d;obtain⟨i,hi,rfl⟩:=gq g
  grind [allI_iff]
 have:=(gl.1 a).elim (b _) (h.lrn _);have:=clauseOk_lit this f;omega
theorem learn_join {many:Nat} {c:Cnf} {s:Sat} (h:satOk many c s) (x:c.many=many) {cl xs:oI} {top k:Nat} (hF:Fls s.put cl) (D:TopOf s.put (yq s.why) cl top xs) (E:2<=xs.length) (B:lastPl s.put cl=k+1):
  let r:=atM c s (s.why.getD k 0).toNat
  let a:=Ql many cl r (s.put.getD k 0).natAbs
  (∀l,l∈a↔(l∈cl/\l≠ -(s.put.getD k 0))\/(l∈r/\l≠s.put.getD k 0))/\Fls s.put a/\lastPl s.put a<=k/\(∀l,l∈a->lvM s.put (yq s.why) l<=top)/\∃q,q∈a/\lvM s.put (yq s.why) q=top:=by
 intro r a;obtain⟨m,z,L,M,himp,q,J,o,A⟩:=last_reason h hF D E B;have y:=h.mks.1;have N:(0:Int)∉s.put:=λe=>(h.mks.2 0 e).1 rfl;obtain⟨I,C⟩:=impl_of himp;have n:s.put.getD k 0∈s.put:=getD_meS m;have H:placeOf s.put (s.put.getD k 0).natAbs=k+1:=placeOf_at y m;generalize G:s.put.getD k 0=p at*;have t:(s.why.getD k 0).toNat<c.list.length+s.learned.length:=oM
 have F:∀l,l∈r->l≠p-> -l∈s.put:=by grind [false_of]
 have off:∀l,l∈cl++r->l.natAbs≠p.natAbs-> -l∈s.put:=λl b d=>by
  rcases gl.1 b with b|b
  .exact hF l b
  grind
 have i:∀l,l∈cl++r->l.natAbs≠p.natAbs-> -l∉cl++r:=λl b d Q=>by
  grind [distinct_eq]
 have w:∀l,l∈cl++r->l≠0/\l.natAbs<=many:=λl b=>by
  rcases gl.1 b with b|b
  .have:=h.mks.2 _ (hF l b);omega
  .exact h.lit x t b
 have f:∀l,l∈a↔(l∈cl/\l≠ -p)\/(l∈r/\l≠p):=λl=>by
  have e:a=Ql many cl r p.natAbs:=(by grind);rw[e,mem_joinM i w];constructor
  .grind
  .rintro(⟨g,d⟩|⟨g,d⟩)
   .refine⟨.inl g,λe=>d ?_⟩;have:=distinct_eq y (hF l g) n oM;omega
   grind
 have u:∀l,l∈a->placeOf s.put l.natAbs<=k:=λl b=>by
  rcases(f l).1 b with⟨g,d⟩|⟨g,d⟩
  .have O:placeOf s.put l.natAbs<=k+1:=by rw[<-B];exact Z7 (gy.2 ⟨l,g,rfl⟩)
   have P:placeOf s.put l.natAbs≠k+1:=λe=>by
    have:=placeOf_pos (put:=s.put) (v:=l.natAbs) oM;rw[e,GX,G] at this;have:=distinct_eq y (hF l g) n oM;omega
   omega
  grind
 have j:lvl (yq s.why) k=top:=by
  have R:=D.le _ z;have K:lvM s.put (yq s.why) q<=lvl (yq s.why) k:=lvl_mono (by
   grind)
  grind [lvM]
 refine⟨f,λl b=>?_,?_,λl b=>?_,q,(f q).2 (.inl ⟨J,o⟩),A⟩
 .grind
 .grind [lastPl,jl]
 .rw[<-j];exact lvl_mono (by grind)
def Z9 (put:oI) (ds:List Bool) (cl:oI):Nat:=maxL (cl.map (lvM put ds))
def Jn (put:oI) (ds:List Bool) (cl:oI):oI:=cl.filter λk=>lvM put ds k==Z9 put ds cl
theorem srt_nodup {cl:oI} (h:Srt cl):cl.Nodup:=List.Pairwise.imp (λh e=>oM) h
theorem topOf_tops {put:oI} {ds:List Bool} {cl:oI} (h:cl.Nodup):TopOf put ds cl (Z9 put ds cl) (Jn put ds cl):=by
 refine⟨λk a=>Z7 (Gc a),λk=>by simp[Jn],?_,h.sublist List.filter_sublist⟩;rcases jl (xs:=cl.map (lvM put ds)) with e|e
 .exact .inl e
 .obtain⟨q,b,e⟩:=gy.1 e;have:q∈Jn put ds cl:=by simp only[Jn,P7,beq_iff_eq];exact⟨b,e⟩
  grind
theorem topOf_top {put:oI} {ds:List Bool} {cl xs a:oI} {t b:Nat} (h:TopOf put ds cl t xs) (c:TopOf put ds cl b a):t=b:=by
 have le:∀{t b:Nat} {xs a:oI},TopOf put ds cl t xs->TopOf put ds cl b a->t<=b:=by
  intro t b xs a h c;rcases h.ne with e|e
  .omega
  .obtain⟨x,f⟩:=pz _ e;have d:=(h.mem x).1 f;have:=c.le x d.1;omega
 grind
theorem j60 {put:oI} {ds:List Bool} {cl xs a:oI} {t d:Nat} (h:TopOf put ds cl t xs) (b:TopOf put ds cl d a):xs.length=a.length:=by
 have e:=topOf_top h b;subst e;exact z0b (h.nd.length_le_of_subset λx c=>(b.mem x).2 ((h.mem x).1 c)) (b.nd.length_le_of_subset λx c=>(h.mem x).2 ((b.mem x).1 c))
theorem Kg {put:oI} {ds:List Bool} {cl a xs:oI} {t:Nat} (b:∀k,k∈cl↔k∈a) (h:TopOf put ds cl t xs):TopOf put ds a t xs:=
 ⟨λk c=>h.le k ((b k).2 c),λk=>by rw[h.mem,b],h.ne,h.nd⟩
def qQ (many:Nat) (c:Cnf) (s:Sat) (cl:oI):oI:=
 Ql many cl (atM c s (s.why.getD (lastPl s.put cl-1) 0).toNat) (s.put.getD (lastPl s.put cl-1) 0).natAbs
def learnM (many:Nat) (c:Cnf) (s:Sat):Nat->oI->oI
 |0,cl=>cl
 |f+1,cl=>if(Jn s.put (yq s.why) cl).length<=1 then cl else learnM many c s f (qQ many c s cl)
theorem lastPl_pos {put cl:oI} (hF:Fls put cl) (h:cl≠[]):lastPl put cl≠0:=by
 obtain⟨q,a⟩:=pz _ h;have b:placeOf put q.natAbs<=lastPl put cl:=Z7 (gy.2 ⟨q,a,rfl⟩);have:=placeOf_ne_zero (hF q a)
 grind
theorem learnS_ok {many:Nat} {c:Cnf} {s:Sat} (h:satOk many c s) (b:c.many=many) {cl:oI} (hF:Fls s.put cl) (hs:Srt cl) (f:2<=(Jn s.put (yq s.why) cl).length):
  Fls s.put (qQ many c s cl)/\Srt (qQ many c s cl)/\lastPl s.put (qQ many c s cl)<lastPl s.put cl/\Z9 s.put (yq s.why) (qQ many c s cl)=Z9 s.put (yq s.why) cl:=by
 have m:=topOf_tops (put:=s.put) (ds:=yq s.why) (srt_nodup hs);have d:cl≠[]:=λe=>by subst e;simp[Jn] at f
 have u:=lastPl_pos hF d;obtain⟨k,i⟩:∃k,lastPl s.put cl=k+1:=⟨lastPl s.put cl-1,oM⟩;obtain⟨hm,g,r,t,q,j,l⟩:=learn_join h b hF m f i;have e:qQ many c s cl=Ql many cl (atM c s (s.why.getD k 0).toNat) (s.put.getD k 0).natAbs:=by unfold qQ;grind
 rw[e];refine⟨g,joinM_srt _ _ _ _,oM,?_⟩;have a:=topOf_tops (put:=s.put) (ds:=yq s.why) (srt_nodup (joinM_srt many cl (atM c s (s.why.getD k 0).toNat) (s.put.getD k 0).natAbs));have p:=a.le q j;rcases a.ne with e|e
 .omega
 .obtain⟨x,n⟩:=pz _ e;have o:=(a.mem x).1 n
  grind
theorem learnM_ok {many:Nat} {c:Cnf} {s:Sat} (h:satOk many c s) (a:c.many=many):∀{f:Nat} {cl:oI},Fls s.put cl->Srt cl->lastPl s.put cl<=f->
  Fls s.put (learnM many c s f cl)/\Srt (learnM many c s f cl)/\Z9 s.put (yq s.why) (learnM many c s f cl)=Z9 s.put (yq s.why) cl/\(Jn s.put (yq s.why) (learnM many c s f cl)).length<=1
 |0,cl,hF,hs,g=>by
  refine⟨hF,hs,rfl,?_⟩;have:cl=[]:=GK λb=>lastPl_pos hF b oM;subst this;simp[learnM,Jn]
 |f+1,cl,hF,hs,g=>by
  unfold learnM;by_cases e:(Jn s.put (yq s.why) cl).length<=1
  .grind
  .rw[y3 e];obtain⟨d,a2,a3,a4⟩:=learnS_ok h a hF hs oM;obtain⟨b1,b2,b3,b4⟩:=learnM_ok h a (f:=f) d a2 oM
   grind
end Go.M
namespace Go.M
def ZH (put:oI) (ds:List Bool) (cl:oI):Nat:=maxL ((cl.filter λk=>decide (lvM put ds k<Z9 put ds cl)).map (lvM put ds))
def jw (many:Nat) (c:Cnf) (s:Sat) (cl:oI):Sat:=
 if Z9 s.put (yq s.why) cl=0 then{s with code:=2}
 else if s.learned.length=300 then{s with code:=3}
 else
  {s with
   put:=s.put.take (backN (yq s.why) (ZH s.put (yq s.why) (learnM many c s s.put.length cl)) s.put.length)
   why:=s.why.take (backN (yq s.why) (ZH s.put (yq s.why) (learnM many c s s.put.length cl)) s.put.length)
   learned:=s.learned++[learnM many c s s.put.length cl]}
def ZP (many:Nat) (put:oI):Nat:=((List.range many).find? λi=>decide (placeOf put (i+1)=0)).getD 0+1
def goM (many:Nat) (c:Cnf) (s:Sat):Sat:=
 match findM s.put (c.list++s.learned) 0 (-1) 0 with
 |(k,u,x)=>if 0<=k then jw many c s (atM c s k.toNat) else if 0<=u then{s with put:=s.put++[x],why:=s.why++[u]}
  else if s.put.length=many then{s with code:=1} else{s with put:=s.put++[-(ZP many s.put:Int)],why:=s.why++[-1]}
def stepM (many:Nat) (c:Cnf) (s:Sat):Sat:=if s.code=0 then goM many c s else s
def runM (many:Nat) (c:Cnf):Nat->Sat->Sat
 |0,s=>s
 |n+1,s=>runM many c n (stepM many c s)
def emptyS:Sat:=⟨[],[],[],0⟩
def j3 (put cl:oI):Prop:=∀l,l∈cl->l∉put/\placeOf put l.natAbs≠0
theorem lookM_spec (put:oI):∀(cl:oI) (n:Nat) (x:Int),((∃l,l∈cl/\l∈put)/\lookM put cl n x=(true,0,0))\/
  ((∀l,l∈cl->l∉put)/\∃y,lookM put cl n x=(false,n+(cl.filter λl=>decide (placeOf put l.natAbs=0)).length,y)/\(y=x/\(cl.filter λl=>decide (placeOf put l.natAbs=0))=[]\/y∈cl/\placeOf put y.natAbs=0))
 |[],n,x=> .inr ⟨by simp,x,by simp[jx0],.inl ⟨rfl,rfl⟩⟩
 |l::r,n,x=>by
  rw[QZ];by_cases b:l∈put
  .grind
  rw[y3 b];by_cases a:placeOf put l.natAbs=0
  .rw[X0 a];rcases lookM_spec put r (n+1) l with⟨⟨q,f,d⟩,e⟩|⟨c,y,e,g⟩
   .grind
   grind
  .rw[y3 a];rcases lookM_spec put r n x with⟨⟨q,f,d⟩,e⟩|⟨c,y,e,g⟩
   .grind
   grind
def unitC (put cl:oI) (x:Int):Prop:=(∀l,l∈cl->l∉put)/\(cl.filter λl=>decide (placeOf put l.natAbs=0))=[x]
theorem look_clash {put cl:oI}:j3 put cl↔(lookM put cl 0 0).1=false/\(lookM put cl 0 0).2.1=0:=by
 rcases lookM_spec put cl 0 0 with⟨⟨l,a,c⟩,e⟩|⟨b,y,e,-⟩
 .rw[e];exact⟨λh=>absurd c (h l a).1,λh=>by cases h.1⟩
 .rw[e];simp only[Gi,Ph,k5];rw[P5];exact⟨λh l a=>by have:=(h l a).2;grind,λh l a=>⟨b l a,by grind⟩⟩
theorem look_unit {put cl:oI} {x:Int}:unitC put cl x↔lookM put cl 0 0=(false,1,x):=by
 rcases lookM_spec put cl 0 0 with⟨⟨l,f,i⟩,e⟩|⟨g,y,e,a⟩
 .rw[e];exact⟨λh=>absurd i (h.1 l f),λh=>by cases h⟩
 .rw[e];constructor
  .rintro⟨_,h⟩;rw[h] at a;rcases a with⟨_,b⟩|⟨a,c⟩
   .cases b
   .have:y∈cl.filter λl=>decide (placeOf put l.natAbs=0):=by grind
    grind
  .intro h;simp only[Gw,k5,Gi] at h;obtain⟨d,rfl⟩:=h;refine⟨g,?_⟩;obtain⟨z,c⟩:=P6.1 d;rw[c] at a⊢;rcases a with⟨_,b⟩|⟨a,j⟩
   .cases b
   .have:y∈cl.filter λl=>decide (placeOf put l.natAbs=0):=by grind
    grind
def FindP (put:oI) (L:List (oI)) (k0 u0 x0:Int) (r:Int×Int×Int):Prop:=
 (∃i,i<L.length/\r.1=k0+(i:Nat)/\j3 put (L.getD i []))\/
  (r.1= -1/\(∀cl,cl∈L->¬j3 put cl)/\((0<=u0/\r.2=(u0,x0))\/
   (u0<0/\((∃i,i<L.length/\r.2.1=k0+(i:Nat)/\unitC put (L.getD i []) r.2.2/\∀j,j<i->∀x,¬unitC put (L.getD j []) x)\/
    (r.2=(u0,x0)/\∀cl,cl∈L->∀x,¬unitC put cl x)))))
theorem FindP.skip {put cl:oI} {L:List (oI)} {k0 d k:Int} {r:Int×Int×Int} (o: ¬j3 put cl) (hu:0<=d\/ ∀x,¬unitC put cl x) (h:FindP put L (k0+1) d k r):FindP put (cl::L) k0 d k r:=by
 rcases h with⟨i,hi,f,g⟩|⟨f,g,a⟩
 .exact .inl ⟨i+1,by grind,oM,by grind⟩
 .refine .inr ⟨f,λc b=>(gj.1 b).elim (λe=>e▸o) (g c),?_⟩;rcases a with a|⟨l,a⟩
  .grind
  have hu:∀x,¬unitC put cl x:=(by grind);rcases a with⟨i,hi,m,n,p⟩|⟨m,n⟩
  .refine .inr ⟨l,.inl ⟨i+1,by grind,oM,by grind,λj q x=>?_⟩⟩;cases j with
   |zero=>grind
   |succ j=>simp_all
  grind
theorem findM_spec (put:oI):∀(L:List (oI)) (k0 a d:Int),0<=k0->FindP put L k0 a d (findM put L k0 a d)
 |[],k0,a,d,_=>by
  refine .inr ⟨rfl,by simp,?_⟩;by_cases h:0<=a
  .exact .inl ⟨h,rfl⟩
  .exact .inr ⟨oM,.inr ⟨rfl,by simp⟩⟩
 |cl::L,k0,a,d,p=>by
  rw[findM_cons];by_cases f:(lookM put cl 0 0).1=true
  .rw[X0 f];refine FindP.skip (λh=>?_) (.inr λx h=>?_) (findM_spec put L (k0+1) a d oM)
   .rw[(look_clash.1 h).1] at f;cases f
   .rw[look_unit.1 h] at f;cases f
  rw[y3 f];have m:(lookM put cl 0 0).1=false:=(by grind);by_cases g:(lookM put cl 0 0).2.1=0
  .rw[X0 g];exact .inl ⟨0,by simp,by simp,by simpa using look_clash.2 ⟨m,g⟩⟩
  rw[y3 g];have b: ¬j3 put cl:=λh=>g (look_clash.1 h).2;by_cases k:(lookM put cl 0 0).2.1=1
  .rw[X0 k];have q:unitC put cl (lookM put cl 0 0).2.2:=look_unit.2 (by grind);by_cases hu:a<0
   .rw[X0 hu];rcases findM_spec put L (k0+1) k0 (lookM put cl 0 0).2.2 oM with⟨i,hi,n,o⟩|⟨n,o,r⟩
    .exact .inl ⟨i+1,by grind,oM,by grind⟩
    .refine .inr ⟨n,λc l=>(gj.1 l).elim (λe=>e▸b) (o c),.inr ⟨hu,.inl ⟨0,by simp,?_,?_,λj s=>oM⟩⟩⟩
     .grind
     grind
   .rw[y3 hu];exact FindP.skip b (.inl oM) (findM_spec put L (k0+1) a d oM)
  .rw[y3 k];refine FindP.skip b (.inr λx h=>k ?_) (findM_spec put L (k0+1) a d oM);rw[look_unit.1 h]
theorem find_cases (put:oI) (L:List (oI)):(∃(i:Nat) (u x:Int),i<L.length/\findM put L 0 (-1) 0=((i:Int),u,x)/\j3 put (L.getD i []))\/
  ((∀cl,cl∈L->¬j3 put cl)/\((∃(i:Nat) (x:Int),i<L.length/\findM put L 0 (-1) 0=(-1,(i:Int),x)/\unitC put (L.getD i []) x/\∀j,j<i->∀x,¬unitC put (L.getD j []) x)\/
   (findM put L 0 (-1) 0=(-1,-1,0)/\∀cl,cl∈L->∀x,¬unitC put cl x))):=by
 have h:=findM_spec put L 0 (-1) 0 oM;generalize findM put L 0 (-1) 0=z at h;obtain⟨k,u,x⟩:=z;rcases h with⟨i,hi,a,b⟩|⟨a,b,c⟩
 .grind
 grind
end Go.M
namespace Go.M
theorem mem_take {put:oI} (a:Distinct put) {l:Int} {k:Nat}:l∈put.take k↔l∈put/\placeOf put l.natAbs<=k:=by
 constructor
 .intro h;refine⟨gU h,?_⟩;obtain⟨i,hi,rfl⟩:=gq h;simp only[gh] at hi;have:=placeOf_at a (i:=i) oM
  grind
 grind [mem_iff_place,placeOf]
theorem marksOk.zero {many:Nat} {put:oI} (h:marksOk many put):(0:Int)∉put:=λe=>(h.2 0 e).1 rfl
theorem marksOk.neg {many:Nat} {put:oI} (h:marksOk many put) {l:Int} (a:l∈put): -l∉put:=λb=>by
 have:=distinct_eq h.1 a b oM;have e:l=0:=oM
 subst e;exact h.zero a
theorem marksOk.take {many:Nat} {put:oI} (h:marksOk many put) (n:Nat):marksOk many (put.take n):=⟨distinct_take h.1 n,λx a=>h.2 x (gU a)⟩
theorem marksOk.snoc {many:Nat} {put:oI} (h:marksOk many put) {l:Int} (c:l≠0) (d:l.natAbs<=many) (b:placeOf put l.natAbs=0):marksOk many (put++[l]):=
 ⟨distinct_snoc h.1 b,λx a=>by
  rcases gl.1 a with a|a
  .exact h.2 x a
  grind⟩
theorem marksOk.len {many:Nat} {put:oI} (h:marksOk many put):put.length<=many:=by
 have:=h.1.length_le_of_subset (l₂:=List.range' 1 many) λx a=>by
  obtain⟨y,b,rfl⟩:=gy.1 a;have:=h.2 y b
  grind
 grind
theorem impl_iff {many:Nat} {put cl:oI} (h:marksOk many put) {k:Nat}:qh0 put k cl=true↔put.getD k 0∈cl/\∀l,l∈cl->l≠put.getD k 0-> -l∈put.take k:=by
 constructor
 .intro hi;obtain⟨e,f⟩:=impl_of hi;refine⟨e,λl m d=>?_⟩;obtain⟨a,b,c⟩:=f l m d;exact(mem_take h.1).2 ⟨false_of a b,by grind⟩
 .rintro⟨e,f⟩;unfold qh0;simp only[gg,V0,gS,pP];refine⟨e,λi hi=>?_⟩;rw[gJ] at hi;have hm:cl.getD i 0∈cl:=getD_meS hi;generalize cl.getD i 0=l at hm;simp only[badM,gg,Gm,V0,not_and,not_or];intro d;have g:=(mem_take h.1).1 (f l hm d);have j:=placeOf_ne_zero g.1;rw[G0] at g j;refine⟨j,λn=>h.neg n g.1,oM⟩
theorem clauseOk_of {m:Int} {xs:oI} (hs:Srt xs) (h:∀l,l∈xs->l≠0/\(l.natAbs:Int)<=m):yZ m xs=true:=by
 unfold yZ;refine allI_iff.2 λk a=>?_;have c:=h _ (getD_meS a);rw[gg];refine⟨by simp only[litOk,V0];omega,?_⟩;simp only[Gm,beq_iff_eq,V0];by_cases b:k=0
 .omega
 .refine .inr ?_;have:=GC.1 hs (k-1) k oM a oM
  grind
theorem cnfOk_clause {c:Cnf} (h:cnfOk c=true) {x:oI} (a:x∈c.list):yZ c.many x=true:=by
 unfold cnfOk at h;rw[gg] at h;obtain⟨i,hi,rfl⟩:=gq a
 grind [allI_iff]
theorem atM_mem {c:Cnf} {s:Sat} {k:Nat} (a:k<c.list.length+s.learned.length):atM c s k∈c.list++s.learned:=by
 grind [atM]
theorem satOk.cls {many:Nat} {c:Cnf} {s:Sat} (h:satOk many c s) {x:oI} (a:x∈c.list++s.learned):yZ c.many x=true:=
 (gl.1 a).elim (cnfOk_clause h.cnf) (h.lrn x)
theorem satOk.atOk {many:Nat} {c:Cnf} {s:Sat} (h:satOk many c s) {k:Nat} (a:k<c.list.length+s.learned.length):yZ c.many (atM c s k)=true:=h.cls (atM_mem a)
theorem getD_take {put:oI} {k n:Nat} (h:k<n):(put.take n).getD k 0=put.getD k 0:=by
 grind
theorem why_ext {many:Nat} {c:Cnf} {s a:Sat} {k:Nat} (hm:marksOk many s.put) (f:marksOk many a.put) (b:a.put.take (k+1)=s.put.take (k+1)) (hw:a.why.getD k 0=s.why.getD k 0) (e:∃t,a.learned=s.learned++t) (h:qR0 c s k):qR0 c a k:=by
 unfold qR0 at h⊢;rw[hw];rcases h with h|⟨i,j,m⟩
 .omega
 obtain⟨t,o⟩:=e;have d:atM c a (s.why.getD k 0).toNat=atM c s (s.why.getD k 0).toNat:=by
  grind [atM]
 have n:a.put.getD k 0=s.put.getD k 0:=by rw[<-getD_take (show k<k+1 by omega),b,getD_take oM]
 have g:a.put.take k=s.put.take k:=by
  have:=congrArg (λl=>l.take k) b;simpa[pr] using this
 grind [impl_iff]
theorem free_spec {many:Nat} {put:oI} (h:marksOk many put) (k:put.length≠many):1<=ZP many put/\ZP many put<=many/\placeOf put (ZP many put)=0/\∀v,1<=v->v<ZP many put->placeOf put v≠0:=by
 have hlen:=h.len;unfold ZP;cases c:(List.range many).find? λi=>decide (placeOf put (i+1)=0) with
 |none=>
  rw[Pc] at c;have:(List.range' 1 many).length<=(put.map Int.natAbs).length:=by
   refine(List.nodup_range' (step:=1)).length_le_of_subset λv g=>?_;rw[PS] at g;have b:=c (v-1) (gJ.2 oM);rw[show v-1+1=v by omega] at b;have d:=placeOf_pos (put:=put) (v:=v) (by simpa using b);exact gy.2 ⟨_,getD_meS (show placeOf put v-1<put.length by
    have:placeOf put v≠0:=(by simpa using b);omega),d.2⟩
  grind
 |some i=>
  rw[Pt] at c;obtain⟨l,j,f,a,e⟩:=c;simp only[pt] at a;subst a;simp only[GZ] at f;refine⟨by simp,by simp;omega,by grind,λv b d=>?_⟩;simp only[GD] at d;have:=e (v-1) oM;simp only[pt,show v-1+1=v by omega] at this;simpa using this
theorem Zi {put cl:oI} (h:j3 put cl):Fls put cl:=λl a=>false_of (h l a).2 (h l a).1
theorem unit_mem {put cl:oI} {x:Int} (h:unitC put cl x):x∈cl/\placeOf put x.natAbs=0:=by
 have:x∈cl.filter λl=>decide (placeOf put l.natAbs=0):=by rw[h.2];grind
 grind
theorem unit_rest {put cl:oI} {x l:Int} (h:unitC put cl x) (b:l∈cl) (a:l≠x): -l∈put:=by
 refine false_of (λc=>a ?_) (h.1 l b);have:l∈cl.filter λl=>decide (placeOf put l.natAbs=0):=by grind
 rw[h.2,gx] at this;exact this
theorem maxL_le {xs ys:List Nat} (h:∀x,x∈xs->x∈ys):maxL xs<=maxL ys:=by
 rcases jl (xs:=xs) with e|e
 .omega
 .exact Z7 (h _ e)
theorem qe0 {xs ys:List Nat} (h:∀x,x∈xs↔x∈ys):maxL xs=maxL ys:=z0b (maxL_le λx=>(h x).1) (maxL_le λx=>(h x).2)
theorem maxL_snoc (xs:List Nat) (f:List Nat) (x:Nat) (a:f=[x]):maxL (xs++f)=max (maxL xs) x:=by grind [maxL]
theorem lastPl_le {put cl:oI}:lastPl put cl<=put.length:=by
 grind [lastPl,jl,placeOf_le]
theorem UM {many:Nat} {c:Cnf} {s:Sat} (h:satOk many c s) (a:c.many=many) {k:Nat} (d:k<c.list.length+s.learned.length) (b:j3 s.put (atM c s k)):
  Fls s.put (learnM many c s s.put.length (atM c s k))/\Srt (learnM many c s s.put.length (atM c s k))/\Z9 s.put (yq s.why) (learnM many c s s.put.length (atM c s k))=Z9 s.put (yq s.why) (atM c s k)/\(Jn s.put (yq s.why) (learnM many c s s.put.length (atM c s k))).length<=1:=
 learnM_ok h a (Zi b) (clauseOk_srt (h.atOk d)) lastPl_le
theorem push_ok {many:Nat} {c:Cnf} {s:Sat} (h:satOk many c s) {l y:Int} (n:l≠0) (o:l.natAbs<=many) (p:placeOf s.put l.natAbs=0)
  (m:y= -1\/(0<=y/\y<c.list.length+s.learned.length/\l∈atM c s y.toNat/\∀q,q∈atM c s y.toNat->q≠l-> -q∈s.put)):satOk many c {s with put:=s.put++[l],why:=s.why++[y]}:=by
 have hm:=h.mks.snoc n o p;have hlen:=h.len;refine⟨h.cnf,h.few,h.c0,h.c3,by grind,h.lrn,hm,λk t=>?_⟩;simp only[Q1,gG] at t;by_cases i:k<s.why.length
 .refine why_ext h.mks hm ?_ ?_ ⟨[],by simp⟩ (h.why k i)
  .grind
  grind
 .have e:k=s.why.length:=oM;have r:(s.why++[y]).getD k 0=y:=(by grind);unfold qR0;rw[r];rcases m with m|⟨a,b,d,f⟩
  .omega
  .refine .inr ⟨a,b,?_⟩;have g:(s.put++[l]).getD k 0=l:=(by grind);rw[impl_iff hm];simp only[g];refine⟨d,λq u j=>?_⟩;rw[e,<-hlen,GJ oM,gA];exact f q u j
theorem clash_ok {many:Nat} {c:Cnf} {s:Sat} (h:satOk many c s) (b:c.many=many) {k:Nat} (g:k<c.list.length+s.learned.length) (e:j3 s.put (atM c s k)):satOk many c (jw many c s (atM c s k)):=by
 unfold jw;split
 .exact⟨h.cnf,h.few,by simp,by simp,h.len,h.lrn,h.mks,h.why⟩
 split
 .exact⟨h.cnf,h.few,by simp,by simp,h.len,h.lrn,h.mks,h.why⟩
 .rename_i p;obtain⟨m,o,q,r⟩:=UM h b g e;generalize learnM many c s s.put.length (atM c s k)=cl at*;generalize backN (yq s.why) (ZH s.put (yq s.why) cl) s.put.length=n;have d:=h.few;refine⟨h.cnf,by simp;omega,h.c0,h.c3,by simp[h.len],λx a=>?_,h.mks.take n,λj f=>?_⟩
  .rcases gl.1 a with a|a
   .exact h.lrn x a
   .rw[gx] at a;subst a;refine clauseOk_of o λl i=>?_;have:=h.mks.2 _ (m l i);omega
  .simp only[gh] at f;refine why_ext h.mks (h.mks.take n) ?_ ?_ ⟨[cl],rfl⟩ (h.why j oM)
   .grind
   grind
theorem go_ok {many:Nat} {c:Cnf} {s:Sat} (h:satOk many c s) (f:c.many=many):satOk many c (goM many c s):=by
 unfold goM;rcases find_cases s.put (c.list++s.learned) with⟨i,u,x,hi,e,m⟩|⟨p,⟨i,x,hi,e,hu,-⟩|⟨e,-⟩⟩
 .rw[e];simp only[PK,if_true,gu];rw[Q1] at hi;exact clash_ok h f hi m
 .rw[e];rw[Q1] at hi;simp only[PK,if_true,show¬(0:Int)<= -1 by omega,if_false];obtain⟨l,n⟩:=unit_mem hu;have j:=h.lit f hi l;refine push_ok h j.1 j.2 n (.inr ⟨oM,oM,?_,λq k g=>?_⟩)
  .rw[gu];exact l
  .rw[gu] at k;exact unit_rest hu k g
 .rw[e];simp only[show¬(0:Int)<= -1 by omega,if_false];split
  .exact⟨h.cnf,h.few,by simp,by simp,h.len,h.lrn,h.mks,h.why⟩
  .rename_i o;obtain⟨a,b,d,-⟩:=free_spec h.mks o
   grind [push_ok]
theorem step_ok {many:Nat} {c:Cnf} {s:Sat} (h:satOk many c s) (a:c.many=many):satOk many c (stepM many c s):=by
 grind [stepM,go_ok]
theorem run_ok {many:Nat} {c:Cnf} (a:c.many=many):∀{n:Nat} {s:Sat},satOk many c s->satOk many c (runM many c n s)
 |0,_,h=>h
 |n+1,_,h=>run_ok a (n:=n) (step_ok h a)
theorem empty_ok {many:Nat} {c:Cnf} (h:cnfOk c=true):satOk many c emptyS:=⟨h,by simp[emptyS],by simp[emptyS],by simp[emptyS],rfl,by simp[emptyS],⟨pn,by simp[emptyS]⟩,by simp[emptyS]⟩
theorem run_succ (many:Nat) (c:Cnf):∀(n:Nat) (s:Sat),runM many c (n+1) s=stepM many c (runM many c n s)
 |0,_=>rfl
 |n+1,s=>run_succ many c n (stepM many c s)
theorem ja0 {many:Nat} {c:Cnf} {s:Sat} (h:s.code≠0):stepM many c s=s:=y3 h
theorem run_stop {many:Nat} {c:Cnf}:∀{n:Nat} {s:Sat},s.code≠0->runM many c n s=s
 |0,_,_=>rfl
 |n+1,s,h=>by rw[runM,ja0 h,run_stop (n:=n) h]
theorem run_add (many:Nat) (c:Cnf):∀(a b:Nat) (s:Sat),runM many c (a+b) s=runM many c b (runM many c a s)
 |0,b,s=>by rw[Gi];rfl
 |a+1,b,s=>by rw[show a+1+b=(a+b)+1 by omega,runM,run_add many c a b];rfl
end Go.M
namespace Go.M
theorem take_snoc' {α:Type} {xs:List α} {d:α} {i:Nat} (h:i<xs.length):xs.take (i+1)=xs.take i++[xs.getD i d]:=by
 simp_all
def sgnV (put:oI) (v:Nat):Int:=if(v:Int)∈put then 1 else if-(v:Int)∈put then-1 else 0
def signs (many:Nat) (put:oI):oI:=(List.range (many+1)).map (sgnV put)
theorem signs_len (many:Nat) (put:oI):(signs many put).length=many+1:=by simp[signs]
theorem signs_get {many:Nat} {put:oI} {v:Nat} (h:v<=many):(signs many put).getD v 0=sgnV put v:=by
 grind [signs]
theorem jb0 (many:Nat):signs many []=List.replicate (many+1) 0:=by
 refine gM (by simp[signs]) λi a b=>?_;simp[signs,sgnV]
theorem mem_place {put:oI} {l:Int} (h:l∈put\/ -l∈put):placeOf put l.natAbs≠0:=by
 rcases h with h|h
 .exact placeOf_ne_zero h
 .have:=placeOf_ne_zero h;grind
theorem place_mem {put:oI} {l:Int} (h:placeOf put l.natAbs≠0):l∈put\/ -l∈put:=by
 grind [false_of]
theorem signs_snoc {many:Nat} {put:oI} {l:Int} (a:l≠0) (h:placeOf put l.natAbs=0):signs many (put++[l])=(signs many put).set l.natAbs (if 0<l then 1 else-1):=by
 refine gM (by simp[signs]) λi b c=>?_;rw[pF];simp only[signs,Pu,pt,sgnV,gl,gx]
 grind [mem_place]
def ZM0 (put:oI) (m:Int):Int:=if m∈put then 1 else if placeOf put m.natAbs=0 then 0 else-1
theorem sgn_pos {many:Nat} {put:oI} (hm:marksOk many put) {m:Int} (h:0<m):sgnV put m.natAbs=ZM0 put m:=by
 unfold sgnV ZM0;rw[show((m.natAbs:Nat):Int)=m from by omega];by_cases a:m∈put
 .grind
 rw[y3 a,y3 a];by_cases b: -m∈put
 .simp_all[mem_place]
 grind [place_mem]
theorem sgn_neg {many:Nat} {put:oI} (hm:marksOk many put) {m:Int} (h:m<0): -(sgnV put m.natAbs)=ZM0 put m:=by
 unfold sgnV ZM0;rw[show((m.natAbs:Nat):Int)= -m from by omega,Int.neg_neg];by_cases a: -m∈put
 .rw[X0 a,y3 (λb=>hm.neg b a),y3 (mem_place (.inr a))]
 grind [place_mem]
theorem sgnV_range (put:oI) (m:Nat): -1<=sgnV put m/\sgnV put m<=1:=by
 grind [sgnV]
end Go.M
namespace Go.M
def YN0 (put:oI) (ds:List Bool) (v:Nat):Nat:=if placeOf put v=0 then 0 else lvl ds (placeOf put v-1)
def levs (many:Nat) (put:oI) (ds:List Bool):oI:=(List.range (many+1)).map λv=>(YN0 put ds v:Int)
theorem UL (many:Nat) (put:oI) (ds:List Bool):(levs many put ds).length=many+1:=by simp[levs]
theorem levs_get {many:Nat} {put:oI} {ds:List Bool} {v:Nat} (h:v<=many):(levs many put ds).getD v 0=YN0 put ds v:=by
 grind [levs]
theorem Z50 (many:Nat) (ds:List Bool):levs many [] ds=List.replicate (many+1) 0:=by
 refine gM (by simp[levs]) λi a b=>?_;simp[levs,YN0,Kq]
theorem levs_snoc {many:Nat} {put:oI} {ds:List Bool} {l:Int} (h:placeOf put l.natAbs=0):levs many (put++[l]) ds=(levs many put ds).set l.natAbs (lvl ds put.length:Nat):=by
 refine gM (by simp[levs]) λi a c=>?_;simp only[levs,K3,GZ] at a;rw[pF];simp only[levs,Pu,pt,YN0];have b:∀x,x∈put->x.natAbs≠l.natAbs:=by grind [placeOf_ne_zero]
 grind [placeOf_snoc]
theorem levV_lit {put:oI} {ds:List Bool} {l:Int} (h:placeOf put l.natAbs≠0):YN0 put ds l.natAbs=lvM put ds l:=by unfold YN0 lvM;grind
theorem top_step {put:oI} {ds:List Bool} {cl:oI} {i:Nat} (hi:i<cl.length) (k:Nat) (c:lvM put ds (cl.getD i 0)=k):
  Z9 put ds (cl.take (i+1))=(if Z9 put ds (cl.take i)<k then k else Z9 put ds (cl.take i))/\
  (Jn put ds (cl.take (i+1))).length=(if Z9 put ds (cl.take i)<k then 1 else if k=Z9 put ds (cl.take i) then(Jn put ds (cl.take i)).length+1 else(Jn put ds (cl.take i)).length):=by
 have e:=take_snoc' (d:=0) hi;have a:Z9 put ds (cl.take (i+1))=(if Z9 put ds (cl.take i)<k then k else Z9 put ds (cl.take i)):=by
  unfold Z9;rw[e,gE,maxL_snoc _ _ k (by grind)]
  grind
 refine⟨a,?_⟩;have hle:∀q,q∈cl.take i->lvM put ds q<=Z9 put ds (cl.take i):=λq f=>Z7 (Gc f);have g:lvM put ds (cl.getD i 0)=k:=c;generalize cl.getD i 0=y at*;generalize b:Z9 put ds (cl.take i)=T at*;unfold Jn;rw[a,b,e,PL,PX,List.filter_nil,g,Q1]
 grind [List.filter_eq_nil_iff]
structure ArrP (many:Nat) (L arr:oI):Prop where
 len:arr.length=many+1
 at_:∀v,v<=many->(arr.getD v 0=0/\∀k,k∈L->k.natAbs≠v)\/(arr.getD v 0∈L/\(arr.getD v 0).natAbs=v/\arr.getD v 0≠0)
theorem arr_nil (many:Nat):ArrP many [] (List.replicate (many+1) 0):=⟨by simp,λv a=> .inl ⟨by grind,by simp⟩⟩
theorem getD_set {xs:oI} {i j:Nat} {x:Int}:(xs.set i x).getD j 0=if i=j/\j<xs.length then x else xs.getD j 0:=by
 grind
theorem arr_snoc {many:Nat} {L arr:oI} {k:Int} (h:ArrP many L arr) (d:k≠0) (g:k.natAbs<=many):ArrP many (L++[k]) (arr.set k.natAbs k):=by
 refine⟨by simp[h.len],λv c=>?_⟩;rw[getD_set,h.len];by_cases he:k.natAbs=v
 .grind
 .rw[y3 (λe=>he e.1)];rcases h.at_ v c with⟨a,b⟩|⟨a,b,f⟩
  .grind
  grind
def yu0 (arr:oI) (m n:Nat):oI:=(List.range n).filterMap λi=>if i+1=m then none else if arr.getD (i+1) 0=0 then none else some (arr.getD (i+1) 0)
theorem joinA_succ (arr:oI) (m n:Nat):yu0 arr m (n+1)=yu0 arr m n++(if n+1=m then[] else if arr.getD (n+1) 0=0 then[] else[arr.getD (n+1) 0]):=by
 unfold yu0
 grind [List.range_succ]
theorem joinA_eq {many m:Nat} {a b arr:oI} (h:ArrP many (a++b) arr) (o:∀k,k∈a++b->k.natAbs≠m-> -k∉a++b):yu0 arr m many=Ql many a b m:=by
 unfold yu0 Ql;refine filterMap_congr' λi hi=>?_;rw[gJ] at hi;by_cases hm:i+1=m
 .grind
 rw[y3 hm,y3 hm];rcases h.at_ (i+1) oM with⟨d,c⟩|⟨d,c,n⟩
 .rw[X0 d,y3 ?_,y3 ?_]
  .rintro(e|e)
   .exact c _ (Ge _ e) oM
   .exact c _ (Gv _ e) oM
  .rintro(e|e)
   .exact c _ (Ge _ e) oM
   .exact c _ (Gv _ e) oM
 grind
where
 filterMap_congr' {α β:Type} {f g:α->Option β}:∀{l:List α},(∀x,x∈l->f x=g x)->l.filterMap f=l.filterMap g
  |[],_=>rfl
  |x::l,h=>by
   rw[List.filterMap_cons,List.filterMap_cons,h x gk,filterMap_congr' λy j=>h y (gp _ j)]
theorem backN_eq {ds:List Bool} {L:Int}:∀{len n:Nat},n<=len->(∀i,i<n->(lvl ds i:Int)<=L)->(n=len\/L<(lvl ds n:Int))->backN ds L len=n
 |0,n,b,a,c=>by simp[backN];omega
 |len+1,n,b,a,c=>by
  unfold backN;by_cases e:n=len+1
  .grind
  .have d:L<(lvl ds n:Int):=oM;have hm:lvl ds n<=lvl ds len:=lvl_mono oM;rw[X0 oM];exact backN_eq oM a (.inr d)
theorem lastPl_eq {many:Nat} {put cl:oI} (hm:marksOk many put) {i:Nat} (hi:i<put.length) (a:∃q,q∈cl/\q.natAbs=(put.getD i 0).natAbs) (d:∀j,i<j->j<put.length->∀q,q∈cl->q.natAbs≠(put.getD j 0).natAbs):lastPl put cl=i+1:=by
 obtain⟨q,c,e⟩:=a;have b:placeOf put q.natAbs=i+1:=by rw[e];exact placeOf_at hm.1 hi
 refine z0b ?_ (by rw[<-b];exact Z7 (gy.2 ⟨q,c,rfl⟩))
 grind [lastPl,jl,placeOf_pos]
theorem lastPl_none {put cl:oI} (h:∀j,j<put.length->∀q,q∈cl->q.natAbs≠(put.getD j 0).natAbs):lastPl put cl=0:=by
 unfold lastPl;rcases jl (xs:=cl.map λk=>placeOf put k.natAbs) with a|a
 .exact a
 grind [placeOf_pos]
theorem lvl_succ {ds:List Bool} {i:Nat} (h:i<ds.length):lvl ds i=(ds.take i).count true+(ds.getD i false).toNat:=by
 grind [lvl,List.take_add_one]
theorem Ys {ds:List Bool} {i:Nat} (h:i<ds.length):(ds.take (i+1)).count true=(ds.take i).count true+(ds.getD i false).toNat:=lvl_succ h
end Go.M
end
section
namespace Go.M
def litT (v:Nat->Bool) (l:Int):Bool:=if 0<l then v l.natAbs else !v l.natAbs
def clT (v:Nat->Bool) (cl:oI):Prop:= ∃l,l∈cl/\litT v l=true
def jV0 (v:Nat->Bool) (c:Cnf):Prop:=∀cl,cl∈c.list->clT v cl
def Flw (c:Cnf) (cl:oI):Prop:=∀v,jV0 v c->clT v cl
theorem litT_neg {v:Nat->Bool} {l:Int} (h:l≠0):litT v (-l)= !litT v l:=by
 grind [litT]
structure FairS (many:Nat) (c:Cnf) (s:Sat):Prop where
 ok:satOk many c s
 flw:∀cl,cl∈s.learned->Flw c cl
 dec:∀k,k<s.put.length->s.why.getD k 0= -1->s.put.getD k 0<0/\∀u,1<=u->u<(s.put.getD k 0).natAbs->∃l,l∈s.put.take k/\l.natAbs=u
 yes:s.code=1->s.put.length=many/\∀cl,cl∈c.list->¬j3 s.put cl
 no:s.code=2->∀v,¬jV0 v c
variable {many:Nat} {c:Cnf} {s:Sat} {v:Nat->Bool}
theorem FairS.flwAt (h:FairS many c s) {k:Nat} (a:k<c.list.length+s.learned.length):Flw c (atM c s k):=
 (gl.1 (atM_mem a)).elim (λhm v b=>b _ hm) (h.flw _)
theorem FairS.trail (h:FairS many c s) (r:jV0 v c) (j:Nat):j<s.put.length->(∀i,i<=j->s.why.getD i 0= -1->litT v (s.put.getD i 0)=true)->litT v (s.put.getD j 0)=true:=by
 induction j using Nat.strongRecOn with
 |ind j t=>
  intro y o;have hlen:=h.ok.len;rcases h.ok.why j oM with e|⟨a,b,e⟩
  .grind
  obtain⟨l,p,A⟩:=h.flwAt (k:=(s.why.getD j 0).toNat) oM v r;obtain⟨x,g⟩:=(impl_iff h.ok.mks).1 e;by_cases f:l=s.put.getD j 0
  .grind
  .have m:=g l p f;obtain⟨i,hi,d⟩:=gq m;simp only[gh] at hi;rw[List.getElem_take] at d;have n:=t i oM oM λq z=>o q oM;rw[y4,gd oM,GD,d] at n;have w:l≠0:=λu=>h.ok.mks.zero (by grind)
   grind [litT_neg]
theorem joinM_flw {many:Nat} {c:Cnf} {s:Sat} (h:FairS many c s) (b:c.many=many) {cl:oI} (hF:Fls s.put cl) (hs:Srt cl) (a:2<=(Jn s.put (yq s.why) cl).length) (p:Flw c cl):Flw c (qQ many c s cl):=by
 intro v n;have m:=topOf_tops (put:=s.put) (ds:=yq s.why) (srt_nodup hs);have f:cl≠[]:=λe=>by subst e;simp[Jn] at a
 have w:=lastPl_pos hF f;obtain⟨k,j⟩:∃k,lastPl s.put cl=k+1:=⟨lastPl s.put cl-1,oM⟩;obtain⟨hm,-⟩:=learn_join h.ok b hF m a j;obtain⟨o,a2,a3,a4,-⟩:=last_reason h.ok hF m a j;have e:qQ many c s cl=Ql many cl (atM c s (s.why.getD k 0).toNat) (s.put.getD k 0).natAbs:=by unfold qQ;grind
 rw[e];obtain⟨l,q,g⟩:=p v n;obtain⟨r,t,i⟩:=h.flwAt (k:=(s.why.getD k 0).toNat) oM v n;have u:s.put.getD k 0≠0:=(h.ok.mks.2 _ (getD_meS o)).1;by_cases d:l= -(s.put.getD k 0)
 .refine⟨r,(hm r).2 (.inr ⟨t,λe=>?_⟩),i⟩
  grind [litT_neg]
 .exact⟨l,(hm l).2 (.inl ⟨q,d⟩),g⟩
theorem learnM_flw (h:FairS many c s) (a:c.many=many):∀{f:Nat} {cl:oI},Fls s.put cl->Srt cl->Flw c cl->Flw c (learnM many c s f cl)
 |0,cl,_,_,b=>b
 |f+1,cl,hF,hs,b=>by
  unfold learnM;by_cases e:(Jn s.put (yq s.why) cl).length<=1
  .grind
  .rw[y3 e];obtain⟨d,a2,a3,a4⟩:=learnS_ok h.ok a hF hs oM;exact learnM_flw h a d a2 (joinM_flw h a hF hs oM b)
theorem lvl_zero {ds:List Bool} {i j:Nat} (h:lvl ds i=0) (b:j<=i) (a:j<ds.length):ds.getD j false=false:=by
 unfold lvl at h;rw[List.count_eq_zero] at h;cases e:ds.getD j false with
 |false=>rfl
 |true=>
  refine absurd ?_ h;rw[y4,gd a,GD] at e;have:(ds.take (i+1))[j]'(by simp;omega)=true:=by grind
  grind
theorem clash_none (h:FairS many c s) {k:Nat} (p:k<c.list.length+s.learned.length) (o:j3 s.put (atM c s k)) (t:Z9 s.put (yq s.why) (atM c s k)=0): ¬jV0 v c:=by
 intro m;obtain⟨l,g,d⟩:=h.flwAt p v m;have f:=Zi o l g;have q:=placeOf_ne_zero f;have a:=(mem_iff_place h.ok.mks.1).1 f;have hle:=placeOf_le s.put (-l).natAbs;have e:lvM s.put (yq s.why) l<=Z9 s.put (yq s.why) (atM c s k):=Z7 (Gc g);unfold lvM at e;have hlen:=h.ok.len;rw[G0] at q a hle;have b:=h.trail m (placeOf s.put l.natAbs-1) oM λi hi hw=>by
  have:=lvl_zero (ds:=yq s.why) (i:=placeOf s.put l.natAbs-1) (j:=i) oM hi (by rw[jY];omega);rw[K9 oM,hw] at this;cases this
 rw[a.2] at b;have n:l≠0:=λr=>h.ok.mks.zero (by grind);rw[litT_neg n,d] at b;cases b
theorem V8 {α:Type} {a:List α} {x d:α} {k:Nat} (h:k<a.length):(a++[x]).getD k d=a.getD k d:=getD_app_l h
theorem push_fair (h:FairS many c s) (f:s.code=0) {l y:Int} (b:satOk many c {s with put:=s.put++[l],why:=s.why++[y]}) (g:y= -1->l<0/\∀u,1<=u->u<l.natAbs->∃q,q∈s.put/\q.natAbs=u):FairS many c {s with put:=s.put++[l],why:=s.why++[y]}:=by
 have hlen:=h.ok.len;refine⟨b,h.flw,λk d hw=>?_,λe=>?_,λe=>?_⟩
 .simp only[Q1,gG] at d;by_cases a:k<s.put.length
  .simp only[V8 a,GJ (Nat.le_of_lt a)] at hw⊢;rw[V8 oM] at hw;exact h.dec k a hw
  grind
 .grind
 grind
theorem clash_fair (h:FairS many c s) (m:s.code=0) (b:c.many=many) {k:Nat} (d:k<c.list.length+s.learned.length) (i:j3 s.put (atM c s k)):FairS many c (jw many c s (atM c s k)):=by
 have a:=clash_ok h.ok b d i;have hlen:=h.ok.len;unfold jw at a⊢;split
 .rename_i f;rw[X0 f] at a;exact⟨a,h.flw,h.dec,λe=>by simp at e,λ_ v=>clash_none h d i f⟩
 rename_i f;rw[y3 f] at a;split
 .rename_i hm;rw[X0 hm] at a;exact⟨a,h.flw,h.dec,λe=>by simp at e,λe=>by simp at e⟩
 .rename_i hm;rw[y3 hm] at a;have o:Flw c (learnM many c s s.put.length (atM c s k)):=learnM_flw h b (Zi i) (clauseOk_srt (h.ok.atOk d)) (h.flwAt d);generalize learnM many c s s.put.length (atM c s k)=cl at*;generalize backN (yq s.why) (ZH s.put (yq s.why) cl) s.put.length=n at*;refine⟨a,λx g=>?_,λj l hw=>?_,λe=>?_,λe=>?_⟩
  .rcases gl.1 g with g|g
   .exact h.flw x g
   grind
  .simp only[gh] at l;simp only[getD_take (show j<n by omega),pr,GL (show j<=n by omega)] at hw⊢;exact h.dec j oM hw
  .grind
  grind
theorem go_fair (h:FairS many c s) (m:s.code=0) (j:c.many=many):FairS many c (goM many c s):=by
 have g:=go_ok h.ok j;unfold goM at g⊢;rcases find_cases s.put (c.list++s.learned) with⟨i,u,x,hi,e,n⟩|⟨o,⟨i,x,hi,e,hu,-⟩|⟨e,-⟩⟩
 .rw[e] at g⊢;simp only[PK,if_true,gu];rw[Q1] at hi;exact clash_fair h m j hi n
 .grind [push_fair]
 .rw[e] at g⊢;simp only[show¬(0:Int)<= -1 by omega,if_false] at g⊢;split
  .rename_i k;rw[X0 k] at g;exact⟨g,h.flw,h.dec,λ_=>⟨k,λcl l=>o cl (Ge _ l)⟩,λe=>by simp at e⟩
  .rename_i k;rw[y3 k] at g;obtain⟨a,b,d,f⟩:=free_spec h.ok.mks k
   grind [push_fair,placeOf]
theorem step_fair (h:FairS many c s) (a:c.many=many):FairS many c (stepM many c s):=by
 grind [stepM,go_fair]
theorem run_fair (a:c.many=many):∀{n:Nat} {s:Sat},FairS many c s->FairS many c (runM many c n s)
 |0,_,h=>h
 |n+1,_,h=>run_fair a (n:=n) (step_fair h a)
theorem qt0 (h:cnfOk c=true):FairS many c emptyS:=⟨empty_ok h,by simp[emptyS],by simp[emptyS],by simp[emptyS],by simp[emptyS]⟩
def LexLe (many:Nat) (a b:Nat->Bool):Prop:=(∀u,1<=u->u<=many->a u=b u)\/ ∃d,1<=d/\d<=many/\a d=false/\b d=true/\∀u,1<=u->u<d->a u=b u
def wayM (put:oI) (u:Nat):Bool:=decide ((u:Int)∈put)
theorem wayM_true {put:oI} (h:marksOk many put) {l:Int} (a:l∈put):litT (wayM put) l=true:=by
 unfold litT wayM;have c:=(h.2 l a).1;by_cases b:0<l
 .grind
 .rw[y3 b,show((l.natAbs:Nat):Int)= -l by omega];have:=h.neg a
  grind
theorem litT_eq {a b:Nat->Bool} {l:Int} (c:litT a l=true) (d:litT b l=true):a l.natAbs=b l.natAbs:=by
 grind [litT]
theorem full {put:oI} (h:marksOk many put) (b:put.length=many) {u:Nat} (c:1<=u) (d:u<=many):placeOf put u≠0:=by
 intro e;have:(u::put.map Int.natAbs).length<=(List.range' 1 many).length:=by
  refine Pv ?_ λx a=>?_
  .rw[G1];refine⟨λhm=>?_,h.1⟩
   grind [placeOf_ne_zero]
  .rw[PS];rcases gj.1 a with rfl|a
   .omega
   .obtain⟨l,b,rfl⟩:=gy.1 a;have:=h.2 l b;omega
 grind
theorem FairS.full (h:FairS many c s) (d:s.code=1) {u:Nat} (a:1<=u) (b:u<=many):∃l,l∈s.put/\l.natAbs=u:=by
 obtain⟨e,f⟩:=placeOf_pos (Go.M.full h.ok.mks (h.yes d).1 a b)
 grind
def Least (many:Nat) (c:Cnf) (a:Nat->Bool):Prop:=jV0 a c/\∀v,jV0 v c->LexLe many a v
theorem FairS.model (h:FairS many c s) (f:c.many=many) (d:s.code=1):jV0 (wayM s.put) c:=λcl a=>by
 have b:=(h.yes d).2 cl a;unfold j3 at b;simp only[Classical.not_forall,Classical.not_imp] at b;obtain⟨l,e,g⟩:=b;have j:=clauseOk_lit (cnfOk_clause h.ok.cnf a) e;have i:=Go.M.full h.ok.mks (h.yes d).1 (u:=l.natAbs) oM oM;refine⟨l,e,wayM_true h.ok.mks ?_⟩
 grind
theorem FairS.least (h:FairS many c s) (e:c.many=many) (g:s.code=1):Least many c (wayM s.put):=by
 refine⟨h.model e g,λv q=>?_⟩;by_cases k:∀j,j<s.put.length->litT v (s.put.getD j 0)=true
 .refine .inl λu a b=>?_;obtain⟨l,f,rfl⟩:=h.full g a b;refine litT_eq (wayM_true h.ok.mks f) ?_
  grind [List.getElem_of_mem]
 .obtain⟨j,⟨d,t⟩,m⟩:∃j,(j<s.put.length/\litT v (s.put.getD j 0)=false)/\∀i,i<j->litT v (s.put.getD i 0)=true:=by
   have:∃j,j<s.put.length/\litT v (s.put.getD j 0)=false:=by
    grind
   obtain⟨j,d⟩:=this;induction j using Nat.strongRecOn with
   |ind j w=>
    grind
  have hw:s.why.getD j 0= -1:=by
   refine Gy λo=>?_;have:=h.trail q j d λi hi hw=>by
    grind
   grind
  obtain⟨d1,d2⟩:=h.dec j d hw;have hm:=getD_meS (put:=s.put) d;have n:=h.ok.mks.2 _ hm;have r:=wayM_true h.ok.mks hm;generalize s.put.getD j 0=p at*;refine .inr ⟨p.natAbs,oM,n.2,?_,?_,λu a b=>?_⟩
  .grind [litT]
  .grind [litT]
  .obtain⟨l,f,rfl⟩:=d2 u a b;refine litT_eq (wayM_true h.ok.mks (gU f)) ?_
   grind [List.getElem_of_mem]
end Go.M
namespace Go.M
end Go.M
namespace Go.M
end Go.M
end
section
namespace Go.M
def gateC (k:Int) (g:Gt):List (oI):=if g.x then[[g.a,g.b,-k],[-g.a,-g.b,-k],[-g.a,g.b,k],[g.a,-g.b,k]] else[[g.a,-k],[g.b,-k],[-g.a,-g.b,k]]
def gatesC (n:Nat):Gs->Nat->List (oI)
 |[],_=>[]
 |g::gs,i=>gateC (2+n+i) g++gatesC n gs (i+1)
def netC (n:Nat) (gs:Gs) (xs:List (oI)):Cnf:=⟨1+n+gs.length,[1]::(gatesC n gs 0++xs)⟩
theorem Ka {v:Nat->Bool} {l:Int} {cl:oI}:clT v (l::cl)↔litT v l=true\/clT v cl:=by
 simp_all[clT]
theorem xj0 {v:Nat->Bool}:clT v []↔False:=by unfold clT;simp
theorem gate_says {v:Nat->Bool} {g:Gt} {k:Int} (c:g.a≠0) (d:g.b≠0) (e:k≠0):(∀cl,cl∈gateC k g->clT v cl)↔litT v k=(if g.x then litT v g.a != litT v g.b else litT v g.a&&litT v g.b):=by
 unfold gateC;cases g.x
 .simp only[Gd,if_false,List.forall_mem_cons,Ka,xj0,litT_neg c,litT_neg d,litT_neg e]
  grind
 .simp only[if_true,List.forall_mem_cons,Ka,xj0,litT_neg c,litT_neg d,litT_neg e]
  grind
theorem mem_gates {n:Nat} {cl:oI}:∀{gs:Gs} {i0:Nat},cl∈gatesC n gs i0↔ ∃i,∃h:i<gs.length,cl∈gateC (2+n+(i0+i:Nat)) gs[i]
 |[],i0=>by simp[gatesC]
 |g::gs,i0=>by
  simp only[gatesC,gl,mem_gates (gs:=gs)];constructor
  .rintro(h|⟨i,hi,h⟩)
   .grind
   .refine⟨i+1,by grind,?_⟩
    grind
  grind
theorem absI_nat (a:Int):absI a=(a.natAbs:Int):=by unfold absI;omega
theorem gate_nz {n k:Nat} {g:Gt} (h:gateOk n k g):g.a≠0/\g.b≠0:=by
 obtain⟨c,d,e,f⟩:=h
 grind [absI_nat]
theorem lit_eq {v:Nat->Bool} {vals:List Bool} {m:Int} (b:m≠0) (h:v m.natAbs=vals.getD (m.natAbs-1) false):litT v m=litV vals m:=by
 unfold litT litV;rw[h];by_cases a:0<m
 .rw[X0 a,X0 a,show m.natAbs-1=(m-1).toNat by omega]
 .rw[y3 a,y3 a,show m.natAbs-1=(-m-1).toNat by omega]
def insV (v:Nat->Bool) (n:Nat):List Bool:=(List.range n).map λi=>v (i+2)
theorem insV_len (v:Nat->Bool) (n:Nat):(insV v n).length=n:=by unfold insV;grind
theorem insV_get {v:Nat->Bool} {n i:Nat} (h:i<n):(insV v n).getD i false=v (i+2):=by
 grind [insV]
theorem pre_getD {α:Type} {a b:List α} {i:Nat} {d:α} (h:a<+:b) (hi:i<a.length):b.getD i d=a.getD i d:=by
 obtain⟨t,rfl⟩:=h
 grind
theorem vals_low {ins:List Bool} {gs:Gs} {i:Nat} (hi:i<ins.length):(valsG (true::ins) gs).getD (i+1) false=ins.getD i false:=by
 rw[pre_getD (valsG_pre gs (true::ins)) (by grind),pg]
theorem XT {ins:List Bool} {gs:Gs}:(valsG (true::ins) gs).getD 0 false=true:=by
 rw[pre_getD (valsG_pre gs (true::ins)) (by simp)];rfl
def Follows (v:Nat->Bool) (n:Nat) (gs:Gs):Prop:=∀k,k<1+n+gs.length->v (k+1)=(valsG (true::insV v n) gs).getD k false
theorem Follows.lit {v:Nat->Bool} {n:Nat} {gs:Gs} (h:Follows v n gs) {m:Int} (hm:has (1+n+gs.length) m):litT v m=litV (valsG (true::insV v n) gs) m:=by
 obtain⟨a,b,c⟩:=hm;refine lit_eq a ?_;have:=h (m.natAbs-1) oM
 grind
theorem net_follows {v:Nat->Bool} {n:Nat} {gs:Gs} (g:NetG n gs):(v 1=true/\∀cl,cl∈gatesC n gs 0->clT v cl)↔Follows v n gs:=by
 have f:∀i:Nat,(2+(n:Int)+((0+i:Nat):Int))≠0:=oM
 have d:∀i:Nat,litT v (2+(n:Int)+((0+i:Nat):Int))=v (2+n+i):=λi=>by
  unfold litT;grind
 constructor
 .rintro⟨o,p⟩ k;induction k using Nat.strongRecOn with
  |ind k l=>
   intro s;rcases(by omega:k=0\/(1<=k/\k<=n)\/1+n<=k) with rfl|⟨q,r⟩|q
   .rw[XT];exact o
   .obtain⟨i,rfl⟩:∃i,k=i+1:=⟨k-1,oM⟩
    grind [vals_low,insV_len,insV_get]
   .obtain⟨i,rfl⟩:∃i,k=1+n+i:=⟨k-1-n,oM⟩;have hi:i<gs.length:=oM;have c:=g.gate i hi;obtain⟨na,nb⟩:=gate_nz c;have hs:=(gate_says (v:=v) na nb (f i)).1 λcl e=>p cl (mem_gates.2 ⟨i,hi,e⟩);rw[d] at hs;obtain⟨g1,g2,g3,_⟩:=c;rw[absI_nat] at g1 g2;rw[absI_nat] at g2 g3;have ea:=lit_eq (vals:=valsG (true::insV v n) gs) na (by have:=l (gs[i].a.natAbs-1) oM oM;rwa[show gs[i].a.natAbs-1+1=gs[i].a.natAbs by omega] at this);have eb:=lit_eq (vals:=valsG (true::insV v n) gs) nb (by have:=l (gs[i].b.natAbs-1) oM oM;rwa[show gs[i].b.natAbs-1+1=gs[i].b.natAbs by omega] at this);rw[valsG_at (insV_len v n) hi (g.gate i hi),show 1+n+i+1=2+n+i by omega,hs,ea,eb];rfl
 .intro h;refine⟨by have:=h 0 oM;rwa[XT] at this,λcl e=>?_⟩;obtain⟨i,hi,hm⟩:=mem_gates.1 e;have c:=g.gate i hi;obtain⟨na,nb⟩:=gate_nz c;refine(gate_says (v:=v) na nb (f i)).2 ?_ cl hm;obtain⟨g1,g2,g3,_⟩:=c;rw[absI_nat] at g1 g2;rw[absI_nat] at g2 g3;have j:=h (1+n+i) oM;rw[valsG_at (insV_len v n) hi (g.gate i hi),show 1+n+i+1=2+n+i by omega] at j;rw[d,j,h.lit (m:=gs[i].a) ⟨na,oM,oM⟩,h.lit (m:=gs[i].b) ⟨nb,oM,oM⟩];rfl
theorem net_sat {v:Nat->Bool} {n:Nat} {gs:Gs} {xs:List (oI)} (b:NetG n gs):jV0 v (netC n gs xs)↔Follows v n gs/\∀cl,cl∈xs->clT v cl:=by
 rw[<-net_follows b];unfold jV0 netC;simp only[gj,gl];constructor
 .simp_all[Ka,xj0,litT]
 .rintro⟨⟨c,d⟩,e⟩ cl (rfl|a|a)
  .grind [Ka,litT]
  .grind
  grind
def wayG (ins:List Bool) (gs:Gs) (u:Nat):Bool:=(valsG (true::ins) gs).getD (u-1) false
theorem wayG_ins {ins:List Bool} {gs:Gs}:insV (wayG ins gs) ins.length=ins:=by
 grind [List.ext_getElem,insV_len,wayG,insV,vals_low]
theorem zA0 {ins:List Bool} {gs:Gs} {n:Nat} (a:ins.length=n):Follows (wayG ins gs) n gs:=λk b=>by
 subst a;rw[wayG_ins];rfl
theorem gatesC_len {n:Nat}:∀(gs:Gs) (i:Nat),(gatesC n gs i).length<=4*gs.length
 |[],_=>by simp[gatesC]
 |g::gs,i=>by
  have:=gatesC_len (n:=n) gs (i+1)
  grind [gatesC,gateC]
theorem Jd {m:Int} {xs:oI}:yZ m xs=true↔ ∀k,k<xs.length->litOk m (xs.getD k 0)=true/\(k=0\/(xs.getD (k-1) 0).natAbs<(xs.getD k 0).natAbs):=by
 simp_all[yZ,allI]
theorem gate_clause {n k:Nat} {g:Gt} {m:Int} (h:gateOk n k g) (hm:2+n+k<=m) {cl:oI} (c:cl∈gateC (2+n+k) g):yZ m cl=true:=by
 obtain⟨g1,g2,g3,_⟩:=h;rw[absI_nat] at g1 g2;rw[absI_nat] at g2 g3;have three:∀{p q r:Int},p.natAbs=g.a.natAbs->q.natAbs=g.b.natAbs->r.natAbs=2+n+k->yZ m [p,q,r]=true:=λ{p q r} d i e=>by
  rw[Jd];intro j f;rcases(by omega:j<3)|>(λh=>(by omega:j=0\/j=1\/j=2)) with rfl|rfl|rfl
  .exact⟨by simp[litOk];omega,.inl rfl⟩
  .grind [litOk]
  grind [litOk]
 have two:∀{p r:Int},(p.natAbs=g.a.natAbs\/p.natAbs=g.b.natAbs)->r.natAbs=2+n+k->yZ m [p,r]=true:=λ{p r} d e=>by
  rw[Jd];intro j f;rcases(by omega:j<2)|>(λh=>(by omega:j=0\/j=1)) with rfl|rfl
  .exact⟨by simp[litOk];omega,.inl rfl⟩
  grind [litOk]
 unfold gateC at c;split at c
 .grind
 .simp only[gj,gC,Gn] at c;rcases c with rfl|rfl|rfl
  .grind
  .grind
  grind
theorem net_ok {n:Nat} {gs:Gs} {xs:List (oI)} (d:n<=8) (a:NetG n gs) (c:xs.length<=90) (e:∀cl,cl∈xs->yZ (1+n+gs.length:Nat) cl=true):cnfOk (netC n gs xs)=true:=by
 have:=a.few;have hlen:=gatesC_len (n:=n) gs 0;have b:∀cl,cl∈(netC n gs xs).list->yZ (netC n gs xs).many cl=true:=λcl h=>by
  unfold netC at h⊢;rcases gj.1 h with rfl|h
  .rw[Jd]
   grind [litOk]
  .rcases gl.1 h with h|h
   .obtain⟨i,hi,hm⟩:=mem_gates.1 h;rw[Gi] at hm;exact gate_clause (a.gate i hi) (by grind) hm
   grind
 unfold cnfOk allI;simp only[gg,V0,gQ,gJ]
 grind [netC]
end Go.M
end
section
namespace Go.M
section
variable {n:Nat} {gs:Gs} {a b:Int}
theorem put_net {g:Gt} (d:NetG n gs) (f:gateOk n gs.length g) (c:(putG n gs g).2≠0):NetG n (putG n gs g).1/\has (1+n+(putG n gs g).1.length) (putG n gs g).2:=by
 unfold putG at c⊢;split
 .grind [has]
 .next hm=>
  rw[y3 hm] at c;split
  .grind
  .refine⟨⟨by simp;omega,λk j=>?_,?_⟩,by simp[has];omega⟩
   .by_cases e:k<gs.length
    .rw[PV e];exact d.gate k e
    grind
   .rw[Gu];exact⟨d.once,by simp,λa h b i e=>hm (by grind)⟩
theorem and_net (i:NetG n gs) (g:has (1+n+gs.length) a) (h:has (1+n+gs.length) b) (c:(andG n gs a b).2≠0):NetG n (andG n gs a b).1/\has (1+n+(andG n gs a b).1.length) (andG n gs a b).2:=by
 have f:has (1+n+gs.length) (-1):=⟨dC,oM,oM⟩;unfold andG at c⊢
 repeat' split
 .grind
 .grind
 .grind
 .grind
 .grind
 .next c1 c2 c3 d e=>
  rw[y3 c1,y3 c2,y3 c3,y3 d,y3 e] at c
  grind [put_net,has,gateA,gateOk,absI]
theorem xor_net (d:NetG n gs) (f:has (1+n+gs.length) a) (g:has (1+n+gs.length) b) (c:(xorG n gs a b).2≠0):NetG n (xorG n gs a b).1/\has (1+n+(xorG n gs a b).1.length) (xorG n gs a b).2:=by
 unfold xorG at c⊢
 repeat' split
 .exact⟨d,Yx g⟩
 .exact⟨d,Yx f⟩
 .grind [has]
 .grind [has]
 .next c1 c2 c3 e=>
  rw[y3 c1,y3 c2,y3 c3,y3 e] at c
  grind [put_net,gateX,has,absI,gateOk,turn_zero,Yx]
end
namespace Bd
variable {α β:Type}
def Hs:Nat->Bd α->(Nat->α->Prop)->Prop
 |k,.ret a,Q=>Q k a
 |k,.and x y c,Q=>has k x/\has k y/\∀l v,k<=l->has l v->Hs l (c v) Q
 |k,.xor x y c,Q=>has k x/\has k y/\∀l v,k<=l->has l v->Hs l (c v) Q
theorem Hs.bind {p:Bd α} {f:α->Bd β} {Q:Nat->α->Prop} {R:Nat->β->Prop}:∀{k:Nat},Hs k p Q->(∀l a,k<=l->p.Reach a->Q l a->Hs l (f a) R)->Hs k (p.bind f) R:=by
 induction p with
 |ret a=>exact λh g=>g _ a (gr _) rfl h
 |and x y c d|xor x y c d=>exact λ⟨e,i,h⟩ g=>⟨e,i,λl v b o=>d v (h l v b o) λm a hm n j=>g m a (gY b hm) ⟨v,n⟩ j⟩
theorem Hs.sound {n:Nat} {p:Bd α} {Q:Nat->α->Prop}:∀{gs gs':Gs} {a:α},NetG n gs->p.run n gs=some (gs',a)->Hs (1+n+gs.length) p Q->NetG n gs'/\Q (1+n+gs'.length) a:=by
 induction p with
 |ret c=>
  intro gs gs' a b h hs;simp only[run,Gr,Gw] at h;obtain⟨rfl,rfl⟩:=h;exact⟨b,hs⟩
 |and x y c f=>
  intro gs gs' a b h ⟨d,e,hs⟩
  grind [run,and_net,and_pre]
 |xor x y c f=>
  intro gs gs' a b h ⟨d,e,hs⟩
  grind [run,xor_net,xor_pre]
end Bd
abbrev HI (k:Nat) (p:Bd Int):Prop:=p.Hs k has
abbrev HL (k:Nat) (p:Bd (oI)):Prop:=p.Hs k hasL
section
variable {k:Nat} {x y c s:Int} {xs ys:oI}
theorem nilL:hasL k []:=λ_ h=>by cases h
theorem or_h (a:has k x) (b:has k y):HI k (orB x y):=⟨has_neg a,has_neg b,λ_ _ _ h=>has_neg h⟩
theorem Z10 (a:has k c) (f:has k x) (g:has k y):HI k (muxB c x y):=⟨a,f,λ_ _ b d=>⟨has_mono (has_neg a) b,has_mono g b,λ_ _ h e=>or_h (has_mono d h) e⟩⟩
theorem Xa0 {α:Type} {p:Bd α} {f:α->oI} {Q:Nat->α->Prop} (c:p.Hs k Q) (b:∀l a,Q l a->hasL l (f a)):HL k (p.map f):=c.bind λl a _ _ h=>b l a h
theorem jU0 {p:Bd (oI)} (hs:has k s) (b:HL k p):HL k (p.map (s:: ·)):=b.bind λ_ _ a _ c=>yy0.2 ⟨has_mono hs a,c⟩
theorem jj0:HL k (.ret []):=nilL
theorem sum_h:∀{xs ys:oI} {c:Int} {k:Nat},hasL k xs->hasL k ys->has k c->HL k (sumB xs ys c)
 |[],_,_,_,_,_,_=>jj0
 |_::_,[],_,_,_,_,_=>jj0
 |x::xs,y::ys,c,k,a,b,g=>by
  obtain⟨a,d⟩:=yy0.1 a;obtain⟨b,e⟩:=yy0.1 b;exact⟨a,b,λ_ _ m f=>⟨f,has_mono g m,λ_ _ o h=>⟨has_mono a oM,has_mono b oM,λ_ _ p i=>⟨has_mono f oM,has_mono g oM,λ_ _ n j=>
   (or_h (has_mono i n) j).bind λ_ _ q _ l=>jU0 (has_mono h oM) (sum_h (d.mono oM) (e.mono oM) l)⟩⟩⟩⟩
theorem less_h:∀{xs ys:oI} {c:Int} {k:Nat},hasL k xs->hasL k ys->has k c->HI k (lessB xs ys c)
 |[],_,_,_,_,_,h=>h
 |_::_,[],_,_,_,_,h=>h
 |x::xs,y::ys,c,k,b,a,j=>by
  obtain⟨b,d⟩:=yy0.1 b;obtain⟨a,e⟩:=yy0.1 a;exact⟨b,a,λ_ _ f g=>(Z10 g (has_mono a f) (has_mono j f)).bind λ_ _ l _ i=>less_h (d.mono oM) (e.mono oM) i⟩
theorem same_h:∀{xs ys:oI} {c:Int} {k:Nat},hasL k xs->hasL k ys->has k c->HI k (sameB xs ys c)
 |[],_,_,_,_,_,h=>h
 |_::_,[],_,_,_,_,h=>h
 |x::xs,y::ys,c,k,a,d,i=>by
  obtain⟨a,b⟩:=yy0.1 a;obtain⟨d,e⟩:=yy0.1 d;exact⟨a,d,λ_ _ j f=>⟨has_mono i j,has_neg f,λ_ _ l g=>same_h (b.mono oM) (e.mono oM) g⟩⟩
theorem each_h {f:Int->Int->Bd Int}:∀{xs ys:oI} {k:Nat},(∀l x y,k<=l->has l x->has l y->HI l (f x y))->hasL k xs->hasL k ys->HL k (eachB f xs ys)
 |[],_,_,_,_,_=>jj0
 |_::_,[],_,_,_,_=>jj0
 |x::xs,y::ys,k,e,a,c=>by
  obtain⟨a,b⟩:=yy0.1 a;obtain⟨c,d⟩:=yy0.1 c;exact(e k x y (gr _) a c).bind λ_ _ g _ h=>jU0 h (each_h (λl x y i=>e l x y oM) (b.mono g) (d.mono g))
theorem row_h:∀{xs:oI} {k:Nat},hasL k xs->has k s->HL k (rowB s xs)
 |[],_,_,_=>jj0
 |x::xs,k,a,hs=>by
  obtain⟨a,b⟩:=yy0.1 a;exact⟨a,hs,λ_ _ c d=>jU0 d (row_h (b.mono c) (has_mono hs c))⟩
theorem mul_h:∀{ys:oI} {i:Nat} {s:oI} {k:Nat},1<=k->hasL k xs->hasL k ys->hasL k s->HL k (mulB xs ys i s)
 |[],_,_,_,_,_,_,h=>h
 |y::ys,i,s,k,g,c,a,hs=>by
  obtain⟨a,b⟩:=yy0.1 a;exact(row_h (kH c) a).bind λ_ _ f _ d=>(sum_h (hs.mono f) (Zy (qx oM) d) (has_mone oM)).bind λ_ _ j _ e=>mul_h oM (c.mono oM) (b.mono oM) e
theorem div_h {w:oI}:∀{n:Nat} {r q:oI} {k:Nat},1<=k->n<=xs.length->hasL k xs->hasL k w->hasL k r->hasL k q->(divB xs w n r q).Hs k λk p=>hasL k p.1/\hasL k p.2
 |0,_,_,_,_,_,_,_,e,b=>⟨b,e⟩
 |n+1,r,q,k,i,o,c,hw,e,b=>by
  have a:hasL k (xs.getD n 0::r):=(by grind [yy0,jW]);exact(less_h a hw (has_mone i)).bind λ_ _ f _ d=>(sum_h (a.mono f) (kW (hw.mono f)) (has_one oM)).bind λ_ _ s _ g=>
   (each_h (λl _ _ m c j=>Z10 (has_mono d oM) c j) (kH (a.mono oM)) (kH g)).bind λ_ _ t _ h=>
    div_h oM oM (c.mono oM) (hw.mono oM) h (hasL_set (b.mono oM) (has_neg (has_mono d oM)))
theorem shift_h {up:Bool}:∀{ys:oI} {i:Nat} {s:oI} {k:Nat},has k c->hasL k ys->hasL k s->HL k (shiftB up c ys i s)
 |[],_,_,_,_,_,h=>h
 |y::ys,i,s,k,j,a,hs=>by
  obtain⟨a,d⟩:=yy0.1 a;refine(each_h (λl _ _ m e b=>Z10 (has_mono a m) e b) (λx e=>?_) hs).bind λ_ _ f _ g=>shift_h (has_mono j f) (d.mono f) g
  grind [from_has]
theorem un_h {op:Int} (b:1<=k) (a:hasL k xs):HL k (unB op xs):=by
 unfold unB;split
 .exact kW a
 grind [sum_h,qx,kW,has_one]
theorem bin_h {op:Int} (c:1<=k) (a:hasL k xs) (b:hasL k ys) (e:op≠14->0<xs.length):HL k (binB op xs ys):=by
 have one:=λl (h:k<=l)=>has_mone (k:=l) (gY c h);have off:=qx (n:=xs.length) c;have d:=div_h (q:=offsL xs.length) c (gr _) a (Zy b (yy0.2 ⟨one k (gr _),nilL⟩)) off off;unfold binB
 repeat' split
 .exact Zy b a
 .exact each_h (λ_ _ _ _ a b=>⟨a,b,λ_ _ _ h=>h⟩) a b
 .grind [each_h,or_h]
 .exact each_h (λ_ _ _ _ a b=>⟨a,b,λ_ _ _ h=>h⟩) a b
 .exact sum_h a b (has_mone c)
 .grind [sum_h,kW,has_one]
 .exact mul_h c a b off
 .exact Xa0 d λ_ _ h=>h.1
 .exact Xa0 d λ_ _ h=>h.2
 .exact shift_h (has_mone c) b a
 .exact shift_h (has_mone c) b a
 grind [shift_h,jW]
theorem cmp_h {op:Int} (b:1<=k) (e:hasL k xs) (f:hasL k ys) (c:xs.length=ys.length) (a:0<xs.length):HI k (cmpB op xs ys):=by
 have d:xs≠[]:=by grind
 grind [cmpB,same_h,has_one,less_h,has_mone,swap_has]
theorem seq_h {k0:Nat} {f:Tm->Bd (oI)}:∀{ks:List Tm} {k:Nat},k0<=k->(∀t,t∈ks->∀k,k0<=k->HL k (f t))->(seqB (ks.map f)).Hs k λk rs=>∀r,r∈rs->hasL k r
 |[],_,_,_=>λ_ h=>by cases h
 |t::ks,k,b,a=>(a t gk k b).bind λ_ _ i _ c=>(seq_h (gY b i) λu hu=>a u (gp _ hu)).bind λ_ _ j _ d r g=>(gj.1 g).elim (λe=>e▸c.mono j) (d r)
end
theorem node_h {ds:List Dcl} {t:Tm} (f:declOk ds=true) (hs:sortM ds t≠ -1) {k:Nat} (m:1+bits ds<=k) {rs:List (oI)} (p:∀r,r∈rs->hasL k r) (w:rs.length=t.ks.length)
  (n:∀i,i<t.ks.length->(rs.getD i []).length=lenS (sortM ds (kid t i))):HL k (nodeB ds t rs):=by
 obtain⟨y,z,A,s,B,C,D⟩:=node_right f hs (L:=λi=>(rs.getD i []).length) n;have c:1<=k:=by have:=bits_pos' (dpos f);omega
 have j:=arity_ops (o:=t.op) (by have:=(sort_parts hs).1;grind [formed]);have g:∀i,i<t.ks.length->hasL k (rs.getD i []):=by grind
 have u:∀i,i<t.ks.length->1<=(rs.getD i []).length->has k ((rs.getD i []).getD 0 0):=by grind [jW]
 have one:∀{v:Int} {l:Nat},has l v->hasL l [v]:=λh=>yy0.2 ⟨h,nilL⟩;have d:25<=t.op->∀i,i<(if t.op=25 then 1 else 2)->has k ((rs.getD i []).getD 0 0):=by grind
 unfold nodeB
 repeat' split
 .exact fix_has c
 .next h=>exact name_has f (by simp_all[name_found,findD_lt]) m
 .exact one (has_one c)
 .next h=>exact one (has_neg (d oM 0 (by grind)))
 .next e h=>exact⟨d oM 0 (by grind),d oM 1 (by grind),λ_ _ _ h=>one h⟩
 .next e _ h=>exact(or_h (d oM 0 (by grind)) (d oM 1 (by grind))).bind λ_ _ _ _ h=>one h
 .grind [each_h,Z10,has_mono]
 .next h=>exact λx q=>g 0 oM x (GY (gU q))
 .grind [un_h]
 .next h=>
  obtain⟨a,b,_⟩:=s h.1 h.2;exact(cmp_h c (g 0 oM) (g 1 oM) b oM).bind λ_ _ _ _ h=>one h
 grind [bin_h]
theorem term_h {ds:List Dcl} (a:declOk ds=true):∀t:Tm,sortM ds t≠ -1->∀k:Nat,1+bits ds<=k->HL k (termB ds t):=by
 refine Tm.ind λt g hs k j=>?_;have h:=bits_pos' (dpos a);rw[termB_eq];refine(seq_h (k0:=(1+bits ds).toNat) oM λu hu l f=>g u hu ((sort_parts hs).2.1 u hu) l oM).bind λl rs f b c=>?_;obtain⟨d,e⟩:=seq_reach b;exact node_h a hs oM c d λi hi=>term_len a _ (good_kid hs hi) (e i hi)
end Go.M
end
section
namespace Go.M
variable {ds:List Dcl} {env:oI}
theorem Yl0 (ins:List Bool) (F:Gs):Rho (litV (valsG (true::ins) F)):=⟨λm h=>lit_neg _ h,by
 unfold litV;rw[X0 dC];exact XT⟩
theorem ins_lit (F:Gs):Ins (litV (valsG (true::insM ds env) F)) ds env:=λi hi=>by
 unfold litV;rw[X0 oM,show((2:Int)+i-1).toNat=i+1 by omega];exact vals_low hi
def nIn (ds:List Dcl):Nat:=(bits ds).toNat
theorem nIn_eq (h:declOk ds=true):(nIn ds:Int)=bits ds/\nIn ds<=8:=by
 have:=bits_pos' (dpos h)
 grind [decl_iff,nIn]
theorem insM_n (he:envOk ds env=true):(insM ds env).length=nIn ds:=by
 have a:=(env_ok he).1;have:=insM_len (env_ok he).2.1 (dpos a);have:=(nIn_eq a).1;omega
def listB (ds:List Dcl) (ts:List Tm):Option (Gs×List (oI)):=(seqB (ts.map (termB ds))).run (nIn ds) []
structure ListNet (ds:List Dcl) (ts:List Tm) (gs:Gs) (rs:List (oI)):Prop where
 net:NetG (nIn ds) gs
 many:rs.length=ts.length
 has:∀r,r∈rs->hasL (1+nIn ds+gs.length) r
 len:∀i,i<ts.length->(rs.getD i []).length=lenS (sortM ds (ts.getD i default))
structure ListSays (ds:List Dcl) (ts:List Tm) (gs:Gs) (rs:List (oI)):Prop extends ListNet ds ts gs rs where
 says:∀env,envOk ds env=true->rs.map (λr=>r.map (litV (valsG (true::insM ds env) gs)))=ts.map λu=>valB (sortM ds u) (evalM ds env u)
theorem nilG (n:Nat):NetG n []:=⟨by simp,λk h=>absurd h (by simp),pn⟩
theorem list_net {ts:List Tm} {gs:Gs} {rs:List (oI)} (a:declOk ds=true) (hs:∀t,t∈ts->sortM ds t≠ -1) (h:listB ds ts=some (gs,rs)):ListNet ds ts gs rs:=by
 obtain⟨b,c⟩:=seq_reach (Bd.reach_of_run h);have f:=nIn_eq a;obtain⟨p1,p2⟩:=Bd.Hs.sound (nilG _) h (seq_h (k0:=1+nIn ds) (by simp) λt d k e=>term_h a t (hs t d) k oM);exact⟨p1,b,p2,λi hi=>term_len a _ (hs _ (getD_mem hi _)) (c i hi)⟩
theorem list_says {ts:List Tm} {gs:Gs} {rs:List (oI)} (a:declOk ds=true) (hs:∀t,t∈ts->sortM ds t≠ -1) (h:listB ds ts=some (gs,rs)):ListSays ds ts gs rs:=by
 refine⟨list_net a hs h,λenv he=>?_⟩;have e:=nIn_eq a;refine(Says.sound (insM_n he) (nilG _) h (Pq _) (Q:=λk rs=>rs.map (λr=>r.map (litV (valsG (true::insM ds env) gs)))=ts.map λu=>valB (sortM ds u) (evalM ds env u)) ?_).2;refine seq_sat (k0:=1+nIn ds) (by simp) (λt g {k Q} d f=>?_) (λi rs _ c b=>b)
 grind [term_sat,Yl0,ins_lit]
def rootsC (rs:List (oI)):List (oI):=rs.map λr=>[r.getD 0 0]
def blastC (ds:List Dcl) (gs:Gs) (rs:List (oI)):Cnf:=netC (nIn ds) gs (rootsC rs)
def allT (ds:List Dcl) (env:oI) (ts:List Tm):Prop:=∀t,t∈ts->evalM ds env t=1
section
variable {ts:List Tm} {gs:Gs} {rs:List (oI)}
theorem head_mem {r:oI} {w:Int} (h:r.length=lenS w):r.getD 0 0∈r:=getD_mem (by unfold lenS at h;omega) 0
theorem roots_ok (n:declOk ds=true) (h:ListNet ds ts gs rs):∀cl,cl∈rootsC rs->yZ (1+nIn ds+gs.length:Nat) cl=true:=λcl a=>by
 obtain⟨r,f,rfl⟩:=gy.1 a;obtain⟨i,hi,e⟩:=gq f;have d:=h.len i (by have:=h.many;omega);rw[y4,gd hi,GD,e] at d;have b:=h.has r f _ (head_mem d);refine Jd.2 λk g=>?_;simp only[gG] at g;have c:k=0:=oM
 subst c;refine⟨?_,.inl rfl⟩;show litOk _ (r.getD 0 0)=true;have j:=b.1;have l:=b.2.1;have m:=b.2.2
 grind [litOk]
theorem way_true (he:envOk ds env=true) (hs:∀t,t∈ts->sortM ds t=0) (h:ListSays ds ts gs rs) {v:Nat->Bool} (o:Follows v (nIn ds) gs) (hi:insV v (nIn ds)=insM ds env):
  (∀cl,cl∈rootsC rs->clT v cl)↔allT ds env ts:=by
 have b:=h.says env he;have q:∀i,i<ts.length->(litT v ((rs.getD i []).getD 0 0)=true↔evalM ds env (ts.getD i default)=1):=λi a=>by
  have hm:=h.many;have g:=h.len i a;have f:=hs _ (getD_mem a default);have p:=h.has _ (getD_mem (show i<rs.length by omega) []) _ (head_mem g);rw[o.lit p,hi];have j:(rs.map (λr=>r.map (litV (valsG (true::insM ds env) gs)))).getD i []=(rs.getD i []).map (litV (valsG (true::insM ds env) gs)):=(by grind);have k:(ts.map λu=>valB (sortM ds u) (evalM ds env u)).getD i []=valB (sortM ds (ts.getD i default)) (evalM ds env (ts.getD i default)):=(by grind);rw[b,k,f,ZU] at j
  grind [head_rho]
 constructor
 .intro n t s;obtain⟨i,a,e⟩:=gq s;have hm:=h.many;obtain⟨l,g,w⟩:=n [(rs.getD i []).getD 0 0] (gy.2 ⟨_,getD_mem oM [],rfl⟩)
  grind
 .intro m cl c;obtain⟨r,d,rfl⟩:=gy.1 c;obtain⟨i,a,e⟩:=gq d;have hm:=h.many;refine⟨r.getD 0 0,gx.2 rfl,?_⟩;have:=(q i oM).2 (m _ (getD_mem oM default))
  grind
end
end Go.M
end
namespace Go.Proofs.YtfnpmncplaibiaaGreatDoor
open Go Go.Vc Go.Proofs
section
variable {w:World} {ar ab:Addr}
theorem Errs.ext0 {w':World} (h:Errs (λ_=>False) w ar ab) (he:Ext w w'):Errs (λ_=>False) w' ar ab:=⟨h.room.same he id,h.bits.same he id,id,id⟩
end
section
variable {w:World} {K:oK} {gs:M.Gs} {gv:Value} {t:M.Tm}
theorem jI0 {w':World} (a:OwnG w gv gs):vbi .len [zA] zE [gv] w' K=K (nI gs.length) w':=by
 have h:=Own.sl a;simp only[push_cast,h.len,K3]
theorem one_bool {c:Bool} {K:oK} (d:∀w' b,b=w.heap.size->Ext w w'->OwnB xx w' (.slice (some ⟨b,0,none⟩) 1 1) [c]->K (.slice (some ⟨b,0,none⟩) 1 1) w'):vbuildS xx 1 [(0,.bool c)] w K:=
 qJ (y:=[.bool c]) yW0 xn0 qO0 rfl rfl dC λb w' e he _ a=>d w' b e he (Blk.own1 (t:=xx) (cs:=[.bool c]) (by rw[K7];exact a) (Gf _) rfl rfl oM)
end
section
variable {w:World} {K:oK} {D F F' G:oA} {n m:Nat} {gs:M.Gs} {v dv:Value} {env:oI} {ds:List M.Dcl} {t:M.Tm}
theorem yA0 {i:Nat} (hi:i<gs.length):(gs.map ym).getD i []=ym gs[i]:=by simp[y4,hi]
theorem insM_app:∀{d1 d2:List M.Dcl} {b a:oI},d1.length=b.length->M.insM (d1++d2) (b++a)=M.insM d1 b++M.insM d2 a
 |[],d2,[],a,_=>by cases d2<;>cases a<;>rfl
 |d::d1,d2,e::b,a,h=>by
  show(M.bitsN d.2.toNat e.toNat).reverse++M.insM (d1++d2) (b++a)=((M.bitsN d.2.toNat e.toNat).reverse++M.insM d1 b)++M.insM d2 a;rw[insM_app (by simpa using h),gZ]
theorem insM_take {i:Nat} (c:env.length=ds.length) (hi:i<ds.length):M.insM (ds.take (i+1)) (env.take (i+1))=M.insM (ds.take i) (env.take i)++(M.bitsN ((ds.getD i (M.nada,0)).2).toNat (env.getD i 0).toNat).reverse:=by
 have a:ds.take (i+1)=ds.take i++[ds.getD i (M.nada,0)]:=M.take_add hi _;have b:env.take (i+1)=env.take i++[env.getD i 0]:=M.take_add oM _;rw[a,b,insM_app (by rw[gh,gh];omega)];simp[M.insM]
theorem BlastIns_spec {dv ev:Value} (O:DclsR F w dv ds) (he:Ints F' w ev env) (I:M.envOk ds env=true)
  (hK:∀w' r,Ext w w'->OwnB xx w' r (M.insM ds env)->(∀b,r.ownBlock=some b->w.heap.size<=b)->K r w'):vcall KR #[dv,ev] w K:=by
 refine ze {loops:=[(5,[5,15]),(8,[5,8])]} Tryz.func214 ?_;obtain⟨e,hlen,D⟩:=M.env_ok I;refine EnvOk_spec O he λw1 A=>?_;rw[I];simp only[push_cast,(O.ext A).len,Gp];have h4:=(M.decl_iff.1 e).1;refine vloop_up ds.length (λi u w'=> ∃r,u=[r,nI i]/\Ext w w'/\OwnB xx w' r (M.insM (ds.take i) (env.take i))/\∀b,r.ownBlock=some b->w.heap.size<=b) ⟨_,rfl,A,OwnB.nil,λb v=>by cases v⟩ ?_;rintro i _ _ w2 C hi ⟨r,rfl,t,l,H⟩ hC;refine oZ ?_;refine zb (λa=>?_) (λa=>?_)
 .have f:i<ds.length:=oM;have z:=O.ext t;have a7:=M.dcl_wide e f;obtain⟨n1,n2,n3,n4⟩:=M.vok_iff.1 (D i f);have a5:=M.bits_le e f;have a4:=(M.decl_iff.1 e).2.2;have E:(M.insM (ds.take i) (env.take i)).length<=8:=by
   have:=M.insM_len (ds:=ds.take i) (env:=env.take i) (by rw[gh,gh];omega) λd Q=>M.dpos e d (gU Q);omega
  have a1:(2:Int)^((ds.getD i (M.nada,0)).2).toNat<=16:=by
   have h1:(2:Nat)^((ds.getD i (M.nada,0)).2).toNat<=2^4:=gN oM oM;have h2:(((2:Nat)^((ds.getD i (M.nada,0)).2).toNat:Nat):Int)<=16:=oM;simpa using h2
  simp(disch:=exact oS) only[push_cast,z.iaddr,z.load];refine zi xL λb3 w3 a2 R a9 J=>?_;refine stDecl J λw4 X aa L=>?_;have o:Ext w2 w4:=Ext.then R X λy hy=>by subst hy;omega
  have m:=insM_take hlen f;generalize hp:M.insM (ds.take i) (env.take i)=ps at l E m;obtain⟨k,hk⟩:=PY n3;have n:env.getD i 0=(k:Int):=hk;rw[n] at m n4;rw[gu] at m;have a0:=he.ext t;generalize a8:(ds.getD i (M.nada,0)).2=wd at*;simp(disch:=exact oS) only[push_cast,L.ld1,zk];have Z:(M.bitsN wd.toNat k).reverse.length=wd.toNat:=(by rw[pE,M.bitsN_len]);have z2:=t.size;have z24:=o.size;refine vloop_up wd.toNat (λj u w'=> ∃r,u=[r,nI (wd-1-j)]/\Ext w w'/\OwnB xx w' r (ps++(M.bitsN wd.toNat k).reverse.take j)/\∀b,r.ownBlock=some b->w.heap.size<=b) ⟨r,by simp,t.trans o,by simpa using l.ext o,H⟩ ?_;rintro j _ _ w5 C1 hj ⟨r2,rfl,g,s,q⟩ N;refine oZ ?_;refine zb (λc=>?_) (λc=>?_)
  .have G:j<wd.toNat:=oM;have B:=he.ext g;simp(disch:=exact oS) only[push_cast,B.iaddr,B.load,n];rw[qI Wz V6,wrapU oM,show(wd-1-(j:Int))=((wd.toNat-1-j:Nat):Int) by omega];refine bit_spec oM oM ?_;have hx:(M.bitsN wd.toNat k).reverse.take (j+1)=(M.bitsN wd.toNat k).reverse.take j++[decide (k/2^(wd.toNat-1-j)%2=1)]:=by
    rw[M.take_add oM false];congr 2;rw[y4,pN (by rw[M.bitsN_len];exact G),M.bitsN_len,<-y4,M.bitsN_get oM]
   generalize decide (k/2^(wd.toNat-1-j)%2=1)=x at hx⊢;have a6:(ps++(M.bitsN wd.toNat k).reverse.take j).length<=100:=by rw[Q1,gh];omega
   refine one_bool λw6 b6 a3 p V=>?_;refine OwnV.app (us:=[.bool x]) (s.ext p) UO V.bools (by simp[Value.oneCell']) (by simp only[K3,gG];omega) (by simp only[K3,gG];omega) λv7 w7 W Y U=>?_;have z45:=g.size;have z6:=p.size;simp(disch:=omega) only[push_cast,zk];refine N G _ _ ⟨v7,by rw[show((wd.toNat:Int)-(0+1)-(j:Int)-1)=wd-1-((j+1:Nat):Int) by omega],Ext.then (g.trans p) Y λb v=>q b v,?_,λb v=>?_⟩
   .rw[hx,<-gZ];unfold OwnB;rw[gE];exact W
   .rcases U b v with h|h
    .exact q b h
    .omega
  .have T:j=wd.toNat:=oM;subst T;rw[gD oM,<-m] at s
   try simp(disch:=omega) only[push_cast,zk]
   exact hC f _ _ ⟨r2,rfl,g,s,q⟩
 .have S:i=ds.length:=oM;subst S;rw[gA,<-hlen,gA] at l;exact hK w2 r t l H
end
end Go.Proofs.YtfnpmncplaibiaaGreatDoor
namespace Go.Proofs.YtfnpmncplaibiaaGreatDoor
open Go Go.Vc Go.Proofs Go.M
section
variable {w:World} {K:oK} {F:oA}
theorem variable_spec {l:Int} (b: -9223372036854775807<=l) (c:l<=9223372036854775807) (d:K (nI l.natAbs) w):vcall Zu #[nI l] w K:=by
 refine ze {} Tryz.func265 ?_;simp(disch:=omega) only[push_cast];refine zb (λa=>?_) (λa=>?_)
 .simp(disch:=omega) only[push_cast,zk];rwa[show 0-l=(l.natAbs:Int) from by omega]
 .rwa[show l=(l.natAbs:Int) from by omega]
def CnfR (F:oA) (w:World) (v:Value) (c:Cnf):Prop:= ∃lv,v= .agg #[nI c.many,lv]/\Lists F w lv c.list
theorem CnfR.ext {v:Value} {c:Cnf} {w':World} (h:CnfR F w v c) (hw:Ext w w'):CnfR F w' v c:=by
 obtain⟨lv,b,a⟩:=h;exact⟨lv,b,a.ext hw⟩
end
section
variable {w:World} {Fr F':oA} {N:Nat} {c:Cnf}
structure RowsR (N:Nat) (Fr:oA) (w:World) (ls:List Value) (xss:List (oI)):Prop where
 nle:N<=w.heap.size
 own:∀i,i<xss.length->OwnI zh w (ls.getD i undef) (xss.getD i [])
 sub:∀i b,i<xss.length->(ls.getD i undef).ownBlock=some b->Fr b/\N<=b
 dj:∀i j b,i<j->j<xss.length->(ls.getD i undef).ownBlock=some b->(ls.getD j undef).ownBlock≠some b
section
variable {ls:List Value} {xss:List (oI)} {w':World} {S F':oA} {N:Nat}
theorem RowsR.same (h:RowsR N Fr w ls xss) (hw:Same S w w') (hF:∀x,Fr x->x<w.heap.size->¬S x):RowsR N Fr w' ls xss:=
 ⟨gY h.nle hw.size,λi hi=>(h.own i hi).same hw λb a=>hF b (h.sub i b hi a).1 ((h.own i hi).lt a),h.sub,h.dj⟩
theorem RowsR.ext (h:RowsR N Fr w ls xss) (hw:Ext w w'):RowsR N Fr w' ls xss:=h.same hw λ_ _ _ h=>h
theorem RowsR.weaken (h:RowsR N Fr w ls xss) (hF:∀b,Fr b->N<=b->b<w.heap.size->F' b):RowsR N F' w ls xss:=
 ⟨h.nle,h.own,λi b hi a=>⟨hF b (h.sub i b hi a).1 (h.sub i b hi a).2 ((h.own i hi).lt a),(h.sub i b hi a).2⟩,h.dj⟩
theorem RowsR.int (h:RowsR N Fr w ls xss) {i:Nat} (hi:i<xss.length):Ints Fr w (ls.getD i undef) (xss.getD i []):=(h.own i hi).ints.weaken λb a _=>(h.sub i b hi a).1
theorem RowsR.nil (a:N<=w.heap.size):RowsR N Fr w [] []:=⟨a,λi hi=>absurd hi (by simp),λi b hi=>absurd hi (by simp),λi j b _ c=>absurd c (by simp)⟩
theorem RowsR.snoc {v:Value} {xs:oI} (h:RowsR N Fr w ls xss) (p:ls.length=xss.length) (q:OwnI zh w v xs) (hF:∀b,v.ownBlock=some b->Fr b/\N<=b) (o:∀i b,i<xss.length->(ls.getD i undef).ownBlock=some b->v.ownBlock≠some b):RowsR N Fr w (ls++[v]) (xss++[xs]):=by
 have g:∀i,i<(xss++[xs]).length->(i<xss.length/\(ls++[v]).getD i undef=ls.getD i undef/\(xss++[xs]).getD i []=xss.getD i [])\/(i=xss.length/\(ls++[v]).getD i undef=v/\(xss++[xs]).getD i []=xs):=λi hi=>by
  simp only[Q1,gG] at hi;by_cases e:i<xss.length
  .exact .inl ⟨e,getD_app_l oM,getD_app_l e⟩
  .have c:i=xss.length:=oM;exact .inr ⟨c,by rw[c,<-p];simp,by rw[c];simp⟩
 refine⟨h.nle,λi hi=>?_,λi b hi d=>?_,λi j b l n d=>?_⟩
 .rcases g i hi with⟨a,c,k⟩|⟨a,c,k⟩
  .rw[c,k];exact h.own i a
  .rw[c,k];exact q
 .rcases g i hi with⟨a,c,k⟩|⟨a,c,k⟩
  .rw[c] at d;exact h.sub i b a d
  .rw[c] at d;exact hF b d
 .rcases g i oM with⟨a,c,k⟩|⟨a,c,k⟩
  .rw[c] at d;rcases g j n with⟨m,f,_⟩|⟨m,f,_⟩
   .rw[f];exact h.dj i j b l m d
   .rw[f];exact o i b a d
  .simp only[Q1,gG] at n;omega
end
structure CnfO (N:Nat) (w:World) (lv:Value) (ls:List Value) (c:Cnf):Prop where
 lst:OwnV zn w lv ls
 len:ls.length=c.list.length
 dl:∀b,lv.ownBlock=some b->N<=b
 rows:RowsR N (λb=>lv.ownBlock≠some b) w ls c.list
theorem CnfO.cnf {lv:Value} {ls:List Value} (h:CnfO N w lv ls c):CnfR (λb=>N<=b) w (.agg #[nI c.many,lv]) c:=
 ⟨lv,rfl,ls,h.len,h.lst.vals.weaken λb a _=>h.dl b a,λi hi=>(h.rows.own i hi).ints.weaken λb a _=>(h.rows.sub i b hi a).2⟩
theorem CnfO.same {lv:Value} {ls:List Value} {S:oA} {w':World} (h:CnfO N w lv ls c) (hw:Same S w w') (d:∀b,N<=b->b<w.heap.size->¬S b):CnfO N w' lv ls c:=
 ⟨h.lst.same hw λb a=>d b (h.dl b a) (h.lst.lt a),h.len,h.dl,⟨gY h.rows.nle hw.size,λi hi=>(h.rows.own i hi).same hw λb a=>d b (h.rows.sub i b hi a).2 ((h.rows.own i hi).lt a),h.rows.sub,h.rows.dj⟩⟩
theorem CnfO.ext {lv:Value} {ls:List Value} {w':World} (h:CnfO N w lv ls c) (hw:Ext w w'):CnfO N w' lv ls c:=h.same hw λ_ _ _ h=>h
theorem CnfO.down {lv:Value} {ls:List Value} {M:Nat} (h:CnfO N w lv ls c) (d:M<=N):CnfO M w lv ls c:=
 ⟨h.lst,h.len,λb a=>gY d (h.dl b a),⟨gY d h.rows.nle,h.rows.own,λi b hi a=>⟨(h.rows.sub i b hi a).1,gY d (h.rows.sub i b hi a).2⟩,h.rows.dj⟩⟩
def Xs0 (ls:List Value) (n b:Nat):Prop:= ∃i,i<n/\(ls.getD i undef).ownBlock=some b
theorem RowsR.owned {ls:List Value} {xss:List (oI)} (h:RowsR N Fr w ls xss):RowsR N (λb=>Fr b/\Xs0 ls xss.length b) w ls xss:=
 ⟨h.nle,h.own,λi b hi a=>⟨⟨(h.sub i b hi a).1,i,hi,a⟩,(h.sub i b hi a).2⟩,h.dj⟩
theorem RowsR.in {ls:List Value} {xss:List (oI)} (h:RowsR N Fr w ls xss) {b:Nat} (a:Xs0 ls xss.length b):N<=b/\b<w.heap.size:=by
 obtain⟨i,hi,a⟩:=a;exact⟨(h.sub i b hi a).2,(h.own i hi).lt a⟩
end
end Go.Proofs.YtfnpmncplaibiaaGreatDoor
end
