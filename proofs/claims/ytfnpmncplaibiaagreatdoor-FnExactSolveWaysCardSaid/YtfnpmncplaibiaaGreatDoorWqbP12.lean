import Derived.Test.YtfnpmncplaibiaaGreatDoorWqbP11
/- A part of the proof. -/
set_option linter.all false
set_option maxRecDepth 9999
set_option maxHeartbeats 2000000
noncomputable section
namespace Go.Proofs.YtfnpmncplaibiaaGreatDoor
open Go Go.Vc Go.Proofs
section
variable {w:World} {K:oK} {F D G:oA}
def Qb (G:oA) (n b4:Nat) (x:Nat):Prop:=(G x/\x<n)\/b4<x
structure RT (G:oA) (w0 w:World) (b3 b4:Nat) (kv:Value) (t:M.Tm):Prop where
 ext:Ext w0 w
 q:Blk w b3 [nI t.op,nI t.a,nI t.b,.string t.s,kv] za
 r:Blk w b4 WM za
 k:TmsR (λx=>G x/\x<w0.heap.size) w kv t.ks
 lo:w0.heap.size<=b4
section
variable {w0 w':World} {b3 b4:Nat} {kv:Value} {t:M.Tm}
theorem yh (h:RT G w0 w b3 b4 kv t) (he:Ext w w'):RT G w0 w' b3 b4 kv t:=⟨h.ext.trans he,h.q.ext he,h.r.ext he,h.k.ext he,h.lo⟩
theorem rt_enter {tv:Value} {B:Value->oK} (q:TermR G w tv t) (l:∀w' b3 b4 kv,RT G w w' b3 b4 kv t->B (ptr b3) (ptr b4) w'):
  yO0 za tv w λt3 e=>xS za e λt4 f=>B t3 t4 f:=by
 obtain⟨kv,rfl,d⟩:=q;refine zj λb2 w2 m c o j=>?_;refine zi zr λb3 r n a p k=>?_;have g:=c.trans a;exact l _ _ _ kv ⟨g,j.ext a,k,(d.weaken λb h i=>⟨h,i⟩).ext g,oM⟩
abbrev YF0 (K:oK) (w:World) (G:oA) (u:M.Tm):Prop:=∀w' rv,Ext w w'->TermR (λx=>G x\/w.heap.size<=x) w' rv u->K rv w'
theorem rt_give (h:RT G w0 w b3 b4 kv t) {rv:Value} {u:M.Tm} (hu:TermR (Qb G w0.heap.size b4) w rv u) (e:YF0 K w0 G u):
  zG za (ptr b4) rv w λ_ w1=>vlv za (ptr b4) w1 λr w2=>K r w2:=by
 obtain⟨cs,rfl,a⟩:=hu.cells;have f:=h.lo;refine qh h.r rfl a (λx d=>by rcases d with h|h<;>omega) λj c i b=>?_;exact e _ _ (Ext.then h.ext c λy g=>by subst g;exact h.lo) (b.weaken λx d _=>by
  rcases d with h|h
  .exact .inl h.1
  .exact .inr oM)
theorem qw {n:Nat} {rv:Value} {u:M.Tm} (hu:TermR (λx=>G x/\x<n) w' rv u):TermR (Qb G n b4) w' rv u:=hu.weaken λx a _=> .inl a
theorem rt_new (h:RT G w0 w b3 b4 kv t) {rv:Value} {u:M.Tm} (hu:TermR (λx=>w.heap.size<=x) w' rv u):TermR (Qb G w0.heap.size b4) w' rv u:=hu.weaken λx a _=> .inr (by have:=h.r.lt;omega)
theorem xZ (h:RT G w0 w b3 b4 kv t):TermR (λx=>G x/\x<w0.heap.size) w (.agg ⟨[nI t.op,nI t.a,nI t.b,.string t.s,kv]⟩) t:=⟨kv,rfl,h.k⟩
end
theorem spec_TermSame_spec:∀(t:M.Tm) {w:World} {K:oK} {F G:oA} {va vb:Value} {u:M.Tm},TermR F w va t->TermR G w vb u->(∀w',Ext w w'->K (.bool (decide (t=u))) w')->vcall KA #[va,vb] w K:=by
 refine M.Tm.ind λt Y w K F G va vb u Q R L=>?_;refine ze {loops:=[(4,[5])],cuts:=[(8195,[])]} Tryz.func226 ?_;obtain⟨kva,rfl,f⟩:=Q;obtain⟨kvb,rfl,v⟩:=R;refine zj λb1 w1 S D V z=>?_;refine zj λb2 w2 T q W k=>?_;have p:=z.ext q;have l:=D.trans q;have no:∀w',Ext w w'->t≠u->K (.bool false) w':=λw' h U=>by
  have:=L w' h;rwa[gm U] at this
 refine zp (λx w'=>x=[]/\w'=w2/\t.op=u.op/\t.a=u.a/\t.b=u.b/\t.s=u.s/\t.ks.length=u.ks.length) (λC A=>?_) ?_
 .simp only[push_cast,p.ld0,k.ld0,p.ld1,k.ld1,p.ld2,k.ld2,p.ld3,k.ld3,p.ld4,k.ld4,(f.ext l).len,(v.ext l).len];refine zb (λe=>no _ l λh=>e (by rw[h])) (λH=>?_);refine zb (λe=>no _ l λh=>e (by rw[h])) (λI=>?_);refine zb (λe=>no _ l λh=>e (by rw[h])) (λJ=>?_);refine zb (λe=>no _ l λh=>e (by rw[h])) (λy=>?_);refine zb (λe=>no _ l λh=>e (by rw[h])) (λe5=>?_);exact A _ _ ⟨rfl,rfl,oM,oM,oM,by simpa using y,oM⟩
 rintro x g E ⟨rfl,rfl,H,I,J,y,el⟩;have X:=f.small;refine vloop_up t.ks.length (λi x w'=>x=[nI i]/\Ext E w'/\∀j,j<i->t.ks.getD j default=u.ks.getD j default) ⟨rfl,Same.refl _ _,λj N=>absurd N oM⟩ ?_;rintro i _ _ w3 C hi ⟨rfl,c,m⟩ A;have n:=l.trans c;have B:=f.ext n;have O:=p.ext c;simp(disch:=exact oS) only[push_cast,O.ld4,B.len];refine zb (λa=>?_) (λa=>?_)
 .refine zd λw4 d _=>?_;have o:=n.trans d;have Z:=O.ext d;have r4:=k.ext (c.trans d);obtain⟨ca,sa,la,ka⟩:=f.ext o;obtain⟨cb,sb,lb,kb⟩:=v.ext o;simp(disch:=exact oS) only[push_cast,Z.ld4,r4.ld4,sa.iaddr,sa.ldAgg,sb.iaddr,sb.ldAgg,k5];refine Y _ (M.getD_mem oM _) (ka i oM).term (kb i oM).term λw8 r=>?_;simp only[push_cast,k5];refine zm (λb=>?_) (λb=>?_)
  .rw[gS,decide_eq_false_iff_not] at b;exact no _ (o.trans r) λh=>b (by rw[h])
  .rw[gW,V0] at b;rw[inc64' oM];refine A oM _ _ ⟨rfl,c.trans (d.trans r),λj N=>?_⟩;by_cases e:j<i
   .exact m j e
   .have:j=i:=oM;subst this;exact b
 .have:t=u:=M.tm_ext H I J y (gM el λj z k=>by
   have:=m j oM;rwa[y4,gd z,y4,gd k] at this)
  have:=L w3 n;rwa[gz ‹t=u›] at this
theorem l3False_spec (i:∀w' v,Ext w w'->TermR (λb=>w.heap.size<=b) w' v M.flsT->K v w'):vcall VG #[] w K:=by
 refine ze {} Tryz.func224 ?_;refine zi zr λb1 w1 k d m g=>?_;refine oZ ?_;refine Xc0 (Q3 (o:=24) (F:=λ_=>False)) λw2 a c n u=>?_;refine oZ ?_;have l:TmR (λb=>b≠b1/\w.heap.size<=b) w2 _ M.flsT:=(TmR.of (t:=M.flsT) u).weaken λz r _=>by
  rcases r with h|h
  .exact h.elim
  .exact⟨oM,oM⟩
 refine qh (g.ext c) rfl l (λx p=>p.1) λA f s e=>?_;exact i _ _ (Ext.then (d.trans c) f λy q=>by subst q;omega) (e.weaken λb j _=>j.2)
theorem l3Bool_spec {b:Bool} (l:∀w' v,Ext w w'->TermR (λb=>w.heap.size<=b) w' v (M.boolM b)->K v w'):vcall Uh #[.bool b] w K:=by
 refine ze {} Tryz.func170 ?_;refine zi zr λb1 w1 o c p k=>?_;refine zm (λa=>?_) (λa=>?_)
 .subst a;refine oZ ?_;refine qh k rfl (yr0 24 0 0 _:TmR (λ_=>False) w1 _ _) (λx n=>n.elim) λq e j d=>?_;exact l _ _ (Ext.then c e λy i=>by subst i;omega) (d.weaken λb m _=>m.elim)
 .subst a;refine l3False_spec λw2 v f h=>?_;obtain⟨cs,rfl,g⟩:=h.cells;refine qh (k.ext f) rfl g (λx n=>oM) λq e j d=>?_;exact l _ _ (Ext.then (c.trans f) e λy i=>by subst i;omega) (d.weaken λb m _=>by have:=c.size;omega)
@[push_cast] theorem bd_T2 (o a:Int):yA za [(0,nI o),(1,nI a)] w K=K (.agg ⟨[nI o,nI a,nI 0,.string ⟨#[]⟩,oN]⟩) w:=zU jg (us:=[[nI o],[nI a]]) rfl rfl
theorem l3Zero_spec {s:Int} (f:∀w' v,Ext w w'->TermR (λb=>w.heap.size<=b) w' v (.mk 20 s 0 M.nada [])->K v w'):vcall Uf #[nI s] w K:=by
 refine ze {} Tryz.func274 ?_;refine zi zr λb1 w1 h a i e=>?_;refine oZ ?_;refine qh e rfl (yr0 20 s 0 _:TmR (λ_=>False) w1 _ _) (λx j=>j.elim) λm d l c=>?_;exact f _ _ (Ext.then a d λy k=>by subst k;omega) (c.weaken λb g _=>g.elim)
theorem kg {v:Value} {t:M.Tm} (B:TermR F w v t) (G:∀w',Ext w w'->K (.tuple #[nI ((M.fixedM t).getD 0),.bool (M.fixedM t).isSome]) w'):vcall Jz #[v] w K:=by
 refine ze {} Tryz.func222 ?_;have r:=B;obtain⟨kv,rfl,y⟩:=B;refine zj λb1 w1 H m J A=>?_;have out:∀w' o,Ext w w'->M.fixedM t=o->K (.tuple #[nI (o.getD 0),.bool o.isSome]) w':=λw' o h e=>by rw[<-e];exact G w' h
 rw[A.ldAgg (t:=za) zc];refine oZ ?_;refine spec_TermSame_spec t (r.ext m) (Q3 (o:=24) (F:=λ_=>False)) λN n=>?_;have k:=m.trans n;refine zb (λd=>?_) (λd=>?_)
 .exact out N (some 1) k (X0 d)
 have z: ¬t=M.truT:=d;refine zd λR p _=>?_;have l:=k.trans p;have C:=A.ext (n.trans p);simp only[push_cast,C.ldAgg (t:=za) zc,k5];refine l3False_spec λS fv g x=>?_;have D:=C.ext g;simp only[push_cast,D.ldAgg (t:=za) zc,k5,gi];refine spec_TermSame_spec t (r.ext (l.trans g)) x λO q=>?_;have c:=l.trans (g.trans q);have j:=D.ext q;refine zb (λf=>?_) (λf=>?_)
 .refine out O (some 0) c ?_;unfold M.fixedM;rw[y3 z,X0 f]
 have E: ¬t=M.flsT:=f;have no:∀w',Ext w w'->¬(t.op=20/\t.ks=[]/\t.s=M.nada/\M.vok t.a t.b=true)->K (.tuple #[nI 0,.bool false]) w':=λw' h I=>out w' none h (by unfold M.fixedM;rw[y3 z,y3 E,y3 I]);simp only[push_cast,j.ld0];refine zb (λc1=>?_) (λc1=>no _ c λh=>c1 h.1);simp only[push_cast,j.ld4,(y.ext c).len];refine zb (λc2=>?_) (λc2=>no _ c λh=>c2 (nil_len.2 h.2.1))
 try simp only[push_cast,j.ld3]
 refine zb (λc3=>?_) (λc3=>no _ c λh=>c3 h.2.2.1)
 try simp only[push_cast,j.ld1,j.ld2]
 refine spec_VecOk_spec λQ i=>?_;have L:=j.ext i;refine zm (λu=>?_) (λu=>no _ (c.trans i) λh=>by rw[h.2.2.2] at u;cases u);simp only[push_cast,L.ld2];refine out Q (some t.b) (c.trans i) ?_;rw[yB0 c1,X0 ⟨nil_len.1 c2,c3,u⟩]
theorem qk {v:Value} {t:M.Tm} {n:Int} (i:TermR F w v t) (f:∀w',Ext w w'->K (.bool (M.isM t n)) w'):vcall xc0 #[v,nI n] w K:=by
 refine ze {} Tryz.func225 ?_;obtain⟨cs,rfl,a⟩:=i.cells;refine zj λb1 w1 g b h d=>?_;rw[d.ldAgg (t:=za) (by rw[zV a];exact zc)];refine kg (a.ext b).term λw2 c=>?_;have:=f w2 (b.trans c);unfold M.isM at this;simp only[push_cast];cases e:M.fixedM t with
 |none=>rw[e] at this;exact this
 |some m=>
  rw[e] at this;simp only[Gr] at this;exact this
theorem l3All_spec {v:Value} {t:M.Tm} (G:TermR F w v t) (q:∀w',Ext w w'->K (.bool (M.allFixed t)) w'):vcall y80 #[v] w K:=by
 refine ze {loops:=[(2,[3])]} Tryz.func168 ?_;obtain⟨kv,rfl,n⟩:=G;refine zj λb1 w1 A p D s=>?_;have E:=n.small;refine vloop_up t.ks.length (λi u w'=>u=[nI i]/\Ext w1 w'/\∀j,j<i->(M.fixedM (t.ks.getD j default)).isSome=true) ⟨rfl,Same.refl _ _,λj o=>absurd o oM⟩ ?_;rintro i _ _ I C hi ⟨rfl,g,d⟩ y;have f:=p.trans g;have r:=s.ext g;have a:=n.ext f;simp only[push_cast,r.ld4,a.len];refine zb (λb=>?_) (λb=>?_)
 .simp(disch:=exact oS) only[push_cast,a.iaddr];refine a.load zc oM λx H=>?_;refine kg H λJ m=>?_;refine oZ ?_;refine zm (λc=>?_) (λc=>?_)
  .rw[gS] at c;have:M.allFixed t=false:=by
    unfold M.allFixed;rw[GH];right;rw[List.all_eq_false];exact⟨_,M.getD_mem (l:=t.ks) (i:=i) oM default,by rw[c];decide⟩
   have h:=q J (f.trans m);rwa[this] at h
  .rw[gW] at c;rw[inc64' oM];refine y oM _ _ ⟨rfl,g.trans m,λj o=>?_⟩;by_cases e:j<i
   .exact d j e
   .have:j=i:=oM;subst this;exact c
 .try simp only[push_cast,r.ld4,a.len]
  have:M.allFixed t=decide (0<(t.ks.length:Int)):=by
   unfold M.allFixed;have z:(t.ks.all λk=>(M.fixedM k).isSome)=true:=by
    rw[gQ];intro k B;obtain⟨j,o,rfl⟩:=gq B;have:=d j oM;rwa[y4,gd o] at this
   rw[z,PU];have e:(t.ks≠[])↔0<(t.ks.length:Int):=by rw[<-GQ];omega
   exact decide_eq_decide.2 e
  have h:=q I f;rwa[this] at h
theorem l3Right_spec {v:Value} {t:M.Tm} (ht:TermR G w v t) (h2:t.ks.length=2) (m:YF0 K w G (M.rightS t)):vcall VE #[v] w K:=by
 refine ze {cuts:=[(20491,[15])]} Tryz.func228 ?_;refine rt_enter (B:=λt3 t4 a7=>_) ht λw1 b3 b4 kv rs=>?_;simp(disch:=exact oS) only[push_cast,rs.q.ld4,rs.k.iaddr];refine rs.k.load zc oM λx hx=>?_;obtain⟨c,rfl,S⟩:=hx.cells;refine zi zr λb5 w2 a0 F a2 h5=>?_;refine stTerm h5 rfl (S.ext F) λO T a4 R=>?_;have C:Ext w1 O:=Ext.then F T λy I=>by subst I;omega
 have N:=yh rs C;simp(disch:=exact oS) only[push_cast,N.q.ld4,N.k.iaddr];refine N.k.load zc oM λy I=>?_;obtain⟨c',rfl,s⟩:=I.cells;refine zi zr λb6 Z a1 H a3 h6=>?_;refine stTerm h6 rfl (s.ext H) λQ U a5 l=>?_;have n:Ext O Q:=Ext.then H U λy I=>by subst I;omega
 have J:=yh N n;have W:=R.ext n;have gc:aggB za c.length=true:=by rw[zV S];exact zc
 have f:aggB za c'.length=true:=by rw[zV s];exact zc
 have E:TmR (λx=>G x/\x<w.heap.size) Q c (M.kid t 0):=S.ext (C.trans n);have d:TmR (λx=>G x/\x<w.heap.size) Q c' (M.kid t 1):=s.ext n;simp only[push_cast,J.q.ld0];refine zp (λu w'=> ∃b:Bool,u=[.bool b]/\w'=Q/\(b=true↔t.op=4\/t.op=5\/t.op=6\/t.op=7\/t.op=11\/t.op=12\/t.op=13)) (λD hD=>?_) ?_
 .try simp only[push_cast]
  refine zb (λc=>hD _ _ ⟨_,rfl,rfl,⟨λ_=>oM,λ_=>by rw[V0];exact c⟩⟩) (λc1=>?_);refine zb (λc=>hD _ _ ⟨_,rfl,rfl,⟨λ_=>oM,λ_=>by rw[V0];exact c⟩⟩) (λc2=>?_);refine zb (λc=>hD _ _ ⟨_,rfl,rfl,⟨λ_=>oM,λ_=>by rw[V0];exact c⟩⟩) (λc3=>?_);refine zb (λc=>hD _ _ ⟨_,rfl,rfl,⟨λ_=>oM,λ_=>by rw[V0];exact c⟩⟩) (λc4=>?_);refine zb (λc=>hD _ _ ⟨_,rfl,rfl,⟨λ_=>oM,λ_=>by rw[V0];exact c⟩⟩) (λc5=>?_);refine zb (λc=>hD _ _ ⟨_,rfl,rfl,⟨λ_=>oM,λ_=>by rw[V0];exact c⟩⟩) (λc6=>?_);exact hD _ _ ⟨_,rfl,rfl,⟨λh=>by rw[V0] at h;omega,λh=>by rw[V0];omega⟩⟩
 rintro u g a6 ⟨b,rfl,rfl,X⟩;refine oZ ?_;have self:∀{w'},RT G w w' b3 b4 kv t->M.rightS t=t->zu za (ptr b3) w' λr w2=>zG za (ptr b4) r w2 λ_ O=>vlv za (ptr b4) O λr Z=>K r Z:=λ{w'} h e=>by
  rw[h.q.ldAgg (t:=za) zc];rw[e] at m;exact rt_give h (qw (xZ h)) m
 refine zm (λo=>?_) (λo=>?_)
 .have o4:=X.1 o;rw[l.ldAgg (t:=za) f];refine qk d.term λw6 a=>?_;have p:=yh J a;have e:M.rightS t=if M.isM (M.kid t 1) 0=true then M.kid t 0 else t:=by unfold M.rightS;rw[X0 o4]
  refine zm (λi=>?_) (λi=>?_)
  .rw[(W.ext a).ldAgg (t:=za) gc];rw[e,X0 i] at m;exact rt_give p (qw (E.ext a).term) m
  .exact self p (by rw[e,i];rfl)
 have A: ¬(t.op=4\/t.op=5\/t.op=6\/t.op=7\/t.op=11\/t.op=12\/t.op=13):=λh=>by have:=X.2 h;rw[o] at this;cases this
 try simp only[push_cast]
 refine zb (λL=>?_) (λL=>?_)
 .rw[l.ldAgg (t:=za) f];refine qk d.term λw6 a=>?_;have p:=yh J a;have e:M.rightS t=if M.isM (M.kid t 1) 0=true then M.kid t 1 else t:=by unfold M.rightS;rw[y3 A,X0 L]
  refine zm (λi=>?_) (λi=>?_)
  .rw[(l.ext a).ldAgg (t:=za) f];rw[e,X0 i] at m;exact rt_give p (qw (d.ext a).term) m
  .exact self p (by rw[e,i];rfl)
 try simp only[push_cast]
 refine zb (λV=>?_) (λV=>?_)
 .rw[l.ldAgg (t:=za) f];refine qk d.term λw6 a=>?_;have p:=yh J a;have e:M.rightS t=if M.isM (M.kid t 1) 0=true then M.kid t 1 else if M.isM (M.kid t 1) 1=true then M.kid t 0 else t:=by unfold M.rightS;rw[y3 A,y3 L,X0 V]
  refine zm (λi=>?_) (λi=>?_)
  .rw[(l.ext a).ldAgg (t:=za) f];rw[e,X0 i] at m;exact rt_give p (qw (d.ext a).term) m
  .rw[(l.ext a).ldAgg (t:=za) f];refine qk (d.ext a).term λw7 z=>?_;have Y:=yh p z;refine zm (λj=>?_) (λj=>?_)
   .rw[(W.ext (a.trans z)).ldAgg (t:=za) gc];rw[e,i,y3 dC,X0 j] at m;exact rt_give Y (qw (E.ext (a.trans z)).term) m
   .exact self Y (by rw[e,i,j];rfl)
 .exact self J (by unfold M.rightS;rw[y3 A,y3 L,y3 V])
theorem l3Alike_spec {v:Value} {t:M.Tm} {s:Int} (A:TermR G w v t) (H:t.ks.length=2) (i:YF0 K w G (M.alikeS t s)):vcall VH #[v,nI s] w K:=by
 refine ze {cuts:=[(12292,[7]),(24583,[14])]} Tryz.func227 ?_;refine rt_enter (B:=λt3 t4 E=>_) A λw1 b3 b4 kv rs=>?_;simp only[push_cast,rs.q.ld0];refine zp (λu w'=> ∃b:Bool,u=[.bool b]/\w'=w1/\(b=true↔t.op=3\/t.op=4)) (λD hD=>?_) ?_
 .try simp only[push_cast]
  refine zb (λc=>hD _ _ ⟨_,rfl,rfl,⟨λ_=>oM,λ_=>by rw[V0];exact c⟩⟩) (λc1=>?_);exact hD _ _ ⟨_,rfl,rfl,⟨λh=>by rw[V0] at h;omega,λh=>by rw[V0];omega⟩⟩
 rintro u g r ⟨b,rfl,rfl,y⟩;refine oZ ?_;refine zm (λo=>?_) (λo=>?_)
 .simp(disch:=exact oS) only[push_cast,rs.q.ld4,rs.k.iaddr];refine rs.k.load zc oM λx C=>?_;have e:M.alikeS t s=M.kid t 0:=by unfold M.alikeS;rw[X0 (y.1 o)]
  rw[e] at i;exact rt_give rs (qw C) i
 have n: ¬(t.op=3\/t.op=4):=λh=>by have:=y.2 h;rw[o] at this;cases this
 refine zp (λu w'=> ∃b:Bool,u=[.bool b]/\w'=r/\(b=true↔t.op=5\/t.op=7)) (λD hD=>?_) ?_
 .try simp only[push_cast]
  refine zb (λc=>hD _ _ ⟨_,rfl,rfl,⟨λ_=>oM,λ_=>by rw[V0];exact c⟩⟩) (λc1=>?_);exact hD _ _ ⟨_,rfl,rfl,⟨λh=>by rw[V0] at h;omega,λh=>by rw[V0];omega⟩⟩
 rintro I g2 z ⟨F,rfl,rfl,m⟩;refine oZ ?_;refine zm (λo=>?_) (λo=>?_)
 .have e:M.alikeS t s= .mk 20 s 0 M.nada []:=by unfold M.alikeS;rw[y3 n,X0 (m.1 o)]
  rw[e] at i;refine l3Zero_spec λw2 v2 a d=>?_;exact rt_give (yh rs a) (rt_new rs d) i
 have p: ¬(t.op=5\/t.op=7):=λh=>by have:=m.2 h;rw[o] at this;cases this
 try simp only[push_cast]
 refine zb (λj=>?_) (λj=>?_)
 .have e:M.alikeS t s=M.boolM true:=by unfold M.alikeS;rw[y3 n,y3 p,X0 j];rfl
  rw[e] at i;refine l3Bool_spec λw2 v2 a d=>?_;exact rt_give (yh rs a) (rt_new rs d) i
 by_cases l:t.op=16
 .have e:M.alikeS t s=M.boolM false:=by unfold M.alikeS;rw[y3 n,y3 p,y3 j,X0 (.inl l)];rfl
  rw[e] at i;simp only[l,decide_true,push_cast];refine l3Bool_spec λw2 v2 a d=>?_;exact rt_give (yh rs a) (rt_new rs d) i
 .simp only[l,decide_false,push_cast];refine zb (λf=>?_) (λf=>?_)
  .have e:M.alikeS t s=M.boolM false:=by unfold M.alikeS;rw[y3 n,y3 p,y3 j,X0 (.inr f)];rfl
   rw[e] at i;refine l3Bool_spec λw2 v2 a d=>?_;exact rt_give (yh rs a) (rt_new rs d) i
  .have e:M.alikeS t s=t:=by unfold M.alikeS;rw[y3 n,y3 p,y3 j,y3 oM]
   rw[e] at i;rw[rs.q.ldAgg (t:=za) zc];exact rt_give rs (qw (xZ rs)) i
end
section
variable {w:World} {K:oK} {F F' D G:oA}
theorem l3Logic_spec {v:Value} {t:M.Tm} {ds:List M.Dcl} (ht:TermR G w v t) (hs:M.sortM ds t≠ -1) (ad:23<=t.op) (ak:t.ks≠[]) (f:YF0 K w G (M.logicS t)):vcall VF #[v] w K:=by
 have hlen:=M.len_of hs;have aj:0<t.ks.length:=by grind
 have ab:=M.arity_ops (o:=t.op) oM;have a9:t.op=25->t.ks.length=1:=by grind [M.arity]
 have a8:t.op=23->t.ks.length=3:=by grind [M.arity]
 refine ze {cuts:=[(36874,[]),(65552,[61])]} Tryz.func171 ?_;refine rt_enter (B:=λt3 t4 au=>_) ht λw1 b3 b4 kv rs=>?_;simp(disch:=exact oS) only[push_cast,rs.q.ld4,rs.k.iaddr];refine rs.k.load zc oM λx hx=>?_;obtain⟨c,rfl,W⟩:=hx.cells;have gc:aggB za c.length=true:=by rw[zV W];exact zc
 refine zi zr λb5 w2 ae a5 al h5=>?_;refine stTerm h5 rfl (W.ext a5) λw3 an ap F=>?_;have U:Ext w1 w3:=by grind [Ext.then]
 have I:=yh rs U;have O:TmR (λx=>G x/\x<w.heap.size) w3 c (M.kid t 0):=W.ext U;simp only[push_cast,I.q.ld0];refine zb (λa4=>?_) (λa4=>?_)
 .obtain⟨ar,rfl,a0⟩:=O.inv;simp only[push_cast,F.ld0];refine zb (λd=>?_) (λd=>?_)
  .have k0:=M.good_kid hs (i:=0) (by have:=a9 a4;omega);have ag:(M.kid t 0).ks.length=1:=by have:=M.len_of k0;rw[d] at this;simp[M.arity] at this;omega
   simp(disch:=exact oS) only[push_cast,F.ld4,a0.iaddr];refine a0.load zc oM λy hy=>?_;have e:M.logicS t=M.kid (M.kid t 0) 0:=(by simp_all[M.logicS]);rw[e] at f;exact rt_give I (qw hy) f
  .have e:M.logicS t=t:=by unfold M.logicS;grind
   rw[e] at f;rw[I.q.ldAgg (t:=za) zc];exact rt_give I (qw (xZ I)) f
 try simp only[push_cast]
 refine zb (λa3=>?_) (λa3=>?_)
 .have ah:=a8 a3;have E:M.logicS t=if M.isM (M.kid t 0) 1=true\/(M.kid t 1=M.kid t 2/\¬M.isM (M.kid t 0) 0=true) then M.kid t 1 else if M.isM (M.kid t 0) 0=true then M.kid t 2 else t:=by simp_all[M.logicS]
  have D:∀{w'},RT G w w' b3 b4 kv t->(M.isM (M.kid t 0) 1=true\/(M.kid t 1=M.kid t 2/\¬M.isM (M.kid t 0) 0=true))->∀x,TermR (λx=>G x/\x<w.heap.size) w' x (M.kid t 1)->zG za (ptr b4) x w' λ_ w1=>vlv za (ptr b4) w1 λr w2=>K r w2:=λh W x hx=>by
   rw[E,X0 W] at f;exact rt_give h (qw hx) f
  refine zp (λu w'=>u=[]/\Ext w3 w'/\¬(M.isM (M.kid t 0) 1=true\/(M.kid t 1=M.kid t 2/\¬M.isM (M.kid t 0) 0=true))) (λC hC=>?_) ?_
  .refine zd λw4 b _=>?_;have r4:=yh I b;have A4:=F.ext b;have X:=O.ext b;simp only[push_cast,A4.ldAgg (t:=za) gc,k5];refine qk X.term λw5 p=>?_;have n:=yh r4 p;obtain⟨cks,H,ai,R⟩:=n.k;refine zm (λi=>?_) (λi=>?_)
   .simp(disch:=exact oS) only[push_cast,n.q.ld4,H.iaddr,H.ldAgg];exact D n (.inl i) _ (R 1 oM).term
   .simp(disch:=exact oS) only[push_cast,n.q.ld4,H.iaddr,H.ldAgg,k5];refine spec_TermSame_spec _ (R 1 oM).term (R 2 oM).term λw6 a=>?_;have r6:=yh n a;refine zb (λs=>?_) (λs=>?_)
    .have A6:=A4.ext (p.trans a);simp only[push_cast,A6.ldAgg (t:=za) gc,k5];refine qk (X.ext (p.trans a)).term λw7 m=>?_;have r7:=yh r6 m;have s7:=H.ext (a.trans m);simp only[push_cast,k5];refine zm (λj=>?_) (λj=>?_)
     .rw[gS] at j;simp(disch:=exact oS) only[push_cast,r7.q.ld4,s7.iaddr,s7.ldAgg];exact D r7 (.inr ⟨s,by grind⟩) _ ((R 1 oM).ext (a.trans m)).term
     .rw[gW] at j;exact hC _ _ ⟨rfl,b.trans (p.trans (a.trans m)),λh=>h.elim (λh=>by grind) λh=>h.2 j⟩
    .exact hC _ _ ⟨rfl,b.trans (p.trans a),λh=>h.elim (λh=>by grind) λh=>s h.1⟩
  rintro u g w4 ⟨rfl,b,hn⟩;have r4:=yh I b;rw[(F.ext b).ldAgg (t:=za) gc];refine qk (O.ext b).term λw5 p=>?_;have n:=yh r4 p;refine zm (λi=>?_) (λi=>?_)
  .simp(disch:=exact oS) only[push_cast,n.q.ld4,n.k.iaddr];refine n.k.load zc oM λy hy=>?_;rw[E,y3 hn,X0 i] at f;exact rt_give n (qw hy) f
  .rw[E,y3 hn,i,y3 dC] at f;rw[n.q.ldAgg (t:=za) zc];exact rt_give n (qw (xZ n)) f
 have o:t.op=26\/t.op=27:=by
  grind [M.arity]
 have l2:t.ks.length=2:=by grind [M.arity]
 simp(disch:=exact oS) only[push_cast,I.q.ld4,I.k.iaddr];refine I.k.load zc oM λy hy=>?_;obtain⟨c',rfl,S⟩:=hy.cells;have L:aggB za c'.length=true:=by rw[zV S];exact zc
 refine zi zr λb6 w4 af b am h6=>?_;refine stTerm h6 rfl (S.ext b) λw5 ao aq N=>?_;have J:Ext w3 w5:=by grind [Ext.then]
 have n:=yh I J;have A5:=F.ext J;have Q:=O.ext J;have z:TmR (λx=>G x/\x<w.heap.size) w5 c' (M.kid t 1):=S.ext J;simp only[push_cast,n.q.ld0];refine XF ?_;generalize aa:M.b2i (decide (t.op=26))=one;have ac:one=0\/one=1:=by grind [M.b2i]
 have E:M.logicS t=if M.isM (M.kid t 0) one=true\/M.kid t 0=M.kid t 1 then M.kid t 1 else if M.isM (M.kid t 1) one=true then M.kid t 0 else if M.isM (M.kid t 0) (1-one)=true\/M.isM (M.kid t 1) (1-one)=true then M.boolM (decide (one=0)) else t:=by
  simp_all[M.logicS]
 refine zp (λu w'=> ∃e:Bool,u=[.bool e]/\Ext w5 w'/\(e=true↔M.isM (M.kid t 0) one=true\/M.kid t 0=M.kid t 1)) (λC hC=>?_) ?_
 .rw[A5.ldAgg (t:=za) gc];refine qk Q.term λw6 a=>?_;refine zm (λi=>?_) (λi=>?_)
  .grind
  .try simp only[push_cast]
   rw[(A5.ext a).ldAgg (t:=za) gc,(N.ext a).ldAgg (t:=za) L];refine spec_TermSame_spec _ (Q.ext a).term (z.ext a).term λw7 m=>?_;refine hC _ _ ⟨_,rfl,a.trans m,?_⟩
   grind
 rintro u g w6 ⟨e,rfl,a,a6⟩;have r6:=yh n a;refine oZ ?_;refine zm (λi=>?_) (λi=>?_)
 .rw[(N.ext a).ldAgg (t:=za) L];rw[E,X0 (a6.1 i)] at f;exact rt_give r6 (qw (z.ext a).term) f
 have n1: ¬(M.isM (M.kid t 0) one=true\/M.kid t 0=M.kid t 1):=by grind
 rw[(N.ext a).ldAgg (t:=za) L];refine qk (z.ext a).term λw7 m=>?_;have r7:=yh r6 m;have A:=a.trans m;refine zm (λj=>?_) (λj=>?_)
 .rw[(A5.ext A).ldAgg (t:=za) gc];rw[E,y3 n1,X0 j] at f;exact rt_give r7 (qw (Q.ext A).term) f
 have n2: ¬M.isM (M.kid t 1) one=true:=by grind
 have a2:IntKind.i64.wrap (1-one)=1-one:=zk oM oM;rw[(A5.ext A).ldAgg (t:=za) gc];simp only[push_cast,a2];refine qk (Q.ext A).term λw8 Z=>?_;have r8:=yh r7 Z;refine zm (λk=>?_) (λk=>?_)
 .try simp only[push_cast]
  refine l3Bool_spec λw9 v9 T a7=>?_;rw[E,y3 n1,y3 n2,X0 (.inl k)] at f;exact rt_give (yh r8 T) (rt_new r8 a7) f
 have V:=A.trans Z;rw[(N.ext V).ldAgg (t:=za) L]
 try simp only[push_cast,a2]
 refine qk (z.ext V).term λw9 T=>?_;have r9:=yh r8 T;refine zm (λl=>?_) (λl=>?_)
 .try simp only[push_cast]
  refine l3Bool_spec λw10 v10 Y a1=>?_;rw[E,y3 n1,y3 n2,X0 (.inr l)] at f;exact rt_give (yh r9 Y) (rt_new r9 a1) f
 .rw[E,y3 n1,y3 n2,y3 (λh=>h.elim (λh=>by grind) λh=>by grind)] at f;rw[r9.q.ldAgg (t:=za) zc];exact rt_give r9 (qw (xZ r9)) f
theorem l3Two_spec {v:Value} {t:M.Tm} {s:Int} (ht:TermR G w v t) (h2:t.ks.length=2) (W:YF0 K w G (M.twoS t s)):vcall y60 #[v,nI s] w K:=by
 refine ze {cuts:=[(8197,[]),(36881,[]),(40974,[34]),(61455,[7])]} Tryz.func172 ?_;refine rt_enter (B:=λt3 t4 av=>_) ht λw1 b3 b4 kv rs=>?_;have l4:=rs.r.lt;have ap:=rs.lo;have low:∀{w':World} {cs:List Value} {u:M.Tm},Ext w1 w'->TmR (λx=>(G x/\x<w.heap.size)\/w'.heap.size<=x) w' cs u->True:=by grind
 clear low;refine zp (λu w'=>u=[]/\Ext w1 w'/\¬(M.kid t 0=M.kid t 1/\M.alikeS t s≠t)) (λC hC=>?_) ?_
 .refine zd λw2 a1 _=>?_;have r2:=yh rs a1;obtain⟨cks,m,a7,l⟩:=r2.k;simp(disch:=first|omega|simp only[push_cast]) only[push_cast,r2.q.ld4,m.iaddr,m.ldAgg,k5];refine spec_TermSame_spec _ (l 0 oM).term (l 1 oM).term λw3 Q=>?_;have U:=yh r2 Q;refine zb (λa=>?_) (λa=>?_)
  .rw[U.q.ldAgg (t:=za) zc];refine l3Alike_spec (xZ U) h2 λw4 rv S n=>?_;have r4:=yh U S;obtain⟨c,rfl,hc⟩:=n.cells;have gc:aggB za c.length=true:=by rw[zV hc];exact zc
   have ar:=U.r.lt;refine zi zr λb5 w5 ag a2 ai h5=>?_;have O:=(hc.weaken (F':=λx=>((G x/\x<w.heap.size)\/b4<x)/\x<w4.heap.size) λb h h'=>⟨h.imp id λh=>oM,h'⟩).ext a2;refine stTerm h5 rfl O λw6 a3 al h6=>?_;have R:Ext w4 w6:=(by grind [Ext.then]);have r6:=yh r4 R;have N:TmR (Qb G w.heap.size b4) w6 c (M.alikeS t s):=(O.same a3 λx J _ e=>oM).weaken λx J _=>J.1;rw[h6.ldAgg (t:=za) gc,r6.q.ldAgg (t:=za) zc];refine spec_TermSame_spec _ N.term (xZ r6) λw7 p=>?_;have Z:=yh r6 p;refine oZ ?_;refine zm (λd=>?_) (λd=>?_)
   .rw[gS,decide_eq_false_iff_not] at d;rw[(h6.ext p).ldAgg (t:=za) gc];have E:M.twoS t s=M.alikeS t s:=by unfold M.twoS;rw[X0 ⟨a,d⟩]
    rw[E] at W;exact rt_give Z (N.ext p).term W
   .rw[gW,V0] at d;exact hC _ _ ⟨rfl,a1.trans (Q.trans (S.trans (R.trans p))),λh=>h.2 d⟩
  .exact hC _ _ ⟨rfl,a1.trans Q,λh=>a h.1⟩
 rintro u g w3 ⟨rfl,Q,n1⟩;have U:=yh rs Q;have l3:=U.r.lt;rw[U.q.ldAgg (t:=za) zc];refine l3Right_spec (xZ U) h2 λw4 rv S n=>?_;have r4:=yh U S;obtain⟨c,rfl,hc⟩:=n.cells;have gc:aggB za c.length=true:=by rw[zV hc];exact zc
 refine zi zr λb5 w5 ag a2 ai h5=>?_;have O:=(hc.weaken (F':=λx=>((G x/\x<w.heap.size)\/b4<x)/\x<w4.heap.size) λb h h'=>⟨h.imp id λh=>oM,h'⟩).ext a2;refine stTerm h5 rfl O λw6 a3 al h6=>?_;have R:Ext w4 w6:=by grind [Ext.then]
 have r6:=yh r4 R;have N:TmR (Qb G w.heap.size b4) w6 c (M.rightS t):=(O.same a3 λx J _ e=>oM).weaken λx J _=>J.1;rw[h6.ldAgg (t:=za) gc,r6.q.ldAgg (t:=za) zc];refine spec_TermSame_spec _ N.term (xZ r6) λw7 p=>?_;have Z:=yh r6 p;refine oZ ?_;refine zm (λd=>?_) (λd=>?_)
 .rw[gS,decide_eq_false_iff_not] at d;rw[(h6.ext p).ldAgg (t:=za) gc];have E:M.twoS t s=M.rightS t:=by unfold M.twoS;grind
  rw[E] at W;exact rt_give Z (N.ext p).term W
 rw[gW,V0] at d;have E:M.twoS t s=if(t.op=3\/t.op=4\/t.op=5\/t.op=6\/t.op=8)/\M.otherS t (M.rightS (M.swapS t)) then M.rightS (M.swapS t) else t:=by
  simp_all[M.twoS]
 refine zp (λu w'=>u=[]/\Ext w7 w'/\¬((t.op=3\/t.op=4\/t.op=5\/t.op=6\/t.op=8)/\M.otherS t (M.rightS (M.swapS t)))) (λC hC=>?_) ?_
 .simp only[push_cast,Z.q.ld0];refine zp (λu w'=> ∃b:Bool,u=[.bool b]/\w'=w7/\(b=true↔t.op=3\/t.op=4\/t.op=5\/t.op=6\/t.op=8)) (λD hD=>?_) ?_
  .try simp only[push_cast]
   refine zb (λc=>hD _ _ ⟨_,rfl,rfl,⟨λ_=>oM,λ_=>by grind⟩⟩) (λc1=>?_);refine zb (λc=>hD _ _ ⟨_,rfl,rfl,⟨λ_=>oM,λ_=>by grind⟩⟩) (λc2=>?_);refine zb (λc=>hD _ _ ⟨_,rfl,rfl,⟨λ_=>oM,λ_=>by grind⟩⟩) (λc3=>?_);refine zb (λc=>hD _ _ ⟨_,rfl,rfl,⟨λ_=>oM,λ_=>by grind⟩⟩) (λc4=>?_)
   grind
  rintro u2 g2 am ⟨b,rfl,rfl,hb⟩;refine oZ ?_;refine zm (λo=>?_) (λo=>hC _ _ ⟨rfl,Same.refl _ _,λh=>by grind⟩);have o':=hb.1 o;have l7:=Z.r.lt;refine zp (λu w'=> ∃b c,u=[ptr b]/\Ext am w'/\Blk w' b c za/\TmR (Qb G w.heap.size b4) w' c (M.rightS (M.swapS t))) (λD hD=>?_) ?_
  .refine zd λw8 A _=>?_;have I:=yh Z A;have l8:=I.r.lt;obtain⟨cks,m,a7,l⟩:=I.k;simp(disch:=first|omega|simp only[push_cast]) only[push_cast,I.q.ld0,I.q.ld4,m.iaddr,m.ldAgg,k5];have au:=A.size;have fin:∀{wa wb:World} {bb:Nat} {z:List Value} {rv:Value},Ext w8 wa->Blk wa bb z za->z.length=5->w8.heap.size<=bb->(∀y,y=bb->TermR (λx=>((G x/\x<w.heap.size)\/b4<x)/\x≠y) wa rv (M.rightS (M.swapS t)))->zG za (ptr bb) rv wa λ_ w'=>D [ptr bb] w':=λ{wa wb bb z rv} ak hB hz ao hr=>by
    obtain⟨cr,rfl,a6⟩:=(hr bb rfl).cells;refine stTerm hB hz a6 λw' a8 aq h'=>?_;exact hD _ _ ⟨bb,cr,rfl,A.trans (Ext.then ak a8 λy hy=>oM),h',(a6.same a8 λx J _ e=>J.2 e).weaken λx J _=>J.1⟩
   refine⟨?_,?_,trivial⟩
   .refine kids2 (l 1 oM).term (l 0 oM).term λw9 a9 j aj k9=>?_;have r9:=yh I j;have T:TermR (λz=>(G z/\z<w.heap.size)\/z=w8.heap.size) w9 _ (M.swapS t):=(Ku (o:=t.op) k9:TermR _ w9 _ (Z00 t.op [t.ks.getD 1 default,t.ks.getD 0 default]));simp only[push_cast,r9.q.ld0,k5,gi];refine⟨?_,?_,trivial⟩
    .refine l3Right_spec T rfl λw10 rv f n=>?_;refine⟨?_,trivial⟩;refine zi zr λa5 H X i Y L=>?_;refine⟨?_,trivial⟩;have aa:=j.size;have an:=f.size;refine fin (wb:=H) (j.trans (f.trans i)) L rfl oM λy hy=>((n.weaken (F':=λx=>(((G x/\x<w.heap.size)\/x=w8.heap.size)\/w9.heap.size<=x)/\x<w10.heap.size) λb h h'=>⟨h,h'⟩).ext i).weaken λx J _=>?_
     grind
    .refine zi zr λa5 H X i Y L=>?_;have F:=yh r9 i;simp only[push_cast,F.q.ld0,k5,gi];refine⟨?_,trivial⟩;refine l3Right_spec (T.ext i) rfl λw10 rv f n=>?_;refine⟨?_,trivial⟩;have aa:=j.size;refine fin (wb:=H) (j.trans (i.trans f)) (L.ext f) rfl oM λy hy=>n.weaken λx J _=>?_
     grind
   .refine zi zr λa5 H X i Y L=>?_;have F:=yh I i;have ae:=m.ext i;simp(disch:=first|omega|simp only[push_cast]) only[push_cast,F.q.ld0,F.q.ld4,ae.iaddr,ae.ldAgg,k5,gi];refine⟨?_,trivial⟩;refine kids2 ((l 1 oM).ext i).term ((l 0 oM).ext i).term λw9 a9 j aj k9=>?_;have r9:=yh F j;have T:TermR (λz=>(G z/\z<w.heap.size)\/z=H.heap.size) w9 _ (M.swapS t):=(Ku (o:=t.op) k9:TermR _ w9 _ (Z00 t.op [t.ks.getD 1 default,t.ks.getD 0 default]));simp only[push_cast,r9.q.ld0,k5,gi];refine⟨?_,trivial⟩;refine l3Right_spec T rfl λw10 rv f n=>?_;refine⟨?_,trivial⟩;have aa:=j.size;refine fin (wb:=H) (i.trans (j.trans f)) ((L.ext j).ext f) rfl oM λy hy=>n.weaken λx J _=>?_
    grind
  rintro u3 g3 w8 ⟨b,cv,rfl,A,hB,a0⟩;have gv:aggB za cv.length=true:=by rw[zV a0];exact zc
  have I:=yh Z A;generalize hV:M.rightS (M.swapS t)=V at*;have give:∀{w'},Ext w8 w'->M.otherS t V->zu za (ptr b) w' λr w2=>zG za (ptr b4) r w2 λ_ w3=>vlv za (ptr b4) w3 λr w4=>K r w4:=λ{w'} h ho=>by
   rw[(hB.ext h).ldAgg (t:=za) gv];rw[E,X0 ⟨o',ho⟩] at W;exact rt_give (yh I h) (a0.ext h).term W
  obtain⟨kvv,rfl,ah⟩:=a0.inv;refine oZ ?_;refine zd λw9 j _=>?_;have r9:=yh I j;have B9:=hB.ext j;have ab:=ah.ext j;simp only[push_cast,B9.ld4,ab.len,k5];refine zb (λc1=>give j (.inl oM)) (λc1=>?_);have vl:V.ks.length=2:=oM;obtain⟨cks,m,a7,l⟩:=r9.k;obtain⟨vks,vsl,vln,vck⟩:=ab;simp(disch:=first|omega|simp only[push_cast]) only[push_cast,B9.ld4,r9.q.ld4,m.iaddr,m.ldAgg,vsl.iaddr,vsl.ldAgg,k5];refine spec_TermSame_spec _ (vck 0 oM).term (l 1 oM).term λw10 f=>?_;have a4:=B9.ext f;have ac:=yh r9 f;have ad:=m.ext f;have t10:=vsl.ext f;simp only[push_cast,k5];refine zm (λc2=>?_) (λc2=>?_)
  .rw[gS,decide_eq_false_iff_not] at c2;exact give (j.trans f) (.inr (.inl c2))
  rw[gW,V0] at c2;simp(disch:=first|omega|simp only[push_cast]) only[push_cast,a4.ld4,ac.q.ld4,ad.iaddr,ad.ldAgg,t10.iaddr,t10.ldAgg,k5];refine spec_TermSame_spec _ ((vck 1 oM).ext f).term ((l 0 oM).ext f).term λH i=>?_;have af:=a4.ext i;have F:=yh ac i;simp only[push_cast,k5];refine zm (λc3=>?_) (λc3=>?_)
  .rw[gS,decide_eq_false_iff_not] at c3;exact give (j.trans (f.trans i)) (.inr (.inr (.inl c3)))
  rw[gW,V0] at c3;simp(disch:=first|omega|simp only[push_cast]) only[push_cast,af.ld0,F.q.ld0,k5];refine zb (λc4=>give (j.trans (f.trans i)) (.inr (.inr (.inr c4)))) (λc4=>?_);refine hC _ _ ⟨rfl,A.trans (j.trans (f.trans i)),λh=>?_⟩;rcases h.2 with h|h|h|h
  .exact h vl
  .exact h c2
  .exact h c3
  .exact c4 h
 rintro u4 g4 w8 ⟨rfl,A,n3⟩;have I:=yh Z A;rw[E,y3 n3] at W;rw[I.q.ldAgg (t:=za) zc];exact rt_give I (qw (xZ I)) W
theorem l3One_spec {dv v:Value} {t:M.Tm} {ds:List M.Dcl} (A:DclsR F w dv ds) (g:M.declOk ds=true) (ht:TermR G w v t) (hs:M.sortM ds t≠ -1) (e:YF0 K w G (M.oneT ds t)):vcall y70 #[dv,v] w K:=by
 rw[<-M.oneS_eq g hs] at e;have hlen:=M.len_of hs;refine ze {} Tryz.func116 ?_;refine rt_enter (B:=λt3 t4 a3=>_) ht λw1 b3 b4 kv rs=>?_;rw[rs.q.ldAgg (t:=za) zc];refine l2Sort_spec t (A.ext rs.ext) g (xZ rs) λw2 J=>?_;have T:=yh rs J;rw[T.q.ldAgg (t:=za) zc];refine l3All_spec (xZ T) λw3 L=>?_;have d:=yh T L;refine zm (λa=>?_) (λa=>?_)
 .have O:nnB t=true:=by
   have j:=a;unfold M.allFixed at j;simp only[gg,V0,gQ] at j;refine nnB_iff.2 ⟨λD=>?_,λk hk=>?_⟩
   .rw[D] at hlen;have h0:t.ks.length=0:=by simp[M.arity] at hlen;omega
    grind
   grind [Option.isSome_iff_exists,nn_fixed]
  have E:M.oneS ds t=if M.sortM ds t=0 then M.boolM (decide (M.evalM ds (M.zeroE ds) t=1)) else .mk 20 (M.sortM ds t) (M.evalM ds (M.zeroE ds) t) M.nada []:=by unfold M.oneS;rw[X0 a]
  rw[d.q.ldAgg (t:=za) zc];refine yc xt yM λb7 C W f a0 h7=>?_;have b:=yh d f;refine l2Eval_spec t (H:=F) (A.ext b.ext) (M.zeroE_ok g) (xZ b) (.inr O) hs λV m=>?_;have l:=yh b m;refine oZ ?_;refine zb (λc=>?_) (λc=>?_)
  .refine l3Bool_spec λw6 v6 n Q=>?_;rw[E,X0 c] at e;exact rt_give (yh l n) (rt_new l Q) e
  .try simp only[push_cast]
   rw[E,y3 c] at e;exact rt_give l (yr0 20 _ _ _:TmR _ V _ (.mk 20 (M.sortM ds t) (M.evalM ds (M.zeroE ds) t) M.nada [])).term e
 have na: ¬M.allFixed t=true:=by grind
 simp only[push_cast,d.q.ld4,d.k.len];refine zb (λl0=>?_) (λl0=>?_)
 .rw[d.q.ldAgg (t:=za) zc];have E:M.oneS ds t=t:=(by simp_all[M.oneS]);rw[E] at e;exact rt_give d (qw (xZ d)) e
 have N: ¬t.ks=[]:=by grind
 have Z:0<t.ks.length:=oM
 simp only[push_cast,d.q.ld0];refine zb (λS=>?_) (λS=>?_)
 .rw[d.q.ldAgg (t:=za) zc];have E:M.oneS ds t=M.logicS t:=(by grind [M.oneS]);rw[E] at e;refine l3Logic_spec (xZ d) hs oM N λC rv f p=>?_;have b:=yh d f;have l3:=d.r.lt;exact rt_give b (p.weaken λx s _=>s.imp id λh=>oM) e
 have n23: ¬23<=t.op:=oM
 try simp only[push_cast,d.q.ld0]
 refine zb (λR=>?_) (λR=>?_)
 .have hl:t.ks.length=1:=(by grind [M.arity]);simp(disch:=first|omega|simp only[push_cast]) only[push_cast,d.q.ld4,d.k.iaddr];refine d.k.load zc oM λx s=>?_;refine l2Sort_spec _ (A.ext d.ext) g s λC f=>?_;have b:=yh d f;have E:M.oneS ds t=if M.sortM ds t=M.sortM ds (M.kid t 0) then M.kid t 0 else t:=by grind [M.oneS]
  refine oZ ?_;refine zb (λc=>?_) (λc=>?_)
  .simp(disch:=first|omega|simp only[push_cast]) only[push_cast,b.q.ld4,b.k.iaddr];refine b.k.load zc oM λy hy=>?_;rw[E,X0 (show M.sortM ds t=M.sortM ds (M.kid t 0) from c)] at e;exact rt_give b (qw hy) e
  .rw[b.q.ldAgg (t:=za) zc];rw[E,y3 (show¬M.sortM ds t=M.sortM ds (M.kid t 0) from c)] at e;exact rt_give b (qw (xZ b)) e
 simp only[push_cast,d.q.ld4,d.k.len];have U:=M.arity_ops (o:=t.op) oM;refine zb (λl1=>?_) (λl1=>?_)
 .have a2:t.ks.length=1:=oM;have ho:=M.arity_one (o:=t.op) oM;have E:M.oneS ds t=if(M.kid t 0).op=t.op then M.kid (M.kid t 0) 0 else t:=by grind [M.oneS]
  refine zd λC f _=>?_;have b:=yh d f;simp(disch:=first|omega|simp only[push_cast]) only[push_cast,b.q.ld0,b.q.ld4,b.k.iaddr,k5];rw[tms_op b.k oM];simp(disch:=first|omega|simp only[push_cast]) only[push_cast,b.q.ld0,b.q.ld4,b.k.iaddr,k5];refine zb (λc=>?_) (λc=>?_)
  .have k0:=M.good_kid hs (i:=0) oM;have X:(t.ks.getD 0 default).ks.length=1:=by
    grind [M.len_of,M.kid]
   refine tms_kids b.k oM λa1 u=>?_;simp(disch:=first|omega|simp only[push_cast]) only[push_cast,u.iaddr];refine u.load zc oM λx s=>?_;rw[E,X0 (show(M.kid t 0).op=t.op from c)] at e;exact rt_give b (qw s) e
  .rw[b.q.ldAgg (t:=za) zc];rw[E,y3 (show¬(M.kid t 0).op=t.op from c)] at e;exact rt_give b (qw (xZ b)) e
 .have l2:t.ks.length=2:=by
   grind [M.arity]
  have E:M.oneS ds t=M.twoS t (M.sortM ds (M.kid t 0)):=(by grind [M.oneS]);rw[E] at e;refine zd λC f _=>?_;have b:=yh d f;obtain⟨cks,z,Y,I⟩:=b.k;simp(disch:=first|omega|simp only[push_cast]) only[push_cast,b.q.ld4,b.q.ldAgg (t:=za) zc,z.iaddr,z.ldAgg,k5];refine l2Sort_spec _ (A.ext b.ext) g (I 0 oM).term λV m=>?_;have l:=yh b m;simp(disch:=first|omega|simp only[push_cast]) only[push_cast,l.q.ldAgg (t:=za) zc,k5,gi];refine l3Two_spec (xZ l) l2 λw6 rv n p=>?_;have r6:=yh l n;have l5:=l.r.lt;exact rt_give r6 (p.weaken λx s _=>s.imp id λh=>oM) e
end
section
variable {w:World} {K:oK} {F F' D G:oA}
set_option maxRecDepth 20000 in
theorem l3Fold_spec:∀(t:M.Tm) {w:World} {K:oK} {F G:oA} {dv tv:Value} {ds:List M.Dcl},DclsR F w dv ds->M.declOk ds=true->TermR G w tv t->M.sortM ds t≠ -1->YF0 K w G (M.foldT ds t)->vcall Ug #[dv,tv] w K:=by
 refine M.Tm.ind λt ih w K F G dv tv ds hd T ht hs hK=>?_;have hlen:=M.len_of hs;have ay:t.ks.length<=3:=by
  unfold M.arity at hlen
  repeat' split at hlen
  all_goals omega
 refine ze {loops:=[(3,[6])]} Tryz.func78 ?_;obtain⟨kv,rfl,ae⟩:=ht;refine zj λb1 w1 ap Y av h1=>?_;refine zi zr λb2 w2 aq Z aw h2=>?_;have az:=Y.size;have q2:=h1.ext Z;simp only[push_cast,q2.ld0,q2.ld1,q2.ld2,q2.ld3];refine zi zr λb3 w3 ar a0 ax h3=>?_;refine stTerm h3 rfl (yr0 t.op t.a t.b t.s:TmR (λ_=>False) w3 _ _) λB a7 b0 h4=>?_;have W:Ext w1 B:=Ext.then (Z.trans a0) a7 λy hy=>by subst hy;omega
 have N:=Y.trans W;have q4:=h1.ext W;have r4:=(h2.ext a0).same a7 oM;have ac:TmsR (λx=>G x/\x<w.heap.size) B kv t.ks:=(ae.weaken λb h X=>⟨h,X⟩).ext N;have an:=N.size;refine vloop_up t.ks.length (λi u w'=>u=[nI i]/\Same (λb=>b=b3) B w'/\∃k css,Blk w' b3 [nI t.op,nI t.a,nI t.b,.string t.s,k] za/\Own 0 5 zl w' k css/\css.length=i/\(∀b,k.ownBlock=some b->B.heap.size<=b)/\
   ∀j,j<i->TmR (λx=>(G x/\x<w.heap.size)\/(B.heap.size<=x/\k.ownBlock≠some x)) w' (css.getD j []) (M.foldT ds (t.ks.getD j default)))
  ⟨rfl,Same.refl _ _,_,[],h4,Own.nil _ _ _ _,rfl,λb h=>(by cases h),λj V=>absurd V oM⟩ ?_
 rintro i _ _ w5 C hi ⟨rfl,d,k,css,h5,v,S,g,E⟩ hC;have b4:=d.size;have O:Ext w w5:=Ext.then N d λy hy=>by subst hy;omega
 have a2:=ac.same d λb f _ e=>oM
 have q5:=q4.same d oM;simp only[push_cast,q5.ld4,a2.len];refine zb (λa=>?_) (λa=>?_)
 .refine zd λw8 o _=>?_;have q8:=q5.ext o;have p8:=h5.ext o;obtain⟨cks,a6,au,hc⟩:=a2.ext o;simp(disch:=exact oS) only[push_cast,q8.ld4,p8.ld4,a6.iaddr,a6.ldAgg,k5];have I:t.ks.getD i default∈t.ks:=M.getD_mem oM _;have b6:=o.size;refine ih _ I (hd.ext (O.trans o)) T (hc i oM).term ((M.sort_parts hs).2.1 _ I) λw9 rv Q z=>?_;obtain⟨cr,rfl,n⟩:=z.cells;have p9:=p8.ext Q;simp only[push_cast,p9.ld4,k5,gi];have b7:=Q.size;refine qJ qC j8 zr rfl (zV n) dC λao w10 ai l aj a9=>?_;have a8:=p9.ext l;simp only[push_cast,a8.ld4,k5,gi];have D:=o.trans (Q.trans l);have a5:=v.ext D;refine Own.app1k a5 qE dC a9 (zV n) (tmR_one n) oM oM λp b8 J m q=>?_;have ah:=a8.same m (λe=>by have:=g _ e;have:=h5.lt;omega);have al:=m.size
  try simp only[push_cast,k5]
  have a3:p.cells= #[p]/\p.oneCell'=true:=by
   obtain⟨a,c,rfl,_⟩:=J.sl.shape;exact⟨rfl,rfl⟩
  refine ah.st (i:=4) a3.1 a3.2 xM rfl λA r am L=>?_;replace L:Blk A b3 [nI t.op,nI t.a,nI t.b,.string t.s,p] za:=L;rw[inc64' oM];have ak:=l.size;have H:∀b,p.ownBlock=some b->B.heap.size<=b:=λb f=>by
   rcases q b f with h|h
   .exact g b h
   .omega
  have U:Same (λb=>b=b3\/k.ownBlock=some b) w5 A:=(Same.of_ext D).trans ((m.mono λ_ _ h=> .inr h).trans (r.mono λ_ _ h=> .inl h));have aa:Same (λb=>b=b3) B A:=⟨U.os.trans d.os,U.tape.trans d.tape,U.output.trans d.output,gY d.size U.size,λb f a4=>(U.block b oM (λe=>e.elim a4 λe=>by have:=g b e;omega)).trans (d.block b f a4)⟩;refine hC oM _ _ ⟨rfl,aa,p,css++[cr],L,J.same r (λb f e=>by have:=H b f;omega),by simp[S],H,λj V=>?_⟩;by_cases ej:j<i
  .rw[y4,Gb oM,<-y4];refine((E j ej).weaken (F':=λx=>((G x/\x<w.heap.size)\/(B.heap.size<=x/\k.ownBlock≠some x))/\x<w5.heap.size) λb h X=>⟨h,X⟩).same U (λb f _ e=>?_)|>.weaken λb f _=>?_
   .rcases f.1 with h|h
    .rcases e with e|e
     .omega
     .have:=g b e;omega
    .rcases e with e|e
     .omega
     .exact h.2 e
   .rcases f.1 with h|h
    .exact .inl h
    .refine .inr ⟨h.1,λe=>?_⟩;rcases q b e with e|e
     .exact h.2 e
     .omega
  .have:j=i:=oM;subst this;rw[y4,GA oM,S,GW];show TmR _ A cr _;refine(((n.weaken (F':=λx=>((G x/\x<w.heap.size)\/w8.heap.size<=x)/\x<w9.heap.size) λb h X=>⟨h,X⟩).ext l).same m (λb f _ e=>?_)).same r (λb f _ e=>?_)|>.weaken λb f _=>?_
   .have:=g b e;have:=(v.lt e).2;rcases f.1 with h|h<;>omega
   .rcases f.1 with h|h<;>omega
   .rcases f.1 with h|h
    .exact .inl h
    .refine .inr ⟨oM,λe=>?_⟩;rcases q b e with e|e
     .have:=(v.lt e).2;omega
     .omega
 .have ab:i=t.ks.length:=oM;subst ab;rw[h5.ldAgg (t:=za) zc];have ad:TmsR (λx=>(G x/\x<w.heap.size)\/B.heap.size<=x) w5 k (t.ks.map (M.foldT ds)):=by
   refine⟨css,v.sl.weaken λb f _=> .inr (g b f),by rw[S,K3],λj V=>?_⟩;rw[K3] at V;rw[M.getD_map _ V _ default];exact(E j V).weaken λb f _=>f.imp id λh=>h.1
  have R:=M.kids_good T hs;refine l3One_spec (t:=M.remake t (t.ks.map (M.foldT ds))) (hd.ext O) T ⟨k,rfl,ad⟩ (by rw[R.sort];exact hs) λw6 rv a1 z=>?_;rw[<-M.foldT_rem] at z;obtain⟨cr,rfl,n⟩:=z.cells;have r6:=(r4.same d oM).ext a1;refine qh r6 rfl n (λx hx=>by rcases hx with(h|h)|h<;>omega) λw7 ag b5 af=>?_;exact hK _ _ (Ext.then (O.trans a1) ag λy hy=>by subst hy;omega) (af.weaken λx hx _=>by
   rcases hx with(h|h)|h
   .exact .inl h.1
   .exact .inr oM
   .exact .inr oM)
end
theorem zE0 {ds:List M.Dcl} {t:M.Tm} (a:M.declOk ds=true) (b:M.fits t=true):M.tsort ds t=M.sortM ds t:=by unfold M.tsort;rw[X0 ⟨b,a⟩]
theorem Ze0 {ds:List M.Dcl} {t:M.Tm} (a:M.declOk ds=true) (b:M.fits t=true) (hs:M.sortM ds t≠ -1):J4 ds t=M.foldT ds t:=by
 unfold J4;rw[y3 (by rw[zE0 a b];exact hs)]
end Go.Proofs.YtfnpmncplaibiaaGreatDoor
section
namespace Go.M
variable {ds:List Dcl} {env:oI}
def msbN:List Bool->Nat
 |b::bs=>(if b then 2^bs.length else 0)+msbN bs
 |[]=>0
theorem kV (b:Bool) (bs:List Bool):msbN (b::bs)=(if b then 2^bs.length else 0)+msbN bs:=rfl
theorem msb_lt:∀bs:List Bool,msbN bs<2^bs.length
 |[]=>dC
 |b::bs=>by
  have:=msb_lt bs
  grind [kV]
theorem msb_app:∀aa bs:List Bool,msbN (aa++bs)=msbN aa*2^bs.length+msbN bs
 |[],bs=>by simp[msbN]
 |a::aa,bs=>by
  rw[GM,kV,kV,msb_app aa bs,Q1,Nat.pow_add,pa]
  grind
theorem bits_rev (w a:Nat):(bitsN (w+1) a).reverse=decide (a/2^w%2=1)::(bitsN w a).reverse:=by
 grind [bitsN,List.range_succ]
theorem bits_mod {w a m:Nat} (h:∀i,i<w->a/2^i%2=m/2^i%2):bitsN w a=bitsN w m:=by
 grind [bitsN,List.map_congr_left]
theorem high_bit {w i m k:Nat} (h:i<w):(k*2^w+m)/2^i%2=m/2^i%2:=by
 have e:k*2^w=2^i*(k*(2*2^(w-i-1))):=by
  have:2^w=2^i*(2*2^(w-i-1)):=by rw[<-Nat.pow_succ',<-Nat.pow_add];grind
  grind
 grind [Nat.mul_add_div]
theorem bits_msb:∀bs:List Bool,(bitsN bs.length (msbN bs)).reverse=bs
 |[]=>rfl
 |b::bs=>by
  rw[gF,bits_rev];have a:=msb_lt bs;have e:msbN (b::bs)=(if b then 1 else 0)*2^bs.length+msbN bs:=by rw[kV];grind
  rw[e,bits_mod (λi hi=>high_bit hi),bits_msb bs];congr 1
  grind [Nat.mul_comm,Nat.mul_add_div,Nat.div_eq_of_lt]
theorem msb_bits:∀(w a:Nat),a<2^w->msbN (bitsN w a).reverse=a
 |0,a,h=>by
  have:a=0:=(by simpa using h);subst this;rfl
 |w+1,a,h=>by
  rw[bits_rev];have d:a/2^w<2:=by rw[Nat.div_lt_iff_lt_mul (Nat.two_pow_pos w)];rw[Nat.pow_succ] at h;omega
  have b:=Nat.div_add_mod a (2^w);have f:=pS a (Nat.two_pow_pos w);have e:bitsN w a=bitsN w (a%2^w):=bits_mod λi hi=>by
   have:=high_bit (m:=a%2^w) (k:=a/2^w) hi;rwa[PF,b] at this
  rw[kV,e,msb_bits w (a%2^w) f,pE,bitsN_len];by_cases c:a/2^w%2=1
  .rw[X0 (by simpa using c)];have:a/2^w=1:=by generalize a/2^w=q at c d;omega
   rw[this,pU] at b;exact b
  .rw[y3 (by simpa using c)];have:a/2^w=0:=by generalize a/2^w=q at c d;omega
   rw[this,Nat.mul_zero] at b;exact b
theorem msb_lex:∀{aa bs:List Bool} {k:Nat},aa.length=bs.length->k<aa.length->(∀j,j<k->aa.getD j false=bs.getD j false)->aa.getD k false=false->bs.getD k false=true->msbN aa<msbN bs
 |[],_,_,_,h,_,_,_=>by simp at h
 |_::_,[],_,h,_,_,_,_=>by simp at h
 |a::aa,b::bs,0,l,_,_,g,i=>by
  have e:a=false:=(by grind);have f:b=true:=(by grind);subst e;subst f;have:=msb_lt aa
  grind [kV]
 |a::aa,b::bs,k+1,l,n,he,g,i=>by
  have d:a=b:=(by simpa using he 0 oM);subst d;have c:aa.length=bs.length:=(by grind);have:=msb_lex (aa:=aa) (bs:=bs) (k:=k) c (by grind) (λj m=>by grind) (by grind) (by grind);rw[kV,kV,c];omega
def envB:List Dcl->List Bool->oI
 |d::ds,ins=>(msbN (ins.take d.2.toNat):Int)::envB ds (ins.drop d.2.toNat)
 |[],_=>[]
theorem envB_len:∀(ds:List Dcl) (ins:List Bool),(envB ds ins).length=ds.length
 |[],_=>rfl
 |d::ds,ins=>by simp[envB,envB_len ds]
theorem ins_envB:∀{ds:List Dcl} {ins:List Bool},(∀d,d∈ds->0<=d.2)->ins.length=nIn ds->insM ds (envB ds ins)=ins
 |[],ins,_,b=>by
  have:ins=[]:=gL b;rw[this];rfl
 |d::ds,ins,c,b=>by
  have f:=c d gk;have a:∀x,x∈ds->0<=x.2:=(by grind);have g:=bits_pos' a;have h:nIn (d::ds)=d.2.toNat+nIn ds:=by unfold nIn;rw[bits_cons'];omega
  have e:(ins.take d.2.toNat).length=d.2.toNat:=(by grind);have:=bits_msb (ins.take d.2.toNat);rw[e] at this;unfold envB insM;rw[gu,this,ins_envB a (by grind),G3]
theorem envB_ins:∀{ds:List Dcl} {env:oI},env.length=ds.length->(∀i,i<ds.length->0<=(ds.getD i (nada,0)).2/\0<=env.getD i 0/\env.getD i 0<2^((ds.getD i (nada,0)).2).toNat)->envB ds (insM ds env)=env
 |[],[],_,_=>rfl
 |[],_::_,a,_=>by simp at a
 |_::_,[],a,_=>by simp at a
 |d::ds,n::env,a,h=>by
  have b:=h 0 (by simp);simp only[pf] at b;have c:(bitsN d.2.toNat n.toNat).reverse.length=d.2.toNat:=(by rw[pE,bitsN_len]);have e:((2^d.2.toNat:Nat):Int)=2^d.2.toNat:=(by simp);unfold insM envB;rw[GJ oM,gD oM,List.drop_append_of_le_length oM,Pk oM,Gk,msb_bits _ _ oM,
   envB_ins (by grind) (λi hi=>by simpa using h (i+1) (by grind))]
  grind
theorem env_nums (he:envOk ds env=true):∀i,i<ds.length->0<=(ds.getD i (nada,0)).2/\0<=env.getD i 0/\env.getD i 0<2^((ds.getD i (nada,0)).2).toNat:=λi hi=>by
 have:=vok_iff.1 ((env_ok he).2.2 i hi);omega
theorem xN0 (he:envOk ds env=true):envB ds (insM ds env)=env:=envB_ins (env_ok he).2.1 (env_nums he)
theorem envB_vals:∀{ds:List Dcl} {ins:List Bool},ins.length=nIn ds->(∀d,d∈ds->0<=d.2)->∀i,i<ds.length->0<=(envB ds ins).getD i 0/\(envB ds ins).getD i 0<2^((ds.getD i (nada,0)).2).toNat
 |[],_,_,_,i,hi=>by simp at hi
 |d::ds,ins,e,b,0,_=>by
  have a:∀x,x∈ds->0<=x.2:=(by grind);have c:=bits_pos' a
  grind [nIn,bits_cons',msb_lt,List.length_take,envB]
 |d::ds,ins,e,b,i+1,hi=>by
  have a:∀x,x∈ds->0<=x.2:=(by grind);have c:=bits_pos' a;have f:=b d gk;have g:nIn (d::ds)=d.2.toNat+nIn ds:=by unfold nIn;rw[bits_cons'];omega
  have:=envB_vals (ds:=ds) (ins:=ins.drop d.2.toNat) (by grind) a i (by grind);unfold envB
  grind
theorem envB_ok {ins:List Bool} (a:declOk ds=true) (b:ins.length=nIn ds):envOk ds (envB ds ins)=true:=by
 have c:=envB_vals b (dpos a);unfold envOk;simp only[gg,V0,gQ,gJ]
 grind [envB_len,dcl_wide,vok_iff]
theorem rank_msb:∀{ds:List Dcl} {env:oI},env.length=ds.length->(∀i,i<ds.length->0<=(ds.getD i (nada,0)).2/\0<=env.getD i 0/\env.getD i 0<2^((ds.getD i (nada,0)).2).toNat)->rankE ds env=msbN (insM ds env)
 |[],[],_,_=>rfl
 |[],_::_,b,_=>by simp at b
 |_::_,[],b,_=>by simp at b
 |d::ds,n::env,b,h=>by
  have g:=h 0 (by simp);simp only[pf] at g;have a:env.length=ds.length:=(by grind);have f:∀i,i<ds.length->0<=(ds.getD i (nada,0)).2/\0<=env.getD i 0/\env.getD i 0<2^((ds.getD i (nada,0)).2).toNat:=λi hi=>(by simpa using h (i+1) (by grind));have c:∀x,x∈ds->0<=x.2:=λx k=>by
   grind [List.getElem_of_mem]
  have e:((2^d.2.toNat:Nat):Int)=2^d.2.toNat:=(by simp);have hi:=insM_len a c;have j:=bits_pos' c;unfold rankE insM;rw[msb_app,msb_bits _ _ oM,rank_msb a f,show(insM ds env).length=(bits ds).toNat by omega,Int.natCast_add,Int.natCast_mul,show((n.toNat:Nat):Int)=n by omega];simp
theorem xB0 (he:envOk ds env=true):rankE ds env=msbN (insM ds env):=rank_msb (env_ok he).2.1 (env_nums he)
def exK:List Bool->Int->oI
 |b::bs,k=>(if b then-k else k)::exK bs (k+1)
 |[],_=>[]
def exC (ds:List Dcl) (env:oI):oI:=exK (insM ds env) 2
theorem exK_len:∀(bs:List Bool) (k:Int),(exK bs k).length=bs.length
 |[],_=>rfl
 |b::bs,k=>by simp[exK,exK_len bs]
theorem exK_get:∀{bs:List Bool} {k:Int} {i:Nat},i<bs.length->(exK bs k).getD i 0=if bs.getD i false then-(k+i) else k+i
 |[],_,_,h=>by simp at h
 |b::bs,k,0,_=>by simp[exK]
 |b::bs,k,i+1,h=>by
  have:=exK_get (bs:=bs) (k:=k+1) (i:=i) (by grind)
  grind [exK]
theorem exC_ok {m:Nat} (hm:1+(insM ds env).length<=m):yZ m (exC ds env)=true:=by
 refine Jd.2 λk a=>?_;unfold exC at a⊢;rw[exK_len] at a;have e:=exK_get (k:=2) a;refine⟨?_,?_⟩
 .grind [litOk]
 grind [exK_get]
theorem exC_true {v:Nat->Bool}:clT v (exC ds env)↔insV v (insM ds env).length≠insM ds env:=by
 unfold exC;constructor
 .rintro⟨l,o,a⟩ he;obtain⟨i,hi,rfl⟩:=gq o;have b:i<(insM ds env).length:=(by rwa[exK_len] at hi);have e:=exK_get (k:=2) b;rw[y4,gd hi,GD] at e;have g:=insV_get (v:=v) (n:=(insM ds env).length) b;rw[he] at g;rw[e,g] at a;unfold litT at a;cases c:v (i+2)
  .rw[c] at a;simp only[Gd,if_false] at a;rw[X0 oM,show((2:Int)+i).natAbs=i+2 by omega,c] at a;cases a
  .rw[c] at a;simp only[if_true] at a;rw[y3 oM,show(-((2:Int)+i)).natAbs=i+2 by omega,c] at a;cases a
 .intro f;have:∃i,i<(insM ds env).length/\v (i+2)≠(insM ds env).getD i false:=Gy λp=>f (by
   refine gM (insV_len _ _) λi j d=>?_;have e:=insV_get (v:=v) (n:=(insM ds env).length) (i:=i) d;rw[y4,gd j,GD] at e;rw[e];have:=Gy λh=>p ⟨i,d,h⟩;rwa[y4,gd d,GD] at this)
  obtain⟨i,hi,h⟩:=this;have m:i<(exK (insM ds env) 2).length:=by rw[exK_len];exact hi
  refine⟨(exK (insM ds env) 2).getD i 0,getD_mem m 0,?_⟩;rw[exK_get hi]
  grind [litT]
def jobC (ds:List Dcl) (gs:Gs) (rs:List (oI)) (nots:List (oI)):Cnf:=netC (nIn ds) gs (rootsC rs++nots.map (exC ds))
def searchM (n:Nat) (ds:List Dcl) (c:Cnf):oI×Int:=
 let s:=runM c.many.toNat c n emptyS
 if s.code=1 then(envB ds (insV (wayM s.put) (nIn ds)),1) else if s.code=2 then([],2) else([],3)
def solveM (n:Nat) (ds:List Dcl) (ts:List Tm) (nots:List (oI)):oI×Int:=match listB ds (ts.map (foldT ds)) with
 |none=>([],3)
 |some (gs,rs)=>searchM n ds (jobC ds gs rs nots)
def Sol (ds:List Dcl) (ts:List Tm) (nots:List (oI)) (env:oI):Prop:=envOk ds env=true/\allT ds env ts/\env∉nots
section
variable {ts:List Tm} {gs:Gs} {rs nots:List (oI)}
theorem job_ok (b:declOk ds=true) (h:ListNet ds ts gs rs) (d:∀e,e∈nots->envOk ds e=true) (c:ts.length+nots.length<=90):cnfOk (jobC ds gs rs nots)=true:=by
 refine net_ok (nIn_eq b).2 h.net (by unfold rootsC;rw[Q1,K3,K3,h.many];exact c) λcl a=>?_;rcases gl.1 a with a|a
 .exact roots_ok b h cl a
 .obtain⟨e,he,rfl⟩:=gy.1 a;exact exC_ok (by rw[insM_n (d e he)];omega)
theorem job_true (c:declOk ds=true) (hs:∀t,t∈ts->sortM ds t=0) (h:ListSays ds ts gs rs) (j:∀e,e∈nots->envOk ds e=true) {v:Nat->Bool}:
  jV0 v (jobC ds gs rs nots)↔Follows v (nIn ds) gs/\Sol ds ts nots (envB ds (insV v (nIn ds))):=by
 have d:=insV_len v (nIn ds);have hi:=ins_envB (dpos c) d;have he:=envB_ok c d;unfold jobC;rw[net_sat h.net];constructor
 .rintro⟨b,f⟩;refine⟨b,he,(way_true he hs h b hi.symm).1 λcl a=>f cl (gl.2 (.inl a)),λhm=>?_⟩;have:=f _ (gl.2 (.inr (gy.2 ⟨_,hm,rfl⟩)));simp_all[exC_true]
 .rintro⟨b,_,i,hm⟩;refine⟨b,λcl a=>?_⟩;rcases gl.1 a with a|a
  .grind [way_true]
  .obtain⟨e,g,rfl⟩:=gy.1 a
   grind [exC_true,insM_n,xN0]
theorem lex_rank {many:Nat} {a b:Nat->Bool} {n:Nat} (hm:1+n<=many) (o:a 1=true) (h:LexLe many a b):msbN (insV a n)<=msbN (insV b n):=by
 have heq:(∀u,1<=u->u<=1+n->a u=b u)->msbN (insV a n)<=msbN (insV b n):=λh=>by
  have:insV a n=insV b n:=by
   grind [insV,List.map_congr_left]
  grind
 rcases h with h|⟨d,f,g,i,l,m⟩
 .grind
 .by_cases c:d<=1+n
  .have e:d≠1:=(by grind);refine Nat.le_of_lt (msb_lex (k:=d-2) (by rw[insV_len,insV_len]) (by rw[insV_len];omega) (λj p=>?_) ?_ ?_)
   .grind [insV_get]
   .grind [insV_get]
   grind [insV_get]
  grind
theorem search_says (n:Nat) (c:declOk ds=true) (hs:∀t,t∈ts->sortM ds t=0) (h:ListSays ds ts gs rs) (i:∀e,e∈nots->envOk ds e=true) (o:ts.length+nots.length<=90):
  ((searchM n ds (jobC ds gs rs nots)).2=1/\Sol ds ts nots (searchM n ds (jobC ds gs rs nots)).1/\∀e,Sol ds ts nots e->rankE ds (searchM n ds (jobC ds gs rs nots)).1<=rankE ds e)\/
  (searchM n ds (jobC ds gs rs nots)=([],2)/\∀e,¬Sol ds ts nots e)\/searchM n ds (jobC ds gs rs nots)=([],3):=by
 have j:=job_ok c h.toListNet i o;have b:(jobC ds gs rs nots).many=((jobC ds gs rs nots).many.toNat:Nat):=by unfold jobC netC;grind
 have g:(jobC ds gs rs nots).many.toNat=1+nIn ds+gs.length:=by unfold jobC netC;grind
 have d:=run_fair b (n:=n) (qt0 (many:=(jobC ds gs rs nots).many.toNat) j);have way:∀e,Sol ds ts nots e->jV0 (wayG (insM ds e) gs) (jobC ds gs rs nots)/\insV (wayG (insM ds e) gs) (nIn ds)=insM ds e:=λe he=>by
  have hi:insV (wayG (insM ds e) gs) (nIn ds)=insM ds e:=by rw[<-insM_n he.1];exact wayG_ins
  refine⟨(job_true c hs h i).2 ⟨zA0 (insM_n he.1),?_⟩,hi⟩;rw[hi,xN0 he.1];exact he
 unfold searchM;generalize runM (jobC ds gs rs nots).many.toNat (jobC ds gs rs nots) n emptyS=s at d⊢;simp only;split
 .next l=>
  refine .inl ⟨rfl,?_⟩;have k:=d.least b l;obtain⟨f,a⟩:=(job_true c hs h i).1 k.1;refine⟨a,λe he=>?_⟩;obtain⟨hw,hi⟩:=way e he;have:=lex_rank (n:=nIn ds) oM (by have:=f 0 oM;rw[this];exact XT) (k.2 _ hw);rw[xB0 a.1,xB0 he.1,ins_envB (dpos c) (insV_len _ _)]
  grind
 .split
  .next m=>
   refine .inr (.inl ⟨rfl,λe he=>d.no m _ (way e he).1⟩)
  grind
theorem allT_fold (he:envOk ds env=true) (hs:∀t,t∈ts->sortM ds t=0):allT ds env (ts.map (foldT ds))↔allT ds env ts:=by
 have c:=(env_ok he).1;have b:∀t,t∈ts->evalM ds env (foldT ds t)=evalM ds env t:=λt a=>((fold_good c t (by grind)).eval env he);constructor
 .intro h t a;rw[<-b t a];exact h _ (gy.2 ⟨t,a,rfl⟩)
 .intro h u hu;obtain⟨t,a,rfl⟩:=gy.1 hu;rw[b t a];exact h t a
theorem solve_says (n:Nat) (f:declOk ds=true) (hs:∀t,t∈ts->sortM ds t=0) (j:∀e,e∈nots->envOk ds e=true) (h:ts.length+nots.length<=90):
  ((solveM n ds ts nots).2=1/\Sol ds ts nots (solveM n ds ts nots).1/\∀e,Sol ds ts nots e->rankE ds (solveM n ds ts nots).1<=rankE ds e)\/
  (solveM n ds ts nots=([],2)/\∀e,¬Sol ds ts nots e)\/solveM n ds ts nots=([],3):=by
 have g:∀t,t∈ts.map (foldT ds)->sortM ds t=0:=λu hu=>by
  obtain⟨t,k,rfl⟩:=gy.1 hu;have:=(fold_good f t (by grind)).sort
  grind
 have d:∀e,Sol ds (ts.map (foldT ds)) nots e↔Sol ds ts nots e:=λe=>
  ⟨λ⟨a,b,c⟩=>⟨a,(allT_fold a hs).1 b,c⟩,λ⟨a,b,c⟩=>⟨a,(allT_fold a hs).2 b,c⟩⟩
 unfold solveM;cases i:listB ds (ts.map (foldT ds)) with
 |none=>grind
 |some p=>
  grind [search_says,list_says]
end
end Go.M
end
section
namespace Go.M
variable {ds:List Dcl} {n:Nat} {ts:List Tm} {nots:List (oI)}
def sorted0 (ds:List Dcl) (ts:List Tm):Prop:=∀t,t∈ts->sortM ds t=0
theorem solve_yes (d:declOk ds=true) (hs:sorted0 ds ts) (f:∀e,e∈nots->envOk ds e=true) (c:ts.length+nots.length<=90) (h:(solveM n ds ts nots).2=1):Sol ds ts nots (solveM n ds ts nots).1/\∀e,Sol ds ts nots e->rankE ds (solveM n ds ts nots).1<=rankE ds e:=by
 rcases solve_says n d hs f c with⟨_,a⟩|⟨b,_⟩|b
 .exact a
 .grind
 grind
end Go.M
end
namespace Go.Proofs.YtfnpmncplaibiaaGreatDoor
open Go Go.Vc Go.Proofs
section
variable {ds:List M.Dcl} {t:M.Tm} {ts:List M.Tm} {nots:List (oI)}
theorem WI (b:M.declOk ds=true) (h:M.tsort ds t=0):M.tsort ds (M.foldT ds t)=0/\J4 ds t=M.foldT ds t:=by
 obtain⟨a,d,f⟩:=Jo h;have c:=M.fold_good b t (by rw[a];decide);obtain⟨f1,f2⟩:=M.fits_iff.1 d;have e:M.fits (M.foldT ds t)=true:=M.fits_iff.2 ⟨gY c.size f1,gY c.deep f2⟩;exact⟨by rw[zE0 b e,c.sort,a],Ze0 b d (by rw[a];decide)⟩
theorem Qz (h:all8 ds ts=true):all8 ds (ts.map (M.foldT ds))=true:=by
 obtain⟨b,a,c⟩:=all8_iff.1 h;refine all8_iff.2 ⟨by rw[K3];exact b,a,λu hu=>?_⟩;obtain⟨t,d,rfl⟩:=gy.1 hu;exact(WI a (c t d)).1
def yE (ds:List M.Dcl) (ts:List M.Tm) (nots:List (oI)):oI×Int:=if all8 ds ts=true then M.solveM 4000 ds ts nots else([],4)
def qY (c:M.Cnf) (ds:List M.Dcl) (nots:List (oI)):M.Cnf:=⟨c.many,c.list++nots.map (M.exC ds)⟩
theorem jP0 {gs:M.Gs} {rs:List (oI)}:qY (M.blastC ds gs rs) ds nots=M.jobC ds gs rs nots:=by
 show M.Cnf.mk _ _=M.Cnf.mk _ _;congr 1;show([1]::(M.gatesC _ gs 0++M.rootsC rs))++_=[1]::(M.gatesC _ gs 0++(M.rootsC rs++_));simp
theorem q00 (h: ¬all8 ds ts=true):yE ds ts nots=([],4):=by unfold yE;rw[y3 h]
theorem Kj (h:all8 ds ts=true) (a:(cnfE ds (ts.map (M.foldT ds))).2≠0):yE ds ts nots=([],3):=by
 unfold yE M.solveM;rw[X0 h];unfold cnfE at a;rw[X0 (Qz h)] at a;cases b:M.listB ds (ts.map (M.foldT ds)) with
 |none=>rfl
 |some r=>rw[b] at a;exact absurd rfl a
theorem Vj (h:all8 ds ts=true):(cnfE ds ts).2=0\/(cnfE ds ts).2=1:=by
 unfold cnfE;rw[X0 h];cases M.listB ds ts with
 |none=>exact .inr rfl
 |some r=>exact .inl rfl
theorem solveR_run (h:all8 ds ts=true) (b:(cnfE ds (ts.map (M.foldT ds))).2=0) (f:∀e,e∈nots->M.envOk ds e=true) (j:nots.length<=80):
  yE ds ts nots=M.searchM 4000 ds (qY (cnfE ds (ts.map (M.foldT ds))).1 ds nots)/\M.cnfOk (qY (cnfE ds (ts.map (M.foldT ds))).1 ds nots)=true/\1+M.nIn ds<=(cnfE ds (ts.map (M.foldT ds))).1.many.toNat:=by
 have c:=Qz h;unfold yE M.solveM;rw[X0 h];unfold cnfE at b⊢;rw[X0 c] at b⊢;cases d:M.listB ds (ts.map (M.foldT ds)) with
 |none=>rw[d] at b;exact absurd b (by simp)
 |some r=>
  obtain⟨i,a2,a3⟩:=all8_iff.1 c;have a:=M.list_net a2 (λt g=>by rw[(Jo (a3 t g)).1];decide) d;have e:=jP0 (ds:=ds) (nots:=nots) (gs:=r.1) (rs:=r.2);refine⟨by show _=M.searchM 4000 ds (qY (M.blastC ds r.1 r.2) ds nots);rw[e],by show M.cnfOk (qY (M.blastC ds r.1 r.2) ds nots)=true;rw[e];exact M.job_ok a2 a f oM,?_⟩;show 1+M.nIn ds<=(M.netC _ r.1 (M.rootsC r.2)).many.toNat;unfold M.netC;simp only;omega
end
section
variable {w:World} {G:oA}
theorem one_tms {ks:List M.Tm} {css:List (List Value)} (k:css.length=ks.length) (h:∀i,i<ks.length->TmR G w (css.getD i []) (ks.getD i default)):∀y,y∈css->∀c,c∈y->c.oneCell'=true:=λy g c a=>by
 obtain⟨i,hi,rfl⟩:=gq g;have f:=h i oM;rw[y4,gd hi] at f;obtain⟨j,he,b⟩:=f.inv;obtain⟨e,d,_⟩:=b;rw[show css[i]=(some css[i]).getD [] from rfl,he] at a;simp only[gj,gC,Gn] at a;rcases a with rfl|rfl|rfl|rfl|rfl
 .rfl
 .rfl
 .rfl
 .rfl
 .exact d.one
end
section
variable {w:World} {K:oK} {D F F' G Fr Fx Fy X:oA} {n N b:Nat} {gs:M.Gs} {v dv tv lv:Value} {ls ls':List Value} {xss yss:List (oI)} {xs ys:oI} {ds:List M.Dcl} {t:M.Tm} {ts:List M.Tm} {ar ab:Addr} {k m:Int} {st:Option M.Gs}
theorem lit_row {w2:World} {us:oI} {xs:List Value} {K:oK} (m:xs=us.map (λx=>nI x)) (g:us.length<=8) (k:RowsR N (λb=>b<w2.heap.size) w2 ls xss) (j:ls.length=xss.length)
  (h:∀a v,Ext w2 a->RowsR N (λb=>b<a.heap.size) a (ls++[v]) (xss++[us])->(∃o l c,v= .slice o l c)->K v a):vbuildS zh xs.length (xs.zipIdx.map λp=>(p.2,p.1)) w2 K:=by
 refine lit_ints m g λa b3 i d n e=>?_;refine h a _ d (RowsR.new (k.weaken λb q _ _=>oM) j d e (λb f=>?_) λb f=>e.lt f) ⟨_,_,_,rfl⟩;have:b=b3:=(V1 f).symm;omega
theorem lits_fin {w2:World} {xs:List Value} (g:xs.length<=8) (k:xs.length=xss.length) (m:∀x,x∈xs->∃o l c,x= .slice o l c) (f:RowsR N (λb=>b<w2.heap.size) w2 xs xss) (h:∀w' v,Ext w2 w'->Fresh N w' v xs xss->K v w'):
  vbuildS zn xs.length (xs.zipIdx.map λp=>(p.2,p.1)) w2 K:=by
 refine lit_lists m g λq b3 j a n d=>?_;have s:=f.nle;refine h q _ a ⟨d,k,λb i=>?_,?_⟩
 .have:b=b3:=(V1 i).symm;omega
 .exact(f.ext a).weaken λb r _ _ e=>by
   have:b3=b:=V1 e;omega
theorem gl_xor {a b k:Int} {K:oK} (s:∀w' v ls,Ext w w'->Fresh w.heap.size w' v ls [[a,b,-k],[-a,-b,-k],[-a,b,k],[a,-b,k]]->ls.length=4->K v w'):
  vbuildS zh 3 [(0,nI a),(1,nI b),(2,nI (-k))] w λt1 w1=>vbuildS zh 3 [(0,nI (-a)),(1,nI (-b)),(2,nI (-k))] w1 λt2 w2=>
   vbuildS zh 3 [(0,nI (-a)),(1,nI b),(2,nI k)] w2 λt3 z=>vbuildS zh 3 [(0,nI a),(1,nI (-b)),(2,nI k)] z λt4 A=>vbuildS zn 4 [(0,t1),(1,t2),(2,t3),(3,t4)] A K:=by
 refine lit_row (N:=w.heap.size) (ls:=[]) (xss:=[]) (xs:=[nI a,nI b,nI (-k)]) (us:=[a,b,-k]) rfl (by simp) (RowsR.nil (gr _)) rfl λC v9 l m t=>?_;refine lit_row (xs:=[nI (-a),nI (-b),nI (-k)]) (us:=[-a,-b,-k]) rfl (by simp) m rfl λw10 v10 c h p=>?_;refine lit_row (xs:=[nI (-a),nI b,nI k]) (us:=[-a,b,k]) rfl (by simp) h rfl λu v11 d i q=>?_;refine lit_row (xs:=[nI a,nI (-b),nI k]) (us:=[a,-b,k]) rfl (by simp) i rfl λy v12 e j r=>?_;refine lits_fin (xs:=[v9,v10,v11,v12]) (by simp) rfl (λx B=>?_) j λo n f g=>s o n _ (l.trans (c.trans (d.trans (e.trans f)))) g rfl
 grind
theorem gl_and {a b k:Int} {K:oK} (p:∀w' v ls,Ext w w'->Fresh w.heap.size w' v ls [[a,-k],[b,-k],[-a,-b,k]]->ls.length=3->K v w'):
  vbuildS zh 2 [(0,nI a),(1,nI (-k))] w λt1 w1=>vbuildS zh 2 [(0,nI b),(1,nI (-k))] w1 λt2 w2=>
   vbuildS zh 3 [(0,nI (-a)),(1,nI (-b)),(2,nI k)] w2 λt3 s=>vbuildS zn 3 [(0,t1),(1,t2),(2,t3)] s K:=by
 refine lit_row (N:=w.heap.size) (ls:=[]) (xss:=[]) (xs:=[nI a,nI (-k)]) (us:=[a,-k]) rfl (by simp) (RowsR.nil (gr _)) rfl λu v9 i j q=>?_;refine lit_row (xs:=[nI b,nI (-k)]) (us:=[b,-k]) rfl (by simp) j rfl λw10 v10 c g n=>?_;refine lit_row (xs:=[nI (-a),nI (-b),nI k]) (us:=[-a,-b,k]) rfl (by simp) g rfl λr v11 d h o=>?_;refine lits_fin (xs:=[v9,v10,v11]) (by simp) rfl (λx t=>?_) h λm l e f=>p m l _ (i.trans (c.trans (d.trans e))) f rfl
 grind
structure CnfS (N b:Nat) (w:World) (m:Int) (lv:Value) (ls:List Value) (xss:List (oI)):Prop where
 blk:Blk w b [nI m,lv] zq
 own:OwnV zn w lv ls
 len:ls.length=xss.length
 rows:RowsR N (λx=>lv.ownBlock≠some x/\x≠b) w ls xss
 new:∀x,lv.ownBlock=some x->N<=x/\x≠b
 lo:N<=b
theorem CnfS.ext {w':World} (h:CnfS N b w m lv ls xss) (he:Ext w w'):CnfS N b w' m lv ls xss:=⟨h.blk.ext he,h.own.ext he,h.len,h.rows.ext he,h.new,h.lo⟩
theorem rows_one (h:RowsR N Fr w ls xss) (d:ls.length=xss.length):∀u,u∈ls->u.oneCell'=true:=λu hu=>by
 obtain⟨j,b,rfl⟩:=gq hu;have a:=h.own j oM;obtain⟨o,c,e,_⟩:=a.ints.shape;rw[y4,gd b,GD] at e;rw[e];rfl
theorem CnfS.add {p:World} {v9:Value} {M:Nat} {K:oK} (h:CnfS N b w m lv ls xss) (he:Ext w p) (l:Fresh M p v9 ls' yss) (V:w.heap.size<=M) (a:ls.length<=100000) (z:ls'.length<=1000)
  (J:∀w' D,Same (λx=>x=b\/lv.ownBlock=some x) p w'->CnfS N b w' m D (ls++ls') (xss++yss)->K undef w'):
  vbi .append [zn,zn] zn [lv,v9] p λt w1=>zG zn (oP b 1) t w1 K:=by
 have z9:=he.size;have Q:=h.blk.lt;have H:∀x,lv.ownBlock=some x->x<w.heap.size:=λx n=>h.own.lt n;refine OwnV.app (us:=ls') (h.own.ext he) jC l.own.vals (rows_one l.rows l.len) oM oM λv10 w10 g d s=>?_;have T:=d.size;have q:=(h.blk.ext he).same d λe=>(h.new _ e).2 rfl;refine q.st (i:=1) (v:=v10) ?_ ?_ jy (by rfl) λE f G r=>?_
 .obtain⟨o,c,e,_⟩:=g.vals.shape;rw[e];rfl
 .obtain⟨o,c,e,_⟩:=g.vals.shape;rw[e];rfl
 have U:=f.size;have u:=h.rows.ext he;have A:=u.nle;have C:RowsR N (λx=>lv.ownBlock≠some x/\x≠b) p ls' yss:=by
  have a:=l.rows;refine⟨A,a.own,λj x O n=>?_,a.dj⟩;have z:=(a.sub j x O n).2;have:=h.rows.nle
  grind
 have B:=u.app h.len C l.len λR S x a z L e=>by
  have:=(h.rows.own R a).lt L;have:=(l.rows.sub S x z e).2;omega
 have k:∀x,v10.ownBlock=some x->N<=x/\x≠b:=λx n=>by
  rcases s x n with F|F
  .exact h.new x F
  omega
 refine J E v10 ((d.mono λx _ h=> .inr h).trans (f.mono λx _ h=> .inl h)) ⟨r,g.same f λx n e=>(k x n).2 e,by rw[Q1,Q1,h.len,l.len],?_,k,h.lo⟩;have y:=B.weaken (F':=λx=>(lv.ownBlock≠some x/\x≠b)/\x<p.heap.size) λx a _ I=>⟨a,I⟩;refine((y.same d λx a _ e=>a.1.1 e).same f λx a _ e=>a.1.2 e).weaken λx a _ _=>⟨λe=>?_,a.1.2⟩
 grind
theorem CnfS.out {b2:Nat} {a0 c0:Value} {K:oK} (h:CnfS N b w m lv ls xss) (p:Blk w b2 [a0,c0] zq) (u:b2<N) (q:∀w',Same (· =b2) w w'->CnfO N w' lv ls ⟨m,xss⟩->K (.agg ⟨[nI m,lv]⟩) w'):
  zu zq (oP b 0) w λt45 g=>zG zq (oP b2 0) t45 g λ_ i=>vlv zq (oP b2 0) i K:=by
 obtain⟨o,c,f,_⟩:=h.own.vals.shape;generalize (ls.map λx=>[x]).length=l at f;subst f;rw[h.blk.ldAgg (t:=zq) zF];refine p.stAgg (cs':=[nI m,.slice o l c]) rfl zF net_one λs a r j=>?_;rw[j.lv (t:=zq) zF];refine q s a ⟨h.own.same a λx k e=>by have:=(h.new x k).1;omega,h.len,λx k=>(h.new x k).1,?_⟩;have d:=(h.rows.weaken (F':=λx=>(Value.slice o l c).ownBlock≠some x/\N<=x) λx d n _=>⟨d.1,n⟩).same a λx d _ e=>oM
 exact d.weaken λx d _ _=>d.1
theorem l6Many_spec {x:Value} (d:GatesR Fx w x gs) (j:n<=8) (i:gs.length<=600) (h:∀w',Ext w w'->K (nI (1+n+gs.length:Nat)) w'):vcall U7 #[.agg ⟨[nI n,x]⟩] w K:=by
 refine ze {} Tryz.func115 ?_;obtain⟨o,c,b,_⟩:=d.shape;have hlen:∀(w':World) (K:oK),vbi .len [zA] zE [x] w' K=K (nI gs.length) w':=λw' K=>by rw[Sl.len d qf,xJ0]
 generalize (gs.map ym).length=l at b;subst b;refine zj λb1 w1 e f g a=>?_;simp(disch:=exact oS) only[push_cast,a.ld0,a.ld1,hlen,zk]
 grind
theorem l6Cnf_spec {x:Value} (I:GatesR Fx w x gs) (hg:M.NetG n gs) (hn:n<=8) (hK:∀w' lv ls,Ext w w'->CnfO w.heap.size w' lv ls (M.netC n gs [])->K (.agg ⟨[nI (1+n+gs.length:Nat),lv]⟩) w'):vcall y00 #[.agg ⟨[nI n,x]⟩] w K:=by
 refine ze {loops:=[(3,[4])]} Tryz.func77 ?_;have R:=hg.few;have a9:=I.shape;obtain⟨o,c,hv,_⟩:=a9;have hlen:∀(w':World) (K:oK),vbi .len [zA] zE [x] w' K=K (nI gs.length) w':=λw' K=>by rw[Sl.len I qf,xJ0]
 generalize (gs.map ym).length=l at hv;subst hv;refine zj λb1 w1 af L ao a1=>?_;refine zi xr λb2 w2 ag B ap a2=>?_;have e2:=L.trans B;have s:=a1.ext B;rw[s.ldAgg (t:=zx) y5];refine l6Many_spec (Sl.ext I e2) hn R λY j=>?_;have e3:=e2.trans j;have z1:=L.size;have z2:=B.size;have z3:=j.size;obtain⟨m,hm⟩:∃m:Int,m=(1+n+gs.length:Nat):=⟨_,rfl⟩;rw[<-hm];refine lit_row (N:=Y.heap.size) (ls:=[]) (xss:=[]) (xs:=[nI 1]) (us:=[1]) rfl (by simp) (RowsR.nil (gr _)) rfl λw4 v4 O a7 al=>?_;refine lits_fin (xs:=[v4]) (xss:=[[1]]) (by simp) rfl (λy V=>by grind) a7 λZ v5 Q k=>?_;have z4:=O.size;have z5:=Q.size;obtain⟨H,z,U,_⟩:=k.own.vals.shape;generalize ([v4].map λx=>[x]).length=G at U;subst U;rw[show ∀K:oK,yA zq [(0,nI m),(1,.slice H G z)] Z K=K (.agg ⟨[nI m,.slice H G z]⟩) Z from λK=>zU Jg (us:=[[nI m],[.slice H G z]]) rfl rfl];refine zi xr λX w6 ah ai aq a3=>?_;refine a3.stAgg (cs':=[nI m,.slice H G z]) rfl zF net_one λw7 am ar a4=>?_;have A:Ext Z w7:=by grind [Ext.then]
 have ae:∀b,(Value.slice H G z).ownBlock=some b->b<Z.heap.size:=by grind
 have h0:CnfS Y.heap.size X w7 m (.slice H G z) [v4] [[1]]:=
  ⟨a4,k.own.ext A,rfl,((k.rows.weaken (F':=λx=>(Value.slice H G z).ownBlock≠some x/\x≠X) λx h1 _ h3=>⟨h1,oM⟩).ext A),λx I=>⟨k.new x I,by grind⟩,oM⟩
 have a0:=O.trans (Q.trans A);refine vloop_up gs.length (λi u w'=>u=[nI i]/\Ext Y w'/\∃lv ls,CnfS Y.heap.size X w' m lv ls ([1]::M.gatesC n (gs.take i) 0)) ⟨rfl,a0,_,_,h0⟩ ?_;rintro i _ _ r C hi ⟨rfl,e,lv,ls,v⟩ hC;have d:=(s.ext j).ext e;have q:GatesR Fx r (.slice o l c) gs:=Sl.ext I (e3.trans e);simp(disch:=exact oS) only[push_cast,d.ld0,d.ld1,hlen];refine zb (λa=>?_) (λa=>?_)
 .have p:i<gs.length:=oM;obtain⟨ha,hb⟩:=gpos hg hn p;have aj:=gatesC_take (n:=n) p;have E:(gs.map ym).getD i []=ym gs[i]:=yA0 p;have F:i<(gs.map ym).length:=(by grind);generalize gs[i]=g at*;have l0:∀K:oK,zu Yu (.pointer (some ((eaddr (.slice o l c) 3 i).add 0))) r K=K (.bool g.x) r:=λK=>Sl.ldField q X50 F (by rw[E];rfl);have l1:∀K:oK,zu zE (.pointer (some ((eaddr (.slice o l c) 3 i).add 1))) r K=K (nI g.a) r:=λK=>Sl.ldField q Jy F (by rw[E];rfl);have l2:∀K:oK,zu zE (.pointer (some ((eaddr (.slice o l c) 3 i).add 2))) r K=K (nI g.b) r:=λK=>Sl.ldField q Jy F (by rw[E];rfl);simp(disch:=first|(simp only[push_cast])|(simp only[K3];omega)|omega) only[push_cast,d.ld0,d.ld1,q.iaddr,l0,l1,l2,zk];have hk:(2+(n:Int)+i).natAbs<=100000:=oM;have ak:ls.length<=2401:=by
   have h1:=Zz n (gs.take i) 0;have h2:(gs.take i).length=i:=(by grind);rw[v.len,gF];omega
  have au:=e.size;have ad:∀{ys:List (oI)},M.gateC (2+n+i) g=ys->[1]::M.gatesC n (gs.take i) 0++ys=[1]::M.gatesC n (gs.take (i+1)) 0:=(by grind);have fin:∀{h w10:World} {v9:Value} {ls':List Value} {ys:List (oI)},Ext r h->Fresh r.heap.size h v9 ls' ys->ls'.length<=4->M.gateC (2+n+i) g=ys->vbi .append [zn,zn] zn [lv,v9] h λt w1=>zG zn (oP X 1) t w1 λ_ W=>C [nI ((i:Int)+1)] W:=λ{h w10 v9 ls' ys} f hf h4 an=>by
   refine v.add f hf (gr _) oM oM λav ab T ac=>?_;refine hC p _ _ ⟨by simp,Ext.then (e.trans f) T λy V=>?_,ab,ls++ls',?_⟩
   .rcases V with rfl|V
    .exact v.lo
    .exact(v.new y V).1
   grind
  refine zm (λa5=>?_) (λa5=>?_)
  .simp(disch:=exact oS) only[push_cast,v.blk.ld1,neg_wrap ha,neg_wrap hb,neg_wrap hk];simp only[Ga];exact gl_xor λh v9 aa f D h4=>fin (w10:=h) f D oM (by unfold M.gateC;grind)
  .simp(disch:=exact oS) only[push_cast,v.blk.ld1,neg_wrap ha,neg_wrap hb,neg_wrap hk];simp only[Ga];exact gl_and λh v9 aa f D h4=>fin (w10:=h) f D oM (by simp_all[M.gateC])
 .have a6:i=gs.length:=oM;subst a6;rw[gA] at v;have J:=(a2.ext j).ext e;refine v.out J oM λh a8 hO=>?_;have S:Ext w h:=Ext.then (e3.trans e) a8 λy V=>oM;rw[hm];refine hK h lv ls S ?_;have h1:=hO.down (M:=w.heap.size) oM
  grind [M.netC]
theorem CnfS.of {c:M.Cnf} {K:oK} (h:CnfO N w lv ls c) (j:∀w' b,b=w.heap.size->Ext w w'->CnfS N b w' c.many lv ls c.list->K (oP b 0) w'):
  xS zq w λt4 w1=>zG zq t4 (.agg ⟨[nI c.many,lv]⟩) w1 λ_ w2=>K t4 w2:=by
 obtain⟨o,cc,d,_⟩:=h.lst.vals.shape;generalize (ls.map λx=>[x]).length=l at d;subst d;have s:=h.rows.nle;refine zi xr λb w1 f k p e=>?_;refine e.stAgg (cs':=[nI c.many,.slice o l cc]) rfl zF net_one λw2 n q i=>?_;have a:Ext w w2:=by grind [Ext.then]
 have m:∀x,(Value.slice o l cc).ownBlock=some x->x<w.heap.size:=λx g=>h.lst.lt g;exact j w2 b f a ⟨i,h.lst.ext a,h.len,(h.rows.weaken (F':=λx=>(Value.slice o l cc).ownBlock≠some x/\x≠b) λx e _ r=>⟨e,oM⟩).ext a,λx g=>⟨h.dl x g,by grind⟩,oM⟩
theorem l8All_spec (k:JX ds) (o:DclsR Fx w dv ds) (m:TmsR Fy w tv ts) (s:∀w',Ext w w'->K (.bool (all8 ds ts)) w'):vcall zP0 #[dv,tv] w K:=by
 refine ze {loops:=[(4,[5])],cuts:=[(8195,[])]} Tryz.func40 ?_;have v:=m.small;have no: ¬(ts.length<=8/\M.declOk ds=true/\∀t,t∈ts->M.tsort ds t=0)->∀w',Ext w w'->K (.bool false) w':=λh w' he=>by
  grind [all8]
 refine zp (λu w'=>u=[]/\Ext w w'/\M.declOk ds=true/\ts.length<=8) (λJ z=>?_) ?_
 .refine spec_DeclOk_spec o k λw1 c=>?_;refine oZ ?_;refine zm (λh=>no (λe=>by grind) _ c) (λh=>?_);simp only[push_cast,(m.ext c).len]
  grind [zb]
 rintro _ _ w1 ⟨rfl,c,l,q⟩;refine vloop_up ts.length (λi u w'=>u=[nI i]/\Ext w w'/\∀j,j<i->M.tsort ds (ts.getD j default)=0) ⟨rfl,c,λj p=>absurd p oM⟩ ?_;rintro i _ _ w2 C hi ⟨rfl,b,n⟩ r;have f:=m.ext b;simp only[push_cast,f.len];refine zb (λa=>?_) (λa=>?_)
 .have d:i<ts.length:=oM;simp(disch:=exact oS) only[push_cast,f.iaddr];refine f.load zc d λx y=>?_;refine spec_TermSort_spec k (o.ext b) y λA g=>?_;refine oZ ?_;refine zb (λh=>no (λe=>h (e.2.2 _ (M.getD_mem d _))) _ (b.trans g)) (λh=>?_);rw[inc64' oM];refine r d _ _ ⟨rfl,b.trans g,λj p=>?_⟩
  grind
 .have:=s w2 b;rwa[all8_iff.2 ⟨q,l,λt hm=>by
   grind [List.getElem_of_mem]⟩] at this
def headsI (rs:List (oI)):oI:=rs.map λr=>r.getD 0 0
theorem l8Cnf_spec (bl:all8 ds ts=true) (hd:DclsR Fx w dv ds) (ht:TmsR Fy w tv ts)
  (hK:∀w' lv ls,Ext w w'->CnfO w.heap.size w' lv ls (cnfE ds ts).1->K (.tuple #[.agg ⟨[nI (cnfE ds ts).1.many,lv]⟩,.bool (decide ((cnfE ds ts).2=0))]) w'):vcall zO0 #[dv,tv] w K:=by
 refine ze {loops:=[(4,[7,8]),(13,[11])]} Tryz.func41 ?_;obtain⟨h8,B,U⟩:=all8_iff.1 bl;obtain⟨bd,ag⟩:=bits_nat B;have ch:=ht.small;refine zi xr λb4 w1 c6 a0 bo ac=>?_;refine sbits8_spec (k:=ds.length) B (gr _) (by rw[gA];exact hd.ext a0) λw2 a1=>?_;rw[M.bitT_all,bd];simp only[push_cast,k00,YB0];have e2:=a0.trans a1;refine zi xA λJ w3 c8 bf ci bb=>?_;have an:MkR (M.bits ds).toNat (λb=>b=J) w3 [nI ((M.bits ds).toNat:Nat),oN,.bool true] (some []):=⟨none,0,0,rfl,GatesR.nil,by simp⟩;refine bb.stAgg (cs':=[nI ((M.bits ds).toNat:Nat),oN,.bool true]) rfl jf an.one λw4 cf cj S=>?_;have b9:Ext w2 w4:=by grind [Ext.then]
 have z1:=a0.size;have z2:=a1.size;have z3:=bf.size;refine yc xt yM λb5 w5 c7 ah ck ba=>?_;have aa:=b9.trans ah;have e5:=e2.trans aa;have bj:OwnI zh w5 (.slice (some ⟨b5,0,none⟩) 0 0) []:=Blk.own1 (t:=zh) (cs:=[]) (by rw[qB];exact ba) (Gf _) rfl rfl oM;have cm:=S.lt;have c4:∀b,(Value.slice (some ⟨b5,0,none⟩) 0 0).ownBlock=some b->b=b5:=λb s=>(V1 s).symm;have ao:MkR (M.bits ds).toNat (λb=>b=J\/(Value.slice (some ⟨b5,0,none⟩) 0 0).ownBlock=some b) w5 [nI ((M.bits ds).toNat:Nat),oN,.bool true] (some []):=⟨none,0,0,rfl,GatesR.nil,by simp⟩;refine vloop_up ts.length (λi u w'=> ∃mv cs st rs,u=[mv,nI i]/\Ext w2 w'/\Blk w' J cs zC/\MkR (M.bits ds).toNat (λb=>b=J\/mv.ownBlock=some b) w' cs st/\M.Bd.Out (M.bits ds).toNat (M.seqB ((ts.take i).map (M.termB ds))) (some []) st rs/\rs.length=i/\OwnI zh w' mv (headsI rs)/\∀b,mv.ownBlock=some b->w2.heap.size<=b/\b≠J)
  ⟨_,_,some [],[],rfl,aa,S.ext ah,ao,.inl ⟨[],rfl,rfl⟩,rfl,bj,λb s=>by grind⟩ ?_
 rintro i _ _ w6 C hi ⟨mv,cs,st,rs,rfl,L,f,G,m,bm,Q,a7⟩ hC;have e6:=e2.trans L;have av:=ht.ext e6;simp only[push_cast,av.len];have z26:=L.size;refine zb (λa=>?_) (λa=>?_)
 .have F:i<ts.length:=oM;refine yc xt yM λb7 w7 c9 a2 bp af=>?_;refine zd λw8 a3 _=>?_;have q:=a2.trans a3;have cq:=q.size;have aw:=av.ext q;have ad:=f.ext q;have bi:∀{w':World} {cs:List Value},cs.length=3->Blk w' J cs zC->∀K:oK,zu zC (oP J 0) w' K=K (.agg ⟨cs⟩) w':=λh3 h K=>h.ldAgg (t:=zC) (by rw[h3];exact jf);rw[bi G.len ad];simp(disch:=exact oS) only[push_cast,aw.iaddr,k5];refine aw.load zc F λx hx=>?_;have hD:∀b,(b=J\/mv.ownBlock=some b)->b<w8.heap.size:=λb s=>s.elim (λe=>by grind) λh=>by have:=Q.lt h;omega
  obtain⟨bn,_,c5⟩:=Jo (U _ (M.getD_mem F default));refine⟨rfl,sdo8_spec B ag _ oM (G.ext q λb h _=>h) hD (hd.ext (e6.trans q)) hx λw9 Y b1 r zs ai O bq c2 bk=>?_⟩;have p:=q.trans ai;have z9:=ai.size;have ay:=(out_lens B oM bk).1;have bo:zs.length=1:=by rw[ay,bn];rfl
  simp only[push_cast,k5,gi];have ae:=f.ext p;have az:=f.lt;refine ae.stAgg (cs':=Y) (by rw[O.len,G.len]) (by rw[O.len];exact jf) O.one λw10 n c3 ab=>?_;have I:Ints (New w8) w10 r zs:=bq.same n λb s _ e=>oM;have ak:=O.same n λb s=> .inl s;simp(disch:=exact oS) only[push_cast,k5,gi,I.iaddr,I.load];refine spec_one λb2 cn d aq bw=>?_;have a8:OwnI zh b2 mv (headsI rs):=((Q.ext p).same n λb s e=>(a7 b s).2 e).ext d;have am:(headsI rs).length=i:=(by grind [headsI]);refine a8.app (ys:=[zs.getD 0 0]) xC aq.ints (by grind) (by grind) λv12 b3 bz z ap=>?_
  try simp(disch:=omega) only[push_cast,zk]
  have cp:=d.size;have z12:=z.size;have bv:∀b,mv.ownBlock=some b->b<w6.heap.size:=λb s=>Q.lt s;have al:MkR (M.bits ds).toNat (λb=>b=J\/v12.ownBlock=some b) b3 Y b1:=
   (ak.ext d λb h _=>h).swap z (λb s=> .inr s) λb s hl=>s.elim .inl λh=>(ap b h).elim .inr λh2=>oM
  refine hC F _ _ ⟨v12,Y,b1,rs++[zs],by simp,?_,((ab.ext d).same z λe=>(a7 _ e).2 rfl),al,?_,by grind,?_,λb s=>?_⟩
  .exact Ext.then ((Ext.then (L.trans p) n λy X=>oM).trans d) z λy X=>(a7 y X).1
  .grind [M.take_add,xF0]
  .grind [headsI]
  grind
 .have F:i=ts.length:=oM;subst F;rw[gA] at m;have R:=ac.ext (a1.trans L);have cl:=ac.lt;have az:=f.lt;cases st with
  |none=>
   have be:cs=[nI 0,oN,.bool false]:=G;subst be;have ce:M.listB ds ts=none:=by
    rcases m with⟨g,q1,q2⟩|⟨q1,q2,_⟩
    .cases q2
    .exact q1
   have Z:cnfE ds ts=(⟨0,[]⟩,1):=by unfold cnfE;grind
   simp(disch:=exact oS) only[push_cast,f.ld1,f.ld2,Pj];rw[k30];refine R.stAgg (cs':=[nI 0,oN]) rfl zF net_one λw7 cg bp af=>?_;rw[af.lv (t:=zq) zF];have m:Ext w w7:=(by grind [Ext.then]);have:=hK w7 (oN) [] m;rw[Z] at this;exact this (xP0 m.size)
  |some gs=>
   obtain⟨o,l,c,rfl,bg,ca⟩:=G;have ax:M.listB ds ts=some (gs,rs):=by
    rcases m with⟨g,q1,q2⟩|⟨q1,q2,_⟩
    .cases q2;exact q1
    .cases q2
   have W:=M.list_net B (λt ht=>by rw[(Jo (U t ht)).1];decide) ax;have Z:cnfE ds ts=(M.blastC ds gs rs,0):=by unfold cnfE;grind
   simp(disch:=exact oS) only[push_cast,f.ld1,f.ld2,Gp];rw[Blk.ldTake (us:=[nI ((M.bits ds).toNat:Nat),.slice o l c]) (r:=[.bool true]) f y5];refine l6Cnf_spec bg W.net ag λw7 lv ls a2 hO=>?_;refine CnfS.of (c:=M.netC (M.bits ds).toNat gs []) hO λw8 b8 bt a3 hS=>?_;have cd:=Zz (M.bits ds).toNat gs 0;have bu:=W.net.few;have bx:(M.netC (M.bits ds).toNat gs []).list.length<=2401:=by
    show([1]::(M.gatesC _ gs 0++[])).length<=2401
    grind
   have a6:(M.netC (M.bits ds).toNat gs []).many=(M.blastC ds gs rs).many:=rfl;have a5:(M.netC (M.bits ds).toNat gs []).list++M.rootsC rs=(M.blastC ds gs rs).list:=by
    show([1]::(M.gatesC _ gs 0++[]))++M.rootsC rs=[1]::(M.gatesC _ gs 0++M.rootsC rs);rw[gK];rfl
   generalize M.netC (M.bits ds).toNat gs []=c0 at*;have q:=a2.trans a3;have am:(headsI rs).length=ts.length:=(by grind [headsI]);refine vloop_up ts.length (λj u w'=>u=[nI j]/\Ext w6 w'/\∃lv ls,CnfS w6.heap.size b8 w' c0.many lv ls (c0.list++M.rootsC (rs.take j))) ⟨rfl,q,lv,ls,by simpa[M.rootsC] using hS⟩ ?_;rintro j _ _ w9 C2 hj ⟨rfl,p,br,a9,A⟩ bc;have V:=(Q.ext p).ints;simp only[push_cast,V.len,am];refine zb (λa=>?_) (λa=>?_)
   .have cb:j<rs.length:=oM;have a4:(headsI rs).getD j 0=(rs.getD j []).getD 0 0:=by
     grind [headsI]
    refine zd λw10 D _=>?_;have v:=A.ext D;have H:=V.ext D;simp(disch:=exact oS) only[push_cast,v.blk.ld1,H.iaddr,H.load,k5];rw[a4];refine lit_row (N:=w10.heap.size) (ls:=[]) (xss:=[]) (xs:=[nI ((rs.getD j []).getD 0 0)]) (us:=[(rs.getD j []).getD 0 0]) rfl (by simp) (RowsR.nil (gr _)) rfl λb2 v11 d ar c1=>?_;simp(disch:=exact oS) only[push_cast,(v.ext d).blk.ld1,k5,gi];refine lits_fin (xs:=[v11]) (xss:=[[(rs.getD j []).getD 0 0]]) (by simp) rfl (λy X=>by grind) ar λb3 v12 E aj=>?_;simp(disch:=exact oS) only[push_cast,((v.ext d).ext E).blk.ld1,k5,gi];have cc:a9.length<=3000:=by
     rw[A.len,Q1]
     grind [M.rootsC]
    refine v.add (d.trans E) aj (gr _) oM (by simp) λco b0 au bs=>?_
    try simp(disch:=omega) only[push_cast,zk]
    have z9:=p.size;refine bc oM _ _ ⟨by simp,Ext.then (p.trans (D.trans (d.trans E))) au λy X=>?_,b0,a9++[v11],?_⟩
    .rcases X with rfl|X
     .exact A.lo
     .exact(A.new y X).1
    grind [M.take_add,M.rootsC]
   .have bh:j=ts.length:=oM;subst bh;rw[<-bm,gA,a5] at A;refine A.out (R.ext p) oM λw10 n T=>?_;have m:Ext w w10:=Ext.then (e6.trans p) n λy X=>oM;have:=hK w10 br a9 m;rw[Z] at this;rw[a6] at T⊢;exact this ((T.down oM))
end
end Go.Proofs.YtfnpmncplaibiaaGreatDoor
namespace Go.Proofs.YtfnpmncplaibiaaGreatDoor
open Go Go.Vc Go.Proofs Go.M
section
variable {w:World} {K:oK} {F Fr:oA}
def Sep (Fr:oA) (os:List (Option Nat)):Prop:=os.Pairwise (λa b=>∀x,a=some x->b≠some x)/\∀o,o∈os->∀x,o=some x->¬Fr x
structure TrailR (Fr:oA) (w:World) (bt many:Nat) (put:oI) (ds:List Bool) (vp vpl vl:Value):Prop where
 blk:Blk w bt [vp,vpl,vl] yB
 rp:OwnI zh w vp put
 rpl:OwnI zh w vpl (places many put)
 rl:OwnI zh w vl (levels ds)
 sep:Sep Fr [some bt,vp.ownBlock,vpl.ownBlock,vl.ownBlock]
 len:ds.length=put.length
 dis:Distinct put
 bnd:∀x,x∈put->x≠0/\x.natAbs<=many
 few:many<=700
def Za (bt:Nat) (vp vpl vl:Value) (b:Nat):Prop:=b=bt\/vp.ownBlock=some b\/vpl.ownBlock=some b\/vl.ownBlock=some b
section
variable {bt many:Nat} {put:oI} {ds:List Bool} {vp vpl vl:Value}
theorem TrailR.same {S:oA} {w':World} (h:TrailR Fr w bt many put ds vp vpl vl) (hw:Same S w w') (hs:∀b,Za bt vp vpl vl b->¬S b):TrailR Fr w' bt many put ds vp vpl vl:=
 ⟨h.blk.same hw (hs _ (.inl rfl)),h.rp.same hw λb a=>hs _ (.inr (.inl a)),h.rpl.same hw λb a=>hs _ (.inr (.inr (.inl a))),h.rl.same hw λb a=>hs _ (.inr (.inr (.inr a))),h.sep,h.len,h.dis,h.bnd,h.few⟩
theorem TrailR.ext {w':World} (h:TrailR Fr w bt many put ds vp vpl vl) (hw:Ext w w'):TrailR Fr w' bt many put ds vp vpl vl:=h.same hw λ_ _ h=>h
theorem nodup_le {m:Nat} {xs:List Nat} (b:xs.Nodup) (a:∀x,x∈xs->1<=x/\x<=m):xs.length<=m:=by
 have:=b.length_le_of_subset (l₂:=(List.range' 1 m)) λx c=>by rw[PS];have:=a x c;omega
 simpa using this
theorem TrailR.few' (h:TrailR Fr w bt many put ds vp vpl vl):put.length<=many:=by
 have:=nodup_le (m:=many) h.dis λx a=>by
  obtain⟨y,b,rfl⟩:=gy.1 a;have:=h.bnd y b;omega
 simpa using this
theorem newTrail_spec (hm:many<=700) (i:∀b,Fr b->b<w.heap.size) (p:∀bt vp vpl vl w',Ext w w'->TrailR Fr w' bt many [] [] vp vpl vl->(∀b,Za bt vp vpl vl b->w.heap.size<=b)->K (oP bt 0) w'):
  vcall KI #[nI many] w K:=by
 refine ze {} Tryz.func262 ?_;simp(disch:=omega) only[push_cast,zk];rw[show((many:Int)+1)=((many+1:Nat):Int) from by omega];refine vmkS_own (bs:=8) xC qB xJ rfl oM oM λv1 w1 g c f=>?_;refine QF yL0 (us:=[[v1]]) (by simp[g.vals.cells1]) rfl ?_;refine yj λb w2 q d _ n=>?_;have m:OwnI zh w2 v1 (places many []):=by rw[q80];unfold OwnI;rw[GO];exact g.ext d
 refine p b (oN) v1 (oN) w2 (c.trans d) ⟨n,OwnI.nil,m,OwnI.nil,⟨?_,?_⟩,rfl,pn,(λx a=>by cases a),hm⟩ ?_
 .have j:∀x,v1.ownBlock=some x->x<b:=λx a=>by have:=g.lt a;omega
  simp[Value.ownBlock];intro e;have:=j b e;omega
 .have k:=c.size;intro o l x a hF;have:=i x hF;simp only[gj,gC,Gn] at l;rcases l with rfl|rfl|rfl|rfl
  .cases a;omega
  .cases a
  .have:=f x a;omega
  .cases a
 .have k:=c.size;rintro x (rfl|h|h|h)
  .omega
  .cases h
  .exact f x h
  .cases h
theorem assigned_spec {l:Int} (h:TrailR Fr w bt many put ds vp vpl vl) (e:l.natAbs<=many) (d:∀w',Ext w w'->K (.bool (decide (placeOf put l.natAbs≠0))) w'):
  vcall Y4 #[oP bt 0,nI l] w K:=by
 refine ze {} Tryz.func297 ?_;have g:=h.few;refine zd λw1 a _=>?_;have c:=h.ext a;have b:=c.rpl.ints;have f:=Zd many put;simp only[push_cast,c.blk.ld1,k5];refine variable_spec oM oM ?_;simp(disch:=exact oS) only[push_cast,c.blk.ld1,k5,b.iaddr,b.load,gi,places_get e];have:=d w1 a;simpa using this
theorem isTrue_spec {l:Int} (h:TrailR Fr w bt many put ds vp vpl vl) (j:l.natAbs<=many) (g:∀w',Ext w w'->K (.bool (decide (l∈put))) w'):
  vcall Xp #[oP bt 0,nI l] w K:=by
 refine ze {} Tryz.func340 ?_;have o:=h.few;refine zd λw1 b _=>?_;refine assigned_spec (h.ext b) j λw2 c=>zb (λa=>?_) (λa=>?_)
 .have d:=h.ext (b.trans c);have k:=d.rp.ints;have f:=d.rpl.ints;have m:=Zd many put;have hle:=placeOf_le put l.natAbs;have i:=h.few';simp(disch:=exact oS) only[push_cast,d.blk.ld0,d.blk.ld1,k5];refine variable_spec oM oM ?_;simp(disch:=exact oS) only[push_cast,d.blk.ld0,d.blk.ld1,k5,gi,f.iaddr,f.load,places_get j,zk];obtain⟨q,n⟩:∃q,placeOf put l.natAbs=q+1:=⟨placeOf put l.natAbs-1,oM⟩;rw[n,show(((q+1:Nat):Int)-1)=(q:Int) from by omega];simp(disch:=exact oS) only[push_cast,k5,k.iaddr,k.load];rw[show q=placeOf put l.natAbs-1 from by omega];have:=g w2 (b.trans c);have e:l∈put↔put.getD (placeOf put l.natAbs-1) 0=l:=(mem_iff_place h.dis).trans ⟨λh=>h.2,λh=>⟨a,h⟩⟩;rwa[decide_eq_decide.2 e] at this
 .have:=g w2 (b.trans c);rwa[gm (λhm=>a (placeOf_ne_zero hm))] at this
theorem place_spec {l:Int} (h:TrailR Fr w bt many put ds vp vpl vl) (f:l.natAbs<=many) (e:∀w',Ext w w'->K (nI ((placeOf put l.natAbs:Int)-1)) w'):
  vcall Q5 #[oP bt 0,nI l] w K:=by
 refine ze {} Tryz.func342 ?_;have i:=h.few;refine zd λw1 a _=>?_;have c:=h.ext a;have b:=c.rpl.ints;have g:=Zd many put;have hle:=placeOf_le put l.natAbs;have d:=h.few';simp only[push_cast,c.blk.ld1,k5];refine variable_spec oM oM ?_;simp(disch:=exact oS) only[push_cast,c.blk.ld1,k5,b.iaddr,b.load,gi,places_get f,zk];exact e w1 a
theorem level_spec {l:Int} (h:TrailR Fr w bt many put ds vp vpl vl) (i:l.natAbs<=many) (m:placeOf put l.natAbs≠0) (g:∀w',Ext w w'->K (nI (lvl ds (placeOf put l.natAbs-1))) w'):
  vcall Q6 #[oP bt 0,nI l] w K:=by
 refine ze {} Tryz.func321 ?_;have n:=h.few;have e:=h.few';have hlen:=h.len;have hle:=placeOf_le put l.natAbs;refine zd λw1 a _=>?_;have c:=h.ext a;simp only[push_cast,c.blk.ld2,k5];refine place_spec c i λw2 b=>?_;have d:=c.ext b;have f:=d.rl.ints;have k:=YC ds;obtain⟨q,j⟩:∃q,placeOf put l.natAbs=q+1:=⟨placeOf put l.natAbs-1,oM⟩;rw[j,show(((q+1:Nat):Int)-1)=(q:Int) from by omega];simp(disch:=exact oS) only[push_cast,d.blk.ld2,k5,f.iaddr,f.load,gi];rw[J3 oM,show q=placeOf put l.natAbs-1 from by omega];exact g w2 (a.trans b)
theorem look_spec {v:Value} {c:oI} {F:oA} (h:TrailR Fr w bt many put ds vp vpl vl) (o:Ints F w v c) (r:∀l,l∈c->l.natAbs<=many)
  (q:∀w' b n x,Ext w w'->lookM put c 0 0=(b,n,x)->K (.tuple #[.bool b,nI n,nI x]) w'):
  vcall QS #[oP bt 0,v] w K:=by
 refine ze {loops:=[(2,[5,6,11])]} Tryz.func318 ?_;simp(disch:=exact oS) only[push_cast,o.len];have hlen:c.length<=9223372036854775807:=by obtain⟨_,_,_,s,A,_⟩:=o.shape;simp at s;omega
 refine vloop_up c.length (λi u w'=> ∃n x,u=[nI (n:Nat),nI x,nI i]/\Ext w w'/\n<=i/\lookM put (c.drop i) n x=lookM put c 0 0) ⟨0,0,rfl,Same.refl _ _,oM,rfl⟩ ?_;rintro i _ g w1 C hi ⟨n,x,rfl,he,B,e⟩ p;refine oZ ?_;refine zb (λz=>?_) (λy=>?_)
 .have k:=o.ext he;simp(disch:=exact oS) only[push_cast,k.iaddr,k.load];have t:=Zg (d:=0) (show i<c.length by omega);have hm:c.getD i 0∈c:=getD_meS oM;rw[t,QZ] at e;refine isTrue_spec (h.ext he) (r _ hm) λw2 f=>zb (λa=>?_) (λa=>?_)
  .rw[X0 a] at e;exact q w2 true 0 0 (he.trans f) e.symm
  .rw[y3 a] at e;refine assigned_spec (h.ext (he.trans f)) (r _ hm) λD j=>?_;refine oZ ?_;refine zm (λb=>?_) (λb=>?_)
   .have m:placeOf put (c.getD i 0).natAbs=0:=(by simpa using b);rw[X0 m] at e;simp(disch:=omega) only[push_cast,zk];exact p oM _ _ ⟨n+1,_,by simp,he.trans (f.trans j),oM,e⟩
   .have m: ¬placeOf put (c.getD i 0).natAbs=0:=(by simpa using b);rw[y3 m] at e;simp(disch:=omega) only[push_cast,zk];exact p oM _ _ ⟨n,_,by simp,he.trans (f.trans j),oM,e⟩
 .rw[Gj oM] at e;exact q w1 false n x he e.symm
end
end
section
variable {w:World} {K:oK} {F Fr:oA} {bt many:Nat} {put:oI} {ds:List Bool} {vp vpl vl:Value}
theorem next_spec {v:Value} {vs:List Value} {lls:List (List (oI))} (h:TrailR Fr w bt many put ds vp vpl vl) (J:Vals F w v vs) (hn:vs.length=lls.length) (hi:∀i,i<lls.length->Lists F w (vs.getD i undef) (lls.getD i []))
  (hl:∀c,c∈lls.flatten->∀l,l∈c->l.natAbs<=many) (a1:lls.flatten.length<=1000000)
  (M:∀w' k u x,Ext w w'->findM put lls.flatten 0 (-1) 0=(k,u,x)->K (.tuple #[nI k,nI u,nI x]) w'):
  vcall QR #[oP bt 0,v] w K:=by
 refine ze {loops:=[(4,[4,5,6,7,17]),(7,[4,5,6,7,23])]} Tryz.func293 ?_;simp(disch:=exact oS) only[push_cast,J.len];have hlen:vs.length<=9223372036854775807:=by obtain⟨_,_,_,A,R,_⟩:=J.shape;simp at A;omega
 refine vloop_up vs.length (λi u w'=> ∃(k:Nat) (b x:Int),u=[nI (-1),nI b,nI x,nI k,nI i]/\Ext w w'/\k+(lls.drop i).flatten.length=lls.flatten.length/\findM put (lls.drop i).flatten k b x=findM put lls.flatten 0 (-1) 0) ⟨0,-1,0,rfl,Same.refl _ _,by simp,rfl⟩ ?_;rintro i _ g w1 C Y ⟨k,b,x,rfl,he,O,a⟩ S;refine oZ ?_;refine zb (λa0=>?_) (λX=>?_)
 .have z:=J.ext he;obtain⟨cs,V,q,D⟩:=hi i oM;have s:=q.ext he;simp(disch:=exact oS) only[push_cast,z.iaddr,z.load,s.len];have G:cs.length<=9223372036854775807:=by obtain⟨_,_,_,A,R,_⟩:=q.shape;simp at A;omega
  have W:=Zg (d:=[]) (show i<lls.length by omega);rw[W,GR] at a O;have t:∀c,c∈lls.getD i []->c∈lls.flatten:=λc U=>List.mem_flatten.2 ⟨_,by rw[y4,gd oM];exact pj _,U⟩;generalize lls.getD i []=L at*;generalize (lls.drop (i+1)).flatten=T at*;rw[Q1] at O;refine vloop_up cs.length (λj u w'=> ∃(o:Nat) (b x:Int),u=[nI (-1),nI b,nI x,nI o,nI j]/\Ext w w'/\o=k+j/\findM put (L.drop j++T) o b x=findM put lls.flatten 0 (-1) 0) ⟨k,b,x,rfl,he,oM,a⟩ ?_;rintro j _ g2 w2 C2 hj ⟨o,b,x,rfl,f,Z,a⟩ m;refine oZ ?_;refine zb (λQ=>?_) (λN=>?_)
  .have p:=q.ext f;simp(disch:=exact oS) only[push_cast,p.iaddr,p.load];have hm:L.getD j []∈L:=by rw[y4,gd oM];exact pj _
   rw[Zg (d:=[]) (show j<L.length by omega),GM,findM_cons] at a;refine look_spec (h.ext f) ((D j oM).ext f) (hl _ (t _ hm)) λw3 b' n y E r=>?_;rw[r] at a;dsimp only at a;simp(disch:=omega) only[push_cast,zk];have e:=f.trans E;refine zm (λB=>?_) (λB=>?_)
   .rw[X0 B] at a;exact m oM _ _ ⟨o+1,_,_,by simp<;>exact⟨rfl,rfl⟩,e,oM,a⟩
   rw[y3 (by simp[B])] at a;refine zb (λH=>?_) (λH=>?_)
   .rw[X0 oM] at a;exact M w3 _ _ _ e a.symm
   rw[y3 oM] at a;refine zb (λI=>?_) (λI=>?_)
   .rw[X0 oM] at a;refine zb (λhu=>?_) (λhu=>?_)
    .rw[X0 hu] at a;exact m oM _ _ ⟨o+1,_,_,by simp<;>exact⟨rfl,rfl⟩,e,oM,a⟩
    .rw[y3 hu] at a;exact m oM _ _ ⟨o+1,_,_,by simp<;>exact⟨rfl,rfl⟩,e,oM,a⟩
   .rw[y3 oM] at a;exact m oM _ _ ⟨o+1,_,_,by simp<;>exact⟨rfl,rfl⟩,e,oM,a⟩
  .rw[Gj (show L.length<=j by omega),Gk] at a;simp(disch:=omega) only[push_cast,zk];exact S oM _ _ ⟨o,_,_,by simp<;>exact⟨rfl,rfl⟩,f,oM,a⟩
 .rw[Gj oM] at a;exact M w1 _ _ _ he a.symm
theorem sep4 {a b c d:Option Nat}:Sep Fr [a,b,c,d]↔((∀x,a=some x->b≠some x)/\(∀x,a=some x->c≠some x)/\(∀x,a=some x->d≠some x)/\(∀x,b=some x->c≠some x)/\(∀x,b=some x->d≠some x)/\(∀x,c=some x->d≠some x))/\
  (∀x,a=some x->¬Fr x)/\(∀x,b=some x->¬Fr x)/\(∀x,c=some x->¬Fr x)/\(∀x,d=some x->¬Fr x):=by
 unfold Sep;simp only[Pb,gj,gC,Gn,forall_eq_or_imp,forall_eq];constructor
 .rintro⟨⟨⟨e,a2,a3⟩,⟨b1,b2⟩,c1,-⟩,f1,f2,f3,f4⟩;exact⟨⟨e,a2,a3,b1,b2,c1⟩,f1,f2,f3,f4⟩
 .rintro⟨⟨e,a2,a3,b1,b2,c1⟩,f1,f2,f3,f4⟩;exact⟨⟨⟨e,a2,a3⟩,⟨b1,b2⟩,c1,λ_ h=>h.elim,List.Pairwise.nil⟩,f1,f2,f3,f4⟩
theorem push_spec {l:Int} {d:Bool} (h:TrailR Fr w bt many put ds vp vpl vl) (a9:l≠0) (hl:l.natAbs<=many) (s:placeOf put l.natAbs=0) (a8:∀b,Fr b->b<w.heap.size)
  (hK:∀i k w',TrailR Fr w' bt many (put++[l]) (ds++[d]) i vpl k->Same (Za bt vp vpl vl) w w'->(∀b,Za bt i vpl k b->Za bt vp vpl vl b\/w.heap.size<=b)->K (.tuple #[]) w'):
  vcall QQ #[oP bt 0,nI l,.bool d] w K:=by
 refine ze {cuts:=[(8195,[6]),(16389,[6])]} Tryz.func324 ?_;have hf:=h.few;have ai:=h.few';have hlen:=h.len;have ah:=YC ds;have hc:=pY (l:=ds) (a:=true);refine zp (λu w'=>u=[nI (ds.count true)]/\Ext w w') ?_ ?_
 .intro C V;have hv:=h.rl.ints;simp(disch:=exact oS) only[push_cast,h.blk.ld2,hv.len];refine zb (λa=>zd λw1 n _=>?_) (λa=>V _ _ ⟨?_,Same.refl _ _⟩)
  .have T:=h.ext n;have O:=T.rl.ints;obtain⟨q,hq⟩:∃q,ds.length=q+1:=⟨ds.length-1,oM⟩;simp(disch:=exact oS) only[push_cast,T.blk.ld2,O.len,k5];rw[ah,hq,show(((q+1:Nat):Int)-1)=(q:Int) from by omega];simp(disch:=exact oS) only[push_cast,zk,O.iaddr,O.load,k5];refine V _ _ ⟨?_,n⟩;rw[J3 oM,ju0 oM]
  .have:ds=[]:=gL oM;subst this;rfl
 rintro _ g w1 ⟨rfl,n⟩;refine zp (λu w'=>u=[nI ((ds.count true+d.toNat:Nat):Int)]/\w'=w1) ?_ ?_
 .intro C V;cases d
  .exact V _ _ ⟨rfl,rfl⟩
  .simp(disch:=omega) only[push_cast,zk];exact V _ _ ⟨rfl,rfl⟩
 rintro _ g2 _ ⟨rfl,rfl⟩;have T:=h.ext n;have aj:=n.size;simp(disch:=exact oS) only[push_cast,T.blk.ld0];obtain⟨⟨s1,s2,s3,s4,s5,s6⟩,f1,f2,f3,f4⟩:=sep4.1 h.sep;refine zB xt yM xJ rfl rfl λb1 w2 aq L av a2=>?_;have h2:=T.ext L;refine h2.rp.app1 xC a2 oM oM λi w3 B y ad=>?_;have a3:Blk w3 bt [vp,vpl,vl] yB:=h2.blk.same y λe=>s1 bt rfl e;refine a3.st B.ints.cells1 B.ints.one qq rfl λQ D aw a4=>?_;have F:Blk Q bt [i,vpl,vl] yB:=a4;simp(disch:=exact oS) only[push_cast,F.ld2];have ak:=L.size;have al:=y.size;have m:∀x,i.ownBlock=some x->vp.ownBlock=some x\/w.heap.size<=x:=λx c=>(ad x c).imp id λh=>oM
 have l1:=h.blk.lt;have j:∀x,Za bt vp vpl vl x->x<w.heap.size:=by
  rintro x (rfl|e|e|e)
  .exact l1
  .exact h.rp.lt e
  .exact h.rpl.lt e
  .exact h.rl.lt e
 have aa:OwnI zh Q vl (levels ds):=(h2.rl.same y λx c e=>s5 x e c).same D λx c e=>s3 x (by rw[e]) c;have Y:OwnI zh Q vpl (places many put):=(h2.rpl.same y λx c e=>s4 x e c).same D λx c e=>s2 x (by rw[e]) c;have af:OwnI zh Q i (put++[l]):=B.same D λx c e=>by
  rcases m x c with f|f
  .exact s1 x (by rw[e]) f
  .have:=j bt (.inl rfl);omega
 refine zB xt yM xJ rfl rfl λb2 w5 ar o ax a5=>?_;refine(aa.ext o).app1 xC a5 oM oM λk w6 M z ae=>?_;have a6:Blk w6 bt [i,vpl,vl] yB:=(F.ext o).same z λe=>s3 bt rfl e;refine a6.st M.ints.cells1 M.ints.one qq rfl λR A ay a7=>?_;have U:Blk R bt [i,vpl,k] yB:=a7;have am:=o.size;have an:=z.size;have t:∀x,k.ownBlock=some x->vl.ownBlock=some x\/w3.heap.size<=x:=λx c=>(ae x c).imp id λh=>oM
 have H:∀x,k.ownBlock=some x->vl.ownBlock=some x\/w.heap.size<=x:=λx c=>(t x c).imp id λh=>oM
 have ag:OwnI zh R i (put++[l]):=((af.ext o).same z λx c e=>by
  rcases m x c with f|f
  .exact s5 x f e
  .have:=j x (.inr (.inr (.inr e)));omega).same A λx c e=>by
  rcases m x c with f|f
  .exact s1 x (by rw[e]) f
  .have:=j bt (.inl rfl);omega
 have Z:OwnI zh R vpl (places many put):=((Y.ext o).same z λx c e=>s6 x c e).same A λx c e=>s2 x (by rw[e]) c;have ab:OwnI zh R k (levels (ds++[d])):=by
  rw[levels_snoc];refine M.same A λx c e=>?_;rcases t x c with f|f
  .exact s3 x (by rw[e]) f
  .have:=j bt (.inl rfl);omega
 refine zd λw8 p _=>?_;have r:=U.ext p;have W:=ag.ext p;have J:=Z.ext p;have ac:=ab.ext p;have X:=W.ints;have a1:=J.ints;have au:=Zd many put;simp(disch:=exact oS) only[push_cast,r.ld0,r.ld1,X.len,k5];refine variable_spec oM oM ?_;simp(disch:=exact oS) only[push_cast,r.ld0,r.ld1,X.len,a1.iaddr,k5,gi];refine J.st yM oM λw9 a0 E az=>?_;have N:OwnI zh w9 vpl (places many (put++[l])):=by
  rw[places_snoc s];simpa using a0
 have I:∀x,i.ownBlock=some x->vpl.ownBlock≠some x:=λx c e=>by
  rcases m x c with f|f
  .exact s4 x f e
  .have:=j x (.inr (.inr (.inl e)));omega
 have v:∀x,vpl.ownBlock=some x->k.ownBlock≠some x:=λx c e=>by
  rcases t x e with f|f
  .exact s6 x c f
  .have:=j x (.inr (.inr (.inl c)));omega
 have ao:=A.size;have ap:=p.size;have G:∀x,w.heap.size<=x->¬Fr x:=λx c hF=>by have:=a8 x hF;omega
 refine hK i k w9 ⟨r.same E λe=>s2 bt rfl e,W.same E I,N,ac.same E λx c e=>v x e c,?_,by simp[hlen],distinct_snoc h.dis s,?_,h.few⟩ ?_ ?_
 .rw[sep4];refine⟨⟨?_,s2,?_,I,?_,v⟩,f1,?_,f3,?_⟩
  .rintro x e S;cases e;rcases m _ S with f|f
   .exact s1 _ rfl f
   .have:=j _ (.inl rfl);omega
  .rintro x e S;cases e;rcases t _ S with f|f
   .exact s3 _ rfl f
   .have:=j _ (.inl rfl);omega
  .intro x e S;have c:=B.lt e;rcases t x S with e3|e3
   .rcases m x e with f|f
    .exact s5 x f e3
    .have:=j x (.inr (.inr (.inr e3)));omega
   .omega
  .intro x e;rcases m x e with f|f
   .exact f2 x f
   .exact G x f
  .intro x e;rcases H x e with f|f
   .exact f4 x f
   .exact G x f
 .intro x c;rw[gl,gx] at c;rcases c with c|rfl
  .exact h.bnd x c
  .exact⟨a9,hl⟩
 .have S0:Same (Za bt vp vpl vl) w w2:=Same.of_ext (n.trans L);have S3:Same (Za bt vp vpl vl) w2 w3:=y.mono λx _ e=> .inr (.inl e);have S4:Same (Za bt vp vpl vl) w3 Q:=D.mono λx _ e=> .inl e;have S5:Same (Za bt vp vpl vl) Q w5:=Same.of_ext o;have S6:Same (Za bt vp vpl vl) w5 w6:=z.mono λx _ e=> .inr (.inr (.inr e));have S7:Same (Za bt vp vpl vl) w6 R:=A.mono λx _ e=> .inl e;have S8:Same (Za bt vp vpl vl) R w8:=Same.of_ext p;have S9:Same (Za bt vp vpl vl) w8 w9:=E.mono λx _ e=> .inr (.inr (.inl e));exact S0.trans (S3.trans (S4.trans (S5.trans (S6.trans (S7.trans (S8.trans S9))))))
 .rintro x (e|e|e|e)
  .exact .inl (.inl e)
  .exact(m x e).imp (λe=> .inr (.inl e)) id
  .exact .inl (.inr (.inr (.inl e)))
  .exact(H x e).imp (λe=> .inr (.inr (.inr e))) id
end
theorem Ki {α:Type} {xs:List α} {d:α} {i:Nat} (h:i<xs.length):xs.take (i+1)=xs.take i++[xs.getD i d]:=by
 rw[pd];simp[y4,h]
end Go.Proofs.YtfnpmncplaibiaaGreatDoor
namespace Go.Proofs.YtfnpmncplaibiaaGreatDoor
open Go Go.Vc Go.Proofs
section
variable {w:World} {K:oK}
theorem unit_mem {put cl:oI} {x:Int} (h:M.unitC put cl x):x∈cl/\M.placeOf put x.natAbs=0:=by
 have:x∈cl.filter λl=>decide (M.placeOf put l.natAbs=0):=by rw[h.2];grind
 grind
theorem cnf_new {N:Nat} {lv:Value} {ls:List Value} {c:M.Cnf} {K:oK} (h:CnfO N w lv ls c) (g:∀w' b,w.heap.size<=b->Ext w w'->Blk w' b [nI c.many,lv] zq->CnfO N w' lv ls c->K (oP b 0) w'):
  xS zq w λt4 w1=>zG zq t4 (.agg ⟨[nI c.many,lv]⟩) w1 λ_ w2=>K t4 w2:=by
 obtain⟨o,cc,d,_⟩:=h.lst.vals.shape;generalize (ls.map λx=>[x]).length=l at d;subst d;refine zi xr λb w1 i j k e=>?_;refine e.stAgg (cs':=[nI c.many,.slice o l cc]) rfl zF net_one λw2 m n f=>?_;have a:Ext w w2:=by grind [Ext.then]
 exact g w2 b oM a f (h.ext a)
theorem push_int {pv:Value} {xs:oI} {x:Int} (h:OwnI zh w pv xs) (n:xs.length<=100000) (g:∀w' a,Same (λb=>pv.ownBlock=some b) w w'->OwnI zh w' a (xs++[x])->(∀b,a.ownBlock=some b->pv.ownBlock=some b\/w.heap.size<=b)->K a w'):
  vbuildS zh 1 [(0,nI x)] w λs w1=>vbi .append [zh,zh] zh [pv,s] w1 K:=by
 refine qJ xt yM xJ rfl rfl dC λb3 o i c k d=>?_;refine OwnI.app1 (h.ext c) xC d oM oM λv4 l e f j=>?_;refine g l v4 ((Same.of_ext c).trans f) e λb m=>?_
 grind
end
end Go.Proofs.YtfnpmncplaibiaaGreatDoor
namespace Go.Vc
open Go
section
variable {t:TypeId} {w:World} {v:Value} {vs:List Value} {F:oA}
theorem Vals.part (h:Vals F w v vs) (j:vs≠[]) (m:elB t 1=true) {n:Nat} (q:n<=vs.length):∃v1,(∀(kd:IntKind) (w':World) (K:oK),xy t v none (some (.int kd n)) none w' K=K v1 w')/\Vals F w v1 (vs.take n):=by
 obtain⟨hu,hs⟩:=Xe m;obtain⟨a,c,rfl,l,g,d⟩:=h.shape;obtain⟨b,o,rfl,hF,k,f⟩:=d (by simpa using j);rw[K3] at l f;refine⟨.slice (some ⟨b,o,none⟩) n c,λkd w' K=>y9 ?_,⟨some ⟨b,o,none⟩,c,?_,?_,g,λ_=>⟨b,o,rfl,hF,k,λi hi=>?_⟩⟩,λx p=>by obtain⟨u,_,rfl⟩:=gy.1 p;rfl⟩
 .rw[run_sliceAt_slice w' t _ _ _ _ hu,run_slice_h w' t _ _ _ hu kd n oM oM,run_sizeOf hs];simp[Result.andThen,sliced];exact λ_=>rfl
 .simp;omega
 .simp;omega
 .simp only[K3,gh] at hi;have:=f i oM;have e:(List.map (λx=>[x]) (vs.take n)).getD i []=(List.map (λx=>[x]) vs).getD i []:=by
   simp[y4,List.getElem?_take,show i<n by omega]
  rw[e];exact this
theorem Vals.rest (h:Vals F w v vs) (j:vs≠[]) (r:elB t 1=true) {n:Nat} (y:n<=vs.length):∃v1,(∀(kd:IntKind) (w':World) (K:oK),xy t v (some (.int kd n)) none none w' K=K v1 w')/\Vals F w v1 (vs.drop n):=by
 obtain⟨hu,hs⟩:=Xe r;obtain⟨a,c,rfl,m,p,d⟩:=h.shape;obtain⟨b,o,rfl,hF,l,f⟩:=d (by simpa using j);rw[K3] at m f;refine⟨sliced (some ⟨b,o,none⟩) n vs.length c 1,λkd w' K=>y9 ?_,?_⟩
 .rw[run_sliceAt_slice w' t _ _ _ _ hu,run_slice_l w' t _ _ _ hu kd n oM (by simp;omega),run_sizeOf hs];simp[Result.andThen]
 .refine⟨⟨_,c-n,rfl|>λ(_:True=True)=>by simp[sliced];rfl,by simp;omega,oM,λg=>?_⟩,λx s=>by obtain⟨u,_,rfl⟩:=gy.1 s;rfl⟩;have q:n<vs.length:=by
   refine Nat.lt_of_not_le λk=>g ?_;rw[Pk k];rfl
  rw[y3 oM];refine⟨b,o+n,by simp[yw],hF,l,λi hi=>?_⟩;simp only[K3,pk] at hi;have:=f (n+i) oM;have e:(List.map (λx=>[x]) (vs.drop n)).getD i []=(List.map (λx=>[x]) vs).getD (n+i) []:=by
   simp[y4,Pd]
  rw[e,show o+n+i*1=o+(n+i)*1 by omega];exact this
end
end Go.Vc
namespace Go.Proofs.YtfnpmncplaibiaaGreatDoor
open Go Go.Vc Go.Proofs
section
variable {w:World} {K:oK} {D F F' G:oA} {dv iv:Value} {ds:List M.Dcl} {ins:List Bool}
def Jx (ds:List M.Dcl) (i:Nat):Nat:=M.nIn (ds.take i)
theorem off_succ (a:M.declOk ds=true) {i:Nat} (hi:i<ds.length):Jx ds (i+1)=Jx ds i+(ds.getD i (M.nada,0)).2.toNat:=by
 have f:=M.bits_le a hi;have hw:=M.dcl_wide a hi;unfold Jx M.nIn;have e:M.bits (ds.take (i+1))=M.bits (ds.take i)+(ds.getD i (M.nada,0)).2:=by
  rw[M.take_add hi (M.nada,0)];unfold M.bits;rw[gE,List.sum_append];simp
 have c:0<=M.bits (ds.take i):=M.bits_pos' λd b=>M.dpos a d (gU b);rw[e];omega
theorem Yn0:Jx ds ds.length=M.nIn ds:=by unfold Jx;rw[gA]
theorem off_le (hd : M.declOk ds = true) {i : Nat} (hi : i <= ds.length) : Jx ds i <= M.nIn ds := by
  induction h : ds.length - i generalizing i with
  | zero => have : i = ds.length := by omega
            subst this; exact Nat.le_of_eq Yn0
  | succ n ih =>
    have h2 := off_succ hd (show i < ds.length by omega)
    have := ih (i := i + 1) (by omega) (by omega)
    omega
theorem envB_take:∀{ds:List M.Dcl} {ins:List Bool} {i:Nat},(∀d,d∈ds->0<=d.2)->i<ds.length->(M.envB ds ins).getD i 0=(M.msbN ((ins.drop (Jx ds i)).take (ds.getD i (M.nada,0)).2.toNat):Int)
 |[],_,_,_,h=>by simp at h
 |d::ds,ins,0,_,_=>by
  have:Jx (d::ds) 0=0:=rfl;rw[this];simp[M.envB]
 |d::ds,ins,i+1,c,h=>by
  have f:=c d gk;have a:∀x,x∈ds->0<=x.2:=λx b=>c x (gp _ b);have g:0<=M.bits (ds.take i):=M.bits_pos' λx b=>a x (gU b);have e:Jx (d::ds) (i+1)=d.2.toNat+Jx ds i:=by
   unfold Jx M.nIn;rw[PE,M.bits_cons'];omega
  unfold M.envB;rw[pg,envB_take a (by simpa using h),e,pg,<-z0d]
theorem msb_snoc (bs:List Bool) (b:Bool):(M.msbN (bs++[b]):Int)=2*M.msbN bs+M.b2i b:=by
 rw[M.msb_app];cases b<;>simp[M.msbN,M.b2i]<;>omega
theorem BlastEnv_spec (Q:DclsR F w dv ds) (hi:Bools F' w iv ins) (d:M.declOk ds=true) (hl:ins.length=M.nIn ds)
  (hK:∀w' r,Ext w w'->OwnI zh w' r (M.envB ds ins)->(∀b,r.ownBlock=some b->w.heap.size<=b)->K r w'):vcall KT #[dv,iv] w K:=by
 refine ze {loops:=[(5,[1,5,23]),(9,[8,32])],cuts:=[(8195,[])]} Tryz.func216 ?_;obtain⟨ag,ah⟩:=M.nIn_eq d;have Z:Bools (λx=>x<w.heap.size) w iv ins:=Sl.weaken hi λx _ h=>h;refine zp (λu w'=>u=[]/\Ext w w') (λC S=>?_) ?_
 .refine DeclOk_spec Q λw1 f=>?_;rw[d];simp only[push_cast,Gp,(hi.ext f).len];refine bitsOf_spec (Q.ext f) d λw2 W=>?_;refine oZ ?_;refine zb (λh=>absurd oM h) (λ_=>S _ _ ⟨rfl,f.trans W⟩)
 rintro _ _ w1 ⟨rfl,f⟩;simp only[push_cast,(Q.ext f).len];have h4:=(M.decl_iff.1 d).1;have V:=M.dpos d;have Y:=M.envB_len ds ins;refine vloop_up ds.length (λi u w'=> ∃v r,u=[v,r,nI i]/\Ext w w'/\Bools (λx=>x<w.heap.size) w' v (ins.drop (Jx ds i))/\OwnI zh w' r ((M.envB ds ins).take i)/\∀b,r.ownBlock=some b->w.heap.size<=b) ⟨iv,_,rfl,f,by simpa[Jx,M.nIn,M.bits] using Z.ext f,OwnI.nil,λb hb=>by cases hb⟩ ?_;rintro i _ _ w2 C ae ⟨v,r,rfl,E,a6,t,s⟩ S;refine oZ ?_;refine zb (λa=>?_) (λa=>?_)
 .have p:i<ds.length:=oM;have I:=Q.ext E;have aa:=M.dcl_wide d p;have z:=off_succ d p;have ab:=off_le d (i:=i+1) oM;have o:(ins.drop (Jx ds i)).length=M.nIn ds-Jx ds i:=(by rw[pk,hl]);simp(disch:=exact oS) only[push_cast,I.iaddr,I.load];refine zi xL λb3 w3 ad X aj R=>?_;refine stDecl R λw4 a5 ak G=>?_;have k:Ext w2 w4:=Ext.then X a5 λy hy=>by subst hy;omega
  have e4:=E.trans k;have O:=a6.ext k;have het:=envB_take (ins:=ins) V p;obtain⟨wd,l⟩:∃wd:Nat,(ds.getD i (M.nada,0)).2=wd:=⟨_,(Int.toNat_of_nonneg oM).symm⟩;rw[l] at aa z het;rw[gu] at z het;simp(disch:=exact oS) only[push_cast,G.ld1,l];have J:(ins.drop (Jx ds i)).map (λx=>Value.bool x)≠[]:=λh=>by
   have:=congrArg List.length h;rw[K3,o] at this;simp at this;omega
  obtain⟨v5,H,a7⟩:=Vals.part O J xi0 (n:=wd) (by rw[K3,o];omega);rw[H];have g:Bools (λx=>x<w.heap.size) w4 v5 ((ins.drop (Jx ds i)).take wd):=by unfold Bools;rw[GG];exact a7
  generalize U:(ins.drop (Jx ds i)).take wd=bs at g het;have m:bs.length=wd:=by rw[<-U,gh,o];omega
  simp only[push_cast,g.len,m];refine vloop_up wd (λj u w'=>u=[nI (M.msbN (bs.take j)),nI j]/\w'=w4) ⟨rfl,rfl⟩ ?_;rintro j _ _ _ C1 hj ⟨rfl,rfl⟩ T;refine oZ ?_;have af:=M.msb_lt (bs.take j);have ai:2^(bs.take j).length<=2^4:=gN oM (by rw[gh];omega);refine zb (λc=>?_) (λc=>?_)
  .have a1:j<wd:=oM;simp(disch:=exact oS) only[push_cast,g.iaddr,gu,g.load,zk];refine Xl ?_;have ac:0<=M.b2i (bs.getD j false)/\M.b2i (bs.getD j false)<=1:=by unfold M.b2i;split<;>omega
   have N:=msb_snoc (bs.take j) (bs.getD j false);rw[<-M.take_add (by omega:j<bs.length) false] at N;refine oZ ?_;rw[<-N,zk oM oM];exact T a1 _ _ ⟨rfl,rfl⟩
  .have a2:j=wd:=oM;subst a2;rw[<-m,gA];have a4:=t.ext k;refine push_int a4 (by rw[gh];omega) λw6 r6 B L a3=>?_;have lr:∀x,r.ownBlock=some x->x<w2.heap.size:=λx D=>(t.lt D);have q6:=G.same B λe=>by have:=lr _ e;omega
   have a8:=O.same B λx D _ e=>by have:=s x e;omega
   have z24:=k.size;have z2:=E.size;rw[<-het,<-M.take_add oM 0] at L;obtain⟨v7,A,a9⟩:=Vals.rest a8 J xi0 (n:=bs.length) (by rw[K3,o];omega);simp(disch:=exact oS) only[push_cast,q6.ld1,l,m.symm,A];rw[inc64' oM];refine S p _ _ ⟨v7,r6,rfl,Ext.then (E.trans k) B λx D=>s x D,?_,?_,λx D=>?_⟩
   .rw[z,<-m];have q:=a9;rw[<-p4,z0d] at q;exact q
   .exact L
   .rcases a3 x D with e|e
    .exact s x e
    .omega
 .have a0:i=ds.length:=oM;subst a0;rw[<-Y,gA] at t;exact hK w2 r E t s
end
end Go.Proofs.YtfnpmncplaibiaaGreatDoor
end
