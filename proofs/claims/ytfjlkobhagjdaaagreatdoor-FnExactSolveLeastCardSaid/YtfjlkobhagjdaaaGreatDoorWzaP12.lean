import Derived.Test.YtfjlkobhagjdaaaGreatDoorWzaP11
/- A part of the proof. -/
set_option linter.all false
set_option maxRecDepth 9999
set_option maxHeartbeats 2000000
noncomputable section
namespace Go.Proofs.YtfjlkobhagjdaaaGreatDoor
open Go Go.Vc Go.Proofs
section
variable {w:World} {K:oK} {F D G:Nat->Prop}
def Qb (G:Nat->Prop) (n b4:Nat) (x:Nat):Prop:=(G x/\x<n)\/b4<x
structure RT (G:Nat->Prop) (w0 w:World) (b3 b4:Nat) (kv:Value) (t:M.Tm):Prop where
 ext:Ext w0 w
 q:Blk w b3 [nI t.op,nI t.a,nI t.b,.string t.s,kv] za
 r:Blk w b4 UT za
 k:TmsR (λx=>G x/\x<w0.heap.size) w kv t.ks
 lo:w0.heap.size<=b4
section
variable {w0 w':World} {b3 b4:Nat} {kv:Value} {t:M.Tm}
theorem yh (h:RT G w0 w b3 b4 kv t) (he:Ext w w'):RT G w0 w' b3 b4 kv t:=⟨h.ext.trans he,h.q.ext he,h.r.ext he,h.k.ext he,h.lo⟩
theorem rt_enter {tv:Value} {B:Value->oK} (q:TermR G w tv t) (l:∀w' b3 b4 kv,RT G w w' b3 b4 kv t->B (ptr b3) (ptr b4) w'):
  yd0 za tv w λt3 e=>qo za e λt4 f=>B t3 t4 f:=by
 obtain⟨kv,rfl,d⟩:=q;refine zk λb2 w2 m c o j=>?_;refine zj zo λb3 w3 n a p k=>?_;have g:=c.trans a;exact l _ _ _ kv ⟨g,j.ext a,k,(d.weaken λb h i=>⟨h,i⟩).ext g,oM⟩
abbrev Y00 (K:oK) (w:World) (G:Nat->Prop) (u:M.Tm):Prop:=∀w' rv,Ext w w'->TermR (λx=>G x\/w.heap.size<=x) w' rv u->K rv w'
theorem rt_give (h:RT G w0 w b3 b4 kv t) {rv:Value} {u:M.Tm} (hu:TermR (Qb G w0.heap.size b4) w rv u) (e:Y00 K w0 G u):
  zW za (ptr b4) rv w λ_ w1=>vlv za (ptr b4) w1 λr w2=>K r w2:=by
 obtain⟨cs,rfl,a⟩:=hu.cells;have f:=h.lo;refine qd h.r rfl a (λx d=>by rcases d with h|h<;>omega) λw3 c i b=>?_;exact e _ _ (Ext.then h.ext c λy g=>by subst g;exact h.lo) (b.weaken λx d _=>by
  rcases d with h|h
  .exact .inl h.1
  .exact .inr oM)
theorem qp {n:Nat} {rv:Value} {u:M.Tm} (hu:TermR (λx=>G x/\x<n) w' rv u):TermR (Qb G n b4) w' rv u:=hu.weaken λx a _=> .inl a
theorem rt_new (h:RT G w0 w b3 b4 kv t) {rv:Value} {u:M.Tm} (hu:TermR (λx=>w.heap.size<=x) w' rv u):TermR (Qb G w0.heap.size b4) w' rv u:=hu.weaken λx a _=> .inr (by have:=h.r.lt;omega)
theorem xS (h:RT G w0 w b3 b4 kv t):TermR (λx=>G x/\x<w0.heap.size) w (.agg ⟨[nI t.op,nI t.a,nI t.b,.string t.s,kv]⟩) t:=⟨kv,rfl,h.k⟩
end
theorem spec_TermSame_spec:∀(t:M.Tm) {w:World} {K:oK} {F G:Nat->Prop} {va vb:Value} {u:M.Tm},TermR F w va t->TermR G w vb u->(∀w',Ext w w'->K (.bool (decide (t=u))) w')->vcall JT #[va,vb] w K:=by
 refine M.Tm.ind λt Y w K F G va vb u Q R L=>?_;refine zf {loops:=[(4,[5])],cuts:=[(8195,[])]} Tryz.func191 ?_;obtain⟨kva,rfl,f⟩:=Q;obtain⟨kvb,rfl,v⟩:=R;refine zk λb1 w1 S D V z=>?_;refine zk λb2 w2 T q W k=>?_;have p:=z.ext q;have l:=D.trans q;have no:∀w',Ext w w'->t≠u->K (.bool false) w':=λw' h U=>by
  have:=L w' h;rwa[gg U] at this
 refine zp (λx w'=>x=[]/\w'=w2/\t.op=u.op/\t.a=u.a/\t.b=u.b/\t.s=u.s/\t.ks.length=u.ks.length) (λC A=>?_) ?_
 .simp only[push_cast,p.ld0,k.ld0,p.ld1,k.ld1,p.ld2,k.ld2,p.ld3,k.ld3,p.ld4,k.ld4,(f.ext l).len,(v.ext l).len];refine zb (λe=>no _ l λh=>e (by rw[h])) (λH=>?_);refine zb (λe=>no _ l λh=>e (by rw[h])) (λI=>?_);refine zb (λe=>no _ l λh=>e (by rw[h])) (λJ=>?_);refine zb (λe=>no _ l λh=>e (by rw[h])) (λy=>?_);refine zb (λe=>no _ l λh=>e (by rw[h])) (λe5=>?_);exact A _ _ ⟨rfl,rfl,oM,oM,oM,by simpa using y,oM⟩
 rintro x g E ⟨rfl,rfl,H,I,J,y,el⟩;have X:=f.small;refine vloop_up t.ks.length (λi x w'=>x=[nI i]/\Ext E w'/\∀j,j<i->t.ks.getD j default=u.ks.getD j default) ⟨rfl,Same.refl _ _,λj N=>absurd N oM⟩ ?_;rintro i _ _ w3 C hi ⟨rfl,c,m⟩ A;have n:=l.trans c;have B:=f.ext n;have O:=p.ext c;simp(disch:=exact oS) only[push_cast,O.ld4,B.len];refine zb (λa=>?_) (λa=>?_)
 .refine zd λw4 d _=>?_;have o:=n.trans d;have Z:=O.ext d;have r4:=k.ext (c.trans d);obtain⟨ca,sa,la,ka⟩:=f.ext o;obtain⟨cb,sb,lb,kb⟩:=v.ext o;simp(disch:=exact oS) only[push_cast,Z.ld4,r4.ld4,sa.iaddr,sa.ldAgg,sb.iaddr,sb.ldAgg,y4];refine Y _ (M.getD_mem oM _) (ka i oM).term (kb i oM).term λw8 r=>?_;simp only[push_cast,y4];refine zn (λb=>?_) (λb=>?_)
  .rw[gK,decide_eq_false_iff_not] at b;exact no _ (o.trans r) λh=>b (by rw[h])
  .rw[Gb,X0] at b;rw[inc64' oM];refine A oM _ _ ⟨rfl,c.trans (d.trans r),λj N=>?_⟩;by_cases e:j<i
   .exact m j e
   .have:j=i:=oM;subst this;exact b
 .have:t=u:=M.tm_ext H I J y (gM el λj z k=>by
   have:=m j oM;rwa[k5,gd z,k5,gd k] at this)
  have:=L w3 n;rwa[gk ‹t=u›] at this
theorem l3False_spec (i:∀w' v,Ext w w'->TermR (λb=>w.heap.size<=b) w' v M.flsT->K v w'):vcall KU #[] w K:=by
 refine zf {} Tryz.func189 ?_;refine zj zo λb1 w1 k d m g=>?_;refine oZ ?_;refine Yz0 (Xy (o:=24) (F:=λ_=>False)) λw2 a c n u=>?_;refine oZ ?_;have l:TmR (λb=>b≠b1/\w.heap.size<=b) w2 _ M.flsT:=(TmR.of (t:=M.flsT) u).weaken λz r _=>by
  rcases r with h|h
  .exact h.elim
  .exact⟨oM,oM⟩
 refine qd (g.ext c) rfl l (λx p=>p.1) λw3 f s e=>?_;exact i _ _ (Ext.then (d.trans c) f λy q=>by subst q;omega) (e.weaken λb j _=>j.2)
theorem l3Bool_spec {b:Bool} (l:∀w' v,Ext w w'->TermR (λb=>w.heap.size<=b) w' v (M.boolM b)->K v w'):vcall WC #[.bool b] w K:=by
 refine zf {} Tryz.func161 ?_;refine zj zo λb1 w1 o c p k=>?_;refine zn (λa=>?_) (λa=>?_)
 .subst a;refine oZ ?_;refine qd k rfl (U9 24 0 0 _:TmR (λ_=>False) w1 _ _) (λx n=>n.elim) λw3 e j d=>?_;exact l _ _ (Ext.then c e λy i=>by subst i;omega) (d.weaken λb m _=>m.elim)
 .subst a;refine l3False_spec λw2 v f h=>?_;obtain⟨cs,rfl,g⟩:=h.cells;refine qd (k.ext f) rfl g (λx n=>oM) λw3 e j d=>?_;exact l _ _ (Ext.then (c.trans f) e λy i=>by subst i;omega) (d.weaken λb m _=>by have:=c.size;omega)
@[push_cast] theorem bd_T2 (o a:Int):yz za [(0,nI o),(1,nI a)] w K=K (.agg ⟨[nI o,nI a,nI 0,.string ⟨#[]⟩,.slice none 0 0]⟩) w:=zT j3 (us:=[[nI o],[nI a]]) rfl rfl
theorem l3Zero_spec {s:Int} (f:∀w' v,Ext w w'->TermR (λb=>w.heap.size<=b) w' v (.mk 20 s 0 M.nada [])->K v w'):vcall WA #[nI s] w K:=by
 refine zf {} Tryz.func224 ?_;refine zj zo λb1 w1 h a i e=>?_;refine oZ ?_;refine qd e rfl (U9 20 s 0 _:TmR (λ_=>False) w1 _ _) (λx j=>j.elim) λw3 d l c=>?_;exact f _ _ (Ext.then a d λy k=>by subst k;omega) (c.weaken λb g _=>g.elim)
theorem jM {v:Value} {t:M.Tm} (B:TermR F w v t) (G:∀w',Ext w w'->K (.tuple #[nI ((M.fixedM t).getD 0),.bool (M.fixedM t).isSome]) w'):vcall J6 #[v] w K:=by
 refine zf {} Tryz.func187 ?_;have r:=B;obtain⟨kv,rfl,y⟩:=B;refine zk λb1 w1 H m J A=>?_;have out:∀w' o,Ext w w'->M.fixedM t=o->K (.tuple #[nI (o.getD 0),.bool o.isSome]) w':=λw' o h e=>by rw[<-e];exact G w' h
 rw[A.ldAgg (t:=za) zc];refine oZ ?_;refine spec_TermSame_spec t (r.ext m) (Xy (o:=24) (F:=λ_=>False)) λw3 n=>?_;have k:=m.trans n;refine zb (λd=>?_) (λd=>?_)
 .exact out w3 (some 1) k (k6 d)
 have z: ¬t=M.truT:=d;refine zd λQ p _=>?_;have l:=k.trans p;have C:=A.ext (n.trans p);simp only[push_cast,C.ldAgg (t:=za) zc,y4];refine l3False_spec λR fv g x=>?_;have D:=C.ext g;simp only[push_cast,D.ldAgg (t:=za) zc,y4,gh];refine spec_TermSame_spec t (r.ext (l.trans g)) x λN q=>?_;have c:=l.trans (g.trans q);have j:=D.ext q;refine zb (λf=>?_) (λf=>?_)
 .refine out N (some 0) c ?_;unfold M.fixedM;rw[y3 z,k6 f]
 have E: ¬t=M.flsT:=f;have no:∀w',Ext w w'->¬(t.op=20/\t.ks=[]/\t.s=M.nada/\M.vok t.a t.b=true)->K (.tuple #[nI 0,.bool false]) w':=λw' h I=>out w' none h (by unfold M.fixedM;rw[y3 z,y3 E,y3 I]);simp only[push_cast,j.ld0];refine zb (λc1=>?_) (λc1=>no _ c λh=>c1 h.1);simp only[push_cast,j.ld4,(y.ext c).len];refine zb (λc2=>?_) (λc2=>no _ c λh=>c2 (nil_len.2 h.2.1))
 try simp only[push_cast,j.ld3]
 refine zb (λc3=>?_) (λc3=>no _ c λh=>c3 h.2.2.1)
 try simp only[push_cast,j.ld1,j.ld2]
 refine spec_VecOk_spec λO i=>?_;have L:=j.ext i;refine zn (λu=>?_) (λu=>no _ (c.trans i) λh=>by rw[h.2.2.2] at u;cases u);simp only[push_cast,L.ld2];refine out O (some t.b) (c.trans i) ?_;rw[zZ0 c1,k6 ⟨nil_len.1 c2,c3,u⟩]
theorem qh {v:Value} {t:M.Tm} {n:Int} (i:TermR F w v t) (f:∀w',Ext w w'->K (.bool (M.isM t n)) w'):vcall yy0 #[v,nI n] w K:=by
 refine zf {} Tryz.func190 ?_;obtain⟨cs,rfl,a⟩:=i.cells;refine zk λb1 w1 g b h d=>?_;rw[d.ldAgg (t:=za) (by rw[zS a];exact zc)];refine jM (a.ext b).term λw2 c=>?_;have:=f w2 (b.trans c);unfold M.isM at this;simp only[push_cast];cases e:M.fixedM t with
 |none=>rw[e] at this;exact this
 |some m=>
  rw[e] at this;simp only[Gm] at this;exact this
theorem l3All_spec {v:Value} {t:M.Tm} (G:TermR F w v t) (q:∀w',Ext w w'->K (.bool (M.allFixed t)) w'):vcall zv0 #[v] w K:=by
 refine zf {loops:=[(2,[3])]} Tryz.func159 ?_;obtain⟨kv,rfl,n⟩:=G;refine zk λb1 w1 A p D s=>?_;have E:=n.small;refine vloop_up t.ks.length (λi u w'=>u=[nI i]/\Ext w1 w'/\∀j,j<i->(M.fixedM (t.ks.getD j default)).isSome=true) ⟨rfl,Same.refl _ _,λj o=>absurd o oM⟩ ?_;rintro i _ _ w3 C hi ⟨rfl,g,d⟩ y;have f:=p.trans g;have r:=s.ext g;have a:=n.ext f;simp only[push_cast,r.ld4,a.len];refine zb (λb=>?_) (λb=>?_)
 .simp(disch:=exact oS) only[push_cast,a.iaddr];refine a.load zc oM λx H=>?_;refine jM H λI m=>?_;refine oZ ?_;refine zn (λc=>?_) (λc=>?_)
  .rw[gK] at c;have:M.allFixed t=false:=by
    unfold M.allFixed;rw[GB];right;rw[List.all_eq_false];exact⟨_,M.getD_mem (l:=t.ks) (i:=i) oM default,by rw[c];decide⟩
   have h:=q I (f.trans m);rwa[this] at h
  .rw[Gb] at c;rw[inc64' oM];refine y oM _ _ ⟨rfl,g.trans m,λj o=>?_⟩;by_cases e:j<i
   .exact d j e
   .have:j=i:=oM;subst this;exact c
 .try simp only[push_cast,r.ld4,a.len]
  have:M.allFixed t=decide (0<(t.ks.length:Int)):=by
   unfold M.allFixed;have z:(t.ks.all λk=>(M.fixedM k).isSome)=true:=by
    rw[gN];intro k B;obtain⟨j,o,rfl⟩:=gr B;have:=d j oM;rwa[k5,gd o] at this
   rw[z,Pq];have e:(t.ks≠[])↔0<(t.ks.length:Int):=by rw[<-GC];omega
   exact decide_eq_decide.2 e
  have h:=q w3 f;rwa[this] at h
theorem l3Right_spec {v:Value} {t:M.Tm} (ht:TermR G w v t) (h2:t.ks.length=2) (m:Y00 K w G (M.rightS t)):vcall KR #[v] w K:=by
 refine zf {cuts:=[(20491,[15])]} Tryz.func193 ?_;refine rt_enter (B:=λt3 t4 a7=>_) ht λw1 b3 b4 kv rs=>?_;simp(disch:=exact oS) only[push_cast,rs.q.ld4,rs.k.iaddr];refine rs.k.load zc oM λx hx=>?_;obtain⟨c,rfl,R⟩:=hx.cells;refine zj zo λb5 w2 a0 F a2 h5=>?_;refine stTerm h5 rfl (R.ext F) λw3 S a4 Q=>?_;have C:Ext w1 w3:=Ext.then F S λy I=>by subst I;omega
 have N:=yh rs C;simp(disch:=exact oS) only[push_cast,N.q.ld4,N.k.iaddr];refine N.k.load zc oM λy I=>?_;obtain⟨c',rfl,s⟩:=I.cells;refine zj zo λb6 Y a1 H a3 h6=>?_;refine stTerm h6 rfl (s.ext H) λO T a5 l=>?_;have n:Ext w3 O:=Ext.then H T λy I=>by subst I;omega
 have J:=yh N n;have V:=Q.ext n;have gc:aggB za c.length=true:=by rw[zS R];exact zc
 have f:aggB za c'.length=true:=by rw[zS s];exact zc
 have E:TmR (λx=>G x/\x<w.heap.size) O c (M.kid t 0):=R.ext (C.trans n);have d:TmR (λx=>G x/\x<w.heap.size) O c' (M.kid t 1):=s.ext n;simp only[push_cast,J.q.ld0];refine zp (λu w'=> ∃b:Bool,u=[.bool b]/\w'=O/\(b=true↔t.op=4\/t.op=5\/t.op=6\/t.op=7\/t.op=11\/t.op=12\/t.op=13)) (λD hD=>?_) ?_
 .try simp only[push_cast]
  refine zb (λc=>hD _ _ ⟨_,rfl,rfl,⟨λ_=>oM,λ_=>by rw[X0];exact c⟩⟩) (λc1=>?_);refine zb (λc=>hD _ _ ⟨_,rfl,rfl,⟨λ_=>oM,λ_=>by rw[X0];exact c⟩⟩) (λc2=>?_);refine zb (λc=>hD _ _ ⟨_,rfl,rfl,⟨λ_=>oM,λ_=>by rw[X0];exact c⟩⟩) (λc3=>?_);refine zb (λc=>hD _ _ ⟨_,rfl,rfl,⟨λ_=>oM,λ_=>by rw[X0];exact c⟩⟩) (λc4=>?_);refine zb (λc=>hD _ _ ⟨_,rfl,rfl,⟨λ_=>oM,λ_=>by rw[X0];exact c⟩⟩) (λc5=>?_);refine zb (λc=>hD _ _ ⟨_,rfl,rfl,⟨λ_=>oM,λ_=>by rw[X0];exact c⟩⟩) (λc6=>?_);exact hD _ _ ⟨_,rfl,rfl,⟨λh=>by rw[X0] at h;omega,λh=>by rw[X0];omega⟩⟩
 rintro u g a6 ⟨b,rfl,rfl,W⟩;refine oZ ?_;have self:∀{w'},RT G w w' b3 b4 kv t->M.rightS t=t->zt za (ptr b3) w' λr w2=>zW za (ptr b4) r w2 λ_ w3=>vlv za (ptr b4) w3 λr Y=>K r Y:=λ{w'} h e=>by
  rw[h.q.ldAgg (t:=za) zc];rw[e] at m;exact rt_give h (qp (xS h)) m
 refine zn (λo=>?_) (λo=>?_)
 .have o4:=W.1 o;rw[l.ldAgg (t:=za) f];refine qh d.term λZ a=>?_;have p:=yh J a;have e:M.rightS t=if M.isM (M.kid t 1) 0=true then M.kid t 0 else t:=by unfold M.rightS;rw[k6 o4]
  refine zn (λi=>?_) (λi=>?_)
  .rw[(V.ext a).ldAgg (t:=za) gc];rw[e,k6 i] at m;exact rt_give p (qp (E.ext a).term) m
  .exact self p (by rw[e,i];rfl)
 have A: ¬(t.op=4\/t.op=5\/t.op=6\/t.op=7\/t.op=11\/t.op=12\/t.op=13):=λh=>by have:=W.2 h;rw[o] at this;cases this
 try simp only[push_cast]
 refine zb (λL=>?_) (λL=>?_)
 .rw[l.ldAgg (t:=za) f];refine qh d.term λZ a=>?_;have p:=yh J a;have e:M.rightS t=if M.isM (M.kid t 1) 0=true then M.kid t 1 else t:=by unfold M.rightS;rw[y3 A,k6 L]
  refine zn (λi=>?_) (λi=>?_)
  .rw[(l.ext a).ldAgg (t:=za) f];rw[e,k6 i] at m;exact rt_give p (qp (d.ext a).term) m
  .exact self p (by rw[e,i];rfl)
 try simp only[push_cast]
 refine zb (λU=>?_) (λU=>?_)
 .rw[l.ldAgg (t:=za) f];refine qh d.term λZ a=>?_;have p:=yh J a;have e:M.rightS t=if M.isM (M.kid t 1) 0=true then M.kid t 1 else if M.isM (M.kid t 1) 1=true then M.kid t 0 else t:=by unfold M.rightS;rw[y3 A,y3 L,k6 U]
  refine zn (λi=>?_) (λi=>?_)
  .rw[(l.ext a).ldAgg (t:=za) f];rw[e,k6 i] at m;exact rt_give p (qp (d.ext a).term) m
  .rw[(l.ext a).ldAgg (t:=za) f];refine qh (d.ext a).term λw7 z=>?_;have X:=yh p z;refine zn (λj=>?_) (λj=>?_)
   .rw[(V.ext (a.trans z)).ldAgg (t:=za) gc];rw[e,i,y3 dC,k6 j] at m;exact rt_give X (qp (E.ext (a.trans z)).term) m
   .exact self X (by rw[e,i,j];rfl)
 .exact self J (by unfold M.rightS;rw[y3 A,y3 L,y3 U])
theorem l3Alike_spec {v:Value} {t:M.Tm} {s:Int} (A:TermR G w v t) (H:t.ks.length=2) (i:Y00 K w G (M.alikeS t s)):vcall KW #[v,nI s] w K:=by
 refine zf {cuts:=[(12292,[7]),(24583,[14])]} Tryz.func192 ?_;refine rt_enter (B:=λt3 t4 E=>_) A λw1 b3 b4 kv rs=>?_;simp only[push_cast,rs.q.ld0];refine zp (λu w'=> ∃b:Bool,u=[.bool b]/\w'=w1/\(b=true↔t.op=3\/t.op=4)) (λD hD=>?_) ?_
 .try simp only[push_cast]
  refine zb (λc=>hD _ _ ⟨_,rfl,rfl,⟨λ_=>oM,λ_=>by rw[X0];exact c⟩⟩) (λc1=>?_);exact hD _ _ ⟨_,rfl,rfl,⟨λh=>by rw[X0] at h;omega,λh=>by rw[X0];omega⟩⟩
 rintro u g r ⟨b,rfl,rfl,y⟩;refine oZ ?_;refine zn (λo=>?_) (λo=>?_)
 .simp(disch:=exact oS) only[push_cast,rs.q.ld4,rs.k.iaddr];refine rs.k.load zc oM λx C=>?_;have e:M.alikeS t s=M.kid t 0:=by unfold M.alikeS;rw[k6 (y.1 o)]
  rw[e] at i;exact rt_give rs (qp C) i
 have n: ¬(t.op=3\/t.op=4):=λh=>by have:=y.2 h;rw[o] at this;cases this
 refine zp (λu w'=> ∃b:Bool,u=[.bool b]/\w'=r/\(b=true↔t.op=5\/t.op=7)) (λD hD=>?_) ?_
 .try simp only[push_cast]
  refine zb (λc=>hD _ _ ⟨_,rfl,rfl,⟨λ_=>oM,λ_=>by rw[X0];exact c⟩⟩) (λc1=>?_);exact hD _ _ ⟨_,rfl,rfl,⟨λh=>by rw[X0] at h;omega,λh=>by rw[X0];omega⟩⟩
 rintro I g2 z ⟨F,rfl,rfl,m⟩;refine oZ ?_;refine zn (λo=>?_) (λo=>?_)
 .have e:M.alikeS t s= .mk 20 s 0 M.nada []:=by unfold M.alikeS;rw[y3 n,k6 (m.1 o)]
  rw[e] at i;refine l3Zero_spec λw2 v2 a d=>?_;exact rt_give (yh rs a) (rt_new rs d) i
 have p: ¬(t.op=5\/t.op=7):=λh=>by have:=m.2 h;rw[o] at this;cases this
 try simp only[push_cast]
 refine zb (λj=>?_) (λj=>?_)
 .have e:M.alikeS t s=M.boolM true:=by unfold M.alikeS;rw[y3 n,y3 p,k6 j];rfl
  rw[e] at i;refine l3Bool_spec λw2 v2 a d=>?_;exact rt_give (yh rs a) (rt_new rs d) i
 by_cases l:t.op=16
 .have e:M.alikeS t s=M.boolM false:=by unfold M.alikeS;rw[y3 n,y3 p,y3 j,k6 (.inl l)];rfl
  rw[e] at i;simp only[l,decide_true,push_cast];refine l3Bool_spec λw2 v2 a d=>?_;exact rt_give (yh rs a) (rt_new rs d) i
 .simp only[l,decide_false,push_cast];refine zb (λf=>?_) (λf=>?_)
  .have e:M.alikeS t s=M.boolM false:=by unfold M.alikeS;rw[y3 n,y3 p,y3 j,k6 (.inr f)];rfl
   rw[e] at i;refine l3Bool_spec λw2 v2 a d=>?_;exact rt_give (yh rs a) (rt_new rs d) i
  .have e:M.alikeS t s=t:=by unfold M.alikeS;rw[y3 n,y3 p,y3 j,y3 oM]
   rw[e] at i;rw[rs.q.ldAgg (t:=za) zc];exact rt_give rs (qp (xS rs)) i
end
section
variable {w:World} {K:oK} {F F' D G:Nat->Prop}
theorem l3Logic_spec {v:Value} {t:M.Tm} {ds:List M.Dcl} (ht:TermR G w v t) (hs:M.sortM ds t≠ -1) (ag:23<=t.op) (a8:t.ks≠[]) (f:Y00 K w G (M.logicS t)):vcall KT #[v] w K:=by
 have hlen:=M.len_of hs;have am:0<t.ks.length:=GC.2 a8;have ae:=M.arity_ops (o:=t.op) oM;have ad:t.op=25->t.ks.length=1:=λh=>by rw[h] at hlen;simp[M.arity] at hlen;omega
 have ac:t.op=23->t.ks.length=3:=λh=>by rw[h] at hlen;simp[M.arity] at hlen;omega
 refine zf {cuts:=[(36874,[]),(65552,[61])]} Tryz.func162 ?_;refine rt_enter (B:=λt3 t4 au=>_) ht λw1 b3 b4 kv rs=>?_;simp(disch:=exact oS) only[push_cast,rs.q.ld4,rs.k.iaddr];refine rs.k.load zc oM λx hx=>?_;obtain⟨c,rfl,hc⟩:=hx.cells;have gc:aggB za c.length=true:=by rw[zS hc];exact zc
 refine zj zo λb5 w2 ah a2 an h5=>?_;refine stTerm h5 rfl (hc.ext a2) λw3 aa ap H=>?_;have Y:Ext w1 w3:=Ext.then a2 aa λy T=>by subst T;omega
 have J:=yh rs Y;have Q:TmR (λx=>G x/\x<w.heap.size) w3 c (M.kid t 0):=hc.ext Y;simp only[push_cast,J.q.ld0];refine zb (λA=>?_) (λA=>?_)
 .obtain⟨ar,rfl,a5⟩:=Q.inv;simp only[push_cast,H.ld0];refine zb (λd=>?_) (λd=>?_)
  .have k0:=M.good_kid hs (i:=0) (by have:=ad A;omega);have aj:(M.kid t 0).ks.length=1:=by have:=M.len_of k0;rw[d] at this;simp[M.arity] at this;omega
   simp(disch:=exact oS) only[push_cast,H.ld4,a5.iaddr];refine a5.load zc oM λy T=>?_;have e:M.logicS t=M.kid (M.kid t 0) 0:=by unfold M.logicS;rw[k6 A,k6 d]
   rw[e] at f;exact rt_give J (qp T) f
  .have e:M.logicS t=t:=by unfold M.logicS;rw[k6 A,y3 d]
   rw[e] at f;rw[J.q.ldAgg (t:=za) zc];exact rt_give J (qp (xS J)) f
 try simp only[push_cast]
 refine zb (λU=>?_) (λU=>?_)
 .have ak:=ac U;have E:M.logicS t=if M.isM (M.kid t 0) 1=true\/(M.kid t 1=M.kid t 2/\¬M.isM (M.kid t 0) 0=true) then M.kid t 1 else if M.isM (M.kid t 0) 0=true then M.kid t 2 else t:=by unfold M.logicS;rw[y3 A,k6 U]
  have F:∀{w'},RT G w w' b3 b4 kv t->(M.isM (M.kid t 0) 1=true\/(M.kid t 1=M.kid t 2/\¬M.isM (M.kid t 0) 0=true))->∀x,TermR (λx=>G x/\x<w.heap.size) w' x (M.kid t 1)->zW za (ptr b4) x w' λ_ w1=>vlv za (ptr b4) w1 λr w2=>K r w2:=λh hc x hx=>by
   rw[E,k6 hc] at f;exact rt_give h (qp hx) f
  refine zp (λu w'=>u=[]/\Ext w3 w'/\¬(M.isM (M.kid t 0) 1=true\/(M.kid t 1=M.kid t 2/\¬M.isM (M.kid t 0) 0=true))) (λC hC=>?_) ?_
  .refine zd λw4 b _=>?_;have r4:=yh J b;have A4:=H.ext b;have a0:=Q.ext b;simp only[push_cast,A4.ldAgg (t:=za) gc,y4];refine qh a0.term λw5 p=>?_;have n:=yh r4 p;obtain⟨cks,I,al,S⟩:=n.k;refine zn (λi=>?_) (λi=>?_)
   .simp(disch:=exact oS) only[push_cast,n.q.ld4,I.iaddr,I.ldAgg];exact F n (.inl i) _ (S 1 oM).term
   .simp(disch:=exact oS) only[push_cast,n.q.ld4,I.iaddr,I.ldAgg,y4];refine spec_TermSame_spec _ (S 1 oM).term (S 2 oM).term λw6 a=>?_;have r6:=yh n a;refine zb (λs=>?_) (λs=>?_)
    .have A6:=A4.ext (p.trans a);simp only[push_cast,A6.ldAgg (t:=za) gc,y4];refine qh (a0.ext (p.trans a)).term λw7 m=>?_;have r7:=yh r6 m;have s7:=I.ext (a.trans m);simp only[push_cast,y4];refine zn (λj=>?_) (λj=>?_)
     .rw[gK] at j;simp(disch:=exact oS) only[push_cast,r7.q.ld4,s7.iaddr,s7.ldAgg];exact F r7 (.inr ⟨s,by rw[j];decide⟩) _ ((S 1 oM).ext (a.trans m)).term
     .rw[Gb] at j;exact hC _ _ ⟨rfl,b.trans (p.trans (a.trans m)),λh=>h.elim (λh=>by rw[i] at h;cases h) λh=>h.2 j⟩
    .exact hC _ _ ⟨rfl,b.trans (p.trans a),λh=>h.elim (λh=>by rw[i] at h;cases h) λh=>s h.1⟩
  rintro u g w4 ⟨rfl,b,hn⟩;have r4:=yh J b;rw[(H.ext b).ldAgg (t:=za) gc];refine qh (Q.ext b).term λw5 p=>?_;have n:=yh r4 p;refine zn (λi=>?_) (λi=>?_)
  .simp(disch:=exact oS) only[push_cast,n.q.ld4,n.k.iaddr];refine n.k.load zc oM λy T=>?_;rw[E,y3 hn,k6 i] at f;exact rt_give n (qp T) f
  .rw[E,y3 hn,i,y3 dC] at f;rw[n.q.ldAgg (t:=za) zc];exact rt_give n (qp (xS n)) f
 have o:t.op=26\/t.op=27:=by
  unfold M.arity at hlen
  repeat' split at hlen
  all_goals omega
 have l2:t.ks.length=2:=by rcases o with e|e<;>rw[e] at hlen<;>simp[M.arity] at hlen<;>omega
 simp(disch:=exact oS) only[push_cast,J.q.ld4,J.k.iaddr];refine J.k.load zc oM λy T=>?_;obtain⟨c',rfl,W⟩:=T.cells;have N:aggB za c'.length=true:=by rw[zS W];exact zc
 refine zj zo λb6 w4 ai b ao h6=>?_;refine stTerm h6 rfl (W.ext b) λw5 ab aq O=>?_;have L:Ext w3 w5:=Ext.then b ab λy T=>by subst T;omega
 have n:=yh J L;have A5:=H.ext L;have R:=Q.ext L;have z:TmR (λx=>G x/\x<w.heap.size) w5 c' (M.kid t 1):=W.ext L;simp only[push_cast,n.q.ld0];refine Xe ?_;generalize V:M.b2i (decide (t.op=26))=one;have af:one=0\/one=1:=by rw[<-V];unfold M.b2i;split<;>omega
 have E:M.logicS t=if M.isM (M.kid t 0) one=true\/M.kid t 0=M.kid t 1 then M.kid t 1 else if M.isM (M.kid t 1) one=true then M.kid t 0 else if M.isM (M.kid t 0) (1-one)=true\/M.isM (M.kid t 1) (1-one)=true then M.boolM (decide (one=0)) else t:=by
  unfold M.logicS;rw[y3 A,y3 U,V]
 refine zp (λu w'=> ∃e:Bool,u=[.bool e]/\Ext w5 w'/\(e=true↔M.isM (M.kid t 0) one=true\/M.kid t 0=M.kid t 1)) (λC hC=>?_) ?_
 .rw[A5.ldAgg (t:=za) gc];refine qh R.term λw6 a=>?_;refine zn (λi=>?_) (λi=>?_)
  .exact hC _ _ ⟨true,rfl,a,⟨λ_=> .inl i,λ_=>rfl⟩⟩
  .try simp only[push_cast]
   rw[(A5.ext a).ldAgg (t:=za) gc,(O.ext a).ldAgg (t:=za) N];refine spec_TermSame_spec _ (R.ext a).term (z.ext a).term λw7 m=>?_;refine hC _ _ ⟨_,rfl,a.trans m,?_⟩;rw[X0];exact⟨.inr,λh=>h.elim (λx=>by rw[i] at x;cases x) id⟩
 rintro u g w6 ⟨e,rfl,a,a4⟩;have r6:=yh n a;refine oZ ?_;refine zn (λi=>?_) (λi=>?_)
 .rw[(O.ext a).ldAgg (t:=za) N];rw[E,k6 (a4.1 i)] at f;exact rt_give r6 (qp (z.ext a).term) f
 have n1: ¬(M.isM (M.kid t 0) one=true\/M.kid t 0=M.kid t 1):=λh=>by have:=a4.2 h;rw[i] at this;cases this
 rw[(O.ext a).ldAgg (t:=za) N];refine qh (z.ext a).term λw7 m=>?_;have r7:=yh r6 m;have D:=a.trans m;refine zn (λj=>?_) (λj=>?_)
 .rw[(A5.ext D).ldAgg (t:=za) gc];rw[E,y3 n1,k6 j] at f;exact rt_give r7 (qp (R.ext D).term) f
 have n2: ¬M.isM (M.kid t 1) one=true:=by rw[j];decide
 have a7:IntKind.i64.wrap (1-one)=1-one:=zl oM oM;rw[(A5.ext D).ldAgg (t:=za) gc];simp only[push_cast,a7];refine qh (R.ext D).term λw8 a3=>?_;have r8:=yh r7 a3;refine zn (λk=>?_) (λk=>?_)
 .try simp only[push_cast]
  refine l3Bool_spec λw9 v9 X a9=>?_;rw[E,y3 n1,y3 n2,k6 (.inl k)] at f;exact rt_give (yh r8 X) (rt_new r8 a9) f
 have Z:=D.trans a3;rw[(O.ext Z).ldAgg (t:=za) N]
 try simp only[push_cast,a7]
 refine qh (z.ext Z).term λw9 X=>?_;have r9:=yh r8 X;refine zn (λl=>?_) (λl=>?_)
 .try simp only[push_cast]
  refine l3Bool_spec λw10 v10 a1 a6=>?_;rw[E,y3 n1,y3 n2,k6 (.inr l)] at f;exact rt_give (yh r9 a1) (rt_new r9 a6) f
 .rw[E,y3 n1,y3 n2,y3 (λh=>h.elim (λh=>by rw[k] at h;cases h) λh=>by rw[l] at h;cases h)] at f;rw[r9.q.ldAgg (t:=za) zc];exact rt_give r9 (qp (xS r9)) f
theorem l3Two_spec {v:Value} {t:M.Tm} {s:Int} (ht:TermR G w v t) (h2:t.ks.length=2) (Y:Y00 K w G (M.twoS t s)):vcall zt0 #[v,nI s] w K:=by
 refine zf {cuts:=[(8197,[]),(36881,[]),(40974,[34]),(61455,[7])]} Tryz.func163 ?_;refine rt_enter (B:=λt3 t4 au=>_) ht λw1 b3 b4 kv rs=>?_;have l4:=rs.r.lt;have ao:=rs.lo;have low:∀{w':World} {cs:List Value} {u:M.Tm},Ext w1 w'->TmR (λx=>(G x/\x<w.heap.size)\/w'.heap.size<=x) w' cs u->True:=λ_ _=>trivial;clear low;refine zp (λu w'=>u=[]/\Ext w1 w'/\¬(M.kid t 0=M.kid t 1/\M.alikeS t s≠t)) (λC hC=>?_) ?_
 .refine zd λw2 a2 _=>?_;have r2:=yh rs a2;obtain⟨cks,m,a6,l⟩:=r2.k;simp(disch:=first|omega|simp only[push_cast]) only[push_cast,r2.q.ld4,m.iaddr,m.ldAgg,y4];refine spec_TermSame_spec _ (l 0 oM).term (l 1 oM).term λw3 Q=>?_;have X:=yh r2 Q;refine zb (λa=>?_) (λa=>?_)
  .rw[X.q.ldAgg (t:=za) zc];refine l3Alike_spec (xS X) h2 λw4 rv U n=>?_;have r4:=yh X U;obtain⟨c,rfl,hc⟩:=n.cells;have gc:aggB za c.length=true:=by rw[zS hc];exact zc
   have aq:=X.r.lt;refine zj zo λb5 w5 af R ah h5=>?_;have O:=(hc.weaken (F':=λx=>((G x/\x<w.heap.size)\/b4<x)/\x<w4.heap.size) λb h h'=>⟨h.imp id λh=>oM,h'⟩).ext R;refine stTerm h5 rfl O λw6 S ak h6=>?_;have T:Ext w4 w6:=Ext.then R S λy hy=>by subst hy;omega
   have r6:=yh r4 T;have N:TmR (Qb G w.heap.size b4) w6 c (M.alikeS t s):=(O.same S λx F _ e=>oM).weaken λx F _=>F.1;rw[h6.ldAgg (t:=za) gc,r6.q.ldAgg (t:=za) zc];refine spec_TermSame_spec _ N.term (xS r6) λw7 p=>?_;have r7:=yh r6 p;refine oZ ?_;refine zn (λd=>?_) (λd=>?_)
   .rw[gK,decide_eq_false_iff_not] at d;rw[(h6.ext p).ldAgg (t:=za) gc];have E:M.twoS t s=M.alikeS t s:=by unfold M.twoS;rw[k6 ⟨a,d⟩]
    rw[E] at Y;exact rt_give r7 (N.ext p).term Y
   .rw[Gb,X0] at d;exact hC _ _ ⟨rfl,a2.trans (Q.trans (U.trans (T.trans p))),λh=>h.2 d⟩
  .exact hC _ _ ⟨rfl,a2.trans Q,λh=>a h.1⟩
 rintro u g w3 ⟨rfl,Q,n1⟩;have X:=yh rs Q;have l3:=X.r.lt;rw[X.q.ldAgg (t:=za) zc];refine l3Right_spec (xS X) h2 λw4 rv U n=>?_;have r4:=yh X U;obtain⟨c,rfl,hc⟩:=n.cells;have gc:aggB za c.length=true:=by rw[zS hc];exact zc
 refine zj zo λb5 w5 af R ah h5=>?_;have O:=(hc.weaken (F':=λx=>((G x/\x<w.heap.size)\/b4<x)/\x<w4.heap.size) λb h h'=>⟨h.imp id λh=>oM,h'⟩).ext R;refine stTerm h5 rfl O λw6 S ak h6=>?_;have T:Ext w4 w6:=Ext.then R S λy hy=>by subst hy;omega
 have r6:=yh r4 T;have N:TmR (Qb G w.heap.size b4) w6 c (M.rightS t):=(O.same S λx F _ e=>oM).weaken λx F _=>F.1;rw[h6.ldAgg (t:=za) gc,r6.q.ldAgg (t:=za) zc];refine spec_TermSame_spec _ N.term (xS r6) λw7 p=>?_;have r7:=yh r6 p;refine oZ ?_;refine zn (λd=>?_) (λd=>?_)
 .rw[gK,decide_eq_false_iff_not] at d;rw[(h6.ext p).ldAgg (t:=za) gc];have E:M.twoS t s=M.rightS t:=by unfold M.twoS;rw[y3 n1,k6 d]
  rw[E] at Y;exact rt_give r7 (N.ext p).term Y
 rw[Gb,X0] at d;have E:M.twoS t s=if(t.op=3\/t.op=4\/t.op=5\/t.op=6\/t.op=8)/\M.otherS t (M.rightS (M.swapS t)) then M.rightS (M.swapS t) else t:=by
  unfold M.twoS;rw[y3 n1,y3 (λh=>h d)]
 refine zp (λu w'=>u=[]/\Ext w7 w'/\¬((t.op=3\/t.op=4\/t.op=5\/t.op=6\/t.op=8)/\M.otherS t (M.rightS (M.swapS t)))) (λC hC=>?_) ?_
 .simp only[push_cast,r7.q.ld0];refine zp (λu w'=> ∃b:Bool,u=[.bool b]/\w'=w7/\(b=true↔t.op=3\/t.op=4\/t.op=5\/t.op=6\/t.op=8)) (λD hD=>?_) ?_
  .try simp only[push_cast]
   refine zb (λc=>hD _ _ ⟨_,rfl,rfl,⟨λ_=>oM,λ_=>by rw[X0];exact c⟩⟩) (λc1=>?_);refine zb (λc=>hD _ _ ⟨_,rfl,rfl,⟨λ_=>oM,λ_=>by rw[X0];exact c⟩⟩) (λc2=>?_);refine zb (λc=>hD _ _ ⟨_,rfl,rfl,⟨λ_=>oM,λ_=>by rw[X0];exact c⟩⟩) (λc3=>?_);refine zb (λc=>hD _ _ ⟨_,rfl,rfl,⟨λ_=>oM,λ_=>by rw[X0];exact c⟩⟩) (λc4=>?_);exact hD _ _ ⟨_,rfl,rfl,⟨λh=>by rw[X0] at h;omega,λh=>by rw[X0];omega⟩⟩
  rintro u2 g2 al ⟨b,rfl,rfl,hb⟩;refine oZ ?_;refine zn (λo=>?_) (λo=>hC _ _ ⟨rfl,Same.refl _ _,λh=>by have:=hb.2 h.1;rw[o] at this;cases this⟩);have o':=hb.1 o;have l7:=r7.r.lt;refine zp (λu w'=> ∃b c,u=[ptr b]/\Ext al w'/\Blk w' b c za/\TmR (Qb G w.heap.size b4) w' c (M.rightS (M.swapS t))) (λD hD=>?_) ?_
  .refine zd λw8 A _=>?_;have J:=yh r7 A;have l8:=J.r.lt;obtain⟨cks,m,a6,l⟩:=J.k;simp(disch:=first|omega|simp only[push_cast]) only[push_cast,J.q.ld0,J.q.ld4,m.iaddr,m.ldAgg,y4];have ar:=A.size;have fin:∀{wa wb:World} {bb:Nat} {z:List Value} {rv:Value},Ext w8 wa->Blk wa bb z za->z.length=5->w8.heap.size<=bb->(∀y,y=bb->TermR (λx=>((G x/\x<w.heap.size)\/b4<x)/\x≠y) wa rv (M.rightS (M.swapS t)))->zW za (ptr bb) rv wa λ_ w'=>D [ptr bb] w':=λ{wa wb bb z rv} aj hB hz an hr=>by
    obtain⟨cr,rfl,a5⟩:=(hr bb rfl).cells;refine stTerm hB hz a5 λw' a7 ap h'=>?_;exact hD _ _ ⟨bb,cr,rfl,A.trans (Ext.then aj a7 λy hy=>by subst hy;omega),h',(a5.same a7 λx F _ e=>F.2 e).weaken λx F _=>F.1⟩
   refine⟨?_,?_,trivial⟩
   .refine kids2 (l 1 oM).term (l 0 oM).term λw9 a9 j ai k9=>?_;have r9:=yh J j;have W:TermR (λz=>(G z/\z<w.heap.size)\/z=w8.heap.size) w9 _ (M.swapS t):=(JM (o:=t.op) k9:TermR _ w9 _ (kr0 t.op [t.ks.getD 1 default,t.ks.getD 0 default]));simp only[push_cast,r9.q.ld0,y4,gh];refine⟨?_,?_,trivial⟩
    .refine l3Right_spec W rfl λw10 rv f n=>?_;refine⟨?_,trivial⟩;refine zj zo λa4 I Z i a0 L=>?_;refine⟨?_,trivial⟩;have a8:=j.size;have am:=f.size;refine fin (wb:=I) (j.trans (f.trans i)) L rfl oM λy hy=>((n.weaken (F':=λx=>(((G x/\x<w.heap.size)\/x=w8.heap.size)\/w9.heap.size<=x)/\x<w10.heap.size) λb h h'=>⟨h,h'⟩).ext i).weaken λx F _=>?_;rcases F.1 with(h|h)|h
     .exact⟨.inl h,oM⟩
     .exact⟨.inr oM,oM⟩
     .exact⟨.inr oM,oM⟩
    .refine zj zo λa4 I Z i a0 L=>?_;have H:=yh r9 i;simp only[push_cast,H.q.ld0,y4,gh];refine⟨?_,trivial⟩;refine l3Right_spec (W.ext i) rfl λw10 rv f n=>?_;refine⟨?_,trivial⟩;have a8:=j.size;refine fin (wb:=I) (j.trans (i.trans f)) (L.ext f) rfl oM λy hy=>n.weaken λx F _=>?_;rcases F with(h|h)|h
     .exact⟨.inl h,oM⟩
     .exact⟨.inr oM,oM⟩
     .exact⟨.inr oM,oM⟩
   .refine zj zo λa4 I Z i a0 L=>?_;have H:=yh J i;have ad:=m.ext i;simp(disch:=first|omega|simp only[push_cast]) only[push_cast,H.q.ld0,H.q.ld4,ad.iaddr,ad.ldAgg,y4,gh];refine⟨?_,trivial⟩;refine kids2 ((l 1 oM).ext i).term ((l 0 oM).ext i).term λw9 a9 j ai k9=>?_;have r9:=yh H j;have W:TermR (λz=>(G z/\z<w.heap.size)\/z=I.heap.size) w9 _ (M.swapS t):=(JM (o:=t.op) k9:TermR _ w9 _ (kr0 t.op [t.ks.getD 1 default,t.ks.getD 0 default]));simp only[push_cast,r9.q.ld0,y4,gh];refine⟨?_,trivial⟩;refine l3Right_spec W rfl λw10 rv f n=>?_;refine⟨?_,trivial⟩;have a8:=j.size;refine fin (wb:=I) (i.trans (j.trans f)) ((L.ext j).ext f) rfl oM λy hy=>n.weaken λx F _=>?_;rcases F with(h|h)|h
    .exact⟨.inl h,oM⟩
    .exact⟨.inr oM,oM⟩
    .exact⟨.inr oM,oM⟩
  rintro u3 g3 w8 ⟨b,cv,rfl,A,hB,a1⟩;have gv:aggB za cv.length=true:=by rw[zS a1];exact zc
  have J:=yh r7 A;generalize hV:M.rightS (M.swapS t)=V at*;have give:∀{w'},Ext w8 w'->M.otherS t V->zt za (ptr b) w' λr w2=>zW za (ptr b4) r w2 λ_ w3=>vlv za (ptr b4) w3 λr w4=>K r w4:=λ{w'} h ho=>by
   rw[(hB.ext h).ldAgg (t:=za) gv];rw[E,k6 ⟨o',ho⟩] at Y;exact rt_give (yh J h) (a1.ext h).term Y
  obtain⟨kvv,rfl,ag⟩:=a1.inv;refine oZ ?_;refine zd λw9 j _=>?_;have r9:=yh J j;have B9:=hB.ext j;have aa:=ag.ext j;simp only[push_cast,B9.ld4,aa.len,y4];refine zb (λc1=>give j (.inl oM)) (λc1=>?_);have vl:V.ks.length=2:=oM;obtain⟨cks,m,a6,l⟩:=r9.k;obtain⟨vks,vsl,vln,vck⟩:=aa;simp(disch:=first|omega|simp only[push_cast]) only[push_cast,B9.ld4,r9.q.ld4,m.iaddr,m.ldAgg,vsl.iaddr,vsl.ldAgg,y4];refine spec_TermSame_spec _ (vck 0 oM).term (l 1 oM).term λw10 f=>?_;have a3:=B9.ext f;have ab:=yh r9 f;have ac:=m.ext f;have t10:=vsl.ext f;simp only[push_cast,y4];refine zn (λc2=>?_) (λc2=>?_)
  .rw[gK,decide_eq_false_iff_not] at c2;exact give (j.trans f) (.inr (.inl c2))
  rw[Gb,X0] at c2;simp(disch:=first|omega|simp only[push_cast]) only[push_cast,a3.ld4,ab.q.ld4,ac.iaddr,ac.ldAgg,t10.iaddr,t10.ldAgg,y4];refine spec_TermSame_spec _ ((vck 1 oM).ext f).term ((l 0 oM).ext f).term λI i=>?_;have ae:=a3.ext i;have H:=yh ab i;simp only[push_cast,y4];refine zn (λc3=>?_) (λc3=>?_)
  .rw[gK,decide_eq_false_iff_not] at c3;exact give (j.trans (f.trans i)) (.inr (.inr (.inl c3)))
  rw[Gb,X0] at c3;simp(disch:=first|omega|simp only[push_cast]) only[push_cast,ae.ld0,H.q.ld0,y4];refine zb (λc4=>give (j.trans (f.trans i)) (.inr (.inr (.inr c4)))) (λc4=>?_);refine hC _ _ ⟨rfl,A.trans (j.trans (f.trans i)),λh=>?_⟩;rcases h.2 with h|h|h|h
  .exact h vl
  .exact h c2
  .exact h c3
  .exact c4 h
 rintro u4 g4 w8 ⟨rfl,A,n3⟩;have J:=yh r7 A;rw[E,y3 n3] at Y;rw[J.q.ldAgg (t:=za) zc];exact rt_give J (qp (xS J)) Y
theorem l3One_spec {dv v:Value} {t:M.Tm} {ds:List M.Dcl} (I:DclsR F w dv ds) (l:M.declOk ds=true) (ht:TermR G w v t) (hs:M.sortM ds t≠ -1) (e:Y00 K w G (M.oneT ds t)):vcall zu0 #[dv,v] w K:=by
 rw[<-M.oneS_eq l hs] at e;have hlen:=M.len_of hs;refine zf {} Tryz.func131 ?_;refine rt_enter (B:=λt3 t4 a6=>_) ht λw1 b3 b4 kv rs=>?_;rw[rs.q.ldAgg (t:=za) zc];refine l2Sort_spec t (I.ext rs.ext) l (xS rs) λw2 Q=>?_;have X:=yh rs Q;rw[X.q.ldAgg (t:=za) zc];refine l3All_spec (xS X) λw3 R=>?_;have d:=yh X R;refine zn (λa=>?_) (λa=>?_)
 .have S:nnB t=true:=by
   have g:=a;unfold M.allFixed at g;simp only[gj,X0,gN] at g;refine nnB_iff.2 ⟨λN=>?_,λk hk=>?_⟩
   .rw[N] at hlen;have h0:t.ks.length=0:=by simp[M.arity] at hlen;omega
    exact g.1 (gH h0)
   .obtain⟨n,hn⟩:=GZ.1 (g.2 k hk);exact nn_fixed hn
  have E:M.oneS ds t=if M.sortM ds t=0 then M.boolM (decide (M.evalM ds (M.zeroE ds) t=1)) else .mk 20 (M.sortM ds t) (M.evalM ds (M.zeroE ds) t) M.nada []:=by unfold M.oneS;rw[k6 a]
  rw[d.q.ldAgg (t:=za) zc];refine yg xt xd λb7 J a0 f a4 h7=>?_;have b:=yh d f;refine l2Eval_spec t (H:=F) (I.ext b.ext) (M.zeroE_ok l) (xS b) (.inr S) hs λZ s=>?_;have p:=yh b s;refine oZ ?_;refine zb (λc=>?_) (λc=>?_)
  .refine l3Bool_spec λw6 v6 u T=>?_;rw[E,k6 c] at e;exact rt_give (yh p u) (rt_new p T) e
  .try simp only[push_cast]
   rw[E,y3 c] at e;exact rt_give p (U9 20 _ _ _:TmR _ Z _ (.mk 20 (M.sortM ds t) (M.evalM ds (M.zeroE ds) t) M.nada [])).term e
 have na: ¬M.allFixed t=true:=by rw[a];decide
 simp only[push_cast,d.q.ld4,d.k.len];refine zb (λU=>?_) (λU=>?_)
 .rw[d.q.ldAgg (t:=za) zc];have E:M.oneS ds t=t:=by unfold M.oneS;rw[y3 na,k6 (nil_len.1 U)]
  rw[E] at e;exact rt_give d (qp (xS d)) e
 have j: ¬t.ks=[]:=λh=>U (nil_len.2 h);have a3:0<t.ks.length:=GC.2 j;simp only[push_cast,d.q.ld0];refine zb (λW=>?_) (λW=>?_)
 .rw[d.q.ldAgg (t:=za) zc];have E:M.oneS ds t=M.logicS t:=by unfold M.oneS;rw[y3 na,y3 j,k6 oM]
  rw[E] at e;refine l3Logic_spec (xS d) hs oM j λJ rv f z=>?_;have b:=yh d f;have l3:=d.r.lt;exact rt_give b (z.weaken λx A _=>A.imp id λh=>oM) e
 have n23: ¬23<=t.op:=oM
 try simp only[push_cast,d.q.ld0]
 refine zb (λm=>?_) (λm=>?_)
 .have hl:t.ks.length=1:=by rw[m] at hlen;simp[M.arity] at hlen;omega
  simp(disch:=first|omega|simp only[push_cast]) only[push_cast,d.q.ld4,d.k.iaddr];refine d.k.load zc oM λx A=>?_;refine l2Sort_spec _ (I.ext d.ext) l A λJ f=>?_;have b:=yh d f;have E:M.oneS ds t=if M.sortM ds t=M.sortM ds (M.kid t 0) then M.kid t 0 else t:=by unfold M.oneS;rw[y3 na,y3 j,y3 n23,k6 m]
  refine oZ ?_;refine zb (λc=>?_) (λc=>?_)
  .simp(disch:=first|omega|simp only[push_cast]) only[push_cast,b.q.ld4,b.k.iaddr];refine b.k.load zc oM λy hy=>?_;rw[E,k6 (show M.sortM ds t=M.sortM ds (M.kid t 0) from c)] at e;exact rt_give b (qp hy) e
  .rw[b.q.ldAgg (t:=za) zc];rw[E,y3 (show¬M.sortM ds t=M.sortM ds (M.kid t 0) from c)] at e;exact rt_give b (qp (xS b)) e
 simp only[push_cast,d.q.ld4,d.k.len];have Y:=M.arity_ops (o:=t.op) oM;refine zb (λl1=>?_) (λl1=>?_)
 .have V:t.ks.length=1:=oM;have ho:=M.arity_one (o:=t.op) oM;have E:M.oneS ds t=if(M.kid t 0).op=t.op then M.kid (M.kid t 0) 0 else t:=by unfold M.oneS;rw[y3 na,y3 j,y3 n23,y3 m,k6 V]
  refine zd λJ f _=>?_;have b:=yh d f;simp(disch:=first|omega|simp only[push_cast]) only[push_cast,b.q.ld0,b.q.ld4,b.k.iaddr,y4];rw[tms_op b.k oM];simp(disch:=first|omega|simp only[push_cast]) only[push_cast,b.q.ld0,b.q.ld4,b.k.iaddr,y4];refine zb (λc=>?_) (λc=>?_)
  .have k0:=M.good_kid hs (i:=0) oM;have a1:(t.ks.getD 0 default).ks.length=1:=by
    have:=M.len_of k0;rw[show(M.kid t 0).op=t.op from c] at this;have L:t.op=1\/t.op=2:=oM;rcases L with o|o<;>rw[o] at this<;>simp[M.arity] at this<;>(unfold M.kid at this;omega)
   refine tms_kids b.k oM λa5 C=>?_;simp(disch:=first|omega|simp only[push_cast]) only[push_cast,C.iaddr];refine C.load zc oM λx A=>?_;rw[E,k6 (show(M.kid t 0).op=t.op from c)] at e;exact rt_give b (qp A) e
  .rw[b.q.ldAgg (t:=za) zc];rw[E,y3 (show¬(M.kid t 0).op=t.op from c)] at e;exact rt_give b (qp (xS b)) e
 .have l2:t.ks.length=2:=by
   unfold M.arity at hlen
   repeat' split at hlen
   all_goals omega
  have E:M.oneS ds t=M.twoS t (M.sortM ds (M.kid t 0)):=by unfold M.oneS;rw[y3 na,y3 j,y3 n23,y3 m,y3 oM]
  rw[E] at e;refine zd λJ f _=>?_;have b:=yh d f;obtain⟨cks,D,a2,O⟩:=b.k;simp(disch:=first|omega|simp only[push_cast]) only[push_cast,b.q.ld4,b.q.ldAgg (t:=za) zc,D.iaddr,D.ldAgg,y4];refine l2Sort_spec _ (I.ext b.ext) l (O 0 oM).term λZ s=>?_;have p:=yh b s;simp(disch:=first|omega|simp only[push_cast]) only[push_cast,p.q.ldAgg (t:=za) zc,y4,gh];refine l3Two_spec (xS p) l2 λw6 rv u z=>?_;have r6:=yh p u;have l5:=p.r.lt;exact rt_give r6 (z.weaken λx A _=>A.imp id λh=>oM) e
end
section
variable {w:World} {K:oK} {F F' D G:Nat->Prop}
set_option maxRecDepth 20000 in
theorem l3Fold_spec:∀(t:M.Tm) {w:World} {K:oK} {F G:Nat->Prop} {dv tv:Value} {ds:List M.Dcl},DclsR F w dv ds->M.declOk ds=true->TermR G w tv t->M.sortM ds t≠ -1->Y00 K w G (M.foldT ds t)->vcall WB #[dv,tv] w K:=by
 refine M.Tm.ind λt ih w K F G dv tv ds hd T ht hs hK=>?_;have hlen:=M.len_of hs;have ay:t.ks.length<=3:=by
  unfold M.arity at hlen
  repeat' split at hlen
  all_goals omega
 refine zf {loops:=[(3,[6])]} Tryz.func106 ?_;obtain⟨kv,rfl,ae⟩:=ht;refine zk λb1 w1 ap Y av h1=>?_;refine zj zo λb2 w2 aq Z aw h2=>?_;have az:=Y.size;have q2:=h1.ext Z;simp only[push_cast,q2.ld0,q2.ld1,q2.ld2,q2.ld3];refine zj zo λb3 w3 ar a0 ax h3=>?_;refine stTerm h3 rfl (U9 t.op t.a t.b t.s:TmR (λ_=>False) w3 _ _) λB a7 b0 h4=>?_;have W:Ext w1 B:=Ext.then (Z.trans a0) a7 λy hy=>by subst hy;omega
 have N:=Y.trans W;have q4:=h1.ext W;have r4:=(h2.ext a0).same a7 oM;have ac:TmsR (λx=>G x/\x<w.heap.size) B kv t.ks:=(ae.weaken λb h X=>⟨h,X⟩).ext N;have an:=N.size;refine vloop_up t.ks.length (λi u w'=>u=[nI i]/\Same (λb=>b=b3) B w'/\∃k css,Blk w' b3 [nI t.op,nI t.a,nI t.b,.string t.s,k] za/\Own 0 5 zg w' k css/\css.length=i/\(∀b,k.ownBlock=some b->B.heap.size<=b)/\
   ∀j,j<i->TmR (λx=>(G x/\x<w.heap.size)\/(B.heap.size<=x/\k.ownBlock≠some x)) w' (css.getD j []) (M.foldT ds (t.ks.getD j default)))
  ⟨rfl,Same.refl _ _,_,[],h4,Own.nil _ _ _ _,rfl,λb h=>(by cases h),λj V=>absurd V oM⟩ ?_
 rintro i _ _ w5 C hi ⟨rfl,d,k,css,h5,v,S,g,E⟩ hC;have b4:=d.size;have O:Ext w w5:=Ext.then N d λy hy=>by subst hy;omega
 have a2:=ac.same d λb f _ e=>oM
 have q5:=q4.same d oM;simp only[push_cast,q5.ld4,a2.len];refine zb (λa=>?_) (λa=>?_)
 .refine zd λw8 o _=>?_;have q8:=q5.ext o;have p8:=h5.ext o;obtain⟨cks,a6,au,hc⟩:=a2.ext o;simp(disch:=exact oS) only[push_cast,q8.ld4,p8.ld4,a6.iaddr,a6.ldAgg,y4];have I:t.ks.getD i default∈t.ks:=M.getD_mem oM _;have b6:=o.size;refine ih _ I (hd.ext (O.trans o)) T (hc i oM).term ((M.sort_parts hs).2.1 _ I) λw9 rv Q z=>?_;obtain⟨cr,rfl,n⟩:=z.cells;have p9:=p8.ext Q;simp only[push_cast,p9.ld4,y4,gh];have b7:=Q.size;refine xG yA yN zo rfl (zS n) dC λao w10 ai l aj a9=>?_;have a8:=p9.ext l;simp only[push_cast,a8.ld4,y4,gh];have D:=o.trans (Q.trans l);have a5:=v.ext D;refine Own.app1k a5 ji dC a9 (zS n) (tmR_one n) oM oM λp b8 J m q=>?_;have ah:=a8.same m (λe=>by have:=g _ e;have:=h5.lt;omega);have al:=m.size
  try simp only[push_cast,y4]
  have a3:p.cells= #[p]/\p.oneCell'=true:=by
   obtain⟨a,c,rfl,_⟩:=J.sl.shape;exact⟨rfl,rfl⟩
  refine ah.st (i:=4) a3.1 a3.2 qa rfl λA r am L=>?_;replace L:Blk A b3 [nI t.op,nI t.a,nI t.b,.string t.s,p] za:=L;rw[inc64' oM];have ak:=l.size;have H:∀b,p.ownBlock=some b->B.heap.size<=b:=λb f=>by
   rcases q b f with h|h
   .exact g b h
   .omega
  have U:Same (λb=>b=b3\/k.ownBlock=some b) w5 A:=(Same.of_ext D).trans ((m.mono λ_ _ h=> .inr h).trans (r.mono λ_ _ h=> .inl h));have aa:Same (λb=>b=b3) B A:=⟨U.os.trans d.os,U.tape.trans d.tape,U.output.trans d.output,gS d.size U.size,λb f a4=>(U.block b oM (λe=>e.elim a4 λe=>by have:=g b e;omega)).trans (d.block b f a4)⟩;refine hC oM _ _ ⟨rfl,aa,p,css++[cr],L,J.same r (λb f e=>by have:=H b f;omega),by simp[S],H,λj V=>?_⟩;by_cases ej:j<i
  .rw[k5,Ga oM,<-k5];refine((E j ej).weaken (F':=λx=>((G x/\x<w.heap.size)\/(B.heap.size<=x/\k.ownBlock≠some x))/\x<w5.heap.size) λb h X=>⟨h,X⟩).same U (λb f _ e=>?_)|>.weaken λb f _=>?_
   .rcases f.1 with h|h
    .rcases e with e|e
     .omega
     .have:=g b e;omega
    .rcases e with e|e
     .omega
     .exact h.2 e
   .rcases f.1 with h|h
    .exact .inl h
    .refine .inr ⟨h.1,λe=>?_⟩;rcases q b e with e|e
     .exact h.2 e
     .omega
  .have:j=i:=oM;subst this;rw[k5,GF oM,S,pj];show TmR _ A cr _;refine(((n.weaken (F':=λx=>((G x/\x<w.heap.size)\/w8.heap.size<=x)/\x<w9.heap.size) λb h X=>⟨h,X⟩).ext l).same m (λb f _ e=>?_)).same r (λb f _ e=>?_)|>.weaken λb f _=>?_
   .have:=g b e;have:=(v.lt e).2;rcases f.1 with h|h<;>omega
   .rcases f.1 with h|h<;>omega
   .rcases f.1 with h|h
    .exact .inl h
    .refine .inr ⟨oM,λe=>?_⟩;rcases q b e with e|e
     .have:=(v.lt e).2;omega
     .omega
 .have ab:i=t.ks.length:=oM;subst ab;rw[h5.ldAgg (t:=za) zc];have ad:TmsR (λx=>(G x/\x<w.heap.size)\/B.heap.size<=x) w5 k (t.ks.map (M.foldT ds)):=by
   refine⟨css,v.sl.weaken λb f _=> .inr (g b f),by rw[S,Q1],λj V=>?_⟩;rw[Q1] at V;rw[M.getD_map _ V _ default];exact(E j V).weaken λb f _=>f.imp id λh=>h.1
  have R:=M.kids_good T hs;refine l3One_spec (t:=M.remake t (t.ks.map (M.foldT ds))) (hd.ext O) T ⟨k,rfl,ad⟩ (by rw[R.sort];exact hs) λw6 rv a1 z=>?_;rw[<-M.foldT_rem] at z;obtain⟨cr,rfl,n⟩:=z.cells;have r6:=(r4.same d oM).ext a1;refine qd r6 rfl n (λx hx=>by rcases hx with(h|h)|h<;>omega) λw7 ag b5 af=>?_;exact hK _ _ (Ext.then (O.trans a1) ag λy hy=>by subst hy;omega) (af.weaken λx hx _=>by
   rcases hx with(h|h)|h
   .exact .inl h.1
   .exact .inr oM
   .exact .inr oM)
end
theorem UY {ds:List M.Dcl} {t:M.Tm} (a:M.declOk ds=true) (b:M.fits t=true):M.tsort ds t=M.sortM ds t:=by unfold M.tsort;rw[k6 ⟨b,a⟩]
theorem kF0 {ds:List M.Dcl} {t:M.Tm} (a:M.declOk ds=true) (b:M.fits t=true) (hs:M.sortM ds t≠ -1):Qy ds t=M.foldT ds t:=by
 unfold Qy;rw[y3 (by rw[UY a b];exact hs)]
end Go.Proofs.YtfjlkobhagjdaaaGreatDoor
section
namespace Go.M
variable {ds:List Dcl} {env:List Int}
def msbN:List Bool->Nat
 |b::bs=>(if b then 2^bs.length else 0)+msbN bs
 |[]=>0
theorem kB (b:Bool) (bs:List Bool):msbN (b::bs)=(if b then 2^bs.length else 0)+msbN bs:=rfl
theorem msb_lt:∀bs:List Bool,msbN bs<2^bs.length
 |[]=>dC
 |b::bs=>by
  have:=msb_lt bs
  grind [kB]
theorem msb_app:∀aa bs:List Bool,msbN (aa++bs)=msbN aa*2^bs.length+msbN bs
 |[],bs=>by simp[msbN]
 |a::aa,bs=>by
  rw[GI,kB,kB,msb_app aa bs,V0,Nat.pow_add,ph]
  grind
theorem bits_rev (w a:Nat):(bitsN (w+1) a).reverse=decide (a/2^w%2=1)::(bitsN w a).reverse:=by
 grind [bitsN,List.range_succ]
theorem bits_mod {w a m:Nat} (h:∀i,i<w->a/2^i%2=m/2^i%2):bitsN w a=bitsN w m:=by
 grind [bitsN,List.map_congr_left]
theorem high_bit {w i m k:Nat} (h:i<w):(k*2^w+m)/2^i%2=m/2^i%2:=by
 have e:k*2^w=2^i*(k*(2*2^(w-i-1))):=by
  have:2^w=2^i*(2*2^(w-i-1)):=by rw[<-Nat.pow_succ',<-Nat.pow_add];grind
  grind
 grind [Nat.mul_add_div]
theorem bits_msb:∀bs:List Bool,(bitsN bs.length (msbN bs)).reverse=bs
 |[]=>rfl
 |b::bs=>by
  rw[gB,bits_rev];have a:=msb_lt bs;have e:msbN (b::bs)=(if b then 1 else 0)*2^bs.length+msbN bs:=by rw[kB];grind
  rw[e,bits_mod (λi hi=>high_bit hi),bits_msb bs];congr 1
  grind [Nat.mul_comm,Nat.mul_add_div,Nat.div_eq_of_lt]
theorem msb_bits:∀(w a:Nat),a<2^w->msbN (bitsN w a).reverse=a
 |0,a,h=>by
  have:a=0:=(by simpa using h);subst this;rfl
 |w+1,a,h=>by
  rw[bits_rev];have d:a/2^w<2:=by rw[Nat.div_lt_iff_lt_mul (Nat.two_pow_pos w)];rw[Nat.pow_succ] at h;omega
  have b:=Nat.div_add_mod a (2^w);have f:=pO a (Nat.two_pow_pos w);have e:bitsN w a=bitsN w (a%2^w):=bits_mod λi hi=>by
   have:=high_bit (m:=a%2^w) (k:=a/2^w) hi;rwa[PC,b] at this
  rw[kB,e,msb_bits w (a%2^w) f,PA,bitsN_len];by_cases c:a/2^w%2=1
  .rw[k6 (by simpa using c)];have:a/2^w=1:=by generalize a/2^w=q at c d;omega
   rw[this,pP] at b;exact b
  .rw[y3 (by simpa using c)];have:a/2^w=0:=by generalize a/2^w=q at c d;omega
   rw[this,Nat.mul_zero] at b;exact b
theorem msb_lex:∀{aa bs:List Bool} {k:Nat},aa.length=bs.length->k<aa.length->(∀j,j<k->aa.getD j false=bs.getD j false)->aa.getD k false=false->bs.getD k false=true->msbN aa<msbN bs
 |[],_,_,_,h,_,_,_=>by simp at h
 |_::_,[],_,h,_,_,_,_=>by simp at h
 |a::aa,b::bs,0,l,_,_,g,i=>by
  have e:a=false:=(by grind);have f:b=true:=(by grind);subst e;subst f;have:=msb_lt aa
  grind [kB]
 |a::aa,b::bs,k+1,l,n,he,g,i=>by
  have d:a=b:=(by simpa using he 0 oM);subst d;have c:aa.length=bs.length:=(by grind);have:=msb_lex (aa:=aa) (bs:=bs) (k:=k) c (by grind) (λj m=>by grind) (by grind) (by grind);rw[kB,kB,c];omega
def envB:List Dcl->List Bool->List Int
 |d::ds,ins=>(msbN (ins.take d.2.toNat):Int)::envB ds (ins.drop d.2.toNat)
 |[],_=>[]
theorem envB_len:∀(ds:List Dcl) (ins:List Bool),(envB ds ins).length=ds.length
 |[],_=>rfl
 |d::ds,ins=>by simp[envB,envB_len ds]
theorem ins_envB:∀{ds:List Dcl} {ins:List Bool},(∀d,d∈ds->0<=d.2)->ins.length=nIn ds->insM ds (envB ds ins)=ins
 |[],ins,_,b=>by
  have:ins=[]:=gH b;rw[this];rfl
 |d::ds,ins,c,b=>by
  have f:=c d gm;have a:∀x,x∈ds->0<=x.2:=(by grind);have g:=bits_pos' a;have h:nIn (d::ds)=d.2.toNat+nIn ds:=by unfold nIn;rw[bits_cons'];omega
  have e:(ins.take d.2.toNat).length=d.2.toNat:=(by grind);have:=bits_msb (ins.take d.2.toNat);rw[e] at this;unfold envB insM;rw[gq,this,ins_envB a (by grind),pf]
theorem envB_ins:∀{ds:List Dcl} {env:List Int},env.length=ds.length->(∀i,i<ds.length->0<=(ds.getD i (nada,0)).2/\0<=env.getD i 0/\env.getD i 0<2^((ds.getD i (nada,0)).2).toNat)->envB ds (insM ds env)=env
 |[],[],_,_=>rfl
 |[],_::_,a,_=>by simp at a
 |_::_,[],a,_=>by simp at a
 |d::ds,n::env,a,h=>by
  have b:=h 0 (by simp);simp only[pr] at b;have c:(bitsN d.2.toNat n.toNat).reverse.length=d.2.toNat:=(by rw[PA,bitsN_len]);have e:((2^d.2.toNat:Nat):Int)=2^d.2.toNat:=(by simp);unfold insM envB;rw[G3 oM,gD oM,List.drop_append_of_le_length oM,Pb oM,Gi,msb_bits _ _ oM,
   envB_ins (by grind) (λi hi=>by simpa using h (i+1) (by grind))]
  grind
theorem env_nums (he:envOk ds env=true):∀i,i<ds.length->0<=(ds.getD i (nada,0)).2/\0<=env.getD i 0/\env.getD i 0<2^((ds.getD i (nada,0)).2).toNat:=λi hi=>by
 have:=vok_iff.1 ((env_ok he).2.2 i hi);omega
theorem xa0 (he:envOk ds env=true):envB ds (insM ds env)=env:=envB_ins (env_ok he).2.1 (env_nums he)
theorem envB_vals:∀{ds:List Dcl} {ins:List Bool},ins.length=nIn ds->(∀d,d∈ds->0<=d.2)->∀i,i<ds.length->0<=(envB ds ins).getD i 0/\(envB ds ins).getD i 0<2^((ds.getD i (nada,0)).2).toNat
 |[],_,_,_,i,hi=>by simp at hi
 |d::ds,ins,e,b,0,_=>by
  have a:∀x,x∈ds->0<=x.2:=(by grind);have c:=bits_pos' a
  grind [nIn,bits_cons',msb_lt,List.length_take,envB]
 |d::ds,ins,e,b,i+1,hi=>by
  have a:∀x,x∈ds->0<=x.2:=(by grind);have c:=bits_pos' a;have f:=b d gm;have g:nIn (d::ds)=d.2.toNat+nIn ds:=by unfold nIn;rw[bits_cons'];omega
  have:=envB_vals (ds:=ds) (ins:=ins.drop d.2.toNat) (by grind) a i (by grind);unfold envB
  grind
theorem envB_ok {ins:List Bool} (a:declOk ds=true) (b:ins.length=nIn ds):envOk ds (envB ds ins)=true:=by
 have c:=envB_vals b (dpos a);unfold envOk;simp only[gj,X0,gN,gI]
 grind [envB_len,dcl_wide,vok_iff]
theorem rank_msb:∀{ds:List Dcl} {env:List Int},env.length=ds.length->(∀i,i<ds.length->0<=(ds.getD i (nada,0)).2/\0<=env.getD i 0/\env.getD i 0<2^((ds.getD i (nada,0)).2).toNat)->rankE ds env=msbN (insM ds env)
 |[],[],_,_=>rfl
 |[],_::_,b,_=>by simp at b
 |_::_,[],b,_=>by simp at b
 |d::ds,n::env,b,h=>by
  have g:=h 0 (by simp);simp only[pr] at g;have a:env.length=ds.length:=(by grind);have f:∀i,i<ds.length->0<=(ds.getD i (nada,0)).2/\0<=env.getD i 0/\env.getD i 0<2^((ds.getD i (nada,0)).2).toNat:=λi hi=>(by simpa using h (i+1) (by grind));have c:∀x,x∈ds->0<=x.2:=λx k=>by
   grind [List.getElem_of_mem]
  have e:((2^d.2.toNat:Nat):Int)=2^d.2.toNat:=(by simp);have hi:=insM_len a c;have j:=bits_pos' c;unfold rankE insM;rw[msb_app,msb_bits _ _ oM,rank_msb a f,show(insM ds env).length=(bits ds).toNat by omega,Int.natCast_add,Int.natCast_mul,show((n.toNat:Nat):Int)=n by omega];simp
theorem x00 (he:envOk ds env=true):rankE ds env=msbN (insM ds env):=rank_msb (env_ok he).2.1 (env_nums he)
def exK:List Bool->Int->List Int
 |b::bs,k=>(if b then-k else k)::exK bs (k+1)
 |[],_=>[]
def exC (ds:List Dcl) (env:List Int):List Int:=exK (insM ds env) 2
theorem exK_len:∀(bs:List Bool) (k:Int),(exK bs k).length=bs.length
 |[],_=>rfl
 |b::bs,k=>by simp[exK,exK_len bs]
theorem exK_get:∀{bs:List Bool} {k:Int} {i:Nat},i<bs.length->(exK bs k).getD i 0=if bs.getD i false then-(k+i) else k+i
 |[],_,_,h=>by simp at h
 |b::bs,k,0,_=>by simp[exK]
 |b::bs,k,i+1,h=>by
  have:=exK_get (bs:=bs) (k:=k+1) (i:=i) (by grind)
  grind [exK]
theorem exC_ok {m:Nat} (hm:1+(insM ds env).length<=m):yY m (exC ds env)=true:=by
 refine QH.2 λk a=>?_;unfold exC at a⊢;rw[exK_len] at a;have e:=exK_get (k:=2) a;refine⟨?_,?_⟩
 .grind [litOk]
 grind [exK_get]
theorem exC_true {v:Nat->Bool}:clT v (exC ds env)↔insV v (insM ds env).length≠insM ds env:=by
 unfold exC;constructor
 .rintro⟨l,o,a⟩ he;obtain⟨i,hi,rfl⟩:=gr o;have b:i<(insM ds env).length:=(by rwa[exK_len] at hi);have e:=exK_get (k:=2) b;rw[k5,gd hi,Gu] at e;have g:=insV_get (v:=v) (n:=(insM ds env).length) b;rw[he] at g;rw[e,g] at a;unfold litT at a;cases c:v (i+2)
  .rw[c] at a;simp only[gV,if_false] at a;rw[k6 oM,show((2:Int)+i).natAbs=i+2 by omega,c] at a;cases a
  .rw[c] at a;simp only[if_true] at a;rw[y3 oM,show(-((2:Int)+i)).natAbs=i+2 by omega,c] at a;cases a
 .intro f;have:∃i,i<(insM ds env).length/\v (i+2)≠(insM ds env).getD i false:=Gg λp=>f (by
   refine gM (insV_len _ _) λi j d=>?_;have e:=insV_get (v:=v) (n:=(insM ds env).length) (i:=i) d;rw[k5,gd j,Gu] at e;rw[e];have:=Gg λh=>p ⟨i,d,h⟩;rwa[k5,gd d,Gu] at this)
  obtain⟨i,hi,h⟩:=this;have m:i<(exK (insM ds env) 2).length:=by rw[exK_len];exact hi
  refine⟨(exK (insM ds env) 2).getD i 0,getD_mem m 0,?_⟩;rw[exK_get hi]
  grind [litT]
def jobC (ds:List Dcl) (gs:Gs) (rs:List (List Int)) (nots:List (List Int)):Cnf:=netC (nIn ds) gs (rootsC rs++nots.map (exC ds))
def searchM (n:Nat) (ds:List Dcl) (c:Cnf):List Int×Int:=
 let s:=runM c.many.toNat c n emptyS
 if s.code=1 then(envB ds (insV (wayM s.put) (nIn ds)),1) else if s.code=2 then([],2) else([],3)
def solveM (n:Nat) (ds:List Dcl) (ts:List Tm) (nots:List (List Int)):List Int×Int:=match listB ds (ts.map (foldT ds)) with
 |none=>([],3)
 |some (gs,rs)=>searchM n ds (jobC ds gs rs nots)
def Sol (ds:List Dcl) (ts:List Tm) (nots:List (List Int)) (env:List Int):Prop:=envOk ds env=true/\allT ds env ts/\env∉nots
section
variable {ts:List Tm} {gs:Gs} {rs nots:List (List Int)}
theorem job_ok (b:declOk ds=true) (h:ListNet ds ts gs rs) (d:∀e,e∈nots->envOk ds e=true) (c:ts.length+nots.length<=90):cnfOk (jobC ds gs rs nots)=true:=by
 refine net_ok (nIn_eq b).2 h.net (by unfold rootsC;rw[V0,Q1,Q1,h.many];exact c) λcl a=>?_;rcases gn.1 a with a|a
 .exact roots_ok b h cl a
 .obtain⟨e,he,rfl⟩:=gw.1 a;exact exC_ok (by rw[insM_n (d e he)];omega)
theorem job_true (c:declOk ds=true) (hs:∀t,t∈ts->sortM ds t=0) (h:ListSays ds ts gs rs) (j:∀e,e∈nots->envOk ds e=true) {v:Nat->Bool}:
  jj0 v (jobC ds gs rs nots)↔Follows v (nIn ds) gs/\Sol ds ts nots (envB ds (insV v (nIn ds))):=by
 have d:=insV_len v (nIn ds);have hi:=ins_envB (dpos c) d;have he:=envB_ok c d;unfold jobC;rw[net_sat h.net];constructor
 .rintro⟨b,f⟩;refine⟨b,he,(way_true he hs h b hi.symm).1 λcl a=>f cl (gn.2 (.inl a)),λhm=>?_⟩;have:=f _ (gn.2 (.inr (gw.2 ⟨_,hm,rfl⟩)));simp_all[exC_true]
 .rintro⟨b,_,i,hm⟩;refine⟨b,λcl a=>?_⟩;rcases gn.1 a with a|a
  .grind [way_true]
  .obtain⟨e,g,rfl⟩:=gw.1 a
   grind [exC_true,insM_n,xa0]
theorem lex_rank {many:Nat} {a b:Nat->Bool} {n:Nat} (hm:1+n<=many) (o:a 1=true) (h:LexLe many a b):msbN (insV a n)<=msbN (insV b n):=by
 have heq:(∀u,1<=u->u<=1+n->a u=b u)->msbN (insV a n)<=msbN (insV b n):=λh=>by
  have:insV a n=insV b n:=by
   grind [insV,List.map_congr_left]
  grind
 rcases h with h|⟨d,f,g,i,l,m⟩
 .grind
 .by_cases c:d<=1+n
  .have e:d≠1:=(by grind);refine Nat.le_of_lt (msb_lex (k:=d-2) (by rw[insV_len,insV_len]) (by rw[insV_len];omega) (λj p=>?_) ?_ ?_)
   .grind [insV_get]
   .grind [insV_get]
   grind [insV_get]
  grind
theorem search_says (n:Nat) (c:declOk ds=true) (hs:∀t,t∈ts->sortM ds t=0) (h:ListSays ds ts gs rs) (i:∀e,e∈nots->envOk ds e=true) (o:ts.length+nots.length<=90):
  ((searchM n ds (jobC ds gs rs nots)).2=1/\Sol ds ts nots (searchM n ds (jobC ds gs rs nots)).1/\∀e,Sol ds ts nots e->rankE ds (searchM n ds (jobC ds gs rs nots)).1<=rankE ds e)\/
  (searchM n ds (jobC ds gs rs nots)=([],2)/\∀e,¬Sol ds ts nots e)\/searchM n ds (jobC ds gs rs nots)=([],3):=by
 have j:=job_ok c h.toListNet i o;have b:(jobC ds gs rs nots).many=((jobC ds gs rs nots).many.toNat:Nat):=by unfold jobC netC;grind
 have g:(jobC ds gs rs nots).many.toNat=1+nIn ds+gs.length:=by unfold jobC netC;grind
 have d:=run_fair b (n:=n) (xO0 (many:=(jobC ds gs rs nots).many.toNat) j);have way:∀e,Sol ds ts nots e->jj0 (wayG (insM ds e) gs) (jobC ds gs rs nots)/\insV (wayG (insM ds e) gs) (nIn ds)=insM ds e:=λe he=>by
  have hi:insV (wayG (insM ds e) gs) (nIn ds)=insM ds e:=by rw[<-insM_n he.1];exact wayG_ins
  refine⟨(job_true c hs h i).2 ⟨UU (insM_n he.1),?_⟩,hi⟩;rw[hi,xa0 he.1];exact he
 unfold searchM;generalize runM (jobC ds gs rs nots).many.toNat (jobC ds gs rs nots) n emptyS=s at d⊢;simp only;split
 .next l=>
  refine .inl ⟨rfl,?_⟩;have k:=d.least b l;obtain⟨f,a⟩:=(job_true c hs h i).1 k.1;refine⟨a,λe he=>?_⟩;obtain⟨hw,hi⟩:=way e he;have:=lex_rank (n:=nIn ds) oM (by have:=f 0 oM;rw[this];exact Xr) (k.2 _ hw);rw[x00 a.1,x00 he.1,ins_envB (dpos c) (insV_len _ _)]
  grind
 .split
  .next m=>
   refine .inr (.inl ⟨rfl,λe he=>d.no m _ (way e he).1⟩)
  grind
theorem allT_fold (he:envOk ds env=true) (hs:∀t,t∈ts->sortM ds t=0):allT ds env (ts.map (foldT ds))↔allT ds env ts:=by
 have c:=(env_ok he).1;have b:∀t,t∈ts->evalM ds env (foldT ds t)=evalM ds env t:=λt a=>((fold_good c t (by grind)).eval env he);constructor
 .intro h t a;rw[<-b t a];exact h _ (gw.2 ⟨t,a,rfl⟩)
 .intro h u hu;obtain⟨t,a,rfl⟩:=gw.1 hu;rw[b t a];exact h t a
theorem solve_says (n:Nat) (f:declOk ds=true) (hs:∀t,t∈ts->sortM ds t=0) (j:∀e,e∈nots->envOk ds e=true) (h:ts.length+nots.length<=90):
  ((solveM n ds ts nots).2=1/\Sol ds ts nots (solveM n ds ts nots).1/\∀e,Sol ds ts nots e->rankE ds (solveM n ds ts nots).1<=rankE ds e)\/
  (solveM n ds ts nots=([],2)/\∀e,¬Sol ds ts nots e)\/solveM n ds ts nots=([],3):=by
 have g:∀t,t∈ts.map (foldT ds)->sortM ds t=0:=λu hu=>by
  obtain⟨t,k,rfl⟩:=gw.1 hu;have:=(fold_good f t (by grind)).sort
  grind
 have d:∀e,Sol ds (ts.map (foldT ds)) nots e↔Sol ds ts nots e:=λe=>
  ⟨λ⟨a,b,c⟩=>⟨a,(allT_fold a hs).1 b,c⟩,λ⟨a,b,c⟩=>⟨a,(allT_fold a hs).2 b,c⟩⟩
 unfold solveM;cases i:listB ds (ts.map (foldT ds)) with
 |none=>grind
 |some p=>
  grind [search_says,list_says]
end
end Go.M
end
section
namespace Go.M
variable {ds:List Dcl} {n:Nat} {ts:List Tm} {nots:List (List Int)}
def sorted0 (ds:List Dcl) (ts:List Tm):Prop:=∀t,t∈ts->sortM ds t=0
theorem solve_code (c:declOk ds=true) (hs:sorted0 ds ts) (d:∀e,e∈nots->envOk ds e=true) (b:ts.length+nots.length<=90):(solveM n ds ts nots).2=1\/(solveM n ds ts nots).2=2\/(solveM n ds ts nots).2=3:=by
 rcases solve_says n c hs d b with⟨a,_⟩|⟨a,_⟩|a
 .omega
 .grind
 grind
end Go.M
end
namespace Go.Proofs.YtfjlkobhagjdaaaGreatDoor
open Go Go.Vc Go.Proofs
section
variable {ds:List M.Dcl} {t:M.Tm} {ts:List M.Tm} {nots:List (List Int)}
theorem W1 (b:M.declOk ds=true) (h:M.tsort ds t=0):M.tsort ds (M.foldT ds t)=0/\Qy ds t=M.foldT ds t:=by
 obtain⟨a,d,f⟩:=QU h;have c:=M.fold_good b t (by rw[a];decide);obtain⟨f1,f2⟩:=M.fits_iff.1 d;have e:M.fits (M.foldT ds t)=true:=M.fits_iff.2 ⟨gS c.size f1,gS c.deep f2⟩;exact⟨by rw[UY b e,c.sort,a],kF0 b d (by rw[a];decide)⟩
theorem Q3 (h:KC ds ts=true):KC ds (ts.map (M.foldT ds))=true:=by
 obtain⟨b,a,c⟩:=all8_iff.1 h;refine all8_iff.2 ⟨by rw[Q1];exact b,a,λu hu=>?_⟩;obtain⟨t,d,rfl⟩:=gw.1 hu;exact(W1 a (c t d)).1
def xV (ds:List M.Dcl) (ts:List M.Tm) (nots:List (List Int)):List Int×Int:=if KC ds ts=true then M.solveM 4000 ds ts nots else([],4)
def yF0 (c:M.Cnf) (ds:List M.Dcl) (nots:List (List Int)):M.Cnf:=⟨c.many,c.list++nots.map (M.exC ds)⟩
theorem jd0 {gs:M.Gs} {rs:List (List Int)}:yF0 (M.blastC ds gs rs) ds nots=M.jobC ds gs rs nots:=by
 show M.Cnf.mk _ _=M.Cnf.mk _ _;congr 1;show([1]::(M.gatesC _ gs 0++M.rootsC rs))++_=[1]::(M.gatesC _ gs 0++(M.rootsC rs++_));simp
theorem Qf (h: ¬KC ds ts=true):xV ds ts nots=([],4):=by unfold xV;rw[y3 h]
theorem JD (h:KC ds ts=true) (a:(cnfE ds (ts.map (M.foldT ds))).2≠0):xV ds ts nots=([],3):=by
 unfold xV M.solveM;rw[k6 h];unfold cnfE at a;rw[k6 (Q3 h)] at a;cases b:M.listB ds (ts.map (M.foldT ds)) with
 |none=>rfl
 |some r=>rw[b] at a;exact absurd rfl a
theorem jk0 (h:KC ds ts=true):(cnfE ds ts).2=0\/(cnfE ds ts).2=1:=by
 unfold cnfE;rw[k6 h];cases M.listB ds ts with
 |none=>exact .inr rfl
 |some r=>exact .inl rfl
theorem solveR_run (h:KC ds ts=true) (b:(cnfE ds (ts.map (M.foldT ds))).2=0) (f:∀e,e∈nots->M.envOk ds e=true) (j:nots.length<=80):
  xV ds ts nots=M.searchM 4000 ds (yF0 (cnfE ds (ts.map (M.foldT ds))).1 ds nots)/\M.cnfOk (yF0 (cnfE ds (ts.map (M.foldT ds))).1 ds nots)=true/\1+M.nIn ds<=(cnfE ds (ts.map (M.foldT ds))).1.many.toNat:=by
 have c:=Q3 h;unfold xV M.solveM;rw[k6 h];unfold cnfE at b⊢;rw[k6 c] at b⊢;cases d:M.listB ds (ts.map (M.foldT ds)) with
 |none=>rw[d] at b;exact absurd b (by simp)
 |some r=>
  obtain⟨i,a2,a3⟩:=all8_iff.1 c;have a:=M.list_net a2 (λt g=>by rw[(QU (a3 t g)).1];decide) d;have e:=jd0 (ds:=ds) (nots:=nots) (gs:=r.1) (rs:=r.2);refine⟨by show _=M.searchM 4000 ds (yF0 (M.blastC ds r.1 r.2) ds nots);rw[e],by show M.cnfOk (yF0 (M.blastC ds r.1 r.2) ds nots)=true;rw[e];exact M.job_ok a2 a f oM,?_⟩;show 1+M.nIn ds<=(M.netC _ r.1 (M.rootsC r.2)).many.toNat;unfold M.netC;simp only;omega
end
section
variable {w:World} {G:Nat->Prop}
theorem one_tms {ks:List M.Tm} {css:List (List Value)} (k:css.length=ks.length) (h:∀i,i<ks.length->TmR G w (css.getD i []) (ks.getD i default)):∀y,y∈css->∀c,c∈y->c.oneCell'=true:=λy g c a=>by
 obtain⟨i,hi,rfl⟩:=gr g;have f:=h i oM;rw[k5,gd hi] at f;obtain⟨j,he,b⟩:=f.inv;obtain⟨e,d,_⟩:=b;rw[show css[i]=(some css[i]).getD [] from rfl,he] at a;simp only[gi,gz,Gh] at a;rcases a with rfl|rfl|rfl|rfl|rfl
 .rfl
 .rfl
 .rfl
 .rfl
 .exact d.one
end
section
variable {w:World} {K:oK} {D F F' G Fr Fx Fy X:Nat->Prop} {n N b:Nat} {gs:M.Gs} {v dv tv lv:Value} {ls ls':List Value} {xss yss:List (List Int)} {xs ys:List Int} {ds:List M.Dcl} {t:M.Tm} {ts:List M.Tm} {ar ab:Addr} {k m:Int} {st:Option M.Gs}
theorem lit_row {w2:World} {us:List Int} {xs:List Value} {K:oK} (k:xs=us.map (λx=>nI x)) (f:us.length<=8) (j:RowsR N (λb=>b<w2.heap.size) w2 ls xss) (i:ls.length=xss.length)
  (g:∀w3 v,Ext w2 w3->RowsR N (λb=>b<w3.heap.size) w3 (ls++[v]) (xss++[us])->(∃o l c,v= .slice o l c)->K v w3):vbuildS zi xs.length (xs.zipIdx.map λp=>(p.2,p.1)) w2 K:=by
 refine lit_ints k f λw3 b3 h a m d=>?_;refine g w3 _ a (RowsR.new (j.weaken λb n _ _=>oM) i a d (λb e=>?_) λb e=>d.lt e) ⟨_,_,_,rfl⟩;have:b=b3:=(K3 e).symm;omega
theorem lits_fin {w2:World} {xs:List Value} (g:xs.length<=8) (k:xs.length=xss.length) (m:∀x,x∈xs->∃o l c,x= .slice o l c) (f:RowsR N (λb=>b<w2.heap.size) w2 xs xss) (h:∀w' v,Ext w2 w'->Fresh N w' v xs xss->K v w'):
  vbuildS zI xs.length (xs.zipIdx.map λp=>(p.2,p.1)) w2 K:=by
 refine lit_lists m g λw3 b3 j a n d=>?_;have r:=f.nle;refine h w3 _ a ⟨d,k,λb i=>?_,?_⟩
 .have:b=b3:=(K3 i).symm;omega
 .exact(f.ext a).weaken λb q _ _ e=>by
   have:b3=b:=K3 e;omega
theorem gl_xor {a b k:Int} {K:oK} (u:∀w' v ls,Ext w w'->Fresh w.heap.size w' v ls [[a,b,-k],[-a,-b,-k],[-a,b,k],[a,-b,k]]->ls.length=4->K v w'):
  vbuildS zi 3 [(0,nI a),(1,nI b),(2,nI (-k))] w λt1 w1=>vbuildS zi 3 [(0,nI (-a)),(1,nI (-b)),(2,nI (-k))] w1 λt2 w2=>
   vbuildS zi 3 [(0,nI (-a)),(1,nI b),(2,nI k)] w2 λt3 w3=>vbuildS zi 3 [(0,nI a),(1,nI (-b)),(2,nI k)] w3 λt4 A=>vbuildS zI 4 [(0,t1),(1,t2),(2,t3),(3,t4)] A K:=by
 refine lit_row (N:=w.heap.size) (ls:=[]) (xss:=[]) (xs:=[nI a,nI b,nI (-k)]) (us:=[a,b,-k]) rfl (by simp) (RowsR.nil (gu _)) rfl λB v9 o p q=>?_;refine lit_row (xs:=[nI (-a),nI (-b),nI (-k)]) (us:=[-a,-b,-k]) rfl (by simp) p rfl λw10 v10 c h l=>?_;refine lit_row (xs:=[nI (-a),nI b,nI k]) (us:=[-a,b,k]) rfl (by simp) h rfl λy v11 d i m=>?_;refine lit_row (xs:=[nI a,nI (-b),nI k]) (us:=[a,-b,k]) rfl (by simp) i rfl λz v12 e j n=>?_;refine lits_fin (xs:=[v9,v10,v11,v12]) (by simp) rfl (λx t=>?_) j λs r f g=>u s r _ (o.trans (c.trans (d.trans (e.trans f)))) g rfl;simp only[gi,gz,Gh] at t;rcases t with rfl|rfl|rfl|rfl
 .exact q
 .exact l
 .exact m
 .exact n
theorem gl_and {a b k:Int} {K:oK} (r:∀w' v ls,Ext w w'->Fresh w.heap.size w' v ls [[a,-k],[b,-k],[-a,-b,k]]->ls.length=3->K v w'):
  vbuildS zi 2 [(0,nI a),(1,nI (-k))] w λt1 w1=>vbuildS zi 2 [(0,nI b),(1,nI (-k))] w1 λt2 w2=>
   vbuildS zi 3 [(0,nI (-a)),(1,nI (-b)),(2,nI k)] w2 λt3 w3=>vbuildS zI 3 [(0,t1),(1,t2),(2,t3)] w3 K:=by
 refine lit_row (N:=w.heap.size) (ls:=[]) (xss:=[]) (xs:=[nI a,nI (-k)]) (us:=[a,-k]) rfl (by simp) (RowsR.nil (gu _)) rfl λt v9 l m n=>?_;refine lit_row (xs:=[nI b,nI (-k)]) (us:=[b,-k]) rfl (by simp) m rfl λw10 v10 c g i=>?_;refine lit_row (xs:=[nI (-a),nI (-b),nI k]) (us:=[-a,-b,k]) rfl (by simp) g rfl λs v11 d h j=>?_;refine lits_fin (xs:=[v9,v10,v11]) (by simp) rfl (λx q=>?_) h λp o e f=>r p o _ (l.trans (c.trans (d.trans e))) f rfl;simp only[gi,gz,Gh] at q;rcases q with rfl|rfl|rfl
 .exact n
 .exact i
 .exact j
structure CnfS (N b:Nat) (w:World) (m:Int) (lv:Value) (ls:List Value) (xss:List (List Int)):Prop where
 blk:Blk w b [nI m,lv] zq
 own:OwnV zI w lv ls
 len:ls.length=xss.length
 rows:RowsR N (λx=>lv.ownBlock≠some x/\x≠b) w ls xss
 new:∀x,lv.ownBlock=some x->N<=x/\x≠b
 lo:N<=b
theorem CnfS.ext {w':World} (h:CnfS N b w m lv ls xss) (he:Ext w w'):CnfS N b w' m lv ls xss:=⟨h.blk.ext he,h.own.ext he,h.len,h.rows.ext he,h.new,h.lo⟩
theorem kk0 (h:RowsR N Fr w ls xss) (d:ls.length=xss.length):∀u,u∈ls->u.oneCell'=true:=λu hu=>by
 obtain⟨j,b,rfl⟩:=gr hu;have a:=h.own j (by rw[<-d];exact b);obtain⟨o,c,e,_⟩:=a.ints.shape;rw[k5,gd b,Gu] at e;rw[e];rfl
theorem CnfS.add {q:World} {v9:Value} {M:Nat} {K:oK} (h:CnfS N b w m lv ls xss) (he:Ext w q) (n:Fresh M q v9 ls' yss) (V:w.heap.size<=M) (a:ls.length<=100000) (B:ls'.length<=1000)
  (J:∀w' F,Same (λx=>x=b\/lv.ownBlock=some x) q w'->CnfS N b w' m F (ls++ls') (xss++yss)->K undef w'):
  vbi .append [zI,zI] zI [lv,v9] q λt w1=>zW zI (oP b 1) t w1 K:=by
 have z9:=he.size;have Q:=h.blk.lt;have A:∀x,lv.ownBlock=some x->x<w.heap.size:=λx p=>h.own.lt p;refine OwnV.app (us:=ls') (h.own.ext he) ZW n.own.vals (kk0 n.rows n.len) oM oM λv10 w10 g d k=>?_;have T:=d.size;have s:=(h.blk.ext he).same d λe=>(h.new _ e).2 rfl;refine s.st (i:=1) (v:=v10) ?_ ?_ Q8 (by rfl) λG f H u=>?_
 .obtain⟨o,c,e,_⟩:=g.vals.shape;rw[e];rfl
 .obtain⟨o,c,e,_⟩:=g.vals.shape;rw[e];rfl
 have U:=f.size;have y:=h.rows.ext he;have C:=y.nle;have E:RowsR N (λx=>lv.ownBlock≠some x/\x≠b) q ls' yss:=by
  have a:=n.rows;refine⟨C,a.own,λj x O p=>?_,a.dj⟩;have B:=(a.sub j x O p).2;have:=h.rows.nle;exact⟨⟨λe=>by have:=A x e;omega,λe=>oM⟩,oM⟩
 have D:=y.app h.len E n.len λR S x a B L e=>by
  have:=(h.rows.own R a).lt L;have:=(n.rows.sub S x B e).2;omega
 have l:∀x,v10.ownBlock=some x->N<=x/\x≠b:=λx p=>by
  rcases k x p with r|r
  .exact h.new x r
  .exact⟨oM,λe=>oM⟩
 refine J G v10 ((d.mono λx _ h=> .inr h).trans (f.mono λx _ h=> .inl h)) ⟨u,g.same f λx p e=>(l x p).2 e,by rw[V0,V0,h.len,n.len],?_,l,h.lo⟩;have z:=D.weaken (F':=λx=>(lv.ownBlock≠some x/\x≠b)/\x<q.heap.size) λx a _ I=>⟨a,I⟩;refine((z.same d λx a _ e=>a.1.1 e).same f λx a _ e=>a.1.2 e).weaken λx a _ _=>⟨λe=>?_,a.1.2⟩;rcases k x e with r|r
 .exact a.1.1 r
 .omega
theorem CnfS.out {b2:Nat} {a0 c0:Value} {K:oK} (h:CnfS N b w m lv ls xss) (p:Blk w b2 [a0,c0] zq) (u:b2<N) (q:∀w',Same (· =b2) w w'->CnfO N w' lv ls ⟨m,xss⟩->K (.agg ⟨[nI m,lv]⟩) w'):
  zt zq (oP b 0) w λt45 g=>zW zq (oP b2 0) t45 g λ_ i=>vlv zq (oP b2 0) i K:=by
 obtain⟨o,c,f,_⟩:=h.own.vals.shape;generalize (ls.map λx=>[x]).length=l at f;subst f;rw[h.blk.ldAgg (t:=zq) zD];refine p.stAgg (cs':=[nI m,.slice o l c]) rfl zD net_one λs d r j=>?_;rw[j.lv (t:=zq) zD];refine q s d ⟨h.own.same d λx k e=>by have:=(h.new x k).1;omega,h.len,λx k=>(h.new x k).1,?_⟩;have a:=(h.rows.weaken (F':=λx=>(Value.slice o l c).ownBlock≠some x/\N<=x) λx a n _=>⟨a.1,n⟩).same d λx a _ e=>by have:=a.2;omega
 exact a.weaken λx a _ _=>a.1
theorem l6Many_spec {x:Value} (e:GatesR Fx w x gs) (j:n<=8) (i:gs.length<=600) (f:∀w',Ext w w'->K (nI (1+n+gs.length:Nat)) w'):vcall Ws #[.agg ⟨[nI n,x]⟩] w K:=by
 refine zf {} Tryz.func130 ?_;obtain⟨o,c,d,_⟩:=e.shape;have hlen:∀(w':World) (K:oK),vbi .len [zz] zU [x] w' K=K (nI gs.length) w':=λw' K=>by rw[Sl.len e qb,x60]
 generalize (gs.map yl).length=l at d;subst d;refine zk λb1 w1 g b h a=>?_;simp(disch:=exact oS) only[push_cast,a.ld0,a.ld1,hlen,zl];have:=f w1 b;simp only[push_cast] at this;exact this
theorem l6Cnf_spec {x:Value} (L:GatesR Fx w x gs) (hg:M.NetG n gs) (hn:n<=8) (hK:∀w' lv ls,Ext w w'->CnfO w.heap.size w' lv ls (M.netC n gs [])->K (.agg ⟨[nI (1+n+gs.length:Nat),lv]⟩) w'):vcall zn0 #[.agg ⟨[nI n,x]⟩] w K:=by
 refine zf {loops:=[(3,[4])]} Tryz.func105 ?_;have V:=hg.few;have af:=L.shape;obtain⟨o,c,hv,_⟩:=af;have hlen:∀(w':World) (K:oK),vbi .len [zz] zU [x] w' K=K (nI gs.length) w':=λw' K=>by rw[Sl.len L qb,x60]
 generalize (gs.map yl).length=l at hv;subst hv;refine zk λb1 w1 aj S an a3=>?_;refine zj xo λb2 w2 ak F ao a4=>?_;have e2:=S.trans F;have z:=a3.ext F;rw[z.ldAgg (t:=zw) zY];refine l6Many_spec (Sl.ext L e2) hn V λw3 q=>?_;have e3:=e2.trans q;have z1:=S.size;have z2:=F.size;have z3:=q.size;obtain⟨m,hm⟩:∃m:Int,m=(1+n+gs.length:Nat):=⟨_,rfl⟩;rw[<-hm];refine lit_row (N:=w3.heap.size) (ls:=[]) (xss:=[]) (xs:=[nI 1]) (us:=[1]) rfl (by simp) (RowsR.nil (gu _)) rfl λw4 v4 T ab ac=>?_;refine lits_fin (xs:=[v4]) (xss:=[[1]]) (by simp) rfl (λy s=>by rw[gx.1 s];exact ac) ab λw5 v5 U j=>?_;have z4:=T.size;have z5:=U.size;obtain⟨Q,D,Z,_⟩:=j.own.vals.shape;generalize ([v4].map λx=>[x]).length=O at Z;subst Z;rw[show ∀K:oK,yz zq [(0,nI m),(1,.slice Q O D)] w5 K=K (.agg ⟨[nI m,.slice Q O D]⟩) w5 from λK=>zT QK (us:=[[nI m],[.slice Q O D]]) rfl rfl];refine zj xo λb6 w6 al a7 ap a5=>?_;refine a5.stAgg (cs':=[nI m,.slice Q O D]) rfl zD net_one λw7 ad aq a6=>?_;have E:Ext w5 w7:=Ext.then a7 ad λy s=>by subst s;omega
 have a0:∀b,(Value.slice Q O D).ownBlock=some b->b<w5.heap.size:=λb hb=>j.own.lt hb;have h0:CnfS w3.heap.size b6 w7 m (.slice Q O D) [v4] [[1]]:=
  ⟨a6,j.own.ext E,rfl,((j.rows.weaken (F':=λx=>(Value.slice Q O D).ownBlock≠some x/\x≠b6) λx h1 _ h3=>⟨h1,oM⟩).ext E),λx L=>⟨j.new x L,by have:=a0 x L;omega⟩,oM⟩
 have a2:=T.trans (U.trans E);refine vloop_up gs.length (λi u w'=>u=[nI i]/\Ext w3 w'/\∃lv ls,CnfS w3.heap.size b6 w' m lv ls ([1]::M.gatesC n (gs.take i) 0)) ⟨rfl,a2,_,_,h0⟩ ?_;rintro i _ _ v C hi ⟨rfl,e,lv,ls,A⟩ hC;have d:=(z.ext q).ext e;have r:GatesR Fx v (.slice o l c) gs:=Sl.ext L (e3.trans e);simp(disch:=exact oS) only[push_cast,d.ld0,d.ld1,hlen];refine zb (λa=>?_) (λa=>?_)
 .have k:i<gs.length:=oM;obtain⟨ha,hb⟩:=gpos hg hn k;have a8:=gatesC_take (n:=n) k;have H:(gs.map yl).getD i []=yl gs[i]:=zY0 k;have J:i<(gs.map yl).length:=by rw[Q1];exact k
  generalize gs[i]=g at*;have l0:∀K:oK,zt Y5 (.pointer (some ((eaddr (.slice o l c) 3 i).add 0))) v K=K (.bool g.x) v:=λK=>Sl.ldField r Ys0 J (by rw[H];rfl);have l1:∀K:oK,zt zU (.pointer (some ((eaddr (.slice o l c) 3 i).add 1))) v K=K (nI g.a) v:=λK=>Sl.ldField r Wg J (by rw[H];rfl);have l2:∀K:oK,zt zU (.pointer (some ((eaddr (.slice o l c) 3 i).add 2))) v K=K (nI g.b) v:=λK=>Sl.ldField r Wg J (by rw[H];rfl);simp(disch:=first|(simp only[push_cast])|(simp only[Q1];omega)|omega) only[push_cast,d.ld0,d.ld1,r.iaddr,l0,l1,l2,zl];have hk:(2+(n:Int)+i).natAbs<=100000:=oM;have am:ls.length<=2401:=by
   have h1:=Zg n (gs.take i) 0;have h2:(gs.take i).length=i:=by rw[gl];omega
   rw[A.len,gB];omega
  have ar:=e.size;have W:∀{ys:List (List Int)},M.gateC (2+n+i) g=ys->[1]::M.gatesC n (gs.take i) 0++ys=[1]::M.gatesC n (gs.take (i+1)) 0:=λh=>by rw[a8,<-h];rfl
  have fin:∀{p w10:World} {v9:Value} {ls':List Value} {ys:List (List Int)},Ext v p->Fresh v.heap.size p v9 ls' ys->ls'.length<=4->M.gateC (2+n+i) g=ys->vbi .append [zI,zI] zI [lv,v9] p λt w1=>zW zI (oP b6 1) t w1 λ_ a1=>C [nI ((i:Int)+1)] a1:=λ{p w10 v9 ls' ys} f hf h4 ag=>by
   refine A.add f hf (gu _) oM oM λau ai Y B=>?_;refine hC k _ _ ⟨by simp,Ext.then (e.trans f) Y λy s=>?_,ai,ls++ls',?_⟩
   .rcases s with rfl|s
    .exact A.lo
    .exact(A.new y s).1
   .rw[W ag] at B;exact B
  refine zn (λI=>?_) (λI=>?_)
  .simp(disch:=exact oS) only[push_cast,A.blk.ld1,neg_wrap ha,neg_wrap hb,neg_wrap hk];simp only[gQ];exact gl_xor λp v9 ah f G h4=>fin (w10:=p) f G oM (by unfold M.gateC;rw[k6 I])
  .simp(disch:=exact oS) only[push_cast,A.blk.ld1,neg_wrap ha,neg_wrap hb,neg_wrap hk];simp only[gQ];exact gl_and λp v9 ah f G h4=>fin (w10:=p) f G oM (by unfold M.gateC;rw[y3 (by simp[I])])
 .have a9:i=gs.length:=oM;subst a9;rw[gC] at A;have R:=(a4.ext q).ext e;refine A.out R oM λp ae hO=>?_;have X:Ext w p:=Ext.then (e3.trans e) ae λy s=>by subst s;omega
  rw[hm];refine hK p lv ls X ?_;have h1:=hO.down (M:=w.heap.size) oM;unfold M.netC;have aa:(1+n+gs.length:Int)=m:=by rw[hm];simp
  rw[gG,aa];exact h1
theorem CnfS.of {c:M.Cnf} {K:oK} (h:CnfO N w lv ls c) (n:∀w' b,b=w.heap.size->Ext w w'->CnfS N b w' c.many lv ls c.list->K (oP b 0) w'):
  qo zq w λt4 w1=>zW zq t4 (.agg ⟨[nI c.many,lv]⟩) w1 λ_ w2=>K t4 w2:=by
 obtain⟨o,cc,d,_⟩:=h.lst.vals.shape;generalize (ls.map λx=>[x]).length=l at d;subst d;have t:=h.rows.nle;refine zj xo λb w1 g i q f=>?_;refine f.stAgg (cs':=[nI c.many,.slice o l cc]) rfl zD net_one λw2 k r m=>?_;have a:Ext w w2:=Ext.then i k λy p=>by subst p;omega
 have j:∀x,(Value.slice o l cc).ownBlock=some x->x<w.heap.size:=λx e=>h.lst.lt e;exact n w2 b g a ⟨m,h.lst.ext a,h.len,(h.rows.weaken (F':=λx=>(Value.slice o l cc).ownBlock≠some x/\x≠b) λx f _ s=>⟨f,oM⟩).ext a,λx e=>⟨h.dl x e,by have:=j x e;omega⟩,oM⟩
theorem l8All_spec (l:Jm ds) (q:DclsR Fx w dv ds) (o:TmsR Fy w tv ts) (p:∀w',Ext w w'->K (.bool (KC ds ts)) w'):vcall zc0 #[dv,tv] w K:=by
 refine zf {loops:=[(4,[5])],cuts:=[(8195,[])]} Tryz.func65 ?_;have z:=o.small;have no: ¬(ts.length<=8/\M.declOk ds=true/\∀t,t∈ts->M.tsort ds t=0)->∀w',Ext w w'->K (.bool false) w':=λh w' he=>by
  have:=p w' he;rwa[show KC ds ts=false by rw[GQ];exact λe=>h (all8_iff.1 e)] at this
 refine zp (λu w'=>u=[]/\Ext w w'/\M.declOk ds=true/\ts.length<=8) (λJ y=>?_) ?_
 .refine spec_DeclOk_spec q l λw1 b=>?_;refine oZ ?_;refine zn (λh=>no (λe=>by rw[e.2.1] at h;cases h) _ b) (λh=>?_);simp only[push_cast,(o.ext b).len];refine zb (λr=>no (λe=>by have:=e.1;omega) _ b) (λr=>y _ _ ⟨rfl,b,by simpa using h,oM⟩)
 rintro _ _ w1 ⟨rfl,b,n,s⟩;refine vloop_up ts.length (λi u w'=>u=[nI i]/\Ext w w'/\∀j,j<i->M.tsort ds (ts.getD j default)=0) ⟨rfl,b,λj m=>absurd m oM⟩ ?_;rintro i _ _ w2 C hi ⟨rfl,c,d⟩ v;have g:=o.ext c;simp only[push_cast,g.len];refine zb (λa=>?_) (λa=>?_)
 .have f:i<ts.length:=oM;simp(disch:=exact oS) only[push_cast,g.iaddr];refine g.load zc f λx A=>?_;refine spec_TermSort_spec l (q.ext c) A λw3 k=>?_;refine oZ ?_;refine zb (λh=>no (λe=>h (e.2.2 _ (M.getD_mem f _))) _ (c.trans k)) (λh=>?_);rw[inc64' oM];refine v f _ _ ⟨rfl,c.trans k,λj m=>?_⟩;by_cases e:j<i
  .exact d j e
  .have:j=i:=oM;subst this;exact Gg h
 .have:=p w2 c;rwa[all8_iff.2 ⟨s,n,λt hm=>by
   obtain⟨j,m,rfl⟩:=gr hm;have:=d j oM;rwa[k5,gd m] at this⟩] at this
def XR (rs:List (List Int)):List Int:=rs.map λr=>r.getD 0 0
theorem l8Cnf_spec (ad:KC ds ts=true) (hd:DclsR Fx w dv ds) (ht:TmsR Fy w tv ts)
  (hK:∀w' lv ls,Ext w w'->CnfO w.heap.size w' lv ls (cnfE ds ts).1->K (.tuple #[.agg ⟨[nI (cnfE ds ts).1.many,lv]⟩,.bool (decide ((cnfE ds ts).2=0))]) w'):vcall zb0 #[dv,tv] w K:=by
 refine zf {loops:=[(4,[7,8]),(13,[11])]} Tryz.func83 ?_;obtain⟨h8,E,Y⟩:=all8_iff.1 ad;obtain⟨bn,an⟩:=bits_nat E;have ch:=ht.small;refine zj xo λb4 w1 ca a6 bw aj=>?_;refine sbits8_spec (k:=ds.length) E (gu _) (by rw[gC];exact hd.ext a6) λw2 a7=>?_;rw[M.bitT_all,bn];simp only[push_cast,jp0,ZW0];have e2:=a6.trans a7;refine zj xw λL w3 cc ao ci bl=>?_;have ay:MkR (M.bits ds).toNat (λb=>b=L) w3 [nI ((M.bits ds).toNat:Nat),.slice none 0 0,.bool true] (some []):=⟨none,0,0,rfl,GatesR.nil,by simp⟩;refine bl.stAgg (cs':=[nI ((M.bits ds).toNat:Nat),.slice none 0 0,.bool true]) rfl j0 ay.one λw4 bu cj V=>?_;have bj:Ext w2 w4:=Ext.then ao bu λy v=>by subst v;omega
 have z1:=a6.size;have z2:=a7.size;have z3:=ao.size;refine yg xt xd λb5 w5 cb ap ck bk=>?_;have ah:=bj.trans ap;have e5:=e2.trans ah;have bt:OwnI zi w5 (.slice (some ⟨b5,0,none⟩) 0 0) []:=Blk.own1 (t:=zi) (cs:=[]) (by rw[qK];exact bk) (Gc _) rfl rfl oM;have cm:=V.lt;have bf:∀b,(Value.slice (some ⟨b5,0,none⟩) 0 0).ownBlock=some b->b=b5:=λb q=>(K3 q).symm;have az:MkR (M.bits ds).toNat (λb=>b=L\/(Value.slice (some ⟨b5,0,none⟩) 0 0).ownBlock=some b) w5 [nI ((M.bits ds).toNat:Nat),.slice none 0 0,.bool true] (some []):=⟨none,0,0,rfl,GatesR.nil,by simp⟩;refine vloop_up ts.length (λi u w'=> ∃mv cs st rs,u=[mv,nI i]/\Ext w2 w'/\Blk w' L cs zA/\MkR (M.bits ds).toNat (λb=>b=L\/mv.ownBlock=some b) w' cs st/\M.Bd.Out (M.bits ds).toNat (M.seqB ((ts.take i).map (M.termB ds))) (some []) st rs/\rs.length=i/\OwnI zi w' mv (XR rs)/\∀b,mv.ownBlock=some b->w2.heap.size<=b/\b≠L)
  ⟨_,_,some [],[],rfl,ah,V.ext ap,az,.inl ⟨[],rfl,rfl⟩,rfl,bt,λb q=>by have:=bf b q;omega⟩ ?_
 rintro i _ _ w6 C hi ⟨mv,cs,st,rs,rfl,O,d,H,m,T,S,R⟩ hC;have e6:=e2.trans O;have ba:=ht.ext e6;simp only[push_cast,ba.len];have z26:=O.size;refine zb (λa=>?_) (λa=>?_)
 .have D:i<ts.length:=oM;refine yg xt xd λb7 w7 cd a8 bx am=>?_;refine zd λw8 a9 _=>?_;have s:=a8.trans a9;have cq:=s.size;have bb:=ba.ext s;have ak:=d.ext s;have br:∀{w':World} {cs:List Value},cs.length=3->Blk w' L cs zA->∀K:oK,zt zA (oP L 0) w' K=K (.agg ⟨cs⟩) w':=λh3 h K=>h.ldAgg (t:=zA) (by rw[h3];exact j0);rw[br H.len ak];simp(disch:=exact oS) only[push_cast,bb.iaddr,y4];refine bb.load zc D λx hx=>?_;have hD:∀b,(b=L\/mv.ownBlock=some b)->b<w8.heap.size:=λb q=>q.elim (λe=>by have:=d.lt;omega) λh=>by have:=S.lt h;omega
  obtain⟨af,_,c9⟩:=QU (Y _ (M.getD_mem D default));refine⟨rfl,sdo8_spec E an _ (by rw[af];decide) (H.ext s λb h _=>h) hD (hd.ext (e6.trans s)) hx λw9 a4 bg r zs aq Q bz c7 b1=>?_⟩;have p:=s.trans aq;have z9:=aq.size;have bc:=(out_lens E (by rw[af];decide) b1).1;have bw:zs.length=1:=by rw[bc,af];rfl
  simp only[push_cast,y4,gh];have al:=d.ext p;have bd:=d.lt;refine al.stAgg (cs':=a4) (by rw[Q.len,H.len]) (by rw[Q.len];exact j0) Q.one λw10 n c8 ai=>?_;have J:Ints (New w8) w10 r zs:=bz.same n λb q _ e=>by have:w8.heap.size<=b:=q;omega
  have av:=Q.same n λb q=> .inl q;simp(disch:=exact oS) only[push_cast,y4,gh,J.iaddr,J.load];refine spec_one λbh cn f b0 c5=>?_;have ae:OwnI zi bh mv (XR rs):=((S.ext p).same n λb q e=>(R b q).2 e).ext f;have ax:(XR rs).length=i:=by unfold XR;rw[Q1,T]
  refine ae.app (ys:=[zs.getD 0 0]) xC b0.ints (by simp only[gL];omega) (by simp only[gL];omega) λv12 bi a0 A Z=>?_
  try simp(disch:=omega) only[push_cast,zl]
  have cp:=f.size;have z12:=A.size;have c4:∀b,mv.ownBlock=some b->b<w6.heap.size:=λb q=>S.lt q;have aw:MkR (M.bits ds).toNat (λb=>b=L\/v12.ownBlock=some b) bi a4 bg:=
   (av.ext f λb h _=>h).swap A (λb q=> .inr q) λb q hl=>q.elim .inl λh=>(Z b h).elim .inr λh2=>oM
  refine hC D _ _ ⟨v12,a4,bg,rs++[zs],by simp,?_,((ai.ext f).same A λe=>(R _ e).2 rfl),aw,?_,by rw[V0,T];rfl,?_,λb q=>?_⟩
  .exact Ext.then ((Ext.then (O.trans p) n λy v=>by subst v;omega).trans f) A λy v=>(R y v).1
  .rw[M.take_add D default,gA];exact x20 m b1
  .unfold XR at a0⊢;rw[gA];exact a0
  .rcases Z b q with h|h
   .exact R b h
   .exact⟨oM,λe=>oM⟩
 .have D:i=ts.length:=oM;subst D;rw[gC] at m;have U:=aj.ext (a7.trans O);have cl:=aj.lt;have bd:=d.lt;cases st with
  |none=>
   have bo:cs=[nI 0,.slice none 0 0,.bool false]:=H;subst bo;have bs:M.listB ds ts=none:=by
    rcases m with⟨g,q1,q2⟩|⟨q1,q2,_⟩
    .cases q2
    .exact q1
   have a5:cnfE ds ts=(⟨0,[]⟩,1):=by unfold cnfE;rw[k6 ad,bs]
   simp(disch:=exact oS) only[push_cast,d.ld1,d.ld2,PH];rw[js0];refine U.stAgg (cs':=[nI 0,.slice none 0 0]) rfl zD net_one λw7 bv bx am=>?_;rw[am.lv (t:=zq) zD];have m:Ext w w7:=Ext.then e6 bv λy v=>by subst v;omega
   have:=hK w7 (.slice none 0 0) [] m;rw[a5] at this;exact this (xd0 m.size)
  |some gs=>
   obtain⟨o,l,c,rfl,bp,ce⟩:=H;have a3:M.listB ds ts=some (gs,rs):=by
    rcases m with⟨g,q1,q2⟩|⟨q1,q2,_⟩
    .cases q2;exact q1
    .cases q2
   have a2:=M.list_net E (λt ht=>by rw[(QU (Y t ht)).1];decide) a3;have a5:cnfE ds ts=(M.blastC ds gs rs,0):=by unfold cnfE;rw[k6 ad,a3]
   simp(disch:=exact oS) only[push_cast,d.ld1,d.ld2,Gz];rw[Blk.ldTake (us:=[nI ((M.bits ds).toNat:Nat),.slice o l c]) (r:=[.bool true]) d zY];refine l6Cnf_spec bp a2.net an λw7 lv ls a8 hO=>?_;refine CnfS.of (c:=M.netC (M.bits ds).toNat gs []) hO λw8 b8 c2 a9 hS=>?_;have cg:=Zg (M.bits ds).toNat gs 0;have c3:=a2.net.few;have c6:(M.netC (M.bits ds).toNat gs []).list.length<=2401:=by
    show([1]::(M.gatesC _ gs 0++[])).length<=2401;rw[gG,gB];omega
   have ac:(M.netC (M.bits ds).toNat gs []).many=(M.blastC ds gs rs).many:=rfl;have ab:(M.netC (M.bits ds).toNat gs []).list++M.rootsC rs=(M.blastC ds gs rs).list:=by
    show([1]::(M.gatesC _ gs 0++[]))++M.rootsC rs=[1]::(M.gatesC _ gs 0++M.rootsC rs);rw[gG];rfl
   generalize M.netC (M.bits ds).toNat gs []=c0 at*;have s:=a8.trans a9;have ax:(XR rs).length=ts.length:=by unfold XR;rw[Q1,T]
   refine vloop_up ts.length (λj u w'=>u=[nI j]/\Ext w6 w'/\∃lv ls,CnfS w6.heap.size b8 w' c0.many lv ls (c0.list++M.rootsC (rs.take j))) ⟨rfl,s,lv,ls,by simpa[M.rootsC] using hS⟩ ?_;rintro j _ _ w9 C2 hj ⟨rfl,p,c1,ag,B⟩ bm;have a1:=(S.ext p).ints;simp only[push_cast,a1.len,ax];refine zb (λa=>?_) (λa=>?_)
   .have au:j<rs.length:=oM;have aa:(XR rs).getD j 0=(rs.getD j []).getD 0 0:=by
     unfold XR;rw[M.getD_map (λr:List Int=>r.getD 0 0) au 0 []]
    refine zd λw10 F _=>?_;have z:=B.ext F;have I:=a1.ext F;simp(disch:=exact oS) only[push_cast,z.blk.ld1,I.iaddr,I.load,y4];rw[aa];refine lit_row (N:=w10.heap.size) (ls:=[]) (xss:=[]) (xs:=[nI ((rs.getD j []).getD 0 0)]) (us:=[(rs.getD j []).getD 0 0]) rfl (by simp) (RowsR.nil (gu _)) rfl λbh v11 f b2 b3=>?_;simp(disch:=exact oS) only[push_cast,(z.ext f).blk.ld1,y4,gh];refine lits_fin (xs:=[v11]) (xss:=[[(rs.getD j []).getD 0 0]]) (by simp) rfl (λy v=>by rw[gx.1 v];exact b3) b2 λbi v12 G ar=>?_;simp(disch:=exact oS) only[push_cast,((z.ext f).ext G).blk.ld1,y4,gh];have cf:ag.length<=3000:=by
     rw[B.len,V0];unfold M.rootsC;rw[Q1,gl];omega
    refine z.add (f.trans G) ar (gu _) oM (by simp) λco be b9 X=>?_
    try simp(disch:=omega) only[push_cast,zl]
    have z9:=p.size;refine bm oM _ _ ⟨by simp,Ext.then (p.trans (F.trans (f.trans G))) b9 λy v=>?_,be,ag++[v11],?_⟩
    .rcases v with rfl|v
     .exact B.lo
     .exact(B.new y v).1
    .rw[M.take_add au []];unfold M.rootsC at X⊢;rw[gA,<-Gf];exact X
   .have bq:j=ts.length:=oM;subst bq;rw[<-T,gC,ab] at B;refine B.out (U.ext p) oM λw10 n W=>?_;have m:Ext w w10:=Ext.then (e6.trans p) n λy v=>by subst v;omega
    have:=hK w10 c1 ag m;rw[a5] at this;rw[ac] at W⊢;exact this ((W.down (by have:=e6.size;omega)))
end
end Go.Proofs.YtfjlkobhagjdaaaGreatDoor
namespace Go.Proofs.YtfjlkobhagjdaaaGreatDoor
open Go Go.Vc Go.Proofs Go.M
section
variable {w:World} {K:oK} {F Fr:Nat->Prop}
def Sep (Fr:Nat->Prop) (os:List (Option Nat)):Prop:=os.Pairwise (λa b=>∀x,a=some x->b≠some x)/\∀o,o∈os->∀x,o=some x->¬Fr x
structure TrailR (Fr:Nat->Prop) (w:World) (bt many:Nat) (put:List Int) (ds:List Bool) (vp vpl vl:Value):Prop where
 blk:Blk w bt [vp,vpl,vl] yC
 rp:OwnI zi w vp put
 rpl:OwnI zi w vpl (places many put)
 rl:OwnI zi w vl (levels ds)
 sep:Sep Fr [some bt,vp.ownBlock,vpl.ownBlock,vl.ownBlock]
 len:ds.length=put.length
 dis:Distinct put
 bnd:∀x,x∈put->x≠0/\x.natAbs<=many
 few:many<=700
def kS (bt:Nat) (vp vpl vl:Value) (b:Nat):Prop:=b=bt\/vp.ownBlock=some b\/vpl.ownBlock=some b\/vl.ownBlock=some b
section
variable {bt many:Nat} {put:List Int} {ds:List Bool} {vp vpl vl:Value}
theorem TrailR.same {S:Nat->Prop} {w':World} (h:TrailR Fr w bt many put ds vp vpl vl) (hw:Same S w w') (hs:∀b,kS bt vp vpl vl b->¬S b):TrailR Fr w' bt many put ds vp vpl vl:=
 ⟨h.blk.same hw (hs _ (.inl rfl)),h.rp.same hw λb a=>hs _ (.inr (.inl a)),h.rpl.same hw λb a=>hs _ (.inr (.inr (.inl a))),h.rl.same hw λb a=>hs _ (.inr (.inr (.inr a))),h.sep,h.len,h.dis,h.bnd,h.few⟩
theorem TrailR.ext {w':World} (h:TrailR Fr w bt many put ds vp vpl vl) (hw:Ext w w'):TrailR Fr w' bt many put ds vp vpl vl:=h.same hw λ_ _ h=>h
theorem nodup_le {m:Nat} {xs:List Nat} (b:xs.Nodup) (a:∀x,x∈xs->1<=x/\x<=m):xs.length<=m:=by
 have:=b.length_le_of_subset (l₂:=(List.range' 1 m)) λx c=>by rw[PR];have:=a x c;omega
 simpa using this
theorem TrailR.few' (h:TrailR Fr w bt many put ds vp vpl vl):put.length<=many:=by
 have:=nodup_le (m:=many) h.dis λx a=>by
  obtain⟨y,b,rfl⟩:=gw.1 a;have:=h.bnd y b;omega
 simpa using this
theorem newTrail_spec (hm:many<=700) (i:∀b,Fr b->b<w.heap.size) (p:∀bt vp vpl vl w',Ext w w'->TrailR Fr w' bt many [] [] vp vpl vl->(∀b,kS bt vp vpl vl b->w.heap.size<=b)->K (oP bt 0) w'):
  vcall JY #[nI many] w K:=by
 refine zf {} Tryz.func175 ?_;simp(disch:=omega) only[push_cast,zl];rw[show((many:Int)+1)=((many+1:Nat):Int) from by omega];refine vmkS_own (bs:=8) xC qK xF rfl oM oM λv1 w1 g c f=>?_;refine Qa y70 (us:=[[v1]]) (by simp[g.vals.cells1]) rfl ?_;refine yp λb w2 q d _ n=>?_;have m:OwnI zi w2 v1 (places many []):=by rw[xu0];unfold OwnI;rw[GJ];exact g.ext d
 refine p b (.slice none 0 0) v1 (.slice none 0 0) w2 (c.trans d) ⟨n,OwnI.nil,m,OwnI.nil,⟨?_,?_⟩,rfl,pa,(λx a=>by cases a),hm⟩ ?_
 .have j:∀x,v1.ownBlock=some x->x<b:=λx a=>by have:=g.lt a;omega
  simp[Value.ownBlock];intro e;have:=j b e;omega
 .have k:=c.size;intro o l x a hF;have:=i x hF;simp only[gi,gz,Gh] at l;rcases l with rfl|rfl|rfl|rfl
  .cases a;omega
  .cases a
  .have:=f x a;omega
  .cases a
 .have k:=c.size;rintro x (rfl|h|h|h)
  .omega
  .cases h
  .exact f x h
  .cases h
theorem assigned_spec {l:Int} (h:TrailR Fr w bt many put ds vp vpl vl) (e:l.natAbs<=many) (d:∀w',Ext w w'->K (.bool (decide (placeOf put l.natAbs≠0))) w'):
  vcall ZG #[oP bt 0,nI l] w K:=by
 refine zf {} Tryz.func211 ?_;have g:=h.few;refine zd λw1 a _=>?_;have c:=h.ext a;have b:=c.rpl.ints;have f:=kW many put;simp only[push_cast,c.blk.ld1,y4];refine variable_spec oM oM ?_;simp(disch:=exact oS) only[push_cast,c.blk.ld1,y4,b.iaddr,b.load,gh,places_get e];have:=d w1 a;simpa using this
theorem isTrue_spec {l:Int} (h:TrailR Fr w bt many put ds vp vpl vl) (j:l.natAbs<=many) (g:∀w',Ext w w'->K (.bool (decide (l∈put))) w'):
  vcall YX #[oP bt 0,nI l] w K:=by
 refine zf {} Tryz.func285 ?_;have o:=h.few;refine zd λw1 b _=>?_;refine assigned_spec (h.ext b) j λw2 c=>zb (λa=>?_) (λa=>?_)
 .have d:=h.ext (b.trans c);have k:=d.rp.ints;have f:=d.rpl.ints;have m:=kW many put;have hle:=placeOf_le put l.natAbs;have i:=h.few';simp(disch:=exact oS) only[push_cast,d.blk.ld0,d.blk.ld1,y4];refine variable_spec oM oM ?_;simp(disch:=exact oS) only[push_cast,d.blk.ld0,d.blk.ld1,y4,gh,f.iaddr,f.load,places_get j,zl];obtain⟨q,n⟩:∃q,placeOf put l.natAbs=q+1:=⟨placeOf put l.natAbs-1,oM⟩;rw[n,show(((q+1:Nat):Int)-1)=(q:Int) from by omega];simp(disch:=exact oS) only[push_cast,y4,k.iaddr,k.load];rw[show q=placeOf put l.natAbs-1 from by omega];have:=g w2 (b.trans c);have e:l∈put↔put.getD (placeOf put l.natAbs-1) 0=l:=(mem_iff_place h.dis).trans ⟨λh=>h.2,λh=>⟨a,h⟩⟩;rwa[decide_eq_decide.2 e] at this
 .have:=g w2 (b.trans c);rwa[gg (λhm=>a (placeOf_ne_zero hm))] at this
theorem place_spec {l:Int} (h:TrailR Fr w bt many put ds vp vpl vl) (f:l.natAbs<=many) (e:∀w',Ext w w'->K (nI ((placeOf put l.natAbs:Int)-1)) w'):
  vcall Xz #[oP bt 0,nI l] w K:=by
 refine zf {} Tryz.func286 ?_;have i:=h.few;refine zd λw1 a _=>?_;have c:=h.ext a;have b:=c.rpl.ints;have g:=kW many put;have hle:=placeOf_le put l.natAbs;have d:=h.few';simp only[push_cast,c.blk.ld1,y4];refine variable_spec oM oM ?_;simp(disch:=exact oS) only[push_cast,c.blk.ld1,y4,b.iaddr,b.load,gh,places_get f,zl];exact e w1 a
theorem level_spec {l:Int} (h:TrailR Fr w bt many put ds vp vpl vl) (i:l.natAbs<=many) (m:placeOf put l.natAbs≠0) (g:∀w',Ext w w'->K (nI (lvl ds (placeOf put l.natAbs-1))) w'):
  vcall XA #[oP bt 0,nI l] w K:=by
 refine zf {} Tryz.func247 ?_;have n:=h.few;have e:=h.few';have hlen:=h.len;have hle:=placeOf_le put l.natAbs;refine zd λw1 a _=>?_;have c:=h.ext a;simp only[push_cast,c.blk.ld2,y4];refine place_spec c i λw2 b=>?_;have d:=c.ext b;have f:=d.rl.ints;have k:=Yd ds;obtain⟨q,j⟩:∃q,placeOf put l.natAbs=q+1:=⟨placeOf put l.natAbs-1,oM⟩;rw[j,show(((q+1:Nat):Int)-1)=(q:Int) from by omega];simp(disch:=exact oS) only[push_cast,d.blk.ld2,y4,f.iaddr,f.load,gh];rw[Qx oM,show q=placeOf put l.natAbs-1 from by omega];exact g w2 (a.trans b)
theorem look_spec {v:Value} {c:List Int} {F:Nat->Prop} (h:TrailR Fr w bt many put ds vp vpl vl) (o:Ints F w v c) (r:∀l,l∈c->l.natAbs<=many)
  (q:∀w' b n x,Ext w w'->lookM put c 0 0=(b,n,x)->K (.tuple #[.bool b,nI n,nI x]) w'):
  vcall Qo #[oP bt 0,v] w K:=by
 refine zf {loops:=[(2,[5,6,11])]} Tryz.func244 ?_;simp(disch:=exact oS) only[push_cast,o.len];have hlen:c.length<=9223372036854775807:=by obtain⟨_,_,_,s,A,_⟩:=o.shape;simp at s;omega
 refine vloop_up c.length (λi u w'=> ∃n x,u=[nI (n:Nat),nI x,nI i]/\Ext w w'/\n<=i/\lookM put (c.drop i) n x=lookM put c 0 0) ⟨0,0,rfl,Same.refl _ _,oM,rfl⟩ ?_;rintro i _ g w1 C hi ⟨n,x,rfl,he,B,e⟩ p;refine oZ ?_;refine zb (λz=>?_) (λy=>?_)
 .have k:=o.ext he;simp(disch:=exact oS) only[push_cast,k.iaddr,k.load];have t:=Z0 (d:=0) (show i<c.length by omega);have hm:c.getD i 0∈c:=getD_meS oM;rw[t,Qv] at e;refine isTrue_spec (h.ext he) (r _ hm) λw2 f=>zb (λa=>?_) (λa=>?_)
  .rw[k6 a] at e;exact q w2 true 0 0 (he.trans f) e.symm
  .rw[y3 a] at e;refine assigned_spec (h.ext (he.trans f)) (r _ hm) λw3 j=>?_;refine oZ ?_;refine zn (λb=>?_) (λb=>?_)
   .have m:placeOf put (c.getD i 0).natAbs=0:=(by simpa using b);rw[k6 m] at e;simp(disch:=omega) only[push_cast,zl];exact p oM _ _ ⟨n+1,_,by simp,he.trans (f.trans j),oM,e⟩
   .have m: ¬placeOf put (c.getD i 0).natAbs=0:=(by simpa using b);rw[y3 m] at e;simp(disch:=omega) only[push_cast,zl];exact p oM _ _ ⟨n,_,by simp,he.trans (f.trans j),oM,e⟩
 .rw[Ge oM] at e;exact q w1 false n x he e.symm
end
end
section
variable {w:World} {K:oK} {F Fr:Nat->Prop} {bt many:Nat} {put:List Int} {ds:List Bool} {vp vpl vl:Value}
theorem next_spec {v:Value} {vs:List Value} {lls:List (List (List Int))} (h:TrailR Fr w bt many put ds vp vpl vl) (J:Vals F w v vs) (hn:vs.length=lls.length) (hi:∀i,i<lls.length->Lists F w (vs.getD i undef) (lls.getD i []))
  (hl:∀c,c∈lls.flatten->∀l,l∈c->l.natAbs<=many) (a1:lls.flatten.length<=1000000)
  (M:∀w' k u x,Ext w w'->findM put lls.flatten 0 (-1) 0=(k,u,x)->K (.tuple #[nI k,nI u,nI x]) w'):
  vcall Qn #[oP bt 0,v] w K:=by
 refine zf {loops:=[(4,[4,5,6,7,17]),(7,[4,5,6,7,23])]} Tryz.func207 ?_;simp(disch:=exact oS) only[push_cast,J.len];have hlen:vs.length<=9223372036854775807:=by obtain⟨_,_,_,A,R,_⟩:=J.shape;simp at A;omega
 refine vloop_up vs.length (λi u w'=> ∃(k:Nat) (b x:Int),u=[nI (-1),nI b,nI x,nI k,nI i]/\Ext w w'/\k+(lls.drop i).flatten.length=lls.flatten.length/\findM put (lls.drop i).flatten k b x=findM put lls.flatten 0 (-1) 0) ⟨0,-1,0,rfl,Same.refl _ _,by simp,rfl⟩ ?_;rintro i _ g w1 C Y ⟨k,b,x,rfl,he,O,a⟩ S;refine oZ ?_;refine zb (λa0=>?_) (λX=>?_)
 .have z:=J.ext he;obtain⟨cs,V,q,D⟩:=hi i oM;have s:=q.ext he;simp(disch:=exact oS) only[push_cast,z.iaddr,z.load,s.len];have G:cs.length<=9223372036854775807:=by obtain⟨_,_,_,A,R,_⟩:=q.shape;simp at A;omega
  have W:=Z0 (d:=[]) (show i<lls.length by omega);rw[W,G5] at a O;have t:∀c,c∈lls.getD i []->c∈lls.flatten:=λc U=>List.mem_flatten.2 ⟨_,by rw[k5,gd oM];exact pw _,U⟩;generalize lls.getD i []=L at*;generalize (lls.drop (i+1)).flatten=T at*;rw[V0] at O;refine vloop_up cs.length (λj u w'=> ∃(o:Nat) (b x:Int),u=[nI (-1),nI b,nI x,nI o,nI j]/\Ext w w'/\o=k+j/\findM put (L.drop j++T) o b x=findM put lls.flatten 0 (-1) 0) ⟨k,b,x,rfl,he,oM,a⟩ ?_;rintro j _ g2 w2 C2 hj ⟨o,b,x,rfl,f,Z,a⟩ m;refine oZ ?_;refine zb (λQ=>?_) (λN=>?_)
  .have p:=q.ext f;simp(disch:=exact oS) only[push_cast,p.iaddr,p.load];have hm:L.getD j []∈L:=by rw[k5,gd oM];exact pw _
   rw[Z0 (d:=[]) (show j<L.length by omega),GI,findM_cons] at a;refine look_spec (h.ext f) ((D j oM).ext f) (hl _ (t _ hm)) λw3 b' n y E r=>?_;rw[r] at a;dsimp only at a;simp(disch:=omega) only[push_cast,zl];have e:=f.trans E;refine zn (λB=>?_) (λB=>?_)
   .rw[k6 B] at a;exact m oM _ _ ⟨o+1,_,_,by simp<;>exact⟨rfl,rfl⟩,e,oM,a⟩
   rw[y3 (by simp[B])] at a;refine zb (λH=>?_) (λH=>?_)
   .rw[k6 oM] at a;exact M w3 _ _ _ e a.symm
   rw[y3 oM] at a;refine zb (λI=>?_) (λI=>?_)
   .rw[k6 oM] at a;refine zb (λhu=>?_) (λhu=>?_)
    .rw[k6 hu] at a;exact m oM _ _ ⟨o+1,_,_,by simp<;>exact⟨rfl,rfl⟩,e,oM,a⟩
    .rw[y3 hu] at a;exact m oM _ _ ⟨o+1,_,_,by simp<;>exact⟨rfl,rfl⟩,e,oM,a⟩
   .rw[y3 oM] at a;exact m oM _ _ ⟨o+1,_,_,by simp<;>exact⟨rfl,rfl⟩,e,oM,a⟩
  .rw[Ge (show L.length<=j by omega),Gi] at a;simp(disch:=omega) only[push_cast,zl];exact S oM _ _ ⟨o,_,_,by simp<;>exact⟨rfl,rfl⟩,f,oM,a⟩
 .rw[Ge oM] at a;exact M w1 _ _ _ he a.symm
theorem sep4 {a b c d:Option Nat}:Sep Fr [a,b,c,d]↔((∀x,a=some x->b≠some x)/\(∀x,a=some x->c≠some x)/\(∀x,a=some x->d≠some x)/\(∀x,b=some x->c≠some x)/\(∀x,b=some x->d≠some x)/\(∀x,c=some x->d≠some x))/\
  (∀x,a=some x->¬Fr x)/\(∀x,b=some x->¬Fr x)/\(∀x,c=some x->¬Fr x)/\(∀x,d=some x->¬Fr x):=by
 unfold Sep;simp only[pX,gi,gz,Gh,forall_eq_or_imp,forall_eq];constructor
 .rintro⟨⟨⟨e,a2,a3⟩,⟨b1,b2⟩,c1,-⟩,f1,f2,f3,f4⟩;exact⟨⟨e,a2,a3,b1,b2,c1⟩,f1,f2,f3,f4⟩
 .rintro⟨⟨e,a2,a3,b1,b2,c1⟩,f1,f2,f3,f4⟩;exact⟨⟨⟨e,a2,a3⟩,⟨b1,b2⟩,c1,λ_ h=>h.elim,List.Pairwise.nil⟩,f1,f2,f3,f4⟩
theorem push_spec {l:Int} {d:Bool} (h:TrailR Fr w bt many put ds vp vpl vl) (a9:l≠0) (hl:l.natAbs<=many) (s:placeOf put l.natAbs=0) (a8:∀b,Fr b->b<w.heap.size)
  (hK:∀i k w',TrailR Fr w' bt many (put++[l]) (ds++[d]) i vpl k->Same (kS bt vp vpl vl) w w'->(∀b,kS bt i vpl k b->kS bt vp vpl vl b\/w.heap.size<=b)->K (.tuple #[]) w'):
  vcall Qm #[oP bt 0,nI l,.bool d] w K:=by
 refine zf {cuts:=[(8195,[6]),(16389,[6])]} Tryz.func250 ?_;have hf:=h.few;have ai:=h.few';have hlen:=h.len;have ah:=Yd ds;have hc:=pQ (l:=ds) (a:=true);refine zp (λu w'=>u=[nI (ds.count true)]/\Ext w w') ?_ ?_
 .intro C V;have hv:=h.rl.ints;simp(disch:=exact oS) only[push_cast,h.blk.ld2,hv.len];refine zb (λa=>zd λw1 n _=>?_) (λa=>V _ _ ⟨?_,Same.refl _ _⟩)
  .have T:=h.ext n;have O:=T.rl.ints;obtain⟨q,hq⟩:∃q,ds.length=q+1:=⟨ds.length-1,oM⟩;simp(disch:=exact oS) only[push_cast,T.blk.ld2,O.len,y4];rw[ah,hq,show(((q+1:Nat):Int)-1)=(q:Int) from by omega];simp(disch:=exact oS) only[push_cast,zl,O.iaddr,O.load,y4];refine V _ _ ⟨?_,n⟩;rw[Qx oM,qQ0 oM]
  .have:ds=[]:=gH oM;subst this;rfl
 rintro _ g w1 ⟨rfl,n⟩;refine zp (λu w'=>u=[nI ((ds.count true+d.toNat:Nat):Int)]/\w'=w1) ?_ ?_
 .intro C V;cases d
  .exact V _ _ ⟨rfl,rfl⟩
  .simp(disch:=omega) only[push_cast,zl];exact V _ _ ⟨rfl,rfl⟩
 rintro _ g2 _ ⟨rfl,rfl⟩;have T:=h.ext n;have aj:=n.size;simp(disch:=exact oS) only[push_cast,T.blk.ld0];obtain⟨⟨s1,s2,s3,s4,s5,s6⟩,f1,f2,f3,f4⟩:=sep4.1 h.sep;refine zC xt xd xF rfl rfl λb1 w2 aq L av a2=>?_;have h2:=T.ext L;refine h2.rp.app1 xC a2 oM oM λi w3 B y ad=>?_;have a3:Blk w3 bt [vp,vpl,vl] yC:=h2.blk.same y λe=>s1 bt rfl e;refine a3.st B.ints.cells1 B.ints.one ja rfl λQ D aw a4=>?_;have F:Blk Q bt [i,vpl,vl] yC:=a4;simp(disch:=exact oS) only[push_cast,F.ld2];have ak:=L.size;have al:=y.size;have m:∀x,i.ownBlock=some x->vp.ownBlock=some x\/w.heap.size<=x:=λx c=>(ad x c).imp id λh=>oM
 have l1:=h.blk.lt;have j:∀x,kS bt vp vpl vl x->x<w.heap.size:=by
  rintro x (rfl|e|e|e)
  .exact l1
  .exact h.rp.lt e
  .exact h.rpl.lt e
  .exact h.rl.lt e
 have aa:OwnI zi Q vl (levels ds):=(h2.rl.same y λx c e=>s5 x e c).same D λx c e=>s3 x (by rw[e]) c;have Y:OwnI zi Q vpl (places many put):=(h2.rpl.same y λx c e=>s4 x e c).same D λx c e=>s2 x (by rw[e]) c;have af:OwnI zi Q i (put++[l]):=B.same D λx c e=>by
  rcases m x c with f|f
  .exact s1 x (by rw[e]) f
  .have:=j bt (.inl rfl);omega
 refine zC xt xd xF rfl rfl λb2 w5 ar o ax a5=>?_;refine(aa.ext o).app1 xC a5 oM oM λk w6 M z ae=>?_;have a6:Blk w6 bt [i,vpl,vl] yC:=(F.ext o).same z λe=>s3 bt rfl e;refine a6.st M.ints.cells1 M.ints.one ja rfl λR A ay a7=>?_;have U:Blk R bt [i,vpl,k] yC:=a7;have am:=o.size;have an:=z.size;have t:∀x,k.ownBlock=some x->vl.ownBlock=some x\/w3.heap.size<=x:=λx c=>(ae x c).imp id λh=>oM
 have H:∀x,k.ownBlock=some x->vl.ownBlock=some x\/w.heap.size<=x:=λx c=>(t x c).imp id λh=>oM
 have ag:OwnI zi R i (put++[l]):=((af.ext o).same z λx c e=>by
  rcases m x c with f|f
  .exact s5 x f e
  .have:=j x (.inr (.inr (.inr e)));omega).same A λx c e=>by
  rcases m x c with f|f
  .exact s1 x (by rw[e]) f
  .have:=j bt (.inl rfl);omega
 have Z:OwnI zi R vpl (places many put):=((Y.ext o).same z λx c e=>s6 x c e).same A λx c e=>s2 x (by rw[e]) c;have ab:OwnI zi R k (levels (ds++[d])):=by
  rw[levels_snoc];refine M.same A λx c e=>?_;rcases t x c with f|f
  .exact s3 x (by rw[e]) f
  .have:=j bt (.inl rfl);omega
 refine zd λw8 p _=>?_;have r:=U.ext p;have W:=ag.ext p;have J:=Z.ext p;have ac:=ab.ext p;have X:=W.ints;have a1:=J.ints;have au:=kW many put;simp(disch:=exact oS) only[push_cast,r.ld0,r.ld1,X.len,y4];refine variable_spec oM oM ?_;simp(disch:=exact oS) only[push_cast,r.ld0,r.ld1,X.len,a1.iaddr,y4,gh];refine J.st xd oM λw9 a0 E az=>?_;have N:OwnI zi w9 vpl (places many (put++[l])):=by
  rw[places_snoc s];simpa using a0
 have I:∀x,i.ownBlock=some x->vpl.ownBlock≠some x:=λx c e=>by
  rcases m x c with f|f
  .exact s4 x f e
  .have:=j x (.inr (.inr (.inl e)));omega
 have v:∀x,vpl.ownBlock=some x->k.ownBlock≠some x:=λx c e=>by
  rcases t x e with f|f
  .exact s6 x c f
  .have:=j x (.inr (.inr (.inl c)));omega
 have ao:=A.size;have ap:=p.size;have G:∀x,w.heap.size<=x->¬Fr x:=λx c hF=>by have:=a8 x hF;omega
 refine hK i k w9 ⟨r.same E λe=>s2 bt rfl e,W.same E I,N,ac.same E λx c e=>v x e c,?_,by simp[hlen],distinct_snoc h.dis s,?_,h.few⟩ ?_ ?_
 .rw[sep4];refine⟨⟨?_,s2,?_,I,?_,v⟩,f1,?_,f3,?_⟩
  .rintro x e S;cases e;rcases m _ S with f|f
   .exact s1 _ rfl f
   .have:=j _ (.inl rfl);omega
  .rintro x e S;cases e;rcases t _ S with f|f
   .exact s3 _ rfl f
   .have:=j _ (.inl rfl);omega
  .intro x e S;have c:=B.lt e;rcases t x S with e3|e3
   .rcases m x e with f|f
    .exact s5 x f e3
    .have:=j x (.inr (.inr (.inr e3)));omega
   .omega
  .intro x e;rcases m x e with f|f
   .exact f2 x f
   .exact G x f
  .intro x e;rcases H x e with f|f
   .exact f4 x f
   .exact G x f
 .intro x c;rw[gn,gx] at c;rcases c with c|rfl
  .exact h.bnd x c
  .exact⟨a9,hl⟩
 .have S0:Same (kS bt vp vpl vl) w w2:=Same.of_ext (n.trans L);have S3:Same (kS bt vp vpl vl) w2 w3:=y.mono λx _ e=> .inr (.inl e);have S4:Same (kS bt vp vpl vl) w3 Q:=D.mono λx _ e=> .inl e;have S5:Same (kS bt vp vpl vl) Q w5:=Same.of_ext o;have S6:Same (kS bt vp vpl vl) w5 w6:=z.mono λx _ e=> .inr (.inr (.inr e));have S7:Same (kS bt vp vpl vl) w6 R:=A.mono λx _ e=> .inl e;have S8:Same (kS bt vp vpl vl) R w8:=Same.of_ext p;have S9:Same (kS bt vp vpl vl) w8 w9:=E.mono λx _ e=> .inr (.inr (.inl e));exact S0.trans (S3.trans (S4.trans (S5.trans (S6.trans (S7.trans (S8.trans S9))))))
 .rintro x (e|e|e|e)
  .exact .inl (.inl e)
  .exact(m x e).imp (λe=> .inr (.inl e)) id
  .exact .inl (.inr (.inr (.inl e)))
  .exact(H x e).imp (λe=> .inr (.inr (.inr e))) id
end
theorem JC {α:Type} {xs:List α} {d:α} {i:Nat} (h:i<xs.length):xs.take (i+1)=xs.take i++[xs.getD i d]:=by
 rw[G7];simp[k5,h]
end Go.Proofs.YtfjlkobhagjdaaaGreatDoor
namespace Go.Proofs.YtfjlkobhagjdaaaGreatDoor
open Go Go.Vc Go.Proofs
section
variable {w:World} {K:oK}
theorem unit_mem {put cl:List Int} {x:Int} (h:M.unitC put cl x):x∈cl/\M.placeOf put x.natAbs=0:=by
 have:x∈cl.filter λl=>decide (M.placeOf put l.natAbs=0):=by rw[h.2];exact gx.2 rfl
 rw[Pu,X0] at this;exact this
theorem cnf_new {N:Nat} {lv:Value} {ls:List Value} {c:M.Cnf} {K:oK} (h:CnfO N w lv ls c) (j:∀w' b,w.heap.size<=b->Ext w w'->Blk w' b [nI c.many,lv] zq->CnfO N w' lv ls c->K (oP b 0) w'):
  qo zq w λt4 w1=>zW zq t4 (.agg ⟨[nI c.many,lv]⟩) w1 λ_ w2=>K t4 w2:=by
 obtain⟨o,cc,d,_⟩:=h.lst.vals.shape;generalize (ls.map λx=>[x]).length=l at d;subst d;refine zj xo λb w1 k e m g=>?_;refine g.stAgg (cs':=[nI c.many,.slice o l cc]) rfl zD net_one λw2 f p i=>?_;have a:Ext w w2:=Ext.then e f λy n=>by subst n;omega
 exact j w2 b oM a i (h.ext a)
theorem push_int {pv:Value} {xs:List Int} {x:Int} (h:OwnI zi w pv xs) (n:xs.length<=100000) (i:∀w' c,Same (λb=>pv.ownBlock=some b) w w'->OwnI zi w' c (xs++[x])->(∀b,c.ownBlock=some b->pv.ownBlock=some b\/w.heap.size<=b)->K c w'):
  vbuildS zi 1 [(0,nI x)] w λs w1=>vbi .append [zi,zi] zi [pv,s] w1 K:=by
 refine xG xt xd xF rfl rfl dC λb3 w3 k a l d=>?_;refine OwnI.app1 (h.ext a) xC d oM oM λv4 m f g e=>?_;refine i m v4 ((Same.of_ext a).trans g) f λb j=>?_;rcases e b j with h|h
 .exact .inl h
 .exact .inr (by have:=a.size;omega)
end
end Go.Proofs.YtfjlkobhagjdaaaGreatDoor
namespace Go.Vc
open Go
section
variable {t:TypeId} {w:World} {v:Value} {vs:List Value} {F:Nat->Prop}
theorem Vals.part (h:Vals F w v vs) (j:vs≠[]) (m:elB t 1=true) {n:Nat} (q:n<=vs.length):∃v1,(∀(kd:IntKind) (w':World) (K:oK),xr t v none (some (.int kd n)) none w' K=K v1 w')/\Vals F w v1 (vs.take n):=by
 obtain⟨hu,hs⟩:=YN m;obtain⟨a,c,rfl,l,g,d⟩:=h.shape;obtain⟨b,o,rfl,hF,k,f⟩:=d (by simpa using j);rw[Q1] at l f;refine⟨.slice (some ⟨b,o,none⟩) n c,λkd w' K=>y9 ?_,⟨some ⟨b,o,none⟩,c,?_,?_,g,λ_=>⟨b,o,rfl,hF,k,λi hi=>?_⟩⟩,λx p=>by obtain⟨u,_,rfl⟩:=gw.1 p;rfl⟩
 .rw[run_sliceAt_slice w' t _ _ _ _ hu,run_slice_h w' t _ _ _ hu kd n oM oM,run_sizeOf hs];simp[Result.andThen,sliced];exact λ_=>rfl
 .simp;omega
 .simp;omega
 .simp only[Q1,gl] at hi;have:=f i oM;have e:(List.map (λx=>[x]) (vs.take n)).getD i []=(List.map (λx=>[x]) vs).getD i []:=by
   simp[k5,List.getElem?_take,show i<n by omega]
  rw[e];exact this
theorem Vals.rest (h:Vals F w v vs) (j:vs≠[]) (r:elB t 1=true) {n:Nat} (y:n<=vs.length):∃v1,(∀(kd:IntKind) (w':World) (K:oK),xr t v (some (.int kd n)) none none w' K=K v1 w')/\Vals F w v1 (vs.drop n):=by
 obtain⟨hu,hs⟩:=YN r;obtain⟨a,c,rfl,m,p,d⟩:=h.shape;obtain⟨b,o,rfl,hF,l,f⟩:=d (by simpa using j);rw[Q1] at m f;refine⟨sliced (some ⟨b,o,none⟩) n vs.length c 1,λkd w' K=>y9 ?_,?_⟩
 .rw[run_sliceAt_slice w' t _ _ _ _ hu,run_slice_l w' t _ _ _ hu kd n oM (by simp;omega),run_sizeOf hs];simp[Result.andThen]
 .refine⟨⟨_,c-n,rfl|>λ(_:True=True)=>by simp[sliced];rfl,by simp;omega,oM,λg=>?_⟩,λx s=>by obtain⟨u,_,rfl⟩:=gw.1 s;rfl⟩;have q:n<vs.length:=by
   refine Nat.lt_of_not_le λk=>g ?_;rw[Pb k];rfl
  rw[y3 oM];refine⟨b,o+n,by simp[yB],hF,l,λi hi=>?_⟩;simp only[Q1,GY] at hi;have:=f (n+i) oM;have e:(List.map (λx=>[x]) (vs.drop n)).getD i []=(List.map (λx=>[x]) vs).getD (n+i) []:=by
   simp[k5,pZ]
  rw[e,show o+n+i*1=o+(n+i)*1 by omega];exact this
end
end Go.Vc
end
