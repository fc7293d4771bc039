import Derived.Test.YtfnpmncplaibiaaGreatDoorWqdP9
/- A part of the proof. -/
set_option linter.all false
set_option maxRecDepth 9999
set_option maxHeartbeats 2000000
noncomputable section
namespace Go.Proofs.YtfnpmncplaibiaaGreatDoor
open Go Go.Vc Go.Proofs
section
variable {w:World} {K:oK} {F D G:oA}
abbrev ptr (b:Nat):Value:= oP b 0
def Qe (t3:Value) (w:World) (J:List Value->World->Prop):Prop:=
 ZB w λw_12=>
 zy za t3 4 w_12 λt13 w_13=>w_13=w_12/\
 zu zl t13 w_12 λt14 w_14=>w_14=w_12/\
 y6 zl t14 (nI 0) w_12 λt15 w_15=>w_15=w_12/\
 zu za t15 w_12 λt16 w_16=>w_16=w_12/\
 zy za t3 4 w_12 λt17 w_17=>w_17=w_12/\
 zu zl t17 w_12 λt18 w_18=>w_18=w_12/\
 y6 zl t18 (nI 1) w_12 λt19 w_19=>w_19=w_12/\
 zu za t19 w_12 λt20 w_20=>w_20=w_12/\
 (qt za w_12 λt6 w_21=>(zu za t19 w_21 λv x=>v=t20/\x=w_21)/\(y6 zl t18 (nI 1) w_21 λv x=>v=t19/\x=w_21)/\(zu zl t17 w_21 λv x=>v=t18/\x=w_21)/\(zy za t3 4 w_21 λv x=>v=t17/\x=w_21)/\(zu za t15 w_21 λv x=>v=t16/\x=w_21)/\(y6 zl t14 (nI 0) w_21 λv x=>v=t15/\x=w_21)/\(zu zl t13 w_21 λv x=>v=t14/\x=w_21)/\(zy za t3 4 w_21 λv x=>v=t13/\x=w_21)/\
 (qt za w_21 λt7 w_22=>(zu za t19 w_22 λv x=>v=t20/\x=w_22)/\(y6 zl t18 (nI 1) w_22 λv x=>v=t19/\x=w_22)/\(zu zl t17 w_22 λv x=>v=t18/\x=w_22)/\(zy za t3 4 w_22 λv x=>v=t17/\x=w_22)/\(zu za t15 w_22 λv x=>v=t16/\x=w_22)/\(y6 zl t14 (nI 0) w_22 λv x=>v=t15/\x=w_22)/\(zu zl t13 w_22 λv x=>v=t14/\x=w_22)/\(zy za t3 4 w_22 λv x=>v=t13/\x=w_22)/\
 (zT za t6 t16 w_22 λ_ w_23=>(zu za t19 w_23 λv x=>v=t20/\x=w_23)/\(y6 zl t18 (nI 1) w_23 λv x=>v=t19/\x=w_23)/\(zu zl t17 w_23 λv x=>v=t18/\x=w_23)/\(zy za t3 4 w_23 λv x=>v=t17/\x=w_23)/\
 (zT za t7 t20 w_23 λ_ w_24=>
 J [t6,t7] w_24)/\
 True)/\
 True)/\
 True)/\
 (qt za w_12 λt7_1 w_25=>(zu za t19 w_25 λv x=>v=t20/\x=w_25)/\(y6 zl t18 (nI 1) w_25 λv x=>v=t19/\x=w_25)/\(zu zl t17 w_25 λv x=>v=t18/\x=w_25)/\(zy za t3 4 w_25 λv x=>v=t17/\x=w_25)/\(zu za t15 w_25 λv x=>v=t16/\x=w_25)/\(y6 zl t14 (nI 0) w_25 λv x=>v=t15/\x=w_25)/\(zu zl t13 w_25 λv x=>v=t14/\x=w_25)/\(zy za t3 4 w_25 λv x=>v=t13/\x=w_25)/\
 (qt za w_25 λt6_1 w_26=>(zu za t19 w_26 λv x=>v=t20/\x=w_26)/\(y6 zl t18 (nI 1) w_26 λv x=>v=t19/\x=w_26)/\(zu zl t17 w_26 λv x=>v=t18/\x=w_26)/\(zy za t3 4 w_26 λv x=>v=t17/\x=w_26)/\(zu za t15 w_26 λv x=>v=t16/\x=w_26)/\(y6 zl t14 (nI 0) w_26 λv x=>v=t15/\x=w_26)/\(zu zl t13 w_26 λv x=>v=t14/\x=w_26)/\(zy za t3 4 w_26 λv x=>v=t13/\x=w_26)/\
 (zT za t6_1 t16 w_26 λ_ w_27=>(zu za t19 w_27 λv x=>v=t20/\x=w_27)/\(y6 zl t18 (nI 1) w_27 λv x=>v=t19/\x=w_27)/\(zu zl t17 w_27 λv x=>v=t18/\x=w_27)/\(zy za t3 4 w_27 λv x=>v=t17/\x=w_27)/\
 (zT za t7_1 t20 w_27 λ_ w_28=>
 J [t6_1,t7_1] w_28)/\
 True)/\
 True)/\
 True)/\
 True
theorem pairReg_ok {b3:Nat} {p:oA} {kv:Value} {t:M.Tm} {J:List Value->World->Prop} (q:Blk w b3 [nI t.op,nI t.a,nI t.b,.string t.s,kv] za) (N:TmsR p w kv t.ks) (o:2<=t.ks.length)
  (K:∀w' b I c c',Ext w w'->Blk w' b c za->TmR p w' c (M.kid t 0)->Blk w' I c' za->TmR p w' c' (M.kid t 1)->J [ptr b,ptr I] w'):Qe (ptr b3) w J:=by
 unfold Qe;refine zd λw1 h _=>?_;obtain⟨css,hs,Q,L⟩:=N.ext h;have l:=q.ext h;have O:=h.size;simp(disch:=exact oS) only[push_cast,l.ld4,hs.iaddr,hs.ldAgg,y1];have c0:=L 0 oM;have c1:=L 1 oM;refine⟨?_,?_,trivial⟩
 .refine zi zq λb2 w2 x f A o=>?_;have s2:=hs.ext f;have m:=l.ext f;simp(disch:=exact oS) only[push_cast,m.ld4,s2.iaddr,s2.ldAgg,y1,V1];refine⟨?_,trivial⟩;refine zi zq λb3 P z d B r=>?_;have s3:=s2.ext d;have E:=m.ext d;simp(disch:=exact oS) only[push_cast,E.ld4,s3.iaddr,s3.ldAgg,y1,V1];refine⟨?_,trivial⟩;refine stTerm (o.ext d) rfl (c0.ext (f.trans d)) λG i C u=>?_;have e:Ext w1 G:=Ext.then (f.trans d) i λy k=>by subst k;omega
  have n:=hs.ext e;have F:=l.ext e;simp(disch:=exact oS) only[push_cast,F.ld4,n.iaddr,n.ldAgg,y1,V1];refine⟨?_,trivial⟩;refine stTerm (r.same i oM) rfl (c1.ext e) λH j D v=>?_;have g:Ext w1 H:=Ext.then e j λy k=>by subst k;omega
  exact K _ _ _ _ _ (h.trans g) (u.same j oM) (c0.ext g) v (c1.ext g)
 .refine zi zq λb2 w2 x f A o=>?_;have s2:=hs.ext f;have m:=l.ext f;simp(disch:=exact oS) only[push_cast,m.ld4,s2.iaddr,s2.ldAgg,y1,V1];refine⟨?_,trivial⟩;refine zi zq λb3 P z d B r=>?_;have s3:=s2.ext d;have E:=m.ext d;simp(disch:=exact oS) only[push_cast,E.ld4,s3.iaddr,s3.ldAgg,y1,V1];refine⟨?_,trivial⟩;refine stTerm r rfl (c0.ext (f.trans d)) λG i C u=>?_;have e:Ext w1 G:=Ext.then (f.trans d) i λy k=>by subst k;omega
  have n:=hs.ext e;have F:=l.ext e;simp(disch:=exact oS) only[push_cast,F.ld4,n.iaddr,n.ldAgg,y1,V1];refine⟨?_,trivial⟩;refine stTerm ((o.ext d).same i oM) rfl (c1.ext e) λH j D v=>?_;have g:Ext w1 H:=Ext.then e j λy k=>by subst k;omega
  exact K _ _ _ _ _ (h.trans g) (u.same j oM) (c0.ext g) v (c1.ext g)
structure RS (G:oA) (w0 w:World) (b2 b3 b4:Nat) (dv kv:Value) (mb:Nat) (ds:List M.Dcl) (t:M.Tm):Prop where
 ext:Ext w0 w
 f:Blk w b2 [dv,.map (some mb)] ye
 q:Blk w b3 [nI t.op,nI t.a,nI t.b,.string t.s,kv] za
 r:Blk w b4 zj0 za
 k:TmsR (λx=>G x/\x<w0.heap.size) w kv t.ks
 d:DclsR (λx=>x<w0.heap.size) w dv ds
 m:KindsR w mb
 lo:w0.heap.size<=b4
section
variable {w0 w':World} {b2 b3 b4 mb:Nat} {dv kv:Value} {ds:List M.Dcl} {t:M.Tm}
theorem zZ (h:RS G w0 w b2 b3 b4 dv kv mb ds t) (he:Ext w w'):RS G w0 w' b2 b3 b4 dv kv mb ds t:=
 ⟨h.ext.trans he,h.f.ext he,h.q.ext he,h.r.ext he,h.k.ext he,h.d.ext he,h.m.ext he,h.lo⟩
abbrev qP (dv:Value) (mb:Nat):Value:= .agg ⟨[dv,.map (some mb)]⟩
theorem rs_enter {tv:Value} {B:Value->Value->oK} (s:DclsR F w dv ds) (hm:KindsR w mb) (y:TermR G w tv t) (o:∀w' b2 b3 b4 kv,RS G w w' b2 b3 b4 dv kv mb ds t->B (ptr b2) (ptr b3) (ptr b4) w'):
  yF0 ye (qP dv mb) w λt2 g=>yF0 za tv g λt3 i=>qt za i λt4 j=>B t2 t3 t4 j:=by
 obtain⟨kv,rfl,f⟩:=y;refine zj λb1 w1 p e u l=>?_;refine zj λb2 w2 q c v m=>?_;refine zi zq λb3 z r a x n=>?_;have d:=e.trans (c.trans a);exact o _ _ _ _ kv ⟨d,(l.ext c).ext a,m.ext a,n,(f.weaken λb h k=>⟨h,k⟩).ext d,(s.weaken λb _ h=>h).ext d,hm.ext d,oM⟩
abbrev KP (K:oK) (w:World) (G:oA) (o:Option M.Tm):Prop:=∀w' rv u,Ext w w'->TermR (λx=>G x\/w.heap.size<=x) w' rv u->(∀x,o=some x->u=x)->K (.tuple #[rv,.bool o.isSome]) w'
theorem yu (h:RS G w0 w b2 b3 b4 dv kv mb ds t) {rv:Value} {u:M.Tm} {b:Bool} (hu:TermR (λx=>(G x\/w0.heap.size<=x)/\x≠b4) w rv u) (g:∀w' a,Ext w0 w'->TermR (λx=>G x\/w0.heap.size<=x) w' a u->K (.tuple #[a,.bool b]) w'):
  zT za (ptr b4) rv w λ_ w1=>vlv za (ptr b4) w1 λr w2=>K (.tuple #[r,.bool b]) w2:=by
 obtain⟨cs,rfl,c⟩:=hu.cells;refine qr (K:=λr w=>K (.tuple #[r,.bool b]) w) h.r rfl c (λx f=>f.2) λk e j d=>?_;exact g _ _ (Ext.then h.ext e λy i=>by subst i;exact h.lo) (d.weaken λx f _=>f.1)
theorem rs_kid (h:RS G w0 w b2 b3 b4 dv kv mb ds t) {rv:Value} {u:M.Tm} (hu:TermR (λx=>G x/\x<w0.heap.size) w' rv u):TermR (λx=>(G x\/w0.heap.size<=x)/\x≠b4) w' rv u:=hu.weaken λx a _=>⟨.inl a.1,by have:=h.lo;omega⟩
theorem rs_new (h:RS G w0 w b2 b3 b4 dv kv mb ds t) (he:Ext w w') {rv:Value} {u:M.Tm} (hu:TermR (λx=>w.heap.size<=x) w' rv u):TermR (λx=>(G x\/w0.heap.size<=x)/\x≠b4) w' rv u:=hu.weaken λx a _=>⟨.inr (by have:=h.ext.size;omega),by have:=h.r.lt;omega⟩
theorem Za:TermR F w (.agg ⟨zj0⟩) (.mk 0 0 0 M.nada []):=(yb0 0 0 0 _:TmR F w _ _).term
end
theorem jw {dv tv:Value} {mb:Nat} {ds:List M.Dcl} {t:M.Tm} (m:DclsR F w dv ds) (hm:KindsR w mb) (f:M.declOk ds=true) (p:TermR G w tv t) (j:∀w',Ext w w'->K (nI (M.sortM ds t)) w'):vcall XE #[qP dv mb,tv] w K:=by
 refine ze {} Tryz.func355 ?_;obtain⟨cs,rfl,a⟩:=p.cells;refine zj λb1 w1 k d n h=>?_;refine zj λb2 w2 l b o i=>?_;have g:=h.ext b;have c:=d.trans b;simp only[push_cast,g.ld0,g.ld1];rw[i.ldAgg (t:=za) (by rw[zU a];exact zc)];refine sortOf_spec t (hm.ext c) (m.ext c) f (a.ext c).term λq e=>?_;exact j _ (c.trans e)
theorem nn_fixed {t:M.Tm} {n:Int} (h:M.fixedM t=some n):nnB t=true:=by
 rcases M.fixed_cases h with⟨rfl,_⟩|⟨rfl,_⟩|⟨c,b,_⟩
 .rfl
 .rfl
 .exact nnB_iff.2 ⟨oM,λk a=>by rw[b] at a;cases a⟩
theorem fixed_spec {dv tv:Value} {mb:Nat} {ds:List M.Dcl} {t:M.Tm} (hd:DclsR F w dv ds) (hm:KindsR w mb) (H:M.declOk ds=true) (ht:TermR G w tv t) (hs:M.sortM ds t≠ -1) (J:KP K w G (M.ruleX ds t)):vcall k7 #[qP dv mb,tv] w K:=by
 refine ze {cuts:=[(8195,[])]} Tryz.func333 ?_;have Z:TermR G w tv t:=ht;refine rs_enter (B:=λt2 t3 t4 a3=>_) hd hm ht λw1 b2 b3 b4 kv rs=>?_;have no:∀w',RS G w w' b2 b3 b4 dv kv mb ds t->M.allFixed t=false->zT za (ptr b4) (.agg ⟨zj0⟩) w' λ_ w1=>vlv za (ptr b4) w1 λr w2=>K (.tuple #[r,.bool false]) w2:=λw' Y h=>by
  have e:M.ruleX ds t=none:=by unfold M.ruleX;rw[h];rfl
  rw[e] at J;exact yu Y Za λw2 rv Q V=>J w2 rv _ Q V λx I=>by cases I
 refine zo (λu w'=>u=[]/\Ext w1 w'/\M.allFixed t=true) (λC hC=>?_) ?_
 .simp only[push_cast,rs.q.ld4,rs.k.len];refine zb (λa=>?_) (λa=>?_)
  .exact no _ rs (by unfold M.allFixed;rw[gj (λh=>h (nil_len.1 a))];rfl)
  .try simp only[push_cast,rs.q.ld4]
   refine ze {} Tryz.func85 ?_;refine ze {loops:=[(2,[8])]} Tryz.func124 ?_;have a2:=rs.k.small;simp only[push_cast,rs.k.len];refine vloop_up t.ks.length (λi u w'=>u=[nI i]/\Ext w1 w'/\∀j,j<i->(M.fixedM (t.ks.getD j default)).isSome=true) ⟨rfl,Same.refl _ _,λj L=>absurd L oM⟩ ?_;rintro i _ _ w3 C hi ⟨rfl,p,o⟩ O;have z:=zZ rs p;refine oZ ?_;refine zb (λb=>?_) (λb=>?_)
   .have E:=z.k;simp(disch:=exact oS) only[push_cast,E.iaddr];refine E.load zc oM λx I=>?_;simp only[push_cast,gE,Gg];refine ze {} Tryz.func352 ?_;obtain⟨cx,rfl,D⟩:=I.cells;refine zj λb5 w5 a0 v a1 h5=>?_;rw[h5.ldAgg (t:=za) (by rw[zU D];exact zc)];refine YN (D.ext v).term λw6 y=>?_;refine oZ ?_;have X:=zZ z (v.trans y);refine zn (λc=>?_) (λc=>?_)
    .try simp only[push_cast]
     rw[gu oM];refine no _ X ?_;rw[gV] at c;unfold M.allFixed;rw[pg];right;rw[List.all_eq_false];exact⟨_,M.getD_mem (l:=t.ks) (i:=i) oM default,by rw[c];decide⟩
    .rw[gU] at c;rw[inc64' oM];refine O oM _ _ ⟨rfl,p.trans (v.trans y),λj L=>?_⟩;by_cases e:j<i
     .exact o j e
     .have:j=i:=oM;subst this;exact c
   .try simp only[push_cast]
    rw[gj oM];refine hC _ _ ⟨rfl,p,?_⟩;unfold M.allFixed;rw[gd,X0,Gb];refine⟨λh=>a (nil_len.2 h),λk T=>?_⟩;obtain⟨j,L,rfl⟩:=gn T;have:=o j oM;rwa[y2,V0 L] at this
 rintro u g w2 ⟨rfl,R,o⟩;have e:M.ruleX ds t=some (M.constM (M.sortM ds t) (M.evalM ds (M.zeroE ds) t)):=by unfold M.ruleX;rw[y3 o]
 rw[e] at J;have U:nnB t=true:=by
  unfold M.allFixed at o;simp only[gd,X0,Gb] at o;refine nnB_iff.2 ⟨λN=>?_,λk T=>?_⟩
  .have:=M.len_of hs;rw[N] at this;have h0:t.ks.length=0:=by simp[M.arity] at this;omega
   exact o.1 (gG h0)
  .obtain⟨n,hn⟩:=GV.1 (o.2 k T);exact nn_fixed hn
 refine zd λw3 p _=>?_;have z:=zZ rs (R.trans p);have tm:∀{w'},RS G w w' b2 b3 b4 dv kv mb ds t->TermR (λx=>G x/\x<w.heap.size) w' (.agg ⟨[nI t.op,nI t.a,nI t.b,.string t.s,kv]⟩) t:=λh=>⟨kv,rfl,h.k⟩;simp only[push_cast,z.f.ldAgg (t:=ye) xN,z.q.ldAgg (t:=za) zc,z.f.ld0,z.f.ld1,y1];refine jw z.d z.m H (tm z) λw4 S=>?_;have A:=zZ z S;simp only[push_cast,A.q.ldAgg (t:=za) zc,A.f.ld0,A.f.ld1,y1,V1];refine valueOf_specG t A.m A.d (M.zeroE_ok H) (.inr U) (tm A) hs λw5 v=>?_;have r5:=zZ A v;simp only[push_cast,y1];refine constant_spec λw6 v6 y W=>?_;have X:=zZ r5 y;exact yu X (rs_new r5 y W) λw7 rv Q V=>J w7 rv _ Q V λx I=>K3 I
end
section
variable {w:World} {K:oK} {F D G:oA}
theorem qh {o:Option M.Tm} {u:M.Tm} (b:KP K w G o) (e:o=some u):∀w' rv,Ext w w'->TermR (λx=>G x\/w.heap.size<=x) w' rv u->K (.tuple #[rv,.bool true]) w':=λw' rv a c=>by
 subst e;exact b w' rv u a c λx d=>K3 d
theorem jV {o:Option M.Tm} (b:KP K w G o) (e:o=none) {u:M.Tm}:∀w' rv,Ext w w'->TermR (λx=>G x\/w.heap.size<=x) w' rv u->K (.tuple #[rv,.bool false]) w':=λw' rv a c=>by
 subst e;exact b w' rv u a c λx d=>by cases d
theorem xS0 {o:Option M.Tm} {u:M.Tm} {b:Bool} (a:KP K w G o) (e:o=if b=true then some u else none):∀w' rv,Ext w w'->TermR (λx=>G x\/w.heap.size<=x) w' rv u->K (.tuple #[rv,.bool b]) w':=by
 cases b
 .exact jV a (by rw[e];rfl)
 .exact qh a (by rw[e];rfl)
theorem intsL {xs:oI} (d:xs.length<=100) (c:∀w' v,Ext w w'->Ints (λ_=>True) w' v xs->K v w'):vbuildS zh (xs.map λx=>nI x).length ((xs.map λx=>nI x).zipIdx.map λp=>(p.2,p.1)) w K:=by
 refine vbuildS_row1 xu yW xK (λx e=>by obtain⟨y,_,rfl⟩:=gr.1 e;rfl) (by rw[y4];omega) λb w' f he hs a=>?_;rw[y4];have o:OwnI zh w' (.slice (some ⟨b,0,none⟩) xs.length xs.length) xs:=Blk.own1 (t:=zh) (by rw[qQ];exact a) (gF _) (by simp) (by simp) oM;exact c w' _ he (o.ints.weaken λ_ _ _=>trivial)
theorem branches_spec {dv tv:Value} {mb:Nat} {ds:List M.Dcl} {t:M.Tm} (W:DclsR F w dv ds) (hm:KindsR w mb) (Y:M.declOk ds=true) (Z:TermR G w tv t) (hs:M.sortM ds t≠ -1) (p:KP K w G (M.ruleB t)):vcall qY #[qP dv mb,tv] w K:=by
 refine ze {cuts:=[(8201,[]),(8194,[6])]} Tryz.func334 ?_;refine rs_enter (B:=λt2 t3 t4 a1=>_) W hm Z λw1 b2 b3 b4 kv rs=>?_;have hlen:=M.len_of hs;have v:t.op=25->t.ks.length=1:=λh=>by rw[h] at hlen;simp[M.arity] at hlen;omega
 have s:t.op=23->t.ks.length=3:=λh=>by rw[h] at hlen;simp[M.arity] at hlen;omega
 refine zo (λu w'=>u=[]/\Ext w1 w'/\t.op=23/\M.isM (M.kid t 0) 1=false/\M.isM (M.kid t 0) 0=false) (λC V=>?_) ?_
 .refine zo (λu w'=> ∃b:Bool,u=[.bool b]/\w'=w1/\(b=true↔t.op=25/\(M.kid t 0).op=25)) (λD hD=>?_) ?_
  .simp only[push_cast,rs.q.ld0];refine zb (λa=>?_) (λa=>?_)
   .have:=v a;simp(disch:=exact oS) only[push_cast,rs.q.ld4,rs.k.iaddr];rw[tms_op rs.k oM];refine oZ ?_;exact hD _ _ ⟨_,rfl,rfl,by rw[X0];exact⟨λh=>⟨a,h⟩,λh=>h.2⟩⟩
   .exact hD _ _ ⟨false,rfl,rfl,⟨λh=>(by cases h),λh=>absurd h.1 a⟩⟩
  rintro u1 g1 w2 ⟨b,rfl,rfl,O⟩;refine oZ ?_;refine zn (λc=>?_) (λc=>?_)
  .obtain⟨S,T⟩:=O.1 c;have Q:=v S;have k0:=M.good_kid hs (i:=0) oM;have I:(M.kid t 0).ks.length=1:=by have:=M.len_of k0;rw[T] at this;simp[M.arity] at this;omega
   simp(disch:=exact oS) only[push_cast,rs.q.ld4,rs.k.iaddr];refine tms_kids rs.k oM λa0 r=>?_;have R:(t.ks.getD 0 default).ks.length=1:=I;simp(disch:=exact oS) only[push_cast,r.iaddr];refine r.load zc oM λx L=>?_;exact yu rs (rs_kid rs L) (qh p (by unfold M.ruleB;rw[y3 ⟨S,T⟩];rfl))
  have nb: ¬(t.op=25/\(M.kid t 0).op=25):=λh=>by have:=O.2 h;rw[c] at this;cases this
  simp only[push_cast,rs.q.ld0];refine zb (λa=>?_) (λa=>?_)
  .try simp only[push_cast]
   exact yu rs Za (jV p (by unfold M.ruleB;rw[y0 nb,y3 a]))
  have m:t.op=23:=oM;have Q:=s m;simp(disch:=exact oS) only[push_cast,rs.q.ld4,rs.k.iaddr];refine rs.k.load zc oM λx L=>?_;refine jv L λw3 l=>?_;have j:=zZ rs l;simp(disch:=exact oS) only[push_cast,j.q.ld4,j.k.iaddr];refine zn (λd=>?_) (λd=>?_)
  .refine j.k.load zc oM λy N=>?_;exact yu j (rs_kid j N) (qh p (by unfold M.ruleB;rw[y0 nb,y0 a];exact y3 d))
  refine j.k.load zc oM λy N=>?_;refine jv N λw4 f=>?_;have n:=zZ j f;simp(disch:=exact oS) only[push_cast,n.q.ld4,n.k.iaddr];refine zn (λe=>?_) (λe=>?_)
  .refine n.k.load zc oM λz hz=>?_;refine yu n (rs_kid n hz) (qh p ?_);unfold M.ruleB;rw[y0 nb,y0 a,y0 (by rw[show M.isM (M.kid t 0) 1=false from d];decide)];exact y3 e
  exact V _ _ ⟨rfl,l.trans f,m,d,e⟩
 rintro u g w2 ⟨rfl,E,m,i1,i0⟩;have Q:=s m;refine zd λw3 l _=>?_;have j:=zZ rs (E.trans l);obtain⟨css,o,X,A⟩:=j.k;simp(disch:=exact oS) only[push_cast,j.q.ld4,o.iaddr,o.ldAgg,y1];refine TermSame_spec _ (A 1 oM).term (A 2 oM).term λw4 f=>?_;have n:=zZ j f;have sl4:=o.ext f;simp(disch:=exact oS) only[push_cast,n.q.ld4,sl4.iaddr,sl4.ldAgg,y1,V1];refine chosen_spec ((A 1 oM).ext f).term λw5 v5 H J=>?_;have U:=zZ n H;simp only[push_cast,y1];refine yu U (rs_kid U J) (xS0 p ?_);unfold M.ruleB;rw[y0 oM,y0 oM,y0 (by rw[i1];decide),y0 (by rw[i0];decide)];simp only[X0];rfl
theorem layers_spec {dv tv:Value} {mb:Nat} {ds:List M.Dcl} {t:M.Tm} (J:DclsR F w dv ds) (hm:KindsR w mb) (A:M.declOk ds=true) (Q:TermR G w tv t) (hs:M.sortM ds t≠ -1) (y:KP K w G (M.ruleL ds t)):vcall jA #[qP dv mb,tv] w K:=by
 refine ze {cuts:=[(20486,[32])]} Tryz.func336 ?_;refine rs_enter (B:=λt2 t3 t4 V=>_) J hm Q λw1 b2 b3 b4 kv rs=>?_;have hlen:=M.len_of hs;simp only[push_cast,rs.q.ld0];refine zb (λa=>?_) (λa=>?_)
 .have L:t.ks.length=1:=by rw[a] at hlen;simp[M.arity] at hlen;omega
  refine zd λw2 H _=>?_;have n:=zZ rs H;obtain⟨css,r,O,E⟩:=n.k;simp(disch:=exact oS) only[push_cast,n.q.ld1,n.q.ld2,n.q.ld4,n.f.ldAgg (t:=ye) xN,r.iaddr,r.ldAgg,y1];refine zb (λb=>?_) (λb=>?_)
  .refine jw n.d n.m A (E 0 oM).term λT l=>?_;have j:=zZ n l;have sl3:=r.ext l;have hw:=M.sort_range A (M.kid t 0);simp(disch:=exact oS) only[push_cast,j.q.ld1,j.q.ld4,sl3.iaddr,sl3.ldAgg,y1,V1];rw[show t.ks.getD 0 default=M.kid t 0 from rfl,show IntKind.i64.wrap (M.sortM ds (M.kid t 0)-1)=M.sortM ds (M.kid t 0)-1 from zk oM oM];refine chosen_spec ((E 0 oM).ext l).term λU v5 p s=>?_;have C:=zZ j p;simp only[push_cast,y1];refine yu C (rs_kid C s) (xS0 y ?_);unfold M.ruleL;rw[y3 a];by_cases e:t.a=M.sortM ds (M.kid t 0)-1
   .rw[y3 ⟨b,e⟩,y3 (gu e)];rfl
   .rw[y0 (λx=>e x.2),y0 (by rw[gj e];decide)]
  .refine chosen_spec (E 0 oM).term λU v5 p s=>?_;have C:=zZ n p;simp only[push_cast,y1];refine yu C (rs_kid C s) (xS0 y ?_);unfold M.ruleL;rw[y3 a,y0 (λx=>b x.1)];rfl
 have nothing: ¬((t.op=1\/t.op=2)/\(M.kid t 0).op=t.op)->M.ruleL ds t=none:=λh=>by unfold M.ruleL;rw[y0 a,y0 h]
 refine zo (λu w'=> ∃b:Bool,u=[.bool b]/\w'=w1/\(b=true↔t.op=1\/t.op=2)) (λD hD=>?_) ?_
 .try simp only[push_cast]
  refine zb (λb=>?_) (λb=>?_)
  .exact hD _ _ ⟨_,rfl,rfl,by rw[X0];exact⟨.inl,λh=>oM⟩⟩
  .exact hD _ _ ⟨_,rfl,rfl,by rw[X0];exact⟨.inr,λh=>oM⟩⟩
 rintro u g w2 ⟨b,rfl,rfl,I⟩;refine oZ ?_;refine zn (λc=>?_) (λc=>?_)
 .have v:=I.1 c;have L:t.ks.length=1:=by rcases v with e|e<;>rw[e] at hlen<;>simp[M.arity] at hlen<;>omega
  refine zd λT l _=>?_;have j:=zZ rs l;simp(disch:=exact oS) only[push_cast,j.q.ld0,j.q.ld4,j.k.iaddr,y1];rw[tms_op j.k oM];simp(disch:=exact oS) only[push_cast,j.q.ld0,j.q.ld4,j.k.iaddr,y1];refine zb (λe=>?_) (λe=>?_)
  .have k0:=M.good_kid hs (i:=0) oM;have N:(t.ks.getD 0 default).ks.length=1:=by
    have:=M.len_of k0;rw[show(M.kid t 0).op=t.op from e] at this;rcases v with o|o<;>rw[o] at this<;>simp[M.arity] at this<;>(unfold M.kid at this;omega)
   refine tms_kids j.k oM λS z=>?_;simp(disch:=exact oS) only[push_cast,z.iaddr];refine z.load zc oM λx R=>?_;exact yu j (rs_kid j R) (qh y (by unfold M.ruleL;rw[y0 a];exact y3 ⟨v,e⟩))
  .try simp only[push_cast]
   exact yu j Za (jV y (nothing λh=>e h.2))
 .have n12: ¬(t.op=1\/t.op=2):=λh=>by have:=I.2 h;rw[c] at this;cases this
  try simp only[push_cast]
  exact yu rs Za (jV y (nothing λh=>n12 h.1))
theorem twins_spec {dv tv:Value} {mb:Nat} {ds:List M.Dcl} {t:M.Tm} (S:DclsR F w dv ds) (hm:KindsR w mb) (I:M.declOk ds=true) (V:TermR G w tv t) (hs:M.sortM ds t≠ -1) (p:KP K w G (M.ruleW ds t)):vcall k6 #[qP dv mb,tv] w K:=by
 refine ze {cuts:=[(8195,[]),(20486,[25]),(32777,[32])]} Tryz.func337 ?_;refine rs_enter (B:=λt2 t3 t4 Z=>_) S hm V λw1 b2 b3 b4 kv rs=>?_;have no:∀w',RS G w w' b2 b3 b4 dv kv mb ds t->¬(t.ks.length=2/\M.kid t 0=M.kid t 1)->zT za (ptr b4) (.agg ⟨zj0⟩) w' λ_ w1=>vlv za (ptr b4) w1 λr w2=>K (.tuple #[r,.bool false]) w2:=λw' J h=>
  yu J Za (jV p (by unfold M.ruleW;rw[y0 h]))
 refine zo (λu w'=>u=[]/\Ext w1 w'/\t.ks.length=2/\M.kid t 0=M.kid t 1) (λC R=>?_) ?_
 .refine zd λw2 n _=>?_;have j:=zZ rs n;obtain⟨css,y,U,O⟩:=j.k;simp(disch:=exact oS) only[push_cast,j.q.ld4,j.k.len,y1];refine zb (λa=>?_) (λa=>?_)
  .try simp only[push_cast]
   exact no _ j λh=>a (by rw[h.1];rfl)
  have H:t.ks.length=2:=oM;simp(disch:=exact oS) only[push_cast,j.q.ld4,y.iaddr,y.ldAgg,y1];refine TermSame_spec _ (O 0 oM).term (O 1 oM).term λE i=>?_;have Y:=zZ j i;simp only[push_cast,y1];refine zn (λb=>?_) (λb=>?_)
  .rw[gV,decide_eq_false_iff_not] at b
   try simp only[push_cast]
   exact no _ Y λh=>b h.2
  .rw[gU,X0] at b;exact R _ _ ⟨rfl,n.trans i,H,b⟩
 rintro u g w2 ⟨rfl,n,H,T⟩;have j:=zZ rs n;have W:M.ruleW ds t=if t.op=3\/t.op=4 then some (M.kid t 0) else if t.op=5\/t.op=7 then some (M.constM (M.sortM ds t) 0) else if t.op=15 then some (M.constM 0 1) else if t.op=16\/t.op=17 then some (M.constM 0 0) else none:=by
  unfold M.ruleW;rw[y3 ⟨H,T⟩]
 simp only[push_cast,j.q.ld0];refine zo (λu w'=> ∃b:Bool,u=[.bool b]/\w'=w2/\(b=true↔t.op=3\/t.op=4)) (λD hD=>?_) ?_
 .try simp only[push_cast]
  refine zb (λb=>?_) (λb=>?_)
  .exact hD _ _ ⟨_,rfl,rfl,by rw[X0];exact⟨.inl,λh=>oM⟩⟩
  .exact hD _ _ ⟨_,rfl,rfl,by rw[X0];exact⟨.inr,λh=>oM⟩⟩
 rintro u1 g1 L ⟨b,rfl,rfl,N⟩;refine oZ ?_;refine zn (λc=>?_) (λc=>?_)
 .simp(disch:=exact oS) only[push_cast,j.q.ld4,j.k.iaddr];refine j.k.load zc oM λx X=>?_;exact yu j (rs_kid j X) (qh p (by rw[W,y3 (N.1 c)];rfl))
 have z: ¬(t.op=3\/t.op=4):=λh=>by have:=N.2 h;rw[c] at this;cases this
 refine zo (λu w'=> ∃b:Bool,u=[.bool b]/\w'=L/\(b=true↔t.op=5\/t.op=7)) (λD hD=>?_) ?_
 .try simp only[push_cast]
  refine zb (λb=>?_) (λb=>?_)
  .exact hD _ _ ⟨_,rfl,rfl,by rw[X0];exact⟨.inl,λh=>oM⟩⟩
  .exact hD _ _ ⟨_,rfl,rfl,by rw[X0];exact⟨.inr,λh=>oM⟩⟩
 rintro u2 g2 Q ⟨b',rfl,rfl,s⟩;refine oZ ?_;refine zn (λc'=>?_) (λc'=>?_)
 .rw[j.f.ldAgg (t:=ye) xN,j.q.ldAgg (t:=za) zc];refine jw j.d j.m I ⟨kv,rfl,j.k⟩ λw3 v=>?_;refine constant_spec λE v4 i l=>?_;exact yu (zZ j (v.trans i)) (rs_new (zZ j v) i l) (qh p (by rw[W,y0 z,y3 (s.1 c')]))
 have A: ¬(t.op=5\/t.op=7):=λh=>by have:=s.2 h;rw[c'] at this;cases this
 try simp only[push_cast]
 refine zb (λe=>?_) (λe=>?_)
 .refine constant_spec λE v4 i l=>?_;exact yu (zZ j i) (rs_new j i l) (qh p (by rw[W,y0 z,y0 A,y3 e]))
 by_cases o:t.op=16
 .simp only[o,decide_true,push_cast];refine constant_spec λE v4 i l=>?_;exact yu (zZ j i) (rs_new j i l) (qh p (by rw[W,y0 z,y0 A,y0 e,y3 (.inl o)]))
 .simp only[o,decide_false,push_cast];refine zb (λf=>?_) (λf=>?_)
  .refine constant_spec λE v4 i l=>?_;exact yu (zZ j i) (rs_new j i l) (qh p (by rw[W,y0 z,y0 A,y0 e,y3 (.inr f)]))
  .try simp only[push_cast]
   exact yu j Za (jV p (by rw[W,y0 z,y0 A,y0 e,y0 oM]))
end
section
variable {w:World} {K:oK} {F D G:oA}
def TwoV (G:oA) (w0 w':World) (t:M.Tm) (u:List Value):Prop:= ∃b b' c c',u=[ptr b,ptr b']/\Blk w' b c za/\TmR (λx=>G x/\x<w0.heap.size) w' c (M.kid t 0)/\Blk w' b' c' za/\TmR (λx=>G x/\x<w0.heap.size) w' c' (M.kid t 1)
theorem yJ0 {w0 w1:World} {b2 b3 b4 mb:Nat} {dv kv:Value} {ds:List M.Dcl} {t:M.Tm} {C:List Value->World->Prop} (rs:RS G w0 w1 b2 b3 b4 dv kv mb ds t) (f:2<=t.ks.length) (g:∀u w',Ext w1 w'->TwoV G w0 w' t u->C u w'):Qe (ptr b3) w1 C:=
 pairReg_ok rs.q rs.k f λw' b e c c' he h i a d=>g _ _ he ⟨b,e,c,c',rfl,h,i,a,d⟩
theorem truths_spec {dv tv:Value} {mb:Nat} {ds:List M.Dcl} {t:M.Tm} (hd:DclsR F w dv ds) (hm:KindsR w mb) (ht:TermR G w tv t) (hs:M.sortM ds t≠ -1) (y:KP K w G (M.ruleT t)):vcall jz #[qP dv mb,tv] w K:=by
 refine ze {cuts:=[(20486,[6,7]),(28679,[8,9]),(32779,[]),(32776,[26])]} Tryz.func335 ?_;refine rs_enter (B:=λt2 t3 t4 a0=>_) hd hm ht λw1 b2 b3 b4 kv rs=>?_;have hlen:=M.len_of hs;rw[rs.q.ldAgg (t:=za) zc];refine intsL (xs:=[26,27]) dC λw2 av Q hav=>?_;have r2:=zZ rs Q;refine among_spec (t:=t) (F:=λx=>G x/\x<w.heap.size) ⟨kv,rfl,r2.k⟩ hav dC λw3 R=>?_;have N:=zZ r2 R;have r:t.op∈[(26:Int),27]↔t.op=26\/t.op=27:=by simp
 refine oZ ?_;refine zn (λa=>?_) (λa=>?_)
 .rw[gV,decide_eq_false_iff_not,r] at a
  try simp only[push_cast]
  exact yu N Za (jV y (by unfold M.ruleT;rw[y0 a]))
 rw[gU,X0,r] at a;have h2:t.ks.length=2:=by rcases a with e|e<;>rw[e] at hlen<;>simp[M.arity] at hlen<;>omega
 refine zo (λu w'=>u=[nI (M.neutral t.op),nI (1-M.neutral t.op)]/\w'=w3) (λC J=>?_) ?_
 .simp only[push_cast,N.q.ld0];refine zb (λb=>?_) (λb=>?_)
  .refine J _ _ ⟨?_,rfl⟩;unfold M.neutral;rw[y0 oM];rfl
  .refine J _ _ ⟨?_,rfl⟩;unfold M.neutral;rw[y3 oM];rfl
 rintro u g Y ⟨rfl,rfl⟩;refine zo (λu w'=>Ext Y w'/\TwoV G w w' t u) (λC J=>?_) ?_
 .have reg:=yJ0 (C:=C) N oM λu w' he h=>J u w' ⟨he,h⟩;unfold Qe at reg;simp only[push_cast] at reg;exact reg
 rintro u1 g1 w4 ⟨S,b,b',c,c',rfl,L,z,n,l⟩;have r4:=zZ N S;have gc:aggB za c.length=true:=by rw[zU z];exact zc
 have m:aggB za c'.length=true:=by rw[zU l];exact zc
 have T:M.ruleT t=if M.isM (M.kid t 0) (M.neutral t.op)=true\/M.kid t 0=M.kid t 1 then some (M.kid t 1) else if M.isM (M.kid t 1) (M.neutral t.op)=true then some (M.kid t 0) else if M.isM (M.kid t 0) (1-M.neutral t.op)=true\/M.isM (M.kid t 1) (1-M.neutral t.op)=true then some (M.constM 0 (1-M.neutral t.op)) else none:=by
  unfold M.ruleT;rw[y3 a]
 refine zo (λu w'=>u=[]/\Ext w4 w'/\¬(M.isM (M.kid t 0) (M.neutral t.op)=true\/M.kid t 0=M.kid t 1)/\¬M.isM (M.kid t 1) (M.neutral t.op)=true) (λD hD=>?_) ?_
 .refine zo (λu w'=> ∃e:Bool,u=[.bool e]/\Ext w4 w'/\(e=true↔M.isM (M.kid t 0) (M.neutral t.op)=true\/M.kid t 0=M.kid t 1)) (λE Z=>?_) ?_
  .refine oZ ?_;rw[L.ldAgg (t:=za) gc];refine jv z.term λw5 d=>?_;refine zn (λi=>?_) (λi=>?_)
   .exact Z _ _ ⟨true,rfl,d,⟨λ_=> .inl i,λ_=>rfl⟩⟩
   .try simp only[push_cast]
    rw[(L.ext d).ldAgg (t:=za) gc,(n.ext d).ldAgg (t:=za) m];refine TermSame_spec _ (z.ext d).term (l.ext d).term λw6 f=>?_;refine Z _ _ ⟨_,rfl,d.trans f,?_⟩;rw[X0];exact⟨.inr,λh=>h.elim (λx=>by rw[i] at x;cases x) id⟩
  rintro u2 g2 w5 ⟨e,rfl,d,A⟩;have I:=zZ r4 d;refine oZ ?_;refine zn (λi=>?_) (λi=>?_)
  .try simp only[push_cast]
   rw[(n.ext d).ldAgg (t:=za) m];exact yu I (rs_kid I (l.ext d).term) (qh y (by rw[T,y3 (A.1 i)]))
  have H: ¬(M.isM (M.kid t 0) (M.neutral t.op)=true\/M.kid t 0=M.kid t 1):=λh=>by have:=A.2 h;rw[i] at this;cases this
  try simp only[push_cast]
  rw[(n.ext d).ldAgg (t:=za) m];refine jv (l.ext d).term λw6 f=>?_;have v:=zZ I f;refine zn (λj=>?_) (λj=>?_)
  .try simp only[push_cast]
   rw[(L.ext (d.trans f)).ldAgg (t:=za) gc];exact yu v (rs_kid v (z.ext (d.trans f)).term) (qh y (by rw[T,y0 H,y3 j]))
  .exact hD _ _ ⟨rfl,d.trans f,H,by rw[j];decide⟩
 rintro u2 g2 w5 ⟨rfl,d,H,n2⟩;have I:=zZ r4 d;refine oZ ?_;rw[(L.ext d).ldAgg (t:=za) gc];refine jv (z.ext d).term λw6 f=>?_;have v:=zZ I f;refine zn (λi=>?_) (λi=>?_)
 .refine constant_spec λw7 v7 o V=>?_;have O:=zZ v o;refine chosen_spec (rs_new v o V) λw8 v8 p s=>?_;have X:=zZ O p;refine oZ ?_;exact yu X s (qh y (by rw[T,y0 H,y0 n2,y3 (.inl i)]))
 .try simp only[push_cast]
  rw[(n.ext (d.trans f)).ldAgg (t:=za) m];refine jv (l.ext (d.trans f)).term λw7 o=>?_;have O:=zZ v o;refine constant_spec λw8 v8 p s=>?_;have X:=zZ O p;refine chosen_spec (rs_new O p s) λw9 v9 U W=>?_;have r9:=zZ X U;refine oZ ?_;refine yu r9 W (xS0 y ?_);rw[T,y0 H,y0 n2];by_cases j:M.isM (M.kid t 1) (1-M.neutral t.op)=true
  .rw[y3 (.inr j),y3 j]
  .rw[y0 (λh=>h.elim (λx=>by rw[i] at x;cases x) j),y0 j]
theorem seconds_spec {dv tv:Value} {mb:Nat} {ds:List M.Dcl} {t:M.Tm} (hd:DclsR F w dv ds) (hm:KindsR w mb) (ht:TermR G w tv t) (J:KP K w G (M.ruleS t)):vcall jl #[qP dv mb,tv] w K:=by
 refine ze {cuts:=[(16388,[6,7]),(20488,[]),(20485,[21])]} Tryz.func338 ?_;refine rs_enter (B:=λt2 t3 t4 a0=>_) hd hm ht λw1 b2 b3 b4 kv rs=>?_;simp only[push_cast,rs.q.ld4,rs.k.len];refine zb (λa=>?_) (λa=>?_)
 .try simp only[push_cast]
  exact yu rs Za (jV J (by unfold M.ruleS;rw[y0 oM]))
 have h2:t.ks.length=2:=oM
 refine zo (λu w'=>Ext w1 w'/\TwoV G w w' t u) (λC hC=>?_) ?_
 .have reg:=yJ0 (C:=C) rs oM λu w' he h=>hC u w' ⟨he,h⟩;unfold Qe at reg;simp only[push_cast] at reg;exact reg
 rintro u1 g1 Z ⟨U,b,b',c,c',rfl,X,S,p,m⟩;have V:=zZ rs U;have gc:aggB za c.length=true:=by rw[zU S];exact zc
 have n:aggB za c'.length=true:=by rw[zU m];exact zc
 have T:M.ruleS t=if M.isM (M.kid t 1) 0=true/\(t.op=4\/t.op=5\/t.op=6\/t.op=7\/t.op=11\/t.op=12\/t.op=13) then some (M.kid t 0) else if M.isM (M.kid t 1) 0=true/\(t.op=3\/t.op=8) then some (M.kid t 1) else if M.isM (M.kid t 1) 1=true/\t.op=8 then some (M.kid t 0) else none:=by
  unfold M.ruleS;rw[y3 h2]
 refine zo (λu w'=>u=[]/\Ext Z w'/\¬(M.isM (M.kid t 1) 0=true/\(t.op=4\/t.op=5\/t.op=6\/t.op=7\/t.op=11\/t.op=12\/t.op=13))/\¬(M.isM (M.kid t 1) 0=true/\(t.op=3\/t.op=8))) (λD hD=>?_) ?_
 .refine zo (λu w'=> ∃e:Bool,u=[.bool e]/\Ext Z w'/\(e=true↔M.isM (M.kid t 1) 0=true/\(t.op=4\/t.op=5\/t.op=6\/t.op=7\/t.op=11\/t.op=12\/t.op=13))) (λE W=>?_) ?_
  .refine oZ ?_;rw[p.ldAgg (t:=za) n];refine jv m.term λw5 d=>?_;have s:=zZ V d;refine zn (λi=>?_) (λi=>?_)
   .try simp only[push_cast]
    rw[s.q.ldAgg (t:=za) zc];refine intsL (xs:=[4,5,6,7,11,12,13]) dC λw6 av f hav=>?_;have H:=zZ s f;refine among_spec (t:=t) (F:=λx=>G x/\x<w.heap.size) ⟨kv,rfl,H.k⟩ hav dC λw7 g=>?_;refine W _ _ ⟨_,rfl,d.trans (f.trans g),?_⟩;rw[X0];simp only[gg,gx,Ge];exact⟨λh=>⟨i,h⟩,λh=>h.2⟩
   .exact W _ _ ⟨false,rfl,d,⟨λh=>(by cases h),λh=>(by rw[i] at h;cases h.1)⟩⟩
  rintro u2 g2 w5 ⟨e,rfl,d,R⟩;have s:=zZ V d;refine oZ ?_;refine zn (λi=>?_) (λi=>?_)
  .try simp only[push_cast]
   rw[(X.ext d).ldAgg (t:=za) gc];exact yu s (rs_kid s (S.ext d).term) (qh J (by rw[T,y3 (R.1 i)]))
  have A:=λh=>(show False by have:=R.2 h;rw[i] at this;cases this)
  try simp only[push_cast]
  rw[(p.ext d).ldAgg (t:=za) n];refine jv (m.ext d).term λw6 f=>?_;have H:=zZ s f;refine zn (λj=>?_) (λj=>?_)
  .try simp only[push_cast]
   rw[H.q.ldAgg (t:=za) zc];refine intsL (xs:=[3,8]) dC λw7 av g hav=>?_;have I:=zZ H g;refine among_spec (t:=t) (F:=λx=>G x/\x<w.heap.size) ⟨kv,rfl,I.k⟩ hav dC λw8 l=>?_;have v:=zZ I l;have y:=d.trans (f.trans (g.trans l));have r:t.op∈[(3:Int),8]↔t.op=3\/t.op=8:=(by simp);refine zb (λo=>?_) (λo=>?_)
   .try simp only[push_cast]
    rw[(p.ext y).ldAgg (t:=za) n];exact yu v (rs_kid v (m.ext y).term) (qh J (by rw[T,y0 A,y3 ⟨j,r.1 o⟩]))
   .exact hD _ _ ⟨rfl,y,A,λh=>o (r.2 h.2)⟩
  .exact hD _ _ ⟨rfl,d.trans f,A,λh=>by rw[j] at h;cases h.1⟩
 rintro u2 g2 w5 ⟨rfl,d,A,Y⟩;have s:=zZ V d;refine zd λw6 f _=>?_;have H:=zZ s f;have L:=X.ext (d.trans f);have N:=p.ext (d.trans f);have O:=S.ext (d.trans f);have Q:=m.ext (d.trans f);simp only[push_cast,L.ldAgg (t:=za) gc,N.ldAgg (t:=za) n,y1];refine jv Q.term λw7 g=>?_;have I:=zZ H g;simp only[push_cast,(L.ext g).ldAgg (t:=za) gc,y1,V1];refine zn (λi=>?_) (λi=>?_)
 .simp only[push_cast,I.q.ld0,y1];refine chosen_spec (O.ext g).term λw8 v8 l z=>?_;have v:=zZ I l;simp only[push_cast,y1];refine yu v (rs_kid v z) (xS0 J ?_);rw[T,y0 A,y0 Y];by_cases o:t.op=8
  .rw[y3 ⟨i,o⟩,y3 (gu o)]
  .rw[y0 (λh=>o h.2),y0 (by rw[gj o];decide)]
 .refine chosen_spec (O.ext g).term λw8 v8 l z=>?_;have v:=zZ I l;simp only[push_cast,y1];refine yu v (rs_kid v z) (jV J ?_);rw[T,y0 A,y0 Y,y0 (λh=>by rw[i] at h;cases h.1)]
theorem firsts_spec {dv tv:Value} {mb:Nat} {ds:List M.Dcl} {t:M.Tm} (hd:DclsR F w dv ds) (hm:KindsR w mb) (ht:TermR G w tv t) (L:KP K w G (M.ruleF t)):vcall jB #[qP dv mb,tv] w K:=by
 refine ze {cuts:=[(16388,[6,7]),(20488,[]),(20485,[21])]} Tryz.func339 ?_;refine rs_enter (B:=λt2 t3 t4 a0=>_) hd hm ht λw1 b2 b3 b4 kv rs=>?_;simp only[push_cast,rs.q.ld4,rs.k.len];refine zb (λa=>?_) (λa=>?_)
 .try simp only[push_cast]
  exact yu rs Za (jV L (by unfold M.ruleF;rw[y0 oM]))
 have h2:t.ks.length=2:=oM
 refine zo (λu w'=>Ext w1 w'/\TwoV G w w' t u) (λC hC=>?_) ?_
 .have reg:=yJ0 (C:=C) rs oM λu w' he h=>hC u w' ⟨he,h⟩;unfold Qe at reg;simp only[push_cast] at reg;exact reg
 rintro u1 g1 Z ⟨V,b,b',c,c',rfl,R,O,N,z⟩;have W:=zZ rs V;have gc:aggB za c.length=true:=by rw[zU O];exact zc
 have y:aggB za c'.length=true:=by rw[zU z];exact zc
 have T:M.ruleF t=if M.isM (M.kid t 0) 0=true/\(t.op=4\/t.op=5\/t.op=6) then some (M.kid t 1) else if M.isM (M.kid t 0) 0=true/\(t.op=3\/t.op=8) then some (M.kid t 0) else if M.isM (M.kid t 0) 1=true/\t.op=8 then some (M.kid t 1) else none:=by
  unfold M.ruleF;rw[y3 h2]
 refine zo (λu w'=>u=[]/\Ext Z w'/\¬(M.isM (M.kid t 0) 0=true/\(t.op=4\/t.op=5\/t.op=6))/\¬(M.isM (M.kid t 0) 0=true/\(t.op=3\/t.op=8))) (λD hD=>?_) ?_
 .refine zo (λu w'=> ∃e:Bool,u=[.bool e]/\Ext Z w'/\(e=true↔M.isM (M.kid t 0) 0=true/\(t.op=4\/t.op=5\/t.op=6))) (λE X=>?_) ?_
  .refine oZ ?_;rw[R.ldAgg (t:=za) gc];refine jv O.term λw5 d=>?_;have r:=zZ W d;refine zn (λi=>?_) (λi=>?_)
   .try simp only[push_cast]
    rw[r.q.ldAgg (t:=za) zc];refine intsL (xs:=[4,5,6]) dC λw6 av f hav=>?_;have I:=zZ r f;refine among_spec (t:=t) (F:=λx=>G x/\x<w.heap.size) ⟨kv,rfl,I.k⟩ hav dC λw7 g=>?_;refine X _ _ ⟨_,rfl,d.trans (f.trans g),?_⟩;rw[X0];simp only[gg,gx,Ge];exact⟨λh=>⟨i,h⟩,λh=>h.2⟩
   .exact X _ _ ⟨false,rfl,d,⟨λh=>(by cases h),λh=>(by rw[i] at h;cases h.1)⟩⟩
  rintro u2 g2 w5 ⟨e,rfl,d,Q⟩;have r:=zZ W d;refine oZ ?_;refine zn (λi=>?_) (λi=>?_)
  .try simp only[push_cast]
   rw[(N.ext d).ldAgg (t:=za) y];exact yu r (rs_kid r (z.ext d).term) (qh L (by rw[T,y3 (Q.1 i)]))
  have H:=λh=>(show False by have:=Q.2 h;rw[i] at this;cases this)
  try simp only[push_cast]
  rw[(R.ext d).ldAgg (t:=za) gc];refine jv (O.ext d).term λw6 f=>?_;have I:=zZ r f;refine zn (λj=>?_) (λj=>?_)
  .try simp only[push_cast]
   rw[I.q.ldAgg (t:=za) zc];refine intsL (xs:=[3,8]) dC λw7 av g hav=>?_;have J:=zZ I g;refine among_spec (t:=t) (F:=λx=>G x/\x<w.heap.size) ⟨kv,rfl,J.k⟩ hav dC λw8 l=>?_;have s:=zZ J l;have v:=d.trans (f.trans (g.trans l));have p:t.op∈[(3:Int),8]↔t.op=3\/t.op=8:=(by simp);refine zb (λo=>?_) (λo=>?_)
   .try simp only[push_cast]
    rw[(R.ext v).ldAgg (t:=za) gc];exact yu s (rs_kid s (O.ext v).term) (qh L (by rw[T,y0 H,y3 ⟨j,p.1 o⟩]))
   .exact hD _ _ ⟨rfl,v,H,λh=>o (p.2 h.2)⟩
  .exact hD _ _ ⟨rfl,d.trans f,H,λh=>by rw[j] at h;cases h.1⟩
 rintro u2 g2 w5 ⟨rfl,d,H,Y⟩;have r:=zZ W d;refine zd λw6 f _=>?_;have I:=zZ r f;have S:=R.ext (d.trans f);have m:=N.ext (d.trans f);have U:=O.ext (d.trans f);have n:=z.ext (d.trans f);simp only[push_cast,S.ldAgg (t:=za) gc,m.ldAgg (t:=za) y,y1];refine jv U.term λw7 g=>?_;have J:=zZ I g;simp only[push_cast,(m.ext g).ldAgg (t:=za) y,y1,V1];refine zn (λi=>?_) (λi=>?_)
 .simp only[push_cast,J.q.ld0,y1];refine chosen_spec (n.ext g).term λw8 v8 l A=>?_;have s:=zZ J l;simp only[push_cast,y1];refine yu s (rs_kid s A) (xS0 L ?_);rw[T,y0 H,y0 Y];by_cases o:t.op=8
  .rw[y3 ⟨i,o⟩,y3 (gu o)]
  .rw[y0 (λh=>o h.2),y0 (by rw[gj o];decide)]
 .refine chosen_spec (n.ext g).term λw8 v8 l A=>?_;have s:=zZ J l;simp only[push_cast,y1];refine yu s (rs_kid s A) (jV L ?_);rw[T,y0 H,y0 Y,y0 (λh=>by rw[i] at h;cases h.1)]
end
section
variable {w:World} {K:oK} {F F' D G:oA}
def fsL (dv:Value) (mb:Nat):List Value:=[k7,qY,jz,jA,k6,jl,jB].map λn=> .func (.func n) #[qP dv mb] #[]
theorem xR0 {dv:Value} {mb:Nat} (e:∀w' v,Ext w w'->Vals (λ_=>True) w' v (fsL dv mb)->K v w'):vcall YZ #[qP dv mb] w K:=by
 refine ze {} Tryz.func317 ?_;refine zj λb1 w1 f a g c=>?_;simp only[push_cast,c.ldAgg (t:=ye) xN];refine vbuildS_row1 (xs:=fsL dv mb) qV (by simp only[push_cast]) (z:= .nilFunc) (by unfold yg;kernel_rfl) (λx h=>by obtain⟨y,_,rfl⟩:=gr.1 h;rfl) (by show 7<=16777216;decide) λb w' i he hs d=>?_;have o:OwnV zW w' (.slice (some ⟨b,0,none⟩) (fsL dv mb).length (fsL dv mb).length) (fsL dv mb):=Blk.own1 (t:=zW) (by rw[qR];exact d) (gF _) rfl rfl (by show 7<=9223372036854775807;decide);exact e w' _ (a.trans he) (OwnV.vals o|>.weaken λ_ _ _=>trivial)
def rl (ds:List M.Dcl) (t:M.Tm) (i:Nat):Option M.Tm:=[M.ruleX ds t,M.ruleB t,M.ruleT t,M.ruleL ds t,M.ruleW ds t,M.ruleS t,M.ruleF t].getD i none
theorem callRule {dv tv:Value} {mb:Nat} {ds:List M.Dcl} {t:M.Tm} {i:Nat} (hi:i<7) (c:DclsR F w dv ds) (hm:KindsR w mb) (a:M.declOk ds=true) (d:TermR G w tv t) (hs:M.sortM ds t≠ -1) (b:KP K w G (rl ds t i)):vcallv ((fsL dv mb).getD i undef) #[tv] w K:=by
 match i,hi with
 |0,_=>exact fixed_spec c hm a d hs b
 |1,_=>exact branches_spec c hm a d hs b
 |2,_=>exact truths_spec c hm d hs b
 |3,_=>exact layers_spec c hm a d hs b
 |4,_=>exact twins_spec c hm a d hs b
 |5,_=>exact seconds_spec c hm d b
 |6,_=>exact firsts_spec c hm d b
theorem rl_none {ds:List M.Dcl} {t:M.Tm} (h:∀j,j<7->rl ds t j=none):M.ruleA ds t=none:=by
 have a:M.ruleX ds t=none:=h 0 oM;have b:M.ruleB t=none:=h 1 oM;have c:M.ruleT t=none:=h 2 oM;have d:M.ruleL ds t=none:=h 3 oM;have e:M.ruleW ds t=none:=h 4 oM;have f:M.ruleS t=none:=h 5 oM;have g:M.ruleF t=none:=h 6 oM;unfold M.ruleA;rw[a,b,c,d,e,f,g];rfl
theorem rl_some {ds:List M.Dcl} {t u:M.Tm} {i:Nat} (hi:i<7) (h:∀j,j<i->rl ds t j=none) (hu:rl ds t i=some u):M.ruleA ds t=some u:=by
 have g:∀j,j<i->rl ds t j=none:=h;unfold M.ruleA
 match i,hi with
 |0,_=>rw[show M.ruleX ds t=some u from hu];rfl
 |1,_=>rw[show M.ruleX ds t=none from g 0 oM,show M.ruleB t=some u from hu];rfl
 |2,_=>rw[show M.ruleX ds t=none from g 0 oM,show M.ruleB t=none from g 1 oM,show M.ruleT t=some u from hu];rfl
 |3,_=>rw[show M.ruleX ds t=none from g 0 oM,show M.ruleB t=none from g 1 oM,show M.ruleT t=none from g 2 oM,show M.ruleL ds t=some u from hu];rfl
 |4,_=>rw[show M.ruleX ds t=none from g 0 oM,show M.ruleB t=none from g 1 oM,show M.ruleT t=none from g 2 oM,show M.ruleL ds t=none from g 3 oM,show M.ruleW ds t=some u from hu];rfl
 |5,_=>rw[show M.ruleX ds t=none from g 0 oM,show M.ruleB t=none from g 1 oM,show M.ruleT t=none from g 2 oM,show M.ruleL ds t=none from g 3 oM,show M.ruleW ds t=none from g 4 oM,show M.ruleS t=some u from hu];rfl
 |6,_=>rw[show M.ruleX ds t=none from g 0 oM,show M.ruleB t=none from g 1 oM,show M.ruleT t=none from g 2 oM,show M.ruleL ds t=none from g 3 oM,show M.ruleW ds t=none from g 4 oM,show M.ruleS t=none from g 5 oM,show M.ruleF t=some u from hu];rfl
theorem one_spec {dv tv:Value} {mb:Nat} {ds:List M.Dcl} {t:M.Tm} (hd:DclsR F w dv ds) (hm:KindsR w mb) (S:M.declOk ds=true) (ht:TermR G w tv t) (hs:M.sortM ds t≠ -1) (O:∀w' rv,Ext w w'->TermR (λx=>G x\/w.heap.size<=x) w' rv (M.oneT ds t)->K rv w'):vcall Qn #[qP dv mb,tv] w K:=by
 refine ze {loops:=[(2,[12])]} Tryz.func292 ?_;refine rs_enter (B:=λt2 t3 t4 a3=>_) hd hm ht λw1 b2 b3 b4 kv rs=>?_;rw[rs.f.ldAgg (t:=ye) xN];refine xR0 λw2 fv Q J=>?_;have r2:=zZ rs Q;simp only[push_cast,J.len];have W:(fsL dv mb).length=7:=rfl;rw[W];refine vloop_up 7 (λi u w'=>u=[nI i]/\Ext w2 w'/\∀j,j<i->rl ds t j=none) ⟨rfl,Same.refl _ _,λj R=>absurd R oM⟩ ?_;rintro i _ _ X C hi ⟨rfl,p,g⟩ hC;have c:=zZ r2 p;have f3:=J.ext p;refine oZ ?_;refine zb (λa=>?_) (λa=>?_)
 .have L:i<7:=oM;simp(disch:=first|(simp only[push_cast])|(rw[W];omega)|omega) only[push_cast,f3.iaddr,f3.load,c.q.ldAgg (t:=za) zc];refine callRule (G:=λx=>G x/\x<w.heap.size) L c.d c.m S ⟨kv,rfl,c.k⟩ hs λY rv u H hu s=>?_;have r4:=zZ c H;refine oZ ?_;obtain⟨cu,rfl,o⟩:=hu.cells;refine zi zq λb5 w5 a0 I a1 h5=>?_;have D:=(o.weaken (F':=λx=>((G x/\x<w.heap.size)\/X.heap.size<=x)/\x<Y.heap.size) λb h h'=>⟨h,h'⟩).ext I;refine stTerm h5 rfl D λZ T a2 h6=>?_;have n:Ext Y Z:=Ext.then I T λy N=>by subst N;omega
  have V:=zZ r4 n;have E:TmR (λx=>(G x/\x<w.heap.size)\/X.heap.size<=x) Z cu u:=o.ext n;cases e:rl ds t i with
  |none=>
   simp only[push_cast,Option.isSome_none];rw[inc64' oM];refine hC oM _ _ ⟨rfl,p.trans (H.trans n),λj R=>?_⟩;by_cases ej:j<i
   .exact g j ej
   .have:j=i:=oM;subst this;exact e
  |some x=>
   simp only[push_cast,Option.isSome_some];rw[h6.ldAgg (t:=za) (by rw[zU o];exact zc)];have A:=s x e;subst A;have l4:=c.r.lt;refine qr V.r rfl E (λx A=>by have:=c.lo;omega) λw7 z U v=>?_;have l:M.oneT ds t=u:=by unfold M.oneT;rw[rl_some L g e];rfl
   rw[l] at O;refine O _ _ (Ext.then V.ext z λy N=>by subst N;exact V.lo) (v.weaken λx A _=>?_);have:=c.ext.size;rcases A with h|h
   .exact .inl h.1
   .exact .inr oM
 .rw[c.q.ldAgg (t:=za) zc];have l:M.oneT ds t=t:=by unfold M.oneT;rw[rl_none λj R=>g j oM];rfl
  rw[l] at O;refine qr c.r rfl (TmR.of (t:=t) c.k) (λx A=>by have:=c.lo;omega) λw7 z U v=>?_;exact O _ _ (Ext.then c.ext z λy N=>by subst N;exact c.lo) (v.weaken λx A _=> .inl A.1)
theorem fold_spec:∀(t:M.Tm) {w:World} {K:oK} {F G:oA} {dv tv:Value} {mb:Nat} {ds:List M.Dcl},DclsR F w dv ds->KindsR w mb->M.declOk ds=true->TermR G w tv t->M.sortM ds t≠ -1->(∀w' rv,Ext w w'->TermR (λx=>G x\/w.heap.size<=x) w' rv (M.foldT ds t)->K rv w')->vcall XF #[qP dv mb,tv] w K:=by
 refine M.Tm.ind λt ih w K F G dv tv mb ds hd hm W ht hs hK=>?_;have hlen:=M.len_of hs;have b7:t.ks.length<=3:=by
  unfold M.arity at hlen
  repeat' split at hlen
  all_goals omega
 refine ze {loops:=[(4,[13])]} Tryz.func261 ?_;obtain⟨kv,rfl,ah⟩:=ht;refine zj λb1 w1 av a2 az h1=>?_;refine zj λb2 w2 aw a3 b0 h2=>?_;refine zi zq λb3 w3 ax S b4 h3=>?_;have b8:=a2.size;have q3:=h2.ext S;have f3:=(h1.ext a3).ext S;have a0:=a2.trans (a3.trans S);have af:TmsR (λx=>G x/\x<w.heap.size) w3 kv t.ks:=(ah.weaken λb h h'=>⟨h,h'⟩).ext a0;simp only[push_cast,q3.ld4];refine q3.st (i:=4) rfl rfl xy rfl λH D b9 h4=>?_;replace h4:Blk H b2 [nI t.op,nI t.a,nI t.b,.string t.s,oN] za:=h4;have a1:Ext w H:=Ext.then a0 D λy Y=>by subst Y;omega
 have a5:=af.same D λb d _ e=>oM
 have f4:=f3.same D oM;have r4:=h3.same D oM;simp only[push_cast,a5.len];refine vloop_up t.ks.length (λi u w'=>u=[nI i]/\Same (λb=>b=b2) H w'/\∃k css,Blk w' b2 [nI t.op,nI t.a,nI t.b,.string t.s,k] za/\Own 0 5 zl w' k css/\css.length=i/\(∀b,k.ownBlock=some b->H.heap.size<=b)/\
   ∀j,j<i->TmR (λx=>(G x/\x<w.heap.size)\/(H.heap.size<=x/\k.ownBlock≠some x)) w' (css.getD j []) (M.foldT ds (t.ks.getD j default)))
  ⟨rfl,Same.refl _ _,_,[],h4,Own.nil _ _ _ _,rfl,λb h=>(by cases h),λj hj=>absurd hj oM⟩ ?_
 rintro i _ _ w5 C hi ⟨rfl,f,k,css,h5,A,V,g,J⟩ hC;have ba:=f.size;have q:Ext w w5:=Ext.then a1 f λy Y=>by subst Y;omega
 have a6:=a5.same f λb d _ e=>oM
 have f5:=f4.same f oM;refine oZ ?_;refine zb (λa=>?_) (λa=>?_)
 .simp(disch:=exact oS) only[push_cast,a6.iaddr];refine a6.load zc oM λx hx=>?_;obtain⟨cx,rfl,R⟩:=hx.cells;refine zi zq λb6 w6 ay r b5 h6=>?_;refine stTerm h6 rfl (R.ext r) λw7 X aj h7=>?_;have ab:Ext w5 w7:=Ext.then r X λy Y=>by subst Y;omega
  refine zd λw8 a4 _=>?_;have l:=ab.trans a4;have q8:=h5.ext l;have f8:=f5.ext l;have v8:=h7.ext a4;simp only[push_cast,q8.ld4,f8.ldAgg (t:=ye) xN,v8.ldAgg (t:=za) (by rw[zU R];exact zc),y1];have N:t.ks.getD i default∈t.ks:=M.getD_mem oM _;refine ih _ N (hd.ext (q.trans l)) (hm.ext (q.trans l)) W (R.ext l).term ((M.sort_parts hs).2.1 _ N) λw9 rv T B=>?_;obtain⟨cr,rfl,o⟩:=B.cells;have q9:=q8.ext T;simp only[push_cast,q9.ld4,y1,V1];have ar:=l.size;have bb:=T.size;refine qx qf qz zq rfl (zU o) dC λau w10 al m am ac=>?_;have aa:=q9.ext m;simp only[push_cast,aa.ld4,y1,V1];have I:=l.trans (T.trans m);have a9:=A.ext I;refine Own.app1k a9 jo dC ac (zU o) (tmR_one o) oM oM λp bc O n v=>?_;have ak:=aa.same n (λe=>by have:=g _ e;have:=h5.lt;omega);have ao:=n.size
  try simp only[push_cast,y1]
  have a7:p.cells= #[p]/\p.oneCell'=true:=by
   obtain⟨a,c,rfl,_⟩:=O.sl.shape;exact⟨rfl,rfl⟩
  refine ak.st (i:=4) a7.1 a7.2 xy rfl λE z ap Q=>?_;replace Q:Blk E b2 [nI t.op,nI t.a,nI t.b,.string t.s,p] za:=Q;rw[inc64' oM];have an:=m.size;have L:∀b,p.ownBlock=some b->H.heap.size<=b:=λb d=>by
   rcases v b d with h|h
   .exact g b h
   .omega
  have Z:Same (λb=>b=b2\/k.ownBlock=some b) w5 E:=(Same.of_ext I).trans ((n.mono λ_ _ h=> .inr h).trans (z.mono λ_ _ h=> .inl h));have ad:Same (λb=>b=b2) H E:=⟨Z.os.trans f.os,Z.tape.trans f.tape,Z.output.trans f.output,gH f.size Z.size,λb d a8=>(Z.block b oM (λe=>e.elim a8 λe=>by have:=g b e;omega)).trans (f.block b d a8)⟩;refine hC oM _ _ ⟨rfl,ad,p,css++[cr],Q,O.same z (λb d e=>by have:=L b d;omega),by simp[V],L,λj hj=>?_⟩;by_cases ej:j<i
  .rw[y2,Gj oM,<-y2];refine((J j ej).weaken (F':=λx=>((G x/\x<w.heap.size)\/(H.heap.size<=x/\k.ownBlock≠some x))/\x<w5.heap.size) λb h h'=>⟨h,h'⟩).same Z (λb d _ e=>?_)|>.weaken λb d _=>?_
   .rcases d.1 with h|h
    .rcases e with e|e
     .omega
     .have:=g b e;omega
    .rcases e with e|e
     .omega
     .exact h.2 e
   .rcases d.1 with h|h
    .exact .inl h
    .refine .inr ⟨h.1,λe=>?_⟩;rcases v b e with e|e
     .exact h.2 e
     .omega
  .have:j=i:=oM;subst this;rw[y2,Gy oM,V,pj];show TmR _ E cr _;refine(((o.weaken (F':=λx=>((G x/\x<w.heap.size)\/w8.heap.size<=x)/\x<w9.heap.size) λb h h'=>⟨h,h'⟩).ext m).same n (λb d _ e=>?_)).same z (λb d _ e=>?_)|>.weaken λb d _=>?_
   .have:=g b e;have:=(A.lt e).2;rcases d.1 with h|h<;>omega
   .rcases d.1 with h|h<;>omega
   .rcases d.1 with h|h
    .exact .inl h
    .refine .inr ⟨oM,λe=>?_⟩;rcases v b e with e|e
     .have:=(A.lt e).2;omega
     .omega
 .have ae:i=t.ks.length:=oM;subst ae;rw[f5.ldAgg (t:=ye) xN,h5.ldAgg (t:=za) zc];have ag:TmsR (λx=>(G x/\x<w.heap.size)\/H.heap.size<=x) w5 k (t.ks.map (M.foldT ds)):=by
   refine⟨css,A.sl.weaken λb d _=> .inr (g b d),by rw[V,y4],λj hj=>?_⟩;rw[y4] at hj;rw[M.getD_map _ hj _ default];exact(J j hj).weaken λb d _=>d.imp id λh=>h.1
  have U:=M.kids_good W hs;refine one_spec (t:=M.remake t (t.ks.map (M.foldT ds))) (hd.ext q) (hm.ext q) W ⟨k,rfl,ag⟩ (by rw[U.sort];exact hs) λw6 rv r B=>?_;rw[<-M.foldT_rem] at B;obtain⟨cr,rfl,o⟩:=B.cells;have r6:=(r4.same f oM).ext r;have:=r4.lt;refine qr r6 rfl o (λx hx=>by rcases hx with(h|h)|h<;>omega) λw7 X aj ai=>?_;have aq:=a1.size;exact hK _ _ (Ext.then (q.trans r) X λy Y=>by subst Y;omega) (ai.weaken λx hx _=>by
   rcases hx with(h|h)|h
   .exact .inl h.1
   .exact .inr oM
   .exact .inr oM)
end
section
variable {w:World} {K:oK} {F D G:oA}
inductive TmO (w:World):(oA)->List Value->M.Tm->Prop
 |mk {D:oA} {kv:Value} {t:M.Tm} (css:List (List Value)) (Ds:Nat->Nat->Prop) (own:Own 0 5 zl w kv css) (hl:css.length=t.ks.length)
   (hb:∀b,kv.ownBlock=some b->D b/\∀i,i<t.ks.length->¬Ds i b) (hd:∀i j b,i<j->j<t.ks.length->Ds i b->¬Ds j b) (hs:∀i b,i<t.ks.length->Ds i b->D b)
   (hk:∀i,i<t.ks.length->TmO w (Ds i) (css.getD i []) (t.ks.getD i default)):TmO w D [nI t.op,nI t.a,nI t.b,.string t.s,kv] t
theorem Wu {cs:List Value} {t:M.Tm} (h:TmO w D cs t):∃(kv:Value) (css:List (List Value)) (Ds:Nat->Nat->Prop),cs=[nI t.op,nI t.a,nI t.b,.string t.s,kv]/\Own 0 5 zl w kv css/\css.length=t.ks.length/\
  (∀b,kv.ownBlock=some b->D b/\∀i,i<t.ks.length->¬Ds i b)/\(∀i j b,i<j->j<t.ks.length->Ds i b->¬Ds j b)/\(∀i b,i<t.ks.length->Ds i b->D b)/\∀i,i<t.ks.length->TmO w (Ds i) (css.getD i []) (t.ks.getD i default):=by
 cases h with
 |mk css Ds own f c d hs e=>exact⟨_,css,Ds,rfl,own,f,c,d,hs,e⟩
theorem xO0:∀(t:M.Tm) {D:oA} {cs:List Value},TmO w D cs t->TmR D w cs t:=by
 refine M.Tm.ind λt f D cs h=>?_;obtain⟨kv,css,Ds,rfl,own,e,c,g,hs,d⟩:=Wu h;exact TmR.of ⟨css,own.sl.weaken λb a _=>(c b a).1,e,λi hi=>(f _ (M.getD_mem hi _) (d i hi)).weaken λb a _=>hs i b hi a⟩
theorem jK {S:oA} {w w':World} (hw:Same S w w'):∀(t:M.Tm) {D:oA} {cs:List Value},TmO w D cs t->(∀b,D b->¬S b)->TmO w' D cs t:=by
 refine M.Tm.ind λt k D cs h d=>?_;obtain⟨kv,css,Ds,rfl,own,j,c,f,hs,g⟩:=Wu h;exact .mk css Ds (own.same hw λb e=>d b (c b e).1) j c f hs λi hi=>k _ (M.getD_mem hi _) (g i hi) λb a=>d b (hs i b hi a)
theorem qW0 {w':World} {cs:List Value} {t:M.Tm} (h:TmO w D cs t) (hw:Ext w w'):TmO w' D cs t:=jK hw t h λ_ _ h=>h
theorem qC {cs:List Value} {t:M.Tm} (h:TmO w D cs t) (a:∀b,D b->F b):TmO w F cs t:=by
 obtain⟨kv,css,Ds,rfl,own,f,c,d,hs,e⟩:=Wu h;exact .mk css Ds own f (λb h=>⟨a b (c b h).1,(c b h).2⟩) d (λi b hi h=>a b (hs i b hi h)) e
structure Grow (lo:Nat) (w:World) (kv:Value) (css:List (List Value)) (us:List M.Tm) (Ds:Nat->Nat->Prop):Prop where
 own:Own 0 5 zl w kv css
 len:css.length=us.length
 blk:∀b,kv.ownBlock=some b->lo<=b/\∀j,j<us.length->¬Ds j b
 dis:∀j k b,j<k->k<us.length->Ds j b->¬Ds k b
 sub:∀j b,j<us.length->Ds j b->lo<=b/\b<w.heap.size
 kid:∀j,j<us.length->TmO w (Ds j) (css.getD j []) (us.getD j default)
theorem Zv0 (lo:Nat) (w:World):Grow lo w (oN) [] [] λ_ _=>False:=
 ⟨Own.nil _ _ _ _,rfl,λb h=>(by cases h),λj k b _ c=>absurd c (by simp),λj b a=>absurd a (by simp),λj a=>absurd a (by simp)⟩
theorem yj0 {S:oA} {lo:Nat} {kv:Value} {w':World} {css:List (List Value)} {us:List M.Tm} {Ds:Nat->Nat->Prop} (h:Grow lo w kv css us Ds) (hw:Same S w w') (hs:∀b,lo<=b->¬S b):Grow lo w' kv css us Ds:=
 ⟨h.own.same hw λb a=>hs b (h.blk b a).1,h.len,h.blk,h.dis,λj b c a=>⟨(h.sub j b c a).1,pE (h.sub j b c a).2 hw.size⟩,λj c=>jK hw _ (h.kid j c) λb a=>hs b (h.sub j b c a).1⟩
theorem grow_push {lo r:Nat} {kv:Value} {E x y w10:World} {css:List (List Value)} {us:List M.Tm} {Ds:Nat->Nat->Prop} {cr:List Value} {u:M.Tm} (h:Grow lo E kv css us Ds) (F:Ext E x) (G:Ext x y) (R:lo<=x.heap.size)
  (I:TmO y (λb=>x.heap.size<=b/\b<y.heap.size) cr u) (p:Ext y w10) (A:Blk w10 r cr za) (S:us.length<=1048576)
  (O:∀d g z,Grow lo g d (css++[cr]) (us++[u]) z->Same (λb=>kv.ownBlock=some b) w10 g->d.cells= #[d]->d.oneCell'=true->K d g):
  vbi .append [zl,zl] zl [kv,.slice (some ⟨r,0,none⟩) 1 1] w10 K:=by
 have t:=xO0 _ I;have s:=F.trans (G.trans p);have g10:=yj0 h s λb _ h=>h;have T:=F.size;have U:=G.size;have J:=p.size;have H:=h.len;refine Own.app1k g10.own jo dC A (zU t) (tmR_one t) oM oM λd g o f w=>?_;have L:=f.size;have v:d.cells= #[d]/\d.oneCell'=true:=by
  obtain⟨a,c,rfl,_⟩:=o.sl.shape;exact⟨rfl,rfl⟩
 have hold:∀b,kv.ownBlock=some b->b<E.heap.size:=λb i=>(h.own.lt i).2;refine O d g (λj b=>(j=us.length/\x.heap.size<=b/\b<y.heap.size)\/(j<us.length/\Ds j b)) ⟨o,by simp[H],λb i=>?_,λj k b C Q q D=>?_,λj b q i=>?_,λj q=>?_⟩ f v.1 v.2
 .rcases w b i with e|e
  .refine⟨(h.blk b e).1,λj q B=>?_⟩;rcases B with⟨_,m,_⟩|⟨m,n⟩
   .grind
   .exact(h.blk b e).2 j m n
  .refine⟨oM,λj q B=>?_⟩;rcases B with⟨_,_,m⟩|⟨m,n⟩
   .omega
   .have:=(h.sub j b m n).2;omega
 .rw[q0,Gd] at Q;rcases q with⟨m,n,N⟩|⟨m,n⟩
  .omega
  .rcases D with⟨g1,g2,g3⟩|⟨g1,g2⟩
   .have:=(h.sub j b m n).2;omega
   .exact h.dis j k b C g1 n g2
 .rcases i with⟨m,n,N⟩|⟨m,n⟩
  .omega
  .have:=h.sub j b m n;omega
 .rw[q0,Gd] at q;by_cases e:j<us.length
  .rw[y2,Gj oM,<-y2,y2 (l:=us++[u]),Gj e,<-y2];refine qC (jK f _ (g10.kid j e) λb i hs=>(h.blk b hs).2 j e i) λb i=> .inr ⟨e,i⟩
  .have:j=us.length:=oM;subst this;rw[y2,Gy oM,H,pj,y2 (l:=us++[u]),Gy (gp _),pj];show TmO g _ cr u;refine qC (jK f _ (qW0 I p) λb i hs=>by grind) λb i=> .inl ⟨rfl,i⟩
theorem jD0 {lo:Nat} {kv:Value} {css:List (List Value)} {t:M.Tm} {Ds:Nat->Nat->Prop} (h:Grow lo w kv css t.ks Ds):TmO w (λb=>lo<=b/\b<w.heap.size) [nI t.op,nI t.a,nI t.b,.string t.s,kv] t:=
 .mk css Ds h.own h.len (λb c=>⟨⟨(h.blk b c).1,(h.own.lt c).2⟩,(h.blk b c).2⟩) h.dis (λi b hi c=>h.sub i b hi c) h.kid
theorem retO {b:Nat} {cs cs':List Value} {t:TypeId} {f:M.Tm} {K:oK} (h:Blk w b cs t) (j:cs.length=5) (d:TmO w G cs' f) (c:∀x,G x->x≠b) (i:∀w',Same (· =b) w w'->w'.heap.size=w.heap.size->TmO w' G cs' f->K (.agg ⟨cs'⟩) w'):
  zT za (oP b 0) (.agg ⟨cs'⟩) w λ_ w1=>vlv za (oP b 0) w1 λr w2=>K r w2:=
 qr h j (xO0 _ d) c λw' hw k _=>i w' hw k (jK hw _ d λg a e=>c g a e)
theorem Jz {us:List M.Tm} {i:Nat} (h:i<us.length):us.take i++[us.getD i default]=us.take (i+1):=by simp_all
theorem copyTerm_spec:∀(t:M.Tm) {w:World} {K:oK} {F:oA} {v:Value},TermR F w v t->x60 t=true->(∀w' cs,Ext w w'->TmO w' (λb=>w.heap.size<=b/\b<w'.heap.size) cs t->K (.agg ⟨cs⟩) w')->vcall K8 #[v] w K:=by
 refine M.Tm.ind λt ih w K F v ht A hK=>?_;obtain⟨f1,f2⟩:=fitB_iff.1 A;refine ze {loops:=[(4,[11])]} Tryz.func108 ?_;obtain⟨kv,rfl,Z⟩:=ht;refine zj λb1 w1 aa r ae h1=>?_;refine zi zq λb2 w2 ab y af h2=>?_;have aj:=r.size;have q2:=h1.ext y;have S:=r.trans y;have Y:TmsR (λx=>x<w.heap.size) w2 kv t.ks:=(Z.weaken λb _ h'=>h').ext S;simp only[push_cast,q2.ld4];refine q2.st (i:=4) rfl rfl xy rfl λJ G ak R=>?_;replace R:Blk J b1 [nI t.op,nI t.a,nI t.b,.string t.s,oN] za:=R;have T:Ext w J:=by grind [Ext.then]
 have B:=Y.same G λb L _ e=>oM
 have r4:=h2.same G oM;simp only[push_cast,B.len];refine vloop_up t.ks.length (λi u w'=>u=[nI i]/\Same (λb=>b=b1) J w'/\∃g css Ds,Blk w' b1 [nI t.op,nI t.a,nI t.b,.string t.s,g] za/\Grow J.heap.size w' g css (t.ks.take i) Ds)
  ⟨rfl,Same.refl _ _,_,[],_,R,Zv0 _ _⟩ ?_
 rintro i _ _ w5 C hi ⟨rfl,c,g,css,Ds,h5,g5⟩ hC;have al:=c.size;have a6:=T.size;have a9:Ext w w5:=by grind [Ext.then]
 have D:=B.same c λb L _ e=>oM
 refine oZ ?_;refine zb (λa=>?_) (λa=>?_)
 .simp(disch:=exact oS) only[push_cast,D.iaddr];refine D.load zc oM λx hx=>?_;obtain⟨cx,rfl,n⟩:=hx.cells;refine zi zq λb6 w6 ac W ag h6=>?_;refine stTerm h6 rfl (n.ext W) λw7 ai an h7=>?_;have O:Ext w5 w7:=(by grind [Ext.then]);refine zd λw8 z _=>?_;have d:=O.trans z;have q8:=h5.ext d;have v8:=h7.ext z;simp only[push_cast,q8.ld4,v8.ldAgg (t:=za) (by rw[zU n];exact zc),y1];have j:t.ks.getD i default∈t.ks:=(by grind);have a7:=d.size;refine ih _ j (n.ext d).term (f2 _ j) λw9 cr o hr=>?_;have q9:=q8.ext o;simp only[push_cast,q9.ld4,y1,V1];have V:=xO0 _ hr;refine qx qf qz zq rfl (zU V) dC λa8 w10 a3 f a4 Q=>?_;have I:=q9.ext f;simp only[push_cast,I.ld4,y1,V1];refine grow_push g5 d o oM hr f Q (by grind) λH ao N g11 k a0 a1=>?_;have a2:=I.same k (λe=>by have:=(g5.blk _ e).1;omega)
  try simp only[push_cast,y1]
  refine a2.st (i:=4) a0 a1 xy rfl λp l a5 m=>?_;replace m:Blk p b1 [nI t.op,nI t.a,nI t.b,.string t.s,H] za:=m;rw[inc64' oM];have q:Same (λb=>b=b1\/g.ownBlock=some b) w5 p:=(Same.of_ext (d.trans (o.trans f))).trans ((k.mono λ_ _ h=> .inr h).trans (l.mono λ_ _ h=> .inl h));have U:Same (λb=>b=b1) J p:=⟨q.os.trans c.os,q.tape.trans c.tape,q.output.trans c.output,gH c.size q.size,λb L E=>(q.block b oM (λe=>e.elim E λe=>by have:=(g5.blk b e).1;omega)).trans (c.block b L E)⟩;rw[Jz oM] at g11;exact hC oM _ _ ⟨rfl,U,H,_,N,m,yj0 g11 l λb L e=>oM⟩
 .have X:i=t.ks.length:=oM;subst X;rw[gy] at g5;rw[h5.ldAgg (t:=za) zc];refine retO (r4.same c oM) rfl (jD0 g5) (λx hx=>oM) λw6 ah am ad=>?_
  grind [Ext.then,qC]
@[push_cast] theorem bd_T4 (o a b:Int) (s:ByteArray):yr za [(0,nI o),(1,nI a),(2,nI b),(3,.string s)] w K=K (.agg ⟨[nI o,nI a,nI b,.string s,oN]⟩) w:=zS j8 (us:=[[nI o],[nI a],[nI b],[.string s]]) rfl rfl
theorem fit_size:∀t:M.Tm,M.sizeM t<=1000->x60 t=true:=by
 refine M.Tm.ind λt d h=>?_;have b:∀i,i<t.ks.length->M.sizeM (M.kid t i)+1<=M.sizeM t:=λi hi=>(M.kid_size hi).1;have c:t.ks.length<=M.sizeM t:=by
  have:=M.szT_all t;have mono:∀i,i<=t.ks.length->i<=M.szT t.ks i:=λi=>by
   induction i with
   |zero=>omega
   |succ i ihi=>
    grind [M.szT_succ,M.size_pos]
  grind
 refine fitB_iff.2 ⟨oM,λk a=>?_⟩;obtain⟨i,hi,rfl⟩:=gn a
 grind [M.kid]
def Qw (ds:List M.Dcl) (t:M.Tm):M.Tm:=if M.tsort ds t= -1 then .mk 0 0 0 M.nada [] else M.foldT ds t
theorem zeroO:TmO w D zj0 (.mk 0 0 0 M.nada []):=
 TmO.mk (t:= .mk 0 0 0 M.nada []) [] (λ_ _=>False) (Own.nil _ _ _ _) rfl (λb h=>(by cases h)) (λi j b _ a=>absurd a (by show¬j<0;omega)) (λi b hi=>absurd hi (by show¬i<0;omega)) (λi hi=>absurd hi (by show¬i<0;omega))
theorem small_of {ds:List M.Dcl} {t:M.Tm} (h:M.tsort ds t≠ -1):M.declOk ds=true/\M.sortM ds t≠ -1/\M.sizeM t<=20:=by
 grind [dtSize,M.fits_iff]
theorem k90 {a:Option Addr} {l c mb:Nat}:yr ye [(0,.slice a l c),(1,.map (some mb))] w K=K (qP (.slice a l c) mb) w:=zS zc0 (us:=[[.slice a l c],[.map (some mb)]]) rfl rfl
theorem TermFold_spec {dv tv:Value} {ds:List M.Dcl} {t:M.Tm} (s:DclsR F w dv ds) (B:TermR G w tv t) (p:∀w' cs,Ext w w'->TmO w' (λb=>w.heap.size<=b/\b<w'.heap.size) cs (Qw ds t)->K (.agg ⟨cs⟩) w'):vcall Kg #[dv,tv] w K:=by
 refine ze {} Tryz.func213 ?_;obtain⟨ct,rfl,r⟩:=B.cells;have u:aggB za ct.length=true:=by rw[zU r];exact zc
 refine zj λb1 w1 S l V Q=>?_;refine zi zq λb2 w2 T m W R=>?_;have L:=Q.ext m;have g:=l.trans m;have Z:=l.size;rw[L.ldAgg (t:=za) u];refine TermSort_spec (s.ext g) (B.ext g) λw3 d=>?_;have q:=g.trans d;have O:=R.ext d;have a0:=d.size;simp only[push_cast];unfold Qw at p;refine zb (λa=>?_) (λa=>?_)
 .rw[y3 a] at p
  try simp only[push_cast]
  refine retO (G:=λ_=>False) O rfl zeroO (λx H=>H.elim) λw4 Y D U=>?_
  grind [Ext.then,qC]
 .rw[y0 a] at p;obtain⟨o,hs,X⟩:=small_of a;refine zd λw4 e _=>?_;have N:=L.ext (d.trans e);simp only[push_cast,N.ldAgg (t:=za) u,y1];refine Wk λw5 mb f hm=>?_;have q5:=N.ext f;have c:=q.trans (e.trans f);obtain⟨da,dc,rfl,_⟩:=s.shape;rw[y4] at*;simp only[push_cast,q5.ldAgg (t:=za) u,y1,V1,k90];refine fold_spec t (G:=λx=>x<w.heap.size) (s.ext c) hm o ((B.weaken λb _ h=>h).ext c) hs λw6 rv i A=>?_;have k:=c.trans i;have j:=M.fold_good o t hs;have E:=j.size;refine copyTerm_spec _ A (fit_size _ oM) λw7 cs n v=>?_;have a1:=c.size;have a2:=k.size;have r7:=O.ext (e.trans (f.trans (i.trans n)));have D:=e.size;have I:=f.size;have J:=i.size;refine retO r7 rfl v (λx H=>oM) λw8 C a3 z=>?_;exact p _ _ (Ext.then (k.trans n) C λy hy=>oM) (qC z λb hb=>⟨oM,oM⟩)
end
end Go.Proofs.YtfnpmncplaibiaaGreatDoor
namespace Go.M
open Go.Vc
section
section
variable {ds:List Dcl} {t:Tm}
def boolM (b:Bool):Tm:=if b=true then truT else flsT
def logicS (t:Tm):Tm:=
 if t.op=25 then(if(kid t 0).op=25 then kid (kid t 0) 0 else t)
 else if t.op=23 then(if isM (kid t 0) 1=true\/(kid t 1=kid t 2/\¬isM (kid t 0) 0=true) then kid t 1 else if isM (kid t 0) 0=true then kid t 2 else t)
 else if isM (kid t 0) (b2i (decide (t.op=26)))=true\/kid t 0=kid t 1 then kid t 1
 else if isM (kid t 1) (b2i (decide (t.op=26)))=true then kid t 0
 else if isM (kid t 0) (1-b2i (decide (t.op=26)))=true\/isM (kid t 1) (1-b2i (decide (t.op=26)))=true then boolM (decide (b2i (decide (t.op=26))=0)) else t
def rightS (t:Tm):Tm:=
 if t.op=4\/t.op=5\/t.op=6\/t.op=7\/t.op=11\/t.op=12\/t.op=13 then(if isM (kid t 1) 0=true then kid t 0 else t)
 else if t.op=3 then(if isM (kid t 1) 0=true then kid t 1 else t)
 else if t.op=8 then(if isM (kid t 1) 0=true then kid t 1 else if isM (kid t 1) 1=true then kid t 0 else t) else t
def alikeS (t:Tm) (w:Int):Tm:=
 if t.op=3\/t.op=4 then kid t 0 else if t.op=5\/t.op=7 then .mk 20 w 0 nada [] else if t.op=15 then truT else if t.op=16\/t.op=17 then flsT else t
def swapS (t:Tm):Tm:= .mk t.op 0 0 nada [kid t 1,kid t 0]
def otherS (t v:Tm):Prop:=v.ks.length≠2\/kid v 0≠kid t 1\/kid v 1≠kid t 0\/v.op≠t.op
instance (t v:Tm):Decidable (otherS t v):=by unfold otherS;infer_instance
def twoS (t:Tm) (w:Int):Tm:=
 if kid t 0=kid t 1/\alikeS t w≠t then alikeS t w
 else if rightS t≠t then rightS t
 else if(t.op=3\/t.op=4\/t.op=5\/t.op=6\/t.op=8)/\otherS t (rightS (swapS t)) then rightS (swapS t) else t
def oneS (ds:List Dcl) (t:Tm):Tm:=
 if allFixed t=true then(if sortM ds t=0 then boolM (decide (evalM ds (zeroE ds) t=1)) else .mk 20 (sortM ds t) (evalM ds (zeroE ds) t) nada [])
 else if t.ks=[] then t
 else if 23<=t.op then logicS t
 else if t.op=22 then(if sortM ds t=sortM ds (kid t 0) then kid t 0 else t)
 else if t.ks.length=1 then(if(kid t 0).op=t.op then kid (kid t 0) 0 else t)
 else twoS t (sortM ds (kid t 0))
theorem kid_ne {i:Nat} (h:i<t.ks.length):kid t i≠t:=λe=>by
 have:=(kid_size h).1
 grind
theorem X_none (h: ¬allFixed t=true):ruleX ds t=none:=by unfold ruleX;grind
theorem xJ0 (a:t.op≠25) (b:t.op≠23):ruleB t=none:=by simp_all[ruleB]
theorem T_none (h: ¬(t.op=26\/t.op=27)):ruleT t=none:=by unfold ruleT;grind
theorem xI0 (a:t.op≠22) (b: ¬(t.op=1\/t.op=2)):ruleL ds t=none:=by simp_all[ruleL]
theorem xH0 (h:t.ks.length≠2):ruleW ds t=none:=by simp_all[ruleW]
theorem S_none (h:t.ks.length≠2):ruleS t=none:=by unfold ruleS;grind
theorem F_none (h:t.ks.length≠2):ruleF t=none:=by unfold ruleF;grind
theorem Qf {α:Type} {b:Option α}:((none:Option α) <|> b)=b:=rfl
theorem or_none {α:Type} {a:Option α}:(a <|> (none:Option α))=a:=by grind
theorem logic_eq (hs:sortM ds t≠ -1) (h: ¬allFixed t=true) (f:23<=t.op) (k:t.ks≠[]):logicS t=oneT ds t:=by
 have m:=len_of hs;have j:0<t.ks.length:=by grind
 have d:=arity_ops (o:=t.op) oM;unfold oneT ruleA;rw[X_none h,Qf];by_cases c:t.op=25
 .have n:t.ks.length=1:=(by grind [arity]);rw[T_none oM,xI0 oM oM,xH0 oM,S_none oM,F_none oM];simp only[or_none];unfold logicS ruleB
  grind
 by_cases b:t.op=23
 .have q:t.ks.length=3:=(by grind [arity]);rw[T_none oM,xI0 oM oM,xH0 oM,S_none oM,F_none oM];simp only[or_none];unfold logicS ruleB
  grind
 have o:t.op=26\/t.op=27:=by
  grind [arity]
 have p:t.ks.length=2:=by grind [arity]
 have i:b2i (decide (t.op=26))=neutral t.op:=by
  simp_all[neutral,b2i]
 have a:boolM (decide (neutral t.op=0))=constM 0 (1-neutral t.op):=by
  unfold neutral;rcases o with e|e
  .rw[y3 e];rfl
  .rw[y0 oM];rfl
 rw[xJ0 c b,Qf];unfold logicS;rw[y0 c,y0 b,i,a];have tail:ruleT t=none->(ruleL ds t <|> ruleW ds t <|> ruleS t <|> ruleF t)=none:=λg=>by
  have l:kid t 0≠kid t 1:=λe=>by
   grind [ruleT]
  rw[xI0 oM oM];have w:ruleW ds t=none:=(by simp_all[ruleW]);have s:ruleS t=none:=by grind [ruleS]
  grind [ruleF]
 cases g:ruleT t with
 |none=>
  grind [ruleT]
 |some u=>
  have:(some u <|> (ruleL ds t <|> ruleW ds t <|> ruleS t <|> ruleF t))=some u:=rfl
  grind [ruleT]
theorem right_eq (b:t.ks.length=2):(ruleS t=none/\rightS t=t)\/(ruleS t=some (rightS t)/\rightS t≠t):=by
 have k0:=kid_ne (t:=t) (i:=0) oM;have a:=kid_ne (t:=t) (i:=1) oM;unfold ruleS rightS
 grind
theorem other_kid {i:Nat} (hi:i=0\/i=1) (a:t.ks.length=2):otherS t (kid t i):=by
 by_cases h:(kid t i).ks.length=2
 .rcases hi with rfl|rfl
  .exact .inr (.inr (.inl (λe=>kid_ne (t:=kid t 0) (i:=1) oM e)))
  .exact .inr (.inl (λe=>kid_ne (t:=kid t 1) (i:=0) oM e))
 .exact .inl h
theorem left_eq (a:t.ks.length=2):ruleF t=if(t.op=3\/t.op=4\/t.op=5\/t.op=6\/t.op=8)/\otherS t (rightS (swapS t)) then some (rightS (swapS t)) else none:=by
 have sw:∀i,kid (swapS t) i=[kid t 1,kid t 0].getD i default:=λi=>rfl;have c:kid (swapS t) 0=kid t 1:=rfl;have s1:kid (swapS t) 1=kid t 0:=rfl;have so:(swapS t).op=t.op:=rfl;have self: ¬otherS t (swapS t):=λh=>by
  rcases h with h|h|h|h
  .exact h rfl
  .exact h rfl
  .exact h rfl
  omega
 have k0:=other_kid (t:=t) (i:=0) (.inl rfl) a;have b:=other_kid (t:=t) (i:=1) (.inr rfl) a;unfold ruleF
 grind [rightS]
theorem two_eq (d:declOk ds=true) (hs:sortM ds t≠ -1) (g: ¬allFixed t=true) (b:t.ks.length=2) (e:t.op<22):twoS t (sortM ds (kid t 0))=oneT ds t:=by
 have i:=len_of hs;have j:=arity_two (o:=t.op) oM;have l:3<=t.op/\t.op<=17:=oM
 have ne:∀{u:Tm},u.op=20\/u.op=24\/u.op=25->u≠t:=by grind
 have f:(ruleW ds t=none/\¬(kid t 0=kid t 1/\alikeS t (sortM ds (kid t 0))≠t))\/(ruleW ds t=some (alikeS t (sortM ds (kid t 0)))/\kid t 0=kid t 1/\alikeS t (sortM ds (kid t 0))≠t):=by
  by_cases a:kid t 0=kid t 1
  .unfold ruleW alikeS;rw[y3 ⟨b,a⟩];by_cases c1:t.op=3\/t.op=4
   .grind [kid_ne]
   rw[y0 c1,y0 c1];by_cases c2:t.op=5\/t.op=7
   .obtain⟨h,_,ev⟩:=bin_parts d hs b oM oM;have k:=vok_lt (ev _ (zeroE_ok d)).1;rw[y3 c2,y3 c2,h];refine .inr ⟨?_,a,ne (.inl rfl)⟩;unfold constM
    grind
   rw[y0 c2,y0 c2];by_cases c3:t.op=15
   .rw[y3 c3,y3 c3];exact .inr ⟨rfl,a,ne (.inr (.inl rfl))⟩
   rw[y0 c3,y0 c3];by_cases c:t.op=16\/t.op=17
   .rw[y3 c,y3 c];exact .inr ⟨rfl,a,ne (.inr (.inr rfl))⟩
   grind
  grind [ruleW]
 unfold oneT ruleA;rw[X_none g,xJ0 oM oM,T_none oM,xI0 oM oM];simp only[Qf];unfold twoS;rcases f with⟨w1,w2⟩|⟨w1,w2⟩
 .rw[y0 w2,w1,Qf];rcases right_eq (t:=t) b with⟨s1,s2⟩|⟨s1,s2⟩
  .grind [left_eq]
  grind
 grind
theorem oneS_eq (l:declOk ds=true) (hs:sortM ds t≠ -1):oneS ds t=oneT ds t:=by
 have r:=len_of hs;unfold oneS;by_cases e:allFixed t=true
 .have k:=eval_in (zeroE_ok l) t hs;have n:oneT ds t=constM (sortM ds t) (evalM ds (zeroE ds) t):=by
   simp_all[oneT,ruleA,ruleX]
  rw[y3 e,n];unfold constM boolM;rcases k with h|h
  .grind
  .have:=vok_lt h
   grind
 rw[y0 e];by_cases f:t.ks=[]
 .simp_all[Zn0,arity_zero]
 rw[y0 f];have p:0<t.ks.length:=by grind
 by_cases d:23<=t.op
 .rw[y3 d];exact logic_eq hs e d f
 rw[y0 d];by_cases c:t.op=22
 .have j:t.ks.length=1:=(by grind [arity]);have q:=sort_one l (sort_parts hs).1 j;have i:=hs;rw[q] at i;have g:=one_good oM i;have g3:=g.2.2 c;have st:sortM ds t=t.a-t.b+1:=by
   grind [oneM]
  rw[y3 c];unfold oneT ruleA;rw[X_none e,xJ0 oM oM,T_none oM,xH0 oM,S_none oM,F_none oM];simp only[Qf,or_none]
  grind [ruleL]
 rw[y0 c];have m:=arity_ops (o:=t.op) oM;by_cases j:t.ks.length=1
 .have s:=arity_one (o:=t.op) oM;rw[y3 j];unfold oneT ruleA;rw[X_none e,xJ0 oM oM,T_none oM,xH0 oM,S_none oM,F_none oM];simp only[Qf,or_none]
  grind [ruleL]
 rw[y0 j]
 grind [arity,two_eq]
end
end
end Go.M
namespace Go.Proofs.YtfnpmncplaibiaaGreatDoor
open Go Go.Vc Go.Proofs
section
variable {w:World} {K:oK} {F D G:oA}
def Qb (G:oA) (n b4:Nat) (x:Nat):Prop:=(G x/\x<n)\/b4<x
structure RT (G:oA) (w0 w:World) (b3 b4:Nat) (kv:Value) (t:M.Tm):Prop where
 ext:Ext w0 w
 q:Blk w b3 [nI t.op,nI t.a,nI t.b,.string t.s,kv] za
 r:Blk w b4 zj0 za
 k:TmsR (λx=>G x/\x<w0.heap.size) w kv t.ks
 lo:w0.heap.size<=b4
section
variable {w0 w':World} {b3 b4:Nat} {kv:Value} {t:M.Tm}
theorem yh (h:RT G w0 w b3 b4 kv t) (he:Ext w w'):RT G w0 w' b3 b4 kv t:=⟨h.ext.trans he,h.q.ext he,h.r.ext he,h.k.ext he,h.lo⟩
theorem rt_enter {tv:Value} {B:Value->oK} (q:TermR G w tv t) (l:∀w' b3 b4 kv,RT G w w' b3 b4 kv t->B (ptr b3) (ptr b4) w'):
  yF0 za tv w λt3 e=>qt za e λt4 f=>B t3 t4 f:=by
 obtain⟨kv,rfl,d⟩:=q;refine zj λb2 w2 m c o j=>?_;refine zi zq λb3 r n a p k=>?_;have g:=c.trans a;exact l _ _ _ kv ⟨g,j.ext a,k,(d.weaken λb h i=>⟨h,i⟩).ext g,oM⟩
abbrev X00 (K:oK) (w:World) (G:oA) (u:M.Tm):Prop:=∀w' rv,Ext w w'->TermR (λx=>G x\/w.heap.size<=x) w' rv u->K rv w'
theorem rt_give (h:RT G w0 w b3 b4 kv t) {rv:Value} {u:M.Tm} (hu:TermR (Qb G w0.heap.size b4) w rv u) (e:X00 K w0 G u):
  zT za (ptr b4) rv w λ_ w1=>vlv za (ptr b4) w1 λr w2=>K r w2:=by
 obtain⟨cs,rfl,a⟩:=hu.cells;have f:=h.lo;refine qr h.r rfl a (λx d=>by rcases d with h|h<;>omega) λj c i b=>?_;exact e _ _ (Ext.then h.ext c λy g=>by subst g;exact h.lo) (b.weaken λx d _=>by
  rcases d with h|h
  .exact .inl h.1
  .exact .inr oM)
theorem qu {n:Nat} {rv:Value} {u:M.Tm} (hu:TermR (λx=>G x/\x<n) w' rv u):TermR (Qb G n b4) w' rv u:=hu.weaken λx a _=> .inl a
theorem rt_new (h:RT G w0 w b3 b4 kv t) {rv:Value} {u:M.Tm} (hu:TermR (λx=>w.heap.size<=x) w' rv u):TermR (Qb G w0.heap.size b4) w' rv u:=hu.weaken λx a _=> .inr (by have:=h.r.lt;omega)
theorem qa (h:RT G w0 w b3 b4 kv t):TermR (λx=>G x/\x<w0.heap.size) w (.agg ⟨[nI t.op,nI t.a,nI t.b,.string t.s,kv]⟩) t:=⟨kv,rfl,h.k⟩
end
theorem spec_TermSame_spec:∀(t:M.Tm) {w:World} {K:oK} {F G:oA} {va vb:Value} {u:M.Tm},TermR F w va t->TermR G w vb u->(∀w',Ext w w'->K (.bool (decide (t=u))) w')->vcall JT #[va,vb] w K:=by
 refine M.Tm.ind λt Y w K F G va vb u Q R L=>?_;refine ze {loops:=[(4,[5])],cuts:=[(8195,[])]} Tryz.func226 ?_;obtain⟨kva,rfl,f⟩:=Q;obtain⟨kvb,rfl,v⟩:=R;refine zj λb1 w1 S D V z=>?_;refine zj λb2 w2 T q W k=>?_;have p:=z.ext q;have l:=D.trans q;have no:∀w',Ext w w'->t≠u->K (.bool false) w':=λw' h U=>by
  have:=L w' h;rwa[gj U] at this
 refine zo (λx w'=>x=[]/\w'=w2/\t.op=u.op/\t.a=u.a/\t.b=u.b/\t.s=u.s/\t.ks.length=u.ks.length) (λC A=>?_) ?_
 .simp only[push_cast,p.ld0,k.ld0,p.ld1,k.ld1,p.ld2,k.ld2,p.ld3,k.ld3,p.ld4,k.ld4,(f.ext l).len,(v.ext l).len];refine zb (λe=>no _ l λh=>e (by rw[h])) (λH=>?_);refine zb (λe=>no _ l λh=>e (by rw[h])) (λI=>?_);refine zb (λe=>no _ l λh=>e (by rw[h])) (λJ=>?_);refine zb (λe=>no _ l λh=>e (by rw[h])) (λy=>?_);refine zb (λe=>no _ l λh=>e (by rw[h])) (λe5=>?_);exact A _ _ ⟨rfl,rfl,oM,oM,oM,by simpa using y,oM⟩
 rintro x g E ⟨rfl,rfl,H,I,J,y,el⟩;have X:=f.small;refine vloop_up t.ks.length (λi x w'=>x=[nI i]/\Ext E w'/\∀j,j<i->t.ks.getD j default=u.ks.getD j default) ⟨rfl,Same.refl _ _,λj N=>absurd N oM⟩ ?_;rintro i _ _ w3 C hi ⟨rfl,c,m⟩ A;have n:=l.trans c;have B:=f.ext n;have O:=p.ext c;simp(disch:=exact oS) only[push_cast,O.ld4,B.len];refine zb (λa=>?_) (λa=>?_)
 .refine zd λw4 d _=>?_;have o:=n.trans d;have Z:=O.ext d;have r4:=k.ext (c.trans d);obtain⟨ca,sa,la,ka⟩:=f.ext o;obtain⟨cb,sb,lb,kb⟩:=v.ext o;simp(disch:=exact oS) only[push_cast,Z.ld4,r4.ld4,sa.iaddr,sa.ldAgg,sb.iaddr,sb.ldAgg,y1];refine Y _ (M.getD_mem oM _) (ka i oM).term (kb i oM).term λw8 r=>?_;simp only[push_cast,y1];refine zn (λb=>?_) (λb=>?_)
  .rw[gV,decide_eq_false_iff_not] at b;exact no _ (o.trans r) λh=>b (by rw[h])
  .rw[gU,X0] at b;rw[inc64' oM];refine A oM _ _ ⟨rfl,c.trans (d.trans r),λj N=>?_⟩;by_cases e:j<i
   .exact m j e
   .have:j=i:=oM;subst this;exact b
 .have:t=u:=M.tm_ext H I J y (gL el λj z k=>by
   have:=m j oM;rwa[y2,V0 z,y2,V0 k] at this)
  have:=L w3 n;rwa[gu ‹t=u›] at this
theorem l3False_spec (i:∀w' v,Ext w w'->TermR (λb=>w.heap.size<=b) w' v M.flsT->K v w'):vcall V9 #[] w K:=by
 refine ze {} Tryz.func224 ?_;refine zi zq λb1 w1 k d m g=>?_;refine oZ ?_;refine XB0 (Xy (o:=24) (F:=λ_=>False)) λw2 a c n u=>?_;refine oZ ?_;have l:TmR (λb=>b≠b1/\w.heap.size<=b) w2 _ M.flsT:=(TmR.of (t:=M.flsT) u).weaken λz r _=>by
  rcases r with h|h
  .exact h.elim
  .exact⟨oM,oM⟩
 refine qr (g.ext c) rfl l (λx p=>p.1) λA f s e=>?_;exact i _ _ (Ext.then (d.trans c) f λy q=>by subst q;omega) (e.weaken λb j _=>j.2)
theorem l3Bool_spec {b:Bool} (l:∀w' v,Ext w w'->TermR (λb=>w.heap.size<=b) w' v (M.boolM b)->K v w'):vcall WU #[.bool b] w K:=by
 refine ze {} Tryz.func170 ?_;refine zi zq λb1 w1 o c p k=>?_;refine zn (λa=>?_) (λa=>?_)
 .subst a;refine oZ ?_;refine qr k rfl (yb0 24 0 0 _:TmR (λ_=>False) w1 _ _) (λx n=>n.elim) λq e j d=>?_;exact l _ _ (Ext.then c e λy i=>by subst i;omega) (d.weaken λb m _=>m.elim)
 .subst a;refine l3False_spec λw2 v f h=>?_;obtain⟨cs,rfl,g⟩:=h.cells;refine qr (k.ext f) rfl g (λx n=>oM) λq e j d=>?_;exact l _ _ (Ext.then (c.trans f) e λy i=>by subst i;omega) (d.weaken λb m _=>by have:=c.size;omega)
@[push_cast] theorem bd_T2 (o a:Int):yr za [(0,nI o),(1,nI a)] w K=K (.agg ⟨[nI o,nI a,nI 0,.string ⟨#[]⟩,oN]⟩) w:=zS j8 (us:=[[nI o],[nI a]]) rfl rfl
theorem l3Zero_spec {s:Int} (f:∀w' v,Ext w w'->TermR (λb=>w.heap.size<=b) w' v (.mk 20 s 0 M.nada [])->K v w'):vcall WS #[nI s] w K:=by
 refine ze {} Tryz.func274 ?_;refine zi zq λb1 w1 h a i e=>?_;refine oZ ?_;refine qr e rfl (yb0 20 s 0 _:TmR (λ_=>False) w1 _ _) (λx j=>j.elim) λm d l c=>?_;exact f _ _ (Ext.then a d λy k=>by subst k;omega) (c.weaken λb g _=>g.elim)
theorem jT {v:Value} {t:M.Tm} (B:TermR F w v t) (G:∀w',Ext w w'->K (.tuple #[nI ((M.fixedM t).getD 0),.bool (M.fixedM t).isSome]) w'):vcall J6 #[v] w K:=by
 refine ze {} Tryz.func222 ?_;have r:=B;obtain⟨kv,rfl,y⟩:=B;refine zj λb1 w1 H m J A=>?_;have out:∀w' o,Ext w w'->M.fixedM t=o->K (.tuple #[nI (o.getD 0),.bool o.isSome]) w':=λw' o h e=>by rw[<-e];exact G w' h
 rw[A.ldAgg (t:=za) zc];refine oZ ?_;refine spec_TermSame_spec t (r.ext m) (Xy (o:=24) (F:=λ_=>False)) λN n=>?_;have k:=m.trans n;refine zb (λd=>?_) (λd=>?_)
 .exact out N (some 1) k (y3 d)
 have z: ¬t=M.truT:=d;refine zd λR p _=>?_;have l:=k.trans p;have C:=A.ext (n.trans p);simp only[push_cast,C.ldAgg (t:=za) zc,y1];refine l3False_spec λS fv g x=>?_;have D:=C.ext g;simp only[push_cast,D.ldAgg (t:=za) zc,y1,V1];refine spec_TermSame_spec t (r.ext (l.trans g)) x λO q=>?_;have c:=l.trans (g.trans q);have j:=D.ext q;refine zb (λf=>?_) (λf=>?_)
 .refine out O (some 0) c ?_;unfold M.fixedM;rw[y0 z,y3 f]
 have E: ¬t=M.flsT:=f;have no:∀w',Ext w w'->¬(t.op=20/\t.ks=[]/\t.s=M.nada/\M.vok t.a t.b=true)->K (.tuple #[nI 0,.bool false]) w':=λw' h I=>out w' none h (by unfold M.fixedM;rw[y0 z,y0 E,y0 I]);simp only[push_cast,j.ld0];refine zb (λc1=>?_) (λc1=>no _ c λh=>c1 h.1);simp only[push_cast,j.ld4,(y.ext c).len];refine zb (λc2=>?_) (λc2=>no _ c λh=>c2 (nil_len.2 h.2.1))
 try simp only[push_cast,j.ld3]
 refine zb (λc3=>?_) (λc3=>no _ c λh=>c3 h.2.2.1)
 try simp only[push_cast,j.ld1,j.ld2]
 refine spec_VecOk_spec λQ i=>?_;have L:=j.ext i;refine zn (λu=>?_) (λu=>no _ (c.trans i) λh=>by rw[h.2.2.2] at u;cases u);simp only[push_cast,L.ld2];refine out Q (some t.b) (c.trans i) ?_;rw[yl0 c1,y3 ⟨nil_len.1 c2,c3,u⟩]
theorem ql {v:Value} {t:M.Tm} {n:Int} (i:TermR F w v t) (f:∀w',Ext w w'->K (.bool (M.isM t n)) w'):vcall yZ0 #[v,nI n] w K:=by
 refine ze {} Tryz.func225 ?_;obtain⟨cs,rfl,a⟩:=i.cells;refine zj λb1 w1 g b h d=>?_;rw[d.ldAgg (t:=za) (by rw[zU a];exact zc)];refine jT (a.ext b).term λw2 c=>?_;have:=f w2 (b.trans c);unfold M.isM at this;simp only[push_cast];cases e:M.fixedM t with
 |none=>rw[e] at this;exact this
 |some m=>
  rw[e] at this;simp only[Gp] at this;exact this
theorem l3All_spec {v:Value} {t:M.Tm} (G:TermR F w v t) (q:∀w',Ext w w'->K (.bool (M.allFixed t)) w'):vcall zS0 #[v] w K:=by
 refine ze {loops:=[(2,[3])]} Tryz.func168 ?_;obtain⟨kv,rfl,n⟩:=G;refine zj λb1 w1 A p D s=>?_;have E:=n.small;refine vloop_up t.ks.length (λi u w'=>u=[nI i]/\Ext w1 w'/\∀j,j<i->(M.fixedM (t.ks.getD j default)).isSome=true) ⟨rfl,Same.refl _ _,λj o=>absurd o oM⟩ ?_;rintro i _ _ I C hi ⟨rfl,g,d⟩ y;have f:=p.trans g;have r:=s.ext g;have a:=n.ext f;simp only[push_cast,r.ld4,a.len];refine zb (λb=>?_) (λb=>?_)
 .simp(disch:=exact oS) only[push_cast,a.iaddr];refine a.load zc oM λx H=>?_;refine jT H λJ m=>?_;refine oZ ?_;refine zn (λc=>?_) (λc=>?_)
  .rw[gV] at c;have:M.allFixed t=false:=by
    unfold M.allFixed;rw[pg];right;rw[List.all_eq_false];exact⟨_,M.getD_mem (l:=t.ks) (i:=i) oM default,by rw[c];decide⟩
   have h:=q J (f.trans m);rwa[this] at h
  .rw[gU] at c;rw[inc64' oM];refine y oM _ _ ⟨rfl,g.trans m,λj o=>?_⟩;by_cases e:j<i
   .exact d j e
   .have:j=i:=oM;subst this;exact c
 .try simp only[push_cast,r.ld4,a.len]
  have:M.allFixed t=decide (0<(t.ks.length:Int)):=by
   unfold M.allFixed;have z:(t.ks.all λk=>(M.fixedM k).isSome)=true:=by
    rw[Gb];intro k B;obtain⟨j,o,rfl⟩:=gn B;have:=d j oM;rwa[y2,V0 o] at this
   rw[z,PK];have e:(t.ks≠[])↔0<(t.ks.length:Int):=by rw[<-GB];omega
   exact decide_eq_decide.2 e
  have h:=q I f;rwa[this] at h
theorem l3Right_spec {v:Value} {t:M.Tm} (ht:TermR G w v t) (h2:t.ks.length=2) (m:X00 K w G (M.rightS t)):vcall V7 #[v] w K:=by
 refine ze {cuts:=[(20491,[15])]} Tryz.func228 ?_;refine rt_enter (B:=λt3 t4 a7=>_) ht λw1 b3 b4 kv rs=>?_;simp(disch:=exact oS) only[push_cast,rs.q.ld4,rs.k.iaddr];refine rs.k.load zc oM λx hx=>?_;obtain⟨c,rfl,S⟩:=hx.cells;refine zi zq λb5 w2 a0 F a2 h5=>?_;refine stTerm h5 rfl (S.ext F) λO T a4 R=>?_;have C:Ext w1 O:=Ext.then F T λy I=>by subst I;omega
 have N:=yh rs C;simp(disch:=exact oS) only[push_cast,N.q.ld4,N.k.iaddr];refine N.k.load zc oM λy I=>?_;obtain⟨c',rfl,s⟩:=I.cells;refine zi zq λb6 Z a1 H a3 h6=>?_;refine stTerm h6 rfl (s.ext H) λQ U a5 l=>?_;have n:Ext O Q:=Ext.then H U λy I=>by subst I;omega
 have J:=yh N n;have W:=R.ext n;have gc:aggB za c.length=true:=by rw[zU S];exact zc
 have f:aggB za c'.length=true:=by rw[zU s];exact zc
 have E:TmR (λx=>G x/\x<w.heap.size) Q c (M.kid t 0):=S.ext (C.trans n);have d:TmR (λx=>G x/\x<w.heap.size) Q c' (M.kid t 1):=s.ext n;simp only[push_cast,J.q.ld0];refine zo (λu w'=> ∃b:Bool,u=[.bool b]/\w'=Q/\(b=true↔t.op=4\/t.op=5\/t.op=6\/t.op=7\/t.op=11\/t.op=12\/t.op=13)) (λD hD=>?_) ?_
 .try simp only[push_cast]
  refine zb (λc=>hD _ _ ⟨_,rfl,rfl,⟨λ_=>oM,λ_=>by rw[X0];exact c⟩⟩) (λc1=>?_);refine zb (λc=>hD _ _ ⟨_,rfl,rfl,⟨λ_=>oM,λ_=>by rw[X0];exact c⟩⟩) (λc2=>?_);refine zb (λc=>hD _ _ ⟨_,rfl,rfl,⟨λ_=>oM,λ_=>by rw[X0];exact c⟩⟩) (λc3=>?_);refine zb (λc=>hD _ _ ⟨_,rfl,rfl,⟨λ_=>oM,λ_=>by rw[X0];exact c⟩⟩) (λc4=>?_);refine zb (λc=>hD _ _ ⟨_,rfl,rfl,⟨λ_=>oM,λ_=>by rw[X0];exact c⟩⟩) (λc5=>?_);refine zb (λc=>hD _ _ ⟨_,rfl,rfl,⟨λ_=>oM,λ_=>by rw[X0];exact c⟩⟩) (λc6=>?_);exact hD _ _ ⟨_,rfl,rfl,⟨λh=>by rw[X0] at h;omega,λh=>by rw[X0];omega⟩⟩
 rintro u g a6 ⟨b,rfl,rfl,X⟩;refine oZ ?_;have self:∀{w'},RT G w w' b3 b4 kv t->M.rightS t=t->zu za (ptr b3) w' λr w2=>zT za (ptr b4) r w2 λ_ O=>vlv za (ptr b4) O λr Z=>K r Z:=λ{w'} h e=>by
  rw[h.q.ldAgg (t:=za) zc];rw[e] at m;exact rt_give h (qu (qa h)) m
 refine zn (λo=>?_) (λo=>?_)
 .have o4:=X.1 o;rw[l.ldAgg (t:=za) f];refine ql d.term λw6 a=>?_;have p:=yh J a;have e:M.rightS t=if M.isM (M.kid t 1) 0=true then M.kid t 0 else t:=by unfold M.rightS;rw[y3 o4]
  refine zn (λi=>?_) (λi=>?_)
  .rw[(W.ext a).ldAgg (t:=za) gc];rw[e,y3 i] at m;exact rt_give p (qu (E.ext a).term) m
  .exact self p (by rw[e,i];rfl)
 have A: ¬(t.op=4\/t.op=5\/t.op=6\/t.op=7\/t.op=11\/t.op=12\/t.op=13):=λh=>by have:=X.2 h;rw[o] at this;cases this
 try simp only[push_cast]
 refine zb (λL=>?_) (λL=>?_)
 .rw[l.ldAgg (t:=za) f];refine ql d.term λw6 a=>?_;have p:=yh J a;have e:M.rightS t=if M.isM (M.kid t 1) 0=true then M.kid t 1 else t:=by unfold M.rightS;rw[y0 A,y3 L]
  refine zn (λi=>?_) (λi=>?_)
  .rw[(l.ext a).ldAgg (t:=za) f];rw[e,y3 i] at m;exact rt_give p (qu (d.ext a).term) m
  .exact self p (by rw[e,i];rfl)
 try simp only[push_cast]
 refine zb (λV=>?_) (λV=>?_)
 .rw[l.ldAgg (t:=za) f];refine ql d.term λw6 a=>?_;have p:=yh J a;have e:M.rightS t=if M.isM (M.kid t 1) 0=true then M.kid t 1 else if M.isM (M.kid t 1) 1=true then M.kid t 0 else t:=by unfold M.rightS;rw[y0 A,y0 L,y3 V]
  refine zn (λi=>?_) (λi=>?_)
  .rw[(l.ext a).ldAgg (t:=za) f];rw[e,y3 i] at m;exact rt_give p (qu (d.ext a).term) m
  .rw[(l.ext a).ldAgg (t:=za) f];refine ql (d.ext a).term λw7 z=>?_;have Y:=yh p z;refine zn (λj=>?_) (λj=>?_)
   .rw[(W.ext (a.trans z)).ldAgg (t:=za) gc];rw[e,i,y0 dC,y3 j] at m;exact rt_give Y (qu (E.ext (a.trans z)).term) m
   .exact self Y (by rw[e,i,j];rfl)
 .exact self J (by unfold M.rightS;rw[y0 A,y0 L,y0 V])
theorem l3Alike_spec {v:Value} {t:M.Tm} {s:Int} (A:TermR G w v t) (H:t.ks.length=2) (i:X00 K w G (M.alikeS t s)):vcall Va #[v,nI s] w K:=by
 refine ze {cuts:=[(12292,[7]),(24583,[14])]} Tryz.func227 ?_;refine rt_enter (B:=λt3 t4 E=>_) A λw1 b3 b4 kv rs=>?_;simp only[push_cast,rs.q.ld0];refine zo (λu w'=> ∃b:Bool,u=[.bool b]/\w'=w1/\(b=true↔t.op=3\/t.op=4)) (λD hD=>?_) ?_
 .try simp only[push_cast]
  refine zb (λc=>hD _ _ ⟨_,rfl,rfl,⟨λ_=>oM,λ_=>by rw[X0];exact c⟩⟩) (λc1=>?_);exact hD _ _ ⟨_,rfl,rfl,⟨λh=>by rw[X0] at h;omega,λh=>by rw[X0];omega⟩⟩
 rintro u g r ⟨b,rfl,rfl,y⟩;refine oZ ?_;refine zn (λo=>?_) (λo=>?_)
 .simp(disch:=exact oS) only[push_cast,rs.q.ld4,rs.k.iaddr];refine rs.k.load zc oM λx C=>?_;have e:M.alikeS t s=M.kid t 0:=by unfold M.alikeS;rw[y3 (y.1 o)]
  rw[e] at i;exact rt_give rs (qu C) i
 have n: ¬(t.op=3\/t.op=4):=λh=>by have:=y.2 h;rw[o] at this;cases this
 refine zo (λu w'=> ∃b:Bool,u=[.bool b]/\w'=r/\(b=true↔t.op=5\/t.op=7)) (λD hD=>?_) ?_
 .try simp only[push_cast]
  refine zb (λc=>hD _ _ ⟨_,rfl,rfl,⟨λ_=>oM,λ_=>by rw[X0];exact c⟩⟩) (λc1=>?_);exact hD _ _ ⟨_,rfl,rfl,⟨λh=>by rw[X0] at h;omega,λh=>by rw[X0];omega⟩⟩
 rintro I g2 z ⟨F,rfl,rfl,m⟩;refine oZ ?_;refine zn (λo=>?_) (λo=>?_)
 .have e:M.alikeS t s= .mk 20 s 0 M.nada []:=by unfold M.alikeS;rw[y0 n,y3 (m.1 o)]
  rw[e] at i;refine l3Zero_spec λw2 v2 a d=>?_;exact rt_give (yh rs a) (rt_new rs d) i
 have p: ¬(t.op=5\/t.op=7):=λh=>by have:=m.2 h;rw[o] at this;cases this
 try simp only[push_cast]
 refine zb (λj=>?_) (λj=>?_)
 .have e:M.alikeS t s=M.boolM true:=by unfold M.alikeS;rw[y0 n,y0 p,y3 j];rfl
  rw[e] at i;refine l3Bool_spec λw2 v2 a d=>?_;exact rt_give (yh rs a) (rt_new rs d) i
 by_cases l:t.op=16
 .have e:M.alikeS t s=M.boolM false:=by unfold M.alikeS;rw[y0 n,y0 p,y0 j,y3 (.inl l)];rfl
  rw[e] at i;simp only[l,decide_true,push_cast];refine l3Bool_spec λw2 v2 a d=>?_;exact rt_give (yh rs a) (rt_new rs d) i
 .simp only[l,decide_false,push_cast];refine zb (λf=>?_) (λf=>?_)
  .have e:M.alikeS t s=M.boolM false:=by unfold M.alikeS;rw[y0 n,y0 p,y0 j,y3 (.inr f)];rfl
   rw[e] at i;refine l3Bool_spec λw2 v2 a d=>?_;exact rt_give (yh rs a) (rt_new rs d) i
  .have e:M.alikeS t s=t:=by unfold M.alikeS;rw[y0 n,y0 p,y0 j,y0 oM]
   rw[e] at i;rw[rs.q.ldAgg (t:=za) zc];exact rt_give rs (qu (qa rs)) i
end
section
variable {w:World} {K:oK} {F F' D G:oA}
theorem l3Logic_spec {v:Value} {t:M.Tm} {ds:List M.Dcl} (ht:TermR G w v t) (hs:M.sortM ds t≠ -1) (ad:23<=t.op) (ak:t.ks≠[]) (f:X00 K w G (M.logicS t)):vcall V8 #[v] w K:=by
 have hlen:=M.len_of hs;have aj:0<t.ks.length:=by grind
 have ab:=M.arity_ops (o:=t.op) oM;have a9:t.op=25->t.ks.length=1:=by grind [M.arity]
 have a8:t.op=23->t.ks.length=3:=by grind [M.arity]
 refine ze {cuts:=[(36874,[]),(65552,[61])]} Tryz.func171 ?_;refine rt_enter (B:=λt3 t4 au=>_) ht λw1 b3 b4 kv rs=>?_;simp(disch:=exact oS) only[push_cast,rs.q.ld4,rs.k.iaddr];refine rs.k.load zc oM λx hx=>?_;obtain⟨c,rfl,W⟩:=hx.cells;have gc:aggB za c.length=true:=by rw[zU W];exact zc
 refine zi zq λb5 w2 ae a5 al h5=>?_;refine stTerm h5 rfl (W.ext a5) λw3 an ap F=>?_;have U:Ext w1 w3:=by grind [Ext.then]
 have I:=yh rs U;have O:TmR (λx=>G x/\x<w.heap.size) w3 c (M.kid t 0):=W.ext U;simp only[push_cast,I.q.ld0];refine zb (λa4=>?_) (λa4=>?_)
 .obtain⟨ar,rfl,a0⟩:=O.inv;simp only[push_cast,F.ld0];refine zb (λd=>?_) (λd=>?_)
  .have k0:=M.good_kid hs (i:=0) (by have:=a9 a4;omega);have ag:(M.kid t 0).ks.length=1:=by have:=M.len_of k0;rw[d] at this;simp[M.arity] at this;omega
   simp(disch:=exact oS) only[push_cast,F.ld4,a0.iaddr];refine a0.load zc oM λy hy=>?_;have e:M.logicS t=M.kid (M.kid t 0) 0:=(by simp_all[M.logicS]);rw[e] at f;exact rt_give I (qu hy) f
  .have e:M.logicS t=t:=by unfold M.logicS;grind
   rw[e] at f;rw[I.q.ldAgg (t:=za) zc];exact rt_give I (qu (qa I)) f
 try simp only[push_cast]
 refine zb (λa3=>?_) (λa3=>?_)
 .have ah:=a8 a3;have E:M.logicS t=if M.isM (M.kid t 0) 1=true\/(M.kid t 1=M.kid t 2/\¬M.isM (M.kid t 0) 0=true) then M.kid t 1 else if M.isM (M.kid t 0) 0=true then M.kid t 2 else t:=by simp_all[M.logicS]
  have D:∀{w'},RT G w w' b3 b4 kv t->(M.isM (M.kid t 0) 1=true\/(M.kid t 1=M.kid t 2/\¬M.isM (M.kid t 0) 0=true))->∀x,TermR (λx=>G x/\x<w.heap.size) w' x (M.kid t 1)->zT za (ptr b4) x w' λ_ w1=>vlv za (ptr b4) w1 λr w2=>K r w2:=λh W x hx=>by
   rw[E,y3 W] at f;exact rt_give h (qu hx) f
  refine zo (λu w'=>u=[]/\Ext w3 w'/\¬(M.isM (M.kid t 0) 1=true\/(M.kid t 1=M.kid t 2/\¬M.isM (M.kid t 0) 0=true))) (λC hC=>?_) ?_
  .refine zd λw4 b _=>?_;have r4:=yh I b;have A4:=F.ext b;have X:=O.ext b;simp only[push_cast,A4.ldAgg (t:=za) gc,y1];refine ql X.term λw5 p=>?_;have n:=yh r4 p;obtain⟨cks,H,ai,R⟩:=n.k;refine zn (λi=>?_) (λi=>?_)
   .simp(disch:=exact oS) only[push_cast,n.q.ld4,H.iaddr,H.ldAgg];exact D n (.inl i) _ (R 1 oM).term
   .simp(disch:=exact oS) only[push_cast,n.q.ld4,H.iaddr,H.ldAgg,y1];refine spec_TermSame_spec _ (R 1 oM).term (R 2 oM).term λw6 a=>?_;have r6:=yh n a;refine zb (λs=>?_) (λs=>?_)
    .have A6:=A4.ext (p.trans a);simp only[push_cast,A6.ldAgg (t:=za) gc,y1];refine ql (X.ext (p.trans a)).term λw7 m=>?_;have r7:=yh r6 m;have s7:=H.ext (a.trans m);simp only[push_cast,y1];refine zn (λj=>?_) (λj=>?_)
     .rw[gV] at j;simp(disch:=exact oS) only[push_cast,r7.q.ld4,s7.iaddr,s7.ldAgg];exact D r7 (.inr ⟨s,by grind⟩) _ ((R 1 oM).ext (a.trans m)).term
     .rw[gU] at j;exact hC _ _ ⟨rfl,b.trans (p.trans (a.trans m)),λh=>h.elim (λh=>by grind) λh=>h.2 j⟩
    .exact hC _ _ ⟨rfl,b.trans (p.trans a),λh=>h.elim (λh=>by grind) λh=>s h.1⟩
  rintro u g w4 ⟨rfl,b,hn⟩;have r4:=yh I b;rw[(F.ext b).ldAgg (t:=za) gc];refine ql (O.ext b).term λw5 p=>?_;have n:=yh r4 p;refine zn (λi=>?_) (λi=>?_)
  .simp(disch:=exact oS) only[push_cast,n.q.ld4,n.k.iaddr];refine n.k.load zc oM λy hy=>?_;rw[E,y0 hn,y3 i] at f;exact rt_give n (qu hy) f
  .rw[E,y0 hn,i,y0 dC] at f;rw[n.q.ldAgg (t:=za) zc];exact rt_give n (qu (qa n)) f
 have o:t.op=26\/t.op=27:=by
  grind [M.arity]
 have l2:t.ks.length=2:=by grind [M.arity]
 simp(disch:=exact oS) only[push_cast,I.q.ld4,I.k.iaddr];refine I.k.load zc oM λy hy=>?_;obtain⟨c',rfl,S⟩:=hy.cells;have L:aggB za c'.length=true:=by rw[zU S];exact zc
 refine zi zq λb6 w4 af b am h6=>?_;refine stTerm h6 rfl (S.ext b) λw5 ao aq N=>?_;have J:Ext w3 w5:=by grind [Ext.then]
 have n:=yh I J;have A5:=F.ext J;have Q:=O.ext J;have z:TmR (λx=>G x/\x<w.heap.size) w5 c' (M.kid t 1):=S.ext J;simp only[push_cast,n.q.ld0];refine Xe ?_;generalize aa:M.b2i (decide (t.op=26))=one;have ac:one=0\/one=1:=by grind [M.b2i]
 have E:M.logicS t=if M.isM (M.kid t 0) one=true\/M.kid t 0=M.kid t 1 then M.kid t 1 else if M.isM (M.kid t 1) one=true then M.kid t 0 else if M.isM (M.kid t 0) (1-one)=true\/M.isM (M.kid t 1) (1-one)=true then M.boolM (decide (one=0)) else t:=by
  simp_all[M.logicS]
 refine zo (λu w'=> ∃e:Bool,u=[.bool e]/\Ext w5 w'/\(e=true↔M.isM (M.kid t 0) one=true\/M.kid t 0=M.kid t 1)) (λC hC=>?_) ?_
 .rw[A5.ldAgg (t:=za) gc];refine ql Q.term λw6 a=>?_;refine zn (λi=>?_) (λi=>?_)
  .grind
  .try simp only[push_cast]
   rw[(A5.ext a).ldAgg (t:=za) gc,(N.ext a).ldAgg (t:=za) L];refine spec_TermSame_spec _ (Q.ext a).term (z.ext a).term λw7 m=>?_;refine hC _ _ ⟨_,rfl,a.trans m,?_⟩
   grind
 rintro u g w6 ⟨e,rfl,a,a6⟩;have r6:=yh n a;refine oZ ?_;refine zn (λi=>?_) (λi=>?_)
 .rw[(N.ext a).ldAgg (t:=za) L];rw[E,y3 (a6.1 i)] at f;exact rt_give r6 (qu (z.ext a).term) f
 have n1: ¬(M.isM (M.kid t 0) one=true\/M.kid t 0=M.kid t 1):=by grind
 rw[(N.ext a).ldAgg (t:=za) L];refine ql (z.ext a).term λw7 m=>?_;have r7:=yh r6 m;have A:=a.trans m;refine zn (λj=>?_) (λj=>?_)
 .rw[(A5.ext A).ldAgg (t:=za) gc];rw[E,y0 n1,y3 j] at f;exact rt_give r7 (qu (Q.ext A).term) f
 have n2: ¬M.isM (M.kid t 1) one=true:=by grind
 have a2:IntKind.i64.wrap (1-one)=1-one:=zk oM oM;rw[(A5.ext A).ldAgg (t:=za) gc];simp only[push_cast,a2];refine ql (Q.ext A).term λw8 Z=>?_;have r8:=yh r7 Z;refine zn (λk=>?_) (λk=>?_)
 .try simp only[push_cast]
  refine l3Bool_spec λw9 v9 T a7=>?_;rw[E,y0 n1,y0 n2,y3 (.inl k)] at f;exact rt_give (yh r8 T) (rt_new r8 a7) f
 have V:=A.trans Z;rw[(N.ext V).ldAgg (t:=za) L]
 try simp only[push_cast,a2]
 refine ql (z.ext V).term λw9 T=>?_;have r9:=yh r8 T;refine zn (λl=>?_) (λl=>?_)
 .try simp only[push_cast]
  refine l3Bool_spec λw10 v10 Y a1=>?_;rw[E,y0 n1,y0 n2,y3 (.inr l)] at f;exact rt_give (yh r9 Y) (rt_new r9 a1) f
 .rw[E,y0 n1,y0 n2,y0 (λh=>h.elim (λh=>by grind) λh=>by grind)] at f;rw[r9.q.ldAgg (t:=za) zc];exact rt_give r9 (qu (qa r9)) f
theorem l3Two_spec {v:Value} {t:M.Tm} {s:Int} (ht:TermR G w v t) (h2:t.ks.length=2) (W:X00 K w G (M.twoS t s)):vcall zQ0 #[v,nI s] w K:=by
 refine ze {cuts:=[(8197,[]),(36881,[]),(40974,[34]),(61455,[7])]} Tryz.func172 ?_;refine rt_enter (B:=λt3 t4 av=>_) ht λw1 b3 b4 kv rs=>?_;have l4:=rs.r.lt;have ap:=rs.lo;have low:∀{w':World} {cs:List Value} {u:M.Tm},Ext w1 w'->TmR (λx=>(G x/\x<w.heap.size)\/w'.heap.size<=x) w' cs u->True:=by grind
 clear low;refine zo (λu w'=>u=[]/\Ext w1 w'/\¬(M.kid t 0=M.kid t 1/\M.alikeS t s≠t)) (λC hC=>?_) ?_
 .refine zd λw2 a1 _=>?_;have r2:=yh rs a1;obtain⟨cks,m,a7,l⟩:=r2.k;simp(disch:=first|omega|simp only[push_cast]) only[push_cast,r2.q.ld4,m.iaddr,m.ldAgg,y1];refine spec_TermSame_spec _ (l 0 oM).term (l 1 oM).term λw3 Q=>?_;have U:=yh r2 Q;refine zb (λa=>?_) (λa=>?_)
  .rw[U.q.ldAgg (t:=za) zc];refine l3Alike_spec (qa U) h2 λw4 rv S n=>?_;have r4:=yh U S;obtain⟨c,rfl,hc⟩:=n.cells;have gc:aggB za c.length=true:=by rw[zU hc];exact zc
   have ar:=U.r.lt;refine zi zq λb5 w5 ag a2 ai h5=>?_;have O:=(hc.weaken (F':=λx=>((G x/\x<w.heap.size)\/b4<x)/\x<w4.heap.size) λb h h'=>⟨h.imp id λh=>oM,h'⟩).ext a2;refine stTerm h5 rfl O λw6 a3 al h6=>?_;have R:Ext w4 w6:=(by grind [Ext.then]);have r6:=yh r4 R;have N:TmR (Qb G w.heap.size b4) w6 c (M.alikeS t s):=(O.same a3 λx J _ e=>oM).weaken λx J _=>J.1;rw[h6.ldAgg (t:=za) gc,r6.q.ldAgg (t:=za) zc];refine spec_TermSame_spec _ N.term (qa r6) λw7 p=>?_;have Z:=yh r6 p;refine oZ ?_;refine zn (λd=>?_) (λd=>?_)
   .rw[gV,decide_eq_false_iff_not] at d;rw[(h6.ext p).ldAgg (t:=za) gc];have E:M.twoS t s=M.alikeS t s:=by unfold M.twoS;rw[y3 ⟨a,d⟩]
    rw[E] at W;exact rt_give Z (N.ext p).term W
   .rw[gU,X0] at d;exact hC _ _ ⟨rfl,a1.trans (Q.trans (S.trans (R.trans p))),λh=>h.2 d⟩
  .exact hC _ _ ⟨rfl,a1.trans Q,λh=>a h.1⟩
 rintro u g w3 ⟨rfl,Q,n1⟩;have U:=yh rs Q;have l3:=U.r.lt;rw[U.q.ldAgg (t:=za) zc];refine l3Right_spec (qa U) h2 λw4 rv S n=>?_;have r4:=yh U S;obtain⟨c,rfl,hc⟩:=n.cells;have gc:aggB za c.length=true:=by rw[zU hc];exact zc
 refine zi zq λb5 w5 ag a2 ai h5=>?_;have O:=(hc.weaken (F':=λx=>((G x/\x<w.heap.size)\/b4<x)/\x<w4.heap.size) λb h h'=>⟨h.imp id λh=>oM,h'⟩).ext a2;refine stTerm h5 rfl O λw6 a3 al h6=>?_;have R:Ext w4 w6:=by grind [Ext.then]
 have r6:=yh r4 R;have N:TmR (Qb G w.heap.size b4) w6 c (M.rightS t):=(O.same a3 λx J _ e=>oM).weaken λx J _=>J.1;rw[h6.ldAgg (t:=za) gc,r6.q.ldAgg (t:=za) zc];refine spec_TermSame_spec _ N.term (qa r6) λw7 p=>?_;have Z:=yh r6 p;refine oZ ?_;refine zn (λd=>?_) (λd=>?_)
 .rw[gV,decide_eq_false_iff_not] at d;rw[(h6.ext p).ldAgg (t:=za) gc];have E:M.twoS t s=M.rightS t:=by unfold M.twoS;grind
  rw[E] at W;exact rt_give Z (N.ext p).term W
 rw[gU,X0] at d;have E:M.twoS t s=if(t.op=3\/t.op=4\/t.op=5\/t.op=6\/t.op=8)/\M.otherS t (M.rightS (M.swapS t)) then M.rightS (M.swapS t) else t:=by
  simp_all[M.twoS]
 refine zo (λu w'=>u=[]/\Ext w7 w'/\¬((t.op=3\/t.op=4\/t.op=5\/t.op=6\/t.op=8)/\M.otherS t (M.rightS (M.swapS t)))) (λC hC=>?_) ?_
 .simp only[push_cast,Z.q.ld0];refine zo (λu w'=> ∃b:Bool,u=[.bool b]/\w'=w7/\(b=true↔t.op=3\/t.op=4\/t.op=5\/t.op=6\/t.op=8)) (λD hD=>?_) ?_
  .try simp only[push_cast]
   refine zb (λc=>hD _ _ ⟨_,rfl,rfl,⟨λ_=>oM,λ_=>by grind⟩⟩) (λc1=>?_);refine zb (λc=>hD _ _ ⟨_,rfl,rfl,⟨λ_=>oM,λ_=>by grind⟩⟩) (λc2=>?_);refine zb (λc=>hD _ _ ⟨_,rfl,rfl,⟨λ_=>oM,λ_=>by grind⟩⟩) (λc3=>?_);refine zb (λc=>hD _ _ ⟨_,rfl,rfl,⟨λ_=>oM,λ_=>by grind⟩⟩) (λc4=>?_)
   grind
  rintro u2 g2 am ⟨b,rfl,rfl,hb⟩;refine oZ ?_;refine zn (λo=>?_) (λo=>hC _ _ ⟨rfl,Same.refl _ _,λh=>by grind⟩);have o':=hb.1 o;have l7:=Z.r.lt;refine zo (λu w'=> ∃b c,u=[ptr b]/\Ext am w'/\Blk w' b c za/\TmR (Qb G w.heap.size b4) w' c (M.rightS (M.swapS t))) (λD hD=>?_) ?_
  .refine zd λw8 A _=>?_;have I:=yh Z A;have l8:=I.r.lt;obtain⟨cks,m,a7,l⟩:=I.k;simp(disch:=first|omega|simp only[push_cast]) only[push_cast,I.q.ld0,I.q.ld4,m.iaddr,m.ldAgg,y1];have au:=A.size;have fin:∀{wa wb:World} {bb:Nat} {z:List Value} {rv:Value},Ext w8 wa->Blk wa bb z za->z.length=5->w8.heap.size<=bb->(∀y,y=bb->TermR (λx=>((G x/\x<w.heap.size)\/b4<x)/\x≠y) wa rv (M.rightS (M.swapS t)))->zT za (ptr bb) rv wa λ_ w'=>D [ptr bb] w':=λ{wa wb bb z rv} ak hB hz ao hr=>by
    obtain⟨cr,rfl,a6⟩:=(hr bb rfl).cells;refine stTerm hB hz a6 λw' a8 aq h'=>?_;exact hD _ _ ⟨bb,cr,rfl,A.trans (Ext.then ak a8 λy hy=>oM),h',(a6.same a8 λx J _ e=>J.2 e).weaken λx J _=>J.1⟩
   refine⟨?_,?_,trivial⟩
   .refine kids2 (l 1 oM).term (l 0 oM).term λw9 a9 j aj k9=>?_;have r9:=yh I j;have T:TermR (λz=>(G z/\z<w.heap.size)\/z=w8.heap.size) w9 _ (M.swapS t):=(JL (o:=t.op) k9:TermR _ w9 _ (Zh0 t.op [t.ks.getD 1 default,t.ks.getD 0 default]));simp only[push_cast,r9.q.ld0,y1,V1];refine⟨?_,?_,trivial⟩
    .refine l3Right_spec T rfl λw10 rv f n=>?_;refine⟨?_,trivial⟩;refine zi zq λa5 H X i Y L=>?_;refine⟨?_,trivial⟩;have aa:=j.size;have an:=f.size;refine fin (wb:=H) (j.trans (f.trans i)) L rfl oM λy hy=>((n.weaken (F':=λx=>(((G x/\x<w.heap.size)\/x=w8.heap.size)\/w9.heap.size<=x)/\x<w10.heap.size) λb h h'=>⟨h,h'⟩).ext i).weaken λx J _=>?_
     grind
    .refine zi zq λa5 H X i Y L=>?_;have F:=yh r9 i;simp only[push_cast,F.q.ld0,y1,V1];refine⟨?_,trivial⟩;refine l3Right_spec (T.ext i) rfl λw10 rv f n=>?_;refine⟨?_,trivial⟩;have aa:=j.size;refine fin (wb:=H) (j.trans (i.trans f)) (L.ext f) rfl oM λy hy=>n.weaken λx J _=>?_
     grind
   .refine zi zq λa5 H X i Y L=>?_;have F:=yh I i;have ae:=m.ext i;simp(disch:=first|omega|simp only[push_cast]) only[push_cast,F.q.ld0,F.q.ld4,ae.iaddr,ae.ldAgg,y1,V1];refine⟨?_,trivial⟩;refine kids2 ((l 1 oM).ext i).term ((l 0 oM).ext i).term λw9 a9 j aj k9=>?_;have r9:=yh F j;have T:TermR (λz=>(G z/\z<w.heap.size)\/z=H.heap.size) w9 _ (M.swapS t):=(JL (o:=t.op) k9:TermR _ w9 _ (Zh0 t.op [t.ks.getD 1 default,t.ks.getD 0 default]));simp only[push_cast,r9.q.ld0,y1,V1];refine⟨?_,trivial⟩;refine l3Right_spec T rfl λw10 rv f n=>?_;refine⟨?_,trivial⟩;have aa:=j.size;refine fin (wb:=H) (i.trans (j.trans f)) ((L.ext j).ext f) rfl oM λy hy=>n.weaken λx J _=>?_
    grind
  rintro u3 g3 w8 ⟨b,cv,rfl,A,hB,a0⟩;have gv:aggB za cv.length=true:=by rw[zU a0];exact zc
  have I:=yh Z A;generalize hV:M.rightS (M.swapS t)=V at*;have give:∀{w'},Ext w8 w'->M.otherS t V->zu za (ptr b) w' λr w2=>zT za (ptr b4) r w2 λ_ w3=>vlv za (ptr b4) w3 λr w4=>K r w4:=λ{w'} h ho=>by
   rw[(hB.ext h).ldAgg (t:=za) gv];rw[E,y3 ⟨o',ho⟩] at W;exact rt_give (yh I h) (a0.ext h).term W
  obtain⟨kvv,rfl,ah⟩:=a0.inv;refine oZ ?_;refine zd λw9 j _=>?_;have r9:=yh I j;have B9:=hB.ext j;have ab:=ah.ext j;simp only[push_cast,B9.ld4,ab.len,y1];refine zb (λc1=>give j (.inl oM)) (λc1=>?_);have vl:V.ks.length=2:=oM;obtain⟨cks,m,a7,l⟩:=r9.k;obtain⟨vks,vsl,vln,vck⟩:=ab;simp(disch:=first|omega|simp only[push_cast]) only[push_cast,B9.ld4,r9.q.ld4,m.iaddr,m.ldAgg,vsl.iaddr,vsl.ldAgg,y1];refine spec_TermSame_spec _ (vck 0 oM).term (l 1 oM).term λw10 f=>?_;have a4:=B9.ext f;have ac:=yh r9 f;have ad:=m.ext f;have t10:=vsl.ext f;simp only[push_cast,y1];refine zn (λc2=>?_) (λc2=>?_)
  .rw[gV,decide_eq_false_iff_not] at c2;exact give (j.trans f) (.inr (.inl c2))
  rw[gU,X0] at c2;simp(disch:=first|omega|simp only[push_cast]) only[push_cast,a4.ld4,ac.q.ld4,ad.iaddr,ad.ldAgg,t10.iaddr,t10.ldAgg,y1];refine spec_TermSame_spec _ ((vck 1 oM).ext f).term ((l 0 oM).ext f).term λH i=>?_;have af:=a4.ext i;have F:=yh ac i;simp only[push_cast,y1];refine zn (λc3=>?_) (λc3=>?_)
  .rw[gV,decide_eq_false_iff_not] at c3;exact give (j.trans (f.trans i)) (.inr (.inr (.inl c3)))
  rw[gU,X0] at c3;simp(disch:=first|omega|simp only[push_cast]) only[push_cast,af.ld0,F.q.ld0,y1];refine zb (λc4=>give (j.trans (f.trans i)) (.inr (.inr (.inr c4)))) (λc4=>?_);refine hC _ _ ⟨rfl,A.trans (j.trans (f.trans i)),λh=>?_⟩;rcases h.2 with h|h|h|h
  .exact h vl
  .exact h c2
  .exact h c3
  .exact c4 h
 rintro u4 g4 w8 ⟨rfl,A,n3⟩;have I:=yh Z A;rw[E,y0 n3] at W;rw[I.q.ldAgg (t:=za) zc];exact rt_give I (qu (qa I)) W
theorem l3One_spec {dv v:Value} {t:M.Tm} {ds:List M.Dcl} (A:DclsR F w dv ds) (g:M.declOk ds=true) (ht:TermR G w v t) (hs:M.sortM ds t≠ -1) (e:X00 K w G (M.oneT ds t)):vcall zR0 #[dv,v] w K:=by
 rw[<-M.oneS_eq g hs] at e;have hlen:=M.len_of hs;refine ze {} Tryz.func116 ?_;refine rt_enter (B:=λt3 t4 a3=>_) ht λw1 b3 b4 kv rs=>?_;rw[rs.q.ldAgg (t:=za) zc];refine l2Sort_spec t (A.ext rs.ext) g (qa rs) λw2 J=>?_;have T:=yh rs J;rw[T.q.ldAgg (t:=za) zc];refine l3All_spec (qa T) λw3 L=>?_;have d:=yh T L;refine zn (λa=>?_) (λa=>?_)
 .have O:nnB t=true:=by
   have j:=a;unfold M.allFixed at j;simp only[gd,X0,Gb] at j;refine nnB_iff.2 ⟨λD=>?_,λk hk=>?_⟩
   .rw[D] at hlen;have h0:t.ks.length=0:=by simp[M.arity] at hlen;omega
    grind
   grind [Option.isSome_iff_exists,nn_fixed]
  have E:M.oneS ds t=if M.sortM ds t=0 then M.boolM (decide (M.evalM ds (M.zeroE ds) t=1)) else .mk 20 (M.sortM ds t) (M.evalM ds (M.zeroE ds) t) M.nada []:=by unfold M.oneS;rw[y3 a]
  rw[d.q.ldAgg (t:=za) zc];refine yj xu yW λb7 C W f a0 h7=>?_;have b:=yh d f;refine l2Eval_spec t (H:=F) (A.ext b.ext) (M.zeroE_ok g) (qa b) (.inr O) hs λV m=>?_;have l:=yh b m;refine oZ ?_;refine zb (λc=>?_) (λc=>?_)
  .refine l3Bool_spec λw6 v6 n Q=>?_;rw[E,y3 c] at e;exact rt_give (yh l n) (rt_new l Q) e
  .try simp only[push_cast]
   rw[E,y0 c] at e;exact rt_give l (yb0 20 _ _ _:TmR _ V _ (.mk 20 (M.sortM ds t) (M.evalM ds (M.zeroE ds) t) M.nada [])).term e
 have na: ¬M.allFixed t=true:=by grind
 simp only[push_cast,d.q.ld4,d.k.len];refine zb (λl0=>?_) (λl0=>?_)
 .rw[d.q.ldAgg (t:=za) zc];have E:M.oneS ds t=t:=(by simp_all[M.oneS]);rw[E] at e;exact rt_give d (qu (qa d)) e
 have N: ¬t.ks=[]:=by grind
 have Z:0<t.ks.length:=oM
 simp only[push_cast,d.q.ld0];refine zb (λS=>?_) (λS=>?_)
 .rw[d.q.ldAgg (t:=za) zc];have E:M.oneS ds t=M.logicS t:=(by grind [M.oneS]);rw[E] at e;refine l3Logic_spec (qa d) hs oM N λC rv f p=>?_;have b:=yh d f;have l3:=d.r.lt;exact rt_give b (p.weaken λx s _=>s.imp id λh=>oM) e
 have n23: ¬23<=t.op:=oM
 try simp only[push_cast,d.q.ld0]
 refine zb (λR=>?_) (λR=>?_)
 .have hl:t.ks.length=1:=(by grind [M.arity]);simp(disch:=first|omega|simp only[push_cast]) only[push_cast,d.q.ld4,d.k.iaddr];refine d.k.load zc oM λx s=>?_;refine l2Sort_spec _ (A.ext d.ext) g s λC f=>?_;have b:=yh d f;have E:M.oneS ds t=if M.sortM ds t=M.sortM ds (M.kid t 0) then M.kid t 0 else t:=by grind [M.oneS]
  refine oZ ?_;refine zb (λc=>?_) (λc=>?_)
  .simp(disch:=first|omega|simp only[push_cast]) only[push_cast,b.q.ld4,b.k.iaddr];refine b.k.load zc oM λy hy=>?_;rw[E,y3 (show M.sortM ds t=M.sortM ds (M.kid t 0) from c)] at e;exact rt_give b (qu hy) e
  .rw[b.q.ldAgg (t:=za) zc];rw[E,y0 (show¬M.sortM ds t=M.sortM ds (M.kid t 0) from c)] at e;exact rt_give b (qu (qa b)) e
 simp only[push_cast,d.q.ld4,d.k.len];have U:=M.arity_ops (o:=t.op) oM;refine zb (λl1=>?_) (λl1=>?_)
 .have a2:t.ks.length=1:=oM;have ho:=M.arity_one (o:=t.op) oM;have E:M.oneS ds t=if(M.kid t 0).op=t.op then M.kid (M.kid t 0) 0 else t:=by grind [M.oneS]
  refine zd λC f _=>?_;have b:=yh d f;simp(disch:=first|omega|simp only[push_cast]) only[push_cast,b.q.ld0,b.q.ld4,b.k.iaddr,y1];rw[tms_op b.k oM];simp(disch:=first|omega|simp only[push_cast]) only[push_cast,b.q.ld0,b.q.ld4,b.k.iaddr,y1];refine zb (λc=>?_) (λc=>?_)
  .have k0:=M.good_kid hs (i:=0) oM;have X:(t.ks.getD 0 default).ks.length=1:=by
    grind [M.len_of,M.kid]
   refine tms_kids b.k oM λa1 u=>?_;simp(disch:=first|omega|simp only[push_cast]) only[push_cast,u.iaddr];refine u.load zc oM λx s=>?_;rw[E,y3 (show(M.kid t 0).op=t.op from c)] at e;exact rt_give b (qu s) e
  .rw[b.q.ldAgg (t:=za) zc];rw[E,y0 (show¬(M.kid t 0).op=t.op from c)] at e;exact rt_give b (qu (qa b)) e
 .have l2:t.ks.length=2:=by
   grind [M.arity]
  have E:M.oneS ds t=M.twoS t (M.sortM ds (M.kid t 0)):=(by grind [M.oneS]);rw[E] at e;refine zd λC f _=>?_;have b:=yh d f;obtain⟨cks,z,Y,I⟩:=b.k;simp(disch:=first|omega|simp only[push_cast]) only[push_cast,b.q.ld4,b.q.ldAgg (t:=za) zc,z.iaddr,z.ldAgg,y1];refine l2Sort_spec _ (A.ext b.ext) g (I 0 oM).term λV m=>?_;have l:=yh b m;simp(disch:=first|omega|simp only[push_cast]) only[push_cast,l.q.ldAgg (t:=za) zc,y1,V1];refine l3Two_spec (qa l) l2 λw6 rv n p=>?_;have r6:=yh l n;have l5:=l.r.lt;exact rt_give r6 (p.weaken λx s _=>s.imp id λh=>oM) e
end
end Go.Proofs.YtfnpmncplaibiaaGreatDoor
end
