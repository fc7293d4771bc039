import Derived.Test.YtolbhkcajhlllaaGreatDoorWwbP9
/- A part of the proof. -/
set_option linter.all false
set_option maxRecDepth 9999
set_option maxHeartbeats 2000000
noncomputable section
namespace Go.Proofs.YtolbhkcajhlllaaGreatDoor
open Go Go.Vc Go.Proofs
section
variable {w:World} {K:oK} {F D G:Nat->Prop}
abbrev ptr (b:Nat):Value:= oP b 0
def Qc (t3:Value) (w:World) (J:List Value->World->Prop):Prop:=
 Zq w λw_12=>
 zB za t3 4 w_12 λt13 w_13=>w_13=w_12/\
 zt zk t13 w_12 λt14 w_14=>w_14=w_12/\
 ya zk t14 (nI 0) w_12 λt15 w_15=>w_15=w_12/\
 zt za t15 w_12 λt16 w_16=>w_16=w_12/\
 zB za t3 4 w_12 λt17 w_17=>w_17=w_12/\
 zt zk t17 w_12 λt18 w_18=>w_18=w_12/\
 ya zk t18 (nI 1) w_12 λt19 w_19=>w_19=w_12/\
 zt za t19 w_12 λt20 w_20=>w_20=w_12/\
 (qp za w_12 λt6 w_21=>(zt za t19 w_21 λv x=>v=t20/\x=w_21)/\(ya zk t18 (nI 1) w_21 λv x=>v=t19/\x=w_21)/\(zt zk t17 w_21 λv x=>v=t18/\x=w_21)/\(zB za t3 4 w_21 λv x=>v=t17/\x=w_21)/\(zt za t15 w_21 λv x=>v=t16/\x=w_21)/\(ya zk t14 (nI 0) w_21 λv x=>v=t15/\x=w_21)/\(zt zk t13 w_21 λv x=>v=t14/\x=w_21)/\(zB za t3 4 w_21 λv x=>v=t13/\x=w_21)/\
 (qp za w_21 λt7 w_22=>(zt za t19 w_22 λv x=>v=t20/\x=w_22)/\(ya zk t18 (nI 1) w_22 λv x=>v=t19/\x=w_22)/\(zt zk t17 w_22 λv x=>v=t18/\x=w_22)/\(zB za t3 4 w_22 λv x=>v=t17/\x=w_22)/\(zt za t15 w_22 λv x=>v=t16/\x=w_22)/\(ya zk t14 (nI 0) w_22 λv x=>v=t15/\x=w_22)/\(zt zk t13 w_22 λv x=>v=t14/\x=w_22)/\(zB za t3 4 w_22 λv x=>v=t13/\x=w_22)/\
 (zU za t6 t16 w_22 λ_ w_23=>(zt za t19 w_23 λv x=>v=t20/\x=w_23)/\(ya zk t18 (nI 1) w_23 λv x=>v=t19/\x=w_23)/\(zt zk t17 w_23 λv x=>v=t18/\x=w_23)/\(zB za t3 4 w_23 λv x=>v=t17/\x=w_23)/\
 (zU za t7 t20 w_23 λ_ w_24=>
 J [t6,t7] w_24)/\
 True)/\
 True)/\
 True)/\
 (qp za w_12 λt7_1 w_25=>(zt za t19 w_25 λv x=>v=t20/\x=w_25)/\(ya zk t18 (nI 1) w_25 λv x=>v=t19/\x=w_25)/\(zt zk t17 w_25 λv x=>v=t18/\x=w_25)/\(zB za t3 4 w_25 λv x=>v=t17/\x=w_25)/\(zt za t15 w_25 λv x=>v=t16/\x=w_25)/\(ya zk t14 (nI 0) w_25 λv x=>v=t15/\x=w_25)/\(zt zk t13 w_25 λv x=>v=t14/\x=w_25)/\(zB za t3 4 w_25 λv x=>v=t13/\x=w_25)/\
 (qp za w_25 λt6_1 w_26=>(zt za t19 w_26 λv x=>v=t20/\x=w_26)/\(ya zk t18 (nI 1) w_26 λv x=>v=t19/\x=w_26)/\(zt zk t17 w_26 λv x=>v=t18/\x=w_26)/\(zB za t3 4 w_26 λv x=>v=t17/\x=w_26)/\(zt za t15 w_26 λv x=>v=t16/\x=w_26)/\(ya zk t14 (nI 0) w_26 λv x=>v=t15/\x=w_26)/\(zt zk t13 w_26 λv x=>v=t14/\x=w_26)/\(zB za t3 4 w_26 λv x=>v=t13/\x=w_26)/\
 (zU za t6_1 t16 w_26 λ_ w_27=>(zt za t19 w_27 λv x=>v=t20/\x=w_27)/\(ya zk t18 (nI 1) w_27 λv x=>v=t19/\x=w_27)/\(zt zk t17 w_27 λv x=>v=t18/\x=w_27)/\(zB za t3 4 w_27 λv x=>v=t17/\x=w_27)/\
 (zU za t7_1 t20 w_27 λ_ w_28=>
 J [t6_1,t7_1] w_28)/\
 True)/\
 True)/\
 True)/\
 True
theorem pairReg_ok {b3:Nat} {p:Nat->Prop} {kv:Value} {t:M.Tm} {J:List Value->World->Prop} (q:Blk w b3 [nI t.op,nI t.a,nI t.b,.string t.s,kv] za) (N:TmsR p w kv t.ks) (o:2<=t.ks.length)
  (K:∀w' b I c c',Ext w w'->Blk w' b c za->TmR p w' c (M.kid t 0)->Blk w' I c' za->TmR p w' c' (M.kid t 1)->J [ptr b,ptr I] w'):Qc (ptr b3) w J:=by
 unfold Qc;refine zd λw1 h _=>?_;obtain⟨css,hs,P,L⟩:=N.ext h;have l:=q.ext h;have O:=h.size;simp(disch:=first|omega|simp only[push_cast]) only[push_cast,l.ld4,hs.iaddr,hs.ldAgg,true_and];have c0:=L 0 oM;have c1:=L 1 oM;refine⟨?_,?_,trivial⟩
 ·refine zj zn λb2 w2 x f A o=>?_;have s2:=hs.ext f;have m:=l.ext f;simp(disch:=first|omega|simp only[push_cast]) only[push_cast,m.ld4,s2.iaddr,s2.ldAgg,true_and,and_self];refine⟨?_,trivial⟩;refine zj zn λb3 w3 z d B r=>?_;have s3:=s2.ext d;have E:=m.ext d;simp(disch:=first|omega|simp only[push_cast]) only[push_cast,E.ld4,s3.iaddr,s3.ldAgg,true_and,and_self];refine⟨?_,trivial⟩;refine stTerm (o.ext d) rfl (c0.ext (f.trans d)) λG i C u=>?_;have e:Ext w1 G:=Ext.then (f.trans d) i λy k=>by subst k;omega
  have n:=hs.ext e;have F:=l.ext e;simp(disch:=first|omega|simp only[push_cast]) only[push_cast,F.ld4,n.iaddr,n.ldAgg,true_and,and_self];refine⟨?_,trivial⟩;refine stTerm (r.same i oM) rfl (c1.ext e) λH j D v=>?_;have g:Ext w1 H:=Ext.then e j λy k=>by subst k;omega
  exact K _ _ _ _ _ (h.trans g) (u.same j oM) (c0.ext g) v (c1.ext g)
 ·refine zj zn λb2 w2 x f A o=>?_;have s2:=hs.ext f;have m:=l.ext f;simp(disch:=first|omega|simp only[push_cast]) only[push_cast,m.ld4,s2.iaddr,s2.ldAgg,true_and,and_self];refine⟨?_,trivial⟩;refine zj zn λb3 w3 z d B r=>?_;have s3:=s2.ext d;have E:=m.ext d;simp(disch:=first|omega|simp only[push_cast]) only[push_cast,E.ld4,s3.iaddr,s3.ldAgg,true_and,and_self];refine⟨?_,trivial⟩;refine stTerm r rfl (c0.ext (f.trans d)) λG i C u=>?_;have e:Ext w1 G:=Ext.then (f.trans d) i λy k=>by subst k;omega
  have n:=hs.ext e;have F:=l.ext e;simp(disch:=first|omega|simp only[push_cast]) only[push_cast,F.ld4,n.iaddr,n.ldAgg,true_and,and_self];refine⟨?_,trivial⟩;refine stTerm ((o.ext d).same i oM) rfl (c1.ext e) λH j D v=>?_;have g:Ext w1 H:=Ext.then e j λy k=>by subst k;omega
  exact K _ _ _ _ _ (h.trans g) (u.same j oM) (c0.ext g) v (c1.ext g)
structure RS (G:Nat->Prop) (w0 w:World) (b2 b3 b4:Nat) (dv kv:Value) (mb:Nat) (ds:List M.Dcl) (t:M.Tm):Prop where
 ext:Ext w0 w
 f:Blk w b2 [dv,.map (some mb)] ye
 q:Blk w b3 [nI t.op,nI t.a,nI t.b,.string t.s,kv] za
 r:Blk w b4 VZ za
 k:TmsR (λx=>G x/\x<w0.heap.size) w kv t.ks
 d:DclsR (λx=>x<w0.heap.size) w dv ds
 m:KindsR w mb
 lo:w0.heap.size<=b4
section
variable {w0 w':World} {b2 b3 b4 mb:Nat} {dv kv:Value} {ds:List M.Dcl} {t:M.Tm}
theorem zZ (h:RS G w0 w b2 b3 b4 dv kv mb ds t) (he:Ext w w'):RS G w0 w' b2 b3 b4 dv kv mb ds t:=
 ⟨h.ext.trans he,h.f.ext he,h.q.ext he,h.r.ext he,h.k.ext he,h.d.ext he,h.m.ext he,h.lo⟩
abbrev qK (dv:Value) (mb:Nat):Value:= .agg ⟨[dv,.map (some mb)]⟩
theorem rs_enter {tv:Value} {B:Value->Value->oK} (s:DclsR F w dv ds) (hm:KindsR w mb) (y:TermR G w tv t) (o:∀w' b2 b3 b4 kv,RS G w w' b2 b3 b4 dv kv mb ds t->B (ptr b2) (ptr b3) (ptr b4) w'):
  y80 ye (qK dv mb) w λt2 g=>y80 za tv g λt3 i=>qp za i λt4 j=>B t2 t3 t4 j:=by
 obtain⟨kv,rfl,f⟩:=y;refine zi λb1 w1 p e u l=>?_;refine zi λb2 w2 q c v m=>?_;refine zj zn λb3 w3 r a x n=>?_;have d:=e.trans (c.trans a);exact o _ _ _ _ kv ⟨d,(l.ext c).ext a,m.ext a,n,(f.weaken λb h k=>⟨h,k⟩).ext d,(s.weaken λb _ h=>h).ext d,hm.ext d,oM⟩
abbrev Ky (K:oK) (w:World) (G:Nat->Prop) (o:Option M.Tm):Prop:=∀w' rv u,Ext w w'->TermR (λx=>G x\/w.heap.size<=x) w' rv u->(∀x,o=some x->u=x)->K (.tuple #[rv,.bool o.isSome]) w'
theorem yu (h:RS G w0 w b2 b3 b4 dv kv mb ds t) {rv:Value} {u:M.Tm} {b:Bool} (hu:TermR (λx=>(G x\/w0.heap.size<=x)/\x≠b4) w rv u) (g:∀w' a,Ext w0 w'->TermR (λx=>G x\/w0.heap.size<=x) w' a u->K (.tuple #[a,.bool b]) w'):
  zU za (ptr b4) rv w λ_ w1=>vlv za (ptr b4) w1 λr w2=>K (.tuple #[r,.bool b]) w2:=by
 obtain⟨cs,rfl,c⟩:=hu.cells;refine qc (K:=λr w=>K (.tuple #[r,.bool b]) w) h.r rfl c (λx f=>f.2) λw3 e j d=>?_;exact g _ _ (Ext.then h.ext e λy i=>by subst i;exact h.lo) (d.weaken λx f _=>f.1)
theorem rs_kid (h:RS G w0 w b2 b3 b4 dv kv mb ds t) {rv:Value} {u:M.Tm} (hu:TermR (λx=>G x/\x<w0.heap.size) w' rv u):TermR (λx=>(G x\/w0.heap.size<=x)/\x≠b4) w' rv u:=hu.weaken λx a _=>⟨.inl a.1,by have:=h.lo;omega⟩
theorem rs_new (h:RS G w0 w b2 b3 b4 dv kv mb ds t) (he:Ext w w') {rv:Value} {u:M.Tm} (hu:TermR (λx=>w.heap.size<=x) w' rv u):TermR (λx=>(G x\/w0.heap.size<=x)/\x≠b4) w' rv u:=hu.weaken λx a _=>⟨.inr (by have:=h.ext.size;omega),by have:=h.r.lt;omega⟩
theorem Z0:TermR F w (.agg ⟨VZ⟩) (.mk 0 0 0 M.nada []):=(zI0 0 0 0 _:TmR F w _ _).term
end
theorem jp {dv tv:Value} {mb:Nat} {ds:List M.Dcl} {t:M.Tm} (m:DclsR F w dv ds) (hm:KindsR w mb) (f:M.declOk ds=true) (p:TermR G w tv t) (j:∀w',Ext w w'->K (nI (M.sortM ds t)) w'):vcall Xz #[qK dv mb,tv] w K:=by
 refine ze {} Tryz.func171 ?_;obtain⟨cs,rfl,a⟩:=p.cells;refine zi λb1 w1 k d n h=>?_;refine zi λb2 w2 l b o i=>?_;have g:=h.ext b;have c:=d.trans b;simp only[push_cast,g.ld0,g.ld1];rw[i.ldAgg (t:=za) (by rw[zQ a];exact zc)];refine sortOf_spec t (hm.ext c) (m.ext c) f (a.ext c).term λw3 e=>?_;exact j _ (c.trans e)
theorem nn_fixed {t:M.Tm} {n:Int} (h:M.fixedM t=some n):nnB t=true:=by
 rcases M.fixed_cases h with⟨rfl,_⟩|⟨rfl,_⟩|⟨c,b,_⟩
 ·rfl
 ·rfl
 ·exact nnB_iff.2 ⟨oM,λk a=>by rw[b] at a;cases a⟩
theorem fixed_spec {dv tv:Value} {mb:Nat} {ds:List M.Dcl} {t:M.Tm} (hd:DclsR F w dv ds) (hm:KindsR w mb) (H:M.declOk ds=true) (ht:TermR G w tv t) (hs:M.sortM ds t≠ -1) (J:Ky K w G (M.ruleX ds t)):vcall jU #[qK dv mb,tv] w K:=by
 refine ze {ord:=[oz 3 [0,1,3,4,5,6,7,2,8,9,10,11,12] [(0,[1,3,4,5,6,7]),(1,[3,4,5,6,7]),(3,[5,6,7,2]),(4,[5,6,7,2]),(5,[7,2]),(6,[7,2]),(7,[2])]],cuts:=[(8195,[])]} Tryz.func123 ?_;have Z:TermR G w tv t:=ht;refine rs_enter (B:=λt2 t3 t4 a3=>_) hd hm ht λw1 b2 b3 b4 kv rs=>?_;have no:∀w',RS G w w' b2 b3 b4 dv kv mb ds t->M.allFixed t=false->zU za (ptr b4) (.agg ⟨VZ⟩) w' λ_ w1=>vlv za (ptr b4) w1 λr w2=>K (.tuple #[r,.bool false]) w2:=λw' Y h=>by
  have e:M.ruleX ds t=none:=by unfold M.ruleX;rw[h];rfl
  rw[e] at J;exact yu Y Z0 λw2 rv Q V=>J w2 rv _ Q V λx I=>by cases I
 refine zp (λu w'=>u=[]/\Ext w1 w'/\M.allFixed t=true) (λC hC=>?_) ?_
 ·simp only[push_cast,rs.q.ld4,rs.k.len];refine zb (λa=>?_) (λa=>?_)
  ·exact no _ rs (by unfold M.allFixed;rw[decide_eq_false (λh=>h (nil_len.1 a))];rfl)
  ·try simp only[push_cast,rs.q.ld4]
   refine ze {} Tryz.func153 ?_;refine ze {loops:=[(2,[8])]} Tryz.func195 ?_;have a2:=rs.k.small;simp only[push_cast,rs.k.len];refine vloop_up t.ks.length (λi u w'=>u=[nI i]/\Ext w1 w'/\∀j,j<i->(M.fixedM (t.ks.getD j default)).isSome=true) ⟨rfl,Same.refl _ _,λj L=>absurd L oM⟩ ?_;rintro i _ _ w3 C hi ⟨rfl,p,o⟩ O;have z:=zZ rs p;simp only[push_cast];refine zb (λb=>?_) (λb=>?_)
   ·have E:=z.k;simp(disch:=first|omega|simp only[push_cast]) only[push_cast,E.iaddr];refine E.load zc oM λx I=>?_;simp only[push_cast,gC,Ga];refine ze {} Tryz.func168 ?_;obtain⟨cx,rfl,D⟩:=I.cells;refine zi λb5 w5 a0 v a1 h5=>?_;rw[h5.ldAgg (t:=za) (by rw[zQ D];exact zc)];refine YK (D.ext v).term λw6 y=>?_;simp only[push_cast];have X:=zZ z (v.trans y);refine zo (λc=>?_) (λc=>?_)
    ·try simp only[push_cast]
     rw[decide_eq_true oM];refine no _ X ?_;rw[gN] at c;unfold M.allFixed;rw[G8];right;rw[List.all_eq_false];exact⟨_,M.getD_mem (l:=t.ks) (i:=i) oM default,by rw[c];decide⟩
    ·rw[gM] at c;rw[inc64' oM];refine O oM _ _ ⟨rfl,p.trans (v.trans y),λj L=>?_⟩;by_cases e:j<i
     ·exact o j e
     ·have:j=i:=oM;subst this;exact c
   ·try simp only[push_cast]
    rw[decide_eq_false oM];refine hC _ _ ⟨rfl,p,?_⟩;unfold M.allFixed;rw[gg,decide_eq_true_eq,gZ];refine⟨λh=>a (nil_len.2 h),λk T=>?_⟩;obtain⟨j,L,rfl⟩:=gm T;have:=o j oM;rwa[y3,V0 L] at this
 rintro u g w2 ⟨rfl,R,o⟩;have e:M.ruleX ds t=some (M.constM (M.sortM ds t) (M.evalM ds (M.zeroE ds) t)):=by unfold M.ruleX;rw[if_pos o]
 rw[e] at J;have U:nnB t=true:=by
  unfold M.allFixed at o;simp only[gg,decide_eq_true_eq,gZ] at o;refine nnB_iff.2 ⟨λN=>?_,λk T=>?_⟩
  ·have:=M.len_of hs;rw[N] at this;have h0:t.ks.length=0:=by simp[M.arity] at this;omega
   exact o.1 (gD h0)
  ·obtain⟨n,hn⟩:=GO.1 (o.2 k T);exact nn_fixed hn
 refine zd λw3 p _=>?_;have z:=zZ rs (R.trans p);have tm:∀{w'},RS G w w' b2 b3 b4 dv kv mb ds t->TermR (λx=>G x/\x<w.heap.size) w' (.agg ⟨[nI t.op,nI t.a,nI t.b,.string t.s,kv]⟩) t:=λh=>⟨kv,rfl,h.k⟩;simp only[push_cast,z.f.ldAgg (t:=ye) xJ,z.q.ldAgg (t:=za) zc,z.f.ld0,z.f.ld1,true_and];refine jp z.d z.m H (tm z) λw4 S=>?_;have A:=zZ z S;simp only[push_cast,A.q.ldAgg (t:=za) zc,A.f.ld0,A.f.ld1,true_and,and_self];refine valueOf_specG t A.m A.d (M.zeroE_ok H) (.inr U) (tm A) hs λw5 v=>?_;have r5:=zZ A v;simp only[push_cast,true_and];refine constant_spec λw6 v6 y W=>?_;have X:=zZ r5 y;exact yu X (rs_new r5 y W) λw7 rv Q V=>J w7 rv _ Q V λx I=>X0 I
end
section
variable {w:World} {K:oK} {F D G:Nat->Prop}
theorem qb {o:Option M.Tm} {u:M.Tm} (b:Ky K w G o) (e:o=some u):∀w' rv,Ext w w'->TermR (λx=>G x\/w.heap.size<=x) w' rv u->K (.tuple #[rv,.bool true]) w':=λw' rv a c=>by
 subst e;exact b w' rv u a c λx d=>X0 d
theorem jN {o:Option M.Tm} (b:Ky K w G o) (e:o=none) {u:M.Tm}:∀w' rv,Ext w w'->TermR (λx=>G x\/w.heap.size<=x) w' rv u->K (.tuple #[rv,.bool false]) w':=λw' rv a c=>by
 subst e;exact b w' rv u a c λx d=>by cases d
theorem xg0 {o:Option M.Tm} {u:M.Tm} {b:Bool} (a:Ky K w G o) (e:o=if b=true then some u else none):∀w' rv,Ext w w'->TermR (λx=>G x\/w.heap.size<=x) w' rv u->K (.tuple #[rv,.bool b]) w':=by
 cases b
 ·exact jN a (by rw[e];rfl)
 ·exact qb a (by rw[e];rfl)
theorem intsL {xs:List Int} (d:xs.length<=100) (c:∀w' v,Ext w w'->Ints (λ_=>True) w' v xs->K v w'):vbuildS zh (xs.map λx=>nI x).length ((xs.map λx=>nI x).zipIdx.map λp=>(p.2,p.1)) w K:=by
 refine vbuildS_row1 xw yT xH (λx e=>by obtain⟨y,_,rfl⟩:=gr.1 e;rfl) (by rw[y4];omega) λb w' f he hs a=>?_;rw[y4];have o:OwnI zh w' (.slice (some ⟨b,0,none⟩) xs.length xs.length) xs:=Blk.own1 (t:=zh) (by rw[qL];exact a) (gP _) (by simp) (by simp) oM;exact c w' _ he (o.ints.weaken λ_ _ _=>trivial)
theorem branches_spec {dv tv:Value} {mb:Nat} {ds:List M.Dcl} {t:M.Tm} (W:DclsR F w dv ds) (hm:KindsR w mb) (Y:M.declOk ds=true) (Z:TermR G w tv t) (hs:M.sortM ds t≠ -1) (p:Ky K w G (M.ruleB t)):vcall qS #[qK dv mb,tv] w K:=by
 refine ze {ord:=[oz 9 [0,1,2,3,4,5,6,7,9,10,11,12,8,13,14,15,16,17] [(0,[4,5,6,7,9,10,11,12]),(1,[4,5,6,7,9,10,11,12]),(2,[4,5,6,7,9,10,11,12]),(3,[4,5,6,7,9,10,11,12]),(4,[9,10,11,12]),(5,[9,10,11,12]),(6,[9,10,11,12]),(7,[9,10,11,12]),(9,[8]),(10,[8]),(11,[8]),(12,[8]),(14,[15])]],cuts:=[(8201,[]),(8194,[6])]} Tryz.func124 ?_;refine rs_enter (B:=λt2 t3 t4 a1=>_) W hm Z λw1 b2 b3 b4 kv rs=>?_;have hlen:=M.len_of hs;have v:t.op=25->t.ks.length=1:=λh=>by rw[h] at hlen;simp[M.arity] at hlen;omega
 have s:t.op=23->t.ks.length=3:=λh=>by rw[h] at hlen;simp[M.arity] at hlen;omega
 refine zp (λu w'=>u=[]/\Ext w1 w'/\t.op=23/\M.isM (M.kid t 0) 1=false/\M.isM (M.kid t 0) 0=false) (λC V=>?_) ?_
 ·refine zp (λu w'=> ∃b:Bool,u=[.bool b]/\w'=w1/\(b=true↔t.op=25/\(M.kid t 0).op=25)) (λD hD=>?_) ?_
  ·simp only[push_cast,rs.q.ld0];refine zb (λa=>?_) (λa=>?_)
   ·have:=v a;simp(disch:=first|omega|simp only[push_cast]) only[push_cast,rs.q.ld4,rs.k.iaddr];rw[tms_op rs.k oM];simp only[push_cast];exact hD _ _ ⟨_,rfl,rfl,by rw[decide_eq_true_eq];exact⟨λh=>⟨a,h⟩,λh=>h.2⟩⟩
   ·exact hD _ _ ⟨false,rfl,rfl,⟨λh=>(by cases h),λh=>absurd h.1 a⟩⟩
  rintro u1 g1 w2 ⟨b,rfl,rfl,O⟩;simp only[push_cast];refine zo (λc=>?_) (λc=>?_)
  ·obtain⟨S,T⟩:=O.1 c;have Q:=v S;have k0:=M.good_kid hs (i:=0) oM;have I:(M.kid t 0).ks.length=1:=by have:=M.len_of k0;rw[T] at this;simp[M.arity] at this;omega
   simp(disch:=first|omega|simp only[push_cast]) only[push_cast,rs.q.ld4,rs.k.iaddr];refine tms_kids rs.k oM λa0 r=>?_;have R:(t.ks.getD 0 default).ks.length=1:=I;simp(disch:=first|omega|simp only[push_cast]) only[push_cast,r.iaddr];refine r.load zc oM λx L=>?_;exact yu rs (rs_kid rs L) (qb p (by unfold M.ruleB;rw[if_pos ⟨S,T⟩];rfl))
  have nb: ¬(t.op=25/\(M.kid t 0).op=25):=λh=>by have:=O.2 h;rw[c] at this;cases this
  simp only[push_cast,rs.q.ld0];refine zb (λa=>?_) (λa=>?_)
  ·try simp only[push_cast]
   exact yu rs Z0 (jN p (by unfold M.ruleB;rw[if_neg nb,if_pos a]))
  have m:t.op=23:=oM;have Q:=s m;simp(disch:=first|omega|simp only[push_cast]) only[push_cast,rs.q.ld4,rs.k.iaddr];refine rs.k.load zc oM λx L=>?_;refine jo L λw3 l=>?_;have j:=zZ rs l;simp(disch:=first|omega|simp only[push_cast]) only[push_cast,j.q.ld4,j.k.iaddr];refine zo (λd=>?_) (λd=>?_)
  ·refine j.k.load zc oM λy N=>?_;exact yu j (rs_kid j N) (qb p (by unfold M.ruleB;rw[if_neg nb,if_neg a];exact if_pos d))
  refine j.k.load zc oM λy N=>?_;refine jo N λw4 f=>?_;have n:=zZ j f;simp(disch:=first|omega|simp only[push_cast]) only[push_cast,n.q.ld4,n.k.iaddr];refine zo (λe=>?_) (λe=>?_)
  ·refine n.k.load zc oM λz hz=>?_;refine yu n (rs_kid n hz) (qb p ?_);unfold M.ruleB;rw[if_neg nb,if_neg a,if_neg (by rw[show M.isM (M.kid t 0) 1=false from d];decide)];exact if_pos e
  exact V _ _ ⟨rfl,l.trans f,m,d,e⟩
 rintro u g w2 ⟨rfl,E,m,i1,i0⟩;have Q:=s m;refine zd λw3 l _=>?_;have j:=zZ rs (E.trans l);obtain⟨css,o,X,A⟩:=j.k;simp(disch:=first|omega|simp only[push_cast]) only[push_cast,j.q.ld4,o.iaddr,o.ldAgg,true_and];refine TermSame_spec _ (A 1 oM).term (A 2 oM).term λw4 f=>?_;have n:=zZ j f;have sl4:=o.ext f;simp(disch:=first|omega|simp only[push_cast]) only[push_cast,n.q.ld4,sl4.iaddr,sl4.ldAgg,true_and,and_self];refine chosen_spec ((A 1 oM).ext f).term λw5 v5 H J=>?_;have U:=zZ n H;simp only[push_cast,true_and];refine yu U (rs_kid U J) (xg0 p ?_);unfold M.ruleB;rw[if_neg oM,if_neg oM,if_neg (by rw[i1];decide),if_neg (by rw[i0];decide)];simp only[decide_eq_true_eq];rfl
theorem layers_spec {dv tv:Value} {mb:Nat} {ds:List M.Dcl} {t:M.Tm} (J:DclsR F w dv ds) (hm:KindsR w mb) (A:M.declOk ds=true) (Q:TermR G w tv t) (hs:M.sortM ds t≠ -1) (y:Ky K w G (M.ruleL ds t)):vcall ju #[qK dv mb,tv] w K:=by
 refine ze {ord:=[oz 3 [0,1,2,3,4,5,6,7,8,9,10,15,16,17,18,11,12,13,14,19,20,21,22,23] [(0,[15,16,17,18]),(1,[15,16,17,18]),(2,[15,16,17,18]),(3,[15,16,17,18]),(4,[6,7,8,9,10,15,16,17,18,11,12]),(5,[6,7,8,9,10,15,16,17,18,11,12]),(6,[7,8,9,10,15,16,17,18]),(7,[15,16,17,18]),(8,[15,16,17,18]),(9,[15,16,17,18]),(10,[15,16,17,18]),(15,[11,12,13,14]),(16,[11,12,13,14]),(17,[11,12,13,14]),(18,[11,12,13,14]),(20,[21])],oz 6 (oR 8) [(0,[5,6]),(1,[5,6]),(2,[5,6]),(3,[5,6]),(4,[5,6])]],cuts:=[(20486,[32])]} Tryz.func126 ?_;refine rs_enter (B:=λt2 t3 t4 U=>_) J hm Q λw1 b2 b3 b4 kv rs=>?_;have hlen:=M.len_of hs;simp only[push_cast,rs.q.ld0];refine zb (λa=>?_) (λa=>?_)
 ·have L:t.ks.length=1:=by rw[a] at hlen;simp[M.arity] at hlen;omega
  refine zd λw2 H _=>?_;have n:=zZ rs H;obtain⟨css,r,O,E⟩:=n.k;simp(disch:=first|omega|simp only[push_cast]) only[push_cast,n.q.ld1,n.q.ld2,n.q.ld4,n.f.ldAgg (t:=ye) xJ,r.iaddr,r.ldAgg,true_and];refine zb (λb=>?_) (λb=>?_)
  ·refine jp n.d n.m A (E 0 oM).term λw3 l=>?_;have j:=zZ n l;have sl3:=r.ext l;have hw:=M.sort_range A (M.kid t 0);simp(disch:=first|omega|simp only[push_cast]) only[push_cast,j.q.ld1,j.q.ld4,sl3.iaddr,sl3.ldAgg,true_and,and_self];rw[show t.ks.getD 0 default=M.kid t 0 from rfl,show IntKind.i64.wrap (M.sortM ds (M.kid t 0)-1)=M.sortM ds (M.kid t 0)-1 from zl oM oM];refine chosen_spec ((E 0 oM).ext l).term λT v5 p s=>?_;have C:=zZ j p;simp only[push_cast,true_and];refine yu C (rs_kid C s) (xg0 y ?_);unfold M.ruleL;rw[if_pos a];by_cases e:t.a=M.sortM ds (M.kid t 0)-1
   ·rw[if_pos ⟨b,e⟩,if_pos (decide_eq_true e)];rfl
   ·rw[if_neg (λx=>e x.2),if_neg (by rw[decide_eq_false e];decide)]
  ·refine chosen_spec (E 0 oM).term λT v5 p s=>?_;have C:=zZ n p;simp only[push_cast,true_and];refine yu C (rs_kid C s) (xg0 y ?_);unfold M.ruleL;rw[if_pos a,if_neg (λx=>b x.1)];rfl
 have nothing: ¬((t.op=1\/t.op=2)/\(M.kid t 0).op=t.op)->M.ruleL ds t=none:=λh=>by unfold M.ruleL;rw[if_neg a,if_neg h]
 refine zp (λu w'=> ∃b:Bool,u=[.bool b]/\w'=w1/\(b=true↔t.op=1\/t.op=2)) (λD hD=>?_) ?_
 ·try simp only[push_cast]
  refine zb (λb=>?_) (λb=>?_)
  ·exact hD _ _ ⟨_,rfl,rfl,by rw[decide_eq_true_eq];exact⟨.inl,λh=>oM⟩⟩
  ·exact hD _ _ ⟨_,rfl,rfl,by rw[decide_eq_true_eq];exact⟨.inr,λh=>oM⟩⟩
 rintro u g w2 ⟨b,rfl,rfl,I⟩;simp only[push_cast];refine zo (λc=>?_) (λc=>?_)
 ·have v:=I.1 c;have L:t.ks.length=1:=by rcases v with e|e<;>rw[e] at hlen<;>simp[M.arity] at hlen<;>omega
  refine zd λw3 l _=>?_;have j:=zZ rs l;simp(disch:=first|omega|simp only[push_cast]) only[push_cast,j.q.ld0,j.q.ld4,j.k.iaddr,true_and];rw[tms_op j.k oM];simp(disch:=first|omega|simp only[push_cast]) only[push_cast,j.q.ld0,j.q.ld4,j.k.iaddr,true_and];refine zb (λe=>?_) (λe=>?_)
  ·have k0:=M.good_kid hs (i:=0) oM;have N:(t.ks.getD 0 default).ks.length=1:=by
    have:=M.len_of k0;rw[show(M.kid t 0).op=t.op from e] at this;rcases v with o|o<;>rw[o] at this<;>simp[M.arity] at this<;>(unfold M.kid at this;omega)
   refine tms_kids j.k oM λS z=>?_;simp(disch:=first|omega|simp only[push_cast]) only[push_cast,z.iaddr];refine z.load zc oM λx R=>?_;exact yu j (rs_kid j R) (qb y (by unfold M.ruleL;rw[if_neg a];exact if_pos ⟨v,e⟩))
  ·try simp only[push_cast]
   exact yu j Z0 (jN y (nothing λh=>e h.2))
 ·have n12: ¬(t.op=1\/t.op=2):=λh=>by have:=I.2 h;rw[c] at this;cases this
  try simp only[push_cast]
  exact yu rs Z0 (jN y (nothing λh=>n12 h.1))
theorem twins_spec {dv tv:Value} {mb:Nat} {ds:List M.Dcl} {t:M.Tm} (S:DclsR F w dv ds) (hm:KindsR w mb) (I:M.declOk ds=true) (V:TermR G w tv t) (hs:M.sortM ds t≠ -1) (p:Ky K w G (M.ruleW ds t)):vcall jT #[qK dv mb,tv] w K:=by
 refine ze {ord:=[oz 1 (oR 16) [(5,[9,10,11,12]),(6,[9,10,11,12]),(7,[9,10,11,12]),(8,[9,10,11,12])]],cuts:=[(8195,[]),(20486,[25]),(32777,[32])]} Tryz.func127 ?_;refine rs_enter (B:=λt2 t3 t4 Z=>_) S hm V λw1 b2 b3 b4 kv rs=>?_;have no:∀w',RS G w w' b2 b3 b4 dv kv mb ds t->¬(t.ks.length=2/\M.kid t 0=M.kid t 1)->zU za (ptr b4) (.agg ⟨VZ⟩) w' λ_ w1=>vlv za (ptr b4) w1 λr w2=>K (.tuple #[r,.bool false]) w2:=λw' J h=>
  yu J Z0 (jN p (by unfold M.ruleW;rw[if_neg h]))
 refine zp (λu w'=>u=[]/\Ext w1 w'/\t.ks.length=2/\M.kid t 0=M.kid t 1) (λC R=>?_) ?_
 ·refine zd λw2 n _=>?_;have j:=zZ rs n;obtain⟨css,y,U,O⟩:=j.k;simp(disch:=first|omega|simp only[push_cast]) only[push_cast,j.q.ld4,j.k.len,true_and];refine zb (λa=>?_) (λa=>?_)
  ·try simp only[push_cast]
   exact no _ j λh=>a (by rw[h.1];rfl)
  have H:t.ks.length=2:=oM;simp(disch:=first|omega|simp only[push_cast]) only[push_cast,j.q.ld4,y.iaddr,y.ldAgg,true_and];refine TermSame_spec _ (O 0 oM).term (O 1 oM).term λE i=>?_;have Y:=zZ j i;simp only[push_cast,true_and];refine zo (λb=>?_) (λb=>?_)
  ·rw[gN,decide_eq_false_iff_not] at b
   try simp only[push_cast]
   exact no _ Y λh=>b h.2
  ·rw[gM,decide_eq_true_eq] at b;exact R _ _ ⟨rfl,n.trans i,H,b⟩
 rintro u g w2 ⟨rfl,n,H,T⟩;have j:=zZ rs n;have W:M.ruleW ds t=if t.op=3\/t.op=4 then some (M.kid t 0) else if t.op=5\/t.op=7 then some (M.constM (M.sortM ds t) 0) else if t.op=15 then some (M.constM 0 1) else if t.op=16\/t.op=17 then some (M.constM 0 0) else none:=by
  unfold M.ruleW;rw[if_pos ⟨H,T⟩]
 simp only[push_cast,j.q.ld0];refine zp (λu w'=> ∃b:Bool,u=[.bool b]/\w'=w2/\(b=true↔t.op=3\/t.op=4)) (λD hD=>?_) ?_
 ·try simp only[push_cast]
  refine zb (λb=>?_) (λb=>?_)
  ·exact hD _ _ ⟨_,rfl,rfl,by rw[decide_eq_true_eq];exact⟨.inl,λh=>oM⟩⟩
  ·exact hD _ _ ⟨_,rfl,rfl,by rw[decide_eq_true_eq];exact⟨.inr,λh=>oM⟩⟩
 rintro u1 g1 L ⟨b,rfl,rfl,N⟩;simp only[push_cast];refine zo (λc=>?_) (λc=>?_)
 ·simp(disch:=first|omega|simp only[push_cast]) only[push_cast,j.q.ld4,j.k.iaddr];refine j.k.load zc oM λx X=>?_;exact yu j (rs_kid j X) (qb p (by rw[W,if_pos (N.1 c)];rfl))
 have z: ¬(t.op=3\/t.op=4):=λh=>by have:=N.2 h;rw[c] at this;cases this
 refine zp (λu w'=> ∃b:Bool,u=[.bool b]/\w'=L/\(b=true↔t.op=5\/t.op=7)) (λD hD=>?_) ?_
 ·try simp only[push_cast]
  refine zb (λb=>?_) (λb=>?_)
  ·exact hD _ _ ⟨_,rfl,rfl,by rw[decide_eq_true_eq];exact⟨.inl,λh=>oM⟩⟩
  ·exact hD _ _ ⟨_,rfl,rfl,by rw[decide_eq_true_eq];exact⟨.inr,λh=>oM⟩⟩
 rintro u2 g2 Q ⟨b',rfl,rfl,s⟩;simp only[push_cast];refine zo (λc'=>?_) (λc'=>?_)
 ·rw[j.f.ldAgg (t:=ye) xJ,j.q.ldAgg (t:=za) zc];refine jp j.d j.m I ⟨kv,rfl,j.k⟩ λw3 v=>?_;refine constant_spec λE v4 i l=>?_;exact yu (zZ j (v.trans i)) (rs_new (zZ j v) i l) (qb p (by rw[W,if_neg z,if_pos (s.1 c')]))
 have A: ¬(t.op=5\/t.op=7):=λh=>by have:=s.2 h;rw[c'] at this;cases this
 try simp only[push_cast]
 refine zb (λe=>?_) (λe=>?_)
 ·refine constant_spec λE v4 i l=>?_;exact yu (zZ j i) (rs_new j i l) (qb p (by rw[W,if_neg z,if_neg A,if_pos e]))
 by_cases o:t.op=16
 ·simp only[o,decide_true,push_cast];refine constant_spec λE v4 i l=>?_;exact yu (zZ j i) (rs_new j i l) (qb p (by rw[W,if_neg z,if_neg A,if_neg e,if_pos (.inl o)]))
 ·simp only[o,decide_false,push_cast];refine zb (λf=>?_) (λf=>?_)
  ·refine constant_spec λE v4 i l=>?_;exact yu (zZ j i) (rs_new j i l) (qb p (by rw[W,if_neg z,if_neg A,if_neg e,if_pos (.inr f)]))
  ·try simp only[push_cast]
   exact yu j Z0 (jN p (by rw[W,if_neg z,if_neg A,if_neg e,if_neg oM]))
end
section
variable {w:World} {K:oK} {F D G:Nat->Prop}
def TwoV (G:Nat->Prop) (w0 w':World) (t:M.Tm) (u:List Value):Prop:= ∃b b' c c',u=[ptr b,ptr b']/\Blk w' b c za/\TmR (λx=>G x/\x<w0.heap.size) w' c (M.kid t 0)/\Blk w' b' c' za/\TmR (λx=>G x/\x<w0.heap.size) w' c' (M.kid t 1)
theorem yc0 {w0 w1:World} {b2 b3 b4 mb:Nat} {dv kv:Value} {ds:List M.Dcl} {t:M.Tm} {C:List Value->World->Prop} (rs:RS G w0 w1 b2 b3 b4 dv kv mb ds t) (f:2<=t.ks.length) (g:∀u w',Ext w1 w'->TwoV G w0 w' t u->C u w'):Qc (ptr b3) w1 C:=
 pairReg_ok rs.q rs.k f λw' b e c c' he h i a d=>g _ _ he ⟨b,e,c,c',rfl,h,i,a,d⟩
theorem truths_spec {dv tv:Value} {mb:Nat} {ds:List M.Dcl} {t:M.Tm} (hd:DclsR F w dv ds) (hm:KindsR w mb) (ht:TermR G w tv t) (hs:M.sortM ds t≠ -1) (y:Ky K w G (M.ruleT t)):vcall jt #[qK dv mb,tv] w K:=by
 refine ze {cuts:=[(20486,[6,7]),(28679,[8,9]),(32779,[]),(32776,[26])],trees:=[(6,(.st 0 (.st 1 (.st 2 (.st 3 (.st 4 (.st 5 (.st 6 (.st 7 (.alt 8 (.alt 9 (.alt 10 (.alt 11 .nil .no) .no) .no) (.alt 9 (.alt 8 (.alt 10 (.alt 11 .nil .no) .no) .no) .no)))))))))),[(0,[1,2,3,10,11]),(1,[2,3,10,11]),(2,[3,10,11]),(3,[10,11]),(4,[5,6,7,11]),(5,[6,7,11]),(6,[7,11]),(7,[11]),(8,[10,11]),(9,[10,11]),(10,[11])])]} Tryz.func125 ?_;refine rs_enter (B:=λt2 t3 t4 a0=>_) hd hm ht λw1 b2 b3 b4 kv rs=>?_;have hlen:=M.len_of hs;rw[rs.q.ldAgg (t:=za) zc];refine intsL (xs:=[26,27]) dC λw2 av Q hav=>?_;have r2:=zZ rs Q;refine among_spec (t:=t) (F:=λx=>G x/\x<w.heap.size) ⟨kv,rfl,r2.k⟩ hav dC λw3 R=>?_;have N:=zZ r2 R;have r:t.op∈[(26:Int),27]↔t.op=26\/t.op=27:=by simp
 simp only[push_cast];refine zo (λa=>?_) (λa=>?_)
 ·rw[gN,decide_eq_false_iff_not,r] at a
  try simp only[push_cast]
  exact yu N Z0 (jN y (by unfold M.ruleT;rw[if_neg a]))
 rw[gM,decide_eq_true_eq,r] at a;have h2:t.ks.length=2:=by rcases a with e|e<;>rw[e] at hlen<;>simp[M.arity] at hlen<;>omega
 refine zp (λu w'=>u=[nI (M.neutral t.op),nI (1-M.neutral t.op)]/\w'=w3) (λC J=>?_) ?_
 ·simp only[push_cast,N.q.ld0];refine zb (λb=>?_) (λb=>?_)
  ·refine J _ _ ⟨?_,rfl⟩;unfold M.neutral;rw[if_neg oM];rfl
  ·refine J _ _ ⟨?_,rfl⟩;unfold M.neutral;rw[if_pos oM];rfl
 rintro u g Y ⟨rfl,rfl⟩;refine zp (λu w'=>Ext Y w'/\TwoV G w w' t u) (λC J=>?_) ?_
 ·have reg:=yc0 (C:=C) N oM λu w' he h=>J u w' ⟨he,h⟩;unfold Qc at reg;simp only[push_cast] at reg;exact reg
 rintro u1 g1 w4 ⟨S,b,b',c,c',rfl,L,z,n,l⟩;have r4:=zZ N S;have gc:aggB za c.length=true:=by rw[zQ z];exact zc
 have m:aggB za c'.length=true:=by rw[zQ l];exact zc
 have T:M.ruleT t=if M.isM (M.kid t 0) (M.neutral t.op)=true\/M.kid t 0=M.kid t 1 then some (M.kid t 1) else if M.isM (M.kid t 1) (M.neutral t.op)=true then some (M.kid t 0) else if M.isM (M.kid t 0) (1-M.neutral t.op)=true\/M.isM (M.kid t 1) (1-M.neutral t.op)=true then some (M.constM 0 (1-M.neutral t.op)) else none:=by
  unfold M.ruleT;rw[if_pos a]
 refine zp (λu w'=>u=[]/\Ext w4 w'/\¬(M.isM (M.kid t 0) (M.neutral t.op)=true\/M.kid t 0=M.kid t 1)/\¬M.isM (M.kid t 1) (M.neutral t.op)=true) (λD hD=>?_) ?_
 ·refine zp (λu w'=> ∃e:Bool,u=[.bool e]/\Ext w4 w'/\(e=true↔M.isM (M.kid t 0) (M.neutral t.op)=true\/M.kid t 0=M.kid t 1)) (λE Z=>?_) ?_
  ·simp only[push_cast];rw[L.ldAgg (t:=za) gc];refine jo z.term λw5 d=>?_;refine zo (λi=>?_) (λi=>?_)
   ·exact Z _ _ ⟨true,rfl,d,⟨λ_=> .inl i,λ_=>rfl⟩⟩
   ·try simp only[push_cast]
    rw[(L.ext d).ldAgg (t:=za) gc,(n.ext d).ldAgg (t:=za) m];refine TermSame_spec _ (z.ext d).term (l.ext d).term λw6 f=>?_;refine Z _ _ ⟨_,rfl,d.trans f,?_⟩;rw[decide_eq_true_eq];exact⟨.inr,λh=>h.elim (λx=>by rw[i] at x;cases x) id⟩
  rintro u2 g2 w5 ⟨e,rfl,d,A⟩;have I:=zZ r4 d;simp only[push_cast];refine zo (λi=>?_) (λi=>?_)
  ·try simp only[push_cast]
   rw[(n.ext d).ldAgg (t:=za) m];exact yu I (rs_kid I (l.ext d).term) (qb y (by rw[T,if_pos (A.1 i)]))
  have H: ¬(M.isM (M.kid t 0) (M.neutral t.op)=true\/M.kid t 0=M.kid t 1):=λh=>by have:=A.2 h;rw[i] at this;cases this
  try simp only[push_cast]
  rw[(n.ext d).ldAgg (t:=za) m];refine jo (l.ext d).term λw6 f=>?_;have v:=zZ I f;refine zo (λj=>?_) (λj=>?_)
  ·try simp only[push_cast]
   rw[(L.ext (d.trans f)).ldAgg (t:=za) gc];exact yu v (rs_kid v (z.ext (d.trans f)).term) (qb y (by rw[T,if_neg H,if_pos j]))
  ·exact hD _ _ ⟨rfl,d.trans f,H,by rw[j];decide⟩
 rintro u2 g2 w5 ⟨rfl,d,H,n2⟩;have I:=zZ r4 d;simp only[push_cast];rw[(L.ext d).ldAgg (t:=za) gc];refine jo (z.ext d).term λw6 f=>?_;have v:=zZ I f;refine zo (λi=>?_) (λi=>?_)
 ·refine constant_spec λw7 v7 o V=>?_;have O:=zZ v o;refine chosen_spec (rs_new v o V) λw8 v8 p s=>?_;have X:=zZ O p;simp only[push_cast];exact yu X s (qb y (by rw[T,if_neg H,if_neg n2,if_pos (.inl i)]))
 ·try simp only[push_cast]
  rw[(n.ext (d.trans f)).ldAgg (t:=za) m];refine jo (l.ext (d.trans f)).term λw7 o=>?_;have O:=zZ v o;refine constant_spec λw8 v8 p s=>?_;have X:=zZ O p;refine chosen_spec (rs_new O p s) λw9 v9 U W=>?_;have r9:=zZ X U;simp only[push_cast];refine yu r9 W (xg0 y ?_);rw[T,if_neg H,if_neg n2];by_cases j:M.isM (M.kid t 1) (1-M.neutral t.op)=true
  ·rw[if_pos (.inr j),if_pos j]
  ·rw[if_neg (λh=>h.elim (λx=>by rw[i] at x;cases x) j),if_neg j]
theorem seconds_spec {dv tv:Value} {mb:Nat} {ds:List M.Dcl} {t:M.Tm} (hd:DclsR F w dv ds) (hm:KindsR w mb) (ht:TermR G w tv t) (J:Ky K w G (M.ruleS t)):vcall jg #[qK dv mb,tv] w K:=by
 refine ze {ord:=[oz 8 [0,7,1,2,3,4,5,6,8,9,10,11,12] [(0,[7]),(7,[1,2,3,4,5,6]),(9,[10])]],cuts:=[(16388,[6,7]),(20488,[]),(20485,[21])],trees:=[(3,(.st 0 (.st 1 (.st 2 (.st 3 (.st 4 (.st 5 (.st 6 (.st 7 (.alt 8 (.alt 9 (.alt 10 (.alt 11 .nil .no) .no) .no) (.alt 9 (.alt 8 (.alt 10 (.alt 11 .nil .no) .no) .no) .no)))))))))),[(0,[1,2,3,10,11]),(1,[2,3,10,11]),(2,[3,10,11]),(3,[10,11]),(4,[5,6,7,11]),(5,[6,7,11]),(6,[7,11]),(7,[11]),(8,[10,11]),(9,[10,11]),(10,[11])])]} Tryz.func128 ?_;refine rs_enter (B:=λt2 t3 t4 a0=>_) hd hm ht λw1 b2 b3 b4 kv rs=>?_;simp only[push_cast,rs.q.ld4,rs.k.len];refine zb (λa=>?_) (λa=>?_)
 ·try simp only[push_cast]
  exact yu rs Z0 (jN J (by unfold M.ruleS;rw[if_neg oM]))
 have h2:t.ks.length=2:=oM
 refine zp (λu w'=>Ext w1 w'/\TwoV G w w' t u) (λC hC=>?_) ?_
 ·have reg:=yc0 (C:=C) rs oM λu w' he h=>hC u w' ⟨he,h⟩;unfold Qc at reg;simp only[push_cast] at reg;exact reg
 rintro u1 g1 Z ⟨U,b,b',c,c',rfl,X,S,p,m⟩;have V:=zZ rs U;have gc:aggB za c.length=true:=by rw[zQ S];exact zc
 have n:aggB za c'.length=true:=by rw[zQ m];exact zc
 have T:M.ruleS t=if M.isM (M.kid t 1) 0=true/\(t.op=4\/t.op=5\/t.op=6\/t.op=7\/t.op=11\/t.op=12\/t.op=13) then some (M.kid t 0) else if M.isM (M.kid t 1) 0=true/\(t.op=3\/t.op=8) then some (M.kid t 1) else if M.isM (M.kid t 1) 1=true/\t.op=8 then some (M.kid t 0) else none:=by
  unfold M.ruleS;rw[if_pos h2]
 refine zp (λu w'=>u=[]/\Ext Z w'/\¬(M.isM (M.kid t 1) 0=true/\(t.op=4\/t.op=5\/t.op=6\/t.op=7\/t.op=11\/t.op=12\/t.op=13))/\¬(M.isM (M.kid t 1) 0=true/\(t.op=3\/t.op=8))) (λD hD=>?_) ?_
 ·refine zp (λu w'=> ∃e:Bool,u=[.bool e]/\Ext Z w'/\(e=true↔M.isM (M.kid t 1) 0=true/\(t.op=4\/t.op=5\/t.op=6\/t.op=7\/t.op=11\/t.op=12\/t.op=13))) (λE W=>?_) ?_
  ·simp only[push_cast];rw[p.ldAgg (t:=za) n];refine jo m.term λw5 d=>?_;have s:=zZ V d;refine zo (λi=>?_) (λi=>?_)
   ·try simp only[push_cast]
    rw[s.q.ldAgg (t:=za) zc];refine intsL (xs:=[4,5,6,7,11,12,13]) dC λw6 av f hav=>?_;have H:=zZ s f;refine among_spec (t:=t) (F:=λx=>G x/\x<w.heap.size) ⟨kv,rfl,H.k⟩ hav dC λw7 g=>?_;refine W _ _ ⟨_,rfl,d.trans (f.trans g),?_⟩;rw[decide_eq_true_eq];simp only[gd,gq,or_false];exact⟨λh=>⟨i,h⟩,λh=>h.2⟩
   ·exact W _ _ ⟨false,rfl,d,⟨λh=>(by cases h),λh=>(by rw[i] at h;cases h.1)⟩⟩
  rintro u2 g2 w5 ⟨e,rfl,d,R⟩;have s:=zZ V d;simp only[push_cast];refine zo (λi=>?_) (λi=>?_)
  ·try simp only[push_cast]
   rw[(X.ext d).ldAgg (t:=za) gc];exact yu s (rs_kid s (S.ext d).term) (qb J (by rw[T,if_pos (R.1 i)]))
  have A:=λh=>(show False by have:=R.2 h;rw[i] at this;cases this)
  try simp only[push_cast]
  rw[(p.ext d).ldAgg (t:=za) n];refine jo (m.ext d).term λw6 f=>?_;have H:=zZ s f;refine zo (λj=>?_) (λj=>?_)
  ·try simp only[push_cast]
   rw[H.q.ldAgg (t:=za) zc];refine intsL (xs:=[3,8]) dC λw7 av g hav=>?_;have I:=zZ H g;refine among_spec (t:=t) (F:=λx=>G x/\x<w.heap.size) ⟨kv,rfl,I.k⟩ hav dC λw8 l=>?_;have v:=zZ I l;have y:=d.trans (f.trans (g.trans l));have r:t.op∈[(3:Int),8]↔t.op=3\/t.op=8:=(by simp);refine zb (λo=>?_) (λo=>?_)
   ·try simp only[push_cast]
    rw[(p.ext y).ldAgg (t:=za) n];exact yu v (rs_kid v (m.ext y).term) (qb J (by rw[T,if_neg A,if_pos ⟨j,r.1 o⟩]))
   ·exact hD _ _ ⟨rfl,y,A,λh=>o (r.2 h.2)⟩
  ·exact hD _ _ ⟨rfl,d.trans f,A,λh=>by rw[j] at h;cases h.1⟩
 rintro u2 g2 w5 ⟨rfl,d,A,Y⟩;have s:=zZ V d;refine zd λw6 f _=>?_;have H:=zZ s f;have L:=X.ext (d.trans f);have N:=p.ext (d.trans f);have O:=S.ext (d.trans f);have Q:=m.ext (d.trans f);simp only[push_cast,L.ldAgg (t:=za) gc,N.ldAgg (t:=za) n,true_and];refine jo Q.term λw7 g=>?_;have I:=zZ H g;simp only[push_cast,(L.ext g).ldAgg (t:=za) gc,true_and,and_self];refine zo (λi=>?_) (λi=>?_)
 ·simp only[push_cast,I.q.ld0,true_and];refine chosen_spec (O.ext g).term λw8 v8 l z=>?_;have v:=zZ I l;simp only[push_cast,true_and];refine yu v (rs_kid v z) (xg0 J ?_);rw[T,if_neg A,if_neg Y];by_cases o:t.op=8
  ·rw[if_pos ⟨i,o⟩,if_pos (decide_eq_true o)]
  ·rw[if_neg (λh=>o h.2),if_neg (by rw[decide_eq_false o];decide)]
 ·refine chosen_spec (O.ext g).term λw8 v8 l z=>?_;have v:=zZ I l;simp only[push_cast,true_and];refine yu v (rs_kid v z) (jN J ?_);rw[T,if_neg A,if_neg Y,if_neg (λh=>by rw[i] at h;cases h.1)]
theorem firsts_spec {dv tv:Value} {mb:Nat} {ds:List M.Dcl} {t:M.Tm} (hd:DclsR F w dv ds) (hm:KindsR w mb) (ht:TermR G w tv t) (L:Ky K w G (M.ruleF t)):vcall jv #[qK dv mb,tv] w K:=by
 refine ze {ord:=[oz 8 [0,7,1,2,3,4,5,6,8,9,10,11,12] [(0,[7]),(7,[1,2,3,4,5,6]),(9,[10])]],cuts:=[(16388,[6,7]),(20488,[]),(20485,[21])],trees:=[(3,(.st 0 (.st 1 (.st 2 (.st 3 (.st 4 (.st 5 (.st 6 (.st 7 (.alt 8 (.alt 9 (.alt 10 (.alt 11 .nil .no) .no) .no) (.alt 9 (.alt 8 (.alt 10 (.alt 11 .nil .no) .no) .no) .no)))))))))),[(0,[1,2,3,10,11]),(1,[2,3,10,11]),(2,[3,10,11]),(3,[10,11]),(4,[5,6,7,11]),(5,[6,7,11]),(6,[7,11]),(7,[11]),(8,[10,11]),(9,[10,11]),(10,[11])])]} Tryz.func129 ?_;refine rs_enter (B:=λt2 t3 t4 a0=>_) hd hm ht λw1 b2 b3 b4 kv rs=>?_;simp only[push_cast,rs.q.ld4,rs.k.len];refine zb (λa=>?_) (λa=>?_)
 ·try simp only[push_cast]
  exact yu rs Z0 (jN L (by unfold M.ruleF;rw[if_neg oM]))
 have h2:t.ks.length=2:=oM
 refine zp (λu w'=>Ext w1 w'/\TwoV G w w' t u) (λC hC=>?_) ?_
 ·have reg:=yc0 (C:=C) rs oM λu w' he h=>hC u w' ⟨he,h⟩;unfold Qc at reg;simp only[push_cast] at reg;exact reg
 rintro u1 g1 Z ⟨V,b,b',c,c',rfl,R,O,N,z⟩;have W:=zZ rs V;have gc:aggB za c.length=true:=by rw[zQ O];exact zc
 have y:aggB za c'.length=true:=by rw[zQ z];exact zc
 have T:M.ruleF t=if M.isM (M.kid t 0) 0=true/\(t.op=4\/t.op=5\/t.op=6) then some (M.kid t 1) else if M.isM (M.kid t 0) 0=true/\(t.op=3\/t.op=8) then some (M.kid t 0) else if M.isM (M.kid t 0) 1=true/\t.op=8 then some (M.kid t 1) else none:=by
  unfold M.ruleF;rw[if_pos h2]
 refine zp (λu w'=>u=[]/\Ext Z w'/\¬(M.isM (M.kid t 0) 0=true/\(t.op=4\/t.op=5\/t.op=6))/\¬(M.isM (M.kid t 0) 0=true/\(t.op=3\/t.op=8))) (λD hD=>?_) ?_
 ·refine zp (λu w'=> ∃e:Bool,u=[.bool e]/\Ext Z w'/\(e=true↔M.isM (M.kid t 0) 0=true/\(t.op=4\/t.op=5\/t.op=6))) (λE X=>?_) ?_
  ·simp only[push_cast];rw[R.ldAgg (t:=za) gc];refine jo O.term λw5 d=>?_;have r:=zZ W d;refine zo (λi=>?_) (λi=>?_)
   ·try simp only[push_cast]
    rw[r.q.ldAgg (t:=za) zc];refine intsL (xs:=[4,5,6]) dC λw6 av f hav=>?_;have I:=zZ r f;refine among_spec (t:=t) (F:=λx=>G x/\x<w.heap.size) ⟨kv,rfl,I.k⟩ hav dC λw7 g=>?_;refine X _ _ ⟨_,rfl,d.trans (f.trans g),?_⟩;rw[decide_eq_true_eq];simp only[gd,gq,or_false];exact⟨λh=>⟨i,h⟩,λh=>h.2⟩
   ·exact X _ _ ⟨false,rfl,d,⟨λh=>(by cases h),λh=>(by rw[i] at h;cases h.1)⟩⟩
  rintro u2 g2 w5 ⟨e,rfl,d,Q⟩;have r:=zZ W d;simp only[push_cast];refine zo (λi=>?_) (λi=>?_)
  ·try simp only[push_cast]
   rw[(N.ext d).ldAgg (t:=za) y];exact yu r (rs_kid r (z.ext d).term) (qb L (by rw[T,if_pos (Q.1 i)]))
  have H:=λh=>(show False by have:=Q.2 h;rw[i] at this;cases this)
  try simp only[push_cast]
  rw[(R.ext d).ldAgg (t:=za) gc];refine jo (O.ext d).term λw6 f=>?_;have I:=zZ r f;refine zo (λj=>?_) (λj=>?_)
  ·try simp only[push_cast]
   rw[I.q.ldAgg (t:=za) zc];refine intsL (xs:=[3,8]) dC λw7 av g hav=>?_;have J:=zZ I g;refine among_spec (t:=t) (F:=λx=>G x/\x<w.heap.size) ⟨kv,rfl,J.k⟩ hav dC λw8 l=>?_;have s:=zZ J l;have v:=d.trans (f.trans (g.trans l));have p:t.op∈[(3:Int),8]↔t.op=3\/t.op=8:=(by simp);refine zb (λo=>?_) (λo=>?_)
   ·try simp only[push_cast]
    rw[(R.ext v).ldAgg (t:=za) gc];exact yu s (rs_kid s (O.ext v).term) (qb L (by rw[T,if_neg H,if_pos ⟨j,p.1 o⟩]))
   ·exact hD _ _ ⟨rfl,v,H,λh=>o (p.2 h.2)⟩
  ·exact hD _ _ ⟨rfl,d.trans f,H,λh=>by rw[j] at h;cases h.1⟩
 rintro u2 g2 w5 ⟨rfl,d,H,Y⟩;have r:=zZ W d;refine zd λw6 f _=>?_;have I:=zZ r f;have S:=R.ext (d.trans f);have m:=N.ext (d.trans f);have U:=O.ext (d.trans f);have n:=z.ext (d.trans f);simp only[push_cast,S.ldAgg (t:=za) gc,m.ldAgg (t:=za) y,true_and];refine jo U.term λw7 g=>?_;have J:=zZ I g;simp only[push_cast,(m.ext g).ldAgg (t:=za) y,true_and,and_self];refine zo (λi=>?_) (λi=>?_)
 ·simp only[push_cast,J.q.ld0,true_and];refine chosen_spec (n.ext g).term λw8 v8 l A=>?_;have s:=zZ J l;simp only[push_cast,true_and];refine yu s (rs_kid s A) (xg0 L ?_);rw[T,if_neg H,if_neg Y];by_cases o:t.op=8
  ·rw[if_pos ⟨i,o⟩,if_pos (decide_eq_true o)]
  ·rw[if_neg (λh=>o h.2),if_neg (by rw[decide_eq_false o];decide)]
 ·refine chosen_spec (n.ext g).term λw8 v8 l A=>?_;have s:=zZ J l;simp only[push_cast,true_and];refine yu s (rs_kid s A) (jN L ?_);rw[T,if_neg H,if_neg Y,if_neg (λh=>by rw[i] at h;cases h.1)]
end
section
variable {w:World} {K:oK} {F F' D G:Nat->Prop}
def fsL (dv:Value) (mb:Nat):List Value:=[jU,qS,jt,ju,jT,jg,jv].map λn=> .func (.func n) #[qK dv mb] #[]
theorem xf0 {dv:Value} {mb:Nat} (e:∀w' v,Ext w w'->Vals (λ_=>True) w' v (fsL dv mb)->K v w'):vcall YV #[qK dv mb] w K:=by
 refine ze {} Tryz.func92 ?_;refine zi λb1 w1 f a g c=>?_;simp only[push_cast,c.ldAgg (t:=ye) xJ];refine vbuildS_row1 (xs:=fsL dv mb) qQ (by simp only[push_cast]) (z:= .nilFunc) (by unfold yl;kernel_rfl) (λx h=>by obtain⟨y,_,rfl⟩:=gr.1 h;rfl) (by show 7<=16777216;decide) λb w' i he hs d=>?_;have o:OwnV zW w' (.slice (some ⟨b,0,none⟩) (fsL dv mb).length (fsL dv mb).length) (fsL dv mb):=Blk.own1 (t:=zW) (by rw[qM];exact d) (gP _) rfl rfl (by show 7<=9223372036854775807;decide);exact e w' _ (a.trans he) (OwnV.vals o|>.weaken λ_ _ _=>trivial)
def rl (ds:List M.Dcl) (t:M.Tm) (i:Nat):Option M.Tm:=[M.ruleX ds t,M.ruleB t,M.ruleT t,M.ruleL ds t,M.ruleW ds t,M.ruleS t,M.ruleF t].getD i none
theorem callRule {dv tv:Value} {mb:Nat} {ds:List M.Dcl} {t:M.Tm} {i:Nat} (hi:i<7) (c:DclsR F w dv ds) (hm:KindsR w mb) (a:M.declOk ds=true) (d:TermR G w tv t) (hs:M.sortM ds t≠ -1) (b:Ky K w G (rl ds t i)):vcallv ((fsL dv mb).getD i undef) #[tv] w K:=by
 match i,hi with
 |0,_=>exact fixed_spec c hm a d hs b
 |1,_=>exact branches_spec c hm a d hs b
 |2,_=>exact truths_spec c hm d hs b
 |3,_=>exact layers_spec c hm a d hs b
 |4,_=>exact twins_spec c hm a d hs b
 |5,_=>exact seconds_spec c hm d b
 |6,_=>exact firsts_spec c hm d b
theorem rl_none {ds:List M.Dcl} {t:M.Tm} (h:∀j,j<7->rl ds t j=none):M.ruleA ds t=none:=by
 have a:M.ruleX ds t=none:=h 0 oM;have b:M.ruleB t=none:=h 1 oM;have c:M.ruleT t=none:=h 2 oM;have d:M.ruleL ds t=none:=h 3 oM;have e:M.ruleW ds t=none:=h 4 oM;have f:M.ruleS t=none:=h 5 oM;have g:M.ruleF t=none:=h 6 oM;unfold M.ruleA;rw[a,b,c,d,e,f,g];rfl
theorem rl_some {ds:List M.Dcl} {t u:M.Tm} {i:Nat} (hi:i<7) (h:∀j,j<i->rl ds t j=none) (hu:rl ds t i=some u):M.ruleA ds t=some u:=by
 have g:∀j,j<i->rl ds t j=none:=h;unfold M.ruleA
 match i,hi with
 |0,_=>rw[show M.ruleX ds t=some u from hu];rfl
 |1,_=>rw[show M.ruleX ds t=none from g 0 oM,show M.ruleB t=some u from hu];rfl
 |2,_=>rw[show M.ruleX ds t=none from g 0 oM,show M.ruleB t=none from g 1 oM,show M.ruleT t=some u from hu];rfl
 |3,_=>rw[show M.ruleX ds t=none from g 0 oM,show M.ruleB t=none from g 1 oM,show M.ruleT t=none from g 2 oM,show M.ruleL ds t=some u from hu];rfl
 |4,_=>rw[show M.ruleX ds t=none from g 0 oM,show M.ruleB t=none from g 1 oM,show M.ruleT t=none from g 2 oM,show M.ruleL ds t=none from g 3 oM,show M.ruleW ds t=some u from hu];rfl
 |5,_=>rw[show M.ruleX ds t=none from g 0 oM,show M.ruleB t=none from g 1 oM,show M.ruleT t=none from g 2 oM,show M.ruleL ds t=none from g 3 oM,show M.ruleW ds t=none from g 4 oM,show M.ruleS t=some u from hu];rfl
 |6,_=>rw[show M.ruleX ds t=none from g 0 oM,show M.ruleB t=none from g 1 oM,show M.ruleT t=none from g 2 oM,show M.ruleL ds t=none from g 3 oM,show M.ruleW ds t=none from g 4 oM,show M.ruleS t=none from g 5 oM,show M.ruleF t=some u from hu];rfl
theorem one_spec {dv tv:Value} {mb:Nat} {ds:List M.Dcl} {t:M.Tm} (hd:DclsR F w dv ds) (hm:KindsR w mb) (S:M.declOk ds=true) (ht:TermR G w tv t) (hs:M.sortM ds t≠ -1) (O:∀w' rv,Ext w w'->TermR (λx=>G x\/w.heap.size<=x) w' rv (M.oneT ds t)->K rv w'):vcall Qk #[qK dv mb,tv] w K:=by
 refine ze {loops:=[(2,[12])]} Tryz.func65 ?_;refine rs_enter (B:=λt2 t3 t4 a3=>_) hd hm ht λw1 b2 b3 b4 kv rs=>?_;rw[rs.f.ldAgg (t:=ye) xJ];refine xf0 λw2 fv Q J=>?_;have r2:=zZ rs Q;simp only[push_cast,J.len];have W:(fsL dv mb).length=7:=rfl;rw[W];refine vloop_up 7 (λi u w'=>u=[nI i]/\Ext w2 w'/\∀j,j<i->rl ds t j=none) ⟨rfl,Same.refl _ _,λj R=>absurd R oM⟩ ?_;rintro i _ _ w3 C hi ⟨rfl,p,g⟩ hC;have c:=zZ r2 p;have f3:=J.ext p;simp only[push_cast];refine zb (λa=>?_) (λa=>?_)
 ·have L:i<7:=oM;simp(disch:=first|(simp only[push_cast])|(rw[W];omega)|omega) only[push_cast,f3.iaddr,f3.load,c.q.ldAgg (t:=za) zc];refine callRule (G:=λx=>G x/\x<w.heap.size) L c.d c.m S ⟨kv,rfl,c.k⟩ hs λX rv u H hu s=>?_;have r4:=zZ c H;simp only[push_cast];obtain⟨cu,rfl,o⟩:=hu.cells;refine zj zn λb5 w5 a0 I a1 h5=>?_;have D:=(o.weaken (F':=λx=>((G x/\x<w.heap.size)\/w3.heap.size<=x)/\x<X.heap.size) λb h Z=>⟨h,Z⟩).ext I;refine stTerm h5 rfl D λY T a2 h6=>?_;have n:Ext X Y:=Ext.then I T λy N=>by subst N;omega
  have V:=zZ r4 n;have E:TmR (λx=>(G x/\x<w.heap.size)\/w3.heap.size<=x) Y cu u:=o.ext n;cases e:rl ds t i with
  |none=>
   simp only[push_cast,Option.isSome_none];rw[inc64' oM];refine hC oM _ _ ⟨rfl,p.trans (H.trans n),λj R=>?_⟩;by_cases ej:j<i
   ·exact g j ej
   ·have:j=i:=oM;subst this;exact e
  |some x=>
   simp only[push_cast,Option.isSome_some];rw[h6.ldAgg (t:=za) (by rw[zQ o];exact zc)];have A:=s x e;subst A;have l4:=c.r.lt;refine qc V.r rfl E (λx A=>by have:=c.lo;omega) λw7 z U v=>?_;have l:M.oneT ds t=u:=by unfold M.oneT;rw[rl_some L g e];rfl
   rw[l] at O;refine O _ _ (Ext.then V.ext z λy N=>by subst N;exact V.lo) (v.weaken λx A _=>?_);have:=c.ext.size;rcases A with h|h
   ·exact .inl h.1
   ·exact .inr oM
 ·rw[c.q.ldAgg (t:=za) zc];have l:M.oneT ds t=t:=by unfold M.oneT;rw[rl_none λj R=>g j oM];rfl
  rw[l] at O;refine qc c.r rfl (TmR.of (t:=t) c.k) (λx A=>by have:=c.lo;omega) λw7 z U v=>?_;exact O _ _ (Ext.then c.ext z λy N=>by subst N;exact c.lo) (v.weaken λx A _=> .inl A.1)
theorem fold_spec:∀(t:M.Tm) {w:World} {K:oK} {F G:Nat->Prop} {dv tv:Value} {mb:Nat} {ds:List M.Dcl},DclsR F w dv ds->KindsR w mb->M.declOk ds=true->TermR G w tv t->M.sortM ds t≠ -1->(∀w' rv,Ext w w'->TermR (λx=>G x\/w.heap.size<=x) w' rv (M.foldT ds t)->K rv w')->vcall XA #[qK dv mb,tv] w K:=by
 refine M.Tm.ind λt ih w K F G dv tv mb ds hd hm W ht hs hK=>?_;have hlen:=M.len_of hs;have b7:t.ks.length<=3:=by
  unfold M.arity at hlen
  repeat' split at hlen
  all_goals omega
 refine ze {ord:=[oz 6 (oR 9) [(0,[2,3,4,5]),(1,[2,3,4,5]),(2,[3])]],loops:=[(4,[13])]} Tryz.func42 ?_;obtain⟨kv,rfl,ah⟩:=ht;refine zi λb1 w1 av a2 az h1=>?_;refine zi λb2 w2 aw a3 b0 h2=>?_;refine zj zn λb3 w3 ax S b4 h3=>?_;have b8:=a2.size;have q3:=h2.ext S;have f3:=(h1.ext a3).ext S;have a0:=a2.trans (a3.trans S);have af:TmsR (λx=>G x/\x<w.heap.size) w3 kv t.ks:=(ah.weaken λb h h'=>⟨h,h'⟩).ext a0;simp only[push_cast,q3.ld4];refine q3.st (i:=4) rfl rfl xI rfl λH D b9 h4=>?_;replace h4:Blk H b2 [nI t.op,nI t.a,nI t.b,.string t.s,.slice none 0 0] za:=h4;have a1:Ext w H:=Ext.then a0 D λy Y=>by subst Y;omega
 have a5:=af.same D λb d _ e=>oM
 have f4:=f3.same D oM;have r4:=h3.same D oM;simp only[push_cast,a5.len];refine vloop_up t.ks.length (λi u w'=>u=[nI i]/\Same (λb=>b=b2) H w'/\∃k css,Blk w' b2 [nI t.op,nI t.a,nI t.b,.string t.s,k] za/\Own 0 5 zk w' k css/\css.length=i/\(∀b,k.ownBlock=some b->H.heap.size<=b)/\
   ∀j,j<i->TmR (λx=>(G x/\x<w.heap.size)\/(H.heap.size<=x/\k.ownBlock≠some x)) w' (css.getD j []) (M.foldT ds (t.ks.getD j default)))
  ⟨rfl,Same.refl _ _,_,[],h4,Own.nil _ _ _ _,rfl,λb h=>(by cases h),λj hj=>absurd hj oM⟩ ?_
 rintro i _ _ w5 C hi ⟨rfl,f,k,css,h5,A,V,g,J⟩ hC;have ba:=f.size;have q:Ext w w5:=Ext.then a1 f λy Y=>by subst Y;omega
 have a6:=a5.same f λb d _ e=>oM
 have f5:=f4.same f oM;simp only[push_cast];refine zb (λa=>?_) (λa=>?_)
 ·simp(disch:=first|omega|simp only[push_cast]) only[push_cast,a6.iaddr];refine a6.load zc oM λx hx=>?_;obtain⟨cx,rfl,R⟩:=hx.cells;refine zj zn λb6 w6 ay r b5 h6=>?_;refine stTerm h6 rfl (R.ext r) λw7 X aj h7=>?_;have ab:Ext w5 w7:=Ext.then r X λy Y=>by subst Y;omega
  refine zd λw8 a4 _=>?_;have l:=ab.trans a4;have q8:=h5.ext l;have f8:=f5.ext l;have v8:=h7.ext a4;simp only[push_cast,q8.ld4,f8.ldAgg (t:=ye) xJ,v8.ldAgg (t:=za) (by rw[zQ R];exact zc),true_and];have N:t.ks.getD i default∈t.ks:=M.getD_mem oM _;refine ih _ N (hd.ext (q.trans l)) (hm.ext (q.trans l)) W (R.ext l).term ((M.sort_parts hs).2.1 _ N) λw9 rv T B=>?_;obtain⟨cr,rfl,o⟩:=B.cells;have q9:=q8.ext T;simp only[push_cast,q9.ld4,true_and,and_self];have ar:=l.size;have bb:=T.size;refine xt yp yB zn rfl (zQ o) dC λau w10 al m am ac=>?_;have aa:=q9.ext m;simp only[push_cast,aa.ld4,true_and,and_self];have I:=l.trans (T.trans m);have a9:=A.ext I;refine Own.app1k a9 qz dC ac (zQ o) (tmR_one o) oM oM λp bc O n v=>?_;have ak:=aa.same n (λe=>by have:=g _ e;have:=h5.lt;omega);have ao:=n.size
  try simp only[push_cast,true_and]
  have a7:p.cells= #[p]/\p.oneCell'=true:=by
   obtain⟨a,c,rfl,_⟩:=O.sl.shape;exact⟨rfl,rfl⟩
  refine ak.st (i:=4) a7.1 a7.2 xI rfl λE z ap Q=>?_;replace Q:Blk E b2 [nI t.op,nI t.a,nI t.b,.string t.s,p] za:=Q;rw[inc64' oM];have an:=m.size;have L:∀b,p.ownBlock=some b->H.heap.size<=b:=λb d=>by
   rcases v b d with h|h
   ·exact g b h
   ·omega
  have Z:Same (λb=>b=b2\/k.ownBlock=some b) w5 E:=(Same.of_ext I).trans ((n.mono λ_ _ h=> .inr h).trans (z.mono λ_ _ h=> .inl h));have ad:Same (λb=>b=b2) H E:=⟨Z.os.trans f.os,Z.tape.trans f.tape,Z.output.trans f.output,gK f.size Z.size,λb d a8=>(Z.block b oM (λe=>e.elim a8 λe=>by have:=g b e;omega)).trans (f.block b d a8)⟩;refine hC oM _ _ ⟨rfl,ad,p,css++[cr],Q,O.same z (λb d e=>by have:=L b d;omega),by simp[V],L,λj hj=>?_⟩;by_cases ej:j<i
  ·rw[y3,Gd oM,<-y3];refine((J j ej).weaken (F':=λx=>((G x/\x<w.heap.size)\/(H.heap.size<=x/\k.ownBlock≠some x))/\x<w5.heap.size) λb h h'=>⟨h,h'⟩).same Z (λb d _ e=>?_)|>.weaken λb d _=>?_
   ·rcases d.1 with h|h
    ·rcases e with e|e
     ·omega
     ·have:=g b e;omega
    ·rcases e with e|e
     ·omega
     ·exact h.2 e
   ·rcases d.1 with h|h
    ·exact .inl h
    ·refine .inr ⟨h.1,λe=>?_⟩;rcases v b e with e|e
     ·exact h.2 e
     ·omega
  ·have:j=i:=oM;subst this;rw[y3,Gr oM,V,pb];show TmR _ E cr _;refine(((o.weaken (F':=λx=>((G x/\x<w.heap.size)\/w8.heap.size<=x)/\x<w9.heap.size) λb h h'=>⟨h,h'⟩).ext m).same n (λb d _ e=>?_)).same z (λb d _ e=>?_)|>.weaken λb d _=>?_
   ·have:=g b e;have:=(A.lt e).2;rcases d.1 with h|h<;>omega
   ·rcases d.1 with h|h<;>omega
   ·rcases d.1 with h|h
    ·exact .inl h
    ·refine .inr ⟨oM,λe=>?_⟩;rcases v b e with e|e
     ·have:=(A.lt e).2;omega
     ·omega
 ·have ae:i=t.ks.length:=oM;subst ae;rw[f5.ldAgg (t:=ye) xJ,h5.ldAgg (t:=za) zc];have ag:TmsR (λx=>(G x/\x<w.heap.size)\/H.heap.size<=x) w5 k (t.ks.map (M.foldT ds)):=by
   refine⟨css,A.sl.weaken λb d _=> .inr (g b d),by rw[V,y4],λj hj=>?_⟩;rw[y4] at hj;rw[M.getD_map _ hj _ default];exact(J j hj).weaken λb d _=>d.imp id λh=>h.1
  have U:=M.kids_good W hs;refine one_spec (t:=M.remake t (t.ks.map (M.foldT ds))) (hd.ext q) (hm.ext q) W ⟨k,rfl,ag⟩ (by rw[U.sort];exact hs) λw6 rv r B=>?_;rw[<-M.foldT_rem] at B;obtain⟨cr,rfl,o⟩:=B.cells;have r6:=(r4.same f oM).ext r;have:=r4.lt;refine qc r6 rfl o (λx hx=>by rcases hx with(h|h)|h<;>omega) λw7 X aj ai=>?_;have aq:=a1.size;exact hK _ _ (Ext.then (q.trans r) X λy Y=>by subst Y;omega) (ai.weaken λx hx _=>by
   rcases hx with(h|h)|h
   ·exact .inl h.1
   ·exact .inr oM
   ·exact .inr oM)
end
section
variable {w:World} {K:oK} {F D G:Nat->Prop}
inductive TmO (w:World):(Nat->Prop)->List Value->M.Tm->Prop
 |mk {D:Nat->Prop} {kv:Value} {t:M.Tm} (css:List (List Value)) (Ds:Nat->Nat->Prop) (own:Own 0 5 zk w kv css) (hl:css.length=t.ks.length)
   (hb:∀b,kv.ownBlock=some b->D b/\∀i,i<t.ks.length->¬Ds i b) (hd:∀i j b,i<j->j<t.ks.length->Ds i b->¬Ds j b) (hs:∀i b,i<t.ks.length->Ds i b->D b)
   (hk:∀i,i<t.ks.length->TmO w (Ds i) (css.getD i []) (t.ks.getD i default)):TmO w D [nI t.op,nI t.a,nI t.b,.string t.s,kv] t
theorem W4 {cs:List Value} {t:M.Tm} (h:TmO w D cs t):∃(kv:Value) (css:List (List Value)) (Ds:Nat->Nat->Prop),cs=[nI t.op,nI t.a,nI t.b,.string t.s,kv]/\Own 0 5 zk w kv css/\css.length=t.ks.length/\
  (∀b,kv.ownBlock=some b->D b/\∀i,i<t.ks.length->¬Ds i b)/\(∀i j b,i<j->j<t.ks.length->Ds i b->¬Ds j b)/\(∀i b,i<t.ks.length->Ds i b->D b)/\∀i,i<t.ks.length->TmO w (Ds i) (css.getD i []) (t.ks.getD i default):=by
 cases h with
 |mk css Ds own f c d hs e=>exact⟨_,css,Ds,rfl,own,f,c,d,hs,e⟩
theorem ye0:∀(t:M.Tm) {D:Nat->Prop} {cs:List Value},TmO w D cs t->TmR D w cs t:=by
 refine M.Tm.ind λt f D cs h=>?_;obtain⟨kv,css,Ds,rfl,own,e,c,g,hs,d⟩:=W4 h;exact TmR.of ⟨css,own.sl.weaken λb a _=>(c b a).1,e,λi hi=>(f _ (M.getD_mem hi _) (d i hi)).weaken λb a _=>hs i b hi a⟩
theorem j4 {S:Nat->Prop} {w w':World} (hw:Same S w w'):∀(t:M.Tm) {D:Nat->Prop} {cs:List Value},TmO w D cs t->(∀b,D b->¬S b)->TmO w' D cs t:=by
 refine M.Tm.ind λt k D cs h d=>?_;obtain⟨kv,css,Ds,rfl,own,j,c,f,hs,g⟩:=W4 h;exact .mk css Ds (own.same hw λb e=>d b (c b e).1) j c f hs λi hi=>k _ (M.getD_mem hi _) (g i hi) λb a=>d b (hs i b hi a)
theorem yd0 {w':World} {cs:List Value} {t:M.Tm} (h:TmO w D cs t) (hw:Ext w w'):TmO w' D cs t:=j4 hw t h λ_ _ h=>h
theorem qx {cs:List Value} {t:M.Tm} (h:TmO w D cs t) (a:∀b,D b->F b):TmO w F cs t:=by
 obtain⟨kv,css,Ds,rfl,own,f,c,d,hs,e⟩:=W4 h;exact .mk css Ds own f (λb h=>⟨a b (c b h).1,(c b h).2⟩) d (λi b hi h=>a b (hs i b hi h)) e
structure Grow (lo:Nat) (w:World) (kv:Value) (css:List (List Value)) (us:List M.Tm) (Ds:Nat->Nat->Prop):Prop where
 own:Own 0 5 zk w kv css
 len:css.length=us.length
 blk:∀b,kv.ownBlock=some b->lo<=b/\∀j,j<us.length->¬Ds j b
 dis:∀j k b,j<k->k<us.length->Ds j b->¬Ds k b
 sub:∀j b,j<us.length->Ds j b->lo<=b/\b<w.heap.size
 kid:∀j,j<us.length->TmO w (Ds j) (css.getD j []) (us.getD j default)
theorem kz0 (lo:Nat) (w:World):Grow lo w (.slice none 0 0) [] [] λ_ _=>False:=
 ⟨Own.nil _ _ _ _,rfl,λb h=>(by cases h),λj k b _ c=>absurd c (by simp),λj b a=>absurd a (by simp),λj a=>absurd a (by simp)⟩
theorem zR0 {S:Nat->Prop} {lo:Nat} {kv:Value} {w':World} {css:List (List Value)} {us:List M.Tm} {Ds:Nat->Nat->Prop} (h:Grow lo w kv css us Ds) (hw:Same S w w') (hs:∀b,lo<=b->¬S b):Grow lo w' kv css us Ds:=
 ⟨h.own.same hw λb a=>hs b (h.blk b a).1,h.len,h.blk,h.dis,λj b c a=>⟨(h.sub j b c a).1,po (h.sub j b c a).2 hw.size⟩,λj c=>j4 hw _ (h.kid j c) λb a=>hs b (h.sub j b c a).1⟩
theorem grow_push {lo r:Nat} {kv:Value} {E x y w10:World} {css:List (List Value)} {us:List M.Tm} {Ds:Nat->Nat->Prop} {cr:List Value} {u:M.Tm} (h:Grow lo E kv css us Ds) (F:Ext E x) (G:Ext x y) (R:lo<=x.heap.size)
  (I:TmO y (λb=>x.heap.size<=b/\b<y.heap.size) cr u) (p:Ext y w10) (A:Blk w10 r cr za) (S:us.length<=1048576)
  (O:∀d g z,Grow lo g d (css++[cr]) (us++[u]) z->Same (λb=>kv.ownBlock=some b) w10 g->d.cells= #[d]->d.oneCell'=true->K d g):
  vbi .append [zk,zk] zk [kv,.slice (some ⟨r,0,none⟩) 1 1] w10 K:=by
 have t:=ye0 _ I;have s:=F.trans (G.trans p);have g10:=zR0 h s λb _ h=>h;have T:=F.size;have U:=G.size;have J:=p.size;have H:=h.len;refine Own.app1k g10.own qz dC A (zQ t) (tmR_one t) oM oM λd g o f w=>?_;have L:=f.size;have v:d.cells= #[d]/\d.oneCell'=true:=by
  obtain⟨a,c,rfl,_⟩:=o.sl.shape;exact⟨rfl,rfl⟩
 have hold:∀b,kv.ownBlock=some b->b<E.heap.size:=λb i=>(h.own.lt i).2;refine O d g (λj b=>(j=us.length/\x.heap.size<=b/\b<y.heap.size)\/(j<us.length/\Ds j b)) ⟨o,by simp[H],λb i=>?_,λj k b C Q q D=>?_,λj b q i=>?_,λj q=>?_⟩ f v.1 v.2
 ·rcases w b i with e|e
  ·refine⟨(h.blk b e).1,λj q B=>?_⟩;rcases B with⟨_,m,_⟩|⟨m,n⟩
   ·have:=hold b e;omega
   ·exact(h.blk b e).2 j m n
  ·refine⟨oM,λj q B=>?_⟩;rcases B with⟨_,_,m⟩|⟨m,n⟩
   ·omega
   ·have:=(h.sub j b m n).2;omega
 ·rw[K3,gS] at Q;rcases q with⟨m,n,N⟩|⟨m,n⟩
  ·omega
  ·rcases D with⟨g1,g2,g3⟩|⟨g1,g2⟩
   ·have:=(h.sub j b m n).2;omega
   ·exact h.dis j k b C g1 n g2
 ·rcases i with⟨m,n,N⟩|⟨m,n⟩
  ·exact⟨oM,oM⟩
  ·have:=h.sub j b m n;exact⟨this.1,oM⟩
 ·rw[K3,gS] at q;by_cases e:j<us.length
  ·rw[y3,Gd oM,<-y3,y3 (l:=us++[u]),Gd e,<-y3];refine qx (j4 f _ (g10.kid j e) λb i hs=>(h.blk b hs).2 j e i) λb i=> .inr ⟨e,i⟩
  ·have:j=us.length:=oM;subst this;rw[y3,Gr oM,H,pb,y3 (l:=us++[u]),Gr (gu _),pb];show TmO g _ cr u;refine qx (j4 f _ (yd0 I p) λb i hs=>by have:=hold b hs;omega) λb i=> .inl ⟨rfl,i⟩
theorem qY0 {lo:Nat} {kv:Value} {css:List (List Value)} {t:M.Tm} {Ds:Nat->Nat->Prop} (h:Grow lo w kv css t.ks Ds):TmO w (λb=>lo<=b/\b<w.heap.size) [nI t.op,nI t.a,nI t.b,.string t.s,kv] t:=
 .mk css Ds h.own h.len (λb c=>⟨⟨(h.blk b c).1,(h.own.lt c).2⟩,(h.blk b c).2⟩) h.dis (λi b hi c=>h.sub i b hi c) h.kid
theorem retO {b:Nat} {cs cs':List Value} {t:TypeId} {f:M.Tm} {K:oK} (h:Blk w b cs t) (j:cs.length=5) (d:TmO w G cs' f) (c:∀x,G x->x≠b) (i:∀w',Same (· =b) w w'->w'.heap.size=w.heap.size->TmO w' G cs' f->K (.agg ⟨cs'⟩) w'):
  zU za (oP b 0) (.agg ⟨cs'⟩) w λ_ w1=>vlv za (oP b 0) w1 λr w2=>K r w2:=
 qc h j (ye0 _ d) c λw' hw k _=>i w' hw k (j4 hw _ d λg a e=>c g a e)
theorem Ju {us:List M.Tm} {i:Nat} (h:i<us.length):us.take i++[us.getD i default]=us.take (i+1):=(M.take_add h default).symm
theorem copyTerm_spec:∀(t:M.Tm) {w:World} {K:oK} {F:Nat->Prop} {v:Value},TermR F w v t->xt0 t=true->(∀w' cs,Ext w w'->TmO w' (λb=>w.heap.size<=b/\b<w'.heap.size) cs t->K (.agg ⟨cs⟩) w')->vcall JW #[v] w K:=by
 refine M.Tm.ind λt ih w K F v ht J hK=>?_;obtain⟨f1,f2⟩:=fitB_iff.1 J;refine ze {ord:=[oz 6 (oR 8) [(0,[2,3,4]),(1,[2,3,4])]],loops:=[(4,[11])]} Tryz.func40 ?_;obtain⟨kv,rfl,a2⟩:=ht;refine zi λb1 w1 af E ai h1=>?_;refine zj zn λb2 w2 ag G aj h2=>?_;have al:=E.size;have q2:=h1.ext G;have z:=E.trans G;have a1:TmsR (λx=>x<w.heap.size) w2 kv t.ks:=(a2.weaken λb _ h'=>h').ext z;simp only[push_cast,q2.ld4];refine q2.st (i:=4) rfl rfl xI rfl λS p am W=>?_;replace W:Blk S b1 [nI t.op,nI t.a,nI t.b,.string t.s,.slice none 0 0] za:=W;have A:Ext w S:=Ext.then z p λy q=>by subst q;omega
 have L:=a1.same p λb D _ e=>oM
 have r4:=h2.same p oM;simp only[push_cast,L.len];refine vloop_up t.ks.length (λi u w'=>u=[nI i]/\Same (λb=>b=b1) S w'/\∃g css Ds,Blk w' b1 [nI t.op,nI t.a,nI t.b,.string t.s,g] za/\Grow S.heap.size w' g css (t.ks.take i) Ds)
  ⟨rfl,Same.refl _ _,_,[],_,W,kz0 _ _⟩ ?_
 rintro i _ _ w5 C hi ⟨rfl,c,g,css,Ds,h5,g5⟩ hC;have an:=c.size;have ac:=A.size;have X:Ext w w5:=Ext.then A c λy q=>by subst q;omega
 have N:=L.same c λb D _ e=>oM
 simp only[push_cast];refine zb (λa=>?_) (λa=>?_)
 ·simp(disch:=first|omega|simp only[push_cast]) only[push_cast,N.iaddr];refine N.load zc oM λx hx=>?_;obtain⟨cx,rfl,n⟩:=hx.cells;refine zj zn λb6 w6 ah H ak h6=>?_;refine stTerm h6 rfl (n.ext H) λw7 a5 ap h7=>?_;have U:Ext w5 w7:=Ext.then H a5 λy q=>by subst q;omega
  refine zd λw8 I _=>?_;have d:=U.trans I;have q8:=h5.ext d;have v8:=h7.ext I;simp only[push_cast,q8.ld4,v8.ldAgg (t:=za) (by rw[zQ n];exact zc),true_and];have j:t.ks.getD i default∈t.ks:=M.getD_mem oM _;have ad:=d.size;refine ih _ j (n.ext d).term (f2 _ j) λw9 cr o hr=>?_;have q9:=q8.ext o;simp only[push_cast,q9.ld4,true_and,and_self];have Z:=ye0 _ hr;refine xt yp yB zn rfl (zQ Z) dC λae w10 a9 f aa V=>?_;have R:=q9.ext f;simp only[push_cast,R.ld4,true_and,and_self];refine grow_push g5 d o oM hr f V (by rw[gh];omega) λQ aq T g11 k a6 a7=>?_;have a8:=R.same k (λe=>by have:=(g5.blk _ e).1;omega)
  try simp only[push_cast,true_and]
  refine a8.st (i:=4) a6 a7 xI rfl λr l ab m=>?_;replace m:Blk r b1 [nI t.op,nI t.a,nI t.b,.string t.s,Q] za:=m;rw[inc64' oM];have B:Same (λb=>b=b1\/g.ownBlock=some b) w5 r:=(Same.of_ext (d.trans (o.trans f))).trans ((k.mono λ_ _ h=> .inr h).trans (l.mono λ_ _ h=> .inl h));have Y:Same (λb=>b=b1) S r:=⟨B.os.trans c.os,B.tape.trans c.tape,B.output.trans c.output,gK c.size B.size,λb D O=>(B.block b oM (λe=>e.elim O λe=>by have:=(g5.blk b e).1;omega)).trans (c.block b D O)⟩;rw[Ju oM] at g11;exact hC oM _ _ ⟨rfl,Y,Q,_,T,m,zR0 g11 l λb D e=>oM⟩
 ·have a0:i=t.ks.length:=oM;subst a0;rw[gw] at g5;rw[h5.ldAgg (t:=za) zc];refine retO (r4.same c oM) rfl (qY0 g5) (λx hx=>oM) λw6 a4 ao a3=>?_;exact hK _ _ (Ext.then X a4 λy q=>by subst q;omega) (qx a3 λb D=>⟨oM,oM⟩)
@[push_cast] theorem bd_T4 (o a b:Int) (s:ByteArray):yC za [(0,nI o),(1,nI a),(2,nI b),(3,.string s)] w K=K (.agg ⟨[nI o,nI a,nI b,.string s,.slice none 0 0]⟩) w:=zT j0 (us:=[[nI o],[nI a],[nI b],[.string s]]) rfl rfl
theorem fit_size:∀t:M.Tm,M.sizeM t<=1000->xt0 t=true:=by
 refine M.Tm.ind λt c h=>?_;have b:∀i,i<t.ks.length->M.sizeM (M.kid t i)+1<=M.sizeM t:=λi hi=>(M.kid_size hi).1;have d:t.ks.length<=M.sizeM t:=by
  have:=M.szT_all t;have mono:∀i,i<=t.ks.length->i<=M.szT t.ks i:=λi=>by
   induction i with
   |zero=>intro _;exact gP _
   |succ i ihi=>
    intro hi;have:=ihi oM;have:=M.szT_succ (ks:=t.ks) (i:=i) oM;have:=(M.size_pos (t:=t.ks.getD i default)).1;omega
  have:=mono t.ks.length (gu _);omega
 refine fitB_iff.2 ⟨oM,λk a=>?_⟩;obtain⟨i,hi,rfl⟩:=gm a;have:=b i hi;unfold M.kid at this;rw[y3,V0 hi] at this;exact c _ a (by simp only[GH] at this;omega)
def Qu (ds:List M.Dcl) (t:M.Tm):M.Tm:=if M.tsort ds t= -1 then .mk 0 0 0 M.nada [] else M.foldT ds t
theorem zeroO:TmO w D VZ (.mk 0 0 0 M.nada []):=
 TmO.mk (t:= .mk 0 0 0 M.nada []) [] (λ_ _=>False) (Own.nil _ _ _ _) rfl (λb h=>(by cases h)) (λi j b _ a=>absurd a (by show¬j<0;omega)) (λi b hi=>absurd hi (by show¬i<0;omega)) (λi hi=>absurd hi (by show¬i<0;omega))
theorem small_of {ds:List M.Dcl} {t:M.Tm} (h:M.tsort ds t≠ -1):M.declOk ds=true/\M.sortM ds t≠ -1/\M.sizeM t<=20:=by
 rcases dtSize (ds:=ds) (t:=t) with e|⟨c,d,f,a,b⟩
 ·exact absurd e h
 ·exact⟨b,oM,(M.fits_iff.1 a).1⟩
theorem jl0 {a:Option Addr} {l c mb:Nat}:yC ye [(0,.slice a l c),(1,.map (some mb))] w K=K (qK (.slice a l c) mb) w:=zT UH (us:=[[.slice a l c],[.map (some mb)]]) rfl rfl
theorem TermFold_spec {dv tv:Value} {ds:List M.Dcl} {t:M.Tm} (s:DclsR F w dv ds) (C:TermR G w tv t) (m:∀w' cs,Ext w w'->TmO w' (λb=>w.heap.size<=b/\b<w'.heap.size) cs (Qu ds t)->K (.agg ⟨cs⟩) w'):vcall K7 #[dv,tv] w K:=by
 refine ze {ord:=[oz 3 [0,3,1,2,4,5,6] [(0,[3,1]),(3,[1,2])]]} Tryz.func27 ?_;obtain⟨ct,rfl,r⟩:=C.cells;have u:aggB za ct.length=true:=by rw[zQ r];exact zc
 refine zi λb1 w1 W n Y U=>?_;refine zj zn λb2 w2 X o Z V=>?_;have R:=U.ext o;have g:=n.trans o;have a1:=n.size;rw[R.ldAgg (t:=za) u];refine TermSort_spec (s.ext g) (C.ext g) λw3 d=>?_;have k:=g.trans d;have T:=V.ext d;have a2:=d.size;simp only[push_cast];unfold Qu at m;refine zb (λa=>?_) (λa=>?_)
 ·rw[if_pos a] at m
  try simp only[push_cast]
  refine retO (G:=λ_=>False) T rfl zeroO (λx N=>N.elim) λw4 D I v=>?_;exact m _ _ (Ext.then k D λy H=>by subst H;omega) (qx v λb J=>J.elim)
 ·rw[if_neg a] at m;obtain⟨q,hs,a0⟩:=small_of a;refine zd λw4 e _=>?_;have S:=R.ext (d.trans e);simp only[push_cast,S.ldAgg (t:=za) u,true_and];refine VR λw5 mb f hm=>?_;have q5:=S.ext f;have c:=k.trans (e.trans f);obtain⟨da,dc,rfl,_⟩:=s.shape;rw[y4] at*;simp only[push_cast,q5.ldAgg (t:=za) u,true_and,and_self,jl0];refine fold_spec t (G:=λx=>x<w.heap.size) (s.ext c) hm q ((C.weaken λb _ h=>h).ext c) hs λw6 rv i B=>?_;have l:=c.trans i;have j:=M.fold_good q t hs;have L:=j.size;refine copyTerm_spec _ B (fit_size _ oM) λw7 cs p z=>?_;have a3:=c.size;have a4:=l.size;have r7:=T.ext (e.trans (f.trans (i.trans p)));have I:=e.size;have O:=f.size;have Q:=i.size;refine retO r7 rfl z (λx N=>oM) λw8 E a5 A=>?_;exact m _ _ (Ext.then (l.trans p) E λy H=>by subst H;omega) (qx A λb J=>⟨oM,oM⟩)
end
end Go.Proofs.YtolbhkcajhlllaaGreatDoor
namespace Go.M
open Go.Vc
section
section
variable {ds:List Dcl} {t:Tm}
def boolM (b:Bool):Tm:=if b=true then truT else flsT
def logicS (t:Tm):Tm:=
 if t.op=25 then(if(kid t 0).op=25 then kid (kid t 0) 0 else t)
 else if t.op=23 then(if isM (kid t 0) 1=true\/(kid t 1=kid t 2/\¬isM (kid t 0) 0=true) then kid t 1 else if isM (kid t 0) 0=true then kid t 2 else t)
 else if isM (kid t 0) (b2i (decide (t.op=26)))=true\/kid t 0=kid t 1 then kid t 1
 else if isM (kid t 1) (b2i (decide (t.op=26)))=true then kid t 0
 else if isM (kid t 0) (1-b2i (decide (t.op=26)))=true\/isM (kid t 1) (1-b2i (decide (t.op=26)))=true then boolM (decide (b2i (decide (t.op=26))=0)) else t
def rightS (t:Tm):Tm:=
 if t.op=4\/t.op=5\/t.op=6\/t.op=7\/t.op=11\/t.op=12\/t.op=13 then(if isM (kid t 1) 0=true then kid t 0 else t)
 else if t.op=3 then(if isM (kid t 1) 0=true then kid t 1 else t)
 else if t.op=8 then(if isM (kid t 1) 0=true then kid t 1 else if isM (kid t 1) 1=true then kid t 0 else t) else t
def alikeS (t:Tm) (w:Int):Tm:=
 if t.op=3\/t.op=4 then kid t 0 else if t.op=5\/t.op=7 then .mk 20 w 0 nada [] else if t.op=15 then truT else if t.op=16\/t.op=17 then flsT else t
def swapS (t:Tm):Tm:= .mk t.op 0 0 nada [kid t 1,kid t 0]
def otherS (t v:Tm):Prop:=v.ks.length≠2\/kid v 0≠kid t 1\/kid v 1≠kid t 0\/v.op≠t.op
instance (t v:Tm):Decidable (otherS t v):=by unfold otherS;infer_instance
def twoS (t:Tm) (w:Int):Tm:=
 if kid t 0=kid t 1/\alikeS t w≠t then alikeS t w
 else if rightS t≠t then rightS t
 else if(t.op=3\/t.op=4\/t.op=5\/t.op=6\/t.op=8)/\otherS t (rightS (swapS t)) then rightS (swapS t) else t
def oneS (ds:List Dcl) (t:Tm):Tm:=
 if allFixed t=true then(if sortM ds t=0 then boolM (decide (evalM ds (zeroE ds) t=1)) else .mk 20 (sortM ds t) (evalM ds (zeroE ds) t) nada [])
 else if t.ks=[] then t
 else if 23<=t.op then logicS t
 else if t.op=22 then(if sortM ds t=sortM ds (kid t 0) then kid t 0 else t)
 else if t.ks.length=1 then(if(kid t 0).op=t.op then kid (kid t 0) 0 else t)
 else twoS t (sortM ds (kid t 0))
theorem kid_ne {i:Nat} (h:i<t.ks.length):kid t i≠t:=λe=>by
 have:=(kid_size h).1
 grind
theorem X_none (h: ¬allFixed t=true):ruleX ds t=none:=by unfold ruleX;grind
theorem x80 (a:t.op≠25) (b:t.op≠23):ruleB t=none:=by simp_all[ruleB]
theorem T_none (h: ¬(t.op=26\/t.op=27)):ruleT t=none:=by unfold ruleT;grind
theorem x70 (a:t.op≠22) (b: ¬(t.op=1\/t.op=2)):ruleL ds t=none:=by simp_all[ruleL]
theorem x60 (h:t.ks.length≠2):ruleW ds t=none:=by simp_all[ruleW]
theorem S_none (h:t.ks.length≠2):ruleS t=none:=by unfold ruleS;grind
theorem F_none (h:t.ks.length≠2):ruleF t=none:=by unfold ruleF;grind
theorem Qd {α:Type} {b:Option α}:((none:Option α) <|> b)=b:=rfl
theorem or_none {α:Type} {a:Option α}:(a <|> (none:Option α))=a:=by grind
theorem logic_eq (hs:sortM ds t≠ -1) (h: ¬allFixed t=true) (f:23<=t.op) (k:t.ks≠[]):logicS t=oneT ds t:=by
 have m:=len_of hs;have j:0<t.ks.length:=by grind
 have d:=arity_ops (o:=t.op) oM;unfold oneT ruleA;rw[X_none h,Qd];by_cases c:t.op=25
 ·have n:t.ks.length=1:=(by grind [arity]);rw[T_none oM,x70 oM oM,x60 oM,S_none oM,F_none oM];simp only[or_none];unfold logicS ruleB
  grind
 by_cases b:t.op=23
 ·have q:t.ks.length=3:=(by grind [arity]);rw[T_none oM,x70 oM oM,x60 oM,S_none oM,F_none oM];simp only[or_none];unfold logicS ruleB
  grind
 have o:t.op=26\/t.op=27:=by
  grind [arity]
 have p:t.ks.length=2:=by grind [arity]
 have i:b2i (decide (t.op=26))=neutral t.op:=by
  simp_all[neutral,b2i]
 have a:boolM (decide (neutral t.op=0))=constM 0 (1-neutral t.op):=by
  unfold neutral;rcases o with e|e
  ·rw[if_pos e];rfl
  ·rw[if_neg oM];rfl
 rw[x80 c b,Qd];unfold logicS;rw[if_neg c,if_neg b,i,a];have tail:ruleT t=none->(ruleL ds t <|> ruleW ds t <|> ruleS t <|> ruleF t)=none:=λg=>by
  have l:kid t 0≠kid t 1:=λe=>by
   grind [ruleT]
  rw[x70 oM oM];have w:ruleW ds t=none:=(by simp_all[ruleW]);have s:ruleS t=none:=by grind [ruleS]
  grind [ruleF]
 cases g:ruleT t with
 |none=>
  grind [ruleT]
 |some u=>
  have:(some u <|> (ruleL ds t <|> ruleW ds t <|> ruleS t <|> ruleF t))=some u:=rfl
  grind [ruleT]
theorem right_eq (b:t.ks.length=2):(ruleS t=none/\rightS t=t)\/(ruleS t=some (rightS t)/\rightS t≠t):=by
 have k0:=kid_ne (t:=t) (i:=0) oM;have a:=kid_ne (t:=t) (i:=1) oM;unfold ruleS rightS
 grind
theorem other_kid {i:Nat} (hi:i=0\/i=1) (a:t.ks.length=2):otherS t (kid t i):=by
 by_cases h:(kid t i).ks.length=2
 ·rcases hi with rfl|rfl
  ·exact .inr (.inr (.inl (λe=>kid_ne (t:=kid t 0) (i:=1) oM e)))
  ·exact .inr (.inl (λe=>kid_ne (t:=kid t 1) (i:=0) oM e))
 ·exact .inl h
theorem left_eq (a:t.ks.length=2):ruleF t=if(t.op=3\/t.op=4\/t.op=5\/t.op=6\/t.op=8)/\otherS t (rightS (swapS t)) then some (rightS (swapS t)) else none:=by
 have sw:∀i,kid (swapS t) i=[kid t 1,kid t 0].getD i default:=λi=>rfl;have c:kid (swapS t) 0=kid t 1:=rfl;have s1:kid (swapS t) 1=kid t 0:=rfl;have so:(swapS t).op=t.op:=rfl;have self: ¬otherS t (swapS t):=λh=>by
  rcases h with h|h|h|h
  ·exact h rfl
  ·exact h rfl
  ·exact h rfl
  omega
 have k0:=other_kid (t:=t) (i:=0) (.inl rfl) a;have b:=other_kid (t:=t) (i:=1) (.inr rfl) a;unfold ruleF
 grind [rightS]
theorem two_eq (d:declOk ds=true) (hs:sortM ds t≠ -1) (g: ¬allFixed t=true) (b:t.ks.length=2) (e:t.op<22):twoS t (sortM ds (kid t 0))=oneT ds t:=by
 have i:=len_of hs;have j:=arity_two (o:=t.op) oM;have l:3<=t.op/\t.op<=17:=oM
 have ne:∀{u:Tm},u.op=20\/u.op=24\/u.op=25->u≠t:=by grind
 have f:(ruleW ds t=none/\¬(kid t 0=kid t 1/\alikeS t (sortM ds (kid t 0))≠t))\/(ruleW ds t=some (alikeS t (sortM ds (kid t 0)))/\kid t 0=kid t 1/\alikeS t (sortM ds (kid t 0))≠t):=by
  by_cases a:kid t 0=kid t 1
  ·unfold ruleW alikeS;rw[if_pos ⟨b,a⟩];by_cases c1:t.op=3\/t.op=4
   ·grind [kid_ne]
   rw[if_neg c1,if_neg c1];by_cases c2:t.op=5\/t.op=7
   ·obtain⟨h,_,ev⟩:=bin_parts d hs b oM oM;have k:=vok_lt (ev _ (zeroE_ok d)).1;rw[if_pos c2,if_pos c2,h];refine .inr ⟨?_,a,ne (.inl rfl)⟩;unfold constM
    grind
   rw[if_neg c2,if_neg c2];by_cases c3:t.op=15
   ·rw[if_pos c3,if_pos c3];exact .inr ⟨rfl,a,ne (.inr (.inl rfl))⟩
   rw[if_neg c3,if_neg c3];by_cases c:t.op=16\/t.op=17
   ·rw[if_pos c,if_pos c];exact .inr ⟨rfl,a,ne (.inr (.inr rfl))⟩
   grind
  grind [ruleW]
 unfold oneT ruleA;rw[X_none g,x80 oM oM,T_none oM,x70 oM oM];simp only[Qd];unfold twoS;rcases f with⟨w1,w2⟩|⟨w1,w2⟩
 ·rw[if_neg w2,w1,Qd];rcases right_eq (t:=t) b with⟨s1,s2⟩|⟨s1,s2⟩
  ·grind [left_eq]
  grind
 grind
theorem oneS_eq (l:declOk ds=true) (hs:sortM ds t≠ -1):oneS ds t=oneT ds t:=by
 have r:=len_of hs;unfold oneS;by_cases e:allFixed t=true
 ·have k:=eval_in (zeroE_ok l) t hs;have n:oneT ds t=constM (sortM ds t) (evalM ds (zeroE ds) t):=by
   simp_all[oneT,ruleA,ruleX]
  rw[if_pos e,n];unfold constM boolM;rcases k with h|h
  ·grind
  ·have:=vok_lt h
   grind
 rw[if_neg e];by_cases f:t.ks=[]
 ·simp_all[ks0,arity_zero]
 rw[if_neg f];have p:0<t.ks.length:=by grind
 by_cases d:23<=t.op
 ·rw[if_pos d];exact logic_eq hs e d f
 rw[if_neg d];by_cases c:t.op=22
 ·have j:t.ks.length=1:=(by grind [arity]);have q:=sort_one l (sort_parts hs).1 j;have i:=hs;rw[q] at i;have g:=one_good oM i;have g3:=g.2.2 c;have st:sortM ds t=t.a-t.b+1:=by
   grind [oneM]
  rw[if_pos c];unfold oneT ruleA;rw[X_none e,x80 oM oM,T_none oM,x60 oM,S_none oM,F_none oM];simp only[Qd,or_none]
  grind [ruleL]
 rw[if_neg c];have m:=arity_ops (o:=t.op) oM;by_cases j:t.ks.length=1
 ·have s:=arity_one (o:=t.op) oM;rw[if_pos j];unfold oneT ruleA;rw[X_none e,x80 oM oM,T_none oM,x60 oM,S_none oM,F_none oM];simp only[Qd,or_none]
  grind [ruleL]
 rw[if_neg j]
 grind [arity,two_eq]
end
end
end Go.M
namespace Go.Proofs.YtolbhkcajhlllaaGreatDoor
open Go Go.Vc Go.Proofs
section
variable {w:World} {K:oK} {F D G:Nat->Prop}
def Qb (G:Nat->Prop) (n b4:Nat) (x:Nat):Prop:=(G x/\x<n)\/b4<x
structure RT (G:Nat->Prop) (w0 w:World) (b3 b4:Nat) (kv:Value) (t:M.Tm):Prop where
 ext:Ext w0 w
 q:Blk w b3 [nI t.op,nI t.a,nI t.b,.string t.s,kv] za
 r:Blk w b4 VZ za
 k:TmsR (λx=>G x/\x<w0.heap.size) w kv t.ks
 lo:w0.heap.size<=b4
section
variable {w0 w':World} {b3 b4:Nat} {kv:Value} {t:M.Tm}
theorem yh (h:RT G w0 w b3 b4 kv t) (he:Ext w w'):RT G w0 w' b3 b4 kv t:=⟨h.ext.trans he,h.q.ext he,h.r.ext he,h.k.ext he,h.lo⟩
theorem rt_enter {tv:Value} {B:Value->oK} (q:TermR G w tv t) (l:∀w' b3 b4 kv,RT G w w' b3 b4 kv t->B (ptr b3) (ptr b4) w'):
  y80 za tv w λt3 e=>qp za e λt4 f=>B t3 t4 f:=by
 obtain⟨kv,rfl,d⟩:=q;refine zi λb2 w2 m c o j=>?_;refine zj zn λb3 w3 n a p k=>?_;have g:=c.trans a;exact l _ _ _ kv ⟨g,j.ext a,k,(d.weaken λb h i=>⟨h,i⟩).ext g,oM⟩
abbrev ZX0 (K:oK) (w:World) (G:Nat->Prop) (u:M.Tm):Prop:=∀w' rv,Ext w w'->TermR (λx=>G x\/w.heap.size<=x) w' rv u->K rv w'
theorem rt_give (h:RT G w0 w b3 b4 kv t) {rv:Value} {u:M.Tm} (hu:TermR (Qb G w0.heap.size b4) w rv u) (e:ZX0 K w0 G u):
  zU za (ptr b4) rv w λ_ w1=>vlv za (ptr b4) w1 λr w2=>K r w2:=by
 obtain⟨cs,rfl,a⟩:=hu.cells;have f:=h.lo;refine qc h.r rfl a (λx d=>by rcases d with h|h<;>omega) λw3 c i b=>?_;exact e _ _ (Ext.then h.ext c λy g=>by subst g;exact h.lo) (b.weaken λx d _=>by
  rcases d with h|h
  ·exact .inl h.1
  ·exact .inr oM)
theorem qq {n:Nat} {rv:Value} {u:M.Tm} (hu:TermR (λx=>G x/\x<n) w' rv u):TermR (Qb G n b4) w' rv u:=hu.weaken λx a _=> .inl a
theorem rt_new (h:RT G w0 w b3 b4 kv t) {rv:Value} {u:M.Tm} (hu:TermR (λx=>w.heap.size<=x) w' rv u):TermR (Qb G w0.heap.size b4) w' rv u:=hu.weaken λx a _=> .inr (by have:=h.r.lt;omega)
theorem xU (h:RT G w0 w b3 b4 kv t):TermR (λx=>G x/\x<w0.heap.size) w (.agg ⟨[nI t.op,nI t.a,nI t.b,.string t.s,kv]⟩) t:=⟨kv,rfl,h.k⟩
end
theorem spec_TermSame_spec:∀(t:M.Tm) {w:World} {K:oK} {F G:Nat->Prop} {va vb:Value} {u:M.Tm},TermR F w va t->TermR G w vb u->(∀w',Ext w w'->K (.bool (decide (t=u))) w')->vcall JN #[va,vb] w K:=by
 refine M.Tm.ind λt Y w K F G va vb u Q R L=>?_;refine ze {ord:=[oz 6 (oR 12) [(0,[2,5,6,7,8,9]),(1,[2,5,6,7,8,9]),(2,[5,6,7,8,9]),(3,[5,6,7,8,9]),(4,[5,6,7,8,9]),(5,[7]),(6,[7])]],loops:=[(4,[5])],cuts:=[(8195,[])]} Tryz.func186 ?_;obtain⟨kva,rfl,f⟩:=Q;obtain⟨kvb,rfl,v⟩:=R;refine zi λb1 w1 S D V z=>?_;refine zi λb2 w2 T q W k=>?_;have p:=z.ext q;have l:=D.trans q;have no:∀w',Ext w w'->t≠u->K (.bool false) w':=λw' h U=>by
  have:=L w' h;rwa[decide_eq_false U] at this
 refine zp (λx w'=>x=[]/\w'=w2/\t.op=u.op/\t.a=u.a/\t.b=u.b/\t.s=u.s/\t.ks.length=u.ks.length) (λC A=>?_) ?_
 ·simp only[push_cast,p.ld0,k.ld0,p.ld1,k.ld1,p.ld2,k.ld2,p.ld3,k.ld3,p.ld4,k.ld4,(f.ext l).len,(v.ext l).len];refine zb (λe=>no _ l λh=>e (by rw[h])) (λH=>?_);refine zb (λe=>no _ l λh=>e (by rw[h])) (λI=>?_);refine zb (λe=>no _ l λh=>e (by rw[h])) (λJ=>?_);refine zb (λe=>no _ l λh=>e (by rw[h])) (λy=>?_);refine zb (λe=>no _ l λh=>e (by rw[h])) (λe5=>?_);exact A _ _ ⟨rfl,rfl,oM,oM,oM,by simpa using y,oM⟩
 rintro x g E ⟨rfl,rfl,H,I,J,y,el⟩;have X:=f.small;refine vloop_up t.ks.length (λi x w'=>x=[nI i]/\Ext E w'/\∀j,j<i->t.ks.getD j default=u.ks.getD j default) ⟨rfl,Same.refl _ _,λj N=>absurd N oM⟩ ?_;rintro i _ _ w3 C hi ⟨rfl,c,m⟩ A;have n:=l.trans c;have B:=f.ext n;have O:=p.ext c;simp(disch:=first|omega|simp only[push_cast]) only[push_cast,O.ld4,B.len];refine zb (λa=>?_) (λa=>?_)
 ·refine zd λw4 d _=>?_;have o:=n.trans d;have Z:=O.ext d;have r4:=k.ext (c.trans d);obtain⟨ca,sa,la,ka⟩:=f.ext o;obtain⟨cb,sb,lb,kb⟩:=v.ext o;simp(disch:=first|omega|simp only[push_cast]) only[push_cast,Z.ld4,r4.ld4,sa.iaddr,sa.ldAgg,sb.iaddr,sb.ldAgg,true_and];refine Y _ (M.getD_mem oM _) (ka i oM).term (kb i oM).term λw8 r=>?_;simp only[push_cast,true_and];refine zo (λb=>?_) (λb=>?_)
  ·rw[gN,decide_eq_false_iff_not] at b;exact no _ (o.trans r) λh=>b (by rw[h])
  ·rw[gM,decide_eq_true_eq] at b;rw[inc64' oM];refine A oM _ _ ⟨rfl,c.trans (d.trans r),λj N=>?_⟩;by_cases e:j<i
   ·exact m j e
   ·have:j=i:=oM;subst this;exact b
 ·have:t=u:=M.tm_ext H I J y (gF el λj z k=>by
   have:=m j oM;rwa[y3,V0 z,y3,V0 k] at this)
  have:=L w3 n;rwa[decide_eq_true ‹t=u›] at this
theorem l3False_spec (i:∀w' v,Ext w w'->TermR (λb=>w.heap.size<=b) w' v M.flsT->K v w'):vcall KN #[] w K:=by
 refine ze {} Tryz.func184 ?_;refine zj zn λb1 w1 k d m g=>?_;simp only[push_cast];refine Yw0 (Xs (o:=24) (F:=λ_=>False)) λw2 a c n u=>?_;simp only[push_cast];have l:TmR (λb=>b≠b1/\w.heap.size<=b) w2 _ M.flsT:=(TmR.of (t:=M.flsT) u).weaken λz r _=>by
  rcases r with h|h
  ·exact h.elim
  ·exact⟨oM,oM⟩
 refine qc (g.ext c) rfl l (λx p=>p.1) λw3 f s e=>?_;exact i _ _ (Ext.then (d.trans c) f λy q=>by subst q;omega) (e.weaken λb j _=>j.2)
theorem l3Bool_spec {b:Bool} (l:∀w' v,Ext w w'->TermR (λb=>w.heap.size<=b) w' v (M.boolM b)->K v w'):vcall Wv #[.bool b] w K:=by
 refine ze {} Tryz.func147 ?_;refine zj zn λb1 w1 o c p k=>?_;refine zo (λa=>?_) (λa=>?_)
 ·subst a;simp only[push_cast];refine qc k rfl (zI0 24 0 0 _:TmR (λ_=>False) w1 _ _) (λx n=>n.elim) λw3 e j d=>?_;exact l _ _ (Ext.then c e λy i=>by subst i;omega) (d.weaken λb m _=>m.elim)
 ·subst a;refine l3False_spec λw2 v f h=>?_;obtain⟨cs,rfl,g⟩:=h.cells;refine qc (k.ext f) rfl g (λx n=>oM) λw3 e j d=>?_;exact l _ _ (Ext.then (c.trans f) e λy i=>by subst i;omega) (d.weaken λb m _=>by have:=c.size;omega)
@[push_cast] theorem bd_T2 (o a:Int):yC za [(0,nI o),(1,nI a)] w K=K (.agg ⟨[nI o,nI a,nI 0,.string ⟨#[]⟩,.slice none 0 0]⟩) w:=zT j0 (us:=[[nI o],[nI a]]) rfl rfl
theorem l3Zero_spec {s:Int} (f:∀w' v,Ext w w'->TermR (λb=>w.heap.size<=b) w' v (.mk 20 s 0 M.nada [])->K v w'):vcall Wt #[nI s] w K:=by
 refine ze {} Tryz.func221 ?_;refine zj zn λb1 w1 h a i e=>?_;simp only[push_cast];refine qc e rfl (zI0 20 s 0 _:TmR (λ_=>False) w1 _ _) (λx j=>j.elim) λw3 d l c=>?_;exact f _ _ (Ext.then a d λy k=>by subst k;omega) (c.weaken λb g _=>g.elim)
theorem jK {v:Value} {t:M.Tm} (B:TermR F w v t) (G:∀w',Ext w w'->K (.tuple #[nI ((M.fixedM t).getD 0),.bool (M.fixedM t).isSome]) w'):vcall QY #[v] w K:=by
 refine ze {ord:=[oz 3 (oR 4) [(0,[1])]]} Tryz.func182 ?_;have r:=B;obtain⟨kv,rfl,y⟩:=B;refine zi λb1 w1 H m J A=>?_;have out:∀w' o,Ext w w'->M.fixedM t=o->K (.tuple #[nI (o.getD 0),.bool o.isSome]) w':=λw' o h e=>by rw[<-e];exact G w' h
 rw[A.ldAgg (t:=za) zc];simp only[push_cast];refine spec_TermSame_spec t (r.ext m) (Xs (o:=24) (F:=λ_=>False)) λw3 n=>?_;have k:=m.trans n;refine zb (λd=>?_) (λd=>?_)
 ·exact out w3 (some 1) k (if_pos d)
 have z: ¬t=M.truT:=d;refine zd λQ p _=>?_;have l:=k.trans p;have C:=A.ext (n.trans p);simp only[push_cast,C.ldAgg (t:=za) zc,true_and];refine l3False_spec λR fv g x=>?_;have D:=C.ext g;simp only[push_cast,D.ldAgg (t:=za) zc,true_and,and_self];refine spec_TermSame_spec t (r.ext (l.trans g)) x λN q=>?_;have c:=l.trans (g.trans q);have j:=D.ext q;refine zb (λf=>?_) (λf=>?_)
 ·refine out N (some 0) c ?_;unfold M.fixedM;rw[if_neg z,if_pos f]
 have E: ¬t=M.flsT:=f;have no:∀w',Ext w w'->¬(t.op=20/\t.ks=[]/\t.s=M.nada/\M.vok t.a t.b=true)->K (.tuple #[nI 0,.bool false]) w':=λw' h I=>out w' none h (by unfold M.fixedM;rw[if_neg z,if_neg E,if_neg I]);simp only[push_cast,j.ld0];refine zb (λc1=>?_) (λc1=>no _ c λh=>c1 h.1);simp only[push_cast,j.ld4,(y.ext c).len];refine zb (λc2=>?_) (λc2=>no _ c λh=>c2 (nil_len.2 h.2.1))
 try simp only[push_cast,j.ld3]
 refine zb (λc3=>?_) (λc3=>no _ c λh=>c3 h.2.2.1)
 try simp only[push_cast,j.ld1,j.ld2]
 refine spec_VecOk_spec λO i=>?_;have L:=j.ext i;refine zo (λu=>?_) (λu=>no _ (c.trans i) λh=>by rw[h.2.2.2] at u;cases u);simp only[push_cast,L.ld2];refine out O (some t.b) (c.trans i) ?_;rw[zT0 c1,if_pos ⟨nil_len.1 c2,c3,u⟩]
theorem qg {v:Value} {t:M.Tm} {n:Int} (i:TermR F w v t) (f:∀w',Ext w w'->K (.bool (M.isM t n)) w'):vcall yu0 #[v,nI n] w K:=by
 refine ze {} Tryz.func185 ?_;obtain⟨cs,rfl,a⟩:=i.cells;refine zi λb1 w1 g b h d=>?_;rw[d.ldAgg (t:=za) (by rw[zQ a];exact zc)];refine jK (a.ext b).term λw2 c=>?_;have:=f w2 (b.trans c);unfold M.isM at this;simp only[push_cast];cases e:M.fixedM t with
 |none=>rw[e] at this;exact this
 |some m=>
  rw[e] at this;simp only[Gh] at this;exact this
theorem l3All_spec {v:Value} {t:M.Tm} (G:TermR F w v t) (q:∀w',Ext w w'->K (.bool (M.allFixed t)) w'):vcall zp0 #[v] w K:=by
 refine ze {loops:=[(2,[3])]} Tryz.func145 ?_;obtain⟨kv,rfl,n⟩:=G;refine zi λb1 w1 A p D s=>?_;have E:=n.small;refine vloop_up t.ks.length (λi u w'=>u=[nI i]/\Ext w1 w'/\∀j,j<i->(M.fixedM (t.ks.getD j default)).isSome=true) ⟨rfl,Same.refl _ _,λj o=>absurd o oM⟩ ?_;rintro i _ _ w3 C hi ⟨rfl,g,d⟩ y;have f:=p.trans g;have r:=s.ext g;have a:=n.ext f;simp only[push_cast,r.ld4,a.len];refine zb (λb=>?_) (λb=>?_)
 ·simp(disch:=first|omega|simp only[push_cast]) only[push_cast,a.iaddr];refine a.load zc oM λx H=>?_;refine jK H λI m=>?_;simp only[push_cast];refine zo (λc=>?_) (λc=>?_)
  ·rw[gN] at c;have:M.allFixed t=false:=by
    unfold M.allFixed;rw[G8];right;rw[List.all_eq_false];exact⟨_,M.getD_mem (l:=t.ks) (i:=i) oM default,by rw[c];decide⟩
   have h:=q I (f.trans m);rwa[this] at h
  ·rw[gM] at c;rw[inc64' oM];refine y oM _ _ ⟨rfl,g.trans m,λj o=>?_⟩;by_cases e:j<i
   ·exact d j e
   ·have:j=i:=oM;subst this;exact c
 ·try simp only[push_cast,r.ld4,a.len]
  have:M.allFixed t=decide (0<(t.ks.length:Int)):=by
   unfold M.allFixed;have z:(t.ks.all λk=>(M.fixedM k).isSome)=true:=by
    rw[gZ];intro k B;obtain⟨j,o,rfl⟩:=gm B;have:=d j oM;rwa[y3,V0 o] at this
   rw[z,Pe];have e:(t.ks≠[])↔0<(t.ks.length:Int):=by rw[<-Gx];omega
   exact decide_eq_decide.2 e
  have h:=q w3 f;rwa[this] at h
theorem l3Right_spec {v:Value} {t:M.Tm} (ht:TermR G w v t) (h2:t.ks.length=2) (m:ZX0 K w G (M.rightS t)):vcall KL #[v] w K:=by
 refine ze {cuts:=[(20491,[15])]} Tryz.func188 ?_;refine rt_enter (B:=λt3 t4 a7=>_) ht λw1 b3 b4 kv rs=>?_;simp(disch:=first|omega|simp only[push_cast]) only[push_cast,rs.q.ld4,rs.k.iaddr];refine rs.k.load zc oM λx hx=>?_;obtain⟨c,rfl,R⟩:=hx.cells;refine zj zn λb5 w2 a0 F a2 h5=>?_;refine stTerm h5 rfl (R.ext F) λw3 S a4 Q=>?_;have C:Ext w1 w3:=Ext.then F S λy I=>by subst I;omega
 have N:=yh rs C;simp(disch:=first|omega|simp only[push_cast]) only[push_cast,N.q.ld4,N.k.iaddr];refine N.k.load zc oM λy I=>?_;obtain⟨c',rfl,s⟩:=I.cells;refine zj zn λb6 Y a1 H a3 h6=>?_;refine stTerm h6 rfl (s.ext H) λO T a5 l=>?_;have n:Ext w3 O:=Ext.then H T λy I=>by subst I;omega
 have J:=yh N n;have V:=Q.ext n;have gc:aggB za c.length=true:=by rw[zQ R];exact zc
 have f:aggB za c'.length=true:=by rw[zQ s];exact zc
 have E:TmR (λx=>G x/\x<w.heap.size) O c (M.kid t 0):=R.ext (C.trans n);have d:TmR (λx=>G x/\x<w.heap.size) O c' (M.kid t 1):=s.ext n;simp only[push_cast,J.q.ld0];refine zp (λu w'=> ∃b:Bool,u=[.bool b]/\w'=O/\(b=true↔t.op=4\/t.op=5\/t.op=6\/t.op=7\/t.op=11\/t.op=12\/t.op=13)) (λD hD=>?_) ?_
 ·try simp only[push_cast]
  refine zb (λc=>hD _ _ ⟨_,rfl,rfl,⟨λ_=>oM,λ_=>by rw[decide_eq_true_eq];exact c⟩⟩) (λc1=>?_);refine zb (λc=>hD _ _ ⟨_,rfl,rfl,⟨λ_=>oM,λ_=>by rw[decide_eq_true_eq];exact c⟩⟩) (λc2=>?_);refine zb (λc=>hD _ _ ⟨_,rfl,rfl,⟨λ_=>oM,λ_=>by rw[decide_eq_true_eq];exact c⟩⟩) (λc3=>?_);refine zb (λc=>hD _ _ ⟨_,rfl,rfl,⟨λ_=>oM,λ_=>by rw[decide_eq_true_eq];exact c⟩⟩) (λc4=>?_);refine zb (λc=>hD _ _ ⟨_,rfl,rfl,⟨λ_=>oM,λ_=>by rw[decide_eq_true_eq];exact c⟩⟩) (λc5=>?_);refine zb (λc=>hD _ _ ⟨_,rfl,rfl,⟨λ_=>oM,λ_=>by rw[decide_eq_true_eq];exact c⟩⟩) (λc6=>?_);exact hD _ _ ⟨_,rfl,rfl,⟨λh=>by rw[decide_eq_true_eq] at h;omega,λh=>by rw[decide_eq_true_eq];omega⟩⟩
 rintro u g a6 ⟨b,rfl,rfl,W⟩;simp only[push_cast];have self:∀{w'},RT G w w' b3 b4 kv t->M.rightS t=t->zt za (ptr b3) w' λr w2=>zU za (ptr b4) r w2 λ_ w3=>vlv za (ptr b4) w3 λr Y=>K r Y:=λ{w'} h e=>by
  rw[h.q.ldAgg (t:=za) zc];rw[e] at m;exact rt_give h (qq (xU h)) m
 refine zo (λo=>?_) (λo=>?_)
 ·have o4:=W.1 o;rw[l.ldAgg (t:=za) f];refine qg d.term λZ a=>?_;have p:=yh J a;have e:M.rightS t=if M.isM (M.kid t 1) 0=true then M.kid t 0 else t:=by unfold M.rightS;rw[if_pos o4]
  refine zo (λi=>?_) (λi=>?_)
  ·rw[(V.ext a).ldAgg (t:=za) gc];rw[e,if_pos i] at m;exact rt_give p (qq (E.ext a).term) m
  ·exact self p (by rw[e,i];rfl)
 have A: ¬(t.op=4\/t.op=5\/t.op=6\/t.op=7\/t.op=11\/t.op=12\/t.op=13):=λh=>by have:=W.2 h;rw[o] at this;cases this
 try simp only[push_cast]
 refine zb (λL=>?_) (λL=>?_)
 ·rw[l.ldAgg (t:=za) f];refine qg d.term λZ a=>?_;have p:=yh J a;have e:M.rightS t=if M.isM (M.kid t 1) 0=true then M.kid t 1 else t:=by unfold M.rightS;rw[if_neg A,if_pos L]
  refine zo (λi=>?_) (λi=>?_)
  ·rw[(l.ext a).ldAgg (t:=za) f];rw[e,if_pos i] at m;exact rt_give p (qq (d.ext a).term) m
  ·exact self p (by rw[e,i];rfl)
 try simp only[push_cast]
 refine zb (λU=>?_) (λU=>?_)
 ·rw[l.ldAgg (t:=za) f];refine qg d.term λZ a=>?_;have p:=yh J a;have e:M.rightS t=if M.isM (M.kid t 1) 0=true then M.kid t 1 else if M.isM (M.kid t 1) 1=true then M.kid t 0 else t:=by unfold M.rightS;rw[if_neg A,if_neg L,if_pos U]
  refine zo (λi=>?_) (λi=>?_)
  ·rw[(l.ext a).ldAgg (t:=za) f];rw[e,if_pos i] at m;exact rt_give p (qq (d.ext a).term) m
  ·rw[(l.ext a).ldAgg (t:=za) f];refine qg (d.ext a).term λw7 z=>?_;have X:=yh p z;refine zo (λj=>?_) (λj=>?_)
   ·rw[(V.ext (a.trans z)).ldAgg (t:=za) gc];rw[e,i,if_neg dC,if_pos j] at m;exact rt_give X (qq (E.ext (a.trans z)).term) m
   ·exact self X (by rw[e,i,j];rfl)
 ·exact self J (by unfold M.rightS;rw[if_neg A,if_neg L,if_neg U])
theorem l3Alike_spec {v:Value} {t:M.Tm} {s:Int} (A:TermR G w v t) (H:t.ks.length=2) (i:ZX0 K w G (M.alikeS t s)):vcall KO #[v,nI s] w K:=by
 refine ze {cuts:=[(12292,[7]),(24583,[14])]} Tryz.func187 ?_;refine rt_enter (B:=λt3 t4 E=>_) A λw1 b3 b4 kv rs=>?_;simp only[push_cast,rs.q.ld0];refine zp (λu w'=> ∃b:Bool,u=[.bool b]/\w'=w1/\(b=true↔t.op=3\/t.op=4)) (λD hD=>?_) ?_
 ·try simp only[push_cast]
  refine zb (λc=>hD _ _ ⟨_,rfl,rfl,⟨λ_=>oM,λ_=>by rw[decide_eq_true_eq];exact c⟩⟩) (λc1=>?_);exact hD _ _ ⟨_,rfl,rfl,⟨λh=>by rw[decide_eq_true_eq] at h;omega,λh=>by rw[decide_eq_true_eq];omega⟩⟩
 rintro u g r ⟨b,rfl,rfl,y⟩;simp only[push_cast];refine zo (λo=>?_) (λo=>?_)
 ·simp(disch:=first|omega|simp only[push_cast]) only[push_cast,rs.q.ld4,rs.k.iaddr];refine rs.k.load zc oM λx C=>?_;have e:M.alikeS t s=M.kid t 0:=by unfold M.alikeS;rw[if_pos (y.1 o)]
  rw[e] at i;exact rt_give rs (qq C) i
 have n: ¬(t.op=3\/t.op=4):=λh=>by have:=y.2 h;rw[o] at this;cases this
 refine zp (λu w'=> ∃b:Bool,u=[.bool b]/\w'=r/\(b=true↔t.op=5\/t.op=7)) (λD hD=>?_) ?_
 ·try simp only[push_cast]
  refine zb (λc=>hD _ _ ⟨_,rfl,rfl,⟨λ_=>oM,λ_=>by rw[decide_eq_true_eq];exact c⟩⟩) (λc1=>?_);exact hD _ _ ⟨_,rfl,rfl,⟨λh=>by rw[decide_eq_true_eq] at h;omega,λh=>by rw[decide_eq_true_eq];omega⟩⟩
 rintro I g2 z ⟨F,rfl,rfl,m⟩;simp only[push_cast];refine zo (λo=>?_) (λo=>?_)
 ·have e:M.alikeS t s= .mk 20 s 0 M.nada []:=by unfold M.alikeS;rw[if_neg n,if_pos (m.1 o)]
  rw[e] at i;refine l3Zero_spec λw2 v2 a d=>?_;exact rt_give (yh rs a) (rt_new rs d) i
 have p: ¬(t.op=5\/t.op=7):=λh=>by have:=m.2 h;rw[o] at this;cases this
 try simp only[push_cast]
 refine zb (λj=>?_) (λj=>?_)
 ·have e:M.alikeS t s=M.boolM true:=by unfold M.alikeS;rw[if_neg n,if_neg p,if_pos j];rfl
  rw[e] at i;refine l3Bool_spec λw2 v2 a d=>?_;exact rt_give (yh rs a) (rt_new rs d) i
 by_cases l:t.op=16
 ·have e:M.alikeS t s=M.boolM false:=by unfold M.alikeS;rw[if_neg n,if_neg p,if_neg j,if_pos (.inl l)];rfl
  rw[e] at i;simp only[l,decide_true,push_cast];refine l3Bool_spec λw2 v2 a d=>?_;exact rt_give (yh rs a) (rt_new rs d) i
 ·simp only[l,decide_false,push_cast];refine zb (λf=>?_) (λf=>?_)
  ·have e:M.alikeS t s=M.boolM false:=by unfold M.alikeS;rw[if_neg n,if_neg p,if_neg j,if_pos (.inr f)];rfl
   rw[e] at i;refine l3Bool_spec λw2 v2 a d=>?_;exact rt_give (yh rs a) (rt_new rs d) i
  ·have e:M.alikeS t s=t:=by unfold M.alikeS;rw[if_neg n,if_neg p,if_neg j,if_neg oM]
   rw[e] at i;rw[rs.q.ldAgg (t:=za) zc];exact rt_give rs (qq (xU rs)) i
end
end Go.Proofs.YtolbhkcajhlllaaGreatDoor
end
