import Derived.Test.YtolbhkcajhlllaaGreatDoorWwcP6
/- A part of the proof. -/
set_option linter.all false
set_option maxRecDepth 9999
set_option maxHeartbeats 2000000
noncomputable section
namespace Go.Proofs.YtolbhkcajhlllaaGreatDoor
open Go Go.Vc Go.Proofs
section
variable {w:World} {K:oK} {F G:Nat->Prop}
theorem l2Arity_spec {o:Int} (h:K (nI (M.arity o)) w):vcall KP #[nI o] w K:=by
 refine zf {cuts:=[(12293,[4])]} Tryz.func130 ?_;have f:∀c,M.arity o=c->K (nI c) w:=λc e=>e▸h;refine zo (λu w'=>u=[.bool (decide (o=20\/o=21\/o=24))]/\w'=w) (λC d=>?_) ?_
 ·simp only[push_cast];refine zb (λa=>?_) (λa=>?_)
  ·exact d _ _ ⟨by rw[decide_eq_true a,decide_eq_true (.inl a)],rfl⟩
  refine zb (λb=>?_) (λb=>?_)
  ·exact d _ _ ⟨by rw[decide_eq_true b,decide_eq_true (.inr (.inl b))],rfl⟩
  ·refine d _ _ ⟨?_,rfl⟩;by_cases c:o=24
   ·rw[decide_eq_true c,decide_eq_true (.inr (.inr c))]
   ·rw[decide_eq_false c,decide_eq_false oM]
 ·rintro u g w1 ⟨rfl,rfl⟩;simp only[push_cast]
  repeat' first
   |exact f _ (by
    unfold M.arity;repeat' split
    all_goals omega)
   |refine zb (λ_=>?_) (λ_=>?_)
theorem zu0 {v:Value} {t:M.Tm} (A:TermR F w v t) (p:∀w',Ext w w'->K (.bool (M.formed t)) w'):vcall KN #[v] w K:=by
 refine zf {ord:=[oz 5 (oR 8) [(0,[3,4,5]),(1,[3,4,5]),(2,[3,4,5])]],cuts:=[(8195,[]),(16389,[])]} Tryz.func94 ?_;obtain⟨ksv,rfl,o⟩:=A;refine zk λb1 w1 y j z l=>?_;have q:=p _ j;have f:M.plainM t=false->K (.bool false) w1:=λh=>by
  unfold M.formed at q;rwa[h,pw] at q
 unfold M.plainM at f;refine zo (λu w'=>u=[]/\w'=w1/\(decide (t.op=21)||decide (t.s=M.nada))=true) (λC m=>?_) ?_
 ·simp only[push_cast,l.ld0,l.ld3];refine zb (λa=>?_) (λa=>?_)
  ·refine zb (λb=>?_) (λb=>?_)
   ·exact f (by rw[decide_eq_false a,show decide (t.s=M.nada)=false from decide_eq_false b];simp)
   ·exact m _ _ ⟨rfl,rfl,by rw[show decide (t.s=M.nada)=true from decide_eq_true (G3.1 b)];simp⟩
  ·exact m _ _ ⟨rfl,rfl,by rw[decide_eq_true (G3.1 a)];simp⟩
 rintro u g w2 ⟨rfl,rfl,r⟩;rw[r,Pg] at f;refine zo (λu w'=>u=[]/\w'=w2/\(decide (t.op=20)||decide (t.op=22)||(decide (t.a=0)&&decide (t.b=0)))=true) (λC m=>?_) ?_
 ·simp only[push_cast,l.ld0,l.ld1,l.ld2];refine zb (λa=>?_) (λa=>?_)
  ·refine zb (λb=>?_) (λb=>?_)
   ·refine zb (λc=>?_) (λc=>?_)
    ·exact f (by rw[decide_eq_false a,decide_eq_false b,decide_eq_false c];simp)
    refine zb (λd=>?_) (λd=>?_)
    ·exact f (by rw[decide_eq_false a,decide_eq_false b,decide_eq_false d];simp)
    ·exact m _ _ ⟨rfl,rfl,by rw[decide_eq_true (G3.1 c),decide_eq_true (G3.1 d)];simp⟩
   ·exact m _ _ ⟨rfl,rfl,by rw[decide_eq_true (G3.1 b)];simp⟩
  ·exact m _ _ ⟨rfl,rfl,by rw[decide_eq_true (G3.1 a)];simp⟩
 rintro u g B ⟨rfl,rfl,hm⟩;refine zd λD k _=>?_;have n:=l.ext k;have i:=o.ext (j.trans k);simp only[push_cast,n.ld0,n.ld4,i.len,true_and];refine l2Arity_spec ?_;simp only[push_cast,n.ld4,i.len,true_and,and_self];have:=p _ (j.trans k);have e:M.formed t=decide ((t.ks.length:Int)=M.arity t.op):=by
  unfold M.formed M.plainM;rw[hm,r];simp only[Pg];by_cases h:M.arity t.op=t.ks.length
  ·rw[decide_eq_true h,decide_eq_true h.symm]
  ·rw[decide_eq_false h,decide_eq_false (λx=>h x.symm)]
 rwa[e] at this
theorem l2One_spec {v:Value} {t:M.Tm} {a:Int} (q:TermR F w v t) (s: -1<=a/\a<=4) (m:∀w',Ext w w'->K (nI (M.oneM t a)) w'):vcall zc0 #[v,nI a] w K:=by
 refine zf {cuts:=[(8194,[5]),(16388,[13]),(28679,[40])]} Tryz.func96 ?_;obtain⟨ksv,rfl,o⟩:=q;refine zk λb1 w1 n l p j=>?_;have k:∀c,M.oneM t a=c->K (nI c) w1:=λc e=>e▸m _ l;unfold M.oneM at k;refine zo (λu w'=>u=[.bool (decide (t.op=25/\a=0))]/\w'=w1) (λC i=>?_) ?_
 ·simp only[push_cast,j.ld0];refine zb (λb=>?_) (λb=>?_)
  ·refine i _ _ ⟨?_,rfl⟩;simp only[b,true_and]
  ·exact i _ _ ⟨by rw[decide_eq_false (λh=>b h.1)],rfl⟩
 rintro u g w2 ⟨rfl,rfl⟩;simp only[push_cast];refine zb (λb=>?_) (λb=>?_)
 ·exact k _ (by rw[if_pos b.1,if_pos b.2])
 refine zo (λu w'=>u=[.bool (decide (t.op=25\/a<1))]/\w'=w2) (λC i=>?_) ?_
 ·simp only[push_cast,j.ld0];refine zb (λc=>?_) (λc=>?_)
  ·exact i _ _ ⟨by rw[decide_eq_true (.inl c)],rfl⟩
  ·refine i _ _ ⟨?_,rfl⟩;simp only[c,false_or]
 rintro u g r ⟨rfl,rfl⟩;simp only[push_cast];refine zb (λc=>?_) (λc=>?_)
 ·exact k _ (by
   repeat' split
   all_goals omega)
 simp only[push_cast,j.ld0];refine zb (λd=>?_) (λd=>?_)
 ·refine zo (λu w'=>u=[.bool (decide (0<=t.b/\t.b<=t.a/\t.a<a))]/\w'=r) (λC i=>?_) ?_
  ·simp only[push_cast,j.ld1,j.ld2];refine zb (λe=>?_) (λe=>?_)
   ·refine zb (λf=>?_) (λf=>?_)
    ·refine i _ _ ⟨?_,rfl⟩;simp only[e,f,true_and]
    ·exact i _ _ ⟨by rw[decide_eq_false (λh=>f h.2.1)],rfl⟩
   ·exact i _ _ ⟨by rw[decide_eq_false (λh=>e h.1)],rfl⟩
  rintro u g y ⟨rfl,rfl⟩;simp only[push_cast];refine zb (λe=>?_) (λe=>?_)
  ·simp only[push_cast,j.ld1,j.ld2];rw[zj (x:=t.a-t.b) oM oM,zj oM oM];exact k _ (by rw[if_neg oM,if_neg oM,if_pos d,if_pos e])
  ·exact k _ (by rw[if_neg oM,if_neg oM,if_pos d,if_neg e])
 ·exact k _ (by rw[if_neg oM,if_neg oM,if_neg d])
theorem l2Both_spec {o a b:Int} (l: -1<=a/\a<=4) (k: -1<=b/\b<=4) (j:K (nI (M.bothM o a b)) w):vcall Ws #[nI o,nI a,nI b] w K:=by
 refine zf {cuts:=[(12291,[8]),(24582,[21])]} Tryz.func97 ?_;have h:∀c,M.bothM o a b=c->K (nI c) w:=λc e=>e▸j;unfold M.bothM at h;refine zo (λu w'=>u=[.bool (decide (o=26\/o=27))]/\w'=w) (λC f=>?_) ?_
 ·simp only[push_cast];refine zb (λc=>?_) (λc=>?_)
  ·exact f _ _ ⟨by rw[decide_eq_true (.inl c)],rfl⟩
  ·refine f _ _ ⟨?_,rfl⟩;simp only[c,false_or]
 rintro u g w2 ⟨rfl,rfl⟩;simp only[push_cast];refine zb (λc=>?_) (λc=>?_)
 ·repeat' first
   |exact h _ (by
    repeat' split
    all_goals omega)
   |refine zb (λ_=>?_) (λ_=>?_)
 refine zo (λu w'=>u=[.bool (decide (a<1\/b<1))]/\w'=w2) (λC f=>?_) ?_
 ·try simp only[push_cast]
  refine zb (λd=>?_) (λd=>?_)
  ·exact f _ _ ⟨by rw[decide_eq_true (.inl d)],rfl⟩
  ·refine f _ _ ⟨?_,rfl⟩;simp only[d,false_or]
 rintro u g m ⟨rfl,rfl⟩;have i:IntKind.i64.wrap (a+b)=a+b:=zj oM oM;simp only[push_cast,i]
 repeat' first
  |exact h _ (by
   repeat' split
   all_goals omega)
  |refine zb (λ_=>?_) (λ_=>?_)
theorem l2Sort_spec:∀(t:M.Tm) {w:World} {K:oK} {F G:Nat->Prop} {dv v:Value} {ds:List M.Dcl},DclsR F w dv ds->M.declOk ds=true->TermR G w v t->(∀w',Ext w w'->K (nI (M.sortM ds t)) w')->vcall Wn #[dv,v] w K:=by
 refine M.Tm.ind λt U w K F G dv v ds O f ht W=>?_;refine zf {} Tryz.func69 ?_;obtain⟨ksv,rfl,u⟩:=ht;refine zk λb1 w1 X E Z V=>?_;have m:∀c w',M.sortM ds t=c->Ext w w'->K (nI c) w':=λc w' e he=>e▸W _ he;rw[V.ldAgg (t:=za) zc];refine zu0 (F:=G) (t:=t) ⟨ksv,rfl,u.ext E⟩ λw2 H=>?_;have o:=E.trans H;have y:=V.ext H;simp only[push_cast];refine zn (λa=>?_) (λa=>?_)
 ·exact m _ _ (M.sort_bad (by rw[Bool.not_eq_true];simpa using a)) o
 have A:M.formed t=true:=by simpa using a
 have j:=(M.formed_iff.1 A).1;have q:=O.ext o;simp only[push_cast,y.ld0];refine zb (λd=>?_) (λd=>?_)
 ·have J:t.ks.length=0:=by rw[d] at j;simp[M.arity] at j;omega
  have hs:=M.sort_leaf (ds:=ds) A J;simp only[push_cast,y.ld1,y.ld2];refine spec_VecOk_spec λw3 k=>?_;have C:=y.ext k;refine zn (λb=>?_) (λb=>?_)
  ·simp only[push_cast,C.ld1];exact m _ _ (by rw[hs];unfold M.sortK;rw[if_pos d,if_pos b]) (o.trans k)
  ·exact m _ _ (by rw[hs];unfold M.sortK;rw[if_pos d,b];rfl) (o.trans k)
 refine zb (λl=>?_) (λl=>?_)
 ·have J:t.ks.length=0:=by rw[l] at j;simp[M.arity] at j;omega
  have hs:=M.sort_leaf (ds:=ds) A J;have Y:=M.findD_lt ds t.s;simp only[push_cast,y.ld3];refine l2Find_spec q ?_
  try simp only[push_cast]
  refine zb (λb=>?_) (λb=>?_)
  ·exact m _ _ (by rw[hs];unfold M.sortK;rw[if_neg d,if_pos l,if_pos b]) o
  ·try simp(disch:=first|(simp only[push_cast])|omega) only[push_cast,q.iaddr]
   try simp(disch:=first|(simp only[push_cast])|omega) only[push_cast,q.load1]
   exact m _ _ (by rw[hs];unfold M.sortK;rw[if_neg d,if_pos l,if_neg b]) o
 refine zb (λD=>?_) (λD=>?_)
 ·have J:t.ks.length=0:=by rw[D] at j;simp[M.arity] at j;omega
  have hs:=M.sort_leaf (ds:=ds) A J;exact m _ _ (by rw[hs];unfold M.sortK;rw[if_neg d,if_neg l,if_pos oM];rfl) o
 have hlen:t.ks.length=1\/t.ks.length=2\/t.ks.length=3:=by
  have h0:M.arity t.op≠0:=λh=>by have:=M.arity_zero h;omega
  have N:M.arity t.op<=3:=by
   unfold M.arity
   repeat' split
   all_goals omega
  omega
 have x:=u.ext o;simp(disch:=first|(simp only[push_cast])|omega) only[push_cast,y.ld4,x.iaddr];refine x.load zc oM λx0 R=>?_;refine U (M.kid t 0) (M.kid_mem oM) q f R λw3 k=>?_;have C:=y.ext k;have p:=o.trans k;have g:=u.ext p;have L:=M.sort_range f (M.kid t 0);simp(disch:=first|(simp only[push_cast])|omega) only[push_cast,C.ld4,g.len];refine zb (λl1=>?_) (λl1=>?_)
 ·rw[C.ldAgg (t:=za) zc];refine l2One_spec (F:=G) (t:=t) ⟨ksv,rfl,g⟩ L λw4 r=>?_;exact m _ _ (M.sort_one f A oM) (p.trans r)
 simp(disch:=first|(simp only[push_cast])|omega) only[push_cast,C.ld4,g.iaddr];refine g.load zc oM λx1 S=>?_;refine U (M.kid t 1) (M.kid_mem oM) (O.ext p) f S λw4 r=>?_;have N:=C.ext r;have i:=p.trans r;have n:=u.ext i;have Q:=M.sort_range f (M.kid t 1);simp(disch:=first|(simp only[push_cast])|omega) only[push_cast,N.ld4,N.ld0,n.len];refine zb (λl2=>?_) (λl2=>?_)
 ·refine l2Both_spec L Q ?_;exact m _ _ (M.sort_two f A oM) i
 have B:=M.sort_three (ds:=ds) A oM;refine zb (λz=>?_) (λz=>?_)
 ·exact m _ _ (by rw[B,if_pos (.inl z)]) i
 simp(disch:=first|(simp only[push_cast])|omega) only[push_cast,N.ld4,n.iaddr];refine n.load zc oM λx2 T=>?_;refine U (M.kid t 2) (M.kid_mem oM) (O.ext i) f T λw5 I=>?_;simp only[push_cast];refine zb (λz2=>?_) (λz2=>?_)
 ·exact m _ _ (by rw[B,if_pos (.inr z2)]) (i.trans I)
 ·exact m _ _ (by rw[B,if_neg (λh=>h.elim z z2)]) (i.trans I)
def zO0 (ds:List M.Dcl):Prop:=∀i,i<ds.length->(ds.getD i QO).1.size<=9223372036854775807
theorem spec_TermSort_spec {dv v:Value} {ds:List M.Dcl} {t:M.Tm} (o:zO0 ds) (q:DclsR F w dv ds) (x:TermR G w v t) (p:∀w',Ext w w'->K (nI (M.tsort ds t)) w'):vcall JI #[dv,v] w K:=by
 refine zf {} Tryz.func44 ?_;obtain⟨cs,rfl,e⟩:=x.cells;refine zk λb1 w1 s g u l=>?_;rw[l.ldAgg (t:=za) (by rw[zV e];exact zc)];refine spec_TermMany_spec t (e.ext g).term λw2 i=>?_;simp only[push_cast];have f:=g.trans i;refine spec_DeclOk_spec (q.ext f) o λy j=>?_;have d:=f.trans j;have k:=p y d;unfold M.tsort at k;simp only[push_cast];refine zn (λa=>?_) (λa=>?_)
 ·rwa[if_neg (λh=>by rw[h.2] at a;cases a)] at k
 rw[gS] at a;refine zb (λb=>?_) (λb=>?_)
 ·rw[if_neg (λh=>by
   have l:=M.fits_iff.1 h.1;unfold M.manyM at b;rw[if_pos h.1] at b;omega)] at k
  exact k
 have n:M.fits t=true:=by
  by_cases h:M.fits t=true
  ·exact h
  ·unfold M.manyM at b;rw[if_neg h] at b;omega
 refine zb (λc=>?_) (λc=>?_)
 ·unfold M.lvlM at c;rw[if_pos n] at c;have:=M.fits_iff.1 n;omega
 have r:=(l.ext i).ext j;rw[r.ldAgg (t:=za) (by rw[zV e];exact zc)];refine l2Sort_spec t (q.ext d) a (e.ext d).term λz m=>?_;have:=p z (d.trans m);unfold M.tsort at this;rwa[if_pos ⟨n,a⟩] at this
theorem X9 {b:Bool} (a:K (nI (M.b2i b)) w):vcall Wt #[.bool b] w K:=by
 refine zf {} Tryz.func106 ?_;refine zn (λh=>?_) (λh=>?_)<;>subst h<;>exact a
def kJ0 (H:Nat->Prop) (w:World) (ev:Value) (env:List Int) (t:M.Tm):Prop:=Ints H w ev env\/nnB t=true
theorem qq {H:Nat->Prop} {ev:Value} {env:List Int} {t:M.Tm} {w w':World} (h:kJ0 H w ev env t) (he:Ext w w'):kJ0 H w' ev env t:=h.imp (λh=>h.ext he) id
theorem j5 {H:Nat->Prop} {ev:Value} {env:List Int} {t k:M.Tm} (h:kJ0 H w ev env t) (a:k∈t.ks):kJ0 H w ev env k:=h.imp id λh=>(nnB_iff.1 h).2 k a
theorem qS0 {H:Nat->Prop} {ev:Value} {env:List Int} {t:M.Tm} (h:kJ0 H w ev env t) (a:t.op=21):Ints H w ev env:=h.elim id λh=>absurd a (nnB_iff.1 h).1
def jb0 (t:M.Tm):Prop:=∀{w:World} {K:oK} {F G H:Nat->Prop} {dv v ev:Value} {ds:List M.Dcl} {env:List Int},DclsR F w dv ds->M.envOk ds env=true->TermR G w v t->kJ0 H w ev env t->M.sortM ds t≠ -1->(∀w',Ext w w'->K (nI (M.evalM ds env t)) w')->vcall Wr #[dv,v,ev] w K
theorem l2Vec_spec {t:M.Tm} (B:jb0 t) {H:Nat->Prop} {dv v ev:Value} {ds:List M.Dcl} {env:List Int} (l:DclsR F w dv ds) (he:M.envOk ds env=true) (x:TermR G w v t) (z:kJ0 H w ev env t) (hs:M.sortM ds t≠ -1) (p:∀w',Ext w w'->K (xS (M.sortM ds t) (M.evalM ds env t)) w'):vcall zb0 #[dv,v,ev] w K:=by
 refine zf {ord:=[oz 1 [0,1,3,4,5,2,6,7,8] [(0,[1,3,4,5]),(1,[3,4,5]),(3,[4,5,2]),(4,[5,2]),(5,[2])]]} Tryz.func216 ?_;obtain⟨cs,rfl,c⟩:=x.cells;refine zk λb1 w1 q f s m=>?_;refine zi zZ λb2 w2 r g u n=>?_;refine zd λC d _=>?_;have k:=(m.ext g).ext d;have b:=(f.trans g).trans d;have i:aggB za cs.length=true:=by rw[zV c];exact zc
 rw[k.ldAgg (t:=za) i];refine⟨rfl,?_⟩;rw[k.ldAgg (t:=za) i];refine⟨rfl,l2Sort_spec t (l.ext b) (M.env_ok he).1 (c.ext b).term λD e=>?_⟩;rw[(k.ext e).ldAgg (t:=za) i];have a:=b.trans e;refine⟨⟨rfl,rfl⟩,B (l.ext a) he (c.ext a).term (qq z a) hs λE h=>?_⟩;simp only[push_cast,true_and];refine stVec (((n.ext d).ext e).ext h) λI j _ o=>?_;rw[o.lv rK];exact p _ (Ext.then (a.trans h) j λy A=>by subst A;have:=f.size;omega)
theorem l2Do_spec {t:M.Tm} (W:∀k,k∈t.ks->jb0 k) {H:Nat->Prop} {dv v ev:Value} {ds:List M.Dcl} {env:List Int} (T:DclsR F w dv ds) (he:M.envOk ds env=true) (ht:TermR G w v t) (V:kJ0 H w ev env t) (hs:M.sortM ds t≠ -1)
  (ho:(1<=t.op/\t.op<=17)\/t.op=22) (I:∀w',Ext w w'->K (nI (M.evalM ds env t)) w'):vcall ye0 #[dv,v,ev] w K:=by
 refine zf {} Tryz.func183 ?_;obtain⟨ksv,rfl,z⟩:=ht;have a3:1<=t.ks.length:=by
  rcases(by omega:t.op=22\/(t.op=1\/t.op=2)\/(3<=t.op/\t.op<=14)\/(15<=t.op/\t.op<=17)) with h|h|h|h
  ·have:=(M.eval_cut he hs h).1;omega
  ·have:=(M.eval_un he hs h).1;omega
  ·have:=(M.eval_bin he hs h.1 h.2).1;omega
  ·have:=(M.eval_cmp he hs h.1 h.2).1;omega
 refine zk λb1 w1 a0 f a7 L=>?_;have m:=z.ext f;simp(disch:=first|(simp only[push_cast])|omega) only[push_cast,L.ld4,m.iaddr];refine m.load zc oM λx0 Q=>?_;refine l2Vec_spec (W (M.kid t 0) (M.kid_mem oM)) (T.ext f) he Q (j5 (qq V f) (M.kid_mem oM)) (M.good_kid hs oM) λw2 p=>?_;refine zi zZ λb2 w3 a1 x a8 h3=>?_;refine stVec h3 λw4 C _ E=>?_;have aa:=f.size;have ab:=p.size;have b:Ext w w4:=Ext.then ((f.trans p).trans x) C λy l=>by subst l;omega
 have a4:=L.lt;have n:=((L.ext p).ext x).same C oM;simp only[push_cast,n.ld0];refine zb (λr=>?_) (λr=>?_)
 ·obtain⟨hl,hv,d⟩:=M.eval_cut he hs r;simp only[push_cast,E.ldAgg (t:=zg) zr,n.ld1,n.ld2];refine spec_VecCut_spec λY a=>?_;simp only[push_cast];refine zi zZ λb3 Z u c A s=>?_;refine stVec s λD e _ q=>?_;simp only[push_cast,q.ld1];have:=I D (Ext.then ((b.trans a).trans c) e λy l=>by subst l;have:=(b.trans a).size;omega);rwa[d] at this
 have g:=z.ext b;simp only[push_cast,n.ld4,g.len];refine zb (λl1=>?_) (λl1=>?_)
 ·have j:t.op=1\/t.op=2:=by
   rcases(by omega:(t.op=1\/t.op=2)\/(3<=t.op/\t.op<=14)\/(15<=t.op/\t.op<=17)) with h|h|h
   ·exact h
   ·have:=(M.eval_bin he hs h.1 h.2).1;omega
   ·have:=(M.eval_cmp he hs h.1 h.2).1;omega
  obtain⟨hl,hv,d⟩:=M.eval_un he hs j;simp only[push_cast,E.ldAgg (t:=zg) zr,n.ld0];refine spec_VecUn_spec λY a=>?_;simp only[push_cast];refine zi zZ λb3 Z u c A s=>?_;refine stVec s λD e _ q=>?_;simp only[push_cast,q.ld1];have:=I D (Ext.then ((b.trans a).trans c) e λy l=>by subst l;have:=(b.trans a).size;omega);rwa[d] at this
 have j:3<=t.op/\t.op<=17:=by
  rcases(by omega:(t.op=1\/t.op=2)\/(3<=t.op/\t.op<=17)) with h|h
  ·have:=(M.eval_un he hs h).1;omega
  ·exact h
 have a5:t.ks.length=2:=by
  rcases(by omega:(3<=t.op/\t.op<=14)\/(15<=t.op/\t.op<=17)) with h|h
  ·exact(M.eval_bin he hs h.1 h.2).1
  ·exact(M.eval_cmp he hs h.1 h.2).1
 simp(disch:=first|(simp only[push_cast])|omega) only[push_cast,n.ld4,g.iaddr];refine g.load zc oM λx1 R=>?_;refine l2Vec_spec (W (M.kid t 1) (M.kid_mem oM)) (T.ext b) he R (j5 (qq V b) (M.kid_mem oM)) (M.good_kid hs oM) λY a=>?_;refine zi zZ λb3 Z u c A s=>?_;refine stVec s λD e _ q=>?_;have ac:=b.size;have ad:=a.size;have o:Ext w D:=Ext.then ((b.trans a).trans c) e λy l=>by subst l;omega
 have a6:=E.lt;have U:=n.lt;have S:=((n.ext a).ext c).same e oM;have X:=((E.ext a).ext c).same e oM;simp only[push_cast,S.ld0];refine zb (λJ=>?_) (λJ=>?_)
 ·obtain⟨_,_,_,d⟩:=M.eval_cmp he hs oM j.2;simp only[push_cast,X.ldAgg (t:=zg) zr,q.ldAgg (t:=zg) zr,S.ld0];refine spec_VecCmp_spec λw8 i=>?_;simp only[push_cast];refine X9 ?_;have:=I _ (o.trans i);rwa[d] at this
 ·obtain⟨_,_,_,d⟩:=M.eval_bin he hs j.1 oM;simp only[push_cast,X.ldAgg (t:=zg) zr,q.ldAgg (t:=zg) zr,S.ld0];refine spec_VecBin_spec λw8 i=>?_;simp only[push_cast];refine zi zZ λb4 w9 a2 O a9 h9=>?_;refine stVec h9 λw10 B _ N=>?_;simp only[push_cast,N.ld1];have:=I w10 (Ext.then ((o.trans i).trans O) B λy l=>by subst l;have:=(o.trans i).size;omega);rwa[d] at this
theorem l2Eval_spec:∀(t:M.Tm),jb0 t:=by
 refine M.Tm.ind λt E=>?_;intro w K F G H dv v ev ds env z he ht B hs Y;refine zf {ord:=[oz 11 [0,1,2,3,4,5,7,8,9,10,11,12,6,13,14,15] [(0,[1,2,3,4,5,7,8,9,10,11,12]),(1,[5,7,8,9,10,11,12]),(2,[5,7,8,9,10,11,12]),(3,[5,7,8,9,10,11,12]),(4,[5,7,8,9,10,11,12]),(5,[7,8,9,10,11,12]),(7,[8,9,10,11,12,6]),(8,[12,6]),(9,[12,6]),(10,[12,6]),(11,[12,6]),(12,[6])],oz 13 [0,1,2,3,4,5,7,8,9,10,11,12,6,13,14,15] [(0,[1,2,3,4,5,7,8,9,10,11,12]),(1,[5,7,8,9,10,11,12]),(2,[5,7,8,9,10,11,12]),(3,[5,7,8,9,10,11,12]),(4,[5,7,8,9,10,11,12]),(5,[7,8,9,10,11,12]),(7,[8,9,10,11,12,6]),(8,[12,6]),(9,[12,6]),(10,[12,6]),(11,[12,6]),(12,[6])]]} Tryz.func146 ?_;obtain⟨ksv,rfl,p⟩:=ht;refine zk λb1 w1 a0 f a5 D=>?_;have l:=p.ext f;have A:∀c w',M.evalM ds env t=c->Ext w w'->K (nI c) w':=λc w' e he=>e▸Y _ he;have Z:=M.arity_ops (o:=t.op) (by have:=(M.formed_iff.1 (M.sort_parts hs).1).1;omega);simp only[push_cast,D.ld0];refine zb (λr=>?_) (λr=>?_)
 ·simp only[push_cast,D.ld2];exact A _ _ (by rw[M.eval_leaf (.inl r),if_pos r]) f
 refine zb (λn=>?_) (λn=>?_)
 ·have a4:=M.findD_lt ds t.s;have a3:=M.name_found hs n;have a2:=(M.env_ok he).2.1;have q:=(qS0 B n).ext f;simp only[push_cast,D.ld3];refine l2Find_spec (z.ext f) ?_;simp(disch:=first|(simp only[push_cast])|omega) only[push_cast,q.iaddr,q.load];exact A _ _ (by rw[M.eval_leaf (.inr (.inl n)),if_neg r,if_pos n]) f
 refine zb (λO=>?_) (λO=>?_)
 ·exact A _ _ (by rw[M.eval_leaf (.inr (.inr O)),if_neg r,if_neg n]) f
 refine zb (λP=>?_) (λP=>?_)
 ·obtain⟨V,R,j⟩:=M.eval_no he hs P;simp(disch:=first|(simp only[push_cast])|omega) only[push_cast,D.ld4,l.iaddr];refine l.load zc oM λx0 L=>?_;refine E (M.kid t 0) (M.kid_mem oM) (z.ext f) he L (j5 (qq B f) (M.kid_mem oM)) (M.good_kid hs oM) λw2 h=>?_;simp only[push_cast];have a1:=M.inS_zero R;rw[zj oM oM];exact A _ _ j (f.trans h)
 refine zb (λC=>?_) (λC=>?_)
 ·obtain⟨V,R,S,j⟩:=M.eval_two he hs (.inl C);rw[if_pos C] at j;refine zd λw2 h _=>?_;have I:=D.ext h;have a:=f.trans h;have g:=p.ext a;simp(disch:=first|(simp only[push_cast])|omega) only[push_cast,I.ld4,g.iaddr,true_and];obtain⟨css,m,U,u⟩:=g;rw[m.ldAgg zc (i:=0) oM];simp only[true_and];rw[m.ldAgg zc (i:=1) oM];simp only[true_and];refine E (M.kid t 0) (M.kid_mem oM) (z.ext a) he (u 0 oM).term (j5 (qq B a) (M.kid_mem oM)) (M.good_kid hs oM) λW d=>?_;have T:=I.ext d;have x:=p.ext (a.trans d);have y:=m.ext d;simp(disch:=first|(simp only[push_cast])|omega) only[push_cast,T.ld4,x.iaddr,true_and];rw[y.ldAgg zc (i:=1) oM];refine⟨⟨rfl,rfl⟩,?_⟩
  try simp only[true_and,and_self]
  refine E (M.kid t 1) (M.kid_mem oM) (z.ext (a.trans d)) he ((u 1 oM).ext d).term (j5 (qq B (a.trans d)) (M.kid_mem oM)) (M.good_kid hs oM) λw4 J=>?_;simp only[push_cast,true_and];have e:IntKind.i64.wrap (M.evalM ds env (M.kid t 0)*M.evalM ds env (M.kid t 1))=M.evalM ds env (M.kid t 0)*M.evalM ds env (M.kid t 1):=by
   rcases M.inS_zero R with e|e<;>rcases M.inS_zero S with X|X<;>rw[e,X]<;>rfl
  rw[e];exact A _ _ j ((a.trans d).trans J)
 refine zb (λQ=>?_) (λQ=>?_)
 ·obtain⟨V,R,S,j⟩:=M.eval_two he hs (.inr Q);rw[if_neg C] at j;refine zd λw2 h _=>?_;have I:=D.ext h;have a:=f.trans h;have g:=p.ext a;simp(disch:=first|(simp only[push_cast])|omega) only[push_cast,I.ld4,g.iaddr,true_and];obtain⟨css,m,U,u⟩:=g;rw[m.ldAgg zc (i:=0) oM];simp only[true_and];rw[m.ldAgg zc (i:=1) oM];simp only[true_and];refine E (M.kid t 0) (M.kid_mem oM) (z.ext a) he (u 0 oM).term (j5 (qq B a) (M.kid_mem oM)) (M.good_kid hs oM) λW d=>?_;have T:=I.ext d;have x:=p.ext (a.trans d);have y:=m.ext d;simp(disch:=first|(simp only[push_cast])|omega) only[push_cast,T.ld4,x.iaddr,true_and];rw[y.ldAgg zc (i:=1) oM];refine⟨⟨rfl,rfl⟩,?_⟩
  try simp only[true_and,and_self]
  refine E (M.kid t 1) (M.kid_mem oM) (z.ext (a.trans d)) he ((u 1 oM).ext d).term (j5 (qq B (a.trans d)) (M.kid_mem oM)) (M.good_kid hs oM) λw4 J=>?_;refine l1Max_spec ?_;exact A _ _ j ((a.trans d).trans J)
 refine zb (λN=>?_) (λN=>?_)
 ·obtain⟨V,R,j⟩:=M.eval_if he hs N;simp(disch:=first|(simp only[push_cast])|omega) only[push_cast,D.ld4,l.iaddr];refine l.load zc oM λx0 L=>?_;refine E (M.kid t 0) (M.kid_mem oM) (z.ext f) he L (j5 (qq B f) (M.kid_mem oM)) (M.good_kid hs oM) λw2 h=>?_;have I:=D.ext h;have a:=f.trans h;have g:=p.ext a;simp only[push_cast];refine zb (λb=>?_) (λb=>?_)
  ·rw[if_pos b] at j;simp(disch:=first|(simp only[push_cast])|omega) only[push_cast,I.ld4,g.iaddr];refine g.load zc oM λx1 q=>?_;refine E (M.kid t 1) (M.kid_mem oM) (z.ext a) he q (j5 (qq B a) (M.kid_mem oM)) (M.good_kid hs oM) λW d=>?_;exact A _ _ j (a.trans d)
  ·rw[if_neg b] at j;simp(disch:=first|(simp only[push_cast])|omega) only[push_cast,I.ld4,g.iaddr];refine g.load zc oM λx1 q=>?_;refine E (M.kid t 2) (M.kid_mem oM) (z.ext a) he q (j5 (qq B a) (M.kid_mem oM)) (M.good_kid hs oM) λW d=>?_;exact A _ _ j (a.trans d)
 ·rw[D.ldAgg (t:=za) zc];refine l2Do_spec (G:=G) (t:=t) (λk A=>E k A) (z.ext f) he ⟨ksv,rfl,l⟩ (qq B f) hs oM λw2 h=>?_;exact Y _ (f.trans h)
end
section
variable {w:World} {K:oK} {F F':Nat->Prop}
def Bytes (F:Nat->Prop) (w:World) (v:Value) (xs:List Nat):Prop:=Vals F w v (xs.map λx=>Value.int .u8 (x:Nat))/\∀x,x∈xs->x<256
theorem Bytes.same {S:Nat->Prop} {w':World} {v:Value} {xs:List Nat} (h:Bytes F w v xs) (hw:Same S w w') (hs:∀b,F b->b<w.heap.size->¬S b):Bytes F w' v xs:=⟨h.1.same hw hs,h.2⟩
theorem Bytes.ext {w':World} {v:Value} {xs:List Nat} (h:Bytes F w v xs) (hw:Ext w w'):Bytes F w' v xs:=⟨h.1.ext hw,h.2⟩
theorem Bytes.load {v:Value} {xs:List Nat} (h:Bytes F w v xs) {e:TypeId} (he:oneB e=true) {i:Nat} (hi:i<xs.length):zt e (.pointer (some (eaddr v 1 i))) w K=K (.int .u8 (xs.getD i 0:Nat)) w:=by
 rw[Vals.load h.1 he (by simpa using hi)];simp[q0,hi]
theorem Bytes.len {w':World} {v:Value} {xs:List Nat} (h:Bytes F w v xs) {t:TypeId} (a:isSl t=true) (ty:TypeId):vbi .len [t] ty [v] w' K=K (nI xs.length) w':=by
 have:=Vals.len (K:=K) (w':=w') h.1 a ty;rwa[X0] at this
theorem Bytes.iaddr {w':World} {v:Value} {xs:List Nat} (h:Bytes F w v xs) {t:TypeId} (c:elB t 1=true) {kd:IntKind} {i:Int} (a:0<=i) (b:i<xs.length):
  zX t v (.int kd i) w' K=K (.pointer (some (eaddr v 1 i.toNat))) w':=Vals.iaddr h.1 c a (by simpa using b)
structure RdR (F:Nat->Prop) (w:World) (b:Nat) (v:Value) (xs:List Nat) (p:Nat):Prop where
 blk:Blk w b [v,nI p] zW
 bytes:Bytes F w v xs
 apart: ¬F b
 few:xs.length<=2000
theorem RdR.same {S:Nat->Prop} {w':World} {b p:Nat} {v:Value} {xs:List Nat} (h:RdR F w b v xs p) (hw:Same S w w') (a: ¬S b) (hs:∀b,F b->b<w.heap.size->¬S b):RdR F w' b v xs p:=
 ⟨h.blk.same hw a,h.bytes.same hw hs,h.apart,h.few⟩
theorem RdR.ext {w':World} {b p:Nat} {v:Value} {xs:List Nat} (h:RdR F w b v xs p) (hw:Ext w w'):RdR F w' b v xs p:=h.same hw id λ_ _ _ h=>h
theorem l12Open_spec {v:Value} {xs:List Nat} (n:Bytes F w v xs) (hF:∀b,F b->b<w.heap.size)
  (C:∀w' b v' ys,Ext w w'->RdR F w' b v' ys 0->w.heap.size<=b->K (oP b 0) w'):vcall KQ #[v] w K:=by
 refine zf {} Tryz.func38 ?_;simp only[push_cast,n.len];have fin:∀(v':Value) (ys:List Nat),Bytes F w v' ys->ys.length<=2000->yj zW [(0,v')] w λt9 f=>UD zW t9 f λt10 g=>K t10 g:=λv' ys j E=>by
  refine ZZ zK0 (us:=[[v']]) (by simp[j.1.cells1]) rfl ?_;refine yg λb w1 L m H B=>?_;exact C w1 b v' ys m ⟨B,j.ext m,λh=>by have:=hF b h;omega,E⟩ oM
 refine zb (λa=>?_) (λa=>fin v xs n oM);have k:xk y6 v none (some (nI (2000:Nat))) none w λt7 r=>yj zW [(0,t7)] r λt9 f=>UD zW t9 f λt10 g=>K t10 g:=by
  obtain⟨a0,c0,rfl,D,q,d⟩:=n.1.shape;rw[Sl.cut n.1 (λa l c e=>?_) kl0 (by simp;omega)]
  ·refine fin _ (xs.take 2000) ⟨⟨⟨a0,c0,?_,?_,q,λG=>?_⟩,λy j=>?_⟩,λy j=>n.2 y (gQ j)⟩ (by simp;omega)
   ·simp only[cutV,X0,gg];rw[Gy oM]
   ·simp at D⊢;omega
   ·obtain⟨b,o,p,t,z,A⟩:=d (λe=>by simp at e;subst e;simp at a);refine⟨b,o,p,t,z,λi hi=>?_⟩;simp only[X0,gg] at hi;have:=A i (by simp;omega);have e:(((xs.take 2000).map λx=>Value.int .u8 (x:Nat)).map λx=>[x]).getD i []=((xs.map λx=>Value.int .u8 (x:Nat)).map λx=>[x]).getD i []:=by
     simp only[q0,Gv,Py];rw[if_pos oM]
    rw[e];exact this
   ·obtain⟨u,_,rfl⟩:=gp.1 j;rfl
  ·injection e with s I J
   obtain⟨b,o,p,_⟩:=d (λe=>by simp at e;subst e;simp at a);exact⟨b,o,by rw[p] at s;exact(K3 s).symm⟩
 exact k
theorem pick_spec {b p : Nat} {v : Value} {xs : List Nat} {n : Int} (h : RdR F w b v xs p) (hn : n <= 1099511627776) (hp : p < 1099511627776)
    (hK : ∀ w' (k : Nat), Same (· = b) w w' -> w'.heap.size = w.heap.size -> RdR F w' b v xs (p + 1) -> (1 <= n -> (k : Int) < n) -> (n < 1 -> k = 0) -> K (.int .i64 k) w') : vcall qh #[.pointer (some ⟨b, 0, none⟩), .int .i64 n] w K := by
  apply Qx; unfold kU
  have hfew := h.few
  simp (disch := (simp only [push_cast]; done)) only [push_cast, h.blk.ld1]
  have hinc : IntKind.i64.wrap ((p : Int) + 1) = ((p + 1 : Nat) : Int) := by rw [zj (by omega) (by omega)]; omega
  rw [hinc]
  refine h.blk.st rfl rfl yU rfl λw1 hs1 hz1 hB1 => ?_
  have B1 : Blk w1 b [v, .int .i64 (p + 1 : Nat)] zW := hB1
  have hR : RdR F w1 b v xs (p + 1) := ⟨B1, h.bytes.same hs1 λx hx _ e => h.apart (e ▸ hx), h.apart, h.few⟩
  have hx := hR.bytes
  refine zo (λ_ w' => w' = w1 /\ 1 <= n /\ xs.length ≠ 0) ?_ ?_
  · intro J hJ
    refine zb (λa => ?_) (λa => ?_)
    · exact hK w1 0 hs1 hz1 hR (λh => by omega) λ_ => rfl
    · simp (disch := (simp only [push_cast]; done)) only [push_cast, B1.ld0, hx.len]
      refine zb (λa2 => ?_) (λa2 => ?_)
      · exact hK w1 0 hs1 hz1 hR (λh => by omega) λ_ => rfl
      · exact hJ _ _ ⟨rfl, by omega, by omega⟩
  rintro _ _ _ ⟨rfl, h1, hne⟩
  simp (disch := (simp only [push_cast]; done)) only [B1.ld0, B1.ld1, yo0, ZR, Kk, yn, gO, kV, hx.len]
  rw [show ((p + 1 : Nat) : Int) - 1 = (p : Int) from by omega, zj (by omega) (by omega)]
  simp only [yv0]
  have hget : ∀ i, i < xs.length -> xs.getD i 0 < 256 := λi hi => hx.2 _ (by rw [q0, gi hi]; exact GD hi)
  have hmod : ∀ x : Nat, ((x : Int).tmod n) = ((x % n.toNat : Nat) : Int) /\ ((x % n.toNat : Nat) : Int) < n := λx => by
    obtain ⟨m, rfl⟩ : ∃ m : Nat, n = m := ⟨n.toNat, by omega⟩
    rw [gm]
    exact ⟨rfl, by have := pj x (show 0 < m by omega); omega⟩
  refine zb (λa => ?_) (λa => ?_)
  · simp (disch := first | (simp only [push_cast]; done) | omega) only [B1.ld0, hx.iaddr, gm, hx.load, qy yz0 VI]
    have hb := hget p (by omega)
    rw [zj (by omega) (by omega), qY (by omega)]
    obtain ⟨m1, m2⟩ := hmod (xs.getD p 0)
    rw [m1]
    exact hK _ _ hs1 hz1 hR (λ_ => m2) λh => by omega
  · refine zd λw2 he2 hheap => ?_
    have B2 := B1.ext he2
    have hx2 := hx.ext he2
    have hl0 : (xs.length : Int) ≠ 0 := by omega
    have e1 : ((p : Int).tmod xs.length) = ((p % xs.length : Nat) : Int) := by rw [pb (by omega)]; rfl
    have l1 : p % xs.length < xs.length := pj _ (by omega)
    have e2 : IntKind.i64.wrap ((p : Int) * 7) = ((p * 7 : Nat) : Int) := by rw [zj (by omega) (by omega)]; omega
    have e3 : IntKind.i64.wrap (((p * 7 : Nat) : Int) + 3) = ((p * 7 + 3 : Nat) : Int) := by rw [zj (by omega) (by omega)]; omega
    have e4 : (((p * 7 + 3 : Nat) : Int).tmod xs.length) = (((p * 7 + 3) % xs.length : Nat) : Int) := by rw [pb (by omega)]; rfl
    have l2 : (p * 7 + 3) % xs.length < xs.length := pj _ (by omega)
    have b1 := hget _ l1
    have b2 := hget _ l2
    generalize hx1 : xs.getD (p % xs.length) 0 = x1 at b1
    generalize hx2' : xs.getD ((p * 7 + 3) % xs.length) 0 = x2 at b2
    have e5 : IntKind.i64.wrap ((x1 : Nat) : Int) = ((x1 : Nat) : Int) := zj (by omega) (by omega)
    have e6 : IntKind.i64.wrap ((x2 : Nat) : Int) = ((x2 : Nat) : Int) := zj (by omega) (by omega)
    have e7 : IntKind.i64.wrap (((x1 : Nat) : Int) * 131) = ((x1 * 131 : Nat) : Int) := by rw [zj (by omega) (by omega)]; omega
    have e8 : IntKind.i64.wrap (((x2 : Nat) : Int) * 1117) = ((x2 * 1117 : Nat) : Int) := by rw [zj (by omega) (by omega)]; omega
    have e9 : IntKind.i64.wrap (((x1 * 131 : Nat) : Int) + ((x2 * 1117 : Nat) : Int)) = ((x1 * 131 + x2 * 1117 : Nat) : Int) := by rw [zj (by omega) (by omega)]; omega
    have e10 : IntKind.i64.wrap ((p : Int) * 29) = ((p * 29 : Nat) : Int) := by rw [zj (by omega) (by omega)]; omega
    have e11 : IntKind.i64.wrap (((x1 * 131 + x2 * 1117 : Nat) : Int) + ((p * 29 : Nat) : Int)) = ((x1 * 131 + x2 * 1117 + p * 29 : Nat) : Int) := by rw [zj (by omega) (by omega)]; omega
    obtain ⟨Q, hQ⟩ : ∃ Q, Q = p / xs.length := ⟨_, rfl⟩
    have hq : Q <= p := by rw [hQ]; exact Gu _ _
    have e12 : IntKind.i64.wrap ((p : Int).tdiv xs.length) = ((Q : Nat) : Int) := by
      have : (p : Int).tdiv xs.length = (Q : Int) := by rw [hQ]; rfl
      rw [this]; exact zj (by omega) (by omega)
    have e13 : IntKind.i64.wrap (((Q : Nat) : Int) * 53) = ((Q * 53 : Nat) : Int) := by rw [zj (by omega) (by omega)]; omega
    have e14 : IntKind.i64.wrap (((x1 * 131 + x2 * 1117 + p * 29 : Nat) : Int) + ((Q * 53 : Nat) : Int)) = ((x1 * 131 + x2 * 1117 + p * 29 + Q * 53 : Nat) : Int) := by rw [zj (by omega) (by omega)]; omega
    simp (disch := first | (simp only [push_cast]; done) | omega) only [B2.ld0, yo0, ZR, yn, gO, true_and, hx2.len, qY hl0, jy hl0, yu0, Xh, e1, e2, e3, e4, e12, hx2.iaddr, gm, hx2.load, hx1, hx2', qy yz0 VI, e5, e6, e7, e8, e9, e10, e11, e13, e14]
    have hX : x1 * 131 + x2 * 1117 + p * 29 + Q * 53 < 9223372036854775808 := by omega
    generalize x1 * 131 + x2 * 1117 + p * 29 + Q * 53 = X at hX ⊢
    have e15 : IntKind.i64.wrap ((X : Int).tdiv 64) = ((X / 64 : Nat) : Int) := by
      have : (X : Int).tdiv 64 = ((X / 64 : Nat) : Int) := rfl
      rw [this]; exact zj (by omega) (by omega)
    rw [jy (by omega), e15, x10 hX (by omega), qY (by omega)]
    obtain ⟨m1, m2⟩ := hmod (X ^^^ X / 64)
    rw [m1]
    exact hK _ _ (hs1.trans (Same.of_ext he2)) (by rw [hheap]; exact hz1) (hR.ext he2) (λ_ => m2) λh => by omega
theorem num_spec {b p:Nat} {v vs:Value} {xs:List Nat} {ns:List Int} (h:RdR F w b v xs p) (g:Ints F' w vs ns) (d:ns≠[]) (o:ns.length<=1000) (n:p<1099511627776) (c:∀x,F' x->x≠b)
  (j:∀w' m,Same (· =b) w w'->w'.heap.size=w.heap.size->RdR F w' b v xs (p+1)->m∈ns->K (nI m) w'):vcall xI #[oP b 0,vs] w K:=by
 refine zf {} Tryz.func52 ?_;have f:=Gx.2 d;simp only[push_cast,g.len];refine pick_spec h oM n λw1 k hs r l i _=>?_;have s:=i oM;have a:=g.same hs λx q _ e=>c x q e;simp(disch:=first|(simp only[push_cast])|omega) only[push_cast,a.iaddr,a.load];exact j w1 _ hs r l (M.getD_mem oM _)
end
section
variable {w:World} {K:oK} {F D:Nat->Prop}
@[push_cast] theorem bd_Decl (s:ByteArray) (n:Int):yj yP [(0,.string s),(1,nI n)] w K=K (.agg ⟨[.string s,nI n]⟩) w:=zR yl0 (us:=[[.string s],[nI n]]) rfl rfl
abbrev OwnD (w:World) (v:Value) (ds:List M.Dcl):Prop:=Own 0 2 xw w v (ds.map λd=>[.string d.1,nI d.2])
def Dok (ds:List M.Dcl):Prop:=ds.length<=5/\∀i,i<ds.length->1<=(ds.getD i QO).2/\(ds.getD i QO).2<=4/\(ds.getD i QO).1.size<=1
theorem OwnD.dcls {v:Value} {ds:List M.Dcl} (h:OwnD w v ds):DclsR (λb=>v.ownBlock=some b) w v ds:=Own.sl h
def ZU0:List ByteArray:=[⟨#[120]⟩,⟨#[121]⟩,⟨#[122]⟩,⟨#[119]⟩]
set_option maxRecDepth 20000 in
theorem gd_ok {ds:List M.Dcl} (h:Dok ds) (l:ds.length<=4) (m:ds.map (·.1)=ZU0.take ds.length) (f:M.bits ds<=8):M.declOk ds=true:=by
 have nm:∀i,i<ds.length->(ds.getD i (M.nada,0)).1=ZU0.getD i M.nada:=λi hi=>by
  rw[<-M.getD_map (·.1) hi M.nada (M.nada,0),m,M.take_getD hi]
 refine M.decl_iff.2 ⟨l,λi hi=>?_,f⟩;have hw:=h.2 i hi;have c:∀j,j<i->(ds.getD j (M.nada,0)).1≠(ds.getD i (M.nada,0)).1:=λj d=>by
  rw[nm j oM,nm i hi];have:∀a b:Fin 4,b.1<a.1->ZU0.getD b.1 M.nada≠ZU0.getD a.1 M.nada:=dC;exact this ⟨i,oM⟩ ⟨j,oM⟩ d
 have g:M.findD (ds.take i) (ds.getD i (M.nada,0)).1= -1:=M.findD_none λj d=>by
  rw[gg] at d;rw[M.take_getD oM];exact c j oM
 have k:M.nameOk (ds.getD i (M.nada,0)).1=true:=by
  rw[nm i hi];have:∀a:Fin 4,M.nameOk (ZU0.getD a.1 M.nada)=true:=(by decide+kernel);exact this ⟨i,oM⟩
 unfold M.dclOk;rw[k,g];have e:1<=(ds.getD i (M.nada,0)).2/\(ds.getD i (M.nada,0)).2<=4:=⟨hw.1,hw.2.1⟩;rw[decide_eq_true e.1,decide_eq_true e.2];rfl
set_option maxRecDepth 20000 in
theorem l2Decls_spec3 {b p:Nat} {v:Value} {xs:List Nat} (h:RdR F w b v xs p) (hF:∀x,F x->x<w.heap.size) (hp:p+100<1099511627776)
  (hK:∀w' D dv ds,Same (· =b) w w'->RdR F w' b v xs D->D<=p+100->DclsR (λx=>w.heap.size<=x) w' dv ds->Dok ds->M.declOk ds=true->0<ds.length->K dv w'):vcall KO #[oP b 0] w K:=by
 refine zf {loops:=[(5,[4,5,6])],cuts:=[(24583,[])]} Tryz.func51 ?_;have lb:=h.blk.lt;refine vbuildS_row1 (xs:=ZU0.map .string) kI rK kH (λx o=>by obtain⟨s,_,rfl⟩:=gp.1 o;rfl) dC λb1 w1 ab A ak Z=>?_;have a2:Vals (· =b1) w1 (.slice (some ⟨b1,0,none⟩) (ZU0.map Value.string).length (ZU0.map Value.string).length) (ZU0.map Value.string):=Z.sl1 rfl dC;refine vbuildS_row (xs:=[]) (us:=[]) (k:=2) j8 jG xp rfl (by simp) dC λb2 w2 ac H al h2=>?_;have ho:OwnD w2 (.slice (some ⟨b2,0,none⟩) 0 0) []:=Blk.ownk (css:=[]) h2 (by simp) rfl dC;have W:=(h.ext A).ext H;refine vloop_up 4 (λi u w'=> ∃sv ds D,∃bits:Int,u=[sv,nI bits,nI i]/\Same (· =b) w w'/\RdR F w' b v xs D/\D<=p+2*i/\OwnD w' sv ds/\(∀x,sv.ownBlock=some x->w1.heap.size<=x)/\ds.length=i/\Dok ds/\0<=bits/\bits<=4*i/\Vals (· =b1) w' (.slice (some ⟨b1,0,none⟩) (ZU0.map Value.string).length (ZU0.map Value.string).length) (ZU0.map Value.string)/\ds.map (·.1)=ZU0.take i/\bits=M.bits ds/\bits<=8)
  ⟨_,[],p,0,rfl,Same.of_ext (A.trans H),W,oM,ho,λx o=>by have e:x=b2:=(K3 o).symm;omega,rfl,⟨by simp,λi hi=>by simp at hi⟩,oM,oM,a2.ext H,rfl,rfl,oM⟩ ?_
 rintro i _ _ w3 C hi ⟨sv,ds,D,bits,rfl,m,X,ai,R,l,B,G,aa,ae,a6,E,L,af⟩ hC;have ao:=m.size;have an:=A.size;have t:∀z U,Same (· =b) w3 z->RdR F z b v xs U->U<=p+2*i+2->0<i->K sv z:=λz U hs hR aj ag=>by
  refine hK z U sv ds (m.trans hs) hR oM ?_ G (gd_ok G oM (by rw[B];exact E) oM) oM;exact((R.same hs λx o e=>by have:=l x o;omega).sl).weaken λx o _=>by have:=l x o;omega
 refine zo (λu z=>u=[]/\Same (· =b) w3 z/\RdR F z b v xs (D+1)/\i<4) (λC' V=>?_) ?_
 ·refine pick_spec X oM oM λz k y ap r hk _=>?_;have:=hk oM;simp only[push_cast];rw[zj (x:=1+(k:Int)) oM oM];refine zb (λa=>?_) (λa=>?_)
  ·refine zb (λc=>?_) (λc=>?_)
   ·exact V _ _ ⟨rfl,y,r,oM⟩
   ·exact t _ _ y r oM oM
  ·exact t _ _ y r oM oM
 ·rintro u g z ⟨rfl,y,r,N⟩;refine pick_spec r oM oM λw5 k a5 a8 J hk _=>?_;have ah:=hk oM;have d:=y.trans a5;simp only[push_cast];rw[zj (x:=1+(k:Int)) oM oM,zj (x:=8-bits) oM oM];refine l1Min_spec ?_;obtain⟨n,hn⟩:∃n:Int,n=min (1+(k:Int)) (8-bits):=⟨_,rfl⟩;rw[<-hn];simp only[push_cast];refine zb (λa=>?_) (λa=>?_)
  ·exact t _ _ d J oM oM
  ·have I:=a6.same d λx o _ e=>by have:=h.blk.lt;have:=A.size;omega
   have hlen:(ZU0.map Value.string).length=4:=rfl;have e1:(ZU0.map Value.string).getD i undef= .string (ZU0.getD i ⟨#[]⟩):=M.getD_map _ (show i<ZU0.length from N) _ _;rw[I.iaddr rK oM (by rw[hlen];omega),gm,I.load rK (by rw[hlen];omega),e1];have T:(ZU0.getD i ⟨#[]⟩).size<=1:=by
    rcases(by omega:i=0\/i=1\/i=2\/i=3) with rfl|rfl|rfl|rfl<;>decide
   generalize Q:ZU0.getD i ⟨#[]⟩=nm at T⊢;simp only[push_cast];refine qz j8 jG xp rfl rfl dC λb3 w6 ad f am h6=>?_;have a3:=(R.same d λx o e=>by have:=l x o;omega).ext f;refine Own.app1k a3 ZN dC h6 rfl (by intro v hv;simp only[gd,gn,or_false] at hv;rcases hv with rfl|rfl<;>rfl) (by rw[X0,B];omega) (by rw[X0,B];omega) λa9 w7 a4 q a0=>?_;have a8:=d.size;have aq:=f.size;have S:Same (· =b) w w7:=by
    refine⟨q.os.trans (f.os.trans (d.os.trans m.os)),q.tape.trans (f.tape.trans (d.tape.trans m.tape)),q.output.trans (f.output.trans (d.output.trans m.output)),gG (((m.trans d).trans (Same.of_ext f)).size) q.size,λx o a1=>?_⟩;rw[q.block x (by have:=((m.trans d).trans (Same.of_ext f)).size;omega) (λe=>by have:=l x e;omega)];exact((m.trans d).trans (Same.of_ext f)).block x o a1
   have Y:RdR F w7 b v xs (D+1+1):=(J.ext f).same q (λe=>by have:=l b e;omega) λx o _ e=>by have:=l x e;have:=hF x o;omega
   have a7:=(I.ext f).same q (λx o _ e=>by have:=l x e;omega);rw[inc64' oM,zj (x:=bits+n) oM oM];refine hC oM _ _ ⟨a9,ds++[(nm,n)],D+1+1,bits+n,rfl,S,Y,oM,by rw[OwnD,gw];exact a4,λx o=>?_,by rw[V0];simp[B],⟨by rw[V0];simp;omega,λj hj=>?_⟩,oM,oM,a7,?_,?_,oM⟩
   ·rcases a0 x o with h|h
    ·exact l x h
    ·omega
   ·rw[V0] at hj;by_cases O:j<ds.length
    ·rw[q0,gI O,<-q0];exact G.2 j O
    ·have:j=ds.length:=by simp at hj;omega
     subst this;rw[q0,gK oM];simp only[GF,pV,GG];exact⟨oM,oM,T⟩
   ·rw[gw,E,M.take_add (show i<ZU0.length from N) ⟨#[]⟩,Q];rfl
   ·rw[L];unfold M.bits;rw[gw,List.sum_append];simp
@[push_cast] theorem bd_T3 (o a b:Int):yj za [(0,nI o),(1,nI a),(2,nI b)] w K=K (.agg ⟨[nI o,nI a,nI b,.string ⟨#[]⟩,.slice none 0 0]⟩) w:=zR qf (us:=[[nI o],[nI a],[nI b]]) rfl rfl
@[push_cast] theorem bd_T1 (o:Int):yj za [(0,nI o)] w K=K (.agg ⟨[nI o,nI 0,nI 0,.string ⟨#[]⟩,.slice none 0 0]⟩) w:=zR qf (us:=[[nI o]]) rfl rfl
@[push_cast] theorem bd_Tn (o:Int) (s:ByteArray):yj za [(0,nI o),(3,.string s)] w K=K (.agg ⟨[nI o,nI 0,nI 0,.string s,.slice none 0 0]⟩) w:=zR qf (us:=[[nI o],[.string s]]) rfl rfl
@[push_cast] theorem bd_Tk (o:Int) (a:Option Addr) (l c:Nat):yj za [(0,nI o),(4,.slice a l c)] w K=K (.agg ⟨[nI o,nI 0,nI 0,.string ⟨#[]⟩,.slice a l c]⟩) w:=zR qf (us:=[[nI o],[.slice a l c]]) rfl rfl
@[push_cast] theorem bd_Tc (o x y:Int) (a:Option Addr) (l c:Nat):yj za [(0,nI o),(1,nI x),(2,nI y),(4,.slice a l c)] w K=K (.agg ⟨[nI o,nI x,nI y,.string ⟨#[]⟩,.slice a l c]⟩) w:=zR qf (us:=[[nI o],[nI x],[nI y],[.slice a l c]]) rfl rfl
theorem xD {b:Nat} {cs cs':List Value} {t:TypeId} {G:Nat->Prop} {t':M.Tm} (h:Blk w b cs t) (j:cs.length=5) (c:TmR G w cs' t') (g:∀x,G x->x≠b) (i:∀w',Same (· =b) w w'->w'.heap.size=w.heap.size->TermR G w' (.agg ⟨cs'⟩) t'->K (.agg ⟨cs'⟩) w'):
  zT za (oP b 0) (.agg ⟨cs'⟩) w λ_ w1=>vlv za (oP b 0) w1 λr w2=>K r w2:=by
 refine stTerm h j c λw' a d f=>?_;rw[f.lv (by rw[zV c];exact zc)];exact i w' a d (c.same a λx k _ e=>g x k e).term
theorem QZ {G:Nat->Prop} (o a b:Int) (s:ByteArray):TmR G w [nI o,nI a,nI b,.string s,.slice none 0 0] (.mk o a b s []):=TmR.of (t:= .mk o a b s []) TmsR.nil
abbrev yn0 (K:oK) (F:Nat->Prop) (w:World) (b p c:Nat) (v:Value) (xs:List Nat):Prop:=∀w' p' tv t,Same (· =b) w w'->RdR F w' b v xs p'->p'<=p+c->TermR (λx=>w.heap.size<=x) w' tv t->t.ks.length<=3->K tv w'
theorem same_new {b b2:Nat} {w w1 w2:World} (h:Same (· =b) w w1) (a:Same (· =b2) w1 w2) (f:w.heap.size<=b2):Same (· =b) w w2:=
 ⟨a.os.trans h.os,a.tape.trans h.tape,a.output.trans h.output,gG h.size a.size,λx d c=>by
  rw[a.block x (gE d h.size) (λe=>by subst e;omega)];exact h.block x d c⟩
theorem RdR.new {b b2 p:Nat} {v:Value} {xs:List Nat} {w1:World} (h:RdR F w b v xs p) (hs:Same (· =b2) w w1) (a:b≠b2) (hF:∀x,F x->x≠b2):RdR F w1 b v xs p:=h.same hs a λx c _ e=>hF x c e
theorem l2Leafy_spec {b p:Nat} {v dv:Value} {xs:List Nat} {ds:List M.Dcl} {sort:Int} (h:RdR F w b v xs p) (hF:∀x,F x->x<w.heap.size) (hd:DclsR D w dv ds) (hD:∀x,D x->x≠b) (a0:Dok ds) (a8:0<=sort) (E:sort<=4) (hp:p+100<1099511627776)
  (hK:yn0 K F w b p 100 v xs):vcall YD #[oP b 0,dv,nI sort] w K:=by
 refine zf {loops:=[(6,[9])],cuts:=[(28680,[])]} Tryz.func85 ?_;have lb:=h.blk.lt;refine zi zp λb1 w1 a5 n a9 h1=>?_;have H:=h.ext n;have J:=hd.ext n;have o:∀w2 p2 cs t,Same (· =b) w w2->RdR F w2 b v xs p2->p2<=p+100->Blk w2 b1 [nI 0,nI 0,nI 0,.string ⟨#[]⟩,.slice none 0 0] za->TmR (λ_=>False) w2 cs t->t.ks.length<=3->
   zT za (oP b1 0) (.agg ⟨cs⟩) w2 λ_ w1=>vlv za (oP b1 0) w1 λr w2=>K r w2:=by
  intro w2 p2 cs t hs W a1 U hc Z;refine xD U rfl hc (λx y=>y.elim) λA l ab ht=>?_;exact hK A p2 _ t (same_new hs l oM) (W.new l oM λx y e=>by have:=hF x y;omega) a1 (ht.weaken λx y _=>y.elim) Z
 simp only[push_cast];refine zb (λa=>?_) (λa=>?_)
 ·exact o _ _ _ _ (Same.of_ext n) H oM h1 (QZ 24 0 0 _) (gJ _)
 simp only[push_cast,J.len];have hlen:=a0.1;refine pick_spec H oM oM λw2 at_ B aa X hk _=>?_;have h2:=h1.same B oM;have z:∀A p3,Same (· =b) w A->RdR F A b v xs p3->p3<=p+50->Blk A b1 [nI 0,nI 0,nI 0,.string ⟨#[]⟩,.slice none 0 0] za->
   vcall Zu #[nI sort] A λt52 O=>vcall qh #[oP b 0,t52] O λt53 Q=>yj za [(0,(nI 20)),(1,nI sort),(2,t53)] Q λt54 R=>zT za (oP b1 0) t54 R λ_ S=>vlv za (oP b1 0) S λN T=>K N T:=by
  intro A p3 hs W a2 U;refine l1Two_spec oM ?_;have a7:2^sort.toNat<=2^4:=Ge oM oM;refine pick_spec W oM oM λw4 k E a3 f _ _=>?_;simp only[push_cast];exact o _ _ _ _ (hs.trans E) f oM (U.same E (by have:=n.size;omega)) (QZ 20 sort k _) (gJ _)
 refine vloop_up ds.length (λi u w'=> ∃L,u=[nI i]/\Same (· =b) w w'/\RdR F w' b v xs L/\L<=p+1+i/\Blk w' b1 [nI 0,nI 0,nI 0,.string ⟨#[]⟩,.slice none 0 0] za/\DclsR D w' dv ds)
  ⟨p+1,rfl,(Same.of_ext n).trans B,X,oM,h2,J.same B λx y _ e=>hD x y e⟩ ?_
 rintro i _ _ A C hi ⟨L,rfl,l,I,a2,G,Y⟩ hC;refine zo (λu w'=>u=[]/\i<ds.length/\Same (· =b) w w'/\RdR F w' b v xs (L+1)/\Blk w' b1 [nI 0,nI 0,nI 0,.string ⟨#[]⟩,.slice none 0 0] za/\DclsR D w' dv ds) (λC' V=>?_) ?_
 ·simp only[push_cast];refine zb (λc=>?_) (λc=>?_)
  ·refine pick_spec I oM oM λw4 k d a3 f _ _=>?_;have m:=G.same d oM;simp only[push_cast];refine zb (λe=>?_) (λe=>?_)
   ·exact V _ _ ⟨rfl,oM,l.trans d,f,m,Y.same d λx y _ e=>hD x y e⟩
   ·exact z _ _ (l.trans d) f oM m
  ·exact z _ _ l I oM G
 ·rintro u g w4 ⟨rfl,a6,d,f,m,s⟩;have a4:at_<ds.length:=by have:=hk oM;omega
  have e1:IntKind.i64.wrap ((at_:Int)+(i:Int))=((at_+i:Nat):Int):=by rw[zj oM oM];omega
  have eR:∀(w:World) (K:oK),xx .rem zE false (nI ((at_+i:Nat):Int)) (nI (ds.length:Int)) w K=K (nI (((at_+i)%ds.length:Nat):Int)) w:=λw K=>by rw[qY oM];rfl
  have hm:(at_+i)%ds.length<ds.length:=pj _ oM;obtain⟨q,hq⟩:∃q,q=at_+i:=⟨_,rfl⟩;rw[<-hq] at e1 eR hm;obtain⟨j,hj⟩:∃j,j=q%ds.length:=⟨_,rfl⟩;rw[<-hj] at eR hm;simp(disch:=first|(simp only[push_cast])|omega) only[push_cast,e1,eR,s.iaddr]
  try simp(disch:=first|(simp only[push_cast])|omega) only[push_cast,s.load0,s.load1]
  refine zb (λc=>?_) (λc=>?_)
  ·exact o _ _ _ _ d f oM m (QZ 21 0 0 _) (gJ _)
  ·rw[inc64' oM];exact hC oM _ _ ⟨L+1,rfl,d,f,oM,m,s⟩
end
section
variable {w:World} {K:oK} {F D G:Nat->Prop}
theorem kidsL {css:List (List Value)} {ts:List M.Tm} (l:css.length=ts.length) (n:css.length<=100) (h:∀i,i<ts.length->TmR G w (css.getD i []) (ts.getD i default))
  (j:∀w' a,Ext w w'->w'.heap.size=w.heap.size+1->TmsR (λz=>G z\/z=w.heap.size) w' (.slice a css.length css.length) ts->K (.slice a css.length css.length) w'):
  vbuildS zl (css.map λc=>Value.agg ⟨c⟩).length ((css.map λc=>Value.agg ⟨c⟩).zipIdx.map λp=>(p.2,p.1)) w K:=by
 have d:∀u,u∈css->u.length=5:=λu hu=>by
  obtain⟨i,hi,rfl⟩:=gr hu;have:=zV (h i oM);rwa[q0,gi hi] at this
 refine vbuildS_row (us:=css) (k:=5) xq xC zp (by rw[G6];rfl) d (by rw[X0];omega) λb w' o he hs g=>?_;rw[X0];refine j w' _ he hs ⟨css,?_,l,λi hi=>((h i hi).ext he).weaken λx f _=> .inl f⟩;have m:Own 0 5 zl w' (.slice (some ⟨b,0,none⟩) css.length css.length) css:=Blk.ownk (by rw[qH];exact g) d rfl oM;exact m.sl.weaken λx f _=> .inr (by have e:x=b:=(K3 f).symm;omega)
theorem zv0 {v0:Value} {t0:M.Tm} (b:TermR G w v0 t0) (c:∀w' a,Ext w w'->w'.heap.size=w.heap.size+1->TmsR (λz=>G z\/z=w.heap.size) w' (.slice a 1 1) [t0]->K (.slice a 1 1) w'):vbuildS zl 1 [(0,v0)] w K:=by
 obtain⟨c0,rfl,d⟩:=b.cells;refine kidsL (css:=[c0]) (ts:=[t0]) rfl (by simp) (λi hi=>?_) c;have:i=0:=by simpa using hi
 subst this;exact d
theorem kids2 {v0 v1:Value} {t0 t1:M.Tm} (b:TermR G w v0 t0) (c:TermR G w v1 t1) (d:∀w' a,Ext w w'->w'.heap.size=w.heap.size+1->TmsR (λz=>G z\/z=w.heap.size) w' (.slice a 2 2) [t0,t1]->K (.slice a 2 2) w'):vbuildS zl 2 [(0,v0),(1,v1)] w K:=by
 obtain⟨c0,rfl,e⟩:=b.cells;obtain⟨c1,rfl,f⟩:=c.cells;refine kidsL (css:=[c0,c1]) (ts:=[t0,t1]) rfl (by simp) (λi hi=>?_) d
 match i,hi with
 |0,_=>exact e
 |1,_=>exact f
theorem kids3 {v0 v1 v2:Value} {t0 t1 t2:M.Tm} (b:TermR G w v0 t0) (c:TermR G w v1 t1) (d:TermR G w v2 t2) (e:∀w' a,Ext w w'->w'.heap.size=w.heap.size+1->TmsR (λz=>G z\/z=w.heap.size) w' (.slice a 3 3) [t0,t1,t2]->K (.slice a 3 3) w'):vbuildS zl 3 [(0,v0),(1,v1),(2,v2)] w K:=by
 obtain⟨c0,rfl,f⟩:=b.cells;obtain⟨c1,rfl,g⟩:=c.cells;obtain⟨c2,rfl,h⟩:=d.cells;refine kidsL (css:=[c0,c1,c2]) (ts:=[t0,t1,t2]) rfl (by simp) (λi hi=>?_) e
 match i,hi with
 |0,_=>exact f
 |1,_=>exact g
 |2,_=>exact h
abbrev Jl:List Value:=[nI 0,nI 0,nI 0,.string ⟨#[]⟩,.slice none 0 0]
structure Dw (F D:Nat->Prop) (w0:World) (b b1:Nat) (v dv:Value) (xs:List Nat) (ds:List M.Dcl) (w:World) (p:Nat):Prop where
 same:Same (· =b) w0 w
 rd:RdR F w b v xs p
 var:Blk w b1 Jl za
 dcl:DclsR D w dv ds
 old:b<w0.heap.size
 new:b1=w0.heap.size
 size:b1<w.heap.size
 hF:∀x,F x->x<w0.heap.size
 hD:∀x,D x->x≠b
 hD1:∀x,D x->x<w0.heap.size
section
variable {w0:World} {b b1 p:Nat} {v dv:Value} {xs:List Nat} {ds:List M.Dcl}
theorem Dw.step {w1:World} {p1:Nat} (h:Dw F D w0 b b1 v dv xs ds w p) (hs:Same (· =b) w w1) (a:RdR F w1 b v xs p1):Dw F D w0 b b1 v dv xs ds w1 p1:=
 ⟨h.same.trans hs,a,h.var.same hs (by have:=h.old;have:=h.new;omega),h.dcl.same hs λx c _ e=>h.hD x c e,h.old,h.new,gE h.size hs.size,h.hF,h.hD,h.hD1⟩
theorem Dw.ext {w1:World} (h:Dw F D w0 b b1 v dv xs ds w p) (he:Ext w w1):Dw F D w0 b b1 v dv xs ds w1 p:=h.step (Same.of_ext he) (h.rd.ext he)
theorem Dw.begin (h:RdR F w b v xs p) (hF:∀x,F x->x<w.heap.size) (f:DclsR D w dv ds) (hD:∀x,D x->x≠b) (hD1:∀x,D x->x<w.heap.size) {K:oK} (e:∀w1,Dw F D w b w.heap.size v dv xs ds w1 p->K (oP w.heap.size 0) w1):qj za w K:=by
 refine zi zp λb1 w1 c a g d=>?_;subst c;exact e w1 ⟨Same.of_ext a,h.ext a,d,f.ext a,h.blk.lt,rfl,oM,hF,hD,hD1⟩
abbrev Nw (b1:Nat) (x:Nat):Prop:=b1<x
theorem Dw.fin {c:Nat} {cs:List Value} {t:M.Tm} (h:Dw F D w0 b b1 v dv xs ds w p) {p0:Nat} (j:p<=p0+c) (k:TmR (Nw b1) w cs t) (f:t.ks.length<=3) (i:yn0 K F w0 b p0 c v xs):
  zT za (oP b1 0) (.agg ⟨cs⟩) w λ_ w1=>vlv za (oP b1 0) w1 λr w2=>K r w2:=by
 have:=h.old;have:=h.new;refine xD h.var rfl k (λx d e=>by subst e;exact Nat.lt_irrefl _ d) λn a m g=>?_;exact i n p _ t (same_new h.same a oM) (h.rd.new a oM λx d e=>by have:=h.hF x d;omega) j (g.weaken λx d _=>by have l:b1<x:=d;omega) f
theorem Dw.pick {n:Int} (h:Dw F D w0 b b1 v dv xs ds w p) (f:n<=1099511627776) (g:p<1099511627776) (d:∀w1 (k:Nat),Dw F D w0 b b1 v dv xs ds w1 (p+1)->Same (· =b) w w1->(1<=n->(k:Int)<n)->(n<1->k=0)->K (nI k) w1):vcall qh #[oP b 0,nI n] w K:=
 pick_spec h.rd f g λw1 k hs i e a c=>d w1 k (h.step hs e) hs a c
theorem Dw.sub {g:Nat} {args:Array Value} {c:Nat} (h:Dw F D w0 b b1 v dv xs ds w p) (i:∀d,yn0 d F w b p c v xs->vcall g args w d) (e:∀w1 p1 tv t,Dw F D w0 b b1 v dv xs ds w1 p1->Same (· =b) w w1->p1<=p+c->TermR (Nw b1) w1 tv t->t.ks.length<=3->K tv w1):vcall g args w K:=
 i K λw1 p1 tv t hs f j k a=>e w1 p1 tv t (h.step hs f) hs j (k.weaken λx l _=>by have:=h.size;show b1<x;omega) a
theorem Dw.keep {tv:Value} {t:M.Tm} {w1:World} (h:Dw F D w0 b b1 v dv xs ds w p) (a:TermR (Nw b1) w tv t) (hs:Same (· =b) w w1):TermR (Nw b1) w1 tv t:=
 a.same hs λx c _ e=>by subst e;have:=h.old;have:=h.new;have d:b1<x:=c;omega
theorem Dw.tms {kv:Value} {ks:List M.Tm} (h:Dw F D w0 b b1 v dv xs ds w p) {w1:World} (c:TmsR (λz=>Nw b1 z\/z=w.heap.size) w1 kv ks):TmsR (Nw b1) w1 kv ks:=
 c.weaken λx a _=>by
  rcases a with a|a
  ·exact a
  ·have:=h.size;show b1<x;omega
end
def J9 (d:Nat):Nat:=100*4^d
theorem cost_succ (d:Nat):J9 (d+1)=4*J9 d:=by unfold J9;rw[Nat.pow_succ];omega
theorem cost_ge (d:Nat):100<=J9 d:=by
 have:1<=4^d:=PG oM;unfold J9;omega
def XU (d:Nat):Prop:=∀{w:World} {K:oK} {F D:Nat->Prop} {b p:Nat} {v dv:Value} {xs:List Nat} {ds:List M.Dcl} {sort deep:Int},RdR F w b v xs p->(∀x,F x->x<w.heap.size)->DclsR D w dv ds->(∀x,D x->x≠b)->(∀x,D x->x<w.heap.size)->Dok ds->0<=sort->sort<=4-> -100<=deep->deep<=d->
 p+J9 d<1099511627776->yn0 K F w b p (J9 d) v xs->vcall Z1 #[oP b 0,dv,nI sort,nI deep] w K
theorem num_draw {w0:World} {b b1 p:Nat} {v dv:Value} {xs:List Nat} {ds:List M.Dcl} {ns:List Int} (h:Dw F D w0 b b1 v dv xs ds w p) (a:ns≠[]) (c:ns.length<=1000) (l:p<1099511627776) (j:∀w1 m,Dw F D w0 b b1 v dv xs ds w1 (p+1)->Same (· =b) w w1->m∈ns->K (nI m) w1):
  vbuildS zh ns.length ((ns.map λx=>nI x).zipIdx.map λp=>(p.2,p.1)) w λs w1=>vcall xI #[oP b 0,s] w1 K:=by
 have:=vbuildS_row1 (w:=w) (K:=λs w1=>vcall xI #[oP b 0,s] w1 K) (t:=zh) (xs:=ns.map λx=>nI x) x7 yU xo (λx d=>by obtain⟨y,_,rfl⟩:=gp.1 d;rfl) (by simp;omega) λb2 w' o f q i=>by
  have n:Ints (· =b2) w' (.slice (some ⟨b2,0,none⟩) (ns.map λx=>nI x).length (ns.map λx=>nI x).length) ns:=i.sl1 rfl (by simp;omega);have g:=h.ext f;have:=h.rd.blk.lt;refine num_spec g.rd n a c l (λx d e=>by subst d;omega) λw2 m hs r k hm=>?_;exact j w2 m (g.step hs k) ((Same.of_ext f).trans hs) hm
 rwa[X0] at this
theorem l2Asks_spec {d:Nat} (hT:XU d) {b p:Nat} {v dv:Value} {xs:List Nat} {ds:List M.Dcl} {deep:Int} (h:RdR F w b v xs p) (hF:∀x,F x->x<w.heap.size) (hd:DclsR D w dv ds) (hD:∀x,D x->x≠b) (hD1:∀x,D x->x<w.heap.size) (G:Dok ds) (aa:1<=deep) (ab:deep<=d+1) (ac:d<=9)
  (hp:p+2*J9 d+10<1099511627776) (U:yn0 K F w b p (2*J9 d+10) v xs):vcall Wv #[oP b 0,dv,nI deep] w K:=by
 refine zf {cuts:=[(40971,[7])]} Tryz.func113 ?_;refine Dw.begin h hF hd hD hD1 λw1 h1=>?_;have hg:=h1.new;have e1:IntKind.i64.wrap (deep-1)=deep-1:=zj oM oM;have f:∀{w2:World} {p2:Nat} {s:Int} {V:oK},Dw F D w b w.heap.size v dv xs ds w2 p2->0<=s->s<=4->p2+J9 d<1099511627776->(∀B R tv t,Dw F D w b w.heap.size v dv xs ds B R->Same (· =b) w2 B->R<=p2+J9 d->TermR (Nw w.heap.size) B tv t->t.ks.length<=3->V tv B)->
   vcall Z1 #[oP b 0,dv,nI s,nI (deep-1)] w2 V:=λr y i a4 X=>
  r.sub (λV hk=>hT r.rd (λx hx=>gE (hF x hx) r.same.size) r.dcl hD (λx hx=>gE (hD1 x hx) r.same.size) G y i oM oM a4 hk) X
 refine h1.pick oM oM λw2 k r ag hk _=>?_;simp only[push_cast,e1];refine zb (λa=>?_) (λa=>?_)
 ·refine f r oM oM oM λB R I t0 o H O l _=>?_;refine zv0 l λJ sa Y aj j=>?_;have n:=o.ext Y;simp only[push_cast];exact n.fin (p0:=p) oM (TmR.of (t:= .mk 25 0 0 _ [t0]) (o.tms j)) (Gf rfl) U
 refine zb (λa1=>?_) (λa1=>?_)
 ·refine f r oM oM oM λB R I t0 o H O l _=>?_;refine f o oM oM oM λJ S T t1 n i Q q _=>?_;refine kids2 (o.keep l i) q λw5 sa E a7 j=>?_;have z:=n.ext E;simp only[push_cast];exact z.fin (p0:=p) oM (TmR.of (t:= .mk 26 0 0 _ [t0,t1]) (n.tms j)) (Gf rfl) U
 refine zb (λa2=>?_) (λa2=>?_)
 ·refine f r oM oM oM λB R I t0 o H O l _=>?_;refine f o oM oM oM λJ S T t1 n i Q q _=>?_;refine kids2 (o.keep l i) q λw5 sa E a7 j=>?_;have z:=n.ext E;simp only[push_cast];exact z.fin (p0:=p) oM (TmR.of (t:= .mk 27 0 0 _ [t0,t1]) (n.tms j)) (Gf rfl) U
 refine r.pick oM oM λB k3 o H a0 _=>?_;have a8:=a0 oM;simp only[push_cast];rw[zj (x:=1+(k3:Int)) oM oM];refine zo (λu J=> ∃s S,u=[nI s]/\0<=s/\s<=4/\S<=p+4/\Dw F D w b w.heap.size v dv xs ds J S) (λC W=>?_) ?_
 ·have hlen:=G.1;have L:=o.dcl;simp only[push_cast,L.len];refine zb (λc=>?_) (λc=>?_)
  ·refine o.pick oM oM λJ k4 n i ad _=>?_;have N:=n.dcl;simp only[push_cast];refine zb (λe=>?_) (λe=>?_)
   ·try simp only[push_cast,N.len]
    refine n.pick oM oM λw5 k5 z a5 a3 _=>?_;have a9:=a3 oM;have A:=z.dcl;simp(disch:=first|(simp only[push_cast])|omega) only[push_cast,A.iaddr]
    try simp(disch:=first|(simp only[push_cast])|omega) only[push_cast,A.load1]
    have ai:1<=(ds.getD k5 (M.nada,0)).2/\(ds.getD k5 (M.nada,0)).2<=4/\_:=G.2 k5 oM;exact W _ _ ⟨_,_,rfl,oM,oM,oM,z⟩
   ·exact W _ _ ⟨_,_,rfl,oM,oM,oM,n⟩
  ·exact W _ _ ⟨_,_,rfl,oM,oM,oM,o⟩
 ·rintro u g J ⟨s,S,rfl,y,i,Q,n⟩;refine num_draw (ns:=[15,16,17,15]) n (by simp) dC oM λw5 m z a5 hm=>?_;simp only[push_cast,e1];refine f z y i oM λw6 p6 I t0 h6 ah ae l _=>?_;refine f h6 y i oM λw7 p7 T t1 h7 a6 af q _=>?_;refine kids2 (h6.keep l a6) q λw8 sa Z ak j=>?_;have h8:=h7.ext Z;simp only[push_cast];exact h8.fin (p0:=p) oM (TmR.of (t:= .mk m 0 0 _ [t0,t1]) (h7.tms j)) (Gf rfl) U
end
section
variable {w:World} {K:oK} {F F' D G:Nat->Prop}
theorem l2Term_step {d:Nat} (an:d<=9) (hT:∀e,e<d->XU e):XU d:=by
 intro w K F D b p v dv xs ds sort deep h hF hd hD hD1 Y l m ap ao hp S;refine zf {cuts:=[(8195,[]),(53263,[]),(53261,[89])]} Tryz.func84 ?_;refine Dw.begin h hF hd hD hD1 λw1 h1=>?_;have a9:=cost_ge d;have G:∀{w2:World} {p2:Nat},Dw F D w b w.heap.size v dv xs ds w2 p2->p2<=p+1->J9 d=100\/0<d->p2+100<=p+J9 d\/d=0->(d=0->p2=p)->
   vcall YD #[oP b 0,dv,nI sort] w2 λt27 ak=>zT za (oP w.heap.size 0) t27 ak λ_ al=>vlv za (oP w.heap.size 0) al λr8 am=>K r8 am:=by
  intro w2 p2 n Z _ T hz;refine n.sub (c:=100) (λK' O=>l2Leafy_spec n.rd (λx M=>gE (hF x M) n.same.size) n.dcl hD Y l m (by rcases T with T|T<;>omega) O) λR p3 tv t y ag ar ht X=>?_;obtain⟨cs,rfl,U⟩:=ht.cells;refine y.fin (p0:=p) (c:=J9 d) ?_ U X S;rcases T with T|T
  ·omega
  ·have:=hz T;omega
 refine zo (λu w'=> ∃p',u=[]/\Dw F D w b w.heap.size v dv xs ds w' p'/\p'<=p+1/\1<=deep) (λC hC=>?_) ?_
 ·simp only[push_cast];refine zb (λa=>?_) (λa=>?_)
  ·refine G h1 oM (by
    by_cases h0:d=0
    ·subst h0;left;rfl
    ·right;omega) ?_ (λ_=>rfl)
   by_cases h0:d=0
   ·exact .inr h0
   ·left;omega
  ·have V:1<=d:=oM;have aa:J9 d=4*J9 (d-1):=by
    obtain⟨e,rfl⟩:∃e,d=e+1:=⟨d-1,oM⟩;exact cost_succ e
   have a4:=cost_ge (d-1);refine zb (λc=>?_) (λc=>?_)
   ·refine h1.pick oM oM λw2 k n av O _=>?_;simp only[push_cast];refine zb (λe=>?_) (λe=>?_)
    ·exact G n oM (.inr oM) (.inl oM) oM
    ·exact hC _ _ ⟨p+1,rfl,n,oM,oM⟩
   ·exact hC _ _ ⟨p,rfl,h1,oM,oM⟩
 rintro u g w2 ⟨p2,rfl,n,Z,ac⟩;have V:1<=d:=oM
 obtain⟨J,ab⟩:∃J,d=J+1:=⟨d-1,oM⟩;have aa:J9 d=4*J9 J:=by rw[ab,cost_succ]
 have a4:=cost_ge J;have e1:IntKind.i64.wrap (deep-1)=deep-1:=zj oM oM;have f:∀{w2:World} {p2:Nat} {s:Int} {K':oK},Dw F D w b w.heap.size v dv xs ds w2 p2->0<=s->s<=4->p2+J9 J<1099511627776->(∀R p3 tv t,Dw F D w b w.heap.size v dv xs ds R p3->Same (· =b) w2 R->p3<=p2+J9 J->TermR (Nw w.heap.size) R tv t->t.ks.length<=3->K' tv R)->
   vcall Z1 #[oP b 0,dv,nI s,nI (deep-1)] w2 K':=λn l m Z a8=>
  n.sub (λK' O=>hT J oM n.rd (λx M=>gE (hF x M) n.same.size) n.dcl hD (λx M=>gE (hD1 x M) n.same.size) Y l m oM oM Z O) a8
 refine n.pick oM oM λR k y ag O _=>?_;have aq:=O oM;simp only[push_cast,e1];refine zb (λa=>?_) (λa=>?_)
 ·refine f y oM oM oM λw4 p4 N t0 h4 Q ae j _=>?_;refine f h4 l m oM λw5 p5 a7 t1 z H au I _=>?_;refine f z l m oM λw6 p6 aw t2 q r L ah _=>?_;refine kids3 (z.keep (h4.keep j H) r) (z.keep I r) ah λw7 sa B a6 i=>?_;have A:=q.ext B;simp only[push_cast];exact A.fin (p0:=p) oM (TmR.of (t:= .mk 23 0 0 _ [t0,t1,t2]) (q.tms i)) (Gf rfl) S
 refine zb (λa0=>?_) (λa0=>?_)
 ·refine y.sub (c:=2*J9 J+10) (λK' O=>l2Asks_spec (hT J oM) y.rd (λx M=>gE (hF x M) y.same.size) y.dcl hD (λx M=>gE (hD1 x M) y.same.size) Y ac oM oM oM O) λw4 p4 tv t h4 Q ae ht X=>?_;obtain⟨cs,rfl,U⟩:=ht.cells;exact h4.fin (p0:=p) oM U X S
 refine zb (λa1=>?_) (λa1=>?_)
 ·rw[zj (x:=5-sort) oM oM];refine y.pick oM oM λw4 k4 h4 Q ad a5=>?_;have ai:sort+(k4:Int)<=4:=by
   by_cases hn:1<=5-sort
   ·have:=ad hn;omega
   ·have:=a5 oM;omega
  simp only[push_cast];rw[zj (x:=sort+(k4:Int)) oM oM,zj (x:=sort+(k4:Int)-sort) oM oM,zj (x:=sort+(k4:Int)-sort+1) oM oM];refine h4.pick oM oM λw5 k5 z H o _=>?_;have E:=o oM;simp only[push_cast];refine f z oM ai oM λw6 p6 N t0 q r L j _=>?_;refine zv0 j λw7 sa B a6 i=>?_;have A:=q.ext B;simp only[push_cast];exact A.fin (p0:=p) oM (TmR.of (t:= .mk 22 _ _ _ [t0]) (q.tms i)) (Gf rfl) S
 refine zo (λu w'=>u=[]/\w'=R) (λC hC=>?_) ?_
 ·refine zo (λu w'=>u=[.bool (decide (k=2/\1<sort))]/\w'=R) (λC' a3=>?_) ?_
  ·try simp only[push_cast]
   refine zb (λc=>?_) (λc=>?_)
   ·refine a3 _ _ ⟨?_,rfl⟩;have c':k=2:=oM;simp only[c',true_and]
   ·exact a3 _ _ ⟨by rw[decide_eq_false oM],rfl⟩
  rintro u g w4 ⟨rfl,rfl⟩;simp only[push_cast];refine zb (λc=>?_) (λc=>?_)
  ·rw[zj (x:=sort-1) oM oM];refine y.pick oM oM λw5 k5 z H o _=>?_;have E:=o oM
   try simp only[push_cast]
   rw[zj (x:=1+(k5:Int)) oM oM];refine f z oM oM oM λw6 p6 N t0 q r L j _=>?_
   try simp only[push_cast]
   rw[zj (x:=sort-(1+(k5:Int))) oM oM];refine f q oM oM oM λw7 p7 a7 t1 A a2 af I _=>?_;refine kids2 (q.keep j a2) I λw8 sa W aj i=>?_;have h8:=A.ext W;simp only[push_cast];exact h8.fin (p0:=p) oM (TmR.of (t:= .mk 14 0 0 _ [t0,t1]) (A.tms i)) (Gf rfl) S
  ·exact hC _ _ ⟨rfl,rfl⟩
 rintro u g w4 ⟨rfl,rfl⟩
 try simp only[push_cast]
 refine zb (λc=>?_) (λc=>?_)
 ·refine y.pick oM oM λw5 k5 z H o _=>?_;have E:=o oM
  try simp only[push_cast]
  rw[zj (x:=1+(k5:Int)) oM oM];refine f z l m oM λw6 p6 N t0 q r L j _=>?_;refine zv0 j λw7 sa B a6 i=>?_;have A:=q.ext B;simp only[push_cast];exact A.fin (p0:=p) oM (TmR.of (t:= .mk _ 0 0 _ [t0]) (q.tms i)) (Gf rfl) S
 ·refine y.pick oM oM λw5 k5 z H o _=>?_;have E:=o oM
  try simp only[push_cast]
  rw[zj (x:=3+(k5:Int)) oM oM];refine f z l m oM λw6 p6 N t0 q r L j _=>?_;refine f q l m oM λw7 p7 a7 t1 A a2 af I _=>?_;refine kids2 (q.keep j a2) I λw8 sa W aj i=>?_;have h8:=A.ext W;simp only[push_cast];exact h8.fin (p0:=p) oM (TmR.of (t:= .mk _ 0 0 _ [t0,t1]) (A.tms i)) (Gf rfl) S
theorem l2Term_spec:∀d,d<=9->XU d:=by
 intro d;induction d using Nat.strongRecOn with
 |_ d b=>intro a;exact l2Term_step a λe he=>b e he oM
theorem dok_sized {ds:List M.Dcl} (h:Dok ds):zO0 ds:=λi hi=>by have:=(h.2 i hi).2.2;omega
theorem l2Some_spec {b p:Nat} {v dv:Value} {xs:List Nat} {ds:List M.Dcl} {sort:Int} (h:RdR F w b v xs p) (hF:∀x,F x->x<w.heap.size) (Z:DclsR D w dv ds) (hD:∀x,D x->x≠b) (hD1:∀x,D x->x<w.heap.size) (k:Dok ds) (r:0<=sort) (s:sort<=4)
  (hp:p+200000<1099511627776) (N:yn0 K F w b p 200000 v xs):vcall Wo #[oP b 0,dv,nI sort] w K:=by
 refine zf {loops:=[(2,[7])]} Tryz.func55 ?_;refine Dw.begin h hF Z hD hD1 λw1 V=>?_;have A:J9 4=25600:=rfl;refine vloop_up 4 (λi u w'=> ∃S,u=[nI (4-(i:Int))]/\Dw F D w b w.heap.size v dv xs ds w' S/\S<=p+25600*i) ⟨p,rfl,V,oM⟩ ?_;rintro i _ _ w2 C hi ⟨p2,rfl,e,a0⟩ X;have hold:=e.old;have Q:=e.new;simp only[push_cast];refine zb (λa=>?_) (λa=>?_)
 ·refine e.sub (c:=J9 4) (λU B=>l2Term_spec 4 oM e.rd (λx l=>gE (hF x l) e.same.size) e.dcl hD (λx l=>gE (hD1 x l) e.same.size) k r s oM oM oM B) λJ T tv t z G E H j=>?_;obtain⟨cs,rfl,d⟩:=H.cells;have o:=d.weaken (F':=λx=>Nw w.heap.size x/\x<J.heap.size) λx l hl=>⟨l,hl⟩;refine zi zp λb2 w4 Y q R W=>?_;refine stTerm W rfl (o.ext q) λw5 I _ L=>?_;have f:Ext J w5:=Ext.then q I λy hy=>by subst hy;omega
  have O:aggB za cs.length=true:=by rw[zV d];exact zc
  rw[L.ldAgg (t:=za) O];have m:=z.ext f;refine spec_TermSort_spec (dok_sized k) m.dcl (d.ext f).term λw6 g=>?_;have n:=m.ext g;simp only[push_cast];refine zb (λc=>?_) (λc=>?_)
  ·rw[(L.ext g).ldAgg (t:=za) O];exact n.fin (p0:=p) oM ((d.ext f).ext g) j N
  ·rw[zj oM oM,show 4-(i:Int)-1=4-((i+1:Nat):Int) by omega];exact X oM _ _ ⟨T,rfl,n,oM⟩
 ·refine e.sub (c:=100) (λU B=>l2Leafy_spec e.rd (λx l=>gE (hF x l) e.same.size) e.dcl hD k r s oM B) λJ T tv t z G E H j=>?_;obtain⟨cs,rfl,d⟩:=H.cells;exact z.fin (p0:=p) oM d j N
end
section
variable {w:World} {K:oK} {F F' D G:Nat->Prop}
theorem strof_spec {b p:Nat} {v vs:Value} {xs:List Nat} {ss:List ByteArray} (h:RdR F w b v xs p) (g:Vals F' w vs (ss.map .string)) (d:ss≠[]) (n:ss.length<=1000) (m:p<1099511627776) (c:∀x,F' x->x≠b)
  (j:∀w' s,Same (· =b) w w'->w'.heap.size=w.heap.size->RdR F w' b v xs (p+1)->s∈ss->K (.string s) w'):vcall jK #[oP b 0,vs] w K:=by
 refine zf {} Tryz.func86 ?_;have f:=Gx.2 d;have t:(ss.map Value.string).length=ss.length:=X0 _;simp only[push_cast,g.len];refine pick_spec h oM m λw1 k hs q l i _=>?_;have r:=i oM;have a:=g.same hs λx o _ e=>c x o e;rw[a.iaddr rK oM oM,gm,a.load rK oM,M.getD_map _ oM _ M.nada];exact j w1 _ hs q l (M.getD_mem oM _)
theorem of_lit {b p:Nat} {v:Value} {xs:List Nat} {ss:List ByteArray} (h:RdR F w b v xs p) (hF:∀x,F x->x<w.heap.size) (a:ss≠[]) (c:ss.length<=1000) (k:p<1099511627776) (i:∀w1 s,Same (· =b) w w1->RdR F w1 b v xs (p+1)->s∈ss->K (.string s) w1):
  vbuildS yE ss.length ((ss.map Value.string).zipIdx.map λp=>(p.2,p.1)) w λs w1=>vcall jK #[oP b 0,s] w1 K:=by
 have:=vbuildS_row1 (w:=w) (K:=λs w1=>vcall jK #[oP b 0,s] w1 K) (t:=yE) (xs:=ss.map Value.string) kI rK kH (λx d=>by obtain⟨y,_,rfl⟩:=gp.1 d;rfl) (by rw[X0];omega) λb2 w' n f o g=>by
  have l:Vals (· =b2) w' (.slice (some ⟨b2,0,none⟩) (ss.map Value.string).length (ss.map Value.string).length) (ss.map Value.string):=g.sl1 rfl (by rw[X0];omega);have:=h.blk.lt;refine strof_spec (h.ext f) l a c k (λx d e=>by subst d;omega) λw2 m hs q j hm=>?_;exact i w2 m ((Same.of_ext f).trans hs) j hm
 rwa[X0] at this
theorem num_lit {b p:Nat} {v:Value} {xs:List Nat} {ns:List Int} (h:RdR F w b v xs p) (a:ns≠[]) (c:ns.length<=1000) (k:p<1099511627776) (i:∀w1 m,Same (· =b) w w1->RdR F w1 b v xs (p+1)->m∈ns->K (nI m) w1):
  vbuildS zh ns.length ((ns.map λx=>nI x).zipIdx.map λp=>(p.2,p.1)) w λs w1=>vcall xI #[oP b 0,s] w1 K:=by
 have:=vbuildS_row1 (w:=w) (K:=λs w1=>vcall xI #[oP b 0,s] w1 K) (t:=zh) (xs:=ns.map λx=>nI x) x7 yU xo (λx d=>by obtain⟨y,_,rfl⟩:=gp.1 d;rfl) (by simp;omega) λb2 w' n f o g=>by
  have l:Ints (· =b2) w' (.slice (some ⟨b2,0,none⟩) (ns.map λx=>nI x).length (ns.map λx=>nI x).length) ns:=g.sl1 rfl (by simp;omega);have:=h.blk.lt;refine num_spec (h.ext f) l a c k (λx d e=>by subst d;omega) λw2 m hs q j hm=>?_;exact i w2 m ((Same.of_ext f).trans hs) j hm
 rwa[X0] at this
def Dsm (ds:List M.Dcl):Prop:=ds.length<=7/\∀i,i<ds.length->(ds.getD i QO).1.size<=5
theorem qI0 {ds:List M.Dcl} {k j:Nat} {d:M.Dcl} (a:k<ds.length):(ds.set k d).getD j QO=if k=j then d else ds.getD j QO:=by
 rw[q0,PH];split
 ·rename_i e;rfl
 ·rw[<-q0]
theorem q90 {ds:List M.Dcl} {k:Nat} {d:M.Dcl} (c:List Value) (a:c=[Value.string d.1,nI d.2]):(ds.map λd=>[Value.string d.1,nI d.2]).set k c=(ds.set k d).map λd=>[Value.string d.1,nI d.2]:=by
 rw[List.map_set,a]
theorem zE0 {b:Nat} (h:Blk w b [] yP):OwnD w (.slice (some ⟨b,0,none⟩) 0 0) []:=Blk.ownk (css:=[]) (by rw[XL];exact h) (by simp) rfl dC
abbrev Kr (ds:List M.Dcl):List (List Value):=ds.map λd=>[Value.string d.1,nI d.2]
theorem one_cellsD {ds:List M.Dcl}:∀y,y∈Kr ds->∀c,c∈y->c.oneCell'=true:=λy b c a=>by
 obtain⟨d,_,rfl⟩:=gp.1 b;simp only[gd,gn,or_false] at a;rcases a with rfl|rfl<;>rfl
def Dsn (n:Nat) (ds:List M.Dcl):Prop:=ds.length<=n/\∀i,i<ds.length->(ds.getD i QO).1.size<=5
theorem dsn_sized {n:Nat} {ds:List M.Dcl} (h:Dsn n ds):zO0 ds:=λi hi=>by have:=h.2 i hi;omega
theorem dsn_up {n:Nat} {ds:List M.Dcl} (h:Dsn n ds):Dsn (n+2) ds:=⟨by have:=h.1;omega,h.2⟩
theorem dok_dsn {ds:List M.Dcl} (h:Dok ds):Dsn 5 ds:=⟨h.1,λi hi=>by have:=(h.2 i hi).2.2;omega⟩
theorem l2Spoil_spec2 {n b p:Nat} {v dv:Value} {xs:List Nat} {ds:List M.Dcl} (h:RdR F w b v xs p) (hF:∀x,F x->x<w.heap.size) (hd:DclsR D w dv ds) (hD:∀x,D x->x≠b) (hD1:∀x,D x->x<w.heap.size) (u:Dsn n ds) (aj:n<=100) (hp:p+10<1099511627776)
  (hK:∀w' p' W V,Same (· =b) w w'->RdR F w' b v xs p'->p'<=p+10->DclsR (λx=>w.heap.size<=x) w' W V->Dsn (n+2) V->K W w'):vcall YC #[oP b 0,dv] w K:=by
 refine zf {} Tryz.func56 ?_;have lb:=h.blk.lt;have hlen:=u.1;refine vbuildS_row (xs:=[]) (us:=[]) (k:=2) j8 jG xp rfl (by simp) dC λb1 w1 ar E aw h1=>?_;have am:=zE0 h1;refine vappend (F:=D) (ys:=Kr ds) ZN dC am (show Sl D w1 2 dv (Kr ds) from hd.ext E) one_cellsD (gJ _) (by simp;omega) (by simp;omega) λov w2 J aa ak=>?_;replace J:OwnD w2 ov ds:=J;have ax:=E.size;have ay:=aa.size;have H:Same (· =b1) w1 w2:=aa.mono λx _ g=>(K3 g).symm;have B:∀x,ov.ownBlock=some x->w.heap.size<=x:=λx g=>by
  rcases ak x g with g|g
  ·have e:x=b1:=(K3 g).symm;omega
  ·omega
 have a5:Same (· =b) w w2:=same_new (Same.of_ext E) H oM;have X:RdR F w2 b v xs p:=(h.ext E).new H oM λx g e=>by have:=hF x g;omega
 have ah:DclsR D w2 dv ds:=(hd.ext E).same H λx g _ e=>by have:=hD1 x g;omega
 have G:∀U p3 I,Same (· =b) w U->RdR F U b v xs p3->p3<=p+10->OwnD U ov I->Dsn (n+2) I->K ov U:=λU p3 I hs hR an ho ai=>hK U p3 ov I hs hR an (ho.dcls.weaken λx g _=>B x g) ai;simp only[push_cast,ah.len];refine zb (λa=>?_) (λa=>?_)
 ·exact G _ _ _ a5 X oM J (dsn_up u)
 refine pick_spec X oM oM λU k a6 az ae hk _=>?_;have au:=hk oM;refine pick_spec ae oM oM λw4 c a7 b0 C hc _=>?_;have L:OwnD w4 ov ds:=(J.same a6 λx g e=>by have:=B x g;omega).same a7 λx g e=>by have:=B x g;omega
 have f:=(a5.trans a6).trans a7;have ab:=f.size;have ad:∀x,F x->x<w4.heap.size:=λx g=>gE (hF x g) ab;have t:∀{A:World} {p5:Nat} {d:M.Dcl} {x:Value} {j:Nat} {e:TypeId},OwnD A ov ds->Same (· =b) w A->RdR F A b v xs p5->p5<=p+10->x.cells= #[x]->x.oneCell'=true->xV e 1=true->j<2->([Value.string (ds.getD k QO).1,nI (ds.getD k QO).2].set j x)=[Value.string d.1,nI d.2]->d.1.size<=5->
   zT e (.pointer (some ((eaddr ov 2 k).add j))) x A λ_ Q=>K ov Q:=by
  intro A p5 d x j e ho hs hR ao ap aq hz hj a9 T;refine Own.stCell ho ap aq hz (by rw[X0];omega) hj λQ N o _=>?_;have hg:(Kr ds).getD k []=[Value.string (ds.getD k QO).1,nI (ds.getD k QO).2]:=Jj oM;rw[show(ds.map λd=>[Value.string d.1,nI d.2]).getD k []=_ from hg,a9,q90 (d:=d) _ rfl] at N;have a8:Same (· =b) w Q:=⟨o.os.trans hs.os,o.tape.trans hs.tape,o.output.trans hs.output,gG hs.size o.size,λy O S=>by
   rw[o.block y (gE O hs.size) (λe=>by have:=B y e;omega)];exact hs.block y O S⟩
  refine G Q p5 _ a8 (hR.same o (λe=>by have:=B b e;omega) λy O _ e=>by have:=B y e;have:=hF y O;omega) ao N ⟨by rw[G5];omega,λi hi=>?_⟩;rw[G5] at hi;rw[qI0 oM];split
  ·exact T
  ·have:=u.2 i hi;omega
 have av:=u.2 k oM;simp only[push_cast];refine zb (λa0=>?_) (λa0=>?_)
 ·refine num_lit (ns:=[0,5,-1,4]) C (by simp) dC oM λA m r R hm=>?_;have q:OwnD A ov ds:=L.same r λx g e=>by have:=B x g;omega
  have hi:=q.dcls;simp(disch:=first|(simp only[push_cast])|omega) only[push_cast,hi.iaddr];exact t (d:=((ds.getD k QO).1,m)) (j:=1) q (f.trans r) R oM rfl rfl yU oM rfl (by show(ds.getD k QO).1.size<=5;omega)
 refine zb (λa1=>?_) (λa1=>?_)
 ·refine of_lit (ss:=[⟨#[]⟩,⟨#[116,114,117,101]⟩,⟨#[97,98,99,100,101]⟩,⟨#[65]⟩,⟨#[110,111,116]⟩,⟨#[120]⟩]) C ad (by simp) dC oM λA s r R hm=>?_;have q:OwnD A ov ds:=L.same r λx g e=>by have:=B x g;omega
  have hi:=q.dcls;have T:s.size<=5:=by
   simp only[gd,gn,or_false] at hm;rcases hm with rfl|rfl|rfl|rfl|rfl|rfl<;>decide
  simp(disch:=first|(simp only[push_cast])|omega) only[push_cast,hi.iaddr];exact t (d:=(s,(ds.getD k QO).2)) (j:=0) q (f.trans r) R oM rfl rfl VN oM rfl T
 refine zb (λa2=>?_) (λa2=>?_)
 ·refine vbuildS_row (xs:=[.agg ⟨[.string ⟨#[113]⟩,nI 4]⟩,.agg ⟨[.string ⟨#[112]⟩,nI 1]⟩]) (us:=Kr [(⟨#[113]⟩,4),(⟨#[112]⟩,1)]) (k:=2) j8 jG xp rfl (by simp) dC λb5 A ag l r h5=>?_;have Z:OwnD A (.slice (some ⟨b5,0,none⟩) 2 2) [(⟨#[113]⟩,4),(⟨#[112]⟩,1)]:=Blk.ownk (css:=Kr [(⟨#[113]⟩,4),(⟨#[112]⟩,1)]) (by rw[XL];exact h5) (by simp) rfl dC;refine vappend (ys:=Kr [(⟨#[113]⟩,4),(⟨#[112]⟩,1)]) ZN dC (L.ext l) Z.sl one_cellsD (gJ _) (by simp;omega) (by simp;omega) λac Q N z al=>?_;have b2:=l.size;have o:Same (· =b) w Q:=⟨z.os.trans ((f.trans (Same.of_ext l)).os),z.tape.trans ((f.trans (Same.of_ext l)).tape),z.output.trans ((f.trans (Same.of_ext l)).output),gG (f.trans (Same.of_ext l)).size z.size,λy O S=>by
   rw[z.block y (gE O (f.trans (Same.of_ext l)).size) (λe=>by have:=B y e;omega)];exact(f.trans (Same.of_ext l)).block y O S⟩
  have af:RdR F Q b v xs _:=(C.ext l).same z (λe=>by have:=B b e;omega) λy O _ e=>by have:=B y e;have:=hF y O;omega
  have a4:OwnD Q ac (ds++[(⟨#[113]⟩,4),(⟨#[112]⟩,1)]):=by
   rw[OwnD,gw];exact N
  refine hK Q _ ac _ o af oM (a4.dcls.weaken λx g _=>?_) ⟨by rw[V0];simp;omega,λi hi=>?_⟩
  ·rcases al x g with h|h
   ·exact B x h
   ·omega
  ·rw[V0] at hi;by_cases Y:i<ds.length
   ·rw[q0,gI Y,<-q0];have:=u.2 i Y;omega
   ·rw[q0,gK oM];have:i-ds.length=0\/i-ds.length=1:=by simp at hi;omega
    rcases this with e|e<;>rw[e]<;>decide
 refine zb (λa3=>?_) (λa3=>?_)
 ·refine vbuildS_row (xs:=[]) (us:=[]) (k:=2) j8 jG xp rfl (by simp) dC λb5 A ag l r h5=>?_;have q:=zE0 h5;exact hK A _ _ [] (f.trans (Same.of_ext l)) (C.ext l) oM (q.dcls.weaken λx g _=>by have e:x=b5:=(K3 g).symm;omega) ⟨by simp,λi hi=>by simp at hi⟩
 ·exact G _ _ _ f C oM L (dsn_up u)
theorem l2Spoil_spec {b p:Nat} {v dv:Value} {xs:List Nat} {ds:List M.Dcl} (h:RdR F w b v xs p) (hF:∀x,F x->x<w.heap.size) (g:DclsR D w dv ds) (hD:∀x,D x->x≠b) (hD1:∀x,D x->x<w.heap.size) (d:Dok ds) (i:p+10<1099511627776)
  (f:∀w' e c a,Same (· =b) w w'->RdR F w' b v xs e->e<=p+10->DclsR (λx=>w.heap.size<=x) w' c a->Dsm a->K c w'):vcall YC #[oP b 0,dv] w K:=
 l2Spoil_spec2 h hF g hD hD1 (dok_dsn d) oM i f
end
section
variable {w:World} {K:oK} {F D G:Nat->Prop}
theorem ints_lit {ns:List Int} (e:ns.length<=1000) (d:∀b2 w',b2=w.heap.size->Ext w w'->Ints (· =b2) w' (.slice (some ⟨b2,0,none⟩) ns.length ns.length) ns->K (.slice (some ⟨b2,0,none⟩) ns.length ns.length) w'):vbuildS zh ns.length ((ns.map λx=>nI x).zipIdx.map λp=>(p.2,p.1)) w K:=by
 have:=vbuildS_row1 (w:=w) (K:=K) (t:=zh) (xs:=ns.map λx=>nI x) x7 yU xo (λx f=>by obtain⟨y,_,rfl⟩:=gp.1 f;rfl) (by simp;omega) λb2 w' a b g c=>by
  rw[X0];exact d b2 w' a b (c.sl1 (by simp) oM)
 rwa[X0] at this
theorem l2Bent_spec {b p:Nat} {v tv:Value} {xs:List Nat} {t:M.Tm} (h:RdR F w b v xs p) (hF:∀x,F x->x<w.heap.size) (ht:TermR G w tv t) (hG:∀x,G x->x≠b) (L:∀x,G x->x<w.heap.size) (hp:p+10<1099511627776) (c9:t.ks.length<=1000)
  (hK:∀w' p' bd t',Same (· =b) w w'->RdR F w' b v xs p'->p'<=p+10->TermR (λx=>G x\/w.heap.size<=x) w' bd t'->t'.ks.length<=t.ks.length+1->K bd w'):vcall Wu #[oP b 0,tv] w K:=by
 refine zf {ord:=[oz 6 (oR 8) [(0,[2,3,4]),(1,[2,3,4]),(2,[3])],oz 8 (oR 8) [(0,[2,3,4]),(1,[2,3,4]),(2,[3])]],loops:=[(15,[6])]} Tryz.func57 ?_;have lb:=h.blk.lt;obtain⟨kv,rfl,ax⟩:=ht;refine zk λb1 w1 c3 ar c6 h1=>?_;refine zi zp λb2 w2 c4 ab c7 h2=>?_;have q2:=h1.ext ab;refine vbuildS_row (xs:=[]) (us:=[]) (k:=5) xq xC zp rfl (by simp) dC λb3 w3 c5 a8 c8 h3=>?_;have br:Own 0 5 zl w3 (.slice (some ⟨b3,0,none⟩) 0 0) []:=Blk.ownk (css:=[]) (by rw[qH];exact h3) (by simp) rfl dC;have q3:=q2.ext a8;have r3:=h2.ext a8;have Z:=(ar.trans ab).trans a8;have ay:=ax.ext Z;have bf:=h.ext Z;have ca:=ar.size;have cb:=ab.size;have cc:=a8.size;simp only[push_cast,q3.ld4];obtain⟨css,bt,ap,ao⟩:=ay;have Q:∀y,y∈css->∀c,c∈y->c.oneCell'=true:=λy hy c S=>by
  obtain⟨i,hi,rfl⟩:=gr hy;have hq:=ao i oM;rw[q0,gi hi] at hq;obtain⟨c0,he,ad⟩:=hq.inv;obtain⟨am,al,_⟩:=ad;rw[show css[i]=(some css[i]).getD [] from rfl,he] at S;simp only[gd,gn,or_false] at S;rcases S with rfl|rfl|rfl|rfl|rfl
  ·rfl
  ·rfl
  ·rfl
  ·rfl
  ·exact al.one
 refine vappend (F:=G) qb dC br bt Q (gJ _) (by simp;omega) (by simp;omega) λov w4 ag bb bo=>?_;replace ag:Own 0 5 zl w4 ov css:=ag;have cd:=bb.size;have A:Same (· =b3) w3 w4:=bb.mono λx _ d=>(K3 d).symm;have hn:∀x,ov.ownBlock=some x->w2.heap.size<=x:=λx d=>by
  rcases bo x d with d|d
  ·have e:x=b3:=(K3 d).symm;omega
  ·omega
 have b6:Same (· =b) w w4:=same_new (Same.of_ext Z) A oM;have bg:RdR F w4 b v xs p:=bf.new A oM λx d e=>by have:=hF x d;omega
 have q4:=q3.same A oM;have r4:=r3.same A oM;have az:TmsR G w4 kv t.ks:=(ax.ext Z).same A λx d _ e=>by have:=L x d;omega
 refine pick_spec bg oM oM λw5 c R ce B _ _=>?_;have q5:=q4.same R oM;have r5:=r4.same R oM;have z:TmsR G w5 kv t.ks:=az.same R λx d _ e=>hG x d e;have n:=b6.trans R;have b0:Own 0 5 zl w5 ov css:=ag.same R λx d e=>by have:=hn x d;omega
 have c1:=n.size;have T:∀{q:World} {p6:Nat} {cs:List Value} {t':M.Tm},t'.ks.length<=t.ks.length+1->Same (· =b) w q->RdR F q b v xs p6->p6<=p+10->Blk q b1 cs za->Blk q b2 Jl za->TmR (λx=>G x\/w2.heap.size<=x) q cs t'->
   zt za (oP b1 0) q λt56 W=>zT za (oP b2 0) t56 W λ_ X=>vlv za (oP b2 0) X λr4 Y=>K r4 Y:=by
  intro q p6 cs t' hl hs hR aj hq hr S;rw[hq.ldAgg (t:=za) (by rw[zV S];exact zc)];refine xD hr rfl S (λx d e=>by rcases d with d|d<;>first|(have:=L x d;omega)|omega) λH E bc bu=>?_;exact hK H p6 _ t' (same_new hs E oM) (hR.new E oM λx d e=>by have:=hF x d;omega) aj (bu.weaken λx d _=>d.imp id λh=>oM) hl
 have J:∀{q:World} {p6:Nat} {i:Nat} {x:Value} {e:TypeId} {t':M.Tm} {cs':List Value},t'.ks.length<=t.ks.length+1->Same (· =b) w q->RdR F q b v xs p6->p6<=p+10->Blk q b1 [nI t.op,nI t.a,nI t.b,.string t.s,kv] za->Blk q b2 Jl za->x.cells= #[x]->x.oneCell'=true->xV e 1=true->i<5->
   [nI t.op,nI t.a,nI t.b,.string t.s,kv].set i x=cs'->(∀H,Same (· =b1) q H->TmR (λx=>G x\/w2.heap.size<=x) H cs' t')->
   zT e (oP b1 i) x q λ_ be=>zt za (oP b1 0) be λt56 W=>zT za (oP b2 0) t56 W λ_ X=>vlv za (oP b2 0) X λr4 Y=>K r4 Y:=by
  intro q p6 i x e t' cs' hl hs hR aj hq hr bw bx hz hi b9 S;refine hq.st bw bx hz (by simp[pI];omega) λH E bc b4=>?_;rw[b9] at b4;exact T hl (same_new hs E oM) (hR.new E oM λx d e=>by have:=hF x d;omega) aj b4 (hr.same E oM) (S H E)
 have D:∀{q H:World},TmsR G q kv t.ks->Same (· =b1) q H->TmsR (λx=>G x\/w2.heap.size<=x) H kv t.ks:=λhk hs=>(hk.same hs λx d _ e=>by have:=L x d;omega).weaken λx d _=> .inl d;simp only[push_cast];refine zb (λa0=>?_) (λa0=>?_)
 ·refine num_lit (ns:=[0,18,28,3,16,25]) B (by simp) dC oM λq m N a6 hm=>?_
  try simp only[push_cast]
  exact J (t':= .mk m t.a t.b t.s t.ks) (PI _) (n.trans N) a6 oM (q5.same N oM) (r5.same N oM) rfl rfl yU oM rfl λH E=>TmR.of (t:= .mk m t.a t.b t.s t.ks) (D (z.same N λx d _ e=>hG x d e) E)
 refine zb (λa1=>?_) (λa1=>?_)
 ·refine zd λq f _=>?_;have q6:=q5.ext f;simp only[push_cast,q6.ld1,true_and];refine ints_lit (ns:=[1,-1]) dC λb7 H bi g ac=>?_;have q7:=q6.ext g;simp only[push_cast,q7.ld1,true_and,and_self];have af:=(B.ext f).blk.lt;refine num_spec ((B.ext f).ext g) ac (by simp) dC oM (λx d e=>by subst d;omega) λw8 m j _ aa hm=>?_;have q8:=q7.same j oM;simp only[push_cast,q8.ld1,true_and,and_self];have U:=((n.trans (Same.of_ext f)).trans (Same.of_ext g)).trans j;exact J (t':= .mk t.op (IntKind.i64.wrap (t.a+m)) t.b t.s t.ks) (PI _) U aa oM q8 (((r5.ext f).ext g).same j oM) rfl rfl yU oM rfl λw9 O=>TmR.of (t:= .mk t.op (IntKind.i64.wrap (t.a+m)) t.b t.s t.ks) (D (((z.ext f).ext g).same j λx d _ e=>hG x d e) O)
 refine zb (λa2=>?_) (λa2=>?_)
 ·refine zd λq f _=>?_;have q6:=q5.ext f;simp only[push_cast,q6.ld2,true_and];refine ints_lit (ns:=[1,-1,16]) dC λb7 H bi g ac=>?_;have q7:=q6.ext g;simp only[push_cast,q7.ld2,true_and,and_self];have af:=(B.ext f).blk.lt;refine num_spec ((B.ext f).ext g) ac (by simp) dC oM (λx d e=>by subst d;omega) λw8 m j _ aa hm=>?_;have q8:=q7.same j oM;simp only[push_cast,q8.ld2,true_and,and_self];have U:=((n.trans (Same.of_ext f)).trans (Same.of_ext g)).trans j;exact J (t':= .mk t.op t.a (IntKind.i64.wrap (t.b+m)) t.s t.ks) (PI _) U aa oM q8 (((r5.ext f).ext g).same j oM) rfl rfl yU oM rfl λw9 O=>TmR.of (t:= .mk t.op t.a (IntKind.i64.wrap (t.b+m)) t.s t.ks) (D (((z.ext f).ext g).same j λx d _ e=>hG x d e) O)
 refine zb (λa3=>?_) (λa3=>?_)
 ·exact J (t':= .mk t.op t.a t.b ⟨#[113]⟩ t.ks) (PI _) n B oM q5 r5 rfl rfl VN oM rfl λw9 O=>TmR.of (t:= .mk t.op t.a t.b ⟨#[113]⟩ t.ks) (D z O)
 refine zb (λa4=>?_) (λa4=>?_)
 ·refine zv0 (G:=λ_=>False) (t0:= .mk 24 0 0 ⟨#[]⟩ []) (TmR.term (QZ 24 0 0 _)) λq sa f bz bl=>?_;obtain⟨I,ba,aq,a9⟩:=bl;have ai:∀y,y∈I->∀c,c∈y->c.oneCell'=true:=λy hy c S=>by
   obtain⟨i,hi,rfl⟩:=gr hy;have hq:=a9 i oM;rw[q0,gi hi] at hq;obtain⟨c0,he,ad⟩:=hq.inv;obtain⟨am,al,_⟩:=ad;rw[show I[i]=(some I[i]).getD [] from rfl,he] at S;simp only[gd,gn,or_false] at S;rcases S with rfl|rfl|rfl|rfl|rfl
   ·rfl
   ·rfl
   ·rfl
   ·rfl
   ·exact al.one
  have bm:I.length=1:=aq;refine vappend qb dC (b0.ext f) ba ai (gJ _) oM oM λV H ah r bp=>?_;have o:=n.trans (Same.of_ext f);have c2:=o.size;have b8:Same (· =b) w H:=⟨r.os.trans o.os,r.tape.trans o.tape,r.output.trans o.output,gG o.size r.size,λy hy bq=>by
   rw[r.block y (gE hy o.size) (λe=>by have:=hn y e;omega)];exact o.block y hy bq⟩
  have bh:RdR F H b v xs _:=(B.ext f).same r (λe=>by have:=hn b e;omega) λy hy _ e=>by have:=hn y e;have:=hF y hy;omega
  have q7:=(q5.ext f).same r (λe=>by have:=hn b1 e;omega);have r7:=(r5.ext f).same r (λe=>by have:=hn b2 e;omega);have bn:∀x,V.ownBlock=some x->w2.heap.size<=x:=λx d=>by
   rcases bp x d with d|d
   ·exact hn x d
   ·omega
  have ae:TmsR (λx=>G x\/w2.heap.size<=x) H V (t.ks++[.mk 24 0 0 ⟨#[]⟩ []]):=by
   refine⟨css++I,ah.sl.weaken λx d _=> .inr (bn x d),by rw[V0,V0,ap,bm];rfl,λi hi=>?_⟩;rw[V0] at hi;by_cases au:i<t.ks.length
   ·rw[q0,gI oM,<-q0,q0 (l:=t.ks++_),gI au,<-q0];exact(((((ao i au).same A λx d _ e=>by have:=L x d;omega).same R λx d _ e=>hG x d e).ext f).same r λx d _ e=>by have:=hn x e;have:=L x d;omega).weaken λx d _=> .inl d
   ·have bk:i=t.ks.length:=by simp at hi;omega
    subst bk;rw[q0,gK oM,<-q0,ap,GF,q0 (l:=t.ks++_),gK oM,GF];have bv:=a9 0 (by simp);obtain⟨cg,bj,aw⟩:=bv.inv;rw[bj];exact TmR.of (t:= .mk 24 0 0 ⟨#[]⟩ []) ((aw.same r λx d hl e=>by
     rcases d with d|d
     ·exact d.elim
     ·have:=b0.lt e;omega).weaken λx d _=>by
     rcases d with d|d
     ·exact d.elim
     ·right;omega)
  have Q:V.cells= #[V]/\V.oneCell'=true:=⟨ah.sl.cells1,ah.sl.one⟩
  try simp only[push_cast]
  exact J (t':= .mk t.op t.a t.b t.s (t.ks++[.mk 24 0 0 ⟨#[]⟩ []])) (by show(t.ks++[_]).length<=_;rw[V0];exact gy _) b8 bh oM q7 r7 Q.1 Q.2 xU oM rfl λw9 O=>TmR.of (t:= .mk t.op t.a t.b t.s (t.ks++[.mk 24 0 0 ⟨#[]⟩ []])) (ae.same O λx d _ e=>by
   rcases d with d|d
   ·have:=L x d;omega
   ·omega)
 refine zb (λa5=>?_) (λa5=>?_)
 ·refine vloop_up 7 (λi u w'=> ∃cs t',u=[nI i]/\Same (· =b) w w'/\RdR F w' b v xs (p+1)/\Blk w' b1 cs za/\Blk w' b2 Jl za/\TmR (λx=>G x\/w2.heap.size<=x) w' cs t'/\w2.heap.size<=w'.heap.size/\t'.ks.length<=t.ks.length+1) ⟨_,t,rfl,n,B,q5,r5,TmR.of (z.weaken λx d _=> .inl d),oM,oM⟩ ?_;rintro i _ _ q C hi ⟨cs,t',rfl,N,a6,ak,b5,a7,bz,af⟩ hC;simp only[push_cast];refine zb (λc=>?_) (λc=>?_)
  ·rw[ak.ldAgg (t:=za) (by rw[zV a7];exact zc)];refine zv0 a7.term λH sa g bc ae=>?_;simp only[push_cast];have av:TmsR (λx=>G x\/w2.heap.size<=x) H (.slice sa 1 1) [t']:=ae.weaken λx d _=>by
    rcases d with d|d
    ·exact d
    ·right;omega
   have an:TmR (λx=>G x\/w2.heap.size<=x) H [nI 25,nI 0,nI 0,.string ⟨#[]⟩,.slice sa 1 1] (.mk 25 0 0 ⟨#[]⟩ [t']):=TmR.of (t:= .mk 25 0 0 ⟨#[]⟩ [t']) av;refine stTerm (ak.ext g) (zV a7) an λw8 j cf bs=>?_
   try simp only[push_cast]
   rw[inc64' oM];refine hC oM _ _ ⟨_,_,rfl,same_new (N.trans (Same.of_ext g)) j oM,(a6.ext g).new j oM λx d e=>by have:=hF x d;omega,bs,(b5.ext g).same j oM,an.same j λx d _ e=>by
    rcases d with d|d
    ·have:=L x d;omega
    ·omega,oM,by show 1<=_;omega⟩
  ·exact T af N a6 oM ak b5 a7
 ·exact T (PI _) n B oM q5 r5 (TmR.of (t:=t) (z.weaken λx d _=> .inl d))
end
section
variable {w:World} {F:Nat->Prop}
theorem Bytes.below {v:Value} {xs:List Nat} (h:Bytes F w v xs):Bytes (λb=>b<w.heap.size) w v xs:=⟨h.1.weaken λ_ _ a=>a,h.2⟩
theorem dtSize {ds:List M.Dcl} {t:M.Tm}:M.tsort ds t= -1\/(0<=M.tsort ds t/\M.tsort ds t<=4/\M.tsort ds t=M.sortM ds t/\M.fits t=true/\M.declOk ds=true):=by
 unfold M.tsort;split
 ·rename_i h;have:=M.sort_range h.2 t;by_cases e:M.sortM ds t= -1
  ·exact .inl e
  ·exact .inr ⟨oM,oM,rfl,h.1,h.2⟩
 ·exact .inl rfl
end
section
variable {w:World} {F:Nat->Prop}
abbrev jT0 (o:Int) (ks:List M.Tm):M.Tm:= .mk o 0 0 M.nada ks
theorem JC {o:Int} {a:Option Addr} {l c:Nat} {ks:List M.Tm} (h:TmsR F w (.slice a l c) ks):TermR F w (.agg ⟨[nI o,nI 0,nI 0,.string ⟨#[]⟩,.slice a l c]⟩) (jT0 o ks):=⟨_,rfl,h⟩
theorem Xo {o:Int}:TermR F w (.agg ⟨[nI o,nI 0,nI 0,.string ⟨#[]⟩,.slice none 0 0]⟩) (jT0 o []):=JC TmsR.nil
end
section
variable {w:World} {K:oK} {F D G:Nat->Prop}
theorem flatten_setEl {k:Nat}:∀{xs:List (List Value)} (_:∀x,x∈xs->x.length=k) {i:Nat} {y:List Value},y.length=k->i<xs.length->(xs.set i y).flatten=xs.flatten.take (i*k)++y++xs.flatten.drop (i*k+k)
 |[],_,i,y,_,hi=>by simp at hi
 |x::r,h,i,y,c,hi=>by
  have e:=h x gj;cases i with
  |zero=>
   simp only[pa,GJ,PN,PV,Gh,gO];rw[List.drop_append,PO oM,Gh,show k-x.length=0 by omega,List.drop_zero]
  |succ i=>
   simp only[Pu,GJ];have a:(i+1)*k=x.length+i*k:=by rw[GX];omega
   have b:x.length+i*k+k=x.length+(i*k+k):=oM;rw[flatten_setEl (λz d=>h z (gl _ d)) c (by simpa using hi),a,b,List.take_length_add_append,List.drop_length_add_append];simp only[Ga]
set_option maxRecDepth 100000 in
theorem own_stEl {v:Value} {k:Nat} {t e:TypeId} {xs:List (List Value)} {y:List Value} (h:Own 0 k t w v xs) (J:0<k) (n:y.length=k) (B:∀c,c∈y->c.oneCell'=true) (u:aggB e k=true) {i:Nat} (hi:i<xs.length)
  (C:∀w',Own 0 k t w' v (xs.set i y)->Same (λb=>v.ownBlock=some b) w w'->w'.heap.size=w.heap.size->K undef w'):zT e (.pointer (some (eaddr v k i))) (.agg ⟨y⟩) w K:=by
 have E:=flatten_len h.wide;rcases h.row with⟨H,s⟩;rcases s with⟨rfl,L⟩|⟨g,cap,cur,rfl,o,x,j,p,r,f⟩
 ·omega
 ·have F:i*k+k<=xs.length*k:=by rw[<-Nat.succ_mul];exact pK _ hi
  have G:xs.length*k<=cap*k:=pK _ j;have d:=run_storeCells_at (P:=P) g (i*k) (Yz t) y 0 cur w x oM B;have he:eaddr (.slice (some ⟨g,0,none⟩) xs.length cap) k i=⟨g,i*k,none⟩:=by
   simp only[eaddr,gO]
  rw[he];have D:cur.toList.length=cap*k:=(by simpa using r);have m:(cur.toList.take (i*k+0)++y++cur.toList.drop (i*k+0+y.length)).toArray.size=cap*k:=by
   simp only[G0,V0,gg,GU];omega
  have a:(cur.toList.take (i*k+0)++y++cur.toList.drop (i*k+0+y.length)).toArray.toList.take (xs.length*k)=(xs.set i y).flatten:=by
   rw[flatten_setEl h.wide n hi,<-f,n];simp only[GO];have I:(cur.toList.take (i*k)).length=i*k:=by rw[gg];omega
   rw[List.take_append,List.take_append,gC (l:=List.take (i*k) cur.toList) oM,gC (l:=y) oM,pt,Gy oM,List.drop_take];congr 2;rw[V0,gg];omega
  refine⟨(),_,?_,C (w.setRow g (cur.toList.take (i*k+0)++y++cur.toList.drop (i*k+0+y.length)).toArray) ⟨?_,?_⟩ ⟨rfl,rfl,rfl,by simp,λq _ A=>setRow_other w g q _ (λe=>A (by rw[e];rfl))⟩ (by simp)⟩
  ·simp only[Instr.storeAt,Instr.sureAddr,Sem.run_bind,Sem.run_pure,Result.andThen_ok,storeVar,qZ u,Value.cells];simp only[G0,n,ne_eq,not_true_eq_false,if_false];rw[n] at d;exact d
  ·rw[G5];refine⟨?_,.inr ⟨g,cap,_,rfl,o,setRow_heap w g _ _ _ _ x,j,p,m,a⟩⟩;rw[<-a,gg];have:=m;simp only[G0] at this;simp only[List.toList_toArray,this];omega
  ·intro z u;obtain⟨q,A,rfl⟩:=gr u;rw[G8];split
   ·exact n
   ·exact h.wide _ (GD _)
end
section
variable {w:World} {F:Nat->Prop}
theorem tmR_one {cs:List Value} {t:M.Tm} (h:TmR F w cs t):∀c,c∈cs->c.oneCell'=true:=λc e=>by
 obtain⟨f,rfl,d,b,_⟩:=h.inv;obtain⟨a,l,rfl,_⟩:=b.shape;simp only[gd,gn,or_false] at e;rcases e with rfl|rfl|rfl|rfl|rfl<;>rfl
def Zr0:M.Tm->Bool:=M.Tm.fold λt xs=>decide (t.ks.length<=1048576)&&xs.all id
theorem Z60 (t:M.Tm):Zr0 t=(decide (t.ks.length<=1048576)&&(t.ks.map Zr0).all id):=M.Tm.fold_eq _ t
theorem fitB_iff {t:M.Tm}:Zr0 t=true↔t.ks.length<=1048576/\∀k,k∈t.ks->Zr0 k=true:=by
 rw[Z60,gh,decide_eq_true_eq,Gb];refine and_congr_right λ_=>⟨λh k a=>h _ (Gc a),λh y b=>?_⟩;obtain⟨k,a,rfl⟩:=gp.1 b;exact h k a
end
end Go.Proofs.YtolbhkcajhlllaaGreatDoor
section
namespace Go.M
def vecL (w n:Nat):List UInt8:=35::(List.range w).reverse.map λi=>if n/2^i%2=1 then 49 else 48
def digL (n:Int):List UInt8:=[UInt8.ofNat (48+n.toNat)]
def textF (t:Tm) (xs:List (List UInt8)):List UInt8:=
 if t.op=20 then vecL t.a.toNat t.b.toNat else if t.op=21 then t.s.data.toList else if t.op=24 then[116,114,117,101]
 else 40::(wordL t.op++((if t.op=22 then 32::(digL t.a++32::digL t.b) else[])++(xs.flatMap (λx=>32::x)++[41])))
def textL:Tm->List UInt8:=Tm.fold textF
theorem textL_eq (t:Tm):textL t=textF t (t.ks.map textL):=Tm.fold_eq _ t
def Stop (r:List UInt8):Prop:=∀c,r.head?=some c->c=32\/c=41
def Free (a:List UInt8):Prop:=∀c,c∈a->c≠32/\c≠41
theorem atom_cancel:∀{a b r s:List UInt8},Free a->Free b->Stop r->Stop s->a++r=b++s->a=b/\r=s
 |[],[],r,s,_,_,_,_,h=>⟨rfl,h⟩
 |[],y::b,r,s,_,g,j,_,h=>by
  have d:r=y::(b++s):=h;have k:=g y gj;rcases j y (by grind) with e|e
  ·grind
  grind
 |x::a,[],r,s,f,_,_,hs,h=>by
  have d:s=x::(a++r):=h.symm;have k:=f x gj;rcases hs x (by grind) with e|e
  ·grind
  grind
 |x::a,y::b,r,s,f,g,j,hs,h=>by
  have d:x::(a++r)=y::(b++s):=h;simp only[Gd] at d;obtain⟨rfl,d⟩:=d;obtain⟨rfl,e⟩:=atom_cancel (λc i=>f c (gl _ i)) (λc i=>g c (gl _ i)) j hs d
  grind
theorem stop_cons {c:UInt8} {r:List UInt8} (h:c=32\/c=41):Stop (c::r):=λd a=>by
 grind
theorem word_free:∀o:Fin 28,Free (wordL o):=by unfold Free;decide+kernel
theorem word_inj:∀o p:Fin 28,wordL o=wordL p->wordL o≠[]->o=p:=by decide+kernel
theorem word_ne:∀o:Fin 28,1<=o.1->(o.1<=17\/o.1=22\/o.1=23\/25<=o.1)->wordL o≠[]:=by decide+kernel
theorem vec_inj:∀w:Fin 5,∀a:Fin 16,∀v:Fin 5,∀b:Fin 16,a.1<2^w.1->b.1<2^v.1->vecL w a=vecL v b->w=v/\a=b:=by decide+kernel
theorem vec_free (w n:Nat):Free (vecL w n):=λc a=>by
 grind [vecL]
theorem dig_inj:∀a b:Fin 4,digL a=digL b->a=b:=by decide+kernel
theorem dig_free:∀a:Fin 4,Free (digL a):=by unfold Free;decide+kernel
section
variable {ds:List Dcl} {t u:Tm}
theorem name_ok (d:declOk ds=true) (hs:sortM ds t≠ -1) (i:t.op=21):t.s.data.toList≠[]/\t.s≠tru/\∀c,c∈t.s.data.toList->97<=c.toNat/\c.toNat<=122:=by
 have f:=name_found hs i;have h:(findD ds t.s).toNat<ds.length:=by have:=(findD_lt ds t.s).2;omega
 have g:=findD_get f;have a:=(decl_iff.1 d).2.1 _ h;unfold dclOk at a;rw[g] at a;simp only[gh,decide_eq_true_eq,nameOk] at a;obtain⟨⟨⟨⟨⟨⟨j,k⟩,b⟩,l⟩,_⟩,_⟩,_⟩:=a;refine⟨λe=>?_,b,λc m=>?_⟩
 ·have:t.s.size=0:=by show t.s.data.size=0;simp_all
  omega
 grind [Array.all_eq_true']
theorem right_op (hs:sortM ds t≠ -1):arity t.op=t.ks.length/\plainM t=true/\((1<=t.op/\t.op<=17)\/(20<=t.op/\t.op<=27)):=by
 obtain⟨a,_,_⟩:=sort_parts hs;simp_all[formed_iff,arity_ops]
theorem leaf_arity {o:Int} (h:o=20\/o=21\/o=24):arity o=0:=by unfold arity;omega
theorem node_arity {o:Int} (h:(1<=o/\o<=17)\/(20<=o/\o<=27)) (a: ¬(o=20\/o=21\/o=24)):1<=arity o:=by
 grind [arity]
theorem vec_ok (hs:sortM ds t≠ -1) (c:t.op=20):vok t.a t.b=true:=by
 have h:=(sort_parts hs).2.2
 grind [sortK]
theorem cut_ab (c:declOk ds=true) (hs:sortM ds t≠ -1) (d:t.op=22):0<=t.b/\t.b<=t.a/\t.a<4:=by
 have h:=(sort_parts hs).2.2;have e:(t.ks.map (sortM ds)).getD 0 0<=4:=by
  by_cases hi:0<t.ks.length
  ·simp_all[sort_range]
  grind
 grind [sortK]
theorem atom_text (f:declOk ds=true) (hs:sortM ds t≠ -1) (h:t.op=20\/t.op=21\/t.op=24):textL t=textF t []/\Free (textL t)/\textL t≠[]/\∀c,(textL t).head?=some c->c≠40:=by
 have g:t.ks=[]:=by grind [List.eq_nil_of_length_eq_zero,right_op,leaf_arity]
 have e:textL t=textF t []:=by rw[textL_eq,g];rfl
 refine⟨e,?_⟩;rw[e];unfold textF;rcases h with o|o|o
 ·rw[if_pos o]
  grind [vec_free,vecL]
 ·rw[if_neg oM,if_pos o];obtain⟨d,i,b⟩:=name_ok f hs o;refine⟨λc a=>?_,d,λc a=>?_⟩
  ·have:=b c a;exact⟨λe=>by simp_all,λe=>by simp_all⟩
  ·have:=b c (List.mem_of_mem_head? a);intro e;simp_all
 grind [Free]
theorem tm_extT {t u:Tm} (c:t.op=u.op) (d:t.a=u.a) (e:t.b=u.b) (f:t.s=u.s) (g:t.ks=u.ks):t=u:=by
 cases t;cases u
 grind [Tm.op,Tm.a,Tm.b,Tm.s,Tm.ks]
theorem plain_ab (h:plainM t=true) (c:t.op≠20/\t.op≠22):t.a=0/\t.b=0:=by
 grind [plainM]
theorem plain_s (h:plainM t=true) (a:t.op≠21):t.s=nada:=by
 grind [plainM]
theorem atom_inj (g:declOk ds=true) (hs:sortM ds t≠ -1) (hu:sortM ds u≠ -1) (l:t.op=20\/t.op=21\/t.op=24) (m:u.op=20\/u.op=21\/u.op=24) (h:textL t=textL u):t=u:=by
 have x:t.ks=[]:=by grind [List.eq_nil_of_length_eq_zero,right_op,leaf_arity]
 have n:u.ks=[]:=by grind [List.eq_nil_of_length_eq_zero,right_op,leaf_arity]
 have j:=(right_op hs).2.1;have d:=(right_op hu).2.1;rw[(atom_text g hs l).1,(atom_text g hu m).1] at h;unfold textF at h;have letter:∀{v:Tm},sortM ds v≠ -1->v.op=21->∀c r,v.s.data.toList=c::r->97<=c.toNat:=by grind [name_ok,List.mem_cons_self]
 have notrue:∀{v:Tm},sortM ds v≠ -1->v.op=21->v.s.data.toList=[116,114,117,101]->False:=λ{v} q i e=>(name_ok g q i).2.1 (by
  have:v.s.data= #[116,114,117,101]:=(by grind);show v.s=tru;have f:v.s=⟨v.s.data⟩:=rfl;rw[f,this];rfl)
 rcases l with o|o|o<;>rcases m with p|p|p
 ·rw[if_pos o,if_pos p] at h;have v1:=vok_lt (vec_ok hs o);have v2:=vok_lt (vec_ok hu p);have w1:=vok_iff.1 (vec_ok hs o);have w2:=vok_iff.1 (vec_ok hu p);have k:((2^t.a.toNat:Nat):Int)=2^t.a.toNat:=(by simp);have f:((2^u.a.toNat:Nat):Int)=2^u.a.toNat:=(by simp);have:=vec_inj ⟨t.a.toNat,oM⟩ ⟨t.b.toNat,oM⟩ ⟨u.a.toNat,oM⟩ ⟨u.b.toNat,oM⟩ (by grind) (by grind) h
  grind [tm_extT,plain_s]
 ·rw[if_pos o,if_neg oM,if_pos p] at h;exact absurd (letter hu p 35 _ h.symm) dC
 ·grind [vecL]
 ·rw[if_neg oM,if_pos o,if_pos p] at h;exact absurd (letter hs o 35 _ h) dC
 ·rw[if_neg oM,if_pos o,if_neg oM,if_pos p] at h;obtain⟨w,b1⟩:=plain_ab j oM;obtain⟨a2,b2⟩:=plain_ab d oM;refine tm_extT oM oM oM ?_ (by grind);have:=GC.1 h;have k:t.s=⟨t.s.data⟩:=rfl;have f:u.s=⟨u.s.data⟩:=rfl;rw[k,f,this]
 ·grind
 ·grind [vecL]
 ·grind
 grind [plain_ab,tm_extT,plain_s]
theorem kids_inj:∀{ks us:List Tm} {r s:List UInt8},ks.length=us.length->(∀k,k∈ks->∀u,u∈us->∀r s,Stop r->Stop s->textL k++r=textL u++s->k=u/\r=s)->
  (ks.map textL).flatMap (λx=>32::x)++41::r=(us.map textL).flatMap (λx=>32::x)++41::s->ks=us/\r=s
 |[],[],r,s,_,_,h=>by
  grind
 |[],_::_,_,_,b,_,_=>by simp at b
 |_::_,[],_,_,b,_,_=>by simp at b
 |k::ks,u::us,r,s,b,c,h=>by
  simp only[Gz,List.flatMap_cons,GA,Ga,Gd,true_and] at h;have st:∀(l:List Tm) (r:List UInt8),Stop ((l.map textL).flatMap (λx=>32::x)++41::r):=λl r=>by
   cases l with
   |nil=>exact stop_cons (.inr rfl)
   |cons a l=>exact stop_cons (.inl rfl)
  obtain⟨he,h⟩:=c k gj u gj _ _ (st _ _) (st _ _) h;obtain⟨rfl,e⟩:=kids_inj (by grind) (λk d u hu=>c k (gl _ d) u (gl _ hu)) h
  grind
theorem text_inj' (i:declOk ds=true):∀t:Tm,sortM ds t≠ -1->∀u:Tm,sortM ds u≠ -1->∀r s,Stop r->Stop s->textL t++r=textL u++s->t=u/\r=s:=by
 refine Tm.ind λt J hs u hu r s U I h=>?_;obtain⟨ar,pl,op⟩:=right_op hs;obtain⟨B,P,p⟩:=right_op hu;have comp:∀{v:Tm},¬(v.op=20\/v.op=21\/v.op=24)->textL v=40::(wordL v.op++((if v.op=22 then 32::(digL v.a++32::digL v.b) else[])++((v.ks.map textL).flatMap (λx=>32::x)++[41]))):=λ{v} z=>by
  rw[textL_eq];grind [textF]
 by_cases lt:t.op=20\/t.op=21\/t.op=24
 ·obtain⟨_,f1,f2,f3⟩:=atom_text i hs lt;by_cases lu:u.op=20\/u.op=21\/u.op=24
  ·grind [atom_text,atom_cancel,atom_inj]
  ·exfalso;rw[comp lu] at h
   match H:textL t,f2 with
   |c::q,_=>
    grind
 ·by_cases lu:u.op=20\/u.op=21\/u.op=24
  ·exfalso;obtain⟨_,g1,g2,g3⟩:=atom_text i hu lu;rw[comp lt] at h
   match H:textL u,g2 with
   |c::q,_=>
    grind
  ·rw[comp lt,comp lu] at h;simp only[GA,Ga,Gd,true_and,Gh] at h;have na:=node_arity op lt;have M:=node_arity p lu;have kst:∀{l:List Tm} {q:List UInt8},1<=l.length->∃A,(l.map textL).flatMap (λx=>32::x)++41::q=32::A:=λ{l q} n=>by
    cases l with
    |nil=>simp at n
    |cons a l=>grind
   have st:∀{v:Tm} {q:List UInt8},1<=v.ks.length->Stop ((if v.op=22 then 32::(digL v.a++32::digL v.b) else[])++((v.ks.map textL).flatMap (λx=>32::x)++41::q)):=λ{v q} n=>by
    split
    ·exact stop_cons (.inl rfl)
    ·obtain⟨A,e⟩:=kst (q:=q) n
     grind [stop_cons]
   have N:(((⟨t.op.toNat,oM⟩:Fin 28):Nat):Int)=t.op:=(by grind);have O:(((⟨u.op.toNat,oM⟩:Fin 28):Nat):Int)=u.op:=(by grind);have f:=word_free ⟨t.op.toNat,oM⟩;have g:=word_free ⟨u.op.toNat,oM⟩;rw[N] at f;rw[O] at g;obtain⟨hw,h⟩:=atom_cancel f g (st (v:=t) oM) (st (v:=u) oM) h;have o:=word_ne ⟨t.op.toNat,oM⟩ oM oM;have G:=word_inj ⟨t.op.toNat,oM⟩ ⟨u.op.toNat,oM⟩ (by grind) o;have w:t.op=u.op:=by
    omega
   have j:t.a=u.a/\t.b=u.b/\(t.ks.map textL).flatMap (λx=>32::x)++41::r=(u.ks.map textL).flatMap (λx=>32::x)++41::s:=by
    by_cases d:t.op=22
    ·rw[if_pos d,if_pos oM] at h;simp only[GA,Ga,Gd,true_and] at h;have c1:=cut_ab i hs d;have c2:=cut_ab i hu oM;have da:∀{x:Int},0<=x->x<4->Free (digL x):=λ{x} C E=>by
      have:=dig_free ⟨x.toNat,oM⟩
      grind
     have di:∀{x y:Int},0<=x->x<4->0<=y->y<4->digL x=digL y->x=y:=λ{x y} C E D F he=>by
      have:=dig_inj ⟨x.toNat,oM⟩ ⟨y.toNat,oM⟩ (by
       grind)
      grind
     obtain⟨Q,h⟩:=atom_cancel (da oM oM) (da oM oM) (stop_cons (.inl rfl)) (stop_cons (.inl rfl)) h;simp only[Gd,true_and] at h;obtain⟨V,K⟩:=kst (l:=t.ks) (q:=r) oM;obtain⟨W,L⟩:=kst (l:=u.ks) (q:=s) oM;obtain⟨R,h⟩:=atom_cancel (da oM oM) (da oM oM) (by rw[K];exact stop_cons (.inl rfl)) (by rw[L];exact stop_cons (.inl rfl)) h
     grind
    grind [plain_ab]
   obtain⟨S,T,h⟩:=j;obtain⟨m,e⟩:=kids_inj (by
    grind) (λk m v z=>J k m ((sort_parts hs).2.1 k m) v ((sort_parts hu).2.1 v z)) h
   grind [tm_extT,plain_s]
theorem text_inj (b:declOk ds=true) (hs:sortM ds t≠ -1) (hu:sortM ds u≠ -1) (h:textL t=textL u):t=u:=
 (text_inj' b t hs u hu [] [] (λc a=>by cases a) (λc a=>by cases a) (by grind)).1
end
end Go.M
end
namespace Go.Proofs.YtolbhkcajhlllaaGreatDoor
open Go Go.Vc Go.Proofs
section
variable {w:World} {K:oK} {F Fx X Q:Nat->Prop} {n:Nat} {v:Value}
theorem dcl_small {ds:List M.Dcl} (a:M.declOk ds=true) {i:Nat} (hi:i<=ds.length):0<=M.bitT ds i/\M.bitT ds i<=16:=by
 have c:=(M.decl_iff.1 a).1;induction i with
 |zero=>exact⟨Pk _,show(0:Int)<=16 by decide⟩
 |succ i b=>
  have:=b oM;have hw:=M.dcl_wide a (i:=i) oM;rw[M.bitT_succ oM];have key:M.bitT ds i<=4*(i:Int):=by
   clear b this;induction i with
   |zero=>exact Pk _
   |succ j ihj=>
    have hw:=M.dcl_wide a (i:=j) oM;have:=ihj oM (M.dcl_wide a oM);rw[M.bitT_succ oM];omega
  omega
theorem bitsOf_spec {dv:Value} {ds:List M.Dcl} (l:DclsR Fx w dv ds) (d:M.declOk ds=true) (o:∀w',Ext w w'->K (nI (M.bits ds)) w'):vcall WI #[dv] w K:=by
 refine zf {loops:=[(3,[3,8])]} Tryz.func112 ?_;simp only[push_cast,l.len];have k:=(M.decl_iff.1 d).1;refine vloop_up ds.length (λi u w'=>u=[nI (M.bitT ds i),nI i]/\Ext w w') ⟨rfl,Same.refl _ _⟩ ?_;rintro i _ _ w2 C hi ⟨rfl,c⟩ n;have e:=l.ext c;simp only[push_cast];refine zb (λa=>?_) (λa=>?_)
 ·have b:i<ds.length:=oM;simp(disch:=first|(simp only[push_cast])|omega) only[push_cast,e.iaddr,e.load];refine zi xp λb1 v p f r m=>?_;refine stDecl m λt j _ k=>?_;have g:Ext w2 t:=Ext.then f j λy s=>by subst s;omega
  have q:=dcl_small d hi;have h:=dcl_small d (i:=i+1) b;rw[M.bitT_succ b] at h;simp(disch:=first|(simp only[push_cast])|omega) only[push_cast,k.ld1,zj];refine n b _ _ ⟨?_,c.trans g⟩;rw[M.bitT_succ b];simp
 ·have:i=ds.length:=oM;subst this;rw[M.bitT_all];exact o w2 c
theorem nameB_take {ds:List M.Dcl} {k j:Nat} {wd top:Int} (c:(j:Int)<wd) (hw:wd=(ds.getD k (M.nada,0)).2) (b:top=2+M.bits (ds.take k)):(M.nameB ds k).take (j+1)=(M.nameB ds k).take j++[top+(wd-1-j)]:=by
 have a:j<(M.nameB ds k).length:=by rw[M.nameB_len];omega
 rw[M.take_add a 0];congr 1;unfold M.nameB;rw[q0,Gv,pQ oM];show[2+M.bits (ds.take k)+(ds.getD k (M.nada,0)).2-1-(j:Int)]=[top+(wd-1-(j:Int))];rw[b,hw];congr 1;omega
theorem inputs_spec {bl:Nat} {r:List Value} {dv:Value} {ds:List M.Dcl} {s:ByteArray} {x0:Value} (T:Blk w bl (x0::dv::r) yi) (N:DclsR Fx w dv ds) (f:M.declOk ds=true) (hs:0<=M.findD ds s)
  (L:∀w' r,Ext w w'->OwnI ze w' r (M.nameB ds (M.findD ds s).toNat)->(∀b,r.ownBlock=some b->w.heap.size<=b)->K r w'):vcall ZC #[oP bl 0,.string s] w K:=by
 refine zf {loops:=[(3,[5,15]),(8,[8,9])]} Tryz.func233 ?_;simp only[push_cast,T.ld1,N.len];have h4:=(M.decl_iff.1 f).1;have a0:=M.findD_lt ds s;refine vloop_up ds.length (λi u w'=>u=[nI (2+M.bitT ds i),nI i]/\Ext w w'/\i<=(M.findD ds s).toNat) ⟨rfl,Same.refl _ _,gJ _⟩ ?_;rintro i _ _ w2 C hi ⟨rfl,k,Z⟩ U;have q:=N.ext k;simp only[push_cast];have d:i<ds.length:=oM
 refine zb (λa=>?_) (λa=>oM);simp(disch:=first|(simp only[push_cast])|omega) only[push_cast,q.iaddr,q.load];refine zi xp λb1 w3 W D a3 S=>?_;refine stDecl S λw4 J _ o=>?_;have t:Ext w2 w4:=Ext.then D J λy hy=>by subst hy;omega
 have a2:=dcl_small f hi;have H:=dcl_small f (i:=i+1) d;rw[M.bitT_succ d] at H;have Q:=M.dcl_wide f d;simp(disch:=first|(simp only[push_cast])|omega) only[push_cast,o.ld0,o.ld1,zj];refine zb (λe=>?_) (λe=>?_)
 ·have E:i=(M.findD ds s).toNat:=by
   by_cases c:i=(M.findD ds s).toNat
   ·exact c
   ·have R:=M.dcl_apart f (i:=(M.findD ds s).toNat) (j:=i) oM oM;exact absurd (e.trans (M.findD_get hs).symm) R
  rw[<-E] at L;have B:M.bitT ds i=M.bits (ds.take i):=rfl;generalize V:(ds.getD i (M.nada,0)).2=wd at*;refine kf (λm u w'=> ∃j r,u=[r,nI ((m:Int)-1)]/\(m:Int)+(j:Nat)=wd/\Ext w w'/\OwnI ze w' r ((M.nameB ds i).take j)/\∀b,r.ownBlock=some b->w.heap.size<=b) wd.toNat
   ⟨0,_,by rw[show((wd.toNat:Nat):Int)=wd by omega],oM,k.trans t,OwnI.nil,λb p=>by cases p⟩ ?_
  rintro m _ _ w5 C5 ⟨j,r,rfl,a1,v,n,l⟩ A;simp only[push_cast];refine zb (λY=>?_) (λO=>?_)
  ·simp(disch:=omega) only[push_cast,zj];refine zC yy y4 ye rfl rfl λb6 w6 X x a4 z=>?_;have g:=v.trans x;have hz:=g.size;have hle:((M.nameB ds i).take j).length<=16:=by rw[gg,M.nameB_len];omega
   refine(n.ext x).app1 yz z oM oM λr7 w7 G I F=>?_
   try simp(disch:=omega) only[push_cast,zj]
   refine A (m-1) _ _ oM ⟨j+1,r7,?_,oM,Ext.then g I λb p=>l b p,?_,λb p=>(F b p).elim (l b) λh=>oM⟩
   ·rw[show((m-1:Nat):Int)=(m:Int)-1 by omega]
   ·rw[nameB_take (wd:=wd) (top:=2+M.bits (ds.take i)) oM V.symm rfl,<-B];rw[show(2+M.bitT ds i+(wd-1-j))=2+M.bitT ds i+((m:Int)-1) by omega];exact G
  ·rw[gC (by rw[M.nameB_len];omega)] at n;exact L w5 r v n l
 ·refine U d _ _ ⟨?_,k.trans t,?_⟩
  ·rw[M.bitT_succ d];simp;omega
  ·have:i≠(M.findD ds s).toNat:=λh=>e (by rw[h];exact M.findD_get hs);omega
end
end Go.Proofs.YtolbhkcajhlllaaGreatDoor
end
