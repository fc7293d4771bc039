import Derived.Test.YtolbhkcajhlllaaGreatDoorWwbP6
/- A part of the proof. -/
set_option linter.all false
set_option maxRecDepth 9999
set_option maxHeartbeats 2000000
noncomputable section
namespace Go.Proofs.YtolbhkcajhlllaaGreatDoor
open Go Go.Vc Go.Proofs
section
variable {w:World} {K:oK} {F G:Nat->Prop}
theorem l2Arity_spec {o:Int} (h:K (nI (M.arity o)) w):vcall KQ #[nI o] w K:=by
 refine ze {cuts:=[(12293,[4])]} Tryz.func130 ?_;have f:∀c,M.arity o=c->K (nI c) w:=λc e=>e▸h;refine zp (λu w'=>u=[.bool (decide (o=20\/o=21\/o=24))]/\w'=w) (λC d=>?_) ?_
 ·simp only[push_cast];refine zb (λa=>?_) (λa=>?_)
  ·exact d _ _ ⟨by rw[decide_eq_true a,decide_eq_true (.inl a)],rfl⟩
  refine zb (λb=>?_) (λb=>?_)
  ·exact d _ _ ⟨by rw[decide_eq_true b,decide_eq_true (.inr (.inl b))],rfl⟩
  ·refine d _ _ ⟨?_,rfl⟩;by_cases c:o=24
   ·rw[decide_eq_true c,decide_eq_true (.inr (.inr c))]
   ·rw[decide_eq_false c,decide_eq_false oM]
 ·rintro u g w1 ⟨rfl,rfl⟩;simp only[push_cast]
  repeat' first
   |exact f _ (by
    unfold M.arity;repeat' split
    all_goals omega)
   |refine zb (λ_=>?_) (λ_=>?_)
theorem zL0 {v:Value} {t:M.Tm} (A:TermR F w v t) (p:∀w',Ext w w'->K (.bool (M.formed t)) w'):vcall KP #[v] w K:=by
 refine ze {ord:=[oz 5 (oR 8) [(0,[3,4,5]),(1,[3,4,5]),(2,[3,4,5])]],cuts:=[(8195,[]),(16389,[])]} Tryz.func94 ?_;obtain⟨ksv,rfl,o⟩:=A;refine zi λb1 w1 y j z l=>?_;have q:=p _ j;have f:M.plainM t=false->K (.bool false) w1:=λh=>by
  unfold M.formed at q;rwa[h,pj] at q
 unfold M.plainM at f;refine zp (λu w'=>u=[]/\w'=w1/\(decide (t.op=21)||decide (t.s=M.nada))=true) (λC m=>?_) ?_
 ·simp only[push_cast,l.ld0,l.ld3];refine zb (λa=>?_) (λa=>?_)
  ·refine zb (λb=>?_) (λb=>?_)
   ·exact f (by rw[decide_eq_false a,show decide (t.s=M.nada)=false from decide_eq_false b];simp)
   ·exact m _ _ ⟨rfl,rfl,by rw[show decide (t.s=M.nada)=true from decide_eq_true (GZ.1 b)];simp⟩
  ·exact m _ _ ⟨rfl,rfl,by rw[decide_eq_true (GZ.1 a)];simp⟩
 rintro u g w2 ⟨rfl,rfl,r⟩;rw[r,Pe] at f;refine zp (λu w'=>u=[]/\w'=w2/\(decide (t.op=20)||decide (t.op=22)||(decide (t.a=0)&&decide (t.b=0)))=true) (λC m=>?_) ?_
 ·simp only[push_cast,l.ld0,l.ld1,l.ld2];refine zb (λa=>?_) (λa=>?_)
  ·refine zb (λb=>?_) (λb=>?_)
   ·refine zb (λc=>?_) (λc=>?_)
    ·exact f (by rw[decide_eq_false a,decide_eq_false b,decide_eq_false c];simp)
    refine zb (λd=>?_) (λd=>?_)
    ·exact f (by rw[decide_eq_false a,decide_eq_false b,decide_eq_false d];simp)
    ·exact m _ _ ⟨rfl,rfl,by rw[decide_eq_true (GZ.1 c),decide_eq_true (GZ.1 d)];simp⟩
   ·exact m _ _ ⟨rfl,rfl,by rw[decide_eq_true (GZ.1 b)];simp⟩
  ·exact m _ _ ⟨rfl,rfl,by rw[decide_eq_true (GZ.1 a)];simp⟩
 rintro u g w3 ⟨rfl,rfl,hm⟩;refine zd λB k _=>?_;have n:=l.ext k;have i:=o.ext (j.trans k);simp only[push_cast,n.ld0,n.ld4,i.len,true_and];refine l2Arity_spec ?_;simp only[push_cast,n.ld4,i.len,true_and,and_self];have:=p _ (j.trans k);have e:M.formed t=decide ((t.ks.length:Int)=M.arity t.op):=by
  unfold M.formed M.plainM;rw[hm,r];simp only[Pe];by_cases h:M.arity t.op=t.ks.length
  ·rw[decide_eq_true h,decide_eq_true h.symm]
  ·rw[decide_eq_false h,decide_eq_false (λx=>h x.symm)]
 rwa[e] at this
theorem l2One_spec {v:Value} {t:M.Tm} {a:Int} (q:TermR F w v t) (r: -1<=a/\a<=4) (m:∀w',Ext w w'->K (nI (M.oneM t a)) w'):vcall zr0 #[v,nI a] w K:=by
 refine ze {cuts:=[(8194,[5]),(16388,[13]),(28679,[40])]} Tryz.func96 ?_;obtain⟨ksv,rfl,o⟩:=q;refine zi λb1 w1 n l p j=>?_;have k:∀c,M.oneM t a=c->K (nI c) w1:=λc e=>e▸m _ l;unfold M.oneM at k;refine zp (λu w'=>u=[.bool (decide (t.op=25/\a=0))]/\w'=w1) (λC i=>?_) ?_
 ·simp only[push_cast,j.ld0];refine zb (λb=>?_) (λb=>?_)
  ·refine i _ _ ⟨?_,rfl⟩;simp only[b,true_and]
  ·exact i _ _ ⟨by rw[decide_eq_false (λh=>b h.1)],rfl⟩
 rintro u g w2 ⟨rfl,rfl⟩;simp only[push_cast];refine zb (λb=>?_) (λb=>?_)
 ·exact k _ (by rw[if_pos b.1,if_pos b.2])
 refine zp (λu w'=>u=[.bool (decide (t.op=25\/a<1))]/\w'=w2) (λC i=>?_) ?_
 ·simp only[push_cast,j.ld0];refine zb (λc=>?_) (λc=>?_)
  ·exact i _ _ ⟨by rw[decide_eq_true (.inl c)],rfl⟩
  ·refine i _ _ ⟨?_,rfl⟩;simp only[c,false_or]
 rintro u g w3 ⟨rfl,rfl⟩;simp only[push_cast];refine zb (λc=>?_) (λc=>?_)
 ·exact k _ (by
   repeat' split
   all_goals omega)
 simp only[push_cast,j.ld0];refine zb (λd=>?_) (λd=>?_)
 ·refine zp (λu w'=>u=[.bool (decide (0<=t.b/\t.b<=t.a/\t.a<a))]/\w'=w3) (λC i=>?_) ?_
  ·simp only[push_cast,j.ld1,j.ld2];refine zb (λe=>?_) (λe=>?_)
   ·refine zb (λf=>?_) (λf=>?_)
    ·refine i _ _ ⟨?_,rfl⟩;simp only[e,f,true_and]
    ·exact i _ _ ⟨by rw[decide_eq_false (λh=>f h.2.1)],rfl⟩
   ·exact i _ _ ⟨by rw[decide_eq_false (λh=>e h.1)],rfl⟩
  rintro u g s ⟨rfl,rfl⟩;simp only[push_cast];refine zb (λe=>?_) (λe=>?_)
  ·simp only[push_cast,j.ld1,j.ld2];rw[zl (x:=t.a-t.b) oM oM,zl oM oM];exact k _ (by rw[if_neg oM,if_neg oM,if_pos d,if_pos e])
  ·exact k _ (by rw[if_neg oM,if_neg oM,if_pos d,if_neg e])
 ·exact k _ (by rw[if_neg oM,if_neg oM,if_neg d])
theorem l2Both_spec {o a b:Int} (l: -1<=a/\a<=4) (k: -1<=b/\b<=4) (j:K (nI (M.bothM o a b)) w):vcall WA #[nI o,nI a,nI b] w K:=by
 refine ze {cuts:=[(12291,[8]),(24582,[21])]} Tryz.func97 ?_;have h:∀c,M.bothM o a b=c->K (nI c) w:=λc e=>e▸j;unfold M.bothM at h;refine zp (λu w'=>u=[.bool (decide (o=26\/o=27))]/\w'=w) (λC f=>?_) ?_
 ·simp only[push_cast];refine zb (λc=>?_) (λc=>?_)
  ·exact f _ _ ⟨by rw[decide_eq_true (.inl c)],rfl⟩
  ·refine f _ _ ⟨?_,rfl⟩;simp only[c,false_or]
 rintro u g w2 ⟨rfl,rfl⟩;simp only[push_cast];refine zb (λc=>?_) (λc=>?_)
 ·repeat' first
   |exact h _ (by
    repeat' split
    all_goals omega)
   |refine zb (λ_=>?_) (λ_=>?_)
 refine zp (λu w'=>u=[.bool (decide (a<1\/b<1))]/\w'=w2) (λC f=>?_) ?_
 ·try simp only[push_cast]
  refine zb (λd=>?_) (λd=>?_)
  ·exact f _ _ ⟨by rw[decide_eq_true (.inl d)],rfl⟩
  ·refine f _ _ ⟨?_,rfl⟩;simp only[d,false_or]
 rintro u g w3 ⟨rfl,rfl⟩;have i:IntKind.i64.wrap (a+b)=a+b:=zl oM oM;simp only[push_cast,i]
 repeat' first
  |exact h _ (by
   repeat' split
   all_goals omega)
  |refine zb (λ_=>?_) (λ_=>?_)
theorem l2Sort_spec:∀(t:M.Tm) {w:World} {K:oK} {F G:Nat->Prop} {dv v:Value} {ds:List M.Dcl},DclsR F w dv ds->M.declOk ds=true->TermR G w v t->(∀w',Ext w w'->K (nI (M.sortM ds t)) w')->vcall Ww #[dv,v] w K:=by
 refine M.Tm.ind λt U w K F G dv v ds O f ht W=>?_;refine ze {} Tryz.func69 ?_;obtain⟨ksv,rfl,u⟩:=ht;refine zi λb1 w1 X E Z V=>?_;have m:∀c w',M.sortM ds t=c->Ext w w'->K (nI c) w':=λc w' e he=>e▸W _ he;rw[V.ldAgg (t:=za) zc];refine zL0 (F:=G) (t:=t) ⟨ksv,rfl,u.ext E⟩ λw2 H=>?_;have o:=E.trans H;have y:=V.ext H;simp only[push_cast];refine zo (λa=>?_) (λa=>?_)
 ·exact m _ _ (M.sort_bad (by rw[Bool.not_eq_true];simpa using a)) o
 have A:M.formed t=true:=by simpa using a
 have j:=(M.formed_iff.1 A).1;have q:=O.ext o;simp only[push_cast,y.ld0];refine zb (λd=>?_) (λd=>?_)
 ·have J:t.ks.length=0:=by rw[d] at j;simp[M.arity] at j;omega
  have hs:=M.sort_leaf (ds:=ds) A J;simp only[push_cast,y.ld1,y.ld2];refine spec_VecOk_spec λw3 k=>?_;have C:=y.ext k;refine zo (λb=>?_) (λb=>?_)
  ·simp only[push_cast,C.ld1];exact m _ _ (by rw[hs];unfold M.sortK;rw[if_pos d,if_pos b]) (o.trans k)
  ·exact m _ _ (by rw[hs];unfold M.sortK;rw[if_pos d,b];rfl) (o.trans k)
 refine zb (λl=>?_) (λl=>?_)
 ·have J:t.ks.length=0:=by rw[l] at j;simp[M.arity] at j;omega
  have hs:=M.sort_leaf (ds:=ds) A J;have Y:=M.findD_lt ds t.s;simp only[push_cast,y.ld3];refine l2Find_spec q ?_
  try simp only[push_cast]
  refine zb (λb=>?_) (λb=>?_)
  ·exact m _ _ (by rw[hs];unfold M.sortK;rw[if_neg d,if_pos l,if_pos b]) o
  ·try simp(disch:=first|omega|simp only[push_cast]) only[push_cast,q.iaddr]
   try simp(disch:=first|omega|simp only[push_cast]) only[push_cast,q.load1]
   exact m _ _ (by rw[hs];unfold M.sortK;rw[if_neg d,if_pos l,if_neg b]) o
 refine zb (λD=>?_) (λD=>?_)
 ·have J:t.ks.length=0:=by rw[D] at j;simp[M.arity] at j;omega
  have hs:=M.sort_leaf (ds:=ds) A J;exact m _ _ (by rw[hs];unfold M.sortK;rw[if_neg d,if_neg l,if_pos oM];rfl) o
 have hlen:t.ks.length=1\/t.ks.length=2\/t.ks.length=3:=by
  have h0:M.arity t.op≠0:=λh=>by have:=M.arity_zero h;omega
  have N:M.arity t.op<=3:=by
   unfold M.arity
   repeat' split
   all_goals omega
  omega
 have x:=u.ext o;simp(disch:=first|omega|simp only[push_cast]) only[push_cast,y.ld4,x.iaddr];refine x.load zc oM λx0 R=>?_;refine U (M.kid t 0) (M.kid_mem oM) q f R λw3 k=>?_;have C:=y.ext k;have p:=o.trans k;have g:=u.ext p;have L:=M.sort_range f (M.kid t 0);simp(disch:=first|omega|simp only[push_cast]) only[push_cast,C.ld4,g.len];refine zb (λl1=>?_) (λl1=>?_)
 ·rw[C.ldAgg (t:=za) zc];refine l2One_spec (F:=G) (t:=t) ⟨ksv,rfl,g⟩ L λw4 r=>?_;exact m _ _ (M.sort_one f A oM) (p.trans r)
 simp(disch:=first|omega|simp only[push_cast]) only[push_cast,C.ld4,g.iaddr];refine g.load zc oM λx1 S=>?_;refine U (M.kid t 1) (M.kid_mem oM) (O.ext p) f S λw4 r=>?_;have N:=C.ext r;have i:=p.trans r;have n:=u.ext i;have Q:=M.sort_range f (M.kid t 1);simp(disch:=first|omega|simp only[push_cast]) only[push_cast,N.ld4,N.ld0,n.len];refine zb (λl2=>?_) (λl2=>?_)
 ·refine l2Both_spec L Q ?_;exact m _ _ (M.sort_two f A oM) i
 have B:=M.sort_three (ds:=ds) A oM;refine zb (λz=>?_) (λz=>?_)
 ·exact m _ _ (by rw[B,if_pos (.inl z)]) i
 simp(disch:=first|omega|simp only[push_cast]) only[push_cast,N.ld4,n.iaddr];refine n.load zc oM λx2 T=>?_;refine U (M.kid t 2) (M.kid_mem oM) (O.ext i) f T λw5 I=>?_;simp only[push_cast];refine zb (λz2=>?_) (λz2=>?_)
 ·exact m _ _ (by rw[B,if_pos (.inr z2)]) (i.trans I)
 ·exact m _ _ (by rw[B,if_neg (λh=>h.elim z z2)]) (i.trans I)
def Ji (ds:List M.Dcl):Prop:=∀i,i<ds.length->(ds.getD i x20).1.size<=9223372036854775807
theorem spec_TermSort_spec {dv v:Value} {ds:List M.Dcl} {t:M.Tm} (o:Ji ds) (q:DclsR F w dv ds) (x:TermR G w v t) (p:∀w',Ext w w'->K (nI (M.tsort ds t)) w'):vcall JM #[dv,v] w K:=by
 refine ze {} Tryz.func44 ?_;obtain⟨cs,rfl,e⟩:=x.cells;refine zi λb1 w1 s g u l=>?_;rw[l.ldAgg (t:=za) (by rw[zQ e];exact zc)];refine spec_TermMany_spec t (e.ext g).term λw2 i=>?_;simp only[push_cast];have f:=g.trans i;refine spec_DeclOk_spec (q.ext f) o λw3 j=>?_;have d:=f.trans j;have k:=p w3 d;unfold M.tsort at k;simp only[push_cast];refine zo (λa=>?_) (λa=>?_)
 ·rwa[if_neg (λh=>by rw[h.2] at a;cases a)] at k
 rw[gM] at a;refine zb (λb=>?_) (λb=>?_)
 ·rw[if_neg (λh=>by
   have l:=M.fits_iff.1 h.1;unfold M.manyM at b;rw[if_pos h.1] at b;omega)] at k
  exact k
 have n:M.fits t=true:=by
  by_cases h:M.fits t=true
  ·exact h
  ·unfold M.manyM at b;rw[if_neg h] at b;omega
 refine zb (λc=>?_) (λc=>?_)
 ·unfold M.lvlM at c;rw[if_pos n] at c;have:=M.fits_iff.1 n;omega
 have r:=(l.ext i).ext j;rw[r.ldAgg (t:=za) (by rw[zQ e];exact zc)];refine l2Sort_spec t (q.ext d) a (e.ext d).term λy m=>?_;have:=p y (d.trans m);unfold M.tsort at this;rwa[if_pos ⟨n,a⟩] at this
theorem Xa {b:Bool} (a:K (nI (M.b2i b)) w):vcall WB #[.bool b] w K:=by
 refine ze {} Tryz.func106 ?_;refine zo (λh=>?_) (λh=>?_)<;>subst h<;>exact a
def Zm0 (H:Nat->Prop) (w:World) (ev:Value) (env:List Int) (t:M.Tm):Prop:=Ints H w ev env\/nnB t=true
theorem qs {H:Nat->Prop} {ev:Value} {env:List Int} {t:M.Tm} {w w':World} (h:Zm0 H w ev env t) (he:Ext w w'):Zm0 H w' ev env t:=h.imp (λh=>h.ext he) id
theorem j9 {H:Nat->Prop} {ev:Value} {env:List Int} {t k:M.Tm} (h:Zm0 H w ev env t) (a:k∈t.ks):Zm0 H w ev env k:=h.imp id λh=>(nnB_iff.1 h).2 k a
theorem ja0 {H:Nat->Prop} {ev:Value} {env:List Int} {t:M.Tm} (h:Zm0 H w ev env t) (a:t.op=21):Ints H w ev env:=h.elim id λh=>absurd a (nnB_iff.1 h).1
def jt0 (t:M.Tm):Prop:=∀{w:World} {K:oK} {F G H:Nat->Prop} {dv v ev:Value} {ds:List M.Dcl} {env:List Int},DclsR F w dv ds->M.envOk ds env=true->TermR G w v t->Zm0 H w ev env t->M.sortM ds t≠ -1->(∀w',Ext w w'->K (nI (M.evalM ds env t)) w')->vcall Wz #[dv,v,ev] w K
theorem l2Vec_spec {t:M.Tm} (B:jt0 t) {H:Nat->Prop} {dv v ev:Value} {ds:List M.Dcl} {env:List Int} (l:DclsR F w dv ds) (he:M.envOk ds env=true) (x:TermR G w v t) (z:Zm0 H w ev env t) (hs:M.sortM ds t≠ -1) (p:∀w',Ext w w'->K (xY (M.sortM ds t) (M.evalM ds env t)) w'):vcall zq0 #[dv,v,ev] w K:=by
 refine ze {ord:=[oz 1 [0,1,3,4,5,2,6,7,8] [(0,[1,3,4,5]),(1,[3,4,5]),(3,[4,5,2]),(4,[5,2]),(5,[2])]]} Tryz.func216 ?_;obtain⟨cs,rfl,c⟩:=x.cells;refine zi λb1 w1 q f s m=>?_;refine zj zX λb2 w2 r g u n=>?_;refine zd λw3 d _=>?_;have k:=(m.ext g).ext d;have b:=(f.trans g).trans d;have i:aggB za cs.length=true:=by rw[zQ c];exact zc
 rw[k.ldAgg (t:=za) i];refine⟨rfl,?_⟩;rw[k.ldAgg (t:=za) i];refine⟨rfl,l2Sort_spec t (l.ext b) (M.env_ok he).1 (c.ext b).term λC e=>?_⟩;rw[(k.ext e).ldAgg (t:=za) i];have a:=b.trans e;refine⟨⟨rfl,rfl⟩,B (l.ext a) he (c.ext a).term (qs z a) hs λD h=>?_⟩;simp only[push_cast,true_and];refine stVec (((n.ext d).ext e).ext h) λE j _ o=>?_;rw[o.lv rK];exact p _ (Ext.then (a.trans h) j λy A=>by subst A;have:=f.size;omega)
theorem l2Do_spec {t:M.Tm} (W:∀k,k∈t.ks->jt0 k) {H:Nat->Prop} {dv v ev:Value} {ds:List M.Dcl} {env:List Int} (T:DclsR F w dv ds) (he:M.envOk ds env=true) (ht:TermR G w v t) (V:Zm0 H w ev env t) (hs:M.sortM ds t≠ -1)
  (ho:(1<=t.op/\t.op<=17)\/t.op=22) (I:∀w',Ext w w'->K (nI (M.evalM ds env t)) w'):vcall yv0 #[dv,v,ev] w K:=by
 refine ze {} Tryz.func183 ?_;obtain⟨ksv,rfl,z⟩:=ht;have a3:1<=t.ks.length:=by
  rcases(by omega:t.op=22\/(t.op=1\/t.op=2)\/(3<=t.op/\t.op<=14)\/(15<=t.op/\t.op<=17)) with h|h|h|h
  ·have:=(M.eval_cut he hs h).1;omega
  ·have:=(M.eval_un he hs h).1;omega
  ·have:=(M.eval_bin he hs h.1 h.2).1;omega
  ·have:=(M.eval_cmp he hs h.1 h.2).1;omega
 refine zi λb1 w1 a0 f a7 L=>?_;have m:=z.ext f;simp(disch:=first|omega|simp only[push_cast]) only[push_cast,L.ld4,m.iaddr];refine m.load zc oM λx0 Q=>?_;refine l2Vec_spec (W (M.kid t 0) (M.kid_mem oM)) (T.ext f) he Q (j9 (qs V f) (M.kid_mem oM)) (M.good_kid hs oM) λw2 p=>?_;refine zj zX λb2 w3 a1 x a8 h3=>?_;refine stVec h3 λw4 C _ E=>?_;have aa:=f.size;have ab:=p.size;have b:Ext w w4:=Ext.then ((f.trans p).trans x) C λy l=>by subst l;omega
 have a4:=L.lt;have n:=((L.ext p).ext x).same C oM;simp only[push_cast,n.ld0];refine zb (λr=>?_) (λr=>?_)
 ·obtain⟨hl,hv,d⟩:=M.eval_cut he hs r;simp only[push_cast,E.ldAgg (t:=zg) zr,n.ld1,n.ld2];refine spec_VecCut_spec λY a=>?_;simp only[push_cast];refine zj zX λb3 Z u c A s=>?_;refine stVec s λD e _ q=>?_;simp only[push_cast,q.ld1];have:=I D (Ext.then ((b.trans a).trans c) e λy l=>by subst l;have:=(b.trans a).size;omega);rwa[d] at this
 have g:=z.ext b;simp only[push_cast,n.ld4,g.len];refine zb (λl1=>?_) (λl1=>?_)
 ·have j:t.op=1\/t.op=2:=by
   rcases(by omega:(t.op=1\/t.op=2)\/(3<=t.op/\t.op<=14)\/(15<=t.op/\t.op<=17)) with h|h|h
   ·exact h
   ·have:=(M.eval_bin he hs h.1 h.2).1;omega
   ·have:=(M.eval_cmp he hs h.1 h.2).1;omega
  obtain⟨hl,hv,d⟩:=M.eval_un he hs j;simp only[push_cast,E.ldAgg (t:=zg) zr,n.ld0];refine spec_VecUn_spec λY a=>?_;simp only[push_cast];refine zj zX λb3 Z u c A s=>?_;refine stVec s λD e _ q=>?_;simp only[push_cast,q.ld1];have:=I D (Ext.then ((b.trans a).trans c) e λy l=>by subst l;have:=(b.trans a).size;omega);rwa[d] at this
 have j:3<=t.op/\t.op<=17:=by
  rcases(by omega:(t.op=1\/t.op=2)\/(3<=t.op/\t.op<=17)) with h|h
  ·have:=(M.eval_un he hs h).1;omega
  ·exact h
 have a5:t.ks.length=2:=by
  rcases(by omega:(3<=t.op/\t.op<=14)\/(15<=t.op/\t.op<=17)) with h|h
  ·exact(M.eval_bin he hs h.1 h.2).1
  ·exact(M.eval_cmp he hs h.1 h.2).1
 simp(disch:=first|omega|simp only[push_cast]) only[push_cast,n.ld4,g.iaddr];refine g.load zc oM λx1 R=>?_;refine l2Vec_spec (W (M.kid t 1) (M.kid_mem oM)) (T.ext b) he R (j9 (qs V b) (M.kid_mem oM)) (M.good_kid hs oM) λY a=>?_;refine zj zX λb3 Z u c A s=>?_;refine stVec s λD e _ q=>?_;have ac:=b.size;have ad:=a.size;have o:Ext w D:=Ext.then ((b.trans a).trans c) e λy l=>by subst l;omega
 have a6:=E.lt;have U:=n.lt;have S:=((n.ext a).ext c).same e oM;have X:=((E.ext a).ext c).same e oM;simp only[push_cast,S.ld0];refine zb (λJ=>?_) (λJ=>?_)
 ·obtain⟨_,_,_,d⟩:=M.eval_cmp he hs oM j.2;simp only[push_cast,X.ldAgg (t:=zg) zr,q.ldAgg (t:=zg) zr,S.ld0];refine spec_VecCmp_spec λw8 i=>?_;simp only[push_cast];refine Xa ?_;have:=I _ (o.trans i);rwa[d] at this
 ·obtain⟨_,_,_,d⟩:=M.eval_bin he hs j.1 oM;simp only[push_cast,X.ldAgg (t:=zg) zr,q.ldAgg (t:=zg) zr,S.ld0];refine spec_VecBin_spec λw8 i=>?_;simp only[push_cast];refine zj zX λb4 w9 a2 O a9 h9=>?_;refine stVec h9 λw10 B _ N=>?_;simp only[push_cast,N.ld1];have:=I w10 (Ext.then ((o.trans i).trans O) B λy l=>by subst l;have:=(o.trans i).size;omega);rwa[d] at this
theorem l2Eval_spec:∀(t:M.Tm),jt0 t:=by
 refine M.Tm.ind λt E=>?_;intro w K F G H dv v ev ds env z he ht B hs X;refine ze {ord:=[oz 11 [0,1,2,3,4,5,7,8,9,10,11,12,6,13,14,15] [(0,[1,2,3,4,5,7,8,9,10,11,12]),(1,[5,7,8,9,10,11,12]),(2,[5,7,8,9,10,11,12]),(3,[5,7,8,9,10,11,12]),(4,[5,7,8,9,10,11,12]),(5,[7,8,9,10,11,12]),(7,[8,9,10,11,12,6]),(8,[12,6]),(9,[12,6]),(10,[12,6]),(11,[12,6]),(12,[6])],oz 13 [0,1,2,3,4,5,7,8,9,10,11,12,6,13,14,15] [(0,[1,2,3,4,5,7,8,9,10,11,12]),(1,[5,7,8,9,10,11,12]),(2,[5,7,8,9,10,11,12]),(3,[5,7,8,9,10,11,12]),(4,[5,7,8,9,10,11,12]),(5,[7,8,9,10,11,12]),(7,[8,9,10,11,12,6]),(8,[12,6]),(9,[12,6]),(10,[12,6]),(11,[12,6]),(12,[6])]]} Tryz.func146 ?_;obtain⟨ksv,rfl,p⟩:=ht;refine zi λb1 w1 Z f a4 D=>?_;have l:=p.ext f;have A:∀c w',M.evalM ds env t=c->Ext w w'->K (nI c) w':=λc w' e he=>e▸X _ he;have Y:=M.arity_ops (o:=t.op) (by have:=(M.formed_iff.1 (M.sort_parts hs).1).1;omega);simp only[push_cast,D.ld0];refine zb (λr=>?_) (λr=>?_)
 ·simp only[push_cast,D.ld2];exact A _ _ (by rw[M.eval_leaf (.inl r),if_pos r]) f
 refine zb (λn=>?_) (λn=>?_)
 ·have a3:=M.findD_lt ds t.s;have a2:=M.name_found hs n;have a1:=(M.env_ok he).2.1;have q:=(ja0 B n).ext f;simp only[push_cast,D.ld3];refine l2Find_spec (z.ext f) ?_;simp(disch:=first|omega|simp only[push_cast]) only[push_cast,q.iaddr,q.load];exact A _ _ (by rw[M.eval_leaf (.inr (.inl n)),if_neg r,if_pos n]) f
 refine zb (λO=>?_) (λO=>?_)
 ·exact A _ _ (by rw[M.eval_leaf (.inr (.inr O)),if_neg r,if_neg n]) f
 refine zb (λP=>?_) (λP=>?_)
 ·obtain⟨V,R,j⟩:=M.eval_no he hs P;simp(disch:=first|omega|simp only[push_cast]) only[push_cast,D.ld4,l.iaddr];refine l.load zc oM λx0 L=>?_;refine E (M.kid t 0) (M.kid_mem oM) (z.ext f) he L (j9 (qs B f) (M.kid_mem oM)) (M.good_kid hs oM) λw2 h=>?_;simp only[push_cast];have a0:=M.inS_zero R;rw[zl oM oM];exact A _ _ j (f.trans h)
 refine zb (λC=>?_) (λC=>?_)
 ·obtain⟨V,R,S,j⟩:=M.eval_two he hs (.inl C);rw[if_pos C] at j;refine zd λw2 h _=>?_;have I:=D.ext h;have a:=f.trans h;have g:=p.ext a;simp(disch:=first|omega|simp only[push_cast]) only[push_cast,I.ld4,g.iaddr,true_and];obtain⟨css,m,U,u⟩:=g;rw[m.ldAgg zc (i:=0) oM];simp only[true_and];rw[m.ldAgg zc (i:=1) oM];simp only[true_and];refine E (M.kid t 0) (M.kid_mem oM) (z.ext a) he (u 0 oM).term (j9 (qs B a) (M.kid_mem oM)) (M.good_kid hs oM) λw3 d=>?_;have T:=I.ext d;have x:=p.ext (a.trans d);have y:=m.ext d;simp(disch:=first|omega|simp only[push_cast]) only[push_cast,T.ld4,x.iaddr,true_and];rw[y.ldAgg zc (i:=1) oM];refine⟨⟨rfl,rfl⟩,?_⟩
  try simp only[true_and,and_self]
  refine E (M.kid t 1) (M.kid_mem oM) (z.ext (a.trans d)) he ((u 1 oM).ext d).term (j9 (qs B (a.trans d)) (M.kid_mem oM)) (M.good_kid hs oM) λw4 J=>?_;simp only[push_cast,true_and];have e:IntKind.i64.wrap (M.evalM ds env (M.kid t 0)*M.evalM ds env (M.kid t 1))=M.evalM ds env (M.kid t 0)*M.evalM ds env (M.kid t 1):=by
   rcases M.inS_zero R with e|e<;>rcases M.inS_zero S with W|W<;>rw[e,W]<;>rfl
  rw[e];exact A _ _ j ((a.trans d).trans J)
 refine zb (λQ=>?_) (λQ=>?_)
 ·obtain⟨V,R,S,j⟩:=M.eval_two he hs (.inr Q);rw[if_neg C] at j;refine zd λw2 h _=>?_;have I:=D.ext h;have a:=f.trans h;have g:=p.ext a;simp(disch:=first|omega|simp only[push_cast]) only[push_cast,I.ld4,g.iaddr,true_and];obtain⟨css,m,U,u⟩:=g;rw[m.ldAgg zc (i:=0) oM];simp only[true_and];rw[m.ldAgg zc (i:=1) oM];simp only[true_and];refine E (M.kid t 0) (M.kid_mem oM) (z.ext a) he (u 0 oM).term (j9 (qs B a) (M.kid_mem oM)) (M.good_kid hs oM) λw3 d=>?_;have T:=I.ext d;have x:=p.ext (a.trans d);have y:=m.ext d;simp(disch:=first|omega|simp only[push_cast]) only[push_cast,T.ld4,x.iaddr,true_and];rw[y.ldAgg zc (i:=1) oM];refine⟨⟨rfl,rfl⟩,?_⟩
  try simp only[true_and,and_self]
  refine E (M.kid t 1) (M.kid_mem oM) (z.ext (a.trans d)) he ((u 1 oM).ext d).term (j9 (qs B (a.trans d)) (M.kid_mem oM)) (M.good_kid hs oM) λw4 J=>?_;refine l1Max_spec ?_;exact A _ _ j ((a.trans d).trans J)
 refine zb (λN=>?_) (λN=>?_)
 ·obtain⟨V,R,j⟩:=M.eval_if he hs N;simp(disch:=first|omega|simp only[push_cast]) only[push_cast,D.ld4,l.iaddr];refine l.load zc oM λx0 L=>?_;refine E (M.kid t 0) (M.kid_mem oM) (z.ext f) he L (j9 (qs B f) (M.kid_mem oM)) (M.good_kid hs oM) λw2 h=>?_;have I:=D.ext h;have a:=f.trans h;have g:=p.ext a;simp only[push_cast];refine zb (λb=>?_) (λb=>?_)
  ·rw[if_pos b] at j;simp(disch:=first|omega|simp only[push_cast]) only[push_cast,I.ld4,g.iaddr];refine g.load zc oM λx1 q=>?_;refine E (M.kid t 1) (M.kid_mem oM) (z.ext a) he q (j9 (qs B a) (M.kid_mem oM)) (M.good_kid hs oM) λw3 d=>?_;exact A _ _ j (a.trans d)
  ·rw[if_neg b] at j;simp(disch:=first|omega|simp only[push_cast]) only[push_cast,I.ld4,g.iaddr];refine g.load zc oM λx1 q=>?_;refine E (M.kid t 2) (M.kid_mem oM) (z.ext a) he q (j9 (qs B a) (M.kid_mem oM)) (M.good_kid hs oM) λw3 d=>?_;exact A _ _ j (a.trans d)
 ·rw[D.ldAgg (t:=za) zc];refine l2Do_spec (G:=G) (t:=t) (λk A=>E k A) (z.ext f) he ⟨ksv,rfl,l⟩ (qs B f) hs oM λw2 h=>?_;exact X _ (f.trans h)
end
section
variable {w:World} {K:oK}
@[push_cast] theorem bd_T3 (o a b:Int):yC za [(0,nI o),(1,nI a),(2,nI b)] w K=K (.agg ⟨[nI o,nI a,nI b,.string ⟨#[]⟩,.slice none 0 0]⟩) w:=zT j0 (us:=[[nI o],[nI a],[nI b]]) rfl rfl
@[push_cast] theorem bd_T1 (o:Int):yC za [(0,nI o)] w K=K (.agg ⟨[nI o,nI 0,nI 0,.string ⟨#[]⟩,.slice none 0 0]⟩) w:=zT j0 (us:=[[nI o]]) rfl rfl
@[push_cast] theorem bd_Tk (o:Int) (a:Option Addr) (l c:Nat):yC za [(0,nI o),(4,.slice a l c)] w K=K (.agg ⟨[nI o,nI 0,nI 0,.string ⟨#[]⟩,.slice a l c]⟩) w:=zT j0 (us:=[[nI o],[.slice a l c]]) rfl rfl
theorem qc {b:Nat} {cs cs':List Value} {t:TypeId} {G:Nat->Prop} {f:M.Tm} (h:Blk w b cs t) (k:cs.length=5) (c:TmR G w cs' f) (i:∀x,G x->x≠b) (j:∀w',Same (· =b) w w'->w'.heap.size=w.heap.size->TermR G w' (.agg ⟨cs'⟩) f->K (.agg ⟨cs'⟩) w'):
  zU za (oP b 0) (.agg ⟨cs'⟩) w λ_ w1=>vlv za (oP b 0) w1 λr w2=>K r w2:=by
 refine stTerm h k c λw' a d g=>?_;rw[g.lv (by rw[zQ c];exact zc)];exact j w' a d (c.same a λx l _ e=>i x l e).term
theorem zI0 {G:Nat->Prop} (o a b:Int) (s:ByteArray):TmR G w [nI o,nI a,nI b,.string s,.slice none 0 0] (.mk o a b s []):=TmR.of (t:= .mk o a b s []) TmsR.nil
end
section
variable {w:World} {K:oK} {G:Nat->Prop}
theorem kidsL {css:List (List Value)} {ts:List M.Tm} (l:css.length=ts.length) (n:css.length<=100) (h:∀i,i<ts.length->TmR G w (css.getD i []) (ts.getD i default))
  (j:∀w' a,Ext w w'->w'.heap.size=w.heap.size+1->TmsR (λz=>G z\/z=w.heap.size) w' (.slice a css.length css.length) ts->K (.slice a css.length css.length) w'):
  vbuildS zk (css.map λc=>Value.agg ⟨c⟩).length ((css.map λc=>Value.agg ⟨c⟩).zipIdx.map λp=>(p.2,p.1)) w K:=by
 have d:∀u,u∈css->u.length=5:=λu hu=>by
  obtain⟨i,hi,rfl⟩:=gm hu;have:=zQ (h i oM);rwa[y3,V0 hi] at this
 refine vbuildS_row (us:=css) (k:=5) yp yB zn (by rw[pa];rfl) d (by rw[y4];omega) λb w' o he hs g=>?_;rw[y4];refine j w' _ he hs ⟨css,?_,l,λi hi=>((h i hi).ext he).weaken λx f _=> .inl f⟩;have m:Own 0 5 zk w' (.slice (some ⟨b,0,none⟩) css.length css.length) css:=Blk.ownk (by rw[qm];exact g) d rfl oM;exact m.sl.weaken λx f _=> .inr (by have e:x=b:=(X0 f).symm;omega)
theorem Yw0 {v0:Value} {t0:M.Tm} (b:TermR G w v0 t0) (c:∀w' a,Ext w w'->w'.heap.size=w.heap.size+1->TmsR (λz=>G z\/z=w.heap.size) w' (.slice a 1 1) [t0]->K (.slice a 1 1) w'):vbuildS zk 1 [(0,v0)] w K:=by
 obtain⟨c0,rfl,d⟩:=b.cells;refine kidsL (css:=[c0]) (ts:=[t0]) rfl (by simp) (λi hi=>?_) c;have:i=0:=by simpa using hi
 subst this;exact d
theorem kids2 {v0 v1:Value} {t0 t1:M.Tm} (b:TermR G w v0 t0) (c:TermR G w v1 t1) (d:∀w' a,Ext w w'->w'.heap.size=w.heap.size+1->TmsR (λz=>G z\/z=w.heap.size) w' (.slice a 2 2) [t0,t1]->K (.slice a 2 2) w'):vbuildS zk 2 [(0,v0),(1,v1)] w K:=by
 obtain⟨c0,rfl,e⟩:=b.cells;obtain⟨c1,rfl,f⟩:=c.cells;refine kidsL (css:=[c0,c1]) (ts:=[t0,t1]) rfl (by simp) (λi hi=>?_) d
 match i,hi with
 |0,_=>exact e
 |1,_=>exact f
abbrev VZ:List Value:=[nI 0,nI 0,nI 0,.string ⟨#[]⟩,.slice none 0 0]
end
theorem dtSize {ds:List M.Dcl} {t:M.Tm}:M.tsort ds t= -1\/(0<=M.tsort ds t/\M.tsort ds t<=4/\M.tsort ds t=M.sortM ds t/\M.fits t=true/\M.declOk ds=true):=by
 unfold M.tsort;split
 ·rename_i h;have:=M.sort_range h.2 t;by_cases e:M.sortM ds t= -1
  ·exact .inl e
  ·exact .inr ⟨oM,oM,rfl,h.1,h.2⟩
 ·exact .inl rfl
section
variable {w:World} {F:Nat->Prop}
abbrev km0 (o:Int) (ks:List M.Tm):M.Tm:= .mk o 0 0 M.nada ks
theorem JG {o:Int} {a:Option Addr} {l c:Nat} {ks:List M.Tm} (h:TmsR F w (.slice a l c) ks):TermR F w (.agg ⟨[nI o,nI 0,nI 0,.string ⟨#[]⟩,.slice a l c]⟩) (km0 o ks):=⟨_,rfl,h⟩
theorem Xs {o:Int}:TermR F w (.agg ⟨[nI o,nI 0,nI 0,.string ⟨#[]⟩,.slice none 0 0]⟩) (km0 o []):=JG TmsR.nil
end
section
variable {w:World} {K:oK} {F D G:Nat->Prop}
theorem flatten_setEl {k:Nat}:∀{xs:List (List Value)} (_:∀x,x∈xs->x.length=k) {i:Nat} {y:List Value},y.length=k->i<xs.length->(xs.set i y).flatten=xs.flatten.take (i*k)++y++xs.flatten.drop (i*k+k)
 |[],_,i,y,_,hi=>by simp at hi
 |x::r,h,i,y,c,hi=>by
  have e:=h x gi;cases i with
  |zero=>
   simp only[G5,GC,PF,pG,Ga,gQ];rw[List.drop_append,PG oM,Ga,show k-x.length=0 by omega,PQ]
  |succ i=>
   simp only[Pt,GC];have a:(i+1)*k=x.length+i*k:=by rw[GS];omega
   have b:x.length+i*k+k=x.length+(i*k+k):=oM;rw[flatten_setEl (λz d=>h z (gk _ d)) c (by simpa using hi),a,b,List.take_length_add_append,List.drop_length_add_append];simp only[gY]
set_option maxRecDepth 100000 in
theorem own_stEl {v:Value} {k:Nat} {t e:TypeId} {xs:List (List Value)} {y:List Value} (h:Own 0 k t w v xs) (J:0<k) (n:y.length=k) (B:∀c,c∈y->c.oneCell'=true) (u:aggB e k=true) {i:Nat} (hi:i<xs.length)
  (C:∀w',Own 0 k t w' v (xs.set i y)->Same (λb=>v.ownBlock=some b) w w'->w'.heap.size=w.heap.size->K undef w'):zU e (.pointer (some (eaddr v k i))) (.agg ⟨y⟩) w K:=by
 have E:=flatten_len h.wide;rcases h.row with⟨H,s⟩;rcases s with⟨rfl,L⟩|⟨g,cap,cur,rfl,o,x,j,p,r,f⟩
 ·omega
 ·have F:i*k+k<=xs.length*k:=by rw[<-Nat.succ_mul];exact pF _ hi
  have G:xs.length*k<=cap*k:=pF _ j;have d:=run_storeCells_at (P:=P) g (i*k) (ZU t) y 0 cur w x oM B;have he:eaddr (.slice (some ⟨g,0,none⟩) xs.length cap) k i=⟨g,i*k,none⟩:=by
   simp only[eaddr,gQ]
  rw[he];have D:cur.toList.length=cap*k:=(by simpa using r);have m:(cur.toList.take (i*k+0)++y++cur.toList.drop (i*k+0+y.length)).toArray.size=cap*k:=by
   simp only[GW,K3,gh,GN];omega
  have a:(cur.toList.take (i*k+0)++y++cur.toList.drop (i*k+0+y.length)).toArray.toList.take (xs.length*k)=(xs.set i y).flatten:=by
   rw[flatten_setEl h.wide n hi,<-f,n];simp only[GP];have I:(cur.toList.take (i*k)).length=i*k:=by rw[gh];omega
   rw[List.take_append,List.take_append,gB (l:=List.take (i*k) cur.toList) oM,gB (l:=y) oM,ph,Gy oM,List.drop_take];congr 2;rw[K3,gh];omega
  refine⟨(),_,?_,C (w.setRow g (cur.toList.take (i*k+0)++y++cur.toList.drop (i*k+0+y.length)).toArray) ⟨?_,?_⟩ ⟨rfl,rfl,rfl,by simp,λq _ A=>setRow_other w g q _ (λe=>A (by rw[e];rfl))⟩ (by simp)⟩
  ·simp only[Instr.storeAt,Instr.sureAddr,Sem.run_bind,Sem.run_pure,Result.andThen_ok,storeVar,j5 u,Value.cells];simp only[GW,n,ne_eq,not_true_eq_false,if_false];rw[n] at d;exact d
  ·rw[gE];refine⟨?_,.inr ⟨g,cap,_,rfl,o,setRow_heap w g _ _ _ _ x,j,p,m,a⟩⟩;rw[<-a,gh];have:=m;simp only[GW] at this;simp only[List.toList_toArray,this];omega
  ·intro z u;obtain⟨q,A,rfl⟩:=gm u;rw[G3];split
   ·exact n
   ·exact h.wide _ (G2 _)
end
section
variable {w:World} {K:oK} {F D G:Nat->Prop}
theorem getD_set {α:Type} {xs:List α} {i j:Nat} {x d:α} (hi:i<xs.length):(xs.set i x).getD j d=if i=j then x else xs.getD j d:=by
 simp only[y3,List.getElem?_set];by_cases e:i=j
 ·subst e;simp[hi]
 ·simp[e]
theorem ints_small {v:Value} {xs:List Int} (h:Ints F w v xs):xs.length<=9223372036854775807:=by
 obtain⟨_,_,_,a,b,_⟩:=h.shape;simp at a;omega
theorem vmkS_agg {bs n k:Nat} {t:TypeId} {cs:List Value} {z A:IntKind} (C:elZ t k bs=true) (G:0<k) (g:yl (ZU t) (.agg ⟨cs⟩)) (m:bs*n<=281474976710656) (o:n<=9223372036854775807)
  (B:∀v' w',Own 0 k t w' v' (List.replicate n cs)->Ext w w'->(∀b,v'.ownBlock=some b->w.heap.size<=b)->K v' w'):vmkS t (.int z n) (.int A n) w K:=by
 obtain⟨hu,i,J,hi,f,u,p,v⟩:=zU0 C;have:J= .agg ⟨cs⟩:=by
  unfold yl at g;rw[hi] at g;simp only[f,Gh] at g;exact g
 subst this;subst p;have c:cs.length=k:=v;obtain⟨w',H,a,r⟩:=run_make_full (P:=P) w 0 t (ZU t) i _ k hu hi f u z A n m (by simpa[maxLen] using o) oM;have hw:∀x,x∈List.replicate n cs->x.length=k:=λx I=>by rw[GQ I];exact c
 refine⟨_,w',H,B _ w' ⟨?_,hw⟩ ((Same.of_grown r).mono λ_ _ h=>by cases h) λb D=>by cases D;exact gu _⟩;have e:(madeCells (Value.agg ⟨cs⟩).cells (n*k)).toList=(List.replicate n cs).flatten:=by
  refine gF (by rw[flatten_len hw];simp[madeCells]) λj L l=>?_;have F:j<n*k:=by rw[flatten_len hw,gy] at l;exact l
  have y:j/k<n:=Nat.div_lt_of_lt_mul (by rw[Nat.mul_comm];exact F);have d:=pR j G;have q:=flatten_get hw (i:=j/k) (j:=j%k) (by simpa using y) d;have s:j/k*k+j%k=j:=by rw[Nat.mul_comm];exact Nat.div_add_mod j k
  rw[s,V0 l] at q;have E:(List.replicate n cs).getD (j/k) []=cs:=(by simp[y3,y]);rw[E,V0 oM] at q;rw[X0 q];simp[madeCells,Value.cells,c,d]
 rw[gy];rw[e] at a;exact a
theorem tmR_one {cs:List Value} {t:M.Tm} (h:TmR F w cs t):∀c,c∈cs->c.oneCell'=true:=λc e=>by
 obtain⟨f,rfl,d,b,_⟩:=h.inv;obtain⟨a,l,rfl,_⟩:=b.shape;simp only[gd,gq,or_false] at e;rcases e with rfl|rfl|rfl|rfl|rfl<;>rfl
def xt0:M.Tm->Bool:=M.Tm.fold λt xs=>decide (t.ks.length<=1048576)&&xs.all id
theorem ZK0 (t:M.Tm):xt0 t=(decide (t.ks.length<=1048576)&&(t.ks.map xt0).all id):=M.Tm.fold_eq _ t
theorem fitB_iff {t:M.Tm}:xt0 t=true↔t.ks.length<=1048576/\∀k,k∈t.ks->xt0 k=true:=by
 rw[ZK0,gg,decide_eq_true_eq,gZ];refine and_congr_right λ_=>⟨λh k a=>h _ (gW a),λh y b=>?_⟩;obtain⟨k,a,rfl⟩:=gr.1 b;exact h k a
end
end Go.Proofs.YtolbhkcajhlllaaGreatDoor
section
namespace Go.M
def vecL (w n:Nat):List UInt8:=35::(List.range w).reverse.map λi=>if n/2^i%2=1 then 49 else 48
def digL (n:Int):List UInt8:=[UInt8.ofNat (48+n.toNat)]
def textF (t:Tm) (xs:List (List UInt8)):List UInt8:=
 if t.op=20 then vecL t.a.toNat t.b.toNat else if t.op=21 then t.s.data.toList else if t.op=24 then[116,114,117,101]
 else 40::(wordL t.op++((if t.op=22 then 32::(digL t.a++32::digL t.b) else[])++(xs.flatMap (λx=>32::x)++[41])))
def textL:Tm->List UInt8:=Tm.fold textF
theorem textL_eq (t:Tm):textL t=textF t (t.ks.map textL):=Tm.fold_eq _ t
def Stop (r:List UInt8):Prop:=∀c,r.head?=some c->c=32\/c=41
def Free (a:List UInt8):Prop:=∀c,c∈a->c≠32/\c≠41
theorem atom_cancel:∀{a b r s:List UInt8},Free a->Free b->Stop r->Stop s->a++r=b++s->a=b/\r=s
 |[],[],r,s,_,_,_,_,h=>⟨rfl,h⟩
 |[],y::b,r,s,_,g,j,_,h=>by
  have d:r=y::(b++s):=h;have k:=g y gi;rcases j y (by grind) with e|e
  ·grind
  grind
 |x::a,[],r,s,f,_,_,hs,h=>by
  have d:s=x::(a++r):=h.symm;have k:=f x gi;rcases hs x (by grind) with e|e
  ·grind
  grind
 |x::a,y::b,r,s,f,g,j,hs,h=>by
  have d:x::(a++r)=y::(b++s):=h;simp only[gL] at d;obtain⟨rfl,d⟩:=d;obtain⟨rfl,e⟩:=atom_cancel (λc i=>f c (gk _ i)) (λc i=>g c (gk _ i)) j hs d
  grind
theorem stop_cons {c:UInt8} {r:List UInt8} (h:c=32\/c=41):Stop (c::r):=λd a=>by
 grind
theorem word_free:∀o:Fin 28,Free (wordL o):=by unfold Free;decide+kernel
theorem word_inj:∀o p:Fin 28,wordL o=wordL p->wordL o≠[]->o=p:=by decide+kernel
theorem word_ne:∀o:Fin 28,1<=o.1->(o.1<=17\/o.1=22\/o.1=23\/25<=o.1)->wordL o≠[]:=by decide+kernel
theorem vec_inj:∀w:Fin 5,∀a:Fin 16,∀v:Fin 5,∀b:Fin 16,a.1<2^w.1->b.1<2^v.1->vecL w a=vecL v b->w=v/\a=b:=by decide+kernel
theorem vec_free (w n:Nat):Free (vecL w n):=λc a=>by
 grind [vecL]
theorem dig_inj:∀a b:Fin 4,digL a=digL b->a=b:=by decide+kernel
theorem dig_free:∀a:Fin 4,Free (digL a):=by unfold Free;decide+kernel
section
variable {ds:List Dcl} {t u:Tm}
theorem name_ok (d:declOk ds=true) (hs:sortM ds t≠ -1) (i:t.op=21):t.s.data.toList≠[]/\t.s≠tru/\∀c,c∈t.s.data.toList->97<=c.toNat/\c.toNat<=122:=by
 have f:=name_found hs i;have h:(findD ds t.s).toNat<ds.length:=by have:=(findD_lt ds t.s).2;omega
 have g:=findD_get f;have a:=(decl_iff.1 d).2.1 _ h;unfold dclOk at a;rw[g] at a;simp only[gg,decide_eq_true_eq,nameOk] at a;obtain⟨⟨⟨⟨⟨⟨j,k⟩,b⟩,l⟩,_⟩,_⟩,_⟩:=a;refine⟨λe=>?_,b,λc m=>?_⟩
 ·have:t.s.size=0:=by show t.s.data.size=0;simp_all
  omega
 grind [Array.all_eq_true']
theorem right_op (hs:sortM ds t≠ -1):arity t.op=t.ks.length/\plainM t=true/\((1<=t.op/\t.op<=17)\/(20<=t.op/\t.op<=27)):=by
 obtain⟨a,_,_⟩:=sort_parts hs;simp_all[formed_iff,arity_ops]
theorem leaf_arity {o:Int} (h:o=20\/o=21\/o=24):arity o=0:=by unfold arity;omega
theorem node_arity {o:Int} (h:(1<=o/\o<=17)\/(20<=o/\o<=27)) (a: ¬(o=20\/o=21\/o=24)):1<=arity o:=by
 grind [arity]
theorem vec_ok (hs:sortM ds t≠ -1) (c:t.op=20):vok t.a t.b=true:=by
 have h:=(sort_parts hs).2.2
 grind [sortK]
theorem cut_ab (c:declOk ds=true) (hs:sortM ds t≠ -1) (d:t.op=22):0<=t.b/\t.b<=t.a/\t.a<4:=by
 have h:=(sort_parts hs).2.2;have e:(t.ks.map (sortM ds)).getD 0 0<=4:=by
  by_cases hi:0<t.ks.length
  ·simp_all[sort_range]
  grind
 grind [sortK]
theorem atom_text (f:declOk ds=true) (hs:sortM ds t≠ -1) (h:t.op=20\/t.op=21\/t.op=24):textL t=textF t []/\Free (textL t)/\textL t≠[]/\∀c,(textL t).head?=some c->c≠40:=by
 have g:t.ks=[]:=by grind [List.eq_nil_of_length_eq_zero,right_op,leaf_arity]
 have e:textL t=textF t []:=by rw[textL_eq,g];rfl
 refine⟨e,?_⟩;rw[e];unfold textF;rcases h with o|o|o
 ·rw[if_pos o]
  grind [vec_free,vecL]
 ·rw[if_neg oM,if_pos o];obtain⟨d,i,b⟩:=name_ok f hs o;refine⟨λc a=>?_,d,λc a=>?_⟩
  ·have:=b c a;exact⟨λe=>by simp_all,λe=>by simp_all⟩
  ·have:=b c (List.mem_of_mem_head? a);intro e;simp_all
 grind [Free]
theorem tm_extT {t u:Tm} (c:t.op=u.op) (d:t.a=u.a) (e:t.b=u.b) (f:t.s=u.s) (g:t.ks=u.ks):t=u:=by
 cases t;cases u
 grind [Tm.op,Tm.a,Tm.b,Tm.s,Tm.ks]
theorem plain_ab (h:plainM t=true) (c:t.op≠20/\t.op≠22):t.a=0/\t.b=0:=by
 grind [plainM]
theorem plain_s (h:plainM t=true) (a:t.op≠21):t.s=nada:=by
 grind [plainM]
theorem atom_inj (g:declOk ds=true) (hs:sortM ds t≠ -1) (hu:sortM ds u≠ -1) (l:t.op=20\/t.op=21\/t.op=24) (m:u.op=20\/u.op=21\/u.op=24) (h:textL t=textL u):t=u:=by
 have x:t.ks=[]:=by grind [List.eq_nil_of_length_eq_zero,right_op,leaf_arity]
 have n:u.ks=[]:=by grind [List.eq_nil_of_length_eq_zero,right_op,leaf_arity]
 have j:=(right_op hs).2.1;have d:=(right_op hu).2.1;rw[(atom_text g hs l).1,(atom_text g hu m).1] at h;unfold textF at h;have letter:∀{v:Tm},sortM ds v≠ -1->v.op=21->∀c r,v.s.data.toList=c::r->97<=c.toNat:=by grind [name_ok,List.mem_cons_self]
 have notrue:∀{v:Tm},sortM ds v≠ -1->v.op=21->v.s.data.toList=[116,114,117,101]->False:=λ{v} q i e=>(name_ok g q i).2.1 (by
  have:v.s.data= #[116,114,117,101]:=(by grind);show v.s=tru;have f:v.s=⟨v.s.data⟩:=rfl;rw[f,this];rfl)
 rcases l with o|o|o<;>rcases m with p|p|p
 ·rw[if_pos o,if_pos p] at h;have v1:=vok_lt (vec_ok hs o);have v2:=vok_lt (vec_ok hu p);have w1:=vok_iff.1 (vec_ok hs o);have w2:=vok_iff.1 (vec_ok hu p);have k:((2^t.a.toNat:Nat):Int)=2^t.a.toNat:=(by simp);have f:((2^u.a.toNat:Nat):Int)=2^u.a.toNat:=(by simp);have:=vec_inj ⟨t.a.toNat,oM⟩ ⟨t.b.toNat,oM⟩ ⟨u.a.toNat,oM⟩ ⟨u.b.toNat,oM⟩ (by grind) (by grind) h
  grind [tm_extT,plain_s]
 ·rw[if_pos o,if_neg oM,if_pos p] at h;exact absurd (letter hu p 35 _ h.symm) dC
 ·grind [vecL]
 ·rw[if_neg oM,if_pos o,if_pos p] at h;exact absurd (letter hs o 35 _ h) dC
 ·rw[if_neg oM,if_pos o,if_neg oM,if_pos p] at h;obtain⟨w,b1⟩:=plain_ab j oM;obtain⟨a2,b2⟩:=plain_ab d oM;refine tm_extT oM oM oM ?_ (by grind);have:=GA.1 h;have k:t.s=⟨t.s.data⟩:=rfl;have f:u.s=⟨u.s.data⟩:=rfl;rw[k,f,this]
 ·grind
 ·grind [vecL]
 ·grind
 grind [plain_ab,tm_extT,plain_s]
theorem kids_inj:∀{ks us:List Tm} {r s:List UInt8},ks.length=us.length->(∀k,k∈ks->∀u,u∈us->∀r s,Stop r->Stop s->textL k++r=textL u++s->k=u/\r=s)->
  (ks.map textL).flatMap (λx=>32::x)++41::r=(us.map textL).flatMap (λx=>32::x)++41::s->ks=us/\r=s
 |[],[],r,s,_,_,h=>by
  grind
 |[],_::_,_,_,b,_,_=>by simp at b
 |_::_,[],_,_,b,_,_=>by simp at b
 |k::ks,u::us,r,s,b,c,h=>by
  simp only[Gw,List.flatMap_cons,Gv,gY,gL,true_and] at h;have st:∀(l:List Tm) (r:List UInt8),Stop ((l.map textL).flatMap (λx=>32::x)++41::r):=λl r=>by
   cases l with
   |nil=>exact stop_cons (.inr rfl)
   |cons a l=>exact stop_cons (.inl rfl)
  obtain⟨he,h⟩:=c k gi u gi _ _ (st _ _) (st _ _) h;obtain⟨rfl,e⟩:=kids_inj (by grind) (λk d u hu=>c k (gk _ d) u (gk _ hu)) h
  grind
theorem text_inj' (i:declOk ds=true):∀t:Tm,sortM ds t≠ -1->∀u:Tm,sortM ds u≠ -1->∀r s,Stop r->Stop s->textL t++r=textL u++s->t=u/\r=s:=by
 refine Tm.ind λt J hs u hu r s U I h=>?_;obtain⟨ar,pl,op⟩:=right_op hs;obtain⟨B,P,p⟩:=right_op hu;have comp:∀{v:Tm},¬(v.op=20\/v.op=21\/v.op=24)->textL v=40::(wordL v.op++((if v.op=22 then 32::(digL v.a++32::digL v.b) else[])++((v.ks.map textL).flatMap (λx=>32::x)++[41]))):=λ{v} z=>by
  rw[textL_eq];grind [textF]
 by_cases lt:t.op=20\/t.op=21\/t.op=24
 ·obtain⟨_,f1,f2,f3⟩:=atom_text i hs lt;by_cases lu:u.op=20\/u.op=21\/u.op=24
  ·grind [atom_text,atom_cancel,atom_inj]
  ·exfalso;rw[comp lu] at h
   match H:textL t,f2 with
   |c::q,_=>
    grind
 ·by_cases lu:u.op=20\/u.op=21\/u.op=24
  ·exfalso;obtain⟨_,g1,g2,g3⟩:=atom_text i hu lu;rw[comp lt] at h
   match H:textL u,g2 with
   |c::q,_=>
    grind
  ·rw[comp lt,comp lu] at h;simp only[Gv,gY,gL,true_and,Ga] at h;have na:=node_arity op lt;have M:=node_arity p lu;have kst:∀{l:List Tm} {q:List UInt8},1<=l.length->∃A,(l.map textL).flatMap (λx=>32::x)++41::q=32::A:=λ{l q} n=>by
    cases l with
    |nil=>simp at n
    |cons a l=>grind
   have st:∀{v:Tm} {q:List UInt8},1<=v.ks.length->Stop ((if v.op=22 then 32::(digL v.a++32::digL v.b) else[])++((v.ks.map textL).flatMap (λx=>32::x)++41::q)):=λ{v q} n=>by
    split
    ·exact stop_cons (.inl rfl)
    ·obtain⟨A,e⟩:=kst (q:=q) n
     grind [stop_cons]
   have N:(((⟨t.op.toNat,oM⟩:Fin 28):Nat):Int)=t.op:=(by grind);have O:(((⟨u.op.toNat,oM⟩:Fin 28):Nat):Int)=u.op:=(by grind);have f:=word_free ⟨t.op.toNat,oM⟩;have g:=word_free ⟨u.op.toNat,oM⟩;rw[N] at f;rw[O] at g;obtain⟨hw,h⟩:=atom_cancel f g (st (v:=t) oM) (st (v:=u) oM) h;have o:=word_ne ⟨t.op.toNat,oM⟩ oM oM;have G:=word_inj ⟨t.op.toNat,oM⟩ ⟨u.op.toNat,oM⟩ (by grind) o;have w:t.op=u.op:=by
    omega
   have j:t.a=u.a/\t.b=u.b/\(t.ks.map textL).flatMap (λx=>32::x)++41::r=(u.ks.map textL).flatMap (λx=>32::x)++41::s:=by
    by_cases d:t.op=22
    ·rw[if_pos d,if_pos oM] at h;simp only[Gv,gY,gL,true_and] at h;have c1:=cut_ab i hs d;have c2:=cut_ab i hu oM;have da:∀{x:Int},0<=x->x<4->Free (digL x):=λ{x} C E=>by
      have:=dig_free ⟨x.toNat,oM⟩
      grind
     have di:∀{x y:Int},0<=x->x<4->0<=y->y<4->digL x=digL y->x=y:=λ{x y} C E D F he=>by
      have:=dig_inj ⟨x.toNat,oM⟩ ⟨y.toNat,oM⟩ (by
       grind)
      grind
     obtain⟨Q,h⟩:=atom_cancel (da oM oM) (da oM oM) (stop_cons (.inl rfl)) (stop_cons (.inl rfl)) h;simp only[gL,true_and] at h;obtain⟨V,K⟩:=kst (l:=t.ks) (q:=r) oM;obtain⟨W,L⟩:=kst (l:=u.ks) (q:=s) oM;obtain⟨R,h⟩:=atom_cancel (da oM oM) (da oM oM) (by rw[K];exact stop_cons (.inl rfl)) (by rw[L];exact stop_cons (.inl rfl)) h
     grind
    grind [plain_ab]
   obtain⟨S,T,h⟩:=j;obtain⟨m,e⟩:=kids_inj (by
    grind) (λk m v z=>J k m ((sort_parts hs).2.1 k m) v ((sort_parts hu).2.1 v z)) h
   grind [tm_extT,plain_s]
theorem text_inj (b:declOk ds=true) (hs:sortM ds t≠ -1) (hu:sortM ds u≠ -1) (h:textL t=textL u):t=u:=
 (text_inj' b t hs u hu [] [] (λc a=>by cases a) (λc a=>by cases a) (by grind)).1
end
end Go.M
end
namespace Go.Proofs.YtolbhkcajhlllaaGreatDoor
open Go Go.Vc Go.Proofs
section
variable {w:World} {K:oK} {F Fx X Q:Nat->Prop} {n:Nat} {v:Value}
theorem dcl_small {ds:List M.Dcl} (a:M.declOk ds=true) {i:Nat} (hi:i<=ds.length):0<=M.bitT ds i/\M.bitT ds i<=16:=by
 have c:=(M.decl_iff.1 a).1;induction i with
 |zero=>exact⟨Ph _,show(0:Int)<=16 by decide⟩
 |succ i b=>
  have:=b oM;have hw:=M.dcl_wide a (i:=i) oM;rw[M.bitT_succ oM];have key:M.bitT ds i<=4*(i:Int):=by
   clear b this;induction i with
   |zero=>exact Ph _
   |succ j ihj=>
    have hw:=M.dcl_wide a (i:=j) oM;have:=ihj oM (M.dcl_wide a oM);rw[M.bitT_succ oM];omega
  omega
theorem bitsOf_spec {dv:Value} {ds:List M.Dcl} (l:DclsR Fx w dv ds) (d:M.declOk ds=true) (o:∀w',Ext w w'->K (nI (M.bits ds)) w'):vcall WT #[dv] w K:=by
 refine ze {loops:=[(3,[3,8])]} Tryz.func112 ?_;simp only[push_cast,l.len];have k:=(M.decl_iff.1 d).1;refine vloop_up ds.length (λi u w'=>u=[nI (M.bitT ds i),nI i]/\Ext w w') ⟨rfl,Same.refl _ _⟩ ?_;rintro i _ _ w2 C hi ⟨rfl,c⟩ n;have e:=l.ext c;simp only[push_cast];refine zb (λa=>?_) (λa=>?_)
 ·have b:i<ds.length:=oM;simp(disch:=first|omega|simp only[push_cast]) only[push_cast,e.iaddr,e.load];refine zj xZ λb1 w3 p f r m=>?_;refine stDecl m λt j _ k=>?_;have g:Ext w2 t:=Ext.then f j λy s=>by subst s;omega
  have q:=dcl_small d hi;have h:=dcl_small d (i:=i+1) b;rw[M.bitT_succ b] at h;simp(disch:=first|omega|simp only[push_cast]) only[push_cast,k.ld1,zl];refine n b _ _ ⟨?_,c.trans g⟩;rw[M.bitT_succ b];simp
 ·have:i=ds.length:=oM;subst this;rw[M.bitT_all];exact o w2 c
theorem nameB_take {ds:List M.Dcl} {k j:Nat} {wd top:Int} (c:(j:Int)<wd) (hw:wd=(ds.getD k (M.nada,0)).2) (b:top=2+M.bits (ds.take k)):(M.nameB ds k).take (j+1)=(M.nameB ds k).take j++[top+(wd-1-j)]:=by
 have a:j<(M.nameB ds k).length:=by rw[M.nameB_len];omega
 rw[M.take_add a 0];congr 1;unfold M.nameB;rw[y3,Gu,pM oM];show[2+M.bits (ds.take k)+(ds.getD k (M.nada,0)).2-1-(j:Int)]=[top+(wd-1-(j:Int))];rw[b,hw];congr 1;omega
theorem inputs_spec {bl:Nat} {r:List Value} {dv:Value} {ds:List M.Dcl} {s:ByteArray} {x0:Value} (T:Blk w bl (x0::dv::r) yo) (N:DclsR Fx w dv ds) (f:M.declOk ds=true) (hs:0<=M.findD ds s)
  (L:∀w' r,Ext w w'->OwnI zf w' r (M.nameB ds (M.findD ds s).toNat)->(∀b,r.ownBlock=some b->w.heap.size<=b)->K r w'):vcall ZG #[oP bl 0,.string s] w K:=by
 refine ze {loops:=[(3,[5,15]),(8,[8,9])]} Tryz.func233 ?_;simp only[push_cast,T.ld1,N.len];have h4:=(M.decl_iff.1 f).1;have a0:=M.findD_lt ds s;refine vloop_up ds.length (λi u w'=>u=[nI (2+M.bitT ds i),nI i]/\Ext w w'/\i<=(M.findD ds s).toNat) ⟨rfl,Same.refl _ _,gP _⟩ ?_;rintro i _ _ w2 C hi ⟨rfl,k,Z⟩ U;have q:=N.ext k;simp only[push_cast];have d:i<ds.length:=oM
 refine zb (λa=>?_) (λa=>oM);simp(disch:=first|omega|simp only[push_cast]) only[push_cast,q.iaddr,q.load];refine zj xZ λb1 w3 W D a3 S=>?_;refine stDecl S λw4 J _ o=>?_;have t:Ext w2 w4:=Ext.then D J λy hy=>by subst hy;omega
 have a2:=dcl_small f hi;have H:=dcl_small f (i:=i+1) d;rw[M.bitT_succ d] at H;have Q:=M.dcl_wide f d;simp(disch:=first|omega|simp only[push_cast]) only[push_cast,o.ld0,o.ld1,zl];refine zb (λe=>?_) (λe=>?_)
 ·have E:i=(M.findD ds s).toNat:=by
   by_cases c:i=(M.findD ds s).toNat
   ·exact c
   ·have R:=M.dcl_apart f (i:=(M.findD ds s).toNat) (j:=i) oM oM;exact absurd (e.trans (M.findD_get hs).symm) R
  rw[<-E] at L;have B:M.bitT ds i=M.bits (ds.take i):=rfl;generalize V:(ds.getD i (M.nada,0)).2=wd at*;refine jC (λm u w'=> ∃j r,u=[r,nI ((m:Int)-1)]/\(m:Int)+(j:Nat)=wd/\Ext w w'/\OwnI zf w' r ((M.nameB ds i).take j)/\∀b,r.ownBlock=some b->w.heap.size<=b) wd.toNat
   ⟨0,_,by rw[show((wd.toNat:Nat):Int)=wd by omega],oM,k.trans t,OwnI.nil,λb p=>by cases p⟩ ?_
  rintro m _ _ w5 C5 ⟨j,r,rfl,a1,v,n,l⟩ A;simp only[push_cast];refine zb (λY=>?_) (λO=>?_)
  ·simp(disch:=omega) only[push_cast,zl];refine zC yF y7 yj rfl rfl λb6 w6 X x a4 z=>?_;have g:=v.trans x;have hz:=g.size;have hle:((M.nameB ds i).take j).length<=16:=by rw[gh,M.nameB_len];omega
   refine(n.ext x).app1 yG z oM oM λr7 w7 G I F=>?_
   try simp(disch:=omega) only[push_cast,zl]
   refine A (m-1) _ _ oM ⟨j+1,r7,?_,oM,Ext.then g I λb p=>l b p,?_,λb p=>(F b p).elim (l b) λh=>oM⟩
   ·rw[show((m-1:Nat):Int)=(m:Int)-1 by omega]
   ·rw[nameB_take (wd:=wd) (top:=2+M.bits (ds.take i)) oM V.symm rfl,<-B];rw[show(2+M.bitT ds i+(wd-1-j))=2+M.bitT ds i+((m:Int)-1) by omega];exact G
  ·rw[gB (by rw[M.nameB_len];omega)] at n;exact L w5 r v n l
 ·refine U d _ _ ⟨?_,k.trans t,?_⟩
  ·rw[M.bitT_succ d];simp;omega
  ·have:i≠(M.findD ds s).toNat:=λh=>e (by rw[h];exact M.findD_get hs);omega
end
end Go.Proofs.YtolbhkcajhlllaaGreatDoor
namespace Go.Proofs.YtolbhkcajhlllaaGreatDoor
open Go Go.Vc Go.Proofs Go.Shelf
section
variable {w:World} {K:oK} {F X Q:Nat->Prop}
def ZO0:ByteArray:=⟨#[48,49,50,51,52,53,54,55,56,57,97,98,99,100,101,102,103,104,105,106,107,108,109,110,111,112,113,114,115,116,117,118,119,120,121,122]⟩
theorem digit_text:∀k:Fin 10,(ZO0.extract k.1 (k.1+1)).data.toList=M.digL (k.1:Int):=by decide+kernel
theorem Itoa_spec {k:Nat} (c:k<10) (b:∀s:ByteArray,s.data.toList=M.digL (k:Int)->K (.string s) w):vcall j6 #[nI k] w K:=by
 refine ze {} Tryz.func230 ?_;refine ze {} Tryz.func257 ?_;refine ze {cuts:=[(12292,[]),(28680,[6])]} Tryz.func290 ?_;simp only[push_cast];refine zb (λ_=>?_) (λh=>absurd trivial h);refine zp (λ_ _=>False) ?_ (λ_ _ _ h=>h.elim);intro J d;refine zb (λ_=>?_) (λh=>oM);refine zb (λ_=>?_) (λh=>oM);refine ze {} Tryz.func304 ?_;simp(disch:=omega) only[push_cast,zl];refine zb (λ_=>?_) (λh=>oM);have a:ZO0.size=36:=by decide+kernel
 show xu yy (.string ZO0) _ _ _ w _;rw[xa0 rK oM oM (by rw[a];omega)];rw[show((k:Int)).toNat=k by omega,show((k:Int)+1).toNat=k+1 by omega];exact b _ (digit_text ⟨k,c⟩)
def byV (c:UInt8):Value:= .int .u8 c.toNat
theorem xF0 {v:Value} {l:List UInt8} (h:OwnV xC w v (l.map byV)) (g:l≠[]):y70 xC yy v w K=K (.string ⟨l.toArray⟩) w:=by
 obtain⟨a,c,k,p,n,d⟩:=(OwnV.vals h).shape;have f:(l.map byV).map (λx=>[x])≠[]:=by simpa using g
 obtain⟨b,o,m,_,_,e⟩:=d f;simp only[y4] at k e;subst m;subst k;refine y9 (run_convert_bytes_back w xC yy Zd ⟨b,o,none⟩ c l Xn rK rK λj i=>?_);have:=e j i 0 (byV l[j]) (by
  rw[y3,Gu,Gu,V0 i];rfl)
 rw[yx] at this⊢;rw[pT,GP] at this;exact this
def ji0 (n:Nat) (i:Nat):UInt8:=if n/2^i%2=1 then 49 else 48
theorem bitC_take {wd n j:Nat} (a:j<wd):((List.range wd).reverse.map (ji0 n)).take (j+1)=((List.range wd).reverse.map (ji0 n)).take j++[ji0 n (wd-1-j)]:=by
 have b:j<((List.range wd).reverse.map (ji0 n)).length:=by simpa using a
 rw[M.take_add b 0];congr 1;rw[y3,Gu,List.getElem?_reverse (by simpa using a),GJ,pM oM];rfl
theorem VecText_spec {wd n:Int} (C:M.vok wd n=true) (hK:∀w' s,Ext w w'->s.data.toList=M.vecL wd.toNat n.toNat->K (.string s) w'):vcall YH #[xY wd n] w K:=by
 refine ze {loops:=[(5,[3,4])]} Tryz.func229 ?_;obtain⟨U,V,W,X⟩:=M.vok_iff.1 C;have hp:(2:Int)^wd.toNat<=16:=by
  have:=pow4 (k:=wd.toNat) oM oM;have e:=JH wd.toNat;omega
 refine zi λb1 w1 a0 z aa g=>?_;have y:∀w':World,Blk w' b1 [nI wd,nI n] zg->∀K:oK,zt zg (oP b1 0) w' K=K (xY wd n) w':=λw' hB K=>Blk.ldAgg hB (by exact zr);rw[y w1 g];refine VecOk_spec λw2 o=>?_;rw[C];simp only[push_cast,Gc];refine zC Xn rK (show yl Zd (.int .u8 0) by unfold yl;kernel_rfl) rfl rfl λb3 w3 a5 A ab I=>?_;have D:=g.ext (o.trans A);have e3:=z.trans (o.trans A);have s1:=z.size;have s2:=o.size;have S:OwnV xC w3 (.slice (some ⟨b3,0,none⟩) 1 1) ([(35:UInt8)].map byV):=Blk.own1 (t:=xC) (cs:=[byV 35]) (by rw[j90];exact I) (gP _) rfl rfl oM;simp(disch:=first|omega|simp only[push_cast]) only[push_cast,D.ld0,zl];refine jC (λm u w'=> ∃j r,u=[r,nI ((m:Int)-1)]/\(m:Int)+(j:Nat)=wd/\Ext w w'/\Blk w' b1 [nI wd,nI n] zg/\OwnV xC w' r ((35::((List.range wd.toNat).reverse.map (ji0 n.toNat)).take j).map byV)/\∀b,r.ownBlock=some b->w1.heap.size<=b) wd.toNat
  ⟨0,_,by rw[show((wd.toNat:Nat):Int)=wd by omega],oM,e3,D,S,λb l=>by have e:b3=b:=X0 l;omega⟩ ?_
 rintro m _ _ Y Z ⟨j,r,rfl,a9,p,i,v,q⟩ L;simp only[push_cast];refine zb (λa7=>?_) (λa8=>?_)
 ·rw[y Y i];rw[show n=((n.toNat:Nat):Int) by omega];refine raw_spec oM λw6 O=>?_;rw[show(m:Int)-1=((m-1:Nat):Int) by omega];refine bit_spec oM oM ?_;have step:∀(x:UInt8) (G:oK),x=ji0 n.toNat (wd.toNat-1-j)->(∀d a,Ext w a->Blk a b1 [nI wd,nI n] zg->OwnV xC a d ((35::((List.range wd.toNat).reverse.map (ji0 n.toNat)).take (j+1)).map byV)->(∀b,d.ownBlock=some b->w1.heap.size<=b)->G d a)->
    vbuildS xC 1 [(0,.int .u8 x.toNat)] w6 λt21 F=>vbi .append [xC,xC] xC [r,t21] F G:=by
   intro x G hx N;refine zC Xn rK (show yl Zd (.int .u8 0) by unfold yl;kernel_rfl) rfl rfl λb7 a a6 Q ad J=>?_;have f:=O.trans Q;have hl:((35::((List.range wd.toNat).reverse.map (ji0 n.toNat)).take j).map byV).length<=20:=by
    simp only[y4,gz,gh,List.length_reverse,GJ];omega
   refine(v.ext f).app1 kt0 J rfl oM oM λr8 w8 T E R=>?_;have ac:=p.size;have z67:=f.size;refine N r8 w8 (Ext.then (p.trans f) E λb l=>by have:=q b l;omega) ((i.ext f).same E λl=>by have:=q b1 l;have:=g.lt;omega) ?_ λb l=>(R b l).elim (q b) λh=>by have:=i.lt;omega
   rw[bitC_take oM,<-hx,<-Gv,gx];exact T
  have B:wd.toNat-1-j=m-1:=oM;have fin:∀d a,Ext w a->Blk a b1 [nI wd,nI n] zg->OwnV xC a d ((35::((List.range wd.toNat).reverse.map (ji0 n.toNat)).take (j+1)).map byV)->(∀b,d.ownBlock=some b->w1.heap.size<=b)->Z [d,nI (((m-1:Nat):Int)-1)] a:=λd a U V W X=>
   L (m-1) _ _ oM ⟨j+1,d,rfl,oM,U,V,W,X⟩
  refine zb (λc=>?_) (λc=>?_)
  ·refine step 49 _ (by rw[B];unfold ji0;rw[if_pos c]) λd a H a2 a3 a4=>?_;rw[zl oM oM];exact fin d a H a2 a3 a4
  ·refine step 48 _ (by rw[B];unfold ji0;rw[if_neg c]) λd a H a2 a3 a4=>?_;rw[zl oM oM];exact fin d a H a2 a3 a4
 ·rw[gB (by simp;omega)] at v;rw[xF0 v (by simp)];exact hK Y _ p rfl
theorem joinX:Builder.Extra P YtolbhkcajhlllaaGreatDoor.joinL_ren where
 sizeBuilder:=rK
 liesBuilder:=rK
 t5:=rK
 a5:=λw=>rK
 z5:=λw=>rK
 v5:=λw=>rK
 infoByte:=rK
 cellsByte:=rK
 sizeByte:=rK
 neB5:=by decide+kernel
def joinB:List (List UInt8)->List UInt8
 |[]=>[]
 |x::xs=>x++xs.flatMap λy=>32::y
theorem qP0 (xs:List (List UInt8)):Lib.join xs [32]=joinB xs:=by
 unfold Lib.join joinB;induction xs with
 |nil=>rfl
 |cons x xs a=>
  cases xs with
  |nil=>simp[List.intercalate,List.intersperse]
  |cons y ys=>
   simp only[List.intercalate,List.intersperse_cons_cons,GC] at a⊢;rw[a];simp
theorem Join_spec {v:Value} {xs:List ByteArray} (h:OwnV yW w v (xs.map .string)) (n:2<=xs.length) (y:xs.length<=1000) (g:(joinB (xs.map (·.data.toList))).length<=1000000)
  (q:∀w' s,Ext w w'->s.data.toList=joinB (xs.map (·.data.toList))->K (.string s) w'):vcall YD #[v,.string ⟨#[32]⟩] w K:=by
 obtain⟨a,c,m,l,u,d⟩:=(OwnV.vals h).shape;have k:(xs.map Value.string).map (λx=>[x])≠[]:=by intro e;have:=congrArg List.length e;simp only[y4,pN] at this;omega
 obtain⟨b,o,r,_,t,f⟩:=d k;simp only[y4] at m f l;subst r;subst m;refine⟨rK,?_⟩;refine(Any.strings_Join_many YtolbhkcajhlllaaGreatDoor.joinL joinX b o c xs ⟨#[32]⟩ w (λj x g=>?_) t n oM l (by rw[show(⟨#[32]⟩:ByteArray).data.toList=[32] from rfl,qP0];omega)).mono ?_
 ·have i:j<xs.length:=(Ge.1 g).1;have:=f j i 0 (.string x) (by
   rw[y3,Gu,Gu,g];rfl)
  rw[yx,pT,GP] at this;exact this
 ·rintro e w' ⟨rfl,p⟩;refine q w' _ (y00 p) ?_;rw[show(⟨#[32]⟩:ByteArray).data.toList=[32] from rfl,qP0]
end
end Go.Proofs.YtolbhkcajhlllaaGreatDoor
namespace Go.Proofs.YtolbhkcajhlllaaGreatDoor
open Go Go.Vc Go.Proofs
section
variable {w:World} {K:oK} {F X Q:Nat->Prop}
theorem JI {s:ByteArray} {m:Value} (c:∀w',Ext w w'->K (.string s) w'):vcall yw #[.agg ⟨[.string s,m]⟩] w K:=by
 refine ze {} Tryz.func354 ?_;refine zi λb w1 d he e a=>?_;simp(disch:=first|omega|simp only[push_cast]) only[push_cast,a.ld0];exact c w1 he
theorem word_spec {o:Int} {v:Value} (k:KindR o v) (l:(1<=o/\o<=17)\/(22<=o/\o<=27)) (a:o≠24) (j:∀w' s,Ext w w'->s.data.toList=M.wordL o->K (.string s) w'):vinvoke v Z6 #[] w K:=by
 obtain⟨s,m,r,rfl,e,g,i⟩:=k.word;have hs:s.data.toList=M.wordL o:=by
  rcases i with h|h|h|h
  ·omega
  ·omega
  ·exact absurd h a
  ·exact h
 have fin:vcall yw #[.agg ⟨[.string s,nI m]⟩] w K:=JI λw' he=>j w' s he hs;unfold kTy;by_cases c:24<=o
 ·obtain⟨f,rfl,_⟩:=g c
  repeat rw[if_neg oM]
  exact zL (ZN _ _ _) fin
 ·have:=e oM;subst this;by_cases c1:o<=2
  ·rw[if_pos c1];exact zL (X4 _ _) fin
  rw[if_neg c1];by_cases c2:o<=13
  ·rw[if_pos c2];exact zL (Yx _ _) fin
  rw[if_neg c2];by_cases c3:o=14
  ·rw[if_pos c3];exact zL (Yu _ _) fin
  rw[if_neg c3];by_cases b:o<=17
  ·rw[if_pos b];exact zL (Yr _ _) fin
  rw[if_neg b,if_neg oM,if_neg oM];by_cases d:o=22
  ·rw[if_pos d];exact zL (Yo _ _) fin
  rw[if_neg d,if_pos oM];exact zL (X7 _ _) fin
theorem wordL_len (o:Int):(M.wordL o).length<=5:=by
 by_cases h:0<=o/\o<28
 ·have a:∀k:Fin 28,(M.wordL (k.1:Int)).length<=5:=(by decide+kernel);have:=a ⟨o.toNat,oM⟩;rwa[show((o.toNat:Nat):Int)=o by omega] at this
 ·unfold M.wordL
  repeat rw[if_neg oM]
  decide
theorem k40 (wd n:Nat):(M.vecL wd n).length=wd+1:=by unfold M.vecL;simp
theorem kids_sum {f:M.Tm->Nat} {ks:List M.Tm} {g:M.Tm->List UInt8} (h:∀k,k∈ks->(g k).length+1<=f k):((ks.map g).flatMap (λx=>32::x)).length<=(ks.map f).sum:=by
 induction ks with
 |nil=>simp
 |cons k ks b=>
  have:=h k gi;have:=b λy a=>h y (gk _ a);simp only[Gw,List.flatMap_cons,K3,gz,List.sum_cons];omega
theorem text_len {ds:List M.Dcl} (i:M.declOk ds=true):∀t,M.sortM ds t≠ -1->(M.textL t).length+1<=20*M.sizeM t:=by
 refine M.Tm.ind λt n hs=>?_;obtain⟨h,v,u⟩:=M.right_op hs;rw[M.sizeM_eq,M.textL_eq];have e:((t.ks.map M.textL).flatMap (λx=>32::x)).length<=(t.ks.map λk=>20*M.sizeM k).sum:=kids_sum λk e=>n k e ((M.sort_parts hs).2.1 k e);have g:(t.ks.map λk=>20*M.sizeM k).sum=20*(t.ks.map M.sizeM).sum:=by
  generalize t.ks=l;induction l with
  |nil=>rfl
  |cons k l ihl=>simp only[Gw,List.sum_cons,ihl];omega
 unfold M.textF;by_cases c:t.op=20
 ·rw[if_pos c,k40];have:=M.vok_iff.1 (M.vec_ok hs c);omega
 rw[if_neg c];by_cases c:t.op=21
 ·rw[if_pos c];have j:=M.name_found hs c;have m:(M.findD ds t.s).toNat<ds.length:=by have:=(M.findD_lt ds t.s).2;omega
  have d:=(M.decl_iff.1 i).2.1 _ m;unfold M.dclOk at d;rw[M.findD_get j] at d;simp only[gg,decide_eq_true_eq,M.nameOk] at d;obtain⟨⟨⟨⟨⟨⟨o,p⟩,q⟩,r⟩,_⟩,_⟩,_⟩:=d;have:t.s.data.toList.length=t.s.size:=by rw[pf];rfl
  omega
 rw[if_neg c];by_cases c:t.op=24
 ·rw[if_pos c];simp;omega
 rw[if_neg c];have:=wordL_len t.op;have f:(if t.op=22 then(32:UInt8)::(M.digL t.a++32::M.digL t.b) else[]).length<=4:=by
  split
  ·simp[M.digL]
  ·simp
 simp only[gz,K3,pN];omega
theorem Itoa_int {k:Int} (b:0<=k) (c:k<10) (a:∀s:ByteArray,s.data.toList=M.digL k->K (.string s) w):vcall j6 #[nI k] w K:=by
 obtain⟨j,rfl⟩:∃j:Nat,k=j:=⟨k.toNat,oM⟩;exact Itoa_spec oM a
theorem textOf_spec {ds:List M.Dcl} (hd:M.declOk ds=true) {kb:Nat}:∀(t:M.Tm),M.sortM ds t≠ -1->M.sizeM t<=1000->∀{w:World} {K:oK} {F:Nat->Prop} {tv:Value},KindsR w kb->TermR F w tv t->
  (∀w' s,Ext w w'->s.data.toList=M.textL t->K (.string s) w')->vcall Z1 #[.map (some kb),tv] w K:=by
 refine M.Tm.ind λt ih hs bf w K F tv hk ht n=>?_;obtain⟨ac,hp,ho⟩:=M.right_op hs;have hlen:=text_len hd t hs;obtain⟨kv,rfl,ae⟩:=ht;apply UC;refine zi λb1 w1 b4 f bh m=>?_;have Y:=hk.ext f;have H:=ae.ext f;rw[M.textL_eq] at n hlen;unfold M.textF at n hlen;simp(disch:=first|omega|simp only[push_cast]) only[push_cast,m.ld0,m.ld1,m.ld2,m.ld3];refine zb (λc=>?_) (λc=>?_)
 ·rw[if_pos c] at n;have hv:=M.vec_ok hs c;have e:yC zg [(0,nI t.a),(1,nI t.b)] w1=λK=>K (xY t.a t.b) w1:=by
   funext K;exact zT QE (us:=[[nI t.a],[nI t.b]]) rfl rfl
  try rw[e]
  exact VecText_spec hv λw2 s B ak=>n w2 s (f.trans B) ak
 rw[if_neg c] at n hlen;refine zb (λc=>?_) (λc=>?_)
 ·rw[if_pos c] at n;exact n w1 _ f rfl
 rw[if_neg c] at n hlen;refine zb (λc=>?_) (λc=>?_)
 ·rw[if_pos c] at n;exact n w1 _ f rfl
 rw[if_neg c] at n hlen;have ai:(1<=t.op/\t.op<=17)\/(22<=t.op/\t.op<=27):=oM
 refine Kb (ok:=false) Y (by rw[ac];omega) λbm af=>?_;simp only[gV,if_false];refine word_spec af ai oM λw2 ws B a6=>?_;refine zC Xo rK Xg rfl rfl λb3 w3 b6 W bi a9=>?_;have O:=B.trans W;have s1:=f.size;have s2:=B.size;have k:=m.ext O;have a2:OwnV yW w3 (.slice (some ⟨b3,0,none⟩) 1 1) ([ws].map .string):=Blk.own1 (t:=yW) (cs:=[Value.string ws]) (by rw[xD0];exact a9) (gP _) rfl rfl oM;have be:1<=t.ks.length:=by
  have:=M.node_arity ho oM;omega
 have bc:t.ks.length<=3:=by
  have h:M.arity t.op<=3:=by
   unfold M.arity;repeat' split
   all_goals omega
  omega
 refine zp (λu w'=> ∃(wv:Value) (wl:List ByteArray),u=[wv]/\Ext w1 w'/\OwnV yW w' wv (wl.map .string)/\(∀b,wv.ownBlock=some b->w1.heap.size<=b)/\wl.length<=3/\wl.map (·.data.toList)=M.wordL t.op::(if t.op=22 then[M.digL t.a,M.digL t.b] else[])) ?_ ?_
 ·intro J hJ;simp(disch:=first|omega|simp only[push_cast]) only[push_cast,k.ld0,k.ld1,k.ld2];refine zb (λz=>?_) (λz=>?_)
  ·obtain⟨b2,ba,b0⟩:=M.cut_ab hd hs z;refine zd λw4 X _=>?_;have p:=k.ext X;simp(disch:=first|omega|simp only[push_cast]) only[push_cast,p.ld1,p.ld2,true_and];refine Itoa_int oM oM λsa am=>?_;simp(disch:=first|omega|simp only[push_cast]) only[push_cast,p.ld2,true_and,and_self];refine Itoa_int oM oM λsb an=>?_;refine vbuildS_row1 (xs:=[.string sa,.string sb]) Xo Y1 Xg (λx a8=>by
    simp only[gd,gq,or_false] at a8;rcases a8 with rfl|rfl<;>rfl) (by simp) λb5 w5 b8 q bj S=>?_
   have ap:Vals (· =b5) w5 (.slice (some ⟨b5,0,none⟩) 2 2) [.string sa,.string sb]:=S.sl1 rfl (by simp);have Q:=X.trans q;refine(a2.ext Q).app zJ0 ap (λu hu=>by
    simp only[gd,gq,or_false] at hu;rcases hu with rfl|rfl<;>rfl) (by simp) (by simp) λr6 w6 G al E=>?_
   have z35:=Q.size;have z3:=W.size;refine hJ _ _ ⟨r6,[ws,sa,sb],rfl,Ext.then (O.trans Q) al λb A=>by have e:b3=b:=X0 A;omega,by simpa using G,λb A=>(E b A).elim (λh=>by have e:b3=b:=X0 h;omega) λh=>oM,by simp,?_⟩;rw[if_pos z];simp[a6,am,an]
  ·exact hJ _ _ ⟨_,[ws],rfl,O,a2,λb A=>by have e:b3=b:=X0 A;omega,by simp,by rw[if_neg z];simp[a6]⟩
 rintro _ _ w5 ⟨wv,wl,rfl,q,aj,ah,bg,a7⟩;have S:=m.ext q;have Z:=H.ext q;simp(disch:=first|omega|simp only[push_cast]) only[push_cast,S.ld4,Z.len];refine vloop_up t.ks.length (λi u w'=> ∃(r:Value) (kl:List ByteArray),u=[r,nI i]/\Ext w1 w'/\OwnV yW w' r ((wl++kl).map .string)/\(∀b,r.ownBlock=some b->w1.heap.size<=b)/\kl.map (·.data.toList)=(t.ks.take i).map M.textL) ⟨wv,[],rfl,q,by simpa using aj,ah,rfl⟩ ?_;rintro i _ g w6 C hi ⟨r,kl,rfl,v,G,E,l⟩ hC;have I:=H.ext v;have av:kl.length=i:=by
  have:=congrArg List.length l;simp only[y4,gh] at this;omega
 simp only[push_cast];refine zb (λa=>?_) (λa=>?_)
 ·have d:i<t.ks.length:=oM;simp(disch:=first|omega|simp only[push_cast]) only[push_cast,I.iaddr];refine I.load zc d λx hx=>?_;obtain⟨cx,rfl,T⟩:=hx.cells;refine zj zn λb7 w7 b9 D bk aa=>?_;refine stTerm aa rfl (T.ext D) λw8 aq bl ab=>?_;have R:Ext w6 w8:=Ext.then D aq λy hy=>by subst hy;omega
  have v8:=T.ext R;simp only[push_cast,ab.ldAgg (t:=za) (by rw[zQ T];exact zc)];have L:t.ks.getD i default∈t.ks:=M.getD_mem d _;have ao:M.sizeM (t.ks.getD i default)<=1000:=by
   have h1:=M.szT_succ d;have h2:=M.szT_mono (ks:=t.ks) (i:=i+1) (j:=t.ks.length) d (gu _);have h3:=M.szT_all t;omega
  refine ih _ L ((M.sort_parts hs).2.1 _ L) ao (Y.ext (v.trans R)) v8.term λw9 sk ad a5=>?_;refine zC Xo rK Xg rfl rfl λaz w10 au V ax U=>?_;have o:=R.trans (ad.trans V);have bd:((wl++kl).map Value.string).length<=6:=by rw[y4,K3];omega
  refine(G.ext o).app1 zJ0 U rfl oM oM λar bn a1 a3 a0=>?_;have z6:=v.size;have ay:=o.size
  try simp(disch:=omega) only[push_cast,zl]
  refine hC d _ _ ⟨ar,kl++[sk],by simp<;>exact⟨rfl,rfl⟩,Ext.then (v.trans o) a3 λb A=>E b A,?_,λb A=>(a0 b A).elim (E b) λh=>oM,?_⟩
  ·rw[<-gY,gx];exact a1
  ·rw[M.take_add d default,gx,gx,l];simp[a5]
 ·have d:i=t.ks.length:=oM;subst d;rw[gw] at l;have N:joinB ((wl++kl).map (·.data.toList))=M.wordL t.op++((if t.op=22 then(32:UInt8)::(M.digL t.a++32::M.digL t.b) else[])++(t.ks.map M.textL).flatMap λx=>32::x):=by
   rw[gx,a7,l];show joinB (M.wordL t.op::((if t.op=22 then[M.digL t.a,M.digL t.b] else[])++t.ks.map M.textL))=_;rw[show ∀(x:List UInt8) xs,joinB (x::xs)=x++xs.flatMap (λy=>32::y) from λ_ _=>rfl,List.flatMap_append];split<;>simp
  have ag:2<=(wl++kl).length:=by
   have h1:1<=wl.length:=by
    have:=congrArg List.length a7;simp only[y4,gz] at this;omega
   rw[K3];omega
  simp only[gz,K3,pN] at hlen;have bb:(joinB ((wl++kl).map (·.data.toList))).length<=20000:=by
   rw[N];simp only[K3];omega
  refine Join_spec G ag (by rw[K3];omega) oM λw7 sj D a4=>?_;have aw:sj.size<=20000:=by
   have:sj.data.toList.length=sj.size:=by rw[pf];rfl
   rw[a4] at this;omega
  have h1:(⟨#[40]⟩:ByteArray).size=1:=(by decide+kernel);have h3:(⟨#[41]⟩:ByteArray).size=1:=(by decide+kernel);have h2:((⟨#[40]⟩:ByteArray)++sj).size=1+sj.size:=(by rw[ByteArray.size_append,h1]);rw[kU oM,kU oM];refine n w7 _ (f.trans (v.trans D)) ?_;rw[ByteArray.data_append,ByteArray.data_append,Pn,Pn,a4,N];simp
end
end Go.Proofs.YtolbhkcajhlllaaGreatDoor
section
namespace Go.M
theorem node_right {ds:List Dcl} {t:Tm} (l:declOk ds=true) (hs:sortM ds t≠ -1) {L:Nat->Nat} (n:∀i,i<t.ks.length->L i=lenS (sortM ds (kid t i))):
  (1<=t.op->t.op<=2->t.ks.length=1/\1<=L 0/\L 0<=4)/\(3<=t.op->t.op<=13->t.ks.length=2/\L 0=L 1/\1<=L 0/\L 0<=4)/\(t.op=14->t.ks.length=2/\1<=L 0/\1<=L 1/\L 0+L 1<=4)/\
  (15<=t.op->t.op<=17->t.ks.length=2/\L 0=L 1/\1<=L 0/\L 0<=4)/\(t.op=22->t.ks.length=1/\0<=t.b/\t.b<=t.a/\t.a<L 0/\L 0<=4)/\(t.op=23->t.ks.length=3/\L 0=1/\L 1=L 2/\1<=L 1/\L 1<=4)/\
  (25<=t.op->(t.ks.length=if t.op=25 then 1 else 2)/\∀i,i<t.ks.length->L i=1):=by
 obtain⟨j,m,g⟩:=sort_parts hs;simp only[formed,gg,decide_eq_true_eq] at j;obtain⟨f,q⟩:=j;have k:=arity_ops (o:=t.op) oM;have s:∀i,i<t.ks.length->(t.ks.map (sortM ds)).getD i 0=sortM ds (kid t i):=λi hi=>getD_map _ hi _ _;have d:∀i,-1<=sortM ds (kid t i)/\sortM ds (kid t i)<=4:=λi=>sort_range l _;rw[g] at hs;unfold sortK at hs;unfold arity at f;have u:=d 0;have v:=d 1;have w:=d 2;refine⟨λa b=>?_,λa b=>?_,λa=>?_,λa b=>?_,λa=>?_,λa=>?_,λa=>?_⟩
 ·grind [lenS]
 ·have e:t.ks.length=2:=oM
  grind [lenS]
 ·have e:t.ks.length=2:=oM
  grind [lenS]
 ·have e:t.ks.length=2:=oM
  grind [lenS]
 ·grind [lenS]
 ·have e:t.ks.length=3:=oM
  grind [lenS]
 ·have e:t.ks.length=if t.op=25 then 1 else 2:=by
   grind
  rw[if_neg oM,if_neg oM,if_pos oM] at hs;by_cases c:(t.ks.map (sortM ds)).any (λx=>decide (x≠0))=true
  ·grind
  ·refine⟨e,λi hi=>?_⟩;have h:=n i hi;have r:sortM ds (kid t i)=0:=Gm λp=>c (G1.2 ⟨sortM ds (kid t i),gr.2 ⟨_,getD_mem hi default,rfl⟩,by grind⟩);rw[r] at h;exact h
end Go.M
end
namespace Go.Proofs.YtolbhkcajhlllaaGreatDoor
open Go Go.Vc Go.Proofs
section
variable {w:World} {K:oK} {F F' X Fk Q:Nat->Prop} {n bc bb:Nat} {gs:M.Gs} {v:Value} {ar ab:Addr}
theorem XW {a:TypeId} {v:Value} (b:concB a=true) {xT:TypeId}:ya0 (.iface a v) xT a true w K=K (.tuple #[v,.bool true]) w:=by
 refine y9 ?_;unfold concB at b;cases hu:P.underlying a with
 |none=>rw[hu] at b;cases b
 |some d=>
  rw[hu] at b;cases d<;>first|(cases b;done)|simp[Instr.typeAssert,run_underlying hu]
theorem xV {a t:TypeId} {v z:Value} (b:concB a=true) (e:yl a z) (c:t≠a) {xT:TypeId}:ya0 (.iface t v) xT a true w K=K (.tuple #[z,.bool false]) w:=by
 refine y9 ?_;unfold concB at b;cases hu:P.underlying a with
 |none=>rw[hu] at b;cases b
 |some d=>
  rw[hu] at b;cases d<;>first|(cases b;done)|simp[Instr.typeAssert,run_underlying hu,c,Y5 e,Result.andThen]
structure KidsR (Fk X F:Nat->Prop) (w:World) (kv:Value) (rs:List (List Int)):Prop where
 at_:∃vs:List Value,Vals Fk w kv vs/\vs.length=rs.length/\∀i,i<rs.length->Ints (Off X F) w (vs.getD i undef) (rs.getD i [])
 sm:∀r,r∈rs->SmL r
theorem KidsR.ext {w':World} {kv:Value} {rs:List (List Int)} (h:KidsR Fk X F w kv rs) (he:Ext w w'):KidsR Fk X F w' kv rs:=by
 obtain⟨vs,a,b,c⟩:=h.at_;exact⟨⟨vs,a.ext he,b,λi hi=>(c i hi).ext he⟩,h.sm⟩
theorem KidsR.sml {kv:Value} {rs:List (List Int)} (h:KidsR Fk X F w kv rs) {i:Nat} (hi:i<rs.length):SmL (rs.getD i []):=h.sm _ (M.getD_mem hi [])
theorem KidsR.vals {kv:Value} {rs:List (List Int)} (h:KidsR Fk X F w kv rs):∃vs:List Value,(∀(w':World),Ext w w'->∀i,i<rs.length->∀K:oK,ya zH kv (nI i) w' K=K (.pointer (some (eaddr kv 1 i))) w'/\zt zf (.pointer (some (eaddr kv 1 i))) w' K=K (vs.getD i undef) w')/\
  ∀i,i<rs.length->Ints (Off X F) w (vs.getD i undef) (rs.getD i []):=by
 obtain⟨vs,b,d,c⟩:=h.at_;refine⟨vs,λw' he i hi K=>?_,c⟩;have a:=b.ext he;refine⟨?_,a.load KB oM⟩;rw[a.iaddr Kt oM oM,gl]
theorem stKind {b:Nat} {x y:Value} {t0 tk:TypeId} {s:ByteArray} {m:Int} (h:Blk w b [x,y] t0) (e:aggB tk 2=true) (d:∀w',Same (· =b) w w'->K undef w'):zU tk (oP b 0) (.agg ⟨[.string s,nI m]⟩) w K:=
 h.stAgg rfl e (by intro v a;simp only[gd,gq,or_false] at a;rcases a with rfl|rfl<;>rfl) λw' c _ _=>d w' c
theorem fixB_at {wd nn:Int} {j:Nat} (a:(j:Int)<wd):(M.fixB wd nn).getD j 0=if nn.toNat/2^j%2=1 then 1 else-1:=by
 unfold M.fixB;rw[y3,Gu,pM oM];rfl
theorem fix_step {wd nn:Int} {j:Nat} (a:(j:Int)<wd):((M.fixB wd nn).take j++List.replicate (wd.toNat-j) (-1)).set j (if nn.toNat/2^j%2=1 then 1 else-1)=(M.fixB wd nn).take (j+1)++List.replicate (wd.toNat-(j+1)) (-1):=by
 have b:((M.fixB wd nn).take j).length=j:=by rw[gh,M.fixB_len];omega
 rw[pz _ _ oM,b,pb,show wd.toNat-j=(wd.toNat-(j+1))+1 by omega,Po,G5,M.take_add (by rw[M.fixB_len];omega) 0,fixB_at a,gY];rfl
theorem SmL.fix {wd nn:Int}:SmL (M.fixB wd nn):=λx a=>by
 unfold M.fixB at a;obtain⟨j,_,rfl⟩:=gr.1 a;split<;>decide
theorem SmL.name {ds:List M.Dcl} {k:Nat} (a:M.declOk ds=true) (b:k<ds.length):SmL (M.nameB ds k):=λx c=>by
 have:=M.name_has (m:=9) a b (by have:=(M.decl_iff.1 a).2.2;omega) x c;obtain⟨d,e,f⟩:=this;unfold Sm;omega
def ZW0 (n bb:Nat) (ar ab:Addr) (X F:Nat->Prop) (w:World) (gs:M.Gs) (ds:List M.Dcl) (t:M.Tm) (rs:List (List Int)) (K:oK):Prop:=
 ∀w' F' st' r zs,BdR n bb ar ab X F' w' st'->Mv F w F' w'->Ints (Off X F') w' r zs->SmL zs->M.Bd.Out n (M.nodeB ds t rs) (some gs) st' zs->K r w'
section
variable {bl kb m:Nat} {dv tv kv:Value} {ds:List M.Dcl} {t:M.Tm} {rs:List (List Int)} {G Gt:Nat->Prop}
theorem root_spec (hb:BdR n bb ar ab X F w (some gs)) (hd:M.declOk ds=true) (hs:M.sortM ds t≠ -1) (hB:Blk w bl [oP bb 0,dv,.map (some kb),.map (some m)] yo) (bv:DclsR G w dv ds) (c0:KindsR w kb) (ht:TermR Gt w tv t)
  (o:KidsR Fk X F w kv rs) (cr:rs.length=t.ks.length) (hlen:∀i,i<t.ks.length->(rs.getD i []).length=M.lenS (M.sortM ds (M.kid t i)))
  (hK:ZW0 n bb ar ab X F w gs ds t rs K):vcall X3 #[oP bl 0,tv,kv] w K:=by
 obtain⟨tk,rfl,cq⟩:=ht;refine ze {ord:=[oz 1 (oR 7) [(0,[4,5]),(1,[4,5]),(2,[4,5]),(3,[4,5])],oz 17 (oR 11) [(0,[3,4,5,6,7]),(1,[3,4,5,6,7]),(2,[3,4,5,6,7]),(3,[5,6,7]),(4,[5,6,7])],(20,[0,1,2,3,4,5,6,7,8,9,10,11,12,13,14,15,16],[(0,[1,2,3,15,16]),(1,[2,3,15,16]),(2,[3,15,16]),(3,[15,16]),(4,[5,6,7,8,15,16]),(5,[6,7,8,15,16]),(6,[7,8,15,16]),(7,[8,15,16]),(8,[15,16]),(9,[10,11,15,16]),(10,[11,15,16]),(11,[15,16]),(12,[13,14,15,16]),(13,[14,15,16]),(14,[15,16]),(15,[16])]),oz 23 (oR 11) [(0,[4,5,6,7,8]),(1,[4,5,6,7,8]),(2,[4,5,6,7,8]),(3,[4,5,6,7,8]),(4,[6,7,8]),(5,[6,7,8])],oz 26 (oR 14) [(0,[4,5,6,7,8,9,10,11]),(1,[4,5,6,7,8,9,10,11]),(2,[4,5,6,7,8,9,10,11]),(3,[4,5,6,7,8,9,10,11]),(4,[6,7,8,9,10,11]),(5,[6,7,8,9,10,11]),(6,[9,10,11]),(7,[9,10,11]),(8,[9,10,11])],oz 29 (oR 15) [(0,[4,5,6,7,8,9,10,11]),(1,[4,5,6,7,8,9,10,11]),(2,[4,5,6,7,8,9,10,11]),(3,[4,5,6,7,8,9,10,11]),(4,[6,7,8,9,10,11]),(5,[6,7,8,9,10,11]),(6,[9,10,11]),(7,[9,10,11]),(8,[9,10,11])]],loops:=[(6,[32])]} Tryz.func198 ?_;obtain⟨bs,hp,cf⟩:=M.right_op hs;obtain⟨q1,q2,q3,q4,q5,q6,q7⟩:=M.node_right hd hs (L:=λi=>(rs.getD i []).length) hlen;refine zi λb1 w1 ck bw ct bo=>?_;refine zd λw2 ba _=>?_;have e2:=bw.trans ba;have Z:=hB.ext e2;have U:=bo.ext ba;have z:=hb.ext e2;have b8:=bv.ext e2;simp(disch:=first|omega|simp only[push_cast]) only[push_cast,Z.ld2,U.ld0,true_and];refine Kb (ok:=false) (c0.ext e2) (by rw[bs];omega) λcu c1=>⟨rfl,?_⟩;obtain⟨s,mm,r,bd,a7,c9,_⟩:=c1.word;simp only[gV,if_false];rw[bd];have q:∀w3,Ext w2 w3->ZW0 n bb ar ab X F w3 gs ds t rs K:=λw3 I w' F' st' r' zs h1 h2 h3 h4 h5=>hK w' F' st' r' zs h1 ((Mv.refl.ext (e2.trans I)).trans h2) h3 h4 h5;obtain⟨vs,T,S⟩:=(o.ext e2).vals;unfold ZW0 M.nodeB at q;by_cases ae:t.op=20
 ·have D:kTy t.op=zM:=by rw[ae];rfl
  have:=a7 oM;subst this;rw[D,XW yH];simp only[push_cast];rw[if_pos ae] at q;refine zj yN λb3 w3 a9 I ac N=>?_;refine stKind N Va λw4 O=>?_;have p:Ext w2 w4:=Ext.then I O λy hy=>by subst hy;omega
  have ah:=U.ext p;have hv:=M.vec_ok hs ae;obtain⟨v1,v2,v3,v4⟩:=M.vok_iff.1 hv;have cg:(2:Int)^t.a.toNat<=16:=by
   have:=pow4 (k:=t.a.toNat) oM oM;have e:=JH t.a.toNat;omega
  simp(disch:=first|omega|simp only[push_cast]) only[push_cast,ah.ld1];rw[show t.a=((t.a.toNat:Nat):Int) by omega];refine offs_spec oM λl ov J ao an=>?_;have d:=p.trans J;have ax:∀(w':World) (K:oK),vbi .len [zf] zV [ov] w' K=K (nI t.a.toNat) w':=λw' K=>(by rw[ao.ints.len yX,M.offsL_len]);rw[ax];refine vloop_up t.a.toNat (λj u w'=>u=[nI j]/\Ext w2 w'/\OwnI zf w' ov ((M.fixB t.a t.b).take j++List.replicate (t.a.toNat-j) (-1))) ⟨rfl,d,ao⟩ ?_;rintro j _ g w6 C hj ⟨rfl,V,E⟩ hC;have z25:=d.size;have z24:=p.size;simp only[push_cast];refine zb (λc4=>?_) (λcn=>?_)
  ·have br:=U.ext V;simp(disch:=first|omega|simp only[push_cast]) only[push_cast,br.ld2];rw[jc US (show xR0 QI .u64 by unfold xR0;kernel_rfl),show t.b=((t.b.toNat:Nat):Int) by omega,wrapU oM];refine bit_spec oM oM ?_;have be:((M.fixB t.a t.b).take j++List.replicate (t.a.toNat-j) (-1)).length=t.a.toNat:=by
    rw[K3,gh,M.fixB_len,gy];omega
   refine zb (λc=>?_) (λc=>?_)
   ·rw[E.ints.iaddr yL oM (by rw[be];omega),gl];refine E.st y7 (by rw[be];omega) λw7 bf ca cd=>?_;have aa:=fix_step (wd:=t.a) (nn:=t.b) (j:=j) oM;rw[if_pos c] at aa;rw[aa] at bf
    try simp(disch:=omega) only[push_cast,zl]
    exact hC oM _ _ ⟨by simp,Ext.then V ca λb hb=>by have:=an b hb;omega,bf⟩
   ·have aa:=fix_step (wd:=t.a) (nn:=t.b) (j:=j) oM;rw[if_neg c] at aa;have az:((M.fixB t.a t.b).take j++List.replicate (t.a.toNat-j) (-1)).set j (-1)=(M.fixB t.a t.b).take j++List.replicate (t.a.toNat-j) (-1):=by
     have hl:((M.fixB t.a t.b).take j).length=j:=by rw[gh,M.fixB_len];omega
     rw[pz _ _ oM,hl,pb,show t.a.toNat-j=(t.a.toNat-(j+1))+1 by omega,Po,G5]
    rw[az] at aa;rw[aa] at E
    try simp(disch:=omega) only[push_cast,zl]
    exact hC oM _ _ ⟨by simp,V,E⟩
  ·have bz:j=t.a.toNat:=oM;rw[bz,pb,pL,gC,gB (by rw[M.fixB_len];exact gu _)] at E;exact q w6 V w6 F (some gs) ov _ (z.ext V) Mv.refl (NewI.of (w:=w2) E (λb hb=>by have:=an b hb;omega) z.lt).ints SmL.fix (M.Bd.Out.ret _ _)
 rw[if_neg ae] at q;by_cases af:t.op=21
 ·have D:kTy t.op=zE:=by rw[af];rfl
  have:=a7 oM;subst this;rw[D];simp only[xV yH yN (show zE≠zM by decide),XW yI,push_cast];rw[if_pos af] at q;refine zj yS λb3 w3 a9 I ac N=>?_;refine stKind N Ki λw4 O=>?_;have p:Ext w2 w4:=Ext.then I O λy hy=>by subst hy;omega
  have ah:=U.ext p;have hf:=M.name_found hs af;have c4:=M.findD_lt ds t.s;simp(disch:=first|omega|simp only[push_cast]) only[push_cast,ah.ld3];refine inputs_spec (Z.ext p) (b8.ext p) hd hf λl r5 J ao an=>?_;have z24:=p.size;exact q l (p.trans J) l F (some gs) r5 _ (z.ext (p.trans J)) Mv.refl (NewI.of (w:=w2) ao (λb hb=>by have:=an b hb;omega) z.lt).ints (SmL.name hd oM) (M.Bd.Out.ret _ _)
 rw[if_neg af] at q;by_cases bn:24<=t.op
 ·have D:kTy t.op=zy:=by
   unfold kTy
   repeat rw[if_neg oM]
  obtain⟨f,rfl,c8⟩:=c9 bn;rw[D];simp only[xV yH yN (show zy≠zM by decide),xV yI yS (show zy≠zE by decide),xV x8 xo (show zy≠zJ by decide),xV xD xQ (show zy≠zS by decide),xV xS qo (show zy≠zO by decide),xV qi jJ (show zy≠zG by decide),xV qh jI (show zy≠zK by decide),xV k8 Zn (show zy≠zF by decide),XW Zg,push_cast];refine zj QW λb3 w3 a9 I ac N=>?_;refine N.stAgg (cs':=[.string s,nI mm,f]) rfl ZS (by intro v hv;simp only[gd,gq,or_false] at hv;rcases hv with rfl|rfl|rfl<;>first|rfl|exact c8) λw4 O _ bp=>?_;have p:Ext w2 w4:=Ext.then I O λy hy=>by subst hy;omega
  have ah:=U.ext p;rw[bp.ldAgg (t:=zy) ZS,ah.ldAgg (t:=za) zc];refine ze {ord:=[oz 5 (oR 16) [(0,[4,5,6,7,8,9,10,11,12,13]),(1,[4,5,6,7,8,9,10,11,12,13]),(2,[4,5,6,7,8,9,10,11,12,13]),(3,[4,5,6,7,8,9,10,11,12,13]),(4,[9,10,11,12,13]),(5,[9,10,11,12,13]),(6,[9,10,11,12,13]),(7,[9,10,11,12,13]),(8,[9,10,11,12,13])],oz 7 (oR 16) [(0,[4,5,6,7,8,9,10,11,12,13]),(1,[4,5,6,7,8,9,10,11,12,13]),(2,[4,5,6,7,8,9,10,11,12,13]),(3,[4,5,6,7,8,9,10,11,12,13]),(4,[9,10,11,12,13]),(5,[9,10,11,12,13]),(6,[9,10,11,12,13]),(7,[9,10,11,12,13]),(8,[9,10,11,12,13])]]} Tryz.func239 ?_;refine zi λb6 w6 cl V ad ch=>?_;refine zi λb7 w7 cm bx cd bq=>?_;have W:Ext w2 w7:=p.trans (V.trans bx);simp(disch:=first|omega|simp only[push_cast]) only[push_cast,bq.ld0];have fin:∀(Q:World) (F8:Nat->Prop) (ap:Option M.Gs) (x:Int),BdR n bb ar ab X F8 Q ap->Mv F w2 F8 Q->Sm x->M.Bd.Out n (M.nodeB ds t rs) (some gs) ap [x]->vbuildS zf 1 [(0,nI x)] Q K:=λQ F8 ap x h8 c5 cc c7=>by
   refine zC yF y7 yj rfl rfl λb9 w9 bt ai ce au=>?_;have a6:OwnI zf w9 (.slice (some ⟨b9,0,none⟩) 1 1) [x]:=Blk.own1 (t:=zf) (cs:=[nI x]) (by rw[yP];exact au) (gP _) rfl rfl oM;exact hK w9 F8 ap _ [x] (h8.ext ai) (((Mv.refl.ext e2).trans c5).ext ai) (NewI.of (w:=Q) a6 (λb hb=>by have e:b9=b:=X0 hb;omega) h8.lt).ints (SmL.one cc) c7
  unfold M.nodeB at fin;rw[if_neg ae,if_neg af] at fin;by_cases c:t.op=24
  ·rw[if_pos c] at fin;rw[decide_eq_false oM,decide_eq_false oM,decide_eq_false oM];simp only[push_cast];exact fin w7 F (some gs) 1 (z.ext W) (Mv.refl.ext W) dC (M.Bd.Out.ret _ _)
  rw[if_neg c] at fin;obtain⟨aw,b5⟩:=q7 oM;have co:1<=t.ks.length:=(by split at aw<;>omega);have ci:=b5 0 oM;by_cases ag:t.op=25
  ·rw[if_pos ag] at fin;rw[decide_eq_true ag];simp only[push_cast];have A0:∀K:oK,ya zH kv (nI 0) w7 K=K (.pointer (some (eaddr kv 1 0))) w7:=λK=>(T w7 W 0 oM K).1;have B0:∀K:oK,zt zf (.pointer (some (eaddr kv 1 0))) w7 K=K (vs.getD 0 undef) w7:=λK=>(T w7 W 0 oM K).2;have R:Ints (Off X F) w7 (vs.getD 0 undef) (rs.getD 0 []):=(S 0 oM).ext W;have S0:=(o.sml (i:=0) oM).get (i:=0) oM;unfold Sm at S0;simp(disch:=first|omega|simp only[push_cast]) only[A0,B0,R.iaddr,R.load,push_cast,zl,gJ];exact fin w7 F (some gs) _ (z.ext W) (Mv.refl.ext W) (by unfold Sm;rw[GV];exact S0) (M.Bd.Out.ret _ _)
  rw[if_neg ag] at fin;rw[decide_eq_false ag];have cp:t.ks.length=2:=by rw[if_neg ag] at aw;exact aw
  have cj:=b5 1 oM;simp only[push_cast];have two:∀(Q:World),Ext w2 Q->(∀K:oK,ya zH kv (nI 0) Q K=K (.pointer (some (eaddr kv 1 0))) Q)/\(∀K:oK,zt zf (.pointer (some (eaddr kv 1 0))) Q K=K (vs.getD 0 undef) Q)/\(∀K:oK,ya zH kv (nI 1) Q K=K (.pointer (some (eaddr kv 1 1))) Q)/\(∀K:oK,zt zf (.pointer (some (eaddr kv 1 1))) Q K=K (vs.getD 1 undef) Q)/\Ints (Off X F) Q (vs.getD 0 undef) (rs.getD 0 [])/\Ints (Off X F) Q (vs.getD 1 undef) (rs.getD 1 []):=λQ e8=>
   ⟨λK=>(T Q e8 0 oM K).1,λK=>(T Q e8 0 oM K).2,λK=>(T Q e8 1 oM K).1,λK=>(T Q e8 1 oM K).2,(S 0 oM).ext e8,(S 1 oM).ext e8⟩
  have S0:=(o.sml (i:=0) oM).get (i:=0) oM;have S1:=(o.sml (i:=1) oM).get (i:=0) oM;by_cases am:t.op=26
  ·rw[if_pos am] at fin;rw[decide_eq_true am];simp only[push_cast];refine zd λQ av _=>?_;have Y:=W.trans av;have aq:=Z.ext Y;obtain⟨A0,B0,A1,B1,R,V1⟩:=two Q Y;simp(disch:=first|omega|simp only[push_cast]) only[aq.ld0,A0,B0,A1,B1,R.iaddr,R.load,V1.iaddr,V1.load,push_cast,true_and];refine qN (z.ext Y) S0 S1 λw9 F9 b2 x h9 ay b0 a6=>fin w9 F9 b2 x h9 ((Mv.refl.ext Y).trans ay) b0 ?_;exact xF a6 (M.Bd.Out.ret _ _)
  rw[if_neg am,if_pos oM] at fin;rw[decide_eq_false am,decide_eq_true (show t.op=27 by omega)];simp only[push_cast];refine zd λQ av _=>?_;have Y:=W.trans av;have aq:=Z.ext Y;obtain⟨A0,B0,A1,B1,R,V1⟩:=two Q Y;simp(disch:=first|omega|simp only[push_cast]) only[aq.ld0,A0,B0,A1,B1,R.iaddr,R.load,V1.iaddr,V1.load,push_cast,true_and];exact bor_spec (z.ext Y) S0 S1 λw9 F9 b2 x h9 ay b0 a6=>fin w9 F9 b2 x h9 ((Mv.refl.ext Y).trans ay) b0 (M.Bd.Out.map _ a6)
 rw[if_neg oM,if_neg oM,if_neg oM,if_neg oM] at q;by_cases al:t.op=23
 ·have D:kTy t.op=zS:=by rw[al];rfl
  have:=a7 oM;subst this;obtain⟨k1,l0,l1,l2,l3⟩:=q6 al;rw[D];simp only[xV yH yN (show zS≠zM by decide),xV yI yS (show zS≠zE by decide),xV x8 xo (show zS≠zJ by decide),XW xD,push_cast];rw[if_pos al] at q;refine zj xQ λb3 w3 a9 I ac N=>?_;refine stKind N U8 λw4 O=>?_;have p:Ext w2 w4:=Ext.then I O λy hy=>by subst hy;omega
  refine zd λl J _=>?_;have d:=p.trans J;have B:=U.ext d;have a0:=Z.ext d;have H:=z.ext d;have A0:∀K:oK,ya zH kv (nI 0) l K=K (.pointer (some (eaddr kv 1 0))) l:=λK=>(T l d 0 oM K).1;have B0:∀K:oK,zt zf (.pointer (some (eaddr kv 1 0))) l K=K (vs.getD 0 undef) l:=λK=>(T l d 0 oM K).2;have R:Ints (Off X F) l (vs.getD 0 undef) (rs.getD 0 []):=(S 0 oM).ext d;have S0:=o.sml (i:=0) oM;have A1:∀K:oK,ya zH kv (nI 1) l K=K (.pointer (some (eaddr kv 1 1))) l:=λK=>(T l d 1 oM K).1;have B1:∀K:oK,zt zf (.pointer (some (eaddr kv 1 1))) l K=K (vs.getD 1 undef) l:=λK=>(T l d 1 oM K).2;have V1:Ints (Off X F) l (vs.getD 1 undef) (rs.getD 1 []):=(S 1 oM).ext d;have S1:=o.sml (i:=1) oM;have A2:∀K:oK,ya zH kv (nI 2) l K=K (.pointer (some (eaddr kv 1 2))) l:=λK=>(T l d 2 oM K).1;have B2:∀K:oK,zt zf (.pointer (some (eaddr kv 1 2))) l K=K (vs.getD 2 undef) l:=λK=>(T l d 2 oM K).2;have V2:Ints (Off X F) l (vs.getD 2 undef) (rs.getD 2 []):=(S 2 oM).ext d;have S2:=o.sml (i:=2) oM;simp(disch:=first|omega|simp only[push_cast]) only[a0.ld0,B.ld0,B.ld1,B.ld2,A0,B0,R.iaddr,R.load,A1,B1,V1.iaddr,V1.load,A2,B2,V2.iaddr,V2.load,push_cast,zl,true_and];exact choose_spec H ⟨gs,rfl⟩ V1 V2 l1 oM S1 S2 (S0.get oM) λw6 F6 a8 r6 zs h6 a5 aj ad E=>q l d w6 F6 a8 r6 zs h6 a5 aj ad E
 rw[if_neg al] at q;by_cases ak:t.op=22
 ·have D:kTy t.op=zJ:=by rw[ak];rfl
  have:=a7 oM;subst this;obtain⟨k1,l0,l1,l2,l3⟩:=q5 ak;rw[D];simp only[xV yH yN (show zJ≠zM by decide),xV yI yS (show zJ≠zE by decide),XW x8,push_cast];rw[if_pos ak] at q;refine zj xo λb3 w3 a9 I ac N=>?_;refine stKind N Vb λw4 O=>?_;have p:Ext w2 w4:=Ext.then I O λy hy=>by subst hy;omega
  refine zd λl J _=>?_;have d:=p.trans J;have B:=U.ext d;have a0:=Z.ext d;have H:=z.ext d;have A0:∀K:oK,ya zH kv (nI 0) l K=K (.pointer (some (eaddr kv 1 0))) l:=λK=>(T l d 0 oM K).1;have B0:∀K:oK,zt zf (.pointer (some (eaddr kv 1 0))) l K=K (vs.getD 0 undef) l:=λK=>(T l d 0 oM K).2;have R:Ints (Off X F) l (vs.getD 0 undef) (rs.getD 0 []):=(S 0 oM).ext d;have S0:=o.sml (i:=0) oM;simp(disch:=first|omega|simp only[push_cast]) only[a0.ld0,B.ld0,B.ld1,B.ld2,A0,B0,R.iaddr,R.load,push_cast,zl,true_and];rw[show t.b=((t.b.toNat:Nat):Int) by omega,show t.a+1=((t.a.toNat+1:Nat):Int) by omega];refine Ints.cutLH R yL oM oM λcv bu=>⟨rfl,?_⟩;refine Clone_signal bu (by rw[gh,GN];omega) λw6 r6 V E c6=>?_;refine q l d w6 F (some gs) r6 _ (H.ext V) (Mv.refl.ext V) (NewI.of (w:=l) E c6 H.lt).ints (λx hx=>S0 x (GU (gX hx))) ?_;rw[show t.a.toNat+1-t.b.toNat=(t.a-t.b+1).toNat by omega];exact M.Bd.Out.ret _ _
 rw[if_neg ak] at q;by_cases c2:t.op<=2
 ·have D:kTy t.op=zO:=by unfold kTy;rw[if_pos c2]
  have:=a7 oM;subst this;obtain⟨k1,l0,l1⟩:=q1 oM c2;rw[D];simp only[xV yH yN (show zO≠zM by decide),xV yI yS (show zO≠zE by decide),xV x8 xo (show zO≠zJ by decide),xV xD xQ (show zO≠zS by decide),XW xS,push_cast];rw[if_pos c2] at q;refine zj qo λb3 w3 a9 I ac N=>?_;refine stKind N U7 λw4 O=>?_;have p:Ext w2 w4:=Ext.then I O λy hy=>by subst hy;omega
  refine zd λl J _=>?_;have d:=p.trans J;have B:=U.ext d;have a0:=Z.ext d;have H:=z.ext d;have A0:∀K:oK,ya zH kv (nI 0) l K=K (.pointer (some (eaddr kv 1 0))) l:=λK=>(T l d 0 oM K).1;have B0:∀K:oK,zt zf (.pointer (some (eaddr kv 1 0))) l K=K (vs.getD 0 undef) l:=λK=>(T l d 0 oM K).2;have R:Ints (Off X F) l (vs.getD 0 undef) (rs.getD 0 []):=(S 0 oM).ext d;have S0:=o.sml (i:=0) oM;simp(disch:=first|omega|simp only[push_cast]) only[a0.ld0,B.ld0,B.ld1,B.ld2,A0,B0,R.iaddr,R.load,push_cast,zl,true_and];exact un_spec H oM R oM S0 λw6 F6 a8 r6 zs h6 a5 aj ad E=>q l d w6 F6 a8 r6 zs h6 a5 aj ad E
 rw[if_neg c2] at q;by_cases b4:15<=t.op
 ·have D:kTy t.op=zF:=by unfold kTy;rw[if_neg oM,if_neg oM,if_neg oM,if_pos oM]
  have:=a7 oM;subst this;obtain⟨k1,l0,l1,l2⟩:=q4 b4 oM;rw[D];simp only[xV yH yN (show zF≠zM by decide),xV yI yS (show zF≠zE by decide),xV x8 xo (show zF≠zJ by decide),xV xD xQ (show zF≠zS by decide),xV xS qo (show zF≠zO by decide),xV qi jJ (show zF≠zG by decide),xV qh jI (show zF≠zK by decide),XW k8,push_cast];rw[if_pos oM] at q;refine zj Zn λb3 w3 a9 I ac N=>?_;refine stKind N Vd λw4 O=>?_;have p:Ext w2 w4:=Ext.then I O λy hy=>by subst hy;omega
  refine zd λl J _=>?_;have d:=p.trans J;have B:=U.ext d;have a0:=Z.ext d;have H:=z.ext d;have A0:∀K:oK,ya zH kv (nI 0) l K=K (.pointer (some (eaddr kv 1 0))) l:=λK=>(T l d 0 oM K).1;have B0:∀K:oK,zt zf (.pointer (some (eaddr kv 1 0))) l K=K (vs.getD 0 undef) l:=λK=>(T l d 0 oM K).2;have R:Ints (Off X F) l (vs.getD 0 undef) (rs.getD 0 []):=(S 0 oM).ext d;have S0:=o.sml (i:=0) oM;have A1:∀K:oK,ya zH kv (nI 1) l K=K (.pointer (some (eaddr kv 1 1))) l:=λK=>(T l d 1 oM K).1;have B1:∀K:oK,zt zf (.pointer (some (eaddr kv 1 1))) l K=K (vs.getD 1 undef) l:=λK=>(T l d 1 oM K).2;have V1:Ints (Off X F) l (vs.getD 1 undef) (rs.getD 1 []):=(S 1 oM).ext d;have S1:=o.sml (i:=1) oM;simp(disch:=first|omega|simp only[push_cast]) only[a0.ld0,B.ld0,B.ld1,B.ld2,A0,B0,R.iaddr,R.load,A1,B1,V1.iaddr,V1.load,push_cast,zl,true_and];refine compare_spec H ⟨gs,rfl⟩ b4 oM R V1 l0 l1 oM S0 S1 λw6 F6 a8 x h6 a5 cb E=>?_;refine zC yF y7 yj rfl rfl λb9 w9 bt ai ce au=>?_;have a6:OwnI zf w9 (.slice (some ⟨b9,0,none⟩) 1 1) [x]:=Blk.own1 (t:=zf) (cs:=[nI x]) (by rw[yP];exact au) (gP _) rfl rfl oM;exact q l d w9 F6 a8 _ [x] (h6.ext ai) (a5.ext ai) (NewI.of (w:=w6) a6 (λb hb=>by have e:b9=b:=X0 hb;omega) h6.lt).ints (SmL.one cb) (M.Bd.Out.map _ E)
 rw[if_neg oM] at q;have bc:kTy t.op=zG\/kTy t.op=zK:=by
  unfold kTy;rw[if_neg c2];by_cases c:t.op<=13
  ·rw[if_pos c];exact .inl rfl
  ·rw[if_neg c,if_pos oM];exact .inr rfl
 have:=a7 oM;subst this;have c3:t.ks.length=2/\(t.op≠14->(rs.getD 0 []).length=(rs.getD 1 []).length)/\(t.op=14->(rs.getD 0 []).length+(rs.getD 1 []).length<=4)/\1<=(rs.getD 0 []).length/\(rs.getD 0 []).length<=4:=by
  by_cases c:t.op=14
  ·obtain⟨a1,a2,a3,a4⟩:=q3 c;exact⟨a1,λh=>absurd c h,λ_=>a4,a2,oM⟩
  ·obtain⟨a1,a2,a3,a4⟩:=q2 oM oM;exact⟨a1,λ_=>a2,λh=>absurd h c,a3,a4⟩
 obtain⟨k1,l0,l1,l2,l3⟩:=c3;have go:Zq w2 λA=>zt yJ (oP bl 0) A λt107 bg=>bg=A/\zt zV (oP b1 0) A λt109 bh=>bh=A/\
   ya zH kv (nI 0) A λt111 bi=>bi=A/\zt zf t111 A λt112 bj=>bj=A/\ya zH kv (nI 1) A λt114 bk=>bk=A/\
   zt zf t114 A λt115 bm=>bm=A/\vcall kq #[t107,t109,t112,t115] A K:=by
  refine zd λl J _=>?_;have d:=J;have B:=U.ext d;have a0:=Z.ext d;have H:=z.ext d;have A0:∀K:oK,ya zH kv (nI 0) l K=K (.pointer (some (eaddr kv 1 0))) l:=λK=>(T l d 0 oM K).1;have B0:∀K:oK,zt zf (.pointer (some (eaddr kv 1 0))) l K=K (vs.getD 0 undef) l:=λK=>(T l d 0 oM K).2;have R:Ints (Off X F) l (vs.getD 0 undef) (rs.getD 0 []):=(S 0 oM).ext d;have S0:=o.sml (i:=0) oM;have A1:∀K:oK,ya zH kv (nI 1) l K=K (.pointer (some (eaddr kv 1 1))) l:=λK=>(T l d 1 oM K).1;have B1:∀K:oK,zt zf (.pointer (some (eaddr kv 1 1))) l K=K (vs.getD 1 undef) l:=λK=>(T l d 1 oM K).2;have V1:Ints (Off X F) l (vs.getD 1 undef) (rs.getD 1 []):=(S 1 oM).ext d;have S1:=o.sml (i:=1) oM;simp(disch:=first|omega|simp only[push_cast]) only[a0.ld0,B.ld0,A0,B0,A1,B1,push_cast,true_and];exact bin_spec H ⟨gs,rfl⟩ oM oM R V1 l0 l1 l2 oM S0 S1 λw6 F6 a8 r6 zs h6 a5 aj ad E=>q l d w6 F6 a8 r6 zs h6 a5 aj ad E
 rcases bc with D|D
 ·rw[D];simp only[xV yH yN (show zG≠zM by decide),xV yI yS (show zG≠zE by decide),xV x8 xo (show zG≠zJ by decide),xV xD xQ (show zG≠zS by decide),xV xS qo (show zG≠zO by decide),xV qh jI (show zG≠zK by decide),XW qi,push_cast];exact go
 ·rw[D];simp only[xV yH yN (show zK≠zM by decide),xV yI yS (show zK≠zE by decide),xV x8 xo (show zK≠zJ by decide),xV xD xQ (show zK≠zS by decide),xV xS qo (show zK≠zO by decide),xV qi jJ (show zK≠zG by decide),XW qh,push_cast];exact go
end
end
section
variable {w:World} {K:oK} {F F' Q X:Nat->Prop} {n bl bc mb bb kb m:Nat} {gs:M.Gs} {v dv:Value} {ar ab:Addr} {st:Option M.Gs} {ds:List M.Dcl}
def TOut {α:Type} (n:Nat) (p:M.Bd α) (st st':Option M.Gs) (a:α):Prop:=
 (∃gs gs',st=some gs/\st'=some gs'/\p.run n gs=some (gs',a))\/(st'=none/\∀gs,st=some gs->p.run n gs=none)
theorem Out.pre' {α:Type} {p:M.Bd α} {st st':Option M.Gs} {a:α} (h:M.Bd.Out n p st st' a):∀gs',st'=some gs'->∃gs,st=some gs/\gs<+:gs':=λgs' e=>by
 cases st with
 |none=>rw[h.1] at e;cases e
 |some gs=>
  rcases h with⟨g2,c,b⟩|⟨_,b,_⟩
  ·rw[b] at e;cases e;exact⟨gs,rfl,M.Bd.run_pre c⟩
  ·rw[b] at e;cases e
theorem W7 (ps:List (M.Bd (List Int))) (p:M.Bd (List Int)):∀(gs:M.Gs),(M.seqB (ps++[p])).run n gs=((M.seqB ps).run n gs).bind λr=>(p.run n r.1).map λq=>(q.1,r.2++[q.2]):=by
 induction ps with
 |nil=>
  intro gs;show((p.bind λr=>(M.Bd.ret []:M.Bd (List (List Int))).map (r:: ·))).run n gs=_;rw[M.Bd.run_bind];show _=(p.run n gs).map _;cases p.run n gs<;>rfl
 |cons q ps c=>
  intro gs;show(q.bind λr=>(M.seqB (ps++[p])).map (r:: ·)).run n gs=((q.bind λr=>(M.seqB ps).map (r:: ·)).run n gs).bind _;rw[M.Bd.run_bind,M.Bd.run_bind];cases q.run n gs with
  |none=>rfl
  |some a=>
   show((M.seqB (ps++[p])).bind λx=>M.Bd.ret (a.2::x)).run n a.1=(((M.seqB ps).bind λx=>M.Bd.ret (a.2::x)).run n a.1).bind _;rw[M.Bd.run_bind,M.Bd.run_bind,c];cases (M.seqB ps).run n a.1 with
   |none=>rfl
   |some b=>
    show((p.run n b.1).map _).bind _=(p.run n b.1).map _;cases p.run n b.1<;>rfl
theorem TOut.snoc {ps:List (M.Bd (List Int))} {p:M.Bd (List Int)} {st a st2:Option M.Gs} {rs:List (List Int)} {r:List Int} (h:TOut n (M.seqB ps) st a rs) (d:TOut n p a st2 r):TOut n (M.seqB (ps++[p])) st st2 (rs++[r]):=by
 rcases h with⟨g0,g1,b,a2,a3⟩|⟨b,a2⟩
 ·rcases d with⟨c,g2,b1,b2,b3⟩|⟨b1,b2⟩
  ·rw[a2] at b1;cases b1;exact .inl ⟨g0,g2,b,b2,by rw[W7,a3];show(p.run n g1).map _=_;rw[b3];rfl⟩
  ·refine .inr ⟨b1,λgs e=>?_⟩;rw[b] at e;cases e;rw[W7,a3];show(p.run n g1).map _=_;rw[b2 g1 a2];rfl
 ·rcases d with⟨c,g2,b1,b2,b3⟩|⟨b1,b2⟩
  ·rw[b] at b1;cases b1
  ·exact .inr ⟨b1,λgs e=>by rw[W7,a2 gs e];rfl⟩
theorem TOut.root {t:M.Tm} {st a st2:Option M.Gs} {rs:List (List Int)} {zs:List Int} (h:TOut n (M.seqB (t.ks.map (M.termB ds))) st a rs):(∀b,a=some b->M.Bd.Out n (M.nodeB ds t rs) (some b) st2 zs)->(a=none->st2=none)->TOut n (M.termB ds t) st st2 zs:=λd f=>by
 rcases h with⟨g0,g1,c,a2,a3⟩|⟨c,a2⟩
 ·rcases d g1 a2 with⟨g2,b1,b2⟩|⟨b1,b2,_⟩
  ·exact .inl ⟨g0,g2,c,b2,by rw[M.termB_eq,M.Bd.run_bind,a3];exact b1⟩
  ·refine .inr ⟨b2,λgs e=>?_⟩;rw[c] at e;cases e;rw[M.termB_eq,M.Bd.run_bind,a3];exact b1
 ·exact .inr ⟨f c,λgs e=>by rw[M.termB_eq,M.Bd.run_bind,a2 gs e];rfl⟩
def P1 (m:Nat) (F:Nat->Prop) (b:Nat):Prop:=F b\/b=m
theorem Mv.p1 {w':World} (h:Mv F w F' w'):Mv (P1 m F) w (P1 m F') w':=
 ⟨h.same.mono λ_ _ h=> .inl h,λb a=>a.elim (λa=>(h.new b a).imp .inl id) λa=> .inl (.inr a)⟩
theorem Sl.mvX {k:Nat} {v:Value} {xs:List (List Value)} {w':World} (h:Sl (Off X F) w k v xs) (d:X m) (hm:Mv (P1 m F) w (P1 m F') w'):Sl (Off X F') w' k v xs:=by
 have f:Sl (λb=>Off X F b/\b<w.heap.size) w k v xs:=h.weaken λb a j=>⟨a,j⟩;have g:=f.same hm.same λb a _ c=>c.elim a.1.1 λe=>a.1.2 (e▸d);exact g.weaken λb a _=>⟨λi=>hm.off (λc=>c.elim a.1.1 λe=>a.1.2 (e▸d)) a.2 (.inl i),a.1.2⟩
def MetR (n:Nat) (ds:List M.Dcl) (m:Nat) (X F:Nat->Prop) (w:World) (st:Option M.Gs):Prop:=
 ∃f,MapF .string w m f/\∀p,p∈f->∃(u:M.Tm) (s:ByteArray) (v:Value) (zs:List Int),p=(.string s,v)/\s.data.toList=M.textL u/\M.sortM ds u≠ -1/\Ints (Off X F) w v zs/\SmL zs/\∀gs,st=some gs->(M.termB ds u).run n gs=some (gs,zs)
structure BlR (n bl bb kb m:Nat) (ar ab:Addr) (ds:List M.Dcl) (dv:Value) (X F:Nat->Prop) (w:World) (st:Option M.Gs):Prop where
 bd:BdR n bb ar ab X F w st
 blk:Blk w bl [oP bb 0,dv,.map (some kb),.map (some m)] yo
 off: ¬F bl/\¬F m/\¬F kb/\bl≠m/\kb≠m
 ext:X m
 dcl:DclsR (Off X F) w dv ds
 kin:KindsR w kb
 met:MetR n ds m X F w st
theorem KindsR.same {w':World} {S:Nat->Prop} (h:KindsR w kb) (hs:Same S w w') (c: ¬S kb):KindsR w' kb:=by
 obtain⟨f,a,b⟩:=h;exact⟨f,a.same hs c,b⟩
theorem KindsR.lt (h:KindsR w kb):kb<w.heap.size:=by obtain⟨f,a,b⟩:=h;exact a.lt
theorem MetR.lt (h:MetR n ds m X F w st):m<w.heap.size:=by obtain⟨f,a,b⟩:=h;exact a.lt
theorem BlR.step {w':World} {st':Option M.Gs} (h:BlR n bl bb kb m ar ab ds dv X F w st) (o:BdR n bb ar ab X F' w' st') (hm:Mv F w F' w') (r:∀gs',st'=some gs'->∃gs,st=some gs/\gs<+:gs'):BlR n bl bb kb m ar ab ds dv X F' w' st':=by
 obtain⟨c,d,g,t,x⟩:=h.off;refine⟨o,h.blk.same hm.same c,⟨hm.off c h.blk.lt,hm.off d h.met.lt,hm.off g h.kin.lt,t,x⟩,h.ext,Sl.mvX h.dcl h.ext hm.p1,h.kin.same hm.same g,?_⟩;obtain⟨f,q,a⟩:=h.met;refine⟨f,q.same hm.same d,λp b=>?_⟩;obtain⟨u,s,v,zs,i,a2,a3,a4,a5,j⟩:=a p b;refine⟨u,s,v,zs,i,a2,a3,Sl.mvX a4 h.ext hm.p1,a5,λgs' e=>?_⟩;obtain⟨gs,k,l⟩:=r gs' e;exact M.Bd.run_again (j gs k) l
theorem BlR.grow {w':World} (h:BlR n bl bb kb m ar ab ds dv X F w st) (he:Ext w w'):BlR n bl bb kb m ar ab ds dv X F w' st:=h.step (h.bd.ext he) (Mv.refl.ext he) λgs e=>⟨gs,e,List.prefix_refl _⟩
theorem BlR.swap {w0 w':World} {t r S Y:Nat->Prop} {o:Option M.Gs} (h:BlR n bl bb kb m ar ab ds dv X F w st) (e:BlR n bl bb kb m ar ab ds dv t r w0 o) (hw:Same S w w') (i:∀b,S b->X b/\w0.heap.size<=b/\¬F b)
  (q:∀b,Y b->b<w'.heap.size/\(b<w.heap.size->X b)) (hm:Y m):BlR n bl bb kb m ar ab ds dv Y F w' st:=by
 have key:∀b,b<w0.heap.size->¬S b:=λb a hs=>by have:=(i b hs).2.1;omega
 have a:=h.bd.upd e.bd.err hw λb a=>(i b a).2;have d:∀b,Off X F b->b<w.heap.size->¬S b:=λb a _ hs=>a.2 (i b hs).1;have cut:∀b,(Off X F b/\b<w.heap.size)->Off Y F b:=λb a=>⟨a.1.1,λA=>a.1.2 ((q b A).2 a.2)⟩;refine⟨⟨a.err,a.blk,a.foot,λb j=>j.elim (λh=>a.lt b (.inl h)) λh=>(q b h).1⟩,h.blk.same hw (key _ e.blk.lt),h.off,hm,?_,h.kin.same hw (key _ e.kin.lt),?_⟩
 ·have g:DclsR (λb=>Off X F b/\b<w.heap.size) w dv ds:=Sl.weaken h.dcl λb a c=>⟨a,c⟩;exact Sl.weaken (Sl.same g hw λb a c=>d b a.1 c) λb a _=>cut b a
 ·obtain⟨f,z,k⟩:=h.met;refine⟨f,z.same hw (key _ e.met.lt),λp l=>?_⟩;obtain⟨u,s,v,zs,x,a2,a3,a4,a5,y⟩:=k p l;have g:Ints (λb=>Off X F b/\b<w.heap.size) w v zs:=Ints.weaken a4 λb a c=>⟨a,c⟩;exact⟨u,s,v,zs,x,a2,a3,Ints.weaken (Ints.same g hw λb a c=>d b a.1 c) λb a _=>cut b a,a5,y⟩
theorem Ints.swap {w':World} {S Y:Nat->Prop} {r:Value} {zs:List Int} (h:Ints (Off X F) w r zs) (hw:Same S w w') (d:∀b,S b->X b) (e:∀b,Y b->b<w.heap.size->X b):Ints (Off Y F) w' r zs:=by
 have c:Ints (λb=>Off X F b/\b<w.heap.size) w r zs:=Ints.weaken h λb a f=>⟨a,f⟩;exact Ints.weaken (Ints.same c hw λb a _ hs=>a.1.2 (d b hs)) λb a _=>⟨a.1.1,λg=>a.1.2 (e b g a.2)⟩
theorem XF:ko0 yR .string zf:=⟨_,jn,rK⟩
theorem BlR.put {s:ByteArray} {t:M.Tm} {r:Value} {zs:List Int} (h:BlR n bl bb kb m ar ab ds dv X F w st) (hs:s.data.toList=M.textL t) (S:M.sortM ds t≠ -1) (hi:Ints (Off X F) w r zs) (z:SmL zs)
  (l:∀gs,st=some gs->(M.termB ds t).run n gs=some (gs,zs)) (N:∀w',BlR n bl bb kb m ar ab ds dv X F w' st->Same (· =m) w w'->K undef w'):UO yR (.map (some m)) (.string s) r w K:=by
 obtain⟨o1,D,o3,U,V⟩:=h.off;obtain⟨f,C,R⟩:=h.met;refine q70 XF C (XJ s) λw' H q o hw T=>N w' ?_ hw;obtain⟨es,cl,x,_⟩:=C;have i:∀(a:Addr),(∃v,w.cell? a=some v)->a.block≠m:=λa ⟨v,O⟩ e=>by
  simp[World.cell?,e,x] at O
 have d:∀{g:Nat} {a:Addr},Sent w g a->g≠m:=λy=>i _ ⟨_,y.cell⟩;have he:=h.bd.err;have W:=d he.room;have Y:=d he.bits;have c:∀b,Off X F b->b<w.heap.size->¬(b=m):=λb k _ e=>k.2 (e▸h.ext);obtain⟨bc,J,L⟩:=h.bd.blk;refine⟨⟨⟨he.room.same hw W,he.bits.same hw Y,he.off⟩,⟨bc,J.same hw λe=>D (e▸h.bd.foot),λgs e=>?_⟩,h.bd.foot,λb k=>by rw[T];exact h.bd.lt b k⟩,h.blk.same hw U,h.off,h.ext,Sl.same h.dcl hw c,h.kin.same hw V,H,q,λp j=>?_⟩
 ·obtain⟨v,mb,Q,I,B⟩:=L gs e;exact⟨v,mb,Q.same hw λb k e=>D (e▸B b k),I,B⟩
 ·rcases o p j with rfl|j
  ·exact⟨t,s,r,zs,rfl,hs,S,Ints.same hi hw c,z,l⟩
  ·obtain⟨u,Z,v,A,E,a2,a3,a4,a5,G⟩:=R p j;exact⟨u,Z,v,A,E,a2,a3,Ints.same a4 hw c,a5,G⟩
structure KidsB (n bl bb kb m:Nat) (ar ab:Addr) (ds:List M.Dcl) (dv:Value) (t:M.Tm) (X F:Nat->Prop) (w:World) (st:Option M.Gs) (i:Nat) (v:Value) (w':World):Prop where
 ex:∃(F1:Nat->Prop) (st1:Option M.Gs) (vs:List Value) (rs:List (List Int)),BlR n bl bb kb m ar ab ds dv (λb=>X b\/v.ownBlock=some b) F1 w' st1/\Mv (P1 m F) w (P1 m F1) w'/\OwnV zH w' v vs/\(∀b,v.ownBlock=some b->w.heap.size<=b/\¬F1 b)/\
  vs.length=i/\rs.length=i/\(∀j,j<i->Ints (Off (λb=>X b\/v.ownBlock=some b) F1) w' (vs.getD j undef) (rs.getD j []))/\(∀r,r∈rs->SmL r)/\TOut n (M.seqB ((t.ks.take i).map (M.termB ds))) st st1 rs
theorem Jn {α:Type} {l r:List α} {d:α} {i:Nat} (h:i<l.length):(l++r).getD i d=l.getD i d:=by
 rw[y3,Gd h,<-y3]
theorem Jo {α:Type} {l:List α} {x d:α} {i:Nat} (h:l.length=i):(l++[x]).getD i d=x:=by
 subst h;simp[y3]
theorem TOut.nil:TOut n (M.seqB []) st st []:=by
 cases st with
 |none=>exact .inr ⟨rfl,λgs e=>by cases e⟩
 |some gs=>exact .inl ⟨gs,gs,rfl,rfl,rfl⟩
theorem term_spec (hd:M.declOk ds=true):∀(t:M.Tm),M.sortM ds t≠ -1->M.sizeM t<=1000->∀{w:World} {K:oK} {X F:Nat->Prop} {st:Option M.Gs} {tv:Value},BlR n bl bb kb m ar ab ds dv X F w st->TermR (Off X F) w tv t->
  (∀w' F' st' r zs,BlR n bl bb kb m ar ab ds dv X F' w' st'->Mv (P1 m F) w (P1 m F') w'->Ints (Off X F') w' r zs->SmL zs->TOut n (M.termB ds t) st st' zs->K r w')->
  vcall X2 #[oP bl 0,tv] w K:=by
 refine M.Tm.ind λt ih hs bq w K X F st tv d ht hK=>?_;obtain⟨kv,rfl,bm⟩:=ht;refine ze {ord:=[oz 1 (oR 7) [(0,[4]),(1,[4]),(2,[4]),(3,[4])]],loops:=[(7,[8,32])]} Tryz.func156 ?_;refine zi λb1 w1 c4 bj c7 b6=>?_;refine zd λw2 am _=>?_;have e2:=bj.trans am;have ac:=d.grow e2;have ah:=b6.ext am;have W:=bm.ext e2;simp(disch:=first|omega|simp only[push_cast]) only[push_cast,ac.blk.ld2,ah.ldAgg (t:=za) zc,true_and];refine textOf_spec hd t hs bq ac.kin ⟨kv,rfl,W⟩ λw3 s Q az=>?_;have e3:=e2.trans Q;have k:=ac.grow Q;have ai:=ah.ext Q;have Z:=W.ext Q;simp(disch:=first|omega|simp only[push_cast]) only[push_cast,k.blk.ld3];obtain⟨f,O,bk⟩:=k.met;by_cases H:∃v,(Value.string s,v)∈f
 ·obtain⟨v,H⟩:=H;rw[Xh XF O (XJ s) H];simp only[push_cast,if_true];obtain⟨u,s',v',zs,e,a2,a3,a4,a5,a6⟩:=bk _ H;cases e;have:=M.text_inj hd hs a3 (az.symm.trans a2);subst this;refine hK w3 F st v zs k (Mv.refl.ext e3) a4 a5 ?_;cases st with
  |none=>exact .inr ⟨rfl,λgs e=>by cases e⟩
  |some gs=>exact .inl ⟨gs,gs,rfl,rfl,a6 gs rfl⟩
 rw[UP XF qD O (XJ s) λv hv=>H ⟨v,hv⟩];simp(disch:=first|omega|simp only[push_cast]) only[push_cast,if_true,ai.ld4,Z.len];have c6:t.ks.length<=3:=by
  obtain⟨c3,hp,ho⟩:=M.right_op hs;have h:M.arity t.op<=3:=by
   unfold M.arity;repeat' split
   all_goals omega
  omega
 have R:∀b,(X b\/(Value.slice none 0 0).ownBlock=some b)->b<w3.heap.size/\(b<w3.heap.size->X b):=λb d=>d.elim (λh=>⟨k.bd.lt b (.inr h),λ_=>h⟩) λh=>by cases h
 have aj:=k.swap (Y:=λb=>X b\/(Value.slice none 0 0).ownBlock=some b) k (Same.refl (λ_=>False) w3) (λb d=>d.elim) R (.inl k.ext);have ba:TmsR (λb=>Off X F b/\b<w3.heap.size) w3 kv t.ks:=Z.weaken λb d hl=>⟨d,hl⟩;refine vloop_up t.ks.length (λi u w'=> ∃v,u=[v,nI i]/\KidsB n bl bb kb m ar ab ds dv t X F w3 st i v w') ⟨_,rfl,⟨F,st,[],[],aj,Mv.refl,OwnV.nil,(λb d=>by cases d),rfl,rfl,λj V=>absurd V oM,(λr hr=>by cases hr),TOut.nil⟩⟩ ?_;rintro i _ g w4 C hi ⟨v,rfl,⟨F4,bu,vs,rs,l,A,ae,E,b2,aw,hint,ay,L⟩⟩ hC;simp only[push_cast];have l4:=A.same.size;have I:TmsR (λb=>Off X F b/\b<w3.heap.size) w4 kv t.ks:=ba.same A.same λb d _ hp=>hp.elim d.1.1 λe=>d.1.2 (e▸k.ext);have be:∀b,(Off X F b/\b<w3.heap.size)->Off (λb=>X b\/v.ownBlock=some b) F4 b:=λb d=>⟨λO=>A.off (λhp=>hp.elim d.1.1 λe=>d.1.2 (e▸k.ext)) d.2 (.inl O),λhx=>hx.elim d.1.2 λho=>by have:=(E b ho).1;omega⟩;refine zb (λa=>?_) (λa=>?_)
 ·have p:i<t.ks.length:=oM;simp(disch:=first|omega|simp only[push_cast]) only[push_cast,I.iaddr];refine I.load zc p λx hx=>?_;obtain⟨cx,rfl,ad⟩:=hx.cells;refine zj zn λb7 w7 c5 an c8 b8=>?_;refine stTerm b8 rfl (ad.ext an) λw8 bs c9 b9=>?_;have D:Ext w4 w8:=Ext.then an bs λy hy=>by subst hy;omega
  have v8:=ad.ext D;simp only[push_cast,b9.ldAgg (t:=za) (by rw[zQ ad];exact zc)];have B:t.ks.getD i default∈t.ks:=M.getD_mem p _;have bp:M.sizeM (t.ks.getD i default)<=1000:=by
   have h1:=M.szT_succ p;have h2:=M.szT_mono (ks:=t.ks) (i:=i+1) (j:=t.ks.length) p (gu _);have h3:=M.szT_all t;omega
  have bi:=l.grow D;refine ih _ B ((M.sort_parts hs).2.1 _ B) bp bi (v8.term.weaken λb d _=>be b d) λw9 F9 bv r zs al J af bt br=>?_;refine zC Zu j3 qD rfl (Sl.cells1 af) λbz w10 bw o bx ag=>?_;have ca:=D.size;have l9:=J.same.size;have b0:∀b,v.ownBlock=some b->¬P1 m F4 b:=λb d hp=>hp.elim (E b d).2 λe=>by have:=(E b d).1;have:=k.met.lt;omega
  have au:OwnV zH w10 v vs:=((ae.ext D).same J.same b0).ext o;refine au.app1 Kc ag (Sl.one af) oM oM λv11 cb a8 z a0=>?_
  try simp(disch:=omega) only[push_cast,zl]
  have a7:∀b,v.ownBlock=some b->¬F9 b:=λb d O=>J.off (b0 b d) (by have:=ae.lt d;omega) (.inl O);have G:∀b,(X b\/v11.ownBlock=some b)->b<w10.heap.size->(X b\/v.ownBlock=some b):=λb d hl=>d.elim .inl λh=>(a0 b h).elim .inr λh2=>oM;have S:∀j,j<i->Ints (Off (λb=>X b\/v.ownBlock=some b) F9) w10 (vs.getD j undef) (rs.getD j []):=λj V=>Ints.ext (Sl.mvX (Ints.ext (hint j V) D) (.inl d.ext) J) o;refine hC p _ _ ⟨v11,by simp,⟨F9,bv,vs++[r],rs++[zs],(al.grow o).swap k z (λb d=>⟨.inr d,(E b d).1,a7 b d⟩) (λb d=>⟨?_,G b d⟩) (.inl d.ext),(((A.ext D).trans J).ext o).to z λb d=> .inr (E b d).1,a8,λb d=>?_,by simp[b2],by simp[aw],λj V=>?_,λq hq=>?_,?_⟩⟩
  ·rcases d with h|h
   ·have:=l.bd.lt b (.inr (.inl h));have:=o.size;have:=z.size;omega
   ·exact a8.lt h
  ·rcases a0 b d with h|h
   ·exact⟨(E b h).1,a7 b h⟩
   ·have:=o.size;exact⟨oM,λO=>by have:=al.bd.lt b (.inl O);omega⟩
  ·by_cases c:j<i
   ·rw[Jn oM,Jn oM];exact Ints.swap (S j c) z (λb d=> .inr d) G
   ·have:j=i:=oM;subst this;rw[Jo b2,Jo aw];exact Ints.swap (Ints.ext af o) z (λb d=> .inr d) G
  ·rcases gj.1 hq with h|h
   ·exact ay q h
   ·rw[gn.1 h];exact bt
  ·rw[M.take_add p default,gx];exact L.snoc br
 ·have p:i=t.ks.length:=oM;subst p;rw[gw] at L;obtain⟨bc,hB,c2⟩:=l.bd.blk;have back:∀{F5:Nat->Prop} {w5:World} {N:Option M.Gs},BlR n bl bb kb m ar ab ds dv (λb=>X b\/v.ownBlock=some b) F5 w5 N->BlR n bl bb kb m ar ab ds dv X F5 w5 N:=λh=>h.swap h (Same.refl (λ_=>False) _) (λb d=>d.elim) (λb d=>⟨h.bd.lt b (.inr (.inl d)),λ_=> .inl d⟩) k.ext;have m3:Mv (P1 m F) w (P1 m F) w3:=Mv.refl.ext e3;cases bu with
  |none=>
   simp only at hB;simp(disch:=first|omega|simp only[push_cast]) only[push_cast,l.blk.ld0,hB.ld1,Uv];have aq:Ints (Off X F4) w4 (.slice none 0 0) []:=Ints.weaken (OwnI.nil (t:=zf)).ints λb d _=>(by cases d);exact hK w4 F4 none _ [] (back l) (m3.trans A) aq SmL.nil (TOut.root (st2:=none) L (λb5 e=>by cases e) λ_=>rfl)
  |some c1=>
   simp only at hB;simp(disch:=first|omega|simp only[push_cast]) only[push_cast,l.blk.ld0,hB.ld1,YR];have bf:=ai.same A.same λhp=>hp.elim (λO=>by have:=d.bd.lt _ (.inl O);omega) λe=>by have:=d.met.lt;omega
   simp(disch:=first|omega|simp only[push_cast]) only[push_cast,bf.ldAgg (t:=za) zc];have T:(M.seqB (t.ks.map (M.termB ds))).Reach rs:=by
    rcases L with⟨c0,g1,a1,a2,a3⟩|⟨a1,_⟩
    ·exact M.Bd.reach_of_run a3
    ·cases a1
   obtain⟨ax,bo⟩:=M.seq_reach T;refine root_spec l.bd hd hs l.blk l.dcl l.kin ⟨kv,rfl,I⟩ ⟨⟨vs,ae.vals,oM,λj V=>hint j oM⟩,ay⟩ ax (λj V=>?_) λw5 F5 N r zs bg ao bn b4 av=>?_
   ·have B:t.ks.getD j default∈t.ks:=M.getD_mem V _;have:=M.term_len hd _ ((M.sort_parts hs).2.1 _ B) (bo j V);rw[this];rfl
   have ak:=l.step bg ao (Out.pre' av);have aa:TOut n (M.termB ds t) st N zs:=L.root (λb5 e=>by cases e;exact av) λe=>(by cases e);have ap:Mv (P1 m F) w (P1 m F5) w5:=(m3.trans A).trans ao.p1;have a9:Ints (Off X F5) w5 r zs:=Ints.weaken bn λb d _=>⟨d.1,λhx=>d.2 (.inl hx)⟩;have U:=back ak;simp(disch:=first|omega|simp only[push_cast]) only[push_cast,U.blk.ld3];refine U.put az hs a9 b4 (λgs e=>?_) λw6 bh b3=>?_
   ·rcases aa with⟨g0,g1,a1,a2,a3⟩|⟨a1,_⟩
    ·rw[a2] at e;cases e;exact M.Bd.run_again a3 (List.prefix_refl _)
    ·rw[a1] at e;cases e
   ·refine hK w6 F5 N r zs bh (ap.to b3 λb d=> .inl (.inr d)) ?_ b4 aa;exact Ints.same a9 b3 λb d _ e=>d.2 (e▸k.ext)
end
end Go.Proofs.YtolbhkcajhlllaaGreatDoor
end
