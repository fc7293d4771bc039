import Derived.Test.YtaekfnbnhjgboaaGreatDoorWufP2
import Derived.Test.YtaekfnbnhjgboaaGreatDoorWufP5
import Derived.Test.YtaekfnbnhjgboaaGreatDoorWufP4
/- A part of the proof. -/
set_option linter.unusedVariables false
set_option linter.unusedSimpArgs false
set_option linter.unnecessarySimpa false
set_option linter.unusedSectionVars false
section
namespace Go.M
structure Gt where
 x:Bool
 a:Int
 b:Int
deriving DecidableEq
abbrev Gs:=List Gt
def absI (a:Int):Int:=if a<0 then-a else a
def turnI (c:Bool) (a:Int):Int:=if c then-a else a
def putG (n:Nat) (gs:Gs) (g:Gt):Gs×Int:=
 if g∈gs then(gs,2+n+gs.idxOf g) else if 600≤gs.length then(gs,0) else(gs++[g],2+n+gs.length)
def gateA (a b:Int):Gt:=if absI b<absI a then⟨false,b,a⟩ else⟨false,a,b⟩
def gateX (a b:Int):Gt:=if absI b<absI a then⟨true,absI b,absI a⟩ else⟨true,absI a,absI b⟩
def andG (n:Nat) (gs:Gs) (a b:Int):Gs×Int:=
 if a= -1∨b= -1 then(gs,-1) else if a=1 then(gs,b) else if b=1 then(gs,a) else if a=b then(gs,a) else if a= -b then(gs,-1) else putG n gs (gateA a b)
def xorG (n:Nat) (gs:Gs) (a b:Int):Gs×Int:=
 if absI a=1 then(gs,turnI (decide (a=1)) b) else if absI b=1 then(gs,turnI (decide (b=1)) a) else if a=b then(gs,-1) else if a= -b then(gs,1)
 else((putG n gs (gateX a b)).1,turnI (decide (a<0) != decide (b<0)) (putG n gs (gateX a b)).2)
inductive Bd (α:Type) where
 |ret (a:α)
 |and (x y:Int) (k:Int→Bd α)
 |xor (x y:Int) (k:Int→Bd α)
namespace Bd
def bind {α β:Type}:Bd α→(α→Bd β)→Bd β
 |ret a,f=>f a
 |and x y k,f=>and x y fun v=>bind (k v) f
 |xor x y k,f=>xor x y fun v=>bind (k v) f
def map {α β:Type} (f:α→β) (p:Bd α):Bd β:=p.bind fun a=>ret (f a)
def Reach {α:Type}:Bd α→α→Prop
 |ret a,b=>b=a
 |and _ _ k,b=> ∃v,Reach (k v) b
 |xor _ _ k,b=> ∃v,Reach (k v) b
def run {α:Type} (n:Nat):Bd α→Gs→Option (Gs×α)
 |ret a,gs=>some (gs,a)
 |and x y k,gs=>if(andG n gs x y).2=0 then none else run n (k (andG n gs x y).2) (andG n gs x y).1
 |xor x y k,gs=>if(xorG n gs x y).2=0 then none else run n (k (xorG n gs x y).2) (xorG n gs x y).1
def Out {α:Type} (n:Nat) (p:Bd α) (st st':Option Gs) (a:α):Prop:=
 match st with
 |some gs=>(∃gs',p.run n gs=some (gs',a)∧st'=some gs')∨(p.run n gs=none∧st'=none∧p.Reach a)
 |none=>st'=none∧p.Reach a
theorem bind_assoc {α β γ:Type} (p:Bd α) (f:α→Bd β) (g:β→Bd γ):(p.bind f).bind g=p.bind fun a=>(f a).bind g:=by
 induction p with
 |ret a=>rfl
 |and x y k b=>simp only[bind];congr 1;funext v;exact b v
 |xor x y k b=>simp only[bind];congr 1;funext v;exact b v
theorem run_bind {α β:Type} {n:Nat} (p:Bd α) (f:α→Bd β) (gs:Gs):(p.bind f).run n gs=(p.run n gs).bind fun r=>(f r.2).run n r.1:=by
 induction p generalizing gs with
 |ret a=>rfl
 |and x y k b=>
  simp only[bind,run];split
  ·rfl
  ·exact b _ _
 |xor x y k b=>
  simp only[bind,run];split
  ·rfl
  ·exact b _ _
theorem reach_bind {α β:Type} {p:Bd α} {f:α→Bd β} {a:α} {b:β} (h:p.Reach a) (g:(f a).Reach b):(p.bind f).Reach b:=by
 induction p with
 |ret c=>cases h;exact g
 |and x y k e=>obtain⟨v,d⟩:=h;exact⟨v,e v d⟩
 |xor x y k e=>obtain⟨v,d⟩:=h;exact⟨v,e v d⟩
theorem reach_of_run {α:Type} {n:Nat} {p:Bd α} {gs gs':Gs} {a:α} (h:p.run n gs=some (gs',a)):p.Reach a:=by
 induction p generalizing gs with
 |ret c=>simp only[run,Option.some.injEq,Prod.mk.injEq] at h;exact h.2.symm
 |and x y k b=>
  simp only[run] at h;split at h
  ·cases h
  ·exact⟨_,b _ h⟩
 |xor x y k b=>
  simp only[run] at h;split at h
  ·cases h
  ·exact⟨_,b _ h⟩
theorem Out.reach {α:Type} {n:Nat} {p:Bd α} {st st':Option Gs} {a:α} (h:Out n p st st' a):p.Reach a:=by
 cases st with
 |none=>exact h.2
 |some gs=>
  rcases h with⟨gs',h,_⟩|⟨_,_,h⟩
  ·exact reach_of_run h
  ·exact h
theorem Out.ret {α:Type} {n:Nat} (a:α) (st:Option Gs):Out n (.ret a) st st a:=by
 cases st with
 |none=>exact⟨rfl,rfl⟩
 |some gs=>exact .inl ⟨gs,rfl,rfl⟩
theorem Out.bind {α β:Type} {n:Nat} {p:Bd α} {f:α→Bd β} {st st' d:Option Gs} {a:α} {b:β} (h:Out n p st st' a) (c:Out n (f a) st' d b):Out n (p.bind f) st d b:=by
 cases st with
 |none=>
  obtain⟨rfl,e⟩:=h
  exact⟨c.1,reach_bind e c.2⟩
 |some gs=>
  rcases h with⟨gs',e,rfl⟩|⟨e,rfl,i⟩
  ·rcases c with⟨g,c,rfl⟩|⟨c,rfl,i⟩
   ·exact .inl ⟨g,by rw[run_bind,e];exact c,rfl⟩
   ·exact .inr ⟨by rw[run_bind,e];exact c,rfl,reach_bind (reach_of_run e) i⟩
  ·exact .inr ⟨by rw[run_bind,e];rfl,c.1,reach_bind i c.2⟩
theorem Out.map {α β:Type} {n:Nat} {p:Bd α} (f:α→β) {st st':Option Gs} {a:α} (h:Out n p st st' a):Out n (p.map f) st st' (f a):=h.bind (Out.ret _ _)
end Bd
theorem xU0 {gs F:Gs} {g:Gt} (h:gs<+:F) (hm:g∈gs):F.idxOf g=gs.idxOf g:=by
 obtain⟨t,rfl⟩:=h
 rw[List.idxOf_append,if_pos hm]
theorem kj0 {n:Nat} (gs:Gs) (g:Gt):gs<+:(putG n gs g).1:=by
 unfold putG
 split
 ·exact List.prefix_refl _
 ·split
  ·exact List.prefix_refl _
  ·exact List.prefix_append _ _
theorem xK0 {n:Nat} {gs F:Gs} {g:Gt} (b:(putG n gs g).2≠0) (h:(putG n gs g).1<+:F):putG n F g=(F,(putG n gs g).2):=by
 unfold putG at b h⊢
 by_cases hm:g∈gs
 ·rw[if_pos hm] at h⊢
  rw[if_pos (h.subset hm),xU0 h hm]
 ·rw[if_neg hm] at b h⊢
  by_cases c:600≤gs.length
  ·rw[if_pos c] at b;exact absurd rfl b
  ·rw[if_neg c] at h⊢
   have a:g∈gs++[g]:=by simp
   rw[if_pos (h.subset a),xU0 h a,List.idxOf_append,if_neg hm]
   simp
theorem kS0 {n:Nat} (gs:Gs) (a b:Int):gs<+:(andG n gs a b).1:=by
 unfold andG
 repeat' split
 all_goals first|exact List.prefix_refl _|exact kj0 _ _
theorem jW0 {n:Nat} (gs:Gs) (a b:Int):gs<+:(xorG n gs a b).1:=by
 unfold xorG
 repeat' split
 all_goals first|exact List.prefix_refl _|exact kj0 _ _
theorem kT0 {n:Nat} {gs F:Gs} {a b:Int} (c:(andG n gs a b).2≠0) (h:(andG n gs a b).1<+:F):andG n F a b=(F,(andG n gs a b).2):=by
 unfold andG at c h⊢
 repeat' split at c
 all_goals simp_all
 exact xK0 c h
theorem turn_zero {c:Bool} {m:Int}:turnI c m=0↔m=0:=by cases c<;>simp[turnI]
theorem jX0 {n:Nat} {gs F:Gs} {a b:Int} (c:(xorG n gs a b).2≠0) (h:(xorG n gs a b).1<+:F):xorG n F a b=(F,(xorG n gs a b).2):=by
 unfold xorG at c h⊢
 repeat' split at c
 all_goals simp_all
 have:=xK0 (n:=n) (g:=gateX a b) (fun e=>c (turn_zero.2 e)) h
 rw[this]
 exact⟨rfl,rfl⟩
namespace Bd
theorem run_pre {α:Type} {n:Nat} {p:Bd α} {gs gs':Gs} {a:α} (h:p.run n gs=some (gs',a)):gs<+:gs':=by
 induction p generalizing gs with
 |ret c=>simp only[run,Option.some.injEq,Prod.mk.injEq] at h;rw[h.1];exact List.prefix_refl _
 |and x y k b=>
  simp only[run] at h;split at h
  ·cases h
  ·exact(kS0 gs x y).trans (b _ h)
 |xor x y k b=>
  simp only[run] at h;split at h
  ·cases h
  ·exact(jW0 gs x y).trans (b _ h)
theorem run_again {α:Type} {n:Nat} {p:Bd α} {gs gs' F:Gs} {a:α} (h:p.run n gs=some (gs',a)) (hF:gs'<+:F):p.run n F=some (F,a):=by
 induction p generalizing gs with
 |ret c=>simp only[run,Option.some.injEq,Prod.mk.injEq] at h⊢;exact⟨trivial,h.2⟩
 |and x y k e=>
  simp only[run] at h⊢
  split at h
  ·cases h
  ·next b=>
   have d:=(run_pre h).trans hF
   rw[kT0 b d]
   simp only
   rw[if_neg b]
   exact e _ h
 |xor x y k e=>
  simp only[run] at h⊢
  split at h
  ·cases h
  ·next b=>
   have d:=(run_pre h).trans hF
   rw[jX0 b d]
   simp only
   rw[if_neg b]
   exact e _ h
end Bd
def ZZ (vals:List Bool) (m:Int):Bool:=if 0<m then vals.getD (m-1).toNat false else !vals.getD (-m-1).toNat false
def has (k:Nat) (m:Int):Prop:=m≠0∧ -(k:Int)≤m∧m≤k
def Kr (vals:List Bool) (g:Gt):Bool:=if g.x then ZZ vals g.a != ZZ vals g.b else ZZ vals g.a&&ZZ vals g.b
def valsG:List Bool→Gs→List Bool
 |vals,[]=>vals
 |vals,g::gs=>valsG (vals++[Kr vals g]) gs
def UV (n k:Nat) (g:Gt):Prop:=2≤absI g.a∧absI g.a<absI g.b∧absI g.b≤1+n+k∧(g.x=true→0<g.a∧0<g.b)
structure NetG (n:Nat) (gs:Gs):Prop where
 few:gs.length≤600
 gate:∀k,(h:k<gs.length)→UV n k gs[k]
 once:gs.Nodup
theorem lit_neg (vals:List Bool) {m:Int} (h:m≠0):ZZ vals (-m)= !ZZ vals m:=by
 unfold ZZ
 by_cases a:0<m
 ·rw[if_neg (by omega),if_pos a,Int.neg_neg]
 ·rw[if_pos (by omega),if_neg a,Bool.not_not]
theorem lit_pre {vals more:List Bool} {m:Int} (h:has vals.length m):ZZ (vals++more) m=ZZ vals m:=by
 unfold ZZ
 obtain⟨a,b,c⟩:=h
 split
 ·rw[List.getD_eq_getElem?_getD,List.getElem?_append_left (by omega),←List.getD_eq_getElem?_getD]
 ·rw[List.getD_eq_getElem?_getD,List.getElem?_append_left (by omega),←List.getD_eq_getElem?_getD]
theorem valsG_len:∀(gs:Gs) (vals:List Bool),(valsG vals gs).length=vals.length+gs.length
 |[],vals=>rfl
 |g::gs,vals=>by simp only[valsG,valsG_len gs,List.length_append,List.length_cons,List.length_nil];omega
theorem valsG_pre:∀(gs:Gs) (vals:List Bool),vals<+:valsG vals gs
 |[],vals=>List.prefix_refl _
 |g::gs,vals=>(List.prefix_append _ _).trans (valsG_pre gs _)
theorem valsG_app:∀(gs hs:Gs) (vals:List Bool),valsG vals (gs++hs)=valsG (valsG vals gs) hs
 |[],hs,vals=>rfl
 |g::gs,hs,vals=>valsG_app gs hs _
theorem abs_pos {a:Int} (h:a≠0):0<absI a:=by unfold absI;split<;>omega
theorem has_abs {k:Nat} {m:Int}:has k m↔1≤absI m∧absI m≤k:=by
 unfold has absI
 split<;>omega
theorem has_neg {k:Nat} {m:Int} (h:has k m):has k (-m):=⟨by have:=h.1;omega,by have:=h.2.2;omega,by have:=h.2.1;omega⟩
theorem has_mono {k l:Nat} {m:Int} (h:has k m) (a:k≤l):has l m:=⟨h.1,by have:=h.2.1;omega,by have:=h.2.2;omega⟩
theorem yB0 {k:Nat} {m:Int} {c:Bool} (h:has k m):has k (turnI c m):=by cases c;exact h;exact has_neg h
theorem je0 (vals:List Bool) {m:Int} (h:m≠0) (c:Bool):ZZ vals (turnI c m)=(c != ZZ vals m):=by
 cases c
 ·show ZZ vals m=_;simp
 ·show ZZ vals (-m)=_;rw[lit_neg vals h];simp
theorem valsG_at {n:Nat} {F:Gs} {ins:List Bool} (l:ins.length=n) {k:Nat} (j:k<F.length) (hF:UV n k F[k]):(valsG (true::ins) F).getD (1+n+k) false=Kr (valsG (true::ins) F) F[k]:=by
 have e:F=F.take k++F[k]::F.drop (k+1):=by rw[←List.drop_eq_getElem_cons j,List.take_append_drop]
 have c:=hF
 clear hF
 generalize s:F[k]=g at e c⊢
 have d:(valsG (true::ins) (F.take k)).length=1+n+k:=by rw[valsG_len,List.length_cons,List.length_take,l];omega
 rw[e,valsG_app]
 show(valsG (valsG (true::ins) (F.take k)++[Kr (valsG (true::ins) (F.take k)) g]) (F.drop (k+1))).getD (1+n+k) false=Kr (valsG (valsG (true::ins) (F.take k)++[Kr (valsG (true::ins) (F.take k)) g]) (F.drop (k+1))) g
 generalize valsG (true::ins) (F.take k)=vs at d⊢
 obtain⟨t,m⟩:=valsG_pre (F.drop (k+1)) (vs++[Kr vs g])
 rw[←m,List.append_assoc]
 obtain⟨o,p,q,r⟩:=c
 have h:has vs.length g.a:=has_abs.2 ⟨by omega,by omega⟩
 have i:has vs.length g.b:=has_abs.2 ⟨by omega,by omega⟩
 have f:Kr (vs++([Kr vs g]++t)) g=Kr vs g:=by
  unfold Kr
  rw[lit_pre h,lit_pre i]
 rw[f,List.getD_eq_getElem?_getD,List.getElem?_append_right (by omega),d,Nat.sub_self]
 rfl
theorem put_step {n:Nat} {gs:Gs} {g:Gt} (i:NetG n gs) (c:UV n gs.length g) (f:(putG n gs g).2≠0):
  NetG n (putG n gs g).1∧has (1+n+(putG n gs g).1.length) (putG n gs g).2∧∀{F:Gs} {ins:List Bool},ins.length=n→(putG n gs g).1<+:F→ZZ (valsG (true::ins) F) (putG n gs g).2=Kr (valsG (true::ins) F) g:=by
 have key:∀{F:Gs} {ins:List Bool} {k:Nat},ins.length=n→(d:k<F.length)→F[k]=g→UV n k g→ZZ (valsG (true::ins) F) (2+n+k)=Kr (valsG (true::ins) F) g:=fun{F ins k} h d he c=>by
  have:=valsG_at h d (he▸c)
  rw[he] at this
  rw[←this]
  unfold ZZ
  rw[if_pos (by omega),show((2+n+k:Int)-1).toNat=1+n+k by omega]
 unfold putG at f⊢
 by_cases hm:g∈gs
 ·rw[if_pos hm] at f⊢
  have hi:gs.idxOf g<gs.length:=List.idxOf_lt_length_iff.2 hm
  refine⟨i,⟨by show(2+n+_:Int)≠0;omega,by show _≤(2+n+_:Int);omega,by show(2+n+_:Int)≤((1+n+gs.length:Nat):Int);omega⟩,fun{F ins} h hF=>?_⟩
  have d:gs.idxOf g<F.length:=Nat.lt_of_lt_of_le hi hF.length_le
  have he:F[gs.idxOf g]=g:=by
   obtain⟨t,rfl⟩:=hF
   rw[List.getElem_append_left hi]
   exact List.getElem_idxOf hi
  refine key h d he ?_
  have:=i.gate _ hi
  rwa[List.getElem_idxOf hi] at this
 ·rw[if_neg hm] at f⊢
  by_cases l:600≤gs.length
  ·rw[if_pos l] at f;exact absurd rfl f
  ·rw[if_neg l] at f⊢
   refine⟨⟨by rw[List.length_append];simp;omega,fun k d=>?_,?_⟩,?_,fun{F ins} h hF=>?_⟩
   ·rw[List.length_append,List.length_singleton] at d
    by_cases e:k<gs.length
    ·rw[List.getElem_append_left e];exact i.gate k e
    ·have:k=gs.length:=by omega
     subst this
     rw[List.getElem_append_right (Nat.le_refl _)]
     simpa using c
   ·rw[List.nodup_append]
    exact⟨i.once,by simp,fun a m b j e=>hm (by simp at j;rw[←j,←e];exact m)⟩
   ·rw[List.length_append,List.length_singleton];exact⟨by omega,by omega,by omega⟩
   ·obtain⟨t,rfl⟩:=hF
    have d:gs.length<(gs++[g]++t).length:=by rw[List.length_append,List.length_append,List.length_singleton];omega
    refine key h d ?_ c
    rw[List.getElem_append_left (by rw[List.length_append,List.length_singleton];omega),List.getElem_append_right (Nat.le_refl _)]
    simp
theorem kM0 (a b:Bool):(a != b)=(b != a):=by cases a<;>cases b<;>rfl
theorem UQ (ins:List Bool) (F:Gs):ZZ (valsG (true::ins) F) 1=true:=by
 obtain⟨t,a⟩:=valsG_pre F (true::ins)
 rw[←a];rfl
theorem QW (ins:List Bool) (F:Gs):ZZ (valsG (true::ins) F) (-1)=false:=by
 rw[lit_neg _ (by decide),UQ];rfl
theorem abs_eq {a b:Int} (h:absI a=absI b):a=b∨a= -b:=by unfold absI at h;split at h<;>split at h<;>omega
theorem kt0 (vals:List Bool) {a:Int} (h:a≠0):ZZ vals a=(decide (a<0) != ZZ vals (absI a)):=by
 unfold absI
 by_cases b:a<0
 ·rw[if_pos b,lit_neg _ h,decide_eq_true b];simp
 ·rw[if_neg b,decide_eq_false b];simp
theorem and_step {n:Nat} {gs:Gs} {a b:Int} (d:NetG n gs) (i:has (1+n+gs.length) a) (j:has (1+n+gs.length) b) (c:(andG n gs a b).2≠0):
  NetG n (andG n gs a b).1∧has (1+n+(andG n gs a b).1.length) (andG n gs a b).2∧
  ∀{F:Gs} {ins:List Bool},ins.length=n→(andG n gs a b).1<+:F→ZZ (valsG (true::ins) F) (andG n gs a b).2=(ZZ (valsG (true::ins) F) a&&ZZ (valsG (true::ins) F) b):=by
 have o:has (1+n+gs.length) (-1):=⟨by decide,by omega,by omega⟩
 unfold andG at c⊢
 by_cases k:a= -1∨b= -1
 ·rw[if_pos k]
  refine⟨d,o,fun{F ins} _ _=>?_⟩
  rw[QW]
  rcases k with rfl|rfl
  ·rw[QW];rfl
  ·rw[QW,Bool.and_false]
 rw[if_neg k] at c⊢
 by_cases l:a=1
 ·rw[if_pos l]
  subst l
  exact⟨d,j,fun{F ins} _ _=>by rw[UQ,Bool.true_and]⟩
 rw[if_neg l] at c⊢
 by_cases c3:b=1
 ·rw[if_pos c3]
  subst c3
  exact⟨d,i,fun{F ins} _ _=>by rw[UQ,Bool.and_true]⟩
 rw[if_neg c3] at c⊢
 by_cases f:a=b
 ·rw[if_pos f]
  subst f
  exact⟨d,i,fun{F ins} _ _=>by rw[Bool.and_self]⟩
 rw[if_neg f] at c⊢
 by_cases g:a= -b
 ·rw[if_pos g]
  refine⟨d,o,fun{F ins} _ _=>?_⟩
  rw[g,lit_neg _ j.1,QW,Bool.not_and_self]
 rw[if_neg g] at c⊢
 have a2:2≤absI a:=by have:=abs_pos i.1;unfold absI at*;split at this<;>omega
 have b2:2≤absI b:=by have:=abs_pos j.1;unfold absI at*;split at this<;>omega
 have s:absI a≠absI b:=fun e=>by rcases abs_eq e with h|h;exact f h;exact g h
 have p:=(has_abs.1 i).2
 have q:=(has_abs.1 j).2
 have m:UV n gs.length (gateA a b):=by
  unfold gateA
  split
  ·exact⟨b2,by omega,by show absI a≤_;omega,fun h=>by cases h⟩
  ·exact⟨a2,by show absI a<absI b;omega,by show absI b≤_;omega,fun h=>by cases h⟩
 obtain⟨p1,p2,t⟩:=put_step d m c
 refine⟨p1,p2,fun{F ins} r hF=>?_⟩
 rw[t r hF]
 unfold gateA Kr
 split
 ·exact Bool.and_comm _ _
 ·rfl
theorem xor_step {n:Nat} {gs:Gs} {a b:Int} (i:NetG n gs) (g:has (1+n+gs.length) a) (d:has (1+n+gs.length) b) (c:(xorG n gs a b).2≠0):
  NetG n (xorG n gs a b).1∧has (1+n+(xorG n gs a b).1.length) (xorG n gs a b).2∧
  ∀{F:Gs} {ins:List Bool},ins.length=n→(xorG n gs a b).1<+:F→ZZ (valsG (true::ins) F) (xorG n gs a b).2=(ZZ (valsG (true::ins) F) a != ZZ (valsG (true::ins) F) b):=by
 have one:∀{x y:Int} {F:Gs} {ins:List Bool},absI x=1→y≠0→ZZ (valsG (true::ins) F) (turnI (decide (x=1)) y)=(ZZ (valsG (true::ins) F) x != ZZ (valsG (true::ins) F) y):=fun{x y F ins} w z=>by
  rw[je0 _ z]
  rcases abs_eq (b:=1) w with rfl|rfl
  ·rw[UQ];rfl
  ·rw[QW];rfl
 unfold xorG at c⊢
 by_cases k:absI a=1
 ·rw[if_pos k]
  exact⟨i,yB0 d,fun{F ins} _ _=>one k d.1⟩
 rw[if_neg k] at c⊢
 by_cases l:absI b=1
 ·rw[if_pos l]
  exact⟨i,yB0 g,fun{F ins} _ _=>by show ZZ _ (turnI (decide (b=1)) a)=_;rw[one l g.1];exact kM0 _ _⟩
 rw[if_neg l] at c⊢
 by_cases c3:a=b
 ·rw[if_pos c3]
  subst c3
  exact⟨i,⟨by show(-1:Int)≠0;decide,by show(-(_:Int))≤ -1;omega,by show(-1:Int)≤_;omega⟩,fun{F ins} _ _=>by show ZZ _ (-1)=_;rw[QW];simp⟩
 rw[if_neg c3] at c⊢
 by_cases j:a= -b
 ·rw[if_pos j]
  exact⟨i,⟨by show(1:Int)≠0;decide,by show(-(_:Int))≤1;omega,by show(1:Int)≤_;omega⟩,fun{F ins} _ _=>by show ZZ _ 1=_;rw[j,lit_neg _ d.1,UQ];simp⟩
 rw[if_neg j] at c⊢
 have a2:2≤absI a:=by have:=abs_pos g.1;omega
 have b2:2≤absI b:=by have:=abs_pos d.1;omega
 have v:absI a≠absI b:=fun e=>by rcases abs_eq e with h|h;exact c3 h;exact j h
 have o:=(has_abs.1 g).2
 have t:=(has_abs.1 d).2
 have aa:∀x:Int,2≤absI x→absI (absI x)=absI x:=fun x h=>by
  generalize absI x=y at h
  unfold absI;rw[if_neg (by omega)]
 have m:UV n gs.length (gateX a b):=by
  unfold gateX
  split
  ·exact⟨by show 2≤absI (absI b);rw[aa b b2];exact b2,by show absI (absI b)<absI (absI a);rw[aa a a2,aa b b2];omega,by show absI (absI a)≤_;rw[aa a a2];omega,fun _=>⟨by show 0<absI b;omega,by show 0<absI a;omega⟩⟩
  ·exact⟨by show 2≤absI (absI a);rw[aa a a2];exact a2,by show absI (absI a)<absI (absI b);rw[aa a a2,aa b b2];omega,by show absI (absI b)≤_;rw[aa b b2];omega,fun _=>⟨by show 0<absI a;omega,by show 0<absI b;omega⟩⟩
 have f:(putG n gs (gateX a b)).2≠0:=fun e=>c (turn_zero.2 e)
 obtain⟨p1,p2,A⟩:=put_step i m f
 refine⟨p1,yB0 p2,fun{F ins} u hF=>?_⟩
 show ZZ _ (turnI _ (putG n gs (gateX a b)).2)=_
 rw[je0 _ f,A u hF,kt0 _ g.1,kt0 _ d.1]
 have e:Kr (valsG (true::ins) F) (gateX a b)=(ZZ (valsG (true::ins) F) (absI a) != ZZ (valsG (true::ins) F) (absI b)):=by
  unfold gateX Kr
  split
  ·exact kM0 _ _
  ·rfl
 rw[e]
 generalize ZZ (valsG (true::ins) F) (absI a)=p
 generalize ZZ (valsG (true::ins) F) (absI b)=q
 generalize decide (a<0)=r
 generalize decide (b<0)=s
 cases p<;>cases q<;>cases r<;>cases s<;>rfl
def Says {α:Type} (ρ:Int→Bool):Nat→Bd α→(Nat→α→Prop)→Prop
 |k,.ret a,Q=>Q k a
 |k,.and x y c,Q=>has k x∧has k y∧∀k' v,k≤k'→has k' v→ρ v=(ρ x&&ρ y)→Says ρ k' (c v) Q
 |k,.xor x y c,Q=>has k x∧has k y∧∀k' v,k≤k'→has k' v→ρ v=(ρ x != ρ y)→Says ρ k' (c v) Q
theorem Says.bind {α β:Type} {ρ:Int→Bool} {p:Bd α} {f:α→Bd β} {Q:Nat→β→Prop}:∀{k:Nat},Says ρ k p (fun b a=>Says ρ b (f a) Q)→Says ρ k (p.bind f) Q:=by
 induction p with
 |ret a=>intro k h;exact h
 |and x y c l=>intro k ⟨d,e,h⟩;exact⟨d,e,fun b v g j i=>l v (h b v g j i)⟩
 |xor x y c l=>intro k ⟨d,e,h⟩;exact⟨d,e,fun b v g j i=>l v (h b v g j i)⟩
theorem Says.sound {α:Type} {n:Nat} {ins:List Bool} (k:ins.length=n) {F:Gs} {p:Bd α} {Q:Nat→α→Prop}:∀{gs gs':Gs} {a:α},NetG n gs→p.run n gs=some (gs',a)→gs'<+:F→Says (ZZ (valsG (true::ins) F)) (1+n+gs.length) p Q→NetG n gs'∧Q (1+n+gs'.length) a:=by
 induction p with
 |ret c=>
  intro gs gs' a b h hF hs
  simp only[Bd.run,Option.some.injEq,Prod.mk.injEq] at h
  obtain⟨rfl,rfl⟩:=h
  exact⟨b,hs⟩
 |and x y c i=>
  intro gs gs' a b h hF ⟨e,f,hs⟩
  simp only[Bd.run] at h
  split at h
  ·cases h
  ·next d=>
   obtain⟨p1,p2,j⟩:=and_step b e f d
   have g:=Bd.run_pre h
   refine i _ p1 h hF (hs _ _ ?_ p2 (j k (g.trans hF)))
   have:=(kS0 (n:=n) gs x y).length_le;omega
 |xor x y c i=>
  intro gs gs' a b h hF ⟨e,f,hs⟩
  simp only[Bd.run] at h
  split at h
  ·cases h
  ·next d=>
   obtain⟨p1,p2,j⟩:=xor_step b e f d
   have g:=Bd.run_pre h
   refine i _ p1 h hF (hs _ _ ?_ p2 (j k (g.trans hF)))
   have:=(jW0 (n:=n) gs x y).length_le;omega
end Go.M
end
section
namespace Go.M
def orB (x y:Int):Bd Int:= .and (-x) (-y) fun v=> .ret (-v)
def muxB (c x y:Int):Bd Int:= .and c x fun p=> .and (-c) y fun q=>orB p q
def sumB:List Int→List Int→Int→Bd (List Int)
 |x::xs,y::ys,c=> .xor x y fun h=> .xor h c fun s=> .and x y fun p=> .and h c fun q=>(orB p q).bind fun c'=>(sumB xs ys c').map (s:: ·)
 |_,_,_=> .ret []
def lessB:List Int→List Int→Int→Bd Int
 |x::xs,y::ys,r=> .xor x y fun d=>(muxB d y r).bind fun r'=>lessB xs ys r'
 |_,_,r=> .ret r
def sameB:List Int→List Int→Int→Bd Int
 |x::xs,y::ys,r=> .xor x y fun d=> .and r (-d) fun r'=>sameB xs ys r'
 |_,_,r=> .ret r
def eachB (f:Int→Int→Bd Int):List Int→List Int→Bd (List Int)
 |x::xs,y::ys=>(f x y).bind fun s=>(eachB f xs ys).map (s:: ·)
 |_,_=> .ret []
def rowB (s:Int):List Int→Bd (List Int)
 |x::xs=> .and x s fun v=>(rowB s xs).map (v:: ·)
 |[]=> .ret []
def offsL (n:Nat):List Int:=List.replicate n (-1)
def mulB (xs:List Int):List Int→Nat→List Int→Bd (List Int)
 |y::ys,i,s=>(rowB y (xs.take (xs.length-i))).bind fun r=>(sumB s (offsL i++r) (-1)).bind fun s'=>mulB xs ys (i+1) s'
 |[],_,s=> .ret s
def negL (xs:List Int):List Int:=xs.map fun x=> -x
def divB (xs wide:List Int):Nat→List Int→List Int→Bd (List Int×List Int)
 |n+1,r,q=>(lessB (xs.getD n 0::r) wide (-1)).bind fun l=>(sumB (xs.getD n 0::r) (negL wide) 1).bind fun u=>
   (eachB (muxB l) ((xs.getD n 0::r).take xs.length) (u.take xs.length)).bind fun r'=>divB xs wide n r' (q.set n (-l))
 |0,r,q=> .ret (q,r)
def fromL (up:Bool) (fill:Int) (s:List Int) (by_ k:Nat):Int:=if up then(if k<by_ then fill else s.getD (k-by_) 0) else if k+by_<s.length then s.getD (k+by_) 0 else fill
def shiftB (up:Bool) (fill:Int):List Int→Nat→List Int→Bd (List Int)
 |c::ys,i,s=>(eachB (muxB c) ((List.range s.length).map (fromL up fill s (2^i))) s).bind fun s'=>shiftB up fill ys (i+1) s'
 |[],_,s=> .ret s
def unB (op:Int) (x:List Int):Bd (List Int):=if op=1 then .ret (negL x) else sumB (offsL x.length) (negL x) 1
def binB (op:Int) (x y:List Int):Bd (List Int):=
 if op=14 then .ret (y++x)
 else if op=3 then eachB (fun a b=> .and a b .ret) x y
 else if op=4 then eachB orB x y
 else if op=5 then eachB (fun a b=> .xor a b .ret) x y
 else if op=6 then sumB x y (-1)
 else if op=7 then sumB x (negL y) 1
 else if op=8 then mulB x y 0 (offsL x.length)
 else if op=9 then(divB x (y++[-1]) x.length (offsL x.length) (offsL x.length)).map (·.1)
 else if op=10 then(divB x (y++[-1]) x.length (offsL x.length) (offsL x.length)).map (·.2)
 else if op=11 then shiftB true (-1) y 0 x
 else if op=12 then shiftB false (-1) y 0 x
 else shiftB false (x.getD (x.length-1) 0) y 0 x
def swapT (x y:List Int):List Int:=x.set (x.length-1) (y.getD (x.length-1) 0)
def cmpB (op:Int) (x y:List Int):Bd Int:=
 if op=15 then sameB x y 1 else if op=16 then lessB x y (-1) else lessB (swapT x y) (swapT y x) (-1)
def sumV:List Bool→List Bool→Bool→List Bool
 |x::xs,y::ys,c=>((x != y) != c)::sumV xs ys ((x&&y)||((x != y)&&c))
 |_,_,_=>[]
def lessV:List Bool→List Bool→Bool→Bool
 |x::xs,y::ys,r=>lessV xs ys (if x != y then y else r)
 |_,_,r=>r
def sameV:List Bool→List Bool→Bool→Bool
 |x::xs,y::ys,r=>sameV xs ys (r&& !(x != y))
 |_,_,r=>r
def eachV (f:Bool→Bool→Bool):List Bool→List Bool→List Bool
 |x::xs,y::ys=>f x y::eachV f xs ys
 |_,_=>[]
def yK0 (n:Nat):List Bool:=List.replicate n false
def mulV (xs:List Bool):List Bool→Nat→List Bool→List Bool
 |y::ys,i,s=>mulV xs ys (i+1) (sumV s (yK0 i++(xs.take (xs.length-i)).map fun x=>x&&y) false)
 |[],_,s=>s
def divV (xs wide:List Bool):Nat→List Bool→List Bool→List Bool×List Bool
 |n+1,r,q=>
  let t:=xs.getD n false::r
  let l:=lessV t wide false
  divV xs wide n (eachV (fun a b=>if l then a else b) (t.take xs.length) ((sumV t (wide.map (!·)) true).take xs.length)) (q.set n (!l))
 |0,r,q=>(q,r)
def YZ0 (up:Bool) (fill:Bool) (s:List Bool) (by_ k:Nat):Bool:=if up then(if k<by_ then fill else s.getD (k-by_) false) else if k+by_<s.length then s.getD (k+by_) false else fill
def shiftV (up:Bool) (fill:Bool):List Bool→Nat→List Bool→List Bool
 |c::ys,i,s=>shiftV up fill ys (i+1) (eachV (fun a b=>if c then a else b) ((List.range s.length).map (YZ0 up fill s (2^i))) s)
 |[],_,s=>s
def unV (op:Int) (x:List Bool):List Bool:=if op=1 then x.map (!·) else sumV (yK0 x.length) (x.map (!·)) true
def XT0 (op:Int) (x y:List Bool):List Bool:=
 if op=14 then y++x
 else if op=3 then eachV (· && ·) x y
 else if op=4 then eachV (· || ·) x y
 else if op=5 then eachV (· != ·) x y
 else if op=6 then sumV x y false
 else if op=7 then sumV x (y.map (!·)) true
 else if op=8 then mulV x y 0 (yK0 x.length)
 else if op=9 then(divV x (y++[false]) x.length (yK0 x.length) (yK0 x.length)).1
 else if op=10 then(divV x (y++[false]) x.length (yK0 x.length) (yK0 x.length)).2
 else if op=11 then shiftV true false y 0 x
 else if op=12 then shiftV false false y 0 x
 else shiftV false (x.getD (x.length-1) false) y 0 x
def ZC0 (x y:List Bool):List Bool:=x.set (x.length-1) (y.getD (x.length-1) false)
def cmpV (op:Int) (x y:List Bool):Bool:=
 if op=15 then sameV x y true else if op=16 then lessV x y false else lessV (ZC0 x y) (ZC0 y x) false
structure Rho (ρ:Int→Bool):Prop where
 neg:∀m,m≠0→ρ (-m)= !ρ m
 one:ρ 1=true
def hasL (k:Nat) (xs:List Int):Prop:=∀x,x∈xs→has k x
theorem hasL.mono {k l:Nat} {xs:List Int} (h:hasL k xs) (a:k≤l):hasL l xs:=fun x b=>has_mono (h x b) a
theorem hasL_cons {k:Nat} {x:Int} {xs:List Int}:hasL k (x::xs)↔has k x∧hasL k xs:=by
 unfold hasL;simp only[List.mem_cons,forall_eq_or_imp]
theorem Ux {k:Nat} {xs ys:List Int} (h:hasL k xs) (a:hasL k ys):hasL k (xs++ys):=fun x b=>(List.mem_append.1 b).elim (h x) (a x)
theorem Uw {k:Nat} {xs:List Int} (h:hasL k xs):hasL k (negL xs):=fun x a=>by
 obtain⟨y,b,rfl⟩:=List.mem_map.1 a;exact has_neg (h y b)
theorem V9 {k n:Nat} {xs:List Int} (h:hasL k xs):hasL k (xs.take n):=fun x a=>h x (List.mem_of_mem_take a)
theorem has_one {k:Nat} (h:1≤k):has k 1:=⟨by decide,by omega,by omega⟩
theorem has_mone {k:Nat} (h:1≤k):has k (-1):=⟨by decide,by omega,by omega⟩
theorem ZG {k n:Nat} (h:1≤k):hasL k (offsL n):=fun x a=>by rw[List.eq_of_mem_replicate a];exact has_mone h
theorem jg0 {k n:Nat} {xs:List Int} {y:Int} (h:hasL k xs) (c:has k y):hasL k (xs.set n y):=fun x b=>by
 rcases List.mem_or_eq_of_mem_set b with a|a
 ·exact h x a
 ·rw[a];exact c
theorem QX {k n:Nat} {xs:List Int} (h:hasL k xs) (a:n<xs.length) (d:Int):has k (xs.getD n d):=by
 rw[List.getD_eq_getElem?_getD,List.getElem?_eq_getElem a];exact h _ (List.getElem_mem a)
section
variable {ρ:Int→Bool} {k:Nat} {Q:Nat→Int→Prop} {QL:Nat→List Int→Prop}
theorem Rho.mone (h:Rho ρ):ρ (-1)=false:=by rw[h.neg 1 (by decide),h.one];rfl
theorem yN0 (h:Rho ρ) {xs:List Int} (a:hasL k xs):(negL xs).map ρ=(xs.map ρ).map (!·):=by
 unfold negL
 rw[List.map_map,List.map_map]
 exact List.map_congr_left fun x hm=>h.neg x (a x hm).1
theorem V4 (h:Rho ρ) (n:Nat):(offsL n).map ρ=yK0 n:=by unfold offsL yK0;rw[List.map_replicate,h.mone]
theorem jc0 (h:Rho ρ) {x y:Int} (c:has k x) (d:has k y) (e:∀a v,k≤a→has a v→ρ v=(ρ x||ρ y)→Q a v):Says ρ k (orB x y) Q:=by
 refine⟨has_neg c,has_neg d,fun a v f b g=>e a _ f (has_neg b) ?_⟩
 rw[h.neg _ b.1,g,h.neg _ c.1,h.neg _ d.1]
 cases ρ x<;>cases ρ y<;>rfl
theorem mux_sat (h:Rho ρ) {c x y:Int} (a:has k c) (l:has k x) (m:has k y) (f:∀b v,k≤b→has b v→ρ v=(if ρ c then ρ x else ρ y)→Q b v):Says ρ k (muxB c x y) Q:=by
 refine⟨a,l,fun r p d g rp=>⟨has_mono (has_neg a) d,has_mono m d,fun s q e i rq=>?_⟩⟩
 refine jc0 h (has_mono g e) i fun n v o j rv=>f n v (by omega) j ?_
 rw[rv,rp,rq,h.neg _ a.1]
 cases ρ c<;>cases ρ x<;>cases ρ y<;>rfl
theorem sum_sat (h:Rho ρ):∀{xs ys:List Int} {c:Int} {k:Nat} {QL:Nat→List Int→Prop},hasL k xs→hasL k ys→has k c→(∀l r,k≤l→hasL l r→r.map ρ=sumV (xs.map ρ) (ys.map ρ) (ρ c)→QL l r)→Says ρ k (sumB xs ys c) QL:=by
 intro xs
 induction xs with
 |nil=>intro ys c k QL _ _ _ f;exact f k [] (Nat.le_refl _) (fun x a=>by cases a) rfl
 |cons x xs B=>
  intro ys c k QL a A n f
  cases ys with
  |nil=>exact f k [] (Nat.le_refl _) (fun x a=>by cases a) rfl
  |cons y ys=>
   obtain⟨b,i⟩:=hasL_cons.1 a
   obtain⟨e,j⟩:=hasL_cons.1 A
   refine⟨b,e,fun I d t o rd=>⟨o,has_mono n t,fun J s E hs rs=>⟨has_mono b (by omega),has_mono e (by omega),fun K p F v rp=>⟨has_mono o (by omega),has_mono n (by omega),fun L q u w rq=>?_⟩⟩⟩⟩
   refine Says.bind (jc0 h (has_mono v u) w fun M D G g m=>?_)
   refine Says.bind (B (i.mono (by omega)) (j.mono (by omega)) g fun C r H z rr=>?_)
   refine f C (s::r) (by omega) (hasL_cons.2 ⟨has_mono hs (by omega),z⟩) ?_
   simp only[List.map_cons,sumV]
   rw[rs,rd,rr,m,rp,rq,rd]
theorem less_sat (h:Rho ρ):∀{xs ys:List Int} {r:Int} {k:Nat} {Q:Nat→Int→Prop},hasL k xs→hasL k ys→has k r→(∀i v,k≤i→has i v→ρ v=lessV (xs.map ρ) (ys.map ρ) (ρ r)→Q i v)→Says ρ k (lessB xs ys r) Q:=by
 intro xs
 induction xs with
 |nil=>intro ys r k Q _ _ c b;exact b k r (Nat.le_refl _) c rfl
 |cons x xs p=>
  intro ys r k Q n o c b
  cases ys with
  |nil=>exact b k r (Nat.le_refl _) c rfl
  |cons y ys=>
   obtain⟨e,f⟩:=hasL_cons.1 n
   obtain⟨a,g⟩:=hasL_cons.1 o
   refine⟨e,a,fun w d j l rd=>?_⟩
   refine Says.bind (mux_sat h l (has_mono a j) (has_mono c j) fun z v s m rv=>?_)
   refine p (f.mono (by omega)) (g.mono (by omega)) m fun q u t hu ru=>b q u (by omega) hu ?_
   rw[ru,rv,rd];rfl
theorem same_sat (h:Rho ρ):∀{xs ys:List Int} {r:Int} {k:Nat} {Q:Nat→Int→Prop},hasL k xs→hasL k ys→has k r→(∀i v,k≤i→has i v→ρ v=sameV (xs.map ρ) (ys.map ρ) (ρ r)→Q i v)→Says ρ k (sameB xs ys r) Q:=by
 intro xs
 induction xs with
 |nil=>intro ys r k Q _ _ b a;exact a k r (Nat.le_refl _) b rfl
 |cons x xs p=>
  intro ys r k Q n o b a
  cases ys with
  |nil=>exact a k r (Nat.le_refl _) b rfl
  |cons y ys=>
   obtain⟨c,e⟩:=hasL_cons.1 n
   obtain⟨f,g⟩:=hasL_cons.1 o
   refine⟨c,f,fun w d l j rd=>⟨has_mono b l,has_neg j,fun z v s m rv=>?_⟩⟩
   refine p (e.mono (by omega)) (g.mono (by omega)) m fun q u t hu ru=>a q u (by omega) hu ?_
   rw[ru,rv,h.neg _ j.1,rd];rfl
theorem each_sat {f:Int→Int→Bd Int} {g:Bool→Bool→Bool} {C:Nat→Prop} (o:∀k l,C k→k≤l→C l) (p:∀{k:Nat} {x y:Int} {Q:Nat→Int→Prop},C k→has k x→has k y→(∀a v,k≤a→has a v→ρ v=g (ρ x) (ρ y)→Q a v)→Says ρ k (f x y) Q):
  ∀{xs ys:List Int} {k:Nat} {QL:Nat→List Int→Prop},C k→hasL k xs→hasL k ys→(∀a r,k≤a→hasL a r→r.map ρ=eachV g (xs.map ρ) (ys.map ρ)→QL a r)→Says ρ k (eachB f xs ys) QL:=by
 intro xs
 induction xs with
 |nil=>intro ys k QL _ _ _ c;exact c k [] (Nat.le_refl _) (fun x b=>by cases b) rfl
 |cons x xs u=>
  intro ys k QL m b t c
  cases ys with
  |nil=>exact c k [] (Nat.le_refl _) (fun x b=>by cases b) rfl
  |cons y ys=>
   obtain⟨e,h⟩:=hasL_cons.1 b
   obtain⟨i,j⟩:=hasL_cons.1 t
   refine Says.bind (p m e i fun z s d hs rs=>?_)
   refine Says.bind (u (o _ _ m d) (h.mono d) (j.mono d) fun w r n q rr=>?_)
   refine c w (s::r) (by omega) (hasL_cons.2 ⟨has_mono hs n,q⟩) ?_
   simp only[List.map_cons,eachV]
   rw[rs,rr]
theorem row_sat {s:Int}:∀{xs:List Int} {k:Nat} {QL:Nat→List Int→Prop},hasL k xs→has k s→(∀e r,k≤e→hasL e r→r.map ρ=(xs.map ρ).map (fun x=>x&&ρ s)→QL e r)→Says ρ k (rowB s xs) QL:=by
 intro xs
 induction xs with
 |nil=>intro k QL _ _ a;exact a k [] (Nat.le_refl _) (fun x b=>by cases b) rfl
 |cons x xs j=>
  intro k QL b hs a
  obtain⟨c,d⟩:=hasL_cons.1 b
  refine⟨c,hs,fun m v f i rv=>?_⟩
  refine Says.bind (j (d.mono f) (has_mono hs f) fun l r g h rr=>?_)
  refine a l (v::r) (by omega) (hasL_cons.2 ⟨has_mono i g,h⟩) ?_
  simp only[List.map_cons]
  rw[rv,rr]
theorem mul_sat (h:Rho ρ) {xs:List Int}:∀{ys:List Int} {i:Nat} {s:List Int} {k:Nat} {QL:Nat→List Int→Prop},1≤k→hasL k xs→hasL k ys→hasL k s→(∀e r,k≤e→hasL e r→r.map ρ=mulV (xs.map ρ) (ys.map ρ) i (s.map ρ)→QL e r)→Says ρ k (mulB xs ys i s) QL:=by
 intro ys
 induction ys with
 |nil=>intro i s k QL _ _ _ hs a;exact a k s (Nat.le_refl _) hs rfl
 |cons y ys n=>
  intro i s k QL t g m hs a
  obtain⟨c,d⟩:=hasL_cons.1 m
  refine Says.bind (row_sat (V9 g) c fun v r j l rr=>?_)
  refine Says.bind (sum_sat h (hs.mono j) (Ux (ZG (by omega)) l) (has_mone (by omega)) fun w x p b f=>?_)
  refine n (by omega) (g.mono (by omega)) (d.mono (by omega)) b fun o u q hu ru=>a o u (by omega) hu ?_
  rw[ru,f,h.mone,List.map_append,V4 h,rr,List.map_take]
  simp only[List.map_cons,mulV,List.length_map]
theorem Uy {xs:List Int} {n:Nat} (a:n<xs.length):ρ (xs.getD n 0)=(xs.map ρ).getD n false:=by
 rw[List.getD_eq_getElem?_getD,List.getD_eq_getElem?_getD,List.getElem?_map,List.getElem?_eq_getElem a];rfl
theorem div_sat (h:Rho ρ) {xs wide:List Int}:∀{n:Nat} {r q:List Int} {k:Nat} {QP:Nat→List Int×List Int→Prop},1≤k→n≤xs.length→hasL k xs→hasL k wide→hasL k r→hasL k q→
  (∀f p,k≤f→hasL f p.1→hasL f p.2→(p.1.map ρ,p.2.map ρ)=divV (xs.map ρ) (wide.map ρ) n (r.map ρ) (q.map ρ)→QP f p)→Says ρ k (divB xs wide n r q) QP:=by
 intro n
 induction n with
 |zero=>intro r q k QP _ _ _ _ o d i;exact i k (q,r) (Nat.le_refl _) d o rfl
 |succ n B=>
  intro r q k QP z G e hw o d i
  have t:hasL k (xs.getD n 0::r):=hasL_cons.2 ⟨QX e (by omega) 0,o⟩
  refine Says.bind (less_sat h t hw (has_mone z) fun H l w c rl=>?_)
  refine Says.bind (sum_sat h (t.mono w) ((Uw hw).mono w) (has_one (by omega)) fun I u x hu ru=>?_)
  refine Says.bind (each_sat (C:=fun k=>has k l) (g:=fun a b=>if ρ l then a else b) (fun _ _ h c=>has_mono h c) (fun y e A d=>mux_sat h y e A d) (has_mono c x) (V9 (t.mono (by omega))) (V9 hu) fun J K E s v=>?_)
  refine B (by omega) (by omega) (e.mono (by omega)) (hw.mono (by omega)) s (jg0 (d.mono (by omega)) (has_neg (has_mono c (by omega)))) fun D p F j m rp=>i D p (by omega) j m ?_
  rw[rp]
  simp only[divV,List.length_map]
  rw[v,List.map_take,List.map_take,ru,List.map_set,h.neg _ c.1,rl,yN0 h hw,h.mone,h.one,List.map_cons,Uy (ρ:=ρ) (xs:=xs) (n:=n) (by omega)]
theorem from_has {up:Bool} {fill:Int} {s:List Int} {b j:Nat} (a:has k fill) (hs:hasL k s) (c:j<s.length):has k (fromL up fill s b j):=by
 unfold fromL
 repeat' split
 all_goals first|exact a|exact QX hs (by omega) 0
theorem from_rho {up:Bool} {fill:Int} {s:List Int} {b j:Nat} (a:j<s.length):ρ (fromL up fill s b j)=YZ0 up (ρ fill) (s.map ρ) b j:=by
 unfold fromL YZ0
 rw[List.length_map]
 repeat' split
 all_goals first|rfl|exact Uy (by omega)
theorem shift_sat (h:Rho ρ) {up:Bool} {fill:Int}:∀{ys:List Int} {i:Nat} {s:List Int} {k:Nat} {QL:Nat→List Int→Prop},has k fill→hasL k ys→hasL k s→(∀p r,k≤p→hasL p r→r.map ρ=shiftV up (ρ fill) (ys.map ρ) i (s.map ρ)→QL p r)→Says ρ k (shiftB up fill ys i s) QL:=by
 intro ys
 induction ys with
 |nil=>intro i s k QL _ _ hs d;exact d k s (Nat.le_refl _) hs rfl
 |cons c ys A=>
  intro i s k QL v m hs d
  obtain⟨n,o⟩:=hasL_cons.1 m
  refine Says.bind (each_sat (C:=fun k=>has k c) (g:=fun a b=>if ρ c then a else b) (fun _ _ h y=>has_mono h y) (fun w l m z=>mux_sat h w l m z) n (fun x l=>by
   obtain⟨j,e,rfl⟩:=List.mem_map.1 l
   exact from_has v hs (List.mem_range.1 e)) hs fun E F t f q=>?_)
  refine A (has_mono v t) (o.mono t) f fun B u D hu ru=>d B u (by omega) hu ?_
  rw[ru,q]
  simp only[List.map_cons,shiftV,List.length_map,List.map_map]
  congr 2
  exact List.map_congr_left fun j e=>from_rho (List.mem_range.1 e)
theorem Xx0 (h:Rho ρ) {op:Int} {x:List Int} (f:1≤k) (c:hasL k x) (a:∀b r,k≤b→hasL b r→r.map ρ=unV op (x.map ρ)→QL b r):Says ρ k (unB op x) QL:=by
 unfold unB
 unfold unV at a
 rw[List.length_map] at a
 split
 ·next e=>rw[if_pos e] at a;exact a k _ (Nat.le_refl _) (Uw c) (yN0 h c)
 ·next e=>
  rw[if_neg e] at a
  exact sum_sat h (ZG f) (Uw c) (has_one f) fun b r d g rr=>a b r d g (by rw[rr,V4 h,yN0 h c,h.one])
theorem bin_sat (h:Rho ρ) {op:Int} {x y:List Int} (i:1≤k) (b:hasL k x) (g:hasL k y) (s:x≠[]) (a:∀c r,k≤c→hasL c r→r.map ρ=XT0 op (x.map ρ) (y.map ρ)→QL c r):Says ρ k (binB op x y) QL:=by
 have D:0<x.length:=List.length_pos_iff.2 s
 unfold binB
 unfold XT0 at a
 rw[List.length_map] at a
 by_cases o:op=14
 ·rw[if_pos o] at a⊢;exact a k _ (Nat.le_refl _) (Ux g b) (by rw[List.map_append])
 rw[if_neg o] at a⊢
 by_cases c3:op=3
 ·rw[if_pos c3] at a⊢
  exact each_sat (C:=fun _=>True) (fun _ _ _ _=>trivial) (fun{_ _ _ _} _ b g q=>by exact⟨b,g,fun c v e f d=>q c v e f d⟩) trivial b g a
 rw[if_neg c3] at a⊢
 by_cases t:op=4
 ·rw[if_pos t] at a⊢
  exact each_sat (C:=fun _=>True) (fun _ _ _ _=>trivial) (fun _ b g q=>jc0 h b g q) trivial b g a
 rw[if_neg t] at a⊢
 by_cases u:op=5
 ·rw[if_pos u] at a⊢
  exact each_sat (C:=fun _=>True) (fun _ _ _ _=>trivial) (fun{_ _ _ _} _ b g q=>by exact⟨b,g,fun c v e f d=>q c v e f d⟩) trivial b g a
 rw[if_neg u] at a⊢
 by_cases w:op=6
 ·rw[if_pos w] at a⊢
  exact sum_sat h b g (has_mone i) fun c r e f d=>a c r e f (by rw[d,h.mone])
 rw[if_neg w] at a⊢
 by_cases z:op=7
 ·rw[if_pos z] at a⊢
  exact sum_sat h b (Uw g) (has_one i) fun c r e f d=>a c r e f (by rw[d,h.one,yN0 h g])
 rw[if_neg z] at a⊢
 by_cases A:op=8
 ·rw[if_pos A] at a⊢
  exact mul_sat h i b g (ZG i) fun c r e f d=>a c r e f (by rw[d,V4 h])
 rw[if_neg A] at a⊢
 by_cases B:op=9
 ·rw[if_pos B] at a⊢
  refine Says.bind (div_sat h i (Nat.le_refl _) b (Ux g fun x b=>by rw[List.mem_singleton.1 b];exact has_mone i) (ZG i) (ZG i) fun c p e f _ d=>a c _ e f ?_)
  rw[V4 h,List.map_append,List.map_singleton,h.mone] at d
  rw[←d]
 rw[if_neg B] at a⊢
 by_cases j:op=10
 ·rw[if_pos j] at a⊢
  refine Says.bind (div_sat h i (Nat.le_refl _) b (Ux g fun x b=>by rw[List.mem_singleton.1 b];exact has_mone i) (ZG i) (ZG i) fun c p e _ f d=>a c _ e f ?_)
  rw[V4 h,List.map_append,List.map_singleton,h.mone] at d
  rw[←d]
 rw[if_neg j] at a⊢
 by_cases l:op=11
 ·rw[if_pos l] at a⊢
  exact shift_sat h (has_mone i) g b fun c r e f d=>a c r e f (by rw[d,h.mone])
 rw[if_neg l] at a⊢
 by_cases m:op=12
 ·rw[if_pos m] at a⊢
  exact shift_sat h (has_mone i) g b fun c r e f d=>a c r e f (by rw[d,h.mone])
 rw[if_neg m] at a⊢
 exact shift_sat h (QX b (by omega) 0) g b fun c r e f d=>a c r e f (by rw[d,Uy (ρ:=ρ) (xs:=x) (n:=x.length-1) (by omega)])
theorem swap_has {x y:List Int} (b:hasL k x) (c:hasL k y) (e:x.length=y.length) (a:x≠[]):hasL k (swapT x y):=by
 have d:0<x.length:=List.length_pos_iff.2 a
 exact jg0 b (QX c (by omega) 0)
theorem swap_rho {x y:List Int} (c:x.length=y.length) (a:x≠[]):(swapT x y).map ρ=ZC0 (x.map ρ) (y.map ρ):=by
 have b:0<x.length:=List.length_pos_iff.2 a
 unfold swapT ZC0
 rw[List.map_set,List.length_map,Uy (ρ:=ρ) (xs:=y) (n:=x.length-1) (by omega)]
theorem X60 (h:Rho ρ) {op:Int} {x y:List Int} (p:1≤k) (n:hasL k x) (o:hasL k y) (m:x.length=y.length) (d:x≠[]) (b:∀a v,k≤a→has a v→ρ v=cmpV op (x.map ρ) (y.map ρ)→Q a v):Says ρ k (cmpB op x y) Q:=by
 have c:y≠[]:=fun e=>d (List.eq_nil_of_length_eq_zero (by rw[m,e];rfl))
 unfold cmpB
 unfold cmpV at b
 by_cases f:op=15
 ·rw[if_pos f] at b⊢;exact same_sat h n o (has_one p) fun a v i j l=>b a v i j (by rw[l,h.one])
 rw[if_neg f] at b⊢
 by_cases g:op=16
 ·rw[if_pos g] at b⊢;exact less_sat h n o (has_mone p) fun a v i j l=>b a v i j (by rw[l,h.mone])
 rw[if_neg g] at b⊢
 exact less_sat h (swap_has n o m d) (swap_has o n m.symm c) (has_mone p) fun a v i j l=>b a v i j (by rw[l,h.mone,swap_rho m d,swap_rho m.symm c])
end
end Go.M
end
section
namespace Go.M
def jy (w a:Nat):List Bool:=(List.range w).map fun i=>decide (a/2^i%2=1)
theorem kN (w a:Nat):(jy w a).length=w:=by unfold jy;rw[List.length_map,List.length_range]
theorem kN0 {w a i:Nat} (h:i<w) (d:Bool):(jy w a).getD i d=decide (a/2^i%2=1):=by
 unfold jy
 rw[List.getD_eq_getElem?_getD,List.getElem?_map,List.getElem?_range h];rfl
def K9 (w n:Int):List Bool:=if w=0 then[decide (n=1)] else jy w.toNat n.toNat
theorem valB_len {w n:Int} (h:0≤w):(K9 w n).length=(max 1 w).toNat:=by
 unfold K9
 split
 ·next e=>rw[e];rfl
 ·rw[kN];omega
theorem un_bits {op w a:Int} (c:op=1∨op=2) (h:vok w a=true):unV op (K9 w a)=K9 w (unM op w a):=by
 have hw:=vok_lt h
 unfold K9
 rw[if_neg (by omega),if_neg (by omega)]
 have b:∀w:Fin 5,∀n:Fin 16,1≤w.1→n.1<2^w.1→unV 1 (jy w n)=jy w (unM 1 w n).toNat∧unV 2 (jy w n)=jy w (unM 2 w n).toNat:=by decide+kernel
 have:=small1 (p:=fun w n=>unV 1 (jy w n)=jy w (unM 1 w n).toNat∧unV 2 (jy w n)=jy w (unM 2 w n).toNat) b h
 rw[show((w.toNat:Nat):Int)=w by omega,show((a.toNat:Nat):Int)=a by omega] at this
 rcases c with rfl|rfl
 ·exact this.1
 ·exact this.2
def XV0 (op w:Nat):Bool:=(List.range 16).all fun a=>(List.range 16).all fun b=> !(decide (a<2^w)&&decide (b<2^w))||decide (XT0 op (jy w a) (jy w b)=jy w (binN op w a b))
theorem bin_bits {op w a b:Int} (n:3≤op) (d:op≤13) (j:vok w a=true) (k:vok w b=true):XT0 op (K9 w a) (K9 w b)=K9 w (X70 op w a b):=by
 obtain⟨l,m,p,q⟩:=vok_iff.1 j
 obtain⟨_,_,g,i⟩:=vok_iff.1 k
 have e:((2^w.toNat:Nat):Int)=2^w.toNat:=by simp
 have f:2^w.toNat≤2^4:=Nat.pow_le_pow_right (by omega) (by omega)
 have c:∀o:Fin 14,∀v:Fin 5,3≤o.1→1≤v.1→XV0 o v=true:=by decide+kernel
 have:=c ⟨op.toNat,by omega⟩ ⟨w.toNat,by omega⟩ (by show 3≤op.toNat;omega) (by show 1≤w.toNat;omega)
 simp only[XV0,List.all_eq_true,List.mem_range,Bool.or_eq_true,Bool.not_eq_true',Bool.and_eq_false_iff,decide_eq_false_iff_not,decide_eq_true_eq] at this
 unfold K9
 rw[if_neg (by omega),if_neg (by omega),if_neg (by omega)]
 rcases this a.toNat (by omega) b.toNat (by omega) with(h|h)|h
 ·exact absurd (by omega) h
 ·exact absurd (by omega) h
 ·rw[show((op.toNat:Nat):Int)=op by omega] at h
  rw[h];unfold X70;rw[Int.toNat_natCast]
def XR0 (op w:Nat):Bool:=(List.range 16).all fun a=>(List.range 16).all fun b=> !(decide (a<2^w)&&decide (b<2^w))||(cmpV op (jy w a) (jy w b)==cmpM op w a b)
theorem cmp_bits {op w a b:Int} (n:15≤op) (d:op≤17) (j:vok w a=true) (k:vok w b=true):cmpV op (K9 w a) (K9 w b)=cmpM op w a b:=by
 obtain⟨l,m,p,q⟩:=vok_iff.1 j
 obtain⟨_,_,g,i⟩:=vok_iff.1 k
 have e:((2^w.toNat:Nat):Int)=2^w.toNat:=by simp
 have f:2^w.toNat≤2^4:=Nat.pow_le_pow_right (by omega) (by omega)
 have c:∀o:Fin 18,∀v:Fin 5,15≤o.1→1≤v.1→XR0 o v=true:=by decide+kernel
 have:=c ⟨op.toNat,by omega⟩ ⟨w.toNat,by omega⟩ (by show 15≤op.toNat;omega) (by show 1≤w.toNat;omega)
 simp only[XR0,List.all_eq_true,List.mem_range,Bool.or_eq_true,Bool.not_eq_true',Bool.and_eq_false_iff,decide_eq_false_iff_not,beq_iff_eq] at this
 unfold K9
 rw[if_neg (by omega),if_neg (by omega)]
 rcases this a.toNat (by omega) b.toNat (by omega) with(h|h)|h
 ·exact absurd (by omega) h
 ·exact absurd (by omega) h
 ·rwa[show((op.toNat:Nat):Int)=op by omega,show((w.toNat:Nat):Int)=w by omega,show((a.toNat:Nat):Int)=a by omega,show((b.toNat:Nat):Int)=b by omega] at h
def XS0 (w v:Nat):Bool:=(List.range 16).all fun a=>(List.range 16).all fun b=> !(decide (a<2^w)&&decide (b<2^v))||decide (jy v b++jy w a=jy (w+v) (a*2^v+b))
theorem cat_bits {w v a b:Int} (k:vok w a=true) (l:vok v b=true) (hs:w+v≤4):K9 v b++K9 w a=K9 (w+v) (YA0 v a b):=by
 obtain⟨m,n,o,p⟩:=vok_iff.1 k
 obtain⟨q,r,i,j⟩:=vok_iff.1 l
 have e:((2^w.toNat:Nat):Int)=2^w.toNat:=by simp
 have f:((2^v.toNat:Nat):Int)=2^v.toNat:=by simp
 have g:2^w.toNat≤2^4:=Nat.pow_le_pow_right (by omega) (by omega)
 have d:2^v.toNat≤2^4:=Nat.pow_le_pow_right (by omega) (by omega)
 have c:∀w:Fin 5,∀v:Fin 5,1≤w.1→1≤v.1→w.1+v.1≤4→XS0 w v=true:=by decide+kernel
 have:=c ⟨w.toNat,by omega⟩ ⟨v.toNat,by omega⟩ (by show 1≤w.toNat;omega) (by show 1≤v.toNat;omega) (by show w.toNat+v.toNat≤4;omega)
 simp only[XS0,List.all_eq_true,List.mem_range,Bool.or_eq_true,Bool.not_eq_true',Bool.and_eq_false_iff,decide_eq_false_iff_not,decide_eq_true_eq] at this
 unfold K9
 rw[if_neg (by omega),if_neg (by omega),if_neg (by omega)]
 rcases this a.toNat (by omega) b.toNat (by omega) with(h|h)|h
 ·exact absurd (by omega) h
 ·exact absurd (by omega) h
 ·rw[h,show(w+v).toNat=w.toNat+v.toNat by omega]
  congr 1
  unfold YA0
  have:((a.toNat*2^v.toNat+b.toNat:Nat):Int)=a*2^v.toNat+b:=by
   rw[Int.natCast_add,Int.natCast_mul,f,show((a.toNat:Nat):Int)=a by omega,show((b.toNat:Nat):Int)=b by omega]
  omega
def XQ0 (w:Nat):Bool:=(List.range 16).all fun a=>(List.range 4).all fun hi=>(List.range 4).all fun lo=> !(decide (a<2^w)&&decide (lo≤hi)&&decide (hi<w))||decide (((jy w a).drop lo).take (hi-lo+1)=jy (hi-lo+1) (a/2^lo%2^(hi-lo+1)))
theorem cut_bits {w a hi lo:Int} (d:vok w a=true) (f:0≤lo) (l:lo≤hi) (hw:hi<w):((K9 w a).drop lo.toNat).take (hi-lo+1).toNat=K9 (hi-lo+1) (cutM a hi lo):=by
 obtain⟨g,i,j,k⟩:=vok_iff.1 d
 have e:((2^w.toNat:Nat):Int)=2^w.toNat:=by simp
 have c:2^w.toNat≤2^4:=Nat.pow_le_pow_right (by omega) (by omega)
 have b:∀w:Fin 5,1≤w.1→XQ0 w=true:=by decide+kernel
 have:=b ⟨w.toNat,by omega⟩ (by show 1≤w.toNat;omega)
 simp only[XQ0,List.all_eq_true,List.mem_range,Bool.or_eq_true,Bool.not_eq_true',Bool.and_eq_false_iff,decide_eq_false_iff_not,decide_eq_true_eq] at this
 unfold K9
 rw[if_neg (by omega),if_neg (by omega)]
 rcases this a.toNat (by omega) hi.toNat (by omega) lo.toNat (by omega) with((h|h)|h)|h
 ·exact absurd (by omega) h
 ·exact absurd (by omega) h
 ·exact absurd (by omega) h
 ·rw[show(hi-lo+1).toNat=hi.toNat-lo.toNat+1 by omega,h]
  congr 1
  unfold cutM
  rw[show(hi-lo+1).toNat=hi.toNat-lo.toNat+1 by omega]
  have:((a.toNat/2^lo.toNat%2^(hi.toNat-lo.toNat+1):Nat):Int)=a/2^lo.toNat%2^(hi.toNat-lo.toNat+1):=by
   rw[Int.natCast_emod,Int.natCast_ediv,show((a.toNat:Nat):Int)=a by omega]
   simp
  omega
def insM:List Dcl→List Int→List Bool
 |d::ds,n::env=>(jy d.2.toNat n.toNat).reverse++insM ds env
 |_,_=>[]
def nameB (ds:List Dcl) (k:Nat):List Int:=(List.range ((ds.getD k (nada,0)).2).toNat).map fun(j:Nat)=>2+bits (ds.take k)+(ds.getD k (nada,0)).2-1-j
def fixB (w n:Int):List Int:=(List.range w.toNat).map fun(j:Nat)=>if n.toNat/2^j%2=1 then 1 else-1
def nodeB (ds:List Dcl) (t:Tm) (rs:List (List Int)):Bd (List Int):=
 if t.op=20 then .ret (fixB t.a t.b)
 else if t.op=21 then .ret (nameB ds (findD ds t.s).toNat)
 else if t.op=24 then .ret [1]
 else if t.op=25 then .ret [-((rs.getD 0 []).getD 0 0)]
 else if t.op=26 then .and ((rs.getD 0 []).getD 0 0) ((rs.getD 1 []).getD 0 0) fun v=> .ret [v]
 else if t.op=27 then(orB ((rs.getD 0 []).getD 0 0) ((rs.getD 1 []).getD 0 0)).map fun v=>[v]
 else if t.op=23 then eachB (muxB ((rs.getD 0 []).getD 0 0)) (rs.getD 1 []) (rs.getD 2 [])
 else if t.op=22 then .ret (((rs.getD 0 []).drop t.b.toNat).take (t.a-t.b+1).toNat)
 else if t.op≤2 then unB t.op (rs.getD 0 [])
 else if 15≤t.op∧t.op≤17 then(cmpB t.op (rs.getD 0 []) (rs.getD 1 [])).map fun v=>[v]
 else binB t.op (rs.getD 0 []) (rs.getD 1 [])
def seqB:List (Bd (List Int))→Bd (List (List Int))
 |p::ps=>p.bind fun r=>(seqB ps).map (r:: ·)
 |[]=> .ret []
def termB (ds:List Dcl):Tm→Bd (List Int):=Tm.fold fun t ps=>(seqB ps).bind (nodeB ds t)
theorem termB_eq (ds:List Dcl) (t:Tm):termB ds t=(seqB (t.ks.map (termB ds))).bind (nodeB ds t):=Tm.fold_eq _ t
theorem J0 (d:Dcl) (ds:List Dcl):bits (d::ds)=d.2+bits ds:=by unfold bits;rw[List.map_cons,List.sum_cons]
theorem insM_len:∀{ds:List Dcl} {env:List Int},env.length=ds.length→(∀d,d∈ds→0≤d.2)→((insM ds env).length:Int)=bits ds
 |[],env,_,_=>by cases env<;>rfl
 |d::ds,[],a,_=>by simp at a
 |d::ds,n::env,a,b=>by
  have f:=insM_len (ds:=ds) (env:=env) (by simpa using a) fun x c=>b x (List.mem_cons_of_mem _ c)
  have e:=b d List.mem_cons_self
  simp only[insM,List.length_append,List.length_reverse,kN,J0]
  omega
theorem bits_pos' {ds:List Dcl}:(∀d,d∈ds→0≤d.2)→0≤bits ds:=by
 induction ds with
 |nil=>intro _;exact Int.le_refl _
 |cons d ds b=>
  intro h
  have:=h d List.mem_cons_self
  have:=b fun x a=>h x (List.mem_cons_of_mem _ a)
  rw[J0];omega
theorem insM_get:∀{ds:List Dcl} {env:List Int} {k i:Nat},env.length=ds.length→(∀d,d∈ds→0≤d.2)→k<ds.length→(i:Int)<(ds.getD k (nada,0)).2→
  (insM ds env).getD ((bits (ds.take k)).toNat+i) false=decide ((env.getD k 0).toNat/2^((ds.getD k (nada,0)).2.toNat-1-i)%2=1)
 |d::ds,n::env,0,i,e,f,c,hi=>by
  have b:i<d.2.toNat:=by have:(i:Int)<d.2:=hi;omega
  show((jy d.2.toNat n.toNat).reverse++insM ds env).getD (0+i) false=decide (n.toNat/2^(d.2.toNat-1-i)%2=1)
  rw[Nat.zero_add,List.getD_eq_getElem?_getD,List.getElem?_append_left (by rw[List.length_reverse,kN];exact b),List.getElem?_reverse (by rw[kN];exact b),kN,←List.getD_eq_getElem?_getD,kN0 (by omega)]
 |d::ds,n::env,k+1,i,e,f,c,hi=>by
  have a:∀x,x∈ds→0≤x.2:=fun x g=>f x (List.mem_cons_of_mem _ g)
  have h:=insM_get (ds:=ds) (env:=env) (k:=k) (i:=i) (by simpa using e) a (by simpa using c) (by simpa using hi)
  have j:=f d List.mem_cons_self
  have l:=bits_pos' (ds:=ds.take k) fun x g=>a x (List.mem_of_mem_take g)
  show((jy d.2.toNat n.toNat).reverse++insM ds env).getD ((bits (d::ds.take k)).toNat+i) false=_
  rw[J0,List.getD_eq_getElem?_getD,List.getElem?_append_right (by rw[List.length_reverse,kN];omega),←List.getD_eq_getElem?_getD,List.length_reverse,kN,show(d.2+bits (ds.take k)).toNat+i-d.2.toNat=(bits (ds.take k)).toNat+i by omega,h]
  simp only[List.getD_cons_succ]
 |[],_,_,_,_,_,c,_=>by simp at c
 |_::_,[],_,_,e,_,_,_=>by simp at e
section
variable {ρ:Int→Bool} {ds:List Dcl} {env:List Int}
def Ins (ρ:Int→Bool) (ds:List Dcl) (env:List Int):Prop:=∀i:Nat,i<(insM ds env).length→ρ (2+i)=(insM ds env).getD i false
theorem dpos (h:declOk ds=true):∀d,d∈ds→0≤d.2:=fun d b=>by
 obtain⟨j,a,rfl⟩:=List.getElem_of_mem b
 have:=dcl_wide h a
 rw[List.getD_eq_getElem?_getD,List.getElem?_eq_getElem a] at this
 simp at this;omega
theorem bits_le {k:Nat} (h:declOk ds=true) (b:k<ds.length):bits (ds.take k)+(ds.getD k (nada,0)).2≤bits ds∧0≤bits (ds.take k):=by
 have c:=dpos h
 have e:bits ds=bits (ds.take k)+bits (ds.drop k):=by
  unfold bits
  rw[←List.sum_append,←List.map_append,List.take_append_drop]
 have d:ds.drop k=ds.getD k (nada,0)::ds.drop (k+1):=by
  rw[List.drop_eq_getElem_cons b,List.getD_eq_getElem?_getD,List.getElem?_eq_getElem b];rfl
 have f:=bits_pos' (ds:=ds.drop (k+1)) fun x a=>c x (List.mem_of_mem_drop a)
 rw[d,J0] at e
 exact⟨by omega,bits_pos' fun x a=>c x (List.mem_of_mem_take a)⟩
theorem name_has {k m:Nat} (h:declOk ds=true) (c:k<ds.length) (hm:1+bits ds≤m):hasL m (nameB ds k):=fun x d=>by
 obtain⟨j,a,rfl⟩:=List.mem_map.1 d
 have b:=List.mem_range.1 a
 have:=bits_le h c
 exact⟨by omega,by omega,by omega⟩
theorem name_bits (he:Uj ds env=true) (hi:Ins ρ ds env) {k:Nat} (b:k<ds.length):(nameB ds k).map ρ=jy ((ds.getD k (nada,0)).2).toNat (env.getD k 0).toNat:=by
 obtain⟨a,c,h⟩:=env_ok he
 have g:=bits_le a b
 have hlen:=insM_len c (dpos a)
 unfold nameB jy
 rw[List.map_map]
 refine List.map_congr_left fun j d=>?_
 have f:=List.mem_range.1 d
 have e:(2+bits (ds.take k)+(ds.getD k (nada,0)).2-1-(j:Int))=2+(((bits (ds.take k)).toNat+((ds.getD k (nada,0)).2.toNat-1-j):Nat):Int):=by omega
 show ρ (2+bits (ds.take k)+(ds.getD k (nada,0)).2-1-(j:Int))=_
 rw[e,hi _ (by omega),insM_get c (dpos a) b (by omega)]
 rw[show(ds.getD k (nada,0)).2.toNat-1-((ds.getD k (nada,0)).2.toNat-1-j)=j by omega]
theorem X00 {k:Nat} {w n:Int} (a:1≤k):hasL k (fixB w n):=fun x b=>by
 obtain⟨j,_,rfl⟩:=List.mem_map.1 b
 split
 ·exact has_one a
 ·exact has_mone a
theorem ZV0 (h:Rho ρ) {w n:Int}:(fixB w n).map ρ=jy w.toNat n.toNat:=by
 unfold fixB jy
 rw[List.map_map]
 refine List.map_congr_left fun j _=>?_
 show ρ (if _ then _ else _)=_
 split
 ·next e=>rw[h.one,decide_eq_true e]
 ·next e=>rw[h.mone,decide_eq_false e]
theorem seq_sat {k0:Nat} {f:Tm→Bd (List Int)} {g:Tm→List Bool}:∀{ks:List Tm} {k:Nat} {Q:Nat→List (List Int)→Prop},k0≤k→(∀t,t∈ks→∀{k:Nat} {Q:Nat→List Int→Prop},k0≤k→(∀a r,k≤a→hasL a r→r.map ρ=g t→Q a r)→Says ρ k (f t) Q)→
  (∀a rs,k≤a→(∀r,r∈rs→hasL a r)→rs.map (fun r=>r.map ρ)=ks.map g→Q a rs)→Says ρ k (seqB (ks.map f)) Q:=by
 intro ks
 induction ks with
 |nil=>intro k Q _ _ b;exact b k [] (Nat.le_refl _) (fun r c=>by cases c) rfl
 |cons t ks l=>
  intro k Q j h b
  refine Says.bind (h t List.mem_cons_self j fun o r n c rr=>?_)
  refine Says.bind (l (by omega) (fun u hu=>h u (List.mem_cons_of_mem _ hu)) fun m rs i d rrs=>?_)
  refine b m (r::rs) (by omega) (fun x e=>?_) (by rw[List.map_cons,List.map_cons,rr,rrs])
  rcases List.mem_cons.1 e with rfl|e
  ·exact c.mono i
  ·exact d x e
theorem KQ (n:Int):K9 0 n=[decide (n=1)]:=rfl
theorem head_rho {r:List Int} {b:Bool} (h:r.map ρ=[b]):r.length=1∧ρ (r.getD 0 0)=b:=by
 match r,h with
 |[x],h=>exact⟨rfl,by simpa using h⟩
theorem node_sat (h:Rho ρ) (he:Uj ds env=true) (hi:Ins ρ ds env) {t:Tm} (hs:sortM ds t≠ -1) {k:Nat} (hk:1+bits ds≤k) {rs:List (List Int)} (a1:∀r,r∈rs→hasL k r)
  (J:rs.map (fun r=>r.map ρ)=t.ks.map fun u=>K9 (sortM ds u) (kL ds env u)) {Q:Nat→List Int→Prop}
  (j:∀z r,k≤z→hasL z r→r.map ρ=K9 (sortM ds t) (kL ds env t)→Q z r):Says ρ k (nodeB ds t rs) Q:=by
 obtain⟨hd,P,Z⟩:=env_ok he
 obtain⟨hf,a6,a2⟩:=sort_parts hs
 have a4:0≤bits ds:=bits_pos' (dpos hd)
 have G:1≤k:=by omega
 simp only[formed,Bool.and_eq_true,decide_eq_true_eq] at hf
 obtain⟨n,a8⟩:=hf
 have a3:=arity_ops (o:=t.op) (by omega)
 have a7:rs.length=t.ks.length:=by have:=congrArg List.length J;simpa using this
 have q:∀i,i<t.ks.length→(t.ks.map (sortM ds)).getD i 0=sortM ds (kid t i):=fun i hi=>getD_map _ hi _ _
 have E:∀i,i<t.ks.length→(t.ks.map (Yg0 ds env)).getD i (0,0)=(sortM ds (kid t i),kL ds env (kid t i)):=fun i hi=>by
  rw[getD_map _ hi _ default,xD0];rfl
 have H:∀i,i<t.ks.length→inS (sortM ds (kid t i)) (kL ds env (kid t i)):=fun i hi=>XL0 he hs hi
 have K:∀i,i<t.ks.length→hasL k (rs.getD i [])∧(rs.getD i []).map ρ=K9 (sortM ds (kid t i)) (kL ds env (kid t i)):=fun i w=>by
  refine⟨a1 _ (getD_mem (by omega) _),?_⟩
  have e:=congrArg (fun l=>l.getD i []) J
  rw[getD_map _ (by omega) [] [],getD_map _ w [] default] at e
  exact e
 have d:=jk0 ds env t
 rw[a2] at hs j
 unfold sortK at hs j
 unfold valK at d
 unfold nodeB
 by_cases V:t.op=20
 ·simp only[V,if_true] at hs j d⊢
  by_cases hv':vok t.a t.b=true
  ·rw[if_pos hv'] at hs j
   have:=vok_lt hv'
   refine j k _ (Nat.le_refl _) (X00 G) ?_
   rw[ZV0 h,d]
   unfold K9
   rw[if_neg (by omega)]
  ·rw[if_neg hv'] at hs;exact absurd rfl hs
 simp only[if_neg V] at hs j d⊢
 by_cases W:t.op=21
 ·simp only[W,if_true] at hs j d⊢
  have a5:=findD_lt ds t.s
  by_cases R:findD ds t.s<0
  ·rw[if_pos R] at hs;exact absurd rfl hs
  ·rw[if_neg R] at hs j
   have hj:(findD ds t.s).toNat<ds.length:=by omega
   have hw:=dcl_wide hd hj
   refine j k _ (Nat.le_refl _) (name_has hd hj hk) ?_
   rw[name_bits he hi hj,d]
   unfold K9
   rw[if_neg (by omega)]
 simp only[if_neg W] at hs j d⊢
 by_cases X:24≤t.op
 ·simp only[if_pos X] at hs j
  by_cases R:(t.ks.map (sortM ds)).any (fun x=>decide (x≠0))=true
  ·rw[if_pos R] at hs;exact absurd rfl hs
  ·rw[if_neg R] at hs j
   have hz:∀i,i<t.ks.length→sortM ds (kid t i)=0:=fun i w=>by
    simp only[List.any_eq_true,decide_eq_true_eq,not_exists,not_and,Decidable.not_not] at R
    exact R _ (List.mem_map_of_mem (getD_mem w _))
   have Y:∀i,i<t.ks.length→has k ((rs.getD i []).getD 0 0)∧ρ ((rs.getD i []).getD 0 0)=decide (kL ds env (kid t i)=1)∧(kL ds env (kid t i)=0∨kL ds env (kid t i)=1):=fun i w=>by
    obtain⟨I,F⟩:=K i w
    rw[hz i w,KQ] at F
    obtain⟨l1,l2⟩:=head_rho F
    have U:=H i w
    rw[hz i w] at U
    exact⟨QX I (by omega) 0,l2,inS_zero U⟩
   simp only[KQ] at j
   rcases(by omega:t.op=24∨t.op=25∨t.op=26∨t.op=27) with e|e|e|e
   ·rw[if_pos e] at d⊢
    exact j k _ (Nat.le_refl _) (hasL_cons.2 ⟨has_one G,fun x q=>by cases q⟩) (by rw[List.map_singleton,h.one,d];rfl)
   ·rw[if_neg (by omega),if_pos e] at d⊢
    have h1:t.ks.length=1:=by rw[e] at n;simp[arity] at n;omega
    obtain⟨b1,b2,b3⟩:=Y 0 (by omega)
    rw[E 0 (by omega)] at d
    refine j k _ (Nat.le_refl _) (hasL_cons.2 ⟨has_neg b1,fun x q=>by cases q⟩) ?_
    rw[List.map_singleton,h.neg _ b1.1,b2,d]
    rcases b3 with b3|b3<;>simp only[b3]<;>rfl
   ·rw[if_neg (by omega),if_neg (by omega),if_pos e] at d⊢
    have h1:t.ks.length=2:=by rw[e] at n;simp[arity] at n;omega
    obtain⟨b1,b2,b3⟩:=Y 0 (by omega)
    obtain⟨c1,c2,c3⟩:=Y 1 (by omega)
    rw[E 0 (by omega),E 1 (by omega)] at d
    refine⟨b1,c1,fun z v p Z T=>j z _ p (hasL_cons.2 ⟨Z,fun x q=>by cases q⟩) ?_⟩
    rw[List.map_singleton,T,b2,c2,d]
    rcases b3 with b3|b3<;>rcases c3 with c3|c3<;>simp only[b3,c3]<;>rfl
   ·rw[if_neg (by omega),if_neg (by omega),if_neg (by omega),if_pos e] at d⊢
    have h1:t.ks.length=2:=by rw[e] at n;simp[arity] at n;omega
    obtain⟨b1,b2,b3⟩:=Y 0 (by omega)
    obtain⟨c1,c2,c3⟩:=Y 1 (by omega)
    rw[E 0 (by omega),E 1 (by omega)] at d
    refine Says.bind (jc0 h b1 c1 fun z v p Z T=>j z _ p (hasL_cons.2 ⟨Z,fun x q=>by cases q⟩) ?_)
    rw[List.map_singleton,T,b2,c2,d]
    rcases b3 with b3|b3<;>rcases c3 with c3|c3<;>simp only[b3,c3]<;>rfl
 simp only[if_neg X,if_neg (show¬t.op=24 by omega),if_neg (show¬t.op=25 by omega),if_neg (show¬t.op=26 by omega),if_neg (show¬t.op=27 by omega)] at hs j d⊢
 by_cases O:t.op=23
 ·simp only[O,if_true] at hs j d⊢
  have U:t.ks.length=3:=by rw[O] at n;simp[arity] at n;omega
  rw[q 0 (by omega),q 1 (by omega),q 2 (by omega)] at hs j
  rw[E 0 (by omega),E 1 (by omega),E 2 (by omega)] at d
  by_cases m:sortM ds (kid t 0)=0∧sortM ds (kid t 1)=sortM ds (kid t 2)
  ·rw[if_pos m] at hs j
   obtain⟨I,F⟩:=K 0 (by omega)
   obtain⟨p1,p2⟩:=K 1 (by omega)
   obtain⟨q1,q2⟩:=K 2 (by omega)
   rw[m.1,KQ] at F
   obtain⟨l1,l2⟩:=head_rho F
   have a0:has k ((rs.getD 0 []).getD 0 0):=QX I (by omega) 0
   refine each_sat (C:=fun k=>has k ((rs.getD 0 []).getD 0 0)) (g:=fun a b=>if ρ ((rs.getD 0 []).getD 0 0) then a else b) (fun _ _ h P=>has_mono h P) (fun m q E hq=>mux_sat h m q E hq) a0 p1 q1 fun z r p B rr=>j z r p B ?_
   have hlen:∀{a b:List Bool},a.length=b.length→∀c:Bool,eachV (fun x y=>if c then x else y) a b=if c then a else b:=fun{a b}=>by
    induction a generalizing b with
    |nil=>
     intro P c;cases b with
     |nil=>cases c<;>rfl
     |cons y b=>simp at P
    |cons x a ih=>
     intro P c;cases b with
     |nil=>simp at P
     |cons y b=>simp only[eachV];rw[ih (by simpa using P) c];cases c<;>rfl
   rw[rr,p2,q2,hlen (by rw[←m.2];unfold K9;split<;>simp[kN]),l2,d]
   simp only
   by_cases D:kL ds env (kid t 0)=1
   ·rw[if_pos D,decide_eq_true D,if_pos rfl]
   ·rw[if_neg D,decide_eq_false D,if_neg (by decide),m.2]
  ·rw[if_neg m] at hs;exact absurd rfl hs
 simp only[if_neg O] at hs j d⊢
 by_cases N:t.op=22
 ·simp only[N,if_true] at hs j d⊢
  have U:t.ks.length=1:=by rw[N] at n;simp[arity] at n;omega
  rw[q 0 (by omega)] at hs j
  rw[E 0 (by omega)] at d
  by_cases m:0≤t.b∧t.b≤t.a∧t.a<sortM ds (kid t 0)
  ·rw[if_pos m] at hs j
   obtain⟨I,F⟩:=K 0 (by omega)
   have S:=inS_pos (H 0 (by omega)) (by omega)
   refine j k _ (Nat.le_refl _) (V9 fun x q=>I x (List.mem_of_mem_drop q)) ?_
   rw[List.map_take,List.map_drop,F,cut_bits S m.1 m.2.1 m.2.2,d]
  ·rw[if_neg m] at hs;exact absurd rfl hs
 simp only[if_neg N] at hs j d⊢
 by_cases h2:t.op≤2
 ·simp only[if_pos h2] at hs j d⊢
  have ho:t.op=1∨t.op=2:=by omega
  have U:t.ks.length=1:=by rcases ho with e|e<;>rw[e] at n<;>simp[arity] at n<;>omega
  rw[q 0 (by omega)] at hs j
  rw[E 0 (by omega)] at d
  by_cases m:0<sortM ds (kid t 0)
  ·rw[if_pos m] at hs j
   obtain⟨I,F⟩:=K 0 (by omega)
   have S:=inS_pos (H 0 (by omega)) m
   refine Xx0 h G I fun z r p B rr=>j z r p B ?_
   rw[rr,F,un_bits ho S,d]
  ·rw[if_neg m] at hs;exact absurd rfl hs
 simp only[if_neg h2] at hs j d⊢
 have U:t.ks.length=2:=by
  unfold arity at n
  rw[if_neg (by omega),if_neg (by omega),if_neg (by omega),if_neg (by omega),if_pos (by omega)] at n
  omega
 rw[q 0 (by omega),q 1 (by omega)] at hs j
 rw[E 0 (by omega),E 1 (by omega)] at d
 obtain⟨I,F⟩:=K 0 (by omega)
 obtain⟨p1,p2⟩:=K 1 (by omega)
 have i0:=H 0 (by omega)
 have i1:=H 1 (by omega)
 have f:=congrArg List.length F
 have A:=congrArg List.length p2
 rw[List.length_map] at f A
 by_cases L:t.op=14
 ·simp only[L,if_true] at hs j d
  by_cases m:0<sortM ds (kid t 0)∧0<sortM ds (kid t 1)∧sortM ds (kid t 0)+sortM ds (kid t 1)≤4
  ·rw[if_pos m] at hs j
   have v0:=inS_pos i0 m.1
   have v1:=inS_pos i1 m.2.1
   rw[valB_len (by omega)] at f
   rw[if_neg (by omega)]
   refine bin_sat h G I p1 (fun e=>by rw[e] at f;simp at f;omega) fun z r p B rr=>j z r p B ?_
   rw[rr,F,p2,L]
   unfold XT0
   rw[if_pos rfl,cat_bits v0 v1 m.2.2,d]
  ·rw[if_neg m] at hs;exact absurd rfl hs
 simp only[if_neg L] at hs j d
 by_cases M:15≤t.op
 ·simp only[if_pos M] at hs j d
  by_cases m:0<sortM ds (kid t 0)∧sortM ds (kid t 0)=sortM ds (kid t 1)
  ·rw[if_pos m] at hs j
   have v0:=inS_pos i0 m.1
   have v1:vok (sortM ds (kid t 0)) (kL ds env (kid t 1))=true:=by rw[m.2];exact inS_pos i1 (by omega)
   rw[valB_len (by omega)] at f A
   rw[if_pos (by omega)]
   refine Says.bind (X60 h G I p1 (by rw[f,A,m.2]) (fun e=>by rw[e] at f;simp at f;omega) fun z v p hv' rv=>j z _ p (hasL_cons.2 ⟨hv',fun x q=>by cases q⟩) ?_)
   rw[List.map_singleton,rv,F,p2,←m.2,cmp_bits M (by omega) v0 v1,d,KQ]
   cases cmpM t.op (sortM ds (kid t 0)) (kL ds env (kid t 0)) (kL ds env (kid t 1))<;>rfl
  ·rw[if_neg m] at hs;exact absurd rfl hs
 simp only[if_neg M] at hs j d
 by_cases m:0<sortM ds (kid t 0)∧sortM ds (kid t 0)=sortM ds (kid t 1)
 ·rw[if_pos m] at hs j
  have v0:=inS_pos i0 m.1
  have v1:vok (sortM ds (kid t 0)) (kL ds env (kid t 1))=true:=by rw[m.2];exact inS_pos i1 (by omega)
  rw[valB_len (by omega)] at f
  rw[if_neg (by omega)]
  refine bin_sat h G I p1 (fun e=>by rw[e] at f;simp at f;omega) fun z r p B rr=>j z r p B ?_
  rw[rr,F,p2,←m.2,bin_bits (by omega) (by omega) v0 v1,d]
 ·rw[if_neg m] at hs;exact absurd rfl hs
theorem term_sat (h:Rho ρ) (he:Uj ds env=true) (hi:Ins ρ ds env):∀t:Tm,sortM ds t≠ -1→∀{k:Nat} {Q:Nat→List Int→Prop},1+bits ds≤k→
  (∀a r,k≤a→hasL a r→r.map ρ=K9 (sortM ds t) (kL ds env t)→Q a r)→Says ρ k (termB ds t) Q:=by
 refine Tm.ind fun t j hs k Q o c=>?_
 rw[termB_eq]
 refine Says.bind (seq_sat (k0:=k) (g:=fun u=>K9 (sortM ds u) (kL ds env u)) (Nat.le_refl _) (fun u hu=>fun{p m} e f=>j u hu ((sort_parts hs).2.1 u hu) (by omega) f) fun a rs d b hm=>?_)
 exact node_sat h he hi hs (by omega) b hm fun l r n i rr=>c l r (by omega) i rr
end
end Go.M
end
section
namespace Go.M
namespace Bd
theorem reach_inv {α β:Type} {p:Bd α} {f:α→Bd β} {b:β} (h:(p.bind f).Reach b):∃a,p.Reach a∧(f a).Reach b:=by
 induction p with
 |ret a=>exact⟨a,rfl,h⟩
 |and x y k g=>obtain⟨v,e⟩:=h;obtain⟨a,c,d⟩:=g v e;exact⟨a,⟨v,c⟩,d⟩
 |xor x y k g=>obtain⟨v,e⟩:=h;obtain⟨a,c,d⟩:=g v e;exact⟨a,⟨v,c⟩,d⟩
theorem reach_map {α β:Type} {p:Bd α} {f:α→β} {b:β} (h:(p.map f).Reach b):∃a,p.Reach a∧b=f a:=by
 obtain⟨a,c,d⟩:=reach_inv h
 exact⟨a,c,d⟩
end Bd
theorem sum_len:∀{xs ys:List Int} {c:Int} {r:List Int},(sumB xs ys c).Reach r→r.length=min xs.length ys.length
 |[],_,c,r,h=>by cases h;simp
 |_::_,[],c,r,h=>by cases h;simp
 |x::xs,y::ys,c,r,h=>by
  obtain⟨v1,v2,v3,v4,h⟩:=h
  obtain⟨b,_,h⟩:=Bd.reach_inv h
  obtain⟨d,a,rfl⟩:=Bd.reach_map h
  rw[List.length_cons,sum_len a,List.length_cons,List.length_cons];omega
theorem each_len {f:Int→Int→Bd Int}:∀{xs ys:List Int} {r:List Int},(eachB f xs ys).Reach r→r.length=min xs.length ys.length
 |[],_,r,h=>by cases h;simp
 |_::_,[],r,h=>by cases h;simp
 |x::xs,y::ys,r,h=>by
  obtain⟨s,_,h⟩:=Bd.reach_inv h
  obtain⟨b,a,rfl⟩:=Bd.reach_map h
  rw[List.length_cons,each_len a,List.length_cons,List.length_cons];omega
theorem row_len {s:Int}:∀{xs:List Int} {r:List Int},(rowB s xs).Reach r→r.length=xs.length
 |[],r,h=>by cases h;rfl
 |x::xs,r,h=>by
  obtain⟨v,h⟩:=h
  obtain⟨b,a,rfl⟩:=Bd.reach_map h
  rw[List.length_cons,row_len a,List.length_cons]
theorem mul_len {xs:List Int}:∀{ys:List Int} {i:Nat} {s r:List Int},i+ys.length≤xs.length→s.length=xs.length→(mulB xs ys i s).Reach r→r.length=xs.length
 |[],i,s,r,_,hs,h=>by cases h;exact hs
 |y::ys,i,s,r,hi,hs,h=>by
  rw[List.length_cons] at hi
  obtain⟨w,hw,h⟩:=Bd.reach_inv h
  obtain⟨d,b,h⟩:=Bd.reach_inv h
  have c:=row_len hw
  have a:=sum_len b
  rw[List.length_append,c,List.length_take] at a
  unfold offsL at a
  rw[List.length_replicate] at a
  exact mul_len (by omega) (by omega) h
theorem negL_len (xs:List Int):(negL xs).length=xs.length:=List.length_map _
theorem div_len {xs wide:List Int} (hw:wide.length=xs.length+1):∀{n:Nat} {r q:List Int} {p:List Int×List Int},r.length=xs.length→q.length=xs.length→(divB xs wide n r q).Reach p→p.1.length=xs.length∧p.2.length=xs.length
 |0,r,q,p,c,a,h=>by cases h;exact⟨a,c⟩
 |n+1,r,q,p,c,a,h=>by
  obtain⟨l,_,h⟩:=Bd.reach_inv h
  obtain⟨u,hu,h⟩:=Bd.reach_inv h
  obtain⟨f,b,h⟩:=Bd.reach_inv h
  have d:=sum_len hu
  have e:=each_len b
  rw[List.length_cons,negL_len] at d
  rw[List.length_take,List.length_take,List.length_cons] at e
  exact div_len hw (by omega) (by rw[List.length_set];exact a) h
theorem shift_len {up:Bool} {fill:Int}:∀{ys:List Int} {i:Nat} {s r:List Int},(shiftB up fill ys i s).Reach r→r.length=s.length
 |[],i,s,r,h=>by cases h;rfl
 |c::ys,i,s,r,h=>by
  obtain⟨d,a,h⟩:=Bd.reach_inv h
  have b:=each_len a
  rw[List.length_map,List.length_range] at b
  rw[shift_len h];omega
theorem offsL_len (n:Nat):(offsL n).length=n:=List.length_replicate ..
theorem un_len {op:Int} {x r:List Int} (h:(unB op x).Reach r):r.length=x.length:=by
 unfold unB at h
 split at h
 ·cases h;exact negL_len x
 ·have:=sum_len h;rw[offsL_len,negL_len] at this;omega
theorem bin_len {op:Int} {x y r:List Int} (h:(binB op x y).Reach r) (b:op≠14→x.length=y.length):r.length=if op=14 then x.length+y.length else x.length:=by
 unfold binB at h
 by_cases c:op=14
 ·rw[if_pos c] at h⊢;cases h;rw[List.length_append];omega
 rw[if_neg c] at h⊢
 have d:=b c
 repeat' split at h
 ·have:=each_len h;omega
 ·have:=each_len h;omega
 ·have:=each_len h;omega
 ·have:=sum_len h;omega
 ·have:=sum_len h;rw[negL_len] at this;omega
 ·exact mul_len (by omega) (offsL_len _) h
 ·obtain⟨p,a,rfl⟩:=Bd.reach_map h
  exact(div_len (by rw[List.length_append,List.length_singleton];omega) (offsL_len _) (offsL_len _) a).1
 ·obtain⟨p,a,rfl⟩:=Bd.reach_map h
  exact(div_len (by rw[List.length_append,List.length_singleton];omega) (offsL_len _) (offsL_len _) a).2
 ·exact shift_len h
 ·exact shift_len h
 ·exact shift_len h
theorem nameB_len {ds:List Dcl} {k:Nat}:(nameB ds k).length=((ds.getD k (nada,0)).2).toNat:=by unfold nameB;rw[List.length_map,List.length_range]
theorem fixB_len {w n:Int}:(fixB w n).length=w.toNat:=by unfold fixB;rw[List.length_map,List.length_range]
def lenS (w:Int):Nat:=(max 1 w).toNat
theorem node_len {ds:List Dcl} {t:Tm} (B:declOk ds=true) (hs:sortM ds t≠ -1) {rs:List (List Int)} (l:∀i,i<t.ks.length→(rs.getD i []).length=lenS (sortM ds (kid t i))) {r:List Int} (h:(nodeB ds t rs).Reach r):r.length=lenS (sortM ds t):=by
 obtain⟨C,G,y⟩:=sort_parts hs
 simp only[formed,Bool.and_eq_true,decide_eq_true_eq] at C
 obtain⟨d,I⟩:=C
 have D:=arity_ops (o:=t.op) (by omega)
 have k:∀i,i<t.ks.length→(t.ks.map (sortM ds)).getD i 0=sortM ds (kid t i):=fun i hi=>getD_map _ hi _ _
 have J:∀i,-1≤sortM ds (kid t i)∧sortM ds (kid t i)≤4:=fun i=>sort_range B _
 rw[y] at hs⊢
 unfold sortK at hs⊢
 unfold nodeB at h
 by_cases n:t.op=20
 ·simp only[n,if_true] at hs h⊢
  by_cases hv':vok t.a t.b=true
  ·rw[if_pos hv']
   have:=vok_lt hv'
   cases h
   rw[fixB_len];unfold lenS;omega
  ·rw[if_neg hv'] at hs;exact absurd rfl hs
 simp only[if_neg n] at hs h⊢
 by_cases p:t.op=21
 ·simp only[p,if_true] at hs h⊢
  have F:=findD_lt ds t.s
  by_cases u:findD ds t.s<0
  ·rw[if_pos u] at hs;exact absurd rfl hs
  ·rw[if_neg u]
   have hw:=dcl_wide B (i:=(findD ds t.s).toNat) (by omega)
   cases h
   rw[nameB_len];unfold lenS;omega
 simp only[if_neg p] at hs h⊢
 by_cases q:24≤t.op
 ·simp only[if_pos q] at hs⊢
  by_cases u:(t.ks.map (sortM ds)).any (fun x=>decide (x≠0))=true
  ·rw[if_pos u] at hs;exact absurd rfl hs
  ·rw[if_neg u]
   show r.length=1
   rcases(by omega:t.op=24∨t.op=25∨t.op=26∨t.op=27) with e|e|e|e
   ·rw[if_pos e] at h;cases h;rfl
   ·rw[if_neg (by omega),if_pos e] at h;cases h;rfl
   ·rw[if_neg (by omega),if_neg (by omega),if_pos e] at h;obtain⟨v,h⟩:=h;cases h;rfl
   ·rw[if_neg (by omega),if_neg (by omega),if_neg (by omega),if_pos e] at h;obtain⟨v,_,rfl⟩:=Bd.reach_map h;rfl
 simp only[if_neg q,if_neg (show¬t.op=24 by omega),if_neg (show¬t.op=25 by omega),if_neg (show¬t.op=26 by omega),if_neg (show¬t.op=27 by omega)] at hs h⊢
 by_cases j:t.op=23
 ·simp only[j,if_true] at hs h⊢
  have w:t.ks.length=3:=by rw[j] at d;simp[arity] at d;omega
  rw[k 0 (by omega),k 1 (by omega),k 2 (by omega)] at hs⊢
  by_cases c:sortM ds (kid t 0)=0∧sortM ds (kid t 1)=sortM ds (kid t 2)
  ·rw[if_pos c]
   have:=each_len h
   rw[l 1 (by omega),l 2 (by omega),←c.2] at this
   omega
  ·rw[if_neg c] at hs;exact absurd rfl hs
 simp only[if_neg j] at hs h⊢
 by_cases g:t.op=22
 ·simp only[g,if_true] at hs h⊢
  have w:t.ks.length=1:=by rw[g] at d;simp[arity] at d;omega
  rw[k 0 (by omega)] at hs⊢
  by_cases c:0≤t.b∧t.b≤t.a∧t.a<sortM ds (kid t 0)
  ·rw[if_pos c]
   cases h
   rw[List.length_take,List.length_drop,l 0 (by omega)]
   unfold lenS;omega
  ·rw[if_neg c] at hs;exact absurd rfl hs
 simp only[if_neg g] at hs h⊢
 by_cases A:t.op≤2
 ·simp only[if_pos A] at hs h⊢
  have w:t.ks.length=1:=by
   have H:t.op=1∨t.op=2:=by omega
   rcases H with e|e<;>rw[e] at d<;>simp[arity] at d<;>omega
  rw[k 0 (by omega)] at hs⊢
  by_cases c:0<sortM ds (kid t 0)
  ·rw[if_pos c,un_len h,l 0 (by omega)]
  ·rw[if_neg c] at hs;exact absurd rfl hs
 simp only[if_neg A] at hs h⊢
 have w:t.ks.length=2:=by
  unfold arity at d
  rw[if_neg (by omega),if_neg (by omega),if_neg (by omega),if_neg (by omega),if_pos (by omega)] at d
  omega
 rw[k 0 (by omega),k 1 (by omega)] at hs⊢
 have z:=l 0 (by omega)
 have E:=l 1 (by omega)
 by_cases f:t.op=14
 ·simp only[f,if_true] at hs⊢
  by_cases c:0<sortM ds (kid t 0)∧0<sortM ds (kid t 1)∧sortM ds (kid t 0)+sortM ds (kid t 1)≤4
  ·rw[if_pos c]
   rw[if_neg (by omega)] at h
   have:=bin_len h fun e=>absurd f e
   rw[if_pos f,z,E] at this
   rw[this];unfold lenS;omega
  ·rw[if_neg c] at hs;exact absurd rfl hs
 simp only[if_neg f] at hs⊢
 by_cases m:15≤t.op
 ·simp only[if_pos m] at hs⊢
  by_cases c:0<sortM ds (kid t 0)∧sortM ds (kid t 0)=sortM ds (kid t 1)
  ·rw[if_pos c]
   rw[if_pos (by omega)] at h
   obtain⟨v,_,rfl⟩:=Bd.reach_map h
   rfl
  ·rw[if_neg c] at hs;exact absurd rfl hs
 simp only[if_neg m] at hs⊢
 by_cases c:0<sortM ds (kid t 0)∧sortM ds (kid t 0)=sortM ds (kid t 1)
 ·rw[if_pos c]
  rw[if_neg (by omega)] at h
  have:=bin_len h fun _=>by rw[z,E,c.2]
  rw[if_neg f,z] at this
  exact this
 ·rw[if_neg c] at hs;exact absurd rfl hs
theorem seq_reach {f:Tm→Bd (List Int)}:∀{ks:List Tm} {rs:List (List Int)},(seqB (ks.map f)).Reach rs→rs.length=ks.length∧∀i,i<ks.length→(f (ks.getD i default)).Reach (rs.getD i [])
 |[],rs,h=>by cases h;exact⟨rfl,fun i hi=>absurd hi (by simp)⟩
 |t::ks,rs,h=>by
  obtain⟨r,c,h⟩:=Bd.reach_inv h
  obtain⟨e,d,rfl⟩:=Bd.reach_map h
  obtain⟨a,b⟩:=seq_reach d
  refine⟨by rw[List.length_cons,List.length_cons,a],fun i hi=>?_⟩
  cases i with
  |zero=>exact c
  |succ i=>exact b i (by simpa using hi)
theorem term_len {ds:List Dcl} (c:declOk ds=true):∀t:Tm,sortM ds t≠ -1→∀{r:List Int},(termB ds t).Reach r→r.length=lenS (sortM ds t):=by
 refine Tm.ind fun t e hs r h=>?_
 rw[termB_eq] at h
 obtain⟨rs,a,b⟩:=Bd.reach_inv h
 obtain⟨_,d⟩:=seq_reach a
 exact node_len c hs (fun i hi=>e _ (getD_mem hi _) (jh0 hs hi) (d i hi)) b
end Go.M
end
section
namespace Go.Proofs.YtaekfnbnhjgboaaGreatDoor
open Go Go.Vc Go.Proofs Go.MapKept
variable {w:World} {K:Value→World→Prop} {F F' D G:Nat→Prop}
def gv (g:M.Gt):Value:= .agg ⟨[.bool g.x,.int .i64 g.a,.int .i64 g.b]⟩
theorem XM0 {g h:M.Gt} (e:gv g=gv h):g=h:=by
 cases g;cases h
 simp only[gv,Value.agg.injEq,Array.mk.injEq,List.cons.injEq,Value.bool.injEq,Value.int.injEq,and_true,true_and] at e
 obtain⟨rfl,rfl,rfl⟩:=e;rfl
theorem eqGate (g h:M.Gt) (w:World):(Op.equalIn 10000 zn (gv g) (gv h)).run PP w= .ok (decide (g=h)) w:=by
 obtain⟨x,a,b⟩:=g
 obtain⟨y,c,d⟩:=h
 have o:(PP.fieldsOf zn).toList=[(PP.fieldsOf zn).getD 0 default,(PP.fieldsOf zn).getD 1 default,(PP.fieldsOf zn).getD 2 default]:=by kernel_rfl
 have k:((PP.fieldsOf zn).getD 0 default).name≠ "_" :=by decide+kernel
 have l:((PP.fieldsOf zn).getD 1 default).name≠ "_" :=by decide+kernel
 have m:((PP.fieldsOf zn).getD 2 default).name≠ "_" :=by decide+kernel
 have i0:PP.underlying ((PP.fieldsOf zn).getD 0 default).type=some .bool:=by kernel_rfl
 have i1:PP.underlying ((PP.fieldsOf zn).getD 1 default).type=some (.int .i64):=by kernel_rfl
 have i2:PP.underlying ((PP.fieldsOf zn).getD 2 default).type=some (.int .i64):=by kernel_rfl
 have n:∀x y z:Value,(part ((PP.fieldsOf zn).getD 0 default).type ⟨[x,y,z]⟩ ((PP.fieldsOf zn).getD 0 default).offset).run PP w= .ok x w:=fun x y z=>by kernel_rfl
 have p1:∀x y z:Value,(part ((PP.fieldsOf zn).getD 1 default).type ⟨[x,y,z]⟩ ((PP.fieldsOf zn).getD 1 default).offset).run PP w= .ok y w:=fun x y z=>by kernel_rfl
 have p2:∀x y z:Value,(part ((PP.fieldsOf zn).getD 2 default).type ⟨[x,y,z]⟩ ((PP.fieldsOf zn).getD 2 default).offset).run PP w= .ok z w:=fun x y z=>by kernel_rfl
 have i:∀d,(Op.equalIn (d+1) ((PP.fieldsOf zn).getD 0 default).type (.bool x) (.bool y)).run PP w= .ok (x==y) w:=fun d=>by
  rw[Op.equalIn,Sem.run_bind,run_underlying i0];rfl
 unfold gv
 rw[run_equalIn_struct w 9999 zn _ _ (by kernel_rfl) (by kernel_rfl),o]
 generalize (PP.fieldsOf zn).getD 0 default=f0 at k i0 n i⊢
 generalize (PP.fieldsOf zn).getD 1 default=f1 at l i1 p1⊢
 generalize (PP.fieldsOf zn).getD 2 default=f2 at m i2 p2⊢
 simp only[Op.eqFields,if_pos k,if_pos l,if_pos m,Sem.run_bind,n,p1,p2,Result.andThen_ok,i 9998,run_equalIn_int w 9998 _ _ _ _ _ i1,run_equalIn_int w 9998 _ _ _ _ _ i2]
 by_cases e:x=y
 ·by_cases f:a=c
  ·by_cases j:b=d
   ·subst e;subst f;subst j;simp[p1,p2,run_equalIn_int w 9998 _ _ _ _ _ i1,run_equalIn_int w 9998 _ _ _ _ _ i2]
   ·subst e;subst f;simp[p1,p2,run_equalIn_int w 9998 _ _ _ _ _ i1,run_equalIn_int w 9998 _ _ _ _ _ i2,j]
  ·subst e;simp[p1,p2,run_equalIn_int w 9998 _ _ _ _ _ i1,run_equalIn_int w 9998 _ _ _ _ _ i2,f]
 ·simp[e]
def GMap (w:World) (b:Nat) (f:List (M.Gt×Int)):Prop:= ∃es cl,w.heap[b]?=some (.map es cl)∧Stamped es cl∧es.toList.map (fun e=>(e.key,e.val))=f.map fun p=>(gv p.1,Value.int .i64 p.2)
theorem GMap.lt {b:Nat} {f:List (M.Gt×Int)} (h:GMap w b f):b<w.heap.size:=by
 obtain⟨es,cl,a,_⟩:=h;exact(Array.getElem?_eq_some_iff.1 a).1
theorem GMap.same {b:Nat} {f:List (M.Gt×Int)} {S:Nat→Prop} {w':World} (h:GMap w b f) (hw:Same S w w') (hs: ¬S b):GMap w' b f:=by
 have a:=h.lt
 obtain⟨es,cl,c,r⟩:=h;exact⟨es,cl,(hw.block b a hs).trans c,r⟩
theorem GMap.ext {b:Nat} {f:List (M.Gt×Int)} {w':World} (h:GMap w b f) (hw:Ext w w'):GMap w' b f:=h.same hw id
theorem yR0 (g:M.Gt) (e:Bool) (w:World):(Instr.checkKey e 10000 zn (gv g)).run PP w= .ok () w:=by
 obtain⟨x,a,b⟩:=g
 kernel_rfl
def findP (g:M.Gt):List (M.Gt×Int)→Nat→Option (Nat×Int)
 |[],_=>none
 |p::r,i=>if g=p.1 then some (i,p.2) else findP g r (i+1)
theorem ask_run (g:M.Gt) (w:World):∀(l:List MapEntry) (f:List (M.Gt×Int)) (i:Nat),l.map (fun e=>(e.key,e.val))=f.map (fun p=>(gv p.1,Value.int .i64 p.2))→
  (Instr.findAsking zn (gv g) l i).run PP w= .ok ((findP g f i).map fun q=>(q.1,.int .i64 q.2)) w
 |[],[],i,_=>rfl
 |[],_::_,_,h=>by simp at h
 |_::_,[],_,h=>by simp at h
 |e::l,p::f,i,h=>by
  simp only[List.map_cons,List.cons.injEq,Prod.mk.injEq] at h
  obtain⟨⟨a,b⟩,d⟩:=h
  have j:(Op.equal zn (gv g) e.key).run PP w= .ok (decide (g=p.1)) w:=by rw[a];exact eqGate g p.1 w
  simp only[Instr.findAsking,Sem.run_bind,j,Result.andThen_ok,findP]
  by_cases c:g=p.1
  ·rw[if_pos (by simpa using c),if_pos c];simp[b]
  ·rw[if_neg (by simpa using c),if_neg c]
   exact ask_run g w l f (i+1) d
theorem gate_struct:∃fs,PP.underlying zn=some (.struct fs):=by
 have h:(match PP.underlying zn with|some (.struct _)=>true|_=>false)=true:=by kernel_rfl
 split at h
 ·next fs e=>exact⟨fs,e⟩
 ·cases h
theorem yV0 (g:M.Gt) (w:World) {l:List MapEntry} {f:List (M.Gt×Int)} (h:l.map (fun e=>(e.key,e.val))=f.map (fun p=>(gv p.1,Value.int .i64 p.2))):
  (Instr.findKey zn (gv g) l).run PP w= .ok ((findP g f 0).map fun q=>(q.1,.int .i64 q.2)) w:=by
 obtain⟨fs,a⟩:=gate_struct
 unfold Instr.findKey
 rw[Sem.run_bind,run_underlying a]
 simp only[Result.andThen_ok]
 cases l with
 |nil=>
  cases f with
  |nil=>rfl
  |cons p f=>simp at h
 |cons e l=>
  have:Instr.findNow (.struct fs) (gv g) (e::l) 0=none:=by simp[Instr.findNow,Instr.sameNow]
  rw[this]
  exact ask_run g w (e::l) f 0 h
theorem findP_none {g:M.Gt}:∀{f:List (M.Gt×Int)} {i:Nat},findP g f i=none↔ ∀p,p∈f→p.1≠g
 |[],i=>by simp[findP]
 |p::f,i=>by
  unfold findP
  split
  ·next e=>exact⟨fun h=>(by cases h),fun h=>absurd e.symm (h p List.mem_cons_self)⟩
  ·next e=>rw[findP_none (f:=f)];simp only[List.mem_cons,forall_eq_or_imp];exact⟨fun h=>⟨fun a=>e a.symm,h⟩,fun h=>h.2⟩
def Jl (g:M.Gt) (f:List (M.Gt×Int)):Option Int:=(findP g f 0).map (·.2)
theorem XN0 {k:Option Value} (a:k=none) (c:∀b w',b=w.heap.size→GMap w' b []→Ext w w'→w'.heap.size=w.heap.size+1→K (.map (some b)) w'):Yf0 PP zG k w K:=by
 subst a
 refine⟨.map (some w.heap.size),w.alloc (.map #[] 0),?_,c _ _ rfl ⟨#[],0,(heap_alloc w _).1,stamped_empty 0,rfl⟩ ⟨rfl,rfl,rfl,by simp,fun k a _=>(heap_alloc w _).2 k a⟩ (by simp)⟩
 simp[Instr.makeMap,newObj,Sem.run]
theorem glook {g:M.Gt} {ok:Bool} {b:Nat} {f:List (M.Gt×Int)} (h:GMap w b f):J3 PP zG (.map (some b)) (gv g) ok w K=K (match Jl g f with|some n=>(if ok then .tuple #[.int .i64 n,.bool true] else .int .i64 n)|none=>if ok then .tuple #[.int .i64 0,.bool false] else .int .i64 0) w:=by
 obtain⟨es,cl,a,d,he⟩:=h
 have hm:PP.underlying zG=some (.map zn ze)∧yO PP ze (.int .i64 0):=⟨jO,XN⟩
 refine yB ?_
 unfold Jl
 cases c:findP g f 0 with
 |none=>cases ok<;>simp[Instr.lookup,run_underlying hm.1,MapKept.run_getObj_map a,yR0,yV0 g w he,c,QS hm.2,Result.andThen]
 |some p=>cases ok<;>simp[Instr.lookup,run_underlying hm.1,MapKept.run_getObj_map a,yR0,yV0 g w he,c,Result.andThen]
theorem Yt0 {g:M.Gt} {b:Nat} {f:List (M.Gt×Int)} (h:GMap w b f):J3 PP zG (.map (some b)) (gv g) true w K=K (match Jl g f with|some n=> .tuple #[.int .i64 n,.bool true]|none=> .tuple #[.int .i64 0,.bool false]) w:=by
 rw[glook h];cases Jl g f<;>rfl
theorem XO0 {g:M.Gt} {b:Nat} {f:List (M.Gt×Int)} (h:GMap w b f):J3 PP zG (.map (some b)) (gv g) false w K=K (match Jl g f with|some n=> .int .i64 n|none=> .int .i64 0) w:=by
 rw[glook h];cases Jl g f<;>rfl
theorem look_app {g h:M.Gt} {n:Int}:∀{f:List (M.Gt×Int)} {i:Nat},(findP g (f++[(h,n)]) i).map (·.2)=match(findP g f i).map (·.2) with|some m=>some m|none=>if g=h then some n else none
 |[],i=>by simp only[List.nil_append,findP,Option.map_none];split<;>rfl
 |p::f,i=>by
  rw[List.cons_append]
  unfold findP
  split
  ·rfl
  ·exact look_app (f:=f)
theorem gset {g:M.Gt} {n:Int} {b:Nat} {f:List (M.Gt×Int)} (h:GMap w b f) (i:Jl g f=none)
  (m:∀w',GMap w' b (f++[(g,n)])→Same (· =b) w w'→w'.heap.size=w.heap.size→K undef w'):kW PP zG (.map (some b)) (gv g) (.int .i64 n) w K:=by
 obtain⟨es,cl,c,j,he⟩:=h
 have hm:PP.underlying zG=some (.map zn ze):=jO
 have d:findP g f 0=none:=by
  unfold Jl at i
  cases d:findP g f 0 with
  |none=>rfl
  |some p=>rw[d] at i;cases i
 have l:∀x,x∈es.toList→x.key≠gv g:=fun x q e=>by
  have a:(x.key,x.val)∈f.map fun p=>(gv p.1,Value.int .i64 p.2):=by rw[←he];exact List.mem_map.2 ⟨x,q,rfl⟩
  obtain⟨p,o,k⟩:=List.mem_map.1 a
  have:gv p.1=gv g:=by rw[←e];exact congrArg Prod.fst k
  exact findP_none.1 d p o (XM0 this)
 refine⟨(),{w with heap:=w.heap.setIfInBounds b (.map (es.push {key:=gv g,val:= .int .i64 n,born:=cl}) (cl+1))},?_,m _ ⟨_,_,(heap_set c).1,stamped_push j l,by simp[he]⟩ (Uu c) (by simp)⟩
 simp[Instr.mapUpdate,run_underlying hm,MapKept.run_getObj_map c,yR0,yV0 g w he,d,run_setObj_map _ c,Result.andThen]
end Go.Proofs.YtaekfnbnhjgboaaGreatDoor
end
section
namespace Go.Proofs.YtaekfnbnhjgboaaGreatDoor
open Go Go.Vc Go.Proofs
variable {w:World} {K:Value→World→Prop} {F F' Fx Fy X:Nat→Prop}
section
variable {w' w'':World} {F'' S:Nat→Prop}
theorem Same.thn {S T:Nat→Prop} {a b c:World} (h:Same S a b) (k:Same T b c) (hs:∀x,T x→S x∨a.heap.size≤x):Same S a c:=
 ⟨k.os.trans h.os,k.tape.trans h.tape,k.output.trans h.output,Nat.le_trans h.size k.size,fun i hi d=>
  (k.block i (Nat.lt_of_lt_of_le hi h.size) (fun e=>(hs i e).elim d fun h=>by omega)).trans (h.block i hi d)⟩
structure Mv (F:Nat→Prop) (w:World) (F':Nat→Prop) (w':World):Prop where
 same:Same F w w'
 new:∀b,F' b→F b∨w.heap.size≤b
theorem Mv.refl:Mv F w F w:=⟨Same.refl _ _,fun _ h=> .inl h⟩
theorem Mv.trans (h:Mv F w F' w') (k:Mv F' w' F'' w''):Mv F w F'' w'':=by
 have hs:=h.same.size
 exact⟨Same.thn h.same k.same h.new,fun b a=>(k.new b a).elim (h.new b) fun h=> .inr (by omega)⟩
theorem Mv.to (h:Mv F w F' w') (k:Same S w' w'') (a:∀b,S b→F' b∨w.heap.size≤b):Mv F w F' w'':=
 ⟨Same.thn h.same k fun b c=>(a b c).elim (h.new b) .inr,h.new⟩
theorem Mv.ext (h:Mv F w F' w') (k:Ext w' w''):Mv F w F' w'':=h.to k fun _ h=>h.elim
theorem Mv.off (h:Mv F w F' w') {b:Nat} (c: ¬F b) (e:b<w.heap.size): ¬F' b:=fun a=>(h.new b a).elim c fun d=>by omega
abbrev Off (X F:Nat→Prop):Nat→Prop:=fun b=> ¬F b∧¬X b
theorem Ints.mv {v:Value} {xs:List Int} (h:Ints (Off X F) w v xs) (hm:Mv F w F' w'):Ints (Off X F') w' v xs:=by
 have c:Ints (fun b=>(¬F b∧¬X b)∧b<w.heap.size) w v xs:=Ints.weaken h fun b a e=>⟨a,e⟩
 have d:=Ints.same c hm.same fun b a _=>a.1.1
 exact Ints.weaken d fun b a _=>⟨hm.off a.1.1 a.2,a.1.2⟩
structure NewI (X:Nat→Prop) (w:World) (F':Nat→Prop) (w':World) (v:Value) (xs:List Int):Prop where
 own:OwnI PP za w' v xs
 off:∀b,v.ownBlock=some b→w.heap.size≤b∧¬F' b
 out:∀b,v.ownBlock=some b→¬X b
theorem NewI.mv {v:Value} {xs:List Int} (h:NewI X w F' w' v xs) (hm:Mv F' w' F'' w''):NewI X w F'' w'' v xs:=
 ⟨h.own.same hm.same fun b a=>(h.off b a).2,fun b a=>⟨(h.off b a).1,hm.off (h.off b a).2 (h.own.lt a)⟩,h.out⟩
theorem NewI.ints {v:Value} {xs:List Int} (h:NewI X w F' w' v xs):Ints (Off X F') w' v xs:=Ints.weaken h.own.ints fun b a _=>⟨(h.off b a).2,h.out b a⟩
theorem NewI.nil:NewI X w F' w' (.slice none 0 0) []:=⟨OwnI.nil,fun b a=>(by cases a),fun b a=>by cases a⟩
theorem NewI.app1 {ty b:Nat} {v:Value} {xs:List Int} {x:Int} {e:TypeId} (h:NewI X w F' w' v xs) (c:Blk w' b [.int .i64 x] e) (j:w.heap.size≤w'.heap.size) (hF:∀b,F' b∨X b→b<w'.heap.size) (k:xs.length≤1000000)
  (g:∀v' w'',NewI X w F' w'' v' (xs++[x])→Same (fun b=>v.ownBlock=some b) w' w''→K v' w''):vbi PP .append [za,za] ty [v,.slice (some ⟨b,0,none⟩) 1 1] w' K:=by
 refine h.own.app1 yU c (by omega) (by omega) fun v' w'' i hs f=>g v' w'' ⟨i,fun b c=>?_,fun b c=>?_⟩ hs
 ·rcases f b c with a|a
  ·exact h.off b a
  ·exact⟨by omega,fun d=>by have:=hF b (.inl d);omega⟩
 ·rcases f b c with a|a
  ·exact h.out b a
  ·exact fun d=>by have:=hF b (.inr d);omega
def Sent (w:World) (g:Nat) (a:Addr):Prop:=w.cell? ⟨g,0,none⟩=some (.iface xr (.pointer (some a)))
theorem Sent.lt {g:Nat} {a:Addr} (h:Sent w g a):g<w.heap.size:=World.block_lt_of_cell? w _ h
theorem Sent.same {g:Nat} {a:Addr} (h:Sent w g a) (hw:Same S w w') (b: ¬S g):Sent w' g a:=hw.cell b h
theorem Sent.cell {g:Nat} {a:Addr} (h:Sent w g a):w.cell? ⟨g,0,none⟩=some (.iface xr (.pointer (some a))):=h
def erv (a:Addr):Value:= .iface xr (.pointer (some a))
structure Errs (F:Nat→Prop) (w:World) (ar ab:Addr):Prop where
 room:Sent w xy ar
 bits:Sent w yV ab
 off: ¬F xy∧¬F yV
theorem Errs.mv {ar ab:Addr} (h:Errs F w ar ab) (hm:Mv F w F' w'):Errs F' w' ar ab:=by
 have c:=h.room.lt;have d:=h.bits.lt
 obtain⟨a,b⟩:=h.off
 exact⟨h.room.same hm.same a,h.bits.same hm.same b,hm.off a c,hm.off b d⟩
theorem Errs.to {ar ab:Addr} {w0:World} (h:Errs F w ar ab) (a:Errs Fx w0 ar ab) (hs:Same S w w') (c:∀b,S b→w0.heap.size≤b):Errs F w' ar ab:=by
 have d:=a.room.lt;have e:=a.bits.lt
 have key:∀b,b<w0.heap.size→¬S b:=fun b f hs=>by have:=c b hs;omega
 exact⟨h.room.same hs (key _ d),h.bits.same hs (key _ e),h.off⟩
def yE (g:M.Gt):List Value:=[.bool g.x,.int .i64 g.a,.int .i64 g.b]
def GatesR (F:Nat→Prop) (w:World) (v:Value) (gs:M.Gs):Prop:=Sl F w 3 v (gs.map yE)
def OwnG (w:World) (v:Value) (gs:M.Gs):Prop:=Own PP 0 3 zm w v (gs.map yE)
structure CktR (n:Nat) (bc:Nat) (w:World) (gs:M.Gs) (v:Value) (mb:Nat):Prop where
 blk:Blk w bc [.int .i64 n,v,.map (some mb)] zK
 own:OwnG w v gs
 map:∃f,GMap w mb f∧∀g,Jl g f=if g∈gs then some (2+n+gs.idxOf g:Int) else none
 sep:bc≠mb∧v.ownBlock≠some bc∧v.ownBlock≠some mb
 few:gs.length≤600∧n≤8
def Jm (bc mb:Nat) (v:Value) (b:Nat):Prop:=b=bc∨b=mb∨v.ownBlock=some b
section
variable {n bc mb:Nat} {gs:M.Gs} {v:Value}
theorem CktR.same (h:CktR n bc w gs v mb) (hw:Same S w w') (hs:∀b,Jm bc mb v b→¬S b):CktR n bc w' gs v mb:=by
 obtain⟨f,c,d⟩:=h.map
 exact⟨h.blk.same hw (hs _ (.inl rfl)),Own.same h.own hw fun b a=>hs b (.inr (.inr a)),⟨f,c.same hw (hs _ (.inr (.inl rfl))),d⟩,h.sep,h.few⟩
theorem CktR.ext (h:CktR n bc w gs v mb) (hw:Ext w w'):CktR n bc w' gs v mb:=h.same hw fun _ _ h=>h
theorem CktR.lt (h:CktR n bc w gs v mb) {b:Nat} (a:Jm bc mb v b):b<w.heap.size:=by
 obtain⟨f,c,_⟩:=h.map
 rcases a with rfl|rfl|a
 ·exact h.blk.lt
 ·exact c.lt
 ·exact(Own.lt h.own a).2
end
structure BdR (n bb:Nat) (ar ab:Addr) (X F:Nat→Prop) (w:World) (st:Option M.Gs):Prop where
 err:Errs F w ar ab
 blk:∃bc,Blk w bb [.pointer (some ⟨bc,0,none⟩),match st with|some _=> .nilIface |none=>erv ar] zX∧∀gs,st=some gs→∃v mb,CktR n bc w gs v mb∧¬Jm bc mb v bb∧∀b,Jm bc mb v b→F b
 foot:F bb
 lt:∀b,F b∨X b→b<w.heap.size
section
variable {n bb:Nat} {ar ab:Addr} {st:Option M.Gs}
theorem BdR.upd {w0:World} {f:Nat→Prop} (h:BdR n bb ar ab X F w st) (g:Errs f w0 ar ab) (c:Same S w w') (hs:∀b,S b→w0.heap.size≤b∧¬F b):BdR n bb ar ab X F w' st:=by
 obtain⟨bc,j,k⟩:=h.blk
 refine⟨h.err.to g c fun b a=>(hs b a).1,⟨bc,j.same c fun a=>(hs _ a).2 h.foot,fun gs e=>?_⟩,h.foot,fun b a=>by have:=h.lt b a;have:=c.size;omega⟩
 obtain⟨v,mb,l,i,d⟩:=k gs e
 exact⟨v,mb,l.same c fun b a m=>(hs b m).2 (d b a),i,d⟩
theorem BdR.ext (h:BdR n bb ar ab X F w st) (hw:Ext w w'):BdR n bb ar ab X F w' st:=h.upd h.err hw fun _ h=>h.elim
end
end
end Go.Proofs.YtaekfnbnhjgboaaGreatDoor
end
section
namespace Go.Proofs.YtaekfnbnhjgboaaGreatDoor
open Go Go.Vc Go.Proofs
variable {w:World} {K:Value→World→Prop} {F F' Fx Fy X:Nat→Prop} {n bc mb:Nat} {gs:M.Gs} {v:Value}
theorem Blk.ldTake {b:Nat} {us r:List Value} {t0 t:TypeId} (h:Blk w b (us++r) t0) (a:aggB PP t us.length=true):zf PP t (.pointer (some ⟨b,0,none⟩)) w K=K (.agg ⟨us⟩) w:=by
 refine UC a fun i x hi=>?_
 rw[xp,Nat.zero_add]
 refine h.cell ?_
 rw[List.getElem?_append_left (by have:=(List.getElem?_eq_some_iff.1 hi).1;exact this)]
 exact hi
theorem node_spec {l:Int} (b:l.natAbs≤1000000) (a:K (.int .i64 (M.absI l)) w):vcall PP yi #[.int .i64 l] w K:=by
 apply Vk
 unfold M.absI at a
 simp only[push_cast]
 refine zh (fun h=>?_) (fun h=>?_)
 ·rw[if_pos h] at a
  simp(disch:=omega) only[push_cast,zH,Int.zero_sub]
  exact a
 ·rw[if_neg h] at a
  exact a
theorem turned_spec {l:Int} {c:Bool} (b:l.natAbs≤1000000) (a:K (.int .i64 (M.turnI c l)) w):vcall PP xO #[.int .i64 l,.bool c] w K:=by
 apply Jo
 refine yo (fun h=>?_) (fun h=>?_)
 ·subst h
  simp(disch:=omega) only[push_cast,zH,Int.zero_sub]
  exact a
 ·subst h
  exact a
theorem nodes_spec {k:Nat} (e:k≤1000000) (f:n≤1000000) (c:∀w',Ext w w'→K (.int .i64 (1+n+k:Int)) w'):vcall PP xm #[.agg ⟨[.int .i64 n,v]⟩,.int .i64 k] w K:=by
 apply Ur
 refine zx fun b h d he g a=>?_
 simp(disch:=first|(simp only[push_cast];done)|omega) only[push_cast,a.ld0,zH]
 exact c _ he
def Yo0 (g:M.Gt):M.Gt:=if M.absI g.b<M.absI g.a then⟨g.x,g.b,g.a⟩ else g
theorem ji0 (gs:M.Gs):(gs.map yE).length=gs.length:=List.length_map _
theorem gate_spec {g:M.Gt} (h:CktR n bc w gs v mb) (ha:g.a.natAbs≤1000000) (C:g.b.natAbs≤1000000)
  (U:∀w' v',CktR n bc w' (M.putG n gs (Yo0 g)).1 v' mb→Same (Jm bc mb v) w w'→(∀b,v'.ownBlock=some b→v.ownBlock=some b∨w.heap.size≤b)→K (.int .i64 (M.putG n gs (Yo0 g)).2) w'):
  vcall PP qj #[.pointer (some ⟨bc,0,none⟩),gv g] w K:=by
 apply Kz
 refine zx fun gb w1 b3 a8 b4 al=>?_
 have hf:=h.few
 refine y5 (fun u w'=>Ext w w'∧Blk w' gb (yE (Yo0 g)) zn) ?_ ?_
 ·intro J hJ
  refine zw fun w2 V _=>?_
  have d:=al.ext V
  simp(disch:=first|(simp only[push_cast];done)|omega) only[push_cast,d.ld1,d.ld2,true_and]
  refine node_spec ha ?_
  simp(disch:=first|(simp only[push_cast];done)|omega) only[push_cast,d.ld1,d.ld2,true_and,and_self]
  refine node_spec C ?_
  simp only[push_cast,true_and]
  refine zh (fun c=>?_) (fun c=>?_)
  ·simp(disch:=first|(simp only[push_cast];done)|omega) only[push_cast,d.ld1,d.ld2]
   refine d.st rfl rfl jx rfl fun w3 aw _ am=>?_
   refine Blk.st (i:=2) am rfl rfl jx rfl fun w4 ax _ an=>?_
   refine hJ _ _ ⟨Ext.then (a8.trans V) (aw.trans ax) fun x s=>by omega,?_⟩
   unfold Yo0
   rw[if_pos c]
   exact an
  ·refine hJ _ _ ⟨a8.trans V,?_⟩
   unfold Yo0
   rw[if_neg c]
   exact d
 rintro u _ w5 ⟨ap,a2⟩
 generalize Yo0 g=o at U a2
 refine zw fun w6 a9 _=>?_
 have e6:=ap.trans a9
 have R:=h.ext e6
 have a3:=a2.ext a9
 obtain⟨f,aq,E⟩:=R.map
 have D:∀w':World,Blk w' gb (yE o) zn→∀K:Value→World→Prop,zf PP zn (.pointer (some ⟨gb,0,none⟩)) w' K=K (gv o) w':=fun w' hB K=>Blk.ldAgg hB (by exact qm)
 have t:=E o
 have au:=D _ a3
 simp(disch:=first|(simp only[push_cast];done)|omega) only[push_cast,R.blk.ld2,true_and,au,Yt0 aq]
 by_cases hm:o∈gs
 ·rw[if_pos hm] at t
  simp only[t,push_cast,true_and,and_self]
  have e1:M.putG n gs o=(gs,(2+n+gs.idxOf o:Int)):=by unfold M.putG;rw[if_pos hm]
  rw[e1] at U
  exact U _ _ R (Same.of_ext e6) fun b C=> .inl C
 rw[if_neg hm] at t
 simp only[t,push_cast,true_and,and_self]
 have ay:=Own.sl R.own
 simp(disch:=first|(simp only[push_cast];done)|omega) only[push_cast,R.blk.ld1,ay.len,ji0]
 refine zh (fun hl=>?_) (fun hl=>?_)
 ·have e1:M.putG n gs o=(gs,0):=by unfold M.putG;rw[if_neg hm,if_pos (by omega)]
  rw[e1] at U
  exact U _ _ R (Same.of_ext e6) fun b C=> .inl C
 have e1:M.putG n gs o=(gs++[o],(2+n+gs.length:Int)):=by unfold M.putG;rw[if_neg hm,if_neg (by omega)]
 rw[e1] at U
 refine zw fun w7 W _=>?_
 have e7:=e6.trans W
 have h7:=R.ext W
 have a4:=a3.ext W
 have av:=D _ a4
 simp(disch:=first|(simp only[push_cast];done)|omega) only[push_cast,h7.blk.ld1,true_and,av]
 refine Us kH (by kernel_rfl) Y0 (y:=yE o) rfl rfl (show 3≤16777216 by decide) fun b8 w8 b2 X b5 ao=>?_
 have e8:=e7.trans X
 have h8:=h7.ext X
 have a6:=a4.ext X
 have s8:=e8.size
 simp(disch:=first|(simp only[push_cast];done)|omega) only[push_cast,h8.blk.ld1,true_and,and_self]
 refine Own.app1k (bs:=24) h8.own jv (by decide) ao rfl (fun c hc=>by simp only[yE,List.mem_cons,List.not_mem_nil,or_false] at hc;rcases hc with rfl|rfl|rfl<;>rfl) (by rw[ji0];omega) (by rw[ji0];omega) fun v' w9 a0 F Z=>?_
 have lbc:bc<w.heap.size:=h.lt (.inl rfl)
 have lmb:mb<w.heap.size:=h.lt (.inr (.inl rfl))
 have a5:=h8.blk.same F fun s=>h.sep.2.1 s
 have ae: ¬v.ownBlock=some gb:=fun s=>by have:=(Own.lt h.own s).2;omega
 have a7:=a6.same F ae
 refine Blk.st (i:=1) a5 (Sl.cells1 (Own.sl a0)) (Sl.one (Own.sl a0)) WL rfl fun w10 p b0 z=>?_
 have z:Blk w10 bc [.int .i64 n,v',.map (some mb)] zK:=z
 have L:v'.ownBlock≠some bc:=fun s=>(Z bc s).elim h.sep.2.1 fun h=>by omega
 have P:v'.ownBlock≠some mb:=fun s=>(Z mb s).elim h.sep.2.2 fun h=>by omega
 have aj:OwnG w10 v' (gs++[o]):=by
  have:=a0.same p fun b C s=>L (by rw[←s];exact C)
  unfold OwnG;rw[List.map_append];exact this
 have S:=a7.same p (show¬gb=bc by omega)
 obtain⟨f,ad,E⟩:=h8.map
 have aa:=(ad.same F h.sep.2.2).same p (fun e=>h.sep.1 e.symm)
 refine zw fun G j _=>?_
 have m:=z.ext j
 have Q:=Own.ext aj j
 have A:=S.ext j
 have af:=D _ A
 have a1:=Own.sl Q
 have ai:∀K:Value→World→Prop,zf PP zj (.pointer (some ⟨bc,0,none⟩)) G K=K (.agg ⟨[.int .i64 n,v']⟩) G:=fun K=>Blk.ldTake (us:=[.int .i64 n,v']) (r:=[.map (some mb)]) m yg
 have ar:(List.map yE (gs++[o])).length=gs.length+1:=by rw[ji0,List.length_append];rfl
 have hlen:∀K:Value→World→Prop,vbi PP .len [zm] ze [v'] G K=K (.int .i64 ((gs.length+1:Nat):Int)) G:=fun K=>by rw[a1.len qB,ar]
 simp(disch:=first|(simp only[push_cast];done)|omega) only[push_cast,m.ld1,m.ld2,true_and,af,ai,hlen]
 rw[show((gs.length:Int)+1)=((gs.length+1:Nat):Int) from by omega]
 refine nodes_spec (by omega) (by omega) fun b6 k=>?_
 rw[show(1+(n:Int)+((gs.length+1:Nat):Int))=2+n+gs.length from by omega]
 have H:=m.ext k
 have B:=A.ext k
 have ag:=D _ B
 simp(disch:=first|(simp only[push_cast];done)|omega) only[push_cast,H.ld2,true_and,ag,and_self]
 have ab:=aa.ext (j.trans k)
 have t:Jl o f=none:=by rw[E,if_neg hm]
 refine gset ab t fun b7 ac q b1=>?_
 refine zw fun az l _=>?_
 have I:=(H.same q h.sep.1).ext l
 have T:=(B.same q (show¬gb=mb by omega)).ext l
 have ah:=D _ T
 have N:=ac.ext l
 have ak:OwnG az v' (gs++[o]):=Own.ext (Own.same (Own.ext Q k) q fun b C s=>P (by rw[←s];exact C)) l
 have O:∀g,Jl g (f++[(o,(2+n+gs.length:Int))])=if g∈gs++[o] then some (2+n+(gs++[o]).idxOf g:Int) else none:=fun g=>by
  have e:=look_app (g:=g) (h:=o) (n:=(2+n+gs.length:Int)) (f:=f) (i:=0)
  have e2:=E g
  unfold Jl at e2⊢
  rw[e,e2]
  by_cases hg:g∈gs
  ·rw[if_pos hg,if_pos (List.mem_append.2 (.inl hg)),List.idxOf_append,if_pos hg]
  ·rw[if_neg hg]
   by_cases ho:g=o
   ·subst ho
    simp only
    rw[if_pos trivial,if_pos (by simp),List.idxOf_append,if_neg hg]
    simp
   ·simp only
    rw[if_neg ho,if_neg (by simp[hg,ho])]
 have Y:=O o
 rw[if_pos (by simp),List.idxOf_append,if_neg hm] at Y
 simp only[List.idxOf_cons_self,Nat.add_zero] at Y
 simp(disch:=first|(simp only[push_cast];done)|omega) only[push_cast,I.ld2,true_and,ah,XO0 N,Y,and_self]
 refine U _ v' ⟨I,ak,⟨_,N,O⟩,⟨h.sep.1,L,P⟩,?_,hf.2⟩ ?_ fun b C=>(Z b C).imp id fun h=>by omega
 ·rw[List.length_append];simp;omega
 ·refine Same.thn (Same.of_ext e8) ((((F.mono (S':=Jm bc mb v) fun x _ h=> .inr (.inr h)).trans (p.mono fun x _ h=> .inl h)).trans (Same.of_ext (j.trans k))).trans ((q.mono fun x _ h=> .inr (.inl h)).trans (Same.of_ext l))) fun x s=> .inl s
end Go.Proofs.YtaekfnbnhjgboaaGreatDoor
end
section
namespace Go.Proofs.YtaekfnbnhjgboaaGreatDoor
open Go Go.Vc Go.Proofs
variable {w:World} {K:Value→World→Prop} {F F' Fx Fy X:Nat→Prop} {n bc mb bb:Nat} {gs:M.Gs} {v:Value} {ar ab:Addr} {st:Option M.Gs}
theorem absI_le {a:Int} {m:Nat} (h:a.natAbs≤m):(M.absI a).natAbs≤m:=by unfold M.absI;split<;>omega
theorem UD {c:Bool} {a:Int}:(M.turnI c a).natAbs=a.natAbs:=by cases c<;>simp[M.turnI]
theorem put_abs {g:M.Gt} (h:gs.length≤600) (a:n≤8):(M.putG n gs g).2.natAbs≤1000:=by
 unfold M.putG
 split
 ·next hm=>have:=List.idxOf_lt_length_iff.2 hm;show(2+(n:Int)+(gs.idxOf g:Nat)).natAbs≤1000;omega
 ·split
  ·show(0:Int).natAbs≤1000;decide
  ·show(2+(n:Int)+(gs.length:Nat)).natAbs≤1000;omega
theorem kU0 {a b:Int} (h:gs.length≤600) (c:n≤8) (d:a.natAbs≤1000) (e:b.natAbs≤1000):(M.andG n gs a b).2.natAbs≤1000:=by
 unfold M.andG
 repeat' split
 all_goals first|exact put_abs h c|(show(-1:Int).natAbs≤1000;decide)|assumption
theorem jY0 {a b:Int} (h:gs.length≤600) (c:n≤8) (d:a.natAbs≤1000) (e:b.natAbs≤1000):(M.xorG n gs a b).2.natAbs≤1000:=by
 unfold M.xorG
 repeat' split
 all_goals first|(show(-1:Int).natAbs≤1000;decide)|(show(1:Int).natAbs≤1000;decide)|(simp only[UD];first|exact put_abs h c|assumption)
theorem Xb0 (a b:Int):zT PP zn [(1,.int .i64 a),(2,.int .i64 b)] w K=K (gv ⟨false,a,b⟩) w:=yw Xu (us:=[[.int .i64 a],[.int .i64 b]]) rfl rfl
theorem cand_spec {a b:Int} (h:CktR n bc w gs v mb) (i:a.natAbs≤1000) (e:b.natAbs≤1000)
  (d:∀w' v',CktR n bc w' (M.andG n gs a b).1 v' mb→Same (Jm bc mb v) w w'→(∀b,v'.ownBlock=some b→v.ownBlock=some b∨w.heap.size≤b)→K (.int .i64 (M.andG n gs a b).2) w'):
  vcall PP jJ #[.pointer (some ⟨bc,0,none⟩),.int .i64 a,.int .i64 b] w K:=by
 apply Vo
 unfold M.andG at d
 try simp only[push_cast]
 refine zh (fun c=>?_) (fun f=>?_)
 ·rw[if_pos (.inl c)] at d
  exact d _ _ h (Same.refl _ _) fun b e=> .inl e
 try simp only[push_cast]
 refine zh (fun c=>?_) (fun g=>?_)
 ·rw[if_pos (.inr c)] at d
  exact d _ _ h (Same.refl _ _) fun b e=> .inl e
 rw[if_neg (fun h=>h.elim f g)] at d
 try simp only[push_cast]
 refine zh (fun c=>?_) (fun c=>?_)
 ·rw[if_pos c] at d
  exact d _ _ h (Same.refl _ _) fun b e=> .inl e
 rw[if_neg c] at d
 try simp only[push_cast]
 refine zh (fun c=>?_) (fun c=>?_)
 ·rw[if_pos c] at d
  exact d _ _ h (Same.refl _ _) fun b e=> .inl e
 rw[if_neg c] at d
 try simp only[push_cast]
 refine zh (fun c=>?_) (fun c=>?_)
 ·rw[if_pos c] at d
  exact d _ _ h (Same.refl _ _) fun b e=> .inl e
 rw[if_neg c] at d
 try simp(disch:=omega) only[push_cast,zH,Int.zero_sub]
 refine zh (fun c=>?_) (fun c=>?_)
 ·rw[if_pos c] at d
  exact d _ _ h (Same.refl _ _) fun b e=> .inl e
 rw[if_neg c] at d
 rw[Xb0]
 exact gate_spec h (by show a.natAbs≤_;omega) (by show b.natAbs≤_;omega) d
theorem Y90 (a b:Int):zT PP zn [(0,.bool true),(1,.int .i64 a),(2,.int .i64 b)] w K=K (gv ⟨true,a,b⟩) w:=yw Xu (us:=[[.bool true],[.int .i64 a],[.int .i64 b]]) rfl rfl
theorem absI_abs (a:Int):M.absI (M.absI a)=M.absI a:=by
 unfold M.absI
 by_cases h:a<0
 ·rw[if_pos h,if_neg (by omega)]
 ·rw[if_neg h,if_neg h]
theorem ordX (a b:Int):Yo0 ⟨true,M.absI a,M.absI b⟩=M.gateX a b:=by unfold Yo0 M.gateX;simp only[absI_abs]
theorem cxor_spec {a b:Int} (h:CktR n bc w gs v mb) (j:a.natAbs≤1000) (e:b.natAbs≤1000)
  (d:∀w' v',CktR n bc w' (M.xorG n gs a b).1 v' mb→Same (Jm bc mb v) w w'→(∀b,v'.ownBlock=some b→v.ownBlock=some b∨w.heap.size≤b)→K (.int .i64 (M.xorG n gs a b).2) w'):
  vcall PP jH #[.pointer (some ⟨bc,0,none⟩),.int .i64 a,.int .i64 b] w K:=by
 apply Vm
 unfold M.xorG at d
 refine node_spec (by omega) ?_
 try simp only[push_cast]
 refine zh (fun c=>?_) (fun c=>?_)
 ·rw[if_pos c] at d
  try simp only[push_cast]
  exact turned_spec (by omega) (d _ _ h (Same.refl _ _) fun b e=> .inl e)
 rw[if_neg c] at d
 refine node_spec (by omega) ?_
 try simp only[push_cast]
 refine zh (fun c=>?_) (fun c=>?_)
 ·rw[if_pos c] at d
  try simp only[push_cast]
  exact turned_spec (by omega) (d _ _ h (Same.refl _ _) fun b e=> .inl e)
 rw[if_neg c] at d
 try simp only[push_cast]
 refine zh (fun c=>?_) (fun c=>?_)
 ·rw[if_pos c] at d
  exact d _ _ h (Same.refl _ _) fun b e=> .inl e
 rw[if_neg c] at d
 try simp(disch:=omega) only[push_cast,zH,Int.zero_sub]
 refine zh (fun c=>?_) (fun c=>?_)
 ·rw[if_pos c] at d
  exact d _ _ h (Same.refl _ _) fun b e=> .inl e
 rw[if_neg c] at d
 refine node_spec (by omega) (node_spec (by omega) ?_)
 rw[Y90]
 have k:=put_abs (g:=M.gateX a b) h.few.1 h.few.2
 refine gate_spec h (absI_le (by omega)) (absI_le (by omega)) fun w' v' f hs i=>?_
 rw[ordX] at f⊢
 try simp only[push_cast]
 refine turned_spec (l:=(M.putG n gs (M.gateX a b)).2) (by omega) ?_
 exact d _ _ f hs i
theorem qM0:zt PP .eql yd true .nilIface .nilIface w K=K (.bool true) w:=yN (by kernel_rfl) (by kernel_rfl)
theorem Ke:zt PP .neq yd true .nilIface .nilIface w K=K (.bool false) w:=yN (by kernel_rfl) (by kernel_rfl)
theorem qO0 {a:Addr}:zt PP .eql yd true (erv a) .nilIface w K=K (.bool false) w:=yN (by kernel_rfl) (by kernel_rfl)
theorem x20 {a:Addr}:zt PP .neq yd true (erv a) .nilIface w K=K (.bool true) w:=yN (by kernel_rfl) (by kernel_rfl)
theorem UZ {p e:Value} (a:K (.tuple #[]) w):vcall PP yl #[p,.bool false,e] w K:=by
 apply ZJ
 simp only[push_cast]
 exact a
theorem ZX0 {p:Value} {a:Addr} (c:Blk w bb [p,.nilIface] zX) (d:∀w',Same (· =bb) w w'→Blk w' bb [p,erv a] zX→K (.tuple #[]) w'):
  vcall PP yl #[.pointer (some ⟨bb,0,none⟩),.bool true,erv a] w K:=by
 apply ZJ
 simp(disch:=first|(simp only[push_cast];done)|omega) only[push_cast,c.ld1,qM0]
 refine Blk.st (i:=1) c rfl rfl YE0 rfl fun w' hs _ b=>d w' hs b
end Go.Proofs.YtaekfnbnhjgboaaGreatDoor
end
section
namespace Go.Proofs.YtaekfnbnhjgboaaGreatDoor
open Go Go.Vc Go.Proofs
variable {w:World} {K:Value→World→Prop} {F F' Fx Fy X:Nat→Prop} {n bc mb bb:Nat} {gs:M.Gs} {v:Value} {ar ab:Addr} {st:Option M.Gs}
theorem BdR.pre {w':World} {bc mb:Nat} {gs gs':M.Gs} {v v':Value} (h:BdR n bb ar ab X F w (some gs)) (g:Blk w bb [.pointer (some ⟨bc,0,none⟩),.nilIface] zX) (d: ¬Jm bc mb v bb) (hF:∀b,Jm bc mb v b→F b)
  (i:CktR n bc w' gs' v' mb) (hs:Same (Jm bc mb v) w w') (j:∀b,v'.ownBlock=some b→v.ownBlock=some b∨w.heap.size≤b):
  BdR n bb ar ab X (fun b=>F b∨v'.ownBlock=some b) w' (some gs')∧Mv F w (fun b=>F b∨v'.ownBlock=some b) w':=by
 have hm:Mv F w (fun b=>F b∨v'.ownBlock=some b) w':=⟨hs.mono fun x _ a=>hF x a,fun b c=>c.elim .inl fun c=>(j b c).imp (fun h=>hF b (.inr (.inr h))) id⟩
 refine⟨⟨h.err.mv hm,⟨bc,g.same hs d,fun k e=>?_⟩,.inl h.foot,fun b c=>?_⟩,hm⟩
 ·cases e
  refine⟨v',mb,i,?_,?_⟩
  ·rintro(a|a|a)
   ·exact d (.inl a)
   ·exact d (.inr (.inl a))
   ·rcases j _ a with f|f
    ·exact d (.inr (.inr f))
    ·have:=g.lt;omega
  ·rintro b (a|a|a)
   ·exact .inl (hF b (.inl a))
   ·exact .inl (hF b (.inr (.inl a)))
   ·exact .inr a
 ·rcases c with(c|c)|c
  ·have:=h.lt b (.inl c);have:=hs.size;omega
  ·exact i.lt (.inr (.inr c))
  ·have:=h.lt b (.inr c);have:=hs.size;omega
theorem made_spec {s:Int} (h:BdR n bb ar ab X F w (some gs)) (d:∀w',BdR n bb ar ab X F w' (if s=0 then none else some gs)→Mv F w F w'→K (.int .i64 (if s=0 then-1 else s)) w'):
  vcall PP qk #[.pointer (some ⟨bb,0,none⟩),.int .i64 s] w K:=by
 apply KD
 obtain⟨bc,f,j⟩:=h.blk
 simp only at f
 simp only[push_cast,xB Yp h.err.room.cell]
 by_cases hs:s=0
 ·rw[if_pos hs,if_pos hs] at d
  rw[decide_eq_true hs]
  refine ZX0 f fun w' c a=>?_
  have hm:Mv F w F w':=⟨c.mono fun x _ i=>i▸h.foot,fun b g=> .inl g⟩
  simp(disch:=first|(simp only[push_cast];done)|omega) only[push_cast,a.ld1,x20]
  exact d _ ⟨h.err.mv hm,⟨bc,a,fun _ e=>by cases e⟩,h.foot,fun b g=>by have:=h.lt b g;have:=c.size;omega⟩ hm
 ·rw[if_neg hs,if_neg hs] at d
  rw[decide_eq_false hs]
  refine UZ ?_
  simp(disch:=first|(simp only[push_cast];done)|omega) only[push_cast,f.ld1,Ke]
  exact d _ h Mv.refl
abbrev Sm (x:Int):Prop:=x.natAbs≤1000
theorem bout {x y s:Int} {p:M.Bd Int} {a:M.Gs} (b:p.run n gs=if s=0 then none else some (a,s)) (c:p.Reach (-1)):M.Bd.Out n p (some gs) (if s=0 then none else some a) (if s=0 then-1 else s):=by
 by_cases hs:s=0
 ·rw[if_pos hs] at b;rw[if_pos hs,if_pos hs];exact .inr ⟨b,rfl,c⟩
 ·rw[if_neg hs] at b;rw[if_neg hs,if_neg hs];exact .inl ⟨a,b,rfl⟩
theorem jR {x y:Int} (h:BdR n bb ar ab X F w st) (k:Sm x) (l:Sm y)
  (j:∀w' F' st' r,BdR n bb ar ab X F' w' st'→Mv F w F' w'→Sm r→M.Bd.Out n (.and x y .ret) st st' r→K (.int .i64 r) w'):
  vcall PP yq #[.pointer (some ⟨bb,0,none⟩),.int .i64 x,.int .i64 y] w K:=by
 apply Vu
 obtain⟨bc,a,p⟩:=h.blk
 cases st with
 |none=>
  simp only at a
  simp(disch:=first|(simp only[push_cast];done)|omega) only[push_cast,a.ld1,x20]
  exact j _ _ none (-1) h Mv.refl (by decide) ⟨rfl,-1,rfl⟩
 |some gs=>
  simp only at a
  obtain⟨v,mb,c,b,hF⟩:=p gs rfl
  simp(disch:=first|(simp only[push_cast];done)|omega) only[push_cast,a.ld0,a.ld1,Ke]
  refine cand_spec c k l fun s v1 d i g=>?_
  obtain⟨m,e⟩:=h.pre a b hF d i g
  have q:=kU0 (n:=n) c.few.1 c.few.2 k l
  refine made_spec m fun t o f=>j _ _ _ _ o (e.trans f) ?_ (bout (x:=x) (y:=y) rfl ⟨-1,rfl⟩)
  split
  ·decide
  ·exact q
theorem Qw {x y:Int} (h:BdR n bb ar ab X F w st) (k:Sm x) (l:Sm y)
  (j:∀w' F' st' r,BdR n bb ar ab X F' w' st'→Mv F w F' w'→Sm r→M.Bd.Out n (.xor x y .ret) st st' r→K (.int .i64 r) w'):
  vcall PP xh #[.pointer (some ⟨bb,0,none⟩),.int .i64 x,.int .i64 y] w K:=by
 apply Vp
 obtain⟨bc,a,p⟩:=h.blk
 cases st with
 |none=>
  simp only at a
  simp(disch:=first|(simp only[push_cast];done)|omega) only[push_cast,a.ld1,x20]
  exact j _ _ none (-1) h Mv.refl (by decide) ⟨rfl,-1,rfl⟩
 |some gs=>
  simp only at a
  obtain⟨v,mb,c,b,hF⟩:=p gs rfl
  simp(disch:=first|(simp only[push_cast];done)|omega) only[push_cast,a.ld0,a.ld1,Ke]
  refine cxor_spec c k l fun s v1 d i g=>?_
  obtain⟨m,e⟩:=h.pre a b hF d i g
  have q:=jY0 (n:=n) c.few.1 c.few.2 k l
  refine made_spec m fun t o f=>j _ _ _ _ o (e.trans f) ?_ (bout (x:=x) (y:=y) rfl ⟨-1,rfl⟩)
  split
  ·decide
  ·exact q
theorem qd {α:Type} {x y r:Int} {k:Int→M.Bd α} {a:α} {st st' b:Option M.Gs} (h:M.Bd.Out n (.and x y .ret) st st' r) (c:M.Bd.Out n (k r) st' b a):M.Bd.Out n (.and x y k) st b a:=M.Bd.Out.bind (f:=k) h c
theorem Y1 {α:Type} {x y r:Int} {k:Int→M.Bd α} {a:α} {st st' b:Option M.Gs} (h:M.Bd.Out n (.xor x y .ret) st st' r) (c:M.Bd.Out n (k r) st' b a):M.Bd.Out n (.xor x y k) st b a:=M.Bd.Out.bind (f:=k) h c
theorem bor_spec {x y:Int} (h:BdR n bb ar ab X F w st) (i:Sm x) (j:Sm y)
  (d:∀w' F' st' r,BdR n bb ar ab X F' w' st'→Mv F w F' w'→Sm r→M.Bd.Out n (M.orB x y) st st' r→K (.int .i64 r) w'):
  vcall PP xR #[.pointer (some ⟨bb,0,none⟩),.int .i64 x,.int .i64 y] w K:=by
 apply Wu
 simp(disch:=omega) only[push_cast,zH,Int.zero_sub]
 refine jR h (by unfold Sm at*;omega) (by unfold Sm at*;omega) fun l g f k c a e b=>?_
 simp(disch:=omega) only[push_cast,zH,Int.zero_sub]
 exact d _ _ _ _ c a (by unfold Sm at*;omega) (qd b (M.Bd.Out.ret _ _))
theorem bmux_spec {c x y:Int} (h:BdR n bb ar ab X F w st) (q:Sm c) (s:Sm x) (t:Sm y)
  (p:∀w' F' st' r,BdR n bb ar ab X F' w' st'→Mv F w F' w'→Sm r→M.Bd.Out n (M.muxB c x y) st st' r→K (.int .i64 r) w'):
  vcall PP yK #[.pointer (some ⟨bb,0,none⟩),.int .i64 c,.int .i64 x,.int .i64 y] w K:=by
 apply Vr
 refine jR h q s fun G z u C l a i e=>?_
 simp(disch:=omega) only[push_cast,zH,Int.zero_sub]
 refine jR l (by unfold Sm at*;omega) t fun H A st2 D m b j f=>?_
 refine bor_spec m i j fun I B v E o d k g=>?_
 exact p _ _ _ _ o (a.trans (b.trans d)) k (qd e (qd f g))
end Go.Proofs.YtaekfnbnhjgboaaGreatDoor
end
