import Derived.Test.YtaekfnbnhjgboaaGreatDoorWueP8
import Derived.Test.YtaekfnbnhjgboaaGreatDoorWueP11
import Derived.Test.YtaekfnbnhjgboaaGreatDoorWueP9
import Derived.Test.YtaekfnbnhjgboaaGreatDoorWueP5
import Derived.Test.YtaekfnbnhjgboaaGreatDoorWueP7
/- A part of the proof. -/
set_option linter.unusedVariables false
set_option linter.unusedSimpArgs false
set_option linter.unnecessarySimpa false
set_option linter.unusedSectionVars false
section
namespace Go.M
def allI (n:Nat) (p:Nat→Bool):Bool:=(List.range n).all p
theorem Yy0 {n:Nat} {p:Nat→Bool} (h:∀k,k<n→p k=true):allI n p=true:=by
 unfold allI;rw[List.all_eq_true];intro k a;exact h k (List.mem_range.1 a)
theorem xK0 {n k:Nat} {p:Nat→Bool} (a:k<n) (h:p k=false):allI n p=false:=by
 unfold allI;rw[List.all_eq_false];exact⟨k,List.mem_range.2 a,by simp[h]⟩
theorem allI_iff {n:Nat} {p:Nat→Bool}:allI n p=true↔ ∀k,k<n→p k=true:=by
 unfold allI;rw[List.all_eq_true];simp only[List.mem_range]
def litOk (m l:Int):Bool:=decide (l≠0∧ -m≤l∧l≤m)
def clauseOk (m:Int) (xs:List Int):Bool:=allI xs.length fun k=>litOk m (xs.getD k 0)&&(k==0||decide ((xs.getD (k-1) 0).natAbs<(xs.getD k 0).natAbs))
structure Cnf where
 many:Int
 list:List (List Int)
structure Sat where
 put:List Int
 why:List Int
 learned:List (List Int)
 code:Int
def cnfOk (c:Cnf):Bool:=decide (0≤c.many)&&decide (c.many≤700)&&decide (c.list.length≤2500)&&allI c.list.length fun k=>clauseOk c.many (c.list.getD k [])
def placeOf (put:List Int) (v:Nat):Nat:=match(List.range put.length).find? (fun i=>(put.getD i 0).natAbs==v) with|some i=>i+1 |none=>0
theorem find_range_some {n i:Nat} {p:Nat→Bool} (hi:i<n) (c:p i=true) (b:∀j,j<i→p j=false):(List.range n).find? p=some i:=by
 rw[List.find?_eq_some_iff_append]
 refine⟨c,List.range i,(List.range' (i+1) (n-(i+1))),?_,fun j a=>by simp[b j (List.mem_range.1 a)]⟩
 rw[List.range_eq_range',List.range_eq_range',show n=i+(n-(i+1)+1) from by omega,←List.range'_append_1,List.range'_succ]
 simp
 omega
theorem jb0 {put:List Int} {v:Nat} (h:∀l,l∈put→l.natAbs≠v):placeOf put v=0:=by
 unfold placeOf
 have:(List.range put.length).find? (fun i=>(put.getD i 0).natAbs==v)=none:=by
  rw[List.find?_eq_none]
  intro j b
  have a:=List.mem_range.1 b
  have:put.getD j 0∈put:=by rw[List.getD_eq_getElem?_getD,List.getElem?_eq_getElem a];exact List.getElem_mem a
  have:=h _ this
  simpa using this
 rw[this]
theorem ZY {put:List Int} {v:Nat} (h:placeOf put v≠0):placeOf put v≤put.length∧(put.getD (placeOf put v-1) 0).natAbs=v:=by
 unfold placeOf at*
 cases a:(List.range put.length).find? (fun i=>(put.getD i 0).natAbs==v) with
 |none=>rw[a] at h;exact absurd rfl h
 |some i=>
  have b:=List.find?_some a
  have c:=List.mem_range.1 (List.mem_of_find?_eq_some a)
  simp only[Nat.add_sub_cancel]
  exact⟨c,by simpa using b⟩
def Distinct (put:List Int):Prop:=(put.map Int.natAbs).Nodup
theorem Qh {put:List Int} {i:Nat} (hi:i<put.length):put.getD i 0∈put:=by
 rw[List.getD_eq_getElem?_getD,List.getElem?_eq_getElem hi];exact List.getElem_mem hi
theorem placeOf_at {put:List Int} (c:Distinct put) {i:Nat} (hi:i<put.length):placeOf put (put.getD i 0).natAbs=i+1:=by
 unfold placeOf
 rw[find_range_some hi (by simp) ?_]
 intro j d
 have a:(put.map Int.natAbs)[j]'(by simp;omega)≠(put.map Int.natAbs)[i]'(by simp;omega):=List.pairwise_iff_getElem.1 c j i _ _ d
 have b:j<put.length:=by omega
 simp only[List.getElem_map] at a
 simp[List.getD_eq_getElem?_getD,hi,b,a]
theorem placeOf_snoc {put:List Int} {l:Int} (h:∀x,x∈put→x.natAbs≠l.natAbs) (v:Nat):placeOf (put++[l]) v=if v=l.natAbs then put.length+1 else placeOf put v:=by
 by_cases d:v=l.natAbs
 ·rw[if_pos d]
  unfold placeOf
  rw[find_range_some (i:=put.length) (by simp) (by simp[d]) ?_]
  intro j f
  have:=h _ (Qh f)
  simp only[List.getD_eq_getElem?_getD,List.getElem?_append_left f] at this⊢
  simp[d,this]
 ·rw[if_neg d]
  by_cases b:placeOf put v=0
  ·rw[b]
   refine jb0 fun x g=>?_
   rw[List.mem_append,List.mem_singleton] at g
   rcases g with g|rfl
   ·intro e
    obtain⟨i,hi,rfl⟩:=List.getElem_of_mem g
    unfold placeOf at b
    cases a:(List.range put.length).find? (fun i=>(put.getD i 0).natAbs==v) with
    |none=>
     rw[List.find?_eq_none] at a
     have:=a i (List.mem_range.2 hi)
     simp[List.getD_eq_getElem?_getD,hi,e] at this
    |some k=>rw[a] at b;cases b
   ·exact fun e=>d e.symm
  ·unfold placeOf at b⊢
   cases a:(List.range put.length).find? (fun i=>(put.getD i 0).natAbs==v) with
   |none=>rw[a] at b;exact absurd rfl b
   |some k=>
    rw[List.find?_eq_some_iff_getElem] at a
    obtain⟨o,i,hi,c,n⟩:=a
    simp only[List.getElem_range] at c
    subst c
    simp only[List.length_range] at hi
    rw[find_range_some (i:=i) (by simp;omega) ?_ ?_]
    ·simpa[List.getD_eq_getElem?_getD,List.getElem?_append_left hi] using o
    ·intro j f
     have:=n j f
     simp only[List.getElem_range] at this
     have m:j<put.length:=by omega
     simpa[List.getD_eq_getElem?_getD,List.getElem?_append_left m] using this
end Go.M
namespace Go.M
def lookM (put:List Int):List Int→Nat→Int→Bool×Nat×Int
 |[],n,x=>(false,n,x)
 |l::r,n,x=>if l∈put then(true,0,0) else if placeOf put l.natAbs=0 then lookM put r (n+1) l else lookM put r n x
theorem Y20 (put:List Int) (n:Nat) (x:Int):lookM put [] n x=(false,n,x):=rfl
theorem xG0 (put:List Int) (l:Int) (r:List Int) (n:Nat) (x:Int):lookM put (l::r) n x=if l∈put then(true,0,0) else if placeOf put l.natAbs=0 then lookM put r (n+1) l else lookM put r n x:=rfl
def findM (put:List Int):List (List Int)→Int→Int→Int→Int×Int×Int
 |[],_,u,x=>(-1,u,x)
 |c::r,k,u,x=>
  match lookM put c 0 0 with
  |(true,_,_)=>findM put r (k+1) u x
  |(false,0,_)=>(k,u,x)
  |(false,1,l)=>if u<0 then findM put r (k+1) k l else findM put r (k+1) u x
  |(false,_,_)=>findM put r (k+1) u x
theorem findM_cons (put:List Int) (c:List Int) (r:List (List Int)) (k u x:Int):findM put (c::r) k u x=
  if(lookM put c 0 0).1=true then findM put r (k+1) u x else if(lookM put c 0 0).2.1=0 then(k,u,x) else
  if(lookM put c 0 0).2.1=1 then(if u<0 then findM put r (k+1) k (lookM put c 0 0).2.2 else findM put r (k+1) u x) else findM put r (k+1) u x:=by
 rw[findM]
 generalize lookM put c 0 0=z
 obtain⟨b,n,l⟩:=z
 cases b with
 |true=>simp
 |false=>
  match n with
  |0=>simp
  |1=>simp
  |n+2=>simp
def Zb (many:Nat) (put:List Int):List Int:=(List.range (many+1)).map fun v=>(placeOf put v:Int)
theorem U8 (many:Nat) (put:List Int):(Zb many put).length=many+1:=by simp[Zb]
theorem places_get {many:Nat} {put:List Int} {v:Nat} (h:v≤many):(Zb many put).getD v 0=placeOf put v:=by
 simp[Zb,List.getD_eq_getElem?_getD,show v<many+1 by omega]
theorem placeOf_le (put:List Int) (v:Nat):placeOf put v≤put.length:=by
 by_cases h:placeOf put v=0
 ·omega
 ·exact(ZY h).1
theorem xi {put:List Int} {l:Int} (h:l∈put):placeOf put l.natAbs≠0:=by
 obtain⟨i,hi,rfl⟩:=List.getElem_of_mem h
 intro e
 unfold placeOf at e
 cases a:(List.range put.length).find? (fun j=>(put.getD j 0).natAbs==(put[i]).natAbs) with
 |none=>
  rw[List.find?_eq_none] at a
  have:=a i (List.mem_range.2 hi)
  simp[List.getD_eq_getElem?_getD,hi] at this
 |some k=>rw[a] at e;cases e
theorem mem_iff_place {put:List Int} (c:Distinct put) {l:Int}:l∈put↔placeOf put l.natAbs≠0∧put.getD (placeOf put l.natAbs-1) 0=l:=by
 constructor
 ·intro h
  refine⟨xi h,?_⟩
  obtain⟨i,hi,rfl⟩:=List.getElem_of_mem h
  have:=placeOf_at c hi
  simp only[List.getD_eq_getElem?_getD,List.getElem?_eq_getElem hi,Option.getD_some] at this⊢
  rw[this];simp[hi]
 ·rintro⟨a,b⟩
  rw[←b]
  have:=(ZY a).1
  exact Qh (by omega)
theorem yh0 {α:Type} {d:α} {xs:List α} {i:Nat} (h:i<xs.length):xs.drop i=xs.getD i d::xs.drop (i+1):=by
 rw[List.drop_eq_getElem_cons h];simp[List.getD_eq_getElem?_getD,h]
theorem xI0 {α:Type} {a b:List α} {d:α} {k:Nat} (h:k<a.length):(a++b).getD k d=a.getD k d:=by
 simp[List.getD_eq_getElem?_getD,List.getElem?_append_left h]
theorem kj0 (v:Nat):placeOf [] v=0:=rfl
theorem Z50 (many:Nat):Zb many []=List.replicate (many+1) 0:=by
 refine List.ext_getElem (by simp[Zb]) fun i a b=>?_
 simp[Zb,kj0]
theorem ki0 {many:Nat} {put:List Int} {l:Int} (h:placeOf put l.natAbs=0):Zb many (put++[l])=(Zb many put).set l.natAbs (put.length+1:Nat):=by
 refine List.ext_getElem (by simp[Zb]) fun i b d=>?_
 simp only[Zb,List.length_map,List.length_range] at b
 rw[List.getElem_set]
 simp only[Zb,List.getElem_map,List.getElem_range]
 have a:∀x,x∈put→x.natAbs≠l.natAbs:=fun x c e=>xi c (by rw[e];exact h)
 rw[placeOf_snoc a]
 by_cases hi:i=l.natAbs
 ·rw[if_pos hi,if_pos hi.symm]
 ·rw[if_neg hi,if_neg (fun e=>hi e.symm)]
theorem distinct_snoc {put:List Int} {l:Int} (f:Distinct put) (h:placeOf put l.natAbs=0):Distinct (put++[l]):=by
 unfold Distinct
 rw[List.map_append,List.nodup_append]
 refine⟨f,by simp,?_⟩
 intro a d b c e
 obtain⟨x,g,rfl⟩:=List.mem_map.1 d
 simp only[List.map_cons,List.map_nil,List.mem_singleton] at c
 exact xi g (by rw[e,c];exact h)
theorem qp0 {put:List Int} (a:Distinct put) (n:Nat):Distinct (put.take n):=by
 unfold Distinct at*
 rw[List.map_take]
 exact a.sublist (List.take_sublist _ _)
theorem clauseOk_lit {m:Int} {xs:List Int} (h:clauseOk m xs=true) {x:Int} (c:x∈xs):x≠0∧ -m≤x∧x≤m:=by
 obtain⟨k,b,rfl⟩:=List.getElem_of_mem c
 have:=allI_iff.1 h k b
 rw[Bool.and_eq_true] at this
 have a:=this.1
 simp only[litOk,decide_eq_true_eq,List.getD_eq_getElem?_getD,List.getElem?_eq_getElem b,Option.getD_some] at a
 exact a
def lvl (ds:List Bool) (i:Nat):Nat:=(ds.take (i+1)).count true
def Yc (ds:List Bool):List Int:=(List.range ds.length).map fun i=>(lvl ds i:Int)
theorem Z80 (ds:List Bool):(Yc ds).length=ds.length:=by simp[Yc]
theorem Z90 {ds:List Bool} {i:Nat} (h:i<ds.length):(Yc ds).getD i 0=lvl ds i:=by simp[Yc,List.getD_eq_getElem?_getD,h]
theorem ZZ0 {ds:List Bool} {i:Nat} (h:ds.length≤i+1):lvl ds i=ds.count true:=by unfold lvl;rw[List.take_of_length_le h]
theorem levels_snoc (ds:List Bool) (d:Bool):Yc (ds++[d])=Yc ds++[((ds.count true+d.toNat:Nat):Int)]:=by
 refine List.ext_getElem (by simp[Yc]) fun i a b=>?_
 simp only[Yc,List.length_map,List.length_range,List.length_append,List.length_singleton] at a
 by_cases hi:i<ds.length
 ·rw[List.getElem_append_left (by simpa[Yc] using hi)]
  simp only[Yc,List.getElem_map,List.getElem_range,lvl]
  rw[List.take_append_of_le_length (by omega)]
 ·rw[List.getElem_append_right (by simpa[Yc] using hi)]
  simp only[Yc,List.getElem_map,List.getElem_range,List.getElem_singleton]
  rw[ZZ0 (by simp;omega),List.count_append]
  cases d<;>simp
def marksOk (many:Nat) (put:List Int):Prop:=Distinct put∧∀x,x∈put→x≠0∧x.natAbs≤many
end Go.M
namespace Go.M
theorem kn0 {put:List Int} (b:Distinct put) {x y:Int} (d:x∈put) (e:y∈put) (h:x.natAbs=y.natAbs):x=y:=by
 have a:=(mem_iff_place b).1 d
 have c:=(mem_iff_place b).1 e
 rw[h] at a
 rw[←a.2,c.2]
theorem false_of {put:List Int} {l:Int} (a:placeOf put l.natAbs≠0) (b:l∉put): -l∈put:=by
 obtain⟨hle,he⟩:=ZY a
 have hm:put.getD (placeOf put l.natAbs-1) 0∈put:=Qh (by omega)
 generalize put.getD (placeOf put l.natAbs-1) 0=y at he hm
 have:y=l∨y= -l:=by omega
 rcases this with e|e
 ·exact absurd (e▸hm) b
 ·exact e▸hm
end Go.M
namespace Go.M
def clashC (put cl:List Int):Prop:=∀l,l∈cl→l∉put∧placeOf put l.natAbs≠0
theorem lookM_spec (put:List Int):∀(cl:List Int) (n:Nat) (x:Int),((∃l,l∈cl∧l∈put)∧lookM put cl n x=(true,0,0))∨
  ((∀l,l∈cl→l∉put)∧∃y,lookM put cl n x=(false,n+(cl.filter fun l=>decide (placeOf put l.natAbs=0)).length,y)∧(y=x∧(cl.filter fun l=>decide (placeOf put l.natAbs=0))=[]∨y∈cl∧placeOf put y.natAbs=0))
 |[],n,x=> .inr ⟨by simp,x,by simp[Y20],.inl ⟨rfl,rfl⟩⟩
 |l::r,n,x=>by
  rw[xG0]
  by_cases c:l∈put
  ·rw[if_pos c];exact .inl ⟨⟨l,List.mem_cons_self,c⟩,rfl⟩
  rw[if_neg c]
  by_cases d:placeOf put l.natAbs=0
  ·rw[if_pos d]
   rcases lookM_spec put r (n+1) l with⟨⟨q,b,g⟩,e⟩|⟨f,y,e,a⟩
   ·exact .inl ⟨⟨q,List.mem_cons_of_mem _ b,g⟩,e⟩
   ·refine .inr ⟨fun q b=>(List.mem_cons.1 b).elim (fun e=>e▸c) (f q),y,?_,?_⟩
    ·rw[e,List.filter_cons_of_pos (by simpa using d),List.length_cons,Nat.add_assoc,Nat.add_comm 1]
    ·rcases a with⟨rfl,-⟩|⟨a,h⟩
     ·exact .inr ⟨List.mem_cons_self,d⟩
     ·exact .inr ⟨List.mem_cons_of_mem _ a,h⟩
  ·rw[if_neg d]
   rcases lookM_spec put r n x with⟨⟨q,b,g⟩,e⟩|⟨f,y,e,a⟩
   ·exact .inl ⟨⟨q,List.mem_cons_of_mem _ b,g⟩,e⟩
   ·have i:((l::r).filter fun l=>decide (placeOf put l.natAbs=0))=r.filter fun l=>decide (placeOf put l.natAbs=0):=List.filter_cons_of_neg (by simpa using d)
    refine .inr ⟨fun q b=>(List.mem_cons.1 b).elim (fun e=>e▸c) (f q),y,by rw[i];exact e,?_⟩
    rw[i]
    rcases a with a|⟨a,h⟩
    ·exact .inl a
    ·exact .inr ⟨List.mem_cons_of_mem _ a,h⟩
def unitC (put cl:List Int) (x:Int):Prop:=(∀l,l∈cl→l∉put)∧(cl.filter fun l=>decide (placeOf put l.natAbs=0))=[x]
theorem look_clash {put cl:List Int}:clashC put cl↔(lookM put cl 0 0).1=false∧(lookM put cl 0 0).2.1=0:=by
 rcases lookM_spec put cl 0 0 with⟨⟨l,a,c⟩,e⟩|⟨b,y,e,-⟩
 ·rw[e];exact⟨fun h=>absurd c (h l a).1,fun h=>by cases h.1⟩
 ·rw[e]
  simp only[Nat.zero_add,List.length_eq_zero_iff,true_and]
  rw[List.filter_eq_nil_iff]
  exact⟨fun h l a=>by have:=(h l a).2;simpa using this,fun h l a=>⟨b l a,by have:=h l a;simpa using this⟩⟩
theorem Ja0 {put cl:List Int} {x:Int}:unitC put cl x↔lookM put cl 0 0=(false,1,x):=by
 rcases lookM_spec put cl 0 0 with⟨⟨l,g,j⟩,e⟩|⟨i,y,e,a⟩
 ·rw[e];exact⟨fun h=>absurd j (h.1 l g),fun h=>by cases h⟩
 ·rw[e]
  constructor
  ·rintro⟨_,h⟩
   rw[h] at a
   rcases a with⟨_,c⟩|⟨a,b⟩
   ·cases c
   ·have:y∈cl.filter fun l=>decide (placeOf put l.natAbs=0):=by rw[List.mem_filter];exact⟨a,by simpa using b⟩
    rw[h,List.mem_singleton] at this
    subst this;rw[h];rfl
  ·intro h
   simp only[Prod.mk.injEq,true_and,Nat.zero_add] at h
   obtain⟨f,rfl⟩:=h
   refine⟨i,?_⟩
   obtain⟨z,b⟩:=List.length_eq_one_iff.1 f
   rw[b] at a⊢
   rcases a with⟨_,c⟩|⟨a,d⟩
   ·cases c
   ·have:y∈cl.filter fun l=>decide (placeOf put l.natAbs=0):=by rw[List.mem_filter];exact⟨a,by simpa using d⟩
    rw[b,List.mem_singleton] at this
    rw[this]
def FindP (put:List Int) (L:List (List Int)) (k0 u0 x0:Int) (r:Int×Int×Int):Prop:=
 (∃i,i<L.length∧r.1=k0+(i:Nat)∧clashC put (L.getD i []))∨
  (r.1= -1∧(∀cl,cl∈L→¬clashC put cl)∧((0≤u0∧r.2=(u0,x0))∨
   (u0<0∧((∃i,i<L.length∧r.2.1=k0+(i:Nat)∧unitC put (L.getD i []) r.2.2∧∀j,j<i→∀x,¬unitC put (L.getD j []) x)∨
    (r.2=(u0,x0)∧∀cl,cl∈L→∀x,¬unitC put cl x)))))
theorem FindP.skip {put cl:List Int} {L:List (List Int)} {k0 l n:Int} {r:Int×Int×Int} (p: ¬clashC put cl) (hu:0≤l∨ ∀x,¬unitC put cl x) (h:FindP put L (k0+1) l n r):FindP put (cl::L) k0 l n r:=by
 rcases h with⟨i,hi,d,f⟩|⟨d,f,b⟩
 ·exact .inl ⟨i+1,by simpa using hi,by rw[d];omega,by simpa using f⟩
 ·refine .inr ⟨d,fun c a=>(List.mem_cons.1 a).elim (fun e=>e▸p) (f c),?_⟩
  rcases b with b|⟨m,b⟩
  ·exact .inl b
  have hu:∀x,¬unitC put cl x:=hu.elim (fun h=>absurd h (by omega)) id
  rcases b with⟨i,hi,g,k,o⟩|⟨g,k⟩
  ·refine .inr ⟨m,.inl ⟨i+1,by simpa using hi,by rw[g];omega,by simpa using k,fun j q x=>?_⟩⟩
   cases j with
   |zero=>simpa using hu x
   |succ j=>simpa using o j (by omega) x
  ·exact .inr ⟨m,.inr ⟨g,fun c a=>(List.mem_cons.1 a).elim (fun e=>e▸hu) (k c)⟩⟩
theorem findM_spec (put:List Int):∀(L:List (List Int)) (k0 a g:Int),0≤k0→FindP put L k0 a g (findM put L k0 a g)
 |[],k0,a,g,_=>by
  refine .inr ⟨rfl,by simp,?_⟩
  by_cases h:0≤a
  ·exact .inl ⟨h,rfl⟩
  ·exact .inr ⟨by omega,.inr ⟨rfl,by simp⟩⟩
 |cl::L,k0,a,g,r=>by
  rw[findM_cons]
  by_cases f:(lookM put cl 0 0).1=true
  ·rw[if_pos f]
   refine FindP.skip (fun h=>?_) (.inr fun x h=>?_) (findM_spec put L (k0+1) a g (by omega))
   ·rw[(look_clash.1 h).1] at f;cases f
   ·rw[Ja0.1 h] at f;cases f
  rw[if_neg f]
  have k:(lookM put cl 0 0).1=false:=by simpa using f
  by_cases l:(lookM put cl 0 0).2.1=0
  ·rw[if_pos l]
   exact .inl ⟨0,by simp,by simp,by simpa using look_clash.2 ⟨k,l⟩⟩
  rw[if_neg l]
  have d: ¬clashC put cl:=fun h=>l (look_clash.1 h).2
  by_cases m:(lookM put cl 0 0).2.1=1
  ·rw[if_pos m]
   have q:unitC put cl (lookM put cl 0 0).2.2:=Ja0.2 (by rw[←k,←m])
   by_cases hu:a<0
   ·rw[if_pos hu]
    rcases findM_spec put L (k0+1) k0 (lookM put cl 0 0).2.2 (by omega) with⟨i,hi,n,o⟩|⟨n,o,b⟩
    ·exact .inl ⟨i+1,by simpa using hi,by rw[n];omega,by simpa using o⟩
    ·refine .inr ⟨n,fun c p=>(List.mem_cons.1 p).elim (fun e=>e▸d) (o c),.inr ⟨hu,.inl ⟨0,by simp,?_,?_,fun j s=>by omega⟩⟩⟩
     ·rcases b with⟨_,b⟩|⟨b,_⟩
      ·rw[b];simp
      ·omega
     ·rcases b with⟨_,b⟩|⟨b,_⟩
      ·rw[b];simpa using q
      ·omega
   ·rw[if_neg hu]
    exact FindP.skip d (.inl (by omega)) (findM_spec put L (k0+1) a g (by omega))
  ·rw[if_neg m]
   refine FindP.skip d (.inr fun x h=>m ?_) (findM_spec put L (k0+1) a g (by omega))
   rw[Ja0.1 h]
theorem find_cases (put:List Int) (L:List (List Int)):(∃(i:Nat) (u x:Int),i<L.length∧findM put L 0 (-1) 0=((i:Int),u,x)∧clashC put (L.getD i []))∨
  ((∀cl,cl∈L→¬clashC put cl)∧((∃(i:Nat) (x:Int),i<L.length∧findM put L 0 (-1) 0=(-1,(i:Int),x)∧unitC put (L.getD i []) x∧∀j,j<i→∀x,¬unitC put (L.getD j []) x)∨
   (findM put L 0 (-1) 0=(-1,-1,0)∧∀cl,cl∈L→∀x,¬unitC put cl x))):=by
 have h:=findM_spec put L 0 (-1) 0 (by omega)
 generalize findM put L 0 (-1) 0=z at h
 obtain⟨k,u,x⟩:=z
 rcases h with⟨i,hi,b,d⟩|⟨b,d,c⟩
 ·exact .inl ⟨i,u,x,hi,by simp at b;rw[b],d⟩
 ·refine .inr ⟨d,?_⟩
  simp only at b
  subst b
  rcases c with⟨c,_⟩|⟨_,c⟩
  ·omega
  rcases c with⟨i,hi,a,e,f⟩|⟨a,e⟩
  ·exact .inl ⟨i,x,hi,by simp at a;rw[a],e,f⟩
  ·simp only[Prod.mk.injEq] at a
   exact .inr ⟨by rw[a.1,a.2],e⟩
end Go.M
namespace Go.M
theorem marksOk.zero {many:Nat} {put:List Int} (h:marksOk many put):(0:Int)∉put:=fun e=>(h.2 0 e).1 rfl
theorem marksOk.neg {many:Nat} {put:List Int} (h:marksOk many put) {l:Int} (a:l∈put): -l∉put:=fun b=>by
 have:=kn0 h.1 a b (by omega)
 have e:l=0:=by omega
 subst e;exact h.zero a
theorem marksOk.snoc {many:Nat} {put:List Int} (h:marksOk many put) {l:Int} (b:l≠0) (c:l.natAbs≤many) (d:placeOf put l.natAbs=0):marksOk many (put++[l]):=
 ⟨distinct_snoc h.1 d,fun x a=>by
  rcases List.mem_append.1 a with a|a
  ·exact h.2 x a
  ·rw[List.mem_singleton] at a;subst a;exact⟨b,c⟩⟩
theorem marksOk.len {many:Nat} {put:List Int} (h:marksOk many put):put.length≤many:=by
 have:=h.1.length_le_of_subset (l₂:=List.range' 1 many) fun x a=>by
  obtain⟨y,b,rfl⟩:=List.mem_map.1 a
  have:=h.2 y b
  rw[List.mem_range'_1];omega
 simpa using this
theorem cnfOk_clause {c:Cnf} (h:cnfOk c=true) {x:List Int} (a:x∈c.list):clauseOk c.many x=true:=by
 unfold cnfOk at h
 rw[Bool.and_eq_true] at h
 obtain⟨i,hi,rfl⟩:=List.getElem_of_mem a
 have:=allI_iff.1 h.2 i hi
 simpa[List.getD_eq_getElem?_getD,hi] using this
end Go.M
namespace Go.M
end Go.M
namespace Go.M
end Go.M
end
section
namespace Go.M
def litT (v:Nat→Bool) (l:Int):Bool:=if 0<l then v l.natAbs else !v l.natAbs
def clT (v:Nat→Bool) (cl:List Int):Prop:= ∃l,l∈cl∧litT v l=true
def cnfT (v:Nat→Bool) (c:Cnf):Prop:=∀cl,cl∈c.list→clT v cl
theorem litT_neg {v:Nat→Bool} {l:Int} (h:l≠0):litT v (-l)= !litT v l:=by
 unfold litT
 rw[Int.natAbs_neg]
 by_cases a:0<l
 ·rw[if_neg (by omega),if_pos a]
 ·rw[if_pos (by omega),if_neg a,Bool.not_not]
variable {many:Nat} {c:Cnf} {s:Sat} {v:Nat→Bool}
def Qd0 (put:List Int) (u:Nat):Bool:=decide ((u:Int)∈put)
theorem wayM_true {put:List Int} (h:marksOk many put) {l:Int} (a:l∈put):litT (Qd0 put) l=true:=by
 unfold litT Qd0
 have c:=(h.2 l a).1
 by_cases b:0<l
 ·rw[if_pos b,show((l.natAbs:Nat):Int)=l by omega];simpa using a
 ·rw[if_neg b,show((l.natAbs:Nat):Int)= -l by omega]
  have:=h.neg a
  simpa using this
end Go.M
namespace Go.M
variable {many n:Nat} {c:Cnf} {s:Sat} {cl:List Int} {p:Int}
end Go.M
namespace Go.M
variable {many:Nat} {c:Cnf} {a b v:Nat→Bool}
end Go.M
end
section
namespace Go.M
def gateC (k:Int) (g:Gt):List (List Int):=if g.x then[[g.a,g.b,-k],[-g.a,-g.b,-k],[-g.a,g.b,k],[g.a,-g.b,k]] else[[g.a,-k],[g.b,-k],[-g.a,-g.b,k]]
def gatesC (n:Nat):Gs→Nat→List (List Int)
 |[],_=>[]
 |g::gs,i=>gateC (2+n+i) g++gatesC n gs (i+1)
def netC (n:Nat) (gs:Gs) (xs:List (List Int)):Cnf:=⟨1+n+gs.length,[1]::(gatesC n gs 0++xs)⟩
theorem clT_cons {v:Nat→Bool} {l:Int} {cl:List Int}:clT v (l::cl)↔litT v l=true∨clT v cl:=by
 unfold clT;simp only[List.mem_cons,exists_eq_or_imp]
theorem ko0 {v:Nat→Bool}:clT v []↔False:=by unfold clT;simp
theorem gate_says {v:Nat→Bool} {g:Gt} {k:Int} (c:g.a≠0) (d:g.b≠0) (e:k≠0):(∀cl,cl∈gateC k g→clT v cl)↔litT v k=(if g.x then litT v g.a != litT v g.b else litT v g.a&&litT v g.b):=by
 unfold gateC
 cases g.x
 ·simp only[Bool.false_eq_true,if_false,List.forall_mem_cons,clT_cons,ko0,litT_neg c,litT_neg d,litT_neg e]
  cases litT v g.a<;>cases litT v g.b<;>cases litT v k<;>simp
 ·simp only[if_true,List.forall_mem_cons,clT_cons,ko0,litT_neg c,litT_neg d,litT_neg e]
  cases litT v g.a<;>cases litT v g.b<;>cases litT v k<;>simp
theorem mem_gates {n:Nat} {cl:List Int}:∀{gs:Gs} {i0:Nat},cl∈gatesC n gs i0↔ ∃i,∃h:i<gs.length,cl∈gateC (2+n+(i0+i:Nat)) gs[i]
 |[],i0=>by simp[gatesC]
 |g::gs,i0=>by
  simp only[gatesC,List.mem_append,mem_gates (gs:=gs)]
  constructor
  ·rintro(h|⟨i,hi,h⟩)
   ·exact⟨0,by simp,by simpa using h⟩
   ·refine⟨i+1,by simpa using hi,?_⟩
    rw[show i0+(i+1)=i0+1+i by omega];simpa using h
  ·rintro⟨i,hi,h⟩
   cases i with
   |zero=>exact .inl (by simpa using h)
   |succ i=>
    refine .inr ⟨i,by simpa using hi,?_⟩
    rw[show i0+1+i=i0+(i+1) by omega];simpa using h
theorem absI_nat (a:Int):absI a=(a.natAbs:Int):=by unfold absI;split<;>omega
theorem gate_nz {n k:Nat} {g:Gt} (h:UO n k g):g.a≠0∧g.b≠0:=by
 obtain⟨d,c,e,f⟩:=h
 rw[absI_nat] at d c;rw[absI_nat] at c
 omega
theorem lit_eq {v:Nat→Bool} {vals:List Bool} {m:Int} (b:m≠0) (h:v m.natAbs=vals.getD (m.natAbs-1) false):litT v m=Zn vals m:=by
 unfold litT Zn
 rw[h]
 by_cases a:0<m
 ·rw[if_pos a,if_pos a,show m.natAbs-1=(m-1).toNat by omega]
 ·rw[if_neg a,if_neg a,show m.natAbs-1=(-m-1).toNat by omega]
def insV (v:Nat→Bool) (n:Nat):List Bool:=(List.range n).map fun i=>v (i+2)
theorem insV_len (v:Nat→Bool) (n:Nat):(insV v n).length=n:=by unfold insV;rw[List.length_map,List.length_range]
theorem insV_get {v:Nat→Bool} {n i:Nat} (h:i<n):(insV v n).getD i false=v (i+2):=by
 unfold insV;rw[List.getD_eq_getElem?_getD,List.getElem?_map,List.getElem?_range h];rfl
theorem kG0 {α:Type} {a b:List α} {i:Nat} {d:α} (h:a<+:b) (hi:i<a.length):b.getD i d=a.getD i d:=by
 obtain⟨t,rfl⟩:=h
 rw[List.getD_eq_getElem?_getD,List.getElem?_append_left hi,←List.getD_eq_getElem?_getD]
theorem xU0 {ins:List Bool} {gs:Gs} {i:Nat} (hi:i<ins.length):(valsG (true::ins) gs).getD (i+1) false=ins.getD i false:=by
 rw[kG0 (valsG_pre gs (true::ins)) (by simpa using hi),List.getD_cons_succ]
theorem VX {ins:List Bool} {gs:Gs}:(valsG (true::ins) gs).getD 0 false=true:=by
 rw[kG0 (valsG_pre gs (true::ins)) (by simp)];rfl
def Follows (v:Nat→Bool) (n:Nat) (gs:Gs):Prop:=∀k,k<1+n+gs.length→v (k+1)=(valsG (true::insV v n) gs).getD k false
theorem Follows.lit {v:Nat→Bool} {n:Nat} {gs:Gs} (h:Follows v n gs) {m:Int} (hm:has (1+n+gs.length) m):litT v m=Zn (valsG (true::insV v n) gs) m:=by
 obtain⟨a,b,c⟩:=hm
 refine lit_eq a ?_
 have:=h (m.natAbs-1) (by omega)
 rwa[show m.natAbs-1+1=m.natAbs by omega] at this
theorem net_follows {v:Nat→Bool} {n:Nat} {gs:Gs} (g:NetG n gs):(v 1=true∧∀cl,cl∈gatesC n gs 0→clT v cl)↔Follows v n gs:=by
 have f:∀i:Nat,(2+(n:Int)+((0+i:Nat):Int))≠0:=fun i=>by omega
 have d:∀i:Nat,litT v (2+(n:Int)+((0+i:Nat):Int))=v (2+n+i):=fun i=>by
  unfold litT;rw[if_pos (by omega)];congr 1;omega
 constructor
 ·rintro⟨o,p⟩ k
  induction k using Nat.strongRecOn with
  |ind k l=>
   intro s
   rcases(by omega:k=0∨(1≤k∧k≤n)∨1+n≤k) with rfl|⟨q,r⟩|q
   ·rw[VX];exact o
   ·obtain⟨i,rfl⟩:∃i,k=i+1:=⟨k-1,by omega⟩
    rw[xU0 (by rw[insV_len];omega),insV_get (by omega)]
   ·obtain⟨i,rfl⟩:∃i,k=1+n+i:=⟨k-1-n,by omega⟩
    have hi:i<gs.length:=by omega
    have c:=g.gate i hi
    obtain⟨na,nb⟩:=gate_nz c
    have hs:=(gate_says (v:=v) na nb (f i)).1 fun cl e=>p cl (mem_gates.2 ⟨i,hi,e⟩)
    rw[d] at hs
    obtain⟨g1,g2,g3,_⟩:=c
    rw[absI_nat] at g1 g2;rw[absI_nat] at g2 g3
    have ea:=lit_eq (vals:=valsG (true::insV v n) gs) na (by have:=l (gs[i].a.natAbs-1) (by omega) (by omega);rwa[show gs[i].a.natAbs-1+1=gs[i].a.natAbs by omega] at this)
    have eb:=lit_eq (vals:=valsG (true::insV v n) gs) nb (by have:=l (gs[i].b.natAbs-1) (by omega) (by omega);rwa[show gs[i].b.natAbs-1+1=gs[i].b.natAbs by omega] at this)
    rw[valsG_at (insV_len v n) hi (g.gate i hi),show 1+n+i+1=2+n+i by omega,hs,ea,eb]
    rfl
 ·intro h
  refine⟨by have:=h 0 (by omega);rwa[VX] at this,fun cl e=>?_⟩
  obtain⟨i,hi,hm⟩:=mem_gates.1 e
  have c:=g.gate i hi
  obtain⟨na,nb⟩:=gate_nz c
  refine(gate_says (v:=v) na nb (f i)).2 ?_ cl hm
  obtain⟨g1,g2,g3,_⟩:=c
  rw[absI_nat] at g1 g2;rw[absI_nat] at g2 g3
  have j:=h (1+n+i) (by omega)
  rw[valsG_at (insV_len v n) hi (g.gate i hi),show 1+n+i+1=2+n+i by omega] at j
  rw[d,j,h.lit (m:=gs[i].a) ⟨na,by omega,by omega⟩,h.lit (m:=gs[i].b) ⟨nb,by omega,by omega⟩]
  rfl
theorem net_sat {v:Nat→Bool} {n:Nat} {gs:Gs} {xs:List (List Int)} (e:NetG n gs):cnfT v (netC n gs xs)↔Follows v n gs∧∀cl,cl∈xs→clT v cl:=by
 rw[←net_follows e]
 unfold cnfT netC
 simp only[List.mem_cons,List.mem_append]
 constructor
 ·intro h
  refine⟨⟨?_,fun cl a=>h cl (.inr (.inl a))⟩,fun cl a=>h cl (.inr (.inr a))⟩
  have:=h [1] (.inl rfl)
  rw[clT_cons,ko0] at this
  simpa[litT] using this
 ·rintro⟨⟨b,c⟩,d⟩ cl (rfl|a|a)
  ·rw[clT_cons];exact .inl (by simpa[litT] using b)
  ·exact c cl a
  ·exact d cl a
def Qe0 (ins:List Bool) (gs:Gs) (u:Nat):Bool:=(valsG (true::ins) gs).getD (u-1) false
theorem wayG_ins {ins:List Bool} {gs:Gs}:insV (Qe0 ins gs) ins.length=ins:=by
 refine List.ext_getElem (insV_len _ _) fun i b a=>?_
 have:=insV_get (v:=Qe0 ins gs) (n:=ins.length) (i:=i) a
 rw[List.getD_eq_getElem?_getD,List.getElem?_eq_getElem b] at this
 rw[show(insV (Qe0 ins gs) ins.length)[i]=Qe0 ins gs (i+2) from this]
 unfold Qe0
 rw[show i+2-1=i+1 by omega,xU0 a,List.getD_eq_getElem?_getD,List.getElem?_eq_getElem a];rfl
theorem j20 {ins:List Bool} {gs:Gs} {n:Nat} (a:ins.length=n):Follows (Qe0 ins gs) n gs:=fun k b=>by
 subst a
 rw[wayG_ins];rfl
theorem gatesC_len {n:Nat}:∀(gs:Gs) (i:Nat),(gatesC n gs i).length≤4*gs.length
 |[],_=>by simp[gatesC]
 |g::gs,i=>by
  have:=gatesC_len (n:=n) gs (i+1)
  simp only[gatesC,List.length_append,List.length_cons]
  have:(gateC (2+n+i) g).length≤4:=by unfold gateC;split<;>simp
  omega
theorem clause_iff {m:Int} {xs:List Int}:clauseOk m xs=true↔ ∀k,k<xs.length→litOk m (xs.getD k 0)=true∧(k=0∨(xs.getD (k-1) 0).natAbs<(xs.getD k 0).natAbs):=by
 unfold clauseOk allI
 simp only[List.all_eq_true,List.mem_range,Bool.and_eq_true,Bool.or_eq_true,beq_iff_eq,decide_eq_true_eq]
theorem gate_clause {n k:Nat} {g:Gt} {m:Int} (h:UO n k g) (hm:2+n+k≤m) {cl:List Int} (c:cl∈gateC (2+n+k) g):clauseOk m cl=true:=by
 obtain⟨g1,g2,g3,_⟩:=h
 rw[absI_nat] at g1 g2;rw[absI_nat] at g2 g3
 have three:∀{p q r:Int},p.natAbs=g.a.natAbs→q.natAbs=g.b.natAbs→r.natAbs=2+n+k→clauseOk m [p,q,r]=true:=fun{p q r} e i f=>by
  rw[clause_iff]
  intro j d
  rcases(by simpa using d:j<3)|>(fun h=>(by omega:j=0∨j=1∨j=2)) with rfl|rfl|rfl
  ·exact⟨by simp[litOk];omega,.inl rfl⟩
  ·exact⟨by simp[litOk];omega,.inr (by simp;omega)⟩
  ·exact⟨by simp[litOk];omega,.inr (by simp;omega)⟩
 have two:∀{p r:Int},(p.natAbs=g.a.natAbs∨p.natAbs=g.b.natAbs)→r.natAbs=2+n+k→clauseOk m [p,r]=true:=fun{p r} e f=>by
  rw[clause_iff]
  intro j d
  rcases(by simpa using d:j<2)|>(fun h=>(by omega:j=0∨j=1)) with rfl|rfl
  ·exact⟨by simp[litOk];omega,.inl rfl⟩
  ·exact⟨by simp[litOk];omega,.inr (by simp;omega)⟩
 unfold gateC at c
 split at c
 ·simp only[List.mem_cons,List.not_mem_nil,or_false] at c
  rcases c with rfl|rfl|rfl|rfl<;>exact three (by omega) (by omega) (by omega)
 ·simp only[List.mem_cons,List.not_mem_nil,or_false] at c
  rcases c with rfl|rfl|rfl
  ·exact two (.inl rfl) (by omega)
  ·exact two (.inr rfl) (by omega)
  ·exact three (by omega) (by omega) (by omega)
theorem net_ok {n:Nat} {gs:Gs} {xs:List (List Int)} (g:n≤8) (b:NetG n gs) (f:xs.length≤90) (e:∀cl,cl∈xs→clauseOk (1+n+gs.length:Nat) cl=true):cnfOk (netC n gs xs)=true:=by
 have:=b.few
 have hlen:=gatesC_len (n:=n) gs 0
 have a:∀cl,cl∈(netC n gs xs).list→clauseOk (netC n gs xs).many cl=true:=fun cl h=>by
  unfold netC at h⊢
  rcases List.mem_cons.1 h with rfl|h
  ·rw[clause_iff]
   intro j d
   have:j=0:=by simpa using d
   subst this
   exact⟨by simp[litOk];omega,.inl rfl⟩
  ·rcases List.mem_append.1 h with h|h
   ·obtain⟨i,hi,hm⟩:=mem_gates.1 h
    rw[Nat.zero_add] at hm
    exact gate_clause (b.gate i hi) (by show(2+n+i:Int)≤((1+n+gs.length:Nat):Int);omega) hm
   ·have:=e cl h;exact_mod_cast this
 unfold cnfOk allI
 simp only[Bool.and_eq_true,decide_eq_true_eq,List.all_eq_true,List.mem_range]
 refine⟨⟨⟨?_,?_⟩,?_⟩,fun k c=>a _ ?_⟩
 ·show(0:Int)≤_;unfold netC;simp only;omega
 ·unfold netC;simp only;omega
 ·unfold netC;simp only[List.length_cons,List.length_append];omega
 ·rw[List.getD_eq_getElem?_getD,List.getElem?_eq_getElem c];exact List.getElem_mem c
def putIns (ins:List Bool) (put:List Int):Prop:=∀i,i<ins.length→(if ins.getD i false then(2+i:Int) else-2-i)∈put
theorem J20 {put:List Int} {l x:Int} (c:l∉put) (d:placeOf put l.natAbs≠0) (b:placeOf put x.natAbs=0):unitC put [l,x] x:=by
 refine⟨fun y a=>?_,by simp[d,b]⟩
 rcases List.mem_cons.1 a with rfl|a
 ·exact c
 ·rw[List.mem_singleton.1 a];exact fun hm=>xi hm b
theorem ZK0 {put:List Int} {l m x:Int} (c:l∉put) (d:placeOf put l.natAbs≠0) (e:m∉put) (f:placeOf put m.natAbs≠0) (b:placeOf put x.natAbs=0):unitC put [l,m,x] x:=by
 refine⟨fun y a=>?_,by simp[d,b,f]⟩
 rcases List.mem_cons.1 a with rfl|a
 ·exact c
 rcases List.mem_cons.1 a with rfl|a
 ·exact e
 ·rw[List.mem_singleton.1 a];exact fun hm=>xi hm b
theorem Xp0 {many:Nat} {put:List Int} (h:marksOk many put) {l:Int} (a:l∈put): -l∉put:=h.neg a
theorem prop_full {n:Nat} {gs:Gs} {xs:List (List Int)} {put:List Int} {ins:List Bool} (r:NetG n gs) (A:ins.length=n) (hm:marksOk (1+n+gs.length) put) (hi:putIns ins put)
  (hu:∀cl,cl∈(netC n gs xs).list→∀x,¬unitC put cl x):∀u,1≤u→u≤1+n+gs.length→placeOf put u≠0:=by
 intro u
 induction u using Nat.strongRecOn with
 |ind u p=>
  intro v w o
  rcases(by omega:u=1∨(2≤u∧u≤1+n)∨2+n≤u) with rfl|⟨q,z⟩|q
  ·refine hu [1] List.mem_cons_self 1 ⟨fun y t=>?_,by simp[o]⟩
   rw[List.mem_singleton.1 t];exact fun hm=>xi hm o
  ·have:=hi (u-2) (by omega)
   split at this
   ·exact xi this (by rw[show(2+((u-2:Nat):Int)).natAbs=u by omega];exact o)
   ·exact xi this (by rw[show(-2-((u-2:Nat):Int)).natAbs=u by omega];exact o)
  ·obtain⟨i,rfl⟩:∃i,u=2+n+i:=⟨u-2-n,by omega⟩
   have k:i<gs.length:=by omega
   have m:=r.gate i k
   obtain⟨na,nb⟩:=gate_nz m
   have c:∀cl,cl∈gateC (2+n+i) gs[i]→∀x,¬unitC put cl x:=fun cl h=>hu cl (List.mem_cons_of_mem _ (List.mem_append_left _ (mem_gates.2 ⟨i,k,by rw[Nat.zero_add];exact h⟩)))
   obtain⟨g1,g2,g3,_⟩:=m
   rw[absI_nat] at g1 g2;rw[absI_nat] at g2 g3
   have pa:=p gs[i].a.natAbs (by omega) (by omega) (by omega)
   have pb:=p gs[i].b.natAbs (by omega) (by omega) (by omega)
   have pk:placeOf put (2+(n:Int)+i).natAbs=0:=by rw[show(2+(n:Int)+i).natAbs=2+n+i by omega];exact o
   have d:placeOf put (-(2+(n:Int)+i)).natAbs=0:=by rw[Int.natAbs_neg];exact pk
   have nga:placeOf put (-gs[i].a).natAbs≠0:=by rw[Int.natAbs_neg];exact pa
   have ngb:placeOf put (-gs[i].b).natAbs≠0:=by rw[Int.natAbs_neg];exact pb
   have nn:∀{l:Int},l∈put→ -l∉put:=fun s=>Xp0 hm s
   generalize gs[i]=g at*
   unfold gateC at c
   by_cases j:g.a∈put
   ·by_cases f:g.b∈put
    ·cases e:g.x
     ·rw[e] at c;exact c [-g.a,-g.b,_] (by simp) _ (ZK0 (nn j) nga (nn f) ngb pk)
     ·rw[e] at c;exact c [-g.a,-g.b,_] (by simp) _ (ZK0 (nn j) nga (nn f) ngb d)
    ·cases e:g.x
     ·rw[e] at c;exact c [g.b,_] (by simp) _ (J20 f pb d)
     ·rw[e] at c;exact c [-g.a,g.b,_] (by simp) _ (ZK0 (nn j) nga f pb pk)
   ·cases e:g.x
    ·rw[e] at c;exact c [g.a,_] (by simp) _ (J20 j pa d)
    ·rw[e] at c
     by_cases f:g.b∈put
     ·exact c [g.a,-g.b,_] (by simp) _ (ZK0 j pa (nn f) ngb pk)
     ·exact c [g.a,g.b,_] (by simp) _ (ZK0 j pa f pb d)
theorem len_full {many:Nat} {put:List Int} (h:marksOk many put) (b:∀u,1≤u→u≤many→placeOf put u≠0):put.length=many:=by
 have c:(List.range' 1 many).length≤(put.map Int.natAbs).length:=by
  refine List.Nodup.length_le_of_subset List.nodup_range' fun u hu=>?_
  rw[List.mem_range'_1] at hu
  obtain⟨a,d⟩:=ZY (b u (by omega) (by omega))
  have:=b u (by omega) (by omega)
  exact List.mem_map.2 ⟨_,Qh (show placeOf put u-1<put.length by omega),d⟩
 have a:(put.map Int.natAbs).length≤(List.range' 1 many).length:=by
  refine List.Nodup.length_le_of_subset h.1 fun u hu=>?_
  obtain⟨l,e,rfl⟩:=List.mem_map.1 hu
  have:=h.2 l e
  rw[List.mem_range'_1];omega
 simp at c a
 omega
theorem prop_way {n:Nat} {gs:Gs} {xs:List (List Int)} {put:List Int} {ins:List Bool} (g:n≤8) (k:NetG n gs) (r:xs.length≤90) (t:∀cl,cl∈xs→clauseOk (1+n+gs.length:Nat) cl=true) (m:ins.length=n) (hm:marksOk (1+n+gs.length) put) (hi:putIns ins put)
  (hu:∀cl,cl∈(netC n gs xs).list→∀x,¬unitC put cl x) (q:∀cl,cl∈(netC n gs xs).list→¬clashC put cl):
  put.length=1+n+gs.length∧cnfT (Qd0 put) (netC n gs xs)∧insV (Qd0 put) n=ins:=by
 have j:=prop_full k m hm hi hu
 refine⟨len_full hm j,fun cl b=>?_,?_⟩
 ·have a:=q cl b
  unfold clashC at a
  simp only[Classical.not_forall,Classical.not_imp] at a
  obtain⟨l,d,p⟩:=a
  have h:=clauseOk_lit (cnfOk_clause (net_ok g k r t) b) d
  have f:l.natAbs≤1+n+gs.length:=by have:=h.2;unfold netC at this;simp only at this;omega
  refine⟨l,d,wayM_true hm ?_⟩
  exact Classical.byContradiction fun s=>p ⟨s,j _ (by have:=h.1;omega) f⟩
 ·subst m
  refine List.ext_getElem (insV_len _ _) fun i o a=>?_
  have e:=insV_get (v:=Qd0 put) (n:=ins.length) (i:=i) a
  rw[List.getD_eq_getElem?_getD,List.getElem?_eq_getElem o] at e
  rw[show(insV (Qd0 put) ins.length)[i]=Qd0 put (i+2) from e]
  have:=hi i a
  rw[List.getD_eq_getElem?_getD,List.getElem?_eq_getElem a] at this
  have hw:=wayM_true hm this
  simp only[Option.getD_some] at hw this
  by_cases c:ins[i]=true
  ·rw[if_pos c] at hw
   rw[c]
   unfold litT at hw
   rw[if_pos (by omega),show(2+(i:Int)).natAbs=i+2 by omega] at hw
   exact hw
  ·rw[if_neg c] at hw
   unfold litT at hw
   rw[if_neg (by omega),show(-2-(i:Int)).natAbs=i+2 by omega] at hw
   simp only[Bool.not_eq_true',Bool.not_eq_true] at hw c
   rw[hw,c]
theorem k40 {many:Nat} {put:List Int} {v:Nat→Bool} {cl:List Int} (hm:marksOk many put) (f:∀l,l∈put→litT v l=true) (i:clT v cl): ¬clashC put cl:=fun h=>by
 obtain⟨l,d,g⟩:=i
 obtain⟨a,b⟩:=h l d
 have:=f _ (false_of b a)
 have c:l≠0:=fun e=>by
  have:=hm.2 _ (false_of b a);rw[e] at this;simp at this
 rw[litT_neg c,g] at this
 cases this
theorem way_unit {many:Nat} {put:List Int} {v:Nat→Bool} {cl:List Int} {x:Int} (hm:marksOk many put) (i:∀l,l∈put→litT v l=true) (j:clT v cl) (h:unitC put cl x):litT v x=true:=by
 obtain⟨l,b,f⟩:=j
 by_cases c:placeOf put l.natAbs=0
 ·have a:l∈cl.filter fun l=>decide (placeOf put l.natAbs=0):=List.mem_filter.2 ⟨b,by simpa using c⟩
  rw[h.2,List.mem_singleton] at a
  rw[←a];exact f
 ·exfalso
  have d:=false_of c (h.1 l b)
  have:=i _ d
  have g:l≠0:=fun e=>by
   have:=hm.2 _ d;rw[e] at this;simp at this
  rw[litT_neg g,f] at this
  cases this
end Go.M
end
section
namespace Go.M
variable {ds:List Dcl} {env:List Int}
theorem Qr0 (ins:List Bool) (F:Gs):Rho (Zn (valsG (true::ins) F)):=⟨fun m h=>lit_neg _ h,by
 unfold Zn
 rw[if_pos (by decide)]
 exact VX⟩
theorem ins_lit (F:Gs):Ins (Zn (valsG (true::insM ds env) F)) ds env:=fun i hi=>by
 unfold Zn
 rw[if_pos (by omega),show((2:Int)+i-1).toNat=i+1 by omega]
 exact xU0 hi
def nIn (ds:List Dcl):Nat:=(bits ds).toNat
theorem nIn_eq (h:declOk ds=true):(nIn ds:Int)=bits ds∧nIn ds≤8:=by
 have:=bits_pos' (dpos h)
 have:=(decl_iff.1 h).2.2
 unfold nIn;omega
theorem insM_n (he:envOk ds env=true):(insM ds env).length=nIn ds:=by
 have a:=(env_ok he).1
 have:=insM_len (env_ok he).2.1 (dpos a)
 have:=(nIn_eq a).1
 omega
def listB (ds:List Dcl) (ts:List Tm):Option (Gs×List (List Int)):=(seqB (ts.map (termB ds))).run (nIn ds) []
structure ListSays (ds:List Dcl) (ts:List Tm) (gs:Gs) (rs:List (List Int)):Prop where
 net:NetG (nIn ds) gs
 many:rs.length=ts.length
 has:∀r,r∈rs→hasL (1+nIn ds+gs.length) r
 len:∀i,i<ts.length→(rs.getD i []).length=lenS (sortM ds (ts.getD i default))
 says:∀env,envOk ds env=true→rs.map (fun r=>r.map (Zn (valsG (true::insM ds env) gs)))=ts.map fun u=>JR (sortM ds u) (evalM ds env u)
theorem nilG (n:Nat):NetG n []:=⟨by simp,fun k h=>absurd h (by simp),List.nodup_nil⟩
theorem list_says {ts:List Tm} {gs:Gs} {rs:List (List Int)} (c:declOk ds=true) (hs:∀t,t∈ts→sortM ds t≠ -1) (h:listB ds ts=some (gs,rs)):ListSays ds ts gs rs:=by
 have key:∀env,envOk ds env=true→NetG (nIn ds) gs∧(∀r,r∈rs→hasL (1+nIn ds+gs.length) r)∧rs.map (fun r=>r.map (Zn (valsG (true::insM ds env) gs)))=ts.map fun u=>JR (sortM ds u) (evalM ds env u):=fun env he=>by
  have j:=nIn_eq c
  refine Says.sound (insM_n he) (nilG _) h (List.prefix_refl _) (Q:=fun k rs=>(∀r,r∈rs→hasL k r)∧rs.map (fun r=>r.map (Zn (valsG (true::insM ds env) gs)))=ts.map fun u=>JR (sortM ds u) (evalM ds env u)) ?_
  refine seq_sat (k0:=1+nIn ds) (by simp) (fun t f {k Q} g e=>?_) (fun l rs _ a b=>⟨a,b⟩)
  exact term_sat (Qr0 _ _) he (ins_lit _) t (hs t f) (by omega) e
 obtain⟨a,b⟩:=seq_reach (Bd.reach_of_run h)
 have d:=key _ (zeroE_ok c)
 exact⟨d.1,a,d.2.1,fun i hi=>term_len c _ (hs _ (getD_mem hi _)) (b i hi),fun env he=>(key env he).2.2⟩
def rootsC (rs:List (List Int)):List (List Int):=rs.map fun r=>[r.getD 0 0]
def blastC (ds:List Dcl) (gs:Gs) (rs:List (List Int)):Cnf:=netC (nIn ds) gs (rootsC rs)
def allT (ds:List Dcl) (env:List Int) (ts:List Tm):Prop:=∀t,t∈ts→evalM ds env t=1
section
variable {ts:List Tm} {gs:Gs} {rs:List (List Int)}
theorem head_mem {r:List Int} {w:Int} (h:r.length=lenS w):r.getD 0 0∈r:=getD_mem (by unfold lenS at h;omega) 0
theorem roots_ok (n:declOk ds=true) (h:ListSays ds ts gs rs):∀cl,cl∈rootsC rs→clauseOk (1+nIn ds+gs.length:Nat) cl=true:=fun cl a=>by
 obtain⟨r,f,rfl⟩:=List.mem_map.1 a
 obtain⟨i,hi,e⟩:=List.getElem_of_mem f
 have d:=h.len i (by have:=h.many;omega)
 rw[List.getD_eq_getElem?_getD,List.getElem?_eq_getElem hi,Option.getD_some,e] at d
 have b:=h.has r f _ (head_mem d)
 refine clause_iff.2 fun k g=>?_
 simp only[List.length_singleton] at g
 have c:k=0:=by omega
 subst c
 refine⟨?_,.inl rfl⟩
 show litOk _ (r.getD 0 0)=true
 have j:=b.1;have l:=b.2.1;have m:=b.2.2
 unfold litOk
 simp only[Bool.and_eq_true,decide_eq_true_eq]
 omega
theorem way_true (he:envOk ds env=true) (hs:∀t,t∈ts→sortM ds t=0) (h:ListSays ds ts gs rs) {v:Nat→Bool} (q:Follows v (nIn ds) gs) (hi:insV v (nIn ds)=insM ds env):
  (∀cl,cl∈rootsC rs→clT v cl)↔allT ds env ts:=by
 have b:=h.says env he
 have m:∀i,i<ts.length→(litT v ((rs.getD i []).getD 0 0)=true↔evalM ds env (ts.getD i default)=1):=fun i a=>by
  have hm:=h.many
  have f:=h.len i a
  have j:=hs _ (getD_mem a default)
  have s:=h.has _ (getD_mem (show i<rs.length by omega) []) _ (head_mem f)
  rw[q.lit s,hi]
  have k:(rs.map (fun r=>r.map (Zn (valsG (true::insM ds env) gs)))).getD i []=(rs.getD i []).map (Zn (valsG (true::insM ds env) gs)):=getD_map (fun r:List Int=>r.map (Zn (valsG (true::insM ds env) gs))) (by omega) _ _
  have n:(ts.map fun u=>JR (sortM ds u) (evalM ds env u)).getD i []=JR (sortM ds (ts.getD i default)) (evalM ds env (ts.getD i default)):=getD_map (fun u=>JR (sortM ds u) (evalM ds env u)) a _ _
  rw[b,n,j,QM] at k
  have:=(head_rho k.symm).2
  rw[this,decide_eq_true_eq]
 constructor
 ·intro p t w
  obtain⟨i,a,e⟩:=List.getElem_of_mem w
  have hm:=h.many
  obtain⟨l,f,c⟩:=p [(rs.getD i []).getD 0 0] (List.mem_map.2 ⟨_,getD_mem (by omega) [],rfl⟩)
  rw[List.mem_singleton.1 f] at c
  have:=(m i a).1 c
  rwa[List.getD_eq_getElem?_getD,List.getElem?_eq_getElem a,Option.getD_some,e] at this
 ·intro o cl d
  obtain⟨r,g,rfl⟩:=List.mem_map.1 d
  obtain⟨i,a,e⟩:=List.getElem_of_mem g
  have hm:=h.many
  refine⟨r.getD 0 0,List.mem_singleton.2 rfl,?_⟩
  have:=(m i (by omega)).2 (o _ (getD_mem (by omega) default))
  rwa[show rs.getD i []=r by rw[List.getD_eq_getElem?_getD,List.getElem?_eq_getElem a,Option.getD_some,e]] at this
theorem QE0 (he:envOk ds env=true) (hs:∀t,t∈ts→sortM ds t=0) (h:ListSays ds ts gs rs) {v:Nat→Bool} (b:cnfT v (blastC ds gs rs)) (hi:insV v (nIn ds)=insM ds env):allT ds env ts:=by
 obtain⟨a,c⟩:=(net_sat h.net).1 b
 exact(way_true he hs h a hi).1 c
theorem Qc0 (he:envOk ds env=true) (hs:∀t,t∈ts→sortM ds t=0) (h:ListSays ds ts gs rs) (c:allT ds env ts):cnfT (Qe0 (insM ds env) gs) (blastC ds gs rs):=by
 have b:=insM_n he
 have a:=j20 (gs:=gs) b
 refine(net_sat h.net).2 ⟨a,(way_true he hs h a ?_).2 c⟩
 rw[←b];exact wayG_ins
theorem blastC_ok (a:declOk ds=true) (h:ListSays ds ts gs rs) (b:ts.length≤90):cnfOk (blastC ds gs rs)=true:=
 net_ok (nIn_eq a).2 h.net (by unfold rootsC;rw[List.length_map,h.many];exact b) (roots_ok a h)
theorem prop_ends (he:envOk ds env=true) (hs:∀t,t∈ts→sortM ds t=0) (h:ListSays ds ts gs rs) (k:ts.length≤90) {put:List Int} (hm:marksOk (1+nIn ds+gs.length) put) (hi:putIns (insM ds env) put)
  (n:∀v,cnfT v (blastC ds gs rs)→insV v (nIn ds)=insM ds env→v 1=true→∀l,l∈put→litT v l=true)
  (e:(∃cl,cl∈(blastC ds gs rs).list∧clashC put cl)∨((∀cl,cl∈(blastC ds gs rs).list→∀x,¬unitC put cl x)∧∀cl,cl∈(blastC ds gs rs).list→¬clashC put cl)):
  ((∃cl,cl∈(blastC ds gs rs).list∧clashC put cl)↔ ¬allT ds env ts)∧(allT ds env ts→put.length=1+nIn ds+gs.length):=by
 have j:=(env_ok he).1
 have hw:=fun a=>Qc0 he hs h a
 have f:allT ds env ts→∀cl,cl∈(blastC ds gs rs).list→¬clashC put cl:=fun a cl g=>by
  refine k40 hm (n _ (hw a) ?_ ?_) (hw a cl g)
  ·rw[←insM_n he];exact wayG_ins
  ·exact VX
 rcases e with b|⟨hu,b⟩
 ·refine⟨⟨fun _ a=>?_,fun _=>b⟩,fun a=>?_⟩
  ·obtain⟨cl,c,d⟩:=b;exact f a cl c d
  ·obtain⟨cl,c,d⟩:=b;exact absurd d (f a cl c)
 ·have i:=prop_way (nIn_eq j).2 h.net (by unfold rootsC;rw[List.length_map,h.many];exact k) (roots_ok j h) (insM_n he) hm hi hu b
  have a:=QE0 he hs h i.2.1 i.2.2
  exact⟨⟨fun⟨cl,c,d⟩=>absurd d (b cl c),fun m=>absurd a m⟩,fun _=>i.1⟩
end
end Go.M
end
section
namespace Go.Proofs.YtaekfnbnhjgboaaGreatDoor
open Go Go.Vc Go.Proofs
variable {w:World} {K:Value→World→Prop} {D F F' G Fx Fy:Nat→Prop} {n:Nat} {gs:M.Gs} {v xv yv dv tv:Value} {xs ys:List Int} {bs:List Bool} {ds:List M.Dcl} {t:M.Tm} {ar ab:Addr}
theorem Errs.ext0 {w':World} (h:Errs (fun _=>False) w ar ab) (he:Ext w w'):Errs (fun _=>False) w' ar ab:=⟨h.room.same he id,h.bits.same he id,id,id⟩
end Go.Proofs.YtaekfnbnhjgboaaGreatDoor
end
section
namespace Go.Proofs.YtaekfnbnhjgboaaGreatDoor
open Go Go.Vc Go.Proofs
variable {w:World} {K:Value→World→Prop} {D F F' G Fx Fy:Nat→Prop} {n:Nat} {gs:M.Gs} {v xv yv dv tv gv:Value} {xs ys:List Int} {bs:List Bool} {ds:List M.Dcl} {t:M.Tm} {ar ab:Addr}
theorem Yd0 {w':World} (a:OwnG w gv gs):vbi PP .len [zn] zb [gv] w' K=K (.int .i64 gs.length) w':=by
 have h:=Own.sl a
 simp(disch:=(simp only[push_cast];done)) only[h.len,List.length_map]
theorem one_bool {c:Bool} {K:Value→World→Prop} (d:∀w' b,b=w.heap.size→Ext w w'→OwnB PP jc w' (.slice (some ⟨b,0,none⟩) 1 1) [c]→K (.slice (some ⟨b,0,none⟩) 1 1) w'):vbuildS PP jc 1 [(0,.bool c)] w K:=
 XT (y:=[.bool c]) Qk0 XS0 Zw0 rfl rfl (by decide) fun b w' e he _ a=>d w' b e he (Blk.own1 (P:=PP) (t:=jc) (cs:=[.bool c]) (by rw[XI0];exact a) (Nat.zero_le _) rfl rfl (by omega))
end Go.Proofs.YtaekfnbnhjgboaaGreatDoor
end
section
namespace Go.Proofs.YtaekfnbnhjgboaaGreatDoor
open Go Go.Vc Go.Proofs
variable {w:World} {K:Value→World→Prop} {D F F' G Fx Fy:Nat→Prop} {n m:Nat} {gs hs:M.Gs} {v xv yv dv tv gv' hv':Value} {xs ys env:List Int} {bs ins:List Bool} {ds:List M.Dcl} {t:M.Tm}
theorem jk0 {i:Nat} (hi:i<gs.length):(gs.map yF).getD i []=yF gs[i]:=by simp[List.getD_eq_getElem?_getD,hi]
theorem insM_app:∀{d1 d2:List M.Dcl} {b a:List Int},d1.length=b.length→M.insM (d1++d2) (b++a)=M.insM d1 b++M.insM d2 a
 |[],d2,[],a,_=>by cases d2<;>cases a<;>rfl
 |d::d1,d2,e::b,a,h=>by
  show(M.bitsN d.2.toNat e.toNat).reverse++M.insM (d1++d2) (b++a)=((M.bitsN d.2.toNat e.toNat).reverse++M.insM d1 b)++M.insM d2 a
  rw[insM_app (by simpa using h),List.append_assoc]
theorem insM_take {i:Nat} (c:env.length=ds.length) (hi:i<ds.length):M.insM (ds.take (i+1)) (env.take (i+1))=M.insM (ds.take i) (env.take i)++(M.bitsN ((ds.getD i (M.nada,0)).2).toNat (env.getD i 0).toNat).reverse:=by
 have a:ds.take (i+1)=ds.take i++[ds.getD i (M.nada,0)]:=M.take_add hi _
 have b:env.take (i+1)=env.take i++[env.getD i 0]:=M.take_add (by omega) _
 rw[a,b,insM_app (by rw[List.length_take,List.length_take];omega)]
 simp[M.insM]
theorem BlastIns_spec {dv ev:Value} (O:DclsR F w dv ds) (he:Ints F' w ev env) (I:M.envOk ds env=true)
  (hK:∀w' r,Ext w w'→OwnB PP jc w' r (M.insM ds env)→(∀b,r.ownBlock=some b→w.heap.size≤b)→K r w'):vcall PP Y9 #[dv,ev] w K:=by
 apply yA0
 obtain⟨e,hlen,D⟩:=M.env_ok I
 refine EnvOk_spec O he fun w1 A=>?_
 rw[I]
 simp(disch:=(simp only[push_cast];done)) only[push_cast,(O.ext A).len,Bool.not_true]
 have h4:=(M.decl_iff.1 e).1
 refine vloop_up ds.length (fun i u w'=> ∃r,u=[r,.int .i64 i]∧Ext w w'∧OwnB PP jc w' r (M.insM (ds.take i) (env.take i))∧∀b,r.ownBlock=some b→w.heap.size≤b) ⟨_,rfl,A,OwnB.nil,fun b v=>by cases v⟩ ?_
 rintro i _ _ w2 C hi ⟨r,rfl,t,l,H⟩ hC
 simp only[push_cast]
 refine zh (fun a=>?_) (fun a=>?_)
 ·have f:i<ds.length:=by omega
  have z:=O.ext t
  have a6:=M.dcl_wide e f
  obtain⟨n1,n2,n3,n4⟩:=M.vok_iff.1 (D i f)
  have a4:=M.bits_le e f
  have a3:=(M.decl_iff.1 e).2.2
  have E:(M.insM (ds.take i) (env.take i)).length≤8:=by
   have:=M.insM_len (ds:=ds.take i) (env:=env.take i) (by rw[List.length_take,List.length_take];omega) fun d P=>M.dpos e d (List.mem_of_mem_take P)
   omega
  have a0:(2:Int)^((ds.getD i (M.nada,0)).2).toNat≤16:=by
   have h1:(2:Nat)^((ds.getD i (M.nada,0)).2).toNat≤2^4:=Nat.pow_le_pow_right (by omega) (by omega)
   have h2:(((2:Nat)^((ds.getD i (M.nada,0)).2).toNat:Nat):Int)≤16:=by omega
   simpa using h2
  simp(disch:=first|(simp only[push_cast];done)|omega) only[push_cast,z.iaddr,z.load]
  refine zF xF fun b3 w3 a1 Q a8 J=>?_
  refine stDecl J fun w4 W a9 L=>?_
  have o:Ext w2 w4:=Ext.then Q W fun y hy=>by subst hy;omega
  have m:=insM_take hlen f
  generalize hp:M.insM (ds.take i) (env.take i)=ps at l E m
  obtain⟨k,hk⟩:=Int.eq_ofNat_of_zero_le n3
  have n:env.getD i 0=(k:Int):=hk
  rw[n] at m n4
  rw[Int.toNat_natCast] at m
  have Z:=he.ext t
  generalize a7:(ds.getD i (M.nada,0)).2=wd at*
  simp(disch:=first|(simp only[push_cast];done)|omega) only[push_cast,L.ld1,zy]
  have Y:(M.bitsN wd.toNat k).reverse.length=wd.toNat:=by rw[List.length_reverse,M.bitsN_len]
  have z2:=t.size;have z24:=o.size
  refine vloop_up wd.toNat (fun j u w'=> ∃r,u=[r,.int .i64 (wd-1-j)]∧Ext w w'∧OwnB PP jc w' r (ps++(M.bitsN wd.toNat k).reverse.take j)∧∀b,r.ownBlock=some b→w.heap.size≤b) ⟨r,by simp,t.trans o,by simpa using l.ext o,H⟩ ?_
  rintro j _ _ w5 C1 hj ⟨r2,rfl,g,s,q⟩ N
  simp only[push_cast]
  refine zh (fun c=>?_) (fun c=>?_)
  ·have G:j<wd.toNat:=by omega
   have B:=he.ext g
   simp(disch:=first|(simp only[push_cast];done)|omega) only[push_cast,B.iaddr,B.load,n]
   rw[qS j60 y30,wrapU (by omega),show(wd-1-(j:Int))=((wd.toNat-1-j:Nat):Int) by omega]
   refine bit_spec (by omega) (by omega) ?_
   have hx:(M.bitsN wd.toNat k).reverse.take (j+1)=(M.bitsN wd.toNat k).reverse.take j++[decide (k/2^(wd.toNat-1-j)%2=1)]:=by
    rw[M.take_add (by omega) false]
    congr 2
    rw[List.getD_eq_getElem?_getD,List.getElem?_reverse (by rw[M.bitsN_len];exact G),M.bitsN_len,←List.getD_eq_getElem?_getD,M.bitsN_get (by omega)]
   generalize decide (k/2^(wd.toNat-1-j)%2=1)=x at hx⊢
   have a5:(ps++(M.bitsN wd.toNat k).reverse.take j).length≤100:=by rw[List.length_append,List.length_take];omega
   refine one_bool fun w6 b6 a2 p U=>?_
   refine OwnV.app (us:=[.bool x]) (s.ext p) Qu0 U.bools (by simp[Value.oneCell']) (by simp only[List.length_map,List.length_singleton];omega) (by simp only[List.length_map,List.length_singleton];omega) fun v7 w7 V X T=>?_
   have aa:=g.size;have z6:=p.size
   simp(disch:=omega) only[push_cast,zy]
   refine N G _ _ ⟨v7,by rw[show((wd.toNat:Int)-(0+1)-(j:Int)-1)=wd-1-((j+1:Nat):Int) by omega],Ext.then (g.trans p) X fun b v=>q b v,?_,fun b v=>?_⟩
   ·rw[hx,←List.append_assoc]
    unfold OwnB
    rw[List.map_append];exact V
   ·rcases T b v with h|h
    ·exact q b h
    ·omega
  ·have S:j=wd.toNat:=by omega
   subst S
   rw[List.take_of_length_le (by omega),←m] at s
   try simp(disch:=omega) only[push_cast,zy]
   exact hC f _ _ ⟨r2,rfl,g,s,q⟩
 ·have R:i=ds.length:=by omega
  subst R
  rw[List.take_length,←hlen,List.take_length] at l
  exact hK w2 r t l H
end Go.Proofs.YtaekfnbnhjgboaaGreatDoor
end
section
namespace Go.Proofs.YtaekfnbnhjgboaaGreatDoor
open Go Go.Vc Go.Proofs Go.M
variable {w:World} {K:Value→World→Prop} {F:Nat→Prop}
theorem of_spec {l m:Int} (d:0≤m) (e:m≤9223372036854775807) (c:K (.bool (litOk m l)) w):vcall PP jg #[.int .i64 l,.int .i64 m] w K:=by
 unfold litOk at c
 apply Us
 simp(disch:=omega) only[push_cast,zy]
 refine zh (fun a=>?_) (fun a=>?_)
 ·refine zh (fun b=>?_) (fun b=>?_)
  ·rwa[show decide (l≤m)=decide (l≠0∧ -m≤l∧l≤m) from decide_eq_decide.2 (by omega)]
  ·rwa[decide_eq_false (by omega)] at c
 ·rwa[decide_eq_false (by omega)] at c
theorem variable_spec {l:Int} (b: -9223372036854775807≤l) (c:l≤9223372036854775807) (d:K (.int .i64 l.natAbs) w):vcall PP yE #[.int .i64 l] w K:=by
 apply Qo
 simp(disch:=omega) only[push_cast]
 refine zh (fun a=>?_) (fun a=>?_)
 ·simp(disch:=omega) only[push_cast,zy]
  rwa[show 0-l=(l.natAbs:Int) from by omega]
 ·rwa[show l=(l.natAbs:Int) from by omega]
theorem clauseOk_spec {v:Value} {xs:List Int} (f:Ints F w v xs) {m:Int} (r:0≤m) (n:m≤9223372036854775807) (o:K (.bool (clauseOk m xs)) w):
  vcall PP Y3 #[v,.int .i64 m] w K:=by
 apply ys0
 simp(disch:=first|(simp only[push_cast];done)|omega) only[push_cast,f.len]
 have hlen:xs.length≤9223372036854775807:=by obtain⟨_,_,_,n,y,_⟩:=f.shape;simp at n;omega
 refine vloop_up xs.length (fun i u w'=>u=[.int .i64 i]∧w'=w∧∀k,k<i→(litOk m (xs.getD k 0)&&(k==0||decide ((xs.getD (k-1) 0).natAbs<(xs.getD k 0).natAbs)))=true) ⟨rfl,rfl,by omega⟩ ?_
 rintro i _ g _ C hi ⟨rfl,rfl,l⟩ p
 simp only[push_cast]
 refine zh (fun t=>?_) (fun s=>?_)
 ·simp(disch:=first|(simp only[push_cast];done)|omega) only[push_cast,f.iaddr,f.load]
  refine of_spec r n ?_
  simp only[push_cast]
  refine y9 (fun a=>?_) (fun a=>?_)
  ·have d:litOk m (xs.getD i 0)=false:=by simpa using a
   rwa[clauseOk,xK0 (k:=i) (by omega) (by rw[d];rfl)] at o
  ·have d:litOk m (xs.getD i 0)=true:=by simpa using a
   have hm:xs.getD i 0≠0∧ -m≤xs.getD i 0∧xs.getD i 0≤m:=by simpa only[litOk,decide_eq_true_eq] using d
   refine zh (fun b=>?_) (fun b=>?_)
   ·obtain⟨j,rfl⟩:∃j,i=j+1:=⟨i-1,by omega⟩
    have e:=l j (by omega)
    have x:xs.getD j 0≠0∧ -m≤xs.getD j 0∧xs.getD j 0≤m:=by
     have:=(Bool.and_eq_true _ _▸e).1
     simpa only[litOk,decide_eq_true_eq] using this
    rw[show(((j+1:Nat):Int)-1)=(j:Int) from by omega]
    simp(disch:=first|(simp only[push_cast];done)|omega) only[push_cast,zy,f.iaddr,f.load]
    refine variable_spec (by omega) (by omega) ?_
    refine variable_spec (by omega) (by omega) ?_
    simp only[X60]
    refine zh (fun c=>?_) (fun c=>?_)
    ·rwa[clauseOk,xK0 (k:=j+1) (by omega) ?_] at o
     rw[d,Bool.true_and,decide_eq_false (by simp only[Nat.add_sub_cancel];omega)];rfl
    ·refine p (by omega) _ _ ⟨by simp,rfl,fun k q=>?_⟩
     by_cases h:k=j+1
     ·subst h;rw[d,Bool.true_and,decide_eq_true (by simp only[Nat.add_sub_cancel];omega)];simp
     ·exact l k (by omega)
   ·simp(disch:=omega) only[push_cast,zy]
    refine p (by omega) _ _ ⟨by simp,rfl,fun k q=>?_⟩
    by_cases h:k=i
    ·have:k=0:=by omega
     subst this;rw[←h] at d;rw[d];rfl
    ·exact l k (by omega)
 ·rwa[clauseOk,Yy0 (fun k q=>l k (by omega))] at o
def CnfR (F:Nat→Prop) (w:World) (v:Value) (c:Cnf):Prop:= ∃lv,v= .agg #[.int .i64 c.many,lv]∧Lists F w lv c.list
theorem k20 {v:Value} {xs:List Int} {b:Nat} {r:List Value} {t:TypeId} {m:Int} (f:Ints F w v xs) (e:Blk w b (.int .i64 m::r) t) (a:0≤m) (c:m≤9223372036854775807)
  (d:K (.bool (!clauseOk m xs)) w):vcall PP Xj #[v,.pointer (some ⟨b,0,none⟩)] w K:=by
 apply xp0
 simp(disch:=(simp only[push_cast];done)) only[push_cast,e.ld0]
 refine clauseOk_spec f a c ?_
 simp only[push_cast]
 exact d
theorem CnfOk_spec {v:Value} {c:Cnf} (q:CnfR F w v c) (hm: -9223372036854775808≤c.many) (t:c.many≤9223372036854775807) (o:∀w',Ext w w'→K (.bool (cnfOk c)) w'):vcall PP YK #[v] w K:=by
 apply jS0
 obtain⟨lv,rfl,s⟩:=q
 obtain⟨vs,m,n,hi⟩:=s
 refine qq fun b u y he hs h=>?_
 simp only[push_cast] at h
 have f:=o u he
 have d:=n.ext he
 simp(disch:=(simp only[push_cast];done)) only[push_cast,h.ld0,h.ld1,d.len]
 refine zh (fun a=>?_) (fun a=>?_)
 ·rwa[cnfOk,decide_eq_false (by omega: ¬0≤c.many),Bool.false_and,Bool.false_and,Bool.false_and] at f
 refine zh (fun a2=>?_) (fun a2=>?_)
 ·rwa[cnfOk,decide_eq_false (by omega: ¬c.many≤700),Bool.and_false,Bool.false_and,Bool.false_and] at f
 refine zh (fun a3=>?_) (fun a3=>?_)
 ·rwa[cnfOk,decide_eq_false (by omega: ¬c.list.length≤2500),Bool.and_false,Bool.false_and] at f
 refine Qs (p:=fun k=> !clauseOk c.many (c.list.getD k [])) d (fun i r w' K g j=>?_) fun x l=>?_
 ·simp only[push_cast]
  exact k20 ((hi i (by omega)).ext (he.trans g)) (h.ext g) (by omega) (by omega) (j _ (Same.refl _ _))
 ·simp only[push_cast]
  have e:(!(List.range vs.length).any fun k=> !clauseOk c.many (c.list.getD k []))=cnfOk c:=by
   rw[cnfOk,decide_eq_true (by omega:0≤c.many),decide_eq_true (by omega:c.many≤700),decide_eq_true (by omega:c.list.length≤2500),m,allI]
   rw[List.not_any_eq_all_not];simp
  rw[e]
  exact o x (he.trans l)
end Go.Proofs.YtaekfnbnhjgboaaGreatDoor
end
section
namespace Go.Proofs.YtaekfnbnhjgboaaGreatDoor
open Go Go.Vc Go.Proofs Go.M
variable {w:World} {K:Value→World→Prop} {F Fr F':Nat→Prop} {N:Nat} {c:Cnf}
structure RowsR (N:Nat) (Fr:Nat→Prop) (w:World) (ls:List Value) (xss:List (List Int)):Prop where
 nle:N≤w.heap.size
 own:∀i,i<xss.length→OwnI PP zg w (ls.getD i undef) (xss.getD i [])
 sub:∀i b,i<xss.length→(ls.getD i undef).ownBlock=some b→Fr b∧N≤b
 dj:∀i j b,i<j→j<xss.length→(ls.getD i undef).ownBlock=some b→(ls.getD j undef).ownBlock≠some b
section
variable {ls:List Value} {xss:List (List Int)} {w':World} {S F':Nat→Prop} {N:Nat}
theorem RowsR.same (h:RowsR N Fr w ls xss) (hw:Same S w w') (hF:∀x,Fr x→x<w.heap.size→¬S x):RowsR N Fr w' ls xss:=
 ⟨Nat.le_trans h.nle hw.size,fun i hi=>(h.own i hi).same hw fun b a=>hF b (h.sub i b hi a).1 ((h.own i hi).lt a),h.sub,h.dj⟩
theorem RowsR.ext (h:RowsR N Fr w ls xss) (hw:Ext w w'):RowsR N Fr w' ls xss:=h.same hw fun _ _ _ h=>h
theorem RowsR.weaken (h:RowsR N Fr w ls xss) (hF:∀b,Fr b→N≤b→b<w.heap.size→F' b):RowsR N F' w ls xss:=
 ⟨h.nle,h.own,fun i b hi a=>⟨hF b (h.sub i b hi a).1 (h.sub i b hi a).2 ((h.own i hi).lt a),(h.sub i b hi a).2⟩,h.dj⟩
theorem RowsR.nil (a:N≤w.heap.size):RowsR N Fr w [] []:=⟨a,fun i hi=>absurd hi (by simp),fun i b hi=>absurd hi (by simp),fun i j b _ c=>absurd c (by simp)⟩
theorem RowsR.snoc {v:Value} {xs:List Int} (h:RowsR N Fr w ls xss) (p:ls.length=xss.length) (q:OwnI PP zg w v xs) (hF:∀b,v.ownBlock=some b→Fr b∧N≤b) (o:∀i b,i<xss.length→(ls.getD i undef).ownBlock=some b→v.ownBlock≠some b):RowsR N Fr w (ls++[v]) (xss++[xs]):=by
 have g:∀i,i<(xss++[xs]).length→(i<xss.length∧(ls++[v]).getD i undef=ls.getD i undef∧(xss++[xs]).getD i []=xss.getD i [])∨(i=xss.length∧(ls++[v]).getD i undef=v∧(xss++[xs]).getD i []=xs):=fun i hi=>by
  simp only[List.length_append,List.length_singleton] at hi
  by_cases e:i<xss.length
  ·exact .inl ⟨e,xI0 (by omega),xI0 e⟩
  ·have c:i=xss.length:=by omega
   exact .inr ⟨c,by rw[c,←p];simp,by rw[c];simp⟩
 refine⟨h.nle,fun i hi=>?_,fun i b hi d=>?_,fun i j b l n d=>?_⟩
 ·rcases g i hi with⟨a,c,k⟩|⟨a,c,k⟩
  ·rw[c,k];exact h.own i a
  ·rw[c,k];exact q
 ·rcases g i hi with⟨a,c,k⟩|⟨a,c,k⟩
  ·rw[c] at d;exact h.sub i b a d
  ·rw[c] at d;exact hF b d
 ·rcases g i (by omega) with⟨a,c,k⟩|⟨a,c,k⟩
  ·rw[c] at d
   rcases g j n with⟨m,f,_⟩|⟨m,f,_⟩
   ·rw[f];exact h.dj i j b l m d
   ·rw[f];exact o i b a d
  ·simp only[List.length_append,List.length_singleton] at n
   omega
end
structure CnfO (N:Nat) (w:World) (lv:Value) (ls:List Value) (c:Cnf):Prop where
 lst:OwnV PP zC w lv ls
 len:ls.length=c.list.length
 dl:∀b,lv.ownBlock=some b→N≤b
 rows:RowsR N (fun b=>lv.ownBlock≠some b) w ls c.list
theorem CnfO.cnf {lv:Value} {ls:List Value} (h:CnfO N w lv ls c):CnfR (fun b=>N≤b) w (.agg #[.int .i64 c.many,lv]) c:=
 ⟨lv,rfl,ls,h.len,h.lst.vals.weaken fun b a _=>h.dl b a,fun i hi=>(h.rows.own i hi).ints.weaken fun b a _=>(h.rows.sub i b hi a).2⟩
theorem CnfO.same {lv:Value} {ls:List Value} {S:Nat→Prop} {w':World} (h:CnfO N w lv ls c) (hw:Same S w w') (d:∀b,N≤b→b<w.heap.size→¬S b):CnfO N w' lv ls c:=
 ⟨h.lst.same hw fun b a=>d b (h.dl b a) (h.lst.lt a),h.len,h.dl,⟨Nat.le_trans h.rows.nle hw.size,fun i hi=>(h.rows.own i hi).same hw fun b a=>d b (h.rows.sub i b hi a).2 ((h.rows.own i hi).lt a),h.rows.sub,h.rows.dj⟩⟩
theorem CnfO.ext {lv:Value} {ls:List Value} {w':World} (h:CnfO N w lv ls c) (hw:Ext w w'):CnfO N w' lv ls c:=h.same hw fun _ _ _ h=>h
theorem CnfO.down {lv:Value} {ls:List Value} {M:Nat} (h:CnfO N w lv ls c) (d:M≤N):CnfO M w lv ls c:=
 ⟨h.lst,h.len,fun b a=>Nat.le_trans d (h.dl b a),⟨Nat.le_trans d h.rows.nle,h.rows.own,fun i b hi a=>⟨(h.rows.sub i b hi a).1,Nat.le_trans d (h.rows.sub i b hi a).2⟩,h.rows.dj⟩⟩
end Go.Proofs.YtaekfnbnhjgboaaGreatDoor
end
section
namespace Go.Proofs.YtaekfnbnhjgboaaGreatDoor
open Go Go.Vc Go.Proofs
variable {w:World} {K:Value→World→Prop} {D F F' G Fr Fx Fy X:Nat→Prop} {n m N bl bc mb bb kb:Nat} {gs hs:M.Gs} {v xv yv dv tv:Value} {ls ls':List Value} {xss yss:List (List Int)} {xs ys env:List Int} {ds:List M.Dcl} {t:M.Tm} {ar ab:Addr} {k:Int} {st:Option M.Gs}
theorem RowsR.app (h:RowsR N Fr w ls xss) (r:ls.length=xss.length) (n:RowsR N Fr w ls' yss) (s:ls'.length=yss.length) (q:∀i j b,i<xss.length→j<yss.length→(ls.getD i undef).ownBlock=some b→(ls'.getD j undef).ownBlock≠some b):
  RowsR N Fr w (ls++ls') (xss++yss):=by
 have g1:∀{α:Type} {a b:List α} {d:α} {i:Nat},i<a.length→(a++b).getD i d=a.getD i d:=fun h=>by simp[List.getD_eq_getElem?_getD,List.getElem?_append_left h]
 have g2:∀{α:Type} {a b:List α} {d:α} {i:Nat},a.length≤i→(a++b).getD i d=b.getD (i-a.length) d:=fun h=>by simp[List.getD_eq_getElem?_getD,List.getElem?_append_right h]
 have sp:∀i,i<(xss++yss).length→(i<xss.length∧(ls++ls').getD i undef=ls.getD i undef∧(xss++yss).getD i []=xss.getD i [])∨(xss.length≤i∧i-xss.length<yss.length∧(ls++ls').getD i undef=ls'.getD (i-xss.length) undef∧(xss++yss).getD i []=yss.getD (i-xss.length) []):=fun i hi=>by
  rw[List.length_append] at hi
  by_cases c:i<xss.length
  ·exact .inl ⟨c,g1 (by omega),g1 c⟩
  ·exact .inr ⟨by omega,by omega,by rw[g2 (by omega),r],g2 (by omega)⟩
 refine⟨h.nle,fun i hi=>?_,fun i b hi f=>?_,fun i j b o p f=>?_⟩
 ·rcases sp i hi with⟨a,e,g⟩|⟨a,a2,e,g⟩
  ·rw[e,g];exact h.own i a
  ·rw[e,g];exact n.own _ a2
 ·rcases sp i hi with⟨a,e,g⟩|⟨a,a2,e,g⟩
  ·rw[e] at f;exact h.sub i b a f
  ·rw[e] at f;exact n.sub _ b a2 f
 ·rcases sp i (by omega) with⟨a,e,g⟩|⟨a,a2,e,g⟩
  ·rw[e] at f
   rcases sp j p with⟨c,k,m⟩|⟨c,l,k,m⟩
   ·rw[k];exact h.dj i j b o c f
   ·rw[k];exact q i _ b a l f
  ·rw[e] at f
   rcases sp j p with⟨c,k,m⟩|⟨c,l,k,m⟩
   ·omega
   ·rw[k];exact n.dj _ _ b (by omega) l f
theorem RowsR.new {w0:World} {r:Value} (h:RowsR N Fr w0 ls xss) (d:ls.length=xss.length) (hw:Ext w0 w) (f:OwnI PP zg w r xs) (c:∀b,r.ownBlock=some b→w0.heap.size≤b) (hF:∀b,r.ownBlock=some b→Fr b):RowsR N Fr w (ls++[r]) (xss++[xs]):=
 RowsR.snoc (h.ext hw) d f (fun b a=>⟨hF b a,Nat.le_trans h.nle (c b a)⟩) fun i b hi a e=>by
  have:=(h.own i hi).lt a
  have:=c b e
  omega
theorem lit_ints {us:List Int} {xs:List Value} (a:xs=us.map fun x=>Value.int .i64 x) (f:us.length≤8) (d:∀w' b,b=w.heap.size→Ext w w'→w'.heap.size=w.heap.size+1→OwnI PP zg w' (.slice (some ⟨b,0,none⟩) us.length us.length) us→K (.slice (some ⟨b,0,none⟩) us.length us.length) w'):
  vbuildS PP zg xs.length (xs.zipIdx.map fun p=>(p.2,p.1)) w K:=by
 have hlen:xs.length=us.length:=by rw[a,List.length_map]
 refine vbuildS_row1 ju qR jS (fun x h=>by subst a;obtain⟨y,_,rfl⟩:=List.mem_map.1 h;rfl) (by omega) fun b w' e he hs c=>?_
 rw[hlen]
 refine d w' b e he hs ?_
 unfold OwnI OwnV
 rw[←a]
 exact Blk.own1 (P:=PP) (t:=zg) (cs:=xs) (by rw[Qj];exact c) (Nat.zero_le _) hlen.symm hlen.symm (by omega)
theorem lit_lists {xs:List Value} (f:∀x,x∈xs→∃o l c,x= .slice o l c) (g:xs.length≤8) (d:∀w' b,b=w.heap.size→Ext w w'→w'.heap.size=w.heap.size+1→OwnV PP zC w' (.slice (some ⟨b,0,none⟩) xs.length xs.length) xs→K (.slice (some ⟨b,0,none⟩) xs.length xs.length) w'):
  vbuildS PP zC xs.length (xs.zipIdx.map fun p=>(p.2,p.1)) w K:=by
 refine vbuildS_row1 k80 xy0 k30 (fun x h=>by obtain⟨o,l,c,rfl⟩:=f x h;rfl) (by omega) fun b w' e he hs a=>?_
 exact d w' b e he hs (Blk.own1 (P:=PP) (t:=zC) (cs:=xs) (by rw[kS0];exact a) (Nat.zero_le _) rfl rfl (by omega))
structure Fresh (N:Nat) (w:World) (v:Value) (ls:List Value) (xss:List (List Int)):Prop where
 own:OwnV PP zC w v ls
 len:ls.length=xss.length
 new:∀b,v.ownBlock=some b→N≤b
 rows:RowsR N (fun b=>v.ownBlock≠some b) w ls xss
theorem neg_wrap {x:Int} (h:x.natAbs≤100000):IntKind.i64.wrap (0-x)= -x:=by rw[zy (by omega) (by omega)];omega
theorem Gate_clauses_spec {g:M.Gt} (t:g.a.natAbs≤100000) (h:g.b.natAbs≤100000) (u:k.natAbs≤100000) (L:∀w' v ls,Ext w w'→Fresh w.heap.size w' v ls (M.gateC k g)→K v w'):vcall PP jP #[gv g,.int .i64 k] w K:=by
 apply VN
 refine zD (cs:=yF g) fun b1 T X E Y f=>?_
 simp(disch:=first|(simp only[push_cast];done)|omega) only[push_cast,yF,f.ld0,f.ld1,f.ld2,neg_wrap t,neg_wrap h,neg_wrap u]
 have z1:=E.size
 have lit:∀{n:Nat} {j:World} {us:List Int} {xs:List Value} {ls:List Value} {xss:List (List Int)} {K:Value→World→Prop},xs=us.map (fun x=>Value.int .i64 x)→us.length≤8→Ext T j→RowsR w.heap.size (fun b=>b<j.heap.size) j ls xss→ls.length=xss.length→
   (∀r v,Ext T r→RowsR w.heap.size (fun b=>b<r.heap.size) r (ls++[v]) (xss++[us])→(∃o l c,v= .slice o l c)→K v r)→vbuildS PP zg xs.length (xs.zipIdx.map fun p=>(p.2,p.1)) j K:=fun{n j us xs ls xss K} i J he P O L=>by
  refine lit_ints i J fun r b3 N d S s=>?_
  refine L r _ (he.trans d) (RowsR.new (P.weaken fun b W _ _=>by omega) O d s (fun b h=>?_) fun b h=>s.lt h) ⟨_,_,_,rfl⟩
  have:b=b3:=(Option.some.inj h).symm
  omega
 have fin:∀{j:World} {xs:List Value} {xss:List (List Int)},xs.length≤8→xs.length=xss.length→(∀x,x∈xs→∃o l c,x= .slice o l c)→Ext T j→RowsR w.heap.size (fun b=>b<j.heap.size) j xs xss→xss=M.gateC k g→vbuildS PP zC xs.length (xs.zipIdx.map fun p=>(p.2,p.1)) j K:=fun{j xs xss} J O i he P U=>by
  refine lit_lists i J fun r b3 N d S s=>?_
  have z2:=he.size
  refine L r _ xs (E.trans (he.trans d)) ⟨s,by rw[←U];exact O,fun b h=>?_,?_⟩
  ·have:b=b3:=(Option.some.inj h).symm
   omega
  ·rw[←U]
   exact(P.ext d).weaken fun b W _ _ e=>by
    have:b3=b:=Option.some.inj e
    omega
 refine y9 (fun i=>?_) (fun i=>?_)
 ·refine lit (n:=3) (xs:=[.int .i64 g.a,.int .i64 g.b,.int .i64 (-k)]) (us:=[g.a,g.b,-k]) rfl (by simp) (Same.refl _ _) (RowsR.nil (by omega)) rfl fun j v2 m y B=>?_
  have G:=f.ext m
  try simp(disch:=first|(simp only[push_cast];done)|omega) only[push_cast,G.ld1,G.ld2,neg_wrap t,neg_wrap h,neg_wrap u]
  refine lit (n:=3) (xs:=[.int .i64 (-g.a),.int .i64 (-g.b),.int .i64 (-k)]) (us:=[-g.a,-g.b,-k]) rfl (by simp) m y rfl fun r v3 d z C=>?_
  have H:=f.ext d
  try simp(disch:=first|(simp only[push_cast];done)|omega) only[push_cast,H.ld1,H.ld2,neg_wrap t,neg_wrap h,neg_wrap u]
  refine lit (n:=3) (xs:=[.int .i64 (-g.a),.int .i64 g.b,.int .i64 k]) (us:=[-g.a,g.b,k]) rfl (by simp) d z rfl fun Z v4 q A D=>?_
  have I:=f.ext q
  try simp(disch:=first|(simp only[push_cast];done)|omega) only[push_cast,I.ld1,I.ld2,neg_wrap t,neg_wrap h,neg_wrap u]
  refine lit (n:=3) (xs:=[.int .i64 g.a,.int .i64 (-g.b),.int .i64 k]) (us:=[g.a,-g.b,k]) rfl (by simp) q A rfl fun w5 v5 F Q R=>?_
  have V:=f.ext F
  try simp(disch:=first|(simp only[push_cast];done)|omega) only[push_cast,V.ld1,V.ld2,neg_wrap t,neg_wrap h,neg_wrap u]
  refine fin (xs:=[v2,v3,v4,v5]) (by simp) rfl (fun x i=>?_) F Q (by unfold M.gateC;rw[if_pos i];rfl)
  simp only[List.mem_cons,List.not_mem_nil,or_false] at i
  rcases i with rfl|rfl|rfl|rfl
  ·exact B
  ·exact C
  ·exact D
  ·exact R
 ·refine lit (n:=2) (xs:=[.int .i64 g.a,.int .i64 (-k)]) (us:=[g.a,-k]) rfl (by simp) (Same.refl _ _) (RowsR.nil (by omega)) rfl fun j v2 m y B=>?_
  have G:=f.ext m
  try simp(disch:=first|(simp only[push_cast];done)|omega) only[push_cast,G.ld1,G.ld2,neg_wrap t,neg_wrap h,neg_wrap u]
  refine lit (n:=2) (xs:=[.int .i64 g.b,.int .i64 (-k)]) (us:=[g.b,-k]) rfl (by simp) m y rfl fun r v3 d z C=>?_
  have H:=f.ext d
  try simp(disch:=first|(simp only[push_cast];done)|omega) only[push_cast,H.ld1,H.ld2,neg_wrap t,neg_wrap h,neg_wrap u]
  refine lit (n:=3) (xs:=[.int .i64 (-g.a),.int .i64 (-g.b),.int .i64 k]) (us:=[-g.a,-g.b,k]) rfl (by simp) d z rfl fun Z v4 q A D=>?_
  have I:=f.ext q
  try simp(disch:=first|(simp only[push_cast];done)|omega) only[push_cast,I.ld1,I.ld2,neg_wrap t,neg_wrap h,neg_wrap u]
  refine fin (xs:=[v2,v3,v4]) (by simp) rfl (fun x i=>?_) q A (by unfold M.gateC;rw[if_neg (by simp[i])];rfl)
  simp only[List.mem_cons,List.not_mem_nil,or_false] at i
  rcases i with rfl|rfl|rfl
  ·exact B
  ·exact C
  ·exact D
theorem gatesC_app (n:Nat):∀(a b:M.Gs) (j:Nat),M.gatesC n (a++b) j=M.gatesC n a j++M.gatesC n b (j+a.length)
 |[],b,j=>by simp[M.gatesC]
 |g::a,b,j=>by
  show M.gateC _ g++M.gatesC n (a++b) (j+1)=(M.gateC _ g++M.gatesC n a (j+1))++M.gatesC n b (j+(g::a).length)
  rw[gatesC_app n a b (j+1),List.append_assoc,List.length_cons,show j+1+a.length=j+(a.length+1) by omega]
theorem gatesC_take {i:Nat} (hi:i<gs.length):M.gatesC n (gs.take (i+1)) 0=M.gatesC n (gs.take i) 0++M.gateC (2+n+i) gs[i]:=by
 have a:gs.take (i+1)=gs.take i++[gs[i]]:=by rw[List.take_add_one,List.getElem?_eq_getElem hi];rfl
 rw[a,gatesC_app]
 simp only[M.gatesC,List.append_nil,List.length_take,Nat.zero_add]
 rw[Nat.min_eq_left (by omega)]
def CnfI (w2:World) (m:Int) (d:Nat→Prop) (u:List Value) (w':World):Prop:=
 Ext w2 w'∧(d 10→sl 1 u= .int .i64 m)∧(d 11→∃b,sl 2 u= .slice (some ⟨b,0,none⟩) 1 1∧OwnI PP zg w' (.slice (some ⟨b,0,none⟩) 1 1) [1]∧w2.heap.size≤b)∧
 (d 12→d 11∧∃b,sl 3 u= .slice (some ⟨b,0,none⟩) 1 1∧OwnV PP zC w' (.slice (some ⟨b,0,none⟩) 1 1) [sl 2 u]∧w2.heap.size≤b∧(sl 2 u).ownBlock≠some b)∧
 (d 13→d 10∧d 12∧sl 4 u= .agg ⟨[sl 1 u,sl 3 u]⟩)∧(d 14→∃b cs,sl 0 u= .pointer (some ⟨b,0,none⟩)∧w2.heap.size≤b∧Blk w' b cs zm∧cs.length=2∧(d 15→cs=[sl 1 u,sl 3 u])∧(d 11→(sl 2 u).ownBlock≠some b)∧(d 12→(sl 3 u).ownBlock≠some b))∧(d 15→d 14∧d 13)
theorem gpos {i:Nat} (c:M.NetG n gs) (j:n≤8) (hi:i<gs.length):gs[i].a.natAbs≤100000∧gs[i].b.natAbs≤100000:=by
 obtain⟨g,d,f,h⟩:=c.gate i hi
 have:=c.few
 have e:∀a:Int,M.absI a=(a.natAbs:Int):=fun a=>by unfold M.absI;split<;>omega
 rw[e,e] at d
 rw[e] at f
 omega
theorem Qi (n:Nat):∀(gs:M.Gs) (j:Nat),(M.gatesC n gs j).length≤4*gs.length:=fun gs j=>M.gatesC_len gs j
theorem cnf8_spec (hc:CktR n bc w gs v mb) (hg:M.NetG n gs) (hK:∀w' lv ls,Ext w w'→CnfO w.heap.size w' lv ls (M.netC n gs [])→K (.agg #[.int .i64 (1+n+gs.length:Nat),lv]) w'):vcall PP kk #[.pointer (some ⟨bc,0,none⟩)] w K:=by
 apply Wi
 have bz:=hc.few.2
 have cd:=hg.few
 refine zF xS fun b1 w1 ci b8 cm bo=>?_
 refine zx fun H ah _=>?_
 have e2:=b8.trans ah
 have ag:=hc.blk.ext e2
 have b6:=bo.ext ah
 have P:∀{w':World},Ext H w'→∀K:Value→World→Prop,zf PP zk (.pointer (some ⟨bc,0,none⟩)) w' K=K (.agg ⟨[.int .i64 n,v]⟩) w':=fun{w'} h K=>Blk.ldTake (us:=[.int .i64 n,v]) (r:=[.map (some mb)]) (ag.ext h) yl
 have hlen:∀(w':World) (K:Value→World→Prop),vbi PP .len [zn] zb [v] w' K=K (.int .i64 gs.length) w':=fun w' K=>Yd0 (Own.ext hc.own e2)
 simp(disch:=first|(simp only[push_cast];done)|omega) only[push_cast,ag.ld1,P (Same.refl _ _),hlen,true_and]
 obtain⟨m,hm⟩:∃m:Int,m=(1+n+gs.length:Nat):=⟨_,rfl⟩
 refine⟨CnfI H m,⟨Same.refl _ _,by simp,by simp,by simp,by simp,by simp,by simp⟩,?_⟩
 rintro d u _ V ⟨A,i10,i11,i12,i13,i14,i15⟩
 have br:=ag.ext A
 have z3:=A.size
 simp(disch:=first|(simp only[push_cast];done)|omega) only[push_cast,br.ld1,P A,hlen,true_and,and_self]
 generalize sl 0 u=a0 at*
 generalize sl 1 u=a1 at*
 generalize sl 2 u=a2 at*
 generalize sl 3 u=a3 at*
 generalize sl 4 u=a4 at*
 have res:∀{i j:Nat} {p:Prop},i≠j→(i=j∨p)→p:=fun h U=>U.resolve_left h
 have t11:∀{G:World},Ext V G→d 11→∃b,a2= .slice (some ⟨b,0,none⟩) 1 1∧OwnI PP zg G (.slice (some ⟨b,0,none⟩) 1 1) [1]∧H.heap.size≤b:=fun he h=>by
  obtain⟨b,x,y,z⟩:=i11 h;exact⟨b,x,y.ext he,z⟩
 have t12:∀{G:World},Ext V G→d 12→∃b,a3= .slice (some ⟨b,0,none⟩) 1 1∧OwnV PP zC G (.slice (some ⟨b,0,none⟩) 1 1) [a2]∧H.heap.size≤b∧a2.ownBlock≠some b:=fun he h=>by
  obtain⟨_,b,x,y,z⟩:=i12 h;exact⟨b,x,y.ext he,z⟩
 have t14:∀{G:World},Ext V G→d 14→∃b cs,a0= .pointer (some ⟨b,0,none⟩)∧H.heap.size≤b∧Blk G b cs zm∧cs.length=2∧(d 15→cs=[a1,a3])∧(d 11→a2.ownBlock≠some b)∧(d 12→a3.ownBlock≠some b)∧b<V.heap.size:=fun he h=>by
  obtain⟨b,cs,x,y,z,q1,q2,q3,q4⟩:=i14 h;exact⟨b,cs,x,y,z.ext he,q1,q2,q3,q4,z.lt⟩
 refine⟨⟨fun an=>?_,fun c8=>?_,fun ao R=>?_,fun ct Z S=>?_,fun c9=>?_,fun cu a5 ap _ _ _ _ _ _=>?_,trivial⟩,fun Z R S ap a5 cc=>?_⟩
 ·refine nodes_spec (by omega) (by omega) fun G f=>?_
  refine⟨A.trans f,fun _=>?_,fun h=>t11 f (res (by decide) h),fun h=>⟨.inr (i12 (res (by decide) h)).1,t12 f (res (by decide) h)⟩,fun h=>absurd (i13 (res (by decide) h)).1 an,fun h=>?_,fun h=>absurd (i13 (i15 (res (by decide) h)).2).1 an⟩
  ·show Value.int .i64 _=_
   congr 1;omega
  ·obtain⟨b,cs,x,y,z,q1,q2,q3,q4,_⟩:=t14 f (res (by decide) h)
   exact⟨b,cs,x,y,z,q1,fun h=>absurd (i13 (i15 (res (by decide) h)).2).1 an,fun h=>q3 (res (by decide) h),fun h=>q4 (res (by decide) h)⟩
 ·have F: ¬d 12:=fun h=>c8 (i12 h).1
  refine lit_ints (xs:=[.int .i64 1]) (us:=[1]) rfl (by simp) fun G b4 b7 f am E=>?_
  refine⟨A.trans f,fun h=>i10 (res (by decide) h),fun _=>⟨b4,rfl,E,by omega⟩,fun h=>absurd (res (by decide) h) F,fun h=>absurd (i13 (res (by decide) h)).2.1 F,fun h=>?_,fun h=>absurd (i13 (i15 (res (by decide) h)).2).2.1 F⟩
  obtain⟨b,cs,x,y,z,q1,q2,q3,q4,q5⟩:=t14 f (res (by decide) h)
  exact⟨b,cs,x,y,z,q1,fun h=>absurd (i13 (i15 (res (by decide) h)).2).2.1 F,fun _ e=>by have e6:b4=b:=Option.some.inj e;omega,fun h=>absurd (res (by decide) h) F⟩
 ·obtain⟨b2,ar,o2,l2⟩:=i11 R
  have cr:b2<V.heap.size:=o2.lt rfl
  refine lit_lists (xs:=[a2]) (fun x hx=>by rw[List.mem_singleton.1 hx];exact⟨_,_,_,ar⟩) (by simp) fun G b4 b7 f am E=>?_
  refine⟨A.trans f,fun h=>i10 (res (by decide) h),fun h=>t11 f (res (by decide) h),fun _=>⟨.inr R,b4,rfl,E,by omega,?_⟩,fun h=>absurd (i13 (res (by decide) h)).2.1 ao,fun h=>?_,fun h=>absurd (i13 (i15 (res (by decide) h)).2).2.1 ao⟩
  ·show a2.ownBlock≠some b4
   rw[ar]
   intro e
   have e6:b2=b4:=Option.some.inj e
   omega
  ·obtain⟨b,cs,x,y,z,q1,q2,q3,q4,q5⟩:=t14 f (res (by decide) h)
   exact⟨b,cs,x,y,z,q1,fun h=>absurd (i13 (i15 (res (by decide) h)).2).2.1 ao,fun h=>q3 (res (by decide) h),fun _ e=>by have e6:b4=b:=Option.some.inj e;omega⟩
 ·obtain⟨_,b3,ac,o3,l3,n3⟩:=i12 S
  have ab:=i10 Z
  have bu:∀K:Value→World→Prop,zH PP zm [(0,a1),(1,a3)] V K=K (.agg ⟨[a1,a3]⟩) V:=fun K=>by
   rw[ab,ac]
   exact yh UH (us:=[[.int .i64 m],[.slice (some ⟨b3,0,none⟩) 1 1]]) rfl rfl
  rw[bu]
  refine⟨rfl,A,fun h=>i10 (res (by decide) h),fun h=>t11 (Same.refl _ _) (res (by decide) h),fun h=>⟨.inr (i12 (res (by decide) h)).1,t12 (Same.refl _ _) (res (by decide) h)⟩,fun _=>⟨.inr Z,.inr S,rfl⟩,fun h=>?_,fun h=>⟨.inr (i15 (res (by decide) h)).1,.inl rfl⟩⟩
  obtain⟨b,cs,x,y,z,q1,q2,q3,q4,q5⟩:=t14 (Same.refl _ _) (res (by decide) h)
  exact⟨b,cs,x,y,z,q1,fun h=>q2 (res (by decide) h),fun h=>q3 (res (by decide) h),fun h=>q4 (res (by decide) h)⟩
 ·have aa: ¬d 15:=fun h=>c9 (i15 h).1
  refine zF xS fun b4 G b7 f am B=>?_
  refine⟨A.trans f,fun h=>i10 (res (by decide) h),fun h=>t11 f (res (by decide) h),fun h=>⟨.inr (i12 (res (by decide) h)).1,t12 f (res (by decide) h)⟩,fun h=>?_,fun _=>⟨b4,_,rfl,by omega,B,rfl,fun h=>absurd (res (by decide) h) aa,fun h e=>?_,fun h e=>?_⟩,fun h=>absurd (res (by decide) h) aa⟩
  ·obtain⟨x,y,z⟩:=i13 (res (by decide) h)
   exact⟨.inr x,.inr y,z⟩
  ·obtain⟨b,x,y,z⟩:=i11 (res (by decide) h)
   have e':a2.ownBlock=some b4:=e
   rw[x] at e'
   have e6:b=b4:=Option.some.inj e'
   have lt4:b<V.heap.size:=y.lt rfl
   omega
  ·obtain⟨_,b,x,y,z⟩:=i12 (res (by decide) h)
   have e':a3.ownBlock=some b4:=e
   rw[x] at e'
   have e6:b=b4:=Option.some.inj e'
   have lt4:b<V.heap.size:=y.lt rfl
   omega
 ·obtain⟨bj,a6,bm⟩:=i13 ap
  obtain⟨T,cs,bk,l0,B0,ba,_,n2,n3⟩:=i14 a5
  have ab:=i10 bj
  obtain⟨aq,b3,ac,o3,l3,_⟩:=i12 a6
  subst bm bk ab ac
  refine B0.stAgg (cs':=[.int .i64 m,.slice (some ⟨b3,0,none⟩) 1 1]) (by rw[ba];rfl) yi net_one fun G ak am B=>?_
  refine⟨Ext.then A ak fun y hy=>by subst hy;exact l0,fun _=>rfl,fun h=>?_,fun h=>?_,fun _=>⟨.inr bj,.inr a6,rfl⟩,fun _=>⟨T,_,rfl,l0,B,rfl,fun _=>rfl,fun h=>n2 (res (by decide) h),fun h=>n3 (res (by decide) h)⟩,fun _=>⟨.inr a5,.inr ap⟩⟩
  ·obtain⟨b,x,y,z⟩:=i11 aq
   refine⟨b,x,y.same ak fun c hc e=>?_,z⟩
   have U:=n2 aq
   rw[x] at U
   exact U (hc.trans (by rw[e]))
  ·refine⟨.inr aq,b3,rfl,o3.same ak fun c hc e=>?_,l3,?_⟩
   ·exact n3 a6 (hc.trans (by rw[e]))
   ·obtain⟨_,b,x,y,z,q⟩:=i12 a6
    cases x
    exact q
 obtain⟨b2,x2,o2,l2⟩:=i11 R
 obtain⟨_,b3,x3,o3,l3,d23⟩:=i12 S
 obtain⟨T,cs,x0,l0,B0,ba,bn,n2,n3⟩:=i14 a5
 have bv:=bn cc
 have ca:=n2 R
 have cb:=n3 S
 have c5:=i10 Z
 subst bv x0 x3 x2 c5
 have z1:=b8.size
 have bg:RowsR H.heap.size (fun b=>b≠b3∧b≠T) V [.slice (some ⟨b2,0,none⟩) 1 1] [[1]]:=by
  refine RowsR.snoc (RowsR.nil z3) rfl o2 (fun b k=>⟨⟨fun e=>d23 (k.trans (by rw[e])),fun e=>ca (k.trans (by rw[e]))⟩,?_⟩) (fun i b hi=>absurd hi (by simp))
  have e6:b2=b:=Option.some.inj k
  omega
 have bs:∀{w':World},Ext H w'→GatesR (fun b=>v.ownBlock=some b) w' v gs:=fun h=>Sl.ext (Own.sl hc.own) (e2.trans h)
 refine vloop_up gs.length (fun i u w'=>u=[.int .i64 i]∧Ext H w'∧∃lv ls,Blk w' T [.int .i64 m,lv] zm∧OwnV PP zC w' lv ls∧ls.length=([1]::M.gatesC n (gs.take i) 0).length∧RowsR H.heap.size (fun b=>lv.ownBlock≠some b∧b≠T) w' ls ([1]::M.gatesC n (gs.take i) 0)∧∀b,lv.ownBlock=some b→H.heap.size≤b∧b≠T)
  ⟨rfl,A,_,_,B0,o3,rfl,bg.weaken fun b s _ _=>⟨fun e=>s.1 (by have e6:b3=b:=Option.some.inj e;exact e6.symm),s.2⟩,fun b k=>⟨by have e6:b3=b:=Option.some.inj k;omega,fun e=>cb (k.trans (by rw[e]))⟩⟩ ?_
 rintro i _ _ G C hi ⟨rfl,f,lv,ls,B,E,N,X,O⟩ hC
 simp only[push_cast]
 have e4:=e2.trans f
 have bl:=f
 have z4:=f.size
 refine zh (fun a=>?_) (fun a=>?_)
 ·have L:i<gs.length:=by omega
  have bh:=bs f
  rw[Sl.iaddr bh Jp (by omega) (by rw[kP0];omega),Int.toNat_natCast,Sl.ldAgg bh qB (by rw[kP0];exact L),jk0 L]
  obtain⟨ha,k⟩:=gpos hg bz L
  have b9:=gatesC_take (n:=n) L
  generalize ck:gs[i]=g at*
  refine zF YA fun b5 w5 cj bw c7 af=>?_
  refine af.stAgg (cs':=yF g) rfl qB (gone [g] _ (by simp)) fun w6 c4 cn bp=>?_
  have au:Ext G w6:=Ext.then bw c4 fun y hy=>by subst hy;omega
  refine zx fun w7 ai _=>?_
  have ad:=au.trans ai
  have bq:=bp.ext ai
  have ax:=B.ext ad
  have bb:∀{w':World},Ext w7 w'→∀K:Value→World→Prop,zf PP zo (.pointer (some ⟨b5,0,none⟩)) w' K=K (gv g) w':=fun h K=>Blk.ldAgg (bq.ext h) (by exact qB)
  simp(disch:=first|(simp only[push_cast];done)|omega) only[push_cast,ax.ld1,bb (Same.refl _ _),P (bl.trans ad),true_and]
  refine nodes_spec (by omega) (by omega) fun w8 W=>?_
  have ay:=ax.ext W
  simp(disch:=first|(simp only[push_cast];done)|omega) only[push_cast,ay.ld1,bb W,true_and,and_self,zy]
  rw[show(1+(n:Int)+(i:Int)+1)=2+n+i by omega]
  refine Gate_clauses_spec ha k (by omega) fun w9 v9 Y aj D=>?_
  have az:=ay.ext aj
  have ae:=ad.trans (W.trans aj)
  simp(disch:=first|(simp only[push_cast];done)|omega) only[push_cast,az.ld1,true_and,and_self]
  have cp:=W.size;have co:=ai.size;have ch:=au.size;have cq:=aj.size
  have cl:ls.length≤2401:=by
   have s:=Qi n (gs.take i) 0
   have U:(gs.take i).length=i:=by rw[List.length_take];omega
   rw[N,List.length_cons];omega
  have ce:Y.length≤4:=by rw[D.len];unfold M.gateC;split<;>simp
  refine OwnV.app (us:=Y) (E.ext ae) y00 D.own.vals (fun u hu=>?_) (by omega) (by omega) fun v10 w10 Q I a7=>?_
  ·obtain⟨j,hj,rfl⟩:=List.getElem_of_mem hu
   have c0:=D.rows.own j (by rw[←D.len];exact hj)
   obtain⟨o,c,e,_⟩:=c0.ints.shape
   rw[List.getD_eq_getElem?_getD,List.getElem?_eq_getElem hj,Option.getD_some] at e
   rw[e];rfl
  have cf:=I.size
  have aw:=az.same I fun e=>(O _ e).2 rfl
  try simp only[push_cast,true_and]
  refine aw.st (i:=1) (v:=v10) ?_ ?_ xO0 (by rfl) fun cv J cg av=>?_
  ·obtain⟨o,c,e,_⟩:=Q.vals.shape;rw[e];rfl
  ·obtain⟨o,c,e,_⟩:=Q.vals.shape;rw[e];rfl
  try simp(disch:=omega) only[push_cast,zy]
  have c6:=J.size
  have bi:∀b,lv.ownBlock=some b→b<G.heap.size:=fun b k=>E.lt k
  have c1:RowsR H.heap.size (fun b=>lv.ownBlock≠some b∧b≠T) w9 ls ([1]::M.gatesC n (gs.take i) 0):=X.ext ae
  have c3:RowsR H.heap.size (fun b=>lv.ownBlock≠some b∧b≠T) w9 Y (M.gateC (2+n+i) g):=by
   have s:=D.rows
   refine⟨by omega,s.own,fun j b hj k=>?_,s.dj⟩
   have U:=(s.sub j b hj k).2
   exact⟨⟨fun e=>by have h6:=bi b e;omega,fun e=>by have:=B.lt;omega⟩,by omega⟩
  have c2:=c1.app N c3 D.len fun j1 j2 b s U k e=>by
   have:=(X.own j1 s).lt k
   have:=(D.rows.sub j2 b U e).2
   omega
  have a9:∀b,v10.ownBlock=some b→H.heap.size≤b∧b≠T:=fun b k=>by
   rcases a7 b k with h|h
   ·exact O b h
   ·have:=B.lt;exact⟨by omega,fun e=>by omega⟩
  refine hC L _ _ ⟨by simp,?_,v10,ls++Y,av,Q.same J fun b k e=>(a9 b k).2 e,?_,?_,a9⟩
  ·exact Ext.then (Ext.then (f.trans ae) I fun b k=>(O b k).1) J fun b k=>by subst k;exact l0
  ·rw[b9,List.length_append,N,D.len,List.length_cons,List.length_cons,List.length_append]
   omega
  ·rw[b9,←List.cons_append]
   have bf:=c2.weaken (F':=fun b=>(lv.ownBlock≠some b∧b≠T)∧b<w9.heap.size) fun b s _ h3=>⟨s,h3⟩
   refine((bf.same I fun b s _ e=>s.1.1 e).same J fun b s _ e=>s.1.2 e).weaken fun b s _ _=>⟨fun e=>?_,s.1.2⟩
   rcases a7 b e with h|h
   ·exact s.1.1 h
   ·omega
 ·have bx:i=gs.length:=by omega
  subst bx
  rw[List.take_length] at N X
  have bt:=b6.ext f
  obtain⟨o,c,bd,_⟩:=E.vals.shape
  generalize (ls.map fun x=>[x]).length=l at bd
  subst bd
  rw[B.ldAgg (t:=zm) yi]
  have z2:=ah.size
  refine bt.stAgg (cs':=[.int .i64 m,.slice o l c]) rfl yi net_one fun w5 al c7 af=>?_
  rw[af.lv (t:=zm) yi,hm]
  have a8:Ext w w5:=Ext.then e4 al fun y hy=>by subst hy;omega
  have be:∀b,H.heap.size≤b→b≠b1:=fun b k e=>by have:=b6.lt;omega
  refine hK w5 _ ls a8 ⟨E.same al fun b k e=>be b (O b k).1 e,by rw[N];show _=([1]::(M.gatesC n gs 0++[])).length;rw[List.append_nil],fun b k=>by have:=(O b k).1;omega,?_⟩
  show RowsR _ _ _ _ ([1]::(M.gatesC n gs 0++[]))
  rw[List.append_nil]
  have s:=(X.weaken (F':=fun b=>(Value.slice o l c).ownBlock≠some b∧H.heap.size≤b) fun b s U _=>⟨s.1,U⟩).same al fun b s _ e=>be b s.2 e
  exact⟨by have:=a8.size;omega,s.own,fun i b hi k=>⟨(s.sub i b hi k).1.1,by have:=(s.sub i b hi k).1.2;omega⟩,s.dj⟩
end Go.Proofs.YtaekfnbnhjgboaaGreatDoor
end
section
namespace Go.Proofs.YtaekfnbnhjgboaaGreatDoor
open Go Go.Vc Go.Proofs
variable {w:World} {K:Value→World→Prop} {D F F' G Fr Fx Fy X:Nat→Prop} {n m N bl bc mb bb kb:Nat} {gs hs:M.Gs} {v xv yv dv tv f:Value} {ls ls':List Value} {xss yss:List (List Int)} {xs ys env:List Int} {ds:List M.Dcl} {t:M.Tm} {ts ks:List M.Tm} {ar ab at_:Addr} {k:Int} {st:Option M.Gs}
theorem ContainsT {p:M.Tm→Bool} (m:TmsR F w v ks) (s:∀(w':World) (x:Value) (t:M.Tm) (K:Value→World→Prop),Ext w w'→t∈ks→TermR F w' x t→(∀w'',Ext w' w''→K (.bool (p t)) w'')→vcallv PP f #[x] w' K) (o:∀w',Ext w w'→K (.bool (ks.any p)) w'):
  vcall PP yH #[v,f] w K:=by
 apply qD
 apply j8
 have y:=m.small
 simp(disch:=(simp only[push_cast];done)) only[push_cast,m.len]
 refine vloop_up ks.length (fun i u w'=>u=[.int .i64 i]∧Ext w w'∧∀j,j<i→p (ks.getD j default)=false) ⟨rfl,Same.refl _ _,fun j l=>absurd l (by omega)⟩ ?_
 rintro i _ _ q C hi ⟨rfl,a,g⟩ r
 have k:=m.ext a
 simp only[push_cast]
 refine zh (fun b=>?_) (fun b=>?_)
 ·have d:i<ks.length:=by omega
  simp(disch:=first|(simp only[push_cast];done)|omega) only[push_cast,k.iaddr]
  refine k.load zI d fun x n=>?_
  refine s q x _ _ a (M.getD_mem d _) n fun z h=>?_
  refine y9 (fun c=>?_) (fun c=>?_)
  ·try simp only[push_cast]
   rw[decide_eq_true (by omega)]
   have:=o z (a.trans h)
   rwa[List.any_eq_true.2 ⟨_,M.getD_mem d _,c⟩] at this
  ·rw[inc64' (by omega)]
   refine r d _ _ ⟨rfl,a.trans h,fun j l=>?_⟩
   by_cases e:j<i
   ·exact g j e
   ·have:j=i:=by omega
    subst this;exact c
 ·try simp only[push_cast]
  rw[decide_eq_false (by omega)]
  have:=o q a
  rwa[show ks.any p=false from by
   rw[List.any_eq_false]
   intro x n
   obtain⟨j,l,rfl⟩:=List.getElem_of_mem n
   have:=g j (by omega)
   rw[List.getD_eq_getElem?_getD,List.getElem?_eq_getElem l,Option.getD_some] at this
   rw[this];decide] at this
def Yz0 (ds:List M.Dcl) (ts:List M.Tm):Bool:=decide (ts.length≤8)&&M.declOk ds&&ts.all fun t=>decide (M.tsort ds t=0)
theorem all8_iff:Yz0 ds ts=true↔ts.length≤8∧M.declOk ds=true∧∀t,t∈ts→M.tsort ds t=0:=by
 simp only[Yz0,Bool.and_eq_true,decide_eq_true_eq,List.all_eq_true,and_assoc]
def cnfE (ds:List M.Dcl) (ts:List M.Tm):M.Cnf×Nat:=if Yz0 ds ts=true then(match M.listB ds ts with
 |some r=>(M.blastC ds r.1 r.2,0)
 |none=>(⟨0,[]⟩,1)) else(⟨0,[]⟩,2)
def errV (ar at_:Addr):Nat→Value
 |0=> .nilIface
 |1=>erv ar
 |_=>erv at_
theorem zG0 {N:Nat} (a:N≤w.heap.size):CnfO N w (.slice none 0 0) [] ⟨0,[]⟩:=⟨OwnV.nil,rfl,fun b c=>(by cases c),RowsR.nil a⟩
theorem qX0:zH PP zm [] w K=K (.agg ⟨[.int .i64 0,.slice none 0 0]⟩) w:=yh UH (us:=[]) rfl rfl
theorem xB0 (h:M.tsort ds t=0):M.sortM ds t=0∧M.fits t=true∧M.sizeM t≤20:=by
 obtain⟨a,b,d,c⟩:=Xa0 (ds:=ds) (t:=t) (by rw[h];decide)
 unfold M.tsort at h
 rw[if_pos ⟨a,b⟩] at h
 exact⟨h,a,c⟩
structure RootsB (n bl bb kb m:Nat) (ar ab:Addr) (ds:List M.Dcl) (dv:Value) (ts:List M.Tm) (F:Nat→Prop) (w:World) (i:Nat) (v:Value) (w':World):Prop where
 ex:∃(F1:Nat→Prop) (st1:Option M.Gs) (vs:List Value) (xss rs:List (List Int)),BlR n bl bb kb m ar ab ds dv (fun b=>b=m∨v.ownBlock=some b) F1 w' st1∧Mv (P1 m F) w (P1 m F1) w'∧OwnV PP zC w' v vs∧(∀b,v.ownBlock=some b→w.heap.size≤b∧¬F1 b)∧
  vs.length=xss.length∧vs.length≤i∧RowsR w.heap.size (fun b=> ¬F1 b∧b≠m∧v.ownBlock≠some b) w' vs xss∧TOut n (M.seqB ((ts.take i).map (M.termB ds))) (some []) st1 rs∧(∀gs,st1=some gs→xss=M.rootsC rs∧rs.length=i)
theorem blastCnf_spec (hd:DclsR Fx w dv ds) (ht:TmsR Fy w tv ts) (he:Errs (fun _=>False) w ar ab) (co:Sent w yA at_)
  (hK:∀w' lv ls,Ext w w'→CnfO w.heap.size w' lv ls (cnfE ds ts).1→K (.tuple #[.agg ⟨[.int .i64 (cnfE ds ts).1.many,lv]⟩,errV ar at_ (cnfE ds ts).2]) w'):vcall PP Y5 #[dv,tv] w K:=by
 apply yt0
 obtain⟨o,c,c8,_⟩:=hd.shape
 generalize (ds.map fun d=>[Value.string d.1,Value.int .i64 d.2]).length=l at c8
 subst c8
 refine qq fun b1 w1 dy ca di be=>?_
 refine zF xS fun b2 w2 dz bi ea bg=>?_
 have e2:=ca.trans bi
 have z1:=ca.size
 have z2:=bi.size
 have e8:=ht.small
 replace be:Blk w1 b1 [.slice o l c] zu:=be
 have a6:=be.ext bi
 have none_:∀{w3:World} {g:Nat} {a:Addr} {k:Nat},Ext w2 w3→Sent w3 g a→b2≠g→errV ar at_ k=erv a→cnfE ds ts=(⟨0,[]⟩,k)→y4 w3 fun B=>
   zH PP zm [] B fun t20 br=>br=B∧
   zf PP ye (.pointer (some ⟨g,0,none⟩)) B fun t21 bs=>bs=B∧
   zt PP zm (.pointer (some ⟨b2,0,none⟩)) t20 B fun _ R=>(zf PP ye (.pointer (some ⟨g,0,none⟩)) R fun v x=>v=t21∧x=R)∧
   vlv PP zm (.pointer (some ⟨b2,0,none⟩)) R fun r4 aj=>
   K (.tuple #[r4,t21]) aj:=fun{w3 g a k} z hs db cb bh=>by
  refine zx fun w4 a1 _=>?_
  have cl:Sent w4 g a:=hs.same a1 id
  have cy:=bg.ext (z.trans a1)
  rw[qX0]
  simp only[xG X3 cl.cell,true_and]
  refine cy.stAgg (cs':=[.int .i64 0,.slice none 0 0]) rfl yi net_one fun Q bo eb d0=>?_
  have cm:Sent Q g a:=cl.same bo fun e=>db e.symm
  simp only[xG X3 cm.cell,true_and,and_self]
  rw[d0.lv (t:=zm) yi]
  have e5:Ext w Q:=Ext.then (e2.trans (z.trans a1)) bo fun y hy=>by subst hy;omega
  have:=hK Q (.slice none 0 0) [] e5
  rw[bh,cb] at this
  exact this (zG0 e5.size)
 have gT:=co.lt
 have gR:=he.room.lt
 have bad: ¬Yz0 ds ts=true→∀{w3:World},Ext w2 w3→y4 w3 fun B=>
   zH PP zm [] B fun t20 br=>br=B∧
   zf PP ye (.pointer (some ⟨yA,0,none⟩)) B fun t21 bs=>bs=B∧
   zt PP zm (.pointer (some ⟨b2,0,none⟩)) t20 B fun _ R=>(zf PP ye (.pointer (some ⟨yA,0,none⟩)) R fun v x=>v=t21∧x=R)∧
   vlv PP zm (.pointer (some ⟨b2,0,none⟩)) R fun r4 aj=>
   K (.tuple #[r4,t21]) aj:=fun h {w3} z=>none_ (k:=2) z (co.same (e2.trans z) id) (by omega) rfl (by unfold cnfE;rw[if_neg h])
 refine zV (fun u w'=>u=[]∧Ext w2 w'∧ts.length≤8∧M.declOk ds=true) (fun J hJ=>?_) ?_
 ·simp(disch:=(simp only[push_cast];done)) only[push_cast,(ht.ext e2).len]
  refine zh (fun h=>bad (fun h8=>by have:=(all8_iff.1 h8).1;omega) (Same.refl _ _)) (fun h=>?_)
  simp(disch:=first|(simp only[push_cast];done)|omega) only[push_cast,a6.ld0]
  refine DeclOk_spec (hd.ext e2) fun w3 z=>?_
  simp only[push_cast]
  refine y9 (fun h2=>bad (fun h8=>by have:=(all8_iff.1 h8).2.1;rw[this] at h2;cases h2) z) (fun h2=>hJ _ _ ⟨rfl,z,by omega,by simpa using h2⟩)
 rintro _ _ w3 ⟨rfl,z,h8,a9⟩
 have e3:=e2.trans z
 simp only[push_cast]
 refine ContainsT (p:=fun t=>decide (M.tsort ds t≠0)) (ht.ext e3) (fun w' x t K c9 _ hx d5=>?_) fun w4 a1=>?_
 ·simp only[push_cast,List.append_nil,List.nil_append]
  apply Uv
  obtain⟨cx,rfl,a0⟩:=hx.cells
  refine zD fun b5 Q Z I bo h5=>?_
  have c1:=(a6.ext z).ext (c9.trans I)
  simp(disch:=first|(simp only[push_cast];done)|omega) only[push_cast,c1.ld0]
  rw[h5.ldAgg (t:=za) (by rw[xX a0];exact zI)]
  refine TermSort_spec (hd.ext (e3.trans (c9.trans I))) (a0.ext I).term fun w6 d8=>?_
  simp only[push_cast]
  exact d5 _ (I.trans d8)
 have e4:=e3.trans a1
 have a5:=z.trans a1
 refine y9 (fun h=>bad (fun h8=>?_) a5) (fun h=>?_)
 ·obtain⟨t,n,h2⟩:=List.any_eq_true.1 h
  exact of_decide_eq_true h2 ((all8_iff.1 h8).2.2 t n)
 have a8:∀t,t∈ts→M.tsort ds t=0:=fun t hm=>by
  have:=List.any_eq_false.1 h t hm
  simpa using this
 have cg:Yz0 ds ts=true:=all8_iff.2 ⟨h8,a9,a8⟩
 have c0:=a6.ext a5
 simp(disch:=first|(simp only[push_cast];done)|omega) only[push_cast,c0.ld0]
 refine newBlaster_spec a9 (hd.ext e4) (he.ext0 e4) fun Q bl bb kb m F5 Z I ce=>?_
 have e5:=e4.trans I
 simp(disch:=(simp only[push_cast];done)) only[push_cast,(ht.ext e5).len]
 have z4:=e4.size
 have z5:=I.size
 have U:∀b,P1 m F5 b→w4.heap.size≤b:=fun b f=>f.elim (fun h=>ce b (.inl h)) fun h=>ce b (.inr (.inl h))
 have aw:∀b,P1 m F5 b→b<Q.heap.size:=fun b f=>f.elim (fun h=>Z.bd.lt b (.inl h)) fun h=>Z.bd.lt b (.inr h)
 have cz:BlR (M.bits ds).toNat bl bb kb m ar ab ds (.slice o l c) (fun b=>b=m∨(Value.slice none 0 0).ownBlock=some b) F5 Q (some []):=
  Z.swap Z (Same.refl (fun _=>False) Q) (fun b f=>f.elim) (fun b f=>f.elim (fun h=>⟨by subst h;exact aw b (.inr rfl),fun _=>h⟩) fun h=>by cases h) (.inl rfl)
 refine vloop_up ts.length (fun i u w'=> ∃v,u=[v,.int .i64 i]∧RootsB (M.bits ds).toNat bl bb kb m ar ab ds (.slice o l c) ts F5 Q i v w') ⟨_,rfl,⟨F5,some [],[],[],[],cz,Mv.refl,OwnV.nil,(fun b f=>by cases f),rfl,Nat.le_refl _,RowsR.nil (Nat.le_refl _),TOut.nil,fun gs h=>⟨rfl,rfl⟩⟩⟩ ?_
 rintro i _ g w6 C hi ⟨v,rfl,⟨F6,cr,vs,xss,rs,c7,ad,bk,P,a3,e9,W,ao,av⟩⟩ hC
 simp only[push_cast]
 have z6:=ad.same.size
 have e6:Ext w w6:=Ext.then e5 ad.same fun y hy=>by have:=U y hy;omega
 have d4:∀b,F6 b→w4.heap.size≤b:=fun b f=>(ad.new b (.inl f)).elim (U b) fun h=>by omega
 have e7:w4.heap.size≤m:=U m (.inr rfl)
 have cp:∀b,v.ownBlock=some b→¬P1 m F6 b:=fun b f hp=>hp.elim (P b f).2 fun e=>by have:=(P b f).1;have:=aw m (.inr rfl);omega
 refine zh (fun a=>?_) (fun a=>?_)
 ·have O:i<ts.length:=by omega
  have cn:=(ht.weaken (F':=fun b=>b<w.heap.size) fun b _ hl=>hl).ext e6
  simp(disch:=first|(simp only[push_cast];done)|omega) only[push_cast,cn.iaddr]
  refine cn.load zI O fun x hx=>?_
  obtain⟨cx,rfl,a0⟩:=hx.cells
  refine zF yR fun b7 w7 H N ec d1=>?_
  refine stTerm d1 rfl (a0.ext N) fun w8 dh ed d2=>?_
  have Y:Ext w6 w8:=Ext.then N dh fun y hy=>by subst hy;omega
  have eg:=Y.size
  have v8:=a0.ext Y
  simp(disch:=(simp only[push_cast];done)) only[push_cast,d2.ldAgg (t:=za) (by rw[xX a0];exact zI)]
  obtain⟨bn,_,dx⟩:=xB0 (a8 _ (M.getD_mem O default))
  have d6:=c7.grow Y
  refine term_spec a9 _ (by rw[bn];decide) (by omega) d6 (v8.term.weaken fun b f _=>⟨fun h=>by have:=d4 b h;omega,fun h=>h.elim (fun e=>by omega) fun e=>by have:=(P b e).1;omega⟩) fun w9 F9 cs r zs G a2 ci dk bp=>?_
  have z9:=a2.same.size
  have b6:TOut (M.bits ds).toNat (M.seqB ((ts.take (i+1)).map (M.termB ds))) (some []) cs (rs++[zs]):=by
   rw[M.take_add O default,List.map_append]
   exact ao.snoc bp
  have ay:Mv (P1 m F5) Q (P1 m F9) w9:=(ad.ext Y).trans a2
  have a7:∀b,(v.ownBlock=some b)→¬F9 b:=fun b f hf=>a2.off (cp b f) (by have:=bk.lt f;omega) (.inl hf)
  have ae:RowsR Q.heap.size (fun b=> ¬F9 b∧b≠m∧v.ownBlock≠some b) w9 vs xss:=
   (((W.weaken (F':=fun b=>(¬F6 b∧b≠m∧v.ownBlock≠some b)∧b<w6.heap.size) fun b n _ h3=>⟨n,h3⟩).ext Y).same a2.same fun b n _ hp=>hp.elim n.1.1 n.1.2.1).weaken fun b n _ _=>
    ⟨fun hf=>a2.off (fun hp=>hp.elim n.1.1 n.1.2.1) (by omega) (.inl hf),n.1.2.1,n.1.2.2⟩
  have bm:OwnV PP zC w9 v vs:=(bk.ext Y).same a2.same cp
  obtain⟨bc,D,c5⟩:=G.bd.blk
  have ax:∀b,F9 b→b<w9.heap.size:=fun b f=>G.bd.lt b (.inl f)
  cases cs with
  |none=>
   simp only at D
   simp(disch:=first|(simp only[push_cast];done)|omega) only[push_cast,G.blk.ld0,D.ld1,km0,zy]
   exact hC O _ _ ⟨v,by simp,⟨F9,none,vs,xss,_,G,ay,bm,fun b f=>⟨(P b f).1,a7 b f⟩,a3,by omega,ae,b6,fun gs h=>by cases h⟩⟩
  |some cw=>
   simp only at D
   have di:zs.length=1:=by
    rcases bp with⟨g0,g1,q1,q2,q3⟩|⟨q1,_⟩
    ·rw[M.term_len a9 _ (by rw[bn];decide) (M.Bd.reach_of_run q3),bn];rfl
    ·cases q1
   have ag:∃q,cr=some q:=by
    rcases bp with⟨g0,g1,q1,q2,q3⟩|⟨q1,_⟩
    ·exact⟨_,q1⟩
    ·cases q1
   obtain⟨q,ag⟩:=ag
   obtain⟨bq,ch⟩:=av _ ag
   simp(disch:=first|(simp only[push_cast];done)|omega) only[push_cast,G.blk.ld0,D.ld1,kk0,ci.iaddr,ci.load]
   refine lit_ints (xs:=[.int .i64 (zs.getD 0 0)]) (us:=[zs.getD 0 0]) rfl (by simp) fun w10 X dp au cq cf=>?_
   refine lit_lists (xs:=[.slice (some ⟨X,0,none⟩) 1 1]) (fun x hx=>by rw[List.mem_singleton.1 hx];exact⟨_,_,_,rfl⟩) (by simp) fun a4 dw dq aa dr V=>?_
   have S:=au.trans aa
   refine OwnV.app (us:=[.slice (some ⟨X,0,none⟩) 1 1]) (bm.ext S) y00 V.vals (by simp[Value.oneCell']) (by simp;omega) (by simp;omega) fun v12 ct b0 s az=>?_
   have dm:=au.size;have dn:=aa.size;have z12:=s.size
   try simp(disch:=omega) only[push_cast,zy]
   have dg:∀b,v.ownBlock=some b→b<w9.heap.size:=fun b f=>bm.lt f
   have an:RowsR Q.heap.size (fun b=>(¬F9 b∧b≠m∧v.ownBlock≠some b)∧b<a4.heap.size) a4 (vs++[.slice (some ⟨X,0,none⟩) 1 1]) (xss++[[zs.getD 0 0]]):=by
    have n:=(ae.weaken (F':=fun b=>(¬F9 b∧b≠m∧v.ownBlock≠some b)∧b<a4.heap.size) fun b n _ h3=>⟨n,by omega⟩)
    refine RowsR.new n a3 S (cf.ext aa) (fun b f=>?_) fun b f=>?_
    ·have e6:X=b:=Option.some.inj f
     omega
    ·have e6:X=b:=Option.some.inj f
     exact⟨⟨fun hf=>by have:=ax b hf;omega,fun e=>by have:=G.met.lt;omega,fun e=>by have:=dg b e;omega⟩,by omega⟩
   have c6:∀b,(b=m∨v12.ownBlock=some b)→b<a4.heap.size→(b=m∨v.ownBlock=some b):=fun b f hl=>f.elim .inl fun h=>(az b h).elim .inr fun h2=>by omega
   have ah:∀b,v12.ownBlock=some b→Q.heap.size≤b∧¬F9 b∧(v.ownBlock=some b∨a4.heap.size≤b):=fun b f=>by
    rcases az b f with h|h
    ·exact⟨(P b h).1,a7 b h,.inl h⟩
    ·exact⟨by omega,fun hf=>by have:=ax b hf;omega,.inr h⟩
   refine hC O _ _ ⟨v12,by simp,⟨F9,some cw,vs++[.slice (some ⟨X,0,none⟩) 1 1],xss++[[zs.getD 0 0]],rs++[zs],(G.grow S).swap Z s (fun b f=>⟨.inr f,(P b f).1,a7 b f⟩) (fun b f=>⟨?_,c6 b f⟩) (.inl rfl),((ay.ext S).to s fun b f=> .inr (P b f).1),b0,fun b f=>⟨(ah b f).1,(ah b f).2.1⟩,?_,?_,?_,b6,fun gs h=>⟨?_,?_⟩⟩⟩
   ·rcases f with h|h
    ·have:=G.met.lt;omega
    ·exact b0.lt h
   ·rw[List.length_append,List.length_append,a3];rfl
   ·rw[List.length_append];simp;omega
   ·refine(an.same s fun b n _ e=>n.1.2.2 e).weaken fun b n _ _=>⟨n.1.1,n.1.2.1,fun e=>?_⟩
    rcases(ah b e).2.2 with h|h
    ·exact n.1.2.2 h
    ·omega
   ·rw[bq];unfold M.rootsC;rw[List.map_append];rfl
   ·rw[List.length_append,ch];rfl
 ·have O:i=ts.length:=by omega
  subst O
  rw[List.take_length] at ao
  have bt:Ext w2 w6:=Ext.then (a5.trans I) ad.same fun y hy=>by have:=U y hy;have:=a5.size;omega
  refine zx fun w7 N _=>?_
  have H:=c7.grow N
  have bu:=bt.trans N
  obtain⟨bc,D,c5⟩:=H.bd.blk
  cases cr with
  |none=>
   have dc:M.listB ds ts=none:=by
    rcases ao with⟨g0,g1,q1,q2,q3⟩|⟨q1,q2⟩
    ·cases q2
    ·exact q2 [] rfl
   simp only at D
   simp(disch:=first|(simp only[push_cast];done)|omega) only[push_cast,H.blk.ld0,D.ld1,xG X3 H.bd.err.room.cell,true_and]
   refine Jc0 ?_
   simp only[push_cast]
   refine none_ (g:=xD) (a:=ar) (k:=1) bu H.bd.err.room (by omega) rfl ?_
   unfold cnfE
   rw[if_pos cg,dc]
  |some q=>
   have b8:M.listB ds ts=some (q,rs):=by
    rcases ao with⟨g0,g1,q1,q2,q3⟩|⟨q1,q2⟩
    ·cases q1;cases q2;exact q3
    ·cases q1
   have b4:=M.list_says a9 (fun t ht=>by rw[(xB0 (a8 t ht)).1];decide) b8
   obtain⟨bq,ch⟩:=av _ rfl
   simp only at D
   simp(disch:=first|(simp only[push_cast];done)|omega) only[push_cast,H.blk.ld0,D.ld1,xG X3 H.bd.err.room.cell,true_and]
   refine is_no ?_
   obtain⟨gvv,mb,d7,e1,e0⟩:=c5 q rfl
   simp(disch:=first|(simp only[push_cast];done)|omega) only[push_cast,H.blk.ld0,D.ld0]
   refine cnf8_spec d7 b4.net fun w8 lv ai bj F=>?_
   have cv:=N.trans bj
   have bv:=bu.trans bj
   have z7:=N.size;have z8:=bj.size;have ef:=bt.size
   refine zF xS fun b9 w9 G d9 dk d3=>?_
   obtain⟨o2,c2,cc,_⟩:=F.lst.vals.shape
   generalize (ai.map fun x=>[x]).length=l2 at cc
   subst cc
   refine d3.stAgg (cs':=[.int .i64 (1+(M.bits ds).toNat+q.length:Nat),.slice o2 l2 c2]) rfl yi net_one fun w10 ck cq aq=>?_
   have E:Ext w8 w10:=Ext.then d9 ck fun y hy=>by subst hy;omega
   have ap:=cv.trans E
   simp(disch:=first|(simp only[push_cast];done)|omega) only[push_cast,aq.ld1]
   have da:ai.length≤2401:=by
    rw[F.len]
    show([1]::(M.gatesC _ q 0++[])).length≤2401
    have n:=Qi (M.bits ds).toNat q 0
    have h2:=b4.net.few
    rw[List.append_nil,List.length_cons];omega
   refine OwnV.app (us:=vs) (F.lst.ext E) y00 (bk.vals.ext ap) (fun u hu=>?_) (by omega) (by omega) fun v11 a4 V L cd=>?_
   ·obtain⟨j,hj,rfl⟩:=List.getElem_of_mem hu
    have dd:=W.own j (by rw[←a3];exact hj)
    obtain⟨o,c,e,_⟩:=dd.ints.shape
    rw[List.getD_eq_getElem?_getD,List.getElem?_eq_getElem hj,Option.getD_some] at e
    rw[e];rfl
   have al:=F.dl
   have ba:∀b,(Value.slice o2 l2 c2).ownBlock=some b→b<w8.heap.size:=fun b f=>F.lst.lt f
   have bx:=aq.same L fun e=>by have:=ba _ e;omega
   have dn:=L.size
   have dm:=E.size
   obtain⟨o3,c3,A,_⟩:=V.vals.shape
   generalize ((ai++vs).map fun x=>[x]).length=l3 at A
   subst A
   refine bx.st (i:=1) (v:= .slice o3 l3 c3) rfl rfl xO0 (by rfl) fun ct s dt bf=>?_
   have ak:Blk ct b9 [.int .i64 (1+(M.bits ds).toNat+q.length:Nat),.slice o3 l3 c3] zm:=bf
   rw[ak.ldAgg (t:=zm) yi]
   have bw:=bg.ext (bv.trans E)
   have ee:=bg.lt
   have A:∀b,(Value.slice o3 l3 c3).ownBlock=some b→w7.heap.size≤b∧b≠b9∧((Value.slice o2 l2 c2).ownBlock=some b∨w10.heap.size≤b):=fun b f=>by
    rcases cd b f with h|h
    ·exact⟨al b h,fun e=>by have:=ba b h;omega,.inl h⟩
    ·exact⟨by omega,fun e=>by omega,.inr h⟩
   have c4:=(bw.same L fun e=>by have:=al _ e;omega).same s (by omega)
   refine c4.stAgg (cs':=[.int .i64 (1+(M.bits ds).toNat+q.length:Nat),.slice o3 l3 c3]) rfl yi net_one fun cu af du bz=>?_
   rw[bz.lv (t:=zm) yi]
   have bh:cnfE ds ts=(M.blastC ds q rs,0):=by unfold cnfE;rw[if_pos cg,b8]
   have de:RowsR Q.heap.size (fun b=>(Value.slice o2 l2 c2).ownBlock≠some b∧b<w8.heap.size) w10 ai ([1]::(M.gatesC (M.bits ds).toNat q 0++[])):=by
    have n:=(F.rows.weaken (F':=fun b=>(Value.slice o2 l2 c2).ownBlock≠some b∧b<w8.heap.size) fun b n _ h3=>⟨n,h3⟩).ext E
    exact⟨by omega,n.own,fun i b hi f=>⟨(n.sub i b hi f).1,by have:=(n.sub i b hi f).2;omega⟩,n.dj⟩
   have df:RowsR Q.heap.size (fun b=>(Value.slice o2 l2 c2).ownBlock≠some b∧b<w8.heap.size) w10 vs xss:=
    (W.weaken (F':=fun b=>(Value.slice o2 l2 c2).ownBlock≠some b∧b<w8.heap.size) fun b n _ h3=>⟨fun e=>by have:=al b e;omega,by omega⟩).ext ap
   have cj:=de.app F.len df a3 fun i j b hi hj n h2=>by
    have:=(F.rows.sub i b hi n).2
    have:=(W.own j hj).lt h2
    omega
   have ac:([1]::(M.gatesC (M.bits ds).toNat q 0++[]))++xss=(M.blastC ds q rs).list:=by
    rw[bq,List.append_nil];rfl
   rw[ac] at cj
   have am:=(((cj.same L fun b n _ e=>n.1 e).same s fun b n _ e=>by subst e;omega).weaken (F':=fun b=>((Value.slice o3 l3 c3).ownBlock≠some b)∧w2.heap.size≤b) fun b n h2 _=>⟨fun e=>by
    rcases(A b e).2.2 with h|h
    ·exact n.1 h
    ·omega,by have:=a5.size;omega⟩).same af fun b n _ e=>by omega
   have b3:Ext w cu:=Ext.then (Ext.then (Ext.then (e2.trans (bv.trans E)) L fun b f=>by have:=al b f;omega) s fun b f=>by subst f;omega) af fun b f=>by subst f;omega
   have T:=hK cu (.slice o3 l3 c3) (ai++vs) b3
   rw[bh] at T
   refine T ⟨?_,?_,fun b f=>?_,?_⟩
   ·exact((V.same s fun b f e=>(A b f).2.1 e).same af fun b f e=>by have:=(A b f).1;omega)
   ·rw[←ac,List.length_append,List.length_append,F.len,a3];rfl
   ·have:=(A b f).1;omega
   ·exact⟨b3.size,am.own,fun i b hi f=>⟨(am.sub i b hi f).1.1,by have:=(am.sub i b hi f).2;omega⟩,am.dj⟩
end Go.Proofs.YtaekfnbnhjgboaaGreatDoor
end
