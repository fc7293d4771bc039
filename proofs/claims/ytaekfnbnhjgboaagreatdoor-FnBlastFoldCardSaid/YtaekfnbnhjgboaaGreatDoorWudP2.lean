import Derived.Test.YtaekfnbnhjgboaaGreatDoorWudP1
import Derived.Test.YtaekfnbnhjgboaaGreatDoorProg
/- A part of the proof. -/
set_option linter.unusedVariables false
set_option linter.unusedSimpArgs false
set_option linter.unnecessarySimpa false
set_option linter.unusedSectionVars false
section
namespace Go.M
open Go.Vc
abbrev Dcl:=ByteArray×Int
def findD (ds:List Dcl) (s:ByteArray):Int:=idxI ds.length fun i=>decide ((ds.getD i (nada,0)).1=s)
def tru:ByteArray:=⟨#[116,114,117,101]⟩
def nameOk (s:ByteArray):Bool:=decide (1≤s.size)&&decide (s.size≤4)&&decide (s≠tru)&&s.data.all fun c=>decide (97≤c.toNat)&&decide (c.toNat≤122)
def bits (ds:List Dcl):Int:=(ds.map (·.2)).sum
def dclOk (ds:List Dcl) (i:Nat):Bool:=nameOk (ds.getD i (nada,0)).1&&decide (1≤(ds.getD i (nada,0)).2)&&decide ((ds.getD i (nada,0)).2≤4)&&decide (findD (ds.take i) (ds.getD i (nada,0)).1<0)
def declOk (ds:List Dcl):Bool:=decide (ds.length≤4)&&((List.range ds.length).all fun i=>dclOk ds i)&&decide (bits ds≤8)
def envOk (ds:List Dcl) (env:List Int):Bool:=declOk ds&&decide (env.length=ds.length)&&(List.range ds.length).all fun i=>vok (ds.getD i (nada,0)).2 (env.getD i 0)
theorem findD_lt (ds:List Dcl) (s:ByteArray): -1≤findD ds s∧findD ds s<ds.length:=by
 unfold findD idxI
 split
 ·rename_i i h
  have:=List.mem_of_find?_eq_some h
  simp at this
  omega
 ·omega
theorem findD_neg {ds:List Dcl} {s:ByteArray} (h:findD ds s<0) {j:Nat} (b:j<ds.length):(ds.getD j (nada,0)).1≠s:=by
 unfold findD idxI at h
 split at h
 ·omega
 ·rename_i a
  rw[List.find?_eq_none] at a
  have:=a j (List.mem_range.2 b)
  simpa using this
theorem findD_get {ds:List Dcl} {s:ByteArray} (h:0≤findD ds s):(ds.getD (findD ds s).toNat (nada,0)).1=s:=by
 unfold findD idxI at h⊢
 split at h
 ·rename_i i hi
  have:=List.find?_some hi
  simpa using this
 ·omega
theorem findD_of {ds:List Dcl} {s:ByteArray} {i:Nat} (hi:i<ds.length) (h:(ds.getD i (nada,0)).1=s) (b:∀j,j<i→(ds.getD j (nada,0)).1≠s):findD ds s=i:=
 idxI_some hi (by simp only[h,decide_true]) fun j a=>decide_eq_false (b j a)
theorem findD_none {ds:List Dcl} {s:ByteArray} (b:∀j,j<ds.length→(ds.getD j (nada,0)).1≠s):findD ds s= -1:=
 yo0 fun j a=>decide_eq_false (b j a)
theorem decl_iff {ds:List Dcl}:declOk ds=true↔ds.length≤4∧(∀i,i<ds.length→dclOk ds i=true)∧bits ds≤8:=by
 simp only[declOk,Bool.and_eq_true,List.all_eq_true,List.mem_range,decide_eq_true_eq,and_assoc]
theorem take_getD {α:Type} {l:List α} {i j:Nat} {d:α} (h:j<i):(l.take i).getD j d=l.getD j d:=by
 simp[List.getD_eq_getElem?_getD,List.getElem?_take,h]
theorem dcl_apart {ds:List Dcl} (h:declOk ds=true) {i j:Nat} (hi:i<ds.length) (b:j<i):(ds.getD j (nada,0)).1≠(ds.getD i (nada,0)).1:=by
 have:=(decl_iff.1 h).2.1 i hi
 simp only[dclOk,Bool.and_eq_true,decide_eq_true_eq] at this
 have a:=findD_neg this.2 (j:=j) (by rw[List.length_take];omega)
 rwa[take_getD b] at a
def bitT (ds:List Dcl) (i:Nat):Int:=((ds.take i).map (·.2)).sum
theorem bitT_succ {ds:List Dcl} {i:Nat} (h:i<ds.length):bitT ds (i+1)=bitT ds i+(ds.getD i (nada,0)).2:=by
 unfold bitT
 rw[List.take_add_one,List.getElem?_eq_getElem h,List.map_append,List.sum_append,List.getD_eq_getElem?_getD,List.getElem?_eq_getElem h]
 simp
theorem bitT_all (ds:List Dcl):bitT ds ds.length=bits ds:=by unfold bitT bits;rw[List.take_length]
theorem dcl_wide {ds:List Dcl} (h:declOk ds=true) {i:Nat} (hi:i<ds.length):1≤(ds.getD i (nada,0)).2∧(ds.getD i (nada,0)).2≤4:=by
 simp only[declOk,Bool.and_eq_true,List.all_eq_true,List.mem_range,dclOk,decide_eq_true_eq] at h
 obtain⟨⟨_,a⟩,_⟩:=h
 exact⟨(a i hi).1.1.2,(a i hi).1.2⟩
theorem env_ok {ds:List Dcl} {env:List Int} (h:envOk ds env=true):declOk ds=true∧env.length=ds.length∧∀i,i<ds.length→vok (ds.getD i (nada,0)).2 (env.getD i 0)=true:=by
 simp only[envOk,Bool.and_eq_true,List.all_eq_true,List.mem_range,decide_eq_true_eq] at h
 exact⟨h.1.1,h.1.2,h.2⟩
def sizeM:Tm→Nat:=Tm.fold fun _ xs=>1+xs.sum
def deepM:Tm→Nat:=Tm.fold fun _ xs=>1+xs.foldl max 0
theorem sizeM_eq (t:Tm):sizeM t=1+(t.ks.map sizeM).sum:=Tm.fold_eq _ t
theorem Kg (t:Tm):deepM t=1+(t.ks.map deepM).foldl max 0:=Tm.fold_eq _ t
def szT (ks:List Tm) (i:Nat):Nat:=((ks.take i).map sizeM).sum
def dpT (ks:List Tm) (i:Nat):Nat:=((ks.take i).map deepM).foldl max 0
theorem take_add {α:Type} {l:List α} {i:Nat} (h:i<l.length) (d:α):l.take (i+1)=l.take i++[l.getD i d]:=by
 rw[List.take_add_one,List.getElem?_eq_getElem h,List.getD_eq_getElem?_getD,List.getElem?_eq_getElem h];rfl
theorem szT_succ {ks:List Tm} {i:Nat} (h:i<ks.length):szT ks (i+1)=szT ks i+sizeM (ks.getD i default):=by
 unfold szT;rw[take_add h default,List.map_append,List.sum_append];simp
theorem dpT_succ {ks:List Tm} {i:Nat} (h:i<ks.length):dpT ks (i+1)=max (dpT ks i) (deepM (ks.getD i default)):=by
 unfold dpT;rw[take_add h default,List.map_append,List.foldl_append];rfl
theorem szT_all (t:Tm):sizeM t=1+szT t.ks t.ks.length:=by rw[sizeM_eq,szT,List.take_length]
theorem dpT_all (t:Tm):deepM t=1+dpT t.ks t.ks.length:=by rw[Kg,dpT,List.take_length]
theorem szT_mono {ks:List Tm} {i:Nat}:∀{j:Nat},i≤j→j≤ks.length→szT ks i≤szT ks j
 |0,h,_=>by
  have:i=0:=by omega
  subst this;exact Nat.le_refl _
 |j+1,h,a=>by
  by_cases e:i=j+1
  ·subst e;exact Nat.le_refl _
  ·have:=szT_mono (ks:=ks) (i:=i) (j:=j) (by omega) (by omega)
   rw[szT_succ (by omega)];omega
theorem dpT_mono {ks:List Tm} {i:Nat}:∀{j:Nat},i≤j→j≤ks.length→dpT ks i≤dpT ks j
 |0,h,_=>by
  have:i=0:=by omega
  subst this;exact Nat.le_refl _
 |j+1,h,a=>by
  by_cases e:i=j+1
  ·subst e;exact Nat.le_refl _
  ·have:=dpT_mono (ks:=ks) (i:=i) (j:=j) (by omega) (by omega)
   rw[dpT_succ (by omega)];omega
def fits (t:Tm):Bool:=decide (sizeM t≤20)&&decide (deepM t≤7)
theorem fits_iff {t:Tm}:fits t=true↔sizeM t≤20∧deepM t≤7:=by simp[fits]
def manyM (t:Tm):Nat:=if fits t then sizeM t else 21
def lvlM (t:Tm):Nat:=if fits t then deepM t else 8
def arity (o:Int):Int:=if o=20∨o=21∨o=24 then 0 else if o=1∨o=2∨o=22∨o=25 then 1 else if o=23 then 3 else if o=26∨o=27 then 2 else if 3≤o∧o≤17 then 2 else-1
def plainM (t:Tm):Bool:=(decide (t.op=20)||decide (t.op=22)||(decide (t.a=0)&&decide (t.b=0)))&&(decide (t.op=21)||decide (t.s=nada))
def sortK (ds:List Dcl) (t:Tm) (xs:List Int):Int:=
 if t.op=20 then(if vok t.a t.b then t.a else-1)
 else if t.op=21 then(if findD ds t.s<0 then-1 else(ds.getD (findD ds t.s).toNat (nada,0)).2)
 else if 24≤t.op then(if xs.any (fun x=>decide (x≠0)) then-1 else 0)
 else if t.op=23 then(if xs.getD 0 0=0∧xs.getD 1 0=xs.getD 2 0 then xs.getD 1 0 else-1)
 else if t.op=22 then(if 0≤t.b∧t.b≤t.a∧t.a<xs.getD 0 0 then t.a-t.b+1 else-1)
 else if t.op≤2 then(if 0<xs.getD 0 0 then xs.getD 0 0 else-1)
 else if t.op=14 then(if 0<xs.getD 0 0∧0<xs.getD 1 0∧xs.getD 0 0+xs.getD 1 0≤4 then xs.getD 0 0+xs.getD 1 0 else-1)
 else if 15≤t.op then(if 0<xs.getD 0 0∧xs.getD 0 0=xs.getD 1 0 then 0 else-1)
 else(if 0<xs.getD 0 0∧xs.getD 0 0=xs.getD 1 0 then xs.getD 0 0 else-1)
def formed (t:Tm):Bool:=decide (arity t.op=t.ks.length)&&plainM t
def sortF (ds:List Dcl) (t:Tm) (xs:List Int):Int:=if formed t=true∧¬(-1∈xs) then sortK ds t xs else-1
def sortM (ds:List Dcl):Tm→Int:=Tm.fold (sortF ds)
theorem sortM_eq (ds:List Dcl) (t:Tm):sortM ds t=sortF ds t (t.ks.map (sortM ds)):=Tm.fold_eq _ t
theorem arity_ops {o:Int} (h:0≤arity o):(1≤o∧o≤17)∨(20≤o∧o≤27):=by
 unfold arity at h
 repeat' (split at h)
 all_goals omega
theorem getD_map {α β:Type} (f:α→β) {l:List α} {i:Nat} (h:i<l.length) (d:β) (e:α):(l.map f).getD i d=f (l.getD i e):=by
 simp[List.getD_eq_getElem?_getD,h]
theorem getD_mem {α:Type} {l:List α} {i:Nat} (h:i<l.length) (d:α):l.getD i d∈l:=by
 rw[List.getD_eq_getElem?_getD,List.getElem?_eq_getElem h];exact List.getElem_mem h
theorem sort_parts {ds:List Dcl} {t:Tm} (h:sortM ds t≠ -1):formed t=true∧(∀k,k∈t.ks→sortM ds k≠ -1)∧sortM ds t=sortK ds t (t.ks.map (sortM ds)):=by
 rw[sortM_eq] at h⊢
 unfold sortF at h⊢
 split at h
 ·rename_i a
  rw[if_pos a]
  exact⟨a.1,fun k b e=>a.2 (e▸List.mem_map_of_mem b),rfl⟩
 ·exact absurd rfl h
theorem sort_range {ds:List Dcl} (c:declOk ds=true):∀t,-1≤sortM ds t∧sortM ds t≤4:=by
 refine Tm.ind fun t g=>?_
 rw[sortM_eq]
 unfold sortF
 split
 ·rename_i d
  have a:∀i,-1≤(t.ks.map (sortM ds)).getD i 0∧(t.ks.map (sortM ds)).getD i 0≤4:=fun i=>by
   by_cases h:i<t.ks.length
   ·rw[getD_map _ h 0 default];exact g _ (getD_mem h _)
   ·rw[List.getD_eq_getElem?_getD,List.getElem?_eq_none (by simpa using h)];simp
  have j:=a 0
  have k:=a 1
  have l:=a 2
  have b:=arity_ops (o:=t.op) (by
   have:=d.1
   simp only[formed,Bool.and_eq_true,decide_eq_true_eq] at this
   omega)
  unfold sortK
  split
  ·split
   ·rename_i f;have:=vok_lt f;omega
   ·omega
  ·split
   ·have e:=findD_lt ds t.s
    split
    ·omega
    ·have:=dcl_wide c (i:=(findD ds t.s).toNat) (by omega)
     omega
   ·repeat' split
    all_goals omega
 ·omega
def tsort (ds:List Dcl) (t:Tm):Int:=if fits t=true∧declOk ds=true then sortM ds t else-1
def b2i (b:Bool):Int:=if b then 1 else 0
def valK (ds:List Dcl) (env:List Int) (t:Tm) (xs:List (Int×Int)):Int:=
 if t.op=20 then t.b
 else if t.op=21 then env.getD (findD ds t.s).toNat 0
 else if t.op=24 then 1
 else if t.op=25 then b2i (decide ((xs.getD 0 (0,0)).2=0))
 else if t.op=26 then b2i (decide ((xs.getD 0 (0,0)).2=1)&&decide ((xs.getD 1 (0,0)).2=1))
 else if t.op=27 then b2i (decide ((xs.getD 0 (0,0)).2=1)||decide ((xs.getD 1 (0,0)).2=1))
 else if t.op=23 then(if(xs.getD 0 (0,0)).2=1 then(xs.getD 1 (0,0)).2 else(xs.getD 2 (0,0)).2)
 else if t.op=22 then cutM (xs.getD 0 (0,0)).2 t.a t.b
 else if t.op≤2 then unM t.op (xs.getD 0 (0,0)).1 (xs.getD 0 (0,0)).2
 else if t.op=14 then Qf0 (xs.getD 1 (0,0)).1 (xs.getD 0 (0,0)).2 (xs.getD 1 (0,0)).2
 else if 15≤t.op then b2i (cmpM t.op (xs.getD 0 (0,0)).1 (xs.getD 0 (0,0)).2 (xs.getD 1 (0,0)).2)
 else QM0 t.op (xs.getD 0 (0,0)).1 (xs.getD 0 (0,0)).2 (xs.getD 1 (0,0)).2
def vecF (ds:List Dcl) (env:List Int) (t:Tm) (xs:List (Int×Int)):Int×Int:=(sortF ds t (xs.map (·.1)),valK ds env t xs)
def vecM (ds:List Dcl) (env:List Int):Tm→Int×Int:=Tm.fold (vecF ds env)
def evalM (ds:List Dcl) (env:List Int) (t:Tm):Int:=(vecM ds env t).2
theorem ZT0 (ds:List Dcl) (env:List Int) (t:Tm):vecM ds env t=vecF ds env t (t.ks.map (vecM ds env)):=Tm.fold_eq _ t
theorem vecM_sort (ds:List Dcl) (env:List Int):∀t,(vecM ds env t).1=sortM ds t:=by
 refine Tm.ind fun t b=>?_
 rw[ZT0,sortM_eq]
 show sortF ds t _=_
 rw[List.map_map]
 congr 1
 exact List.map_congr_left fun k a=>b k a
theorem vecM_pair (ds:List Dcl) (env:List Int) (t:Tm):vecM ds env t=(sortM ds t,evalM ds env t):=by rw[←vecM_sort ds env t];rfl
theorem evalM_eq (ds:List Dcl) (env:List Int) (t:Tm):evalM ds env t=valK ds env t (t.ks.map (vecM ds env)):=by
 unfold evalM;rw[ZT0];rfl
def inS (w n:Int):Prop:=(w=0∧(n=0∨n=1))∨vok w n=true
theorem Xz0 {b:Bool}:inS 0 (b2i b):=by left;cases b<;>simp[b2i]
theorem inS_zero {n:Int} (h:inS 0 n):n=0∨n=1:=by
 rcases h with h|h
 ·exact h.2
 ·exact absurd (vok_lt h).1 (by omega)
theorem inS_pos {w n:Int} (h:inS w n) (hw:0<w):vok w n=true:=by
 rcases h with h|h
 ·omega
 ·exact h
theorem eval_in {ds:List Dcl} {env:List Int} (he:envOk ds env=true):∀t,sortM ds t≠ -1→inS (sortM ds t) (evalM ds env t):=by
 obtain⟨E,F,C⟩:=env_ok he
 refine Tm.ind fun t D h=>?_
 obtain⟨v,A,hs⟩:=sort_parts h
 rw[hs] at h
 rw[hs,evalM_eq]
 simp only[formed,Bool.and_eq_true,decide_eq_true_eq] at v
 obtain⟨b,B⟩:=v
 have w:=arity_ops (o:=t.op) (by omega)
 have g:∀i,i<t.ks.length→(t.ks.map (sortM ds)).getD i 0=sortM ds (t.ks.getD i default):=fun i hi=>getD_map _ hi _ _
 have j:∀i,i<t.ks.length→(t.ks.map (vecM ds env)).getD i (0,0)=(sortM ds (t.ks.getD i default),evalM ds env (t.ks.getD i default)):=fun i hi=>by
  rw[getD_map _ hi _ default,vecM_pair]
 have c:∀i,i<t.ks.length→inS (sortM ds (t.ks.getD i default)) (evalM ds env (t.ks.getD i default)):=fun i hi=>D _ (getD_mem hi _) (A _ (getD_mem hi _))
 unfold sortK at h⊢
 unfold valK
 by_cases m:t.op=20
 ·simp only[m,if_true] at h⊢
  split
  ·right;assumption
  ·rename_i q;rw[if_neg q] at h;exact absurd rfl h
 simp only[if_neg m] at h⊢
 by_cases n:t.op=21
 ·simp only[n,if_true] at h⊢
  have z:=findD_lt ds t.s
  split
  ·rename_i q;rw[if_pos q] at h;exact absurd rfl h
  ·right;exact C _ (by omega)
 simp only[if_neg n] at h⊢
 by_cases p:24≤t.op
 ·simp only[if_pos p] at h⊢
  split
  ·rename_i q;rw[if_pos q] at h;exact absurd rfl h
  ·rcases(by omega:t.op=24∨t.op=25∨t.op=26∨t.op=27) with e|e|e|e
   ·left;simp[e]
   ·simp only[e];exact Xz0
   ·simp only[e];exact Xz0
   ·simp only[e];exact Xz0
 simp only[if_neg p,if_neg (show¬t.op=24 by omega),if_neg (show¬t.op=25 by omega),if_neg (show¬t.op=26 by omega),if_neg (show¬t.op=27 by omega)] at h⊢
 by_cases f:t.op=23
 ·simp only[f,if_true] at h⊢
  have r:t.ks.length=3:=by rw[f] at b;simp[arity] at b;omega
  rw[g 0 (by omega),g 1 (by omega),g 2 (by omega)] at h⊢
  rw[j 0 (by omega),j 1 (by omega),j 2 (by omega)]
  split
  ·rename_i a
   simp only
   split
   ·exact c 1 (by omega)
   ·rw[a.2];exact c 2 (by omega)
  ·rename_i a;rw[if_neg a] at h;exact absurd rfl h
 simp only[if_neg f] at h⊢
 by_cases d:t.op=22
 ·simp only[d,if_true] at h⊢
  have r:t.ks.length=1:=by rw[d] at b;simp[arity] at b;omega
  rw[g 0 (by omega)] at h⊢
  rw[j 0 (by omega)]
  split
  ·rename_i a
   right
   exact cut_ok (inS_pos (c 0 (by omega)) (by omega)) a.1 a.2.1 a.2.2
  ·rename_i a;rw[if_neg a] at h;exact absurd rfl h
 simp only[if_neg d] at h⊢
 by_cases u:t.op≤2
 ·simp only[if_pos u] at h⊢
  have r:t.ks.length=1:=by
   have:t.op=1∨t.op=2:=by omega
   rcases this with e|e<;>rw[e] at b<;>simp[arity] at b<;>omega
  rw[g 0 (by omega)] at h⊢
  rw[j 0 (by omega)]
  split
  ·rename_i a
   right
   exact unM_ok (inS_pos (c 0 (by omega)) (by omega))
  ·rename_i a;rw[if_neg a] at h;exact absurd rfl h
 simp only[if_neg u] at h⊢
 have r:t.ks.length=2:=by
  unfold arity at b
  rw[if_neg (by omega),if_neg (by omega),if_neg (by omega),if_neg (by omega),if_pos (by omega)] at b
  omega
 have x:=g 0 (by omega)
 have y:=g 1 (by omega)
 rw[x,y] at h⊢
 rw[j 0 (by omega),j 1 (by omega)]
 have i0:=c 0 (by omega)
 have i1:=c 1 (by omega)
 by_cases k:t.op=14
 ·simp only[k,if_true] at h⊢
  split
  ·rename_i a
   right
   exact cat_ok (inS_pos i0 a.1) (inS_pos i1 a.2.1) a.2.2
  ·rename_i a;rw[if_neg a] at h;exact absurd rfl h
 simp only[if_neg k] at h⊢
 by_cases l:15≤t.op
 ·simp only[if_pos l] at h⊢
  split
  ·exact Xz0
  ·rename_i a;rw[if_neg a] at h;exact absurd rfl h
 simp only[if_neg l] at h⊢
 split
 ·rename_i a
  right
  refine binM_ok (by omega) (by omega) (inS_pos i0 a.1) ?_
  rw[a.2];exact inS_pos i1 (by omega)
 ·rename_i a;rw[if_neg a] at h;exact absurd rfl h
end Go.M
end
section
namespace Go.Vc
open Go Go.M
section
variable {P:Program} {F F' S:Nat→Prop} {w w':World} {K:Value→World→Prop} {k:Nat} {v:Value} {xs:List (List Value)}
theorem Sl.ldAgg (h:Sl F w k v xs) {t:TypeId} (b:aggB P t k=true) {i:Nat} (hi:i<xs.length):ze P t (.pointer (some (eaddr v k i))) w K=K (.agg ⟨xs.getD i []⟩) w:=by
 have a:(xs.getD i []).length=k:=h.wide _ (M.getD_mem hi _)
 exact y60 (by rw[a];exact b) (Sl.cells h hi)
theorem Sl.ldField (h:Sl F w k v xs) {t:TypeId} (a:oneB P t=true) {i j:Nat} {x:Value} (hi:i<xs.length) (b:(xs.getD i [])[j]?=some x):ze P t (.pointer (some ((eaddr v k i).add j))) w K=K x w:=
 xY a (Sl.cells h hi j x b)
theorem Sl.small (h:Sl F w k v xs):xs.length≤9223372036854775807:=by
 obtain⟨_,_,_,a,b,_⟩:=h.shape;omega
end
inductive TmR (F:Nat→Prop) (w:World):List Value→Tm→Prop
 |mk {o a b:Int} {s:ByteArray} {ks:List Tm} {kv:Value} {css:List (List Value)}:Sl F w 5 kv css→css.length=ks.length→(∀i,i<ks.length→TmR F w (css.getD i []) (ks.getD i default))→
  TmR F w [.int .i64 o,.int .i64 a,.int .i64 b,.string s,kv] (.mk o a b s ks)
def TmsR (F:Nat→Prop) (w:World) (kv:Value) (ks:List Tm):Prop:= ∃css:List (List Value),Sl F w 5 kv css∧css.length=ks.length∧∀i,i<ks.length→TmR F w (css.getD i []) (ks.getD i default)
def TermR (F:Nat→Prop) (w:World) (v:Value) (t:Tm):Prop:= ∃kv,v= .agg ⟨[.int .i64 t.op,.int .i64 t.a,.int .i64 t.b,.string t.s,kv]⟩∧TmsR F w kv t.ks
def DclsR (F:Nat→Prop) (w:World) (v:Value) (ds:List Dcl):Prop:=Sl F w 2 v (ds.map fun d=>[.string d.1,.int .i64 d.2])
section
variable {P:Program} {F F' S:Nat→Prop} {w w':World} {K:Value→World→Prop} {v:Value} {cs:List Value} {t:Tm} {ks:List Tm} {ds:List Dcl}
theorem TmR.same (h:TmR F w cs t) (hw:Same S w w') (hs:∀b,F b→b<w.heap.size→¬S b):TmR F w' cs t:=by
 induction h with
 |mk a c e d=>exact .mk (a.same hw hs) c d
theorem TmR.ext (h:TmR F w cs t) (hw:Ext w w'):TmR F w' cs t:=h.same hw fun _ _ _ h=>h
theorem TmR.weaken (h:TmR F w cs t) (d:∀b,F b→b<w.heap.size→F' b):TmR F' w cs t:=by
 induction h with
 |mk a c f e=>exact .mk (a.weaken d) c e
theorem TmR.inv (h:TmR F w cs t):∃kv,cs=[.int .i64 t.op,.int .i64 t.a,.int .i64 t.b,.string t.s,kv]∧TmsR F w kv t.ks:=by
 cases h with
 |mk c d e=>exact⟨_,rfl,_,c,d,e⟩
theorem TmR.of {kv:Value} (h:TmsR F w kv t.ks):TmR F w [.int .i64 t.op,.int .i64 t.a,.int .i64 t.b,.string t.s,kv] t:=by
 obtain⟨css,c,d,e⟩:=h
 cases t with
 |mk o a b s ks=>exact .mk c d e
theorem TmR.term (h:TmR F w cs t):TermR F w (.agg ⟨cs⟩) t:=by
 obtain⟨kv,rfl,a⟩:=h.inv
 exact⟨kv,rfl,a⟩
theorem TermR.cells (h:TermR F w v t):∃cs,v= .agg ⟨cs⟩∧TmR F w cs t:=by
 obtain⟨kv,rfl,a⟩:=h
 exact⟨_,rfl,TmR.of a⟩
theorem TmsR.same (h:TmsR F w v ks) (hw:Same S w w') (hs:∀b,F b→b<w.heap.size→¬S b):TmsR F w' v ks:=by
 obtain⟨css,a,c,d⟩:=h;exact⟨css,a.same hw hs,c,fun i hi=>(d i hi).same hw hs⟩
theorem TmsR.ext (h:TmsR F w v ks) (hw:Ext w w'):TmsR F w' v ks:=h.same hw fun _ _ _ h=>h
theorem TmsR.weaken (h:TmsR F w v ks) (a:∀b,F b→b<w.heap.size→F' b):TmsR F' w v ks:=by
 obtain⟨css,c,d,e⟩:=h;exact⟨css,c.weaken a,d,fun i hi=>(e i hi).weaken a⟩
theorem TermR.same (h:TermR F w v t) (hw:Same S w w') (hs:∀b,F b→b<w.heap.size→¬S b):TermR F w' v t:=by
 obtain⟨kv,a,c⟩:=h;exact⟨kv,a,c.same hw hs⟩
theorem TermR.ext (h:TermR F w v t) (hw:Ext w w'):TermR F w' v t:=h.same hw fun _ _ _ h=>h
theorem TermR.weaken (h:TermR F w v t) (d:∀b,F b→b<w.heap.size→F' b):TermR F' w v t:=by
 obtain⟨kv,a,c⟩:=h;exact⟨kv,a,c.weaken d⟩
theorem TmsR.small (h:TmsR F w v ks):ks.length≤9223372036854775807:=by
 obtain⟨css,a,b,c⟩:=h;rw[←b];exact a.small
theorem TmsR.len (h:TmsR F w v ks) {t:TypeId} (c:isSl P t=true) (ty:TypeId):vbi P .len [t] ty [v] w' K=K (.int .i64 ks.length) w':=by
 obtain⟨css,a,b,d⟩:=h
 have:=Sl.len (K:=K) (w':=w') a c ty;rwa[b] at this
theorem TmsR.iaddr (h:TmsR F w v ks) {t:TypeId} (e:elB P t 5=true) {kd:IntKind} {i:Int} (b:0≤i) (c:i<ks.length):
  zm P t v (.int kd i) w' K=K (.pointer (some (eaddr v 5 i.toNat))) w':=by
 obtain⟨css,a,d,f⟩:=h
 exact Sl.iaddr a e b (by rw[d];exact c)
theorem TmsR.load (h:TmsR F w v ks) {t:TypeId} (d:aggB P t 5=true) {i:Nat} (hi:i<ks.length) (c:∀x,TermR F w x (ks.getD i default)→K x w):ze P t (.pointer (some (eaddr v 5 i))) w K:=by
 obtain⟨css,a,e,b⟩:=h
 rw[a.ldAgg d (by omega)]
 exact c _ (b i hi).term
theorem TmsR.nil:TmsR F w (.slice none 0 0) []:=⟨[],⟨⟨none,0,rfl,by simp,by simp,by simp⟩,by simp⟩,rfl,by simp⟩
theorem DclsR.same (h:DclsR F w v ds) (hw:Same S w w') (hs:∀b,F b→b<w.heap.size→¬S b):DclsR F w' v ds:=Sl.same h hw hs
theorem DclsR.ext (h:DclsR F w v ds) (hw:Ext w w'):DclsR F w' v ds:=Sl.ext h hw
theorem DclsR.weaken (h:DclsR F w v ds) (a:∀b,F b→b<w.heap.size→F' b):DclsR F' w v ds:=Sl.weaken h a
theorem DclsR.len (h:DclsR F w v ds) {t:TypeId} (a:isSl P t=true) (ty:TypeId):vbi P .len [t] ty [v] w' K=K (.int .i64 ds.length) w':=by
 have:=Sl.len (K:=K) (w':=w') h a ty;rwa[List.length_map] at this
theorem DclsR.iaddr (h:DclsR F w v ds) {t:TypeId} (c:elB P t 2=true) {kd:IntKind} {i:Int} (a:0≤i) (b:i<ds.length):
  zm P t v (.int kd i) w' K=K (.pointer (some (eaddr v 2 i.toNat))) w':=Sl.iaddr h c a (by rw[List.length_map];exact b)
theorem y40 {i:Nat} (hi:i<ds.length):(ds.map fun d=>[Value.string d.1,Value.int .i64 d.2]).getD i []=[.string (ds.getD i (nada,0)).1,.int .i64 (ds.getD i (nada,0)).2]:=M.getD_map _ hi _ _
theorem DclsR.load (h:DclsR F w v ds) {t:TypeId} (a:aggB P t 2=true) {i:Nat} (hi:i<ds.length):ze P t (.pointer (some (eaddr v 2 i))) w K=K (.agg ⟨[.string (ds.getD i (nada,0)).1,.int .i64 (ds.getD i (nada,0)).2]⟩) w:=by
 rw[Sl.ldAgg h a (by rw[List.length_map];exact hi),y40 hi]
theorem DclsR.load0 (h:DclsR F w v ds) {t:TypeId} (a:oneB P t=true) {i:Nat} (hi:i<ds.length):ze P t (.pointer (some ((eaddr v 2 i).add 0))) w K=K (.string (ds.getD i (nada,0)).1) w:=
 Sl.ldField h a (by rw[List.length_map];exact hi) (by rw[y40 hi];rfl)
theorem DclsR.load1 (h:DclsR F w v ds) {t:TypeId} (a:oneB P t=true) {i:Nat} (hi:i<ds.length):ze P t (.pointer (some ((eaddr v 2 i).add 1))) w K=K (.int .i64 (ds.getD i (nada,0)).2) w:=
 Sl.ldField h a (by rw[List.length_map];exact hi) (by rw[y40 hi];rfl)
theorem DclsR.small (h:DclsR F w v ds):ds.length≤9223372036854775807:=by have:=Sl.small h;simpa using this
theorem Sl.base {k:Nat} {xs:List (List Value)} (h:Sl F w k v xs) (f:xs≠[]):∀a l c,v= .slice (some a) l c→∃b o,a=⟨b,o,none⟩:=by
 intro a l c e
 obtain⟨i,j,rfl,_,_,g⟩:=h.shape
 obtain⟨b,o,rfl,_⟩:=g f
 injection e with d m n
 injection d with d
 exact⟨b,o,d.symm⟩
theorem Sl.taken {k:Nat} {xs:List (List Value)} (h:Sl F w k v xs) {n:Nat} (t:n≤xs.length):Sl F w k (cutV v n) (xs.take n):=by
 obtain⟨a,c,rfl,s,m,q⟩:=h.shape
 have l:(xs.take n).length=n:=by rw[List.length_take];omega
 refine⟨⟨a,c,by rw[l];rfl,by omega,m,fun j=>?_⟩,fun x r=>h.wide x (List.mem_of_mem_take r)⟩
 have f:xs≠[]:=fun e=>j (by rw[e,List.take_nil])
 obtain⟨b,o,e,p,g,d⟩:=q f
 refine⟨b,o,e,p,g,fun i hi=>?_⟩
 rw[l] at hi
 rw[M.take_getD hi]
 exact d i (by omega)
theorem DclsR.cut (h:DclsR F w v ds) (a:ds≠[]) {t:TypeId} (c:elB P t 2=true) {kd:IntKind} {n:Nat} (b:n≤ds.length):yC P t v none (some (.int kd n)) none w' K=K (cutV v n) w':=
 Sl.cut h (Sl.base h (by simpa using a)) c (by rw[List.length_map];exact b)
theorem DclsR.taken (h:DclsR F w v ds) {n:Nat} (a:n≤ds.length):DclsR F w (cutV v n) (ds.take n):=by
 unfold DclsR;rw[List.map_take];exact Sl.taken h (by rw[List.length_map];exact a)
theorem Blk.sl1k {b k:Nat} {cs:List Value} {e:TypeId} (h:Blk w b cs e) (d:cs.length=k):Sl (· =b) w k (.slice (some ⟨b,0,none⟩) 1 1) [cs]:=by
 refine⟨⟨_,1,rfl,Nat.le_refl _,by decide,fun _=>⟨b,0,rfl,rfl,h.lt,fun i hi j v c=>?_⟩⟩,by simp[d]⟩
 have a:i=0:=by simpa using hi
 subst a
 rw[xj]
 simp only[Nat.zero_mul,Nat.zero_add,Nat.add_zero]
 exact h.cell c
theorem Own.app1k {bs ty b k:Nat} {t e:TypeId} {xs:List (List Value)} {y:List Value} (h:Own P 0 k t w v xs) (g:elZ P t k bs=true) (j:0<k) (i:Blk w b y e) (l:y.length=k) (a:∀c,c∈y→c.oneCell'=true)
  (d:xs.length<9223372036854775807) (hlen:(xs.length+1)*bs≤140737488355328)
  (f:∀v' w',Own P 0 k t w' v' (xs++[y])→Same (fun b=>v.ownBlock=some b) w w'→(∀b,v'.ownBlock=some b→v.ownBlock=some b∨w.heap.size≤b)→K v' w'):vbi P .append [t,t] ty [v,.slice (some ⟨b,0,none⟩) 1 1] w K:=
 vappend (F:=(· =b)) g j h (i.sl1k l) (by simpa using a) (by omega) (by rw[List.length_singleton];omega) (by simpa using hlen) f
theorem YY {t e k:Nat} {z x:Value} {y:List Value} (hu:P.underlying t=some (.slice e)) (l:jH P e k=true) (hzero:yT P e z) (i:x.cells=⟨y⟩) (j:y.length=k) (h:k≤16777216)
  (g:∀b w',b=w.heap.size→Ext w w'→w'.heap.size=w.heap.size+1→Blk w' b y e→K (.slice (some ⟨b,0,none⟩) 1 1) w'):vbuildS P t 1 [(0,x)] w K:=by
 refine vbuildS_row (xs:=[x]) (us:=[y]) hu l hzero (by simp[i]) (by simp[j]) (by simpa using h) fun b w' a c d f=>g b w' a c d (by simpa using f)
theorem Blk.ownk {b k n:Nat} {t:TypeId} {css:List (List Value)} (h:Blk w b css.flatten (VR P t)) (hw:∀x,x∈css→x.length=k) (c:n=css.length) (hm:n≤9223372036854775807):Own P 0 k t w (.slice (some ⟨b,0,none⟩) n n) css:=by
 subst c
 have a:=flatten_len hw
 refine⟨⟨by rw[a],.inr ⟨b,css.length,⟨css.flatten⟩,by simp,Nat.zero_le _,h,Nat.le_refl _,by simpa[maxLen] using hm,by simpa using a,?_⟩⟩,hw⟩
 show List.take (css.length*k) css.flatten=css.flatten
 rw[←a,List.take_length]
theorem flatten_set {k:Nat}:∀{xs:List (List Value)} (_:∀x,x∈xs→x.length=k) {i j:Nat} (u:Value),i<xs.length→j<k→xs.flatten.set (i*k+j) u=(xs.set i ((xs.getD i []).set j u)).flatten
 |[],_,i,j,u,hi,_=>by simp at hi
 |x::r,h,i,j,u,hi,a=>by
  have c:=h x List.mem_cons_self
  cases i with
  |zero=>
   rw[Nat.zero_mul,Nat.zero_add]
   simp only[List.flatten_cons,List.set_cons_zero,List.getD_cons_zero]
   rw[List.set_append_left _ _ (by omega)]
  |succ i=>
   simp only[List.flatten_cons,List.set_cons_succ,List.getD_cons_succ]
   rw[List.set_append_right _ _ (by rw[Nat.add_mul];omega)]
   congr 1
   have e:(i+1)*k+j-x.length=i*k+j:=by rw[Nat.add_mul];omega
   rw[e,flatten_set (fun y b=>h y (List.mem_cons_of_mem _ b)) u (by simpa using hi) a]
theorem Own.stCell {k:Nat} {t e:TypeId} {xs:List (List Value)} {x:Value} (h:Own P 0 k t w v xs) (E:x.cells= #[x]) (o:x.oneCell'=true) (G:jH P e 1=true) {i j:Nat} (hi:i<xs.length) (C:j<k)
  (p:∀w',Own P 0 k t w' v (xs.set i ((xs.getD i []).set j x))→Same (fun b=>v.ownBlock=some b) w w'→w'.heap.size=w.heap.size→K undef w'):zl P e (.pointer (some ((eaddr v k i).add j))) x w K:=by
 rcases h.row.2 with⟨rfl,I⟩|⟨g,cap,cur,rfl,s,H,D,z,A,n⟩
 ·omega
 ·have a:=h.row
  have d:i*k+j<xs.length*k:=by
   have:i*k+k≤xs.length*k:=by rw[←Nat.succ_mul];exact Nat.mul_le_mul_right _ hi
   omega
  have u:=World.ownsRow.cellAt a (i*k+j) d
  have B:=World.ownsRow.frozenAt a (i*k+j)
  obtain⟨l,m⟩:=World.ownsRow.stored a (i*k+j) x
  have f:(xs.getD i []).length=k:=h.wide _ (M.getD_mem hi _)
  have c:w.cell? ⟨g,i*k+j,none⟩=some (xs.flatten.getD (i*k+j) undef):=by
   rw[u]
   have:i*k+j<xs.flatten.length:=by rw[flatten_len h.wide];exact d
   rw[List.getD_eq_getElem?_getD,List.getElem?_eq_getElem this];rfl
  have r:(⟨g,i*k+j,none⟩:Addr).add 0=⟨g,i*k+j,none⟩:=rfl
  have he:(eaddr (.slice (some ⟨g,0,none⟩) xs.length cap) k i).add j=⟨g,i*k+j,none⟩:=by
   simp only[eaddr];rw[xj];simp
  rw[he]
  refine⟨(),w.setCell ⟨g,i*k+j,none⟩ x,?_,p _ ?_ (Same.of_grown m) (by simp)⟩
  ·simp only[Instr.storeAt,Instr.sureAddr,Sem.run_bind,Sem.run_pure,Result.andThen_ok,storeVar,run_sizeOf G,E]
   cases x<;>first|(cases o;done)|simp[storeCells,store,Sem.run,r,c,B]
  ·refine⟨?_,fun y F=>?_⟩
   ·rw[←flatten_set h.wide x hi C]
    simpa using l
   ·obtain⟨q,J,rfl⟩:=List.getElem_of_mem F
    rw[List.getElem_set]
    split
    ·rw[List.length_set];exact f
    ·exact h.wide _ (List.getElem_mem _)
def PairsR (F:Nat→Prop) (w:World) (v:Value) (xs:List (Int×Int)):Prop:=Sl F w 2 v (xs.map fun x=>[.int .i64 x.1,.int .i64 x.2])
def OwnP (P:Program) (t:TypeId) (w:World) (v:Value) (xs:List (Int×Int)):Prop:=Own P 0 2 t w v (xs.map fun x=>[.int .i64 x.1,.int .i64 x.2])
variable {xs:List (Int×Int)}
theorem PairsR.ext (h:PairsR F w v xs) (hw:Ext w w'):PairsR F w' v xs:=Sl.ext h hw
theorem PairsR.iaddr (h:PairsR F w v xs) {t:TypeId} (c:elB P t 2=true) {kd:IntKind} {i:Int} (a:0≤i) (b:i<xs.length):
  zm P t v (.int kd i) w' K=K (.pointer (some (eaddr v 2 i.toNat))) w':=Sl.iaddr h c a (by rw[List.length_map];exact b)
theorem PairsR.load (h:PairsR F w v xs) {t:TypeId} (a:aggB P t 2=true) {i:Nat} (hi:i<xs.length):ze P t (.pointer (some (eaddr v 2 i))) w K=K (.agg ⟨[.int .i64 (xs.getD i (0,0)).1,.int .i64 (xs.getD i (0,0)).2]⟩) w:=by
 rw[Sl.ldAgg h a (by rw[List.length_map];exact hi),M.getD_map _ hi _ (0,0)]
theorem PairsR.load1 (h:PairsR F w v xs) {t:TypeId} (a:oneB P t=true) {i:Nat} (hi:i<xs.length):ze P t (.pointer (some ((eaddr v 2 i).add 1))) w K=K (.int .i64 (xs.getD i (0,0)).2) w:=
 Sl.ldField h a (by rw[List.length_map];exact hi) (by rw[M.getD_map _ hi _ (0,0)];rfl)
theorem OwnP.pairs {t:TypeId} (h:OwnP P t w v xs):PairsR (fun b=>v.ownBlock=some b) w v xs:=Own.sl h
theorem OwnP.ext {t:TypeId} (h:OwnP P t w v xs) (hw:Ext w w'):OwnP P t w' v xs:=Own.ext h hw
theorem OwnP.nil (t:TypeId):OwnP P t w (.slice none 0 0) []:=Own.nil P 0 2 t w
end
end Go.Vc
end
section
namespace Go.Proofs.YtaekfnbnhjgboaaGreatDoor
open Go Go.Vc Go.Proofs
noncomputable abbrev PP:Program:=Tryz.prog
theorem mixed:PP.follows .mixedOrders=true:=by kernel_rfl
abbrev X4:Nat:=7
abbrev X7:Nat:=10
abbrev Jk:Nat:=11
abbrev qH:Nat:=12
abbrev Qv:Nat:=13
abbrev jM:Nat:=14
abbrev Zo:Nat:=15
abbrev qp:Nat:=39
abbrev jc:Nat:=40
abbrev Zn:Nat:=41
abbrev Yd:Nat:=42
abbrev Y8:Nat:=43
abbrev Zm:Nat:=45
abbrev Yu:Nat:=46
abbrev kI:Nat:=47
abbrev Jm:Nat:=48
abbrev jN:Nat:=49
abbrev Yt:Nat:=50
abbrev Xy:Nat:=56
abbrev Zc:Nat:=57
abbrev qM:Nat:=58
abbrev VH:Nat:=59
abbrev Xz:Nat:=60
abbrev Ql:Nat:=61
abbrev Qk:Nat:=62
abbrev Y7:Nat:=63
abbrev Qr:Nat:=64
abbrev kq:Nat:=65
abbrev xi:Nat:=66
abbrev xL:Nat:=67
abbrev jK:Nat:=68
abbrev kJ:Nat:=69
abbrev x7:Nat:=83
abbrev ku:Nat:=84
abbrev qF:Nat:=85
abbrev kK:Nat:=86
abbrev Yp:Nat:=87
abbrev qG:Nat:=88
abbrev Jn:Nat:=89
abbrev Zj:Nat:=90
abbrev ki:Nat:=91
abbrev qo:Nat:=93
abbrev Ys:Nat:=94
abbrev jr:Nat:=95
abbrev Zk:Nat:=96
abbrev Qp:Nat:=97
abbrev kC:Nat:=98
abbrev j1:Nat:=99
abbrev Zi:Nat:=108
abbrev Qq:Nat:=109
abbrev yB:Nat:=110
abbrev Zh:Nat:=111
abbrev Qt:Nat:=112
abbrev Qw:Nat:=113
abbrev Ya:Nat:=114
abbrev jX:Nat:=115
abbrev Xu:Nat:=118
abbrev Qj:Nat:=119
abbrev Xr:Nat:=120
abbrev VG:Nat:=121
abbrev Jb:Nat:=122
abbrev Jc:Nat:=123
abbrev yz:Nat:=124
abbrev qP:Nat:=125
abbrev yf:Nat:=126
abbrev xu:Nat:=129
abbrev Jh:Nat:=132
abbrev Xw:Nat:=133
abbrev Jj:Nat:=134
abbrev Jf:Nat:=135
abbrev Qs:Nat:=136
abbrev KY:Nat:=137
abbrev yK:Nat:=138
abbrev Jo:Nat:=139
abbrev xK:Nat:=140
abbrev XD:Nat:=141
abbrev XC:Nat:=142
abbrev XB:Nat:=143
abbrev XA:Nat:=144
abbrev X5:Nat:=145
abbrev Jl:Nat:=146
abbrev yI:Nat:=147
abbrev qf:Nat:=148
abbrev zB:Nat:=149
abbrev Qo:Nat:=150
abbrev Zd:Nat:=151
abbrev Jg:Nat:=162
abbrev yb:Nat:=163
abbrev qU:Nat:=164
abbrev ja:Nat:=165
abbrev XE:Nat:=166
abbrev jI:Nat:=167
abbrev KZ:Nat:=168
abbrev jd:Nat:=169
abbrev jh:Nat:=170
abbrev y7:Nat:=171
abbrev jf:Nat:=172
abbrev Ze:Nat:=173
abbrev j2:Nat:=174
abbrev qY:Nat:=175
abbrev ZQ:Nat:=176
abbrev J9:Nat:=177
abbrev Qi:Nat:=178
abbrev qD:Nat:=179
abbrev xH:Nat:=180
abbrev Za:Nat:=181
abbrev X2:Nat:=182
abbrev j9:Nat:=183
abbrev qE:Nat:=184
abbrev Qm:Nat:=185
abbrev ko:Nat:=186
abbrev Ja:Nat:=187
abbrev X3:Nat:=188
abbrev Xs:Nat:=189
abbrev Xt:Nat:=190
abbrev xI:Nat:=192
abbrev Xx:Nat:=194
abbrev qi:Nat:=195
abbrev yr:Nat:=203
abbrev Xv:Nat:=204
abbrev kp:Nat:=205
abbrev jR:Nat:=206
abbrev Qu:Nat:=208
abbrev zK:Nat:=209
abbrev kz:Nat:=210
abbrev yO:Nat:=214
abbrev ym:Nat:=215
abbrev jS:Nat:=216
abbrev kG:Nat:=217
abbrev yN:Nat:=218
abbrev qV:Nat:=219
abbrev xp:Nat:=220
abbrev yP:Nat:=221
abbrev yu:Nat:=222
abbrev xV:Nat:=223
abbrev xo:Nat:=224
abbrev kF:Nat:=225
abbrev qn:Nat:=226
abbrev xS:Nat:=227
abbrev jW:Nat:=228
abbrev qb:Nat:=229
abbrev jC:Nat:=230
abbrev Ji:Nat:=231
abbrev Je:Nat:=232
abbrev Zs:Nat:=233
abbrev j8:Nat:=234
abbrev Qn:Nat:=235
abbrev qJ:Nat:=240
abbrev qe:Nat:=241
abbrev qt:Nat:=242
abbrev qu:Nat:=243
abbrev qI:Nat:=244
abbrev ql:Nat:=245
abbrev qw:Nat:=246
abbrev j0:Nat:=248
abbrev Yo:Nat:=251
abbrev QI:Nat:=252
abbrev yR:Nat:=253
abbrev qL:Nat:=254
abbrev kE:Nat:=255
abbrev kD:Nat:=256
abbrev Yq:Nat:=257
abbrev qA:Nat:=258
abbrev kf:Nat:=259
abbrev Jd:Nat:=260
abbrev Zt:Nat:=264
abbrev xm:Nat:=265
abbrev qk:Nat:=266
abbrev qj:Nat:=267
abbrev xn:Nat:=268
abbrev ji:Nat:=269
abbrev kg:Nat:=270
abbrev Y9:Nat:=271
abbrev Zb:Nat:=272
abbrev ZK:Nat:=273
abbrev XN:Nat:=277
abbrev qK:Nat:=278
abbrev xR:Nat:=279
abbrev qm:Nat:=280
abbrev ju:Nat:=285
abbrev ky:Nat:=292
abbrev kH:Nat:=312
abbrev yD:Nat:=313
abbrev yM:Nat:=314
abbrev kA:Nat:=315
abbrev jP:Nat:=316
abbrev yi:Nat:=317
abbrev X6:Nat:=318
abbrev jJ:Nat:=319
abbrev Zl:Nat:=320
abbrev jV:Nat:=321
abbrev jB:Nat:=322
abbrev js:Nat:=323
abbrev Yr:Nat:=324
abbrev xh:Nat:=325
abbrev xg:Nat:=326
abbrev xf:Nat:=327
abbrev xe:Nat:=328
abbrev xd:Nat:=329
abbrev xc:Nat:=330
abbrev xb:Nat:=331
abbrev xa:Nat:=332
abbrev x8:Nat:=333
abbrev yV:Nat:=334
abbrev yU:Nat:=335
abbrev jF:Nat:=336
abbrev jU:Nat:=337
abbrev jA:Nat:=338
abbrev Qx:Nat:=339
abbrev Yb:Nat:=340
abbrev jL:Nat:=341
abbrev jO:Nat:=342
abbrev jx:Nat:=343
abbrev jy:Nat:=344
abbrev je:Nat:=345
abbrev kZ:Nat:=346
abbrev jT:Nat:=347
abbrev jz:Nat:=348
abbrev Yc:Nat:=349
abbrev kB:Nat:=350
abbrev jQ:Nat:=351
abbrev jD:Nat:=352
abbrev jg:Nat:=353
abbrev xJ:Nat:=354
abbrev Z0:Nat:=355
abbrev qa:Nat:=356
abbrev jY:Nat:=357
abbrev jE:Nat:=358
abbrev qW:Nat:=0
abbrev yY:Nat:=2
abbrev Wd:Nat:=2
abbrev zd:Nat:=3
abbrev xB:Nat:=4
abbrev qO:Nat:=5
abbrev zM:Nat:=9
abbrev y4:Nat:=22
abbrev zw:Nat:=23
abbrev za:Nat:=24
abbrev z7:Nat:=26
abbrev zn:Nat:=29
abbrev zg:Nat:=31
abbrev zj:Nat:=32
abbrev zA:Nat:=38
abbrev yy:Nat:=42
abbrev yn:Nat:=61
abbrev zb:Nat:=92
abbrev zS:Nat:=95
abbrev zx:Nat:=96
abbrev ya:Nat:=97
abbrev zP:Nat:=99
abbrev qS:Nat:=100
abbrev yS:Nat:=102
abbrev zZ:Nat:=104
abbrev zH:Nat:=105
abbrev zU:Nat:=107
abbrev zf:Nat:=111
abbrev zc:Nat:=118
abbrev zp:Nat:=134
abbrev kR:Nat:=144
abbrev xr:Nat:=146
abbrev yc:Nat:=147
abbrev zG:Nat:=154
abbrev y9:Nat:=171
abbrev zD:Nat:=174
abbrev zt:Nat:=181
abbrev y6:Nat:=201
abbrev qs:Nat:=203
abbrev yd:Nat:=206
abbrev zQ:Nat:=208
abbrev zX:Nat:=209
abbrev zL:Nat:=210
abbrev zT:Nat:=211
abbrev zN:Nat:=212
abbrev zR:Nat:=213
abbrev zY:Nat:=214
abbrev kS:Nat:=215
abbrev zF:Nat:=217
abbrev yx:Nat:=218
abbrev zV:Nat:=219
abbrev y1:Nat:=279
abbrev yg:Nat:=281
abbrev V4:Nat:=314
abbrev Zx:Nat:=328
abbrev xA:Nat:=358
abbrev y2:Nat:=385
theorem ZO:yT PP zd (.int .i64 0):=by unfold yT;kernel_rfl
@[push_cast] theorem ks0:oneB PP zd=true:=by kernel_rfl
@[push_cast] theorem km:jH PP zd 1=true:=by kernel_rfl
theorem ym0:ZC0 PP zd .i64:=by unfold ZC0;kernel_rfl
theorem jg0:(PP.underlying zd).isSome=true:=by kernel_rfl
theorem ZF0:yT PP xB (.bool false):=by unfold yT;kernel_rfl
@[push_cast] theorem Q70:oneB PP xB=true:=by kernel_rfl
@[push_cast] theorem XZ0:jH PP xB 1=true:=by kernel_rfl
@[push_cast] theorem o_uint8:oneB PP qO=true:=by kernel_rfl
theorem kT0:ZC0 PP qO .u8:=by unfold ZC0;kernel_rfl
theorem qc0:(PP.underlying qO).isSome=true:=by kernel_rfl
theorem XF:yT PP zM (.string ⟨#[]⟩):=by unfold yT;kernel_rfl
@[push_cast] theorem Xq0:oneB PP zM=true:=by kernel_rfl
@[push_cast] theorem q30:jH PP zM 1=true:=by kernel_rfl
theorem XK:PP.underlying zM=some .string:=by kernel_rfl
@[push_cast] theorem o_Luint8:oneB PP y4=true:=by kernel_rfl
@[push_cast] theorem Xx0:elZ PP y4 1 1=true:=by kernel_rfl
theorem Qb:PP.underlying y4=some (.slice qO):=by kernel_rfl
theorem Yx0:VR PP y4=qO:=by kernel_rfl
@[push_cast] theorem s_Luint8:isSl PP y4=true:=by kernel_rfl
@[push_cast] theorem XR0:elB PP y4 1=true:=by kernel_rfl
@[push_cast] theorem zc0:oneB PP zw=true:=by kernel_rfl
@[push_cast] theorem Jz:elZ PP zw 2 24=true:=by kernel_rfl
theorem Zq:PP.underlying zw=some (.slice zA):=by kernel_rfl
theorem Ww:VR PP zw=zA:=by kernel_rfl
@[push_cast] theorem Q40:isSl PP zw=true:=by kernel_rfl
@[push_cast] theorem JE:elB PP zw 2=true:=by kernel_rfl
@[push_cast] theorem jn0:oneB PP za=true:=by kernel_rfl
@[push_cast] theorem Zp:jH PP za 1=true:=by kernel_rfl
@[push_cast] theorem X8:elZ PP za 5 64=true:=by kernel_rfl
theorem X1:PP.underlying za=some (.slice z7):=by kernel_rfl
theorem Wv:VR PP za=z7:=by kernel_rfl
@[push_cast] theorem Q30:isSl PP za=true:=by kernel_rfl
@[push_cast] theorem Qe0:elB PP za 5=true:=by kernel_rfl
theorem zO:yT PP z7 (.agg #[(.int .i64 0),(.int .i64 0),(.int .i64 0),(.string ⟨#[]⟩),(.slice none 0 0)]):=by unfold yT;kernel_rfl
theorem jp:strF PP z7=some ([(0,1),(1,1),(2,1),(3,1),(4,1)],[(.int .i64 0),(.int .i64 0),(.int .i64 0),(.string ⟨#[]⟩),(.slice none 0 0)]):=by kernel_rfl
@[push_cast] theorem zu:aggB PP z7 5=true:=by kernel_rfl
@[push_cast] theorem Q9:jH PP z7 5=true:=by kernel_rfl
@[push_cast] theorem Q90:oneB PP zn=true:=by kernel_rfl
@[push_cast] theorem zb0:jH PP zn 1=true:=by kernel_rfl
@[push_cast] theorem jj:elZ PP zn 3 24=true:=by kernel_rfl
theorem ke:PP.underlying zn=some (.slice zp):=by kernel_rfl
theorem QA:VR PP zn=zp:=by kernel_rfl
@[push_cast] theorem qg:isSl PP zn=true:=by kernel_rfl
@[push_cast] theorem Zv:elB PP zn 3=true:=by kernel_rfl
theorem xX:yT PP zg (.agg #[(.int .i64 0),(.slice none 0 0)]):=by unfold yT;kernel_rfl
theorem z80:strF PP zg=some ([(0,1),(1,1)],[(.int .i64 0),(.slice none 0 0)]):=by kernel_rfl
@[push_cast] theorem y5:aggB PP zg 2=true:=by kernel_rfl
theorem ZG0:yT PP zj (.slice none 0 0):=by unfold yT;kernel_rfl
@[push_cast] theorem Q80:oneB PP zj=true:=by kernel_rfl
@[push_cast] theorem ZH0:jH PP zj 1=true:=by kernel_rfl
@[push_cast] theorem Zu:elZ PP zj 1 8=true:=by kernel_rfl
theorem ZP:PP.underlying zj=some (.slice zd):=by kernel_rfl
theorem UL:VR PP zj=zd:=by kernel_rfl
@[push_cast] theorem Q20:isSl PP zj=true:=by kernel_rfl
@[push_cast] theorem Wy:elB PP zj 1=true:=by kernel_rfl
theorem xU:yT PP zA (.agg #[(.string ⟨#[]⟩),(.int .i64 0)]):=by unfold yT;kernel_rfl
theorem kB0:strF PP zA=some ([(0,1),(1,1)],[(.string ⟨#[]⟩),(.int .i64 0)]):=by kernel_rfl
@[push_cast] theorem QD0:aggB PP zA 2=true:=by kernel_rfl
@[push_cast] theorem Yk:jH PP zA 2=true:=by kernel_rfl
@[push_cast] theorem ku0:elZ PP yy 1 1=true:=by kernel_rfl
theorem Qn0:PP.underlying yy=some (.slice xB):=by kernel_rfl
theorem XP0:VR PP yy=xB:=by kernel_rfl
@[push_cast] theorem s_Lbool:isSl PP yy=true:=by kernel_rfl
@[push_cast] theorem QI0:elB PP yy 1=true:=by kernel_rfl
@[push_cast] theorem Qz0:elZ PP yn 1 24=true:=by kernel_rfl
theorem ZX0:PP.underlying yn=some (.slice zj):=by kernel_rfl
theorem XQ0:VR PP yn=zj:=by kernel_rfl
@[push_cast] theorem Qt0:isSl PP yn=true:=by kernel_rfl
@[push_cast] theorem QJ0:elB PP yn 1=true:=by kernel_rfl
theorem kk:yT PP zb (.slice none 0 0):=by unfold yT;kernel_rfl
@[push_cast] theorem x00:oneB PP zb=true:=by kernel_rfl
@[push_cast] theorem Zf:jH PP zb 1=true:=by kernel_rfl
@[push_cast] theorem yX:elZ PP zb 1 8=true:=by kernel_rfl
theorem yW:PP.underlying zb=some (.slice zt):=by kernel_rfl
theorem xq:VR PP zb=zt:=by kernel_rfl
@[push_cast] theorem xE:isSl PP zb=true:=by kernel_rfl
@[push_cast] theorem xk:elB PP zb 1=true:=by kernel_rfl
@[push_cast] theorem Zz0:oneB PP zS=true:=by kernel_rfl
@[push_cast] theorem jl0:oneB PP zx=true:=by kernel_rfl
theorem Qz:PP.underlying zx=some (.map 3 203):=by kernel_rfl
@[push_cast] theorem yf0:oneB PP ya=true:=by kernel_rfl
theorem ZL:PP.underlying ya=some (.map 9 92):=by kernel_rfl
theorem xP0:strF PP zP=some ([(0,1),(1,1),(2,1),(3,1)],[(.pointer none),(.slice none 0 0),(.map none),(.map none)]):=by kernel_rfl
@[push_cast] theorem Zy0:oneB PP qS=true:=by kernel_rfl
@[push_cast] theorem J6:oneB PP yS=true:=by kernel_rfl
@[push_cast] theorem Qg0:jH PP yS 1=true:=by kernel_rfl
theorem xO0:strF PP zZ=some ([(0,1),(1,1)],[(.pointer none),.nilIface]):=by kernel_rfl
@[push_cast] theorem jm0:oneB PP zH=true:=by kernel_rfl
theorem kM:PP.underlying zH=some (.map 134 3):=by kernel_rfl
theorem xM0:strF PP zU=some ([(0,2),(2,1)],[(.int .i64 0),(.slice none 0 0),(.map none)]):=by kernel_rfl
theorem qz:yT PP zf (.agg #[(.int .i64 0),(.slice none 0 0),(.bool false)]):=by unfold yT;kernel_rfl
theorem kA0:strF PP zf=some ([(0,2),(2,1)],[(.int .i64 0),(.slice none 0 0),(.bool false)]):=by kernel_rfl
@[push_cast] theorem VQ:aggB PP zf 3=true:=by kernel_rfl
theorem x6:yT PP zc (.agg #[(.int .i64 0),(.int .i64 0)]):=by unfold yT;kernel_rfl
theorem z60:strF PP zc=some ([(0,1),(1,1)],[(.int .i64 0),(.int .i64 0)]):=by kernel_rfl
@[push_cast] theorem zW:aggB PP zc 2=true:=by kernel_rfl
@[push_cast] theorem Z20:jH PP zc 2=true:=by kernel_rfl
theorem YV:yT PP zp (.agg #[(.bool false),(.int .i64 0),(.int .i64 0)]):=by unfold yT;kernel_rfl
theorem QF:strF PP zp=some ([(0,1),(1,1),(2,1)],[(.bool false),(.int .i64 0),(.int .i64 0)]):=by kernel_rfl
@[push_cast] theorem qq:aggB PP zp 3=true:=by kernel_rfl
@[push_cast] theorem Qa:jH PP zp 3=true:=by kernel_rfl
theorem KC:PP.underlying kR=some (.map 9 3):=by kernel_rfl
theorem yn0:ZC0 PP yc .u64:=by unfold ZC0;kernel_rfl
theorem y90:(PP.underlying yc).isSome=true:=by kernel_rfl
theorem jd0:strF PP zG=some ([(0,1),(1,1)],[(.slice none 0 0),(.map none)]):=by kernel_rfl
@[push_cast] theorem qN:aggB PP zG 2=true:=by kernel_rfl
theorem k90:strF PP y9=some ([(0,1),(1,1)],[(.slice none 0 0),(.int .i64 0)]):=by kernel_rfl
@[push_cast] theorem yl0:elZ PP zD 1 24=true:=by kernel_rfl
theorem J5:PP.underlying zD=some (.slice zb):=by kernel_rfl
@[push_cast] theorem Y40:isSl PP zD=true:=by kernel_rfl
@[push_cast] theorem yz0:elB PP zD 1=true:=by kernel_rfl
theorem yE:yT PP zt (.int .i64 0):=by unfold yT;kernel_rfl
@[push_cast] theorem Xr0:oneB PP zt=true:=by kernel_rfl
@[push_cast] theorem yq:jH PP zt 1=true:=by kernel_rfl
@[push_cast] theorem kt0:elZ PP y6 2 16=true:=by kernel_rfl
theorem kg0:PP.underlying y6=some (.slice zc):=by kernel_rfl
@[push_cast] theorem QH0:elB PP y6 2=true:=by kernel_rfl
theorem ka0:strF PP yd=some ([(0,1),(1,1)],[(.string ⟨#[]⟩),(.int .i64 0)]):=by kernel_rfl
theorem jG:yT PP zQ (.agg #[(.string ⟨#[]⟩),(.int .i64 0)]):=by unfold yT;kernel_rfl
theorem jb0:strF PP zQ=some ([(0,2)],[(.string ⟨#[]⟩),(.int .i64 0)]):=by kernel_rfl
@[push_cast] theorem qq0:aggB PP zQ 2=true:=by kernel_rfl
theorem Yi:yT PP zX (.agg #[(.string ⟨#[]⟩),(.int .i64 0)]):=by unfold yT;kernel_rfl
theorem xN0:strF PP zX=some ([(0,2)],[(.string ⟨#[]⟩),(.int .i64 0)]):=by kernel_rfl
theorem QZ:yT PP zL (.agg #[(.string ⟨#[]⟩),(.int .i64 0)]):=by unfold yT;kernel_rfl
theorem xL0:strF PP zL=some ([(0,2)],[(.string ⟨#[]⟩),(.int .i64 0)]):=by kernel_rfl
@[push_cast] theorem x30:aggB PP zL 2=true:=by kernel_rfl
theorem xl:yT PP zT (.agg #[(.string ⟨#[]⟩),(.int .i64 0)]):=by unfold yT;kernel_rfl
theorem xJ0:strF PP zT=some ([(0,2)],[(.string ⟨#[]⟩),(.int .i64 0)]):=by kernel_rfl
@[push_cast] theorem x10:aggB PP zT 2=true:=by kernel_rfl
theorem xt:yT PP zN (.agg #[(.string ⟨#[]⟩),(.int .i64 0)]):=by unfold yT;kernel_rfl
theorem yT0:strF PP zN=some ([(0,2)],[(.string ⟨#[]⟩),(.int .i64 0)]):=by kernel_rfl
@[push_cast] theorem yq0:aggB PP zN 2=true:=by kernel_rfl
theorem xW:yT PP zR (.agg #[(.string ⟨#[]⟩),(.int .i64 0)]):=by unfold yT;kernel_rfl
theorem xK0:strF PP zR=some ([(0,2)],[(.string ⟨#[]⟩),(.int .i64 0)]):=by kernel_rfl
@[push_cast] theorem x20:aggB PP zR 2=true:=by kernel_rfl
theorem qT:yT PP zY (.agg #[(.string ⟨#[]⟩),(.int .i64 0)]):=by unfold yT;kernel_rfl
theorem jc0:strF PP zY=some ([(0,2)],[(.string ⟨#[]⟩),(.int .i64 0)]):=by kernel_rfl
@[push_cast] theorem qr0:aggB PP zY 2=true:=by kernel_rfl
@[push_cast] theorem qh0:oneB PP kS=true:=by kernel_rfl
theorem zK0:yT PP zF (.agg #[(.string ⟨#[]⟩),(.int .i64 0),.nilFunc]):=by unfold yT;kernel_rfl
theorem yU0:strF PP zF=some ([(0,2),(2,1)],[(.string ⟨#[]⟩),(.int .i64 0),.nilFunc]):=by kernel_rfl
@[push_cast] theorem JC:aggB PP zF 3=true:=by kernel_rfl
@[push_cast] theorem jq0:elZ PP yx 1 16=true:=by kernel_rfl
theorem XI:PP.underlying yx=some (.slice zM):=by kernel_rfl
theorem Zp0:VR PP yx=zM:=by kernel_rfl
@[push_cast] theorem Jd0:isSl PP yx=true:=by kernel_rfl
theorem Yj:yT PP zV (.agg #[(.string ⟨#[]⟩),(.int .i64 0)]):=by unfold yT;kernel_rfl
theorem xQ0:strF PP zV=some ([(0,2)],[(.string ⟨#[]⟩),(.int .i64 0)]):=by kernel_rfl
theorem kY:PP.underlying y1=some (.slice yg):=by kernel_rfl
theorem kP:VR PP y1=yg:=by kernel_rfl
@[push_cast] theorem Ut:isSl PP y1=true:=by kernel_rfl
@[push_cast] theorem Uu:elB PP y1 1=true:=by kernel_rfl
@[push_cast] theorem Kj:oneB PP yg=true:=by kernel_rfl
@[push_cast] theorem Ki:jH PP yg 1=true:=by kernel_rfl
theorem Yq0:ZC0 PP V4 .u64:=by unfold ZC0;kernel_rfl
theorem Qq0:(PP.underlying V4).isSome=true:=by kernel_rfl
theorem xa0:fieldB PP z7 0 0=true:=by kernel_rfl
@[push_cast] theorem YW0 {w:World} {K:Value→World→Prop} (a:Addr):zi PP z7 (.pointer (some a)) 0 w K=K (.pointer (some (a.add 0))) w:=yl xa0 a
theorem x90:fieldB PP z7 1 1=true:=by kernel_rfl
@[push_cast] theorem YV0 {w:World} {K:Value→World→Prop} (a:Addr):zi PP z7 (.pointer (some a)) 1 w K=K (.pointer (some (a.add 1))) w:=yl x90 a
theorem x80:fieldB PP z7 2 2=true:=by kernel_rfl
@[push_cast] theorem YU0 {w:World} {K:Value→World→Prop} (a:Addr):zi PP z7 (.pointer (some a)) 2 w K=K (.pointer (some (a.add 2))) w:=yl x80 a
theorem x70:fieldB PP z7 3 3=true:=by kernel_rfl
@[push_cast] theorem YT0 {w:World} {K:Value→World→Prop} (a:Addr):zi PP z7 (.pointer (some a)) 3 w K=K (.pointer (some (a.add 3))) w:=yl x70 a
theorem x60:fieldB PP z7 4 4=true:=by kernel_rfl
@[push_cast] theorem YS0 {w:World} {K:Value→World→Prop} (a:Addr):zi PP z7 (.pointer (some a)) 4 w K=K (.pointer (some (a.add 4))) w:=yl x60 a
theorem qy0:fieldB PP zg 0 0=true:=by kernel_rfl
@[push_cast] theorem XN0 {w:World} {K:Value→World→Prop} (a:Addr):zi PP zg (.pointer (some a)) 0 w K=K (.pointer (some (a.add 0))) w:=yl qy0 a
theorem qx0:fieldB PP zg 1 1=true:=by kernel_rfl
@[push_cast] theorem XM0 {w:World} {K:Value→World→Prop} (a:Addr):zi PP zg (.pointer (some a)) 1 w K=K (.pointer (some (a.add 1))) w:=yl qx0 a
theorem xf0:fieldB PP zA 0 0=true:=by kernel_rfl
@[push_cast] theorem X10 {w:World} {K:Value→World→Prop} (a:Addr):zi PP zA (.pointer (some a)) 0 w K=K (.pointer (some (a.add 0))) w:=yl xf0 a
theorem xe0:fieldB PP zA 1 1=true:=by kernel_rfl
@[push_cast] theorem X00 {w:World} {K:Value→World→Prop} (a:Addr):zi PP zA (.pointer (some a)) 1 w K=K (.pointer (some (a.add 1))) w:=yl xe0 a
theorem UK:fieldB PP zP 0 0=true:=by kernel_rfl
@[push_cast] theorem Zn0 {w:World} {K:Value→World→Prop} (a:Addr):zi PP zP (.pointer (some a)) 0 w K=K (.pointer (some (a.add 0))) w:=yl UK a
theorem UJ:fieldB PP zP 1 1=true:=by kernel_rfl
@[push_cast] theorem Zm0 {w:World} {K:Value→World→Prop} (a:Addr):zi PP zP (.pointer (some a)) 1 w K=K (.pointer (some (a.add 1))) w:=yl UJ a
theorem UI:fieldB PP zP 2 2=true:=by kernel_rfl
@[push_cast] theorem Zl0 {w:World} {K:Value→World→Prop} (a:Addr):zi PP zP (.pointer (some a)) 2 w K=K (.pointer (some (a.add 2))) w:=yl UI a
theorem UH:fieldB PP zP 3 3=true:=by kernel_rfl
@[push_cast] theorem Zk0 {w:World} {K:Value→World→Prop} (a:Addr):zi PP zP (.pointer (some a)) 3 w K=K (.pointer (some (a.add 3))) w:=yl UH a
theorem UG:fieldB PP zZ 0 0=true:=by kernel_rfl
@[push_cast] theorem Zj0 {w:World} {K:Value→World→Prop} (a:Addr):zi PP zZ (.pointer (some a)) 0 w K=K (.pointer (some (a.add 0))) w:=yl UG a
theorem UF:fieldB PP zZ 1 1=true:=by kernel_rfl
@[push_cast] theorem Zi0 {w:World} {K:Value→World→Prop} (a:Addr):zi PP zZ (.pointer (some a)) 1 w K=K (.pointer (some (a.add 1))) w:=yl UF a
theorem UE:fieldB PP zU 0 0=true:=by kernel_rfl
@[push_cast] theorem Zh0 {w:World} {K:Value→World→Prop} (a:Addr):zi PP zU (.pointer (some a)) 0 w K=K (.pointer (some (a.add 0))) w:=yl UE a
theorem UD:fieldB PP zU 1 2=true:=by kernel_rfl
@[push_cast] theorem Zg0 {w:World} {K:Value→World→Prop} (a:Addr):zi PP zU (.pointer (some a)) 1 w K=K (.pointer (some (a.add 2))) w:=yl UD a
theorem x50:fieldB PP zf 0 0=true:=by kernel_rfl
@[push_cast] theorem YR0 {w:World} {K:Value→World→Prop} (a:Addr):zi PP zf (.pointer (some a)) 0 w K=K (.pointer (some (a.add 0))) w:=yl x50 a
theorem x40:fieldB PP zf 1 2=true:=by kernel_rfl
@[push_cast] theorem YQ0 {w:World} {K:Value→World→Prop} (a:Addr):zi PP zf (.pointer (some a)) 1 w K=K (.pointer (some (a.add 2))) w:=yl x40 a
theorem qw0:fieldB PP zc 0 0=true:=by kernel_rfl
@[push_cast] theorem XL0 {w:World} {K:Value→World→Prop} (a:Addr):zi PP zc (.pointer (some a)) 0 w K=K (.pointer (some (a.add 0))) w:=yl qw0 a
theorem qv0:fieldB PP zc 1 1=true:=by kernel_rfl
@[push_cast] theorem XK0 {w:World} {K:Value→World→Prop} (a:Addr):zi PP zc (.pointer (some a)) 1 w K=K (.pointer (some (a.add 1))) w:=yl qv0 a
theorem xd0:fieldB PP zp 0 0=true:=by kernel_rfl
@[push_cast] theorem YZ0 {w:World} {K:Value→World→Prop} (a:Addr):zi PP zp (.pointer (some a)) 0 w K=K (.pointer (some (a.add 0))) w:=yl xd0 a
theorem xc0:fieldB PP zp 1 1=true:=by kernel_rfl
@[push_cast] theorem YY0 {w:World} {K:Value→World→Prop} (a:Addr):zi PP zp (.pointer (some a)) 1 w K=K (.pointer (some (a.add 1))) w:=yl xc0 a
theorem xb0:fieldB PP zp 2 2=true:=by kernel_rfl
@[push_cast] theorem YX0 {w:World} {K:Value→World→Prop} (a:Addr):zi PP zp (.pointer (some a)) 2 w K=K (.pointer (some (a.add 2))) w:=yl xb0 a
theorem zN0:fieldB PP zG 0 0=true:=by kernel_rfl
@[push_cast] theorem ZE0 {w:World} {K:Value→World→Prop} (a:Addr):zi PP zG (.pointer (some a)) 0 w K=K (.pointer (some (a.add 0))) w:=yl zN0 a
theorem zM0:fieldB PP zG 1 1=true:=by kernel_rfl
@[push_cast] theorem ZD0 {w:World} {K:Value→World→Prop} (a:Addr):zi PP zG (.pointer (some a)) 1 w K=K (.pointer (some (a.add 1))) w:=yl zM0 a
theorem ys0:fieldB PP y9 0 0=true:=by kernel_rfl
@[push_cast] theorem JD {w:World} {K:Value→World→Prop} (a:Addr):zi PP y9 (.pointer (some a)) 0 w K=K (.pointer (some (a.add 0))) w:=yl ys0 a
theorem yr0:fieldB PP y9 1 1=true:=by kernel_rfl
@[push_cast] theorem yw0 {w:World} {K:Value→World→Prop} (a:Addr):zi PP y9 (.pointer (some a)) 1 w K=K (.pointer (some (a.add 1))) w:=yl yr0 a
theorem yu0:fieldB PP yd 0 0=true:=by kernel_rfl
@[push_cast] theorem Yv0 {w:World} {K:Value→World→Prop} (a:Addr):zi PP yd (.pointer (some a)) 0 w K=K (.pointer (some (a.add 0))) w:=yl yu0 a
theorem yt0:fieldB PP yd 1 1=true:=by kernel_rfl
@[push_cast] theorem Yu0 {w:World} {K:Value→World→Prop} (a:Addr):zi PP yd (.pointer (some a)) 1 w K=K (.pointer (some (a.add 1))) w:=yl yt0 a
theorem Wu:fieldB PP zF 1 2=true:=by kernel_rfl
@[push_cast] theorem kV0 {w:World} {K:Value→World→Prop} (a:Addr):zi PP zF (.pointer (some a)) 1 w K=K (.pointer (some (a.add 2))) w:=yl Wu a
@[push_cast] theorem X70 {w:World} {K:Value→World→Prop} (b a:Value):ZP0 PP zc (.agg ⟨[b,a]⟩) 1 w K=K a w:=yH (by kernel_rfl)
noncomputable def mn_kids:String:=match PP.info? 208 with|some i=>(match i.methods[0]? with|some m=>m.name|none=>default)|none=>default
noncomputable def Yv:String:=match PP.info? 208 with|some i=>(match i.methods[1]? with|some m=>m.name|none=>default)|none=>default
noncomputable def kL:String:=match PP.info? 208 with|some i=>(match i.methods[2]? with|some m=>m.name|none=>default)|none=>default
noncomputable def Qy:String:=match PP.info? 208 with|some i=>(match i.methods[3]? with|some m=>m.name|none=>default)|none=>default
theorem YA0:concB PP zM=true:=by kernel_rfl
@[push_cast] theorem Jh0 {w:World} {K:Value→World→Prop} (v:Value):KW PP zM v w K=K (.iface zM v) w:=Xq YA0 v
theorem qX:concB PP zQ=true:=by kernel_rfl
@[push_cast] theorem YO0 {w:World} {K:Value→World→Prop} (v:Value):KW PP zQ v w K=K (.iface zQ v) w:=Xq qX v
theorem VK (a b:Value) (w:World):(method (PP.types.size+Made.depth) zQ (.agg ⟨[a,b]⟩) mn_kids).run PP w= .ok (yD,.agg ⟨[a,b]⟩) w:=by kernel_rfl
theorem VJ (a b:Value) (w:World):(method (PP.types.size+Made.depth) zQ (.agg ⟨[a,b]⟩) Yv).run PP w= .ok (kA,.agg ⟨[a,b]⟩) w:=by kernel_rfl
theorem Km (a b:Value) (w:World):(method (PP.types.size+Made.depth) zQ (.agg ⟨[a,b]⟩) kL).run PP w= .ok (jP,.agg ⟨[a,b]⟩) w:=by kernel_rfl
theorem VI (a b:Value) (w:World):(method (PP.types.size+Made.depth) zQ (.agg ⟨[a,b]⟩) Qy).run PP w= .ok (yM,.agg ⟨[a,b]⟩) w:=by kernel_rfl
theorem jk:concB PP zX=true:=by kernel_rfl
@[push_cast] theorem Ye0 {w:World} {K:Value→World→Prop} (v:Value):KW PP zX v w K=K (.iface zX v) w:=Xq jk v
theorem Ky (a b:Value) (w:World):(method (PP.types.size+Made.depth) zX (.agg ⟨[a,b]⟩) mn_kids).run PP w= .ok (yD,.agg ⟨[a,b]⟩) w:=by kernel_rfl
theorem Kx (a b:Value) (w:World):(method (PP.types.size+Made.depth) zX (.agg ⟨[a,b]⟩) Yv).run PP w= .ok (jV,.agg ⟨[a,b]⟩) w:=by kernel_rfl
theorem Ju (a b:Value) (w:World):(method (PP.types.size+Made.depth) zX (.agg ⟨[a,b]⟩) kL).run PP w= .ok (jB,.agg ⟨[a,b]⟩) w:=by kernel_rfl
theorem Kw (a b:Value) (w:World):(method (PP.types.size+Made.depth) zX (.agg ⟨[a,b]⟩) Qy).run PP w= .ok (yM,.agg ⟨[a,b]⟩) w:=by kernel_rfl
theorem Yx:concB PP zL=true:=by kernel_rfl
@[push_cast] theorem Yd0 {w:World} {K:Value→World→Prop} (v:Value):KW PP zL v w K=K (.iface zL v) w:=Xq Yx v
theorem Kv (a b:Value) (w:World):(method (PP.types.size+Made.depth) zL (.agg ⟨[a,b]⟩) mn_kids).run PP w= .ok (yD,.agg ⟨[a,b]⟩) w:=by kernel_rfl
theorem Ku (a b:Value) (w:World):(method (PP.types.size+Made.depth) zL (.agg ⟨[a,b]⟩) Yv).run PP w= .ok (jU,.agg ⟨[a,b]⟩) w:=by kernel_rfl
theorem Jt (a b:Value) (w:World):(method (PP.types.size+Made.depth) zL (.agg ⟨[a,b]⟩) kL).run PP w= .ok (jA,.agg ⟨[a,b]⟩) w:=by kernel_rfl
theorem Kt (a b:Value) (w:World):(method (PP.types.size+Made.depth) zL (.agg ⟨[a,b]⟩) Qy).run PP w= .ok (yM,.agg ⟨[a,b]⟩) w:=by kernel_rfl
theorem yZ:concB PP zT=true:=by kernel_rfl
@[push_cast] theorem Yb0 {w:World} {K:Value→World→Prop} (v:Value):KW PP zT v w K=K (.iface zT v) w:=Xq yZ v
theorem Kl (a b:Value) (w:World):(method (PP.types.size+Made.depth) zT (.agg ⟨[a,b]⟩) mn_kids).run PP w= .ok (yD,.agg ⟨[a,b]⟩) w:=by kernel_rfl
theorem Kk (a b:Value) (w:World):(method (PP.types.size+Made.depth) zT (.agg ⟨[a,b]⟩) Yv).run PP w= .ok (jO,.agg ⟨[a,b]⟩) w:=by kernel_rfl
theorem Jp (a b:Value) (w:World):(method (PP.types.size+Made.depth) zT (.agg ⟨[a,b]⟩) kL).run PP w= .ok (jx,.agg ⟨[a,b]⟩) w:=by kernel_rfl
theorem x5:concB PP zN=true:=by kernel_rfl
@[push_cast] theorem ZA0 {w:World} {K:Value→World→Prop} (v:Value):KW PP zN v w K=K (.iface zN v) w:=Xq x5 v
theorem Jr (a b:Value) (w:World):(method (PP.types.size+Made.depth) zN (.agg ⟨[a,b]⟩) mn_kids).run PP w= .ok (yD,.agg ⟨[a,b]⟩) w:=by kernel_rfl
theorem Jq (a b:Value) (w:World):(method (PP.types.size+Made.depth) zN (.agg ⟨[a,b]⟩) Yv).run PP w= .ok (jy,.agg ⟨[a,b]⟩) w:=by kernel_rfl
theorem QT (a b:Value) (w:World):(method (PP.types.size+Made.depth) zN (.agg ⟨[a,b]⟩) kL).run PP w= .ok (je,.agg ⟨[a,b]⟩) w:=by kernel_rfl
theorem xM:concB PP zR=true:=by kernel_rfl
@[push_cast] theorem Yc0 {w:World} {K:Value→World→Prop} (v:Value):KW PP zR v w K=K (.iface zR v) w:=Xq xM v
theorem Ks (a b:Value) (w:World):(method (PP.types.size+Made.depth) zR (.agg ⟨[a,b]⟩) mn_kids).run PP w= .ok (yD,.agg ⟨[a,b]⟩) w:=by kernel_rfl
theorem Kr (a b:Value) (w:World):(method (PP.types.size+Made.depth) zR (.agg ⟨[a,b]⟩) Yv).run PP w= .ok (jT,.agg ⟨[a,b]⟩) w:=by kernel_rfl
theorem Js (a b:Value) (w:World):(method (PP.types.size+Made.depth) zR (.agg ⟨[a,b]⟩) kL).run PP w= .ok (jz,.agg ⟨[a,b]⟩) w:=by kernel_rfl
theorem Kq (a b:Value) (w:World):(method (PP.types.size+Made.depth) zR (.agg ⟨[a,b]⟩) Qy).run PP w= .ok (yM,.agg ⟨[a,b]⟩) w:=by kernel_rfl
theorem qr:concB PP zY=true:=by kernel_rfl
@[push_cast] theorem YP0 {w:World} {K:Value→World→Prop} (v:Value):KW PP zY v w K=K (.iface zY v) w:=Xq qr v
theorem VN (a b:Value) (w:World):(method (PP.types.size+Made.depth) zY (.agg ⟨[a,b]⟩) mn_kids).run PP w= .ok (yD,.agg ⟨[a,b]⟩) w:=by kernel_rfl
theorem VM (a b:Value) (w:World):(method (PP.types.size+Made.depth) zY (.agg ⟨[a,b]⟩) Yv).run PP w= .ok (kB,.agg ⟨[a,b]⟩) w:=by kernel_rfl
theorem Ko (a b:Value) (w:World):(method (PP.types.size+Made.depth) zY (.agg ⟨[a,b]⟩) kL).run PP w= .ok (jQ,.agg ⟨[a,b]⟩) w:=by kernel_rfl
theorem VL (a b:Value) (w:World):(method (PP.types.size+Made.depth) zY (.agg ⟨[a,b]⟩) Qy).run PP w= .ok (yM,.agg ⟨[a,b]⟩) w:=by kernel_rfl
theorem QJ:concB PP zF=true:=by kernel_rfl
@[push_cast] theorem ZB0 {w:World} {K:Value→World→Prop} (v:Value):KW PP zF v w K=K (.iface zF v) w:=Xq QJ v
theorem Jx (a b c:Value) (w:World):(method (PP.types.size+Made.depth) zF (.agg ⟨[a,b,c]⟩) mn_kids).run PP w= .ok (yD,.agg ⟨[a,b]⟩) w:=by kernel_rfl
theorem Jw (a b c:Value) (w:World):(method (PP.types.size+Made.depth) zF (.agg ⟨[a,b,c]⟩) Yv).run PP w= .ok (jD,.agg ⟨[a,b,c]⟩) w:=by kernel_rfl
theorem QU (a b c:Value) (w:World):(method (PP.types.size+Made.depth) zF (.agg ⟨[a,b,c]⟩) kL).run PP w= .ok (jg,.agg ⟨[a,b,c]⟩) w:=by kernel_rfl
theorem Jv (a b c:Value) (w:World):(method (PP.types.size+Made.depth) zF (.agg ⟨[a,b,c]⟩) Qy).run PP w= .ok (yM,.agg ⟨[a,b]⟩) w:=by kernel_rfl
theorem jl:concB PP zV=true:=by kernel_rfl
@[push_cast] theorem Yf0 {w:World} {K:Value→World→Prop} (v:Value):KW PP zV v w K=K (.iface zV v) w:=Xq jl v
theorem KB (a b:Value) (w:World):(method (PP.types.size+Made.depth) zV (.agg ⟨[a,b]⟩) mn_kids).run PP w= .ok (yD,.agg ⟨[a,b]⟩) w:=by kernel_rfl
theorem KA (a b:Value) (w:World):(method (PP.types.size+Made.depth) zV (.agg ⟨[a,b]⟩) Yv).run PP w= .ok (jY,.agg ⟨[a,b]⟩) w:=by kernel_rfl
theorem Jy (a b:Value) (w:World):(method (PP.types.size+Made.depth) zV (.agg ⟨[a,b]⟩) kL).run PP w= .ok (jE,.agg ⟨[a,b]⟩) w:=by kernel_rfl
theorem Kz (a b:Value) (w:World):(method (PP.types.size+Made.depth) zV (.agg ⟨[a,b]⟩) Qy).run PP w= .ok (yM,.agg ⟨[a,b]⟩) w:=by kernel_rfl
end Go.Proofs.YtaekfnbnhjgboaaGreatDoor
end
section
namespace Go.Proofs.YtaekfnbnhjgboaaGreatDoor
open Go Go.Vc Go.Proofs
variable {v0 v1 v2 v3 v4 v5 v6 v7 v8:Value} {w:World} {R:Value→World→Prop}
theorem Wz (h:yF (fun a=>vbi PP .len [y4] zd [v0] w fun b c=>zq PP .gtr zd true b (.int .i64 1048576) c fun b c=>vif b (R (.bool true) c) (vbi PP .len [y4] zd [v1] c fun b c=>zq PP .gtr zd true b (.int .i64 1048576) c fun b c=>vif b (R (.bool true) c) (a [] c))) (fun _ _ a=>vcall PP jN #[v0] a fun a b=>zk PP a 0 b fun b c=>zk PP a 1 c fun a c=>zJ PP z7 c fun c d=>zl PP z7 c a d fun _ a=>ze PP z7 c a fun a d=>vcall PP X7 #[b,a] d fun a d=>zk PP a 0 d fun d e=>zk PP a 1 e fun a e=>zJ PP zg e fun e f=>zl PP zg e d f fun _ d=>ze PP z7 c d fun d f=>vcall PP Jk #[b,d] f fun d f=>zk PP d 0 f fun f g=>zk PP d 1 g fun d g=>zJ PP zg g fun g h=>zl PP zg g f h fun _ f=>yF (fun h=>ze PP zg e f fun f i=>ze PP zg g i fun i j=>vcall PP qp #[f,i] j fun f i=>vun PP .not f i fun f i=>vif f (ze PP zg e i fun f j=>ze PP zg g j fun j k=>vcall PP qp #[f,j] k fun f j=>vif f (vcall PP qH #[a,d] j fun f k=>R f k) (R (.bool false) j)) (vcall PP qH #[a,d] i fun f i=>vun PP .not f i fun f i=>vif f (ze PP zg e i fun f j=>ze PP zg g j fun j k=>vcall PP qp #[f,j] k fun f j=>vif f (vcall PP qH #[a,d] j fun f k=>R f k) (R (.bool false) j)) (vbi PP .len [zj] zd [a] i fun f i=>zq PP .eql zd true f (.int .i64 0) i fun f i=>vif f (ze PP zg e i fun f j=>ze PP zg g j fun g j=>vcall PP qp #[f,g] j fun f g=>vif f (vcall PP qH #[a,d] g fun d f=>R d f) (R (.bool false) g)) (h [] i)))) (fun _ _ d=>ze PP z7 c d fun c d=>vcall PP Yt #[b,c] d fun c d=>vcall PP X7 #[b,c] d fun c d=>zk PP c 0 d fun d f=>zk PP c 1 f fun c f=>zJ PP zg f fun f g=>zl PP zg f d g fun _ d=>vbi PP .len [zj] zd [c] d fun d g=>vbi PP .len [zj] zd [a] g fun g h=>zq PP .neq zd false d g h fun d g=>vif d (vbi PP .len [zj] zd [c] g fun d h=>zq PP .eql zd true d (.int .i64 0) h fun d h=>R d h) (vcall PP Zn #[b] g fun d g=>yJ [(.int .i64 0)] g fun g h _ i=>zq PP .lss zd true (sl 0 h) (.int .i64 16) i fun i j=>vif i (vcall PP Y8 #[v1] j fun i k=>zq PP .mul zd true (.int .i64 53) (sl 0 h) k fun k l=>zq PP .add zd false i k l fun i k=>zq PP .rem zd false i d k fun d i=>vcall PP Yd #[b,d] i fun d i=>zk PP d 0 i fun i k=>zk PP d 1 k fun _ d=>vcall PP Yu #[b,i] d fun b d=>y0 d fun d=>ze PP zg e d fun e i=>i=d∧ze PP zg f d fun i k=>k=d∧vcall PP Zm #[e,b] d fun d e=>(ze PP zg f e fun k l=>k=i∧l=e)∧vcall PP Zo #[d,a] e fun a d=>(ze PP zg f d fun k l=>k=i∧l=d)∧vcall PP Zm #[i,b] d fun b d=>vcall PP Zo #[b,c] d fun b c=>zq PP .neq zd false a b c fun a b=>b=c∧vif a (R (.bool false) c) (zq PP .add zd true (sl 0 h) (.int .i64 1) c fun a b=>g [a] b)) (R (.bool true) j))))):vcall PP X4 #[v0,v1] w R:=zo {ord:=[(17,[0,1,3,5,6,8,2,4,7,9,10],[(0,[2,4,7,9,10]),(1,[2,4,7,9,10]),(3,[4,7,9,10]),(5,[7,9,10]),(6,[7,9,10]),(8,[9,10]),(2,[4,7,9,10]),(4,[7,9,10]),(7,[9,10]),(9,[10])])],loops:=[(13,[14])],cuts:=[(8195,[]),(28680,[])]} Tryz.func7 (by kernel_rfl) (by kernel_rfl) h
theorem k30 (h:yo PP z7 v1 w fun a b=>zJ PP zg b fun b c=>ze PP z7 a c fun c d=>vcall PP kI #[v0,c] d fun c d=>zq PP .eql zd true c (.int .i64 (-1)) d fun c d=>vif c (zC PP zg [] d fun c e=>zl PP zg b c e fun _ c=>vlv PP zg b c fun c e=>R (.tuple #[c,(.slice none 0 0)]) e) (vcall PP Zc #[v0] d fun c d=>ze PP z7 a d fun a d=>vcall PP qM #[c,a] d fun a d=>y0 d fun d=>vnil PP c d fun e f=>f=d∧zi PP zP e 0 d fun e f=>f=d∧ze PP zS e d fun e f=>f=d∧vnil PP e d fun e f=>f=d∧zi PP zZ e 1 d fun e f=>f=d∧ze PP yS e d fun e f=>f=d∧ze PP yS (.pointer (some ⟨qW,0,none⟩)) d fun f g=>g=d∧vcall PP VH #[e,f] d fun d e=>vif d (zC PP zg [] e fun d f=>zl PP zg b d f fun _ d=>vlv PP zg b d fun d f=>R (.tuple #[d,(.slice none 0 0)]) f) (y0 e fun d=>vnil PP c d fun e f=>f=d∧zi PP zP e 0 d fun f g=>g=d∧ze PP zS f d fun g h=>h=d∧vnil PP g d fun h i=>i=d∧zi PP zZ h 0 d fun i j=>j=d∧ze PP qS i d fun j k=>k=d∧vnil PP j d fun k l=>l=d∧zi PP zU k 0 d fun l m=>m=d∧ze PP zg l d fun m n=>n=d∧vcall PP Xz #[a] d fun a d=>(ze PP zg l d fun n o=>n=m∧o=d)∧(zi PP zU k 0 d fun n o=>n=l∧o=d)∧(vnil PP j d fun n o=>n=k∧o=d)∧(ze PP qS i d fun n o=>n=j∧o=d)∧(zi PP zZ h 0 d fun n o=>n=i∧o=d)∧(vnil PP g d fun n o=>n=h∧o=d)∧(ze PP zS f d fun n o=>n=g∧o=d)∧(zi PP zP e 0 d fun n o=>n=f∧o=d)∧(vnil PP c d fun n o=>n=e∧o=d)∧zl PP zg b m d fun _ c=>vlv PP zg b c fun b c=>R (.tuple #[b,a]) c))):vcall PP X7 #[v0,v1] w R:=zo {ord:=[(5,[0,1,2,3,4,5,6,7,8],[(0,[1,2,3,4,5,6,8]),(1,[2,3,4,5,6,8]),(2,[3,4,5,6,8]),(3,[4,5,6,8]),(4,[5,6,8]),(5,[6,8]),(6,[8]),(7,[8])]),(7,[0,1,2,3,4,5,6,7,8,9,10,11,12,13],[(0,[1,2,3,4,5,6,7,8,9,12,13]),(1,[2,3,4,5,6,7,8,9,12,13]),(2,[3,4,5,6,7,8,9,12,13]),(3,[4,5,6,7,8,9,12,13]),(4,[5,6,7,8,9,12,13]),(5,[6,7,8,9,12,13]),(6,[7,8,9,12,13]),(7,[8,9,12,13]),(8,[9,12,13]),(9,[12,13]),(10,[11,12,13]),(11,[12,13]),(12,[13])])]} Tryz.func10 (by kernel_rfl) (by kernel_rfl) h
theorem jU0 (h:yo PP z7 v1 w fun a b=>zJ PP zg b fun b c=>ze PP z7 a c fun c d=>vcall PP jc #[v0,c] d fun c d=>zq PP .lss zd true c (.int .i64 0) d fun c d=>vif c (zC PP zg [] d fun c e=>vbuildS PP zj 0 [] e fun e f=>zl PP zg b c f fun _ c=>vlv PP zg b c fun c f=>R (.tuple #[c,e]) f) (y0 d fun c=>ze PP z7 a c fun d e=>e=c∧vcall PP Y7 #[v0] c fun c e=>(ze PP z7 a e fun a f=>a=d∧f=e)∧zC PP zg [(0,c)] e fun a c=>c=e∧zC PP zf [(0,a),(1,(.bool true))] e fun a c=>c=e∧vcall PP Qk #[a,v0,d] e fun a c=>zk PP a 0 c fun d e=>e=c∧zk PP a 1 c fun a e=>e=c∧vcall PP Ql #[d,a] c fun a c=>zk PP a 0 c fun d e=>e=c∧zk PP a 1 c fun a e=>e=c∧zl PP zg b d c fun _ c=>vlv PP zg b c fun b c=>R (.tuple #[b,a]) c)):vcall PP Jk #[v0,v1] w R:=zo {ord:=[(3,[0,4,5,1,2,3,6,7,8,9,10,11,12,13],[(0,[1,2,3,6,7,8,9,10,11,12,13]),(4,[6,7,8,9,10,11,12,13]),(5,[6,7,8,9,10,11,12,13]),(1,[2,3,6,7,8,9,10,11,12,13]),(2,[3,6,7,8,9,10,11,12,13]),(3,[6,7,8,9,10,11,12,13]),(6,[7,8,9,10,11,12,13]),(7,[9,10,11,12,13]),(8,[9,10,11,12,13]),(9,[10,11,12,13]),(10,[12,13]),(11,[12,13]),(12,[13])])]} Tryz.func11 (by kernel_rfl) (by kernel_rfl) h
theorem qW0 (h:vbi PP .len [zj] zd [v0] w fun a b=>vbi PP .len [zj] zd [v1] b fun b c=>zq PP .neq zd false a b c fun a b=>vif a (R (.bool false) b) (yJ [(.int .i64 0)] b fun a b _ c=>vbi PP .len [zj] zd [v0] c fun c d=>zq PP .lss zd false (sl 0 b) c d fun c d=>vif c (y0 d fun c=>zm PP zj v0 (sl 0 b) c fun e f=>f=c∧ze PP zd e c fun e f=>f=c∧zm PP zj v1 (sl 0 b) c fun f g=>g=c∧ze PP zd f c fun f g=>g=c∧zq PP .neq zd false e f c fun e f=>f=c∧vif e (R (.bool false) c) (zq PP .add zd true (sl 0 b) (.int .i64 1) c fun b c=>a [b] c)) (R (.bool true) d))):vcall PP qH #[v0,v1] w R:=zo {ord:=[(6,[0,1,2,3,4,5,6,7,8],[(0,[2,3,8]),(1,[2,3,8]),(2,[3,8]),(3,[8]),(4,[6,7,8]),(5,[6,7,8]),(6,[7,8]),(7,[8])])],loops:=[(4,[5])]} Tryz.func12 (by kernel_rfl) (by kernel_rfl) h
theorem qV0 (h:vbi PP .len [zw] zd [v0] w fun a b=>zq PP .gtr zd true a (.int .i64 4) b fun a b=>vif a (R (.bool false) b) (yJ [(.int .i64 0),(.int .i64 0)] b fun a b _ c=>vbi PP .len [zw] zd [v0] c fun c d=>zq PP .lss zd false (sl 1 b) c d fun c d=>vif c (y0 d fun c=>zm PP zw v0 (sl 1 b) c fun e f=>f=c∧zi PP zA e 0 c fun e f=>f=c∧ze PP zM e c fun e f=>f=c∧vcall PP Qr #[e] c fun c e=>vun PP .not c e fun c f=>f=e∧vif c (R (.bool false) e) (zm PP zw v0 (sl 1 b) e fun c f=>f=e∧zi PP zA c 1 e fun c f=>f=e∧ze PP zd c e fun c f=>f=e∧zq PP .lss zd true c (.int .i64 1) e fun c f=>f=e∧vif c (R (.bool false) e) (zm PP zw v0 (sl 1 b) e fun c f=>f=e∧zi PP zA c 1 e fun c f=>f=e∧ze PP zd c e fun c f=>f=e∧zq PP .gtr zd true c (.int .i64 4) e fun c f=>f=e∧vif c (R (.bool false) e) (yC PP zw v0 none (some (sl 1 b)) none e fun c f=>f=e∧zm PP zw v0 (sl 1 b) e fun f g=>g=e∧zi PP zA f 0 e fun f g=>g=e∧ze PP zM f e fun f g=>g=e∧vcall PP kq #[c,f] e fun c e=>zq PP .geq zd true c (.int .i64 0) e fun c f=>f=e∧vif c (R (.bool false) e) (zm PP zw v0 (sl 1 b) e fun c e=>zi PP zA c 1 e fun c e=>ze PP zd c e fun c e=>zq PP .add zd false (sl 0 b) c e fun c e=>zq PP .add zd true (sl 1 b) (.int .i64 1) e fun e f=>a [c,e] f))))) (zq PP .leq zd true (sl 0 b) (.int .i64 8) d fun a b=>R a b))):vcall PP Qv #[v0] w R:=zo {ord:=[(7,[0,1,2,3,4,5,6,7,8,9,10,11,12,13,14,15,16,17,18,19,20,21,22,23,24,25,26,27,28,29,30,31,32,33,34],[(0,[2,3,4,5,6,7,8,9,10,11,12,13,14,15,16,17,18,19,20,21,22,23,24,25,26,27,28,29,30,31,32,33,34]),(1,[2,3,4,5,6,7,8,9,10,11,12,13,14,15,16,17,18,19,20,21,22,23,24,25,26,27,28,29,30,31,32,33,34]),(2,[3,4,5,6,7,8,9,10,11,12,13,14,15,16,17,18,19,20,21,22,23,24,25,26,27,28,29,30,31,32,33,34]),(3,[4,5,6,7,8,9,10,11,12,13,14,15,16,17,18,19,20,21,22,23,24,25,26,27,28,29,30,31,32,33,34]),(4,[5,6,7,8,9,10,11,12,13,14,15,16,17,18,19,20,21,22,23,24,25,26,27,28,29,30,31,32,33,34]),(5,[6,7,8,9,10,11,12,13,14,15,16,17,18,19,20,21,22,23,24,25,26,27,28,29,30,31,32,33,34]),(6,[7,8,9,10,11,12,13,14,15,16,17,18,19,20,21,22,23,24,25,26,27,28,29,30,31,32,33,34]),(7,[8,9,10,11,12,13,14,15,16,17,18,19,20,21,22,23,24,25,26,27,28,29,30,31,32,33,34]),(8,[10,11,12,13,14,15,16,17,18,19,20,21,22,23,24,25,26,27,28,29,30,31,32,33,34]),(9,[10,11,12,13,14,15,16,17,18,19,20,21,22,23,24,25,26,27,28,29,30,31,32,33,34]),(10,[11,12,13,14,15,16,17,18,19,20,21,22,23,24,25,26,27,28,29,30,31,32,33,34]),(11,[12,13,14,15,16,17,18,19,20,21,22,23,24,25,26,27,28,29,30,31,32,33,34]),(12,[13,14,15,16,17,18,19,20,21,22,23,24,25,26,27,28,29,30,31,32,33,34]),(13,[14,15,16,17,18,19,20,21,22,23,24,25,26,27,28,29,30,31,32,33,34]),(14,[15,16,17,18,19,20,21,22,23,24,25,26,27,28,29,30,31,32,33,34]),(15,[16,17,18,19,20,21,22,23,24,25,26,27,28,29,30,31,32,33,34]),(16,[18,19,20,21,22,23,24,25,26,27,28,29,30,31,32,33,34]),(17,[18,19,20,21,22,23,24,25,26,27,28,29,30,31,32,33,34]),(18,[19,20,21,22,23,24,25,26,27,28,29,30,31,32,33,34]),(19,[20,21,22,23,24,25,26,27,28,29,30,31,32,33,34]),(20,[21,22,23,24,25,26,27,28,29,30,31,32,33,34]),(21,[22,23,24,25,26,27,28,29,30,31,32,33,34]),(22,[23,24,25,26,27,28,29,30,31,32,33,34]),(23,[24,25,26,27,28,29,30,31,32,33,34]),(24,[26,32,33,34]),(25,[26,32,33,34]),(26,[32,33,34]),(27,[29,30,31,32,33,34]),(28,[29,30,31,32,33,34]),(29,[30,31,32,33,34]),(30,[31,32,33,34]),(31,[32,33,34]),(32,[33,34]),(33,[34])])],loops:=[(5,[3,4])]} Tryz.func13 (by kernel_rfl) (by kernel_rfl) h
theorem zT0 (h:yo PP z7 v0 w fun a b=>zi PP z7 a 3 b fun b c=>ze PP zM b c fun b c=>zq PP .neq zM true b (.string {data:= #[]}) c fun b c=>vif b (R (.tuple #[(.int .i64 0),(.bool false)]) c) (yF (fun b=>zi PP z7 a 0 c fun c d=>ze PP zd c d fun c d=>zq PP .eql zd true c (.int .i64 20) d fun c d=>vif c (zi PP z7 a 4 d fun c e=>ze PP za c e fun c e=>vbi PP .len [za] zd [c] e fun c e=>zq PP .eql zd true c (.int .i64 0) e fun c e=>vif c (zi PP z7 a 1 e fun c f=>ze PP zd c f fun c f=>zi PP z7 a 2 f fun f g=>ze PP zd f g fun f g=>zC PP zc [(0,c),(1,f)] g fun c f=>vcall PP xi #[c] f fun c f=>b [c] f) (b [(.bool false)] e)) (b [(.bool false)] d)) (fun b _ c=>vif (sl 0 b) (zi PP z7 a 2 c fun b d=>ze PP zd b d fun b d=>R (.tuple #[b,(.bool true)]) d) (ze PP z7 a c fun b c=>zC PP z7 [(0,(.int .i64 24))] c fun c d=>vcall PP xL #[b,c] d fun b c=>vif b (R (.tuple #[(.int .i64 1),(.bool true)]) c) (y0 c fun b=>zi PP z7 a 0 b fun c d=>d=b∧ze PP zd c b fun c d=>d=b∧zq PP .eql zd true c (.int .i64 25) b fun c d=>d=b∧vif c (ze PP z7 a b fun c d=>d=b∧vcall PP jK #[] b fun d e=>(ze PP z7 a e fun a f=>a=c∧f=e)∧vcall PP xL #[c,d] e fun a c=>vif a (R (.tuple #[(.int .i64 0),(.bool true)]) c) (R (.tuple #[(.int .i64 0),(.bool false)]) c)) (R (.tuple #[(.int .i64 0),(.bool false)]) b)))))):vcall PP jM #[v0] w R:=zo {ord:=[(7,[0,1,2,3,4,5,6,7,8],[(0,[1,2,3,4,5,6,7,8]),(1,[2,3,4,5,6,7,8]),(2,[3,4,5,6,7,8]),(3,[4,5,6,7,8]),(4,[6,7,8]),(5,[6,7,8]),(6,[7,8]),(7,[8])])],cuts:=[(16388,[8])]} Tryz.func14 (by kernel_rfl) (by kernel_rfl) h
theorem xI0 (h:vbi PP .len [zj] zd [v1] w fun a b=>zq PP .gtr zd true a (.int .i64 4) b fun a b=>vif a (R (.int .i64 0) b) (vbi PP .len [zj] zd [v1] b fun a b=>yJ [(.int .i64 0),(.int .i64 0)] b fun b c _ d=>zq PP .lss zd false (sl 1 c) a d fun a d=>vif a (zm PP zj v1 (sl 1 c) d fun a e=>ze PP zd a e fun a e=>vcall PP kJ #[v0,a] e fun a e=>vif a (zq PP .shl zd true (.int .i64 1) (sl 1 c) e fun a f=>zq PP .or zd false (sl 0 c) a f fun a f=>zq PP .add zd true (sl 1 c) (.int .i64 1) f fun f g=>b [a,f] g) (zq PP .add zd true (sl 1 c) (.int .i64 1) e fun a e=>b [(sl 0 c),a] e)) (R (sl 0 c) d))):vcall PP Zo #[v0,v1] w R:=zo {loops:=[(5,[5,13])]} Tryz.func15 (by kernel_rfl) (by kernel_rfl) h
theorem xG0 (h:yo PP zg v0 w fun a b=>yo PP zg v1 b fun b c=>zi PP zg a 0 c fun c d=>ze PP zd c d fun c d=>zi PP zg b 0 d fun d e=>ze PP zd d e fun d e=>zq PP .eql zd false c d e fun c d=>vif c (zi PP zg a 1 d fun a c=>ze PP zn a c fun a c=>zi PP zg b 1 c fun b c=>ze PP zn b c fun b c=>vcall PP x7 #[a,b] c fun a b=>R a b) (R (.bool false) d)):vcall PP qp #[v0,v1] w R:=zo {} Tryz.func39 (by kernel_rfl) (by kernel_rfl) h
theorem yF0 (h:yo PP z7 v1 w fun a b=>ze PP z7 a b fun b c=>vcall PP ku #[b] c fun b c=>zk PP b 0 c fun c d=>zk PP b 1 d fun b d=>vcall PP Qv #[v0] d fun d e=>vun PP .not d e fun d e=>vif d (R (.int .i64 (-1)) e) (zq PP .gtr zd true c (.int .i64 20) e fun c d=>vif c (R (.int .i64 (-1)) d) (zq PP .gtr zd true b (.int .i64 7) d fun b c=>vif b (R (.int .i64 (-1)) c) (ze PP z7 a c fun a b=>vcall PP qF #[v0,a] b fun a b=>R a b)))):vcall PP jc #[v0,v1] w R:=zo {} Tryz.func40 (by kernel_rfl) (by kernel_rfl) h
theorem xH0 (h:vcall PP kK #[v0] w fun a b=>vun PP .not a b fun a b=>vif a (R (.int .i64 0) b) (vbi PP .len [zw] zd [v0] b fun a b=>yJ [(.int .i64 0),(.int .i64 0)] b fun b c _ d=>zq PP .lss zd false (sl 1 c) a d fun a d=>vif a (zm PP zw v0 (sl 1 c) d fun a e=>ze PP zA a e fun a e=>zJ PP zA e fun e f=>zl PP zA e a f fun _ a=>zi PP zA e 1 a fun a e=>ze PP zd a e fun a e=>zq PP .add zd false (sl 0 c) a e fun a e=>zq PP .add zd true (sl 1 c) (.int .i64 1) e fun e f=>b [a,e] f) (zq PP .shl zd true (.int .i64 1) (sl 0 c) d fun a b=>R a b))):vcall PP Zn #[v0] w R:=zo {loops:=[(5,[3,11])]} Tryz.func41 (by kernel_rfl) (by kernel_rfl) h
end Go.Proofs.YtaekfnbnhjgboaaGreatDoor
end
section
namespace Go.Proofs.YtaekfnbnhjgboaaGreatDoor
open Go Go.Vc Go.Proofs
variable {v0 v1 v2 v3 v4 v5 v6 v7 v8:Value} {w:World} {R:Value→World→Prop}
def QG (P:Program) (v0 v1:Value) (w:World) (R:Value→World→Prop):Prop:=yo P zd v1 w fun a b=>zJ P zj b fun b c=>zJ P xB c fun c d=>y0 d fun d=>ze P zd a d fun e f=>f=d∧zq P .lss zd true e (.int .i64 0) d fun e f=>f=d∧vif e (zl P zj b (.slice none 0 0) d fun _ e=>zl P xB c (.bool false) e fun _ e=>vlv P zj b e fun e f=>vlv P xB c f fun f g=>R (.tuple #[e,f]) g) (ze P zd a d fun e f=>f=d∧vcall P Zn #[v0] d fun d f=>(ze P zd a f fun g h=>g=e∧h=f)∧zq P .geq zd false e d f fun d e=>e=f∧vif d (zl P zj b (.slice none 0 0) f fun _ d=>zl P xB c (.bool false) d fun _ d=>vlv P zj b d fun d e=>vlv P xB c e fun e g=>R (.tuple #[d,e]) g) (vcall P Yp #[v0] f fun d e=>Qj0 P d 1 0 e (fun d e f g _ h=>e h fun e=>ze P zd a e fun e h=>zq P .eql zd true e (.int .i64 0) h fun e h=>vif e (vcall P qG #[(sl 0 d)] h fun d e=>zl P zj b d e fun _ d=>zl P xB c (.bool true) d fun _ d=>g d) (ze P zd a h fun d e=>zq P .sub zd true d (.int .i64 1) e fun d e=>zl P zd a d e fun _ a=>f a)) (fun a d=>zl P zj b (.slice none 0 0) d fun _ d=>zl P xB c (.bool false) d fun _ d=>q40 a d fun a=>vlv P zj b a fun a d=>vlv P xB c d fun d e=>R (.tuple #[a,d]) e) (fun a d=>q40 a d fun a=>vlv P zj b a fun a d=>vlv P xB c d fun d e=>R (.tuple #[a,d]) e) (fun a d=>zl P zj b (.slice none 0 0) d fun _ d=>zl P xB c (.bool false) d fun _ d=>q40 a d fun a=>vlv P zj b a fun a b=>vlv P xB c b fun b c=>R (.tuple #[a,b]) c)))
def Us:Ann:={ord:=[(1,[0,1,2,3,4,5,6,7],[(0,[1,2,3,4,5,6,7]),(1,[2,3,4,5,6,7]),(2,[3,4,5,6,7]),(3,[6,7]),(4,[5,6,7]),(5,[6,7]),(6,[7])])],loops:=[],cuts:=[]}
theorem ql0 (v0 v1:Value) (w:World) (R:Value→World→Prop):vx PP Us 0 ((Tryz.f42.body).getD .skip) (retF PP Tryz.f42.results.toList R) (retM PP Tryz.f42.results.toList R) (nthV [v0,v1]) w=QG PP v0 v1 w R:=by kernel_rfl
theorem j80 {v0 v1:Value} {w:World} {R:Value→World→Prop} (h:QG PP v0 v1 w R):vcall PP Yd #[v0,v1] w R:=
 ze0 (T:=Us) (x:=0) (c:=(Tryz.f42.body).getD .skip) (n:=24) mixed Tryz.func42 rfl rfl (by kernel_rfl) (by kernel_rfl) rfl (by rw[ql0];exact h)
theorem qX0 (h:vbi PP .len [y4] zd [v0] w fun a b=>yJ [a,(.int .i64 0)] b fun a b _ c=>yF (fun d=>vbi PP .len [y4] zd [v0] c fun c e=>zq PP .lss zd false (sl 1 b) c e fun c e=>vif c (zq PP .lss zd true (sl 1 b) (.int .i64 40) e fun c f=>vif c (d [] f) (R (sl 0 b) f)) (R (sl 0 b) e)) (fun _ _ c=>zq PP .mul zd true (sl 0 b) (.int .i64 7) c fun c d=>zm PP y4 v0 (sl 1 b) d fun d e=>ze PP qO d e fun d e=>Yl PP qO zd d e fun d e=>zq PP .add zd false c d e fun c d=>zq PP .rem zd true c (.int .i64 4096) d fun c d=>zq PP .add zd true (sl 1 b) (.int .i64 1) d fun b d=>a [c,b] d)):vcall PP Y8 #[v0] w R:=zo {loops:=[(3,[3,4])],cuts:=[(16389,[])]} Tryz.func43 (by kernel_rfl) (by kernel_rfl) h
theorem xF0 (h:yo PP zg v0 w fun a b=>yF (fun c=>ze PP zg a b fun b d=>vcall PP Jm #[b] d fun b d=>vun PP .not b d fun b d=>vif b (R (.slice none 0 0) d) (vbi PP .len [yy] zd [v1] d fun b d=>zi PP zg a 0 d fun d e=>ze PP zd d e fun d e=>zq PP .neq zd false b d e fun b d=>vif b (R (.slice none 0 0) d) (c [] d))) (fun _ _ b=>vbuildS PP yy 1 [(0,(.bool true))] b fun b c=>vbi PP .append [yy,yy] yy [b,v1] c fun b c=>zi PP zg a 1 c fun a c=>ze PP zn a c fun a c=>vbi PP .len [zn] zd [a] c fun c d=>yJ [b,(.int .i64 0)] d fun b d _ e=>zq PP .lss zd false (sl 1 d) c e fun c e=>vif c (zm PP zn a (sl 1 d) e fun a c=>ze PP zp a c fun a c=>zJ PP zp c fun c f=>zl PP zp c a f fun _ a=>y0 a fun a=>zi PP zp c 1 a fun f g=>g=a∧ze PP zd f a fun f g=>g=a∧zi PP zp c 2 a fun g h=>h=a∧ze PP zd g a fun h i=>i=a∧vcall PP kJ #[(sl 0 d),f] a fun a f=>(ze PP zd g f fun i j=>i=h∧j=f)∧(zi PP zp c 2 f fun i j=>i=g∧j=f)∧vcall PP kJ #[(sl 0 d),h] f fun f g=>zi PP zp c 0 g fun c g=>ze PP xB c g fun c g=>vif c (zq PP .neq xB false a f g fun c h=>vbuildS PP yy 1 [(0,c)] h fun c h=>vbi PP .append [yy,yy] yy [(sl 0 d),c] h fun c h=>zq PP .add zd true (sl 1 d) (.int .i64 1) h fun h i=>b [c,h] i) (vif a (vbuildS PP yy 1 [(0,f)] g fun a c=>vbi PP .append [yy,yy] yy [(sl 0 d),a] c fun a c=>zq PP .add zd true (sl 1 d) (.int .i64 1) c fun c f=>b [a,c] f) (vbuildS PP yy 1 [(0,(.bool false))] g fun a c=>vbi PP .append [yy,yy] yy [(sl 0 d),a] c fun a c=>zq PP .add zd true (sl 1 d) (.int .i64 1) c fun c f=>b [a,c] f))) (R (sl 0 d) e))):vcall PP Zm #[v0,v1] w R:=zo {ord:=[(7,[0,1,2,4,5,6,3,7,8,9],[(0,[3,7,8,9]),(1,[2,3,7,8,9]),(2,[3,7,8,9]),(4,[7,8,9]),(5,[6,7,8,9]),(6,[7,8,9]),(3,[7,8,9]),(7,[8,9]),(8,[9])])],loops:=[(5,[5,26])],cuts:=[(8195,[])]} Tryz.func45 (by kernel_rfl) (by kernel_rfl) h
theorem yS0 (h:vcall PP Jn #[v0,v1] w fun a b=>vun PP .not a b fun a b=>vif a (R (.slice none 0 0) b) (vbi PP .len [zw] zd [v0] b fun a b=>yJ [(.slice none 0 0),(.int .i64 0)] b fun b c _ d=>zq PP .lss zd false (sl 1 c) a d fun a d=>vif a (zm PP zw v0 (sl 1 c) d fun a e=>ze PP zA a e fun a e=>zJ PP zA e fun e f=>zl PP zA e a f fun _ a=>zi PP zA e 1 a fun a e=>ze PP zd a e fun a e=>zq PP .sub zd true a (.int .i64 1) e fun a e=>yJ [(sl 0 c),a] e fun a e _ f=>zq PP .geq zd true (sl 1 e) (.int .i64 0) f fun f g=>vif f (zm PP zj v1 (sl 1 c) g fun f h=>ze PP zd f h fun f h=>Yl PP zd yc f h fun f h=>vcall PP qo #[f,(sl 1 e)] h fun f h=>vbuildS PP yy 1 [(0,f)] h fun f h=>vbi PP .append [yy,yy] yy [(sl 0 e),f] h fun f h=>zq PP .sub zd true (sl 1 e) (.int .i64 1) h fun h i=>a [f,h] i) (zq PP .add zd true (sl 1 c) (.int .i64 1) g fun a f=>b [(sl 0 e),a] f)) (R (sl 0 c) d))):vcall PP Yu #[v0,v1] w R:=zo {loops:=[(5,[5,15]),(8,[5,8])]} Tryz.func46 (by kernel_rfl) (by kernel_rfl) h
theorem yN0 (h:yo PP z7 v1 w fun a b=>ze PP z7 a b fun b c=>vcall PP Ys #[b] c fun b c=>zk PP b 0 c fun c d=>zk PP b 1 d fun _ b=>vcall PP kK #[v0] b fun b d=>vun PP .not b d fun b d=>vif b (R (.int .i64 (-1)) d) (zq PP .gtr zd true c (.int .i64 20) d fun b c=>vif b (R (.int .i64 (-1)) c) (y0 c fun b=>ze PP z7 a b fun c d=>d=b∧vcall PP ki #[] b fun b d=>(ze PP z7 a d fun a e=>a=c∧e=d)∧vcall PP jr #[b,v0,c] d fun a b=>R a b))):vcall PP kI #[v0,v1] w R:=zo {ord:=[(4,[1,2,0,3,4],[(1,[3,4]),(2,[3,4]),(0,[3,4]),(3,[4])])]} Tryz.func47 (by kernel_rfl) (by kernel_rfl) h
theorem k10 (h:yo PP zg v0 w fun a b=>ze PP zg a b fun a b=>vcall PP Zk #[a] b fun a b=>zk PP a 0 b fun _ b=>zk PP a 1 b fun a b=>R a b):vcall PP Jm #[v0] w R:=zo {} Tryz.func48 (by kernel_rfl) (by kernel_rfl) h
theorem VS (h:zJ PP z7 w fun a b=>vcall PP Xy #[v0] b fun b c=>vcall PP Qp #[b] c fun b c=>zk PP b 0 c fun c d=>zk PP b 1 d fun b d=>zl PP z7 a b d fun _ b=>vlv PP z7 a b fun a b=>R (.tuple #[c,a]) b):vcall PP jN #[v0] w R:=zo {} Tryz.func49 (by kernel_rfl) (by kernel_rfl) h
theorem yQ0 (h:yo PP z7 v1 w fun a b=>zJ PP z7 b fun b c=>ze PP z7 a c fun c d=>vcall PP kI #[v0,c] d fun c d=>zq PP .eql zd true c (.int .i64 (-1)) d fun c d=>vif c (zC PP z7 [] d fun c e=>zl PP z7 b c e fun _ c=>vlv PP z7 b c fun c e=>R c e) (y0 d fun c=>ze PP z7 a c fun d e=>e=c∧vcall PP ki #[] c fun c e=>(ze PP z7 a e fun a f=>a=d∧f=e)∧zC PP zG [(0,v0),(1,c)] e fun a c=>c=e∧vcall PP j1 #[a,d] e fun a c=>vcall PP kC #[a] c fun a c=>zl PP z7 b a c fun _ a=>vlv PP z7 b a fun a b=>R a b)):vcall PP Yt #[v0,v1] w R:=zo {ord:=[(3,[0,3,1,2,4,5,6],[(0,[2,4,5,6]),(3,[4,5,6]),(1,[2,4,5,6]),(2,[4,5,6]),(4,[5,6]),(5,[6])])]} Tryz.func50 (by kernel_rfl) (by kernel_rfl) h
theorem xr0 (h:vbi PP .len [y4] zd [v0] w fun a b=>zq PP .gtr zd true a (.int .i64 2000) b fun a b=>vif a (yC PP y4 v0 none (some (.int .i64 2000)) none b fun a c=>zC PP y9 [(0,a)] c fun a c=>yo PP y9 a c fun a c=>R a c) (zC PP y9 [(0,v0)] b fun a b=>yo PP y9 a b fun a b=>R a b)):vcall PP Xy #[v0] w R:=zo {} Tryz.func56 (by kernel_rfl) (by kernel_rfl) h
theorem UP (h:vcall PP Qw #[v0] w fun a b=>zC PP zg [(0,a)] b fun a b=>vcall PP Zk #[a] b fun a b=>zk PP a 0 b fun b c=>zk PP a 1 c fun _ a=>zC PP zZ [(0,b)] a fun a b=>yo PP zZ a b fun a b=>vcall PP ki #[] b fun b c=>Q00 PP ya none c fun c d=>zC PP zP [(0,a),(1,v0),(2,b),(3,c)] d fun a b=>yo PP zP a b fun a b=>R a b):vcall PP Zc #[v0] w R:=zo {} Tryz.func57 (by kernel_rfl) (by kernel_rfl) h
theorem W9 (h:yo PP z7 v1 w fun a b=>y0 b fun b=>vnil PP v0 b fun c d=>d=b∧zi PP zP c 2 b fun c d=>d=b∧ze PP zx c b fun c d=>d=b∧ze PP z7 a b fun d e=>e=b∧vcall PP Ya #[c,d] b fun b c=>vnil PP v0 c fun c d=>zi PP zP c 3 d fun c d=>ze PP ya c d fun c d=>XG PP ya c b true d fun c d=>zk PP c 0 d fun d e=>zk PP c 1 e fun c e=>vif c (R d e) (zi PP z7 a 4 e fun c d=>ze PP za c d fun c d=>vbi PP .len [za] zd [c] d fun d e=>yJ [(.slice none 0 0),(.int .i64 0)] e fun e f _ g=>zq PP .lss zd false (sl 1 f) d g fun d g=>vif d (zm PP za c (sl 1 f) g fun c d=>ze PP z7 c d fun c d=>zJ PP z7 d fun d h=>zl PP z7 d c h fun _ c=>ze PP z7 d c fun c d=>vcall PP qM #[v0,c] d fun c d=>vbuildS PP zD 1 [(0,c)] d fun c d=>vbi PP .append [zD,zD] zD [(sl 0 f),c] d fun c d=>zq PP .add zd true (sl 1 f) (.int .i64 1) d fun d h=>e [c,d] h) (vnil PP v0 g fun c d=>zi PP zP c 0 d fun c d=>ze PP zS c d fun c d=>vnil PP c d fun c d=>zi PP zZ c 1 d fun c d=>ze PP yS c d fun c d=>zq PP .neq yS true c .nilIface d fun c d=>vif c (R (.slice none 0 0) d) (ze PP z7 a d fun a c=>vcall PP jX #[v0,a,(sl 0 f)] c fun a c=>vnil PP v0 c fun c d=>zi PP zP c 3 d fun c d=>ze PP ya c d fun c d=>ZH PP ya c b a d fun _ b=>R a b)))):vcall PP qM #[v0,v1] w R:=zo {ord:=[(1,[0,1,2,3,4,5,6],[(0,[1,2,3,5,6]),(1,[2,3,5,6]),(2,[3,5,6]),(3,[5,6]),(4,[5,6]),(5,[6])])],loops:=[(7,[8,32])]} Tryz.func58 (by kernel_rfl) (by kernel_rfl) h
theorem xw0 (h:vbi PP .len [zb] zd [v0] w fun a b=>yJ [(.slice none 0 0),(.int .i64 0)] b fun b c _ d=>zq PP .lss zd false (sl 1 c) a d fun a d=>vif a (zm PP zb v0 (sl 1 c) d fun a e=>ze PP zt a e fun a e=>vbuildS PP zj 1 [(0,a)] e fun a e=>vbi PP .append [zj,zj] zj [(sl 0 c),a] e fun a e=>zq PP .add zd true (sl 1 c) (.int .i64 1) e fun e f=>b [a,e] f) (R (sl 0 c) d)):vcall PP Xz #[v0] w R:=zo {loops:=[(3,[3,8])]} Tryz.func60 (by kernel_rfl) (by kernel_rfl) h
theorem qF0 (h:yo PP zf v0 w fun a b=>zJ PP zg b fun b c=>zi PP zf a 1 c fun c d=>ze PP xB c d fun c d=>vun PP .not c d fun c d=>vif c (zC PP zg [] d fun c e=>vbuildS PP zj 0 [] e fun e f=>zl PP zg b c f fun _ c=>vlv PP zg b c fun c f=>R (.tuple #[c,e]) f) (zi PP zf a 0 d fun a c=>ze PP zg a c fun a c=>vcall PP Xu #[a] c fun a c=>vbuildS PP zj 0 [] c fun c d=>vbi PP .append [zj,zj] zj [c,v1] d fun c d=>zl PP zg b a d fun _ a=>vlv PP zg b a fun a b=>R (.tuple #[a,c]) b)):vcall PP Ql #[v0,v1] w R:=zo {} Tryz.func61 (by kernel_rfl) (by kernel_rfl) h
theorem kw0 (h:yo PP zf v0 w fun a b=>yo PP z7 v2 b fun b c=>zJ PP zf c fun c d=>vbuildS PP yn 0 [] d fun d e=>yJ [d,(.int .i64 0)] e fun d e _ f=>zi PP z7 b 4 f fun f g=>ze PP za f g fun f g=>vbi PP .len [za] zd [f] g fun f g=>zq PP .lss zd false (sl 1 e) f g fun f g=>vif f (vbuildS PP zj 0 [] g fun _ f=>y0 f fun f=>ze PP zf a f fun h i=>i=f∧zi PP z7 b 4 f fun i j=>j=f∧ze PP za i f fun i j=>j=f∧zm PP za i (sl 1 e) f fun i j=>j=f∧ze PP z7 i f fun i j=>j=f∧vcall PP Qk #[h,v1,i] f fun f h=>zk PP f 0 h fun i j=>j=h∧zk PP f 1 h fun j k=>k=h∧zl PP zf a i h fun _ h=>(zk PP f 1 h fun f i=>f=j∧i=h)∧vbuildS PP yn 1 [(0,j)] h fun h j=>vbi PP .append [yn,yn] yn [(sl 0 e),h] j fun h j=>zq PP .add zd true (sl 1 e) (.int .i64 1) j fun j k=>d [h,j] k) (vbi PP .len [yn] zd [(sl 0 e)] g fun d g=>zq PP .eql zd true d (.int .i64 0) g fun d g=>vif d (y0 g fun d=>ze PP zf a d fun h j=>j=d∧ze PP z7 b d fun j k=>k=d∧vcall PP Qj #[v1,j] d fun d j=>(ze PP zf a j fun f i=>f=h∧i=j)∧zl PP zf c h j fun _ h=>vlv PP zf c h fun h j=>R (.tuple #[h,d]) j) (zi PP z7 b 0 g fun d g=>ze PP zd d g fun d g=>zq PP .eql zd true d (.int .i64 22) g fun d g=>vif d (y0 g fun d=>ze PP zf a d fun h j=>j=d∧zm PP yn (sl 0 e) (.int .i64 0) d fun j k=>k=d∧ze PP zj j d fun k l=>l=d∧zi PP z7 b 2 d fun l m=>m=d∧ze PP zd l d fun m n=>n=d∧zi PP z7 b 1 d fun n o=>o=d∧ze PP zd n d fun o p=>p=d∧zq PP .add zd true o (.int .i64 1) d fun p q=>q=d∧yC PP zj k (some m) (some p) none d fun q r=>r=d∧vbuildS PP zj 0 [] d fun d r=>(yC PP zj k (some m) (some p) none r fun f i=>f=q∧i=r)∧(zq PP .add zd true o (.int .i64 1) r fun f i=>f=p∧i=r)∧(ze PP zd n r fun f i=>f=o∧i=r)∧(zi PP z7 b 1 r fun f i=>f=n∧i=r)∧(ze PP zd l r fun f i=>f=m∧i=r)∧(zi PP z7 b 2 r fun f i=>f=l∧i=r)∧(ze PP zj j r fun f i=>f=k∧i=r)∧(zm PP yn (sl 0 e) (.int .i64 0) r fun f i=>f=j∧i=r)∧(ze PP zf a r fun f i=>f=h∧i=r)∧vbi PP .append [zj,zj] zj [d,q] r fun d j=>(ze PP zf a j fun f i=>f=h∧i=j)∧zl PP zf c h j fun _ h=>vlv PP zf c h fun h j=>R (.tuple #[h,d]) j) (zi PP z7 b 0 g fun d g=>ze PP zd d g fun d g=>zq PP .gtr zd true d (.int .i64 22) g fun d g=>vif d (ze PP zf a g fun d h=>ze PP z7 b h fun h j=>vcall PP Xr #[d,h,(sl 0 e)] j fun d h=>zk PP d 0 h fun h j=>zk PP d 1 j fun d j=>zl PP zf c h j fun _ h=>vlv PP zf c h fun h j=>R (.tuple #[h,d]) j) (vbi PP .len [yn] zd [(sl 0 e)] g fun d g=>zq PP .eql zd true d (.int .i64 1) g fun d g=>vif d (y0 g fun d=>ze PP zf a d fun h j=>j=d∧zi PP z7 b 0 d fun j k=>k=d∧ze PP zd j d fun j k=>k=d∧zm PP yn (sl 0 e) (.int .i64 0) d fun k l=>l=d∧ze PP zj k d fun k l=>l=d∧vcall PP VG #[h,j,k] d fun d h=>zk PP d 0 h fun j k=>k=h∧zk PP d 1 h fun d k=>k=h∧zl PP zf c j h fun _ h=>vlv PP zf c h fun h j=>R (.tuple #[h,d]) j) (zi PP z7 b 0 g fun d g=>ze PP zd d g fun d g=>zq PP .geq zd true d (.int .i64 15) g fun d g=>vif d (y0 g fun d=>ze PP zf a d fun h j=>j=d∧zi PP z7 b 0 d fun j k=>k=d∧ze PP zd j d fun j k=>k=d∧zm PP yn (sl 0 e) (.int .i64 0) d fun k l=>l=d∧ze PP zj k d fun k l=>l=d∧zm PP yn (sl 0 e) (.int .i64 1) d fun l m=>m=d∧ze PP zj l d fun l m=>m=d∧vcall PP Jb #[h,j,k,l] d fun d h=>zk PP d 0 h fun j k=>k=h∧zk PP d 1 h fun k l=>l=h∧zl PP zf a j h fun _ h=>(zk PP d 1 h fun f i=>f=k∧i=h)∧ze PP zf a h fun d f=>vbuildS PP zj 1 [(0,k)] f fun f h=>zl PP zf c d h fun _ d=>vlv PP zf c d fun d h=>R (.tuple #[d,f]) h) (y0 g fun d=>ze PP zf a d fun a f=>f=d∧zi PP z7 b 0 d fun b f=>f=d∧ze PP zd b d fun b f=>f=d∧zm PP yn (sl 0 e) (.int .i64 0) d fun f g=>g=d∧ze PP zj f d fun f g=>g=d∧zm PP yn (sl 0 e) (.int .i64 1) d fun e g=>g=d∧ze PP zj e d fun e g=>g=d∧vcall PP Jc #[a,b,f,e] d fun a b=>zk PP a 0 b fun d e=>e=b∧zk PP a 1 b fun a e=>e=b∧zl PP zf c d b fun _ b=>vlv PP zf c b fun b c=>R (.tuple #[b,a]) c))))))):vcall PP Qk #[v0,v1,v2] w R:=zo {ord:=[(6,[0,1,2,3,4,5,6,7,8,9,10,11,12],[(0,[7,8,9,10,11,12]),(1,[7,8,9,10,11,12]),(2,[3,5,6,7,8,9,10,11,12]),(3,[5,6,7,8,9,10,11,12]),(4,[5,6,7,8,9,10,11,12]),(5,[6,7,8,9,10,11,12]),(6,[7,8,9,10,11,12]),(7,[8,9,10,11,12]),(8,[9,10,11,12]),(9,[11,12]),(10,[12]),(11,[12])]),(9,[0,1,2,3,4,5],[(0,[4,5]),(1,[3,4,5]),(2,[3,4,5]),(3,[4,5]),(4,[5])]),(11,[0,2,3,4,5,6,7,8,9,10,1,11,12,13],[(0,[12,13]),(2,[3,4,10,11,12,13]),(3,[4,10,11,12,13]),(4,[10,11,12,13]),(5,[6,10,11,12,13]),(6,[10,11,12,13]),(7,[8,9,10,11,12,13]),(8,[9,10,11,12,13]),(9,[10,11,12,13]),(10,[11,12,13]),(1,[11,12,13]),(11,[12,13]),(12,[13])]),(15,[0,1,2,3,4,5,6,7,8,9,10],[(0,[6,7,8,9,10]),(1,[2,6,7,8,9,10]),(2,[6,7,8,9,10]),(3,[4,5,6,7,8,9,10]),(4,[5,6,7,8,9,10]),(5,[6,7,8,9,10]),(6,[7,8,9,10]),(7,[9,10]),(8,[9,10]),(9,[10])]),(18,[0,1,2,3,4,5,6,7,8,9,10,11,12,13,14],[(0,[9,10,11,12,13,14]),(1,[2,9,10,11,12,13,14]),(2,[9,10,11,12,13,14]),(3,[4,5,9,10,11,12,13,14]),(4,[5,9,10,11,12,13,14]),(5,[9,10,11,12,13,14]),(6,[7,8,9,10,11,12,13,14]),(7,[8,9,10,11,12,13,14]),(8,[9,10,11,12,13,14]),(9,[10,11,12,13,14]),(10,[11,12,13,14]),(11,[13,14]),(12,[14]),(13,[14])]),(20,[0,1,2,3,4,5,6,7,8,9,10,11,12,13],[(0,[9,10,11,12,13]),(1,[2,9,10,11,12,13]),(2,[9,10,11,12,13]),(3,[4,5,9,10,11,12,13]),(4,[5,9,10,11,12,13]),(5,[9,10,11,12,13]),(6,[7,8,9,10,11,12,13]),(7,[8,9,10,11,12,13]),(8,[9,10,11,12,13]),(9,[10,11,12,13]),(10,[12,13]),(11,[12,13]),(12,[13])])],loops:=[(3,[8,9])]} Tryz.func62 (by kernel_rfl) (by kernel_rfl) h
theorem qD0 (h:yJ [(.int .i64 0),(.int .i64 0)] w fun a b _ c=>vbi PP .len [zw] zd [v0] c fun c d=>zq PP .lss zd false (sl 1 b) c d fun c d=>vif c (zm PP zw v0 (sl 1 b) d fun c e=>zi PP zA c 1 e fun c e=>ze PP zd c e fun c e=>zq PP .add zd false (sl 0 b) c e fun c e=>zq PP .add zd true (sl 1 b) (.int .i64 1) e fun e f=>a [c,e] f) (R (sl 0 b) d)):vcall PP Y7 #[v0] w R:=zo {loops:=[(3,[3,4])]} Tryz.func63 (by kernel_rfl) (by kernel_rfl) h
theorem qQ0 (h:yJ [(.int .i64 0)] w fun a b _ c=>vbi PP .len [zM] zd [v0] c fun c d=>zq PP .lss zd false (sl 0 b) c d fun c d=>vif c (xR0 PP zM v0 (sl 0 b) d fun c e=>zq PP .lss qO true c (.int .u8 97) e fun c e=>vif c (R (.bool false) e) (xR0 PP zM v0 (sl 0 b) e fun c e=>zq PP .gtr qO true c (.int .u8 122) e fun c e=>vif c (R (.bool false) e) (zq PP .add zd true (sl 0 b) (.int .i64 1) e fun b c=>a [b] c))) (vbi PP .len [zM] zd [v0] d fun a b=>zq PP .geq zd true a (.int .i64 1) b fun a b=>vif a (vbi PP .len [zM] zd [v0] b fun a c=>zq PP .leq zd true a (.int .i64 4) c fun a c=>vif a (zq PP .neq zM true v0 (.string {data:= #[116,114,117,101]}) c fun a d=>R a d) (R (.bool false) c)) (R (.bool false) b))):vcall PP Qr #[v0] w R:=zo {loops:=[(2,[3])]} Tryz.func64 (by kernel_rfl) (by kernel_rfl) h
theorem qR0 (h:yJ [(.int .i64 0)] w fun a b _ c=>vbi PP .len [zw] zd [v0] c fun c d=>zq PP .lss zd false (sl 0 b) c d fun c d=>vif c (zm PP zw v0 (sl 0 b) d fun c e=>zi PP zA c 0 e fun c e=>ze PP zM c e fun c e=>zq PP .eql zM false c v1 e fun c e=>vif c (R (sl 0 b) e) (zq PP .add zd true (sl 0 b) (.int .i64 1) e fun b c=>a [b] c)) (R (.int .i64 (-1)) d)):vcall PP kq #[v0,v1] w R:=zo {loops:=[(2,[5])]} Tryz.func65 (by kernel_rfl) (by kernel_rfl) h
theorem k00 (h:yo PP zc v0 w fun a b=>y0 b fun b=>zi PP zc a 0 b fun c d=>d=b∧ze PP zd c b fun c d=>d=b∧zq PP .geq zd true c (.int .i64 1) b fun c d=>d=b∧vif c (zi PP zc a 0 b fun c d=>d=b∧ze PP zd c b fun c d=>d=b∧zq PP .leq zd true c (.int .i64 4) b fun c d=>d=b∧vif c (zi PP zc a 1 b fun c d=>d=b∧ze PP zd c b fun c d=>d=b∧zq PP .geq zd true c (.int .i64 0) b fun c d=>d=b∧vif c (zi PP zc a 1 b fun c d=>d=b∧ze PP zd c b fun c d=>d=b∧zi PP zc a 0 b fun a d=>d=b∧ze PP zd a b fun a d=>d=b∧zq PP .shl zd true (.int .i64 1) a b fun a d=>d=b∧zq PP .lss zd false c a b fun a c=>c=b∧R a b) (R (.bool false) b)) (R (.bool false) b)) (R (.bool false) b)):vcall PP xi #[v0] w R:=zo {ord:=[(1,[0,1,2,3,4,5,6,7,8,9,10,11,12,13,14,15,16,17,18,19,20,21],[(0,[1,2,3,4,5,6,7,8,9,10,11,12,13,14,15,16,17,18,19,20,21]),(1,[2,3,4,5,6,7,8,9,10,11,12,13,14,15,16,17,18,19,20,21]),(2,[3,4,5,6,7,8,9,10,11,12,13,14,15,16,17,18,19,20,21]),(3,[4,5,6,7,8,9,10,11,12,13,14,15,16,17,18,19,20,21]),(4,[5,6,7,8,9,10,11,12,13,14,15,16,17,18,19,20,21]),(5,[6,7,8,9,10,11,12,13,14,15,16,17,18,19,20,21]),(6,[7,8,9,10,11,12,13,14,15,16,17,18,19,20,21]),(7,[8,9,10,11,12,13,14,15,16,17,18,19,20,21]),(8,[9,10,11,12,13,14,15,16,17,18,19,20,21]),(9,[10,11,12,13,14,15,16,17,18,19,20,21]),(10,[11,12,13,14,15,16,17,18,19,20,21]),(11,[12,13,14,15,16,17,18,19,20,21]),(12,[13,14,15,16,17,18,19,20,21]),(13,[14,15,16,17,18,19,20,21]),(14,[15,19,20,21]),(15,[19,20,21]),(16,[17,18,19,20,21]),(17,[18,19,20,21]),(18,[19,20,21]),(19,[20,21]),(20,[21])])]} Tryz.func66 (by kernel_rfl) (by kernel_rfl) h
theorem yO0 (h:yo PP z7 v0 w fun a b=>yo PP z7 v1 b fun b c=>zi PP z7 a 0 c fun c d=>ze PP zd c d fun c d=>zi PP z7 b 0 d fun d e=>ze PP zd d e fun d e=>zq PP .eql zd false c d e fun c d=>vif c (zi PP z7 a 1 d fun c e=>ze PP zd c e fun c e=>zi PP z7 b 1 e fun e f=>ze PP zd e f fun e f=>zq PP .eql zd false c e f fun c e=>vif c (zi PP z7 a 2 e fun c f=>ze PP zd c f fun c f=>zi PP z7 b 2 f fun f g=>ze PP zd f g fun f g=>zq PP .eql zd false c f g fun c f=>vif c (zi PP z7 a 3 f fun c g=>ze PP zM c g fun c g=>zi PP z7 b 3 g fun g h=>ze PP zM g h fun g h=>zq PP .eql zM false c g h fun c g=>vif c (zi PP z7 a 4 g fun a c=>ze PP za a c fun a c=>zi PP z7 b 4 c fun b c=>ze PP za b c fun b c=>vcall PP yz #[a,b,(.func (.func xL) #[] #[])] c fun a b=>R a b) (R (.bool false) g)) (R (.bool false) f)) (R (.bool false) e)) (R (.bool false) d)):vcall PP xL #[v0,v1] w R:=zo {} Tryz.func67 (by kernel_rfl) (by kernel_rfl) h
theorem zR0 (h:zJ PP z7 w fun a b=>zC PP z7 [(0,(.int .i64 24))] b fun b c=>vbuildS PP za 1 [(0,b)] c fun b c=>zC PP z7 [(0,(.int .i64 25)),(4,b)] c fun b c=>zl PP z7 a b c fun _ b=>vlv PP z7 a b fun a b=>R a b):vcall PP jK #[] w R:=zo {} Tryz.func68 (by kernel_rfl) (by kernel_rfl) h
theorem j70 (h:vbi PP .len [yy] zd [v0] w fun a b=>vcall PP qP #[v1,a] b fun a b=>vif a (vcall PP yf #[v1] b fun a c=>zq PP .sub zd true a (.int .i64 1) c fun a c=>zm PP yy v0 a c fun a c=>ze PP xB a c fun a c=>zq PP .gtr zt true v1 (.int .i64 0) c fun c d=>zq PP .eql xB false a c d fun a c=>R a c) (R (.bool false) b)):vcall PP kJ #[v0,v1] w R:=zo {} Tryz.func69 (by kernel_rfl) (by kernel_rfl) h
theorem jZ (h:vbi PP .len [zn] zd [v0] w fun a b=>vbi PP .len [zn] zd [v1] b fun b c=>zq PP .neq zd false a b c fun a b=>vif a (R (.bool false) b) (vbi PP .len [zn] zd [v0] b fun a b=>yJ [(.int .i64 0)] b fun b c _ d=>zq PP .lss zd false (sl 0 c) a d fun a d=>vif a (y0 d fun a=>zm PP zn v0 (sl 0 c) a fun e f=>f=a∧ze PP zp e a fun e f=>f=a∧zm PP zn v1 (sl 0 c) a fun f g=>g=a∧ze PP zp f a fun f g=>g=a∧zq PP .neq zp false e f a fun e f=>f=a∧vif e (R (.bool false) a) (zq PP .add zd true (sl 0 c) (.int .i64 1) a fun a c=>b [a] c)) (R (.bool true) d))):vcall PP x7 #[v0,v1] w R:=zo {ord:=[(6,[0,1,2,3,4,5,6,7,8],[(0,[2,3,8]),(1,[2,3,8]),(2,[3,8]),(3,[8]),(4,[6,7,8]),(5,[6,7,8]),(6,[7,8]),(7,[8])])],loops:=[(4,[13])]} Tryz.func83 (by kernel_rfl) (by kernel_rfl) h
theorem yG0 (h:yo PP z7 v0 w fun a b=>yJ [(.int .i64 1),(.int .i64 0),(.int .i64 0)] b fun b c _ d=>yF (fun e=>zi PP z7 a 4 d fun d f=>ze PP za d f fun d f=>vbi PP .len [za] zd [d] f fun d f=>zq PP .lss zd false (sl 2 c) d f fun d f=>vif d (zq PP .leq zd true (sl 0 c) (.int .i64 20) f fun d g=>vif d (e [] g) (zq PP .add zd true (sl 1 c) (.int .i64 1) g fun d e=>zq PP .gtr zd true (sl 0 c) (.int .i64 20) e fun e g=>vif e (R (.tuple #[(.int .i64 21),(.int .i64 8)]) g) (zq PP .gtr zd true d (.int .i64 7) g fun e g=>vif e (R (.tuple #[(.int .i64 21),(.int .i64 8)]) g) (R (.tuple #[(sl 0 c),d]) g)))) (zq PP .add zd true (sl 1 c) (.int .i64 1) f fun d e=>zq PP .gtr zd true (sl 0 c) (.int .i64 20) e fun e f=>vif e (R (.tuple #[(.int .i64 21),(.int .i64 8)]) f) (zq PP .gtr zd true d (.int .i64 7) f fun e f=>vif e (R (.tuple #[(.int .i64 21),(.int .i64 8)]) f) (R (.tuple #[(sl 0 c),d]) f)))) (fun _ _ d=>zi PP z7 a 4 d fun a d=>ze PP za a d fun a d=>zm PP za a (sl 2 c) d fun a d=>ze PP z7 a d fun a d=>vcall PP ku #[a] d fun a d=>zk PP a 0 d fun d e=>zk PP a 1 e fun a e=>zq PP .add zd false (sl 0 c) d e fun d e=>vcall PP Jh #[(sl 1 c),a] e fun a e=>zq PP .add zd true (sl 2 c) (.int .i64 1) e fun c e=>b [d,a,c] e)):vcall PP ku #[v0] w R:=zo {loops:=[(4,[4,5,6])],cuts:=[(20486,[])]} Tryz.func84 (by kernel_rfl) (by kernel_rfl) h
theorem qO0 (h:yo PP z7 v1 w fun a b=>ze PP z7 a b fun b c=>vcall PP Xw #[b] c fun b c=>vun PP .not b c fun b c=>vif b (R (.int .i64 (-1)) c) (zi PP z7 a 0 c fun b c=>ze PP zd b c fun b c=>zq PP .eql zd true b (.int .i64 20) c fun c d=>vif c (zi PP z7 a 1 d fun c e=>ze PP zd c e fun c e=>zi PP z7 a 2 e fun e f=>ze PP zd e f fun e f=>zC PP zc [(0,c),(1,e)] f fun c e=>vcall PP Jj #[c] e fun c e=>vif c (zi PP z7 a 1 e fun c f=>ze PP zd c f fun c f=>R c f) (R (.int .i64 (-1)) e)) (zq PP .eql zd true b (.int .i64 21) d fun c d=>vif c (zi PP z7 a 3 d fun c e=>ze PP zM c e fun c e=>vcall PP kq #[v0,c] e fun c e=>zq PP .lss zd true c (.int .i64 0) e fun e f=>vif e (R (.int .i64 (-1)) f) (zm PP zw v0 c f fun c e=>zi PP zA c 1 e fun c e=>ze PP zd c e fun c e=>R c e)) (zq PP .eql zd true b (.int .i64 24) d fun b c=>vif b (R (.int .i64 0) c) (zi PP z7 a 4 c fun b c=>ze PP za b c fun b c=>zm PP za b (.int .i64 0) c fun b c=>ze PP z7 b c fun b c=>vcall PP qF #[v0,b] c fun b c=>zi PP z7 a 4 c fun c d=>ze PP za c d fun c d=>vbi PP .len [za] zd [c] d fun c d=>zq PP .eql zd true c (.int .i64 1) d fun c d=>vif c (ze PP z7 a d fun c e=>vcall PP Jf #[c,b] e fun c e=>R c e) (zi PP z7 a 4 d fun c d=>ze PP za c d fun c d=>zm PP za c (.int .i64 1) d fun c d=>ze PP z7 c d fun c d=>vcall PP qF #[v0,c] d fun c d=>zi PP z7 a 4 d fun d e=>ze PP za d e fun d e=>vbi PP .len [za] zd [d] e fun d e=>zq PP .eql zd true d (.int .i64 2) e fun d e=>vif d (zi PP z7 a 0 e fun d f=>ze PP zd d f fun d f=>vcall PP Qs #[d,b,c] f fun d f=>R d f) (zq PP .neq zd true b (.int .i64 0) e fun b d=>vif b (R (.int .i64 (-1)) d) (zi PP z7 a 4 d fun a b=>ze PP za a b fun a b=>zm PP za a (.int .i64 2) b fun a b=>ze PP z7 a b fun a b=>vcall PP qF #[v0,a] b fun a b=>zq PP .neq zd false c a b fun a b=>vif a (R (.int .i64 (-1)) b) (R c b))))))))):vcall PP qF #[v0,v1] w R:=zo {} Tryz.func85 (by kernel_rfl) (by kernel_rfl) h
theorem j90 (h:vbi PP .len [zw] zd [v0] w fun a b=>zq PP .gtr zd true a (.int .i64 4) b fun a b=>vif a (R (.bool false) b) (vbi PP .len [zw] zd [v0] b fun a b=>yJ [(.int .i64 0),(.int .i64 0)] b fun b c _ d=>zq PP .lss zd false (sl 1 c) a d fun a d=>vif a (zm PP zw v0 (sl 1 c) d fun a e=>ze PP zA a e fun a e=>zJ PP zA e fun e f=>zl PP zA e a f fun _ a=>yF (fun f=>zi PP zA e 0 a fun a g=>ze PP zM a g fun a g=>vbi PP .len [zM] zd [a] g fun a g=>zq PP .lss zd true a (.int .i64 1) g fun a g=>vif a (R (.bool false) g) (zi PP zA e 0 g fun a g=>ze PP zM a g fun a g=>vbi PP .len [zM] zd [a] g fun a g=>zq PP .gtr zd true a (.int .i64 4) g fun a g=>vif a (R (.bool false) g) (zi PP zA e 0 g fun a g=>ze PP zM a g fun a g=>zq PP .eql zM true a (.string {data:= #[116,114,117,101]}) g fun a g=>vif a (R (.bool false) g) (zi PP zA e 0 g fun a g=>ze PP zM a g fun a g=>vcall PP KY #[a,(.string {data:= #[97,98,99,100,101,102,103,104,105,106,107,108,109,110,111,112,113,114,115,116,117,118,119,120,121,122]})] g fun a g=>zq PP .neq zM true a (.string {data:= #[]}) g fun a g=>vif a (R (.bool false) g) (f [] g))))) (fun _ _ a=>yC PP zw v0 none (some (sl 1 c)) none a fun a f=>je0 PP (.func Jo) [] [e] f fun f g=>vcall PP yK #[a,f] g fun a f=>vif a (R (.bool false) f) (zi PP zA e 1 f fun a f=>ze PP zd a f fun a f=>zq PP .lss zd true a (.int .i64 1) f fun a f=>vif a (R (.bool false) f) (zi PP zA e 1 f fun a f=>ze PP zd a f fun a f=>zq PP .gtr zd true a (.int .i64 4) f fun a f=>vif a (R (.bool false) f) (zi PP zA e 1 f fun a e=>ze PP zd a e fun a e=>zq PP .add zd false (sl 0 c) a e fun a e=>zq PP .add zd true (sl 1 c) (.int .i64 1) e fun e f=>b [a,e] f))))) (zq PP .leq zd true (sl 0 c) (.int .i64 8) d fun a b=>R a b))):vcall PP kK #[v0] w R:=zo {loops:=[(5,[3,11])],cuts:=[(32777,[])]} Tryz.func86 (by kernel_rfl) (by kernel_rfl) h
theorem W0 (h:yo PP zw v0 w fun a b=>je0 PP (.func xK) [] [a] b fun a b=>R a b):vcall PP Yp #[v0] w R:=zo {} Tryz.func87 (by kernel_rfl) (by kernel_rfl) h
theorem QC (h:zq PP .eql zj true v0 (.slice none 0 0) w fun a b=>vif a (R (.slice none 0 0) b) (vbuildS PP zj 0 [] b fun a b=>vbi PP .append [zj,zj] zj [a,v0] b fun a b=>R a b)):vcall PP qG #[v0] w R:=zo {} Tryz.func88 (by kernel_rfl) (by kernel_rfl) h
theorem k20 (h:yF (fun a=>vcall PP kK #[v0] w fun b c=>vun PP .not b c fun b c=>vif b (R (.bool false) c) (vbi PP .len [zj] zd [v1] c fun b c=>vbi PP .len [zw] zd [v0] c fun c d=>zq PP .neq zd false b c d fun b c=>vif b (R (.bool false) c) (a [] c))) (fun _ _ a=>vbi PP .len [zj] zd [v1] a fun a b=>yJ [(.int .i64 0)] b fun b c _ d=>zq PP .lss zd false (sl 0 c) a d fun a d=>vif a (zm PP zj v1 (sl 0 c) d fun a e=>ze PP zd a e fun a e=>zm PP zw v0 (sl 0 c) e fun e f=>zi PP zA e 1 f fun e f=>ze PP zd e f fun e f=>zC PP zc [(0,e),(1,a)] f fun a e=>vcall PP xi #[a] e fun a e=>vun PP .not a e fun a e=>vif a (R (.bool false) e) (zq PP .add zd true (sl 0 c) (.int .i64 1) e fun a c=>b [a] c)) (R (.bool true) d))):vcall PP Jn #[v0,v1] w R:=zo {loops:=[(4,[19])],cuts:=[(8195,[])]} Tryz.func89 (by kernel_rfl) (by kernel_rfl) h
theorem xs0 (h:yo PP z7 v2 w fun a b=>zJ PP zc b fun b c=>zi PP z7 a 4 c fun c d=>ze PP za c d fun c d=>vbi PP .len [za] zd [c] d fun d e=>yJ [(.slice none 0 0),(.int .i64 0)] e fun e f _ g=>zq PP .lss zd false (sl 1 f) d g fun d g=>vif d (zm PP za c (sl 1 f) g fun c d=>ze PP z7 c d fun c d=>zJ PP z7 d fun d h=>zl PP z7 d c h fun _ c=>ze PP z7 d c fun c d=>vcall PP Zj #[v0,v1,c,v3] d fun c d=>vbuildS PP y6 1 [(0,c)] d fun c d=>vbi PP .append [y6,y6] y6 [(sl 0 f),c] d fun c d=>zq PP .add zd true (sl 1 f) (.int .i64 1) d fun d h=>e [c,d] h) (y0 g fun c=>ze PP z7 a c fun d e=>e=c∧zi PP z7 a 0 c fun e g=>g=c∧ze PP zd e c fun g h=>h=c∧XG PP zx v0 g false c fun h i=>i=c∧ze PP z7 a c fun i j=>j=c∧vcall PP jr #[v0,v1,d] c fun c d=>(ze PP z7 a d fun j k=>j=i∧k=d)∧(XG PP zx v0 g false d fun j k=>j=h∧k=d)∧(ze PP zd e d fun j k=>j=g∧k=d)∧(zi PP z7 a 0 d fun j k=>j=e∧k=d)∧vinvoke PP h kL #[v3,i,(sl 0 f)] d fun a d=>zC PP zc [(0,c),(1,a)] d fun a c=>c=d∧zl PP zc b a d fun _ a=>vlv PP zc b a fun a b=>R a b)):vcall PP Zj #[v0,v1,v2,v3] w R:=zo {ord:=[(7,[0,1,2,4,5,6,7,8,9,10,3,11,12,13],[(0,[3,11,12,13]),(1,[3,11,12,13]),(2,[3,11,12,13]),(4,[7,11,12,13]),(5,[6,7,11,12,13]),(6,[7,11,12,13]),(7,[11,12,13]),(8,[11,12,13]),(9,[11,12,13]),(10,[11,12,13]),(3,[11,12,13]),(11,[12,13]),(12,[13])])],loops:=[(3,[9,15])]} Tryz.func90 (by kernel_rfl) (by kernel_rfl) h
end Go.Proofs.YtaekfnbnhjgboaaGreatDoor
end
