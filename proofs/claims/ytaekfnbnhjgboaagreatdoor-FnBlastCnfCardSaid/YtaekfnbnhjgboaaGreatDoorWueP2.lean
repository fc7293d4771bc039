import Derived.Test.YtaekfnbnhjgboaaGreatDoorWueP1
import Derived.Test.YtaekfnbnhjgboaaGreatDoorProg
/- A part of the proof. -/
set_option linter.unusedVariables false
set_option linter.unusedSimpArgs false
set_option linter.unnecessarySimpa false
set_option linter.unusedSectionVars false
section
namespace Go.M
open Go.Vc
abbrev Dcl:=ByteArray×Int
def findD (ds:List Dcl) (s:ByteArray):Int:=idxI ds.length fun i=>decide ((ds.getD i (nada,0)).1=s)
def tru:ByteArray:=⟨#[116,114,117,101]⟩
def nameOk (s:ByteArray):Bool:=decide (1≤s.size)&&decide (s.size≤4)&&decide (s≠tru)&&s.data.all fun c=>decide (97≤c.toNat)&&decide (c.toNat≤122)
def bits (ds:List Dcl):Int:=(ds.map (·.2)).sum
def dclOk (ds:List Dcl) (i:Nat):Bool:=nameOk (ds.getD i (nada,0)).1&&decide (1≤(ds.getD i (nada,0)).2)&&decide ((ds.getD i (nada,0)).2≤4)&&decide (findD (ds.take i) (ds.getD i (nada,0)).1<0)
def declOk (ds:List Dcl):Bool:=decide (ds.length≤4)&&((List.range ds.length).all fun i=>dclOk ds i)&&decide (bits ds≤8)
def envOk (ds:List Dcl) (env:List Int):Bool:=declOk ds&&decide (env.length=ds.length)&&(List.range ds.length).all fun i=>vok (ds.getD i (nada,0)).2 (env.getD i 0)
theorem findD_lt (ds:List Dcl) (s:ByteArray): -1≤findD ds s∧findD ds s<ds.length:=by
 unfold findD idxI
 split
 ·rename_i i h
  have:=List.mem_of_find?_eq_some h
  simp at this
  omega
 ·omega
theorem findD_neg {ds:List Dcl} {s:ByteArray} (h:findD ds s<0) {j:Nat} (b:j<ds.length):(ds.getD j (nada,0)).1≠s:=by
 unfold findD idxI at h
 split at h
 ·omega
 ·rename_i a
  rw[List.find?_eq_none] at a
  have:=a j (List.mem_range.2 b)
  simpa using this
theorem findD_get {ds:List Dcl} {s:ByteArray} (h:0≤findD ds s):(ds.getD (findD ds s).toNat (nada,0)).1=s:=by
 unfold findD idxI at h⊢
 split at h
 ·rename_i i hi
  have:=List.find?_some hi
  simpa using this
 ·omega
theorem findD_of {ds:List Dcl} {s:ByteArray} {i:Nat} (hi:i<ds.length) (h:(ds.getD i (nada,0)).1=s) (b:∀j,j<i→(ds.getD j (nada,0)).1≠s):findD ds s=i:=
 idxI_some hi (by simp only[h,decide_true]) fun j a=>decide_eq_false (b j a)
theorem findD_none {ds:List Dcl} {s:ByteArray} (b:∀j,j<ds.length→(ds.getD j (nada,0)).1≠s):findD ds s= -1:=
 W4 fun j a=>decide_eq_false (b j a)
theorem decl_iff {ds:List Dcl}:declOk ds=true↔ds.length≤4∧(∀i,i<ds.length→dclOk ds i=true)∧bits ds≤8:=by
 simp only[declOk,Bool.and_eq_true,List.all_eq_true,List.mem_range,decide_eq_true_eq,and_assoc]
theorem take_getD {α:Type} {l:List α} {i j:Nat} {d:α} (h:j<i):(l.take i).getD j d=l.getD j d:=by
 simp[List.getD_eq_getElem?_getD,List.getElem?_take,h]
theorem dcl_apart {ds:List Dcl} (h:declOk ds=true) {i j:Nat} (hi:i<ds.length) (b:j<i):(ds.getD j (nada,0)).1≠(ds.getD i (nada,0)).1:=by
 have:=(decl_iff.1 h).2.1 i hi
 simp only[dclOk,Bool.and_eq_true,decide_eq_true_eq] at this
 have a:=findD_neg this.2 (j:=j) (by rw[List.length_take];omega)
 rwa[take_getD b] at a
def bitT (ds:List Dcl) (i:Nat):Int:=((ds.take i).map (·.2)).sum
theorem bitT_succ {ds:List Dcl} {i:Nat} (h:i<ds.length):bitT ds (i+1)=bitT ds i+(ds.getD i (nada,0)).2:=by
 unfold bitT
 rw[List.take_add_one,List.getElem?_eq_getElem h,List.map_append,List.sum_append,List.getD_eq_getElem?_getD,List.getElem?_eq_getElem h]
 simp
theorem bitT_all (ds:List Dcl):bitT ds ds.length=bits ds:=by unfold bitT bits;rw[List.take_length]
theorem dcl_wide {ds:List Dcl} (h:declOk ds=true) {i:Nat} (hi:i<ds.length):1≤(ds.getD i (nada,0)).2∧(ds.getD i (nada,0)).2≤4:=by
 simp only[declOk,Bool.and_eq_true,List.all_eq_true,List.mem_range,dclOk,decide_eq_true_eq] at h
 obtain⟨⟨_,a⟩,_⟩:=h
 exact⟨(a i hi).1.1.2,(a i hi).1.2⟩
theorem env_ok {ds:List Dcl} {env:List Int} (h:envOk ds env=true):declOk ds=true∧env.length=ds.length∧∀i,i<ds.length→vok (ds.getD i (nada,0)).2 (env.getD i 0)=true:=by
 simp only[envOk,Bool.and_eq_true,List.all_eq_true,List.mem_range,decide_eq_true_eq] at h
 exact⟨h.1.1,h.1.2,h.2⟩
def sizeM:Tm→Nat:=Tm.fold fun _ xs=>1+xs.sum
def deepM:Tm→Nat:=Tm.fold fun _ xs=>1+xs.foldl max 0
theorem sizeM_eq (t:Tm):sizeM t=1+(t.ks.map sizeM).sum:=Tm.fold_eq _ t
theorem XK0 (t:Tm):deepM t=1+(t.ks.map deepM).foldl max 0:=Tm.fold_eq _ t
def szT (ks:List Tm) (i:Nat):Nat:=((ks.take i).map sizeM).sum
def dpT (ks:List Tm) (i:Nat):Nat:=((ks.take i).map deepM).foldl max 0
theorem take_add {α:Type} {l:List α} {i:Nat} (h:i<l.length) (d:α):l.take (i+1)=l.take i++[l.getD i d]:=by
 rw[List.take_add_one,List.getElem?_eq_getElem h,List.getD_eq_getElem?_getD,List.getElem?_eq_getElem h];rfl
theorem szT_succ {ks:List Tm} {i:Nat} (h:i<ks.length):szT ks (i+1)=szT ks i+sizeM (ks.getD i default):=by
 unfold szT;rw[take_add h default,List.map_append,List.sum_append];simp
theorem dpT_succ {ks:List Tm} {i:Nat} (h:i<ks.length):dpT ks (i+1)=max (dpT ks i) (deepM (ks.getD i default)):=by
 unfold dpT;rw[take_add h default,List.map_append,List.foldl_append];rfl
theorem szT_all (t:Tm):sizeM t=1+szT t.ks t.ks.length:=by rw[sizeM_eq,szT,List.take_length]
theorem dpT_all (t:Tm):deepM t=1+dpT t.ks t.ks.length:=by rw[XK0,dpT,List.take_length]
theorem szT_mono {ks:List Tm} {i:Nat}:∀{j:Nat},i≤j→j≤ks.length→szT ks i≤szT ks j
 |0,h,_=>by
  have:i=0:=by omega
  subst this;exact Nat.le_refl _
 |j+1,h,a=>by
  by_cases e:i=j+1
  ·subst e;exact Nat.le_refl _
  ·have:=szT_mono (ks:=ks) (i:=i) (j:=j) (by omega) (by omega)
   rw[szT_succ (by omega)];omega
theorem dpT_mono {ks:List Tm} {i:Nat}:∀{j:Nat},i≤j→j≤ks.length→dpT ks i≤dpT ks j
 |0,h,_=>by
  have:i=0:=by omega
  subst this;exact Nat.le_refl _
 |j+1,h,a=>by
  by_cases e:i=j+1
  ·subst e;exact Nat.le_refl _
  ·have:=dpT_mono (ks:=ks) (i:=i) (j:=j) (by omega) (by omega)
   rw[dpT_succ (by omega)];omega
def fits (t:Tm):Bool:=decide (sizeM t≤20)&&decide (deepM t≤7)
theorem fits_iff {t:Tm}:fits t=true↔sizeM t≤20∧deepM t≤7:=by simp[fits]
def manyM (t:Tm):Nat:=if fits t then sizeM t else 21
def lvlM (t:Tm):Nat:=if fits t then deepM t else 8
def arity (o:Int):Int:=if o=20∨o=21∨o=24 then 0 else if o=1∨o=2∨o=22∨o=25 then 1 else if o=23 then 3 else if o=26∨o=27 then 2 else if 3≤o∧o≤17 then 2 else-1
def plainM (t:Tm):Bool:=(decide (t.op=20)||decide (t.op=22)||(decide (t.a=0)&&decide (t.b=0)))&&(decide (t.op=21)||decide (t.s=nada))
def sortK (ds:List Dcl) (t:Tm) (xs:List Int):Int:=
 if t.op=20 then(if vok t.a t.b then t.a else-1)
 else if t.op=21 then(if findD ds t.s<0 then-1 else(ds.getD (findD ds t.s).toNat (nada,0)).2)
 else if 24≤t.op then(if xs.any (fun x=>decide (x≠0)) then-1 else 0)
 else if t.op=23 then(if xs.getD 0 0=0∧xs.getD 1 0=xs.getD 2 0 then xs.getD 1 0 else-1)
 else if t.op=22 then(if 0≤t.b∧t.b≤t.a∧t.a<xs.getD 0 0 then t.a-t.b+1 else-1)
 else if t.op≤2 then(if 0<xs.getD 0 0 then xs.getD 0 0 else-1)
 else if t.op=14 then(if 0<xs.getD 0 0∧0<xs.getD 1 0∧xs.getD 0 0+xs.getD 1 0≤4 then xs.getD 0 0+xs.getD 1 0 else-1)
 else if 15≤t.op then(if 0<xs.getD 0 0∧xs.getD 0 0=xs.getD 1 0 then 0 else-1)
 else(if 0<xs.getD 0 0∧xs.getD 0 0=xs.getD 1 0 then xs.getD 0 0 else-1)
def formed (t:Tm):Bool:=decide (arity t.op=t.ks.length)&&plainM t
def sortF (ds:List Dcl) (t:Tm) (xs:List Int):Int:=if formed t=true∧¬(-1∈xs) then sortK ds t xs else-1
def sortM (ds:List Dcl):Tm→Int:=Tm.fold (sortF ds)
theorem sortM_eq (ds:List Dcl) (t:Tm):sortM ds t=sortF ds t (t.ks.map (sortM ds)):=Tm.fold_eq _ t
theorem arity_ops {o:Int} (h:0≤arity o):(1≤o∧o≤17)∨(20≤o∧o≤27):=by
 unfold arity at h
 repeat' (split at h)
 all_goals omega
theorem getD_map {α β:Type} (f:α→β) {l:List α} {i:Nat} (h:i<l.length) (d:β) (e:α):(l.map f).getD i d=f (l.getD i e):=by
 simp[List.getD_eq_getElem?_getD,h]
theorem getD_mem {α:Type} {l:List α} {i:Nat} (h:i<l.length) (d:α):l.getD i d∈l:=by
 rw[List.getD_eq_getElem?_getD,List.getElem?_eq_getElem h];exact List.getElem_mem h
theorem sort_parts {ds:List Dcl} {t:Tm} (h:sortM ds t≠ -1):formed t=true∧(∀k,k∈t.ks→sortM ds k≠ -1)∧sortM ds t=sortK ds t (t.ks.map (sortM ds)):=by
 rw[sortM_eq] at h⊢
 unfold sortF at h⊢
 split at h
 ·rename_i a
  rw[if_pos a]
  exact⟨a.1,fun k b e=>a.2 (e▸List.mem_map_of_mem b),rfl⟩
 ·exact absurd rfl h
theorem sort_range {ds:List Dcl} (c:declOk ds=true):∀t,-1≤sortM ds t∧sortM ds t≤4:=by
 refine Tm.ind fun t g=>?_
 rw[sortM_eq]
 unfold sortF
 split
 ·rename_i d
  have a:∀i,-1≤(t.ks.map (sortM ds)).getD i 0∧(t.ks.map (sortM ds)).getD i 0≤4:=fun i=>by
   by_cases h:i<t.ks.length
   ·rw[getD_map _ h 0 default];exact g _ (getD_mem h _)
   ·rw[List.getD_eq_getElem?_getD,List.getElem?_eq_none (by simpa using h)];simp
  have j:=a 0
  have k:=a 1
  have l:=a 2
  have b:=arity_ops (o:=t.op) (by
   have:=d.1
   simp only[formed,Bool.and_eq_true,decide_eq_true_eq] at this
   omega)
  unfold sortK
  split
  ·split
   ·rename_i f;have:=vok_lt f;omega
   ·omega
  ·split
   ·have e:=findD_lt ds t.s
    split
    ·omega
    ·have:=dcl_wide c (i:=(findD ds t.s).toNat) (by omega)
     omega
   ·repeat' split
    all_goals omega
 ·omega
def tsort (ds:List Dcl) (t:Tm):Int:=if fits t=true∧declOk ds=true then sortM ds t else-1
def b2i (b:Bool):Int:=if b then 1 else 0
def valK (ds:List Dcl) (env:List Int) (t:Tm) (xs:List (Int×Int)):Int:=
 if t.op=20 then t.b
 else if t.op=21 then env.getD (findD ds t.s).toNat 0
 else if t.op=24 then 1
 else if t.op=25 then b2i (decide ((xs.getD 0 (0,0)).2=0))
 else if t.op=26 then b2i (decide ((xs.getD 0 (0,0)).2=1)&&decide ((xs.getD 1 (0,0)).2=1))
 else if t.op=27 then b2i (decide ((xs.getD 0 (0,0)).2=1)||decide ((xs.getD 1 (0,0)).2=1))
 else if t.op=23 then(if(xs.getD 0 (0,0)).2=1 then(xs.getD 1 (0,0)).2 else(xs.getD 2 (0,0)).2)
 else if t.op=22 then cutM (xs.getD 0 (0,0)).2 t.a t.b
 else if t.op≤2 then unM t.op (xs.getD 0 (0,0)).1 (xs.getD 0 (0,0)).2
 else if t.op=14 then Q90 (xs.getD 1 (0,0)).1 (xs.getD 0 (0,0)).2 (xs.getD 1 (0,0)).2
 else if 15≤t.op then b2i (cmpM t.op (xs.getD 0 (0,0)).1 (xs.getD 0 (0,0)).2 (xs.getD 1 (0,0)).2)
 else QG0 t.op (xs.getD 0 (0,0)).1 (xs.getD 0 (0,0)).2 (xs.getD 1 (0,0)).2
def vecF (ds:List Dcl) (env:List Int) (t:Tm) (xs:List (Int×Int)):Int×Int:=(sortF ds t (xs.map (·.1)),valK ds env t xs)
def vecM (ds:List Dcl) (env:List Int):Tm→Int×Int:=Tm.fold (vecF ds env)
def evalM (ds:List Dcl) (env:List Int) (t:Tm):Int:=(vecM ds env t).2
theorem ZH0 (ds:List Dcl) (env:List Int) (t:Tm):vecM ds env t=vecF ds env t (t.ks.map (vecM ds env)):=Tm.fold_eq _ t
theorem vecM_sort (ds:List Dcl) (env:List Int):∀t,(vecM ds env t).1=sortM ds t:=by
 refine Tm.ind fun t b=>?_
 rw[ZH0,sortM_eq]
 show sortF ds t _=_
 rw[List.map_map]
 congr 1
 exact List.map_congr_left fun k a=>b k a
theorem vecM_pair (ds:List Dcl) (env:List Int) (t:Tm):vecM ds env t=(sortM ds t,evalM ds env t):=by rw[←vecM_sort ds env t];rfl
theorem evalM_eq (ds:List Dcl) (env:List Int) (t:Tm):evalM ds env t=valK ds env t (t.ks.map (vecM ds env)):=by
 unfold evalM;rw[ZH0];rfl
def inS (w n:Int):Prop:=(w=0∧(n=0∨n=1))∨vok w n=true
theorem Xv0 {b:Bool}:inS 0 (b2i b):=by left;cases b<;>simp[b2i]
theorem inS_zero {n:Int} (h:inS 0 n):n=0∨n=1:=by
 rcases h with h|h
 ·exact h.2
 ·exact absurd (vok_lt h).1 (by omega)
theorem inS_pos {w n:Int} (h:inS w n) (hw:0<w):vok w n=true:=by
 rcases h with h|h
 ·omega
 ·exact h
def tok (ds:List Dcl) (t:Tm) (env:List Int):Bool:=decide (tsort ds t≠ -1)&&envOk ds env
def teval (ds:List Dcl) (t:Tm) (env:List Int):Int:=if tok ds t env then evalM ds env t else 0
theorem eval_in {ds:List Dcl} {env:List Int} (he:envOk ds env=true):∀t,sortM ds t≠ -1→inS (sortM ds t) (evalM ds env t):=by
 obtain⟨E,F,C⟩:=env_ok he
 refine Tm.ind fun t D h=>?_
 obtain⟨v,A,hs⟩:=sort_parts h
 rw[hs] at h
 rw[hs,evalM_eq]
 simp only[formed,Bool.and_eq_true,decide_eq_true_eq] at v
 obtain⟨b,B⟩:=v
 have w:=arity_ops (o:=t.op) (by omega)
 have g:∀i,i<t.ks.length→(t.ks.map (sortM ds)).getD i 0=sortM ds (t.ks.getD i default):=fun i hi=>getD_map _ hi _ _
 have j:∀i,i<t.ks.length→(t.ks.map (vecM ds env)).getD i (0,0)=(sortM ds (t.ks.getD i default),evalM ds env (t.ks.getD i default)):=fun i hi=>by
  rw[getD_map _ hi _ default,vecM_pair]
 have c:∀i,i<t.ks.length→inS (sortM ds (t.ks.getD i default)) (evalM ds env (t.ks.getD i default)):=fun i hi=>D _ (getD_mem hi _) (A _ (getD_mem hi _))
 unfold sortK at h⊢
 unfold valK
 by_cases m:t.op=20
 ·simp only[m,if_true] at h⊢
  split
  ·right;assumption
  ·rename_i q;rw[if_neg q] at h;exact absurd rfl h
 simp only[if_neg m] at h⊢
 by_cases n:t.op=21
 ·simp only[n,if_true] at h⊢
  have z:=findD_lt ds t.s
  split
  ·rename_i q;rw[if_pos q] at h;exact absurd rfl h
  ·right;exact C _ (by omega)
 simp only[if_neg n] at h⊢
 by_cases p:24≤t.op
 ·simp only[if_pos p] at h⊢
  split
  ·rename_i q;rw[if_pos q] at h;exact absurd rfl h
  ·rcases(by omega:t.op=24∨t.op=25∨t.op=26∨t.op=27) with e|e|e|e
   ·left;simp[e]
   ·simp only[e];exact Xv0
   ·simp only[e];exact Xv0
   ·simp only[e];exact Xv0
 simp only[if_neg p,if_neg (show¬t.op=24 by omega),if_neg (show¬t.op=25 by omega),if_neg (show¬t.op=26 by omega),if_neg (show¬t.op=27 by omega)] at h⊢
 by_cases f:t.op=23
 ·simp only[f,if_true] at h⊢
  have r:t.ks.length=3:=by rw[f] at b;simp[arity] at b;omega
  rw[g 0 (by omega),g 1 (by omega),g 2 (by omega)] at h⊢
  rw[j 0 (by omega),j 1 (by omega),j 2 (by omega)]
  split
  ·rename_i a
   simp only
   split
   ·exact c 1 (by omega)
   ·rw[a.2];exact c 2 (by omega)
  ·rename_i a;rw[if_neg a] at h;exact absurd rfl h
 simp only[if_neg f] at h⊢
 by_cases d:t.op=22
 ·simp only[d,if_true] at h⊢
  have r:t.ks.length=1:=by rw[d] at b;simp[arity] at b;omega
  rw[g 0 (by omega)] at h⊢
  rw[j 0 (by omega)]
  split
  ·rename_i a
   right
   exact cut_ok (inS_pos (c 0 (by omega)) (by omega)) a.1 a.2.1 a.2.2
  ·rename_i a;rw[if_neg a] at h;exact absurd rfl h
 simp only[if_neg d] at h⊢
 by_cases u:t.op≤2
 ·simp only[if_pos u] at h⊢
  have r:t.ks.length=1:=by
   have:t.op=1∨t.op=2:=by omega
   rcases this with e|e<;>rw[e] at b<;>simp[arity] at b<;>omega
  rw[g 0 (by omega)] at h⊢
  rw[j 0 (by omega)]
  split
  ·rename_i a
   right
   exact unM_ok (inS_pos (c 0 (by omega)) (by omega))
  ·rename_i a;rw[if_neg a] at h;exact absurd rfl h
 simp only[if_neg u] at h⊢
 have r:t.ks.length=2:=by
  unfold arity at b
  rw[if_neg (by omega),if_neg (by omega),if_neg (by omega),if_neg (by omega),if_pos (by omega)] at b
  omega
 have x:=g 0 (by omega)
 have y:=g 1 (by omega)
 rw[x,y] at h⊢
 rw[j 0 (by omega),j 1 (by omega)]
 have i0:=c 0 (by omega)
 have i1:=c 1 (by omega)
 by_cases k:t.op=14
 ·simp only[k,if_true] at h⊢
  split
  ·rename_i a
   right
   exact cat_ok (inS_pos i0 a.1) (inS_pos i1 a.2.1) a.2.2
  ·rename_i a;rw[if_neg a] at h;exact absurd rfl h
 simp only[if_neg k] at h⊢
 by_cases l:15≤t.op
 ·simp only[if_pos l] at h⊢
  split
  ·exact Xv0
  ·rename_i a;rw[if_neg a] at h;exact absurd rfl h
 simp only[if_neg l] at h⊢
 split
 ·rename_i a
  right
  refine binM_ok (by omega) (by omega) (inS_pos i0 a.1) ?_
  rw[a.2];exact inS_pos i1 (by omega)
 ·rename_i a;rw[if_neg a] at h;exact absurd rfl h
end Go.M
end
section
namespace Go.Vc
open Go Go.M
section
variable {P:Program} {F F' S:Nat→Prop} {w w':World} {K:Value→World→Prop} {k:Nat} {v:Value} {xs:List (List Value)}
theorem Sl.ldAgg (h:Sl F w k v xs) {t:TypeId} (b:aggB P t k=true) {i:Nat} (hi:i<xs.length):zf P t (.pointer (some (eaddr v k i))) w K=K (.agg ⟨xs.getD i []⟩) w:=by
 have a:(xs.getD i []).length=k:=h.wide _ (M.getD_mem hi _)
 exact zI0 (by rw[a];exact b) (Sl.cells h hi)
theorem Sl.ldField (h:Sl F w k v xs) {t:TypeId} (a:oneB P t=true) {i j:Nat} {x:Value} (hi:i<xs.length) (b:(xs.getD i [])[j]?=some x):zf P t (.pointer (some ((eaddr v k i).add j))) w K=K x w:=
 xG a (Sl.cells h hi j x b)
theorem Sl.small (h:Sl F w k v xs):xs.length≤9223372036854775807:=by
 obtain⟨_,_,_,a,b,_⟩:=h.shape;omega
end
inductive TmR (F:Nat→Prop) (w:World):List Value→Tm→Prop
 |mk {o a b:Int} {s:ByteArray} {ks:List Tm} {kv:Value} {css:List (List Value)}:Sl F w 5 kv css→css.length=ks.length→(∀i,i<ks.length→TmR F w (css.getD i []) (ks.getD i default))→
  TmR F w [.int .i64 o,.int .i64 a,.int .i64 b,.string s,kv] (.mk o a b s ks)
def TmsR (F:Nat→Prop) (w:World) (kv:Value) (ks:List Tm):Prop:= ∃css:List (List Value),Sl F w 5 kv css∧css.length=ks.length∧∀i,i<ks.length→TmR F w (css.getD i []) (ks.getD i default)
def TermR (F:Nat→Prop) (w:World) (v:Value) (t:Tm):Prop:= ∃kv,v= .agg ⟨[.int .i64 t.op,.int .i64 t.a,.int .i64 t.b,.string t.s,kv]⟩∧TmsR F w kv t.ks
def DclsR (F:Nat→Prop) (w:World) (v:Value) (ds:List Dcl):Prop:=Sl F w 2 v (ds.map fun d=>[.string d.1,.int .i64 d.2])
section
variable {P:Program} {F F' S:Nat→Prop} {w w':World} {K:Value→World→Prop} {v:Value} {cs:List Value} {t:Tm} {ks:List Tm} {ds:List Dcl}
theorem TmR.same (h:TmR F w cs t) (hw:Same S w w') (hs:∀b,F b→b<w.heap.size→¬S b):TmR F w' cs t:=by
 induction h with
 |mk a c e d=>exact .mk (a.same hw hs) c d
theorem TmR.ext (h:TmR F w cs t) (hw:Ext w w'):TmR F w' cs t:=h.same hw fun _ _ _ h=>h
theorem TmR.weaken (h:TmR F w cs t) (d:∀b,F b→b<w.heap.size→F' b):TmR F' w cs t:=by
 induction h with
 |mk a c f e=>exact .mk (a.weaken d) c e
theorem TmR.inv (h:TmR F w cs t):∃kv,cs=[.int .i64 t.op,.int .i64 t.a,.int .i64 t.b,.string t.s,kv]∧TmsR F w kv t.ks:=by
 cases h with
 |mk c d e=>exact⟨_,rfl,_,c,d,e⟩
theorem TmR.of {kv:Value} (h:TmsR F w kv t.ks):TmR F w [.int .i64 t.op,.int .i64 t.a,.int .i64 t.b,.string t.s,kv] t:=by
 obtain⟨css,c,d,e⟩:=h
 cases t with
 |mk o a b s ks=>exact .mk c d e
theorem TmR.term (h:TmR F w cs t):TermR F w (.agg ⟨cs⟩) t:=by
 obtain⟨kv,rfl,a⟩:=h.inv
 exact⟨kv,rfl,a⟩
theorem TermR.cells (h:TermR F w v t):∃cs,v= .agg ⟨cs⟩∧TmR F w cs t:=by
 obtain⟨kv,rfl,a⟩:=h
 exact⟨_,rfl,TmR.of a⟩
theorem TmsR.same (h:TmsR F w v ks) (hw:Same S w w') (hs:∀b,F b→b<w.heap.size→¬S b):TmsR F w' v ks:=by
 obtain⟨css,a,c,d⟩:=h;exact⟨css,a.same hw hs,c,fun i hi=>(d i hi).same hw hs⟩
theorem TmsR.ext (h:TmsR F w v ks) (hw:Ext w w'):TmsR F w' v ks:=h.same hw fun _ _ _ h=>h
theorem TmsR.weaken (h:TmsR F w v ks) (a:∀b,F b→b<w.heap.size→F' b):TmsR F' w v ks:=by
 obtain⟨css,c,d,e⟩:=h;exact⟨css,c.weaken a,d,fun i hi=>(e i hi).weaken a⟩
theorem TermR.same (h:TermR F w v t) (hw:Same S w w') (hs:∀b,F b→b<w.heap.size→¬S b):TermR F w' v t:=by
 obtain⟨kv,a,c⟩:=h;exact⟨kv,a,c.same hw hs⟩
theorem TermR.ext (h:TermR F w v t) (hw:Ext w w'):TermR F w' v t:=h.same hw fun _ _ _ h=>h
theorem TermR.weaken (h:TermR F w v t) (d:∀b,F b→b<w.heap.size→F' b):TermR F' w v t:=by
 obtain⟨kv,a,c⟩:=h;exact⟨kv,a,c.weaken d⟩
theorem TmsR.small (h:TmsR F w v ks):ks.length≤9223372036854775807:=by
 obtain⟨css,a,b,c⟩:=h;rw[←b];exact a.small
theorem TmsR.len (h:TmsR F w v ks) {t:TypeId} (c:isSl P t=true) (ty:TypeId):vbi P .len [t] ty [v] w' K=K (.int .i64 ks.length) w':=by
 obtain⟨css,a,b,d⟩:=h
 have:=Sl.len (K:=K) (w':=w') a c ty;rwa[b] at this
theorem TmsR.iaddr (h:TmsR F w v ks) {t:TypeId} (e:elB P t 5=true) {kd:IntKind} {i:Int} (b:0≤i) (c:i<ks.length):
  zp P t v (.int kd i) w' K=K (.pointer (some (eaddr v 5 i.toNat))) w':=by
 obtain⟨css,a,d,f⟩:=h
 exact Sl.iaddr a e b (by rw[d];exact c)
theorem TmsR.load (h:TmsR F w v ks) {t:TypeId} (d:aggB P t 5=true) {i:Nat} (hi:i<ks.length) (c:∀x,TermR F w x (ks.getD i default)→K x w):zf P t (.pointer (some (eaddr v 5 i))) w K:=by
 obtain⟨css,a,e,b⟩:=h
 rw[a.ldAgg d (by omega)]
 exact c _ (b i hi).term
theorem TmsR.nil:TmsR F w (.slice none 0 0) []:=⟨[],⟨⟨none,0,rfl,by simp,by simp,by simp⟩,by simp⟩,rfl,by simp⟩
theorem DclsR.same (h:DclsR F w v ds) (hw:Same S w w') (hs:∀b,F b→b<w.heap.size→¬S b):DclsR F w' v ds:=Sl.same h hw hs
theorem DclsR.ext (h:DclsR F w v ds) (hw:Ext w w'):DclsR F w' v ds:=Sl.ext h hw
theorem DclsR.weaken (h:DclsR F w v ds) (a:∀b,F b→b<w.heap.size→F' b):DclsR F' w v ds:=Sl.weaken h a
theorem DclsR.len (h:DclsR F w v ds) {t:TypeId} (a:isSl P t=true) (ty:TypeId):vbi P .len [t] ty [v] w' K=K (.int .i64 ds.length) w':=by
 have:=Sl.len (K:=K) (w':=w') h a ty;rwa[List.length_map] at this
theorem DclsR.iaddr (h:DclsR F w v ds) {t:TypeId} (c:elB P t 2=true) {kd:IntKind} {i:Int} (a:0≤i) (b:i<ds.length):
  zp P t v (.int kd i) w' K=K (.pointer (some (eaddr v 2 i.toNat))) w':=Sl.iaddr h c a (by rw[List.length_map];exact b)
theorem zF0 {i:Nat} (hi:i<ds.length):(ds.map fun d=>[Value.string d.1,Value.int .i64 d.2]).getD i []=[.string (ds.getD i (nada,0)).1,.int .i64 (ds.getD i (nada,0)).2]:=M.getD_map _ hi _ _
theorem DclsR.load (h:DclsR F w v ds) {t:TypeId} (a:aggB P t 2=true) {i:Nat} (hi:i<ds.length):zf P t (.pointer (some (eaddr v 2 i))) w K=K (.agg ⟨[.string (ds.getD i (nada,0)).1,.int .i64 (ds.getD i (nada,0)).2]⟩) w:=by
 rw[Sl.ldAgg h a (by rw[List.length_map];exact hi),zF0 hi]
theorem DclsR.load0 (h:DclsR F w v ds) {t:TypeId} (a:oneB P t=true) {i:Nat} (hi:i<ds.length):zf P t (.pointer (some ((eaddr v 2 i).add 0))) w K=K (.string (ds.getD i (nada,0)).1) w:=
 Sl.ldField h a (by rw[List.length_map];exact hi) (by rw[zF0 hi];rfl)
theorem DclsR.load1 (h:DclsR F w v ds) {t:TypeId} (a:oneB P t=true) {i:Nat} (hi:i<ds.length):zf P t (.pointer (some ((eaddr v 2 i).add 1))) w K=K (.int .i64 (ds.getD i (nada,0)).2) w:=
 Sl.ldField h a (by rw[List.length_map];exact hi) (by rw[zF0 hi];rfl)
theorem DclsR.small (h:DclsR F w v ds):ds.length≤9223372036854775807:=by have:=Sl.small h;simpa using this
theorem Sl.base {k:Nat} {xs:List (List Value)} (h:Sl F w k v xs) (f:xs≠[]):∀a l c,v= .slice (some a) l c→∃b o,a=⟨b,o,none⟩:=by
 intro a l c e
 obtain⟨i,c',rfl,_,_,g⟩:=h.shape
 obtain⟨b,o,rfl,_⟩:=g f
 injection e with d j m
 injection d with d
 exact⟨b,o,d.symm⟩
theorem Sl.taken {k:Nat} {xs:List (List Value)} (h:Sl F w k v xs) {n:Nat} (t:n≤xs.length):Sl F w k (cutV v n) (xs.take n):=by
 obtain⟨a,c,rfl,s,m,q⟩:=h.shape
 have l:(xs.take n).length=n:=by rw[List.length_take];omega
 refine⟨⟨a,c,by rw[l];rfl,by omega,m,fun j=>?_⟩,fun x r=>h.wide x (List.mem_of_mem_take r)⟩
 have f:xs≠[]:=fun e=>j (by rw[e,List.take_nil])
 obtain⟨b,o,e,p,g,d⟩:=q f
 refine⟨b,o,e,p,g,fun i hi=>?_⟩
 rw[l] at hi
 rw[M.take_getD hi]
 exact d i (by omega)
theorem DclsR.cut (h:DclsR F w v ds) (a:ds≠[]) {t:TypeId} (c:elB P t 2=true) {kd:IntKind} {n:Nat} (b:n≤ds.length):yy P t v none (some (.int kd n)) none w' K=K (cutV v n) w':=
 Sl.cut h (Sl.base h (by simpa using a)) c (by rw[List.length_map];exact b)
theorem DclsR.taken (h:DclsR F w v ds) {n:Nat} (a:n≤ds.length):DclsR F w (cutV v n) (ds.take n):=by
 unfold DclsR;rw[List.map_take];exact Sl.taken h (by rw[List.length_map];exact a)
theorem Blk.sl1k {b k:Nat} {cs:List Value} {e:TypeId} (h:Blk w b cs e) (d:cs.length=k):Sl (· =b) w k (.slice (some ⟨b,0,none⟩) 1 1) [cs]:=by
 refine⟨⟨_,1,rfl,Nat.le_refl _,by decide,fun _=>⟨b,0,rfl,rfl,h.lt,fun i hi j v c=>?_⟩⟩,by simp[d]⟩
 have a:i=0:=by simpa using hi
 subst a
 rw[xm]
 simp only[Nat.zero_mul,Nat.zero_add,Nat.add_zero]
 exact h.cell c
theorem Own.app1k {bs ty b k:Nat} {t e:TypeId} {xs:List (List Value)} {y:List Value} (h:Own P 0 k t w v xs) (g:elZ P t k bs=true) (j:0<k) (i:Blk w b y e) (l:y.length=k) (a:∀c,c∈y→c.oneCell'=true)
  (d:xs.length<9223372036854775807) (hlen:(xs.length+1)*bs≤140737488355328)
  (f:∀v' w',Own P 0 k t w' v' (xs++[y])→Same (fun b=>v.ownBlock=some b) w w'→(∀b,v'.ownBlock=some b→v.ownBlock=some b∨w.heap.size≤b)→K v' w'):vbi P .append [t,t] ty [v,.slice (some ⟨b,0,none⟩) 1 1] w K:=
 vappend (F:=(· =b)) g j h (i.sl1k l) (by simpa using a) (by omega) (by rw[List.length_singleton];omega) (by simpa using hlen) f
theorem XT {t e k:Nat} {z x:Value} {y:List Value} (hu:P.underlying t=some (.slice e)) (l:jv P e k=true) (hzero:yP P e z) (i:x.cells=⟨y⟩) (j:y.length=k) (h:k≤16777216)
  (g:∀b w',b=w.heap.size→Ext w w'→w'.heap.size=w.heap.size+1→Blk w' b y e→K (.slice (some ⟨b,0,none⟩) 1 1) w'):vbuildS P t 1 [(0,x)] w K:=by
 refine vbuildS_row (xs:=[x]) (us:=[y]) hu l hzero (by simp[i]) (by simp[j]) (by simpa using h) fun b w' a c d f=>g b w' a c d (by simpa using f)
theorem Blk.ownk {b k n:Nat} {t:TypeId} {css:List (List Value)} (h:Blk w b css.flatten (Vu P t)) (hw:∀x,x∈css→x.length=k) (c:n=css.length) (hm:n≤9223372036854775807):Own P 0 k t w (.slice (some ⟨b,0,none⟩) n n) css:=by
 subst c
 have a:=flatten_len hw
 refine⟨⟨by rw[a],.inr ⟨b,css.length,⟨css.flatten⟩,by simp,Nat.zero_le _,h,Nat.le_refl _,by simpa[maxLen] using hm,by simpa using a,?_⟩⟩,hw⟩
 show List.take (css.length*k) css.flatten=css.flatten
 rw[←a,List.take_length]
theorem flatten_set {k:Nat}:∀{xs:List (List Value)} (_:∀x,x∈xs→x.length=k) {i j:Nat} (u:Value),i<xs.length→j<k→xs.flatten.set (i*k+j) u=(xs.set i ((xs.getD i []).set j u)).flatten
 |[],_,i,j,u,hi,_=>by simp at hi
 |x::r,h,i,j,u,hi,a=>by
  have c:=h x List.mem_cons_self
  cases i with
  |zero=>
   rw[Nat.zero_mul,Nat.zero_add]
   simp only[List.flatten_cons,List.set_cons_zero,List.getD_cons_zero]
   rw[List.set_append_left _ _ (by omega)]
  |succ i=>
   simp only[List.flatten_cons,List.set_cons_succ,List.getD_cons_succ]
   rw[List.set_append_right _ _ (by rw[Nat.add_mul];omega)]
   congr 1
   have e:(i+1)*k+j-x.length=i*k+j:=by rw[Nat.add_mul];omega
   rw[e,flatten_set (fun y b=>h y (List.mem_cons_of_mem _ b)) u (by simpa using hi) a]
theorem Own.stCell {k:Nat} {t e:TypeId} {xs:List (List Value)} {x:Value} (h:Own P 0 k t w v xs) (E:x.cells= #[x]) (o:x.oneCell'=true) (G:jv P e 1=true) {i j:Nat} (hi:i<xs.length) (C:j<k)
  (p:∀w',Own P 0 k t w' v (xs.set i ((xs.getD i []).set j x))→Same (fun b=>v.ownBlock=some b) w w'→w'.heap.size=w.heap.size→K undef w'):zt P e (.pointer (some ((eaddr v k i).add j))) x w K:=by
 rcases h.row.2 with⟨rfl,I⟩|⟨g,cap,cur,rfl,s,H,D,z,A,n⟩
 ·omega
 ·have a:=h.row
  have d:i*k+j<xs.length*k:=by
   have:i*k+k≤xs.length*k:=by rw[←Nat.succ_mul];exact Nat.mul_le_mul_right _ hi
   omega
  have u:=World.ownsRow.cellAt a (i*k+j) d
  have B:=World.ownsRow.frozenAt a (i*k+j)
  obtain⟨l,m⟩:=World.ownsRow.stored a (i*k+j) x
  have f:(xs.getD i []).length=k:=h.wide _ (M.getD_mem hi _)
  have c:w.cell? ⟨g,i*k+j,none⟩=some (xs.flatten.getD (i*k+j) undef):=by
   rw[u]
   have:i*k+j<xs.flatten.length:=by rw[flatten_len h.wide];exact d
   rw[List.getD_eq_getElem?_getD,List.getElem?_eq_getElem this];rfl
  have r:(⟨g,i*k+j,none⟩:Addr).add 0=⟨g,i*k+j,none⟩:=rfl
  have he:(eaddr (.slice (some ⟨g,0,none⟩) xs.length cap) k i).add j=⟨g,i*k+j,none⟩:=by
   simp only[eaddr];rw[xm];simp
  rw[he]
  refine⟨(),w.setCell ⟨g,i*k+j,none⟩ x,?_,p _ ?_ (Same.of_grown m) (by simp)⟩
  ·simp only[Instr.storeAt,Instr.sureAddr,Sem.run_bind,Sem.run_pure,Result.andThen_ok,storeVar,run_sizeOf G,E]
   cases x<;>first|(cases o;done)|simp[storeCells,store,Sem.run,r,c,B]
  ·refine⟨?_,fun y F=>?_⟩
   ·rw[←flatten_set h.wide x hi C]
    simpa using l
   ·obtain⟨q,J,rfl⟩:=List.getElem_of_mem F
    rw[List.getElem_set]
    split
    ·rw[List.length_set];exact f
    ·exact h.wide _ (List.getElem_mem _)
def PairsR (F:Nat→Prop) (w:World) (v:Value) (xs:List (Int×Int)):Prop:=Sl F w 2 v (xs.map fun x=>[.int .i64 x.1,.int .i64 x.2])
def OwnP (P:Program) (t:TypeId) (w:World) (v:Value) (xs:List (Int×Int)):Prop:=Own P 0 2 t w v (xs.map fun x=>[.int .i64 x.1,.int .i64 x.2])
variable {xs:List (Int×Int)}
theorem PairsR.ext (h:PairsR F w v xs) (hw:Ext w w'):PairsR F w' v xs:=Sl.ext h hw
theorem PairsR.iaddr (h:PairsR F w v xs) {t:TypeId} (c:elB P t 2=true) {kd:IntKind} {i:Int} (a:0≤i) (b:i<xs.length):
  zp P t v (.int kd i) w' K=K (.pointer (some (eaddr v 2 i.toNat))) w':=Sl.iaddr h c a (by rw[List.length_map];exact b)
theorem PairsR.load (h:PairsR F w v xs) {t:TypeId} (a:aggB P t 2=true) {i:Nat} (hi:i<xs.length):zf P t (.pointer (some (eaddr v 2 i))) w K=K (.agg ⟨[.int .i64 (xs.getD i (0,0)).1,.int .i64 (xs.getD i (0,0)).2]⟩) w:=by
 rw[Sl.ldAgg h a (by rw[List.length_map];exact hi),M.getD_map _ hi _ (0,0)]
theorem PairsR.load1 (h:PairsR F w v xs) {t:TypeId} (a:oneB P t=true) {i:Nat} (hi:i<xs.length):zf P t (.pointer (some ((eaddr v 2 i).add 1))) w K=K (.int .i64 (xs.getD i (0,0)).2) w:=
 Sl.ldField h a (by rw[List.length_map];exact hi) (by rw[M.getD_map _ hi _ (0,0)];rfl)
theorem OwnP.pairs {t:TypeId} (h:OwnP P t w v xs):PairsR (fun b=>v.ownBlock=some b) w v xs:=Own.sl h
theorem OwnP.ext {t:TypeId} (h:OwnP P t w v xs) (hw:Ext w w'):OwnP P t w' v xs:=Own.ext h hw
theorem OwnP.nil (t:TypeId):OwnP P t w (.slice none 0 0) []:=Own.nil P 0 2 t w
end
end Go.Vc
end
section
namespace Go.Proofs.YtaekfnbnhjgboaaGreatDoor
open Go Go.Vc Go.Proofs
noncomputable abbrev PP:Program:=Tryz.prog
theorem mixed:PP.follows .mixedOrders=true:=by kernel_rfl
abbrev Xs:Nat:=8
abbrev ZI:Nat:=13
abbrev ZZ:Nat:=31
abbrev Ya:Nat:=33
abbrev qX:Nat:=40
abbrev Z4:Nat:=41
abbrev ZO:Nat:=42
abbrev ZJ:Nat:=43
abbrev Y8:Nat:=44
abbrev Y9:Nat:=46
abbrev ku:Nat:=47
abbrev jD:Nat:=51
abbrev Z5:Nat:=52
abbrev Xi:Nat:=53
abbrev YK:Nat:=54
abbrev Xa:Nat:=56
abbrev kZ:Nat:=57
abbrev qA:Nat:=58
abbrev Vm:Nat:=59
abbrev Q3:Nat:=62
abbrev ZH:Nat:=63
abbrev Q8:Nat:=64
abbrev ka:Nat:=65
abbrev xp:Nat:=66
abbrev QT:Nat:=77
abbrev QS:Nat:=78
abbrev Y5:Nat:=79
abbrev qY:Nat:=84
abbrev je:Nat:=85
abbrev ji:Nat:=86
abbrev Y2:Nat:=87
abbrev qx:Nat:=88
abbrev YJ:Nat:=89
abbrev jy:Nat:=90
abbrev jV:Nat:=91
abbrev Qb:Nat:=92
abbrev qm:Nat:=93
abbrev Y7:Nat:=94
abbrev kg:Nat:=95
abbrev Xc:Nat:=96
abbrev Q0:Nat:=100
abbrev Zq:Nat:=101
abbrev Xb:Nat:=102
abbrev YG:Nat:=103
abbrev kW:Nat:=104
abbrev xw:Nat:=105
abbrev Xj:Nat:=106
abbrev Y3:Nat:=107
abbrev X8:Nat:=108
abbrev Q7:Nat:=109
abbrev yx:Nat:=110
abbrev jx:Nat:=111
abbrev kc:Nat:=112
abbrev Qc:Nat:=113
abbrev ZL:Nat:=114
abbrev jN:Nat:=115
abbrev Q2:Nat:=119
abbrev X4:Nat:=120
abbrev Vl:Nat:=121
abbrev QV:Nat:=122
abbrev QW:Nat:=123
abbrev jA:Nat:=125
abbrev ym:Nat:=126
abbrev QY:Nat:=128
abbrev yH:Nat:=129
abbrev Xt:Nat:=130
abbrev kk:Nat:=131
abbrev J4:Nat:=132
abbrev X7:Nat:=133
abbrev J6:Nat:=134
abbrev J0:Nat:=135
abbrev Q9:Nat:=136
abbrev KD:Nat:=137
abbrev yI:Nat:=138
abbrev J8:Nat:=139
abbrev xM:Nat:=140
abbrev Xg:Nat:=141
abbrev Xf:Nat:=142
abbrev Xe:Nat:=143
abbrev Xd:Nat:=144
abbrev YH:Nat:=145
abbrev J7:Nat:=146
abbrev yD:Nat:=147
abbrev xq:Nat:=148
abbrev zJ:Nat:=149
abbrev XY:Nat:=152
abbrev yN:Nat:=153
abbrev xY:Nat:=154
abbrev Y1:Nat:=155
abbrev jg:Nat:=156
abbrev xL:Nat:=157
abbrev jf:Nat:=158
abbrev kX:Nat:=159
abbrev xU:Nat:=160
abbrev yE:Nat:=161
abbrev J3:Nat:=162
abbrev yb:Nat:=163
abbrev ql:Nat:=164
abbrev qW:Nat:=165
abbrev Xh:Nat:=166
abbrev jw:Nat:=167
abbrev KE:Nat:=168
abbrev qZ:Nat:=169
abbrev j5:Nat:=170
abbrev y6:Nat:=171
abbrev j3:Nat:=172
abbrev Z0:Nat:=173
abbrev qM:Nat:=174
abbrev qJ:Nat:=175
abbrev Zt:Nat:=176
abbrev QR:Nat:=177
abbrev XZ:Nat:=178
abbrev qu:Nat:=179
abbrev xI:Nat:=180
abbrev kU:Nat:=181
abbrev YE:Nat:=182
abbrev qV:Nat:=183
abbrev qw:Nat:=184
abbrev Q4:Nat:=185
abbrev k8:Nat:=186
abbrev QU:Nat:=187
abbrev YF:Nat:=188
abbrev X5:Nat:=189
abbrev X6:Nat:=190
abbrev Q6:Nat:=191
abbrev xJ:Nat:=192
abbrev jP:Nat:=193
abbrev X9:Nat:=194
abbrev qg:Nat:=195
abbrev yp:Nat:=203
abbrev kY:Nat:=207
abbrev Qa:Nat:=208
abbrev zK:Nat:=209
abbrev ke:Nat:=210
abbrev yM:Nat:=214
abbrev yn:Nat:=215
abbrev jI:Nat:=216
abbrev kp:Nat:=217
abbrev yL:Nat:=218
abbrev qH:Nat:=219
abbrev xk:Nat:=220
abbrev yO:Nat:=221
abbrev yq:Nat:=222
abbrev xZ:Nat:=223
abbrev xj:Nat:=224
abbrev ko:Nat:=225
abbrev qi:Nat:=226
abbrev xW:Nat:=227
abbrev jM:Nat:=228
abbrev qc:Nat:=229
abbrev jp:Nat:=230
abbrev J5:Nat:=231
abbrev QZ:Nat:=232
abbrev Zc:Nat:=233
abbrev qU:Nat:=234
abbrev Q5:Nat:=235
abbrev jG:Nat:=247
abbrev qL:Nat:=248
abbrev Y0:Nat:=251
abbrev Qu:Nat:=252
abbrev yQ:Nat:=253
abbrev qz:Nat:=254
abbrev km:Nat:=255
abbrev kj:Nat:=256
abbrev Y4:Nat:=257
abbrev qs:Nat:=258
abbrev jT:Nat:=259
abbrev QX:Nat:=260
abbrev jU:Nat:=270
abbrev ZK:Nat:=271
abbrev kV:Nat:=272
abbrev Zp:Nat:=273
abbrev Xr:Nat:=277
abbrev qy:Nat:=278
abbrev xV:Nat:=279
abbrev qh:Nat:=280
abbrev kq:Nat:=312
abbrev yz:Nat:=313
abbrev yK:Nat:=314
abbrev kf:Nat:=315
abbrev jF:Nat:=316
abbrev yj:Nat:=317
abbrev YI:Nat:=318
abbrev jz:Nat:=319
abbrev Z3:Nat:=320
abbrev jL:Nat:=321
abbrev jo:Nat:=322
abbrev jh:Nat:=323
abbrev Y6:Nat:=324
abbrev xf:Nat:=325
abbrev xe:Nat:=326
abbrev xd:Nat:=327
abbrev xc:Nat:=328
abbrev xb:Nat:=329
abbrev xa:Nat:=330
abbrev x8:Nat:=331
abbrev x7:Nat:=332
abbrev x6:Nat:=333
abbrev yT:Nat:=334
abbrev yS:Nat:=335
abbrev js:Nat:=336
abbrev jK:Nat:=337
abbrev jn:Nat:=338
abbrev Qd:Nat:=339
abbrev ZM:Nat:=340
abbrev jB:Nat:=341
abbrev jE:Nat:=342
abbrev jk:Nat:=343
abbrev jl:Nat:=344
abbrev j0:Nat:=345
abbrev kL:Nat:=346
abbrev jJ:Nat:=347
abbrev jm:Nat:=348
abbrev ZN:Nat:=349
abbrev ki:Nat:=350
abbrev jH:Nat:=351
abbrev jq:Nat:=352
abbrev j4:Nat:=353
abbrev xK:Nat:=354
abbrev kM:Nat:=355
abbrev qb:Nat:=356
abbrev jO:Nat:=357
abbrev jr:Nat:=358
abbrev xD:Nat:=0
abbrev yA:Nat:=1
abbrev yW:Nat:=2
abbrev VQ:Nat:=2
abbrev zb:Nat:=3
abbrev xr:Nat:=4
abbrev qC:Nat:=5
abbrev zN:Nat:=9
abbrev y3:Nat:=22
abbrev zu:Nat:=23
abbrev zl:Nat:=24
abbrev za:Nat:=26
abbrev zn:Nat:=29
abbrev zk:Nat:=31
abbrev zg:Nat:=32
abbrev zz:Nat:=38
abbrev jc:Nat:=42
abbrev zC:Nat:=61
abbrev zm:Nat:=63
abbrev zc:Nat:=92
abbrev zS:Nat:=95
abbrev zA:Nat:=96
abbrev ya:Nat:=97
abbrev zP:Nat:=99
abbrev jC:Nat:=100
abbrev ye:Nat:=102
abbrev y0:Nat:=104
abbrev zG:Nat:=105
abbrev zM:Nat:=107
abbrev ze:Nat:=111
abbrev zd:Nat:=118
abbrev zo:Nat:=134
abbrev qj:Nat:=144
abbrev xn:Nat:=146
abbrev yc:Nat:=147
abbrev zZ:Nat:=161
abbrev y8:Nat:=171
abbrev zB:Nat:=174
abbrev zw:Nat:=181
abbrev y5:Nat:=201
abbrev qo:Nat:=203
abbrev yd:Nat:=206
abbrev zQ:Nat:=208
abbrev zX:Nat:=209
abbrev zL:Nat:=210
abbrev zT:Nat:=211
abbrev zO:Nat:=212
abbrev zR:Nat:=213
abbrev zY:Nat:=214
abbrev kC:Nat:=215
abbrev zE:Nat:=217
abbrev yw:Nat:=218
abbrev zU:Nat:=219
abbrev Z6:Nat:=229
abbrev K4:Nat:=231
abbrev KF:Nat:=314
abbrev Ze:Nat:=328
abbrev xy:Nat:=358
abbrev y2:Nat:=385
theorem jS:yP PP zb (.int .i64 0):=by unfold yP;kernel_rfl
@[push_cast] theorem jc0:oneB PP zb=true:=by kernel_rfl
@[push_cast] theorem qR:jv PP zb 1=true:=by kernel_rfl
theorem y20:Zv0 PP zb .i64:=by unfold Zv0;kernel_rfl
theorem j60:(PP.underlying zb).isSome=true:=by kernel_rfl
theorem Zw0:yP PP xr (.bool false):=by unfold yP;kernel_rfl
@[push_cast] theorem XZ0:oneB PP xr=true:=by kernel_rfl
@[push_cast] theorem XS0:jv PP xr 1=true:=by kernel_rfl
@[push_cast] theorem o_uint8:oneB PP qC=true:=by kernel_rfl
theorem kM0:Zv0 PP qC .u8:=by unfold Zv0;kernel_rfl
theorem xZ0:(PP.underlying qC).isSome=true:=by kernel_rfl
theorem Xk:yP PP zN (.string ⟨#[]⟩):=by unfold yP;kernel_rfl
@[push_cast] theorem Xn0:oneB PP zN=true:=by kernel_rfl
@[push_cast] theorem xN0:jv PP zN 1=true:=by kernel_rfl
theorem Xo:PP.underlying zN=some .string:=by kernel_rfl
@[push_cast] theorem o_Luint8:oneB PP y3=true:=by kernel_rfl
@[push_cast] theorem Xu0:elZ PP y3 1 1=true:=by kernel_rfl
theorem XU:PP.underlying y3=some (.slice qC):=by kernel_rfl
theorem Yk0:Vu PP y3=qC:=by kernel_rfl
@[push_cast] theorem s_Luint8:isSl PP y3=true:=by kernel_rfl
@[push_cast] theorem XJ0:elB PP y3 1=true:=by kernel_rfl
@[push_cast] theorem UM:oneB PP zu=true:=by kernel_rfl
@[push_cast] theorem Jk:elZ PP zu 2 24=true:=by kernel_rfl
theorem Z9:PP.underlying zu=some (.slice zz):=by kernel_rfl
theorem Wa:Vu PP zu=zz:=by kernel_rfl
@[push_cast] theorem XW0:isSl PP zu=true:=by kernel_rfl
@[push_cast] theorem Jq:elB PP zu 2=true:=by kernel_rfl
@[push_cast] theorem Q10:oneB PP zl=true:=by kernel_rfl
@[push_cast] theorem j10:jv PP zl 1=true:=by kernel_rfl
@[push_cast] theorem Jj:elZ PP zl 5 64=true:=by kernel_rfl
theorem QN:PP.underlying zl=some (.slice za):=by kernel_rfl
theorem Qk:Vu PP zl=za:=by kernel_rfl
@[push_cast] theorem UL:isSl PP zl=true:=by kernel_rfl
@[push_cast] theorem Q80:elB PP zl 5=true:=by kernel_rfl
theorem yR:yP PP za (.agg #[(.int .i64 0),(.int .i64 0),(.int .i64 0),(.string ⟨#[]⟩),(.slice none 0 0)]):=by unfold yP;kernel_rfl
theorem Yh:strF PP za=some ([(0,1),(1,1),(2,1),(3,1),(4,1)],[(.int .i64 0),(.int .i64 0),(.int .i64 0),(.string ⟨#[]⟩),(.slice none 0 0)]):=by kernel_rfl
@[push_cast] theorem zI:aggB PP za 5=true:=by kernel_rfl
@[push_cast] theorem Vd:jv PP za 5=true:=by kernel_rfl
@[push_cast] theorem Q20:oneB PP zn=true:=by kernel_rfl
@[push_cast] theorem UK:jv PP zn 1=true:=by kernel_rfl
@[push_cast] theorem jX:elZ PP zn 3 24=true:=by kernel_rfl
theorem Z8:PP.underlying zn=some (.slice zo):=by kernel_rfl
theorem W9:Vu PP zn=zo:=by kernel_rfl
@[push_cast] theorem qT:isSl PP zn=true:=by kernel_rfl
@[push_cast] theorem Jp:elB PP zn 3=true:=by kernel_rfl
theorem kQ:yP PP zk (.agg #[(.int .i64 0),(.slice none 0 0)]):=by unfold yP;kernel_rfl
theorem UG:strF PP zk=some ([(0,1),(1,1)],[(.int .i64 0),(.slice none 0 0)]):=by kernel_rfl
@[push_cast] theorem yl:aggB PP zk 2=true:=by kernel_rfl
theorem k30:yP PP zg (.slice none 0 0):=by unfold yP;kernel_rfl
@[push_cast] theorem Q00:oneB PP zg=true:=by kernel_rfl
@[push_cast] theorem xy0:jv PP zg 1=true:=by kernel_rfl
@[push_cast] theorem jW:elZ PP zg 1 8=true:=by kernel_rfl
theorem ju:PP.underlying zg=some (.slice zb):=by kernel_rfl
theorem Qj:Vu PP zg=zb:=by kernel_rfl
@[push_cast] theorem XV0:isSl PP zg=true:=by kernel_rfl
@[push_cast] theorem Wc:elB PP zg 1=true:=by kernel_rfl
theorem xF:yP PP zz (.agg #[(.string ⟨#[]⟩),(.int .i64 0)]):=by unfold yP;kernel_rfl
theorem ku0:strF PP zz=some ([(0,1),(1,1)],[(.string ⟨#[]⟩),(.int .i64 0)]):=by kernel_rfl
@[push_cast] theorem Qy0:aggB PP zz 2=true:=by kernel_rfl
@[push_cast] theorem ZU:jv PP zz 2=true:=by kernel_rfl
@[push_cast] theorem Qu0:elZ PP jc 1 1=true:=by kernel_rfl
theorem Qk0:PP.underlying jc=some (.slice xr):=by kernel_rfl
theorem XI0:Vu PP jc=xr:=by kernel_rfl
@[push_cast] theorem s_Lbool:isSl PP jc=true:=by kernel_rfl
@[push_cast] theorem e_Lbool:elB PP jc 1=true:=by kernel_rfl
theorem YT0:yP PP zC (.slice none 0 0):=by unfold yP;kernel_rfl
@[push_cast] theorem o_LLint:oneB PP zC=true:=by kernel_rfl
@[push_cast] theorem xO0:jv PP zC 1=true:=by kernel_rfl
@[push_cast] theorem y00:elZ PP zC 1 24=true:=by kernel_rfl
theorem k80:PP.underlying zC=some (.slice zg):=by kernel_rfl
theorem kS0:Vu PP zC=zg:=by kernel_rfl
@[push_cast] theorem Qp0:isSl PP zC=true:=by kernel_rfl
@[push_cast] theorem QC0:elB PP zC 1=true:=by kernel_rfl
theorem xS:yP PP zm (.agg #[(.int .i64 0),(.slice none 0 0)]):=by unfold yP;kernel_rfl
theorem UH:strF PP zm=some ([(0,1),(1,1)],[(.int .i64 0),(.slice none 0 0)]):=by kernel_rfl
@[push_cast] theorem yi:aggB PP zm 2=true:=by kernel_rfl
theorem jZ:yP PP zc (.slice none 0 0):=by unfold yP;kernel_rfl
@[push_cast] theorem yJ0:oneB PP zc=true:=by kernel_rfl
@[push_cast] theorem Z2:jv PP zc 1=true:=by kernel_rfl
@[push_cast] theorem yV:elZ PP zc 1 8=true:=by kernel_rfl
theorem yU:PP.underlying zc=some (.slice zw):=by kernel_rfl
theorem xl:Vu PP zc=zw:=by kernel_rfl
@[push_cast] theorem xC:isSl PP zc=true:=by kernel_rfl
@[push_cast] theorem xg:elB PP zc 1=true:=by kernel_rfl
@[push_cast] theorem Zs0:oneB PP zS=true:=by kernel_rfl
@[push_cast] theorem jd0:oneB PP zA=true:=by kernel_rfl
theorem Qf:PP.underlying zA=some (.map 3 203):=by kernel_rfl
@[push_cast] theorem zS0:oneB PP ya=true:=by kernel_rfl
theorem Zr:PP.underlying ya=some (.map 9 92):=by kernel_rfl
theorem xw0:strF PP zP=some ([(0,1),(1,1),(2,1),(3,1)],[(.pointer none),(.slice none 0 0),(.map none),(.map none)]):=by kernel_rfl
@[push_cast] theorem Zr0:oneB PP jC=true:=by kernel_rfl
@[push_cast] theorem X3:oneB PP ye=true:=by kernel_rfl
@[push_cast] theorem Qb0:jv PP ye 1=true:=by kernel_rfl
theorem xv0:strF PP y0=some ([(0,1),(1,1)],[(.pointer none),.nilIface]):=by kernel_rfl
@[push_cast] theorem je0:oneB PP zG=true:=by kernel_rfl
theorem kz:PP.underlying zG=some (.map 134 3):=by kernel_rfl
theorem xt0:strF PP zM=some ([(0,2),(2,1)],[(.int .i64 0),(.slice none 0 0),(.map none)]):=by kernel_rfl
theorem qe:yP PP ze (.agg #[(.int .i64 0),(.slice none 0 0),(.bool false)]):=by unfold yP;kernel_rfl
theorem kt0:strF PP ze=some ([(0,2),(2,1)],[(.int .i64 0),(.slice none 0 0),(.bool false)]):=by kernel_rfl
@[push_cast] theorem Z1:aggB PP ze 3=true:=by kernel_rfl
theorem yZ:yP PP zd (.agg #[(.int .i64 0),(.int .i64 0)]):=by unfold yP;kernel_rfl
theorem UF:strF PP zd=some ([(0,1),(1,1)],[(.int .i64 0),(.int .i64 0)]):=by kernel_rfl
@[push_cast] theorem zW:aggB PP zd 2=true:=by kernel_rfl
@[push_cast] theorem kX0:jv PP zd 2=true:=by kernel_rfl
theorem YA:yP PP zo (.agg #[(.bool false),(.int .i64 0),(.int .i64 0)]):=by unfold yP;kernel_rfl
theorem Qq:strF PP zo=some ([(0,1),(1,1),(2,1)],[(.bool false),(.int .i64 0),(.int .i64 0)]):=by kernel_rfl
@[push_cast] theorem qB:aggB PP zo 3=true:=by kernel_rfl
@[push_cast] theorem Ve:jv PP zo 3=true:=by kernel_rfl
theorem Kl:PP.underlying qj=some (.map 9 3):=by kernel_rfl
theorem y30:Zv0 PP yc .u64:=by unfold Zv0;kernel_rfl
theorem zM0:(PP.underlying yc).isSome=true:=by kernel_rfl
theorem jZ0:strF PP zZ=some ([(0,1),(1,1),(2,1)],[(.slice none 0 0),(.slice none 0 0),(.slice none 0 0)]):=by kernel_rfl
theorem jY0:strF PP y8=some ([(0,1),(1,1)],[(.slice none 0 0),(.int .i64 0)]):=by kernel_rfl
@[push_cast] theorem y10:elZ PP zB 1 24=true:=by kernel_rfl
theorem QO:PP.underlying zB=some (.slice zc):=by kernel_rfl
@[push_cast] theorem ZP0:isSl PP zB=true:=by kernel_rfl
@[push_cast] theorem yg0:elB PP zB 1=true:=by kernel_rfl
theorem yB:yP PP zw (.int .i64 0):=by unfold yP;kernel_rfl
@[push_cast] theorem Xo0:oneB PP zw=true:=by kernel_rfl
@[push_cast] theorem yo:jv PP zw 1=true:=by kernel_rfl
@[push_cast] theorem kl0:elZ PP y5 2 16=true:=by kernel_rfl
theorem k70:PP.underlying y5=some (.slice zd):=by kernel_rfl
@[push_cast] theorem QB0:elB PP y5 2=true:=by kernel_rfl
theorem k00:strF PP yd=some ([(0,1),(1,1)],[(.string ⟨#[]⟩),(.int .i64 0)]):=by kernel_rfl
theorem jt:yP PP zQ (.agg #[(.string ⟨#[]⟩),(.int .i64 0)]):=by unfold yP;kernel_rfl
theorem qY0:strF PP zQ=some ([(0,2)],[(.string ⟨#[]⟩),(.int .i64 0)]):=by kernel_rfl
@[push_cast] theorem qe0:aggB PP zQ 2=true:=by kernel_rfl
theorem ZS:yP PP zX (.agg #[(.string ⟨#[]⟩),(.int .i64 0)]):=by unfold yP;kernel_rfl
theorem xu0:strF PP zX=some ([(0,2)],[(.string ⟨#[]⟩),(.int .i64 0)]):=by kernel_rfl
theorem QH:yP PP zL (.agg #[(.string ⟨#[]⟩),(.int .i64 0)]):=by unfold yP;kernel_rfl
theorem xs0:strF PP zL=some ([(0,2)],[(.string ⟨#[]⟩),(.int .i64 0)]):=by kernel_rfl
@[push_cast] theorem yM0:aggB PP zL 2=true:=by kernel_rfl
theorem xh:yP PP zT (.agg #[(.string ⟨#[]⟩),(.int .i64 0)]):=by unfold yP;kernel_rfl
theorem xq0:strF PP zT=some ([(0,2)],[(.string ⟨#[]⟩),(.int .i64 0)]):=by kernel_rfl
@[push_cast] theorem yK0:aggB PP zT 2=true:=by kernel_rfl
theorem xo:yP PP zO (.agg #[(.string ⟨#[]⟩),(.int .i64 0)]):=by unfold yP;kernel_rfl
theorem yC0:strF PP zO=some ([(0,2)],[(.string ⟨#[]⟩),(.int .i64 0)]):=by kernel_rfl
@[push_cast] theorem y40:aggB PP zO 2=true:=by kernel_rfl
theorem qa:yP PP zR (.agg #[(.string ⟨#[]⟩),(.int .i64 0)]):=by unfold yP;kernel_rfl
theorem xr0:strF PP zR=some ([(0,2)],[(.string ⟨#[]⟩),(.int .i64 0)]):=by kernel_rfl
@[push_cast] theorem yL0:aggB PP zR 2=true:=by kernel_rfl
theorem qG:yP PP zY (.agg #[(.string ⟨#[]⟩),(.int .i64 0)]):=by unfold yP;kernel_rfl
theorem qZ0:strF PP zY=some ([(0,2)],[(.string ⟨#[]⟩),(.int .i64 0)]):=by kernel_rfl
@[push_cast] theorem qf0:aggB PP zY 2=true:=by kernel_rfl
@[push_cast] theorem q60:oneB PP kC=true:=by kernel_rfl
theorem zp0:yP PP zE (.agg #[(.string ⟨#[]⟩),(.int .i64 0),.nilFunc]):=by unfold yP;kernel_rfl
theorem yD0:strF PP zE=some ([(0,2),(2,1)],[(.string ⟨#[]⟩),(.int .i64 0),.nilFunc]):=by kernel_rfl
@[push_cast] theorem Jn:aggB PP zE 3=true:=by kernel_rfl
@[push_cast] theorem jg0:elZ PP yw 1 16=true:=by kernel_rfl
theorem Xn:PP.underlying yw=some (.slice zN):=by kernel_rfl
theorem Zk0:Vu PP yw=zN:=by kernel_rfl
@[push_cast] theorem J50:isSl PP yw=true:=by kernel_rfl
theorem ZT:yP PP zU (.agg #[(.string ⟨#[]⟩),(.int .i64 0)]):=by unfold yP;kernel_rfl
theorem xx0:strF PP zU=some ([(0,2)],[(.string ⟨#[]⟩),(.int .i64 0)]):=by kernel_rfl
theorem X90:PP.underlying K4=some (.slice zC):=by kernel_rfl
@[push_cast] theorem s_LLLint:isSl PP K4=true:=by kernel_rfl
@[push_cast] theorem e_LLLint:elB PP K4 1=true:=by kernel_rfl
theorem Ya0:Zv0 PP KF .u64:=by unfold Zv0;kernel_rfl
theorem Qm0:(PP.underlying KF).isSome=true:=by kernel_rfl
theorem yT0:fieldB PP za 0 0=true:=by kernel_rfl
@[push_cast] theorem YM0 {w:World} {K:Value→World→Prop} (a:Addr):zi PP za (.pointer (some a)) 0 w K=K (.pointer (some (a.add 0))) w:=yf yT0 a
theorem yS0:fieldB PP za 1 1=true:=by kernel_rfl
@[push_cast] theorem YL0 {w:World} {K:Value→World→Prop} (a:Addr):zi PP za (.pointer (some a)) 1 w K=K (.pointer (some (a.add 1))) w:=yf yS0 a
theorem yR0:fieldB PP za 2 2=true:=by kernel_rfl
@[push_cast] theorem YK0 {w:World} {K:Value→World→Prop} (a:Addr):zi PP za (.pointer (some a)) 2 w K=K (.pointer (some (a.add 2))) w:=yf yR0 a
theorem yQ0:fieldB PP za 3 3=true:=by kernel_rfl
@[push_cast] theorem YJ0 {w:World} {K:Value→World→Prop} (a:Addr):zi PP za (.pointer (some a)) 3 w K=K (.pointer (some (a.add 3))) w:=yf yQ0 a
theorem yP0:fieldB PP za 4 4=true:=by kernel_rfl
@[push_cast] theorem YI0 {w:World} {K:Value→World→Prop} (a:Addr):zi PP za (.pointer (some a)) 4 w K=K (.pointer (some (a.add 4))) w:=yf yP0 a
theorem ql0:fieldB PP zk 0 0=true:=by kernel_rfl
@[push_cast] theorem XE0 {w:World} {K:Value→World→Prop} (a:Addr):zi PP zk (.pointer (some a)) 0 w K=K (.pointer (some (a.add 0))) w:=yf ql0 a
theorem qk0:fieldB PP zk 1 1=true:=by kernel_rfl
@[push_cast] theorem XD0 {w:World} {K:Value→World→Prop} (a:Addr):zi PP zk (.pointer (some a)) 1 w K=K (.pointer (some (a.add 1))) w:=yf qk0 a
theorem yY0:fieldB PP zz 0 0=true:=by kernel_rfl
@[push_cast] theorem YR0 {w:World} {K:Value→World→Prop} (a:Addr):zi PP zz (.pointer (some a)) 0 w K=K (.pointer (some (a.add 0))) w:=yf yY0 a
theorem yX0:fieldB PP zz 1 1=true:=by kernel_rfl
@[push_cast] theorem YQ0 {w:World} {K:Value→World→Prop} (a:Addr):zi PP zz (.pointer (some a)) 1 w K=K (.pointer (some (a.add 1))) w:=yf yX0 a
theorem qn0:fieldB PP zm 0 0=true:=by kernel_rfl
@[push_cast] theorem XG0 {w:World} {K:Value→World→Prop} (a:Addr):zi PP zm (.pointer (some a)) 0 w K=K (.pointer (some (a.add 0))) w:=yf qn0 a
theorem qm0:fieldB PP zm 1 1=true:=by kernel_rfl
@[push_cast] theorem XF0 {w:World} {K:Value→World→Prop} (a:Addr):zi PP zm (.pointer (some a)) 1 w K=K (.pointer (some (a.add 1))) w:=yf qm0 a
theorem Uh:fieldB PP zP 0 0=true:=by kernel_rfl
@[push_cast] theorem Zi0 {w:World} {K:Value→World→Prop} (a:Addr):zi PP zP (.pointer (some a)) 0 w K=K (.pointer (some (a.add 0))) w:=yf Uh a
theorem Ug:fieldB PP zP 1 1=true:=by kernel_rfl
@[push_cast] theorem Zh0 {w:World} {K:Value→World→Prop} (a:Addr):zi PP zP (.pointer (some a)) 1 w K=K (.pointer (some (a.add 1))) w:=yf Ug a
theorem Uf:fieldB PP zP 2 2=true:=by kernel_rfl
@[push_cast] theorem Zg0 {w:World} {K:Value→World→Prop} (a:Addr):zi PP zP (.pointer (some a)) 2 w K=K (.pointer (some (a.add 2))) w:=yf Uf a
theorem Ue:fieldB PP zP 3 3=true:=by kernel_rfl
@[push_cast] theorem Zf0 {w:World} {K:Value→World→Prop} (a:Addr):zi PP zP (.pointer (some a)) 3 w K=K (.pointer (some (a.add 3))) w:=yf Ue a
theorem Ud:fieldB PP y0 0 0=true:=by kernel_rfl
@[push_cast] theorem Ze0 {w:World} {K:Value→World→Prop} (a:Addr):zi PP y0 (.pointer (some a)) 0 w K=K (.pointer (some (a.add 0))) w:=yf Ud a
theorem Uc:fieldB PP y0 1 1=true:=by kernel_rfl
@[push_cast] theorem Zd0 {w:World} {K:Value→World→Prop} (a:Addr):zi PP y0 (.pointer (some a)) 1 w K=K (.pointer (some (a.add 1))) w:=yf Uc a
theorem Ub:fieldB PP zM 0 0=true:=by kernel_rfl
@[push_cast] theorem Zc0 {w:World} {K:Value→World→Prop} (a:Addr):zi PP zM (.pointer (some a)) 0 w K=K (.pointer (some (a.add 0))) w:=yf Ub a
theorem Ua:fieldB PP zM 1 2=true:=by kernel_rfl
@[push_cast] theorem Zb0 {w:World} {K:Value→World→Prop} (a:Addr):zi PP zM (.pointer (some a)) 1 w K=K (.pointer (some (a.add 2))) w:=yf Ua a
theorem yO0:fieldB PP ze 0 0=true:=by kernel_rfl
@[push_cast] theorem YH0 {w:World} {K:Value→World→Prop} (a:Addr):zi PP ze (.pointer (some a)) 0 w K=K (.pointer (some (a.add 0))) w:=yf yO0 a
theorem yN0:fieldB PP ze 1 2=true:=by kernel_rfl
@[push_cast] theorem YG0 {w:World} {K:Value→World→Prop} (a:Addr):zi PP ze (.pointer (some a)) 1 w K=K (.pointer (some (a.add 2))) w:=yf yN0 a
theorem qj0:fieldB PP zd 0 0=true:=by kernel_rfl
@[push_cast] theorem XC0 {w:World} {K:Value→World→Prop} (a:Addr):zi PP zd (.pointer (some a)) 0 w K=K (.pointer (some (a.add 0))) w:=yf qj0 a
theorem qi0:fieldB PP zd 1 1=true:=by kernel_rfl
@[push_cast] theorem XB0 {w:World} {K:Value→World→Prop} (a:Addr):zi PP zd (.pointer (some a)) 1 w K=K (.pointer (some (a.add 1))) w:=yf qi0 a
theorem yW0:fieldB PP zo 0 0=true:=by kernel_rfl
@[push_cast] theorem YP0 {w:World} {K:Value→World→Prop} (a:Addr):zi PP zo (.pointer (some a)) 0 w K=K (.pointer (some (a.add 0))) w:=yf yW0 a
theorem yV0:fieldB PP zo 1 1=true:=by kernel_rfl
@[push_cast] theorem YO0 {w:World} {K:Value→World→Prop} (a:Addr):zi PP zo (.pointer (some a)) 1 w K=K (.pointer (some (a.add 1))) w:=yf yV0 a
theorem yU0:fieldB PP zo 2 2=true:=by kernel_rfl
@[push_cast] theorem YN0 {w:World} {K:Value→World→Prop} (a:Addr):zi PP zo (.pointer (some a)) 2 w K=K (.pointer (some (a.add 2))) w:=yf yU0 a
theorem y90:fieldB PP zZ 0 0=true:=by kernel_rfl
@[push_cast] theorem Yg0 {w:World} {K:Value→World→Prop} (a:Addr):zi PP zZ (.pointer (some a)) 0 w K=K (.pointer (some (a.add 0))) w:=yf y90 a
theorem y80:fieldB PP zZ 1 1=true:=by kernel_rfl
@[push_cast] theorem Yf0 {w:World} {K:Value→World→Prop} (a:Addr):zi PP zZ (.pointer (some a)) 1 w K=K (.pointer (some (a.add 1))) w:=yf y80 a
theorem y70:fieldB PP zZ 2 2=true:=by kernel_rfl
@[push_cast] theorem Ye0 {w:World} {K:Value→World→Prop} (a:Addr):zi PP zZ (.pointer (some a)) 2 w K=K (.pointer (some (a.add 2))) w:=yf y70 a
theorem y60:fieldB PP y8 0 0=true:=by kernel_rfl
@[push_cast] theorem Jo {w:World} {K:Value→World→Prop} (a:Addr):zi PP y8 (.pointer (some a)) 0 w K=K (.pointer (some (a.add 0))) w:=yf y60 a
theorem y50:fieldB PP y8 1 1=true:=by kernel_rfl
@[push_cast] theorem yd0 {w:World} {K:Value→World→Prop} (a:Addr):zi PP y8 (.pointer (some a)) 1 w K=K (.pointer (some (a.add 1))) w:=yf y50 a
theorem yb0:fieldB PP yd 0 0=true:=by kernel_rfl
@[push_cast] theorem Yi0 {w:World} {K:Value→World→Prop} (a:Addr):zi PP yd (.pointer (some a)) 0 w K=K (.pointer (some (a.add 0))) w:=yf yb0 a
theorem ya0:fieldB PP yd 1 1=true:=by kernel_rfl
@[push_cast] theorem Yh0 {w:World} {K:Value→World→Prop} (a:Addr):zi PP yd (.pointer (some a)) 1 w K=K (.pointer (some (a.add 1))) w:=yf ya0 a
theorem W8:fieldB PP zE 1 2=true:=by kernel_rfl
@[push_cast] theorem kQ0 {w:World} {K:Value→World→Prop} (a:Addr):zi PP zE (.pointer (some a)) 1 w K=K (.pointer (some (a.add 2))) w:=yf W8 a
@[push_cast] theorem X00 {w:World} {K:Value→World→Prop} (b a:Value):ZD0 PP zd (.agg ⟨[b,a]⟩) 1 w K=K a w:=yC (by kernel_rfl)
noncomputable def mn_kids:String:=match PP.info? 208 with|some i=>(match i.methods[0]? with|some m=>m.name|none=>default)|none=>default
noncomputable def Yb:String:=match PP.info? 208 with|some i=>(match i.methods[1]? with|some m=>m.name|none=>default)|none=>default
noncomputable def ky:String:=match PP.info? 208 with|some i=>(match i.methods[2]? with|some m=>m.name|none=>default)|none=>default
noncomputable def Qe:String:=match PP.info? 208 with|some i=>(match i.methods[3]? with|some m=>m.name|none=>default)|none=>default
theorem Yo0:concB PP zN=true:=by kernel_rfl
@[push_cast] theorem J80 {w:World} {K:Value→World→Prop} (v:Value):KC PP zN v w K=K (.iface zN v) w:=X1 Yo0 v
theorem qI:concB PP zQ=true:=by kernel_rfl
@[push_cast] theorem YE0 {w:World} {K:Value→World→Prop} (v:Value):KC PP zQ v w K=K (.iface zQ v) w:=X1 qI v
theorem Vp (a b:Value) (w:World):(method (PP.types.size+Made.depth) zQ (.agg ⟨[a,b]⟩) mn_kids).run PP w= .ok (yz,.agg ⟨[a,b]⟩) w:=by kernel_rfl
theorem Vo (a b:Value) (w:World):(method (PP.types.size+Made.depth) zQ (.agg ⟨[a,b]⟩) Yb).run PP w= .ok (kf,.agg ⟨[a,b]⟩) w:=by kernel_rfl
theorem K7 (a b:Value) (w:World):(method (PP.types.size+Made.depth) zQ (.agg ⟨[a,b]⟩) ky).run PP w= .ok (jF,.agg ⟨[a,b]⟩) w:=by kernel_rfl
theorem Vn (a b:Value) (w:World):(method (PP.types.size+Made.depth) zQ (.agg ⟨[a,b]⟩) Qe).run PP w= .ok (yK,.agg ⟨[a,b]⟩) w:=by kernel_rfl
theorem j6:concB PP zX=true:=by kernel_rfl
@[push_cast] theorem ZW0 {w:World} {K:Value→World→Prop} (v:Value):KC PP zX v w K=K (.iface zX v) w:=X1 j6 v
theorem Kh (a b:Value) (w:World):(method (PP.types.size+Made.depth) zX (.agg ⟨[a,b]⟩) mn_kids).run PP w= .ok (yz,.agg ⟨[a,b]⟩) w:=by kernel_rfl
theorem Kg (a b:Value) (w:World):(method (PP.types.size+Made.depth) zX (.agg ⟨[a,b]⟩) Yb).run PP w= .ok (jL,.agg ⟨[a,b]⟩) w:=by kernel_rfl
theorem Je (a b:Value) (w:World):(method (PP.types.size+Made.depth) zX (.agg ⟨[a,b]⟩) ky).run PP w= .ok (jo,.agg ⟨[a,b]⟩) w:=by kernel_rfl
theorem Kf (a b:Value) (w:World):(method (PP.types.size+Made.depth) zX (.agg ⟨[a,b]⟩) Qe).run PP w= .ok (yK,.agg ⟨[a,b]⟩) w:=by kernel_rfl
theorem Ye:concB PP zL=true:=by kernel_rfl
@[push_cast] theorem ZV0 {w:World} {K:Value→World→Prop} (v:Value):KC PP zL v w K=K (.iface zL v) w:=X1 Ye v
theorem Ke (a b:Value) (w:World):(method (PP.types.size+Made.depth) zL (.agg ⟨[a,b]⟩) mn_kids).run PP w= .ok (yz,.agg ⟨[a,b]⟩) w:=by kernel_rfl
theorem Kd (a b:Value) (w:World):(method (PP.types.size+Made.depth) zL (.agg ⟨[a,b]⟩) Yb).run PP w= .ok (jK,.agg ⟨[a,b]⟩) w:=by kernel_rfl
theorem Jd (a b:Value) (w:World):(method (PP.types.size+Made.depth) zL (.agg ⟨[a,b]⟩) ky).run PP w= .ok (jn,.agg ⟨[a,b]⟩) w:=by kernel_rfl
theorem Kc (a b:Value) (w:World):(method (PP.types.size+Made.depth) zL (.agg ⟨[a,b]⟩) Qe).run PP w= .ok (yK,.agg ⟨[a,b]⟩) w:=by kernel_rfl
theorem yX:concB PP zT=true:=by kernel_rfl
@[push_cast] theorem ZT0 {w:World} {K:Value→World→Prop} (v:Value):KC PP zT v w K=K (.iface zT v) w:=X1 yX v
theorem K6 (a b:Value) (w:World):(method (PP.types.size+Made.depth) zT (.agg ⟨[a,b]⟩) mn_kids).run PP w= .ok (yz,.agg ⟨[a,b]⟩) w:=by kernel_rfl
theorem K5 (a b:Value) (w:World):(method (PP.types.size+Made.depth) zT (.agg ⟨[a,b]⟩) Yb).run PP w= .ok (jE,.agg ⟨[a,b]⟩) w:=by kernel_rfl
theorem J9 (a b:Value) (w:World):(method (PP.types.size+Made.depth) zT (.agg ⟨[a,b]⟩) ky).run PP w= .ok (jk,.agg ⟨[a,b]⟩) w:=by kernel_rfl
theorem yY:concB PP zO=true:=by kernel_rfl
@[push_cast] theorem Zt0 {w:World} {K:Value→World→Prop} (v:Value):KC PP zO v w K=K (.iface zO v) w:=X1 yY v
theorem Jb (a b:Value) (w:World):(method (PP.types.size+Made.depth) zO (.agg ⟨[a,b]⟩) mn_kids).run PP w= .ok (yz,.agg ⟨[a,b]⟩) w:=by kernel_rfl
theorem Ja (a b:Value) (w:World):(method (PP.types.size+Made.depth) zO (.agg ⟨[a,b]⟩) Yb).run PP w= .ok (jl,.agg ⟨[a,b]⟩) w:=by kernel_rfl
theorem QC (a b:Value) (w:World):(method (PP.types.size+Made.depth) zO (.agg ⟨[a,b]⟩) ky).run PP w= .ok (j0,.agg ⟨[a,b]⟩) w:=by kernel_rfl
theorem xN:concB PP zR=true:=by kernel_rfl
@[push_cast] theorem ZU0 {w:World} {K:Value→World→Prop} (v:Value):KC PP zR v w K=K (.iface zR v) w:=X1 xN v
theorem Kb (a b:Value) (w:World):(method (PP.types.size+Made.depth) zR (.agg ⟨[a,b]⟩) mn_kids).run PP w= .ok (yz,.agg ⟨[a,b]⟩) w:=by kernel_rfl
theorem Ka (a b:Value) (w:World):(method (PP.types.size+Made.depth) zR (.agg ⟨[a,b]⟩) Yb).run PP w= .ok (jJ,.agg ⟨[a,b]⟩) w:=by kernel_rfl
theorem Jc (a b:Value) (w:World):(method (PP.types.size+Made.depth) zR (.agg ⟨[a,b]⟩) ky).run PP w= .ok (jm,.agg ⟨[a,b]⟩) w:=by kernel_rfl
theorem K9 (a b:Value) (w:World):(method (PP.types.size+Made.depth) zR (.agg ⟨[a,b]⟩) Qe).run PP w= .ok (yK,.agg ⟨[a,b]⟩) w:=by kernel_rfl
theorem qn:concB PP zY=true:=by kernel_rfl
@[push_cast] theorem YF0 {w:World} {K:Value→World→Prop} (v:Value):KC PP zY v w K=K (.iface zY v) w:=X1 qn v
theorem Vs (a b:Value) (w:World):(method (PP.types.size+Made.depth) zY (.agg ⟨[a,b]⟩) mn_kids).run PP w= .ok (yz,.agg ⟨[a,b]⟩) w:=by kernel_rfl
theorem Vr (a b:Value) (w:World):(method (PP.types.size+Made.depth) zY (.agg ⟨[a,b]⟩) Yb).run PP w= .ok (ki,.agg ⟨[a,b]⟩) w:=by kernel_rfl
theorem K8 (a b:Value) (w:World):(method (PP.types.size+Made.depth) zY (.agg ⟨[a,b]⟩) ky).run PP w= .ok (jH,.agg ⟨[a,b]⟩) w:=by kernel_rfl
theorem Vq (a b:Value) (w:World):(method (PP.types.size+Made.depth) zY (.agg ⟨[a,b]⟩) Qe).run PP w= .ok (yK,.agg ⟨[a,b]⟩) w:=by kernel_rfl
theorem Qv:concB PP zE=true:=by kernel_rfl
@[push_cast] theorem Zu0 {w:World} {K:Value→World→Prop} (v:Value):KC PP zE v w K=K (.iface zE v) w:=X1 Qv v
theorem Jh (a b c:Value) (w:World):(method (PP.types.size+Made.depth) zE (.agg ⟨[a,b,c]⟩) mn_kids).run PP w= .ok (yz,.agg ⟨[a,b]⟩) w:=by kernel_rfl
theorem Jg (a b c:Value) (w:World):(method (PP.types.size+Made.depth) zE (.agg ⟨[a,b,c]⟩) Yb).run PP w= .ok (jq,.agg ⟨[a,b,c]⟩) w:=by kernel_rfl
theorem QD (a b c:Value) (w:World):(method (PP.types.size+Made.depth) zE (.agg ⟨[a,b,c]⟩) ky).run PP w= .ok (j4,.agg ⟨[a,b,c]⟩) w:=by kernel_rfl
theorem Jf (a b c:Value) (w:World):(method (PP.types.size+Made.depth) zE (.agg ⟨[a,b,c]⟩) Qe).run PP w= .ok (yK,.agg ⟨[a,b]⟩) w:=by kernel_rfl
theorem j7:concB PP zU=true:=by kernel_rfl
@[push_cast] theorem ZX0 {w:World} {K:Value→World→Prop} (v:Value):KC PP zU v w K=K (.iface zU v) w:=X1 j7 v
theorem Kk (a b:Value) (w:World):(method (PP.types.size+Made.depth) zU (.agg ⟨[a,b]⟩) mn_kids).run PP w= .ok (yz,.agg ⟨[a,b]⟩) w:=by kernel_rfl
theorem Kj (a b:Value) (w:World):(method (PP.types.size+Made.depth) zU (.agg ⟨[a,b]⟩) Yb).run PP w= .ok (jO,.agg ⟨[a,b]⟩) w:=by kernel_rfl
theorem Ji (a b:Value) (w:World):(method (PP.types.size+Made.depth) zU (.agg ⟨[a,b]⟩) ky).run PP w= .ok (jr,.agg ⟨[a,b]⟩) w:=by kernel_rfl
theorem Ki (a b:Value) (w:World):(method (PP.types.size+Made.depth) zU (.agg ⟨[a,b]⟩) Qe).run PP w= .ok (yK,.agg ⟨[a,b]⟩) w:=by kernel_rfl
end Go.Proofs.YtaekfnbnhjgboaaGreatDoor
end
section
namespace Go.Proofs.YtaekfnbnhjgboaaGreatDoor
open Go Go.Vc Go.Proofs
variable {v0 v1 v2 v3 v4 v5 v6 v7 v8:Value} {w:World} {R:Value→World→Prop}
theorem Uk (h:x5 (fun a=>vbi PP .len [y3] zb [v0] w fun b c=>zr PP .gtr zb true b (.int .i64 1048576) c fun b c=>vif b (R (.bool true) c) (vbi PP .len [y3] zb [v1] c fun b c=>zr PP .gtr zb true b (.int .i64 1048576) c fun b c=>vif b (R (.bool true) c) (a [] c))) (fun _ _ a=>vcall PP jD #[v0] a fun a b=>zj PP a 0 b fun b c=>zj PP a 1 c fun a c=>vcall PP Ya #[b,a] c fun c d=>zj PP c 0 d fun d e=>zj PP c 1 e fun c e=>y1 PP zm e fun e f=>zt PP zm e d f fun _ d=>vcall PP ZZ #[b,a] d fun d f=>zj PP d 0 f fun f g=>zj PP d 1 g fun d g=>y1 PP zm g fun g h=>zt PP zm g f h fun _ f=>x5 (fun h=>zf PP zm e f fun f i=>zf PP zm g i fun g i=>vcall PP Z5 #[f,g] i fun f g=>vun PP .not f g fun f g=>vif f (R (.bool false) g) (zr PP .neq xr false c d g fun d f=>vif d (R (.bool false) f) (h [] f))) (fun _ _ d=>vun PP .not c d fun c d=>vif c (zf PP zm e d fun c f=>zH PP zm [] f fun f g=>vcall PP Z5 #[c,f] g fun c f=>R c f) (vcall PP Z4 #[b] d fun c d=>yr [(.int .i64 0)] d fun d f _ g=>zr PP .lss zb true (sl 0 f) (.int .i64 6) g fun g h=>vif g (vcall PP ZJ #[v1] h fun g i=>zr PP .mul zb true (.int .i64 53) (sl 0 f) i fun i j=>zr PP .add zb false g i j fun g i=>zr PP .rem zb false g c i fun c g=>vcall PP ZO #[b,c] g fun c g=>zj PP c 0 g fun g i=>zj PP c 1 i fun _ c=>vcall PP Y9 #[b,g] c fun c i=>vbuildS PP zg 0 [] i fun i j=>yr [i,(.int .i64 0)] j fun i j _ k=>vbi PP .len [jc] zb [c] k fun k l=>zr PP .lss zb false (sl 1 j) k l fun k l=>vif k (zp PP jc c (sl 1 j) l fun c k=>zf PP xr c k fun c k=>vif c (zr PP .add zb true (.int .i64 2) (sl 1 j) k fun c m=>vbuildS PP zg 1 [(0,c)] m fun c m=>vbi PP .append [zg,zg] zg [(sl 0 j),c] m fun c m=>zr PP .add zb true (sl 1 j) (.int .i64 1) m fun m n=>i [c,m] n) (zr PP .sub zb true (.int .i64 (-2)) (sl 1 j) k fun c k=>vbuildS PP zg 1 [(0,c)] k fun c k=>vbi PP .append [zg,zg] zg [(sl 0 j),c] k fun c k=>zr PP .add zb true (sl 1 j) (.int .i64 1) k fun k m=>i [c,k] m)) (yr [(.bool true),(.int .i64 0)] l fun c i _ k=>vbi PP .len [zl] zb [a] k fun k l=>zr PP .lss zb false (sl 1 i) k l fun k l=>vif k (zp PP zl a (sl 1 i) l fun a k=>zf PP za a k fun a k=>vcall PP Y8 #[b,a,g] k fun a b=>zj PP a 0 b fun b g=>zj PP a 1 g fun _ a=>vif (sl 0 i) (zr PP .eql zb true b (.int .i64 1) a fun b g=>zr PP .add zb true (sl 1 i) (.int .i64 1) g fun g k=>c [b,g] k) (zr PP .add zb true (sl 1 i) (.int .i64 1) a fun a b=>c [(.bool false),a] b)) (zf PP zm e l fun a b=>vcall PP Xi #[a,(sl 0 j)] b fun a b=>zj PP a 0 b fun b c=>zj PP a 1 c fun a c=>zr PP .eql xr false a (sl 0 i) c fun a c=>vif a (R (.bool false) c) (vif (sl 0 i) (vbi PP .len [zg] zb [b] c fun a b=>zi PP zm e 0 b fun b g=>zf PP zb b g fun b g=>zr PP .neq zb false a b g fun a b=>vif a (R (.bool false) b) (zr PP .add zb true (sl 0 f) (.int .i64 1) b fun a b=>d [a] b)) (zr PP .add zb true (sl 0 f) (.int .i64 1) c fun a b=>d [a] b))))) (zf PP zm e h fun a b=>vcall PP YK #[a] b fun a b=>R a b))))):vcall PP Xs #[v0,v1] w R:=zq {loops:=[(12,[12]),(18,[16,17]),(25,[18,19])],cuts:=[(8195,[]),(28680,[])]} Tryz.func8 (by kernel_rfl) (by kernel_rfl) h
theorem qK0 (h:vbi PP .len [zu] zb [v0] w fun a b=>zr PP .gtr zb true a (.int .i64 4) b fun a b=>vif a (R (.bool false) b) (yr [(.int .i64 0),(.int .i64 0)] b fun a b _ c=>vbi PP .len [zu] zb [v0] c fun c d=>zr PP .lss zb false (sl 1 b) c d fun c d=>vif c (y4 d fun c=>zp PP zu v0 (sl 1 b) c fun e f=>f=c∧zi PP zz e 0 c fun e f=>f=c∧zf PP zN e c fun e f=>f=c∧vcall PP Q8 #[e] c fun c e=>vun PP .not c e fun c f=>f=e∧vif c (R (.bool false) e) (zp PP zu v0 (sl 1 b) e fun c f=>f=e∧zi PP zz c 1 e fun c f=>f=e∧zf PP zb c e fun c f=>f=e∧zr PP .lss zb true c (.int .i64 1) e fun c f=>f=e∧vif c (R (.bool false) e) (zp PP zu v0 (sl 1 b) e fun c f=>f=e∧zi PP zz c 1 e fun c f=>f=e∧zf PP zb c e fun c f=>f=e∧zr PP .gtr zb true c (.int .i64 4) e fun c f=>f=e∧vif c (R (.bool false) e) (yy PP zu v0 none (some (sl 1 b)) none e fun c f=>f=e∧zp PP zu v0 (sl 1 b) e fun f g=>g=e∧zi PP zz f 0 e fun f g=>g=e∧zf PP zN f e fun f g=>g=e∧vcall PP ka #[c,f] e fun c e=>zr PP .geq zb true c (.int .i64 0) e fun c f=>f=e∧vif c (R (.bool false) e) (zp PP zu v0 (sl 1 b) e fun c e=>zi PP zz c 1 e fun c e=>zf PP zb c e fun c e=>zr PP .add zb false (sl 0 b) c e fun c e=>zr PP .add zb true (sl 1 b) (.int .i64 1) e fun e f=>a [c,e] f))))) (zr PP .leq zb true (sl 0 b) (.int .i64 8) d fun a b=>R a b))):vcall PP ZI #[v0] w R:=zq {ord:=[(7,[0,1,2,3,4,5,6,7,8,9,10,11,12,13,14,15,16,17,18,19,20,21,22,23,24,25,26,27,28,29,30,31,32,33,34],[(0,[2,3,4,5,6,7,8,9,10,11,12,13,14,15,16,17,18,19,20,21,22,23,24,25,26,27,28,29,30,31,32,33,34]),(1,[2,3,4,5,6,7,8,9,10,11,12,13,14,15,16,17,18,19,20,21,22,23,24,25,26,27,28,29,30,31,32,33,34]),(2,[3,4,5,6,7,8,9,10,11,12,13,14,15,16,17,18,19,20,21,22,23,24,25,26,27,28,29,30,31,32,33,34]),(3,[4,5,6,7,8,9,10,11,12,13,14,15,16,17,18,19,20,21,22,23,24,25,26,27,28,29,30,31,32,33,34]),(4,[5,6,7,8,9,10,11,12,13,14,15,16,17,18,19,20,21,22,23,24,25,26,27,28,29,30,31,32,33,34]),(5,[6,7,8,9,10,11,12,13,14,15,16,17,18,19,20,21,22,23,24,25,26,27,28,29,30,31,32,33,34]),(6,[7,8,9,10,11,12,13,14,15,16,17,18,19,20,21,22,23,24,25,26,27,28,29,30,31,32,33,34]),(7,[8,9,10,11,12,13,14,15,16,17,18,19,20,21,22,23,24,25,26,27,28,29,30,31,32,33,34]),(8,[10,11,12,13,14,15,16,17,18,19,20,21,22,23,24,25,26,27,28,29,30,31,32,33,34]),(9,[10,11,12,13,14,15,16,17,18,19,20,21,22,23,24,25,26,27,28,29,30,31,32,33,34]),(10,[11,12,13,14,15,16,17,18,19,20,21,22,23,24,25,26,27,28,29,30,31,32,33,34]),(11,[12,13,14,15,16,17,18,19,20,21,22,23,24,25,26,27,28,29,30,31,32,33,34]),(12,[13,14,15,16,17,18,19,20,21,22,23,24,25,26,27,28,29,30,31,32,33,34]),(13,[14,15,16,17,18,19,20,21,22,23,24,25,26,27,28,29,30,31,32,33,34]),(14,[15,16,17,18,19,20,21,22,23,24,25,26,27,28,29,30,31,32,33,34]),(15,[16,17,18,19,20,21,22,23,24,25,26,27,28,29,30,31,32,33,34]),(16,[18,19,20,21,22,23,24,25,26,27,28,29,30,31,32,33,34]),(17,[18,19,20,21,22,23,24,25,26,27,28,29,30,31,32,33,34]),(18,[19,20,21,22,23,24,25,26,27,28,29,30,31,32,33,34]),(19,[20,21,22,23,24,25,26,27,28,29,30,31,32,33,34]),(20,[21,22,23,24,25,26,27,28,29,30,31,32,33,34]),(21,[22,23,24,25,26,27,28,29,30,31,32,33,34]),(22,[23,24,25,26,27,28,29,30,31,32,33,34]),(23,[24,25,26,27,28,29,30,31,32,33,34]),(24,[26,32,33,34]),(25,[26,32,33,34]),(26,[32,33,34]),(27,[29,30,31,32,33,34]),(28,[29,30,31,32,33,34]),(29,[30,31,32,33,34]),(30,[31,32,33,34]),(31,[32,33,34]),(32,[33,34]),(33,[34])])],loops:=[(5,[3,4])]} Tryz.func13 (by kernel_rfl) (by kernel_rfl) h
theorem yo0 (h:y1 PP zm w fun a b=>vcall PP QT #[v0,v1] b fun b c=>vun PP .not b c fun b c=>vif b (zH PP zm [] c fun b d=>zt PP zm a b d fun _ b=>vlv PP zm a b fun b d=>R (.tuple #[b,(.bool false)]) d) (vcall PP QS #[v0,v1] c fun b c=>zj PP b 0 c fun c d=>zj PP b 1 d fun b d=>zt PP zm a c d fun _ c=>vlv PP zm a c fun a c=>R (.tuple #[a,b]) c)):vcall PP ZZ #[v0,v1] w R:=zq {} Tryz.func31 (by kernel_rfl) (by kernel_rfl) h
theorem yB0 (h:y1 PP zm w fun a b=>vcall PP Y5 #[v0,v1] b fun b c=>zj PP b 0 c fun c d=>zj PP b 1 d fun b d=>y1 PP zm d fun d e=>zt PP zm d c e fun _ c=>y4 c fun c=>zf PP zm d c fun d e=>e=c∧zr PP .eql ye true b .nilIface c fun e f=>f=c∧zt PP zm a d c fun _ c=>(zr PP .eql ye true b .nilIface c fun b d=>b=e∧d=c)∧vlv PP zm a c fun a b=>R (.tuple #[a,e]) b):vcall PP Ya #[v0,v1] w R:=zq {ord:=[(2,[0,1,2,3,4],[(0,[3,4]),(1,[2,4]),(2,[4]),(3,[4])])]} Tryz.func33 (by kernel_rfl) (by kernel_rfl) h
theorem ym0 (h:yG PP za v1 w fun a b=>zf PP za a b fun b c=>vcall PP qY #[b] c fun b c=>zj PP b 0 c fun c d=>zj PP b 1 d fun b d=>vcall PP ZI #[v0] d fun d e=>vun PP .not d e fun d e=>vif d (R (.int .i64 (-1)) e) (zr PP .gtr zb true c (.int .i64 20) e fun c d=>vif c (R (.int .i64 (-1)) d) (zr PP .gtr zb true b (.int .i64 7) d fun b c=>vif b (R (.int .i64 (-1)) c) (zf PP za a c fun a b=>vcall PP je #[v0,a] b fun a b=>R a b)))):vcall PP qX #[v0,v1] w R:=zq {} Tryz.func40 (by kernel_rfl) (by kernel_rfl) h
theorem xn0 (h:vcall PP ji #[v0] w fun a b=>vun PP .not a b fun a b=>vif a (R (.int .i64 0) b) (vbi PP .len [zu] zb [v0] b fun a b=>yr [(.int .i64 0),(.int .i64 0)] b fun b c _ d=>zr PP .lss zb false (sl 1 c) a d fun a d=>vif a (zp PP zu v0 (sl 1 c) d fun a e=>zf PP zz a e fun a e=>y1 PP zz e fun e f=>zt PP zz e a f fun _ a=>zi PP zz e 1 a fun a e=>zf PP zb a e fun a e=>zr PP .add zb false (sl 0 c) a e fun a e=>zr PP .add zb true (sl 1 c) (.int .i64 1) e fun e f=>b [a,e] f) (zr PP .shl zb true (.int .i64 1) (sl 0 c) d fun a b=>R a b))):vcall PP Z4 #[v0] w R:=zq {loops:=[(5,[3,11])]} Tryz.func41 (by kernel_rfl) (by kernel_rfl) h
end Go.Proofs.YtaekfnbnhjgboaaGreatDoor
end
section
namespace Go.Proofs.YtaekfnbnhjgboaaGreatDoor
open Go Go.Vc Go.Proofs
variable {v0 v1 v2 v3 v4 v5 v6 v7 v8:Value} {w:World} {R:Value→World→Prop}
def Qr (P:Program) (v0 v1:Value) (w:World) (R:Value→World→Prop):Prop:=yG P zb v1 w fun a b=>y1 P zg b fun b c=>y1 P xr c fun c d=>y4 d fun d=>zf P zb a d fun e f=>f=d∧zr P .lss zb true e (.int .i64 0) d fun e f=>f=d∧vif e (zt P zg b (.slice none 0 0) d fun _ e=>zt P xr c (.bool false) e fun _ e=>vlv P zg b e fun e f=>vlv P xr c f fun f g=>R (.tuple #[e,f]) g) (zf P zb a d fun e f=>f=d∧vcall P Z4 #[v0] d fun d f=>(zf P zb a f fun g h=>g=e∧h=f)∧zr P .geq zb false e d f fun d e=>e=f∧vif d (zt P zg b (.slice none 0 0) f fun _ d=>zt P xr c (.bool false) d fun _ d=>vlv P zg b d fun d e=>vlv P xr c e fun e g=>R (.tuple #[d,e]) g) (vcall P Y2 #[v0] f fun d e=>Qg0 P d 1 0 e (fun d e f g _ h=>e h fun e=>zf P zb a e fun e h=>zr P .eql zb true e (.int .i64 0) h fun e h=>vif e (vcall P qx #[(sl 0 d)] h fun d e=>zt P zg b d e fun _ d=>zt P xr c (.bool true) d fun _ d=>g d) (zf P zb a h fun d e=>zr P .sub zb true d (.int .i64 1) e fun d e=>zt P zb a d e fun _ a=>f a)) (fun a d=>zt P zg b (.slice none 0 0) d fun _ d=>zt P xr c (.bool false) d fun _ d=>xQ0 a d fun a=>vlv P zg b a fun a d=>vlv P xr c d fun d e=>R (.tuple #[a,d]) e) (fun a d=>xQ0 a d fun a=>vlv P zg b a fun a d=>vlv P xr c d fun d e=>R (.tuple #[a,d]) e) (fun a d=>zt P zg b (.slice none 0 0) d fun _ d=>zt P xr c (.bool false) d fun _ d=>xQ0 a d fun a=>vlv P zg b a fun a b=>vlv P xr c b fun b c=>R (.tuple #[a,b]) c)))
def U2:Ann:={ord:=[(1,[0,1,2,3,4,5,6,7],[(0,[1,2,3,4,5,6,7]),(1,[2,3,4,5,6,7]),(2,[3,4,5,6,7]),(3,[6,7]),(4,[5,6,7]),(5,[6,7]),(6,[7])])],loops:=[],cuts:=[]}
theorem q90 (v0 v1:Value) (w:World) (R:Value→World→Prop):vx PP U2 0 ((Tryz.f42.body).getD .skip) (retF PP Tryz.f42.results.toList R) (retM PP Tryz.f42.results.toList R) (nthV [v0,v1]) w=Qr PP v0 v1 w R:=by kernel_rfl
theorem qV0 {v0 v1:Value} {w:World} {R:Value→World→Prop} (h:Qr PP v0 v1 w R):vcall PP ZO #[v0,v1] w R:=
 UP (T:=U2) (x:=0) (c:=(Tryz.f42.body).getD .skip) (n:=24) mixed Tryz.func42 rfl rfl (by kernel_rfl) (by kernel_rfl) rfl (by rw[q90];exact h)
theorem qL0 (h:vbi PP .len [y3] zb [v0] w fun a b=>yr [a,(.int .i64 0)] b fun a b _ c=>x5 (fun d=>vbi PP .len [y3] zb [v0] c fun c e=>zr PP .lss zb false (sl 1 b) c e fun c e=>vif c (zr PP .lss zb true (sl 1 b) (.int .i64 40) e fun c f=>vif c (d [] f) (R (sl 0 b) f)) (R (sl 0 b) e)) (fun _ _ c=>zr PP .mul zb true (sl 0 b) (.int .i64 7) c fun c d=>zp PP y3 v0 (sl 1 b) d fun d e=>zf PP qC d e fun d e=>ZV PP qC zb d e fun d e=>zr PP .add zb false c d e fun c d=>zr PP .rem zb true c (.int .i64 4096) d fun c d=>zr PP .add zb true (sl 1 b) (.int .i64 1) d fun b d=>a [c,b] d)):vcall PP ZJ #[v0] w R:=zq {loops:=[(3,[3,4])],cuts:=[(16389,[])]} Tryz.func43 (by kernel_rfl) (by kernel_rfl) h
theorem yy0 (h:yG PP za v1 w fun a b=>zf PP za a b fun b c=>vcall PP ku #[v0,b] c fun b c=>zr PP .eql zb true b (.int .i64 (-1)) c fun b c=>vif b (R (.tuple #[(.int .i64 0),(.bool false)]) c) (vcall PP YJ #[v0,v2] c fun b c=>vun PP .not b c fun b c=>vif b (R (.tuple #[(.int .i64 0),(.bool false)]) c) (y4 c fun b=>zf PP za a b fun c d=>d=b∧vcall PP jV #[] b fun b d=>(zf PP za a d fun e f=>e=c∧f=d)∧vcall PP Qb #[v0,v2] d fun d g=>(zf PP za a g fun e f=>e=c∧f=g)∧vcall PP jy #[b,v0,c,d] g fun a b=>ZD0 PP zd a 1 b fun a c=>c=b∧R (.tuple #[a,(.bool true)]) b))):vcall PP Y8 #[v0,v1,v2] w R:=zq {ord:=[(3,[1,2,3,4,0,5,6,7,8,9],[(1,[6,7,8,9]),(2,[6,7,8,9]),(3,[5,6,7,8,9]),(4,[5,6,7,8,9]),(0,[5,6,7,8,9]),(5,[6,7,8,9]),(6,[7,8,9]),(7,[8,9]),(8,[9])])]} Tryz.func44 (by kernel_rfl) (by kernel_rfl) h
theorem yA0 (h:vcall PP YJ #[v0,v1] w fun a b=>vun PP .not a b fun a b=>vif a (R (.slice none 0 0) b) (vbi PP .len [zu] zb [v0] b fun a b=>yr [(.slice none 0 0),(.int .i64 0)] b fun b c _ d=>zr PP .lss zb false (sl 1 c) a d fun a d=>vif a (zp PP zu v0 (sl 1 c) d fun a e=>zf PP zz a e fun a e=>y1 PP zz e fun e f=>zt PP zz e a f fun _ a=>zi PP zz e 1 a fun a e=>zf PP zb a e fun a e=>zr PP .sub zb true a (.int .i64 1) e fun a e=>yr [(sl 0 c),a] e fun a e _ f=>zr PP .geq zb true (sl 1 e) (.int .i64 0) f fun f g=>vif f (zp PP zg v1 (sl 1 c) g fun f h=>zf PP zb f h fun f h=>ZV PP zb yc f h fun f h=>vcall PP qm #[f,(sl 1 e)] h fun f h=>vbuildS PP jc 1 [(0,f)] h fun f h=>vbi PP .append [jc,jc] jc [(sl 0 e),f] h fun f h=>zr PP .sub zb true (sl 1 e) (.int .i64 1) h fun h i=>a [f,h] i) (zr PP .add zb true (sl 1 c) (.int .i64 1) g fun a f=>b [(sl 0 e),a] f)) (R (sl 0 c) d))):vcall PP Y9 #[v0,v1] w R:=zq {loops:=[(5,[5,15]),(8,[5,8])]} Tryz.func46 (by kernel_rfl) (by kernel_rfl) h
theorem yw0 (h:yG PP za v1 w fun a b=>zf PP za a b fun b c=>vcall PP Y7 #[b] c fun b c=>zj PP b 0 c fun c d=>zj PP b 1 d fun _ b=>vcall PP ji #[v0] b fun b d=>vun PP .not b d fun b d=>vif b (R (.int .i64 (-1)) d) (zr PP .gtr zb true c (.int .i64 20) d fun b c=>vif b (R (.int .i64 (-1)) c) (y4 c fun b=>zf PP za a b fun c d=>d=b∧vcall PP jV #[] b fun b d=>(zf PP za a d fun a e=>a=c∧e=d)∧vcall PP kg #[b,v0,c] d fun a b=>R a b))):vcall PP ku #[v0,v1] w R:=zq {ord:=[(4,[1,2,0,3,4],[(1,[3,4]),(2,[3,4]),(0,[3,4]),(3,[4])])]} Tryz.func47 (by kernel_rfl) (by kernel_rfl) h
theorem Vv (h:vcall PP Xa #[v0] w fun a b=>vcall PP Q0 #[a] b fun a b=>zj PP a 0 b fun b c=>zj PP a 1 c fun a c=>R (.tuple #[b,a]) c):vcall PP jD #[v0] w R:=zq {} Tryz.func51 (by kernel_rfl) (by kernel_rfl) h
theorem xo0 (h:yG PP zm v0 w fun a b=>yG PP zm v1 b fun b c=>zi PP zm a 0 c fun c d=>zf PP zb c d fun c d=>zi PP zm b 0 d fun d e=>zf PP zb d e fun d e=>zr PP .eql zb false c d e fun c d=>vif c (zi PP zm a 1 d fun a c=>zf PP zC a c fun a c=>zi PP zm b 1 c fun b c=>zf PP zC b c fun b c=>vcall PP Zq #[a,b] c fun a b=>R a b) (R (.bool false) d)):vcall PP Z5 #[v0,v1] w R:=zq {} Tryz.func52 (by kernel_rfl) (by kernel_rfl) h
theorem xm0 (h:yG PP zm v0 w fun a b=>zf PP zm a b fun b c=>vcall PP YK #[b] c fun b c=>vun PP .not b c fun b c=>vif b (R (.tuple #[(.slice none 0 0),(.bool false)]) c) (zi PP zm a 0 c fun b c=>zf PP zb b c fun b c=>vcall PP Xb #[b,v1,(.func (.func YG) #[] #[])] c fun b c=>zj PP b 0 c fun c d=>zj PP b 1 d fun b d=>vun PP .not b d fun b d=>vif b (R (.tuple #[(.slice none 0 0),(.bool false)]) d) (zi PP zm a 1 d fun a b=>zf PP zC a b fun a b=>vbuildS PP K4 1 [(0,a)] b fun a b=>vcall PP kW #[c,a] b fun a b=>vnil PP c b fun b c=>zi PP zZ b 0 c fun b c=>zf PP zg b c fun b c=>R (.tuple #[b,a]) c))):vcall PP Xi #[v0,v1] w R:=zq {} Tryz.func53 (by kernel_rfl) (by kernel_rfl) h
theorem jS0 (h:yG PP zm v0 w fun a b=>zi PP zm a 0 b fun b c=>zf PP zb b c fun b c=>zr PP .lss zb true b (.int .i64 0) c fun b c=>vif b (R (.bool false) c) (zi PP zm a 0 c fun b c=>zf PP zb b c fun b c=>zr PP .gtr zb true b (.int .i64 700) c fun b c=>vif b (R (.bool false) c) (zi PP zm a 1 c fun b c=>zf PP zC b c fun b c=>vbi PP .len [zC] zb [b] c fun b c=>zr PP .gtr zb true b (.int .i64 2500) c fun b c=>vif b (R (.bool false) c) (zi PP zm a 1 c fun b c=>zf PP zC b c fun b c=>Zp0 PP (.func Xj) [] [a] c fun a c=>vcall PP xw #[b,a] c fun a b=>vun PP .not a b fun a b=>R a b)))):vcall PP YK #[v0] w R:=zq {} Tryz.func54 (by kernel_rfl) (by kernel_rfl) h
theorem x80 (h:vbi PP .len [y3] zb [v0] w fun a b=>zr PP .gtr zb true a (.int .i64 2000) b fun a b=>vif a (yy PP y3 v0 none (some (.int .i64 2000)) none b fun a c=>zH PP y8 [(0,a)] c fun a c=>yG PP y8 a c fun a c=>R a c) (zH PP y8 [(0,v0)] b fun a b=>yG PP y8 a b fun a b=>R a b)):vcall PP Xa #[v0] w R:=zq {} Tryz.func56 (by kernel_rfl) (by kernel_rfl) h
theorem Up (h:vcall PP Qc #[v0] w fun a b=>zH PP zk [(0,a)] b fun a b=>vcall PP Xc #[a] b fun a b=>zj PP a 0 b fun b c=>zj PP a 1 c fun _ a=>zH PP y0 [(0,b)] a fun a b=>yG PP y0 a b fun a b=>vcall PP jV #[] b fun b c=>YZ0 PP ya none c fun c d=>zH PP zP [(0,a),(1,v0),(2,b),(3,c)] d fun a b=>yG PP zP a b fun a b=>R a b):vcall PP kZ #[v0] w R:=zq {} Tryz.func57 (by kernel_rfl) (by kernel_rfl) h
theorem VK (h:yG PP za v1 w fun a b=>y4 b fun b=>vnil PP v0 b fun c d=>d=b∧zi PP zP c 2 b fun c d=>d=b∧zf PP zA c b fun c d=>d=b∧zf PP za a b fun d e=>e=b∧vcall PP ZL #[c,d] b fun b c=>vnil PP v0 c fun c d=>zi PP zP c 3 d fun c d=>zf PP ya c d fun c d=>Xl PP ya c b true d fun c d=>zj PP c 0 d fun d e=>zj PP c 1 e fun c e=>vif c (R d e) (zi PP za a 4 e fun c d=>zf PP zl c d fun c d=>vbi PP .len [zl] zb [c] d fun d e=>yr [(.slice none 0 0),(.int .i64 0)] e fun e f _ g=>zr PP .lss zb false (sl 1 f) d g fun d g=>vif d (zp PP zl c (sl 1 f) g fun c d=>zf PP za c d fun c d=>y1 PP za d fun d h=>zt PP za d c h fun _ c=>zf PP za d c fun c d=>vcall PP qA #[v0,c] d fun c d=>vbuildS PP zB 1 [(0,c)] d fun c d=>vbi PP .append [zB,zB] zB [(sl 0 f),c] d fun c d=>zr PP .add zb true (sl 1 f) (.int .i64 1) d fun d h=>e [c,d] h) (vnil PP v0 g fun c d=>zi PP zP c 0 d fun c d=>zf PP zS c d fun c d=>vnil PP c d fun c d=>zi PP y0 c 1 d fun c d=>zf PP ye c d fun c d=>zr PP .neq ye true c .nilIface d fun c d=>vif c (R (.slice none 0 0) d) (zf PP za a d fun a c=>vcall PP jN #[v0,a,(sl 0 f)] c fun a c=>vnil PP v0 c fun c d=>zi PP zP c 3 d fun c d=>zf PP ya c d fun c d=>Z7 PP ya c b a d fun _ b=>R a b)))):vcall PP qA #[v0,v1] w R:=zq {ord:=[(1,[0,1,2,3,4,5,6],[(0,[1,2,3,5,6]),(1,[2,3,5,6]),(2,[3,5,6]),(3,[5,6]),(4,[5,6]),(5,[6])])],loops:=[(7,[8,32])]} Tryz.func58 (by kernel_rfl) (by kernel_rfl) h
theorem kp0 (h:yG PP ze v0 w fun a b=>yG PP za v2 b fun b c=>y1 PP ze c fun c d=>vbuildS PP zC 0 [] d fun d e=>yr [d,(.int .i64 0)] e fun d e _ f=>zi PP za b 4 f fun f g=>zf PP zl f g fun f g=>vbi PP .len [zl] zb [f] g fun f g=>zr PP .lss zb false (sl 1 e) f g fun f g=>vif f (vbuildS PP zg 0 [] g fun _ f=>y4 f fun f=>zf PP ze a f fun h i=>i=f∧zi PP za b 4 f fun i j=>j=f∧zf PP zl i f fun i j=>j=f∧zp PP zl i (sl 1 e) f fun i j=>j=f∧zf PP za i f fun i j=>j=f∧vcall PP Q3 #[h,v1,i] f fun f h=>zj PP f 0 h fun i j=>j=h∧zj PP f 1 h fun j k=>k=h∧zt PP ze a i h fun _ h=>(zj PP f 1 h fun f i=>f=j∧i=h)∧vbuildS PP zC 1 [(0,j)] h fun h j=>vbi PP .append [zC,zC] zC [(sl 0 e),h] j fun h j=>zr PP .add zb true (sl 1 e) (.int .i64 1) j fun j k=>d [h,j] k) (vbi PP .len [zC] zb [(sl 0 e)] g fun d g=>zr PP .eql zb true d (.int .i64 0) g fun d g=>vif d (y4 g fun d=>zf PP ze a d fun h j=>j=d∧zf PP za b d fun j k=>k=d∧vcall PP Q2 #[v1,j] d fun d j=>(zf PP ze a j fun f i=>f=h∧i=j)∧zt PP ze c h j fun _ h=>vlv PP ze c h fun h j=>R (.tuple #[h,d]) j) (zi PP za b 0 g fun d g=>zf PP zb d g fun d g=>zr PP .eql zb true d (.int .i64 22) g fun d g=>vif d (y4 g fun d=>zf PP ze a d fun h j=>j=d∧zp PP zC (sl 0 e) (.int .i64 0) d fun j k=>k=d∧zf PP zg j d fun k l=>l=d∧zi PP za b 2 d fun l m=>m=d∧zf PP zb l d fun m n=>n=d∧zi PP za b 1 d fun n o=>o=d∧zf PP zb n d fun o p=>p=d∧zr PP .add zb true o (.int .i64 1) d fun p q=>q=d∧yy PP zg k (some m) (some p) none d fun q r=>r=d∧vbuildS PP zg 0 [] d fun d r=>(yy PP zg k (some m) (some p) none r fun f i=>f=q∧i=r)∧(zr PP .add zb true o (.int .i64 1) r fun f i=>f=p∧i=r)∧(zf PP zb n r fun f i=>f=o∧i=r)∧(zi PP za b 1 r fun f i=>f=n∧i=r)∧(zf PP zb l r fun f i=>f=m∧i=r)∧(zi PP za b 2 r fun f i=>f=l∧i=r)∧(zf PP zg j r fun f i=>f=k∧i=r)∧(zp PP zC (sl 0 e) (.int .i64 0) r fun f i=>f=j∧i=r)∧(zf PP ze a r fun f i=>f=h∧i=r)∧vbi PP .append [zg,zg] zg [d,q] r fun d j=>(zf PP ze a j fun f i=>f=h∧i=j)∧zt PP ze c h j fun _ h=>vlv PP ze c h fun h j=>R (.tuple #[h,d]) j) (zi PP za b 0 g fun d g=>zf PP zb d g fun d g=>zr PP .gtr zb true d (.int .i64 22) g fun d g=>vif d (zf PP ze a g fun d h=>zf PP za b h fun h j=>vcall PP X4 #[d,h,(sl 0 e)] j fun d h=>zj PP d 0 h fun h j=>zj PP d 1 j fun d j=>zt PP ze c h j fun _ h=>vlv PP ze c h fun h j=>R (.tuple #[h,d]) j) (vbi PP .len [zC] zb [(sl 0 e)] g fun d g=>zr PP .eql zb true d (.int .i64 1) g fun d g=>vif d (y4 g fun d=>zf PP ze a d fun h j=>j=d∧zi PP za b 0 d fun j k=>k=d∧zf PP zb j d fun j k=>k=d∧zp PP zC (sl 0 e) (.int .i64 0) d fun k l=>l=d∧zf PP zg k d fun k l=>l=d∧vcall PP Vl #[h,j,k] d fun d h=>zj PP d 0 h fun j k=>k=h∧zj PP d 1 h fun d k=>k=h∧zt PP ze c j h fun _ h=>vlv PP ze c h fun h j=>R (.tuple #[h,d]) j) (zi PP za b 0 g fun d g=>zf PP zb d g fun d g=>zr PP .geq zb true d (.int .i64 15) g fun d g=>vif d (y4 g fun d=>zf PP ze a d fun h j=>j=d∧zi PP za b 0 d fun j k=>k=d∧zf PP zb j d fun j k=>k=d∧zp PP zC (sl 0 e) (.int .i64 0) d fun k l=>l=d∧zf PP zg k d fun k l=>l=d∧zp PP zC (sl 0 e) (.int .i64 1) d fun l m=>m=d∧zf PP zg l d fun l m=>m=d∧vcall PP QV #[h,j,k,l] d fun d h=>zj PP d 0 h fun j k=>k=h∧zj PP d 1 h fun k l=>l=h∧zt PP ze a j h fun _ h=>(zj PP d 1 h fun f i=>f=k∧i=h)∧zf PP ze a h fun d f=>vbuildS PP zg 1 [(0,k)] f fun f h=>zt PP ze c d h fun _ d=>vlv PP ze c d fun d h=>R (.tuple #[d,f]) h) (y4 g fun d=>zf PP ze a d fun a f=>f=d∧zi PP za b 0 d fun b f=>f=d∧zf PP zb b d fun b f=>f=d∧zp PP zC (sl 0 e) (.int .i64 0) d fun f g=>g=d∧zf PP zg f d fun f g=>g=d∧zp PP zC (sl 0 e) (.int .i64 1) d fun e g=>g=d∧zf PP zg e d fun e g=>g=d∧vcall PP QW #[a,b,f,e] d fun a b=>zj PP a 0 b fun d e=>e=b∧zj PP a 1 b fun a e=>e=b∧zt PP ze c d b fun _ b=>vlv PP ze c b fun b c=>R (.tuple #[b,a]) c))))))):vcall PP Q3 #[v0,v1,v2] w R:=zq {ord:=[(6,[0,1,2,3,4,5,6,7,8,9,10,11,12],[(0,[7,8,9,10,11,12]),(1,[7,8,9,10,11,12]),(2,[3,5,6,7,8,9,10,11,12]),(3,[5,6,7,8,9,10,11,12]),(4,[5,6,7,8,9,10,11,12]),(5,[6,7,8,9,10,11,12]),(6,[7,8,9,10,11,12]),(7,[8,9,10,11,12]),(8,[9,10,11,12]),(9,[11,12]),(10,[12]),(11,[12])]),(9,[0,1,2,3,4,5],[(0,[4,5]),(1,[3,4,5]),(2,[3,4,5]),(3,[4,5]),(4,[5])]),(11,[0,2,3,4,5,6,7,8,9,10,1,11,12,13],[(0,[12,13]),(2,[3,4,10,11,12,13]),(3,[4,10,11,12,13]),(4,[10,11,12,13]),(5,[6,10,11,12,13]),(6,[10,11,12,13]),(7,[8,9,10,11,12,13]),(8,[9,10,11,12,13]),(9,[10,11,12,13]),(10,[11,12,13]),(1,[11,12,13]),(11,[12,13]),(12,[13])]),(15,[0,1,2,3,4,5,6,7,8,9,10],[(0,[6,7,8,9,10]),(1,[2,6,7,8,9,10]),(2,[6,7,8,9,10]),(3,[4,5,6,7,8,9,10]),(4,[5,6,7,8,9,10]),(5,[6,7,8,9,10]),(6,[7,8,9,10]),(7,[9,10]),(8,[9,10]),(9,[10])]),(18,[0,1,2,3,4,5,6,7,8,9,10,11,12,13,14],[(0,[9,10,11,12,13,14]),(1,[2,9,10,11,12,13,14]),(2,[9,10,11,12,13,14]),(3,[4,5,9,10,11,12,13,14]),(4,[5,9,10,11,12,13,14]),(5,[9,10,11,12,13,14]),(6,[7,8,9,10,11,12,13,14]),(7,[8,9,10,11,12,13,14]),(8,[9,10,11,12,13,14]),(9,[10,11,12,13,14]),(10,[11,12,13,14]),(11,[13,14]),(12,[14]),(13,[14])]),(20,[0,1,2,3,4,5,6,7,8,9,10,11,12,13],[(0,[9,10,11,12,13]),(1,[2,9,10,11,12,13]),(2,[9,10,11,12,13]),(3,[4,5,9,10,11,12,13]),(4,[5,9,10,11,12,13]),(5,[9,10,11,12,13]),(6,[7,8,9,10,11,12,13]),(7,[8,9,10,11,12,13]),(8,[9,10,11,12,13]),(9,[10,11,12,13]),(10,[12,13]),(11,[12,13]),(12,[13])])],loops:=[(3,[8,9])]} Tryz.func62 (by kernel_rfl) (by kernel_rfl) h
theorem qv0 (h:yr [(.int .i64 0),(.int .i64 0)] w fun a b _ c=>vbi PP .len [zu] zb [v0] c fun c d=>zr PP .lss zb false (sl 1 b) c d fun c d=>vif c (zp PP zu v0 (sl 1 b) d fun c e=>zi PP zz c 1 e fun c e=>zf PP zb c e fun c e=>zr PP .add zb false (sl 0 b) c e fun c e=>zr PP .add zb true (sl 1 b) (.int .i64 1) e fun e f=>a [c,e] f) (R (sl 0 b) d)):vcall PP ZH #[v0] w R:=zq {loops:=[(3,[3,4])]} Tryz.func63 (by kernel_rfl) (by kernel_rfl) h
theorem qF0 (h:yr [(.int .i64 0)] w fun a b _ c=>vbi PP .len [zN] zb [v0] c fun c d=>zr PP .lss zb false (sl 0 b) c d fun c d=>vif c (xz0 PP zN v0 (sl 0 b) d fun c e=>zr PP .lss qC true c (.int .u8 97) e fun c e=>vif c (R (.bool false) e) (xz0 PP zN v0 (sl 0 b) e fun c e=>zr PP .gtr qC true c (.int .u8 122) e fun c e=>vif c (R (.bool false) e) (zr PP .add zb true (sl 0 b) (.int .i64 1) e fun b c=>a [b] c))) (vbi PP .len [zN] zb [v0] d fun a b=>zr PP .geq zb true a (.int .i64 1) b fun a b=>vif a (vbi PP .len [zN] zb [v0] b fun a c=>zr PP .leq zb true a (.int .i64 4) c fun a c=>vif a (zr PP .neq zN true v0 (.string {data:= #[116,114,117,101]}) c fun a d=>R a d) (R (.bool false) c)) (R (.bool false) b))):vcall PP Q8 #[v0] w R:=zq {loops:=[(2,[3])]} Tryz.func64 (by kernel_rfl) (by kernel_rfl) h
theorem qG0 (h:yr [(.int .i64 0)] w fun a b _ c=>vbi PP .len [zu] zb [v0] c fun c d=>zr PP .lss zb false (sl 0 b) c d fun c d=>vif c (zp PP zu v0 (sl 0 b) d fun c e=>zi PP zz c 0 e fun c e=>zf PP zN c e fun c e=>zr PP .eql zN false c v1 e fun c e=>vif c (R (sl 0 b) e) (zr PP .add zb true (sl 0 b) (.int .i64 1) e fun b c=>a [b] c)) (R (.int .i64 (-1)) d)):vcall PP ka #[v0,v1] w R:=zq {loops:=[(2,[5])]} Tryz.func65 (by kernel_rfl) (by kernel_rfl) h
theorem jQ0 (h:yG PP zd v0 w fun a b=>y4 b fun b=>zi PP zd a 0 b fun c d=>d=b∧zf PP zb c b fun c d=>d=b∧zr PP .geq zb true c (.int .i64 1) b fun c d=>d=b∧vif c (zi PP zd a 0 b fun c d=>d=b∧zf PP zb c b fun c d=>d=b∧zr PP .leq zb true c (.int .i64 4) b fun c d=>d=b∧vif c (zi PP zd a 1 b fun c d=>d=b∧zf PP zb c b fun c d=>d=b∧zr PP .geq zb true c (.int .i64 0) b fun c d=>d=b∧vif c (zi PP zd a 1 b fun c d=>d=b∧zf PP zb c b fun c d=>d=b∧zi PP zd a 0 b fun a d=>d=b∧zf PP zb a b fun a d=>d=b∧zr PP .shl zb true (.int .i64 1) a b fun a d=>d=b∧zr PP .lss zb false c a b fun a c=>c=b∧R a b) (R (.bool false) b)) (R (.bool false) b)) (R (.bool false) b)):vcall PP xp #[v0] w R:=zq {ord:=[(1,[0,1,2,3,4,5,6,7,8,9,10,11,12,13,14,15,16,17,18,19,20,21],[(0,[1,2,3,4,5,6,7,8,9,10,11,12,13,14,15,16,17,18,19,20,21]),(1,[2,3,4,5,6,7,8,9,10,11,12,13,14,15,16,17,18,19,20,21]),(2,[3,4,5,6,7,8,9,10,11,12,13,14,15,16,17,18,19,20,21]),(3,[4,5,6,7,8,9,10,11,12,13,14,15,16,17,18,19,20,21]),(4,[5,6,7,8,9,10,11,12,13,14,15,16,17,18,19,20,21]),(5,[6,7,8,9,10,11,12,13,14,15,16,17,18,19,20,21]),(6,[7,8,9,10,11,12,13,14,15,16,17,18,19,20,21]),(7,[8,9,10,11,12,13,14,15,16,17,18,19,20,21]),(8,[9,10,11,12,13,14,15,16,17,18,19,20,21]),(9,[10,11,12,13,14,15,16,17,18,19,20,21]),(10,[11,12,13,14,15,16,17,18,19,20,21]),(11,[12,13,14,15,16,17,18,19,20,21]),(12,[13,14,15,16,17,18,19,20,21]),(13,[14,15,16,17,18,19,20,21]),(14,[15,19,20,21]),(15,[19,20,21]),(16,[17,18,19,20,21]),(17,[18,19,20,21]),(18,[19,20,21]),(19,[20,21]),(20,[21])])]} Tryz.func66 (by kernel_rfl) (by kernel_rfl) h
theorem jq0 (h:x5 (fun a=>vcall PP ZI #[v0] w fun b c=>vun PP .not b c fun b c=>vif b (R (.bool false) c) (vbi PP .len [zl] zb [v1] c fun b c=>zr PP .gtr zb true b (.int .i64 8) c fun b c=>vif b (R (.bool false) c) (a [] c))) (fun _ _ a=>yr [(.int .i64 0)] a fun a b _ c=>vbi PP .len [zl] zb [v1] c fun c d=>zr PP .lss zb false (sl 0 b) c d fun c d=>vif c (zp PP zl v1 (sl 0 b) d fun c e=>zf PP za c e fun c e=>vcall PP qX #[v0,c] e fun c e=>zr PP .neq zb true c (.int .i64 0) e fun c e=>vif c (R (.bool false) e) (zr PP .add zb true (sl 0 b) (.int .i64 1) e fun b c=>a [b] c)) (R (.bool true) d))):vcall PP QT #[v0,v1] w R:=zq {loops:=[(4,[5])],cuts:=[(8195,[])]} Tryz.func77 (by kernel_rfl) (by kernel_rfl) h
theorem jp0 (h:y1 PP zm w fun a b=>vcall PP ZH #[v0] b fun b c=>zH PP zk [(0,b)] c fun b c=>zH PP ze [(0,b),(1,(.bool true))] c fun b c=>y1 PP ze c fun c d=>zt PP ze c b d fun _ b=>vbuildS PP zg 0 [] b fun b d=>yr [b,(.int .i64 0)] d fun b d _ e=>vbi PP .len [zl] zb [v1] e fun e f=>zr PP .lss zb false (sl 1 d) e f fun e f=>vif e (vbuildS PP zg 0 [] f fun _ e=>y4 e fun e=>zf PP ze c e fun g h=>h=e∧zp PP zl v1 (sl 1 d) e fun h i=>i=e∧zf PP za h e fun h i=>i=e∧vcall PP Q3 #[g,v0,h] e fun e g=>zj PP e 0 g fun h i=>i=g∧zj PP e 1 g fun i j=>j=g∧zt PP ze c h g fun _ g=>(zj PP e 1 g fun e h=>e=i∧h=g)∧zp PP zg i (.int .i64 0) g fun g i=>zf PP zb g i fun g i=>vbuildS PP zg 1 [(0,g)] i fun g i=>vbi PP .append [zg,zg] zg [(sl 0 d),g] i fun g i=>zr PP .add zb true (sl 1 d) (.int .i64 1) i fun i j=>b [g,i] j) (zi PP ze c 1 f fun b f=>zf PP xr b f fun b f=>vun PP .not b f fun b f=>vif b (zH PP zm [] f fun b g=>zt PP zm a b g fun _ b=>vlv PP zm a b fun b g=>R (.tuple #[b,(.bool false)]) g) (zi PP ze c 0 f fun b c=>zf PP zk b c fun b c=>vcall PP QY #[b] c fun b c=>y1 PP zm c fun c f=>zt PP zm c b f fun _ b=>yr [(.int .i64 0)] b fun b f _ g=>vbi PP .len [zg] zb [(sl 0 d)] g fun g i=>zr PP .lss zb false (sl 0 f) g i fun g i=>vif g (y4 i fun g=>zi PP zm c 1 g fun j k=>k=g∧zf PP zC j g fun k l=>l=g∧zp PP zg (sl 0 d) (sl 0 f) g fun d l=>l=g∧zf PP zb d g fun d l=>l=g∧vbuildS PP zg 1 [(0,d)] g fun d g=>(zf PP zC j g fun e h=>e=k∧h=g)∧(zi PP zm c 1 g fun e h=>e=j∧h=g)∧vbuildS PP zC 1 [(0,d)] g fun d g=>(zf PP zC j g fun e h=>e=k∧h=g)∧(zi PP zm c 1 g fun e h=>e=j∧h=g)∧vbi PP .append [zC,zC] zC [k,d] g fun d e=>zi PP zm c 1 e fun g h=>h=e∧zt PP zC g d e fun _ d=>zr PP .add zb true (sl 0 f) (.int .i64 1) d fun d e=>b [d] e) (zf PP zm c i fun b c=>zt PP zm a b c fun _ b=>vlv PP zm a b fun a b=>R (.tuple #[a,(.bool true)]) b)))):vcall PP QS #[v0,v1] w R:=zq {ord:=[(7,[0,1,2,3,4,5,6,7,8,9,10,11],[(0,[6,7,8,9,10,11]),(1,[6,7,8,9,10,11]),(2,[4,5,6,7,8,9,10,11]),(3,[4,5,6,7,8,9,10,11]),(4,[5,6,7,8,9,10,11]),(5,[6,7,8,9,10,11]),(6,[7,8,9,10,11]),(7,[8,9,10,11]),(8,[10,11]),(9,[11]),(10,[11])]),(15,[0,1,2,3,4,5,6,7,8,9,10],[(0,[1,8,9,10]),(1,[8,9,10]),(2,[4,5,6,7,8,9,10]),(3,[4,5,6,7,8,9,10]),(4,[5,6,7,8,9,10]),(5,[6,7,8,9,10]),(6,[7,8,9,10]),(7,[8,9,10]),(8,[9,10]),(9,[10])])],loops:=[(4,[7,8]),(13,[11])]} Tryz.func78 (by kernel_rfl) (by kernel_rfl) h
theorem yt0 (h:yG PP zu v0 w fun a b=>y1 PP zm b fun b c=>x5 (fun d=>vbi PP .len [zl] zb [v1] c fun c e=>zr PP .gtr zb true c (.int .i64 8) e fun c e=>vif c (y4 e fun c=>zH PP zm [] c fun f g=>g=c∧zf PP ye (.pointer (some ⟨yA,0,none⟩)) c fun g h=>h=c∧zt PP zm b f c fun _ c=>(zf PP ye (.pointer (some ⟨yA,0,none⟩)) c fun f h=>f=g∧h=c)∧vlv PP zm b c fun c i=>R (.tuple #[c,g]) i) (zf PP zu a e fun c e=>vcall PP ji #[c] e fun c e=>vun PP .not c e fun c e=>vif c (y4 e fun c=>zH PP zm [] c fun g i=>i=c∧zf PP ye (.pointer (some ⟨yA,0,none⟩)) c fun i j=>j=c∧zt PP zm b g c fun _ c=>(zf PP ye (.pointer (some ⟨yA,0,none⟩)) c fun f h=>f=i∧h=c)∧vlv PP zm b c fun c g=>R (.tuple #[c,i]) g) (d [] e))) (fun _ _ c=>Zp0 PP (.func Xt) [] [a] c fun c d=>vcall PP yH #[v1,c] d fun c d=>vif c (y4 d fun c=>zH PP zm [] c fun e g=>g=c∧zf PP ye (.pointer (some ⟨yA,0,none⟩)) c fun g i=>i=c∧zt PP zm b e c fun _ c=>(zf PP ye (.pointer (some ⟨yA,0,none⟩)) c fun f h=>f=g∧h=c)∧vlv PP zm b c fun c e=>R (.tuple #[c,g]) e) (zf PP zu a d fun a c=>vcall PP kZ #[a] c fun a c=>vbi PP .len [zl] zb [v1] c fun c d=>yr [(.slice none 0 0),(.int .i64 0)] d fun d e _ g=>zr PP .lss zb false (sl 1 e) c g fun c g=>vif c (zp PP zl v1 (sl 1 e) g fun c i=>zf PP za c i fun c i=>y1 PP za i fun i j=>zt PP za i c j fun _ c=>zf PP za i c fun c i=>vcall PP qA #[a,c] i fun c i=>vnil PP a i fun i j=>zi PP zP i 0 j fun i j=>zf PP zS i j fun i j=>vnil PP i j fun i j=>zi PP y0 i 1 j fun i j=>zf PP ye i j fun i j=>zr PP .eql ye true i .nilIface j fun i j=>vif i (zp PP zc c (.int .i64 0) j fun c i=>zf PP zw c i fun c i=>vbuildS PP zg 1 [(0,c)] i fun c i=>vbuildS PP zC 1 [(0,c)] i fun c i=>vbi PP .append [zC,zC] zC [(sl 0 e),c] i fun c i=>zr PP .add zb true (sl 1 e) (.int .i64 1) i fun i k=>d [c,i] k) (zr PP .add zb true (sl 1 e) (.int .i64 1) j fun c i=>d [(sl 0 e),c] i)) (y4 g fun c=>vnil PP a c fun d g=>g=c∧zi PP zP d 0 c fun d g=>g=c∧zf PP zS d c fun d g=>g=c∧vnil PP d c fun d g=>g=c∧zi PP y0 d 1 c fun d g=>g=c∧zf PP ye d c fun d g=>g=c∧zf PP ye (.pointer (some ⟨xD,0,none⟩)) c fun g i=>i=c∧vcall PP Vm #[d,g] c fun c d=>vif c (y4 d fun c=>zH PP zm [] c fun g i=>i=c∧zf PP ye (.pointer (some ⟨xD,0,none⟩)) c fun i j=>j=c∧zt PP zm b g c fun _ c=>(zf PP ye (.pointer (some ⟨xD,0,none⟩)) c fun f h=>f=i∧h=c)∧vlv PP zm b c fun c f=>R (.tuple #[c,i]) f) (vnil PP a d fun a c=>zi PP zP a 0 c fun a c=>zf PP zS a c fun a c=>vnil PP a c fun a c=>zi PP y0 a 0 c fun a c=>zf PP jC a c fun a c=>vcall PP kk #[a] c fun a c=>y1 PP zm c fun c d=>zt PP zm c a d fun _ a=>zi PP zm c 1 a fun a d=>zf PP zC a d fun a d=>vbi PP .append [zC,zC] zC [a,(sl 0 e)] d fun a d=>zi PP zm c 1 d fun d e=>zt PP zC d a e fun _ a=>zf PP zm c a fun a c=>zt PP zm b a c fun _ a=>vlv PP zm b a fun a b=>R (.tuple #[a,.nilIface]) b))))):vcall PP Y5 #[v0,v1] w R:=zq {ord:=[(2,[0,1,2,3],[(0,[2,3]),(1,[3]),(2,[3])]),(4,[0,1,2,3],[(0,[2,3]),(1,[3]),(2,[3])]),(14,[0,1,2,3,4,5,6,7,8],[(0,[1,2,3,4,5,6,8]),(1,[2,3,4,5,6,8]),(2,[3,4,5,6,8]),(3,[4,5,6,8]),(4,[5,6,8]),(5,[6,8]),(6,[8]),(7,[8])]),(15,[0,1,2,3],[(0,[2,3]),(1,[3]),(2,[3])])],loops:=[(8,[7,31])],cuts:=[(8195,[])]} Tryz.func79 (by kernel_rfl) (by kernel_rfl) h
theorem yn0 (h:yG PP za v0 w fun a b=>yr [(.int .i64 1),(.int .i64 0),(.int .i64 0)] b fun b c _ d=>x5 (fun e=>zi PP za a 4 d fun d f=>zf PP zl d f fun d f=>vbi PP .len [zl] zb [d] f fun d f=>zr PP .lss zb false (sl 2 c) d f fun d f=>vif d (zr PP .leq zb true (sl 0 c) (.int .i64 20) f fun d g=>vif d (e [] g) (zr PP .add zb true (sl 1 c) (.int .i64 1) g fun d e=>zr PP .gtr zb true (sl 0 c) (.int .i64 20) e fun e g=>vif e (R (.tuple #[(.int .i64 21),(.int .i64 8)]) g) (zr PP .gtr zb true d (.int .i64 7) g fun e g=>vif e (R (.tuple #[(.int .i64 21),(.int .i64 8)]) g) (R (.tuple #[(sl 0 c),d]) g)))) (zr PP .add zb true (sl 1 c) (.int .i64 1) f fun d e=>zr PP .gtr zb true (sl 0 c) (.int .i64 20) e fun e f=>vif e (R (.tuple #[(.int .i64 21),(.int .i64 8)]) f) (zr PP .gtr zb true d (.int .i64 7) f fun e f=>vif e (R (.tuple #[(.int .i64 21),(.int .i64 8)]) f) (R (.tuple #[(sl 0 c),d]) f)))) (fun _ _ d=>zi PP za a 4 d fun a d=>zf PP zl a d fun a d=>zp PP zl a (sl 2 c) d fun a d=>zf PP za a d fun a d=>vcall PP qY #[a] d fun a d=>zj PP a 0 d fun d e=>zj PP a 1 e fun a e=>zr PP .add zb false (sl 0 c) d e fun d e=>vcall PP J4 #[(sl 1 c),a] e fun a e=>zr PP .add zb true (sl 2 c) (.int .i64 1) e fun c e=>b [d,a,c] e)):vcall PP qY #[v0] w R:=zq {loops:=[(4,[4,5,6])],cuts:=[(20486,[])]} Tryz.func84 (by kernel_rfl) (by kernel_rfl) h
theorem qD0 (h:yG PP za v1 w fun a b=>zf PP za a b fun b c=>vcall PP X7 #[b] c fun b c=>vun PP .not b c fun b c=>vif b (R (.int .i64 (-1)) c) (zi PP za a 0 c fun b c=>zf PP zb b c fun b c=>zr PP .eql zb true b (.int .i64 20) c fun c d=>vif c (zi PP za a 1 d fun c e=>zf PP zb c e fun c e=>zi PP za a 2 e fun e f=>zf PP zb e f fun e f=>zH PP zd [(0,c),(1,e)] f fun c e=>vcall PP J6 #[c] e fun c e=>vif c (zi PP za a 1 e fun c f=>zf PP zb c f fun c f=>R c f) (R (.int .i64 (-1)) e)) (zr PP .eql zb true b (.int .i64 21) d fun c d=>vif c (zi PP za a 3 d fun c e=>zf PP zN c e fun c e=>vcall PP ka #[v0,c] e fun c e=>zr PP .lss zb true c (.int .i64 0) e fun e f=>vif e (R (.int .i64 (-1)) f) (zp PP zu v0 c f fun c e=>zi PP zz c 1 e fun c e=>zf PP zb c e fun c e=>R c e)) (zr PP .eql zb true b (.int .i64 24) d fun b c=>vif b (R (.int .i64 0) c) (zi PP za a 4 c fun b c=>zf PP zl b c fun b c=>zp PP zl b (.int .i64 0) c fun b c=>zf PP za b c fun b c=>vcall PP je #[v0,b] c fun b c=>zi PP za a 4 c fun c d=>zf PP zl c d fun c d=>vbi PP .len [zl] zb [c] d fun c d=>zr PP .eql zb true c (.int .i64 1) d fun c d=>vif c (zf PP za a d fun c e=>vcall PP J0 #[c,b] e fun c e=>R c e) (zi PP za a 4 d fun c d=>zf PP zl c d fun c d=>zp PP zl c (.int .i64 1) d fun c d=>zf PP za c d fun c d=>vcall PP je #[v0,c] d fun c d=>zi PP za a 4 d fun d e=>zf PP zl d e fun d e=>vbi PP .len [zl] zb [d] e fun d e=>zr PP .eql zb true d (.int .i64 2) e fun d e=>vif d (zi PP za a 0 e fun d f=>zf PP zb d f fun d f=>vcall PP Q9 #[d,b,c] f fun d f=>R d f) (zr PP .neq zb true b (.int .i64 0) e fun b d=>vif b (R (.int .i64 (-1)) d) (zi PP za a 4 d fun a b=>zf PP zl a b fun a b=>zp PP zl a (.int .i64 2) b fun a b=>zf PP za a b fun a b=>vcall PP je #[v0,a] b fun a b=>zr PP .neq zb false c a b fun a b=>vif a (R (.int .i64 (-1)) b) (R c b))))))))):vcall PP je #[v0,v1] w R:=zq {} Tryz.func85 (by kernel_rfl) (by kernel_rfl) h
theorem qW0 (h:vbi PP .len [zu] zb [v0] w fun a b=>zr PP .gtr zb true a (.int .i64 4) b fun a b=>vif a (R (.bool false) b) (vbi PP .len [zu] zb [v0] b fun a b=>yr [(.int .i64 0),(.int .i64 0)] b fun b c _ d=>zr PP .lss zb false (sl 1 c) a d fun a d=>vif a (zp PP zu v0 (sl 1 c) d fun a e=>zf PP zz a e fun a e=>y1 PP zz e fun e f=>zt PP zz e a f fun _ a=>x5 (fun f=>zi PP zz e 0 a fun a g=>zf PP zN a g fun a g=>vbi PP .len [zN] zb [a] g fun a g=>zr PP .lss zb true a (.int .i64 1) g fun a g=>vif a (R (.bool false) g) (zi PP zz e 0 g fun a g=>zf PP zN a g fun a g=>vbi PP .len [zN] zb [a] g fun a g=>zr PP .gtr zb true a (.int .i64 4) g fun a g=>vif a (R (.bool false) g) (zi PP zz e 0 g fun a g=>zf PP zN a g fun a g=>zr PP .eql zN true a (.string {data:= #[116,114,117,101]}) g fun a g=>vif a (R (.bool false) g) (zi PP zz e 0 g fun a g=>zf PP zN a g fun a g=>vcall PP KD #[a,(.string {data:= #[97,98,99,100,101,102,103,104,105,106,107,108,109,110,111,112,113,114,115,116,117,118,119,120,121,122]})] g fun a g=>zr PP .neq zN true a (.string {data:= #[]}) g fun a g=>vif a (R (.bool false) g) (f [] g))))) (fun _ _ a=>yy PP zu v0 none (some (sl 1 c)) none a fun a f=>Zp0 PP (.func J8) [] [e] f fun f g=>vcall PP yI #[a,f] g fun a f=>vif a (R (.bool false) f) (zi PP zz e 1 f fun a f=>zf PP zb a f fun a f=>zr PP .lss zb true a (.int .i64 1) f fun a f=>vif a (R (.bool false) f) (zi PP zz e 1 f fun a f=>zf PP zb a f fun a f=>zr PP .gtr zb true a (.int .i64 4) f fun a f=>vif a (R (.bool false) f) (zi PP zz e 1 f fun a e=>zf PP zb a e fun a e=>zr PP .add zb false (sl 0 c) a e fun a e=>zr PP .add zb true (sl 1 c) (.int .i64 1) e fun e f=>b [a,e] f))))) (zr PP .leq zb true (sl 0 c) (.int .i64 8) d fun a b=>R a b))):vcall PP ji #[v0] w R:=zq {loops:=[(5,[3,11])],cuts:=[(32777,[])]} Tryz.func86 (by kernel_rfl) (by kernel_rfl) h
theorem VA (h:yG PP zu v0 w fun a b=>Zp0 PP (.func xM) [] [a] b fun a b=>R a b):vcall PP Y2 #[v0] w R:=zq {} Tryz.func87 (by kernel_rfl) (by kernel_rfl) h
theorem Qm (h:zr PP .eql zg true v0 (.slice none 0 0) w fun a b=>vif a (R (.slice none 0 0) b) (vbuildS PP zg 0 [] b fun a b=>vbi PP .append [zg,zg] zg [a,v0] b fun a b=>R a b)):vcall PP qx #[v0] w R:=zq {} Tryz.func88 (by kernel_rfl) (by kernel_rfl) h
theorem jR0 (h:x5 (fun a=>vcall PP ji #[v0] w fun b c=>vun PP .not b c fun b c=>vif b (R (.bool false) c) (vbi PP .len [zg] zb [v1] c fun b c=>vbi PP .len [zu] zb [v0] c fun c d=>zr PP .neq zb false b c d fun b c=>vif b (R (.bool false) c) (a [] c))) (fun _ _ a=>vbi PP .len [zg] zb [v1] a fun a b=>yr [(.int .i64 0)] b fun b c _ d=>zr PP .lss zb false (sl 0 c) a d fun a d=>vif a (zp PP zg v1 (sl 0 c) d fun a e=>zf PP zb a e fun a e=>zp PP zu v0 (sl 0 c) e fun e f=>zi PP zz e 1 f fun e f=>zf PP zb e f fun e f=>zH PP zd [(0,e),(1,a)] f fun a e=>vcall PP xp #[a] e fun a e=>vun PP .not a e fun a e=>vif a (R (.bool false) e) (zr PP .add zb true (sl 0 c) (.int .i64 1) e fun a c=>b [a] c)) (R (.bool true) d))):vcall PP YJ #[v0,v1] w R:=zq {loops:=[(4,[19])],cuts:=[(8195,[])]} Tryz.func89 (by kernel_rfl) (by kernel_rfl) h
theorem x90 (h:yG PP za v2 w fun a b=>y1 PP zd b fun b c=>zi PP za a 4 c fun c d=>zf PP zl c d fun c d=>vbi PP .len [zl] zb [c] d fun d e=>yr [(.slice none 0 0),(.int .i64 0)] e fun e f _ g=>zr PP .lss zb false (sl 1 f) d g fun d g=>vif d (zp PP zl c (sl 1 f) g fun c d=>zf PP za c d fun c d=>y1 PP za d fun d h=>zt PP za d c h fun _ c=>zf PP za d c fun c d=>vcall PP jy #[v0,v1,c,v3] d fun c d=>vbuildS PP y5 1 [(0,c)] d fun c d=>vbi PP .append [y5,y5] y5 [(sl 0 f),c] d fun c d=>zr PP .add zb true (sl 1 f) (.int .i64 1) d fun d h=>e [c,d] h) (y4 g fun c=>zf PP za a c fun d e=>e=c∧zi PP za a 0 c fun e g=>g=c∧zf PP zb e c fun g h=>h=c∧Xl PP zA v0 g false c fun h i=>i=c∧zf PP za a c fun i j=>j=c∧vcall PP kg #[v0,v1,d] c fun c d=>(zf PP za a d fun j k=>j=i∧k=d)∧(Xl PP zA v0 g false d fun j k=>j=h∧k=d)∧(zf PP zb e d fun j k=>j=g∧k=d)∧(zi PP za a 0 d fun j k=>j=e∧k=d)∧vinvoke PP h ky #[v3,i,(sl 0 f)] d fun a d=>zH PP zd [(0,c),(1,a)] d fun a c=>c=d∧zt PP zd b a d fun _ a=>vlv PP zd b a fun a b=>R a b)):vcall PP jy #[v0,v1,v2,v3] w R:=zq {ord:=[(7,[0,1,2,4,5,6,7,8,9,10,3,11,12,13],[(0,[3,11,12,13]),(1,[3,11,12,13]),(2,[3,11,12,13]),(4,[7,11,12,13]),(5,[6,7,11,12,13]),(6,[7,11,12,13]),(7,[11,12,13]),(8,[11,12,13]),(9,[11,12,13]),(10,[11,12,13]),(3,[11,12,13]),(11,[12,13]),(12,[13])])],loops:=[(3,[9,15])]} Tryz.func90 (by kernel_rfl) (by kernel_rfl) h
end Go.Proofs.YtaekfnbnhjgboaaGreatDoor
end
