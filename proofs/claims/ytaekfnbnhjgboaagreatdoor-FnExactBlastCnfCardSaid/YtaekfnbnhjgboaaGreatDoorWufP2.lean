import Derived.Test.YtaekfnbnhjgboaaGreatDoorWufP1
import Derived.Test.YtaekfnbnhjgboaaGreatDoorProg
/- A part of the proof. -/
set_option linter.unusedVariables false
set_option linter.unusedSimpArgs false
set_option linter.unnecessarySimpa false
set_option linter.unusedSectionVars false
section
namespace Go.M
open Go.Vc
abbrev Dcl:=ByteArray×Int
def findD (ds:List Dcl) (s:ByteArray):Int:=idxI ds.length fun i=>decide ((ds.getD i (nada,0)).1=s)
def tru:ByteArray:=⟨#[116,114,117,101]⟩
def nameOk (s:ByteArray):Bool:=decide (1≤s.size)&&decide (s.size≤4)&&decide (s≠tru)&&s.data.all fun c=>decide (97≤c.toNat)&&decide (c.toNat≤122)
def bits (ds:List Dcl):Int:=(ds.map (·.2)).sum
def dclOk (ds:List Dcl) (i:Nat):Bool:=nameOk (ds.getD i (nada,0)).1&&decide (1≤(ds.getD i (nada,0)).2)&&decide ((ds.getD i (nada,0)).2≤4)&&decide (findD (ds.take i) (ds.getD i (nada,0)).1<0)
def declOk (ds:List Dcl):Bool:=decide (ds.length≤4)&&((List.range ds.length).all fun i=>dclOk ds i)&&decide (bits ds≤8)
def Uj (ds:List Dcl) (env:List Int):Bool:=declOk ds&&decide (env.length=ds.length)&&(List.range ds.length).all fun i=>vok (ds.getD i (nada,0)).2 (env.getD i 0)
theorem findD_lt (ds:List Dcl) (s:ByteArray): -1≤findD ds s∧findD ds s<ds.length:=by
 unfold findD idxI
 split
 ·rename_i i h
  have:=List.mem_of_find?_eq_some h
  simp at this
  omega
 ·omega
theorem findD_neg {ds:List Dcl} {s:ByteArray} (h:findD ds s<0) {j:Nat} (b:j<ds.length):(ds.getD j (nada,0)).1≠s:=by
 unfold findD idxI at h
 split at h
 ·omega
 ·rename_i a
  rw[List.find?_eq_none] at a
  have:=a j (List.mem_range.2 b)
  simpa using this
theorem findD_get {ds:List Dcl} {s:ByteArray} (h:0≤findD ds s):(ds.getD (findD ds s).toNat (nada,0)).1=s:=by
 unfold findD idxI at h⊢
 split at h
 ·rename_i i hi
  have:=List.find?_some hi
  simpa using this
 ·omega
theorem findD_of {ds:List Dcl} {s:ByteArray} {i:Nat} (hi:i<ds.length) (h:(ds.getD i (nada,0)).1=s) (b:∀j,j<i→(ds.getD j (nada,0)).1≠s):findD ds s=i:=
 idxI_some hi (by simp only[h,decide_true]) fun j a=>decide_eq_false (b j a)
theorem findD_none {ds:List Dcl} {s:ByteArray} (b:∀j,j<ds.length→(ds.getD j (nada,0)).1≠s):findD ds s= -1:=
 UU fun j a=>decide_eq_false (b j a)
theorem decl_iff {ds:List Dcl}:declOk ds=true↔ds.length≤4∧(∀i,i<ds.length→dclOk ds i=true)∧bits ds≤8:=by
 simp only[declOk,Bool.and_eq_true,List.all_eq_true,List.mem_range,decide_eq_true_eq,and_assoc]
theorem take_getD {α:Type} {l:List α} {i j:Nat} {d:α} (h:j<i):(l.take i).getD j d=l.getD j d:=by
 simp[List.getD_eq_getElem?_getD,List.getElem?_take,h]
theorem dcl_apart {ds:List Dcl} (h:declOk ds=true) {i j:Nat} (hi:i<ds.length) (b:j<i):(ds.getD j (nada,0)).1≠(ds.getD i (nada,0)).1:=by
 have:=(decl_iff.1 h).2.1 i hi
 simp only[dclOk,Bool.and_eq_true,decide_eq_true_eq] at this
 have a:=findD_neg this.2 (j:=j) (by rw[List.length_take];omega)
 rwa[take_getD b] at a
def bitT (ds:List Dcl) (i:Nat):Int:=((ds.take i).map (·.2)).sum
theorem bitT_succ {ds:List Dcl} {i:Nat} (h:i<ds.length):bitT ds (i+1)=bitT ds i+(ds.getD i (nada,0)).2:=by
 unfold bitT
 rw[List.take_add_one,List.getElem?_eq_getElem h,List.map_append,List.sum_append,List.getD_eq_getElem?_getD,List.getElem?_eq_getElem h]
 simp
theorem bitT_all (ds:List Dcl):bitT ds ds.length=bits ds:=by unfold bitT bits;rw[List.take_length]
theorem dcl_wide {ds:List Dcl} (h:declOk ds=true) {i:Nat} (hi:i<ds.length):1≤(ds.getD i (nada,0)).2∧(ds.getD i (nada,0)).2≤4:=by
 simp only[declOk,Bool.and_eq_true,List.all_eq_true,List.mem_range,dclOk,decide_eq_true_eq] at h
 obtain⟨⟨_,a⟩,_⟩:=h
 exact⟨(a i hi).1.1.2,(a i hi).1.2⟩
theorem env_ok {ds:List Dcl} {env:List Int} (h:Uj ds env=true):declOk ds=true∧env.length=ds.length∧∀i,i<ds.length→vok (ds.getD i (nada,0)).2 (env.getD i 0)=true:=by
 simp only[Uj,Bool.and_eq_true,List.all_eq_true,List.mem_range,decide_eq_true_eq] at h
 exact⟨h.1.1,h.1.2,h.2⟩
def sizeM:Tm→Nat:=Tm.fold fun _ xs=>1+xs.sum
def deepM:Tm→Nat:=Tm.fold fun _ xs=>1+xs.foldl max 0
theorem sizeM_eq (t:Tm):sizeM t=1+(t.ks.map sizeM).sum:=Tm.fold_eq _ t
theorem Y50 (t:Tm):deepM t=1+(t.ks.map deepM).foldl max 0:=Tm.fold_eq _ t
def szT (ks:List Tm) (i:Nat):Nat:=((ks.take i).map sizeM).sum
def dpT (ks:List Tm) (i:Nat):Nat:=((ks.take i).map deepM).foldl max 0
theorem take_add {α:Type} {l:List α} {i:Nat} (h:i<l.length) (d:α):l.take (i+1)=l.take i++[l.getD i d]:=by
 rw[List.take_add_one,List.getElem?_eq_getElem h,List.getD_eq_getElem?_getD,List.getElem?_eq_getElem h];rfl
theorem szT_succ {ks:List Tm} {i:Nat} (h:i<ks.length):szT ks (i+1)=szT ks i+sizeM (ks.getD i default):=by
 unfold szT;rw[take_add h default,List.map_append,List.sum_append];simp
theorem dpT_succ {ks:List Tm} {i:Nat} (h:i<ks.length):dpT ks (i+1)=max (dpT ks i) (deepM (ks.getD i default)):=by
 unfold dpT;rw[take_add h default,List.map_append,List.foldl_append];rfl
theorem szT_all (t:Tm):sizeM t=1+szT t.ks t.ks.length:=by rw[sizeM_eq,szT,List.take_length]
theorem dpT_all (t:Tm):deepM t=1+dpT t.ks t.ks.length:=by rw[Y50,dpT,List.take_length]
theorem szT_mono {ks:List Tm} {i:Nat}:∀{j:Nat},i≤j→j≤ks.length→szT ks i≤szT ks j
 |0,h,_=>by
  have:i=0:=by omega
  subst this;exact Nat.le_refl _
 |j+1,h,a=>by
  by_cases e:i=j+1
  ·subst e;exact Nat.le_refl _
  ·have:=szT_mono (ks:=ks) (i:=i) (j:=j) (by omega) (by omega)
   rw[szT_succ (by omega)];omega
theorem dpT_mono {ks:List Tm} {i:Nat}:∀{j:Nat},i≤j→j≤ks.length→dpT ks i≤dpT ks j
 |0,h,_=>by
  have:i=0:=by omega
  subst this;exact Nat.le_refl _
 |j+1,h,a=>by
  by_cases e:i=j+1
  ·subst e;exact Nat.le_refl _
  ·have:=dpT_mono (ks:=ks) (i:=i) (j:=j) (by omega) (by omega)
   rw[dpT_succ (by omega)];omega
def fits (t:Tm):Bool:=decide (sizeM t≤20)&&decide (deepM t≤7)
theorem fits_iff {t:Tm}:fits t=true↔sizeM t≤20∧deepM t≤7:=by simp[fits]
def manyM (t:Tm):Nat:=if fits t then sizeM t else 21
def lvlM (t:Tm):Nat:=if fits t then deepM t else 8
def arity (o:Int):Int:=if o=20∨o=21∨o=24 then 0 else if o=1∨o=2∨o=22∨o=25 then 1 else if o=23 then 3 else if o=26∨o=27 then 2 else if 3≤o∧o≤17 then 2 else-1
def plainM (t:Tm):Bool:=(decide (t.op=20)||decide (t.op=22)||(decide (t.a=0)&&decide (t.b=0)))&&(decide (t.op=21)||decide (t.s=nada))
def sortK (ds:List Dcl) (t:Tm) (xs:List Int):Int:=
 if t.op=20 then(if vok t.a t.b then t.a else-1)
 else if t.op=21 then(if findD ds t.s<0 then-1 else(ds.getD (findD ds t.s).toNat (nada,0)).2)
 else if 24≤t.op then(if xs.any (fun x=>decide (x≠0)) then-1 else 0)
 else if t.op=23 then(if xs.getD 0 0=0∧xs.getD 1 0=xs.getD 2 0 then xs.getD 1 0 else-1)
 else if t.op=22 then(if 0≤t.b∧t.b≤t.a∧t.a<xs.getD 0 0 then t.a-t.b+1 else-1)
 else if t.op≤2 then(if 0<xs.getD 0 0 then xs.getD 0 0 else-1)
 else if t.op=14 then(if 0<xs.getD 0 0∧0<xs.getD 1 0∧xs.getD 0 0+xs.getD 1 0≤4 then xs.getD 0 0+xs.getD 1 0 else-1)
 else if 15≤t.op then(if 0<xs.getD 0 0∧xs.getD 0 0=xs.getD 1 0 then 0 else-1)
 else(if 0<xs.getD 0 0∧xs.getD 0 0=xs.getD 1 0 then xs.getD 0 0 else-1)
def formed (t:Tm):Bool:=decide (arity t.op=t.ks.length)&&plainM t
def sortF (ds:List Dcl) (t:Tm) (xs:List Int):Int:=if formed t=true∧¬(-1∈xs) then sortK ds t xs else-1
def sortM (ds:List Dcl):Tm→Int:=Tm.fold (sortF ds)
theorem sortM_eq (ds:List Dcl) (t:Tm):sortM ds t=sortF ds t (t.ks.map (sortM ds)):=Tm.fold_eq _ t
theorem arity_ops {o:Int} (h:0≤arity o):(1≤o∧o≤17)∨(20≤o∧o≤27):=by
 unfold arity at h
 repeat' (split at h)
 all_goals omega
theorem getD_map {α β:Type} (f:α→β) {l:List α} {i:Nat} (h:i<l.length) (d:β) (e:α):(l.map f).getD i d=f (l.getD i e):=by
 simp[List.getD_eq_getElem?_getD,h]
theorem getD_mem {α:Type} {l:List α} {i:Nat} (h:i<l.length) (d:α):l.getD i d∈l:=by
 rw[List.getD_eq_getElem?_getD,List.getElem?_eq_getElem h];exact List.getElem_mem h
theorem sort_parts {ds:List Dcl} {t:Tm} (h:sortM ds t≠ -1):formed t=true∧(∀k,k∈t.ks→sortM ds k≠ -1)∧sortM ds t=sortK ds t (t.ks.map (sortM ds)):=by
 rw[sortM_eq] at h⊢
 unfold sortF at h⊢
 split at h
 ·rename_i a
  rw[if_pos a]
  exact⟨a.1,fun k b e=>a.2 (e▸List.mem_map_of_mem b),rfl⟩
 ·exact absurd rfl h
theorem sort_range {ds:List Dcl} (c:declOk ds=true):∀t,-1≤sortM ds t∧sortM ds t≤4:=by
 refine Tm.ind fun t g=>?_
 rw[sortM_eq]
 unfold sortF
 split
 ·rename_i d
  have a:∀i,-1≤(t.ks.map (sortM ds)).getD i 0∧(t.ks.map (sortM ds)).getD i 0≤4:=fun i=>by
   by_cases h:i<t.ks.length
   ·rw[getD_map _ h 0 default];exact g _ (getD_mem h _)
   ·rw[List.getD_eq_getElem?_getD,List.getElem?_eq_none (by simpa using h)];simp
  have j:=a 0
  have k:=a 1
  have l:=a 2
  have b:=arity_ops (o:=t.op) (by
   have:=d.1
   simp only[formed,Bool.and_eq_true,decide_eq_true_eq] at this
   omega)
  unfold sortK
  split
  ·split
   ·rename_i f;have:=vok_lt f;omega
   ·omega
  ·split
   ·have e:=findD_lt ds t.s
    split
    ·omega
    ·have:=dcl_wide c (i:=(findD ds t.s).toNat) (by omega)
     omega
   ·repeat' split
    all_goals omega
 ·omega
def tsort (ds:List Dcl) (t:Tm):Int:=if fits t=true∧declOk ds=true then sortM ds t else-1
def b2i (b:Bool):Int:=if b then 1 else 0
def valK (ds:List Dcl) (env:List Int) (t:Tm) (xs:List (Int×Int)):Int:=
 if t.op=20 then t.b
 else if t.op=21 then env.getD (findD ds t.s).toNat 0
 else if t.op=24 then 1
 else if t.op=25 then b2i (decide ((xs.getD 0 (0,0)).2=0))
 else if t.op=26 then b2i (decide ((xs.getD 0 (0,0)).2=1)&&decide ((xs.getD 1 (0,0)).2=1))
 else if t.op=27 then b2i (decide ((xs.getD 0 (0,0)).2=1)||decide ((xs.getD 1 (0,0)).2=1))
 else if t.op=23 then(if(xs.getD 0 (0,0)).2=1 then(xs.getD 1 (0,0)).2 else(xs.getD 2 (0,0)).2)
 else if t.op=22 then cutM (xs.getD 0 (0,0)).2 t.a t.b
 else if t.op≤2 then unM t.op (xs.getD 0 (0,0)).1 (xs.getD 0 (0,0)).2
 else if t.op=14 then YA0 (xs.getD 1 (0,0)).1 (xs.getD 0 (0,0)).2 (xs.getD 1 (0,0)).2
 else if 15≤t.op then b2i (cmpM t.op (xs.getD 0 (0,0)).1 (xs.getD 0 (0,0)).2 (xs.getD 1 (0,0)).2)
 else X70 t.op (xs.getD 0 (0,0)).1 (xs.getD 0 (0,0)).2 (xs.getD 1 (0,0)).2
def vecF (ds:List Dcl) (env:List Int) (t:Tm) (xs:List (Int×Int)):Int×Int:=(sortF ds t (xs.map (·.1)),valK ds env t xs)
def Yg0 (ds:List Dcl) (env:List Int):Tm→Int×Int:=Tm.fold (vecF ds env)
def kL (ds:List Dcl) (env:List Int) (t:Tm):Int:=(Yg0 ds env t).2
theorem k70 (ds:List Dcl) (env:List Int) (t:Tm):Yg0 ds env t=vecF ds env t (t.ks.map (Yg0 ds env)):=Tm.fold_eq _ t
theorem k60 (ds:List Dcl) (env:List Int):∀t,(Yg0 ds env t).1=sortM ds t:=by
 refine Tm.ind fun t b=>?_
 rw[k70,sortM_eq]
 show sortF ds t _=_
 rw[List.map_map]
 congr 1
 exact List.map_congr_left fun k a=>b k a
theorem xD0 (ds:List Dcl) (env:List Int) (t:Tm):Yg0 ds env t=(sortM ds t,kL ds env t):=by rw[←k60 ds env t];rfl
theorem jk0 (ds:List Dcl) (env:List Int) (t:Tm):kL ds env t=valK ds env t (t.ks.map (Yg0 ds env)):=by
 unfold kL;rw[k70];rfl
def inS (w n:Int):Prop:=(w=0∧(n=0∨n=1))∨vok w n=true
theorem ZS0 {b:Bool}:inS 0 (b2i b):=by left;cases b<;>simp[b2i]
theorem inS_zero {n:Int} (h:inS 0 n):n=0∨n=1:=by
 rcases h with h|h
 ·exact h.2
 ·exact absurd (vok_lt h).1 (by omega)
theorem inS_pos {w n:Int} (h:inS w n) (hw:0<w):vok w n=true:=by
 rcases h with h|h
 ·omega
 ·exact h
theorem eval_in {ds:List Dcl} {env:List Int} (he:Uj ds env=true):∀t,sortM ds t≠ -1→inS (sortM ds t) (kL ds env t):=by
 obtain⟨E,F,C⟩:=env_ok he
 refine Tm.ind fun t D h=>?_
 obtain⟨v,A,hs⟩:=sort_parts h
 rw[hs] at h
 rw[hs,jk0]
 simp only[formed,Bool.and_eq_true,decide_eq_true_eq] at v
 obtain⟨b,B⟩:=v
 have w:=arity_ops (o:=t.op) (by omega)
 have g:∀i,i<t.ks.length→(t.ks.map (sortM ds)).getD i 0=sortM ds (t.ks.getD i default):=fun i hi=>getD_map _ hi _ _
 have j:∀i,i<t.ks.length→(t.ks.map (Yg0 ds env)).getD i (0,0)=(sortM ds (t.ks.getD i default),kL ds env (t.ks.getD i default)):=fun i hi=>by
  rw[getD_map _ hi _ default,xD0]
 have c:∀i,i<t.ks.length→inS (sortM ds (t.ks.getD i default)) (kL ds env (t.ks.getD i default)):=fun i hi=>D _ (getD_mem hi _) (A _ (getD_mem hi _))
 unfold sortK at h⊢
 unfold valK
 by_cases m:t.op=20
 ·simp only[m,if_true] at h⊢
  split
  ·right;assumption
  ·rename_i q;rw[if_neg q] at h;exact absurd rfl h
 simp only[if_neg m] at h⊢
 by_cases n:t.op=21
 ·simp only[n,if_true] at h⊢
  have z:=findD_lt ds t.s
  split
  ·rename_i q;rw[if_pos q] at h;exact absurd rfl h
  ·right;exact C _ (by omega)
 simp only[if_neg n] at h⊢
 by_cases p:24≤t.op
 ·simp only[if_pos p] at h⊢
  split
  ·rename_i q;rw[if_pos q] at h;exact absurd rfl h
  ·rcases(by omega:t.op=24∨t.op=25∨t.op=26∨t.op=27) with e|e|e|e
   ·left;simp[e]
   ·simp only[e];exact ZS0
   ·simp only[e];exact ZS0
   ·simp only[e];exact ZS0
 simp only[if_neg p,if_neg (show¬t.op=24 by omega),if_neg (show¬t.op=25 by omega),if_neg (show¬t.op=26 by omega),if_neg (show¬t.op=27 by omega)] at h⊢
 by_cases f:t.op=23
 ·simp only[f,if_true] at h⊢
  have r:t.ks.length=3:=by rw[f] at b;simp[arity] at b;omega
  rw[g 0 (by omega),g 1 (by omega),g 2 (by omega)] at h⊢
  rw[j 0 (by omega),j 1 (by omega),j 2 (by omega)]
  split
  ·rename_i a
   simp only
   split
   ·exact c 1 (by omega)
   ·rw[a.2];exact c 2 (by omega)
  ·rename_i a;rw[if_neg a] at h;exact absurd rfl h
 simp only[if_neg f] at h⊢
 by_cases d:t.op=22
 ·simp only[d,if_true] at h⊢
  have r:t.ks.length=1:=by rw[d] at b;simp[arity] at b;omega
  rw[g 0 (by omega)] at h⊢
  rw[j 0 (by omega)]
  split
  ·rename_i a
   right
   exact cut_ok (inS_pos (c 0 (by omega)) (by omega)) a.1 a.2.1 a.2.2
  ·rename_i a;rw[if_neg a] at h;exact absurd rfl h
 simp only[if_neg d] at h⊢
 by_cases u:t.op≤2
 ·simp only[if_pos u] at h⊢
  have r:t.ks.length=1:=by
   have:t.op=1∨t.op=2:=by omega
   rcases this with e|e<;>rw[e] at b<;>simp[arity] at b<;>omega
  rw[g 0 (by omega)] at h⊢
  rw[j 0 (by omega)]
  split
  ·rename_i a
   right
   exact unM_ok (inS_pos (c 0 (by omega)) (by omega))
  ·rename_i a;rw[if_neg a] at h;exact absurd rfl h
 simp only[if_neg u] at h⊢
 have r:t.ks.length=2:=by
  unfold arity at b
  rw[if_neg (by omega),if_neg (by omega),if_neg (by omega),if_neg (by omega),if_pos (by omega)] at b
  omega
 have x:=g 0 (by omega)
 have y:=g 1 (by omega)
 rw[x,y] at h⊢
 rw[j 0 (by omega),j 1 (by omega)]
 have i0:=c 0 (by omega)
 have i1:=c 1 (by omega)
 by_cases k:t.op=14
 ·simp only[k,if_true] at h⊢
  split
  ·rename_i a
   right
   exact cat_ok (inS_pos i0 a.1) (inS_pos i1 a.2.1) a.2.2
  ·rename_i a;rw[if_neg a] at h;exact absurd rfl h
 simp only[if_neg k] at h⊢
 by_cases l:15≤t.op
 ·simp only[if_pos l] at h⊢
  split
  ·exact ZS0
  ·rename_i a;rw[if_neg a] at h;exact absurd rfl h
 simp only[if_neg l] at h⊢
 split
 ·rename_i a
  right
  refine binM_ok (by omega) (by omega) (inS_pos i0 a.1) ?_
  rw[a.2];exact inS_pos i1 (by omega)
 ·rename_i a;rw[if_neg a] at h;exact absurd rfl h
end Go.M
end
section
namespace Go.Vc
open Go Go.M
section
variable {P:Program} {F F' S:Nat→Prop} {w w':World} {K:Value→World→Prop} {k:Nat} {v:Value} {xs:List (List Value)}
theorem Sl.ldAgg (h:Sl F w k v xs) {t:TypeId} (b:aggB P t k=true) {i:Nat} (hi:i<xs.length):zf P t (.pointer (some (eaddr v k i))) w K=K (.agg ⟨xs.getD i []⟩) w:=by
 have a:(xs.getD i []).length=k:=h.wide _ (M.getD_mem hi _)
 exact UC (by rw[a];exact b) (Sl.cells h hi)
theorem Sl.ldField (h:Sl F w k v xs) {t:TypeId} (a:oneB P t=true) {i j:Nat} {x:Value} (hi:i<xs.length) (b:(xs.getD i [])[j]?=some x):zf P t (.pointer (some ((eaddr v k i).add j))) w K=K x w:=
 xB a (Sl.cells h hi j x b)
theorem Sl.small (h:Sl F w k v xs):xs.length≤9223372036854775807:=by
 obtain⟨_,_,_,a,b,_⟩:=h.shape;omega
end
inductive TmR (F:Nat→Prop) (w:World):List Value→Tm→Prop
 |mk {o a b:Int} {s:ByteArray} {ks:List Tm} {kv:Value} {css:List (List Value)}:Sl F w 5 kv css→css.length=ks.length→(∀i,i<ks.length→TmR F w (css.getD i []) (ks.getD i default))→
  TmR F w [.int .i64 o,.int .i64 a,.int .i64 b,.string s,kv] (.mk o a b s ks)
def TmsR (F:Nat→Prop) (w:World) (kv:Value) (ks:List Tm):Prop:= ∃css:List (List Value),Sl F w 5 kv css∧css.length=ks.length∧∀i,i<ks.length→TmR F w (css.getD i []) (ks.getD i default)
def TermR (F:Nat→Prop) (w:World) (v:Value) (t:Tm):Prop:= ∃kv,v= .agg ⟨[.int .i64 t.op,.int .i64 t.a,.int .i64 t.b,.string t.s,kv]⟩∧TmsR F w kv t.ks
def DclsR (F:Nat→Prop) (w:World) (v:Value) (ds:List Dcl):Prop:=Sl F w 2 v (ds.map fun d=>[.string d.1,.int .i64 d.2])
section
variable {P:Program} {F F' S:Nat→Prop} {w w':World} {K:Value→World→Prop} {v:Value} {cs:List Value} {t:Tm} {ks:List Tm} {ds:List Dcl}
theorem TmR.same (h:TmR F w cs t) (hw:Same S w w') (hs:∀b,F b→b<w.heap.size→¬S b):TmR F w' cs t:=by
 induction h with
 |mk a c e d=>exact .mk (a.same hw hs) c d
theorem TmR.ext (h:TmR F w cs t) (hw:Ext w w'):TmR F w' cs t:=h.same hw fun _ _ _ h=>h
theorem TmR.weaken (h:TmR F w cs t) (d:∀b,F b→b<w.heap.size→F' b):TmR F' w cs t:=by
 induction h with
 |mk a c f e=>exact .mk (a.weaken d) c e
theorem TmR.inv (h:TmR F w cs t):∃kv,cs=[.int .i64 t.op,.int .i64 t.a,.int .i64 t.b,.string t.s,kv]∧TmsR F w kv t.ks:=by
 cases h with
 |mk c d e=>exact⟨_,rfl,_,c,d,e⟩
theorem TmR.of {kv:Value} (h:TmsR F w kv t.ks):TmR F w [.int .i64 t.op,.int .i64 t.a,.int .i64 t.b,.string t.s,kv] t:=by
 obtain⟨css,c,d,e⟩:=h
 cases t with
 |mk o a b s ks=>exact .mk c d e
theorem TmR.term (h:TmR F w cs t):TermR F w (.agg ⟨cs⟩) t:=by
 obtain⟨kv,rfl,a⟩:=h.inv
 exact⟨kv,rfl,a⟩
theorem TermR.cells (h:TermR F w v t):∃cs,v= .agg ⟨cs⟩∧TmR F w cs t:=by
 obtain⟨kv,rfl,a⟩:=h
 exact⟨_,rfl,TmR.of a⟩
theorem TmsR.same (h:TmsR F w v ks) (hw:Same S w w') (hs:∀b,F b→b<w.heap.size→¬S b):TmsR F w' v ks:=by
 obtain⟨css,a,c,d⟩:=h;exact⟨css,a.same hw hs,c,fun i hi=>(d i hi).same hw hs⟩
theorem TmsR.ext (h:TmsR F w v ks) (hw:Ext w w'):TmsR F w' v ks:=h.same hw fun _ _ _ h=>h
theorem TmsR.weaken (h:TmsR F w v ks) (a:∀b,F b→b<w.heap.size→F' b):TmsR F' w v ks:=by
 obtain⟨css,c,d,e⟩:=h;exact⟨css,c.weaken a,d,fun i hi=>(e i hi).weaken a⟩
theorem TermR.same (h:TermR F w v t) (hw:Same S w w') (hs:∀b,F b→b<w.heap.size→¬S b):TermR F w' v t:=by
 obtain⟨kv,a,c⟩:=h;exact⟨kv,a,c.same hw hs⟩
theorem TermR.ext (h:TermR F w v t) (hw:Ext w w'):TermR F w' v t:=h.same hw fun _ _ _ h=>h
theorem TermR.weaken (h:TermR F w v t) (d:∀b,F b→b<w.heap.size→F' b):TermR F' w v t:=by
 obtain⟨kv,a,c⟩:=h;exact⟨kv,a,c.weaken d⟩
theorem TmsR.small (h:TmsR F w v ks):ks.length≤9223372036854775807:=by
 obtain⟨css,a,b,c⟩:=h;rw[←b];exact a.small
theorem TmsR.len (h:TmsR F w v ks) {t:TypeId} (c:isSl P t=true) (ty:TypeId):vbi P .len [t] ty [v] w' K=K (.int .i64 ks.length) w':=by
 obtain⟨css,a,b,d⟩:=h
 have:=Sl.len (K:=K) (w':=w') a c ty;rwa[b] at this
theorem TmsR.iaddr (h:TmsR F w v ks) {t:TypeId} (e:elB P t 5=true) {kd:IntKind} {i:Int} (b:0≤i) (c:i<ks.length):
  zo P t v (.int kd i) w' K=K (.pointer (some (eaddr v 5 i.toNat))) w':=by
 obtain⟨css,a,d,f⟩:=h
 exact Sl.iaddr a e b (by rw[d];exact c)
theorem TmsR.load (h:TmsR F w v ks) {t:TypeId} (d:aggB P t 5=true) {i:Nat} (hi:i<ks.length) (c:∀x,TermR F w x (ks.getD i default)→K x w):zf P t (.pointer (some (eaddr v 5 i))) w K:=by
 obtain⟨css,a,e,b⟩:=h
 rw[a.ldAgg d (by omega)]
 exact c _ (b i hi).term
theorem TmsR.nil:TmsR F w (.slice none 0 0) []:=⟨[],⟨⟨none,0,rfl,by simp,by simp,by simp⟩,by simp⟩,rfl,by simp⟩
theorem DclsR.ext (h:DclsR F w v ds) (hw:Ext w w'):DclsR F w' v ds:=Sl.ext h hw
theorem DclsR.len (h:DclsR F w v ds) {t:TypeId} (a:isSl P t=true) (ty:TypeId):vbi P .len [t] ty [v] w' K=K (.int .i64 ds.length) w':=by
 have:=Sl.len (K:=K) (w':=w') h a ty;rwa[List.length_map] at this
theorem DclsR.iaddr (h:DclsR F w v ds) {t:TypeId} (c:elB P t 2=true) {kd:IntKind} {i:Int} (a:0≤i) (b:i<ds.length):
  zo P t v (.int kd i) w' K=K (.pointer (some (eaddr v 2 i.toNat))) w':=Sl.iaddr h c a (by rw[List.length_map];exact b)
theorem x40 {i:Nat} (hi:i<ds.length):(ds.map fun d=>[Value.string d.1,Value.int .i64 d.2]).getD i []=[.string (ds.getD i (nada,0)).1,.int .i64 (ds.getD i (nada,0)).2]:=M.getD_map _ hi _ _
theorem DclsR.load (h:DclsR F w v ds) {t:TypeId} (a:aggB P t 2=true) {i:Nat} (hi:i<ds.length):zf P t (.pointer (some (eaddr v 2 i))) w K=K (.agg ⟨[.string (ds.getD i (nada,0)).1,.int .i64 (ds.getD i (nada,0)).2]⟩) w:=by
 rw[Sl.ldAgg h a (by rw[List.length_map];exact hi),x40 hi]
theorem DclsR.load0 (h:DclsR F w v ds) {t:TypeId} (a:oneB P t=true) {i:Nat} (hi:i<ds.length):zf P t (.pointer (some ((eaddr v 2 i).add 0))) w K=K (.string (ds.getD i (nada,0)).1) w:=
 Sl.ldField h a (by rw[List.length_map];exact hi) (by rw[x40 hi];rfl)
theorem DclsR.load1 (h:DclsR F w v ds) {t:TypeId} (a:oneB P t=true) {i:Nat} (hi:i<ds.length):zf P t (.pointer (some ((eaddr v 2 i).add 1))) w K=K (.int .i64 (ds.getD i (nada,0)).2) w:=
 Sl.ldField h a (by rw[List.length_map];exact hi) (by rw[x40 hi];rfl)
theorem DclsR.small (h:DclsR F w v ds):ds.length≤9223372036854775807:=by have:=Sl.small h;simpa using this
theorem Sl.base {k:Nat} {xs:List (List Value)} (h:Sl F w k v xs) (f:xs≠[]):∀a l c,v= .slice (some a) l c→∃b o,a=⟨b,o,none⟩:=by
 intro a l c e
 obtain⟨i,j,rfl,_,_,g⟩:=h.shape
 obtain⟨b,o,rfl,_⟩:=g f
 injection e with d m n
 injection d with d
 exact⟨b,o,d.symm⟩
theorem Sl.taken {k:Nat} {xs:List (List Value)} (h:Sl F w k v xs) {n:Nat} (t:n≤xs.length):Sl F w k (cutV v n) (xs.take n):=by
 obtain⟨a,c,rfl,s,m,q⟩:=h.shape
 have l:(xs.take n).length=n:=by rw[List.length_take];omega
 refine⟨⟨a,c,by rw[l];rfl,by omega,m,fun j=>?_⟩,fun x r=>h.wide x (List.mem_of_mem_take r)⟩
 have f:xs≠[]:=fun e=>j (by rw[e,List.take_nil])
 obtain⟨b,o,e,p,g,d⟩:=q f
 refine⟨b,o,e,p,g,fun i hi=>?_⟩
 rw[l] at hi
 rw[M.take_getD hi]
 exact d i (by omega)
theorem DclsR.cut (h:DclsR F w v ds) (a:ds≠[]) {t:TypeId} (c:elB P t 2=true) {kd:IntKind} {n:Nat} (b:n≤ds.length):yA P t v none (some (.int kd n)) none w' K=K (cutV v n) w':=
 Sl.cut h (Sl.base h (by simpa using a)) c (by rw[List.length_map];exact b)
theorem DclsR.taken (h:DclsR F w v ds) {n:Nat} (a:n≤ds.length):DclsR F w (cutV v n) (ds.take n):=by
 unfold DclsR;rw[List.map_take];exact Sl.taken h (by rw[List.length_map];exact a)
theorem Blk.sl1k {b k:Nat} {cs:List Value} {e:TypeId} (h:Blk w b cs e) (d:cs.length=k):Sl (· =b) w k (.slice (some ⟨b,0,none⟩) 1 1) [cs]:=by
 refine⟨⟨_,1,rfl,Nat.le_refl _,by decide,fun _=>⟨b,0,rfl,rfl,h.lt,fun i hi j v c=>?_⟩⟩,by simp[d]⟩
 have a:i=0:=by simpa using hi
 subst a
 rw[xp]
 simp only[Nat.zero_mul,Nat.zero_add,Nat.add_zero]
 exact h.cell c
theorem Own.app1k {bs ty b k:Nat} {t e:TypeId} {xs:List (List Value)} {y:List Value} (h:Own P 0 k t w v xs) (g:elZ P t k bs=true) (j:0<k) (i:Blk w b y e) (l:y.length=k) (a:∀c,c∈y→c.oneCell'=true)
  (d:xs.length<9223372036854775807) (hlen:(xs.length+1)*bs≤140737488355328)
  (f:∀v' w',Own P 0 k t w' v' (xs++[y])→Same (fun b=>v.ownBlock=some b) w w'→(∀b,v'.ownBlock=some b→v.ownBlock=some b∨w.heap.size≤b)→K v' w'):vbi P .append [t,t] ty [v,.slice (some ⟨b,0,none⟩) 1 1] w K:=
 vappend (F:=(· =b)) g j h (i.sl1k l) (by simpa using a) (by omega) (by rw[List.length_singleton];omega) (by simpa using hlen) f
theorem Us {t e k:Nat} {z x:Value} {y:List Value} (hu:P.underlying t=some (.slice e)) (l:kj P e k=true) (hzero:yO P e z) (i:x.cells=⟨y⟩) (j:y.length=k) (h:k≤16777216)
  (g:∀b w',b=w.heap.size→Ext w w'→w'.heap.size=w.heap.size+1→Blk w' b y e→K (.slice (some ⟨b,0,none⟩) 1 1) w'):vbuildS P t 1 [(0,x)] w K:=by
 refine vbuildS_row (xs:=[x]) (us:=[y]) hu l hzero (by simp[i]) (by simp[j]) (by simpa using h) fun b w' a c d f=>g b w' a c d (by simpa using f)
theorem Blk.ownk {b k n:Nat} {t:TypeId} {css:List (List Value)} (h:Blk w b css.flatten (JC P t)) (hw:∀x,x∈css→x.length=k) (c:n=css.length) (hm:n≤9223372036854775807):Own P 0 k t w (.slice (some ⟨b,0,none⟩) n n) css:=by
 subst c
 have a:=flatten_len hw
 refine⟨⟨by rw[a],.inr ⟨b,css.length,⟨css.flatten⟩,by simp,Nat.zero_le _,h,Nat.le_refl _,by simpa[maxLen] using hm,by simpa using a,?_⟩⟩,hw⟩
 show List.take (css.length*k) css.flatten=css.flatten
 rw[←a,List.take_length]
theorem flatten_set {k:Nat}:∀{xs:List (List Value)} (_:∀x,x∈xs→x.length=k) {i j:Nat} (u:Value),i<xs.length→j<k→xs.flatten.set (i*k+j) u=(xs.set i ((xs.getD i []).set j u)).flatten
 |[],_,i,j,u,hi,_=>by simp at hi
 |x::r,h,i,j,u,hi,a=>by
  have c:=h x List.mem_cons_self
  cases i with
  |zero=>
   rw[Nat.zero_mul,Nat.zero_add]
   simp only[List.flatten_cons,List.set_cons_zero,List.getD_cons_zero]
   rw[List.set_append_left _ _ (by omega)]
  |succ i=>
   simp only[List.flatten_cons,List.set_cons_succ,List.getD_cons_succ]
   rw[List.set_append_right _ _ (by rw[Nat.add_mul];omega)]
   congr 1
   have e:(i+1)*k+j-x.length=i*k+j:=by rw[Nat.add_mul];omega
   rw[e,flatten_set (fun y b=>h y (List.mem_cons_of_mem _ b)) u (by simpa using hi) a]
theorem Own.stCell {k:Nat} {t e:TypeId} {xs:List (List Value)} {x:Value} (h:Own P 0 k t w v xs) (E:x.cells= #[x]) (o:x.oneCell'=true) (G:kj P e 1=true) {i j:Nat} (hi:i<xs.length) (C:j<k)
  (p:∀w',Own P 0 k t w' v (xs.set i ((xs.getD i []).set j x))→Same (fun b=>v.ownBlock=some b) w w'→w'.heap.size=w.heap.size→K undef w'):zu P e (.pointer (some ((eaddr v k i).add j))) x w K:=by
 rcases h.row.2 with⟨rfl,I⟩|⟨g,cap,cur,rfl,s,H,D,z,A,n⟩
 ·omega
 ·have a:=h.row
  have d:i*k+j<xs.length*k:=by
   have:i*k+k≤xs.length*k:=by rw[←Nat.succ_mul];exact Nat.mul_le_mul_right _ hi
   omega
  have u:=World.ownsRow.cellAt a (i*k+j) d
  have B:=World.ownsRow.frozenAt a (i*k+j)
  obtain⟨l,m⟩:=World.ownsRow.stored a (i*k+j) x
  have f:(xs.getD i []).length=k:=h.wide _ (M.getD_mem hi _)
  have c:w.cell? ⟨g,i*k+j,none⟩=some (xs.flatten.getD (i*k+j) undef):=by
   rw[u]
   have:i*k+j<xs.flatten.length:=by rw[flatten_len h.wide];exact d
   rw[List.getD_eq_getElem?_getD,List.getElem?_eq_getElem this];rfl
  have r:(⟨g,i*k+j,none⟩:Addr).add 0=⟨g,i*k+j,none⟩:=rfl
  have he:(eaddr (.slice (some ⟨g,0,none⟩) xs.length cap) k i).add j=⟨g,i*k+j,none⟩:=by
   simp only[eaddr];rw[xp];simp
  rw[he]
  refine⟨(),w.setCell ⟨g,i*k+j,none⟩ x,?_,p _ ?_ (Same.of_grown m) (by simp)⟩
  ·simp only[Instr.storeAt,Instr.sureAddr,Sem.run_bind,Sem.run_pure,Result.andThen_ok,storeVar,run_sizeOf G,E]
   cases x<;>first|(cases o;done)|simp[storeCells,store,Sem.run,r,c,B]
  ·refine⟨?_,fun y F=>?_⟩
   ·rw[←flatten_set h.wide x hi C]
    simpa using l
   ·obtain⟨q,J,rfl⟩:=List.getElem_of_mem F
    rw[List.getElem_set]
    split
    ·rw[List.length_set];exact f
    ·exact h.wide _ (List.getElem_mem _)
def PairsR (F:Nat→Prop) (w:World) (v:Value) (xs:List (Int×Int)):Prop:=Sl F w 2 v (xs.map fun x=>[.int .i64 x.1,.int .i64 x.2])
variable {xs:List (Int×Int)}
theorem PairsR.ext (h:PairsR F w v xs) (hw:Ext w w'):PairsR F w' v xs:=Sl.ext h hw
theorem PairsR.iaddr (h:PairsR F w v xs) {t:TypeId} (c:elB P t 2=true) {kd:IntKind} {i:Int} (a:0≤i) (b:i<xs.length):
  zo P t v (.int kd i) w' K=K (.pointer (some (eaddr v 2 i.toNat))) w':=Sl.iaddr h c a (by rw[List.length_map];exact b)
theorem PairsR.load (h:PairsR F w v xs) {t:TypeId} (a:aggB P t 2=true) {i:Nat} (hi:i<xs.length):zf P t (.pointer (some (eaddr v 2 i))) w K=K (.agg ⟨[.int .i64 (xs.getD i (0,0)).1,.int .i64 (xs.getD i (0,0)).2]⟩) w:=by
 rw[Sl.ldAgg h a (by rw[List.length_map];exact hi),M.getD_map _ hi _ (0,0)]
theorem PairsR.load1 (h:PairsR F w v xs) {t:TypeId} (a:oneB P t=true) {i:Nat} (hi:i<xs.length):zf P t (.pointer (some ((eaddr v 2 i).add 1))) w K=K (.int .i64 (xs.getD i (0,0)).2) w:=
 Sl.ldField h a (by rw[List.length_map];exact hi) (by rw[M.getD_map _ hi _ (0,0)];rfl)
end
end Go.Vc
end
section
namespace Go.Proofs.YtaekfnbnhjgboaaGreatDoor
open Go Go.Vc Go.Proofs
noncomputable abbrev PP:Program:=Tryz.prog
theorem mixed:PP.follows .mixedOrders=true:=by kernel_rfl
abbrev jX:Nat:=5
abbrev Zi:Nat:=13
abbrev Yv:Nat:=16
abbrev Xi:Nat:=17
abbrev qa:Nat:=18
abbrev Zj:Nat:=19
abbrev Xl:Nat:=21
abbrev Yy:Nat:=22
abbrev Xk:Nat:=23
abbrev kZ:Nat:=24
abbrev Zy:Nat:=27
abbrev Zz:Nat:=29
abbrev kB:Nat:=30
abbrev Zw:Nat:=31
abbrev xQ:Nat:=32
abbrev jN:Nat:=33
abbrev jt:Nat:=34
abbrev kD:Nat:=35
abbrev j8:Nat:=36
abbrev Yw:Nat:=37
abbrev kC:Nat:=38
abbrev Zv:Nat:=40
abbrev ZD:Nat:=47
abbrev kp:Nat:=57
abbrev ql:Nat:=58
abbrev Kh:Nat:=59
abbrev Xb:Nat:=62
abbrev Zh:Nat:=63
abbrev Xf:Nat:=64
abbrev jC:Nat:=65
abbrev xG:Nat:=66
abbrev Xj:Nat:=70
abbrev Xh:Nat:=71
abbrev Xm:Nat:=73
abbrev qE:Nat:=74
abbrev XZ:Nat:=77
abbrev XY:Nat:=78
abbrev ZB:Nat:=79
abbrev Yx:Nat:=80
abbrev kY:Nat:=81
abbrev Z0:Nat:=82
abbrev jD:Nat:=84
abbrev qQ:Nat:=85
abbrev Zp:Nat:=86
abbrev kK:Nat:=91
abbrev qq:Nat:=93
abbrev ZE:Nat:=94
abbrev Zm:Nat:=95
abbrev Yz:Nat:=96
abbrev Xn:Nat:=113
abbrev Zl:Nat:=114
abbrev jl:Nat:=115
abbrev Xa:Nat:=119
abbrev Yq:Nat:=120
abbrev Kg:Nat:=121
abbrev Q2:Nat:=122
abbrev Q3:Nat:=123
abbrev j9:Nat:=125
abbrev yi:Nat:=126
abbrev Q5:Nat:=128
abbrev yF:Nat:=129
abbrev YL:Nat:=130
abbrev jI:Nat:=131
abbrev Q8:Nat:=132
abbrev Yt:Nat:=133
abbrev Qa:Nat:=134
abbrev Q7:Nat:=135
abbrev Xg:Nat:=136
abbrev JA:Nat:=137
abbrev yG:Nat:=138
abbrev Qc:Nat:=139
abbrev YD:Nat:=141
abbrev YC:Nat:=142
abbrev YB:Nat:=143
abbrev YA:Nat:=144
abbrev Y4:Nat:=145
abbrev Qb:Nat:=146
abbrev yC:Nat:=147
abbrev xm:Nat:=148
abbrev YE:Nat:=166
abbrev j5:Nat:=167
abbrev JB:Nat:=168
abbrev qF:Nat:=169
abbrev qJ:Nat:=170
abbrev y6:Nat:=171
abbrev qH:Nat:=172
abbrev kq:Nat:=173
abbrev qx:Nat:=174
abbrev qt:Nat:=175
abbrev Z3:Nat:=176
abbrev XX:Nat:=177
abbrev X9:Nat:=178
abbrev qh:Nat:=179
abbrev xD:Nat:=180
abbrev km:Nat:=181
abbrev Y2:Nat:=182
abbrev qD:Nat:=183
abbrev qi:Nat:=184
abbrev Xc:Nat:=185
abbrev jB:Nat:=186
abbrev Q0:Nat:=187
abbrev Y3:Nat:=188
abbrev Yr:Nat:=189
abbrev Ys:Nat:=190
abbrev Xe:Nat:=191
abbrev xE:Nat:=192
abbrev jn:Nat:=193
abbrev Yu:Nat:=194
abbrev js:Nat:=195
abbrev yp:Nat:=203
abbrev zI:Nat:=209
abbrev jE:Nat:=210
abbrev yL:Nat:=214
abbrev yl:Nat:=215
abbrev jg:Nat:=216
abbrev jL:Nat:=217
abbrev yK:Nat:=218
abbrev qr:Nat:=219
abbrev xi:Nat:=220
abbrev yM:Nat:=221
abbrev yq:Nat:=222
abbrev xR:Nat:=223
abbrev xh:Nat:=224
abbrev jK:Nat:=225
abbrev q8:Nat:=226
abbrev xP:Nat:=227
abbrev jk:Nat:=228
abbrev xV:Nat:=229
abbrev qY:Nat:=230
abbrev Q9:Nat:=231
abbrev Q6:Nat:=232
abbrev kJ:Nat:=233
abbrev qC:Nat:=234
abbrev Xd:Nat:=235
abbrev qw:Nat:=248
abbrev Zx:Nat:=251
abbrev Xx:Nat:=252
abbrev yP:Nat:=253
abbrev qk:Nat:=254
abbrev jJ:Nat:=255
abbrev jH:Nat:=256
abbrev ZA:Nat:=257
abbrev qe:Nat:=258
abbrev jr:Nat:=259
abbrev Q4:Nat:=260
abbrev ju:Nat:=270
abbrev Zk:Nat:=271
abbrev ko:Nat:=272
abbrev Z1:Nat:=273
abbrev YK:Nat:=277
abbrev qj:Nat:=278
abbrev xO:Nat:=279
abbrev xZ:Nat:=280
abbrev jM:Nat:=312
abbrev yx:Nat:=313
abbrev yI:Nat:=314
abbrev jF:Nat:=315
abbrev je:Nat:=316
abbrev yf:Nat:=317
abbrev Y5:Nat:=318
abbrev j6:Nat:=319
abbrev kE:Nat:=320
abbrev jj:Nat:=321
abbrev qX:Nat:=322
abbrev qR:Nat:=323
abbrev ZC:Nat:=324
abbrev xd:Nat:=325
abbrev xc:Nat:=326
abbrev xb:Nat:=327
abbrev xa:Nat:=328
abbrev x8:Nat:=329
abbrev x7:Nat:=330
abbrev x6:Nat:=331
abbrev x5:Nat:=332
abbrev yZ:Nat:=333
abbrev yS:Nat:=334
abbrev yR:Nat:=335
abbrev j3:Nat:=336
abbrev ji:Nat:=337
abbrev qW:Nat:=338
abbrev Xo:Nat:=339
abbrev Zn:Nat:=340
abbrev ja:Nat:=341
abbrev jd:Nat:=342
abbrev qT:Nat:=343
abbrev qU:Nat:=344
abbrev qG:Nat:=345
abbrev jY:Nat:=346
abbrev jh:Nat:=347
abbrev qV:Nat:=348
abbrev Zo:Nat:=349
abbrev jG:Nat:=350
abbrev jf:Nat:=351
abbrev qZ:Nat:=352
abbrev qI:Nat:=353
abbrev xF:Nat:=354
abbrev jZ:Nat:=355
abbrev xU:Nat:=356
abbrev jm:Nat:=357
abbrev j0:Nat:=358
abbrev xy:Nat:=0
abbrev yy:Nat:=1
abbrev yV:Nat:=2
abbrev KK:Nat:=2
abbrev ze:Nat:=3
abbrev kO:Nat:=4
abbrev kz:Nat:=5
abbrev zE:Nat:=9
abbrev yD:Nat:=22
abbrev zD:Nat:=23
abbrev zr:Nat:=24
abbrev zd:Nat:=26
abbrev zm:Nat:=29
abbrev zj:Nat:=31
abbrev zg:Nat:=32
abbrev zz:Nat:=38
abbrev xe:Nat:=44
abbrev yr:Nat:=45
abbrev yb:Nat:=47
abbrev zB:Nat:=61
abbrev zl:Nat:=63
abbrev za:Nat:=92
abbrev zQ:Nat:=95
abbrev zC:Nat:=96
abbrev y9:Nat:=97
abbrev zM:Nat:=99
abbrev jc:Nat:=100
abbrev yd:Nat:=102
abbrev zX:Nat:=104
abbrev zG:Nat:=105
abbrev zK:Nat:=107
abbrev zc:Nat:=111
abbrev zb:Nat:=118
abbrev yQ:Nat:=122
abbrev zn:Nat:=134
abbrev jS:Nat:=144
abbrev xk:Nat:=146
abbrev ye:Nat:=147
abbrev zy:Nat:=174
abbrev zq:Nat:=181
abbrev ym:Nat:=201
abbrev qc:Nat:=203
abbrev yc:Nat:=206
abbrev zO:Nat:=208
abbrev zV:Nat:=209
abbrev zJ:Nat:=210
abbrev zR:Nat:=211
abbrev zL:Nat:=212
abbrev zP:Nat:=213
abbrev zW:Nat:=214
abbrev jT:Nat:=215
abbrev zA:Nat:=217
abbrev yX:Nat:=218
abbrev zS:Nat:=219
abbrev JE:Nat:=314
abbrev kP:Nat:=328
abbrev xr:Nat:=358
abbrev zY:Nat:=385
theorem XN:yO PP ze (.int .i64 0):=by unfold yO;kernel_rfl
@[push_cast] theorem xL0:oneB PP ze=true:=by kernel_rfl
@[push_cast] theorem jx:kj PP ze 1=true:=by kernel_rfl
theorem WP:jT0 PP ze .i64:=by unfold jT0;kernel_rfl
theorem xE0:(PP.underlying ze).isSome=true:=by kernel_rfl
@[push_cast] theorem XE0:oneB PP kO=true:=by kernel_rfl
theorem Zm0:yO PP kz (.int .u8 0):=by unfold yO;kernel_rfl
@[push_cast] theorem YD0:kj PP kz 1=true:=by kernel_rfl
theorem ZT0:jT0 PP kz .u8:=by unfold jT0;kernel_rfl
theorem KN:yO PP zE (.string ⟨#[]⟩):=by unfold yO;kernel_rfl
@[push_cast] theorem ZM0:oneB PP zE=true:=by kernel_rfl
@[push_cast] theorem QN:kj PP zE 1=true:=by kernel_rfl
theorem YH:PP.underlying zE=some .string:=by kernel_rfl
@[push_cast] theorem ZR0:elZ PP yD 1 1=true:=by kernel_rfl
theorem KR:PP.underlying yD=some (.slice kz):=by kernel_rfl
theorem kH0:JC PP yD=kz:=by kernel_rfl
@[push_cast] theorem Yr0:oneB PP zD=true:=by kernel_rfl
@[push_cast] theorem xR0:elZ PP zD 2 24=true:=by kernel_rfl
theorem x30:JC PP zD=zz:=by kernel_rfl
@[push_cast] theorem Ym0:isSl PP zD=true:=by kernel_rfl
@[push_cast] theorem Qp:elB PP zD 2=true:=by kernel_rfl
@[push_cast] theorem xO0:oneB PP zr=true:=by kernel_rfl
@[push_cast] theorem WK:kj PP zr 1=true:=by kernel_rfl
@[push_cast] theorem WO:elZ PP zr 5 64=true:=by kernel_rfl
theorem Ve:JC PP zr=zd:=by kernel_rfl
@[push_cast] theorem Yl0:isSl PP zr=true:=by kernel_rfl
@[push_cast] theorem Yz0:elB PP zr 5=true:=by kernel_rfl
theorem xA:yO PP zd (.agg #[(.int .i64 0),(.int .i64 0),(.int .i64 0),(.string ⟨#[]⟩),(.slice none 0 0)]):=by unfold yO;kernel_rfl
@[push_cast] theorem zN:aggB PP zd 5=true:=by kernel_rfl
@[push_cast] theorem Yq0:oneB PP zm=true:=by kernel_rfl
@[push_cast] theorem WL:kj PP zm 1=true:=by kernel_rfl
@[push_cast] theorem jv:elZ PP zm 3 24=true:=by kernel_rfl
theorem kH:PP.underlying zm=some (.slice zn):=by kernel_rfl
theorem Vf:JC PP zm=zn:=by kernel_rfl
@[push_cast] theorem qB:isSl PP zm=true:=by kernel_rfl
@[push_cast] theorem Qo:elB PP zm 3=true:=by kernel_rfl
theorem kf:yO PP zj (.agg #[(.int .i64 0),(.slice none 0 0)]):=by unfold yO;kernel_rfl
theorem WG:strF PP zj=some ([(0,1),(1,1)],[(.int .i64 0),(.slice none 0 0)]):=by kernel_rfl
@[push_cast] theorem yg:aggB PP zj 2=true:=by kernel_rfl
theorem jU0:yO PP zg (.slice none 0 0):=by unfold yO;kernel_rfl
@[push_cast] theorem XF0:oneB PP zg=true:=by kernel_rfl
@[push_cast] theorem jV0:kj PP zg 1=true:=by kernel_rfl
@[push_cast] theorem Y6:elZ PP zg 1 8=true:=by kernel_rfl
theorem YG:PP.underlying zg=some (.slice ze):=by kernel_rfl
theorem Wo:JC PP zg=ze:=by kernel_rfl
@[push_cast] theorem XC0:isSl PP zg=true:=by kernel_rfl
@[push_cast] theorem Vh:elB PP zg 1=true:=by kernel_rfl
theorem jq:yO PP zz (.agg #[(.string ⟨#[]⟩),(.int .i64 0)]):=by unfold yO;kernel_rfl
@[push_cast] theorem Kt:aggB PP zz 2=true:=by kernel_rfl
theorem WM:PP.underlying xe=some (.slice yQ):=by kernel_rfl
@[push_cast] theorem Yk0:isSl PP xe=true:=by kernel_rfl
@[push_cast] theorem Yy0:elB PP xe 2=true:=by kernel_rfl
@[push_cast] theorem Yp0:oneB PP yr=true:=by kernel_rfl
theorem XT:PP.underlying yr=some (.slice yb):=by kernel_rfl
@[push_cast] theorem Yj0:isSl PP yr=true:=by kernel_rfl
@[push_cast] theorem Yx0:elB PP yr 5=true:=by kernel_rfl
@[push_cast] theorem Ks:aggB PP yb 5=true:=by kernel_rfl
@[push_cast] theorem o_LLint:oneB PP zB=true:=by kernel_rfl
@[push_cast] theorem qA0:kj PP zB 1=true:=by kernel_rfl
@[push_cast] theorem UR:elZ PP zB 1 24=true:=by kernel_rfl
theorem qD0:PP.underlying zB=some (.slice zg):=by kernel_rfl
theorem jm0:JC PP zB=zg:=by kernel_rfl
@[push_cast] theorem YP0:isSl PP zB=true:=by kernel_rfl
@[push_cast] theorem X30:elB PP zB 1=true:=by kernel_rfl
theorem xN:yO PP zl (.agg #[(.int .i64 0),(.slice none 0 0)]):=by unfold yO;kernel_rfl
theorem WH:strF PP zl=some ([(0,1),(1,1)],[(.int .i64 0),(.slice none 0 0)]):=by kernel_rfl
@[push_cast] theorem yh:aggB PP zl 2=true:=by kernel_rfl
theorem jz:yO PP za (.slice none 0 0):=by unfold yO;kernel_rfl
@[push_cast] theorem zt0:oneB PP za=true:=by kernel_rfl
@[push_cast] theorem kA:kj PP za 1=true:=by kernel_rfl
@[push_cast] theorem yU:elZ PP za 1 8=true:=by kernel_rfl
theorem yT:PP.underlying za=some (.slice zq):=by kernel_rfl
theorem xj:JC PP za=zq:=by kernel_rfl
@[push_cast] theorem xx:isSl PP za=true:=by kernel_rfl
@[push_cast] theorem xf:elB PP za 1=true:=by kernel_rfl
@[push_cast] theorem jQ0:oneB PP zQ=true:=by kernel_rfl
@[push_cast] theorem xM0:oneB PP zC=true:=by kernel_rfl
theorem Xq:PP.underlying zC=some (.map 3 203):=by kernel_rfl
@[push_cast] theorem UK:oneB PP y9=true:=by kernel_rfl
theorem Z2:PP.underlying y9=some (.map 9 92):=by kernel_rfl
theorem ym0:strF PP zM=some ([(0,1),(1,1),(2,1),(3,1)],[(.pointer none),(.slice none 0 0),(.map none),(.map none)]):=by kernel_rfl
@[push_cast] theorem jP0:oneB PP jc=true:=by kernel_rfl
@[push_cast] theorem Yp:oneB PP yd=true:=by kernel_rfl
@[push_cast] theorem YE0:kj PP yd 1=true:=by kernel_rfl
theorem yl0:strF PP zX=some ([(0,1),(1,1)],[(.pointer none),.nilIface]):=by kernel_rfl
@[push_cast] theorem xN0:oneB PP zG=true:=by kernel_rfl
theorem jO:PP.underlying zG=some (.map 134 3):=by kernel_rfl
theorem yj0:strF PP zK=some ([(0,2),(2,1)],[(.int .i64 0),(.slice none 0 0),(.map none)]):=by kernel_rfl
theorem xX:yO PP zc (.agg #[(.int .i64 0),(.slice none 0 0),(.bool false)]):=by unfold yO;kernel_rfl
theorem qX0:strF PP zc=some ([(0,2),(2,1)],[(.int .i64 0),(.slice none 0 0),(.bool false)]):=by kernel_rfl
@[push_cast] theorem ku:aggB PP zc 3=true:=by kernel_rfl
theorem xt:yO PP zb (.agg #[(.int .i64 0),(.int .i64 0)]):=by unfold yO;kernel_rfl
theorem WF:strF PP zb=some ([(0,1),(1,1)],[(.int .i64 0),(.int .i64 0)]):=by kernel_rfl
@[push_cast] theorem zU:aggB PP zb 2=true:=by kernel_rfl
@[push_cast] theorem YY0:aggB PP yQ 2=true:=by kernel_rfl
theorem Y0:yO PP zn (.agg #[(.bool false),(.int .i64 0),(.int .i64 0)]):=by unfold yO;kernel_rfl
theorem Xu:strF PP zn=some ([(0,1),(1,1),(2,1)],[(.bool false),(.int .i64 0),(.int .i64 0)]):=by kernel_rfl
@[push_cast] theorem qm:aggB PP zn 3=true:=by kernel_rfl
@[push_cast] theorem K7:kj PP zn 3=true:=by kernel_rfl
theorem Jk:PP.underlying jS=some (.map 9 3):=by kernel_rfl
theorem qN0:jT0 PP ye .u64:=by unfold jT0;kernel_rfl
theorem UE:(PP.underlying ye).isSome=true:=by kernel_rfl
@[push_cast] theorem US:elZ PP zy 1 24=true:=by kernel_rfl
theorem XU:PP.underlying zy=some (.slice za):=by kernel_rfl
@[push_cast] theorem kf0:isSl PP zy=true:=by kernel_rfl
@[push_cast] theorem z40:elB PP zy 1=true:=by kernel_rfl
theorem yz:yO PP zq (.int .i64 0):=by unfold yO;kernel_rfl
@[push_cast] theorem ZN0:oneB PP zq=true:=by kernel_rfl
@[push_cast] theorem yn:kj PP zq 1=true:=by kernel_rfl
@[push_cast] theorem X20:elB PP ym 2=true:=by kernel_rfl
theorem qy0:strF PP yc=some ([(0,1),(1,1)],[(.string ⟨#[]⟩),(.int .i64 0)]):=by kernel_rfl
theorem j4:yO PP zO (.agg #[(.string ⟨#[]⟩),(.int .i64 0)]):=by unfold yO;kernel_rfl
theorem xA0:strF PP zO=some ([(0,2)],[(.string ⟨#[]⟩),(.int .i64 0)]):=by kernel_rfl
@[push_cast] theorem yS0:aggB PP zO 2=true:=by kernel_rfl
theorem Zs:yO PP zV (.agg #[(.string ⟨#[]⟩),(.int .i64 0)]):=by unfold yO;kernel_rfl
theorem yk0:strF PP zV=some ([(0,2)],[(.string ⟨#[]⟩),(.int .i64 0)]):=by kernel_rfl
theorem XO:yO PP zJ (.agg #[(.string ⟨#[]⟩),(.int .i64 0)]):=by unfold yO;kernel_rfl
theorem yi0:strF PP zJ=some ([(0,2)],[(.string ⟨#[]⟩),(.int .i64 0)]):=by kernel_rfl
@[push_cast] theorem zx0:aggB PP zJ 2=true:=by kernel_rfl
theorem xg:yO PP zR (.agg #[(.string ⟨#[]⟩),(.int .i64 0)]):=by unfold yO;kernel_rfl
theorem yg0:strF PP zR=some ([(0,2)],[(.string ⟨#[]⟩),(.int .i64 0)]):=by kernel_rfl
@[push_cast] theorem zv0:aggB PP zR 2=true:=by kernel_rfl
theorem xl:yO PP zL (.agg #[(.string ⟨#[]⟩),(.int .i64 0)]):=by unfold yO;kernel_rfl
theorem zn0:strF PP zL=some ([(0,2)],[(.string ⟨#[]⟩),(.int .i64 0)]):=by kernel_rfl
@[push_cast] theorem UW:aggB PP zL 2=true:=by kernel_rfl
theorem xS:yO PP zP (.agg #[(.string ⟨#[]⟩),(.int .i64 0)]):=by unfold yO;kernel_rfl
theorem yh0:strF PP zP=some ([(0,2)],[(.string ⟨#[]⟩),(.int .i64 0)]):=by kernel_rfl
@[push_cast] theorem zw0:aggB PP zP 2=true:=by kernel_rfl
theorem qp:yO PP zW (.agg #[(.string ⟨#[]⟩),(.int .i64 0)]):=by unfold yO;kernel_rfl
theorem xB0:strF PP zW=some ([(0,2)],[(.string ⟨#[]⟩),(.int .i64 0)]):=by kernel_rfl
@[push_cast] theorem yT0:aggB PP zW 2=true:=by kernel_rfl
@[push_cast] theorem yL0:oneB PP jT=true:=by kernel_rfl
theorem Ui:yO PP zA (.agg #[(.string ⟨#[]⟩),(.int .i64 0),.nilFunc]):=by unfold yO;kernel_rfl
theorem zo0:strF PP zA=some ([(0,2),(2,1)],[(.string ⟨#[]⟩),(.int .i64 0),.nilFunc]):=by kernel_rfl
@[push_cast] theorem Qn:aggB PP zA 3=true:=by kernel_rfl
@[push_cast] theorem xQ0:elZ PP yX 1 16=true:=by kernel_rfl
theorem KT:PP.underlying yX=some (.slice zE):=by kernel_rfl
theorem jJ0:JC PP yX=zE:=by kernel_rfl
@[push_cast] theorem XB0:isSl PP yX=true:=by kernel_rfl
theorem Zt:yO PP zS (.agg #[(.string ⟨#[]⟩),(.int .i64 0)]):=by unfold yO;kernel_rfl
theorem yn0:strF PP zS=some ([(0,2)],[(.string ⟨#[]⟩),(.int .i64 0)]):=by kernel_rfl
theorem kz0:jT0 PP JE .u64:=by unfold jT0;kernel_rfl
theorem YM0:(PP.underlying JE).isSome=true:=by kernel_rfl
theorem zL0:fieldB PP zd 0 0=true:=by kernel_rfl
@[push_cast] theorem Ze0 {w:World} {K:Value→World→Prop} (a:Addr):zi PP zd (.pointer (some a)) 0 w K=K (.pointer (some (a.add 0))) w:=ya zL0 a
theorem zK0:fieldB PP zd 1 1=true:=by kernel_rfl
@[push_cast] theorem Zd0 {w:World} {K:Value→World→Prop} (a:Addr):zi PP zd (.pointer (some a)) 1 w K=K (.pointer (some (a.add 1))) w:=ya zK0 a
theorem zJ0:fieldB PP zd 2 2=true:=by kernel_rfl
@[push_cast] theorem Zc0 {w:World} {K:Value→World→Prop} (a:Addr):zi PP zd (.pointer (some a)) 2 w K=K (.pointer (some (a.add 2))) w:=ya zJ0 a
theorem zI0:fieldB PP zd 3 3=true:=by kernel_rfl
@[push_cast] theorem Zb0 {w:World} {K:Value→World→Prop} (a:Addr):zi PP zd (.pointer (some a)) 3 w K=K (.pointer (some (a.add 3))) w:=ya zI0 a
theorem zH0:fieldB PP zd 4 4=true:=by kernel_rfl
@[push_cast] theorem Za0 {w:World} {K:Value→World→Prop} (a:Addr):zi PP zd (.pointer (some a)) 4 w K=K (.pointer (some (a.add 4))) w:=ya zH0 a
theorem yZ0:fieldB PP zj 0 0=true:=by kernel_rfl
@[push_cast] theorem Y10 {w:World} {K:Value→World→Prop} (a:Addr):zi PP zj (.pointer (some a)) 0 w K=K (.pointer (some (a.add 0))) w:=ya yZ0 a
theorem yY0:fieldB PP zj 1 1=true:=by kernel_rfl
@[push_cast] theorem Y00 {w:World} {K:Value→World→Prop} (a:Addr):zi PP zj (.pointer (some a)) 1 w K=K (.pointer (some (a.add 1))) w:=ya yY0 a
theorem zQ0:fieldB PP zz 0 0=true:=by kernel_rfl
@[push_cast] theorem Zj0 {w:World} {K:Value→World→Prop} (a:Addr):zi PP zz (.pointer (some a)) 0 w K=K (.pointer (some (a.add 0))) w:=ya zQ0 a
theorem zP0:fieldB PP zz 1 1=true:=by kernel_rfl
@[push_cast] theorem Zi0 {w:World} {K:Value→World→Prop} (a:Addr):zi PP zz (.pointer (some a)) 1 w K=K (.pointer (some (a.add 1))) w:=ya zP0 a
theorem zE0:fieldB PP yb 0 0=true:=by kernel_rfl
@[push_cast] theorem Z70 {w:World} {K:Value→World→Prop} (a:Addr):zi PP yb (.pointer (some a)) 0 w K=K (.pointer (some (a.add 0))) w:=ya zE0 a
theorem zD0:fieldB PP yb 1 1=true:=by kernel_rfl
@[push_cast] theorem Z60 {w:World} {K:Value→World→Prop} (a:Addr):zi PP yb (.pointer (some a)) 1 w K=K (.pointer (some (a.add 1))) w:=ya zD0 a
theorem zC0:fieldB PP yb 2 2=true:=by kernel_rfl
@[push_cast] theorem Z50 {w:World} {K:Value→World→Prop} (a:Addr):zi PP yb (.pointer (some a)) 2 w K=K (.pointer (some (a.add 2))) w:=ya zC0 a
theorem zB0:fieldB PP yb 3 3=true:=by kernel_rfl
@[push_cast] theorem Z40 {w:World} {K:Value→World→Prop} (a:Addr):zi PP yb (.pointer (some a)) 3 w K=K (.pointer (some (a.add 3))) w:=ya zB0 a
theorem zA0:fieldB PP yb 4 4=true:=by kernel_rfl
@[push_cast] theorem Z30 {w:World} {K:Value→World→Prop} (a:Addr):zi PP yb (.pointer (some a)) 4 w K=K (.pointer (some (a.add 4))) w:=ya zA0 a
theorem x10:fieldB PP zl 0 0=true:=by kernel_rfl
@[push_cast] theorem Y30 {w:World} {K:Value→World→Prop} (a:Addr):zi PP zl (.pointer (some a)) 0 w K=K (.pointer (some (a.add 0))) w:=ya x10 a
theorem x00:fieldB PP zl 1 1=true:=by kernel_rfl
@[push_cast] theorem Y20 {w:World} {K:Value→World→Prop} (a:Addr):zi PP zl (.pointer (some a)) 1 w K=K (.pointer (some (a.add 1))) w:=ya x00 a
theorem Wn:fieldB PP zM 0 0=true:=by kernel_rfl
@[push_cast] theorem jH0 {w:World} {K:Value→World→Prop} (a:Addr):zi PP zM (.pointer (some a)) 0 w K=K (.pointer (some (a.add 0))) w:=ya Wn a
theorem Wm:fieldB PP zM 1 1=true:=by kernel_rfl
@[push_cast] theorem jG0 {w:World} {K:Value→World→Prop} (a:Addr):zi PP zM (.pointer (some a)) 1 w K=K (.pointer (some (a.add 1))) w:=ya Wm a
theorem Wl:fieldB PP zM 2 2=true:=by kernel_rfl
@[push_cast] theorem jF0 {w:World} {K:Value→World→Prop} (a:Addr):zi PP zM (.pointer (some a)) 2 w K=K (.pointer (some (a.add 2))) w:=ya Wl a
theorem Wk:fieldB PP zM 3 3=true:=by kernel_rfl
@[push_cast] theorem jE0 {w:World} {K:Value→World→Prop} (a:Addr):zi PP zM (.pointer (some a)) 3 w K=K (.pointer (some (a.add 3))) w:=ya Wk a
theorem Wj:fieldB PP zX 0 0=true:=by kernel_rfl
@[push_cast] theorem jD0 {w:World} {K:Value→World→Prop} (a:Addr):zi PP zX (.pointer (some a)) 0 w K=K (.pointer (some (a.add 0))) w:=ya Wj a
theorem Wi:fieldB PP zX 1 1=true:=by kernel_rfl
@[push_cast] theorem jC0 {w:World} {K:Value→World→Prop} (a:Addr):zi PP zX (.pointer (some a)) 1 w K=K (.pointer (some (a.add 1))) w:=ya Wi a
theorem Wh:fieldB PP zK 0 0=true:=by kernel_rfl
@[push_cast] theorem jB0 {w:World} {K:Value→World→Prop} (a:Addr):zi PP zK (.pointer (some a)) 0 w K=K (.pointer (some (a.add 0))) w:=ya Wh a
theorem Wg:fieldB PP zK 1 2=true:=by kernel_rfl
@[push_cast] theorem jA0 {w:World} {K:Value→World→Prop} (a:Addr):zi PP zK (.pointer (some a)) 1 w K=K (.pointer (some (a.add 2))) w:=ya Wg a
theorem zz0:fieldB PP zc 0 0=true:=by kernel_rfl
@[push_cast] theorem Z20 {w:World} {K:Value→World→Prop} (a:Addr):zi PP zc (.pointer (some a)) 0 w K=K (.pointer (some (a.add 0))) w:=ya zz0 a
theorem zy0:fieldB PP zc 1 2=true:=by kernel_rfl
@[push_cast] theorem Z10 {w:World} {K:Value→World→Prop} (a:Addr):zi PP zc (.pointer (some a)) 1 w K=K (.pointer (some (a.add 2))) w:=ya zy0 a
theorem yX0:fieldB PP zb 0 0=true:=by kernel_rfl
@[push_cast] theorem ZZ0 {w:World} {K:Value→World→Prop} (a:Addr):zi PP zb (.pointer (some a)) 0 w K=K (.pointer (some (a.add 0))) w:=ya yX0 a
theorem yW0:fieldB PP zb 1 1=true:=by kernel_rfl
@[push_cast] theorem ZY0 {w:World} {K:Value→World→Prop} (a:Addr):zi PP zb (.pointer (some a)) 1 w K=K (.pointer (some (a.add 1))) w:=ya yW0 a
theorem zG0:fieldB PP yQ 0 0=true:=by kernel_rfl
@[push_cast] theorem Z90 {w:World} {K:Value→World→Prop} (a:Addr):zi PP yQ (.pointer (some a)) 0 w K=K (.pointer (some (a.add 0))) w:=ya zG0 a
theorem zF0:fieldB PP yQ 1 1=true:=by kernel_rfl
@[push_cast] theorem Z80 {w:World} {K:Value→World→Prop} (a:Addr):zi PP yQ (.pointer (some a)) 1 w K=K (.pointer (some (a.add 1))) w:=ya zF0 a
theorem zO0:fieldB PP zn 0 0=true:=by kernel_rfl
@[push_cast] theorem Zh0 {w:World} {K:Value→World→Prop} (a:Addr):zi PP zn (.pointer (some a)) 0 w K=K (.pointer (some (a.add 0))) w:=ya zO0 a
theorem zN0:fieldB PP zn 1 1=true:=by kernel_rfl
@[push_cast] theorem Zg0 {w:World} {K:Value→World→Prop} (a:Addr):zi PP zn (.pointer (some a)) 1 w K=K (.pointer (some (a.add 1))) w:=ya zN0 a
theorem zM0:fieldB PP zn 2 2=true:=by kernel_rfl
@[push_cast] theorem Zf0 {w:World} {K:Value→World→Prop} (a:Addr):zi PP zn (.pointer (some a)) 2 w K=K (.pointer (some (a.add 2))) w:=ya zM0 a
theorem UY:fieldB PP yc 0 0=true:=by kernel_rfl
@[push_cast] theorem kF0 {w:World} {K:Value→World→Prop} (a:Addr):zi PP yc (.pointer (some a)) 0 w K=K (.pointer (some (a.add 0))) w:=ya UY a
theorem UX:fieldB PP yc 1 1=true:=by kernel_rfl
@[push_cast] theorem kE0 {w:World} {K:Value→World→Prop} (a:Addr):zi PP yc (.pointer (some a)) 1 w K=K (.pointer (some (a.add 1))) w:=ya UX a
theorem Vd:fieldB PP zA 1 2=true:=by kernel_rfl
@[push_cast] theorem jj0 {w:World} {K:Value→World→Prop} (a:Addr):zi PP zA (.pointer (some a)) 1 w K=K (.pointer (some (a.add 2))) w:=ya Vd a
noncomputable def mn_kids:String:=match PP.info? 208 with|some i=>(match i.methods[0]? with|some m=>m.name|none=>default)|none=>default
noncomputable def ZF:String:=match PP.info? 208 with|some i=>(match i.methods[1]? with|some m=>m.name|none=>default)|none=>default
noncomputable def kF:String:=match PP.info? 208 with|some i=>(match i.methods[2]? with|some m=>m.name|none=>default)|none=>default
noncomputable def Xp:String:=match PP.info? 208 with|some i=>(match i.methods[3]? with|some m=>m.name|none=>default)|none=>default
theorem kK0:concB PP zE=true:=by kernel_rfl
@[push_cast] theorem XG0 {w:World} {K:Value→World→Prop} (v:Value):Jz PP zE v w K=K (.iface zE v) w:=Ym kK0 v
theorem qs:concB PP zO=true:=by kernel_rfl
@[push_cast] theorem kZ0 {w:World} {K:Value→World→Prop} (v:Value):Jz PP zO v w K=K (.iface zO v) w:=Ym qs v
theorem Kk (a b:Value) (w:World):(method (PP.types.size+Made.depth) zO (.agg ⟨[a,b]⟩) mn_kids).run PP w= .ok (yx,.agg ⟨[a,b]⟩) w:=by kernel_rfl
theorem Kj (a b:Value) (w:World):(method (PP.types.size+Made.depth) zO (.agg ⟨[a,b]⟩) ZF).run PP w= .ok (jF,.agg ⟨[a,b]⟩) w:=by kernel_rfl
theorem J6 (a b:Value) (w:World):(method (PP.types.size+Made.depth) zO (.agg ⟨[a,b]⟩) kF).run PP w= .ok (je,.agg ⟨[a,b]⟩) w:=by kernel_rfl
theorem Ki (a b:Value) (w:World):(method (PP.types.size+Made.depth) zO (.agg ⟨[a,b]⟩) Xp).run PP w= .ok (yI,.agg ⟨[a,b]⟩) w:=by kernel_rfl
theorem qK:concB PP zV=true:=by kernel_rfl
@[push_cast] theorem kn0 {w:World} {K:Value→World→Prop} (v:Value):Jz PP zV v w K=K (.iface zV v) w:=Ym qK v
theorem Jg (a b:Value) (w:World):(method (PP.types.size+Made.depth) zV (.agg ⟨[a,b]⟩) mn_kids).run PP w= .ok (yx,.agg ⟨[a,b]⟩) w:=by kernel_rfl
theorem Jf (a b:Value) (w:World):(method (PP.types.size+Made.depth) zV (.agg ⟨[a,b]⟩) ZF).run PP w= .ok (jj,.agg ⟨[a,b]⟩) w:=by kernel_rfl
theorem Qi (a b:Value) (w:World):(method (PP.types.size+Made.depth) zV (.agg ⟨[a,b]⟩) kF).run PP w= .ok (qX,.agg ⟨[a,b]⟩) w:=by kernel_rfl
theorem Je (a b:Value) (w:World):(method (PP.types.size+Made.depth) zV (.agg ⟨[a,b]⟩) Xp).run PP w= .ok (yI,.agg ⟨[a,b]⟩) w:=by kernel_rfl
theorem ZH:concB PP zJ=true:=by kernel_rfl
@[push_cast] theorem km0 {w:World} {K:Value→World→Prop} (v:Value):Jz PP zJ v w K=K (.iface zJ v) w:=Ym ZH v
theorem Jd (a b:Value) (w:World):(method (PP.types.size+Made.depth) zJ (.agg ⟨[a,b]⟩) mn_kids).run PP w= .ok (yx,.agg ⟨[a,b]⟩) w:=by kernel_rfl
theorem Jc (a b:Value) (w:World):(method (PP.types.size+Made.depth) zJ (.agg ⟨[a,b]⟩) ZF).run PP w= .ok (ji,.agg ⟨[a,b]⟩) w:=by kernel_rfl
theorem Qh (a b:Value) (w:World):(method (PP.types.size+Made.depth) zJ (.agg ⟨[a,b]⟩) kF).run PP w= .ok (qW,.agg ⟨[a,b]⟩) w:=by kernel_rfl
theorem Jb (a b:Value) (w:World):(method (PP.types.size+Made.depth) zJ (.agg ⟨[a,b]⟩) Xp).run PP w= .ok (yI,.agg ⟨[a,b]⟩) w:=by kernel_rfl
theorem yW:concB PP zR=true:=by kernel_rfl
@[push_cast] theorem kk0 {w:World} {K:Value→World→Prop} (v:Value):Jz PP zR v w K=K (.iface zR v) w:=Ym yW v
theorem J5 (a b:Value) (w:World):(method (PP.types.size+Made.depth) zR (.agg ⟨[a,b]⟩) mn_kids).run PP w= .ok (yx,.agg ⟨[a,b]⟩) w:=by kernel_rfl
theorem J4 (a b:Value) (w:World):(method (PP.types.size+Made.depth) zR (.agg ⟨[a,b]⟩) ZF).run PP w= .ok (jd,.agg ⟨[a,b]⟩) w:=by kernel_rfl
theorem Qd (a b:Value) (w:World):(method (PP.types.size+Made.depth) zR (.agg ⟨[a,b]⟩) kF).run PP w= .ok (qT,.agg ⟨[a,b]⟩) w:=by kernel_rfl
theorem yY:concB PP zL=true:=by kernel_rfl
@[push_cast] theorem jR0 {w:World} {K:Value→World→Prop} (v:Value):Jz PP zL v w K=K (.iface zL v) w:=Ym yY v
theorem Qf (a b:Value) (w:World):(method (PP.types.size+Made.depth) zL (.agg ⟨[a,b]⟩) mn_kids).run PP w= .ok (yx,.agg ⟨[a,b]⟩) w:=by kernel_rfl
theorem Qe (a b:Value) (w:World):(method (PP.types.size+Made.depth) zL (.agg ⟨[a,b]⟩) ZF).run PP w= .ok (qU,.agg ⟨[a,b]⟩) w:=by kernel_rfl
theorem XH (a b:Value) (w:World):(method (PP.types.size+Made.depth) zL (.agg ⟨[a,b]⟩) kF).run PP w= .ok (qG,.agg ⟨[a,b]⟩) w:=by kernel_rfl
theorem xH:concB PP zP=true:=by kernel_rfl
@[push_cast] theorem kl0 {w:World} {K:Value→World→Prop} (v:Value):Jz PP zP v w K=K (.iface zP v) w:=Ym xH v
theorem Ja (a b:Value) (w:World):(method (PP.types.size+Made.depth) zP (.agg ⟨[a,b]⟩) mn_kids).run PP w= .ok (yx,.agg ⟨[a,b]⟩) w:=by kernel_rfl
theorem J9 (a b:Value) (w:World):(method (PP.types.size+Made.depth) zP (.agg ⟨[a,b]⟩) ZF).run PP w= .ok (jh,.agg ⟨[a,b]⟩) w:=by kernel_rfl
theorem Qg (a b:Value) (w:World):(method (PP.types.size+Made.depth) zP (.agg ⟨[a,b]⟩) kF).run PP w= .ok (qV,.agg ⟨[a,b]⟩) w:=by kernel_rfl
theorem J8 (a b:Value) (w:World):(method (PP.types.size+Made.depth) zP (.agg ⟨[a,b]⟩) Xp).run PP w= .ok (yI,.agg ⟨[a,b]⟩) w:=by kernel_rfl
theorem qb:concB PP zW=true:=by kernel_rfl
@[push_cast] theorem Z00 {w:World} {K:Value→World→Prop} (v:Value):Jz PP zW v w K=K (.iface zW v) w:=Ym qb v
theorem Ko (a b:Value) (w:World):(method (PP.types.size+Made.depth) zW (.agg ⟨[a,b]⟩) mn_kids).run PP w= .ok (yx,.agg ⟨[a,b]⟩) w:=by kernel_rfl
theorem Km (a b:Value) (w:World):(method (PP.types.size+Made.depth) zW (.agg ⟨[a,b]⟩) ZF).run PP w= .ok (jG,.agg ⟨[a,b]⟩) w:=by kernel_rfl
theorem J7 (a b:Value) (w:World):(method (PP.types.size+Made.depth) zW (.agg ⟨[a,b]⟩) kF).run PP w= .ok (jf,.agg ⟨[a,b]⟩) w:=by kernel_rfl
theorem Kl (a b:Value) (w:World):(method (PP.types.size+Made.depth) zW (.agg ⟨[a,b]⟩) Xp).run PP w= .ok (yI,.agg ⟨[a,b]⟩) w:=by kernel_rfl
theorem Xy:concB PP zA=true:=by kernel_rfl
@[push_cast] theorem jS0 {w:World} {K:Value→World→Prop} (v:Value):Jz PP zA v w K=K (.iface zA v) w:=Ym Xy v
theorem Ql (a b c:Value) (w:World):(method (PP.types.size+Made.depth) zA (.agg ⟨[a,b,c]⟩) mn_kids).run PP w= .ok (yx,.agg ⟨[a,b]⟩) w:=by kernel_rfl
theorem Qk (a b c:Value) (w:World):(method (PP.types.size+Made.depth) zA (.agg ⟨[a,b,c]⟩) ZF).run PP w= .ok (qZ,.agg ⟨[a,b,c]⟩) w:=by kernel_rfl
theorem XI (a b c:Value) (w:World):(method (PP.types.size+Made.depth) zA (.agg ⟨[a,b,c]⟩) kF).run PP w= .ok (qI,.agg ⟨[a,b,c]⟩) w:=by kernel_rfl
theorem Qj (a b c:Value) (w:World):(method (PP.types.size+Made.depth) zA (.agg ⟨[a,b,c]⟩) Xp).run PP w= .ok (yI,.agg ⟨[a,b]⟩) w:=by kernel_rfl
theorem qL:concB PP zS=true:=by kernel_rfl
@[push_cast] theorem ko0 {w:World} {K:Value→World→Prop} (v:Value):Jz PP zS v w K=K (.iface zS v) w:=Ym qL v
theorem Jj (a b:Value) (w:World):(method (PP.types.size+Made.depth) zS (.agg ⟨[a,b]⟩) mn_kids).run PP w= .ok (yx,.agg ⟨[a,b]⟩) w:=by kernel_rfl
theorem Ji (a b:Value) (w:World):(method (PP.types.size+Made.depth) zS (.agg ⟨[a,b]⟩) ZF).run PP w= .ok (jm,.agg ⟨[a,b]⟩) w:=by kernel_rfl
theorem Qm (a b:Value) (w:World):(method (PP.types.size+Made.depth) zS (.agg ⟨[a,b]⟩) kF).run PP w= .ok (j0,.agg ⟨[a,b]⟩) w:=by kernel_rfl
theorem Jh (a b:Value) (w:World):(method (PP.types.size+Made.depth) zS (.agg ⟨[a,b]⟩) Xp).run PP w= .ok (yI,.agg ⟨[a,b]⟩) w:=by kernel_rfl
end Go.Proofs.YtaekfnbnhjgboaaGreatDoor
end
section
namespace Go.Proofs.YtaekfnbnhjgboaaGreatDoor
open Go Go.Vc Go.Proofs
variable {v0 v1 v2 v3 v4 v5 v6 v7 v8:Value} {w:World} {R:Value→World→Prop}
theorem XJ (h:vcall PP Yv #[v0,(.int .i64 1048576)] w fun a b=>zt PP .lss ze true a (.int .i64 0) b fun b c=>vif b (R (.bool true) c) (vcall PP kB #[v1,a] c fun a b=>zt PP .lss ze true a (.int .i64 0) b fun a b=>vif a (R (.bool true) b) (vcall PP qa #[v0] b fun a b=>vcall PP xQ #[v1] b fun b c=>vcall PP Zw #[a,b] c fun a b=>zk PP a 0 b fun b c=>zk PP a 1 c fun a c=>zZ PP zl c fun c d=>zu PP zl c b d fun _ b=>vcall PP qa #[v0] b fun b d=>vcall PP xQ #[v1] d fun d e=>vcall PP jN #[b,d] e fun e f=>zk PP e 0 f fun f g=>zk PP e 1 g fun e g=>zZ PP zl g fun g h=>zu PP zl g f h fun _ f=>xL (fun h=>zf PP zl g f fun f i=>zf PP zl c i fun i j=>vcall PP jt #[f,i] j fun f i=>vun PP .not f i fun f i=>vif f (R (.bool false) i) (zt PP .neq kO false e a i fun f i=>vif f (R (.bool false) i) (h [] i))) (fun _ _ f=>vcall PP qa #[v0] f fun f h=>vcall PP Yy #[b,f] h fun f h=>vun PP .not f h fun f h=>vif f (R (.bool false) h) (vcall PP xQ #[v1] h fun f h=>vcall PP kD #[d,f] h fun f h=>vun PP .not f h fun f h=>vif f (R (.bool false) h) (vcall PP kZ #[b,(.int .i64 1)] h fun b f=>vcall PP j8 #[d,b] f fun b d=>xL (fun f=>zt PP .lss ze true b (.int .i64 0) d fun b d=>vif b (R (.bool false) d) (zf PP zl g d fun b d=>zf PP zl c d fun d h=>vcall PP jt #[b,d] h fun b d=>vun PP .not b d fun b d=>vif b (R (.bool false) d) (zt PP .neq kO false e a d fun b d=>vif b (R (.bool false) d) (f [] d)))) (fun _ _ b=>zf PP zl g b fun b d=>vcall PP Yw #[b,(.int .i64 1)] d fun b d=>zf PP zl g d fun d e=>vcall PP kC #[d,(.int .i64 1)] e fun d e=>zt PP .lss ze true d (.int .i64 0) e fun e f=>vif e (R (.bool false) f) (zt PP .neq ze false d b f fun d e=>vif d (R (.bool false) e) (vcall PP qa #[v0] e fun d e=>vcall PP xQ #[v1] e fun e f=>vcall PP jN #[d,e] f fun d e=>zk PP d 0 e fun e f=>zk PP d 1 f fun d f=>zZ PP zl f fun f h=>zu PP zl f e h fun _ e=>zf PP zl f e fun e f=>zf PP zl c f fun c f=>vcall PP jt #[e,c] f fun c e=>vun PP .not c e fun c e=>vif c (R (.bool false) e) (zt PP .neq kO false d a e fun a c=>vif a (R (.bool false) c) (zf PP zl g c fun a c=>vcall PP kC #[a,(.int .i64 1)] c fun a c=>zt PP .lss ze true a (.int .i64 0) c fun c d=>vif c (R (.bool false) d) (zt PP .neq ze false a b d fun a b=>vif a (R (.bool false) b) (R (.bool true) b))))))))))))):vcall PP jX #[v0,v1] w R:=zp {cuts:=[(53262,[]),(90135,[])]} Tryz.func5 (by kernel_rfl) (by kernel_rfl) h
theorem xk0 (h:vbi PP .len [zD] ze [v0] w fun a b=>zt PP .gtr ze true a (.int .i64 4) b fun a b=>vif a (R (.bool false) b) (yJ [(.int .i64 0),(.int .i64 0)] b fun a b _ c=>vbi PP .len [zD] ze [v0] c fun c d=>zt PP .lss ze false (sl 1 b) c d fun c d=>vif c (y7 d fun c=>zo PP zD v0 (sl 1 b) c fun e f=>f=c∧zi PP zz e 0 c fun e f=>f=c∧zf PP zE e c fun e f=>f=c∧vcall PP Xf #[e] c fun c e=>vun PP .not c e fun c f=>f=e∧vif c (R (.bool false) e) (zo PP zD v0 (sl 1 b) e fun c f=>f=e∧zi PP zz c 1 e fun c f=>f=e∧zf PP ze c e fun c f=>f=e∧zt PP .lss ze true c (.int .i64 1) e fun c f=>f=e∧vif c (R (.bool false) e) (zo PP zD v0 (sl 1 b) e fun c f=>f=e∧zi PP zz c 1 e fun c f=>f=e∧zf PP ze c e fun c f=>f=e∧zt PP .gtr ze true c (.int .i64 4) e fun c f=>f=e∧vif c (R (.bool false) e) (yA PP zD v0 none (some (sl 1 b)) none e fun c f=>f=e∧zo PP zD v0 (sl 1 b) e fun f g=>g=e∧zi PP zz f 0 e fun f g=>g=e∧zf PP zE f e fun f g=>g=e∧vcall PP jC #[c,f] e fun c e=>zt PP .geq ze true c (.int .i64 0) e fun c f=>f=e∧vif c (R (.bool false) e) (zo PP zD v0 (sl 1 b) e fun c e=>zi PP zz c 1 e fun c e=>zf PP ze c e fun c e=>zt PP .add ze false (sl 0 b) c e fun c e=>zt PP .add ze true (sl 1 b) (.int .i64 1) e fun e f=>a [c,e] f))))) (zt PP .leq ze true (sl 0 b) (.int .i64 8) d fun a b=>R a b))):vcall PP Zi #[v0] w R:=zp {ord:=[(7,[0,1,2,3,4,5,6,7,8,9,10,11,12,13,14,15,16,17,18,19,20,21,22,23,24,25,26,27,28,29,30,31,32,33,34],[(0,[2,3,4,5,6,7,8,9,10,11,12,13,14,15,16,17,18,19,20,21,22,23,24,25,26,27,28,29,30,31,32,33,34]),(1,[2,3,4,5,6,7,8,9,10,11,12,13,14,15,16,17,18,19,20,21,22,23,24,25,26,27,28,29,30,31,32,33,34]),(2,[3,4,5,6,7,8,9,10,11,12,13,14,15,16,17,18,19,20,21,22,23,24,25,26,27,28,29,30,31,32,33,34]),(3,[4,5,6,7,8,9,10,11,12,13,14,15,16,17,18,19,20,21,22,23,24,25,26,27,28,29,30,31,32,33,34]),(4,[5,6,7,8,9,10,11,12,13,14,15,16,17,18,19,20,21,22,23,24,25,26,27,28,29,30,31,32,33,34]),(5,[6,7,8,9,10,11,12,13,14,15,16,17,18,19,20,21,22,23,24,25,26,27,28,29,30,31,32,33,34]),(6,[7,8,9,10,11,12,13,14,15,16,17,18,19,20,21,22,23,24,25,26,27,28,29,30,31,32,33,34]),(7,[8,9,10,11,12,13,14,15,16,17,18,19,20,21,22,23,24,25,26,27,28,29,30,31,32,33,34]),(8,[10,11,12,13,14,15,16,17,18,19,20,21,22,23,24,25,26,27,28,29,30,31,32,33,34]),(9,[10,11,12,13,14,15,16,17,18,19,20,21,22,23,24,25,26,27,28,29,30,31,32,33,34]),(10,[11,12,13,14,15,16,17,18,19,20,21,22,23,24,25,26,27,28,29,30,31,32,33,34]),(11,[12,13,14,15,16,17,18,19,20,21,22,23,24,25,26,27,28,29,30,31,32,33,34]),(12,[13,14,15,16,17,18,19,20,21,22,23,24,25,26,27,28,29,30,31,32,33,34]),(13,[14,15,16,17,18,19,20,21,22,23,24,25,26,27,28,29,30,31,32,33,34]),(14,[15,16,17,18,19,20,21,22,23,24,25,26,27,28,29,30,31,32,33,34]),(15,[16,17,18,19,20,21,22,23,24,25,26,27,28,29,30,31,32,33,34]),(16,[18,19,20,21,22,23,24,25,26,27,28,29,30,31,32,33,34]),(17,[18,19,20,21,22,23,24,25,26,27,28,29,30,31,32,33,34]),(18,[19,20,21,22,23,24,25,26,27,28,29,30,31,32,33,34]),(19,[20,21,22,23,24,25,26,27,28,29,30,31,32,33,34]),(20,[21,22,23,24,25,26,27,28,29,30,31,32,33,34]),(21,[22,23,24,25,26,27,28,29,30,31,32,33,34]),(22,[23,24,25,26,27,28,29,30,31,32,33,34]),(23,[24,25,26,27,28,29,30,31,32,33,34]),(24,[26,32,33,34]),(25,[26,32,33,34]),(26,[32,33,34]),(27,[29,30,31,32,33,34]),(28,[29,30,31,32,33,34]),(29,[30,31,32,33,34]),(30,[31,32,33,34]),(31,[32,33,34]),(32,[33,34]),(33,[34])])],loops:=[(5,[3,4])]} Tryz.func13 (by kernel_rfl) (by kernel_rfl) h
theorem zZ0 (h:vbi PP .len [xe] ze [v0] w fun a b=>zt PP .sub ze false v1 a b fun a b=>zt PP .lss ze true a (.int .i64 0) b fun b c=>vif b (R (.int .i64 (-1)) c) (yJ [a,(.int .i64 0)] c fun a b _ c=>vbi PP .len [xe] ze [v0] c fun c d=>zt PP .lss ze false (sl 1 b) c d fun c d=>vif c (zo PP xe v0 (sl 1 b) d fun c e=>zf PP yQ c e fun c e=>vcall PP Xj #[c,(sl 0 b)] e fun c e=>zt PP .lss ze true c (.int .i64 0) e fun e f=>vif e (R (.int .i64 (-1)) f) (zt PP .add ze true (sl 1 b) (.int .i64 1) f fun e f=>a [c,e] f)) (R (sl 0 b) d))):vcall PP Yv #[v0,v1] w R:=zp {loops:=[(5,[1,5])]} Tryz.func16 (by kernel_rfl) (by kernel_rfl) h
theorem xm0 (h:yH PP yb v0 w fun a b=>zi PP yb a 3 b fun b c=>zf PP zE b c fun b c=>vbi PP .len [zE] ze [b] c fun b c=>zt PP .sub ze false v1 b c fun b c=>zt PP .lss ze true b (.int .i64 0) c fun c d=>vif c (R (.int .i64 (-1)) d) (zi PP yb a 4 d fun a c=>zf PP yr a c fun a c=>vcall PP kB #[a,b] c fun a b=>zt PP .lss ze true a (.int .i64 0) b fun b c=>vif b (R (.int .i64 (-1)) c) (R a c))):vcall PP Xi #[v0,v1] w R:=zp {} Tryz.func17 (by kernel_rfl) (by kernel_rfl) h
theorem zX0 (h:vbi PP .len [xe] ze [v0] w fun a b=>Zr0 PP zD a a b fun a b=>yJ [(.int .i64 0)] b fun b c _ d=>vbi PP .len [xe] ze [v0] d fun d e=>zt PP .lss ze false (sl 0 c) d e fun d e=>vif d (zo PP xe v0 (sl 0 c) e fun d f=>zf PP yQ d f fun d f=>vcall PP Xh #[d] f fun d f=>zo PP zD a (sl 0 c) f fun f g=>zu PP zz f d g fun _ d=>zt PP .add ze true (sl 0 c) (.int .i64 1) d fun c d=>b [c] d) (R a e)):vcall PP qa #[v0] w R:=zp {loops:=[(3,[4])]} Tryz.func18 (by kernel_rfl) (by kernel_rfl) h
theorem Vi (h:yH PP yb v0 w fun a b=>zZ PP zd b fun b c=>zZ PP zd c fun c d=>zi PP yb a 0 d fun d e=>zf PP ze d e fun d e=>zi PP zd c 0 e fun e f=>zu PP ze e d f fun _ d=>zi PP yb a 1 d fun d e=>zf PP ze d e fun d e=>zi PP zd c 1 e fun e f=>zu PP ze e d f fun _ d=>zi PP yb a 2 d fun d e=>zf PP ze d e fun d e=>zi PP zd c 2 e fun e f=>zu PP ze e d f fun _ d=>zi PP yb a 3 d fun d e=>zf PP zE d e fun d e=>zi PP zd c 3 e fun e f=>zu PP zE e d f fun _ d=>zi PP yb a 4 d fun a d=>zf PP yr a d fun a d=>vcall PP xQ #[a] d fun a d=>zi PP zd c 4 d fun d e=>zu PP zr d a e fun _ a=>zf PP zd c a fun a c=>zu PP zd b a c fun _ a=>vlv PP zd b a fun a b=>R a b):vcall PP Zj #[v0] w R:=zp {} Tryz.func19 (by kernel_rfl) (by kernel_rfl) h
theorem xp0 (h:vbi PP .len [zg] ze [v0] w fun a b=>vbi PP .len [zg] ze [v1] b fun b c=>zt PP .neq ze false a b c fun a b=>vif a (R (.bool false) b) (yJ [(.int .i64 0)] b fun a b _ c=>vbi PP .len [zg] ze [v0] c fun c d=>zt PP .lss ze false (sl 0 b) c d fun c d=>vif c (y7 d fun c=>zo PP zg v0 (sl 0 b) c fun e f=>f=c∧zf PP ze e c fun e f=>f=c∧zo PP zg v1 (sl 0 b) c fun f g=>g=c∧zf PP ze f c fun f g=>g=c∧zt PP .neq ze false e f c fun e f=>f=c∧vif e (R (.bool false) c) (zt PP .add ze true (sl 0 b) (.int .i64 1) c fun b c=>a [b] c)) (R (.bool true) d))):vcall PP Xl #[v0,v1] w R:=zp {ord:=[(6,[0,1,2,3,4,5,6,7,8],[(0,[2,3,8]),(1,[2,3,8]),(2,[3,8]),(3,[8]),(4,[6,7,8]),(5,[6,7,8]),(6,[7,8]),(7,[8])])],loops:=[(4,[5])]} Tryz.func21 (by kernel_rfl) (by kernel_rfl) h
theorem y40 (h:vbi PP .len [zD] ze [v0] w fun a b=>vbi PP .len [zD] ze [v1] b fun b c=>zt PP .neq ze false a b c fun a b=>vif a (R (.bool false) b) (yJ [(.int .i64 0)] b fun a b _ c=>vbi PP .len [zD] ze [v0] c fun c d=>zt PP .lss ze false (sl 0 b) c d fun c d=>vif c (y7 d fun c=>zo PP zD v0 (sl 0 b) c fun e f=>f=c∧zf PP zz e c fun e f=>f=c∧zo PP zD v1 (sl 0 b) c fun f g=>g=c∧zf PP zz f c fun f g=>g=c∧vcall PP Xm #[e,f] c fun c e=>vun PP .not c e fun c f=>f=e∧vif c (R (.bool false) e) (zt PP .add ze true (sl 0 b) (.int .i64 1) e fun b c=>a [b] c)) (R (.bool true) d))):vcall PP Yy #[v0,v1] w R:=zp {ord:=[(6,[0,1,2,3,4,5,6,7,8,9],[(0,[2,3,8,9]),(1,[2,3,8,9]),(2,[3,8,9]),(3,[8,9]),(4,[6,7,8,9]),(5,[6,7,8,9]),(6,[7,8,9]),(7,[8,9]),(8,[9])])],loops:=[(4,[5])]} Tryz.func22 (by kernel_rfl) (by kernel_rfl) h
theorem xo0 (h:yH PP zd v0 w fun a b=>yH PP zd v1 b fun b c=>zi PP zd a 0 c fun c d=>zf PP ze c d fun c d=>zi PP zd b 0 d fun d e=>zf PP ze d e fun d e=>zt PP .neq ze false c d e fun c d=>vif c (R (.bool false) d) (zi PP zd a 1 d fun c d=>zf PP ze c d fun c d=>zi PP zd b 1 d fun d e=>zf PP ze d e fun d e=>zt PP .neq ze false c d e fun c d=>vif c (R (.bool false) d) (zi PP zd a 2 d fun c d=>zf PP ze c d fun c d=>zi PP zd b 2 d fun d e=>zf PP ze d e fun d e=>zt PP .neq ze false c d e fun c d=>vif c (R (.bool false) d) (zi PP zd a 3 d fun c d=>zf PP zE c d fun c d=>zi PP zd b 3 d fun d e=>zf PP zE d e fun d e=>zt PP .neq zE false c d e fun c d=>vif c (R (.bool false) d) (zi PP zd a 4 d fun a c=>zf PP zr a c fun a c=>zi PP zd b 4 c fun b c=>zf PP zr b c fun b c=>vcall PP kD #[a,b] c fun a b=>vun PP .not a b fun a b=>vif a (R (.bool false) b) (R (.bool true) b)))))):vcall PP Xk #[v0,v1] w R:=zp {} Tryz.func23 (by kernel_rfl) (by kernel_rfl) h
theorem Um (h:yJ [v1,(.int .i64 0)] w fun a b _ c=>vbi PP .len [zD] ze [v0] c fun c d=>zt PP .lss ze false (sl 1 b) c d fun c d=>vif c (vcall PP qE #[(sl 0 b)] d fun c e=>zo PP zD v0 (sl 1 b) e fun e f=>zi PP zz e 0 f fun e f=>zu PP zE e c f fun _ c=>zt PP .add ze true (sl 0 b) (.int .i64 1) c fun c e=>zo PP zD v0 (sl 1 b) e fun e f=>zi PP zz e 1 f fun e f=>zu PP ze e c f fun _ e=>zt PP .add ze true c (.int .i64 1) e fun c e=>zt PP .add ze true (sl 1 b) (.int .i64 1) e fun e f=>a [c,e] f) (R (sl 0 b) d)):vcall PP kZ #[v0,v1] w R:=zp {loops:=[(2,[1,5])]} Tryz.func24 (by kernel_rfl) (by kernel_rfl) h
theorem zd0 (h:yJ [v1,(.int .i64 0)] w fun a b _ c=>vbi PP .len [zg] ze [v0] c fun c d=>zt PP .lss ze false (sl 1 b) c d fun c d=>vif c (zo PP zg v0 (sl 1 b) d fun c e=>zu PP ze c (sl 0 b) e fun _ c=>zt PP .add ze true (sl 0 b) (.int .i64 1) c fun c e=>zt PP .add ze true (sl 1 b) (.int .i64 1) e fun e f=>a [c,e] f) (R (sl 0 b) d)):vcall PP Zy #[v0,v1] w R:=zp {loops:=[(2,[1,5])]} Tryz.func27 (by kernel_rfl) (by kernel_rfl) h
theorem ze0 (h:yJ [v1,(.int .i64 0)] w fun a b _ c=>vbi PP .len [zg] ze [v0] c fun c d=>zt PP .lss ze false (sl 1 b) c d fun c d=>vif c (zo PP zg v0 (sl 1 b) d fun c e=>zf PP ze c e fun c e=>zt PP .neq ze false c (sl 0 b) e fun c e=>vif c (R (.int .i64 (-1)) e) (zt PP .add ze true (sl 0 b) (.int .i64 1) e fun c e=>zt PP .add ze true (sl 1 b) (.int .i64 1) e fun e f=>a [c,e] f)) (R (sl 0 b) d)):vcall PP Zz #[v0,v1] w R:=zp {loops:=[(2,[1,5])]} Tryz.func29 (by kernel_rfl) (by kernel_rfl) h
theorem zY0 (h:vbi PP .len [yr] ze [v0] w fun a b=>zt PP .sub ze false v1 a b fun a b=>zt PP .lss ze true a (.int .i64 0) b fun b c=>vif b (R (.int .i64 (-1)) c) (yJ [a,(.int .i64 0)] c fun a b _ c=>vbi PP .len [yr] ze [v0] c fun c d=>zt PP .lss ze false (sl 1 b) c d fun c d=>vif c (zo PP yr v0 (sl 1 b) d fun c e=>zf PP yb c e fun c e=>vcall PP Xi #[c,(sl 0 b)] e fun c e=>zt PP .lss ze true c (.int .i64 0) e fun e f=>vif e (R (.int .i64 (-1)) f) (zt PP .add ze true (sl 1 b) (.int .i64 1) f fun e f=>a [c,e] f)) (R (sl 0 b) d))):vcall PP kB #[v0,v1] w R:=zp {loops:=[(5,[1,5])]} Tryz.func30 (by kernel_rfl) (by kernel_rfl) h
theorem za0 (h:zZ PP zl w fun a b=>vcall PP XZ #[v0,v1] b fun b c=>vun PP .not b c fun b c=>vif b (zT PP zl [] c fun b d=>zu PP zl a b d fun _ b=>vlv PP zl a b fun b d=>R (.tuple #[b,(.bool false)]) d) (vcall PP XY #[v0,v1] c fun b c=>zk PP b 0 c fun c d=>zk PP b 1 d fun b d=>zu PP zl a c d fun _ c=>vlv PP zl a c fun a c=>R (.tuple #[a,b]) c)):vcall PP Zw #[v0,v1] w R:=zp {} Tryz.func31 (by kernel_rfl) (by kernel_rfl) h
theorem JD (h:vbi PP .len [yr] ze [v0] w fun a b=>Zr0 PP zr a a b fun a b=>yJ [(.int .i64 0)] b fun b c _ d=>vbi PP .len [yr] ze [v0] d fun d e=>zt PP .lss ze false (sl 0 c) d e fun d e=>vif d (zo PP yr v0 (sl 0 c) e fun d f=>zf PP yb d f fun d f=>vcall PP Zj #[d] f fun d f=>zo PP zr a (sl 0 c) f fun f g=>zu PP zd f d g fun _ d=>zt PP .add ze true (sl 0 c) (.int .i64 1) d fun c d=>b [c] d) (R a e)):vcall PP xQ #[v0] w R:=zp {loops:=[(3,[4])]} Tryz.func32 (by kernel_rfl) (by kernel_rfl) h
theorem zm0 (h:zZ PP zl w fun a b=>vcall PP ZB #[v0,v1] b fun b c=>zk PP b 0 c fun c d=>zk PP b 1 d fun b d=>zZ PP zl d fun d e=>zu PP zl d c e fun _ c=>y7 c fun c=>zf PP zl d c fun d e=>e=c∧zt PP .eql yd true b .nilIface c fun e f=>f=c∧zu PP zl a d c fun _ c=>(zt PP .eql yd true b .nilIface c fun b d=>b=e∧d=c)∧vlv PP zl a c fun a b=>R (.tuple #[a,e]) b):vcall PP jN #[v0,v1] w R:=zp {ord:=[(2,[0,1,2,3,4],[(0,[3,4]),(1,[2,4]),(2,[4]),(3,[4])])]} Tryz.func33 (by kernel_rfl) (by kernel_rfl) h
theorem qp0 (h:yH PP zl v0 w fun a b=>yH PP zl v1 b fun b c=>zi PP zl a 0 c fun c d=>zf PP ze c d fun c d=>zi PP zl b 0 d fun d e=>zf PP ze d e fun d e=>zt PP .neq ze false c d e fun c d=>vif c (R (.bool false) d) (zi PP zl a 1 d fun a c=>zf PP zB a c fun a c=>zi PP zl b 1 c fun b c=>zf PP zB b c fun b c=>vcall PP Yx #[a,b] c fun a b=>vun PP .not a b fun a b=>vif a (R (.bool false) b) (R (.bool true) b))):vcall PP jt #[v0,v1] w R:=zp {} Tryz.func34 (by kernel_rfl) (by kernel_rfl) h
theorem y20 (h:vbi PP .len [zr] ze [v0] w fun a b=>vbi PP .len [zr] ze [v1] b fun b c=>zt PP .neq ze false a b c fun a b=>vif a (R (.bool false) b) (yJ [(.int .i64 0)] b fun a b _ c=>vbi PP .len [zr] ze [v0] c fun c d=>zt PP .lss ze false (sl 0 b) c d fun c d=>vif c (y7 d fun c=>zo PP zr v0 (sl 0 b) c fun e f=>f=c∧zf PP zd e c fun e f=>f=c∧zo PP zr v1 (sl 0 b) c fun f g=>g=c∧zf PP zd f c fun f g=>g=c∧vcall PP Xk #[e,f] c fun c e=>vun PP .not c e fun c f=>f=e∧vif c (R (.bool false) e) (zt PP .add ze true (sl 0 b) (.int .i64 1) e fun b c=>a [b] c)) (R (.bool true) d))):vcall PP kD #[v0,v1] w R:=zp {ord:=[(6,[0,1,2,3,4,5,6,7,8,9],[(0,[2,3,8,9]),(1,[2,3,8,9]),(2,[3,8,9]),(3,[8,9]),(4,[6,7,8,9]),(5,[6,7,8,9]),(6,[7,8,9]),(7,[8,9]),(8,[9])])],loops:=[(4,[5])]} Tryz.func35 (by kernel_rfl) (by kernel_rfl) h
theorem Uk (h:yJ [v1,(.int .i64 0)] w fun a b _ c=>vbi PP .len [zr] ze [v0] c fun c d=>zt PP .lss ze false (sl 1 b) c d fun c d=>vif c (zo PP zr v0 (sl 1 b) d fun c e=>zi PP zd c 0 e fun c e=>zu PP ze c (sl 0 b) e fun _ c=>zt PP .add ze true (sl 0 b) (.int .i64 1) c fun c e=>zo PP zr v0 (sl 1 b) e fun e f=>zi PP zd e 1 f fun e f=>zu PP ze e c f fun _ e=>zt PP .add ze true c (.int .i64 1) e fun c e=>zo PP zr v0 (sl 1 b) e fun e f=>zi PP zd e 2 f fun e f=>zu PP ze e c f fun _ e=>zt PP .add ze true c (.int .i64 1) e fun c e=>vcall PP qE #[c] e fun e f=>zo PP zr v0 (sl 1 b) f fun f g=>zi PP zd f 3 g fun f g=>zu PP zE f e g fun _ e=>zt PP .add ze true c (.int .i64 1) e fun c e=>zo PP zr v0 (sl 1 b) e fun e f=>zi PP zd e 4 f fun e f=>zf PP zr e f fun e f=>vcall PP j8 #[e,c] f fun c e=>zt PP .add ze true (sl 1 b) (.int .i64 1) e fun e f=>a [c,e] f) (R (sl 0 b) d)):vcall PP j8 #[v0,v1] w R:=zp {loops:=[(2,[1,5])]} Tryz.func36 (by kernel_rfl) (by kernel_rfl) h
theorem y00 (h:yH PP zl v0 w fun a b=>zi PP zl a 1 b fun a b=>zf PP zB a b fun a b=>vcall PP kY #[a,v1] b fun a b=>R a b):vcall PP Yw #[v0,v1] w R:=zp {} Tryz.func37 (by kernel_rfl) (by kernel_rfl) h
theorem y10 (h:yH PP zl v0 w fun a b=>zi PP zl a 1 b fun a b=>zf PP zB a b fun a b=>vcall PP Z0 #[a,v1] b fun a b=>zt PP .lss ze true a (.int .i64 0) b fun b c=>vif b (R (.int .i64 (-1)) c) (R a c)):vcall PP kC #[v0,v1] w R:=zp {} Tryz.func38 (by kernel_rfl) (by kernel_rfl) h
theorem z80 (h:yH PP zd v1 w fun a b=>zf PP zd a b fun b c=>vcall PP jD #[b] c fun b c=>zk PP b 0 c fun c d=>zk PP b 1 d fun b d=>vcall PP Zi #[v0] d fun d e=>vun PP .not d e fun d e=>vif d (R (.int .i64 (-1)) e) (zt PP .gtr ze true c (.int .i64 20) e fun c d=>vif c (R (.int .i64 (-1)) d) (zt PP .gtr ze true b (.int .i64 7) d fun b c=>vif b (R (.int .i64 (-1)) c) (zf PP zd a c fun a b=>vcall PP qQ #[v0,a] b fun a b=>R a b)))):vcall PP Zv #[v0,v1] w R:=zp {} Tryz.func40 (by kernel_rfl) (by kernel_rfl) h
end Go.Proofs.YtaekfnbnhjgboaaGreatDoor
end
section
namespace Go.Proofs.YtaekfnbnhjgboaaGreatDoor
open Go Go.Vc Go.Proofs
variable {v0 v1 v2 v3 v4 v5 v6 v7 v8:Value} {w:World} {R:Value→World→Prop}
theorem zj0 (h:yH PP zd v1 w fun a b=>zf PP zd a b fun b c=>vcall PP ZE #[b] c fun b c=>zk PP b 0 c fun c d=>zk PP b 1 d fun _ b=>vcall PP Zp #[v0] b fun b d=>vun PP .not b d fun b d=>vif b (R (.int .i64 (-1)) d) (zt PP .gtr ze true c (.int .i64 20) d fun b c=>vif b (R (.int .i64 (-1)) c) (y7 c fun b=>zf PP zd a b fun c d=>d=b∧vcall PP kK #[] b fun b d=>(zf PP zd a d fun a e=>a=c∧e=d)∧vcall PP Zm #[b,v0,c] d fun a b=>R a b))):vcall PP ZD #[v0,v1] w R:=zp {ord:=[(4,[1,2,0,3,4],[(1,[3,4]),(2,[3,4]),(0,[3,4]),(3,[4])])]} Tryz.func47 (by kernel_rfl) (by kernel_rfl) h
theorem Wq (h:vcall PP Xn #[v0] w fun a b=>zT PP zj [(0,a)] b fun a b=>vcall PP Yz #[a] b fun a b=>zk PP a 0 b fun b c=>zk PP a 1 c fun _ a=>zT PP zX [(0,b)] a fun a b=>yH PP zX a b fun a b=>vcall PP kK #[] b fun b c=>Yf0 PP y9 none c fun c d=>zT PP zM [(0,a),(1,v0),(2,b),(3,c)] d fun a b=>yH PP zM a b fun a b=>R a b):vcall PP kp #[v0] w R:=zp {} Tryz.func57 (by kernel_rfl) (by kernel_rfl) h
theorem KF (h:yH PP zd v1 w fun a b=>y7 b fun b=>vnil PP v0 b fun c d=>d=b∧zi PP zM c 2 b fun c d=>d=b∧zf PP zC c b fun c d=>d=b∧zf PP zd a b fun d e=>e=b∧vcall PP Zl #[c,d] b fun b c=>vnil PP v0 c fun c d=>zi PP zM c 3 d fun c d=>zf PP y9 c d fun c d=>J3 PP y9 c b true d fun c d=>zk PP c 0 d fun d e=>zk PP c 1 e fun c e=>vif c (R d e) (zi PP zd a 4 e fun c d=>zf PP zr c d fun c d=>vbi PP .len [zr] ze [c] d fun d e=>yJ [(.slice none 0 0),(.int .i64 0)] e fun e f _ g=>zt PP .lss ze false (sl 1 f) d g fun d g=>vif d (zo PP zr c (sl 1 f) g fun c d=>zf PP zd c d fun c d=>zZ PP zd d fun d h=>zu PP zd d c h fun _ c=>zf PP zd d c fun c d=>vcall PP ql #[v0,c] d fun c d=>vbuildS PP zy 1 [(0,c)] d fun c d=>vbi PP .append [zy,zy] zy [(sl 0 f),c] d fun c d=>zt PP .add ze true (sl 1 f) (.int .i64 1) d fun d h=>e [c,d] h) (vnil PP v0 g fun c d=>zi PP zM c 0 d fun c d=>zf PP zQ c d fun c d=>vnil PP c d fun c d=>zi PP zX c 1 d fun c d=>zf PP yd c d fun c d=>zt PP .neq yd true c .nilIface d fun c d=>vif c (R (.slice none 0 0) d) (zf PP zd a d fun a c=>vcall PP jl #[v0,a,(sl 0 f)] c fun a c=>vnil PP v0 c fun c d=>zi PP zM c 3 d fun c d=>zf PP y9 c d fun c d=>kW PP y9 c b a d fun _ b=>R a b)))):vcall PP ql #[v0,v1] w R:=zp {ord:=[(1,[0,1,2,3,4,5,6],[(0,[1,2,3,5,6]),(1,[2,3,5,6]),(2,[3,5,6]),(3,[5,6]),(4,[5,6]),(5,[6])])],loops:=[(7,[8,32])]} Tryz.func58 (by kernel_rfl) (by kernel_rfl) h
theorem qR0 (h:yH PP zc v0 w fun a b=>yH PP zd v2 b fun b c=>zZ PP zc c fun c d=>vbuildS PP zB 0 [] d fun d e=>yJ [d,(.int .i64 0)] e fun d e _ f=>zi PP zd b 4 f fun f g=>zf PP zr f g fun f g=>vbi PP .len [zr] ze [f] g fun f g=>zt PP .lss ze false (sl 1 e) f g fun f g=>vif f (vbuildS PP zg 0 [] g fun _ f=>y7 f fun f=>zf PP zc a f fun h i=>i=f∧zi PP zd b 4 f fun i j=>j=f∧zf PP zr i f fun i j=>j=f∧zo PP zr i (sl 1 e) f fun i j=>j=f∧zf PP zd i f fun i j=>j=f∧vcall PP Xb #[h,v1,i] f fun f h=>zk PP f 0 h fun i j=>j=h∧zk PP f 1 h fun j k=>k=h∧zu PP zc a i h fun _ h=>(zk PP f 1 h fun f i=>f=j∧i=h)∧vbuildS PP zB 1 [(0,j)] h fun h j=>vbi PP .append [zB,zB] zB [(sl 0 e),h] j fun h j=>zt PP .add ze true (sl 1 e) (.int .i64 1) j fun j k=>d [h,j] k) (vbi PP .len [zB] ze [(sl 0 e)] g fun d g=>zt PP .eql ze true d (.int .i64 0) g fun d g=>vif d (y7 g fun d=>zf PP zc a d fun h j=>j=d∧zf PP zd b d fun j k=>k=d∧vcall PP Xa #[v1,j] d fun d j=>(zf PP zc a j fun f i=>f=h∧i=j)∧zu PP zc c h j fun _ h=>vlv PP zc c h fun h j=>R (.tuple #[h,d]) j) (zi PP zd b 0 g fun d g=>zf PP ze d g fun d g=>zt PP .eql ze true d (.int .i64 22) g fun d g=>vif d (y7 g fun d=>zf PP zc a d fun h j=>j=d∧zo PP zB (sl 0 e) (.int .i64 0) d fun j k=>k=d∧zf PP zg j d fun k l=>l=d∧zi PP zd b 2 d fun l m=>m=d∧zf PP ze l d fun m n=>n=d∧zi PP zd b 1 d fun n o=>o=d∧zf PP ze n d fun o p=>p=d∧zt PP .add ze true o (.int .i64 1) d fun p q=>q=d∧yA PP zg k (some m) (some p) none d fun q r=>r=d∧vbuildS PP zg 0 [] d fun d r=>(yA PP zg k (some m) (some p) none r fun f i=>f=q∧i=r)∧(zt PP .add ze true o (.int .i64 1) r fun f i=>f=p∧i=r)∧(zf PP ze n r fun f i=>f=o∧i=r)∧(zi PP zd b 1 r fun f i=>f=n∧i=r)∧(zf PP ze l r fun f i=>f=m∧i=r)∧(zi PP zd b 2 r fun f i=>f=l∧i=r)∧(zf PP zg j r fun f i=>f=k∧i=r)∧(zo PP zB (sl 0 e) (.int .i64 0) r fun f i=>f=j∧i=r)∧(zf PP zc a r fun f i=>f=h∧i=r)∧vbi PP .append [zg,zg] zg [d,q] r fun d j=>(zf PP zc a j fun f i=>f=h∧i=j)∧zu PP zc c h j fun _ h=>vlv PP zc c h fun h j=>R (.tuple #[h,d]) j) (zi PP zd b 0 g fun d g=>zf PP ze d g fun d g=>zt PP .gtr ze true d (.int .i64 22) g fun d g=>vif d (zf PP zc a g fun d h=>zf PP zd b h fun h j=>vcall PP Yq #[d,h,(sl 0 e)] j fun d h=>zk PP d 0 h fun h j=>zk PP d 1 j fun d j=>zu PP zc c h j fun _ h=>vlv PP zc c h fun h j=>R (.tuple #[h,d]) j) (vbi PP .len [zB] ze [(sl 0 e)] g fun d g=>zt PP .eql ze true d (.int .i64 1) g fun d g=>vif d (y7 g fun d=>zf PP zc a d fun h j=>j=d∧zi PP zd b 0 d fun j k=>k=d∧zf PP ze j d fun j k=>k=d∧zo PP zB (sl 0 e) (.int .i64 0) d fun k l=>l=d∧zf PP zg k d fun k l=>l=d∧vcall PP Kg #[h,j,k] d fun d h=>zk PP d 0 h fun j k=>k=h∧zk PP d 1 h fun d k=>k=h∧zu PP zc c j h fun _ h=>vlv PP zc c h fun h j=>R (.tuple #[h,d]) j) (zi PP zd b 0 g fun d g=>zf PP ze d g fun d g=>zt PP .geq ze true d (.int .i64 15) g fun d g=>vif d (y7 g fun d=>zf PP zc a d fun h j=>j=d∧zi PP zd b 0 d fun j k=>k=d∧zf PP ze j d fun j k=>k=d∧zo PP zB (sl 0 e) (.int .i64 0) d fun k l=>l=d∧zf PP zg k d fun k l=>l=d∧zo PP zB (sl 0 e) (.int .i64 1) d fun l m=>m=d∧zf PP zg l d fun l m=>m=d∧vcall PP Q2 #[h,j,k,l] d fun d h=>zk PP d 0 h fun j k=>k=h∧zk PP d 1 h fun k l=>l=h∧zu PP zc a j h fun _ h=>(zk PP d 1 h fun f i=>f=k∧i=h)∧zf PP zc a h fun d f=>vbuildS PP zg 1 [(0,k)] f fun f h=>zu PP zc c d h fun _ d=>vlv PP zc c d fun d h=>R (.tuple #[d,f]) h) (y7 g fun d=>zf PP zc a d fun a f=>f=d∧zi PP zd b 0 d fun b f=>f=d∧zf PP ze b d fun b f=>f=d∧zo PP zB (sl 0 e) (.int .i64 0) d fun f g=>g=d∧zf PP zg f d fun f g=>g=d∧zo PP zB (sl 0 e) (.int .i64 1) d fun e g=>g=d∧zf PP zg e d fun e g=>g=d∧vcall PP Q3 #[a,b,f,e] d fun a b=>zk PP a 0 b fun d e=>e=b∧zk PP a 1 b fun a e=>e=b∧zu PP zc c d b fun _ b=>vlv PP zc c b fun b c=>R (.tuple #[b,a]) c))))))):vcall PP Xb #[v0,v1,v2] w R:=zp {ord:=[(6,[0,1,2,3,4,5,6,7,8,9,10,11,12],[(0,[7,8,9,10,11,12]),(1,[7,8,9,10,11,12]),(2,[3,5,6,7,8,9,10,11,12]),(3,[5,6,7,8,9,10,11,12]),(4,[5,6,7,8,9,10,11,12]),(5,[6,7,8,9,10,11,12]),(6,[7,8,9,10,11,12]),(7,[8,9,10,11,12]),(8,[9,10,11,12]),(9,[11,12]),(10,[12]),(11,[12])]),(9,[0,1,2,3,4,5],[(0,[4,5]),(1,[3,4,5]),(2,[3,4,5]),(3,[4,5]),(4,[5])]),(11,[0,2,3,4,5,6,7,8,9,10,1,11,12,13],[(0,[12,13]),(2,[3,4,10,11,12,13]),(3,[4,10,11,12,13]),(4,[10,11,12,13]),(5,[6,10,11,12,13]),(6,[10,11,12,13]),(7,[8,9,10,11,12,13]),(8,[9,10,11,12,13]),(9,[10,11,12,13]),(10,[11,12,13]),(1,[11,12,13]),(11,[12,13]),(12,[13])]),(15,[0,1,2,3,4,5,6,7,8,9,10],[(0,[6,7,8,9,10]),(1,[2,6,7,8,9,10]),(2,[6,7,8,9,10]),(3,[4,5,6,7,8,9,10]),(4,[5,6,7,8,9,10]),(5,[6,7,8,9,10]),(6,[7,8,9,10]),(7,[9,10]),(8,[9,10]),(9,[10])]),(18,[0,1,2,3,4,5,6,7,8,9,10,11,12,13,14],[(0,[9,10,11,12,13,14]),(1,[2,9,10,11,12,13,14]),(2,[9,10,11,12,13,14]),(3,[4,5,9,10,11,12,13,14]),(4,[5,9,10,11,12,13,14]),(5,[9,10,11,12,13,14]),(6,[7,8,9,10,11,12,13,14]),(7,[8,9,10,11,12,13,14]),(8,[9,10,11,12,13,14]),(9,[10,11,12,13,14]),(10,[11,12,13,14]),(11,[13,14]),(12,[14]),(13,[14])]),(20,[0,1,2,3,4,5,6,7,8,9,10,11,12,13],[(0,[9,10,11,12,13]),(1,[2,9,10,11,12,13]),(2,[9,10,11,12,13]),(3,[4,5,9,10,11,12,13]),(4,[5,9,10,11,12,13]),(5,[9,10,11,12,13]),(6,[7,8,9,10,11,12,13]),(7,[8,9,10,11,12,13]),(8,[9,10,11,12,13]),(9,[10,11,12,13]),(10,[12,13]),(11,[12,13]),(12,[13])])],loops:=[(3,[8,9])]} Tryz.func62 (by kernel_rfl) (by kernel_rfl) h
theorem x90 (h:yJ [(.int .i64 0),(.int .i64 0)] w fun a b _ c=>vbi PP .len [zD] ze [v0] c fun c d=>zt PP .lss ze false (sl 1 b) c d fun c d=>vif c (zo PP zD v0 (sl 1 b) d fun c e=>zi PP zz c 1 e fun c e=>zf PP ze c e fun c e=>zt PP .add ze false (sl 0 b) c e fun c e=>zt PP .add ze true (sl 1 b) (.int .i64 1) e fun e f=>a [c,e] f) (R (sl 0 b) d)):vcall PP Zh #[v0] w R:=zp {loops:=[(3,[3,4])]} Tryz.func63 (by kernel_rfl) (by kernel_rfl) h
theorem xh0 (h:yJ [(.int .i64 0)] w fun a b _ c=>vbi PP .len [zE] ze [v0] c fun c d=>zt PP .lss ze false (sl 0 b) c d fun c d=>vif c (yo0 PP zE v0 (sl 0 b) d fun c e=>zt PP .lss kz true c (.int .u8 97) e fun c e=>vif c (R (.bool false) e) (yo0 PP zE v0 (sl 0 b) e fun c e=>zt PP .gtr kz true c (.int .u8 122) e fun c e=>vif c (R (.bool false) e) (zt PP .add ze true (sl 0 b) (.int .i64 1) e fun b c=>a [b] c))) (vbi PP .len [zE] ze [v0] d fun a b=>zt PP .geq ze true a (.int .i64 1) b fun a b=>vif a (vbi PP .len [zE] ze [v0] b fun a c=>zt PP .leq ze true a (.int .i64 4) c fun a c=>vif a (zt PP .neq zE true v0 (.string {data:= #[116,114,117,101]}) c fun a d=>R a d) (R (.bool false) c)) (R (.bool false) b))):vcall PP Xf #[v0] w R:=zp {loops:=[(2,[3])]} Tryz.func64 (by kernel_rfl) (by kernel_rfl) h
theorem xi0 (h:yJ [(.int .i64 0)] w fun a b _ c=>vbi PP .len [zD] ze [v0] c fun c d=>zt PP .lss ze false (sl 0 b) c d fun c d=>vif c (zo PP zD v0 (sl 0 b) d fun c e=>zi PP zz c 0 e fun c e=>zf PP zE c e fun c e=>zt PP .eql zE false c v1 e fun c e=>vif c (R (sl 0 b) e) (zt PP .add ze true (sl 0 b) (.int .i64 1) e fun b c=>a [b] c)) (R (.int .i64 (-1)) d)):vcall PP jC #[v0,v1] w R:=zp {loops:=[(2,[5])]} Tryz.func65 (by kernel_rfl) (by kernel_rfl) h
theorem qu0 (h:yH PP zb v0 w fun a b=>y7 b fun b=>zi PP zb a 0 b fun c d=>d=b∧zf PP ze c b fun c d=>d=b∧zt PP .geq ze true c (.int .i64 1) b fun c d=>d=b∧vif c (zi PP zb a 0 b fun c d=>d=b∧zf PP ze c b fun c d=>d=b∧zt PP .leq ze true c (.int .i64 4) b fun c d=>d=b∧vif c (zi PP zb a 1 b fun c d=>d=b∧zf PP ze c b fun c d=>d=b∧zt PP .geq ze true c (.int .i64 0) b fun c d=>d=b∧vif c (zi PP zb a 1 b fun c d=>d=b∧zf PP ze c b fun c d=>d=b∧zi PP zb a 0 b fun a d=>d=b∧zf PP ze a b fun a d=>d=b∧zt PP .shl ze true (.int .i64 1) a b fun a d=>d=b∧zt PP .lss ze false c a b fun a c=>c=b∧R a b) (R (.bool false) b)) (R (.bool false) b)) (R (.bool false) b)):vcall PP xG #[v0] w R:=zp {ord:=[(1,[0,1,2,3,4,5,6,7,8,9,10,11,12,13,14,15,16,17,18,19,20,21],[(0,[1,2,3,4,5,6,7,8,9,10,11,12,13,14,15,16,17,18,19,20,21]),(1,[2,3,4,5,6,7,8,9,10,11,12,13,14,15,16,17,18,19,20,21]),(2,[3,4,5,6,7,8,9,10,11,12,13,14,15,16,17,18,19,20,21]),(3,[4,5,6,7,8,9,10,11,12,13,14,15,16,17,18,19,20,21]),(4,[5,6,7,8,9,10,11,12,13,14,15,16,17,18,19,20,21]),(5,[6,7,8,9,10,11,12,13,14,15,16,17,18,19,20,21]),(6,[7,8,9,10,11,12,13,14,15,16,17,18,19,20,21]),(7,[8,9,10,11,12,13,14,15,16,17,18,19,20,21]),(8,[9,10,11,12,13,14,15,16,17,18,19,20,21]),(9,[10,11,12,13,14,15,16,17,18,19,20,21]),(10,[11,12,13,14,15,16,17,18,19,20,21]),(11,[12,13,14,15,16,17,18,19,20,21]),(12,[13,14,15,16,17,18,19,20,21]),(13,[14,15,16,17,18,19,20,21]),(14,[15,19,20,21]),(15,[19,20,21]),(16,[17,18,19,20,21]),(17,[18,19,20,21]),(18,[19,20,21]),(19,[20,21]),(20,[21])])]} Tryz.func66 (by kernel_rfl) (by kernel_rfl) h
theorem xn0 (h:yH PP yQ v0 w fun a b=>zi PP yQ a 0 b fun a b=>zf PP zE a b fun a b=>vbi PP .len [zE] ze [a] b fun a b=>zt PP .sub ze false v1 a b fun a b=>zt PP .lss ze true a (.int .i64 0) b fun b c=>vif b (R (.int .i64 (-1)) c) (R a c)):vcall PP Xj #[v0,v1] w R:=zp {} Tryz.func70 (by kernel_rfl) (by kernel_rfl) h
theorem xl0 (h:yH PP yQ v0 w fun a b=>zZ PP zz b fun b c=>zZ PP zz c fun c d=>zi PP yQ a 0 d fun d e=>zf PP zE d e fun d e=>zi PP zz c 0 e fun e f=>zu PP zE e d f fun _ d=>zi PP yQ a 1 d fun a d=>zf PP ze a d fun a d=>zi PP zz c 1 d fun d e=>zu PP ze d a e fun _ a=>zf PP zz c a fun a c=>zu PP zz b a c fun _ a=>vlv PP zz b a fun a b=>R a b):vcall PP Xh #[v0] w R:=zp {} Tryz.func71 (by kernel_rfl) (by kernel_rfl) h
theorem xq0 (h:yH PP zz v0 w fun a b=>yH PP zz v1 b fun b c=>zi PP zz a 0 c fun c d=>zf PP zE c d fun c d=>zi PP zz b 0 d fun d e=>zf PP zE d e fun d e=>zt PP .neq zE false c d e fun c d=>vif c (R (.bool false) d) (zi PP zz a 1 d fun a c=>zf PP ze a c fun a c=>zi PP zz b 1 c fun b c=>zf PP ze b c fun b c=>zt PP .neq ze false a b c fun a b=>vif a (R (.bool false) b) (R (.bool true) b))):vcall PP Xm #[v0,v1] w R:=zp {} Tryz.func73 (by kernel_rfl) (by kernel_rfl) h
theorem zc0 (h:zt PP .leq ze true v0 (.int .i64 0) w fun a b=>vif a (R (.string {data:= #[109,48]}) b) (yJ [v0,(.string {data:= #[]})] b fun a b _ c=>zt PP .gtr ze true (sl 0 b) (.int .i64 0) c fun c d=>vif c (zt PP .rem ze true (sl 0 b) (.int .i64 10) d fun c e=>zt PP .add ze true (.int .i64 48) c e fun c e=>Yn PP ze kz c e fun c e=>vbuildS PP yD 1 [(0,c)] e fun c e=>Yn PP yD zE c e fun c e=>zt PP .add zE false c (sl 1 b) e fun c e=>zt PP .quo ze true (sl 0 b) (.int .i64 10) e fun e f=>a [e,c] f) (zt PP .add zE true (.string {data:= #[109]}) (sl 1 b) d fun a b=>R a b))):vcall PP qE #[v0] w R:=zp {loops:=[(4,[0,3])]} Tryz.func74 (by kernel_rfl) (by kernel_rfl) h
theorem q50 (h:xL (fun a=>vcall PP Zi #[v0] w fun b c=>vun PP .not b c fun b c=>vif b (R (.bool false) c) (vbi PP .len [zr] ze [v1] c fun b c=>zt PP .gtr ze true b (.int .i64 8) c fun b c=>vif b (R (.bool false) c) (a [] c))) (fun _ _ a=>yJ [(.int .i64 0)] a fun a b _ c=>vbi PP .len [zr] ze [v1] c fun c d=>zt PP .lss ze false (sl 0 b) c d fun c d=>vif c (zo PP zr v1 (sl 0 b) d fun c e=>zf PP zd c e fun c e=>vcall PP Zv #[v0,c] e fun c e=>zt PP .neq ze true c (.int .i64 0) e fun c e=>vif c (R (.bool false) e) (zt PP .add ze true (sl 0 b) (.int .i64 1) e fun b c=>a [b] c)) (R (.bool true) d))):vcall PP XZ #[v0,v1] w R:=zp {loops:=[(4,[5])],cuts:=[(8195,[])]} Tryz.func77 (by kernel_rfl) (by kernel_rfl) h
theorem q40 (h:zZ PP zl w fun a b=>vcall PP Zh #[v0] b fun b c=>zT PP zj [(0,b)] c fun b c=>zT PP zc [(0,b),(1,(.bool true))] c fun b c=>zZ PP zc c fun c d=>zu PP zc c b d fun _ b=>vbuildS PP zg 0 [] b fun b d=>yJ [b,(.int .i64 0)] d fun b d _ e=>vbi PP .len [zr] ze [v1] e fun e f=>zt PP .lss ze false (sl 1 d) e f fun e f=>vif e (vbuildS PP zg 0 [] f fun _ e=>y7 e fun e=>zf PP zc c e fun g h=>h=e∧zo PP zr v1 (sl 1 d) e fun h i=>i=e∧zf PP zd h e fun h i=>i=e∧vcall PP Xb #[g,v0,h] e fun e g=>zk PP e 0 g fun h i=>i=g∧zk PP e 1 g fun i j=>j=g∧zu PP zc c h g fun _ g=>(zk PP e 1 g fun e h=>e=i∧h=g)∧zo PP zg i (.int .i64 0) g fun g i=>zf PP ze g i fun g i=>vbuildS PP zg 1 [(0,g)] i fun g i=>vbi PP .append [zg,zg] zg [(sl 0 d),g] i fun g i=>zt PP .add ze true (sl 1 d) (.int .i64 1) i fun i j=>b [g,i] j) (zi PP zc c 1 f fun b f=>zf PP kO b f fun b f=>vun PP .not b f fun b f=>vif b (zT PP zl [] f fun b g=>zu PP zl a b g fun _ b=>vlv PP zl a b fun b g=>R (.tuple #[b,(.bool false)]) g) (zi PP zc c 0 f fun b c=>zf PP zj b c fun b c=>vcall PP Q5 #[b] c fun b c=>zZ PP zl c fun c f=>zu PP zl c b f fun _ b=>yJ [(.int .i64 0)] b fun b f _ g=>vbi PP .len [zg] ze [(sl 0 d)] g fun g i=>zt PP .lss ze false (sl 0 f) g i fun g i=>vif g (y7 i fun g=>zi PP zl c 1 g fun j k=>k=g∧zf PP zB j g fun k l=>l=g∧zo PP zg (sl 0 d) (sl 0 f) g fun d l=>l=g∧zf PP ze d g fun d l=>l=g∧vbuildS PP zg 1 [(0,d)] g fun d g=>(zf PP zB j g fun e h=>e=k∧h=g)∧(zi PP zl c 1 g fun e h=>e=j∧h=g)∧vbuildS PP zB 1 [(0,d)] g fun d g=>(zf PP zB j g fun e h=>e=k∧h=g)∧(zi PP zl c 1 g fun e h=>e=j∧h=g)∧vbi PP .append [zB,zB] zB [k,d] g fun d e=>zi PP zl c 1 e fun g h=>h=e∧zu PP zB g d e fun _ d=>zt PP .add ze true (sl 0 f) (.int .i64 1) d fun d e=>b [d] e) (zf PP zl c i fun b c=>zu PP zl a b c fun _ b=>vlv PP zl a b fun a b=>R (.tuple #[a,(.bool true)]) b)))):vcall PP XY #[v0,v1] w R:=zp {ord:=[(7,[0,1,2,3,4,5,6,7,8,9,10,11],[(0,[6,7,8,9,10,11]),(1,[6,7,8,9,10,11]),(2,[4,5,6,7,8,9,10,11]),(3,[4,5,6,7,8,9,10,11]),(4,[5,6,7,8,9,10,11]),(5,[6,7,8,9,10,11]),(6,[7,8,9,10,11]),(7,[8,9,10,11]),(8,[10,11]),(9,[11]),(10,[11])]),(15,[0,1,2,3,4,5,6,7,8,9,10],[(0,[1,8,9,10]),(1,[8,9,10]),(2,[4,5,6,7,8,9,10]),(3,[4,5,6,7,8,9,10]),(4,[5,6,7,8,9,10]),(5,[6,7,8,9,10]),(6,[7,8,9,10]),(7,[8,9,10]),(8,[9,10]),(9,[10])])],loops:=[(4,[7,8]),(13,[11])]} Tryz.func78 (by kernel_rfl) (by kernel_rfl) h
theorem zg0 (h:yH PP zD v0 w fun a b=>zZ PP zl b fun b c=>xL (fun d=>vbi PP .len [zr] ze [v1] c fun c e=>zt PP .gtr ze true c (.int .i64 8) e fun c e=>vif c (y7 e fun c=>zT PP zl [] c fun f g=>g=c∧zf PP yd (.pointer (some ⟨yy,0,none⟩)) c fun g h=>h=c∧zu PP zl b f c fun _ c=>(zf PP yd (.pointer (some ⟨yy,0,none⟩)) c fun f h=>f=g∧h=c)∧vlv PP zl b c fun c i=>R (.tuple #[c,g]) i) (zf PP zD a e fun c e=>vcall PP Zp #[c] e fun c e=>vun PP .not c e fun c e=>vif c (y7 e fun c=>zT PP zl [] c fun g i=>i=c∧zf PP yd (.pointer (some ⟨yy,0,none⟩)) c fun i j=>j=c∧zu PP zl b g c fun _ c=>(zf PP yd (.pointer (some ⟨yy,0,none⟩)) c fun f h=>f=i∧h=c)∧vlv PP zl b c fun c g=>R (.tuple #[c,i]) g) (d [] e))) (fun _ _ c=>kY0 PP (.func YL) [] [a] c fun c d=>vcall PP yF #[v1,c] d fun c d=>vif c (y7 d fun c=>zT PP zl [] c fun e g=>g=c∧zf PP yd (.pointer (some ⟨yy,0,none⟩)) c fun g i=>i=c∧zu PP zl b e c fun _ c=>(zf PP yd (.pointer (some ⟨yy,0,none⟩)) c fun f h=>f=g∧h=c)∧vlv PP zl b c fun c e=>R (.tuple #[c,g]) e) (zf PP zD a d fun a c=>vcall PP kp #[a] c fun a c=>vbi PP .len [zr] ze [v1] c fun c d=>yJ [(.slice none 0 0),(.int .i64 0)] d fun d e _ g=>zt PP .lss ze false (sl 1 e) c g fun c g=>vif c (zo PP zr v1 (sl 1 e) g fun c i=>zf PP zd c i fun c i=>zZ PP zd i fun i j=>zu PP zd i c j fun _ c=>zf PP zd i c fun c i=>vcall PP ql #[a,c] i fun c i=>vnil PP a i fun i j=>zi PP zM i 0 j fun i j=>zf PP zQ i j fun i j=>vnil PP i j fun i j=>zi PP zX i 1 j fun i j=>zf PP yd i j fun i j=>zt PP .eql yd true i .nilIface j fun i j=>vif i (zo PP za c (.int .i64 0) j fun c i=>zf PP zq c i fun c i=>vbuildS PP zg 1 [(0,c)] i fun c i=>vbuildS PP zB 1 [(0,c)] i fun c i=>vbi PP .append [zB,zB] zB [(sl 0 e),c] i fun c i=>zt PP .add ze true (sl 1 e) (.int .i64 1) i fun i k=>d [c,i] k) (zt PP .add ze true (sl 1 e) (.int .i64 1) j fun c i=>d [(sl 0 e),c] i)) (y7 g fun c=>vnil PP a c fun d g=>g=c∧zi PP zM d 0 c fun d g=>g=c∧zf PP zQ d c fun d g=>g=c∧vnil PP d c fun d g=>g=c∧zi PP zX d 1 c fun d g=>g=c∧zf PP yd d c fun d g=>g=c∧zf PP yd (.pointer (some ⟨xy,0,none⟩)) c fun g i=>i=c∧vcall PP Kh #[d,g] c fun c d=>vif c (y7 d fun c=>zT PP zl [] c fun g i=>i=c∧zf PP yd (.pointer (some ⟨xy,0,none⟩)) c fun i j=>j=c∧zu PP zl b g c fun _ c=>(zf PP yd (.pointer (some ⟨xy,0,none⟩)) c fun f h=>f=i∧h=c)∧vlv PP zl b c fun c f=>R (.tuple #[c,i]) f) (vnil PP a d fun a c=>zi PP zM a 0 c fun a c=>zf PP zQ a c fun a c=>vnil PP a c fun a c=>zi PP zX a 0 c fun a c=>zf PP jc a c fun a c=>vcall PP jI #[a] c fun a c=>zZ PP zl c fun c d=>zu PP zl c a d fun _ a=>zi PP zl c 1 a fun a d=>zf PP zB a d fun a d=>vbi PP .append [zB,zB] zB [a,(sl 0 e)] d fun a d=>zi PP zl c 1 d fun d e=>zu PP zB d a e fun _ a=>zf PP zl c a fun a c=>zu PP zl b a c fun _ a=>vlv PP zl b a fun a b=>R (.tuple #[a,.nilIface]) b))))):vcall PP ZB #[v0,v1] w R:=zp {ord:=[(2,[0,1,2,3],[(0,[2,3]),(1,[3]),(2,[3])]),(4,[0,1,2,3],[(0,[2,3]),(1,[3]),(2,[3])]),(14,[0,1,2,3,4,5,6,7,8],[(0,[1,2,3,4,5,6,8]),(1,[2,3,4,5,6,8]),(2,[3,4,5,6,8]),(3,[4,5,6,8]),(4,[5,6,8]),(5,[6,8]),(6,[8]),(7,[8])]),(15,[0,1,2,3],[(0,[2,3]),(1,[3]),(2,[3])])],loops:=[(8,[7,31])],cuts:=[(8195,[])]} Tryz.func79 (by kernel_rfl) (by kernel_rfl) h
theorem y30 (h:vbi PP .len [zB] ze [v0] w fun a b=>vbi PP .len [zB] ze [v1] b fun b c=>zt PP .neq ze false a b c fun a b=>vif a (R (.bool false) b) (yJ [(.int .i64 0)] b fun a b _ c=>vbi PP .len [zB] ze [v0] c fun c d=>zt PP .lss ze false (sl 0 b) c d fun c d=>vif c (y7 d fun c=>zo PP zB v0 (sl 0 b) c fun e f=>f=c∧zf PP zg e c fun e f=>f=c∧zo PP zB v1 (sl 0 b) c fun f g=>g=c∧zf PP zg f c fun f g=>g=c∧vcall PP Xl #[e,f] c fun c e=>vun PP .not c e fun c f=>f=e∧vif c (R (.bool false) e) (zt PP .add ze true (sl 0 b) (.int .i64 1) e fun b c=>a [b] c)) (R (.bool true) d))):vcall PP Yx #[v0,v1] w R:=zp {ord:=[(6,[0,1,2,3,4,5,6,7,8,9],[(0,[2,3,8,9]),(1,[2,3,8,9]),(2,[3,8,9]),(3,[8,9]),(4,[6,7,8,9]),(5,[6,7,8,9]),(6,[7,8,9]),(7,[8,9]),(8,[9])])],loops:=[(4,[5])]} Tryz.func80 (by kernel_rfl) (by kernel_rfl) h
theorem Ul (h:yJ [v1,(.int .i64 0)] w fun a b _ c=>vbi PP .len [zB] ze [v0] c fun c d=>zt PP .lss ze false (sl 1 b) c d fun c d=>vif c (zo PP zB v0 (sl 1 b) d fun c e=>zf PP zg c e fun c e=>vcall PP Zy #[c,(sl 0 b)] e fun c e=>zt PP .add ze true (sl 1 b) (.int .i64 1) e fun e f=>a [c,e] f) (R (sl 0 b) d)):vcall PP kY #[v0,v1] w R:=zp {loops:=[(2,[1,5])]} Tryz.func81 (by kernel_rfl) (by kernel_rfl) h
theorem Un (h:yJ [v1,(.int .i64 0)] w fun a b _ c=>vbi PP .len [zB] ze [v0] c fun c d=>zt PP .lss ze false (sl 1 b) c d fun c d=>vif c (zo PP zB v0 (sl 1 b) d fun c e=>zf PP zg c e fun c e=>vcall PP Zz #[c,(sl 0 b)] e fun c e=>zt PP .lss ze true c (.int .i64 0) e fun e f=>vif e (R (.int .i64 (-1)) f) (zt PP .add ze true (sl 1 b) (.int .i64 1) f fun e f=>a [c,e] f)) (R (sl 0 b) d)):vcall PP Z0 #[v0,v1] w R:=zp {loops:=[(2,[1,5])]} Tryz.func82 (by kernel_rfl) (by kernel_rfl) h
theorem z90 (h:yH PP zd v0 w fun a b=>yJ [(.int .i64 1),(.int .i64 0),(.int .i64 0)] b fun b c _ d=>xL (fun e=>zi PP zd a 4 d fun d f=>zf PP zr d f fun d f=>vbi PP .len [zr] ze [d] f fun d f=>zt PP .lss ze false (sl 2 c) d f fun d f=>vif d (zt PP .leq ze true (sl 0 c) (.int .i64 20) f fun d g=>vif d (e [] g) (zt PP .add ze true (sl 1 c) (.int .i64 1) g fun d e=>zt PP .gtr ze true (sl 0 c) (.int .i64 20) e fun e g=>vif e (R (.tuple #[(.int .i64 21),(.int .i64 8)]) g) (zt PP .gtr ze true d (.int .i64 7) g fun e g=>vif e (R (.tuple #[(.int .i64 21),(.int .i64 8)]) g) (R (.tuple #[(sl 0 c),d]) g)))) (zt PP .add ze true (sl 1 c) (.int .i64 1) f fun d e=>zt PP .gtr ze true (sl 0 c) (.int .i64 20) e fun e f=>vif e (R (.tuple #[(.int .i64 21),(.int .i64 8)]) f) (zt PP .gtr ze true d (.int .i64 7) f fun e f=>vif e (R (.tuple #[(.int .i64 21),(.int .i64 8)]) f) (R (.tuple #[(sl 0 c),d]) f)))) (fun _ _ d=>zi PP zd a 4 d fun a d=>zf PP zr a d fun a d=>zo PP zr a (sl 2 c) d fun a d=>zf PP zd a d fun a d=>vcall PP jD #[a] d fun a d=>zk PP a 0 d fun d e=>zk PP a 1 e fun a e=>zt PP .add ze false (sl 0 c) d e fun d e=>vcall PP Q8 #[(sl 1 c),a] e fun a e=>zt PP .add ze true (sl 2 c) (.int .i64 1) e fun c e=>b [d,a,c] e)):vcall PP jD #[v0] w R:=zp {loops:=[(4,[4,5,6])],cuts:=[(20486,[])]} Tryz.func84 (by kernel_rfl) (by kernel_rfl) h
theorem xg0 (h:yH PP zd v1 w fun a b=>zf PP zd a b fun b c=>vcall PP Yt #[b] c fun b c=>vun PP .not b c fun b c=>vif b (R (.int .i64 (-1)) c) (zi PP zd a 0 c fun b c=>zf PP ze b c fun b c=>zt PP .eql ze true b (.int .i64 20) c fun c d=>vif c (zi PP zd a 1 d fun c e=>zf PP ze c e fun c e=>zi PP zd a 2 e fun e f=>zf PP ze e f fun e f=>zT PP zb [(0,c),(1,e)] f fun c e=>vcall PP Qa #[c] e fun c e=>vif c (zi PP zd a 1 e fun c f=>zf PP ze c f fun c f=>R c f) (R (.int .i64 (-1)) e)) (zt PP .eql ze true b (.int .i64 21) d fun c d=>vif c (zi PP zd a 3 d fun c e=>zf PP zE c e fun c e=>vcall PP jC #[v0,c] e fun c e=>zt PP .lss ze true c (.int .i64 0) e fun e f=>vif e (R (.int .i64 (-1)) f) (zo PP zD v0 c f fun c e=>zi PP zz c 1 e fun c e=>zf PP ze c e fun c e=>R c e)) (zt PP .eql ze true b (.int .i64 24) d fun b c=>vif b (R (.int .i64 0) c) (zi PP zd a 4 c fun b c=>zf PP zr b c fun b c=>zo PP zr b (.int .i64 0) c fun b c=>zf PP zd b c fun b c=>vcall PP qQ #[v0,b] c fun b c=>zi PP zd a 4 c fun c d=>zf PP zr c d fun c d=>vbi PP .len [zr] ze [c] d fun c d=>zt PP .eql ze true c (.int .i64 1) d fun c d=>vif c (zf PP zd a d fun c e=>vcall PP Q7 #[c,b] e fun c e=>R c e) (zi PP zd a 4 d fun c d=>zf PP zr c d fun c d=>zo PP zr c (.int .i64 1) d fun c d=>zf PP zd c d fun c d=>vcall PP qQ #[v0,c] d fun c d=>zi PP zd a 4 d fun d e=>zf PP zr d e fun d e=>vbi PP .len [zr] ze [d] e fun d e=>zt PP .eql ze true d (.int .i64 2) e fun d e=>vif d (zi PP zd a 0 e fun d f=>zf PP ze d f fun d f=>vcall PP Xg #[d,b,c] f fun d f=>R d f) (zt PP .neq ze true b (.int .i64 0) e fun b d=>vif b (R (.int .i64 (-1)) d) (zi PP zd a 4 d fun a b=>zf PP zr a b fun a b=>zo PP zr a (.int .i64 2) b fun a b=>zf PP zd a b fun a b=>vcall PP qQ #[v0,a] b fun a b=>zt PP .neq ze false c a b fun a b=>vif a (R (.int .i64 (-1)) b) (R c b))))))))):vcall PP qQ #[v0,v1] w R:=zp {} Tryz.func85 (by kernel_rfl) (by kernel_rfl) h
theorem xz0 (h:vbi PP .len [zD] ze [v0] w fun a b=>zt PP .gtr ze true a (.int .i64 4) b fun a b=>vif a (R (.bool false) b) (vbi PP .len [zD] ze [v0] b fun a b=>yJ [(.int .i64 0),(.int .i64 0)] b fun b c _ d=>zt PP .lss ze false (sl 1 c) a d fun a d=>vif a (zo PP zD v0 (sl 1 c) d fun a e=>zf PP zz a e fun a e=>zZ PP zz e fun e f=>zu PP zz e a f fun _ a=>xL (fun f=>zi PP zz e 0 a fun a g=>zf PP zE a g fun a g=>vbi PP .len [zE] ze [a] g fun a g=>zt PP .lss ze true a (.int .i64 1) g fun a g=>vif a (R (.bool false) g) (zi PP zz e 0 g fun a g=>zf PP zE a g fun a g=>vbi PP .len [zE] ze [a] g fun a g=>zt PP .gtr ze true a (.int .i64 4) g fun a g=>vif a (R (.bool false) g) (zi PP zz e 0 g fun a g=>zf PP zE a g fun a g=>zt PP .eql zE true a (.string {data:= #[116,114,117,101]}) g fun a g=>vif a (R (.bool false) g) (zi PP zz e 0 g fun a g=>zf PP zE a g fun a g=>vcall PP JA #[a,(.string {data:= #[97,98,99,100,101,102,103,104,105,106,107,108,109,110,111,112,113,114,115,116,117,118,119,120,121,122]})] g fun a g=>zt PP .neq zE true a (.string {data:= #[]}) g fun a g=>vif a (R (.bool false) g) (f [] g))))) (fun _ _ a=>yA PP zD v0 none (some (sl 1 c)) none a fun a f=>kY0 PP (.func Qc) [] [e] f fun f g=>vcall PP yG #[a,f] g fun a f=>vif a (R (.bool false) f) (zi PP zz e 1 f fun a f=>zf PP ze a f fun a f=>zt PP .lss ze true a (.int .i64 1) f fun a f=>vif a (R (.bool false) f) (zi PP zz e 1 f fun a f=>zf PP ze a f fun a f=>zt PP .gtr ze true a (.int .i64 4) f fun a f=>vif a (R (.bool false) f) (zi PP zz e 1 f fun a e=>zf PP ze a e fun a e=>zt PP .add ze false (sl 0 c) a e fun a e=>zt PP .add ze true (sl 1 c) (.int .i64 1) e fun e f=>b [a,e] f))))) (zt PP .leq ze true (sl 0 c) (.int .i64 8) d fun a b=>R a b))):vcall PP Zp #[v0] w R:=zp {loops:=[(5,[3,11])],cuts:=[(32777,[])]} Tryz.func86 (by kernel_rfl) (by kernel_rfl) h
end Go.Proofs.YtaekfnbnhjgboaaGreatDoor
end
