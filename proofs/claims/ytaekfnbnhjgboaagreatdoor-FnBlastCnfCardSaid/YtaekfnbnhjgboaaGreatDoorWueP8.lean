import Derived.Test.YtaekfnbnhjgboaaGreatDoorWueP7
import Derived.Test.YtaekfnbnhjgboaaGreatDoorWueP2
import Derived.Test.YtaekfnbnhjgboaaGreatDoorWueP1
import Derived.Laws.CopyRow
import Derived.Laws.IdiomCopy
/- A part of the proof. -/
set_option linter.unusedVariables false
set_option linter.unusedSimpArgs false
set_option linter.unnecessarySimpa false
set_option linter.unusedSectionVars false
section
namespace Go.M
namespace Bd
theorem reach_inv {α β:Type} {p:Bd α} {f:α→Bd β} {b:β} (h:(p.bind f).Reach b):∃a,p.Reach a∧(f a).Reach b:=by
 induction p with
 |ret a=>exact⟨a,rfl,h⟩
 |and x y k g=>obtain⟨v,e⟩:=h;obtain⟨a,c,d⟩:=g v e;exact⟨a,⟨v,c⟩,d⟩
 |xor x y k g=>obtain⟨v,e⟩:=h;obtain⟨a,c,d⟩:=g v e;exact⟨a,⟨v,c⟩,d⟩
theorem reach_map {α β:Type} {p:Bd α} {f:α→β} {b:β} (h:(p.map f).Reach b):∃a,p.Reach a∧b=f a:=by
 obtain⟨a,c,d⟩:=reach_inv h
 exact⟨a,c,d⟩
end Bd
theorem sum_len:∀{xs ys:List Int} {c:Int} {r:List Int},(sumB xs ys c).Reach r→r.length=min xs.length ys.length
 |[],_,c,r,h=>by cases h;simp
 |_::_,[],c,r,h=>by cases h;simp
 |x::xs,y::ys,c,r,h=>by
  obtain⟨v1,v2,v3,v4,h⟩:=h
  obtain⟨c',_,h⟩:=Bd.reach_inv h
  obtain⟨b,a,rfl⟩:=Bd.reach_map h
  rw[List.length_cons,sum_len a,List.length_cons,List.length_cons];omega
theorem each_len {f:Int→Int→Bd Int}:∀{xs ys:List Int} {r:List Int},(eachB f xs ys).Reach r→r.length=min xs.length ys.length
 |[],_,r,h=>by cases h;simp
 |_::_,[],r,h=>by cases h;simp
 |x::xs,y::ys,r,h=>by
  obtain⟨s,_,h⟩:=Bd.reach_inv h
  obtain⟨b,a,rfl⟩:=Bd.reach_map h
  rw[List.length_cons,each_len a,List.length_cons,List.length_cons];omega
theorem row_len {s:Int}:∀{xs:List Int} {r:List Int},(rowB s xs).Reach r→r.length=xs.length
 |[],r,h=>by cases h;rfl
 |x::xs,r,h=>by
  obtain⟨v,h⟩:=h
  obtain⟨b,a,rfl⟩:=Bd.reach_map h
  rw[List.length_cons,row_len a,List.length_cons]
theorem mul_len {xs:List Int}:∀{ys:List Int} {i:Nat} {s r:List Int},i+ys.length≤xs.length→s.length=xs.length→(mulB xs ys i s).Reach r→r.length=xs.length
 |[],i,s,r,_,hs,h=>by cases h;exact hs
 |y::ys,i,s,r,hi,hs,h=>by
  rw[List.length_cons] at hi
  obtain⟨w,hw,h⟩:=Bd.reach_inv h
  obtain⟨d,b,h⟩:=Bd.reach_inv h
  have c:=row_len hw
  have a:=sum_len b
  rw[List.length_append,c,List.length_take] at a
  unfold offsL at a
  rw[List.length_replicate] at a
  exact mul_len (by omega) (by omega) h
theorem negL_len (xs:List Int):(negL xs).length=xs.length:=List.length_map _
theorem div_len {xs wide:List Int} (hw:wide.length=xs.length+1):∀{n:Nat} {r q:List Int} {p:List Int×List Int},r.length=xs.length→q.length=xs.length→(divB xs wide n r q).Reach p→p.1.length=xs.length∧p.2.length=xs.length
 |0,r,q,p,c,a,h=>by cases h;exact⟨a,c⟩
 |n+1,r,q,p,c,a,h=>by
  obtain⟨l,_,h⟩:=Bd.reach_inv h
  obtain⟨u,hu,h⟩:=Bd.reach_inv h
  obtain⟨f,b,h⟩:=Bd.reach_inv h
  have d:=sum_len hu
  have e:=each_len b
  rw[List.length_cons,negL_len] at d
  rw[List.length_take,List.length_take,List.length_cons] at e
  exact div_len hw (by omega) (by rw[List.length_set];exact a) h
theorem shift_len {up:Bool} {fill:Int}:∀{ys:List Int} {i:Nat} {s r:List Int},(shiftB up fill ys i s).Reach r→r.length=s.length
 |[],i,s,r,h=>by cases h;rfl
 |c::ys,i,s,r,h=>by
  obtain⟨d,a,h⟩:=Bd.reach_inv h
  have b:=each_len a
  rw[List.length_map,List.length_range] at b
  rw[shift_len h];omega
theorem offsL_len (n:Nat):(offsL n).length=n:=List.length_replicate ..
theorem un_len {op:Int} {x r:List Int} (h:(unB op x).Reach r):r.length=x.length:=by
 unfold unB at h
 split at h
 ·cases h;exact negL_len x
 ·have:=sum_len h;rw[offsL_len,negL_len] at this;omega
theorem bin_len {op:Int} {x y r:List Int} (h:(binB op x y).Reach r) (b:op≠14→x.length=y.length):r.length=if op=14 then x.length+y.length else x.length:=by
 unfold binB at h
 by_cases c:op=14
 ·rw[if_pos c] at h⊢;cases h;rw[List.length_append];omega
 rw[if_neg c] at h⊢
 have d:=b c
 repeat' split at h
 ·have:=each_len h;omega
 ·have:=each_len h;omega
 ·have:=each_len h;omega
 ·have:=sum_len h;omega
 ·have:=sum_len h;rw[negL_len] at this;omega
 ·exact mul_len (by omega) (offsL_len _) h
 ·obtain⟨p,a,rfl⟩:=Bd.reach_map h
  exact(div_len (by rw[List.length_append,List.length_singleton];omega) (offsL_len _) (offsL_len _) a).1
 ·obtain⟨p,a,rfl⟩:=Bd.reach_map h
  exact(div_len (by rw[List.length_append,List.length_singleton];omega) (offsL_len _) (offsL_len _) a).2
 ·exact shift_len h
 ·exact shift_len h
 ·exact shift_len h
theorem nameB_len {ds:List Dcl} {k:Nat}:(nameB ds k).length=((ds.getD k (nada,0)).2).toNat:=by unfold nameB;rw[List.length_map,List.length_range]
theorem fixB_len {w n:Int}:(fixB w n).length=w.toNat:=by unfold fixB;rw[List.length_map,List.length_range]
def lenS (w:Int):Nat:=(max 1 w).toNat
theorem node_len {ds:List Dcl} {t:Tm} (B:declOk ds=true) (hs:sortM ds t≠ -1) {rs:List (List Int)} (l:∀i,i<t.ks.length→(rs.getD i []).length=lenS (sortM ds (kid t i))) {r:List Int} (h:(nodeB ds t rs).Reach r):r.length=lenS (sortM ds t):=by
 obtain⟨C,G,y⟩:=sort_parts hs
 simp only[formed,Bool.and_eq_true,decide_eq_true_eq] at C
 obtain⟨d,I⟩:=C
 have D:=arity_ops (o:=t.op) (by omega)
 have k:∀i,i<t.ks.length→(t.ks.map (sortM ds)).getD i 0=sortM ds (kid t i):=fun i hi=>getD_map _ hi _ _
 have J:∀i,-1≤sortM ds (kid t i)∧sortM ds (kid t i)≤4:=fun i=>sort_range B _
 rw[y] at hs⊢
 unfold sortK at hs⊢
 unfold nodeB at h
 by_cases n:t.op=20
 ·simp only[n,if_true] at hs h⊢
  by_cases hv':vok t.a t.b=true
  ·rw[if_pos hv']
   have:=vok_lt hv'
   cases h
   rw[fixB_len];unfold lenS;omega
  ·rw[if_neg hv'] at hs;exact absurd rfl hs
 simp only[if_neg n] at hs h⊢
 by_cases p:t.op=21
 ·simp only[p,if_true] at hs h⊢
  have F:=findD_lt ds t.s
  by_cases u:findD ds t.s<0
  ·rw[if_pos u] at hs;exact absurd rfl hs
  ·rw[if_neg u]
   have hw:=dcl_wide B (i:=(findD ds t.s).toNat) (by omega)
   cases h
   rw[nameB_len];unfold lenS;omega
 simp only[if_neg p] at hs h⊢
 by_cases q:24≤t.op
 ·simp only[if_pos q] at hs⊢
  by_cases u:(t.ks.map (sortM ds)).any (fun x=>decide (x≠0))=true
  ·rw[if_pos u] at hs;exact absurd rfl hs
  ·rw[if_neg u]
   show r.length=1
   rcases(by omega:t.op=24∨t.op=25∨t.op=26∨t.op=27) with e|e|e|e
   ·rw[if_pos e] at h;cases h;rfl
   ·rw[if_neg (by omega),if_pos e] at h;cases h;rfl
   ·rw[if_neg (by omega),if_neg (by omega),if_pos e] at h;obtain⟨v,h⟩:=h;cases h;rfl
   ·rw[if_neg (by omega),if_neg (by omega),if_neg (by omega),if_pos e] at h;obtain⟨v,_,rfl⟩:=Bd.reach_map h;rfl
 simp only[if_neg q,if_neg (show¬t.op=24 by omega),if_neg (show¬t.op=25 by omega),if_neg (show¬t.op=26 by omega),if_neg (show¬t.op=27 by omega)] at hs h⊢
 by_cases j:t.op=23
 ·simp only[j,if_true] at hs h⊢
  have w:t.ks.length=3:=by rw[j] at d;simp[arity] at d;omega
  rw[k 0 (by omega),k 1 (by omega),k 2 (by omega)] at hs⊢
  by_cases c:sortM ds (kid t 0)=0∧sortM ds (kid t 1)=sortM ds (kid t 2)
  ·rw[if_pos c]
   have:=each_len h
   rw[l 1 (by omega),l 2 (by omega),←c.2] at this
   omega
  ·rw[if_neg c] at hs;exact absurd rfl hs
 simp only[if_neg j] at hs h⊢
 by_cases g:t.op=22
 ·simp only[g,if_true] at hs h⊢
  have w:t.ks.length=1:=by rw[g] at d;simp[arity] at d;omega
  rw[k 0 (by omega)] at hs⊢
  by_cases c:0≤t.b∧t.b≤t.a∧t.a<sortM ds (kid t 0)
  ·rw[if_pos c]
   cases h
   rw[List.length_take,List.length_drop,l 0 (by omega)]
   unfold lenS;omega
  ·rw[if_neg c] at hs;exact absurd rfl hs
 simp only[if_neg g] at hs h⊢
 by_cases A:t.op≤2
 ·simp only[if_pos A] at hs h⊢
  have w:t.ks.length=1:=by
   have H:t.op=1∨t.op=2:=by omega
   rcases H with e|e<;>rw[e] at d<;>simp[arity] at d<;>omega
  rw[k 0 (by omega)] at hs⊢
  by_cases c:0<sortM ds (kid t 0)
  ·rw[if_pos c,un_len h,l 0 (by omega)]
  ·rw[if_neg c] at hs;exact absurd rfl hs
 simp only[if_neg A] at hs h⊢
 have w:t.ks.length=2:=by
  unfold arity at d
  rw[if_neg (by omega),if_neg (by omega),if_neg (by omega),if_neg (by omega),if_pos (by omega)] at d
  omega
 rw[k 0 (by omega),k 1 (by omega)] at hs⊢
 have z:=l 0 (by omega)
 have E:=l 1 (by omega)
 by_cases f:t.op=14
 ·simp only[f,if_true] at hs⊢
  by_cases c:0<sortM ds (kid t 0)∧0<sortM ds (kid t 1)∧sortM ds (kid t 0)+sortM ds (kid t 1)≤4
  ·rw[if_pos c]
   rw[if_neg (by omega)] at h
   have:=bin_len h fun e=>absurd f e
   rw[if_pos f,z,E] at this
   rw[this];unfold lenS;omega
  ·rw[if_neg c] at hs;exact absurd rfl hs
 simp only[if_neg f] at hs⊢
 by_cases m:15≤t.op
 ·simp only[if_pos m] at hs⊢
  by_cases c:0<sortM ds (kid t 0)∧sortM ds (kid t 0)=sortM ds (kid t 1)
  ·rw[if_pos c]
   rw[if_pos (by omega)] at h
   obtain⟨v,_,rfl⟩:=Bd.reach_map h
   rfl
  ·rw[if_neg c] at hs;exact absurd rfl hs
 simp only[if_neg m] at hs⊢
 by_cases c:0<sortM ds (kid t 0)∧sortM ds (kid t 0)=sortM ds (kid t 1)
 ·rw[if_pos c]
  rw[if_neg (by omega)] at h
  have:=bin_len h fun _=>by rw[z,E,c.2]
  rw[if_neg f,z] at this
  exact this
 ·rw[if_neg c] at hs;exact absurd rfl hs
theorem seq_reach {f:Tm→Bd (List Int)}:∀{ks:List Tm} {rs:List (List Int)},(seqB (ks.map f)).Reach rs→rs.length=ks.length∧∀i,i<ks.length→(f (ks.getD i default)).Reach (rs.getD i [])
 |[],rs,h=>by cases h;exact⟨rfl,fun i hi=>absurd hi (by simp)⟩
 |t::ks,rs,h=>by
  obtain⟨r,c,h⟩:=Bd.reach_inv h
  obtain⟨e,d,rfl⟩:=Bd.reach_map h
  obtain⟨a,b⟩:=seq_reach d
  refine⟨by rw[List.length_cons,List.length_cons,a],fun i hi=>?_⟩
  cases i with
  |zero=>exact c
  |succ i=>exact b i (by simpa using hi)
theorem term_len {ds:List Dcl} (c:declOk ds=true):∀t:Tm,sortM ds t≠ -1→∀{r:List Int},(termB ds t).Reach r→r.length=lenS (sortM ds t):=by
 refine Tm.ind fun t e hs r h=>?_
 rw[termB_eq] at h
 obtain⟨rs,a,b⟩:=Bd.reach_inv h
 obtain⟨_,d⟩:=seq_reach a
 exact node_len c hs (fun i hi=>e _ (getD_mem hi _) (kO0 hs hi) (d i hi)) b
end Go.M
end
section
namespace Go.Proofs.YtaekfnbnhjgboaaGreatDoor
open Go Go.Vc Go.Proofs Go.MapKept
variable {w:World} {K:Value→World→Prop} {F F' D G:Nat→Prop}
def gv (g:M.Gt):Value:= .agg ⟨[.bool g.x,.int .i64 g.a,.int .i64 g.b]⟩
theorem Jf0 {g h:M.Gt} (e:gv g=gv h):g=h:=by
 cases g;cases h
 simp only[gv,Value.agg.injEq,Array.mk.injEq,List.cons.injEq,Value.bool.injEq,Value.int.injEq,and_true,true_and] at e
 obtain⟨rfl,rfl,rfl⟩:=e;rfl
theorem eqGate (g h:M.Gt) (w:World):(Op.equalIn 10000 zo (gv g) (gv h)).run PP w= .ok (decide (g=h)) w:=by
 obtain⟨x,a,b⟩:=g
 obtain⟨y,c,d⟩:=h
 have n:(PP.fieldsOf zo).toList=[(PP.fieldsOf zo).getD 0 default,(PP.fieldsOf zo).getD 1 default,(PP.fieldsOf zo).getD 2 default]:=by kernel_rfl
 have k:((PP.fieldsOf zo).getD 0 default).name≠ "_" :=by decide+kernel
 have l:((PP.fieldsOf zo).getD 1 default).name≠ "_" :=by decide+kernel
 have m:((PP.fieldsOf zo).getD 2 default).name≠ "_" :=by decide+kernel
 have i0:PP.underlying ((PP.fieldsOf zo).getD 0 default).type=some .bool:=by kernel_rfl
 have i1:PP.underlying ((PP.fieldsOf zo).getD 1 default).type=some (.int .i64):=by kernel_rfl
 have i2:PP.underlying ((PP.fieldsOf zo).getD 2 default).type=some (.int .i64):=by kernel_rfl
 have p0:∀x y z:Value,(part ((PP.fieldsOf zo).getD 0 default).type ⟨[x,y,z]⟩ ((PP.fieldsOf zo).getD 0 default).offset).run PP w= .ok x w:=fun x y z=>by kernel_rfl
 have p1:∀x y z:Value,(part ((PP.fieldsOf zo).getD 1 default).type ⟨[x,y,z]⟩ ((PP.fieldsOf zo).getD 1 default).offset).run PP w= .ok y w:=fun x y z=>by kernel_rfl
 have p2:∀x y z:Value,(part ((PP.fieldsOf zo).getD 2 default).type ⟨[x,y,z]⟩ ((PP.fieldsOf zo).getD 2 default).offset).run PP w= .ok z w:=fun x y z=>by kernel_rfl
 have i:∀d,(Op.equalIn (d+1) ((PP.fieldsOf zo).getD 0 default).type (.bool x) (.bool y)).run PP w= .ok (x==y) w:=fun d=>by
  rw[Op.equalIn,Sem.run_bind,run_underlying i0];rfl
 unfold gv
 rw[run_equalIn_struct w 9999 zo _ _ (by kernel_rfl) (by kernel_rfl),n]
 generalize (PP.fieldsOf zo).getD 0 default=f0 at k i0 p0 i⊢
 generalize (PP.fieldsOf zo).getD 1 default=f1 at l i1 p1⊢
 generalize (PP.fieldsOf zo).getD 2 default=f2 at m i2 p2⊢
 simp only[Op.eqFields,if_pos k,if_pos l,if_pos m,Sem.run_bind,p0,p1,p2,Result.andThen_ok,i 9998,run_equalIn_int w 9998 _ _ _ _ _ i1,run_equalIn_int w 9998 _ _ _ _ _ i2]
 by_cases e:x=y
 ·by_cases f:a=c
  ·by_cases j:b=d
   ·subst e;subst f;subst j;simp[p1,p2,run_equalIn_int w 9998 _ _ _ _ _ i1,run_equalIn_int w 9998 _ _ _ _ _ i2]
   ·subst e;subst f;simp[p1,p2,run_equalIn_int w 9998 _ _ _ _ _ i1,run_equalIn_int w 9998 _ _ _ _ _ i2,j]
  ·subst e;simp[p1,p2,run_equalIn_int w 9998 _ _ _ _ _ i1,run_equalIn_int w 9998 _ _ _ _ _ i2,f]
 ·simp[e]
def GMap (w:World) (b:Nat) (f:List (M.Gt×Int)):Prop:= ∃es cl,w.heap[b]?=some (.map es cl)∧Stamped es cl∧es.toList.map (fun e=>(e.key,e.val))=f.map fun p=>(gv p.1,Value.int .i64 p.2)
theorem GMap.lt {b:Nat} {f:List (M.Gt×Int)} (h:GMap w b f):b<w.heap.size:=by
 obtain⟨es,cl,a,_⟩:=h;exact(Array.getElem?_eq_some_iff.1 a).1
theorem GMap.same {b:Nat} {f:List (M.Gt×Int)} {S:Nat→Prop} {w':World} (h:GMap w b f) (hw:Same S w w') (hs: ¬S b):GMap w' b f:=by
 have a:=h.lt
 obtain⟨es,cl,c,r⟩:=h;exact⟨es,cl,(hw.block b a hs).trans c,r⟩
theorem GMap.ext {b:Nat} {f:List (M.Gt×Int)} {w':World} (h:GMap w b f) (hw:Ext w w'):GMap w' b f:=h.same hw id
theorem qd0 (g:M.Gt) (e:Bool) (w:World):(Instr.checkKey e 10000 zo (gv g)).run PP w= .ok () w:=by
 obtain⟨x,a,b⟩:=g
 kernel_rfl
def findP (g:M.Gt):List (M.Gt×Int)→Nat→Option (Nat×Int)
 |[],_=>none
 |p::r,i=>if g=p.1 then some (i,p.2) else findP g r (i+1)
theorem ask_run (g:M.Gt) (w:World):∀(l:List MapEntry) (f:List (M.Gt×Int)) (i:Nat),l.map (fun e=>(e.key,e.val))=f.map (fun p=>(gv p.1,Value.int .i64 p.2))→
  (Instr.findAsking zo (gv g) l i).run PP w= .ok ((findP g f i).map fun q=>(q.1,.int .i64 q.2)) w
 |[],[],i,_=>rfl
 |[],_::_,_,h=>by simp at h
 |_::_,[],_,h=>by simp at h
 |e::l,p::f,i,h=>by
  simp only[List.map_cons,List.cons.injEq,Prod.mk.injEq] at h
  obtain⟨⟨a,b⟩,d⟩:=h
  have j:(Op.equal zo (gv g) e.key).run PP w= .ok (decide (g=p.1)) w:=by rw[a];exact eqGate g p.1 w
  simp only[Instr.findAsking,Sem.run_bind,j,Result.andThen_ok,findP]
  by_cases c:g=p.1
  ·rw[if_pos (by simpa using c),if_pos c];simp[b]
  ·rw[if_neg (by simpa using c),if_neg c]
   exact ask_run g w l f (i+1) d
theorem gate_struct:∃fs,PP.underlying zo=some (.struct fs):=by
 have h:(match PP.underlying zo with|some (.struct _)=>true|_=>false)=true:=by kernel_rfl
 split at h
 ·next fs e=>exact⟨fs,e⟩
 ·cases h
theorem qh0 (g:M.Gt) (w:World) {l:List MapEntry} {f:List (M.Gt×Int)} (h:l.map (fun e=>(e.key,e.val))=f.map (fun p=>(gv p.1,Value.int .i64 p.2))):
  (Instr.findKey zo (gv g) l).run PP w= .ok ((findP g f 0).map fun q=>(q.1,.int .i64 q.2)) w:=by
 obtain⟨fs,a⟩:=gate_struct
 unfold Instr.findKey
 rw[Sem.run_bind,run_underlying a]
 simp only[Result.andThen_ok]
 cases l with
 |nil=>
  cases f with
  |nil=>rfl
  |cons p f=>simp at h
 |cons e l=>
  have:Instr.findNow (.struct fs) (gv g) (e::l) 0=none:=by simp[Instr.findNow,Instr.sameNow]
  rw[this]
  exact ask_run g w (e::l) f 0 h
theorem findP_none {g:M.Gt}:∀{f:List (M.Gt×Int)} {i:Nat},findP g f i=none↔ ∀p,p∈f→p.1≠g
 |[],i=>by simp[findP]
 |p::f,i=>by
  unfold findP
  split
  ·next e=>exact⟨fun h=>(by cases h),fun h=>absurd e.symm (h p List.mem_cons_self)⟩
  ·next e=>rw[findP_none (f:=f)];simp only[List.mem_cons,forall_eq_or_imp];exact⟨fun h=>⟨fun a=>e a.symm,h⟩,fun h=>h.2⟩
def Km (g:M.Gt) (f:List (M.Gt×Int)):Option Int:=(findP g f 0).map (·.2)
theorem Jg0 {k:Option Value} (a:k=none) (c:∀b w',b=w.heap.size→GMap w' b []→Ext w w'→w'.heap.size=w.heap.size+1→K (.map (some b)) w'):YZ0 PP zG k w K:=by
 subst a
 refine⟨.map (some w.heap.size),w.alloc (.map #[] 0),?_,c _ _ rfl ⟨#[],0,(heap_alloc w _).1,stamped_empty 0,rfl⟩ ⟨rfl,rfl,rfl,by simp,fun k a _=>(heap_alloc w _).2 k a⟩ (by simp)⟩
 simp[Instr.makeMap,newObj,Sem.run]
theorem glook {g:M.Gt} {ok:Bool} {b:Nat} {f:List (M.Gt×Int)} (h:GMap w b f):Xl PP zG (.map (some b)) (gv g) ok w K=K (match Km g f with|some n=>(if ok then .tuple #[.int .i64 n,.bool true] else .int .i64 n)|none=>if ok then .tuple #[.int .i64 0,.bool false] else .int .i64 0) w:=by
 obtain⟨es,cl,a,d,he⟩:=h
 have hm:PP.underlying zG=some (.map zo zb)∧yP PP zb (.int .i64 0):=⟨kz,jS⟩
 refine yC ?_
 unfold Km
 cases c:findP g f 0 with
 |none=>cases ok<;>simp[Instr.lookup,run_underlying hm.1,MapKept.run_getObj_map a,qd0,qh0 g w he,c,JU hm.2,Result.andThen]
 |some p=>cases ok<;>simp[Instr.lookup,run_underlying hm.1,MapKept.run_getObj_map a,qd0,qh0 g w he,c,Result.andThen]
theorem Q40 {g:M.Gt} {b:Nat} {f:List (M.Gt×Int)} (h:GMap w b f):Xl PP zG (.map (some b)) (gv g) true w K=K (match Km g f with|some n=> .tuple #[.int .i64 n,.bool true]|none=> .tuple #[.int .i64 0,.bool false]) w:=by
 rw[glook h];cases Km g f<;>rfl
theorem Jh0 {g:M.Gt} {b:Nat} {f:List (M.Gt×Int)} (h:GMap w b f):Xl PP zG (.map (some b)) (gv g) false w K=K (match Km g f with|some n=> .int .i64 n|none=> .int .i64 0) w:=by
 rw[glook h];cases Km g f<;>rfl
theorem look_app {g h:M.Gt} {n:Int}:∀{f:List (M.Gt×Int)} {i:Nat},(findP g (f++[(h,n)]) i).map (·.2)=match(findP g f i).map (·.2) with|some m=>some m|none=>if g=h then some n else none
 |[],i=>by simp only[List.nil_append,findP,Option.map_none];split<;>rfl
 |p::f,i=>by
  rw[List.cons_append]
  unfold findP
  split
  ·rfl
  ·exact look_app (f:=f)
theorem gset {g:M.Gt} {n:Int} {b:Nat} {f:List (M.Gt×Int)} (h:GMap w b f) (i:Km g f=none)
  (m:∀w',GMap w' b (f++[(g,n)])→Same (· =b) w w'→w'.heap.size=w.heap.size→K undef w'):Z7 PP zG (.map (some b)) (gv g) (.int .i64 n) w K:=by
 obtain⟨es,cl,c,j,he⟩:=h
 have hm:PP.underlying zG=some (.map zo zb):=kz
 have d:findP g f 0=none:=by
  unfold Km at i
  cases d:findP g f 0 with
  |none=>rfl
  |some p=>rw[d] at i;cases i
 have l:∀x,x∈es.toList→x.key≠gv g:=fun x q e=>by
  have a:(x.key,x.val)∈f.map fun p=>(gv p.1,Value.int .i64 p.2):=by rw[←he];exact List.mem_map.2 ⟨x,q,rfl⟩
  obtain⟨p,o,k⟩:=List.mem_map.1 a
  have:gv p.1=gv g:=by rw[←e];exact congrArg Prod.fst k
  exact findP_none.1 d p o (Jf0 this)
 refine⟨(),{w with heap:=w.heap.setIfInBounds b (.map (es.push {key:=gv g,val:= .int .i64 n,born:=cl}) (cl+1))},?_,m _ ⟨_,_,(heap_set c).1,stamped_push j l,by simp[he]⟩ (zy0 c) (by simp)⟩
 simp[Instr.mapUpdate,run_underlying hm,MapKept.run_getObj_map c,qd0,qh0 g w he,d,run_setObj_map _ c,Result.andThen]
end Go.Proofs.YtaekfnbnhjgboaaGreatDoor
end
section
namespace Go.Proofs.YtaekfnbnhjgboaaGreatDoor
open Go Go.Vc Go.Proofs
variable {w:World} {K:Value→World→Prop} {F F' Fx Fy X:Nat→Prop}
section
variable {w' w'':World} {F'' S:Nat→Prop}
theorem Same.thn {S T:Nat→Prop} {a b c:World} (h:Same S a b) (k:Same T b c) (hs:∀x,T x→S x∨a.heap.size≤x):Same S a c:=
 ⟨k.os.trans h.os,k.tape.trans h.tape,k.output.trans h.output,Nat.le_trans h.size k.size,fun i hi d=>
  (k.block i (Nat.lt_of_lt_of_le hi h.size) (fun e=>(hs i e).elim d fun h=>by omega)).trans (h.block i hi d)⟩
structure Mv (F:Nat→Prop) (w:World) (F':Nat→Prop) (w':World):Prop where
 same:Same F w w'
 new:∀b,F' b→F b∨w.heap.size≤b
theorem Mv.refl:Mv F w F w:=⟨Same.refl _ _,fun _ h=> .inl h⟩
theorem Mv.trans (h:Mv F w F' w') (k:Mv F' w' F'' w''):Mv F w F'' w'':=by
 have hs:=h.same.size
 exact⟨Same.thn h.same k.same h.new,fun b a=>(k.new b a).elim (h.new b) fun h=> .inr (by omega)⟩
theorem Mv.to (h:Mv F w F' w') (k:Same S w' w'') (a:∀b,S b→F' b∨w.heap.size≤b):Mv F w F' w'':=
 ⟨Same.thn h.same k fun b c=>(a b c).elim (h.new b) .inr,h.new⟩
theorem Mv.ext (h:Mv F w F' w') (k:Ext w' w''):Mv F w F' w'':=h.to k fun _ h=>h.elim
theorem Mv.off (h:Mv F w F' w') {b:Nat} (c: ¬F b) (e:b<w.heap.size): ¬F' b:=fun a=>(h.new b a).elim c fun d=>by omega
abbrev Off (X F:Nat→Prop):Nat→Prop:=fun b=> ¬F b∧¬X b
theorem Ints.mv {v:Value} {xs:List Int} (h:Ints (Off X F) w v xs) (hm:Mv F w F' w'):Ints (Off X F') w' v xs:=by
 have c:Ints (fun b=>(¬F b∧¬X b)∧b<w.heap.size) w v xs:=Ints.weaken h fun b a e=>⟨a,e⟩
 have d:=Ints.same c hm.same fun b a _=>a.1.1
 exact Ints.weaken d fun b a _=>⟨hm.off a.1.1 a.2,a.1.2⟩
structure NewI (X:Nat→Prop) (w:World) (F':Nat→Prop) (w':World) (v:Value) (xs:List Int):Prop where
 own:OwnI PP zc w' v xs
 off:∀b,v.ownBlock=some b→w.heap.size≤b∧¬F' b
 out:∀b,v.ownBlock=some b→¬X b
theorem NewI.mv {v:Value} {xs:List Int} (h:NewI X w F' w' v xs) (hm:Mv F' w' F'' w''):NewI X w F'' w'' v xs:=
 ⟨h.own.same hm.same fun b a=>(h.off b a).2,fun b a=>⟨(h.off b a).1,hm.off (h.off b a).2 (h.own.lt a)⟩,h.out⟩
theorem NewI.ints {v:Value} {xs:List Int} (h:NewI X w F' w' v xs):Ints (Off X F') w' v xs:=Ints.weaken h.own.ints fun b a _=>⟨(h.off b a).2,h.out b a⟩
theorem NewI.nil:NewI X w F' w' (.slice none 0 0) []:=⟨OwnI.nil,fun b a=>(by cases a),fun b a=>by cases a⟩
theorem NewI.app1 {ty b:Nat} {v:Value} {xs:List Int} {x:Int} {e:TypeId} (h:NewI X w F' w' v xs) (c:Blk w' b [.int .i64 x] e) (j:w.heap.size≤w'.heap.size) (hF:∀b,F' b∨X b→b<w'.heap.size) (k:xs.length≤1000000)
  (g:∀v' w'',NewI X w F' w'' v' (xs++[x])→Same (fun b=>v.ownBlock=some b) w' w''→K v' w''):vbi PP .append [zc,zc] ty [v,.slice (some ⟨b,0,none⟩) 1 1] w' K:=by
 refine h.own.app1 yV c (by omega) (by omega) fun v' w'' i hs f=>g v' w'' ⟨i,fun b c=>?_,fun b c=>?_⟩ hs
 ·rcases f b c with a|a
  ·exact h.off b a
  ·exact⟨by omega,fun d=>by have:=hF b (.inl d);omega⟩
 ·rcases f b c with a|a
  ·exact h.out b a
  ·exact fun d=>by have:=hF b (.inr d);omega
def Sent (w:World) (g:Nat) (a:Addr):Prop:=w.cell? ⟨g,0,none⟩=some (.iface xy (.pointer (some a)))
theorem Sent.lt {g:Nat} {a:Addr} (h:Sent w g a):g<w.heap.size:=World.block_lt_of_cell? w _ h
theorem Sent.same {g:Nat} {a:Addr} (h:Sent w g a) (hw:Same S w w') (b: ¬S g):Sent w' g a:=hw.cell b h
theorem Sent.cell {g:Nat} {a:Addr} (h:Sent w g a):w.cell? ⟨g,0,none⟩=some (.iface xy (.pointer (some a))):=h
def erv (a:Addr):Value:= .iface xy (.pointer (some a))
structure Errs (F:Nat→Prop) (w:World) (ar ab:Addr):Prop where
 room:Sent w xD ar
 bits:Sent w yW ab
 off: ¬F xD∧¬F yW
theorem Errs.mv {ar ab:Addr} (h:Errs F w ar ab) (hm:Mv F w F' w'):Errs F' w' ar ab:=by
 have c:=h.room.lt;have d:=h.bits.lt
 obtain⟨a,b⟩:=h.off
 exact⟨h.room.same hm.same a,h.bits.same hm.same b,hm.off a c,hm.off b d⟩
theorem Errs.to {ar ab:Addr} {w0:World} (h:Errs F w ar ab) (a:Errs Fx w0 ar ab) (hs:Same S w w') (c:∀b,S b→w0.heap.size≤b):Errs F w' ar ab:=by
 have d:=a.room.lt;have e:=a.bits.lt
 have key:∀b,b<w0.heap.size→¬S b:=fun b f hs=>by have:=c b hs;omega
 exact⟨h.room.same hs (key _ d),h.bits.same hs (key _ e),h.off⟩
def yF (g:M.Gt):List Value:=[.bool g.x,.int .i64 g.a,.int .i64 g.b]
def GatesR (F:Nat→Prop) (w:World) (v:Value) (gs:M.Gs):Prop:=Sl F w 3 v (gs.map yF)
def OwnG (w:World) (v:Value) (gs:M.Gs):Prop:=Own PP 0 3 zn w v (gs.map yF)
structure CktR (n:Nat) (bc:Nat) (w:World) (gs:M.Gs) (v:Value) (mb:Nat):Prop where
 blk:Blk w bc [.int .i64 n,v,.map (some mb)] zM
 own:OwnG w v gs
 map:∃f,GMap w mb f∧∀g,Km g f=if g∈gs then some (2+n+gs.idxOf g:Int) else none
 sep:bc≠mb∧v.ownBlock≠some bc∧v.ownBlock≠some mb
 few:gs.length≤600∧n≤8
def Ko (bc mb:Nat) (v:Value) (b:Nat):Prop:=b=bc∨b=mb∨v.ownBlock=some b
section
variable {n bc mb:Nat} {gs:M.Gs} {v:Value}
theorem CktR.same (h:CktR n bc w gs v mb) (hw:Same S w w') (hs:∀b,Ko bc mb v b→¬S b):CktR n bc w' gs v mb:=by
 obtain⟨f,c,d⟩:=h.map
 exact⟨h.blk.same hw (hs _ (.inl rfl)),Own.same h.own hw fun b a=>hs b (.inr (.inr a)),⟨f,c.same hw (hs _ (.inr (.inl rfl))),d⟩,h.sep,h.few⟩
theorem CktR.ext (h:CktR n bc w gs v mb) (hw:Ext w w'):CktR n bc w' gs v mb:=h.same hw fun _ _ h=>h
theorem CktR.lt (h:CktR n bc w gs v mb) {b:Nat} (a:Ko bc mb v b):b<w.heap.size:=by
 obtain⟨f,c,_⟩:=h.map
 rcases a with rfl|rfl|a
 ·exact h.blk.lt
 ·exact c.lt
 ·exact(Own.lt h.own a).2
end
structure BdR (n bb:Nat) (ar ab:Addr) (X F:Nat→Prop) (w:World) (st:Option M.Gs):Prop where
 err:Errs F w ar ab
 blk:∃bc,Blk w bb [.pointer (some ⟨bc,0,none⟩),match st with|some _=> .nilIface |none=>erv ar] y0∧∀gs,st=some gs→∃v mb,CktR n bc w gs v mb∧¬Ko bc mb v bb∧∀b,Ko bc mb v b→F b
 foot:F bb
 lt:∀b,F b∨X b→b<w.heap.size
section
variable {n bb:Nat} {ar ab:Addr} {st:Option M.Gs}
theorem BdR.upd {w0:World} {f:Nat→Prop} (h:BdR n bb ar ab X F w st) (g:Errs f w0 ar ab) (c:Same S w w') (hs:∀b,S b→w0.heap.size≤b∧¬F b):BdR n bb ar ab X F w' st:=by
 obtain⟨bc,j,k⟩:=h.blk
 refine⟨h.err.to g c fun b a=>(hs b a).1,⟨bc,j.same c fun a=>(hs _ a).2 h.foot,fun gs e=>?_⟩,h.foot,fun b a=>by have:=h.lt b a;have:=c.size;omega⟩
 obtain⟨v,mb,l,i,d⟩:=k gs e
 exact⟨v,mb,l.same c fun b a m=>(hs b m).2 (d b a),i,d⟩
theorem BdR.ext (h:BdR n bb ar ab X F w st) (hw:Ext w w'):BdR n bb ar ab X F w' st:=h.upd h.err hw fun _ h=>h.elim
end
end
end Go.Proofs.YtaekfnbnhjgboaaGreatDoor
end
section
namespace Go.Proofs.YtaekfnbnhjgboaaGreatDoor
open Go Go.Vc Go.Proofs
variable {w:World} {K:Value→World→Prop} {F F' Fx Fy X:Nat→Prop} {n bc mb:Nat} {gs:M.Gs} {v:Value}
theorem Blk.ldTake {b:Nat} {us r:List Value} {t0 t:TypeId} (h:Blk w b (us++r) t0) (a:aggB PP t us.length=true):zf PP t (.pointer (some ⟨b,0,none⟩)) w K=K (.agg ⟨us⟩) w:=by
 refine zI0 a fun i x hi=>?_
 rw[xm,Nat.zero_add]
 refine h.cell ?_
 rw[List.getElem?_append_left (by have:=(List.getElem?_eq_some_iff.1 hi).1;exact this)]
 exact hi
theorem node_spec {l:Int} (b:l.natAbs≤1000000) (a:K (.int .i64 (M.absI l)) w):vcall PP ym #[.int .i64 l] w K:=by
 apply Wf
 unfold M.absI at a
 simp only[push_cast]
 refine zh (fun h=>?_) (fun h=>?_)
 ·rw[if_pos h] at a
  simp(disch:=omega) only[push_cast,zy,Int.zero_sub]
  exact a
 ·rw[if_neg h] at a
  exact a
theorem turned_spec {l:Int} {c:Bool} (b:l.natAbs≤1000000) (a:K (.int .i64 (M.turnI c l)) w):vcall PP xV #[.int .i64 l,.bool c] w K:=by
 apply Kr
 refine y9 (fun h=>?_) (fun h=>?_)
 ·subst h
  simp(disch:=omega) only[push_cast,zy,Int.zero_sub]
  exact a
 ·subst h
  exact a
theorem nodes_spec {k:Nat} (e:k≤1000000) (f:n≤1000000) (c:∀w',Ext w w'→K (.int .i64 (1+n+k:Int)) w'):vcall PP xq #[.agg ⟨[.int .i64 n,v]⟩,.int .i64 k] w K:=by
 apply zw0
 refine zD fun b h d he g a=>?_
 simp(disch:=first|(simp only[push_cast];done)|omega) only[push_cast,a.ld0,zy]
 exact c _ he
def XY0 (g:M.Gt):M.Gt:=if M.absI g.b<M.absI g.a then⟨g.x,g.b,g.a⟩ else g
theorem kP0 (gs:M.Gs):(gs.map yF).length=gs.length:=List.length_map _
theorem gate_spec {g:M.Gt} (h:CktR n bc w gs v mb) (ha:g.a.natAbs≤1000000) (C:g.b.natAbs≤1000000)
  (U:∀w' v',CktR n bc w' (M.putG n gs (XY0 g)).1 v' mb→Same (Ko bc mb v) w w'→(∀b,v'.ownBlock=some b→v.ownBlock=some b∨w.heap.size≤b)→K (.int .i64 (M.putG n gs (XY0 g)).2) w'):
  vcall PP qy #[.pointer (some ⟨bc,0,none⟩),gv g] w K:=by
 apply VE
 refine zD fun gb w1 b3 a8 b4 al=>?_
 have hf:=h.few
 refine zV (fun u w'=>Ext w w'∧Blk w' gb (yF (XY0 g)) zo) ?_ ?_
 ·intro J hJ
  refine zx fun w2 V _=>?_
  have d:=al.ext V
  simp(disch:=first|(simp only[push_cast];done)|omega) only[push_cast,d.ld1,d.ld2,true_and]
  refine node_spec ha ?_
  simp(disch:=first|(simp only[push_cast];done)|omega) only[push_cast,d.ld1,d.ld2,true_and,and_self]
  refine node_spec C ?_
  simp only[push_cast,true_and]
  refine zh (fun c=>?_) (fun c=>?_)
  ·simp(disch:=first|(simp only[push_cast];done)|omega) only[push_cast,d.ld1,d.ld2]
   refine d.st rfl rfl qR rfl fun w3 aw _ am=>?_
   refine Blk.st (i:=2) am rfl rfl qR rfl fun w4 ax _ an=>?_
   refine hJ _ _ ⟨Ext.then (a8.trans V) (aw.trans ax) fun x s=>by omega,?_⟩
   unfold XY0
   rw[if_pos c]
   exact an
  ·refine hJ _ _ ⟨a8.trans V,?_⟩
   unfold XY0
   rw[if_neg c]
   exact d
 rintro u _ w5 ⟨ap,a2⟩
 generalize XY0 g=o at U a2
 refine zx fun w6 a9 _=>?_
 have e6:=ap.trans a9
 have R:=h.ext e6
 have a3:=a2.ext a9
 obtain⟨f,aq,E⟩:=R.map
 have D:∀w':World,Blk w' gb (yF o) zo→∀K:Value→World→Prop,zf PP zo (.pointer (some ⟨gb,0,none⟩)) w' K=K (gv o) w':=fun w' hB K=>Blk.ldAgg hB (by exact qB)
 have t:=E o
 have au:=D _ a3
 simp(disch:=first|(simp only[push_cast];done)|omega) only[push_cast,R.blk.ld2,true_and,au,Q40 aq]
 by_cases hm:o∈gs
 ·rw[if_pos hm] at t
  simp only[t,push_cast,true_and,and_self]
  have e1:M.putG n gs o=(gs,(2+n+gs.idxOf o:Int)):=by unfold M.putG;rw[if_pos hm]
  rw[e1] at U
  exact U _ _ R (Same.of_ext e6) fun b C=> .inl C
 rw[if_neg hm] at t
 simp only[t,push_cast,true_and,and_self]
 have ay:=Own.sl R.own
 simp(disch:=first|(simp only[push_cast];done)|omega) only[push_cast,R.blk.ld1,ay.len,kP0]
 refine zh (fun hl=>?_) (fun hl=>?_)
 ·have e1:M.putG n gs o=(gs,0):=by unfold M.putG;rw[if_neg hm,if_pos (by omega)]
  rw[e1] at U
  exact U _ _ R (Same.of_ext e6) fun b C=> .inl C
 have e1:M.putG n gs o=(gs++[o],(2+n+gs.length:Int)):=by unfold M.putG;rw[if_neg hm,if_neg (by omega)]
 rw[e1] at U
 refine zx fun w7 W _=>?_
 have e7:=e6.trans W
 have h7:=R.ext W
 have a4:=a3.ext W
 have av:=D _ a4
 simp(disch:=first|(simp only[push_cast];done)|omega) only[push_cast,h7.blk.ld1,true_and,av]
 refine XT Z8 (by kernel_rfl) YA (y:=yF o) rfl rfl (show 3≤16777216 by decide) fun b8 w8 b2 X b5 ao=>?_
 have e8:=e7.trans X
 have h8:=h7.ext X
 have a6:=a4.ext X
 have s8:=e8.size
 simp(disch:=first|(simp only[push_cast];done)|omega) only[push_cast,h8.blk.ld1,true_and,and_self]
 refine Own.app1k (bs:=24) h8.own jX (by decide) ao rfl (fun c hc=>by simp only[yF,List.mem_cons,List.not_mem_nil,or_false] at hc;rcases hc with rfl|rfl|rfl<;>rfl) (by rw[kP0];omega) (by rw[kP0];omega) fun v' w9 a0 F Z=>?_
 have lbc:bc<w.heap.size:=h.lt (.inl rfl)
 have lmb:mb<w.heap.size:=h.lt (.inr (.inl rfl))
 have a5:=h8.blk.same F fun s=>h.sep.2.1 s
 have ae: ¬v.ownBlock=some gb:=fun s=>by have:=(Own.lt h.own s).2;omega
 have a7:=a6.same F ae
 refine Blk.st (i:=1) a5 (Sl.cells1 (Own.sl a0)) (Sl.one (Own.sl a0)) UK rfl fun w10 p b0 z=>?_
 have z:Blk w10 bc [.int .i64 n,v',.map (some mb)] zM:=z
 have L:v'.ownBlock≠some bc:=fun s=>(Z bc s).elim h.sep.2.1 fun h=>by omega
 have P:v'.ownBlock≠some mb:=fun s=>(Z mb s).elim h.sep.2.2 fun h=>by omega
 have aj:OwnG w10 v' (gs++[o]):=by
  have:=a0.same p fun b C s=>L (by rw[←s];exact C)
  unfold OwnG;rw[List.map_append];exact this
 have S:=a7.same p (show¬gb=bc by omega)
 obtain⟨f,ad,E⟩:=h8.map
 have aa:=(ad.same F h.sep.2.2).same p (fun e=>h.sep.1 e.symm)
 refine zx fun G j _=>?_
 have m:=z.ext j
 have Q:=Own.ext aj j
 have A:=S.ext j
 have af:=D _ A
 have a1:=Own.sl Q
 have ai:∀K:Value→World→Prop,zf PP zk (.pointer (some ⟨bc,0,none⟩)) G K=K (.agg ⟨[.int .i64 n,v']⟩) G:=fun K=>Blk.ldTake (us:=[.int .i64 n,v']) (r:=[.map (some mb)]) m yl
 have ar:(List.map yF (gs++[o])).length=gs.length+1:=by rw[kP0,List.length_append];rfl
 have hlen:∀K:Value→World→Prop,vbi PP .len [zn] zb [v'] G K=K (.int .i64 ((gs.length+1:Nat):Int)) G:=fun K=>by rw[a1.len qT,ar]
 simp(disch:=first|(simp only[push_cast];done)|omega) only[push_cast,m.ld1,m.ld2,true_and,af,ai,hlen]
 rw[show((gs.length:Int)+1)=((gs.length+1:Nat):Int) from by omega]
 refine nodes_spec (by omega) (by omega) fun b6 k=>?_
 rw[show(1+(n:Int)+((gs.length+1:Nat):Int))=2+n+gs.length from by omega]
 have H:=m.ext k
 have B:=A.ext k
 have ag:=D _ B
 simp(disch:=first|(simp only[push_cast];done)|omega) only[push_cast,H.ld2,true_and,ag,and_self]
 have ab:=aa.ext (j.trans k)
 have t:Km o f=none:=by rw[E,if_neg hm]
 refine gset ab t fun b7 ac q b1=>?_
 refine zx fun az l _=>?_
 have I:=(H.same q h.sep.1).ext l
 have T:=(B.same q (show¬gb=mb by omega)).ext l
 have ah:=D _ T
 have N:=ac.ext l
 have ak:OwnG az v' (gs++[o]):=Own.ext (Own.same (Own.ext Q k) q fun b C s=>P (by rw[←s];exact C)) l
 have O:∀g,Km g (f++[(o,(2+n+gs.length:Int))])=if g∈gs++[o] then some (2+n+(gs++[o]).idxOf g:Int) else none:=fun g=>by
  have e:=look_app (g:=g) (h:=o) (n:=(2+n+gs.length:Int)) (f:=f) (i:=0)
  have e2:=E g
  unfold Km at e2⊢
  rw[e,e2]
  by_cases hg:g∈gs
  ·rw[if_pos hg,if_pos (List.mem_append.2 (.inl hg)),List.idxOf_append,if_pos hg]
  ·rw[if_neg hg]
   by_cases ho:g=o
   ·subst ho
    simp only
    rw[if_pos trivial,if_pos (by simp),List.idxOf_append,if_neg hg]
    simp
   ·simp only
    rw[if_neg ho,if_neg (by simp[hg,ho])]
 have Y:=O o
 rw[if_pos (by simp),List.idxOf_append,if_neg hm] at Y
 simp only[List.idxOf_cons_self,Nat.add_zero] at Y
 simp(disch:=first|(simp only[push_cast];done)|omega) only[push_cast,I.ld2,true_and,ah,Jh0 N,Y,and_self]
 refine U _ v' ⟨I,ak,⟨_,N,O⟩,⟨h.sep.1,L,P⟩,?_,hf.2⟩ ?_ fun b C=>(Z b C).imp id fun h=>by omega
 ·rw[List.length_append];simp;omega
 ·refine Same.thn (Same.of_ext e8) ((((F.mono (S':=Ko bc mb v) fun x _ h=> .inr (.inr h)).trans (p.mono fun x _ h=> .inl h)).trans (Same.of_ext (j.trans k))).trans ((q.mono fun x _ h=> .inr (.inl h)).trans (Same.of_ext l))) fun x s=> .inl s
end Go.Proofs.YtaekfnbnhjgboaaGreatDoor
end
section
namespace Go.Proofs.YtaekfnbnhjgboaaGreatDoor
open Go Go.Vc Go.Proofs
variable {w:World} {K:Value→World→Prop} {F F' Fx Fy X:Nat→Prop} {n bc mb bb:Nat} {gs:M.Gs} {v:Value} {ar ab:Addr} {st:Option M.Gs}
theorem absI_le {a:Int} {m:Nat} (h:a.natAbs≤m):(M.absI a).natAbs≤m:=by unfold M.absI;split<;>omega
theorem zK0 {c:Bool} {a:Int}:(M.turnI c a).natAbs=a.natAbs:=by cases c<;>simp[M.turnI]
theorem put_abs {g:M.Gt} (h:gs.length≤600) (a:n≤8):(M.putG n gs g).2.natAbs≤1000:=by
 unfold M.putG
 split
 ·next hm=>have:=List.idxOf_lt_length_iff.2 hm;show(2+(n:Int)+(gs.idxOf g:Nat)).natAbs≤1000;omega
 ·split
  ·show(0:Int).natAbs≤1000;decide
  ·show(2+(n:Int)+(gs.length:Nat)).natAbs≤1000;omega
theorem Yx0 {a b:Int} (h:gs.length≤600) (c:n≤8) (d:a.natAbs≤1000) (e:b.natAbs≤1000):(M.andG n gs a b).2.natAbs≤1000:=by
 unfold M.andG
 repeat' split
 all_goals first|exact put_abs h c|(show(-1:Int).natAbs≤1000;decide)|assumption
theorem Zz0 {a b:Int} (h:gs.length≤600) (c:n≤8) (d:a.natAbs≤1000) (e:b.natAbs≤1000):(M.xorG n gs a b).2.natAbs≤1000:=by
 unfold M.xorG
 repeat' split
 all_goals first|(show(-1:Int).natAbs≤1000;decide)|(show(1:Int).natAbs≤1000;decide)|(simp only[zK0];first|exact put_abs h c|assumption)
theorem QK0 (a b:Int):zH PP zo [(1,.int .i64 a),(2,.int .i64 b)] w K=K (gv ⟨false,a,b⟩) w:=yh Qq (us:=[[.int .i64 a],[.int .i64 b]]) rfl rfl
theorem cand_spec {a b:Int} (h:CktR n bc w gs v mb) (i:a.natAbs≤1000) (e:b.natAbs≤1000)
  (d:∀w' v',CktR n bc w' (M.andG n gs a b).1 v' mb→Same (Ko bc mb v) w w'→(∀b,v'.ownBlock=some b→v.ownBlock=some b∨w.heap.size≤b)→K (.int .i64 (M.andG n gs a b).2) w'):
  vcall PP km #[.pointer (some ⟨bc,0,none⟩),.int .i64 a,.int .i64 b] w K:=by
 apply Wj
 unfold M.andG at d
 try simp only[push_cast]
 refine zh (fun c=>?_) (fun f=>?_)
 ·rw[if_pos (.inl c)] at d
  exact d _ _ h (Same.refl _ _) fun b e=> .inl e
 try simp only[push_cast]
 refine zh (fun c=>?_) (fun g=>?_)
 ·rw[if_pos (.inr c)] at d
  exact d _ _ h (Same.refl _ _) fun b e=> .inl e
 rw[if_neg (fun h=>h.elim f g)] at d
 try simp only[push_cast]
 refine zh (fun c=>?_) (fun c=>?_)
 ·rw[if_pos c] at d
  exact d _ _ h (Same.refl _ _) fun b e=> .inl e
 rw[if_neg c] at d
 try simp only[push_cast]
 refine zh (fun c=>?_) (fun c=>?_)
 ·rw[if_pos c] at d
  exact d _ _ h (Same.refl _ _) fun b e=> .inl e
 rw[if_neg c] at d
 try simp only[push_cast]
 refine zh (fun c=>?_) (fun c=>?_)
 ·rw[if_pos c] at d
  exact d _ _ h (Same.refl _ _) fun b e=> .inl e
 rw[if_neg c] at d
 try simp(disch:=omega) only[push_cast,zy,Int.zero_sub]
 refine zh (fun c=>?_) (fun c=>?_)
 ·rw[if_pos c] at d
  exact d _ _ h (Same.refl _ _) fun b e=> .inl e
 rw[if_neg c] at d
 rw[QK0]
 exact gate_spec h (by show a.natAbs≤_;omega) (by show b.natAbs≤_;omega) d
theorem XN0 (a b:Int):zH PP zo [(0,.bool true),(1,.int .i64 a),(2,.int .i64 b)] w K=K (gv ⟨true,a,b⟩) w:=yh Qq (us:=[[.bool true],[.int .i64 a],[.int .i64 b]]) rfl rfl
theorem absI_abs (a:Int):M.absI (M.absI a)=M.absI a:=by
 unfold M.absI
 by_cases h:a<0
 ·rw[if_pos h,if_neg (by omega)]
 ·rw[if_neg h,if_neg h]
theorem ordX (a b:Int):XY0 ⟨true,M.absI a,M.absI b⟩=M.gateX a b:=by unfold XY0 M.gateX;simp only[absI_abs]
theorem cxor_spec {a b:Int} (h:CktR n bc w gs v mb) (j:a.natAbs≤1000) (e:b.natAbs≤1000)
  (d:∀w' v',CktR n bc w' (M.xorG n gs a b).1 v' mb→Same (Ko bc mb v) w w'→(∀b,v'.ownBlock=some b→v.ownBlock=some b∨w.heap.size≤b)→K (.int .i64 (M.xorG n gs a b).2) w'):
  vcall PP kj #[.pointer (some ⟨bc,0,none⟩),.int .i64 a,.int .i64 b] w K:=by
 apply Wh
 unfold M.xorG at d
 refine node_spec (by omega) ?_
 try simp only[push_cast]
 refine zh (fun c=>?_) (fun c=>?_)
 ·rw[if_pos c] at d
  try simp only[push_cast]
  exact turned_spec (by omega) (d _ _ h (Same.refl _ _) fun b e=> .inl e)
 rw[if_neg c] at d
 refine node_spec (by omega) ?_
 try simp only[push_cast]
 refine zh (fun c=>?_) (fun c=>?_)
 ·rw[if_pos c] at d
  try simp only[push_cast]
  exact turned_spec (by omega) (d _ _ h (Same.refl _ _) fun b e=> .inl e)
 rw[if_neg c] at d
 try simp only[push_cast]
 refine zh (fun c=>?_) (fun c=>?_)
 ·rw[if_pos c] at d
  exact d _ _ h (Same.refl _ _) fun b e=> .inl e
 rw[if_neg c] at d
 try simp(disch:=omega) only[push_cast,zy,Int.zero_sub]
 refine zh (fun c=>?_) (fun c=>?_)
 ·rw[if_pos c] at d
  exact d _ _ h (Same.refl _ _) fun b e=> .inl e
 rw[if_neg c] at d
 refine node_spec (by omega) (node_spec (by omega) ?_)
 rw[XN0]
 have k:=put_abs (g:=M.gateX a b) h.few.1 h.few.2
 refine gate_spec h (absI_le (by omega)) (absI_le (by omega)) fun w' v' f hs i=>?_
 rw[ordX] at f⊢
 try simp only[push_cast]
 refine turned_spec (l:=(M.putG n gs (M.gateX a b)).2) (by omega) ?_
 exact d _ _ f hs i
theorem kk0:zr PP .eql ye true .nilIface .nilIface w K=K (.bool true) w:=yJ (by kernel_rfl) (by kernel_rfl)
theorem Vj:zr PP .neq ye true .nilIface .nilIface w K=K (.bool false) w:=yJ (by kernel_rfl) (by kernel_rfl)
theorem km0 {a:Addr}:zr PP .eql ye true (erv a) .nilIface w K=K (.bool false) w:=yJ (by kernel_rfl) (by kernel_rfl)
theorem qo0 {a:Addr}:zr PP .neq ye true (erv a) .nilIface w K=K (.bool true) w:=yJ (by kernel_rfl) (by kernel_rfl)
theorem yc0 {p e:Value} (a:K (.tuple #[]) w):vcall PP yn #[p,.bool false,e] w K:=by
 apply Yg
 simp only[push_cast]
 exact a
theorem XA0 {p:Value} {a:Addr} (c:Blk w bb [p,.nilIface] y0) (d:∀w',Same (· =bb) w w'→Blk w' bb [p,erv a] y0→K (.tuple #[]) w'):
  vcall PP yn #[.pointer (some ⟨bb,0,none⟩),.bool true,erv a] w K:=by
 apply Yg
 simp(disch:=first|(simp only[push_cast];done)|omega) only[push_cast,c.ld1,kk0]
 refine Blk.st (i:=1) c rfl rfl Qb0 rfl fun w' hs _ b=>d w' hs b
end Go.Proofs.YtaekfnbnhjgboaaGreatDoor
end
section
namespace Go.Proofs.YtaekfnbnhjgboaaGreatDoor
open Go Go.Vc Go.Proofs
variable {w:World} {K:Value→World→Prop} {F F' Fx Fy X:Nat→Prop} {n bc mb bb:Nat} {gs:M.Gs} {v:Value} {ar ab:Addr} {st:Option M.Gs}
theorem BdR.pre {w':World} {bc mb:Nat} {gs gs':M.Gs} {v v':Value} (h:BdR n bb ar ab X F w (some gs)) (g:Blk w bb [.pointer (some ⟨bc,0,none⟩),.nilIface] y0) (d: ¬Ko bc mb v bb) (hF:∀b,Ko bc mb v b→F b)
  (i:CktR n bc w' gs' v' mb) (hs:Same (Ko bc mb v) w w') (j:∀b,v'.ownBlock=some b→v.ownBlock=some b∨w.heap.size≤b):
  BdR n bb ar ab X (fun b=>F b∨v'.ownBlock=some b) w' (some gs')∧Mv F w (fun b=>F b∨v'.ownBlock=some b) w':=by
 have hm:Mv F w (fun b=>F b∨v'.ownBlock=some b) w':=⟨hs.mono fun x _ a=>hF x a,fun b c=>c.elim .inl fun c=>(j b c).imp (fun h=>hF b (.inr (.inr h))) id⟩
 refine⟨⟨h.err.mv hm,⟨bc,g.same hs d,fun k e=>?_⟩,.inl h.foot,fun b c=>?_⟩,hm⟩
 ·cases e
  refine⟨v',mb,i,?_,?_⟩
  ·rintro(a|a|a)
   ·exact d (.inl a)
   ·exact d (.inr (.inl a))
   ·rcases j _ a with f|f
    ·exact d (.inr (.inr f))
    ·have:=g.lt;omega
  ·rintro b (a|a|a)
   ·exact .inl (hF b (.inl a))
   ·exact .inl (hF b (.inr (.inl a)))
   ·exact .inr a
 ·rcases c with(c|c)|c
  ·have:=h.lt b (.inl c);have:=hs.size;omega
  ·exact i.lt (.inr (.inr c))
  ·have:=h.lt b (.inr c);have:=hs.size;omega
theorem made_spec {s:Int} (h:BdR n bb ar ab X F w (some gs)) (d:∀w',BdR n bb ar ab X F w' (if s=0 then none else some gs)→Mv F w F w'→K (.int .i64 (if s=0 then-1 else s)) w'):
  vcall PP qz #[.pointer (some ⟨bb,0,none⟩),.int .i64 s] w K:=by
 apply VI
 obtain⟨bc,f,j⟩:=h.blk
 simp only at f
 simp only[push_cast,xG X3 h.err.room.cell]
 by_cases hs:s=0
 ·rw[if_pos hs,if_pos hs] at d
  rw[decide_eq_true hs]
  refine XA0 f fun w' c a=>?_
  have hm:Mv F w F w':=⟨c.mono fun x _ i=>i▸h.foot,fun b g=> .inl g⟩
  simp(disch:=first|(simp only[push_cast];done)|omega) only[push_cast,a.ld1,qo0]
  exact d _ ⟨h.err.mv hm,⟨bc,a,fun _ e=>by cases e⟩,h.foot,fun b g=>by have:=h.lt b g;have:=c.size;omega⟩ hm
 ·rw[if_neg hs,if_neg hs] at d
  rw[decide_eq_false hs]
  refine yc0 ?_
  simp(disch:=first|(simp only[push_cast];done)|omega) only[push_cast,f.ld1,Vj]
  exact d _ h Mv.refl
abbrev Sm (x:Int):Prop:=x.natAbs≤1000
theorem bout {x y s:Int} {p:M.Bd Int} {a:M.Gs} (b:p.run n gs=if s=0 then none else some (a,s)) (c:p.Reach (-1)):M.Bd.Out n p (some gs) (if s=0 then none else some a) (if s=0 then-1 else s):=by
 by_cases hs:s=0
 ·rw[if_pos hs] at b;rw[if_pos hs,if_pos hs];exact .inr ⟨b,rfl,c⟩
 ·rw[if_neg hs] at b;rw[if_neg hs,if_neg hs];exact .inl ⟨a,b,rfl⟩
theorem kB {x y:Int} (h:BdR n bb ar ab X F w st) (k:Sm x) (l:Sm y)
  (j:∀w' F' st' r,BdR n bb ar ab X F' w' st'→Mv F w F' w'→Sm r→M.Bd.Out n (.and x y .ret) st st' r→K (.int .i64 r) w'):
  vcall PP yq #[.pointer (some ⟨bb,0,none⟩),.int .i64 x,.int .i64 y] w K:=by
 apply Wp
 obtain⟨bc,a,p⟩:=h.blk
 cases st with
 |none=>
  simp only at a
  simp(disch:=first|(simp only[push_cast];done)|omega) only[push_cast,a.ld1,qo0]
  exact j _ _ none (-1) h Mv.refl (by decide) ⟨rfl,-1,rfl⟩
 |some gs=>
  simp only at a
  obtain⟨v,mb,c,b,hF⟩:=p gs rfl
  simp(disch:=first|(simp only[push_cast];done)|omega) only[push_cast,a.ld0,a.ld1,Vj]
  refine cand_spec c k l fun s v1 d i g=>?_
  obtain⟨m,e⟩:=h.pre a b hF d i g
  have q:=Yx0 (n:=n) c.few.1 c.few.2 k l
  refine made_spec m fun t o f=>j _ _ _ _ o (e.trans f) ?_ (bout (x:=x) (y:=y) rfl ⟨-1,rfl⟩)
  split
  ·decide
  ·exact q
theorem Jz {x y:Int} (h:BdR n bb ar ab X F w st) (k:Sm x) (l:Sm y)
  (j:∀w' F' st' r,BdR n bb ar ab X F' w' st'→Mv F w F' w'→Sm r→M.Bd.Out n (.xor x y .ret) st st' r→K (.int .i64 r) w'):
  vcall PP xj #[.pointer (some ⟨bb,0,none⟩),.int .i64 x,.int .i64 y] w K:=by
 apply Wk
 obtain⟨bc,a,p⟩:=h.blk
 cases st with
 |none=>
  simp only at a
  simp(disch:=first|(simp only[push_cast];done)|omega) only[push_cast,a.ld1,qo0]
  exact j _ _ none (-1) h Mv.refl (by decide) ⟨rfl,-1,rfl⟩
 |some gs=>
  simp only at a
  obtain⟨v,mb,c,b,hF⟩:=p gs rfl
  simp(disch:=first|(simp only[push_cast];done)|omega) only[push_cast,a.ld0,a.ld1,Vj]
  refine cxor_spec c k l fun s v1 d i g=>?_
  obtain⟨m,e⟩:=h.pre a b hF d i g
  have q:=Zz0 (n:=n) c.few.1 c.few.2 k l
  refine made_spec m fun t o f=>j _ _ _ _ o (e.trans f) ?_ (bout (x:=x) (y:=y) rfl ⟨-1,rfl⟩)
  split
  ·decide
  ·exact q
theorem qr {α:Type} {x y r:Int} {k:Int→M.Bd α} {a:α} {st st' b:Option M.Gs} (h:M.Bd.Out n (.and x y .ret) st st' r) (c:M.Bd.Out n (k r) st' b a):M.Bd.Out n (.and x y k) st b a:=M.Bd.Out.bind (f:=k) h c
theorem YB {α:Type} {x y r:Int} {k:Int→M.Bd α} {a:α} {st st' b:Option M.Gs} (h:M.Bd.Out n (.xor x y .ret) st st' r) (c:M.Bd.Out n (k r) st' b a):M.Bd.Out n (.xor x y k) st b a:=M.Bd.Out.bind (f:=k) h c
theorem bor_spec {x y:Int} (h:BdR n bb ar ab X F w st) (i:Sm x) (j:Sm y)
  (d:∀w' F' st' r,BdR n bb ar ab X F' w' st'→Mv F w F' w'→Sm r→M.Bd.Out n (M.orB x y) st st' r→K (.int .i64 r) w'):
  vcall PP xZ #[.pointer (some ⟨bb,0,none⟩),.int .i64 x,.int .i64 y] w K:=by
 apply Uu
 simp(disch:=omega) only[push_cast,zy,Int.zero_sub]
 refine kB h (by unfold Sm at*;omega) (by unfold Sm at*;omega) fun l g f k c a e b=>?_
 simp(disch:=omega) only[push_cast,zy,Int.zero_sub]
 exact d _ _ _ _ c a (by unfold Sm at*;omega) (qr b (M.Bd.Out.ret _ _))
theorem bmux_spec {c x y:Int} (h:BdR n bb ar ab X F w st) (q:Sm c) (s:Sm x) (t:Sm y)
  (p:∀w' F' st' r,BdR n bb ar ab X F' w' st'→Mv F w F' w'→Sm r→M.Bd.Out n (M.muxB c x y) st st' r→K (.int .i64 r) w'):
  vcall PP yL #[.pointer (some ⟨bb,0,none⟩),.int .i64 c,.int .i64 x,.int .i64 y] w K:=by
 apply Wm
 refine kB h q s fun G z u C l a i e=>?_
 simp(disch:=omega) only[push_cast,zy,Int.zero_sub]
 refine kB l (by unfold Sm at*;omega) t fun H A st2 D m b j f=>?_
 refine bor_spec m i j fun I B v E o d k g=>?_
 exact p _ _ _ _ o (a.trans (b.trans d)) k (qr e (qr f g))
end Go.Proofs.YtaekfnbnhjgboaaGreatDoor
end
section
namespace Go.Vc
open Go
section
variable {P:Program} {w w':World} {K:Value→World→Prop} {F:Nat→Prop} {t:TypeId} {v:Value}
theorem Sl.cutLH {k lo hi:Nat} {xs:List (List Value)} {kl kh:IntKind} (h:Sl F w k v xs) (r:elB P t k=true) (y:lo≤hi) (l:hi≤xs.length) (m:∀v',Sl F w k v' ((xs.drop lo).take (hi-lo))→K v' w'):
  yy P t v (some (.int kl lo)) (some (.int kh hi)) none w' K:=by
 obtain⟨hu,hs⟩:=yf0 r
 obtain⟨⟨a,c,rfl,u,p,d⟩,hw⟩:=h
 have hlen:((xs.drop lo).take (hi-lo)).length=hi-lo:=by rw[List.length_take,List.length_drop];omega
 refine⟨_,w',?_,m (sliced a lo hi c k) ⟨⟨_,c-lo,by unfold sliced;rw[hlen],by omega,by omega,fun j=>?_⟩,fun x s=>hw x (List.mem_of_mem_drop (List.mem_of_mem_take s))⟩⟩
 ·rw[run_sliceAt_slice w' t _ _ _ _ hu,run_slice_lh w' t _ _ _ hu kl kh lo hi (by omega) (by omega) (by omega),run_sizeOf hs]
  simp[Result.andThen]
 ·have q:lo<hi:=by
   have:0<((xs.drop lo).take (hi-lo)).length:=List.length_pos_iff.2 j
   omega
  obtain⟨b,o,rfl,hF,n,g⟩:=d (fun e=>by rw[e] at l;simp at l;omega)
  refine⟨b,o+lo*k,?_,hF,n,fun i f=>?_⟩
  ·rw[if_neg (by omega)];simp[xm]
  ·rw[hlen] at f
   have:=g (lo+i) (by omega)
   rw[show o+lo*k+i*k=o+(lo+i)*k by rw[Nat.add_mul];omega]
   rwa[List.getD_eq_getElem?_getD,List.getElem?_take_of_lt f,List.getElem?_drop,←List.getD_eq_getElem?_getD]
theorem Vals.cutLH {lo hi:Nat} {vs:List Value} {kl kh:IntKind} (h:Vals F w v vs) (e:elB P t 1=true) (d:lo≤hi) (c:hi≤vs.length) (b:∀v',Vals F w v' ((vs.drop lo).take (hi-lo))→K v' w'):
  yy P t v (some (.int kl lo)) (some (.int kh hi)) none w' K:=by
 refine Sl.cutLH h e d (by simpa using c) fun v' a=>b v' ?_
 unfold Vals
 rw[List.map_take,List.map_drop];exact a
theorem Ints.cutLH {lo hi:Nat} {xs:List Int} {kl kh:IntKind} (h:Ints F w v xs) (e:elB P t 1=true) (d:lo≤hi) (c:hi≤xs.length) (b:∀v',Ints F w v' ((xs.drop lo).take (hi-lo))→K v' w'):
  yy P t v (some (.int kl lo)) (some (.int kh hi)) none w' K:=by
 refine Vals.cutLH h e d (by simpa using c) fun v' a=>b v' ?_
 unfold Ints
 rw[List.map_take,List.map_drop];exact a
theorem blk_from {b n lo:Nat} {kl:IntKind} (a:elB P t 1=true) (d:lo≤n):
  yy P t (.slice (some ⟨b,0,none⟩) n n) (some (.int kl lo)) none none w K=K (.slice (some ⟨b,if n=lo then 0 else lo,none⟩) (n-lo) (n-lo)) w:=by
 obtain⟨hu,hs⟩:=yf0 a
 refine yC ?_
 rw[run_sliceAt_slice w t _ _ _ _ hu,run_slice_l w t _ _ _ hu kl lo (by omega) (by omega),run_sizeOf hs]
 simp only[Result.andThen,sliced,Int.toNat_natCast]
 by_cases c:n=lo
 ·simp[c]
 ·simp[c,xm]
theorem blk_to {b n hi:Nat} {kl:IntKind} (a:elB P t 1=true) (c:hi≤n):
  yy P t (.slice (some ⟨b,0,none⟩) n n) none (some (.int kl hi)) none w K=K (.slice (some ⟨b,0,none⟩) hi n) w:=by
 obtain⟨hu,hs⟩:=yf0 a
 refine yC ?_
 rw[run_sliceAt_slice w t _ _ _ _ hu,run_slice_h w t _ _ _ hu kl hi (by omega) (by omega),run_sizeOf hs]
 simp[Result.andThen,sliced,xm]
theorem kC0 {e n:Nat} (h:jv P e n=true):(P.info? e).map (·.size)=some n:=by
 unfold jv at h
 cases hi:P.info? e with
 |none=>rw[hi] at h;cases h
 |some i=>rw[hi] at h;simp[Nat.eq_of_beq_eq_true h]
theorem vcopy {t2 ty te:TypeId} {g off dLen dCap sLen sCap:Nat} {ad:Addr} {cur cs:List Value} (n:elB P t 1=true) (c:Blk w g cur te) (l:cs.length=min sLen dLen)
  (b:∀j u,cs[j]?=some u→w.cell? (ad.add j)=some u) (a:off+cs.length≤cur.length) (f:∀u∈cs,u.oneCell'=true)
  (h:∀w',Same (· =g) w w'→w'.heap.size=w.heap.size→Blk w' g (cur.take off++(cs++cur.drop (off+cs.length))) te→K (.int .i64 cs.length) w'):
  vbi P .copy [t,t2] ty [.slice (some ⟨g,off,none⟩) dLen dCap,.slice (some ad) sLen sCap] w K:=by
 obtain⟨hu,hs⟩:=yf0 n
 have m:=run_copy_row (P:=P) w t t2 ty (P.elem t) g off dLen dCap ad sLen sCap ⟨cur⟩ te cs hu (kC0 hs) c l b (by simpa using a) f
 refine⟨_,_,m,h _ ⟨rfl,rfl,rfl,by simp[World.setRow],fun k o e=>setRow_other w g k _ e⟩ (by simp[World.setRow]) ?_⟩
 have i:=c.lt
 have d:w.heap[g]?=some (.cells ⟨cur⟩ te (0,0)):=c
 unfold Blk World.setRow
 simp only[Array.getElem?_modify]
 simp[d,List.append_assoc]
theorem kZ0 {t2 ty:TypeId} {d a:Option Addr} {dLen dCap sLen sCap:Nat} (c:elB P t 1=true) (b:min sLen dLen=0):vbi P .copy [t,t2] ty [.slice d dLen dCap,.slice a sLen sCap] w K=K (.int .i64 0) w:=by
 obtain⟨hu,hs⟩:=yf0 c
 exact yC (run_copy_none (P:=P) w t t2 ty (P.elem t) d a dLen dCap sLen sCap hu (kC0 hs) b)
theorem vmkS_blk {bs n:Nat} {z:Value} {u v:IntKind} {e:TypeId} (y:elZ P t 1 bs=true) (he:Vu P t=e) (k:yP P e z) (s:z.cells= #[z]) (l:bs*n≤281474976710656) (m:n≤9223372036854775807)
  (x:∀b w',b=w.heap.size→Blk w' b (List.replicate n z) e→Ext w w'→K (.slice (some ⟨b,0,none⟩) n n) w'):XT0 P t (.int u n) (.int v n) w K:=by
 obtain⟨hu,i,f,hi,d,r,o,F⟩:=kT0 y
 subst he
 have:f=z:=by
  unfold yP at k;rw[hi] at k;simp only[d,Option.some.injEq] at k;exact k
 subst this
 subst o
 obtain⟨w',D,a,q⟩:=run_make_full (P:=P) w 0 t (Vu P t) i f 1 hu hi d r u v n l (by simpa[maxLen] using m) (by omega)
 refine⟨_,w',D,x _ w' rfl ?_ ((Same.of_grown q).mono fun _ _ h=>by cases h)⟩
 have e:(madeCells f.cells (n*1)).toList=List.replicate n f:=by
  refine List.ext_getElem (by simp[madeCells]) fun j G H=>?_
  simp[madeCells,s,Nat.mod_one]
 rw[e] at a
 rcases a.2 with⟨h,_⟩|⟨g,cap,cur,E,I,B,C,A,p,c⟩
 ·cases h
 ·cases E
  unfold Blk
  rw[B]
  have:cur.toList=List.replicate n f:=by rw[←c,List.take_of_length_le (by rw[Array.length_toList,p];exact Nat.le_refl _)]
  rw[←this]
theorem vappend_make {bs n:Nat} {ti ty:TypeId} {z:Value} {e:TypeId} (F:elZ P t 1 bs=true) (he:Vu P t=e) (p:yP P e z) (A:z.cells= #[z]) (y:P.underlying ti=some (.int .i64)) (B:0<n) (D:n≤1000000) (C:n*bs≤140737488355328)
  (E:∀v' w',OwnV P t w' v' (List.replicate n z)→Ext w w'→(∀b,v'.ownBlock=some b→w.heap.size≤b)→K v' w'):vbi P .append [t,ti] ty [.slice none 0 0,.int .i64 n] w K:=by
 obtain⟨hu,i,o,hi,g,x,s,l⟩:=kT0 F
 subst he
 have:o=z:=by
  unfold yP at p;rw[hi] at p;simp only[g,Option.some.injEq] at p;exact p
 subst this
 subst s
 have q:n*i.bytes≤281474976710656:=by omega
 have c:n≤maxLen:=by simp only[maxLen];omega
 have I:n≠0:=by omega
 have hw:IntKind.i64.wrap (n:Int)=n:=zy (by omega) (by simp only[maxLen] at c;omega)
 have f: ¬(9223372036854775807<(n:Int)):=by simp only[maxLen] at c;omega
 have d: ¬(281474976710656<Builtin.nextslicecap n 0*i.bytes):=by rw[nextslicecap_zero B];omega
 have r: ¬((281474976710656:Int)<(n:Int)*i.bytes):=by
  have h:((n*i.bytes:Nat):Int)≤281474976710656:=by omega
  rw[Int.natCast_mul] at h
  omega
 have J:(Builtin.append_ #[t,ti] ty #[.slice none 0 0,.int .i64 n]).run P w=
   .ok (.slice (some ⟨w.heap.size,0,none⟩) n (grownCap w n 0 (Vu P t))) (w.drew.alloc (.cells (Builtin.zeroCells o.cells n++Builtin.zeroCells o.cells (grownCap w n 0 (Vu P t)-n)) (Vu P t))):=by
  simp[Builtin.append_,run_underlying hu,run_underlying y,sizeOf,typeInfo,zeroValue,hi,g,x,I,hw,f,d,r,asInt,asIntOf,Question.forced,run_firstCells_none,newRow,grownCap]
  intro h
  omega
 have v:=grownCap_ge w n 0 (Vu P t)
 have u:grownCap w n 0 (Vu P t)≤maxLen:=grownCap_le_maxLen w n 0 (Vu P t) c
 have a:∀m,(Builtin.zeroCells o.cells m).toList=List.replicate m o:=fun m=>by
  refine List.ext_getElem (by simp[Builtin.zeroCells,l]) fun j L M=>?_
  simp[Builtin.zeroCells,A,Nat.mod_one]
 refine⟨_,_,J,E _ _ ⟨⟨by simp,.inr ⟨w.heap.size,_,_,by simp,Nat.zero_le _,heap_alloc_new w.drew _,by simpa using v,u,?_,?_⟩⟩,by simp⟩ ⟨rfl,rfl,rfl,by simp,fun k H _=>heap_alloc_old w.drew _ H⟩ fun b G=>by cases G;exact Nat.le_refl _⟩
 ·simp only[Array.size_append,size_zeroCells,l];omega
 ·rw[Array.toList_append,a,a,flat1]
  simp
end
section
open Go.MapKept
theorem ZB0 {P:Program} {w:World} {K:Value→World→Prop} {t e:TypeId} {d:TypeDesc} {b:Nat} {f:List (Value×Value)} {k x:Value} (I:Xr0 P t d e) (h:MapF d w b f) (q:IsKey d k)
  (E:∀w' C,MapF d w' b C→(∀p,p∈C→p=(k,x)∨p∈f)→Same (· =b) w w'→w'.heap.size=w.heap.size→K undef w'):Z7 P t (.map (some b)) k x w K:=by
 obtain⟨kt,hm,u⟩:=I
 obtain⟨es,cl,g,s,o,rfl⟩:=h
 rcases findNow_spec q es.toList 0 o with⟨v,A⟩|⟨j,e,v,A,D⟩
 ·refine⟨(),{w with heap:=w.heap.setIfInBounds b (.map (es.push {key:=k,val:=x,born:=cl}) (cl+1))},?_,E _ _ ⟨_,_,(heap_set g).1,stamped_push s A,fun y a=>?_,rfl⟩ (fun p m=>?_) (zy0 g) (by simp)⟩
  ·simp[Instr.mapUpdate,run_underlying hm,MapKept.run_getObj_map g,run_checkKey u q,run_findKey u v,run_setObj_map _ g,Result.andThen]
  ·rw[Array.toList_push] at a
   rcases List.mem_append.1 a with a|a
   ·exact o y a
   ·rw[List.mem_singleton.1 a];exact q
  ·rw[Array.toList_push,List.map_append] at m
   rcases List.mem_append.1 m with m|m
   ·exact .inr m
   ·exact .inl (by simpa using m)
 ·have r:es[j]?=some e:=by simpa using A
  have J:∀y∈es.toList,es[0+j]?=some y→({y with key:=k,val:=x}:MapEntry).key=y.key:=fun y _ a=>by
   rw[Nat.zero_add,r] at a;cases a;exact D.symm
  have l:∀y∈(es.modify (0+j) fun y=>{y with key:=k,val:=x}).toList,(y.key=k∧y.val=x)∨y∈es.toList:=fun y a=>by
   obtain⟨i,hi,G⟩:=List.getElem_of_mem a
   have c:(es.modify (0+j) fun y=>{y with key:=k,val:=x})[i]?=some y:=by
    rw[←Array.getElem?_toList,List.getElem?_eq_getElem hi,G]
   rw[Array.getElem?_modify] at c
   split at c
   ·cases F:es[i]? with
    |none=>rw[F] at c;cases c
    |some z=>rw[F] at c;simp only[Option.map_some,Option.some.injEq] at c;left;rw[←c];exact⟨rfl,rfl⟩
   ·right
    rw[←Array.getElem?_toList] at c
    exact List.mem_of_getElem? c
  refine⟨(),{w with heap:=w.heap.setIfInBounds b (.map (es.modify (0+j) fun y=>{y with key:=k,val:=x}) cl)},?_,E _ _ ⟨_,_,(heap_set g).1,stamped_modify s _ _ (fun _ _=>rfl) J,fun y a=>?_,rfl⟩ (fun p m=>?_) (zy0 g) (by simp)⟩
  ·have B:((es[0+j]?).map (·.key)).getD k=k:=by rw[Nat.zero_add,r];exact D
   simp only[Instr.mapUpdate,Sem.run_bind,run_underlying hm,MapKept.run_getObj_map g,run_checkKey u q,run_findKey u v,Result.andThen,B,run_keyThatStays q,run_setObj_map _ g]
  ·rcases l y a with⟨n,_⟩|n
   ·rw[n];exact q
   ·exact o y n
  ·obtain⟨y,a,rfl⟩:=List.mem_map.1 m
   rcases l y a with⟨n,H⟩|n
   ·exact .inl (by rw[n,H])
   ·exact .inr (List.mem_map.2 ⟨y,n,rfl⟩)
end
end Go.Vc
end
section
namespace Go.Proofs.YtaekfnbnhjgboaaGreatDoor
open Go Go.Vc Go.Proofs
variable {w:World} {K:Value→World→Prop} {F F' Fx Fy X:Nat→Prop} {n bc mb bb:Nat} {gs:M.Gs} {v:Value} {ar ab:Addr} {st:Option M.Gs}
def SmL (xs:List Int):Prop:=∀x,x∈xs→Sm x
theorem SmL.get {xs:List Int} (h:SmL xs) {i:Nat} (hi:i<xs.length):Sm (xs.getD i 0):=h _ (M.getD_mem hi 0)
theorem SmL.app {xs ys:List Int} (h:SmL xs) (a:SmL ys):SmL (xs++ys):=fun x b=>(List.mem_append.1 b).elim (h x) (a x)
theorem SmL.one {x:Int} (h:Sm x):SmL [x]:=fun y a=>by rw[List.mem_singleton.1 a];exact h
theorem SmL.nil:SmL []:=fun x a=>by cases a
theorem xE {xs:List Int} {i:Nat} (hi:i<xs.length):xs.drop i=xs.getD i 0::xs.drop (i+1):=by
 rw[List.drop_eq_getElem_cons hi,List.getD_eq_getElem?_getD,List.getElem?_eq_getElem hi];rfl
theorem ZL0 {i:Nat} {xs ys:List Int} {c:Int} (h:xs.length≤i):M.sumB (xs.drop i) ys c= .ret []:=by
 rw[List.drop_eq_nil_of_le h];cases ys<;>rfl
theorem bsum_spec {xv yv:Value} {xs ys:List Int} {c:Int} (h:BdR n bb ar ab X F w st) (hx:Ints (Off X F) w xv xs) (hy:Ints (Off X F) w yv ys) (hl:xs.length≤ys.length) (h8:xs.length≤1000) (L:SmL xs) (P:SmL ys) (hc:Sm c)
  (hK:∀w' F' st' r zs,BdR n bb ar ab X F' w' st'→Mv F w F' w'→NewI X w F' w' r zs→SmL zs→M.Bd.Out n (M.sumB xs ys c) st st' zs→K r w'):
  vcall PP xk #[.pointer (some ⟨bb,0,none⟩),xv,yv,.int .i64 c] w K:=by
 apply Wl
 simp(disch:=first|(simp only[push_cast];done)|omega) only[push_cast,hx.len]
 refine vloop_up xs.length (fun i u w'=> ∃v a r zs S,u=[.int .i64 S,r,.int .i64 i]∧BdR n bb ar ab X v w' a∧Mv F w v w'∧NewI X w v w' r zs∧SmL zs∧zs.length=i∧Sm S∧
  ∀st2 rs,M.Bd.Out n (M.sumB (xs.drop i) (ys.drop i) S) a st2 rs→M.Bd.Out n (M.sumB xs ys c) st st2 (zs++rs)) ⟨F,st,_,[],c,rfl,h,Mv.refl,NewI.nil,SmL.nil,rfl,hc,fun _ _ h=>h⟩ ?_
 rintro i _ g w1 C hi ⟨v,a,r,zs,S,rfl,h1,y,G,Q,a8,x,f⟩ hC
 simp only[push_cast]
 refine zh (fun ad=>?_) (fun ac=>?_)
 ·have e:i<xs.length:=by omega
  refine zx fun w2 j _=>?_
  have h2:=h1.ext j
  have m:=y.ext j
  have I:=Ints.mv hx m
  have N:=Ints.mv hy m
  simp(disch:=first|(simp only[push_cast];done)|omega) only[push_cast,I.iaddr,I.load,N.iaddr,N.load,true_and]
  refine Jz h2 (L.get e) (P.get (by omega)) fun w3 F3 af d h3 A hd a3=>?_
  refine Jz h3 hd x fun w4 U a9 s h4 B hs a4=>?_
  refine yg yU yo yB rfl rfl fun b5 w5 aa k ae W=>?_
  have D:=(m.trans (A.trans B)).ext k
  have h5:=h4.ext k
  have t:NewI X w U w5 r zs:=(G.mv ((Mv.refl.ext j).trans (A.trans B))).mv (Mv.refl.ext k)
  refine t.app1 W D.same.size h5.lt (by omega) fun r6 w6 a7 H=>?_
  have h6:BdR n bb ar ab X U w6 a9:=h5.upd h.err H fun b Y=>t.off b Y
  have a0:Mv F w U w6:=D.to H fun b Y=> .inr (t.off b Y).1
  refine zx fun w7 l _=>?_
  have h7:=h6.ext l
  have o:=a0.ext l
  have J:=Ints.mv hx o
  have O:=Ints.mv hy o
  simp(disch:=first|(simp only[push_cast];done)|omega) only[push_cast,J.iaddr,J.load,O.iaddr,O.load,true_and]
  refine kB h7 (L.get e) (P.get (by omega)) fun w8 F8 ag p h8 a1 hp a5=>?_
  refine kB h8 hd x fun w9 F9 ah q h9 a2 hq a6=>?_
  refine bor_spec h9 hp hq fun w10 T R c2 V z Z E=>?_
  simp(disch:=omega) only[push_cast,zy]
  have hm:=a1.trans (a2.trans z)
  refine hC e _ _ ⟨T,R,r6,zs++[s],c2,by simp<;>exact⟨rfl,rfl⟩,V,o.trans hm,(a7.mv (Mv.refl.ext l)).mv hm,Q.app (SmL.one hs),by simp[a8],Z,fun st2 rs ho=>?_⟩
  have:=f st2 (s::rs) ?_
  ·simpa using this
  rw[xE e,xE (show i<ys.length by omega)]
  exact YB a3 (YB a4 (qr a5 (qr a6 (M.Bd.Out.bind E (M.Bd.Out.map _ ho)))))
 ·have:=f a [] (by rw[ZL0 (by omega)];exact M.Bd.Out.ret _ _)
  rw[List.append_nil] at this
  exact hK w1 v a r zs h1 y G Q this
theorem kL0 {i:Nat} {xs ys:List Int} {r:Int} (h:xs.length≤i):M.lessB (xs.drop i) ys r= .ret r:=by
 rw[List.drop_eq_nil_of_le h];cases ys<;>rfl
theorem bless_spec {xv yv:Value} {xs ys:List Int} (h:BdR n bb ar ab X F w st) (E:Ints (Off X F) w xv xs) (S:Ints (Off X F) w yv ys) (Y:xs.length≤ys.length) (W:xs.length≤1000) (A:SmL xs) (t:SmL ys)
  (N:∀w' F' st' r,BdR n bb ar ab X F' w' st'→Mv F w F' w'→Sm r→M.Bd.Out n (M.lessB xs ys (-1)) st st' r→K (.int .i64 r) w'):
  vcall PP qc #[.pointer (some ⟨bb,0,none⟩),xv,yv] w K:=by
 apply VJ
 simp(disch:=first|(simp only[push_cast];done)|omega) only[push_cast,E.len]
 refine vloop_up xs.length (fun i u w'=> ∃v a r,u=[.int .i64 r,.int .i64 i]∧BdR n bb ar ab X v w' a∧Mv F w v w'∧Sm r∧
  ∀st2 q,M.Bd.Out n (M.lessB (xs.drop i) (ys.drop i) r) a st2 q→M.Bd.Out n (M.lessB xs ys (-1)) st st2 q) ⟨F,st,-1,rfl,h,Mv.refl,by decide,fun _ _ h=>h⟩ ?_
 rintro i _ g U C hi ⟨v,a,r,rfl,D,k,m,b⟩ L
 simp only[push_cast]
 refine zh (fun Q=>?_) (fun P=>?_)
 ·have c:i<xs.length:=by omega
  refine zx fun Z j _=>?_
  have H:=D.ext j
  have e:=k.ext j
  have o:=Ints.mv E e
  have f:=Ints.mv S e
  simp(disch:=first|(simp only[push_cast];done)|omega) only[push_cast,o.iaddr,o.load,f.iaddr,f.load,true_and]
  refine Jz H (A.get c) (t.get (by omega)) fun w3 V T d I l O y=>?_
  have p:=Ints.mv f l
  simp(disch:=first|(simp only[push_cast];done)|omega) only[push_cast,p.iaddr,p.load,true_and]
  refine bmux_spec I O (t.get (by omega)) m fun w4 G B s J x hs z=>?_
  simp(disch:=omega) only[push_cast,zy]
  refine L c _ _ ⟨G,B,s,by simp<;>exact⟨rfl,rfl⟩,J,e.trans (l.trans x),hs,fun st2 q R=>b st2 q ?_⟩
  rw[xE c,xE (show i<ys.length by omega)]
  exact YB y (M.Bd.Out.bind z R)
 ·exact N U v a r D k m (b a r (by rw[kL0 (by omega)];exact M.Bd.Out.ret _ _))
theorem kD0 {i:Nat} {xs ys:List Int} {r:Int} (h:xs.length≤i):M.sameB (xs.drop i) ys r= .ret r:=by
 rw[List.drop_eq_nil_of_le h];cases ys<;>rfl
theorem bsame_spec {xv yv:Value} {xs ys:List Int} (h:BdR n bb ar ab X F w st) (D:Ints (Off X F) w xv xs) (Q:Ints (Off X F) w yv ys) (W:xs.length≤ys.length) (U:xs.length≤1000) (y:SmL xs) (z:SmL ys)
  (L:∀w' F' st' r,BdR n bb ar ab X F' w' st'→Mv F w F' w'→Sm r→M.Bd.Out n (M.sameB xs ys 1) st st' r→K (.int .i64 r) w'):
  vcall PP jM #[.pointer (some ⟨bb,0,none⟩),xv,yv] w K:=by
 apply VG
 simp(disch:=first|(simp only[push_cast];done)|omega) only[push_cast,D.len]
 refine vloop_up xs.length (fun i u w'=> ∃o a r,u=[.int .i64 r,.int .i64 i]∧BdR n bb ar ab X o w' a∧Mv F w o w'∧Sm r∧
  ∀st2 q,M.Bd.Out n (M.sameB (xs.drop i) (ys.drop i) r) a st2 q→M.Bd.Out n (M.sameB xs ys 1) st st2 q) ⟨F,st,1,rfl,h,Mv.refl,by decide,fun _ _ h=>h⟩ ?_
 rintro i _ g S C hi ⟨o,a,r,rfl,B,j,k,b⟩ J
 simp only[push_cast]
 refine zh (fun O=>?_) (fun N=>?_)
 ·have c:i<xs.length:=by omega
  refine zx fun Y f _=>?_
  have G:=B.ext f
  have e:=j.ext f
  have l:=Ints.mv D e
  have m:=Ints.mv Q e
  simp(disch:=first|(simp only[push_cast];done)|omega) only[push_cast,l.iaddr,l.load,m.iaddr,m.load,true_and]
  refine Jz G (y.get c) (z.get (by omega)) fun Z T R d H p V v=>?_
  simp(disch:=omega) only[push_cast,zy,Int.zero_sub]
  refine kB H k (by unfold Sm at*;omega) fun w4 E A s I t hs x=>?_
  try simp(disch:=omega) only[push_cast,zy]
  refine J c _ _ ⟨E,A,s,by simp<;>exact⟨rfl,rfl⟩,I,e.trans (p.trans t),hs,fun st2 q P=>b st2 q ?_⟩
  rw[xE c,xE (show i<ys.length by omega)]
  exact YB v (qr x P)
 ·exact L S o a r B j k (b a r (by rw[kD0 (by omega)];exact M.Bd.Out.ret _ _))
theorem Clone_signal {xv:Value} {xs:List Int} (d:Ints Fx w xv xs) (y:xs.length≤1000000) (l:∀w' v',Ext w w'→OwnI PP zc w' v' xs→(∀x,v'.ownBlock=some x→w.heap.size≤x)→K v' w'):
  vcall PP y6 #[xv] w K:=by
 apply ja
 obtain⟨a,c,rfl,s,u,f⟩:=d.shape
 simp only[List.length_map] at d s⊢
 rw[U4 xC]
 refine y9 (fun m=>?_) (fun m=>?_)
 ·cases a with
  |some a=>cases m
  |none=>
   have k:xs=[]:=by
    have p:(List.map (fun x=>[x]) (List.map (fun x=>Value.int IntKind.i64 x) xs))=[]:=Classical.byContradiction fun h=>by
     obtain⟨b,o,q,_⟩:=f h;cases q
    simpa using p
   subst k
   exact l w _ (Same.refl _ _) OwnI.nil fun x d=>by cases d
 ·refine qk yU yo fun b n B he C r=>?_
  have g:OwnI PP zc n (.slice (some ⟨b,0,none⟩) 0 0) []:=Blk.own1 (P:=PP) (t:=zc) (cs:=[]) (by rw[xl];exact r) (Nat.zero_le _) rfl rfl (by omega)
  have j:Ints Fx n (.slice a xs.length c) xs:=d.ext he
  refine g.app yV j (by simp;omega) (by simp;omega) fun v' A v hs i=>?_
  have z:=he.size
  refine l A v' (Ext.then he hs fun x d=>by have e:b=x:=Option.some.inj d;omega) v fun x d=>?_
  rcases i x d with h|h
  ·have e:b=x:=Option.some.inj h;omega
  ·omega
end Go.Proofs.YtaekfnbnhjgboaaGreatDoor
end
section
namespace Go.Proofs.YtaekfnbnhjgboaaGreatDoor
open Go Go.Vc Go.Proofs
variable {w:World} {K:Value→World→Prop} {F F' Fx Fy X:Nat→Prop} {n bc mb bb:Nat} {gs:M.Gs} {v:Value} {ar ab:Addr} {st:Option M.Gs}
def QN0 (n bb:Nat) (ar ab:Addr) (X F:Nat→Prop) (w:World) (f:Value) (p:Int→Int→M.Bd Int):Prop:=
 ∀(w1:World) (F1:Nat→Prop) (st1:Option M.Gs) (x y:Int) (K:Value→World→Prop),BdR n bb ar ab X F1 w1 st1→Mv F w F1 w1→Sm x→Sm y→
  (∀w' F' st' r,BdR n bb ar ab X F' w' st'→Mv F1 w1 F' w'→Sm r→M.Bd.Out n (p x y) st1 st' r→K (.int .i64 r) w')→vcallv PP f #[.int .i64 x,.int .i64 y] w1 K
theorem JZ {p:Int→Int→M.Bd Int} {i:Nat} {xs ys:List Int} (h:xs.length≤i):M.eachB p (xs.drop i) ys= .ret []:=by
 rw[List.drop_eq_nil_of_le h];cases ys<;>rfl
theorem each_spec {p:Int→Int→M.Bd Int} {xv yv f:Value} {xs ys:List Int} (h:BdR n bb ar ab X F w st) (R:Ints (Off X F) w xv xs) (hy:Ints (Off X F) w yv ys) (hl:xs.length≤ys.length) (h8:xs.length≤1000) (L:SmL xs) (N:SmL ys)
  (hf:QN0 n bb ar ab X F w f p)
  (Y:∀w' F' st' r zs,BdR n bb ar ab X F' w' st'→Mv F w F' w'→NewI X w F' w' r zs→SmL zs→M.Bd.Out n (M.eachB p xs ys) st st' zs→K r w'):
  vcall PP jI #[xv,yv,f] w K:=by
 apply yr0
 simp(disch:=first|(simp only[push_cast];done)|omega) only[push_cast,R.len]
 refine vloop_up xs.length (fun i u w'=> ∃m a r zs,u=[r,.int .i64 i]∧BdR n bb ar ab X m w' a∧Mv F w m w'∧NewI X w m w' r zs∧SmL zs∧zs.length=i∧
  ∀st2 rs,M.Bd.Out n (M.eachB p (xs.drop i) (ys.drop i)) a st2 rs→M.Bd.Out n (M.eachB p xs ys) st st2 (zs++rs)) ⟨F,st,_,[],rfl,h,Mv.refl,NewI.nil,SmL.nil,rfl,fun _ _ h=>h⟩ ?_
 rintro i _ g w1 C hi ⟨m,a,r,zs,rfl,P,o,v,A,O,d⟩ W
 simp only[push_cast]
 refine zh (fun a1=>?_) (fun a0=>?_)
 ·have k:i<xs.length:=by omega
  refine zx fun w2 e _=>?_
  have T:=P.ext e
  have c:=o.ext e
  have y:=Ints.mv R c
  have z:=Ints.mv hy c
  simp(disch:=first|(simp only[push_cast];done)|omega) only[push_cast,y.iaddr,y.load,z.iaddr,z.load,true_and]
  refine hf w2 m a _ _ _ T c (L.get k) (N.get (by omega)) fun w4 D B s U q hs I=>?_
  refine yg yU yo yB rfl rfl fun b5 w5 Z j a2 E=>?_
  have t:=(c.trans q).ext j
  have Q:=U.ext j
  have l:NewI X w D w5 r zs:=(v.mv ((Mv.refl.ext e).trans q)).mv (Mv.refl.ext j)
  refine l.app1 E t.same.size Q.lt (by omega) fun r6 S J x=>?_
  have V:BdR n bb ar ab X D S B:=Q.upd h.err x fun b G=>l.off b G
  have H:Mv F w D S:=t.to x fun b G=> .inr (l.off b G).1
  simp(disch:=omega) only[push_cast,zy]
  refine W k _ _ ⟨D,B,r6,zs++[s],by simp<;>exact⟨rfl,rfl⟩,V,H,J,A.app (SmL.one hs),by simp[O],fun st2 rs ho=>?_⟩
  have:=d st2 (s::rs) ?_
  ·simpa using this
  rw[xE k,xE (show i<ys.length by omega)]
  exact M.Bd.Out.bind I (M.Bd.Out.map _ ho)
 ·have:=d a [] (by rw[JZ (by omega)];exact M.Bd.Out.ret _ _)
  rw[List.append_nil] at this
  exact Y w1 m a r zs P o v A this
theorem negated_spec {xv:Value} {xs:List Int} (n:Ints Fx w xv xs) (H:xs.length≤1000) (s:SmL xs)
  (v:∀w' r,Ext w w'→OwnI PP zc w' r (M.negL xs)→(∀b,r.ownBlock=some b→w.heap.size≤b)→K r w'):vcall PP qH #[xv] w K:=by
 apply xe0
 apply yr0
 simp(disch:=first|(simp only[push_cast];done)|omega) only[push_cast,n.len]
 refine vloop_up xs.length (fun i u w'=> ∃r,u=[r,.int .i64 i]∧Ext w w'∧OwnI PP zc w' r (M.negL (xs.take i))∧∀b,r.ownBlock=some b→w.heap.size≤b) ⟨_,rfl,Same.refl _ _,OwnI.nil,fun b m=>by cases m⟩ ?_
 rintro i _ g F C hi ⟨r,rfl,a,f,e⟩ t
 simp only[push_cast]
 refine zh (fun A=>?_) (fun z=>?_)
 ·have d:i<xs.length:=by omega
  refine zx fun I c _=>?_
  have l:=n.ext (a.trans c)
  simp(disch:=first|(simp only[push_cast];done)|omega) only[push_cast,l.iaddr,l.load,true_and]
  refine zu0 ?_
  unfold Qz
  have m:=s.get d
  simp(disch:=omega) only[push_cast,zy,Int.zero_sub]
  refine yg yU yo yB rfl rfl fun G J y j D o=>?_
  have he:=a.trans (c.trans j)
  have B:=he.size
  refine(f.ext (c.trans j)).app1 yV o (by simp[M.negL];omega) (by simp[M.negL];omega) fun E L k q p=>?_
  try simp(disch:=omega) only[push_cast,zy]
  refine t d _ _ ⟨E,by simp<;>exact⟨rfl,rfl⟩,Ext.then he q fun x n=>e x n,?_,fun b m=>(p b m).elim (e b) fun h=>by omega⟩
  rw[M.take_add d 0]
  unfold M.negL at k⊢
  rw[List.map_append];exact k
 ·rw[List.take_of_length_le (by omega)] at f
  exact v F r a f e
theorem NewI.of {w':World} {r:Value} {zs:List Int} (h:OwnI PP zc w' r zs) (d:∀b,r.ownBlock=some b→w.heap.size≤b) (hF:∀b,F b∨X b→b<w.heap.size):NewI X w F w' r zs:=
 ⟨h,fun b a=>⟨d b a,fun c=>by have:=d b a;have:=hF b (.inl c);omega⟩,fun b a c=>by have:=d b a;have:=hF b (.inr c);omega⟩
theorem SmL.neg {xs:List Int} (h:SmL xs):SmL (M.negL xs):=fun x a=>by
 obtain⟨y,b,rfl⟩:=List.mem_map.1 a
 have:=h y b;unfold Sm at*;omega
theorem SmL.offs (m:Nat):SmL (M.offsL m):=fun x a=>by rw[List.eq_of_mem_replicate a];decide
end Go.Proofs.YtaekfnbnhjgboaaGreatDoor
end
section
namespace Go.Proofs.YtaekfnbnhjgboaaGreatDoor
open Go Go.Vc Go.Proofs
variable {w:World} {K:Value→World→Prop} {F F' Fx Fy X:Nat→Prop} {n bc mb bb:Nat} {gs:M.Gs} {v:Value} {ar ab:Addr} {st:Option M.Gs}
theorem xS0 {t ty:TypeId} {a:Option Addr} {l c:Nat} (b:isSl PP t=true):vbi PP .len [t] ty [.slice a l c] w K=K (.int .i64 l) w:=by
 obtain⟨e,he⟩:=qb0 b
 exact yC (by simp[biSem,Builtin.len_,qf he,goInt])
theorem Qn0 {x:Value}:sl 0 [x]=x:=rfl
theorem u_and {m:Nat} (hm:m<4294967296) {c:Bool}:zr PP .and xn c (.int .u64 m) (.int .u64 4294967295) w K=K (.int .u64 m) w:=by
 have h:=QK (P:=PP) (w:=w) (K:=K) (c:=c) (t:=xn) (a:=m) (b:=4294967295) (by omega) (by decide)
 have e:m&&&4294967295=m:=by
  have:=Nat.and_two_pow_sub_one_eq_mod m 32
  rw[show 2^32-1=4294967295 from rfl] at this
  rw[this];exact Nat.mod_eq_of_lt hm
 rw[e] at h;exact h
theorem u_shr {m:Nat} (hm:m<4294967296) {c:Bool}:zr PP .shr xn c (.int .u64 m) (.int .u64 32) w K=K (.int .u64 0) w:=by
 have h:=ky0 (P:=PP) (w:=w) (K:=K) (c:=c) (t:=xn) (k:= .u64) (yk:= .u64) (x:=m) (y:=32) (by decide)
 have e:(m:Int)/2^min (32:Int).toNat IntKind.u64.bits=0:=by
  rw[show(2:Int)^min (32:Int).toNat IntKind.u64.bits=4294967296 from rfl];omega
 rw[e] at h;exact h
theorem wrapU' {x:Int} (a:0≤x) (h:x<18446744073709551616):IntKind.u64.wrap x=x:=by
 have:=wrapU (n:=x.toNat) (by omega)
 rwa[show((x.toNat:Nat):Int)=x by omega] at this
theorem Mul_one {m:Nat} (hm:m≤1000) (d:K (.tuple #[.int .u64 0,.int .u64 m]) w):vcall PP Y0 #[.int .u64 1,.int .u64 m] w K:=by
 apply yp0
 apply Uj
 have a:=fun(K:Value→World→Prop)=>u_and (w:=w) (K:=K) (m:=1) (by decide) (c:=true)
 have a2:=fun(K:Value→World→Prop)=>u_shr (w:=w) (K:=K) (m:=1) (by decide) (c:=true)
 have a3:=fun(K:Value→World→Prop)=>u_and (w:=w) (K:=K) (m:=m) (by omega) (c:=true)
 have a4:=fun(K:Value→World→Prop)=>u_shr (w:=w) (K:=K) (m:=m) (by omega) (c:=true)
 have a5:=fun(K:Value→World→Prop)=>u_and (w:=w) (K:=K) (m:=0) (by omega) (c:=true)
 have b:=fun(K:Value→World→Prop)=>u_shr (w:=w) (K:=K) (m:=0) (by omega) (c:=true)
 simp only[Int.cast_ofNat_Int] at a a2 a5 b
 simp(disch:=omega) only[a,a2,a3,a4,a5,b,push_cast,wrapU',Int.one_mul,Int.zero_mul,Int.mul_zero,Int.zero_add,Int.add_zero]
 exact d
theorem Xi0 {m k:Nat} {a:Value} {r:List Value} (h:k≤m):(List.replicate m a++r).take k=List.replicate k a:=by
 rw[List.take_append_of_le_length (by rw[List.length_replicate];exact h),List.take_replicate,Nat.min_eq_left h]
theorem Xj0 {m k j:Nat} {a:Value} {r:List Value} (h:j=m+k):(List.replicate m a++r).drop j=r.drop k:=by
 subst h
 rw[←List.drop_drop,List.drop_left' (by rw[List.length_replicate])]
theorem Repeat_signal {x:Value} {m:Nat} {z:Nat} {e0:TypeId} (hB:Blk w z [.int .i64 (-1)] e0) (hm:m≤1000) (hK:∀w' r,Ext w w'→OwnI PP zc w' r (M.offsL m)→(∀b,r.ownBlock=some b→w.heap.size≤b)→K r w'):
  vcall PP yM #[.slice (some ⟨z,0,none⟩) 1 1,.int .i64 m] w K:=by
 apply qO
 refine zV (fun u w'=>w'=w) ?_ ?_
 ·intro J D
  simp only[push_cast]
  refine zh (fun h=>?_) (fun h=>D _ _ rfl)
  omega
 rintro _ _ w' hw
 rw[hw]
 have W:∀K:Value→World→Prop,vbi PP .len [zc] zb [.slice (some ⟨z,0,none⟩) 1 1] w K=K (.int .i64 (1:Nat)) w:=fun K=>xS0 xC
 have c1:∀K:Value→World→Prop,ZV PP zb KF (.int .i64 (1:Nat)) w K=K (.int .u64 (1:Nat)) w:=fun K=>by
  rw[qS j60 Ya0,wrapU (by decide)]
 have c2:∀K:Value→World→Prop,ZV PP zb KF (.int .i64 m) w K=K (.int .u64 m) w:=fun K=>by
  rw[qS j60 Ya0,wrapU (by omega)]
 have c3:∀K:Value→World→Prop,ZV PP KF zb (.int .u64 m) w K=K (.int .i64 m) w:=fun K=>by
  rw[qS Qm0 y20,wrapN (by omega)]
 rw[W,c1,c2]
 refine Mul_one hm ?_
 simp only[push_cast]
 refine zV (fun u w'=>w'=w) ?_ ?_
 ·intro J D
  refine zh (fun h=>?_) (fun h=>?_)
  ·omega
  refine zh (fun h=>?_) (fun h=>D _ _ rfl)
  omega
 rintro _ _ w' hw
 rw[hw]
 rw[c3]
 refine vmkS_blk (bs:=8) yV xl yB rfl (by omega) (by omega) fun b w1 hb A s=>?_
 have a2:z≠b:=by have:=hB.lt;omega
 have step:∀(k:Nat) (a:World) (J:Value→World→Prop),0<m→k<m→Ext w a→Blk a b (List.replicate k (.int .i64 (-1))++List.replicate (m-k) (.int .i64 0)) zw→∀(src:Addr) (sc sl:Nat) (ds:Nat),
   (∀j u,(List.replicate (min sl (m-k)) (Value.int .i64 (-1)))[j]?=some u→a.cell? (src.add j)=some u)→
   (∀y,Ext w y→Blk y b (List.replicate (k+min sl (m-k)) (.int .i64 (-1))++List.replicate (m-(k+min sl (m-k))) (.int .i64 0)) zw→J (.int .i64 (min sl (m-k):Nat)) y)→
   vbi PP .copy [zc,zc] zb [.slice (some ⟨b,k,none⟩) (m-k) ds,.slice (some src) sl sc] a J:=by
  intro k a J Y hk i f src sc sl ds H D
  refine vcopy (cs:=List.replicate (min sl (m-k)) (.int .i64 (-1))) xg f (by rw[List.length_replicate]) H (by simp only[List.length_replicate,List.length_append];omega) (fun u hu=>by rw[List.eq_of_mem_replicate hu];rfl) fun y X a3 l=>?_
  rw[List.length_replicate]
  refine D y (Ext.then i X fun x hx=>by omega) ?_
  rw[Xi0 (Nat.le_refl _),Xj0 (m:=k) (k:=min sl (m-k)) (by rw[List.length_replicate]),List.drop_replicate,←List.append_assoc,List.replicate_append_replicate] at l
  rw[show m-(k+min sl (m-k))=m-k-min sl (m-k) by omega]
  exact l
 have fin:∀(a:World) (u:Value),Ext w a→Blk a b (List.replicate m (.int .i64 (-1))) zw→K (.slice (some ⟨b,0,none⟩) m m) a:=fun a _ i f=>by
  refine hK a _ i ?_ fun x hx=>by have e:b=x:=Option.some.inj hx;omega
  have:=Blk.own1 (P:=PP) (t:=zc) (base:=0) (n:=m) (c:=m) (cs:=List.replicate m (.int .i64 (-1))) (by rw[xl];exact f) (Nat.zero_le _) (by rw[List.length_replicate]) (by rw[List.length_replicate]) (by omega)
  unfold OwnI OwnV M.offsL
  rw[List.map_replicate]
  exact this
 have loop:∀(k:Nat) (a:World),Ext w a→Blk a b (List.replicate k (.int .i64 (-1))++List.replicate (m-k) (.int .i64 0)) zw→k≤m→(1≤k∨m=0)→
   yr [.int .i64 k] a fun C p _ I=>
    vbi PP .len [zc] zb [.slice (some ⟨b,0,none⟩) m m] I fun t36 L=>
    zr PP .lss zb false (sl 0 p) t36 L fun t37 q=>
    vif t37 (
     y4 q fun d=>
     yy PP zc (.slice (some ⟨b,0,none⟩) m m) (some (sl 0 p)) none none d fun t41 N=>N=d∧
     yy PP zc (.slice (some ⟨b,0,none⟩) m m) none (some (sl 0 p)) none d fun t44 O=>O=d∧
     vbi PP .copy [zc,zc] zb [t41,t44] d fun t45 o=>
     zr PP .add zb false (sl 0 p) t45 o fun t46 Q=>Q=o∧
     C [t46] o) (
     K (.slice (some ⟨b,0,none⟩) m m) q):=by
  intro k0 a i f V Z
  refine YC (fun r u w'=> ∃k:Nat,u=[.int .i64 k]∧r=m-k∧k≤m∧(1≤k∨m=0)∧Ext w w'∧Blk w' b (List.replicate k (.int .i64 (-1))++List.replicate (m-k) (.int .i64 0)) zw) (m-k0) ⟨k0,rfl,rfl,V,Z,i,f⟩ ?_
  rintro r _ g y C ⟨k,rfl,rfl,hk,Z,E,l⟩ hC
  rw[xS0 xC]
  simp only[push_cast]
  refine zh (fun a1=>?_) (fun a0=>?_)
  ·have G:k<m:=by omega
   refine zx fun w4 F _=>?_
   have B:=l.ext F
   simp only[Qn0,blk_from xg (show k≤m by omega),blk_to xg (show k≤m by omega),true_and]
   rw[if_neg (by omega)]
   refine step k w4 _ (by omega) G (E.trans F) B ⟨b,0,none⟩ m k _ (fun j u v=>?_) fun w5 S R=>?_
   ·have U:j<min k (m-k):=by have:=(List.getElem?_eq_some_iff.1 v).1;rwa[List.length_replicate] at this
    rw[xm]
    refine B.cell ?_
    rw[Nat.zero_add,List.getElem?_append_left (by rw[List.length_replicate];omega)]
    rw[List.getElem?_replicate,if_pos (by omega)] at v⊢
    exact v
   ·simp(disch:=omega) only[push_cast,zy,true_and]
    exact hC (m-(k+min k (m-k))) _ _ (by omega) ⟨k+min k (m-k),by simp<;>rfl,rfl,by omega,by omega,S,R⟩
  ·have:k=m:=by omega
   subst this
   rw[Nat.sub_self,List.replicate_zero,List.append_nil] at l
   exact fin y undef E l
 by_cases Y:m=0
 ·subst Y
  rw[kZ0 xg rfl]
  exact loop 0 w1 s A (Nat.le_refl _) (.inr rfl)
 ·refine step 0 w1 _ (by omega) (by omega) s (by simpa using A) ⟨z,0,none⟩ 1 1 m (fun j u v=>?_) fun a i f=>?_
  ·have U:j<min 1 (m-0):=by have:=(List.getElem?_eq_some_iff.1 v).1;rwa[List.length_replicate] at this
   have T:j=0:=by omega
   subst T
   rw[List.getElem?_replicate,if_pos (by omega)] at v
   rw[xm]
   exact(hB.ext s).cell v
  ·exact loop _ a i (by simpa using f) (by omega) (.inl (by omega))
theorem offs_spec {m:Nat} (hm:m≤1000) (e:∀w' r,Ext w w'→OwnI PP zc w' r (M.offsL m)→(∀b,r.ownBlock=some b→w.heap.size≤b)→K r w'):vcall PP qZ #[.int .i64 m] w K:=by
 apply ks0
 refine yg yU yo yB rfl rfl fun b l k a i c=>?_
 have:=a.size
 exact Repeat_signal (x:=undef) c hm fun j r d g f=>e j r (a.trans d) g fun x h=>by have:=f x h;omega
end Go.Proofs.YtaekfnbnhjgboaaGreatDoor
end
section
namespace Go.Proofs.YtaekfnbnhjgboaaGreatDoor
open Go Go.Vc Go.Proofs
variable {w:World} {K:Value→World→Prop} {F F' Fx Fy X:Nat→Prop} {n bc mb bb:Nat} {gs:M.Gs} {v:Value} {ar ab:Addr} {st:Option M.Gs}
theorem choose_spec {c:Int} {xv yv:Value} {xs ys:List Int} (h:BdR n bb ar ab X F w st) (t:∃gs,st=some gs) (Q:Ints (Off X F) w xv xs) (R:Ints (Off X F) w yv ys) (hl:xs.length=ys.length) (J:xs.length≤1000) (A:SmL xs) (C:SmL ys) (P:Sm c)
  (L:∀w' F' st' r zs,BdR n bb ar ab X F' w' st'→Mv F w F' w'→Ints (Off X F') w' r zs→SmL zs→M.Bd.Out n (M.eachB (M.muxB c) xs ys) st st' zs→K r w'):
  vcall PP j3 #[.pointer (some ⟨bb,0,none⟩),.int .i64 c,xv,yv] w K:=by
 apply Jw
 obtain⟨gs,rfl⟩:=t
 refine qq fun b1 Z N q S d=>?_
 replace d:Blk Z b1 [.pointer (some ⟨bb,0,none⟩)] zS:=d
 refine qq fun b2 E O f T e=>?_
 replace e:Blk E b2 [.int .i64 c] zw:=e
 have a:=d.ext f
 have k:=q.trans f
 have l:=h.ext k
 have g:Ints (Off X F) E xv xs:=Q.ext k
 have i:Ints (Off X F) E yv ys:=R.ext k
 obtain⟨bc,H,hC⟩:=l.blk
 simp only at H
 simp(disch:=first|(simp only[push_cast];done)|omega) only[push_cast,a.ld0,g.len,i.len,xG X3 l.err.bits.cell]
 rw[decide_eq_false (by omega)]
 refine yc0 ?_
 simp(disch:=first|(simp only[push_cast];done)|omega) only[push_cast,a.ld0,H.ld1,Vj]
 refine each_spec (p:=M.muxB c) l g i (by omega) J A C ?_ fun I G j r zs m b v D u=>L I G j r zs m ?_ v.ints D u
 ·intro I G j x y K3 m b z B o
  have W: ¬F b1:=fun s=>by have:=h.lt _ (.inl s);omega
  have Y: ¬F b2:=fun s=>by have:=h.lt _ (.inl s);omega
  have U:=a.same b.same W
  have V:=e.same b.same Y
  refine Qp ?_
  unfold kI
  simp(disch:=first|(simp only[push_cast];done)|omega) only[push_cast,U.ld0,V.ld0]
  exact bmux_spec m P z B o
 ·exact(Mv.refl.ext k).trans b
theorem Wb {p:Int→Int→M.Bd Int} {xs ys:List Int} {i:Nat} (a:i<xs.length) (b:i<ys.length):M.eachB p (xs.drop i) (ys.drop i)=(p (xs.getD i 0) (ys.getD i 0)).bind fun s=>(M.eachB p (xs.drop (i+1)) (ys.drop (i+1))).map (s:: ·):=by
 rw[xE a,xE b];rfl
theorem Ints.low {v:Value} {xs:List Int} (h:Ints (Off X F) w v xs):Ints (fun b=> ¬F b∧b<w.heap.size) w v xs:=Ints.weaken h fun _ a c=>⟨a.1,c⟩
theorem Ints.lowMv {v:Value} {xs:List Int} {B:Nat} {w':World} (h:Ints (fun b=> ¬F b∧b<B) w v xs) (hm:Mv F w F' w'):Ints (fun b=> ¬F' b∧b<B) w' v xs:=by
 have c:Ints (fun b=>(¬F b∧b<B)∧b<w.heap.size) w v xs:=Ints.weaken h fun _ c d=>⟨c,d⟩
 have d:=Ints.same c hm.same fun b a _=>a.1.1
 exact Ints.weaken d fun b a _=>⟨hm.off a.1.1 a.2,a.1.2⟩
theorem from_at {up:Bool} {fill:Int} {s:List Int} {b k:Nat} (d:k<s.length):(0≤(k:Int)+(if up then-(b:Int) else b)→(k:Int)+(if up then-(b:Int) else b)<s.length→M.fromL up fill s b k=s.getD ((k:Int)+(if up then-(b:Int) else b)).toNat 0)∧
  ((k:Int)+(if up then-(b:Int) else b)<0→M.fromL up fill s b k=fill)∧((s.length:Int)≤(k:Int)+(if up then-(b:Int) else b)→M.fromL up fill s b k=fill):=by
 unfold M.fromL
 cases up
 ·simp only[Bool.false_eq_true,if_false]
  refine⟨fun a c=>?_,fun h=>by omega,fun h=>?_⟩
  ·rw[if_pos (by omega),show((k:Int)+b).toNat=k+b by omega]
  ·rw[if_neg (by omega)]
 ·simp only[if_true]
  refine⟨fun a c=>?_,fun h=>?_,fun h=>by omega⟩
  ·rw[if_neg (by omega),show((k:Int)+ -b).toNat=k-b by omega]
  ·rw[if_pos (by omega)]
theorem fill_set {zs:List Int} {m k:Nat} {s:Int} (a:zs.length=k) (b:k<m):(zs++List.replicate (m-k) 0).set k s=(zs++[s])++List.replicate (m-(k+1)) 0:=by
 rw[List.set_append_right _ _ (by omega),a,Nat.sub_self,show m-k=(m-(k+1))+1 by omega,List.replicate_succ,List.set_cons_zero,List.append_assoc]
 rfl
theorem zP0 {m k:Nat} {f:Nat→Int} (a:k<m):((List.range m).map f).getD k 0=f k:=by
 rw[List.getD_eq_getElem?_getD,List.getElem?_map,List.getElem?_range a];rfl
theorem j70 {up:Bool} {fill:Int} {i:Nat} {ys s:List Int} {j:Nat} (h:ys.length≤j):M.shiftB up fill (ys.drop j) i s= .ret s:=by
 rw[List.drop_eq_nil_of_le h];rfl
theorem pow_le4 {i:Nat} (h:i<10):2^i≤512∧1≤2^i:=⟨Nat.pow_le_pow_right (by omega) (show i≤9 by omega),Nat.one_le_two_pow⟩
theorem from_sm {up:Bool} {fill:Int} {s:List Int} {b k:Nat} (a:Sm fill) (hs:SmL s) (c:k<s.length):Sm (M.fromL up fill s b k):=by
 unfold M.fromL
 repeat' split
 all_goals first|exact a|exact hs.get (by omega)
theorem shift_spec {xv yv:Value} {xs ys:List Int} {up:Bool} {fill:Int} (h:BdR n bb ar ab X F w st) (hx:Ints (Off X F) w xv xs) (hy:Ints (Off X F) w yv ys) (h8:xs.length≤1000) (ap:ys.length≤8) (W:SmL xs) (ah:SmL ys) (hf:Sm fill)
  (hK:∀w' F' st' r zs,BdR n bb ar ab X F' w' st'→Mv F w F' w'→Ints (Off X F') w' r zs→SmL zs→M.Bd.Out n (M.shiftB up fill ys 0 xs) st st' zs→K r w'):
  vcall PP xW #[.pointer (some ⟨bb,0,none⟩),xv,yv,.bool up,.int .i64 fill] w K:=by
 apply Kx
 simp(disch:=first|(simp only[push_cast];done)|omega) only[push_cast,hy.len]
 refine vloop_up ys.length (fun i u w'=> ∃I A sv ss,u=[sv,.int .i64 i]∧BdR n bb ar ab X I w' A∧Mv F w I w'∧Ints (Off X I) w' sv ss∧SmL ss∧ss.length=xs.length∧
  ∀st2 rs,M.Bd.Out n (M.shiftB up fill (ys.drop i) i ss) A st2 rs→M.Bd.Out n (M.shiftB up fill ys 0 xs) st st2 rs) ⟨F,st,xv,xs,rfl,h,Mv.refl,hx,W,rfl,fun _ _ h=>h⟩ ?_
 rintro i _ g D C hi ⟨I,A,sv,ss,rfl,h1,H,T,V,ao,L⟩ hC
 simp only[push_cast]
 refine zh (fun al=>?_) (fun ak=>hK D I A sv ss h1 H T V (L A ss (by rw[j70 (by omega)];exact M.Bd.Out.ret _ _)))
 have O:i<ys.length:=by omega
 have a5:=Ints.mv hy H
 obtain⟨am,an⟩:=pow_le4 (i:=i) (by omega)
 have a4:∀K:Value→World→Prop,zr PP .shl zb true (.int .i64 1) (.int .i64 i) D K=K (.int .i64 (2^i:Nat)) D:=fun K=>by
  have:=vbin_shlI (P:=PP) (w:=D) (K:=K) (c:=true) (t:=zb) (yk:= .i64) (x:=1) (y:=i) (by omega) (by rw[Nat.one_mul];omega)
  rw[Nat.one_mul] at this
  exact this
 simp(disch:=first|(simp only[push_cast];done)|omega) only[push_cast,a5.iaddr,a5.load]
 rw[a4]
 generalize Z:2^i=b at*
 refine zV (fun u w'=>w'=D∧u=[.int .i64 (if up then-(b:Int) else b)]) ?_ ?_
 ·intro J hJ
  cases up
  ·exact hJ _ _ ⟨rfl,rfl⟩
  ·simp(disch:=omega) only[push_cast,zy,Int.zero_sub]
   exact hJ _ _ ⟨rfl,rfl⟩
 rintro _ _ w2 ⟨ag,rfl⟩
 rw[ag]
 simp(disch:=first|(simp only[push_cast];done)|omega) only[push_cast,T.len]
 refine vmkS_own (z:= .int .i64 0) (bs:=8) yV xl yB rfl (by omega) (by omega) fun nv w3 Q N a2=>?_
 have Q:OwnI PP zc w3 nv (List.replicate ss.length 0):=by unfold OwnI;rw[List.map_replicate];exact Q
 have h3:=h1.ext N
 have af:Ints (fun b=> ¬I b∧b<D.heap.size) w3 sv ss:=(Ints.low T).ext N
 have aa:Sm (ys.getD i 0):=ah.get O
 have S:NewI X D I w3 nv (List.replicate ss.length 0):=NewI.of Q a2 h1.lt
 have ad:=H.ext N
 have aq:=H.same.size
 refine vloop_up ss.length (fun k u w'=> ∃Y B zs,u=[.int .i64 k]∧BdR n bb ar ab X Y w' B∧Mv F w Y w'∧Ints (fun b=> ¬Y b∧b<D.heap.size) w' sv ss∧NewI X D Y w' nv (zs++List.replicate (ss.length-k) 0)∧SmL zs∧zs.length=k∧
  ∀st2 rs,M.Bd.Out n (M.eachB (M.muxB (ys.getD i 0)) (((List.range ss.length).map (M.fromL up fill ss b)).drop k) (ss.drop k)) B st2 rs→M.Bd.Out n (M.eachB (M.muxB (ys.getD i 0)) ((List.range ss.length).map (M.fromL up fill ss b)) ss) A st2 (zs++rs))
  ⟨I,A,[],rfl,h3,ad,af,by simpa using S,SmL.nil,rfl,fun _ _ h=>h⟩ ?_
 rintro k _ g4 w4 C4 hk ⟨Y,B,zs,rfl,h4,a0,v,R,a6,a7,E⟩ a8
 simp only[push_cast]
 refine zh (fun aj=>?_) (fun ai=>?_)
 ·have o:k<ss.length:=by omega
  have ac:Sm (M.fromL up fill ss b k):=from_sm hf V o
  have a1:(zs++List.replicate (ss.length-k) (0:Int)).length=ss.length:=by rw[List.length_append,List.length_replicate];omega
  have go:∀(C5:Value→World→Prop),(∀l m a s,BdR n bb ar ab X m l a→Mv F w m l→Ints (fun b=> ¬m b∧b<D.heap.size) l sv ss→NewI X D m l nv (zs++List.replicate (ss.length-k) 0)→Sm s→M.Bd.Out n (M.muxB (ys.getD i 0) (M.fromL up fill ss b k) (ss.getD k 0)) B a s→C5 (.int .i64 s) l)→
    vcall PP yL #[.pointer (some ⟨bb,0,none⟩),.int .i64 (ys.getD i 0),.int .i64 (M.fromL up fill ss b k),.int .i64 (ss.getD k 0)] w4 C5:=fun C5 a9=>
   bmux_spec h4 aa ac (V.get o) fun l m a s G f q p=>a9 l m a s G (a0.trans f) (Ints.lowMv v f) (R.mv f) q p
  have fin:∀l m a s,BdR n bb ar ab X m l a→Mv F w m l→Ints (fun b=> ¬m b∧b<D.heap.size) l sv ss→NewI X D m l nv (zs++List.replicate (ss.length-k) 0)→Sm s→M.Bd.Out n (M.muxB (ys.getD i 0) (M.fromL up fill ss b k) (ss.getD k 0)) B a s→
    zp PP zc nv (.int .i64 k) l fun t66 w6=>zt PP zw t66 (.int .i64 s) w6 fun _ w7=>C4 [.int .i64 ((k:Int)+1)] w7:=fun l m a s G f q e j p=>by
   have ae:=e.own.ints
   rw[ae.iaddr xg (by omega) (by rw[a1];omega),Int.toNat_natCast]
   refine e.own.st yo (by rw[a1];exact o) fun w6 a3 U au=>?_
   rw[fill_set a7 o] at a3
   refine a8 o _ _ ⟨m,a,zs++[s],by simp,G.upd h.err U fun b Z=>⟨by have:=(e.off b Z).1;omega,(e.off b Z).2⟩,f.to U fun b Z=> .inr (by have:=(e.off b Z).1;omega),Ints.same q U fun x hx _ W=>by have:=(e.off x W).1;omega,⟨a3,e.off,e.out⟩,a6.app (SmL.one j),by simp[a7],fun st2 rs ho=>?_⟩
   have:=E st2 (s::rs) ?_
   ·simpa using this
   rw[Wb (by simpa using o) o,zP0 o]
   exact M.Bd.Out.bind p (M.Bd.Out.map _ ho)
  obtain⟨f1,f2,f3⟩:=from_at (up:=up) (fill:=fill) (s:=ss) (b:=b) o
  have hd:(if up then-(b:Int) else b)= -(b:Int)∨(if up then-(b:Int) else b)=b:=by cases up<;>simp
  generalize (if up then-(b:Int) else b)=d at f1 f2 f3 hd
  simp(disch:=omega) only[push_cast,zy]
  refine zh (fun h0=>?_) (fun h0=>?_)
  ·refine zh (fun hl=>?_) (fun hl=>?_)
   ·simp(disch:=first|(simp only[push_cast];done)|omega) only[push_cast,v.iaddr,v.load]
    rw[←f1 (by omega) (by omega)]
    exact go _ fun l m a s G f q e j p=>fin l m a s G f q e j p
   ·simp(disch:=first|(simp only[push_cast];done)|omega) only[push_cast,v.iaddr,v.load]
    rw[←f3 (by omega)]
    exact go _ fun l m a s G f q e j p=>fin l m a s G f q e j p
  ·simp(disch:=first|(simp only[push_cast];done)|omega) only[push_cast,v.iaddr,v.load]
   rw[←f2 (by omega)]
   exact go _ fun l m a s G f q e j p=>fin l m a s G f q e j p
 ·rw[show ss.length-k=0 by omega,List.replicate_zero,List.append_nil] at R
  have:=E B [] (by rw[JZ (by simp;omega)];exact M.Bd.Out.ret _ _)
  rw[List.append_nil] at this
  simp(disch:=omega) only[push_cast,zy]
  refine hC O _ _ ⟨Y,B,nv,zs,by simp<;>exact⟨rfl,rfl⟩,h4,a0,R.ints,a6,by omega,fun st2 rs ho=>L st2 rs ?_⟩
  rw[xE O]
  unfold M.shiftB
  rw[Z]
  exact M.Bd.Out.bind this ho
end Go.Proofs.YtaekfnbnhjgboaaGreatDoor
end
section
namespace Go.Proofs.YtaekfnbnhjgboaaGreatDoor
open Go Go.Vc Go.Proofs
variable {w:World} {K:Value→World→Prop} {F F' Fx Fy X Q:Nat→Prop} {n bc mb bb:Nat} {gs:M.Gs} {v:Value} {ar ab:Addr} {st:Option M.Gs}
theorem Ints.mvQ {v:Value} {xs:List Int} {w':World} (h:Ints (fun b=> ¬F b∧Q b) w v xs) (hm:Mv F w F' w'):Ints (fun b=> ¬F' b∧Q b) w' v xs:=by
 have c:Ints (fun b=>(¬F b∧Q b)∧b<w.heap.size) w v xs:=Ints.weaken h fun _ c d=>⟨c,d⟩
 have d:=Ints.same c hm.same fun b a _=>a.1.1
 exact Ints.weaken d fun b a _=>⟨hm.off a.1.1 a.2,a.1.2⟩
theorem Ints.offQ {v:Value} {xs:List Int} (h:Ints (fun b=> ¬F b∧Q b∧¬X b) w v xs):Ints (Off X F) w v xs:=Ints.weaken h fun _ h _=>⟨h.1,h.2.2⟩
theorem SmL.set {xs:List Int} (h:SmL xs) {i:Nat} {x:Int} (b:Sm x):SmL (xs.set i x):=fun y c=>by
 rcases List.mem_or_eq_of_mem_set c with a|a
 ·exact h y a
 ·rw[a];exact b
theorem under_spec {xv yv:Value} {xs ys:List Int} (h:BdR n bb ar ab X F w st) (g:Ints (Off X F) w xv xs) (Z:Ints (Off X F) w yv ys) (W:xs.length=ys.length) (h1:1≤xs.length) (h8:xs.length≤1000) (u:SmL xs) (v:SmL ys)
  (U:∀w' F' st' r,BdR n bb ar ab X F' w' st'→Mv F w F' w'→Sm r→M.Bd.Out n (M.lessB (M.swapT xs ys) (M.swapT ys xs) (-1)) st st' r→K (.int .i64 r) w'):
  vcall PP jp #[.pointer (some ⟨bb,0,none⟩),xv,yv] w K:=by
 apply Kw
 simp(disch:=first|(simp only[push_cast];done)|omega) only[push_cast,g.len,zy]
 refine Clone_signal g (by omega) fun w1 av c j I=>?_
 refine Clone_signal (Z.ext c) (by omega) fun w2 cv s B t=>?_
 refine zx fun w3 d _=>?_
 have y:=c.trans (s.trans d)
 have k:=j.ext (s.trans d)
 have o:=B.ext d
 have m:=k.ints
 have q:=o.ints
 have l:∀b,av.ownBlock=some b→cv.ownBlock≠some b:=fun b a V=>by have:=j.lt a;have:=t b V;omega
 simp(disch:=first|(simp only[push_cast];done)|omega) only[push_cast,m.iaddr,m.load,q.iaddr,q.load,true_and]
 rw[show((xs.length:Int)-1).toNat=xs.length-1 by omega]
 refine k.st yo (by omega) fun w4 z e a0=>?_
 have p:=o.same e fun b a g=>l b g a
 have O:=p.ints
 refine p.st yo (by omega) fun x C f a1=>?_
 have A:=z.same f fun b a g=>l b a g
 have hw:=y.size
 have Y:=c.size
 have hF:∀b,(av.ownBlock=some b∨cv.ownBlock=some b)→w.heap.size≤b∧¬F b:=fun b a=>by
  have E:w.heap.size≤b:=a.elim (I b) fun a=>by have:=t b a;omega
  exact⟨E,fun D=>by have:=h.lt b (.inl D);omega⟩
 have Q:BdR n bb ar ab X F x st:=((h.ext y).upd h.err e fun b a=>hF b (.inl a)).upd h.err f fun b a=>hF b (.inr a)
 have i:∀b,(av.ownBlock=some b∨cv.ownBlock=some b)→Off X F b:=fun b a=>⟨(hF b a).2,fun D=>by have:=(hF b a).1;have:=h.lt b (.inr D);omega⟩
 have G:Mv F w F x:=((Mv.refl.ext y).to e fun b a=> .inr (hF b (.inl a)).1).to f fun b a=> .inr (hF b (.inr a)).1
 have S:Ints (Off X F) x av (M.swapT xs ys):=Ints.weaken A.ints fun b a _=>i b (.inl a)
 have T:Ints (Off X F) x cv (M.swapT ys xs):=by
  have:=Ints.weaken C.ints fun b a _=>i b (.inr a)
  unfold M.swapT;rw[W] at this;exact this
 refine bless_spec Q S T (by unfold M.swapT;simp;omega) (by unfold M.swapT;simp;omega) ?_ ?_ fun w6 P N r R H L J=>U w6 P N r R (G.trans H) L J
 ·exact u.set (v.get (by omega))
 ·exact v.set (u.get (by omega))
theorem VY {xs:List Int} {m k:Nat} (h:k<m):(xs.take m).getD k 0=xs.getD k 0:=M.take_getD h
theorem kU0 {xs wide r q:List Int} {m:Nat} {l:Int} {u d:List Int} {st a st2 b c:Option M.Gs} {res:List Int×List Int} (e:M.Bd.Out n (M.lessB (xs.getD m 0::r) wide (-1)) st a l) (f:M.Bd.Out n (M.sumB (xs.getD m 0::r) (M.negL wide) 1) a st2 u)
  (g:M.Bd.Out n (M.eachB (M.muxB l) ((xs.getD m 0::r).take xs.length) (u.take xs.length)) st2 b d) (h:M.Bd.Out n (M.divB xs wide m d (q.set m (-l))) b c res):M.Bd.Out n (M.divB xs wide (m+1) r q) st c res:=by
 unfold M.divB
 exact M.Bd.Out.bind e (M.Bd.Out.bind f (M.Bd.Out.bind g h))
theorem divide_spec {xv yv:Value} {xs ys:List Int} (h:BdR n bb ar ab X F w st) (hx:Ints (Off X F) w xv xs) (hy:Ints (Off X F) w yv ys) (hl:xs.length=ys.length) (h8:xs.length≤900) (cq:SmL xs) (cr:SmL ys)
  (hK:∀w' F' st' qv rv q r,BdR n bb ar ab X F' w' st'→Mv F w F' w'→Ints (Off X F') w' qv q→Ints (Off X F') w' rv r→SmL q→SmL r→M.Bd.Out n (M.divB xs (ys++[-1]) xs.length (M.offsL xs.length) (M.offsL xs.length)) st st' (q,r)→K (.tuple #[qv,rv]) w'):
  vcall PP qi #[.pointer (some ⟨bb,0,none⟩),xv,yv] w K:=by
 apply Jv
 simp(disch:=first|(simp only[push_cast];done)|omega) only[push_cast,hx.len]
 refine offs_spec (by omega) fun w1 ao az bf b8=>?_
 refine offs_spec (by omega) fun w2 qv a6 bc b6=>?_
 have e2:=az.trans a6
 refine Clone_signal (hy.ext e2) (by omega) fun w3 dc a7 cn af=>?_
 refine yg yU yo yB rfl rfl fun b4 w4 d1 a8 an c2=>?_
 refine(cn.ext a8).app1 yV c2 (by omega) (by omega) fun wv w5 co bk c9=>?_
 have z1:=az.size;have z2:=a6.size;have z3:=a7.size
 have ak:∀b,wv.ownBlock=some b→w2.heap.size≤b:=fun b a=>(c9 b a).elim (af b) fun h=>by omega
 have e4:=e2.trans (a7.trans a8)
 have aw:∀b,F b→b<w.heap.size:=fun b a=>h.lt b (.inl a)
 have a5:∀b,w.heap.size≤b→¬X b:=fun b a hx=>by have:=h.lt b (.inr hx);omega
 have e5:Ext w w5:=Ext.then e4 bk fun b a=>by have:=af b a;omega
 have aq:Ext w2 w5:=Ext.then (a7.trans a8) bk fun b a=>af b a
 have h5:=h.ext e5
 have c7:Mv F w F w5:=Mv.refl.ext e5
 have cd:=bc.ext aq
 have ci:=bf.ext (a6.trans aq)
 have cg:∀b,ao.ownBlock=some b→qv.ownBlock≠some b:=fun b a O=>by have:=bf.lt a;have:=b6 b O;omega
 have ch:∀b,wv.ownBlock=some b→qv.ownBlock≠some b:=fun b a O=>by have:=ak b a;have:=bc.lt O;omega
 have be:∀b,qv.ownBlock=some b→w.heap.size≤b:=fun b a=>by have:=b6 b a;omega
 have hR:Ints (fun b=> ¬F b∧qv.ownBlock≠some b∧¬X b) w5 ao (M.offsL xs.length):=Ints.weaken ci.ints fun b a _=>⟨fun hf=>by have:=aw b hf;have:=b8 b a;omega,cg b a,a5 b (b8 b a)⟩
 have hW:Ints (fun b=> ¬F b∧qv.ownBlock≠some b∧¬X b) w5 wv (ys++[-1]):=Ints.weaken co.ints fun b a _=>⟨fun hf=>by have:=aw b hf;have:=ak b a;omega,ch b a,a5 b (by have:=ak b a;omega)⟩
 have hX:Ints (fun b=> ¬F b∧qv.ownBlock≠some b∧¬X b) w5 xv xs:=by
  have h1:Ints (fun b=>(¬F b∧¬X b)∧b<w.heap.size) w xv xs:=Ints.weaken hx fun _ h1 h2=>⟨h1,h2⟩
  exact Ints.weaken (h1.ext e5) fun b a _=>⟨a.1.1,fun O=>(by have:=be b O;omega),a.1.2⟩
 have hQ:NewI X w F w5 qv (M.offsL xs.length):=NewI.of cd be h.lt
 simp(disch:=first|(simp only[push_cast];done)|omega) only[push_cast,zy]
 have cp:(ys++[(-1:Int)]).length=xs.length+1:=by rw[List.length_append,hl];rfl
 have al:SmL (ys++[(-1:Int)]):=cr.app (SmL.one (by decide))
 generalize ys++[(-1:Int)]=wide at*
 refine YC (fun m u w'=> ∃F1 br rv r q,u=[rv,.int .i64 ((m:Int)-1)]∧m≤xs.length∧BdR n bb ar ab X F1 w' br∧Mv F w F1 w'∧Ints (fun b=> ¬F1 b∧qv.ownBlock≠some b∧¬X b) w' rv r∧r.length=xs.length∧SmL r∧NewI X w F1 w' qv q∧q.length=xs.length∧SmL q∧
  Ints (fun b=> ¬F1 b∧qv.ownBlock≠some b∧¬X b) w' wv wide∧Ints (fun b=> ¬F1 b∧qv.ownBlock≠some b∧¬X b) w' xv xs∧
  ∀st2 res,M.Bd.Out n (M.divB xs wide m r q) br st2 res→M.Bd.Out n (M.divB xs wide xs.length (M.offsL xs.length) (M.offsL xs.length)) st st2 res) xs.length
  ⟨F,st,ao,_,_,rfl,Nat.le_refl _,h5,c7,hR,M.offsL_len _,SmL.offs _,hQ,M.offsL_len _,SmL.offs _,hW,hX,fun _ _ h=>h⟩ ?_
 rintro m _ g w6 C ⟨F6,bu,rv,r,q,rfl,hm,h6,aa,bg,bh,bi,ag,cf,bd,bn,am,a0⟩ hC
 simp only[push_cast]
 refine zh (fun d3=>?_) (fun d4=>?_)
 ·obtain⟨m,rfl⟩:∃j,m=j+1:=⟨m-1,by omega⟩
  have c8:m<xs.length:=by omega
  rw[show((m+1:Nat):Int)-1=(m:Int) by omega]
  simp(disch:=first|(simp only[push_cast];done)|omega) only[push_cast,am.iaddr,am.load]
  refine yg yU yo yB rfl rfl fun b7 w7 d2 b0 d7 c3=>?_
  have ck:OwnI PP zc w7 (.slice (some ⟨b7,0,none⟩) 1 1) [xs.getD m 0]:=Blk.own1 (P:=PP) (t:=zc) (cs:=[Value.int .i64 (xs.getD m 0)]) (by rw[xl];exact c3) (Nat.zero_le _) rfl rfl (by omega)
  refine ck.app yV (bg.ext b0) (by simp;omega) (by simp;omega) fun tv w8 cl cj ca=>?_
  have l6:=aa.same.size
  have ai:∀b,tv.ownBlock=some b→w6.heap.size≤b:=fun b a=>(ca b a).elim (fun h=>by have e:b7=b:=Option.some.inj h;omega) fun h=>by omega
  have e8:Ext w6 w8:=Ext.then b0 cj fun b a=>by have e:b7=b:=Option.some.inj a;omega
  have c1:=h6.ext e8
  have hT:Ints (fun b=> ¬F6 b∧qv.ownBlock≠some b∧¬X b) w8 tv (xs.getD m 0::r):=Ints.weaken cl.ints fun b a _=>⟨fun hf=>by have:=h6.lt b (.inl hf);have:=ai b a;omega,fun O=>(by have:=ag.own.lt O;have:=ai b a;omega),a5 b (by have:=ai b a;omega)⟩
  have aj:SmL (xs.getD m 0::r):=(SmL.one (cq.get c8)).app bi
  have W:Mv F6 w6 F6 w8:=Mv.refl.ext e8
  refine bless_spec c1 (Ints.offQ hT) (Ints.offQ (Ints.ext bn e8)) (by simp;omega) (by simp;omega) aj al fun w9 F9 cu l h9 H c5 cc=>?_
  have y:=(ag.mv W).mv H
  have ce:=y.own.ints
  simp(disch:=first|(simp only[push_cast];done)|omega) only[push_cast,zy,Int.zero_sub,ce.iaddr]
  refine y.own.st yo (by omega) fun w10 ba J cz=>?_
  have au:BdR n bb ar ab X F9 w10 cu:=h9.upd h.err J fun b a=>y.off b a
  have b1:Mv F w F9 w10:=(((aa.trans W)).trans H).to J fun b a=> .inr (y.off b a).1
  have keep:∀{v:Value} {zs:List Int},Ints (fun b=> ¬F9 b∧qv.ownBlock≠some b∧¬X b) w9 v zs→Ints (fun b=> ¬F9 b∧qv.ownBlock≠some b∧¬X b) w10 v zs:=fun hh=>Ints.same hh J fun b a _ hx=>a.2.1 hx
  have Q:=keep (Ints.mvQ hT H)
  have a3:=keep (Ints.mvQ (Ints.ext bn e8) H)
  have bo:=keep (Ints.mvQ (Ints.ext am e8) H)
  refine negated_spec a3 (by omega) al fun cv nv c b2 ad=>?_
  have bw:=au.ext c
  have hN:Ints (Off X F9) cv nv (M.negL wide):=(NewI.of b2 ad au.lt).ints
  refine bsum_spec bw (Ints.offQ (Ints.ext Q c)) hN (by rw[M.negL_len];simp;omega) (by simp;omega) aj al.neg (by decide) fun A p a4 uv us av f bl cm Y=>?_
  have d6:us.length=xs.length+1:=by
   have:=M.sum_len Y.reach
   rw[M.negL_len,cp,List.length_cons,bh] at this
   omega
  have d8:=f.same.size
  have i:Mv F w p A:=(b1.ext c).trans f
  have ax:=Ints.mvQ (Ints.ext Q c) f
  have bm:=Ints.mvQ (Ints.ext a3 c) f
  have bp:=Ints.mvQ (Ints.ext bo c) f
  have a1:NewI X w p A qv (q.set m (-l)):=(NewI.mv (F':=F9) ⟨ba,y.off,y.out⟩ (Mv.refl.ext c)).mv f
  have ay:=bl.ints
  refine vmkS_own (z:= .int .i64 0) (bs:=8) yV xl yB rfl (by omega) (by omega) fun L bv o T ae=>?_
  have o:OwnI PP zc bv L (List.replicate xs.length 0):=by unfold OwnI;rw[List.map_replicate];exact o
  have bx:=av.ext T
  have b3:NewI X A p bv L (List.replicate xs.length 0):=NewI.of o ae av.lt
  have ac:=o.ints
  have ah:(List.replicate xs.length (0:Int)).length=xs.length:=List.length_replicate
  have hlen:∀(w':World) (K:Value→World→Prop),vbi PP .len [zc] zb [L] w' K=K (.int .i64 xs.length) w':=fun w' K=>by rw[ac.len xC,ah]
  simp only[hlen]
  have d5:(xs.getD m 0::r).length=xs.length+1:=by rw[List.length_cons,bh]
  generalize ht:xs.getD m 0::r=t at*
  refine vloop_up xs.length (fun k u w'=> ∃F4 N zs,u=[.int .i64 k]∧BdR n bb ar ab X F4 w' N∧Mv p A F4 w'∧NewI X A F4 w' L (zs++List.replicate (xs.length-k) 0)∧SmL zs∧zs.length=k∧
   ∀st2 rs,M.Bd.Out n (M.eachB (M.muxB l) ((t.take xs.length).drop k) ((us.take xs.length).drop k)) N st2 rs→M.Bd.Out n (M.eachB (M.muxB l) (t.take xs.length) (us.take xs.length)) a4 st2 (zs++rs))
   ⟨p,a4,[],rfl,bx,Mv.refl.ext T,by simpa using b3,SmL.nil,rfl,fun _ _ h=>h⟩ ?_
  rintro k _ g4 d9 C4 hk ⟨F4,N,zs,rfl,h4,G,x,an,bq,I⟩ c4
  simp only[push_cast]
  refine zh (fun cy=>?_) (fun cx=>?_)
  ·have D:k<xs.length:=by omega
   have b5:(zs++List.replicate (xs.length-k) (0:Int)).length=xs.length:=by rw[List.length_append,List.length_replicate];omega
   refine zx fun da B _=>?_
   have bz:=h4.ext B
   have E:=G.ext B
   have R:=Ints.mvQ ax E
   have S:=Ints.mv ay E
   simp(disch:=first|(simp only[push_cast];done)|omega) only[push_cast,R.iaddr,R.load,S.iaddr,S.load,true_and]
   refine bmux_spec bz c5 (aj.get (by omega)) (cm.get (by omega)) fun cw ap bt s c0 V bj b9=>?_
   have d:=(x.mv (Mv.refl.ext B)).mv V
   have cb:=d.own.ints
   rw[cb.iaddr xg (by omega) (by rw[b5];omega),Int.toNat_natCast]
   simp only[true_and]
   refine d.own.st yo (by rw[b5];exact D) fun db Z a2 d0=>?_
   rw[fill_set bq D] at Z
   try simp(disch:=omega) only[push_cast,zy]
   have a9:Mv p A ap cw:=E.trans V
   have ct:=i.same.size
   refine c4 D _ _ ⟨ap,bt,zs++[s],by simp,c0.upd h.err a2 fun b a=>⟨by have:=(d.off b a).1;omega,(d.off b a).2⟩,a9.to a2 fun b a=> .inr (d.off b a).1,⟨Z,d.off,d.out⟩,an.app (SmL.one bj),by simp[bq],fun st2 rs ho=>?_⟩
   have:=I st2 (s::rs) ?_
   ·simpa using this
   rw[Wb (by rw[List.length_take];omega) (by rw[List.length_take];omega),VY D,VY D]
   exact M.Bd.Out.bind b9 (M.Bd.Out.map _ ho)
  ·rw[show xs.length-k=0 by omega,List.replicate_zero,List.append_nil] at x
   have U:=I N [] (by rw[JZ (by rw[List.length_take];omega)];exact M.Bd.Out.ret _ _)
   rw[List.append_nil] at U
   try simp(disch:=omega) only[push_cast,zy]
   have ct:=i.same.size
   refine hC m _ _ (by omega) ⟨F4,N,L,zs,q.set m (-l),by simp<;>exact⟨rfl,rfl⟩,by omega,h4,i.trans G,Ints.weaken x.own.ints fun b a _=>⟨(x.off b a).2,fun O=>(by have:=(x.off b a).1;have:=a1.own.lt O;omega),x.out b a⟩,by omega,an,a1.mv G,by rw[List.length_set];exact cf,bd.set (by unfold Sm at*;omega),Ints.mvQ bm G,Ints.mvQ bp G,fun st2 res ho=>a0 st2 res ?_⟩
   subst ht
   exact kU0 cc Y U ho
 ·have c6:m=0:=by omega
  subst c6
  exact hK w6 F6 bu qv rv q r h6 aa ag.ints (Ints.offQ bg) bd bi (a0 bu (q,r) (by unfold M.divB;exact M.Bd.Out.ret _ _))
end Go.Proofs.YtaekfnbnhjgboaaGreatDoor
end
