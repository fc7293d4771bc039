import Derived.Orders
import Derived.Tactics
import Derived.Laws.Sem
import Derived.KernelRfl
/- A part of the proof: VcA, VcB, VcD. -/
set_option linter.unusedVariables false
set_option linter.unusedSimpArgs false
set_option linter.unnecessarySimpa false
set_option linter.unusedSectionVars false
section
namespace Go.Vc
open Go
abbrev Fr := Nat → Value
def put (f : Fr) (d : Option Nat) (v : Value) : Fr :=
  match d with
  | some d => fun t => cond (Nat.beq t d) v (f t)
  | none => f
def ev (f : Fr) : Operand → Value
  | .tmp t => f t
  | .const v => v
  | .global g => .pointer (some ⟨g, 0, none⟩)
  | .func k => .func (.func k) #[] #[]
structure Sim (n : Nat) (f : Fr) (a : Act) : Prop where
  size : a.tmps.size = n
  defers : a.defers = []
  at_ : ∀ t, a.tmps.getD t undef = f t
theorem Sim.eval {n : Nat} {f : Fr} {a : Act} (h : Sim n f a) : a.eval = ev f := by
  funext x
  cases x <;> simp only [Act.eval, ev]
  exact h.at_ _
theorem put_same (f : Fr) (d : Nat) (v : Value) : put f (some d) v d = v := by simp [put]
theorem put_ne (f : Fr) (d t : Nat) (v : Value) (h : t ≠ d) : put f (some d) v t = f t := by
  have : Nat.beq t d = false := by cases hb : Nat.beq t d; · rfl
                                   · exact absurd (Nat.eq_of_beq_eq_true hb) h
  simp [put, this]
def dstOk (n : Nat) (d : Option Nat) : Bool := match d with | some d => Nat.blt d n | none => true
theorem Sim.put {n : Nat} {f : Fr} {a : Act} (h : Sim n f a) {d : Option Nat} (hd : dstOk n d = true) (v : Value) : Sim n (put f d v) (a.put d v) := by
  cases d with
  | none => exact h
  | some d =>
    have hlt : d < n := by simpa [dstOk, Nat.blt_eq] using hd
    refine ⟨by simp [Act.put, h.size], by simp [Act.put, h.defers], fun t => ?_⟩
    by_cases ht : t = d
    · subst ht
      rw [put_same]
      simp [Act.put, Array.getD_eq_getD_getElem?, h.size, hlt]
    · rw [put_ne _ _ _ _ ht, ← h.at_ t]
      simp [Act.put, Array.getD_eq_getD_getElem?, Array.getElem?_setIfInBounds_ne (Ne.symm ht)]
def vrun {α : Type} (P : Program) (s : Sem α) (w : World) (K : α → World → Prop) : Prop := ∃ v w', s.run P w = .ok v w' ∧ K v w'
def retK (K : Value → World → Prop) (e : Ending) (w : World) : Prop :=
  match e with
  | .returned v => K v w
  | _ => False
def okFn (P : Program) (g : Nat) : Bool :=
  match P.funcs[g]? with
  | some fn => fn.name != "runtime.NumGoroutine" && fn.body.isSome
  | none => false
def vcall (P : Program) (g : Nat) (args : Array Value) (w : World) (K : Value → World → Prop) : Prop :=
  okFn P g = true ∧ Calls P g args w (retK K)
def vcallv (P : Program) (v : Value) (args : Array Value) (w : World) (K : Value → World → Prop) : Prop :=
  match v with
  | .func (.func g) first cap => vcall P g ⟨(first.toList ++ args.toList) ++ cap.toList⟩ w K
  | _ => False
def vinvoke (P : Program) (r : Value) (name : String) (args : Array Value) (w : World) (K : Value → World → Prop) : Prop :=
  match r with
  | .iface t v => ∃ g rcv, (method (P.types.size + Made.depth) t v name).run P w = .ok (g, rcv) w ∧ vcall P g ⟨rcv :: args.toList⟩ w K
  | _ => False
def vpick (c a b : Value) (w : World) (K : Value → World → Prop) : Prop :=
  match c with
  | .bool true => K a w
  | .bool false => K b w
  | _ => False
def vif (c : Value) (A B : Prop) : Prop :=
  match c with
  | .bool true => A
  | .bool false => B
  | _ => False
def eqG (op : BinOp) (t : TypeId) (c : Bool) (a b : Value) : Sem Unit := eqGuard op t (cond c (.const undef) (.tmp 0)) (.tmp 0) a b
def isC : Operand → Bool | .const _ => true | _ => false
theorem eqGuard_eq (op : BinOp) (t : TypeId) (x y : Operand) (a b : Value) : eqGuard op t x y a b = eqG op t (isC x || isC y) a b := by
  unfold eqG eqGuard
  cases x <;> cases y <;> rfl
def vbin (P : Program) (op : BinOp) (t : TypeId) (c : Bool) (a b : Value) (w : World) (K : Value → World → Prop) : Prop :=
  vrun P (do eqG op t c a b; binOp op t a b) w K
def vun (P : Program) (op : UnOp) (a : Value) (w : World) (K : Value → World → Prop) : Prop := vrun P (Op.unary op a) w K
def valloc (P : Program) (t : TypeId) (w : World) (K : Value → World → Prop) : Prop := vrun P (Instr.alloc t true (.tuple #[])) w K
def vbox (P : Program) (t : TypeId) (v : Value) (w : World) (K : Value → World → Prop) : Prop := vrun P (Instr.box t v) w K
def vbuild (P : Program) (t : TypeId) (ps : List (Nat × Value)) (w : World) (K : Value → World → Prop) : Prop := vrun P (Instr.build t ⟨ps⟩) w K
def vbuildS (P : Program) (t n : Nat) (ps : List (Nat × Value)) (w : World) (K : Value → World → Prop) : Prop := vrun P (Instr.buildSlice t n ⟨ps⟩) w K
def vload (P : Program) (t : TypeId) (a : Value) (w : World) (K : Value → World → Prop) : Prop := vrun P (Instr.loadAt t a) w K
def vstore (P : Program) (t : TypeId) (a v : Value) (w : World) (K : Value → World → Prop) : Prop := vrun P (Instr.storeAt t a v) w fun _ w' => K undef w'
def vnilD (v : Value) (w : World) (K : Value → World → Prop) : Prop :=
  match v with
  | .pointer (some a) => K (.pointer (some a)) w
  | .pointer none => False
  | .nilIface => False
  | .nilFunc => False
  | .func (.func g) a b => K (.func (.func g) a b) w
  | .func _ _ _ => False
  | .iface t x => K (.iface t x) w
  | v => K v w
structure vnil (_P : Program) (v : Value) (w : World) (K : Value → World → Prop) : Prop where
  h : vnilD v w K
def vconv (P : Program) (s d : TypeId) (v : Value) (w : World) (K : Value → World → Prop) : Prop := vrun P (convert s d v) w K
def vmkI (P : Program) (t : TypeId) (v : Value) (w : World) (K : Value → World → Prop) : Prop := vrun P (Instr.makeInterface t v) w K
def vmkF (P : Program) (fn : Fn) (first cap : List Value) (w : World) (K : Value → World → Prop) : Prop := vrun P (Instr.makeFunc fn ⟨first⟩ ⟨cap⟩) w K
def vmkM (P : Program) (t : TypeId) (r : Option Value) (w : World) (K : Value → World → Prop) : Prop := vrun P (Instr.makeMap t r) w K
def vmkS (P : Program) (t : TypeId) (l c : Value) (w : World) (K : Value → World → Prop) : Prop := vrun P (Instr.makeSlice t l c) w K
def vslice (P : Program) (t : TypeId) (x : Value) (lo hi mx : Option Value) (w : World) (K : Value → World → Prop) : Prop := vrun P (Instr.sliceAt t x lo hi mx) w K
def vfaddr (P : Program) (s : TypeId) (x : Value) (f : Nat) (w : World) (K : Value → World → Prop) : Prop := vrun P (Instr.fieldAt s x f) w K
def vfield (P : Program) (t : TypeId) (x : Value) (f : Nat) (w : World) (K : Value → World → Prop) : Prop := vrun P (Instr.field t x f) w K
def viaddr (P : Program) (t : TypeId) (x i : Value) (w : World) (K : Value → World → Prop) : Prop := vrun P (Instr.indexAt t x i) w K
def vindex (P : Program) (t : TypeId) (x i : Value) (w : World) (K : Value → World → Prop) : Prop := vrun P (Instr.index t x i) w K
def vlook (P : Program) (t : TypeId) (x i : Value) (ok : Bool) (w : World) (K : Value → World → Prop) : Prop := vrun P (Instr.lookup t x i ok) w K
def vmset (P : Program) (t : TypeId) (m k x : Value) (w : World) (K : Value → World → Prop) : Prop := vrun P (Instr.mapUpdate t m k x) w fun _ w' => K undef w'
def vrange (P : Program) (t : TypeId) (x : Value) (w : World) (K : Value → World → Prop) : Prop := vrun P (Instr.range t x) w K
def vnext (P : Program) (it : Value) (s : Bool) (t : TypeId) (w : World) (K : Value → World → Prop) : Prop := vrun P (Instr.next it s t) w K
def ventry (P : Program) (it : Value) (w : World) (K : Value → World → Prop) : Prop := vrun P (Instr.entry it) w K
def vassert (P : Program) (x : Value) (t u : TypeId) (ok : Bool) (w : World) (K : Value → World → Prop) : Prop := vrun P (Instr.typeAssert x t u ok) w K
def vextract (P : Program) (x : Value) (i : Nat) (w : World) (K : Value → World → Prop) : Prop := vrun P (Instr.extract x i) w K
def biSem (b : Builtin) (ts : Array TypeId) (t : TypeId) (args : Array Value) : Sem Value :=
  match b with
  | .append => Builtin.append_ ts t args
  | .cap => Builtin.cap_ ts t args
  | .copy => Builtin.copy_ ts t args
  | .delete => Builtin.delete_ ts t args
  | .len => Builtin.len_ ts t args
  | .max => Builtin.max_ ts t args
  | .min => Builtin.min_ ts t args
  | _ => stuck ""
def vbi (P : Program) (b : Builtin) (ts : List TypeId) (t : TypeId) (args : List Value) (w : World) (K : Value → World → Prop) : Prop := vrun P (biSem b ⟨ts⟩ t ⟨args⟩) w K
def evP (f : Fr) : List (Nat × Operand) → List (Nat × Value)
  | [] => []
  | p :: r => (p.1, ev f p.2) :: evP f r
def evL (f : Fr) : List Operand → List Value
  | [] => []
  | x :: r => ev f x :: evL f r
def evO (f : Fr) : Option Operand → Option Value
  | none => none
  | some x => some (ev f x)
theorem evP_eq (f : Fr) (l : List (Nat × Operand)) : evP f l = l.map fun p => (p.1, ev f p.2) := by induction l <;> simp_all [evP]
theorem evL_eq (f : Fr) (l : List Operand) : evL f l = l.map (ev f) := by induction l <;> simp_all [evL]
theorem evO_eq (f : Fr) (l : Option Operand) : evO f l = l.map (ev f) := by cases l <;> rfl
def vop (P : Program) (o : Op) (ty : TypeId) (f : Fr) (w : World) (K : Value → World → Prop) : Prop :=
  match o with
  | .move x => K (ev f x) w
  | .assign x => K (ev f x) w
  | .pick c a b => vpick (ev f c) (ev f a) (ev f b) w K
  | .alloc t => valloc P t w K
  | .box t x => vbox P t (ev f x) w K
  | .build t ps => vbuild P t (evP f ps.toList) w K
  | .buildSlice t n ps => vbuildS P t n (evP f ps.toList) w K
  | .load t a => vload P t (ev f a) w K
  | .store t a x => vstore P t (ev f a) (ev f x) w K
  | .nilCheck x => vnil P (ev f x) w K
  | .binOp op t x y _ => vbin P op t (isC x || isC y) (ev f x) (ev f y) w K
  | .unOp op _ x => vun P op (ev f x) w K
  | .convert s d x => vconv P s d (ev f x) w K
  | .makeInterface t x => vmkI P t (ev f x) w K
  | .makeFunc fn a b => vmkF P fn (evL f a.toList) (evL f b.toList) w K
  | .makeMap t r => vmkM P t (evO f r) w K
  | .makeSlice t l c => vmkS P t (ev f l) (ev f c) w K
  | .slice t x lo hi mx => vslice P t (ev f x) (evO f lo) (evO f hi) (evO f mx) w K
  | .fieldAddr s x i => vfaddr P s (ev f x) i w K
  | .field t x i => vfield P t (ev f x) i w K
  | .indexAddr t x i => viaddr P t (ev f x) (ev f i) w K
  | .index t x i => vindex P t (ev f x) (ev f i) w K
  | .lookup t x i ok => vlook P t (ev f x) (ev f i) ok w K
  | .mapUpdate t m k x => vmset P t (ev f m) (ev f k) (ev f x) w K
  | .insert t m k x => vmset P t (ev f m) (ev f k) (ev f x) w K
  | .range t x => vrange P t (ev f x) w K
  | .next it s => vnext P (ev f it) s ty w K
  | .entry it => ventry P (ev f it) w K
  | .typeAssert x t u ok => vassert P (ev f x) t u ok w K
  | .extract x i => vextract P (ev f x) i w K
  | .call c => match c.callee with
    | .value x => vcallv P (ev f x) ⟨evL f c.args.toList⟩ w K
    | .invoke r name => vinvoke P (ev f r) name ⟨evL f c.args.toList⟩ w K
    | .builtin b => vbi P b c.argTypes.toList ty (evL f c.args.toList) w K
  | _ => False
def isStatic : Op → Bool
  | .move _ | .assign _ | .pick .. | .build .. | .load .. | .nilCheck _ | .binOp .. | .unOp .. | .convert .. | .makeInterface ..
  | .makeFunc .. | .slice .. | .fieldAddr .. | .field .. | .indexAddr .. | .index .. | .lookup .. | .typeAssert .. | .extract .. => true
  | .call c => match c.callee with
    | .builtin b => (match b with | .len => true | .cap => true | .max => true | .min => true | _ => false)
    | _ => false
  | _ => false
section
variable {P : Program} {f : Fr} {w : World} {K : Value → World → Prop}
theorem run_value {s : Sem Value} {v : Value} {w' : World} (h : s.run P w = .ok v w') : (do pure (Next.value (← s)) : Sem Next).run P w = .ok (.value v) w' := by
  simp [h]
theorem amap {α β : Type} (g : α → β) (l : Array α) : (⟨l.toList.map g⟩ : Array β) = l.map g := by
  apply Array.toList_inj.1; simp
theorem ext1 {α : Type} (x : α) (l : Array α) : (#[x] ++ l).extract 1 (#[x] ++ l).size = l := by
  apply Array.toList_inj.1; simp
theorem vnil_run {v : Value} {Kn : Value → World → Prop} (h : vnil P v w Kn) : Kn v w ∧ ∀ {ρ : Operand → Value} {x : Operand} {d : Option Tmp} {ty : TypeId} {p : String} {e : Array Edge} {g : Option (Nat × Bool)},
    ρ x = v → (execOp ρ ⟨d, .nilCheck x, ty, p, e, g⟩).run P w = .ok (.value v) w := by
  replace h := h.h
  cases v <;> simp only [vnilD] at h
  case pointer a =>
    cases a <;> simp only at h
    exact ⟨h, fun hx => by simp only [execOp, hx]; rfl⟩
  case func fn x y =>
    cases fn <;> simp only at h
    exact ⟨h, fun hx => by simp only [execOp, hx]; rfl⟩
  all_goals exact ⟨h, fun hx => by simp only [execOp, hx]; rfl⟩
theorem vop_run {o : Oper} (hst : isStatic o.op = true) (h : vop P o.op o.type f w K) :
    ∃ v w', (execOp (ev f) o).run P w = .ok (.value v) w' ∧ K v w' := by
  obtain ⟨dst, op, type, pos, after, guard⟩ := o
  cases op <;> simp only [isStatic, Bool.false_eq_true] at hst <;> simp only [vop] at h
  case move x => exact ⟨_, _, rfl, h⟩
  case assign x => exact ⟨_, _, rfl, h⟩
  case pick c a b =>
    unfold vpick at h
    split at h
    · rename_i hc; exact ⟨_, _, by simp [execOp, hc, asBool], h⟩
    · rename_i hc; exact ⟨_, _, by simp [execOp, hc, asBool], h⟩
    · exact h.elim
  case build t ps =>
    obtain ⟨v, w', hr, hk⟩ := h
    refine ⟨v, w', run_value ?_, hk⟩
    rw [← hr, evP_eq, amap]
  case load t a => obtain ⟨v, w', hr, hk⟩ := h; exact ⟨v, w', run_value hr, hk⟩
  case nilCheck x =>
    have := vnil_run h
    exact ⟨_, _, this.2 rfl, this.1⟩
  case binOp op t x y yt =>
    obtain ⟨v, w', hr, hk⟩ := h
    refine ⟨v, w', run_value ?_, hk⟩
    rw [eqGuard_eq]; exact hr
  case unOp op t x => obtain ⟨v, w', hr, hk⟩ := h; exact ⟨v, w', run_value hr, hk⟩
  case convert s d x => obtain ⟨v, w', hr, hk⟩ := h; exact ⟨v, w', run_value hr, hk⟩
  case makeInterface t x => obtain ⟨v, w', hr, hk⟩ := h; exact ⟨v, w', run_value hr, hk⟩
  case makeFunc fn a b =>
    obtain ⟨v, w', hr, hk⟩ := h
    refine ⟨v, w', run_value ?_, hk⟩
    rw [← hr, evL_eq, evL_eq, amap, amap]
  case slice t x lo hi mx => obtain ⟨v, w', hr, hk⟩ := h; rw [evO_eq, evO_eq, evO_eq] at hr; exact ⟨v, w', run_value hr, hk⟩
  case fieldAddr s x i => obtain ⟨v, w', hr, hk⟩ := h; exact ⟨v, w', run_value hr, hk⟩
  case field t x i => obtain ⟨v, w', hr, hk⟩ := h; exact ⟨v, w', run_value hr, hk⟩
  case indexAddr t x i => obtain ⟨v, w', hr, hk⟩ := h; exact ⟨v, w', run_value hr, hk⟩
  case index t x i => obtain ⟨v, w', hr, hk⟩ := h; exact ⟨v, w', run_value hr, hk⟩
  case lookup t x i ok => obtain ⟨v, w', hr, hk⟩ := h; exact ⟨v, w', run_value hr, hk⟩
  case typeAssert x t u ok => obtain ⟨v, w', hr, hk⟩ := h; exact ⟨v, w', run_value hr, hk⟩
  case extract x i => obtain ⟨v, w', hr, hk⟩ := h; exact ⟨v, w', run_value hr, hk⟩
  case call c =>
    obtain ⟨callee, args, ts⟩ := c
    cases callee <;> simp only [Bool.false_eq_true] at hst
    case builtin b =>
      simp only at h
      obtain ⟨v, w', hr, hk⟩ := h
      refine ⟨v, w', ?_, hk⟩
      rw [evL_eq, amap] at hr
      cases b <;> simp only [Bool.false_eq_true] at hst <;> simp only [biSem] at hr <;>
        exact run_value hr
theorem callFunc_run {g : Nat} {args : Array Value} (hg : okFn P g = true) : (callFunc g args).run P w = .ok (.enter g args) w := by
  unfold okFn at hg
  cases hf : P.funcs[g]? with
  | none => simp [hf] at hg
  | some fn =>
    simp only [hf, Bool.and_eq_true, bne_iff_ne, ne_eq, Option.isSome_iff_ne_none] at hg
    have h1 : ¬ fn.name = "runtime.NumGoroutine" := hg.1
    have h2 : ¬ fn.body = none := hg.2
    simp [callFunc, program, hf, h1, h2, Sem.run]
theorem vop_sound {n : Nat} {a : Act} {o : Oper} {next : Act → World → Prop} {Q : Exit → Act → World → Prop} (h : vop P o.op o.type f w K) (hs : Sim n f a)
    (hK : ∀ v w', K v w' → next (a.put o.dst v) w') : o.wp P a w next Q := by
  by_cases hst : isStatic o.op = true
  · obtain ⟨v, w', hr, hk⟩ := vop_run hst h
    unfold Oper.wp
    rw [hs.eval, hr]
    exact hK _ _ hk
  · unfold Oper.wp
    rw [hs.eval]
    obtain ⟨dst, op, type, pos, after, guard⟩ := o
    have val : ∀ {s : Sem Value}, (vrun P s w K) → Oper.upon P ⟨dst, op, type, pos, after, guard⟩ a next Q ((do pure (Next.value (← s)) : Sem Next).run P w) := by
      intro s ⟨v, w', hr, hk⟩
      rw [run_value hr]
      exact hK _ _ hk
    have skp : ∀ {s : Sem Unit}, (vrun P s w fun _ w' => K undef w') → Oper.upon P ⟨dst, op, type, pos, after, guard⟩ a next Q ((do s; pure Next.skip : Sem Next).run P w) := by
      intro s ⟨v, w', hr, hk⟩
      simp only [Sem.run_bind, hr, Result.andThen_ok, Sem.run_pure]
      exact hK _ _ hk
    have ent : ∀ {g : Nat} {args : Array Value}, vcall P g args w K → Oper.upon P ⟨dst, op, type, pos, after, guard⟩ a next Q ((callFunc g args).run P w) := by
      intro g args ⟨hg, hc⟩
      rw [callFunc_run hg]
      refine Calls.mono hc fun e w' he => ?_
      cases e with
      | returned v => exact hK _ _ he
      | panicked c => exact he.elim
      | outgrown => exact he.elim
    cases op <;> simp only [vop] at h <;> (try exact h.elim) <;> (try (exact absurd rfl hst))
    case alloc t => exact val h
    case box t x => exact val h
    case buildSlice t n ps =>
      rw [vbuildS, evP_eq, amap] at h
      exact val h
    case store t x y => exact skp h
    case makeMap t r => rw [evO_eq] at h; exact val h
    case makeSlice t l c => exact val h
    case mapUpdate t m k x => exact skp h
    case insert t m k x => exact skp h
    case range t x => exact val h
    case next it s => exact val h
    case entry it => exact val h
    case call c =>
      obtain ⟨callee, args, ts⟩ := c
      cases callee with
      | value x =>
        simp only at h
        unfold vcallv at h
        split at h
        · rename_i g first cap hx
          have h2 := ent h
          rw [evL_eq] at h2
          simp only [execOp, resolve, hx, Deferred.ofValue, Sem.run_bind, Sem.run_pure, Result.andThen_ok, invoke]
          have e : ({ toList := first.toList ++ List.map (ev f) args.toList ++ cap.toList } : Array Value) = first ++ args.map (ev f) ++ cap := by
            apply Array.toList_inj.1; simp
          rw [← e]
          exact h2
        · exact h.elim
      | invoke r name =>
        simp only at h
        unfold vinvoke at h
        split at h
        · rename_i t v hx
          obtain ⟨g, rcv, hm, hc⟩ := h
          have h2 := ent hc
          rw [evL_eq] at h2
          have e : ({ toList := rcv :: List.map (ev f) args.toList } : Array Value) = #[rcv] ++ args.map (ev f) := by
            apply Array.toList_inj.1; simp
          rw [e] at h2
          have e2 := ext1 (Value.iface t v) (args.map (ev f))
          have e0 : (#[Value.iface t v] ++ args.map (ev f))[0]? = some (Value.iface t v) := by rw [← Array.getElem?_toList]; simp
          simp only [execOp, resolve, hx, Sem.run_bind, Sem.run_pure, Result.andThen_ok, invoke, e0, e2, callMethod, program, Sem.run, hm]
          exact h2
        · exact h.elim
      | builtin b =>
        simp only at h
        rw [vbi, evL_eq, amap] at h
        cases b <;> simp only [biSem] at h <;>
          first
          | exact val h
          | (obtain ⟨v, w', hr, _⟩ := h; simp [stuck] at hr)
end
end Go.Vc
end
section
namespace Go.Vc
open Go
def nth {α : Type} : List α → Nat → Option α
  | [], _ => none
  | a :: _, 0 => some a
  | _ :: l, n + 1 => nth l n
theorem nth_eq {α : Type} (l : List α) : ∀ i, nth l i = l[i]? := by
  induction l with
  | nil => intro i; simp [nth]
  | cons a l ih => intro i; cases i <;> simp [nth, ih]
def memN (x : Nat) : List Nat → Bool
  | [] => false
  | y :: r => cond (Nat.beq x y) true (memN x r)
theorem memN_iff {x : Nat} {l : List Nat} : memN x l = true ↔ x ∈ l := by
  induction l with
  | nil => simp [memN]
  | cons y r ih =>
    simp only [memN, List.mem_cons]
    cases hb : Nat.beq x y
    · have : x ≠ y := fun e => by subst e; simp at hb
      simp [ih, this]
    · have := Nat.eq_of_beq_eq_true hb; simp [this]
def dstOf (ops : List Oper) (j : Nat) : Option Nat := match nth ops j with | some o => o.dst | none => none
def skAdd (d : Option Nat) (sk : List Nat) : List Nat := match d with | some d => d :: sk | none => sk
def skDel (d : Option Nat) : List Nat → List Nat
  | [] => []
  | y :: r => match d with | some x => cond (Nat.beq x y) (skDel (some x) r) (y :: skDel (some x) r) | none => y :: skDel none r
def vgd (ops : List Oper) (g : Option (Nat × Bool)) (sk : List Nat) (f : Fr) (run skip : Fr → Prop) : Prop :=
  match g with
  | none => run f
  | some (j, b) => match dstOf ops j with
    | none => False
    | some d => cond (memN d sk) (skip f) (vif (f d)
        (cond b (run (put f (some d) (.bool true))) (skip (put f (some d) (.bool true))))
        (cond b (skip (put f (some d) (.bool false))) (run (put f (some d) (.bool false)))))
abbrev Acc := List (Nat × (World → Prop))
def fltr (D : Nat → List Nat) (c : Nat) : Acc → Acc
  | [] => []
  | p :: r => cond (memN c (D p.1)) (fltr D c r) (p :: fltr D c r)
def vkeeps : Acc → World → Prop → Prop
  | [], _, X => X
  | p :: r, w, X => p.2 w ∧ vkeeps r w X
def isFree : Op → Bool
  | .move _ | .assign _ | .pick .. => true
  | _ => false
def vone (P : Program) (dr : Bool) (D : Nat → List Nat) (i : Nat) (o : Oper) (sk : List Nat) (acc : Acc) (f : Fr) (w : World)
    (N : List Nat → Acc → Fr → World → Prop) : Prop :=
  cond dr
    (cond (isStatic o.op)
      (cond (isFree o.op)
        (vop P o.op o.type f w fun v w' => N (skDel o.dst sk) acc (put f o.dst v) w')
        (vop P o.op o.type f w fun v w' => w' = w ∧ N (skDel o.dst sk) ((i, fun w2 => vop P o.op o.type f w2 fun v' w3 => v' = v ∧ w3 = w2) :: acc) (put f o.dst v) w))
      (vop P o.op o.type f w fun v w' => vkeeps (fltr D i acc) w' (N (skDel o.dst sk) (fltr D i acc) (put f o.dst v) w')))
    (vop P o.op o.type f w fun v w' => N (skDel o.dst sk) acc (put f o.dst v) w')
def vops (P : Program) (ops : List Oper) (dr : Bool) (D : Nat → List Nat) (K : Fr → World → Prop) : List Nat → List Nat → Acc → Fr → World → Prop
  | [], _, _, f, w => K f w
  | i :: r, sk, acc, f, w =>
    match nth ops i with
    | none => False
    | some o => vgd ops o.guard sk f
        (fun f => vone P dr D i o sk acc f w (vops P ops dr D K r))
        (fun f => vops P ops dr D K r (skAdd o.dst sk) acc (put f o.dst undef) w)
def SkOk (sk : List Nat) (f : Fr) : Prop := ∀ d, d ∈ sk → f d = undef
theorem skOk_add {sk : List Nat} {f : Fr} (h : SkOk sk f) (d : Option Nat) : SkOk (skAdd d sk) (put f d undef) := by
  cases d with
  | none => exact h
  | some d =>
    intro x hx
    by_cases e : x = d
    · subst e; exact put_same _ _ _
    · rw [put_ne _ _ _ _ e]
      rcases List.mem_cons.1 hx with h' | h'
      · exact absurd h' e
      · exact h x h'
theorem skDel_none : ∀ (l : List Nat), skDel none l = l
  | [] => rfl
  | y :: r => by simp only [skDel, skDel_none r]
theorem mem_skDel {d x : Nat} {l : List Nat} (h : x ∈ skDel (some d) l) : x ∈ l ∧ x ≠ d := by
  induction l with
  | nil => simp [skDel] at h
  | cons y r ih =>
    simp only [skDel] at h
    cases hb : Nat.beq d y
    · rw [hb] at h
      rcases List.mem_cons.1 h with h' | h'
      · subst h'
        exact ⟨List.mem_cons_self, fun e => by subst e; simp at hb⟩
      · exact ⟨List.mem_cons_of_mem _ (ih h').1, (ih h').2⟩
    · rw [hb] at h
      exact ⟨List.mem_cons_of_mem _ (ih h).1, (ih h).2⟩
theorem skOk_del {sk : List Nat} {f : Fr} (h : SkOk sk f) (d : Option Nat) (v : Value) : SkOk (skDel d sk) (put f d v) := by
  cases d with
  | none => rw [skDel_none]; exact h
  | some d =>
    intro x hx
    obtain ⟨h1, h2⟩ := mem_skDel hx
    rw [put_ne _ _ _ _ h2]
    exact h x h1
theorem put_self {f : Fr} {d : Nat} {v : Value} (h : f d = v) : put f (some d) v = f := by
  funext t
  by_cases e : t = d
  · subst e; rw [put_same, h]
  · rw [put_ne _ _ _ _ e]
def opsOk (n : Nat) (ops : List Oper) : Bool := ops.all fun o => dstOk n o.dst
theorem opsOk_get {n : Nat} {ops : Array Oper} (h : opsOk n ops.toList = true) {i : Nat} {o : Oper} (hi : ops[i]? = some o) : dstOk n o.dst = true := by
  have : o ∈ ops.toList := by
    rw [← Array.getElem?_toList] at hi
    exact List.mem_of_getElem? hi
  exact (List.all_eq_true.1 h) o this
section
variable {P : Program} {ops : Array Oper} {n : Nat} {f : Fr} {a : Act} {w : World}
theorem yielded_of (hs : Sim n f a) {j d : Nat} (hd : dstOf ops.toList j = some d) (hn : d < n) :
    yielded ops a.tmps j = (match f d with | .bool b => some b | _ => none) := by
  unfold yielded
  have h1 : (ops[j]?).bind (·.dst) = some d := by
    rw [dstOf, nth_eq, Array.getElem?_toList] at hd
    cases hj : ops[j]? with
    | none => rw [hj] at hd; cases hd
    | some o => rw [hj] at hd; exact hd
  have h2 : a.tmps[d]? = some (f d) := by
    have hlt : d < a.tmps.size := by rw [hs.size]; exact hn
    have := hs.at_ d
    rw [Array.getD_eq_getD_getElem?, Array.getElem?_eq_getElem hlt] at this
    rw [Array.getElem?_eq_getElem hlt, ← this]; rfl
  rw [h1, Option.bind_some, h2]
  cases f d <;> rfl
theorem vgd_cases (hok : opsOk n ops.toList = true) (hs : Sim n f a) {sk : List Nat} (hsk : SkOk sk f) {o : Oper} {run skip : Fr → Prop}
    (h : vgd ops.toList o.guard sk f run skip) :
    (Region.wanted o (yielded ops a.tmps) = true ∧ run f) ∨ (Region.wanted o (yielded ops a.tmps) = false ∧ skip f) := by
  unfold vgd at h
  unfold Region.wanted
  cases hg : o.guard with
  | none => rw [hg] at h; exact .inl ⟨rfl, h⟩
  | some jb =>
    obtain ⟨j, b⟩ := jb
    rw [hg] at h
    simp only at h ⊢
    cases hd : dstOf ops.toList j with
    | none => rw [hd] at h; exact h.elim
    | some d =>
      rw [hd] at h
      simp only at h
      have hn : d < n := by
        rw [dstOf, nth_eq, Array.getElem?_toList] at hd
        cases hj : ops[j]? with
        | none => rw [hj] at hd; cases hd
        | some oj =>
          rw [hj] at hd
          have := opsOk_get hok hj
          rw [show oj.dst = some d from hd] at this
          simpa [dstOk, Nat.blt_eq] using this
      rw [yielded_of hs hd hn]
      cases hm : memN d sk
      · rw [hm] at h
        simp only [cond] at h
        unfold vif at h
        split at h
        · rename_i hv
          rw [put_self hv] at h
          rw [hv]
          cases b
          · exact .inr ⟨rfl, h⟩
          · exact .inl ⟨rfl, h⟩
        · rename_i hv
          rw [put_self hv] at h
          rw [hv]
          cases b
          · exact .inl ⟨rfl, h⟩
          · exact .inr ⟨rfl, h⟩
        · exact h.elim
      · rw [hm] at h
        have hu : f d = undef := hsk d (memN_iff.1 hm)
        rw [hu]
        exact .inr ⟨by cases b <;> rfl, h⟩
theorem nth_get {i : Nat} {o : Oper} (h : nth ops.toList i = some o) : ops[i]? = some o := by
  rw [nth_eq, Array.getElem?_toList] at h; exact h
def Off (ops : Array Oper) (l : List Nat) (t : Nat) : Prop := ∀ i, i ∈ l → ∀ o, ops[i]? = some o → o.dst ≠ some t
theorem put_off {o : Oper} {t : Nat} (h : o.dst ≠ some t) (f : Fr) (v : Value) : put f o.dst v t = f t := by
  cases hd : o.dst with
  | none => rfl
  | some d => exact put_ne _ _ _ _ (fun e => h (by rw [hd, e]))
theorem vops_text {D : Nat → List Nat} {K : Fr → World → Prop} {Q : Exit → Act → World → Prop} (hok : opsOk n ops.toList = true) :
    ∀ (l sk : List Nat) (acc : Acc) (f : Fr) (a : Act) (w : World), vops P ops.toList false D K l sk acc f w → Sim n f a → SkOk sk f →
      (∀ f' a' w', Sim n f' a' → (∀ t, Off ops l t → f' t = f t) → K f' w' → Q .normal a' w') → wpOps P ops Q l a w := by
  intro l
  induction l with
  | nil => intro sk acc f a w h hs _ hK; exact hK f a w hs (fun _ _ => rfl) h
  | cons i r ih =>
    intro sk acc f a w h hs hsk hK
    simp only [vops] at h
    cases ho : nth ops.toList i with
    | none => rw [ho] at h; exact h.elim
    | some o =>
      rw [ho] at h
      have hi := nth_get ho
      simp only [wpOps, hi]
      have offr : ∀ t, Off ops (i :: r) t → Off ops r t := fun t ht j hj => ht j (List.mem_cons_of_mem _ hj)
      rcases vgd_cases hok hs hsk h with ⟨hw, h⟩ | ⟨hw, h⟩
      · rw [if_pos hw]
        refine .inl ?_
        simp only [vone, cond] at h
        refine vop_sound h hs fun v w' hN => ?_
        refine ih _ _ _ _ _ hN (hs.put (opsOk_get hok hi) v) (skOk_del hsk _ _) fun f' a' w'' hs' ht hk => ?_
        exact hK f' a' w'' hs' (fun t hoff => (ht t (offr t hoff)).trans (put_off (hoff i List.mem_cons_self o hi) _ _)) hk
      · rw [if_neg (by simp [hw])]
        refine ih _ _ _ _ _ h (hs.put (opsOk_get hok hi) undef) (skOk_add hsk _) fun f' a' w'' hs' ht hk => ?_
        exact hK f' a' w'' hs' (fun t hoff => (ht t (offr t hoff)).trans (put_off (hoff i List.mem_cons_self o hi) _ _)) hk
def StEv (P : Program) (ops : Array Oper) (o : Oper) (a : Act) (w : World) (v : Value) : Prop :=
  if Region.wanted o (yielded ops a.tmps) = true then (execOp a.eval o).run P w = .ok (.value v) w else v = undef
def VD (P : Program) (ops : Array Oper) (Q : Exit → Act → World → Prop) (D : Nat → List Nat) : List Nat → Acc → Act → World → Prop
  | [], _, a, w => Q .normal a w
  | i :: r, acc, a, w => ∃ o, ops[i]? = some o ∧
    ((isStatic o.op = true ∧ ∃ v, StEv P ops o a w v ∧ VD P ops Q D r ((i, fun w => StEv P ops o a w v) :: acc) (a.put o.dst v) w) ∨
     (isStatic o.op = false ∧ wpOp P ops Q i (fun a' w' => (∃ u, a' = a.put o.dst u) ∧ (∀ p, p ∈ fltr D i acc → p.2 w') ∧ VD P ops Q D r (fltr D i acc) a' w') a w))
def AccLe (acc' acc : Acc) : Prop := ∀ p', p' ∈ acc' → ∃ p, p ∈ acc ∧ p.1 = p'.1 ∧ ∀ w, p.2 w → p'.2 w
theorem mem_fltr {D : Nat → List Nat} {c : Nat} {acc : Acc} {p : Nat × (World → Prop)} : p ∈ fltr D c acc ↔ p ∈ acc ∧ c ∉ D p.1 := by
  induction acc with
  | nil => simp [fltr]
  | cons q r ih =>
    simp only [fltr]
    cases hm : memN c (D q.1)
    · have hn : c ∉ D q.1 := fun h => by rw [memN_iff.2 h] at hm; cases hm
      simp only [cond, List.mem_cons, ih]
      constructor
      · rintro (rfl | ⟨h1, h2⟩)
        · exact ⟨.inl rfl, hn⟩
        · exact ⟨.inr h1, h2⟩
      · rintro ⟨rfl | h1, h2⟩
        · exact .inl rfl
        · exact .inr ⟨h1, h2⟩
    · have hn : c ∈ D q.1 := memN_iff.1 hm
      simp only [cond, ih, List.mem_cons]
      constructor
      · rintro ⟨h1, h2⟩; exact ⟨.inr h1, h2⟩
      · rintro ⟨rfl | h1, h2⟩
        · exact absurd hn h2
        · exact ⟨h1, h2⟩
theorem AccLe.fltr {acc' acc : Acc} (h : AccLe acc' acc) (D : Nat → List Nat) (c : Nat) : AccLe (Go.Vc.fltr D c acc') (Go.Vc.fltr D c acc) := by
  intro p' hp'
  obtain ⟨h1, h2⟩ := mem_fltr.1 hp'
  obtain ⟨p, hp, he, hw⟩ := h p' h1
  exact ⟨p, mem_fltr.2 ⟨hp, by rw [he]; exact h2⟩, he, hw⟩
theorem AccLe.cons {acc' acc : Acc} (h : AccLe acc' acc) {i : Nat} {e e' : World → Prop} (he : ∀ w, e w → e' w) : AccLe ((i, e') :: acc') ((i, e) :: acc) := by
  intro p' hp'
  rcases List.mem_cons.1 hp' with rfl | hp'
  · exact ⟨_, List.mem_cons_self, rfl, he⟩
  · obtain ⟨p, hp, r⟩ := h p' hp'
    exact ⟨p, List.mem_cons_of_mem _ hp, r⟩
theorem AccLe.refl (acc : Acc) : AccLe acc acc := fun p hp => ⟨p, hp, rfl, fun _ h => h⟩
theorem AccLe.drop (acc : Acc) (x : Nat × (World → Prop)) : AccLe acc (x :: acc) := fun p hp => ⟨p, List.mem_cons_of_mem _ hp, rfl, fun _ h => h⟩
variable {Q : Exit → Act → World → Prop} {D : Nat → List Nat}
theorem VD.mono : ∀ (l : List Nat) (acc acc' : Acc) (a : Act) (w : World), AccLe acc' acc → VD P ops Q D l acc a w → VD P ops Q D l acc' a w := by
  intro l
  induction l with
  | nil => intro acc acc' a w _ h; exact h
  | cons i r ih =>
    intro acc acc' a w hle h
    obtain ⟨o, ho, h⟩ := h
    refine ⟨o, ho, ?_⟩
    rcases h with ⟨hst, v, hv, h⟩ | ⟨hst, h⟩
    · exact .inl ⟨hst, v, hv, ih _ _ _ _ (hle.cons fun _ h => h) h⟩
    · refine .inr ⟨hst, wpOp_mono (fun a' w' h' => ⟨h'.1, fun p' hp' => ?_, ih _ _ _ _ (hle.fltr D i) h'.2.2⟩) h⟩
      obtain ⟨p, hp, _, hw⟩ := hle.fltr D i p' hp'
      exact hw _ (h'.2.1 p hp)
def noSel (o : Op) : Bool := match o with | .select .. => false | .defer _ => false | _ => true
theorem noSel_spec {o : Op} (h : noSel o = true) : ∀ cs b, o ≠ .select cs b := fun _ _ e => by subst e; cases h
theorem StEv.put {x s : Oper} {v u : Value} (hap : x.apart ops s = true) (hs : noSel s.op = true) :
    StEv P ops s (a.put x.dst u) w v ↔ StEv P ops s a w v := by
  obtain ⟨h1, _, _⟩ := Oper.apart_spec hap
  unfold StEv
  rw [wanted_put s a x.dst u h1, execOp_put s (noSel_spec hs) a x.dst u h1]
theorem apart_symm {x y : Oper} (h : x.apart ops y = true) : y.apart ops x = true := by
  obtain ⟨h1, h2, h3⟩ := Oper.apart_spec h
  unfold Oper.apart
  cases hx : x.dst with
  | none =>
    cases hy : y.dst with
    | none => rfl
    | some d => simp only [Bool.and_eq_true, Bool.not_eq_true', bne_iff_ne, ne_eq, reduceCtorEq, not_false_eq_true, and_true]
                have := h3 d hy; simpa using this
  | some e =>
    have he := h1 e hx
    cases hy : y.dst with
    | none => simpa using he
    | some d =>
      have h3' := h3 d hy
      have h2' : e ≠ d := fun c => h2 e hx (by rw [hy, c])
      simp only [Bool.and_eq_true, Bool.not_eq_true', bne_iff_ne, ne_eq, Option.some.injEq]
      refine ⟨⟨by simpa using h3', h2'⟩, by simpa using he⟩
theorem wpOp_pull {j : Nat} {os ox : Oper} {v : Value} (hj : ops[j]? = some ox) (hap : os.apart ops ox = true) (hnx : noSel ox.op = true)
    (hQ : ∀ c a w, ¬ Q (.panic c) a w) {K : Act → World → Prop} {a : Act} {w : World}
    (h : wpOp P ops Q j (fun a' w' => (∃ u, a' = (a.put os.dst v).put ox.dst u) ∧ K a' w') (a.put os.dst v) w) :
    wpOp P ops Q j (fun a' w' => (∃ u, a' = a.put ox.dst u) ∧ K (a'.put os.dst v) w') a w := by
  obtain ⟨h1, h2, h3⟩ := Oper.apart_spec hap
  have hsx := noSel_spec hnx
  unfold wpOp at *
  simp only [hj] at *
  rw [wanted_put ox a os.dst v h1] at h
  split
  · rename_i hw
    simp only [hw, if_true] at h
    rcases h with h | ⟨hasks, hlets⟩
    case inr => exact .inr ⟨by unfold Oper.asks at *; rw [execOp_put ox hsx a os.dst v h1] at hasks; exact hasks, hlets⟩
    refine .inl ?_
    unfold Oper.wp at *
    rw [execOp_put ox hsx a os.dst v h1] at h
    generalize (execOp a.eval ox).run P w = r at *
    cases r with
    | ok m w' =>
      cases m <;> simp only [Oper.upon] at h ⊢
      case value u => exact ⟨⟨u, rfl⟩, by rw [← Act.put_comm a v u h2]; exact h.2⟩
      case skip => exact ⟨⟨_, rfl⟩, by rw [← Act.put_comm a v undef h2]; exact h.2⟩
      case defer d =>
        obtain ⟨⟨u, hu⟩, _⟩ := h
        have hd : ∀ (b : Act) (x : Option Tmp) (y : Value), (b.put x y).defers = b.defers := fun b x y => by cases x <;> rfl
        have := congrArg Act.defers hu
        simp only [hd] at this
        exact absurd this (List.cons_ne_self _ _)
      case enter f args =>
        refine Calls.mono h fun e w'' he => ?_
        cases e with
        | returned u => exact ⟨⟨u, rfl⟩, by rw [← Act.put_comm a v u h2]; exact he.2⟩
        | panicked c => exact absurd he (hQ _ _ _)
        | outgrown => exact he
      case row row args => exact Rows.mono h fun u w'' he => ⟨⟨u, rfl⟩, by rw [← Act.put_comm a v u h2]; exact he.2⟩
    | halt x w' =>
      cases x <;> simp only [Oper.upon] at h ⊢
      case panic u => exact absurd h (hQ _ _ _)
  · rename_i hw
    simp only [hw] at h
    exact ⟨⟨_, rfl⟩, by rw [← Act.put_comm a v undef h2]; exact h.2⟩
theorem VD.first_static {x : Nat} {ox : Oper} (hx : ops[x]? = some ox) (hst : isStatic ox.op = true) (hnx : noSel ox.op = true) (post : List Nat) :
    ∀ (pre : List Nat) (acc : Acc) (a : Act) (w : World), (∀ s, s ∈ pre → ∀ os, ops[s]? = some os → isStatic os.op = true ∧ noSel os.op = true ∧ os.apart ops ox = true) →
      VD P ops Q D (pre ++ x :: post) acc a w → ∃ v, StEv P ops ox a w v ∧ VD P ops Q D (pre ++ post) acc (a.put ox.dst v) w := by
  intro pre
  induction pre with
  | nil =>
    intro acc a w _ h
    obtain ⟨o, ho, h⟩ := h
    obtain rfl : o = ox := by rw [hx] at ho; exact (Option.some.inj ho).symm
    rcases h with ⟨_, v, hv, h⟩ | ⟨hn, _⟩
    · exact ⟨v, hv, h.mono _ _ _ _ _ (AccLe.drop _ _)⟩
    · rw [hst] at hn; cases hn
  | cons s pre ih =>
    intro acc a w hpre h
    obtain ⟨os, hos, h⟩ := h
    obtain ⟨hss, hsn, hap⟩ := hpre s List.mem_cons_self os hos
    rcases h with ⟨_, vs, hvs, h⟩ | ⟨hn, _⟩
    · obtain ⟨v, hv, h2⟩ := ih _ _ _ (fun t ht => hpre t (List.mem_cons_of_mem _ ht)) h
      refine ⟨v, (StEv.put hap hnx).1 hv, os, hos, .inl ⟨hss, vs, (StEv.put (apart_symm hap) hsn).2 hvs, ?_⟩⟩
      obtain ⟨_, h2', _⟩ := Oper.apart_spec hap
      rw [← Act.put_comm a vs v h2']
      exact h2.mono _ _ _ _ _ ((AccLe.refl acc).cons fun w' hw' => (StEv.put (apart_symm hap) hsn).2 hw')
    · rw [hss] at hn; cases hn
theorem VD.first_change {x : Nat} {ox : Oper} (hx : ops[x]? = some ox) (hst : isStatic ox.op = false) (hnx : noSel ox.op = true) (hQ : ∀ c a w, ¬ Q (.panic c) a w) (post : List Nat) :
    ∀ (pre : List Nat) (acc : Acc) (a : Act) (w : World), (∀ s, s ∈ pre → x ∉ D s ∧ ∀ os, ops[s]? = some os → isStatic os.op = true ∧ noSel os.op = true ∧ os.apart ops ox = true) →
      VD P ops Q D (pre ++ x :: post) acc a w →
      wpOp P ops Q x (fun a' w' => (∃ u, a' = a.put ox.dst u) ∧ (∀ p, p ∈ fltr D x acc → p.2 w') ∧ VD P ops Q D (pre ++ post) (fltr D x acc) a' w') a w := by
  intro pre
  induction pre with
  | nil =>
    intro acc a w _ h
    obtain ⟨o, ho, h⟩ := h
    obtain rfl : o = ox := by rw [hx] at ho; exact (Option.some.inj ho).symm
    rcases h with ⟨hn, _⟩ | ⟨_, h⟩
    · rw [hst] at hn; cases hn
    · exact h
  | cons s pre ih =>
    intro acc a w hpre h
    obtain ⟨os, hos, h⟩ := h
    obtain ⟨hxd, hrest⟩ := hpre s List.mem_cons_self
    obtain ⟨hss, hsn, hap⟩ := hrest os hos
    rcases h with ⟨_, vs, hvs, h⟩ | ⟨hn, _⟩
    · have h2 := wpOp_pull (K := fun a' w' => (∀ p, p ∈ fltr D x ((s, fun w => StEv P ops os a w vs) :: acc) → p.2 w') ∧ VD P ops Q D (pre ++ post) (fltr D x ((s, fun w => StEv P ops os a w vs) :: acc)) a' w') hx hap hnx hQ
        (ih _ _ _ (fun t ht => hpre t (List.mem_cons_of_mem _ ht)) h)
      have hf : fltr D x ((s, fun w => StEv P ops os a w vs) :: acc) = (s, fun w => StEv P ops os a w vs) :: fltr D x acc := by
        have : memN x (D s) = false := by
          cases hm : memN x (D s)
          · rfl
          · exact absurd (memN_iff.1 hm) hxd
        simp [fltr, this]
      refine wpOp_mono (fun a' w' ⟨⟨u, hu⟩, hk, hv⟩ => ?_) h2
      rw [hf] at hk hv
      refine ⟨⟨u, hu⟩, fun p hp => hk p (List.mem_cons_of_mem _ hp), os, hos, .inl ⟨hss, vs, ?_, ?_⟩⟩
      · rw [hu]
        exact (StEv.put (apart_symm hap) hsn).2 (hk _ List.mem_cons_self)
      · refine hv.mono _ _ _ _ _ ((AccLe.refl _).cons fun w3 h3 => ?_)
        rw [hu]
        exact (StEv.put (apart_symm hap) hsn).2 h3
    · rw [hss] at hn; cases hn
def edgesOf (ops : List Oper) (x : Nat) : List Nat := match nth ops x with | some o => (o.after.toList.filter (Region.binds .any)).map (·.on) | none => []
def anyN (p : Nat → Bool) : List Nat → Bool | [] => false | x :: r => cond (p x) true (anyN p r)
def allN (p : Nat → Bool) : List Nat → Bool | [] => true | x :: r => cond (p x) (allN p r) false
theorem allN_iff {p : Nat → Bool} {l : List Nat} : allN p l = true ↔ ∀ x, x ∈ l → p x = true := by
  induction l with
  | nil => simp [allN]
  | cons x r ih => cases h : p x <;> simp [allN, h, ih]
theorem anyN_iff {p : Nat → Bool} {l : List Nat} : anyN p l = true ↔ ∃ x, x ∈ l ∧ p x = true := by
  induction l with
  | nil => simp [anyN]
  | cons x r ih => cases h : p x <;> simp [anyN, h, ih]
def apartN (ops : Array Oper) (s x : Nat) : Bool := match nth ops.toList s, nth ops.toList x with | some a, some b => a.apart ops b | _, _ => false
def statN (ops : List Oper) (s : Nat) : Bool := match nth ops s with | some a => isStatic a.op | none => false
def selN (ops : List Oper) (s : Nat) : Bool := match nth ops s with | some a => noSel a.op | none => false
def chkLin (ops : List Oper) : List Nat → List Nat → Bool
  | _, [] => true
  | seen, x :: r => cond (allN (fun e => memN e seen) (edgesOf ops x)) (chkLin ops (x :: seen) r) false
def chkPair (ops : Array Oper) (D : Nat → List Nat) : List Nat → Bool
  | [] => true
  | s :: r => cond (allN (fun x => memN x (D s) || (statN ops.toList s && apartN ops s x)) r) (chkPair ops D r) false
def chkDesc (ops : List Oper) (D : Nat → List Nat) (l : List Nat) : Bool :=
  allN (fun s => allN (fun x => anyN (fun e => Nat.beq e s || memN e (D s)) (edgesOf ops x)) (D s)) l
def chkNd : List Nat → Bool
  | [] => true
  | x :: r => cond (memN x r) false (chkNd r)
def chkPerm (n : Nat) (l : List Nat) : Bool := allN (fun i => memN i l) (List.range n) && Nat.beq l.length n && (allN (fun i => Nat.blt i n) l && chkNd l)
def chkOrd (ops : Array Oper) (D : Nat → List Nat) (l : List Nat) : Bool :=
  chkPerm ops.size l && allN (selN ops.toList) l && chkLin ops.toList [] l && chkPair ops D l && chkDesc ops.toList D l
theorem mem_edges {x : Nat} {o : Oper} (hx : ops[x]? = some o) {e : Nat} : e ∈ edgesOf ops.toList x ↔ ∃ d, d ∈ o.after ∧ Region.binds .any d = true ∧ d.on = e := by
  have : nth ops.toList x = some o := by rw [nth_eq, Array.getElem?_toList]; exact hx
  simp only [edgesOf, this, List.mem_map, List.mem_filter, Array.mem_toList_iff]
  constructor
  · rintro ⟨d, ⟨h1, h2⟩, h3⟩; exact ⟨d, h1, h2, h3⟩
  · rintro ⟨d, h1, h2, h3⟩; exact ⟨d, ⟨h1, h2⟩, h3⟩
theorem chkLin_spec : ∀ (l seen : List Nat), chkLin ops.toList seen l = true → ∀ pre x post, l = pre ++ x :: post → ∀ e, e ∈ edgesOf ops.toList x → e ∈ seen ∨ e ∈ pre := by
  intro l
  induction l with
  | nil => intro seen _ pre x post h; cases pre <;> cases h
  | cons y r ih =>
    intro seen h pre x post hl e he
    simp only [chkLin] at h
    cases ha : allN (fun e => memN e seen) (edgesOf ops.toList y)
    · rw [ha] at h; cases h
    · rw [ha] at h
      cases pre with
      | nil =>
        simp only [List.nil_append, List.cons.injEq] at hl
        obtain ⟨rfl, rfl⟩ := hl
        exact .inl (memN_iff.1 (allN_iff.1 ha e he))
      | cons z pre =>
        simp only [List.cons_append, List.cons.injEq] at hl
        obtain ⟨rfl, hl⟩ := hl
        rcases ih _ h pre x post hl e he with h' | h'
        · rcases List.mem_cons.1 h' with rfl | h''
          · exact .inr List.mem_cons_self
          · exact .inl h''
        · exact .inr (List.mem_cons_of_mem _ h')
theorem chkPair_spec : ∀ (l : List Nat), chkPair ops D l = true → l.Pairwise fun s x => x ∈ D s ∨ (statN ops.toList s = true ∧ apartN ops s x = true) := by
  intro l
  induction l with
  | nil => intro _; exact .nil
  | cons s r ih =>
    intro h
    simp only [chkPair] at h
    cases ha : allN (fun x => memN x (D s) || (statN ops.toList s && apartN ops s x)) r
    · rw [ha] at h; cases h
    · rw [ha] at h
      refine .cons (fun x hx => ?_) (ih h)
      have := allN_iff.1 ha x hx
      simpa [Bool.or_eq_true, memN_iff] using this
structure Rest (ops : Array Oper) (D : Nat → List Nat) (l : List Nat) (listed : Array Bool) : Prop where
  size : listed.size = ops.size
  mem : ∀ i, i < ops.size → (listed.getD i true = false ↔ i ∈ l)
  lt : ∀ i, i ∈ l → i < ops.size
  nodup : l.Nodup
  pair : l.Pairwise fun s x => x ∈ D s ∨ (statN ops.toList s = true ∧ apartN ops s x = true)
  lin : ∀ pre x post, l = pre ++ x :: post → ∀ e, e ∈ edgesOf ops.toList x → e ∈ l → e ∈ pre
  desc : ∀ s, s ∈ l → ∀ x, x ∈ D s → x ∈ l
  edge : ∀ s, s ∈ l → ∀ x, x ∈ D s → ∃ e, e ∈ edgesOf ops.toList x ∧ (e = s ∨ e ∈ D s)
  sel : ∀ i, i ∈ l → selN ops.toList i = true
  elt : ∀ x, x ∈ l → ∀ e, e ∈ edgesOf ops.toList x → e < ops.size
theorem ready_edge {l : List Nat} {listed : Array Bool} (hr : Rest ops D l listed) {i : Nat} (hi : i ∈ Region.ready .any ops listed) :
    i ∈ l ∧ ∀ e, e ∈ edgesOf ops.toList i → e ∉ l := by
  obtain ⟨h0, o, ho, hall⟩ := mem_ready.1 hi
  have hlt : i < ops.size := (Array.getElem?_eq_some_iff.1 ho).1
  refine ⟨(hr.mem i hlt).1 h0, fun e he hel => ?_⟩
  obtain ⟨d, hd, hb, rfl⟩ := (mem_edges ho).1 he
  have h1 := hall d hd hb
  have h2 := (hr.mem d.on (hr.lt _ hel)).2 hel
  have hs : d.on < listed.size := by rw [hr.size]; exact hr.lt _ hel
  simp [Array.getD, hs] at h1 h2
  rw [h1] at h2; cases h2
theorem Rest.step {pre post : List Nat} {i : Nat} {listed : Array Bool} (hr : Rest ops D (pre ++ i :: post) listed) (hi : i ∈ Region.ready .any ops listed) :
    Rest ops D (pre ++ post) (listed.setIfInBounds i true) := by
  have hsub : (pre ++ post).Sublist (pre ++ i :: post) := List.Sublist.append (List.Sublist.refl _) (List.sublist_cons_self _ _)
  have hni : i ∉ pre ++ post := by
    have := hr.nodup
    rw [List.nodup_append] at this
    obtain ⟨_, h2, h3⟩ := this
    rw [List.mem_append]
    rintro (h | h)
    · exact h3 i h i List.mem_cons_self rfl
    · exact (List.nodup_cons.1 h2).1 h
  have hmem : ∀ x, x ∈ pre ++ i :: post → x ≠ i → x ∈ pre ++ post := by
    intro x hx hne
    rw [List.mem_append, List.mem_cons] at hx
    rw [List.mem_append]
    rcases hx with h | h | h
    · exact .inl h
    · exact absurd h hne
    · exact .inr h
  have hii : i ∈ pre ++ i :: post := by simp
  obtain ⟨_, hed⟩ := ready_edge hr hi
  refine ⟨by simp [hr.size], fun x hx => ?_, fun x hx => hr.lt x (hsub.subset hx), hr.nodup.sublist hsub, hr.pair.sublist hsub, ?_, ?_, fun s hs => hr.edge s (hsub.subset hs), fun x hx => hr.sel x (hsub.subset hx), fun x hx => hr.elt x (hsub.subset hx)⟩
  · by_cases e : i = x
    · subst e
      simp only [Array.getD_eq_getD_getElem?]
      have : i < listed.size := by rw [hr.size]; exact hx
      simp [this, hni]
    · rw [getD_set_ne true e, hr.mem x hx]
      exact ⟨fun h => hmem x h (Ne.symm e), fun h => hsub.subset h⟩
  · intro p x q hl e he hel
    have hxe : e ∈ pre ++ i :: post := hsub.subset hel
    have hnd : (pre ++ post).Nodup := hr.nodup.sublist hsub
    rcases List.append_eq_append_iff.1 hl with ⟨c, hc1, hc2⟩ | ⟨c, hc1, hc2⟩
    ·
      subst hc1
      have := hr.lin (pre ++ i :: c) x q (by rw [hc2]; simp) e he hxe
      rw [List.mem_append, List.mem_cons] at this
      rcases this with h | h | h
      · exact List.mem_append_left _ h
      · subst h; exact absurd hel hni
      · exact List.mem_append_right _ h
    ·
      subst hc1
      cases c with
      | nil =>
        simp only [List.nil_append] at hc2
        have := hr.lin (p ++ [i]) x q (by rw [← hc2]; simp) e he (by simpa using hxe)
        rw [List.mem_append] at this
        rcases this with h | h
        · exact h
        · rw [List.mem_singleton] at h; subst h; exact absurd hel (by simpa using hni)
      | cons y c =>
        simp only [List.cons_append, List.cons.injEq] at hc2
        obtain ⟨rfl, rfl⟩ := hc2
        exact hr.lin p x (c ++ i :: post) (by simp) e he hxe
  · intro s hs x hx
    have hxl := hr.desc s (hsub.subset hs) x hx
    refine hmem x hxl fun e => ?_
    subst e
    obtain ⟨e, he, h | h⟩ := hr.edge s (hsub.subset hs) x hx
    · subst h; exact hed e he (hsub.subset hs)
    · exact hed e he (hr.desc s (hsub.subset hs) e h)
theorem VD.any (hQ : ∀ c a w, ¬ Q (.panic c) a w) : ∀ (fuel : Nat) (l : List Nat) (listed : Array Bool) (acc : Acc) (a : Act) (w : World),
    Rest ops D l listed → l.length = fuel → VD P ops Q D l acc a w → wpAny P .any ops Q fuel listed a w := by
  intro fuel
  induction fuel with
  | zero =>
    intro l listed acc a w hr hl h
    have : l = [] := List.eq_nil_of_length_eq_zero hl
    subst this
    refine ⟨?_, h⟩
    cases hc : Region.ready .any ops listed with
    | nil => rfl
    | cons x xs =>
      have := (ready_edge hr (i := x) (by rw [hc]; exact List.mem_cons_self)).1
      cases this
  | succ fuel ih =>
    intro l listed acc a w hr hl h
    refine ⟨fun hnil => ?_, fun i hi => ?_⟩
    ·
      cases l with
      | nil => cases hl
      | cons x r =>
        exfalso
        obtain ⟨o, ho, _⟩ := h
        have hx : x ∈ Region.ready .any ops listed := by
          refine mem_ready.2 ⟨(hr.mem x (hr.lt x List.mem_cons_self)).2 List.mem_cons_self, o, ho, fun d hd hb => ?_⟩
          have he : d.on ∈ edgesOf ops.toList x := (mem_edges ho).2 ⟨d, hd, hb, rfl⟩
          by_cases hlt : d.on < ops.size
          · cases hg : listed.getD d.on false
            · exfalso
              have hs : d.on < listed.size := by rw [hr.size]; exact hlt
              have h2 : listed.getD d.on true = false := by
                simp [Array.getD, hs] at hg ⊢; exact hg
              have h3 := (hr.mem d.on hlt).1 h2
              have := hr.lin [] x r rfl d.on he h3
              cases this
            · rfl
          · exact absurd (hr.elt x List.mem_cons_self _ he) hlt
        rw [hnil] at hx; cases hx
    · obtain ⟨hil, hed⟩ := ready_edge hr hi
      obtain ⟨pre, post, rfl⟩ := List.append_of_mem hil
      obtain ⟨_, oi, hoi, _⟩ := mem_ready.1 hi
      have hnd := hr.nodup
      have hnth : nth ops.toList i = some oi := by rw [nth_eq, Array.getElem?_toList]; exact hoi
      have hsel : noSel oi.op = true := by have := hr.sel i (by simp); simpa [selN, hnth] using this
      have hpre : ∀ s, s ∈ pre → i ∉ D s ∧ ∀ os, ops[s]? = some os → isStatic os.op = true ∧ noSel os.op = true ∧ os.apart ops oi = true := by
        intro s hs
        have hsl : s ∈ pre ++ i :: post := List.mem_append_left _ hs
        have hnotin : i ∉ D s := by
          intro hd
          obtain ⟨e, he, h' | h'⟩ := hr.edge s hsl i hd
          · subst h'; exact hed e he hsl
          · exact hed e he (hr.desc s hsl e h')
        have hp : i ∈ D s ∨ (statN ops.toList s = true ∧ apartN ops s i = true) := by
          have := hr.pair
          rw [List.pairwise_append] at this
          exact this.2.2 s hs i List.mem_cons_self
        obtain ⟨hst, hap⟩ := hp.resolve_left hnotin
        refine ⟨hnotin, fun os hos => ?_⟩
        have hns : nth ops.toList s = some os := by rw [nth_eq, Array.getElem?_toList]; exact hos
        refine ⟨by simpa [statN, hns] using hst, by have := hr.sel s hsl; simpa [selN, hns] using this, by simpa [apartN, hns, hnth] using hap⟩
      have hr' := hr.step hi
      have hlen : (pre ++ post).length = fuel := by simp at hl ⊢; omega
      cases hst : isStatic oi.op
      · have := VD.first_change hoi hst hsel hQ post pre acc a w (fun s hs => hpre s hs) h
        exact wpOp_mono (fun a' w' h' => ih _ _ _ _ _ hr' hlen h'.2.2) this
      · obtain ⟨v, hv, h'⟩ := VD.first_static hoi hst hsel post pre acc a w (fun s hs => (hpre s hs).2) h
        have hk := ih _ _ _ _ _ hr' hlen h'
        unfold wpOp
        simp only [hoi]
        unfold StEv at hv
        split at hv
        · rename_i hw
          rw [if_pos hw]
          refine .inl ?_
          unfold Oper.wp
          rw [hv]
          exact hk
        · rename_i hw
          rw [if_neg hw]
          subst hv
          exact hk
theorem chkNd_spec : ∀ {l : List Nat}, chkNd l = true → l.Nodup
  | [], _ => List.nodup_nil
  | x :: r, h => by
    simp only [chkNd] at h
    cases hm : memN x r
    · rw [hm] at h
      exact List.nodup_cons.2 ⟨fun hx => (by rw [memN_iff.2 hx] at hm; cases hm), chkNd_spec h⟩
    · rw [hm] at h; cases h
theorem rest_start {l : List Nat} (h : chkOrd ops D l = true) (hd : ∀ s x, x ∈ D s → x ∈ l) : Rest ops D l (Array.replicate ops.size false) := by
  simp only [chkOrd, chkPerm, Bool.and_eq_true] at h
  obtain ⟨⟨⟨⟨⟨⟨h1, h2⟩, h7, h8⟩, h3⟩, h4⟩, h5⟩, h6⟩ := h
  have hall : ∀ i, i < ops.size → i ∈ l := fun i hi => memN_iff.1 (allN_iff.1 h1 i (List.mem_range.2 hi))
  have hlt : ∀ i, i ∈ l → i < ops.size := fun i hi => by have := allN_iff.1 h7 i hi; simpa [Nat.blt_eq] using this
  have hnd := chkNd_spec h8
  have hlin := chkLin_spec l [] h4
  refine ⟨by simp, fun i hi => ?_, hlt, hnd, chkPair_spec l h5, ?_, fun s _ x hx => hd s x hx, ?_, fun i hi => allN_iff.1 h3 i hi, ?_⟩
  · simp [hi, hall i hi, Array.getD]
  · intro pre x post hl e he _
    exact (hlin pre x post hl e he).resolve_left (by simp)
  · intro s hs x hx
    have := allN_iff.1 (allN_iff.1 h6 s hs) x hx
    obtain ⟨e, he, h⟩ := anyN_iff.1 this
    refine ⟨e, he, ?_⟩
    rcases Bool.or_eq_true _ _ ▸ h with h' | h'
    · exact .inl (Nat.eq_of_beq_eq_true h')
    · exact .inr (memN_iff.1 h')
  · intro x hx e he
    obtain ⟨pre, post, rfl⟩ := List.append_of_mem hx
    have := (hlin pre x post rfl e he).resolve_left (by simp)
    exact hlt e (List.mem_append_left _ this)
theorem free_run {o : Oper} (hfr : isFree o.op = true) {K : Value → World → Prop} (h : vop P o.op o.type f w K) :
    ∃ v, (∀ w2, (execOp (ev f) o).run P w2 = .ok (.value v) w2) ∧ K v w := by
  obtain ⟨dst, op, type, pos, after, guard⟩ := o
  cases op <;> simp only [isFree, Bool.false_eq_true] at hfr <;> simp only [vop] at h
  case move x => exact ⟨_, fun _ => rfl, h⟩
  case assign x => exact ⟨_, fun _ => rfl, h⟩
  case pick c a b =>
    unfold vpick at h
    split at h
    · rename_i hc; exact ⟨_, fun _ => by simp [execOp, hc, asBool], h⟩
    · rename_i hc; exact ⟨_, fun _ => by simp [execOp, hc, asBool], h⟩
    · exact h.elim
def AccRel (accP acc : Acc) : Prop := ∀ p', p' ∈ accP → (∀ w, p'.2 w) ∨ ∃ p, p ∈ acc ∧ p.1 = p'.1 ∧ ∀ w, p.2 w → p'.2 w
theorem AccRel.fltr {accP acc : Acc} (h : AccRel accP acc) (c : Nat) : AccRel (Go.Vc.fltr D c accP) (Go.Vc.fltr D c acc) := by
  intro p' hp'
  obtain ⟨h1, h2⟩ := mem_fltr.1 hp'
  rcases h p' h1 with h' | ⟨p, hp, he, hw⟩
  · exact .inl h'
  · exact .inr ⟨p, mem_fltr.2 ⟨hp, by rw [he]; exact h2⟩, he, hw⟩
theorem AccRel.add {accP acc : Acc} (h : AccRel accP acc) {i : Nat} {e e' : World → Prop} (he : ∀ w, e w → e' w) : AccRel ((i, e') :: accP) ((i, e) :: acc) := by
  intro p' hp'
  rcases List.mem_cons.1 hp' with rfl | hp'
  · exact .inr ⟨_, List.mem_cons_self, rfl, he⟩
  · exact (h p' hp').imp id fun ⟨p, hp, r⟩ => ⟨p, List.mem_cons_of_mem _ hp, r⟩
theorem AccRel.addFree {accP acc : Acc} (h : AccRel accP acc) {i : Nat} {e' : World → Prop} (he : ∀ w, e' w) : AccRel ((i, e') :: accP) acc := by
  intro p' hp'
  rcases List.mem_cons.1 hp' with rfl | hp'
  · exact .inl he
  · exact h p' hp'
theorem vkeeps_spec {acc : Acc} {X : Prop} (h : vkeeps acc w X) : (∀ p, p ∈ acc → p.2 w) ∧ X := by
  induction acc with
  | nil => exact ⟨(fun p hp => by cases hp), h⟩
  | cons q r ih =>
    obtain ⟨h1, h2⟩ := h
    refine ⟨fun p hp => ?_, (ih h2).2⟩
    rcases List.mem_cons.1 hp with rfl | hp
    · exact h1
    · exact (ih h2).1 p hp
theorem vops_VD {K : Fr → World → Prop} (hok : opsOk n ops.toList = true) :
    ∀ (l sk : List Nat) (acc accP : Acc) (f : Fr) (a : Act) (w : World), vops P ops.toList true D K l sk acc f w → Sim n f a → SkOk sk f →
      AccRel accP acc → (∀ p, p ∈ accP → p.2 w) →
      (∀ f' a' w', Sim n f' a' → (∀ t, Off ops l t → f' t = f t) → K f' w' → Q .normal a' w') → VD P ops Q D l accP a w := by
  intro l
  induction l with
  | nil => intro sk acc accP f a w h hs _ _ _ hK; exact hK f a w hs (fun _ _ => rfl) h
  | cons i r ih =>
    intro sk acc accP f a w h hs hsk hrel hnow hK
    simp only [vops] at h
    cases ho : nth ops.toList i with
    | none => rw [ho] at h; exact h.elim
    | some o =>
      rw [ho] at h
      have hi := nth_get ho
      have offr : ∀ t, Off ops (i :: r) t → Off ops r t := fun t ht j hj => ht j (List.mem_cons_of_mem _ hj)
      have hoff : ∀ t, Off ops (i :: r) t → o.dst ≠ some t := fun t ht => ht i List.mem_cons_self o hi
      refine ⟨o, hi, ?_⟩
      have hnext : ∀ v f' a' w', Sim n f' a' → (∀ t, Off ops r t → f' t = put f o.dst v t) → K f' w' → Q .normal a' w' := fun v f' a' w' hs' ht hk =>
        hK f' a' w' hs' (fun t h => (ht t (offr t h)).trans (put_off (hoff t h) _ _)) hk
      rcases vgd_cases hok hs hsk h with ⟨hw, h⟩ | ⟨hw, h⟩
      · simp only [vone, cond] at h
        cases hst : isStatic o.op
        · rw [hst] at h
          refine .inr ⟨rfl, ?_⟩
          unfold wpOp
          simp only [hi]
          rw [if_pos hw]
          refine .inl (vop_sound h hs fun v w' hN => ?_)
          obtain ⟨hk1, hk2⟩ := vkeeps_spec hN
          have hall : ∀ p, p ∈ fltr D i accP → p.2 w' := fun p' hp' => by
            rcases hrel.fltr i p' hp' with h' | ⟨p, hp, _, hw'⟩
            · exact h' w'
            · exact hw' w' (hk1 p hp)
          exact ⟨⟨v, rfl⟩, hall, ih _ _ _ _ _ _ hk2 (hs.put (opsOk_get hok hi) v) (skOk_del hsk _ _) (hrel.fltr i) hall (hnext v)⟩
        · rw [hst] at h
          refine .inl ⟨rfl, ?_⟩
          cases hfr : isFree o.op
          · rw [hfr] at h
            obtain ⟨v, w', hr, hww, hN⟩ := vop_run hst h
            subst hww
            have hev : StEv P ops o a w' v := by unfold StEv; rw [if_pos hw, hs.eval]; exact hr
            refine ⟨v, hev, ih _ _ _ _ _ _ hN (hs.put (opsOk_get hok hi) v) (skOk_del hsk _ _) (hrel.add fun w2 h2 => ?_) (fun p hp => ?_) (hnext v)⟩
            · obtain ⟨v', w3, hr', hv', hw3⟩ := vop_run hst h2
              subst hv'; subst hw3
              unfold StEv; rw [if_pos hw, hs.eval]; exact hr'
            · rcases List.mem_cons.1 hp with rfl | hp
              · exact hev
              · exact hnow p hp
          · rw [hfr] at h
            obtain ⟨v, hr, hN⟩ := free_run hfr h
            have hev : ∀ w2, StEv P ops o a w2 v := fun w2 => by unfold StEv; rw [if_pos hw, hs.eval]; exact hr w2
            refine ⟨v, hev w, ih _ _ _ _ _ _ hN (hs.put (opsOk_get hok hi) v) (skOk_del hsk _ _) (hrel.addFree hev) (fun p hp => ?_) (hnext v)⟩
            rcases List.mem_cons.1 hp with rfl | hp
            · exact hev w
            · exact hnow p hp
      · have hev : ∀ w2, StEv P ops o a w2 undef := fun w2 => by unfold StEv; rw [if_neg (by simp [hw])]
        cases hst : isStatic o.op
        · refine .inr ⟨rfl, ?_⟩
          unfold wpOp
          simp only [hi]
          rw [if_neg (by simp [hw])]
          refine ⟨⟨_, rfl⟩, fun p hp => hnow p (mem_fltr.1 hp).1, ?_⟩
          exact ih _ _ _ _ _ _ h (hs.put (opsOk_get hok hi) undef) (skOk_add hsk _)
            (fun p' hp' => hrel p' (mem_fltr.1 hp').1) (fun p hp => hnow p (mem_fltr.1 hp).1) (hnext undef)
        · refine .inl ⟨rfl, undef, hev w, ih _ _ _ _ _ _ h (hs.put (opsOk_get hok hi) undef) (skOk_add hsk _) (hrel.addFree hev) (fun p hp => ?_) (hnext undef)⟩
          rcases List.mem_cons.1 hp with rfl | hp
          · exact hev w
          · exact hnow p hp
def onlyN (Q : Exit → Act → World → Prop) : Exit → Act → World → Prop
  | .normal, a, w => Q .normal a w
  | _, _, _ => False
theorem region_text {id : Nat} {K : Fr → World → Prop} (hok : opsOk n ops.toList = true) {l : List Nat} (hl : l = List.range ops.size)
    (h : vops P ops.toList false D K l [] [] f w) (hs : Sim n f a)
    (hK : ∀ f' a' w', Sim n f' a' → (∀ t, (∀ o, o ∈ ops → o.dst ≠ some t) → f' t = f t) → K f' w' → Q .normal a' w') : (Code.region id ops false).wp P Q a w := by
  subst hl
  refine wp_region (vops_text hok _ [] [] f a w h hs (fun d hd => by cases hd) fun f' a' w' hs' ht hk => hK f' a' w' hs' (fun t hoff => ht t fun i _ o ho => hoff o (Array.mem_of_getElem? ho)) hk)
theorem region_draw {id : Nat} {K : Fr → World → Prop} (hok : opsOk n ops.toList = true) (hm : P.follows .mixedOrders = true) {l : List Nat} (hc : chkOrd ops D l = true)
    (hd : ∀ s x, x ∈ D s → x ∈ l)
    (h : vops P ops.toList true D K l [] [] f { w with drawn := w.drawn + 1 }) (hs : Sim n f a)
    (hK : ∀ f' a' w', Sim n f' a' → (∀ t, (∀ o, o ∈ ops → o.dst ≠ some t) → f' t = f t) → K f' w' → Q .normal a' w') : (Code.region id ops true).wp P Q a w := by
  refine wp_mono (Q := onlyN Q) (wp_region_any hm ?_) fun e a w h => by cases e <;> first | exact h | exact h.elim
  refine VD.any (D := D) (fun c a w h => h) ops.size l _ [] a _ (rest_start hc hd) ?_ ?_
  · simp only [chkOrd, chkPerm, Bool.and_eq_true] at hc
    exact Nat.eq_of_beq_eq_true hc.1.1.1.1.1.2
  · exact vops_VD hok l [] [] [] f a _ h hs (fun d hd => by cases hd) (fun p hp => by cases hp) (fun p hp => by cases hp)
      fun f' a' w' hs' ht hk => hK f' a' w' hs' (fun t hoff => ht t fun i _ o ho => hoff o (Array.mem_of_getElem? ho)) hk
end
end Go.Vc
end
section
namespace Go.Vc
open Go
inductive OT where
  | nil | no
  | st (i : Nat) (t : OT)
  | alt (i : Nat) (t r : OT)
def vopsT (P : Program) (ops : List Oper) (D : Nat → List Nat) (K : Fr → World → Prop) : OT → List Nat → Acc → Fr → World → Prop
  | .nil, _, _, f, w => K f w
  | .no, _, _, _, _ => True
  | .st i t, sk, acc, f, w =>
    match nth ops i with
    | none => False
    | some o => vgd ops o.guard sk f
        (fun f => vone P true D i o sk acc f w (vopsT P ops D K t))
        (fun f => vopsT P ops D K t (skAdd o.dst sk) acc (put f o.dst undef) w)
  | .alt i t r, sk, acc, f, w =>
    (match nth ops i with
    | none => False
    | some o => vgd ops o.guard sk f
        (fun f => vone P true D i o sk acc f w (vopsT P ops D K t))
        (fun f => vopsT P ops D K t (skAdd o.dst sk) acc (put f o.dst undef) w)) ∧ vopsT P ops D K r sk acc f w
def heads : OT → List Nat
  | .alt i _ r => i :: heads r
  | _ => []
def isAlt : OT → Bool
  | .alt _ _ _ => true
  | .no => true
  | _ => false
def rem (i : Nat) : List Nat → List Nat
  | [] => []
  | x :: r => cond (Nat.beq x i) (rem i r) (x :: rem i r)
theorem mem_rem {i x : Nat} : ∀ {l : List Nat}, x ∈ rem i l ↔ x ∈ l ∧ x ≠ i
  | [] => by simp [rem]
  | y :: r => by
    simp only [rem]
    cases hb : Nat.beq y i
    · have hy : y ≠ i := fun e => by subst e; simp at hb
      simp only [cond, List.mem_cons, mem_rem (l := r)]
      constructor
      · rintro (rfl | ⟨h1, h2⟩)
        · exact ⟨.inl rfl, hy⟩
        · exact ⟨.inr h1, h2⟩
      · rintro ⟨rfl | h1, h2⟩
        · exact .inl rfl
        · exact .inr ⟨h1, h2⟩
    · have hy := Nat.eq_of_beq_eq_true hb
      simp only [cond, mem_rem (l := r), List.mem_cons]
      constructor
      · rintro ⟨h1, h2⟩; exact ⟨.inr h1, h2⟩
      · rintro ⟨rfl | h1, h2⟩
        · exact absurd hy h2
        · exact ⟨h1, h2⟩
def rdy (ops : List Oper) (R : List Nat) (i : Nat) : Bool := allN (fun e => cond (memN e R) false true) (edgesOf ops i)
theorem rdy_iff {ops : List Oper} {R : List Nat} {i : Nat} : rdy ops R i = true ↔ ∀ e, e ∈ edgesOf ops i → e ∉ R := by
  unfold rdy
  rw [allN_iff]
  constructor
  · intro h e he hr
    have := h e he
    rw [memN_iff.2 hr] at this; cases this
  · intro h e he
    cases hm : memN e R
    · rfl
    · exact absurd (memN_iff.1 hm) (h e he)
def entry (ops : List Oper) (T : OT) (R : List Nat) : Bool :=
  match T with
  | .no => false
  | .alt i t r => allN (fun x => cond (rdy ops R x) (memN x (heads (.alt i t r))) true) R
  | _ => true
def okT (ops : Array Oper) (D : Nat → List Nat) : OT → List Nat → Bool
  | .nil, R => match R with | [] => true | _ => false
  | .no, _ => true
  | .st i t, R => memN i R && (statN ops.toList i && (rdy ops.toList R i && (allN (fun x => Nat.beq x i || (memN x (D i) || apartN ops i x)) R && (okT ops D t (rem i R) && entry ops.toList t (rem i R)))))
  | .alt i t r, R => memN i R && ((match nth ops.toList i with | some o => !isStatic o.op | none => false) && (rdy ops.toList R i && ((okT ops D t (rem i R) && entry ops.toList t (rem i R)) && (isAlt r && okT ops D r R))))
def pull (i : Nat) : OT → OT
  | .nil => .nil
  | .no => .no
  | .st s t => cond (Nat.beq s i) t (.st s (pull i t))
  | .alt k t r => cond (Nat.beq k i) t (pull i r)
section
variable {P : Program} {n : Nat} {ops : Array Oper} {Q : Exit → Act → World → Prop} {D : Nat → List Nat} {a : Act} {f : Fr} {w : World}
def VT (P : Program) (ops : Array Oper) (Q : Exit → Act → World → Prop) (D : Nat → List Nat) : OT → Acc → Act → World → Prop
  | .nil, _, a, w => Q .normal a w
  | .no, _, _, _ => True
  | .st i t, acc, a, w => ∃ o, ops[i]? = some o ∧ isStatic o.op = true ∧ ∃ v, StEv P ops o a w v ∧ VT P ops Q D t ((i, fun w => StEv P ops o a w v) :: acc) (a.put o.dst v) w
  | .alt i t r, acc, a, w => (∃ o, ops[i]? = some o ∧ isStatic o.op = false ∧ wpOp P ops Q i (fun a' w' => (∃ u, a' = a.put o.dst u) ∧ (∀ p, p ∈ fltr D i acc → p.2 w') ∧ VT P ops Q D t (fltr D i acc) a' w') a w) ∧ VT P ops Q D r acc a w
theorem VT.mono : ∀ (T : OT) (acc acc' : Acc) (a : Act) (w : World), AccLe acc' acc → VT P ops Q D T acc a w → VT P ops Q D T acc' a w := by
  intro T
  induction T with
  | nil => intro acc acc' a w _ h; exact h
  | no => intro acc acc' a w _ h; exact h
  | st i t ih =>
    intro acc acc' a w hle h
    obtain ⟨o, ho, hst, v, hv, h⟩ := h
    exact ⟨o, ho, hst, v, hv, ih _ _ _ _ (hle.cons fun _ h => h) h⟩
  | alt i t r iht ihr =>
    intro acc acc' a w hle h
    obtain ⟨⟨o, ho, hst, h⟩, hr⟩ := h
    refine ⟨⟨o, ho, hst, wpOp_mono (fun a' w' h' => ⟨h'.1, fun p' hp' => ?_, iht _ _ _ _ (hle.fltr D i) h'.2.2⟩) h⟩, ihr _ _ _ _ hle hr⟩
    obtain ⟨p, hp, _, hw⟩ := hle.fltr D i p' hp'
    exact hw _ (h'.2.1 p hp)
theorem okT_st {i : Nat} {t : OT} {R : List Nat} (h : okT ops D (.st i t) R = true) : i ∈ R ∧ statN ops.toList i = true ∧ (∀ e, e ∈ edgesOf ops.toList i → e ∉ R) ∧ (∀ x, x ∈ R → x = i ∨ x ∈ D i ∨ apartN ops i x = true) ∧ okT ops D t (rem i R) = true ∧ entry ops.toList t (rem i R) = true := by
  simp only [okT, Bool.and_eq_true] at h
  obtain ⟨h1, h2, h3, h4, h5, h6⟩ := h
  refine ⟨memN_iff.1 h1, h2, rdy_iff.1 h3, fun x hx => ?_, h5, h6⟩
  have := allN_iff.1 h4 x hx
  simp only [Bool.or_eq_true] at this
  rcases this with e | e | e
  · exact .inl (Nat.eq_of_beq_eq_true e)
  · exact .inr (.inl (memN_iff.1 e))
  · exact .inr (.inr e)
theorem okT_alt {i : Nat} {t r : OT} {R : List Nat} (h : okT ops D (.alt i t r) R = true) : i ∈ R ∧ (∃ o, ops[i]? = some o ∧ isStatic o.op = false) ∧ (∀ e, e ∈ edgesOf ops.toList i → e ∉ R) ∧ okT ops D t (rem i R) = true ∧ entry ops.toList t (rem i R) = true ∧ isAlt r = true ∧ okT ops D r R = true := by
  simp only [okT, Bool.and_eq_true] at h
  obtain ⟨h1, h2, h3, ⟨h4, h5⟩, h6, h7⟩ := h
  refine ⟨memN_iff.1 h1, ?_, rdy_iff.1 h3, h4, h5, h6, h7⟩
  split at h2
  · rename_i o ho
    exact ⟨o, nth_get ho, by simpa using h2⟩
  · cases h2
theorem heads_no {x : Nat} : ∀ {T : OT} {R : List Nat}, okT ops D T R = true → x ∈ heads T → ∃ o, ops[x]? = some o ∧ isStatic o.op = false
  | .alt i t r, R, h, hx => by
    obtain ⟨h1, h2, h3, h4, h5, h6, h7⟩ := okT_alt h
    rcases List.mem_cons.1 hx with rfl | hx
    · exact h2
    · exact heads_no h7 hx
  | .nil, _, _, hx => by cases hx
  | .no, _, _, hx => by cases hx
  | .st _ _, _, _, hx => by cases hx
theorem entry_mem {T : OT} {R : List Nat} (h : entry ops.toList T R = true) (ha : isAlt T = true) {x : Nat} (hx : x ∈ R) (hr : ∀ e, e ∈ edgesOf ops.toList x → e ∉ R) : x ∈ heads T := by
  cases T with
  | nil => cases ha
  | st => cases ha
  | no => cases h
  | alt i t r =>
  have := allN_iff.1 h x hx
  rw [rdy_iff.2 hr] at this
  exact memN_iff.1 this
structure RestT (ops : Array Oper) (D : Nat → List Nat) (R : List Nat) (listed : Array Bool) : Prop where
  size : listed.size = ops.size
  mem : ∀ i, i < ops.size → (listed.getD i true = false ↔ i ∈ R)
  lt : ∀ i, i ∈ R → i < ops.size
  nodup : R.Nodup
  desc : ∀ s, s ∈ R → ∀ x, x ∈ D s → x ∈ R
  edge : ∀ s, s ∈ R → ∀ x, x ∈ D s → ∃ e, e ∈ edgesOf ops.toList x ∧ (e = s ∨ e ∈ D s)
  sel : ∀ i, i ∈ R → selN ops.toList i = true
  elt : ∀ x, x ∈ R → ∀ e, e ∈ edgesOf ops.toList x → e < ops.size
theorem RestT.not_desc {R : List Nat} {listed : Array Bool} (h : RestT ops D R listed) {s x : Nat} (hs : s ∈ R) (hx : ∀ e, e ∈ edgesOf ops.toList x → e ∉ R) : x ∉ D s := by
  intro hd
  obtain ⟨e, he, h' | h'⟩ := h.edge s hs x hd
  · subst h'; exact hx e he hs
  · exact hx e he (h.desc s hs e h')
theorem rem_nodup {i : Nat} : ∀ {l : List Nat}, l.Nodup → (rem i l).Nodup
  | [], _ => List.nodup_nil
  | x :: r, h => by
    obtain ⟨h1, h2⟩ := List.nodup_cons.1 h
    simp only [rem]
    cases Nat.beq x i
    · exact List.nodup_cons.2 ⟨fun hx => h1 (mem_rem.1 hx).1, rem_nodup h2⟩
    · exact rem_nodup h2
theorem rem_len {i : Nat} : ∀ {l : List Nat}, l.Nodup → i ∈ l → (rem i l).length + 1 = l.length
  | [], _, h => by cases h
  | x :: r, h, hi => by
    obtain ⟨h1, h2⟩ := List.nodup_cons.1 h
    simp only [rem]
    cases hb : Nat.beq x i
    · have hx : x ≠ i := fun e => by subst e; simp at hb
      have : i ∈ r := (List.mem_cons.1 hi).resolve_left fun e => hx e.symm
      simp [rem_len h2 this]
    · have hx := Nat.eq_of_beq_eq_true hb
      subst hx
      have : rem x r = r := rem_not h1
      simp [this]
where
  rem_not {i : Nat} : ∀ {l : List Nat}, i ∉ l → rem i l = l
    | [], _ => rfl
    | x :: r, h => by
      simp only [List.mem_cons, not_or] at h
      simp only [rem]
      cases hb : Nat.beq x i
      · simp [rem_not h.2]
      · exact absurd (Nat.eq_of_beq_eq_true hb).symm h.1
theorem rem_comm (i j : Nat) : ∀ (l : List Nat), rem i (rem j l) = rem j (rem i l)
  | [] => rfl
  | x :: r => by
    simp only [rem]
    cases h1 : Nat.beq x i <;> cases h2 : Nat.beq x j <;> simp [rem, h1, h2, rem_comm i j r]
theorem RestT.step {R : List Nat} {listed : Array Bool} (hr : RestT ops D R listed) {i : Nat} (hi : i ∈ R) (hed : ∀ e, e ∈ edgesOf ops.toList i → e ∉ R) : RestT ops D (rem i R) (listed.setIfInBounds i true) := by
  have sub : ∀ x, x ∈ rem i R → x ∈ R := fun x hx => (mem_rem.1 hx).1
  refine ⟨by simp [hr.size], fun x hx => ?_, fun x hx => hr.lt x (sub x hx), rem_nodup hr.nodup, fun s hs x hx => ?_, fun s hs => hr.edge s (sub s hs), fun x hx => hr.sel x (sub x hx), fun x hx => hr.elt x (sub x hx)⟩
  · by_cases e : i = x
    · subst e
      simp only [Array.getD_eq_getD_getElem?]
      have : i < listed.size := by rw [hr.size]; exact hx
      simp [this, mem_rem]
    · rw [getD_set_ne true e, hr.mem x hx, mem_rem]
      exact ⟨fun h => ⟨h, Ne.symm e⟩, fun h => h.1⟩
  · refine mem_rem.2 ⟨hr.desc s (sub s hs) x hx, fun e => ?_⟩
    subst e
    exact hr.not_desc (sub s hs) hed hx
theorem okT_pull {i : Nat} : ∀ {T : OT} {R : List Nat}, okT ops D T R = true → entry ops.toList T R = true → i ∈ R → (∀ e, e ∈ edgesOf ops.toList i → e ∉ R) → (okT ops D (pull i T) (rem i R) = true ∧ entry ops.toList (pull i T) (rem i R) = true)
  | .nil, R, h, _, hi, _ => by
    cases R with
    | nil => cases hi
    | cons => cases h
  | .no, R, h, he, hi, hed => by have := entry_mem he rfl hi hed; cases this
  | .st s t, R, h, he, hi, hed => by
    obtain ⟨h1, h2, h3, h4, h5, h6⟩ := okT_st h
    simp only [pull]
    cases hb : Nat.beq s i
    · have hne : s ≠ i := fun e => by subst e; simp at hb
      have hi' : i ∈ rem s R := mem_rem.2 ⟨hi, Ne.symm hne⟩
      have hed' : ∀ e, e ∈ edgesOf ops.toList i → e ∉ rem s R := fun e he hm => hed e he (mem_rem.1 hm).1
      obtain ⟨g1, g2⟩ := okT_pull h5 h6 hi' hed'
      refine ⟨?_, rfl⟩
      simp only [cond, okT, Bool.and_eq_true]
      refine ⟨memN_iff.2 (mem_rem.2 ⟨h1, hne⟩), h2, rdy_iff.2 fun e he hm => h3 e he (mem_rem.1 hm).1, allN_iff.2 fun x hx => ?_, by rw [rem_comm]; exact g1, by rw [rem_comm]; exact g2⟩
      simp only [Bool.or_eq_true]
      rcases h4 x (mem_rem.1 hx).1 with e | e | e
      · subst e; exact .inl (Nat.beq_refl _)
      · exact .inr (.inl (memN_iff.2 e))
      · exact .inr (.inr e)
    · have hs := Nat.eq_of_beq_eq_true hb
      subst hs
      exact ⟨h5, h6⟩
  | .alt k t r, R, h, he, hi, hed => by
    have hh := entry_mem he rfl hi hed
    exact go (T := .alt k t r) h hh
where
  go {i : Nat} : ∀ {T : OT} {R : List Nat}, okT ops D T R = true → i ∈ heads T → (okT ops D (pull i T) (rem i R) = true ∧ entry ops.toList (pull i T) (rem i R) = true)
    | .alt k t r, R, h, hh => by
      obtain ⟨h1, h2, h3, h4, h5, h6, h7⟩ := okT_alt h
      simp only [pull]
      cases hb : Nat.beq k i
      · have hne : k ≠ i := fun e => by subst e; simp at hb
        exact go h7 ((List.mem_cons.1 hh).resolve_left fun e => hne e.symm)
      · have hs := Nat.eq_of_beq_eq_true hb
        subst hs
        exact ⟨h4, h5⟩
    | .nil, _, _, hh => by cases hh
    | .no, _, _, hh => by cases hh
    | .st _ _, _, _, hh => by cases hh
theorem apartN_get {s x : Nat} (h : apartN ops s x = true) {os ox : Oper} (hs : ops[s]? = some os) (hx : ops[x]? = some ox) : os.apart ops ox = true := by
  have h1 : nth ops.toList s = some os := by rw [nth_eq, Array.getElem?_toList]; exact hs
  have h2 : nth ops.toList x = some ox := by rw [nth_eq, Array.getElem?_toList]; exact hx
  simpa [apartN, h1, h2] using h
theorem selN_get {s : Nat} (h : selN ops.toList s = true) {os : Oper} (hs : ops[s]? = some os) : noSel os.op = true := by
  have h1 : nth ops.toList s = some os := by rw [nth_eq, Array.getElem?_toList]; exact hs
  simpa [selN, h1] using h
theorem VT.first_static {x : Nat} {ox : Oper} (hx : ops[x]? = some ox) (hst : isStatic ox.op = true) (hnx : noSel ox.op = true) :
    ∀ (T : OT) (R : List Nat) (acc : Acc) (a : Act) (w : World), okT ops D T R = true → entry ops.toList T R = true → x ∈ R → (∀ e, e ∈ edgesOf ops.toList x → e ∉ R) → (∀ s, s ∈ R → x ∉ D s) → (∀ s, s ∈ R → selN ops.toList s = true) →
      VT P ops Q D T acc a w → ∃ v, StEv P ops ox a w v ∧ VT P ops Q D (pull x T) acc (a.put ox.dst v) w := by
  intro T
  induction T with
  | nil =>
    intro R acc a w h _ hi _ _ _ _
    cases R with
    | nil => cases hi
    | cons => cases h
  | no =>
    intro R acc a w h he hi hed _ _ _
    have := entry_mem he rfl hi hed; cases this
  | alt k t r _ _ =>
    intro R acc a w h he hi hed _ _ _
    obtain ⟨o, ho, hn⟩ := heads_no h (entry_mem he rfl hi hed)
    rw [hx] at ho
    have := Option.some.inj ho
    subst this
    rw [hst] at hn; cases hn
  | st s t ih =>
    intro R acc a w h he hi hed hnd hsel hv
    obtain ⟨h1, h2, h3, h4, h5, h6⟩ := okT_st h
    obtain ⟨os, hos, hss, vs, hvs, hv⟩ := hv
    simp only [pull]
    cases hb : Nat.beq s x
    · have hne : s ≠ x := fun e => by subst e; simp at hb
      have hap : os.apart ops ox = true := by
        rcases h4 x hi with e | e | e
        · exact absurd e.symm hne
        · exact absurd e (hnd s h1)
        · exact apartN_get e hos hx
      have hsn := selN_get (hsel s h1) hos
      have sub : ∀ y, y ∈ rem s R → y ∈ R := fun y hy => (mem_rem.1 hy).1
      obtain ⟨v, hv1, h2'⟩ := ih (rem s R) _ _ _ h5 h6 (mem_rem.2 ⟨hi, Ne.symm hne⟩) (fun e he hm => hed e he (sub e hm)) (fun y hy => hnd y (sub y hy)) (fun y hy => hsel y (sub y hy)) hv
      refine ⟨v, (StEv.put hap hnx).1 hv1, os, hos, hss, vs, (StEv.put (apart_symm hap) hsn).2 hvs, ?_⟩
      obtain ⟨_, h2'', _⟩ := Oper.apart_spec hap
      rw [← Act.put_comm a vs v h2'']
      exact h2'.mono _ _ _ _ _ ((AccLe.refl acc).cons fun w' hw' => (StEv.put (apart_symm hap) hsn).2 hw')
    · have hs := Nat.eq_of_beq_eq_true hb
      subst hs
      obtain rfl : os = ox := by rw [hx] at hos; exact (Option.some.inj hos).symm
      exact ⟨vs, hvs, hv.mono _ _ _ _ _ (AccLe.drop _ _)⟩
theorem VT.alt_get {x : Nat} {ox : Oper} (hx : ops[x]? = some ox) : ∀ (T : OT) (acc : Acc) (a : Act) (w : World), x ∈ heads T → VT P ops Q D T acc a w →
    wpOp P ops Q x (fun a' w' => (∃ u, a' = a.put ox.dst u) ∧ (∀ p, p ∈ fltr D x acc → p.2 w') ∧ VT P ops Q D (pull x T) (fltr D x acc) a' w') a w := by
  intro T
  induction T with
  | nil => intro _ _ _ h; cases h
  | no => intro _ _ _ h; cases h
  | st _ _ _ => intro _ _ _ h; cases h
  | alt k t r _ ihr =>
    intro acc a w h hv
    obtain ⟨⟨o, ho, _, h1⟩, h2⟩ := hv
    simp only [pull]
    cases hb : Nat.beq k x
    · have hne : k ≠ x := fun e => by subst e; simp at hb
      exact ihr acc a w ((List.mem_cons.1 h).resolve_left fun e => hne e.symm) h2
    · have hs := Nat.eq_of_beq_eq_true hb
      subst hs
      obtain rfl : o = ox := by rw [hx] at ho; exact (Option.some.inj ho).symm
      exact h1
theorem VT.first_change {x : Nat} {ox : Oper} (hx : ops[x]? = some ox) (hst : isStatic ox.op = false) (hnx : noSel ox.op = true) (hQ : ∀ c a w, ¬ Q (.panic c) a w) :
    ∀ (T : OT) (R : List Nat) (acc : Acc) (a : Act) (w : World), okT ops D T R = true → entry ops.toList T R = true → x ∈ R → (∀ e, e ∈ edgesOf ops.toList x → e ∉ R) → (∀ s, s ∈ R → x ∉ D s) → (∀ s, s ∈ R → selN ops.toList s = true) →
      VT P ops Q D T acc a w → wpOp P ops Q x (fun a' w' => (∃ u, a' = a.put ox.dst u) ∧ (∀ p, p ∈ fltr D x acc → p.2 w') ∧ VT P ops Q D (pull x T) (fltr D x acc) a' w') a w := by
  intro T
  induction T with
  | nil =>
    intro R acc a w h _ hi _ _ _ _
    cases R with
    | nil => cases hi
    | cons => cases h
  | no =>
    intro R acc a w h he hi hed _ _ _
    have := entry_mem he rfl hi hed; cases this
  | alt k t r _ _ =>
    intro R acc a w h he hi hed _ _ hv
    exact VT.alt_get hx _ acc a w (entry_mem he rfl hi hed) hv
  | st s t ih =>
    intro R acc a w h he hi hed hnd hsel hv
    obtain ⟨h1, h2, h3, h4, h5, h6⟩ := okT_st h
    obtain ⟨os, hos, hss, vs, hvs, hv⟩ := hv
    have hne : s ≠ x := fun e => by
      subst e
      rw [hx] at hos
      have := Option.some.inj hos
      subst this
      rw [hst] at hss; cases hss
    have hap : os.apart ops ox = true := by
      rcases h4 x hi with e | e | e
      · exact absurd e.symm hne
      · exact absurd e (hnd s h1)
      · exact apartN_get e hos hx
    have hsn := selN_get (hsel s h1) hos
    have sub : ∀ y, y ∈ rem s R → y ∈ R := fun y hy => (mem_rem.1 hy).1
    have hxd := hnd s h1
    have h2' := wpOp_pull (K := fun a' w' => (∀ p, p ∈ fltr D x ((s, fun w => StEv P ops os a w vs) :: acc) → p.2 w') ∧ VT P ops Q D (pull x t) (fltr D x ((s, fun w => StEv P ops os a w vs) :: acc)) a' w') hx hap hnx hQ
      (ih (rem s R) _ _ _ h5 h6 (mem_rem.2 ⟨hi, Ne.symm hne⟩) (fun e he hm => hed e he (sub e hm)) (fun y hy => hnd y (sub y hy)) (fun y hy => hsel y (sub y hy)) hv)
    have hf : fltr D x ((s, fun w => StEv P ops os a w vs) :: acc) = (s, fun w => StEv P ops os a w vs) :: fltr D x acc := by
      have : memN x (D s) = false := by
        cases hm : memN x (D s)
        · rfl
        · exact absurd (memN_iff.1 hm) hxd
      simp [fltr, this]
    have hb : Nat.beq s x = false := by
      cases hb : Nat.beq s x
      · rfl
      · exact absurd (Nat.eq_of_beq_eq_true hb) hne
    simp only [pull, hb, cond]
    refine wpOp_mono (fun a' w' ⟨⟨u, hu⟩, hk, hv⟩ => ?_) h2'
    rw [hf] at hk hv
    refine ⟨⟨u, hu⟩, fun p hp => hk p (List.mem_cons_of_mem _ hp), os, hos, hss, vs, ?_, ?_⟩
    · rw [hu]
      exact (StEv.put (apart_symm hap) hsn).2 (hk _ List.mem_cons_self)
    · refine hv.mono _ _ _ _ _ ((AccLe.refl _).cons fun w3 h3 => ?_)
      rw [hu]
      exact (StEv.put (apart_symm hap) hsn).2 h3
theorem has_ready : ∀ {T : OT} {R : List Nat}, okT ops D T R = true → entry ops.toList T R = true → R ≠ [] → ∃ i, i ∈ R ∧ ∀ e, e ∈ edgesOf ops.toList i → e ∉ R
  | .nil, R, h, _, hR => by
    cases R with
    | nil => exact absurd rfl hR
    | cons => cases h
  | .no, _, _, he, _ => by cases he
  | .st s t, _, h, _, _ => by obtain ⟨h1, h2, h3, _⟩ := okT_st h; exact ⟨s, h1, h3⟩
  | .alt s t r, _, h, _, _ => by obtain ⟨h1, h2, h3, _⟩ := okT_alt h; exact ⟨s, h1, h3⟩
theorem ready_edgeT {R : List Nat} {listed : Array Bool} (hr : RestT ops D R listed) {i : Nat} (hi : i ∈ Region.ready .any ops listed) :
    i ∈ R ∧ ∀ e, e ∈ edgesOf ops.toList i → e ∉ R := by
  obtain ⟨h0, o, ho, hall⟩ := mem_ready.1 hi
  have hlt : i < ops.size := (Array.getElem?_eq_some_iff.1 ho).1
  refine ⟨(hr.mem i hlt).1 h0, fun e he hel => ?_⟩
  obtain ⟨d, hd, hb, rfl⟩ := (mem_edges ho).1 he
  have h1 := hall d hd hb
  have h2 := (hr.mem d.on (hr.lt _ hel)).2 hel
  have hs : d.on < listed.size := by rw [hr.size]; exact hr.lt _ hel
  simp [Array.getD, hs] at h1 h2
  rw [h1] at h2; cases h2
theorem VT.any (hQ : ∀ c a w, ¬ Q (.panic c) a w) : ∀ (fuel : Nat) (T : OT) (R : List Nat) (listed : Array Bool) (acc : Acc) (a : Act) (w : World),
    RestT ops D R listed → okT ops D T R = true → entry ops.toList T R = true → R.length = fuel → VT P ops Q D T acc a w → wpAny P .any ops Q fuel listed a w := by
  intro fuel
  induction fuel with
  | zero =>
    intro T R listed acc a w hr hT he hl h
    have : R = [] := List.eq_nil_of_length_eq_zero hl
    subst this
    have hTn : T = .nil := by
      cases T with
      | nil => rfl
      | no => cases he
      | st s t => have := (okT_st hT).1; cases this
      | alt s t r => have := (okT_alt hT).1; cases this
    subst hTn
    refine ⟨?_, h⟩
    cases hc : Region.ready .any ops listed with
    | nil => rfl
    | cons x xs =>
      have := (ready_edgeT hr (i := x) (by rw [hc]; exact List.mem_cons_self)).1
      cases this
  | succ fuel ih =>
    intro T R listed acc a w hr hT he hl h
    refine ⟨fun hnil => ?_, fun i hi => ?_⟩
    · exfalso
      obtain ⟨x, hxR, hxe⟩ := has_ready hT he (fun e => by rw [e] at hl; cases hl)
      obtain ⟨o, ho⟩ : ∃ o, ops[x]? = some o := ⟨_, Array.getElem?_eq_getElem (hr.lt x hxR)⟩
      have hx : x ∈ Region.ready .any ops listed := by
        refine mem_ready.2 ⟨(hr.mem x (hr.lt x hxR)).2 hxR, o, ho, fun d hd hb => ?_⟩
        have hde : d.on ∈ edgesOf ops.toList x := (mem_edges ho).2 ⟨d, hd, hb, rfl⟩
        by_cases hlt : d.on < ops.size
        · cases hg : listed.getD d.on false
          · exfalso
            have hs : d.on < listed.size := by rw [hr.size]; exact hlt
            have h2 : listed.getD d.on true = false := by
              simp [Array.getD, hs] at hg ⊢; exact hg
            exact hxe _ hde ((hr.mem d.on hlt).1 h2)
          · rfl
        · exact absurd (hr.elt x hxR _ hde) hlt
      rw [hnil] at hx; cases hx
    · obtain ⟨hil, hed⟩ := ready_edgeT hr hi
      obtain ⟨_, oi, hoi, _⟩ := mem_ready.1 hi
      have hsel := selN_get (hr.sel i hil) hoi
      have hnd : ∀ s, s ∈ R → i ∉ D s := fun s hs => hr.not_desc hs hed
      have hr' := hr.step hil hed
      have hlen : (rem i R).length = fuel := by have := rem_len hr.nodup hil; omega
      obtain ⟨hT', he'⟩ := okT_pull hT he hil hed
      cases hst : isStatic oi.op
      · have := VT.first_change hoi hst hsel hQ T R acc a w hT he hil hed hnd hr.sel h
        exact wpOp_mono (fun a' w' h' => ih _ _ _ _ _ _ hr' hT' he' hlen h'.2.2) this
      · obtain ⟨v, hv, h'⟩ := VT.first_static hoi hst hsel T R acc a w hT he hil hed hnd hr.sel h
        have hk := ih _ _ _ _ _ _ hr' hT' he' hlen h'
        unfold wpOp
        simp only [hoi]
        unfold StEv at hv
        split at hv
        · rename_i hw
          rw [if_pos hw]
          refine .inl ?_
          unfold Oper.wp
          rw [hv]
          exact hk
        · rename_i hw
          rw [if_neg hw]
          subst hv
          exact hk
def chkTree (ops : Array Oper) (D : Nat → List Nat) (T : OT) : Bool :=
  allN (selN ops.toList) (List.range ops.size) && (allN (fun x => allN (fun e => Nat.blt e ops.size) (edgesOf ops.toList x)) (List.range ops.size) && (allN (fun s => allN (fun x => Nat.blt x ops.size && anyN (fun e => Nat.beq e s || memN e (D s)) (edgesOf ops.toList x)) (D s)) (List.range ops.size) &&
    (okT ops D T (List.range ops.size) && entry ops.toList T (List.range ops.size))))
theorem rest_startT {T : OT} (h : chkTree ops D T = true) : RestT ops D (List.range ops.size) (Array.replicate ops.size false) ∧ okT ops D T (List.range ops.size) = true ∧ entry ops.toList T (List.range ops.size) = true := by
  simp only [chkTree, Bool.and_eq_true] at h
  obtain ⟨h1, h2, h3, h4, h5⟩ := h
  refine ⟨⟨by simp, fun i hi => by simp [hi, Array.getD], fun i hi => List.mem_range.1 hi, List.nodup_range, fun s hs x hx => ?_, fun s hs x hx => ?_, fun i hi => allN_iff.1 h1 i hi, fun x hx e he => ?_⟩, h4, h5⟩
  · have := allN_iff.1 (allN_iff.1 h3 s hs) x hx
    rw [Bool.and_eq_true] at this
    exact List.mem_range.2 (by simpa [Nat.blt_eq] using this.1)
  · have := allN_iff.1 (allN_iff.1 h3 s hs) x hx
    rw [Bool.and_eq_true] at this
    obtain ⟨e, he, h⟩ := anyN_iff.1 this.2
    refine ⟨e, he, ?_⟩
    rcases Bool.or_eq_true _ _ ▸ h with h' | h'
    · exact .inl (Nat.eq_of_beq_eq_true h')
    · exact .inr (memN_iff.1 h')
  · have := allN_iff.1 (allN_iff.1 h2 x hx) e he
    simpa [Nat.blt_eq] using this
def inT : OT → List Nat
  | .nil => []
  | .no => []
  | .st i t => i :: inT t
  | .alt i t r => i :: (inT t ++ inT r)
theorem Off_mono {l l' : List Nat} (h : ∀ x, x ∈ l' → x ∈ l) {t : Nat} (ht : Off ops l t) : Off ops l' t := fun j hj => ht j (h j hj)
theorem vopsT_VT {K : Fr → World → Prop} (hok : opsOk n ops.toList = true) :
    ∀ (T : OT) (R sk : List Nat) (acc accP : Acc) (f : Fr) (a : Act) (w : World), okT ops D T R = true → vopsT P ops.toList D K T sk acc f w → Sim n f a → SkOk sk f →
      AccRel accP acc → (∀ p, p ∈ accP → p.2 w) →
      (∀ f' a' w', Sim n f' a' → (∀ t, Off ops (inT T) t → f' t = f t) → K f' w' → Q .normal a' w') → VT P ops Q D T accP a w := by
  have one : ∀ (i : Nat) (t : OT) (o : Oper) (sk : List Nat) (acc accP : Acc) (f : Fr) (a : Act) (w : World), ops[i]? = some o → isStatic o.op = false →
      (∀ (sk : List Nat) (acc accP : Acc) (f : Fr) (a : Act) (w : World), vopsT P ops.toList D K t sk acc f w → Sim n f a → SkOk sk f → AccRel accP acc → (∀ p, p ∈ accP → p.2 w) →
        (∀ f' a' w', Sim n f' a' → (∀ x, Off ops (inT t) x → f' x = f x) → K f' w' → Q .normal a' w') → VT P ops Q D t accP a w) →
      vgd ops.toList o.guard sk f (fun f => vone P true D i o sk acc f w (vopsT P ops.toList D K t)) (fun f => vopsT P ops.toList D K t (skAdd o.dst sk) acc (put f o.dst undef) w) →
      Sim n f a → SkOk sk f → AccRel accP acc → (∀ p, p ∈ accP → p.2 w) →
      (∀ f' a' w', Sim n f' a' → (∀ x, Off ops (i :: inT t) x → f' x = f x) → K f' w' → Q .normal a' w') →
      wpOp P ops Q i (fun a' w' => (∃ u, a' = a.put o.dst u) ∧ (∀ p, p ∈ fltr D i accP → p.2 w') ∧ VT P ops Q D t (fltr D i accP) a' w') a w := by
    intro i t o sk acc accP f a w hi hst ih h hs hsk hrel hnow hK
    have offr : ∀ x, Off ops (i :: inT t) x → Off ops (inT t) x := fun x hx => Off_mono (fun y hy => List.mem_cons_of_mem _ hy) hx
    have hoff : ∀ x, Off ops (i :: inT t) x → o.dst ≠ some x := fun x hx => hx i List.mem_cons_self o hi
    have hnext : ∀ v f' a' w', Sim n f' a' → (∀ x, Off ops (inT t) x → f' x = put f o.dst v x) → K f' w' → Q .normal a' w' := fun v f' a' w' hs' ht hk =>
      hK f' a' w' hs' (fun x h => (ht x (offr x h)).trans (put_off (hoff x h) _ _)) hk
    rcases vgd_cases hok hs hsk h with ⟨hw, h⟩ | ⟨hw, h⟩
    · simp only [vone, cond] at h
      rw [hst] at h
      unfold wpOp
      simp only [hi]
      rw [if_pos hw]
      refine .inl (vop_sound h hs fun v w' hN => ?_)
      obtain ⟨hk1, hk2⟩ := vkeeps_spec hN
      have hall : ∀ p, p ∈ fltr D i accP → p.2 w' := fun p' hp' => by
        rcases hrel.fltr i p' hp' with h' | ⟨p, hp, _, hw'⟩
        · exact h' w'
        · exact hw' w' (hk1 p hp)
      exact ⟨⟨v, rfl⟩, hall, ih _ _ _ _ _ _ hk2 (hs.put (opsOk_get hok hi) v) (skOk_del hsk _ _) (hrel.fltr i) hall (hnext v)⟩
    · unfold wpOp
      simp only [hi]
      rw [if_neg (by simp [hw])]
      refine ⟨⟨_, rfl⟩, fun p hp => hnow p (mem_fltr.1 hp).1, ?_⟩
      exact ih _ _ _ _ _ _ h (hs.put (opsOk_get hok hi) undef) (skOk_add hsk _)
        (fun p' hp' => hrel p' (mem_fltr.1 hp').1) (fun p hp => hnow p (mem_fltr.1 hp).1) (hnext undef)
  intro T
  induction T with
  | nil => intro R sk acc accP f a w _ h hs _ _ _ hK; exact hK f a w hs (fun _ _ => rfl) h
  | no => intro R sk acc accP f a w _ h hs _ _ _ hK; trivial
  | alt i t r iht ihr =>
    intro R sk acc accP f a w hT h hs hsk hrel hnow hK
    obtain ⟨h1, ⟨o, hi, hst⟩, h3, h4, h5, h6, h7⟩ := okT_alt hT
    obtain ⟨hA, hB⟩ := h
    have hn : nth ops.toList i = some o := by rw [nth_eq, Array.getElem?_toList]; exact hi
    rw [hn] at hA
    refine ⟨⟨o, hi, hst, one i t o sk acc accP f a w hi hst (fun sk acc accP f a w => iht _ sk acc accP f a w h4) hA hs hsk hrel hnow fun f' a' w' hs' ht hk => hK f' a' w' hs' (fun x hx => ht x ?_) hk⟩, ihr _ _ _ _ _ _ _ h7 hB hs hsk hrel hnow fun f' a' w' hs' ht hk => hK f' a' w' hs' (fun x hx => ht x ?_) hk⟩
    · exact Off_mono (fun y hy => by rcases List.mem_cons.1 hy with rfl | hy; exact List.mem_cons_self; exact List.mem_cons_of_mem _ (List.mem_append_left _ hy)) hx
    · exact Off_mono (fun y hy => List.mem_cons_of_mem _ (List.mem_append_right _ hy)) hx
  | st i t ih =>
    intro R sk acc accP f a w hT h hs hsk hrel hnow hK
    obtain ⟨h1, h2, h3, h4, h5, h6⟩ := okT_st hT
    simp only [vopsT] at h
    cases ho : nth ops.toList i with
    | none => rw [ho] at h; exact h.elim
    | some o =>
      rw [ho] at h
      have hi := nth_get ho
      have hst : isStatic o.op = true := by simpa [statN, ho] using h2
      have offr : ∀ x, Off ops (i :: inT t) x → Off ops (inT t) x := fun x hx => Off_mono (fun y hy => List.mem_cons_of_mem _ hy) hx
      have hoff : ∀ x, Off ops (i :: inT t) x → o.dst ≠ some x := fun x hx => hx i List.mem_cons_self o hi
      refine ⟨o, hi, hst, ?_⟩
      have hnext : ∀ v f' a' w', Sim n f' a' → (∀ x, Off ops (inT t) x → f' x = put f o.dst v x) → K f' w' → Q .normal a' w' := fun v f' a' w' hs' ht hk =>
        hK f' a' w' hs' (fun x h => (ht x (offr x h)).trans (put_off (hoff x h) _ _)) hk
      rcases vgd_cases hok hs hsk h with ⟨hw, h⟩ | ⟨hw, h⟩
      · simp only [vone, cond] at h
        rw [hst] at h
        cases hfr : isFree o.op
        · rw [hfr] at h
          obtain ⟨v, w', hr, hww, hN⟩ := vop_run hst h
          subst hww
          have hev : StEv P ops o a w' v := by unfold StEv; rw [if_pos hw, hs.eval]; exact hr
          refine ⟨v, hev, ih _ _ _ _ _ _ _ h5 hN (hs.put (opsOk_get hok hi) v) (skOk_del hsk _ _) (hrel.add fun w2 h2 => ?_) (fun p hp => ?_) (hnext v)⟩
          · obtain ⟨v', w3, hr', hv', hw3⟩ := vop_run hst h2
            subst hv'; subst hw3
            unfold StEv; rw [if_pos hw, hs.eval]; exact hr'
          · rcases List.mem_cons.1 hp with rfl | hp
            · exact hev
            · exact hnow p hp
        · rw [hfr] at h
          obtain ⟨v, hr, hN⟩ := free_run hfr h
          have hev : ∀ w2, StEv P ops o a w2 v := fun w2 => by unfold StEv; rw [if_pos hw, hs.eval]; exact hr w2
          refine ⟨v, hev w, ih _ _ _ _ _ _ _ h5 hN (hs.put (opsOk_get hok hi) v) (skOk_del hsk _ _) (hrel.addFree hev) (fun p hp => ?_) (hnext v)⟩
          rcases List.mem_cons.1 hp with rfl | hp
          · exact hev w
          · exact hnow p hp
      · have hev : ∀ w2, StEv P ops o a w2 undef := fun w2 => by unfold StEv; rw [if_neg (by simp [hw])]
        refine ⟨undef, hev w, ih _ _ _ _ _ _ _ h5 h (hs.put (opsOk_get hok hi) undef) (skOk_add hsk _) (hrel.addFree hev) (fun p hp => ?_) (hnext undef)⟩
        rcases List.mem_cons.1 hp with rfl | hp
        · exact hev w
        · exact hnow p hp
theorem region_tree {id : Nat} {K : Fr → World → Prop} (hok : opsOk n ops.toList = true) (hm : P.follows .mixedOrders = true) {T : OT} (hc : chkTree ops D T = true)
    (h : vopsT P ops.toList D K T [] [] f { w with drawn := w.drawn + 1 }) (hs : Sim n f a)
    (hK : ∀ f' a' w', Sim n f' a' → (∀ t, (∀ o, o ∈ ops → o.dst ≠ some t) → f' t = f t) → K f' w' → Q .normal a' w') : (Code.region id ops true).wp P Q a w := by
  refine wp_mono (Q := onlyN Q) (wp_region_any hm ?_) fun e a w h => by cases e <;> first | exact h | exact h.elim
  obtain ⟨h1, h2, h3⟩ := rest_startT hc
  refine VT.any (D := D) (fun c a w h => h) ops.size T _ _ [] a _ h1 h2 h3 (by simp) ?_
  exact vopsT_VT hok T _ [] [] [] f a _ h2 h hs (fun d hd => by cases hd) (fun p hp => by cases hp) (fun p hp => by cases hp)
      fun f' a' w' hs' ht hk => hK f' a' w' hs' (fun t hoff => ht t fun i _ o ho => hoff o (Array.mem_of_getElem? ho)) hk
end
end Go.Vc
end
