/- The verification conditions: frames as functions, one combinator for each operation, and their soundness. -/
import Derived.Orders
import Derived.Tactics
import Derived.Laws.Sem
import Derived.KernelRfl
set_option linter.unusedVariables false
set_option linter.unusedSimpArgs false
set_option linter.unnecessarySimpa false
set_option linter.unusedSectionVars false
namespace Go.Vc
open Go

abbrev Fr := Nat → Value

def put (f : Fr) (d : Option Nat) (v : Value) : Fr :=
  match d with
  | some d => fun t => cond (Nat.beq t d) v (f t)
  | none => f

def ev (f : Fr) : Operand → Value
  | .tmp t => f t
  | .const v => v
  | .global g => .pointer (some ⟨g, 0, none⟩)
  | .func k => .func (.func k) #[] #[]

/-- A frame of the machine reads as a function. -/
structure Sim (n : Nat) (f : Fr) (a : Act) : Prop where
  size : a.tmps.size = n
  defers : a.defers = []
  at_ : ∀ t, a.tmps.getD t undef = f t

theorem Sim.eval {n : Nat} {f : Fr} {a : Act} (h : Sim n f a) : a.eval = ev f := by
  funext x
  cases x <;> simp only [Act.eval, ev]
  exact h.at_ _

theorem put_none (f : Fr) (v : Value) : put f none v = f := rfl
theorem put_same (f : Fr) (d : Nat) (v : Value) : put f (some d) v d = v := by simp [put]
theorem put_ne (f : Fr) (d t : Nat) (v : Value) (h : t ≠ d) : put f (some d) v t = f t := by
  have : Nat.beq t d = false := by cases hb : Nat.beq t d; · rfl
                                   · exact absurd (Nat.eq_of_beq_eq_true hb) h
  simp [put, this]

def dstOk (n : Nat) (d : Option Nat) : Bool := match d with | some d => Nat.blt d n | none => true

theorem Sim.put {n : Nat} {f : Fr} {a : Act} (h : Sim n f a) {d : Option Nat} (hd : dstOk n d = true) (v : Value) : Sim n (put f d v) (a.put d v) := by
  cases d with
  | none => exact h
  | some d =>
    have hlt : d < n := by simpa [dstOk, Nat.blt_eq] using hd
    refine ⟨by simp [Act.put, h.size], by simp [Act.put, h.defers], fun t => ?_⟩
    by_cases ht : t = d
    · subst ht
      rw [put_same]
      simp [Act.put, Array.getD_eq_getD_getElem?, h.size, hlt]
    · rw [put_ne _ _ _ _ ht, ← h.at_ t]
      simp [Act.put, Array.getD_eq_getD_getElem?, Array.getElem?_setIfInBounds_ne (Ne.symm ht)]

/-- A run that ends well. -/
def vrun {α : Type} (P : Program) (s : Sem α) (w : World) (K : α → World → Prop) : Prop := ∃ v w', s.run P w = .ok v w' ∧ K v w'

/-- What a call's ending has to be: a return. -/
def retK (K : Value → World → Prop) (e : Ending) (w : World) : Prop :=
  match e with
  | .returned v => K v w
  | _ => False

def okFn (P : Program) (g : Nat) : Bool :=
  match P.funcs[g]? with
  | some fn => fn.name != "runtime.NumGoroutine" && fn.body.isSome
  | none => false

def vcall (P : Program) (g : Nat) (args : Array Value) (w : World) (K : Value → World → Prop) : Prop :=
  okFn P g = true ∧ Calls P g args w (retK K)

def vcallv (P : Program) (v : Value) (args : Array Value) (w : World) (K : Value → World → Prop) : Prop :=
  match v with
  | .func (.func g) first cap => vcall P g ⟨(first.toList ++ args.toList) ++ cap.toList⟩ w K
  | _ => False

def vinvoke (P : Program) (r : Value) (name : String) (args : Array Value) (w : World) (K : Value → World → Prop) : Prop :=
  match r with
  | .iface t v => ∃ g rcv, (method (P.types.size + Made.depth) t v name).run P w = .ok (g, rcv) w ∧ vcall P g ⟨rcv :: args.toList⟩ w K
  | _ => False

def vpick (c a b : Value) (w : World) (K : Value → World → Prop) : Prop :=
  match c with
  | .bool true => K a w
  | .bool false => K b w
  | _ => False

def vif (c : Value) (A B : Prop) : Prop :=
  match c with
  | .bool true => A
  | .bool false => B
  | _ => False

/-- eqGuard, told by whether an operand is a constant. -/
def eqG (op : BinOp) (t : TypeId) (c : Bool) (a b : Value) : Sem Unit := eqGuard op t (cond c (.const undef) (.tmp 0)) (.tmp 0) a b

def isC : Operand → Bool | .const _ => true | _ => false

theorem eqGuard_eq (op : BinOp) (t : TypeId) (x y : Operand) (a b : Value) : eqGuard op t x y a b = eqG op t (isC x || isC y) a b := by
  unfold eqG eqGuard
  cases x <;> cases y <;> rfl

def vbin (P : Program) (op : BinOp) (t : TypeId) (c : Bool) (a b : Value) (w : World) (K : Value → World → Prop) : Prop :=
  vrun P (do eqG op t c a b; binOp op t a b) w K
def vun (P : Program) (op : UnOp) (a : Value) (w : World) (K : Value → World → Prop) : Prop := vrun P (Op.unary op a) w K
def valloc (P : Program) (t : TypeId) (w : World) (K : Value → World → Prop) : Prop := vrun P (Instr.alloc t true (.tuple #[])) w K
def vbox (P : Program) (t : TypeId) (v : Value) (w : World) (K : Value → World → Prop) : Prop := vrun P (Instr.box t v) w K
def vbuild (P : Program) (t : TypeId) (ps : List (Nat × Value)) (w : World) (K : Value → World → Prop) : Prop := vrun P (Instr.build t ⟨ps⟩) w K
def vbuildS (P : Program) (t n : Nat) (ps : List (Nat × Value)) (w : World) (K : Value → World → Prop) : Prop := vrun P (Instr.buildSlice t n ⟨ps⟩) w K
def vload (P : Program) (t : TypeId) (a : Value) (w : World) (K : Value → World → Prop) : Prop := vrun P (Instr.loadAt t a) w K
def vstore (P : Program) (t : TypeId) (a v : Value) (w : World) (K : Value → World → Prop) : Prop := vrun P (Instr.storeAt t a v) w fun _ w' => K undef w'
/-- nilCheck, but for method values. (Structures: the kernel must not lay them open: they hold the continuation more than once.) -/
def vnilD (v : Value) (w : World) (K : Value → World → Prop) : Prop :=
  match v with
  | .pointer (some a) => K (.pointer (some a)) w
  | .pointer none => False
  | .nilIface => False
  | .nilFunc => False
  | .func (.func g) a b => K (.func (.func g) a b) w
  | .func _ _ _ => False
  | .iface t x => K (.iface t x) w
  | v => K v w
structure vnil (_P : Program) (v : Value) (w : World) (K : Value → World → Prop) : Prop where
  h : vnilD v w K
def vconv (P : Program) (s d : TypeId) (v : Value) (w : World) (K : Value → World → Prop) : Prop := vrun P (convert s d v) w K
def vmkI (P : Program) (t : TypeId) (v : Value) (w : World) (K : Value → World → Prop) : Prop := vrun P (Instr.makeInterface t v) w K
def vmkF (P : Program) (fn : Fn) (first cap : List Value) (w : World) (K : Value → World → Prop) : Prop := vrun P (Instr.makeFunc fn ⟨first⟩ ⟨cap⟩) w K
def vmkM (P : Program) (t : TypeId) (r : Option Value) (w : World) (K : Value → World → Prop) : Prop := vrun P (Instr.makeMap t r) w K
def vmkS (P : Program) (t : TypeId) (l c : Value) (w : World) (K : Value → World → Prop) : Prop := vrun P (Instr.makeSlice t l c) w K
def vslice (P : Program) (t : TypeId) (x : Value) (lo hi mx : Option Value) (w : World) (K : Value → World → Prop) : Prop := vrun P (Instr.sliceAt t x lo hi mx) w K
def vfaddr (P : Program) (s : TypeId) (x : Value) (f : Nat) (w : World) (K : Value → World → Prop) : Prop := vrun P (Instr.fieldAt s x f) w K
def vfield (P : Program) (t : TypeId) (x : Value) (f : Nat) (w : World) (K : Value → World → Prop) : Prop := vrun P (Instr.field t x f) w K
def viaddr (P : Program) (t : TypeId) (x i : Value) (w : World) (K : Value → World → Prop) : Prop := vrun P (Instr.indexAt t x i) w K
def vindex (P : Program) (t : TypeId) (x i : Value) (w : World) (K : Value → World → Prop) : Prop := vrun P (Instr.index t x i) w K
def vlook (P : Program) (t : TypeId) (x i : Value) (ok : Bool) (w : World) (K : Value → World → Prop) : Prop := vrun P (Instr.lookup t x i ok) w K
def vmset (P : Program) (t : TypeId) (m k x : Value) (w : World) (K : Value → World → Prop) : Prop := vrun P (Instr.mapUpdate t m k x) w fun _ w' => K undef w'
def vrange (P : Program) (t : TypeId) (x : Value) (w : World) (K : Value → World → Prop) : Prop := vrun P (Instr.range t x) w K
def vnext (P : Program) (it : Value) (s : Bool) (t : TypeId) (w : World) (K : Value → World → Prop) : Prop := vrun P (Instr.next it s t) w K
def ventry (P : Program) (it : Value) (w : World) (K : Value → World → Prop) : Prop := vrun P (Instr.entry it) w K
def vassert (P : Program) (x : Value) (t u : TypeId) (ok : Bool) (w : World) (K : Value → World → Prop) : Prop := vrun P (Instr.typeAssert x t u ok) w K
def vextract (P : Program) (x : Value) (i : Nat) (w : World) (K : Value → World → Prop) : Prop := vrun P (Instr.extract x i) w K

def biSem (b : Builtin) (ts : Array TypeId) (t : TypeId) (args : Array Value) : Sem Value :=
  match b with
  | .append => Builtin.append_ ts t args
  | .cap => Builtin.cap_ ts t args
  | .copy => Builtin.copy_ ts t args
  | .delete => Builtin.delete_ ts t args
  | .len => Builtin.len_ ts t args
  | .max => Builtin.max_ ts t args
  | .min => Builtin.min_ ts t args
  | _ => stuck ""
def vbi (P : Program) (b : Builtin) (ts : List TypeId) (t : TypeId) (args : List Value) (w : World) (K : Value → World → Prop) : Prop := vrun P (biSem b ⟨ts⟩ t ⟨args⟩) w K

def evP (f : Fr) : List (Nat × Operand) → List (Nat × Value)
  | [] => []
  | p :: r => (p.1, ev f p.2) :: evP f r
def evL (f : Fr) : List Operand → List Value
  | [] => []
  | x :: r => ev f x :: evL f r
def evO (f : Fr) : Option Operand → Option Value
  | none => none
  | some x => some (ev f x)

theorem evP_eq (f : Fr) (l : List (Nat × Operand)) : evP f l = l.map fun p => (p.1, ev f p.2) := by induction l <;> simp_all [evP]
theorem evL_eq (f : Fr) (l : List Operand) : evL f l = l.map (ev f) := by induction l <;> simp_all [evL]
theorem evO_eq (f : Fr) (l : Option Operand) : evO f l = l.map (ev f) := by cases l <;> rfl

/-- One operation. -/
def vop (P : Program) (o : Op) (ty : TypeId) (f : Fr) (w : World) (K : Value → World → Prop) : Prop :=
  match o with
  | .move x => K (ev f x) w
  | .assign x => K (ev f x) w
  | .pick c a b => vpick (ev f c) (ev f a) (ev f b) w K
  | .alloc t => valloc P t w K
  | .box t x => vbox P t (ev f x) w K
  | .build t ps => vbuild P t (evP f ps.toList) w K
  | .buildSlice t n ps => vbuildS P t n (evP f ps.toList) w K
  | .load t a => vload P t (ev f a) w K
  | .store t a x => vstore P t (ev f a) (ev f x) w K
  | .nilCheck x => vnil P (ev f x) w K
  | .binOp op t x y _ => vbin P op t (isC x || isC y) (ev f x) (ev f y) w K
  | .unOp op _ x => vun P op (ev f x) w K
  | .convert s d x => vconv P s d (ev f x) w K
  | .makeInterface t x => vmkI P t (ev f x) w K
  | .makeFunc fn a b => vmkF P fn (evL f a.toList) (evL f b.toList) w K
  | .makeMap t r => vmkM P t (evO f r) w K
  | .makeSlice t l c => vmkS P t (ev f l) (ev f c) w K
  | .slice t x lo hi mx => vslice P t (ev f x) (evO f lo) (evO f hi) (evO f mx) w K
  | .fieldAddr s x i => vfaddr P s (ev f x) i w K
  | .field t x i => vfield P t (ev f x) i w K
  | .indexAddr t x i => viaddr P t (ev f x) (ev f i) w K
  | .index t x i => vindex P t (ev f x) (ev f i) w K
  | .lookup t x i ok => vlook P t (ev f x) (ev f i) ok w K
  | .mapUpdate t m k x => vmset P t (ev f m) (ev f k) (ev f x) w K
  | .insert t m k x => vmset P t (ev f m) (ev f k) (ev f x) w K
  | .range t x => vrange P t (ev f x) w K
  | .next it s => vnext P (ev f it) s ty w K
  | .entry it => ventry P (ev f it) w K
  | .typeAssert x t u ok => vassert P (ev f x) t u ok w K
  | .extract x i => vextract P (ev f x) i w K
  | .call c => match c.callee with
    | .value x => vcallv P (ev f x) ⟨evL f c.args.toList⟩ w K
    | .invoke r name => vinvoke P (ev f r) name ⟨evL f c.args.toList⟩ w K
    | .builtin b => vbi P b c.argTypes.toList ty (evL f c.args.toList) w K
  | _ => False

/-- Operations that only read (and whose run is known to hand back a value). -/
def isStatic : Op → Bool
  | .move _ | .assign _ | .pick .. | .build .. | .load .. | .nilCheck _ | .binOp .. | .unOp .. | .convert .. | .makeInterface ..
  | .makeFunc .. | .slice .. | .fieldAddr .. | .field .. | .indexAddr .. | .index .. | .lookup .. | .typeAssert .. | .extract .. => true
  | .call c => match c.callee with
    | .builtin b => (match b with | .len => true | .cap => true | .max => true | .min => true | _ => false)
    | _ => false
  | _ => false

section
variable {P : Program} {f : Fr} {w : World} {K : Value → World → Prop}

theorem run_value {s : Sem Value} {v : Value} {w' : World} (h : s.run P w = .ok v w') : (do pure (Next.value (← s)) : Sem Next).run P w = .ok (.value v) w' := by
  simp [h]

theorem amap {α β : Type} (g : α → β) (l : Array α) : (⟨l.toList.map g⟩ : Array β) = l.map g := by
  apply Array.toList_inj.1; simp

theorem ext1 {α : Type} (x : α) (l : Array α) : (#[x] ++ l).extract 1 (#[x] ++ l).size = l := by
  apply Array.toList_inj.1; simp

theorem vnil_run {v : Value} {Kn : Value → World → Prop} (h : vnil P v w Kn) : Kn v w ∧ ∀ {ρ : Operand → Value} {x : Operand} {d : Option Tmp} {ty : TypeId} {p : String} {e : Array Edge} {g : Option (Nat × Bool)},
    ρ x = v → (execOp ρ ⟨d, .nilCheck x, ty, p, e, g⟩).run P w = .ok (.value v) w := by
  replace h := h.h
  cases v <;> simp only [vnilD] at h
  case pointer a =>
    cases a <;> simp only at h
    exact ⟨h, fun hx => by simp only [execOp, hx]; rfl⟩
  case func fn x y =>
    cases fn <;> simp only at h
    exact ⟨h, fun hx => by simp only [execOp, hx]; rfl⟩
  all_goals exact ⟨h, fun hx => by simp only [execOp, hx]; rfl⟩

theorem vop_run {o : Oper} (hst : isStatic o.op = true) (h : vop P o.op o.type f w K) :
    ∃ v w', (execOp (ev f) o).run P w = .ok (.value v) w' ∧ K v w' := by
  obtain ⟨dst, op, type, pos, after, guard⟩ := o
  cases op <;> simp only [isStatic, Bool.false_eq_true] at hst <;> simp only [vop] at h
  case move x => exact ⟨_, _, rfl, h⟩
  case assign x => exact ⟨_, _, rfl, h⟩
  case pick c a b =>
    unfold vpick at h
    split at h
    · rename_i hc; exact ⟨_, _, by simp [execOp, hc, asBool], h⟩
    · rename_i hc; exact ⟨_, _, by simp [execOp, hc, asBool], h⟩
    · exact h.elim
  case build t ps =>
    obtain ⟨v, w', hr, hk⟩ := h
    refine ⟨v, w', run_value ?_, hk⟩
    rw [← hr, evP_eq, amap]
  case load t a => obtain ⟨v, w', hr, hk⟩ := h; exact ⟨v, w', run_value hr, hk⟩
  case nilCheck x =>
    have := vnil_run h
    exact ⟨_, _, this.2 rfl, this.1⟩
  case binOp op t x y yt =>
    obtain ⟨v, w', hr, hk⟩ := h
    refine ⟨v, w', run_value ?_, hk⟩
    rw [eqGuard_eq]; exact hr
  case unOp op t x => obtain ⟨v, w', hr, hk⟩ := h; exact ⟨v, w', run_value hr, hk⟩
  case convert s d x => obtain ⟨v, w', hr, hk⟩ := h; exact ⟨v, w', run_value hr, hk⟩
  case makeInterface t x => obtain ⟨v, w', hr, hk⟩ := h; exact ⟨v, w', run_value hr, hk⟩
  case makeFunc fn a b =>
    obtain ⟨v, w', hr, hk⟩ := h
    refine ⟨v, w', run_value ?_, hk⟩
    rw [← hr, evL_eq, evL_eq, amap, amap]
  case slice t x lo hi mx => obtain ⟨v, w', hr, hk⟩ := h; rw [evO_eq, evO_eq, evO_eq] at hr; exact ⟨v, w', run_value hr, hk⟩
  case fieldAddr s x i => obtain ⟨v, w', hr, hk⟩ := h; exact ⟨v, w', run_value hr, hk⟩
  case field t x i => obtain ⟨v, w', hr, hk⟩ := h; exact ⟨v, w', run_value hr, hk⟩
  case indexAddr t x i => obtain ⟨v, w', hr, hk⟩ := h; exact ⟨v, w', run_value hr, hk⟩
  case index t x i => obtain ⟨v, w', hr, hk⟩ := h; exact ⟨v, w', run_value hr, hk⟩
  case lookup t x i ok => obtain ⟨v, w', hr, hk⟩ := h; exact ⟨v, w', run_value hr, hk⟩
  case typeAssert x t u ok => obtain ⟨v, w', hr, hk⟩ := h; exact ⟨v, w', run_value hr, hk⟩
  case extract x i => obtain ⟨v, w', hr, hk⟩ := h; exact ⟨v, w', run_value hr, hk⟩
  case call c =>
    obtain ⟨callee, args, ts⟩ := c
    cases callee <;> simp only [Bool.false_eq_true] at hst
    case builtin b =>
      simp only at h
      obtain ⟨v, w', hr, hk⟩ := h
      refine ⟨v, w', ?_, hk⟩
      rw [evL_eq, amap] at hr
      cases b <;> simp only [Bool.false_eq_true] at hst <;> simp only [biSem] at hr <;>
        exact run_value hr

theorem callFunc_run {g : Nat} {args : Array Value} (hg : okFn P g = true) : (callFunc g args).run P w = .ok (.enter g args) w := by
  unfold okFn at hg
  cases hf : P.funcs[g]? with
  | none => simp [hf] at hg
  | some fn =>
    simp only [hf, Bool.and_eq_true, bne_iff_ne, ne_eq, Option.isSome_iff_ne_none] at hg
    have h1 : ¬ fn.name = "runtime.NumGoroutine" := hg.1
    have h2 : ¬ fn.body = none := hg.2
    simp [callFunc, program, hf, h1, h2, Sem.run]

theorem vop_sound {n : Nat} {a : Act} {o : Oper} {next : Act → World → Prop} {Q : Exit → Act → World → Prop} (h : vop P o.op o.type f w K) (hs : Sim n f a)
    (hK : ∀ v w', K v w' → next (a.put o.dst v) w') : o.wp P a w next Q := by
  by_cases hst : isStatic o.op = true
  · obtain ⟨v, w', hr, hk⟩ := vop_run hst h
    unfold Oper.wp
    rw [hs.eval, hr]
    exact hK _ _ hk
  · unfold Oper.wp
    rw [hs.eval]
    obtain ⟨dst, op, type, pos, after, guard⟩ := o
    have val : ∀ {s : Sem Value}, (vrun P s w K) → Oper.upon P ⟨dst, op, type, pos, after, guard⟩ a next Q ((do pure (Next.value (← s)) : Sem Next).run P w) := by
      intro s ⟨v, w', hr, hk⟩
      rw [run_value hr]
      exact hK _ _ hk
    have skp : ∀ {s : Sem Unit}, (vrun P s w fun _ w' => K undef w') → Oper.upon P ⟨dst, op, type, pos, after, guard⟩ a next Q ((do s; pure Next.skip : Sem Next).run P w) := by
      intro s ⟨v, w', hr, hk⟩
      simp only [Sem.run_bind, hr, Result.andThen_ok, Sem.run_pure]
      exact hK _ _ hk
    have ent : ∀ {g : Nat} {args : Array Value}, vcall P g args w K → Oper.upon P ⟨dst, op, type, pos, after, guard⟩ a next Q ((callFunc g args).run P w) := by
      intro g args ⟨hg, hc⟩
      rw [callFunc_run hg]
      refine Calls.mono hc fun e w' he => ?_
      cases e with
      | returned v => exact hK _ _ he
      | panicked c => exact he.elim
      | outgrown => exact he.elim
    cases op <;> simp only [vop] at h <;> (try exact h.elim) <;> (try (exact absurd rfl hst))
    case alloc t => exact val h
    case box t x => exact val h
    case buildSlice t n ps =>
      rw [vbuildS, evP_eq, amap] at h
      exact val h
    case store t x y => exact skp h
    case makeMap t r => rw [evO_eq] at h; exact val h
    case makeSlice t l c => exact val h
    case mapUpdate t m k x => exact skp h
    case insert t m k x => exact skp h
    case range t x => exact val h
    case next it s => exact val h
    case entry it => exact val h
    case call c =>
      obtain ⟨callee, args, ts⟩ := c
      cases callee with
      | value x =>
        simp only at h
        unfold vcallv at h
        split at h
        · rename_i g first cap hx
          have h2 := ent h
          rw [evL_eq] at h2
          simp only [execOp, resolve, hx, Deferred.ofValue, Sem.run_bind, Sem.run_pure, Result.andThen_ok, invoke]
          have e : ({ toList := first.toList ++ List.map (ev f) args.toList ++ cap.toList } : Array Value) = first ++ args.map (ev f) ++ cap := by
            apply Array.toList_inj.1; simp
          rw [← e]
          exact h2
        · exact h.elim
      | invoke r name =>
        simp only at h
        unfold vinvoke at h
        split at h
        · rename_i t v hx
          obtain ⟨g, rcv, hm, hc⟩ := h
          have h2 := ent hc
          rw [evL_eq] at h2
          have e : ({ toList := rcv :: List.map (ev f) args.toList } : Array Value) = #[rcv] ++ args.map (ev f) := by
            apply Array.toList_inj.1; simp
          rw [e] at h2
          have e2 := ext1 (Value.iface t v) (args.map (ev f))
          have e0 : (#[Value.iface t v] ++ args.map (ev f))[0]? = some (Value.iface t v) := by rw [← Array.getElem?_toList]; simp
          simp only [execOp, resolve, hx, Sem.run_bind, Sem.run_pure, Result.andThen_ok, invoke, e0, e2, callMethod, program, Sem.run, hm]
          exact h2
        · exact h.elim
      | builtin b =>
        simp only at h
        rw [vbi, evL_eq, amap] at h
        cases b <;> simp only [biSem] at h <;>
          first
          | exact val h
          | (obtain ⟨v, w', hr, _⟩ := h; simp [stuck] at hr)
end
end Go.Vc
