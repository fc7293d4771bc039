/- The plain mathematics of bit vectors and of terms: no program in sight. -/
set_option linter.unusedVariables false
set_option linter.unusedSimpArgs false
set_option linter.unnecessarySimpa false
set_option linter.unusedSectionVars false
namespace Go.M

/-- Terms. -/
inductive Tm where
  | mk (op a b : Int) (s : ByteArray) (ks : List Tm)

namespace Tm
def op : Tm → Int | mk o _ _ _ _ => o
def a : Tm → Int | mk _ a _ _ _ => a
def b : Tm → Int | mk _ _ b _ _ => b
def s : Tm → ByteArray | mk _ _ _ s _ => s
def ks : Tm → List Tm | mk _ _ _ _ ks => ks

theorem ind {p : Tm → Prop} (h : ∀ t, (∀ k, k ∈ t.ks → p k) → p t) : ∀ t, p t
  | mk o a b s ks => h _ fun k (hk : k ∈ ks) => by
      have := List.sizeOf_lt_of_mem hk
      exact ind h k
decreasing_by
  simp only [mk.sizeOf_spec]
  omega

variable {α : Type}
mutual
def fold (f : Tm → List α → α) : Tm → α
  | mk o a b s ks => f (mk o a b s ks) (foldL f ks)
def foldL (f : Tm → List α → α) : List Tm → List α
  | [] => []
  | k :: r => fold f k :: foldL f r
end
theorem foldL_eq (f : Tm → List α → α) (ks : List Tm) : foldL f ks = ks.map (fold f) := by
  induction ks with
  | nil => simp only [foldL, List.map_nil]
  | cons k r ih => simp only [foldL, ih, List.map_cons]
theorem fold_eq (f : Tm → List α → α) (t : Tm) : fold f t = f t (t.ks.map (fold f)) := by
  cases t with
  | mk o a b s ks => simp only [fold, foldL_eq]; rfl
end Tm

def nada : ByteArray := ⟨#[]⟩
instance : Inhabited Tm := ⟨.mk 0 0 0 nada []⟩

/-! ### Numbers of few bits -/
/-- A bit vector. -/
def vok (w n : Int) : Bool := decide (1 ≤ w) && decide (w ≤ 4) && decide (0 ≤ n) && decide (n < 2 ^ w.toNat)
theorem vok_iff {w n : Int} : vok w n = true ↔ 1 ≤ w ∧ w ≤ 4 ∧ 0 ≤ n ∧ n < 2 ^ w.toNat := by simp [vok, and_assoc]
theorem two1 : (2 : Int) ^ (1 : Int).toNat = 2 := rfl
theorem two2 : (2 : Int) ^ (2 : Int).toNat = 4 := rfl
theorem two3 : (2 : Int) ^ (3 : Int).toNat = 8 := rfl
theorem two4 : (2 : Int) ^ (4 : Int).toNat = 16 := rfl
theorem four {w : Int} (h1 : 1 ≤ w) (h2 : w ≤ 4) : w = 1 ∨ w = 2 ∨ w = 3 ∨ w = 4 := by omega
theorem vok_lt {w n : Int} (h : vok w n = true) : 1 ≤ w ∧ w ≤ 4 ∧ 0 ≤ n ∧ n < 16 := by
  obtain ⟨h1, h2, h3, h4⟩ := vok_iff.1 h
  refine ⟨h1, h2, h3, ?_⟩
  rcases four h1 h2 with rfl | rfl | rfl | rfl <;> simp only [two1, two2, two3, two4] at h4 <;> omega

/-- What holds of all numbers of few bits. -/
theorem small1 {p : Nat → Nat → Prop} [∀ w n, Decidable (p w n)] (h : ∀ w : Fin 5, ∀ n : Fin 16, 1 ≤ w.1 → n.1 < 2 ^ w.1 → p w n) {w n : Int} (hv : vok w n = true) : p w.toNat n.toNat := by
  obtain ⟨h1, h2, h3, h4⟩ := vok_lt hv
  obtain ⟨_, _, _, h5⟩ := vok_iff.1 hv
  refine h ⟨w.toNat, by omega⟩ ⟨n.toNat, by omega⟩ (by show 1 ≤ w.toNat; omega) ?_
  show n.toNat < 2 ^ w.toNat
  have : ((2 ^ w.toNat : Nat) : Int) = 2 ^ w.toNat := by simp
  omega

/-- Operations on numbers. -/
def unM (op w a : Int) : Int := if op = 1 then 2 ^ w.toNat - 1 - a else (2 ^ w.toNat - a) % 2 ^ w.toNat
def binN (op w a b : Nat) : Nat :=
  if op = 3 then a &&& b
  else if op = 4 then a ||| b
  else if op = 5 then a ^^^ b
  else if op = 6 then (a + b) % 2 ^ w
  else if op = 7 then (a + 2 ^ w - b) % 2 ^ w
  else if op = 8 then a * b % 2 ^ w
  else if op = 9 then (if b = 0 then 2 ^ w - 1 else a / b)
  else if op = 10 then (if b = 0 then a else a % b)
  else if op = 11 then a * 2 ^ b % 2 ^ w
  else if op = 12 then a / 2 ^ b
  else if a < 2 ^ (w - 1) then a / 2 ^ b else 2 ^ w - 1 - (2 ^ w - 1 - a) / 2 ^ b
def binM (op w a b : Int) : Int := binN op.toNat w.toNat a.toNat b.toNat
def catM (v a b : Int) : Int := a * 2 ^ v.toNat + b
def sgn (w a : Int) : Int := if a < 2 ^ (w.toNat - 1) then a else a - 2 ^ w.toNat
def cmpM (op w a b : Int) : Bool := if op = 15 then decide (a = b) else if op = 16 then decide (a < b) else decide (sgn w a < sgn w b)
def cutM (a hi lo : Int) : Int := a / 2 ^ lo.toNat % 2 ^ (hi - lo + 1).toNat

theorem unM_ok {op w a : Int} (h : vok w a = true) : vok w (unM op w a) = true := by
  obtain ⟨h1, h2, h3, h4⟩ := vok_iff.1 h
  refine vok_iff.2 ⟨h1, h2, ?_⟩
  unfold unM
  rcases four h1 h2 with rfl | rfl | rfl | rfl <;> simp only [two1, two2, two3, two4] at h4 ⊢ <;> split <;> omega

/-- Two numbers of as many bits: all cases. -/
theorem small2 {p : Nat → Nat → Nat → Prop} [∀ w a b, Decidable (p w a b)] (h : ∀ w : Fin 5, ∀ a : Fin 16, ∀ b : Fin 16, 1 ≤ w.1 → a.1 < 2 ^ w.1 → b.1 < 2 ^ w.1 → p w a b) {w a b : Int} (ha : vok w a = true) (hb : vok w b = true) : p w.toNat a.toNat b.toNat := by
  obtain ⟨h1, h2, h3, h4⟩ := vok_lt ha
  obtain ⟨_, _, h3', h4'⟩ := vok_lt hb
  obtain ⟨_, _, _, h5⟩ := vok_iff.1 ha
  obtain ⟨_, _, _, h6⟩ := vok_iff.1 hb
  have : ((2 ^ w.toNat : Nat) : Int) = 2 ^ w.toNat := by simp
  refine h ⟨w.toNat, by omega⟩ ⟨a.toNat, by omega⟩ ⟨b.toNat, by omega⟩ (by show 1 ≤ w.toNat; omega) ?_ ?_
  · show a.toNat < 2 ^ w.toNat; omega
  · show b.toNat < 2 ^ w.toNat; omega

def binCk (op w : Nat) : Bool := (List.range 16).all fun a => (List.range 16).all fun b => !(decide (a < 2 ^ w) && decide (b < 2 ^ w)) || decide (binN op w a b < 2 ^ w)
theorem binN_lt {op w a b : Nat} (h3 : 3 ≤ op) (h : op ≤ 13) (hw : 1 ≤ w) (hw' : w ≤ 4) (ha : a < 2 ^ w) (hb : b < 2 ^ w) : binN op w a b < 2 ^ w := by
  have hall : ∀ o : Fin 14, ∀ v : Fin 5, 3 ≤ o.1 → 1 ≤ v.1 → binCk o v = true := by decide +kernel
  have h16 : 2 ^ w ≤ 2 ^ 4 := Nat.pow_le_pow_right (by omega) hw'
  have := hall ⟨op, by omega⟩ ⟨w, by omega⟩ h3 hw
  simp only [binCk, List.all_eq_true, List.mem_range, Bool.or_eq_true, Bool.not_eq_true', Bool.and_eq_false_iff, decide_eq_false_iff_not, decide_eq_true_eq] at this
  rcases this a (by omega) b (by omega) with (h | h) | h
  · exact absurd ha h
  · exact absurd hb h
  · exact h
theorem binM_ok {op w a b : Int} (h3 : 3 ≤ op) (h13 : op ≤ 13) (ha : vok w a = true) (hb : vok w b = true) : vok w (binM op w a b) = true := by
  obtain ⟨h1, h2, h4, h5⟩ := vok_iff.1 ha
  obtain ⟨_, _, h4', h5'⟩ := vok_iff.1 hb
  have e : ((2 ^ w.toNat : Nat) : Int) = 2 ^ w.toNat := by simp
  have := binN_lt (op := op.toNat) (w := w.toNat) (a := a.toNat) (b := b.toNat) (by omega) (by omega) (by omega) (by omega) (by omega) (by omega)
  refine vok_iff.2 ⟨h1, h2, by unfold binM; omega, ?_⟩
  unfold binM; omega
theorem cat_ok {v w a b : Int} (ha : vok w a = true) (hb : vok v b = true) (hs : w + v ≤ 4) : vok (w + v) (catM v a b) = true := by
  obtain ⟨h1, h2, h3, h4⟩ := vok_iff.1 ha
  obtain ⟨k1, k2, k3, k4⟩ := vok_iff.1 hb
  refine vok_iff.2 ⟨by omega, hs, ?_⟩
  unfold catM
  have e : (w + v).toNat = w.toNat + v.toNat := by omega
  rw [e, Int.pow_add]
  rcases four h1 h2 with rfl | rfl | rfl | rfl <;> rcases four k1 k2 with rfl | rfl | rfl | rfl <;> simp only [two1, two2, two3, two4] at h4 k4 ⊢ <;> omega
theorem cut_ok {w a hi lo : Int} (ha : vok w a = true) (hlo : 0 ≤ lo) (hh : lo ≤ hi) (hw : hi < w) : vok (hi - lo + 1) (cutM a hi lo) = true := by
  obtain ⟨h1, h2, h3, h4⟩ := vok_iff.1 ha
  refine vok_iff.2 ⟨by omega, by omega, ?_⟩
  unfold cutM
  have : (0 : Int) < 2 ^ (hi - lo + 1).toNat := Int.pow_pos (by omega)
  exact ⟨Int.emod_nonneg _ (by omega), Int.emod_lt_of_pos _ this⟩
theorem sgn_ok {w a : Int} (ha : vok w a = true) : -8 ≤ sgn w a ∧ sgn w a ≤ 7 := by
  obtain ⟨h1, h2, h3, h4⟩ := vok_iff.1 ha
  unfold sgn
  rcases four h1 h2 with rfl | rfl | rfl | rfl <;> simp only [two1, two2, two3, two4] at h4 ⊢ <;> (split <;> rename_i hq <;> simp at hq <;> omega)

/-! ### What the operations answer -/
def vecUn (op w n : Int) : (Int × Int) × Bool := if vok w n = true ∧ (op = 1 ∨ op = 2) then ((w, unM op w n), true) else ((0, 0), false)
def vecBin (op w n v m : Int) : (Int × Int) × Bool :=
  if vok w n = true ∧ vok v m = true then
    if op = 14 then (if w + v ≤ 4 then ((w + v, catM v n m), true) else ((0, 0), false))
    else if 3 ≤ op ∧ op ≤ 13 ∧ w = v then ((w, binM op w n m), true) else ((0, 0), false)
  else ((0, 0), false)
def vecCmp (op w n v m : Int) : Bool × Bool :=
  if vok w n = true ∧ vok v m = true ∧ w = v ∧ 15 ≤ op ∧ op ≤ 17 then (cmpM op w n m, true) else (false, false)
def vecCut (w n hi lo : Int) : (Int × Int) × Bool := if vok w n = true ∧ 0 ≤ lo ∧ lo ≤ hi ∧ hi < w then ((hi - lo + 1, cutM n hi lo), true) else ((0, 0), false)
/-- A right number, as two natural ones. -/
theorem vok_nat {w n : Int} (h : vok w n = true) : ∃ k a : Nat, w = k ∧ n = a ∧ 1 ≤ k ∧ k ≤ 4 ∧ a < 2 ^ k := by
  obtain ⟨h1, h2, h3, h4⟩ := vok_iff.1 h
  refine ⟨w.toNat, n.toNat, by omega, by omega, by omega, by omega, ?_⟩
  have : ((2 ^ w.toNat : Nat) : Int) = 2 ^ w.toNat := by simp
  omega
theorem vok_of {k a : Nat} (h1 : 1 ≤ k) (h2 : k ≤ 4) (h : a < 2 ^ k) : vok k a = true := by
  refine vok_iff.2 ⟨by omega, by omega, by omega, ?_⟩
  have : ((2 ^ k : Nat) : Int) = 2 ^ k := by simp
  rw [Int.toNat_natCast]
  omega
theorem unM_not {k a : Nat} (h1 : 1 ≤ k) (h2 : k ≤ 4) (h : a < 2 ^ k) : unM 1 k a = ((18446744073709551615 - a) % 2 ^ k : Nat) := by
  have hall : ∀ v : Fin 5, ∀ x : Fin 16, 1 ≤ v.1 → x.1 < 2 ^ v.1 → unM 1 v.1 x.1 = ((18446744073709551615 - x.1) % 2 ^ v.1 : Nat) := by decide +kernel
  have : 2 ^ k ≤ 2 ^ 4 := Nat.pow_le_pow_right (by omega) h2
  exact hall ⟨k, by omega⟩ ⟨a, by omega⟩ h1 h
theorem unM_neg {k a : Nat} (h1 : 1 ≤ k) (h2 : k ≤ 4) (h : a < 2 ^ k) : unM 2 k a = ((if a = 0 then 0 else 18446744073709551616 - a) % 2 ^ k : Nat) := by
  have hall : ∀ v : Fin 5, ∀ x : Fin 16, 1 ≤ v.1 → x.1 < 2 ^ v.1 → unM 2 v.1 x.1 = ((if x.1 = 0 then 0 else 18446744073709551616 - x.1) % 2 ^ v.1 : Nat) := by decide +kernel
  have : 2 ^ k ≤ 2 ^ 4 := Nat.pow_le_pow_right (by omega) h2
  exact hall ⟨k, by omega⟩ ⟨a, by omega⟩ h1 h
theorem cat_or {k v a b : Nat} (h2 : v ≤ 4) (hk : k ≤ 4) (ha : a < 2 ^ k) (hb : b < 2 ^ v) : ((a * 2 ^ v ||| b : Nat) : Int) = catM v a b := by
  have hall : ∀ v : Fin 5, ∀ x y : Fin 16, y.1 < 2 ^ v.1 → x.1 * 2 ^ v.1 ||| y.1 = x.1 * 2 ^ v.1 + y.1 := by decide +kernel
  have h4 : 2 ^ k ≤ 2 ^ 4 := Nat.pow_le_pow_right (by omega) hk
  have h5 : 2 ^ v ≤ 2 ^ 4 := Nat.pow_le_pow_right (by omega) h2
  have := hall ⟨v, by omega⟩ ⟨a, by omega⟩ ⟨b, by omega⟩ hb
  simp only at this
  rw [this]
  simp [catM]
end Go.M
