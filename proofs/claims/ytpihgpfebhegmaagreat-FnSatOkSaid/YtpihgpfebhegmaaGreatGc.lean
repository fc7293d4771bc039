/- The law FnSatTurn: the order of clauses does not change the answer. -/
import Derived.Test.YtpihgpfebhegmaaGreatGb
import Derived.Test.YtpihgpfebhegmaaGreatM11
set_option linter.unusedVariables false
set_option linter.unusedSimpArgs false
set_option linter.unnecessarySimpa false
set_option linter.unusedSectionVars false
namespace Go.Proofs.YtpihgpfebhegmaaGreat
open Go Go.Vc Go.Proofs Go.M
variable {w : World} {K : Value → World → Prop} {F Fr F' : Nat → Prop} {c : Cnf} {s : Sat}
theorem cnfOk_iff : cnfOk c = true ↔ 0 ≤ c.many ∧ c.many ≤ 700 ∧ c.list.length ≤ 2500 ∧ ∀ x, x ∈ c.list → clauseOk c.many x = true := by
  constructor
  · intro h
    have h2 := fun x hx => cnfOk_clause h (x := x) hx
    unfold cnfOk at h
    simp only [Bool.and_eq_true, decide_eq_true_eq] at h
    exact ⟨h.1.1.1, h.1.1.2, h.1.2, h2⟩
  · rintro ⟨a, b, d, e⟩
    unfold cnfOk
    simp only [Bool.and_eq_true, decide_eq_true_eq]
    exact ⟨⟨⟨a, b⟩, d⟩, allI_iff.2 fun k hk => e _ (by rw [List.getD_eq_getElem?_getD, List.getElem?_eq_getElem hk]; exact List.getElem_mem hk)⟩
theorem runA_fair (hok : cnfOk c = true) (n : Nat) : FairS c.many.toNat c (runM c.many.toNat c n emptyS) := run_fair (cnfOk_many hok) (empty_fair hok)
theorem valsM_way {many : Nat} {a b : List Int} (h : ∀ u, 1 ≤ u → u ≤ many → wayM a u = wayM b u) : valsM many a = valsM many b := by
  unfold valsM
  refine List.map_congr_left fun j hj => ?_
  rw [List.mem_range] at hj
  exact h (j + 1) (by omega) (by omega)
theorem least_eq {many : Nat} {c d : Cnf} {a b : Nat → Bool} (hcd : ∀ x, x ∈ c.list ↔ x ∈ d.list) (ha : Least many c a) (hb : Least many d b) : ∀ u, 1 ≤ u → u ≤ many → a u = b u :=
  LexLe.antisymm (ha.2 b fun x hx => hb.1 x ((hcd x).1 hx)) (hb.2 a fun x hx => ha.1 x ((hcd x).2 hx))
theorem run_eqb (x y : Bool) : (Op.equal T_bool (.bool x) (.bool y)).run PP w = .ok (x == y) w := by
  have hu : PP.underlying T_bool = some .bool := by kernel_rfl
  have : ∀ d, (Op.equalIn (d + 1) T_bool (.bool x) (.bool y)).run PP w = .ok (x == y) w := fun d => by
    rw [Op.equalIn, Sem.run_bind, run_underlying hu]; rfl
  exact this 9999
@[push_cast] theorem vbin_neb (b : Bool) (x y : Bool) : vbin PP .neq T_bool b (.bool x) (.bool y) w K = K (.bool (x != y)) w :=
  vbin_run rfl (by simp [binOp, run_eqb, Result.andThen, bne])
theorem wpBools_spec {va vb : Value} {a b : List Bool} (ha : Bools F w va a) (hb : Bools F' w vb b) (hK : ∀ w', Ext w w' → K (.bool (decide (a = b))) w') : vcall PP n_laws_wpBools #[va, vb] w K := by
  apply c_laws_wpBools; unfold F_laws_wpBools
  have hla : a.length ≤ 9223372036854775807 := by obtain ⟨_, _, _, h1, h2, _⟩ := ha.shape; simp at h1; omega
  simp (disch := (simp only [push_cast]; done)) only [push_cast, ha.len, hb.len]
  refine vif_dec (fun h => ?_) (fun h => ?_)
  · have := hK w (Same.refl _ _)
    rwa [decide_eq_false (fun e => h (by rw [e]))] at this
  refine vloop_up a.length (fun i u w' => u = [.int .i64 i] ∧ Ext w w' ∧ ∀ j, j < i → a.getD j false = b.getD j false) ⟨rfl, Same.refl _ _, by omega⟩ ?_
  rintro i _ _ w1 C hi ⟨rfl, he, hp⟩ hC
  have ha1 := ha.ext he
  have hb1 := hb.ext he
  simp (disch := (simp only [push_cast]; done)) only [push_cast, ha1.len]
  refine vif_dec (fun h2 => ?_) (fun h2 => ?_)
  · refine vdraw_ext fun w2 he2 _ => ?_
    have ha2 := ha1.ext he2
    have hb2 := hb1.ext he2
    simp (disch := first | (simp only [push_cast]; done) | omega) only [push_cast, ha2.iaddr, ha2.load, hb2.iaddr, hb2.load, true_and]
    refine vif_bool (fun h3 => ?_) (fun h3 => ?_)
    · have := hK w2 (he.trans he2)
      rwa [decide_eq_false (fun e => by subst e; simp at h3)] at this
    · rw [inc64 (by omega)]
      refine hC (by omega) _ _ ⟨rfl, he.trans he2, fun j hj => ?_⟩
      by_cases e : j = i
      · subst e; simpa using h3
      · exact hp j (by omega)
  · have := hK w1 he
    have e : a = b := List.ext_getElem (by omega) fun j h1 h2 => by have := hp j (by omega); simpa [List.getD_eq_getElem?_getD, h1, h2] using this
    rwa [decide_eq_true e] at this
end Go.Proofs.YtpihgpfebhegmaaGreat
