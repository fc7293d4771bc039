/- The law FnSatRun: a search is its steps in order. -/
import Derived.Test.YtpihgpfebhegmaaGreatDb
set_option linter.unusedVariables false
set_option linter.unusedSimpArgs false
set_option linter.unnecessarySimpa false
set_option linter.unusedSectionVars false
namespace Go.Proofs.YtpihgpfebhegmaaGreat
open Go Go.Vc Go.Proofs Go.M
variable {w : World} {K : Value → World → Prop} {F Fr F' : Nat → Prop} {c : Cnf} {s : Sat}
/-- What SatRun answers. -/
def runA (c : Cnf) (fuel : Int) : Sat := if cnfOk c = true ∧ 0 ≤ fuel ∧ fuel ≤ 4000 then runM c.many.toNat c fuel.toNat emptyS else formS
theorem runA_no {fuel : Int} (h : ¬ (cnfOk c = true ∧ 0 ≤ fuel ∧ fuel ≤ 4000)) : runA c fuel = formS := if_neg h
theorem cnfOk_many (h : cnfOk c = true) : c.many = (c.many.toNat : Int) := by
  unfold cnfOk at h
  simp only [Bool.and_eq_true, decide_eq_true_eq] at h
  omega
theorem runA_step {n : Nat} (hok : cnfOk c = true) : satOk c.many.toNat c (runM c.many.toNat c n emptyS) := run_ok (cnfOk_many hok) (empty_ok hok)
theorem satEq_self (s : Sat) : satEq s s = true := satEq_iff.2 rfl
end Go.Proofs.YtpihgpfebhegmaaGreat
