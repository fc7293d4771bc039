import Derived.Test.YtfnpmncplaibiaaGreatDoorRows
import Derived.Test.YtfnpmncplaibiaaGreatDoorWqbP2
/- A part of the proof. -/
set_option linter.all false
set_option maxRecDepth 9999
set_option maxHeartbeats 2000000
noncomputable section
section
namespace Go.Proofs.YtfnpmncplaibiaaGreatDoor.fnExactSolveWays
open Go Go.Vc Go.Proofs
open Go.ChangeShapes Go.WideShapes Go.ChangeAt Go.RowKit
theorem f_inPlace:(Rows.fnExactSolveWaysRow.inPlace==Tryz.prog.inPlace 3)=true:=rK
theorem f_unfollowed:(Rows.fnExactSolveWaysRow.unfollowed==Tryz.prog.unfollowed 3)=true:=rK
theorem f_recurses:(Rows.fnExactSolveWaysRow.recurses==Tryz.prog.recurses 3)=true:=rK
theorem f_named:(Rows.fnExactSolveWaysRow.named==Tryz.prog.varsNamed 3)=true:=rK
theorem f_rest:restFacts Tryz.prog 3 Tryz.f3 Rows.fnExactSolveWaysSpec Rows.fnExactSolveWaysRow=true:=rK
end Go.Proofs.YtfnpmncplaibiaaGreatDoor.fnExactSolveWays
end
end
