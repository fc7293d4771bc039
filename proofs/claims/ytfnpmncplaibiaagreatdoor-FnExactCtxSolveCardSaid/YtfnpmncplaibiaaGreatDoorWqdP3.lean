import Derived.Test.YtfnpmncplaibiaaGreatDoorRows
import Derived.Test.YtfnpmncplaibiaaGreatDoorWqdP2
/- A part of the proof. -/
set_option linter.all false
set_option maxRecDepth 9999
set_option maxHeartbeats 2000000
noncomputable section
section
namespace Go.Proofs.YtfnpmncplaibiaaGreatDoor.fnExactCtxSolve
open Go Go.Vc Go.Proofs
open Go.ChangeShapes Go.WideShapes Go.ChangeAt Go.RowKit
theorem f_inPlace:(Rows.fnExactCtxSolveRow.inPlace==Tryz.prog.inPlace 6)=true:=rK
theorem f_unfollowed:(Rows.fnExactCtxSolveRow.unfollowed==Tryz.prog.unfollowed 6)=true:=rK
theorem f_recurses:(Rows.fnExactCtxSolveRow.recurses==Tryz.prog.recurses 6)=true:=rK
theorem f_named:(Rows.fnExactCtxSolveRow.named==Tryz.prog.varsNamed 6)=true:=rK
theorem f_rest:restFacts Tryz.prog 6 Tryz.f6 Rows.fnExactCtxSolveSpec Rows.fnExactCtxSolveRow=true:=rK
end Go.Proofs.YtfnpmncplaibiaaGreatDoor.fnExactCtxSolve
end
end
