import Derived.Test.YtfnpmncplaibiaaGreatDoorRows
import Derived.Test.YtfnpmncplaibiaaGreatDoorWqcP2
/- A part of the proof. -/
set_option linter.all false
set_option maxRecDepth 9999
set_option maxHeartbeats 2000000
noncomputable section
section
namespace Go.Proofs.YtfnpmncplaibiaaGreatDoor.fnCtxSolve
open Go Go.Vc Go.Proofs
open Go.ChangeShapes Go.WideShapes Go.ChangeAt Go.RowKit
theorem f_inPlace:(Rows.fnCtxSolveRow.inPlace==Tryz.prog.inPlace 5)=true:=rK
theorem f_unfollowed:(Rows.fnCtxSolveRow.unfollowed==Tryz.prog.unfollowed 5)=true:=rK
theorem f_recurses:(Rows.fnCtxSolveRow.recurses==Tryz.prog.recurses 5)=true:=rK
theorem f_named:(Rows.fnCtxSolveRow.named==Tryz.prog.varsNamed 5)=true:=rK
theorem f_rest:restFacts Tryz.prog 5 Tryz.f5 Rows.fnCtxSolveSpec Rows.fnCtxSolveRow=true:=rK
end Go.Proofs.YtfnpmncplaibiaaGreatDoor.fnCtxSolve
end
end
