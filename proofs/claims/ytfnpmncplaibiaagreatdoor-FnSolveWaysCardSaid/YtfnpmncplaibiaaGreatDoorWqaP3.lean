import Derived.Test.YtfnpmncplaibiaaGreatDoorRows
import Derived.Test.YtfnpmncplaibiaaGreatDoorWqaP2
/- A part of the proof. -/
set_option linter.all false
set_option maxRecDepth 9999
set_option maxHeartbeats 2000000
noncomputable section
section
namespace Go.Proofs.YtfnpmncplaibiaaGreatDoor.fnSolveWays
open Go Go.Vc Go.Proofs
open Go.ChangeShapes Go.WideShapes Go.ChangeAt Go.RowKit
theorem f_inPlace:(Rows.fnSolveWaysRow.inPlace==Tryz.prog.inPlace 4)=true:=rK
theorem f_unfollowed:(Rows.fnSolveWaysRow.unfollowed==Tryz.prog.unfollowed 4)=true:=rK
theorem f_recurses:(Rows.fnSolveWaysRow.recurses==Tryz.prog.recurses 4)=true:=rK
theorem f_named:(Rows.fnSolveWaysRow.named==Tryz.prog.varsNamed 4)=true:=rK
theorem f_rest:restFacts Tryz.prog 4 Tryz.f4 Rows.fnSolveWaysSpec Rows.fnSolveWaysRow=true:=rK
end Go.Proofs.YtfnpmncplaibiaaGreatDoor.fnSolveWays
end
end
