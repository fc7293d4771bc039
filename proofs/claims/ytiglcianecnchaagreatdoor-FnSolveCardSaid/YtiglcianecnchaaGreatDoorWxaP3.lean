import Derived.Test.YtiglcianecnchaaGreatDoorRows
import Derived.Test.YtiglcianecnchaaGreatDoorWxaP2
/- A part of the proof. -/
set_option linter.all false
set_option maxRecDepth 9999
set_option maxHeartbeats 2000000
noncomputable section
section
namespace Go.Proofs.YtiglcianecnchaaGreatDoor.fnSolve
open Go Go.Vc Go.Proofs
open Go.ChangeShapes Go.WideShapes Go.ChangeAt Go.RowKit
theorem f_inPlace:(Rows.fnSolveRow.inPlace==Tryz.prog.inPlace 6)=true:=rK
theorem f_unfollowed:(Rows.fnSolveRow.unfollowed==Tryz.prog.unfollowed 6)=true:=rK
theorem f_recurses:(Rows.fnSolveRow.recurses==Tryz.prog.recurses 6)=true:=rK
theorem f_named:(Rows.fnSolveRow.named==Tryz.prog.varsNamed 6)=true:=rK
theorem f_rest:restFacts Tryz.prog 6 Tryz.f6 Rows.fnSolveSpec Rows.fnSolveRow=true:=rK
end Go.Proofs.YtiglcianecnchaaGreatDoor.fnSolve
end
end
