import Derived.Test.YtiglcianecnchaaGreatDoorRows
import Derived.Test.YtiglcianecnchaaGreatDoorWxdP2
/- A part of the proof. -/
set_option linter.all false
set_option maxRecDepth 9999
set_option maxHeartbeats 2000000
noncomputable section
section
namespace Go.Proofs.YtiglcianecnchaaGreatDoor.fnSolveMore
open Go Go.Vc Go.Proofs
open Go.ChangeShapes Go.WideShapes Go.ChangeAt Go.RowKit
theorem f_inPlace:(Rows.fnSolveMoreRow.inPlace==Tryz.prog.inPlace 5)=true:=rK
theorem f_unfollowed:(Rows.fnSolveMoreRow.unfollowed==Tryz.prog.unfollowed 5)=true:=rK
theorem f_recurses:(Rows.fnSolveMoreRow.recurses==Tryz.prog.recurses 5)=true:=rK
theorem f_named:(Rows.fnSolveMoreRow.named==Tryz.prog.varsNamed 5)=true:=rK
theorem f_rest:restFacts Tryz.prog 5 Tryz.f5 Rows.fnSolveMoreSpec Rows.fnSolveMoreRow=true:=rK
end Go.Proofs.YtiglcianecnchaaGreatDoor.fnSolveMore
end
end
