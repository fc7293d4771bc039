import Derived.Test.YtiglcianecnchaaGreatDoorRows
import Derived.Test.YtiglcianecnchaaGreatDoorWxcP2
/- A part of the proof. -/
set_option linter.all false
set_option maxRecDepth 9999
set_option maxHeartbeats 2000000
noncomputable section
section
namespace Go.Proofs.YtiglcianecnchaaGreatDoor.fnSolveBoth
open Go Go.Vc Go.Proofs
open Go.ChangeShapes Go.WideShapes Go.ChangeAt Go.RowKit
theorem f_inPlace:(Rows.fnSolveBothRow.inPlace==Tryz.prog.inPlace 3)=true:=rK
theorem f_unfollowed:(Rows.fnSolveBothRow.unfollowed==Tryz.prog.unfollowed 3)=true:=rK
theorem f_recurses:(Rows.fnSolveBothRow.recurses==Tryz.prog.recurses 3)=true:=rK
theorem f_named:(Rows.fnSolveBothRow.named==Tryz.prog.varsNamed 3)=true:=rK
theorem f_rest:restFacts Tryz.prog 3 Tryz.f3 Rows.fnSolveBothSpec Rows.fnSolveBothRow=true:=rK
end Go.Proofs.YtiglcianecnchaaGreatDoor.fnSolveBoth
end
end
