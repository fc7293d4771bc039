import Derived.Test.YtiglcianecnchaaGreatDoorRows
import Derived.Test.YtiglcianecnchaaGreatDoorWxbP2
/- A part of the proof. -/
set_option linter.all false
set_option maxRecDepth 9999
set_option maxHeartbeats 2000000
noncomputable section
section
namespace Go.Proofs.YtiglcianecnchaaGreatDoor.fnSolveTurn
open Go Go.Vc Go.Proofs
open Go.ChangeShapes Go.WideShapes Go.ChangeAt Go.RowKit
theorem f_inPlace:(Rows.fnSolveTurnRow.inPlace==Tryz.prog.inPlace 4)=true:=rK
theorem f_unfollowed:(Rows.fnSolveTurnRow.unfollowed==Tryz.prog.unfollowed 4)=true:=rK
theorem f_recurses:(Rows.fnSolveTurnRow.recurses==Tryz.prog.recurses 4)=true:=rK
theorem f_named:(Rows.fnSolveTurnRow.named==Tryz.prog.varsNamed 4)=true:=rK
theorem f_rest:restFacts Tryz.prog 4 Tryz.f4 Rows.fnSolveTurnSpec Rows.fnSolveTurnRow=true:=rK
end Go.Proofs.YtiglcianecnchaaGreatDoor.fnSolveTurn
end
end
