import Derived.Test.YtjkkiaacmedfdaaGreatDoorRows
import Derived.Test.YtjkkiaacmedfdaaGreatDoorWycP2
/- A part of the proof. -/
set_option linter.all false
set_option maxRecDepth 9999
set_option maxHeartbeats 2000000
noncomputable section
section
namespace Go.Proofs.YtjkkiaacmedfdaaGreatDoor.fnSolveFixed
open Go Go.Vc Go.Proofs
open Go.ChangeShapes Go.WideShapes Go.ChangeAt Go.RowKit
theorem f_inPlace:(Rows.fnSolveFixedRow.inPlace==Tryz.prog.inPlace 5)=true:=rK
theorem f_unfollowed:(Rows.fnSolveFixedRow.unfollowed==Tryz.prog.unfollowed 5)=true:=rK
theorem f_recurses:(Rows.fnSolveFixedRow.recurses==Tryz.prog.recurses 5)=true:=rK
theorem f_named:(Rows.fnSolveFixedRow.named==Tryz.prog.varsNamed 5)=true:=rK
theorem f_rest:restFacts Tryz.prog 5 Tryz.f5 Rows.fnSolveFixedSpec Rows.fnSolveFixedRow=true:=rK
end Go.Proofs.YtjkkiaacmedfdaaGreatDoor.fnSolveFixed
end
end
