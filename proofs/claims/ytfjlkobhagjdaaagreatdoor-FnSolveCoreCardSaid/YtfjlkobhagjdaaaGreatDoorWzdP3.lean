import Derived.Test.YtfjlkobhagjdaaaGreatDoorRows
import Derived.Test.YtfjlkobhagjdaaaGreatDoorWzdP2
/- A part of the proof. -/
set_option linter.all false
set_option maxRecDepth 9999
set_option maxHeartbeats 2000000
noncomputable section
section
namespace Go.Proofs.YtfjlkobhagjdaaaGreatDoor.fnSolveCore
open Go Go.Vc Go.Proofs
open Go.ChangeShapes Go.WideShapes Go.ChangeAt Go.RowKit
theorem f_inPlace:(Rows.fnSolveCoreRow.inPlace==Tryz.prog.inPlace 6)=true:=rK
theorem f_unfollowed:(Rows.fnSolveCoreRow.unfollowed==Tryz.prog.unfollowed 6)=true:=rK
theorem f_recurses:(Rows.fnSolveCoreRow.recurses==Tryz.prog.recurses 6)=true:=rK
theorem f_named:(Rows.fnSolveCoreRow.named==Tryz.prog.varsNamed 6)=true:=rK
theorem f_rest:restFacts Tryz.prog 6 Tryz.f6 Rows.fnSolveCoreSpec Rows.fnSolveCoreRow=true:=rK
end Go.Proofs.YtfjlkobhagjdaaaGreatDoor.fnSolveCore
end
end
