import Derived.Test.YtfjlkobhagjdaaaGreatDoorRows
import Derived.Test.YtfjlkobhagjdaaaGreatDoorWzcP2
/- A part of the proof. -/
set_option linter.all false
set_option maxRecDepth 9999
set_option maxHeartbeats 2000000
noncomputable section
section
namespace Go.Proofs.YtfjlkobhagjdaaaGreatDoor.fnSolveLeast
open Go Go.Vc Go.Proofs
open Go.ChangeShapes Go.WideShapes Go.ChangeAt Go.RowKit
theorem f_inPlace:(Rows.fnSolveLeastRow.inPlace==Tryz.prog.inPlace 4)=true:=rK
theorem f_unfollowed:(Rows.fnSolveLeastRow.unfollowed==Tryz.prog.unfollowed 4)=true:=rK
theorem f_recurses:(Rows.fnSolveLeastRow.recurses==Tryz.prog.recurses 4)=true:=rK
theorem f_named:(Rows.fnSolveLeastRow.named==Tryz.prog.varsNamed 4)=true:=rK
theorem f_rest:restFacts Tryz.prog 4 Tryz.f4 Rows.fnSolveLeastSpec Rows.fnSolveLeastRow=true:=rK
end Go.Proofs.YtfjlkobhagjdaaaGreatDoor.fnSolveLeast
end
end
