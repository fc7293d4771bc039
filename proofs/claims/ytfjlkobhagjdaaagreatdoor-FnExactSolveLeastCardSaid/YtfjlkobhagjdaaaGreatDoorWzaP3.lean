import Derived.Test.YtfjlkobhagjdaaaGreatDoorRows
import Derived.Test.YtfjlkobhagjdaaaGreatDoorWzaP2
/- A part of the proof. -/
set_option linter.all false
set_option maxRecDepth 9999
set_option maxHeartbeats 2000000
noncomputable section
section
namespace Go.Proofs.YtfjlkobhagjdaaaGreatDoor.fnExactSolveLeast
open Go Go.Vc Go.Proofs
open Go.ChangeShapes Go.WideShapes Go.ChangeAt Go.RowKit
theorem f_inPlace:(Rows.fnExactSolveLeastRow.inPlace==Tryz.prog.inPlace 3)=true:=rK
theorem f_unfollowed:(Rows.fnExactSolveLeastRow.unfollowed==Tryz.prog.unfollowed 3)=true:=rK
theorem f_recurses:(Rows.fnExactSolveLeastRow.recurses==Tryz.prog.recurses 3)=true:=rK
theorem f_named:(Rows.fnExactSolveLeastRow.named==Tryz.prog.varsNamed 3)=true:=rK
theorem f_rest:restFacts Tryz.prog 3 Tryz.f3 Rows.fnExactSolveLeastSpec Rows.fnExactSolveLeastRow=true:=rK
end Go.Proofs.YtfjlkobhagjdaaaGreatDoor.fnExactSolveLeast
end
end
