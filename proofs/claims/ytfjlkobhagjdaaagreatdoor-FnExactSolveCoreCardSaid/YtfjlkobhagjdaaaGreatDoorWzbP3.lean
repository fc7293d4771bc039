import Derived.Test.YtfjlkobhagjdaaaGreatDoorRows
import Derived.Test.YtfjlkobhagjdaaaGreatDoorWzbP2
/- A part of the proof. -/
set_option linter.all false
set_option maxRecDepth 9999
set_option maxHeartbeats 2000000
noncomputable section
section
namespace Go.Proofs.YtfjlkobhagjdaaaGreatDoor.fnExactSolveCore
open Go Go.Vc Go.Proofs
open Go.ChangeShapes Go.WideShapes Go.ChangeAt Go.RowKit
theorem f_inPlace:(Rows.fnExactSolveCoreRow.inPlace==Tryz.prog.inPlace 5)=true:=rK
theorem f_unfollowed:(Rows.fnExactSolveCoreRow.unfollowed==Tryz.prog.unfollowed 5)=true:=rK
theorem f_recurses:(Rows.fnExactSolveCoreRow.recurses==Tryz.prog.recurses 5)=true:=rK
theorem f_named:(Rows.fnExactSolveCoreRow.named==Tryz.prog.varsNamed 5)=true:=rK
theorem f_rest:restFacts Tryz.prog 5 Tryz.f5 Rows.fnExactSolveCoreSpec Rows.fnExactSolveCoreRow=true:=rK
end Go.Proofs.YtfjlkobhagjdaaaGreatDoor.fnExactSolveCore
end
end
