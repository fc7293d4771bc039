import Derived.Test.YtolbhkcajhlllaaGreatDoorRows
import Derived.Test.YtolbhkcajhlllaaGreatDoorWwbP2
/- A part of the proof. -/
set_option linter.all false
set_option maxRecDepth 9999
set_option maxHeartbeats 2000000
noncomputable section
section
namespace Go.Proofs.YtolbhkcajhlllaaGreatDoor.fnExactSolveProve
open Go Go.Vc Go.Proofs
open Go.ChangeShapes Go.WideShapes Go.ChangeAt Go.RowKit
theorem f_inPlace:(Rows.fnExactSolveProveRow.inPlace==Tryz.prog.inPlace 4)=true:=rK
theorem f_unfollowed:(Rows.fnExactSolveProveRow.unfollowed==Tryz.prog.unfollowed 4)=true:=rK
theorem f_recurses:(Rows.fnExactSolveProveRow.recurses==Tryz.prog.recurses 4)=true:=rK
theorem f_named:(Rows.fnExactSolveProveRow.named==Tryz.prog.varsNamed 4)=true:=rK
theorem f_rest:restFacts Tryz.prog 4 Tryz.f4 Rows.fnExactSolveProveSpec Rows.fnExactSolveProveRow=true:=rK
end Go.Proofs.YtolbhkcajhlllaaGreatDoor.fnExactSolveProve
end
end
