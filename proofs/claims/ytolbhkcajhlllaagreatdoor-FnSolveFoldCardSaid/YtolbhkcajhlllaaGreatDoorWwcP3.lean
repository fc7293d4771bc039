import Derived.Test.YtolbhkcajhlllaaGreatDoorRows
import Derived.Test.YtolbhkcajhlllaaGreatDoorWwcP2
/- A part of the proof. -/
set_option linter.all false
set_option maxRecDepth 9999
set_option maxHeartbeats 2000000
noncomputable section
section
namespace Go.Proofs.YtolbhkcajhlllaaGreatDoor.fnSolveFold
open Go Go.Vc Go.Proofs
open Go.ChangeShapes Go.WideShapes Go.ChangeAt Go.RowKit
theorem f_inPlace:(Rows.fnSolveFoldRow.inPlace==Tryz.prog.inPlace 5)=true:=rK
theorem f_unfollowed:(Rows.fnSolveFoldRow.unfollowed==Tryz.prog.unfollowed 5)=true:=rK
theorem f_recurses:(Rows.fnSolveFoldRow.recurses==Tryz.prog.recurses 5)=true:=rK
theorem f_named:(Rows.fnSolveFoldRow.named==Tryz.prog.varsNamed 5)=true:=rK
theorem f_rest:restFacts Tryz.prog 5 Tryz.f5 Rows.fnSolveFoldSpec Rows.fnSolveFoldRow=true:=rK
end Go.Proofs.YtolbhkcajhlllaaGreatDoor.fnSolveFold
end
end
