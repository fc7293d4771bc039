import Derived.Test.YtjkkiaacmedfdaaGreatDoorRows
import Derived.Test.YtjkkiaacmedfdaaGreatDoorWybP2
/- A part of the proof. -/
set_option linter.all false
set_option maxRecDepth 9999
set_option maxHeartbeats 2000000
noncomputable section
section
namespace Go.Proofs.YtjkkiaacmedfdaaGreatDoor.fnSolveCase
open Go Go.Vc Go.Proofs
open Go.ChangeShapes Go.WideShapes Go.ChangeAt Go.RowKit
theorem f_inPlace:(Rows.fnSolveCaseRow.inPlace==Tryz.prog.inPlace 3)=true:=rK
theorem f_unfollowed:(Rows.fnSolveCaseRow.unfollowed==Tryz.prog.unfollowed 3)=true:=rK
theorem f_recurses:(Rows.fnSolveCaseRow.recurses==Tryz.prog.recurses 3)=true:=rK
theorem f_named:(Rows.fnSolveCaseRow.named==Tryz.prog.varsNamed 3)=true:=rK
theorem f_rest:restFacts Tryz.prog 3 Tryz.f3 Rows.fnSolveCaseSpec Rows.fnSolveCaseRow=true:=rK
end Go.Proofs.YtjkkiaacmedfdaaGreatDoor.fnSolveCase
end
end
