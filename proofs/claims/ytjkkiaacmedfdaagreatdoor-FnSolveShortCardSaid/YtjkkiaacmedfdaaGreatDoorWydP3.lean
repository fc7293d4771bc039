import Derived.Test.YtjkkiaacmedfdaaGreatDoorRows
import Derived.Test.YtjkkiaacmedfdaaGreatDoorWydP2
/- A part of the proof. -/
set_option linter.all false
set_option maxRecDepth 9999
set_option maxHeartbeats 2000000
noncomputable section
section
namespace Go.Proofs.YtjkkiaacmedfdaaGreatDoor.fnSolveShort
open Go Go.Vc Go.Proofs
open Go.ChangeShapes Go.WideShapes Go.ChangeAt Go.RowKit
theorem f_inPlace:(Rows.fnSolveShortRow.inPlace==Tryz.prog.inPlace 4)=true:=rK
theorem f_unfollowed:(Rows.fnSolveShortRow.unfollowed==Tryz.prog.unfollowed 4)=true:=rK
theorem f_recurses:(Rows.fnSolveShortRow.recurses==Tryz.prog.recurses 4)=true:=rK
theorem f_named:(Rows.fnSolveShortRow.named==Tryz.prog.varsNamed 4)=true:=rK
theorem f_rest:restFacts Tryz.prog 4 Tryz.f4 Rows.fnSolveShortSpec Rows.fnSolveShortRow=true:=rK
end Go.Proofs.YtjkkiaacmedfdaaGreatDoor.fnSolveShort
end
end
