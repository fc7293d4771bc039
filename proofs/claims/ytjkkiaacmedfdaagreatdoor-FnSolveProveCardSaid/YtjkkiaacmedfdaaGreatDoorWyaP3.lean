import Derived.Test.YtjkkiaacmedfdaaGreatDoorRows
import Derived.Test.YtjkkiaacmedfdaaGreatDoorWyaP2
/- A part of the proof. -/
set_option linter.all false
set_option maxRecDepth 9999
set_option maxHeartbeats 2000000
noncomputable section
section
namespace Go.Proofs.YtjkkiaacmedfdaaGreatDoor.fnSolveProve
open Go Go.Vc Go.Proofs
open Go.ChangeShapes Go.WideShapes Go.ChangeAt Go.RowKit
theorem f_inPlace:(Rows.fnSolveProveRow.inPlace==Tryz.prog.inPlace 6)=true:=rK
theorem f_unfollowed:(Rows.fnSolveProveRow.unfollowed==Tryz.prog.unfollowed 6)=true:=rK
theorem f_recurses:(Rows.fnSolveProveRow.recurses==Tryz.prog.recurses 6)=true:=rK
theorem f_named:(Rows.fnSolveProveRow.named==Tryz.prog.varsNamed 6)=true:=rK
theorem f_rest:restFacts Tryz.prog 6 Tryz.f6 Rows.fnSolveProveSpec Rows.fnSolveProveRow=true:=rK
end Go.Proofs.YtjkkiaacmedfdaaGreatDoor.fnSolveProve
end
end
