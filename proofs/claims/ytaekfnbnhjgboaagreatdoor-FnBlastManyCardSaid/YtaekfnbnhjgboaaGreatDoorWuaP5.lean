import Derived.Test.YtaekfnbnhjgboaaGreatDoorWuaP2
import Derived.Test.YtaekfnbnhjgboaaGreatDoorWuaP3
import Derived.Test.YtaekfnbnhjgboaaGreatDoorWuaP4
/- A part of the proof. -/
set_option linter.unusedVariables false
set_option linter.unusedSimpArgs false
set_option linter.unnecessarySimpa false
set_option linter.unusedSectionVars false
section
namespace Go.Proofs.YtaekfnbnhjgboaaGreatDoor
open Go Go.Vc Go.Proofs
def Zi (P:Program) (v0 v1:Value) (w:World) (R:Value→World→Prop):Prop:=yD P zm v1 w fun a b=>xf (fun c=>y3 b fun b=>zi P zm a 1 b fun d e=>e=b∧ze P zc d b fun d e=>e=b∧zi P zm a 2 b fun e f=>f=b∧ze P zc e b fun f g=>g=b∧vcall P y8 #[d] b fun b d=>(ze P zc e d fun g h=>g=f∧h=d)∧(zi P zm a 2 d fun g h=>g=e∧h=d)∧vcall P y8 #[f] d fun d e=>zq P .gtr zc false b d e fun b d=>d=e∧vif b (zi P zm a 2 e fun b d=>ze P zc b d fun b d=>zi P zm a 1 d fun d f=>ze P zc d f fun d f=>zi P zm a 1 f fun f i=>zr P zc f b i fun _ b=>zi P zm a 2 b fun b f=>zr P zc b d f fun _ b=>c [] b) (c [] e)) (fun _ _ b=>y3 b fun b=>vnil P v0 b fun c d=>d=b∧zi P zQ c 1 b fun c d=>d=b∧ze P zC c b fun c d=>d=b∧ze P zm a b fun d e=>e=b∧Qe P zC c d true b fun c d=>d=b∧zj P c 0 b fun d e=>e=b∧zj P c 1 b fun c e=>e=b∧vif c (R d b) (vnil P v0 b fun b c=>zi P zQ b 0 c fun b c=>zi P zf b 1 c fun b c=>ze P zk b c fun b c=>vbi P .len [zk] zc [b] c fun b c=>zq P .eql zc true b (.int .i64 600) c fun b c=>vif b (R (.int .i64 0) c) (y3 c fun b=>vnil P v0 b fun c d=>d=b∧zi P zQ c 0 b fun d e=>e=b∧zi P zf d 1 b fun e f=>f=b∧ze P zk e b fun f i=>i=b∧ze P zm a b fun i j=>j=b∧vbuildS P zk 1 [(0,i)] b fun b i=>(ze P zk e i fun g h=>g=f∧h=i)∧(zi P zf d 1 i fun g h=>g=e∧h=i)∧(zi P zQ c 0 i fun g h=>g=d∧h=i)∧(vnil P v0 i fun g h=>g=c∧h=i)∧vbi P .append [zk,zk] zk [f,b] i fun b c=>vnil P v0 c fun d e=>e=c∧zi P zQ d 0 c fun d e=>e=c∧zi P zf d 1 c fun d e=>e=c∧zr P zk d b c fun _ b=>y3 b fun b=>vnil P v0 b fun c d=>d=b∧zi P zQ c 1 b fun d e=>e=b∧ze P zC d b fun e f=>f=b∧ze P zm a b fun f i=>i=b∧vnil P v0 b fun i j=>j=b∧zi P zQ i 0 b fun i j=>j=b∧ze P zf i b fun i j=>j=b∧vnil P v0 b fun j k=>k=b∧zi P zQ j 0 b fun j k=>k=b∧zi P zf j 1 b fun j k=>k=b∧ze P zk j b fun j k=>k=b∧vbi P .len [zk] zc [j] b fun j k=>k=b∧vcall P xK #[i,j] b fun b i=>(ze P zm a i fun g h=>g=f∧h=i)∧(ze P zC d i fun g h=>g=e∧h=i)∧(zi P zQ c 1 i fun g h=>g=d∧h=i)∧(vnil P v0 i fun g h=>g=c∧h=i)∧ko P zC e f b i fun _ b=>y3 b fun b=>vnil P v0 b fun c d=>d=b∧zi P zQ c 1 b fun c d=>d=b∧ze P zC c b fun c d=>d=b∧ze P zm a b fun a d=>d=b∧Qe P zC c a false b fun a c=>c=b∧R a b)))
theorem JC {v0 v1 w R} (h:Zi PP v0 v1 w R):vcall PP xZ #[v0,v1] w R:=zp {ord:=[(1,[0,1,3,4,2,5,6],[(0,[1,2,5,6]),(1,[2,5,6]),(3,[4,5,6]),(4,[5,6]),(2,[5,6]),(5,[6])]),(3,[0,1,2,3,4,5,6,7,8,9,10],[(0,[1,2,3,5,6,7,8,9,10]),(1,[2,3,5,6,7,8,9,10]),(2,[3,5,6,7,8,9,10]),(3,[5,6,7,8,9,10]),(4,[5,6,7,8,9,10]),(5,[6,7,8,9,10]),(6,[7,8,9,10]),(7,[9,10]),(8,[10]),(9,[10])]),(8,[0,1,2,3,4,5,6,7,8,9,10,11,12],[(0,[9,10,11,12]),(1,[2,3,4,5,8,9,10,11,12]),(2,[3,4,5,8,9,10,11,12]),(3,[4,5,8,9,10,11,12]),(4,[5,8,9,10,11,12]),(5,[8,9,10,11,12]),(6,[7,8,9,10,11,12]),(7,[8,9,10,11,12]),(8,[9,10,11,12]),(9,[10,11,12]),(10,[11,12]),(11,[12])]),(9,[0,1,2,3,4,5,6,7,8,9,10,11,12,13,14,15,16],[(0,[1,2,3,16]),(1,[2,3,16]),(2,[3,16]),(3,[16]),(4,[16]),(5,[6,7,8,15,16]),(6,[7,8,15,16]),(7,[8,15,16]),(8,[15,16]),(9,[10,11,12,13,14,15,16]),(10,[11,12,13,14,15,16]),(11,[12,13,14,15,16]),(12,[13,14,15,16]),(13,[14,15,16]),(14,[15,16]),(15,[16])]),(10,[0,1,2,3,4,5,6],[(0,[1,2,3,5,6]),(1,[2,3,5,6]),(2,[3,5,6]),(3,[5,6]),(4,[5,6]),(5,[6])])],cuts:=[(8195,[])]} Tryz.func278 (by kernel_rfl) (by kernel_rfl) h
def kD (P:Program) (v0 v1:Value) (w:World) (R:Value→World→Prop):Prop:=vif v1 (vun P .neg v0 w fun a b=>R a b) (R v0 w)
theorem Qz {v0 v1 w R} (h:kD PP v0 v1 w R):vcall PP xA #[v0,v1] w R:=zp {} Tryz.func279 (by kernel_rfl) (by kernel_rfl) h
def kg (P:Program) (v0 v1 v2 v3:Value) (w:World) (R:Value→World→Prop):Prop:=ze P za v1 w fun a b=>vbi P .len [za] zc [a] b fun b c=>yS [(.int .i64 0)] c fun c d _ e=>zq P .lss zc false (sl 0 d) b e fun b e=>vif b (zl P za a (sl 0 d) e fun a b=>ze P zo a b fun a b=>vcall P qx #[(sl 0 d)] b fun b f=>yS [b,(sl 0 d)] f fun b f _ g=>ze P za v2 g fun g h=>vbi P .len [za] zc [g] h fun g h=>zq P .lss zc false (sl 1 f) g h fun g h=>vif g (y3 h fun g=>ze P zO v3 g fun i j=>j=g∧ze P za v2 g fun j k=>k=g∧zq P .sub zc false (sl 1 f) (sl 0 d) g fun k l=>l=g∧zl P za j k g fun j k=>k=g∧ze P zo j g fun j k=>k=g∧vcall P yj #[i,j,a] g fun a g=>vbuildS P za 1 [(0,a)] g fun a g=>vbi P .append [za,za] za [(sl 0 f),a] g fun a g=>zq P .add zc true (sl 1 f) (.int .i64 1) g fun g i=>b [a,g] i) (vcallv P v0 #[(sl 0 f)] h fun a b=>vun P .not a b fun a b=>vif a (R (.tuple #[]) b) (zq P .add zc true (sl 0 d) (.int .i64 1) b fun a b=>c [a] b))) (R (.tuple #[]) e)
theorem XO {v0 v1 v2 v3 w R} (h:kg PP v0 v1 v2 v3 w R):vcall PP xN #[v0,v1,v2,v3] w R:=zp {ord:=[(7,[0,1,2,3,4,5,6,7,8,9,10,11,12],[(0,[11,12]),(1,[9,10,11,12]),(2,[6,7,9,10,11,12]),(3,[5,6,7,9,10,11,12]),(4,[5,6,7,9,10,11,12]),(5,[6,7,9,10,11,12]),(6,[7,9,10,11,12]),(7,[9,10,11,12]),(8,[9,10,11,12]),(9,[10,11,12]),(10,[11,12]),(11,[12])])],loops:=[(1,[11]),(5,[7,8])]} Tryz.func280 (by kernel_rfl) (by kernel_rfl) h
def XZ (P:Program) (v0:Value) (w:World) (R:Value→World→Prop):Prop:=yD P zb v0 w fun a b=>zi P zb a 0 b fun a b=>ze P zc a b fun a b=>zq P .shl y9 true (.int .u64 1) a b fun a b=>zq P .sub y9 true a (.int .u64 1) b fun a b=>R a b
theorem U9 {v0 w R} (h:XZ PP v0 w R):vcall PP jx #[v0] w R:=zp {} Tryz.func312 (by kernel_rfl) (by kernel_rfl) h
def Yl (P:Program) (v0:Value) (w:World) (R:Value→World→Prop):Prop:=yD P y7 v0 w fun a b=>zi P y7 a 1 b fun a b=>ze P zc a b fun a b=>R a b
theorem Vo {v0 w R} (h:Yl PP v0 w R):vcall PP yr #[v0] w R:=zp {} Tryz.func313 (by kernel_rfl) (by kernel_rfl) h
def Yk (P:Program) (v0:Value) (w:World) (R:Value→World→Prop):Prop:=yD P y7 v0 w fun a b=>zi P y7 a 0 b fun a b=>ze P zG a b fun a b=>R a b
theorem Vn {v0 w R} (h:Yk PP v0 w R):vcall PP yA #[v0] w R:=zp {} Tryz.func314 (by kernel_rfl) (by kernel_rfl) h
def ZD (P:Program) (v0 v1 v2 v3:Value) (w:World) (R:Value→World→Prop):Prop:=yD P zM v0 w fun _ a=>yD P z7 v2 a fun _ a=>y3 a fun a=>zl P zh v3 (.int .i64 0) a fun b c=>c=a∧ze P zc b a fun b c=>c=a∧zq P .gtr zc true b (.int .i64 0) a fun b c=>c=a∧zl P zh v3 (.int .i64 0) a fun c d=>d=a∧ze P zc c a fun c d=>d=a∧vcall P yb #[b,c] a fun a b=>R a b
theorem Kc {v0 v1 v2 v3 w R} (h:ZD PP v0 v1 v2 v3 w R):vcall PP jr #[v0,v1,v2,v3] w R:=zp {ord:=[(1,[0,1,2,3,4,5,6,7,8],[(0,[1,2,3,7,8]),(1,[2,3,7,8]),(2,[3,7,8]),(3,[7,8]),(4,[5,6,7,8]),(5,[6,7,8]),(6,[7,8]),(7,[8])])]} Tryz.func315 (by kernel_rfl) (by kernel_rfl) h
def Ze (P:Program) (v0 v1 v2 v3:Value) (w:World) (R:Value→World→Prop):Prop:=yD P zM v0 w fun _ a=>yD P z7 v2 a fun a b=>xf (fun c=>y3 b fun b=>zi P z7 a 0 b fun d e=>e=b∧ze P zc d b fun e f=>f=b∧zl P yd v3 (.int .i64 0) b fun f g=>g=b∧ze P zb f b fun g h=>h=b∧(vcall P Zz #[e,g] b fun h i=>zj P h 0 i fun j k=>k=i∧zj P h 1 i fun k l=>l=i∧(zY P zb i fun i l=>(zj P h 1 l fun m n=>m=k∧n=l)∧(zj P h 0 l fun m n=>m=j∧n=l)∧(zr P zb i j l fun _ j=>(zj P h 1 j fun m n=>m=k∧n=j)∧c [i] j)∧True)∧True)∧(zY P zb b fun b h=>(ze P zb f h fun m n=>m=g∧n=h)∧(zl P yd v3 (.int .i64 0) h fun m n=>m=f∧n=h)∧(ze P zc d h fun m n=>m=e∧n=h)∧(zi P z7 a 0 h fun m n=>m=d∧n=h)∧(vcall P Zz #[e,g] h fun a d=>zj P a 0 d fun e f=>f=d∧zj P a 1 d fun f g=>g=d∧(zr P zb b e d fun _ d=>(zj P a 1 d fun m n=>m=f∧n=d)∧c [b] d)∧True)∧True)∧True) (fun a _ b=>zi P zb (sl 0 a) 1 b fun a b=>ze P zc a b fun a b=>R a b)
theorem Jy {v0 v1 v2 v3 w R} (h:Ze PP v0 v1 v2 v3 w R):vcall PP j2 #[v0,v1,v2,v3] w R:=zp {cuts:=[(8194,[9])],trees:=[(1,(.st 0 (.st 1 (.st 2 (.st 3 (.st 4 (.alt 5 (.st 6 (.st 7 (.st 8 (.alt 9 (.alt 10 (.st 11 .nil) .no) .no)))) (.alt 9 (.alt 5 (.st 6 (.st 7 (.st 8 (.alt 10 (.st 11 .nil) .no)))) .no) .no))))))),[(0,[1,5,6,7,8,10,11]),(1,[5,6,7,8,10,11]),(2,[3,4,5,6,7,8,10,11]),(3,[4,5,6,7,8,10,11]),(4,[5,6,7,8,10,11]),(5,[6,7,8,10,11]),(6,[7,8,10,11]),(7,[10,11]),(8,[11]),(9,[10,11]),(10,[11])])]} Tryz.func316 (by kernel_rfl) (by kernel_rfl) h
def KR (P:Program) (v0 v1:Value) (w:World) (R:Value→World→Prop):Prop:=vif v0 (R v1 w) (R (.int .i64 (-1)) w)
theorem y80 {v0 v1 w R} (h:KR PP v0 v1 w R):vcall PP yb #[v0,v1] w R:=zp {} Tryz.func317 (by kernel_rfl) (by kernel_rfl) h
def Wa (P:Program) (v0 v1:Value) (w:World) (R:Value→World→Prop):Prop:=yD P zb v1 w fun a b=>zY P zb b fun b c=>ze P zb a c fun c d=>vcall P xh #[c] d fun c d=>vun P .not c d fun c d=>vif c (zE P zb [] d fun c e=>zr P zb b c e fun _ c=>vlv P zb b c fun c e=>R (.tuple #[c,(.bool false)]) e) (zq P .eql zc true v0 (.int .i64 1) d fun c d=>vif c (y3 d fun c=>ze P zb a c fun e f=>f=c∧ze P zb a c fun f g=>g=c∧vcall P zF #[f] c fun c f=>(ze P zb a f fun g h=>g=e∧h=f)∧vun P .xor c f fun c i=>i=f∧vcall P qY #[e,c] f fun c e=>zr P zb b c e fun _ c=>vlv P zb b c fun c e=>R (.tuple #[c,(.bool true)]) e) (zq P .eql zc true v0 (.int .i64 2) d fun c d=>vif c (y3 d fun c=>ze P zb a c fun e f=>f=c∧ze P zb a c fun f i=>i=c∧vcall P zF #[f] c fun c f=>(ze P zb a f fun g h=>g=e∧h=f)∧vun P .neg c f fun a c=>c=f∧vcall P qY #[e,a] f fun a c=>zr P zb b a c fun _ a=>vlv P zb b a fun a c=>R (.tuple #[a,(.bool true)]) c) (zE P zb [] d fun a c=>zr P zb b a c fun _ a=>vlv P zb b a fun a b=>R (.tuple #[a,(.bool false)]) b)))
theorem x30 {v0 v1 w R} (h:Wa PP v0 v1 w R):vcall PP Zz #[v0,v1] w R:=zp {ord:=[(4,[0,1,2,3,4,5,6],[(0,[4,5,6]),(1,[2,3,4,5,6]),(2,[3,4,5,6]),(3,[4,5,6]),(4,[5,6]),(5,[6])]),(6,[0,1,2,3,4,5,6],[(0,[4,5,6]),(1,[2,3,4,5,6]),(2,[3,4,5,6]),(3,[4,5,6]),(4,[5,6]),(5,[6])])]} Tryz.func318 (by kernel_rfl) (by kernel_rfl) h
def Jc (P:Program) (v0 v1:Value) (w:World) (R:Value→World→Prop):Prop:=yD P zb v0 w fun a b=>zY P zb b fun b c=>y3 c fun c=>zi P zb a 0 c fun d e=>e=c∧ze P zc d c fun e f=>f=c∧zi P zb a 0 c fun f g=>g=c∧ze P zc f c fun f g=>g=c∧vcall P jX #[v1,f] c fun c f=>(ze P zc d f fun g h=>g=e∧h=f)∧(zi P zb a 0 f fun g h=>g=d∧h=f)∧ZR P y9 zc c f fun a c=>c=f∧zE P zb [(0,e),(1,a)] f fun a c=>c=f∧zr P zb b a f fun _ a=>vlv P zb b a fun a b=>R a b
theorem UU {v0 v1 w R} (h:Jc PP v0 v1 w R):vcall PP qY #[v0,v1] w R:=zp {ord:=[(1,[0,1,2,3,4,5,6,7,8],[(0,[1,7,8]),(1,[7,8]),(2,[5,6,7,8]),(3,[4,5,6,7,8]),(4,[5,6,7,8]),(5,[6,7,8]),(6,[7,8]),(7,[8])])]} Tryz.func319 (by kernel_rfl) (by kernel_rfl) h
def J4 (P:Program) (v0 v1:Value) (w:World) (R:Value→World→Prop):Prop:=zq P .shl y9 true (.int .u64 1) v1 w fun a b=>zq P .sub y9 true a (.int .u64 1) b fun a b=>zq P .and y9 false v0 a b fun a b=>R a b
theorem UM {v0 v1 w R} (h:J4 PP v0 v1 w R):vcall PP jX #[v0,v1] w R:=zp {} Tryz.func320 (by kernel_rfl) (by kernel_rfl) h
def Zj (P:Program) (v0 v1 v2 v3:Value) (w:World) (R:Value→World→Prop):Prop:=yD P zT v0 w fun _ a=>yD P z7 v2 a fun _ a=>y3 a fun a=>zl P zh v3 (.int .i64 0) a fun b c=>c=a∧ze P zc b a fun b c=>c=a∧zq P .gtr zc true b (.int .i64 0) a fun b c=>c=a∧vif b (zl P zh v3 (.int .i64 1) a fun b c=>c=a∧ze P zc b a fun b c=>c=a∧zq P .gtr zc true b (.int .i64 0) a fun b c=>c=a∧vif b (zl P zh v3 (.int .i64 0) a fun b c=>c=a∧ze P zc b a fun b c=>c=a∧zl P zh v3 (.int .i64 1) a fun c d=>d=a∧ze P zc c a fun c d=>d=a∧zq P .add zc false b c a fun b c=>c=a∧zq P .leq zc true b (.int .i64 4) a fun b c=>c=a∧zl P zh v3 (.int .i64 0) a fun c d=>d=a∧ze P zc c a fun c d=>d=a∧zl P zh v3 (.int .i64 1) a fun d e=>e=a∧ze P zc d a fun d e=>e=a∧zq P .add zc false c d a fun c d=>d=a∧vcall P yb #[b,c] a fun b c=>R b c) (zl P zh v3 (.int .i64 0) a fun b c=>c=a∧ze P zc b a fun b c=>c=a∧zl P zh v3 (.int .i64 1) a fun c d=>d=a∧ze P zc c a fun c d=>d=a∧zq P .add zc false b c a fun b c=>c=a∧vcall P yb #[(.bool false),b] a fun b c=>R b c)) (zl P zh v3 (.int .i64 0) a fun b c=>c=a∧ze P zc b a fun b c=>c=a∧zl P zh v3 (.int .i64 1) a fun c d=>d=a∧ze P zc c a fun c d=>d=a∧zq P .add zc false b c a fun b c=>c=a∧vcall P yb #[(.bool false),b] a fun a b=>R a b)
theorem JD {v0 v1 v2 v3 w R} (h:Zj PP v0 v1 v2 v3 w R):vcall PP j7 #[v0,v1,v2,v3] w R:=zp {ord:=[(1,[0,1,2,3,4,5,6,7,8,9,10,11,12,13,14,15,16,17,18,19,20,21,22,23,24,25,26,27,28],[(0,[1,2,3,4,5,6,7,8,9,10,11,12,13,14,15,16,17,18,19,27,28]),(1,[2,3,4,5,6,7,8,9,10,11,12,13,14,15,16,17,18,19,27,28]),(2,[3,4,5,6,7,8,9,10,11,12,13,14,15,16,17,18,19,27,28]),(3,[4,5,6,7,8,9,10,11,12,13,14,15,16,17,18,19,27,28]),(4,[5,6,7,8,9,10,11,12,13,14,15,16,17,18,19,27,28]),(5,[6,7,8,9,10,11,12,13,14,15,16,17,18,19,27,28]),(6,[7,8,9,10,11,12,13,14,15,16,17,18,19,27,28]),(7,[8,9,10,11,12,13,14,15,16,17,18,19,27,28]),(8,[9,10,11,12,13,14,15,16,17,18,19,27,28]),(9,[10,11,12,13,14,15,16,17,18,19,27,28]),(10,[11,12,13,14,15,16,17,18,19,27,28]),(11,[12,13,17,18,19,27,28]),(12,[13,17,18,19,27,28]),(13,[17,18,19,27,28]),(14,[15,16,17,18,19,27,28]),(15,[16,17,18,19,27,28]),(16,[17,18,19,27,28]),(17,[18,19,27,28]),(18,[19,27,28]),(19,[27,28]),(20,[21,22,26,27,28]),(21,[22,26,27,28]),(22,[26,27,28]),(23,[24,25,26,27,28]),(24,[25,26,27,28]),(25,[26,27,28]),(26,[27,28]),(27,[28])])]} Tryz.func321 (by kernel_rfl) (by kernel_rfl) h
def kH (P:Program) (v0 v1 v2 v3:Value) (w:World) (R:Value→World→Prop):Prop:=yD P zT v0 w fun _ a=>yD P z7 v2 a fun a b=>xf (fun c=>y3 b fun b=>zi P z7 a 0 b fun d e=>e=b∧ze P zc d b fun e f=>f=b∧zl P yd v3 (.int .i64 0) b fun f g=>g=b∧ze P zb f b fun g h=>h=b∧zl P yd v3 (.int .i64 1) b fun h i=>i=b∧ze P zb h b fun i j=>j=b∧(vcall P qL #[e,g,i] b fun j k=>zj P j 0 k fun l m=>m=k∧zj P j 1 k fun m n=>n=k∧(zY P zb k fun k n=>(zj P j 1 n fun o p=>o=m∧p=n)∧(zj P j 0 n fun o p=>o=l∧p=n)∧(zr P zb k l n fun _ l=>(zj P j 1 l fun o p=>o=m∧p=l)∧c [k] l)∧True)∧True)∧(zY P zb b fun b j=>(ze P zb h j fun o p=>o=i∧p=j)∧(zl P yd v3 (.int .i64 1) j fun o p=>o=h∧p=j)∧(ze P zb f j fun o p=>o=g∧p=j)∧(zl P yd v3 (.int .i64 0) j fun o p=>o=f∧p=j)∧(ze P zc d j fun o p=>o=e∧p=j)∧(zi P z7 a 0 j fun o p=>o=d∧p=j)∧(vcall P qL #[e,g,i] j fun a d=>zj P a 0 d fun e f=>f=d∧zj P a 1 d fun f g=>g=d∧(zr P zb b e d fun _ d=>(zj P a 1 d fun o p=>o=f∧p=d)∧c [b] d)∧True)∧True)∧True) (fun a _ b=>zi P zb (sl 0 a) 1 b fun a b=>ze P zc a b fun a b=>R a b)
theorem QD {v0 v1 v2 v3 w R} (h:kH PP v0 v1 v2 v3 w R):vcall PP qR #[v0,v1,v2,v3] w R:=zp {cuts:=[(8194,[9])],trees:=[(1,(.st 0 (.st 1 (.st 2 (.st 3 (.st 4 (.st 5 (.st 6 (.st 7 (.alt 8 (.st 9 (.st 10 (.st 11 (.alt 12 (.alt 13 (.st 14 .nil) .no) .no)))) (.alt 12 (.alt 8 (.st 9 (.st 10 (.st 11 (.alt 13 (.st 14 .nil) .no)))) .no) .no)))))))))),[(0,[1,8,9,10,11,13,14]),(1,[8,9,10,11,13,14]),(2,[3,4,8,9,10,11,13,14]),(3,[4,8,9,10,11,13,14]),(4,[8,9,10,11,13,14]),(5,[6,7,8,9,10,11,13,14]),(6,[7,8,9,10,11,13,14]),(7,[8,9,10,11,13,14]),(8,[9,10,11,13,14]),(9,[10,11,13,14]),(10,[13,14]),(11,[14]),(12,[13,14]),(13,[14])])]} Tryz.func322 (by kernel_rfl) (by kernel_rfl) h
def KZ (P:Program) (v0 v1 v2:Value) (w:World) (R:Value→World→Prop):Prop:=yD P zb v1 w fun a b=>yD P zb v2 b fun b c=>zY P zb c fun c d=>xf (fun e=>ze P zb a d fun d f=>vcall P xh #[d] f fun d f=>vun P .not d f fun d f=>vif d (zE P zb [] f fun d g=>zr P zb c d g fun _ d=>vlv P zb c d fun d g=>R (.tuple #[d,(.bool false)]) g) (ze P zb b f fun d f=>vcall P xh #[d] f fun d f=>vun P .not d f fun d f=>vif d (zE P zb [] f fun d g=>zr P zb c d g fun _ d=>vlv P zb c d fun d g=>R (.tuple #[d,(.bool false)]) g) (e [] f))) (fun _ _ d=>zq P .eql zc true v0 (.int .i64 14) d fun d e=>vif d (y3 e fun d=>zi P zb a 0 d fun f g=>g=d∧ze P zc f d fun g h=>h=d∧zi P zb b 0 d fun h i=>i=d∧ze P zc h d fun i j=>j=d∧zq P .add zc false g i d fun j k=>k=d∧zi P zb a 1 d fun k l=>l=d∧ze P zc k d fun l m=>m=d∧zi P zb b 0 d fun m n=>n=d∧ze P zc m d fun n o=>o=d∧zq P .shl zc false l n d fun o p=>p=d∧zi P zb b 1 d fun p q=>q=d∧ze P zc p d fun q r=>r=d∧zq P .or zc false o q d fun r s=>s=d∧zE P zb [(0,j),(1,r)] d fun s t=>t=d∧zY P zb d fun d t=>(zE P zb [(0,j),(1,r)] t fun u v=>u=s∧v=t)∧(zq P .or zc false o q t fun u v=>u=r∧v=t)∧(ze P zc p t fun u v=>u=q∧v=t)∧(zi P zb b 1 t fun u v=>u=p∧v=t)∧(zq P .shl zc false l n t fun u v=>u=o∧v=t)∧(ze P zc m t fun u v=>u=n∧v=t)∧(zi P zb b 0 t fun u v=>u=m∧v=t)∧(ze P zc k t fun u v=>u=l∧v=t)∧(zi P zb a 1 t fun u v=>u=k∧v=t)∧(zq P .add zc false g i t fun u v=>u=j∧v=t)∧(ze P zc h t fun u v=>u=i∧v=t)∧(zi P zb b 0 t fun u v=>u=h∧v=t)∧(ze P zc f t fun u v=>u=g∧v=t)∧(zi P zb a 0 t fun u v=>u=f∧v=t)∧zr P zb d s t fun _ f=>zi P zb d 0 f fun f g=>ze P zc f g fun f g=>zq P .gtr zc true f (.int .i64 4) g fun f g=>vif f (zE P zb [] g fun f h=>zr P zb c f h fun _ f=>vlv P zb c f fun f h=>R (.tuple #[f,(.bool false)]) h) (ze P zb d g fun d f=>zr P zb c d f fun _ d=>vlv P zb c d fun d f=>R (.tuple #[d,(.bool true)]) f)) (xf (fun d=>zq P .lss zc true v0 (.int .i64 3) e fun e f=>vif e (zE P zb [] f fun e g=>zr P zb c e g fun _ e=>vlv P zb c e fun e g=>R (.tuple #[e,(.bool false)]) g) (zq P .gtr zc true v0 (.int .i64 13) f fun e f=>vif e (zE P zb [] f fun e g=>zr P zb c e g fun _ e=>vlv P zb c e fun e g=>R (.tuple #[e,(.bool false)]) g) (zi P zb a 0 f fun e f=>ze P zc e f fun e f=>zi P zb b 0 f fun f g=>ze P zc f g fun f g=>zq P .neq zc false e f g fun e f=>vif e (zE P zb [] f fun e g=>zr P zb c e g fun _ e=>vlv P zb c e fun e g=>R (.tuple #[e,(.bool false)]) g) (d [] f)))) (fun _ _ d=>y3 d fun d=>ze P zb a d fun e f=>f=d∧ze P zb a d fun f g=>g=d∧ze P zb b d fun g h=>h=d∧vcall P Z4 #[] d fun d h=>(ze P zb b h fun u v=>u=g∧v=h)∧(ze P zb a h fun u v=>u=f∧v=h)∧(ze P zb a h fun u v=>u=e∧v=h)∧z90 P zX d v0 h fun b d=>d=h∧vcallv P b #[f,g] h fun b d=>(ze P zb a d fun u v=>u=e∧v=d)∧vcall P qY #[e,b] d fun a b=>zr P zb c a b fun _ a=>vlv P zb c a fun a b=>R (.tuple #[a,(.bool true)]) b)))
theorem ye0 {v0 v1 v2 w R} (h:KZ PP v0 v1 v2 w R):vcall PP qL #[v0,v1,v2] w R:=zp {ord:=[(4,[0,1,2,3,4,5,6,7,8,9,10,11,12,13,14,15],[(0,[1,4,13,15]),(1,[4,13,15]),(2,[3,4,13,15]),(3,[4,13,15]),(4,[13,15]),(5,[6,9,12,13,15]),(6,[9,12,13,15]),(7,[8,9,12,13,15]),(8,[9,12,13,15]),(9,[12,13,15]),(10,[11,12,13,15]),(11,[12,13,15]),(12,[13,15]),(13,[15]),(14,[15])]),(10,[0,2,4,5,1,3,6,7,8,9],[(0,[7,8,9]),(2,[3,6,7,8,9]),(4,[6,7,8,9]),(5,[6,7,8,9]),(1,[3,6,7,8,9]),(3,[6,7,8,9]),(6,[7,8,9]),(7,[8,9]),(8,[9])])],cuts:=[(8195,[]),(36874,[])]} Tryz.func323 (by kernel_rfl) (by kernel_rfl) h
def XY (P:Program) (w:World) (R:Value→World→Prop):Prop:=zY P zX w fun a b=>zE P zX [(3,(.func (.func x6) #[] #[])),(4,(.func (.func x5) #[] #[])),(5,(.func (.func yZ) #[] #[])),(6,(.func (.func yY) #[] #[])),(7,(.func (.func yX) #[] #[])),(8,(.func (.func yW) #[] #[])),(9,(.func (.func yV) #[] #[])),(10,(.func (.func yU) #[] #[])),(11,(.func (.func yT) #[] #[])),(12,(.func (.func yL) #[] #[])),(13,(.func (.func yK) #[] #[]))] b fun b c=>zr P zX a b c fun _ b=>vlv P zX a b fun a b=>R a b
theorem U8 {w R} (h:XY PP w R):vcall PP Z4 #[] w R:=zp {} Tryz.func324 (by kernel_rfl) (by kernel_rfl) h
def Yw (P:Program) (v0 v1:Value) (w:World) (R:Value→World→Prop):Prop:=yD P zb v0 w fun a b=>yD P zb v1 b fun b c=>y3 c fun c=>ze P zb a c fun a d=>d=c∧ze P zb b c fun d e=>e=c∧vcall P zF #[a] c fun a c=>(ze P zb b c fun b e=>b=d∧e=c)∧vcall P zF #[d] c fun b c=>zq P .and y9 false a b c fun a b=>b=c∧R a c
theorem Vz {v0 v1 w R} (h:Yw PP v0 v1 w R):vcall PP x6 #[v0,v1] w R:=zp {ord:=[(1,[0,2,1,3,4,5],[(0,[1,3,4,5]),(2,[3,4,5]),(1,[3,4,5]),(3,[4,5]),(4,[5])])]} Tryz.func325 (by kernel_rfl) (by kernel_rfl) h
def Yv (P:Program) (v0 v1:Value) (w:World) (R:Value→World→Prop):Prop:=yD P zb v0 w fun a b=>yD P zb v1 b fun b c=>y3 c fun c=>ze P zb a c fun a d=>d=c∧ze P zb b c fun d e=>e=c∧vcall P zF #[a] c fun a c=>(ze P zb b c fun b e=>b=d∧e=c)∧vcall P zF #[d] c fun b c=>zq P .or y9 false a b c fun a b=>b=c∧R a c
theorem Vy {v0 v1 w R} (h:Yv PP v0 v1 w R):vcall PP x5 #[v0,v1] w R:=zp {ord:=[(1,[0,2,1,3,4,5],[(0,[1,3,4,5]),(2,[3,4,5]),(1,[3,4,5]),(3,[4,5]),(4,[5])])]} Tryz.func326 (by kernel_rfl) (by kernel_rfl) h
def Yu (P:Program) (v0 v1:Value) (w:World) (R:Value→World→Prop):Prop:=yD P zb v0 w fun a b=>yD P zb v1 b fun b c=>y3 c fun c=>ze P zb a c fun a d=>d=c∧ze P zb b c fun d e=>e=c∧vcall P zF #[a] c fun a c=>(ze P zb b c fun b e=>b=d∧e=c)∧vcall P zF #[d] c fun b c=>zq P .xor y9 false a b c fun a b=>b=c∧R a c
theorem Vx {v0 v1 w R} (h:Yu PP v0 v1 w R):vcall PP yZ #[v0,v1] w R:=zp {ord:=[(1,[0,2,1,3,4,5],[(0,[1,3,4,5]),(2,[3,4,5]),(1,[3,4,5]),(3,[4,5]),(4,[5])])]} Tryz.func327 (by kernel_rfl) (by kernel_rfl) h
def Yt (P:Program) (v0 v1:Value) (w:World) (R:Value→World→Prop):Prop:=yD P zb v0 w fun a b=>yD P zb v1 b fun b c=>y3 c fun c=>ze P zb a c fun a d=>d=c∧ze P zb b c fun d e=>e=c∧vcall P zF #[a] c fun a c=>(ze P zb b c fun b e=>b=d∧e=c)∧vcall P zF #[d] c fun b c=>zq P .add y9 false a b c fun a b=>b=c∧R a c
theorem Vw {v0 v1 w R} (h:Yt PP v0 v1 w R):vcall PP yY #[v0,v1] w R:=zp {ord:=[(1,[0,2,1,3,4,5],[(0,[1,3,4,5]),(2,[3,4,5]),(1,[3,4,5]),(3,[4,5]),(4,[5])])]} Tryz.func328 (by kernel_rfl) (by kernel_rfl) h
def Ys (P:Program) (v0 v1:Value) (w:World) (R:Value→World→Prop):Prop:=yD P zb v0 w fun a b=>yD P zb v1 b fun b c=>y3 c fun c=>ze P zb a c fun a d=>d=c∧ze P zb b c fun d e=>e=c∧vcall P zF #[a] c fun a c=>(ze P zb b c fun b e=>b=d∧e=c)∧vcall P zF #[d] c fun b c=>zq P .sub y9 false a b c fun a b=>b=c∧R a c
theorem Vv {v0 v1 w R} (h:Ys PP v0 v1 w R):vcall PP yX #[v0,v1] w R:=zp {ord:=[(1,[0,2,1,3,4,5],[(0,[1,3,4,5]),(2,[3,4,5]),(1,[3,4,5]),(3,[4,5]),(4,[5])])]} Tryz.func329 (by kernel_rfl) (by kernel_rfl) h
def Yr (P:Program) (v0 v1:Value) (w:World) (R:Value→World→Prop):Prop:=yD P zb v0 w fun a b=>yD P zb v1 b fun b c=>y3 c fun c=>ze P zb a c fun a d=>d=c∧ze P zb b c fun d e=>e=c∧vcall P zF #[a] c fun a c=>(ze P zb b c fun b e=>b=d∧e=c)∧vcall P zF #[d] c fun b c=>zq P .mul y9 false a b c fun a b=>b=c∧R a c
theorem Vu {v0 v1 w R} (h:Yr PP v0 v1 w R):vcall PP yW #[v0,v1] w R:=zp {ord:=[(1,[0,2,1,3,4,5],[(0,[1,3,4,5]),(2,[3,4,5]),(1,[3,4,5]),(3,[4,5]),(4,[5])])]} Tryz.func330 (by kernel_rfl) (by kernel_rfl) h
def Yq (P:Program) (v0 v1:Value) (w:World) (R:Value→World→Prop):Prop:=yD P zb v0 w fun a b=>yD P zb v1 b fun b c=>zi P zb b 1 c fun c d=>ze P zc c d fun c d=>zq P .eql zc true c (.int .i64 0) d fun c d=>vif c (ze P zb a d fun c e=>vcall P jx #[c] e fun c e=>R c e) (y3 d fun c=>ze P zb a c fun a d=>d=c∧ze P zb b c fun d e=>e=c∧vcall P zF #[a] c fun a c=>(ze P zb b c fun b e=>b=d∧e=c)∧vcall P zF #[d] c fun b c=>zq P .quo y9 false a b c fun a b=>b=c∧R a c)
theorem Vt {v0 v1 w R} (h:Yq PP v0 v1 w R):vcall PP yV #[v0,v1] w R:=zp {ord:=[(3,[0,2,1,3,4,5],[(0,[1,3,4,5]),(2,[3,4,5]),(1,[3,4,5]),(3,[4,5]),(4,[5])])]} Tryz.func331 (by kernel_rfl) (by kernel_rfl) h
def Yp (P:Program) (v0 v1:Value) (w:World) (R:Value→World→Prop):Prop:=yD P zb v0 w fun a b=>yD P zb v1 b fun b c=>zi P zb b 1 c fun c d=>ze P zc c d fun c d=>zq P .eql zc true c (.int .i64 0) d fun c d=>vif c (ze P zb a d fun c e=>vcall P zF #[c] e fun c e=>R c e) (y3 d fun c=>ze P zb a c fun a d=>d=c∧ze P zb b c fun d e=>e=c∧vcall P zF #[a] c fun a c=>(ze P zb b c fun b e=>b=d∧e=c)∧vcall P zF #[d] c fun b c=>zq P .rem y9 false a b c fun a b=>b=c∧R a c)
theorem Vs {v0 v1 w R} (h:Yp PP v0 v1 w R):vcall PP yU #[v0,v1] w R:=zp {ord:=[(3,[0,2,1,3,4,5],[(0,[1,3,4,5]),(2,[3,4,5]),(1,[3,4,5]),(3,[4,5]),(4,[5])])]} Tryz.func332 (by kernel_rfl) (by kernel_rfl) h
def Yo (P:Program) (v0 v1:Value) (w:World) (R:Value→World→Prop):Prop:=yD P zb v0 w fun a b=>yD P zb v1 b fun b c=>y3 c fun c=>ze P zb a c fun a d=>d=c∧ze P zb b c fun d e=>e=c∧vcall P zF #[a] c fun a c=>(ze P zb b c fun b e=>b=d∧e=c)∧vcall P zF #[d] c fun b c=>zq P .shl y9 false a b c fun a b=>b=c∧R a c
theorem Vr {v0 v1 w R} (h:Yo PP v0 v1 w R):vcall PP yT #[v0,v1] w R:=zp {ord:=[(1,[0,2,1,3,4,5],[(0,[1,3,4,5]),(2,[3,4,5]),(1,[3,4,5]),(3,[4,5]),(4,[5])])]} Tryz.func333 (by kernel_rfl) (by kernel_rfl) h
def ZO (P:Program) (v0 v1:Value) (w:World) (R:Value→World→Prop):Prop:=yD P zb v0 w fun a b=>yD P zb v1 b fun b c=>y3 c fun c=>ze P zb a c fun a d=>d=c∧ze P zb b c fun d e=>e=c∧vcall P zF #[a] c fun a c=>(ze P zb b c fun b e=>b=d∧e=c)∧vcall P zF #[d] c fun b c=>zq P .shr y9 false a b c fun a b=>b=c∧R a c
theorem Kq {v0 v1 w R} (h:ZO PP v0 v1 w R):vcall PP yL #[v0,v1] w R:=zp {ord:=[(1,[0,2,1,3,4,5],[(0,[1,3,4,5]),(2,[3,4,5]),(1,[3,4,5]),(3,[4,5]),(4,[5])])]} Tryz.func334 (by kernel_rfl) (by kernel_rfl) h
def ZN (P:Program) (v0 v1:Value) (w:World) (R:Value→World→Prop):Prop:=yD P zb v0 w fun a b=>yD P zb v1 b fun b c=>y3 c fun c=>ze P zb a c fun a d=>d=c∧ze P zb b c fun d e=>e=c∧vcall P qV #[a] c fun a c=>(ze P zb b c fun b e=>b=d∧e=c)∧vcall P zF #[d] c fun b c=>zq P .shr y9 false a b c fun a b=>b=c∧R a c
theorem Ko {v0 v1 w R} (h:ZN PP v0 v1 w R):vcall PP yK #[v0,v1] w R:=zp {ord:=[(1,[0,2,1,3,4,5],[(0,[1,3,4,5]),(2,[3,4,5]),(1,[3,4,5]),(3,[4,5]),(4,[5])])]} Tryz.func335 (by kernel_rfl) (by kernel_rfl) h
def kN (P:Program) (v0:Value) (w:World) (R:Value→World→Prop):Prop:=yD P zb v0 w fun a b=>y3 b fun b=>ze P zb a b fun c d=>d=b∧zi P zb a 0 b fun d e=>e=b∧ze P zc d b fun e f=>f=b∧zq P .sub zc true e (.int .i64 1) b fun f g=>g=b∧vcall P zF #[c] b fun b c=>(zq P .sub zc true e (.int .i64 1) c fun g h=>g=f∧h=c)∧(ze P zc d c fun g h=>g=e∧h=c)∧(zi P zb a 0 c fun g h=>g=d∧h=c)∧vcall P qh #[b,f] c fun b c=>vif b (y3 c fun b=>ze P zb a b fun d e=>e=b∧ze P zb a b fun e f=>f=b∧vcall P zF #[d] b fun b d=>(ze P zb a d fun g h=>g=e∧h=d)∧vcall P jx #[e] d fun d e=>vun P .xor d e fun d f=>f=e∧zq P .and y9 true d (.int .u64 4294967295) e fun d f=>f=e∧zq P .or y9 false b d e fun b d=>d=e∧R b e) (ze P zb a c fun a b=>vcall P zF #[a] b fun a b=>R a b)
theorem QJ {v0 w R} (h:kN PP v0 w R):vcall PP qV #[v0] w R:=zp {ord:=[(1,[0,2,3,4,1,5],[(0,[1,5]),(2,[3,4,5]),(3,[4,5]),(4,[5]),(1,[5])]),(2,[0,2,1,3,4,5,6,7],[(0,[1,3,4,5,6,7]),(2,[3,4,5,6,7]),(1,[3,4,5,6,7]),(3,[4,5,6,7]),(4,[5,6,7]),(5,[6,7]),(6,[7])])]} Tryz.func336 (by kernel_rfl) (by kernel_rfl) h
def Zh (P:Program) (v0 v1 v2 v3:Value) (w:World) (R:Value→World→Prop):Prop:=yD P zH v0 w fun _ a=>yD P z7 v2 a fun _ a=>y3 a fun a=>zl P zh v3 (.int .i64 0) a fun b c=>c=a∧ze P zc b a fun b c=>c=a∧zq P .gtr zc true b (.int .i64 0) a fun b c=>c=a∧vif b (zl P zh v3 (.int .i64 0) a fun b c=>c=a∧ze P zc b a fun b c=>c=a∧zl P zh v3 (.int .i64 1) a fun c d=>d=a∧ze P zc c a fun c d=>d=a∧zq P .eql zc false b c a fun b c=>c=a∧vcall P yb #[b,(.int .i64 0)] a fun b c=>R b c) (vcall P yb #[(.bool false),(.int .i64 0)] a fun a b=>R a b)
theorem JB {v0 v1 v2 v3 w R} (h:Zh PP v0 v1 v2 v3 w R):vcall PP j6 #[v0,v1,v2,v3] w R:=zp {ord:=[(1,[0,1,2,3,4,5,6,7,8,9,10,11,12,13,14],[(0,[1,2,3,4,5,6,7,8,9,10,11,12,13,14]),(1,[2,3,4,5,6,7,8,9,10,11,12,13,14]),(2,[3,4,5,6,7,8,9,10,11,12,13,14]),(3,[4,5,6,7,8,9,10,11,12,13,14]),(4,[5,6,7,8,9,10,11,12,13,14]),(5,[6,7,11,12,13,14]),(6,[7,11,12,13,14]),(7,[11,12,13,14]),(8,[9,10,11,12,13,14]),(9,[10,11,12,13,14]),(10,[11,12,13,14]),(11,[12,13,14]),(12,[13,14]),(13,[14])])]} Tryz.func337 (by kernel_rfl) (by kernel_rfl) h
def kG (P:Program) (v0 v1 v2 v3:Value) (w:World) (R:Value→World→Prop):Prop:=yD P zH v0 w fun _ a=>yD P z7 v2 a fun a b=>y3 b fun b=>zi P z7 a 0 b fun a c=>c=b∧ze P zc a b fun a c=>c=b∧zl P yd v3 (.int .i64 0) b fun c d=>d=b∧ze P zb c b fun c d=>d=b∧zl P yd v3 (.int .i64 1) b fun d e=>e=b∧ze P zb d b fun d e=>e=b∧vcall P YM #[a,c,d] b fun a b=>zj P a 0 b fun c d=>d=b∧zj P a 1 b fun _ a=>a=b∧vcall P kV #[c] b fun a b=>R a b
theorem QC {v0 v1 v2 v3 w R} (h:kG PP v0 v1 v2 v3 w R):vcall PP qQ #[v0,v1,v2,v3] w R:=zp {ord:=[(1,[0,1,2,3,4,5,6,7,8,9,10,11,12,13],[(0,[1,8,9,10,11,12,13]),(1,[8,9,10,11,12,13]),(2,[3,4,8,9,10,11,12,13]),(3,[4,8,9,10,11,12,13]),(4,[8,9,10,11,12,13]),(5,[6,7,8,9,10,11,12,13]),(6,[7,8,9,10,11,12,13]),(7,[8,9,10,11,12,13]),(8,[9,10,11,12,13]),(9,[10,11,12,13]),(10,[12,13]),(11,[13]),(12,[13])])]} Tryz.func338 (by kernel_rfl) (by kernel_rfl) h
def KY (P:Program) (v0 v1 v2:Value) (w:World) (R:Value→World→Prop):Prop:=yD P zb v1 w fun a b=>yD P zb v2 b fun b c=>xf (fun d=>ze P zb a c fun c e=>vcall P xh #[c] e fun c e=>vun P .not c e fun c e=>vif c (R (.tuple #[(.bool false),(.bool false)]) e) (ze P zb b e fun c e=>vcall P xh #[c] e fun c e=>vun P .not c e fun c e=>vif c (R (.tuple #[(.bool false),(.bool false)]) e) (zi P zb a 0 e fun c e=>ze P zc c e fun c e=>zi P zb b 0 e fun e f=>ze P zc e f fun e f=>zq P .neq zc false c e f fun c e=>vif c (R (.tuple #[(.bool false),(.bool false)]) e) (d [] e)))) (fun _ _ c=>zq P .eql zc true v0 (.int .i64 15) c fun c d=>vif c (ze P zb a d fun c e=>ze P zb b e fun e f=>zq P .eql zb false c e f fun c e=>R (.tuple #[c,(.bool true)]) e) (zq P .eql zc true v0 (.int .i64 16) d fun c d=>vif c (zi P zb a 1 d fun c e=>ze P zc c e fun c e=>zi P zb b 1 e fun e f=>ze P zc e f fun e f=>zq P .lss zc false c e f fun c e=>R (.tuple #[c,(.bool true)]) e) (zq P .eql zc true v0 (.int .i64 17) d fun c d=>vif c (y3 d fun c=>ze P zb a c fun a e=>e=c∧ze P zb b c fun e f=>f=c∧vcall P qZ #[a] c fun a c=>(ze P zb b c fun b f=>b=e∧f=c)∧vcall P qZ #[e] c fun b c=>zq P .lss zc false a b c fun a b=>b=c∧R (.tuple #[a,(.bool true)]) c) (R (.tuple #[(.bool false),(.bool false)]) d))))
theorem yd0 {v0 v1 v2 w R} (h:KY PP v0 v1 v2 w R):vcall PP YM #[v0,v1,v2] w R:=zp {ord:=[(9,[0,2,1,3,4,5,6],[(0,[1,3,4,5,6]),(2,[3,4,5,6]),(1,[3,4,5,6]),(3,[4,5,6]),(4,[5,6]),(5,[6])])],cuts:=[(8195,[])]} Tryz.func339 (by kernel_rfl) (by kernel_rfl) h
def KU (P:Program) (v0:Value) (w:World) (R:Value→World→Prop):Prop:=vif v0 (R (.int .i64 1) w) (R (.int .i64 0) w)
theorem ya0 {v0 w R} (h:KU PP v0 w R):vcall PP kV #[v0] w R:=zp {} Tryz.func340 (by kernel_rfl) (by kernel_rfl) h
def X5 (P:Program) (v0:Value) (w:World) (R:Value→World→Prop):Prop:=yD P zb v0 w fun a b=>ze P zb a b fun b c=>vcall P xh #[b] c fun b c=>vun P .not b c fun b c=>vif b (R (.int .i64 0) c) (y3 c fun b=>ze P zb a b fun c d=>d=b∧zi P zb a 0 b fun d e=>e=b∧ze P zc d b fun e f=>f=b∧zq P .sub zc true e (.int .i64 1) b fun f g=>g=b∧vcall P zF #[c] b fun b c=>(zq P .sub zc true e (.int .i64 1) c fun g h=>g=f∧h=c)∧(ze P zc d c fun g h=>g=e∧h=c)∧(zi P zb a 0 c fun g h=>g=d∧h=c)∧vcall P qh #[b,f] c fun b c=>vif b (y3 c fun b=>zi P zb a 1 b fun d e=>e=b∧ze P zc d b fun d e=>e=b∧zi P zb a 0 b fun e f=>f=b∧ze P zc e b fun e f=>f=b∧zq P .shl zc true (.int .i64 1) e b fun e f=>f=b∧zq P .sub zc false d e b fun d e=>e=b∧R d b) (zi P zb a 1 c fun a b=>ze P zc a b fun a b=>R a b))
theorem Wk {v0 w R} (h:X5 PP v0 w R):vcall PP qZ #[v0] w R:=zp {ord:=[(3,[0,2,3,4,1,5],[(0,[1,5]),(2,[3,4,5]),(3,[4,5]),(4,[5]),(1,[5])]),(4,[0,1,2,3,4,5,6],[(0,[1,5,6]),(1,[5,6]),(2,[3,4,5,6]),(3,[4,5,6]),(4,[5,6]),(5,[6])])]} Tryz.func341 (by kernel_rfl) (by kernel_rfl) h
def Zd (P:Program) (v0 v1 v2 v3:Value) (w:World) (R:Value→World→Prop):Prop:=yD P zP v0 w fun _ a=>yD P z7 v2 a fun a b=>y3 b fun b=>zi P z7 a 1 b fun c d=>d=b∧ze P zc c b fun c d=>d=b∧zi P z7 a 2 b fun d e=>e=b∧ze P zc d b fun d e=>e=b∧zE P zb [(0,c),(1,d)] b fun c d=>d=b∧zi P z7 a 1 b fun d e=>e=b∧ze P zc d b fun e f=>f=b∧vcall P xh #[c] b fun b c=>(ze P zc d c fun f g=>f=e∧g=c)∧(zi P z7 a 1 c fun f g=>f=d∧g=c)∧vcall P yb #[b,e] c fun a b=>R a b
theorem Jx {v0 v1 v2 v3 w R} (h:Zd PP v0 v1 v2 v3 w R):vcall PP j1 #[v0,v1,v2,v3] w R:=zp {ord:=[(1,[0,1,2,3,4,6,7,5,8,9],[(0,[1,4,5,8,9]),(1,[4,5,8,9]),(2,[3,4,5,8,9]),(3,[4,5,8,9]),(4,[5,8,9]),(6,[7,8,9]),(7,[8,9]),(5,[8,9]),(8,[9])])]} Tryz.func342 (by kernel_rfl) (by kernel_rfl) h
def kC (P:Program) (v0 v1 v2 v3:Value) (w:World) (R:Value→World→Prop):Prop:=yD P zP v0 w fun _ a=>yD P z7 v2 a fun a b=>zi P z7 a 2 b fun a b=>ze P zc a b fun a b=>R a b
theorem Qy {v0 v1 v2 v3 w R} (h:kC PP v0 v1 v2 v3 w R):vcall PP qN #[v0,v1,v2,v3] w R:=zp {} Tryz.func343 (by kernel_rfl) (by kernel_rfl) h
def kE (P:Program) (v0 v1 v2 v3:Value) (w:World) (R:Value→World→Prop):Prop:=yD P zK v0 w fun _ a=>yD P z7 v2 a fun a b=>jI0 P (.func jG) [] [a] b fun a b=>vcall P yi #[v1,a] b fun a b=>zq P .lss zc true a (.int .i64 0) b fun b c=>vif b (R (.int .i64 (-1)) c) (zl P zu v1 a c fun a b=>zi P zz a 1 b fun a b=>ze P zc a b fun a b=>R a b)
theorem QA {v0 v1 v2 v3 w R} (h:kE PP v0 v1 v2 v3 w R):vcall PP qO #[v0,v1,v2,v3] w R:=zp {} Tryz.func344 (by kernel_rfl) (by kernel_rfl) h
def kf (P:Program) (v0 v1 v2 v3:Value) (w:World) (R:Value→World→Prop):Prop:=yD P zK v0 w fun _ a=>yD P z7 v2 a fun a b=>zi P z7 a 3 b fun a b=>ze P zG a b fun a b=>Qe P jB v1 a false b fun a b=>R a b
theorem XN {v0 v1 v2 v3 w R} (h:kf PP v0 v1 v2 v3 w R):vcall PP qy #[v0,v1,v2,v3] w R:=zp {} Tryz.func345 (by kernel_rfl) (by kernel_rfl) h
def jJ (P:Program) (v0 v1:Value) (w:World) (R:Value→World→Prop):Prop:=yD P zz v0 w fun a b=>zi P zz a 0 b fun a b=>ze P zG a b fun a b=>zi P z7 v1 3 b fun b c=>ze P zG b c fun b c=>zq P .eql zG false a b c fun a b=>R a b
theorem Xa {v0 v1 w R} (h:jJ PP v0 v1 w R):vcall PP jG #[v0,v1] w R:=zp {} Tryz.func346 (by kernel_rfl) (by kernel_rfl) h
def Zg (P:Program) (v0 v1 v2 v3:Value) (w:World) (R:Value→World→Prop):Prop:=yD P zN v0 w fun _ a=>yD P z7 v2 a fun a b=>y3 b fun b=>zi P z7 a 2 b fun c d=>d=b∧ze P zc c b fun c d=>d=b∧zq P .geq zc true c (.int .i64 0) b fun c d=>d=b∧vif c (zi P z7 a 1 b fun c d=>d=b∧ze P zc c b fun c d=>d=b∧zi P z7 a 2 b fun d e=>e=b∧ze P zc d b fun d e=>e=b∧zq P .geq zc false c d b fun c d=>d=b∧vif c (zi P z7 a 1 b fun c d=>d=b∧ze P zc c b fun c d=>d=b∧zl P zh v3 (.int .i64 0) b fun d e=>e=b∧ze P zc d b fun d e=>e=b∧zq P .lss zc false c d b fun c d=>d=b∧zi P z7 a 1 b fun d e=>e=b∧ze P zc d b fun d e=>e=b∧zi P z7 a 2 b fun e f=>f=b∧ze P zc e b fun e f=>f=b∧zq P .sub zc false d e b fun d e=>e=b∧zq P .add zc true d (.int .i64 1) b fun d e=>e=b∧vcall P yb #[c,d] b fun c d=>R c d) (zi P z7 a 1 b fun c d=>d=b∧ze P zc c b fun c d=>d=b∧zi P z7 a 2 b fun d e=>e=b∧ze P zc d b fun d e=>e=b∧zq P .sub zc false c d b fun c d=>d=b∧zq P .add zc true c (.int .i64 1) b fun c d=>d=b∧vcall P yb #[(.bool false),c] b fun c d=>R c d)) (zi P z7 a 1 b fun c d=>d=b∧ze P zc c b fun c d=>d=b∧zi P z7 a 2 b fun a d=>d=b∧ze P zc a b fun a d=>d=b∧zq P .sub zc false c a b fun a c=>c=b∧zq P .add zc true a (.int .i64 1) b fun a c=>c=b∧vcall P yb #[(.bool false),a] b fun a b=>R a b)
theorem JA {v0 v1 v2 v3 w R} (h:Zg PP v0 v1 v2 v3 w R):vcall PP j5 #[v0,v1,v2,v3] w R:=zp {ord:=[(1,[0,1,2,3,4,5,6,7,8,9,10,11,12,13,14,15,16,17,18,19,20,21,22,23,24,25],[(0,[1,2,3,4,5,6,7,8,9,10,11,12,13,14,15,16,17,24,25]),(1,[2,3,4,5,6,7,8,9,10,11,12,13,14,15,16,17,24,25]),(2,[3,4,5,6,7,8,9,10,11,12,13,14,15,16,17,24,25]),(3,[4,5,6,7,8,9,10,11,12,13,14,15,16,17,24,25]),(4,[5,8,9,10,11,12,13,14,15,16,17,24,25]),(5,[8,9,10,11,12,13,14,15,16,17,24,25]),(6,[7,8,9,10,11,12,13,14,15,16,17,24,25]),(7,[8,9,10,11,12,13,14,15,16,17,24,25]),(8,[9,10,11,12,13,14,15,16,17,24,25]),(9,[10,11,12,13,14,15,16,17,24,25]),(10,[11,12,13,14,15,16,17,24,25]),(11,[12,16,17,24,25]),(12,[16,17,24,25]),(13,[14,15,16,17,24,25]),(14,[15,16,17,24,25]),(15,[16,17,24,25]),(16,[17,24,25]),(17,[24,25]),(18,[19,22,23,24,25]),(19,[22,23,24,25]),(20,[21,22,23,24,25]),(21,[22,23,24,25]),(22,[23,24,25]),(23,[24,25]),(24,[25])])]} Tryz.func347 (by kernel_rfl) (by kernel_rfl) h
def kF (P:Program) (v0 v1 v2 v3:Value) (w:World) (R:Value→World→Prop):Prop:=yD P zN v0 w fun _ a=>yD P z7 v2 a fun a b=>xf (fun c=>y3 b fun b=>zl P yd v3 (.int .i64 0) b fun d e=>e=b∧ze P zb d b fun e f=>f=b∧zi P z7 a 1 b fun f g=>g=b∧ze P zc f b fun g h=>h=b∧zi P z7 a 2 b fun h i=>i=b∧ze P zc h b fun i j=>j=b∧(vcall P kW #[e,g,i] b fun j k=>zj P j 0 k fun l m=>m=k∧zj P j 1 k fun m n=>n=k∧(zY P zb k fun k n=>(zj P j 1 n fun o p=>o=m∧p=n)∧(zj P j 0 n fun o p=>o=l∧p=n)∧(zr P zb k l n fun _ l=>(zj P j 1 l fun o p=>o=m∧p=l)∧c [k] l)∧True)∧True)∧(zY P zb b fun b j=>(ze P zc h j fun o p=>o=i∧p=j)∧(zi P z7 a 2 j fun o p=>o=h∧p=j)∧(ze P zc f j fun o p=>o=g∧p=j)∧(zi P z7 a 1 j fun o p=>o=f∧p=j)∧(ze P zb d j fun o p=>o=e∧p=j)∧(zl P yd v3 (.int .i64 0) j fun o p=>o=d∧p=j)∧(vcall P kW #[e,g,i] j fun a d=>zj P a 0 d fun e f=>f=d∧zj P a 1 d fun f g=>g=d∧(zr P zb b e d fun _ d=>(zj P a 1 d fun o p=>o=f∧p=d)∧c [b] d)∧True)∧True)∧True) (fun a _ b=>zi P zb (sl 0 a) 1 b fun a b=>ze P zc a b fun a b=>R a b)
theorem QB {v0 v1 v2 v3 w R} (h:kF PP v0 v1 v2 v3 w R):vcall PP qP #[v0,v1,v2,v3] w R:=zp {cuts:=[(8194,[9])],trees:=[(1,(.st 0 (.st 1 (.st 2 (.st 3 (.st 4 (.st 5 (.st 6 (.alt 7 (.st 8 (.st 9 (.st 10 (.alt 11 (.alt 12 (.st 13 .nil) .no) .no)))) (.alt 11 (.alt 7 (.st 8 (.st 9 (.st 10 (.alt 12 (.st 13 .nil) .no)))) .no) .no))))))))),[(0,[1,2,7,8,9,10,12,13]),(1,[2,7,8,9,10,12,13]),(2,[7,8,9,10,12,13]),(3,[4,7,8,9,10,12,13]),(4,[7,8,9,10,12,13]),(5,[6,7,8,9,10,12,13]),(6,[7,8,9,10,12,13]),(7,[8,9,10,12,13]),(8,[9,10,12,13]),(9,[12,13]),(10,[13]),(11,[12,13]),(12,[13])])]} Tryz.func348 (by kernel_rfl) (by kernel_rfl) h
def KX (P:Program) (v0 v1 v2:Value) (w:World) (R:Value→World→Prop):Prop:=yD P zb v0 w fun a b=>zY P zb b fun b c=>xf (fun d=>ze P zb a c fun c e=>vcall P xh #[c] e fun c e=>vun P .not c e fun c e=>vif c (zE P zb [] e fun c f=>zr P zb b c f fun _ c=>vlv P zb b c fun c f=>R (.tuple #[c,(.bool false)]) f) (zq P .lss zc true v2 (.int .i64 0) e fun c e=>vif c (zE P zb [] e fun c f=>zr P zb b c f fun _ c=>vlv P zb b c fun c f=>R (.tuple #[c,(.bool false)]) f) (zq P .lss zc false v1 v2 e fun c e=>vif c (zE P zb [] e fun c f=>zr P zb b c f fun _ c=>vlv P zb b c fun c f=>R (.tuple #[c,(.bool false)]) f) (zi P zb a 0 e fun c e=>ze P zc c e fun c e=>zq P .geq zc false v1 c e fun c e=>vif c (zE P zb [] e fun c f=>zr P zb b c f fun _ c=>vlv P zb b c fun c f=>R (.tuple #[c,(.bool false)]) f) (d [] e))))) (fun _ _ c=>zq P .sub zc false v1 v2 c fun c d=>zq P .add zc true c (.int .i64 1) d fun c d=>ze P zb a d fun a d=>vcall P zF #[a] d fun a d=>zq P .shr y9 false a v2 d fun a d=>vcall P jX #[a,c] d fun a d=>ZR P y9 zc a d fun a d=>zE P zb [(0,c),(1,a)] d fun a c=>zr P zb b a c fun _ a=>vlv P zb b a fun a b=>R (.tuple #[a,(.bool true)]) b)
theorem yc0 {v0 v1 v2 w R} (h:KX PP v0 v1 v2 w R):vcall PP kW #[v0,v1,v2] w R:=zp {cuts:=[(8195,[])]} Tryz.func349 (by kernel_rfl) (by kernel_rfl) h
def ZF (P:Program) (v0 v1 v2 v3:Value) (w:World) (R:Value→World→Prop):Prop:=yD P zU v0 w fun _ a=>yD P z7 v2 a fun _ a=>y3 a fun a=>zl P zh v3 (.int .i64 0) a fun b c=>c=a∧ze P zc b a fun b c=>c=a∧zq P .eql zc true b (.int .i64 0) a fun b c=>c=a∧vif b (zl P zh v3 (.int .i64 1) a fun b c=>c=a∧ze P zc b a fun b c=>c=a∧zl P zh v3 (.int .i64 2) a fun c d=>d=a∧ze P zc c a fun c d=>d=a∧zq P .eql zc false b c a fun b c=>c=a∧zl P zh v3 (.int .i64 1) a fun c d=>d=a∧ze P zc c a fun c d=>d=a∧vcall P yb #[b,c] a fun b c=>R b c) (zl P zh v3 (.int .i64 1) a fun b c=>c=a∧ze P zc b a fun b c=>c=a∧vcall P yb #[(.bool false),b] a fun a b=>R a b)
theorem Ke {v0 v1 v2 v3 w R} (h:ZF PP v0 v1 v2 v3 w R):vcall PP js #[v0,v1,v2,v3] w R:=zp {ord:=[(1,[0,1,2,3,4,5,6,7,8,9,10,11,12,13,14,15,16,17],[(0,[1,2,3,4,5,6,7,8,9,10,11,12,16,17]),(1,[2,3,4,5,6,7,8,9,10,11,12,16,17]),(2,[3,4,5,6,7,8,9,10,11,12,16,17]),(3,[4,5,6,7,8,9,10,11,12,16,17]),(4,[5,6,7,8,9,10,11,12,16,17]),(5,[6,7,11,12,16,17]),(6,[7,11,12,16,17]),(7,[11,12,16,17]),(8,[9,10,11,12,16,17]),(9,[10,11,12,16,17]),(10,[11,12,16,17]),(11,[12,16,17]),(12,[16,17]),(13,[14,15,16,17]),(14,[15,16,17]),(15,[16,17]),(16,[17])])]} Tryz.func350 (by kernel_rfl) (by kernel_rfl) h
def Zf (P:Program) (v0 v1 v2 v3:Value) (w:World) (R:Value→World→Prop):Prop:=yD P zU v0 w fun _ a=>yD P z7 v2 a fun _ a=>zl P yd v3 (.int .i64 0) a fun a b=>zi P zb a 1 b fun a b=>ze P zc a b fun a b=>zq P .eql zc true a (.int .i64 1) b fun a b=>vif a (zl P yd v3 (.int .i64 1) b fun a c=>zi P zb a 1 c fun a c=>ze P zc a c fun a c=>R a c) (zl P yd v3 (.int .i64 2) b fun a b=>zi P zb a 1 b fun a b=>ze P zc a b fun a b=>R a b)
theorem Jz {v0 v1 v2 v3 w R} (h:Zf PP v0 v1 v2 v3 w R):vcall PP j3 #[v0,v1,v2,v3] w R:=zp {} Tryz.func351 (by kernel_rfl) (by kernel_rfl) h
def kK (P:Program) (v0 v1 v2 v3:Value) (w:World) (R:Value→World→Prop):Prop:=yD P zy v0 w fun _ a=>yD P z7 v2 a fun _ a=>vcall P xu #[v3,(.func (.func jH) #[] #[])] a fun a b=>vun P .not a b fun a b=>vcall P yb #[a,(.int .i64 0)] b fun a b=>R a b
theorem QG {v0 v1 v2 v3 w R} (h:kK PP v0 v1 v2 v3 w R):vcall PP qT #[v0,v1,v2,v3] w R:=zp {} Tryz.func352 (by kernel_rfl) (by kernel_rfl) h
def kk (P:Program) (v0 v1 v2 v3:Value) (w:World) (R:Value→World→Prop):Prop:=yD P zy v0 w fun a b=>yD P z7 v2 b fun _ b=>zi P zy a 1 b fun a b=>ze P jC a b fun a b=>vcallv P a #[v3] b fun a b=>vcall P kV #[a] b fun a b=>R a b
theorem XR {v0 v1 v2 v3 w R} (h:kk PP v0 v1 v2 v3 w R):vcall PP qA #[v0,v1,v2,v3] w R:=zp {} Tryz.func353 (by kernel_rfl) (by kernel_rfl) h
def xW (P:Program) (v0 v1:Value) (w:World) (R:Value→World→Prop):Prop:=vcall P xH #[v0,v1] w fun a b=>zq P .geq zc true a (.int .i64 0) b fun a b=>R a b
theorem kc {v0 v1 w R} (h:xW PP v0 v1 w R):vcall PP xu #[v0,v1] w R:=zp {} Tryz.func354 (by kernel_rfl) (by kernel_rfl) h
def jL (P:Program) (v0:Value) (w:World) (R:Value→World→Prop):Prop:=zq P .neq zc true v0 (.int .i64 0) w fun a b=>R a b
theorem Xc {v0 w R} (h:jL PP v0 w R):vcall PP jH #[v0] w R:=zp {} Tryz.func355 (by kernel_rfl) (by kernel_rfl) h
def qJ (P:Program) (v0 v1:Value) (w:World) (R:Value→World→Prop):Prop:=vbi P .len [zh] zc [v0] w fun a b=>yS [(.int .i64 0)] b fun b c _ d=>zq P .lss zc false (sl 0 c) a d fun a d=>vif a (zl P zh v0 (sl 0 c) d fun a e=>ze P zc a e fun a e=>vcallv P v1 #[a] e fun a e=>vif a (R (sl 0 c) e) (zq P .add zc true (sl 0 c) (.int .i64 1) e fun a c=>b [a] c)) (R (.int .i64 (-1)) d)
theorem Za {v0 v1 w R} (h:qJ PP v0 v1 w R):vcall PP xH #[v0,v1] w R:=zp {loops:=[(2,[8])]} Tryz.func356 (by kernel_rfl) (by kernel_rfl) h
def Zq (P:Program) (v0 v1 v2 v3:Value) (w:World) (R:Value→World→Prop):Prop:=yD P zR v0 w fun _ a=>yD P z7 v2 a fun _ a=>y3 a fun a=>zl P zh v3 (.int .i64 0) a fun b c=>c=a∧ze P zc b a fun b c=>c=a∧zq P .gtr zc true b (.int .i64 0) a fun b c=>c=a∧vif b (zl P zh v3 (.int .i64 0) a fun b c=>c=a∧ze P zc b a fun b c=>c=a∧zl P zh v3 (.int .i64 1) a fun c d=>d=a∧ze P zc c a fun c d=>d=a∧zq P .eql zc false b c a fun b c=>c=a∧zl P zh v3 (.int .i64 0) a fun c d=>d=a∧ze P zc c a fun c d=>d=a∧vcall P yb #[b,c] a fun b c=>R b c) (zl P zh v3 (.int .i64 0) a fun b c=>c=a∧ze P zc b a fun b c=>c=a∧vcall P yb #[(.bool false),b] a fun a b=>R a b)
theorem JK {v0 v1 v2 v3 w R} (h:Zq PP v0 v1 v2 v3 w R):vcall PP ja #[v0,v1,v2,v3] w R:=zp {ord:=[(1,[0,1,2,3,4,5,6,7,8,9,10,11,12,13,14,15,16,17],[(0,[1,2,3,4,5,6,7,8,9,10,11,12,16,17]),(1,[2,3,4,5,6,7,8,9,10,11,12,16,17]),(2,[3,4,5,6,7,8,9,10,11,12,16,17]),(3,[4,5,6,7,8,9,10,11,12,16,17]),(4,[5,6,7,8,9,10,11,12,16,17]),(5,[6,7,11,12,16,17]),(6,[7,11,12,16,17]),(7,[11,12,16,17]),(8,[9,10,11,12,16,17]),(9,[10,11,12,16,17]),(10,[11,12,16,17]),(11,[12,16,17]),(12,[16,17]),(13,[14,15,16,17]),(14,[15,16,17]),(15,[16,17]),(16,[17])])]} Tryz.func357 (by kernel_rfl) (by kernel_rfl) h
def kM (P:Program) (v0 v1 v2 v3:Value) (w:World) (R:Value→World→Prop):Prop:=yD P zR v0 w fun _ a=>yD P z7 v2 a fun a b=>xf (fun c=>y3 b fun b=>zi P z7 a 0 b fun d e=>e=b∧ze P zc d b fun e f=>f=b∧zl P yd v3 (.int .i64 0) b fun f g=>g=b∧ze P zb f b fun g h=>h=b∧zl P yd v3 (.int .i64 1) b fun h i=>i=b∧ze P zb h b fun i j=>j=b∧(vcall P qL #[e,g,i] b fun j k=>zj P j 0 k fun l m=>m=k∧zj P j 1 k fun m n=>n=k∧(zY P zb k fun k n=>(zj P j 1 n fun o p=>o=m∧p=n)∧(zj P j 0 n fun o p=>o=l∧p=n)∧(zr P zb k l n fun _ l=>(zj P j 1 l fun o p=>o=m∧p=l)∧c [k] l)∧True)∧True)∧(zY P zb b fun b j=>(ze P zb h j fun o p=>o=i∧p=j)∧(zl P yd v3 (.int .i64 1) j fun o p=>o=h∧p=j)∧(ze P zb f j fun o p=>o=g∧p=j)∧(zl P yd v3 (.int .i64 0) j fun o p=>o=f∧p=j)∧(ze P zc d j fun o p=>o=e∧p=j)∧(zi P z7 a 0 j fun o p=>o=d∧p=j)∧(vcall P qL #[e,g,i] j fun a d=>zj P a 0 d fun e f=>f=d∧zj P a 1 d fun f g=>g=d∧(zr P zb b e d fun _ d=>(zj P a 1 d fun o p=>o=f∧p=d)∧c [b] d)∧True)∧True)∧True) (fun a _ b=>zi P zb (sl 0 a) 1 b fun a b=>ze P zc a b fun a b=>R a b)
theorem QI {v0 v1 v2 v3 w R} (h:kM PP v0 v1 v2 v3 w R):vcall PP qU #[v0,v1,v2,v3] w R:=zp {cuts:=[(8194,[9])],trees:=[(1,(.st 0 (.st 1 (.st 2 (.st 3 (.st 4 (.st 5 (.st 6 (.st 7 (.alt 8 (.st 9 (.st 10 (.st 11 (.alt 12 (.alt 13 (.st 14 .nil) .no) .no)))) (.alt 12 (.alt 8 (.st 9 (.st 10 (.st 11 (.alt 13 (.st 14 .nil) .no)))) .no) .no)))))))))),[(0,[1,8,9,10,11,13,14]),(1,[8,9,10,11,13,14]),(2,[3,4,8,9,10,11,13,14]),(3,[4,8,9,10,11,13,14]),(4,[8,9,10,11,13,14]),(5,[6,7,8,9,10,11,13,14]),(6,[7,8,9,10,11,13,14]),(7,[8,9,10,11,13,14]),(8,[9,10,11,13,14]),(9,[10,11,13,14]),(10,[13,14]),(11,[14]),(12,[13,14]),(13,[14])])]} Tryz.func358 (by kernel_rfl) (by kernel_rfl) h
end Go.Proofs.YtaekfnbnhjgboaaGreatDoor
end
section
namespace Go.Proofs.YtaekfnbnhjgboaaGreatDoor
open Go Go.Vc Go.Proofs
variable {w:World} {K:Value→World→Prop} {F:Nat→Prop}
theorem qH0 (x y:Bool):(Op.equal jI (.bool x) (.bool y)).run PP w= .ok (x==y) w:=by
 have hu:PP.underlying jI=some .bool:=by kernel_rfl
 have:∀d,(Op.equalIn (d+1) jI (.bool x) (.bool y)).run PP w= .ok (x==y) w:=fun d=>by
  rw[Op.equalIn,Sem.run_bind,run_underlying hu];rfl
 exact this 9999
@[push_cast] theorem vbin_neb (b:Bool) (x y:Bool):zq PP .neq jI b (.bool x) (.bool y) w K=K (.bool (x != y)) w:=
 yB rfl (by simp[binOp,qH0,Result.andThen,bne])
@[push_cast] theorem vbin_eqb (b:Bool) (x y:Bool):zq PP .eql jI b (.bool x) (.bool y) w K=K (.bool (x==y)) w:=
 yB rfl (by simp[binOp,qH0,Result.andThen])
theorem IndexFunc_Lint_int {v f:Value} {vs:List Value} {p:Nat→Bool} (hx:Vals F w v vs) (hf:∀i,i<vs.length→FnB PP w f #[vs.getD i undef] (p i))
  (hK:∀w',Ext w w'→K (.int .i64 (idxI vs.length p)) w'):vcall PP xH #[v,f] w K:=by
 apply Za
 unfold qJ
 simp(disch:=first|(simp only[push_cast];done)|omega) only[push_cast,hx.len]
 have hlen:vs.length≤9223372036854775807:=by obtain⟨_,_,_,h1,h2,_⟩:=hx.shape;simp at h1;omega
 refine vloop_up vs.length (fun i u w'=>u=[.int .i64 i]∧Ext w w'∧∀j,j<i→p j=false) ⟨rfl,Same.refl _ _,by omega⟩ ?_
 rintro i _ g w1 C hi ⟨rfl,he,hp⟩ hC
 simp only[push_cast]
 refine zg (fun hlt=>?_) (fun hge=>?_)
 ·have hx1:=hx.ext he
  simp(disch:=first|(simp only[push_cast];done)|omega) only[push_cast,hx1.iaddr,hx1.load]
  refine hf i (by omega) w1 _ he fun w2 he2=>yG (fun hb=>?_) (fun hb=>?_)
  ·have:=hK w2 (he.trans he2)
   rwa[idxI_some (by omega) hb hp] at this
  ·simp(disch:=omega) only[push_cast,zA]
   exact hC (by omega) _ _ ⟨by simp,he.trans he2,fun j hj=>by
    by_cases h:j=i
    ·subst h;exact hb
    ·exact hp j (by omega)⟩
 ·have:=hK w1 he
  rwa[WN (fun j hj=>hp j (by omega))] at this
theorem Q4 {v f:Value} {vs:List Value} {p:Nat→Bool} (hx:Vals F w v vs) (hf:∀i,i<vs.length→FnB PP w f #[vs.getD i undef] (p i))
  (hK:∀w',Ext w w'→K (.bool ((List.range vs.length).any p)) w'):vcall PP xu #[v,f] w K:=by
 apply kc
 unfold xW
 refine IndexFunc_Lint_int hx hf fun w' he=>?_
 simp only[push_cast,Jv]
 exact hK w' he
end Go.Proofs.YtaekfnbnhjgboaaGreatDoor
end
section
namespace Go.M
structure Gt where
 x:Bool
 a:Int
 b:Int
deriving DecidableEq
abbrev Gs:=List Gt
def absI (a:Int):Int:=if a<0 then-a else a
def turnI (c:Bool) (a:Int):Int:=if c then-a else a
def putG (n:Nat) (gs:Gs) (g:Gt):Gs×Int:=
 if g∈gs then(gs,2+n+gs.idxOf g) else if 600≤gs.length then(gs,0) else(gs++[g],2+n+gs.length)
def gateA (a b:Int):Gt:=if absI b<absI a then⟨false,b,a⟩ else⟨false,a,b⟩
def gateX (a b:Int):Gt:=if absI b<absI a then⟨true,absI b,absI a⟩ else⟨true,absI a,absI b⟩
def andG (n:Nat) (gs:Gs) (a b:Int):Gs×Int:=
 if a= -1∨b= -1 then(gs,-1) else if a=1 then(gs,b) else if b=1 then(gs,a) else if a=b then(gs,a) else if a= -b then(gs,-1) else putG n gs (gateA a b)
def xorG (n:Nat) (gs:Gs) (a b:Int):Gs×Int:=
 if absI a=1 then(gs,turnI (decide (a=1)) b) else if absI b=1 then(gs,turnI (decide (b=1)) a) else if a=b then(gs,-1) else if a= -b then(gs,1)
 else((putG n gs (gateX a b)).1,turnI (decide (a<0) != decide (b<0)) (putG n gs (gateX a b)).2)
inductive Bd (α:Type) where
 |ret (a:α)
 |and (x y:Int) (k:Int→Bd α)
 |xor (x y:Int) (k:Int→Bd α)
namespace Bd
def bind {α β:Type}:Bd α→(α→Bd β)→Bd β
 |ret a,f=>f a
 |and x y k,f=>and x y fun v=>bind (k v) f
 |xor x y k,f=>xor x y fun v=>bind (k v) f
def map {α β:Type} (f:α→β) (p:Bd α):Bd β:=p.bind fun a=>ret (f a)
def Reach {α:Type}:Bd α→α→Prop
 |ret a,b=>b=a
 |and _ _ k,b=> ∃v,Reach (k v) b
 |xor _ _ k,b=> ∃v,Reach (k v) b
def run {α:Type} (n:Nat):Bd α→Gs→Option (Gs×α)
 |ret a,gs=>some (gs,a)
 |and x y k,gs=>if(andG n gs x y).2=0 then none else run n (k (andG n gs x y).2) (andG n gs x y).1
 |xor x y k,gs=>if(xorG n gs x y).2=0 then none else run n (k (xorG n gs x y).2) (xorG n gs x y).1
def Out {α:Type} (n:Nat) (p:Bd α) (st st':Option Gs) (a:α):Prop:=
 match st with
 |some gs=>(∃gs',p.run n gs=some (gs',a)∧st'=some gs')∨(p.run n gs=none∧st'=none∧p.Reach a)
 |none=>st'=none∧p.Reach a
theorem bind_assoc {α β γ:Type} (p:Bd α) (f:α→Bd β) (g:β→Bd γ):(p.bind f).bind g=p.bind fun a=>(f a).bind g:=by
 induction p with
 |ret a=>rfl
 |and x y k ih=>simp only[bind];congr 1;funext v;exact ih v
 |xor x y k ih=>simp only[bind];congr 1;funext v;exact ih v
theorem run_bind {α β:Type} {n:Nat} (p:Bd α) (f:α→Bd β) (gs:Gs):(p.bind f).run n gs=(p.run n gs).bind fun r=>(f r.2).run n r.1:=by
 induction p generalizing gs with
 |ret a=>rfl
 |and x y k ih=>
  simp only[bind,run];split
  ·rfl
  ·exact ih _ _
 |xor x y k ih=>
  simp only[bind,run];split
  ·rfl
  ·exact ih _ _
theorem reach_bind {α β:Type} {p:Bd α} {f:α→Bd β} {a:α} {b:β} (h:p.Reach a) (h2:(f a).Reach b):(p.bind f).Reach b:=by
 induction p with
 |ret c=>cases h;exact h2
 |and x y k ih=>obtain⟨v,hv⟩:=h;exact⟨v,ih v hv⟩
 |xor x y k ih=>obtain⟨v,hv⟩:=h;exact⟨v,ih v hv⟩
theorem reach_of_run {α:Type} {n:Nat} {p:Bd α} {gs gs':Gs} {a:α} (h:p.run n gs=some (gs',a)):p.Reach a:=by
 induction p generalizing gs with
 |ret c=>simp only[run,Option.some.injEq,Prod.mk.injEq] at h;exact h.2.symm
 |and x y k ih=>
  simp only[run] at h;split at h
  ·cases h
  ·exact⟨_,ih _ h⟩
 |xor x y k ih=>
  simp only[run] at h;split at h
  ·cases h
  ·exact⟨_,ih _ h⟩
theorem Out.reach {α:Type} {n:Nat} {p:Bd α} {st st':Option Gs} {a:α} (h:Out n p st st' a):p.Reach a:=by
 cases st with
 |none=>exact h.2
 |some gs=>
  rcases h with⟨gs',h,_⟩|⟨_,_,h⟩
  ·exact reach_of_run h
  ·exact h
theorem Out.ret {α:Type} {n:Nat} (a:α) (st:Option Gs):Out n (.ret a) st st a:=by
 cases st with
 |none=>exact⟨rfl,rfl⟩
 |some gs=>exact .inl ⟨gs,rfl,rfl⟩
theorem Out.bind {α β:Type} {n:Nat} {p:Bd α} {f:α→Bd β} {st st' st'':Option Gs} {a:α} {b:β} (h:Out n p st st' a) (h2:Out n (f a) st' st'' b):Out n (p.bind f) st st'' b:=by
 cases st with
 |none=>
  obtain⟨rfl,hr⟩:=h
  exact⟨h2.1,reach_bind hr h2.2⟩
 |some gs=>
  rcases h with⟨gs',hr,rfl⟩|⟨hr,rfl,hq⟩
  ·rcases h2 with⟨gs'',h2,rfl⟩|⟨h2,rfl,hq⟩
   ·exact .inl ⟨gs'',by rw[run_bind,hr];exact h2,rfl⟩
   ·exact .inr ⟨by rw[run_bind,hr];exact h2,rfl,reach_bind (reach_of_run hr) hq⟩
  ·exact .inr ⟨by rw[run_bind,hr];rfl,h2.1,reach_bind hq h2.2⟩
theorem Out.map {α β:Type} {n:Nat} {p:Bd α} (f:α→β) {st st':Option Gs} {a:α} (h:Out n p st st' a):Out n (p.map f) st st' (f a):=h.bind (Out.ret _ _)
end Bd
theorem yz0 {gs F:Gs} {g:Gt} (h:gs<+:F) (hm:g∈gs):F.idxOf g=gs.idxOf g:=by
 obtain⟨t,rfl⟩:=h
 rw[List.idxOf_append,if_pos hm]
theorem qJ0 {n:Nat} (gs:Gs) (g:Gt):gs<+:(putG n gs g).1:=by
 unfold putG
 split
 ·exact List.prefix_refl _
 ·split
  ·exact List.prefix_refl _
  ·exact List.prefix_append _ _
theorem yp0 {n:Nat} {gs F:Gs} {g:Gt} (h0:(putG n gs g).2≠0) (h:(putG n gs g).1<+:F):putG n F g=(F,(putG n gs g).2):=by
 unfold putG at h0 h⊢
 by_cases hm:g∈gs
 ·rw[if_pos hm] at h⊢
  rw[if_pos (h.subset hm),yz0 h hm]
 ·rw[if_neg hm] at h0 h⊢
  by_cases hl:600≤gs.length
  ·rw[if_pos hl] at h0;exact absurd rfl h0
  ·rw[if_neg hl] at h⊢
   have hin:g∈gs++[g]:=by simp
   rw[if_pos (h.subset hin),yz0 h hin,List.idxOf_append,if_neg hm]
   simp
theorem Zd0 {n:Nat} (gs:Gs) (a b:Int):gs<+:(andG n gs a b).1:=by
 unfold andG
 repeat' split
 all_goals first|exact List.prefix_refl _|exact qJ0 _ _
theorem kK0 {n:Nat} (gs:Gs) (a b:Int):gs<+:(xorG n gs a b).1:=by
 unfold xorG
 repeat' split
 all_goals first|exact List.prefix_refl _|exact qJ0 _ _
theorem ji0 {n:Nat} {gs F:Gs} {a b:Int} (h0:(andG n gs a b).2≠0) (h:(andG n gs a b).1<+:F):andG n F a b=(F,(andG n gs a b).2):=by
 unfold andG at h0 h⊢
 repeat' split at h0
 all_goals simp_all
 exact yp0 h0 h
theorem turn_zero {c:Bool} {m:Int}:turnI c m=0↔m=0:=by cases c<;>simp[turnI]
theorem qo0 {n:Nat} {gs F:Gs} {a b:Int} (h0:(xorG n gs a b).2≠0) (h:(xorG n gs a b).1<+:F):xorG n F a b=(F,(xorG n gs a b).2):=by
 unfold xorG at h0 h⊢
 repeat' split at h0
 all_goals simp_all
 have:=yp0 (n:=n) (g:=gateX a b) (fun e=>h0 (turn_zero.2 e)) h
 rw[this]
 exact⟨rfl,rfl⟩
namespace Bd
theorem run_pre {α:Type} {n:Nat} {p:Bd α} {gs gs':Gs} {a:α} (h:p.run n gs=some (gs',a)):gs<+:gs':=by
 induction p generalizing gs with
 |ret c=>simp only[run,Option.some.injEq,Prod.mk.injEq] at h;rw[h.1];exact List.prefix_refl _
 |and x y k ih=>
  simp only[run] at h;split at h
  ·cases h
  ·exact(Zd0 gs x y).trans (ih _ h)
 |xor x y k ih=>
  simp only[run] at h;split at h
  ·cases h
  ·exact(kK0 gs x y).trans (ih _ h)
theorem run_again {α:Type} {n:Nat} {p:Bd α} {gs gs' F:Gs} {a:α} (h:p.run n gs=some (gs',a)) (hF:gs'<+:F):p.run n F=some (F,a):=by
 induction p generalizing gs with
 |ret c=>simp only[run,Option.some.injEq,Prod.mk.injEq] at h⊢;exact⟨trivial,h.2⟩
 |and x y k ih=>
  simp only[run] at h⊢
  split at h
  ·cases h
  ·next h0=>
   have hp:=(run_pre h).trans hF
   rw[ji0 h0 hp]
   simp only
   rw[if_neg h0]
   exact ih _ h
 |xor x y k ih=>
  simp only[run] at h⊢
  split at h
  ·cases h
  ·next h0=>
   have hp:=(run_pre h).trans hF
   rw[qo0 h0 hp]
   simp only
   rw[if_neg h0]
   exact ih _ h
end Bd
def litV (vals:List Bool) (m:Int):Bool:=if 0<m then vals.getD (m-1).toNat false else !vals.getD (-m-1).toNat false
def has (k:Nat) (m:Int):Prop:=m≠0∧ -(k:Int)≤m∧m≤k
def gateV (vals:List Bool) (g:Gt):Bool:=if g.x then litV vals g.a != litV vals g.b else litV vals g.a&&litV vals g.b
def valsG:List Bool→Gs→List Bool
 |vals,[]=>vals
 |vals,g::gs=>valsG (vals++[gateV vals g]) gs
def ZQ0 (n k:Nat) (g:Gt):Prop:=2≤absI g.a∧absI g.a<absI g.b∧absI g.b≤1+n+k∧(g.x=true→0<g.a∧0<g.b)
structure NetG (n:Nat) (gs:Gs):Prop where
 few:gs.length≤600
 gate:∀k,(h:k<gs.length)→ZQ0 n k gs[k]
 once:gs.Nodup
theorem lit_neg (vals:List Bool) {m:Int} (h:m≠0):litV vals (-m)= !litV vals m:=by
 unfold litV
 by_cases h1:0<m
 ·rw[if_neg (by omega),if_pos h1,Int.neg_neg]
 ·rw[if_pos (by omega),if_neg h1,Bool.not_not]
theorem valsG_pre:∀(gs:Gs) (vals:List Bool),vals<+:valsG vals gs
 |[],vals=>List.prefix_refl _
 |g::gs,vals=>(List.prefix_append _ _).trans (valsG_pre gs _)
theorem k70 {k l:Nat} {m:Int} (h:has k m) (hl:k≤l):has l m:=⟨h.1,by have:=h.2.1;omega,by have:=h.2.2;omega⟩
def Says {α:Type} (ρ:Int→Bool):Nat→Bd α→(Nat→α→Prop)→Prop
 |k,.ret a,Q=>Q k a
 |k,.and x y c,Q=>has k x∧has k y∧∀k' v,k≤k'→has k' v→ρ v=(ρ x&&ρ y)→Says ρ k' (c v) Q
 |k,.xor x y c,Q=>has k x∧has k y∧∀k' v,k≤k'→has k' v→ρ v=(ρ x != ρ y)→Says ρ k' (c v) Q
theorem Says.bind {α β:Type} {ρ:Int→Bool} {p:Bd α} {f:α→Bd β} {Q:Nat→β→Prop}:∀{k:Nat},Says ρ k p (fun k' a=>Says ρ k' (f a) Q)→Says ρ k (p.bind f) Q:=by
 induction p with
 |ret a=>intro k h;exact h
 |and x y c ih=>intro k ⟨h1,h2,h⟩;exact⟨h1,h2,fun k' v hk hv hr=>ih v (h k' v hk hv hr)⟩
 |xor x y c ih=>intro k ⟨h1,h2,h⟩;exact⟨h1,h2,fun k' v hk hv hr=>ih v (h k' v hk hv hr)⟩
theorem Says.mono {α:Type} {ρ:Int→Bool} {p:Bd α} {Q Q':Nat→α→Prop}:∀{k:Nat},Says ρ k p Q→(∀k' a,k≤k'→Q k' a→Q' k' a)→Says ρ k p Q':=by
 induction p with
 |ret a=>intro k h hq;exact hq _ _ (Nat.le_refl _) h
 |and x y c ih=>intro k ⟨h1,h2,h⟩ hq;exact⟨h1,h2,fun k' v hk hv hr=>ih v (h k' v hk hv hr) fun k'' a hk'=>hq k'' a (Nat.le_trans hk hk')⟩
 |xor x y c ih=>intro k ⟨h1,h2,h⟩ hq;exact⟨h1,h2,fun k' v hk hv hr=>ih v (h k' v hk hv hr) fun k'' a hk'=>hq k'' a (Nat.le_trans hk hk')⟩
end Go.M
end
section
namespace Go.M
def orB (x y:Int):Bd Int:= .and (-x) (-y) fun v=> .ret (-v)
def muxB (c x y:Int):Bd Int:= .and c x fun p=> .and (-c) y fun q=>orB p q
def sumB:List Int→List Int→Int→Bd (List Int)
 |x::xs,y::ys,c=> .xor x y fun h=> .xor h c fun s=> .and x y fun p=> .and h c fun q=>(orB p q).bind fun c'=>(sumB xs ys c').map (s:: ·)
 |_,_,_=> .ret []
def lessB:List Int→List Int→Int→Bd Int
 |x::xs,y::ys,r=> .xor x y fun d=>(muxB d y r).bind fun r'=>lessB xs ys r'
 |_,_,r=> .ret r
def sameB:List Int→List Int→Int→Bd Int
 |x::xs,y::ys,r=> .xor x y fun d=> .and r (-d) fun r'=>sameB xs ys r'
 |_,_,r=> .ret r
def eachB (f:Int→Int→Bd Int):List Int→List Int→Bd (List Int)
 |x::xs,y::ys=>(f x y).bind fun s=>(eachB f xs ys).map (s:: ·)
 |_,_=> .ret []
def rowB (s:Int):List Int→Bd (List Int)
 |x::xs=> .and x s fun v=>(rowB s xs).map (v:: ·)
 |[]=> .ret []
def offsL (n:Nat):List Int:=List.replicate n (-1)
def mulB (xs:List Int):List Int→Nat→List Int→Bd (List Int)
 |y::ys,i,s=>(rowB y (xs.take (xs.length-i))).bind fun r=>(sumB s (offsL i++r) (-1)).bind fun s'=>mulB xs ys (i+1) s'
 |[],_,s=> .ret s
def negL (xs:List Int):List Int:=xs.map fun x=> -x
def divB (xs wide:List Int):Nat→List Int→List Int→Bd (List Int×List Int)
 |n+1,r,q=>(lessB (xs.getD n 0::r) wide (-1)).bind fun l=>(sumB (xs.getD n 0::r) (negL wide) 1).bind fun u=>
   (eachB (muxB l) ((xs.getD n 0::r).take xs.length) (u.take xs.length)).bind fun r'=>divB xs wide n r' (q.set n (-l))
 |0,r,q=> .ret (q,r)
def fromL (up:Bool) (fill:Int) (s:List Int) (by_ k:Nat):Int:=if up then(if k<by_ then fill else s.getD (k-by_) 0) else if k+by_<s.length then s.getD (k+by_) 0 else fill
def shiftB (up:Bool) (fill:Int):List Int→Nat→List Int→Bd (List Int)
 |c::ys,i,s=>(eachB (muxB c) ((List.range s.length).map (fromL up fill s (2^i))) s).bind fun s'=>shiftB up fill ys (i+1) s'
 |[],_,s=> .ret s
def unB (op:Int) (x:List Int):Bd (List Int):=if op=1 then .ret (negL x) else sumB (offsL x.length) (negL x) 1
def binB (op:Int) (x y:List Int):Bd (List Int):=
 if op=14 then .ret (y++x)
 else if op=3 then eachB (fun a b=> .and a b .ret) x y
 else if op=4 then eachB orB x y
 else if op=5 then eachB (fun a b=> .xor a b .ret) x y
 else if op=6 then sumB x y (-1)
 else if op=7 then sumB x (negL y) 1
 else if op=8 then mulB x y 0 (offsL x.length)
 else if op=9 then(divB x (y++[-1]) x.length (offsL x.length) (offsL x.length)).map (·.1)
 else if op=10 then(divB x (y++[-1]) x.length (offsL x.length) (offsL x.length)).map (·.2)
 else if op=11 then shiftB true (-1) y 0 x
 else if op=12 then shiftB false (-1) y 0 x
 else shiftB false (x.getD (x.length-1) 0) y 0 x
def swapT (x y:List Int):List Int:=x.set (x.length-1) (y.getD (x.length-1) 0)
def cmpB (op:Int) (x y:List Int):Bd Int:=
 if op=15 then sameB x y 1 else if op=16 then lessB x y (-1) else lessB (swapT x y) (swapT y x) (-1)
structure Rho (ρ:Int→Bool):Prop where
 neg:∀m,m≠0→ρ (-m)= !ρ m
 one:ρ 1=true
def hasL (k:Nat) (xs:List Int):Prop:=∀x,x∈xs→has k x
theorem hasL.mono {k l:Nat} {xs:List Int} (h:hasL k xs) (hl:k≤l):hasL l xs:=fun x hx=>k70 (h x hx) hl
section
variable {ρ:Int→Bool} {k:Nat} {Q:Nat→Int→Prop} {QL:Nat→List Int→Prop}
theorem Rho.mone (h:Rho ρ):ρ (-1)=false:=by rw[h.neg 1 (by decide),h.one];rfl
end
end Go.M
end
section
namespace Go.M
open Go.Vc
def oneM (t:Tm) (a:Int):Int:=
 if t.op=25 then(if a=0 then 0 else-1) else if a<1 then-1
 else if t.op=22 then(if 0≤t.b∧t.b≤t.a∧t.a<a then t.a-t.b+1 else-1) else a
def bothM (o a b:Int):Int:=
 if o=26∨o=27 then(if a=0∧b=0 then 0 else-1)
 else if a<1∨b<1 then-1
 else if o=14 then(if a+b≤4 then a+b else-1)
 else if a≠b then-1 else if 15≤o then 0 else a
section
variable {ds:List Dcl} {env:List Int} {t:Tm}
def kid (t:Tm) (i:Nat):Tm:=t.ks.getD i default
theorem formed_iff:formed t=true↔arity t.op=t.ks.length∧plainM t=true:=by simp[formed]
theorem arity_one {o:Int} (h:arity o=1):o=1∨o=2∨o=22∨o=25:=by
 unfold arity at h
 repeat' split at h
 all_goals omega
theorem arity_two {o:Int} (h:arity o=2):(3≤o∧o≤17)∨o=26∨o=27:=by
 unfold arity at h
 repeat' split at h
 all_goals omega
theorem arity_three {o:Int} (h:arity o=3):o=23:=by
 unfold arity at h
 repeat' split at h
 all_goals omega
theorem arity_zero {o:Int} (h:arity o=0):o=20∨o=21∨o=24:=by
 unfold arity at h
 repeat' split at h
 all_goals omega
theorem ks1 (h:t.ks.length=1):t.ks=[kid t 0]:=by
 unfold kid
 generalize t.ks=ks at h⊢
 match ks,h with
 |[x],_=>rfl
theorem ks2 (h:t.ks.length=2):t.ks=[kid t 0,kid t 1]:=by
 unfold kid
 generalize t.ks=ks at h⊢
 match ks,h with
 |[x,y],_=>rfl
theorem ks3 (h:t.ks.length=3):t.ks=[kid t 0,kid t 1,kid t 2]:=by
 unfold kid
 generalize t.ks=ks at h⊢
 match ks,h with
 |[x,y,z],_=>rfl
theorem kid_mem {i:Nat} (h:i<t.ks.length):kid t i∈t.ks:=getD_mem h _
theorem sort_bad (h: ¬formed t=true):sortM ds t= -1:=by
 rw[sortM_eq];unfold sortF;rw[if_neg (fun x=>h x.1)]
theorem sort_leaf (hf:formed t=true) (h:t.ks.length=0):sortM ds t=sortK ds t []:=by
 have:t.ks=[]:=List.eq_nil_of_length_eq_zero h
 rw[sortM_eq,this];unfold sortF
 rw[if_pos ⟨hf,by simp⟩]
 rfl
theorem sort_one (hd:declOk ds=true) (hf:formed t=true) (h:t.ks.length=1):sortM ds t=oneM t (sortM ds (kid t 0)):=by
 have ha:=arity_one (o:=t.op) (by have:=(formed_iff.1 hf).1;omega)
 have hr:=sort_range hd (kid t 0)
 rw[sortM_eq,ks1 h]
 unfold sortF
 simp only[List.map_cons,List.map_nil,List.mem_singleton]
 generalize sortM ds (kid t 0)=s at hr⊢
 unfold oneM
 by_cases hs:s= -1
 ·subst hs
  rw[if_neg (by simp)]
  split
  ·split<;>omega
  ·rfl
 ·rw[if_pos ⟨hf,fun e=>hs e.symm⟩]
  unfold sortK
  rw[if_neg (by omega),if_neg (by omega)]
  by_cases h25:t.op=25
  ·rw[if_pos (by omega),if_pos h25]
   by_cases h0:s=0
   ·simp[h0]
   ·simp[h0]
  rw[if_neg (by omega),if_neg h25,if_neg (by omega)]
  simp only[List.getD_cons_zero]
  by_cases h22:t.op=22
  ·rw[if_pos h22,if_pos h22]
   by_cases h1:s<1
   ·rw[if_pos h1,if_neg (by omega)]
   ·rw[if_neg h1]
  ·rw[if_neg h22,if_neg h22,if_pos (by omega)]
   by_cases h1:s<1
   ·rw[if_pos h1,if_neg (by omega)]
   ·rw[if_neg h1,if_pos (by omega)]
theorem sort_two (hd:declOk ds=true) (hf:formed t=true) (h:t.ks.length=2):sortM ds t=bothM t.op (sortM ds (kid t 0)) (sortM ds (kid t 1)):=by
 have ha:=arity_two (o:=t.op) (by have:=(formed_iff.1 hf).1;omega)
 have hr:=sort_range hd (kid t 0)
 have hr1:=sort_range hd (kid t 1)
 rw[sortM_eq,ks2 h]
 unfold sortF
 simp only[List.map_cons,List.map_nil,List.mem_cons,List.not_mem_nil,or_false]
 generalize sortM ds (kid t 0)=a at hr⊢
 generalize sortM ds (kid t 1)=b at hr1⊢
 unfold bothM
 by_cases hs: -1=a∨ -1=b
 ·rw[if_neg (fun x=>x.2 hs)]
  repeat' split
  all_goals omega
 ·rw[if_pos ⟨hf,hs⟩]
  unfold sortK
  have hany:([a,b].any fun x=>decide (x≠0))=decide (a≠0∨b≠0):=by
   simp only[List.any_cons,List.any_nil,Bool.or_false,Bool.decide_or]
  rw[hany]
  simp only[List.getD_cons_zero,List.getD_cons_succ,decide_eq_true_eq]
  rw[if_neg (show¬t.op=20 by omega),if_neg (show¬t.op=21 by omega),if_neg (show¬t.op=23 by omega),if_neg (show¬t.op=22 by omega)]
  repeat' split
  all_goals omega
theorem sort_three (hf:formed t=true) (h:t.ks.length=3):sortM ds t=if sortM ds (kid t 0)≠0∨sortM ds (kid t 1)≠sortM ds (kid t 2) then-1 else sortM ds (kid t 1):=by
 have ha:=arity_three (o:=t.op) (by have:=(formed_iff.1 hf).1;omega)
 rw[sortM_eq,ks3 h]
 unfold sortF
 simp only[List.map_cons,List.map_nil,List.mem_cons,List.not_mem_nil,or_false]
 generalize sortM ds (kid t 0)=a
 generalize sortM ds (kid t 1)=b
 generalize sortM ds (kid t 2)=c
 by_cases hs: -1=a∨ -1=b∨ -1=c
 ·rw[if_neg (fun x=>x.2 hs)]
  split
  ·rfl
  ·omega
 ·rw[if_pos ⟨hf,hs⟩]
  unfold sortK
  rw[if_neg (by omega),if_neg (by omega),if_neg (by omega),if_pos ha]
  simp only[List.getD_cons_zero,List.getD_cons_succ]
  by_cases hc:a=0∧b=c
  ·rw[if_pos hc,if_neg (by omega)]
  ·rw[if_neg hc,if_pos (by omega)]
theorem k80 (h:sortM ds t≠ -1) {i:Nat} (hi:i<t.ks.length):sortM ds (kid t i)≠ -1:=(sort_parts h).2.1 _ (kid_mem hi)
theorem name_found (h:sortM ds t≠ -1) (ho:t.op=21):0≤findD ds t.s:=by
 obtain⟨_,_,hs⟩:=sort_parts h
 rw[hs] at h
 unfold sortK at h
 rw[if_neg (by omega),if_pos ho] at h
 split at h
 ·exact absurd rfl h
 ·omega
end
def wordL (o:Int):List UInt8:=
 if o=1 then[110,111,116] else if o=2 then[110,101,103] else if o=3 then[97,110,100] else if o=4 then[111,114] else if o=5 then[120,111,114]
 else if o=6 then[97,100,100] else if o=7 then[115,117,98] else if o=8 then[109,117,108] else if o=9 then[100,105,118] else if o=10 then[114,101,109]
 else if o=11 then[115,104,108] else if o=12 then[115,104,114] else if o=13 then[115,97,114] else if o=14 then[99,97,116] else if o=15 then[115,97,109,101]
 else if o=16 then[108,101,115,115] else if o=17 then[117,110,100,101,114] else if o=22 then[99,117,116] else if o=23 then[105,102] else if o=25 then[110,111]
 else if o=26 then[98,111,116,104] else if o=27 then[97,110,121] else[]
end Go.M
end
section
namespace Go.M
def je0 (w a:Nat):List Bool:=(List.range w).map fun i=>decide (a/2^i%2=1)
def valB (w n:Int):List Bool:=if w=0 then[decide (n=1)] else je0 w.toNat n.toNat
def nameB (ds:List Dcl) (k:Nat):List Int:=(List.range ((ds.getD k (nada,0)).2).toNat).map fun(j:Nat)=>2+bits (ds.take k)+(ds.getD k (nada,0)).2-1-j
def fixB (w n:Int):List Int:=(List.range w.toNat).map fun(j:Nat)=>if n.toNat/2^j%2=1 then 1 else-1
def nodeB (ds:List Dcl) (t:Tm) (rs:List (List Int)):Bd (List Int):=
 if t.op=20 then .ret (fixB t.a t.b)
 else if t.op=21 then .ret (nameB ds (findD ds t.s).toNat)
 else if t.op=24 then .ret [1]
 else if t.op=25 then .ret [-((rs.getD 0 []).getD 0 0)]
 else if t.op=26 then .and ((rs.getD 0 []).getD 0 0) ((rs.getD 1 []).getD 0 0) fun v=> .ret [v]
 else if t.op=27 then(orB ((rs.getD 0 []).getD 0 0) ((rs.getD 1 []).getD 0 0)).map fun v=>[v]
 else if t.op=23 then eachB (muxB ((rs.getD 0 []).getD 0 0)) (rs.getD 1 []) (rs.getD 2 [])
 else if t.op=22 then .ret (((rs.getD 0 []).drop t.b.toNat).take (t.a-t.b+1).toNat)
 else if t.op≤2 then unB t.op (rs.getD 0 [])
 else if 15≤t.op∧t.op≤17 then(cmpB t.op (rs.getD 0 []) (rs.getD 1 [])).map fun v=>[v]
 else binB t.op (rs.getD 0 []) (rs.getD 1 [])
def seqB:List (Bd (List Int))→Bd (List (List Int))
 |p::ps=>p.bind fun r=>(seqB ps).map (r:: ·)
 |[]=> .ret []
def termB (ds:List Dcl):Tm→Bd (List Int):=Tm.fold fun t ps=>(seqB ps).bind (nodeB ds t)
theorem termB_eq (ds:List Dcl) (t:Tm):termB ds t=(seqB (t.ks.map (termB ds))).bind (nodeB ds t):=Tm.fold_eq _ t
theorem zg0 (d:Dcl) (ds:List Dcl):bits (d::ds)=d.2+bits ds:=by unfold bits;rw[List.map_cons,List.sum_cons]
theorem bits_pos' {ds:List Dcl}:(∀d,d∈ds→0≤d.2)→0≤bits ds:=by
 induction ds with
 |nil=>intro _;exact Int.le_refl _
 |cons d ds ih=>
  intro h
  have:=h d List.mem_cons_self
  have:=ih fun x hx=>h x (List.mem_cons_of_mem _ hx)
  rw[zg0];omega
section
variable {ρ:Int→Bool} {ds:List Dcl} {env:List Int}
theorem dpos (h:declOk ds=true):∀d,d∈ds→0≤d.2:=fun d hd=>by
 obtain⟨j,hj,rfl⟩:=List.getElem_of_mem hd
 have:=dcl_wide h hj
 rw[List.getD_eq_getElem?_getD,List.getElem?_eq_getElem hj] at this
 simp at this;omega
theorem bits_le {k:Nat} (h:declOk ds=true) (hk:k<ds.length):bits (ds.take k)+(ds.getD k (nada,0)).2≤bits ds∧0≤bits (ds.take k):=by
 have hp:=dpos h
 have e:bits ds=bits (ds.take k)+bits (ds.drop k):=by
  unfold bits
  rw[←List.sum_append,←List.map_append,List.take_append_drop]
 have e2:ds.drop k=ds.getD k (nada,0)::ds.drop (k+1):=by
  rw[List.drop_eq_getElem_cons hk,List.getD_eq_getElem?_getD,List.getElem?_eq_getElem hk];rfl
 have h1:=bits_pos' (ds:=ds.drop (k+1)) fun x hx=>hp x (List.mem_of_mem_drop hx)
 rw[e2,zg0] at e
 exact⟨by omega,bits_pos' fun x hx=>hp x (List.mem_of_mem_take hx)⟩
theorem name_has {k m:Nat} (h:declOk ds=true) (hk:k<ds.length) (hm:1+bits ds≤m):hasL m (nameB ds k):=fun x hx=>by
 obtain⟨j,hj,rfl⟩:=List.mem_map.1 hx
 have hj':=List.mem_range.1 hj
 have:=bits_le h hk
 exact⟨by omega,by omega,by omega⟩
theorem ka0 (h:Rho ρ) {w n:Int}:(fixB w n).map ρ=je0 w.toNat n.toNat:=by
 unfold fixB je0
 rw[List.map_map]
 refine List.map_congr_left fun j _=>?_
 show ρ (if _ then _ else _)=_
 split
 ·next e=>rw[h.one,decide_eq_true e]
 ·next e=>rw[h.mone,decide_eq_false e]
end
end Go.M
end
section
namespace Go.M
namespace Bd
theorem reach_inv {α β:Type} {p:Bd α} {f:α→Bd β} {b:β} (h:(p.bind f).Reach b):∃a,p.Reach a∧(f a).Reach b:=by
 induction p with
 |ret a=>exact⟨a,rfl,h⟩
 |and x y k ih=>obtain⟨v,hv⟩:=h;obtain⟨a,h1,h2⟩:=ih v hv;exact⟨a,⟨v,h1⟩,h2⟩
 |xor x y k ih=>obtain⟨v,hv⟩:=h;obtain⟨a,h1,h2⟩:=ih v hv;exact⟨a,⟨v,h1⟩,h2⟩
theorem reach_map {α β:Type} {p:Bd α} {f:α→β} {b:β} (h:(p.map f).Reach b):∃a,p.Reach a∧b=f a:=by
 obtain⟨a,h1,h2⟩:=reach_inv h
 exact⟨a,h1,h2⟩
end Bd
theorem sum_len:∀{xs ys:List Int} {c:Int} {r:List Int},(sumB xs ys c).Reach r→r.length=min xs.length ys.length
 |[],_,c,r,h=>by cases h;simp
 |_::_,[],c,r,h=>by cases h;simp
 |x::xs,y::ys,c,r,h=>by
  obtain⟨v1,v2,v3,v4,h⟩:=h
  obtain⟨c',_,h⟩:=Bd.reach_inv h
  obtain⟨r',hh,rfl⟩:=Bd.reach_map h
  rw[List.length_cons,sum_len hh,List.length_cons,List.length_cons];omega
theorem each_len {f:Int→Int→Bd Int}:∀{xs ys:List Int} {r:List Int},(eachB f xs ys).Reach r→r.length=min xs.length ys.length
 |[],_,r,h=>by cases h;simp
 |_::_,[],r,h=>by cases h;simp
 |x::xs,y::ys,r,h=>by
  obtain⟨s,_,h⟩:=Bd.reach_inv h
  obtain⟨r',hh,rfl⟩:=Bd.reach_map h
  rw[List.length_cons,each_len hh,List.length_cons,List.length_cons];omega
theorem row_len {s:Int}:∀{xs:List Int} {r:List Int},(rowB s xs).Reach r→r.length=xs.length
 |[],r,h=>by cases h;rfl
 |x::xs,r,h=>by
  obtain⟨v,h⟩:=h
  obtain⟨r',hh,rfl⟩:=Bd.reach_map h
  rw[List.length_cons,row_len hh,List.length_cons]
theorem mul_len {xs:List Int}:∀{ys:List Int} {i:Nat} {s r:List Int},i+ys.length≤xs.length→s.length=xs.length→(mulB xs ys i s).Reach r→r.length=xs.length
 |[],i,s,r,_,hs,h=>by cases h;exact hs
 |y::ys,i,s,r,hi,hs,h=>by
  rw[List.length_cons] at hi
  obtain⟨w,hw,h⟩:=Bd.reach_inv h
  obtain⟨s',hs',h⟩:=Bd.reach_inv h
  have h1:=row_len hw
  have h2:=sum_len hs'
  rw[List.length_append,h1,List.length_take] at h2
  unfold offsL at h2
  rw[List.length_replicate] at h2
  exact mul_len (by omega) (by omega) h
theorem negL_len (xs:List Int):(negL xs).length=xs.length:=List.length_map _
theorem div_len {xs wide:List Int} (hw:wide.length=xs.length+1):∀{n:Nat} {r q:List Int} {p:List Int×List Int},r.length=xs.length→q.length=xs.length→(divB xs wide n r q).Reach p→p.1.length=xs.length∧p.2.length=xs.length
 |0,r,q,p,hr,hq,h=>by cases h;exact⟨hq,hr⟩
 |n+1,r,q,p,hr,hq,h=>by
  obtain⟨l,_,h⟩:=Bd.reach_inv h
  obtain⟨u,hu,h⟩:=Bd.reach_inv h
  obtain⟨r',hr',h⟩:=Bd.reach_inv h
  have h1:=sum_len hu
  have h2:=each_len hr'
  rw[List.length_cons,negL_len] at h1
  rw[List.length_take,List.length_take,List.length_cons] at h2
  exact div_len hw (by omega) (by rw[List.length_set];exact hq) h
theorem shift_len {up:Bool} {fill:Int}:∀{ys:List Int} {i:Nat} {s r:List Int},(shiftB up fill ys i s).Reach r→r.length=s.length
 |[],i,s,r,h=>by cases h;rfl
 |c::ys,i,s,r,h=>by
  obtain⟨s',hs',h⟩:=Bd.reach_inv h
  have h1:=each_len hs'
  rw[List.length_map,List.length_range] at h1
  rw[shift_len h];omega
theorem offsL_len (n:Nat):(offsL n).length=n:=List.length_replicate ..
theorem un_len {op:Int} {x r:List Int} (h:(unB op x).Reach r):r.length=x.length:=by
 unfold unB at h
 split at h
 ·cases h;exact negL_len x
 ·have:=sum_len h;rw[offsL_len,negL_len] at this;omega
theorem bin_len {op:Int} {x y r:List Int} (h:(binB op x y).Reach r) (hne:op≠14→x.length=y.length):r.length=if op=14 then x.length+y.length else x.length:=by
 unfold binB at h
 by_cases c:op=14
 ·rw[if_pos c] at h⊢;cases h;rw[List.length_append];omega
 rw[if_neg c] at h⊢
 have hl:=hne c
 repeat' split at h
 ·have:=each_len h;omega
 ·have:=each_len h;omega
 ·have:=each_len h;omega
 ·have:=sum_len h;omega
 ·have:=sum_len h;rw[negL_len] at this;omega
 ·exact mul_len (by omega) (offsL_len _) h
 ·obtain⟨p,hh,rfl⟩:=Bd.reach_map h
  exact(div_len (by rw[List.length_append,List.length_singleton];omega) (offsL_len _) (offsL_len _) hh).1
 ·obtain⟨p,hh,rfl⟩:=Bd.reach_map h
  exact(div_len (by rw[List.length_append,List.length_singleton];omega) (offsL_len _) (offsL_len _) hh).2
 ·exact shift_len h
 ·exact shift_len h
 ·exact shift_len h
theorem nameB_len {ds:List Dcl} {k:Nat}:(nameB ds k).length=((ds.getD k (nada,0)).2).toNat:=by unfold nameB;rw[List.length_map,List.length_range]
theorem fixB_len {w n:Int}:(fixB w n).length=w.toNat:=by unfold fixB;rw[List.length_map,List.length_range]
def lenS (w:Int):Nat:=(max 1 w).toNat
theorem node_len {ds:List Dcl} {t:Tm} (hd:declOk ds=true) (hs:sortM ds t≠ -1) {rs:List (List Int)} (hl:∀i,i<t.ks.length→(rs.getD i []).length=lenS (sortM ds (kid t i))) {r:List Int} (h:(nodeB ds t rs).Reach r):r.length=lenS (sortM ds t):=by
 obtain⟨hf,hkd,hsk⟩:=sort_parts hs
 simp only[formed,Bool.and_eq_true,decide_eq_true_eq] at hf
 obtain⟨har,hpl⟩:=hf
 have hops:=arity_ops (o:=t.op) (by omega)
 have hx:∀i,i<t.ks.length→(t.ks.map (sortM ds)).getD i 0=sortM ds (kid t i):=fun i hi=>getD_map _ hi _ _
 have hrg:∀i,-1≤sortM ds (kid t i)∧sortM ds (kid t i)≤4:=fun i=>sort_range hd _
 rw[hsk] at hs⊢
 unfold sortK at hs⊢
 unfold nodeB at h
 by_cases h20:t.op=20
 ·simp only[h20,if_true] at hs h⊢
  by_cases hv':vok t.a t.b=true
  ·rw[if_pos hv']
   have:=vok_lt hv'
   cases h
   rw[fixB_len];unfold lenS;omega
  ·rw[if_neg hv'] at hs;exact absurd rfl hs
 simp only[if_neg h20] at hs h⊢
 by_cases h21:t.op=21
 ·simp only[h21,if_true] at hs h⊢
  have hfd:=findD_lt ds t.s
  by_cases hn:findD ds t.s<0
  ·rw[if_pos hn] at hs;exact absurd rfl hs
  ·rw[if_neg hn]
   have hw:=dcl_wide hd (i:=(findD ds t.s).toNat) (by omega)
   cases h
   rw[nameB_len];unfold lenS;omega
 simp only[if_neg h21] at hs h⊢
 by_cases h24:24≤t.op
 ·simp only[if_pos h24] at hs⊢
  by_cases hn:(t.ks.map (sortM ds)).any (fun x=>decide (x≠0))=true
  ·rw[if_pos hn] at hs;exact absurd rfl hs
  ·rw[if_neg hn]
   show r.length=1
   rcases(by omega:t.op=24∨t.op=25∨t.op=26∨t.op=27) with e|e|e|e
   ·rw[if_pos e] at h;cases h;rfl
   ·rw[if_neg (by omega),if_pos e] at h;cases h;rfl
   ·rw[if_neg (by omega),if_neg (by omega),if_pos e] at h;obtain⟨v,h⟩:=h;cases h;rfl
   ·rw[if_neg (by omega),if_neg (by omega),if_neg (by omega),if_pos e] at h;obtain⟨v,_,rfl⟩:=Bd.reach_map h;rfl
 simp only[if_neg h24,if_neg (show¬t.op=24 by omega),if_neg (show¬t.op=25 by omega),if_neg (show¬t.op=26 by omega),if_neg (show¬t.op=27 by omega)] at hs h⊢
 by_cases h23:t.op=23
 ·simp only[h23,if_true] at hs h⊢
  have h3:t.ks.length=3:=by rw[h23] at har;simp[arity] at har;omega
  rw[hx 0 (by omega),hx 1 (by omega),hx 2 (by omega)] at hs⊢
  by_cases hc:sortM ds (kid t 0)=0∧sortM ds (kid t 1)=sortM ds (kid t 2)
  ·rw[if_pos hc]
   have:=each_len h
   rw[hl 1 (by omega),hl 2 (by omega),←hc.2] at this
   omega
  ·rw[if_neg hc] at hs;exact absurd rfl hs
 simp only[if_neg h23] at hs h⊢
 by_cases h22:t.op=22
 ·simp only[h22,if_true] at hs h⊢
  have h3:t.ks.length=1:=by rw[h22] at har;simp[arity] at har;omega
  rw[hx 0 (by omega)] at hs⊢
  by_cases hc:0≤t.b∧t.b≤t.a∧t.a<sortM ds (kid t 0)
  ·rw[if_pos hc]
   cases h
   rw[List.length_take,List.length_drop,hl 0 (by omega)]
   unfold lenS;omega
  ·rw[if_neg hc] at hs;exact absurd rfl hs
 simp only[if_neg h22] at hs h⊢
 by_cases h2:t.op≤2
 ·simp only[if_pos h2] at hs h⊢
  have h3:t.ks.length=1:=by
   have ho:t.op=1∨t.op=2:=by omega
   rcases ho with e|e<;>rw[e] at har<;>simp[arity] at har<;>omega
  rw[hx 0 (by omega)] at hs⊢
  by_cases hc:0<sortM ds (kid t 0)
  ·rw[if_pos hc,un_len h,hl 0 (by omega)]
  ·rw[if_neg hc] at hs;exact absurd rfl hs
 simp only[if_neg h2] at hs h⊢
 have h3:t.ks.length=2:=by
  unfold arity at har
  rw[if_neg (by omega),if_neg (by omega),if_neg (by omega),if_neg (by omega),if_pos (by omega)] at har
  omega
 rw[hx 0 (by omega),hx 1 (by omega)] at hs⊢
 have l0:=hl 0 (by omega)
 have l1:=hl 1 (by omega)
 by_cases h14:t.op=14
 ·simp only[h14,if_true] at hs⊢
  by_cases hc:0<sortM ds (kid t 0)∧0<sortM ds (kid t 1)∧sortM ds (kid t 0)+sortM ds (kid t 1)≤4
  ·rw[if_pos hc]
   rw[if_neg (by omega)] at h
   have:=bin_len h fun e=>absurd h14 e
   rw[if_pos h14,l0,l1] at this
   rw[this];unfold lenS;omega
  ·rw[if_neg hc] at hs;exact absurd rfl hs
 simp only[if_neg h14] at hs⊢
 by_cases h15:15≤t.op
 ·simp only[if_pos h15] at hs⊢
  by_cases hc:0<sortM ds (kid t 0)∧sortM ds (kid t 0)=sortM ds (kid t 1)
  ·rw[if_pos hc]
   rw[if_pos (by omega)] at h
   obtain⟨v,_,rfl⟩:=Bd.reach_map h
   rfl
  ·rw[if_neg hc] at hs;exact absurd rfl hs
 simp only[if_neg h15] at hs⊢
 by_cases hc:0<sortM ds (kid t 0)∧sortM ds (kid t 0)=sortM ds (kid t 1)
 ·rw[if_pos hc]
  rw[if_neg (by omega)] at h
  have:=bin_len h fun _=>by rw[l0,l1,hc.2]
  rw[if_neg h14,l0] at this
  exact this
 ·rw[if_neg hc] at hs;exact absurd rfl hs
theorem seq_reach {f:Tm→Bd (List Int)}:∀{ks:List Tm} {rs:List (List Int)},(seqB (ks.map f)).Reach rs→rs.length=ks.length∧∀i,i<ks.length→(f (ks.getD i default)).Reach (rs.getD i [])
 |[],rs,h=>by cases h;exact⟨rfl,fun i hi=>absurd hi (by simp)⟩
 |t::ks,rs,h=>by
  obtain⟨r,h1,h⟩:=Bd.reach_inv h
  obtain⟨rs',hh,rfl⟩:=Bd.reach_map h
  obtain⟨a,b⟩:=seq_reach hh
  refine⟨by rw[List.length_cons,List.length_cons,a],fun i hi=>?_⟩
  cases i with
  |zero=>exact h1
  |succ i=>exact b i (by simpa using hi)
theorem term_len {ds:List Dcl} (hd:declOk ds=true):∀t:Tm,sortM ds t≠ -1→∀{r:List Int},(termB ds t).Reach r→r.length=lenS (sortM ds t):=by
 refine Tm.ind fun t ih hs r h=>?_
 rw[termB_eq] at h
 obtain⟨rs,h1,h2⟩:=Bd.reach_inv h
 obtain⟨_,hr⟩:=seq_reach h1
 exact node_len hd hs (fun i hi=>ih _ (getD_mem hi _) (k80 hs hi) (hr i hi)) h2
end Go.M
end
section
namespace Go.Proofs.YtaekfnbnhjgboaaGreatDoor
open Go Go.Vc Go.Proofs Go.MapKept
variable {w:World} {K:Value→World→Prop} {F F' D G:Nat→Prop}
def gv (g:M.Gt):Value:= .agg ⟨[.bool g.x,.int .i64 g.a,.int .i64 g.b]⟩
theorem ZN0 {g h:M.Gt} (e:gv g=gv h):g=h:=by
 cases g;cases h
 simp only[gv,Value.agg.injEq,Array.mk.injEq,List.cons.injEq,Value.bool.injEq,Value.int.injEq,and_true,true_and] at e
 obtain⟨rfl,rfl,rfl⟩:=e;rfl
theorem eqGate (g h:M.Gt) (w:World):(Op.equalIn 10000 zm (gv g) (gv h)).run PP w= .ok (decide (g=h)) w:=by
 obtain⟨x,a,b⟩:=g
 obtain⟨y,c,d⟩:=h
 have h0:(PP.fieldsOf zm).toList=[(PP.fieldsOf zm).getD 0 default,(PP.fieldsOf zm).getD 1 default,(PP.fieldsOf zm).getD 2 default]:=by kernel_rfl
 have n0:((PP.fieldsOf zm).getD 0 default).name≠ "_" :=by decide+kernel
 have n1:((PP.fieldsOf zm).getD 1 default).name≠ "_" :=by decide+kernel
 have n2:((PP.fieldsOf zm).getD 2 default).name≠ "_" :=by decide+kernel
 have i0:PP.underlying ((PP.fieldsOf zm).getD 0 default).type=some .bool:=by kernel_rfl
 have i1:PP.underlying ((PP.fieldsOf zm).getD 1 default).type=some (.int .i64):=by kernel_rfl
 have i2:PP.underlying ((PP.fieldsOf zm).getD 2 default).type=some (.int .i64):=by kernel_rfl
 have p0:∀x y z:Value,(part ((PP.fieldsOf zm).getD 0 default).type ⟨[x,y,z]⟩ ((PP.fieldsOf zm).getD 0 default).offset).run PP w= .ok x w:=fun x y z=>by kernel_rfl
 have p1:∀x y z:Value,(part ((PP.fieldsOf zm).getD 1 default).type ⟨[x,y,z]⟩ ((PP.fieldsOf zm).getD 1 default).offset).run PP w= .ok y w:=fun x y z=>by kernel_rfl
 have p2:∀x y z:Value,(part ((PP.fieldsOf zm).getD 2 default).type ⟨[x,y,z]⟩ ((PP.fieldsOf zm).getD 2 default).offset).run PP w= .ok z w:=fun x y z=>by kernel_rfl
 have b0:∀d,(Op.equalIn (d+1) ((PP.fieldsOf zm).getD 0 default).type (.bool x) (.bool y)).run PP w= .ok (x==y) w:=fun d=>by
  rw[Op.equalIn,Sem.run_bind,run_underlying i0];rfl
 unfold gv
 rw[run_equalIn_struct w 9999 zm _ _ (by kernel_rfl) (by kernel_rfl),h0]
 generalize (PP.fieldsOf zm).getD 0 default=f0 at n0 i0 p0 b0⊢
 generalize (PP.fieldsOf zm).getD 1 default=f1 at n1 i1 p1⊢
 generalize (PP.fieldsOf zm).getD 2 default=f2 at n2 i2 p2⊢
 simp only[Op.eqFields,if_pos n0,if_pos n1,if_pos n2,Sem.run_bind,p0,p1,p2,Result.andThen_ok,b0 9998,run_equalIn_int w 9998 _ _ _ _ _ i1,run_equalIn_int w 9998 _ _ _ _ _ i2]
 by_cases e0:x=y
 ·by_cases e1:a=c
  ·by_cases e2:b=d
   ·subst e0;subst e1;subst e2;simp[p1,p2,run_equalIn_int w 9998 _ _ _ _ _ i1,run_equalIn_int w 9998 _ _ _ _ _ i2]
   ·subst e0;subst e1;simp[p1,p2,run_equalIn_int w 9998 _ _ _ _ _ i1,run_equalIn_int w 9998 _ _ _ _ _ i2,e2]
  ·subst e0;simp[p1,p2,run_equalIn_int w 9998 _ _ _ _ _ i1,run_equalIn_int w 9998 _ _ _ _ _ i2,e1]
 ·simp[e0]
def GMap (w:World) (b:Nat) (f:List (M.Gt×Int)):Prop:= ∃es cl,w.heap[b]?=some (.map es cl)∧Stamped es cl∧es.toList.map (fun e=>(e.key,e.val))=f.map fun p=>(gv p.1,Value.int .i64 p.2)
theorem GMap.lt {b:Nat} {f:List (M.Gt×Int)} (h:GMap w b f):b<w.heap.size:=by
 obtain⟨es,cl,hb,_⟩:=h;exact(Array.getElem?_eq_some_iff.1 hb).1
theorem GMap.same {b:Nat} {f:List (M.Gt×Int)} {S:Nat→Prop} {w':World} (h:GMap w b f) (hw:Same S w w') (hs: ¬S b):GMap w' b f:=by
 have hlt:=h.lt
 obtain⟨es,cl,hb,r⟩:=h;exact⟨es,cl,(hw.block b hlt hs).trans hb,r⟩
theorem GMap.ext {b:Nat} {f:List (M.Gt×Int)} {w':World} (h:GMap w b f) (hw:Ext w w'):GMap w' b f:=h.same hw id
theorem zA0 (g:M.Gt) (e:Bool) (w:World):(Instr.checkKey e 10000 zm (gv g)).run PP w= .ok () w:=by
 obtain⟨x,a,b⟩:=g
 kernel_rfl
def findP (g:M.Gt):List (M.Gt×Int)→Nat→Option (Nat×Int)
 |[],_=>none
 |p::r,i=>if g=p.1 then some (i,p.2) else findP g r (i+1)
theorem ask_run (g:M.Gt) (w:World):∀(l:List MapEntry) (f:List (M.Gt×Int)) (i:Nat),l.map (fun e=>(e.key,e.val))=f.map (fun p=>(gv p.1,Value.int .i64 p.2))→
  (Instr.findAsking zm (gv g) l i).run PP w= .ok ((findP g f i).map fun q=>(q.1,.int .i64 q.2)) w
 |[],[],i,_=>rfl
 |[],_::_,_,h=>by simp at h
 |_::_,[],_,h=>by simp at h
 |e::l,p::f,i,h=>by
  simp only[List.map_cons,List.cons.injEq,Prod.mk.injEq] at h
  obtain⟨⟨h1,h2⟩,h3⟩:=h
  have hq:(Op.equal zm (gv g) e.key).run PP w= .ok (decide (g=p.1)) w:=by rw[h1];exact eqGate g p.1 w
  simp only[Instr.findAsking,Sem.run_bind,hq,Result.andThen_ok,findP]
  by_cases c:g=p.1
  ·rw[if_pos (by simpa using c),if_pos c];simp[h2]
  ·rw[if_neg (by simpa using c),if_neg c]
   exact ask_run g w l f (i+1) h3
theorem gate_struct:∃fs,PP.underlying zm=some (.struct fs):=by
 have h:(match PP.underlying zm with|some (.struct _)=>true|_=>false)=true:=by kernel_rfl
 split at h
 ·next fs e=>exact⟨fs,e⟩
 ·cases h
theorem zE0 (g:M.Gt) (w:World) {l:List MapEntry} {f:List (M.Gt×Int)} (h:l.map (fun e=>(e.key,e.val))=f.map (fun p=>(gv p.1,Value.int .i64 p.2))):
  (Instr.findKey zm (gv g) l).run PP w= .ok ((findP g f 0).map fun q=>(q.1,.int .i64 q.2)) w:=by
 obtain⟨fs,hfs⟩:=gate_struct
 unfold Instr.findKey
 rw[Sem.run_bind,run_underlying hfs]
 simp only[Result.andThen_ok]
 cases l with
 |nil=>
  cases f with
  |nil=>rfl
  |cons p f=>simp at h
 |cons e l=>
  have:Instr.findNow (.struct fs) (gv g) (e::l) 0=none:=by simp[Instr.findNow,Instr.sameNow]
  rw[this]
  exact ask_run g w (e::l) f 0 h
theorem findP_none {g:M.Gt}:∀{f:List (M.Gt×Int)} {i:Nat},findP g f i=none↔ ∀p,p∈f→p.1≠g
 |[],i=>by simp[findP]
 |p::f,i=>by
  unfold findP
  split
  ·next e=>exact⟨fun h=>(by cases h),fun h=>absurd e.symm (h p List.mem_cons_self)⟩
  ·next e=>rw[findP_none (f:=f)];simp only[List.mem_cons,forall_eq_or_imp];exact⟨fun h=>⟨fun h2=>e h2.symm,h⟩,fun h=>h.2⟩
def Qw (g:M.Gt) (f:List (M.Gt×Int)):Option Int:=(findP g f 0).map (·.2)
theorem ZO0 {k:Option Value} (hk:k=none) (hK:∀b w',b=w.heap.size→GMap w' b []→Ext w w'→w'.heap.size=w.heap.size+1→K (.map (some b)) w'):ku0 PP zC k w K:=by
 subst hk
 refine⟨.map (some w.heap.size),w.alloc (.map #[] 0),?_,hK _ _ rfl ⟨#[],0,(heap_alloc w _).1,stamped_empty 0,rfl⟩ ⟨rfl,rfl,rfl,by simp,fun k hk _=>(heap_alloc w _).2 k hk⟩ (by simp)⟩
 simp[Instr.makeMap,newObj,Sem.run]
theorem glook {g:M.Gt} {ok:Bool} {b:Nat} {f:List (M.Gt×Int)} (h:GMap w b f):Qe PP zC (.map (some b)) (gv g) ok w K=K (match Qw g f with|some n=>(if ok then .tuple #[.int .i64 n,.bool true] else .int .i64 n)|none=>if ok then .tuple #[.int .i64 0,.bool false] else .int .i64 0) w:=by
 obtain⟨es,cl,hb,hst,he⟩:=h
 have hm:PP.underlying zC=some (.map zm zc)∧yM PP zc (.int .i64 0):=⟨jy,Zr⟩
 refine yy ?_
 unfold Qw
 cases hf:findP g f 0 with
 |none=>cases ok<;>simp[Instr.lookup,run_underlying hm.1,MapKept.run_getObj_map hb,zA0,zE0 g w he,hf,Q9 hm.2,Result.andThen]
 |some p=>cases ok<;>simp[Instr.lookup,run_underlying hm.1,MapKept.run_getObj_map hb,zA0,zE0 g w he,hf,Result.andThen]
theorem kD0 {g:M.Gt} {b:Nat} {f:List (M.Gt×Int)} (h:GMap w b f):Qe PP zC (.map (some b)) (gv g) true w K=K (match Qw g f with|some n=> .tuple #[.int .i64 n,.bool true]|none=> .tuple #[.int .i64 0,.bool false]) w:=by
 rw[glook h];cases Qw g f<;>rfl
theorem ZP0 {g:M.Gt} {b:Nat} {f:List (M.Gt×Int)} (h:GMap w b f):Qe PP zC (.map (some b)) (gv g) false w K=K (match Qw g f with|some n=> .int .i64 n|none=> .int .i64 0) w:=by
 rw[glook h];cases Qw g f<;>rfl
theorem look_app {g h:M.Gt} {n:Int}:∀{f:List (M.Gt×Int)} {i:Nat},(findP g (f++[(h,n)]) i).map (·.2)=match(findP g f i).map (·.2) with|some m=>some m|none=>if g=h then some n else none
 |[],i=>by simp only[List.nil_append,findP,Option.map_none];split<;>rfl
 |p::f,i=>by
  rw[List.cons_append]
  unfold findP
  split
  ·rfl
  ·exact look_app (f:=f)
theorem gset {g:M.Gt} {n:Int} {b:Nat} {f:List (M.Gt×Int)} (h:GMap w b f) (hn:Qw g f=none)
  (hK:∀w',GMap w' b (f++[(g,n)])→Same (· =b) w w'→w'.heap.size=w.heap.size→K undef w'):ko PP zC (.map (some b)) (gv g) (.int .i64 n) w K:=by
 obtain⟨es,cl,hb,hst,he⟩:=h
 have hm:PP.underlying zC=some (.map zm zc):=jy
 have hf:findP g f 0=none:=by
  unfold Qw at hn
  cases hf:findP g f 0 with
  |none=>rfl
  |some p=>rw[hf] at hn;cases hn
 have h2:∀x,x∈es.toList→x.key≠gv g:=fun x hx e=>by
  have hmem:(x.key,x.val)∈f.map fun p=>(gv p.1,Value.int .i64 p.2):=by rw[←he];exact List.mem_map.2 ⟨x,hx,rfl⟩
  obtain⟨p,hp,e2⟩:=List.mem_map.1 hmem
  have:gv p.1=gv g:=by rw[←e];exact congrArg Prod.fst e2
  exact findP_none.1 hf p hp (ZN0 this)
 refine⟨(),{w with heap:=w.heap.setIfInBounds b (.map (es.push {key:=gv g,val:= .int .i64 n,born:=cl}) (cl+1))},?_,hK _ ⟨_,_,(heap_set hb).1,stamped_push hst h2,by simp[he]⟩ (Wo hb) (by simp)⟩
 simp[Instr.mapUpdate,run_underlying hm,MapKept.run_getObj_map hb,zA0,zE0 g w he,hf,run_setObj_map _ hb,Result.andThen]
end Go.Proofs.YtaekfnbnhjgboaaGreatDoor
end
section
namespace Go.Proofs.YtaekfnbnhjgboaaGreatDoor
open Go Go.Vc Go.Proofs
variable {w:World} {K:Value→World→Prop} {F F' Fx Fy X:Nat→Prop}
section
variable {w' w'':World} {F'' S:Nat→Prop}
theorem Same.thn {S T:Nat→Prop} {a b c:World} (h:Same S a b) (k:Same T b c) (hs:∀x,T x→S x∨a.heap.size≤x):Same S a c:=
 ⟨k.os.trans h.os,k.tape.trans h.tape,k.output.trans h.output,Nat.le_trans h.size k.size,fun i hi hn=>
  (k.block i (Nat.lt_of_lt_of_le hi h.size) (fun hx=>(hs i hx).elim hn fun h=>by omega)).trans (h.block i hi hn)⟩
structure Mv (F:Nat→Prop) (w:World) (F':Nat→Prop) (w':World):Prop where
 same:Same F w w'
 new:∀b,F' b→F b∨w.heap.size≤b
theorem Mv.refl:Mv F w F w:=⟨Same.refl _ _,fun _ h=> .inl h⟩
theorem Mv.trans (h:Mv F w F' w') (k:Mv F' w' F'' w''):Mv F w F'' w'':=by
 have hs:=h.same.size
 exact⟨Same.thn h.same k.same h.new,fun b hb=>(k.new b hb).elim (h.new b) fun h=> .inr (by omega)⟩
theorem Mv.to (h:Mv F w F' w') (k:Same S w' w'') (hS:∀b,S b→F' b∨w.heap.size≤b):Mv F w F' w'':=
 ⟨Same.thn h.same k fun b hb=>(hS b hb).elim (h.new b) .inr,h.new⟩
theorem Mv.ext (h:Mv F w F' w') (k:Ext w' w''):Mv F w F' w'':=h.to k fun _ h=>h.elim
theorem Mv.off (h:Mv F w F' w') {b:Nat} (hb: ¬F b) (hl:b<w.heap.size): ¬F' b:=fun h2=>(h.new b h2).elim hb fun h3=>by omega
abbrev Off (X F:Nat→Prop):Nat→Prop:=fun b=> ¬F b∧¬X b
theorem Ints.mv {v:Value} {xs:List Int} (h:Ints (Off X F) w v xs) (hm:Mv F w F' w'):Ints (Off X F') w' v xs:=by
 have h1:Ints (fun b=>(¬F b∧¬X b)∧b<w.heap.size) w v xs:=Ints.weaken h fun b hb hl=>⟨hb,hl⟩
 have h2:=Ints.same h1 hm.same fun b hb _=>hb.1.1
 exact Ints.weaken h2 fun b hb _=>⟨hm.off hb.1.1 hb.2,hb.1.2⟩
structure NewI (X:Nat→Prop) (w:World) (F':Nat→Prop) (w':World) (v:Value) (xs:List Int):Prop where
 own:OwnI PP za w' v xs
 off:∀b,v.ownBlock=some b→w.heap.size≤b∧¬F' b
 out:∀b,v.ownBlock=some b→¬X b
theorem NewI.mv {v:Value} {xs:List Int} (h:NewI X w F' w' v xs) (hm:Mv F' w' F'' w''):NewI X w F'' w'' v xs:=
 ⟨h.own.same hm.same fun b hb=>(h.off b hb).2,fun b hb=>⟨(h.off b hb).1,hm.off (h.off b hb).2 (h.own.lt hb)⟩,h.out⟩
theorem NewI.ints {v:Value} {xs:List Int} (h:NewI X w F' w' v xs):Ints (Off X F') w' v xs:=Ints.weaken h.own.ints fun b hb _=>⟨(h.off b hb).2,h.out b hb⟩
theorem NewI.nil:NewI X w F' w' (.slice none 0 0) []:=⟨OwnI.nil,fun b hb=>(by cases hb),fun b hb=>by cases hb⟩
theorem NewI.app1 {ty b:Nat} {v:Value} {xs:List Int} {x:Int} {e:TypeId} (h:NewI X w F' w' v xs) (hb:Blk w' b [.int .i64 x] e) (h0:w.heap.size≤w'.heap.size) (hF:∀b,F' b∨X b→b<w'.heap.size) (hl:xs.length≤1000000)
  (hK:∀v' w'',NewI X w F' w'' v' (xs++[x])→Same (fun b=>v.ownBlock=some b) w' w''→K v' w''):vbi PP .append [za,za] ty [v,.slice (some ⟨b,0,none⟩) 1 1] w' K:=by
 refine h.own.app1 yO hb (by omega) (by omega) fun v' w'' ho hs hn=>hK v' w'' ⟨ho,fun b hb=>?_,fun b hb=>?_⟩ hs
 ·rcases hn b hb with h1|h1
  ·exact h.off b h1
  ·exact⟨by omega,fun hf=>by have:=hF b (.inl hf);omega⟩
 ·rcases hn b hb with h1|h1
  ·exact h.out b h1
  ·exact fun hf=>by have:=hF b (.inr hf);omega
def Sent (w:World) (g:Nat) (a:Addr):Prop:=w.cell? ⟨g,0,none⟩=some (.iface xl (.pointer (some a)))
theorem Sent.lt {g:Nat} {a:Addr} (h:Sent w g a):g<w.heap.size:=World.block_lt_of_cell? w _ h
theorem Sent.same {g:Nat} {a:Addr} (h:Sent w g a) (hw:Same S w w') (hg: ¬S g):Sent w' g a:=hw.cell hg h
theorem Sent.cell {g:Nat} {a:Addr} (h:Sent w g a):w.cell? ⟨g,0,none⟩=some (.iface xl (.pointer (some a))):=h
def erv (a:Addr):Value:= .iface xl (.pointer (some a))
structure Errs (F:Nat→Prop) (w:World) (ar ab:Addr):Prop where
 room:Sent w qj ar
 bits:Sent w yP ab
 off: ¬F qj∧¬F yP
theorem Errs.mv {ar ab:Addr} (h:Errs F w ar ab) (hm:Mv F w F' w'):Errs F' w' ar ab:=by
 have l1:=h.room.lt;have l2:=h.bits.lt
 obtain⟨o1,o3⟩:=h.off
 exact⟨h.room.same hm.same o1,h.bits.same hm.same o3,hm.off o1 l1,hm.off o3 l2⟩
theorem Errs.to {ar ab:Addr} {w0:World} (h:Errs F w ar ab) (h0:Errs Fx w0 ar ab) (hs:Same S w w') (hS:∀b,S b→w0.heap.size≤b):Errs F w' ar ab:=by
 have l1:=h0.room.lt;have l2:=h0.bits.lt
 have key:∀b,b<w0.heap.size→¬S b:=fun b hb hs=>by have:=hS b hs;omega
 exact⟨h.room.same hs (key _ l1),h.bits.same hs (key _ l2),h.off⟩
def yH (g:M.Gt):List Value:=[.bool g.x,.int .i64 g.a,.int .i64 g.b]
def GatesR (F:Nat→Prop) (w:World) (v:Value) (gs:M.Gs):Prop:=Sl F w 3 v (gs.map yH)
def OwnG (w:World) (v:Value) (gs:M.Gs):Prop:=Own PP 0 3 zk w v (gs.map yH)
structure CktR (n:Nat) (bc:Nat) (w:World) (gs:M.Gs) (v:Value) (mb:Nat):Prop where
 blk:Blk w bc [.int .i64 n,v,.map (some mb)] zQ
 own:OwnG w v gs
 map:∃f,GMap w mb f∧∀g,Qw g f=if g∈gs then some (2+n+gs.idxOf g:Int) else none
 sep:bc≠mb∧v.ownBlock≠some bc∧v.ownBlock≠some mb
 few:gs.length≤600∧n≤8
def Qx (bc mb:Nat) (v:Value) (b:Nat):Prop:=b=bc∨b=mb∨v.ownBlock=some b
section
variable {n bc mb:Nat} {gs:M.Gs} {v:Value}
theorem CktR.same (h:CktR n bc w gs v mb) (hw:Same S w w') (hs:∀b,Qx bc mb v b→¬S b):CktR n bc w' gs v mb:=by
 obtain⟨f,hf,hl⟩:=h.map
 exact⟨h.blk.same hw (hs _ (.inl rfl)),Own.same h.own hw fun b hb=>hs b (.inr (.inr hb)),⟨f,hf.same hw (hs _ (.inr (.inl rfl))),hl⟩,h.sep,h.few⟩
theorem CktR.ext (h:CktR n bc w gs v mb) (hw:Ext w w'):CktR n bc w' gs v mb:=h.same hw fun _ _ h=>h
theorem CktR.lt (h:CktR n bc w gs v mb) {b:Nat} (hb:Qx bc mb v b):b<w.heap.size:=by
 obtain⟨f,hf,_⟩:=h.map
 rcases hb with rfl|rfl|hb
 ·exact h.blk.lt
 ·exact hf.lt
 ·exact(Own.lt h.own hb).2
end
structure BdR (n bb:Nat) (ar ab:Addr) (X F:Nat→Prop) (w:World) (st:Option M.Gs):Prop where
 err:Errs F w ar ab
 blk:∃bc,Blk w bb [.pointer (some ⟨bc,0,none⟩),match st with|some _=> .nilIface |none=>erv ar] zV∧∀gs,st=some gs→∃v mb,CktR n bc w gs v mb∧¬Qx bc mb v bb∧∀b,Qx bc mb v b→F b
 foot:F bb
 lt:∀b,F b∨X b→b<w.heap.size
section
variable {n bb:Nat} {ar ab:Addr} {st:Option M.Gs}
theorem BdR.upd {w0:World} {F0:Nat→Prop} (h:BdR n bb ar ab X F w st) (h0:Errs F0 w0 ar ab) (hS:Same S w w') (hs:∀b,S b→w0.heap.size≤b∧¬F b):BdR n bb ar ab X F w' st:=by
 obtain⟨bc,hB,hC⟩:=h.blk
 refine⟨h.err.to h0 hS fun b hb=>(hs b hb).1,⟨bc,hB.same hS fun hb=>(hs _ hb).2 h.foot,fun gs e=>?_⟩,h.foot,fun b hb=>by have:=h.lt b hb;have:=hS.size;omega⟩
 obtain⟨v,mb,hc,h1,h2⟩:=hC gs e
 exact⟨v,mb,hc.same hS fun b hb hx=>(hs b hx).2 (h2 b hb),h1,h2⟩
theorem BdR.ext (h:BdR n bb ar ab X F w st) (hw:Ext w w'):BdR n bb ar ab X F w' st:=h.upd h.err hw fun _ h=>h.elim
end
end
end Go.Proofs.YtaekfnbnhjgboaaGreatDoor
end
section
namespace Go.Proofs.YtaekfnbnhjgboaaGreatDoor
open Go Go.Vc Go.Proofs
variable {w:World} {K:Value→World→Prop} {F F' Fx Fy X:Nat→Prop} {n bc mb:Nat} {gs:M.Gs} {v:Value}
theorem Blk.ldTake {b:Nat} {us r:List Value} {t0 t:TypeId} (h:Blk w b (us++r) t0) (ht:aggB PP t us.length=true):ze PP t (.pointer (some ⟨b,0,none⟩)) w K=K (.agg ⟨us⟩) w:=by
 refine Ww ht fun i x hi=>?_
 rw[x7,Nat.zero_add]
 refine h.cell ?_
 rw[List.getElem?_append_left (by have:=(List.getElem?_eq_some_iff.1 hi).1;exact this)]
 exact hi
theorem node_spec {l:Int} (hl:l.natAbs≤1000000) (hK:K (.int .i64 (M.absI l)) w):vcall PP y8 #[.int .i64 l] w K:=by
 apply Kd;unfold ZE
 unfold M.absI at hK
 simp only[push_cast]
 refine zg (fun h=>?_) (fun h=>?_)
 ·rw[if_pos h] at hK
  simp(disch:=omega) only[push_cast,zA,Int.zero_sub]
  exact hK
 ·rw[if_neg h] at hK
  exact hK
theorem turned_spec {l:Int} {c:Bool} (hl:l.natAbs≤1000000) (hK:K (.int .i64 (M.turnI c l)) w):vcall PP xA #[.int .i64 l,.bool c] w K:=by
 apply Qz;unfold kD
 refine yG (fun h=>?_) (fun h=>?_)
 ·subst h
  simp(disch:=omega) only[push_cast,zA,Int.zero_sub]
  exact hK
 ·subst h
  exact hK
theorem nodes_spec {k:Nat} (hk:k≤1000000) (hn:n≤1000000) (hK:∀w',Ext w w'→K (.int .i64 (1+n+k:Int)) w'):vcall PP xK #[.agg ⟨[.int .i64 n,v]⟩,.int .i64 k] w K:=by
 apply Wm;unfold X7
 refine zx fun b w1 hb he hz hB=>?_
 simp(disch:=first|(simp only[push_cast];done)|omega) only[push_cast,hB.ld0,zA]
 exact hK _ he
def ky0 (g:M.Gt):M.Gt:=if M.absI g.b<M.absI g.a then⟨g.x,g.b,g.a⟩ else g
theorem jp0 (gs:M.Gs):(gs.map yH).length=gs.length:=List.length_map _
theorem gate_spec {g:M.Gt} (h:CktR n bc w gs v mb) (ha:g.a.natAbs≤1000000) (hb:g.b.natAbs≤1000000)
  (hK:∀w' v',CktR n bc w' (M.putG n gs (ky0 g)).1 v' mb→Same (Qx bc mb v) w w'→(∀b,v'.ownBlock=some b→v.ownBlock=some b∨w.heap.size≤b)→K (.int .i64 (M.putG n gs (ky0 g)).2) w'):
  vcall PP xZ #[.pointer (some ⟨bc,0,none⟩),gv g] w K:=by
 apply JC;unfold Zi
 refine zx fun gb w1 hgb he1 hz1 hB1=>?_
 have hf:=h.few
 refine zW (fun u w'=>Ext w w'∧Blk w' gb (yH (ky0 g)) zm) ?_ ?_
 ·intro J hJ
  refine zt fun w2 he2 _=>?_
  have hB2:=hB1.ext he2
  simp(disch:=first|(simp only[push_cast];done)|omega) only[push_cast,hB2.ld1,hB2.ld2,true_and]
  refine node_spec ha ?_
  simp(disch:=first|(simp only[push_cast];done)|omega) only[push_cast,hB2.ld1,hB2.ld2,true_and,and_self]
  refine node_spec hb ?_
  simp only[push_cast,true_and]
  refine zg (fun c=>?_) (fun c=>?_)
  ·simp(disch:=first|(simp only[push_cast];done)|omega) only[push_cast,hB2.ld1,hB2.ld2]
   refine hB2.st rfl rfl kO rfl fun w3 hs3 _ hB3=>?_
   refine Blk.st (i:=2) hB3 rfl rfl kO rfl fun w4 hs4 _ hB4=>?_
   refine hJ _ _ ⟨Ext.then (he1.trans he2) (hs3.trans hs4) fun x hx=>by omega,?_⟩
   unfold ky0
   rw[if_pos c]
   exact hB4
  ·refine hJ _ _ ⟨he1.trans he2,?_⟩
   unfold ky0
   rw[if_neg c]
   exact hB2
 rintro u _ w5 ⟨he5,hB5⟩
 generalize ky0 g=o at hK hB5
 refine zt fun w6 he6 _=>?_
 have e6:=he5.trans he6
 have h6:=h.ext e6
 have hB6:=hB5.ext he6
 obtain⟨f,hf6,hlk⟩:=h6.map
 have hla:∀w':World,Blk w' gb (yH o) zm→∀K:Value→World→Prop,ze PP zm (.pointer (some ⟨gb,0,none⟩)) w' K=K (gv o) w':=fun w' hB K=>Blk.ldAgg hB (by exact jT)
 have hlo:=hlk o
 have hl6:=hla _ hB6
 simp(disch:=first|(simp only[push_cast];done)|omega) only[push_cast,h6.blk.ld2,true_and,hl6,kD0 hf6]
 by_cases hm:o∈gs
 ·rw[if_pos hm] at hlo
  simp only[hlo,push_cast,true_and,and_self]
  have e1:M.putG n gs o=(gs,(2+n+gs.idxOf o:Int)):=by unfold M.putG;rw[if_pos hm]
  rw[e1] at hK
  exact hK _ _ h6 (Same.of_ext e6) fun b hb=> .inl hb
 rw[if_neg hm] at hlo
 simp only[hlo,push_cast,true_and,and_self]
 have hsl:=Own.sl h6.own
 simp(disch:=first|(simp only[push_cast];done)|omega) only[push_cast,h6.blk.ld1,hsl.len,jp0]
 refine zg (fun hl=>?_) (fun hl=>?_)
 ·have e1:M.putG n gs o=(gs,0):=by unfold M.putG;rw[if_neg hm,if_pos (by omega)]
  rw[e1] at hK
  exact hK _ _ h6 (Same.of_ext e6) fun b hb=> .inl hb
 have e1:M.putG n gs o=(gs++[o],(2+n+gs.length:Int)):=by unfold M.putG;rw[if_neg hm,if_neg (by omega)]
 rw[e1] at hK
 refine zt fun w7 he7 _=>?_
 have e7:=e6.trans he7
 have h7:=h6.ext he7
 have hB7:=hB6.ext he7
 have hl7:=hla _ hB7
 simp(disch:=first|(simp only[push_cast];done)|omega) only[push_cast,h7.blk.ld1,true_and,hl7]
 refine JR je (by kernel_rfl) Xe (y:=yH o) rfl rfl (show 3≤16777216 by decide) fun b8 w8 hb8 he8 hz8 hB8=>?_
 have e8:=e7.trans he8
 have h8:=h7.ext he8
 have hBg8:=hB7.ext he8
 have s8:=e8.size
 simp(disch:=first|(simp only[push_cast];done)|omega) only[push_cast,h8.blk.ld1,true_and,and_self]
 refine Own.app1k (bs:=24) h8.own qD (by decide) hB8 rfl (fun c hc=>by simp only[yH,List.mem_cons,List.not_mem_nil,or_false] at hc;rcases hc with rfl|rfl|rfl<;>rfl) (by rw[jp0];omega) (by rw[jp0];omega) fun v' w9 ho9 hs9 hn9=>?_
 have lbc:bc<w.heap.size:=h.lt (.inl rfl)
 have lmb:mb<w.heap.size:=h.lt (.inr (.inl rfl))
 have hBc9:=h8.blk.same hs9 fun hx=>h.sep.2.1 hx
 have hgb9: ¬v.ownBlock=some gb:=fun hx=>by have:=(Own.lt h.own hx).2;omega
 have hBg9:=hBg8.same hs9 hgb9
 refine Blk.st (i:=1) hBc9 (Sl.cells1 (Own.sl ho9)) (Sl.one (Own.sl ho9)) VF rfl fun w10 hs10 hz10 hB10=>?_
 have hB10:Blk w10 bc [.int .i64 n,v',.map (some mb)] zQ:=hB10
 have hbc':v'.ownBlock≠some bc:=fun hx=>(hn9 bc hx).elim h.sep.2.1 fun h=>by omega
 have hmb':v'.ownBlock≠some mb:=fun hx=>(hn9 mb hx).elim h.sep.2.2 fun h=>by omega
 have ho10:OwnG w10 v' (gs++[o]):=by
  have:=ho9.same hs10 fun b hb hx=>hbc' (by rw[←hx];exact hb)
  unfold OwnG;rw[List.map_append];exact this
 have hBg10:=hBg9.same hs10 (show¬gb=bc by omega)
 obtain⟨f,hf6',hlk⟩:=h8.map
 have hf10:=(hf6'.same hs9 h.sep.2.2).same hs10 (fun e=>h.sep.1 e.symm)
 refine zt fun w11 he11 _=>?_
 have hB11:=hB10.ext he11
 have ho11:=Own.ext ho10 he11
 have hBg11:=hBg10.ext he11
 have hl11:=hla _ hBg11
 have hsl11:=Own.sl ho11
 have hnet:∀K:Value→World→Prop,ze PP zf (.pointer (some ⟨bc,0,none⟩)) w11 K=K (.agg ⟨[.int .i64 n,v']⟩) w11:=fun K=>Blk.ldTake (us:=[.int .i64 n,v']) (r:=[.map (some mb)]) hB11 y5
 have hl1:(List.map yH (gs++[o])).length=gs.length+1:=by rw[jp0,List.length_append];rfl
 have hlen:∀K:Value→World→Prop,vbi PP .len [zk] zc [v'] w11 K=K (.int .i64 ((gs.length+1:Nat):Int)) w11:=fun K=>by rw[hsl11.len k7,hl1]
 simp(disch:=first|(simp only[push_cast];done)|omega) only[push_cast,hB11.ld1,hB11.ld2,true_and,hl11,hnet,hlen]
 rw[show((gs.length:Int)+1)=((gs.length+1:Nat):Int) from by omega]
 refine nodes_spec (by omega) (by omega) fun w12 he12=>?_
 rw[show(1+(n:Int)+((gs.length+1:Nat):Int))=2+n+gs.length from by omega]
 have hB12:=hB11.ext he12
 have hBg12:=hBg11.ext he12
 have hl12:=hla _ hBg12
 simp(disch:=first|(simp only[push_cast];done)|omega) only[push_cast,hB12.ld2,true_and,hl12,and_self]
 have hf12:=hf10.ext (he11.trans he12)
 have hlo:Qw o f=none:=by rw[hlk,if_neg hm]
 refine gset hf12 hlo fun w13 hf13 hs13 hz13=>?_
 refine zt fun w14 he14 _=>?_
 have hB14:=(hB12.same hs13 h.sep.1).ext he14
 have hBg14:=(hBg12.same hs13 (show¬gb=mb by omega)).ext he14
 have hl14:=hla _ hBg14
 have hf14:=hf13.ext he14
 have ho14:OwnG w14 v' (gs++[o]):=Own.ext (Own.same (Own.ext ho11 he12) hs13 fun b hb hx=>hmb' (by rw[←hx];exact hb)) he14
 have hkey:∀g,Qw g (f++[(o,(2+n+gs.length:Int))])=if g∈gs++[o] then some (2+n+(gs++[o]).idxOf g:Int) else none:=fun g=>by
  have e:=look_app (g:=g) (h:=o) (n:=(2+n+gs.length:Int)) (f:=f) (i:=0)
  have e2:=hlk g
  unfold Qw at e2⊢
  rw[e,e2]
  by_cases hg:g∈gs
  ·rw[if_pos hg,if_pos (List.mem_append.2 (.inl hg)),List.idxOf_append,if_pos hg]
  ·rw[if_neg hg]
   by_cases ho:g=o
   ·subst ho
    simp only
    rw[if_pos trivial,if_pos (by simp),List.idxOf_append,if_neg hg]
    simp
   ·simp only
    rw[if_neg ho,if_neg (by simp[hg,ho])]
 have hko:=hkey o
 rw[if_pos (by simp),List.idxOf_append,if_neg hm] at hko
 simp only[List.idxOf_cons_self,Nat.add_zero] at hko
 simp(disch:=first|(simp only[push_cast];done)|omega) only[push_cast,hB14.ld2,true_and,hl14,ZP0 hf14,hko,and_self]
 refine hK _ v' ⟨hB14,ho14,⟨_,hf14,hkey⟩,⟨h.sep.1,hbc',hmb'⟩,?_,hf.2⟩ ?_ fun b hb=>(hn9 b hb).imp id fun h=>by omega
 ·rw[List.length_append];simp;omega
 ·refine Same.thn (Same.of_ext e8) ((((hs9.mono (S':=Qx bc mb v) fun x _ h=> .inr (.inr h)).trans (hs10.mono fun x _ h=> .inl h)).trans (Same.of_ext (he11.trans he12))).trans ((hs13.mono fun x _ h=> .inr (.inl h)).trans (Same.of_ext he14))) fun x hx=> .inl hx
end Go.Proofs.YtaekfnbnhjgboaaGreatDoor
end
section
namespace Go.Proofs.YtaekfnbnhjgboaaGreatDoor
open Go Go.Vc Go.Proofs
variable {w:World} {K:Value→World→Prop} {F F' Fx Fy X:Nat→Prop} {n bc mb bb:Nat} {gs:M.Gs} {v:Value} {ar ab:Addr} {st:Option M.Gs}
theorem absI_le {a:Int} {m:Nat} (h:a.natAbs≤m):(M.absI a).natAbs≤m:=by unfold M.absI;split<;>omega
theorem Wy {c:Bool} {a:Int}:(M.turnI c a).natAbs=a.natAbs:=by cases c<;>simp[M.turnI]
theorem put_abs {g:M.Gt} (h:gs.length≤600) (hn:n≤8):(M.putG n gs g).2.natAbs≤1000:=by
 unfold M.putG
 split
 ·next hm=>have:=List.idxOf_lt_length_iff.2 hm;show(2+(n:Int)+(gs.idxOf g:Nat)).natAbs≤1000;omega
 ·split
  ·show(0:Int).natAbs≤1000;decide
  ·show(2+(n:Int)+(gs.length:Nat)).natAbs≤1000;omega
theorem jj0 {a b:Int} (h:gs.length≤600) (hn:n≤8) (ha:a.natAbs≤1000) (hb:b.natAbs≤1000):(M.andG n gs a b).2.natAbs≤1000:=by
 unfold M.andG
 repeat' split
 all_goals first|exact put_abs h hn|(show(-1:Int).natAbs≤1000;decide)|assumption
theorem qp0 {a b:Int} (h:gs.length≤600) (hn:n≤8) (ha:a.natAbs≤1000) (hb:b.natAbs≤1000):(M.xorG n gs a b).2.natAbs≤1000:=by
 unfold M.xorG
 repeat' split
 all_goals first|(show(-1:Int).natAbs≤1000;decide)|(show(1:Int).natAbs≤1000;decide)|(simp only[Wy];first|exact put_abs h hn|assumption)
theorem Zb0 (a b:Int):zE PP zm [(1,.int .i64 a),(2,.int .i64 b)] w K=K (gv ⟨false,a,b⟩) w:=yf YU (us:=[[.int .i64 a],[.int .i64 b]]) rfl rfl
theorem cand_spec {a b:Int} (h:CktR n bc w gs v mb) (ha:a.natAbs≤1000) (hb:b.natAbs≤1000)
  (hK:∀w' v',CktR n bc w' (M.andG n gs a b).1 v' mb→Same (Qx bc mb v) w w'→(∀b,v'.ownBlock=some b→v.ownBlock=some b∨w.heap.size≤b)→K (.int .i64 (M.andG n gs a b).2) w'):
  vcall PP ju #[.pointer (some ⟨bc,0,none⟩),.int .i64 a,.int .i64 b] w K:=by
 apply Kg;unfold ZH
 unfold M.andG at hK
 try simp only[push_cast]
 refine zg (fun c=>?_) (fun c1=>?_)
 ·rw[if_pos (.inl c)] at hK
  exact hK _ _ h (Same.refl _ _) fun b hb=> .inl hb
 try simp only[push_cast]
 refine zg (fun c=>?_) (fun c2=>?_)
 ·rw[if_pos (.inr c)] at hK
  exact hK _ _ h (Same.refl _ _) fun b hb=> .inl hb
 rw[if_neg (fun h=>h.elim c1 c2)] at hK
 try simp only[push_cast]
 refine zg (fun c=>?_) (fun c=>?_)
 ·rw[if_pos c] at hK
  exact hK _ _ h (Same.refl _ _) fun b hb=> .inl hb
 rw[if_neg c] at hK
 try simp only[push_cast]
 refine zg (fun c=>?_) (fun c=>?_)
 ·rw[if_pos c] at hK
  exact hK _ _ h (Same.refl _ _) fun b hb=> .inl hb
 rw[if_neg c] at hK
 try simp only[push_cast]
 refine zg (fun c=>?_) (fun c=>?_)
 ·rw[if_pos c] at hK
  exact hK _ _ h (Same.refl _ _) fun b hb=> .inl hb
 rw[if_neg c] at hK
 try simp(disch:=omega) only[push_cast,zA,Int.zero_sub]
 refine zg (fun c=>?_) (fun c=>?_)
 ·rw[if_pos c] at hK
  exact hK _ _ h (Same.refl _ _) fun b hb=> .inl hb
 rw[if_neg c] at hK
 rw[Zb0]
 exact gate_spec h (by show a.natAbs≤_;omega) (by show b.natAbs≤_;omega) hK
theorem ko0 (a b:Int):zE PP zm [(0,.bool true),(1,.int .i64 a),(2,.int .i64 b)] w K=K (gv ⟨true,a,b⟩) w:=yf YU (us:=[[.bool true],[.int .i64 a],[.int .i64 b]]) rfl rfl
theorem absI_abs (a:Int):M.absI (M.absI a)=M.absI a:=by
 unfold M.absI
 by_cases h:a<0
 ·rw[if_pos h,if_neg (by omega)]
 ·rw[if_neg h,if_neg h]
theorem ordX (a b:Int):ky0 ⟨true,M.absI a,M.absI b⟩=M.gateX a b:=by unfold ky0 M.gateX;simp only[absI_abs]
theorem cxor_spec {a b:Int} (h:CktR n bc w gs v mb) (ha:a.natAbs≤1000) (hb:b.natAbs≤1000)
  (hK:∀w' v',CktR n bc w' (M.xorG n gs a b).1 v' mb→Same (Qx bc mb v) w w'→(∀b,v'.ownBlock=some b→v.ownBlock=some b∨w.heap.size≤b)→K (.int .i64 (M.xorG n gs a b).2) w'):
  vcall PP jt #[.pointer (some ⟨bc,0,none⟩),.int .i64 a,.int .i64 b] w K:=by
 apply Kf;unfold ZG
 unfold M.xorG at hK
 refine node_spec (by omega) ?_
 try simp only[push_cast]
 refine zg (fun c=>?_) (fun c=>?_)
 ·rw[if_pos c] at hK
  try simp only[push_cast]
  exact turned_spec (by omega) (hK _ _ h (Same.refl _ _) fun b hb=> .inl hb)
 rw[if_neg c] at hK
 refine node_spec (by omega) ?_
 try simp only[push_cast]
 refine zg (fun c=>?_) (fun c=>?_)
 ·rw[if_pos c] at hK
  try simp only[push_cast]
  exact turned_spec (by omega) (hK _ _ h (Same.refl _ _) fun b hb=> .inl hb)
 rw[if_neg c] at hK
 try simp only[push_cast]
 refine zg (fun c=>?_) (fun c=>?_)
 ·rw[if_pos c] at hK
  exact hK _ _ h (Same.refl _ _) fun b hb=> .inl hb
 rw[if_neg c] at hK
 try simp(disch:=omega) only[push_cast,zA,Int.zero_sub]
 refine zg (fun c=>?_) (fun c=>?_)
 ·rw[if_pos c] at hK
  exact hK _ _ h (Same.refl _ _) fun b hb=> .inl hb
 rw[if_neg c] at hK
 refine node_spec (by omega) (node_spec (by omega) ?_)
 rw[ko0]
 have hp:=put_abs (g:=M.gateX a b) h.few.1 h.few.2
 refine gate_spec h (absI_le (by omega)) (absI_le (by omega)) fun w' v' hc hs hn=>?_
 rw[ordX] at hc⊢
 try simp only[push_cast]
 refine turned_spec (l:=(M.putG n gs (M.gateX a b)).2) (by omega) ?_
 exact hK _ _ hc hs hn
theorem kY0:zq PP .eql yJ true .nilIface .nilIface w K=K (.bool true) w:=yB (by kernel_rfl) (by kernel_rfl)
theorem Jl:zq PP .neq yJ true .nilIface .nilIface w K=K (.bool false) w:=yB (by kernel_rfl) (by kernel_rfl)
theorem zJ0 {a:Addr}:zq PP .neq yJ true (erv a) .nilIface w K=K (.bool true) w:=yB (by kernel_rfl) (by kernel_rfl)
theorem WU {p e:Value} (hK:K (.tuple #[]) w):vcall PP yc #[p,.bool false,e] w K:=by
 apply Zb;unfold jd
 simp only[push_cast]
 exact hK
theorem kc0 {p:Value} {a:Addr} (hB:Blk w bb [p,.nilIface] zV) (hK:∀w',Same (· =bb) w w'→Blk w' bb [p,erv a] zV→K (.tuple #[]) w'):
  vcall PP yc #[.pointer (some ⟨bb,0,none⟩),.bool true,erv a] w K:=by
 apply Zb;unfold jd
 simp(disch:=first|(simp only[push_cast];done)|omega) only[push_cast,hB.ld1,kY0]
 refine Blk.st (i:=1) hB rfl rfl kJ0 rfl fun w' hs _ hB'=>hK w' hs hB'
end Go.Proofs.YtaekfnbnhjgboaaGreatDoor
end
