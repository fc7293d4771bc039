import Derived.Test.YtaekfnbnhjgboaaGreatDoorWucP2
import Derived.Test.YtaekfnbnhjgboaaGreatDoorWucP3
import Derived.Test.YtaekfnbnhjgboaaGreatDoorWucP4
/- A part of the proof. -/
set_option linter.unusedVariables false
set_option linter.unusedSimpArgs false
set_option linter.unnecessarySimpa false
set_option linter.unusedSectionVars false
section
namespace Go.Proofs.YtaekfnbnhjgboaaGreatDoor
open Go Go.Vc Go.Proofs
def ZE (P:Program) (v0 v1:Value) (w:World) (R:Value→World→Prop):Prop:=yB P zl v1 w fun a b=>xa (fun c=>y1 b fun b=>zi P zl a 1 b fun d e=>e=b∧ze P zc d b fun d e=>e=b∧zi P zl a 2 b fun e f=>f=b∧ze P zc e b fun f g=>g=b∧vcall P ya #[d] b fun b d=>(ze P zc e d fun g h=>g=f∧h=d)∧(zi P zl a 2 d fun g h=>g=e∧h=d)∧vcall P ya #[f] d fun d e=>zo P .gtr zc false b d e fun b d=>d=e∧vif b (zi P zl a 2 e fun b d=>ze P zc b d fun b d=>zi P zl a 1 d fun d f=>ze P zc d f fun d f=>zi P zl a 1 f fun f i=>zp P zc f b i fun _ b=>zi P zl a 2 b fun b f=>zp P zc b d f fun _ b=>c [] b) (c [] e)) (fun _ _ b=>y1 b fun b=>vnil P v0 b fun c d=>d=b∧zi P zQ c 1 b fun c d=>d=b∧ze P zD c b fun c d=>d=b∧ze P zl a b fun d e=>e=b∧Yt P zD c d true b fun c d=>d=b∧zj P c 0 b fun d e=>e=b∧zj P c 1 b fun c e=>e=b∧vif c (R d b) (vnil P v0 b fun b c=>zi P zQ b 0 c fun b c=>zi P zf b 1 c fun b c=>ze P zk b c fun b c=>vbi P .len [zk] zc [b] c fun b c=>zo P .eql zc true b (.int .i64 600) c fun b c=>vif b (R (.int .i64 0) c) (y1 c fun b=>vnil P v0 b fun c d=>d=b∧zi P zQ c 0 b fun d e=>e=b∧zi P zf d 1 b fun e f=>f=b∧ze P zk e b fun f i=>i=b∧ze P zl a b fun i j=>j=b∧vbuildS P zk 1 [(0,i)] b fun b i=>(ze P zk e i fun g h=>g=f∧h=i)∧(zi P zf d 1 i fun g h=>g=e∧h=i)∧(zi P zQ c 0 i fun g h=>g=d∧h=i)∧(vnil P v0 i fun g h=>g=c∧h=i)∧vbi P .append [zk,zk] zk [f,b] i fun b c=>vnil P v0 c fun d e=>e=c∧zi P zQ d 0 c fun d e=>e=c∧zi P zf d 1 c fun d e=>e=c∧zp P zk d b c fun _ b=>y1 b fun b=>vnil P v0 b fun c d=>d=b∧zi P zQ c 1 b fun d e=>e=b∧ze P zD d b fun e f=>f=b∧ze P zl a b fun f i=>i=b∧vnil P v0 b fun i j=>j=b∧zi P zQ i 0 b fun i j=>j=b∧ze P zf i b fun i j=>j=b∧vnil P v0 b fun j k=>k=b∧zi P zQ j 0 b fun j k=>k=b∧zi P zf j 1 b fun j k=>k=b∧ze P zk j b fun j k=>k=b∧vbi P .len [zk] zc [j] b fun j k=>k=b∧vcall P xN #[i,j] b fun b i=>(ze P zl a i fun g h=>g=f∧h=i)∧(ze P zD d i fun g h=>g=e∧h=i)∧(zi P zQ c 1 i fun g h=>g=d∧h=i)∧(vnil P v0 i fun g h=>g=c∧h=i)∧ku P zD e f b i fun _ b=>y1 b fun b=>vnil P v0 b fun c d=>d=b∧zi P zQ c 1 b fun c d=>d=b∧ze P zD c b fun c d=>d=b∧ze P zl a b fun a d=>d=b∧Yt P zD c a false b fun a c=>c=b∧R a b)))
theorem Kj {v0 v1 w R} (h:ZE PP v0 v1 w R):vcall PP qh #[v0,v1] w R:=zn {ord:=[(1,[0,1,3,4,2,5,6],[(0,[1,2,5,6]),(1,[2,5,6]),(3,[4,5,6]),(4,[5,6]),(2,[5,6]),(5,[6])]),(3,[0,1,2,3,4,5,6,7,8,9,10],[(0,[1,2,3,5,6,7,8,9,10]),(1,[2,3,5,6,7,8,9,10]),(2,[3,5,6,7,8,9,10]),(3,[5,6,7,8,9,10]),(4,[5,6,7,8,9,10]),(5,[6,7,8,9,10]),(6,[7,8,9,10]),(7,[9,10]),(8,[10]),(9,[10])]),(8,[0,1,2,3,4,5,6,7,8,9,10,11,12],[(0,[9,10,11,12]),(1,[2,3,4,5,8,9,10,11,12]),(2,[3,4,5,8,9,10,11,12]),(3,[4,5,8,9,10,11,12]),(4,[5,8,9,10,11,12]),(5,[8,9,10,11,12]),(6,[7,8,9,10,11,12]),(7,[8,9,10,11,12]),(8,[9,10,11,12]),(9,[10,11,12]),(10,[11,12]),(11,[12])]),(9,[0,1,2,3,4,5,6,7,8,9,10,11,12,13,14,15,16],[(0,[1,2,3,16]),(1,[2,3,16]),(2,[3,16]),(3,[16]),(4,[16]),(5,[6,7,8,15,16]),(6,[7,8,15,16]),(7,[8,15,16]),(8,[15,16]),(9,[10,11,12,13,14,15,16]),(10,[11,12,13,14,15,16]),(11,[12,13,14,15,16]),(12,[13,14,15,16]),(13,[14,15,16]),(14,[15,16]),(15,[16])]),(10,[0,1,2,3,4,5,6],[(0,[1,2,3,5,6]),(1,[2,3,5,6]),(2,[3,5,6]),(3,[5,6]),(4,[5,6]),(5,[6])])],cuts:=[(8195,[])]} Tryz.func278 (by kernel_rfl) (by kernel_rfl) h
def kS (P:Program) (v0 v1:Value) (w:World) (R:Value→World→Prop):Prop:=vif v1 (vun P .neg v0 w fun a b=>R a b) (R v0 w)
theorem Ja {v0 v1 w R} (h:kS PP v0 v1 w R):vcall PP xD #[v0,v1] w R:=zn {} Tryz.func279 (by kernel_rfl) (by kernel_rfl) h
def kH (P:Program) (v0 v1 v2 v3:Value) (w:World) (R:Value→World→Prop):Prop:=ze P za v1 w fun a b=>vbi P .len [za] zc [a] b fun b c=>yG [(.int .i64 0)] c fun c d _ e=>zo P .lss zc false (sl 0 d) b e fun b e=>vif b (zm P za a (sl 0 d) e fun a b=>ze P zq a b fun a b=>vcall P qH #[(sl 0 d)] b fun b f=>yG [b,(sl 0 d)] f fun b f _ g=>ze P za v2 g fun g h=>vbi P .len [za] zc [g] h fun g h=>zo P .lss zc false (sl 1 f) g h fun g h=>vif g (y1 h fun g=>ze P zO v3 g fun i j=>j=g∧ze P za v2 g fun j k=>k=g∧zo P .sub zc false (sl 1 f) (sl 0 d) g fun k l=>l=g∧zm P za j k g fun j k=>k=g∧ze P zq j g fun j k=>k=g∧vcall P yj #[i,j,a] g fun a g=>vbuildS P za 1 [(0,a)] g fun a g=>vbi P .append [za,za] za [(sl 0 f),a] g fun a g=>zo P .add zc true (sl 1 f) (.int .i64 1) g fun g i=>b [a,g] i) (vcallv P v0 #[(sl 0 f)] h fun a b=>vun P .not a b fun a b=>vif a (R (.tuple #[]) b) (zo P .add zc true (sl 0 d) (.int .i64 1) b fun a b=>c [a] b))) (R (.tuple #[]) e)
theorem Qi {v0 v1 v2 v3 w R} (h:kH PP v0 v1 v2 v3 w R):vcall PP xR #[v0,v1,v2,v3] w R:=zn {ord:=[(7,[0,1,2,3,4,5,6,7,8,9,10,11,12],[(0,[11,12]),(1,[9,10,11,12]),(2,[6,7,9,10,11,12]),(3,[5,6,7,9,10,11,12]),(4,[5,6,7,9,10,11,12]),(5,[6,7,9,10,11,12]),(6,[7,9,10,11,12]),(7,[9,10,11,12]),(8,[9,10,11,12]),(9,[10,11,12]),(10,[11,12]),(11,[12])])],loops:=[(1,[11]),(5,[7,8])]} Tryz.func280 (by kernel_rfl) (by kernel_rfl) h
def Qt (P:Program) (v0:Value) (w:World) (R:Value→World→Prop):Prop:=yB P zb v0 w fun a b=>zi P zb a 0 b fun a b=>ze P zc a b fun a b=>zo P .shl y8 true (.int .u64 1) a b fun a b=>zo P .sub y8 true a (.int .u64 1) b fun a b=>R a b
theorem z30 {v0 w R} (h:Qt PP v0 w R):vcall PP jH #[v0] w R:=zn {} Tryz.func312 (by kernel_rfl) (by kernel_rfl) h
def YG (P:Program) (v0:Value) (w:World) (R:Value→World→Prop):Prop:=yB P y9 v0 w fun a b=>zi P y9 a 1 b fun a b=>ze P zc a b fun a b=>R a b
theorem W8 {v0 w R} (h:YG PP v0 w R):vcall PP yq #[v0] w R:=zn {} Tryz.func313 (by kernel_rfl) (by kernel_rfl) h
def YF (P:Program) (v0:Value) (w:World) (R:Value→World→Prop):Prop:=yB P y9 v0 w fun a b=>zi P y9 a 0 b fun a b=>ze P zJ a b fun a b=>R a b
theorem W7 {v0 w R} (h:YF PP v0 w R):vcall PP yC #[v0] w R:=zn {} Tryz.func314 (by kernel_rfl) (by kernel_rfl) h
def ZY (P:Program) (v0 v1 v2 v3:Value) (w:World) (R:Value→World→Prop):Prop:=yB P zM v0 w fun _ a=>yB P z7 v2 a fun _ a=>y1 a fun a=>zm P zg v3 (.int .i64 0) a fun b c=>c=a∧ze P zc b a fun b c=>c=a∧zo P .gtr zc true b (.int .i64 0) a fun b c=>c=a∧zm P zg v3 (.int .i64 0) a fun c d=>d=a∧ze P zc c a fun c d=>d=a∧vcall P yc #[b,c] a fun a b=>R a b
theorem KR {v0 v1 v2 v3 w R} (h:ZY PP v0 v1 v2 v3 w R):vcall PP jA #[v0,v1,v2,v3] w R:=zn {ord:=[(1,[0,1,2,3,4,5,6,7,8],[(0,[1,2,3,7,8]),(1,[2,3,7,8]),(2,[3,7,8]),(3,[7,8]),(4,[5,6,7,8]),(5,[6,7,8]),(6,[7,8]),(7,[8])])]} Tryz.func315 (by kernel_rfl) (by kernel_rfl) h
def Zz (P:Program) (v0 v1 v2 v3:Value) (w:World) (R:Value→World→Prop):Prop:=yB P zM v0 w fun _ a=>yB P z7 v2 a fun a b=>xa (fun c=>y1 b fun b=>zi P z7 a 0 b fun d e=>e=b∧ze P zc d b fun e f=>f=b∧zm P y0 v3 (.int .i64 0) b fun f g=>g=b∧ze P zb f b fun g h=>h=b∧(vcall P ZU #[e,g] b fun h i=>zj P h 0 i fun j k=>k=i∧zj P h 1 i fun k l=>l=i∧(zZ P zb i fun i l=>(zj P h 1 l fun m n=>m=k∧n=l)∧(zj P h 0 l fun m n=>m=j∧n=l)∧(zp P zb i j l fun _ j=>(zj P h 1 j fun m n=>m=k∧n=j)∧c [i] j)∧True)∧True)∧(zZ P zb b fun b h=>(ze P zb f h fun m n=>m=g∧n=h)∧(zm P y0 v3 (.int .i64 0) h fun m n=>m=f∧n=h)∧(ze P zc d h fun m n=>m=e∧n=h)∧(zi P z7 a 0 h fun m n=>m=d∧n=h)∧(vcall P ZU #[e,g] h fun a d=>zj P a 0 d fun e f=>f=d∧zj P a 1 d fun f g=>g=d∧(zp P zb b e d fun _ d=>(zj P a 1 d fun m n=>m=f∧n=d)∧c [b] d)∧True)∧True)∧True) (fun a _ b=>zi P zb (sl 0 a) 1 b fun a b=>ze P zc a b fun a b=>R a b)
theorem Ke {v0 v1 v2 v3 w R} (h:Zz PP v0 v1 v2 v3 w R):vcall PP jd #[v0,v1,v2,v3] w R:=zn {cuts:=[(8194,[9])],trees:=[(1,(.st 0 (.st 1 (.st 2 (.st 3 (.st 4 (.alt 5 (.st 6 (.st 7 (.st 8 (.alt 9 (.alt 10 (.st 11 .nil) .no) .no)))) (.alt 9 (.alt 5 (.st 6 (.st 7 (.st 8 (.alt 10 (.st 11 .nil) .no)))) .no) .no))))))),[(0,[1,5,6,7,8,10,11]),(1,[5,6,7,8,10,11]),(2,[3,4,5,6,7,8,10,11]),(3,[4,5,6,7,8,10,11]),(4,[5,6,7,8,10,11]),(5,[6,7,8,10,11]),(6,[7,8,10,11]),(7,[10,11]),(8,[11]),(9,[10,11]),(10,[11])])]} Tryz.func316 (by kernel_rfl) (by kernel_rfl) h
def VB (P:Program) (v0 v1:Value) (w:World) (R:Value→World→Prop):Prop:=vif v0 (R v1 w) (R (.int .i64 (-1)) w)
theorem xd0 {v0 v1 w R} (h:VB PP v0 v1 w R):vcall PP yc #[v0,v1] w R:=zn {} Tryz.func317 (by kernel_rfl) (by kernel_rfl) h
def WT (P:Program) (v0 v1:Value) (w:World) (R:Value→World→Prop):Prop:=yB P zb v1 w fun a b=>zZ P zb b fun b c=>ze P zb a c fun c d=>vcall P xi #[c] d fun c d=>vun P .not c d fun c d=>vif c (zE P zb [] d fun c e=>zp P zb b c e fun _ c=>vlv P zb b c fun c e=>R (.tuple #[c,(.bool false)]) e) (zo P .eql zc true v0 (.int .i64 1) d fun c d=>vif c (y1 d fun c=>ze P zb a c fun e f=>f=c∧ze P zb a c fun f g=>g=c∧vcall P zF #[f] c fun c f=>(ze P zb a f fun g h=>g=e∧h=f)∧vun P .xor c f fun c i=>i=f∧vcall P j9 #[e,c] f fun c e=>zp P zb b c e fun _ c=>vlv P zb b c fun c e=>R (.tuple #[c,(.bool true)]) e) (zo P .eql zc true v0 (.int .i64 2) d fun c d=>vif c (y1 d fun c=>ze P zb a c fun e f=>f=c∧ze P zb a c fun f i=>i=c∧vcall P zF #[f] c fun c f=>(ze P zb a f fun g h=>g=e∧h=f)∧vun P .neg c f fun a c=>c=f∧vcall P j9 #[e,a] f fun a c=>zp P zb b a c fun _ a=>vlv P zb b a fun a c=>R (.tuple #[a,(.bool true)]) c) (zE P zb [] d fun a c=>zp P zb b a c fun _ a=>vlv P zb b a fun a b=>R (.tuple #[a,(.bool false)]) b)))
theorem qb0 {v0 v1 w R} (h:WT PP v0 v1 w R):vcall PP ZU #[v0,v1] w R:=zn {ord:=[(4,[0,1,2,3,4,5,6],[(0,[4,5,6]),(1,[2,3,4,5,6]),(2,[3,4,5,6]),(3,[4,5,6]),(4,[5,6]),(5,[6])]),(6,[0,1,2,3,4,5,6],[(0,[4,5,6]),(1,[2,3,4,5,6]),(2,[3,4,5,6]),(3,[4,5,6]),(4,[5,6]),(5,[6])])]} Tryz.func318 (by kernel_rfl) (by kernel_rfl) h
def JN (P:Program) (v0 v1:Value) (w:World) (R:Value→World→Prop):Prop:=yB P zb v0 w fun a b=>zZ P zb b fun b c=>y1 c fun c=>zi P zb a 0 c fun d e=>e=c∧ze P zc d c fun e f=>f=c∧zi P zb a 0 c fun f g=>g=c∧ze P zc f c fun f g=>g=c∧vcall P kp #[v1,f] c fun c f=>(ze P zc d f fun g h=>g=e∧h=f)∧(zi P zb a 0 f fun g h=>g=d∧h=f)∧Zi P y8 zc c f fun a c=>c=f∧zE P zb [(0,e),(1,a)] f fun a c=>c=f∧zp P zb b a f fun _ a=>vlv P zb b a fun a b=>R a b
theorem zT0 {v0 v1 w R} (h:JN PP v0 v1 w R):vcall PP j9 #[v0,v1] w R:=zn {ord:=[(1,[0,1,2,3,4,5,6,7,8],[(0,[1,7,8]),(1,[7,8]),(2,[5,6,7,8]),(3,[4,5,6,7,8]),(4,[5,6,7,8]),(5,[6,7,8]),(6,[7,8]),(7,[8])])]} Tryz.func319 (by kernel_rfl) (by kernel_rfl) h
def JF (P:Program) (v0 v1:Value) (w:World) (R:Value→World→Prop):Prop:=zo P .shl y8 true (.int .u64 1) v1 w fun a b=>zo P .sub y8 true a (.int .u64 1) b fun a b=>zo P .and y8 false v0 a b fun a b=>R a b
theorem zL0 {v0 v1 w R} (h:JF PP v0 v1 w R):vcall PP kp #[v0,v1] w R:=zn {} Tryz.func320 (by kernel_rfl) (by kernel_rfl) h
def ZF (P:Program) (v0 v1 v2 v3:Value) (w:World) (R:Value→World→Prop):Prop:=yB P zT v0 w fun _ a=>yB P z7 v2 a fun _ a=>y1 a fun a=>zm P zg v3 (.int .i64 0) a fun b c=>c=a∧ze P zc b a fun b c=>c=a∧zo P .gtr zc true b (.int .i64 0) a fun b c=>c=a∧vif b (zm P zg v3 (.int .i64 1) a fun b c=>c=a∧ze P zc b a fun b c=>c=a∧zo P .gtr zc true b (.int .i64 0) a fun b c=>c=a∧vif b (zm P zg v3 (.int .i64 0) a fun b c=>c=a∧ze P zc b a fun b c=>c=a∧zm P zg v3 (.int .i64 1) a fun c d=>d=a∧ze P zc c a fun c d=>d=a∧zo P .add zc false b c a fun b c=>c=a∧zo P .leq zc true b (.int .i64 4) a fun b c=>c=a∧zm P zg v3 (.int .i64 0) a fun c d=>d=a∧ze P zc c a fun c d=>d=a∧zm P zg v3 (.int .i64 1) a fun d e=>e=a∧ze P zc d a fun d e=>e=a∧zo P .add zc false c d a fun c d=>d=a∧vcall P yc #[b,c] a fun b c=>R b c) (zm P zg v3 (.int .i64 0) a fun b c=>c=a∧ze P zc b a fun b c=>c=a∧zm P zg v3 (.int .i64 1) a fun c d=>d=a∧ze P zc c a fun c d=>d=a∧zo P .add zc false b c a fun b c=>c=a∧vcall P yc #[(.bool false),b] a fun b c=>R b c)) (zm P zg v3 (.int .i64 0) a fun b c=>c=a∧ze P zc b a fun b c=>c=a∧zm P zg v3 (.int .i64 1) a fun c d=>d=a∧ze P zc c a fun c d=>d=a∧zo P .add zc false b c a fun b c=>c=a∧vcall P yc #[(.bool false),b] a fun a b=>R a b)
theorem Kk {v0 v1 v2 v3 w R} (h:ZF PP v0 v1 v2 v3 w R):vcall PP ji #[v0,v1,v2,v3] w R:=zn {ord:=[(1,[0,1,2,3,4,5,6,7,8,9,10,11,12,13,14,15,16,17,18,19,20,21,22,23,24,25,26,27,28],[(0,[1,2,3,4,5,6,7,8,9,10,11,12,13,14,15,16,17,18,19,27,28]),(1,[2,3,4,5,6,7,8,9,10,11,12,13,14,15,16,17,18,19,27,28]),(2,[3,4,5,6,7,8,9,10,11,12,13,14,15,16,17,18,19,27,28]),(3,[4,5,6,7,8,9,10,11,12,13,14,15,16,17,18,19,27,28]),(4,[5,6,7,8,9,10,11,12,13,14,15,16,17,18,19,27,28]),(5,[6,7,8,9,10,11,12,13,14,15,16,17,18,19,27,28]),(6,[7,8,9,10,11,12,13,14,15,16,17,18,19,27,28]),(7,[8,9,10,11,12,13,14,15,16,17,18,19,27,28]),(8,[9,10,11,12,13,14,15,16,17,18,19,27,28]),(9,[10,11,12,13,14,15,16,17,18,19,27,28]),(10,[11,12,13,14,15,16,17,18,19,27,28]),(11,[12,13,17,18,19,27,28]),(12,[13,17,18,19,27,28]),(13,[17,18,19,27,28]),(14,[15,16,17,18,19,27,28]),(15,[16,17,18,19,27,28]),(16,[17,18,19,27,28]),(17,[18,19,27,28]),(18,[19,27,28]),(19,[27,28]),(20,[21,22,26,27,28]),(21,[22,26,27,28]),(22,[26,27,28]),(23,[24,25,26,27,28]),(24,[25,26,27,28]),(25,[26,27,28]),(26,[27,28]),(27,[28])])]} Tryz.func321 (by kernel_rfl) (by kernel_rfl) h
def kW (P:Program) (v0 v1 v2 v3:Value) (w:World) (R:Value→World→Prop):Prop:=yB P zT v0 w fun _ a=>yB P z7 v2 a fun a b=>xa (fun c=>y1 b fun b=>zi P z7 a 0 b fun d e=>e=b∧ze P zc d b fun e f=>f=b∧zm P y0 v3 (.int .i64 0) b fun f g=>g=b∧ze P zb f b fun g h=>h=b∧zm P y0 v3 (.int .i64 1) b fun h i=>i=b∧ze P zb h b fun i j=>j=b∧(vcall P qU #[e,g,i] b fun j k=>zj P j 0 k fun l m=>m=k∧zj P j 1 k fun m n=>n=k∧(zZ P zb k fun k n=>(zj P j 1 n fun o p=>o=m∧p=n)∧(zj P j 0 n fun o p=>o=l∧p=n)∧(zp P zb k l n fun _ l=>(zj P j 1 l fun o p=>o=m∧p=l)∧c [k] l)∧True)∧True)∧(zZ P zb b fun b j=>(ze P zb h j fun o p=>o=i∧p=j)∧(zm P y0 v3 (.int .i64 1) j fun o p=>o=h∧p=j)∧(ze P zb f j fun o p=>o=g∧p=j)∧(zm P y0 v3 (.int .i64 0) j fun o p=>o=f∧p=j)∧(ze P zc d j fun o p=>o=e∧p=j)∧(zi P z7 a 0 j fun o p=>o=d∧p=j)∧(vcall P qU #[e,g,i] j fun a d=>zj P a 0 d fun e f=>f=d∧zj P a 1 d fun f g=>g=d∧(zp P zb b e d fun _ d=>(zj P a 1 d fun o p=>o=f∧p=d)∧c [b] d)∧True)∧True)∧True) (fun a _ b=>zi P zb (sl 0 a) 1 b fun a b=>ze P zc a b fun a b=>R a b)
theorem Je {v0 v1 v2 v3 w R} (h:kW PP v0 v1 v2 v3 w R):vcall PP j0 #[v0,v1,v2,v3] w R:=zn {cuts:=[(8194,[9])],trees:=[(1,(.st 0 (.st 1 (.st 2 (.st 3 (.st 4 (.st 5 (.st 6 (.st 7 (.alt 8 (.st 9 (.st 10 (.st 11 (.alt 12 (.alt 13 (.st 14 .nil) .no) .no)))) (.alt 12 (.alt 8 (.st 9 (.st 10 (.st 11 (.alt 13 (.st 14 .nil) .no)))) .no) .no)))))))))),[(0,[1,8,9,10,11,13,14]),(1,[8,9,10,11,13,14]),(2,[3,4,8,9,10,11,13,14]),(3,[4,8,9,10,11,13,14]),(4,[8,9,10,11,13,14]),(5,[6,7,8,9,10,11,13,14]),(6,[7,8,9,10,11,13,14]),(7,[8,9,10,11,13,14]),(8,[9,10,11,13,14]),(9,[10,11,13,14]),(10,[13,14]),(11,[14]),(12,[13,14]),(13,[14])])]} Tryz.func322 (by kernel_rfl) (by kernel_rfl) h
def VJ (P:Program) (v0 v1 v2:Value) (w:World) (R:Value→World→Prop):Prop:=yB P zb v1 w fun a b=>yB P zb v2 b fun b c=>zZ P zb c fun c d=>xa (fun e=>ze P zb a d fun d f=>vcall P xi #[d] f fun d f=>vun P .not d f fun d f=>vif d (zE P zb [] f fun d g=>zp P zb c d g fun _ d=>vlv P zb c d fun d g=>R (.tuple #[d,(.bool false)]) g) (ze P zb b f fun d f=>vcall P xi #[d] f fun d f=>vun P .not d f fun d f=>vif d (zE P zb [] f fun d g=>zp P zb c d g fun _ d=>vlv P zb c d fun d g=>R (.tuple #[d,(.bool false)]) g) (e [] f))) (fun _ _ d=>zo P .eql zc true v0 (.int .i64 14) d fun d e=>vif d (y1 e fun d=>zi P zb a 0 d fun f g=>g=d∧ze P zc f d fun g h=>h=d∧zi P zb b 0 d fun h i=>i=d∧ze P zc h d fun i j=>j=d∧zo P .add zc false g i d fun j k=>k=d∧zi P zb a 1 d fun k l=>l=d∧ze P zc k d fun l m=>m=d∧zi P zb b 0 d fun m n=>n=d∧ze P zc m d fun n o=>o=d∧zo P .shl zc false l n d fun o p=>p=d∧zi P zb b 1 d fun p q=>q=d∧ze P zc p d fun q r=>r=d∧zo P .or zc false o q d fun r s=>s=d∧zE P zb [(0,j),(1,r)] d fun s t=>t=d∧zZ P zb d fun d t=>(zE P zb [(0,j),(1,r)] t fun u v=>u=s∧v=t)∧(zo P .or zc false o q t fun u v=>u=r∧v=t)∧(ze P zc p t fun u v=>u=q∧v=t)∧(zi P zb b 1 t fun u v=>u=p∧v=t)∧(zo P .shl zc false l n t fun u v=>u=o∧v=t)∧(ze P zc m t fun u v=>u=n∧v=t)∧(zi P zb b 0 t fun u v=>u=m∧v=t)∧(ze P zc k t fun u v=>u=l∧v=t)∧(zi P zb a 1 t fun u v=>u=k∧v=t)∧(zo P .add zc false g i t fun u v=>u=j∧v=t)∧(ze P zc h t fun u v=>u=i∧v=t)∧(zi P zb b 0 t fun u v=>u=h∧v=t)∧(ze P zc f t fun u v=>u=g∧v=t)∧(zi P zb a 0 t fun u v=>u=f∧v=t)∧zp P zb d s t fun _ f=>zi P zb d 0 f fun f g=>ze P zc f g fun f g=>zo P .gtr zc true f (.int .i64 4) g fun f g=>vif f (zE P zb [] g fun f h=>zp P zb c f h fun _ f=>vlv P zb c f fun f h=>R (.tuple #[f,(.bool false)]) h) (ze P zb d g fun d f=>zp P zb c d f fun _ d=>vlv P zb c d fun d f=>R (.tuple #[d,(.bool true)]) f)) (xa (fun d=>zo P .lss zc true v0 (.int .i64 3) e fun e f=>vif e (zE P zb [] f fun e g=>zp P zb c e g fun _ e=>vlv P zb c e fun e g=>R (.tuple #[e,(.bool false)]) g) (zo P .gtr zc true v0 (.int .i64 13) f fun e f=>vif e (zE P zb [] f fun e g=>zp P zb c e g fun _ e=>vlv P zb c e fun e g=>R (.tuple #[e,(.bool false)]) g) (zi P zb a 0 f fun e f=>ze P zc e f fun e f=>zi P zb b 0 f fun f g=>ze P zc f g fun f g=>zo P .neq zc false e f g fun e f=>vif e (zE P zb [] f fun e g=>zp P zb c e g fun _ e=>vlv P zb c e fun e g=>R (.tuple #[e,(.bool false)]) g) (d [] f)))) (fun _ _ d=>y1 d fun d=>ze P zb a d fun e f=>f=d∧ze P zb a d fun f g=>g=d∧ze P zb b d fun g h=>h=d∧vcall P Zo #[] d fun d h=>(ze P zb b h fun u v=>u=g∧v=h)∧(ze P zb a h fun u v=>u=f∧v=h)∧(ze P zb a h fun u v=>u=e∧v=h)∧y80 P zX d v0 h fun b d=>d=h∧vcallv P b #[f,g] h fun b d=>(ze P zb a d fun u v=>u=e∧v=d)∧vcall P j9 #[e,b] d fun a b=>zp P zb c a b fun _ a=>vlv P zb c a fun a b=>R (.tuple #[a,(.bool true)]) b)))
theorem xk0 {v0 v1 v2 w R} (h:VJ PP v0 v1 v2 w R):vcall PP qU #[v0,v1,v2] w R:=zn {ord:=[(4,[0,1,2,3,4,5,6,7,8,9,10,11,12,13,14,15],[(0,[1,4,13,15]),(1,[4,13,15]),(2,[3,4,13,15]),(3,[4,13,15]),(4,[13,15]),(5,[6,9,12,13,15]),(6,[9,12,13,15]),(7,[8,9,12,13,15]),(8,[9,12,13,15]),(9,[12,13,15]),(10,[11,12,13,15]),(11,[12,13,15]),(12,[13,15]),(13,[15]),(14,[15])]),(10,[0,2,4,5,1,3,6,7,8,9],[(0,[7,8,9]),(2,[3,6,7,8,9]),(4,[6,7,8,9]),(5,[6,7,8,9]),(1,[3,6,7,8,9]),(3,[6,7,8,9]),(6,[7,8,9]),(7,[8,9]),(8,[9])])],cuts:=[(8195,[]),(36874,[])]} Tryz.func323 (by kernel_rfl) (by kernel_rfl) h
def Qs (P:Program) (w:World) (R:Value→World→Prop):Prop:=zZ P zX w fun a b=>zE P zX [(3,(.func (.func x7) #[] #[])),(4,(.func (.func x6) #[] #[])),(5,(.func (.func x5) #[] #[])),(6,(.func (.func yZ) #[] #[])),(7,(.func (.func yY) #[] #[])),(8,(.func (.func yX) #[] #[])),(9,(.func (.func yW) #[] #[])),(10,(.func (.func yV) #[] #[])),(11,(.func (.func yU) #[] #[])),(12,(.func (.func yL) #[] #[])),(13,(.func (.func yK) #[] #[]))] b fun b c=>zp P zX a b c fun _ b=>vlv P zX a b fun a b=>R a b
theorem z00 {w R} (h:Qs PP w R):vcall PP Zo #[] w R:=zn {} Tryz.func324 (by kernel_rfl) (by kernel_rfl) h
def YR (P:Program) (v0 v1:Value) (w:World) (R:Value→World→Prop):Prop:=yB P zb v0 w fun a b=>yB P zb v1 b fun b c=>y1 c fun c=>ze P zb a c fun a d=>d=c∧ze P zb b c fun d e=>e=c∧vcall P zF #[a] c fun a c=>(ze P zb b c fun b e=>b=d∧e=c)∧vcall P zF #[d] c fun b c=>zo P .and y8 false a b c fun a b=>b=c∧R a c
theorem Wj {v0 v1 w R} (h:YR PP v0 v1 w R):vcall PP x7 #[v0,v1] w R:=zn {ord:=[(1,[0,2,1,3,4,5],[(0,[1,3,4,5]),(2,[3,4,5]),(1,[3,4,5]),(3,[4,5]),(4,[5])])]} Tryz.func325 (by kernel_rfl) (by kernel_rfl) h
def YQ (P:Program) (v0 v1:Value) (w:World) (R:Value→World→Prop):Prop:=yB P zb v0 w fun a b=>yB P zb v1 b fun b c=>y1 c fun c=>ze P zb a c fun a d=>d=c∧ze P zb b c fun d e=>e=c∧vcall P zF #[a] c fun a c=>(ze P zb b c fun b e=>b=d∧e=c)∧vcall P zF #[d] c fun b c=>zo P .or y8 false a b c fun a b=>b=c∧R a c
theorem Wi {v0 v1 w R} (h:YQ PP v0 v1 w R):vcall PP x6 #[v0,v1] w R:=zn {ord:=[(1,[0,2,1,3,4,5],[(0,[1,3,4,5]),(2,[3,4,5]),(1,[3,4,5]),(3,[4,5]),(4,[5])])]} Tryz.func326 (by kernel_rfl) (by kernel_rfl) h
def YP (P:Program) (v0 v1:Value) (w:World) (R:Value→World→Prop):Prop:=yB P zb v0 w fun a b=>yB P zb v1 b fun b c=>y1 c fun c=>ze P zb a c fun a d=>d=c∧ze P zb b c fun d e=>e=c∧vcall P zF #[a] c fun a c=>(ze P zb b c fun b e=>b=d∧e=c)∧vcall P zF #[d] c fun b c=>zo P .xor y8 false a b c fun a b=>b=c∧R a c
theorem Wh {v0 v1 w R} (h:YP PP v0 v1 w R):vcall PP x5 #[v0,v1] w R:=zn {ord:=[(1,[0,2,1,3,4,5],[(0,[1,3,4,5]),(2,[3,4,5]),(1,[3,4,5]),(3,[4,5]),(4,[5])])]} Tryz.func327 (by kernel_rfl) (by kernel_rfl) h
def YO (P:Program) (v0 v1:Value) (w:World) (R:Value→World→Prop):Prop:=yB P zb v0 w fun a b=>yB P zb v1 b fun b c=>y1 c fun c=>ze P zb a c fun a d=>d=c∧ze P zb b c fun d e=>e=c∧vcall P zF #[a] c fun a c=>(ze P zb b c fun b e=>b=d∧e=c)∧vcall P zF #[d] c fun b c=>zo P .add y8 false a b c fun a b=>b=c∧R a c
theorem Wg {v0 v1 w R} (h:YO PP v0 v1 w R):vcall PP yZ #[v0,v1] w R:=zn {ord:=[(1,[0,2,1,3,4,5],[(0,[1,3,4,5]),(2,[3,4,5]),(1,[3,4,5]),(3,[4,5]),(4,[5])])]} Tryz.func328 (by kernel_rfl) (by kernel_rfl) h
def YN (P:Program) (v0 v1:Value) (w:World) (R:Value→World→Prop):Prop:=yB P zb v0 w fun a b=>yB P zb v1 b fun b c=>y1 c fun c=>ze P zb a c fun a d=>d=c∧ze P zb b c fun d e=>e=c∧vcall P zF #[a] c fun a c=>(ze P zb b c fun b e=>b=d∧e=c)∧vcall P zF #[d] c fun b c=>zo P .sub y8 false a b c fun a b=>b=c∧R a c
theorem Wf {v0 v1 w R} (h:YN PP v0 v1 w R):vcall PP yY #[v0,v1] w R:=zn {ord:=[(1,[0,2,1,3,4,5],[(0,[1,3,4,5]),(2,[3,4,5]),(1,[3,4,5]),(3,[4,5]),(4,[5])])]} Tryz.func329 (by kernel_rfl) (by kernel_rfl) h
def YM (P:Program) (v0 v1:Value) (w:World) (R:Value→World→Prop):Prop:=yB P zb v0 w fun a b=>yB P zb v1 b fun b c=>y1 c fun c=>ze P zb a c fun a d=>d=c∧ze P zb b c fun d e=>e=c∧vcall P zF #[a] c fun a c=>(ze P zb b c fun b e=>b=d∧e=c)∧vcall P zF #[d] c fun b c=>zo P .mul y8 false a b c fun a b=>b=c∧R a c
theorem We {v0 v1 w R} (h:YM PP v0 v1 w R):vcall PP yX #[v0,v1] w R:=zn {ord:=[(1,[0,2,1,3,4,5],[(0,[1,3,4,5]),(2,[3,4,5]),(1,[3,4,5]),(3,[4,5]),(4,[5])])]} Tryz.func330 (by kernel_rfl) (by kernel_rfl) h
def YL (P:Program) (v0 v1:Value) (w:World) (R:Value→World→Prop):Prop:=yB P zb v0 w fun a b=>yB P zb v1 b fun b c=>zi P zb b 1 c fun c d=>ze P zc c d fun c d=>zo P .eql zc true c (.int .i64 0) d fun c d=>vif c (ze P zb a d fun c e=>vcall P jH #[c] e fun c e=>R c e) (y1 d fun c=>ze P zb a c fun a d=>d=c∧ze P zb b c fun d e=>e=c∧vcall P zF #[a] c fun a c=>(ze P zb b c fun b e=>b=d∧e=c)∧vcall P zF #[d] c fun b c=>zo P .quo y8 false a b c fun a b=>b=c∧R a c)
theorem Wd {v0 v1 w R} (h:YL PP v0 v1 w R):vcall PP yW #[v0,v1] w R:=zn {ord:=[(3,[0,2,1,3,4,5],[(0,[1,3,4,5]),(2,[3,4,5]),(1,[3,4,5]),(3,[4,5]),(4,[5])])]} Tryz.func331 (by kernel_rfl) (by kernel_rfl) h
def YK (P:Program) (v0 v1:Value) (w:World) (R:Value→World→Prop):Prop:=yB P zb v0 w fun a b=>yB P zb v1 b fun b c=>zi P zb b 1 c fun c d=>ze P zc c d fun c d=>zo P .eql zc true c (.int .i64 0) d fun c d=>vif c (ze P zb a d fun c e=>vcall P zF #[c] e fun c e=>R c e) (y1 d fun c=>ze P zb a c fun a d=>d=c∧ze P zb b c fun d e=>e=c∧vcall P zF #[a] c fun a c=>(ze P zb b c fun b e=>b=d∧e=c)∧vcall P zF #[d] c fun b c=>zo P .rem y8 false a b c fun a b=>b=c∧R a c)
theorem Wc {v0 v1 w R} (h:YK PP v0 v1 w R):vcall PP yV #[v0,v1] w R:=zn {ord:=[(3,[0,2,1,3,4,5],[(0,[1,3,4,5]),(2,[3,4,5]),(1,[3,4,5]),(3,[4,5]),(4,[5])])]} Tryz.func332 (by kernel_rfl) (by kernel_rfl) h
def YJ (P:Program) (v0 v1:Value) (w:World) (R:Value→World→Prop):Prop:=yB P zb v0 w fun a b=>yB P zb v1 b fun b c=>y1 c fun c=>ze P zb a c fun a d=>d=c∧ze P zb b c fun d e=>e=c∧vcall P zF #[a] c fun a c=>(ze P zb b c fun b e=>b=d∧e=c)∧vcall P zF #[d] c fun b c=>zo P .shl y8 false a b c fun a b=>b=c∧R a c
theorem Wb {v0 v1 w R} (h:YJ PP v0 v1 w R):vcall PP yU #[v0,v1] w R:=zn {ord:=[(1,[0,2,1,3,4,5],[(0,[1,3,4,5]),(2,[3,4,5]),(1,[3,4,5]),(3,[4,5]),(4,[5])])]} Tryz.func333 (by kernel_rfl) (by kernel_rfl) h
def Y9 (P:Program) (v0 v1:Value) (w:World) (R:Value→World→Prop):Prop:=yB P zb v0 w fun a b=>yB P zb v1 b fun b c=>y1 c fun c=>ze P zb a c fun a d=>d=c∧ze P zb b c fun d e=>e=c∧vcall P zF #[a] c fun a c=>(ze P zb b c fun b e=>b=d∧e=c)∧vcall P zF #[d] c fun b c=>zo P .shr y8 false a b c fun a b=>b=c∧R a c
theorem V8 {v0 v1 w R} (h:Y9 PP v0 v1 w R):vcall PP yL #[v0,v1] w R:=zn {ord:=[(1,[0,2,1,3,4,5],[(0,[1,3,4,5]),(2,[3,4,5]),(1,[3,4,5]),(3,[4,5]),(4,[5])])]} Tryz.func334 (by kernel_rfl) (by kernel_rfl) h
def Y8 (P:Program) (v0 v1:Value) (w:World) (R:Value→World→Prop):Prop:=yB P zb v0 w fun a b=>yB P zb v1 b fun b c=>y1 c fun c=>ze P zb a c fun a d=>d=c∧ze P zb b c fun d e=>e=c∧vcall P j4 #[a] c fun a c=>(ze P zb b c fun b e=>b=d∧e=c)∧vcall P zF #[d] c fun b c=>zo P .shr y8 false a b c fun a b=>b=c∧R a c
theorem V7 {v0 v1 w R} (h:Y8 PP v0 v1 w R):vcall PP yK #[v0,v1] w R:=zn {ord:=[(1,[0,2,1,3,4,5],[(0,[1,3,4,5]),(2,[3,4,5]),(1,[3,4,5]),(3,[4,5]),(4,[5])])]} Tryz.func335 (by kernel_rfl) (by kernel_rfl) h
def Z2 (P:Program) (v0:Value) (w:World) (R:Value→World→Prop):Prop:=yB P zb v0 w fun a b=>y1 b fun b=>ze P zb a b fun c d=>d=b∧zi P zb a 0 b fun d e=>e=b∧ze P zc d b fun e f=>f=b∧zo P .sub zc true e (.int .i64 1) b fun f g=>g=b∧vcall P zF #[c] b fun b c=>(zo P .sub zc true e (.int .i64 1) c fun g h=>g=f∧h=c)∧(ze P zc d c fun g h=>g=e∧h=c)∧(zi P zb a 0 c fun g h=>g=d∧h=c)∧vcall P xV #[b,f] c fun b c=>vif b (y1 c fun b=>ze P zb a b fun d e=>e=b∧ze P zb a b fun e f=>f=b∧vcall P zF #[d] b fun b d=>(ze P zb a d fun g h=>g=e∧h=d)∧vcall P jH #[e] d fun d e=>vun P .xor d e fun d f=>f=e∧zo P .and y8 true d (.int .u64 4294967295) e fun d f=>f=e∧zo P .or y8 false b d e fun b d=>d=e∧R b e) (ze P zb a c fun a b=>vcall P zF #[a] b fun a b=>R a b)
theorem Jk {v0 w R} (h:Z2 PP v0 w R):vcall PP j4 #[v0] w R:=zn {ord:=[(1,[0,2,3,4,1,5],[(0,[1,5]),(2,[3,4,5]),(3,[4,5]),(4,[5]),(1,[5])]),(2,[0,2,1,3,4,5,6,7],[(0,[1,3,4,5,6,7]),(2,[3,4,5,6,7]),(1,[3,4,5,6,7]),(3,[4,5,6,7]),(4,[5,6,7]),(5,[6,7]),(6,[7])])]} Tryz.func336 (by kernel_rfl) (by kernel_rfl) h
def ZD (P:Program) (v0 v1 v2 v3:Value) (w:World) (R:Value→World→Prop):Prop:=yB P zG v0 w fun _ a=>yB P z7 v2 a fun _ a=>y1 a fun a=>zm P zg v3 (.int .i64 0) a fun b c=>c=a∧ze P zc b a fun b c=>c=a∧zo P .gtr zc true b (.int .i64 0) a fun b c=>c=a∧vif b (zm P zg v3 (.int .i64 0) a fun b c=>c=a∧ze P zc b a fun b c=>c=a∧zm P zg v3 (.int .i64 1) a fun c d=>d=a∧ze P zc c a fun c d=>d=a∧zo P .eql zc false b c a fun b c=>c=a∧vcall P yc #[b,(.int .i64 0)] a fun b c=>R b c) (vcall P yc #[(.bool false),(.int .i64 0)] a fun a b=>R a b)
theorem Ki {v0 v1 v2 v3 w R} (h:ZD PP v0 v1 v2 v3 w R):vcall PP jh #[v0,v1,v2,v3] w R:=zn {ord:=[(1,[0,1,2,3,4,5,6,7,8,9,10,11,12,13,14],[(0,[1,2,3,4,5,6,7,8,9,10,11,12,13,14]),(1,[2,3,4,5,6,7,8,9,10,11,12,13,14]),(2,[3,4,5,6,7,8,9,10,11,12,13,14]),(3,[4,5,6,7,8,9,10,11,12,13,14]),(4,[5,6,7,8,9,10,11,12,13,14]),(5,[6,7,11,12,13,14]),(6,[7,11,12,13,14]),(7,[11,12,13,14]),(8,[9,10,11,12,13,14]),(9,[10,11,12,13,14]),(10,[11,12,13,14]),(11,[12,13,14]),(12,[13,14]),(13,[14])])]} Tryz.func337 (by kernel_rfl) (by kernel_rfl) h
def kV (P:Program) (v0 v1 v2 v3:Value) (w:World) (R:Value→World→Prop):Prop:=yB P zG v0 w fun _ a=>yB P z7 v2 a fun a b=>y1 b fun b=>zi P z7 a 0 b fun a c=>c=b∧ze P zc a b fun a c=>c=b∧zm P y0 v3 (.int .i64 0) b fun c d=>d=b∧ze P zb c b fun c d=>d=b∧zm P y0 v3 (.int .i64 1) b fun d e=>e=b∧ze P zb d b fun d e=>e=b∧vcall P Xe #[a,c,d] b fun a b=>zj P a 0 b fun c d=>d=b∧zj P a 1 b fun _ a=>a=b∧vcall P Z8 #[c] b fun a b=>R a b
theorem Jd {v0 v1 v2 v3 w R} (h:kV PP v0 v1 v2 v3 w R):vcall PP qZ #[v0,v1,v2,v3] w R:=zn {ord:=[(1,[0,1,2,3,4,5,6,7,8,9,10,11,12,13],[(0,[1,8,9,10,11,12,13]),(1,[8,9,10,11,12,13]),(2,[3,4,8,9,10,11,12,13]),(3,[4,8,9,10,11,12,13]),(4,[8,9,10,11,12,13]),(5,[6,7,8,9,10,11,12,13]),(6,[7,8,9,10,11,12,13]),(7,[8,9,10,11,12,13]),(8,[9,10,11,12,13]),(9,[10,11,12,13]),(10,[12,13]),(11,[13]),(12,[13])])]} Tryz.func338 (by kernel_rfl) (by kernel_rfl) h
def VI (P:Program) (v0 v1 v2:Value) (w:World) (R:Value→World→Prop):Prop:=yB P zb v1 w fun a b=>yB P zb v2 b fun b c=>xa (fun d=>ze P zb a c fun c e=>vcall P xi #[c] e fun c e=>vun P .not c e fun c e=>vif c (R (.tuple #[(.bool false),(.bool false)]) e) (ze P zb b e fun c e=>vcall P xi #[c] e fun c e=>vun P .not c e fun c e=>vif c (R (.tuple #[(.bool false),(.bool false)]) e) (zi P zb a 0 e fun c e=>ze P zc c e fun c e=>zi P zb b 0 e fun e f=>ze P zc e f fun e f=>zo P .neq zc false c e f fun c e=>vif c (R (.tuple #[(.bool false),(.bool false)]) e) (d [] e)))) (fun _ _ c=>zo P .eql zc true v0 (.int .i64 15) c fun c d=>vif c (ze P zb a d fun c e=>ze P zb b e fun e f=>zo P .eql zb false c e f fun c e=>R (.tuple #[c,(.bool true)]) e) (zo P .eql zc true v0 (.int .i64 16) d fun c d=>vif c (zi P zb a 1 d fun c e=>ze P zc c e fun c e=>zi P zb b 1 e fun e f=>ze P zc e f fun e f=>zo P .lss zc false c e f fun c e=>R (.tuple #[c,(.bool true)]) e) (zo P .eql zc true v0 (.int .i64 17) d fun c d=>vif c (y1 d fun c=>ze P zb a c fun a e=>e=c∧ze P zb b c fun e f=>f=c∧vcall P ja #[a] c fun a c=>(ze P zb b c fun b f=>b=e∧f=c)∧vcall P ja #[e] c fun b c=>zo P .lss zc false a b c fun a b=>b=c∧R (.tuple #[a,(.bool true)]) c) (R (.tuple #[(.bool false),(.bool false)]) d))))
theorem xj0 {v0 v1 v2 w R} (h:VI PP v0 v1 v2 w R):vcall PP Xe #[v0,v1,v2] w R:=zn {ord:=[(9,[0,2,1,3,4,5,6],[(0,[1,3,4,5,6]),(2,[3,4,5,6]),(1,[3,4,5,6]),(3,[4,5,6]),(4,[5,6]),(5,[6])])],cuts:=[(8195,[])]} Tryz.func339 (by kernel_rfl) (by kernel_rfl) h
def VE (P:Program) (v0:Value) (w:World) (R:Value→World→Prop):Prop:=vif v0 (R (.int .i64 1) w) (R (.int .i64 0) w)
theorem xf0 {v0 w R} (h:VE PP v0 w R):vcall PP Z8 #[v0] w R:=zn {} Tryz.func340 (by kernel_rfl) (by kernel_rfl) h
def Xw (P:Program) (v0:Value) (w:World) (R:Value→World→Prop):Prop:=yB P zb v0 w fun a b=>ze P zb a b fun b c=>vcall P xi #[b] c fun b c=>vun P .not b c fun b c=>vif b (R (.int .i64 0) c) (y1 c fun b=>ze P zb a b fun c d=>d=b∧zi P zb a 0 b fun d e=>e=b∧ze P zc d b fun e f=>f=b∧zo P .sub zc true e (.int .i64 1) b fun f g=>g=b∧vcall P zF #[c] b fun b c=>(zo P .sub zc true e (.int .i64 1) c fun g h=>g=f∧h=c)∧(ze P zc d c fun g h=>g=e∧h=c)∧(zi P zb a 0 c fun g h=>g=d∧h=c)∧vcall P xV #[b,f] c fun b c=>vif b (y1 c fun b=>zi P zb a 1 b fun d e=>e=b∧ze P zc d b fun d e=>e=b∧zi P zb a 0 b fun e f=>f=b∧ze P zc e b fun e f=>f=b∧zo P .shl zc true (.int .i64 1) e b fun e f=>f=b∧zo P .sub zc false d e b fun d e=>e=b∧R d b) (zi P zb a 1 c fun a b=>ze P zc a b fun a b=>R a b))
theorem U3 {v0 w R} (h:Xw PP v0 w R):vcall PP ja #[v0] w R:=zn {ord:=[(3,[0,2,3,4,1,5],[(0,[1,5]),(2,[3,4,5]),(3,[4,5]),(4,[5]),(1,[5])]),(4,[0,1,2,3,4,5,6],[(0,[1,5,6]),(1,[5,6]),(2,[3,4,5,6]),(3,[4,5,6]),(4,[5,6]),(5,[6])])]} Tryz.func341 (by kernel_rfl) (by kernel_rfl) h
def Zy (P:Program) (v0 v1 v2 v3:Value) (w:World) (R:Value→World→Prop):Prop:=yB P zP v0 w fun _ a=>yB P z7 v2 a fun a b=>y1 b fun b=>zi P z7 a 1 b fun c d=>d=b∧ze P zc c b fun c d=>d=b∧zi P z7 a 2 b fun d e=>e=b∧ze P zc d b fun d e=>e=b∧zE P zb [(0,c),(1,d)] b fun c d=>d=b∧zi P z7 a 1 b fun d e=>e=b∧ze P zc d b fun e f=>f=b∧vcall P xi #[c] b fun b c=>(ze P zc d c fun f g=>f=e∧g=c)∧(zi P z7 a 1 c fun f g=>f=d∧g=c)∧vcall P yc #[b,e] c fun a b=>R a b
theorem Kd {v0 v1 v2 v3 w R} (h:Zy PP v0 v1 v2 v3 w R):vcall PP jc #[v0,v1,v2,v3] w R:=zn {ord:=[(1,[0,1,2,3,4,6,7,5,8,9],[(0,[1,4,5,8,9]),(1,[4,5,8,9]),(2,[3,4,5,8,9]),(3,[4,5,8,9]),(4,[5,8,9]),(6,[7,8,9]),(7,[8,9]),(5,[8,9]),(8,[9])])]} Tryz.func342 (by kernel_rfl) (by kernel_rfl) h
def kR (P:Program) (v0 v1 v2 v3:Value) (w:World) (R:Value→World→Prop):Prop:=yB P zP v0 w fun _ a=>yB P z7 v2 a fun a b=>zi P z7 a 2 b fun a b=>ze P zc a b fun a b=>R a b
theorem J9 {v0 v1 v2 v3 w R} (h:kR PP v0 v1 v2 v3 w R):vcall PP qW #[v0,v1,v2,v3] w R:=zn {} Tryz.func343 (by kernel_rfl) (by kernel_rfl) h
def kT (P:Program) (v0 v1 v2 v3:Value) (w:World) (R:Value→World→Prop):Prop:=yB P zK v0 w fun _ a=>yB P z7 v2 a fun a b=>kN0 P (.func jV) [] [a] b fun a b=>vcall P yi #[v1,a] b fun a b=>zo P .lss zc true a (.int .i64 0) b fun b c=>vif b (R (.int .i64 (-1)) c) (zm P zt v1 a c fun a b=>zi P zw a 1 b fun a b=>ze P zc a b fun a b=>R a b)
theorem Jb {v0 v1 v2 v3 w R} (h:kT PP v0 v1 v2 v3 w R):vcall PP qX #[v0,v1,v2,v3] w R:=zn {} Tryz.func344 (by kernel_rfl) (by kernel_rfl) h
def kF (P:Program) (v0 v1 v2 v3:Value) (w:World) (R:Value→World→Prop):Prop:=yB P zK v0 w fun _ a=>yB P z7 v2 a fun a b=>zi P z7 a 3 b fun a b=>ze P zJ a b fun a b=>Yt P xU v1 a false b fun a b=>R a b
theorem Qg {v0 v1 v2 v3 w R} (h:kF PP v0 v1 v2 v3 w R):vcall PP qI #[v0,v1,v2,v3] w R:=zn {} Tryz.func345 (by kernel_rfl) (by kernel_rfl) h
def jX (P:Program) (v0 v1:Value) (w:World) (R:Value→World→Prop):Prop:=yB P zw v0 w fun a b=>zi P zw a 0 b fun a b=>ze P zJ a b fun a b=>zi P z7 v1 3 b fun b c=>ze P zJ b c fun b c=>zo P .eql zJ false a b c fun a b=>R a b
theorem XA {v0 v1 w R} (h:jX PP v0 v1 w R):vcall PP jV #[v0,v1] w R:=zn {} Tryz.func346 (by kernel_rfl) (by kernel_rfl) h
def ZC (P:Program) (v0 v1 v2 v3:Value) (w:World) (R:Value→World→Prop):Prop:=yB P zN v0 w fun _ a=>yB P z7 v2 a fun a b=>y1 b fun b=>zi P z7 a 2 b fun c d=>d=b∧ze P zc c b fun c d=>d=b∧zo P .geq zc true c (.int .i64 0) b fun c d=>d=b∧vif c (zi P z7 a 1 b fun c d=>d=b∧ze P zc c b fun c d=>d=b∧zi P z7 a 2 b fun d e=>e=b∧ze P zc d b fun d e=>e=b∧zo P .geq zc false c d b fun c d=>d=b∧vif c (zi P z7 a 1 b fun c d=>d=b∧ze P zc c b fun c d=>d=b∧zm P zg v3 (.int .i64 0) b fun d e=>e=b∧ze P zc d b fun d e=>e=b∧zo P .lss zc false c d b fun c d=>d=b∧zi P z7 a 1 b fun d e=>e=b∧ze P zc d b fun d e=>e=b∧zi P z7 a 2 b fun e f=>f=b∧ze P zc e b fun e f=>f=b∧zo P .sub zc false d e b fun d e=>e=b∧zo P .add zc true d (.int .i64 1) b fun d e=>e=b∧vcall P yc #[c,d] b fun c d=>R c d) (zi P z7 a 1 b fun c d=>d=b∧ze P zc c b fun c d=>d=b∧zi P z7 a 2 b fun d e=>e=b∧ze P zc d b fun d e=>e=b∧zo P .sub zc false c d b fun c d=>d=b∧zo P .add zc true c (.int .i64 1) b fun c d=>d=b∧vcall P yc #[(.bool false),c] b fun c d=>R c d)) (zi P z7 a 1 b fun c d=>d=b∧ze P zc c b fun c d=>d=b∧zi P z7 a 2 b fun a d=>d=b∧ze P zc a b fun a d=>d=b∧zo P .sub zc false c a b fun a c=>c=b∧zo P .add zc true a (.int .i64 1) b fun a c=>c=b∧vcall P yc #[(.bool false),a] b fun a b=>R a b)
theorem Kh {v0 v1 v2 v3 w R} (h:ZC PP v0 v1 v2 v3 w R):vcall PP jg #[v0,v1,v2,v3] w R:=zn {ord:=[(1,[0,1,2,3,4,5,6,7,8,9,10,11,12,13,14,15,16,17,18,19,20,21,22,23,24,25],[(0,[1,2,3,4,5,6,7,8,9,10,11,12,13,14,15,16,17,24,25]),(1,[2,3,4,5,6,7,8,9,10,11,12,13,14,15,16,17,24,25]),(2,[3,4,5,6,7,8,9,10,11,12,13,14,15,16,17,24,25]),(3,[4,5,6,7,8,9,10,11,12,13,14,15,16,17,24,25]),(4,[5,8,9,10,11,12,13,14,15,16,17,24,25]),(5,[8,9,10,11,12,13,14,15,16,17,24,25]),(6,[7,8,9,10,11,12,13,14,15,16,17,24,25]),(7,[8,9,10,11,12,13,14,15,16,17,24,25]),(8,[9,10,11,12,13,14,15,16,17,24,25]),(9,[10,11,12,13,14,15,16,17,24,25]),(10,[11,12,13,14,15,16,17,24,25]),(11,[12,16,17,24,25]),(12,[16,17,24,25]),(13,[14,15,16,17,24,25]),(14,[15,16,17,24,25]),(15,[16,17,24,25]),(16,[17,24,25]),(17,[24,25]),(18,[19,22,23,24,25]),(19,[22,23,24,25]),(20,[21,22,23,24,25]),(21,[22,23,24,25]),(22,[23,24,25]),(23,[24,25]),(24,[25])])]} Tryz.func347 (by kernel_rfl) (by kernel_rfl) h
def kU (P:Program) (v0 v1 v2 v3:Value) (w:World) (R:Value→World→Prop):Prop:=yB P zN v0 w fun _ a=>yB P z7 v2 a fun a b=>xa (fun c=>y1 b fun b=>zm P y0 v3 (.int .i64 0) b fun d e=>e=b∧ze P zb d b fun e f=>f=b∧zi P z7 a 1 b fun f g=>g=b∧ze P zc f b fun g h=>h=b∧zi P z7 a 2 b fun h i=>i=b∧ze P zc h b fun i j=>j=b∧(vcall P Z9 #[e,g,i] b fun j k=>zj P j 0 k fun l m=>m=k∧zj P j 1 k fun m n=>n=k∧(zZ P zb k fun k n=>(zj P j 1 n fun o p=>o=m∧p=n)∧(zj P j 0 n fun o p=>o=l∧p=n)∧(zp P zb k l n fun _ l=>(zj P j 1 l fun o p=>o=m∧p=l)∧c [k] l)∧True)∧True)∧(zZ P zb b fun b j=>(ze P zc h j fun o p=>o=i∧p=j)∧(zi P z7 a 2 j fun o p=>o=h∧p=j)∧(ze P zc f j fun o p=>o=g∧p=j)∧(zi P z7 a 1 j fun o p=>o=f∧p=j)∧(ze P zb d j fun o p=>o=e∧p=j)∧(zm P y0 v3 (.int .i64 0) j fun o p=>o=d∧p=j)∧(vcall P Z9 #[e,g,i] j fun a d=>zj P a 0 d fun e f=>f=d∧zj P a 1 d fun f g=>g=d∧(zp P zb b e d fun _ d=>(zj P a 1 d fun o p=>o=f∧p=d)∧c [b] d)∧True)∧True)∧True) (fun a _ b=>zi P zb (sl 0 a) 1 b fun a b=>ze P zc a b fun a b=>R a b)
theorem Jc {v0 v1 v2 v3 w R} (h:kU PP v0 v1 v2 v3 w R):vcall PP qY #[v0,v1,v2,v3] w R:=zn {cuts:=[(8194,[9])],trees:=[(1,(.st 0 (.st 1 (.st 2 (.st 3 (.st 4 (.st 5 (.st 6 (.alt 7 (.st 8 (.st 9 (.st 10 (.alt 11 (.alt 12 (.st 13 .nil) .no) .no)))) (.alt 11 (.alt 7 (.st 8 (.st 9 (.st 10 (.alt 12 (.st 13 .nil) .no)))) .no) .no))))))))),[(0,[1,2,7,8,9,10,12,13]),(1,[2,7,8,9,10,12,13]),(2,[7,8,9,10,12,13]),(3,[4,7,8,9,10,12,13]),(4,[7,8,9,10,12,13]),(5,[6,7,8,9,10,12,13]),(6,[7,8,9,10,12,13]),(7,[8,9,10,12,13]),(8,[9,10,12,13]),(9,[12,13]),(10,[13]),(11,[12,13]),(12,[13])])]} Tryz.func348 (by kernel_rfl) (by kernel_rfl) h
def VH (P:Program) (v0 v1 v2:Value) (w:World) (R:Value→World→Prop):Prop:=yB P zb v0 w fun a b=>zZ P zb b fun b c=>xa (fun d=>ze P zb a c fun c e=>vcall P xi #[c] e fun c e=>vun P .not c e fun c e=>vif c (zE P zb [] e fun c f=>zp P zb b c f fun _ c=>vlv P zb b c fun c f=>R (.tuple #[c,(.bool false)]) f) (zo P .lss zc true v2 (.int .i64 0) e fun c e=>vif c (zE P zb [] e fun c f=>zp P zb b c f fun _ c=>vlv P zb b c fun c f=>R (.tuple #[c,(.bool false)]) f) (zo P .lss zc false v1 v2 e fun c e=>vif c (zE P zb [] e fun c f=>zp P zb b c f fun _ c=>vlv P zb b c fun c f=>R (.tuple #[c,(.bool false)]) f) (zi P zb a 0 e fun c e=>ze P zc c e fun c e=>zo P .geq zc false v1 c e fun c e=>vif c (zE P zb [] e fun c f=>zp P zb b c f fun _ c=>vlv P zb b c fun c f=>R (.tuple #[c,(.bool false)]) f) (d [] e))))) (fun _ _ c=>zo P .sub zc false v1 v2 c fun c d=>zo P .add zc true c (.int .i64 1) d fun c d=>ze P zb a d fun a d=>vcall P zF #[a] d fun a d=>zo P .shr y8 false a v2 d fun a d=>vcall P kp #[a,c] d fun a d=>Zi P y8 zc a d fun a d=>zE P zb [(0,c),(1,a)] d fun a c=>zp P zb b a c fun _ a=>vlv P zb b a fun a b=>R (.tuple #[a,(.bool true)]) b)
theorem xi0 {v0 v1 v2 w R} (h:VH PP v0 v1 v2 w R):vcall PP Z9 #[v0,v1,v2] w R:=zn {cuts:=[(8195,[])]} Tryz.func349 (by kernel_rfl) (by kernel_rfl) h
def Y0 (P:Program) (v0 v1 v2 v3:Value) (w:World) (R:Value→World→Prop):Prop:=yB P zV v0 w fun _ a=>yB P z7 v2 a fun _ a=>y1 a fun a=>zm P zg v3 (.int .i64 0) a fun b c=>c=a∧ze P zc b a fun b c=>c=a∧zo P .eql zc true b (.int .i64 0) a fun b c=>c=a∧vif b (zm P zg v3 (.int .i64 1) a fun b c=>c=a∧ze P zc b a fun b c=>c=a∧zm P zg v3 (.int .i64 2) a fun c d=>d=a∧ze P zc c a fun c d=>d=a∧zo P .eql zc false b c a fun b c=>c=a∧zm P zg v3 (.int .i64 1) a fun c d=>d=a∧ze P zc c a fun c d=>d=a∧vcall P yc #[b,c] a fun b c=>R b c) (zm P zg v3 (.int .i64 1) a fun b c=>c=a∧ze P zc b a fun b c=>c=a∧vcall P yc #[(.bool false),b] a fun a b=>R a b)
theorem KU {v0 v1 v2 v3 w R} (h:Y0 PP v0 v1 v2 v3 w R):vcall PP jC #[v0,v1,v2,v3] w R:=zn {ord:=[(1,[0,1,2,3,4,5,6,7,8,9,10,11,12,13,14,15,16,17],[(0,[1,2,3,4,5,6,7,8,9,10,11,12,16,17]),(1,[2,3,4,5,6,7,8,9,10,11,12,16,17]),(2,[3,4,5,6,7,8,9,10,11,12,16,17]),(3,[4,5,6,7,8,9,10,11,12,16,17]),(4,[5,6,7,8,9,10,11,12,16,17]),(5,[6,7,11,12,16,17]),(6,[7,11,12,16,17]),(7,[11,12,16,17]),(8,[9,10,11,12,16,17]),(9,[10,11,12,16,17]),(10,[11,12,16,17]),(11,[12,16,17]),(12,[16,17]),(13,[14,15,16,17]),(14,[15,16,17]),(15,[16,17]),(16,[17])])]} Tryz.func350 (by kernel_rfl) (by kernel_rfl) h
def ZA (P:Program) (v0 v1 v2 v3:Value) (w:World) (R:Value→World→Prop):Prop:=yB P zV v0 w fun _ a=>yB P z7 v2 a fun _ a=>zm P y0 v3 (.int .i64 0) a fun a b=>zi P zb a 1 b fun a b=>ze P zc a b fun a b=>zo P .eql zc true a (.int .i64 1) b fun a b=>vif a (zm P y0 v3 (.int .i64 1) b fun a c=>zi P zb a 1 c fun a c=>ze P zc a c fun a c=>R a c) (zm P y0 v3 (.int .i64 2) b fun a b=>zi P zb a 1 b fun a b=>ze P zc a b fun a b=>R a b)
theorem Kf {v0 v1 v2 v3 w R} (h:ZA PP v0 v1 v2 v3 w R):vcall PP je #[v0,v1,v2,v3] w R:=zn {} Tryz.func351 (by kernel_rfl) (by kernel_rfl) h
def kZ (P:Program) (v0 v1 v2 v3:Value) (w:World) (R:Value→World→Prop):Prop:=yB P zB v0 w fun _ a=>yB P z7 v2 a fun _ a=>vcall P xx #[v3,(.func (.func jW) #[] #[])] a fun a b=>vun P .not a b fun a b=>vcall P yc #[a,(.int .i64 0)] b fun a b=>R a b
theorem Jh {v0 v1 v2 v3 w R} (h:kZ PP v0 v1 v2 v3 w R):vcall PP j2 #[v0,v1,v2,v3] w R:=zn {} Tryz.func352 (by kernel_rfl) (by kernel_rfl) h
def kK (P:Program) (v0 v1 v2 v3:Value) (w:World) (R:Value→World→Prop):Prop:=yB P zB v0 w fun a b=>yB P z7 v2 b fun _ b=>zi P zB a 1 b fun a b=>ze P jO a b fun a b=>vcallv P a #[v3] b fun a b=>vcall P Z8 #[a] b fun a b=>R a b
theorem Ql {v0 v1 v2 v3 w R} (h:kK PP v0 v1 v2 v3 w R):vcall PP qK #[v0,v1,v2,v3] w R:=zn {} Tryz.func353 (by kernel_rfl) (by kernel_rfl) h
def qc (P:Program) (v0 v1:Value) (w:World) (R:Value→World→Prop):Prop:=vcall P xJ #[v0,v1] w fun a b=>zo P .geq zc true a (.int .i64 0) b fun a b=>R a b
theorem kD {v0 v1 w R} (h:qc PP v0 v1 w R):vcall PP xx #[v0,v1] w R:=zn {} Tryz.func354 (by kernel_rfl) (by kernel_rfl) h
def jZ (P:Program) (v0:Value) (w:World) (R:Value→World→Prop):Prop:=zo P .neq zc true v0 (.int .i64 0) w fun a b=>R a b
theorem XC {v0 w R} (h:jZ PP v0 w R):vcall PP jW #[v0] w R:=zn {} Tryz.func355 (by kernel_rfl) (by kernel_rfl) h
def qS (P:Program) (v0 v1:Value) (w:World) (R:Value→World→Prop):Prop:=vbi P .len [zg] zc [v0] w fun a b=>yG [(.int .i64 0)] b fun b c _ d=>zo P .lss zc false (sl 0 c) a d fun a d=>vif a (zm P zg v0 (sl 0 c) d fun a e=>ze P zc a e fun a e=>vcallv P v1 #[a] e fun a e=>vif a (R (sl 0 c) e) (zo P .add zc true (sl 0 c) (.int .i64 1) e fun a c=>b [a] c)) (R (.int .i64 (-1)) d)
theorem Zv {v0 v1 w R} (h:qS PP v0 v1 w R):vcall PP xJ #[v0,v1] w R:=zn {loops:=[(2,[8])]} Tryz.func356 (by kernel_rfl) (by kernel_rfl) h
def ZM (P:Program) (v0 v1 v2 v3:Value) (w:World) (R:Value→World→Prop):Prop:=yB P zR v0 w fun _ a=>yB P z7 v2 a fun _ a=>y1 a fun a=>zm P zg v3 (.int .i64 0) a fun b c=>c=a∧ze P zc b a fun b c=>c=a∧zo P .gtr zc true b (.int .i64 0) a fun b c=>c=a∧vif b (zm P zg v3 (.int .i64 0) a fun b c=>c=a∧ze P zc b a fun b c=>c=a∧zm P zg v3 (.int .i64 1) a fun c d=>d=a∧ze P zc c a fun c d=>d=a∧zo P .eql zc false b c a fun b c=>c=a∧zm P zg v3 (.int .i64 0) a fun c d=>d=a∧ze P zc c a fun c d=>d=a∧vcall P yc #[b,c] a fun b c=>R b c) (zm P zg v3 (.int .i64 0) a fun b c=>c=a∧ze P zc b a fun b c=>c=a∧vcall P yc #[(.bool false),b] a fun a b=>R a b)
theorem Kt {v0 v1 v2 v3 w R} (h:ZM PP v0 v1 v2 v3 w R):vcall PP jl #[v0,v1,v2,v3] w R:=zn {ord:=[(1,[0,1,2,3,4,5,6,7,8,9,10,11,12,13,14,15,16,17],[(0,[1,2,3,4,5,6,7,8,9,10,11,12,16,17]),(1,[2,3,4,5,6,7,8,9,10,11,12,16,17]),(2,[3,4,5,6,7,8,9,10,11,12,16,17]),(3,[4,5,6,7,8,9,10,11,12,16,17]),(4,[5,6,7,8,9,10,11,12,16,17]),(5,[6,7,11,12,16,17]),(6,[7,11,12,16,17]),(7,[11,12,16,17]),(8,[9,10,11,12,16,17]),(9,[10,11,12,16,17]),(10,[11,12,16,17]),(11,[12,16,17]),(12,[16,17]),(13,[14,15,16,17]),(14,[15,16,17]),(15,[16,17]),(16,[17])])]} Tryz.func357 (by kernel_rfl) (by kernel_rfl) h
def Z1 (P:Program) (v0 v1 v2 v3:Value) (w:World) (R:Value→World→Prop):Prop:=yB P zR v0 w fun _ a=>yB P z7 v2 a fun a b=>xa (fun c=>y1 b fun b=>zi P z7 a 0 b fun d e=>e=b∧ze P zc d b fun e f=>f=b∧zm P y0 v3 (.int .i64 0) b fun f g=>g=b∧ze P zb f b fun g h=>h=b∧zm P y0 v3 (.int .i64 1) b fun h i=>i=b∧ze P zb h b fun i j=>j=b∧(vcall P qU #[e,g,i] b fun j k=>zj P j 0 k fun l m=>m=k∧zj P j 1 k fun m n=>n=k∧(zZ P zb k fun k n=>(zj P j 1 n fun o p=>o=m∧p=n)∧(zj P j 0 n fun o p=>o=l∧p=n)∧(zp P zb k l n fun _ l=>(zj P j 1 l fun o p=>o=m∧p=l)∧c [k] l)∧True)∧True)∧(zZ P zb b fun b j=>(ze P zb h j fun o p=>o=i∧p=j)∧(zm P y0 v3 (.int .i64 1) j fun o p=>o=h∧p=j)∧(ze P zb f j fun o p=>o=g∧p=j)∧(zm P y0 v3 (.int .i64 0) j fun o p=>o=f∧p=j)∧(ze P zc d j fun o p=>o=e∧p=j)∧(zi P z7 a 0 j fun o p=>o=d∧p=j)∧(vcall P qU #[e,g,i] j fun a d=>zj P a 0 d fun e f=>f=d∧zj P a 1 d fun f g=>g=d∧(zp P zb b e d fun _ d=>(zj P a 1 d fun o p=>o=f∧p=d)∧c [b] d)∧True)∧True)∧True) (fun a _ b=>zi P zb (sl 0 a) 1 b fun a b=>ze P zc a b fun a b=>R a b)
theorem Jj {v0 v1 v2 v3 w R} (h:Z1 PP v0 v1 v2 v3 w R):vcall PP j3 #[v0,v1,v2,v3] w R:=zn {cuts:=[(8194,[9])],trees:=[(1,(.st 0 (.st 1 (.st 2 (.st 3 (.st 4 (.st 5 (.st 6 (.st 7 (.alt 8 (.st 9 (.st 10 (.st 11 (.alt 12 (.alt 13 (.st 14 .nil) .no) .no)))) (.alt 12 (.alt 8 (.st 9 (.st 10 (.st 11 (.alt 13 (.st 14 .nil) .no)))) .no) .no)))))))))),[(0,[1,8,9,10,11,13,14]),(1,[8,9,10,11,13,14]),(2,[3,4,8,9,10,11,13,14]),(3,[4,8,9,10,11,13,14]),(4,[8,9,10,11,13,14]),(5,[6,7,8,9,10,11,13,14]),(6,[7,8,9,10,11,13,14]),(7,[8,9,10,11,13,14]),(8,[9,10,11,13,14]),(9,[10,11,13,14]),(10,[13,14]),(11,[14]),(12,[13,14]),(13,[14])])]} Tryz.func358 (by kernel_rfl) (by kernel_rfl) h
end Go.Proofs.YtaekfnbnhjgboaaGreatDoor
end
section
namespace Go.Proofs.YtaekfnbnhjgboaaGreatDoor
open Go Go.Vc Go.Proofs
variable {w:World} {K:Value→World→Prop} {F:Nat→Prop}
theorem k80 (x y:Bool):(Op.equal xm (.bool x) (.bool y)).run PP w= .ok (x==y) w:=by
 have hu:PP.underlying xm=some .bool:=by kernel_rfl
 have:∀d,(Op.equalIn (d+1) xm (.bool x) (.bool y)).run PP w= .ok (x==y) w:=fun d=>by
  rw[Op.equalIn,Sem.run_bind,run_underlying hu];rfl
 exact this 9999
@[push_cast] theorem vbin_neb (b:Bool) (x y:Bool):zo PP .neq xm b (.bool x) (.bool y) w K=K (.bool (x != y)) w:=
 yA rfl (by simp[binOp,k80,Result.andThen,bne])
@[push_cast] theorem vbin_eqb (b:Bool) (x y:Bool):zo PP .eql xm b (.bool x) (.bool y) w K=K (.bool (x==y)) w:=
 yA rfl (by simp[binOp,k80,Result.andThen])
theorem IndexFunc_Lint_int {v f:Value} {vs:List Value} {p:Nat→Bool} (hx:Vals F w v vs) (hf:∀i,i<vs.length→FnB PP w f #[vs.getD i undef] (p i))
  (hK:∀w',Ext w w'→K (.int .i64 (idxI vs.length p)) w'):vcall PP xJ #[v,f] w K:=by
 apply Zv
 unfold qS
 simp(disch:=first|(simp only[push_cast];done)|omega) only[push_cast,hx.len]
 have hlen:vs.length≤9223372036854775807:=by obtain⟨_,_,_,h1,h2,_⟩:=hx.shape;simp at h1;omega
 refine vloop_up vs.length (fun i u w'=>u=[.int .i64 i]∧Ext w w'∧∀j,j<i→p j=false) ⟨rfl,Same.refl _ _,by omega⟩ ?_
 rintro i _ g w1 C hi ⟨rfl,he,hp⟩ hC
 simp only[push_cast]
 refine zh (fun hlt=>?_) (fun hge=>?_)
 ·have hx1:=hx.ext he
  simp(disch:=first|(simp only[push_cast];done)|omega) only[push_cast,hx1.iaddr,hx1.load]
  refine hf i (by omega) w1 _ he fun w2 he2=>yx (fun hb=>?_) (fun hb=>?_)
  ·have:=hK w2 (he.trans he2)
   rwa[idxI_some (by omega) hb hp] at this
  ·simp(disch:=omega) only[push_cast,zA]
   exact hC (by omega) _ _ ⟨by simp,he.trans he2,fun j hj=>by
    by_cases h:j=i
    ·subst h;exact hb
    ·exact hp j (by omega)⟩
 ·have:=hK w1 he
  rwa[UD (fun j hj=>hp j (by omega))] at this
theorem Qz {v f:Value} {vs:List Value} {p:Nat→Bool} (hx:Vals F w v vs) (hf:∀i,i<vs.length→FnB PP w f #[vs.getD i undef] (p i))
  (hK:∀w',Ext w w'→K (.bool ((List.range vs.length).any p)) w'):vcall PP xx #[v,f] w K:=by
 apply kD
 unfold qc
 refine IndexFunc_Lint_int hx hf fun w' he=>?_
 simp only[push_cast,Kb]
 exact hK w' he
end Go.Proofs.YtaekfnbnhjgboaaGreatDoor
end
section
namespace Go.Proofs.YtaekfnbnhjgboaaGreatDoor
open Go Go.Vc Go.Proofs
variable {w:World} {K:Value→World→Prop} {F F' D G:Nat→Prop}
theorem Clone_Lint {v:Value} {xs:List Int} (hx:Ints F w v xs) (hsm:xs.length*8≤140737488355328) (hK:∀w' v',Ext w w'→OwnI PP zg w' v' xs→(∀x,v'.ownBlock=some x→w.heap.size≤x)→K v' w'):
  vcall PP qg #[v] w K:=by
 apply Xi;unfold jP
 obtain⟨a,c,rfl,hc,hcm,hcell⟩:=hx.shape
 simp only[List.length_map] at hx hc⊢
 rw[VQ Y10]
 refine yx (fun h=>?_) (fun h=>?_)
 ·have:xs=[]:=by
   refine Decidable.byContradiction fun hne=>?_
   obtain⟨b,o,e,_⟩:=hcell (by simpa using hne)
   subst e;cases h
  subst this
  exact hK w _ (Same.refl _ _) OwnI.nil fun x hx=>by cases hx
 ·refine qd Zj jT fun b w1 hb he hz hB=>?_
  have hsz:=he.size
  have h0:OwnI PP zg w1 (.slice (some ⟨b,0,none⟩) 0 0) []:=Blk.own1 (P:=PP) (t:=zg) (cs:=[]) (by rw[UO];exact hB) (Nat.zero_le _) rfl rfl (by omega)
  refine h0.app (ys:=xs) kB (hx.ext he) (by simp only[List.length_nil];omega) (by simpa using hsm) fun v' w2 hv hs hn=>?_
  refine hK w2 v' (Ext.then he hs fun x hx=>?_) hv fun x hx=>?_
  ·have e:b=x:=Option.some.inj hx;omega
  ·rcases hn x hx with e|e
   ·have e:b=x:=Option.some.inj e;omega
   ·omega
end Go.Proofs.YtaekfnbnhjgboaaGreatDoor
end
section
namespace Go.M
structure Gt where
 x:Bool
 a:Int
 b:Int
deriving DecidableEq
abbrev Gs:=List Gt
def absI (a:Int):Int:=if a<0 then-a else a
def turnI (c:Bool) (a:Int):Int:=if c then-a else a
def putG (n:Nat) (gs:Gs) (g:Gt):Gs×Int:=
 if g∈gs then(gs,2+n+gs.idxOf g) else if 600≤gs.length then(gs,0) else(gs++[g],2+n+gs.length)
def gateA (a b:Int):Gt:=if absI b<absI a then⟨false,b,a⟩ else⟨false,a,b⟩
def gateX (a b:Int):Gt:=if absI b<absI a then⟨true,absI b,absI a⟩ else⟨true,absI a,absI b⟩
def andG (n:Nat) (gs:Gs) (a b:Int):Gs×Int:=
 if a= -1∨b= -1 then(gs,-1) else if a=1 then(gs,b) else if b=1 then(gs,a) else if a=b then(gs,a) else if a= -b then(gs,-1) else putG n gs (gateA a b)
def xorG (n:Nat) (gs:Gs) (a b:Int):Gs×Int:=
 if absI a=1 then(gs,turnI (decide (a=1)) b) else if absI b=1 then(gs,turnI (decide (b=1)) a) else if a=b then(gs,-1) else if a= -b then(gs,1)
 else((putG n gs (gateX a b)).1,turnI (decide (a<0) != decide (b<0)) (putG n gs (gateX a b)).2)
inductive Bd (α:Type) where
 |ret (a:α)
 |and (x y:Int) (k:Int→Bd α)
 |xor (x y:Int) (k:Int→Bd α)
namespace Bd
def bind {α β:Type}:Bd α→(α→Bd β)→Bd β
 |ret a,f=>f a
 |and x y k,f=>and x y fun v=>bind (k v) f
 |xor x y k,f=>xor x y fun v=>bind (k v) f
def map {α β:Type} (f:α→β) (p:Bd α):Bd β:=p.bind fun a=>ret (f a)
def Reach {α:Type}:Bd α→α→Prop
 |ret a,b=>b=a
 |and _ _ k,b=> ∃v,Reach (k v) b
 |xor _ _ k,b=> ∃v,Reach (k v) b
def run {α:Type} (n:Nat):Bd α→Gs→Option (Gs×α)
 |ret a,gs=>some (gs,a)
 |and x y k,gs=>if(andG n gs x y).2=0 then none else run n (k (andG n gs x y).2) (andG n gs x y).1
 |xor x y k,gs=>if(xorG n gs x y).2=0 then none else run n (k (xorG n gs x y).2) (xorG n gs x y).1
def Out {α:Type} (n:Nat) (p:Bd α) (st st':Option Gs) (a:α):Prop:=
 match st with
 |some gs=>(∃gs',p.run n gs=some (gs',a)∧st'=some gs')∨(p.run n gs=none∧st'=none∧p.Reach a)
 |none=>st'=none∧p.Reach a
theorem bind_assoc {α β γ:Type} (p:Bd α) (f:α→Bd β) (g:β→Bd γ):(p.bind f).bind g=p.bind fun a=>(f a).bind g:=by
 induction p with
 |ret a=>rfl
 |and x y k ih=>simp only[bind];congr 1;funext v;exact ih v
 |xor x y k ih=>simp only[bind];congr 1;funext v;exact ih v
theorem run_bind {α β:Type} {n:Nat} (p:Bd α) (f:α→Bd β) (gs:Gs):(p.bind f).run n gs=(p.run n gs).bind fun r=>(f r.2).run n r.1:=by
 induction p generalizing gs with
 |ret a=>rfl
 |and x y k ih=>
  simp only[bind,run];split
  ·rfl
  ·exact ih _ _
 |xor x y k ih=>
  simp only[bind,run];split
  ·rfl
  ·exact ih _ _
theorem reach_bind {α β:Type} {p:Bd α} {f:α→Bd β} {a:α} {b:β} (h:p.Reach a) (h2:(f a).Reach b):(p.bind f).Reach b:=by
 induction p with
 |ret c=>cases h;exact h2
 |and x y k ih=>obtain⟨v,hv⟩:=h;exact⟨v,ih v hv⟩
 |xor x y k ih=>obtain⟨v,hv⟩:=h;exact⟨v,ih v hv⟩
theorem reach_of_run {α:Type} {n:Nat} {p:Bd α} {gs gs':Gs} {a:α} (h:p.run n gs=some (gs',a)):p.Reach a:=by
 induction p generalizing gs with
 |ret c=>simp only[run,Option.some.injEq,Prod.mk.injEq] at h;exact h.2.symm
 |and x y k ih=>
  simp only[run] at h;split at h
  ·cases h
  ·exact⟨_,ih _ h⟩
 |xor x y k ih=>
  simp only[run] at h;split at h
  ·cases h
  ·exact⟨_,ih _ h⟩
theorem Out.reach {α:Type} {n:Nat} {p:Bd α} {st st':Option Gs} {a:α} (h:Out n p st st' a):p.Reach a:=by
 cases st with
 |none=>exact h.2
 |some gs=>
  rcases h with⟨gs',h,_⟩|⟨_,_,h⟩
  ·exact reach_of_run h
  ·exact h
theorem Out.ret {α:Type} {n:Nat} (a:α) (st:Option Gs):Out n (.ret a) st st a:=by
 cases st with
 |none=>exact⟨rfl,rfl⟩
 |some gs=>exact .inl ⟨gs,rfl,rfl⟩
theorem Out.bind {α β:Type} {n:Nat} {p:Bd α} {f:α→Bd β} {st st' st'':Option Gs} {a:α} {b:β} (h:Out n p st st' a) (h2:Out n (f a) st' st'' b):Out n (p.bind f) st st'' b:=by
 cases st with
 |none=>
  obtain⟨rfl,hr⟩:=h
  exact⟨h2.1,reach_bind hr h2.2⟩
 |some gs=>
  rcases h with⟨gs',hr,rfl⟩|⟨hr,rfl,hq⟩
  ·rcases h2 with⟨gs'',h2,rfl⟩|⟨h2,rfl,hq⟩
   ·exact .inl ⟨gs'',by rw[run_bind,hr];exact h2,rfl⟩
   ·exact .inr ⟨by rw[run_bind,hr];exact h2,rfl,reach_bind (reach_of_run hr) hq⟩
  ·exact .inr ⟨by rw[run_bind,hr];rfl,h2.1,reach_bind hq h2.2⟩
theorem Out.map {α β:Type} {n:Nat} {p:Bd α} (f:α→β) {st st':Option Gs} {a:α} (h:Out n p st st' a):Out n (p.map f) st st' (f a):=h.bind (Out.ret _ _)
end Bd
theorem xH0 {gs F:Gs} {g:Gt} (h:gs<+:F) (hm:g∈gs):F.idxOf g=gs.idxOf g:=by
 obtain⟨t,rfl⟩:=h
 rw[List.idxOf_append,if_pos hm]
theorem ka0 {n:Nat} (gs:Gs) (g:Gt):gs<+:(putG n gs g).1:=by
 unfold putG
 split
 ·exact List.prefix_refl _
 ·split
  ·exact List.prefix_refl _
  ·exact List.prefix_append _ _
theorem xz0 {n:Nat} {gs F:Gs} {g:Gt} (h0:(putG n gs g).2≠0) (h:(putG n gs g).1<+:F):putG n F g=(F,(putG n gs g).2):=by
 unfold putG at h0 h⊢
 by_cases hm:g∈gs
 ·rw[if_pos hm] at h⊢
  rw[if_pos (h.subset hm),xH0 h hm]
 ·rw[if_neg hm] at h0 h⊢
  by_cases hl:600≤gs.length
  ·rw[if_pos hl] at h0;exact absurd rfl h0
  ·rw[if_neg hl] at h⊢
   have hin:g∈gs++[g]:=by simp
   rw[if_pos (h.subset hin),xH0 h hin,List.idxOf_append,if_neg hm]
   simp
theorem kH0 {n:Nat} (gs:Gs) (a b:Int):gs<+:(andG n gs a b).1:=by
 unfold andG
 repeat' split
 all_goals first|exact List.prefix_refl _|exact ka0 _ _
theorem jL0 {n:Nat} (gs:Gs) (a b:Int):gs<+:(xorG n gs a b).1:=by
 unfold xorG
 repeat' split
 all_goals first|exact List.prefix_refl _|exact ka0 _ _
theorem kI0 {n:Nat} {gs F:Gs} {a b:Int} (h0:(andG n gs a b).2≠0) (h:(andG n gs a b).1<+:F):andG n F a b=(F,(andG n gs a b).2):=by
 unfold andG at h0 h⊢
 repeat' split at h0
 all_goals simp_all
 exact xz0 h0 h
theorem turn_zero {c:Bool} {m:Int}:turnI c m=0↔m=0:=by cases c<;>simp[turnI]
theorem jM0 {n:Nat} {gs F:Gs} {a b:Int} (h0:(xorG n gs a b).2≠0) (h:(xorG n gs a b).1<+:F):xorG n F a b=(F,(xorG n gs a b).2):=by
 unfold xorG at h0 h⊢
 repeat' split at h0
 all_goals simp_all
 have:=xz0 (n:=n) (g:=gateX a b) (fun e=>h0 (turn_zero.2 e)) h
 rw[this]
 exact⟨rfl,rfl⟩
namespace Bd
theorem run_pre {α:Type} {n:Nat} {p:Bd α} {gs gs':Gs} {a:α} (h:p.run n gs=some (gs',a)):gs<+:gs':=by
 induction p generalizing gs with
 |ret c=>simp only[run,Option.some.injEq,Prod.mk.injEq] at h;rw[h.1];exact List.prefix_refl _
 |and x y k ih=>
  simp only[run] at h;split at h
  ·cases h
  ·exact(kH0 gs x y).trans (ih _ h)
 |xor x y k ih=>
  simp only[run] at h;split at h
  ·cases h
  ·exact(jL0 gs x y).trans (ih _ h)
theorem run_again {α:Type} {n:Nat} {p:Bd α} {gs gs' F:Gs} {a:α} (h:p.run n gs=some (gs',a)) (hF:gs'<+:F):p.run n F=some (F,a):=by
 induction p generalizing gs with
 |ret c=>simp only[run,Option.some.injEq,Prod.mk.injEq] at h⊢;exact⟨trivial,h.2⟩
 |and x y k ih=>
  simp only[run] at h⊢
  split at h
  ·cases h
  ·next h0=>
   have hp:=(run_pre h).trans hF
   rw[kI0 h0 hp]
   simp only
   rw[if_neg h0]
   exact ih _ h
 |xor x y k ih=>
  simp only[run] at h⊢
  split at h
  ·cases h
  ·next h0=>
   have hp:=(run_pre h).trans hF
   rw[jM0 h0 hp]
   simp only
   rw[if_neg h0]
   exact ih _ h
end Bd
def litV (vals:List Bool) (m:Int):Bool:=if 0<m then vals.getD (m-1).toNat false else !vals.getD (-m-1).toNat false
def has (k:Nat) (m:Int):Prop:=m≠0∧ -(k:Int)≤m∧m≤k
def gateV (vals:List Bool) (g:Gt):Bool:=if g.x then litV vals g.a != litV vals g.b else litV vals g.a&&litV vals g.b
def valsG:List Bool→Gs→List Bool
 |vals,[]=>vals
 |vals,g::gs=>valsG (vals++[gateV vals g]) gs
def yf0 (n k:Nat) (g:Gt):Prop:=2≤absI g.a∧absI g.a<absI g.b∧absI g.b≤1+n+k∧(g.x=true→0<g.a∧0<g.b)
structure NetG (n:Nat) (gs:Gs):Prop where
 few:gs.length≤600
 gate:∀k,(h:k<gs.length)→yf0 n k gs[k]
 once:gs.Nodup
theorem lit_neg (vals:List Bool) {m:Int} (h:m≠0):litV vals (-m)= !litV vals m:=by
 unfold litV
 by_cases h1:0<m
 ·rw[if_neg (by omega),if_pos h1,Int.neg_neg]
 ·rw[if_pos (by omega),if_neg h1,Bool.not_not]
theorem lit_pre {vals more:List Bool} {m:Int} (h:has vals.length m):litV (vals++more) m=litV vals m:=by
 unfold litV
 obtain⟨h0,h1,h2⟩:=h
 split
 ·rw[List.getD_eq_getElem?_getD,List.getElem?_append_left (by omega),←List.getD_eq_getElem?_getD]
 ·rw[List.getD_eq_getElem?_getD,List.getElem?_append_left (by omega),←List.getD_eq_getElem?_getD]
theorem valsG_len:∀(gs:Gs) (vals:List Bool),(valsG vals gs).length=vals.length+gs.length
 |[],vals=>rfl
 |g::gs,vals=>by simp only[valsG,valsG_len gs,List.length_append,List.length_cons,List.length_nil];omega
theorem valsG_pre:∀(gs:Gs) (vals:List Bool),vals<+:valsG vals gs
 |[],vals=>List.prefix_refl _
 |g::gs,vals=>(List.prefix_append _ _).trans (valsG_pre gs _)
theorem valsG_app:∀(gs hs:Gs) (vals:List Bool),valsG vals (gs++hs)=valsG (valsG vals gs) hs
 |[],hs,vals=>rfl
 |g::gs,hs,vals=>valsG_app gs hs _
theorem abs_pos {a:Int} (h:a≠0):0<absI a:=by unfold absI;split<;>omega
theorem has_abs {k:Nat} {m:Int}:has k m↔1≤absI m∧absI m≤k:=by
 unfold has absI
 split<;>omega
theorem has_neg {k:Nat} {m:Int} (h:has k m):has k (-m):=⟨by have:=h.1;omega,by have:=h.2.2;omega,by have:=h.2.1;omega⟩
theorem has_mono {k l:Nat} {m:Int} (h:has k m) (hl:k≤l):has l m:=⟨h.1,by have:=h.2.1;omega,by have:=h.2.2;omega⟩
theorem yp0 {k:Nat} {m:Int} {c:Bool} (h:has k m):has k (turnI c m):=by cases c;exact h;exact has_neg h
theorem qW0 (vals:List Bool) {m:Int} (h:m≠0) (c:Bool):litV vals (turnI c m)=(c != litV vals m):=by
 cases c
 ·show litV vals m=_;simp
 ·show litV vals (-m)=_;rw[lit_neg vals h];simp
theorem valsG_at {n:Nat} {F:Gs} {ins:List Bool} (hn:ins.length=n) {k:Nat} (hk:k<F.length) (hF:yf0 n k F[k]):(valsG (true::ins) F).getD (1+n+k) false=gateV (valsG (true::ins) F) F[k]:=by
 have e:F=F.take k++F[k]::F.drop (k+1):=by rw[←List.drop_eq_getElem_cons hk,List.take_append_drop]
 have hok:=hF
 clear hF
 generalize hg:F[k]=g at e hok⊢
 have hl:(valsG (true::ins) (F.take k)).length=1+n+k:=by rw[valsG_len,List.length_cons,List.length_take,hn];omega
 rw[e,valsG_app]
 show(valsG (valsG (true::ins) (F.take k)++[gateV (valsG (true::ins) (F.take k)) g]) (F.drop (k+1))).getD (1+n+k) false=gateV (valsG (valsG (true::ins) (F.take k)++[gateV (valsG (true::ins) (F.take k)) g]) (F.drop (k+1))) g
 generalize valsG (true::ins) (F.take k)=vs at hl⊢
 obtain⟨t,ht⟩:=valsG_pre (F.drop (k+1)) (vs++[gateV vs g])
 rw[←ht,List.append_assoc]
 obtain⟨h1,h2,h3,h4⟩:=hok
 have ha:has vs.length g.a:=has_abs.2 ⟨by omega,by omega⟩
 have hb:has vs.length g.b:=has_abs.2 ⟨by omega,by omega⟩
 have e1:gateV (vs++([gateV vs g]++t)) g=gateV vs g:=by
  unfold gateV
  rw[lit_pre ha,lit_pre hb]
 rw[e1,List.getD_eq_getElem?_getD,List.getElem?_append_right (by omega),hl,Nat.sub_self]
 rfl
theorem put_step {n:Nat} {gs:Gs} {g:Gt} (hg:NetG n gs) (hok:yf0 n gs.length g) (h0:(putG n gs g).2≠0):
  NetG n (putG n gs g).1∧has (1+n+(putG n gs g).1.length) (putG n gs g).2∧∀{F:Gs} {ins:List Bool},ins.length=n→(putG n gs g).1<+:F→litV (valsG (true::ins) F) (putG n gs g).2=gateV (valsG (true::ins) F) g:=by
 have key:∀{F:Gs} {ins:List Bool} {k:Nat},ins.length=n→(hk:k<F.length)→F[k]=g→yf0 n k g→litV (valsG (true::ins) F) (2+n+k)=gateV (valsG (true::ins) F) g:=fun{F ins k} hn hk he hok=>by
  have:=valsG_at hn hk (he▸hok)
  rw[he] at this
  rw[←this]
  unfold litV
  rw[if_pos (by omega),show((2+n+k:Int)-1).toNat=1+n+k by omega]
 unfold putG at h0⊢
 by_cases hm:g∈gs
 ·rw[if_pos hm] at h0⊢
  have hi:gs.idxOf g<gs.length:=List.idxOf_lt_length_iff.2 hm
  refine⟨hg,⟨by show(2+n+_:Int)≠0;omega,by show _≤(2+n+_:Int);omega,by show(2+n+_:Int)≤((1+n+gs.length:Nat):Int);omega⟩,fun{F ins} hn hF=>?_⟩
  have hk:gs.idxOf g<F.length:=Nat.lt_of_lt_of_le hi hF.length_le
  have he:F[gs.idxOf g]=g:=by
   obtain⟨t,rfl⟩:=hF
   rw[List.getElem_append_left hi]
   exact List.getElem_idxOf hi
  refine key hn hk he ?_
  have:=hg.gate _ hi
  rwa[List.getElem_idxOf hi] at this
 ·rw[if_neg hm] at h0⊢
  by_cases hl:600≤gs.length
  ·rw[if_pos hl] at h0;exact absurd rfl h0
  ·rw[if_neg hl] at h0⊢
   refine⟨⟨by rw[List.length_append];simp;omega,fun k hk=>?_,?_⟩,?_,fun{F ins} hn hF=>?_⟩
   ·rw[List.length_append,List.length_singleton] at hk
    by_cases e:k<gs.length
    ·rw[List.getElem_append_left e];exact hg.gate k e
    ·have:k=gs.length:=by omega
     subst this
     rw[List.getElem_append_right (Nat.le_refl _)]
     simpa using hok
   ·rw[List.nodup_append]
    exact⟨hg.once,by simp,fun a ha b hb e=>hm (by simp at hb;rw[←hb,←e];exact ha)⟩
   ·rw[List.length_append,List.length_singleton];exact⟨by omega,by omega,by omega⟩
   ·obtain⟨t,rfl⟩:=hF
    have hk:gs.length<(gs++[g]++t).length:=by rw[List.length_append,List.length_append,List.length_singleton];omega
    refine key hn hk ?_ hok
    rw[List.getElem_append_left (by rw[List.length_append,List.length_singleton];omega),List.getElem_append_right (Nat.le_refl _)]
    simp
theorem kD0 (a b:Bool):(a != b)=(b != a):=by cases a<;>cases b<;>rfl
theorem Uz (ins:List Bool) (F:Gs):litV (valsG (true::ins) F) 1=true:=by
 obtain⟨t,ht⟩:=valsG_pre F (true::ins)
 rw[←ht];rfl
theorem QI (ins:List Bool) (F:Gs):litV (valsG (true::ins) F) (-1)=false:=by
 rw[lit_neg _ (by decide),Uz];rfl
theorem abs_eq {a b:Int} (h:absI a=absI b):a=b∨a= -b:=by unfold absI at h;split at h<;>split at h<;>omega
theorem kj0 (vals:List Bool) {a:Int} (h:a≠0):litV vals a=(decide (a<0) != litV vals (absI a)):=by
 unfold absI
 by_cases h1:a<0
 ·rw[if_pos h1,lit_neg _ h,decide_eq_true h1];simp
 ·rw[if_neg h1,decide_eq_false h1];simp
theorem and_step {n:Nat} {gs:Gs} {a b:Int} (hg:NetG n gs) (ha:has (1+n+gs.length) a) (hb:has (1+n+gs.length) b) (h0:(andG n gs a b).2≠0):
  NetG n (andG n gs a b).1∧has (1+n+(andG n gs a b).1.length) (andG n gs a b).2∧
  ∀{F:Gs} {ins:List Bool},ins.length=n→(andG n gs a b).1<+:F→litV (valsG (true::ins) F) (andG n gs a b).2=(litV (valsG (true::ins) F) a&&litV (valsG (true::ins) F) b):=by
 have h1:has (1+n+gs.length) (-1):=⟨by decide,by omega,by omega⟩
 unfold andG at h0⊢
 by_cases c1:a= -1∨b= -1
 ·rw[if_pos c1]
  refine⟨hg,h1,fun{F ins} _ _=>?_⟩
  rw[QI]
  rcases c1 with rfl|rfl
  ·rw[QI];rfl
  ·rw[QI,Bool.and_false]
 rw[if_neg c1] at h0⊢
 by_cases c2:a=1
 ·rw[if_pos c2]
  subst c2
  exact⟨hg,hb,fun{F ins} _ _=>by rw[Uz,Bool.true_and]⟩
 rw[if_neg c2] at h0⊢
 by_cases c3:b=1
 ·rw[if_pos c3]
  subst c3
  exact⟨hg,ha,fun{F ins} _ _=>by rw[Uz,Bool.and_true]⟩
 rw[if_neg c3] at h0⊢
 by_cases c4:a=b
 ·rw[if_pos c4]
  subst c4
  exact⟨hg,ha,fun{F ins} _ _=>by rw[Bool.and_self]⟩
 rw[if_neg c4] at h0⊢
 by_cases c5:a= -b
 ·rw[if_pos c5]
  refine⟨hg,h1,fun{F ins} _ _=>?_⟩
  rw[c5,lit_neg _ hb.1,QI,Bool.not_and_self]
 rw[if_neg c5] at h0⊢
 have a2:2≤absI a:=by have:=abs_pos ha.1;unfold absI at*;split at this<;>omega
 have b2:2≤absI b:=by have:=abs_pos hb.1;unfold absI at*;split at this<;>omega
 have hne:absI a≠absI b:=fun e=>by rcases abs_eq e with h|h;exact c4 h;exact c5 h
 have hal:=(has_abs.1 ha).2
 have hbl:=(has_abs.1 hb).2
 have hok:yf0 n gs.length (gateA a b):=by
  unfold gateA
  split
  ·exact⟨b2,by omega,by show absI a≤_;omega,fun h=>by cases h⟩
  ·exact⟨a2,by show absI a<absI b;omega,by show absI b≤_;omega,fun h=>by cases h⟩
 obtain⟨p1,p2,p3⟩:=put_step hg hok h0
 refine⟨p1,p2,fun{F ins} hn hF=>?_⟩
 rw[p3 hn hF]
 unfold gateA gateV
 split
 ·exact Bool.and_comm _ _
 ·rfl
theorem xor_step {n:Nat} {gs:Gs} {a b:Int} (hg:NetG n gs) (ha:has (1+n+gs.length) a) (hb:has (1+n+gs.length) b) (h0:(xorG n gs a b).2≠0):
  NetG n (xorG n gs a b).1∧has (1+n+(xorG n gs a b).1.length) (xorG n gs a b).2∧
  ∀{F:Gs} {ins:List Bool},ins.length=n→(xorG n gs a b).1<+:F→litV (valsG (true::ins) F) (xorG n gs a b).2=(litV (valsG (true::ins) F) a != litV (valsG (true::ins) F) b):=by
 have one:∀{x y:Int} {F:Gs} {ins:List Bool},absI x=1→y≠0→litV (valsG (true::ins) F) (turnI (decide (x=1)) y)=(litV (valsG (true::ins) F) x != litV (valsG (true::ins) F) y):=fun{x y F ins} hx hy=>by
  rw[qW0 _ hy]
  rcases abs_eq (b:=1) hx with rfl|rfl
  ·rw[Uz];rfl
  ·rw[QI];rfl
 unfold xorG at h0⊢
 by_cases c1:absI a=1
 ·rw[if_pos c1]
  exact⟨hg,yp0 hb,fun{F ins} _ _=>one c1 hb.1⟩
 rw[if_neg c1] at h0⊢
 by_cases c2:absI b=1
 ·rw[if_pos c2]
  exact⟨hg,yp0 ha,fun{F ins} _ _=>by show litV _ (turnI (decide (b=1)) a)=_;rw[one c2 ha.1];exact kD0 _ _⟩
 rw[if_neg c2] at h0⊢
 by_cases c3:a=b
 ·rw[if_pos c3]
  subst c3
  exact⟨hg,⟨by show(-1:Int)≠0;decide,by show(-(_:Int))≤ -1;omega,by show(-1:Int)≤_;omega⟩,fun{F ins} _ _=>by show litV _ (-1)=_;rw[QI];simp⟩
 rw[if_neg c3] at h0⊢
 by_cases c4:a= -b
 ·rw[if_pos c4]
  exact⟨hg,⟨by show(1:Int)≠0;decide,by show(-(_:Int))≤1;omega,by show(1:Int)≤_;omega⟩,fun{F ins} _ _=>by show litV _ 1=_;rw[c4,lit_neg _ hb.1,Uz];simp⟩
 rw[if_neg c4] at h0⊢
 have a2:2≤absI a:=by have:=abs_pos ha.1;omega
 have b2:2≤absI b:=by have:=abs_pos hb.1;omega
 have hne:absI a≠absI b:=fun e=>by rcases abs_eq e with h|h;exact c3 h;exact c4 h
 have hal:=(has_abs.1 ha).2
 have hbl:=(has_abs.1 hb).2
 have aa:∀x:Int,2≤absI x→absI (absI x)=absI x:=fun x h=>by
  generalize absI x=y at h
  unfold absI;rw[if_neg (by omega)]
 have hok:yf0 n gs.length (gateX a b):=by
  unfold gateX
  split
  ·exact⟨by show 2≤absI (absI b);rw[aa b b2];exact b2,by show absI (absI b)<absI (absI a);rw[aa a a2,aa b b2];omega,by show absI (absI a)≤_;rw[aa a a2];omega,fun _=>⟨by show 0<absI b;omega,by show 0<absI a;omega⟩⟩
  ·exact⟨by show 2≤absI (absI a);rw[aa a a2];exact a2,by show absI (absI a)<absI (absI b);rw[aa a a2,aa b b2];omega,by show absI (absI b)≤_;rw[aa b b2];omega,fun _=>⟨by show 0<absI a;omega,by show 0<absI b;omega⟩⟩
 have h0':(putG n gs (gateX a b)).2≠0:=fun e=>h0 (turn_zero.2 e)
 obtain⟨p1,p2,p3⟩:=put_step hg hok h0'
 refine⟨p1,yp0 p2,fun{F ins} hn hF=>?_⟩
 show litV _ (turnI _ (putG n gs (gateX a b)).2)=_
 rw[qW0 _ h0',p3 hn hF,kj0 _ ha.1,kj0 _ hb.1]
 have e:gateV (valsG (true::ins) F) (gateX a b)=(litV (valsG (true::ins) F) (absI a) != litV (valsG (true::ins) F) (absI b)):=by
  unfold gateX gateV
  split
  ·exact kD0 _ _
  ·rfl
 rw[e]
 generalize litV (valsG (true::ins) F) (absI a)=p
 generalize litV (valsG (true::ins) F) (absI b)=q
 generalize decide (a<0)=r
 generalize decide (b<0)=s
 cases p<;>cases q<;>cases r<;>cases s<;>rfl
def Says {α:Type} (ρ:Int→Bool):Nat→Bd α→(Nat→α→Prop)→Prop
 |k,.ret a,Q=>Q k a
 |k,.and x y c,Q=>has k x∧has k y∧∀k' v,k≤k'→has k' v→ρ v=(ρ x&&ρ y)→Says ρ k' (c v) Q
 |k,.xor x y c,Q=>has k x∧has k y∧∀k' v,k≤k'→has k' v→ρ v=(ρ x != ρ y)→Says ρ k' (c v) Q
theorem Says.bind {α β:Type} {ρ:Int→Bool} {p:Bd α} {f:α→Bd β} {Q:Nat→β→Prop}:∀{k:Nat},Says ρ k p (fun k' a=>Says ρ k' (f a) Q)→Says ρ k (p.bind f) Q:=by
 induction p with
 |ret a=>intro k h;exact h
 |and x y c ih=>intro k ⟨h1,h2,h⟩;exact⟨h1,h2,fun k' v hk hv hr=>ih v (h k' v hk hv hr)⟩
 |xor x y c ih=>intro k ⟨h1,h2,h⟩;exact⟨h1,h2,fun k' v hk hv hr=>ih v (h k' v hk hv hr)⟩
theorem Says.mono {α:Type} {ρ:Int→Bool} {p:Bd α} {Q Q':Nat→α→Prop}:∀{k:Nat},Says ρ k p Q→(∀k' a,k≤k'→Q k' a→Q' k' a)→Says ρ k p Q':=by
 induction p with
 |ret a=>intro k h hq;exact hq _ _ (Nat.le_refl _) h
 |and x y c ih=>intro k ⟨h1,h2,h⟩ hq;exact⟨h1,h2,fun k' v hk hv hr=>ih v (h k' v hk hv hr) fun k'' a hk'=>hq k'' a (Nat.le_trans hk hk')⟩
 |xor x y c ih=>intro k ⟨h1,h2,h⟩ hq;exact⟨h1,h2,fun k' v hk hv hr=>ih v (h k' v hk hv hr) fun k'' a hk'=>hq k'' a (Nat.le_trans hk hk')⟩
theorem Says.sound {α:Type} {n:Nat} {ins:List Bool} (hn:ins.length=n) {F:Gs} {p:Bd α} {Q:Nat→α→Prop}:∀{gs gs':Gs} {a:α},NetG n gs→p.run n gs=some (gs',a)→gs'<+:F→Says (litV (valsG (true::ins) F)) (1+n+gs.length) p Q→NetG n gs'∧Q (1+n+gs'.length) a:=by
 induction p with
 |ret c=>
  intro gs gs' a hg h hF hs
  simp only[Bd.run,Option.some.injEq,Prod.mk.injEq] at h
  obtain⟨rfl,rfl⟩:=h
  exact⟨hg,hs⟩
 |and x y c ih=>
  intro gs gs' a hg h hF ⟨h1,h2,hs⟩
  simp only[Bd.run] at h
  split at h
  ·cases h
  ·next h0=>
   obtain⟨p1,p2,p3⟩:=and_step hg h1 h2 h0
   have hp:=Bd.run_pre h
   refine ih _ p1 h hF (hs _ _ ?_ p2 (p3 hn (hp.trans hF)))
   have:=(kH0 (n:=n) gs x y).length_le;omega
 |xor x y c ih=>
  intro gs gs' a hg h hF ⟨h1,h2,hs⟩
  simp only[Bd.run] at h
  split at h
  ·cases h
  ·next h0=>
   obtain⟨p1,p2,p3⟩:=xor_step hg h1 h2 h0
   have hp:=Bd.run_pre h
   refine ih _ p1 h hF (hs _ _ ?_ p2 (p3 hn (hp.trans hF)))
   have:=(jL0 (n:=n) gs x y).length_le;omega
end Go.M
end
section
namespace Go.M
def orB (x y:Int):Bd Int:= .and (-x) (-y) fun v=> .ret (-v)
def muxB (c x y:Int):Bd Int:= .and c x fun p=> .and (-c) y fun q=>orB p q
def sumB:List Int→List Int→Int→Bd (List Int)
 |x::xs,y::ys,c=> .xor x y fun h=> .xor h c fun s=> .and x y fun p=> .and h c fun q=>(orB p q).bind fun c'=>(sumB xs ys c').map (s:: ·)
 |_,_,_=> .ret []
def lessB:List Int→List Int→Int→Bd Int
 |x::xs,y::ys,r=> .xor x y fun d=>(muxB d y r).bind fun r'=>lessB xs ys r'
 |_,_,r=> .ret r
def sameB:List Int→List Int→Int→Bd Int
 |x::xs,y::ys,r=> .xor x y fun d=> .and r (-d) fun r'=>sameB xs ys r'
 |_,_,r=> .ret r
def eachB (f:Int→Int→Bd Int):List Int→List Int→Bd (List Int)
 |x::xs,y::ys=>(f x y).bind fun s=>(eachB f xs ys).map (s:: ·)
 |_,_=> .ret []
def rowB (s:Int):List Int→Bd (List Int)
 |x::xs=> .and x s fun v=>(rowB s xs).map (v:: ·)
 |[]=> .ret []
def offsL (n:Nat):List Int:=List.replicate n (-1)
def mulB (xs:List Int):List Int→Nat→List Int→Bd (List Int)
 |y::ys,i,s=>(rowB y (xs.take (xs.length-i))).bind fun r=>(sumB s (offsL i++r) (-1)).bind fun s'=>mulB xs ys (i+1) s'
 |[],_,s=> .ret s
def negL (xs:List Int):List Int:=xs.map fun x=> -x
def divB (xs wide:List Int):Nat→List Int→List Int→Bd (List Int×List Int)
 |n+1,r,q=>(lessB (xs.getD n 0::r) wide (-1)).bind fun l=>(sumB (xs.getD n 0::r) (negL wide) 1).bind fun u=>
   (eachB (muxB l) ((xs.getD n 0::r).take xs.length) (u.take xs.length)).bind fun r'=>divB xs wide n r' (q.set n (-l))
 |0,r,q=> .ret (q,r)
def fromL (up:Bool) (fill:Int) (s:List Int) (by_ k:Nat):Int:=if up then(if k<by_ then fill else s.getD (k-by_) 0) else if k+by_<s.length then s.getD (k+by_) 0 else fill
def shiftB (up:Bool) (fill:Int):List Int→Nat→List Int→Bd (List Int)
 |c::ys,i,s=>(eachB (muxB c) ((List.range s.length).map (fromL up fill s (2^i))) s).bind fun s'=>shiftB up fill ys (i+1) s'
 |[],_,s=> .ret s
def unB (op:Int) (x:List Int):Bd (List Int):=if op=1 then .ret (negL x) else sumB (offsL x.length) (negL x) 1
def binB (op:Int) (x y:List Int):Bd (List Int):=
 if op=14 then .ret (y++x)
 else if op=3 then eachB (fun a b=> .and a b .ret) x y
 else if op=4 then eachB orB x y
 else if op=5 then eachB (fun a b=> .xor a b .ret) x y
 else if op=6 then sumB x y (-1)
 else if op=7 then sumB x (negL y) 1
 else if op=8 then mulB x y 0 (offsL x.length)
 else if op=9 then(divB x (y++[-1]) x.length (offsL x.length) (offsL x.length)).map (·.1)
 else if op=10 then(divB x (y++[-1]) x.length (offsL x.length) (offsL x.length)).map (·.2)
 else if op=11 then shiftB true (-1) y 0 x
 else if op=12 then shiftB false (-1) y 0 x
 else shiftB false (x.getD (x.length-1) 0) y 0 x
def swapT (x y:List Int):List Int:=x.set (x.length-1) (y.getD (x.length-1) 0)
def cmpB (op:Int) (x y:List Int):Bd Int:=
 if op=15 then sameB x y 1 else if op=16 then lessB x y (-1) else lessB (swapT x y) (swapT y x) (-1)
def sumV:List Bool→List Bool→Bool→List Bool
 |x::xs,y::ys,c=>((x != y) != c)::sumV xs ys ((x&&y)||((x != y)&&c))
 |_,_,_=>[]
def lessV:List Bool→List Bool→Bool→Bool
 |x::xs,y::ys,r=>lessV xs ys (if x != y then y else r)
 |_,_,r=>r
def sameV:List Bool→List Bool→Bool→Bool
 |x::xs,y::ys,r=>sameV xs ys (r&& !(x != y))
 |_,_,r=>r
def eachV (f:Bool→Bool→Bool):List Bool→List Bool→List Bool
 |x::xs,y::ys=>f x y::eachV f xs ys
 |_,_=>[]
def yx0 (n:Nat):List Bool:=List.replicate n false
def mulV (xs:List Bool):List Bool→Nat→List Bool→List Bool
 |y::ys,i,s=>mulV xs ys (i+1) (sumV s (yx0 i++(xs.take (xs.length-i)).map fun x=>x&&y) false)
 |[],_,s=>s
def divV (xs wide:List Bool):Nat→List Bool→List Bool→List Bool×List Bool
 |n+1,r,q=>
  let t:=xs.getD n false::r
  let l:=lessV t wide false
  divV xs wide n (eachV (fun a b=>if l then a else b) (t.take xs.length) ((sumV t (wide.map (!·)) true).take xs.length)) (q.set n (!l))
 |0,r,q=>(q,r)
def YF0 (up:Bool) (fill:Bool) (s:List Bool) (by_ k:Nat):Bool:=if up then(if k<by_ then fill else s.getD (k-by_) false) else if k+by_<s.length then s.getD (k+by_) false else fill
def shiftV (up:Bool) (fill:Bool):List Bool→Nat→List Bool→List Bool
 |c::ys,i,s=>shiftV up fill ys (i+1) (eachV (fun a b=>if c then a else b) ((List.range s.length).map (YF0 up fill s (2^i))) s)
 |[],_,s=>s
def unV (op:Int) (x:List Bool):List Bool:=if op=1 then x.map (!·) else sumV (yx0 x.length) (x.map (!·)) true
def Xt0 (op:Int) (x y:List Bool):List Bool:=
 if op=14 then y++x
 else if op=3 then eachV (· && ·) x y
 else if op=4 then eachV (· || ·) x y
 else if op=5 then eachV (· != ·) x y
 else if op=6 then sumV x y false
 else if op=7 then sumV x (y.map (!·)) true
 else if op=8 then mulV x y 0 (yx0 x.length)
 else if op=9 then(divV x (y++[false]) x.length (yx0 x.length) (yx0 x.length)).1
 else if op=10 then(divV x (y++[false]) x.length (yx0 x.length) (yx0 x.length)).2
 else if op=11 then shiftV true false y 0 x
 else if op=12 then shiftV false false y 0 x
 else shiftV false (x.getD (x.length-1) false) y 0 x
def Zj0 (x y:List Bool):List Bool:=x.set (x.length-1) (y.getD (x.length-1) false)
def cmpV (op:Int) (x y:List Bool):Bool:=
 if op=15 then sameV x y true else if op=16 then lessV x y false else lessV (Zj0 x y) (Zj0 y x) false
structure Rho (ρ:Int→Bool):Prop where
 neg:∀m,m≠0→ρ (-m)= !ρ m
 one:ρ 1=true
def hasL (k:Nat) (xs:List Int):Prop:=∀x,x∈xs→has k x
theorem hasL.mono {k l:Nat} {xs:List Int} (h:hasL k xs) (hl:k≤l):hasL l xs:=fun x hx=>has_mono (h x hx) hl
theorem hasL_cons {k:Nat} {x:Int} {xs:List Int}:hasL k (x::xs)↔has k x∧hasL k xs:=by
 unfold hasL;simp only[List.mem_cons,forall_eq_or_imp]
theorem Ua {k:Nat} {xs ys:List Int} (h:hasL k xs) (h2:hasL k ys):hasL k (xs++ys):=fun x hx=>(List.mem_append.1 hx).elim (h x) (h2 x)
theorem U9 {k:Nat} {xs:List Int} (h:hasL k xs):hasL k (negL xs):=fun x hx=>by
 obtain⟨y,hy,rfl⟩:=List.mem_map.1 hx;exact has_neg (h y hy)
theorem KK {k n:Nat} {xs:List Int} (h:hasL k xs):hasL k (xs.take n):=fun x hx=>h x (List.mem_of_mem_take hx)
theorem has_one {k:Nat} (h:1≤k):has k 1:=⟨by decide,by omega,by omega⟩
theorem has_mone {k:Nat} (h:1≤k):has k (-1):=⟨by decide,by omega,by omega⟩
theorem Zt {k n:Nat} (h:1≤k):hasL k (offsL n):=fun x hx=>by rw[List.eq_of_mem_replicate hx];exact has_mone h
theorem qZ0 {k n:Nat} {xs:List Int} {y:Int} (h:hasL k xs) (hy:has k y):hasL k (xs.set n y):=fun x hx=>by
 rcases List.mem_or_eq_of_mem_set hx with h1|h1
 ·exact h x h1
 ·rw[h1];exact hy
theorem QJ {k n:Nat} {xs:List Int} (h:hasL k xs) (hn:n<xs.length) (d:Int):has k (xs.getD n d):=by
 rw[List.getD_eq_getElem?_getD,List.getElem?_eq_getElem hn];exact h _ (List.getElem_mem hn)
section
variable {ρ:Int→Bool} {k:Nat} {Q:Nat→Int→Prop} {QL:Nat→List Int→Prop}
theorem Rho.mone (h:Rho ρ):ρ (-1)=false:=by rw[h.neg 1 (by decide),h.one];rfl
theorem yz0 (h:Rho ρ) {xs:List Int} (hx:hasL k xs):(negL xs).map ρ=(xs.map ρ).map (!·):=by
 unfold negL
 rw[List.map_map,List.map_map]
 exact List.map_congr_left fun x hm=>h.neg x (hx x hm).1
theorem KH (h:Rho ρ) (n:Nat):(offsL n).map ρ=yx0 n:=by unfold offsL yx0;rw[List.map_replicate,h.mone]
theorem qU0 (h:Rho ρ) {x y:Int} (hx:has k x) (hy:has k y) (hQ:∀k' v,k≤k'→has k' v→ρ v=(ρ x||ρ y)→Q k' v):Says ρ k (orB x y) Q:=by
 refine⟨has_neg hx,has_neg hy,fun k' v hk hv hr=>hQ k' _ hk (has_neg hv) ?_⟩
 rw[h.neg _ hv.1,hr,h.neg _ hx.1,h.neg _ hy.1]
 cases ρ x<;>cases ρ y<;>rfl
theorem mux_sat (h:Rho ρ) {c x y:Int} (hc:has k c) (hx:has k x) (hy:has k y) (hQ:∀k' v,k≤k'→has k' v→ρ v=(if ρ c then ρ x else ρ y)→Q k' v):Says ρ k (muxB c x y) Q:=by
 refine⟨hc,hx,fun k1 p h1 hp rp=>⟨has_mono (has_neg hc) h1,has_mono hy h1,fun k2 q h2 hq rq=>?_⟩⟩
 refine qU0 h (has_mono hp h2) hq fun k3 v h3 hv rv=>hQ k3 v (by omega) hv ?_
 rw[rv,rp,rq,h.neg _ hc.1]
 cases ρ c<;>cases ρ x<;>cases ρ y<;>rfl
theorem sum_sat (h:Rho ρ):∀{xs ys:List Int} {c:Int} {k:Nat} {QL:Nat→List Int→Prop},hasL k xs→hasL k ys→has k c→(∀k' r,k≤k'→hasL k' r→r.map ρ=sumV (xs.map ρ) (ys.map ρ) (ρ c)→QL k' r)→Says ρ k (sumB xs ys c) QL:=by
 intro xs
 induction xs with
 |nil=>intro ys c k QL _ _ _ hQ;exact hQ k [] (Nat.le_refl _) (fun x hx=>by cases hx) rfl
 |cons x xs ih=>
  intro ys c k QL hx hy hc hQ
  cases ys with
  |nil=>exact hQ k [] (Nat.le_refl _) (fun x hx=>by cases hx) rfl
  |cons y ys=>
   obtain⟨hx1,hx2⟩:=hasL_cons.1 hx
   obtain⟨hy1,hy2⟩:=hasL_cons.1 hy
   refine⟨hx1,hy1,fun k1 d h1 hd rd=>⟨hd,has_mono hc h1,fun k2 s h2 hs rs=>⟨has_mono hx1 (by omega),has_mono hy1 (by omega),fun k3 p h3 hp rp=>⟨has_mono hd (by omega),has_mono hc (by omega),fun k4 q h4 hq rq=>?_⟩⟩⟩⟩
   refine Says.bind (qU0 h (has_mono hp h4) hq fun k5 c' h5 hc' rc'=>?_)
   refine Says.bind (ih (hx2.mono (by omega)) (hy2.mono (by omega)) hc' fun k6 r h6 hr rr=>?_)
   refine hQ k6 (s::r) (by omega) (hasL_cons.2 ⟨has_mono hs (by omega),hr⟩) ?_
   simp only[List.map_cons,sumV]
   rw[rs,rd,rr,rc',rp,rq,rd]
theorem less_sat (h:Rho ρ):∀{xs ys:List Int} {r:Int} {k:Nat} {Q:Nat→Int→Prop},hasL k xs→hasL k ys→has k r→(∀k' v,k≤k'→has k' v→ρ v=lessV (xs.map ρ) (ys.map ρ) (ρ r)→Q k' v)→Says ρ k (lessB xs ys r) Q:=by
 intro xs
 induction xs with
 |nil=>intro ys r k Q _ _ hr hQ;exact hQ k r (Nat.le_refl _) hr rfl
 |cons x xs ih=>
  intro ys r k Q hx hy hr hQ
  cases ys with
  |nil=>exact hQ k r (Nat.le_refl _) hr rfl
  |cons y ys=>
   obtain⟨hx1,hx2⟩:=hasL_cons.1 hx
   obtain⟨hy1,hy2⟩:=hasL_cons.1 hy
   refine⟨hx1,hy1,fun k1 d h1 hd rd=>?_⟩
   refine Says.bind (mux_sat h hd (has_mono hy1 h1) (has_mono hr h1) fun k2 v h2 hv rv=>?_)
   refine ih (hx2.mono (by omega)) (hy2.mono (by omega)) hv fun k3 u h3 hu ru=>hQ k3 u (by omega) hu ?_
   rw[ru,rv,rd];rfl
theorem same_sat (h:Rho ρ):∀{xs ys:List Int} {r:Int} {k:Nat} {Q:Nat→Int→Prop},hasL k xs→hasL k ys→has k r→(∀k' v,k≤k'→has k' v→ρ v=sameV (xs.map ρ) (ys.map ρ) (ρ r)→Q k' v)→Says ρ k (sameB xs ys r) Q:=by
 intro xs
 induction xs with
 |nil=>intro ys r k Q _ _ hr hQ;exact hQ k r (Nat.le_refl _) hr rfl
 |cons x xs ih=>
  intro ys r k Q hx hy hr hQ
  cases ys with
  |nil=>exact hQ k r (Nat.le_refl _) hr rfl
  |cons y ys=>
   obtain⟨hx1,hx2⟩:=hasL_cons.1 hx
   obtain⟨hy1,hy2⟩:=hasL_cons.1 hy
   refine⟨hx1,hy1,fun k1 d h1 hd rd=>⟨has_mono hr h1,has_neg hd,fun k2 v h2 hv rv=>?_⟩⟩
   refine ih (hx2.mono (by omega)) (hy2.mono (by omega)) hv fun k3 u h3 hu ru=>hQ k3 u (by omega) hu ?_
   rw[ru,rv,h.neg _ hd.1,rd];rfl
theorem each_sat {f:Int→Int→Bd Int} {g:Bool→Bool→Bool} {C:Nat→Prop} (hC:∀k l,C k→k≤l→C l) (hf:∀{k:Nat} {x y:Int} {Q:Nat→Int→Prop},C k→has k x→has k y→(∀k' v,k≤k'→has k' v→ρ v=g (ρ x) (ρ y)→Q k' v)→Says ρ k (f x y) Q):
  ∀{xs ys:List Int} {k:Nat} {QL:Nat→List Int→Prop},C k→hasL k xs→hasL k ys→(∀k' r,k≤k'→hasL k' r→r.map ρ=eachV g (xs.map ρ) (ys.map ρ)→QL k' r)→Says ρ k (eachB f xs ys) QL:=by
 intro xs
 induction xs with
 |nil=>intro ys k QL _ _ _ hQ;exact hQ k [] (Nat.le_refl _) (fun x hx=>by cases hx) rfl
 |cons x xs ih=>
  intro ys k QL hc hx hy hQ
  cases ys with
  |nil=>exact hQ k [] (Nat.le_refl _) (fun x hx=>by cases hx) rfl
  |cons y ys=>
   obtain⟨hx1,hx2⟩:=hasL_cons.1 hx
   obtain⟨hy1,hy2⟩:=hasL_cons.1 hy
   refine Says.bind (hf hc hx1 hy1 fun k1 s h1 hs rs=>?_)
   refine Says.bind (ih (hC _ _ hc h1) (hx2.mono h1) (hy2.mono h1) fun k2 r h2 hr rr=>?_)
   refine hQ k2 (s::r) (by omega) (hasL_cons.2 ⟨has_mono hs h2,hr⟩) ?_
   simp only[List.map_cons,eachV]
   rw[rs,rr]
theorem row_sat {s:Int}:∀{xs:List Int} {k:Nat} {QL:Nat→List Int→Prop},hasL k xs→has k s→(∀k' r,k≤k'→hasL k' r→r.map ρ=(xs.map ρ).map (fun x=>x&&ρ s)→QL k' r)→Says ρ k (rowB s xs) QL:=by
 intro xs
 induction xs with
 |nil=>intro k QL _ _ hQ;exact hQ k [] (Nat.le_refl _) (fun x hx=>by cases hx) rfl
 |cons x xs ih=>
  intro k QL hx hs hQ
  obtain⟨hx1,hx2⟩:=hasL_cons.1 hx
  refine⟨hx1,hs,fun k1 v h1 hv rv=>?_⟩
  refine Says.bind (ih (hx2.mono h1) (has_mono hs h1) fun k2 r h2 hr rr=>?_)
  refine hQ k2 (v::r) (by omega) (hasL_cons.2 ⟨has_mono hv h2,hr⟩) ?_
  simp only[List.map_cons]
  rw[rv,rr]
theorem mul_sat (h:Rho ρ) {xs:List Int}:∀{ys:List Int} {i:Nat} {s:List Int} {k:Nat} {QL:Nat→List Int→Prop},1≤k→hasL k xs→hasL k ys→hasL k s→(∀k' r,k≤k'→hasL k' r→r.map ρ=mulV (xs.map ρ) (ys.map ρ) i (s.map ρ)→QL k' r)→Says ρ k (mulB xs ys i s) QL:=by
 intro ys
 induction ys with
 |nil=>intro i s k QL _ _ _ hs hQ;exact hQ k s (Nat.le_refl _) hs rfl
 |cons y ys ih=>
  intro i s k QL hk hx hy hs hQ
  obtain⟨hy1,hy2⟩:=hasL_cons.1 hy
  refine Says.bind (row_sat (KK hx) hy1 fun k1 r h1 hr rr=>?_)
  refine Says.bind (sum_sat h (hs.mono h1) (Ua (Zt (by omega)) hr) (has_mone (by omega)) fun k2 s' h2 hs' rs'=>?_)
  refine ih (by omega) (hx.mono (by omega)) (hy2.mono (by omega)) hs' fun k3 u h3 hu ru=>hQ k3 u (by omega) hu ?_
  rw[ru,rs',h.mone,List.map_append,KH h,rr,List.map_take]
  simp only[List.map_cons,mulV,List.length_map]
theorem Ub {xs:List Int} {n:Nat} (hn:n<xs.length):ρ (xs.getD n 0)=(xs.map ρ).getD n false:=by
 rw[List.getD_eq_getElem?_getD,List.getD_eq_getElem?_getD,List.getElem?_map,List.getElem?_eq_getElem hn];rfl
theorem div_sat (h:Rho ρ) {xs wide:List Int}:∀{n:Nat} {r q:List Int} {k:Nat} {QP:Nat→List Int×List Int→Prop},1≤k→n≤xs.length→hasL k xs→hasL k wide→hasL k r→hasL k q→
  (∀k' p,k≤k'→hasL k' p.1→hasL k' p.2→(p.1.map ρ,p.2.map ρ)=divV (xs.map ρ) (wide.map ρ) n (r.map ρ) (q.map ρ)→QP k' p)→Says ρ k (divB xs wide n r q) QP:=by
 intro n
 induction n with
 |zero=>intro r q k QP _ _ _ _ hr hq hQ;exact hQ k (q,r) (Nat.le_refl _) hq hr rfl
 |succ n ih=>
  intro r q k QP hk hn hx hw hr hq hQ
  have ht:hasL k (xs.getD n 0::r):=hasL_cons.2 ⟨QJ hx (by omega) 0,hr⟩
  refine Says.bind (less_sat h ht hw (has_mone hk) fun k1 l h1 hl rl=>?_)
  refine Says.bind (sum_sat h (ht.mono h1) ((U9 hw).mono h1) (has_one (by omega)) fun k2 u h2 hu ru=>?_)
  refine Says.bind (each_sat (C:=fun k=>has k l) (g:=fun a b=>if ρ l then a else b) (fun _ _ h hl=>has_mono h hl) (fun hc hx hy hq=>mux_sat h hc hx hy hq) (has_mono hl h2) (KK (ht.mono (by omega))) (KK hu) fun k3 r' h3 hr' rr'=>?_)
  refine ih (by omega) (by omega) (hx.mono (by omega)) (hw.mono (by omega)) hr' (qZ0 (hq.mono (by omega)) (has_neg (has_mono hl (by omega)))) fun k4 p h4 hp1 hp2 rp=>hQ k4 p (by omega) hp1 hp2 ?_
  rw[rp]
  simp only[divV,List.length_map]
  rw[rr',List.map_take,List.map_take,ru,List.map_set,h.neg _ hl.1,rl,yz0 h hw,h.mone,h.one,List.map_cons,Ub (ρ:=ρ) (xs:=xs) (n:=n) (by omega)]
theorem from_has {up:Bool} {fill:Int} {s:List Int} {b j:Nat} (hf:has k fill) (hs:hasL k s) (hj:j<s.length):has k (fromL up fill s b j):=by
 unfold fromL
 repeat' split
 all_goals first|exact hf|exact QJ hs (by omega) 0
theorem from_rho {up:Bool} {fill:Int} {s:List Int} {b j:Nat} (hj:j<s.length):ρ (fromL up fill s b j)=YF0 up (ρ fill) (s.map ρ) b j:=by
 unfold fromL YF0
 rw[List.length_map]
 repeat' split
 all_goals first|rfl|exact Ub (by omega)
theorem shift_sat (h:Rho ρ) {up:Bool} {fill:Int}:∀{ys:List Int} {i:Nat} {s:List Int} {k:Nat} {QL:Nat→List Int→Prop},has k fill→hasL k ys→hasL k s→(∀k' r,k≤k'→hasL k' r→r.map ρ=shiftV up (ρ fill) (ys.map ρ) i (s.map ρ)→QL k' r)→Says ρ k (shiftB up fill ys i s) QL:=by
 intro ys
 induction ys with
 |nil=>intro i s k QL _ _ hs hQ;exact hQ k s (Nat.le_refl _) hs rfl
 |cons c ys ih=>
  intro i s k QL hf hy hs hQ
  obtain⟨hy1,hy2⟩:=hasL_cons.1 hy
  refine Says.bind (each_sat (C:=fun k=>has k c) (g:=fun a b=>if ρ c then a else b) (fun _ _ h hl=>has_mono h hl) (fun hc hx hy hq=>mux_sat h hc hx hy hq) hy1 (fun x hx=>by
   obtain⟨j,hj,rfl⟩:=List.mem_map.1 hx
   exact from_has hf hs (List.mem_range.1 hj)) hs fun k1 s' h1 hs' rs'=>?_)
  refine ih (has_mono hf h1) (hy2.mono h1) hs' fun k2 u h2 hu ru=>hQ k2 u (by omega) hu ?_
  rw[ru,rs']
  simp only[List.map_cons,shiftV,List.length_map,List.map_map]
  congr 2
  exact List.map_congr_left fun j hj=>from_rho (List.mem_range.1 hj)
theorem X70 (h:Rho ρ) {op:Int} {x:List Int} (hk:1≤k) (hx:hasL k x) (hQ:∀k' r,k≤k'→hasL k' r→r.map ρ=unV op (x.map ρ)→QL k' r):Says ρ k (unB op x) QL:=by
 unfold unB
 unfold unV at hQ
 rw[List.length_map] at hQ
 split
 ·next e=>rw[if_pos e] at hQ;exact hQ k _ (Nat.le_refl _) (U9 hx) (yz0 h hx)
 ·next e=>
  rw[if_neg e] at hQ
  exact sum_sat h (Zt hk) (U9 hx) (has_one hk) fun k' r hk' hr rr=>hQ k' r hk' hr (by rw[rr,KH h,yz0 h hx,h.one])
theorem bin_sat (h:Rho ρ) {op:Int} {x y:List Int} (hk:1≤k) (hx:hasL k x) (hy:hasL k y) (hne:x≠[]) (hQ:∀k' r,k≤k'→hasL k' r→r.map ρ=Xt0 op (x.map ρ) (y.map ρ)→QL k' r):Says ρ k (binB op x y) QL:=by
 have hl:0<x.length:=List.length_pos_iff.2 hne
 unfold binB
 unfold Xt0 at hQ
 rw[List.length_map] at hQ
 by_cases c14:op=14
 ·rw[if_pos c14] at hQ⊢;exact hQ k _ (Nat.le_refl _) (Ua hy hx) (by rw[List.map_append])
 rw[if_neg c14] at hQ⊢
 by_cases c3:op=3
 ·rw[if_pos c3] at hQ⊢
  exact each_sat (C:=fun _=>True) (fun _ _ _ _=>trivial) (fun{_ _ _ _} _ hx hy hq=>by exact⟨hx,hy,fun k' v h1 h2 h3=>hq k' v h1 h2 h3⟩) trivial hx hy hQ
 rw[if_neg c3] at hQ⊢
 by_cases c4:op=4
 ·rw[if_pos c4] at hQ⊢
  exact each_sat (C:=fun _=>True) (fun _ _ _ _=>trivial) (fun _ hx hy hq=>qU0 h hx hy hq) trivial hx hy hQ
 rw[if_neg c4] at hQ⊢
 by_cases c5:op=5
 ·rw[if_pos c5] at hQ⊢
  exact each_sat (C:=fun _=>True) (fun _ _ _ _=>trivial) (fun{_ _ _ _} _ hx hy hq=>by exact⟨hx,hy,fun k' v h1 h2 h3=>hq k' v h1 h2 h3⟩) trivial hx hy hQ
 rw[if_neg c5] at hQ⊢
 by_cases c6:op=6
 ·rw[if_pos c6] at hQ⊢
  exact sum_sat h hx hy (has_mone hk) fun k' r h1 h2 h3=>hQ k' r h1 h2 (by rw[h3,h.mone])
 rw[if_neg c6] at hQ⊢
 by_cases c7:op=7
 ·rw[if_pos c7] at hQ⊢
  exact sum_sat h hx (U9 hy) (has_one hk) fun k' r h1 h2 h3=>hQ k' r h1 h2 (by rw[h3,h.one,yz0 h hy])
 rw[if_neg c7] at hQ⊢
 by_cases c8:op=8
 ·rw[if_pos c8] at hQ⊢
  exact mul_sat h hk hx hy (Zt hk) fun k' r h1 h2 h3=>hQ k' r h1 h2 (by rw[h3,KH h])
 rw[if_neg c8] at hQ⊢
 by_cases c9:op=9
 ·rw[if_pos c9] at hQ⊢
  refine Says.bind (div_sat h hk (Nat.le_refl _) hx (Ua hy fun x hx=>by rw[List.mem_singleton.1 hx];exact has_mone hk) (Zt hk) (Zt hk) fun k' p h1 h2 _ h3=>hQ k' _ h1 h2 ?_)
  rw[KH h,List.map_append,List.map_singleton,h.mone] at h3
  rw[←h3]
 rw[if_neg c9] at hQ⊢
 by_cases c10:op=10
 ·rw[if_pos c10] at hQ⊢
  refine Says.bind (div_sat h hk (Nat.le_refl _) hx (Ua hy fun x hx=>by rw[List.mem_singleton.1 hx];exact has_mone hk) (Zt hk) (Zt hk) fun k' p h1 _ h2 h3=>hQ k' _ h1 h2 ?_)
  rw[KH h,List.map_append,List.map_singleton,h.mone] at h3
  rw[←h3]
 rw[if_neg c10] at hQ⊢
 by_cases c11:op=11
 ·rw[if_pos c11] at hQ⊢
  exact shift_sat h (has_mone hk) hy hx fun k' r h1 h2 h3=>hQ k' r h1 h2 (by rw[h3,h.mone])
 rw[if_neg c11] at hQ⊢
 by_cases c12:op=12
 ·rw[if_pos c12] at hQ⊢
  exact shift_sat h (has_mone hk) hy hx fun k' r h1 h2 h3=>hQ k' r h1 h2 (by rw[h3,h.mone])
 rw[if_neg c12] at hQ⊢
 exact shift_sat h (QJ hx (by omega) 0) hy hx fun k' r h1 h2 h3=>hQ k' r h1 h2 (by rw[h3,Ub (ρ:=ρ) (xs:=x) (n:=x.length-1) (by omega)])
theorem swap_has {x y:List Int} (hx:hasL k x) (hy:hasL k y) (hl:x.length=y.length) (hne:x≠[]):hasL k (swapT x y):=by
 have h0:0<x.length:=List.length_pos_iff.2 hne
 exact qZ0 hx (QJ hy (by omega) 0)
theorem swap_rho {x y:List Int} (hl:x.length=y.length) (hne:x≠[]):(swapT x y).map ρ=Zj0 (x.map ρ) (y.map ρ):=by
 have h0:0<x.length:=List.length_pos_iff.2 hne
 unfold swapT Zj0
 rw[List.map_set,List.length_map,Ub (ρ:=ρ) (xs:=y) (n:=x.length-1) (by omega)]
theorem YL0 (h:Rho ρ) {op:Int} {x y:List Int} (hk:1≤k) (hx:hasL k x) (hy:hasL k y) (hl:x.length=y.length) (hne:x≠[]) (hQ:∀k' v,k≤k'→has k' v→ρ v=cmpV op (x.map ρ) (y.map ρ)→Q k' v):Says ρ k (cmpB op x y) Q:=by
 have hne':y≠[]:=fun e=>hne (List.eq_nil_of_length_eq_zero (by rw[hl,e];rfl))
 unfold cmpB
 unfold cmpV at hQ
 by_cases c15:op=15
 ·rw[if_pos c15] at hQ⊢;exact same_sat h hx hy (has_one hk) fun k' v h1 h2 h3=>hQ k' v h1 h2 (by rw[h3,h.one])
 rw[if_neg c15] at hQ⊢
 by_cases c16:op=16
 ·rw[if_pos c16] at hQ⊢;exact less_sat h hx hy (has_mone hk) fun k' v h1 h2 h3=>hQ k' v h1 h2 (by rw[h3,h.mone])
 rw[if_neg c16] at hQ⊢
 exact less_sat h (swap_has hx hy hl hne) (swap_has hy hx hl.symm hne') (has_mone hk) fun k' v h1 h2 h3=>hQ k' v h1 h2 (by rw[h3,h.mone,swap_rho hl hne,swap_rho hl.symm hne'])
end
end Go.M
end
section
namespace Go.M
open Go.Vc
def oneM (t:Tm) (a:Int):Int:=
 if t.op=25 then(if a=0 then 0 else-1) else if a<1 then-1
 else if t.op=22 then(if 0≤t.b∧t.b≤t.a∧t.a<a then t.a-t.b+1 else-1) else a
def bothM (o a b:Int):Int:=
 if o=26∨o=27 then(if a=0∧b=0 then 0 else-1)
 else if a<1∨b<1 then-1
 else if o=14 then(if a+b≤4 then a+b else-1)
 else if a≠b then-1 else if 15≤o then 0 else a
section
variable {ds:List Dcl} {env:List Int} {t:Tm}
def kid (t:Tm) (i:Nat):Tm:=t.ks.getD i default
theorem formed_iff:formed t=true↔arity t.op=t.ks.length∧plainM t=true:=by simp[formed]
theorem arity_one {o:Int} (h:arity o=1):o=1∨o=2∨o=22∨o=25:=by
 unfold arity at h
 repeat' split at h
 all_goals omega
theorem arity_two {o:Int} (h:arity o=2):(3≤o∧o≤17)∨o=26∨o=27:=by
 unfold arity at h
 repeat' split at h
 all_goals omega
theorem arity_three {o:Int} (h:arity o=3):o=23:=by
 unfold arity at h
 repeat' split at h
 all_goals omega
theorem arity_zero {o:Int} (h:arity o=0):o=20∨o=21∨o=24:=by
 unfold arity at h
 repeat' split at h
 all_goals omega
theorem ks1 (h:t.ks.length=1):t.ks=[kid t 0]:=by
 unfold kid
 generalize t.ks=ks at h⊢
 match ks,h with
 |[x],_=>rfl
theorem ks2 (h:t.ks.length=2):t.ks=[kid t 0,kid t 1]:=by
 unfold kid
 generalize t.ks=ks at h⊢
 match ks,h with
 |[x,y],_=>rfl
theorem ks3 (h:t.ks.length=3):t.ks=[kid t 0,kid t 1,kid t 2]:=by
 unfold kid
 generalize t.ks=ks at h⊢
 match ks,h with
 |[x,y,z],_=>rfl
theorem kid_mem {i:Nat} (h:i<t.ks.length):kid t i∈t.ks:=getD_mem h _
theorem sort_bad (h: ¬formed t=true):sortM ds t= -1:=by
 rw[sortM_eq];unfold sortF;rw[if_neg (fun x=>h x.1)]
theorem sort_leaf (hf:formed t=true) (h:t.ks.length=0):sortM ds t=sortK ds t []:=by
 have:t.ks=[]:=List.eq_nil_of_length_eq_zero h
 rw[sortM_eq,this];unfold sortF
 rw[if_pos ⟨hf,by simp⟩]
 rfl
theorem sort_one (hd:declOk ds=true) (hf:formed t=true) (h:t.ks.length=1):sortM ds t=oneM t (sortM ds (kid t 0)):=by
 have ha:=arity_one (o:=t.op) (by have:=(formed_iff.1 hf).1;omega)
 have hr:=sort_range hd (kid t 0)
 rw[sortM_eq,ks1 h]
 unfold sortF
 simp only[List.map_cons,List.map_nil,List.mem_singleton]
 generalize sortM ds (kid t 0)=s at hr⊢
 unfold oneM
 by_cases hs:s= -1
 ·subst hs
  rw[if_neg (by simp)]
  split
  ·split<;>omega
  ·rfl
 ·rw[if_pos ⟨hf,fun e=>hs e.symm⟩]
  unfold sortK
  rw[if_neg (by omega),if_neg (by omega)]
  by_cases h25:t.op=25
  ·rw[if_pos (by omega),if_pos h25]
   by_cases h0:s=0
   ·simp[h0]
   ·simp[h0]
  rw[if_neg (by omega),if_neg h25,if_neg (by omega)]
  simp only[List.getD_cons_zero]
  by_cases h22:t.op=22
  ·rw[if_pos h22,if_pos h22]
   by_cases h1:s<1
   ·rw[if_pos h1,if_neg (by omega)]
   ·rw[if_neg h1]
  ·rw[if_neg h22,if_neg h22,if_pos (by omega)]
   by_cases h1:s<1
   ·rw[if_pos h1,if_neg (by omega)]
   ·rw[if_neg h1,if_pos (by omega)]
theorem sort_two (hd:declOk ds=true) (hf:formed t=true) (h:t.ks.length=2):sortM ds t=bothM t.op (sortM ds (kid t 0)) (sortM ds (kid t 1)):=by
 have ha:=arity_two (o:=t.op) (by have:=(formed_iff.1 hf).1;omega)
 have hr:=sort_range hd (kid t 0)
 have hr1:=sort_range hd (kid t 1)
 rw[sortM_eq,ks2 h]
 unfold sortF
 simp only[List.map_cons,List.map_nil,List.mem_cons,List.not_mem_nil,or_false]
 generalize sortM ds (kid t 0)=a at hr⊢
 generalize sortM ds (kid t 1)=b at hr1⊢
 unfold bothM
 by_cases hs: -1=a∨ -1=b
 ·rw[if_neg (fun x=>x.2 hs)]
  repeat' split
  all_goals omega
 ·rw[if_pos ⟨hf,hs⟩]
  unfold sortK
  have hany:([a,b].any fun x=>decide (x≠0))=decide (a≠0∨b≠0):=by
   simp only[List.any_cons,List.any_nil,Bool.or_false,Bool.decide_or]
  rw[hany]
  simp only[List.getD_cons_zero,List.getD_cons_succ,decide_eq_true_eq]
  rw[if_neg (show¬t.op=20 by omega),if_neg (show¬t.op=21 by omega),if_neg (show¬t.op=23 by omega),if_neg (show¬t.op=22 by omega)]
  repeat' split
  all_goals omega
theorem sort_three (hf:formed t=true) (h:t.ks.length=3):sortM ds t=if sortM ds (kid t 0)≠0∨sortM ds (kid t 1)≠sortM ds (kid t 2) then-1 else sortM ds (kid t 1):=by
 have ha:=arity_three (o:=t.op) (by have:=(formed_iff.1 hf).1;omega)
 rw[sortM_eq,ks3 h]
 unfold sortF
 simp only[List.map_cons,List.map_nil,List.mem_cons,List.not_mem_nil,or_false]
 generalize sortM ds (kid t 0)=a
 generalize sortM ds (kid t 1)=b
 generalize sortM ds (kid t 2)=c
 by_cases hs: -1=a∨ -1=b∨ -1=c
 ·rw[if_neg (fun x=>x.2 hs)]
  split
  ·rfl
  ·omega
 ·rw[if_pos ⟨hf,hs⟩]
  unfold sortK
  rw[if_neg (by omega),if_neg (by omega),if_neg (by omega),if_pos ha]
  simp only[List.getD_cons_zero,List.getD_cons_succ]
  by_cases hc:a=0∧b=c
  ·rw[if_pos hc,if_neg (by omega)]
  ·rw[if_neg hc,if_pos (by omega)]
theorem j00 (h:sortM ds t≠ -1) {i:Nat} (hi:i<t.ks.length):sortM ds (kid t i)≠ -1:=(sort_parts h).2.1 _ (kid_mem hi)
theorem Xj0 (he:envOk ds env=true) (h:sortM ds t≠ -1) {i:Nat} (hi:i<t.ks.length):inS (sortM ds (kid t i)) (evalM ds env (kid t i)):=eval_in he _ (j00 h hi)
theorem name_found (h:sortM ds t≠ -1) (ho:t.op=21):0≤findD ds t.s:=by
 obtain⟨_,_,hs⟩:=sort_parts h
 rw[hs] at h
 unfold sortK at h
 rw[if_neg (by omega),if_pos ho] at h
 split at h
 ·exact absurd rfl h
 ·omega
end
def wordL (o:Int):List UInt8:=
 if o=1 then[110,111,116] else if o=2 then[110,101,103] else if o=3 then[97,110,100] else if o=4 then[111,114] else if o=5 then[120,111,114]
 else if o=6 then[97,100,100] else if o=7 then[115,117,98] else if o=8 then[109,117,108] else if o=9 then[100,105,118] else if o=10 then[114,101,109]
 else if o=11 then[115,104,108] else if o=12 then[115,104,114] else if o=13 then[115,97,114] else if o=14 then[99,97,116] else if o=15 then[115,97,109,101]
 else if o=16 then[108,101,115,115] else if o=17 then[117,110,100,101,114] else if o=22 then[99,117,116] else if o=23 then[105,102] else if o=25 then[110,111]
 else if o=26 then[98,111,116,104] else if o=27 then[97,110,121] else[]
end Go.M
end
