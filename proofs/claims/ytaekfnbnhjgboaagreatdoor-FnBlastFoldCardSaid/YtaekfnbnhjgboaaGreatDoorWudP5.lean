import Derived.Test.YtaekfnbnhjgboaaGreatDoorWudP2
import Derived.Test.YtaekfnbnhjgboaaGreatDoorWudP3
import Derived.Test.YtaekfnbnhjgboaaGreatDoorWudP4
/- A part of the proof. -/
set_option linter.unusedVariables false
set_option linter.unusedSimpArgs false
set_option linter.unnecessarySimpa false
set_option linter.unusedSectionVars false
section
namespace Go.Proofs.YtaekfnbnhjgboaaGreatDoor
open Go Go.Vc Go.Proofs
variable {v0 v1 v2 v3 v4 v5 v6 v7 v8:Value} {w:World} {R:Value→World→Prop}
theorem W3 (h:yo PP zp v1 w fun a b=>yF (fun c=>y0 b fun b=>zi PP zp a 1 b fun d e=>e=b∧ze PP zd d b fun d e=>e=b∧zi PP zp a 2 b fun e f=>f=b∧ze PP zd e b fun f g=>g=b∧vcall PP yf #[d] b fun b d=>(ze PP zd e d fun g h=>g=f∧h=d)∧(zi PP zp a 2 d fun g h=>g=e∧h=d)∧vcall PP yf #[f] d fun d e=>zq PP .gtr zd false b d e fun b d=>d=e∧vif b (zi PP zp a 2 e fun b d=>ze PP zd b d fun b d=>zi PP zp a 1 d fun d f=>ze PP zd d f fun d f=>zi PP zp a 1 f fun f i=>zl PP zd f b i fun _ b=>zi PP zp a 2 b fun b f=>zl PP zd b d f fun _ b=>c [] b) (c [] e)) (fun _ _ b=>y0 b fun b=>vnil PP v0 b fun c d=>d=b∧zi PP zU c 1 b fun c d=>d=b∧ze PP zH c b fun c d=>d=b∧ze PP zp a b fun d e=>e=b∧XG PP zH c d true b fun c d=>d=b∧zk PP c 0 b fun d e=>e=b∧zk PP c 1 b fun c e=>e=b∧vif c (R d b) (vnil PP v0 b fun b c=>zi PP zU b 0 c fun b c=>zi PP zg b 1 c fun b c=>ze PP zn b c fun b c=>vbi PP .len [zn] zd [b] c fun b c=>zq PP .eql zd true b (.int .i64 600) c fun b c=>vif b (R (.int .i64 0) c) (y0 c fun b=>vnil PP v0 b fun c d=>d=b∧zi PP zU c 0 b fun d e=>e=b∧zi PP zg d 1 b fun e f=>f=b∧ze PP zn e b fun f i=>i=b∧ze PP zp a b fun i j=>j=b∧vbuildS PP zn 1 [(0,i)] b fun b i=>(ze PP zn e i fun g h=>g=f∧h=i)∧(zi PP zg d 1 i fun g h=>g=e∧h=i)∧(zi PP zU c 0 i fun g h=>g=d∧h=i)∧(vnil PP v0 i fun g h=>g=c∧h=i)∧vbi PP .append [zn,zn] zn [f,b] i fun b c=>vnil PP v0 c fun d e=>e=c∧zi PP zU d 0 c fun d e=>e=c∧zi PP zg d 1 c fun d e=>e=c∧zl PP zn d b c fun _ b=>y0 b fun b=>vnil PP v0 b fun c d=>d=b∧zi PP zU c 1 b fun d e=>e=b∧ze PP zH d b fun e f=>f=b∧ze PP zp a b fun f i=>i=b∧vnil PP v0 b fun i j=>j=b∧zi PP zU i 0 b fun i j=>j=b∧ze PP zg i b fun i j=>j=b∧vnil PP v0 b fun j k=>k=b∧zi PP zU j 0 b fun j k=>k=b∧zi PP zg j 1 b fun j k=>k=b∧ze PP zn j b fun j k=>k=b∧vbi PP .len [zn] zd [j] b fun j k=>k=b∧vcall PP qf #[i,j] b fun b i=>(ze PP zp a i fun g h=>g=f∧h=i)∧(ze PP zH d i fun g h=>g=e∧h=i)∧(zi PP zU c 1 i fun g h=>g=d∧h=i)∧(vnil PP v0 i fun g h=>g=c∧h=i)∧ZH PP zH e f b i fun _ b=>y0 b fun b=>vnil PP v0 b fun c d=>d=b∧zi PP zU c 1 b fun c d=>d=b∧ze PP zH c b fun c d=>d=b∧ze PP zp a b fun a d=>d=b∧XG PP zH c a false b fun a c=>c=b∧R a b)))):vcall PP qK #[v0,v1] w R:=zo {ord:=[(1,[0,1,3,4,2,5,6],[(0,[1,2,5,6]),(1,[2,5,6]),(3,[4,5,6]),(4,[5,6]),(2,[5,6]),(5,[6])]),(3,[0,1,2,3,4,5,6,7,8,9,10],[(0,[1,2,3,5,6,7,8,9,10]),(1,[2,3,5,6,7,8,9,10]),(2,[3,5,6,7,8,9,10]),(3,[5,6,7,8,9,10]),(4,[5,6,7,8,9,10]),(5,[6,7,8,9,10]),(6,[7,8,9,10]),(7,[9,10]),(8,[10]),(9,[10])]),(8,[0,1,2,3,4,5,6,7,8,9,10,11,12],[(0,[9,10,11,12]),(1,[2,3,4,5,8,9,10,11,12]),(2,[3,4,5,8,9,10,11,12]),(3,[4,5,8,9,10,11,12]),(4,[5,8,9,10,11,12]),(5,[8,9,10,11,12]),(6,[7,8,9,10,11,12]),(7,[8,9,10,11,12]),(8,[9,10,11,12]),(9,[10,11,12]),(10,[11,12]),(11,[12])]),(9,[0,1,2,3,4,5,6,7,8,9,10,11,12,13,14,15,16],[(0,[1,2,3,16]),(1,[2,3,16]),(2,[3,16]),(3,[16]),(4,[16]),(5,[6,7,8,15,16]),(6,[7,8,15,16]),(7,[8,15,16]),(8,[15,16]),(9,[10,11,12,13,14,15,16]),(10,[11,12,13,14,15,16]),(11,[12,13,14,15,16]),(12,[13,14,15,16]),(13,[14,15,16]),(14,[15,16]),(15,[16])]),(10,[0,1,2,3,4,5,6],[(0,[1,2,3,5,6]),(1,[2,3,5,6]),(2,[3,5,6]),(3,[5,6]),(4,[5,6]),(5,[6])])],cuts:=[(8195,[])]} Tryz.func278 (by kernel_rfl) (by kernel_rfl) h
theorem KG (h:vif v1 (vun PP .neg v0 w fun a b=>R a b) (R v0 w)):vcall PP xR #[v0,v1] w R:=zo {} Tryz.func279 (by kernel_rfl) (by kernel_rfl) h
theorem JJ (h:ze PP zb v1 w fun a b=>vbi PP .len [zb] zd [a] b fun b c=>yJ [(.int .i64 0)] c fun c d _ e=>zq PP .lss zd false (sl 0 d) b e fun b e=>vif b (zm PP zb a (sl 0 d) e fun a b=>ze PP zt a b fun a b=>vcall PP jd #[(sl 0 d)] b fun b f=>yJ [b,(sl 0 d)] f fun b f _ g=>ze PP zb v2 g fun g h=>vbi PP .len [zb] zd [g] h fun g h=>zq PP .lss zd false (sl 1 f) g h fun g h=>vif g (y0 h fun g=>ze PP zS v3 g fun i j=>j=g∧ze PP zb v2 g fun j k=>k=g∧zq PP .sub zd false (sl 1 f) (sl 0 d) g fun k l=>l=g∧zm PP zb j k g fun j k=>k=g∧ze PP zt j g fun j k=>k=g∧vcall PP yu #[i,j,a] g fun a g=>vbuildS PP zb 1 [(0,a)] g fun a g=>vbi PP .append [zb,zb] zb [(sl 0 f),a] g fun a g=>zq PP .add zd true (sl 1 f) (.int .i64 1) g fun g i=>b [a,g] i) (vcallv PP v0 #[(sl 0 f)] h fun a b=>vun PP .not a b fun a b=>vif a (R (.tuple #[]) b) (zq PP .add zd true (sl 0 d) (.int .i64 1) b fun a b=>c [a] b))) (R (.tuple #[]) e)):vcall PP qm #[v0,v1,v2,v3] w R:=zo {ord:=[(7,[0,1,2,3,4,5,6,7,8,9,10,11,12],[(0,[11,12]),(1,[9,10,11,12]),(2,[6,7,9,10,11,12]),(3,[5,6,7,9,10,11,12]),(4,[5,6,7,9,10,11,12]),(5,[6,7,9,10,11,12]),(6,[7,9,10,11,12]),(7,[9,10,11,12]),(8,[9,10,11,12]),(9,[10,11,12]),(10,[11,12]),(11,[12])])],loops:=[(1,[11]),(5,[7,8])]} Tryz.func280 (by kernel_rfl) (by kernel_rfl) h
theorem YU (h:vcall PP ky #[v0,v1] w fun a b=>zq PP .geq zd true a (.int .i64 0) b fun a b=>R a b):vcall PP ju #[v0,v1] w R:=zo {} Tryz.func285 (by kernel_rfl) (by kernel_rfl) h
theorem QB (h:vbi PP .len [zj] zd [v0] w fun a b=>yJ [(.int .i64 0)] b fun b c _ d=>zq PP .lss zd false (sl 0 c) a d fun a d=>vif a (zm PP zj v0 (sl 0 c) d fun a e=>ze PP zd a e fun a e=>zq PP .eql zd false v1 a e fun a e=>vif a (R (sl 0 c) e) (zq PP .add zd true (sl 0 c) (.int .i64 1) e fun a c=>b [a] c)) (R (.int .i64 (-1)) d)):vcall PP ky #[v0,v1] w R:=zo {loops:=[(2,[8])]} Tryz.func292 (by kernel_rfl) (by kernel_rfl) h
theorem yM0 (h:yo PP zc v0 w fun a b=>zi PP zc a 0 b fun a b=>ze PP zd a b fun a b=>zq PP .shl yc true (.int .u64 1) a b fun a b=>zq PP .sub yc true a (.int .u64 1) b fun a b=>R a b):vcall PP kH #[v0] w R:=zo {} Tryz.func312 (by kernel_rfl) (by kernel_rfl) h
theorem UR (h:yo PP yd v0 w fun a b=>zi PP yd a 1 b fun a b=>ze PP zd a b fun a b=>R a b):vcall PP yD #[v0] w R:=zo {} Tryz.func313 (by kernel_rfl) (by kernel_rfl) h
theorem UQ (h:yo PP yd v0 w fun a b=>zi PP yd a 0 b fun a b=>ze PP zM a b fun a b=>R a b):vcall PP yM #[v0] w R:=zo {} Tryz.func314 (by kernel_rfl) (by kernel_rfl) h
theorem WA (h:yo PP zQ v0 w fun _ a=>yo PP z7 v2 a fun _ a=>y0 a fun a=>zm PP zj v3 (.int .i64 0) a fun b c=>c=a∧ze PP zd b a fun b c=>c=a∧zq PP .gtr zd true b (.int .i64 0) a fun b c=>c=a∧zm PP zj v3 (.int .i64 0) a fun c d=>d=a∧ze PP zd c a fun c d=>d=a∧vcall PP yi #[b,c] a fun a b=>R a b):vcall PP kA #[v0,v1,v2,v3] w R:=zo {ord:=[(1,[0,1,2,3,4,5,6,7,8],[(0,[1,2,3,7,8]),(1,[2,3,7,8]),(2,[3,7,8]),(3,[7,8]),(4,[5,6,7,8]),(5,[6,7,8]),(6,[7,8]),(7,[8])])]} Tryz.func315 (by kernel_rfl) (by kernel_rfl) h
theorem VV (h:yo PP zQ v0 w fun _ a=>yo PP z7 v2 a fun a b=>yF (fun c=>y0 b fun b=>zi PP z7 a 0 b fun d e=>e=b∧ze PP zd d b fun e f=>f=b∧zm PP y6 v3 (.int .i64 0) b fun f g=>g=b∧ze PP zc f b fun g h=>h=b∧(vcall PP X6 #[e,g] b fun h i=>zk PP h 0 i fun j k=>k=i∧zk PP h 1 i fun k l=>l=i∧(zJ PP zc i fun i l=>(zk PP h 1 l fun m n=>m=k∧n=l)∧(zk PP h 0 l fun m n=>m=j∧n=l)∧(zl PP zc i j l fun _ j=>(zk PP h 1 j fun m n=>m=k∧n=j)∧c [i] j)∧True)∧True)∧(zJ PP zc b fun b h=>(ze PP zc f h fun m n=>m=g∧n=h)∧(zm PP y6 v3 (.int .i64 0) h fun m n=>m=f∧n=h)∧(ze PP zd d h fun m n=>m=e∧n=h)∧(zi PP z7 a 0 h fun m n=>m=d∧n=h)∧(vcall PP X6 #[e,g] h fun a d=>zk PP a 0 d fun e f=>f=d∧zk PP a 1 d fun f g=>g=d∧(zl PP zc b e d fun _ d=>(zk PP a 1 d fun m n=>m=f∧n=d)∧c [b] d)∧True)∧True)∧True) (fun a _ b=>zi PP zc (sl 0 a) 1 b fun a b=>ze PP zd a b fun a b=>R a b)):vcall PP jP #[v0,v1,v2,v3] w R:=zo {cuts:=[(8194,[9])],trees:=[(1,(.st 0 (.st 1 (.st 2 (.st 3 (.st 4 (.alt 5 (.st 6 (.st 7 (.st 8 (.alt 9 (.alt 10 (.st 11 .nil) .no) .no)))) (.alt 9 (.alt 5 (.st 6 (.st 7 (.st 8 (.alt 10 (.st 11 .nil) .no)))) .no) .no))))))),[(0,[1,5,6,7,8,10,11]),(1,[5,6,7,8,10,11]),(2,[3,4,5,6,7,8,10,11]),(3,[4,5,6,7,8,10,11]),(4,[5,6,7,8,10,11]),(5,[6,7,8,10,11]),(6,[7,8,10,11]),(7,[10,11]),(8,[11]),(9,[10,11]),(10,[11])])]} Tryz.func316 (by kernel_rfl) (by kernel_rfl) h
theorem qZ0 (h:vif v0 (R v1 w) (R (.int .i64 (-1)) w)):vcall PP yi #[v0,v1] w R:=zo {} Tryz.func317 (by kernel_rfl) (by kernel_rfl) h
theorem jZ0 (h:yo PP zc v1 w fun a b=>zJ PP zc b fun b c=>ze PP zc a c fun c d=>vcall PP xi #[c] d fun c d=>vun PP .not c d fun c d=>vif c (zC PP zc [] d fun c e=>zl PP zc b c e fun _ c=>vlv PP zc b c fun c e=>R (.tuple #[c,(.bool false)]) e) (zq PP .eql zd true v0 (.int .i64 1) d fun c d=>vif c (y0 d fun c=>ze PP zc a c fun e f=>f=c∧ze PP zc a c fun f g=>g=c∧vcall PP zK #[f] c fun c f=>(ze PP zc a f fun g h=>g=e∧h=f)∧vun PP .xor c f fun c i=>i=f∧vcall PP jJ #[e,c] f fun c e=>zl PP zc b c e fun _ c=>vlv PP zc b c fun c e=>R (.tuple #[c,(.bool true)]) e) (zq PP .eql zd true v0 (.int .i64 2) d fun c d=>vif c (y0 d fun c=>ze PP zc a c fun e f=>f=c∧ze PP zc a c fun f i=>i=c∧vcall PP zK #[f] c fun c f=>(ze PP zc a f fun g h=>g=e∧h=f)∧vun PP .neg c f fun a c=>c=f∧vcall PP jJ #[e,a] f fun a c=>zl PP zc b a c fun _ a=>vlv PP zc b a fun a c=>R (.tuple #[a,(.bool true)]) c) (zC PP zc [] d fun a c=>zl PP zc b a c fun _ a=>vlv PP zc b a fun a b=>R (.tuple #[a,(.bool false)]) b)))):vcall PP X6 #[v0,v1] w R:=zo {ord:=[(4,[0,1,2,3,4,5,6],[(0,[4,5,6]),(1,[2,3,4,5,6]),(2,[3,4,5,6]),(3,[4,5,6]),(4,[5,6]),(5,[6])]),(6,[0,1,2,3,4,5,6],[(0,[4,5,6]),(1,[2,3,4,5,6]),(2,[3,4,5,6]),(3,[4,5,6]),(4,[5,6]),(5,[6])])]} Tryz.func318 (by kernel_rfl) (by kernel_rfl) h
theorem xC0 (h:yo PP zc v0 w fun a b=>zJ PP zc b fun b c=>y0 c fun c=>zi PP zc a 0 c fun d e=>e=c∧ze PP zd d c fun e f=>f=c∧zi PP zc a 0 c fun f g=>g=c∧ze PP zd f c fun f g=>g=c∧vcall PP Zl #[v1,f] c fun c f=>(ze PP zd d f fun g h=>g=e∧h=f)∧(zi PP zc a 0 f fun g h=>g=d∧h=f)∧Yl PP yc zd c f fun a c=>c=f∧zC PP zc [(0,e),(1,a)] f fun a c=>c=f∧zl PP zc b a f fun _ a=>vlv PP zc b a fun a b=>R a b):vcall PP jJ #[v0,v1] w R:=zo {ord:=[(1,[0,1,2,3,4,5,6,7,8],[(0,[1,7,8]),(1,[7,8]),(2,[5,6,7,8]),(3,[4,5,6,7,8]),(4,[5,6,7,8]),(5,[6,7,8]),(6,[7,8]),(7,[8])])]} Tryz.func319 (by kernel_rfl) (by kernel_rfl) h
theorem xu0 (h:zq PP .shl yc true (.int .u64 1) v1 w fun a b=>zq PP .sub yc true a (.int .u64 1) b fun a b=>zq PP .and yc false v0 a b fun a b=>R a b):vcall PP Zl #[v0,v1] w R:=zo {} Tryz.func320 (by kernel_rfl) (by kernel_rfl) h
theorem W4 (h:yo PP zX v0 w fun _ a=>yo PP z7 v2 a fun _ a=>y0 a fun a=>zm PP zj v3 (.int .i64 0) a fun b c=>c=a∧ze PP zd b a fun b c=>c=a∧zq PP .gtr zd true b (.int .i64 0) a fun b c=>c=a∧vif b (zm PP zj v3 (.int .i64 1) a fun b c=>c=a∧ze PP zd b a fun b c=>c=a∧zq PP .gtr zd true b (.int .i64 0) a fun b c=>c=a∧vif b (zm PP zj v3 (.int .i64 0) a fun b c=>c=a∧ze PP zd b a fun b c=>c=a∧zm PP zj v3 (.int .i64 1) a fun c d=>d=a∧ze PP zd c a fun c d=>d=a∧zq PP .add zd false b c a fun b c=>c=a∧zq PP .leq zd true b (.int .i64 4) a fun b c=>c=a∧zm PP zj v3 (.int .i64 0) a fun c d=>d=a∧ze PP zd c a fun c d=>d=a∧zm PP zj v3 (.int .i64 1) a fun d e=>e=a∧ze PP zd d a fun d e=>e=a∧zq PP .add zd false c d a fun c d=>d=a∧vcall PP yi #[b,c] a fun b c=>R b c) (zm PP zj v3 (.int .i64 0) a fun b c=>c=a∧ze PP zd b a fun b c=>c=a∧zm PP zj v3 (.int .i64 1) a fun c d=>d=a∧ze PP zd c a fun c d=>d=a∧zq PP .add zd false b c a fun b c=>c=a∧vcall PP yi #[(.bool false),b] a fun b c=>R b c)) (zm PP zj v3 (.int .i64 0) a fun b c=>c=a∧ze PP zd b a fun b c=>c=a∧zm PP zj v3 (.int .i64 1) a fun c d=>d=a∧ze PP zd c a fun c d=>d=a∧zq PP .add zd false b c a fun b c=>c=a∧vcall PP yi #[(.bool false),b] a fun a b=>R a b)):vcall PP jV #[v0,v1,v2,v3] w R:=zo {ord:=[(1,[0,1,2,3,4,5,6,7,8,9,10,11,12,13,14,15,16,17,18,19,20,21,22,23,24,25,26,27,28],[(0,[1,2,3,4,5,6,7,8,9,10,11,12,13,14,15,16,17,18,19,27,28]),(1,[2,3,4,5,6,7,8,9,10,11,12,13,14,15,16,17,18,19,27,28]),(2,[3,4,5,6,7,8,9,10,11,12,13,14,15,16,17,18,19,27,28]),(3,[4,5,6,7,8,9,10,11,12,13,14,15,16,17,18,19,27,28]),(4,[5,6,7,8,9,10,11,12,13,14,15,16,17,18,19,27,28]),(5,[6,7,8,9,10,11,12,13,14,15,16,17,18,19,27,28]),(6,[7,8,9,10,11,12,13,14,15,16,17,18,19,27,28]),(7,[8,9,10,11,12,13,14,15,16,17,18,19,27,28]),(8,[9,10,11,12,13,14,15,16,17,18,19,27,28]),(9,[10,11,12,13,14,15,16,17,18,19,27,28]),(10,[11,12,13,14,15,16,17,18,19,27,28]),(11,[12,13,17,18,19,27,28]),(12,[13,17,18,19,27,28]),(13,[17,18,19,27,28]),(14,[15,16,17,18,19,27,28]),(15,[16,17,18,19,27,28]),(16,[17,18,19,27,28]),(17,[18,19,27,28]),(18,[19,27,28]),(19,[27,28]),(20,[21,22,26,27,28]),(21,[22,26,27,28]),(22,[26,27,28]),(23,[24,25,26,27,28]),(24,[25,26,27,28]),(25,[26,27,28]),(26,[27,28]),(27,[28])])]} Tryz.func321 (by kernel_rfl) (by kernel_rfl) h
theorem KN (h:yo PP zX v0 w fun _ a=>yo PP z7 v2 a fun a b=>yF (fun c=>y0 b fun b=>zi PP z7 a 0 b fun d e=>e=b∧ze PP zd d b fun e f=>f=b∧zm PP y6 v3 (.int .i64 0) b fun f g=>g=b∧ze PP zc f b fun g h=>h=b∧zm PP y6 v3 (.int .i64 1) b fun h i=>i=b∧ze PP zc h b fun i j=>j=b∧(vcall PP js #[e,g,i] b fun j k=>zk PP j 0 k fun l m=>m=k∧zk PP j 1 k fun m n=>n=k∧(zJ PP zc k fun k n=>(zk PP j 1 n fun o p=>o=m∧p=n)∧(zk PP j 0 n fun o p=>o=l∧p=n)∧(zl PP zc k l n fun _ l=>(zk PP j 1 l fun o p=>o=m∧p=l)∧c [k] l)∧True)∧True)∧(zJ PP zc b fun b j=>(ze PP zc h j fun o p=>o=i∧p=j)∧(zm PP y6 v3 (.int .i64 1) j fun o p=>o=h∧p=j)∧(ze PP zc f j fun o p=>o=g∧p=j)∧(zm PP y6 v3 (.int .i64 0) j fun o p=>o=f∧p=j)∧(ze PP zd d j fun o p=>o=e∧p=j)∧(zi PP z7 a 0 j fun o p=>o=d∧p=j)∧(vcall PP js #[e,g,i] j fun a d=>zk PP a 0 d fun e f=>f=d∧zk PP a 1 d fun f g=>g=d∧(zl PP zc b e d fun _ d=>(zk PP a 1 d fun o p=>o=f∧p=d)∧c [b] d)∧True)∧True)∧True) (fun a _ b=>zi PP zc (sl 0 a) 1 b fun a b=>ze PP zd a b fun a b=>R a b)):vcall PP jB #[v0,v1,v2,v3] w R:=zo {cuts:=[(8194,[9])],trees:=[(1,(.st 0 (.st 1 (.st 2 (.st 3 (.st 4 (.st 5 (.st 6 (.st 7 (.alt 8 (.st 9 (.st 10 (.st 11 (.alt 12 (.alt 13 (.st 14 .nil) .no) .no)))) (.alt 12 (.alt 8 (.st 9 (.st 10 (.st 11 (.alt 13 (.st 14 .nil) .no)))) .no) .no)))))))))),[(0,[1,8,9,10,11,13,14]),(1,[8,9,10,11,13,14]),(2,[3,4,8,9,10,11,13,14]),(3,[4,8,9,10,11,13,14]),(4,[8,9,10,11,13,14]),(5,[6,7,8,9,10,11,13,14]),(6,[7,8,9,10,11,13,14]),(7,[8,9,10,11,13,14]),(8,[9,10,11,13,14]),(9,[10,11,13,14]),(10,[13,14]),(11,[14]),(12,[13,14]),(13,[14])])]} Tryz.func322 (by kernel_rfl) (by kernel_rfl) h
theorem j60 (h:yo PP zc v1 w fun a b=>yo PP zc v2 b fun b c=>zJ PP zc c fun c d=>yF (fun e=>ze PP zc a d fun d f=>vcall PP xi #[d] f fun d f=>vun PP .not d f fun d f=>vif d (zC PP zc [] f fun d g=>zl PP zc c d g fun _ d=>vlv PP zc c d fun d g=>R (.tuple #[d,(.bool false)]) g) (ze PP zc b f fun d f=>vcall PP xi #[d] f fun d f=>vun PP .not d f fun d f=>vif d (zC PP zc [] f fun d g=>zl PP zc c d g fun _ d=>vlv PP zc c d fun d g=>R (.tuple #[d,(.bool false)]) g) (e [] f))) (fun _ _ d=>zq PP .eql zd true v0 (.int .i64 14) d fun d e=>vif d (y0 e fun d=>zi PP zc a 0 d fun f g=>g=d∧ze PP zd f d fun g h=>h=d∧zi PP zc b 0 d fun h i=>i=d∧ze PP zd h d fun i j=>j=d∧zq PP .add zd false g i d fun j k=>k=d∧zi PP zc a 1 d fun k l=>l=d∧ze PP zd k d fun l m=>m=d∧zi PP zc b 0 d fun m n=>n=d∧ze PP zd m d fun n o=>o=d∧zq PP .shl zd false l n d fun o p=>p=d∧zi PP zc b 1 d fun p q=>q=d∧ze PP zd p d fun q r=>r=d∧zq PP .or zd false o q d fun r s=>s=d∧zC PP zc [(0,j),(1,r)] d fun s t=>t=d∧zJ PP zc d fun d t=>(zC PP zc [(0,j),(1,r)] t fun u v=>u=s∧v=t)∧(zq PP .or zd false o q t fun u v=>u=r∧v=t)∧(ze PP zd p t fun u v=>u=q∧v=t)∧(zi PP zc b 1 t fun u v=>u=p∧v=t)∧(zq PP .shl zd false l n t fun u v=>u=o∧v=t)∧(ze PP zd m t fun u v=>u=n∧v=t)∧(zi PP zc b 0 t fun u v=>u=m∧v=t)∧(ze PP zd k t fun u v=>u=l∧v=t)∧(zi PP zc a 1 t fun u v=>u=k∧v=t)∧(zq PP .add zd false g i t fun u v=>u=j∧v=t)∧(ze PP zd h t fun u v=>u=i∧v=t)∧(zi PP zc b 0 t fun u v=>u=h∧v=t)∧(ze PP zd f t fun u v=>u=g∧v=t)∧(zi PP zc a 0 t fun u v=>u=f∧v=t)∧zl PP zc d s t fun _ f=>zi PP zc d 0 f fun f g=>ze PP zd f g fun f g=>zq PP .gtr zd true f (.int .i64 4) g fun f g=>vif f (zC PP zc [] g fun f h=>zl PP zc c f h fun _ f=>vlv PP zc c f fun f h=>R (.tuple #[f,(.bool false)]) h) (ze PP zc d g fun d f=>zl PP zc c d f fun _ d=>vlv PP zc c d fun d f=>R (.tuple #[d,(.bool true)]) f)) (yF (fun d=>zq PP .lss zd true v0 (.int .i64 3) e fun e f=>vif e (zC PP zc [] f fun e g=>zl PP zc c e g fun _ e=>vlv PP zc c e fun e g=>R (.tuple #[e,(.bool false)]) g) (zq PP .gtr zd true v0 (.int .i64 13) f fun e f=>vif e (zC PP zc [] f fun e g=>zl PP zc c e g fun _ e=>vlv PP zc c e fun e g=>R (.tuple #[e,(.bool false)]) g) (zi PP zc a 0 f fun e f=>ze PP zd e f fun e f=>zi PP zc b 0 f fun f g=>ze PP zd f g fun f g=>zq PP .neq zd false e f g fun e f=>vif e (zC PP zc [] f fun e g=>zl PP zc c e g fun _ e=>vlv PP zc c e fun e g=>R (.tuple #[e,(.bool false)]) g) (d [] f)))) (fun _ _ d=>y0 d fun d=>ze PP zc a d fun e f=>f=d∧ze PP zc a d fun f g=>g=d∧ze PP zc b d fun g h=>h=d∧vcall PP Yr #[] d fun d h=>(ze PP zc b h fun u v=>u=g∧v=h)∧(ze PP zc a h fun u v=>u=f∧v=h)∧(ze PP zc a h fun u v=>u=e∧v=h)∧xR0 PP y2 d v0 h fun b d=>d=h∧vcallv PP b #[f,g] h fun b d=>(ze PP zc a d fun u v=>u=e∧v=d)∧vcall PP jJ #[e,b] d fun a b=>zl PP zc c a b fun _ a=>vlv PP zc c a fun a b=>R (.tuple #[a,(.bool true)]) b)))):vcall PP js #[v0,v1,v2] w R:=zo {ord:=[(4,[0,1,2,3,4,5,6,7,8,9,10,11,12,13,14,15],[(0,[1,4,13,15]),(1,[4,13,15]),(2,[3,4,13,15]),(3,[4,13,15]),(4,[13,15]),(5,[6,9,12,13,15]),(6,[9,12,13,15]),(7,[8,9,12,13,15]),(8,[9,12,13,15]),(9,[12,13,15]),(10,[11,12,13,15]),(11,[12,13,15]),(12,[13,15]),(13,[15]),(14,[15])]),(10,[0,2,4,5,1,3,6,7,8,9],[(0,[7,8,9]),(2,[3,6,7,8,9]),(4,[6,7,8,9]),(5,[6,7,8,9]),(1,[3,6,7,8,9]),(3,[6,7,8,9]),(6,[7,8,9]),(7,[8,9]),(8,[9])])],cuts:=[(8195,[]),(36874,[])]} Tryz.func323 (by kernel_rfl) (by kernel_rfl) h
theorem yL0 (h:zJ PP y2 w fun a b=>zC PP y2 [(3,(.func (.func xh) #[] #[])),(4,(.func (.func xg) #[] #[])),(5,(.func (.func xf) #[] #[])),(6,(.func (.func xe) #[] #[])),(7,(.func (.func xd) #[] #[])),(8,(.func (.func xc) #[] #[])),(9,(.func (.func xb) #[] #[])),(10,(.func (.func xa) #[] #[])),(11,(.func (.func x8) #[] #[])),(12,(.func (.func yV) #[] #[])),(13,(.func (.func yU) #[] #[]))] b fun b c=>zl PP y2 a b c fun _ b=>vlv PP y2 a b fun a b=>R a b):vcall PP Yr #[] w R:=zo {} Tryz.func324 (by kernel_rfl) (by kernel_rfl) h
theorem z50 (h:yo PP zc v0 w fun a b=>yo PP zc v1 b fun b c=>y0 c fun c=>ze PP zc a c fun a d=>d=c∧ze PP zc b c fun d e=>e=c∧vcall PP zK #[a] c fun a c=>(ze PP zc b c fun b e=>b=d∧e=c)∧vcall PP zK #[d] c fun b c=>zq PP .and yc false a b c fun a b=>b=c∧R a c):vcall PP xh #[v0,v1] w R:=zo {ord:=[(1,[0,2,1,3,4,5],[(0,[1,3,4,5]),(2,[3,4,5]),(1,[3,4,5]),(3,[4,5]),(4,[5])])]} Tryz.func325 (by kernel_rfl) (by kernel_rfl) h
theorem z40 (h:yo PP zc v0 w fun a b=>yo PP zc v1 b fun b c=>y0 c fun c=>ze PP zc a c fun a d=>d=c∧ze PP zc b c fun d e=>e=c∧vcall PP zK #[a] c fun a c=>(ze PP zc b c fun b e=>b=d∧e=c)∧vcall PP zK #[d] c fun b c=>zq PP .or yc false a b c fun a b=>b=c∧R a c):vcall PP xg #[v0,v1] w R:=zo {ord:=[(1,[0,2,1,3,4,5],[(0,[1,3,4,5]),(2,[3,4,5]),(1,[3,4,5]),(3,[4,5]),(4,[5])])]} Tryz.func326 (by kernel_rfl) (by kernel_rfl) h
theorem z30 (h:yo PP zc v0 w fun a b=>yo PP zc v1 b fun b c=>y0 c fun c=>ze PP zc a c fun a d=>d=c∧ze PP zc b c fun d e=>e=c∧vcall PP zK #[a] c fun a c=>(ze PP zc b c fun b e=>b=d∧e=c)∧vcall PP zK #[d] c fun b c=>zq PP .xor yc false a b c fun a b=>b=c∧R a c):vcall PP xf #[v0,v1] w R:=zo {ord:=[(1,[0,2,1,3,4,5],[(0,[1,3,4,5]),(2,[3,4,5]),(1,[3,4,5]),(3,[4,5]),(4,[5])])]} Tryz.func327 (by kernel_rfl) (by kernel_rfl) h
theorem z00 (h:yo PP zc v0 w fun a b=>yo PP zc v1 b fun b c=>y0 c fun c=>ze PP zc a c fun a d=>d=c∧ze PP zc b c fun d e=>e=c∧vcall PP zK #[a] c fun a c=>(ze PP zc b c fun b e=>b=d∧e=c)∧vcall PP zK #[d] c fun b c=>zq PP .add yc false a b c fun a b=>b=c∧R a c):vcall PP xe #[v0,v1] w R:=zo {ord:=[(1,[0,2,1,3,4,5],[(0,[1,3,4,5]),(2,[3,4,5]),(1,[3,4,5]),(3,[4,5]),(4,[5])])]} Tryz.func328 (by kernel_rfl) (by kernel_rfl) h
theorem UZ (h:yo PP zc v0 w fun a b=>yo PP zc v1 b fun b c=>y0 c fun c=>ze PP zc a c fun a d=>d=c∧ze PP zc b c fun d e=>e=c∧vcall PP zK #[a] c fun a c=>(ze PP zc b c fun b e=>b=d∧e=c)∧vcall PP zK #[d] c fun b c=>zq PP .sub yc false a b c fun a b=>b=c∧R a c):vcall PP xd #[v0,v1] w R:=zo {ord:=[(1,[0,2,1,3,4,5],[(0,[1,3,4,5]),(2,[3,4,5]),(1,[3,4,5]),(3,[4,5]),(4,[5])])]} Tryz.func329 (by kernel_rfl) (by kernel_rfl) h
theorem UY (h:yo PP zc v0 w fun a b=>yo PP zc v1 b fun b c=>y0 c fun c=>ze PP zc a c fun a d=>d=c∧ze PP zc b c fun d e=>e=c∧vcall PP zK #[a] c fun a c=>(ze PP zc b c fun b e=>b=d∧e=c)∧vcall PP zK #[d] c fun b c=>zq PP .mul yc false a b c fun a b=>b=c∧R a c):vcall PP xc #[v0,v1] w R:=zo {ord:=[(1,[0,2,1,3,4,5],[(0,[1,3,4,5]),(2,[3,4,5]),(1,[3,4,5]),(3,[4,5]),(4,[5])])]} Tryz.func330 (by kernel_rfl) (by kernel_rfl) h
theorem UX (h:yo PP zc v0 w fun a b=>yo PP zc v1 b fun b c=>zi PP zc b 1 c fun c d=>ze PP zd c d fun c d=>zq PP .eql zd true c (.int .i64 0) d fun c d=>vif c (ze PP zc a d fun c e=>vcall PP kH #[c] e fun c e=>R c e) (y0 d fun c=>ze PP zc a c fun a d=>d=c∧ze PP zc b c fun d e=>e=c∧vcall PP zK #[a] c fun a c=>(ze PP zc b c fun b e=>b=d∧e=c)∧vcall PP zK #[d] c fun b c=>zq PP .quo yc false a b c fun a b=>b=c∧R a c)):vcall PP xb #[v0,v1] w R:=zo {ord:=[(3,[0,2,1,3,4,5],[(0,[1,3,4,5]),(2,[3,4,5]),(1,[3,4,5]),(3,[4,5]),(4,[5])])]} Tryz.func331 (by kernel_rfl) (by kernel_rfl) h
theorem UW (h:yo PP zc v0 w fun a b=>yo PP zc v1 b fun b c=>zi PP zc b 1 c fun c d=>ze PP zd c d fun c d=>zq PP .eql zd true c (.int .i64 0) d fun c d=>vif c (ze PP zc a d fun c e=>vcall PP zK #[c] e fun c e=>R c e) (y0 d fun c=>ze PP zc a c fun a d=>d=c∧ze PP zc b c fun d e=>e=c∧vcall PP zK #[a] c fun a c=>(ze PP zc b c fun b e=>b=d∧e=c)∧vcall PP zK #[d] c fun b c=>zq PP .rem yc false a b c fun a b=>b=c∧R a c)):vcall PP xa #[v0,v1] w R:=zo {ord:=[(3,[0,2,1,3,4,5],[(0,[1,3,4,5]),(2,[3,4,5]),(1,[3,4,5]),(3,[4,5]),(4,[5])])]} Tryz.func332 (by kernel_rfl) (by kernel_rfl) h
theorem UV (h:yo PP zc v0 w fun a b=>yo PP zc v1 b fun b c=>y0 c fun c=>ze PP zc a c fun a d=>d=c∧ze PP zc b c fun d e=>e=c∧vcall PP zK #[a] c fun a c=>(ze PP zc b c fun b e=>b=d∧e=c)∧vcall PP zK #[d] c fun b c=>zq PP .shl yc false a b c fun a b=>b=c∧R a c):vcall PP x8 #[v0,v1] w R:=zo {ord:=[(1,[0,2,1,3,4,5],[(0,[1,3,4,5]),(2,[3,4,5]),(1,[3,4,5]),(3,[4,5]),(4,[5])])]} Tryz.func333 (by kernel_rfl) (by kernel_rfl) h
theorem WO (h:yo PP zc v0 w fun a b=>yo PP zc v1 b fun b c=>y0 c fun c=>ze PP zc a c fun a d=>d=c∧ze PP zc b c fun d e=>e=c∧vcall PP zK #[a] c fun a c=>(ze PP zc b c fun b e=>b=d∧e=c)∧vcall PP zK #[d] c fun b c=>zq PP .shr yc false a b c fun a b=>b=c∧R a c):vcall PP yV #[v0,v1] w R:=zo {ord:=[(1,[0,2,1,3,4,5],[(0,[1,3,4,5]),(2,[3,4,5]),(1,[3,4,5]),(3,[4,5]),(4,[5])])]} Tryz.func334 (by kernel_rfl) (by kernel_rfl) h
theorem WN (h:yo PP zc v0 w fun a b=>yo PP zc v1 b fun b c=>y0 c fun c=>ze PP zc a c fun a d=>d=c∧ze PP zc b c fun d e=>e=c∧vcall PP jF #[a] c fun a c=>(ze PP zc b c fun b e=>b=d∧e=c)∧vcall PP zK #[d] c fun b c=>zq PP .shr yc false a b c fun a b=>b=c∧R a c):vcall PP yU #[v0,v1] w R:=zo {ord:=[(1,[0,2,1,3,4,5],[(0,[1,3,4,5]),(2,[3,4,5]),(1,[3,4,5]),(3,[4,5]),(4,[5])])]} Tryz.func335 (by kernel_rfl) (by kernel_rfl) h
theorem KU (h:yo PP zc v0 w fun a b=>y0 b fun b=>ze PP zc a b fun c d=>d=b∧zi PP zc a 0 b fun d e=>e=b∧ze PP zd d b fun e f=>f=b∧zq PP .sub zd true e (.int .i64 1) b fun f g=>g=b∧vcall PP zK #[c] b fun b c=>(zq PP .sub zd true e (.int .i64 1) c fun g h=>g=f∧h=c)∧(ze PP zd d c fun g h=>g=e∧h=c)∧(zi PP zc a 0 c fun g h=>g=d∧h=c)∧vcall PP qo #[b,f] c fun b c=>vif b (y0 c fun b=>ze PP zc a b fun d e=>e=b∧ze PP zc a b fun e f=>f=b∧vcall PP zK #[d] b fun b d=>(ze PP zc a d fun g h=>g=e∧h=d)∧vcall PP kH #[e] d fun d e=>vun PP .xor d e fun d f=>f=e∧zq PP .and yc true d (.int .u64 4294967295) e fun d f=>f=e∧zq PP .or yc false b d e fun b d=>d=e∧R b e) (ze PP zc a c fun a b=>vcall PP zK #[a] b fun a b=>R a b)):vcall PP jF #[v0] w R:=zo {ord:=[(1,[0,2,3,4,1,5],[(0,[1,5]),(2,[3,4,5]),(3,[4,5]),(4,[5]),(1,[5])]),(2,[0,2,1,3,4,5,6,7],[(0,[1,3,4,5,6,7]),(2,[3,4,5,6,7]),(1,[3,4,5,6,7]),(3,[4,5,6,7]),(4,[5,6,7]),(5,[6,7]),(6,[7])])]} Tryz.func336 (by kernel_rfl) (by kernel_rfl) h
theorem W2 (h:yo PP zL v0 w fun _ a=>yo PP z7 v2 a fun _ a=>y0 a fun a=>zm PP zj v3 (.int .i64 0) a fun b c=>c=a∧ze PP zd b a fun b c=>c=a∧zq PP .gtr zd true b (.int .i64 0) a fun b c=>c=a∧vif b (zm PP zj v3 (.int .i64 0) a fun b c=>c=a∧ze PP zd b a fun b c=>c=a∧zm PP zj v3 (.int .i64 1) a fun c d=>d=a∧ze PP zd c a fun c d=>d=a∧zq PP .eql zd false b c a fun b c=>c=a∧vcall PP yi #[b,(.int .i64 0)] a fun b c=>R b c) (vcall PP yi #[(.bool false),(.int .i64 0)] a fun a b=>R a b)):vcall PP jU #[v0,v1,v2,v3] w R:=zo {ord:=[(1,[0,1,2,3,4,5,6,7,8,9,10,11,12,13,14],[(0,[1,2,3,4,5,6,7,8,9,10,11,12,13,14]),(1,[2,3,4,5,6,7,8,9,10,11,12,13,14]),(2,[3,4,5,6,7,8,9,10,11,12,13,14]),(3,[4,5,6,7,8,9,10,11,12,13,14]),(4,[5,6,7,8,9,10,11,12,13,14]),(5,[6,7,11,12,13,14]),(6,[7,11,12,13,14]),(7,[11,12,13,14]),(8,[9,10,11,12,13,14]),(9,[10,11,12,13,14]),(10,[11,12,13,14]),(11,[12,13,14]),(12,[13,14]),(13,[14])])]} Tryz.func337 (by kernel_rfl) (by kernel_rfl) h
theorem KM (h:yo PP zL v0 w fun _ a=>yo PP z7 v2 a fun a b=>y0 b fun b=>zi PP z7 a 0 b fun a c=>c=b∧ze PP zd a b fun a c=>c=b∧zm PP y6 v3 (.int .i64 0) b fun c d=>d=b∧ze PP zc c b fun c d=>d=b∧zm PP y6 v3 (.int .i64 1) b fun d e=>e=b∧ze PP zc d b fun d e=>e=b∧vcall PP Qx #[a,c,d] b fun a b=>zk PP a 0 b fun c d=>d=b∧zk PP a 1 b fun _ a=>a=b∧vcall PP Yb #[c] b fun a b=>R a b):vcall PP jA #[v0,v1,v2,v3] w R:=zo {ord:=[(1,[0,1,2,3,4,5,6,7,8,9,10,11,12,13],[(0,[1,8,9,10,11,12,13]),(1,[8,9,10,11,12,13]),(2,[3,4,8,9,10,11,12,13]),(3,[4,8,9,10,11,12,13]),(4,[8,9,10,11,12,13]),(5,[6,7,8,9,10,11,12,13]),(6,[7,8,9,10,11,12,13]),(7,[8,9,10,11,12,13]),(8,[9,10,11,12,13]),(9,[10,11,12,13]),(10,[12,13]),(11,[13]),(12,[13])])]} Tryz.func338 (by kernel_rfl) (by kernel_rfl) h
theorem j50 (h:yo PP zc v1 w fun a b=>yo PP zc v2 b fun b c=>yF (fun d=>ze PP zc a c fun c e=>vcall PP xi #[c] e fun c e=>vun PP .not c e fun c e=>vif c (R (.tuple #[(.bool false),(.bool false)]) e) (ze PP zc b e fun c e=>vcall PP xi #[c] e fun c e=>vun PP .not c e fun c e=>vif c (R (.tuple #[(.bool false),(.bool false)]) e) (zi PP zc a 0 e fun c e=>ze PP zd c e fun c e=>zi PP zc b 0 e fun e f=>ze PP zd e f fun e f=>zq PP .neq zd false c e f fun c e=>vif c (R (.tuple #[(.bool false),(.bool false)]) e) (d [] e)))) (fun _ _ c=>zq PP .eql zd true v0 (.int .i64 15) c fun c d=>vif c (ze PP zc a d fun c e=>ze PP zc b e fun e f=>zq PP .eql zc false c e f fun c e=>R (.tuple #[c,(.bool true)]) e) (zq PP .eql zd true v0 (.int .i64 16) d fun c d=>vif c (zi PP zc a 1 d fun c e=>ze PP zd c e fun c e=>zi PP zc b 1 e fun e f=>ze PP zd e f fun e f=>zq PP .lss zd false c e f fun c e=>R (.tuple #[c,(.bool true)]) e) (zq PP .eql zd true v0 (.int .i64 17) d fun c d=>vif c (y0 d fun c=>ze PP zc a c fun a e=>e=c∧ze PP zc b c fun e f=>f=c∧vcall PP jL #[a] c fun a c=>(ze PP zc b c fun b f=>b=e∧f=c)∧vcall PP jL #[e] c fun b c=>zq PP .lss zd false a b c fun a b=>b=c∧R (.tuple #[a,(.bool true)]) c) (R (.tuple #[(.bool false),(.bool false)]) d))))):vcall PP Qx #[v0,v1,v2] w R:=zo {ord:=[(9,[0,2,1,3,4,5,6],[(0,[1,3,4,5,6]),(2,[3,4,5,6]),(1,[3,4,5,6]),(3,[4,5,6]),(4,[5,6]),(5,[6])])],cuts:=[(8195,[])]} Tryz.func339 (by kernel_rfl) (by kernel_rfl) h
theorem j10 (h:vif v0 (R (.int .i64 1) w) (R (.int .i64 0) w)):vcall PP Yb #[v0] w R:=zo {} Tryz.func340 (by kernel_rfl) (by kernel_rfl) h
theorem zS0 (h:yo PP zc v0 w fun a b=>ze PP zc a b fun b c=>vcall PP xi #[b] c fun b c=>vun PP .not b c fun b c=>vif b (R (.int .i64 0) c) (y0 c fun b=>ze PP zc a b fun c d=>d=b∧zi PP zc a 0 b fun d e=>e=b∧ze PP zd d b fun e f=>f=b∧zq PP .sub zd true e (.int .i64 1) b fun f g=>g=b∧vcall PP zK #[c] b fun b c=>(zq PP .sub zd true e (.int .i64 1) c fun g h=>g=f∧h=c)∧(ze PP zd d c fun g h=>g=e∧h=c)∧(zi PP zc a 0 c fun g h=>g=d∧h=c)∧vcall PP qo #[b,f] c fun b c=>vif b (y0 c fun b=>zi PP zc a 1 b fun d e=>e=b∧ze PP zd d b fun d e=>e=b∧zi PP zc a 0 b fun e f=>f=b∧ze PP zd e b fun e f=>f=b∧zq PP .shl zd true (.int .i64 1) e b fun e f=>f=b∧zq PP .sub zd false d e b fun d e=>e=b∧R d b) (zi PP zc a 1 c fun a b=>ze PP zd a b fun a b=>R a b))):vcall PP jL #[v0] w R:=zo {ord:=[(3,[0,2,3,4,1,5],[(0,[1,5]),(2,[3,4,5]),(3,[4,5]),(4,[5]),(1,[5])]),(4,[0,1,2,3,4,5,6],[(0,[1,5,6]),(1,[5,6]),(2,[3,4,5,6]),(3,[4,5,6]),(4,[5,6]),(5,[6])])]} Tryz.func341 (by kernel_rfl) (by kernel_rfl) h
theorem VU (h:yo PP zT v0 w fun _ a=>yo PP z7 v2 a fun a b=>y0 b fun b=>zi PP z7 a 1 b fun c d=>d=b∧ze PP zd c b fun c d=>d=b∧zi PP z7 a 2 b fun d e=>e=b∧ze PP zd d b fun d e=>e=b∧zC PP zc [(0,c),(1,d)] b fun c d=>d=b∧zi PP z7 a 1 b fun d e=>e=b∧ze PP zd d b fun e f=>f=b∧vcall PP xi #[c] b fun b c=>(ze PP zd d c fun f g=>f=e∧g=c)∧(zi PP z7 a 1 c fun f g=>f=d∧g=c)∧vcall PP yi #[b,e] c fun a b=>R a b):vcall PP jO #[v0,v1,v2,v3] w R:=zo {ord:=[(1,[0,1,2,3,4,6,7,5,8,9],[(0,[1,4,5,8,9]),(1,[4,5,8,9]),(2,[3,4,5,8,9]),(3,[4,5,8,9]),(4,[5,8,9]),(6,[7,8,9]),(7,[8,9]),(5,[8,9]),(8,[9])])]} Tryz.func342 (by kernel_rfl) (by kernel_rfl) h
theorem KF (h:yo PP zT v0 w fun _ a=>yo PP z7 v2 a fun a b=>zi PP z7 a 2 b fun a b=>ze PP zd a b fun a b=>R a b):vcall PP jx #[v0,v1,v2,v3] w R:=zo {} Tryz.func343 (by kernel_rfl) (by kernel_rfl) h
theorem KH (h:yo PP zN v0 w fun _ a=>yo PP z7 v2 a fun a b=>je0 PP (.func kZ) [] [a] b fun a b=>vcall PP yr #[v1,a] b fun a b=>zq PP .lss zd true a (.int .i64 0) b fun b c=>vif b (R (.int .i64 (-1)) c) (zm PP zw v1 a c fun a b=>zi PP zA a 1 b fun a b=>ze PP zd a b fun a b=>R a b)):vcall PP jy #[v0,v1,v2,v3] w R:=zo {} Tryz.func344 (by kernel_rfl) (by kernel_rfl) h
theorem JF (h:yo PP zN v0 w fun _ a=>yo PP z7 v2 a fun a b=>zi PP z7 a 3 b fun a b=>ze PP zM a b fun a b=>XG PP kR v1 a false b fun a b=>R a b):vcall PP je #[v0,v1,v2,v3] w R:=zo {} Tryz.func345 (by kernel_rfl) (by kernel_rfl) h
theorem QV (h:yo PP zA v0 w fun a b=>zi PP zA a 0 b fun a b=>ze PP zM a b fun a b=>zi PP z7 v1 3 b fun b c=>ze PP zM b c fun b c=>zq PP .eql zM false a b c fun a b=>R a b):vcall PP kZ #[v0,v1] w R:=zo {} Tryz.func346 (by kernel_rfl) (by kernel_rfl) h
theorem W1 (h:yo PP zR v0 w fun _ a=>yo PP z7 v2 a fun a b=>y0 b fun b=>zi PP z7 a 2 b fun c d=>d=b∧ze PP zd c b fun c d=>d=b∧zq PP .geq zd true c (.int .i64 0) b fun c d=>d=b∧vif c (zi PP z7 a 1 b fun c d=>d=b∧ze PP zd c b fun c d=>d=b∧zi PP z7 a 2 b fun d e=>e=b∧ze PP zd d b fun d e=>e=b∧zq PP .geq zd false c d b fun c d=>d=b∧vif c (zi PP z7 a 1 b fun c d=>d=b∧ze PP zd c b fun c d=>d=b∧zm PP zj v3 (.int .i64 0) b fun d e=>e=b∧ze PP zd d b fun d e=>e=b∧zq PP .lss zd false c d b fun c d=>d=b∧zi PP z7 a 1 b fun d e=>e=b∧ze PP zd d b fun d e=>e=b∧zi PP z7 a 2 b fun e f=>f=b∧ze PP zd e b fun e f=>f=b∧zq PP .sub zd false d e b fun d e=>e=b∧zq PP .add zd true d (.int .i64 1) b fun d e=>e=b∧vcall PP yi #[c,d] b fun c d=>R c d) (zi PP z7 a 1 b fun c d=>d=b∧ze PP zd c b fun c d=>d=b∧zi PP z7 a 2 b fun d e=>e=b∧ze PP zd d b fun d e=>e=b∧zq PP .sub zd false c d b fun c d=>d=b∧zq PP .add zd true c (.int .i64 1) b fun c d=>d=b∧vcall PP yi #[(.bool false),c] b fun c d=>R c d)) (zi PP z7 a 1 b fun c d=>d=b∧ze PP zd c b fun c d=>d=b∧zi PP z7 a 2 b fun a d=>d=b∧ze PP zd a b fun a d=>d=b∧zq PP .sub zd false c a b fun a c=>c=b∧zq PP .add zd true a (.int .i64 1) b fun a c=>c=b∧vcall PP yi #[(.bool false),a] b fun a b=>R a b)):vcall PP jT #[v0,v1,v2,v3] w R:=zo {ord:=[(1,[0,1,2,3,4,5,6,7,8,9,10,11,12,13,14,15,16,17,18,19,20,21,22,23,24,25],[(0,[1,2,3,4,5,6,7,8,9,10,11,12,13,14,15,16,17,24,25]),(1,[2,3,4,5,6,7,8,9,10,11,12,13,14,15,16,17,24,25]),(2,[3,4,5,6,7,8,9,10,11,12,13,14,15,16,17,24,25]),(3,[4,5,6,7,8,9,10,11,12,13,14,15,16,17,24,25]),(4,[5,8,9,10,11,12,13,14,15,16,17,24,25]),(5,[8,9,10,11,12,13,14,15,16,17,24,25]),(6,[7,8,9,10,11,12,13,14,15,16,17,24,25]),(7,[8,9,10,11,12,13,14,15,16,17,24,25]),(8,[9,10,11,12,13,14,15,16,17,24,25]),(9,[10,11,12,13,14,15,16,17,24,25]),(10,[11,12,13,14,15,16,17,24,25]),(11,[12,16,17,24,25]),(12,[16,17,24,25]),(13,[14,15,16,17,24,25]),(14,[15,16,17,24,25]),(15,[16,17,24,25]),(16,[17,24,25]),(17,[24,25]),(18,[19,22,23,24,25]),(19,[22,23,24,25]),(20,[21,22,23,24,25]),(21,[22,23,24,25]),(22,[23,24,25]),(23,[24,25]),(24,[25])])]} Tryz.func347 (by kernel_rfl) (by kernel_rfl) h
theorem KL (h:yo PP zR v0 w fun _ a=>yo PP z7 v2 a fun a b=>yF (fun c=>y0 b fun b=>zm PP y6 v3 (.int .i64 0) b fun d e=>e=b∧ze PP zc d b fun e f=>f=b∧zi PP z7 a 1 b fun f g=>g=b∧ze PP zd f b fun g h=>h=b∧zi PP z7 a 2 b fun h i=>i=b∧ze PP zd h b fun i j=>j=b∧(vcall PP Yc #[e,g,i] b fun j k=>zk PP j 0 k fun l m=>m=k∧zk PP j 1 k fun m n=>n=k∧(zJ PP zc k fun k n=>(zk PP j 1 n fun o p=>o=m∧p=n)∧(zk PP j 0 n fun o p=>o=l∧p=n)∧(zl PP zc k l n fun _ l=>(zk PP j 1 l fun o p=>o=m∧p=l)∧c [k] l)∧True)∧True)∧(zJ PP zc b fun b j=>(ze PP zd h j fun o p=>o=i∧p=j)∧(zi PP z7 a 2 j fun o p=>o=h∧p=j)∧(ze PP zd f j fun o p=>o=g∧p=j)∧(zi PP z7 a 1 j fun o p=>o=f∧p=j)∧(ze PP zc d j fun o p=>o=e∧p=j)∧(zm PP y6 v3 (.int .i64 0) j fun o p=>o=d∧p=j)∧(vcall PP Yc #[e,g,i] j fun a d=>zk PP a 0 d fun e f=>f=d∧zk PP a 1 d fun f g=>g=d∧(zl PP zc b e d fun _ d=>(zk PP a 1 d fun o p=>o=f∧p=d)∧c [b] d)∧True)∧True)∧True) (fun a _ b=>zi PP zc (sl 0 a) 1 b fun a b=>ze PP zd a b fun a b=>R a b)):vcall PP jz #[v0,v1,v2,v3] w R:=zo {cuts:=[(8194,[9])],trees:=[(1,(.st 0 (.st 1 (.st 2 (.st 3 (.st 4 (.st 5 (.st 6 (.alt 7 (.st 8 (.st 9 (.st 10 (.alt 11 (.alt 12 (.st 13 .nil) .no) .no)))) (.alt 11 (.alt 7 (.st 8 (.st 9 (.st 10 (.alt 12 (.st 13 .nil) .no)))) .no) .no))))))))),[(0,[1,2,7,8,9,10,12,13]),(1,[2,7,8,9,10,12,13]),(2,[7,8,9,10,12,13]),(3,[4,7,8,9,10,12,13]),(4,[7,8,9,10,12,13]),(5,[6,7,8,9,10,12,13]),(6,[7,8,9,10,12,13]),(7,[8,9,10,12,13]),(8,[9,10,12,13]),(9,[12,13]),(10,[13]),(11,[12,13]),(12,[13])])]} Tryz.func348 (by kernel_rfl) (by kernel_rfl) h
theorem j40 (h:yo PP zc v0 w fun a b=>zJ PP zc b fun b c=>yF (fun d=>ze PP zc a c fun c e=>vcall PP xi #[c] e fun c e=>vun PP .not c e fun c e=>vif c (zC PP zc [] e fun c f=>zl PP zc b c f fun _ c=>vlv PP zc b c fun c f=>R (.tuple #[c,(.bool false)]) f) (zq PP .lss zd true v2 (.int .i64 0) e fun c e=>vif c (zC PP zc [] e fun c f=>zl PP zc b c f fun _ c=>vlv PP zc b c fun c f=>R (.tuple #[c,(.bool false)]) f) (zq PP .lss zd false v1 v2 e fun c e=>vif c (zC PP zc [] e fun c f=>zl PP zc b c f fun _ c=>vlv PP zc b c fun c f=>R (.tuple #[c,(.bool false)]) f) (zi PP zc a 0 e fun c e=>ze PP zd c e fun c e=>zq PP .geq zd false v1 c e fun c e=>vif c (zC PP zc [] e fun c f=>zl PP zc b c f fun _ c=>vlv PP zc b c fun c f=>R (.tuple #[c,(.bool false)]) f) (d [] e))))) (fun _ _ c=>zq PP .sub zd false v1 v2 c fun c d=>zq PP .add zd true c (.int .i64 1) d fun c d=>ze PP zc a d fun a d=>vcall PP zK #[a] d fun a d=>zq PP .shr yc false a v2 d fun a d=>vcall PP Zl #[a,c] d fun a d=>Yl PP yc zd a d fun a d=>zC PP zc [(0,c),(1,a)] d fun a c=>zl PP zc b a c fun _ a=>vlv PP zc b a fun a b=>R (.tuple #[a,(.bool true)]) b)):vcall PP Yc #[v0,v1,v2] w R:=zo {cuts:=[(8195,[])]} Tryz.func349 (by kernel_rfl) (by kernel_rfl) h
theorem WC (h:yo PP zY v0 w fun _ a=>yo PP z7 v2 a fun _ a=>y0 a fun a=>zm PP zj v3 (.int .i64 0) a fun b c=>c=a∧ze PP zd b a fun b c=>c=a∧zq PP .eql zd true b (.int .i64 0) a fun b c=>c=a∧vif b (zm PP zj v3 (.int .i64 1) a fun b c=>c=a∧ze PP zd b a fun b c=>c=a∧zm PP zj v3 (.int .i64 2) a fun c d=>d=a∧ze PP zd c a fun c d=>d=a∧zq PP .eql zd false b c a fun b c=>c=a∧zm PP zj v3 (.int .i64 1) a fun c d=>d=a∧ze PP zd c a fun c d=>d=a∧vcall PP yi #[b,c] a fun b c=>R b c) (zm PP zj v3 (.int .i64 1) a fun b c=>c=a∧ze PP zd b a fun b c=>c=a∧vcall PP yi #[(.bool false),b] a fun a b=>R a b)):vcall PP kB #[v0,v1,v2,v3] w R:=zo {ord:=[(1,[0,1,2,3,4,5,6,7,8,9,10,11,12,13,14,15,16,17],[(0,[1,2,3,4,5,6,7,8,9,10,11,12,16,17]),(1,[2,3,4,5,6,7,8,9,10,11,12,16,17]),(2,[3,4,5,6,7,8,9,10,11,12,16,17]),(3,[4,5,6,7,8,9,10,11,12,16,17]),(4,[5,6,7,8,9,10,11,12,16,17]),(5,[6,7,11,12,16,17]),(6,[7,11,12,16,17]),(7,[11,12,16,17]),(8,[9,10,11,12,16,17]),(9,[10,11,12,16,17]),(10,[11,12,16,17]),(11,[12,16,17]),(12,[16,17]),(13,[14,15,16,17]),(14,[15,16,17]),(15,[16,17]),(16,[17])])]} Tryz.func350 (by kernel_rfl) (by kernel_rfl) h
theorem VW (h:yo PP zY v0 w fun _ a=>yo PP z7 v2 a fun _ a=>zm PP y6 v3 (.int .i64 0) a fun a b=>zi PP zc a 1 b fun a b=>ze PP zd a b fun a b=>zq PP .eql zd true a (.int .i64 1) b fun a b=>vif a (zm PP y6 v3 (.int .i64 1) b fun a c=>zi PP zc a 1 c fun a c=>ze PP zd a c fun a c=>R a c) (zm PP y6 v3 (.int .i64 2) b fun a b=>zi PP zc a 1 b fun a b=>ze PP zd a b fun a b=>R a b)):vcall PP jQ #[v0,v1,v2,v3] w R:=zo {} Tryz.func351 (by kernel_rfl) (by kernel_rfl) h
theorem KQ (h:yo PP zF v0 w fun _ a=>yo PP z7 v2 a fun _ a=>vcall PP xJ #[v3,(.func (.func Z0) #[] #[])] a fun a b=>vun PP .not a b fun a b=>vcall PP yi #[a,(.int .i64 0)] b fun a b=>R a b):vcall PP jD #[v0,v1,v2,v3] w R:=zo {} Tryz.func352 (by kernel_rfl) (by kernel_rfl) h
theorem JM (h:yo PP zF v0 w fun a b=>yo PP z7 v2 b fun _ b=>zi PP zF a 1 b fun a b=>ze PP kS a b fun a b=>vcallv PP a #[v3] b fun a b=>vcall PP Yb #[a] b fun a b=>R a b):vcall PP jg #[v0,v1,v2,v3] w R:=zo {} Tryz.func353 (by kernel_rfl) (by kernel_rfl) h
theorem Zw (h:vcall PP qa #[v0,v1] w fun a b=>zq PP .geq zd true a (.int .i64 0) b fun a b=>R a b):vcall PP xJ #[v0,v1] w R:=zo {} Tryz.func354 (by kernel_rfl) (by kernel_rfl) h
theorem QY (h:zq PP .neq zd true v0 (.int .i64 0) w fun a b=>R a b):vcall PP Z0 #[v0] w R:=zo {} Tryz.func355 (by kernel_rfl) (by kernel_rfl) h
theorem Yy (h:vbi PP .len [zj] zd [v0] w fun a b=>yJ [(.int .i64 0)] b fun b c _ d=>zq PP .lss zd false (sl 0 c) a d fun a d=>vif a (zm PP zj v0 (sl 0 c) d fun a e=>ze PP zd a e fun a e=>vcallv PP v1 #[a] e fun a e=>vif a (R (sl 0 c) e) (zq PP .add zd true (sl 0 c) (.int .i64 1) e fun a c=>b [a] c)) (R (.int .i64 (-1)) d)):vcall PP qa #[v0,v1] w R:=zo {loops:=[(2,[8])]} Tryz.func356 (by kernel_rfl) (by kernel_rfl) h
theorem Wb (h:yo PP zV v0 w fun _ a=>yo PP z7 v2 a fun _ a=>y0 a fun a=>zm PP zj v3 (.int .i64 0) a fun b c=>c=a∧ze PP zd b a fun b c=>c=a∧zq PP .gtr zd true b (.int .i64 0) a fun b c=>c=a∧vif b (zm PP zj v3 (.int .i64 0) a fun b c=>c=a∧ze PP zd b a fun b c=>c=a∧zm PP zj v3 (.int .i64 1) a fun c d=>d=a∧ze PP zd c a fun c d=>d=a∧zq PP .eql zd false b c a fun b c=>c=a∧zm PP zj v3 (.int .i64 0) a fun c d=>d=a∧ze PP zd c a fun c d=>d=a∧vcall PP yi #[b,c] a fun b c=>R b c) (zm PP zj v3 (.int .i64 0) a fun b c=>c=a∧ze PP zd b a fun b c=>c=a∧vcall PP yi #[(.bool false),b] a fun a b=>R a b)):vcall PP jY #[v0,v1,v2,v3] w R:=zo {ord:=[(1,[0,1,2,3,4,5,6,7,8,9,10,11,12,13,14,15,16,17],[(0,[1,2,3,4,5,6,7,8,9,10,11,12,16,17]),(1,[2,3,4,5,6,7,8,9,10,11,12,16,17]),(2,[3,4,5,6,7,8,9,10,11,12,16,17]),(3,[4,5,6,7,8,9,10,11,12,16,17]),(4,[5,6,7,8,9,10,11,12,16,17]),(5,[6,7,11,12,16,17]),(6,[7,11,12,16,17]),(7,[11,12,16,17]),(8,[9,10,11,12,16,17]),(9,[10,11,12,16,17]),(10,[11,12,16,17]),(11,[12,16,17]),(12,[16,17]),(13,[14,15,16,17]),(14,[15,16,17]),(15,[16,17]),(16,[17])])]} Tryz.func357 (by kernel_rfl) (by kernel_rfl) h
theorem KT (h:yo PP zV v0 w fun _ a=>yo PP z7 v2 a fun a b=>yF (fun c=>y0 b fun b=>zi PP z7 a 0 b fun d e=>e=b∧ze PP zd d b fun e f=>f=b∧zm PP y6 v3 (.int .i64 0) b fun f g=>g=b∧ze PP zc f b fun g h=>h=b∧zm PP y6 v3 (.int .i64 1) b fun h i=>i=b∧ze PP zc h b fun i j=>j=b∧(vcall PP js #[e,g,i] b fun j k=>zk PP j 0 k fun l m=>m=k∧zk PP j 1 k fun m n=>n=k∧(zJ PP zc k fun k n=>(zk PP j 1 n fun o p=>o=m∧p=n)∧(zk PP j 0 n fun o p=>o=l∧p=n)∧(zl PP zc k l n fun _ l=>(zk PP j 1 l fun o p=>o=m∧p=l)∧c [k] l)∧True)∧True)∧(zJ PP zc b fun b j=>(ze PP zc h j fun o p=>o=i∧p=j)∧(zm PP y6 v3 (.int .i64 1) j fun o p=>o=h∧p=j)∧(ze PP zc f j fun o p=>o=g∧p=j)∧(zm PP y6 v3 (.int .i64 0) j fun o p=>o=f∧p=j)∧(ze PP zd d j fun o p=>o=e∧p=j)∧(zi PP z7 a 0 j fun o p=>o=d∧p=j)∧(vcall PP js #[e,g,i] j fun a d=>zk PP a 0 d fun e f=>f=d∧zk PP a 1 d fun f g=>g=d∧(zl PP zc b e d fun _ d=>(zk PP a 1 d fun o p=>o=f∧p=d)∧c [b] d)∧True)∧True)∧True) (fun a _ b=>zi PP zc (sl 0 a) 1 b fun a b=>ze PP zd a b fun a b=>R a b)):vcall PP jE #[v0,v1,v2,v3] w R:=zo {cuts:=[(8194,[9])],trees:=[(1,(.st 0 (.st 1 (.st 2 (.st 3 (.st 4 (.st 5 (.st 6 (.st 7 (.alt 8 (.st 9 (.st 10 (.st 11 (.alt 12 (.alt 13 (.st 14 .nil) .no) .no)))) (.alt 12 (.alt 8 (.st 9 (.st 10 (.st 11 (.alt 13 (.st 14 .nil) .no)))) .no) .no)))))))))),[(0,[1,8,9,10,11,13,14]),(1,[8,9,10,11,13,14]),(2,[3,4,8,9,10,11,13,14]),(3,[4,8,9,10,11,13,14]),(4,[8,9,10,11,13,14]),(5,[6,7,8,9,10,11,13,14]),(6,[7,8,9,10,11,13,14]),(7,[8,9,10,11,13,14]),(8,[9,10,11,13,14]),(9,[10,11,13,14]),(10,[13,14]),(11,[14]),(12,[13,14]),(13,[14])])]} Tryz.func358 (by kernel_rfl) (by kernel_rfl) h
end Go.Proofs.YtaekfnbnhjgboaaGreatDoor
end
section
namespace Go.Proofs.YtaekfnbnhjgboaaGreatDoor
open Go Go.Vc Go.Proofs
variable {w:World} {K:Value→World→Prop} {F:Nat→Prop}
theorem Y50 (x y:Bool):(Op.equal xB (.bool x) (.bool y)).run PP w= .ok (x==y) w:=by
 have hu:PP.underlying xB=some .bool:=by kernel_rfl
 have:∀d,(Op.equalIn (d+1) xB (.bool x) (.bool y)).run PP w= .ok (x==y) w:=fun d=>by
  rw[Op.equalIn,Sem.run_bind,run_underlying hu];rfl
 exact this 9999
@[push_cast] theorem vbin_neb (b:Bool) (x y:Bool):zq PP .neq xB b (.bool x) (.bool y) w K=K (.bool (x != y)) w:=
 yL rfl (by simp[binOp,Y50,Result.andThen,bne])
@[push_cast] theorem vbin_eqb (b:Bool) (x y:Bool):zq PP .eql xB b (.bool x) (.bool y) w K=K (.bool (x==y)) w:=
 yL rfl (by simp[binOp,Y50,Result.andThen])
theorem IndexFunc_Lint_int {v f:Value} {vs:List Value} {p:Nat→Bool} (e:Vals F w v vs) (o:∀i,i<vs.length→FnB PP w f #[vs.getD i undef] (p i))
  (k:∀w',Ext w w'→K (.int .i64 (idxI vs.length p)) w'):vcall PP qa #[v,f] w K:=by
 apply Yy
 simp(disch:=first|(simp only[push_cast];done)|omega) only[push_cast,e.len]
 have hlen:vs.length≤9223372036854775807:=by obtain⟨_,_,_,m,x,_⟩:=e.shape;simp at m;omega
 refine vloop_up vs.length (fun i u w'=>u=[.int .i64 i]∧Ext w w'∧∀j,j<i→p j=false) ⟨rfl,Same.refl _ _,by omega⟩ ?_
 rintro i _ g l C hi ⟨rfl,he,d⟩ n
 simp only[push_cast]
 refine zh (fun s=>?_) (fun q=>?_)
 ·have b:=e.ext he
  simp(disch:=first|(simp only[push_cast];done)|omega) only[push_cast,b.iaddr,b.load]
  refine o i (by omega) l _ he fun t a=>y3 (fun c=>?_) (fun c=>?_)
  ·have:=k t (he.trans a)
   rwa[idxI_some (by omega) c d] at this
  ·simp(disch:=omega) only[push_cast,zE]
   exact n (by omega) _ _ ⟨by simp,he.trans a,fun j r=>by
    by_cases h:j=i
    ·subst h;exact c
    ·exact d j (by omega)⟩
 ·have:=k l he
  rwa[yo0 (fun j r=>d j (by omega))] at this
theorem K6 {v f:Value} {vs:List Value} {p:Nat→Bool} (c:Vals F w v vs) (b:∀i,i<vs.length→FnB PP w f #[vs.getD i undef] (p i))
  (a:∀w',Ext w w'→K (.bool ((List.range vs.length).any p)) w'):vcall PP xJ #[v,f] w K:=by
 apply Zw
 refine IndexFunc_Lint_int c b fun w' he=>?_
 simp only[push_cast,VO]
 exact a w' he
end Go.Proofs.YtaekfnbnhjgboaaGreatDoor
end
section
namespace Go.Proofs.YtaekfnbnhjgboaaGreatDoor
open Go Go.Vc Go.Proofs
variable {w:World} {K:Value→World→Prop} {F F' D G:Nat→Prop}
theorem Clone_Lint {v:Value} {xs:List Int} (d:Ints F w v xs) (i:xs.length*8≤140737488355328) (j:∀w' v',Ext w w'→OwnI PP zj w' v' xs→(∀x,v'.ownBlock=some x→w.heap.size≤x)→K v' w'):
  vcall PP qG #[v] w K:=by
 apply QC
 obtain⟨a,c,rfl,m,n,f⟩:=d.shape
 simp only[List.length_map] at d m⊢
 rw[Uw Q20]
 refine y3 (fun h=>?_) (fun h=>?_)
 ·have:xs=[]:=by
   refine Decidable.byContradiction fun g=>?_
   obtain⟨b,o,e,_⟩:=f (by simpa using g)
   subst e;cases h
  subst this
  exact j w _ (Same.refl _ _) OwnI.nil fun x d=>by cases d
 ·refine qC ZP km fun b s y he z l=>?_
  have q:=he.size
  have k:OwnI PP zj s (.slice (some ⟨b,0,none⟩) 0 0) []:=Blk.own1 (P:=PP) (t:=zj) (cs:=[]) (by rw[UL];exact l) (Nat.zero_le _) rfl rfl (by omega)
  refine k.app (ys:=xs) Zu (d.ext he) (by simp only[List.length_nil];omega) (by simpa using i) fun v' u r hs p=>?_
  refine j u v' (Ext.then he hs fun x d=>?_) r fun x d=>?_
  ·have e:b=x:=Option.some.inj d;omega
  ·rcases p x d with e|e
   ·have e:b=x:=Option.some.inj e;omega
   ·omega
end Go.Proofs.YtaekfnbnhjgboaaGreatDoor
end
section
namespace Go.M
structure Gt where
 x:Bool
 a:Int
 b:Int
deriving DecidableEq
abbrev Gs:=List Gt
def absI (a:Int):Int:=if a<0 then-a else a
def turnI (c:Bool) (a:Int):Int:=if c then-a else a
def putG (n:Nat) (gs:Gs) (g:Gt):Gs×Int:=
 if g∈gs then(gs,2+n+gs.idxOf g) else if 600≤gs.length then(gs,0) else(gs++[g],2+n+gs.length)
def gateA (a b:Int):Gt:=if absI b<absI a then⟨false,b,a⟩ else⟨false,a,b⟩
def gateX (a b:Int):Gt:=if absI b<absI a then⟨true,absI b,absI a⟩ else⟨true,absI a,absI b⟩
def andG (n:Nat) (gs:Gs) (a b:Int):Gs×Int:=
 if a= -1∨b= -1 then(gs,-1) else if a=1 then(gs,b) else if b=1 then(gs,a) else if a=b then(gs,a) else if a= -b then(gs,-1) else putG n gs (gateA a b)
def xorG (n:Nat) (gs:Gs) (a b:Int):Gs×Int:=
 if absI a=1 then(gs,turnI (decide (a=1)) b) else if absI b=1 then(gs,turnI (decide (b=1)) a) else if a=b then(gs,-1) else if a= -b then(gs,1)
 else((putG n gs (gateX a b)).1,turnI (decide (a<0) != decide (b<0)) (putG n gs (gateX a b)).2)
inductive Bd (α:Type) where
 |ret (a:α)
 |and (x y:Int) (k:Int→Bd α)
 |xor (x y:Int) (k:Int→Bd α)
namespace Bd
def bind {α β:Type}:Bd α→(α→Bd β)→Bd β
 |ret a,f=>f a
 |and x y k,f=>and x y fun v=>bind (k v) f
 |xor x y k,f=>xor x y fun v=>bind (k v) f
def map {α β:Type} (f:α→β) (p:Bd α):Bd β:=p.bind fun a=>ret (f a)
def Reach {α:Type}:Bd α→α→Prop
 |ret a,b=>b=a
 |and _ _ k,b=> ∃v,Reach (k v) b
 |xor _ _ k,b=> ∃v,Reach (k v) b
def run {α:Type} (n:Nat):Bd α→Gs→Option (Gs×α)
 |ret a,gs=>some (gs,a)
 |and x y k,gs=>if(andG n gs x y).2=0 then none else run n (k (andG n gs x y).2) (andG n gs x y).1
 |xor x y k,gs=>if(xorG n gs x y).2=0 then none else run n (k (xorG n gs x y).2) (xorG n gs x y).1
def Out {α:Type} (n:Nat) (p:Bd α) (st st':Option Gs) (a:α):Prop:=
 match st with
 |some gs=>(∃gs',p.run n gs=some (gs',a)∧st'=some gs')∨(p.run n gs=none∧st'=none∧p.Reach a)
 |none=>st'=none∧p.Reach a
theorem bind_assoc {α β γ:Type} (p:Bd α) (f:α→Bd β) (g:β→Bd γ):(p.bind f).bind g=p.bind fun a=>(f a).bind g:=by
 induction p with
 |ret a=>rfl
 |and x y k b=>simp only[bind];congr 1;funext v;exact b v
 |xor x y k b=>simp only[bind];congr 1;funext v;exact b v
theorem run_bind {α β:Type} {n:Nat} (p:Bd α) (f:α→Bd β) (gs:Gs):(p.bind f).run n gs=(p.run n gs).bind fun r=>(f r.2).run n r.1:=by
 induction p generalizing gs with
 |ret a=>rfl
 |and x y k b=>
  simp only[bind,run];split
  ·rfl
  ·exact b _ _
 |xor x y k b=>
  simp only[bind,run];split
  ·rfl
  ·exact b _ _
theorem reach_bind {α β:Type} {p:Bd α} {f:α→Bd β} {a:α} {b:β} (h:p.Reach a) (g:(f a).Reach b):(p.bind f).Reach b:=by
 induction p with
 |ret c=>cases h;exact g
 |and x y k e=>obtain⟨v,d⟩:=h;exact⟨v,e v d⟩
 |xor x y k e=>obtain⟨v,d⟩:=h;exact⟨v,e v d⟩
theorem reach_of_run {α:Type} {n:Nat} {p:Bd α} {gs gs':Gs} {a:α} (h:p.run n gs=some (gs',a)):p.Reach a:=by
 induction p generalizing gs with
 |ret c=>simp only[run,Option.some.injEq,Prod.mk.injEq] at h;exact h.2.symm
 |and x y k b=>
  simp only[run] at h;split at h
  ·cases h
  ·exact⟨_,b _ h⟩
 |xor x y k b=>
  simp only[run] at h;split at h
  ·cases h
  ·exact⟨_,b _ h⟩
theorem Out.reach {α:Type} {n:Nat} {p:Bd α} {st st':Option Gs} {a:α} (h:Out n p st st' a):p.Reach a:=by
 cases st with
 |none=>exact h.2
 |some gs=>
  rcases h with⟨gs',h,_⟩|⟨_,_,h⟩
  ·exact reach_of_run h
  ·exact h
theorem Out.ret {α:Type} {n:Nat} (a:α) (st:Option Gs):Out n (.ret a) st st a:=by
 cases st with
 |none=>exact⟨rfl,rfl⟩
 |some gs=>exact .inl ⟨gs,rfl,rfl⟩
theorem Out.bind {α β:Type} {n:Nat} {p:Bd α} {f:α→Bd β} {st st' d:Option Gs} {a:α} {b:β} (h:Out n p st st' a) (c:Out n (f a) st' d b):Out n (p.bind f) st d b:=by
 cases st with
 |none=>
  obtain⟨rfl,e⟩:=h
  exact⟨c.1,reach_bind e c.2⟩
 |some gs=>
  rcases h with⟨gs',e,rfl⟩|⟨e,rfl,i⟩
  ·rcases c with⟨g,c,rfl⟩|⟨c,rfl,i⟩
   ·exact .inl ⟨g,by rw[run_bind,e];exact c,rfl⟩
   ·exact .inr ⟨by rw[run_bind,e];exact c,rfl,reach_bind (reach_of_run e) i⟩
  ·exact .inr ⟨by rw[run_bind,e];rfl,c.1,reach_bind i c.2⟩
theorem Out.map {α β:Type} {n:Nat} {p:Bd α} (f:α→β) {st st':Option Gs} {a:α} (h:Out n p st st' a):Out n (p.map f) st st' (f a):=h.bind (Out.ret _ _)
end Bd
theorem ju0 {gs F:Gs} {g:Gt} (h:gs<+:F) (hm:g∈gs):F.idxOf g=gs.idxOf g:=by
 obtain⟨t,rfl⟩:=h
 rw[List.idxOf_append,if_pos hm]
theorem Y80 {n:Nat} (gs:Gs) (g:Gt):gs<+:(putG n gs g).1:=by
 unfold putG
 split
 ·exact List.prefix_refl _
 ·split
  ·exact List.prefix_refl _
  ·exact List.prefix_append _ _
theorem jk0 {n:Nat} {gs F:Gs} {g:Gt} (b:(putG n gs g).2≠0) (h:(putG n gs g).1<+:F):putG n F g=(F,(putG n gs g).2):=by
 unfold putG at b h⊢
 by_cases hm:g∈gs
 ·rw[if_pos hm] at h⊢
  rw[if_pos (h.subset hm),ju0 h hm]
 ·rw[if_neg hm] at b h⊢
  by_cases c:600≤gs.length
  ·rw[if_pos c] at b;exact absurd rfl b
  ·rw[if_neg c] at h⊢
   have a:g∈gs++[g]:=by simp
   rw[if_pos (h.subset a),ju0 h a,List.idxOf_append,if_neg hm]
   simp
theorem YI0 {n:Nat} (gs:Gs) (a b:Int):gs<+:(andG n gs a b).1:=by
 unfold andG
 repeat' split
 all_goals first|exact List.prefix_refl _|exact Y80 _ _
theorem ZI0 {n:Nat} (gs:Gs) (a b:Int):gs<+:(xorG n gs a b).1:=by
 unfold xorG
 repeat' split
 all_goals first|exact List.prefix_refl _|exact Y80 _ _
theorem YJ0 {n:Nat} {gs F:Gs} {a b:Int} (c:(andG n gs a b).2≠0) (h:(andG n gs a b).1<+:F):andG n F a b=(F,(andG n gs a b).2):=by
 unfold andG at c h⊢
 repeat' split at c
 all_goals simp_all
 exact jk0 c h
theorem turn_zero {c:Bool} {m:Int}:turnI c m=0↔m=0:=by cases c<;>simp[turnI]
theorem ZJ0 {n:Nat} {gs F:Gs} {a b:Int} (c:(xorG n gs a b).2≠0) (h:(xorG n gs a b).1<+:F):xorG n F a b=(F,(xorG n gs a b).2):=by
 unfold xorG at c h⊢
 repeat' split at c
 all_goals simp_all
 have:=jk0 (n:=n) (g:=gateX a b) (fun e=>c (turn_zero.2 e)) h
 rw[this]
 exact⟨rfl,rfl⟩
namespace Bd
theorem run_pre {α:Type} {n:Nat} {p:Bd α} {gs gs':Gs} {a:α} (h:p.run n gs=some (gs',a)):gs<+:gs':=by
 induction p generalizing gs with
 |ret c=>simp only[run,Option.some.injEq,Prod.mk.injEq] at h;rw[h.1];exact List.prefix_refl _
 |and x y k b=>
  simp only[run] at h;split at h
  ·cases h
  ·exact(YI0 gs x y).trans (b _ h)
 |xor x y k b=>
  simp only[run] at h;split at h
  ·cases h
  ·exact(ZI0 gs x y).trans (b _ h)
theorem run_again {α:Type} {n:Nat} {p:Bd α} {gs gs' F:Gs} {a:α} (h:p.run n gs=some (gs',a)) (hF:gs'<+:F):p.run n F=some (F,a):=by
 induction p generalizing gs with
 |ret c=>simp only[run,Option.some.injEq,Prod.mk.injEq] at h⊢;exact⟨trivial,h.2⟩
 |and x y k e=>
  simp only[run] at h⊢
  split at h
  ·cases h
  ·next b=>
   have d:=(run_pre h).trans hF
   rw[YJ0 b d]
   simp only
   rw[if_neg b]
   exact e _ h
 |xor x y k e=>
  simp only[run] at h⊢
  split at h
  ·cases h
  ·next b=>
   have d:=(run_pre h).trans hF
   rw[ZJ0 b d]
   simp only
   rw[if_neg b]
   exact e _ h
end Bd
def litV (vals:List Bool) (m:Int):Bool:=if 0<m then vals.getD (m-1).toNat false else !vals.getD (-m-1).toNat false
def has (k:Nat) (m:Int):Prop:=m≠0∧ -(k:Int)≤m∧m≤k
def gateV (vals:List Bool) (g:Gt):Bool:=if g.x then litV vals g.a != litV vals g.b else litV vals g.a&&litV vals g.b
def valsG:List Bool→Gs→List Bool
 |vals,[]=>vals
 |vals,g::gs=>valsG (vals++[gateV vals g]) gs
def xY0 (n k:Nat) (g:Gt):Prop:=2≤absI g.a∧absI g.a<absI g.b∧absI g.b≤1+n+k∧(g.x=true→0<g.a∧0<g.b)
structure NetG (n:Nat) (gs:Gs):Prop where
 few:gs.length≤600
 gate:∀k,(h:k<gs.length)→xY0 n k gs[k]
 once:gs.Nodup
theorem lit_neg (vals:List Bool) {m:Int} (h:m≠0):litV vals (-m)= !litV vals m:=by
 unfold litV
 by_cases a:0<m
 ·rw[if_neg (by omega),if_pos a,Int.neg_neg]
 ·rw[if_pos (by omega),if_neg a,Bool.not_not]
theorem lit_pre {vals more:List Bool} {m:Int} (h:has vals.length m):litV (vals++more) m=litV vals m:=by
 unfold litV
 obtain⟨a,b,c⟩:=h
 split
 ·rw[List.getD_eq_getElem?_getD,List.getElem?_append_left (by omega),←List.getD_eq_getElem?_getD]
 ·rw[List.getD_eq_getElem?_getD,List.getElem?_append_left (by omega),←List.getD_eq_getElem?_getD]
theorem valsG_len:∀(gs:Gs) (vals:List Bool),(valsG vals gs).length=vals.length+gs.length
 |[],vals=>rfl
 |g::gs,vals=>by simp only[valsG,valsG_len gs,List.length_append,List.length_cons,List.length_nil];omega
theorem valsG_pre:∀(gs:Gs) (vals:List Bool),vals<+:valsG vals gs
 |[],vals=>List.prefix_refl _
 |g::gs,vals=>(List.prefix_append _ _).trans (valsG_pre gs _)
theorem valsG_app:∀(gs hs:Gs) (vals:List Bool),valsG vals (gs++hs)=valsG (valsG vals gs) hs
 |[],hs,vals=>rfl
 |g::gs,hs,vals=>valsG_app gs hs _
theorem abs_pos {a:Int} (h:a≠0):0<absI a:=by unfold absI;split<;>omega
theorem has_abs {k:Nat} {m:Int}:has k m↔1≤absI m∧absI m≤k:=by
 unfold has absI
 split<;>omega
theorem has_neg {k:Nat} {m:Int} (h:has k m):has k (-m):=⟨by have:=h.1;omega,by have:=h.2.2;omega,by have:=h.2.1;omega⟩
theorem has_mono {k l:Nat} {m:Int} (h:has k m) (a:k≤l):has l m:=⟨h.1,by have:=h.2.1;omega,by have:=h.2.2;omega⟩
theorem q70 {k:Nat} {m:Int} {c:Bool} (h:has k m):has k (turnI c m):=by cases c;exact h;exact has_neg h
theorem kR0 (vals:List Bool) {m:Int} (h:m≠0) (c:Bool):litV vals (turnI c m)=(c != litV vals m):=by
 cases c
 ·show litV vals m=_;simp
 ·show litV vals (-m)=_;rw[lit_neg vals h];simp
theorem valsG_at {n:Nat} {F:Gs} {ins:List Bool} (l:ins.length=n) {k:Nat} (j:k<F.length) (hF:xY0 n k F[k]):(valsG (true::ins) F).getD (1+n+k) false=gateV (valsG (true::ins) F) F[k]:=by
 have e:F=F.take k++F[k]::F.drop (k+1):=by rw[←List.drop_eq_getElem_cons j,List.take_append_drop]
 have c:=hF
 clear hF
 generalize s:F[k]=g at e c⊢
 have d:(valsG (true::ins) (F.take k)).length=1+n+k:=by rw[valsG_len,List.length_cons,List.length_take,l];omega
 rw[e,valsG_app]
 show(valsG (valsG (true::ins) (F.take k)++[gateV (valsG (true::ins) (F.take k)) g]) (F.drop (k+1))).getD (1+n+k) false=gateV (valsG (valsG (true::ins) (F.take k)++[gateV (valsG (true::ins) (F.take k)) g]) (F.drop (k+1))) g
 generalize valsG (true::ins) (F.take k)=vs at d⊢
 obtain⟨t,m⟩:=valsG_pre (F.drop (k+1)) (vs++[gateV vs g])
 rw[←m,List.append_assoc]
 obtain⟨o,p,q,r⟩:=c
 have h:has vs.length g.a:=has_abs.2 ⟨by omega,by omega⟩
 have i:has vs.length g.b:=has_abs.2 ⟨by omega,by omega⟩
 have f:gateV (vs++([gateV vs g]++t)) g=gateV vs g:=by
  unfold gateV
  rw[lit_pre h,lit_pre i]
 rw[f,List.getD_eq_getElem?_getD,List.getElem?_append_right (by omega),d,Nat.sub_self]
 rfl
theorem put_step {n:Nat} {gs:Gs} {g:Gt} (i:NetG n gs) (c:xY0 n gs.length g) (f:(putG n gs g).2≠0):
  NetG n (putG n gs g).1∧has (1+n+(putG n gs g).1.length) (putG n gs g).2∧∀{F:Gs} {ins:List Bool},ins.length=n→(putG n gs g).1<+:F→litV (valsG (true::ins) F) (putG n gs g).2=gateV (valsG (true::ins) F) g:=by
 have key:∀{F:Gs} {ins:List Bool} {k:Nat},ins.length=n→(d:k<F.length)→F[k]=g→xY0 n k g→litV (valsG (true::ins) F) (2+n+k)=gateV (valsG (true::ins) F) g:=fun{F ins k} h d he c=>by
  have:=valsG_at h d (he▸c)
  rw[he] at this
  rw[←this]
  unfold litV
  rw[if_pos (by omega),show((2+n+k:Int)-1).toNat=1+n+k by omega]
 unfold putG at f⊢
 by_cases hm:g∈gs
 ·rw[if_pos hm] at f⊢
  have hi:gs.idxOf g<gs.length:=List.idxOf_lt_length_iff.2 hm
  refine⟨i,⟨by show(2+n+_:Int)≠0;omega,by show _≤(2+n+_:Int);omega,by show(2+n+_:Int)≤((1+n+gs.length:Nat):Int);omega⟩,fun{F ins} h hF=>?_⟩
  have d:gs.idxOf g<F.length:=Nat.lt_of_lt_of_le hi hF.length_le
  have he:F[gs.idxOf g]=g:=by
   obtain⟨t,rfl⟩:=hF
   rw[List.getElem_append_left hi]
   exact List.getElem_idxOf hi
  refine key h d he ?_
  have:=i.gate _ hi
  rwa[List.getElem_idxOf hi] at this
 ·rw[if_neg hm] at f⊢
  by_cases l:600≤gs.length
  ·rw[if_pos l] at f;exact absurd rfl f
  ·rw[if_neg l] at f⊢
   refine⟨⟨by rw[List.length_append];simp;omega,fun k d=>?_,?_⟩,?_,fun{F ins} h hF=>?_⟩
   ·rw[List.length_append,List.length_singleton] at d
    by_cases e:k<gs.length
    ·rw[List.getElem_append_left e];exact i.gate k e
    ·have:k=gs.length:=by omega
     subst this
     rw[List.getElem_append_right (Nat.le_refl _)]
     simpa using c
   ·rw[List.nodup_append]
    exact⟨i.once,by simp,fun a m b j e=>hm (by simp at j;rw[←j,←e];exact m)⟩
   ·rw[List.length_append,List.length_singleton];exact⟨by omega,by omega,by omega⟩
   ·obtain⟨t,rfl⟩:=hF
    have d:gs.length<(gs++[g]++t).length:=by rw[List.length_append,List.length_append,List.length_singleton];omega
    refine key h d ?_ c
    rw[List.getElem_append_left (by rw[List.length_append,List.length_singleton];omega),List.getElem_append_right (Nat.le_refl _)]
    simp
theorem YD0 (a b:Bool):(a != b)=(b != a):=by cases a<;>cases b<;>rfl
theorem yk0 (ins:List Bool) (F:Gs):litV (valsG (true::ins) F) 1=true:=by
 obtain⟨t,a⟩:=valsG_pre F (true::ins)
 rw[←a];rfl
theorem Kd (ins:List Bool) (F:Gs):litV (valsG (true::ins) F) (-1)=false:=by
 rw[lit_neg _ (by decide),yk0];rfl
theorem abs_eq {a b:Int} (h:absI a=absI b):a=b∨a= -b:=by unfold absI at h;split at h<;>split at h<;>omega
theorem Yk0 (vals:List Bool) {a:Int} (h:a≠0):litV vals a=(decide (a<0) != litV vals (absI a)):=by
 unfold absI
 by_cases b:a<0
 ·rw[if_pos b,lit_neg _ h,decide_eq_true b];simp
 ·rw[if_neg b,decide_eq_false b];simp
theorem and_step {n:Nat} {gs:Gs} {a b:Int} (d:NetG n gs) (i:has (1+n+gs.length) a) (j:has (1+n+gs.length) b) (c:(andG n gs a b).2≠0):
  NetG n (andG n gs a b).1∧has (1+n+(andG n gs a b).1.length) (andG n gs a b).2∧
  ∀{F:Gs} {ins:List Bool},ins.length=n→(andG n gs a b).1<+:F→litV (valsG (true::ins) F) (andG n gs a b).2=(litV (valsG (true::ins) F) a&&litV (valsG (true::ins) F) b):=by
 have o:has (1+n+gs.length) (-1):=⟨by decide,by omega,by omega⟩
 unfold andG at c⊢
 by_cases k:a= -1∨b= -1
 ·rw[if_pos k]
  refine⟨d,o,fun{F ins} _ _=>?_⟩
  rw[Kd]
  rcases k with rfl|rfl
  ·rw[Kd];rfl
  ·rw[Kd,Bool.and_false]
 rw[if_neg k] at c⊢
 by_cases l:a=1
 ·rw[if_pos l]
  subst l
  exact⟨d,j,fun{F ins} _ _=>by rw[yk0,Bool.true_and]⟩
 rw[if_neg l] at c⊢
 by_cases c3:b=1
 ·rw[if_pos c3]
  subst c3
  exact⟨d,i,fun{F ins} _ _=>by rw[yk0,Bool.and_true]⟩
 rw[if_neg c3] at c⊢
 by_cases f:a=b
 ·rw[if_pos f]
  subst f
  exact⟨d,i,fun{F ins} _ _=>by rw[Bool.and_self]⟩
 rw[if_neg f] at c⊢
 by_cases g:a= -b
 ·rw[if_pos g]
  refine⟨d,o,fun{F ins} _ _=>?_⟩
  rw[g,lit_neg _ j.1,Kd,Bool.not_and_self]
 rw[if_neg g] at c⊢
 have a2:2≤absI a:=by have:=abs_pos i.1;unfold absI at*;split at this<;>omega
 have b2:2≤absI b:=by have:=abs_pos j.1;unfold absI at*;split at this<;>omega
 have s:absI a≠absI b:=fun e=>by rcases abs_eq e with h|h;exact f h;exact g h
 have p:=(has_abs.1 i).2
 have q:=(has_abs.1 j).2
 have m:xY0 n gs.length (gateA a b):=by
  unfold gateA
  split
  ·exact⟨b2,by omega,by show absI a≤_;omega,fun h=>by cases h⟩
  ·exact⟨a2,by show absI a<absI b;omega,by show absI b≤_;omega,fun h=>by cases h⟩
 obtain⟨p1,p2,t⟩:=put_step d m c
 refine⟨p1,p2,fun{F ins} r hF=>?_⟩
 rw[t r hF]
 unfold gateA gateV
 split
 ·exact Bool.and_comm _ _
 ·rfl
theorem xor_step {n:Nat} {gs:Gs} {a b:Int} (i:NetG n gs) (g:has (1+n+gs.length) a) (d:has (1+n+gs.length) b) (c:(xorG n gs a b).2≠0):
  NetG n (xorG n gs a b).1∧has (1+n+(xorG n gs a b).1.length) (xorG n gs a b).2∧
  ∀{F:Gs} {ins:List Bool},ins.length=n→(xorG n gs a b).1<+:F→litV (valsG (true::ins) F) (xorG n gs a b).2=(litV (valsG (true::ins) F) a != litV (valsG (true::ins) F) b):=by
 have one:∀{x y:Int} {F:Gs} {ins:List Bool},absI x=1→y≠0→litV (valsG (true::ins) F) (turnI (decide (x=1)) y)=(litV (valsG (true::ins) F) x != litV (valsG (true::ins) F) y):=fun{x y F ins} w z=>by
  rw[kR0 _ z]
  rcases abs_eq (b:=1) w with rfl|rfl
  ·rw[yk0];rfl
  ·rw[Kd];rfl
 unfold xorG at c⊢
 by_cases k:absI a=1
 ·rw[if_pos k]
  exact⟨i,q70 d,fun{F ins} _ _=>one k d.1⟩
 rw[if_neg k] at c⊢
 by_cases l:absI b=1
 ·rw[if_pos l]
  exact⟨i,q70 g,fun{F ins} _ _=>by show litV _ (turnI (decide (b=1)) a)=_;rw[one l g.1];exact YD0 _ _⟩
 rw[if_neg l] at c⊢
 by_cases c3:a=b
 ·rw[if_pos c3]
  subst c3
  exact⟨i,⟨by show(-1:Int)≠0;decide,by show(-(_:Int))≤ -1;omega,by show(-1:Int)≤_;omega⟩,fun{F ins} _ _=>by show litV _ (-1)=_;rw[Kd];simp⟩
 rw[if_neg c3] at c⊢
 by_cases j:a= -b
 ·rw[if_pos j]
  exact⟨i,⟨by show(1:Int)≠0;decide,by show(-(_:Int))≤1;omega,by show(1:Int)≤_;omega⟩,fun{F ins} _ _=>by show litV _ 1=_;rw[j,lit_neg _ d.1,yk0];simp⟩
 rw[if_neg j] at c⊢
 have a2:2≤absI a:=by have:=abs_pos g.1;omega
 have b2:2≤absI b:=by have:=abs_pos d.1;omega
 have v:absI a≠absI b:=fun e=>by rcases abs_eq e with h|h;exact c3 h;exact j h
 have o:=(has_abs.1 g).2
 have t:=(has_abs.1 d).2
 have aa:∀x:Int,2≤absI x→absI (absI x)=absI x:=fun x h=>by
  generalize absI x=y at h
  unfold absI;rw[if_neg (by omega)]
 have m:xY0 n gs.length (gateX a b):=by
  unfold gateX
  split
  ·exact⟨by show 2≤absI (absI b);rw[aa b b2];exact b2,by show absI (absI b)<absI (absI a);rw[aa a a2,aa b b2];omega,by show absI (absI a)≤_;rw[aa a a2];omega,fun _=>⟨by show 0<absI b;omega,by show 0<absI a;omega⟩⟩
  ·exact⟨by show 2≤absI (absI a);rw[aa a a2];exact a2,by show absI (absI a)<absI (absI b);rw[aa a a2,aa b b2];omega,by show absI (absI b)≤_;rw[aa b b2];omega,fun _=>⟨by show 0<absI a;omega,by show 0<absI b;omega⟩⟩
 have f:(putG n gs (gateX a b)).2≠0:=fun e=>c (turn_zero.2 e)
 obtain⟨p1,p2,A⟩:=put_step i m f
 refine⟨p1,q70 p2,fun{F ins} u hF=>?_⟩
 show litV _ (turnI _ (putG n gs (gateX a b)).2)=_
 rw[kR0 _ f,A u hF,Yk0 _ g.1,Yk0 _ d.1]
 have e:gateV (valsG (true::ins) F) (gateX a b)=(litV (valsG (true::ins) F) (absI a) != litV (valsG (true::ins) F) (absI b)):=by
  unfold gateX gateV
  split
  ·exact YD0 _ _
  ·rfl
 rw[e]
 generalize litV (valsG (true::ins) F) (absI a)=p
 generalize litV (valsG (true::ins) F) (absI b)=q
 generalize decide (a<0)=r
 generalize decide (b<0)=s
 cases p<;>cases q<;>cases r<;>cases s<;>rfl
def Says {α:Type} (ρ:Int→Bool):Nat→Bd α→(Nat→α→Prop)→Prop
 |k,.ret a,Q=>Q k a
 |k,.and x y c,Q=>has k x∧has k y∧∀k' v,k≤k'→has k' v→ρ v=(ρ x&&ρ y)→Says ρ k' (c v) Q
 |k,.xor x y c,Q=>has k x∧has k y∧∀k' v,k≤k'→has k' v→ρ v=(ρ x != ρ y)→Says ρ k' (c v) Q
theorem Says.bind {α β:Type} {ρ:Int→Bool} {p:Bd α} {f:α→Bd β} {Q:Nat→β→Prop}:∀{k:Nat},Says ρ k p (fun b a=>Says ρ b (f a) Q)→Says ρ k (p.bind f) Q:=by
 induction p with
 |ret a=>intro k h;exact h
 |and x y c l=>intro k ⟨d,e,h⟩;exact⟨d,e,fun b v g j i=>l v (h b v g j i)⟩
 |xor x y c l=>intro k ⟨d,e,h⟩;exact⟨d,e,fun b v g j i=>l v (h b v g j i)⟩
theorem Says.sound {α:Type} {n:Nat} {ins:List Bool} (k:ins.length=n) {F:Gs} {p:Bd α} {Q:Nat→α→Prop}:∀{gs gs':Gs} {a:α},NetG n gs→p.run n gs=some (gs',a)→gs'<+:F→Says (litV (valsG (true::ins) F)) (1+n+gs.length) p Q→NetG n gs'∧Q (1+n+gs'.length) a:=by
 induction p with
 |ret c=>
  intro gs gs' a b h hF hs
  simp only[Bd.run,Option.some.injEq,Prod.mk.injEq] at h
  obtain⟨rfl,rfl⟩:=h
  exact⟨b,hs⟩
 |and x y c i=>
  intro gs gs' a b h hF ⟨e,f,hs⟩
  simp only[Bd.run] at h
  split at h
  ·cases h
  ·next d=>
   obtain⟨p1,p2,j⟩:=and_step b e f d
   have g:=Bd.run_pre h
   refine i _ p1 h hF (hs _ _ ?_ p2 (j k (g.trans hF)))
   have:=(YI0 (n:=n) gs x y).length_le;omega
 |xor x y c i=>
  intro gs gs' a b h hF ⟨e,f,hs⟩
  simp only[Bd.run] at h
  split at h
  ·cases h
  ·next d=>
   obtain⟨p1,p2,j⟩:=xor_step b e f d
   have g:=Bd.run_pre h
   refine i _ p1 h hF (hs _ _ ?_ p2 (j k (g.trans hF)))
   have:=(ZI0 (n:=n) gs x y).length_le;omega
end Go.M
end
section
namespace Go.M
def orB (x y:Int):Bd Int:= .and (-x) (-y) fun v=> .ret (-v)
def muxB (c x y:Int):Bd Int:= .and c x fun p=> .and (-c) y fun q=>orB p q
def sumB:List Int→List Int→Int→Bd (List Int)
 |x::xs,y::ys,c=> .xor x y fun h=> .xor h c fun s=> .and x y fun p=> .and h c fun q=>(orB p q).bind fun c'=>(sumB xs ys c').map (s:: ·)
 |_,_,_=> .ret []
def lessB:List Int→List Int→Int→Bd Int
 |x::xs,y::ys,r=> .xor x y fun d=>(muxB d y r).bind fun r'=>lessB xs ys r'
 |_,_,r=> .ret r
def sameB:List Int→List Int→Int→Bd Int
 |x::xs,y::ys,r=> .xor x y fun d=> .and r (-d) fun r'=>sameB xs ys r'
 |_,_,r=> .ret r
def eachB (f:Int→Int→Bd Int):List Int→List Int→Bd (List Int)
 |x::xs,y::ys=>(f x y).bind fun s=>(eachB f xs ys).map (s:: ·)
 |_,_=> .ret []
def rowB (s:Int):List Int→Bd (List Int)
 |x::xs=> .and x s fun v=>(rowB s xs).map (v:: ·)
 |[]=> .ret []
def offsL (n:Nat):List Int:=List.replicate n (-1)
def mulB (xs:List Int):List Int→Nat→List Int→Bd (List Int)
 |y::ys,i,s=>(rowB y (xs.take (xs.length-i))).bind fun r=>(sumB s (offsL i++r) (-1)).bind fun s'=>mulB xs ys (i+1) s'
 |[],_,s=> .ret s
def negL (xs:List Int):List Int:=xs.map fun x=> -x
def divB (xs wide:List Int):Nat→List Int→List Int→Bd (List Int×List Int)
 |n+1,r,q=>(lessB (xs.getD n 0::r) wide (-1)).bind fun l=>(sumB (xs.getD n 0::r) (negL wide) 1).bind fun u=>
   (eachB (muxB l) ((xs.getD n 0::r).take xs.length) (u.take xs.length)).bind fun r'=>divB xs wide n r' (q.set n (-l))
 |0,r,q=> .ret (q,r)
def fromL (up:Bool) (fill:Int) (s:List Int) (by_ k:Nat):Int:=if up then(if k<by_ then fill else s.getD (k-by_) 0) else if k+by_<s.length then s.getD (k+by_) 0 else fill
def shiftB (up:Bool) (fill:Int):List Int→Nat→List Int→Bd (List Int)
 |c::ys,i,s=>(eachB (muxB c) ((List.range s.length).map (fromL up fill s (2^i))) s).bind fun s'=>shiftB up fill ys (i+1) s'
 |[],_,s=> .ret s
def unB (op:Int) (x:List Int):Bd (List Int):=if op=1 then .ret (negL x) else sumB (offsL x.length) (negL x) 1
def binB (op:Int) (x y:List Int):Bd (List Int):=
 if op=14 then .ret (y++x)
 else if op=3 then eachB (fun a b=> .and a b .ret) x y
 else if op=4 then eachB orB x y
 else if op=5 then eachB (fun a b=> .xor a b .ret) x y
 else if op=6 then sumB x y (-1)
 else if op=7 then sumB x (negL y) 1
 else if op=8 then mulB x y 0 (offsL x.length)
 else if op=9 then(divB x (y++[-1]) x.length (offsL x.length) (offsL x.length)).map (·.1)
 else if op=10 then(divB x (y++[-1]) x.length (offsL x.length) (offsL x.length)).map (·.2)
 else if op=11 then shiftB true (-1) y 0 x
 else if op=12 then shiftB false (-1) y 0 x
 else shiftB false (x.getD (x.length-1) 0) y 0 x
def swapT (x y:List Int):List Int:=x.set (x.length-1) (y.getD (x.length-1) 0)
def cmpB (op:Int) (x y:List Int):Bd Int:=
 if op=15 then sameB x y 1 else if op=16 then lessB x y (-1) else lessB (swapT x y) (swapT y x) (-1)
def sumV:List Bool→List Bool→Bool→List Bool
 |x::xs,y::ys,c=>((x != y) != c)::sumV xs ys ((x&&y)||((x != y)&&c))
 |_,_,_=>[]
def lessV:List Bool→List Bool→Bool→Bool
 |x::xs,y::ys,r=>lessV xs ys (if x != y then y else r)
 |_,_,r=>r
def sameV:List Bool→List Bool→Bool→Bool
 |x::xs,y::ys,r=>sameV xs ys (r&& !(x != y))
 |_,_,r=>r
def eachV (f:Bool→Bool→Bool):List Bool→List Bool→List Bool
 |x::xs,y::ys=>f x y::eachV f xs ys
 |_,_=>[]
def qg0 (n:Nat):List Bool:=List.replicate n false
def mulV (xs:List Bool):List Bool→Nat→List Bool→List Bool
 |y::ys,i,s=>mulV xs ys (i+1) (sumV s (qg0 i++(xs.take (xs.length-i)).map fun x=>x&&y) false)
 |[],_,s=>s
def divV (xs wide:List Bool):Nat→List Bool→List Bool→List Bool×List Bool
 |n+1,r,q=>
  let t:=xs.getD n false::r
  let l:=lessV t wide false
  divV xs wide n (eachV (fun a b=>if l then a else b) (t.take xs.length) ((sumV t (wide.map (!·)) true).take xs.length)) (q.set n (!l))
 |0,r,q=>(q,r)
def QE0 (up:Bool) (fill:Bool) (s:List Bool) (by_ k:Nat):Bool:=if up then(if k<by_ then fill else s.getD (k-by_) false) else if k+by_<s.length then s.getD (k+by_) false else fill
def shiftV (up:Bool) (fill:Bool):List Bool→Nat→List Bool→List Bool
 |c::ys,i,s=>shiftV up fill ys (i+1) (eachV (fun a b=>if c then a else b) ((List.range s.length).map (QE0 up fill s (2^i))) s)
 |[],_,s=>s
def unV (op:Int) (x:List Bool):List Bool:=if op=1 then x.map (!·) else sumV (qg0 x.length) (x.map (!·)) true
def Ju0 (op:Int) (x y:List Bool):List Bool:=
 if op=14 then y++x
 else if op=3 then eachV (· && ·) x y
 else if op=4 then eachV (· || ·) x y
 else if op=5 then eachV (· != ·) x y
 else if op=6 then sumV x y false
 else if op=7 then sumV x (y.map (!·)) true
 else if op=8 then mulV x y 0 (qg0 x.length)
 else if op=9 then(divV x (y++[false]) x.length (qg0 x.length) (qg0 x.length)).1
 else if op=10 then(divV x (y++[false]) x.length (qg0 x.length) (qg0 x.length)).2
 else if op=11 then shiftV true false y 0 x
 else if op=12 then shiftV false false y 0 x
 else shiftV false (x.getD (x.length-1) false) y 0 x
def Xh0 (x y:List Bool):List Bool:=x.set (x.length-1) (y.getD (x.length-1) false)
def cmpV (op:Int) (x y:List Bool):Bool:=
 if op=15 then sameV x y true else if op=16 then lessV x y false else lessV (Xh0 x y) (Xh0 y x) false
structure Rho (ρ:Int→Bool):Prop where
 neg:∀m,m≠0→ρ (-m)= !ρ m
 one:ρ 1=true
def hasL (k:Nat) (xs:List Int):Prop:=∀x,x∈xs→has k x
theorem hasL.mono {k l:Nat} {xs:List Int} (h:hasL k xs) (a:k≤l):hasL l xs:=fun x b=>has_mono (h x b) a
theorem hasL_cons {k:Nat} {x:Int} {xs:List Int}:hasL k (x::xs)↔has k x∧hasL k xs:=by
 unfold hasL;simp only[List.mem_cons,forall_eq_or_imp]
theorem y00 {k:Nat} {xs ys:List Int} (h:hasL k xs) (a:hasL k ys):hasL k (xs++ys):=fun x b=>(List.mem_append.1 b).elim (h x) (a x)
theorem zZ0 {k:Nat} {xs:List Int} (h:hasL k xs):hasL k (negL xs):=fun x a=>by
 obtain⟨y,b,rfl⟩:=List.mem_map.1 a;exact has_neg (h y b)
theorem Ws {k n:Nat} {xs:List Int} (h:hasL k xs):hasL k (xs.take n):=fun x a=>h x (List.mem_of_mem_take a)
theorem has_one {k:Nat} (h:1≤k):has k 1:=⟨by decide,by omega,by omega⟩
theorem has_mone {k:Nat} (h:1≤k):has k (-1):=⟨by decide,by omega,by omega⟩
theorem Yw {k n:Nat} (h:1≤k):hasL k (offsL n):=fun x a=>by rw[List.eq_of_mem_replicate a];exact has_mone h
theorem kU0 {k n:Nat} {xs:List Int} {y:Int} (h:hasL k xs) (c:has k y):hasL k (xs.set n y):=fun x b=>by
 rcases List.mem_or_eq_of_mem_set b with a|a
 ·exact h x a
 ·rw[a];exact c
theorem Ke {k n:Nat} {xs:List Int} (h:hasL k xs) (a:n<xs.length) (d:Int):has k (xs.getD n d):=by
 rw[List.getD_eq_getElem?_getD,List.getElem?_eq_getElem a];exact h _ (List.getElem_mem a)
section
variable {ρ:Int→Bool} {k:Nat} {Q:Nat→Int→Prop} {QL:Nat→List Int→Prop}
theorem Rho.mone (h:Rho ρ):ρ (-1)=false:=by rw[h.neg 1 (by decide),h.one];rfl
theorem qi0 (h:Rho ρ) {xs:List Int} (a:hasL k xs):(negL xs).map ρ=(xs.map ρ).map (!·):=by
 unfold negL
 rw[List.map_map,List.map_map]
 exact List.map_congr_left fun x hm=>h.neg x (a x hm).1
theorem Wo (h:Rho ρ) (n:Nat):(offsL n).map ρ=qg0 n:=by unfold offsL qg0;rw[List.map_replicate,h.mone]
theorem kP0 (h:Rho ρ) {x y:Int} (c:has k x) (d:has k y) (e:∀a v,k≤a→has a v→ρ v=(ρ x||ρ y)→Q a v):Says ρ k (orB x y) Q:=by
 refine⟨has_neg c,has_neg d,fun a v f b g=>e a _ f (has_neg b) ?_⟩
 rw[h.neg _ b.1,g,h.neg _ c.1,h.neg _ d.1]
 cases ρ x<;>cases ρ y<;>rfl
theorem mux_sat (h:Rho ρ) {c x y:Int} (a:has k c) (l:has k x) (m:has k y) (f:∀b v,k≤b→has b v→ρ v=(if ρ c then ρ x else ρ y)→Q b v):Says ρ k (muxB c x y) Q:=by
 refine⟨a,l,fun r p d g rp=>⟨has_mono (has_neg a) d,has_mono m d,fun s q e i rq=>?_⟩⟩
 refine kP0 h (has_mono g e) i fun n v o j rv=>f n v (by omega) j ?_
 rw[rv,rp,rq,h.neg _ a.1]
 cases ρ c<;>cases ρ x<;>cases ρ y<;>rfl
theorem sum_sat (h:Rho ρ):∀{xs ys:List Int} {c:Int} {k:Nat} {QL:Nat→List Int→Prop},hasL k xs→hasL k ys→has k c→(∀l r,k≤l→hasL l r→r.map ρ=sumV (xs.map ρ) (ys.map ρ) (ρ c)→QL l r)→Says ρ k (sumB xs ys c) QL:=by
 intro xs
 induction xs with
 |nil=>intro ys c k QL _ _ _ f;exact f k [] (Nat.le_refl _) (fun x a=>by cases a) rfl
 |cons x xs B=>
  intro ys c k QL a A n f
  cases ys with
  |nil=>exact f k [] (Nat.le_refl _) (fun x a=>by cases a) rfl
  |cons y ys=>
   obtain⟨b,i⟩:=hasL_cons.1 a
   obtain⟨e,j⟩:=hasL_cons.1 A
   refine⟨b,e,fun I d t o rd=>⟨o,has_mono n t,fun J s E hs rs=>⟨has_mono b (by omega),has_mono e (by omega),fun K p F v rp=>⟨has_mono o (by omega),has_mono n (by omega),fun L q u w rq=>?_⟩⟩⟩⟩
   refine Says.bind (kP0 h (has_mono v u) w fun M D G g m=>?_)
   refine Says.bind (B (i.mono (by omega)) (j.mono (by omega)) g fun C r H z rr=>?_)
   refine f C (s::r) (by omega) (hasL_cons.2 ⟨has_mono hs (by omega),z⟩) ?_
   simp only[List.map_cons,sumV]
   rw[rs,rd,rr,m,rp,rq,rd]
theorem less_sat (h:Rho ρ):∀{xs ys:List Int} {r:Int} {k:Nat} {Q:Nat→Int→Prop},hasL k xs→hasL k ys→has k r→(∀i v,k≤i→has i v→ρ v=lessV (xs.map ρ) (ys.map ρ) (ρ r)→Q i v)→Says ρ k (lessB xs ys r) Q:=by
 intro xs
 induction xs with
 |nil=>intro ys r k Q _ _ c b;exact b k r (Nat.le_refl _) c rfl
 |cons x xs p=>
  intro ys r k Q n o c b
  cases ys with
  |nil=>exact b k r (Nat.le_refl _) c rfl
  |cons y ys=>
   obtain⟨e,f⟩:=hasL_cons.1 n
   obtain⟨a,g⟩:=hasL_cons.1 o
   refine⟨e,a,fun w d j l rd=>?_⟩
   refine Says.bind (mux_sat h l (has_mono a j) (has_mono c j) fun z v s m rv=>?_)
   refine p (f.mono (by omega)) (g.mono (by omega)) m fun q u t hu ru=>b q u (by omega) hu ?_
   rw[ru,rv,rd];rfl
theorem same_sat (h:Rho ρ):∀{xs ys:List Int} {r:Int} {k:Nat} {Q:Nat→Int→Prop},hasL k xs→hasL k ys→has k r→(∀i v,k≤i→has i v→ρ v=sameV (xs.map ρ) (ys.map ρ) (ρ r)→Q i v)→Says ρ k (sameB xs ys r) Q:=by
 intro xs
 induction xs with
 |nil=>intro ys r k Q _ _ b a;exact a k r (Nat.le_refl _) b rfl
 |cons x xs p=>
  intro ys r k Q n o b a
  cases ys with
  |nil=>exact a k r (Nat.le_refl _) b rfl
  |cons y ys=>
   obtain⟨c,e⟩:=hasL_cons.1 n
   obtain⟨f,g⟩:=hasL_cons.1 o
   refine⟨c,f,fun w d l j rd=>⟨has_mono b l,has_neg j,fun z v s m rv=>?_⟩⟩
   refine p (e.mono (by omega)) (g.mono (by omega)) m fun q u t hu ru=>a q u (by omega) hu ?_
   rw[ru,rv,h.neg _ j.1,rd];rfl
theorem each_sat {f:Int→Int→Bd Int} {g:Bool→Bool→Bool} {C:Nat→Prop} (o:∀k l,C k→k≤l→C l) (p:∀{k:Nat} {x y:Int} {Q:Nat→Int→Prop},C k→has k x→has k y→(∀a v,k≤a→has a v→ρ v=g (ρ x) (ρ y)→Q a v)→Says ρ k (f x y) Q):
  ∀{xs ys:List Int} {k:Nat} {QL:Nat→List Int→Prop},C k→hasL k xs→hasL k ys→(∀a r,k≤a→hasL a r→r.map ρ=eachV g (xs.map ρ) (ys.map ρ)→QL a r)→Says ρ k (eachB f xs ys) QL:=by
 intro xs
 induction xs with
 |nil=>intro ys k QL _ _ _ c;exact c k [] (Nat.le_refl _) (fun x b=>by cases b) rfl
 |cons x xs u=>
  intro ys k QL m b t c
  cases ys with
  |nil=>exact c k [] (Nat.le_refl _) (fun x b=>by cases b) rfl
  |cons y ys=>
   obtain⟨e,h⟩:=hasL_cons.1 b
   obtain⟨i,j⟩:=hasL_cons.1 t
   refine Says.bind (p m e i fun z s d hs rs=>?_)
   refine Says.bind (u (o _ _ m d) (h.mono d) (j.mono d) fun w r n q rr=>?_)
   refine c w (s::r) (by omega) (hasL_cons.2 ⟨has_mono hs n,q⟩) ?_
   simp only[List.map_cons,eachV]
   rw[rs,rr]
theorem row_sat {s:Int}:∀{xs:List Int} {k:Nat} {QL:Nat→List Int→Prop},hasL k xs→has k s→(∀e r,k≤e→hasL e r→r.map ρ=(xs.map ρ).map (fun x=>x&&ρ s)→QL e r)→Says ρ k (rowB s xs) QL:=by
 intro xs
 induction xs with
 |nil=>intro k QL _ _ a;exact a k [] (Nat.le_refl _) (fun x b=>by cases b) rfl
 |cons x xs j=>
  intro k QL b hs a
  obtain⟨c,d⟩:=hasL_cons.1 b
  refine⟨c,hs,fun m v f i rv=>?_⟩
  refine Says.bind (j (d.mono f) (has_mono hs f) fun l r g h rr=>?_)
  refine a l (v::r) (by omega) (hasL_cons.2 ⟨has_mono i g,h⟩) ?_
  simp only[List.map_cons]
  rw[rv,rr]
theorem mul_sat (h:Rho ρ) {xs:List Int}:∀{ys:List Int} {i:Nat} {s:List Int} {k:Nat} {QL:Nat→List Int→Prop},1≤k→hasL k xs→hasL k ys→hasL k s→(∀e r,k≤e→hasL e r→r.map ρ=mulV (xs.map ρ) (ys.map ρ) i (s.map ρ)→QL e r)→Says ρ k (mulB xs ys i s) QL:=by
 intro ys
 induction ys with
 |nil=>intro i s k QL _ _ _ hs a;exact a k s (Nat.le_refl _) hs rfl
 |cons y ys n=>
  intro i s k QL t g m hs a
  obtain⟨c,d⟩:=hasL_cons.1 m
  refine Says.bind (row_sat (Ws g) c fun v r j l rr=>?_)
  refine Says.bind (sum_sat h (hs.mono j) (y00 (Yw (by omega)) l) (has_mone (by omega)) fun w x p b f=>?_)
  refine n (by omega) (g.mono (by omega)) (d.mono (by omega)) b fun o u q hu ru=>a o u (by omega) hu ?_
  rw[ru,f,h.mone,List.map_append,Wo h,rr,List.map_take]
  simp only[List.map_cons,mulV,List.length_map]
theorem y10 {xs:List Int} {n:Nat} (a:n<xs.length):ρ (xs.getD n 0)=(xs.map ρ).getD n false:=by
 rw[List.getD_eq_getElem?_getD,List.getD_eq_getElem?_getD,List.getElem?_map,List.getElem?_eq_getElem a];rfl
theorem div_sat (h:Rho ρ) {xs wide:List Int}:∀{n:Nat} {r q:List Int} {k:Nat} {QP:Nat→List Int×List Int→Prop},1≤k→n≤xs.length→hasL k xs→hasL k wide→hasL k r→hasL k q→
  (∀f p,k≤f→hasL f p.1→hasL f p.2→(p.1.map ρ,p.2.map ρ)=divV (xs.map ρ) (wide.map ρ) n (r.map ρ) (q.map ρ)→QP f p)→Says ρ k (divB xs wide n r q) QP:=by
 intro n
 induction n with
 |zero=>intro r q k QP _ _ _ _ o d i;exact i k (q,r) (Nat.le_refl _) d o rfl
 |succ n B=>
  intro r q k QP z G e hw o d i
  have t:hasL k (xs.getD n 0::r):=hasL_cons.2 ⟨Ke e (by omega) 0,o⟩
  refine Says.bind (less_sat h t hw (has_mone z) fun H l w c rl=>?_)
  refine Says.bind (sum_sat h (t.mono w) ((zZ0 hw).mono w) (has_one (by omega)) fun I u x hu ru=>?_)
  refine Says.bind (each_sat (C:=fun k=>has k l) (g:=fun a b=>if ρ l then a else b) (fun _ _ h c=>has_mono h c) (fun y e A d=>mux_sat h y e A d) (has_mono c x) (Ws (t.mono (by omega))) (Ws hu) fun J K E s v=>?_)
  refine B (by omega) (by omega) (e.mono (by omega)) (hw.mono (by omega)) s (kU0 (d.mono (by omega)) (has_neg (has_mono c (by omega)))) fun D p F j m rp=>i D p (by omega) j m ?_
  rw[rp]
  simp only[divV,List.length_map]
  rw[v,List.map_take,List.map_take,ru,List.map_set,h.neg _ c.1,rl,qi0 h hw,h.mone,h.one,List.map_cons,y10 (ρ:=ρ) (xs:=xs) (n:=n) (by omega)]
theorem from_has {up:Bool} {fill:Int} {s:List Int} {b j:Nat} (a:has k fill) (hs:hasL k s) (c:j<s.length):has k (fromL up fill s b j):=by
 unfold fromL
 repeat' split
 all_goals first|exact a|exact Ke hs (by omega) 0
theorem from_rho {up:Bool} {fill:Int} {s:List Int} {b j:Nat} (a:j<s.length):ρ (fromL up fill s b j)=QE0 up (ρ fill) (s.map ρ) b j:=by
 unfold fromL QE0
 rw[List.length_map]
 repeat' split
 all_goals first|rfl|exact y10 (by omega)
theorem shift_sat (h:Rho ρ) {up:Bool} {fill:Int}:∀{ys:List Int} {i:Nat} {s:List Int} {k:Nat} {QL:Nat→List Int→Prop},has k fill→hasL k ys→hasL k s→(∀p r,k≤p→hasL p r→r.map ρ=shiftV up (ρ fill) (ys.map ρ) i (s.map ρ)→QL p r)→Says ρ k (shiftB up fill ys i s) QL:=by
 intro ys
 induction ys with
 |nil=>intro i s k QL _ _ hs d;exact d k s (Nat.le_refl _) hs rfl
 |cons c ys A=>
  intro i s k QL v m hs d
  obtain⟨n,o⟩:=hasL_cons.1 m
  refine Says.bind (each_sat (C:=fun k=>has k c) (g:=fun a b=>if ρ c then a else b) (fun _ _ h y=>has_mono h y) (fun w l m z=>mux_sat h w l m z) n (fun x l=>by
   obtain⟨j,e,rfl⟩:=List.mem_map.1 l
   exact from_has v hs (List.mem_range.1 e)) hs fun E F t f q=>?_)
  refine A (has_mono v t) (o.mono t) f fun B u D hu ru=>d B u (by omega) hu ?_
  rw[ru,q]
  simp only[List.map_cons,shiftV,List.length_map,List.map_map]
  congr 2
  exact List.map_congr_left fun j e=>from_rho (List.mem_range.1 e)
theorem J80 (h:Rho ρ) {op:Int} {x:List Int} (f:1≤k) (c:hasL k x) (a:∀b r,k≤b→hasL b r→r.map ρ=unV op (x.map ρ)→QL b r):Says ρ k (unB op x) QL:=by
 unfold unB
 unfold unV at a
 rw[List.length_map] at a
 split
 ·next e=>rw[if_pos e] at a;exact a k _ (Nat.le_refl _) (zZ0 c) (qi0 h c)
 ·next e=>
  rw[if_neg e] at a
  exact sum_sat h (Yw f) (zZ0 c) (has_one f) fun b r d g rr=>a b r d g (by rw[rr,Wo h,qi0 h c,h.one])
theorem bin_sat (h:Rho ρ) {op:Int} {x y:List Int} (i:1≤k) (b:hasL k x) (g:hasL k y) (s:x≠[]) (a:∀c r,k≤c→hasL c r→r.map ρ=Ju0 op (x.map ρ) (y.map ρ)→QL c r):Says ρ k (binB op x y) QL:=by
 have D:0<x.length:=List.length_pos_iff.2 s
 unfold binB
 unfold Ju0 at a
 rw[List.length_map] at a
 by_cases o:op=14
 ·rw[if_pos o] at a⊢;exact a k _ (Nat.le_refl _) (y00 g b) (by rw[List.map_append])
 rw[if_neg o] at a⊢
 by_cases c3:op=3
 ·rw[if_pos c3] at a⊢
  exact each_sat (C:=fun _=>True) (fun _ _ _ _=>trivial) (fun{_ _ _ _} _ b g q=>by exact⟨b,g,fun c v e f d=>q c v e f d⟩) trivial b g a
 rw[if_neg c3] at a⊢
 by_cases t:op=4
 ·rw[if_pos t] at a⊢
  exact each_sat (C:=fun _=>True) (fun _ _ _ _=>trivial) (fun _ b g q=>kP0 h b g q) trivial b g a
 rw[if_neg t] at a⊢
 by_cases u:op=5
 ·rw[if_pos u] at a⊢
  exact each_sat (C:=fun _=>True) (fun _ _ _ _=>trivial) (fun{_ _ _ _} _ b g q=>by exact⟨b,g,fun c v e f d=>q c v e f d⟩) trivial b g a
 rw[if_neg u] at a⊢
 by_cases w:op=6
 ·rw[if_pos w] at a⊢
  exact sum_sat h b g (has_mone i) fun c r e f d=>a c r e f (by rw[d,h.mone])
 rw[if_neg w] at a⊢
 by_cases z:op=7
 ·rw[if_pos z] at a⊢
  exact sum_sat h b (zZ0 g) (has_one i) fun c r e f d=>a c r e f (by rw[d,h.one,qi0 h g])
 rw[if_neg z] at a⊢
 by_cases A:op=8
 ·rw[if_pos A] at a⊢
  exact mul_sat h i b g (Yw i) fun c r e f d=>a c r e f (by rw[d,Wo h])
 rw[if_neg A] at a⊢
 by_cases B:op=9
 ·rw[if_pos B] at a⊢
  refine Says.bind (div_sat h i (Nat.le_refl _) b (y00 g fun x b=>by rw[List.mem_singleton.1 b];exact has_mone i) (Yw i) (Yw i) fun c p e f _ d=>a c _ e f ?_)
  rw[Wo h,List.map_append,List.map_singleton,h.mone] at d
  rw[←d]
 rw[if_neg B] at a⊢
 by_cases j:op=10
 ·rw[if_pos j] at a⊢
  refine Says.bind (div_sat h i (Nat.le_refl _) b (y00 g fun x b=>by rw[List.mem_singleton.1 b];exact has_mone i) (Yw i) (Yw i) fun c p e _ f d=>a c _ e f ?_)
  rw[Wo h,List.map_append,List.map_singleton,h.mone] at d
  rw[←d]
 rw[if_neg j] at a⊢
 by_cases l:op=11
 ·rw[if_pos l] at a⊢
  exact shift_sat h (has_mone i) g b fun c r e f d=>a c r e f (by rw[d,h.mone])
 rw[if_neg l] at a⊢
 by_cases m:op=12
 ·rw[if_pos m] at a⊢
  exact shift_sat h (has_mone i) g b fun c r e f d=>a c r e f (by rw[d,h.mone])
 rw[if_neg m] at a⊢
 exact shift_sat h (Ke b (by omega) 0) g b fun c r e f d=>a c r e f (by rw[d,y10 (ρ:=ρ) (xs:=x) (n:=x.length-1) (by omega)])
theorem swap_has {x y:List Int} (b:hasL k x) (c:hasL k y) (e:x.length=y.length) (a:x≠[]):hasL k (swapT x y):=by
 have d:0<x.length:=List.length_pos_iff.2 a
 exact kU0 b (Ke c (by omega) 0)
theorem swap_rho {x y:List Int} (c:x.length=y.length) (a:x≠[]):(swapT x y).map ρ=Xh0 (x.map ρ) (y.map ρ):=by
 have b:0<x.length:=List.length_pos_iff.2 a
 unfold swapT Xh0
 rw[List.map_set,List.length_map,y10 (ρ:=ρ) (xs:=y) (n:=x.length-1) (by omega)]
theorem QL0 (h:Rho ρ) {op:Int} {x y:List Int} (p:1≤k) (n:hasL k x) (o:hasL k y) (m:x.length=y.length) (d:x≠[]) (b:∀a v,k≤a→has a v→ρ v=cmpV op (x.map ρ) (y.map ρ)→Q a v):Says ρ k (cmpB op x y) Q:=by
 have c:y≠[]:=fun e=>d (List.eq_nil_of_length_eq_zero (by rw[m,e];rfl))
 unfold cmpB
 unfold cmpV at b
 by_cases f:op=15
 ·rw[if_pos f] at b⊢;exact same_sat h n o (has_one p) fun a v i j l=>b a v i j (by rw[l,h.one])
 rw[if_neg f] at b⊢
 by_cases g:op=16
 ·rw[if_pos g] at b⊢;exact less_sat h n o (has_mone p) fun a v i j l=>b a v i j (by rw[l,h.mone])
 rw[if_neg g] at b⊢
 exact less_sat h (swap_has n o m d) (swap_has o n m.symm c) (has_mone p) fun a v i j l=>b a v i j (by rw[l,h.mone,swap_rho m d,swap_rho m.symm c])
end
end Go.M
end
section
namespace Go.M
open Go.Vc
def oneM (t:Tm) (a:Int):Int:=
 if t.op=25 then(if a=0 then 0 else-1) else if a<1 then-1
 else if t.op=22 then(if 0≤t.b∧t.b≤t.a∧t.a<a then t.a-t.b+1 else-1) else a
def bothM (o a b:Int):Int:=
 if o=26∨o=27 then(if a=0∧b=0 then 0 else-1)
 else if a<1∨b<1 then-1
 else if o=14 then(if a+b≤4 then a+b else-1)
 else if a≠b then-1 else if 15≤o then 0 else a
section
variable {ds:List Dcl} {env:List Int} {t:Tm}
def kid (t:Tm) (i:Nat):Tm:=t.ks.getD i default
theorem formed_iff:formed t=true↔arity t.op=t.ks.length∧plainM t=true:=by simp[formed]
theorem arity_one {o:Int} (h:arity o=1):o=1∨o=2∨o=22∨o=25:=by
 unfold arity at h
 repeat' split at h
 all_goals omega
theorem arity_two {o:Int} (h:arity o=2):(3≤o∧o≤17)∨o=26∨o=27:=by
 unfold arity at h
 repeat' split at h
 all_goals omega
theorem arity_three {o:Int} (h:arity o=3):o=23:=by
 unfold arity at h
 repeat' split at h
 all_goals omega
theorem arity_zero {o:Int} (h:arity o=0):o=20∨o=21∨o=24:=by
 unfold arity at h
 repeat' split at h
 all_goals omega
theorem ks1 (h:t.ks.length=1):t.ks=[kid t 0]:=by
 unfold kid
 generalize t.ks=ks at h⊢
 match ks,h with
 |[x],_=>rfl
theorem ks2 (h:t.ks.length=2):t.ks=[kid t 0,kid t 1]:=by
 unfold kid
 generalize t.ks=ks at h⊢
 match ks,h with
 |[x,y],_=>rfl
theorem ks3 (h:t.ks.length=3):t.ks=[kid t 0,kid t 1,kid t 2]:=by
 unfold kid
 generalize t.ks=ks at h⊢
 match ks,h with
 |[x,y,z],_=>rfl
theorem kid_mem {i:Nat} (h:i<t.ks.length):kid t i∈t.ks:=getD_mem h _
theorem sort_bad (h: ¬formed t=true):sortM ds t= -1:=by
 rw[sortM_eq];unfold sortF;rw[if_neg (fun x=>h x.1)]
theorem sort_leaf (a:formed t=true) (h:t.ks.length=0):sortM ds t=sortK ds t []:=by
 have:t.ks=[]:=List.eq_nil_of_length_eq_zero h
 rw[sortM_eq,this];unfold sortF
 rw[if_pos ⟨a,by simp⟩]
 rfl
theorem sort_one (g:declOk ds=true) (f:formed t=true) (h:t.ks.length=1):sortM ds t=oneM t (sortM ds (kid t 0)):=by
 have j:=arity_one (o:=t.op) (by have:=(formed_iff.1 f).1;omega)
 have i:=sort_range g (kid t 0)
 rw[sortM_eq,ks1 h]
 unfold sortF
 simp only[List.map_cons,List.map_nil,List.mem_singleton]
 generalize sortM ds (kid t 0)=s at i⊢
 unfold oneM
 by_cases hs:s= -1
 ·subst hs
  rw[if_neg (by simp)]
  split
  ·split<;>omega
  ·rfl
 ·rw[if_pos ⟨f,fun e=>hs e.symm⟩]
  unfold sortK
  rw[if_neg (by omega),if_neg (by omega)]
  by_cases c:t.op=25
  ·rw[if_pos (by omega),if_pos c]
   by_cases d:s=0
   ·simp[d]
   ·simp[d]
  rw[if_neg (by omega),if_neg c,if_neg (by omega)]
  simp only[List.getD_cons_zero]
  by_cases a:t.op=22
  ·rw[if_pos a,if_pos a]
   by_cases b:s<1
   ·rw[if_pos b,if_neg (by omega)]
   ·rw[if_neg b]
  ·rw[if_neg a,if_neg a,if_pos (by omega)]
   by_cases b:s<1
   ·rw[if_pos b,if_neg (by omega)]
   ·rw[if_neg b,if_pos (by omega)]
theorem sort_two (e:declOk ds=true) (f:formed t=true) (h:t.ks.length=2):sortM ds t=bothM t.op (sortM ds (kid t 0)) (sortM ds (kid t 1)):=by
 have i:=arity_two (o:=t.op) (by have:=(formed_iff.1 f).1;omega)
 have g:=sort_range e (kid t 0)
 have d:=sort_range e (kid t 1)
 rw[sortM_eq,ks2 h]
 unfold sortF
 simp only[List.map_cons,List.map_nil,List.mem_cons,List.not_mem_nil,or_false]
 generalize sortM ds (kid t 0)=a at g⊢
 generalize sortM ds (kid t 1)=b at d⊢
 unfold bothM
 by_cases hs: -1=a∨ -1=b
 ·rw[if_neg (fun x=>x.2 hs)]
  repeat' split
  all_goals omega
 ·rw[if_pos ⟨f,hs⟩]
  unfold sortK
  have c:([a,b].any fun x=>decide (x≠0))=decide (a≠0∨b≠0):=by
   simp only[List.any_cons,List.any_nil,Bool.or_false,Bool.decide_or]
  rw[c]
  simp only[List.getD_cons_zero,List.getD_cons_succ,decide_eq_true_eq]
  rw[if_neg (show¬t.op=20 by omega),if_neg (show¬t.op=21 by omega),if_neg (show¬t.op=23 by omega),if_neg (show¬t.op=22 by omega)]
  repeat' split
  all_goals omega
theorem sort_three (e:formed t=true) (h:t.ks.length=3):sortM ds t=if sortM ds (kid t 0)≠0∨sortM ds (kid t 1)≠sortM ds (kid t 2) then-1 else sortM ds (kid t 1):=by
 have f:=arity_three (o:=t.op) (by have:=(formed_iff.1 e).1;omega)
 rw[sortM_eq,ks3 h]
 unfold sortF
 simp only[List.map_cons,List.map_nil,List.mem_cons,List.not_mem_nil,or_false]
 generalize sortM ds (kid t 0)=a
 generalize sortM ds (kid t 1)=b
 generalize sortM ds (kid t 2)=c
 by_cases hs: -1=a∨ -1=b∨ -1=c
 ·rw[if_neg (fun x=>x.2 hs)]
  split
  ·rfl
  ·omega
 ·rw[if_pos ⟨e,hs⟩]
  unfold sortK
  rw[if_neg (by omega),if_neg (by omega),if_neg (by omega),if_pos f]
  simp only[List.getD_cons_zero,List.getD_cons_succ]
  by_cases d:a=0∧b=c
  ·rw[if_pos d,if_neg (by omega)]
  ·rw[if_neg d,if_pos (by omega)]
theorem ZI {i:Nat} (h:i<t.ks.length):(t.ks.map (vecM ds env)).getD i (0,0)=(sortM ds (kid t i),evalM ds env (kid t i)):=by
 rw[getD_map _ h _ default,vecM_pair];rfl
theorem good_kid (h:sortM ds t≠ -1) {i:Nat} (hi:i<t.ks.length):sortM ds (kid t i)≠ -1:=(sort_parts h).2.1 _ (kid_mem hi)
theorem JB (he:envOk ds env=true) (h:sortM ds t≠ -1) {i:Nat} (hi:i<t.ks.length):inS (sortM ds (kid t i)) (evalM ds env (kid t i)):=eval_in he _ (good_kid h hi)
theorem one_good {a:Int} (c:t.op=1∨t.op=2∨t.op=22∨t.op=25) (h:oneM t a≠ -1):(t.op=25→a=0)∧(t.op≠25→1≤a)∧(t.op=22→0≤t.b∧t.b≤t.a∧t.a<a):=by
 unfold oneM at h
 repeat' split at h
 all_goals omega
theorem both_good {o a b:Int} (h:bothM o a b≠ -1):((o=26∨o=27)→a=0∧b=0)∧(¬(o=26∨o=27)→1≤a∧1≤b∧(o=14→a+b≤4)∧(o≠14→a=b)):=by
 unfold bothM at h
 repeat' split at h
 all_goals omega
theorem eval_un (he:envOk ds env=true) (h:sortM ds t≠ -1) (c:t.op=1∨t.op=2):t.ks.length=1∧vok (sortM ds (kid t 0)) (evalM ds env (kid t 0))=true∧evalM ds env t=(vecUn t.op (sortM ds (kid t 0)) (evalM ds env (kid t 0))).1.2:=by
 have a:=(sort_parts h).1
 have b:t.ks.length=1:=by have:=(formed_iff.1 a).1;rcases c with e|e<;>rw[e] at this<;>simp[arity] at this<;>omega
 have hs:=sort_one (env_ok he).1 a b
 rw[hs] at h
 have f:=one_good (by omega) h
 have d:=inS_pos (JB he (by rw[hs];exact h) (i:=0) (by omega)) (by omega)
 refine⟨b,d,?_⟩
 rw[evalM_eq]
 unfold valK vecUn
 rw[if_neg (by omega),if_neg (by omega),if_neg (by omega),if_neg (by omega),if_neg (by omega),if_neg (by omega),if_neg (by omega),if_neg (by omega),if_pos (by omega),ZI (by omega),if_pos ⟨d,c⟩]
theorem eval_cut (he:envOk ds env=true) (h:sortM ds t≠ -1) (e:t.op=22):t.ks.length=1∧vok (sortM ds (kid t 0)) (evalM ds env (kid t 0))=true∧evalM ds env t=(vecCut (sortM ds (kid t 0)) (evalM ds env (kid t 0)) t.a t.b).1.2:=by
 have c:=(sort_parts h).1
 have d:t.ks.length=1:=by have:=(formed_iff.1 c).1;rw[e] at this;simp[arity] at this;omega
 have hs:=sort_one (env_ok he).1 c d
 rw[hs] at h
 have g:=one_good (by omega) h
 have f:=inS_pos (JB he (by rw[hs];exact h) (i:=0) (by omega)) (by omega)
 refine⟨d,f,?_⟩
 rw[evalM_eq]
 unfold valK vecCut
 rw[if_neg (by omega),if_neg (by omega),if_neg (by omega),if_neg (by omega),if_neg (by omega),if_neg (by omega),if_neg (by omega),if_pos (by omega),ZI (by omega),if_pos ⟨f,g.2.2 e⟩]
theorem eval_bin (he:envOk ds env=true) (h:sortM ds t≠ -1) (g:3≤t.op) (j:t.op≤14):t.ks.length=2∧vok (sortM ds (kid t 0)) (evalM ds env (kid t 0))=true∧vok (sortM ds (kid t 1)) (evalM ds env (kid t 1))=true∧evalM ds env t=(vecBin t.op (sortM ds (kid t 0)) (evalM ds env (kid t 0)) (sortM ds (kid t 1)) (evalM ds env (kid t 1))).1.2:=by
 have c:=(sort_parts h).1
 have e:t.ks.length=2:=by
  have:=(formed_iff.1 c).1
  unfold arity at this
  rw[if_neg (by omega),if_neg (by omega),if_neg (by omega),if_neg (by omega),if_pos (by omega)] at this;omega
 have hs:=sort_two (env_ok he).1 c e
 rw[hs] at h
 have d:=(both_good h).2 (by omega)
 have f:=inS_pos (JB he (by rw[hs];exact h) (i:=0) (by omega)) (by omega)
 have b:=inS_pos (JB he (by rw[hs];exact h) (i:=1) (by omega)) (by omega)
 refine⟨e,f,b,?_⟩
 rw[evalM_eq]
 unfold valK vecBin
 rw[if_neg (show¬t.op=20 by omega),if_neg (show¬t.op=21 by omega),if_neg (show¬t.op=24 by omega),if_neg (show¬t.op=25 by omega),if_neg (show¬t.op=26 by omega),if_neg (show¬t.op=27 by omega),if_neg (show¬t.op=23 by omega),if_neg (show¬t.op=22 by omega),if_neg (show¬t.op≤2 by omega),ZI (by omega),ZI (by omega),if_pos (show vok _ _=true∧vok _ _=true from⟨f,b⟩)]
 by_cases a:t.op=14
 ·rw[if_pos a,if_pos a,if_pos (d.2.2.1 a)]
 ·rw[if_neg a,if_neg a,if_neg (show¬15≤t.op by omega),if_pos (show 3≤t.op∧t.op≤13∧sortM ds (kid t 0)=sortM ds (kid t 1) from⟨g,by omega,d.2.2.2 a⟩)]
theorem eval_cmp (he:envOk ds env=true) (h:sortM ds t≠ -1) (g:15≤t.op) (b:t.op≤17):t.ks.length=2∧vok (sortM ds (kid t 0)) (evalM ds env (kid t 0))=true∧vok (sortM ds (kid t 1)) (evalM ds env (kid t 1))=true∧evalM ds env t=b2i (vecCmp t.op (sortM ds (kid t 0)) (evalM ds env (kid t 0)) (sortM ds (kid t 1)) (evalM ds env (kid t 1))).1:=by
 have c:=(sort_parts h).1
 have d:t.ks.length=2:=by
  have:=(formed_iff.1 c).1
  unfold arity at this
  rw[if_neg (by omega),if_neg (by omega),if_neg (by omega),if_neg (by omega),if_pos (by omega)] at this;omega
 have hs:=sort_two (env_ok he).1 c d
 rw[hs] at h
 have f:=(both_good h).2 (by omega)
 have e:=inS_pos (JB he (by rw[hs];exact h) (i:=0) (by omega)) (by omega)
 have a:=inS_pos (JB he (by rw[hs];exact h) (i:=1) (by omega)) (by omega)
 refine⟨d,e,a,?_⟩
 rw[evalM_eq]
 unfold valK vecCmp
 rw[if_neg (by omega),if_neg (by omega),if_neg (by omega),if_neg (by omega),if_neg (by omega),if_neg (by omega),if_neg (by omega),if_neg (by omega),if_neg (by omega),ZI (by omega),ZI (by omega),if_neg (by omega),if_pos (by omega),if_pos ⟨e,a,f.2.2.2 (by omega),g,b⟩]
theorem eval_no (he:envOk ds env=true) (h:sortM ds t≠ -1) (d:t.op=25):t.ks.length=1∧inS 0 (evalM ds env (kid t 0))∧evalM ds env t=1-evalM ds env (kid t 0):=by
 have b:=(sort_parts h).1
 have c:t.ks.length=1:=by have:=(formed_iff.1 b).1;rw[d] at this;simp[arity] at this;omega
 have hs:=sort_one (env_ok he).1 b c
 rw[hs] at h
 have f:=one_good (by omega) h
 have a:=JB he (by rw[hs];exact h) (i:=0) (by omega)
 rw[f.1 d] at a
 refine⟨c,a,?_⟩
 rw[evalM_eq]
 unfold valK
 rw[if_neg (by omega),if_neg (by omega),if_neg (by omega),if_pos (by omega),ZI (by omega)]
 simp only
 rcases inS_zero a with e|e<;>rw[e]<;>rfl
theorem eval_two (he:envOk ds env=true) (h:sortM ds t≠ -1) (d:t.op=26∨t.op=27):t.ks.length=2∧inS 0 (evalM ds env (kid t 0))∧inS 0 (evalM ds env (kid t 1))∧evalM ds env t=if t.op=26 then evalM ds env (kid t 0)*evalM ds env (kid t 1) else max (evalM ds env (kid t 0)) (evalM ds env (kid t 1)):=by
 have f:=(sort_parts h).1
 have j:t.ks.length=2:=by have:=(formed_iff.1 f).1;rcases d with e|e<;>rw[e] at this<;>simp[arity] at this<;>omega
 have hs:=sort_two (env_ok he).1 f j
 rw[hs] at h
 have g:=(both_good h).1 d
 have c:=JB he (by rw[hs];exact h) (i:=0) (by omega)
 have a:=JB he (by rw[hs];exact h) (i:=1) (by omega)
 rw[g.1] at c
 rw[g.2] at a
 refine⟨j,c,a,?_⟩
 rw[evalM_eq]
 unfold valK
 rw[if_neg (by omega),if_neg (by omega),if_neg (by omega),if_neg (by omega),ZI (by omega),ZI (by omega)]
 simp only
 rcases d with e|e
 ·rw[if_pos e,if_pos e]
  rcases inS_zero c with e|e<;>rcases inS_zero a with b|b<;>rw[e,b]<;>rfl
 ·rw[if_neg (by omega),if_pos e,if_neg (by omega)]
  rcases inS_zero c with e|e<;>rcases inS_zero a with b|b<;>rw[e,b]<;>rfl
theorem eval_if (he:envOk ds env=true) (h:sortM ds t≠ -1) (c:t.op=23):t.ks.length=3∧inS 0 (evalM ds env (kid t 0))∧evalM ds env t=if evalM ds env (kid t 0)=1 then evalM ds env (kid t 1) else evalM ds env (kid t 2):=by
 have a:=(sort_parts h).1
 have b:t.ks.length=3:=by have:=(formed_iff.1 a).1;rw[c] at this;simp[arity] at this;omega
 have hs:=sort_three (ds:=ds) a b
 have d:=JB he h (i:=0) (by omega)
 rw[hs] at h
 have e:sortM ds (kid t 0)=0:=by
  split at h
  ·exact absurd rfl h
  ·omega
 rw[e] at d
 refine⟨b,d,?_⟩
 rw[evalM_eq]
 unfold valK
 rw[if_neg (by omega),if_neg (by omega),if_neg (by omega),if_neg (by omega),if_neg (by omega),if_neg (by omega),if_pos c,ZI (by omega),ZI (by omega),ZI (by omega)]
theorem eval_leaf (h:t.op=20∨t.op=21∨t.op=24):evalM ds env t=if t.op=20 then t.b else if t.op=21 then env.getD (findD ds t.s).toNat 0 else 1:=by
 rw[evalM_eq]
 unfold valK
 rcases h with h|h|h
 ·rw[if_pos h,if_pos h]
 ·rw[if_neg (by omega),if_pos h,if_neg (by omega),if_pos h]
 ·rw[if_neg (by omega),if_neg (by omega),if_pos h,if_neg (by omega),if_neg (by omega)]
theorem name_found (h:sortM ds t≠ -1) (a:t.op=21):0≤findD ds t.s:=by
 obtain⟨_,_,hs⟩:=sort_parts h
 rw[hs] at h
 unfold sortK at h
 rw[if_neg (by omega),if_pos a] at h
 split at h
 ·exact absurd rfl h
 ·omega
end
def wordL (o:Int):List UInt8:=
 if o=1 then[110,111,116] else if o=2 then[110,101,103] else if o=3 then[97,110,100] else if o=4 then[111,114] else if o=5 then[120,111,114]
 else if o=6 then[97,100,100] else if o=7 then[115,117,98] else if o=8 then[109,117,108] else if o=9 then[100,105,118] else if o=10 then[114,101,109]
 else if o=11 then[115,104,108] else if o=12 then[115,104,114] else if o=13 then[115,97,114] else if o=14 then[99,97,116] else if o=15 then[115,97,109,101]
 else if o=16 then[108,101,115,115] else if o=17 then[117,110,100,101,114] else if o=22 then[99,117,116] else if o=23 then[105,102] else if o=25 then[110,111]
 else if o=26 then[98,111,116,104] else if o=27 then[97,110,121] else[]
end Go.M
end
