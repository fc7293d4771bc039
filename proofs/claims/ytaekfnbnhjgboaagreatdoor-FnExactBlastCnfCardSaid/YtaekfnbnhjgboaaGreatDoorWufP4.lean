import Derived.Test.YtaekfnbnhjgboaaGreatDoorWufP2
import Derived.Test.YtaekfnbnhjgboaaGreatDoorWufP3
/- A part of the proof. -/
set_option linter.unusedVariables false
set_option linter.unusedSimpArgs false
set_option linter.unnecessarySimpa false
set_option linter.unusedSectionVars false
section
namespace Go.Proofs.YtaekfnbnhjgboaaGreatDoor
open Go Go.Vc Go.Proofs
variable {v0 v1 v2 v3 v4 v5 v6 v7 v8:Value} {w:World} {R:Value→World→Prop}
theorem Jt (h:vbi PP .len [za] ze [v1] w fun a b=>zt PP .sub ze true a (.int .i64 1) b fun a b=>vcall PP y6 #[v1] b fun b c=>vcall PP y6 #[v2] c fun c d=>y7 d fun d=>zo PP za c a d fun e f=>f=d∧zf PP zq e d fun e f=>f=d∧zo PP za b a d fun f g=>g=d∧zf PP zq f d fun f g=>g=d∧zo PP za b a d fun g h=>h=d∧zu PP zq g e d fun _ d=>zo PP za c a d fun a e=>e=d∧zu PP zq a f d fun _ a=>vcall PP xV #[v0,b,c] a fun a b=>R a b):vcall PP qY #[v0,v1,v2] w R:=zp {ord:=[(3,[0,1,2,3,4,5,6,7,8,9,10,11,12,13,14,15],[(0,[12,13,14,15]),(1,[12,13,14,15]),(2,[14,15]),(3,[14,15]),(4,[6,7,12,13,14,15]),(5,[6,7,12,13,14,15]),(6,[7,12,13,14,15]),(7,[12,13,14,15]),(8,[10,11,12,13,14,15]),(9,[10,11,12,13,14,15]),(10,[11,12,13,14,15]),(11,[12,13,14,15]),(12,[13,14,15]),(13,[14,15]),(14,[15])])]} Tryz.func230 (by kernel_rfl) (by kernel_rfl) h
theorem qn0 (h:vcall PP js #[v1] w fun a b=>zt PP .quo ze false v0 a b fun a b=>zt PP .rem ze true a (.int .i64 2) b fun a b=>R a b):vcall PP Q9 #[v0,v1] w R:=zp {} Tryz.func231 (by kernel_rfl) (by kernel_rfl) h
theorem qi0 (h:yH PP zj v0 w fun a b=>zZ PP zj b fun b c=>xL (fun d=>xL (fun e=>zt PP .eql ze true v1 (.int .i64 (-1)) c fun c f=>vif c (e [(.bool true)] f) (zt PP .eql ze true v2 (.int .i64 (-1)) f fun c f=>vif c (e [(.bool true)] f) (vun PP .neg v2 f fun c f=>zt PP .eql ze false v1 c f fun c f=>e [c] f))) (fun c _ e=>vif (sl 0 c) (zf PP zj a e fun c f=>zu PP zj b c f fun _ c=>vlv PP zj b c fun c f=>R (.tuple #[c,(.int .i64 (-1))]) f) (xL (fun c=>zt PP .eql ze true v1 (.int .i64 1) e fun e f=>vif e (c [(.bool true)] f) (zt PP .eql ze false v1 v2 f fun e f=>c [e] f)) (fun c _ e=>vif (sl 0 c) (zf PP zj a e fun c f=>zu PP zj b c f fun _ c=>vlv PP zj b c fun c f=>R (.tuple #[c,v2]) f) (zt PP .eql ze true v2 (.int .i64 1) e fun c e=>vif c (zf PP zj a e fun c f=>zu PP zj b c f fun _ c=>vlv PP zj b c fun c f=>R (.tuple #[c,v1]) f) (vcall PP qe #[v1] e fun c e=>vcall PP qe #[v2] e fun e f=>zt PP .gtr ze false c e f fun c e=>vif c (zf PP zj a e fun c f=>zT PP zn [(1,v2),(2,v1)] f fun f g=>vcall PP jr #[c,f] g fun c f=>zk PP c 0 f fun f g=>zk PP c 1 g fun c g=>zu PP zj b f g fun _ f=>vlv PP zj b f fun f g=>R (.tuple #[f,c]) g) (d [] e))))))) (fun _ _ c=>zf PP zj a c fun a c=>zT PP zn [(1,v1),(2,v2)] c fun c d=>vcall PP jr #[a,c] d fun a c=>zk PP a 0 c fun c d=>zk PP a 1 d fun a d=>zu PP zj b c d fun _ c=>vlv PP zj b c fun b c=>R (.tuple #[b,a]) c)):vcall PP Q6 #[v0,v1,v2] w R:=zp {cuts:=[(8201,[]),(8194,[8]),(16388,[22])]} Tryz.func232 (by kernel_rfl) (by kernel_rfl) h
theorem q70 (h:yH PP zc v0 w fun a b=>zZ PP zc b fun b c=>zf PP zc a c fun c d=>vcall PP xD #[c,v1,v2] d fun c d=>zk PP c 0 d fun d e=>zk PP c 1 e fun c e=>zu PP zc a d e fun _ d=>zf PP zc a d fun d e=>vun PP .neg v1 e fun e f=>vcall PP xD #[d,e,v3] f fun d e=>zk PP d 0 e fun e f=>zk PP d 1 f fun d f=>zu PP zc a e f fun _ e=>zf PP zc a e fun a e=>vcall PP km #[a,c,d] e fun a c=>zk PP a 0 c fun c d=>zk PP a 1 d fun a d=>zu PP zc b c d fun _ c=>vlv PP zc b c fun b c=>R (.tuple #[b,a]) c):vcall PP kJ #[v0,v1,v2,v3] w R:=zp {} Tryz.func233 (by kernel_rfl) (by kernel_rfl) h
theorem q60 (h:yH PP zc v0 w fun a b=>zZ PP zc b fun b c=>zi PP zc a 1 c fun c d=>zf PP kO c d fun c d=>vun PP .not c d fun c d=>vif c (zf PP zc a d fun c e=>zu PP zc b c e fun _ c=>vlv PP zc b c fun c e=>R (.tuple #[c,(.int .i64 1)]) e) (zi PP zc a 0 d fun a c=>zf PP zj a c fun a c=>vcall PP Q4 #[a,v1,v2] c fun a c=>zk PP a 0 c fun c d=>zk PP a 1 d fun a d=>zZ PP zj d fun d e=>zu PP zj d c e fun _ c=>zf PP zj d c fun c d=>zt PP .neq ze true a (.int .i64 0) d fun d e=>zT PP zc [(0,c),(1,d)] e fun c d=>zu PP zc b c d fun _ c=>vlv PP zc b c fun b c=>R (.tuple #[b,a]) c)):vcall PP qC #[v0,v1,v2] w R:=zp {} Tryz.func234 (by kernel_rfl) (by kernel_rfl) h
theorem xd0 (h:zt PP .add ze false v2 v3 w fun a b=>zt PP .eql ze true v0 (.int .i64 11) b fun b c=>vif b (zt PP .sub ze false v2 v3 c fun b d=>zt PP .lss ze true b (.int .i64 0) d fun d e=>vif d (R v4 e) (vbi PP .len [zg] ze [v1] e fun d e=>zt PP .geq ze false b d e fun d e=>vif d (R v4 e) (zo PP zg v1 b e fun b d=>zf PP ze b d fun b d=>R b d))) (zt PP .lss ze true a (.int .i64 0) c fun b c=>vif b (R v4 c) (vbi PP .len [zg] ze [v1] c fun b c=>zt PP .geq ze false a b c fun b c=>vif b (R v4 c) (zo PP zg v1 a c fun a b=>zf PP ze a b fun a b=>R a b)))):vcall PP Xd #[v0,v1,v2,v3,v4] w R:=zp {} Tryz.func235 (by kernel_rfl) (by kernel_rfl) h
theorem Zr (h:zt PP .eql ze true v1 (.int .i64 10) w fun a b=>vif a (xL (fun a=>zt PP .leq KK true (.int .i64 0) v0 b fun c d=>vif c (zt PP .lss KK true v0 (.int .i64 100) d fun c e=>vif c (vcall PP ju #[v0] e fun c f=>R c f) (a [] e)) (a [] d)) (fun _ _ a=>zZ PP kP a fun a c=>Yn PP KK xk v0 c fun c d=>xL (fun e=>zt PP .lss KK true v0 (.int .i64 0) d fun d f=>vif d (vun PP .neg c f fun d g=>e [d] g) (e [c] f)) (fun c _ d=>vcall PP Zk #[(sl 0 c)] d fun d e=>zt PP .add ze true (.int .i64 1) d e fun e f=>yA PP kP a (some (.int .i64 1)) (some e) none f fun e f=>vcall PP ko #[e,(sl 0 c)] f fun _ c=>zt PP .lss KK true v0 (.int .i64 0) c fun c e=>vif c (zo PP kP a (.int .i64 0) e fun c f=>zu PP kz c (.int .u8 45) f fun _ c=>zt PP .add ze true (.int .i64 1) d c fun c f=>yA PP kP a none (some c) none f fun c f=>Yn PP yD zE c f fun c f=>R c f) (zt PP .add ze true (.int .i64 1) d e fun c d=>yA PP kP a (some (.int .i64 1)) (some c) none d fun a c=>Yn PP yD zE a c fun a c=>R a c)))) (Yn PP KK xk v0 b fun a b=>zt PP .lss KK true v0 (.int .i64 0) b fun b c=>vcall PP Z1 #[(.slice none 0 0),a,v1,b,(.bool false)] c fun a b=>zk PP a 0 b fun _ b=>zk PP a 1 b fun a b=>R a b)):vcall PP qw #[v0,v1] w R:=zp {cuts:=[(12292,[]),(28680,[6])]} Tryz.func248 (by kernel_rfl) (by kernel_rfl) h
theorem zb0 (h:vcall PP YK #[v0,v1] w fun a b=>zk PP a 0 b fun b c=>zk PP a 1 c fun a c=>R (.tuple #[b,a]) c):vcall PP Zx #[v0,v1] w R:=zp {} Tryz.func251 (by kernel_rfl) (by kernel_rfl) h
def XE (P:Program) (v0 v1:Value) (w:World) (R:Value→World→Prop):Prop:=vun P .neg v0 w fun a b=>R a b
theorem Up {v0 v1 w R} (h:XE PP v0 v1 w R):vcall PP Xx #[v0,v1] w R:=zp {} Tryz.func252 (by kernel_rfl) (by kernel_rfl) h
theorem qS (h:xL (fun a=>zt PP .lss ze true v1 (.int .i64 0) w fun b c=>vif b (Jz PP zE (.string {data:= #[99,97,110,110,111,116,32,98,101,32,110,101,103,97,116,105,118,101]}) c fun _ _=>False) (a [] c)) (fun _ _ a=>vbi PP .cap [za] ze [v0] a fun a b=>vbi PP .len [za] ze [v0] b fun b c=>zt PP .sub ze false a b c fun a b=>zt PP .sub ze false v1 a b fun a b=>zt PP .gtr ze true a (.int .i64 0) b fun b c=>vif b (vbi PP .cap [za] ze [v0] c fun b d=>yA PP za v0 none (some b) none d fun b d=>vbi PP .append [za,ze] za [b,a] d fun a b=>vbi PP .len [za] ze [v0] b fun b d=>yA PP za a none (some b) none d fun a b=>R a b) (R v0 c))):vcall PP yP #[v0,v1] w R:=zp {cuts:=[(8195,[])]} Tryz.func253 (by kernel_rfl) (by kernel_rfl) h
theorem KD (h:zt PP .eql zq true v1 (.int .i64 0) w fun a b=>zf PP yd (.pointer (some ⟨xy,0,none⟩)) b fun b c=>vcall PP yl #[v0,a,b] c fun _ a=>vnil PP v0 a fun a b=>zi PP zX a 1 b fun a b=>zf PP yd a b fun a b=>zt PP .neq yd true a .nilIface b fun a b=>vif a (R (.int .i64 (-1)) b) (R v1 b)):vcall PP qk #[v0,v1] w R:=zp {} Tryz.func254 (by kernel_rfl) (by kernel_rfl) h
theorem Vo (h:zt PP .eql zq true v1 (.int .i64 (-1)) w fun a b=>vif a (R (.int .i64 (-1)) b) (zt PP .eql zq true v2 (.int .i64 (-1)) b fun a b=>vif a (R (.int .i64 (-1)) b) (zt PP .eql zq true v1 (.int .i64 1) b fun a b=>vif a (R v2 b) (zt PP .eql zq true v2 (.int .i64 1) b fun a b=>vif a (R v1 b) (zt PP .eql zq false v1 v2 b fun a b=>vif a (R v1 b) (vun PP .neg v2 b fun a b=>zt PP .eql zq false v1 a b fun a b=>vif a (R (.int .i64 (-1)) b) (zT PP zn [(1,v1),(2,v2)] b fun a b=>vcall PP qj #[v0,a] b fun a b=>R a b))))))):vcall PP jJ #[v0,v1,v2] w R:=zp {} Tryz.func255 (by kernel_rfl) (by kernel_rfl) h
theorem Vm (h:vcall PP yi #[v1] w fun a b=>zt PP .eql ze true a (.int .i64 1) b fun a b=>vif a (zt PP .eql zq true v1 (.int .i64 1) b fun a c=>vcall PP xO #[v2,a] c fun a c=>R a c) (vcall PP yi #[v2] b fun a b=>zt PP .eql ze true a (.int .i64 1) b fun a b=>vif a (zt PP .eql zq true v2 (.int .i64 1) b fun a c=>vcall PP xO #[v1,a] c fun a c=>R a c) (zt PP .eql zq false v1 v2 b fun a b=>vif a (R (.int .i64 (-1)) b) (vun PP .neg v2 b fun a b=>zt PP .eql zq false v1 a b fun a b=>vif a (R (.int .i64 1) b) (vcall PP yi #[v1] b fun a b=>vcall PP yi #[v2] b fun b c=>zT PP zn [(0,(.bool true)),(1,a),(2,b)] c fun a b=>vcall PP qj #[v0,a] b fun a b=>zt PP .lss zq true v1 (.int .i64 0) b fun b c=>zt PP .lss zq true v2 (.int .i64 0) c fun c d=>zt PP .neq kO false b c d fun b c=>vcall PP xO #[a,b] c fun a b=>R a b))))):vcall PP jH #[v0,v1,v2] w R:=zp {} Tryz.func256 (by kernel_rfl) (by kernel_rfl) h
theorem KC (h:yH PP zQ v0 w fun a b=>yH PP za v1 b fun b c=>yH PP za v2 c fun c d=>kY0 PP (.func xZ) [] [c,b,a] d fun a b=>R a b):vcall PP ZA #[v0,v1,v2] w R:=zp {} Tryz.func257 (by kernel_rfl) (by kernel_rfl) h
theorem qj0 (h:zt PP .lss ze true v0 (.int .i64 0) w fun a b=>vif a (vun PP .neg v0 b fun a c=>R a c) (R v0 b)):vcall PP qe #[v0] w R:=zp {} Tryz.func258 (by kernel_rfl) (by kernel_rfl) h
theorem qg0 (h:yH PP zj v0 w fun a b=>yH PP zn v1 b fun b c=>zZ PP zj c fun c d=>yJ [(.int .i64 0)] d fun d e _ f=>zi PP zj a 1 f fun f g=>zf PP zm f g fun f g=>vbi PP .len [zm] ze [f] g fun f g=>zt PP .lss ze false (sl 0 e) f g fun f g=>vif f (y7 g fun f=>zi PP zj a 1 f fun h i=>i=f∧zf PP zm h f fun h i=>i=f∧zo PP zm h (sl 0 e) f fun h i=>i=f∧zf PP zn h f fun h i=>i=f∧zf PP zn b f fun i j=>j=f∧zt PP .eql zn false h i f fun h i=>i=f∧vif h (y7 f fun h=>zf PP zj a h fun i j=>j=h∧zi PP zj a 0 h fun j k=>k=h∧zf PP ze j h fun k l=>l=h∧zt PP .add ze true (.int .i64 2) k h fun l m=>m=h∧zt PP .add ze false l (sl 0 e) h fun m n=>n=h∧zu PP zj c i h fun _ h=>(zt PP .add ze false l (sl 0 e) h fun i n=>i=m∧n=h)∧(zt PP .add ze true (.int .i64 2) k h fun i n=>i=l∧n=h)∧(zf PP ze j h fun i n=>i=k∧n=h)∧(zi PP zj a 0 h fun i n=>i=j∧n=h)∧vlv PP zj c h fun h j=>R (.tuple #[h,m]) j) (zt PP .add ze true (sl 0 e) (.int .i64 1) f fun e f=>d [e] f)) (zi PP zj a 1 g fun d e=>zf PP zm d e fun d e=>vbi PP .len [zm] ze [d] e fun d e=>zt PP .geq ze true d (.int .i64 600) e fun d e=>vif d (zT PP zj [] e fun d f=>zu PP zj c d f fun _ d=>vlv PP zj c d fun d f=>R (.tuple #[d,(.int .i64 0)]) f) (xL (fun d=>y7 e fun e=>zi PP zj a 1 e fun f g=>g=e∧zf PP zm f e fun g h=>h=e∧zf PP zn b e fun h j=>j=e∧(vbuildS PP zm 0 [] e fun j k=>(zf PP zn b k fun i n=>i=h∧n=k)∧(zf PP zm f k fun i n=>i=g∧n=k)∧(zi PP zj a 1 k fun i n=>i=f∧n=k)∧(vbi PP .append [zm,zm] zm [j,g] k fun l m=>(zf PP zn b m fun i n=>i=h∧n=m)∧(vbuildS PP zm 1 [(0,h)] m fun b m=>(vbi PP .append [zm,zm] zm [l,b] m fun b l=>zi PP zj a 1 l fun m o=>o=l∧(zu PP zm m b l fun _ b=>d [] b)∧True)∧True)∧True)∧(vbuildS PP zm 1 [(0,h)] k fun b k=>(zf PP zm f k fun i n=>i=g∧n=k)∧(zi PP zj a 1 k fun i n=>i=f∧n=k)∧(vbi PP .append [zm,zm] zm [j,g] k fun j k=>(vbi PP .append [zm,zm] zm [j,b] k fun b j=>zi PP zj a 1 j fun k l=>l=j∧(zu PP zm k b j fun _ b=>d [] b)∧True)∧True)∧True)∧True)∧(vbuildS PP zm 1 [(0,h)] e fun b e=>(zf PP zm f e fun i n=>i=g∧n=e)∧(zi PP zj a 1 e fun i n=>i=f∧n=e)∧(vbuildS PP zm 0 [] e fun e h=>(zf PP zm f h fun i n=>i=g∧n=h)∧(zi PP zj a 1 h fun i n=>i=f∧n=h)∧(vbi PP .append [zm,zm] zm [e,g] h fun e f=>(vbi PP .append [zm,zm] zm [e,b] f fun b e=>zi PP zj a 1 e fun f g=>g=e∧(zu PP zm f b e fun _ b=>d [] b)∧True)∧True)∧True)∧True)∧True) (fun _ _ b=>y7 b fun b=>zf PP zj a b fun d e=>e=b∧zi PP zj a 0 b fun e f=>f=b∧zf PP ze e b fun f g=>g=b∧zt PP .add ze true (.int .i64 1) f b fun g h=>h=b∧zi PP zj a 1 b fun h j=>j=b∧zf PP zm h b fun j k=>k=b∧vbi PP .len [zm] ze [j] b fun k l=>l=b∧zt PP .add ze false g k b fun l m=>m=b∧zu PP zj c d b fun _ b=>(zt PP .add ze false g k b fun i n=>i=l∧n=b)∧(vbi PP .len [zm] ze [j] b fun i n=>i=k∧n=b)∧(zf PP zm h b fun i n=>i=j∧n=b)∧(zi PP zj a 1 b fun i n=>i=h∧n=b)∧(zt PP .add ze true (.int .i64 1) f b fun i n=>i=g∧n=b)∧(zf PP ze e b fun i n=>i=f∧n=b)∧(zi PP zj a 0 b fun i n=>i=e∧n=b)∧vlv PP zj c b fun a b=>R (.tuple #[a,l]) b)))):vcall PP jr #[v0,v1] w R:=zp {ord:=[(4,[0,1,2,3,4,5,6],[(0,[1,3,4,6]),(1,[3,4,6]),(2,[3,4,6]),(3,[4,6]),(4,[6]),(5,[6])]),(5,[0,1,2,3,4,5,6,7],[(0,[6,7]),(1,[2,3,5,7]),(2,[3,5,7]),(3,[5,7]),(4,[5,7]),(5,[7]),(6,[7])]),(9,[0,1,2,3,4,5,6,7,8,9],[(0,[8,9]),(1,[2,3,7,9]),(2,[3,7,9]),(3,[7,9]),(4,[5,6,7,9]),(5,[6,7,9]),(6,[7,9]),(7,[9]),(8,[9])])],loops:=[(2,[6])],cuts:=[(36873,[])],trees:=[(8,(.st 1 (.st 2 (.st 4 (.alt 0 (.alt 3 (.alt 5 (.alt 6 (.st 7 (.alt 8 .nil .no)) .no) .no) (.alt 5 (.alt 3 (.alt 6 (.st 7 (.alt 8 .nil .no)) .no) .no) .no)) (.alt 5 (.alt 0 (.alt 3 (.alt 6 (.st 7 (.alt 8 .nil .no)) .no) .no) .no) .no))))),[(0,[3,6,7,8]),(1,[2,3,6,7,8]),(2,[3,6,7,8]),(3,[6,7,8]),(4,[5,6,7,8]),(5,[6,7,8]),(6,[7,8]),(7,[8])])]} Tryz.func259 (by kernel_rfl) (by kernel_rfl) h
theorem qf0 (h:yH PP zj v0 w fun a b=>zZ PP zj b fun b c=>xL (fun d=>xL (fun e=>zt PP .eql ze true v1 (.int .i64 1) c fun c f=>vif c (e [(.bool true)] f) (zt PP .eql ze true v1 (.int .i64 (-1)) f fun c f=>e [c] f)) (fun c _ e=>vif (sl 0 c) (zf PP zj a e fun c f=>vun PP .neg v1 f fun f g=>zt PP .mul ze false f v2 g fun f g=>zu PP zj b c g fun _ c=>vlv PP zj b c fun c g=>R (.tuple #[c,f]) g) (xL (fun c=>zt PP .eql ze true v2 (.int .i64 1) e fun e f=>vif e (c [(.bool true)] f) (zt PP .eql ze true v2 (.int .i64 (-1)) f fun e f=>c [e] f)) (fun c _ e=>vif (sl 0 c) (zf PP zj a e fun c f=>vun PP .neg v2 f fun f g=>zt PP .mul ze false f v1 g fun f g=>zu PP zj b c g fun _ c=>vlv PP zj b c fun c g=>R (.tuple #[c,f]) g) (zt PP .eql ze false v1 v2 e fun c e=>vif c (zf PP zj a e fun c f=>zu PP zj b c f fun _ c=>vlv PP zj b c fun c f=>R (.tuple #[c,(.int .i64 (-1))]) f) (vun PP .neg v2 e fun c e=>zt PP .eql ze false v1 c e fun c e=>vif c (zf PP zj a e fun c f=>zu PP zj b c f fun _ c=>vlv PP zj b c fun c f=>R (.tuple #[c,(.int .i64 1)]) f) (d [] e))))))) (fun _ _ c=>xL (fun d=>zt PP .lss ze true v1 (.int .i64 0) c fun c e=>vif c (vun PP .neg (.int .i64 1) e fun c f=>d [c] f) (d [(.int .i64 1)] e)) (fun c _ d=>xL (fun e=>zt PP .lss ze true v2 (.int .i64 0) d fun d f=>vif d (vun PP .neg (sl 0 c) f fun d g=>e [d] g) (e [(sl 0 c)] f)) (fun c _ d=>vcall PP qe #[v1] d fun d e=>vcall PP qe #[v2] e fun e f=>xL (fun g=>zt PP .gtr ze false d e f fun f h=>vif f (vcall PP qe #[v2] h fun f i=>vcall PP qe #[v1] i fun i j=>g [f,i] j) (g [d,e] h)) (fun d _ e=>zf PP zj a e fun a e=>zT PP zn [(0,(.bool true)),(1,(sl 0 d)),(2,(sl 1 d))] e fun d e=>vcall PP jr #[a,d] e fun a d=>zk PP a 0 d fun d e=>zk PP a 1 e fun a e=>zZ PP zj e fun e f=>zu PP zj e d f fun _ d=>zf PP zj e d fun d e=>zt PP .mul ze false (sl 0 c) a e fun a c=>zu PP zj b d c fun _ c=>vlv PP zj b c fun b c=>R (.tuple #[b,a]) c))))):vcall PP Q4 #[v0,v1,v2] w R:=zp {cuts:=[(8201,[]),(8194,[13]),(16388,[25]),(45068,[8]),(53262,[8]),(69651,[9,10])]} Tryz.func260 (by kernel_rfl) (by kernel_rfl) h
theorem YN (h:zt PP .lss ze true v0 (.int .i64 10) w fun a b=>vif a (zt PP .add ze true v0 (.int .i64 1) b fun a c=>yA PP zE (.string {data:= #[48,49,50,51,52,53,54,55,56,57,97,98,99,100,101,102,103,104,105,106,107,108,109,110,111,112,113,114,115,116,117,118,119,120,121,122]}) (some v0) (some a) none c fun a c=>R a c) (zt PP .mul ze true v0 (.int .i64 2) b fun a b=>zt PP .mul ze true v0 (.int .i64 2) b fun b c=>zt PP .add ze true b (.int .i64 2) c fun b c=>yA PP zE (.string {data:= #[48,48,48,49,48,50,48,51,48,52,48,53,48,54,48,55,48,56,48,57,49,48,49,49,49,50,49,51,49,52,49,53,49,54,49,55,49,56,49,57,50,48,50,49,50,50,50,51,50,52,50,53,50,54,50,55,50,56,50,57,51,48,51,49,51,50,51,51,51,52,51,53,51,54,51,55,51,56,51,57,52,48,52,49,52,50,52,51,52,52,52,53,52,54,52,55,52,56,52,57,53,48,53,49,53,50,53,51,53,52,53,53,53,54,53,55,53,56,53,57,54,48,54,49,54,50,54,51,54,52,54,53,54,54,54,55,54,56,54,57,55,48,55,49,55,50,55,51,55,52,55,53,55,54,55,55,55,56,55,57,56,48,56,49,56,50,56,51,56,52,56,53,56,54,56,55,56,56,56,57,57,48,57,49,57,50,57,51,57,52,57,53,57,54,57,55,57,56,57,57]}) (some a) (some b) none c fun a b=>R a b)):vcall PP ju #[v0] w R:=zp {} Tryz.func270 (by kernel_rfl) (by kernel_rfl) h
theorem Wp (h:zt PP .and xk true v0 (.int .u64 4294967295) w fun a b=>zt PP .shr xk true v0 (.int .u64 32) b fun b c=>zt PP .and xk true v1 (.int .u64 4294967295) c fun c d=>zt PP .shr xk true v1 (.int .u64 32) d fun d e=>zt PP .mul xk false a c e fun e f=>zt PP .mul xk false b c f fun c f=>zt PP .shr xk true e (.int .u64 32) f fun e f=>zt PP .add xk false c e f fun c e=>zt PP .and xk true c (.int .u64 4294967295) e fun e f=>zt PP .shr xk true c (.int .u64 32) f fun c f=>zt PP .mul xk false a d f fun a f=>zt PP .add xk false e a f fun a e=>zt PP .mul xk false b d e fun b d=>zt PP .add xk false b c d fun b c=>zt PP .shr xk true a (.int .u64 32) c fun a c=>zt PP .add xk false b a c fun a b=>zt PP .mul xk false v0 v1 b fun b c=>R (.tuple #[a,b]) c):vcall PP YK #[v0,v1] w R:=zp {} Tryz.func277 (by kernel_rfl) (by kernel_rfl) h
end Go.Proofs.YtaekfnbnhjgboaaGreatDoor
end
section
namespace Go.Proofs.YtaekfnbnhjgboaaGreatDoor
open Go Go.Vc Go.Proofs
variable {v0 v1 v2 v3 v4 v5 v6 v7 v8:Value} {w:World} {R:Value→World→Prop}
theorem Kz (h:yH PP zn v1 w fun a b=>xL (fun c=>y7 b fun b=>zi PP zn a 1 b fun d e=>e=b∧zf PP ze d b fun d e=>e=b∧zi PP zn a 2 b fun e f=>f=b∧zf PP ze e b fun f g=>g=b∧vcall PP yi #[d] b fun b d=>(zf PP ze e d fun g h=>g=f∧h=d)∧(zi PP zn a 2 d fun g h=>g=e∧h=d)∧vcall PP yi #[f] d fun d e=>zt PP .gtr ze false b d e fun b d=>d=e∧vif b (zi PP zn a 2 e fun b d=>zf PP ze b d fun b d=>zi PP zn a 1 d fun d f=>zf PP ze d f fun d f=>zi PP zn a 1 f fun f i=>zu PP ze f b i fun _ b=>zi PP zn a 2 b fun b f=>zu PP ze b d f fun _ b=>c [] b) (c [] e)) (fun _ _ b=>y7 b fun b=>vnil PP v0 b fun c d=>d=b∧zi PP zK c 1 b fun c d=>d=b∧zf PP zG c b fun c d=>d=b∧zf PP zn a b fun d e=>e=b∧J3 PP zG c d true b fun c d=>d=b∧zk PP c 0 b fun d e=>e=b∧zk PP c 1 b fun c e=>e=b∧vif c (R d b) (vnil PP v0 b fun b c=>zi PP zK b 0 c fun b c=>zi PP zj b 1 c fun b c=>zf PP zm b c fun b c=>vbi PP .len [zm] ze [b] c fun b c=>zt PP .eql ze true b (.int .i64 600) c fun b c=>vif b (R (.int .i64 0) c) (y7 c fun b=>vnil PP v0 b fun c d=>d=b∧zi PP zK c 0 b fun d e=>e=b∧zi PP zj d 1 b fun e f=>f=b∧zf PP zm e b fun f i=>i=b∧zf PP zn a b fun i j=>j=b∧vbuildS PP zm 1 [(0,i)] b fun b i=>(zf PP zm e i fun g h=>g=f∧h=i)∧(zi PP zj d 1 i fun g h=>g=e∧h=i)∧(zi PP zK c 0 i fun g h=>g=d∧h=i)∧(vnil PP v0 i fun g h=>g=c∧h=i)∧vbi PP .append [zm,zm] zm [f,b] i fun b c=>vnil PP v0 c fun d e=>e=c∧zi PP zK d 0 c fun d e=>e=c∧zi PP zj d 1 c fun d e=>e=c∧zu PP zm d b c fun _ b=>y7 b fun b=>vnil PP v0 b fun c d=>d=b∧zi PP zK c 1 b fun d e=>e=b∧zf PP zG d b fun e f=>f=b∧zf PP zn a b fun f i=>i=b∧vnil PP v0 b fun i j=>j=b∧zi PP zK i 0 b fun i j=>j=b∧zf PP zj i b fun i j=>j=b∧vnil PP v0 b fun j k=>k=b∧zi PP zK j 0 b fun j k=>k=b∧zi PP zj j 1 b fun j k=>k=b∧zf PP zm j b fun j k=>k=b∧vbi PP .len [zm] ze [j] b fun j k=>k=b∧vcall PP xm #[i,j] b fun b i=>(zf PP zn a i fun g h=>g=f∧h=i)∧(zf PP zG d i fun g h=>g=e∧h=i)∧(zi PP zK c 1 i fun g h=>g=d∧h=i)∧(vnil PP v0 i fun g h=>g=c∧h=i)∧kW PP zG e f b i fun _ b=>y7 b fun b=>vnil PP v0 b fun c d=>d=b∧zi PP zK c 1 b fun c d=>d=b∧zf PP zG c b fun c d=>d=b∧zf PP zn a b fun a d=>d=b∧J3 PP zG c a false b fun a c=>c=b∧R a b)))):vcall PP qj #[v0,v1] w R:=zp {ord:=[(1,[0,1,3,4,2,5,6],[(0,[1,2,5,6]),(1,[2,5,6]),(3,[4,5,6]),(4,[5,6]),(2,[5,6]),(5,[6])]),(3,[0,1,2,3,4,5,6,7,8,9,10],[(0,[1,2,3,5,6,7,8,9,10]),(1,[2,3,5,6,7,8,9,10]),(2,[3,5,6,7,8,9,10]),(3,[5,6,7,8,9,10]),(4,[5,6,7,8,9,10]),(5,[6,7,8,9,10]),(6,[7,8,9,10]),(7,[9,10]),(8,[10]),(9,[10])]),(8,[0,1,2,3,4,5,6,7,8,9,10,11,12],[(0,[9,10,11,12]),(1,[2,3,4,5,8,9,10,11,12]),(2,[3,4,5,8,9,10,11,12]),(3,[4,5,8,9,10,11,12]),(4,[5,8,9,10,11,12]),(5,[8,9,10,11,12]),(6,[7,8,9,10,11,12]),(7,[8,9,10,11,12]),(8,[9,10,11,12]),(9,[10,11,12]),(10,[11,12]),(11,[12])]),(9,[0,1,2,3,4,5,6,7,8,9,10,11,12,13,14,15,16],[(0,[1,2,3,16]),(1,[2,3,16]),(2,[3,16]),(3,[16]),(4,[16]),(5,[6,7,8,15,16]),(6,[7,8,15,16]),(7,[8,15,16]),(8,[15,16]),(9,[10,11,12,13,14,15,16]),(10,[11,12,13,14,15,16]),(11,[12,13,14,15,16]),(12,[13,14,15,16]),(13,[14,15,16]),(14,[15,16]),(15,[16])]),(10,[0,1,2,3,4,5,6],[(0,[1,2,3,5,6]),(1,[2,3,5,6]),(2,[3,5,6]),(3,[5,6]),(4,[5,6]),(5,[6])])],cuts:=[(8195,[])]} Tryz.func278 (by kernel_rfl) (by kernel_rfl) h
theorem Jo (h:vif v1 (vun PP .neg v0 w fun a b=>R a b) (R v0 w)):vcall PP xO #[v0,v1] w R:=zp {} Tryz.func279 (by kernel_rfl) (by kernel_rfl) h
theorem Qr (h:zf PP za v1 w fun a b=>vbi PP .len [za] ze [a] b fun b c=>yJ [(.int .i64 0)] c fun c d _ e=>zt PP .lss ze false (sl 0 d) b e fun b e=>vif b (zo PP za a (sl 0 d) e fun a b=>zf PP zq a b fun a b=>vcall PP qF #[(sl 0 d)] b fun b f=>yJ [b,(sl 0 d)] f fun b f _ g=>zf PP za v2 g fun g h=>vbi PP .len [za] ze [g] h fun g h=>zt PP .lss ze false (sl 1 f) g h fun g h=>vif g (y7 h fun g=>zf PP zQ v3 g fun i j=>j=g∧zf PP za v2 g fun j k=>k=g∧zt PP .sub ze false (sl 1 f) (sl 0 d) g fun k l=>l=g∧zo PP za j k g fun j k=>k=g∧zf PP zq j g fun j k=>k=g∧vcall PP yq #[i,j,a] g fun a g=>vbuildS PP za 1 [(0,a)] g fun a g=>vbi PP .append [za,za] za [(sl 0 f),a] g fun a g=>zt PP .add ze true (sl 1 f) (.int .i64 1) g fun g i=>b [a,g] i) (vcallv PP v0 #[(sl 0 f)] h fun a b=>vun PP .not a b fun a b=>vif a (R (.tuple #[]) b) (zt PP .add ze true (sl 0 d) (.int .i64 1) b fun a b=>c [a] b))) (R (.tuple #[]) e)):vcall PP xZ #[v0,v1,v2,v3] w R:=zp {ord:=[(7,[0,1,2,3,4,5,6,7,8,9,10,11,12],[(0,[11,12]),(1,[9,10,11,12]),(2,[6,7,9,10,11,12]),(3,[5,6,7,9,10,11,12]),(4,[5,6,7,9,10,11,12]),(5,[6,7,9,10,11,12]),(6,[7,9,10,11,12]),(7,[9,10,11,12]),(8,[9,10,11,12]),(9,[10,11,12]),(10,[11,12]),(11,[12])])],loops:=[(1,[11]),(5,[7,8])]} Tryz.func280 (by kernel_rfl) (by kernel_rfl) h
theorem zi0 (h:yH PP zb v0 w fun a b=>zi PP zb a 0 b fun a b=>zf PP ze a b fun a b=>zt PP .shl ye true (.int .u64 1) a b fun a b=>zt PP .sub ye true a (.int .u64 1) b fun a b=>R a b):vcall PP jM #[v0] w R:=zp {} Tryz.func312 (by kernel_rfl) (by kernel_rfl) h
theorem Ws (h:yH PP yc v0 w fun a b=>zi PP yc a 1 b fun a b=>zf PP ze a b fun a b=>R a b):vcall PP yx #[v0] w R:=zp {} Tryz.func313 (by kernel_rfl) (by kernel_rfl) h
theorem Wr (h:yH PP yc v0 w fun a b=>zi PP yc a 0 b fun a b=>zf PP zE a b fun a b=>R a b):vcall PP yI #[v0] w R:=zp {} Tryz.func314 (by kernel_rfl) (by kernel_rfl) h
theorem Vj (h:yH PP zO v0 w fun _ a=>yH PP zd v2 a fun _ a=>y7 a fun a=>zo PP zg v3 (.int .i64 0) a fun b c=>c=a∧zf PP ze b a fun b c=>c=a∧zt PP .gtr ze true b (.int .i64 0) a fun b c=>c=a∧zo PP zg v3 (.int .i64 0) a fun c d=>d=a∧zf PP ze c a fun c d=>d=a∧vcall PP yf #[b,c] a fun a b=>R a b):vcall PP jF #[v0,v1,v2,v3] w R:=zp {ord:=[(1,[0,1,2,3,4,5,6,7,8],[(0,[1,2,3,7,8]),(1,[2,3,7,8]),(2,[3,7,8]),(3,[7,8]),(4,[5,6,7,8]),(5,[6,7,8]),(6,[7,8]),(7,[8])])]} Tryz.func315 (by kernel_rfl) (by kernel_rfl) h
theorem Kv (h:yH PP zO v0 w fun _ a=>yH PP zd v2 a fun a b=>xL (fun c=>y7 b fun b=>zi PP zd a 0 b fun d e=>e=b∧zf PP ze d b fun e f=>f=b∧zo PP ym v3 (.int .i64 0) b fun f g=>g=b∧zf PP zb f b fun g h=>h=b∧(vcall PP Y5 #[e,g] b fun h i=>zk PP h 0 i fun j k=>k=i∧zk PP h 1 i fun k l=>l=i∧(zZ PP zb i fun i l=>(zk PP h 1 l fun m n=>m=k∧n=l)∧(zk PP h 0 l fun m n=>m=j∧n=l)∧(zu PP zb i j l fun _ j=>(zk PP h 1 j fun m n=>m=k∧n=j)∧c [i] j)∧True)∧True)∧(zZ PP zb b fun b h=>(zf PP zb f h fun m n=>m=g∧n=h)∧(zo PP ym v3 (.int .i64 0) h fun m n=>m=f∧n=h)∧(zf PP ze d h fun m n=>m=e∧n=h)∧(zi PP zd a 0 h fun m n=>m=d∧n=h)∧(vcall PP Y5 #[e,g] h fun a d=>zk PP a 0 d fun e f=>f=d∧zk PP a 1 d fun f g=>g=d∧(zu PP zb b e d fun _ d=>(zk PP a 1 d fun m n=>m=f∧n=d)∧c [b] d)∧True)∧True)∧True) (fun a _ b=>zi PP zb (sl 0 a) 1 b fun a b=>zf PP ze a b fun a b=>R a b)):vcall PP je #[v0,v1,v2,v3] w R:=zp {cuts:=[(8194,[9])],trees:=[(1,(.st 0 (.st 1 (.st 2 (.st 3 (.st 4 (.alt 5 (.st 6 (.st 7 (.st 8 (.alt 9 (.alt 10 (.st 11 .nil) .no) .no)))) (.alt 9 (.alt 5 (.st 6 (.st 7 (.st 8 (.alt 10 (.st 11 .nil) .no)))) .no) .no))))))),[(0,[1,5,6,7,8,10,11]),(1,[5,6,7,8,10,11]),(2,[3,4,5,6,7,8,10,11]),(3,[4,5,6,7,8,10,11]),(4,[5,6,7,8,10,11]),(5,[6,7,8,10,11]),(6,[7,8,10,11]),(7,[10,11]),(8,[11]),(9,[10,11]),(10,[11])])]} Tryz.func316 (by kernel_rfl) (by kernel_rfl) h
theorem xs0 (h:vif v0 (R v1 w) (R (.int .i64 (-1)) w)):vcall PP yf #[v0,v1] w R:=zp {} Tryz.func317 (by kernel_rfl) (by kernel_rfl) h
theorem qt0 (h:yH PP zb v1 w fun a b=>zZ PP zb b fun b c=>zf PP zb a c fun c d=>vcall PP xG #[c] d fun c d=>vun PP .not c d fun c d=>vif c (zT PP zb [] d fun c e=>zu PP zb b c e fun _ c=>vlv PP zb b c fun c e=>R (.tuple #[c,(.bool false)]) e) (zt PP .eql ze true v0 (.int .i64 1) d fun c d=>vif c (y7 d fun c=>zf PP zb a c fun e f=>f=c∧zf PP zb a c fun f g=>g=c∧vcall PP zI #[f] c fun c f=>(zf PP zb a f fun g h=>g=e∧h=f)∧vun PP .xor c f fun c i=>i=f∧vcall PP j6 #[e,c] f fun c e=>zu PP zb b c e fun _ c=>vlv PP zb b c fun c e=>R (.tuple #[c,(.bool true)]) e) (zt PP .eql ze true v0 (.int .i64 2) d fun c d=>vif c (y7 d fun c=>zf PP zb a c fun e f=>f=c∧zf PP zb a c fun f i=>i=c∧vcall PP zI #[f] c fun c f=>(zf PP zb a f fun g h=>g=e∧h=f)∧vun PP .neg c f fun a c=>c=f∧vcall PP j6 #[e,a] f fun a c=>zu PP zb b a c fun _ a=>vlv PP zb b a fun a c=>R (.tuple #[a,(.bool true)]) c) (zT PP zb [] d fun a c=>zu PP zb b a c fun _ a=>vlv PP zb b a fun a b=>R (.tuple #[a,(.bool false)]) b)))):vcall PP Y5 #[v0,v1] w R:=zp {ord:=[(4,[0,1,2,3,4,5,6],[(0,[4,5,6]),(1,[2,3,4,5,6]),(2,[3,4,5,6]),(3,[4,5,6]),(4,[5,6]),(5,[6])]),(6,[0,1,2,3,4,5,6],[(0,[4,5,6]),(1,[2,3,4,5,6]),(2,[3,4,5,6]),(3,[4,5,6]),(4,[5,6]),(5,[6])])]} Tryz.func318 (by kernel_rfl) (by kernel_rfl) h
theorem yd0 (h:yH PP zb v0 w fun a b=>zZ PP zb b fun b c=>y7 c fun c=>zi PP zb a 0 c fun d e=>e=c∧zf PP ze d c fun e f=>f=c∧zi PP zb a 0 c fun f g=>g=c∧zf PP ze f c fun f g=>g=c∧vcall PP kE #[v1,f] c fun c f=>(zf PP ze d f fun g h=>g=e∧h=f)∧(zi PP zb a 0 f fun g h=>g=d∧h=f)∧Yn PP ye ze c f fun a c=>c=f∧zT PP zb [(0,e),(1,a)] f fun a c=>c=f∧zu PP zb b a f fun _ a=>vlv PP zb b a fun a b=>R a b):vcall PP j6 #[v0,v1] w R:=zp {ord:=[(1,[0,1,2,3,4,5,6,7,8],[(0,[1,7,8]),(1,[7,8]),(2,[5,6,7,8]),(3,[4,5,6,7,8]),(4,[5,6,7,8]),(5,[6,7,8]),(6,[7,8]),(7,[8])])]} Tryz.func319 (by kernel_rfl) (by kernel_rfl) h
theorem y60 (h:zt PP .shl ye true (.int .u64 1) v1 w fun a b=>zt PP .sub ye true a (.int .u64 1) b fun a b=>zt PP .and ye false v0 a b fun a b=>R a b):vcall PP kE #[v0,v1] w R:=zp {} Tryz.func320 (by kernel_rfl) (by kernel_rfl) h
theorem KA (h:yH PP zV v0 w fun _ a=>yH PP zd v2 a fun _ a=>y7 a fun a=>zo PP zg v3 (.int .i64 0) a fun b c=>c=a∧zf PP ze b a fun b c=>c=a∧zt PP .gtr ze true b (.int .i64 0) a fun b c=>c=a∧vif b (zo PP zg v3 (.int .i64 1) a fun b c=>c=a∧zf PP ze b a fun b c=>c=a∧zt PP .gtr ze true b (.int .i64 0) a fun b c=>c=a∧vif b (zo PP zg v3 (.int .i64 0) a fun b c=>c=a∧zf PP ze b a fun b c=>c=a∧zo PP zg v3 (.int .i64 1) a fun c d=>d=a∧zf PP ze c a fun c d=>d=a∧zt PP .add ze false b c a fun b c=>c=a∧zt PP .leq ze true b (.int .i64 4) a fun b c=>c=a∧zo PP zg v3 (.int .i64 0) a fun c d=>d=a∧zf PP ze c a fun c d=>d=a∧zo PP zg v3 (.int .i64 1) a fun d e=>e=a∧zf PP ze d a fun d e=>e=a∧zt PP .add ze false c d a fun c d=>d=a∧vcall PP yf #[b,c] a fun b c=>R b c) (zo PP zg v3 (.int .i64 0) a fun b c=>c=a∧zf PP ze b a fun b c=>c=a∧zo PP zg v3 (.int .i64 1) a fun c d=>d=a∧zf PP ze c a fun c d=>d=a∧zt PP .add ze false b c a fun b c=>c=a∧vcall PP yf #[(.bool false),b] a fun b c=>R b c)) (zo PP zg v3 (.int .i64 0) a fun b c=>c=a∧zf PP ze b a fun b c=>c=a∧zo PP zg v3 (.int .i64 1) a fun c d=>d=a∧zf PP ze c a fun c d=>d=a∧zt PP .add ze false b c a fun b c=>c=a∧vcall PP yf #[(.bool false),b] a fun a b=>R a b)):vcall PP jj #[v0,v1,v2,v3] w R:=zp {ord:=[(1,[0,1,2,3,4,5,6,7,8,9,10,11,12,13,14,15,16,17,18,19,20,21,22,23,24,25,26,27,28],[(0,[1,2,3,4,5,6,7,8,9,10,11,12,13,14,15,16,17,18,19,27,28]),(1,[2,3,4,5,6,7,8,9,10,11,12,13,14,15,16,17,18,19,27,28]),(2,[3,4,5,6,7,8,9,10,11,12,13,14,15,16,17,18,19,27,28]),(3,[4,5,6,7,8,9,10,11,12,13,14,15,16,17,18,19,27,28]),(4,[5,6,7,8,9,10,11,12,13,14,15,16,17,18,19,27,28]),(5,[6,7,8,9,10,11,12,13,14,15,16,17,18,19,27,28]),(6,[7,8,9,10,11,12,13,14,15,16,17,18,19,27,28]),(7,[8,9,10,11,12,13,14,15,16,17,18,19,27,28]),(8,[9,10,11,12,13,14,15,16,17,18,19,27,28]),(9,[10,11,12,13,14,15,16,17,18,19,27,28]),(10,[11,12,13,14,15,16,17,18,19,27,28]),(11,[12,13,17,18,19,27,28]),(12,[13,17,18,19,27,28]),(13,[17,18,19,27,28]),(14,[15,16,17,18,19,27,28]),(15,[16,17,18,19,27,28]),(16,[17,18,19,27,28]),(17,[18,19,27,28]),(18,[19,27,28]),(19,[27,28]),(20,[21,22,26,27,28]),(21,[22,26,27,28]),(22,[26,27,28]),(23,[24,25,26,27,28]),(24,[25,26,27,28]),(25,[26,27,28]),(26,[27,28]),(27,[28])])]} Tryz.func321 (by kernel_rfl) (by kernel_rfl) h
theorem Js (h:yH PP zV v0 w fun _ a=>yH PP zd v2 a fun a b=>xL (fun c=>y7 b fun b=>zi PP zd a 0 b fun d e=>e=b∧zf PP ze d b fun e f=>f=b∧zo PP ym v3 (.int .i64 0) b fun f g=>g=b∧zf PP zb f b fun g h=>h=b∧zo PP ym v3 (.int .i64 1) b fun h i=>i=b∧zf PP zb h b fun i j=>j=b∧(vcall PP qR #[e,g,i] b fun j k=>zk PP j 0 k fun l m=>m=k∧zk PP j 1 k fun m n=>n=k∧(zZ PP zb k fun k n=>(zk PP j 1 n fun o p=>o=m∧p=n)∧(zk PP j 0 n fun o p=>o=l∧p=n)∧(zu PP zb k l n fun _ l=>(zk PP j 1 l fun o p=>o=m∧p=l)∧c [k] l)∧True)∧True)∧(zZ PP zb b fun b j=>(zf PP zb h j fun o p=>o=i∧p=j)∧(zo PP ym v3 (.int .i64 1) j fun o p=>o=h∧p=j)∧(zf PP zb f j fun o p=>o=g∧p=j)∧(zo PP ym v3 (.int .i64 0) j fun o p=>o=f∧p=j)∧(zf PP ze d j fun o p=>o=e∧p=j)∧(zi PP zd a 0 j fun o p=>o=d∧p=j)∧(vcall PP qR #[e,g,i] j fun a d=>zk PP a 0 d fun e f=>f=d∧zk PP a 1 d fun f g=>g=d∧(zu PP zb b e d fun _ d=>(zk PP a 1 d fun o p=>o=f∧p=d)∧c [b] d)∧True)∧True)∧True) (fun a _ b=>zi PP zb (sl 0 a) 1 b fun a b=>zf PP ze a b fun a b=>R a b)):vcall PP qX #[v0,v1,v2,v3] w R:=zp {cuts:=[(8194,[9])],trees:=[(1,(.st 0 (.st 1 (.st 2 (.st 3 (.st 4 (.st 5 (.st 6 (.st 7 (.alt 8 (.st 9 (.st 10 (.st 11 (.alt 12 (.alt 13 (.st 14 .nil) .no) .no)))) (.alt 12 (.alt 8 (.st 9 (.st 10 (.st 11 (.alt 13 (.st 14 .nil) .no)))) .no) .no)))))))))),[(0,[1,8,9,10,11,13,14]),(1,[8,9,10,11,13,14]),(2,[3,4,8,9,10,11,13,14]),(3,[4,8,9,10,11,13,14]),(4,[8,9,10,11,13,14]),(5,[6,7,8,9,10,11,13,14]),(6,[7,8,9,10,11,13,14]),(7,[8,9,10,11,13,14]),(8,[9,10,11,13,14]),(9,[10,11,13,14]),(10,[13,14]),(11,[14]),(12,[13,14]),(13,[14])])]} Tryz.func322 (by kernel_rfl) (by kernel_rfl) h
theorem xy0 (h:yH PP zb v1 w fun a b=>yH PP zb v2 b fun b c=>zZ PP zb c fun c d=>xL (fun e=>zf PP zb a d fun d f=>vcall PP xG #[d] f fun d f=>vun PP .not d f fun d f=>vif d (zT PP zb [] f fun d g=>zu PP zb c d g fun _ d=>vlv PP zb c d fun d g=>R (.tuple #[d,(.bool false)]) g) (zf PP zb b f fun d f=>vcall PP xG #[d] f fun d f=>vun PP .not d f fun d f=>vif d (zT PP zb [] f fun d g=>zu PP zb c d g fun _ d=>vlv PP zb c d fun d g=>R (.tuple #[d,(.bool false)]) g) (e [] f))) (fun _ _ d=>zt PP .eql ze true v0 (.int .i64 14) d fun d e=>vif d (y7 e fun d=>zi PP zb a 0 d fun f g=>g=d∧zf PP ze f d fun g h=>h=d∧zi PP zb b 0 d fun h i=>i=d∧zf PP ze h d fun i j=>j=d∧zt PP .add ze false g i d fun j k=>k=d∧zi PP zb a 1 d fun k l=>l=d∧zf PP ze k d fun l m=>m=d∧zi PP zb b 0 d fun m n=>n=d∧zf PP ze m d fun n o=>o=d∧zt PP .shl ze false l n d fun o p=>p=d∧zi PP zb b 1 d fun p q=>q=d∧zf PP ze p d fun q r=>r=d∧zt PP .or ze false o q d fun r s=>s=d∧zT PP zb [(0,j),(1,r)] d fun s t=>t=d∧zZ PP zb d fun d t=>(zT PP zb [(0,j),(1,r)] t fun u v=>u=s∧v=t)∧(zt PP .or ze false o q t fun u v=>u=r∧v=t)∧(zf PP ze p t fun u v=>u=q∧v=t)∧(zi PP zb b 1 t fun u v=>u=p∧v=t)∧(zt PP .shl ze false l n t fun u v=>u=o∧v=t)∧(zf PP ze m t fun u v=>u=n∧v=t)∧(zi PP zb b 0 t fun u v=>u=m∧v=t)∧(zf PP ze k t fun u v=>u=l∧v=t)∧(zi PP zb a 1 t fun u v=>u=k∧v=t)∧(zt PP .add ze false g i t fun u v=>u=j∧v=t)∧(zf PP ze h t fun u v=>u=i∧v=t)∧(zi PP zb b 0 t fun u v=>u=h∧v=t)∧(zf PP ze f t fun u v=>u=g∧v=t)∧(zi PP zb a 0 t fun u v=>u=f∧v=t)∧zu PP zb d s t fun _ f=>zi PP zb d 0 f fun f g=>zf PP ze f g fun f g=>zt PP .gtr ze true f (.int .i64 4) g fun f g=>vif f (zT PP zb [] g fun f h=>zu PP zb c f h fun _ f=>vlv PP zb c f fun f h=>R (.tuple #[f,(.bool false)]) h) (zf PP zb d g fun d f=>zu PP zb c d f fun _ d=>vlv PP zb c d fun d f=>R (.tuple #[d,(.bool true)]) f)) (xL (fun d=>zt PP .lss ze true v0 (.int .i64 3) e fun e f=>vif e (zT PP zb [] f fun e g=>zu PP zb c e g fun _ e=>vlv PP zb c e fun e g=>R (.tuple #[e,(.bool false)]) g) (zt PP .gtr ze true v0 (.int .i64 13) f fun e f=>vif e (zT PP zb [] f fun e g=>zu PP zb c e g fun _ e=>vlv PP zb c e fun e g=>R (.tuple #[e,(.bool false)]) g) (zi PP zb a 0 f fun e f=>zf PP ze e f fun e f=>zi PP zb b 0 f fun f g=>zf PP ze f g fun f g=>zt PP .neq ze false e f g fun e f=>vif e (zT PP zb [] f fun e g=>zu PP zb c e g fun _ e=>vlv PP zb c e fun e g=>R (.tuple #[e,(.bool false)]) g) (d [] f)))) (fun _ _ d=>y7 d fun d=>zf PP zb a d fun e f=>f=d∧zf PP zb a d fun f g=>g=d∧zf PP zb b d fun g h=>h=d∧vcall PP ZC #[] d fun d h=>(zf PP zb b h fun u v=>u=g∧v=h)∧(zf PP zb a h fun u v=>u=f∧v=h)∧(zf PP zb a h fun u v=>u=e∧v=h)∧yo0 PP zY d v0 h fun b d=>d=h∧vcallv PP b #[f,g] h fun b d=>(zf PP zb a d fun u v=>u=e∧v=d)∧vcall PP j6 #[e,b] d fun a b=>zu PP zb c a b fun _ a=>vlv PP zb c a fun a b=>R (.tuple #[a,(.bool true)]) b)))):vcall PP qR #[v0,v1,v2] w R:=zp {ord:=[(4,[0,1,2,3,4,5,6,7,8,9,10,11,12,13,14,15],[(0,[1,4,13,15]),(1,[4,13,15]),(2,[3,4,13,15]),(3,[4,13,15]),(4,[13,15]),(5,[6,9,12,13,15]),(6,[9,12,13,15]),(7,[8,9,12,13,15]),(8,[9,12,13,15]),(9,[12,13,15]),(10,[11,12,13,15]),(11,[12,13,15]),(12,[13,15]),(13,[15]),(14,[15])]),(10,[0,2,4,5,1,3,6,7,8,9],[(0,[7,8,9]),(2,[3,6,7,8,9]),(4,[6,7,8,9]),(5,[6,7,8,9]),(1,[3,6,7,8,9]),(3,[6,7,8,9]),(6,[7,8,9]),(7,[8,9]),(8,[9])])],cuts:=[(8195,[]),(36874,[])]} Tryz.func323 (by kernel_rfl) (by kernel_rfl) h
theorem zh0 (h:zZ PP zY w fun a b=>zT PP zY [(3,(.func (.func xd) #[] #[])),(4,(.func (.func xc) #[] #[])),(5,(.func (.func xb) #[] #[])),(6,(.func (.func xa) #[] #[])),(7,(.func (.func x8) #[] #[])),(8,(.func (.func x7) #[] #[])),(9,(.func (.func x6) #[] #[])),(10,(.func (.func x5) #[] #[])),(11,(.func (.func yZ) #[] #[])),(12,(.func (.func yS) #[] #[])),(13,(.func (.func yR) #[] #[]))] b fun b c=>zu PP zY a b c fun _ b=>vlv PP zY a b fun a b=>R a b):vcall PP ZC #[] w R:=zp {} Tryz.func324 (by kernel_rfl) (by kernel_rfl) h
theorem WE (h:yH PP zb v0 w fun a b=>yH PP zb v1 b fun b c=>y7 c fun c=>zf PP zb a c fun a d=>d=c∧zf PP zb b c fun d e=>e=c∧vcall PP zI #[a] c fun a c=>(zf PP zb b c fun b e=>b=d∧e=c)∧vcall PP zI #[d] c fun b c=>zt PP .and ye false a b c fun a b=>b=c∧R a c):vcall PP xd #[v0,v1] w R:=zp {ord:=[(1,[0,2,1,3,4,5],[(0,[1,3,4,5]),(2,[3,4,5]),(1,[3,4,5]),(3,[4,5]),(4,[5])])]} Tryz.func325 (by kernel_rfl) (by kernel_rfl) h
theorem WD (h:yH PP zb v0 w fun a b=>yH PP zb v1 b fun b c=>y7 c fun c=>zf PP zb a c fun a d=>d=c∧zf PP zb b c fun d e=>e=c∧vcall PP zI #[a] c fun a c=>(zf PP zb b c fun b e=>b=d∧e=c)∧vcall PP zI #[d] c fun b c=>zt PP .or ye false a b c fun a b=>b=c∧R a c):vcall PP xc #[v0,v1] w R:=zp {ord:=[(1,[0,2,1,3,4,5],[(0,[1,3,4,5]),(2,[3,4,5]),(1,[3,4,5]),(3,[4,5]),(4,[5])])]} Tryz.func326 (by kernel_rfl) (by kernel_rfl) h
theorem WC (h:yH PP zb v0 w fun a b=>yH PP zb v1 b fun b c=>y7 c fun c=>zf PP zb a c fun a d=>d=c∧zf PP zb b c fun d e=>e=c∧vcall PP zI #[a] c fun a c=>(zf PP zb b c fun b e=>b=d∧e=c)∧vcall PP zI #[d] c fun b c=>zt PP .xor ye false a b c fun a b=>b=c∧R a c):vcall PP xb #[v0,v1] w R:=zp {ord:=[(1,[0,2,1,3,4,5],[(0,[1,3,4,5]),(2,[3,4,5]),(1,[3,4,5]),(3,[4,5]),(4,[5])])]} Tryz.func327 (by kernel_rfl) (by kernel_rfl) h
theorem WB (h:yH PP zb v0 w fun a b=>yH PP zb v1 b fun b c=>y7 c fun c=>zf PP zb a c fun a d=>d=c∧zf PP zb b c fun d e=>e=c∧vcall PP zI #[a] c fun a c=>(zf PP zb b c fun b e=>b=d∧e=c)∧vcall PP zI #[d] c fun b c=>zt PP .add ye false a b c fun a b=>b=c∧R a c):vcall PP xa #[v0,v1] w R:=zp {ord:=[(1,[0,2,1,3,4,5],[(0,[1,3,4,5]),(2,[3,4,5]),(1,[3,4,5]),(3,[4,5]),(4,[5])])]} Tryz.func328 (by kernel_rfl) (by kernel_rfl) h
theorem WA (h:yH PP zb v0 w fun a b=>yH PP zb v1 b fun b c=>y7 c fun c=>zf PP zb a c fun a d=>d=c∧zf PP zb b c fun d e=>e=c∧vcall PP zI #[a] c fun a c=>(zf PP zb b c fun b e=>b=d∧e=c)∧vcall PP zI #[d] c fun b c=>zt PP .sub ye false a b c fun a b=>b=c∧R a c):vcall PP x8 #[v0,v1] w R:=zp {ord:=[(1,[0,2,1,3,4,5],[(0,[1,3,4,5]),(2,[3,4,5]),(1,[3,4,5]),(3,[4,5]),(4,[5])])]} Tryz.func329 (by kernel_rfl) (by kernel_rfl) h
theorem Wz (h:yH PP zb v0 w fun a b=>yH PP zb v1 b fun b c=>y7 c fun c=>zf PP zb a c fun a d=>d=c∧zf PP zb b c fun d e=>e=c∧vcall PP zI #[a] c fun a c=>(zf PP zb b c fun b e=>b=d∧e=c)∧vcall PP zI #[d] c fun b c=>zt PP .mul ye false a b c fun a b=>b=c∧R a c):vcall PP x7 #[v0,v1] w R:=zp {ord:=[(1,[0,2,1,3,4,5],[(0,[1,3,4,5]),(2,[3,4,5]),(1,[3,4,5]),(3,[4,5]),(4,[5])])]} Tryz.func330 (by kernel_rfl) (by kernel_rfl) h
theorem Wy (h:yH PP zb v0 w fun a b=>yH PP zb v1 b fun b c=>zi PP zb b 1 c fun c d=>zf PP ze c d fun c d=>zt PP .eql ze true c (.int .i64 0) d fun c d=>vif c (zf PP zb a d fun c e=>vcall PP jM #[c] e fun c e=>R c e) (y7 d fun c=>zf PP zb a c fun a d=>d=c∧zf PP zb b c fun d e=>e=c∧vcall PP zI #[a] c fun a c=>(zf PP zb b c fun b e=>b=d∧e=c)∧vcall PP zI #[d] c fun b c=>zt PP .quo ye false a b c fun a b=>b=c∧R a c)):vcall PP x6 #[v0,v1] w R:=zp {ord:=[(3,[0,2,1,3,4,5],[(0,[1,3,4,5]),(2,[3,4,5]),(1,[3,4,5]),(3,[4,5]),(4,[5])])]} Tryz.func331 (by kernel_rfl) (by kernel_rfl) h
theorem Wx (h:yH PP zb v0 w fun a b=>yH PP zb v1 b fun b c=>zi PP zb b 1 c fun c d=>zf PP ze c d fun c d=>zt PP .eql ze true c (.int .i64 0) d fun c d=>vif c (zf PP zb a d fun c e=>vcall PP zI #[c] e fun c e=>R c e) (y7 d fun c=>zf PP zb a c fun a d=>d=c∧zf PP zb b c fun d e=>e=c∧vcall PP zI #[a] c fun a c=>(zf PP zb b c fun b e=>b=d∧e=c)∧vcall PP zI #[d] c fun b c=>zt PP .rem ye false a b c fun a b=>b=c∧R a c)):vcall PP x5 #[v0,v1] w R:=zp {ord:=[(3,[0,2,1,3,4,5],[(0,[1,3,4,5]),(2,[3,4,5]),(1,[3,4,5]),(3,[4,5]),(4,[5])])]} Tryz.func332 (by kernel_rfl) (by kernel_rfl) h
theorem Ww (h:yH PP zb v0 w fun a b=>yH PP zb v1 b fun b c=>y7 c fun c=>zf PP zb a c fun a d=>d=c∧zf PP zb b c fun d e=>e=c∧vcall PP zI #[a] c fun a c=>(zf PP zb b c fun b e=>b=d∧e=c)∧vcall PP zI #[d] c fun b c=>zt PP .shl ye false a b c fun a b=>b=c∧R a c):vcall PP yZ #[v0,v1] w R:=zp {ord:=[(1,[0,2,1,3,4,5],[(0,[1,3,4,5]),(2,[3,4,5]),(1,[3,4,5]),(3,[4,5]),(4,[5])])]} Tryz.func333 (by kernel_rfl) (by kernel_rfl) h
theorem Vw (h:yH PP zb v0 w fun a b=>yH PP zb v1 b fun b c=>y7 c fun c=>zf PP zb a c fun a d=>d=c∧zf PP zb b c fun d e=>e=c∧vcall PP zI #[a] c fun a c=>(zf PP zb b c fun b e=>b=d∧e=c)∧vcall PP zI #[d] c fun b c=>zt PP .shr ye false a b c fun a b=>b=c∧R a c):vcall PP yS #[v0,v1] w R:=zp {ord:=[(1,[0,2,1,3,4,5],[(0,[1,3,4,5]),(2,[3,4,5]),(1,[3,4,5]),(3,[4,5]),(4,[5])])]} Tryz.func334 (by kernel_rfl) (by kernel_rfl) h
theorem Vv (h:yH PP zb v0 w fun a b=>yH PP zb v1 b fun b c=>y7 c fun c=>zf PP zb a c fun a d=>d=c∧zf PP zb b c fun d e=>e=c∧vcall PP j3 #[a] c fun a c=>(zf PP zb b c fun b e=>b=d∧e=c)∧vcall PP zI #[d] c fun b c=>zt PP .shr ye false a b c fun a b=>b=c∧R a c):vcall PP yR #[v0,v1] w R:=zp {ord:=[(1,[0,2,1,3,4,5],[(0,[1,3,4,5]),(2,[3,4,5]),(1,[3,4,5]),(3,[4,5]),(4,[5])])]} Tryz.func335 (by kernel_rfl) (by kernel_rfl) h
theorem Jy (h:yH PP zb v0 w fun a b=>y7 b fun b=>zf PP zb a b fun c d=>d=b∧zi PP zb a 0 b fun d e=>e=b∧zf PP ze d b fun e f=>f=b∧zt PP .sub ze true e (.int .i64 1) b fun f g=>g=b∧vcall PP zI #[c] b fun b c=>(zt PP .sub ze true e (.int .i64 1) c fun g h=>g=f∧h=c)∧(zf PP ze d c fun g h=>g=e∧h=c)∧(zi PP zb a 0 c fun g h=>g=d∧h=c)∧vcall PP qq #[b,f] c fun b c=>vif b (y7 c fun b=>zf PP zb a b fun d e=>e=b∧zf PP zb a b fun e f=>f=b∧vcall PP zI #[d] b fun b d=>(zf PP zb a d fun g h=>g=e∧h=d)∧vcall PP jM #[e] d fun d e=>vun PP .xor d e fun d f=>f=e∧zt PP .and ye true d (.int .u64 4294967295) e fun d f=>f=e∧zt PP .or ye false b d e fun b d=>d=e∧R b e) (zf PP zb a c fun a b=>vcall PP zI #[a] b fun a b=>R a b)):vcall PP j3 #[v0] w R:=zp {ord:=[(1,[0,2,3,4,1,5],[(0,[1,5]),(2,[3,4,5]),(3,[4,5]),(4,[5]),(1,[5])]),(2,[0,2,1,3,4,5,6,7],[(0,[1,3,4,5,6,7]),(2,[3,4,5,6,7]),(1,[3,4,5,6,7]),(3,[4,5,6,7]),(4,[5,6,7]),(5,[6,7]),(6,[7])])]} Tryz.func336 (by kernel_rfl) (by kernel_rfl) h
theorem Ky (h:yH PP zJ v0 w fun _ a=>yH PP zd v2 a fun _ a=>y7 a fun a=>zo PP zg v3 (.int .i64 0) a fun b c=>c=a∧zf PP ze b a fun b c=>c=a∧zt PP .gtr ze true b (.int .i64 0) a fun b c=>c=a∧vif b (zo PP zg v3 (.int .i64 0) a fun b c=>c=a∧zf PP ze b a fun b c=>c=a∧zo PP zg v3 (.int .i64 1) a fun c d=>d=a∧zf PP ze c a fun c d=>d=a∧zt PP .eql ze false b c a fun b c=>c=a∧vcall PP yf #[b,(.int .i64 0)] a fun b c=>R b c) (vcall PP yf #[(.bool false),(.int .i64 0)] a fun a b=>R a b)):vcall PP ji #[v0,v1,v2,v3] w R:=zp {ord:=[(1,[0,1,2,3,4,5,6,7,8,9,10,11,12,13,14],[(0,[1,2,3,4,5,6,7,8,9,10,11,12,13,14]),(1,[2,3,4,5,6,7,8,9,10,11,12,13,14]),(2,[3,4,5,6,7,8,9,10,11,12,13,14]),(3,[4,5,6,7,8,9,10,11,12,13,14]),(4,[5,6,7,8,9,10,11,12,13,14]),(5,[6,7,11,12,13,14]),(6,[7,11,12,13,14]),(7,[11,12,13,14]),(8,[9,10,11,12,13,14]),(9,[10,11,12,13,14]),(10,[11,12,13,14]),(11,[12,13,14]),(12,[13,14]),(13,[14])])]} Tryz.func337 (by kernel_rfl) (by kernel_rfl) h
theorem Jr (h:yH PP zJ v0 w fun _ a=>yH PP zd v2 a fun a b=>y7 b fun b=>zi PP zd a 0 b fun a c=>c=b∧zf PP ze a b fun a c=>c=b∧zo PP ym v3 (.int .i64 0) b fun c d=>d=b∧zf PP zb c b fun c d=>d=b∧zo PP ym v3 (.int .i64 1) b fun d e=>e=b∧zf PP zb d b fun d e=>e=b∧vcall PP Xo #[a,c,d] b fun a b=>zk PP a 0 b fun c d=>d=b∧zk PP a 1 b fun _ a=>a=b∧vcall PP Zn #[c] b fun a b=>R a b):vcall PP qW #[v0,v1,v2,v3] w R:=zp {ord:=[(1,[0,1,2,3,4,5,6,7,8,9,10,11,12,13],[(0,[1,8,9,10,11,12,13]),(1,[8,9,10,11,12,13]),(2,[3,4,8,9,10,11,12,13]),(3,[4,8,9,10,11,12,13]),(4,[8,9,10,11,12,13]),(5,[6,7,8,9,10,11,12,13]),(6,[7,8,9,10,11,12,13]),(7,[8,9,10,11,12,13]),(8,[9,10,11,12,13]),(9,[10,11,12,13]),(10,[12,13]),(11,[13]),(12,[13])])]} Tryz.func338 (by kernel_rfl) (by kernel_rfl) h
theorem xx0 (h:yH PP zb v1 w fun a b=>yH PP zb v2 b fun b c=>xL (fun d=>zf PP zb a c fun c e=>vcall PP xG #[c] e fun c e=>vun PP .not c e fun c e=>vif c (R (.tuple #[(.bool false),(.bool false)]) e) (zf PP zb b e fun c e=>vcall PP xG #[c] e fun c e=>vun PP .not c e fun c e=>vif c (R (.tuple #[(.bool false),(.bool false)]) e) (zi PP zb a 0 e fun c e=>zf PP ze c e fun c e=>zi PP zb b 0 e fun e f=>zf PP ze e f fun e f=>zt PP .neq ze false c e f fun c e=>vif c (R (.tuple #[(.bool false),(.bool false)]) e) (d [] e)))) (fun _ _ c=>zt PP .eql ze true v0 (.int .i64 15) c fun c d=>vif c (zf PP zb a d fun c e=>zf PP zb b e fun e f=>zt PP .eql zb false c e f fun c e=>R (.tuple #[c,(.bool true)]) e) (zt PP .eql ze true v0 (.int .i64 16) d fun c d=>vif c (zi PP zb a 1 d fun c e=>zf PP ze c e fun c e=>zi PP zb b 1 e fun e f=>zf PP ze e f fun e f=>zt PP .lss ze false c e f fun c e=>R (.tuple #[c,(.bool true)]) e) (zt PP .eql ze true v0 (.int .i64 17) d fun c d=>vif c (y7 d fun c=>zf PP zb a c fun a e=>e=c∧zf PP zb b c fun e f=>f=c∧vcall PP ja #[a] c fun a c=>(zf PP zb b c fun b f=>b=e∧f=c)∧vcall PP ja #[e] c fun b c=>zt PP .lss ze false a b c fun a b=>b=c∧R (.tuple #[a,(.bool true)]) c) (R (.tuple #[(.bool false),(.bool false)]) d))))):vcall PP Xo #[v0,v1,v2] w R:=zp {ord:=[(9,[0,2,1,3,4,5,6],[(0,[1,3,4,5,6]),(2,[3,4,5,6]),(1,[3,4,5,6]),(3,[4,5,6]),(4,[5,6]),(5,[6])])],cuts:=[(8195,[])]} Tryz.func339 (by kernel_rfl) (by kernel_rfl) h
theorem xu0 (h:vif v0 (R (.int .i64 1) w) (R (.int .i64 0) w)):vcall PP Zn #[v0] w R:=zp {} Tryz.func340 (by kernel_rfl) (by kernel_rfl) h
theorem Uq (h:yH PP zb v0 w fun a b=>zf PP zb a b fun b c=>vcall PP xG #[b] c fun b c=>vun PP .not b c fun b c=>vif b (R (.int .i64 0) c) (y7 c fun b=>zf PP zb a b fun c d=>d=b∧zi PP zb a 0 b fun d e=>e=b∧zf PP ze d b fun e f=>f=b∧zt PP .sub ze true e (.int .i64 1) b fun f g=>g=b∧vcall PP zI #[c] b fun b c=>(zt PP .sub ze true e (.int .i64 1) c fun g h=>g=f∧h=c)∧(zf PP ze d c fun g h=>g=e∧h=c)∧(zi PP zb a 0 c fun g h=>g=d∧h=c)∧vcall PP qq #[b,f] c fun b c=>vif b (y7 c fun b=>zi PP zb a 1 b fun d e=>e=b∧zf PP ze d b fun d e=>e=b∧zi PP zb a 0 b fun e f=>f=b∧zf PP ze e b fun e f=>f=b∧zt PP .shl ze true (.int .i64 1) e b fun e f=>f=b∧zt PP .sub ze false d e b fun d e=>e=b∧R d b) (zi PP zb a 1 c fun a b=>zf PP ze a b fun a b=>R a b))):vcall PP ja #[v0] w R:=zp {ord:=[(3,[0,2,3,4,1,5],[(0,[1,5]),(2,[3,4,5]),(3,[4,5]),(4,[5]),(1,[5])]),(4,[0,1,2,3,4,5,6],[(0,[1,5,6]),(1,[5,6]),(2,[3,4,5,6]),(3,[4,5,6]),(4,[5,6]),(5,[6])])]} Tryz.func341 (by kernel_rfl) (by kernel_rfl) h
theorem Ku (h:yH PP zR v0 w fun _ a=>yH PP zd v2 a fun a b=>y7 b fun b=>zi PP zd a 1 b fun c d=>d=b∧zf PP ze c b fun c d=>d=b∧zi PP zd a 2 b fun d e=>e=b∧zf PP ze d b fun d e=>e=b∧zT PP zb [(0,c),(1,d)] b fun c d=>d=b∧zi PP zd a 1 b fun d e=>e=b∧zf PP ze d b fun e f=>f=b∧vcall PP xG #[c] b fun b c=>(zf PP ze d c fun f g=>f=e∧g=c)∧(zi PP zd a 1 c fun f g=>f=d∧g=c)∧vcall PP yf #[b,e] c fun a b=>R a b):vcall PP jd #[v0,v1,v2,v3] w R:=zp {ord:=[(1,[0,1,2,3,4,6,7,5,8,9],[(0,[1,4,5,8,9]),(1,[4,5,8,9]),(2,[3,4,5,8,9]),(3,[4,5,8,9]),(4,[5,8,9]),(6,[7,8,9]),(7,[8,9]),(5,[8,9]),(8,[9])])]} Tryz.func342 (by kernel_rfl) (by kernel_rfl) h
theorem Jn (h:yH PP zR v0 w fun _ a=>yH PP zd v2 a fun a b=>zi PP zd a 2 b fun a b=>zf PP ze a b fun a b=>R a b):vcall PP qT #[v0,v1,v2,v3] w R:=zp {} Tryz.func343 (by kernel_rfl) (by kernel_rfl) h
theorem Jp (h:yH PP zL v0 w fun _ a=>yH PP zd v2 a fun a b=>kY0 PP (.func jY) [] [a] b fun a b=>vcall PP yp #[v1,a] b fun a b=>zt PP .lss ze true a (.int .i64 0) b fun b c=>vif b (R (.int .i64 (-1)) c) (zo PP zD v1 a c fun a b=>zi PP zz a 1 b fun a b=>zf PP ze a b fun a b=>R a b)):vcall PP qU #[v0,v1,v2,v3] w R:=zp {} Tryz.func344 (by kernel_rfl) (by kernel_rfl) h
theorem Qq (h:yH PP zL v0 w fun _ a=>yH PP zd v2 a fun a b=>zi PP zd a 3 b fun a b=>zf PP zE a b fun a b=>J3 PP jS v1 a false b fun a b=>R a b):vcall PP qG #[v0,v1,v2,v3] w R:=zp {} Tryz.func345 (by kernel_rfl) (by kernel_rfl) h
theorem XK (h:yH PP zz v0 w fun a b=>zi PP zz a 0 b fun a b=>zf PP zE a b fun a b=>zi PP zd v1 3 b fun b c=>zf PP zE b c fun b c=>zt PP .eql zE false a b c fun a b=>R a b):vcall PP jY #[v0,v1] w R:=zp {} Tryz.func346 (by kernel_rfl) (by kernel_rfl) h
theorem Kx (h:yH PP zP v0 w fun _ a=>yH PP zd v2 a fun a b=>y7 b fun b=>zi PP zd a 2 b fun c d=>d=b∧zf PP ze c b fun c d=>d=b∧zt PP .geq ze true c (.int .i64 0) b fun c d=>d=b∧vif c (zi PP zd a 1 b fun c d=>d=b∧zf PP ze c b fun c d=>d=b∧zi PP zd a 2 b fun d e=>e=b∧zf PP ze d b fun d e=>e=b∧zt PP .geq ze false c d b fun c d=>d=b∧vif c (zi PP zd a 1 b fun c d=>d=b∧zf PP ze c b fun c d=>d=b∧zo PP zg v3 (.int .i64 0) b fun d e=>e=b∧zf PP ze d b fun d e=>e=b∧zt PP .lss ze false c d b fun c d=>d=b∧zi PP zd a 1 b fun d e=>e=b∧zf PP ze d b fun d e=>e=b∧zi PP zd a 2 b fun e f=>f=b∧zf PP ze e b fun e f=>f=b∧zt PP .sub ze false d e b fun d e=>e=b∧zt PP .add ze true d (.int .i64 1) b fun d e=>e=b∧vcall PP yf #[c,d] b fun c d=>R c d) (zi PP zd a 1 b fun c d=>d=b∧zf PP ze c b fun c d=>d=b∧zi PP zd a 2 b fun d e=>e=b∧zf PP ze d b fun d e=>e=b∧zt PP .sub ze false c d b fun c d=>d=b∧zt PP .add ze true c (.int .i64 1) b fun c d=>d=b∧vcall PP yf #[(.bool false),c] b fun c d=>R c d)) (zi PP zd a 1 b fun c d=>d=b∧zf PP ze c b fun c d=>d=b∧zi PP zd a 2 b fun a d=>d=b∧zf PP ze a b fun a d=>d=b∧zt PP .sub ze false c a b fun a c=>c=b∧zt PP .add ze true a (.int .i64 1) b fun a c=>c=b∧vcall PP yf #[(.bool false),a] b fun a b=>R a b)):vcall PP jh #[v0,v1,v2,v3] w R:=zp {ord:=[(1,[0,1,2,3,4,5,6,7,8,9,10,11,12,13,14,15,16,17,18,19,20,21,22,23,24,25],[(0,[1,2,3,4,5,6,7,8,9,10,11,12,13,14,15,16,17,24,25]),(1,[2,3,4,5,6,7,8,9,10,11,12,13,14,15,16,17,24,25]),(2,[3,4,5,6,7,8,9,10,11,12,13,14,15,16,17,24,25]),(3,[4,5,6,7,8,9,10,11,12,13,14,15,16,17,24,25]),(4,[5,8,9,10,11,12,13,14,15,16,17,24,25]),(5,[8,9,10,11,12,13,14,15,16,17,24,25]),(6,[7,8,9,10,11,12,13,14,15,16,17,24,25]),(7,[8,9,10,11,12,13,14,15,16,17,24,25]),(8,[9,10,11,12,13,14,15,16,17,24,25]),(9,[10,11,12,13,14,15,16,17,24,25]),(10,[11,12,13,14,15,16,17,24,25]),(11,[12,16,17,24,25]),(12,[16,17,24,25]),(13,[14,15,16,17,24,25]),(14,[15,16,17,24,25]),(15,[16,17,24,25]),(16,[17,24,25]),(17,[24,25]),(18,[19,22,23,24,25]),(19,[22,23,24,25]),(20,[21,22,23,24,25]),(21,[22,23,24,25]),(22,[23,24,25]),(23,[24,25]),(24,[25])])]} Tryz.func347 (by kernel_rfl) (by kernel_rfl) h
theorem Jq (h:yH PP zP v0 w fun _ a=>yH PP zd v2 a fun a b=>xL (fun c=>y7 b fun b=>zo PP ym v3 (.int .i64 0) b fun d e=>e=b∧zf PP zb d b fun e f=>f=b∧zi PP zd a 1 b fun f g=>g=b∧zf PP ze f b fun g h=>h=b∧zi PP zd a 2 b fun h i=>i=b∧zf PP ze h b fun i j=>j=b∧(vcall PP Zo #[e,g,i] b fun j k=>zk PP j 0 k fun l m=>m=k∧zk PP j 1 k fun m n=>n=k∧(zZ PP zb k fun k n=>(zk PP j 1 n fun o p=>o=m∧p=n)∧(zk PP j 0 n fun o p=>o=l∧p=n)∧(zu PP zb k l n fun _ l=>(zk PP j 1 l fun o p=>o=m∧p=l)∧c [k] l)∧True)∧True)∧(zZ PP zb b fun b j=>(zf PP ze h j fun o p=>o=i∧p=j)∧(zi PP zd a 2 j fun o p=>o=h∧p=j)∧(zf PP ze f j fun o p=>o=g∧p=j)∧(zi PP zd a 1 j fun o p=>o=f∧p=j)∧(zf PP zb d j fun o p=>o=e∧p=j)∧(zo PP ym v3 (.int .i64 0) j fun o p=>o=d∧p=j)∧(vcall PP Zo #[e,g,i] j fun a d=>zk PP a 0 d fun e f=>f=d∧zk PP a 1 d fun f g=>g=d∧(zu PP zb b e d fun _ d=>(zk PP a 1 d fun o p=>o=f∧p=d)∧c [b] d)∧True)∧True)∧True) (fun a _ b=>zi PP zb (sl 0 a) 1 b fun a b=>zf PP ze a b fun a b=>R a b)):vcall PP qV #[v0,v1,v2,v3] w R:=zp {cuts:=[(8194,[9])],trees:=[(1,(.st 0 (.st 1 (.st 2 (.st 3 (.st 4 (.st 5 (.st 6 (.alt 7 (.st 8 (.st 9 (.st 10 (.alt 11 (.alt 12 (.st 13 .nil) .no) .no)))) (.alt 11 (.alt 7 (.st 8 (.st 9 (.st 10 (.alt 12 (.st 13 .nil) .no)))) .no) .no))))))))),[(0,[1,2,7,8,9,10,12,13]),(1,[2,7,8,9,10,12,13]),(2,[7,8,9,10,12,13]),(3,[4,7,8,9,10,12,13]),(4,[7,8,9,10,12,13]),(5,[6,7,8,9,10,12,13]),(6,[7,8,9,10,12,13]),(7,[8,9,10,12,13]),(8,[9,10,12,13]),(9,[12,13]),(10,[13]),(11,[12,13]),(12,[13])])]} Tryz.func348 (by kernel_rfl) (by kernel_rfl) h
theorem xw0 (h:yH PP zb v0 w fun a b=>zZ PP zb b fun b c=>xL (fun d=>zf PP zb a c fun c e=>vcall PP xG #[c] e fun c e=>vun PP .not c e fun c e=>vif c (zT PP zb [] e fun c f=>zu PP zb b c f fun _ c=>vlv PP zb b c fun c f=>R (.tuple #[c,(.bool false)]) f) (zt PP .lss ze true v2 (.int .i64 0) e fun c e=>vif c (zT PP zb [] e fun c f=>zu PP zb b c f fun _ c=>vlv PP zb b c fun c f=>R (.tuple #[c,(.bool false)]) f) (zt PP .lss ze false v1 v2 e fun c e=>vif c (zT PP zb [] e fun c f=>zu PP zb b c f fun _ c=>vlv PP zb b c fun c f=>R (.tuple #[c,(.bool false)]) f) (zi PP zb a 0 e fun c e=>zf PP ze c e fun c e=>zt PP .geq ze false v1 c e fun c e=>vif c (zT PP zb [] e fun c f=>zu PP zb b c f fun _ c=>vlv PP zb b c fun c f=>R (.tuple #[c,(.bool false)]) f) (d [] e))))) (fun _ _ c=>zt PP .sub ze false v1 v2 c fun c d=>zt PP .add ze true c (.int .i64 1) d fun c d=>zf PP zb a d fun a d=>vcall PP zI #[a] d fun a d=>zt PP .shr ye false a v2 d fun a d=>vcall PP kE #[a,c] d fun a d=>Yn PP ye ze a d fun a d=>zT PP zb [(0,c),(1,a)] d fun a c=>zu PP zb b a c fun _ a=>vlv PP zb b a fun a b=>R (.tuple #[a,(.bool true)]) b)):vcall PP Zo #[v0,v1,v2] w R:=zp {cuts:=[(8195,[])]} Tryz.func349 (by kernel_rfl) (by kernel_rfl) h
theorem Vl (h:yH PP zW v0 w fun _ a=>yH PP zd v2 a fun _ a=>y7 a fun a=>zo PP zg v3 (.int .i64 0) a fun b c=>c=a∧zf PP ze b a fun b c=>c=a∧zt PP .eql ze true b (.int .i64 0) a fun b c=>c=a∧vif b (zo PP zg v3 (.int .i64 1) a fun b c=>c=a∧zf PP ze b a fun b c=>c=a∧zo PP zg v3 (.int .i64 2) a fun c d=>d=a∧zf PP ze c a fun c d=>d=a∧zt PP .eql ze false b c a fun b c=>c=a∧zo PP zg v3 (.int .i64 1) a fun c d=>d=a∧zf PP ze c a fun c d=>d=a∧vcall PP yf #[b,c] a fun b c=>R b c) (zo PP zg v3 (.int .i64 1) a fun b c=>c=a∧zf PP ze b a fun b c=>c=a∧vcall PP yf #[(.bool false),b] a fun a b=>R a b)):vcall PP jG #[v0,v1,v2,v3] w R:=zp {ord:=[(1,[0,1,2,3,4,5,6,7,8,9,10,11,12,13,14,15,16,17],[(0,[1,2,3,4,5,6,7,8,9,10,11,12,16,17]),(1,[2,3,4,5,6,7,8,9,10,11,12,16,17]),(2,[3,4,5,6,7,8,9,10,11,12,16,17]),(3,[4,5,6,7,8,9,10,11,12,16,17]),(4,[5,6,7,8,9,10,11,12,16,17]),(5,[6,7,11,12,16,17]),(6,[7,11,12,16,17]),(7,[11,12,16,17]),(8,[9,10,11,12,16,17]),(9,[10,11,12,16,17]),(10,[11,12,16,17]),(11,[12,16,17]),(12,[16,17]),(13,[14,15,16,17]),(14,[15,16,17]),(15,[16,17]),(16,[17])])]} Tryz.func350 (by kernel_rfl) (by kernel_rfl) h
theorem Kw (h:yH PP zW v0 w fun _ a=>yH PP zd v2 a fun _ a=>zo PP ym v3 (.int .i64 0) a fun a b=>zi PP zb a 1 b fun a b=>zf PP ze a b fun a b=>zt PP .eql ze true a (.int .i64 1) b fun a b=>vif a (zo PP ym v3 (.int .i64 1) b fun a c=>zi PP zb a 1 c fun a c=>zf PP ze a c fun a c=>R a c) (zo PP ym v3 (.int .i64 2) b fun a b=>zi PP zb a 1 b fun a b=>zf PP ze a b fun a b=>R a b)):vcall PP jf #[v0,v1,v2,v3] w R:=zp {} Tryz.func351 (by kernel_rfl) (by kernel_rfl) h
theorem Jv (h:yH PP zA v0 w fun _ a=>yH PP zd v2 a fun _ a=>vcall PP xF #[v3,(.func (.func jZ) #[] #[])] a fun a b=>vun PP .not a b fun a b=>vcall PP yf #[a,(.int .i64 0)] b fun a b=>R a b):vcall PP qZ #[v0,v1,v2,v3] w R:=zp {} Tryz.func352 (by kernel_rfl) (by kernel_rfl) h
theorem Qu (h:yH PP zA v0 w fun a b=>yH PP zd v2 b fun _ b=>zi PP zA a 1 b fun a b=>zf PP jT a b fun a b=>vcallv PP a #[v3] b fun a b=>vcall PP Zn #[a] b fun a b=>R a b):vcall PP qI #[v0,v1,v2,v3] w R:=zp {} Tryz.func353 (by kernel_rfl) (by kernel_rfl) h
theorem kM (h:vcall PP xU #[v0,v1] w fun a b=>zt PP .geq ze true a (.int .i64 0) b fun a b=>R a b):vcall PP xF #[v0,v1] w R:=zp {} Tryz.func354 (by kernel_rfl) (by kernel_rfl) h
theorem XM (h:zt PP .neq ze true v0 (.int .i64 0) w fun a b=>R a b):vcall PP jZ #[v0] w R:=zp {} Tryz.func355 (by kernel_rfl) (by kernel_rfl) h
theorem ZI (h:vbi PP .len [zg] ze [v0] w fun a b=>yJ [(.int .i64 0)] b fun b c _ d=>zt PP .lss ze false (sl 0 c) a d fun a d=>vif a (zo PP zg v0 (sl 0 c) d fun a e=>zf PP ze a e fun a e=>vcallv PP v1 #[a] e fun a e=>vif a (R (sl 0 c) e) (zt PP .add ze true (sl 0 c) (.int .i64 1) e fun a c=>b [a] c)) (R (.int .i64 (-1)) d)):vcall PP xU #[v0,v1] w R:=zp {loops:=[(2,[8])]} Tryz.func356 (by kernel_rfl) (by kernel_rfl) h
theorem KH (h:yH PP zS v0 w fun _ a=>yH PP zd v2 a fun _ a=>y7 a fun a=>zo PP zg v3 (.int .i64 0) a fun b c=>c=a∧zf PP ze b a fun b c=>c=a∧zt PP .gtr ze true b (.int .i64 0) a fun b c=>c=a∧vif b (zo PP zg v3 (.int .i64 0) a fun b c=>c=a∧zf PP ze b a fun b c=>c=a∧zo PP zg v3 (.int .i64 1) a fun c d=>d=a∧zf PP ze c a fun c d=>d=a∧zt PP .eql ze false b c a fun b c=>c=a∧zo PP zg v3 (.int .i64 0) a fun c d=>d=a∧zf PP ze c a fun c d=>d=a∧vcall PP yf #[b,c] a fun b c=>R b c) (zo PP zg v3 (.int .i64 0) a fun b c=>c=a∧zf PP ze b a fun b c=>c=a∧vcall PP yf #[(.bool false),b] a fun a b=>R a b)):vcall PP jm #[v0,v1,v2,v3] w R:=zp {ord:=[(1,[0,1,2,3,4,5,6,7,8,9,10,11,12,13,14,15,16,17],[(0,[1,2,3,4,5,6,7,8,9,10,11,12,16,17]),(1,[2,3,4,5,6,7,8,9,10,11,12,16,17]),(2,[3,4,5,6,7,8,9,10,11,12,16,17]),(3,[4,5,6,7,8,9,10,11,12,16,17]),(4,[5,6,7,8,9,10,11,12,16,17]),(5,[6,7,11,12,16,17]),(6,[7,11,12,16,17]),(7,[11,12,16,17]),(8,[9,10,11,12,16,17]),(9,[10,11,12,16,17]),(10,[11,12,16,17]),(11,[12,16,17]),(12,[16,17]),(13,[14,15,16,17]),(14,[15,16,17]),(15,[16,17]),(16,[17])])]} Tryz.func357 (by kernel_rfl) (by kernel_rfl) h
theorem Jx (h:yH PP zS v0 w fun _ a=>yH PP zd v2 a fun a b=>xL (fun c=>y7 b fun b=>zi PP zd a 0 b fun d e=>e=b∧zf PP ze d b fun e f=>f=b∧zo PP ym v3 (.int .i64 0) b fun f g=>g=b∧zf PP zb f b fun g h=>h=b∧zo PP ym v3 (.int .i64 1) b fun h i=>i=b∧zf PP zb h b fun i j=>j=b∧(vcall PP qR #[e,g,i] b fun j k=>zk PP j 0 k fun l m=>m=k∧zk PP j 1 k fun m n=>n=k∧(zZ PP zb k fun k n=>(zk PP j 1 n fun o p=>o=m∧p=n)∧(zk PP j 0 n fun o p=>o=l∧p=n)∧(zu PP zb k l n fun _ l=>(zk PP j 1 l fun o p=>o=m∧p=l)∧c [k] l)∧True)∧True)∧(zZ PP zb b fun b j=>(zf PP zb h j fun o p=>o=i∧p=j)∧(zo PP ym v3 (.int .i64 1) j fun o p=>o=h∧p=j)∧(zf PP zb f j fun o p=>o=g∧p=j)∧(zo PP ym v3 (.int .i64 0) j fun o p=>o=f∧p=j)∧(zf PP ze d j fun o p=>o=e∧p=j)∧(zi PP zd a 0 j fun o p=>o=d∧p=j)∧(vcall PP qR #[e,g,i] j fun a d=>zk PP a 0 d fun e f=>f=d∧zk PP a 1 d fun f g=>g=d∧(zu PP zb b e d fun _ d=>(zk PP a 1 d fun o p=>o=f∧p=d)∧c [b] d)∧True)∧True)∧True) (fun a _ b=>zi PP zb (sl 0 a) 1 b fun a b=>zf PP ze a b fun a b=>R a b)):vcall PP j0 #[v0,v1,v2,v3] w R:=zp {cuts:=[(8194,[9])],trees:=[(1,(.st 0 (.st 1 (.st 2 (.st 3 (.st 4 (.st 5 (.st 6 (.st 7 (.alt 8 (.st 9 (.st 10 (.st 11 (.alt 12 (.alt 13 (.st 14 .nil) .no) .no)))) (.alt 12 (.alt 8 (.st 9 (.st 10 (.st 11 (.alt 13 (.st 14 .nil) .no)))) .no) .no)))))))))),[(0,[1,8,9,10,11,13,14]),(1,[8,9,10,11,13,14]),(2,[3,4,8,9,10,11,13,14]),(3,[4,8,9,10,11,13,14]),(4,[8,9,10,11,13,14]),(5,[6,7,8,9,10,11,13,14]),(6,[7,8,9,10,11,13,14]),(7,[8,9,10,11,13,14]),(8,[9,10,11,13,14]),(9,[10,11,13,14]),(10,[13,14]),(11,[14]),(12,[13,14]),(13,[14])])]} Tryz.func358 (by kernel_rfl) (by kernel_rfl) h
end Go.Proofs.YtaekfnbnhjgboaaGreatDoor
end
section
namespace Go.Proofs.YtaekfnbnhjgboaaGreatDoor
open Go Go.Vc Go.Proofs
variable {w:World} {K:Value→World→Prop} {F:Nat→Prop}
abbrev ky (wd n:Int):Value:= .agg ⟨[.int .i64 wd,.int .i64 n]⟩
theorem pow4 {k:Nat} (a:1≤k) (b:k≤4):2≤2^k∧2^k≤16:=by
 rcases(by omega:k=1∨k=2∨k=3∨k=4) with rfl|rfl|rfl|rfl<;>decide
@[push_cast] theorem bd_Vec (a b:Int):zT PP zb [(0,.int .i64 a),(1,.int .i64 b)] w K=K (ky a b) w:=yw WF (us:=[[.int .i64 a],[.int .i64 b]]) rfl rfl
@[push_cast] theorem bd_VecZ:zT PP zb [] w K=K (ky 0 0) w:=yw WF (us:=[]) rfl rfl
theorem stVec {b:Nat} {x y:Value} {t:TypeId} {p q:Int} (h:Blk w b [x,y] t) (c:∀w',Same (· =b) w w'→w'.heap.size=w.heap.size→Blk w' b [.int .i64 p,.int .i64 q] t→K undef w'):zu PP zb (.pointer (some ⟨b,0,none⟩)) (ky p q) w K:=
 h.stAgg rfl (by kernel_rfl) (by intro v a;simp only[List.mem_cons,List.not_mem_nil,or_false] at a;rcases a with rfl|rfl<;>rfl) c
theorem yt0 (k:Nat):((2^k:Nat):Int)=2^k:=by simp
theorem VecOk_spec {wd n:Int} (m:∀w',Ext w w'→K (.bool (M.vok wd n)) w'):vcall PP xG #[ky wd n] w K:=by
 apply qu0
 refine zx fun b1 r o h p j=>?_
 refine zw fun f d _=>?_
 have i:=j.ext d
 have l:=h.trans d
 simp(disch:=(simp only[push_cast];done)) only[push_cast,i.ld0,i.ld1,true_and]
 have a:=m f l
 refine zh (fun g=>?_) (fun g=>?_)
 ·refine zh (fun a2=>?_) (fun a2=>?_)
  ·refine zh (fun a3=>?_) (fun a3=>?_)
   ·obtain⟨k,rfl⟩:∃k:Nat,wd=k:=⟨wd.toNat,by omega⟩
    have q:=pow4 (k:=k) (by omega) (by omega)
    have e:zt PP .shl ze true (.int .i64 1) (.int .i64 (k:Int)) f=fun K=>K (.int .i64 (2^k:Nat)) f:=by
     funext K
     have:=vbin_shlI (P:=PP) (w:=f) (K:=K) (c:=true) (t:=ze) (yk:= .i64) (x:=1) (y:=k) (by omega) (by omega)
     rw[Nat.one_mul] at this
     exact this
    rw[e]
    simp only[push_cast,true_and]
    have b:M.vok (k:Int) n=decide (n<(2^k:Nat)):=by
     simp only[M.vok,decide_eq_true g,decide_eq_true a2,decide_eq_true a3,Bool.true_and,Int.toNat_natCast,yt0]
    rw[b,yt0] at a
    exact a
   ·have b:M.vok wd n=false:=by simp only[M.vok,decide_eq_false a3,Bool.and_false,Bool.false_and]
    rw[b] at a;exact a
  ·have b:M.vok wd n=false:=by simp only[M.vok,decide_eq_false a2,Bool.and_false,Bool.false_and]
   rw[b] at a;exact a
 ·have b:M.vok wd n=false:=by simp only[M.vok,decide_eq_false g,Bool.false_and]
  rw[b] at a;exact a
theorem cut_spec {n k:Nat} (d:n<18446744073709551616) (a:1≤k) (b:k≤4) (c:K (.int .u64 (n%2^k:Nat)) w):vcall PP kE #[.int .u64 n,.int .i64 k] w K:=by
 apply y60
 have e:=pow4 a b
 rw[show(1:Int)=((1:Nat):Int) from rfl,vbin_shlU (by omega) (by omega),Nat.one_mul,Ut,show((2^k:Nat):Int)-((1:Nat):Int)=((2^k-1:Nat):Int) by omega,wrapU (by omega),XR d (by omega),Nat.and_two_pow_sub_one_eq_mod]
 exact c
theorem bit_spec {n k:Nat} (f:n<18446744073709551616) (c:k<64) (b:K (.bool (decide (n/2^k%2=1))) w):vcall PP qq #[.int .u64 n,.int .i64 k] w K:=by
 apply y70
 have d:n/2^k≤n:=Nat.div_le_self _ _
 rw[vbin_shrU c,show(1:Int)=((1:Nat):Int) from rfl,XR (by omega) (by omega),Zx0]
 have e:n/2^k&&&1=n/2^k%2:=Nat.and_one_is_mod _
 rw[e]
 have a:decide (((n/2^k%2:Nat):Int)=((1:Nat):Int))=decide (n/2^k%2=1):=by
  by_cases h:n/2^k%2=1
  ·rw[h];simp
  ·rw[decide_eq_false h,decide_eq_false];omega
 rw[a];exact b
theorem raw_spec {wd:Int} {n:Nat} (f:n<9223372036854775808) (c:∀w',Ext w w'→K (.int .u64 n) w'):vcall PP zI #[ky wd n] w K:=by
 apply ye0
 refine zx fun b1 g d a e b=>?_
 simp(disch:=(simp only[push_cast];done)) only[push_cast,b.ld1]
 rw[kG xE0 qN0,wrapU (by omega)]
 exact c _ a
theorem ones_spec {k:Nat} {n:Int} (c:1≤k) (d:k≤4) (e:∀w',Ext w w'→K (.int .u64 (2^k-1:Nat)) w'):vcall PP jM #[ky k n] w K:=by
 apply zi0
 refine zx fun b1 i f a g b=>?_
 simp(disch:=(simp only[push_cast];done)) only[push_cast,b.ld0]
 have h:=pow4 c d
 rw[show(1:Int)=((1:Nat):Int) from rfl,vbin_shlU (by omega) (by omega),Nat.one_mul,Ut,show((2^k:Nat):Int)-((1:Nat):Int)=((2^k-1:Nat):Int) by omega,wrapU (by omega)]
 exact e _ a
theorem vec_spec {k n:Nat} {x:Int} (q:n<18446744073709551616) (h:1≤k) (i:k≤4) (j:∀w',Ext w w'→K (ky k (n%2^k:Nat)) w'):vcall PP j6 #[ky k x,.int .u64 n] w K:=by
 apply yd0
 have z:=pow4 h i
 have hm:n%2^k<2^k:=Nat.mod_lt _ (by omega)
 refine zx fun b1 A o c r e=>?_
 refine zF xt fun b2 B p b s f=>?_
 refine zw fun C a _=>?_
 have l:=(e.ext b).ext a
 have u:=f.ext a
 simp(disch:=(simp only[push_cast];done)) only[push_cast,l.ld0,true_and]
 refine cut_spec q h i ?_
 obtain⟨m,d⟩:∃m,m=n%2^k:=⟨_,rfl⟩
 rw[←d] at hm j⊢
 simp(disch:=(simp only[push_cast];done)) only[push_cast,l.ld0,true_and,and_self]
 rw[kG UE WP,wrapN (by omega)]
 simp only[push_cast,true_and]
 refine stVec u fun D g _ v=>?_
 rw[v.lv (by kernel_rfl)]
 exact j _ (Ext.then ((c.trans b).trans a) g fun y t=>by subst t;omega)
theorem strF_low {k n:Nat} (c:1≤k) (d:k≤4) (e:n<2^k):n|||((18446744073709551615-(2^k-1))&&&4294967295)=n+(4294967296-2^k):=by
 have b:∀v:Fin 5,∀a:Fin 16,1≤v.1→a.1<2^v.1→a.1|||((18446744073709551615-(2^v.1-1))&&&4294967295)=a.1+(4294967296-2^v.1):=by decide+kernel
 have f:=pow4 c d
 exact b ⟨k,by omega⟩ ⟨n,by omega⟩ c e
theorem top_bit {k n:Nat} (c:1≤k) (d:k≤4) (e:n<2^k):decide (n/2^(k-1)%2=1)=decide (¬n<2^(k-1)):=by
 have b:∀v:Fin 5,∀a:Fin 16,1≤v.1→a.1<2^v.1→decide (a.1/2^(v.1-1)%2=1)=decide (¬a.1<2^(v.1-1)):=by decide+kernel
 have f:=pow4 c d
 exact b ⟨k,by omega⟩ ⟨n,by omega⟩ c e
def YL0 (k n:Nat):Nat:=if n<2^(k-1) then n else n+(4294967296-2^k)
theorem stretched_spec {k n:Nat} (f:1≤k) (g:k≤4) (q:n<2^k) (p:∀w',Ext w w'→K (.int .u64 (YL0 k n:Nat)) w'):vcall PP j3 #[ky k n] w K:=by
 apply Jy
 have z:=pow4 f g
 refine zx fun b1 A u d v i=>?_
 refine zw fun B b _=>?_
 have j:=i.ext b
 simp(disch:=(simp only[push_cast];done)) only[push_cast,j.ld0,j.ldAgg (t:=zb) zU,true_and]
 have o:IntKind.i64.wrap ((k:Int)-1)=((k-1:Nat):Int):=by rw[zH (by omega) (by omega)];omega
 rw[o]
 refine raw_spec (by omega) fun C c=>?_
 have l:=j.ext c
 simp(disch:=(simp only[push_cast];done)) only[push_cast,l.ld0,true_and,o]
 refine bit_spec (by omega) (by omega) ?_
 rw[top_bit f g q]
 refine zh (fun m=>?_) (fun m=>?_)
 ·refine zw fun D e _=>?_
  have r:=l.ext e
  simp(disch:=(simp only[push_cast];done)) only[push_cast,r.ldAgg (t:=zb) zU,true_and]
  refine raw_spec (by omega) fun s a=>?_
  have x:=r.ext a
  simp(disch:=(simp only[push_cast];done)) only[push_cast,x.ldAgg (t:=zb) zU,true_and]
  refine ones_spec f g fun y h=>?_
  rw[vun_xorU (by omega)]
  refine⟨rfl,?_⟩
  rw[show(4294967295:Int)=((4294967295:Nat):Int) from rfl,XR (by omega) (by omega)]
  refine⟨rfl,?_⟩
  have hle:(18446744073709551615-(2^k-1))&&&4294967295≤4294967295:=Nat.and_le_right
  rw[j10 (by omega) (by omega)]
  refine⟨rfl,?_⟩
  have:=p y (((((d.trans b).trans c).trans e).trans a).trans h)
  unfold YL0 at this
  rw[if_neg m] at this
  rw[strF_low f g q]
  exact this
 ·simp(disch:=(simp only[push_cast];done)) only[push_cast,l.ldAgg (t:=zb) zU,true_and]
  refine raw_spec (by omega) fun s a=>?_
  have:=p s (((d.trans b).trans c).trans a)
  unfold YL0 at this
  rw[if_pos (by omega)] at this
  exact this
theorem pre2 {k a b:Nat} (D:a<16) (E:b<16) {X:Value→Value→World→Prop} (s:∀w',Ext w w'→X (.int .u64 a) (.int .u64 b) w'):
  yH PP zb (ky k a) w fun t2 m=>
  yH PP zb (ky k b) m fun t3 n=>
  y7 n fun c=>
  zf PP zb t2 c fun t5 o=>o=c∧
  zf PP zb t3 c fun t7 p=>p=c∧
  vcall PP zI #[t5] c fun t6 e=>(zf PP zb t3 e fun v x=>v=t7∧x=e)∧
  vcall PP zI #[t7] e fun t8 q=>X t6 t8 q:=by
 refine zx fun b1 F u h z j=>?_
 refine zx fun b2 G y f A l=>?_
 refine zw fun H d _=>?_
 have B:=(j.ext f).ext d
 have r:=l.ext d
 simp(disch:=(simp only[push_cast];done)) only[push_cast,B.ldAgg (t:=zb) zU,r.ldAgg (t:=zb) zU,true_and]
 refine raw_spec (by omega) fun I g=>?_
 have C:=r.ext g
 simp(disch:=(simp only[push_cast];done)) only[push_cast,C.ldAgg (t:=zb) zU,true_and,and_self]
 refine raw_spec (by omega) fun J i=>?_
 exact s _ ((((h.trans f).trans d).trans g).trans i)
theorem pow16 {k a:Nat} (b:k≤4) (c:a<2^k):a<16:=by
 have:2^k≤2^4:=Nat.pow_le_pow_right (by omega) b
 omega
def OpR (K:Value→World→Prop) (w:World) (op k a b:Nat):Prop:=∀w' (r:Nat),Ext w w'→r<18446744073709551616→r%2^k=M.binN op k a b→K (.int .u64 r) w'
theorem bin_ck {f:Nat→Nat→Nat→Nat} {op:Nat} (h:∀v:Fin 5,(List.range 16).all (fun a=>(List.range 16).all fun b=> !(decide (1≤v.1)&&decide (a<2^v.1)&&decide (b<2^v.1))||decide (f v.1 a b%2^v.1=M.binN op v.1 a b))=true) {k a b:Nat} (g:1≤k) (c:k≤4) (d:a<2^k) (e:b<2^k):f k a b%2^k=M.binN op k a b:=by
 have:=h ⟨k,by omega⟩
 simp only[List.all_eq_true,List.mem_range,Bool.or_eq_true,Bool.not_eq_true',Bool.and_eq_false_iff,decide_eq_false_iff_not,decide_eq_true_eq] at this
 rcases this a (pow16 c d) b (pow16 c e) with(⟨h|h⟩|h)|h
 ·exact absurd g h
 ·exact absurd d h
 ·exact absurd e h
 ·exact h
theorem mul225 {a b:Nat} (c:a<16) (d:b<16):a*b≤225:=by
 have:=Nat.mul_le_mul (show a≤15 by omega) (show b≤15 by omega)
 omega
theorem shl_small {a b:Nat} (d:a<16) (e:b<16):a*2^b≤524288:=by
 have c:2^b≤2^15:=Nat.pow_le_pow_right (by omega) (by omega)
 have:=Nat.mul_le_mul (show a≤15 by omega) c
 omega
theorem strN_lt {k n:Nat} (a:1≤k) (b:k≤4) (c:n<2^k):YL0 k n<4294967296:=by
 have:=pow4 a b
 unfold YL0;split<;>omega
theorem binaries_1_spec {k a b:Nat} (g:1≤k) (e:k≤4) (h:a<2^k) (i:b<2^k) (j:OpR K w 3 k a b):vcall PP xd #[ky k a,ky k b] w K:=by
 have c:=pow16 e h
 have d:=pow16 e i
 have l:=pow4 g e
 apply WE
 refine pre2 c d fun m he=>?_
 rw[XR (by omega) (by omega)]
 exact⟨rfl,j _ _ he (Nat.lt_of_le_of_lt Nat.and_le_left (by omega)) (bin_ck (f:=fun k a b=>a&&&b) (by decide+kernel) g e h i)⟩
theorem binaries_2_spec {k a b:Nat} (g:1≤k) (e:k≤4) (h:a<2^k) (i:b<2^k) (j:OpR K w 4 k a b):vcall PP xc #[ky k a,ky k b] w K:=by
 have c:=pow16 e h
 have d:=pow16 e i
 have l:=pow4 g e
 apply WD
 refine pre2 c d fun m he=>?_
 rw[j10 (by omega) (by omega)]
 exact⟨rfl,j _ _ he (Nat.lt_trans (Nat.or_lt_two_pow (n:=4) c d) (by decide)) (bin_ck (f:=fun k a b=>a|||b) (by decide+kernel) g e h i)⟩
theorem binaries_3_spec {k a b:Nat} (g:1≤k) (e:k≤4) (h:a<2^k) (i:b<2^k) (j:OpR K w 5 k a b):vcall PP xb #[ky k a,ky k b] w K:=by
 have c:=pow16 e h
 have d:=pow16 e i
 have l:=pow4 g e
 apply WC
 refine pre2 c d fun m he=>?_
 rw[k90 (by omega) (by omega)]
 exact⟨rfl,j _ _ he (Nat.lt_trans (Nat.xor_lt_two_pow (n:=4) c d) (by decide)) (bin_ck (f:=fun k a b=>a^^^b) (by decide+kernel) g e h i)⟩
theorem binaries_4_spec {k a b:Nat} (g:1≤k) (e:k≤4) (h:a<2^k) (i:b<2^k) (j:OpR K w 6 k a b):vcall PP xa #[ky k a,ky k b] w K:=by
 have c:=pow16 e h
 have d:=pow16 e i
 have l:=pow4 g e
 apply WB
 refine pre2 c d fun m he=>?_
 rw[j20,show(a:Int)+(b:Int)=((a+b:Nat):Int) by omega,wrapU (by omega)]
 exact⟨rfl,j _ _ he (by omega) (bin_ck (f:=fun k a b=>a+b) (by decide+kernel) g e h i)⟩
theorem binaries_5_spec {k a b:Nat} (h:1≤k) (g:k≤4) (i:a<2^k) (j:b<2^k) (l:OpR K w 7 k a b):vcall PP x8 #[ky k a,ky k b] w K:=by
 have c:=pow16 g i
 have d:=pow16 g j
 have m:=pow4 h g
 apply WA
 refine pre2 c d fun n he=>?_
 have e:IntKind.u64.wrap ((a:Int)-(b:Int))=((if b≤a then a-b else 18446744073709551616+a-b:Nat):Int):=by
  simp only[IntKind.wrap,IntKind.bits,IntKind.signed,Bool.false_and,Bool.false_eq_true,if_false]
  split<;>omega
 rw[Ut,e]
 exact⟨rfl,l _ _ he (by split<;>omega) (bin_ck (f:=fun k a b=>if b≤a then a-b else 18446744073709551616+a-b) (by decide+kernel) h g i j)⟩
theorem binaries_6_spec {k a b:Nat} (g:1≤k) (e:k≤4) (h:a<2^k) (i:b<2^k) (j:OpR K w 8 k a b):vcall PP x7 #[ky k a,ky k b] w K:=by
 have c:=pow16 e h
 have d:=pow16 e i
 have l:=pow4 g e
 apply Wz
 refine pre2 c d fun m he=>?_
 have hm:=mul225 c d
 rw[Zw0,show(a:Int)*(b:Int)=((a*b:Nat):Int) by simp,wrapU (by omega)]
 exact⟨rfl,j _ _ he (by omega) (bin_ck (f:=fun k a b=>a*b) (by decide+kernel) g e h i)⟩
theorem binaries_7_spec {k a b:Nat} (l:1≤k) (h:k≤4) (s:a<2^k) (u:b<2^k) (m:OpR K w 9 k a b):vcall PP x6 #[ky k a,ky k b] w K:=by
 have n:=pow16 h s
 have o:=pow16 h u
 have E:=pow4 l h
 apply Wy
 refine zx fun b1 F v e y j=>?_
 refine zx fun b2 G x d z g=>?_
 have p:=j.ext d
 simp(disch:=(simp only[push_cast];done)) only[push_cast,g.ld1]
 refine zh (fun r=>?_) (fun r=>?_)
 ·simp(disch:=(simp only[push_cast];done)) only[push_cast,p.ldAgg (t:=zb) zU]
  refine ones_spec l h fun C c=>m _ _ ((e.trans d).trans c) (by omega) ?_
  have:b=0:=by omega
  subst this
  rw[Nat.mod_eq_of_lt (by omega)]
  simp[M.binN]
 ·refine zw fun C c _=>?_
  have A:=p.ext c
  have q:=g.ext c
  simp(disch:=(simp only[push_cast];done)) only[push_cast,A.ldAgg (t:=zb) zU,q.ldAgg (t:=zb) zU,true_and]
  refine raw_spec (by omega) fun H f=>?_
  have B:=q.ext f
  simp(disch:=(simp only[push_cast];done)) only[push_cast,B.ldAgg (t:=zb) zU,true_and,and_self]
  refine raw_spec (by omega) fun I i=>?_
  have D:a/b≤a:=Nat.div_le_self _ _
  rw[yA0 (by omega),show(a:Int).tdiv (b:Int)=((a/b:Nat):Int) from rfl,wrapU (by omega)]
  refine⟨rfl,m _ _ ((((e.trans d).trans c).trans f).trans i) (by omega) ?_⟩
  rw[Nat.mod_eq_of_lt (by omega)]
  simp[M.binN,show b≠0 by omega]
theorem binaries_8_spec {k a b:Nat} (r:1≤k) (h:k≤4) (s:a<2^k) (u:b<2^k) (l:OpR K w 10 k a b):vcall PP x5 #[ky k a,ky k b] w K:=by
 have m:=pow16 h s
 have n:=pow16 h u
 have E:=pow4 r h
 apply Wx
 refine zx fun b1 F v e y j=>?_
 refine zx fun b2 G x d z g=>?_
 have o:=j.ext d
 simp(disch:=(simp only[push_cast];done)) only[push_cast,g.ld1]
 refine zh (fun q=>?_) (fun q=>?_)
 ·simp(disch:=(simp only[push_cast];done)) only[push_cast,o.ldAgg (t:=zb) zU]
  refine raw_spec (by omega) fun C c=>l _ _ ((e.trans d).trans c) (by omega) ?_
  have:b=0:=by omega
  subst this
  rw[Nat.mod_eq_of_lt (by omega)]
  simp[M.binN]
 ·refine zw fun C c _=>?_
  have A:=o.ext c
  have p:=g.ext c
  simp(disch:=(simp only[push_cast];done)) only[push_cast,A.ldAgg (t:=zb) zU,p.ldAgg (t:=zb) zU,true_and]
  refine raw_spec (by omega) fun H f=>?_
  have B:=p.ext f
  simp(disch:=(simp only[push_cast];done)) only[push_cast,B.ldAgg (t:=zb) zU,true_and,and_self]
  refine raw_spec (by omega) fun I i=>?_
  have D:a%b≤a:=Nat.mod_le _ _
  rw[yz0 (by omega),show(a:Int).tmod (b:Int)=((a%b:Nat):Int) from rfl]
  refine⟨rfl,l _ _ ((((e.trans d).trans c).trans f).trans i) (by omega) ?_⟩
  rw[Nat.mod_eq_of_lt (by omega)]
  simp[M.binN,show b≠0 by omega]
theorem binaries_9_spec {k a b:Nat} (g:1≤k) (e:k≤4) (h:a<2^k) (i:b<2^k) (j:OpR K w 11 k a b):vcall PP yZ #[ky k a,ky k b] w K:=by
 have c:=pow16 e h
 have d:=pow16 e i
 have l:=pow4 g e
 apply Ww
 refine pre2 c d fun m he=>?_
 have hm:=shl_small c d
 rw[vbin_shlU (by omega) (by omega)]
 exact⟨rfl,j _ _ he (by omega) (bin_ck (f:=fun k a b=>a*2^b) (by decide+kernel) g e h i)⟩
theorem binaries_10_spec {k a b:Nat} (g:1≤k) (e:k≤4) (h:a<2^k) (i:b<2^k) (j:OpR K w 12 k a b):vcall PP yS #[ky k a,ky k b] w K:=by
 have c:=pow16 e h
 have d:=pow16 e i
 have l:=pow4 g e
 apply Vw
 refine pre2 c d fun m he=>?_
 have hm:=Nat.div_le_self a (2^b)
 rw[vbin_shrU (by omega)]
 exact⟨rfl,j _ _ he (by omega) (bin_ck (f:=fun k a b=>a/2^b) (by decide+kernel) g e h i)⟩
theorem binaries_11_spec {k a b:Nat} (h:1≤k) (d:k≤4) (i:a<2^k) (p:b<2^k) (s:OpR K w 13 k a b):vcall PP yR #[ky k a,ky k b] w K:=by
 have o:=pow16 d i
 have q:=pow16 d p
 have B:=pow4 h d
 apply Vv
 refine zx fun b1 C u j x m=>?_
 refine zx fun b2 D v e y n=>?_
 refine zw fun E c _=>?_
 have z:=(m.ext e).ext c
 have r:=n.ext c
 simp(disch:=(simp only[push_cast];done)) only[push_cast,z.ldAgg (t:=zb) zU,r.ldAgg (t:=zb) zU,true_and]
 refine stretched_spec h d i fun F g=>?_
 have A:=r.ext g
 simp(disch:=(simp only[push_cast];done)) only[push_cast,A.ldAgg (t:=zb) zU,true_and,and_self]
 refine raw_spec (by omega) fun G l=>?_
 have hs:=strN_lt h d i
 have hm:=Nat.div_le_self (YL0 k a) (2^b)
 rw[vbin_shrU (by omega)]
 exact⟨rfl,s _ _ ((((j.trans e).trans c).trans g).trans l) (by omega) (bin_ck (f:=fun k a b=>YL0 k a/2^b) (by decide+kernel) h d i p)⟩
end Go.Proofs.YtaekfnbnhjgboaaGreatDoor
end
section
namespace Go.Proofs.YtaekfnbnhjgboaaGreatDoor
open Go Go.Vc Go.Proofs
variable {w:World} {K:Value→World→Prop} {F:Nat→Prop}
theorem VecSigned_spec {wd n:Int} (h:∀w',Ext w w'→K (.int .i64 (if M.vok wd n=true then M.sgn wd n else 0)) w'):vcall PP ja #[ky wd n] w K:=by
 apply Uq
 refine zx fun b1 F x c y m=>?_
 simp(disch:=(simp only[push_cast];done)) only[push_cast,m.ldAgg (t:=zb) zU]
 refine VecOk_spec fun A b=>?_
 have u:=m.ext b
 simp only[push_cast]
 refine yo (fun g=>?_) (fun g=>?_)
 ·have:=h A (c.trans b)
  rwa[if_neg (by simpa using g)] at this
 ·rw[Bool.not_eq_false'] at g
  rw[if_pos g] at h
  obtain⟨k,a,rfl,rfl,q,r,v⟩:=M.vok_nat g
  have D:=pow4 q r
  refine zw fun G d _=>?_
  have i:=u.ext d
  have l:IntKind.i64.wrap ((k:Int)-1)=((k-1:Nat):Int):=by rw[zH (by omega) (by omega)];omega
  simp(disch:=(simp only[push_cast];done)) only[push_cast,i.ldAgg (t:=zb) zU,i.ld0,true_and,l]
  refine raw_spec (by omega) fun B e=>?_
  have j:=i.ext e
  simp(disch:=(simp only[push_cast];done)) only[push_cast,j.ld0,true_and,l,and_self]
  refine bit_spec (by omega) (by omega) ?_
  rw[top_bit q r v]
  have z:=(yt0 k).symm
  have p:(2:Int)^((k:Int).toNat-1)=((2^(k-1):Nat):Int):=by simp
  have E:2^(k-1)<2^k:=Nat.pow_lt_pow_right (by omega) (by omega)
  refine zh (fun s=>?_) (fun s=>?_)
  ·refine zw fun C f _=>?_
   have o:=j.ext f
   simp(disch:=(simp only[push_cast];done)) only[push_cast,o.ld0,o.ld1,true_and]
   rw[show(1:Int)=((1:Nat):Int) from rfl,vbin_shlI (by omega) (by omega),Nat.one_mul]
   refine⟨rfl,?_⟩
   rw[Ut,zH (by omega) (by omega)]
   refine⟨rfl,?_⟩
   have:=h C ((((c.trans b).trans d).trans e).trans f)
   unfold M.sgn at this
   rw[if_neg (by rw[p];omega),Int.toNat_natCast,z] at this
   exact this
  ·simp(disch:=(simp only[push_cast];done)) only[push_cast,j.ld1]
   have:=h B (((c.trans b).trans d).trans e)
   unfold M.sgn at this
   rw[if_pos (by rw[p];omega)] at this
   exact this
theorem VecUn_spec {op wd n:Int} (p:∀w',Ext w w'→K (.tuple #[ky (M.vecUn op wd n).1.1 (M.vecUn op wd n).1.2,.bool (M.vecUn op wd n).2]) w'):vcall PP Y5 #[.int .i64 op,ky wd n] w K:=by
 apply qt0
 refine zx fun b1 R H q J F=>?_
 refine zF xt fun b2 S I r L g2=>?_
 have B:=F.ext r
 simp(disch:=(simp only[push_cast];done)) only[push_cast,B.ldAgg (t:=zb) zU]
 refine VecOk_spec fun O i=>?_
 have C:=B.ext i
 have g3:=g2.ext i
 have G:=(q.trans r).trans i
 have d:∀g v,Ext O g→Same (· =b2) g v→Ext w v:=fun g v h E=>Ext.then (G.trans h) E fun y N=>by subst N;have:=q.size;omega
 simp only[push_cast]
 unfold M.vecUn at p
 refine yo (fun j=>?_) (fun j=>?_)
 ·refine stVec g3 fun g l _ g4=>?_
  rw[g4.lv (by kernel_rfl)]
  have:=p g (d _ _ (Same.refl _ _) l)
  rwa[if_neg (by simp at j;simp[j])] at this
 ·rw[Bool.not_eq_false'] at j
  obtain⟨k,a,rfl,rfl,s,u,D⟩:=M.vok_nat j
  have Q:=pow4 s u
  refine zh (fun x=>?_) (fun x=>?_)
  ·subst x
   refine zw fun g b _=>?_
   have o:=C.ext b
   simp(disch:=(simp only[push_cast];done)) only[push_cast,o.ldAgg (t:=zb) zU,true_and]
   refine raw_spec (by omega) fun v c=>?_
   have z:=o.ext c
   have g5:=(g3.ext b).ext c
   simp(disch:=(simp only[push_cast];done)) only[push_cast,z.ldAgg (t:=zb) zU,true_and,and_self]
   rw[vun_xorU (by omega)]
   refine⟨rfl,vec_spec (by omega) s u fun P f=>?_⟩
   refine stVec (g5.ext f) fun A m _ g7=>?_
   rw[g7.lv (by kernel_rfl)]
   have:=p A (d _ _ ((b.trans c).trans f) m)
   rw[if_pos ⟨j,.inl rfl⟩,M.unM_not s u D] at this
   exact this
  refine zh (fun a2=>?_) (fun a2=>?_)
  ·subst a2
   refine zw fun g b _=>?_
   have o:=C.ext b
   simp(disch:=(simp only[push_cast];done)) only[push_cast,o.ldAgg (t:=zb) zU,true_and]
   refine raw_spec (by omega) fun v c=>?_
   have z:=o.ext c
   have g5:=(g3.ext b).ext c
   have e:IntKind.u64.wrap (0-(a:Int))=((if a=0 then 0 else 18446744073709551616-a:Nat):Int):=by
    simp only[IntKind.wrap,IntKind.bits,IntKind.signed,Bool.false_and,Bool.false_eq_true,if_false]
    split<;>omega
   simp(disch:=(simp only[push_cast];done)) only[push_cast,z.ldAgg (t:=zb) zU,true_and,and_self]
   rw[e]
   refine vec_spec (by split<;>omega) s u fun P f=>?_
   refine stVec (g5.ext f) fun A m _ g7=>?_
   rw[g7.lv (by kernel_rfl)]
   have:=p A (d _ _ ((b.trans c).trans f) m)
   rw[if_pos ⟨j,.inr rfl⟩,M.unM_neg s u D] at this
   exact this
  ·refine stVec g3 fun g l _ g4=>?_
   rw[g4.lv (by kernel_rfl)]
   have:=p g (d _ _ (Same.refl _ _) l)
   rwa[if_neg (fun h=>h.2.elim x a2)] at this
theorem binaries_spec (g:∀w',Ext w w'→K (.agg ⟨[.nilFunc,.nilFunc,.nilFunc,.func (.func xd) #[] #[],.func (.func xc) #[] #[],.func (.func xb) #[] #[],.func (.func xa) #[] #[],.func (.func x8) #[] #[],.func (.func x7) #[] #[],.func (.func x6) #[] #[],.func (.func x5) #[] #[],.func (.func yZ) #[] #[],.func (.func yS) #[] #[],.func (.func yR) #[] #[]]⟩) w'):vcall PP ZC #[] w K:=by
 apply zh0
 have k:yO PP zY (.agg ⟨[.nilFunc,.nilFunc,.nilFunc,.nilFunc,.nilFunc,.nilFunc,.nilFunc,.nilFunc,.nilFunc,.nilFunc,.nilFunc,.nilFunc,.nilFunc,.nilFunc]⟩):=by unfold yO;kernel_rfl
 refine zF k fun b1 d h a i e=>?_
 refine⟨_,d,run_build (P:=PP) d _ _ ⟨[.nilFunc,.nilFunc,.nilFunc,.func (.func xd) #[] #[],.func (.func xc) #[] #[],.func (.func xb) #[] #[],.func (.func xa) #[] #[],.func (.func x8) #[] #[],.func (.func x7) #[] #[],.func (.func x6) #[] #[],.func (.func x5) #[] #[],.func (.func yZ) #[] #[],.func (.func yS) #[] #[],.func (.func yR) #[] #[]]⟩ (by kernel_rfl),?_⟩
 refine e.stAgg rfl (by kernel_rfl) (by intro v c;simp only[List.mem_cons,List.not_mem_nil,or_false] at c;rcases c with rfl|rfl|rfl|rfl|rfl|rfl|rfl|rfl|rfl|rfl|rfl|rfl|rfl|rfl<;>rfl) fun l b _ f=>?_
 rw[f.lv (by kernel_rfl)]
 exact g _ (Ext.then a b fun y j=>by subst j;omega)
theorem bin_all {op k a b:Nat} (j:3≤op) (i:op≤13) (g:1≤k) (h:k≤4) (e:a<2^k) (f:b<2^k) {K:Value→World→Prop} {w w0:World} (hw:w0=w) (c:OpR K w op k a b) {N:Value→World→Prop}
  (d:∀x,vcallv PP x #[ky k a,ky k b] w K→N x w):
  yo0 PP zY (.agg ⟨[.nilFunc,.nilFunc,.nilFunc,.func (.func xd) #[] #[],.func (.func xc) #[] #[],.func (.func xb) #[] #[],.func (.func xa) #[] #[],.func (.func x8) #[] #[],.func (.func x7) #[] #[],.func (.func x6) #[] #[],.func (.func x5) #[] #[],.func (.func yZ) #[] #[],.func (.func yS) #[] #[],.func (.func yR) #[] #[]]⟩) (.int .i64 op) w N:=by
 rcases(by omega:op=3∨op=4∨op=5∨op=6∨op=7∨op=8∨op=9∨op=10∨op=11∨op=12∨op=13) with rfl|rfl|rfl|rfl|rfl|rfl|rfl|rfl|rfl|rfl|rfl
 ·exact⟨.func (.func xd) #[] #[],w,by kernel_rfl,d (.func (.func xd) #[] #[]) (binaries_1_spec g h e f c)⟩
 ·exact⟨.func (.func xc) #[] #[],w,by kernel_rfl,d (.func (.func xc) #[] #[]) (binaries_2_spec g h e f c)⟩
 ·exact⟨.func (.func xb) #[] #[],w,by kernel_rfl,d (.func (.func xb) #[] #[]) (binaries_3_spec g h e f c)⟩
 ·exact⟨.func (.func xa) #[] #[],w,by kernel_rfl,d (.func (.func xa) #[] #[]) (binaries_4_spec g h e f c)⟩
 ·exact⟨.func (.func x8) #[] #[],w,by kernel_rfl,d (.func (.func x8) #[] #[]) (binaries_5_spec g h e f c)⟩
 ·exact⟨.func (.func x7) #[] #[],w,by kernel_rfl,d (.func (.func x7) #[] #[]) (binaries_6_spec g h e f c)⟩
 ·exact⟨.func (.func x6) #[] #[],w,by kernel_rfl,d (.func (.func x6) #[] #[]) (binaries_7_spec g h e f c)⟩
 ·exact⟨.func (.func x5) #[] #[],w,by kernel_rfl,d (.func (.func x5) #[] #[]) (binaries_8_spec g h e f c)⟩
 ·exact⟨.func (.func yZ) #[] #[],w,by kernel_rfl,d (.func (.func yZ) #[] #[]) (binaries_9_spec g h e f c)⟩
 ·exact⟨.func (.func yS) #[] #[],w,by kernel_rfl,d (.func (.func yS) #[] #[]) (binaries_10_spec g h e f c)⟩
 ·exact⟨.func (.func yR) #[] #[],w,by kernel_rfl,d (.func (.func yR) #[] #[]) (binaries_11_spec g h e f c)⟩
theorem VecBin_spec {op wd n v m:Int} (D:∀w',Ext w w'→K (.tuple #[ky (M.vecBin op wd n v m).1.1 (M.vecBin op wd n v m).1.2,.bool (M.vecBin op wd n v m).2]) w'):vcall PP qR #[.int .i64 op,ky wd n,ky v m] w K:=by
 apply xy0
 refine zx fun b1 w1 a9 L ad h1=>?_
 refine zx fun b2 w2 aa E ae g2=>?_
 refine zF xt fun b3 U ab F af r3=>?_
 have hE:=(L.trans E).trans F
 have ah:=L.size
 have ai:=E.size
 have h3:=(h1.ext E).ext F
 have g3:=g2.ext F
 have B:∀s A,Ext U s→Same (· =b3) s A→Ext w A:=fun s A h h'=>Ext.then (hE.trans h) h' fun y hy=>by subst hy;omega
 have d:(M.vecBin op wd n v m)=((0,0),false)→∀s,Ext U s→zu PP zb (.pointer (some ⟨b3,0,none⟩)) (ky 0 0) s fun _ A=>vlv PP zb (.pointer (some ⟨b3,0,none⟩)) A fun r w6=>K (.tuple #[r,.bool false]) w6:=by
  intro e s c
  refine stVec (r3.ext c) fun A a5 _ T=>?_
  rw[T.lv (by kernel_rfl)]
  have:=D A (B _ _ c a5)
  rwa[e] at this
 refine y5 (fun u s=>u=[]∧Ext U s∧M.vok wd n=true∧M.vok v m=true) (fun C Z=>?_) ?_
 ·simp(disch:=(simp only[push_cast];done)) only[push_cast,h3.ldAgg (t:=zb) zU]
  refine VecOk_spec fun s c=>?_
  have g4:=g3.ext c
  simp only[push_cast]
  refine yo (fun R=>d ?_ _ c) (fun R=>?_)
  ·unfold M.vecBin;rw[if_neg (by simp at R;simp[R])]
  ·simp(disch:=(simp only[push_cast];done)) only[push_cast,g4.ldAgg (t:=zb) zU]
   refine VecOk_spec fun A i=>?_
   simp only[push_cast]
   refine yo (fun p=>d ?_ _ (c.trans i)) (fun p=>?_)
   ·unfold M.vecBin;rw[if_neg (by simp at p;simp[p])]
   ·exact Z _ _ ⟨rfl,c.trans i,by simpa using R,by simpa using p⟩
 ·rintro u g s ⟨rfl,c,O,p⟩
  have X:=h3.ext c
  have g4:=g3.ext c
  have r4:=r3.ext c
  obtain⟨k,a,rfl,rfl,k1,k4,ha⟩:=M.vok_nat O
  obtain⟨l,b,rfl,rfl,l1,S,hb⟩:=M.vok_nat p
  have I:=pow16 k4 ha
  have a8:=pow16 S hb
  unfold M.vecBin at D d
  rw[if_pos ⟨O,p⟩] at D d
  simp only[push_cast]
  refine zh (fun V=>?_) (fun V=>?_)
  ·rw[if_pos V] at D d
   refine zw fun A i _=>?_
   have Y:=X.ext i
   have g5:=g4.ext i
   have T:=r4.ext i
   have hm:a*2^l≤524288:=shl_small I (by omega)
   have e1:IntKind.i64.wrap ((k:Int)+(l:Int))=((k+l:Nat):Int):=by rw[zH (by omega) (by omega)];omega
   have eS:∀(w:World) (K:Value→World→Prop),zt PP .shl ze false (.int .i64 (a:Int)) (.int .i64 (l:Int)) w K=K (.int .i64 (a*2^l:Nat)) w:=fun w K=>vbin_shlI (by omega) (by omega)
   have eO:∀(w:World) (K:Value→World→Prop),zt PP .or ze false (.int .i64 ((a*2^l:Nat):Int)) (.int .i64 (b:Int)) w K=K (.int .i64 (a*2^l|||b:Nat)) w:=fun w K=>vbin_orI (by omega) (by omega)
   have eC:=M.cat_or S k4 ha hb
   obtain⟨q,hq⟩:∃q,q=a*2^l:=⟨_,rfl⟩
   obtain⟨z,hz⟩:∃z,z=q|||b:=⟨_,rfl⟩
   rw[←hq] at eS eO eC
   rw[←hz] at eO eC
   simp(disch:=(simp only[push_cast];done)) only[push_cast,Y.ld0,Y.ld1,g5.ld0,g5.ld1,true_and,e1,eS,eO]
   refine zF xt fun b4 w6 ac f ag p6=>?_
   have H:=Y.ext f
   have g6:=g5.ext f
   have r6:=T.ext f
   simp(disch:=(simp only[push_cast];done)) only[push_cast,H.ld0,H.ld1,g6.ld0,g6.ld1,true_and,e1,eS,eO,and_self]
   refine stVec p6 fun w7 Q _ p7=>?_
   have J:b3≠b4:=by have:=T.lt;omega
   have r7:=r6.same Q J
   have j:Ext U w7:=Ext.then ((c.trans i).trans f) Q fun y hy=>by subst hy;have:=(c.trans i).size;omega
   simp(disch:=(simp only[push_cast];done)) only[push_cast,p7.ld0]
   refine zh (fun a2=>d ?_ _ j) (fun a2=>?_)
   ·rw[if_neg (by omega)]
   ·simp(disch:=(simp only[push_cast];done)) only[push_cast,p7.ldAgg (t:=zb) zU]
    refine stVec r7 fun w8 a6 _ r8=>?_
    rw[r8.lv (by kernel_rfl)]
    have:=D w8 (B _ _ j a6)
    rw[if_pos (by omega),←eC] at this
    exact this
  ·rw[if_neg V] at D d
   refine y5 (fun u A=>u=[]∧A=s∧3≤op∧op≤13∧(k:Int)=l) (fun C Z=>?_) ?_
   ·refine zh (fun a2=>d (by rw[if_neg (by omega)]) _ c) (fun a2=>?_)
    refine zh (fun a3=>d (by rw[if_neg (by omega)]) _ c) (fun a3=>?_)
    simp(disch:=(simp only[push_cast];done)) only[push_cast,X.ld0,g4.ld0]
    refine zh (fun a4=>d (by rw[if_neg (by omega)]) _ c) (fun a4=>?_)
    exact Z _ _ ⟨rfl,rfl,by omega,by omega,by omega⟩
   ·rintro u g A ⟨rfl,rfl,c3,W,ckl⟩
    have:l=k:=by omega
    subst this
    refine zw fun w6 f _=>?_
    have H:=X.ext f
    have g6:=g4.ext f
    simp(disch:=(simp only[push_cast];done)) only[push_cast,H.ldAgg (t:=zb) zU,g6.ldAgg (t:=zb) zU,true_and]
    refine binaries_spec fun w7 j=>?_
    have h7:=H.ext j
    have g7:=g6.ext j
    simp(disch:=(simp only[push_cast];done)) only[push_cast,h7.ldAgg (t:=zb) zU,g7.ldAgg (t:=zb) zU,true_and,and_self]
    obtain⟨o,rfl⟩:∃o:Nat,op=o:=⟨op.toNat,by omega⟩
    refine bin_all (by omega) (by omega) l1 S ha hb rfl ?_ fun x hx=>⟨rfl,hx⟩
    intro w8 r G hr a0
    have h8:=h7.ext G
    simp(disch:=(simp only[push_cast];done)) only[push_cast,h8.ldAgg (t:=zb) zU,true_and,and_self]
    refine vec_spec hr l1 S fun w9 N=>?_
    have r9:=(((r4.ext f).ext j).ext G).ext N
    refine stVec r9 fun w10 P _ a7=>?_
    rw[a7.lv (by kernel_rfl)]
    have:=D w10 (B _ _ ((((c.trans f).trans j).trans G).trans N) P)
    rw[if_pos ⟨c3,W,rfl⟩] at this
    rw[a0]
    exact this
theorem eqVec {a b c d:Int} {t:Bool}:zt PP .eql zb t (ky a b) (ky c d) w K=K (.bool (decide (a=c∧b=d))) w:=by
 refine yN (run_eqGuard_agg w _ _ _ _ _ _ (by kernel_rfl)) ?_
 have j:(PP.fieldsOf zb).toList=[(PP.fieldsOf zb).getD 0 default,(PP.fieldsOf zb).getD 1 default]:=by kernel_rfl
 have g:((PP.fieldsOf zb).getD 0 default).name≠ "_" :=by decide+kernel
 have h:((PP.fieldsOf zb).getD 1 default).name≠ "_" :=by decide+kernel
 have i0:PP.underlying ((PP.fieldsOf zb).getD 0 default).type=some (.int .i64):=by kernel_rfl
 have i1:PP.underlying ((PP.fieldsOf zb).getD 1 default).type=some (.int .i64):=by kernel_rfl
 have i:∀x y:Value,(part ((PP.fieldsOf zb).getD 0 default).type ⟨[x,y]⟩ ((PP.fieldsOf zb).getD 0 default).offset).run PP w= .ok x w:=fun x y=>by kernel_rfl
 have p1:∀x y:Value,(part ((PP.fieldsOf zb).getD 1 default).type ⟨[x,y]⟩ ((PP.fieldsOf zb).getD 1 default).offset).run PP w= .ok y w:=fun x y=>by kernel_rfl
 have k:(Op.equalIn 10000 zb (ky a b) (ky c d)).run PP w= .ok (decide (a=c∧b=d)) w:=by
  rw[run_equalIn_struct w 9999 zb _ _ (by kernel_rfl) (by kernel_rfl),j]
  generalize (PP.fieldsOf zb).getD 0 default=f0 at g i0 i⊢
  generalize (PP.fieldsOf zb).getD 1 default=f1 at h i1 p1⊢
  simp only[Op.eqFields,if_pos g,if_pos h,Sem.run_bind,i,p1,Result.andThen_ok,run_equalIn_int w 9998 _ _ _ _ _ i0,run_equalIn_int w 9998 _ _ _ _ _ i1]
  by_cases e:a=c
  ·by_cases f:b=d
   ·subst e;subst f;simp[run_equalIn_int w 9998 _ _ _ _ _ i1,p1]
   ·subst e;simp[run_equalIn_int w 9998 _ _ _ _ _ i1,p1,f]
  ·simp[e]
 rw[run_eql_struct,k]
 rfl
theorem VecCmp_spec {op wd n v m:Int} (k:∀w',Ext w w'→K (.tuple #[.bool (M.vecCmp op wd n v m).1,.bool (M.vecCmp op wd n v m).2]) w'):vcall PP Xo #[.int .i64 op,ky wd n,ky v m] w K:=by
 apply xx0
 refine zx fun b1 L E y G B=>?_
 refine zx fun b2 A F l H g2=>?_
 have p:=y.trans l
 have r:=B.ext l
 have d:(M.vecCmp op wd n v m)=(false,false)→∀f,Ext A f→K (.tuple #[.bool false,.bool false]) f:=by
  intro e f a
  have:=k f (p.trans a)
  rwa[e] at this
 refine y5 (fun u f=>u=[]∧Ext A f∧M.vok wd n=true∧M.vok v m=true∧wd=v) (fun C D=>?_) ?_
 ·simp(disch:=(simp only[push_cast];done)) only[push_cast,r.ldAgg (t:=zb) zU]
  refine VecOk_spec fun f a=>?_
  have g4:=g2.ext a
  simp only[push_cast]
  refine yo (fun q=>d ?_ _ a) (fun q=>?_)
  ·unfold M.vecCmp;rw[if_neg (by simp at q;simp[q])]
  ·simp(disch:=(simp only[push_cast];done)) only[push_cast,g4.ldAgg (t:=zb) zU]
   refine VecOk_spec fun I b=>?_
   have g5:=g4.ext b
   have x:=(r.ext a).ext b
   simp only[push_cast]
   refine yo (fun c=>d ?_ _ (a.trans b)) (fun c=>?_)
   ·unfold M.vecCmp;rw[if_neg (by simp at c;simp[c])]
   ·simp(disch:=(simp only[push_cast];done)) only[push_cast,x.ld0,g5.ld0]
    refine zh (fun j=>d ?_ _ (a.trans b)) (fun j=>?_)
    ·unfold M.vecCmp;rw[if_neg (fun h=>j h.2.2.1)]
    ·exact D _ _ ⟨rfl,a.trans b,by simpa using q,by simpa using c,by omega⟩
 ·rintro u g f ⟨rfl,a,i,c,rfl⟩
  have s:=r.ext a
  have g4:=g2.ext a
  unfold M.vecCmp at k d
  simp only[push_cast]
  refine zh (fun j=>?_) (fun j=>?_)
  ·subst j
   simp(disch:=(simp only[push_cast];done)) only[push_cast,s.ldAgg (t:=zb) zU,g4.ldAgg (t:=zb) zU]
   rw[eqVec]
   have:=k f (p.trans a)
   rw[if_pos ⟨i,c,rfl,by omega,by omega⟩] at this
   simp only[M.cmpM,if_true] at this
   simp only[true_and]
   exact this
  refine zh (fun a2=>?_) (fun a2=>?_)
  ·subst a2
   simp(disch:=(simp only[push_cast];done)) only[push_cast,s.ld1,g4.ld1]
   have:=k f (p.trans a)
   rw[if_pos ⟨i,c,rfl,by omega,by omega⟩] at this
   exact this
  refine zh (fun a3=>?_) (fun a3=>?_)
  ·subst a3
   refine zw fun I b _=>?_
   have x:=s.ext b
   have g5:=g4.ext b
   simp(disch:=(simp only[push_cast];done)) only[push_cast,x.ldAgg (t:=zb) zU,g5.ldAgg (t:=zb) zU,true_and]
   refine VecSigned_spec fun N o=>?_
   have g6:=g5.ext o
   simp(disch:=(simp only[push_cast];done)) only[push_cast,g6.ldAgg (t:=zb) zU,true_and,and_self]
   refine VecSigned_spec fun J z=>?_
   simp only[push_cast,if_pos i,if_pos c,true_and]
   have:=k J (((p.trans a).trans b).trans (o.trans z))
   rw[if_pos ⟨i,c,rfl,by omega,by omega⟩] at this
   exact this
  ·exact d (by rw[if_neg (fun h=>by omega)]) _ a
theorem VecCut_spec {wd n hi lo:Int} (m:∀w',Ext w w'→K (.tuple #[ky (M.vecCut wd n hi lo).1.1 (M.vecCut wd n hi lo).1.2,.bool (M.vecCut wd n hi lo).2]) w'):vcall PP Zo #[ky wd n,.int .i64 hi,.int .i64 lo] w K:=by
 apply xw0
 refine zx fun b1 w1 U o W Q=>?_
 refine zF xt fun b3 E V p X I=>?_
 have S:=o.trans p
 have a0:=o.size
 have v:=Q.ext p
 have f:∀d i,Ext E d→Same (· =b3) d i→Ext w i:=fun d i h P=>Ext.then (S.trans h) P fun y Y=>by subst Y;omega
 have c:(M.vecCut wd n hi lo)=((0,0),false)→∀d,Ext E d→zu PP zb (.pointer (some ⟨b3,0,none⟩)) (ky 0 0) d fun _ i=>vlv PP zb (.pointer (some ⟨b3,0,none⟩)) i fun r F=>K (.tuple #[r,.bool false]) F:=by
  intro e d b
  refine stVec (I.ext b) fun i B _ r5=>?_
  rw[r5.lv (by kernel_rfl)]
  have:=m i (f _ _ b B)
  rwa[e] at this
 unfold M.vecCut at m c
 refine y5 (fun u d=>u=[]∧Ext E d∧M.vok wd n=true∧0≤lo∧lo≤hi∧hi<wd) (fun C R=>?_) ?_
 ·simp(disch:=(simp only[push_cast];done)) only[push_cast,v.ldAgg (t:=zb) zU]
  refine VecOk_spec fun d b=>?_
  have A:=v.ext b
  simp only[push_cast]
  refine yo (fun j=>c ?_ _ b) (fun j=>?_)
  ·rw[if_neg (by simp at j;simp[j])]
  refine zh (fun J=>c (if_neg (by omega)) _ b) (fun J=>?_)
  refine zh (fun a2=>c (if_neg (by omega)) _ b) (fun a2=>?_)
  simp(disch:=(simp only[push_cast];done)) only[push_cast,A.ld0]
  refine zh (fun a3=>c (if_neg (by omega)) _ b) (fun a3=>?_)
  exact R _ _ ⟨rfl,b,by simpa using j,by omega,by omega,by omega⟩
 ·rintro u g d ⟨rfl,b,j,L,N,c3⟩
  have A:=v.ext b
  have r4:=I.ext b
  obtain⟨k,a,rfl,rfl,k1,k4,T⟩:=M.vok_nat j
  obtain⟨l,rfl⟩:∃l:Nat,lo=l:=⟨lo.toNat,by omega⟩
  obtain⟨t,H⟩:∃t:Nat,hi-(l:Int)+1=t:=⟨(hi-l+1).toNat,by omega⟩
  have G:=pow16 k4 T
  have O:IntKind.i64.wrap (IntKind.i64.wrap (hi-(l:Int))+1)=(t:Int):=by rw[zH (x:=hi-l) (by omega) (by omega),zH (by omega) (by omega)];omega
  simp(disch:=(simp only[push_cast];done)) only[push_cast,A.ldAgg (t:=zb) zU,O]
  refine raw_spec (by omega) fun i q=>?_
  have hd:=Nat.div_le_self a (2^l)
  rw[vbin_shrU (by omega)]
  refine cut_spec (by omega) (by omega) (by omega) ?_
  have hm:=Nat.mod_le (a/2^l) (2^t)
  have s:M.cutM (a:Int) hi (l:Int)=((a/2^l%2^t:Nat):Int):=by
   unfold M.cutM
   rw[H]
   simp
  rw[if_pos ⟨j,L,N,c3⟩] at m
  simp only[s,H] at m
  obtain⟨z,Z⟩:∃z,z=a/2^l%2^t:=⟨_,rfl⟩
  rw[←Z] at hm m⊢
  rw[kG UE WP,wrapN (by omega)]
  simp only[push_cast]
  refine stVec (r4.ext q) fun F D _ r6=>?_
  rw[r6.lv (by kernel_rfl)]
  exact m F (f _ _ (b.trans q) D)
end Go.Proofs.YtaekfnbnhjgboaaGreatDoor
end
section
namespace Go.Proofs.YtaekfnbnhjgboaaGreatDoor
open Go Go.Vc Go.Proofs
variable {w:World} {K:Value→World→Prop} {F:Nat→Prop}
theorem YQ0 (x y:Bool):(Op.equal kO (.bool x) (.bool y)).run PP w= .ok (x==y) w:=by
 have hu:PP.underlying kO=some .bool:=by kernel_rfl
 have:∀d,(Op.equalIn (d+1) kO (.bool x) (.bool y)).run PP w= .ok (x==y) w:=fun d=>by
  rw[Op.equalIn,Sem.run_bind,run_underlying hu];rfl
 exact this 9999
@[push_cast] theorem vbin_neb (b:Bool) (x y:Bool):zt PP .neq kO b (.bool x) (.bool y) w K=K (.bool (x != y)) w:=
 yN rfl (by simp[binOp,YQ0,Result.andThen,bne])
theorem IndexFunc_Lint_int {v f:Value} {vs:List Value} {p:Nat→Bool} (e:Vals F w v vs) (o:∀i,i<vs.length→FnB PP w f #[vs.getD i undef] (p i))
  (k:∀w',Ext w w'→K (.int .i64 (idxI vs.length p)) w'):vcall PP xU #[v,f] w K:=by
 apply ZI
 simp(disch:=first|(simp only[push_cast];done)|omega) only[push_cast,e.len]
 have hlen:vs.length≤9223372036854775807:=by obtain⟨_,_,_,m,x,_⟩:=e.shape;simp at m;omega
 refine vloop_up vs.length (fun i u w'=>u=[.int .i64 i]∧Ext w w'∧∀j,j<i→p j=false) ⟨rfl,Same.refl _ _,by omega⟩ ?_
 rintro i _ g l C hi ⟨rfl,he,d⟩ n
 simp only[push_cast]
 refine zh (fun s=>?_) (fun q=>?_)
 ·have b:=e.ext he
  simp(disch:=first|(simp only[push_cast];done)|omega) only[push_cast,b.iaddr,b.load]
  refine o i (by omega) l _ he fun t a=>yo (fun c=>?_) (fun c=>?_)
  ·have:=k t (he.trans a)
   rwa[idxI_some (by omega) c d] at this
  ·simp(disch:=omega) only[push_cast,zH]
   exact n (by omega) _ _ ⟨by simp,he.trans a,fun j r=>by
    by_cases h:j=i
    ·subst h;exact c
    ·exact d j (by omega)⟩
 ·have:=k l he
  rwa[UU (fun j r=>d j (by omega))] at this
theorem QM {v f:Value} {vs:List Value} {p:Nat→Bool} (c:Vals F w v vs) (b:∀i,i<vs.length→FnB PP w f #[vs.getD i undef] (p i))
  (a:∀w',Ext w w'→K (.bool ((List.range vs.length).any p)) w'):vcall PP xF #[v,f] w K:=by
 apply kM
 refine IndexFunc_Lint_int c b fun w' he=>?_
 simp only[push_cast,Kq]
 exact a w' he
end Go.Proofs.YtaekfnbnhjgboaaGreatDoor
end
section
namespace Go.Proofs.YtaekfnbnhjgboaaGreatDoor
open Go Go.Vc Go.Proofs
variable {w:World} {K:Value→World→Prop} {F G:Nat→Prop}
@[push_cast] theorem tn0:(0:Int).toNat=0:=rfl
@[push_cast] theorem tn1:(1:Int).toNat=1:=rfl
@[push_cast] theorem tn2:(2:Int).toNat=2:=rfl
theorem kR0 {α:Type} (xs:List α) (d:α) (p:α→Bool):(List.range xs.length).any (fun i=>p (xs.getD i d))=xs.any p:=by
 rw[Bool.eq_iff_iff,List.any_eq_true,List.any_eq_true]
 constructor
 ·rintro⟨i,hi,a⟩
  exact⟨_,M.getD_mem (List.mem_range.1 hi) d,a⟩
 ·rintro⟨x,b,a⟩
  obtain⟨i,hi,rfl⟩:=List.getElem_of_mem b
  exact⟨i,List.mem_range.2 hi,by rw[List.getD_eq_getElem?_getD,List.getElem?_eq_getElem hi];exact a⟩
abbrev DclV (d:M.Dcl):Value:= .agg ⟨[.string d.1,.int .i64 d.2]⟩
abbrev jo0:M.Dcl:=(M.nada,0)
theorem IndexFunc_Decl {v f:Value} {ds:List M.Dcl} {p:Nat→Bool} (e:DclsR F w v ds) (n:∀i,i<ds.length→FnB PP w f #[DclV (ds.getD i jo0)] (p i))
  (k:∀w',Ext w w'→K (.int .i64 (idxI ds.length p)) w'):vcall PP yp #[v,f] w K:=by
 apply qN
 simp(disch:=first|(simp only[push_cast];done)|omega) only[push_cast,e.len]
 have hlen:=e.small
 refine vloop_up ds.length (fun i u w'=>u=[.int .i64 i]∧Ext w w'∧∀j,j<i→p j=false) ⟨rfl,Same.refl _ _,by omega⟩ ?_
 rintro i _ g l C hi ⟨rfl,he,d⟩ m
 simp only[push_cast]
 refine zh (fun r=>?_) (fun o=>?_)
 ·have b:=e.ext he
  simp(disch:=first|(simp only[push_cast];done)|omega) only[push_cast,b.iaddr,b.load]
  refine n i (by omega) l _ he fun s a=>yo (fun c=>?_) (fun c=>?_)
  ·have:=k s (he.trans a)
   rwa[idxI_some (by omega) c d] at this
  ·rw[inc64' (by omega)]
   exact m (by omega) _ _ ⟨rfl,he.trans a,fun j q=>by
    by_cases h:j=i
    ·subst h;exact c
    ·exact d j (by omega)⟩
 ·have:=k l he
  rwa[UU (fun j q=>d j (by omega))] at this
theorem WJ {v f:Value} {ds:List M.Dcl} {p:Nat→Bool} (c:DclsR F w v ds) (b:∀i,i<ds.length→FnB PP w f #[DclV (ds.getD i jo0)] (p i))
  (a:∀w',Ext w w'→K (.bool ((List.range ds.length).any p)) w'):vcall PP yG #[v,f] w K:=by
 apply qo
 refine IndexFunc_Decl c b fun w' he=>?_
 simp only[push_cast,Kq]
 exact a w' he
theorem UL {b:Bool} (a:K (.int .i64 (M.b2i b)) w):vcall PP Zn #[.bool b] w K:=by
 apply xu0
 refine yo (fun h=>?_) (fun h=>?_)<;>subst h<;>exact a
theorem X7 {b:Bool} {s:Int} (a:K (.int .i64 (if b=true then s else-1)) w):vcall PP yf #[.bool b,.int .i64 s] w K:=by
 apply xs0
 refine yo (fun h=>?_) (fun h=>?_)<;>subst h<;>exact a
theorem ki {p:Prop} [Decidable p] {s:Int} (a:K (.int .i64 (if p then s else-1)) w):vcall PP yf #[.bool (decide p),.int .i64 s] w K:=
 X7 (by simpa using a)
theorem Zu {s:Int} (a:K (.int .i64 (-1)) w):vcall PP yf #[.bool false,.int .i64 s] w K:=X7 a
theorem jP {s:ByteArray} {n:Int} (c:∀w',Ext w w'→K (.int .i64 n) w'):vcall PP yx #[.agg ⟨[.string s,.int .i64 n]⟩] w K:=by
 apply Ws
 refine zx fun b1 f d a e b=>?_
 simp(disch:=(simp only[push_cast];done)) only[push_cast,b.ld1]
 exact c _ a
abbrev KV (s:ByteArray) (n:Int):Value:= .agg ⟨[.string s,.int .i64 n]⟩
theorem unKind_sort_spec {s:ByteArray} {n:Int} {dv tv kv:Value} {t:M.Tm} {xs:List Int} (k:TermR F w tv t) (l:Ints G w kv xs) (p:xs.length=1)
  (e:∀w',Ext w w'→K (.int .i64 (if 0<xs.getD 0 0 then xs.getD 0 0 else-1)) w'):vcall PP jF #[KV s n,dv,tv,kv] w K:=by
 apply Vj
 obtain⟨ksv,rfl,h⟩:=k
 refine zx fun b1 q f a i m=>?_
 refine zx fun b2 r g b j o=>?_
 refine zw fun u c _=>?_
 have d:=l.ext ((a.trans b).trans c)
 simp(disch:=first|(simp only[push_cast];done)|omega) only[push_cast,d.iaddr,d.load,true_and]
 exact ki (e _ ((a.trans b).trans c))
theorem binKind_sort_spec {s:ByteArray} {n:Int} {dv tv kv:Value} {t:M.Tm} {xs:List Int} (m:TermR F w tv t) (o:Ints G w kv xs) (r:xs.length=2)
  (g:∀w',Ext w w'→K (.int .i64 (if 0<xs.getD 0 0∧xs.getD 0 0=xs.getD 1 0 then xs.getD 0 0 else-1)) w'):vcall PP jm #[KV s n,dv,tv,kv] w K:=by
 apply KH
 obtain⟨ksv,rfl,j⟩:=m
 refine zx fun b1 u h b k p=>?_
 refine zx fun b2 v i c l q=>?_
 refine zw fun x d _=>?_
 have e:=o.ext ((b.trans c).trans d)
 have f:=g _ ((b.trans c).trans d)
 simp(disch:=first|(simp only[push_cast];done)|omega) only[push_cast,e.iaddr,e.load,true_and]
 refine zh (fun a=>?_) (fun a=>?_)
 ·refine ki ?_
  simpa only[a,true_and] using f
 ·refine Zu ?_
  simpa only[a,false_and,if_false] using f
theorem cmpKind_sort_spec {s:ByteArray} {n:Int} {dv tv kv:Value} {t:M.Tm} {xs:List Int} (m:TermR F w tv t) (o:Ints G w kv xs) (r:xs.length=2)
  (g:∀w',Ext w w'→K (.int .i64 (if 0<xs.getD 0 0∧xs.getD 0 0=xs.getD 1 0 then 0 else-1)) w'):vcall PP ji #[KV s n,dv,tv,kv] w K:=by
 apply Ky
 obtain⟨ksv,rfl,j⟩:=m
 refine zx fun b1 u h b k p=>?_
 refine zx fun b2 v i c l q=>?_
 refine zw fun x d _=>?_
 have e:=o.ext ((b.trans c).trans d)
 have f:=g _ ((b.trans c).trans d)
 simp(disch:=first|(simp only[push_cast];done)|omega) only[push_cast,e.iaddr,e.load,true_and]
 refine zh (fun a=>?_) (fun a=>?_)
 ·refine ki ?_
  simpa only[a,true_and] using f
 ·refine Zu ?_
  simpa only[a,false_and,if_false] using f
theorem catKind_sort_spec {s:ByteArray} {n:Int} {dv tv kv:Value} {t:M.Tm} {xs:List Int} (r:TermR F w tv t) (u:Ints G w kv xs) (y:xs.length=2) (h:∀i,-1≤xs.getD i 0∧xs.getD i 0≤4)
  (k:∀w',Ext w w'→K (.int .i64 (if 0<xs.getD 0 0∧0<xs.getD 1 0∧xs.getD 0 0+xs.getD 1 0≤4 then xs.getD 0 0+xs.getD 1 0 else-1)) w'):vcall PP jj #[KV s n,dv,tv,kv] w K:=by
 apply KA
 obtain⟨ksv,rfl,o⟩:=r
 refine zx fun b1 B l c p v=>?_
 refine zx fun b2 C m d q x=>?_
 refine zw fun D e _=>?_
 have f:=u.ext ((c.trans d).trans e)
 have g:=k _ ((c.trans d).trans e)
 have z:=h 0
 have A:=h 1
 have j:IntKind.i64.wrap (xs.getD 0 0+xs.getD 1 0)=xs.getD 0 0+xs.getD 1 0:=zH (by omega) (by omega)
 simp(disch:=first|(simp only[push_cast];done)|omega) only[push_cast,f.iaddr,f.load,true_and,j]
 refine zh (fun a=>?_) (fun a=>?_)
 ·refine zh (fun b=>?_) (fun b=>?_)
  ·refine ki ?_
   simpa only[a,b,true_and] using g
  ·refine Zu ?_
   simpa only[b,false_and,and_false,if_false] using g
 ·refine Zu ?_
  simpa only[a,false_and,if_false] using g
theorem ifKind_sort_spec {s:ByteArray} {n:Int} {dv tv kv:Value} {t:M.Tm} {xs:List Int} (m:TermR F w tv t) (o:Ints G w kv xs) (r:xs.length=3)
  (g:∀w',Ext w w'→K (.int .i64 (if xs.getD 0 0=0∧xs.getD 1 0=xs.getD 2 0 then xs.getD 1 0 else-1)) w'):vcall PP jG #[KV s n,dv,tv,kv] w K:=by
 apply Vl
 obtain⟨ksv,rfl,j⟩:=m
 refine zx fun b1 u h b k p=>?_
 refine zx fun b2 v i c l q=>?_
 refine zw fun x d _=>?_
 have e:=o.ext ((b.trans c).trans d)
 have f:=g _ ((b.trans c).trans d)
 simp(disch:=first|(simp only[push_cast];done)|omega) only[push_cast,e.iaddr,e.load,true_and]
 refine zh (fun a=>?_) (fun a=>?_)
 ·refine ki ?_
  simpa only[a,true_and] using f
 ·refine Zu ?_
  simpa only[a,false_and,if_false] using f
theorem W7 {s:ByteArray} {n:Int} {dv tv kv:Value} {t:M.Tm} (q:TermR F w tv t)
  (j:∀w',Ext w w'→K (.int .i64 (if M.vok t.a t.b=true then t.a else-1)) w'):vcall PP jd #[KV s n,dv,tv,kv] w K:=by
 apply Ku
 obtain⟨ksv,rfl,m⟩:=q
 refine zx fun b1 u k f o r=>?_
 refine zx fun b2 v l g p h=>?_
 refine zw fun x c _=>?_
 have e:=h.ext c
 simp(disch:=first|(simp only[push_cast];done)|omega) only[push_cast,e.ld1,e.ld2,true_and]
 refine VecOk_spec fun y d=>?_
 have i:=e.ext d
 simp(disch:=first|(simp only[push_cast];done)|omega) only[push_cast,i.ld1,true_and,and_self]
 exact X7 (j _ (((f.trans g).trans c).trans d))
theorem cutKind_sort_spec {s:ByteArray} {n:Int} {dv tv kv:Value} {t:M.Tm} {xs:List Int} (y:TermR F w tv t) (z:Ints G w kv xs) (B:xs.length=1) (r:∀i,-1≤xs.getD i 0∧xs.getD i 0≤4)
  (m:∀w',Ext w w'→K (.int .i64 (if 0≤t.b∧t.b≤t.a∧t.a<xs.getD 0 0 then t.a-t.b+1 else-1)) w'):vcall PP jh #[KV s n,dv,tv,kv] w K:=by
 apply Kx
 obtain⟨ksv,rfl,q⟩:=y
 refine zx fun b1 D o e u A=>?_
 refine zx fun b2 E p f v l=>?_
 refine zw fun H d _=>?_
 have g:=z.ext ((e.trans f).trans d)
 have j:=l.ext d
 have h:=m _ ((e.trans f).trans d)
 have C:=r 0
 simp(disch:=first|(simp only[push_cast];done)|omega) only[push_cast,j.ld1,j.ld2,g.iaddr,g.load,true_and]
 refine zh (fun a=>?_) (fun a=>?_)
 ·refine zh (fun b=>?_) (fun b=>?_)
  ·by_cases c:t.a<xs.getD 0 0
   ·have k:IntKind.i64.wrap (IntKind.i64.wrap (t.a-t.b)+1)=t.a-t.b+1:=by rw[zH (x:=t.a-t.b) (by omega) (by omega),zH (by omega) (by omega)]
    rw[k]
    refine ki ?_
    simpa only[a,b,c,true_and] using h
   ·refine ki ?_
    simpa only[c,and_false,if_false] using h
  ·refine Zu ?_
   simpa only[b,false_and,and_false,if_false] using h
 ·refine Zu ?_
  simpa only[a,false_and,if_false] using h
theorem Vx {s:ByteArray} {n:Int} {f dv tv kv:Value} {t:M.Tm} {xs:List Int} (q:TermR F w tv t) (r:Ints G w kv xs)
  (c:∀w',Ext w w'→K (.int .i64 (if xs.any (fun x=>decide (x≠0)) then-1 else 0)) w'):vcall PP qZ #[.agg ⟨[.string s,.int .i64 n,f]⟩,dv,tv,kv] w K:=by
 apply Jv
 obtain⟨ksv,rfl,l⟩:=q
 refine zx fun b1 y j a m u=>?_
 refine zx fun b2 z k b o v=>?_
 have e:=r.ext (a.trans b)
 refine QM (p:=fun i=>decide (xs.getD i 0≠0)) e (fun i hi=>?_) fun A d=>?_
 ·rw[xT0 (by simpa using hi)]
  intro w' K he c
  simp only[push_cast]
  apply XM
  simp only[push_cast]
  have:=c _ (Same.refl _ _)
  simpa using this
 ·have g:=c _ ((a.trans b).trans d)
  rw[List.length_map,kR0 xs 0 (fun x=>decide (x≠0))]
  simp only[push_cast]
  refine X7 ?_
  cases h:xs.any fun x=>decide (x≠0)<;>rw[h] at g<;>exact g
theorem nameKind_sort_spec {s:ByteArray} {n:Int} {dv tv kv:Value} {t:M.Tm} {ds:List M.Dcl} (B:TermR F w tv t) (u:DclsR G w dv ds)
  (h:∀w',Ext w w'→K (.int .i64 (if M.findD ds t.s<0 then-1 else(ds.getD (M.findD ds t.s).toNat jo0).2)) w'):vcall PP qU #[KV s n,dv,tv,kv] w K:=by
 apply Jp
 obtain⟨ksv,rfl,x⟩:=B
 refine zx fun b1 D o d y C=>?_
 refine zx fun b2 E q e z k=>?_
 simp only[push_cast]
 have b:=u.ext (d.trans e)
 refine IndexFunc_Decl (p:=fun i=>decide ((ds.getD i jo0).1=t.s)) b (fun i hi=>?_) fun H f=>?_
 ·intro w' K he h
  simp only[push_cast]
  apply XK
  refine zx fun b3 I r g A l=>?_
  have m:=(k.ext he).ext g
  simp(disch:=first|(simp only[push_cast];done)|omega) only[push_cast,l.ld0,m.ld3]
  exact h _ g
 ·have v:=M.findD_lt ds t.s
  have j:=h _ ((d.trans e).trans f)
  have c:=b.ext f
  have efd:idxI ds.length (fun i=>decide ((ds.getD i jo0).1=t.s))=M.findD ds t.s:=rfl
  rw[efd]
  simp only[push_cast]
  refine zh (fun a=>?_) (fun a=>?_)
  ·rwa[if_pos a] at j
  ·rw[if_neg a] at j
   simp(disch:=first|(simp only[push_cast];done)|omega) only[push_cast,c.iaddr]
   simp(disch:=first|(simp only[push_cast];done)|omega) only[push_cast,c.load1]
   exact j
end Go.Proofs.YtaekfnbnhjgboaaGreatDoor
end
section
namespace Go.Proofs.YtaekfnbnhjgboaaGreatDoor
open Go Go.Vc Go.Proofs
variable {w:World} {K:Value→World→Prop} {F:Nat→Prop}
theorem l1Max_spec {a b:Int} (c:K (.int .i64 (max a b)) w):vcall PP Q8 #[.int .i64 a,.int .i64 b] w K:=by
 apply qm0
 simp only[push_cast]
 refine zh (fun h=>?_) (fun h=>?_)
 ·rwa[show max a b=a by omega] at c
 ·rwa[show max a b=b by omega] at c
theorem pow62 {k:Nat} (h:k≤62):2^k≤4611686018427387904:=Nat.le_trans (Nat.pow_le_pow_right (by omega) h) (by decide)
theorem l1Two_spec {n:Int} (h:n≤62) (l:K (.int .i64 ((2^n.toNat:Nat):Int)) w):vcall PP js #[.int .i64 n] w K:=by
 apply ql0
 refine vloop_up n.toNat (fun i u w'=>u=[.int .i64 (2^i:Nat),.int .i64 i]∧w'=w) ⟨rfl,rfl⟩ ?_
 rintro i _ _ o C hi ⟨rfl,rfl⟩ e
 have m:=pow62 (k:=i) (by omega)
 have c:((2^i:Nat):Int)*2=((2^(i+1):Nat):Int):=by rw[Nat.pow_succ];omega
 have b:i<n.toNat→2^(i+1)≤4611686018427387904:=fun h=>pow62 (by omega)
 obtain⟨q,g⟩:∃q,q=2^i:=⟨_,rfl⟩
 obtain⟨j,d⟩:∃j,j=2^(i+1):=⟨_,rfl⟩
 rw[←g] at c m⊢
 rw[←d] at c e b
 simp only[push_cast]
 refine zh (fun a=>?_) (fun a=>?_)
 ·have f:=b (by omega)
  rw[c,zH (by omega) (by omega),inc64' (by omega)]
  exact e (by omega) _ _ ⟨rfl,rfl⟩
 ·have:i=n.toNat:=by omega
  subst this
  rw[g];exact l
theorem l1Two_nat {n:Nat} (h:n≤62) (a:K (.int .i64 ((2^n:Nat):Int)) w):vcall PP js #[.int .i64 (n:Int)] w K:=
 l1Two_spec (by omega) (by rwa[Int.toNat_natCast])
theorem spec_VecOk_spec {wd n:Int} (j:∀w',Ext w w'→K (.bool (M.vok wd n)) w'):vcall PP Qa #[ky wd n] w K:=by
 apply qo0
 refine zx fun b1 o k f l h=>?_
 refine zw fun m c _=>?_
 have e:=h.ext c
 have i:=f.trans c
 simp(disch:=(simp only[push_cast];done)) only[push_cast,e.ld0,e.ld1,true_and]
 have a:=j m i
 refine zh (fun d=>?_) (fun d=>?_)
 ·refine zh (fun a2=>?_) (fun a2=>?_)
  ·refine zh (fun a3=>?_) (fun a3=>?_)
   ·refine l1Two_spec (by omega) ?_
    obtain⟨q,g⟩:∃q,q=2^wd.toNat:=⟨_,rfl⟩
    have b:M.vok wd n=decide (n<(q:Nat)):=by
     simp only[M.vok,decide_eq_true d,decide_eq_true a2,decide_eq_true a3,Bool.true_and]
     rw[g,yt0]
    rw[←g]
    simp(disch:=(simp only[push_cast];done)) only[push_cast,e.ld1,true_and,and_self]
    rw[b] at a
    exact a
   ·have b:M.vok wd n=false:=by simp only[M.vok,decide_eq_false a3,Bool.and_false,Bool.false_and]
    rw[b] at a;exact a
  ·have b:M.vok wd n=false:=by simp only[M.vok,decide_eq_false a2,Bool.and_false,Bool.false_and]
   rw[b] at a;exact a
 ·have b:M.vok wd n=false:=by simp only[M.vok,decide_eq_false d,Bool.false_and]
  rw[b] at a;exact a
theorem l1Bit_spec {n k:Nat} (d:n<9223372036854775808) (b:k≤62) (a:K (.int .i64 ((n/2^k%2:Nat):Int)) w):vcall PP Q9 #[.int .i64 (n:Int),.int .i64 (k:Int)] w K:=by
 apply qn0
 refine l1Two_nat b ?_
 have e:0<2^k:=Nat.pow_pos (by omega)
 have c:n/2^k≤n:=Nat.div_le_self _ _
 rw[yA0 (by omega),show(n:Int).tdiv ((2^k:Nat):Int)=((n/2^k:Nat):Int) from rfl,wrapN (by omega),yz0 (by omega),show((n/2^k:Nat):Int).tmod 2=((n/2^k%2:Nat):Int) from rfl]
 exact a
end Go.Proofs.YtaekfnbnhjgboaaGreatDoor
end
