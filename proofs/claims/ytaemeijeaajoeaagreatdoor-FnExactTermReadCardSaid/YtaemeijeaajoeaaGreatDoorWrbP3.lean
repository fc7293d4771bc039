import Derived.Test.YtaemeijeaajoeaaGreatDoorWrbP2
/- A part of the proof. -/
set_option linter.unusedVariables false
set_option linter.unusedSimpArgs false
set_option linter.unnecessarySimpa false
set_option linter.unusedSectionVars false
section
namespace Go.Proofs.YtaemeijeaajoeaaGreatDoor
open Go Go.Vc Go.Proofs
def Ym [ZP] (P:Program) (v0 v1 v2:Value) (w:World) (R:Value→World→Prop):Prop:=xO P za v2 w fun a b=>zg P za a 0 b fun b c=>zh P zb b c fun b c=>J7 P zi v0 b true c fun b c=>zm P b 0 c fun c d=>zm P b 1 d fun b d=>yN (fun e=>x9 d fun d=>vun P .not b d fun b f=>f=d∧vif b (R (.int .i64 (-1)) d) (zg P za a 4 d fun b f=>f=d∧zh P ze b d fun f g=>g=d∧vbi P .len [ze] zb [f] d fun g h=>h=d∧vinvoke P c mn_kids #[] d fun d h=>(vbi P .len [ze] zb [f] h fun i j=>i=g∧j=h)∧(zh P ze b h fun i j=>i=f∧j=h)∧(zg P za a 4 h fun i j=>i=b∧j=h)∧zj P .neq zb false g d h fun b d=>d=h∧vif b (R (.int .i64 (-1)) h) (zh P za a h fun b d=>d=h∧vcall P kg #[b] h fun b d=>vun P .not b d fun b f=>f=d∧vif b (R (.int .i64 (-1)) d) (e [] d)))) (fun _ _ b=>zg P za a 4 b fun b d=>zh P ze b d fun b d=>vbi P .len [ze] zb [b] d fun d e=>yD [(.slice none 0 0),(.int .i64 0)] e fun e f _ g=>zj P .lss zb false (sl 1 f) d g fun d g=>vif d (zv P ze b (sl 1 f) g fun b d=>zh P za b d fun b d=>yp P za d fun d h=>zn P za d b h fun _ b=>zh P za d b fun b d=>vcall P qo #[v0,v1,b] d fun b d=>zj P .eql zb true b (.int .i64 (-1)) d fun d h=>vif d (R (.int .i64 (-1)) h) (vbuildS P yh 1 [(0,b)] h fun b d=>vbi P .append [yh,yh] yh [(sl 0 f),b] d fun b d=>zj P .add zb true (sl 1 f) (.int .i64 1) d fun d h=>e [b,d] h)) (zh P za a g fun a b=>vinvoke P c qI #[v1,a,(sl 0 f)] b fun a b=>R a b))
theorem J1 [ZP] {v0 v1 v2 w R} (h:Ym PP v0 v1 v2 w R):vcall PP qo #[v0,v1,v2] w R:=zl {ord:=[(2,[0,1,2,3,4,5,6,7,8,9,10,11,12,13,14],[(0,[1,2,3,4,5,6,7,8,9,10,11,12,13,14]),(1,[2,3,4,5,6,7,8,9,10,11,12,13,14]),(2,[3,4,5,6,7,8,9,10,11,12,13,14]),(3,[4,5,8,9,10,11,12,13,14]),(4,[5,8,9,10,11,12,13,14]),(5,[8,9,10,11,12,13,14]),(6,[7,8,9,10,11,12,13,14]),(7,[8,9,10,11,12,13,14]),(8,[9,10,11,12,13,14]),(9,[10,11,12,13,14]),(10,[11,12,13,14]),(11,[12,13,14]),(12,[13,14]),(13,[14])])],loops:=[(6,[9,38])],cuts:=[(12292,[])]} Tryz.func43 (by kernel_rfl) (by kernel_rfl) h
def Y5 [ZP] (P:Program) (v0 v1:Value) (w:World) (R:Value→World→Prop):Prop:=yD [v1] w fun a b _ c=>vbi P .len [zc] zb [v0] c fun c d=>zj P .lss zb false (sl 0 b) c d fun c d=>vif c (yn P zc v0 (sl 0 b) d fun c e=>zj P .neq zQ true c (.int .u8 32) e fun c e=>vif c (yn P zc v0 (sl 0 b) e fun c f=>zj P .neq zQ true c (.int .u8 40) f fun c f=>vif c (yn P zc v0 (sl 0 b) f fun c g=>zj P .neq zQ true c (.int .u8 41) g fun c g=>vif c (zj P .add zb true (sl 0 b) (.int .i64 1) g fun c h=>a [c] h) (yJ P zc v0 (some v1) (some (sl 0 b)) none g fun a c=>R (.tuple #[a,(sl 0 b)]) c)) (yJ P zc v0 (some v1) (some (sl 0 b)) none f fun a c=>R (.tuple #[a,(sl 0 b)]) c)) (yJ P zc v0 (some v1) (some (sl 0 b)) none e fun a c=>R (.tuple #[a,(sl 0 b)]) c)) (yJ P zc v0 (some v1) (some (sl 0 b)) none d fun a c=>R (.tuple #[a,(sl 0 b)]) c)
theorem QJ [ZP] {v0 v1 w R} (h:Y5 PP v0 v1 w R):vcall PP yV #[v0,v1] w R:=zl {loops:=[(2,[6])]} Tryz.func44 (by kernel_rfl) (by kernel_rfl) h
def Y9 [ZP] (P:Program) (v0:Value) (w:World) (R:Value→World→Prop):Prop:=yp P za w fun a b=>zj P .eql zc true v0 (.string {data:= #[116,114,117,101]}) b fun b c=>vif b (zq P za [(0,(.int .i64 24))] c fun b d=>zn P za a b d fun _ b=>vlv P za a b fun b d=>R b d) (vcall P ja #[v0] c fun b c=>zm P b 0 c fun c d=>zm P b 1 d fun b d=>yp P zf d fun d e=>zn P zf d c e fun _ c=>vif b (zg P zf d 0 c fun b e=>zh P zb b e fun b e=>zg P zf d 1 e fun d e=>zh P zb d e fun d e=>zq P za [(0,(.int .i64 20)),(1,b),(2,d)] e fun b d=>zn P za a b d fun _ b=>vlv P za a b fun b d=>R b d) (zq P za [(0,(.int .i64 21)),(3,v0)] c fun b c=>zn P za a b c fun _ b=>vlv P za a b fun a b=>R a b))
theorem QO [ZP] {v0 w R} (h:Y9 PP v0 w R):vcall PP jE #[v0] w R:=zl {} Tryz.func45 (by kernel_rfl) (by kernel_rfl) h
def XG [ZP] (P:Program) (v0:Value) (w:World) (R:Value→World→Prop):Prop:=vcall P xQ #[] w fun a b=>yD [(.int .i64 1)] b fun b c _ d=>vbi P .len [zJ] zb [a] d fun d e=>zj P .lss zb false (sl 0 c) d e fun d e=>vif d (zv P zJ a (sl 0 c) e fun d f=>zh P zc d f fun d f=>zj P .neq zc true d (.string {data:= #[]}) f fun d f=>vif d (zv P zJ a (sl 0 c) f fun a d=>zh P zc a d fun a d=>zj P .eql zc false a v0 d fun a d=>vif a (R (sl 0 c) d) (zj P .add zb true (sl 0 c) (.int .i64 1) d fun a d=>b [a] d)) (zj P .add zb true (sl 0 c) (.int .i64 1) f fun a c=>b [a] c)) (R (.int .i64 0) e)
theorem JR [ZP] {v0 w R} (h:XG PP v0 w R):vcall PP Zw #[v0] w R:=zl {loops:=[(3,[4])]} Tryz.func46 (by kernel_rfl) (by kernel_rfl) h
def Ya [ZP] (P:Program) (v0 v1 v2 v3:Value) (w:World) (R:Value→World→Prop):Prop:=xO P za v3 w fun a b=>yp P za b fun b c=>yD [v1] c fun c d _ e=>yN (fun f=>vbi P .len [zc] zb [v0] e fun e g=>zj P .lss zb false (sl 0 d) e g fun e g=>vif e (yn P zc v0 (sl 0 d) g fun e h=>zj P .eql zQ true e (.int .u8 32) h fun e h=>vif e (zg P za a 4 h fun e i=>zh P ze e i fun e i=>vbi P .len [ze] zb [e] i fun e i=>zj P .lss zb true e (.int .i64 3) i fun e i=>vif e (f [] i) (vbi P .len [zc] zb [v0] i fun e f=>zj P .geq zb false (sl 0 d) e f fun e f=>vif e (zh P za a f fun e i=>zn P za b e i fun _ e=>vlv P za b e fun e i=>R (.tuple #[e,(.int .i64 (-1))]) i) (yn P zc v0 (sl 0 d) f fun e f=>zj P .neq zQ true e (.int .u8 41) f fun e f=>vif e (zh P za a f fun e i=>zn P za b e i fun _ e=>vlv P za b e fun e i=>R (.tuple #[e,(.int .i64 (-1))]) i) (zh P za a f fun e f=>zj P .add zb true (sl 0 d) (.int .i64 1) f fun f i=>zn P za b e i fun _ e=>vlv P za b e fun e i=>R (.tuple #[e,f]) i)))) (vbi P .len [zc] zb [v0] h fun e f=>zj P .geq zb false (sl 0 d) e f fun e f=>vif e (zh P za a f fun e h=>zn P za b e h fun _ e=>vlv P za b e fun e h=>R (.tuple #[e,(.int .i64 (-1))]) h) (yn P zc v0 (sl 0 d) f fun e f=>zj P .neq zQ true e (.int .u8 41) f fun e f=>vif e (zh P za a f fun e h=>zn P za b e h fun _ e=>vlv P za b e fun e h=>R (.tuple #[e,(.int .i64 (-1))]) h) (zh P za a f fun e f=>zj P .add zb true (sl 0 d) (.int .i64 1) f fun f h=>zn P za b e h fun _ e=>vlv P za b e fun e h=>R (.tuple #[e,f]) h)))) (vbi P .len [zc] zb [v0] g fun e f=>zj P .geq zb false (sl 0 d) e f fun e f=>vif e (zh P za a f fun e g=>zn P za b e g fun _ e=>vlv P za b e fun e g=>R (.tuple #[e,(.int .i64 (-1))]) g) (yn P zc v0 (sl 0 d) f fun e f=>zj P .neq zQ true e (.int .u8 41) f fun e f=>vif e (zh P za a f fun e g=>zn P za b e g fun _ e=>vlv P za b e fun e g=>R (.tuple #[e,(.int .i64 (-1))]) g) (zh P za a f fun e f=>zj P .add zb true (sl 0 d) (.int .i64 1) f fun f g=>zn P za b e g fun _ e=>vlv P za b e fun e g=>R (.tuple #[e,f]) g)))) (fun _ _ e=>zj P .add zb true (sl 0 d) (.int .i64 1) e fun d e=>vcall P xo #[v0,d,v2] e fun d e=>zm P d 0 e fun e f=>zm P d 1 f fun d f=>yp P za f fun f g=>zn P za f e g fun _ e=>zj P .lss zb true d (.int .i64 0) e fun e g=>vif e (zh P za a g fun e h=>zn P za b e h fun _ e=>vlv P za b e fun b e=>R (.tuple #[b,(.int .i64 (-1))]) e) (zg P za a 4 g fun b e=>zh P ze b e fun b e=>zh P za f e fun e f=>vbuildS P ze 1 [(0,e)] f fun e f=>vbi P .append [ze,ze] ze [b,e] f fun b e=>zg P za a 4 e fun a e=>zn P ze a b e fun _ a=>c [d] a))
theorem QP [ZP] {v0 v1 v2 v3 w R} (h:Ya PP v0 v1 v2 v3 w R):vcall PP xp #[v0,v1,v2,v3] w R:=zl {loops:=[(1,[1])],cuts:=[(8194,[])]} Tryz.func47 (by kernel_rfl) (by kernel_rfl) h
def YG [ZP] (P:Program) (v0 v1:Value) (w:World) (R:Value→World→Prop):Prop:=zj P .lss zb false v0 v1 w fun a b=>vif a (R v0 b) (R v1 b)
theorem Jo [ZP] {v0 v1 w R} (h:YG PP v0 v1 w R):vcall PP qU #[v0,v1] w R:=zl {} Tryz.func48 (by kernel_rfl) (by kernel_rfl) h
def Yd [ZP] (P:Program) (v0:Value) (w:World) (R:Value→World→Prop):Prop:=yN (fun a=>vbi P .len [zc] zb [v0] w fun b c=>zj P .gtr zb true b (.int .i64 0) c fun b c=>vif b (yn P zc v0 (.int .i64 0) c fun b d=>zj P .eql zQ true b (.int .u8 45) d fun b d=>a [b] d) (a [(.bool false)] c)) (fun a _ b=>yN (fun c=>vif (sl 0 a) (yJ P zc v0 (some (.int .i64 1)) none none b fun d e=>c [d] e) (c [v0] b)) (fun b _ c=>yN (fun d=>vbi P .len [zc] zb [(sl 0 b)] c fun c e=>zj P .eql zb true c (.int .i64 0) e fun c e=>vif c (R (.tuple #[(.int .i64 0),(.bool false)]) e) (vbi P .len [zc] zb [(sl 0 b)] e fun c e=>zj P .gtr zb true c (.int .i64 17) e fun c e=>vif c (R (.tuple #[(.int .i64 0),(.bool false)]) e) (yn P zc (sl 0 b) (.int .i64 0) e fun c e=>zj P .eql zQ true c (.int .u8 48) e fun c e=>vif c (vbi P .len [zc] zb [(sl 0 b)] e fun c f=>zj P .gtr zb true c (.int .i64 1) f fun c f=>vif c (R (.tuple #[(.int .i64 0),(.bool false)]) f) (vif (sl 0 a) (R (.tuple #[(.int .i64 0),(.bool false)]) f) (d [] f))) (d [] e)))) (fun _ _ c=>yD [(.int .i64 0),(.int .i64 0)] c fun c d _ e=>vbi P .len [zc] zb [(sl 0 b)] e fun e f=>zj P .lss zb false (sl 1 d) e f fun e f=>vif e (yn P zc (sl 0 b) (sl 1 d) f fun e g=>zj P .lss zQ true e (.int .u8 48) g fun e g=>vif e (R (.tuple #[(.int .i64 0),(.bool false)]) g) (yn P zc (sl 0 b) (sl 1 d) g fun e g=>zj P .gtr zQ true e (.int .u8 57) g fun e g=>vif e (R (.tuple #[(.int .i64 0),(.bool false)]) g) (zj P .mul zb true (sl 0 d) (.int .i64 10) g fun e g=>yn P zc (sl 0 b) (sl 1 d) g fun b g=>zj P .sub zQ true b (.int .u8 48) g fun b g=>qh P zQ zb b g fun b g=>zj P .add zb false e b g fun b e=>zj P .add zb true (sl 1 d) (.int .i64 1) e fun e g=>c [b,e] g))) (vif (sl 0 a) (vun P .neg (sl 0 d) f fun a b=>R (.tuple #[a,(.bool true)]) b) (R (.tuple #[(sl 0 d),(.bool true)]) f)))))
theorem QS [ZP] {v0 w R} (h:Yd PP v0 w R):vcall PP ql #[v0] w R:=zl {loops:=[(8,[5,6])],cuts:=[(8194,[4]),(12292,[0]),(20486,[])]} Tryz.func49 (by kernel_rfl) (by kernel_rfl) h
def Zl [ZP] (P:Program) (v0:Value) (w:World) (R:Value→World→Prop):Prop:=R (.bool true) w
theorem Q7 [ZP] {v0 w R} (h:Zl PP v0 w R):vcall PP ji #[v0] w R:=zl {} Tryz.func50 (by kernel_rfl) (by kernel_rfl) h
def Zk [ZP] (P:Program) (v0:Value) (w:World) (R:Value→World→Prop):Prop:=zv P xN v0 (.int .i64 0) w fun a b=>zg P zf a 1 b fun a b=>zh P zb a b fun a b=>zj P .eql zb true a (.int .i64 0) b fun a b=>R a b
theorem Q6 [ZP] {v0 w R} (h:Zk PP v0 w R):vcall PP jh #[v0] w R:=zl {} Tryz.func51 (by kernel_rfl) (by kernel_rfl) h
def Zj [ZP] (P:Program) (v0:Value) (w:World) (R:Value→World→Prop):Prop:=zv P xN v0 (.int .i64 0) w fun a b=>zg P zf a 1 b fun a b=>zh P zb a b fun a b=>zj P .eql zb true a (.int .i64 1) b fun a b=>vif a (zv P xN v0 (.int .i64 1) b fun a c=>zg P zf a 1 c fun a c=>zh P zb a c fun a c=>zj P .eql zb true a (.int .i64 1) c fun a c=>R a c) (R (.bool false) b)
theorem Q5 [ZP] {v0 w R} (h:Zj PP v0 w R):vcall PP jg #[v0] w R:=zl {} Tryz.func52 (by kernel_rfl) (by kernel_rfl) h
def Zi [ZP] (P:Program) (v0:Value) (w:World) (R:Value→World→Prop):Prop:=zv P xN v0 (.int .i64 0) w fun a b=>zg P zf a 1 b fun a b=>zh P zb a b fun a b=>zj P .eql zb true a (.int .i64 1) b fun a b=>vif a (R (.bool true) b) (zv P xN v0 (.int .i64 1) b fun a b=>zg P zf a 1 b fun a b=>zh P zb a b fun a b=>zj P .eql zb true a (.int .i64 1) b fun a b=>R a b)
theorem Q4 [ZP] {v0 w R} (h:Zi PP v0 w R):vcall PP jf #[v0] w R:=zl {} Tryz.func53 (by kernel_rfl) (by kernel_rfl) h
def xA [ZP] (P:Program) (v0 v1:Value) (w:World) (R:Value→World→Prop):Prop:=yp P za w fun a b=>zj P .gtr zb true v1 (.int .i64 7) b fun b c=>vcall P xc #[b] c fun _ b=>vnil P v0 b fun b c=>zg P zt b 0 c fun b c=>zh P zc b c fun b c=>vcall P qA #[b,(.string {data:= #[40]})] c fun b c=>vun P .not b c fun b c=>vif b (vcall P yx #[v0] c fun b d=>vcall P Zx #[b] d fun b d=>zn P za a b d fun _ b=>vlv P za a b fun b d=>R b d) (vcall P yq #[v0,(.string {data:= #[40]})] c fun _ b=>vcall P yx #[v0] b fun b c=>yp P za c fun c d=>vnil P v0 d fun d e=>zg P zt d 1 e fun d e=>zh P zi d e fun d e=>X5 P zi d e fun d e=>yD [] e fun e _ _ f=>JB P d false T_T_ f fun f g=>zm P f 0 g fun f g=>vif f (KD P d g fun d f=>zm P d 0 f fun f h=>zm P d 1 h fun d h=>vinvoke P d xL #[] h fun h i=>zj P .eql zc false h b i fun b h=>vif b (vinvoke P d mn_kids #[] h fun b d=>zj P .gtr zb true b (.int .i64 0) d fun b d=>vif b (zg P za c 0 d fun b i=>zn P zb b f i fun _ b=>e [] b) (e [] d)) (e [] h)) (zg P za c 0 g fun b d=>zh P zb b d fun b d=>zj P .eql zb true b (.int .i64 0) d fun b d=>vcall P xc #[b] d fun _ b=>yN (fun d=>zg P za c 0 b fun b e=>zh P zb b e fun b e=>zj P .eql zb true b (.int .i64 22) e fun b e=>vif b (vcall P yz #[v0] e fun b f=>zg P za c 1 f fun f g=>zn P zb f b g fun _ b=>vcall P yz #[v0] b fun b f=>zg P za c 2 f fun f g=>zn P zb f b g fun _ b=>d [] b) (d [] e)) (fun _ _ b=>x9 b fun b=>vnil P v0 b fun d e=>e=b∧zg P zt d 1 b fun d e=>e=b∧zh P zi d b fun d e=>e=b∧zg P za c 0 b fun e f=>f=b∧zh P zb e b fun e f=>f=b∧J7 P zi d e false b fun d e=>e=b∧vinvoke P d mn_kids #[] b fun b d=>yD [(.int .i64 0)] d fun d e _ f=>zj P .lss zb false (sl 0 e) b f fun b f=>vif b (vcall P yq #[v0,(.string {data:= #[32]})] f fun _ b=>x9 b fun b=>zg P za c 4 b fun g h=>h=b∧zh P ze g b fun h i=>i=b∧zj P .add zb true v1 (.int .i64 1) b fun i j=>j=b∧vcall P yL #[v0,i] b fun b i=>(zh P ze g i fun j k=>j=h∧k=i)∧(zg P za c 4 i fun j k=>j=g∧k=i)∧vbuildS P ze 1 [(0,b)] i fun b i=>(zh P ze g i fun j k=>j=h∧k=i)∧(zg P za c 4 i fun j k=>j=g∧k=i)∧vbi P .append [ze,ze] ze [h,b] i fun b g=>zg P za c 4 g fun h i=>i=g∧zn P ze h b g fun _ b=>zj P .add zb true (sl 0 e) (.int .i64 1) b fun b e=>d [b] e) (vcall P yq #[v0,(.string {data:= #[41]})] f fun _ b=>zh P za c b fun b c=>zn P za a b c fun _ b=>vlv P za a b fun a b=>R a b))))
theorem qY [ZP] {v0 v1 w R} (h:xA PP v0 v1 w R):vcall PP yL #[v0,v1] w R:=zl {ord:=[(16,[0,1,2,3,4,5,6,8,7],[(0,[1,2,3,6,7]),(1,[2,3,6,7]),(2,[3,6,7]),(3,[6,7]),(4,[5,6,7]),(5,[6,7]),(6,[7])]),(19,[0,1,2,3,4,5,6,7,8,9],[(0,[1,7,8,9]),(1,[7,8,9]),(2,[5,6,7,8,9]),(3,[4,5,6,7,8,9]),(4,[5,6,7,8,9]),(5,[6,7,8,9]),(6,[7,8,9]),(7,[8,9]),(8,[9])])],loops:=[(8,[]),(17,[67])],cuts:=[(57360,[])]} Tryz.func55 (by kernel_rfl) (by kernel_rfl) h
def Zn [ZP] (P:Program) (v0:Value) (w:World) (R:Value→World→Prop):Prop:=xO P zf v0 w fun a b=>zh P zf a b fun b c=>vcall P xV #[b] c fun b c=>vun P .not b c fun b c=>vif b (R (.string {data:= #[]}) c) (vbuildS P zC 1 [(0,(.int .u8 35))] c fun b c=>zg P zf a 0 c fun c d=>zh P zb c d fun c d=>zj P .sub zb true c (.int .i64 1) d fun c d=>yD [b,c] d fun b c _ d=>zj P .geq zb true (sl 1 c) (.int .i64 0) d fun d e=>vif d (zh P zf a e fun a d=>vcall P jj #[a] d fun a d=>vcall P je #[a,(sl 1 c)] d fun a d=>vif a (vbuildS P zC 1 [(0,(.int .u8 49))] d fun a f=>vbi P .append [zC,zC] zC [(sl 0 c),a] f fun a f=>zj P .sub zb true (sl 1 c) (.int .i64 1) f fun f g=>b [a,f] g) (vbuildS P zC 1 [(0,(.int .u8 48))] d fun a d=>vbi P .append [zC,zC] zC [(sl 0 c),a] d fun a d=>zj P .sub zb true (sl 1 c) (.int .i64 1) d fun d f=>b [a,d] f)) (qh P zC zc (sl 0 c) e fun a b=>R a b))
theorem Q9 [ZP] {v0 w R} (h:Zn PP v0 w R):vcall PP jk #[v0] w R:=zl {loops:=[(5,[3,4])]} Tryz.func61 (by kernel_rfl) (by kernel_rfl) h
def Z7 [ZP] (P:Program) (v0:Value) (w:World) (R:Value→World→Prop):Prop:=vcall P xt #[v0] w fun a b=>R a b
theorem XT [ZP] {v0 w R} (h:Z7 PP v0 w R):vcall PP x6 #[v0] w R:=zl {} Tryz.func62 (by kernel_rfl) (by kernel_rfl) h
def YH [ZP] (P:Program) (v0 v1:Value) (w:World) (R:Value→World→Prop):Prop:=zj P .gtr zb false v0 v1 w fun a b=>vif a (R v0 b) (R v1 b)
theorem Jp [ZP] {v0 v1 w R} (h:YH PP v0 v1 w R):vcall PP ke #[v0,v1] w R:=zl {} Tryz.func64 (by kernel_rfl) (by kernel_rfl) h
def Y8 [ZP] (P:Program) (v0:Value) (w:World) (R:Value→World→Prop):Prop:=yD [(.int .i64 0)] w fun a b _ c=>vbi P .len [zc] zb [v0] c fun c d=>zj P .lss zb false (sl 0 b) c d fun c d=>vif c (yn P zc v0 (sl 0 b) d fun c e=>zj P .lss zQ true c (.int .u8 97) e fun c e=>vif c (R (.bool false) e) (yn P zc v0 (sl 0 b) e fun c e=>zj P .gtr zQ true c (.int .u8 122) e fun c e=>vif c (R (.bool false) e) (zj P .add zb true (sl 0 b) (.int .i64 1) e fun b c=>a [b] c))) (vbi P .len [zc] zb [v0] d fun a b=>zj P .geq zb true a (.int .i64 1) b fun a b=>vif a (vbi P .len [zc] zb [v0] b fun a c=>zj P .leq zb true a (.int .i64 4) c fun a c=>vif a (zj P .neq zc true v0 (.string {data:= #[116,114,117,101]}) c fun a d=>R a d) (R (.bool false) c)) (R (.bool false) b))
theorem QN [ZP] {v0 w R} (h:Y8 PP v0 w R):vcall PP jD #[v0] w R:=zl {loops:=[(2,[3])]} Tryz.func65 (by kernel_rfl) (by kernel_rfl) h
def Yb [ZP] (P:Program) (v0 v1:Value) (w:World) (R:Value→World→Prop):Prop:=yD [(.int .i64 0)] w fun a b _ c=>vbi P .len [zp] zb [v0] c fun c d=>zj P .lss zb false (sl 0 b) c d fun c d=>vif c (zv P zp v0 (sl 0 b) d fun c e=>zg P zk c 0 e fun c e=>zh P zc c e fun c e=>zj P .eql zc false c v1 e fun c e=>vif c (R (sl 0 b) e) (zj P .add zb true (sl 0 b) (.int .i64 1) e fun b c=>a [b] c)) (R (.int .i64 (-1)) d)
theorem QQ [ZP] {v0 v1 w R} (h:Yb PP v0 v1 w R):vcall PP qk #[v0,v1] w R:=zl {loops:=[(2,[5])]} Tryz.func66 (by kernel_rfl) (by kernel_rfl) h
def Z9 [ZP] (P:Program) (v0:Value) (w:World) (R:Value→World→Prop):Prop:=xO P za v0 w fun a b=>yN (fun c=>zg P za a 0 b fun b d=>zh P zb b d fun b d=>zj P .neq zb true b (.int .i64 21) d fun b d=>vif b (zg P za a 3 d fun b e=>zh P zc b e fun b e=>zj P .neq zc true b (.string {data:= #[]}) e fun b e=>vif b (R (.bool false) e) (c [] e)) (c [] d)) (fun _ _ b=>yN (fun c=>zg P za a 0 b fun b d=>zh P zb b d fun b d=>zj P .neq zb true b (.int .i64 20) d fun b d=>vif b (zg P za a 0 d fun b e=>zh P zb b e fun b e=>zj P .neq zb true b (.int .i64 22) e fun b e=>vif b (zg P za a 1 e fun b f=>zh P zb b f fun b f=>zj P .neq zb true b (.int .i64 0) f fun b f=>vif b (R (.bool false) f) (zg P za a 2 f fun b f=>zh P zb b f fun b f=>zj P .neq zb true b (.int .i64 0) f fun b f=>vif b (R (.bool false) f) (c [] f))) (c [] e)) (c [] d)) (fun _ _ b=>x9 b fun b=>zg P za a 4 b fun c d=>d=b∧zh P ze c b fun d e=>e=b∧vbi P .len [ze] zb [d] b fun e f=>f=b∧zg P za a 0 b fun f g=>g=b∧zh P zb f b fun f g=>g=b∧vcall P j8 #[f] b fun b f=>(vbi P .len [ze] zb [d] f fun g h=>g=e∧h=f)∧(zh P ze c f fun g h=>g=d∧h=f)∧(zg P za a 4 f fun g h=>g=c∧h=f)∧zj P .eql zb false e b f fun a b=>b=f∧R a f))
theorem XV [ZP] {v0 w R} (h:Z9 PP v0 w R):vcall PP j7 #[v0] w R:=zl {ord:=[(5,[0,1,2,3,4,5,6,7],[(0,[1,2,6,7]),(1,[2,6,7]),(2,[6,7]),(3,[4,5,6,7]),(4,[5,6,7]),(5,[6,7]),(6,[7])])],cuts:=[(8195,[]),(16389,[])]} Tryz.func67 (by kernel_rfl) (by kernel_rfl) h
def YJ [ZP] (P:Program) (v0:Value) (w:World) (R:Value→World→Prop):Prop:=xO P zf v0 w fun a b=>x9 b fun b=>zg P zf a 0 b fun c d=>d=b∧zh P zb c b fun c d=>d=b∧zj P .geq zb true c (.int .i64 1) b fun c d=>d=b∧vif c (zg P zf a 0 b fun c d=>d=b∧zh P zb c b fun c d=>d=b∧zj P .leq zb true c (.int .i64 4) b fun c d=>d=b∧vif c (zg P zf a 1 b fun c d=>d=b∧zh P zb c b fun c d=>d=b∧zj P .geq zb true c (.int .i64 0) b fun c d=>d=b∧vif c (zg P zf a 1 b fun c d=>d=b∧zh P zb c b fun d e=>e=b∧zg P zf a 0 b fun e f=>f=b∧zh P zb e b fun e f=>f=b∧vcall P xU #[e] b fun e f=>(zh P zb c f fun g h=>g=d∧h=f)∧(zg P zf a 1 f fun g h=>g=c∧h=f)∧zj P .lss zb false d e f fun a c=>c=f∧R a f) (R (.bool false) b)) (R (.bool false) b)) (R (.bool false) b)
theorem Jr [ZP] {v0 w R} (h:YJ PP v0 w R):vcall PP qV #[v0] w R:=zl {ord:=[(1,[0,1,2,3,4,5,6,7,8,9,10,11,12,13,14,15,16,17,18,19,20,21],[(0,[1,2,3,4,5,6,7,8,9,10,11,12,13,14,15,16,17,18,19,20,21]),(1,[2,3,4,5,6,7,8,9,10,11,12,13,14,15,16,17,18,19,20,21]),(2,[3,4,5,6,7,8,9,10,11,12,13,14,15,16,17,18,19,20,21]),(3,[4,5,6,7,8,9,10,11,12,13,14,15,16,17,18,19,20,21]),(4,[5,6,7,8,9,10,11,12,13,14,15,16,17,18,19,20,21]),(5,[6,7,8,9,10,11,12,13,14,15,16,17,18,19,20,21]),(6,[7,8,9,10,11,12,13,14,15,16,17,18,19,20,21]),(7,[8,9,10,11,12,13,14,15,16,17,18,19,20,21]),(8,[9,10,11,12,13,14,15,16,17,18,19,20,21]),(9,[10,11,12,13,14,15,16,17,18,19,20,21]),(10,[11,12,13,14,15,16,17,18,19,20,21]),(11,[12,13,14,15,16,17,18,19,20,21]),(12,[13,14,15,16,17,18,19,20,21]),(13,[14,15,16,17,18,19,20,21]),(14,[15,19,20,21]),(15,[19,20,21]),(16,[17,18,19,20,21]),(17,[18,19,20,21]),(18,[19,20,21]),(19,[20,21]),(20,[21])])]} Tryz.func68 (by kernel_rfl) (by kernel_rfl) h
def YE [ZP] (P:Program) (v0 v1:Value) (w:World) (R:Value→World→Prop):Prop:=xO P za v0 w fun a b=>yN (fun c=>zg P za a 0 b fun b d=>zh P zb b d fun b d=>zj P .eql zb true b (.int .i64 25) d fun b d=>vif b (zj P .eql zb true v1 (.int .i64 0) d fun b e=>c [b] e) (c [(.bool false)] d)) (fun b _ c=>vif (sl 0 b) (R (.int .i64 0) c) (yN (fun b=>zg P za a 0 c fun c d=>zh P zb c d fun c d=>zj P .eql zb true c (.int .i64 25) d fun c d=>vif c (b [(.bool true)] d) (zj P .lss zb true v1 (.int .i64 1) d fun c d=>b [c] d)) (fun b _ c=>vif (sl 0 b) (R (.int .i64 (-1)) c) (zg P za a 0 c fun b c=>zh P zb b c fun b c=>zj P .eql zb true b (.int .i64 22) c fun b c=>vif b (yN (fun b=>zg P za a 2 c fun d e=>zh P zb d e fun d e=>zj P .geq zb true d (.int .i64 0) e fun d e=>vif d (zg P za a 1 e fun d f=>zh P zb d f fun d f=>zg P za a 2 f fun f g=>zh P zb f g fun f g=>zj P .geq zb false d f g fun d f=>vif d (zg P za a 1 f fun d g=>zh P zb d g fun d g=>zj P .lss zb false d v1 g fun d g=>b [d] g) (b [(.bool false)] f)) (b [(.bool false)] e)) (fun b _ d=>vif (sl 0 b) (zg P za a 1 d fun b e=>zh P zb b e fun b e=>zg P za a 2 e fun a e=>zh P zb a e fun a e=>zj P .sub zb false b a e fun a b=>zj P .add zb true a (.int .i64 1) b fun a b=>R a b) (R (.int .i64 (-1)) d))) (R v1 c)))))
theorem Jm [ZP] {v0 v1 w R} (h:YE PP v0 v1 w R):vcall PP kc #[v0,v1] w R:=zl {cuts:=[(8194,[5]),(16388,[13]),(28679,[40])]} Tryz.func69 (by kernel_rfl) (by kernel_rfl) h
def Yc [ZP] (P:Program) (v0 v1 v2:Value) (w:World) (R:Value→World→Prop):Prop:=yN (fun a=>zj P .eql zb true v0 (.int .i64 26) w fun b c=>vif b (a [(.bool true)] c) (zj P .eql zb true v0 (.int .i64 27) c fun b c=>a [b] c)) (fun a _ b=>vif (sl 0 a) (zj P .eql zb true v1 (.int .i64 0) b fun a c=>vif a (zj P .eql zb true v2 (.int .i64 0) c fun a d=>vif a (R (.int .i64 0) d) (R (.int .i64 (-1)) d)) (R (.int .i64 (-1)) c)) (yN (fun a=>zj P .lss zb true v1 (.int .i64 1) b fun b c=>vif b (a [(.bool true)] c) (zj P .lss zb true v2 (.int .i64 1) c fun b c=>a [b] c)) (fun a _ b=>vif (sl 0 a) (R (.int .i64 (-1)) b) (zj P .eql zb true v0 (.int .i64 14) b fun a b=>vif a (zj P .add zb false v1 v2 b fun a c=>zj P .leq zb true a (.int .i64 4) c fun a c=>vif a (zj P .add zb false v1 v2 c fun a d=>R a d) (R (.int .i64 (-1)) c)) (zj P .neq zb false v1 v2 b fun a b=>vif a (R (.int .i64 (-1)) b) (zj P .geq zb true v0 (.int .i64 15) b fun a b=>vif a (R (.int .i64 0) b) (R v1 b)))))))
theorem QR [ZP] {v0 v1 v2 w R} (h:Yc PP v0 v1 v2 w R):vcall PP jF #[v0,v1,v2] w R:=zl {cuts:=[(12291,[8]),(24582,[21])]} Tryz.func70 (by kernel_rfl) (by kernel_rfl) h
def Zb [ZP] (P:Program) (v0:Value) (w:World) (R:Value→World→Prop):Prop:=xO P zf v0 w fun a b=>zh P zf a b fun b c=>vcall P qV #[b] c fun b c=>vun P .not b c fun b c=>vif b (R (.string {data:= #[]}) c) (zg P zf a 0 c fun b c=>zh P zb b c fun b c=>zj P .sub zb true b (.int .i64 1) c fun b c=>yD [(.string {data:= #[35]}),b] c fun b c _ d=>zj P .geq zb true (sl 1 c) (.int .i64 0) d fun d e=>vif d (zg P zf a 1 e fun a d=>zh P zb a d fun a d=>vcall P kf #[a,(sl 1 c)] d fun a d=>vcall P yX #[a] d fun a d=>zj P .add zc false (sl 0 c) a d fun a d=>zj P .sub zb true (sl 1 c) (.int .i64 1) d fun d f=>b [a,d] f) (R (sl 0 c) e))
theorem XX [ZP] {v0 w R} (h:Zb PP v0 w R):vcall PP j9 #[v0] w R:=zl {loops:=[(5,[3,4])]} Tryz.func71 (by kernel_rfl) (by kernel_rfl) h
def Z8 [ZP] (P:Program) (w:World) (R:Value→World→Prop):Prop:=vbuildS P zJ 28 [(0,(.string {data:= #[]})),(1,(.string {data:= #[110,111,116]})),(2,(.string {data:= #[110,101,103]})),(3,(.string {data:= #[97,110,100]})),(4,(.string {data:= #[111,114]})),(5,(.string {data:= #[120,111,114]})),(6,(.string {data:= #[97,100,100]})),(7,(.string {data:= #[115,117,98]})),(8,(.string {data:= #[109,117,108]})),(9,(.string {data:= #[100,105,118]})),(10,(.string {data:= #[114,101,109]})),(11,(.string {data:= #[115,104,108]})),(12,(.string {data:= #[115,104,114]})),(13,(.string {data:= #[115,97,114]})),(14,(.string {data:= #[99,97,116]})),(15,(.string {data:= #[115,97,109,101]})),(16,(.string {data:= #[108,101,115,115]})),(17,(.string {data:= #[117,110,100,101,114]})),(18,(.string {data:= #[]})),(19,(.string {data:= #[]})),(20,(.string {data:= #[]})),(21,(.string {data:= #[]})),(22,(.string {data:= #[99,117,116]})),(23,(.string {data:= #[105,102]})),(24,(.string {data:= #[116,114,117,101]})),(25,(.string {data:= #[110,111]})),(26,(.string {data:= #[98,111,116,104]})),(27,(.string {data:= #[97,110,121]}))] w fun a b=>R a b
theorem XU [ZP] {w R} (h:Z8 PP w R):vcall PP xQ #[] w R:=zl {} Tryz.func72 (by kernel_rfl) (by kernel_rfl) h
def Ye [ZP] (P:Program) (v0:Value) (w:World) (R:Value→World→Prop):Prop:=zj P .lss zb true v0 (.int .i64 (-9223372036854775807)) w fun a b=>vif a (R (.string {data:= #[45,57,50,50,51,51,55,50,48,51,54,56,53,52,55,55,53,56,48,56]}) b) (zj P .lss zb true v0 (.int .i64 0) b fun a b=>vif a (vun P .neg v0 b fun a c=>vcall P yX #[a] c fun a c=>zj P .add zc true (.string {data:= #[45]}) a c fun a c=>R a c) (yD [v0,(.string {data:= #[]})] b fun a b _ c=>zj P .gtr zb true (sl 0 b) (.int .i64 9) c fun c d=>vif c (zj P .rem zb true (sl 0 b) (.int .i64 10) d fun c e=>zj P .add zb true (.int .i64 48) c e fun c e=>qh P zb zQ c e fun c e=>vbuildS P zC 1 [(0,c)] e fun c e=>qh P zC zc c e fun c e=>zj P .add zc false c (sl 1 b) e fun c e=>zj P .quo zb true (sl 0 b) (.int .i64 10) e fun e f=>a [e,c] f) (zj P .add zb true (.int .i64 48) (sl 0 b) d fun a c=>qh P zb zQ a c fun a c=>vbuildS P zC 1 [(0,a)] c fun a c=>qh P zC zc a c fun a c=>zj P .add zc false a (sl 1 b) c fun a b=>R a b)))
theorem QT [ZP] {v0 w R} (h:Ye PP v0 w R):vcall PP yX #[v0] w R:=zl {loops:=[(6,[0,3])]} Tryz.func73 (by kernel_rfl) (by kernel_rfl) h
def YM [ZP] (P:Program) (v0 v1 v2:Value) (w:World) (R:Value→World→Prop):Prop:=xO P za v0 w fun a b=>vnil P v2 b fun b c=>zh P zb b c fun b c=>zj P .add zb true b (.int .i64 1) c fun b c=>vnil P v2 c fun c d=>zn P zb c b d fun _ b=>zj P .gtr zb true v1 (.int .i64 7) b fun b c=>vif b (R v1 c) (zg P za a 4 c fun a b=>zh P ze a b fun a b=>vbi P .len [ze] zb [a] b fun b c=>yD [v1,(.int .i64 0)] c fun c d _ e=>zj P .lss zb false (sl 1 d) b e fun b e=>vif b (zv P ze a (sl 1 d) e fun a b=>zh P za a b fun a b=>yp P za b fun b f=>zn P za b a f fun _ a=>vnil P v2 a fun a f=>zh P zb a f fun a f=>zj P .gtr zb true a (.int .i64 20) f fun a f=>vif a (R (sl 0 d) f) (zh P za b f fun a b=>zj P .add zb true v1 (.int .i64 1) b fun b f=>vcall P qX #[a,b,v2] f fun a b=>vbi P .max [zb,zb] zb [(sl 0 d),a] b fun a b=>zj P .add zb true (sl 1 d) (.int .i64 1) b fun b f=>c [a,b] f)) (R (sl 0 d) e))
theorem Ju [ZP] {v0 v1 v2 w R} (h:YM PP v0 v1 v2 w R):vcall PP qX #[v0,v1,v2] w R:=zl {loops:=[(6,[7,22])]} Tryz.func74 (by kernel_rfl) (by kernel_rfl) h
def yf [ZP] (P:Program) (v0 v1:Value) (w:World) (R:Value→World→Prop):Prop:=vcall P zI #[v0,v1] w fun a b=>zj P .geq zb true a (.int .i64 0) b fun a b=>R a b
theorem yH [ZP] {v0 v1 w R} (h:yf PP v0 v1 w R):vcall PP zU #[v0,v1] w R:=zl {} Tryz.func76 (by kernel_rfl) (by kernel_rfl) h
def kG [ZP] (P:Program) (v0 v1:Value) (w:World) (R:Value→World→Prop):Prop:=xO P zk v0 w fun a b=>zg P zk a 0 b fun a b=>zh P zc a b fun a b=>zg P zk v1 0 b fun b c=>zh P zc b c fun b c=>zj P .eql zc false a b c fun a b=>R a b
theorem XD [ZP] {v0 v1 w R} (h:kG PP v0 v1 w R):vcall PP kh #[v0,v1] w R:=zl {} Tryz.func77 (by kernel_rfl) (by kernel_rfl) h
def YK [ZP] (P:Program) (v0:Value) (w:World) (R:Value→World→Prop):Prop:=xO P za v0 w fun a b=>yN (fun c=>zg P za a 0 b fun b d=>zh P zb b d fun b d=>zj P .eql zb true b (.int .i64 20) d fun b d=>vif b (c [(.bool true)] d) (zg P za a 0 d fun b d=>zh P zb b d fun b d=>zj P .eql zb true b (.int .i64 22) d fun b d=>vif b (c [(.bool true)] d) (zg P za a 1 d fun b d=>zh P zb b d fun b d=>zj P .eql zb true b (.int .i64 0) d fun b d=>vif b (zg P za a 2 d fun b e=>zh P zb b e fun b e=>zj P .eql zb true b (.int .i64 0) e fun b e=>c [b] e) (c [(.bool false)] d)))) (fun b _ c=>vif (sl 0 b) (zg P za a 0 c fun b d=>zh P zb b d fun b d=>zj P .eql zb true b (.int .i64 21) d fun b d=>vif b (R (.bool true) d) (zg P za a 3 d fun a b=>zh P zc a b fun a b=>zj P .eql zc true a (.string {data:= #[]}) b fun a b=>R a b)) (R (.bool false) c))
theorem Js [ZP] {v0 w R} (h:YK PP v0 w R):vcall PP kg #[v0] w R:=zl {cuts:=[(8194,[3])]} Tryz.func78 (by kernel_rfl) (by kernel_rfl) h
def Zc [ZP] (P:Program) (v0:Value) (w:World) (R:Value→World→Prop):Prop:=yp P zf w fun a b=>yN (fun c=>vbi P .len [zc] zb [v0] b fun b d=>zj P .lss zb true b (.int .i64 2) d fun b d=>vif b (zq P zf [] d fun b e=>zn P zf a b e fun _ b=>vlv P zf a b fun b e=>R (.tuple #[b,(.bool false)]) e) (vbi P .len [zc] zb [v0] d fun b d=>zj P .gtr zb true b (.int .i64 5) d fun b d=>vif b (zq P zf [] d fun b e=>zn P zf a b e fun _ b=>vlv P zf a b fun b e=>R (.tuple #[b,(.bool false)]) e) (yn P zc v0 (.int .i64 0) d fun b d=>zj P .neq zQ true b (.int .u8 35) d fun b d=>vif b (zq P zf [] d fun b e=>zn P zf a b e fun _ b=>vlv P zf a b fun b e=>R (.tuple #[b,(.bool false)]) e) (c [] d)))) (fun _ _ b=>vbi P .len [zc] zb [v0] b fun b c=>zj P .sub zb true b (.int .i64 1) c fun b c=>zq P zf [(0,b)] c fun b c=>yp P zf c fun c d=>zn P zf c b d fun _ b=>yD [(.int .i64 1)] b fun b d _ e=>vbi P .len [zc] zb [v0] e fun e f=>zj P .lss zb false (sl 0 d) e f fun e f=>vif e (yN (fun e=>yn P zc v0 (sl 0 d) f fun g h=>zj P .neq zQ true g (.int .u8 48) h fun g h=>vif g (yn P zc v0 (sl 0 d) h fun g i=>zj P .neq zQ true g (.int .u8 49) i fun g i=>vif g (zq P zf [] i fun g j=>zn P zf a g j fun _ g=>vlv P zf a g fun g j=>R (.tuple #[g,(.bool false)]) j) (e [] i)) (e [] h)) (fun _ _ e=>x9 e fun e=>zg P zf c 1 e fun g h=>h=e∧zh P zb g e fun g h=>h=e∧zj P .mul zb true g (.int .i64 2) e fun g h=>h=e∧yn P zc v0 (sl 0 d) e fun h i=>i=e∧zj P .sub zQ true h (.int .u8 48) e fun h i=>i=e∧qh P zQ zb h e fun h i=>i=e∧zj P .add zb false g h e fun g h=>h=e∧zg P zf c 1 e fun h i=>i=e∧zn P zb h g e fun _ e=>zj P .add zb true (sl 0 d) (.int .i64 1) e fun d e=>b [d] e)) (zh P zf c f fun b c=>zn P zf a b c fun _ b=>vlv P zf a b fun a b=>R (.tuple #[a,(.bool true)]) b))
theorem XY [ZP] {v0 w R} (h:Zc PP v0 w R):vcall PP ja #[v0] w R:=zl {ord:=[(9,[0,1,2,3,4,5,6,7,8,9,10],[(0,[1,2,8,9,10]),(1,[2,8,9,10]),(2,[8,9,10]),(3,[5,6,7,8,9,10]),(4,[5,6,7,8,9,10]),(5,[6,7,8,9,10]),(6,[7,8,9,10]),(7,[8,9,10]),(8,[9,10]),(9,[10])])],loops:=[(5,[5])],cuts:=[(8195,[]),(32777,[])]} Tryz.func79 (by kernel_rfl) (by kernel_rfl) h
def JV [ZP] (P:Program) (v0:Value) (w:World) (R:Value→World→Prop):Prop:=vif v0 (zq P zR [] w fun a b=>Yo P zR a b fun _ _=>False) (R (.tuple #[]) w)
theorem JS [ZP] {v0 w R} (h:JV PP v0 w R):vcall PP xc #[v0] w R:=zl {} Tryz.func80 (by kernel_rfl) (by kernel_rfl) h
def XH [ZP] (P:Program) (v0:Value) (w:World) (R:Value→World→Prop):Prop:=yp P za w fun a b=>zj P .eql zc true v0 (.string {data:= #[116,114,117,101]}) b fun b c=>vif b (zq P za [(0,(.int .i64 24))] c fun b d=>zn P za a b d fun _ b=>vlv P za a b fun b d=>R b d) (vcall P jl #[v0] c fun b c=>zm P b 0 c fun c d=>zm P b 1 d fun b d=>yp P zf d fun d e=>zn P zf d c e fun _ c=>vif b (zg P zf d 0 c fun b e=>zh P zb b e fun b e=>zg P zf d 1 e fun d e=>zh P zb d e fun d e=>zq P za [(0,(.int .i64 20)),(1,b),(2,d)] e fun b d=>zn P za a b d fun _ b=>vlv P za a b fun b d=>R b d) (zq P za [(0,(.int .i64 21)),(3,v0)] c fun b c=>zn P za a b c fun _ b=>vlv P za a b fun a b=>R a b))
theorem JT [ZP] {v0 w R} (h:XH PP v0 w R):vcall PP Zx #[v0] w R:=zl {} Tryz.func82 (by kernel_rfl) (by kernel_rfl) h
def j2 [ZP] (P:Program) (v0:Value) (w:World) (R:Value→World→Prop):Prop:=vnil P v0 w fun a b=>zg P zt a 0 b fun a b=>zh P zc a b fun a b=>vcall P xn #[a,(.string {data:= #[32,40,41]})] b fun a b=>yN (fun c=>zj P .lss zb true a (.int .i64 0) b fun b d=>vif b (vnil P v0 d fun b e=>zg P zt b 0 e fun b e=>zh P zc b e fun b e=>vbi P .len [zc] zb [b] e fun b e=>c [b] e) (c [a] d)) (fun a _ b=>vnil P v0 b fun b c=>zg P zt b 0 c fun b c=>zh P zc b c fun b c=>yJ P zc b none (some (sl 0 a)) none c fun b c=>vnil P v0 c fun c d=>zg P zt c 0 d fun c d=>zh P zc c d fun c d=>yJ P zc c (some (sl 0 a)) none none d fun a c=>vnil P v0 c fun c d=>zg P zt c 0 d fun c d=>zn P zc c a d fun _ a=>R b a)
theorem Y0 [ZP] {v0 w R} (h:j2 PP v0 w R):vcall PP yx #[v0] w R:=zl {cuts:=[(12292,[3])]} Tryz.func83 (by kernel_rfl) (by kernel_rfl) h
def j3 [ZP] (P:Program) (v0 v1:Value) (w:World) (R:Value→World→Prop):Prop:=vnil P v0 w fun a b=>zg P zt a 0 b fun a b=>zh P zc a b fun a b=>vcall P qB #[a,v1] b fun a b=>zm P a 0 b fun b c=>zm P a 1 c fun a c=>vun P .not a c fun a c=>vcall P xc #[a] c fun _ a=>vnil P v0 a fun a c=>zg P zt a 0 c fun a c=>zn P zc a b c fun _ a=>R (.tuple #[]) a
theorem Y1 [ZP] {v0 v1 w R} (h:j3 PP v0 v1 w R):vcall PP yq #[v0,v1] w R:=zl {} Tryz.func84 (by kernel_rfl) (by kernel_rfl) h
def qd [ZP] (P:Program) (v0:Value) (w:World) (R:Value→World→Prop):Prop:=vcall P yq #[v0,(.string {data:= #[32]})] w fun _ a=>vcall P yx #[v0] a fun a b=>vcall P Z5 #[a] b fun a b=>zm P a 0 b fun b c=>zm P a 1 c fun a c=>zj P .neq Yx true a .nilIface c fun a c=>vcall P xc #[a] c fun _ a=>R b a
theorem Z0 [ZP] {v0 w R} (h:qd PP v0 w R):vcall PP yz #[v0] w R:=zl {} Tryz.func85 (by kernel_rfl) (by kernel_rfl) h
def YN [ZP] (P:Program) (v0:Value) (w:World) (R:Value→World→Prop):Prop:=xO P zf v0 w fun a b=>x9 b fun b=>zg P zf a 0 b fun c d=>d=b∧zh P zb c b fun c d=>d=b∧zj P .geq zb true c (.int .i64 1) b fun c d=>d=b∧vif c (zg P zf a 0 b fun c d=>d=b∧zh P zb c b fun c d=>d=b∧zj P .leq zb true c (.int .i64 4) b fun c d=>d=b∧vif c (zg P zf a 1 b fun c d=>d=b∧zh P zb c b fun c d=>d=b∧zj P .geq zb true c (.int .i64 0) b fun c d=>d=b∧vif c (zg P zf a 1 b fun c d=>d=b∧zh P zb c b fun c d=>d=b∧zg P zf a 0 b fun a d=>d=b∧zh P zb a b fun a d=>d=b∧zj P .shl zb true (.int .i64 1) a b fun a d=>d=b∧zj P .lss zb false c a b fun a c=>c=b∧R a b) (R (.bool false) b)) (R (.bool false) b)) (R (.bool false) b)
theorem Jv [ZP] {v0 w R} (h:YN PP v0 w R):vcall PP xV #[v0] w R:=zl {ord:=[(1,[0,1,2,3,4,5,6,7,8,9,10,11,12,13,14,15,16,17,18,19,20,21],[(0,[1,2,3,4,5,6,7,8,9,10,11,12,13,14,15,16,17,18,19,20,21]),(1,[2,3,4,5,6,7,8,9,10,11,12,13,14,15,16,17,18,19,20,21]),(2,[3,4,5,6,7,8,9,10,11,12,13,14,15,16,17,18,19,20,21]),(3,[4,5,6,7,8,9,10,11,12,13,14,15,16,17,18,19,20,21]),(4,[5,6,7,8,9,10,11,12,13,14,15,16,17,18,19,20,21]),(5,[6,7,8,9,10,11,12,13,14,15,16,17,18,19,20,21]),(6,[7,8,9,10,11,12,13,14,15,16,17,18,19,20,21]),(7,[8,9,10,11,12,13,14,15,16,17,18,19,20,21]),(8,[9,10,11,12,13,14,15,16,17,18,19,20,21]),(9,[10,11,12,13,14,15,16,17,18,19,20,21]),(10,[11,12,13,14,15,16,17,18,19,20,21]),(11,[12,13,14,15,16,17,18,19,20,21]),(12,[13,14,15,16,17,18,19,20,21]),(13,[14,15,16,17,18,19,20,21]),(14,[15,19,20,21]),(15,[19,20,21]),(16,[17,18,19,20,21]),(17,[18,19,20,21]),(18,[19,20,21]),(19,[20,21]),(20,[21])])]} Tryz.func88 (by kernel_rfl) (by kernel_rfl) h
def Zm [ZP] (P:Program) (v0:Value) (w:World) (R:Value→World→Prop):Prop:=xO P zf v0 w fun a b=>zg P zf a 1 b fun a b=>zh P zb a b fun a b=>qh P zb jt a b fun a b=>R a b
theorem Q8 [ZP] {v0 w R} (h:Zm PP v0 w R):vcall PP jj #[v0] w R:=zl {} Tryz.func89 (by kernel_rfl) (by kernel_rfl) h
def Zh [ZP] (P:Program) (v0 v1:Value) (w:World) (R:Value→World→Prop):Prop:=zj P .shr jt false v0 v1 w fun a b=>zj P .and jt true a (.int .u64 1) b fun a b=>zj P .eql jt true a (.int .u64 1) b fun a b=>R a b
theorem Q3 [ZP] {v0 v1 w R} (h:Zh PP v0 v1 w R):vcall PP je #[v0,v1] w R:=zl {} Tryz.func90 (by kernel_rfl) (by kernel_rfl) h
def xz [ZP] (P:Program) (v0:Value) (w:World) (R:Value→World→Prop):Prop:=vcall P yK #[v0,(.int .i64 10)] w fun a b=>R a b
theorem jM [ZP] {v0 w R} (h:xz PP v0 w R):vcall PP xt #[v0] w R:=zl {} Tryz.func91 (by kernel_rfl) (by kernel_rfl) h
def Za [ZP] (P:Program) (v0:Value) (w:World) (R:Value→World→Prop):Prop:=yN (fun a=>zj P .eql zb true v0 (.int .i64 20) w fun b c=>vif b (a [b] c) (zj P .eql zb true v0 (.int .i64 21) c fun b c=>vif b (a [b] c) (zj P .eql zb true v0 (.int .i64 24) c fun b c=>a [b] c))) (fun a _ b=>vif (sl 0 a) (R (.int .i64 0) b) (zj P .eql zb true v0 (.int .i64 1) b fun a b=>vif a (vif a (R (.int .i64 1) b) (zj P .eql zb true v0 (.int .i64 23) b fun a c=>vif a (R (.int .i64 3) c) (zj P .eql zb true v0 (.int .i64 26) c fun a c=>vif a (vif a (R (.int .i64 2) c) (zj P .geq zb true v0 (.int .i64 3) c fun a d=>vif a (zj P .leq zb true v0 (.int .i64 17) d fun a e=>vif a (R (.int .i64 2) e) (R (.int .i64 (-1)) e)) (R (.int .i64 (-1)) d))) (zj P .eql zb true v0 (.int .i64 27) c fun a c=>vif a (R (.int .i64 2) c) (zj P .geq zb true v0 (.int .i64 3) c fun a c=>vif a (zj P .leq zb true v0 (.int .i64 17) c fun a d=>vif a (R (.int .i64 2) d) (R (.int .i64 (-1)) d)) (R (.int .i64 (-1)) c)))))) (zj P .eql zb true v0 (.int .i64 2) b fun a b=>vif a (vif a (R (.int .i64 1) b) (zj P .eql zb true v0 (.int .i64 23) b fun a c=>vif a (R (.int .i64 3) c) (zj P .eql zb true v0 (.int .i64 26) c fun a c=>vif a (vif a (R (.int .i64 2) c) (zj P .geq zb true v0 (.int .i64 3) c fun a d=>vif a (zj P .leq zb true v0 (.int .i64 17) d fun a e=>vif a (R (.int .i64 2) e) (R (.int .i64 (-1)) e)) (R (.int .i64 (-1)) d))) (zj P .eql zb true v0 (.int .i64 27) c fun a c=>vif a (R (.int .i64 2) c) (zj P .geq zb true v0 (.int .i64 3) c fun a c=>vif a (zj P .leq zb true v0 (.int .i64 17) c fun a d=>vif a (R (.int .i64 2) d) (R (.int .i64 (-1)) d)) (R (.int .i64 (-1)) c)))))) (zj P .eql zb true v0 (.int .i64 22) b fun a b=>vif a (vif a (R (.int .i64 1) b) (zj P .eql zb true v0 (.int .i64 23) b fun a c=>vif a (R (.int .i64 3) c) (zj P .eql zb true v0 (.int .i64 26) c fun a c=>vif a (vif a (R (.int .i64 2) c) (zj P .geq zb true v0 (.int .i64 3) c fun a d=>vif a (zj P .leq zb true v0 (.int .i64 17) d fun a e=>vif a (R (.int .i64 2) e) (R (.int .i64 (-1)) e)) (R (.int .i64 (-1)) d))) (zj P .eql zb true v0 (.int .i64 27) c fun a c=>vif a (R (.int .i64 2) c) (zj P .geq zb true v0 (.int .i64 3) c fun a c=>vif a (zj P .leq zb true v0 (.int .i64 17) c fun a d=>vif a (R (.int .i64 2) d) (R (.int .i64 (-1)) d)) (R (.int .i64 (-1)) c)))))) (zj P .eql zb true v0 (.int .i64 25) b fun a b=>vif a (R (.int .i64 1) b) (zj P .eql zb true v0 (.int .i64 23) b fun a b=>vif a (R (.int .i64 3) b) (zj P .eql zb true v0 (.int .i64 26) b fun a b=>vif a (vif a (R (.int .i64 2) b) (zj P .geq zb true v0 (.int .i64 3) b fun a c=>vif a (zj P .leq zb true v0 (.int .i64 17) c fun a d=>vif a (R (.int .i64 2) d) (R (.int .i64 (-1)) d)) (R (.int .i64 (-1)) c))) (zj P .eql zb true v0 (.int .i64 27) b fun a b=>vif a (R (.int .i64 2) b) (zj P .geq zb true v0 (.int .i64 3) b fun a b=>vif a (zj P .leq zb true v0 (.int .i64 17) b fun a c=>vif a (R (.int .i64 2) c) (R (.int .i64 (-1)) c)) (R (.int .i64 (-1)) b))))))))))
theorem XW [ZP] {v0 w R} (h:Za PP v0 w R):vcall PP j8 #[v0] w R:=zl {cuts:=[(12293,[4])]} Tryz.func95 (by kernel_rfl) (by kernel_rfl) h
def YF [ZP] (P:Program) (v0:Value) (w:World) (R:Value→World→Prop):Prop:=yD [(.int .i64 1),(.int .i64 0)] w fun a b _ c=>zj P .lss zb false (sl 1 b) v0 c fun c d=>vif c (zj P .mul zb true (sl 0 b) (.int .i64 2) d fun c e=>zj P .add zb true (sl 1 b) (.int .i64 1) e fun e f=>a [c,e] f) (R (sl 0 b) d)
theorem Jn [ZP] {v0 w R} (h:YF PP v0 w R):vcall PP xU #[v0] w R:=zl {loops:=[(3,[3,4])]} Tryz.func96 (by kernel_rfl) (by kernel_rfl) h
def YI [ZP] (P:Program) (v0 v1:Value) (w:World) (R:Value→World→Prop):Prop:=vcall P xU #[v1] w fun a b=>zj P .quo zb false v0 a b fun a b=>zj P .rem zb true a (.int .i64 2) b fun a b=>R a b
theorem Jq [ZP] {v0 v1 w R} (h:YI PP v0 v1 w R):vcall PP kf #[v0,v1] w R:=zl {} Tryz.func97 (by kernel_rfl) (by kernel_rfl) h
end Go.Proofs.YtaemeijeaajoeaaGreatDoor
end
section
namespace Go.Proofs.YtaemeijeaajoeaaGreatDoor
open Go Go.Vc Go.Proofs
def ym [ZP] (P:Program) (v0 v1:Value) (w:World) (R:Value→World→Prop):Prop:=vbi P .len [zp] zb [v0] w fun a b=>yD [(.int .i64 0)] b fun b c _ d=>zj P .lss zb false (sl 0 c) a d fun a d=>vif a (zv P zp v0 (sl 0 c) d fun a e=>zh P zk a e fun a e=>vcallv P v1 #[a] e fun a e=>vif a (R (sl 0 c) e) (zj P .add zb true (sl 0 c) (.int .i64 1) e fun a c=>b [a] c)) (R (.int .i64 (-1)) d)
theorem yR [ZP] {v0 v1 w R} (h:ym PP v0 v1 w R):vcall PP zI #[v0,v1] w R:=zl {loops:=[(2,[8])]} Tryz.func105 (by kernel_rfl) (by kernel_rfl) h
def Zo [ZP] (P:Program) (v0:Value) (w:World) (R:Value→World→Prop):Prop:=yp P zf w fun a b=>yp P zf b fun b c=>X5 P zc v0 c fun c d=>yD [] d fun d _ _ e=>JB P c true T_T_ e fun c e=>zm P c 0 e fun e f=>vif e (zm P c 1 f fun e g=>zm P c 2 g fun c g=>yN (fun h=>zj P .eql zb true e (.int .i64 0) g fun g i=>vif g (zj P .eql yC true c (.int .i32 35) i fun g j=>h [g] j) (h [(.bool false)] i)) (fun g _ h=>vif (sl 0 g) (d [] h) (yN (fun g=>zj P .gtr zb true e (.int .i64 0) h fun h i=>vif h (zj P .leq zb true e (.int .i64 4) i fun e h=>vif e (zj P .eql yC true c (.int .i32 48) h fun e j=>vif e (g [(.bool true)] j) (zj P .eql yC true c (.int .i32 49) j fun e j=>g [e] j)) (g [(.bool false)] h)) (g [(.bool false)] i)) (fun e _ g=>vif (sl 0 e) (zg P zf b 0 g fun e h=>zh P zb e h fun e h=>zj P .add zb true e (.int .i64 1) h fun e h=>zg P zf b 1 h fun h i=>zh P zb h i fun h i=>zj P .mul zb true (.int .i64 2) h i fun h i=>zj P .sub yC true c (.int .i32 48) i fun c i=>qh P yC zb c i fun c i=>zj P .add zb false h c i fun c h=>zq P zf [(0,e),(1,c)] h fun c e=>zn P zf b c e fun _ c=>d [] c) (zq P zf [] g fun c d=>zn P zf a c d fun _ c=>vlv P zf a c fun c d=>R (.tuple #[c,(.bool false)]) d))))) (zh P zf b f fun c d=>vcall P xV #[c] d fun c d=>vun P .not c d fun c d=>vif c (zq P zf [] d fun c e=>zn P zf a c e fun _ c=>vlv P zf a c fun c e=>R (.tuple #[c,(.bool false)]) e) (zh P zf b d fun b c=>zn P zf a b c fun _ b=>vlv P zf a b fun a b=>R (.tuple #[a,(.bool true)]) b))
theorem Qa [ZP] {v0 w R} (h:Zo PP v0 w R):vcall PP jl #[v0] w R:=zl {loops:=[(3,[])],cuts:=[(28679,[14]),(32776,[21])]} Tryz.func107 (by kernel_rfl) (by kernel_rfl) h
def j0 [ZP] (P:Program) (v0 v1:Value) (w:World) (R:Value→World→Prop):Prop:=zj P .eql zc true v1 (.string {data:= #[]}) w fun a b=>vif a (R (.int .i64 (-1)) b) (vbi P .len [zc] zb [v1] b fun a b=>zj P .eql zb true a (.int .i64 1) b fun a b=>vif a (yn P zc v1 (.int .i64 0) b fun a c=>qh P zQ yC a c fun a c=>zj P .geq yC true a (.int .i32 128) c fun c d=>vif c (vcall P yi #[v0,(.int .i32 65533)] d fun c e=>R c e) (vcall P yi #[v0,a] d fun a c=>R a c)) (yN (fun a=>vbi P .len [zc] zb [v0] b fun b c=>vcall P yQ #[b] c fun b c=>vif b (vcall P jT #[v1] c fun b d=>zm P b 0 d fun d e=>zm P b 1 e fun b e=>yp P qZ e fun e f=>zn P qZ e d f fun _ d=>vif b (yD [(.int .i64 0)] d fun b f _ g=>vbi P .len [zc] zb [v0] g fun g h=>zj P .lss zb false (sl 0 f) g h fun g h=>vif g (yn P zc v0 (sl 0 f) h fun g i=>vcall P qz #[e,g] i fun e g=>vif e (R (sl 0 f) g) (zj P .add zb true (sl 0 f) (.int .i64 1) g fun e f=>b [e] f)) (R (.int .i64 (-1)) h)) (a [] d)) (a [] c)) (fun _ _ a=>X5 P zc v0 a fun a b=>yD [] b fun b _ _ c=>JB P a true T_T_ c fun a c=>zm P a 0 c fun c d=>vif c (zm P a 1 d fun c e=>zm P a 2 e fun a e=>vcall P yi #[v1,a] e fun a e=>zj P .geq zb true a (.int .i64 0) e fun a e=>vif a (R c e) (b [] e)) (R (.int .i64 (-1)) d))))
theorem ZX [ZP] {v0 v1 w R} (h:j0 PP v0 v1 w R):vcall PP xn #[v0,v1] w R:=zl {loops:=[(12,[8]),(18,[])],cuts:=[(36881,[])]} Tryz.func108 (by kernel_rfl) (by kernel_rfl) h
def yM [ZP] (P:Program) (v0 v1:Value) (w:World) (R:Value→World→Prop):Prop:=zj P .eql zb true v1 (.int .i64 10) w fun a b=>vif a (yN (fun a=>zj P .leq ZL true (.int .i64 0) v0 b fun c d=>vif c (zj P .lss ZL true v0 (.int .i64 100) d fun c e=>vif c (vcall P xh #[v0] e fun c f=>R c f) (a [] e)) (a [] d)) (fun _ _ a=>yp P xY a fun a c=>qh P ZL Kb v0 c fun c d=>yN (fun e=>zj P .lss ZL true v0 (.int .i64 0) d fun d f=>vif d (vun P .neg c f fun d g=>e [d] g) (e [c] f)) (fun c _ d=>vcall P qm #[(sl 0 c)] d fun d e=>zj P .add zb true (.int .i64 1) d e fun e f=>yJ P xY a (some (.int .i64 1)) (some e) none f fun e f=>vcall P xK #[e,(sl 0 c)] f fun _ c=>zj P .lss ZL true v0 (.int .i64 0) c fun c e=>vif c (zv P xY a (.int .i64 0) e fun c f=>zn P zQ c (.int .u8 45) f fun _ c=>zj P .add zb true (.int .i64 1) d c fun c f=>yJ P xY a none (some c) none f fun c f=>qh P zC zc c f fun c f=>R c f) (zj P .add zb true (.int .i64 1) d e fun c d=>yJ P xY a (some (.int .i64 1)) (some c) none d fun a c=>qh P zC zc a c fun a c=>R a c)))) (qh P ZL Kb v0 b fun a b=>zj P .lss ZL true v0 (.int .i64 0) b fun b c=>vcall P q7 #[(.slice none 0 0),a,v1,b,(.bool false)] c fun a b=>zm P a 0 b fun _ b=>zm P a 1 b fun a b=>R a b)
theorem qq [ZP] {v0 v1 w R} (h:yM PP v0 v1 w R):vcall PP yK #[v0,v1] w R:=zl {cuts:=[(12292,[]),(28680,[6])]} Tryz.func112 (by kernel_rfl) (by kernel_rfl) h
def qM [ZP] (P:Program) (v0 v1:Value) (w:World) (R:Value→World→Prop):Prop:=yN (fun a=>zj P .leq yC true (.int .i32 0) v1 w fun b c=>vif b (zj P .lss yC true v1 (.int .i32 128) c fun b d=>a [b] d) (a [(.bool false)] c)) (fun a _ b=>vif (sl 0 a) (qh P yC zQ v1 b fun a c=>vcall P xa #[v0,a] c fun a c=>R a c) (zj P .eql yC true v1 (.int .i32 65533) b fun a b=>vif a (X5 P zc v0 b fun a c=>yD [] c fun c _ _ d=>JB P a true T_T_ d fun a d=>zm P a 0 d fun d e=>vif d (zm P a 1 e fun d f=>zm P a 2 f fun a f=>zj P .eql yC true a (.int .i32 65533) f fun a f=>vif a (R d f) (c [] f)) (R (.int .i64 (-1)) e)) (vcall P yA #[v1] b fun a b=>vun P .not a b fun a b=>vif a (R (.int .i64 (-1)) b) (qh P yC zc v1 b fun a b=>vbi P .len [zc] zb [a] b fun b c=>zj P .sub zb true b (.int .i64 1) c fun b c=>yD [b] c fun _ c _ d=>vbi P .len [zc] zb [v0] d fun d e=>zj P .lss zb false (sl 0 c) d e fun d e=>vif d (yN (fun d=>x9 e fun f=>yn P zc v0 (sl 0 c) f fun g h=>h=f∧yn P zc a b f fun h i=>i=f∧zj P .neq zQ false g h f fun g h=>h=f∧vif g (x9 f fun g=>zj P .add zb true (sl 0 c) (.int .i64 1) g fun h i=>i=g∧yJ P zc v0 (some h) none none g fun h i=>i=g∧yn P zc a b g fun i j=>j=g∧vcall P xa #[h,i] g fun g h=>zj P .lss zb true g (.int .i64 0) h fun h i=>vif h (R (.int .i64 (-1)) i) (zj P .add zb true g (.int .i64 1) i fun g h=>zj P .add zb false (sl 0 c) g h fun g h=>d [g] h)) (d [(sl 0 c)] f)) (fun c _ d=>yD [(.int .i64 1)] d fun d f _ g=>vbi P .len [zc] zb [a] g fun g h=>zj P .lss zb false (sl 0 f) g h fun g h=>vif g (x9 h fun g=>zj P .sub zb false (sl 0 c) (sl 0 f) g fun i j=>j=g∧yn P zc v0 i g fun i j=>j=g∧zj P .sub zb false b (sl 0 f) g fun j k=>k=g∧yn P zc a j g fun a j=>j=g∧zj P .neq zQ false i a g fun a i=>i=g∧vif a (False) (zj P .add zb true (sl 0 f) (.int .i64 1) g fun a f=>d [a] f)) (zj P .sub zb false (sl 0 c) b h fun a b=>R a b))) (R (.int .i64 (-1)) e)))))
theorem ZF [ZP] {v0 v1 w R} (h:qM PP v0 v1 w R):vcall PP yi #[v0,v1] w R:=zl {ord:=[(6,[0,1,2,3,4,5,6],[(0,[2,6]),(1,[2,6]),(2,[6]),(3,[5,6]),(4,[5,6]),(5,[6])]),(7,[0,1,2,3,4,5,6,7,8],[(0,[3,7,8]),(1,[2,3,7,8]),(2,[3,7,8]),(3,[7,8]),(4,[6,7,8]),(5,[6,7,8]),(6,[7,8]),(7,[8])]),(14,[0,1,2,3,4,5,6,7,8,9,10],[(0,[4,10]),(1,[3,4,10]),(2,[3,4,10]),(3,[4,10]),(4,[10]),(5,[9,10]),(6,[8,9,10]),(7,[8,9,10]),(8,[9,10]),(9,[10])]),(31,[0,1,2,3,4,5,6,7,8,9,10],[(0,[4,10]),(1,[3,4,10]),(2,[3,4,10]),(3,[4,10]),(4,[10]),(5,[9,10]),(6,[8,9,10]),(7,[8,9,10]),(8,[9,10]),(9,[10])])],loops:=[(38,[]),(5,[9]),(12,[12])],cuts:=[(143395,[160]),(28683,[9])]} Tryz.func119 (by kernel_rfl) (by kernel_rfl) h
def xl [ZP] (P:Program) (v0:Value) (w:World) (R:Value→World→Prop):Prop:=zj P .lss zb true v0 (.int .i64 10) w fun a b=>vif a (zj P .add zb true v0 (.int .i64 1) b fun a c=>yJ P zc (.string {data:= #[48,49,50,51,52,53,54,55,56,57,97,98,99,100,101,102,103,104,105,106,107,108,109,110,111,112,113,114,115,116,117,118,119,120,121,122]}) (some v0) (some a) none c fun a c=>R a c) (zj P .mul zb true v0 (.int .i64 2) b fun a b=>zj P .mul zb true v0 (.int .i64 2) b fun b c=>zj P .add zb true b (.int .i64 2) c fun b c=>yJ P zc (.string {data:= #[48,48,48,49,48,50,48,51,48,52,48,53,48,54,48,55,48,56,48,57,49,48,49,49,49,50,49,51,49,52,49,53,49,54,49,55,49,56,49,57,50,48,50,49,50,50,50,51,50,52,50,53,50,54,50,55,50,56,50,57,51,48,51,49,51,50,51,51,51,52,51,53,51,54,51,55,51,56,51,57,52,48,52,49,52,50,52,51,52,52,52,53,52,54,52,55,52,56,52,57,53,48,53,49,53,50,53,51,53,52,53,53,53,54,53,55,53,56,53,57,54,48,54,49,54,50,54,51,54,52,54,53,54,54,54,55,54,56,54,57,55,48,55,49,55,50,55,51,55,52,55,53,55,54,55,55,55,56,55,57,56,48,56,49,56,50,56,51,56,52,56,53,56,54,56,55,56,56,56,57,57,48,57,49,57,50,57,51,57,52,57,53,57,54,57,55,57,56,57,57]}) (some a) (some b) none c fun a b=>R a b)
theorem jr [ZP] {v0 w R} (h:xl PP v0 w R):vcall PP xh #[v0] w R:=zl {} Tryz.func124 (by kernel_rfl) (by kernel_rfl) h
def xk [ZP] (P:Program) (v0:Value) (w:World) (R:Value→World→Prop):Prop:=zj P .leq yC true (.int .i32 0) v0 w fun a b=>vif a (zj P .lss yC true v0 (.int .i32 55296) b fun a c=>vif a (R (.bool true) c) (zj P .lss yC true (.int .i32 57343) v0 c fun a c=>vif a (zj P .leq yC true v0 (.int .i32 1114111) c fun a d=>vif a (R (.bool true) d) (R (.bool false) d)) (R (.bool false) c))) (zj P .lss yC true (.int .i32 57343) v0 b fun a b=>vif a (zj P .leq yC true v0 (.int .i32 1114111) b fun a c=>vif a (R (.bool true) c) (R (.bool false) c)) (R (.bool false) b))
theorem jq [ZP] {v0 w R} (h:xk PP v0 w R):vcall PP yA #[v0] w R:=zl {} Tryz.func133 (by kernel_rfl) (by kernel_rfl) h
def jv [ZP] (P:Program) (v0:Value) (w:World) (R:Value→World→Prop):Prop:=xO P zz v0 w fun a b=>zg P zz a 1 b fun a b=>zh P zb a b fun a b=>R a b
theorem Yv [ZP] {v0 w R} (h:jv PP v0 w R):vcall PP zO #[v0] w R:=zl {} Tryz.func171 (by kernel_rfl) (by kernel_rfl) h
def ju [ZP] (P:Program) (v0:Value) (w:World) (R:Value→World→Prop):Prop:=xO P zz v0 w fun a b=>zg P zz a 0 b fun a b=>zh P zc a b fun a b=>R a b
theorem Yu [ZP] {v0 w R} (h:ju PP v0 w R):vcall PP zD #[v0] w R:=zl {} Tryz.func172 (by kernel_rfl) (by kernel_rfl) h
def j1 [ZP] (P:Program) (v0 v1 v2 v3:Value) (w:World) (R:Value→World→Prop):Prop:=xO P zM v0 w fun _ a=>xO P za v2 a fun _ a=>x9 a fun a=>zv P yh v3 (.int .i64 0) a fun b c=>c=a∧zh P zb b a fun b c=>c=a∧zj P .gtr zb true b (.int .i64 0) a fun b c=>c=a∧zv P yh v3 (.int .i64 0) a fun c d=>d=a∧zh P zb c a fun c d=>d=a∧vcall P zB #[b,c] a fun a b=>R a b
theorem ZZ [ZP] {v0 v1 v2 v3 w R} (h:j1 PP v0 v1 v2 v3 w R):vcall PP xu #[v0,v1,v2,v3] w R:=zl {ord:=[(1,[0,1,2,3,4,5,6,7,8],[(0,[1,2,3,7,8]),(1,[2,3,7,8]),(2,[3,7,8]),(3,[7,8]),(4,[5,6,7,8]),(5,[6,7,8]),(6,[7,8]),(7,[8])])]} Tryz.func173 (by kernel_rfl) (by kernel_rfl) h
def Yl [ZP] (P:Program) (v0 v1:Value) (w:World) (R:Value→World→Prop):Prop:=vif v0 (R v1 w) (R (.int .i64 (-1)) w)
theorem J0 [ZP] {v0 v1 w R} (h:Yl PP v0 v1 w R):vcall PP zB #[v0,v1] w R:=zl {} Tryz.func174 (by kernel_rfl) (by kernel_rfl) h
def qQ [ZP] (P:Program) (v0 v1 v2 v3:Value) (w:World) (R:Value→World→Prop):Prop:=xO P zX v0 w fun _ a=>xO P za v2 a fun _ a=>x9 a fun a=>zv P yh v3 (.int .i64 0) a fun b c=>c=a∧zh P zb b a fun b c=>c=a∧zj P .gtr zb true b (.int .i64 0) a fun b c=>c=a∧vif b (zv P yh v3 (.int .i64 1) a fun b c=>c=a∧zh P zb b a fun b c=>c=a∧zj P .gtr zb true b (.int .i64 0) a fun b c=>c=a∧vif b (zv P yh v3 (.int .i64 0) a fun b c=>c=a∧zh P zb b a fun b c=>c=a∧zv P yh v3 (.int .i64 1) a fun c d=>d=a∧zh P zb c a fun c d=>d=a∧zj P .add zb false b c a fun b c=>c=a∧zj P .leq zb true b (.int .i64 4) a fun b c=>c=a∧zv P yh v3 (.int .i64 0) a fun c d=>d=a∧zh P zb c a fun c d=>d=a∧zv P yh v3 (.int .i64 1) a fun d e=>e=a∧zh P zb d a fun d e=>e=a∧zj P .add zb false c d a fun c d=>d=a∧vcall P zB #[b,c] a fun b c=>R b c) (zv P yh v3 (.int .i64 0) a fun b c=>c=a∧zh P zb b a fun b c=>c=a∧zv P yh v3 (.int .i64 1) a fun c d=>d=a∧zh P zb c a fun c d=>d=a∧zj P .add zb false b c a fun b c=>c=a∧vcall P zB #[(.bool false),b] a fun b c=>R b c)) (zv P yh v3 (.int .i64 0) a fun b c=>c=a∧zh P zb b a fun b c=>c=a∧zv P yh v3 (.int .i64 1) a fun c d=>d=a∧zh P zb c a fun c d=>d=a∧zj P .add zb false b c a fun b c=>c=a∧vcall P zB #[(.bool false),b] a fun a b=>R a b)
theorem ZJ [ZP] {v0 v1 v2 v3 w R} (h:qQ PP v0 v1 v2 v3 w R):vcall PP xf #[v0,v1,v2,v3] w R:=zl {ord:=[(1,[0,1,2,3,4,5,6,7,8,9,10,11,12,13,14,15,16,17,18,19,20,21,22,23,24,25,26,27,28],[(0,[1,2,3,4,5,6,7,8,9,10,11,12,13,14,15,16,17,18,19,27,28]),(1,[2,3,4,5,6,7,8,9,10,11,12,13,14,15,16,17,18,19,27,28]),(2,[3,4,5,6,7,8,9,10,11,12,13,14,15,16,17,18,19,27,28]),(3,[4,5,6,7,8,9,10,11,12,13,14,15,16,17,18,19,27,28]),(4,[5,6,7,8,9,10,11,12,13,14,15,16,17,18,19,27,28]),(5,[6,7,8,9,10,11,12,13,14,15,16,17,18,19,27,28]),(6,[7,8,9,10,11,12,13,14,15,16,17,18,19,27,28]),(7,[8,9,10,11,12,13,14,15,16,17,18,19,27,28]),(8,[9,10,11,12,13,14,15,16,17,18,19,27,28]),(9,[10,11,12,13,14,15,16,17,18,19,27,28]),(10,[11,12,13,14,15,16,17,18,19,27,28]),(11,[12,13,17,18,19,27,28]),(12,[13,17,18,19,27,28]),(13,[17,18,19,27,28]),(14,[15,16,17,18,19,27,28]),(15,[16,17,18,19,27,28]),(16,[17,18,19,27,28]),(17,[18,19,27,28]),(18,[19,27,28]),(19,[27,28]),(20,[21,22,26,27,28]),(21,[22,26,27,28]),(22,[26,27,28]),(23,[24,25,26,27,28]),(24,[25,26,27,28]),(25,[26,27,28]),(26,[27,28]),(27,[28])])]} Tryz.func175 (by kernel_rfl) (by kernel_rfl) h
def qP [ZP] (P:Program) (v0 v1 v2 v3:Value) (w:World) (R:Value→World→Prop):Prop:=xO P zA v0 w fun _ a=>xO P za v2 a fun _ a=>x9 a fun a=>zv P yh v3 (.int .i64 0) a fun b c=>c=a∧zh P zb b a fun b c=>c=a∧zj P .gtr zb true b (.int .i64 0) a fun b c=>c=a∧vif b (zv P yh v3 (.int .i64 0) a fun b c=>c=a∧zh P zb b a fun b c=>c=a∧zv P yh v3 (.int .i64 1) a fun c d=>d=a∧zh P zb c a fun c d=>d=a∧zj P .eql zb false b c a fun b c=>c=a∧vcall P zB #[b,(.int .i64 0)] a fun b c=>R b c) (vcall P zB #[(.bool false),(.int .i64 0)] a fun a b=>R a b)
theorem ZI [ZP] {v0 v1 v2 v3 w R} (h:qP PP v0 v1 v2 v3 w R):vcall PP xe #[v0,v1,v2,v3] w R:=zl {ord:=[(1,[0,1,2,3,4,5,6,7,8,9,10,11,12,13,14],[(0,[1,2,3,4,5,6,7,8,9,10,11,12,13,14]),(1,[2,3,4,5,6,7,8,9,10,11,12,13,14]),(2,[3,4,5,6,7,8,9,10,11,12,13,14]),(3,[4,5,6,7,8,9,10,11,12,13,14]),(4,[5,6,7,8,9,10,11,12,13,14]),(5,[6,7,11,12,13,14]),(6,[7,11,12,13,14]),(7,[11,12,13,14]),(8,[9,10,11,12,13,14]),(9,[10,11,12,13,14]),(10,[11,12,13,14]),(11,[12,13,14]),(12,[13,14]),(13,[14])])]} Tryz.func176 (by kernel_rfl) (by kernel_rfl) h
def qN [ZP] (P:Program) (v0 v1 v2 v3:Value) (w:World) (R:Value→World→Prop):Prop:=xO P zV v0 w fun _ a=>xO P za v2 a fun a b=>x9 b fun b=>zg P za a 1 b fun c d=>d=b∧zh P zb c b fun c d=>d=b∧zg P za a 2 b fun d e=>e=b∧zh P zb d b fun d e=>e=b∧zq P zf [(0,c),(1,d)] b fun c d=>d=b∧zg P za a 1 b fun d e=>e=b∧zh P zb d b fun e f=>f=b∧vcall P xV #[c] b fun b c=>(zh P zb d c fun f g=>f=e∧g=c)∧(zg P za a 1 c fun f g=>f=d∧g=c)∧vcall P zB #[b,e] c fun a b=>R a b
theorem ZG [ZP] {v0 v1 v2 v3 w R} (h:qN PP v0 v1 v2 v3 w R):vcall PP xb #[v0,v1,v2,v3] w R:=zl {ord:=[(1,[0,1,2,3,4,6,7,5,8,9],[(0,[1,4,5,8,9]),(1,[4,5,8,9]),(2,[3,4,5,8,9]),(3,[4,5,8,9]),(4,[5,8,9]),(6,[7,8,9]),(7,[8,9]),(5,[8,9]),(8,[9])])]} Tryz.func177 (by kernel_rfl) (by kernel_rfl) h
def qe [ZP] (P:Program) (v0 v1 v2 v3:Value) (w:World) (R:Value→World→Prop):Prop:=xO P zS v0 w fun _ a=>xO P za v2 a fun a b=>vmkF P (.func xC) [] [a] b fun a b=>vcall P zI #[v1,a] b fun a b=>zj P .lss zb true a (.int .i64 0) b fun b c=>vif b (R (.int .i64 (-1)) c) (zv P zp v1 a c fun a b=>zg P zk a 1 b fun a b=>zh P zb a b fun a b=>R a b)
theorem Z1 [ZP] {v0 v1 v2 v3 w R} (h:qe PP v0 v1 v2 v3 w R):vcall PP yZ #[v0,v1,v2,v3] w R:=zl {} Tryz.func178 (by kernel_rfl) (by kernel_rfl) h
def xF [ZP] (P:Program) (v0 v1:Value) (w:World) (R:Value→World→Prop):Prop:=xO P zk v0 w fun a b=>zg P zk a 0 b fun a b=>zh P zc a b fun a b=>zg P za v1 3 b fun b c=>zh P zc b c fun b c=>zj P .eql zc false a b c fun a b=>R a b
theorem jW [ZP] {v0 v1 w R} (h:xF PP v0 v1 w R):vcall PP xC #[v0,v1] w R:=zl {} Tryz.func179 (by kernel_rfl) (by kernel_rfl) h
def qO [ZP] (P:Program) (v0 v1 v2 v3:Value) (w:World) (R:Value→World→Prop):Prop:=xO P zW v0 w fun _ a=>xO P za v2 a fun a b=>x9 b fun b=>zg P za a 2 b fun c d=>d=b∧zh P zb c b fun c d=>d=b∧zj P .geq zb true c (.int .i64 0) b fun c d=>d=b∧vif c (zg P za a 1 b fun c d=>d=b∧zh P zb c b fun c d=>d=b∧zg P za a 2 b fun d e=>e=b∧zh P zb d b fun d e=>e=b∧zj P .geq zb false c d b fun c d=>d=b∧vif c (zg P za a 1 b fun c d=>d=b∧zh P zb c b fun c d=>d=b∧zv P yh v3 (.int .i64 0) b fun d e=>e=b∧zh P zb d b fun d e=>e=b∧zj P .lss zb false c d b fun c d=>d=b∧zg P za a 1 b fun d e=>e=b∧zh P zb d b fun d e=>e=b∧zg P za a 2 b fun e f=>f=b∧zh P zb e b fun e f=>f=b∧zj P .sub zb false d e b fun d e=>e=b∧zj P .add zb true d (.int .i64 1) b fun d e=>e=b∧vcall P zB #[c,d] b fun c d=>R c d) (zg P za a 1 b fun c d=>d=b∧zh P zb c b fun c d=>d=b∧zg P za a 2 b fun d e=>e=b∧zh P zb d b fun d e=>e=b∧zj P .sub zb false c d b fun c d=>d=b∧zj P .add zb true c (.int .i64 1) b fun c d=>d=b∧vcall P zB #[(.bool false),c] b fun c d=>R c d)) (zg P za a 1 b fun c d=>d=b∧zh P zb c b fun c d=>d=b∧zg P za a 2 b fun a d=>d=b∧zh P zb a b fun a d=>d=b∧zj P .sub zb false c a b fun a c=>c=b∧zj P .add zb true a (.int .i64 1) b fun a c=>c=b∧vcall P zB #[(.bool false),a] b fun a b=>R a b)
theorem ZH [ZP] {v0 v1 v2 v3 w R} (h:qO PP v0 v1 v2 v3 w R):vcall PP xd #[v0,v1,v2,v3] w R:=zl {ord:=[(1,[0,1,2,3,4,5,6,7,8,9,10,11,12,13,14,15,16,17,18,19,20,21,22,23,24,25],[(0,[1,2,3,4,5,6,7,8,9,10,11,12,13,14,15,16,17,24,25]),(1,[2,3,4,5,6,7,8,9,10,11,12,13,14,15,16,17,24,25]),(2,[3,4,5,6,7,8,9,10,11,12,13,14,15,16,17,24,25]),(3,[4,5,6,7,8,9,10,11,12,13,14,15,16,17,24,25]),(4,[5,8,9,10,11,12,13,14,15,16,17,24,25]),(5,[8,9,10,11,12,13,14,15,16,17,24,25]),(6,[7,8,9,10,11,12,13,14,15,16,17,24,25]),(7,[8,9,10,11,12,13,14,15,16,17,24,25]),(8,[9,10,11,12,13,14,15,16,17,24,25]),(9,[10,11,12,13,14,15,16,17,24,25]),(10,[11,12,13,14,15,16,17,24,25]),(11,[12,16,17,24,25]),(12,[16,17,24,25]),(13,[14,15,16,17,24,25]),(14,[15,16,17,24,25]),(15,[16,17,24,25]),(16,[17,24,25]),(17,[24,25]),(18,[19,22,23,24,25]),(19,[22,23,24,25]),(20,[21,22,23,24,25]),(21,[22,23,24,25]),(22,[23,24,25]),(23,[24,25]),(24,[25])])]} Tryz.func180 (by kernel_rfl) (by kernel_rfl) h
def j4 [ZP] (P:Program) (v0 v1 v2 v3:Value) (w:World) (R:Value→World→Prop):Prop:=xO P zZ v0 w fun _ a=>xO P za v2 a fun _ a=>x9 a fun a=>zv P yh v3 (.int .i64 0) a fun b c=>c=a∧zh P zb b a fun b c=>c=a∧zj P .eql zb true b (.int .i64 0) a fun b c=>c=a∧vif b (zv P yh v3 (.int .i64 1) a fun b c=>c=a∧zh P zb b a fun b c=>c=a∧zv P yh v3 (.int .i64 2) a fun c d=>d=a∧zh P zb c a fun c d=>d=a∧zj P .eql zb false b c a fun b c=>c=a∧zv P yh v3 (.int .i64 1) a fun c d=>d=a∧zh P zb c a fun c d=>d=a∧vcall P zB #[b,c] a fun b c=>R b c) (zv P yh v3 (.int .i64 1) a fun b c=>c=a∧zh P zb b a fun b c=>c=a∧vcall P zB #[(.bool false),b] a fun a b=>R a b)
theorem Y2 [ZP] {v0 v1 v2 v3 w R} (h:j4 PP v0 v1 v2 v3 w R):vcall PP xv #[v0,v1,v2,v3] w R:=zl {ord:=[(1,[0,1,2,3,4,5,6,7,8,9,10,11,12,13,14,15,16,17],[(0,[1,2,3,4,5,6,7,8,9,10,11,12,16,17]),(1,[2,3,4,5,6,7,8,9,10,11,12,16,17]),(2,[3,4,5,6,7,8,9,10,11,12,16,17]),(3,[4,5,6,7,8,9,10,11,12,16,17]),(4,[5,6,7,8,9,10,11,12,16,17]),(5,[6,7,11,12,16,17]),(6,[7,11,12,16,17]),(7,[11,12,16,17]),(8,[9,10,11,12,16,17]),(9,[10,11,12,16,17]),(10,[11,12,16,17]),(11,[12,16,17]),(12,[16,17]),(13,[14,15,16,17]),(14,[15,16,17]),(15,[16,17]),(16,[17])])]} Tryz.func181 (by kernel_rfl) (by kernel_rfl) h
def qf [ZP] (P:Program) (v0 v1 v2 v3:Value) (w:World) (R:Value→World→Prop):Prop:=xO P zu v0 w fun _ a=>xO P za v2 a fun _ a=>vcall P yl #[v3,(.func (.func xD) #[] #[])] a fun a b=>vun P .not a b fun a b=>vcall P zB #[a,(.int .i64 0)] b fun a b=>R a b
theorem Z2 [ZP] {v0 v1 v2 v3 w R} (h:qf PP v0 v1 v2 v3 w R):vcall PP x5 #[v0,v1,v2,v3] w R:=zl {} Tryz.func182 (by kernel_rfl) (by kernel_rfl) h
def yE [ZP] (P:Program) (v0 v1:Value) (w:World) (R:Value→World→Prop):Prop:=vcall P yv #[v0,v1] w fun a b=>zj P .geq zb true a (.int .i64 0) b fun a b=>R a b
theorem xX [ZP] {v0 v1 w R} (h:yE PP v0 v1 w R):vcall PP yl #[v0,v1] w R:=zl {} Tryz.func183 (by kernel_rfl) (by kernel_rfl) h
def xG [ZP] (P:Program) (v0:Value) (w:World) (R:Value→World→Prop):Prop:=zj P .neq zb true v0 (.int .i64 0) w fun a b=>R a b
theorem jX [ZP] {v0 w R} (h:xG PP v0 w R):vcall PP xD #[v0] w R:=zl {} Tryz.func184 (by kernel_rfl) (by kernel_rfl) h
def yS [ZP] (P:Program) (v0 v1:Value) (w:World) (R:Value→World→Prop):Prop:=vbi P .len [yh] zb [v0] w fun a b=>yD [(.int .i64 0)] b fun b c _ d=>zj P .lss zb false (sl 0 c) a d fun a d=>vif a (zv P yh v0 (sl 0 c) d fun a e=>zh P zb a e fun a e=>vcallv P v1 #[a] e fun a e=>vif a (R (sl 0 c) e) (zj P .add zb true (sl 0 c) (.int .i64 1) e fun a c=>b [a] c)) (R (.int .i64 (-1)) d)
theorem qL [ZP] {v0 v1 w R} (h:yS PP v0 v1 w R):vcall PP yv #[v0,v1] w R:=zl {loops:=[(2,[8])]} Tryz.func185 (by kernel_rfl) (by kernel_rfl) h
def qR [ZP] (P:Program) (v0 v1 v2 v3:Value) (w:World) (R:Value→World→Prop):Prop:=xO P zT v0 w fun _ a=>xO P za v2 a fun _ a=>x9 a fun a=>zv P yh v3 (.int .i64 0) a fun b c=>c=a∧zh P zb b a fun b c=>c=a∧zj P .gtr zb true b (.int .i64 0) a fun b c=>c=a∧vif b (zv P yh v3 (.int .i64 0) a fun b c=>c=a∧zh P zb b a fun b c=>c=a∧zv P yh v3 (.int .i64 1) a fun c d=>d=a∧zh P zb c a fun c d=>d=a∧zj P .eql zb false b c a fun b c=>c=a∧zv P yh v3 (.int .i64 0) a fun c d=>d=a∧zh P zb c a fun c d=>d=a∧vcall P zB #[b,c] a fun b c=>R b c) (zv P yh v3 (.int .i64 0) a fun b c=>c=a∧zh P zb b a fun b c=>c=a∧vcall P zB #[(.bool false),b] a fun a b=>R a b)
theorem ZK [ZP] {v0 v1 v2 v3 w R} (h:qR PP v0 v1 v2 v3 w R):vcall PP xg #[v0,v1,v2,v3] w R:=zl {ord:=[(1,[0,1,2,3,4,5,6,7,8,9,10,11,12,13,14,15,16,17],[(0,[1,2,3,4,5,6,7,8,9,10,11,12,16,17]),(1,[2,3,4,5,6,7,8,9,10,11,12,16,17]),(2,[3,4,5,6,7,8,9,10,11,12,16,17]),(3,[4,5,6,7,8,9,10,11,12,16,17]),(4,[5,6,7,8,9,10,11,12,16,17]),(5,[6,7,11,12,16,17]),(6,[7,11,12,16,17]),(7,[11,12,16,17]),(8,[9,10,11,12,16,17]),(9,[10,11,12,16,17]),(10,[11,12,16,17]),(11,[12,16,17]),(12,[16,17]),(13,[14,15,16,17]),(14,[15,16,17]),(15,[16,17]),(16,[17])])]} Tryz.func187 (by kernel_rfl) (by kernel_rfl) h
end Go.Proofs.YtaemeijeaajoeaaGreatDoor
end
section
namespace Go.Proofs.YtaemeijeaajoeaaGreatDoor
open Go Go.Vc Go.Proofs
variable {w:World} {K:Value→World→Prop} {F:Nat→Prop}
abbrev Jy (wd n:Int):Value:= .agg ⟨[.int .i64 wd,.int .i64 n]⟩
theorem pow4 {k:Nat} (a:1<=k) (b:k<=4):2<=2^k/\2^k<=16:=by
 rcases(by omega:k=1\/k=2\/k=3\/k=4) with rfl|rfl|rfl|rfl<;>decide
@[push_cast] theorem bd_Vec (a b:Int):zq PP zf [(0,.int .i64 a),(1,.int .i64 b)] w K=K (Jy a b) w:=yd js (us:=[[.int .i64 a],[.int .i64 b]]) rfl rfl
@[push_cast] theorem Vb:zq PP zf [] w K=K (Jy 0 0) w:=yd js (us:=[]) rfl rfl
theorem stVec {b:Nat} {x y:Value} {t:TypeId} {p q:Int} (h:Blk w b [x,y] t) (c:∀w',Same (· =b) w w'->w'.heap.size=w.heap.size->Blk w' b [.int .i64 p,.int .i64 q] t->K undef w'):zn PP zf (.pointer (some ⟨b,0,none⟩)) (Jy p q) w K:=
 h.stAgg rfl (by kernel_rfl) (by intro v a;simp only[List.mem_cons,List.not_mem_nil,or_false] at a;rcases a with rfl|rfl<;>rfl) c
theorem Qr (k:Nat):((2^k:Nat):Int)=2^k:=by simp
theorem VecOk_spec {wd n:Int} (m:∀w',Ext w w'->K (.bool (M.vok wd n)) w'):vcall PP xV #[Jy wd n] w K:=by
 apply Jv;unfold YN;refine zr fun b1 r o h p j=>?_;refine zN fun f d _=>?_;have i:=j.ext d;have l:=h.trans d;simp(disch:=(simp only[push_cast];done)) only[push_cast,i.ld0,i.ld1,true_and];have a:=m f l;refine zd (fun g=>?_) (fun g=>?_)
 ·refine zd (fun a2=>?_) (fun a2=>?_)
  ·refine zd (fun a3=>?_) (fun a3=>?_)
   ·obtain⟨k,rfl⟩:∃k:Nat,wd=k:=⟨wd.toNat,by omega⟩;have q:=pow4 (k:=k) (by omega) (by omega);have e:zj PP .shl zb true (.int .i64 1) (.int .i64 (k:Int)) f=fun K=>K (.int .i64 (2^k:Nat)) f:=by
     funext K
     have:=vbin_shlI (P:=PP) (w:=f) (K:=K) (c:=true) (t:=zb) (yk:= .i64) (x:=1) (y:=k) (by omega) (by omega);rw[Nat.one_mul] at this;exact this
    rw[e];simp only[push_cast,true_and];have b:M.vok (k:Int) n=decide (n<(2^k:Nat)):=by
     simp only[M.vok,decide_eq_true g,decide_eq_true a2,decide_eq_true a3,Bool.true_and,Int.toNat_natCast,Qr]
    rw[b,Qr] at a;exact a
   ·have b:M.vok wd n=false:=(by simp only[M.vok,decide_eq_false a3,Bool.and_false,Bool.false_and]);rw[b] at a;exact a
  ·have b:M.vok wd n=false:=(by simp only[M.vok,decide_eq_false a2,Bool.and_false,Bool.false_and]);rw[b] at a;exact a
 ·have b:M.vok wd n=false:=(by simp only[M.vok,decide_eq_false g,Bool.false_and]);rw[b] at a;exact a
theorem bit_spec {n k:Nat} (f:n<18446744073709551616) (c:k<64) (b:K (.bool (decide (n/2^k%2=1))) w):vcall PP je #[.int .u64 n,.int .i64 k] w K:=by
 apply Q3;unfold Zh;have d:n/2^k<=n:=Nat.div_le_self _ _;rw[vbin_shrU c,show(1:Int)=((1:Nat):Int) from rfl,KE (by omega) (by omega),qT];have e:n/2^k&&&1=n/2^k%2:=Nat.and_one_is_mod _;rw[e];have a:decide (((n/2^k%2:Nat):Int)=((1:Nat):Int))=decide (n/2^k%2=1):=by
  by_cases h:n/2^k%2=1
  ·rw[h];simp
  ·rw[decide_eq_false h,decide_eq_false];omega
 rw[a];exact b
theorem raw_spec {wd:Int} {n:Nat} (f:n<9223372036854775808) (c:∀w',Ext w w'->K (.int .u64 n) w'):vcall PP jj #[Jy wd n] w K:=by
 apply Q8;unfold Zm;refine zr fun b1 g d a e b=>?_;simp(disch:=(simp only[push_cast];done)) only[push_cast,b.ld1];rw[jm KG JO,wrapU (by omega)];exact c _ a
end Go.Proofs.YtaemeijeaajoeaaGreatDoor
end
section
namespace Go.Proofs.YtaemeijeaajoeaaGreatDoor
open Go Go.Vc Go.Proofs
variable {w:World} {K:Value→World→Prop} {F:Nat→Prop}
theorem Ws (x y:Bool):(Op.equal xj (.bool x) (.bool y)).run PP w= .ok (x==y) w:=by
 have hu:PP.underlying xj=some .bool:=by kernel_rfl
 have:∀d,(Op.equalIn (d+1) xj (.bool x) (.bool y)).run PP w= .ok (x==y) w:=fun d=>by
  rw[Op.equalIn,Sem.run_bind,run_underlying hu];rfl
 exact this 9999
@[push_cast] theorem vbin_neb (b:Bool) (x y:Bool):zj PP .neq xj b (.bool x) (.bool y) w K=K (.bool (x != y)) w:=
 yo rfl (by simp[binOp,Ws,Result.andThen,bne])
theorem IndexFunc_Lint_int {v f:Value} {vs:List Value} {p:Nat->Bool} (e:Vals F w v vs) (o:∀i,i<vs.length->FnB PP w f #[vs.getD i undef] (p i))
  (k:∀w',Ext w w'->K (.int .i64 (idxI vs.length p)) w'):vcall PP yv #[v,f] w K:=by
 apply qL;unfold yS;simp(disch:=first|(simp only[push_cast];done)|omega) only[push_cast,e.len];have hlen:vs.length<=9223372036854775807:=by obtain⟨_,_,_,m,x,_⟩:=e.shape;simp at m;omega
 refine vloop_up vs.length (fun i u w'=>u=[.int .i64 i]/\Ext w w'/\∀j,j<i->p j=false) ⟨rfl,Same.refl _ _,by omega⟩ ?_;rintro i _ g l C y ⟨rfl,he,d⟩ n;simp only[push_cast];refine zd (fun s=>?_) (fun q=>?_)
 ·have b:=e.ext he;simp(disch:=first|(simp only[push_cast];done)|omega) only[push_cast,b.iaddr,b.load];refine o i (by omega) l _ he fun t a=>zE (fun c=>?_) (fun c=>?_)
  ·have:=k t (he.trans a);rwa[idxI_some (by omega) c d] at this
  ·simp(disch:=omega) only[push_cast,yb];exact n (by omega) _ _ ⟨by simp,he.trans a,fun j r=>by
    by_cases h:j=i
    ·subst h;exact c
    ·exact d j (by omega)⟩
 ·have:=k l he;rwa[Xh (fun j r=>d j (by omega))] at this
theorem kH {v f:Value} {vs:List Value} {p:Nat->Bool} (c:Vals F w v vs) (b:∀i,i<vs.length->FnB PP w f #[vs.getD i undef] (p i))
  (a:∀w',Ext w w'->K (.bool ((List.range vs.length).any p)) w'):vcall PP yl #[v,f] w K:=by
 apply xX;unfold yE;refine IndexFunc_Lint_int c b fun w' he=>?_;simp only[push_cast,ZC];exact a w' he
end Go.Proofs.YtaemeijeaajoeaaGreatDoor
end
section
namespace Go.Proofs.YtaemeijeaajoeaaGreatDoor
open Go Go.Vc Go.Proofs
variable {w:World} {K:Value→World→Prop} {F G:Nat→Prop}
@[push_cast] theorem tn0:(0:Int).toNat=0:=rfl
@[push_cast] theorem tn1:(1:Int).toNat=1:=rfl
@[push_cast] theorem tn2:(2:Int).toNat=2:=rfl
theorem Ve {α:Type} (xs:List α) (d:α) (p:α->Bool):(List.range xs.length).any (fun i=>p (xs.getD i d))=xs.any p:=by
 rw[Bool.eq_iff_iff,List.any_eq_true,List.any_eq_true];constructor
 ·rintro⟨i,a,b⟩;exact⟨_,M.getD_mem (List.mem_range.1 a) d,b⟩
 ·rintro⟨x,c,b⟩;obtain⟨i,a,rfl⟩:=List.getElem_of_mem c;exact⟨i,List.mem_range.2 a,by rw[List.getD_eq_getElem?_getD,List.getElem?_eq_getElem a];exact b⟩
abbrev DclV (d:M.Dcl):Value:= .agg ⟨[.string d.1,.int .i64 d.2]⟩
abbrev K9:M.Dcl:=(M.nada,0)
theorem IndexFunc_Decl {v f:Value} {ds:List M.Dcl} {p:Nat->Bool} (e:DclsR F w v ds) (n:∀i,i<ds.length->FnB PP w f #[DclV (ds.getD i K9)] (p i))
  (k:∀w',Ext w w'->K (.int .i64 (idxI ds.length p)) w'):vcall PP zI #[v,f] w K:=by
 apply yR;unfold ym;simp(disch:=first|(simp only[push_cast];done)|omega) only[push_cast,e.len];have hlen:=e.small;refine vloop_up ds.length (fun i u w'=>u=[.int .i64 i]/\Ext w w'/\∀j,j<i->p j=false) ⟨rfl,Same.refl _ _,by omega⟩ ?_;rintro i _ g l C t ⟨rfl,he,d⟩ m;simp only[push_cast];refine zd (fun r=>?_) (fun o=>?_)
 ·have b:=e.ext he;simp(disch:=first|(simp only[push_cast];done)|omega) only[push_cast,b.iaddr,b.load];refine n i (by omega) l _ he fun s a=>zE (fun c=>?_) (fun c=>?_)
  ·have:=k s (he.trans a);rwa[idxI_some (by omega) c d] at this
  ·rw[inc64' (by omega)];exact m (by omega) _ _ ⟨rfl,he.trans a,fun j q=>by
    by_cases h:j=i
    ·subst h;exact c
    ·exact d j (by omega)⟩
 ·have:=k l he;rwa[Xh (fun j q=>d j (by omega))] at this
theorem Yy {v f:Value} {ds:List M.Dcl} {p:Nat->Bool} (c:DclsR F w v ds) (b:∀i,i<ds.length->FnB PP w f #[DclV (ds.getD i K9)] (p i))
  (a:∀w',Ext w w'->K (.bool ((List.range ds.length).any p)) w'):vcall PP zU #[v,f] w K:=by
 apply yH;unfold yf;refine IndexFunc_Decl c b fun w' he=>?_;simp only[push_cast,ZC];exact a w' he
theorem jC {b:Bool} {s:Int} (a:K (.int .i64 (if b=true then s else-1)) w):vcall PP zB #[.bool b,.int .i64 s] w K:=by
 apply J0;unfold Yl;refine zE (fun h=>?_) (fun h=>?_)<;>subst h<;>exact a
theorem xJ {p:Prop} [Decidable p] {s:Int} (a:K (.int .i64 (if p then s else-1)) w):vcall PP zB #[.bool (decide p),.int .i64 s] w K:=
 jC (by simpa using a)
theorem qy {s:Int} (a:K (.int .i64 (-1)) w):vcall PP zB #[.bool false,.int .i64 s] w K:=jC a
theorem xy {s:ByteArray} {n:Int} (c:∀w',Ext w w'->K (.int .i64 n) w'):vcall PP zO #[.agg ⟨[.string s,.int .i64 n]⟩] w K:=by
 apply Yv;unfold jv;refine zr fun b1 f d a e b=>?_;simp(disch:=(simp only[push_cast];done)) only[push_cast,b.ld1];exact c _ a
abbrev KV (s:ByteArray) (n:Int):Value:= .agg ⟨[.string s,.int .i64 n]⟩
theorem unKind_sort_spec {s:ByteArray} {n:Int} {dv tv kv:Value} {t:M.Tm} {xs:List Int} (k:TermR F w tv t) (l:Ints G w kv xs) (q:xs.length=1)
  (e:∀w',Ext w w'->K (.int .i64 (if 0<xs.getD 0 0 then xs.getD 0 0 else-1)) w'):vcall PP xu #[KV s n,dv,tv,kv] w K:=by
 apply ZZ;unfold j1;obtain⟨ksv,rfl,h⟩:=k;refine zr fun b1 r f a i o=>?_;refine zr fun m u g b j p=>?_;refine zN fun v c _=>?_;have d:=l.ext ((a.trans b).trans c);simp(disch:=first|(simp only[push_cast];done)|omega) only[push_cast,d.iaddr,d.load,true_and];exact xJ (e _ ((a.trans b).trans c))
theorem binKind_sort_spec {s:ByteArray} {n:Int} {dv tv kv:Value} {t:M.Tm} {xs:List Int} (m:TermR F w tv t) (o:Ints G w kv xs) (u:xs.length=2)
  (g:∀w',Ext w w'->K (.int .i64 (if 0<xs.getD 0 0/\xs.getD 0 0=xs.getD 1 0 then xs.getD 0 0 else-1)) w'):vcall PP xg #[KV s n,dv,tv,kv] w K:=by
 apply ZK;unfold qR;obtain⟨ksv,rfl,j⟩:=m;refine zr fun b1 v h b k q=>?_;refine zr fun p x i c l r=>?_;refine zN fun y d _=>?_;have e:=o.ext ((b.trans c).trans d);have f:=g _ ((b.trans c).trans d);simp(disch:=first|(simp only[push_cast];done)|omega) only[push_cast,e.iaddr,e.load,true_and];refine zd (fun a=>?_) (fun a=>?_)
 ·refine xJ ?_;simpa only[a,true_and] using f
 ·refine qy ?_;simpa only[a,false_and,if_false] using f
theorem cmpKind_sort_spec {s:ByteArray} {n:Int} {dv tv kv:Value} {t:M.Tm} {xs:List Int} (m:TermR F w tv t) (o:Ints G w kv xs) (u:xs.length=2)
  (g:∀w',Ext w w'->K (.int .i64 (if 0<xs.getD 0 0/\xs.getD 0 0=xs.getD 1 0 then 0 else-1)) w'):vcall PP xe #[KV s n,dv,tv,kv] w K:=by
 apply ZI;unfold qP;obtain⟨ksv,rfl,j⟩:=m;refine zr fun b1 v h b k q=>?_;refine zr fun p x i c l r=>?_;refine zN fun y d _=>?_;have e:=o.ext ((b.trans c).trans d);have f:=g _ ((b.trans c).trans d);simp(disch:=first|(simp only[push_cast];done)|omega) only[push_cast,e.iaddr,e.load,true_and];refine zd (fun a=>?_) (fun a=>?_)
 ·refine xJ ?_;simpa only[a,true_and] using f
 ·refine qy ?_;simpa only[a,false_and,if_false] using f
theorem catKind_sort_spec {s:ByteArray} {n:Int} {dv tv kv:Value} {t:M.Tm} {xs:List Int} (r:TermR F w tv t) (u:Ints G w kv xs) (z:xs.length=2) (h:∀i,-1<=xs.getD i 0/\xs.getD i 0<=4)
  (k:∀w',Ext w w'->K (.int .i64 (if 0<xs.getD 0 0/\0<xs.getD 1 0/\xs.getD 0 0+xs.getD 1 0<=4 then xs.getD 0 0+xs.getD 1 0 else-1)) w'):vcall PP xf #[KV s n,dv,tv,kv] w K:=by
 apply ZJ;unfold qQ;obtain⟨ksv,rfl,o⟩:=r;refine zr fun b1 C l c p x=>?_;refine zr fun v D m d q y=>?_;refine zN fun E e _=>?_;have f:=u.ext ((c.trans d).trans e);have g:=k _ ((c.trans d).trans e);have A:=h 0;have B:=h 1;have j:IntKind.i64.wrap (xs.getD 0 0+xs.getD 1 0)=xs.getD 0 0+xs.getD 1 0:=yb (by omega) (by omega);simp(disch:=first|(simp only[push_cast];done)|omega) only[push_cast,f.iaddr,f.load,true_and,j];refine zd (fun a=>?_) (fun a=>?_)
 ·refine zd (fun b=>?_) (fun b=>?_)
  ·refine xJ ?_;simpa only[a,b,true_and] using g
  ·refine qy ?_;simpa only[b,false_and,and_false,if_false] using g
 ·refine qy ?_;simpa only[a,false_and,if_false] using g
theorem ifKind_sort_spec {s:ByteArray} {n:Int} {dv tv kv:Value} {t:M.Tm} {xs:List Int} (m:TermR F w tv t) (o:Ints G w kv xs) (u:xs.length=3)
  (g:∀w',Ext w w'->K (.int .i64 (if xs.getD 0 0=0/\xs.getD 1 0=xs.getD 2 0 then xs.getD 1 0 else-1)) w'):vcall PP xv #[KV s n,dv,tv,kv] w K:=by
 apply Y2;unfold j4;obtain⟨ksv,rfl,j⟩:=m;refine zr fun b1 v h b k q=>?_;refine zr fun p x i c l r=>?_;refine zN fun y d _=>?_;have e:=o.ext ((b.trans c).trans d);have f:=g _ ((b.trans c).trans d);simp(disch:=first|(simp only[push_cast];done)|omega) only[push_cast,e.iaddr,e.load,true_and];refine zd (fun a=>?_) (fun a=>?_)
 ·refine xJ ?_;simpa only[a,true_and] using f
 ·refine qy ?_;simpa only[a,false_and,if_false] using f
theorem Yp {s:ByteArray} {n:Int} {dv tv kv:Value} {t:M.Tm} (q:TermR F w tv t)
  (j:∀w',Ext w w'->K (.int .i64 (if M.vok t.a t.b=true then t.a else-1)) w'):vcall PP xb #[KV s n,dv,tv,kv] w K:=by
 apply ZG;unfold qN;obtain⟨ksv,rfl,m⟩:=q;refine zr fun b1 v k f o u=>?_;refine zr fun r x l g p h=>?_;refine zN fun y c _=>?_;have e:=h.ext c;simp(disch:=first|(simp only[push_cast];done)|omega) only[push_cast,e.ld1,e.ld2,true_and];refine VecOk_spec fun z d=>?_;have i:=e.ext d;simp(disch:=first|(simp only[push_cast];done)|omega) only[push_cast,i.ld1,true_and,and_self];exact jC (j _ (((f.trans g).trans c).trans d))
theorem cutKind_sort_spec {s:ByteArray} {n:Int} {dv tv kv:Value} {t:M.Tm} {xs:List Int} (y:TermR F w tv t) (z:Ints G w kv xs) (C:xs.length=1) (r:∀i,-1<=xs.getD i 0/\xs.getD i 0<=4)
  (m:∀w',Ext w w'->K (.int .i64 (if 0<=t.b/\t.b<=t.a/\t.a<xs.getD 0 0 then t.a-t.b+1 else-1)) w'):vcall PP xd #[KV s n,dv,tv,kv] w K:=by
 apply ZH;unfold qO;obtain⟨ksv,rfl,q⟩:=y;refine zr fun b1 E o e u B=>?_;refine zr fun A H p f v l=>?_;refine zN fun I d _=>?_;have g:=z.ext ((e.trans f).trans d);have j:=l.ext d;have h:=m _ ((e.trans f).trans d);have D:=r 0;simp(disch:=first|(simp only[push_cast];done)|omega) only[push_cast,j.ld1,j.ld2,g.iaddr,g.load,true_and];refine zd (fun a=>?_) (fun a=>?_)
 ·refine zd (fun b=>?_) (fun b=>?_)
  ·by_cases c:t.a<xs.getD 0 0
   ·have k:IntKind.i64.wrap (IntKind.i64.wrap (t.a-t.b)+1)=t.a-t.b+1:=(by rw[yb (x:=t.a-t.b) (by omega) (by omega),yb (by omega) (by omega)]);rw[k];refine xJ ?_;simpa only[a,b,c,true_and] using h
   ·refine xJ ?_;simpa only[c,and_false,if_false] using h
  ·refine qy ?_;simpa only[b,false_and,and_false,if_false] using h
 ·refine qy ?_;simpa only[a,false_and,if_false] using h
theorem Y3 {s:ByteArray} {n:Int} {f dv tv kv:Value} {t:M.Tm} {xs:List Int} (r:TermR F w tv t) (u:Ints G w kv xs)
  (c:∀w',Ext w w'->K (.int .i64 (if xs.any (fun x=>decide (x≠0)) then-1 else 0)) w'):vcall PP x5 #[.agg ⟨[.string s,.int .i64 n,f]⟩,dv,tv,kv] w K:=by
 apply Z2;unfold qf;obtain⟨ksv,rfl,m⟩:=r;refine zr fun b1 A j a o y=>?_;refine zr fun v B k b q z=>?_;have e:=u.ext (a.trans b);refine kH (p:=fun i=>decide (xs.getD i 0≠0)) e (fun i l=>?_) fun C d=>?_
 ·rw[Ji (by simpa using l)];intro w' K he c;simp only[push_cast];apply jX;unfold xG;simp only[push_cast];have:=c _ (Same.refl _ _);simpa using this
 ·have g:=c _ ((a.trans b).trans d);rw[List.length_map,Ve xs 0 (fun x=>decide (x≠0))];simp only[push_cast];refine jC ?_;cases h:xs.any fun x=>decide (x≠0)<;>rw[h] at g<;>exact g
theorem nameKind_sort_spec {s:ByteArray} {n:Int} {dv tv kv:Value} {t:M.Tm} {ds:List M.Dcl} (B:TermR F w tv t) (u:DclsR G w dv ds)
  (h:∀w',Ext w w'->K (.int .i64 (if M.findD ds t.s<0 then-1 else(ds.getD (M.findD ds t.s).toNat K9).2)) w'):vcall PP yZ #[KV s n,dv,tv,kv] w K:=by
 apply Z1;unfold qe;obtain⟨ksv,rfl,x⟩:=B;refine zr fun b1 I o d y E=>?_;refine zr fun C J q e z k=>?_;simp only[push_cast];have b:=u.ext (d.trans e);refine IndexFunc_Decl (p:=fun i=>decide ((ds.getD i K9).1=t.s)) b (fun i H=>?_) fun L f=>?_
 ·intro w' K he h;simp only[push_cast];apply jW;unfold xF;refine zr fun D N r g A l=>?_;have m:=(k.ext he).ext g;simp(disch:=first|(simp only[push_cast];done)|omega) only[push_cast,l.ld0,m.ld3];exact h _ g
 ·have v:=M.findD_lt ds t.s;have j:=h _ ((d.trans e).trans f);have c:=b.ext f;have efd:idxI ds.length (fun i=>decide ((ds.getD i K9).1=t.s))=M.findD ds t.s:=rfl;rw[efd];simp only[push_cast];refine zd (fun a=>?_) (fun a=>?_)
  ·rwa[if_pos a] at j
  ·rw[if_neg a] at j;simp(disch:=first|(simp only[push_cast];done)|omega) only[push_cast,c.iaddr];simp(disch:=first|(simp only[push_cast];done)|omega) only[push_cast,c.load1];exact j
end Go.Proofs.YtaemeijeaajoeaaGreatDoor
end
section
namespace Go.Proofs.YtaemeijeaajoeaaGreatDoor
open Go Go.Vc Go.Proofs
variable {w:World} {K:Value→World→Prop} {F:Nat→Prop}
theorem l1Max_spec {a b:Int} (c:K (.int .i64 (max a b)) w):vcall PP ke #[.int .i64 a,.int .i64 b] w K:=by
 apply Jp;unfold YH;simp only[push_cast];refine zd (fun h=>?_) (fun h=>?_)
 ·rwa[show max a b=a by omega] at c
 ·rwa[show max a b=b by omega] at c
theorem l1Min_spec {a b:Int} (c:K (.int .i64 (min a b)) w):vcall PP qU #[.int .i64 a,.int .i64 b] w K:=by
 apply Jo;unfold YG;simp only[push_cast];refine zd (fun h=>?_) (fun h=>?_)
 ·rwa[show min a b=a by omega] at c
 ·rwa[show min a b=b by omega] at c
theorem pow62 {k:Nat} (h:k<=62):2^k<=4611686018427387904:=Nat.le_trans (Nat.pow_le_pow_right (by omega) h) (by decide)
theorem l1Two_spec {n:Int} (h:n<=62) (l:K (.int .i64 ((2^n.toNat:Nat):Int)) w):vcall PP xU #[.int .i64 n] w K:=by
 apply Jn;unfold YF;refine vloop_up n.toNat (fun i u w'=>u=[.int .i64 (2^i:Nat),.int .i64 i]/\w'=w) ⟨rfl,rfl⟩ ?_;rintro i _ _ p C o ⟨rfl,rfl⟩ e;have m:=pow62 (k:=i) (by omega);have c:((2^i:Nat):Int)*2=((2^(i+1):Nat):Int):=by rw[Nat.pow_succ];omega
 have b:i<n.toNat->2^(i+1)<=4611686018427387904:=fun h=>pow62 (by omega);obtain⟨q,g⟩:∃q,q=2^i:=⟨_,rfl⟩;obtain⟨j,d⟩:∃j,j=2^(i+1):=⟨_,rfl⟩;rw[<-g] at c m⊢;rw[<-d] at c e b;simp only[push_cast];refine zd (fun a=>?_) (fun a=>?_)
 ·have f:=b (by omega);rw[c,yb (by omega) (by omega),inc64' (by omega)];exact e (by omega) _ _ ⟨rfl,rfl⟩
 ·have:i=n.toNat:=(by omega);subst this;rw[g];exact l
theorem l1Two_nat {n:Nat} (h:n<=62) (a:K (.int .i64 ((2^n:Nat):Int)) w):vcall PP xU #[.int .i64 (n:Int)] w K:=
 l1Two_spec (by omega) (by rwa[Int.toNat_natCast])
theorem spec_VecOk_spec {wd n:Int} (j:∀w',Ext w w'->K (.bool (M.vok wd n)) w'):vcall PP qV #[Jy wd n] w K:=by
 apply Jr;unfold YJ;refine zr fun b1 o k f l h=>?_;refine zN fun m c _=>?_;have e:=h.ext c;have i:=f.trans c;simp(disch:=(simp only[push_cast];done)) only[push_cast,e.ld0,e.ld1,true_and];have a:=j m i;refine zd (fun d=>?_) (fun d=>?_)
 ·refine zd (fun a2=>?_) (fun a2=>?_)
  ·refine zd (fun a3=>?_) (fun a3=>?_)
   ·refine l1Two_spec (by omega) ?_;obtain⟨q,g⟩:∃q,q=2^wd.toNat:=⟨_,rfl⟩;have b:M.vok wd n=decide (n<(q:Nat)):=by
     simp only[M.vok,decide_eq_true d,decide_eq_true a2,decide_eq_true a3,Bool.true_and];rw[g,Qr]
    rw[<-g];simp(disch:=(simp only[push_cast];done)) only[push_cast,e.ld1,true_and,and_self];rw[b] at a;exact a
   ·have b:M.vok wd n=false:=(by simp only[M.vok,decide_eq_false a3,Bool.and_false,Bool.false_and]);rw[b] at a;exact a
  ·have b:M.vok wd n=false:=(by simp only[M.vok,decide_eq_false a2,Bool.and_false,Bool.false_and]);rw[b] at a;exact a
 ·have b:M.vok wd n=false:=(by simp only[M.vok,decide_eq_false d,Bool.false_and]);rw[b] at a;exact a
theorem l1Bit_spec {n k:Nat} (d:n<9223372036854775808) (b:k<=62) (a:K (.int .i64 ((n/2^k%2:Nat):Int)) w):vcall PP kf #[.int .i64 (n:Int),.int .i64 (k:Int)] w K:=by
 apply Jq;unfold YI;refine l1Two_nat b ?_;have e:0<2^k:=Nat.pow_pos (by omega);have c:n/2^k<=n:=Nat.div_le_self _ _;rw[JY (by omega),show(n:Int).tdiv ((2^k:Nat):Int)=((n/2^k:Nat):Int) from rfl,wrapN (by omega),JX (by omega),show((n/2^k:Nat):Int).tmod 2=((n/2^k%2:Nat):Int) from rfl];exact a
end Go.Proofs.YtaemeijeaajoeaaGreatDoor
end
section
namespace Go.Proofs.YtaemeijeaajoeaaGreatDoor
open Go Go.Vc Go.Proofs
variable {w:World} {K:Value→World→Prop} {F G:Nat→Prop}
def Jz (f:Value) (g:List (Int×Int)→Bool) (n:Nat):Prop:=∀(w:World) (G:Nat→Prop) (kv:Value) (xs:List (Int×Int)) (K:Value→World→Prop),PairsR G w kv xs→xs.length=n→K (.bool (g xs)) w→vcallv PP f #[kv] w K
theorem KT:Jz (.func (.func ji) #[] #[]) (fun _=>true) 0:=by
 intro w G kv xs K c b a;simp only[push_cast];apply Q7;unfold Zl;exact a
theorem kinds2_fn:Jz (.func (.func jh) #[] #[]) (fun xs=>decide ((xs.getD 0 (0,0)).2=0)) 1:=by
 intro w G kv xs K a c b;simp only[push_cast];apply Q6;unfold Zk
 try simp(disch:=first|(simp only[push_cast];done)|omega) only[push_cast,a.iaddr]
 try simp(disch:=first|(simp only[push_cast];done)|omega) only[push_cast,a.load1]
 exact b
theorem kinds3_fn:Jz (.func (.func jg) #[] #[]) (fun xs=>decide ((xs.getD 0 (0,0)).2=1)&&decide ((xs.getD 1 (0,0)).2=1)) 2:=by
 intro w G kv xs K b d c;simp only[push_cast];apply Q5;unfold Zj
 try simp(disch:=first|(simp only[push_cast];done)|omega) only[push_cast,b.iaddr]
 try simp(disch:=first|(simp only[push_cast];done)|omega) only[push_cast,b.load1]
 refine zd (fun a=>?_) (fun a=>?_)
 ·try simp(disch:=first|(simp only[push_cast];done)|omega) only[push_cast,b.iaddr]
  try simp(disch:=first|(simp only[push_cast];done)|omega) only[push_cast,b.load1]
  simpa only[decide_eq_true a,Bool.true_and] using c
 ·simpa only[decide_eq_false a,Bool.false_and] using c
theorem kinds4_fn:Jz (.func (.func jf) #[] #[]) (fun xs=>decide ((xs.getD 0 (0,0)).2=1)||decide ((xs.getD 1 (0,0)).2=1)) 2:=by
 intro w G kv xs K b d c;simp only[push_cast];apply Q4;unfold Zi
 try simp(disch:=first|(simp only[push_cast];done)|omega) only[push_cast,b.iaddr]
 try simp(disch:=first|(simp only[push_cast];done)|omega) only[push_cast,b.load1]
 refine zd (fun a=>?_) (fun a=>?_)
 ·simpa only[decide_eq_true a,Bool.true_or] using c
 ·try simp(disch:=first|(simp only[push_cast];done)|omega) only[push_cast,b.iaddr]
  try simp(disch:=first|(simp only[push_cast];done)|omega) only[push_cast,b.load1]
  simpa only[decide_eq_false a,Bool.false_or] using c
end Go.Proofs.YtaemeijeaajoeaaGreatDoor
end
section
namespace Go.Proofs.YtaemeijeaajoeaaGreatDoor
open Go Go.Vc Go.Proofs
variable {w:World} {K:Value→World→Prop} {F G:Nat→Prop}
def kTy (o:Int):TypeId:=if o≤2 then zM else if o≤13 then zT else if o=14 then zX else if o≤17 then zA else if o=20 then zV else if o=21 then zS else if o=22 then zW else if o=23 then zZ else zu
structure KindR (o:Int) (v:Value):Prop where
 word:∃(s:ByteArray) (m:Int) (r:List Value),v= .iface (kTy o) (.agg ⟨.string s:: .int .i64 m::r⟩)∧(o<24→r=[])∧(24≤o→∃f,r=[f]∧f.oneCell'=true)∧(o=20∨o=21∨o=24∨s.data.toList=M.wordL o)
 iface:∃ty x,v= .iface ty x
 kids:∀(w:World) (K:Value→World→Prop),(∀w',Ext w w'→K (.int .i64 (M.arity o)) w')→vinvoke PP v mn_kids #[] w K
 sort:∀(w:World) (K:Value→World→Prop) (F G H:Nat→Prop) (dv tv kv:Value) (ds:List M.Dcl) (t:M.Tm) (xs:List Int),t.op=o→DclsR F w dv ds→TermR G w tv t→Ints H w kv xs→(xs.length:Int)=M.arity o→(∀i,-1≤xs.getD i 0∧xs.getD i 0≤4)→
  (∀w',Ext w w'→K (.int .i64 (M.sortK ds t xs)) w')→vinvoke PP v qI #[dv,tv,kv] w K
section
variable {ds:List M.Dcl} {env:List Int} {t:M.Tm} {xs:List Int} {ys:List (Int×Int)}
theorem kind_un {o:Int} {s:ByteArray} (c:o=1\/o=2) (hw:s.data.toList=M.wordL o):KindR o (.iface zM (KV s 1)) where
 word:=⟨_,_,_,by(rw[show kTy o=zM by unfold kTy;rw[if_pos (by omega)]];try rfl),fun _=>rfl,fun h=>by omega,.inr (.inr (.inr hw))⟩
 iface:=⟨_,_,rfl⟩
 kids:=fun w K a=>zw (Zz _ _) (xy fun w' he=>by have:=a w' he;rcases c with rfl|rfl<;>exact this)
 sort:=fun w K F G H dv tv kv ds t xs f i e g d j a=>by
  have b:xs.length=1:=by rcases c with rfl|rfl<;>simp[M.arity] at d<;>omega
  refine zw (Zy _ _) (unKind_sort_spec e g b fun w' he=>?_);have:=a w' he;unfold M.sortK at this;rwa[if_neg (by omega),if_neg (by omega),if_neg (by omega),if_neg (by omega),if_neg (by omega),if_pos (by omega)] at this
theorem kind_bin {o:Int} {s:ByteArray} (i:3<=o) (d:o<=13) (hw:s.data.toList=M.wordL o):KindR o (.iface zT (KV s 2)) where
 word:=⟨_,_,_,by(rw[show kTy o=zT by unfold kTy;rw[if_neg (by omega),if_pos (by omega)]];try rfl),fun _=>rfl,fun h=>by omega,.inr (.inr (.inr hw))⟩
 iface:=⟨_,_,rfl⟩
 kids:=fun w K a=>zw (kZ _ _) (xy fun w' he=>by
  have:=a w' he;unfold M.arity at this;rwa[if_neg (by omega),if_neg (by omega),if_neg (by omega),if_neg (by omega),if_pos (by omega)] at this)
 sort:=fun w K F G H dv tv kv ds t xs f j e g c k a=>by
  have b:xs.length=2:=by
   unfold M.arity at c;rw[if_neg (by omega),if_neg (by omega),if_neg (by omega),if_neg (by omega),if_pos (by omega)] at c;omega
  refine zw (kY _ _) (binKind_sort_spec e g b fun w' he=>?_);have:=a w' he;unfold M.sortK at this;rwa[if_neg (by omega),if_neg (by omega),if_neg (by omega),if_neg (by omega),if_neg (by omega),if_neg (by omega),if_neg (by omega),if_neg (by omega)] at this
theorem kind_cat {s:ByteArray} (hw:s.data.toList=M.wordL 14):KindR 14 (.iface zX (KV s 2)) where
 word:=⟨_,_,_,rfl,fun _=>rfl,fun h=>by omega,.inr (.inr (.inr hw))⟩
 iface:=⟨_,_,rfl⟩
 kids:=fun w K a=>zw (kX _ _) (xy fun w' he=>a w' he)
 sort:=fun w K F G H dv tv kv ds t xs f i e g c d a=>by
  have b:xs.length=2:=by simp[M.arity] at c;omega
  refine zw (kW _ _) (catKind_sort_spec e g b d fun w' he=>?_);have:=a w' he;unfold M.sortK at this;rwa[if_neg (by omega),if_neg (by omega),if_neg (by omega),if_neg (by omega),if_neg (by omega),if_neg (by omega),if_pos (by omega)] at this
theorem kind_cmp {o:Int} {s:ByteArray} (i:15<=o) (d:o<=17) (hw:s.data.toList=M.wordL o):KindR o (.iface zA (KV s 2)) where
 word:=⟨_,_,_,by(rw[show kTy o=zA by unfold kTy;rw[if_neg (by omega),if_neg (by omega),if_neg (by omega),if_pos (by omega)]];try rfl),fun _=>rfl,fun h=>by omega,.inr (.inr (.inr hw))⟩
 iface:=⟨_,_,rfl⟩
 kids:=fun w K a=>zw (kV _ _) (xy fun w' he=>by
  have:=a w' he;unfold M.arity at this;rwa[if_neg (by omega),if_neg (by omega),if_neg (by omega),if_neg (by omega),if_pos (by omega)] at this)
 sort:=fun w K F G H dv tv kv ds t xs f j e g c k a=>by
  have b:xs.length=2:=by
   unfold M.arity at c;rw[if_neg (by omega),if_neg (by omega),if_neg (by omega),if_neg (by omega),if_pos (by omega)] at c;omega
  refine zw (kU _ _) (cmpKind_sort_spec e g b fun w' he=>?_);have:=a w' he;unfold M.sortK at this;rwa[if_neg (by omega),if_neg (by omega),if_neg (by omega),if_neg (by omega),if_neg (by omega),if_neg (by omega),if_neg (by omega),if_pos (by omega)] at this
theorem kind_vec {s:ByteArray}:KindR 20 (.iface zV (KV s 0)) where
 word:=⟨_,_,_,rfl,fun _=>rfl,fun h=>by omega,.inl rfl⟩
 iface:=⟨_,_,rfl⟩
 kids:=fun w K a=>zw (kR _ _) (xy fun w' he=>a w' he)
 sort:=fun w K F G H dv tv kv ds t xs b d c g e f a=>by
  refine zw (kQ _ _) (Yp c fun w' he=>?_);have:=a w' he;unfold M.sortK at this;rwa[if_pos b] at this
theorem kind_name {s:ByteArray}:KindR 21 (.iface zS (KV s 0)) where
 word:=⟨_,_,_,rfl,fun _=>rfl,fun h=>by omega,.inr (.inl rfl)⟩
 iface:=⟨_,_,rfl⟩
 kids:=fun w K a=>zw (kk _ _) (xy fun w' he=>a w' he)
 sort:=fun w K F G H dv tv kv ds t xs b c d g e f a=>by
  refine zw (kj _ _) (nameKind_sort_spec d c fun w' he=>?_);have:=a w' he;unfold M.sortK at this;rwa[if_neg (by omega),if_pos b] at this
theorem kind_cut {s:ByteArray} (hw:s.data.toList=M.wordL 22):KindR 22 (.iface zW (KV s 1)) where
 word:=⟨_,_,_,rfl,fun _=>rfl,fun h=>by omega,.inr (.inr (.inr hw))⟩
 iface:=⟨_,_,rfl⟩
 kids:=fun w K a=>zw (kT _ _) (xy fun w' he=>a w' he)
 sort:=fun w K F G H dv tv kv ds t xs f i e g c d a=>by
  have b:xs.length=1:=by simp[M.arity] at c;omega
  refine zw (kS _ _) (cutKind_sort_spec e g b d fun w' he=>?_);have:=a w' he;unfold M.sortK at this;rwa[if_neg (by omega),if_neg (by omega),if_neg (by omega),if_neg (by omega),if_pos (by omega)] at this
theorem kind_if {s:ByteArray} (hw:s.data.toList=M.wordL 23):KindR 23 (.iface zZ (KV s 3)) where
 word:=⟨_,_,_,rfl,fun _=>rfl,fun h=>by omega,.inr (.inr (.inr hw))⟩
 iface:=⟨_,_,rfl⟩
 kids:=fun w K a=>zw (ZB _ _) (xy fun w' he=>a w' he)
 sort:=fun w K F G H dv tv kv ds t xs e g d f c i a=>by
  have b:xs.length=3:=by simp[M.arity] at c;omega
  refine zw (ZA _ _) (ifKind_sort_spec d f b fun w' he=>?_);have:=a w' he;unfold M.sortK at this;rwa[if_neg (by omega),if_neg (by omega),if_neg (by omega),if_pos (by omega)] at this
theorem kind_bool {o:Int} {s:ByteArray} {f:Value} {g:List (Int×Int)->Bool} {m:Nat} (p:24<=o) (c:M.arity o=m) (k:Jz f g m) (b:f.oneCell'=true) (hw:o=24\/s.data.toList=M.wordL o) (l:∀ds env (t:M.Tm) ys,t.op=o->M.valK ds env t ys=M.b2i (g ys)):
  KindR o (.iface zu (.agg ⟨[.string s,.int .i64 m,f]⟩)) where
 word:=⟨_,_,_,by rw[show kTy o=zu by unfold kTy;rw[if_neg (by omega),if_neg (by omega),if_neg (by omega),if_neg (by omega),if_neg (by omega),if_neg (by omega),if_neg (by omega),if_neg (by omega)]],fun h=>by omega,fun _=>⟨_,rfl,b⟩,.inr (.inr hw)⟩
 iface:=⟨_,_,rfl⟩
 kids:=fun w K a=>zw (kn _ _ _) (xy fun w' he=>by have:=a w' he;rwa[c] at this)
 sort:=fun w K F G H dv tv kv ds t xs e j d i n q a=>by
  refine zw (km _ _ _) (Y3 d i fun w' he=>?_);have:=a w' he;unfold M.sortK at this;rwa[if_neg (by omega),if_neg (by omega),if_pos (by omega)] at this
end
def KindsR (w:World) (mb:Nat):Prop:= ∃f,MapF (.int .i64) w mb f∧(∀o,0≤M.arity o→∃v,(Value.int .i64 o,v)∈f∧KindR o v)∧∀p,p∈f→∃o,p.1= .int .i64 o∧0≤M.arity o
theorem KindsR.ext {mb:Nat} {w':World} (h:KindsR w mb) (he:Ext w w'):KindsR w' mb:=by
 obtain⟨f,a,b⟩:=h;exact⟨f,a.ext he,b⟩
end Go.Proofs.YtaemeijeaajoeaaGreatDoor
end
section
namespace Go.Proofs.YtaemeijeaajoeaaGreatDoor
open Go Go.Vc Go.Proofs
variable {w:World} {K:Value→World→Prop} {F G:Nat→Prop}
theorem kO:WM PP zi (.int .i64) JU:=⟨_,jL,by kernel_rfl⟩
def KS (w0 w:World) (b:Nat) (S:Int→Prop):Prop:=Ext w0 w∧w0.heap.size≤b∧∃f,MapF (.int .i64) w b f∧(∀o,S o→∃v,(Value.int .i64 o,v)∈f∧KindR o v)∧∀p,p∈f→∃o,p.1= .int .i64 o∧S o
theorem KS.set {w0 w:World} {b:Nat} {S:Int->Prop} {o:Int} {v:Value} (h:KS w0 w b S) (r: ¬S o) (s:KindR o v) (n:∀w',KS w0 w' b (fun x=>x=o\/S x)->Same (· =b) w w'->K undef w'):
  jx PP zi (.map (some b)) (.int .i64 o) v w K:=by
 obtain⟨he,k,f,hm,m,j⟩:=h;refine Kz kO hm (Xf o) (fun x i=>?_) fun w' g l _=>n w' ⟨Ext.then he l fun y t=>by subst t;exact k,k,_,g,fun x i=>?_,fun p c=>?_⟩ l
 ·obtain⟨o',a,d⟩:=j _ i;cases a;exact r d
 ·by_cases e:x=o
  ·subst e;exact⟨v,List.mem_append.2 (.inr (List.mem_singleton.2 rfl)),s⟩
  ·obtain⟨u,hu,q⟩:=m x (i.resolve_left e);exact⟨u,List.mem_append.2 (.inl hu),q⟩
 ·rcases List.mem_append.1 c with c|c
  ·obtain⟨o',a,d⟩:=j _ c;exact⟨o',a,.inr d⟩
  ·rw[List.mem_singleton.1 c];exact⟨o,rfl,.inl rfl⟩
theorem KS.ext {w0 w w':World} {b:Nat} {S:Int->Prop} (h:KS w0 w b S) (he:Ext w w'):KS w0 w' b S:=by
 obtain⟨a,c,f,hm,r⟩:=h;exact⟨a.trans he,c,f,hm.ext he,r⟩
theorem KS.congr {w0 w:World} {b:Nat} {S S':Int->Prop} (h:KS w0 w b S) (a:∀x,S x↔S' x):KS w0 w b S':=by
 have:S=S':=funext fun x=>propext (a x);subst this;exact h
theorem KS.kinds {w0 w:World} {b:Nat} {S:Int->Prop} (h:KS w0 w b S) (a:∀o,S o↔0<=M.arity o):KindsR w b:=by
 obtain⟨he,k,f,hm,c,d⟩:=h;refine⟨f,hm,fun o i=>c o ((a o).2 i),fun p j=>?_⟩;obtain⟨o,e,g⟩:=d p j;exact⟨o,e,(a o).1 g⟩
@[push_cast] theorem bd_named (s:ByteArray) (n:Int):zq PP zz [(0,.string s),(1,.int .i64 n)] w K=K (KV s n) w:=yd Jx (us:=[[.string s],[.int .i64 n]]) rfl rfl
@[push_cast] theorem Uc (s:ByteArray) (n:Int):zq PP zM [(0,KV s n)] w K=K (KV s n) w:=yd J3 (us:=[[.string s,.int .i64 n]]) rfl rfl
@[push_cast] theorem WT (s:ByteArray) (n:Int):zq PP zT [(0,KV s n)] w K=K (KV s n) w:=yd Qh (us:=[[.string s,.int .i64 n]]) rfl rfl
@[push_cast] theorem WS (s:ByteArray) (n:Int):zq PP zX [(0,KV s n)] w K=K (KV s n) w:=yd Qg (us:=[[.string s,.int .i64 n]]) rfl rfl
@[push_cast] theorem WR (s:ByteArray) (n:Int):zq PP zA [(0,KV s n)] w K=K (KV s n) w:=yd Qf (us:=[[.string s,.int .i64 n]]) rfl rfl
@[push_cast] theorem WQ (s:ByteArray) (n:Int):zq PP zW [(0,KV s n)] w K=K (KV s n) w:=yd Qe (us:=[[.string s,.int .i64 n]]) rfl rfl
@[push_cast] theorem Ud (s:ByteArray) (n:Int):zq PP zZ [(0,KV s n)] w K=K (KV s n) w:=yd J5 (us:=[[.string s,.int .i64 n]]) rfl rfl
@[push_cast] theorem WP:zq PP zV [] w K=K (KV ⟨#[]⟩ 0) w:=yd Qd (us:=[]) rfl rfl
@[push_cast] theorem WG:zq PP zS [] w K=K (KV ⟨#[]⟩ 0) w:=yd XE (us:=[]) rfl rfl
@[push_cast] theorem WH (s:ByteArray) (n:Int) (f:Fn) (a c:Array Value):zq PP zu [(0,KV s n),(1,.func f a c)] w K=K (.agg ⟨[.string s,.int .i64 n,.func f a c]⟩) w:=yd XF (us:=[[.string s,.int .i64 n],[.func f a c]]) rfl rfl
theorem val24 (ds:List M.Dcl) (env:List Int) (t:M.Tm) (ys:List (Int×Int)) (h:t.op=24):M.valK ds env t ys=M.b2i true:=by simp[M.valK,h,M.b2i]
theorem val25 (ds:List M.Dcl) (env:List Int) (t:M.Tm) (ys:List (Int×Int)) (h:t.op=25):M.valK ds env t ys=M.b2i (decide ((ys.getD 0 (0,0)).2=0)):=by unfold M.valK;simp only[h];rfl
theorem val26 (ds:List M.Dcl) (env:List Int) (t:M.Tm) (ys:List (Int×Int)) (h:t.op=26):M.valK ds env t ys=M.b2i (decide ((ys.getD 0 (0,0)).2=1)&&decide ((ys.getD 1 (0,0)).2=1)):=by unfold M.valK;simp only[h];rfl
theorem val27 (ds:List M.Dcl) (env:List Int) (t:M.Tm) (ys:List (Int×Int)) (h:t.op=27):M.valK ds env t ys=M.b2i (decide ((ys.getD 0 (0,0)).2=1)||decide ((ys.getD 1 (0,0)).2=1)):=by unfold M.valK;simp only[h];rfl
def binWords:List ByteArray:=[⟨#[97,110,100]⟩,⟨#[111,114]⟩,⟨#[120,111,114]⟩,⟨#[97,100,100]⟩,⟨#[115,117,98]⟩,⟨#[109,117,108]⟩,⟨#[100,105,118]⟩,⟨#[114,101,109]⟩,⟨#[115,104,108]⟩,⟨#[115,104,114]⟩,⟨#[115,97,114]⟩]
theorem W0:∀i:Fin 11,(binWords.getD i.1 ⟨#[]⟩).data.toList=M.wordL (3+(i.1:Int)):=by decide
theorem kinds_new (W:∀w' b,Ext w w'->KindsR w' b->w.heap.size<=b->K (.map (some b)) w'):vcall PP xi #[] w K:=by
 apply Jt;unfold YL;refine Vw kO fun b X hb hm he hs=>?_;have J:KS w X b (fun _=>False):=⟨he,by omega,[],hm,fun _ h=>h.elim,fun _ h=>by cases h⟩;simp only[push_cast];refine J.set (by decide) (kind_un (.inl rfl) (by decide)) fun w2 L _=>?_;refine L.set (by decide) (kind_un (.inr rfl) (by decide)) fun w3 N _=>?_;refine N.set (by decide) (kind_cat (by decide)) fun w4 O _=>?_;refine O.set (by decide) (kind_cmp (by decide) (by decide) (by decide)) fun w5 P _=>?_;refine P.set (by decide) (kind_cmp (by decide) (by decide) (by decide)) fun w6 Q _=>?_;refine Q.set (by decide) (kind_cmp (by decide) (by decide) (by decide)) fun w7 R _=>?_;refine R.set (by decide) kind_vec fun w8 S _=>?_;refine S.set (by decide) kind_name fun w9 T _=>?_;refine T.set (by decide) (kind_cut (by decide)) fun Y U _=>?_;refine U.set (by decide) (kind_if (by decide)) fun Z l _=>?_;refine l.set (by decide) (kind_bool (m:=0) (by decide) rfl KT rfl (.inl rfl) val24) fun a0 n _=>?_;refine n.set (by decide) (kind_bool (m:=1) (by decide) rfl kinds2_fn rfl (.inr (by decide)) val25) fun a1 p _=>?_;refine p.set (by decide) (kind_bool (m:=2) (by decide) rfl kinds3_fn rfl (.inr (by decide)) val26) fun a2 q _=>?_;refine q.set (by decide) (kind_bool (m:=2) (by decide) rfl kinds4_fn rfl (.inr (by decide)) val27) fun a3 g _=>?_;refine vbuildS_row1 (xs:=binWords.map .string) k4 (by kernel_rfl) jY (fun x B=>by obtain⟨s,_,rfl⟩:=List.mem_map.1 B;rfl) (by decide) fun bs D F j G t=>?_;have d:Vals (· =bs) D (.slice (some ⟨bs,0,none⟩) (binWords.map Value.string).length (binWords.map Value.string).length) (binWords.map Value.string):=t.sl1 rfl (by decide);have r:=g.ext j;have v:bs≠b:=by
  obtain⟨_,_,f,hm,_⟩:=g;have:=hm.lt;omega
 have hlen:(binWords.map Value.string).length=11:=rfl;simp(disch:=(simp only[push_cast];done)) only[push_cast,d.len];rw[hlen];rw[hlen] at d;refine vloop_up 11 (fun i u w'=>u=[.int .i64 i]/\Vals (· =bs) w' (.slice (some ⟨bs,0,none⟩) 11 11) (binWords.map Value.string)/\KS w w' b fun x=>(3<=x/\x<3+(i:Int))\/x=27\/x=26\/x=25\/x=24\/x=23\/x=22\/x=21\/x=20\/x=17\/x=16\/x=15\/x=14\/x=2\/x=1) ⟨rfl,d,r.congr fun x=>by simp only[or_false];constructor<;>intro h<;>omega⟩ ?_;rintro i _ _ E C hi ⟨rfl,A,k⟩ V;simp only[push_cast];refine zd (fun a=>?_) (fun a=>?_)
 ·have c:i<11:=(by omega);have H:(binWords.map Value.string).getD i undef= .string (binWords.getD i ⟨#[]⟩):=M.getD_map _ (show i<binWords.length from c) _ _;have I:IntKind.i64.wrap (3+(i:Int))=3+(i:Int):=yb (by omega) (by omega);rw[A.iaddr (by kernel_rfl) (by omega) (by rw[hlen];omega),Int.toNat_natCast,A.load (by kernel_rfl) (by rw[hlen];omega),H];simp only[push_cast,I];refine k.set (by omega) (kind_bin (by omega) (by omega) (W0 ⟨i,c⟩)) fun a4 y z=>?_
  try simp only[push_cast]
  rw[inc64' (by omega)];exact V c _ _ ⟨rfl,A.same z fun x B _ e=>v (B.symm.trans e),y.congr fun x=>by constructor<;>intro h<;>omega⟩
 ·have:i=11:=(by omega);subst this;refine W E b k.1 (k.kinds fun o=>?_) k.2.1;constructor
  ·intro h;have:(1<=o/\o<=17)\/(20<=o/\o<=27):=(by omega);unfold M.arity
   repeat' split
   all_goals omega
  ·intro h;have:=M.arity_ops h;omega
theorem Qs (d:∀w' b,Ext w w'->KindsR w' b->K (.map (some b)) w'):vcall PP xi #[] w K:=kinds_new fun w' b a c _=>d w' b a c
end Go.Proofs.YtaemeijeaajoeaaGreatDoor
end
