import Derived.Test.YtaemeijeaajoeaaGreatDoorProg
import Derived.Test.YtaemeijeaajoeaaGreatDoorWrbP1
import Derived.WalkKit
import Derived.ProofKit
import Derived.OpenShut
import Derived.ShutString
import Derived.ChangeOld
import Derived.Below
import Derived.JoinedOf
import Derived.Test.YtaemeijeaajoeaaGreatDoorRows
/- A part of the proof. -/
set_option linter.unusedVariables false
set_option linter.unusedSimpArgs false
set_option linter.unnecessarySimpa false
set_option linter.unusedSectionVars false
section
namespace Go.Proofs.YtaemeijeaajoeaaGreatDoor
open Go Go.Vc Go.Proofs
noncomputable abbrev PP:Program:=Tryz.prog
theorem mixed:PP.follows .mixedOrders=true:=by kernel_rfl
abbrev xB:Nat:=3
abbrev xR:Nat:=5
abbrev qE:Nat:=6
abbrev yy:Nat:=7
abbrev xx:Nat:=8
abbrev yY:Nat:=9
abbrev jd:Nat:=10
abbrev xZ:Nat:=11
abbrev qF:Nat:=12
abbrev xr:Nat:=13
abbrev qG:Nat:=15
abbrev qD:Nat:=16
abbrev qC:Nat:=17
abbrev xw:Nat:=20
abbrev jI:Nat:=21
abbrev xo:Nat:=22
abbrev jH:Nat:=23
abbrev xi:Nat:=24
abbrev qW:Nat:=25
abbrev jc:Nat:=26
abbrev jJ:Nat:=27
abbrev yB:Nat:=28
abbrev x7:Nat:=29
abbrev x8:Nat:=30
abbrev qn:Nat:=33
abbrev xq:Nat:=34
abbrev jG:Nat:=35
abbrev yW:Nat:=36
abbrev qj:Nat:=37
abbrev qH:Nat:=41
abbrev jK:Nat:=42
abbrev qo:Nat:=43
abbrev yV:Nat:=44
abbrev jE:Nat:=45
abbrev Zw:Nat:=46
abbrev xp:Nat:=47
abbrev qU:Nat:=48
abbrev ql:Nat:=49
abbrev ji:Nat:=50
abbrev jh:Nat:=51
abbrev jg:Nat:=52
abbrev jf:Nat:=53
abbrev zF:Nat:=54
abbrev yL:Nat:=55
abbrev jk:Nat:=61
abbrev x6:Nat:=62
abbrev Z4:Nat:=63
abbrev ke:Nat:=64
abbrev jD:Nat:=65
abbrev qk:Nat:=66
abbrev j7:Nat:=67
abbrev qV:Nat:=68
abbrev kc:Nat:=69
abbrev jF:Nat:=70
abbrev j9:Nat:=71
abbrev xQ:Nat:=72
abbrev yX:Nat:=73
abbrev qX:Nat:=74
abbrev Z3:Nat:=75
abbrev zU:Nat:=76
abbrev kh:Nat:=77
abbrev kg:Nat:=78
abbrev ja:Nat:=79
abbrev xc:Nat:=80
abbrev qA:Nat:=81
abbrev Zx:Nat:=82
abbrev yx:Nat:=83
abbrev yq:Nat:=84
abbrev yz:Nat:=85
abbrev xV:Nat:=88
abbrev jj:Nat:=89
abbrev je:Nat:=90
abbrev xt:Nat:=91
abbrev j8:Nat:=95
abbrev xU:Nat:=96
abbrev kf:Nat:=97
abbrev jT:Nat:=100
abbrev zI:Nat:=105
abbrev jl:Nat:=107
abbrev xn:Nat:=108
abbrev qB:Nat:=109
abbrev Z5:Nat:=110
abbrev yK:Nat:=112
abbrev qz:Nat:=115
abbrev yi:Nat:=119
abbrev yQ:Nat:=120
abbrev xh:Nat:=124
abbrev qm:Nat:=125
abbrev xK:Nat:=126
abbrev q7:Nat:=127
abbrev xa:Nat:=132
abbrev yA:Nat:=133
abbrev zO:Nat:=171
abbrev zD:Nat:=172
abbrev xu:Nat:=173
abbrev zB:Nat:=174
abbrev xf:Nat:=175
abbrev xe:Nat:=176
abbrev xb:Nat:=177
abbrev yZ:Nat:=178
abbrev xC:Nat:=179
abbrev xd:Nat:=180
abbrev xv:Nat:=181
abbrev x5:Nat:=182
abbrev yl:Nat:=183
abbrev xD:Nat:=184
abbrev yv:Nat:=185
abbrev xg:Nat:=187
abbrev T_T_:Nat:=0
abbrev ZL:Nat:=2
abbrev zb:Nat:=3
abbrev xj:Nat:=4
abbrev zQ:Nat:=5
abbrev zc:Nat:=9
abbrev yC:Nat:=21
abbrev ye:Nat:=22
abbrev ze:Nat:=24
abbrev za:Nat:=26
abbrev zp:Nat:=29
abbrev zC:Nat:=36
abbrev y8:Nat:=46
abbrev zk:Nat:=49
abbrev zi:Nat:=52
abbrev zt:Nat:=55
abbrev zJ:Nat:=72
abbrev zz:Nat:=83
abbrev zM:Nat:=85
abbrev zX:Nat:=86
abbrev zA:Nat:=87
abbrev zV:Nat:=88
abbrev zS:Nat:=89
abbrev zW:Nat:=90
abbrev zZ:Nat:=91
abbrev xN:Nat:=92
abbrev zu:Nat:=95
abbrev zf:Nat:=97
abbrev zT:Nat:=98
abbrev JU:Nat:=100
abbrev zR:Nat:=102
abbrev yh:Nat:=108
abbrev Kb:Nat:=136
abbrev jt:Nat:=137
abbrev Yx:Nat:=145
abbrev qZ:Nat:=150
abbrev xY:Nat:=167
abbrev yI:Nat:=201
theorem W3:yT PP zb (.int .i64 0):=by unfold yT;kernel_rfl
@[push_cast] theorem VK:oneB PP zb=true:=by kernel_rfl
@[push_cast] theorem ZQ:k6 PP zb 1=true:=by kernel_rfl
theorem K6:Wc PP zb .i64:=by unfold Wc;kernel_rfl
theorem KG:(PP.underlying zb).isSome=true:=by kernel_rfl
theorem Wk:yT PP xj (.bool false):=by unfold yT;kernel_rfl
@[push_cast] theorem W4:k6 PP xj 1=true:=by kernel_rfl
theorem Vs:yT PP zQ (.int .u8 0):=by unfold yT;kernel_rfl
@[push_cast] theorem Wl:k6 PP zQ 1=true:=by kernel_rfl
theorem K5:Wc PP zQ .u8:=by unfold Wc;kernel_rfl
theorem JZ:(PP.underlying zQ).isSome=true:=by kernel_rfl
theorem jY:yT PP zc (.string ⟨#[]⟩):=by unfold yT;kernel_rfl
@[push_cast] theorem K2:oneB PP zc=true:=by kernel_rfl
@[push_cast] theorem kI:k6 PP zc 1=true:=by kernel_rfl
theorem jn:PP.underlying zc=some .string:=by kernel_rfl
theorem VE:(PP.underlying yC).isSome=true:=by kernel_rfl
theorem YA:PP.underlying ye=some (.slice y8):=by kernel_rfl
@[push_cast] theorem W7:isSl PP ye=true:=by kernel_rfl
@[push_cast] theorem Wg:elB PP ye 2=true:=by kernel_rfl
@[push_cast] theorem YC:oneB PP ze=true:=by kernel_rfl
@[push_cast] theorem Yz:k6 PP ze 1=true:=by kernel_rfl
@[push_cast] theorem YD:elZ PP ze 5 64=true:=by kernel_rfl
theorem YB:PP.underlying ze=some (.slice za):=by kernel_rfl
@[push_cast] theorem W8:isSl PP ze=true:=by kernel_rfl
@[push_cast] theorem Wh:elB PP ze 5=true:=by kernel_rfl
theorem zy:yT PP za (.agg #[(.int .i64 0),(.int .i64 0),(.int .i64 0),(.string ⟨#[]⟩),(.slice none 0 0)]):=by unfold yT;kernel_rfl
theorem jN:strF PP za=some ([(0,1),(1,1),(2,1),(3,1),(4,1)],[(.int .i64 0),(.int .i64 0),(.int .i64 0),(.string ⟨#[]⟩),(.slice none 0 0)]):=by kernel_rfl
@[push_cast] theorem zo:aggB PP za 5=true:=by kernel_rfl
@[push_cast] theorem X3:k6 PP za 5=true:=by kernel_rfl
@[push_cast] theorem Jh:elZ PP zp 2 24=true:=by kernel_rfl
theorem QG:JQ PP zp=zk:=by kernel_rfl
@[push_cast] theorem W9:isSl PP zp=true:=by kernel_rfl
@[push_cast] theorem Wi:elB PP zp 2=true:=by kernel_rfl
@[push_cast] theorem VN:elZ PP zC 1 1=true:=by kernel_rfl
theorem kL:PP.underlying zC=some (.slice zQ):=by kernel_rfl
theorem Jk:JQ PP zC=zQ:=by kernel_rfl
@[push_cast] theorem WB:aggB PP y8 2=true:=by kernel_rfl
theorem qS:yT PP zk (.agg #[(.string ⟨#[]⟩),(.int .i64 0)]):=by unfold yT;kernel_rfl
@[push_cast] theorem ZD:aggB PP zk 2=true:=by kernel_rfl
@[push_cast] theorem Je:oneB PP zi=true:=by kernel_rfl
@[push_cast] theorem jU:imapB PP zi=true:=by kernel_rfl
theorem jL:PP.underlying zi=some (.map 3 100):=by kernel_rfl
theorem J4:strF PP zt=some ([(0,1),(1,1)],[(.string ⟨#[]⟩),(.map none)]):=by kernel_rfl
@[push_cast] theorem Jg:elZ PP zJ 1 16=true:=by kernel_rfl
theorem k4:PP.underlying zJ=some (.slice zc):=by kernel_rfl
theorem Km:JQ PP zJ=zc:=by kernel_rfl
@[push_cast] theorem U3:isSl PP zJ=true:=by kernel_rfl
@[push_cast] theorem U9:elB PP zJ 1=true:=by kernel_rfl
theorem Jx:strF PP zz=some ([(0,1),(1,1)],[(.string ⟨#[]⟩),(.int .i64 0)]):=by kernel_rfl
theorem J3:strF PP zM=some ([(0,2)],[(.string ⟨#[]⟩),(.int .i64 0)]):=by kernel_rfl
theorem Qg:strF PP zX=some ([(0,2)],[(.string ⟨#[]⟩),(.int .i64 0)]):=by kernel_rfl
theorem Qf:strF PP zA=some ([(0,2)],[(.string ⟨#[]⟩),(.int .i64 0)]):=by kernel_rfl
theorem Qd:strF PP zV=some ([(0,2)],[(.string ⟨#[]⟩),(.int .i64 0)]):=by kernel_rfl
theorem XE:strF PP zS=some ([(0,2)],[(.string ⟨#[]⟩),(.int .i64 0)]):=by kernel_rfl
theorem Qe:strF PP zW=some ([(0,2)],[(.string ⟨#[]⟩),(.int .i64 0)]):=by kernel_rfl
theorem J5:strF PP zZ=some ([(0,2)],[(.string ⟨#[]⟩),(.int .i64 0)]):=by kernel_rfl
@[push_cast] theorem WD:elB PP xN 2=true:=by kernel_rfl
theorem XF:strF PP zu=some ([(0,2),(2,1)],[(.string ⟨#[]⟩),(.int .i64 0),.nilFunc]):=by kernel_rfl
theorem xH:yT PP zf (.agg #[(.int .i64 0),(.int .i64 0)]):=by unfold yT;kernel_rfl
theorem js:strF PP zf=some ([(0,1),(1,1)],[(.int .i64 0),(.int .i64 0)]):=by kernel_rfl
@[push_cast] theorem xM:aggB PP zf 2=true:=by kernel_rfl
theorem Qh:strF PP zT=some ([(0,2)],[(.string ⟨#[]⟩),(.int .i64 0)]):=by kernel_rfl
theorem ZO:yT PP zR (.agg #[]):=by unfold yT;kernel_rfl
@[push_cast] theorem U7:elZ PP yh 1 8=true:=by kernel_rfl
theorem WY:PP.underlying yh=some (.slice zb):=by kernel_rfl
@[push_cast] theorem s_Lint:isSl PP yh=true:=by kernel_rfl
@[push_cast] theorem e_Lint:elB PP yh 1=true:=by kernel_rfl
theorem JO:Wc PP jt .u64:=by unfold Wc;kernel_rfl
theorem XO:fieldB PP za 0 0=true:=by kernel_rfl
@[push_cast] theorem Vp {w:World} {K:Value->World->Prop} (a:Addr):zg PP za (.pointer (some a)) 0 w K=K (.pointer (some (a.add 0))) w:=yu XO a
theorem XN:fieldB PP za 1 1=true:=by kernel_rfl
@[push_cast] theorem Vo {w:World} {K:Value->World->Prop} (a:Addr):zg PP za (.pointer (some a)) 1 w K=K (.pointer (some (a.add 1))) w:=yu XN a
theorem XM:fieldB PP za 2 2=true:=by kernel_rfl
@[push_cast] theorem Vn {w:World} {K:Value->World->Prop} (a:Addr):zg PP za (.pointer (some a)) 2 w K=K (.pointer (some (a.add 2))) w:=yu XM a
theorem XL:fieldB PP za 3 3=true:=by kernel_rfl
@[push_cast] theorem Vm {w:World} {K:Value->World->Prop} (a:Addr):zg PP za (.pointer (some a)) 3 w K=K (.pointer (some (a.add 3))) w:=yu XL a
theorem XK:fieldB PP za 4 4=true:=by kernel_rfl
@[push_cast] theorem Z6 {w:World} {K:Value->World->Prop} (a:Addr):zg PP za (.pointer (some a)) 4 w K=K (.pointer (some (a.add 4))) w:=yu XK a
theorem XJ:fieldB PP y8 0 0=true:=by kernel_rfl
@[push_cast] theorem Vl {w:World} {K:Value->World->Prop} (a:Addr):zg PP y8 (.pointer (some a)) 0 w K=K (.pointer (some (a.add 0))) w:=yu XJ a
theorem XI:fieldB PP y8 1 1=true:=by kernel_rfl
@[push_cast] theorem Vk {w:World} {K:Value->World->Prop} (a:Addr):zg PP y8 (.pointer (some a)) 1 w K=K (.pointer (some (a.add 1))) w:=yu XI a
theorem XQ:fieldB PP zk 0 0=true:=by kernel_rfl
@[push_cast] theorem Vr {w:World} {K:Value->World->Prop} (a:Addr):zg PP zk (.pointer (some a)) 0 w K=K (.pointer (some (a.add 0))) w:=yu XQ a
theorem XP:fieldB PP zk 1 1=true:=by kernel_rfl
@[push_cast] theorem Vq {w:World} {K:Value->World->Prop} (a:Addr):zg PP zk (.pointer (some a)) 1 w K=K (.pointer (some (a.add 1))) w:=yu XP a
theorem YQ:fieldB PP zt 0 0=true:=by kernel_rfl
@[push_cast] theorem Kw {w:World} {K:Value->World->Prop} (a:Addr):zg PP zt (.pointer (some a)) 0 w K=K (.pointer (some (a.add 0))) w:=yu YQ a
theorem YP:fieldB PP zt 1 1=true:=by kernel_rfl
@[push_cast] theorem Kv {w:World} {K:Value->World->Prop} (a:Addr):zg PP zt (.pointer (some a)) 1 w K=K (.pointer (some (a.add 1))) w:=yu YP a
theorem Xj:fieldB PP zz 0 0=true:=by kernel_rfl
@[push_cast] theorem V3 {w:World} {K:Value->World->Prop} (a:Addr):zg PP zz (.pointer (some a)) 0 w K=K (.pointer (some (a.add 0))) w:=yu Xj a
theorem Xi:fieldB PP zz 1 1=true:=by kernel_rfl
@[push_cast] theorem V2 {w:World} {K:Value->World->Prop} (a:Addr):zg PP zz (.pointer (some a)) 1 w K=K (.pointer (some (a.add 1))) w:=yu Xi a
theorem QF:fieldB PP zf 0 0=true:=by kernel_rfl
@[push_cast] theorem VW {w:World} {K:Value->World->Prop} (a:Addr):zg PP zf (.pointer (some a)) 0 w K=K (.pointer (some (a.add 0))) w:=yu QF a
theorem QE:fieldB PP zf 1 1=true:=by kernel_rfl
@[push_cast] theorem VV {w:World} {K:Value->World->Prop} (a:Addr):zg PP zf (.pointer (some a)) 1 w K=K (.pointer (some (a.add 1))) w:=yu QE a
noncomputable def mn_kids:String:=match PP.info? 85 with|some i=>(match i.methods[0]? with|some m=>m.name|none=>default)|none=>default
noncomputable def qI:String:=match PP.info? 85 with|some i=>(match i.methods[1]? with|some m=>m.name|none=>default)|none=>default
noncomputable def xL:String:=match PP.info? 85 with|some i=>(match i.methods[3]? with|some m=>m.name|none=>default)|none=>default
theorem XR:concB PP zM=true:=by kernel_rfl
@[push_cast] theorem Vi {w:World} {K:Value->World->Prop} (v:Value):Yo PP zM v w K=K (.iface zM v) w:=jy XR v
theorem Zz (a b:Value) (w:World):(method (PP.types.size+Made.depth) zM (.agg ⟨[a,b]⟩) mn_kids).run PP w= .ok (zO,.agg ⟨[a,b]⟩) w:=by kernel_rfl
theorem Zy (a b:Value) (w:World):(method (PP.types.size+Made.depth) zM (.agg ⟨[a,b]⟩) qI).run PP w= .ok (xu,.agg ⟨[a,b]⟩) w:=by kernel_rfl
theorem qJ (a b:Value) (w:World):(method (PP.types.size+Made.depth) zM (.agg ⟨[a,b]⟩) xL).run PP w= .ok (zD,.agg ⟨[a,b]⟩) w:=by kernel_rfl
theorem Xq:concB PP zX=true:=by kernel_rfl
@[push_cast] theorem KN {w:World} {K:Value->World->Prop} (v:Value):Yo PP zX v w K=K (.iface zX v) w:=jy Xq v
theorem kX (a b:Value) (w:World):(method (PP.types.size+Made.depth) zX (.agg ⟨[a,b]⟩) mn_kids).run PP w= .ok (zO,.agg ⟨[a,b]⟩) w:=by kernel_rfl
theorem kW (a b:Value) (w:World):(method (PP.types.size+Made.depth) zX (.agg ⟨[a,b]⟩) qI).run PP w= .ok (xf,.agg ⟨[a,b]⟩) w:=by kernel_rfl
theorem qb (a b:Value) (w:World):(method (PP.types.size+Made.depth) zX (.agg ⟨[a,b]⟩) xL).run PP w= .ok (zD,.agg ⟨[a,b]⟩) w:=by kernel_rfl
theorem Xp:concB PP zA=true:=by kernel_rfl
@[push_cast] theorem KM {w:World} {K:Value->World->Prop} (v:Value):Yo PP zA v w K=K (.iface zA v) w:=jy Xp v
theorem kV (a b:Value) (w:World):(method (PP.types.size+Made.depth) zA (.agg ⟨[a,b]⟩) mn_kids).run PP w= .ok (zO,.agg ⟨[a,b]⟩) w:=by kernel_rfl
theorem kU (a b:Value) (w:World):(method (PP.types.size+Made.depth) zA (.agg ⟨[a,b]⟩) qI).run PP w= .ok (xe,.agg ⟨[a,b]⟩) w:=by kernel_rfl
theorem qa (a b:Value) (w:World):(method (PP.types.size+Made.depth) zA (.agg ⟨[a,b]⟩) xL).run PP w= .ok (zD,.agg ⟨[a,b]⟩) w:=by kernel_rfl
theorem Xn:concB PP zV=true:=by kernel_rfl
@[push_cast] theorem KK {w:World} {K:Value->World->Prop} (v:Value):Yo PP zV v w K=K (.iface zV v) w:=jy Xn v
theorem kR (a b:Value) (w:World):(method (PP.types.size+Made.depth) zV (.agg ⟨[a,b]⟩) mn_kids).run PP w= .ok (zO,.agg ⟨[a,b]⟩) w:=by kernel_rfl
theorem kQ (a b:Value) (w:World):(method (PP.types.size+Made.depth) zV (.agg ⟨[a,b]⟩) qI).run PP w= .ok (xb,.agg ⟨[a,b]⟩) w:=by kernel_rfl
theorem kP (a b:Value) (w:World):(method (PP.types.size+Made.depth) zV (.agg ⟨[a,b]⟩) xL).run PP w= .ok (zD,.agg ⟨[a,b]⟩) w:=by kernel_rfl
theorem YR:concB PP zS=true:=by kernel_rfl
@[push_cast] theorem Kt {w:World} {K:Value->World->Prop} (v:Value):Yo PP zS v w K=K (.iface zS v) w:=jy YR v
theorem kk (a b:Value) (w:World):(method (PP.types.size+Made.depth) zS (.agg ⟨[a,b]⟩) mn_kids).run PP w= .ok (zO,.agg ⟨[a,b]⟩) w:=by kernel_rfl
theorem kj (a b:Value) (w:World):(method (PP.types.size+Made.depth) zS (.agg ⟨[a,b]⟩) qI).run PP w= .ok (yZ,.agg ⟨[a,b]⟩) w:=by kernel_rfl
theorem ki (a b:Value) (w:World):(method (PP.types.size+Made.depth) zS (.agg ⟨[a,b]⟩) xL).run PP w= .ok (zD,.agg ⟨[a,b]⟩) w:=by kernel_rfl
theorem Xo:concB PP zW=true:=by kernel_rfl
@[push_cast] theorem KL {w:World} {K:Value->World->Prop} (v:Value):Yo PP zW v w K=K (.iface zW v) w:=jy Xo v
theorem kT (a b:Value) (w:World):(method (PP.types.size+Made.depth) zW (.agg ⟨[a,b]⟩) mn_kids).run PP w= .ok (zO,.agg ⟨[a,b]⟩) w:=by kernel_rfl
theorem kS (a b:Value) (w:World):(method (PP.types.size+Made.depth) zW (.agg ⟨[a,b]⟩) qI).run PP w= .ok (xd,.agg ⟨[a,b]⟩) w:=by kernel_rfl
theorem q8 (a b:Value) (w:World):(method (PP.types.size+Made.depth) zW (.agg ⟨[a,b]⟩) xL).run PP w= .ok (zD,.agg ⟨[a,b]⟩) w:=by kernel_rfl
theorem XS:concB PP zZ=true:=by kernel_rfl
@[push_cast] theorem Vj {w:World} {K:Value->World->Prop} (v:Value):Yo PP zZ v w K=K (.iface zZ v) w:=jy XS v
theorem ZB (a b:Value) (w:World):(method (PP.types.size+Made.depth) zZ (.agg ⟨[a,b]⟩) mn_kids).run PP w= .ok (zO,.agg ⟨[a,b]⟩) w:=by kernel_rfl
theorem ZA (a b:Value) (w:World):(method (PP.types.size+Made.depth) zZ (.agg ⟨[a,b]⟩) qI).run PP w= .ok (xv,.agg ⟨[a,b]⟩) w:=by kernel_rfl
theorem qK (a b:Value) (w:World):(method (PP.types.size+Made.depth) zZ (.agg ⟨[a,b]⟩) xL).run PP w= .ok (zD,.agg ⟨[a,b]⟩) w:=by kernel_rfl
theorem YS:concB PP zu=true:=by kernel_rfl
@[push_cast] theorem Ku {w:World} {K:Value->World->Prop} (v:Value):Yo PP zu v w K=K (.iface zu v) w:=jy YS v
theorem kn (a b c:Value) (w:World):(method (PP.types.size+Made.depth) zu (.agg ⟨[a,b,c]⟩) mn_kids).run PP w= .ok (zO,.agg ⟨[a,b]⟩) w:=by kernel_rfl
theorem km (a b c:Value) (w:World):(method (PP.types.size+Made.depth) zu (.agg ⟨[a,b,c]⟩) qI).run PP w= .ok (x5,.agg ⟨[a,b,c]⟩) w:=by kernel_rfl
theorem xW (a b c:Value) (w:World):(method (PP.types.size+Made.depth) zu (.agg ⟨[a,b,c]⟩) xL).run PP w= .ok (zD,.agg ⟨[a,b]⟩) w:=by kernel_rfl
theorem Xr:concB PP zT=true:=by kernel_rfl
@[push_cast] theorem KO {w:World} {K:Value->World->Prop} (v:Value):Yo PP zT v w K=K (.iface zT v) w:=jy Xr v
theorem kZ (a b:Value) (w:World):(method (PP.types.size+Made.depth) zT (.agg ⟨[a,b]⟩) mn_kids).run PP w= .ok (zO,.agg ⟨[a,b]⟩) w:=by kernel_rfl
theorem kY (a b:Value) (w:World):(method (PP.types.size+Made.depth) zT (.agg ⟨[a,b]⟩) qI).run PP w= .ok (xg,.agg ⟨[a,b]⟩) w:=by kernel_rfl
theorem qc (a b:Value) (w:World):(method (PP.types.size+Made.depth) zT (.agg ⟨[a,b]⟩) xL).run PP w= .ok (zD,.agg ⟨[a,b]⟩) w:=by kernel_rfl
end Go.Proofs.YtaemeijeaajoeaaGreatDoor
end
section
namespace Go.Proofs.YtaemeijeaajoeaaGreatDoor
open Go Go.Vc Go.Proofs
open Go.ChangeShapes Go.WideShapes Go.ChangeAt Go.RowKit
theorem Wt:ownKnob PP.godebug=none:=by kernel_rfl
theorem Zt:laidOutB PP=true:=by kernel_rfl
def restFacts (P:Program) (f:FuncId) (fn:Func) (s:ChangeSpec) (c:OpenClaim):Bool:=
 c.wf (OpenSpec.ofChange s)&&
 fn.params.all (P.readableRec ·)&&namedTie P c.named s.vars&&
 (c.stops==[])&&(P.stops==[])&&(c.knobs==[])&&(P.stopKnobs==[])&&
 (c.maps==(fn.params.toList++s.plain.varTypes P).any (P.mapsRec ·))&&(c.ifaces==(fn.params.toList++s.plain.varTypes P).any (P.ifacesRec ·))&&(c.mapsOut==P.mapsAmong fn.resultTypes.toList)&&
 (c.loops==(fn.params.toList++s.plain.varTypes P).any (P.loopsFrom ·))&&(c.wideKeys==(fn.params.toList++s.plain.varTypes P++fn.resultTypes.toList).any (P.wideKeysFrom ·))&&
 s.vars.all (P.varReadable ·)&&fn.resultTypes.all (fun t=>P.readableRec t&&decide (t<P.types.size))&&(c.ifacesOut==fn.resultTypes.toList.any (P.ifacesRec ·))&&(c.loopsOut==fn.resultTypes.toList.any (P.loopsFrom ·))&&(c.plainKeys==P.plainKeys)&&c.shortTexts.isNone&&P.stopsHeard&&P.mayEnter&&(c.lifted==P.liftsFinal)&&(P.make==some c.make)&&(c.kinds==(if c.domain.isEmpty then[] else fn.params.toList.map fun t=>match P.underlying t with|some (.int k)=>some k|_=>none))&&(c.pinned==c.pinnedBy)&&
 (c.veiled==(fn.params.toList++s.plain.varTypes P++fn.resultTypes.toList).any (P.veiledRec ·))&&c.veiledFits P fn.params.toList (fn.params.toList++s.plain.varTypes P++fn.resultTypes.toList)
theorem KU {P:Program} {f:FuncId} {fn:Func} {s:ChangeSpec} {c:OpenClaim} (b:laidOutB P=true) (d:mapsRowed P=true) (e:(c.inPlace==P.inPlace f)=true) (g:(c.unfollowed==P.unfollowed f)=true)
  (h:(c.recurses==P.recurses f)=true) (i:(c.named==P.varsNamed f)=true) (a:restFacts P f fn s c=true):joinedFacts P f fn s c=true:=by
 unfold restFacts at a;unfold joinedFacts;rw[b,d,e,g,h,i];simp only[Bool.and_true];exact a
theorem VH:mapsRowed PP=true:=by kernel_rfl
theorem V4 {w w':World} (h:Ext w w'):Below w.heap.size w w':=⟨h.os,h.tape,h.output,h.size,fun k a=>h.block k a id⟩
end Go.Proofs.YtaemeijeaajoeaaGreatDoor
end
section
namespace Go.Proofs.YtaemeijeaajoeaaGreatDoor.fnExactTermRead
open Go Go.Vc Go.Proofs
open Go.ChangeShapes Go.WideShapes Go.ChangeAt Go.RowKit
theorem f_inPlace:(Rows.fnExactTermReadRow.inPlace==Tryz.prog.inPlace 3)=true:=by kernel_rfl
theorem f_unfollowed:(Rows.fnExactTermReadRow.unfollowed==Tryz.prog.unfollowed 3)=true:=by kernel_rfl
theorem f_recurses:(Rows.fnExactTermReadRow.recurses==Tryz.prog.recurses 3)=true:=by kernel_rfl
theorem f_named:(Rows.fnExactTermReadRow.named==Tryz.prog.varsNamed 3)=true:=by kernel_rfl
theorem f_rest:restFacts Tryz.prog 3 Tryz.f3 Rows.fnExactTermReadSpec Rows.fnExactTermReadRow=true:=by kernel_rfl
end Go.Proofs.YtaemeijeaajoeaaGreatDoor.fnExactTermRead
end
section
namespace Go.M
open Go.Vc
def oneM (t:Tm) (a:Int):Int:=
 if t.op=25 then(if a=0 then 0 else-1) else if a<1 then-1
 else if t.op=22 then(if 0≤t.b∧t.b≤t.a∧t.a<a then t.a-t.b+1 else-1) else a
def bothM (o a b:Int):Int:=
 if o=26∨o=27 then(if a=0∧b=0 then 0 else-1)
 else if a<1∨b<1 then-1
 else if o=14 then(if a+b≤4 then a+b else-1)
 else if a≠b then-1 else if 15≤o then 0 else a
section
variable {ds:List Dcl} {env:List Int} {t:Tm}
def kid (t:Tm) (i:Nat):Tm:=t.ks.getD i default
theorem formed_iff:formed t=true↔arity t.op=t.ks.length/\plainM t=true:=by simp[formed]
theorem arity_one {o:Int} (h:arity o=1):o=1\/o=2\/o=22\/o=25:=by
 grind [arity]
theorem arity_two {o:Int} (h:arity o=2):(3<=o/\o<=17)\/o=26\/o=27:=by
 grind [arity]
theorem arity_three {o:Int} (h:arity o=3):o=23:=by
 grind [arity]
theorem ks1 (h:t.ks.length=1):t.ks=[kid t 0]:=by
 unfold kid;generalize t.ks=ks at h⊢
 match ks,h with
 |[x],_=>rfl
theorem ks2 (h:t.ks.length=2):t.ks=[kid t 0,kid t 1]:=by
 unfold kid;generalize t.ks=ks at h⊢
 match ks,h with
 |[x,y],_=>rfl
theorem ks3 (h:t.ks.length=3):t.ks=[kid t 0,kid t 1,kid t 2]:=by
 unfold kid;generalize t.ks=ks at h⊢
 match ks,h with
 |[x,y,z],_=>rfl
theorem kid_mem {i:Nat} (h:i<t.ks.length):kid t i∈t.ks:=getD_mem h _
theorem sort_bad (h: ¬formed t=true):sortM ds t= -1:=by
 rw[sortM_eq];simp_all[sortF]
theorem sort_leaf (a:formed t=true) (h:t.ks.length=0):sortM ds t=sortK ds t []:=by
 simp_all[sortM_eq,sortF]
theorem sort_one (i:declOk ds=true) (f:formed t=true) (h:t.ks.length=1):sortM ds t=oneM t (sortM ds (kid t 0)):=by
 have k:=arity_one (o:=t.op) (by have:=(formed_iff.1 f).1;omega);have j:=sort_range i (kid t 0);rw[sortM_eq,ks1 h];unfold sortF;simp only[List.map_cons,List.map_nil,List.mem_singleton];generalize sortM ds (kid t 0)=s at j⊢;unfold oneM;by_cases g:s= -1
 ·subst g;rw[if_neg (by simp)];split
  ·split<;>omega
  ·rfl
 ·rw[if_pos ⟨f,fun e=>g e.symm⟩];unfold sortK;rw[if_neg (by omega),if_neg (by omega)];by_cases c:t.op=25
  ·rw[if_pos (by omega),if_pos c];by_cases d:s=0
   ·simp[d]
   ·simp[d]
  rw[if_neg (by omega),if_neg c,if_neg (by omega)];simp only[List.getD_cons_zero];by_cases a:t.op=22
  ·rw[if_pos a,if_pos a];by_cases b:s<1
   ·rw[if_pos b,if_neg (by omega)]
   ·rw[if_neg b]
  ·rw[if_neg a,if_neg a,if_pos (by omega)];by_cases b:s<1
   ·rw[if_pos b,if_neg (by omega)]
   ·rw[if_neg b,if_pos (by omega)]
theorem sort_two (d:declOk ds=true) (e:formed t=true) (h:t.ks.length=2):sortM ds t=bothM t.op (sortM ds (kid t 0)) (sortM ds (kid t 1)):=by
 have i:=arity_two (o:=t.op) (by have:=(formed_iff.1 e).1;omega);have f:=sort_range d (kid t 0);have c:=sort_range d (kid t 1);rw[sortM_eq,ks2 h];unfold sortF;simp only[List.map_cons,List.map_nil,List.mem_cons,List.not_mem_nil,or_false];generalize sortM ds (kid t 0)=a at f⊢;generalize sortM ds (kid t 1)=b at c⊢;unfold bothM;by_cases g: -1=a\/ -1=b
 ·omega
 ·rw[if_pos ⟨e,g⟩];unfold sortK
  grind
theorem sort_three (e:formed t=true) (h:t.ks.length=3):sortM ds t=if sortM ds (kid t 0)≠0\/sortM ds (kid t 1)≠sortM ds (kid t 2) then-1 else sortM ds (kid t 1):=by
 have g:=arity_three (o:=t.op) (by have:=(formed_iff.1 e).1;omega);rw[sortM_eq,ks3 h];unfold sortF;simp only[List.map_cons,List.map_nil,List.mem_cons,List.not_mem_nil,or_false];generalize sortM ds (kid t 0)=a;generalize sortM ds (kid t 1)=b;generalize sortM ds (kid t 2)=c;by_cases f: -1=a\/ -1=b\/ -1=c
 ·rw[if_neg (fun x=>x.2 f)];split
  ·rfl
  ·omega
 ·rw[if_pos ⟨e,f⟩];unfold sortK;rw[if_neg (by omega),if_neg (by omega),if_neg (by omega),if_pos g];simp only[List.getD_cons_zero,List.getD_cons_succ];by_cases d:a=0/\b=c
  ·rw[if_pos d,if_neg (by omega)]
  ·rw[if_neg d,if_pos (by omega)]
theorem name_found (h:sortM ds t≠ -1) (a:t.op=21):0<=findD ds t.s:=by
 obtain⟨_,_,b⟩:=sort_parts h
 grind [sortK]
end
def wordL (o:Int):List UInt8:=
 if o=1 then[110,111,116] else if o=2 then[110,101,103] else if o=3 then[97,110,100] else if o=4 then[111,114] else if o=5 then[120,111,114]
 else if o=6 then[97,100,100] else if o=7 then[115,117,98] else if o=8 then[109,117,108] else if o=9 then[100,105,118] else if o=10 then[114,101,109]
 else if o=11 then[115,104,108] else if o=12 then[115,104,114] else if o=13 then[115,97,114] else if o=14 then[99,97,116] else if o=15 then[115,97,109,101]
 else if o=16 then[108,101,115,115] else if o=17 then[117,110,100,101,114] else if o=22 then[99,117,116] else if o=23 then[105,102] else if o=25 then[110,111]
 else if o=26 then[98,111,116,104] else if o=27 then[97,110,121] else[]
end Go.M
end
section
namespace Go.M
def vecL (w n:Nat):List UInt8:=35::(List.range w).reverse.map fun i=>if n/2^i%2=1 then 49 else 48
def digL (n:Int):List UInt8:=[UInt8.ofNat (48+n.toNat)]
def textF (t:Tm) (xs:List (List UInt8)):List UInt8:=
 if t.op=20 then vecL t.a.toNat t.b.toNat else if t.op=21 then t.s.data.toList else if t.op=24 then[116,114,117,101]
 else 40::(wordL t.op++((if t.op=22 then 32::(digL t.a++32::digL t.b) else[])++(xs.flatMap (fun x=>32::x)++[41])))
def textL:Tm→List UInt8:=Tm.fold textF
theorem textL_eq (t:Tm):textL t=textF t (t.ks.map textL):=Tm.fold_eq _ t
def Stop (r:List UInt8):Prop:=∀c,r.head?=some c→c=32∨c=41
def Free (a:List UInt8):Prop:=∀c,c∈a→c≠32∧c≠41
theorem atom_cancel:∀{a b r s:List UInt8},Free a->Free b->Stop r->Stop s->a++r=b++s->a=b/\r=s
 |[],[],r,s,_,_,_,_,h=>⟨rfl,h⟩
 |[],y::b,r,s,_,g,j,_,h=>by
  have d:r=y::(b++s):=h;have l:=g y List.mem_cons_self;rcases j y (by grind) with e|e
  ·grind
  grind
 |x::a,[],r,s,f,_,_,k,h=>by
  have d:s=x::(a++r):=h.symm;have l:=f x List.mem_cons_self;rcases k x (by grind) with e|e
  ·grind
  grind
 |x::a,y::b,r,s,f,g,j,k,h=>by
  have d:x::(a++r)=y::(b++s):=h;simp only[List.cons.injEq] at d;obtain⟨rfl,d⟩:=d;obtain⟨rfl,e⟩:=atom_cancel (fun c i=>f c (List.mem_cons_of_mem _ i)) (fun c i=>g c (List.mem_cons_of_mem _ i)) j k d
  grind
theorem stop_cons {c:UInt8} {r:List UInt8} (h:c=32\/c=41):Stop (c::r):=fun d a=>by
 grind
theorem word_free:∀o:Fin 28,Free (wordL o):=by unfold Free;decide+kernel
theorem word_inj:∀o p:Fin 28,wordL o=wordL p->wordL o≠[]->o=p:=by decide+kernel
theorem word_ne:∀o:Fin 28,1<=o.1->(o.1<=17\/o.1=22\/o.1=23\/25<=o.1)->wordL o≠[]:=by decide+kernel
theorem vec_inj:∀w:Fin 5,∀a:Fin 16,∀v:Fin 5,∀b:Fin 16,a.1<2^w.1->b.1<2^v.1->vecL w a=vecL v b->w=v/\a=b:=by decide+kernel
theorem vec_free (w n:Nat):Free (vecL w n):=fun c a=>by
 grind [vecL]
theorem dig_inj:∀a b:Fin 4,digL a=digL b->a=b:=by decide+kernel
theorem dig_free:∀a:Fin 4,Free (digL a):=by unfold Free;decide+kernel
section
variable {ds:List Dcl} {t u:Tm}
theorem name_ok (d:declOk ds=true) (j:sortM ds t≠ -1) (i:t.op=21):t.s.data.toList≠[]/\t.s≠tru/\∀c,c∈t.s.data.toList->97<=c.toNat/\c.toNat<=122:=by
 have f:=name_found j i;have h:(findD ds t.s).toNat<ds.length:=by have:=(findD_lt ds t.s).2;omega
 have g:=findD_get f;have a:=(decl_iff.1 d).2.1 _ h;unfold dclOk at a;rw[g] at a;simp only[Bool.and_eq_true,decide_eq_true_eq,nameOk] at a;obtain⟨⟨⟨⟨⟨⟨k,l⟩,b⟩,m⟩,_⟩,_⟩,_⟩:=a;refine⟨fun e=>?_,b,fun c n=>?_⟩
 ·have:t.s.size=0:=by show t.s.data.size=0;simp_all
  omega
 grind [Array.all_eq_true']
theorem right_op (a:sortM ds t≠ -1):arity t.op=t.ks.length/\plainM t=true/\((1<=t.op/\t.op<=17)\/(20<=t.op/\t.op<=27)):=by
 obtain⟨b,_,_⟩:=sort_parts a;simp_all[formed_iff,arity_ops]
theorem leaf_arity {o:Int} (h:o=20\/o=21\/o=24):arity o=0:=by unfold arity;omega
theorem node_arity {o:Int} (h:(1<=o/\o<=17)\/(20<=o/\o<=27)) (a: ¬(o=20\/o=21\/o=24)):1<=arity o:=by
 grind [arity]
theorem vec_ok (c:sortM ds t≠ -1) (d:t.op=20):vok t.a t.b=true:=by
 have h:=(sort_parts c).2.2
 grind [sortK]
theorem cut_ab (d:declOk ds=true) (c:sortM ds t≠ -1) (f:t.op=22):0<=t.b/\t.b<=t.a/\t.a<4:=by
 have h:=(sort_parts c).2.2;have g:(t.ks.map (sortM ds)).getD 0 0<=4:=by
  by_cases e:0<t.ks.length
  ·simp_all[sort_range]
  grind
 grind [sortK]
theorem atom_text (f:declOk ds=true) (i:sortM ds t≠ -1) (h:t.op=20\/t.op=21\/t.op=24):textL t=textF t []/\Free (textL t)/\textL t≠[]/\∀c,(textL t).head?=some c->c≠40:=by
 have g:t.ks=[]:=by grind [List.eq_nil_of_length_eq_zero,right_op,leaf_arity]
 have e:textL t=textF t []:=by rw[textL_eq,g];rfl
 refine⟨e,?_⟩;rw[e];unfold textF;rcases h with o|o|o
 ·rw[if_pos o]
  grind [vec_free,vecL]
 ·rw[if_neg (by omega),if_pos o];obtain⟨d,j,b⟩:=name_ok f i o;refine⟨fun c a=>?_,d,fun c a=>?_⟩
  ·have:=b c a;exact⟨fun e=>by simp_all,fun e=>by simp_all⟩
  ·have:=b c (List.mem_of_mem_head? a);intro e;simp_all
 grind [Free]
theorem tm_extT {t u:Tm} (c:t.op=u.op) (d:t.a=u.a) (e:t.b=u.b) (f:t.s=u.s) (g:t.ks=u.ks):t=u:=by
 cases t;cases u
 grind [Tm.op,Tm.a,Tm.b,Tm.s,Tm.ks]
theorem plain_ab (h:plainM t=true) (c:t.op≠20/\t.op≠22):t.a=0/\t.b=0:=by
 grind [plainM]
theorem plain_s (h:plainM t=true) (a:t.op≠21):t.s=nada:=by
 grind [plainM]
theorem atom_inj (i:declOk ds=true) (f:sortM ds t≠ -1) (hu:sortM ds u≠ -1) (m:t.op=20\/t.op=21\/t.op=24) (n:u.op=20\/u.op=21\/u.op=24) (h:textL t=textL u):t=u:=by
 have z:t.ks=[]:=by grind [List.eq_nil_of_length_eq_zero,right_op,leaf_arity]
 have q:u.ks=[]:=by grind [List.eq_nil_of_length_eq_zero,right_op,leaf_arity]
 have k:=(right_op f).2.1;have d:=(right_op hu).2.1;rw[(atom_text i f m).1,(atom_text i hu n).1] at h;unfold textF at h;have letter:∀{v:Tm},sortM ds v≠ -1->v.op=21->∀c r,v.s.data.toList=c::r->97<=c.toNat:=by grind [name_ok,List.mem_cons_self]
 have notrue:∀{v:Tm},sortM ds v≠ -1->v.op=21->v.s.data.toList=[116,114,117,101]->False:=fun{v} w j e=>(name_ok i w j).2.1 (by
  have:v.s.data= #[116,114,117,101]:=(by grind);show v.s=tru;have g:v.s=⟨v.s.data⟩:=rfl;rw[g,this];rfl)
 rcases m with o|o|o<;>rcases n with p|p|p
 ·rw[if_pos o,if_pos p] at h;have v1:=vok_lt (vec_ok f o);have v2:=vok_lt (vec_ok hu p);have A:=vok_iff.1 (vec_ok f o);have B:=vok_iff.1 (vec_ok hu p);have l:((2^t.a.toNat:Nat):Int)=2^t.a.toNat:=(by simp);have g:((2^u.a.toNat:Nat):Int)=2^u.a.toNat:=(by simp);have:=vec_inj ⟨t.a.toNat,by omega⟩ ⟨t.b.toNat,by omega⟩ ⟨u.a.toNat,by omega⟩ ⟨u.b.toNat,by omega⟩ (by grind) (by grind) h
  grind [tm_extT,plain_s]
 ·rw[if_pos o,if_neg (by omega),if_pos p] at h;exact absurd (letter hu p 35 _ h.symm) (by decide)
 ·grind [vecL]
 ·rw[if_neg (by omega),if_pos o,if_pos p] at h;exact absurd (letter f o 35 _ h) (by decide)
 ·rw[if_neg (by omega),if_pos o,if_neg (by omega),if_pos p] at h;obtain⟨x,b1⟩:=plain_ab k (by omega);obtain⟨a2,y⟩:=plain_ab d (by omega);refine tm_extT (by omega) (by omega) (by omega) ?_ (by grind);have:=Array.toList_inj.1 h;have l:t.s=⟨t.s.data⟩:=rfl;have g:u.s=⟨u.s.data⟩:=rfl;rw[l,g,this]
 ·grind
 ·grind [vecL]
 ·grind
 grind [plain_ab,tm_extT,plain_s]
theorem kids_inj:∀{ks us:List Tm} {r s:List UInt8},ks.length=us.length->(∀k,k∈ks->∀u,u∈us->∀r s,Stop r->Stop s->textL k++r=textL u++s->k=u/\r=s)->
  (ks.map textL).flatMap (fun x=>32::x)++41::r=(us.map textL).flatMap (fun x=>32::x)++41::s->ks=us/\r=s
 |[],[],r,s,_,_,h=>by
  grind
 |[],_::_,_,_,b,_,_=>by simp at b
 |_::_,[],_,_,b,_,_=>by simp at b
 |k::ks,u::us,r,s,b,c,h=>by
  simp only[List.map_cons,List.flatMap_cons,List.cons_append,List.append_assoc,List.cons.injEq,true_and] at h;have st:∀(l:List Tm) (r:List UInt8),Stop ((l.map textL).flatMap (fun x=>32::x)++41::r):=fun l r=>by
   cases l with
   |nil=>exact stop_cons (.inr rfl)
   |cons a l=>exact stop_cons (.inl rfl)
  obtain⟨he,h⟩:=c k List.mem_cons_self u List.mem_cons_self _ _ (st _ _) (st _ _) h;obtain⟨rfl,e⟩:=kids_inj (by grind) (fun k d u hu=>c k (List.mem_cons_of_mem _ d) u (List.mem_cons_of_mem _ hu)) h
  grind
theorem text_inj' (i:declOk ds=true):∀t:Tm,sortM ds t≠ -1->∀u:Tm,sortM ds u≠ -1->∀r s,Stop r->Stop s->textL t++r=textL u++s->t=u/\r=s:=by
 refine Tm.ind fun t K j u hu r s W J h=>?_;obtain⟨ar,pl,op⟩:=right_op j;obtain⟨C,Q,w⟩:=right_op hu;have comp:∀{v:Tm},¬(v.op=20\/v.op=21\/v.op=24)->textL v=40::(wordL v.op++((if v.op=22 then 32::(digL v.a++32::digL v.b) else[])++((v.ks.map textL).flatMap (fun x=>32::x)++[41]))):=fun{v} A=>by
  rw[textL_eq];grind [textF]
 by_cases lt:t.op=20\/t.op=21\/t.op=24
 ·obtain⟨_,f1,f2,f3⟩:=atom_text i j lt;by_cases lu:u.op=20\/u.op=21\/u.op=24
  ·grind [atom_text,atom_cancel,atom_inj]
  ·exfalso;rw[comp lu] at h
   match I:textL t,f2 with
   |c::q,_=>
    grind
 ·by_cases lu:u.op=20\/u.op=21\/u.op=24
  ·exfalso;obtain⟨_,g1,g2,g3⟩:=atom_text i hu lu;rw[comp lt] at h
   match I:textL u,g2 with
   |c::q,_=>
    grind
  ·rw[comp lt,comp lu] at h;simp only[List.cons_append,List.append_assoc,List.cons.injEq,true_and,List.nil_append] at h;have na:=node_arity op lt;have N:=node_arity w lu;have kst:∀{l:List Tm} {q:List UInt8},1<=l.length->∃B,(l.map textL).flatMap (fun x=>32::x)++41::q=32::B:=fun{l q} o=>by
    cases l with
    |nil=>simp at o
    |cons a l=>grind
   have st:∀{v:Tm} {q:List UInt8},1<=v.ks.length->Stop ((if v.op=22 then 32::(digL v.a++32::digL v.b) else[])++((v.ks.map textL).flatMap (fun x=>32::x)++41::q)):=fun{v q} o=>by
    split
    ·exact stop_cons (.inl rfl)
    ·obtain⟨B,e⟩:=kst (q:=q) o
     grind [stop_cons]
   have O:(((⟨t.op.toNat,by omega⟩:Fin 28):Nat):Int)=t.op:=(by grind);have P:(((⟨u.op.toNat,by omega⟩:Fin 28):Nat):Int)=u.op:=(by grind);have f:=word_free ⟨t.op.toNat,by omega⟩;have g:=word_free ⟨u.op.toNat,by omega⟩;rw[O] at f;rw[P] at g;obtain⟨hw,h⟩:=atom_cancel f g (st (v:=t) (by omega)) (st (v:=u) (by omega)) h;have p:=word_ne ⟨t.op.toNat,by omega⟩ (by omega) (by omega);have H:=word_inj ⟨t.op.toNat,by omega⟩ ⟨u.op.toNat,by omega⟩ (by grind) p;have z:t.op=u.op:=by
    omega
   have m:t.a=u.a/\t.b=u.b/\(t.ks.map textL).flatMap (fun x=>32::x)++41::r=(u.ks.map textL).flatMap (fun x=>32::x)++41::s:=by
    by_cases d:t.op=22
    ·rw[if_pos d,if_pos (by omega)] at h;simp only[List.cons_append,List.append_assoc,List.cons.injEq,true_and] at h;have R:=cut_ab i j d;have c2:=cut_ab i hu (by omega);have da:∀{x:Int},0<=x->x<4->Free (digL x):=fun{x} D F=>by
      have:=dig_free ⟨x.toNat,by omega⟩
      grind
     have di:∀{x y:Int},0<=x->x<4->0<=y->y<4->digL x=digL y->x=y:=fun{x y} D F E G he=>by
      have:=dig_inj ⟨x.toNat,by omega⟩ ⟨y.toNat,by omega⟩ (by
       grind)
      grind
     obtain⟨S,h⟩:=atom_cancel (da (by omega) (by omega)) (da (by omega) (by omega)) (stop_cons (.inl rfl)) (stop_cons (.inl rfl)) h;simp only[List.cons.injEq,true_and] at h;obtain⟨X,L⟩:=kst (l:=t.ks) (q:=r) (by omega);obtain⟨Y,M⟩:=kst (l:=u.ks) (q:=s) (by omega);obtain⟨T,h⟩:=atom_cancel (da (by omega) (by omega)) (da (by omega) (by omega)) (by rw[L];exact stop_cons (.inl rfl)) (by rw[M];exact stop_cons (.inl rfl)) h
     grind
    grind [plain_ab]
   obtain⟨U,V,h⟩:=m;obtain⟨n,e⟩:=kids_inj (by
    grind) (fun k n v A=>K k n ((sort_parts j).2.1 k n) v ((sort_parts hu).2.1 v A)) h
   grind [tm_extT,plain_s]
theorem text_inj (b:declOk ds=true) (d:sortM ds t≠ -1) (hu:sortM ds u≠ -1) (h:textL t=textL u):t=u:=
 (text_inj' b t d u hu [] [] (fun c a=>by cases a) (fun c a=>by cases a) (by grind)).1
end
end Go.M
end
section
namespace Go.M
def okc (c:UInt8):Bool:=c != 32&&c != 40&&c != 41
def wd (l:List UInt8):List UInt8:=l.takeWhile okc
def rs (l:List UInt8):List UInt8:=l.dropWhile okc
def AllOk (a:List UInt8):Prop:=∀c,c∈a→okc c=true
theorem wd_rs (l:List UInt8):wd l++rs l=l:=List.takeWhile_append_dropWhile
theorem span_word {r:List UInt8} (f:Stop r):∀{a:List UInt8},AllOk a->wd (a++r)=a/\rs (a++r)=r
 |[],_=>by
  cases r with
  |nil=>exact⟨rfl,rfl⟩
  |cons c r=>
   have h:okc c=false:=by rcases f c rfl with rfl|rfl<;>rfl
   simp[wd,rs,h]
 |x::a,e=>by
  have i:=e x List.mem_cons_self;obtain⟨b,d⟩:=span_word f (a:=a) fun c g=>e c (List.mem_cons_of_mem _ g);simp only[wd,rs] at b d;simp[wd,rs,i,b,d]
def leafT (t:Tm):Prop:=t.op=20∨t.op=21∨t.op=24
instance (t:Tm):Decidable (leafT t):=by unfold leafT;infer_instance
def kidsL (ks:List Tm):List UInt8:=(ks.map textL).flatMap (fun x=>32::x)
def cutL (t:Tm):List UInt8:=if t.op=22 then 32::(digL t.a++32::digL t.b) else[]
theorem word_okc:∀o:Fin 28,AllOk (wordL o.1):=by unfold AllOk;decide+kernel
theorem dig_okc:∀a:Fin 10,AllOk (digL a.1):=by unfold AllOk;decide+kernel
theorem dig_int {d:Int} (a:0<=d) (h:d<10):AllOk (digL d):=by
 have:=dig_okc ⟨d.toNat,by omega⟩;rwa[show((d.toNat:Nat):Int)=d by omega] at this
theorem word_int {o:Int} (a:0<=o) (h:o<28):AllOk (wordL o):=by
 have:=word_okc ⟨o.toNat,by omega⟩;rwa[show((o.toNat:Nat):Int)=o by omega] at this
theorem Wn (w n:Nat):AllOk (vecL w n):=fun c a=>by
 unfold vecL at a;rcases List.mem_cons.1 a with rfl|a
 ·rfl
 ·obtain⟨i,_,rfl⟩:=List.mem_map.1 a;split<;>rfl
theorem Wy {c:UInt8} (h:97<=c.toNat):okc c=true:=by
 unfold okc;have a:c≠32:=fun e=>by subst e;exact absurd h (by decide)
 have b:c≠40:=fun e=>by subst e;exact absurd h (by decide)
 have d:c≠41:=fun e=>by subst e;exact absurd h (by decide)
 simp[a,b,d]
section
variable {ds:List Dcl} {t u:Tm} {r:List UInt8}
theorem leaf_ok (a:declOk ds=true) (d:sortM ds t≠ -1) (b:leafT t):AllOk (textL t)/\textL t≠[]/\textL t=textF t []/\(textL t).head?≠some 40:=by
 obtain⟨e,j,f,g⟩:=atom_text a d b;refine⟨?_,f,e,fun h=>g _ h rfl⟩;rw[e];unfold textF;rcases b with o|o|o
 ·rw[if_pos o];exact Wn _ _
 ·rw[if_neg (by omega),if_pos o];obtain⟨_,_,h⟩:=name_ok a d o;exact fun c i=>Wy (h c i).1
 ·rw[if_neg (by omega),if_neg (by omega),if_pos o];unfold AllOk;decide
theorem node_text (h: ¬leafT t):textL t=40::(wordL t.op++(cutL t++(kidsL t.ks++[41]))):=by
 unfold leafT at h;rw[textL_eq];unfold textF cutL kidsL;rw[if_neg (by omega),if_neg (by omega),if_neg (by omega)]
theorem kids_stop {ks:List Tm}:Stop (kidsL ks++41::r):=by
 cases ks with
 |nil=>exact stop_cons (.inr rfl)
 |cons k ks=>exact stop_cons (.inl rfl)
theorem kids_cons {k:Tm} {ks:List Tm}:kidsL (k::ks)++41::r=32::(textL k++(kidsL ks++41::r)):=by
 unfold kidsL;simp
theorem node_arity' (f:sortM ds t≠ -1) (h: ¬leafT t):1<=t.ks.length/\t.ks.length<=3/\((1<=t.op/\t.op<=17)\/(22<=t.op/\t.op<=27))/\t.op≠24/\arity t.op=t.ks.length/\t.s=nada:=by
 obtain⟨a,b,c⟩:=right_op f;have g:=node_arity c h;have i:arity t.op<=3:=by unfold arity;split<;>(try split)<;>(try split)<;>(try split)<;>(try split)<;>omega
 have d:=plain_s b (fun e=>h (.inr (.inl e)));unfold leafT at h;exact⟨by omega,by omega,by omega,by omega,a,d⟩
theorem node_word (f:declOk ds=true) (a:sortM ds t≠ -1) (h: ¬leafT t):wd (wordL t.op++(cutL t++(kidsL t.ks++41::r)))=wordL t.op/\rs (wordL t.op++(cutL t++(kidsL t.ks++41::r)))=cutL t++(kidsL t.ks++41::r):=by
 obtain⟨b,c,d,e,_⟩:=node_arity' a h;refine span_word ?_ (word_int (by omega) (by omega));unfold cutL;split
 ·exact stop_cons (.inl rfl)
 ·exact kids_stop
theorem dig_word {d:Int} {r:List UInt8} (a:0<=d) (h:d<10) (b:Stop r):wd (digL d++r)=digL d/\rs (digL d++r)=r:=span_word b (dig_int a h)
theorem leaf_word (a:declOk ds=true) (d:sortM ds t≠ -1) (b:leafT t) (c:Stop r):wd (textL t++r)=textL t/\rs (textL t++r)=r:=span_word c (leaf_ok a d b).1
theorem kid_deep {k:Tm} (h:k∈t.ks):deepM k+1<=deepM t:=by
 obtain⟨i,b,rfl⟩:=List.getElem_of_mem h;have a:=dpT_succ b;have c:=dpT_mono (ks:=t.ks) (i:=i+1) (j:=t.ks.length) (by omega) (Nat.le_refl _);rw[List.getD_eq_getElem?_getD,List.getElem?_eq_getElem b] at a;have d:=dpT_all t;simp only[Option.getD_some] at a;omega
theorem deep_pos (t:Tm):1<=deepM t:=by have:=dpT_all t;omega
theorem plain_zero (d:sortM ds t≠ -1) (h:t.op≠20) (c:t.op≠22):t.a=0/\t.b=0:=plain_ab (right_op d).2.1 ⟨h,c⟩
end
end Go.M
end
section
namespace Go.Proofs.YtaemeijeaajoeaaGreatDoor
open Go Go.Vc Go.Proofs
def xE [ZP] (P:Program) (v0 v1:Value) (w:World) (R:Value→World→Prop):Prop:=vbi P .len [zc] zb [v1] w fun a b=>zj P .gtr zb true a (.int .i64 1048576) b fun a b=>vif a (R (.bool true) b) (vcall P xR #[v0,(.int .i64 1048576)] b fun a b=>zj P .lss zb true a (.int .i64 0) b fun a b=>vif a (R (.bool true) b) (vcall P yy #[v0] b fun a b=>vcall P qE #[a,v1] b fun a b=>zm P a 0 b fun b c=>zm P a 1 c fun a c=>yp P za c fun c d=>zn P za c b d fun _ b=>vcall P yy #[v0] b fun b d=>vcall P xx #[b,v1] d fun d e=>zm P d 0 e fun e f=>zm P d 1 f fun d f=>yp P za f fun f g=>zn P za f e g fun _ e=>yN (fun g=>zh P za f e fun e h=>zh P za c h fun h i=>vcall P yY #[e,h] i fun e h=>vun P .not e h fun e h=>vif e (R (.bool false) h) (zj P .neq xj false d a h fun e h=>vif e (R (.bool false) h) (g [] h))) (fun _ _ e=>vcall P yy #[v0] e fun e g=>vcall P jd #[b,e] g fun e g=>vun P .not e g fun e g=>vif e (R (.bool false) g) (vcall P xZ #[b,(.int .i64 1)] g fun b e=>yN (fun g=>zj P .lss zb true b (.int .i64 0) e fun b e=>vif b (R (.bool false) e) (zh P za f e fun b e=>zh P za c e fun e h=>vcall P yY #[b,e] h fun b e=>vun P .not b e fun b e=>vif b (R (.bool false) e) (zj P .neq xj false d a e fun b d=>vif b (R (.bool false) d) (g [] d)))) (fun _ _ b=>zh P za f b fun b d=>vcall P qF #[b,(.int .i64 1)] d fun b d=>zh P za f d fun d e=>vcall P xr #[d,(.int .i64 1)] e fun d e=>zj P .lss zb true d (.int .i64 0) e fun e g=>vif e (R (.bool false) g) (zj P .neq zb false d b g fun d e=>vif d (R (.bool false) e) (vcall P yy #[v0] e fun d e=>vcall P xx #[d,v1] e fun d e=>zm P d 0 e fun e g=>zm P d 1 g fun d g=>yp P za g fun g h=>zn P za g e h fun _ e=>zh P za g e fun e g=>zh P za c g fun c g=>vcall P yY #[e,c] g fun c e=>vun P .not c e fun c e=>vif c (R (.bool false) e) (zj P .neq xj false d a e fun a c=>vif a (R (.bool false) c) (zh P za f c fun a c=>vcall P xr #[a,(.int .i64 1)] c fun a c=>zj P .lss zb true a (.int .i64 0) c fun c d=>vif c (R (.bool false) d) (zj P .neq zb false a b d fun a b=>vif a (R (.bool false) b) (R (.bool true) b)))))))))))
theorem jV [ZP] {v0 v1 w R} (h:xE PP v0 v1 w R):vcall PP xB #[v0,v1] w R:=zl {cuts:=[(45068,[]),(69650,[])]} Tryz.func3 (by kernel_rfl) (by kernel_rfl) h
def Ze [ZP] (P:Program) (v0 v1:Value) (w:World) (R:Value→World→Prop):Prop:=vbi P .len [ye] zb [v0] w fun a b=>zj P .sub zb false v1 a b fun a b=>zj P .lss zb true a (.int .i64 0) b fun b c=>vif b (R (.int .i64 (-1)) c) (yD [a,(.int .i64 0)] c fun a b _ c=>vbi P .len [ye] zb [v0] c fun c d=>zj P .lss zb false (sl 1 b) c d fun c d=>vif c (zv P ye v0 (sl 1 b) d fun c e=>zh P y8 c e fun c e=>vcall P jI #[c,(sl 0 b)] e fun c e=>zj P .lss zb true c (.int .i64 0) e fun e f=>vif e (R (.int .i64 (-1)) f) (zj P .add zb true (sl 1 b) (.int .i64 1) f fun e f=>a [c,e] f)) (R (sl 0 b) d))
theorem Q0 [ZP] {v0 v1 w R} (h:Ze PP v0 v1 w R):vcall PP xR #[v0,v1] w R:=zl {loops:=[(5,[1,5])]} Tryz.func5 (by kernel_rfl) (by kernel_rfl) h
def kx [ZP] (P:Program) (v0 v1:Value) (w:World) (R:Value→World→Prop):Prop:=yp P za w fun a b=>vbi P .len [zc] zb [v1] b fun b c=>zj P .gtr zb true b (.int .i64 400) c fun b c=>vif b (zq P za [] c fun b d=>zn P za a b d fun _ b=>vlv P za a b fun b d=>R (.tuple #[b,(.bool false)]) d) (vcall P xo #[v1,(.int .i64 0),(.int .i64 7)] c fun b c=>zm P b 0 c fun c d=>zm P b 1 d fun b d=>yp P za d fun d e=>zn P za d c e fun _ c=>vbi P .len [zc] zb [v1] c fun c e=>zj P .neq zb false b c e fun b c=>vif b (zq P za [] c fun b e=>zn P za a b e fun _ b=>vlv P za a b fun b e=>R (.tuple #[b,(.bool false)]) e) (zh P za d c fun b c=>vcall P qC #[v0,b] c fun b c=>zj P .neq zc false b v1 c fun b c=>vif b (zq P za [] c fun b e=>zn P za a b e fun _ b=>vlv P za a b fun b e=>R (.tuple #[b,(.bool false)]) e) (zj P .eql zc true v1 (.string {data:= #[]}) c fun b c=>vif b (zq P za [] c fun b e=>zn P za a b e fun _ b=>vlv P za a b fun b e=>R (.tuple #[b,(.bool false)]) e) (zh P za d c fun b c=>zn P za a b c fun _ b=>vlv P za a b fun a b=>R (.tuple #[a,(.bool true)]) b))))
theorem Xu [ZP] {v0 v1 w R} (h:kx PP v0 v1 w R):vcall PP qE #[v0,v1] w R:=zl {} Tryz.func6 (by kernel_rfl) (by kernel_rfl) h
def Zd [ZP] (P:Program) (v0:Value) (w:World) (R:Value→World→Prop):Prop:=vbi P .len [ye] zb [v0] w fun a b=>vmkS P zp a a b fun a b=>yD [(.int .i64 0)] b fun b c _ d=>vbi P .len [ye] zb [v0] d fun d e=>zj P .lss zb false (sl 0 c) d e fun d e=>vif d (zv P ye v0 (sl 0 c) e fun d f=>zh P y8 d f fun d f=>vcall P jH #[d] f fun d f=>zv P zp a (sl 0 c) f fun f g=>zn P zk f d g fun _ d=>zj P .add zb true (sl 0 c) (.int .i64 1) d fun c d=>b [c] d) (R a e)
theorem XZ [ZP] {v0 w R} (h:Zd PP v0 w R):vcall PP yy #[v0] w R:=zl {loops:=[(3,[4])]} Tryz.func7 (by kernel_rfl) (by kernel_rfl) h
def kE [ZP] (P:Program) (v0 v1:Value) (w:World) (R:Value→World→Prop):Prop:=yp P za w fun a b=>vcall P xi #[] b fun b c=>zq P zt [(0,v1),(1,b)] c fun b c=>xO P zt b c fun b c=>vcall P qW #[b] c fun b c=>zm P b 0 c fun c d=>zm P b 1 d fun b d=>yp P za d fun d e=>zn P za d c e fun _ c=>vun P .not b c fun b c=>vif b (zq P za [] c fun b e=>zn P za a b e fun _ b=>vlv P za a b fun b e=>R (.tuple #[b,(.bool false)]) e) (zh P za d c fun b c=>vcall P xw #[v0,b] c fun b c=>zj P .eql zb true b (.int .i64 (-1)) c fun b c=>vif b (zq P za [] c fun b e=>zn P za a b e fun _ b=>vlv P za a b fun b e=>R (.tuple #[b,(.bool false)]) e) (zh P za d c fun b c=>vcall P qG #[v0,b] c fun b c=>zj P .neq zc false b v1 c fun b c=>vif b (zq P za [] c fun b e=>zn P za a b e fun _ b=>vlv P za a b fun b e=>R (.tuple #[b,(.bool false)]) e) (zh P za d c fun b c=>zn P za a b c fun _ b=>vlv P za a b fun a b=>R (.tuple #[a,(.bool true)]) b)))
theorem XB [ZP] {v0 v1 w R} (h:kE PP v0 v1 w R):vcall PP xx #[v0,v1] w R:=zl {} Tryz.func8 (by kernel_rfl) (by kernel_rfl) h
def Yi [ZP] (P:Program) (v0 v1:Value) (w:World) (R:Value→World→Prop):Prop:=xO P za v0 w fun a b=>xO P za v1 b fun b c=>zg P za a 0 c fun c d=>zh P zb c d fun c d=>zg P za b 0 d fun d e=>zh P zb d e fun d e=>zj P .neq zb false c d e fun c d=>vif c (R (.bool false) d) (zg P za a 1 d fun c d=>zh P zb c d fun c d=>zg P za b 1 d fun d e=>zh P zb d e fun d e=>zj P .neq zb false c d e fun c d=>vif c (R (.bool false) d) (zg P za a 2 d fun c d=>zh P zb c d fun c d=>zg P za b 2 d fun d e=>zh P zb d e fun d e=>zj P .neq zb false c d e fun c d=>vif c (R (.bool false) d) (zg P za a 3 d fun c d=>zh P zc c d fun c d=>zg P za b 3 d fun d e=>zh P zc d e fun d e=>zj P .neq zc false c d e fun c d=>vif c (R (.bool false) d) (zg P za a 4 d fun a c=>zh P ze a c fun a c=>zg P za b 4 c fun b c=>zh P ze b c fun b c=>vcall P jc #[a,b] c fun a b=>vun P .not a b fun a b=>vif a (R (.bool false) b) (R (.bool true) b)))))
theorem QX [ZP] {v0 v1 w R} (h:Yi PP v0 v1 w R):vcall PP yY #[v0,v1] w R:=zl {} Tryz.func9 (by kernel_rfl) (by kernel_rfl) h
def Zg [ZP] (P:Program) (v0 v1:Value) (w:World) (R:Value→World→Prop):Prop:=vbi P .len [zp] zb [v0] w fun a b=>vbi P .len [zp] zb [v1] b fun b c=>zj P .neq zb false a b c fun a b=>vif a (R (.bool false) b) (yD [(.int .i64 0)] b fun a b _ c=>vbi P .len [zp] zb [v0] c fun c d=>zj P .lss zb false (sl 0 b) c d fun c d=>vif c (x9 d fun c=>zv P zp v0 (sl 0 b) c fun e f=>f=c∧zh P zk e c fun e f=>f=c∧zv P zp v1 (sl 0 b) c fun f g=>g=c∧zh P zk f c fun f g=>g=c∧vcall P jJ #[e,f] c fun c e=>vun P .not c e fun c f=>f=e∧vif c (R (.bool false) e) (zj P .add zb true (sl 0 b) (.int .i64 1) e fun b c=>a [b] c)) (R (.bool true) d))
theorem Q2 [ZP] {v0 v1 w R} (h:Zg PP v0 v1 w R):vcall PP jd #[v0,v1] w R:=zl {ord:=[(6,[0,1,2,3,4,5,6,7,8,9],[(0,[2,3,8,9]),(1,[2,3,8,9]),(2,[3,8,9]),(3,[8,9]),(4,[6,7,8,9]),(5,[6,7,8,9]),(6,[7,8,9]),(7,[8,9]),(8,[9])])],loops:=[(4,[5])]} Tryz.func10 (by kernel_rfl) (by kernel_rfl) h
def jR [ZP] (P:Program) (v0 v1:Value) (w:World) (R:Value→World→Prop):Prop:=yD [v1,(.int .i64 0)] w fun a b _ c=>vbi P .len [zp] zb [v0] c fun c d=>zj P .lss zb false (sl 1 b) c d fun c d=>vif c (vcall P yB #[(sl 0 b)] d fun c e=>zv P zp v0 (sl 1 b) e fun e f=>zg P zk e 0 f fun e f=>zn P zc e c f fun _ c=>zj P .add zb true (sl 0 b) (.int .i64 1) c fun c e=>zv P zp v0 (sl 1 b) e fun e f=>zg P zk e 1 f fun e f=>zn P zb e c f fun _ e=>zj P .add zb true c (.int .i64 1) e fun c e=>zj P .add zb true (sl 1 b) (.int .i64 1) e fun e f=>a [c,e] f) (R (sl 0 b) d)
theorem YU [ZP] {v0 v1 w R} (h:jR PP v0 v1 w R):vcall PP xZ #[v0,v1] w R:=zl {loops:=[(2,[1,5])]} Tryz.func11 (by kernel_rfl) (by kernel_rfl) h
def kA [ZP] (P:Program) (v0 v1:Value) (w:World) (R:Value→World→Prop):Prop:=xO P za v0 w fun a b=>zg P za a 4 b fun a b=>zh P ze a b fun a b=>vcall P x7 #[a,v1] b fun a b=>R a b
theorem Xx [ZP] {v0 v1 w R} (h:kA PP v0 v1 w R):vcall PP qF #[v0,v1] w R:=zl {} Tryz.func12 (by kernel_rfl) (by kernel_rfl) h
def kB [ZP] (P:Program) (v0 v1:Value) (w:World) (R:Value→World→Prop):Prop:=xO P za v0 w fun a b=>zg P za a 4 b fun a b=>zh P ze a b fun a b=>vcall P x8 #[a,v1] b fun a b=>zj P .lss zb true a (.int .i64 0) b fun b c=>vif b (R (.int .i64 (-1)) c) (R a c)
theorem Xy [ZP] {v0 v1 w R} (h:kB PP v0 v1 w R):vcall PP xr #[v0,v1] w R:=zl {} Tryz.func13 (by kernel_rfl) (by kernel_rfl) h
def kC [ZP] (P:Program) (v0 v1:Value) (w:World) (R:Value→World→Prop):Prop:=xO P za v1 w fun a b=>zh P za a b fun b c=>vcall P xw #[v0,b] c fun b c=>zj P .eql zb true b (.int .i64 (-1)) c fun b c=>vif b (R (.string {data:= #[]}) c) (x9 c fun b=>zh P za a b fun c d=>d=b∧vcall P xi #[] b fun b d=>(zh P za a d fun a e=>a=c∧e=d)∧vcall P qn #[b,c] d fun a b=>R a b)
theorem Xz [ZP] {v0 v1 w R} (h:kC PP v0 v1 w R):vcall PP qG #[v0,v1] w R:=zl {ord:=[(3,[1,0,2,3],[(1,[2,3]),(0,[2,3]),(2,[3])])]} Tryz.func15 (by kernel_rfl) (by kernel_rfl) h
def kw [ZP] (P:Program) (v0 v1:Value) (w:World) (R:Value→World→Prop):Prop:=xO P za v1 w fun a b=>zh P za a b fun b c=>vcall P xq #[b] c fun b c=>zm P b 0 c fun c d=>zm P b 1 d fun b d=>vcall P jG #[v0] d fun d e=>vun P .not d e fun d e=>vif d (R (.int .i64 (-1)) e) (zj P .gtr zb true c (.int .i64 20) e fun c d=>vif c (R (.int .i64 (-1)) d) (zj P .gtr zb true b (.int .i64 7) d fun b c=>vif b (R (.int .i64 (-1)) c) (zh P za a c fun a b=>vcall P yW #[v0,a] b fun a b=>R a b)))
theorem Xt [ZP] {v0 v1 w R} (h:kw PP v0 v1 w R):vcall PP qD #[v0,v1] w R:=zl {} Tryz.func16 (by kernel_rfl) (by kernel_rfl) h
def ku [ZP] (P:Program) (v0 v1:Value) (w:World) (R:Value→World→Prop):Prop:=xO P za v1 w fun a b=>zh P za a b fun b c=>vcall P qD #[v0,b] c fun b c=>zj P .lss zb true b (.int .i64 0) c fun b c=>vif b (R (.string {data:= #[]}) c) (zh P za a c fun a b=>vcall P qj #[a] b fun a b=>R a b)
theorem Xs [ZP] {v0 v1 w R} (h:ku PP v0 v1 w R):vcall PP qC #[v0,v1] w R:=zl {} Tryz.func17 (by kernel_rfl) (by kernel_rfl) h
def kD [ZP] (P:Program) (v0 v1:Value) (w:World) (R:Value→World→Prop):Prop:=xO P za v1 w fun a b=>zh P za a b fun b c=>vcall P qH #[b] c fun b c=>zm P b 0 c fun c d=>zm P b 1 d fun _ b=>vcall P jK #[v0] b fun b d=>vun P .not b d fun b d=>vif b (R (.int .i64 (-1)) d) (zj P .gtr zb true c (.int .i64 20) d fun b c=>vif b (R (.int .i64 (-1)) c) (x9 c fun b=>zh P za a b fun c d=>d=b∧vcall P xi #[] b fun b d=>(zh P za a d fun a e=>a=c∧e=d)∧vcall P qo #[b,v0,c] d fun a b=>R a b))
theorem XA [ZP] {v0 v1 w R} (h:kD PP v0 v1 w R):vcall PP xw #[v0,v1] w R:=zl {ord:=[(4,[1,2,0,3,4],[(1,[3,4]),(2,[3,4]),(0,[3,4]),(3,[4])])]} Tryz.func20 (by kernel_rfl) (by kernel_rfl) h
def Yh [ZP] (P:Program) (v0 v1:Value) (w:World) (R:Value→World→Prop):Prop:=xO P y8 v0 w fun a b=>zg P y8 a 0 b fun a b=>zh P zc a b fun a b=>vbi P .len [zc] zb [a] b fun a b=>zj P .sub zb false v1 a b fun a b=>zj P .lss zb true a (.int .i64 0) b fun b c=>vif b (R (.int .i64 (-1)) c) (R a c)
theorem QW [ZP] {v0 v1 w R} (h:Yh PP v0 v1 w R):vcall PP jI #[v0,v1] w R:=zl {} Tryz.func21 (by kernel_rfl) (by kernel_rfl) h
def jO [ZP] (P:Program) (v0 v1 v2:Value) (w:World) (R:Value→World→Prop):Prop:=yp P za w fun a b=>yN (fun c=>vbi P .len [zc] zb [v0] b fun b d=>zj P .geq zb false v1 b d fun b d=>vif b (zq P za [] d fun b e=>zn P za a b e fun _ b=>vlv P za a b fun b e=>R (.tuple #[b,(.int .i64 (-1))]) e) (zj P .lss zb true v2 (.int .i64 1) d fun b d=>vif b (zq P za [] d fun b e=>zn P za a b e fun _ b=>vlv P za a b fun b e=>R (.tuple #[b,(.int .i64 (-1))]) e) (c [] d))) (fun _ _ b=>yn P zc v0 v1 b fun b c=>zj P .neq zQ true b (.int .u8 40) c fun b c=>vif b (vcall P yV #[v0,v1] c fun b d=>zm P b 0 d fun d e=>zm P b 1 e fun b e=>zj P .eql zc true d (.string {data:= #[]}) e fun e f=>vif e (zq P za [] f fun e g=>zn P za a e g fun _ e=>vlv P za a e fun e g=>R (.tuple #[e,(.int .i64 (-1))]) g) (vcall P jE #[d] f fun d e=>zn P za a d e fun _ d=>vlv P za a d fun d e=>R (.tuple #[d,b]) e)) (zj P .add zb true v1 (.int .i64 1) c fun b c=>vcall P yV #[v0,b] c fun b c=>zm P b 0 c fun c d=>zm P b 1 d fun b d=>vcall P Zw #[c] d fun c d=>zq P za [(0,c)] d fun c d=>yp P za d fun d e=>zn P za d c e fun _ c=>yN (fun e=>zg P za d 0 c fun c f=>zh P zb c f fun c f=>zj P .eql zb true c (.int .i64 0) f fun c f=>vif c (zh P za d f fun c g=>zn P za a c g fun _ c=>vlv P za a c fun c g=>R (.tuple #[c,(.int .i64 (-1))]) g) (zg P za d 0 f fun c f=>zh P zb c f fun c f=>zj P .eql zb true c (.int .i64 24) f fun c f=>vif c (zh P za d f fun c g=>zn P za a c g fun _ c=>vlv P za a c fun c g=>R (.tuple #[c,(.int .i64 (-1))]) g) (e [] f))) (fun _ _ c=>zg P za d 0 c fun c e=>zh P zb c e fun c e=>zj P .neq zb true c (.int .i64 22) e fun c e=>vif c (zj P .sub zb true v2 (.int .i64 1) e fun c f=>zh P za d f fun f g=>vcall P xp #[v0,b,c,f] g fun c f=>zm P c 0 f fun f g=>zm P c 1 g fun c g=>zn P za a f g fun _ f=>vlv P za a f fun f g=>R (.tuple #[f,c]) g) (zj P .add zb true b (.int .i64 1) e fun b c=>vbi P .len [zc] zb [v0] c fun c e=>vcall P qU #[b,c] e fun b c=>vcall P yV #[v0,b] c fun b c=>zm P b 0 c fun c e=>zm P b 1 e fun b e=>zj P .add zb true b (.int .i64 1) e fun b e=>vbi P .len [zc] zb [v0] e fun e f=>vcall P qU #[b,e] f fun b e=>vcall P yV #[v0,b] e fun b e=>zm P b 0 e fun e f=>zm P b 1 f fun b f=>vcall P ql #[c] f fun c f=>zm P c 0 f fun f g=>zm P c 1 g fun _ c=>zg P za d 1 c fun c g=>zn P zb c f g fun _ c=>vcall P ql #[e] c fun c e=>zm P c 0 e fun e f=>zm P c 1 f fun _ c=>zg P za d 2 c fun c f=>zn P zb c e f fun _ c=>zj P .sub zb true v2 (.int .i64 1) c fun c e=>zh P za d e fun d e=>vcall P xp #[v0,b,c,d] e fun b c=>zm P b 0 c fun c d=>zm P b 1 d fun b d=>zn P za a c d fun _ c=>vlv P za a c fun a c=>R (.tuple #[a,b]) c))))
theorem ZY [ZP] {v0 v1 v2 w R} (h:jO PP v0 v1 v2 w R):vcall PP xo #[v0,v1,v2] w R:=zl {cuts:=[(8195,[]),(45068,[])]} Tryz.func22 (by kernel_rfl) (by kernel_rfl) h
def Yg [ZP] (P:Program) (v0:Value) (w:World) (R:Value→World→Prop):Prop:=xO P y8 v0 w fun a b=>yp P zk b fun b c=>yp P zk c fun c d=>zg P y8 a 0 d fun d e=>zh P zc d e fun d e=>zg P zk c 0 e fun e f=>zn P zc e d f fun _ d=>zg P y8 a 1 d fun a d=>zh P zb a d fun a d=>zg P zk c 1 d fun d e=>zn P zb d a e fun _ a=>zh P zk c a fun a c=>zn P zk b a c fun _ a=>vlv P zk b a fun a b=>R a b
theorem QV [ZP] {v0 w R} (h:Yg PP v0 w R):vcall PP jH #[v0] w R:=zl {} Tryz.func23 (by kernel_rfl) (by kernel_rfl) h
def YL [ZP] (P:Program) (w:World) (R:Value→World→Prop):Prop:=vmkM P zi none w fun a b=>zq P zz [(0,(.string {data:= #[110,111,116]})),(1,(.int .i64 1))] b fun b c=>zq P zM [(0,b)] c fun b c=>Yo P zM b c fun b c=>jx P zi a (.int .i64 1) b c fun _ b=>zq P zz [(0,(.string {data:= #[110,101,103]})),(1,(.int .i64 1))] b fun b c=>zq P zM [(0,b)] c fun b c=>Yo P zM b c fun b c=>jx P zi a (.int .i64 2) b c fun _ b=>zq P zz [(0,(.string {data:= #[99,97,116]})),(1,(.int .i64 2))] b fun b c=>zq P zX [(0,b)] c fun b c=>Yo P zX b c fun b c=>jx P zi a (.int .i64 14) b c fun _ b=>zq P zz [(0,(.string {data:= #[115,97,109,101]})),(1,(.int .i64 2))] b fun b c=>zq P zA [(0,b)] c fun b c=>Yo P zA b c fun b c=>jx P zi a (.int .i64 15) b c fun _ b=>zq P zz [(0,(.string {data:= #[108,101,115,115]})),(1,(.int .i64 2))] b fun b c=>zq P zA [(0,b)] c fun b c=>Yo P zA b c fun b c=>jx P zi a (.int .i64 16) b c fun _ b=>zq P zz [(0,(.string {data:= #[117,110,100,101,114]})),(1,(.int .i64 2))] b fun b c=>zq P zA [(0,b)] c fun b c=>Yo P zA b c fun b c=>jx P zi a (.int .i64 17) b c fun _ b=>zq P zV [] b fun b c=>Yo P zV b c fun b c=>jx P zi a (.int .i64 20) b c fun _ b=>zq P zS [] b fun b c=>Yo P zS b c fun b c=>jx P zi a (.int .i64 21) b c fun _ b=>zq P zz [(0,(.string {data:= #[99,117,116]})),(1,(.int .i64 1))] b fun b c=>zq P zW [(0,b)] c fun b c=>Yo P zW b c fun b c=>jx P zi a (.int .i64 22) b c fun _ b=>zq P zz [(0,(.string {data:= #[105,102]})),(1,(.int .i64 3))] b fun b c=>zq P zZ [(0,b)] c fun b c=>Yo P zZ b c fun b c=>jx P zi a (.int .i64 23) b c fun _ b=>zq P zz [(0,(.string {data:= #[116,114,117,101]})),(1,(.int .i64 0))] b fun b c=>zq P zu [(0,b),(1,(.func (.func ji) #[] #[]))] c fun b c=>Yo P zu b c fun b c=>jx P zi a (.int .i64 24) b c fun _ b=>zq P zz [(0,(.string {data:= #[110,111]})),(1,(.int .i64 1))] b fun b c=>zq P zu [(0,b),(1,(.func (.func jh) #[] #[]))] c fun b c=>Yo P zu b c fun b c=>jx P zi a (.int .i64 25) b c fun _ b=>zq P zz [(0,(.string {data:= #[98,111,116,104]})),(1,(.int .i64 2))] b fun b c=>zq P zu [(0,b),(1,(.func (.func jg) #[] #[]))] c fun b c=>Yo P zu b c fun b c=>jx P zi a (.int .i64 26) b c fun _ b=>zq P zz [(0,(.string {data:= #[97,110,121]})),(1,(.int .i64 2))] b fun b c=>zq P zu [(0,b),(1,(.func (.func jf) #[] #[]))] c fun b c=>Yo P zu b c fun b c=>jx P zi a (.int .i64 27) b c fun _ b=>vbuildS P zJ 11 [(0,(.string {data:= #[97,110,100]})),(1,(.string {data:= #[111,114]})),(2,(.string {data:= #[120,111,114]})),(3,(.string {data:= #[97,100,100]})),(4,(.string {data:= #[115,117,98]})),(5,(.string {data:= #[109,117,108]})),(6,(.string {data:= #[100,105,118]})),(7,(.string {data:= #[114,101,109]})),(8,(.string {data:= #[115,104,108]})),(9,(.string {data:= #[115,104,114]})),(10,(.string {data:= #[115,97,114]}))] b fun b c=>vbi P .len [zJ] zb [b] c fun c d=>yD [(.int .i64 0)] d fun d e _ f=>zj P .lss zb false (sl 0 e) c f fun c f=>vif c (zv P zJ b (sl 0 e) f fun b c=>zh P zc b c fun b c=>zj P .add zb true (.int .i64 3) (sl 0 e) c fun c g=>zq P zz [(0,b),(1,(.int .i64 2))] g fun b g=>zq P zT [(0,b)] g fun b g=>Yo P zT b g fun b g=>jx P zi a c b g fun _ b=>zj P .add zb true (sl 0 e) (.int .i64 1) b fun b c=>d [b] c) (R a f)
theorem Jt [ZP] {w R} (h:YL PP w R):vcall PP xi #[] w R:=zl {loops:=[(3,[48])]} Tryz.func24 (by kernel_rfl) (by kernel_rfl) h
def Zf [ZP] (P:Program) (v0 v1:Value) (w:World) (R:Value→World→Prop):Prop:=vbi P .len [ze] zb [v0] w fun a b=>vbi P .len [ze] zb [v1] b fun b c=>zj P .neq zb false a b c fun a b=>vif a (R (.bool false) b) (yD [(.int .i64 0)] b fun a b _ c=>vbi P .len [ze] zb [v0] c fun c d=>zj P .lss zb false (sl 0 b) c d fun c d=>vif c (x9 d fun c=>zv P ze v0 (sl 0 b) c fun e f=>f=c∧zh P za e c fun e f=>f=c∧zv P ze v1 (sl 0 b) c fun f g=>g=c∧zh P za f c fun f g=>g=c∧vcall P yY #[e,f] c fun c e=>vun P .not c e fun c f=>f=e∧vif c (R (.bool false) e) (zj P .add zb true (sl 0 b) (.int .i64 1) e fun b c=>a [b] c)) (R (.bool true) d))
theorem Q1 [ZP] {v0 v1 w R} (h:Zf PP v0 v1 w R):vcall PP jc #[v0,v1] w R:=zl {ord:=[(6,[0,1,2,3,4,5,6,7,8,9],[(0,[2,3,8,9]),(1,[2,3,8,9]),(2,[3,8,9]),(3,[8,9]),(4,[6,7,8,9]),(5,[6,7,8,9]),(6,[7,8,9]),(7,[8,9]),(8,[9])])],loops:=[(4,[5])]} Tryz.func26 (by kernel_rfl) (by kernel_rfl) h
def Yj [ZP] (P:Program) (v0 v1:Value) (w:World) (R:Value→World→Prop):Prop:=xO P zk v0 w fun a b=>xO P zk v1 b fun b c=>zg P zk a 0 c fun c d=>zh P zc c d fun c d=>zg P zk b 0 d fun d e=>zh P zc d e fun d e=>zj P .neq zc false c d e fun c d=>vif c (R (.bool false) d) (zg P zk a 1 d fun a c=>zh P zb a c fun a c=>zg P zk b 1 c fun b c=>zh P zb b c fun b c=>zj P .neq zb false a b c fun a b=>vif a (R (.bool false) b) (R (.bool true) b))
theorem QY [ZP] {v0 v1 w R} (h:Yj PP v0 v1 w R):vcall PP jJ #[v0,v1] w R:=zl {} Tryz.func27 (by kernel_rfl) (by kernel_rfl) h
def kz [ZP] (P:Program) (v0:Value) (w:World) (R:Value→World→Prop):Prop:=zj P .leq zb true v0 (.int .i64 0) w fun a b=>vif a (R (.string {data:= #[109,48]}) b) (yD [v0,(.string {data:= #[]})] b fun a b _ c=>zj P .gtr zb true (sl 0 b) (.int .i64 0) c fun c d=>vif c (zj P .rem zb true (sl 0 b) (.int .i64 10) d fun c e=>zj P .add zb true (.int .i64 48) c e fun c e=>qh P zb zQ c e fun c e=>vbuildS P zC 1 [(0,c)] e fun c e=>qh P zC zc c e fun c e=>zj P .add zc false c (sl 1 b) e fun c e=>zj P .quo zb true (sl 0 b) (.int .i64 10) e fun e f=>a [e,c] f) (zj P .add zc true (.string {data:= #[109]}) (sl 1 b) d fun a b=>R a b))
theorem Xw [ZP] {v0 w R} (h:kz PP v0 w R):vcall PP yB #[v0] w R:=zl {loops:=[(4,[0,3])]} Tryz.func28 (by kernel_rfl) (by kernel_rfl) h
def jQ [ZP] (P:Program) (v0 v1:Value) (w:World) (R:Value→World→Prop):Prop:=yD [v1,(.int .i64 0)] w fun a b _ c=>vbi P .len [ze] zb [v0] c fun c d=>zj P .lss zb false (sl 1 b) c d fun c d=>vif c (zv P ze v0 (sl 1 b) d fun c e=>zg P za c 0 e fun c e=>zn P zb c (sl 0 b) e fun _ c=>zj P .add zb true (sl 0 b) (.int .i64 1) c fun c e=>zv P ze v0 (sl 1 b) e fun e f=>zg P za e 1 f fun e f=>zn P zb e c f fun _ e=>zj P .add zb true c (.int .i64 1) e fun c e=>zv P ze v0 (sl 1 b) e fun e f=>zg P za e 2 f fun e f=>zn P zb e c f fun _ e=>zj P .add zb true c (.int .i64 1) e fun c e=>vcall P yB #[c] e fun e f=>zv P ze v0 (sl 1 b) f fun f g=>zg P za f 3 g fun f g=>zn P zc f e g fun _ e=>zj P .add zb true c (.int .i64 1) e fun c e=>zv P ze v0 (sl 1 b) e fun e f=>zg P za e 4 f fun e f=>zh P ze e f fun e f=>vcall P x7 #[e,c] f fun c e=>zj P .add zb true (sl 1 b) (.int .i64 1) e fun e f=>a [c,e] f) (R (sl 0 b) d)
theorem YT [ZP] {v0 v1 w R} (h:jQ PP v0 v1 w R):vcall PP x7 #[v0,v1] w R:=zl {loops:=[(2,[1,5])]} Tryz.func29 (by kernel_rfl) (by kernel_rfl) h
def jS [ZP] (P:Program) (v0 v1:Value) (w:World) (R:Value→World→Prop):Prop:=yD [v1,(.int .i64 0)] w fun a b _ c=>vbi P .len [ze] zb [v0] c fun c d=>zj P .lss zb false (sl 1 b) c d fun c d=>vif c (zv P ze v0 (sl 1 b) d fun c e=>zg P za c 0 e fun c e=>zh P zb c e fun c e=>zj P .neq zb false c (sl 0 b) e fun c e=>vif c (R (.int .i64 (-1)) e) (zj P .add zb true (sl 0 b) (.int .i64 1) e fun c e=>zv P ze v0 (sl 1 b) e fun e f=>zg P za e 1 f fun e f=>zh P zb e f fun e f=>zj P .neq zb false e c f fun e f=>vif e (R (.int .i64 (-1)) f) (zj P .add zb true c (.int .i64 1) f fun c e=>zv P ze v0 (sl 1 b) e fun e f=>zg P za e 2 f fun e f=>zh P zb e f fun e f=>zj P .neq zb false e c f fun e f=>vif e (R (.int .i64 (-1)) f) (zj P .add zb true c (.int .i64 1) f fun c e=>x9 e fun e=>zv P ze v0 (sl 1 b) e fun f g=>g=e∧zg P za f 3 e fun g h=>h=e∧zh P zc g e fun h i=>i=e∧vcall P yB #[c] e fun e i=>(zh P zc g i fun j k=>j=h∧k=i)∧(zg P za f 3 i fun j k=>j=g∧k=i)∧(zv P ze v0 (sl 1 b) i fun j k=>j=f∧k=i)∧zj P .neq zc false h e i fun e f=>f=i∧vif e (R (.int .i64 (-1)) i) (zj P .add zb true c (.int .i64 1) i fun c e=>zv P ze v0 (sl 1 b) e fun e f=>zg P za e 4 f fun e f=>zh P ze e f fun e f=>vcall P x8 #[e,c] f fun c e=>zj P .lss zb true c (.int .i64 0) e fun e f=>vif e (R (.int .i64 (-1)) f) (zj P .add zb true (sl 1 b) (.int .i64 1) f fun e f=>a [c,e] f)))))) (R (sl 0 b) d)
theorem YV [ZP] {v0 v1 w R} (h:jS PP v0 v1 w R):vcall PP x8 #[v0,v1] w R:=zl {ord:=[(13,[0,1,2,3,4,5,6,7],[(0,[2,3,4,7]),(1,[2,3,4,7]),(2,[3,4,7]),(3,[4,7]),(4,[7]),(5,[6,7]),(6,[7])])],loops:=[(2,[1,5])]} Tryz.func30 (by kernel_rfl) (by kernel_rfl) h
def Yk [ZP] (P:Program) (v0 v1:Value) (w:World) (R:Value→World→Prop):Prop:=xO P za v1 w fun a b=>zg P za a 0 b fun b c=>zh P zb b c fun b c=>zj P .eql zb true b (.int .i64 20) c fun c d=>vif c (zg P za a 1 d fun c e=>zh P zb c e fun c e=>zg P za a 2 e fun e f=>zh P zb e f fun e f=>zq P zf [(0,c),(1,e)] f fun c e=>vcall P jk #[c] e fun c e=>R c e) (zj P .eql zb true b (.int .i64 21) d fun c d=>vif c (zg P za a 3 d fun c e=>zh P zc c e fun c e=>R c e) (zj P .eql zb true b (.int .i64 24) d fun b c=>vif b (R (.string {data:= #[116,114,117,101]}) c) (zg P za a 0 c fun b c=>zh P zb b c fun b c=>J7 P zi v0 b false c fun b c=>vinvoke P b xL #[] c fun b c=>vbuildS P zJ 1 [(0,b)] c fun b c=>yN (fun d=>zg P za a 0 c fun c e=>zh P zb c e fun c e=>zj P .eql zb true c (.int .i64 22) e fun c e=>vif c (x9 e fun c=>zg P za a 1 c fun f g=>g=c∧zh P zb f c fun f g=>g=c∧zg P za a 2 c fun g h=>h=c∧zh P zb g c fun h i=>i=c∧vcall P x6 #[f] c fun c f=>(zh P zb g f fun i j=>i=h∧j=f)∧(zg P za a 2 f fun i j=>i=g∧j=f)∧vcall P x6 #[h] f fun f g=>vbuildS P zJ 2 [(0,c),(1,f)] g fun c f=>vbi P .append [zJ,zJ] zJ [b,c] f fun c f=>d [c] f) (d [b] e)) (fun b _ c=>zg P za a 4 c fun a c=>zh P ze a c fun a c=>vbi P .len [ze] zb [a] c fun c d=>yD [(sl 0 b),(.int .i64 0)] d fun b d _ e=>zj P .lss zb false (sl 1 d) c e fun c e=>vif c (zv P ze a (sl 1 d) e fun a c=>zh P za a c fun a c=>yp P za c fun c f=>zn P za c a f fun _ a=>zh P za c a fun a c=>vcall P qn #[v0,a] c fun a c=>vbuildS P zJ 1 [(0,a)] c fun a c=>vbi P .append [zJ,zJ] zJ [(sl 0 d),a] c fun a c=>zj P .add zb true (sl 1 d) (.int .i64 1) c fun c f=>b [a,c] f) (vcall P Z4 #[(sl 0 d),(.string {data:= #[32]})] e fun a b=>zj P .add zc true (.string {data:= #[40]}) a b fun a b=>zj P .add zc true a (.string {data:= #[41]}) b fun a b=>R a b)))))
theorem QZ [ZP] {v0 v1 w R} (h:Yk PP v0 v1 w R):vcall PP qn #[v0,v1] w R:=zl {ord:=[(10,[0,1,2,4,5,3,6,7,8,9],[(0,[8,9]),(1,[2,3,6,7,8,9]),(2,[3,6,7,8,9]),(4,[5,6,7,8,9]),(5,[6,7,8,9]),(3,[6,7,8,9]),(6,[7,8,9]),(7,[8,9]),(8,[9])])],loops:=[(12,[5,45])],cuts:=[(40971,[5])]} Tryz.func33 (by kernel_rfl) (by kernel_rfl) h
def ky [ZP] (P:Program) (v0:Value) (w:World) (R:Value→World→Prop):Prop:=xO P za v0 w fun a b=>yD [(.int .i64 1),(.int .i64 0),(.int .i64 0)] b fun b c _ d=>yN (fun e=>zg P za a 4 d fun d f=>zh P ze d f fun d f=>vbi P .len [ze] zb [d] f fun d f=>zj P .lss zb false (sl 2 c) d f fun d f=>vif d (zj P .leq zb true (sl 0 c) (.int .i64 20) f fun d g=>vif d (e [] g) (zj P .add zb true (sl 1 c) (.int .i64 1) g fun d e=>zj P .gtr zb true (sl 0 c) (.int .i64 20) e fun e g=>vif e (R (.tuple #[(.int .i64 21),(.int .i64 8)]) g) (zj P .gtr zb true d (.int .i64 7) g fun e g=>vif e (R (.tuple #[(.int .i64 21),(.int .i64 8)]) g) (R (.tuple #[(sl 0 c),d]) g)))) (zj P .add zb true (sl 1 c) (.int .i64 1) f fun d e=>zj P .gtr zb true (sl 0 c) (.int .i64 20) e fun e f=>vif e (R (.tuple #[(.int .i64 21),(.int .i64 8)]) f) (zj P .gtr zb true d (.int .i64 7) f fun e f=>vif e (R (.tuple #[(.int .i64 21),(.int .i64 8)]) f) (R (.tuple #[(sl 0 c),d]) f)))) (fun _ _ d=>zg P za a 4 d fun a d=>zh P ze a d fun a d=>zv P ze a (sl 2 c) d fun a d=>zh P za a d fun a d=>vcall P xq #[a] d fun a d=>zm P a 0 d fun d e=>zm P a 1 e fun a e=>zj P .add zb false (sl 0 c) d e fun d e=>vcall P ke #[(sl 1 c),a] e fun a e=>zj P .add zb true (sl 2 c) (.int .i64 1) e fun c e=>b [d,a,c] e)
theorem Xv [ZP] {v0 w R} (h:ky PP v0 w R):vcall PP xq #[v0] w R:=zl {loops:=[(4,[4,5,6])],cuts:=[(20486,[])]} Tryz.func34 (by kernel_rfl) (by kernel_rfl) h
def Yf [ZP] (P:Program) (v0:Value) (w:World) (R:Value→World→Prop):Prop:=vbi P .len [zp] zb [v0] w fun a b=>zj P .gtr zb true a (.int .i64 4) b fun a b=>vif a (R (.bool false) b) (yD [(.int .i64 0),(.int .i64 0)] b fun a b _ c=>vbi P .len [zp] zb [v0] c fun c d=>zj P .lss zb false (sl 1 b) c d fun c d=>vif c (x9 d fun c=>zv P zp v0 (sl 1 b) c fun e f=>f=c∧zg P zk e 0 c fun e f=>f=c∧zh P zc e c fun e f=>f=c∧vcall P jD #[e] c fun c e=>vun P .not c e fun c f=>f=e∧vif c (R (.bool false) e) (zv P zp v0 (sl 1 b) e fun c f=>f=e∧zg P zk c 1 e fun c f=>f=e∧zh P zb c e fun c f=>f=e∧zj P .lss zb true c (.int .i64 1) e fun c f=>f=e∧vif c (R (.bool false) e) (zv P zp v0 (sl 1 b) e fun c f=>f=e∧zg P zk c 1 e fun c f=>f=e∧zh P zb c e fun c f=>f=e∧zj P .gtr zb true c (.int .i64 4) e fun c f=>f=e∧vif c (R (.bool false) e) (yJ P zp v0 none (some (sl 1 b)) none e fun c f=>f=e∧zv P zp v0 (sl 1 b) e fun f g=>g=e∧zg P zk f 0 e fun f g=>g=e∧zh P zc f e fun f g=>g=e∧vcall P qk #[c,f] e fun c e=>zj P .geq zb true c (.int .i64 0) e fun c f=>f=e∧vif c (R (.bool false) e) (zv P zp v0 (sl 1 b) e fun c e=>zg P zk c 1 e fun c e=>zh P zb c e fun c e=>zj P .add zb false (sl 0 b) c e fun c e=>zj P .add zb true (sl 1 b) (.int .i64 1) e fun e f=>a [c,e] f))))) (zj P .leq zb true (sl 0 b) (.int .i64 8) d fun a b=>R a b))
theorem QU [ZP] {v0 w R} (h:Yf PP v0 w R):vcall PP jG #[v0] w R:=zl {ord:=[(7,[0,1,2,3,4,5,6,7,8,9,10,11,12,13,14,15,16,17,18,19,20,21,22,23,24,25,26,27,28,29,30,31,32,33,34],[(0,[2,3,4,5,6,7,8,9,10,11,12,13,14,15,16,17,18,19,20,21,22,23,24,25,26,27,28,29,30,31,32,33,34]),(1,[2,3,4,5,6,7,8,9,10,11,12,13,14,15,16,17,18,19,20,21,22,23,24,25,26,27,28,29,30,31,32,33,34]),(2,[3,4,5,6,7,8,9,10,11,12,13,14,15,16,17,18,19,20,21,22,23,24,25,26,27,28,29,30,31,32,33,34]),(3,[4,5,6,7,8,9,10,11,12,13,14,15,16,17,18,19,20,21,22,23,24,25,26,27,28,29,30,31,32,33,34]),(4,[5,6,7,8,9,10,11,12,13,14,15,16,17,18,19,20,21,22,23,24,25,26,27,28,29,30,31,32,33,34]),(5,[6,7,8,9,10,11,12,13,14,15,16,17,18,19,20,21,22,23,24,25,26,27,28,29,30,31,32,33,34]),(6,[7,8,9,10,11,12,13,14,15,16,17,18,19,20,21,22,23,24,25,26,27,28,29,30,31,32,33,34]),(7,[8,9,10,11,12,13,14,15,16,17,18,19,20,21,22,23,24,25,26,27,28,29,30,31,32,33,34]),(8,[10,11,12,13,14,15,16,17,18,19,20,21,22,23,24,25,26,27,28,29,30,31,32,33,34]),(9,[10,11,12,13,14,15,16,17,18,19,20,21,22,23,24,25,26,27,28,29,30,31,32,33,34]),(10,[11,12,13,14,15,16,17,18,19,20,21,22,23,24,25,26,27,28,29,30,31,32,33,34]),(11,[12,13,14,15,16,17,18,19,20,21,22,23,24,25,26,27,28,29,30,31,32,33,34]),(12,[13,14,15,16,17,18,19,20,21,22,23,24,25,26,27,28,29,30,31,32,33,34]),(13,[14,15,16,17,18,19,20,21,22,23,24,25,26,27,28,29,30,31,32,33,34]),(14,[15,16,17,18,19,20,21,22,23,24,25,26,27,28,29,30,31,32,33,34]),(15,[16,17,18,19,20,21,22,23,24,25,26,27,28,29,30,31,32,33,34]),(16,[18,19,20,21,22,23,24,25,26,27,28,29,30,31,32,33,34]),(17,[18,19,20,21,22,23,24,25,26,27,28,29,30,31,32,33,34]),(18,[19,20,21,22,23,24,25,26,27,28,29,30,31,32,33,34]),(19,[20,21,22,23,24,25,26,27,28,29,30,31,32,33,34]),(20,[21,22,23,24,25,26,27,28,29,30,31,32,33,34]),(21,[22,23,24,25,26,27,28,29,30,31,32,33,34]),(22,[23,24,25,26,27,28,29,30,31,32,33,34]),(23,[24,25,26,27,28,29,30,31,32,33,34]),(24,[26,32,33,34]),(25,[26,32,33,34]),(26,[32,33,34]),(27,[29,30,31,32,33,34]),(28,[29,30,31,32,33,34]),(29,[30,31,32,33,34]),(30,[31,32,33,34]),(31,[32,33,34]),(32,[33,34]),(33,[34])])],loops:=[(5,[3,4])]} Tryz.func35 (by kernel_rfl) (by kernel_rfl) h
def Y7 [ZP] (P:Program) (v0 v1:Value) (w:World) (R:Value→World→Prop):Prop:=xO P za v1 w fun a b=>zh P za a b fun b c=>vcall P j7 #[b] c fun b c=>vun P .not b c fun b c=>vif b (R (.int .i64 (-1)) c) (zg P za a 0 c fun b c=>zh P zb b c fun b c=>zj P .eql zb true b (.int .i64 20) c fun c d=>vif c (zg P za a 1 d fun c e=>zh P zb c e fun c e=>zg P za a 2 e fun e f=>zh P zb e f fun e f=>zq P zf [(0,c),(1,e)] f fun c e=>vcall P qV #[c] e fun c e=>vif c (zg P za a 1 e fun c f=>zh P zb c f fun c f=>R c f) (R (.int .i64 (-1)) e)) (zj P .eql zb true b (.int .i64 21) d fun c d=>vif c (zg P za a 3 d fun c e=>zh P zc c e fun c e=>vcall P qk #[v0,c] e fun c e=>zj P .lss zb true c (.int .i64 0) e fun e f=>vif e (R (.int .i64 (-1)) f) (zv P zp v0 c f fun c e=>zg P zk c 1 e fun c e=>zh P zb c e fun c e=>R c e)) (zj P .eql zb true b (.int .i64 24) d fun b c=>vif b (R (.int .i64 0) c) (zg P za a 4 c fun b c=>zh P ze b c fun b c=>zv P ze b (.int .i64 0) c fun b c=>zh P za b c fun b c=>vcall P yW #[v0,b] c fun b c=>zg P za a 4 c fun c d=>zh P ze c d fun c d=>vbi P .len [ze] zb [c] d fun c d=>zj P .eql zb true c (.int .i64 1) d fun c d=>vif c (zh P za a d fun c e=>vcall P kc #[c,b] e fun c e=>R c e) (zg P za a 4 d fun c d=>zh P ze c d fun c d=>zv P ze c (.int .i64 1) d fun c d=>zh P za c d fun c d=>vcall P yW #[v0,c] d fun c d=>zg P za a 4 d fun d e=>zh P ze d e fun d e=>vbi P .len [ze] zb [d] e fun d e=>zj P .eql zb true d (.int .i64 2) e fun d e=>vif d (zg P za a 0 e fun d f=>zh P zb d f fun d f=>vcall P jF #[d,b,c] f fun d f=>R d f) (zj P .neq zb true b (.int .i64 0) e fun b d=>vif b (R (.int .i64 (-1)) d) (zg P za a 4 d fun a b=>zh P ze a b fun a b=>zv P ze a (.int .i64 2) b fun a b=>zh P za a b fun a b=>vcall P yW #[v0,a] b fun a b=>zj P .neq zb false c a b fun a b=>vif a (R (.int .i64 (-1)) b) (R c b))))))))
theorem QM [ZP] {v0 v1 w R} (h:Y7 PP v0 v1 w R):vcall PP yW #[v0,v1] w R:=zl {} Tryz.func36 (by kernel_rfl) (by kernel_rfl) h
def Y6 [ZP] (P:Program) (v0:Value) (w:World) (R:Value→World→Prop):Prop:=xO P za v0 w fun a b=>zg P za a 0 b fun b c=>zh P zb b c fun b c=>zj P .eql zb true b (.int .i64 20) c fun c d=>vif c (zg P za a 1 d fun c e=>zh P zb c e fun c e=>zg P za a 2 e fun e f=>zh P zb e f fun e f=>zq P zf [(0,c),(1,e)] f fun c e=>vcall P j9 #[c] e fun c e=>R c e) (zj P .eql zb true b (.int .i64 21) d fun c d=>vif c (zg P za a 3 d fun c e=>zh P zc c e fun c e=>R c e) (zj P .eql zb true b (.int .i64 24) d fun b c=>vif b (R (.string {data:= #[116,114,117,101]}) c) (x9 c fun b=>zg P za a 0 b fun c d=>d=b∧zh P zb c b fun d e=>e=b∧vcall P xQ #[] b fun b e=>(zh P zb c e fun f g=>f=d∧g=e)∧(zg P za a 0 e fun f g=>f=c∧g=e)∧zv P zJ b d e fun b c=>c=e∧zh P zc b e fun b c=>c=e∧zj P .add zc true (.string {data:= #[40]}) b e fun b c=>c=e∧yN (fun c=>zg P za a 0 e fun d e=>zh P zb d e fun d e=>zj P .eql zb true d (.int .i64 22) e fun d e=>vif d (x9 e fun d=>zj P .add zc true b (.string {data:= #[32]}) d fun h i=>i=d∧zg P za a 1 d fun i j=>j=d∧zh P zb i d fun i j=>j=d∧zg P za a 2 d fun j k=>k=d∧zh P zb j d fun k l=>l=d∧vcall P yX #[i] d fun d i=>(zh P zb j i fun f g=>f=k∧g=i)∧(zg P za a 2 i fun f g=>f=j∧g=i)∧(zj P .add zc true b (.string {data:= #[32]}) i fun f g=>f=h∧g=i)∧zj P .add zc false h d i fun j l=>l=i∧zj P .add zc true j (.string {data:= #[32]}) i fun l m=>m=i∧vcall P yX #[k] i fun i k=>(zj P .add zc true j (.string {data:= #[32]}) k fun f g=>f=l∧g=k)∧(zj P .add zc false h d k fun f g=>f=j∧g=k)∧(zj P .add zc true b (.string {data:= #[32]}) k fun f g=>f=h∧g=k)∧zj P .add zc false l i k fun d f=>f=k∧c [d] k) (c [b] e)) (fun b _ c=>yD [(sl 0 b),(.int .i64 0)] c fun b c _ d=>zg P za a 4 d fun d e=>zh P ze d e fun d e=>vbi P .len [ze] zb [d] e fun d e=>zj P .lss zb false (sl 1 c) d e fun d e=>vif d (zj P .add zc true (sl 0 c) (.string {data:= #[32]}) e fun d f=>zg P za a 4 f fun a f=>zh P ze a f fun a f=>zv P ze a (sl 1 c) f fun a f=>zh P za a f fun a f=>vcall P qj #[a] f fun a f=>zj P .add zc false d a f fun a d=>zj P .add zb true (sl 1 c) (.int .i64 1) d fun d f=>b [a,d] f) (zj P .add zc true (sl 0 c) (.string {data:= #[41]}) e fun a b=>R a b)))))
theorem QK [ZP] {v0 w R} (h:Y6 PP v0 w R):vcall PP qj #[v0] w R:=zl {ord:=[(8,[1,2,0,3,4,5,6],[(1,[2,3,4,5,6]),(2,[3,4,5,6]),(0,[3,4,5,6]),(3,[4,5,6]),(4,[5,6]),(5,[6])]),(10,[0,1,2,3,7,8,4,5,6,9,10,11],[(0,[1,5,6,10,11]),(1,[5,6,10,11]),(2,[3,4,5,6,9,10,11]),(3,[4,5,6,9,10,11]),(7,[8,9,10,11]),(8,[9,10,11]),(4,[5,6,9,10,11]),(5,[6,10,11]),(6,[10,11]),(9,[10,11]),(10,[11])])],loops:=[(12,[3,4])],cuts:=[(40971,[3])]} Tryz.func37 (by kernel_rfl) (by kernel_rfl) h
def kF [ZP] (P:Program) (v0:Value) (w:World) (R:Value→World→Prop):Prop:=xO P za v0 w fun a b=>yp P zb b fun b c=>zn P zb b (.int .i64 0) c fun _ c=>zh P za a c fun a c=>vcall P qX #[a,(.int .i64 1),b] c fun a c=>zh P zb b c fun c d=>zj P .gtr zb true c (.int .i64 20) d fun c d=>vif c (R (.tuple #[(.int .i64 21),(.int .i64 8)]) d) (zj P .gtr zb true a (.int .i64 7) d fun c d=>vif c (R (.tuple #[(.int .i64 21),(.int .i64 8)]) d) (zh P zb b d fun b c=>R (.tuple #[b,a]) c))
theorem XC [ZP] {v0 w R} (h:kF PP v0 w R):vcall PP qH #[v0] w R:=zl {} Tryz.func41 (by kernel_rfl) (by kernel_rfl) h
def Yn [ZP] (P:Program) (v0:Value) (w:World) (R:Value→World→Prop):Prop:=vbi P .len [zp] zb [v0] w fun a b=>zj P .gtr zb true a (.int .i64 4) b fun a b=>vif a (R (.bool false) b) (vbi P .len [zp] zb [v0] b fun a b=>yD [(.int .i64 0),(.int .i64 0)] b fun b c _ d=>zj P .lss zb false (sl 1 c) a d fun a d=>vif a (zv P zp v0 (sl 1 c) d fun a e=>zh P zk a e fun a e=>yp P zk e fun e f=>zn P zk e a f fun _ a=>yN (fun f=>zg P zk e 0 a fun a g=>zh P zc a g fun a g=>vbi P .len [zc] zb [a] g fun a g=>zj P .lss zb true a (.int .i64 1) g fun a g=>vif a (R (.bool false) g) (zg P zk e 0 g fun a g=>zh P zc a g fun a g=>vbi P .len [zc] zb [a] g fun a g=>zj P .gtr zb true a (.int .i64 4) g fun a g=>vif a (R (.bool false) g) (zg P zk e 0 g fun a g=>zh P zc a g fun a g=>zj P .eql zc true a (.string {data:= #[116,114,117,101]}) g fun a g=>vif a (R (.bool false) g) (zg P zk e 0 g fun a g=>zh P zc a g fun a g=>vcall P Z3 #[a,(.string {data:= #[97,98,99,100,101,102,103,104,105,106,107,108,109,110,111,112,113,114,115,116,117,118,119,120,121,122]})] g fun a g=>zj P .neq zc true a (.string {data:= #[]}) g fun a g=>vif a (R (.bool false) g) (f [] g))))) (fun _ _ a=>yJ P zp v0 none (some (sl 1 c)) none a fun a f=>vmkF P (.func kh) [] [e] f fun f g=>vcall P zU #[a,f] g fun a f=>vif a (R (.bool false) f) (zg P zk e 1 f fun a f=>zh P zb a f fun a f=>zj P .lss zb true a (.int .i64 1) f fun a f=>vif a (R (.bool false) f) (zg P zk e 1 f fun a f=>zh P zb a f fun a f=>zj P .gtr zb true a (.int .i64 4) f fun a f=>vif a (R (.bool false) f) (zg P zk e 1 f fun a e=>zh P zb a e fun a e=>zj P .add zb false (sl 0 c) a e fun a e=>zj P .add zb true (sl 1 c) (.int .i64 1) e fun e f=>b [a,e] f))))) (zj P .leq zb true (sl 0 c) (.int .i64 8) d fun a b=>R a b))
theorem J2 [ZP] {v0 w R} (h:Yn PP v0 w R):vcall PP jK #[v0] w R:=zl {loops:=[(5,[3,11])],cuts:=[(32777,[])]} Tryz.func42 (by kernel_rfl) (by kernel_rfl) h
end Go.Proofs.YtaemeijeaajoeaaGreatDoor
end
