import Derived.Test.YtaemeijeaajoeaaGreatDoorProg
import Derived.Test.YtaemeijeaajoeaaGreatDoorWraP1
import Derived.WalkKit
import Derived.ProofKit
import Derived.OpenShut
import Derived.ShutString
import Derived.ChangeOld
import Derived.Below
import Derived.JoinedOf
import Derived.Test.YtaemeijeaajoeaaGreatDoorRows
/- A part of the proof. -/
set_option linter.unusedVariables false
set_option linter.unusedSimpArgs false
set_option linter.unnecessarySimpa false
set_option linter.unusedSectionVars false
section
namespace Go.Proofs.YtaemeijeaajoeaaGreatDoor
open Go Go.Vc Go.Proofs
noncomputable abbrev PP:Program:=Tryz.prog
theorem mixed:PP.follows .mixedOrders=true:=by kernel_rfl
abbrev jG:Nat:=4
abbrev qE:Nat:=6
abbrev xy:Nat:=8
abbrev xc:Nat:=14
abbrev yS:Nat:=15
abbrev yR:Nat:=16
abbrev yQ:Nat:=17
abbrev yU:Nat:=18
abbrev xd:Nat:=19
abbrev yT:Nat:=20
abbrev xq:Nat:=22
abbrev xm:Nat:=24
abbrev qW:Nat:=25
abbrev qm:Nat:=31
abbrev xR:Nat:=32
abbrev qp:Nat:=33
abbrev xt:Nat:=34
abbrev jF:Nat:=35
abbrev yY:Nat:=36
abbrev qk:Nat:=37
abbrev zO:Nat:=38
abbrev zn:Nat:=39
abbrev yE:Nat:=40
abbrev qF:Nat:=41
abbrev jH:Nat:=42
abbrev qq:Nat:=43
abbrev yX:Nat:=44
abbrev jB:Nat:=45
abbrev Zn:Nat:=46
abbrev xr:Nat:=47
abbrev xV:Nat:=48
abbrev qn:Nat:=49
abbrev jd:Nat:=50
abbrev jc:Nat:=51
abbrev ja:Nat:=52
abbrev j9:Nat:=53
abbrev zL:Nat:=54
abbrev yN:Nat:=55
abbrev x9:Nat:=56
abbrev jz:Nat:=57
abbrev zT:Nat:=58
abbrev xQ:Nat:=59
abbrev jD:Nat:=60
abbrev jf:Nat:=61
abbrev x8:Nat:=62
abbrev kV:Nat:=63
abbrev jY:Nat:=64
abbrev jA:Nat:=65
abbrev ql:Nat:=66
abbrev j4:Nat:=67
abbrev qV:Nat:=68
abbrev jX:Nat:=69
abbrev jC:Nat:=70
abbrev j6:Nat:=71
abbrev xP:Nat:=72
abbrev yZ:Nat:=73
abbrev qX:Nat:=74
abbrev kU:Nat:=75
abbrev y0:Nat:=76
abbrev k7:Nat:=77
abbrev k6:Nat:=78
abbrev j7:Nat:=79
abbrev xf:Nat:=80
abbrev qC:Nat:=81
abbrev Zo:Nat:=82
abbrev yA:Nat:=83
abbrev yw:Nat:=84
abbrev yC:Nat:=85
abbrev zE:Nat:=86
abbrev yK:Nat:=87
abbrev xW:Nat:=88
abbrev je:Nat:=89
abbrev j8:Nat:=90
abbrev xu:Nat:=91
abbrev j5:Nat:=95
abbrev yH:Nat:=96
abbrev jZ:Nat:=97
abbrev zM:Nat:=105
abbrev jg:Nat:=107
abbrev qU:Nat:=108
abbrev qD:Nat:=109
abbrev kW:Nat:=110
abbrev jE:Nat:=111
abbrev yM:Nat:=112
abbrev xl:Nat:=124
abbrev qo:Nat:=125
abbrev xK:Nat:=126
abbrev qa:Nat:=127
abbrev zV:Nat:=171
abbrev zK:Nat:=172
abbrev xw:Nat:=173
abbrev zJ:Nat:=174
abbrev xi:Nat:=175
abbrev xh:Nat:=176
abbrev xe:Nat:=177
abbrev x5:Nat:=178
abbrev xC:Nat:=179
abbrev xg:Nat:=180
abbrev xx:Nat:=181
abbrev x6:Nat:=182
abbrev yr:Nat:=183
abbrev xD:Nat:=184
abbrev yz:Nat:=185
abbrev xj:Nat:=187
abbrev T_T_:Nat:=0
abbrev ZB:Nat:=2
abbrev zb:Nat:=3
abbrev xa:Nat:=4
abbrev zZ:Nat:=5
abbrev ze:Nat:=9
abbrev Yv:Nat:=21
abbrev zc:Nat:=24
abbrev za:Nat:=26
abbrev zl:Nat:=29
abbrev zu:Nat:=36
abbrev zp:Nat:=49
abbrev zi:Nat:=52
abbrev zx:Nat:=55
abbrev zD:Nat:=72
abbrev zG:Nat:=83
abbrev zS:Nat:=85
abbrev ya:Nat:=86
abbrev zH:Nat:=87
abbrev y6:Nat:=88
abbrev zX:Nat:=89
abbrev y8:Nat:=90
abbrev yf:Nat:=91
abbrev xO:Nat:=92
abbrev zy:Nat:=95
abbrev zf:Nat:=97
abbrev zY:Nat:=98
abbrev JU:Nat:=100
abbrev zW:Nat:=102
abbrev y1:Nat:=108
abbrev zA:Nat:=112
abbrev K8:Nat:=136
abbrev jp:Nat:=137
abbrev Yw:Nat:=145
abbrev xZ:Nat:=167
abbrev yL:Nat:=201
theorem J5:xo PP zb (.int .i64 0):=by unfold xo;kernel_rfl
@[push_cast] theorem o_int:oneB PP zb=true:=by kernel_rfl
@[push_cast] theorem jQ:jy PP zb 1=true:=by kernel_rfl
theorem Ji:W7 PP zb .i64:=by unfold W7;kernel_rfl
theorem W0:(PP.underlying zb).isSome=true:=by kernel_rfl
theorem Wd:xo PP xa (.bool false):=by unfold xo;kernel_rfl
@[push_cast] theorem VZ:jy PP xa 1=true:=by kernel_rfl
@[push_cast] theorem o_uint8:oneB PP zZ=true:=by kernel_rfl
theorem Qx:W7 PP zZ .u8:=by unfold W7;kernel_rfl
theorem YT:(PP.underlying zZ).isSome=true:=by kernel_rfl
theorem qu:xo PP ze (.string ⟨#[]⟩):=by unfold xo;kernel_rfl
@[push_cast] theorem VH:oneB PP ze=true:=by kernel_rfl
@[push_cast] theorem ZF:jy PP ze 1=true:=by kernel_rfl
theorem ji:PP.underlying ze=some .string:=by kernel_rfl
theorem VB:(PP.underlying Yv).isSome=true:=by kernel_rfl
@[push_cast] theorem W5:oneB PP zc=true:=by kernel_rfl
@[push_cast] theorem jR:jy PP zc 1=true:=by kernel_rfl
@[push_cast] theorem kg:elZ PP zc 5 64=true:=by kernel_rfl
theorem qT:PP.underlying zc=some (.slice za):=by kernel_rfl
theorem ZM:K6 PP zc=za:=by kernel_rfl
@[push_cast] theorem W1:isSl PP zc=true:=by kernel_rfl
@[push_cast] theorem Wa:elB PP zc 5=true:=by kernel_rfl
theorem zt:xo PP za (.agg #[(.int .i64 0),(.int .i64 0),(.int .i64 0),(.string ⟨#[]⟩),(.slice none 0 0)]):=by unfold xo;kernel_rfl
theorem xN:strF PP za=some ([(0,1),(1,1),(2,1),(3,1),(4,1)],[(.int .i64 0),(.int .i64 0),(.int .i64 0),(.string ⟨#[]⟩),(.slice none 0 0)]):=by kernel_rfl
@[push_cast] theorem zm:aggB PP za 5=true:=by kernel_rfl
@[push_cast] theorem jt:jy PP za 5=true:=by kernel_rfl
@[push_cast] theorem kh:elZ PP zl 2 24=true:=by kernel_rfl
theorem xU:PP.underlying zl=some (.slice zp):=by kernel_rfl
theorem ZN:K6 PP zl=zp:=by kernel_rfl
@[push_cast] theorem W2:isSl PP zl=true:=by kernel_rfl
@[push_cast] theorem Wb:elB PP zl 2=true:=by kernel_rfl
@[push_cast] theorem o_Luint8:oneB PP zu=true:=by kernel_rfl
@[push_cast] theorem VK:elZ PP zu 1 1=true:=by kernel_rfl
theorem qS:PP.underlying zu=some (.slice zZ):=by kernel_rfl
theorem Jk:K6 PP zu=zZ:=by kernel_rfl
@[push_cast] theorem s_Luint8:isSl PP zu=true:=by kernel_rfl
@[push_cast] theorem VS:elB PP zu 1=true:=by kernel_rfl
theorem xk:xo PP zp (.agg #[(.string ⟨#[]⟩),(.int .i64 0)]):=by unfold xo;kernel_rfl
theorem JT:strF PP zp=some ([(0,1),(1,1)],[(.string ⟨#[]⟩),(.int .i64 0)]):=by kernel_rfl
@[push_cast] theorem Ws:aggB PP zp 2=true:=by kernel_rfl
@[push_cast] theorem qv:jy PP zp 2=true:=by kernel_rfl
@[push_cast] theorem Jd:oneB PP zi=true:=by kernel_rfl
@[push_cast] theorem jN:imapB PP zi=true:=by kernel_rfl
theorem jI:PP.underlying zi=some (.map 3 100):=by kernel_rfl
theorem J1:strF PP zx=some ([(0,1),(1,1)],[(.string ⟨#[]⟩),(.map none)]):=by kernel_rfl
@[push_cast] theorem Jf:elZ PP zD 1 16=true:=by kernel_rfl
theorem qz:PP.underlying zD=some (.slice ze):=by kernel_rfl
theorem Kl:K6 PP zD=ze:=by kernel_rfl
@[push_cast] theorem WR:isSl PP zD=true:=by kernel_rfl
@[push_cast] theorem WY:elB PP zD 1=true:=by kernel_rfl
theorem JA:strF PP zG=some ([(0,1),(1,1)],[(.string ⟨#[]⟩),(.int .i64 0)]):=by kernel_rfl
theorem J0:strF PP zS=some ([(0,2)],[(.string ⟨#[]⟩),(.int .i64 0)]):=by kernel_rfl
theorem Qb:strF PP ya=some ([(0,2)],[(.string ⟨#[]⟩),(.int .i64 0)]):=by kernel_rfl
theorem Qa:strF PP zH=some ([(0,2)],[(.string ⟨#[]⟩),(.int .i64 0)]):=by kernel_rfl
theorem Q8:strF PP y6=some ([(0,2)],[(.string ⟨#[]⟩),(.int .i64 0)]):=by kernel_rfl
theorem XB:strF PP zX=some ([(0,2)],[(.string ⟨#[]⟩),(.int .i64 0)]):=by kernel_rfl
theorem Q9:strF PP y8=some ([(0,2)],[(.string ⟨#[]⟩),(.int .i64 0)]):=by kernel_rfl
theorem J2:strF PP yf=some ([(0,2)],[(.string ⟨#[]⟩),(.int .i64 0)]):=by kernel_rfl
@[push_cast] theorem Wu:elB PP xO 2=true:=by kernel_rfl
theorem XC:strF PP zy=some ([(0,2),(2,1)],[(.string ⟨#[]⟩),(.int .i64 0),.nilFunc]):=by kernel_rfl
theorem xG:xo PP zf (.agg #[(.int .i64 0),(.int .i64 0)]):=by unfold xo;kernel_rfl
theorem jo:strF PP zf=some ([(0,1),(1,1)],[(.int .i64 0),(.int .i64 0)]):=by kernel_rfl
@[push_cast] theorem xM:aggB PP zf 2=true:=by kernel_rfl
theorem Qc:strF PP zY=some ([(0,2)],[(.string ⟨#[]⟩),(.int .i64 0)]):=by kernel_rfl
theorem ZD:xo PP zW (.agg #[]):=by unfold xo;kernel_rfl
@[push_cast] theorem WV:elZ PP y1 1 8=true:=by kernel_rfl
theorem K0:PP.underlying y1=some (.slice zb):=by kernel_rfl
@[push_cast] theorem s_Lint:isSl PP y1=true:=by kernel_rfl
@[push_cast] theorem e_Lint:elB PP y1 1=true:=by kernel_rfl
theorem Jz:strF PP zA=some ([(0,1),(1,1)],[(.slice none 0 0),(.int .i64 0)]):=by kernel_rfl
theorem JP:W7 PP jp .u64:=by unfold W7;kernel_rfl
theorem XJ:fieldB PP za 0 0=true:=by kernel_rfl
@[push_cast] theorem Vn {w:World} {K:Value->World->Prop} (a:Addr):zh PP za (.pointer (some a)) 0 w K=K (.pointer (some (a.add 0))) w:=yy XJ a
theorem XI:fieldB PP za 1 1=true:=by kernel_rfl
@[push_cast] theorem Vm {w:World} {K:Value->World->Prop} (a:Addr):zh PP za (.pointer (some a)) 1 w K=K (.pointer (some (a.add 1))) w:=yy XI a
theorem XH:fieldB PP za 2 2=true:=by kernel_rfl
@[push_cast] theorem Vl {w:World} {K:Value->World->Prop} (a:Addr):zh PP za (.pointer (some a)) 2 w K=K (.pointer (some (a.add 2))) w:=yy XH a
theorem XG:fieldB PP za 3 3=true:=by kernel_rfl
@[push_cast] theorem Vk {w:World} {K:Value->World->Prop} (a:Addr):zh PP za (.pointer (some a)) 3 w K=K (.pointer (some (a.add 3))) w:=yy XG a
theorem XF:fieldB PP za 4 4=true:=by kernel_rfl
@[push_cast] theorem kX {w:World} {K:Value->World->Prop} (a:Addr):zh PP za (.pointer (some a)) 4 w K=K (.pointer (some (a.add 4))) w:=yy XF a
theorem XL:fieldB PP zp 0 0=true:=by kernel_rfl
@[push_cast] theorem Vp {w:World} {K:Value->World->Prop} (a:Addr):zh PP zp (.pointer (some a)) 0 w K=K (.pointer (some (a.add 0))) w:=yy XL a
theorem XK:fieldB PP zp 1 1=true:=by kernel_rfl
@[push_cast] theorem Vo {w:World} {K:Value->World->Prop} (a:Addr):zh PP zp (.pointer (some a)) 1 w K=K (.pointer (some (a.add 1))) w:=yy XK a
theorem YK:fieldB PP zx 0 0=true:=by kernel_rfl
@[push_cast] theorem Kw {w:World} {K:Value->World->Prop} (a:Addr):zh PP zx (.pointer (some a)) 0 w K=K (.pointer (some (a.add 0))) w:=yy YK a
theorem YJ:fieldB PP zx 1 1=true:=by kernel_rfl
@[push_cast] theorem Kv {w:World} {K:Value->World->Prop} (a:Addr):zh PP zx (.pointer (some a)) 1 w K=K (.pointer (some (a.add 1))) w:=yy YJ a
theorem Xe:fieldB PP zG 0 0=true:=by kernel_rfl
@[push_cast] theorem V4 {w:World} {K:Value->World->Prop} (a:Addr):zh PP zG (.pointer (some a)) 0 w K=K (.pointer (some (a.add 0))) w:=yy Xe a
theorem Xd:fieldB PP zG 1 1=true:=by kernel_rfl
@[push_cast] theorem V3 {w:World} {K:Value->World->Prop} (a:Addr):zh PP zG (.pointer (some a)) 1 w K=K (.pointer (some (a.add 1))) w:=yy Xd a
theorem QC:fieldB PP zf 0 0=true:=by kernel_rfl
@[push_cast] theorem VQ {w:World} {K:Value->World->Prop} (a:Addr):zh PP zf (.pointer (some a)) 0 w K=K (.pointer (some (a.add 0))) w:=yy QC a
theorem QB:fieldB PP zf 1 1=true:=by kernel_rfl
@[push_cast] theorem VO {w:World} {K:Value->World->Prop} (a:Addr):zh PP zf (.pointer (some a)) 1 w K=K (.pointer (some (a.add 1))) w:=yy QB a
theorem Xc:fieldB PP zA 0 0=true:=by kernel_rfl
@[push_cast] theorem kj {w:World} {K:Value->World->Prop} (a:Addr):zh PP zA (.pointer (some a)) 0 w K=K (.pointer (some (a.add 0))) w:=yy Xc a
theorem Xb:fieldB PP zA 1 1=true:=by kernel_rfl
@[push_cast] theorem Xf {w:World} {K:Value->World->Prop} (a:Addr):zh PP zA (.pointer (some a)) 1 w K=K (.pointer (some (a.add 1))) w:=yy Xb a
noncomputable def mn_kids:String:=match PP.info? 85 with|some i=>(match i.methods[0]? with|some m=>m.name|none=>default)|none=>default
noncomputable def qG:String:=match PP.info? 85 with|some i=>(match i.methods[1]? with|some m=>m.name|none=>default)|none=>default
noncomputable def xL:String:=match PP.info? 85 with|some i=>(match i.methods[3]? with|some m=>m.name|none=>default)|none=>default
theorem XM:concB PP zS=true:=by kernel_rfl
@[push_cast] theorem Vi {w:World} {K:Value->World->Prop} (v:Value):Yk PP zS v w K=K (.iface zS v) w:=jv XM v
theorem Zq (a b:Value) (w:World):(method (PP.types.size+Made.depth) zS (.agg ⟨[a,b]⟩) mn_kids).run PP w= .ok (zV,.agg ⟨[a,b]⟩) w:=by kernel_rfl
theorem Zp (a b:Value) (w:World):(method (PP.types.size+Made.depth) zS (.agg ⟨[a,b]⟩) qG).run PP w= .ok (xw,.agg ⟨[a,b]⟩) w:=by kernel_rfl
theorem qH (a b:Value) (w:World):(method (PP.types.size+Made.depth) zS (.agg ⟨[a,b]⟩) xL).run PP w= .ok (zK,.agg ⟨[a,b]⟩) w:=by kernel_rfl
theorem Xo:concB PP ya=true:=by kernel_rfl
@[push_cast] theorem KP {w:World} {K:Value->World->Prop} (v:Value):Yk PP ya v w K=K (.iface ya v) w:=jv Xo v
theorem kM (a b:Value) (w:World):(method (PP.types.size+Made.depth) ya (.agg ⟨[a,b]⟩) mn_kids).run PP w= .ok (zV,.agg ⟨[a,b]⟩) w:=by kernel_rfl
theorem kL (a b:Value) (w:World):(method (PP.types.size+Made.depth) ya (.agg ⟨[a,b]⟩) qG).run PP w= .ok (xi,.agg ⟨[a,b]⟩) w:=by kernel_rfl
theorem qd (a b:Value) (w:World):(method (PP.types.size+Made.depth) ya (.agg ⟨[a,b]⟩) xL).run PP w= .ok (zK,.agg ⟨[a,b]⟩) w:=by kernel_rfl
theorem Xn:concB PP zH=true:=by kernel_rfl
@[push_cast] theorem KO {w:World} {K:Value->World->Prop} (v:Value):Yk PP zH v w K=K (.iface zH v) w:=jv Xn v
theorem kK (a b:Value) (w:World):(method (PP.types.size+Made.depth) zH (.agg ⟨[a,b]⟩) mn_kids).run PP w= .ok (zV,.agg ⟨[a,b]⟩) w:=by kernel_rfl
theorem kJ (a b:Value) (w:World):(method (PP.types.size+Made.depth) zH (.agg ⟨[a,b]⟩) qG).run PP w= .ok (xh,.agg ⟨[a,b]⟩) w:=by kernel_rfl
theorem qc (a b:Value) (w:World):(method (PP.types.size+Made.depth) zH (.agg ⟨[a,b]⟩) xL).run PP w= .ok (zK,.agg ⟨[a,b]⟩) w:=by kernel_rfl
theorem Xl:concB PP y6=true:=by kernel_rfl
@[push_cast] theorem KM {w:World} {K:Value->World->Prop} (v:Value):Yk PP y6 v w K=K (.iface y6 v) w:=jv Xl v
theorem kG (a b:Value) (w:World):(method (PP.types.size+Made.depth) y6 (.agg ⟨[a,b]⟩) mn_kids).run PP w= .ok (zV,.agg ⟨[a,b]⟩) w:=by kernel_rfl
theorem kF (a b:Value) (w:World):(method (PP.types.size+Made.depth) y6 (.agg ⟨[a,b]⟩) qG).run PP w= .ok (xe,.agg ⟨[a,b]⟩) w:=by kernel_rfl
theorem kE (a b:Value) (w:World):(method (PP.types.size+Made.depth) y6 (.agg ⟨[a,b]⟩) xL).run PP w= .ok (zK,.agg ⟨[a,b]⟩) w:=by kernel_rfl
theorem YL:concB PP zX=true:=by kernel_rfl
@[push_cast] theorem Kt {w:World} {K:Value->World->Prop} (v:Value):Yk PP zX v w K=K (.iface zX v) w:=jv YL v
theorem kc (a b:Value) (w:World):(method (PP.types.size+Made.depth) zX (.agg ⟨[a,b]⟩) mn_kids).run PP w= .ok (zV,.agg ⟨[a,b]⟩) w:=by kernel_rfl
theorem ka (a b:Value) (w:World):(method (PP.types.size+Made.depth) zX (.agg ⟨[a,b]⟩) qG).run PP w= .ok (x5,.agg ⟨[a,b]⟩) w:=by kernel_rfl
theorem k9 (a b:Value) (w:World):(method (PP.types.size+Made.depth) zX (.agg ⟨[a,b]⟩) xL).run PP w= .ok (zK,.agg ⟨[a,b]⟩) w:=by kernel_rfl
theorem Xm:concB PP y8=true:=by kernel_rfl
@[push_cast] theorem KN {w:World} {K:Value->World->Prop} (v:Value):Yk PP y8 v w K=K (.iface y8 v) w:=jv Xm v
theorem kI (a b:Value) (w:World):(method (PP.types.size+Made.depth) y8 (.agg ⟨[a,b]⟩) mn_kids).run PP w= .ok (zV,.agg ⟨[a,b]⟩) w:=by kernel_rfl
theorem kH (a b:Value) (w:World):(method (PP.types.size+Made.depth) y8 (.agg ⟨[a,b]⟩) qG).run PP w= .ok (xg,.agg ⟨[a,b]⟩) w:=by kernel_rfl
theorem qb (a b:Value) (w:World):(method (PP.types.size+Made.depth) y8 (.agg ⟨[a,b]⟩) xL).run PP w= .ok (zK,.agg ⟨[a,b]⟩) w:=by kernel_rfl
theorem XN:concB PP yf=true:=by kernel_rfl
@[push_cast] theorem Vj {w:World} {K:Value->World->Prop} (v:Value):Yk PP yf v w K=K (.iface yf v) w:=jv XN v
theorem Zs (a b:Value) (w:World):(method (PP.types.size+Made.depth) yf (.agg ⟨[a,b]⟩) mn_kids).run PP w= .ok (zV,.agg ⟨[a,b]⟩) w:=by kernel_rfl
theorem Zr (a b:Value) (w:World):(method (PP.types.size+Made.depth) yf (.agg ⟨[a,b]⟩) qG).run PP w= .ok (xx,.agg ⟨[a,b]⟩) w:=by kernel_rfl
theorem qI (a b:Value) (w:World):(method (PP.types.size+Made.depth) yf (.agg ⟨[a,b]⟩) xL).run PP w= .ok (zK,.agg ⟨[a,b]⟩) w:=by kernel_rfl
theorem YM:concB PP zy=true:=by kernel_rfl
@[push_cast] theorem Ku {w:World} {K:Value->World->Prop} (v:Value):Yk PP zy v w K=K (.iface zy v) w:=jv YM v
theorem kf (a b c:Value) (w:World):(method (PP.types.size+Made.depth) zy (.agg ⟨[a,b,c]⟩) mn_kids).run PP w= .ok (zV,.agg ⟨[a,b]⟩) w:=by kernel_rfl
theorem ke (a b c:Value) (w:World):(method (PP.types.size+Made.depth) zy (.agg ⟨[a,b,c]⟩) qG).run PP w= .ok (x6,.agg ⟨[a,b,c]⟩) w:=by kernel_rfl
theorem xX (a b c:Value) (w:World):(method (PP.types.size+Made.depth) zy (.agg ⟨[a,b,c]⟩) xL).run PP w= .ok (zK,.agg ⟨[a,b]⟩) w:=by kernel_rfl
theorem Xp:concB PP zY=true:=by kernel_rfl
@[push_cast] theorem KQ {w:World} {K:Value->World->Prop} (v:Value):Yk PP zY v w K=K (.iface zY v) w:=jv Xp v
theorem kO (a b:Value) (w:World):(method (PP.types.size+Made.depth) zY (.agg ⟨[a,b]⟩) mn_kids).run PP w= .ok (zV,.agg ⟨[a,b]⟩) w:=by kernel_rfl
theorem kN (a b:Value) (w:World):(method (PP.types.size+Made.depth) zY (.agg ⟨[a,b]⟩) qG).run PP w= .ok (xj,.agg ⟨[a,b]⟩) w:=by kernel_rfl
theorem qe (a b:Value) (w:World):(method (PP.types.size+Made.depth) zY (.agg ⟨[a,b]⟩) xL).run PP w= .ok (zK,.agg ⟨[a,b]⟩) w:=by kernel_rfl
end Go.Proofs.YtaemeijeaajoeaaGreatDoor
end
section
namespace Go.Proofs.YtaemeijeaajoeaaGreatDoor
open Go Go.Vc Go.Proofs
open Go.ChangeShapes Go.WideShapes Go.ChangeAt Go.RowKit
theorem Wk:ownKnob PP.godebug=none:=by kernel_rfl
theorem Zk:laidOutB PP=true:=by kernel_rfl
def restFacts (P:Program) (f:FuncId) (fn:Func) (s:ChangeSpec) (c:OpenClaim):Bool:=
 c.wf (OpenSpec.ofChange s)&&
 fn.params.all (P.readableRec ·)&&namedTie P c.named s.vars&&
 (c.stops==[])&&(P.stops==[])&&(c.knobs==[])&&(P.stopKnobs==[])&&
 (c.maps==(fn.params.toList++s.plain.varTypes P).any (P.mapsRec ·))&&(c.ifaces==(fn.params.toList++s.plain.varTypes P).any (P.ifacesRec ·))&&(c.mapsOut==P.mapsAmong fn.resultTypes.toList)&&
 (c.loops==(fn.params.toList++s.plain.varTypes P).any (P.loopsFrom ·))&&(c.wideKeys==(fn.params.toList++s.plain.varTypes P++fn.resultTypes.toList).any (P.wideKeysFrom ·))&&
 s.vars.all (P.varReadable ·)&&fn.resultTypes.all (fun t=>P.readableRec t&&decide (t<P.types.size))&&(c.ifacesOut==fn.resultTypes.toList.any (P.ifacesRec ·))&&(c.loopsOut==fn.resultTypes.toList.any (P.loopsFrom ·))&&(c.plainKeys==P.plainKeys)&&c.shortTexts.isNone&&P.stopsHeard&&P.mayEnter&&(c.lifted==P.liftsFinal)&&(P.make==some c.make)&&(c.kinds==(if c.domain.isEmpty then[] else fn.params.toList.map fun t=>match P.underlying t with|some (.int k)=>some k|_=>none))&&(c.pinned==c.pinnedBy)&&
 (c.veiled==(fn.params.toList++s.plain.varTypes P++fn.resultTypes.toList).any (P.veiledRec ·))&&c.veiledFits P fn.params.toList (fn.params.toList++s.plain.varTypes P++fn.resultTypes.toList)
theorem KY {P:Program} {f:FuncId} {fn:Func} {s:ChangeSpec} {c:OpenClaim} (b:laidOutB P=true) (d:mapsRowed P=true) (e:(c.inPlace==P.inPlace f)=true) (g:(c.unfollowed==P.unfollowed f)=true)
  (h:(c.recurses==P.recurses f)=true) (i:(c.named==P.varsNamed f)=true) (a:restFacts P f fn s c=true):joinedFacts P f fn s c=true:=by
 unfold restFacts at a;unfold joinedFacts;rw[b,d,e,g,h,i];simp only[Bool.and_true];exact a
theorem VF:mapsRowed PP=true:=by kernel_rfl
theorem V5 {w w':World} (h:Ext w w'):Below w.heap.size w w':=⟨h.os,h.tape,h.output,h.size,fun k a=>h.block k a id⟩
theorem u8_wf {n:Int} (h:(Lit.int .u8 n).wf=true):0<=n/\n<256:=by
 simp only[Lit.wf,Bool.and_eq_true,decide_eq_true_eq] at h;have a:IntKind.u8.min=0:=by decide
 have b:IntKind.u8.max=255:=by decide
 omega
def Qo (w:World) (v:Value) (xs:List Nat):Prop:=Vals (fun _=>True) w v (xs.map fun x=>Value.int .u8 (x:Nat))∧∀x,x∈xs→x<256
theorem Jx (w:World):Qo w (.slice none 0 0) []:=⟨⟨⟨none,0,rfl,by simp,by simp,fun h=>absurd rfl h⟩,by simp⟩,by simp⟩
theorem bytes_of {w:World} {x:Addr} {len cap:Nat} {zs:List Int} (A:len<=cap) (hm:cap<=maxLen) (B:zs.length=cap) (a:∀i,i<zs.length->w.cell? (x.add i)=some (.int .u8 (zs.getD i 0))) (o:∀n,n∈zs->(Lit.int .u8 n).wf=true):
  Qo w (.slice (some x) len cap) ((zs.take len).map Int.toNat):=by
 have c:∀n,n∈zs.take len->0<=n/\n<256:=fun n l=>u8_wf (o n (List.mem_of_mem_take l));refine⟨⟨⟨some x,cap,?_,?_,by unfold maxLen at hm;exact hm,fun m=>?_⟩,fun y p=>by obtain⟨u,_,rfl⟩:=List.mem_map.1 p;rfl⟩,fun y p=>?_⟩
 ·simp only[List.length_map,List.length_take];rw[Nat.min_eq_left (by omega)]
 ·simp only[List.length_map,List.length_take];omega
 ·have hlen:0<len:=by
   refine Nat.pos_of_ne_zero fun e=>m ?_;subst e;simp
  obtain⟨b,off,spot⟩:=x;have f:=a 0 (by omega);have d:spot=none:=(by simpa[Addr.add] using World.cell?_spot f);subst d;refine⟨b,off,rfl,trivial,World.block_lt_of_cell? w _ f,fun i r=>?_⟩;simp only[List.length_map,List.length_take] at r;intro j v h;have hit:i<(zs.take len).length:=by simp only[List.length_take];omega
  have t:((((zs.take len).map Int.toNat).map fun x=>Value.int .u8 (x:Nat)).map fun x=>[x]).getD i []=[Value.int .u8 (((zs.take len)[i].toNat:Nat):Int)]:=by
   simp[List.getD_eq_getElem?_getD,r]
  rw[t] at h;have z:j=0:=by
   cases j with
   |zero=>rfl
   |succ j=>simp at h
  subst z;simp only[List.getElem?_cons_zero,Option.some.injEq] at h;subst h;have g:i<zs.length:=(by omega);have q:=a i g;have k:=c _ (List.getElem_mem hit);have s:zs.getD i 0=(zs.take len)[i]:=(by simp[List.getD_eq_getElem?_getD,g]);rw[s,yD] at q;rw[Int.toNat_of_nonneg k.1,yD,Nat.add_zero,Nat.mul_one];exact q
 ·obtain⟨n,l,rfl⟩:=List.mem_map.1 p;have:=c n l;omega
end Go.Proofs.YtaemeijeaajoeaaGreatDoor
end
section
namespace Go.Proofs.YtaemeijeaajoeaaGreatDoor.fnTerm
open Go Go.Vc Go.Proofs
open Go.ChangeShapes Go.WideShapes Go.ChangeAt Go.RowKit
theorem f_inPlace:(Rows.fnTermRow.inPlace==Tryz.prog.inPlace 4)=true:=by kernel_rfl
theorem f_unfollowed:(Rows.fnTermRow.unfollowed==Tryz.prog.unfollowed 4)=true:=by kernel_rfl
theorem f_recurses:(Rows.fnTermRow.recurses==Tryz.prog.recurses 4)=true:=by kernel_rfl
theorem f_named:(Rows.fnTermRow.named==Tryz.prog.varsNamed 4)=true:=by kernel_rfl
theorem f_rest:restFacts Tryz.prog 4 Tryz.f4 Rows.fnTermSpec Rows.fnTermRow=true:=by kernel_rfl
end Go.Proofs.YtaemeijeaajoeaaGreatDoor.fnTerm
end
section
namespace Go.M
open Go.Vc
def oneM (t:Tm) (a:Int):Int:=
 if t.op=25 then(if a=0 then 0 else-1) else if a<1 then-1
 else if t.op=22 then(if 0≤t.b∧t.b≤t.a∧t.a<a then t.a-t.b+1 else-1) else a
def bothM (o a b:Int):Int:=
 if o=26∨o=27 then(if a=0∧b=0 then 0 else-1)
 else if a<1∨b<1 then-1
 else if o=14 then(if a+b≤4 then a+b else-1)
 else if a≠b then-1 else if 15≤o then 0 else a
section
variable {ds:List Dcl} {env:List Int} {t:Tm}
def kid (t:Tm) (i:Nat):Tm:=t.ks.getD i default
theorem formed_iff:formed t=true↔arity t.op=t.ks.length/\plainM t=true:=by simp[formed]
theorem arity_one {o:Int} (h:arity o=1):o=1\/o=2\/o=22\/o=25:=by
 grind [arity]
theorem arity_two {o:Int} (h:arity o=2):(3<=o/\o<=17)\/o=26\/o=27:=by
 grind [arity]
theorem arity_three {o:Int} (h:arity o=3):o=23:=by
 grind [arity]
theorem ks1 (h:t.ks.length=1):t.ks=[kid t 0]:=by
 unfold kid;generalize t.ks=ks at h⊢
 match ks,h with
 |[x],_=>rfl
theorem ks2 (h:t.ks.length=2):t.ks=[kid t 0,kid t 1]:=by
 unfold kid;generalize t.ks=ks at h⊢
 match ks,h with
 |[x,y],_=>rfl
theorem ks3 (h:t.ks.length=3):t.ks=[kid t 0,kid t 1,kid t 2]:=by
 unfold kid;generalize t.ks=ks at h⊢
 match ks,h with
 |[x,y,z],_=>rfl
theorem kid_mem {i:Nat} (h:i<t.ks.length):kid t i∈t.ks:=getD_mem h _
theorem sort_bad (h: ¬formed t=true):sortM ds t= -1:=by
 rw[sortM_eq];simp_all[sortF]
theorem sort_leaf (a:formed t=true) (h:t.ks.length=0):sortM ds t=sortK ds t []:=by
 simp_all[sortM_eq,sortF]
theorem sort_one (i:declOk ds=true) (f:formed t=true) (h:t.ks.length=1):sortM ds t=oneM t (sortM ds (kid t 0)):=by
 have k:=arity_one (o:=t.op) (by have:=(formed_iff.1 f).1;omega);have j:=sort_range i (kid t 0);rw[sortM_eq,ks1 h];unfold sortF;simp only[List.map_cons,List.map_nil,List.mem_singleton];generalize sortM ds (kid t 0)=s at j⊢;unfold oneM;by_cases g:s= -1
 ·subst g;rw[if_neg (by simp)];split
  ·split<;>omega
  ·rfl
 ·rw[if_pos ⟨f,fun e=>g e.symm⟩];unfold sortK;rw[if_neg (by omega),if_neg (by omega)];by_cases c:t.op=25
  ·rw[if_pos (by omega),if_pos c];by_cases d:s=0
   ·simp[d]
   ·simp[d]
  rw[if_neg (by omega),if_neg c,if_neg (by omega)];simp only[List.getD_cons_zero];by_cases a:t.op=22
  ·rw[if_pos a,if_pos a];by_cases b:s<1
   ·rw[if_pos b,if_neg (by omega)]
   ·rw[if_neg b]
  ·rw[if_neg a,if_neg a,if_pos (by omega)];by_cases b:s<1
   ·rw[if_pos b,if_neg (by omega)]
   ·rw[if_neg b,if_pos (by omega)]
theorem sort_two (d:declOk ds=true) (e:formed t=true) (h:t.ks.length=2):sortM ds t=bothM t.op (sortM ds (kid t 0)) (sortM ds (kid t 1)):=by
 have i:=arity_two (o:=t.op) (by have:=(formed_iff.1 e).1;omega);have f:=sort_range d (kid t 0);have c:=sort_range d (kid t 1);rw[sortM_eq,ks2 h];unfold sortF;simp only[List.map_cons,List.map_nil,List.mem_cons,List.not_mem_nil,or_false];generalize sortM ds (kid t 0)=a at f⊢;generalize sortM ds (kid t 1)=b at c⊢;unfold bothM;by_cases g: -1=a\/ -1=b
 ·omega
 ·rw[if_pos ⟨e,g⟩];unfold sortK
  grind
theorem sort_three (e:formed t=true) (h:t.ks.length=3):sortM ds t=if sortM ds (kid t 0)≠0\/sortM ds (kid t 1)≠sortM ds (kid t 2) then-1 else sortM ds (kid t 1):=by
 have g:=arity_three (o:=t.op) (by have:=(formed_iff.1 e).1;omega);rw[sortM_eq,ks3 h];unfold sortF;simp only[List.map_cons,List.map_nil,List.mem_cons,List.not_mem_nil,or_false];generalize sortM ds (kid t 0)=a;generalize sortM ds (kid t 1)=b;generalize sortM ds (kid t 2)=c;by_cases f: -1=a\/ -1=b\/ -1=c
 ·rw[if_neg (fun x=>x.2 f)];split
  ·rfl
  ·omega
 ·rw[if_pos ⟨e,f⟩];unfold sortK;rw[if_neg (by omega),if_neg (by omega),if_neg (by omega),if_pos g];simp only[List.getD_cons_zero,List.getD_cons_succ];by_cases d:a=0/\b=c
  ·rw[if_pos d,if_neg (by omega)]
  ·rw[if_neg d,if_pos (by omega)]
theorem name_found (h:sortM ds t≠ -1) (a:t.op=21):0<=findD ds t.s:=by
 obtain⟨_,_,b⟩:=sort_parts h
 grind [sortK]
end
def wordL (o:Int):List UInt8:=
 if o=1 then[110,111,116] else if o=2 then[110,101,103] else if o=3 then[97,110,100] else if o=4 then[111,114] else if o=5 then[120,111,114]
 else if o=6 then[97,100,100] else if o=7 then[115,117,98] else if o=8 then[109,117,108] else if o=9 then[100,105,118] else if o=10 then[114,101,109]
 else if o=11 then[115,104,108] else if o=12 then[115,104,114] else if o=13 then[115,97,114] else if o=14 then[99,97,116] else if o=15 then[115,97,109,101]
 else if o=16 then[108,101,115,115] else if o=17 then[117,110,100,101,114] else if o=22 then[99,117,116] else if o=23 then[105,102] else if o=25 then[110,111]
 else if o=26 then[98,111,116,104] else if o=27 then[97,110,121] else[]
end Go.M
end
section
namespace Go.M
def vecL (w n:Nat):List UInt8:=35::(List.range w).reverse.map fun i=>if n/2^i%2=1 then 49 else 48
def digL (n:Int):List UInt8:=[UInt8.ofNat (48+n.toNat)]
def textF (t:Tm) (xs:List (List UInt8)):List UInt8:=
 if t.op=20 then vecL t.a.toNat t.b.toNat else if t.op=21 then t.s.data.toList else if t.op=24 then[116,114,117,101]
 else 40::(wordL t.op++((if t.op=22 then 32::(digL t.a++32::digL t.b) else[])++(xs.flatMap (fun x=>32::x)++[41])))
def textL:Tm→List UInt8:=Tm.fold textF
theorem textL_eq (t:Tm):textL t=textF t (t.ks.map textL):=Tm.fold_eq _ t
def Stop (r:List UInt8):Prop:=∀c,r.head?=some c→c=32∨c=41
def Free (a:List UInt8):Prop:=∀c,c∈a→c≠32∧c≠41
theorem atom_cancel:∀{a b r s:List UInt8},Free a->Free b->Stop r->Stop s->a++r=b++s->a=b/\r=s
 |[],[],r,s,_,_,_,_,h=>⟨rfl,h⟩
 |[],y::b,r,s,_,g,j,_,h=>by
  have d:r=y::(b++s):=h;have l:=g y List.mem_cons_self;rcases j y (by grind) with e|e
  ·grind
  grind
 |x::a,[],r,s,f,_,_,k,h=>by
  have d:s=x::(a++r):=h.symm;have l:=f x List.mem_cons_self;rcases k x (by grind) with e|e
  ·grind
  grind
 |x::a,y::b,r,s,f,g,j,k,h=>by
  have d:x::(a++r)=y::(b++s):=h;simp only[List.cons.injEq] at d;obtain⟨rfl,d⟩:=d;obtain⟨rfl,e⟩:=atom_cancel (fun c i=>f c (List.mem_cons_of_mem _ i)) (fun c i=>g c (List.mem_cons_of_mem _ i)) j k d
  grind
theorem stop_cons {c:UInt8} {r:List UInt8} (h:c=32\/c=41):Stop (c::r):=fun d a=>by
 grind
theorem word_free:∀o:Fin 28,Free (wordL o):=by unfold Free;decide+kernel
theorem word_inj:∀o p:Fin 28,wordL o=wordL p->wordL o≠[]->o=p:=by decide+kernel
theorem word_ne:∀o:Fin 28,1<=o.1->(o.1<=17\/o.1=22\/o.1=23\/25<=o.1)->wordL o≠[]:=by decide+kernel
theorem vec_inj:∀w:Fin 5,∀a:Fin 16,∀v:Fin 5,∀b:Fin 16,a.1<2^w.1->b.1<2^v.1->vecL w a=vecL v b->w=v/\a=b:=by decide+kernel
theorem vec_free (w n:Nat):Free (vecL w n):=fun c a=>by
 grind [vecL]
theorem dig_inj:∀a b:Fin 4,digL a=digL b->a=b:=by decide+kernel
theorem dig_free:∀a:Fin 4,Free (digL a):=by unfold Free;decide+kernel
section
variable {ds:List Dcl} {t u:Tm}
theorem name_ok (d:declOk ds=true) (j:sortM ds t≠ -1) (i:t.op=21):t.s.data.toList≠[]/\t.s≠tru/\∀c,c∈t.s.data.toList->97<=c.toNat/\c.toNat<=122:=by
 have f:=name_found j i;have h:(findD ds t.s).toNat<ds.length:=by have:=(findD_lt ds t.s).2;omega
 have g:=findD_get f;have a:=(decl_iff.1 d).2.1 _ h;unfold dclOk at a;rw[g] at a;simp only[Bool.and_eq_true,decide_eq_true_eq,nameOk] at a;obtain⟨⟨⟨⟨⟨⟨k,l⟩,b⟩,m⟩,_⟩,_⟩,_⟩:=a;refine⟨fun e=>?_,b,fun c n=>?_⟩
 ·have:t.s.size=0:=by show t.s.data.size=0;simp_all
  omega
 grind [Array.all_eq_true']
theorem right_op (a:sortM ds t≠ -1):arity t.op=t.ks.length/\plainM t=true/\((1<=t.op/\t.op<=17)\/(20<=t.op/\t.op<=27)):=by
 obtain⟨b,_,_⟩:=sort_parts a;simp_all[formed_iff,arity_ops]
theorem leaf_arity {o:Int} (h:o=20\/o=21\/o=24):arity o=0:=by unfold arity;omega
theorem node_arity {o:Int} (h:(1<=o/\o<=17)\/(20<=o/\o<=27)) (a: ¬(o=20\/o=21\/o=24)):1<=arity o:=by
 grind [arity]
theorem vec_ok (c:sortM ds t≠ -1) (d:t.op=20):vok t.a t.b=true:=by
 have h:=(sort_parts c).2.2
 grind [sortK]
theorem cut_ab (d:declOk ds=true) (c:sortM ds t≠ -1) (f:t.op=22):0<=t.b/\t.b<=t.a/\t.a<4:=by
 have h:=(sort_parts c).2.2;have g:(t.ks.map (sortM ds)).getD 0 0<=4:=by
  by_cases e:0<t.ks.length
  ·simp_all[sort_range]
  grind
 grind [sortK]
theorem atom_text (f:declOk ds=true) (i:sortM ds t≠ -1) (h:t.op=20\/t.op=21\/t.op=24):textL t=textF t []/\Free (textL t)/\textL t≠[]/\∀c,(textL t).head?=some c->c≠40:=by
 have g:t.ks=[]:=by grind [List.eq_nil_of_length_eq_zero,right_op,leaf_arity]
 have e:textL t=textF t []:=by rw[textL_eq,g];rfl
 refine⟨e,?_⟩;rw[e];unfold textF;rcases h with o|o|o
 ·rw[if_pos o]
  grind [vec_free,vecL]
 ·rw[if_neg (by omega),if_pos o];obtain⟨d,j,b⟩:=name_ok f i o;refine⟨fun c a=>?_,d,fun c a=>?_⟩
  ·have:=b c a;exact⟨fun e=>by simp_all,fun e=>by simp_all⟩
  ·have:=b c (List.mem_of_mem_head? a);intro e;simp_all
 grind [Free]
theorem tm_extT {t u:Tm} (c:t.op=u.op) (d:t.a=u.a) (e:t.b=u.b) (f:t.s=u.s) (g:t.ks=u.ks):t=u:=by
 cases t;cases u
 grind [Tm.op,Tm.a,Tm.b,Tm.s,Tm.ks]
theorem plain_ab (h:plainM t=true) (c:t.op≠20/\t.op≠22):t.a=0/\t.b=0:=by
 grind [plainM]
theorem plain_s (h:plainM t=true) (a:t.op≠21):t.s=nada:=by
 grind [plainM]
theorem atom_inj (i:declOk ds=true) (f:sortM ds t≠ -1) (hu:sortM ds u≠ -1) (m:t.op=20\/t.op=21\/t.op=24) (n:u.op=20\/u.op=21\/u.op=24) (h:textL t=textL u):t=u:=by
 have z:t.ks=[]:=by grind [List.eq_nil_of_length_eq_zero,right_op,leaf_arity]
 have q:u.ks=[]:=by grind [List.eq_nil_of_length_eq_zero,right_op,leaf_arity]
 have k:=(right_op f).2.1;have d:=(right_op hu).2.1;rw[(atom_text i f m).1,(atom_text i hu n).1] at h;unfold textF at h;have letter:∀{v:Tm},sortM ds v≠ -1->v.op=21->∀c r,v.s.data.toList=c::r->97<=c.toNat:=by grind [name_ok,List.mem_cons_self]
 have notrue:∀{v:Tm},sortM ds v≠ -1->v.op=21->v.s.data.toList=[116,114,117,101]->False:=fun{v} w j e=>(name_ok i w j).2.1 (by
  have:v.s.data= #[116,114,117,101]:=(by grind);show v.s=tru;have g:v.s=⟨v.s.data⟩:=rfl;rw[g,this];rfl)
 rcases m with o|o|o<;>rcases n with p|p|p
 ·rw[if_pos o,if_pos p] at h;have v1:=vok_lt (vec_ok f o);have v2:=vok_lt (vec_ok hu p);have A:=vok_iff.1 (vec_ok f o);have B:=vok_iff.1 (vec_ok hu p);have l:((2^t.a.toNat:Nat):Int)=2^t.a.toNat:=(by simp);have g:((2^u.a.toNat:Nat):Int)=2^u.a.toNat:=(by simp);have:=vec_inj ⟨t.a.toNat,by omega⟩ ⟨t.b.toNat,by omega⟩ ⟨u.a.toNat,by omega⟩ ⟨u.b.toNat,by omega⟩ (by grind) (by grind) h
  grind [tm_extT,plain_s]
 ·rw[if_pos o,if_neg (by omega),if_pos p] at h;exact absurd (letter hu p 35 _ h.symm) (by decide)
 ·grind [vecL]
 ·rw[if_neg (by omega),if_pos o,if_pos p] at h;exact absurd (letter f o 35 _ h) (by decide)
 ·rw[if_neg (by omega),if_pos o,if_neg (by omega),if_pos p] at h;obtain⟨x,b1⟩:=plain_ab k (by omega);obtain⟨a2,y⟩:=plain_ab d (by omega);refine tm_extT (by omega) (by omega) (by omega) ?_ (by grind);have:=Array.toList_inj.1 h;have l:t.s=⟨t.s.data⟩:=rfl;have g:u.s=⟨u.s.data⟩:=rfl;rw[l,g,this]
 ·grind
 ·grind [vecL]
 ·grind
 grind [plain_ab,tm_extT,plain_s]
theorem kids_inj:∀{ks us:List Tm} {r s:List UInt8},ks.length=us.length->(∀k,k∈ks->∀u,u∈us->∀r s,Stop r->Stop s->textL k++r=textL u++s->k=u/\r=s)->
  (ks.map textL).flatMap (fun x=>32::x)++41::r=(us.map textL).flatMap (fun x=>32::x)++41::s->ks=us/\r=s
 |[],[],r,s,_,_,h=>by
  grind
 |[],_::_,_,_,b,_,_=>by simp at b
 |_::_,[],_,_,b,_,_=>by simp at b
 |k::ks,u::us,r,s,b,c,h=>by
  simp only[List.map_cons,List.flatMap_cons,List.cons_append,List.append_assoc,List.cons.injEq,true_and] at h;have st:∀(l:List Tm) (r:List UInt8),Stop ((l.map textL).flatMap (fun x=>32::x)++41::r):=fun l r=>by
   cases l with
   |nil=>exact stop_cons (.inr rfl)
   |cons a l=>exact stop_cons (.inl rfl)
  obtain⟨he,h⟩:=c k List.mem_cons_self u List.mem_cons_self _ _ (st _ _) (st _ _) h;obtain⟨rfl,e⟩:=kids_inj (by grind) (fun k d u hu=>c k (List.mem_cons_of_mem _ d) u (List.mem_cons_of_mem _ hu)) h
  grind
theorem text_inj' (i:declOk ds=true):∀t:Tm,sortM ds t≠ -1->∀u:Tm,sortM ds u≠ -1->∀r s,Stop r->Stop s->textL t++r=textL u++s->t=u/\r=s:=by
 refine Tm.ind fun t K j u hu r s W J h=>?_;obtain⟨ar,pl,op⟩:=right_op j;obtain⟨C,Q,w⟩:=right_op hu;have comp:∀{v:Tm},¬(v.op=20\/v.op=21\/v.op=24)->textL v=40::(wordL v.op++((if v.op=22 then 32::(digL v.a++32::digL v.b) else[])++((v.ks.map textL).flatMap (fun x=>32::x)++[41]))):=fun{v} A=>by
  rw[textL_eq];grind [textF]
 by_cases lt:t.op=20\/t.op=21\/t.op=24
 ·obtain⟨_,f1,f2,f3⟩:=atom_text i j lt;by_cases lu:u.op=20\/u.op=21\/u.op=24
  ·grind [atom_text,atom_cancel,atom_inj]
  ·exfalso;rw[comp lu] at h
   match I:textL t,f2 with
   |c::q,_=>
    grind
 ·by_cases lu:u.op=20\/u.op=21\/u.op=24
  ·exfalso;obtain⟨_,g1,g2,g3⟩:=atom_text i hu lu;rw[comp lt] at h
   match I:textL u,g2 with
   |c::q,_=>
    grind
  ·rw[comp lt,comp lu] at h;simp only[List.cons_append,List.append_assoc,List.cons.injEq,true_and,List.nil_append] at h;have na:=node_arity op lt;have N:=node_arity w lu;have kst:∀{l:List Tm} {q:List UInt8},1<=l.length->∃B,(l.map textL).flatMap (fun x=>32::x)++41::q=32::B:=fun{l q} o=>by
    cases l with
    |nil=>simp at o
    |cons a l=>grind
   have st:∀{v:Tm} {q:List UInt8},1<=v.ks.length->Stop ((if v.op=22 then 32::(digL v.a++32::digL v.b) else[])++((v.ks.map textL).flatMap (fun x=>32::x)++41::q)):=fun{v q} o=>by
    split
    ·exact stop_cons (.inl rfl)
    ·obtain⟨B,e⟩:=kst (q:=q) o
     grind [stop_cons]
   have O:(((⟨t.op.toNat,by omega⟩:Fin 28):Nat):Int)=t.op:=(by grind);have P:(((⟨u.op.toNat,by omega⟩:Fin 28):Nat):Int)=u.op:=(by grind);have f:=word_free ⟨t.op.toNat,by omega⟩;have g:=word_free ⟨u.op.toNat,by omega⟩;rw[O] at f;rw[P] at g;obtain⟨hw,h⟩:=atom_cancel f g (st (v:=t) (by omega)) (st (v:=u) (by omega)) h;have p:=word_ne ⟨t.op.toNat,by omega⟩ (by omega) (by omega);have H:=word_inj ⟨t.op.toNat,by omega⟩ ⟨u.op.toNat,by omega⟩ (by grind) p;have z:t.op=u.op:=by
    omega
   have m:t.a=u.a/\t.b=u.b/\(t.ks.map textL).flatMap (fun x=>32::x)++41::r=(u.ks.map textL).flatMap (fun x=>32::x)++41::s:=by
    by_cases d:t.op=22
    ·rw[if_pos d,if_pos (by omega)] at h;simp only[List.cons_append,List.append_assoc,List.cons.injEq,true_and] at h;have R:=cut_ab i j d;have c2:=cut_ab i hu (by omega);have da:∀{x:Int},0<=x->x<4->Free (digL x):=fun{x} D F=>by
      have:=dig_free ⟨x.toNat,by omega⟩
      grind
     have di:∀{x y:Int},0<=x->x<4->0<=y->y<4->digL x=digL y->x=y:=fun{x y} D F E G he=>by
      have:=dig_inj ⟨x.toNat,by omega⟩ ⟨y.toNat,by omega⟩ (by
       grind)
      grind
     obtain⟨S,h⟩:=atom_cancel (da (by omega) (by omega)) (da (by omega) (by omega)) (stop_cons (.inl rfl)) (stop_cons (.inl rfl)) h;simp only[List.cons.injEq,true_and] at h;obtain⟨X,L⟩:=kst (l:=t.ks) (q:=r) (by omega);obtain⟨Y,M⟩:=kst (l:=u.ks) (q:=s) (by omega);obtain⟨T,h⟩:=atom_cancel (da (by omega) (by omega)) (da (by omega) (by omega)) (by rw[L];exact stop_cons (.inl rfl)) (by rw[M];exact stop_cons (.inl rfl)) h
     grind
    grind [plain_ab]
   obtain⟨U,V,h⟩:=m;obtain⟨n,e⟩:=kids_inj (by
    grind) (fun k n v A=>K k n ((sort_parts j).2.1 k n) v ((sort_parts hu).2.1 v A)) h
   grind [tm_extT,plain_s]
theorem text_inj (b:declOk ds=true) (d:sortM ds t≠ -1) (hu:sortM ds u≠ -1) (h:textL t=textL u):t=u:=
 (text_inj' b t d u hu [] [] (fun c a=>by cases a) (fun c a=>by cases a) (by grind)).1
end
end Go.M
end
section
namespace Go.M
def okc (c:UInt8):Bool:=c != 32&&c != 40&&c != 41
def wd (l:List UInt8):List UInt8:=l.takeWhile okc
def rs (l:List UInt8):List UInt8:=l.dropWhile okc
def AllOk (a:List UInt8):Prop:=∀c,c∈a→okc c=true
theorem wd_rs (l:List UInt8):wd l++rs l=l:=List.takeWhile_append_dropWhile
theorem span_word {r:List UInt8} (f:Stop r):∀{a:List UInt8},AllOk a->wd (a++r)=a/\rs (a++r)=r
 |[],_=>by
  cases r with
  |nil=>exact⟨rfl,rfl⟩
  |cons c r=>
   have h:okc c=false:=by rcases f c rfl with rfl|rfl<;>rfl
   simp[wd,rs,h]
 |x::a,e=>by
  have i:=e x List.mem_cons_self;obtain⟨b,d⟩:=span_word f (a:=a) fun c g=>e c (List.mem_cons_of_mem _ g);simp only[wd,rs] at b d;simp[wd,rs,i,b,d]
def leafT (t:Tm):Prop:=t.op=20∨t.op=21∨t.op=24
instance (t:Tm):Decidable (leafT t):=by unfold leafT;infer_instance
def kidsL (ks:List Tm):List UInt8:=(ks.map textL).flatMap (fun x=>32::x)
def cutL (t:Tm):List UInt8:=if t.op=22 then 32::(digL t.a++32::digL t.b) else[]
theorem word_okc:∀o:Fin 28,AllOk (wordL o.1):=by unfold AllOk;decide+kernel
theorem dig_okc:∀a:Fin 10,AllOk (digL a.1):=by unfold AllOk;decide+kernel
theorem dig_int {d:Int} (a:0<=d) (h:d<10):AllOk (digL d):=by
 have:=dig_okc ⟨d.toNat,by omega⟩;rwa[show((d.toNat:Nat):Int)=d by omega] at this
theorem word_int {o:Int} (a:0<=o) (h:o<28):AllOk (wordL o):=by
 have:=word_okc ⟨o.toNat,by omega⟩;rwa[show((o.toNat:Nat):Int)=o by omega] at this
theorem Wf (w n:Nat):AllOk (vecL w n):=fun c a=>by
 unfold vecL at a;rcases List.mem_cons.1 a with rfl|a
 ·rfl
 ·obtain⟨i,_,rfl⟩:=List.mem_map.1 a;split<;>rfl
theorem Wp {c:UInt8} (h:97<=c.toNat):okc c=true:=by
 unfold okc;have a:c≠32:=fun e=>by subst e;exact absurd h (by decide)
 have b:c≠40:=fun e=>by subst e;exact absurd h (by decide)
 have d:c≠41:=fun e=>by subst e;exact absurd h (by decide)
 simp[a,b,d]
section
variable {ds:List Dcl} {t u:Tm} {r:List UInt8}
theorem leaf_ok (a:declOk ds=true) (d:sortM ds t≠ -1) (b:leafT t):AllOk (textL t)/\textL t≠[]/\textL t=textF t []/\(textL t).head?≠some 40:=by
 obtain⟨e,j,f,g⟩:=atom_text a d b;refine⟨?_,f,e,fun h=>g _ h rfl⟩;rw[e];unfold textF;rcases b with o|o|o
 ·rw[if_pos o];exact Wf _ _
 ·rw[if_neg (by omega),if_pos o];obtain⟨_,_,h⟩:=name_ok a d o;exact fun c i=>Wp (h c i).1
 ·rw[if_neg (by omega),if_neg (by omega),if_pos o];unfold AllOk;decide
theorem node_text (h: ¬leafT t):textL t=40::(wordL t.op++(cutL t++(kidsL t.ks++[41]))):=by
 unfold leafT at h;rw[textL_eq];unfold textF cutL kidsL;rw[if_neg (by omega),if_neg (by omega),if_neg (by omega)]
theorem kids_stop {ks:List Tm}:Stop (kidsL ks++41::r):=by
 cases ks with
 |nil=>exact stop_cons (.inr rfl)
 |cons k ks=>exact stop_cons (.inl rfl)
theorem kids_cons {k:Tm} {ks:List Tm}:kidsL (k::ks)++41::r=32::(textL k++(kidsL ks++41::r)):=by
 unfold kidsL;simp
theorem node_arity' (f:sortM ds t≠ -1) (h: ¬leafT t):1<=t.ks.length/\t.ks.length<=3/\((1<=t.op/\t.op<=17)\/(22<=t.op/\t.op<=27))/\t.op≠24/\arity t.op=t.ks.length/\t.s=nada:=by
 obtain⟨a,b,c⟩:=right_op f;have g:=node_arity c h;have i:arity t.op<=3:=by unfold arity;split<;>(try split)<;>(try split)<;>(try split)<;>(try split)<;>omega
 have d:=plain_s b (fun e=>h (.inr (.inl e)));unfold leafT at h;exact⟨by omega,by omega,by omega,by omega,a,d⟩
theorem node_word (f:declOk ds=true) (a:sortM ds t≠ -1) (h: ¬leafT t):wd (wordL t.op++(cutL t++(kidsL t.ks++41::r)))=wordL t.op/\rs (wordL t.op++(cutL t++(kidsL t.ks++41::r)))=cutL t++(kidsL t.ks++41::r):=by
 obtain⟨b,c,d,e,_⟩:=node_arity' a h;refine span_word ?_ (word_int (by omega) (by omega));unfold cutL;split
 ·exact stop_cons (.inl rfl)
 ·exact kids_stop
theorem dig_word {d:Int} {r:List UInt8} (a:0<=d) (h:d<10) (b:Stop r):wd (digL d++r)=digL d/\rs (digL d++r)=r:=span_word b (dig_int a h)
theorem leaf_word (a:declOk ds=true) (d:sortM ds t≠ -1) (b:leafT t) (c:Stop r):wd (textL t++r)=textL t/\rs (textL t++r)=r:=span_word c (leaf_ok a d b).1
theorem kid_deep {k:Tm} (h:k∈t.ks):deepM k+1<=deepM t:=by
 obtain⟨i,b,rfl⟩:=List.getElem_of_mem h;have a:=dpT_succ b;have c:=dpT_mono (ks:=t.ks) (i:=i+1) (j:=t.ks.length) (by omega) (Nat.le_refl _);rw[List.getD_eq_getElem?_getD,List.getElem?_eq_getElem b] at a;have d:=dpT_all t;simp only[Option.getD_some] at a;omega
theorem deep_pos (t:Tm):1<=deepM t:=by have:=dpT_all t;omega
theorem plain_zero (d:sortM ds t≠ -1) (h:t.op≠20) (c:t.op≠22):t.a=0/\t.b=0:=plain_ab (right_op d).2.1 ⟨h,c⟩
end
end Go.M
end
section
namespace Go.Proofs.YtaemeijeaajoeaaGreatDoor
open Go Go.Vc Go.Proofs
def Ye [ZP] (P:Program) (v0 v1:Value) (w:World) (R:Value→World→Prop):Prop:=yF (fun a=>vbi P .len [zu] zb [v0] w fun b c=>zj P .gtr zb true b (.int .i64 1048576) c fun b c=>vif b (R (.bool true) c) (vbi P .len [zu] zb [v1] c fun b c=>zj P .gtr zb true b (.int .i64 1048576) c fun b c=>vif b (R (.bool true) c) (a [] c))) (fun _ _ a=>vcall P xc #[v0] a fun a b=>zq P a 0 b fun b c=>zq P a 1 c fun a c=>yg P za c fun c d=>zk P za c a d fun _ a=>zg P za c a fun a d=>vcall P yS #[b,a] d fun a d=>vcall P xy #[b,a] d fun d e=>zq P d 0 e fun e f=>zq P d 1 f fun d f=>yg P za f fun f g=>zk P za f e g fun _ e=>zg P za c e fun e g=>vcall P yR #[b,e] g fun e g=>zj P .geq zb true e (.int .i64 0) g fun e g=>yF (fun h=>zg P za c g fun g i=>vcall P yQ #[b,g] i fun b g=>zj P .neq ze false a b g fun b g=>vif b (R (.bool false) g) (zj P .neq ze true a (.string {data:= #[]}) g fun a b=>zj P .neq xa false a e b fun a b=>vif a (R (.bool false) b) (zj P .neq xa false d e b fun a b=>vif a (R (.bool false) b) (vif d (zg P za f b fun a d=>zg P za c d fun c d=>vcall P yU #[a,c] d fun a c=>vun P .not a c fun a c=>vif a (R (.bool false) c) (h [] c)) (h [] b))))) (fun _ _ a=>vcall P xd #[v1] a fun a b=>zq P a 0 b fun b c=>zq P a 1 c fun a c=>vcall P xy #[b,a] c fun c d=>zq P c 0 d fun d e=>zq P c 1 e fun c e=>yg P za e fun e f=>zk P za e d f fun _ d=>vcall P qE #[b,a] d fun d f=>zq P d 0 f fun f g=>zq P d 1 g fun d g=>yg P za g fun g h=>zk P za g f h fun _ f=>zj P .eql xa false c d f fun d f=>vif d (zg P za e f fun d h=>zg P za g h fun g h=>vcall P yU #[d,g] h fun d g=>vif d (vun P .not c g fun c d=>vif c (R (.bool true) d) (zg P za e d fun c d=>vcall P yS #[b,c] d fun c d=>zj P .eql ze false c a d fun a c=>vif a (zg P za e c fun a d=>vcall P yT #[b,a] d fun a b=>zj P .geq zb true a (.int .i64 0) b fun a b=>R a b) (R (.bool false) c))) (R (.bool false) g)) (R (.bool false) f)))
theorem QV [ZP] {v0 v1 w R} (h:Ye PP v0 v1 w R):vcall PP jG #[v0,v1] w R:=zo {cuts:=[(8195,[]),(32777,[])]} Tryz.func4 (by kernel_rfl) (by kernel_rfl) h
def ko [ZP] (P:Program) (v0 v1:Value) (w:World) (R:Value→World→Prop):Prop:=yg P za w fun a b=>vbi P .len [ze] zb [v1] b fun b c=>zj P .gtr zb true b (.int .i64 400) c fun b c=>vif b (zr P za [] c fun b d=>zk P za a b d fun _ b=>vlv P za a b fun b d=>R (.tuple #[b,(.bool false)]) d) (vcall P xq #[v1,(.int .i64 0),(.int .i64 7)] c fun b c=>zq P b 0 c fun c d=>zq P b 1 d fun b d=>yg P za d fun d e=>zk P za d c e fun _ c=>vbi P .len [ze] zb [v1] c fun c e=>zj P .neq zb false b c e fun b c=>vif b (zr P za [] c fun b e=>zk P za a b e fun _ b=>vlv P za a b fun b e=>R (.tuple #[b,(.bool false)]) e) (zg P za d c fun b c=>vcall P yQ #[v0,b] c fun b c=>zj P .neq ze false b v1 c fun b c=>vif b (zr P za [] c fun b e=>zk P za a b e fun _ b=>vlv P za a b fun b e=>R (.tuple #[b,(.bool false)]) e) (zj P .eql ze true v1 (.string {data:= #[]}) c fun b c=>vif b (zr P za [] c fun b e=>zk P za a b e fun _ b=>vlv P za a b fun b e=>R (.tuple #[b,(.bool false)]) e) (zg P za d c fun b c=>zk P za a b c fun _ b=>vlv P za a b fun a b=>R (.tuple #[a,(.bool true)]) b))))
theorem Xt [ZP] {v0 v1 w R} (h:ko PP v0 v1 w R):vcall PP qE #[v0,v1] w R:=zo {} Tryz.func6 (by kernel_rfl) (by kernel_rfl) h
def kw [ZP] (P:Program) (v0 v1:Value) (w:World) (R:Value→World→Prop):Prop:=yg P za w fun a b=>vcall P xm #[] b fun b c=>zr P zx [(0,v1),(1,b)] c fun b c=>xS P zx b c fun b c=>vcall P qW #[b] c fun b c=>zq P b 0 c fun c d=>zq P b 1 d fun b d=>yg P za d fun d e=>zk P za d c e fun _ c=>vun P .not b c fun b c=>vif b (zr P za [] c fun b e=>zk P za a b e fun _ b=>vlv P za a b fun b e=>R (.tuple #[b,(.bool false)]) e) (zg P za d c fun b c=>vcall P yT #[v0,b] c fun b c=>zj P .eql zb true b (.int .i64 (-1)) c fun b c=>vif b (zr P za [] c fun b e=>zk P za a b e fun _ b=>vlv P za a b fun b e=>R (.tuple #[b,(.bool false)]) e) (zg P za d c fun b c=>vcall P yS #[v0,b] c fun b c=>zj P .neq ze false b v1 c fun b c=>vif b (zr P za [] c fun b e=>zk P za a b e fun _ b=>vlv P za a b fun b e=>R (.tuple #[b,(.bool false)]) e) (zg P za d c fun b c=>zk P za a b c fun _ b=>vlv P za a b fun a b=>R (.tuple #[a,(.bool true)]) b)))
theorem Xy [ZP] {v0 v1 w R} (h:kw PP v0 v1 w R):vcall PP xy #[v0,v1] w R:=zo {} Tryz.func8 (by kernel_rfl) (by kernel_rfl) h
def qK [ZP] (P:Program) (v0:Value) (w:World) (R:Value→World→Prop):Prop:=yg P za w fun a b=>vcall P xR #[v0] b fun b c=>vcall P qm #[b] c fun b c=>zq P b 0 c fun c d=>zq P b 1 d fun b d=>zk P za a b d fun _ b=>vlv P za a b fun a b=>R (.tuple #[c,a]) b
theorem Zu [ZP] {v0 w R} (h:qK PP v0 w R):vcall PP xc #[v0] w R:=zo {} Tryz.func14 (by kernel_rfl) (by kernel_rfl) h
def kq [ZP] (P:Program) (v0 v1:Value) (w:World) (R:Value→World→Prop):Prop:=xS P za v1 w fun a b=>zg P za a b fun b c=>vcall P yT #[v0,b] c fun b c=>zj P .eql zb true b (.int .i64 (-1)) c fun b c=>vif b (R (.string {data:= #[]}) c) (xp c fun b=>zg P za a b fun c d=>d=b∧vcall P xm #[] b fun b d=>(zg P za a d fun a e=>a=c∧e=d)∧vcall P qp #[b,c] d fun a b=>R a b)
theorem Xv [ZP] {v0 v1 w R} (h:kq PP v0 v1 w R):vcall PP yS #[v0,v1] w R:=zo {ord:=[(3,[1,0,2,3],[(1,[2,3]),(0,[2,3]),(2,[3])])]} Tryz.func15 (by kernel_rfl) (by kernel_rfl) h
def kn [ZP] (P:Program) (v0 v1:Value) (w:World) (R:Value→World→Prop):Prop:=xS P za v1 w fun a b=>zg P za a b fun b c=>vcall P xt #[b] c fun b c=>zq P b 0 c fun c d=>zq P b 1 d fun b d=>vcall P jF #[v0] d fun d e=>vun P .not d e fun d e=>vif d (R (.int .i64 (-1)) e) (zj P .gtr zb true c (.int .i64 20) e fun c d=>vif c (R (.int .i64 (-1)) d) (zj P .gtr zb true b (.int .i64 7) d fun b c=>vif b (R (.int .i64 (-1)) c) (zg P za a c fun a b=>vcall P yY #[v0,a] b fun a b=>R a b)))
theorem Xs [ZP] {v0 v1 w R} (h:kn PP v0 v1 w R):vcall PP yR #[v0,v1] w R:=zo {} Tryz.func16 (by kernel_rfl) (by kernel_rfl) h
def km [ZP] (P:Program) (v0 v1:Value) (w:World) (R:Value→World→Prop):Prop:=xS P za v1 w fun a b=>zg P za a b fun b c=>vcall P yR #[v0,b] c fun b c=>zj P .lss zb true b (.int .i64 0) c fun b c=>vif b (R (.string {data:= #[]}) c) (zg P za a c fun a b=>vcall P qk #[a] b fun a b=>R a b)
theorem Xr [ZP] {v0 v1 w R} (h:km PP v0 v1 w R):vcall PP yQ #[v0,v1] w R:=zo {} Tryz.func17 (by kernel_rfl) (by kernel_rfl) h
def ku [ZP] (P:Program) (v0 v1:Value) (w:World) (R:Value→World→Prop):Prop:=xS P za v0 w fun a b=>xS P za v1 b fun b c=>zh P za a 0 c fun c d=>zg P zb c d fun c d=>zh P za b 0 d fun d e=>zg P zb d e fun d e=>zj P .eql zb false c d e fun c d=>vif c (zh P za a 1 d fun c e=>zg P zb c e fun c e=>zh P za b 1 e fun e f=>zg P zb e f fun e f=>zj P .eql zb false c e f fun c e=>vif c (zh P za a 2 e fun c f=>zg P zb c f fun c f=>zh P za b 2 f fun f g=>zg P zb f g fun f g=>zj P .eql zb false c f g fun c f=>vif c (zh P za a 3 f fun c g=>zg P ze c g fun c g=>zh P za b 3 g fun g h=>zg P ze g h fun g h=>zj P .eql ze false c g h fun c g=>vif c (zh P za a 4 g fun a c=>zg P zc a c fun a c=>zh P za b 4 c fun b c=>zg P zc b c fun b c=>vcall P zO #[a,b,(.func (.func yU) #[] #[])] c fun a b=>R a b) (R (.bool false) g)) (R (.bool false) f)) (R (.bool false) e)) (R (.bool false) d)
theorem Xx [ZP] {v0 v1 w R} (h:ku PP v0 v1 w R):vcall PP yU #[v0,v1] w R:=zo {} Tryz.func18 (by kernel_rfl) (by kernel_rfl) h
def qL [ZP] (P:Program) (v0:Value) (w:World) (R:Value→World→Prop):Prop:=vcall P xR #[v0] w fun a b=>vcall P qm #[a] b fun b c=>zq P b 0 c fun c d=>zq P b 1 d fun b d=>yg P za d fun d e=>zk P za d b e fun _ b=>zg P za d b fun b d=>vcall P yQ #[c,b] d fun b d=>yF (fun e=>zj P .eql ze true b (.string {data:= #[]}) d fun d f=>vif d (R (.tuple #[c,b]) f) (vcall P zn #[a,(.int .i64 2)] f fun d f=>zj P .eql zb true d (.int .i64 0) f fun d f=>vif d (R (.tuple #[c,b]) f) (e [] f))) (fun _ _ d=>vbi P .len [ze] zb [b] d fun d e=>vcall P zn #[a,d] e fun d e=>xp e fun e=>yx P ze b none (some d) none e fun f g=>g=e∧vbuildS P zD 10 [(0,(.string {data:= #[]})),(1,(.string {data:= #[48]})),(2,(.string {data:= #[32]})),(3,(.string {data:= #[40]})),(4,(.string {data:= #[41]})),(5,(.string {data:= #[120]})),(6,(.string {data:= #[35,49]})),(7,(.string {data:= #[116,114,117,101]})),(8,(.string {data:= #[110,111,116]})),(9,(.string {data:= #[49]}))] e fun e g=>(yx P ze b none (some d) none g fun h i=>h=f∧i=g)∧vcall P yE #[a,e] g fun e g=>(yx P ze b none (some d) none g fun h i=>h=f∧i=g)∧zj P .add ze false f e g fun j k=>k=g∧vcall P zn #[a,(.int .i64 2)] g fun a g=>(zj P .add ze false f e g fun h i=>h=j∧i=g)∧(yx P ze b none (some d) none g fun h i=>h=f∧i=g)∧zj P .add zb false d a g fun a d=>d=g∧yx P ze b (some a) none none g fun a b=>b=g∧zj P .add ze false j a g fun a b=>b=g∧R (.tuple #[c,a]) g)
theorem Zv [ZP] {v0 w R} (h:qL PP v0 w R):vcall PP xd #[v0] w R:=zo {ord:=[(7,[0,1,2,3,4,8,9,10,5,6,7,11,12,13,14,15,16],[(0,[15,16]),(1,[3,7,14,16]),(2,[3,7,14,16]),(3,[7,14,16]),(4,[6,7,11,12,13,14,15,16]),(8,[13,14,16]),(9,[12,13,14,16]),(10,[11,12,13,14,15,16]),(5,[6,7,11,12,13,14,15,16]),(6,[7,11,12,13,14,15,16]),(7,[14,16]),(11,[12,13,14,15,16]),(12,[13,14,16]),(13,[14,16]),(14,[16]),(15,[16])])],cuts:=[(20486,[])]} Tryz.func19 (by kernel_rfl) (by kernel_rfl) h
def kr [ZP] (P:Program) (v0 v1:Value) (w:World) (R:Value→World→Prop):Prop:=xS P za v1 w fun a b=>zg P za a b fun b c=>vcall P qF #[b] c fun b c=>zq P b 0 c fun c d=>zq P b 1 d fun _ b=>vcall P jH #[v0] b fun b d=>vun P .not b d fun b d=>vif b (R (.int .i64 (-1)) d) (zj P .gtr zb true c (.int .i64 20) d fun b c=>vif b (R (.int .i64 (-1)) c) (xp c fun b=>zg P za a b fun c d=>d=b∧vcall P xm #[] b fun b d=>(zg P za a d fun a e=>a=c∧e=d)∧vcall P qq #[b,v0,c] d fun a b=>R a b))
theorem Xw [ZP] {v0 v1 w R} (h:kr PP v0 v1 w R):vcall PP yT #[v0,v1] w R:=zo {ord:=[(4,[1,2,0,3,4],[(1,[3,4]),(2,[3,4]),(0,[3,4]),(3,[4])])]} Tryz.func20 (by kernel_rfl) (by kernel_rfl) h
def jK [ZP] (P:Program) (v0 v1 v2:Value) (w:World) (R:Value→World→Prop):Prop:=yg P za w fun a b=>yF (fun c=>vbi P .len [ze] zb [v0] b fun b d=>zj P .geq zb false v1 b d fun b d=>vif b (zr P za [] d fun b e=>zk P za a b e fun _ b=>vlv P za a b fun b e=>R (.tuple #[b,(.int .i64 (-1))]) e) (zj P .lss zb true v2 (.int .i64 1) d fun b d=>vif b (zr P za [] d fun b e=>zk P za a b e fun _ b=>vlv P za a b fun b e=>R (.tuple #[b,(.int .i64 (-1))]) e) (c [] d))) (fun _ _ b=>yG P ze v0 v1 b fun b c=>zj P .neq zZ true b (.int .u8 40) c fun b c=>vif b (vcall P yX #[v0,v1] c fun b d=>zq P b 0 d fun d e=>zq P b 1 e fun b e=>zj P .eql ze true d (.string {data:= #[]}) e fun e f=>vif e (zr P za [] f fun e g=>zk P za a e g fun _ e=>vlv P za a e fun e g=>R (.tuple #[e,(.int .i64 (-1))]) g) (vcall P jB #[d] f fun d e=>zk P za a d e fun _ d=>vlv P za a d fun d e=>R (.tuple #[d,b]) e)) (zj P .add zb true v1 (.int .i64 1) c fun b c=>vcall P yX #[v0,b] c fun b c=>zq P b 0 c fun c d=>zq P b 1 d fun b d=>vcall P Zn #[c] d fun c d=>zr P za [(0,c)] d fun c d=>yg P za d fun d e=>zk P za d c e fun _ c=>yF (fun e=>zh P za d 0 c fun c f=>zg P zb c f fun c f=>zj P .eql zb true c (.int .i64 0) f fun c f=>vif c (zg P za d f fun c g=>zk P za a c g fun _ c=>vlv P za a c fun c g=>R (.tuple #[c,(.int .i64 (-1))]) g) (zh P za d 0 f fun c f=>zg P zb c f fun c f=>zj P .eql zb true c (.int .i64 24) f fun c f=>vif c (zg P za d f fun c g=>zk P za a c g fun _ c=>vlv P za a c fun c g=>R (.tuple #[c,(.int .i64 (-1))]) g) (e [] f))) (fun _ _ c=>zh P za d 0 c fun c e=>zg P zb c e fun c e=>zj P .neq zb true c (.int .i64 22) e fun c e=>vif c (zj P .sub zb true v2 (.int .i64 1) e fun c f=>zg P za d f fun f g=>vcall P xr #[v0,b,c,f] g fun c f=>zq P c 0 f fun f g=>zq P c 1 g fun c g=>zk P za a f g fun _ f=>vlv P za a f fun f g=>R (.tuple #[f,c]) g) (zj P .add zb true b (.int .i64 1) e fun b c=>vbi P .len [ze] zb [v0] c fun c e=>vcall P xV #[b,c] e fun b c=>vcall P yX #[v0,b] c fun b c=>zq P b 0 c fun c e=>zq P b 1 e fun b e=>zj P .add zb true b (.int .i64 1) e fun b e=>vbi P .len [ze] zb [v0] e fun e f=>vcall P xV #[b,e] f fun b e=>vcall P yX #[v0,b] e fun b e=>zq P b 0 e fun e f=>zq P b 1 f fun b f=>vcall P qn #[c] f fun c f=>zq P c 0 f fun f g=>zq P c 1 g fun _ c=>zh P za d 1 c fun c g=>zk P zb c f g fun _ c=>vcall P qn #[e] c fun c e=>zq P c 0 e fun e f=>zq P c 1 f fun _ c=>zh P za d 2 c fun c f=>zk P zb c e f fun _ c=>zj P .sub zb true v2 (.int .i64 1) c fun c e=>zg P za d e fun d e=>vcall P xr #[v0,b,c,d] e fun b c=>zq P b 0 c fun c d=>zq P b 1 d fun b d=>zk P za a c d fun _ c=>vlv P za a c fun a c=>R (.tuple #[a,b]) c))))
theorem ZO [ZP] {v0 v1 v2 w R} (h:jK PP v0 v1 v2 w R):vcall PP xq #[v0,v1,v2] w R:=zo {cuts:=[(8195,[]),(45068,[])]} Tryz.func22 (by kernel_rfl) (by kernel_rfl) h
def YG [ZP] (P:Program) (w:World) (R:Value→World→Prop):Prop:=vmkM P zi none w fun a b=>zr P zG [(0,(.string {data:= #[110,111,116]})),(1,(.int .i64 1))] b fun b c=>zr P zS [(0,b)] c fun b c=>Yk P zS b c fun b c=>ju P zi a (.int .i64 1) b c fun _ b=>zr P zG [(0,(.string {data:= #[110,101,103]})),(1,(.int .i64 1))] b fun b c=>zr P zS [(0,b)] c fun b c=>Yk P zS b c fun b c=>ju P zi a (.int .i64 2) b c fun _ b=>zr P zG [(0,(.string {data:= #[99,97,116]})),(1,(.int .i64 2))] b fun b c=>zr P ya [(0,b)] c fun b c=>Yk P ya b c fun b c=>ju P zi a (.int .i64 14) b c fun _ b=>zr P zG [(0,(.string {data:= #[115,97,109,101]})),(1,(.int .i64 2))] b fun b c=>zr P zH [(0,b)] c fun b c=>Yk P zH b c fun b c=>ju P zi a (.int .i64 15) b c fun _ b=>zr P zG [(0,(.string {data:= #[108,101,115,115]})),(1,(.int .i64 2))] b fun b c=>zr P zH [(0,b)] c fun b c=>Yk P zH b c fun b c=>ju P zi a (.int .i64 16) b c fun _ b=>zr P zG [(0,(.string {data:= #[117,110,100,101,114]})),(1,(.int .i64 2))] b fun b c=>zr P zH [(0,b)] c fun b c=>Yk P zH b c fun b c=>ju P zi a (.int .i64 17) b c fun _ b=>zr P y6 [] b fun b c=>Yk P y6 b c fun b c=>ju P zi a (.int .i64 20) b c fun _ b=>zr P zX [] b fun b c=>Yk P zX b c fun b c=>ju P zi a (.int .i64 21) b c fun _ b=>zr P zG [(0,(.string {data:= #[99,117,116]})),(1,(.int .i64 1))] b fun b c=>zr P y8 [(0,b)] c fun b c=>Yk P y8 b c fun b c=>ju P zi a (.int .i64 22) b c fun _ b=>zr P zG [(0,(.string {data:= #[105,102]})),(1,(.int .i64 3))] b fun b c=>zr P yf [(0,b)] c fun b c=>Yk P yf b c fun b c=>ju P zi a (.int .i64 23) b c fun _ b=>zr P zG [(0,(.string {data:= #[116,114,117,101]})),(1,(.int .i64 0))] b fun b c=>zr P zy [(0,b),(1,(.func (.func jd) #[] #[]))] c fun b c=>Yk P zy b c fun b c=>ju P zi a (.int .i64 24) b c fun _ b=>zr P zG [(0,(.string {data:= #[110,111]})),(1,(.int .i64 1))] b fun b c=>zr P zy [(0,b),(1,(.func (.func jc) #[] #[]))] c fun b c=>Yk P zy b c fun b c=>ju P zi a (.int .i64 25) b c fun _ b=>zr P zG [(0,(.string {data:= #[98,111,116,104]})),(1,(.int .i64 2))] b fun b c=>zr P zy [(0,b),(1,(.func (.func ja) #[] #[]))] c fun b c=>Yk P zy b c fun b c=>ju P zi a (.int .i64 26) b c fun _ b=>zr P zG [(0,(.string {data:= #[97,110,121]})),(1,(.int .i64 2))] b fun b c=>zr P zy [(0,b),(1,(.func (.func j9) #[] #[]))] c fun b c=>Yk P zy b c fun b c=>ju P zi a (.int .i64 27) b c fun _ b=>vbuildS P zD 11 [(0,(.string {data:= #[97,110,100]})),(1,(.string {data:= #[111,114]})),(2,(.string {data:= #[120,111,114]})),(3,(.string {data:= #[97,100,100]})),(4,(.string {data:= #[115,117,98]})),(5,(.string {data:= #[109,117,108]})),(6,(.string {data:= #[100,105,118]})),(7,(.string {data:= #[114,101,109]})),(8,(.string {data:= #[115,104,108]})),(9,(.string {data:= #[115,104,114]})),(10,(.string {data:= #[115,97,114]}))] b fun b c=>vbi P .len [zD] zb [b] c fun c d=>x7 [(.int .i64 0)] d fun d e _ f=>zj P .lss zb false (sl 0 e) c f fun c f=>vif c (zC P zD b (sl 0 e) f fun b c=>zg P ze b c fun b c=>zj P .add zb true (.int .i64 3) (sl 0 e) c fun c g=>zr P zG [(0,b),(1,(.int .i64 2))] g fun b g=>zr P zY [(0,b)] g fun b g=>Yk P zY b g fun b g=>ju P zi a c b g fun _ b=>zj P .add zb true (sl 0 e) (.int .i64 1) b fun b c=>d [b] c) (R a f)
theorem Ju [ZP] {w R} (h:YG PP w R):vcall PP xm #[] w R:=zo {loops:=[(3,[48])]} Tryz.func24 (by kernel_rfl) (by kernel_rfl) h
def Y7 [ZP] (P:Program) (v0:Value) (w:World) (R:Value→World→Prop):Prop:=yg P za w fun a b=>vcall P x9 #[v0] b fun b c=>vbuildS P y1 7 [(0,(.int .i64 0)),(1,(.int .i64 0)),(2,(.int .i64 0)),(3,(.int .i64 1)),(4,(.int .i64 2)),(5,(.int .i64 3)),(6,(.int .i64 4))] c fun c d=>vcall P zT #[v0,c] d fun c d=>vcall P jz #[v0,b,c] d fun c d=>yg P za d fun d e=>zk P za d c e fun _ c=>xp c fun c=>zg P za d c fun e f=>f=c∧vcall P xQ #[v0,b] c fun b c=>(zg P za d c fun d f=>d=e∧f=c)∧vcall P jD #[v0,e] c fun c d=>zk P za a c d fun _ c=>vlv P za a c fun a c=>R (.tuple #[b,a]) c
theorem QO [ZP] {v0 w R} (h:Y7 PP v0 w R):vcall PP qm #[v0] w R:=zo {ord:=[(3,[0,1,3,4,2,5,6,7],[(0,[2,5,6,7]),(1,[2,5,6,7]),(3,[5,6,7]),(4,[5,6,7]),(2,[5,6,7]),(5,[6,7]),(6,[7])])]} Tryz.func31 (by kernel_rfl) (by kernel_rfl) h
def Z5 [ZP] (P:Program) (v0:Value) (w:World) (R:Value→World→Prop):Prop:=vbi P .len [zu] zb [v0] w fun a b=>zj P .gtr zb true a (.int .i64 2000) b fun a b=>vif a (yx P zu v0 none (some (.int .i64 2000)) none b fun a c=>zr P zA [(0,a)] c fun a c=>xS P zA a c fun a c=>R a c) (zr P zA [(0,v0)] b fun a b=>xS P zA a b fun a b=>R a b)
theorem XV [ZP] {v0 w R} (h:Z5 PP v0 w R):vcall PP xR #[v0] w R:=zo {} Tryz.func32 (by kernel_rfl) (by kernel_rfl) h
def Yf [ZP] (P:Program) (v0 v1:Value) (w:World) (R:Value→World→Prop):Prop:=xS P za v1 w fun a b=>zh P za a 0 b fun b c=>zg P zb b c fun b c=>zj P .eql zb true b (.int .i64 20) c fun c d=>vif c (zh P za a 1 d fun c e=>zg P zb c e fun c e=>zh P za a 2 e fun e f=>zg P zb e f fun e f=>zr P zf [(0,c),(1,e)] f fun c e=>vcall P jf #[c] e fun c e=>R c e) (zj P .eql zb true b (.int .i64 21) d fun c d=>vif c (zh P za a 3 d fun c e=>zg P ze c e fun c e=>R c e) (zj P .eql zb true b (.int .i64 24) d fun b c=>vif b (R (.string {data:= #[116,114,117,101]}) c) (zh P za a 0 c fun b c=>zg P zb b c fun b c=>J8 P zi v0 b false c fun b c=>vinvoke P b xL #[] c fun b c=>vbuildS P zD 1 [(0,b)] c fun b c=>yF (fun d=>zh P za a 0 c fun c e=>zg P zb c e fun c e=>zj P .eql zb true c (.int .i64 22) e fun c e=>vif c (xp e fun c=>zh P za a 1 c fun f g=>g=c∧zg P zb f c fun f g=>g=c∧zh P za a 2 c fun g h=>h=c∧zg P zb g c fun h i=>i=c∧vcall P x8 #[f] c fun c f=>(zg P zb g f fun i j=>i=h∧j=f)∧(zh P za a 2 f fun i j=>i=g∧j=f)∧vcall P x8 #[h] f fun f g=>vbuildS P zD 2 [(0,c),(1,f)] g fun c f=>vbi P .append [zD,zD] zD [b,c] f fun c f=>d [c] f) (d [b] e)) (fun b _ c=>zh P za a 4 c fun a c=>zg P zc a c fun a c=>vbi P .len [zc] zb [a] c fun c d=>x7 [(sl 0 b),(.int .i64 0)] d fun b d _ e=>zj P .lss zb false (sl 1 d) c e fun c e=>vif c (zC P zc a (sl 1 d) e fun a c=>zg P za a c fun a c=>yg P za c fun c f=>zk P za c a f fun _ a=>zg P za c a fun a c=>vcall P qp #[v0,a] c fun a c=>vbuildS P zD 1 [(0,a)] c fun a c=>vbi P .append [zD,zD] zD [(sl 0 d),a] c fun a c=>zj P .add zb true (sl 1 d) (.int .i64 1) c fun c f=>b [a,c] f) (vcall P kV #[(sl 0 d),(.string {data:= #[32]})] e fun a b=>zj P .add ze true (.string {data:= #[40]}) a b fun a b=>zj P .add ze true a (.string {data:= #[41]}) b fun a b=>R a b)))))
theorem QW [ZP] {v0 v1 w R} (h:Yf PP v0 v1 w R):vcall PP qp #[v0,v1] w R:=zo {ord:=[(10,[0,1,2,4,5,3,6,7,8,9],[(0,[8,9]),(1,[2,3,6,7,8,9]),(2,[3,6,7,8,9]),(4,[5,6,7,8,9]),(5,[6,7,8,9]),(3,[6,7,8,9]),(6,[7,8,9]),(7,[8,9]),(8,[9])])],loops:=[(12,[5,45])],cuts:=[(40971,[5])]} Tryz.func33 (by kernel_rfl) (by kernel_rfl) h
def kp [ZP] (P:Program) (v0:Value) (w:World) (R:Value→World→Prop):Prop:=xS P za v0 w fun a b=>x7 [(.int .i64 1),(.int .i64 0),(.int .i64 0)] b fun b c _ d=>yF (fun e=>zh P za a 4 d fun d f=>zg P zc d f fun d f=>vbi P .len [zc] zb [d] f fun d f=>zj P .lss zb false (sl 2 c) d f fun d f=>vif d (zj P .leq zb true (sl 0 c) (.int .i64 20) f fun d g=>vif d (e [] g) (zj P .add zb true (sl 1 c) (.int .i64 1) g fun d e=>zj P .gtr zb true (sl 0 c) (.int .i64 20) e fun e g=>vif e (R (.tuple #[(.int .i64 21),(.int .i64 8)]) g) (zj P .gtr zb true d (.int .i64 7) g fun e g=>vif e (R (.tuple #[(.int .i64 21),(.int .i64 8)]) g) (R (.tuple #[(sl 0 c),d]) g)))) (zj P .add zb true (sl 1 c) (.int .i64 1) f fun d e=>zj P .gtr zb true (sl 0 c) (.int .i64 20) e fun e f=>vif e (R (.tuple #[(.int .i64 21),(.int .i64 8)]) f) (zj P .gtr zb true d (.int .i64 7) f fun e f=>vif e (R (.tuple #[(.int .i64 21),(.int .i64 8)]) f) (R (.tuple #[(sl 0 c),d]) f)))) (fun _ _ d=>zh P za a 4 d fun a d=>zg P zc a d fun a d=>zC P zc a (sl 2 c) d fun a d=>zg P za a d fun a d=>vcall P xt #[a] d fun a d=>zq P a 0 d fun d e=>zq P a 1 e fun a e=>zj P .add zb false (sl 0 c) d e fun d e=>vcall P jY #[(sl 1 c),a] e fun a e=>zj P .add zb true (sl 2 c) (.int .i64 1) e fun c e=>b [d,a,c] e)
theorem Xu [ZP] {v0 w R} (h:kp PP v0 w R):vcall PP xt #[v0] w R:=zo {loops:=[(4,[4,5,6])],cuts:=[(20486,[])]} Tryz.func34 (by kernel_rfl) (by kernel_rfl) h
def Yd [ZP] (P:Program) (v0:Value) (w:World) (R:Value→World→Prop):Prop:=vbi P .len [zl] zb [v0] w fun a b=>zj P .gtr zb true a (.int .i64 4) b fun a b=>vif a (R (.bool false) b) (x7 [(.int .i64 0),(.int .i64 0)] b fun a b _ c=>vbi P .len [zl] zb [v0] c fun c d=>zj P .lss zb false (sl 1 b) c d fun c d=>vif c (xp d fun c=>zC P zl v0 (sl 1 b) c fun e f=>f=c∧zh P zp e 0 c fun e f=>f=c∧zg P ze e c fun e f=>f=c∧vcall P jA #[e] c fun c e=>vun P .not c e fun c f=>f=e∧vif c (R (.bool false) e) (zC P zl v0 (sl 1 b) e fun c f=>f=e∧zh P zp c 1 e fun c f=>f=e∧zg P zb c e fun c f=>f=e∧zj P .lss zb true c (.int .i64 1) e fun c f=>f=e∧vif c (R (.bool false) e) (zC P zl v0 (sl 1 b) e fun c f=>f=e∧zh P zp c 1 e fun c f=>f=e∧zg P zb c e fun c f=>f=e∧zj P .gtr zb true c (.int .i64 4) e fun c f=>f=e∧vif c (R (.bool false) e) (yx P zl v0 none (some (sl 1 b)) none e fun c f=>f=e∧zC P zl v0 (sl 1 b) e fun f g=>g=e∧zh P zp f 0 e fun f g=>g=e∧zg P ze f e fun f g=>g=e∧vcall P ql #[c,f] e fun c e=>zj P .geq zb true c (.int .i64 0) e fun c f=>f=e∧vif c (R (.bool false) e) (zC P zl v0 (sl 1 b) e fun c e=>zh P zp c 1 e fun c e=>zg P zb c e fun c e=>zj P .add zb false (sl 0 b) c e fun c e=>zj P .add zb true (sl 1 b) (.int .i64 1) e fun e f=>a [c,e] f))))) (zj P .leq zb true (sl 0 b) (.int .i64 8) d fun a b=>R a b))
theorem QU [ZP] {v0 w R} (h:Yd PP v0 w R):vcall PP jF #[v0] w R:=zo {ord:=[(7,[0,1,2,3,4,5,6,7,8,9,10,11,12,13,14,15,16,17,18,19,20,21,22,23,24,25,26,27,28,29,30,31,32,33,34],[(0,[2,3,4,5,6,7,8,9,10,11,12,13,14,15,16,17,18,19,20,21,22,23,24,25,26,27,28,29,30,31,32,33,34]),(1,[2,3,4,5,6,7,8,9,10,11,12,13,14,15,16,17,18,19,20,21,22,23,24,25,26,27,28,29,30,31,32,33,34]),(2,[3,4,5,6,7,8,9,10,11,12,13,14,15,16,17,18,19,20,21,22,23,24,25,26,27,28,29,30,31,32,33,34]),(3,[4,5,6,7,8,9,10,11,12,13,14,15,16,17,18,19,20,21,22,23,24,25,26,27,28,29,30,31,32,33,34]),(4,[5,6,7,8,9,10,11,12,13,14,15,16,17,18,19,20,21,22,23,24,25,26,27,28,29,30,31,32,33,34]),(5,[6,7,8,9,10,11,12,13,14,15,16,17,18,19,20,21,22,23,24,25,26,27,28,29,30,31,32,33,34]),(6,[7,8,9,10,11,12,13,14,15,16,17,18,19,20,21,22,23,24,25,26,27,28,29,30,31,32,33,34]),(7,[8,9,10,11,12,13,14,15,16,17,18,19,20,21,22,23,24,25,26,27,28,29,30,31,32,33,34]),(8,[10,11,12,13,14,15,16,17,18,19,20,21,22,23,24,25,26,27,28,29,30,31,32,33,34]),(9,[10,11,12,13,14,15,16,17,18,19,20,21,22,23,24,25,26,27,28,29,30,31,32,33,34]),(10,[11,12,13,14,15,16,17,18,19,20,21,22,23,24,25,26,27,28,29,30,31,32,33,34]),(11,[12,13,14,15,16,17,18,19,20,21,22,23,24,25,26,27,28,29,30,31,32,33,34]),(12,[13,14,15,16,17,18,19,20,21,22,23,24,25,26,27,28,29,30,31,32,33,34]),(13,[14,15,16,17,18,19,20,21,22,23,24,25,26,27,28,29,30,31,32,33,34]),(14,[15,16,17,18,19,20,21,22,23,24,25,26,27,28,29,30,31,32,33,34]),(15,[16,17,18,19,20,21,22,23,24,25,26,27,28,29,30,31,32,33,34]),(16,[18,19,20,21,22,23,24,25,26,27,28,29,30,31,32,33,34]),(17,[18,19,20,21,22,23,24,25,26,27,28,29,30,31,32,33,34]),(18,[19,20,21,22,23,24,25,26,27,28,29,30,31,32,33,34]),(19,[20,21,22,23,24,25,26,27,28,29,30,31,32,33,34]),(20,[21,22,23,24,25,26,27,28,29,30,31,32,33,34]),(21,[22,23,24,25,26,27,28,29,30,31,32,33,34]),(22,[23,24,25,26,27,28,29,30,31,32,33,34]),(23,[24,25,26,27,28,29,30,31,32,33,34]),(24,[26,32,33,34]),(25,[26,32,33,34]),(26,[32,33,34]),(27,[29,30,31,32,33,34]),(28,[29,30,31,32,33,34]),(29,[30,31,32,33,34]),(30,[31,32,33,34]),(31,[32,33,34]),(32,[33,34]),(33,[34])])],loops:=[(5,[3,4])]} Tryz.func35 (by kernel_rfl) (by kernel_rfl) h
def Y1 [ZP] (P:Program) (v0 v1:Value) (w:World) (R:Value→World→Prop):Prop:=xS P za v1 w fun a b=>zg P za a b fun b c=>vcall P j4 #[b] c fun b c=>vun P .not b c fun b c=>vif b (R (.int .i64 (-1)) c) (zh P za a 0 c fun b c=>zg P zb b c fun b c=>zj P .eql zb true b (.int .i64 20) c fun c d=>vif c (zh P za a 1 d fun c e=>zg P zb c e fun c e=>zh P za a 2 e fun e f=>zg P zb e f fun e f=>zr P zf [(0,c),(1,e)] f fun c e=>vcall P qV #[c] e fun c e=>vif c (zh P za a 1 e fun c f=>zg P zb c f fun c f=>R c f) (R (.int .i64 (-1)) e)) (zj P .eql zb true b (.int .i64 21) d fun c d=>vif c (zh P za a 3 d fun c e=>zg P ze c e fun c e=>vcall P ql #[v0,c] e fun c e=>zj P .lss zb true c (.int .i64 0) e fun e f=>vif e (R (.int .i64 (-1)) f) (zC P zl v0 c f fun c e=>zh P zp c 1 e fun c e=>zg P zb c e fun c e=>R c e)) (zj P .eql zb true b (.int .i64 24) d fun b c=>vif b (R (.int .i64 0) c) (zh P za a 4 c fun b c=>zg P zc b c fun b c=>zC P zc b (.int .i64 0) c fun b c=>zg P za b c fun b c=>vcall P yY #[v0,b] c fun b c=>zh P za a 4 c fun c d=>zg P zc c d fun c d=>vbi P .len [zc] zb [c] d fun c d=>zj P .eql zb true c (.int .i64 1) d fun c d=>vif c (zg P za a d fun c e=>vcall P jX #[c,b] e fun c e=>R c e) (zh P za a 4 d fun c d=>zg P zc c d fun c d=>zC P zc c (.int .i64 1) d fun c d=>zg P za c d fun c d=>vcall P yY #[v0,c] d fun c d=>zh P za a 4 d fun d e=>zg P zc d e fun d e=>vbi P .len [zc] zb [d] e fun d e=>zj P .eql zb true d (.int .i64 2) e fun d e=>vif d (zh P za a 0 e fun d f=>zg P zb d f fun d f=>vcall P jC #[d,b,c] f fun d f=>R d f) (zj P .neq zb true b (.int .i64 0) e fun b d=>vif b (R (.int .i64 (-1)) d) (zh P za a 4 d fun a b=>zg P zc a b fun a b=>zC P zc a (.int .i64 2) b fun a b=>zg P za a b fun a b=>vcall P yY #[v0,a] b fun a b=>zj P .neq zb false c a b fun a b=>vif a (R (.int .i64 (-1)) b) (R c b))))))))
theorem QH [ZP] {v0 v1 w R} (h:Y1 PP v0 v1 w R):vcall PP yY #[v0,v1] w R:=zo {} Tryz.func36 (by kernel_rfl) (by kernel_rfl) h
def ZZ [ZP] (P:Program) (v0:Value) (w:World) (R:Value→World→Prop):Prop:=xS P za v0 w fun a b=>zh P za a 0 b fun b c=>zg P zb b c fun b c=>zj P .eql zb true b (.int .i64 20) c fun c d=>vif c (zh P za a 1 d fun c e=>zg P zb c e fun c e=>zh P za a 2 e fun e f=>zg P zb e f fun e f=>zr P zf [(0,c),(1,e)] f fun c e=>vcall P j6 #[c] e fun c e=>R c e) (zj P .eql zb true b (.int .i64 21) d fun c d=>vif c (zh P za a 3 d fun c e=>zg P ze c e fun c e=>R c e) (zj P .eql zb true b (.int .i64 24) d fun b c=>vif b (R (.string {data:= #[116,114,117,101]}) c) (xp c fun b=>zh P za a 0 b fun c d=>d=b∧zg P zb c b fun d e=>e=b∧vcall P xP #[] b fun b e=>(zg P zb c e fun f g=>f=d∧g=e)∧(zh P za a 0 e fun f g=>f=c∧g=e)∧zC P zD b d e fun b c=>c=e∧zg P ze b e fun b c=>c=e∧zj P .add ze true (.string {data:= #[40]}) b e fun b c=>c=e∧yF (fun c=>zh P za a 0 e fun d e=>zg P zb d e fun d e=>zj P .eql zb true d (.int .i64 22) e fun d e=>vif d (xp e fun d=>zj P .add ze true b (.string {data:= #[32]}) d fun h i=>i=d∧zh P za a 1 d fun i j=>j=d∧zg P zb i d fun i j=>j=d∧zh P za a 2 d fun j k=>k=d∧zg P zb j d fun k l=>l=d∧vcall P yZ #[i] d fun d i=>(zg P zb j i fun f g=>f=k∧g=i)∧(zh P za a 2 i fun f g=>f=j∧g=i)∧(zj P .add ze true b (.string {data:= #[32]}) i fun f g=>f=h∧g=i)∧zj P .add ze false h d i fun j l=>l=i∧zj P .add ze true j (.string {data:= #[32]}) i fun l m=>m=i∧vcall P yZ #[k] i fun i k=>(zj P .add ze true j (.string {data:= #[32]}) k fun f g=>f=l∧g=k)∧(zj P .add ze false h d k fun f g=>f=j∧g=k)∧(zj P .add ze true b (.string {data:= #[32]}) k fun f g=>f=h∧g=k)∧zj P .add ze false l i k fun d f=>f=k∧c [d] k) (c [b] e)) (fun b _ c=>x7 [(sl 0 b),(.int .i64 0)] c fun b c _ d=>zh P za a 4 d fun d e=>zg P zc d e fun d e=>vbi P .len [zc] zb [d] e fun d e=>zj P .lss zb false (sl 1 c) d e fun d e=>vif d (zj P .add ze true (sl 0 c) (.string {data:= #[32]}) e fun d f=>zh P za a 4 f fun a f=>zg P zc a f fun a f=>zC P zc a (sl 1 c) f fun a f=>zg P za a f fun a f=>vcall P qk #[a] f fun a f=>zj P .add ze false d a f fun a d=>zj P .add zb true (sl 1 c) (.int .i64 1) d fun d f=>b [a,d] f) (zj P .add ze true (sl 0 c) (.string {data:= #[41]}) e fun a b=>R a b)))))
theorem QF [ZP] {v0 w R} (h:ZZ PP v0 w R):vcall PP qk #[v0] w R:=zo {ord:=[(8,[1,2,0,3,4,5,6],[(1,[2,3,4,5,6]),(2,[3,4,5,6]),(0,[3,4,5,6]),(3,[4,5,6]),(4,[5,6]),(5,[6])]),(10,[0,1,2,3,7,8,4,5,6,9,10,11],[(0,[1,5,6,10,11]),(1,[5,6,10,11]),(2,[3,4,5,6,9,10,11]),(3,[4,5,6,9,10,11]),(7,[8,9,10,11]),(8,[9,10,11]),(4,[5,6,9,10,11]),(5,[6,10,11]),(6,[10,11]),(9,[10,11]),(10,[11])])],loops:=[(12,[3,4])],cuts:=[(40971,[3])]} Tryz.func37 (by kernel_rfl) (by kernel_rfl) h
def zQ [ZP] (P:Program) (v0 v1 v2:Value) (w:World) (R:Value→World→Prop):Prop:=vbi P .len [zc] zb [v0] w fun a b=>vbi P .len [zc] zb [v1] b fun b c=>zj P .neq zb false a b c fun a b=>vif a (R (.bool false) b) (vbi P .len [zc] zb [v0] b fun a b=>x7 [(.int .i64 0)] b fun b c _ d=>zj P .lss zb false (sl 0 c) a d fun a d=>vif a (zC P zc v0 (sl 0 c) d fun a e=>zg P za a e fun a e=>yg P za e fun e f=>zk P za e a f fun _ a=>zC P zc v1 (sl 0 c) a fun a f=>zg P za a f fun a f=>yg P za f fun f g=>zk P za f a g fun _ a=>zg P za e a fun a e=>zg P za f e fun e f=>vcallv P v2 #[a,e] f fun a e=>vun P .not a e fun a e=>vif a (R (.bool false) e) (zj P .add zb true (sl 0 c) (.int .i64 1) e fun a c=>b [a] c)) (R (.bool true) d))
theorem yo [ZP] {v0 v1 v2 w R} (h:zQ PP v0 v1 v2 w R):vcall PP zO #[v0,v1,v2] w R:=zo {loops:=[(4,[17])]} Tryz.func38 (by kernel_rfl) (by kernel_rfl) h
def jq [ZP] (P:Program) (v0 v1:Value) (w:World) (R:Value→World→Prop):Prop:=vnil P v0 w fun a b=>zh P zA a 1 b fun a b=>zg P zb a b fun a b=>zj P .add zb true a (.int .i64 1) b fun a b=>vnil P v0 b fun b c=>zh P zA b 1 c fun b c=>zk P zb b a c fun _ a=>yF (fun b=>zj P .lss zb true v1 (.int .i64 1) a fun a c=>vif a (R (.int .i64 0) c) (vnil P v0 c fun a c=>zh P zA a 0 c fun a c=>zg P zu a c fun a c=>vbi P .len [zu] zb [a] c fun a c=>zj P .eql zb true a (.int .i64 0) c fun a c=>vif a (R (.int .i64 0) c) (b [] c))) (fun _ _ a=>vnil P v0 a fun a b=>zh P zA a 1 b fun a b=>zg P zb a b fun a b=>zj P .sub zb true a (.int .i64 1) b fun a b=>vnil P v0 b fun b c=>zh P zA b 0 c fun b c=>zg P zu b c fun b c=>vbi P .len [zu] zb [b] c fun b c=>zj P .lss zb false a b c fun b c=>vif b (vnil P v0 c fun b d=>zh P zA b 0 d fun b d=>zg P zu b d fun b d=>zC P zu b a d fun b d=>zg P zZ b d fun b d=>jh P zZ zb b d fun b d=>zj P .rem zb false b v1 d fun b d=>R b d) (xp c fun b=>vnil P v0 b fun c d=>d=b∧zh P zA c 0 b fun c d=>d=b∧zg P zu c b fun c d=>d=b∧vnil P v0 b fun d e=>e=b∧zh P zA d 0 b fun d e=>e=b∧zg P zu d b fun d e=>e=b∧vbi P .len [zu] zb [d] b fun d e=>e=b∧zj P .rem zb false a d b fun d e=>e=b∧zC P zu c d b fun c d=>d=b∧zg P zZ c b fun c d=>d=b∧jh P zZ zb c b fun c d=>d=b∧zj P .mul zb true c (.int .i64 131) b fun c d=>d=b∧vnil P v0 b fun d e=>e=b∧zh P zA d 0 b fun d e=>e=b∧zg P zu d b fun d e=>e=b∧zj P .mul zb true a (.int .i64 7) b fun e f=>f=b∧zj P .add zb true e (.int .i64 3) b fun e f=>f=b∧vnil P v0 b fun f g=>g=b∧zh P zA f 0 b fun f g=>g=b∧zg P zu f b fun f g=>g=b∧vbi P .len [zu] zb [f] b fun f g=>g=b∧zj P .rem zb false e f b fun e f=>f=b∧zC P zu d e b fun d e=>e=b∧zg P zZ d b fun d e=>e=b∧jh P zZ zb d b fun d e=>e=b∧zj P .mul zb true d (.int .i64 1117) b fun d e=>e=b∧zj P .add zb false c d b fun c d=>d=b∧zj P .mul zb true a (.int .i64 29) b fun d e=>e=b∧zj P .add zb false c d b fun c d=>d=b∧vnil P v0 b fun d e=>e=b∧zh P zA d 0 b fun d e=>e=b∧zg P zu d b fun d e=>e=b∧vbi P .len [zu] zb [d] b fun d e=>e=b∧zj P .quo zb false a d b fun a d=>d=b∧zj P .mul zb true a (.int .i64 53) b fun a d=>d=b∧zj P .add zb false c a b fun a c=>c=b∧zj P .quo zb true a (.int .i64 64) b fun b c=>zj P .xor zb false a b c fun a b=>zj P .rem zb false a v1 b fun a b=>R a b))
theorem Yq [ZP] {v0 v1 w R} (h:jq PP v0 v1 w R):vcall PP zn #[v0,v1] w R:=zo {ord:=[(7,[0,1,2,3,4,5,6,7,8,9,10,11,12,13,14,15,16,17,18,19,20,21,22,23,24,25,26,27,28,29,30,31,32,33,34,35,36,37,38,39,40,41,42,43,44,45],[(0,[1,2,3,11,12,13,14,32,35,44,45]),(1,[2,3,11,12,13,14,32,35,44,45]),(2,[3,11,12,13,14,32,35,44,45]),(3,[11,12,13,14,32,35,44,45]),(4,[10,11,12,13,14,32,35,44,45]),(5,[6,7,8,9,10,11,12,13,14,32,35,44,45]),(6,[7,8,9,10,11,12,13,14,32,35,44,45]),(7,[8,9,10,11,12,13,14,32,35,44,45]),(8,[9,10,11,12,13,14,32,35,44,45]),(9,[10,11,12,13,14,32,35,44,45]),(10,[11,12,13,14,32,35,44,45]),(11,[12,13,14,32,35,44,45]),(12,[13,14,32,35,44,45]),(13,[14,32,35,44,45]),(14,[32,35,44,45]),(15,[16,17,18,28,29,30,31,32,35,44,45]),(16,[17,18,28,29,30,31,32,35,44,45]),(17,[18,28,29,30,31,32,35,44,45]),(18,[28,29,30,31,32,35,44,45]),(19,[20,21,27,28,29,30,31,32,35,44,45]),(20,[21,27,28,29,30,31,32,35,44,45]),(21,[27,28,29,30,31,32,35,44,45]),(22,[23,24,25,26,27,28,29,30,31,32,35,44,45]),(23,[24,25,26,27,28,29,30,31,32,35,44,45]),(24,[25,26,27,28,29,30,31,32,35,44,45]),(25,[26,27,28,29,30,31,32,35,44,45]),(26,[27,28,29,30,31,32,35,44,45]),(27,[28,29,30,31,32,35,44,45]),(28,[29,30,31,32,35,44,45]),(29,[30,31,32,35,44,45]),(30,[31,32,35,44,45]),(31,[32,35,44,45]),(32,[35,44,45]),(33,[34,35,44,45]),(34,[35,44,45]),(35,[44,45]),(36,[42,43,44,45]),(37,[38,39,40,41,42,43,44,45]),(38,[39,40,41,42,43,44,45]),(39,[40,41,42,43,44,45]),(40,[41,42,43,44,45]),(41,[42,43,44,45]),(42,[43,44,45]),(43,[44,45]),(44,[45])])],cuts:=[(12292,[])]} Tryz.func39 (by kernel_rfl) (by kernel_rfl) h
def kk [ZP] (P:Program) (v0 v1:Value) (w:World) (R:Value→World→Prop):Prop:=vbi P .len [zD] zb [v1] w fun a b=>vcall P zn #[v0,a] b fun a b=>zC P zD v1 a b fun a b=>zg P ze a b fun a b=>R a b
theorem Xq [ZP] {v0 v1 w R} (h:kk PP v0 v1 w R):vcall PP yE #[v0,v1] w R:=zo {} Tryz.func40 (by kernel_rfl) (by kernel_rfl) h
def kx [ZP] (P:Program) (v0:Value) (w:World) (R:Value→World→Prop):Prop:=xS P za v0 w fun a b=>yg P zb b fun b c=>zk P zb b (.int .i64 0) c fun _ c=>zg P za a c fun a c=>vcall P qX #[a,(.int .i64 1),b] c fun a c=>zg P zb b c fun c d=>zj P .gtr zb true c (.int .i64 20) d fun c d=>vif c (R (.tuple #[(.int .i64 21),(.int .i64 8)]) d) (zj P .gtr zb true a (.int .i64 7) d fun c d=>vif c (R (.tuple #[(.int .i64 21),(.int .i64 8)]) d) (zg P zb b d fun b c=>R (.tuple #[b,a]) c))
theorem Xz [ZP] {v0 w R} (h:kx PP v0 w R):vcall PP qF #[v0] w R:=zo {} Tryz.func41 (by kernel_rfl) (by kernel_rfl) h
def Yi [ZP] (P:Program) (v0:Value) (w:World) (R:Value→World→Prop):Prop:=vbi P .len [zl] zb [v0] w fun a b=>zj P .gtr zb true a (.int .i64 4) b fun a b=>vif a (R (.bool false) b) (vbi P .len [zl] zb [v0] b fun a b=>x7 [(.int .i64 0),(.int .i64 0)] b fun b c _ d=>zj P .lss zb false (sl 1 c) a d fun a d=>vif a (zC P zl v0 (sl 1 c) d fun a e=>zg P zp a e fun a e=>yg P zp e fun e f=>zk P zp e a f fun _ a=>yF (fun f=>zh P zp e 0 a fun a g=>zg P ze a g fun a g=>vbi P .len [ze] zb [a] g fun a g=>zj P .lss zb true a (.int .i64 1) g fun a g=>vif a (R (.bool false) g) (zh P zp e 0 g fun a g=>zg P ze a g fun a g=>vbi P .len [ze] zb [a] g fun a g=>zj P .gtr zb true a (.int .i64 4) g fun a g=>vif a (R (.bool false) g) (zh P zp e 0 g fun a g=>zg P ze a g fun a g=>zj P .eql ze true a (.string {data:= #[116,114,117,101]}) g fun a g=>vif a (R (.bool false) g) (zh P zp e 0 g fun a g=>zg P ze a g fun a g=>vcall P kU #[a,(.string {data:= #[97,98,99,100,101,102,103,104,105,106,107,108,109,110,111,112,113,114,115,116,117,118,119,120,121,122]})] g fun a g=>zj P .neq ze true a (.string {data:= #[]}) g fun a g=>vif a (R (.bool false) g) (f [] g))))) (fun _ _ a=>yx P zl v0 none (some (sl 1 c)) none a fun a f=>vmkF P (.func k7) [] [e] f fun f g=>vcall P y0 #[a,f] g fun a f=>vif a (R (.bool false) f) (zh P zp e 1 f fun a f=>zg P zb a f fun a f=>zj P .lss zb true a (.int .i64 1) f fun a f=>vif a (R (.bool false) f) (zh P zp e 1 f fun a f=>zg P zb a f fun a f=>zj P .gtr zb true a (.int .i64 4) f fun a f=>vif a (R (.bool false) f) (zh P zp e 1 f fun a e=>zg P zb a e fun a e=>zj P .add zb false (sl 0 c) a e fun a e=>zj P .add zb true (sl 1 c) (.int .i64 1) e fun e f=>b [a,e] f))))) (zj P .leq zb true (sl 0 c) (.int .i64 8) d fun a b=>R a b))
theorem QZ [ZP] {v0 w R} (h:Yi PP v0 w R):vcall PP jH #[v0] w R:=zo {loops:=[(5,[3,11])],cuts:=[(32777,[])]} Tryz.func42 (by kernel_rfl) (by kernel_rfl) h
end Go.Proofs.YtaemeijeaajoeaaGreatDoor
end
