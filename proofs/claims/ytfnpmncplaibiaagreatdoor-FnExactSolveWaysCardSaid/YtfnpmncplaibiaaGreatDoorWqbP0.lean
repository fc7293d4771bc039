import Derived.OrdersIn
import Derived.RangeFuncIn
import Derived.Tactics
import Derived.Laws.Sem
import Derived.KernelRfl
import Derived.Test.YtfnpmncplaibiaaGreatDoorProg
/- A part of the proof. -/
set_option linter.all false
set_option maxRecDepth 9999
set_option maxHeartbeats 2000000
noncomputable section
abbrev oA:=Nat→Prop
abbrev oI:=List Int
abbrev oN:Go.Value:=.slice none 0 0
abbrev oE (a:Go.Addr):Go.Value:=.pointer (some a)
abbrev oP (b i:Nat):Go.Value:=.pointer (some ⟨b,i,none⟩)
abbrev oK:=Go.Value→Go.World→Prop
open Go Go.Proofs in
noncomputable def P:Program:=Tryz.prog
abbrev nI (n:Int):Go.Value:=.int .i64 n
theorem oM {p:Prop} (h:p:=by omega):p:=h
theorem rK {p:Prop} (h:p:=by kernel_rfl):p:=h
theorem dC {p:Prop} (h:p:=by decide):p:=h
theorem oS {p:Prop} (h:p:=by first|omega|simp only[push_cast]):p:=h
theorem oZ {a b:Prop} (h:b) (e:a=b:=by conv=>lhs;simp only[push_cast]):a:=e.mpr h
abbrev oR:=List.range
def oa (i:Nat):List Nat->List (Nat×List Nat)->List (Nat×List Nat)
 |[],t=>t
 |l,t=>(i,l)::t
def ol (i:Nat):List (Nat×List Nat)->List Nat
 |[]=>[]
 |(k,e)::r=>match i==k with
  |true=>e
  |false=>ol i r
def ob (x:Nat):List Nat->Bool
 |[]=>false
 |y::r=>match x==y with
  |true=>true
  |false=>ob x r
def of_ (e:List Nat):List Nat->List Nat
 |[]=>[]
 |x::r=>match ob x e with
  |true=>of_ e r
  |false=>x::of_ e r
def ot (ex:List (Nat×List Nat)):List Nat->List (Nat×List Nat)
 |[]=>[]
 |i::r=>oa i (of_ (ol i ex) r) (ot ex r)
def oz (b:Nat) (l:List Nat) (ex:List (Nat×List Nat)):Nat×List Nat×List (Nat×List Nat):=(b,l,ot ex l)
def y3:=@if_neg
def y4:=@List.getD_eq_getElem?_getD
def k5:=@true_and
def X0:=@if_pos
def Q1:=@List.length_append
def K3:=@List.length_map
def V0:=@decide_eq_true_eq
def V1:=@Option.some.inj
def gd:=@List.getElem?_eq_getElem
def gg:=@Bool.and_eq_true
def gh:=@List.length_take
def gi:=@and_self
def gj:=@List.mem_cons
def gk:=@List.mem_cons_self
def gl:=@List.mem_append
def gm:=@decide_eq_false
def gp:=@List.mem_cons_of_mem
def gq:=@List.getElem_of_mem
def gr:=@Nat.le_refl
def gu:=@Int.toNat_natCast
def gx:=@List.mem_singleton
def gy:=@List.mem_map
def gz:=@decide_eq_true
def gA:=@List.take_length
def gB:=@Nat.eq_of_beq_eq_true
def gC:=@List.not_mem_nil
def gD:=@List.take_of_length_le
def gE:=@List.map_append
def gF:=@List.length_cons
def gG:=@List.length_singleton
def gH:=@Array.getElem?_eq_some_iff
def gI:=@List.length_replicate
def gJ:=@List.mem_range
def gK:=@List.append_nil
def gL:=@List.eq_nil_of_length_eq_zero
def gM:=@List.ext_getElem
def gN:=@Nat.pow_le_pow_right
def gP:=@List.length_set
def gQ:=@List.all_eq_true
def gS:=@Bool.not_eq_true'
def gU:=@List.mem_of_mem_take
def gV:=@Array.getElem?_toList
def gW:=@Bool.not_eq_false'
def gX:=@Array.getD_eq_getD_getElem?
def gY:=@Nat.le_trans
def gZ:=@List.append_assoc
def Ga:=@Int.zero_sub
def Gb:=@List.getElem?_append_left
def Gc:=@List.mem_map_of_mem
def Gd:=@Bool.false_eq_true
def Ge:=@List.mem_append_left
def Gf:=@Nat.zero_le
def Gg:=@List.cons.injEq
def Gh:=@and_true
def Gi:=@Nat.zero_add
def Gj:=@List.drop_eq_nil_of_le
def Gk:=@List.nil_append
def Gm:=@Bool.or_eq_true
def Gn:=@or_false
def Gp:=@Bool.not_true
def Gq:=@List.map_congr_left
def Gr:=@Option.some.injEq
def Gu:=@List.nodup_append
def Gv:=@List.mem_append_right
def Gw:=@Prod.mk.injEq
def Gx:=@List.getElem?_eq_some_iff
def Gy:=@Classical.byContradiction
def Gz:=@Nat.mod_eq_of_lt
def GA:=@List.getElem?_append_right
def GB:=@Array.getElem?_eq_getElem
def GC:=@List.pairwise_iff_getElem
def GD:=@Option.getD_some
def GF:=@List.map_cons
def GG:=@List.map_take
def GH:=@Bool.and_eq_false_iff
def GI:=@Nat.div_le_self
def GJ:=@List.take_append_of_le_length
def GK:=@Decidable.byContradiction
def GL:=@Nat.min_eq_left
def GM:=@List.cons_append
def GN:=@List.getElem?_map
def GO:=@List.map_replicate
def GP:=@Array.toList_inj
def GQ:=@List.length_pos_iff
def GR:=@List.flatten_cons
def GS:=@Bool.eq_false_iff
def GU:=@Bool.false_and
def GV:=@List.map_map
def GW:=@Nat.sub_self
def GX:=@Nat.add_sub_cancel
def GY:=@List.mem_of_mem_drop
def GZ:=@List.length_range
def G0:=@Int.natAbs_neg
def G1:=@List.nodup_cons
def G2:=@Array.getElem?_modify
def G3:=@List.take_append_drop
def G4:=@List.append_of_mem
def G5:=@List.map_singleton
def G6:=@Option.isSome_iff_exists
def G7:=@Nat.add_zero
def G8:=@List.eq_of_mem_replicate
def G9:=@List.mem_of_getElem?
def pa:=@Nat.add_mul
def pb:=@List.size_toArray
def pc:=@List.pairwise_map
def pd:=@List.take_add_one
def pf:=@List.getD_cons_zero
def pg:=@List.getD_cons_succ
def ph:=@List.any_eq_true
def pj:=@List.getElem_mem
def pk:=@List.length_drop
def pn:=@List.nodup_nil
def po:=@List.set_cons_zero
def pr:=@List.take_take
def pt:=@List.getElem_range
def pw:=@Array.mem_of_getElem?
def pz:=@List.exists_mem_of_ne_nil
def pA:=@Nat.not_lt_zero
def pB:=@Array.all_eq_true_iff_forall_mem
def pC:=@List.Sublist.append
def pD:=@Array.length_toList
def pE:=@List.length_reverse
def pF:=@List.getElem_set
def pG:=@List.sublist_cons_self
def pH:=@Nat.lt_of_lt_of_le
def pI:=@Option.map_eq_some_iff
def pJ:=@Int.natAbs_natCast
def pK:=@List.length_nil
def pL:=@Bool.true_and
def pM:=@List.set_append_right
def pN:=@List.getElem?_reverse
def pO:=@List.Sublist.refl
def pP:=@List.any_eq_false
def pQ:=@List.idxOf_append
def pR:=@Array.mem_toList_iff
def pS:=@Nat.mod_lt
def pT:=@Nat.mul_le_mul_right
def pU:=@Nat.mul_one
def pV:=@List.take_zero
def pW:=@Bool.and_false
def pX:=@Int.tmod_eq_emod_of_nonneg
def pY:=@List.count_le_length
def pZ:=@List.mem_or_eq_of_mem_set
def p0:=@List.replicate_zero
def p4:=@List.map_drop
def Pa:=@Nat.blt_eq
def Pb:=@List.pairwise_cons
def Pc:=@List.find?_eq_none
def Pd:=@List.getElem?_drop
def Pe:=@List.getElem?_cons_zero
def Pf:=@List.getElem?_cons_succ
def Pg:=@Nat.one_mul
def Ph:=@List.length_eq_zero_iff
def Pj:=@Bool.not_false
def Pk:=@List.drop_of_length_le
def Pl:=@List.pairwise_iff_forall_sublist
def Pm:=@Array.getElem?_setIfInBounds_ne
def Pn:=@List.getElem?_eq_none
def Po:=@Nat.le_of_ble_eq_true
def Pp:=@List.getElem?_toArray
def Pq:=@List.prefix_refl
def Pr:=@Nat.and_two_pow_sub_one_eq_mod
def Ps:=@List.mem_reverse
def Pt:=@List.find?_eq_some_iff_getElem
def Pu:=@List.getElem_map
def Pv:=@List.Nodup.length_le_of_subset
def Pw:=@Nat.add_assoc
def Px:=@List.range_eq_range'
def Py:=@Int.le_refl
def Pz:=@List.flatten_append
def PA:=@Array.toList_append
def PB:=@List.replicate_succ
def PC:=@List.getElem?_range
def PD:=@List.dropWhile_cons
def PE:=@List.take_succ_cons
def PF:=@Nat.mul_comm
def PG:=@List.map_nil
def PH:=@Nat.lt_of_le_of_lt
def PI:=@List.set_cons_succ
def PJ:=@Array.foldl_toList
def PK:=@Int.natCast_nonneg
def PL:=@List.filter_append
def PM:=@Array.getElem?_append_left
def PN:=@List.append_eq_append_iff
def PO:=@List.drop_eq_getElem_cons
def PQ:=@Array.toList_push
def PR:=@Nat.or_lt_two_pow
def PS:=@List.mem_range'_1
def PT:=@Classical.not_not
def PU:=@Bool.and_true
def PV:=@List.getElem_append_left
def PW:=@List.getElem?_replicate
def PX:=@List.filter_cons
def PY:=@Int.eq_ofNat_of_zero_le
def PZ:=@Nat.zero_mul
def P3:=@List.map_set
def P4:=@List.set_set
def P5:=@List.filter_eq_nil_iff
def P6:=@List.length_eq_one_iff
def P7:=@List.mem_filter
def P8:=@List.range_succ
def P9:=@Bool.eq_iff_iff
def z0a:=@and_congr_right
def z0b:=@Nat.le_antisymm
def z0c:=@ne_eq
def z0d:=@List.drop_drop
def z0e:=@Nat.mul_le_mul
def z0f:=@List.drop_zero
def z0g:=@Bool.false_or
namespace Go.Vc
open Go
section
abbrev Fr:=Nat->Value
def put (f:Fr) (d:Option Nat) (v:Value):Fr:=
 match d with
 |some d=>λt=>cond (Nat.beq t d) v (f t)
 |none=>f
def ev (f:Fr):Operand->Value
 | .tmp t=>f t
 | .const v=>v
 | .global g=> oP g 0
 | .func k=> .func (.func k) #[] #[]
abbrev FR (ro:Option Nat):Fence:={Fence.wide with round:=ro}
structure Sim (df:List Deferred) (n:Nat) (f:Fr) (a:Act):Prop where
 size:a.tmps.size=n
 defers:a.defers=df
 at_:∀t,a.tmps.getD t undef=f t
theorem Sim.eval {df:List Deferred} {n:Nat} {f:Fr} {a:Act} (h:Sim df n f a):a.eval=ev f:=by
 funext x
 cases x<;>simp only[Act.eval,ev];exact h.at_ _
theorem JY (f:Fr) (d:Nat) (v:Value):put f (some d) v d=v:=by simp[put]
theorem WB (f:Fr) (d t:Nat) (v:Value) (h:t≠d):put f (some d) v t=f t:=by
 have:Nat.beq t d=false:=by
  cases a:Nat.beq t d;·rfl
  .exact absurd (gB a) h
 simp[put,this]
def jS0 (n:Nat) (d:Option Nat):Bool:=match d with|some d=>Nat.blt d n|none=>true
theorem Sim.put {df:List Deferred} {n:Nat} {f:Fr} {a:Act} (h:Sim df n f a) {d:Option Nat} (e:jS0 n d=true) (v:Value):Sim df n (put f d v) (a.put d v):=by
 cases d with
 |none=>exact h
 |some d=>
  have b:d<n:=(by simpa[jS0,Pa] using e);refine⟨by simp[Act.put,h.size],by simp[Act.put,h.defers],λt=>?_⟩;by_cases c:t=d
  .subst c;rw[JY];simp[Act.put,gX,h.size,b]
  .rw[WB _ _ _ _ c,<-h.at_ t];simp[Act.put,gX,Pm (Ne.symm c)]
def XL {α:Type} (s:Sem α) (w:World) (K:α->World->Prop):Prop:= ∃v w',s.run P w= .ok v w'/\K v w'
def retK (K:oK) (e:Ending) (w:World):Prop:=
 match e with
 | .returned v=>K v w
 |_=>False
def okFn (g:Nat):Bool:=
 match P.funcs[g]? with
 |some fn=>fn.name != "runtime.NumGoroutine" &&fn.body.isSome
 |none=>false
def vcall (g:Nat) (args:Array Value) (w:World) (K:oK):Prop:=
 okFn g=true/\Calls P g args w (retK K)
def YW0 (l:Nat) (args:Array Value) (w:World) (K:oK):Prop:=
 ∃fn tmps assign body,(Instr.yield l args).run P w= .ok (.round l fn tmps assign body) w/\RoundIn (FR none) 0 P l fn tmps assign body w (retK K)
def vcallv (v:Value) (args:Array Value) (w:World) (K:oK):Prop:=
 match v with
 | .func (.func g) first cap=>vcall g ⟨(first.toList++args.toList)++cap.toList⟩ w K
 | .func (.yield l) first _=>YW0 l ⟨first.toList++args.toList⟩ w K
 |_=>False
def vinvoke (r:Value) (name:String) (args:Array Value) (w:World) (K:oK):Prop:=
 match r with
 | .iface t v=> ∃g rcv,(method (P.types.size+Made.depth) t v name).run P w= .ok (g,rcv) w/\vcall g ⟨rcv::args.toList⟩ w K
 |_=>False
def vpick (c a b:Value) (w:World) (K:oK):Prop:=
 match c with
 | .bool true=>K a w
 | .bool false=>K b w
 |_=>False
def vif (c:Value) (A B:Prop):Prop:=
 match c with
 | .bool true=>A
 | .bool false=>B
 |_=>False
def eqG (op:BinOp) (t:TypeId) (c:Bool) (a b:Value):Sem Unit:=eqGuard op t (cond c (.const undef) (.tmp 0)) (.tmp 0) a b
def isC:Operand->Bool| .const _=>true|_=>false
theorem qr0 (op:BinOp) (t:TypeId) (x y:Operand) (a b:Value):eqGuard op t x y a b=eqG op t (isC x||isC y) a b:=by
 unfold eqG eqGuard;cases x<;>cases y<;>rfl
def qu (op:BinOp) (t:TypeId) (c:Bool) (a b:Value) (w:World) (K:oK):Prop:=
 XL (do eqG op t c a b;binOp op t a b) w K
def vun (op:UnOp) (a:Value) (w:World) (K:oK):Prop:=XL (Op.unary op a) w K
def xS (t:TypeId) (w:World) (K:oK):Prop:=XL (Instr.alloc t true (.tuple #[])) w K
def yO0 (t:TypeId) (v:Value) (w:World) (K:oK):Prop:=XL (Instr.box t v) w K
def yA (t:TypeId) (ps:List (Nat×Value)) (w:World) (K:oK):Prop:=XL (Instr.build t ⟨ps⟩) w K
def vbuildS (t n:Nat) (ps:List (Nat×Value)) (w:World) (K:oK):Prop:=XL (Instr.buildSlice t n ⟨ps⟩) w K
def zu (t:TypeId) (a:Value) (w:World) (K:oK):Prop:=XL (Instr.loadAt t a) w K
def zG (t:TypeId) (a v:Value) (w:World) (K:oK):Prop:=XL (Instr.storeAt t a v) w λ_ w'=>K undef w'
def vnilD (v:Value) (w:World) (K:oK):Prop:=
 match v with
 | .pointer (some a)=>K (.pointer (some a)) w
 | .pointer none=>False
 | .nilIface=>False
 | .nilFunc=>False
 | .func (.func g) a b=>K (.func (.func g) a b) w
 | .func _ _ _=>False
 | .iface t x=>K (.iface t x) w
 |v=>K v w
structure vnil (_P:Program) (v:Value) (w:World) (K:oK):Prop where
 h:vnilD v w K
def yS0 (s d:TypeId) (v:Value) (w:World) (K:oK):Prop:=XL (convert s d v) w K
def qA0 (t:TypeId) (v:Value) (w:World) (K:oK):Prop:=XL (Instr.makeInterface t v) w K
def vmkF (fn:Fn) (first cap:List Value) (w:World) (K:oK):Prop:=XL (Instr.makeFunc fn ⟨first⟩ ⟨cap⟩) w K
def YY0 (t:TypeId) (r:Option Value) (w:World) (K:oK):Prop:=XL (Instr.makeMap t r) w K
def vmkS (t:TypeId) (l c:Value) (w:World) (K:oK):Prop:=XL (Instr.makeSlice t l c) w K
def xy (t:TypeId) (x:Value) (lo hi mx:Option Value) (w:World) (K:oK):Prop:=XL (Instr.sliceAt t x lo hi mx) w K
def zD (s:TypeId) (x:Value) (f:Nat) (w:World) (K:oK):Prop:=XL (Instr.fieldAt s x f) w K
def ZH0 (t:TypeId) (x:Value) (f:Nat) (w:World) (K:oK):Prop:=XL (Instr.field t x f) w K
def ya (t:TypeId) (x i:Value) (w:World) (K:oK):Prop:=XL (Instr.indexAt t x i) w K
def qY0 (t:TypeId) (x i:Value) (w:World) (K:oK):Prop:=XL (Instr.index t x i) w K
def XO (t:TypeId) (x i:Value) (ok:Bool) (w:World) (K:oK):Prop:=XL (Instr.lookup t x i ok) w K
def zC0 (t:TypeId) (m k x:Value) (w:World) (K:oK):Prop:=XL (Instr.mapUpdate t m k x) w λ_ w'=>K undef w'
def ZF0 (t:TypeId) (x:Value) (w:World) (K:oK):Prop:=XL (Instr.range t x) w K
def YX0 (it:Value) (s:Bool) (t:TypeId) (w:World) (K:oK):Prop:=XL (Instr.next it s t) w K
def ZI0 (it:Value) (w:World) (K:oK):Prop:=XL (Instr.entry it) w K
def yU0 (x:Value) (t u:TypeId) (ok:Bool) (w:World) (K:oK):Prop:=XL (Instr.typeAssert x t u ok) w K
def qo (x:Value) (i:Nat) (w:World) (K:oK):Prop:=XL (Instr.extract x i) w K
def biSem (b:Builtin) (ts:Array TypeId) (t:TypeId) (args:Array Value):Sem Value:=
 match b with
 | .append=>Builtin.append_ ts t args
 | .cap=>Builtin.cap_ ts t args
 | .clear=>Builtin.clear_ ts t args
 | .copy=>Builtin.copy_ ts t args
 | .delete=>Builtin.delete_ ts t args
 | .len=>Builtin.len_ ts t args
 | .max=>Builtin.max_ ts t args
 | .min=>Builtin.min_ ts t args
 |_=>stuck ""
def vbi (b:Builtin) (ts:List TypeId) (t:TypeId) (args:List Value) (w:World) (K:oK):Prop:=XL (biSem b ⟨ts⟩ t ⟨args⟩) w K
def evP (f:Fr):List (Nat×Operand)->List (Nat×Value)
 |[]=>[]
 |p::r=>(p.1,ev f p.2)::evP f r
def evL (f:Fr):List Operand->List Value
 |[]=>[]
 |x::r=>ev f x::evL f r
def evO (f:Fr):Option Operand->Option Value
 |none=>none
 |some x=>some (ev f x)
theorem ZX0 (f:Fr) (l:List (Nat×Operand)):evP f l=l.map λp=>(p.1,ev f p.2):=by induction l<;>simp_all[evP]
theorem Vh (f:Fr) (l:List Operand):evL f l=l.map (ev f):=by induction l<;>simp_all[evL]
theorem xM0 (f:Fr) (l:Option Operand):evO f l=l.map (ev f):=by cases l<;>rfl
def vop (o:Op) (ty:TypeId) (f:Fr) (w:World) (K:oK):Prop:=
 match o with
 | .move x=>K (ev f x) w
 | .assign x=>K (ev f x) w
 | .pick c a b=>vpick (ev f c) (ev f a) (ev f b) w K
 | .alloc t=>xS t w K
 | .box t x=>yO0 t (ev f x) w K
 | .build t ps=>yA t (evP f ps.toList) w K
 | .buildSlice t n ps=>vbuildS t n (evP f ps.toList) w K
 | .load t a=>zu t (ev f a) w K
 | .store t a x=>zG t (ev f a) (ev f x) w K
 | .nilCheck x=>vnil P (ev f x) w K
 | .binOp op t x y _=>qu op t (isC x||isC y) (ev f x) (ev f y) w K
 | .unOp op _ x=>vun op (ev f x) w K
 | .convert s d x=>yS0 s d (ev f x) w K
 | .makeInterface t x=>qA0 t (ev f x) w K
 | .makeFunc fn a b=>vmkF fn (evL f a.toList) (evL f b.toList) w K
 | .makeMap t r=>YY0 t (evO f r) w K
 | .makeSlice t l c=>vmkS t (ev f l) (ev f c) w K
 | .slice t x lo hi mx=>xy t (ev f x) (evO f lo) (evO f hi) (evO f mx) w K
 | .fieldAddr s x i=>zD s (ev f x) i w K
 | .field t x i=>ZH0 t (ev f x) i w K
 | .indexAddr t x i=>ya t (ev f x) (ev f i) w K
 | .index t x i=>qY0 t (ev f x) (ev f i) w K
 | .lookup t x i ok=>XO t (ev f x) (ev f i) ok w K
 | .mapUpdate t m k x=>zC0 t (ev f m) (ev f k) (ev f x) w K
 | .insert t m k x=>zC0 t (ev f m) (ev f k) (ev f x) w K
 | .range t x=>ZF0 t (ev f x) w K
 | .next it s=>YX0 (ev f it) s ty w K
 | .entry it=>ZI0 (ev f it) w K
 | .typeAssert x t u ok=>yU0 (ev f x) t u ok w K
 | .extract x i=>qo (ev f x) i w K
 | .call c=>match c.callee with
  | .value x=>vcallv (ev f x) ⟨evL f c.args.toList⟩ w K
  | .invoke r name=>vinvoke (ev f r) name ⟨evL f c.args.toList⟩ w K
  | .builtin b=>vbi b c.argTypes.toList ty (evL f c.args.toList) w K
 |_=>False
def isStatic:Op->Bool
 | .move _| .assign _| .pick .. | .build .. | .load .. | .nilCheck _| .binOp .. | .unOp .. | .convert .. | .makeInterface ..
 | .makeFunc .. | .slice .. | .fieldAddr .. | .field .. | .indexAddr .. | .index .. | .lookup .. | .typeAssert .. | .extract ..=>true
 | .call c=>match c.callee with
  | .builtin b=>(match b with| .len=>true| .cap=>true| .max=>true| .min=>true|_=>false)
  |_=>false
 |_=>false
section
variable {f:Fr} {w:World} {K:oK}
theorem xa {s:Sem Value} {v:Value} {w':World} (h:s.run P w= .ok v w'):(do pure (Next.value (<-s)):Sem Next).run P w= .ok (.value v) w':=by
 simp[h]
theorem YT0 {α β:Type} (g:α->β) (l:Array α):(⟨l.toList.map g⟩:Array β)=l.map g:=by
 apply GP.1;simp
theorem ext1 {α:Type} (x:α) (l:Array α):(#[x]++l).extract 1 (#[x]++l).size=l:=by
 apply GP.1;simp
theorem kD0 {v:Value} {Kn:oK} (h:vnil P v w Kn):Kn v w/\∀{ρ:Operand->Value} {x:Operand} {d:Option Tmp} {ty:TypeId} {p:String} {e:Array Edge} {g:Option (Nat×Bool)},
  ρ x=v->(execOp ρ ⟨d,.nilCheck x,ty,p,e,g⟩).run P w= .ok (.value v) w:=by
 replace h:=h.h;cases v<;>simp only[vnilD] at h
 case pointer a=>
  cases a<;>simp only at h;exact⟨h,λb=>by simp only[execOp,b];rfl⟩
 case func fn x y=>
  cases fn<;>simp only at h;exact⟨h,λb=>by simp only[execOp,b];rfl⟩
 all_goals exact⟨h,λb=>by simp only[execOp,b];rfl⟩
theorem ZR {o:Oper} (j:isStatic o.op=true) (h:vop o.op o.type f w K):
  ∃v w',(execOp (ev f) o).run P w= .ok (.value v) w'/\K v w':=by
 obtain⟨dst,op,type,pos,after,guard⟩:=o;cases op<;>simp only[isStatic,Gd] at j<;>simp only[vop] at h
 case move x=>exact⟨_,_,rfl,h⟩
 case assign x=>exact⟨_,_,rfl,h⟩
 case pick c a b=>
  unfold vpick at h;split at h
  .rename_i k;exact⟨_,_,by simp[execOp,k,asBool],h⟩
  .rename_i k;exact⟨_,_,by simp[execOp,k,asBool],h⟩
  .exact h.elim
 case build t ps=>
  obtain⟨v,w',e,g⟩:=h;refine⟨v,w',xa ?_,g⟩;rw[<-e,ZX0,YT0]
 case load t a=>obtain⟨v,w',e,g⟩:=h;exact⟨v,w',xa e,g⟩
 case nilCheck x=>
  have:=kD0 h;exact⟨_,_,this.2 rfl,this.1⟩
 case binOp op t x y yt=>
  obtain⟨v,w',e,g⟩:=h;refine⟨v,w',xa ?_,g⟩;rw[qr0];exact e
 case unOp op t x=>obtain⟨v,w',e,g⟩:=h;exact⟨v,w',xa e,g⟩
 case convert s d x=>obtain⟨v,w',e,g⟩:=h;exact⟨v,w',xa e,g⟩
 case makeInterface t x=>obtain⟨v,w',e,g⟩:=h;exact⟨v,w',xa e,g⟩
 case makeFunc fn a b=>
  obtain⟨v,w',e,g⟩:=h;refine⟨v,w',xa ?_,g⟩;rw[<-e,Vh,Vh,YT0,YT0]
 case slice t x lo hi mx=>obtain⟨v,w',e,g⟩:=h;rw[xM0,xM0,xM0] at e;exact⟨v,w',xa e,g⟩
 case fieldAddr s x i=>obtain⟨v,w',e,g⟩:=h;exact⟨v,w',xa e,g⟩
 case field t x i=>obtain⟨v,w',e,g⟩:=h;exact⟨v,w',xa e,g⟩
 case indexAddr t x i=>obtain⟨v,w',e,g⟩:=h;exact⟨v,w',xa e,g⟩
 case index t x i=>obtain⟨v,w',e,g⟩:=h;exact⟨v,w',xa e,g⟩
 case lookup t x i ok=>obtain⟨v,w',e,g⟩:=h;exact⟨v,w',xa e,g⟩
 case typeAssert x t u ok=>obtain⟨v,w',e,g⟩:=h;exact⟨v,w',xa e,g⟩
 case extract x i=>obtain⟨v,w',e,g⟩:=h;exact⟨v,w',xa e,g⟩
 case call c=>
  obtain⟨callee,args,ts⟩:=c;cases callee<;>simp only[Gd] at j
  case builtin b=>
   simp only at h;obtain⟨v,w',e,g⟩:=h;refine⟨v,w',?_,g⟩;rw[Vh,YT0] at e;cases b<;>simp only[Gd] at j<;>simp only[biSem] at e<;>
    exact xa e
theorem callFunc_run {g:Nat} {args:Array Value} (a:okFn g=true):(callFunc g args).run P w= .ok (.enter g args) w:=by
 unfold okFn at a;cases b:P.funcs[g]? with
 |none=>simp[b] at a
 |some fn=>
  simp only[b,gg,bne_iff_ne,z0c,Option.isSome_iff_ne_none] at a;have c: ¬fn.name= "runtime.NumGoroutine" :=a.1;have d: ¬fn.body=none:=a.2;simp[callFunc,program,b,c,d,Sem.run]
theorem Zc {ro:Option Nat} {o:Oper} (h:isStatic o.op=true) (ρ:Operand->Value):o.semAt (FR ro).round ρ=execOp ρ o:=
 Oper.semAt_eq ro ρ o λc e=>by rw[e] at h;cases h
set_option maxRecDepth 100000 in
theorem vop_sound {ro:Option Nat} {df:List Deferred} {n:Nat} {a:Act} {o:Oper} {next:Act->World->Prop} {Q:Exit->Act->World->Prop} (h:vop o.op o.type f w K) (hs:Sim df n f a)
  (p:∀v w',K v w'->next (a.put o.dst v) w'):o.wpIn (FR ro) 0 P a w next Q:=by
 by_cases i:isStatic o.op=true
 .obtain⟨v,w',d,q⟩:=ZR i h;refine⟨λ_ _=>trivial,?_⟩;rw[Zc i,hs.eval,d];exact p _ _ q
 .refine⟨λ_ _=>trivial,?_⟩;rw[show o.semAt (FR ro).round a.eval=execOp a.eval o from Oper.semAt_eq ro _ o λc e=>by rw[e] at h;exact h,hs.eval];obtain⟨dst,op,type,pos,after,guard⟩:=o;have val:∀{s:Sem Value},(XL s w K)->Oper.uponIn (FR ro) 0 P ⟨dst,op,type,pos,after,guard⟩ a next Q ((do pure (Next.value (<-s)):Sem Next).run P w):=by
   intro s ⟨v,w',d,q⟩;rw[xa d];exact p _ _ q
  have skp:∀{s:Sem Unit},(XL s w λ_ w'=>K undef w')->Oper.uponIn (FR ro) 0 P ⟨dst,op,type,pos,after,guard⟩ a next Q ((do s;pure Next.skip:Sem Next).run P w):=by
   intro s ⟨v,w',d,q⟩;simp only[Sem.run_bind,d,Result.andThen_ok,Sem.run_pure];exact p _ _ q
  have ent:∀{g:Nat} {args:Array Value},vcall g args w K->Oper.uponIn (FR ro) 0 P ⟨dst,op,type,pos,after,guard⟩ a next Q ((callFunc g args).run P w):=by
   intro g args ⟨D,z⟩;rw[callFunc_run D];refine⟨λh=>(by cases h),callsIn_wide (n:=0).2 (Calls.mono z λe w' he=>?_)⟩;cases e with
   |returned v=>exact p _ _ he
   |panicked c=>exact he.elim
   |outgrown=>exact he.elim
  cases op<;>simp only[vop] at h<;>(try exact h.elim)<;>(try (exact absurd rfl i))
  case alloc t=>exact val h
  case box t x=>exact val h
  case buildSlice t n ps=>
   rw[vbuildS,ZX0,YT0] at h;exact val h
  case store t x y=>exact skp h
  case makeMap t r=>rw[xM0] at h;exact val h
  case makeSlice t l c=>exact val h
  case mapUpdate t m k x=>exact skp h
  case insert t m k x=>exact skp h
  case range t x=>exact val h
  case next it s=>exact val h
  case entry it=>exact val h
  case call c=>
   obtain⟨callee,args,ts⟩:=c;cases callee with
   |value x=>
    simp only at h;unfold vcallv at h;split at h
    .rename_i g first cap u
     have j:=ent h;rw[Vh] at j;simp only[execOp,resolve,u,Deferred.ofValue,Sem.run_bind,Sem.run_pure,Result.andThen_ok,invoke];have e:({toList:=first.toList++List.map (ev f) args.toList++cap.toList}:Array Value)=first++args.map (ev f)++cap:=by
      apply GP.1;simp
     rw[<-e];exact j
    .rename_i l first _ u
     obtain⟨fn,tmps,assign,body,A,d⟩:=h;rw[Vh] at A;simp only[execOp,resolve,u,Deferred.ofValue,Sem.run_bind,Sem.run_pure,Result.andThen_ok,invoke];have e:({toList:=first.toList++List.map (ev f) args.toList}:Array Value)=first++args.map (ev f):=by
      apply GP.1;simp
     rw[<-e,A];refine⟨λh=>(by cases h),RoundIn.mono (F:=FR ro) d λe w' he=>?_⟩;cases e with
     |returned v=>exact p _ _ he
     |panicked c=>exact he.elim
     |outgrown=>exact he.elim
    .exact h.elim
   |invoke r name=>
    simp only at h;unfold vinvoke at h;split at h
    .rename_i t v u;obtain⟨g,rcv,hm,z⟩:=h;have j:=ent z;rw[Vh] at j;have e:({toList:=rcv::List.map (ev f) args.toList}:Array Value)= #[rcv]++args.map (ev f):=by
      apply GP.1;simp
     rw[e] at j;have C:=ext1 (Value.iface t v) (args.map (ev f));have B:(#[Value.iface t v]++args.map (ev f))[0]?=some (Value.iface t v):=by rw[<-gV];simp
     simp only[execOp,resolve,u,Sem.run_bind,Sem.run_pure,Result.andThen_ok,invoke,B,C,callMethod,program,Sem.run,hm];exact j
    .exact h.elim
   |builtin b=>
    simp only at h;rw[vbi,Vh,YT0] at h;cases b<;>simp only[biSem] at h<;>
     first
     |exact val h
     |(obtain⟨v,w',d,_⟩:=h;simp[stuck] at d)
end
end
section
def nth {α:Type}:List α->Nat->Option α
 |[],_=>none
 |a::_,0=>some a
 |_::l,n+1=>nth l n
theorem ZE {α:Type} (l:List α):∀i,nth l i=l[i]?:=by
 induction l with
 |nil=>intro i;simp[nth]
 |cons a l b=>intro i;cases i<;>simp[nth,b]
def memN (x:Nat):List Nat->Bool
 |[]=>false
 |y::r=>cond (Nat.beq x y) true (memN x r)
theorem memN_iff {x:Nat} {l:List Nat}:memN x l=true↔x∈l:=by
 induction l with
 |nil=>simp[memN]
 |cons y r b=>
  simp only[memN,gj];cases a:Nat.beq x y
  .have:x≠y:=λe=>by subst e;simp at a
   simp[b,this]
  .have:=gB a;simp[this]
def dstOf (ops:List Oper) (j:Nat):Option Nat:=match nth ops j with|some o=>o.dst|none=>none
def skAdd (d:Option Nat) (sk:List Nat):List Nat:=match d with|some d=>d::sk|none=>sk
def skDel (d:Option Nat):List Nat->List Nat
 |[]=>[]
 |y::r=>match d with|some x=>cond (Nat.beq x y) (skDel (some x) r) (y::skDel (some x) r)|none=>y::skDel none r
def vgd (ops:List Oper) (g:Option (Nat×Bool)) (sk:List Nat) (f:Fr) (run skip:Fr->Prop):Prop:=
 match g with
 |none=>run f
 |some (j,b)=>match dstOf ops j with
  |none=>False
  |some d=>cond (memN d sk) (skip f) (vif (f d)
    (cond b (run (put f (some d) (.bool true))) (skip (put f (some d) (.bool true))))
    (cond b (skip (put f (some d) (.bool false))) (run (put f (some d) (.bool false)))))
abbrev Acc:=List (Nat×(World->Prop))
def fltr (D:Nat->List Nat) (c:Nat):Acc->Acc
 |[]=>[]
 |p::r=>cond (memN c (D p.1)) (fltr D c r) (p::fltr D c r)
def vkeeps:Acc->World->Prop->Prop
 |[],_,X=>X
 |p::r,w,X=>p.2 w/\vkeeps r w X
def isFree:Op->Bool
 | .move _| .assign _| .pick ..=>true
 |_=>false
def ka0 (dr:Bool) (D:Nat->List Nat) (i:Nat) (o:Oper) (sk:List Nat) (acc:Acc) (f:Fr) (w:World)
  (N:List Nat->Acc->Fr->World->Prop):Prop:=
 cond dr
  (cond (isStatic o.op)
   (cond (isFree o.op)
    (vop o.op o.type f w λv w'=>N (skDel o.dst sk) acc (put f o.dst v) w')
    (vop o.op o.type f w λv w'=>w'=w/\N (skDel o.dst sk) ((i,λw2=>vop o.op o.type f w2 λv' w3=>v'=v/\w3=w2)::acc) (put f o.dst v) w))
   (vop o.op o.type f w λv w'=>vkeeps (fltr D i acc) w' (N (skDel o.dst sk) (fltr D i acc) (put f o.dst v) w')))
  (vop o.op o.type f w λv w'=>N (skDel o.dst sk) acc (put f o.dst v) w')
def vops (ops:List Oper) (dr:Bool) (D:Nat->List Nat) (K:Fr->World->Prop):List Nat->List Nat->Acc->Fr->World->Prop
 |[],_,_,f,w=>K f w
 |i::r,sk,acc,f,w=>
  match nth ops i with
  |none=>False
  |some o=>vgd ops o.guard sk f
    (λf=>ka0 dr D i o sk acc f w (vops ops dr D K r))
    (λf=>vops ops dr D K r (skAdd o.dst sk) acc (put f o.dst undef) w)
def k70 (sk:List Nat) (f:Fr):Prop:=∀d,d∈sk->f d=undef
theorem Yy {sk:List Nat} {f:Fr} (h:k70 sk f) (d:Option Nat):k70 (skAdd d sk) (put f d undef):=by
 cases d with
 |none=>exact h
 |some d=>
  intro x b;by_cases e:x=d
  .subst e;exact JY _ _ _
  .rw[WB _ _ _ _ e];rcases gj.1 b with a|a
   .exact absurd a e
   .exact h x a
theorem skDel_none:∀(l:List Nat),skDel none l=l
 |[]=>rfl
 |y::r=>by simp only[skDel,skDel_none r]
theorem js0 {d x:Nat} {l:List Nat} (h:x∈skDel (some d) l):x∈l/\x≠d:=by
 induction l with
 |nil=>simp[skDel] at h
 |cons y r b=>
  simp only[skDel] at h;cases c:Nat.beq d y
  .rw[c] at h;rcases gj.1 h with a|a
   .subst a;exact⟨gk,λe=>by subst e;simp at c⟩
   .exact⟨gp _ (b a).1,(b a).2⟩
  .rw[c] at h;exact⟨gp _ (b h).1,(b h).2⟩
theorem jS {sk:List Nat} {f:Fr} (h:k70 sk f) (d:Option Nat) (v:Value):k70 (skDel d sk) (put f d v):=by
 cases d with
 |none=>rw[skDel_none];exact h
 |some d=>
  intro x c;obtain⟨a,b⟩:=js0 c;rw[WB _ _ _ _ b];exact h x a
theorem xE0 {f:Fr} {d:Nat} {v:Value} (h:f d=v):put f (some d) v=f:=by
 funext t
 by_cases e:t=d
 .subst e;rw[JY,h]
 .rw[WB _ _ _ _ e]
def Kr (n:Nat) (ops:List Oper):Bool:=ops.all λo=>jS0 n o.dst
theorem yU {n:Nat} {ops:Array Oper} (h:Kr n ops.toList=true) {i:Nat} {o:Oper} (hi:ops[i]?=some o):jS0 n o.dst=true:=by
 have:o∈ops.toList:=by
  rw[<-gV] at hi;exact G9 hi
 exact(gQ.1 h) o this
section
variable {ro:Option Nat} {df:List Deferred} {ops:Array Oper} {n:Nat} {f:Fr} {a:Act} {w:World}
theorem yielded_of (hs:Sim df n f a) {j d:Nat} (c:dstOf ops.toList j=some d) (k:d<n):
  yielded ops a.tmps j=(match f d with| .bool b=>some b|_=>none):=by
 unfold yielded;have h:(ops[j]?).bind (·.dst)=some d:=by
  rw[dstOf,ZE,gV] at c;cases g:ops[j]? with
  |none=>rw[g] at c;cases c
  |some o=>rw[g] at c;exact c
 have i:a.tmps[d]?=some (f d):=by
  have e:d<a.tmps.size:=by rw[hs.size];exact k
  have:=hs.at_ d;rw[gX,GB e] at this;rw[GB e,<-this];rfl
 rw[h,Option.bind_some,i];cases f d<;>rfl
theorem ZS (i:Kr n ops.toList=true) (hs:Sim df n f a) {sk:List Nat} (k:k70 sk f) {o:Oper} {run skip:Fr->Prop}
  (h:vgd ops.toList o.guard sk f run skip):
  (Region.wanted o (yielded ops a.tmps)=true/\run f)\/(Region.wanted o (yielded ops a.tmps)=false/\skip f):=by
 unfold vgd at h;unfold Region.wanted;cases l:o.guard with
 |none=>rw[l] at h;exact .inl ⟨rfl,h⟩
 |some jb=>
  obtain⟨j,b⟩:=jb;rw[l] at h;simp only at h⊢;cases c:dstOf ops.toList j with
  |none=>rw[c] at h;exact h.elim
  |some d=>
   rw[c] at h;simp only at h;have m:d<n:=by
    rw[dstOf,ZE,gV] at c;cases g:ops[j]? with
    |none=>rw[g] at c;cases c
    |some oj=>
     rw[g] at c;have:=yU i g;rw[show oj.dst=some d from c] at this;simpa[jS0,Pa] using this
   rw[yielded_of hs c m];cases hm:memN d sk
   .rw[hm] at h;simp only[cond] at h;unfold vif at h;split at h
    .rename_i e;rw[xE0 e] at h;rw[e];cases b
     .exact .inr ⟨rfl,h⟩
     .exact .inl ⟨rfl,h⟩
    .rename_i e;rw[xE0 e] at h;rw[e];cases b
     .exact .inl ⟨rfl,h⟩
     .exact .inr ⟨rfl,h⟩
    .exact h.elim
   .rw[hm] at h;have hu:f d=undef:=k d (memN_iff.1 hm);rw[hu];exact .inr ⟨by cases b<;>rfl,h⟩
theorem Xm {i:Nat} {o:Oper} (h:nth ops.toList i=some o):ops[i]?=some o:=by
 rw[ZE,gV] at h;exact h
def Off (ops:Array Oper) (l:List Nat) (t:Nat):Prop:=∀i,i∈l->∀o,ops[i]?=some o->o.dst≠some t
theorem Xk {o:Oper} {t:Nat} (h:o.dst≠some t) (f:Fr) (v:Value):put f o.dst v t=f t:=by
 cases a:o.dst with
 |none=>rfl
 |some d=>exact WB _ _ _ _ (λe=>h (by rw[a,e]))
theorem qT0 {D:Nat->List Nat} {K:Fr->World->Prop} {Q:Exit->Act->World->Prop} (d:Kr n ops.toList=true):
  ∀(l sk:List Nat) (acc:Acc) (f:Fr) (a:Act) (w:World),vops ops.toList false D K l sk acc f w->Sim df n f a->k70 sk f->
   (∀c k w',Sim df n c k->(∀t,Off ops l t->c t=f t)->K c w'->Q .normal k w')->wpOpsIn (FR ro) 0 P ops Q l a w:=by
 intro l;induction l with
 |nil=>intro sk acc f a w h hs _ p;exact p f a w hs (λ_ _=>rfl) h
 |cons i r u=>
  intro sk acc f a w h hs g p;simp only[vops] at h;cases s:nth ops.toList i with
  |none=>rw[s] at h;exact h.elim
  |some o=>
   rw[s] at h;have hi:=Xm s;simp only[wpOpsIn,hi];have offr:∀t,Off ops (i::r) t->Off ops r t:=λt m j y=>m j (gp _ y);rcases ZS d hs g h with⟨hw,h⟩|⟨hw,h⟩
   .rw[X0 hw];simp only[ka0,cond] at h;refine vop_sound h hs λv w' x=>?_;refine u _ _ _ _ _ x (hs.put (yU d hi) v) (jS g _ _) λc k w'' e m q=>?_;exact p c k w'' e (λt b=>(m t (offr t b)).trans (Xk (b i gk o hi) _ _)) q
   .rw[y3 (by simp[hw])];refine⟨λ_ _=>trivial,?_⟩;refine u _ _ _ _ _ h (hs.put (yU d hi) undef) (Yy g _) λc k w'' e m q=>?_;exact p c k w'' e (λt b=>(m t (offr t b)).trans (Xk (b i gk o hi) _ _)) q
def StEv (ops:Array Oper) (o:Oper) (a:Act) (w:World) (v:Value):Prop:=
 if Region.wanted o (yielded ops a.tmps)=true then(execOp a.eval o).run P w= .ok (.value v) w else v=undef
def VD (ro:Option Nat) (ops:Array Oper) (Q:Exit->Act->World->Prop) (D:Nat->List Nat):List Nat->Acc->Act->World->Prop
 |[],_,a,w=>Q .normal a w
 |i::r,acc,a,w=> ∃o,ops[i]?=some o/\
  ((isStatic o.op=true/\∃v,StEv ops o a w v/\VD ro ops Q D r ((i,λw=>StEv ops o a w v)::acc) (a.put o.dst v) w)\/
   (isStatic o.op=false/\wpOpIn (FR ro) 0 P ops Q i (λa' w'=>(∃u,a'=a.put o.dst u)/\(∀p,p∈fltr D i acc->p.2 w')/\VD ro ops Q D r (fltr D i acc) a' w') a w))
def AccLe (acc' acc:Acc):Prop:=∀p',p'∈acc'->∃p,p∈acc/\p.1=p'.1/\∀w,p.2 w->p'.2 w
theorem mem_fltr {D:Nat->List Nat} {c:Nat} {acc:Acc} {p:Nat×(World->Prop)}:p∈fltr D c acc↔p∈acc/\c∉D p.1:=by
 induction acc with
 |nil=>simp[fltr]
 |cons q r e=>
  simp only[fltr];cases hm:memN c (D q.1)
  .have d:c∉D q.1:=λh=>by rw[memN_iff.2 h] at hm;cases hm
   simp only[cond,gj,e];constructor
   .rintro(rfl|⟨b,a⟩)
    .exact⟨.inl rfl,d⟩
    .exact⟨.inr b,a⟩
   .rintro⟨rfl|b,a⟩
    .exact .inl rfl
    .exact .inr ⟨b,a⟩
  .have d:c∈D q.1:=memN_iff.1 hm;simp only[cond,e,gj];constructor
   .rintro⟨b,a⟩;exact⟨.inr b,a⟩
   .rintro⟨rfl|b,a⟩
    .exact absurd d a
    .exact⟨b,a⟩
theorem AccLe.fltr {a acc:Acc} (h:AccLe a acc) (D:Nat->List Nat) (c:Nat):AccLe (Go.Vc.fltr D c a) (Go.Vc.fltr D c acc):=by
 intro g b;obtain⟨d,e⟩:=mem_fltr.1 b;obtain⟨p,f,he,hw⟩:=h g d;exact⟨p,mem_fltr.2 ⟨f,by rw[he];exact e⟩,he,hw⟩
theorem AccLe.cons {a acc:Acc} (h:AccLe a acc) {i:Nat} {e c:World->Prop} (he:∀w,e w->c w):AccLe ((i,c)::a) ((i,e)::acc):=by
 intro f b;rcases gj.1 b with rfl|b
 .exact⟨_,gk,rfl,he⟩
 .obtain⟨p,d,r⟩:=h f b;exact⟨p,gp _ d,r⟩
theorem AccLe.refl (acc:Acc):AccLe acc acc:=λp a=>⟨p,a,rfl,λ_ h=>h⟩
theorem AccLe.drop (acc:Acc) (x:Nat×(World->Prop)):AccLe acc (x::acc):=λp a=>⟨p,gp _ a,rfl,λ_ h=>h⟩
variable {Q:Exit->Act->World->Prop} {D:Nat->List Nat}
theorem VD.mono:∀(l:List Nat) (acc b:Acc) (a:Act) (w:World),AccLe b acc->VD ro ops Q D l acc a w->VD ro ops Q D l b a w:=by
 intro l;induction l with
 |nil=>intro acc b a w _ h;exact h
 |cons i r f=>
  intro acc b a w hle h;obtain⟨o,g,h⟩:=h;refine⟨o,g,?_⟩;rcases h with⟨c,v,k,h⟩|⟨c,h⟩
  .exact .inl ⟨c,v,k,f _ _ _ _ (hle.cons λ_ h=>h) h⟩
  .refine .inr ⟨c,wpOpIn_mono (λn w' d=>⟨d.1,λm e=>?_,f _ _ _ _ (hle.fltr D i) d.2.2⟩) h⟩;obtain⟨p,j,_,hw⟩:=hle.fltr D i m e;exact hw _ (d.2.1 p j)
def noSel (o:Op):Bool:=match o with| .select ..=>false| .defer _=>false|_=>true
theorem WD {o:Op} (h:noSel o=true):∀cs b,o≠ .select cs b:=λ_ _ e=>by subst e;cases h
theorem StEv.put {x s:Oper} {v u:Value} (b:x.apart ops s=true) (hs:noSel s.op=true):
  StEv ops s (a.put x.dst u) w v↔StEv ops s a w v:=by
 obtain⟨c,_,_⟩:=Oper.apart_spec b;unfold StEv;rw[wanted_put s a x.dst u c,execOp_put s (WD hs) a x.dst u c]
theorem apart_symm {x y:Oper} (h:x.apart ops y=true):y.apart ops x=true:=by
 obtain⟨j,k,g⟩:=Oper.apart_spec h;unfold Oper.apart;cases i:x.dst with
 |none=>
  cases a:y.dst with
  |none=>rfl
  |some d=>
   simp only[gg,gS,bne_iff_ne,z0c,reduceCtorEq,not_false_eq_true,Gh];have:=g d a;simpa using this
 |some e=>
  have he:=j e i;cases a:y.dst with
  |none=>simpa using he
  |some d=>
   have f:=g d a;have b:e≠d:=λc=>k e i (by rw[a,c]);simp only[gg,gS,bne_iff_ne,z0c,Gr];refine⟨⟨by simpa using f,b⟩,by simpa using he⟩
theorem Kc {j:Nat} {os ox:Oper} {v:Value} (A:ops[j]?=some ox) (p:os.apart ops ox=true) (i:noSel ox.op=true)
  (o:∀c a w,¬Q (.panic c) a w) {K:Act->World->Prop} {a:Act} {w:World}
  (h:wpOpIn (FR ro) 0 P ops Q j (λn w'=>(∃u,n=(a.put os.dst v).put ox.dst u)/\K n w') (a.put os.dst v) w):
  wpOpIn (FR ro) 0 P ops Q j (λn w'=>(∃u,n=a.put ox.dst u)/\K (n.put os.dst v) w') a w:=by
 obtain⟨t,k,B⟩:=Oper.apart_spec p;have s:=WD i;have q:∀c,ox.op≠ .defer c:=λc e=>by rw[e] at i;cases i
 unfold wpOpIn at*;simp only[A] at*;rw[wanted_put ox a os.dst v t] at h;split
 .rename_i hw;simp only[hw,if_true] at h;refine⟨λ_ _=>trivial,?_⟩;replace h:=h.2;have g:∀ρ,ox.semAt (FR ro).round ρ=execOp ρ ox:=λρ=>Oper.semAt_eq ro ρ ox q;rw[g,execOp_put ox s a os.dst v t] at h;rw[g];generalize (execOp a.eval ox).run P w=r at*;cases r with
  |ok m w'=>
   cases m<;>simp only[Oper.uponIn] at h⊢
   case value u=>exact⟨⟨u,rfl⟩,by rw[<-Act.put_comm a v u k];exact h.2⟩
   case skip=>exact⟨⟨_,rfl⟩,by rw[<-Act.put_comm a v undef k];exact h.2⟩
   case defer d=>
    obtain⟨⟨u,hu⟩,_⟩:=h;have z:∀(b:Act) (x:Option Tmp) (y:Value),(b.put x y).defers=b.defers:=λb x y=>(by cases x<;>rfl);have:=congrArg Act.defers hu;simp only[z] at this;exact absurd this (List.cons_ne_self _ _)
   case enter f args=>
    refine⟨h.1,CallsIn.mono h.2 λe w'' he=>?_⟩;cases e with
    |returned u=>exact⟨⟨u,rfl⟩,by rw[<-Act.put_comm a v u k];exact he.2⟩
    |panicked c=>exact absurd he (o _ _ _)
    |outgrown=>exact he
   case row row args=>exact⟨h.1,RowsIn.mono h.2 λu w'' he=>⟨⟨u,rfl⟩,by rw[<-Act.put_comm a v u k];exact he.2⟩⟩
   case round l fn tmps assign body=>
    refine⟨h.1,RoundIn.mono h.2 λe w'' he=>?_⟩;cases e with
    |returned u=>exact⟨⟨u,rfl⟩,by rw[<-Act.put_comm a v u k];exact he.2⟩
    |panicked c=>exact absurd he (o _ _ _)
    |outgrown=>exact he
  |halt x w'=>
   cases x<;>simp only[Oper.uponIn] at h⊢
   case panic u=>exact absurd h (o _ _ _)
 .rename_i hw;simp only[hw] at h;exact⟨λ_ _=>trivial,⟨_,rfl⟩,by rw[<-Act.put_comm a v undef k];exact h.2.2⟩
theorem VD.first_static {x:Nat} {ox:Oper} (u:ops[x]?=some ox) (k:isStatic ox.op=true) (j:noSel ox.op=true) (post:List Nat):
  ∀(pre:List Nat) (acc:Acc) (a:Act) (w:World),(∀s,s∈pre->∀os,ops[s]?=some os->isStatic os.op=true/\noSel os.op=true/\os.apart ops ox=true)->
   VD ro ops Q D (pre++x::post) acc a w->∃v,StEv ops ox a w v/\VD ro ops Q D (pre++post) acc (a.put ox.dst v) w:=by
 intro pre;induction pre with
 |nil=>
  intro acc a w _ h;obtain⟨o,p,h⟩:=h;obtain rfl:o=ox:=by rw[u] at p;exact(V1 p).symm
  rcases h with⟨_,v,l,h⟩|⟨d,_⟩
  .exact⟨v,l,h.mono _ _ _ _ _ (AccLe.drop _ _)⟩
  .rw[k] at d;cases d
 |cons s pre y=>
  intro acc a w c h;obtain⟨os,e,h⟩:=h;obtain⟨g,f,b⟩:=c s gk os e;rcases h with⟨_,vs,m,h⟩|⟨d,_⟩
  .obtain⟨v,l,q⟩:=y _ _ _ (λt r=>c t (gp _ r)) h;refine⟨v,(StEv.put b j).1 l,os,e,.inl ⟨g,vs,(StEv.put (apart_symm b) f).2 m,?_⟩⟩;obtain⟨_,i,_⟩:=Oper.apart_spec b;rw[<-Act.put_comm a vs v i];exact q.mono _ _ _ _ _ ((AccLe.refl acc).cons λw' n=>(StEv.put (apart_symm b) f).2 n)
  .rw[g] at d;cases d
theorem VD.first_change {x:Nat} {ox:Oper} (y:ops[x]?=some ox) (n:isStatic ox.op=false) (m:noSel ox.op=true) (B:∀c a w,¬Q (.panic c) a w) (post:List Nat):
  ∀(pre:List Nat) (acc:Acc) (a:Act) (w:World),(∀s,s∈pre->x∉D s/\∀os,ops[s]?=some os->isStatic os.op=true/\noSel os.op=true/\os.apart ops ox=true)->
   VD ro ops Q D (pre++x::post) acc a w->
   wpOpIn (FR ro) 0 P ops Q x (λf w'=>(∃u,f=a.put ox.dst u)/\(∀p,p∈fltr D x acc->p.2 w')/\VD ro ops Q D (pre++post) (fltr D x acc) f w') a w:=by
 intro pre;induction pre with
 |nil=>
  intro acc a w _ h;obtain⟨o,r,h⟩:=h;obtain rfl:o=ox:=by rw[y] at r;exact(V1 r).symm
  rcases h with⟨g,_⟩|⟨_,h⟩
  .rw[n] at g;cases g
  .exact h
 |cons s pre H=>
  intro acc a w b h;obtain⟨os,i,h⟩:=h;obtain⟨q,e⟩:=b s gk;obtain⟨k,j,d⟩:=e os i;rcases h with⟨_,vs,G,h⟩|⟨g,_⟩
  .have z:=Kc (K:=λf w'=>(∀p,p∈fltr D x ((s,λw=>StEv ops os a w vs)::acc)->p.2 w')/\VD ro ops Q D (pre++post) (fltr D x ((s,λw=>StEv ops os a w vs)::acc)) f w') y d m B
    (H _ _ _ (λt F=>b t (gp _ F)) h)
   have C:fltr D x ((s,λw=>StEv ops os a w vs)::acc)=(s,λw=>StEv ops os a w vs)::fltr D x acc:=by
    have:memN x (D s)=false:=by
     cases hm:memN x (D s)
     .rfl
     .exact absurd (memN_iff.1 hm) q
    simp[fltr,this]
   refine wpOpIn_mono (λf w' ⟨⟨u,hu⟩,l,v⟩=>?_) z;rw[C] at l v;refine⟨⟨u,hu⟩,λp E=>l p (gp _ E),os,i,.inl ⟨k,vs,?_,?_⟩⟩
   .rw[hu];exact(StEv.put (apart_symm d) j).2 (l _ gk)
   .refine v.mono _ _ _ _ _ ((AccLe.refl _).cons λI A=>?_);rw[hu];exact(StEv.put (apart_symm d) j).2 A
  .rw[k] at g;cases g
def yd (ops:List Oper) (x:Nat):List Nat:=match nth ops x with|some o=>(o.after.toList.filter (Region.binds .any)).map (·.on)|none=>[]
def anyN (p:Nat->Bool):List Nat->Bool|[]=>false|x::r=>cond (p x) true (anyN p r)
def allN (p:Nat->Bool):List Nat->Bool|[]=>true|x::r=>cond (p x) (allN p r) false
theorem ZA0 {p:Nat->Bool} {l:List Nat}:allN p l=true↔ ∀x,x∈l->p x=true:=by
 induction l with
 |nil=>simp[allN]
 |cons x r a=>cases h:p x<;>simp[allN,h,a]
theorem anyN_iff {p:Nat->Bool} {l:List Nat}:anyN p l=true↔ ∃x,x∈l/\p x=true:=by
 induction l with
 |nil=>simp[anyN]
 |cons x r a=>cases h:p x<;>simp[anyN,h,a]
def apartN (ops:Array Oper) (s x:Nat):Bool:=match nth ops.toList s,nth ops.toList x with|some a,some b=>a.apart ops b|_,_=>false
def Xj (ops:List Oper) (s:Nat):Bool:=match nth ops s with|some a=>isStatic a.op|none=>false
def qB0 (ops:List Oper) (s:Nat):Bool:=match nth ops s with|some a=>noSel a.op|none=>false
def chkLin (ops:List Oper):List Nat->List Nat->Bool
 |_,[]=>true
 |seen,x::r=>cond (allN (λe=>memN e seen) (yd ops x)) (chkLin ops (x::seen) r) false
def chkPair (ops:Array Oper) (D:Nat->List Nat):List Nat->Bool
 |[]=>true
 |s::r=>cond (allN (λx=>memN x (D s)||(Xj ops.toList s&&apartN ops s x)) r) (chkPair ops D r) false
def jW0 (ops:List Oper) (D:Nat->List Nat) (l:List Nat):Bool:=
 allN (λs=>allN (λx=>anyN (λe=>Nat.beq e s||memN e (D s)) (yd ops x)) (D s)) l
def chkNd:List Nat->Bool
 |[]=>true
 |x::r=>cond (memN x r) false (chkNd r)
def Vk (n:Nat) (l:List Nat):Bool:=allN (λi=>memN i l) (List.range n)&&Nat.beq l.length n&&(allN (λi=>Nat.blt i n) l&&chkNd l)
def yH0 (ops:Array Oper) (D:Nat->List Nat) (l:List Nat):Bool:=
 Vk ops.size l&&allN (qB0 ops.toList) l&&chkLin ops.toList [] l&&chkPair ops D l&&jW0 ops.toList D l
theorem mem_edges {x:Nat} {o:Oper} (f:ops[x]?=some o) {e:Nat}:e∈yd ops.toList x↔ ∃d,d∈o.after/\Region.binds .any d=true/\d.on=e:=by
 have:nth ops.toList x=some o:=by rw[ZE,gV];exact f
 simp only[yd,this,gy,P7,pR];constructor
 .rintro⟨d,⟨a,b⟩,c⟩;exact⟨d,a,b,c⟩
 .rintro⟨d,a,b,c⟩;exact⟨d,⟨a,b⟩,c⟩
theorem Vl:∀(l seen:List Nat),chkLin ops.toList seen l=true->∀pre x post,l=pre++x::post->∀e,e∈yd ops.toList x->e∈seen\/e∈pre:=by
 intro l;induction l with
 |nil=>intro seen _ pre x post h;cases pre<;>cases h
 |cons y r f=>
  intro seen h pre x post a e he;simp only[chkLin] at h;cases d:allN (λe=>memN e seen) (yd ops.toList y)
  .rw[d] at h;cases h
  .rw[d] at h;cases pre with
   |nil=>
    simp only[Gk,Gg] at a;obtain⟨rfl,rfl⟩:=a;exact .inl (memN_iff.1 (ZA0.1 d e he))
   |cons z pre=>
    simp only[GM,Gg] at a;obtain⟨rfl,a⟩:=a;rcases f _ h pre x post a e he with b|b
    .rcases gj.1 b with rfl|c
     .exact .inr gk
     .exact .inl c
    .exact .inr (gp _ b)
theorem chkPair_spec:∀(l:List Nat),chkPair ops D l=true->l.Pairwise λs x=>x∈D s\/(Xj ops.toList s=true/\apartN ops s x=true):=by
 intro l;induction l with
 |nil=>intro _;exact .nil
 |cons s r c=>
  intro h;simp only[chkPair] at h;cases a:allN (λx=>memN x (D s)||(Xj ops.toList s&&apartN ops s x)) r
  .rw[a] at h;cases h
  .rw[a] at h;refine .cons (λx b=>?_) (c h);have:=ZA0.1 a x b;simpa[Gm,memN_iff] using this
structure Rest (ops:Array Oper) (D:Nat->List Nat) (l:List Nat) (listed:Array Bool):Prop where
 size:listed.size=ops.size
 mem:∀i,i<ops.size->(listed.getD i true=false↔i∈l)
 lt:∀i,i∈l->i<ops.size
 nodup:l.Nodup
 pair:l.Pairwise λs x=>x∈D s\/(Xj ops.toList s=true/\apartN ops s x=true)
 lin:∀pre x post,l=pre++x::post->∀e,e∈yd ops.toList x->e∈l->e∈pre
 desc:∀s,s∈l->∀x,x∈D s->x∈l
 edge:∀s,s∈l->∀x,x∈D s->∃e,e∈yd ops.toList x/\(e=s\/e∈D s)
 sel:∀i,i∈l->qB0 ops.toList i=true
 elt:∀x,x∈l->∀e,e∈yd ops.toList x->e<ops.size
theorem QK {l:List Nat} {listed:Array Bool} (c:Rest ops D l listed) {i:Nat} (hi:i∈Region.ready .any ops listed):
  i∈l/\∀e,e∈yd ops.toList i->e∉l:=by
 obtain⟨k,o,j,b⟩:=mem_ready.1 hi;have g:i<ops.size:=(gH.1 j).1;refine⟨(c.mem i g).1 k,λe he a=>?_⟩;obtain⟨d,n,m,rfl⟩:=(mem_edges j).1 he;have h:=b d n m;have f:=(c.mem d.on (c.lt _ a)).2 a;have hs:d.on<listed.size:=by rw[c.size];exact c.lt _ a
 simp[Array.getD,hs] at h f;rw[h] at f;cases f
theorem Rest.step {pre post:List Nat} {i:Nat} {listed:Array Bool} (b:Rest ops D (pre++i::post) listed) (hi:i∈Region.ready .any ops listed):
  Rest ops D (pre++post) (listed.setIfInBounds i true):=by
 have a:(pre++post).Sublist (pre++i::post):=pC (pO _) (pG _ _);have l:i∉pre++post:=by
  have:=b.nodup;rw[Gu] at this;obtain⟨_,t,u⟩:=this;rw[gl];rintro(h|h)
  .exact u i h i gk rfl
  .exact(G1.1 t).1 h
 have g:∀x,x∈pre++i::post->x≠i->x∈pre++post:=by
  intro x d o;rw[gl,gj] at d;rw[gl];rcases d with h|h|h
  .exact .inl h
  .exact absurd h o
  .exact .inr h
 have v:i∈pre++i::post:=by simp
 obtain⟨_,n⟩:=QK b hi;refine⟨by simp[b.size],λx d=>?_,λx d=>b.lt x (a.subset d),b.nodup.sublist a,b.pair.sublist a,?_,?_,λs hs=>b.edge s (a.subset hs),λx d=>b.sel x (a.subset d),λx d=>b.elt x (a.subset d)⟩
 .by_cases e:i=x
  .subst e;simp only[gX];have:i<listed.size:=by rw[b.size];exact d
   simp[this,l]
  .rw[getD_set_ne true e,b.mem x d];exact⟨λh=>g x h (Ne.symm e),λh=>a.subset h⟩
 .intro p x q w e he k;have m:e∈pre++i::post:=a.subset k;have z:(pre++post).Nodup:=b.nodup.sublist a;rcases PN.1 w with⟨c,j,f⟩|⟨c,j,f⟩
  ·
   subst j;have:=b.lin (pre++i::c) x q (by rw[f];simp) e he m;rw[gl,gj] at this;rcases this with h|h|h
   .exact Ge _ h
   .subst h;exact absurd k l
   .exact Gv _ h
  ·
   subst j;cases c with
   |nil=>
    simp only[Gk] at f;have:=b.lin (p++[i]) x q (by rw[<-f];simp) e he (by simpa using m);rw[gl] at this;rcases this with h|h
    .exact h
    .rw[gx] at h;subst h;exact absurd k (by simpa using l)
   |cons y c=>
    simp only[GM,Gg] at f;obtain⟨rfl,rfl⟩:=f;exact b.lin p x (c++i::post) (by simp) e he m
 .intro s hs x d;have r:=b.desc s (a.subset hs) x d;refine g x r λe=>?_;subst e;obtain⟨e,he,h|h⟩:=b.edge s (a.subset hs) x d
  .subst h;exact n e he (a.subset hs)
  .exact n e he (b.desc s (a.subset hs) e h)
theorem VD.any (R:∀c a w,¬Q (.panic c) a w):∀(fuel:Nat) (l:List Nat) (listed:Array Bool) (acc:Acc) (a:Act) (w:World),
  Rest ops D l listed->l.length=fuel->VD ro ops Q D l acc a w->wpAnyIn (FR ro) 0 P .any ops Q fuel listed a w:=by
 intro fuel;induction fuel with
 |zero=>
  intro l listed acc a w b B h;have:l=[]:=gL B;subst this;refine⟨?_,h⟩;cases T:Region.ready .any ops listed with
  |nil=>rfl
  |cons x xs=>
   have:=(QK b (i:=x) (by rw[T];exact gk)).1;cases this
 |succ fuel M=>
  intro l listed acc a w b B h;refine⟨λz=>?_,λi hi=>?_⟩
  ·
   cases l with
   |nil=>cases B
   |cons x r=>
    exfalso;obtain⟨o,K,_⟩:=h;have L:x∈Region.ready .any ops listed:=by
     refine mem_ready.2 ⟨(b.mem x (b.lt x gk)).2 gk,o,K,λd F S=>?_⟩;have he:d.on∈yd ops.toList x:=(mem_edges K).2 ⟨d,F,S,rfl⟩;by_cases t:d.on<ops.size
     .cases I:listed.getD d.on false
      .exfalso;have hs:d.on<listed.size:=by rw[b.size];exact t
       have N:listed.getD d.on true=false:=by
        simp[Array.getD,hs] at I⊢;exact I
       have O:=(b.mem d.on t).1 N;have:=b.lin [] x r rfl d.on he O;cases this
      .rfl
     .exact absurd (b.elt x gk _ he) t
    rw[z] at L;cases L
  .obtain⟨G,y⟩:=QK b hi;obtain⟨pre,post,rfl⟩:=G4 G;obtain⟨_,oi,j,_⟩:=mem_ready.1 hi;have U:=b.nodup;have m:nth ops.toList i=some oi:=by rw[ZE,gV];exact j
   have p:noSel oi.op=true:=by have:=b.sel i (by simp);simpa[qB0,m] using this
   have n:∀s,s∈pre->i∉D s/\∀os,ops[s]?=some os->isStatic os.op=true/\noSel os.op=true/\os.apart ops oi=true:=by
    intro s hs;have k:s∈pre++i::post:=Ge _ hs;have f:i∉D s:=by
     intro F;obtain⟨e,he,q|q⟩:=b.edge s k i F
     .subst q;exact y e he k
     .exact y e he (b.desc s k e q)
    have V:i∈D s\/(Xj ops.toList s=true/\apartN ops s i=true):=by
     have:=b.pair;rw[List.pairwise_append] at this;exact this.2.2 s hs i gk
    obtain⟨g,E⟩:=V.resolve_left f;refine⟨f,λos H=>?_⟩;have u:nth ops.toList s=some os:=by rw[ZE,gV];exact H
    refine⟨by simpa[Xj,u] using g,by have:=b.sel s k;simpa[qB0,u] using this,by simpa[apartN,u,m] using E⟩
   have A:=b.step hi;have hlen:(pre++post).length=fuel:=by simp at B⊢;omega
   cases g:isStatic oi.op
   .have:=VD.first_change j g p R post pre acc a w (λs hs=>n s hs) h;exact wpOpIn_mono (λW w' q=>M _ _ _ _ _ A hlen q.2.2) this
   .obtain⟨v,C,q⟩:=VD.first_static j g p post pre acc a w (λs hs=>(n s hs).2) h;have J:=M _ _ _ _ _ A hlen q;unfold wpOpIn;simp only[j];unfold StEv at C;split at C
    .rename_i hw;rw[X0 hw];refine⟨λ_ _=>trivial,?_⟩;rw[Zc g,C];exact J
    .rename_i hw;rw[y3 hw];subst C;exact⟨λ_ _=>trivial,J⟩
theorem chkNd_spec:∀{l:List Nat},chkNd l=true->l.Nodup
 |[],_=>pn
 |x::r,h=>by
  simp only[chkNd] at h;cases hm:memN x r
  .rw[hm] at h;exact G1.2 ⟨λa=>(by rw[memN_iff.2 a] at hm;cases hm),chkNd_spec h⟩
  .rw[hm] at h;cases h
theorem q50 {l:List Nat} (h:yH0 ops D l=true) (r:∀s x,x∈D s->x∈l):Rest ops D l (Array.replicate ops.size false):=by
 simp only[yH0,Vk,gg] at h;obtain⟨⟨⟨⟨⟨⟨j,u⟩,p,q⟩,k⟩,m⟩,n⟩,o⟩:=h;have b:∀i,i<ops.size->i∈l:=λi hi=>memN_iff.1 (ZA0.1 j i (gJ.2 hi));have c:∀i,i∈l->i<ops.size:=λi hi=>by have:=ZA0.1 p i hi;simpa[Pa] using this
 have g:=chkNd_spec q;have a:=Vl l [] m;refine⟨by simp,λi hi=>?_,c,g,chkPair_spec l n,?_,λs _ x d=>r s x d,?_,λi hi=>ZA0.1 k i hi,?_⟩
 .simp[hi,b i hi,Array.getD]
 .intro pre x post t e he _;exact(a pre x post t e he).resolve_left (by simp)
 .intro s hs x d;have:=ZA0.1 (ZA0.1 o s hs) x d;obtain⟨e,he,h⟩:=anyN_iff.1 this;refine⟨e,he,?_⟩;rcases Gm _ _▸h with f|f
  .exact .inl (gB f)
  .exact .inr (memN_iff.1 f)
 .intro x d e he;obtain⟨pre,post,rfl⟩:=G4 d;have:=(a pre x post rfl e he).resolve_left (by simp);exact c e (Ge _ this)
theorem UV {o:Oper} (e:isFree o.op=true) {K:oK} (h:vop o.op o.type f w K):
  ∃v,(∀w2,(execOp (ev f) o).run P w2= .ok (.value v) w2)/\K v w:=by
 obtain⟨dst,op,type,pos,after,guard⟩:=o;cases op<;>simp only[isFree,Gd] at e<;>simp only[vop] at h
 case move x=>exact⟨_,λ_=>rfl,h⟩
 case assign x=>exact⟨_,λ_=>rfl,h⟩
 case pick c a b=>
  unfold vpick at h;split at h
  .rename_i d;exact⟨_,λ_=>by simp[execOp,d,asBool],h⟩
  .rename_i d;exact⟨_,λ_=>by simp[execOp,d,asBool],h⟩
  .exact h.elim
def AccRel (accP acc:Acc):Prop:=∀p',p'∈accP->(∀w,p'.2 w)\/ ∃p,p∈acc/\p.1=p'.1/\∀w,p.2 w->p'.2 w
theorem AccRel.fltr {accP acc:Acc} (h:AccRel accP acc) (c:Nat):AccRel (Go.Vc.fltr D c accP) (Go.Vc.fltr D c acc):=by
 intro g a;obtain⟨d,e⟩:=mem_fltr.1 a;rcases h g d with b|⟨p,f,he,hw⟩
 .exact .inl b
 .exact .inr ⟨p,mem_fltr.2 ⟨f,by rw[he];exact e⟩,he,hw⟩
theorem AccRel.add {accP acc:Acc} (h:AccRel accP acc) {i:Nat} {e b:World->Prop} (he:∀w,e w->b w):AccRel ((i,b)::accP) ((i,e)::acc):=by
 intro d a;rcases gj.1 a with rfl|a
 .exact .inr ⟨_,gk,rfl,he⟩
 .exact(h d a).imp id λ⟨p,c,r⟩=>⟨p,gp _ c,r⟩
theorem AccRel.addFree {accP acc:Acc} (h:AccRel accP acc) {i:Nat} {b:World->Prop} (he:∀w,b w):AccRel ((i,b)::accP) acc:=by
 intro c a;rcases gj.1 a with rfl|a
 .exact .inl he
 .exact h c a
theorem Xi {acc:Acc} {X:Prop} (h:vkeeps acc w X):(∀p,p∈acc->p.2 w)/\X:=by
 induction acc with
 |nil=>exact⟨(λp a=>by cases a),h⟩
 |cons q r c=>
  obtain⟨d,b⟩:=h;refine⟨λp a=>?_,(c b).2⟩;rcases gj.1 a with rfl|a
  .exact d
  .exact(c b).1 p a
theorem Y90 {K:Fr->World->Prop} (k:Kr n ops.toList=true):
  ∀(l sk:List Nat) (acc accP:Acc) (f:Fr) (a:Act) (w:World),vops ops.toList true D K l sk acc f w->Sim df n f a->k70 sk f->
   AccRel accP acc->(∀p,p∈accP->p.2 w)->
   (∀s x w',Sim df n s x->(∀t,Off ops l t->s t=f t)->K s w'->Q .normal x w')->VD ro ops Q D l accP a w:=by
 intro l;induction l with
 |nil=>intro sk acc accP f a w h hs _ _ _ F;exact F f a w hs (λ_ _=>rfl) h
 |cons i r E=>
  intro sk acc accP f a w h hs m d e F;simp only[vops] at h;cases I:nth ops.toList i with
  |none=>rw[I] at h;exact h.elim
  |some o=>
   rw[I] at h;have hi:=Xm I;have offr:∀t,Off ops (i::r) t->Off ops r t:=λt C j V=>C j (gp _ V);have B:∀t,Off ops (i::r) t->o.dst≠some t:=λt C=>C i gk o hi;refine⟨o,hi,?_⟩;have b:∀v s x w',Sim df n s x->(∀t,Off ops r t->s t=put f o.dst v t)->K s w'->Q .normal x w':=λv s x w' M C W=>
    F s x w' M (λt h=>(C t (offr t h)).trans (Xk (B t h) _ _)) W
   rcases ZS k hs m h with⟨hw,h⟩|⟨hw,h⟩
   .simp only[ka0,cond] at h;cases q:isStatic o.op
    .rw[q] at h;refine .inr ⟨rfl,?_⟩;unfold wpOpIn;simp only[hi];rw[X0 hw];refine vop_sound h hs λv w' A=>?_;obtain⟨G,H⟩:=Xi A;have u:∀p,p∈fltr D i accP->p.2 w':=λS z=>by
      rcases d.fltr i S z with T|⟨p,g,_,N⟩
      .exact T w'
      .exact N w' (G p g)
     exact⟨⟨v,rfl⟩,u,E _ _ _ _ _ _ H (hs.put (yU k hi) v) (jS m _ _) (d.fltr i) u (b v)⟩
    .rw[q] at h;refine .inl ⟨rfl,?_⟩;cases y:isFree o.op
     .rw[y] at h;obtain⟨v,w',J,R,A⟩:=ZR q h;subst R;have c:StEv ops o a w' v:=by unfold StEv;rw[X0 hw,hs.eval];exact J
      refine⟨v,c,E _ _ _ _ _ _ A (hs.put (yU k hi) v) (jS m _ _) (d.add λw2 U=>?_) (λp g=>?_) (b v)⟩
      .obtain⟨v',X,L,hv',O⟩:=ZR q U;subst hv';subst O;unfold StEv;rw[X0 hw,hs.eval];exact L
      .rcases gj.1 g with rfl|g
       .exact c
       .exact e p g
     .rw[y] at h;obtain⟨v,J,A⟩:=UV y h;have c:∀w2,StEv ops o a w2 v:=λw2=>by unfold StEv;rw[X0 hw,hs.eval];exact J w2
      refine⟨v,c w,E _ _ _ _ _ _ A (hs.put (yU k hi) v) (jS m _ _) (d.addFree c) (λp g=>?_) (b v)⟩;rcases gj.1 g with rfl|g
      .exact c w
      .exact e p g
   .have c:∀w2,StEv ops o a w2 undef:=λw2=>by unfold StEv;rw[y3 (by simp[hw])]
    cases q:isStatic o.op
    .refine .inr ⟨rfl,?_⟩;unfold wpOpIn;simp only[hi];rw[y3 (by simp[hw])];refine⟨λ_ _=>trivial,⟨_,rfl⟩,λp g=>e p (mem_fltr.1 g).1,?_⟩;exact E _ _ _ _ _ _ h (hs.put (yU k hi) undef) (Yy m _)
      (λS z=>d S (mem_fltr.1 z).1) (λp g=>e p (mem_fltr.1 g).1) (b undef)
    .refine .inl ⟨rfl,undef,c w,E _ _ _ _ _ _ h (hs.put (yU k hi) undef) (Yy m _) (d.addFree c) (λp g=>?_) (b undef)⟩;rcases gj.1 g with rfl|g
     .exact c w
     .exact e p g
def onlyN (Q:Exit->Act->World->Prop):Exit->Act->World->Prop
 | .normal,a,w=>Q .normal a w
 |_,_,_=>False
theorem x50 {id:Nat} {K:Fr->World->Prop} (g:Kr n ops.toList=true) {l:List Nat} (q:l=List.range ops.size)
  (h:vops ops.toList false D K l [] [] f w) (hs:Sim df n f a)
  (k:∀b e w',Sim df n b e->(∀t,(∀o,o∈ops->o.dst≠some t)->b t=f t)->K b w'->Q .normal e w'):(Code.region id ops false).wpIn (FR ro) 0 P Q a w:=by
 subst q;refine wpIn_region (qT0 g _ [] [] f a w h hs (λd m=>by cases m) λb e w' j s p=>k b e w' j (λt c=>s t λi _ o r=>c o (pw r)) p)
theorem x60 {id:Nat} {K:Fr->World->Prop} (q:Kr n ops.toList=true) (hm:P.follows .mixedOrders=true) {l:List Nat} (k:yH0 ops D l=true)
  (m:∀s x,x∈D s->x∈l)
  (h:vops ops.toList true D K l [] [] f {w with drawn:=w.drawn+1}) (hs:Sim df n f a)
  (v:∀b j w',Sim df n b j->(∀t,(∀o,o∈ops->o.dst≠some t)->b t=f t)->K b w'->Q .normal j w'):(Code.region id ops true).wpIn (FR ro) 0 P Q a w:=by
 refine wpIn_mono (Q:=onlyN Q) (wpIn_region_any hm ?_) λe a w h=>by cases e<;>first|exact h|exact h.elim
 refine VD.any (D:=D) (λc a w h=>h) ops.size l _ [] a _ (q50 k m) ?_ ?_
 .simp only[yH0,Vk,gg] at k;exact gB k.1.1.1.1.1.2
 .exact Y90 q l [] [] [] f a _ h hs (λd m=>by cases m) (λp r=>by cases r) (λp r=>by cases r)
   λb j w' u A y=>v b j w' u (λt g=>A t λi _ o z=>g o (pw z)) y
end
end
section
inductive OT where
 |nil|no
 |st (i:Nat) (t:OT)
 |alt (i:Nat) (t r:OT)
def vopsT (ops:List Oper) (D:Nat->List Nat) (K:Fr->World->Prop):OT->List Nat->Acc->Fr->World->Prop
 | .nil,_,_,f,w=>K f w
 | .no,_,_,_,_=>True
 | .st i t,sk,acc,f,w=>
  match nth ops i with
  |none=>False
  |some o=>vgd ops o.guard sk f
    (λf=>ka0 true D i o sk acc f w (vopsT ops D K t))
    (λf=>vopsT ops D K t (skAdd o.dst sk) acc (put f o.dst undef) w)
 | .alt i t r,sk,acc,f,w=>
  (match nth ops i with
  |none=>False
  |some o=>vgd ops o.guard sk f
    (λf=>ka0 true D i o sk acc f w (vopsT ops D K t))
    (λf=>vopsT ops D K t (skAdd o.dst sk) acc (put f o.dst undef) w))/\vopsT ops D K r sk acc f w
def heads:OT->List Nat
 | .alt i _ r=>i::heads r
 |_=>[]
def isAlt:OT->Bool
 | .alt _ _ _=>true
 | .no=>true
 |_=>false
def rem (i:Nat):List Nat->List Nat
 |[]=>[]
 |x::r=>cond (Nat.beq x i) (rem i r) (x::rem i r)
theorem mem_rem {i x:Nat}:∀{l:List Nat},x∈rem i l↔x∈l/\x≠i
 |[]=>by simp[rem]
 |y::r=>by
  simp only[rem];cases d:Nat.beq y i
  .have c:y≠i:=λe=>by subst e;simp at d
   simp only[cond,gj,mem_rem (l:=r)];constructor
   .rintro(rfl|⟨b,a⟩)
    .exact⟨.inl rfl,c⟩
    .exact⟨.inr b,a⟩
   .rintro⟨rfl|b,a⟩
    .exact .inl rfl
    .exact .inr ⟨b,a⟩
  .have c:=gB d;simp only[cond,mem_rem (l:=r),gj];constructor
   .rintro⟨b,a⟩;exact⟨.inr b,a⟩
   .rintro⟨rfl|b,a⟩
    .exact absurd c a
    .exact⟨b,a⟩
def rdy (ops:List Oper) (R:List Nat) (i:Nat):Bool:=allN (λe=>cond (memN e R) false true) (yd ops i)
theorem rdy_iff {ops:List Oper} {R:List Nat} {i:Nat}:rdy ops R i=true↔ ∀e,e∈yd ops i->e∉R:=by
 unfold rdy;rw[ZA0];constructor
 .intro h e he a;have:=h e he;rw[memN_iff.2 a] at this;cases this
 .intro h e he;cases hm:memN e R
  .rfl
  .exact absurd (memN_iff.1 hm) (h e he)
def entry (ops:List Oper) (T:OT) (R:List Nat):Bool:=
 match T with
 | .no=>false
 | .alt i t r=>allN (λx=>cond (rdy ops R x) (memN x (heads (.alt i t r))) true) R
 |_=>true
def okT (ops:Array Oper) (D:Nat->List Nat):OT->List Nat->Bool
 | .nil,R=>match R with|[]=>true|_=>false
 | .no,_=>true
 | .st i t,R=>memN i R&&(Xj ops.toList i&&(rdy ops.toList R i&&(allN (λx=>Nat.beq x i||(memN x (D i)||apartN ops i x)) R&&(okT ops D t (rem i R)&&entry ops.toList t (rem i R)))))
 | .alt i t r,R=>memN i R&&((match nth ops.toList i with|some o=> !isStatic o.op|none=>false)&&(rdy ops.toList R i&&((okT ops D t (rem i R)&&entry ops.toList t (rem i R))&&(isAlt r&&okT ops D r R))))
def pull (i:Nat):OT->OT
 | .nil=> .nil
 | .no=> .no
 | .st s t=>cond (Nat.beq s i) t (.st s (pull i t))
 | .alt k t r=>cond (Nat.beq k i) t (pull i r)
section
variable {ro:Option Nat} {df:List Deferred} {n:Nat} {ops:Array Oper} {Q:Exit->Act->World->Prop} {D:Nat->List Nat} {a:Act} {f:Fr} {w:World}
def VT (ro:Option Nat) (ops:Array Oper) (Q:Exit->Act->World->Prop) (D:Nat->List Nat):OT->Acc->Act->World->Prop
 | .nil,_,a,w=>Q .normal a w
 | .no,_,_,_=>True
 | .st i t,acc,a,w=> ∃o,ops[i]?=some o/\isStatic o.op=true/\∃v,StEv ops o a w v/\VT ro ops Q D t ((i,λw=>StEv ops o a w v)::acc) (a.put o.dst v) w
 | .alt i t r,acc,a,w=>(∃o,ops[i]?=some o/\isStatic o.op=false/\wpOpIn (FR ro) 0 P ops Q i (λa' w'=>(∃u,a'=a.put o.dst u)/\(∀p,p∈fltr D i acc->p.2 w')/\VT ro ops Q D t (fltr D i acc) a' w') a w)/\VT ro ops Q D r acc a w
theorem VT.mono:∀(T:OT) (acc b:Acc) (a:Act) (w:World),AccLe b acc->VT ro ops Q D T acc a w->VT ro ops Q D T b a w:=by
 intro T;induction T with
 |nil=>intro acc b a w _ h;exact h
 |no=>intro acc b a w _ h;exact h
 |st i t l=>
  intro acc b a w hle h;obtain⟨o,e,c,v,k,h⟩:=h;exact⟨o,e,c,v,k,l _ _ _ _ (hle.cons λ_ h=>h) h⟩
 |alt i t r iht ihr=>
  intro acc b a w hle h;obtain⟨⟨o,e,c,h⟩,j⟩:=h;refine⟨⟨o,e,c,wpOpIn_mono (λn w' d=>⟨d.1,λm f=>?_,iht _ _ _ _ (hle.fltr D i) d.2.2⟩) h⟩,ihr _ _ _ _ hle j⟩;obtain⟨p,g,_,hw⟩:=hle.fltr D i m f;exact hw _ (d.2.1 p g)
theorem WC {i:Nat} {t:OT} {R:List Nat} (h:okT ops D (.st i t) R=true):i∈R/\Xj ops.toList i=true/\(∀e,e∈yd ops.toList i->e∉R)/\(∀x,x∈R->x=i\/x∈D i\/apartN ops i x=true)/\okT ops D t (rem i R)=true/\entry ops.toList t (rem i R)=true:=by
 simp only[okT,gg] at h;obtain⟨a,b,c,d,f,g⟩:=h;refine⟨memN_iff.1 a,b,rdy_iff.1 c,λx j=>?_,f,g⟩;have:=ZA0.1 d x j;simp only[Gm] at this;rcases this with e|e|e
 .exact .inl (gB e)
 .exact .inr (.inl (memN_iff.1 e))
 .exact .inr (.inr e)
theorem Ks {i:Nat} {t r:OT} {R:List Nat} (h:okT ops D (.alt i t r) R=true):i∈R/\(∃o,ops[i]?=some o/\isStatic o.op=false)/\(∀e,e∈yd ops.toList i->e∉R)/\okT ops D t (rem i R)=true/\entry ops.toList t (rem i R)=true/\isAlt r=true/\okT ops D r R=true:=by
 simp only[okT,gg] at h;obtain⟨b,a,c,⟨d,f⟩,g,j⟩:=h;refine⟨memN_iff.1 b,?_,rdy_iff.1 c,d,f,g,j⟩;split at a
 .rename_i o k;exact⟨o,Xm k,by simpa using a⟩
 .cases a
theorem heads_no {x:Nat}:∀{T:OT} {R:List Nat},okT ops D T R=true->x∈heads T->∃o,ops[x]?=some o/\isStatic o.op=false
 | .alt i t r,R,h,a=>by
  obtain⟨d,b,e,f,g,j,c⟩:=Ks h;rcases gj.1 a with rfl|a
  .exact b
  .exact heads_no c a
 | .nil,_,_,a=>by cases a
 | .no,_,_,a=>by cases a
 | .st _ _,_,_,a=>by cases a
theorem Ze {T:OT} {R:List Nat} (h:entry ops.toList T R=true) (a:isAlt T=true) {x:Nat} (c:x∈R) (b:∀e,e∈yd ops.toList x->e∉R):x∈heads T:=by
 cases T with
 |nil=>cases a
 |st=>cases a
 |no=>cases h
 |alt i t r=>
 have:=ZA0.1 h x c;rw[rdy_iff.2 b] at this;exact memN_iff.1 this
structure RestT (ops:Array Oper) (D:Nat->List Nat) (R:List Nat) (listed:Array Bool):Prop where
 size:listed.size=ops.size
 mem:∀i,i<ops.size->(listed.getD i true=false↔i∈R)
 lt:∀i,i∈R->i<ops.size
 nodup:R.Nodup
 desc:∀s,s∈R->∀x,x∈D s->x∈R
 edge:∀s,s∈R->∀x,x∈D s->∃e,e∈yd ops.toList x/\(e=s\/e∈D s)
 sel:∀i,i∈R->qB0 ops.toList i=true
 elt:∀x,x∈R->∀e,e∈yd ops.toList x->e<ops.size
theorem RestT.not_desc {R:List Nat} {listed:Array Bool} (h:RestT ops D R listed) {s x:Nat} (hs:s∈R) (b:∀e,e∈yd ops.toList x->e∉R):x∉D s:=by
 intro c;obtain⟨e,he,a|a⟩:=h.edge s hs x c
 .subst a;exact b e he hs
 .exact b e he (h.desc s hs e a)
theorem rem_nodup {i:Nat}:∀{l:List Nat},l.Nodup->(rem i l).Nodup
 |[],_=>pn
 |x::r,h=>by
  obtain⟨b,a⟩:=G1.1 h;simp only[rem];cases Nat.beq x i
  .exact G1.2 ⟨λc=>b (mem_rem.1 c).1,rem_nodup a⟩
  .exact rem_nodup a
theorem rem_len {i:Nat}:∀{l:List Nat},l.Nodup->i∈l->(rem i l).length+1=l.length
 |[],_,h=>by cases h
 |x::r,h,hi=>by
  obtain⟨c,d⟩:=G1.1 h;simp only[rem];cases a:Nat.beq x i
  .have b:x≠i:=λe=>by subst e;simp at a
   have:i∈r:=(gj.1 hi).resolve_left λe=>b e.symm;simp[rem_len d this]
  .have b:=gB a;subst b;have:rem x r=r:=rem_not c;simp[this]
where
 rem_not {i:Nat}:∀{l:List Nat},i∉l->rem i l=l
  |[],_=>rfl
  |x::r,h=>by
   simp only[gj,not_or] at h;simp only[rem];cases a:Nat.beq x i
   .simp[rem_not h.2]
   .exact absurd (gB a).symm h.1
theorem rem_comm (i j:Nat):∀(l:List Nat),rem i (rem j l)=rem j (rem i l)
 |[]=>rfl
 |x::r=>by
  simp only[rem];cases a:Nat.beq x i<;>cases b:Nat.beq x j<;>simp[rem,a,b,rem_comm i j r]
theorem RestT.step {R:List Nat} {listed:Array Bool} (b:RestT ops D R listed) {i:Nat} (hi:i∈R) (c:∀e,e∈yd ops.toList i->e∉R):RestT ops D (rem i R) (listed.setIfInBounds i true):=by
 have sub:∀x,x∈rem i R->x∈R:=λx a=>(mem_rem.1 a).1;refine⟨by simp[b.size],λx a=>?_,λx a=>b.lt x (sub x a),rem_nodup b.nodup,λs hs x a=>?_,λs hs=>b.edge s (sub s hs),λx a=>b.sel x (sub x a),λx a=>b.elt x (sub x a)⟩
 .by_cases e:i=x
  .subst e;simp only[gX];have:i<listed.size:=by rw[b.size];exact a
   simp[this,mem_rem]
  .rw[getD_set_ne true e,b.mem x a,mem_rem];exact⟨λh=>⟨h,Ne.symm e⟩,λh=>h.1⟩
 .refine mem_rem.2 ⟨b.desc s (sub s hs) x a,λe=>?_⟩;subst e;exact b.not_desc (sub s hs) c a
theorem okT_pull {i:Nat}:∀{T:OT} {R:List Nat},okT ops D T R=true->entry ops.toList T R=true->i∈R->(∀e,e∈yd ops.toList i->e∉R)->(okT ops D (pull i T) (rem i R)=true/\entry ops.toList (pull i T) (rem i R)=true)
 | .nil,R,h,_,hi,_=>by
  cases R with
  |nil=>cases hi
  |cons=>cases h
 | .no,R,h,he,hi,a=>by have:=Ze he rfl hi a;cases this
 | .st s t,R,h,he,hi,a=>by
  obtain⟨n,o,p,j,g,l⟩:=WC h;simp only[pull];cases d:Nat.beq s i
  .have c:s≠i:=λe=>by subst e;simp at d
   have m:i∈rem s R:=mem_rem.2 ⟨hi,Ne.symm c⟩;have f:∀e,e∈yd ops.toList i->e∉rem s R:=λe he hm=>a e he (mem_rem.1 hm).1;obtain⟨g1,g2⟩:=okT_pull g l m f;refine⟨?_,rfl⟩;simp only[cond,okT,gg];refine⟨memN_iff.2 (mem_rem.2 ⟨n,c⟩),o,rdy_iff.2 λe he hm=>p e he (mem_rem.1 hm).1,ZA0.2 λx u=>?_,by rw[rem_comm];exact g1,by rw[rem_comm];exact g2⟩;simp only[Gm];rcases j x (mem_rem.1 u).1 with e|e|e
   .subst e;exact .inl (Nat.beq_refl _)
   .exact .inr (.inl (memN_iff.2 e))
   .exact .inr (.inr e)
  .have hs:=gB d;subst hs;exact⟨g,l⟩
 | .alt k t r,R,h,he,hi,a=>by
  have b:=Ze he rfl hi a;exact go (T:= .alt k t r) h b
where
 go {i:Nat}:∀{T:OT} {R:List Nat},okT ops D T R=true->i∈heads T->(okT ops D (pull i T) (rem i R)=true/\entry ops.toList (pull i T) (rem i R)=true)
  | .alt k t r,R,h,b=>by
   obtain⟨n,o,p,j,g,l,q⟩:=Ks h;simp only[pull];cases d:Nat.beq k i
   .have c:k≠i:=λe=>by subst e;simp at d
    exact go q ((gj.1 b).resolve_left λe=>c e.symm)
   .have hs:=gB d;subst hs;exact⟨j,g⟩
  | .nil,_,_,b=>by cases b
  | .no,_,_,b=>by cases b
  | .st _ _,_,_,b=>by cases b
theorem Jh {s x:Nat} (h:apartN ops s x=true) {os ox:Oper} (hs:ops[s]?=some os) (c:ops[x]?=some ox):os.apart ops ox=true:=by
 have a:nth ops.toList s=some os:=by rw[ZE,gV];exact hs
 have b:nth ops.toList x=some ox:=by rw[ZE,gV];exact c
 simpa[apartN,a,b] using h
theorem XY {s:Nat} (h:qB0 ops.toList s=true) {os:Oper} (hs:ops[s]?=some os):noSel os.op=true:=by
 have a:nth ops.toList s=some os:=by rw[ZE,gV];exact hs
 simpa[qB0,a] using h
theorem VT.first_static {x:Nat} {ox:Oper} (E:ops[x]?=some ox) (A:isStatic ox.op=true) (u:noSel ox.op=true):
  ∀(T:OT) (R:List Nat) (acc:Acc) (a:Act) (w:World),okT ops D T R=true->entry ops.toList T R=true->x∈R->(∀e,e∈yd ops.toList x->e∉R)->(∀s,s∈R->x∉D s)->(∀s,s∈R->qB0 ops.toList s=true)->
   VT ro ops Q D T acc a w->∃v,StEv ops ox a w v/\VT ro ops Q D (pull x T) acc (a.put ox.dst v) w:=by
 intro T;induction T with
 |nil=>
  intro R acc a w h _ hi _ _ _ _;cases R with
  |nil=>cases hi
  |cons=>cases h
 |no=>
  intro R acc a w h he hi b _ _ _;have:=Ze he rfl hi b;cases this
 |alt k t r _ _=>
  intro R acc a w h he hi b _ _ _;obtain⟨o,I,H⟩:=heads_no h (Ze he rfl hi b);rw[E] at I;have:=V1 I;subst this;rw[A] at H;cases H
 |st s t M=>
  intro R acc a w h he hi b i f p;obtain⟨F,N,O,J,K,L⟩:=WC h;obtain⟨os,c,z,vs,m,p⟩:=p;simp only[pull];cases G:Nat.beq s x
  .have j:s≠x:=λe=>by subst e;simp at G
   have d:os.apart ops ox=true:=by
    rcases J x hi with e|e|e
    .exact absurd e.symm j
    .exact absurd e (i s F)
    .exact Jh e c E
   have l:=XY (f s F) c;have sub:∀y,y∈rem s R->y∈R:=λy n=>(mem_rem.1 n).1;obtain⟨v,B,q⟩:=M (rem s R) _ _ _ K L (mem_rem.2 ⟨hi,Ne.symm j⟩) (λe he hm=>b e he (sub e hm)) (λy n=>i y (sub y n)) (λy n=>f y (sub y n)) p;refine⟨v,(StEv.put d u).1 B,os,c,z,vs,(StEv.put (apart_symm d) l).2 m,?_⟩;obtain⟨_,g,_⟩:=Oper.apart_spec d;rw[<-Act.put_comm a vs v g];exact q.mono _ _ _ _ _ ((AccLe.refl acc).cons λw' C=>(StEv.put (apart_symm d) l).2 C)
  .have hs:=gB G;subst hs;obtain rfl:os=ox:=by rw[E] at c;exact(V1 c).symm
   exact⟨vs,m,p.mono _ _ _ _ _ (AccLe.drop _ _)⟩
theorem VT.alt_get {x:Nat} {ox:Oper} (l:ops[x]?=some ox):∀(T:OT) (acc:Acc) (a:Act) (w:World),x∈heads T->VT ro ops Q D T acc a w->
  wpOpIn (FR ro) 0 P ops Q x (λc w'=>(∃u,c=a.put ox.dst u)/\(∀p,p∈fltr D x acc->p.2 w')/\VT ro ops Q D (pull x T) (fltr D x acc) c w') a w:=by
 intro T;induction T with
 |nil=>intro _ _ _ h;cases h
 |no=>intro _ _ _ h;cases h
 |st _ _ _=>intro _ _ _ h;cases h
 |alt k t r _ ihr=>
  intro acc a w h j;obtain⟨⟨o,f,_,g⟩,i⟩:=j;simp only[pull];cases d:Nat.beq k x
  .have b:k≠x:=λe=>by subst e;simp at d
   exact ihr acc a w ((gj.1 h).resolve_left λe=>b e.symm) i
  .have hs:=gB d;subst hs;obtain rfl:o=ox:=by rw[l] at f;exact(V1 f).symm
   exact g
theorem VT.first_change {x:Nat} {ox:Oper} (v:ops[x]?=some ox) (F:isStatic ox.op=false) (E:noSel ox.op=true) (M:∀c a w,¬Q (.panic c) a w):
  ∀(T:OT) (R:List Nat) (acc:Acc) (a:Act) (w:World),okT ops D T R=true->entry ops.toList T R=true->x∈R->(∀e,e∈yd ops.toList x->e∉R)->(∀s,s∈R->x∉D s)->(∀s,s∈R->qB0 ops.toList s=true)->
   VT ro ops Q D T acc a w->wpOpIn (FR ro) 0 P ops Q x (λn w'=>(∃u,n=a.put ox.dst u)/\(∀p,p∈fltr D x acc->p.2 w')/\VT ro ops Q D (pull x T) (fltr D x acc) n w') a w:=by
 intro T;induction T with
 |nil=>
  intro R acc a w h _ hi _ _ _ _;cases R with
  |nil=>cases hi
  |cons=>cases h
 |no=>
  intro R acc a w h he hi b _ _ _;have:=Ze he rfl hi b;cases this
 |alt k t r _ _=>
  intro R acc a w h he hi b _ _ g;exact VT.alt_get v _ acc a w (Ze he rfl hi b) g
 |st s t U=>
  intro R acc a w h he hi b j f g;obtain⟨z,V,H,I,J,L⟩:=WC h;obtain⟨os,d,m,vs,S,g⟩:=g;have l:s≠x:=λe=>by
   subst e;rw[v] at d;have:=V1 d;subst this;rw[F] at m;cases m
  have i:os.apart ops ox=true:=by
   rcases I x hi with e|e|e
   .exact absurd e.symm l
   .exact absurd e (j s z)
   .exact Jh e d v
  have o:=XY (f s z) d;have sub:∀y,y∈rem s R->y∈R:=λy q=>(mem_rem.1 q).1;have G:=j s z;have A:=Kc (K:=λn w'=>(∀p,p∈fltr D x ((s,λw=>StEv ops os a w vs)::acc)->p.2 w')/\VT ro ops Q D (pull x t) (fltr D x ((s,λw=>StEv ops os a w vs)::acc)) n w') v i E M
   (U (rem s R) _ _ _ J L (mem_rem.2 ⟨hi,Ne.symm l⟩) (λe he hm=>b e he (sub e hm)) (λy q=>j y (sub y q)) (λy q=>f y (sub y q)) g)
  have N:fltr D x ((s,λw=>StEv ops os a w vs)::acc)=(s,λw=>StEv ops os a w vs)::fltr D x acc:=by
   have:memN x (D s)=false:=by
    cases hm:memN x (D s)
    .rfl
    .exact absurd (memN_iff.1 hm) G
   simp[fltr,this]
  have B:Nat.beq s x=false:=by
   cases B:Nat.beq s x
   .rfl
   .exact absurd (gB B) l
  simp only[pull,B,cond];refine wpOpIn_mono (λn w' ⟨⟨u,hu⟩,C,g⟩=>?_) A;rw[N] at C g;refine⟨⟨u,hu⟩,λp O=>C p (gp _ O),os,d,m,vs,?_,?_⟩
  .rw[hu];exact(StEv.put (apart_symm i) o).2 (C _ gk)
  .refine g.mono _ _ _ _ _ ((AccLe.refl _).cons λW H=>?_);rw[hu];exact(StEv.put (apart_symm i) o).2 H
theorem has_ready:∀{T:OT} {R:List Nat},okT ops D T R=true->entry ops.toList T R=true->R≠[]->∃i,i∈R/\∀e,e∈yd ops.toList i->e∉R
 | .nil,R,h,_,d=>by
  cases R with
  |nil=>exact absurd rfl d
  |cons=>cases h
 | .no,_,_,he,_=>by cases he
 | .st s t,_,h,_,_=>by obtain⟨a,c,b,_⟩:=WC h;exact⟨s,a,b⟩
 | .alt s t r,_,h,_,_=>by obtain⟨a,c,b,_⟩:=Ks h;exact⟨s,a,b⟩
theorem Kl {R:List Nat} {listed:Array Bool} (c:RestT ops D R listed) {i:Nat} (hi:i∈Region.ready .any ops listed):
  i∈R/\∀e,e∈yd ops.toList i->e∉R:=by
 obtain⟨k,o,j,b⟩:=mem_ready.1 hi;have g:i<ops.size:=(gH.1 j).1;refine⟨(c.mem i g).1 k,λe he a=>?_⟩;obtain⟨d,m,l,rfl⟩:=(mem_edges j).1 he;have h:=b d m l;have f:=(c.mem d.on (c.lt _ a)).2 a;have hs:d.on<listed.size:=by rw[c.size];exact c.lt _ a
 simp[Array.getD,hs] at h f;rw[h] at f;cases f
theorem VT.any (O:∀c a w,¬Q (.panic c) a w):∀(fuel:Nat) (T:OT) (R:List Nat) (listed:Array Bool) (acc:Acc) (a:Act) (w:World),
  RestT ops D R listed->okT ops D T R=true->entry ops.toList T R=true->R.length=fuel->VT ro ops Q D T acc a w->wpAnyIn (FR ro) 0 P .any ops Q fuel listed a w:=by
 intro fuel;induction fuel with
 |zero=>
  intro T R listed acc a w b m he C h;have:R=[]:=gL C;subst this;have G:T= .nil:=by
   cases T with
   |nil=>rfl
   |no=>cases he
   |st s t=>have:=(WC m).1;cases this
   |alt s t r=>have:=(Ks m).1;cases this
  subst G;refine⟨?_,h⟩;cases U:Region.ready .any ops listed with
  |nil=>rfl
  |cons x xs=>
   have:=(Kl b (i:=x) (by rw[U];exact gk)).1;cases this
 |succ fuel M=>
  intro T R listed acc a w b m he C h;refine⟨λA=>?_,λi hi=>?_⟩
  .exfalso;obtain⟨x,k,H⟩:=has_ready m he (λe=>by rw[e] at C;cases C);obtain⟨o,K⟩:∃o,ops[x]?=some o:=⟨_,GB (b.lt x k)⟩;have L:x∈Region.ready .any ops listed:=by
    refine mem_ready.2 ⟨(b.mem x (b.lt x k)).2 k,o,K,λd V S=>?_⟩;have u:d.on∈yd ops.toList x:=(mem_edges K).2 ⟨d,V,S,rfl⟩;by_cases n:d.on<ops.size
    .cases I:listed.getD d.on false
     .exfalso;have hs:d.on<listed.size:=by rw[b.size];exact n
      have N:listed.getD d.on true=false:=by
       simp[Array.getD,hs] at I⊢;exact I
      exact H _ u ((b.mem d.on n).1 N)
     .rfl
    .exact absurd (b.elt x k _ u) n
   rw[A] at L;cases L
  .obtain⟨f,g⟩:=Kl b hi;obtain⟨_,oi,j,_⟩:=mem_ready.1 hi;have l:=XY (b.sel i f) j;have z:∀s,s∈R->i∉D s:=λs hs=>b.not_desc hs g;have B:=b.step f g;have hlen:(rem i R).length=fuel:=by have:=rem_len b.nodup f;omega
   obtain⟨q,y⟩:=okT_pull m he f g;cases p:isStatic oi.op
   .have:=VT.first_change j p l O T R acc a w m he f g z b.sel h;exact wpOpIn_mono (λW w' F=>M _ _ _ _ _ _ B q y hlen F.2.2) this
   .obtain⟨v,E,F⟩:=VT.first_static j p l T R acc a w m he f g z b.sel h;have J:=M _ _ _ _ _ _ B q y hlen F;unfold wpOpIn;simp only[j];unfold StEv at E;split at E
    .rename_i hw;rw[X0 hw];refine⟨λ_ _=>trivial,?_⟩;rw[Zc p,E];exact J
    .rename_i hw;rw[y3 hw];subst E;exact⟨λ_ _=>trivial,J⟩
def zo0 (ops:Array Oper) (D:Nat->List Nat) (T:OT):Bool:=
 allN (qB0 ops.toList) (List.range ops.size)&&(allN (λx=>allN (λe=>Nat.blt e ops.size) (yd ops.toList x)) (List.range ops.size)&&(allN (λs=>allN (λx=>Nat.blt x ops.size&&anyN (λe=>Nat.beq e s||memN e (D s)) (yd ops.toList x)) (D s)) (List.range ops.size)&&
  (okT ops D T (List.range ops.size)&&entry ops.toList T (List.range ops.size))))
theorem x00 {T:OT} (h:zo0 ops D T=true):RestT ops D (List.range ops.size) (Array.replicate ops.size false)/\okT ops D T (List.range ops.size)=true/\entry ops.toList T (List.range ops.size)=true:=by
 simp only[zo0,gg] at h;obtain⟨d,f,c,g,j⟩:=h;refine⟨⟨by simp,λi hi=>by simp[hi,Array.getD],λi hi=>gJ.1 hi,List.nodup_range,λs hs x a=>?_,λs hs x a=>?_,λi hi=>ZA0.1 d i hi,λx a e he=>?_⟩,g,j⟩
 .have:=ZA0.1 (ZA0.1 c s hs) x a;rw[gg] at this;exact gJ.2 (by simpa[Pa] using this.1)
 .have:=ZA0.1 (ZA0.1 c s hs) x a;rw[gg] at this;obtain⟨e,he,h⟩:=anyN_iff.1 this.2;refine⟨e,he,?_⟩;rcases Gm _ _▸h with b|b
  .exact .inl (gB b)
  .exact .inr (memN_iff.1 b)
 .have:=ZA0.1 (ZA0.1 f x a) e he;simpa[Pa] using this
def inT:OT->List Nat
 | .nil=>[]
 | .no=>[]
 | .st i t=>i::inT t
 | .alt i t r=>i::(inT t++inT r)
theorem QA {l a:List Nat} (h:∀x,x∈a->x∈l) {t:Nat} (c:Off ops l t):Off ops a t:=λj b=>c j (h j b)
theorem kB0 {K:Fr->World->Prop} (q:Kr n ops.toList=true):
  ∀(T:OT) (R sk:List Nat) (acc accP:Acc) (f:Fr) (a:Act) (w:World),okT ops D T R=true->vopsT ops.toList D K T sk acc f w->Sim df n f a->k70 sk f->
   AccRel accP acc->(∀p,p∈accP->p.2 w)->
   (∀d g w',Sim df n d g->(∀t,Off ops (inT T) t->d t=f t)->K d w'->Q .normal g w')->VT ro ops Q D T accP a w:=by
 have one:∀(i:Nat) (t:OT) (o:Oper) (sk:List Nat) (acc accP:Acc) (f:Fr) (a:Act) (w:World),ops[i]?=some o->isStatic o.op=false->
   (∀(sk:List Nat) (acc accP:Acc) (f:Fr) (a:Act) (w:World),vopsT ops.toList D K t sk acc f w->Sim df n f a->k70 sk f->AccRel accP acc->(∀p,p∈accP->p.2 w)->
    (∀d g w',Sim df n d g->(∀x,Off ops (inT t) x->d x=f x)->K d w'->Q .normal g w')->VT ro ops Q D t accP a w)->
   vgd ops.toList o.guard sk f (λf=>ka0 true D i o sk acc f w (vopsT ops.toList D K t)) (λf=>vopsT ops.toList D K t (skAdd o.dst sk) acc (put f o.dst undef) w)->
   Sim df n f a->k70 sk f->AccRel accP acc->(∀p,p∈accP->p.2 w)->
   (∀d g w',Sim df n d g->(∀x,Off ops (i::inT t) x->d x=f x)->K d w'->Q .normal g w')->
   wpOpIn (FR ro) 0 P ops Q i (λg w'=>(∃u,g=a.put o.dst u)/\(∀p,p∈fltr D i accP->p.2 w')/\VT ro ops Q D t (fltr D i accP) g w') a w:=by
  intro i t o sk acc accP f a w hi l J h hs j b c B;have offr:∀x,Off ops (i::inT t) x->Off ops (inT t) x:=λx A=>QA (λy C=>gp _ C) A;have z:∀x,Off ops (i::inT t) x->o.dst≠some x:=λx A=>A i gk o hi;have e:∀v d g w',Sim df n d g->(∀x,Off ops (inT t) x->d x=put f o.dst v x)->K d w'->Q .normal g w':=λv d g w' s I G=>
   B d g w' s (λx h=>(I x (offr x h)).trans (Xk (z x h) _ _)) G
  rcases ZS q hs j h with⟨hw,h⟩|⟨hw,h⟩
  .simp only[ka0,cond] at h;rw[l] at h;unfold wpOpIn;simp only[hi];rw[X0 hw];refine vop_sound h hs λv w' L=>?_;obtain⟨U,V⟩:=Xi L;have E:∀p,p∈fltr D i accP->p.2 w':=λp' H=>by
    rcases b.fltr i p' H with h'|⟨p,m,_,Y⟩
    .exact h' w'
    .exact Y w' (U p m)
   exact⟨⟨v,rfl⟩,E,J _ _ _ _ _ _ V (hs.put (yU q hi) v) (jS j _ _) (b.fltr i) E (e v)⟩
  .unfold wpOpIn;simp only[hi];rw[y3 (by simp[hw])];refine⟨λ_ _=>trivial,⟨_,rfl⟩,λp m=>c p (mem_fltr.1 m).1,?_⟩;exact J _ _ _ _ _ _ h (hs.put (yU q hi) undef) (Yy j _)
    (λp' H=>b p' (mem_fltr.1 H).1) (λp m=>c p (mem_fltr.1 m).1) (e undef)
 intro T;induction T with
 |nil=>intro R sk acc accP f a w _ h hs _ _ _ B;exact B f a w hs (λ_ _=>rfl) h
 |no=>intro R sk acc accP f a w _ h hs _ _ _ B;trivial
 |alt i t r iht ihr=>
  intro R sk acc accP f a w S h hs j b c B;obtain⟨h1,⟨o,hi,l⟩,h3,h4,M,h6,h7⟩:=Ks S;obtain⟨hA,hB⟩:=h;have hn:nth ops.toList i=some o:=by rw[ZE,gV];exact hi
  rw[hn] at hA;refine⟨⟨o,hi,l,one i t o sk acc accP f a w hi l (λsk acc accP f a w=>iht _ sk acc accP f a w h4) hA hs j b c λd g w' s I G=>B d g w' s (λx A=>I x ?_) G⟩,ihr _ _ _ _ _ _ _ h7 hB hs j b c λd g w' s I G=>B d g w' s (λx A=>I x ?_) G⟩
  .exact QA (λy C=>by rcases gj.1 C with rfl|C;exact gk;exact gp _ (Ge _ C)) A
  .exact QA (λy C=>gp _ (Gv _ C)) A
 |st i t J=>
  intro R sk acc accP f a w S h hs j b c B;obtain⟨h1,O,h3,h4,M,h6⟩:=WC S;simp only[vopsT] at h;cases N:nth ops.toList i with
  |none=>rw[N] at h;exact h.elim
  |some o=>
   rw[N] at h;have hi:=Xm N;have l:isStatic o.op=true:=(by simpa[Xj,N] using O);have offr:∀x,Off ops (i::inT t) x->Off ops (inT t) x:=λx A=>QA (λy C=>gp _ C) A;have z:∀x,Off ops (i::inT t) x->o.dst≠some x:=λx A=>A i gk o hi;refine⟨o,hi,l,?_⟩;have e:∀v d g w',Sim df n d g->(∀x,Off ops (inT t) x->d x=put f o.dst v x)->K d w'->Q .normal g w':=λv d g w' s I G=>
    B d g w' s (λx h=>(I x (offr x h)).trans (Xk (z x h) _ _)) G
   rcases ZS q hs j h with⟨hw,h⟩|⟨hw,h⟩
   .simp only[ka0,cond] at h;rw[l] at h;cases F:isFree o.op
    .rw[F] at h;obtain⟨v,w',W,a0,L⟩:=ZR l h;subst a0;have k:StEv ops o a w' v:=by unfold StEv;rw[X0 hw,hs.eval];exact W
     refine⟨v,k,J _ _ _ _ _ _ _ M L (hs.put (yU q hi) v) (jS j _ _) (b.add λw2 O=>?_) (λp m=>?_) (e v)⟩
     .obtain⟨v',w3,X,hv',Z⟩:=ZR l O;subst hv';subst Z;unfold StEv;rw[X0 hw,hs.eval];exact X
     .rcases gj.1 m with rfl|m
      .exact k
      .exact c p m
    .rw[F] at h;obtain⟨v,W,L⟩:=UV F h;have k:∀w2,StEv ops o a w2 v:=λw2=>by unfold StEv;rw[X0 hw,hs.eval];exact W w2
     refine⟨v,k w,J _ _ _ _ _ _ _ M L (hs.put (yU q hi) v) (jS j _ _) (b.addFree k) (λp m=>?_) (e v)⟩;rcases gj.1 m with rfl|m
     .exact k w
     .exact c p m
   .have k:∀w2,StEv ops o a w2 undef:=λw2=>by unfold StEv;rw[y3 (by simp[hw])]
    refine⟨undef,k w,J _ _ _ _ _ _ _ M h (hs.put (yU q hi) undef) (Yy j _) (b.addFree k) (λp m=>?_) (e undef)⟩;rcases gj.1 m with rfl|m
    .exact k w
    .exact c p m
theorem x40 {id:Nat} {K:Fr->World->Prop} (k:Kr n ops.toList=true) (hm:P.follows .mixedOrders=true) {T:OT} (v:zo0 ops D T=true)
  (h:vopsT ops.toList D K T [] [] f {w with drawn:=w.drawn+1}) (hs:Sim df n f a)
  (u:∀b j w',Sim df n b j->(∀t,(∀o,o∈ops->o.dst≠some t)->b t=f t)->K b w'->Q .normal j w'):(Code.region id ops true).wpIn (FR ro) 0 P Q a w:=by
 refine wpIn_mono (Q:=onlyN Q) (wpIn_region_any hm ?_) λe a w h=>by cases e<;>first|exact h|exact h.elim
 obtain⟨r,q,s⟩:=x00 v;refine VT.any (D:=D) (λc a w h=>h) ops.size T _ _ [] a _ r q s (by simp) ?_;exact kB0 k T _ [] [] [] f a _ q h hs (λd x=>by cases x) (λp l=>by cases l) (λp l=>by cases l)
   λb j w' m A y=>u b j w' m (λt g=>A t λi _ o z=>g o (pw z)) y
end
end
section
def selL (L:List Nat) (f:Fr):List Value:=match L with|[]=>[]|x::r=>f x::selL r f
def pickL (t:Nat):List Nat->List Value->Value->Value
 |[],_,d=>d
 |x::L,u,d=>cond (Nat.beq t x) (u.headD undef) (pickL t L u.tail d)
def sl:Nat->List Value->Value
 |0,u=>u.headD undef
 |n+1,u=>sl n u.tail
def hav (f:Fr) (L M:List Nat) (u:List Value) (g:Fr):Fr:=λt=>pickL t L u (cond (memN t M) (g t) (f t))
theorem pickL_selL (t:Nat) (f:Fr) (d:Value):∀(L:List Nat),pickL t L (selL L f) d=if t∈L then f t else d:=by
 intro L;induction L with
 |nil=>simp[pickL]
 |cons x r b=>
  simp only[pickL,selL,List.headD_cons,List.tail_cons,gj,b];cases a:Nat.beq t x
  .have:t≠x:=λe=>by subst e;simp at a
   simp[this]
  .have:=gB a;subst this;simp
theorem UR {f a:Fr} {L M:List Nat} (h:∀t,t∉M->a t=f t):hav f L M (selL L a) a=a:=by
 funext t
 unfold hav;rw[pickL_selL];split
 .rfl
 .cases hm:memN t M
  .exact(h t λb=>by rw[memN_iff.2 b] at hm;cases hm).symm
  .rfl
def filt (S:List Nat):List Nat->List Nat
 |[]=>[]
 |e::r=>cond (memN e S) (e::filt S r) (filt S r)
theorem mem_filt {S:List Nat} {e:Nat}:∀{l:List Nat},e∈filt S l↔e∈l/\e∈S
 |[]=>by simp[filt]
 |x::r=>by
  simp only[filt];cases hm:memN x S
  .have c:x∉S:=λh=>by rw[memN_iff.2 h] at hm;cases hm
   simp only[cond,mem_filt (l:=r),gj];constructor
   .rintro⟨b,a⟩;exact⟨.inr b,a⟩
   .rintro⟨rfl|b,a⟩
    .exact absurd a c
    .exact⟨b,a⟩
  .have c:=memN_iff.1 hm;simp only[cond,gj,mem_filt (l:=r)];constructor
   .rintro(rfl|⟨b,a⟩)
    .exact⟨.inl rfl,c⟩
    .exact⟨.inr b,a⟩
   .rintro⟨rfl|b,a⟩
    .exact .inl rfl
    .exact .inr ⟨b,a⟩
def impD (d:oA) (X:Prop):List Nat->Prop
 |[]=>X
 |e::r=>d e->impD d X r
theorem impD_iff {d:oA} {X:Prop}:∀{l:List Nat},impD d X l↔((∀e,e∈l->d e)->X)
 |[]=>by simp[impD]
 |e::r=>by simp[impD,impD_iff (l:=r)]
def vsteps (ops:List Oper) (S L:List Nat) (I:(oA)->List Value->World->Prop) (d:oA) (F:Fr) (w:World):List Nat->Prop
 |[]=>True
 |i::r=>(match nth ops i with
  |none=>False
  |some o=>match o.guard with
   |some _=>False
   |none=>(d i->False)->impD d (cond (isStatic o.op) (vop o.op o.type F w λv w'=>w'=w/\I (λx=>x=i\/d x) (selL L (put F o.dst v)) w) (vop o.op o.type F w λv w'=>I (λx=>x=i\/d x) (selL L (put F o.dst v)) w')) (filt S (yd ops i)))/\vsteps ops S L I d F w r
def vpar (ops:List Oper) (S L:List Nat) (K:Fr->World->Prop) (acc:Acc) (f:Fr) (w:World):Prop:=
 ∃I:(oA)->List Value->World->Prop,I (λ_=>False) (selL L f) w/\
  ∀d u g w,I d u w->vkeeps acc w (vsteps ops S L I d (hav f L L u g) w S/\impD d (K (hav f L L u g) w) S)
def vopsP (ops:List Oper) (D:Nat->List Nat) (S L:List Nat) (K:Fr->World->Prop):List Nat->List Nat->Acc->Fr->World->Prop
 |[],_,acc,f,w=>vpar ops S L K acc f w
 |i::r,sk,acc,f,w=>
  match nth ops i with
  |none=>False
  |some o=>vgd ops o.guard sk f
    (λf=>ka0 true D i o sk acc f w (vopsP ops D S L K r))
    (λf=>vopsP ops D S L K r (skAdd o.dst sk) acc (put f o.dst undef) w)
section
variable {ro:Option Nat} {df:List Deferred} {n:Nat} {ops:Array Oper} {Q:Exit->Act->World->Prop} {D:Nat->List Nat} {a:Act} {f:Fr} {w:World} {S:List Nat}
def PStep (ro:Option Nat) (ops:Array Oper) (Q:Exit->Act->World->Prop) (I:(oA)->Act->World->Prop) (d:oA) (i:Nat) (a:Act) (w:World):Prop:=
 ∃o,ops[i]?=some o/\((isStatic o.op=true/\∃v,StEv ops o a w v/\I (λx=>x=i\/d x) (a.put o.dst v) w)\/
  (isStatic o.op=false/\wpOpIn (FR ro) 0 P ops Q i (λa' w'=>(∃u,a'=a.put o.dst u)/\I (λx=>x=i\/d x) a' w') a w))
def Good (ro:Option Nat) (ops:Array Oper) (Q:Exit->Act->World->Prop) (S:List Nat) (acc:Acc) (I:(oA)->Act->World->Prop):Prop:=
 ∀d a w,I d a w->(∀p,p∈acc->p.2 w)/\(∀i,i∈S->¬d i->(∀e,e∈yd ops.toList i->e∈S->d e)->PStep ro ops Q I d i a w)/\((∀i,i∈S->d i)->Q .normal a w)
def VPar (ro:Option Nat) (ops:Array Oper) (Q:Exit->Act->World->Prop) (S U:List Nat) (acc:Acc) (a:Act) (w:World):Prop:=
 ∃I:(oA)->Act->World->Prop,I (λx=>x∈S/\x∉U) a w/\Good ro ops Q S acc I
def VP (ro:Option Nat) (ops:Array Oper) (Q:Exit->Act->World->Prop) (S U:List Nat):List Nat->Acc->Act->World->Prop
 |[],acc,a,w=>VPar ro ops Q S U acc a w
 |i::r,acc,a,w=> ∃o,ops[i]?=some o/\isStatic o.op=true/\∃v,StEv ops o a w v/\VP ro ops Q S U r ((i,λw=>StEv ops o a w v)::acc) (a.put o.dst v) w
theorem VP.mono {U:List Nat}:∀(l:List Nat) (acc b:Acc) (a:Act) (w:World),AccLe b acc->VP ro ops Q S U l acc a w->VP ro ops Q S U l b a w:=by
 intro l;induction l with
 |nil=>
  intro acc b a w hle h;obtain⟨I,f,g⟩:=h;refine⟨I,f,λd a w j=>?_⟩;obtain⟨g1,g2,g3⟩:=g d a w j;refine⟨λs c=>?_,g2,g3⟩;obtain⟨p,m,_,hw⟩:=hle s c;exact hw w (g1 p m)
 |cons i r q=>
  intro acc b a w hle h;obtain⟨o,k,e,v,n,h⟩:=h;exact⟨o,k,e,v,n,q _ _ _ _ (hle.cons λ_ h=>h) h⟩
theorem VP.first_static {U:List Nat} {x:Nat} {ox:Oper} (r:ops[x]?=some ox) (g:noSel ox.op=true) (post:List Nat):
  ∀(pre:List Nat) (acc:Acc) (a:Act) (w:World),(∀s,s∈pre->∀os,ops[s]?=some os->noSel os.op=true/\os.apart ops ox=true)->
   VP ro ops Q S U (pre++x::post) acc a w->∃v,StEv ops ox a w v/\VP ro ops Q S U (pre++post) acc (a.put ox.dst v) w:=by
 intro pre;induction pre with
 |nil=>
  intro acc a w _ h;obtain⟨o,m,p,v,j,h⟩:=h;obtain rfl:o=ox:=by rw[r] at m;exact(V1 m).symm
  exact⟨v,j,h.mono _ _ _ _ _ (AccLe.drop _ _)⟩
 |cons s pre u=>
  intro acc a w c h;obtain⟨os,d,i,vs,k,h⟩:=h;obtain⟨e,b⟩:=c s gk os d;obtain⟨v,j,n⟩:=u _ _ _ (λt q=>c t (gp _ q)) h;refine⟨v,(StEv.put b g).1 j,os,d,i,vs,(StEv.put (apart_symm b) e).2 k,?_⟩;obtain⟨_,f,_⟩:=Oper.apart_spec b;rw[<-Act.put_comm a vs v f];exact n.mono _ _ _ _ _ ((AccLe.refl acc).cons λw' l=>(StEv.put (apart_symm b) e).2 l)
theorem done_step {U p q:List Nat} {x:Nat} (d:x∈S) (k:U=p++x::q) (i:U.Nodup):(λy=>y=x\/(y∈S/\y∉U))=(λy=>y∈S/\y∉p++q):=by
 funext y
 refine propext ?_;subst k;rw[Gu] at i;obtain⟨b,a,c⟩:=i;have g:=(G1.1 a).1;have f:x∉p:=λh=>c x h x gk rfl;simp only[gl,gj,not_or];constructor
 .rintro(rfl|⟨b,a,c,j⟩)
  .exact⟨d,f,g⟩
  .exact⟨b,a,j⟩
 .rintro⟨b,a,c⟩;by_cases e:y=x
  .exact .inl e
  .exact .inr ⟨b,a,e,c⟩
theorem VP.first_par_static {U p q:List Nat} {x:Nat} {ox:Oper} (J:ops[x]?=some ox) (y:isStatic ox.op=true) (r:noSel ox.op=true) (i:x∈S) (C:U=p++x::q) (G:U.Nodup) (n:∀e,e∈yd ops.toList x->e∉U):
  ∀(l:List Nat) (acc:Acc) (a:Act) (w:World),(∀s,s∈l->∀os,ops[s]?=some os->noSel os.op=true/\os.apart ops ox=true)->
   VP ro ops Q S U l acc a w->∃v,StEv ops ox a w v/\VP ro ops Q S (p++q) l acc (a.put ox.dst v) w:=by
 intro l;induction l with
 |nil=>
  intro acc a w _ h;obtain⟨I,E,j⟩:=h;obtain⟨g1,g2,g3⟩:=j _ a w E;obtain⟨o,D,d⟩:=g2 x i (λh=>h.2 (by rw[C];simp)) (λe he m=>⟨m,n e he⟩);obtain rfl:o=ox:=by rw[J] at D;exact(V1 D).symm
  rcases d with⟨_,v,z,F⟩|⟨hs,_⟩
  .exact⟨v,z,I,by rw[<-done_step i C G];exact F,j⟩
  .rw[y] at hs;cases hs
 |cons s l K=>
  intro acc a w c h;obtain⟨os,f,u,vs,A,h⟩:=h;obtain⟨g,b⟩:=c s gk os f;obtain⟨v,z,j⟩:=K _ _ _ (λt H=>c t (gp _ H)) h;refine⟨v,(StEv.put b r).1 z,os,f,u,vs,(StEv.put (apart_symm b) g).2 A,?_⟩;obtain⟨_,k,_⟩:=Oper.apart_spec b;rw[<-Act.put_comm a vs v k];exact j.mono _ _ _ _ _ ((AccLe.refl acc).cons λw' B=>(StEv.put (apart_symm b) g).2 B)
theorem VP.first_par_change {U p q:List Nat} {x:Nat} {ox:Oper} (E:ops[x]?=some ox) (z:isStatic ox.op=false) (v:noSel ox.op=true) (H:∀c a w,¬Q (.panic c) a w) (m:x∈S) (B:U=p++x::q) (J:U.Nodup) (r:∀e,e∈yd ops.toList x->e∉U):
  ∀(l:List Nat) (acc:Acc) (a:Act) (w:World),(∀s,s∈l->∀os,ops[s]?=some os->noSel os.op=true/\os.apart ops ox=true)->
   VP ro ops Q S U l acc a w->wpOpIn (FR ro) 0 P ops Q x (λd w'=>(∃u,d=a.put ox.dst u)/\(∀p,p∈acc->p.2 w')/\VP ro ops Q S (p++q) l acc d w') a w:=by
 intro l;induction l with
 |nil=>
  intro acc a w _ h;obtain⟨I,F,i⟩:=h;obtain⟨g1,g2,g3⟩:=i _ a w F;obtain⟨o,D,g⟩:=g2 x m (λh=>h.2 (by rw[B];simp)) (λe he n=>⟨n,r e he⟩);obtain rfl:o=ox:=by rw[E] at D;exact(V1 D).symm
  rcases g with⟨hs,_⟩|⟨_,h⟩
  .rw[z] at hs;cases hs
  .refine wpOpIn_mono (λd w' ⟨hu,A⟩=>⟨hu,(i _ d w' A).1,I,by rw[<-done_step m B J];exact A,i⟩) h
 |cons s l R=>
  intro acc a w b h;obtain⟨os,j,y,vs,O,h⟩:=h;obtain⟨k,f⟩:=b s gk os j;have i:=Kc (K:=λd w'=>(∀p,p∈((s,λw=>StEv ops os a w vs)::acc:Acc)->p.2 w')/\VP ro ops Q S (p++q) l ((s,λw=>StEv ops os a w vs)::acc) d w') E f v H
   (R _ _ _ (λt M=>b t (gp _ M)) h)
  refine wpOpIn_mono (λd w' ⟨⟨u,hu⟩,C,N⟩=>?_) i;refine⟨⟨u,hu⟩,λp L=>C p (gp _ L),os,j,y,vs,?_,?_⟩
  .rw[hu];exact(StEv.put (apart_symm f) k).2 (C _ gk)
  .refine N.mono _ _ _ _ _ ((AccLe.refl _).cons λT G=>?_);rw[hu];exact(StEv.put (apart_symm f) k).2 G
structure RestP (ops:Array Oper) (D:Nat->List Nat) (S l0 l U:List Nat) (listed:Array Bool):Prop where
 sub:∀s,s∈l->s∈l0
 size:listed.size=ops.size
 mem:∀i,i<ops.size->(listed.getD i true=false↔i∈l++U)
 lt:∀i,i∈l++U->i<ops.size
 nodup:(l++U).Nodup
 us:∀i,i∈U->i∈S
 desc:∀s,s∈l->∀x,x∈D s->x∈l++U
 edge:∀s,s∈l->∀x,x∈D s->∃e,e∈yd ops.toList x/\(e=s\/e∈D s)
 pair:(l++U).Pairwise λs x=>s∈l0->x∈D s\/apartN ops s x=true
 stat:∀s,s∈l->Xj ops.toList s=true
 lin:∀pre x post,l++U=pre++x::post->∀e,e∈yd ops.toList x->e∈l++U->e∈pre
 sel:∀i,i∈l++U->qB0 ops.toList i=true
 elt:∀x,x∈l++U->∀e,e∈yd ops.toList x->e<ops.size
theorem Km {p l U:List Nat} {listed:Array Bool} (c:RestP ops D S p l U listed) {i:Nat} (hi:i∈Region.ready .any ops listed):
  i∈l++U/\∀e,e∈yd ops.toList i->e∉l++U:=by
 obtain⟨k,o,j,b⟩:=mem_ready.1 hi;have g:i<ops.size:=(gH.1 j).1;refine⟨(c.mem i g).1 k,λe he a=>?_⟩;obtain⟨d,n,m,rfl⟩:=(mem_edges j).1 he;have h:=b d n m;have f:=(c.mem d.on (c.lt _ a)).2 a;have hs:d.on<listed.size:=by rw[c.size];exact c.lt _ a
 simp[Array.getD,hs] at h f;rw[h] at f;cases f
theorem Z40 {R pre post:List Nat} {i:Nat} (o:R=pre++i::post) (l:R.Nodup) (b:∀pre x post,R=pre++x::post->∀e,e∈yd ops.toList x->e∈R->e∈pre):
  ∀p x q,pre++post=p++x::q->∀e,e∈yd ops.toList x->e∈pre++post->e∈p:=by
 subst o;have k:(pre++post).Sublist (pre++i::post):=pC (pO _) (pG _ _);have j:i∉pre++post:=by
  rw[Gu] at l;obtain⟨_,m,n⟩:=l;rw[gl];rintro(h|h)
  .exact n i h i gk rfl
  .exact(G1.1 m).1 h
 intro p x q r e he f;have g:e∈pre++i::post:=k.subset f;rcases PN.1 r with⟨c,d,a⟩|⟨c,d,a⟩
 .subst d;have:=b (pre++i::c) x q (by rw[a];simp) e he g;rw[gl,gj] at this;rcases this with h|h|h
  .exact Ge _ h
  .subst h;exact absurd f j
  .exact Gv _ h
 .subst d;cases c with
  |nil=>
   simp only[Gk] at a;have:=b (p++[i]) x q (by rw[<-a];simp) e he (by simpa using g);rw[gl] at this;rcases this with h|h
   .exact h
   .rw[gx] at h;subst h;exact absurd f (by simpa using j)
  |cons y c=>
   simp only[GM,Gg] at a;obtain⟨rfl,rfl⟩:=a;exact b p x (c++i::post) (by simp) e he g
theorem RestP.step {r l U m j pre post:List Nat} {i:Nat} {listed:Array Bool} (b:RestP ops D S r l U listed) (n:∀e,e∈yd ops.toList i->e∉l++U)
  (k:l++U=pre++i::post) (d:m++j=pre++post) (g:∀x,x∈m->x∈l) (u:∀x,x∈j->x∈U):RestP ops D S r m j (listed.setIfInBounds i true):=by
 have c:∀x,x∈m++j->x∈l++U:=λx a=>by rw[d] at a;rw[k,gl,gj];rw[gl] at a;exact a.elim .inl λh=> .inr (.inr h)
 have o:=b.nodup;have q:i∉m++j:=by
  rw[d];rw[k,Gu] at o;obtain⟨_,d,t⟩:=o;rw[gl];rintro(h|h)
  .exact t i h i gk rfl
  .exact(G1.1 d).1 h
 have f:∀x,x∈l++U->x≠i->x∈m++j:=by
  intro x a p;rw[k,gl,gj] at a;rw[d,gl];rcases a with h|h|h
  .exact .inl h
  .exact absurd h p
  .exact .inr h
 refine⟨λs hs=>b.sub s (g s hs),by simp[b.size],λx a=>?_,λx a=>b.lt x (c x a),?_,λx a=>b.us x (u x a),λs hs x a=>?_,λs hs=>b.edge s (g s hs),?_,λs hs=>b.stat s (g s hs),?_,λx a=>b.sel x (c x a),λx a=>b.elt x (c x a)⟩
 .by_cases e:i=x
  .subst e;simp only[gX];have:i<listed.size:=by rw[b.size];exact a
   simp[this,q]
  .rw[getD_set_ne true e,b.mem x a];exact⟨λh=>f x h (Ne.symm e),λh=>c x h⟩
 .rw[d];rw[k] at o;exact o.sublist (pC (pO _) (pG _ _))
 .refine f x (b.desc s (g s hs) x a) λe=>?_;subst e;obtain⟨e,he,h|h⟩:=b.edge s (g s hs) x a
  .subst h;exact n e he (Ge _ (g _ hs))
  .exact n e he (b.desc s (g s hs) e h)
 .rw[d];have:=b.pair;rw[k] at this;exact this.sublist (pC (pO _) (pG _ _))
 .rw[d];exact Z40 k o b.lin
theorem VP.any {l0:List Nat} (hQ:∀c a w,¬Q (.panic c) a w):∀(fuel:Nat) (l U:List Nat) (listed:Array Bool) (acc:Acc) (a:Act) (w:World),
  RestP ops D S l0 l U listed->(l++U).length=fuel->VP ro ops Q S U l acc a w->wpAnyIn (FR ro) 0 P .any ops Q fuel listed a w:=by
 intro fuel;induction fuel with
 |zero=>
  intro l U listed acc a w b hlen h;have m:l++U=[]:=gL hlen;obtain⟨rfl,rfl⟩:=List.append_eq_nil_iff.1 m;obtain⟨I,h1,V⟩:=h;refine⟨?_,(V _ a w h1).2.2 λi hi=>⟨hi,by simp⟩⟩;cases hc:Region.ready .any ops listed with
  |nil=>rfl
  |cons x xs=>
   have:=(Km b (i:=x) (by rw[hc];exact gk)).1;simp at this
 |succ fuel ih=>
  intro l U listed acc a w b hlen h;refine⟨λm=>?_,λi hi=>?_⟩
  .cases W:l++U with
   |nil=>rw[W] at hlen;cases hlen
   |cons x r=>
    exfalso;have C:x∈l++U:=by rw[W];exact gk
    obtain⟨o,ho⟩:∃o,ops[x]?=some o:=⟨_,GB (b.lt x C)⟩;have g:x∈Region.ready .any ops listed:=by
     refine mem_ready.2 ⟨(b.mem x (b.lt x C)).2 C,o,ho,λd hd X=>?_⟩;have he:d.on∈yd ops.toList x:=(mem_edges ho).2 ⟨d,hd,X,rfl⟩;by_cases H:d.on<ops.size
     .cases hg:listed.getD d.on false
      .exfalso;have hs:d.on<listed.size:=by rw[b.size];exact H
       have V:listed.getD d.on true=false:=by
        simp[Array.getD,hs] at hg⊢;exact hg
       have h3:=(b.mem d.on H).1 V;have:=b.lin [] x r W d.on he h3;cases this
      .rfl
     .exact absurd (b.elt x C _ he) H
    rw[m] at g;cases g
  .obtain⟨L,j⟩:=Km b hi;obtain⟨_,oi,f,_⟩:=mem_ready.1 hi;have t:=XY (b.sel i L) f;have F:∀s,s∈l->(∃p q,l++U=p++s::q/\i∈q)->∀os,ops[s]?=some os->noSel os.op=true/\os.apart ops oi=true:=by
    intro s hs X os R;refine⟨XY (b.sel s (Ge _ hs)) R,?_⟩;obtain⟨p,q,a1,Y⟩:=X;have hp:=b.pair;rw[a1,List.pairwise_append] at hp;have a0:=(Pb.1 hp.2.1).1 i Y (b.sub s hs);rcases a0 with e|e
    .exfalso;obtain⟨T,K,y|y⟩:=b.edge s hs i e
     .subst y;exact j T K (Ge _ hs)
     .exact j T K (b.desc s hs T y)
    .exact Jh e R f
   have hn:=b.nodup;by_cases G:i∈l
   .obtain⟨pre,post,rfl⟩:=G4 G;have Z:∀s,s∈pre->∃p q,(pre++i::post)++U=p++s::q/\i∈q:=λs hs=>by
     obtain⟨p,q,rfl⟩:=G4 hs;exact⟨p,q++i::post++U,by simp,by simp⟩
    have u:isStatic oi.op=true:=by
     have:=b.stat i G;have O:nth ops.toList i=some oi:=by rw[ZE,gV];exact f
     simpa[Xj,O] using this
    obtain⟨v,B,y⟩:=VP.first_static f t post pre acc a w (λs hs=>F s (by simp[hs]) (Z s hs)) h;have A:RestP ops D S l0 (pre++post) U (listed.setIfInBounds i true):=b.step j (pre:=pre) (post:=post++U) (by simp) (by simp) (λx g=>by
     rw[gl] at g;rw[gl,gj];exact g.elim .inl λh=> .inr (.inr h)) (λx g=>g)
    have M:=ih _ _ _ _ _ _ A (by simp at hlen⊢;omega) y;unfold wpOpIn;simp only[f];unfold StEv at B;split at B
    .rename_i hw;rw[X0 hw];refine⟨λ_ _=>trivial,?_⟩;rw[Zc u,B];exact M
    .rename_i hw;rw[y3 hw];subst B;exact⟨λ_ _=>trivial,M⟩
   .have z:i∈U:=(gl.1 L).resolve_left G;obtain⟨p,q,J⟩:=G4 z;have N:U.Nodup:=(Gu.1 hn).2.1;have A:RestP ops D S l0 l (p++q) (listed.setIfInBounds i true):=b.step j (pre:=l++p) (post:=q) (by rw[J];simp) (by simp) (λx g=>g) (λx g=>by
     rw[gl] at g;rw[J,gl,gj];exact g.elim .inl λh=> .inr (.inr h))
    have k:(l++(p++q)).length=fuel:=by rw[J] at hlen;simp at hlen⊢;omega
    have n:∀s,s∈l->∀os,ops[s]?=some os->noSel os.op=true/\os.apart ops oi=true:=λs hs=>F s hs (by
     obtain⟨p',q',e⟩:=G4 hs;exact⟨p',q'++U,by rw[e];simp,Gv _ z⟩)
    have E:∀e,e∈yd ops.toList i->e∉U:=λe he hm=>j e he (Gv _ hm);cases u:isStatic oi.op
    .have:=VP.first_par_change f u t hQ (b.us i z) J N E l acc a w n h;exact wpOpIn_mono (λa' w' y=>ih _ _ _ _ _ _ A k y.2.2) this
    .obtain⟨v,B,y⟩:=VP.first_par_static f u t (b.us i z) J N E l acc a w n h;have M:=ih _ _ _ _ _ _ A k y;unfold wpOpIn;simp only[f];unfold StEv at B;split at B
     .rename_i hw;rw[X0 hw];refine⟨λ_ _=>trivial,?_⟩;rw[Zc u,B];exact M
     .rename_i hw;rw[y3 hw];subst B;exact⟨λ_ _=>trivial,M⟩
def chkPairP (ops:Array Oper) (D:Nat->List Nat) (S:List Nat):List Nat->Bool
 |[]=>true
 |s::r=>allN (λx=>memN x (D s)||apartN ops s x) r&&(allN (λx=>memN x (D s)||apartN ops s x) S&&chkPairP ops D S r)
theorem chkPairP_spec {c:List Nat}:∀{l:List Nat},(∀s,s∈S->s∉c)->chkPairP ops D S l=true->(l++S).Pairwise λs x=>s∈c->x∈D s\/apartN ops s x=true
 |[],b,_=>by
  rw[Gk];exact List.pairwise_of_forall_mem_list λs hs x _ h=>absurd h (b s hs)
 |s::r,b,h=>by
  simp only[chkPairP,gg] at h;obtain⟨d,e,f⟩:=h;have get:∀{q:List Nat},allN (λx=>memN x (D s)||apartN ops s x) q=true->∀x,x∈q->x∈D s\/apartN ops s x=true:=λg x a=>by
   have:=ZA0.1 g x a;simpa[Gm,memN_iff] using this
  refine Pb.2 ⟨λx a _=>?_,chkPairP_spec b f⟩;rcases gl.1 a with a|a
  .exact get d x a
  .exact get e x a
def chkPar (ops:Array Oper) (D:Nat->List Nat) (l S L:List Nat):Bool:=
 Vk ops.size (l++S)&&(allN (qB0 ops.toList) (l++S)&&(chkLin ops.toList [] (l++S)&&(jW0 ops.toList D l&&(allN (Xj ops.toList) l&&(allN (λs=>allN (λx=>memN x (l++S)) (D s)) l&&
  (chkPairP ops D S l&&allN (λi=>match dstOf ops.toList i with|some d=>memN d L|none=>true) S))))))
theorem x10 {l L:List Nat} (h:chkPar ops D l S L=true):RestP ops D S l l S (Array.replicate ops.size false)/\(l++S).length=ops.size/\(∀i,i∈S->∀o,ops[i]?=some o->∀d,o.dst=some d->d∈L):=by
 simp only[chkPar,Vk,gg] at h;obtain⟨⟨⟨t,u⟩,v,q⟩,w,y,z,A,B,j,k⟩:=h;have c:∀i,i∈l++S->i<ops.size:=λi hi=>by have:=ZA0.1 v i hi;simpa[Pa] using this
 have b:∀i,i<ops.size->i∈l++S:=λi hi=>memN_iff.1 (ZA0.1 t i (gJ.2 hi));have a:=Vl (l++S) [] y;have p:=chkNd_spec q;have m:∀s,s∈S->s∉l:=λs hs n=>(Gu.1 p).2.2 s n s hs rfl;refine⟨⟨λs hs=>hs,by simp,λi hi=>?_,c,chkNd_spec q,λi hi=>hi,λs hs x f=>memN_iff.1 (ZA0.1 (ZA0.1 B s hs) x f),λs hs x f=>?_,chkPairP_spec m j,λs hs=>ZA0.1 A s hs,?_,λi hi=>ZA0.1 w i hi,λx f e he=>?_⟩,gB u,λi hi o F d C=>?_⟩
 .have:=b i hi;simp only[hi,Array.getD,Array.size_replicate,dif_pos,this,iff_true];simp
 .have:=ZA0.1 (ZA0.1 z s hs) x f;obtain⟨e,he,h⟩:=anyN_iff.1 this;refine⟨e,he,?_⟩;rcases Gm _ _▸h with g|g
  .exact .inl (gB g)
  .exact .inr (memN_iff.1 g)
 .intro pre x post n e he _;exact(a pre x post n e he).resolve_left (by simp)
 .obtain⟨pre,post,r⟩:=G4 f;have:=(a pre x post r e he).resolve_left (by simp);exact c e (by rw[r];exact Ge _ this)
 .have:=ZA0.1 k i hi;have E:nth ops.toList i=some o:=by rw[ZE,gV];exact F
  simp only[dstOf,E,C] at this;exact memN_iff.1 this
theorem vsteps_get {L:List Nat} {I:(oA)->List Value->World->Prop} {d:oA} {F:Fr}:∀{r:List Nat},vsteps ops.toList S L I d F w r->∀i,i∈r->∃o,ops[i]?=some o/\o.guard=none/\
  (¬d i->(∀e,e∈yd ops.toList i->e∈S->d e)->cond (isStatic o.op) (vop o.op o.type F w λv w'=>w'=w/\I (λx=>x=i\/d x) (selL L (put F o.dst v)) w) (vop o.op o.type F w λv w'=>I (λx=>x=i\/d x) (selL L (put F o.dst v)) w'))
 |[],_,i,hi=>by cases hi
 |j::r,h,i,hi=>by
  obtain⟨a,b⟩:=h;rcases gj.1 hi with rfl|hi
  .split at a
   .exact a.elim
   .rename_i o g;split at a
    .exact a.elim
    .rename_i c;exact⟨o,Xm g,c,λf k=>impD_iff.1 (a f) λe he=>k e (mem_filt.1 he).1 (mem_filt.1 he).2⟩
  .exact vsteps_get b i hi
theorem kC0 {K:Fr->World->Prop} {L:List Nat} (u:Kr n ops.toList=true) (hL:∀i,i∈S->∀o,ops[i]?=some o->∀d,o.dst=some d->d∈L) (a0:∀t,t∈L->∃i,i∈S/\∃o,ops[i]?=some o/\o.dst=some t):
  ∀(l sk:List Nat) (acc accP:Acc) (f:Fr) (a:Act) (w:World),(∀i,i∈l->Xj ops.toList i=true)->vopsP ops.toList D S L K l sk acc f w->Sim df n f a->k70 sk f->
   AccRel accP acc->(∀p,p∈accP->p.2 w)->
   (∀c E w',Sim df n c E->(∀t,Off ops (l++S) t->c t=f t)->K c w'->Q .normal E w')->VP ro ops Q S S l accP a w:=by
 intro l;induction l with
 |nil=>
  intro sk acc accP f a w _ h hs _ k _ Z;obtain⟨I,h1,U⟩:=h;refine⟨λd a w=> ∃c,Sim df n c a/\(∀t,t∉L->c t=f t)/\I d (selL L c) w,?_,?_⟩
  .have e:(λx=>x∈S/\x∉S)=λ_=>False:=by funext x;exact propext ⟨λh=>h.2 h.1,False.elim⟩
   rw[e];exact⟨f,hs,λ_ _=>rfl,h1⟩
  .rintro d E w' ⟨c,s,J,hI⟩;have h3:=U d _ c w' hI;rw[UR J] at h3;obtain⟨a1,a2,a3⟩:=Xi h3;refine⟨λp' a4=>?_,λi hi hn X=>?_,λV=>?_⟩
   .rcases k p' a4 with h'|⟨p,z,_,hw⟩
    .exact h' w'
    .exact hw w' (a1 p z)
   .obtain⟨o,A,hg,N⟩:=vsteps_get a2 i hi;have T:=N hn X;have G:∀v t,t∉L->put c o.dst v t=f t:=λv t R=>by
     rw[Xk (λe=>R (hL i hi o A t e)),J t R]
    refine⟨o,A,?_⟩;have hw:Region.wanted o (yielded ops E.tmps)=true:=(by simp[Region.wanted,hg]);cases m:isStatic o.op
    .rw[m] at T;simp only[cond] at T;refine .inr ⟨rfl,?_⟩;unfold wpOpIn;simp only[A];rw[X0 hw];exact vop_sound T s λv w'' H=>⟨⟨v,rfl⟩,put c o.dst v,s.put (yU u A) v,G v,H⟩
    .rw[m] at T;simp only[cond] at T;refine .inl ⟨rfl,?_⟩;obtain⟨v,w'',Y,O,H⟩:=ZR m T;subst O;exact⟨v,by unfold StEv;rw[X0 hw,s.eval];exact Y,put c o.dst v,s.put (yU u A) v,G v,H⟩
   .exact Z c E w' s (λt R=>J t λhm=>by obtain⟨i,hi,o,A,hd⟩:=a0 t hm;exact R i (by simpa using hi) o A hd) (impD_iff.1 a3 V)
 |cons i r ih=>
  intro sk acc accP f a w C h hs F k B Z;have U:=C i gk;have g:∀j,j∈r->Xj ops.toList j=true:=λj hj=>C j (gp _ hj);simp only[vopsP] at h;cases A:nth ops.toList i with
  |none=>rw[A] at h;exact h.elim
  |some o=>
   rw[A] at h;have hi:=Xm A;have m:isStatic o.op=true:=(by simpa[Xj,A] using U);have offr:∀x,Off ops (i::r++S) x->Off ops (r++S) x:=λx hx=>QA (λy hy=>gp _ hy) hx;have W:∀x,Off ops (i::r++S) x->o.dst≠some x:=λx hx=>hx i gk o hi;refine⟨o,hi,m,?_⟩;have q:∀v c E w',Sim df n c E->(∀x,Off ops (r++S) x->c x=put f o.dst v x)->K c w'->Q .normal E w':=λv c E w' s R hk=>
    Z c E w' s (λx h=>(R x (offr x h)).trans (Xk (W x h) _ _)) hk
   rcases ZS u hs F h with⟨hw,h⟩|⟨hw,h⟩
   .simp only[ka0,cond] at h;rw[m] at h;cases M:isFree o.op
    .rw[M] at h;obtain⟨v,w',Y,O,H⟩:=ZR m h;subst O;have b:StEv ops o a w' v:=by unfold StEv;rw[X0 hw,hs.eval];exact Y
     refine⟨v,b,ih _ _ _ _ _ _ g H (hs.put (yU u hi) v) (jS F _ _) (k.add λw2 U=>?_) (λp z=>?_) (q v)⟩
     .obtain⟨v',w3,a5,hv',a6⟩:=ZR m U;subst hv';subst a6;unfold StEv;rw[X0 hw,hs.eval];exact a5
     .rcases gj.1 z with rfl|z
      .exact b
      .exact B p z
    .rw[M] at h;obtain⟨v,Y,H⟩:=UV M h;have b:∀w2,StEv ops o a w2 v:=λw2=>by unfold StEv;rw[X0 hw,hs.eval];exact Y w2
     refine⟨v,b w,ih _ _ _ _ _ _ g H (hs.put (yU u hi) v) (jS F _ _) (k.addFree b) (λp z=>?_) (q v)⟩;rcases gj.1 z with rfl|z
     .exact b w
     .exact B p z
   .have b:∀w2,StEv ops o a w2 undef:=λw2=>by unfold StEv;rw[y3 (by simp[hw])]
    refine⟨undef,b w,ih _ _ _ _ _ _ g h (hs.put (yU u hi) undef) (Yy F _) (k.addFree b) (λp z=>?_) (q undef)⟩;rcases gj.1 z with rfl|z
    .exact b w
    .exact B p z
def xQ0 (ops:List Oper) (S L:List Nat):Bool:=allN (λt=>anyN (λi=>match dstOf ops i with|some d=>Nat.beq d t|none=>false) S) L
theorem q60 {id:Nat} {K:Fr->World->Prop} {l L:List Nat} (u:Kr n ops.toList=true) (hm:P.follows .mixedOrders=true) (E:chkPar ops D l S L=true) (s:xQ0 ops.toList S L=true)
  (h:vopsP ops.toList D S L K l [] [] f {w with drawn:=w.drawn+1}) (hs:Sim df n f a)
  (C:∀g q w',Sim df n g q->(∀t,(∀o,o∈ops->o.dst≠some t)->g t=f t)->K g w'->Q .normal q w'):(Code.region id ops true).wpIn (FR ro) 0 P Q a w:=by
 refine wpIn_mono (Q:=onlyN Q) (wpIn_region_any hm ?_) λe a w h=>by cases e<;>first|exact h|exact h.elim
 obtain⟨z,A,B⟩:=x10 E;have r:∀t,t∈L->∃i,i∈S/\∃o,ops[i]?=some o/\o.dst=some t:=λt y=>by
  obtain⟨i,hi,b⟩:=anyN_iff.1 (ZA0.1 s t y);refine⟨i,hi,?_⟩;unfold dstOf at b;cases j:nth ops.toList i with
  |none=>rw[j] at b;cases b
  |some o=>
   rw[j] at b;refine⟨o,Xm j,?_⟩;cases k:o.dst with
   |none=>simp only[k] at b;cases b
   |some d=>simp only[k] at b;rw[gB b]
 refine VP.any (D:=D) (λc a w h=>h) ops.size l S _ [] a _ z A ?_;exact kC0 u B r l [] [] [] f a _ z.stat h hs (λd b=>by cases b) (λp v=>by cases v) (λp v=>by cases v)
   λg q w' x y F=>C g q w' x (λt m=>y t λi _ o j=>m o (pw j)) F
end
end
end Go.Vc
end
