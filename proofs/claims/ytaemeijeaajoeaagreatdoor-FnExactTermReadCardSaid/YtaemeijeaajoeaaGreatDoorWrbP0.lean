import Derived.OrdersIn
import Derived.RangeFuncIn
import Derived.Tactics
import Derived.Laws.Sem
import Derived.KernelRfl
/- A part of the proof. -/
set_option linter.unusedVariables false
set_option linter.unusedSimpArgs false
set_option linter.unnecessarySimpa false
set_option linter.unusedSectionVars false
section
namespace Go.Vc
open Go
abbrev Fr:=Nat→Value
def put (f:Fr) (d:Option Nat) (v:Value):Fr:=
 match d with
 |some d=>fun t=>cond (Nat.beq t d) v (f t)
 |none=>f
def ev (f:Fr):Operand→Value
 | .tmp t=>f t
 | .const v=>v
 | .global g=> .pointer (some ⟨g,0,none⟩)
 | .func k=> .func (.func k) #[] #[]
abbrev FR (ro:Option Nat):Fence:={Fence.wide with round:=ro}
structure Sim (df:List Deferred) (n:Nat) (f:Fr) (a:Act):Prop where
 size:a.tmps.size=n
 defers:a.defers=df
 at_:∀t,a.tmps.getD t undef=f t
theorem Sim.eval {df:List Deferred} {n:Nat} {f:Fr} {a:Act} (h:Sim df n f a):a.eval=ev f:=by
 funext x
 cases x<;>simp only[Act.eval,ev];exact h.at_ _
theorem QA (f:Fr) (d:Nat) (v:Value):put f (some d) v d=v:=by simp[put]
theorem Jd (f:Fr) (d t:Nat) (v:Value) (h:t≠d):put f (some d) v t=f t:=by
 have:Nat.beq t d=false:=by
  cases a:Nat.beq t d;·rfl
  ·exact absurd (Nat.eq_of_beq_eq_true a) h
 simp[put,this]
def V6 (n:Nat) (d:Option Nat):Bool:=match d with|some d=>Nat.blt d n|none=>true
theorem Sim.put {df:List Deferred} {n:Nat} {f:Fr} {a:Act} (h:Sim df n f a) {d:Option Nat} (e:V6 n d=true) (v:Value):Sim df n (put f d v) (a.put d v):=by
 cases d with
 |none=>exact h
 |some d=>
  have b:d<n:=(by simpa[V6,Nat.blt_eq] using e);refine⟨by simp[Act.put,h.size],by simp[Act.put,h.defers],fun t=>?_⟩;by_cases c:t=d
  ·subst c;rw[QA];simp[Act.put,Array.getD_eq_getD_getElem?,h.size,b]
  ·rw[Jd _ _ _ _ c,<-h.at_ t];simp[Act.put,Array.getD_eq_getD_getElem?,Array.getElem?_setIfInBounds_ne (Ne.symm c)]
def ZN {α:Type} (P:Program) (s:Sem α) (w:World) (K:α→World→Prop):Prop:= ∃v w',s.run P w= .ok v w'∧K v w'
class ZP where
 z:List PanicEntry→World→Prop
instance (priority:=low) zNone:ZP:=⟨fun _ _=>False⟩
def retK [ZP] (K:Value→World→Prop) (e:Ending) (w:World):Prop:=
 match e with
 | .returned v=>K v w
 | .panicked c=>ZP.z c w
 | .outgrown=>False
def okFn (P:Program) (g:Nat):Bool:=
 match P.funcs[g]? with
 |some fn=>fn.name != "runtime.NumGoroutine" &&fn.body.isSome
 |none=>false
def vcall [ZP] (P:Program) (g:Nat) (args:Array Value) (w:World) (K:Value→World→Prop):Prop:=
 okFn P g=true∧Calls P g args w (retK K)
def WW [ZP] (P:Program) (l:Nat) (args:Array Value) (w:World) (K:Value→World→Prop):Prop:=
 ∃fn tmps assign body,(Instr.yield l args).run P w= .ok (.round l fn tmps assign body) w∧RoundIn (FR none) 0 P l fn tmps assign body w (retK K)
def vcallv [ZP] (P:Program) (v:Value) (args:Array Value) (w:World) (K:Value→World→Prop):Prop:=
 match v with
 | .func (.func g) first cap=>vcall P g ⟨(first.toList++args.toList)++cap.toList⟩ w K
 | .func (.yield l) first _=>WW P l ⟨first.toList++args.toList⟩ w K
 |_=>False
def vinvoke [ZP] (P:Program) (r:Value) (name:String) (args:Array Value) (w:World) (K:Value→World→Prop):Prop:=
 match r with
 | .iface t v=> ∃g rcv,(method (P.types.size+Made.depth) t v name).run P w= .ok (g,rcv) w∧vcall P g ⟨rcv::args.toList⟩ w K
 |_=>False
def vpick (c a b:Value) (w:World) (K:Value→World→Prop):Prop:=
 match c with
 | .bool true=>K a w
 | .bool false=>K b w
 |_=>False
def vif (c:Value) (A B:Prop):Prop:=
 match c with
 | .bool true=>A
 | .bool false=>B
 |_=>False
def eqG (op:BinOp) (t:TypeId) (c:Bool) (a b:Value):Sem Unit:=eqGuard op t (cond c (.const undef) (.tmp 0)) (.tmp 0) a b
def isC:Operand→Bool| .const _=>true|_=>false
theorem Kl (op:BinOp) (t:TypeId) (x y:Operand) (a b:Value):eqGuard op t x y a b=eqG op t (isC x||isC y) a b:=by
 unfold eqG eqGuard;cases x<;>cases y<;>rfl
def zj (P:Program) (op:BinOp) (t:TypeId) (c:Bool) (a b:Value) (w:World) (K:Value→World→Prop):Prop:=
 ZN P (do eqG op t c a b;binOp op t a b) w K
def vun (P:Program) (op:UnOp) (a:Value) (w:World) (K:Value→World→Prop):Prop:=ZN P (Op.unary op a) w K
def yp (P:Program) (t:TypeId) (w:World) (K:Value→World→Prop):Prop:=ZN P (Instr.alloc t true (.tuple #[])) w K
def xO (P:Program) (t:TypeId) (v:Value) (w:World) (K:Value→World→Prop):Prop:=ZN P (Instr.box t v) w K
def zq (P:Program) (t:TypeId) (ps:List (Nat×Value)) (w:World) (K:Value→World→Prop):Prop:=ZN P (Instr.build t ⟨ps⟩) w K
def vbuildS (P:Program) (t n:Nat) (ps:List (Nat×Value)) (w:World) (K:Value→World→Prop):Prop:=ZN P (Instr.buildSlice t n ⟨ps⟩) w K
def zh (P:Program) (t:TypeId) (a:Value) (w:World) (K:Value→World→Prop):Prop:=ZN P (Instr.loadAt t a) w K
def zn (P:Program) (t:TypeId) (a v:Value) (w:World) (K:Value→World→Prop):Prop:=ZN P (Instr.storeAt t a v) w fun _ w'=>K undef w'
def vnilD (v:Value) (w:World) (K:Value→World→Prop):Prop:=
 match v with
 | .pointer (some a)=>K (.pointer (some a)) w
 | .pointer none=>False
 | .nilIface=>False
 | .nilFunc=>False
 | .func (.func g) a b=>K (.func (.func g) a b) w
 | .func _ _ _=>False
 | .iface t x=>K (.iface t x) w
 |v=>K v w
structure vnil (_P:Program) (v:Value) (w:World) (K:Value→World→Prop):Prop where
 h:vnilD v w K
def qh (P:Program) (s d:TypeId) (v:Value) (w:World) (K:Value→World→Prop):Prop:=ZN P (convert s d v) w K
def Yo (P:Program) (t:TypeId) (v:Value) (w:World) (K:Value→World→Prop):Prop:=ZN P (Instr.makeInterface t v) w K
def vmkF (P:Program) (fn:Fn) (first cap:List Value) (w:World) (K:Value→World→Prop):Prop:=ZN P (Instr.makeFunc fn ⟨first⟩ ⟨cap⟩) w K
def vmkM (P:Program) (t:TypeId) (r:Option Value) (w:World) (K:Value→World→Prop):Prop:=ZN P (Instr.makeMap t r) w K
def vmkS (P:Program) (t:TypeId) (l c:Value) (w:World) (K:Value→World→Prop):Prop:=ZN P (Instr.makeSlice t l c) w K
def yJ (P:Program) (t:TypeId) (x:Value) (lo hi mx:Option Value) (w:World) (K:Value→World→Prop):Prop:=ZN P (Instr.sliceAt t x lo hi mx) w K
def zg (P:Program) (s:TypeId) (x:Value) (f:Nat) (w:World) (K:Value→World→Prop):Prop:=ZN P (Instr.fieldAt s x f) w K
def WX (P:Program) (t:TypeId) (x:Value) (f:Nat) (w:World) (K:Value→World→Prop):Prop:=ZN P (Instr.field t x f) w K
def zv (P:Program) (t:TypeId) (x i:Value) (w:World) (K:Value→World→Prop):Prop:=ZN P (Instr.indexAt t x i) w K
def yn (P:Program) (t:TypeId) (x i:Value) (w:World) (K:Value→World→Prop):Prop:=ZN P (Instr.index t x i) w K
def J7 (P:Program) (t:TypeId) (x i:Value) (ok:Bool) (w:World) (K:Value→World→Prop):Prop:=ZN P (Instr.lookup t x i ok) w K
def jx (P:Program) (t:TypeId) (m k x:Value) (w:World) (K:Value→World→Prop):Prop:=ZN P (Instr.mapUpdate t m k x) w fun _ w'=>K undef w'
def X5 (P:Program) (t:TypeId) (x:Value) (w:World) (K:Value→World→Prop):Prop:=ZN P (Instr.range t x) w K
def JB (P:Program) (it:Value) (s:Bool) (t:TypeId) (w:World) (K:Value→World→Prop):Prop:=ZN P (Instr.next it s t) w K
def KD (P:Program) (it:Value) (w:World) (K:Value→World→Prop):Prop:=ZN P (Instr.entry it) w K
def JE (P:Program) (x:Value) (t u:TypeId) (ok:Bool) (w:World) (K:Value→World→Prop):Prop:=ZN P (Instr.typeAssert x t u ok) w K
def zm (P:Program) (x:Value) (i:Nat) (w:World) (K:Value→World→Prop):Prop:=ZN P (Instr.extract x i) w K
def biSem (b:Builtin) (ts:Array TypeId) (t:TypeId) (args:Array Value):Sem Value:=
 match b with
 | .append=>Builtin.append_ ts t args
 | .cap=>Builtin.cap_ ts t args
 | .clear=>Builtin.clear_ ts t args
 | .copy=>Builtin.copy_ ts t args
 | .delete=>Builtin.delete_ ts t args
 | .len=>Builtin.len_ ts t args
 | .max=>Builtin.max_ ts t args
 | .min=>Builtin.min_ ts t args
 |_=>stuck ""
def vbi (P:Program) (b:Builtin) (ts:List TypeId) (t:TypeId) (args:List Value) (w:World) (K:Value→World→Prop):Prop:=ZN P (biSem b ⟨ts⟩ t ⟨args⟩) w K
def evP (f:Fr):List (Nat×Operand)→List (Nat×Value)
 |[]=>[]
 |p::r=>(p.1,ev f p.2)::evP f r
def evL (f:Fr):List Operand→List Value
 |[]=>[]
 |x::r=>ev f x::evL f r
def evO (f:Fr):Option Operand→Option Value
 |none=>none
 |some x=>some (ev f x)
theorem Wd (f:Fr) (l:List (Nat×Operand)):evP f l=l.map fun p=>(p.1,ev f p.2):=by induction l<;>simp_all[evP]
theorem Xk (f:Fr) (l:List Operand):evL f l=l.map (ev f):=by induction l<;>simp_all[evL]
theorem K7 (f:Fr) (l:Option Operand):evO f l=l.map (ev f):=by cases l<;>rfl
def vop [ZP] (P:Program) (o:Op) (ty:TypeId) (f:Fr) (w:World) (K:Value→World→Prop):Prop:=
 match o with
 | .move x=>K (ev f x) w
 | .assign x=>K (ev f x) w
 | .pick c a b=>vpick (ev f c) (ev f a) (ev f b) w K
 | .alloc t=>yp P t w K
 | .box t x=>xO P t (ev f x) w K
 | .build t ps=>zq P t (evP f ps.toList) w K
 | .buildSlice t n ps=>vbuildS P t n (evP f ps.toList) w K
 | .load t a=>zh P t (ev f a) w K
 | .store t a x=>zn P t (ev f a) (ev f x) w K
 | .nilCheck x=>vnil P (ev f x) w K
 | .binOp op t x y _=>zj P op t (isC x||isC y) (ev f x) (ev f y) w K
 | .unOp op _ x=>vun P op (ev f x) w K
 | .convert s d x=>qh P s d (ev f x) w K
 | .makeInterface t x=>Yo P t (ev f x) w K
 | .makeFunc fn a b=>vmkF P fn (evL f a.toList) (evL f b.toList) w K
 | .makeMap t r=>vmkM P t (evO f r) w K
 | .makeSlice t l c=>vmkS P t (ev f l) (ev f c) w K
 | .slice t x lo hi mx=>yJ P t (ev f x) (evO f lo) (evO f hi) (evO f mx) w K
 | .fieldAddr s x i=>zg P s (ev f x) i w K
 | .field t x i=>WX P t (ev f x) i w K
 | .indexAddr t x i=>zv P t (ev f x) (ev f i) w K
 | .index t x i=>yn P t (ev f x) (ev f i) w K
 | .lookup t x i ok=>J7 P t (ev f x) (ev f i) ok w K
 | .mapUpdate t m k x=>jx P t (ev f m) (ev f k) (ev f x) w K
 | .insert t m k x=>jx P t (ev f m) (ev f k) (ev f x) w K
 | .range t x=>X5 P t (ev f x) w K
 | .next it s=>JB P (ev f it) s ty w K
 | .entry it=>KD P (ev f it) w K
 | .typeAssert x t u ok=>JE P (ev f x) t u ok w K
 | .extract x i=>zm P (ev f x) i w K
 | .call c=>match c.callee with
  | .value x=>vcallv P (ev f x) ⟨evL f c.args.toList⟩ w K
  | .invoke r name=>vinvoke P (ev f r) name ⟨evL f c.args.toList⟩ w K
  | .builtin b=>vbi P b c.argTypes.toList ty (evL f c.args.toList) w K
 |_=>False
def isStatic:Op→Bool
 | .move _| .assign _| .pick .. | .build .. | .load .. | .nilCheck _| .binOp .. | .unOp .. | .convert .. | .makeInterface ..
 | .makeFunc .. | .slice .. | .fieldAddr .. | .field .. | .indexAddr .. | .index .. | .lookup .. | .typeAssert .. | .extract ..=>true
 | .call c=>match c.callee with
  | .builtin b=>(match b with| .len=>true| .cap=>true| .max=>true| .min=>true|_=>false)
  |_=>false
 |_=>false
section
variable {P:Program} {f:Fr} {w:World} {K:Value→World→Prop}
theorem yj {s:Sem Value} {v:Value} {w':World} (h:s.run P w= .ok v w'):(do pure (Next.value (<-s)):Sem Next).run P w= .ok (.value v) w':=by
 simp[h]
theorem WU {α β:Type} (g:α->β) (l:Array α):(⟨l.toList.map g⟩:Array β)=l.map g:=by
 apply Array.toList_inj.1;simp
theorem ext1 {α:Type} (x:α) (l:Array α):(#[x]++l).extract 1 (#[x]++l).size=l:=by
 apply Array.toList_inj.1;simp
theorem Vv {v:Value} {Kn:Value->World->Prop} (h:vnil P v w Kn):Kn v w/\∀{ρ:Operand->Value} {x:Operand} {d:Option Tmp} {ty:TypeId} {p:String} {e:Array Edge} {g:Option (Nat×Bool)},
  ρ x=v->(execOp ρ ⟨d,.nilCheck x,ty,p,e,g⟩).run P w= .ok (.value v) w:=by
 replace h:=h.h;cases v<;>simp only[vnilD] at h
 case pointer a=>
  cases a<;>simp only at h;exact⟨h,fun b=>by simp only[execOp,b];rfl⟩
 case func fn x y=>
  cases fn<;>simp only at h;exact⟨h,fun b=>by simp only[execOp,b];rfl⟩
 all_goals exact⟨h,fun b=>by simp only[execOp,b];rfl⟩
theorem jZ [ZP] {o:Oper} (j:isStatic o.op=true) (h:vop P o.op o.type f w K):
  ∃v w',(execOp (ev f) o).run P w= .ok (.value v) w'/\K v w':=by
 obtain⟨dst,op,type,pos,after,guard⟩:=o;cases op<;>simp only[isStatic,Bool.false_eq_true] at j<;>simp only[vop] at h
 case move x=>exact⟨_,_,rfl,h⟩
 case assign x=>exact⟨_,_,rfl,h⟩
 case pick c a b=>
  unfold vpick at h;split at h
  ·rename_i k;exact⟨_,_,by simp[execOp,k,asBool],h⟩
  ·rename_i k;exact⟨_,_,by simp[execOp,k,asBool],h⟩
  ·exact h.elim
 case build t ps=>
  obtain⟨v,w',e,g⟩:=h;refine⟨v,w',yj ?_,g⟩;rw[<-e,Wd,WU]
 case load t a=>obtain⟨v,w',e,g⟩:=h;exact⟨v,w',yj e,g⟩
 case nilCheck x=>
  have:=Vv h;exact⟨_,_,this.2 rfl,this.1⟩
 case binOp op t x y yt=>
  obtain⟨v,w',e,g⟩:=h;refine⟨v,w',yj ?_,g⟩;rw[Kl];exact e
 case unOp op t x=>obtain⟨v,w',e,g⟩:=h;exact⟨v,w',yj e,g⟩
 case convert s d x=>obtain⟨v,w',e,g⟩:=h;exact⟨v,w',yj e,g⟩
 case makeInterface t x=>obtain⟨v,w',e,g⟩:=h;exact⟨v,w',yj e,g⟩
 case makeFunc fn a b=>
  obtain⟨v,w',e,g⟩:=h;refine⟨v,w',yj ?_,g⟩;rw[<-e,Xk,Xk,WU,WU]
 case slice t x lo l mx=>obtain⟨v,w',e,g⟩:=h;rw[K7,K7,K7] at e;exact⟨v,w',yj e,g⟩
 case fieldAddr s x i=>obtain⟨v,w',e,g⟩:=h;exact⟨v,w',yj e,g⟩
 case field t x i=>obtain⟨v,w',e,g⟩:=h;exact⟨v,w',yj e,g⟩
 case indexAddr t x i=>obtain⟨v,w',e,g⟩:=h;exact⟨v,w',yj e,g⟩
 case index t x i=>obtain⟨v,w',e,g⟩:=h;exact⟨v,w',yj e,g⟩
 case lookup t x i ok=>obtain⟨v,w',e,g⟩:=h;exact⟨v,w',yj e,g⟩
 case typeAssert x t u ok=>obtain⟨v,w',e,g⟩:=h;exact⟨v,w',yj e,g⟩
 case extract x i=>obtain⟨v,w',e,g⟩:=h;exact⟨v,w',yj e,g⟩
 case call c=>
  obtain⟨callee,args,ts⟩:=c;cases callee<;>simp only[Bool.false_eq_true] at j
  case builtin b=>
   simp only at h;obtain⟨v,w',e,g⟩:=h;refine⟨v,w',?_,g⟩;rw[Xk,WU] at e;cases b<;>simp only[Bool.false_eq_true] at j<;>simp only[biSem] at e<;>
    exact yj e
theorem callFunc_run {g:Nat} {args:Array Value} (a:okFn P g=true):(callFunc g args).run P w= .ok (.enter g args) w:=by
 unfold okFn at a;cases b:P.funcs[g]? with
 |none=>simp[b] at a
 |some fn=>
  simp only[b,Bool.and_eq_true,bne_iff_ne,ne_eq,Option.isSome_iff_ne_none] at a;have c: ¬fn.name= "runtime.NumGoroutine" :=a.1;have d: ¬fn.body=none:=a.2;simp[callFunc,program,b,c,d,Sem.run]
theorem jo {ro:Option Nat} {o:Oper} (h:isStatic o.op=true) (ρ:Operand->Value):o.semAt (FR ro).round ρ=execOp ρ o:=
 Oper.semAt_eq ro ρ o fun c e=>by rw[e] at h;cases h
theorem vop_sound [ZP] {ro:Option Nat} {df:List Deferred} {n:Nat} {a:Act} {o:Oper} {next:Act->World->Prop} {Q:Exit->Act->World->Prop} (h:vop P o.op o.type f w K) (B:Sim df n f a)
  (D:∀c w,ZP.z c w->Q (.panic c) a w) (p:∀v w',K v w'->next (a.put o.dst v) w'):o.wpIn (FR ro) 0 P a w next Q:=by
 by_cases i:isStatic o.op=true
 ·obtain⟨v,w',d,q⟩:=jZ i h;refine⟨fun _ _=>trivial,?_⟩;rw[jo i,B.eval,d];exact p _ _ q
 ·refine⟨fun _ _=>trivial,?_⟩;rw[show o.semAt (FR ro).round a.eval=execOp a.eval o from Oper.semAt_eq ro _ o fun c e=>by rw[e] at h;exact h,B.eval];obtain⟨dst,op,type,pos,after,guard⟩:=o;have val:∀{s:Sem Value},(ZN P s w K)->Oper.uponIn (FR ro) 0 P ⟨dst,op,type,pos,after,guard⟩ a next Q ((do pure (Next.value (<-s)):Sem Next).run P w):=by
   intro s ⟨v,w',d,q⟩;rw[yj d];exact p _ _ q
  have skp:∀{s:Sem Unit},(ZN P s w fun _ w'=>K undef w')->Oper.uponIn (FR ro) 0 P ⟨dst,op,type,pos,after,guard⟩ a next Q ((do s;pure Next.skip:Sem Next).run P w):=by
   intro s ⟨v,w',d,q⟩;simp only[Sem.run_bind,d,Result.andThen_ok,Sem.run_pure];exact p _ _ q
  have ent:∀{g:Nat} {args:Array Value},vcall P g args w K->Oper.uponIn (FR ro) 0 P ⟨dst,op,type,pos,after,guard⟩ a next Q ((callFunc g args).run P w):=by
   intro g args ⟨H,A⟩;rw[callFunc_run H];refine⟨fun h=>(by cases h),callsIn_wide (n:=0).2 (Calls.mono A fun e w' he=>?_)⟩;cases e with
   |returned v=>exact p _ _ he
   |panicked c=>exact D c _ he
   |outgrown=>exact he.elim
  cases op<;>simp only[vop] at h<;>(try exact h.elim)<;>(try (exact absurd rfl i))
  case alloc t=>exact val h
  case box t x=>exact val h
  case buildSlice t n ps=>
   rw[vbuildS,Wd,WU] at h;exact val h
  case store t x y=>exact skp h
  case makeMap t r=>rw[K7] at h;exact val h
  case makeSlice t l c=>exact val h
  case mapUpdate t m k x=>exact skp h
  case insert t m k x=>exact skp h
  case range t x=>exact val h
  case next it s=>exact val h
  case entry it=>exact val h
  case call c=>
   obtain⟨callee,args,ts⟩:=c;cases callee with
   |value x=>
    simp only at h;unfold vcallv at h;split at h
    ·rename_i g first cap u
     have j:=ent h;rw[Xk] at j;simp only[execOp,resolve,u,Deferred.ofValue,Sem.run_bind,Sem.run_pure,Result.andThen_ok,invoke];have e:({toList:=first.toList++List.map (ev f) args.toList++cap.toList}:Array Value)=first++args.map (ev f)++cap:=by
      apply Array.toList_inj.1;simp
     rw[<-e];exact j
    ·rename_i l first _ u
     obtain⟨fn,tmps,assign,body,C,d⟩:=h;rw[Xk] at C;simp only[execOp,resolve,u,Deferred.ofValue,Sem.run_bind,Sem.run_pure,Result.andThen_ok,invoke];have e:({toList:=first.toList++List.map (ev f) args.toList}:Array Value)=first++args.map (ev f):=by
      apply Array.toList_inj.1;simp
     rw[<-e,C];refine⟨fun h=>(by cases h),RoundIn.mono (F:=FR ro) d fun e w' he=>?_⟩;cases e with
     |returned v=>exact p _ _ he
     |panicked c=>exact D c _ he
     |outgrown=>exact he.elim
    ·exact h.elim
   |invoke r name=>
    simp only at h;unfold vinvoke at h;split at h
    ·rename_i t v u;obtain⟨g,rcv,hm,A⟩:=h;have j:=ent A;rw[Xk] at j;have e:({toList:=rcv::List.map (ev f) args.toList}:Array Value)= #[rcv]++args.map (ev f):=by
      apply Array.toList_inj.1;simp
     rw[e] at j;have G:=ext1 (Value.iface t v) (args.map (ev f));have E:(#[Value.iface t v]++args.map (ev f))[0]?=some (Value.iface t v):=by rw[<-Array.getElem?_toList];simp
     simp only[execOp,resolve,u,Sem.run_bind,Sem.run_pure,Result.andThen_ok,invoke,E,G,callMethod,program,Sem.run,hm];exact j
    ·exact h.elim
   |builtin b=>
    simp only at h;rw[vbi,Xk,WU] at h;cases b<;>simp only[biSem] at h<;>
     first
     |exact val h
     |(obtain⟨v,w',d,_⟩:=h;simp[stuck] at d)
end
end Go.Vc
end
section
namespace Go.Vc
open Go
def nth {α:Type}:List α→Nat→Option α
 |[],_=>none
 |a::_,0=>some a
 |_::l,n+1=>nth l n
theorem jP {α:Type} (l:List α):∀i,nth l i=l[i]?:=by
 induction l with
 |nil=>intro i;simp[nth]
 |cons a l b=>intro i;cases i<;>simp[nth,b]
def memN (x:Nat):List Nat→Bool
 |[]=>false
 |y::r=>cond (Nat.beq x y) true (memN x r)
theorem memN_iff {x:Nat} {l:List Nat}:memN x l=true↔x∈l:=by
 induction l with
 |nil=>simp[memN]
 |cons y r b=>
  simp only[memN,List.mem_cons];cases a:Nat.beq x y
  ·have:x≠y:=fun e=>by subst e;simp at a
   simp[b,this]
  ·have:=Nat.eq_of_beq_eq_true a;simp[this]
def dstOf (ops:List Oper) (j:Nat):Option Nat:=match nth ops j with|some o=>o.dst|none=>none
def skAdd (d:Option Nat) (sk:List Nat):List Nat:=match d with|some d=>d::sk|none=>sk
def skDel (d:Option Nat):List Nat→List Nat
 |[]=>[]
 |y::r=>match d with|some x=>cond (Nat.beq x y) (skDel (some x) r) (y::skDel (some x) r)|none=>y::skDel none r
def vgd (ops:List Oper) (g:Option (Nat×Bool)) (sk:List Nat) (f:Fr) (run skip:Fr→Prop):Prop:=
 match g with
 |none=>run f
 |some (j,b)=>match dstOf ops j with
  |none=>False
  |some d=>cond (memN d sk) (skip f) (vif (f d)
    (cond b (run (put f (some d) (.bool true))) (skip (put f (some d) (.bool true))))
    (cond b (skip (put f (some d) (.bool false))) (run (put f (some d) (.bool false)))))
abbrev Acc:=List (Nat×(World→Prop))
def fltr (D:Nat→List Nat) (c:Nat):Acc→Acc
 |[]=>[]
 |p::r=>cond (memN c (D p.1)) (fltr D c r) (p::fltr D c r)
def vkeeps:Acc→World→Prop→Prop
 |[],_,X=>X
 |p::r,w,X=>p.2 w∧vkeeps r w X
def isFree:Op→Bool
 | .move _| .assign _| .pick ..=>true
 |_=>false
def Vh [ZP] (P:Program) (dr:Bool) (D:Nat→List Nat) (i:Nat) (o:Oper) (sk:List Nat) (acc:Acc) (f:Fr) (w:World)
  (N:List Nat→Acc→Fr→World→Prop):Prop:=
 cond dr
  (cond (isStatic o.op)
   (cond (isFree o.op)
    (vop P o.op o.type f w fun v w'=>N (skDel o.dst sk) acc (put f o.dst v) w')
    (vop P o.op o.type f w fun v w'=>w'=w∧N (skDel o.dst sk) ((i,fun w2=>vop P o.op o.type f w2 fun v' w3=>v'=v∧w3=w2)::acc) (put f o.dst v) w))
   (vop P o.op o.type f w fun v w'=>vkeeps (fltr D i acc) w' (N (skDel o.dst sk) (fltr D i acc) (put f o.dst v) w')))
  (vop P o.op o.type f w fun v w'=>N (skDel o.dst sk) acc (put f o.dst v) w')
def vops [ZP] (P:Program) (ops:List Oper) (dr:Bool) (D:Nat→List Nat) (K:Fr→World→Prop):List Nat→List Nat→Acc→Fr→World→Prop
 |[],_,_,f,w=>K f w
 |i::r,sk,acc,f,w=>
  match nth ops i with
  |none=>False
  |some o=>vgd ops o.guard sk f
    (fun f=>Vh P dr D i o sk acc f w (vops P ops dr D K r))
    (fun f=>vops P ops dr D K r (skAdd o.dst sk) acc (put f o.dst undef) w)
def Vg (sk:List Nat) (f:Fr):Prop:=∀d,d∈sk→f d=undef
theorem kM {sk:List Nat} {f:Fr} (h:Vg sk f) (d:Option Nat):Vg (skAdd d sk) (put f d undef):=by
 cases d with
 |none=>exact h
 |some d=>
  intro x b;by_cases e:x=d
  ·subst e;exact QA _ _ _
  ·rw[Jd _ _ _ _ e];rcases List.mem_cons.1 b with a|a
   ·exact absurd a e
   ·exact h x a
theorem skDel_none:∀(l:List Nat),skDel none l=l
 |[]=>rfl
 |y::r=>by simp only[skDel,skDel_none r]
theorem KP {d x:Nat} {l:List Nat} (h:x∈skDel (some d) l):x∈l/\x≠d:=by
 induction l with
 |nil=>simp[skDel] at h
 |cons y r b=>
  simp only[skDel] at h;cases c:Nat.beq d y
  ·rw[c] at h;rcases List.mem_cons.1 h with a|a
   ·subst a;exact⟨List.mem_cons_self,fun e=>by subst e;simp at c⟩
   ·exact⟨List.mem_cons_of_mem _ (b a).1,(b a).2⟩
  ·rw[c] at h;exact⟨List.mem_cons_of_mem _ (b h).1,(b h).2⟩
theorem qi {sk:List Nat} {f:Fr} (h:Vg sk f) (d:Option Nat) (v:Value):Vg (skDel d sk) (put f d v):=by
 cases d with
 |none=>rw[skDel_none];exact h
 |some d=>
  intro x c;obtain⟨a,b⟩:=KP c;rw[Jd _ _ _ _ b];exact h x a
theorem K1 {f:Fr} {d:Nat} {v:Value} (h:f d=v):put f (some d) v=f:=by
 funext t
 by_cases e:t=d
 ·subst e;rw[QA,h]
 ·rw[Jd _ _ _ _ e]
def Xb (n:Nat) (ops:List Oper):Bool:=ops.all fun o=>V6 n o.dst
theorem yg {n:Nat} {ops:Array Oper} (h:Xb n ops.toList=true) {i:Nat} {o:Oper} (a:ops[i]?=some o):V6 n o.dst=true:=by
 have:o∈ops.toList:=by
  rw[<-Array.getElem?_toList] at a;exact List.mem_of_getElem? a
 exact(List.all_eq_true.1 h) o this
section
variable {ro:Option Nat} {df:List Deferred} {P:Program} {ops:Array Oper} {n:Nat} {f:Fr} {a:Act} {w:World}
theorem yielded_of (h:Sim df n f a) {j d:Nat} (c:dstOf ops.toList j=some d) (l:d<n):
  yielded ops a.tmps j=(match f d with| .bool b=>some b|_=>none):=by
 unfold yielded;have i:(ops[j]?).bind (·.dst)=some d:=by
  rw[dstOf,jP,Array.getElem?_toList] at c;cases g:ops[j]? with
  |none=>rw[g] at c;cases c
  |some o=>rw[g] at c;exact c
 have k:a.tmps[d]?=some (f d):=by
  have e:d<a.tmps.size:=by rw[h.size];exact l
  have:=h.at_ d;rw[Array.getD_eq_getD_getElem?,Array.getElem?_eq_getElem e] at this;rw[Array.getElem?_eq_getElem e,<-this];rfl
 rw[i,Option.bind_some,k];cases f d<;>rfl
theorem k3 (i:Xb n ops.toList=true) (p:Sim df n f a) {sk:List Nat} (k:Vg sk f) {o:Oper} {run skip:Fr->Prop}
  (h:vgd ops.toList o.guard sk f run skip):
  (Region.wanted o (yielded ops a.tmps)=true/\run f)\/(Region.wanted o (yielded ops a.tmps)=false/\skip f):=by
 unfold vgd at h;unfold Region.wanted;cases l:o.guard with
 |none=>rw[l] at h;exact .inl ⟨rfl,h⟩
 |some jb=>
  obtain⟨j,b⟩:=jb;rw[l] at h;simp only at h⊢;cases c:dstOf ops.toList j with
  |none=>rw[c] at h;exact h.elim
  |some d=>
   rw[c] at h;simp only at h;have m:d<n:=by
    rw[dstOf,jP,Array.getElem?_toList] at c;cases g:ops[j]? with
    |none=>rw[g] at c;cases c
    |some oj=>
     rw[g] at c;have:=yg i g;rw[show oj.dst=some d from c] at this;simpa[V6,Nat.blt_eq] using this
   rw[yielded_of p c m];cases hm:memN d sk
   ·rw[hm] at h;simp only[cond] at h;unfold vif at h;split at h
    ·rename_i e;rw[K1 e] at h;rw[e];cases b
     ·exact .inr ⟨rfl,h⟩
     ·exact .inl ⟨rfl,h⟩
    ·rename_i e;rw[K1 e] at h;rw[e];cases b
     ·exact .inl ⟨rfl,h⟩
     ·exact .inr ⟨rfl,h⟩
    ·exact h.elim
   ·rw[hm] at h;have hu:f d=undef:=k d (memN_iff.1 hm);rw[hu];exact .inr ⟨by cases b<;>rfl,h⟩
theorem Zv {i:Nat} {o:Oper} (h:nth ops.toList i=some o):ops[i]?=some o:=by
 rw[jP,Array.getElem?_toList] at h;exact h
def Off (ops:Array Oper) (l:List Nat) (t:Nat):Prop:=∀i,i∈l→∀o,ops[i]?=some o→o.dst≠some t
theorem Zu {o:Oper} {t:Nat} (h:o.dst≠some t) (f:Fr) (v:Value):put f o.dst v t=f t:=by
 cases a:o.dst with
 |none=>rfl
 |some d=>exact Jd _ _ _ _ (fun e=>h (by rw[a,e]))
theorem Ky [ZP] {D:Nat->List Nat} {K:Fr->World->Prop} {Q:Exit->Act->World->Prop} (e:Xb n ops.toList=true) (F:∀c a w,ZP.z c w->a.defers=df->Q (.panic c) a w):
  ∀(l sk:List Nat) (acc:Acc) (f:Fr) (a:Act) (w:World),vops P ops.toList false D K l sk acc f w->Sim df n f a->Vg sk f->
   (∀d q w',Sim df n d q->(∀t,Off ops l t->d t=f t)->K d w'->Q .normal q w')->wpOpsIn (FR ro) 0 P ops Q l a w:=by
 intro l;induction l with
 |nil=>intro sk acc f a w h g _ x;exact x f a w g (fun _ _=>rfl) h
 |cons i r B=>
  intro sk acc f a w h g m x;simp only[vops] at h;cases A:nth ops.toList i with
  |none=>rw[A] at h;exact h.elim
  |some o=>
   rw[A] at h;have s:=Zv A;simp only[wpOpsIn,s];have offr:∀t,Off ops (i::r) t->Off ops r t:=fun t u j E=>u j (List.mem_cons_of_mem _ E);rcases k3 e g m h with⟨hw,h⟩|⟨hw,h⟩
   ·rw[if_pos hw];simp only[Vh,cond] at h;refine vop_sound h g (fun c w h=>F c _ w h g.defers) fun v w' C=>?_;refine B _ _ _ _ _ C (g.put (yg e s) v) (qi m _ _) fun d q p k u y=>?_;exact x d q p k (fun t b=>(u t (offr t b)).trans (Zu (b i List.mem_cons_self o s) _ _)) y
   ·rw[if_neg (by simp[hw])];refine⟨fun _ _=>trivial,?_⟩;refine B _ _ _ _ _ h (g.put (yg e s) undef) (kM m _) fun d q p k u y=>?_;exact x d q p k (fun t b=>(u t (offr t b)).trans (Zu (b i List.mem_cons_self o s) _ _)) y
def StEv (P:Program) (ops:Array Oper) (o:Oper) (a:Act) (w:World) (v:Value):Prop:=
 if Region.wanted o (yielded ops a.tmps)=true then(execOp a.eval o).run P w= .ok (.value v) w else v=undef
def VD (ro:Option Nat) (P:Program) (ops:Array Oper) (Q:Exit→Act→World→Prop) (D:Nat→List Nat):List Nat→Acc→Act→World→Prop
 |[],_,a,w=>Q .normal a w
 |i::r,acc,a,w=> ∃o,ops[i]?=some o∧
  ((isStatic o.op=true∧∃v,StEv P ops o a w v∧VD ro P ops Q D r ((i,fun w=>StEv P ops o a w v)::acc) (a.put o.dst v) w)∨
   (isStatic o.op=false∧wpOpIn (FR ro) 0 P ops Q i (fun a' w'=>(∃u,a'=a.put o.dst u)∧(∀p,p∈fltr D i acc→p.2 w')∧VD ro P ops Q D r (fltr D i acc) a' w') a w))
def AccLe (acc' acc:Acc):Prop:=∀p',p'∈acc'→∃p,p∈acc∧p.1=p'.1∧∀w,p.2 w→p'.2 w
theorem mem_fltr {D:Nat->List Nat} {c:Nat} {acc:Acc} {p:Nat×(World->Prop)}:p∈fltr D c acc↔p∈acc/\c∉D p.1:=by
 induction acc with
 |nil=>simp[fltr]
 |cons q r e=>
  simp only[fltr];cases hm:memN c (D q.1)
  ·have d:c∉D q.1:=fun h=>by rw[memN_iff.2 h] at hm;cases hm
   simp only[cond,List.mem_cons,e];constructor
   ·rintro(rfl|⟨b,a⟩)
    ·exact⟨.inl rfl,d⟩
    ·exact⟨.inr b,a⟩
   ·rintro⟨rfl|b,a⟩
    ·exact .inl rfl
    ·exact .inr ⟨b,a⟩
  ·have d:c∈D q.1:=memN_iff.1 hm;simp only[cond,e,List.mem_cons];constructor
   ·rintro⟨b,a⟩;exact⟨.inr b,a⟩
   ·rintro⟨rfl|b,a⟩
    ·exact absurd d a
    ·exact⟨b,a⟩
theorem AccLe.fltr {a acc:Acc} (h:AccLe a acc) (D:Nat->List Nat) (c:Nat):AccLe (Go.Vc.fltr D c a) (Go.Vc.fltr D c acc):=by
 intro g b;obtain⟨d,e⟩:=mem_fltr.1 b;obtain⟨p,f,he,hw⟩:=h g d;exact⟨p,mem_fltr.2 ⟨f,by rw[he];exact e⟩,he,hw⟩
theorem AccLe.cons {a acc:Acc} (h:AccLe a acc) {i:Nat} {e c:World->Prop} (he:∀w,e w->c w):AccLe ((i,c)::a) ((i,e)::acc):=by
 intro f b;rcases List.mem_cons.1 b with rfl|b
 ·exact⟨_,List.mem_cons_self,rfl,he⟩
 ·obtain⟨p,d,r⟩:=h f b;exact⟨p,List.mem_cons_of_mem _ d,r⟩
theorem AccLe.refl (acc:Acc):AccLe acc acc:=fun p a=>⟨p,a,rfl,fun _ h=>h⟩
theorem AccLe.drop (acc:Acc) (x:Nat×(World->Prop)):AccLe acc (x::acc):=fun p a=>⟨p,List.mem_cons_of_mem _ a,rfl,fun _ h=>h⟩
variable {Q:Exit→Act→World→Prop} {D:Nat→List Nat}
theorem VD.mono:∀(l:List Nat) (acc b:Acc) (a:Act) (w:World),AccLe b acc->VD ro P ops Q D l acc a w->VD ro P ops Q D l b a w:=by
 intro l;induction l with
 |nil=>intro acc b a w _ h;exact h
 |cons i r f=>
  intro acc b a w hle h;obtain⟨o,g,h⟩:=h;refine⟨o,g,?_⟩;rcases h with⟨c,v,k,h⟩|⟨c,h⟩
  ·exact .inl ⟨c,v,k,f _ _ _ _ (hle.cons fun _ h=>h) h⟩
  ·refine .inr ⟨c,wpOpIn_mono (fun n w' d=>⟨d.1,fun m e=>?_,f _ _ _ _ (hle.fltr D i) d.2.2⟩) h⟩;obtain⟨p,j,_,hw⟩:=hle.fltr D i m e;exact hw _ (d.2.1 p j)
def noSel (o:Op):Bool:=match o with| .select ..=>false| .defer _=>false|_=>true
theorem Qq {o:Op} (h:noSel o=true):∀cs b,o≠ .select cs b:=fun _ _ e=>by subst e;cases h
theorem StEv.put {x s:Oper} {v u:Value} (b:x.apart ops s=true) (d:noSel s.op=true):
  StEv P ops s (a.put x.dst u) w v↔StEv P ops s a w v:=by
 obtain⟨c,_,_⟩:=Oper.apart_spec b;unfold StEv;rw[wanted_put s a x.dst u c,execOp_put s (Qq d) a x.dst u c]
theorem apart_symm {x y:Oper} (h:x.apart ops y=true):y.apart ops x=true:=by
 obtain⟨j,k,g⟩:=Oper.apart_spec h;unfold Oper.apart;cases i:x.dst with
 |none=>
  cases a:y.dst with
  |none=>rfl
  |some d=>
   simp only[Bool.and_eq_true,Bool.not_eq_true',bne_iff_ne,ne_eq,reduceCtorEq,not_false_eq_true,and_true];have:=g d a;simpa using this
 |some e=>
  have he:=j e i;cases a:y.dst with
  |none=>simpa using he
  |some d=>
   have f:=g d a;have b:e≠d:=fun c=>k e i (by rw[a,c]);simp only[Bool.and_eq_true,Bool.not_eq_true',bne_iff_ne,ne_eq,Option.some.injEq];refine⟨⟨by simpa using f,b⟩,by simpa using he⟩
theorem JN (a:Act) (d:Option Tmp) (v:Value):(a.put d v).defers=a.defers:=by cases d<;>rfl
theorem X4 {j:Nat} {os ox:Oper} {v:Value} (B:ops[j]?=some ox) (q:os.apart ops ox=true) (k:noSel ox.op=true)
  (p:∀c a g w,g.defers=a.defers->Q (.panic c) a w->Q (.panic c) g w) {K:Act->World->Prop} {a:Act} {w:World}
  (h:wpOpIn (FR ro) 0 P ops Q j (fun g w'=>(∃u,g=(a.put os.dst v).put ox.dst u)/\K g w') (a.put os.dst v) w):
  wpOpIn (FR ro) 0 P ops Q j (fun g w'=>(∃u,g=a.put ox.dst u)/\K (g.put os.dst v) w') a w:=by
 obtain⟨z,n,C⟩:=Oper.apart_spec q;have t:=Qq k;have s:∀c,ox.op≠ .defer c:=fun c e=>by rw[e] at k;cases k
 unfold wpOpIn at*;simp only[B] at*;rw[wanted_put ox a os.dst v z] at h;split
 ·rename_i hw;simp only[hw,if_true] at h;refine⟨fun _ _=>trivial,?_⟩;replace h:=h.2;have i:∀ρ,ox.semAt (FR ro).round ρ=execOp ρ ox:=fun ρ=>Oper.semAt_eq ro ρ ox s;rw[i,execOp_put ox t a os.dst v z] at h;rw[i];generalize (execOp a.eval ox).run P w=r at*;cases r with
  |ok m w'=>
   cases m<;>simp only[Oper.uponIn] at h⊢
   case value u=>exact⟨⟨u,rfl⟩,by rw[<-Act.put_comm a v u n];exact h.2⟩
   case skip=>exact⟨⟨_,rfl⟩,by rw[<-Act.put_comm a v undef n];exact h.2⟩
   case defer d=>
    obtain⟨⟨u,hu⟩,_⟩:=h;have A:∀(b:Act) (x:Option Tmp) (y:Value),(b.put x y).defers=b.defers:=fun b x y=>(by cases x<;>rfl);have:=congrArg Act.defers hu;simp only[A] at this;exact absurd this (List.cons_ne_self _ _)
   case enter f args=>
    refine⟨h.1,CallsIn.mono h.2 fun e o he=>?_⟩;cases e with
    |returned u=>exact⟨⟨u,rfl⟩,by rw[<-Act.put_comm a v u n];exact he.2⟩
    |panicked c=>exact p _ _ _ _ (JN _ _ _).symm he
    |outgrown=>exact he
   case row row args=>exact⟨h.1,RowsIn.mono h.2 fun u o he=>⟨⟨u,rfl⟩,by rw[<-Act.put_comm a v u n];exact he.2⟩⟩
   case round l fn tmps assign body=>
    refine⟨h.1,RoundIn.mono h.2 fun e o he=>?_⟩;cases e with
    |returned u=>exact⟨⟨u,rfl⟩,by rw[<-Act.put_comm a v u n];exact he.2⟩
    |panicked c=>exact p _ _ _ _ (JN _ _ _).symm he
    |outgrown=>exact he
  |halt x w'=>
   cases x<;>simp only[Oper.uponIn] at h⊢
   case panic u=>exact p _ _ _ _ (JN _ _ _).symm h
 ·rename_i hw;simp only[hw] at h;exact⟨fun _ _=>trivial,⟨_,rfl⟩,by rw[<-Act.put_comm a v undef n];exact h.2.2⟩
theorem VD.first_static {x:Nat} {ox:Oper} (u:ops[x]?=some ox) (k:isStatic ox.op=true) (j:noSel ox.op=true) (post:List Nat):
  ∀(pre:List Nat) (acc:Acc) (a:Act) (w:World),(∀s,s∈pre->∀os,ops[s]?=some os->isStatic os.op=true/\noSel os.op=true/\os.apart ops ox=true)->
   VD ro P ops Q D (pre++x::post) acc a w->∃v,StEv P ops ox a w v/\VD ro P ops Q D (pre++post) acc (a.put ox.dst v) w:=by
 intro pre;induction pre with
 |nil=>
  intro acc a w _ h;obtain⟨o,p,h⟩:=h;obtain rfl:o=ox:=by rw[u] at p;exact(Option.some.inj p).symm
  rcases h with⟨_,v,l,h⟩|⟨d,_⟩
  ·exact⟨v,l,h.mono _ _ _ _ _ (AccLe.drop _ _)⟩
  ·rw[k] at d;cases d
 |cons s pre y=>
  intro acc a w c h;obtain⟨os,e,h⟩:=h;obtain⟨g,f,b⟩:=c s List.mem_cons_self os e;rcases h with⟨_,vs,m,h⟩|⟨d,_⟩
  ·obtain⟨v,l,q⟩:=y _ _ _ (fun t r=>c t (List.mem_cons_of_mem _ r)) h;refine⟨v,(StEv.put b j).1 l,os,e,.inl ⟨g,vs,(StEv.put (apart_symm b) f).2 m,?_⟩⟩;obtain⟨_,i,_⟩:=Oper.apart_spec b;rw[<-Act.put_comm a vs v i];exact q.mono _ _ _ _ _ ((AccLe.refl acc).cons fun w' n=>(StEv.put (apart_symm b) f).2 n)
  ·rw[g] at d;cases d
theorem VD.first_change {x:Nat} {ox:Oper} (y:ops[x]?=some ox) (n:isStatic ox.op=false) (m:noSel ox.op=true) (B:∀c a b w,b.defers=a.defers->Q (.panic c) a w->Q (.panic c) b w) (post:List Nat):
  ∀(pre:List Nat) (acc:Acc) (a:Act) (w:World),(∀s,s∈pre->x∉D s/\∀os,ops[s]?=some os->isStatic os.op=true/\noSel os.op=true/\os.apart ops ox=true)->
   VD ro P ops Q D (pre++x::post) acc a w->
   wpOpIn (FR ro) 0 P ops Q x (fun b w'=>(∃u,b=a.put ox.dst u)/\(∀p,p∈fltr D x acc->p.2 w')/\VD ro P ops Q D (pre++post) (fltr D x acc) b w') a w:=by
 intro pre;induction pre with
 |nil=>
  intro acc a w _ h;obtain⟨o,r,h⟩:=h;obtain rfl:o=ox:=by rw[y] at r;exact(Option.some.inj r).symm
  rcases h with⟨g,_⟩|⟨_,h⟩
  ·rw[n] at g;cases g
  ·exact h
 |cons s pre H=>
  intro acc a w d h;obtain⟨os,i,h⟩:=h;obtain⟨q,f⟩:=d s List.mem_cons_self;obtain⟨k,j,e⟩:=f os i;rcases h with⟨_,vs,G,h⟩|⟨g,_⟩
  ·have z:=X4 (K:=fun b w'=>(∀p,p∈fltr D x ((s,fun w=>StEv P ops os a w vs)::acc)->p.2 w')/\VD ro P ops Q D (pre++post) (fltr D x ((s,fun w=>StEv P ops os a w vs)::acc)) b w') y e m B
    (H _ _ _ (fun t F=>d t (List.mem_cons_of_mem _ F)) h)
   have C:fltr D x ((s,fun w=>StEv P ops os a w vs)::acc)=(s,fun w=>StEv P ops os a w vs)::fltr D x acc:=by
    have:memN x (D s)=false:=by
     cases hm:memN x (D s)
     ·rfl
     ·exact absurd (memN_iff.1 hm) q
    simp[fltr,this]
   refine wpOpIn_mono (fun b w' ⟨⟨u,hu⟩,l,v⟩=>?_) z;rw[C] at l v;refine⟨⟨u,hu⟩,fun p E=>l p (List.mem_cons_of_mem _ E),os,i,.inl ⟨k,vs,?_,?_⟩⟩
   ·rw[hu];exact(StEv.put (apart_symm e) j).2 (l _ List.mem_cons_self)
   ·refine v.mono _ _ _ _ _ ((AccLe.refl _).cons fun I A=>?_);rw[hu];exact(StEv.put (apart_symm e) j).2 A
  ·rw[k] at g;cases g
def zK (ops:List Oper) (x:Nat):List Nat:=match nth ops x with|some o=>(o.after.toList.filter (Region.binds .any)).map (·.on)|none=>[]
def anyN (p:Nat→Bool):List Nat→Bool|[]=>false|x::r=>cond (p x) true (anyN p r)
def allN (p:Nat→Bool):List Nat→Bool|[]=>true|x::r=>cond (p x) (allN p r) false
theorem W1 {p:Nat->Bool} {l:List Nat}:allN p l=true↔ ∀x,x∈l->p x=true:=by
 induction l with
 |nil=>simp[allN]
 |cons x r a=>cases h:p x<;>simp[allN,h,a]
theorem anyN_iff {p:Nat->Bool} {l:List Nat}:anyN p l=true↔ ∃x,x∈l/\p x=true:=by
 induction l with
 |nil=>simp[anyN]
 |cons x r a=>cases h:p x<;>simp[anyN,h,a]
def apartN (ops:Array Oper) (s x:Nat):Bool:=match nth ops.toList s,nth ops.toList x with|some a,some b=>a.apart ops b|_,_=>false
def Zs (ops:List Oper) (s:Nat):Bool:=match nth ops s with|some a=>isStatic a.op|none=>false
def Ks (ops:List Oper) (s:Nat):Bool:=match nth ops s with|some a=>noSel a.op|none=>false
def chkLin (ops:List Oper):List Nat→List Nat→Bool
 |_,[]=>true
 |seen,x::r=>cond (allN (fun e=>memN e seen) (zK ops x)) (chkLin ops (x::seen) r) false
def chkPair (ops:Array Oper) (D:Nat→List Nat):List Nat→Bool
 |[]=>true
 |s::r=>cond (allN (fun x=>memN x (D s)||(Zs ops.toList s&&apartN ops s x)) r) (chkPair ops D r) false
def V7 (ops:List Oper) (D:Nat→List Nat) (l:List Nat):Bool:=
 allN (fun s=>allN (fun x=>anyN (fun e=>Nat.beq e s||memN e (D s)) (zK ops x)) (D s)) l
def chkNd:List Nat→Bool
 |[]=>true
 |x::r=>cond (memN x r) false (chkNd r)
def Xl (n:Nat) (l:List Nat):Bool:=allN (fun i=>memN i l) (List.range n)&&Nat.beq l.length n&&(allN (fun i=>Nat.blt i n) l&&chkNd l)
def Jl (ops:Array Oper) (D:Nat→List Nat) (l:List Nat):Bool:=
 Xl ops.size l&&allN (Ks ops.toList) l&&chkLin ops.toList [] l&&chkPair ops D l&&V7 ops.toList D l
theorem mem_edges {x:Nat} {o:Oper} (f:ops[x]?=some o) {e:Nat}:e∈zK ops.toList x↔ ∃d,d∈o.after/\Region.binds .any d=true/\d.on=e:=by
 have:nth ops.toList x=some o:=by rw[jP,Array.getElem?_toList];exact f
 simp only[zK,this,List.mem_map,List.mem_filter,Array.mem_toList_iff];constructor
 ·rintro⟨d,⟨a,b⟩,c⟩;exact⟨d,a,b,c⟩
 ·rintro⟨d,a,b,c⟩;exact⟨d,⟨a,b⟩,c⟩
theorem Xm:∀(l seen:List Nat),chkLin ops.toList seen l=true->∀pre x post,l=pre++x::post->∀e,e∈zK ops.toList x->e∈seen\/e∈pre:=by
 intro l;induction l with
 |nil=>intro seen _ pre x post h;cases pre<;>cases h
 |cons y r f=>
  intro seen h pre x post a e he;simp only[chkLin] at h;cases d:allN (fun e=>memN e seen) (zK ops.toList y)
  ·rw[d] at h;cases h
  ·rw[d] at h;cases pre with
   |nil=>
    simp only[List.nil_append,List.cons.injEq] at a;obtain⟨rfl,rfl⟩:=a;exact .inl (memN_iff.1 (W1.1 d e he))
   |cons z pre=>
    simp only[List.cons_append,List.cons.injEq] at a;obtain⟨rfl,a⟩:=a;rcases f _ h pre x post a e he with b|b
    ·rcases List.mem_cons.1 b with rfl|c
     ·exact .inr List.mem_cons_self
     ·exact .inl c
    ·exact .inr (List.mem_cons_of_mem _ b)
theorem chkPair_spec:∀(l:List Nat),chkPair ops D l=true->l.Pairwise fun s x=>x∈D s\/(Zs ops.toList s=true/\apartN ops s x=true):=by
 intro l;induction l with
 |nil=>intro _;exact .nil
 |cons s r c=>
  intro h;simp only[chkPair] at h;cases a:allN (fun x=>memN x (D s)||(Zs ops.toList s&&apartN ops s x)) r
  ·rw[a] at h;cases h
  ·rw[a] at h;refine .cons (fun x b=>?_) (c h);have:=W1.1 a x b;simpa[Bool.or_eq_true,memN_iff] using this
structure Rest (ops:Array Oper) (D:Nat→List Nat) (l:List Nat) (listed:Array Bool):Prop where
 size:listed.size=ops.size
 mem:∀i,i<ops.size→(listed.getD i true=false↔i∈l)
 lt:∀i,i∈l→i<ops.size
 nodup:l.Nodup
 pair:l.Pairwise fun s x=>x∈D s∨(Zs ops.toList s=true∧apartN ops s x=true)
 lin:∀pre x post,l=pre++x::post→∀e,e∈zK ops.toList x→e∈l→e∈pre
 desc:∀s,s∈l→∀x,x∈D s→x∈l
 edge:∀s,s∈l→∀x,x∈D s→∃e,e∈zK ops.toList x∧(e=s∨e∈D s)
 sel:∀i,i∈l→Ks ops.toList i=true
 elt:∀x,x∈l→∀e,e∈zK ops.toList x→e<ops.size
theorem Ys {l:List Nat} {listed:Array Bool} (c:Rest ops D l listed) {i:Nat} (p:i∈Region.ready .any ops listed):
  i∈l/\∀e,e∈zK ops.toList i->e∉l:=by
 obtain⟨k,o,j,b⟩:=mem_ready.1 p;have g:i<ops.size:=(Array.getElem?_eq_some_iff.1 j).1;refine⟨(c.mem i g).1 k,fun e he a=>?_⟩;obtain⟨d,n,m,rfl⟩:=(mem_edges j).1 he;have h:=b d n m;have f:=(c.mem d.on (c.lt _ a)).2 a;have q:d.on<listed.size:=by rw[c.size];exact c.lt _ a
 simp[Array.getD,q] at h f;rw[h] at f;cases f
theorem Rest.step {pre post:List Nat} {i:Nat} {listed:Array Bool} (b:Rest ops D (pre++i::post) listed) (w:i∈Region.ready .any ops listed):
  Rest ops D (pre++post) (listed.setIfInBounds i true):=by
 have a:(pre++post).Sublist (pre++i::post):=List.Sublist.append (List.Sublist.refl _) (List.sublist_cons_self _ _);have l:i∉pre++post:=by
  have:=b.nodup;rw[List.nodup_append] at this;obtain⟨_,u,v⟩:=this;rw[List.mem_append];rintro(h|h)
  ·exact v i h i List.mem_cons_self rfl
  ·exact(List.nodup_cons.1 u).1 h
 have g:∀x,x∈pre++i::post->x≠i->x∈pre++post:=by
  intro x d r;rw[List.mem_append,List.mem_cons] at d;rw[List.mem_append];rcases d with h|h|h
  ·exact .inl h
  ·exact absurd h r
  ·exact .inr h
 have z:i∈pre++i::post:=by simp
 obtain⟨_,o⟩:=Ys b w;refine⟨by simp[b.size],fun x d=>?_,fun x d=>b.lt x (a.subset d),b.nodup.sublist a,b.pair.sublist a,?_,?_,fun s n=>b.edge s (a.subset n),fun x d=>b.sel x (a.subset d),fun x d=>b.elt x (a.subset d)⟩
 ·by_cases e:i=x
  ·subst e;simp only[Array.getD_eq_getD_getElem?];have:i<listed.size:=by rw[b.size];exact d
   simp[this,l]
  ·rw[getD_set_ne true e,b.mem x d];exact⟨fun h=>g x h (Ne.symm e),fun h=>a.subset h⟩
 ·intro p x q A e he k;have m:e∈pre++i::post:=a.subset k;have B:(pre++post).Nodup:=b.nodup.sublist a;rcases List.append_eq_append_iff.1 A with⟨c,j,f⟩|⟨c,j,f⟩
  ·
   subst j;have:=b.lin (pre++i::c) x q (by rw[f];simp) e he m;rw[List.mem_append,List.mem_cons] at this;rcases this with h|h|h
   ·exact List.mem_append_left _ h
   ·subst h;exact absurd k l
   ·exact List.mem_append_right _ h
  ·
   subst j;cases c with
   |nil=>
    simp only[List.nil_append] at f;have:=b.lin (p++[i]) x q (by rw[<-f];simp) e he (by simpa using m);rw[List.mem_append] at this;rcases this with h|h
    ·exact h
    ·rw[List.mem_singleton] at h;subst h;exact absurd k (by simpa using l)
   |cons y c=>
    simp only[List.cons_append,List.cons.injEq] at f;obtain⟨rfl,rfl⟩:=f;exact b.lin p x (c++i::post) (by simp) e he m
 ·intro s n x d;have t:=b.desc s (a.subset n) x d;refine g x t fun e=>?_;subst e;obtain⟨e,he,h|h⟩:=b.edge s (a.subset n) x d
  ·subst h;exact o e he (a.subset n)
  ·exact o e he (b.desc s (a.subset n) e h)
theorem VD.any (U:∀c a F w,F.defers=a.defers->Q (.panic c) a w->Q (.panic c) F w):∀(fuel:Nat) (l:List Nat) (listed:Array Bool) (acc:Acc) (a:Act) (w:World),
  Rest ops D l listed->l.length=fuel->VD ro P ops Q D l acc a w->wpAnyIn (FR ro) 0 P .any ops Q fuel listed a w:=by
 intro fuel;induction fuel with
 |zero=>
  intro l listed acc a w b C h;have:l=[]:=List.eq_nil_of_length_eq_zero C;subst this;refine⟨?_,h⟩;cases W:Region.ready .any ops listed with
  |nil=>rfl
  |cons x xs=>
   have:=(Ys b (i:=x) (by rw[W];exact List.mem_cons_self)).1;cases this
 |succ fuel R=>
  intro l listed acc a w b C h;refine⟨fun A=>?_,fun i I=>?_⟩
  ·
   cases l with
   |nil=>cases C
   |cons x r=>
    exfalso;obtain⟨o,N,_⟩:=h;have O:x∈Region.ready .any ops listed:=by
     refine mem_ready.2 ⟨(b.mem x (b.lt x List.mem_cons_self)).2 List.mem_cons_self,o,N,fun d H V=>?_⟩;have he:d.on∈zK ops.toList x:=(mem_edges N).2 ⟨d,H,V,rfl⟩;by_cases u:d.on<ops.size
     ·cases L:listed.getD d.on false
      ·exfalso;have p:d.on<listed.size:=by rw[b.size];exact u
       have S:listed.getD d.on true=false:=by
        simp[Array.getD,p] at L⊢;exact L
       have T:=(b.mem d.on u).1 S;have:=b.lin [] x r rfl d.on he T;cases this
      ·rfl
     ·exact absurd (b.elt x List.mem_cons_self _ he) u
    rw[A] at O;cases O
  ·obtain⟨J,z⟩:=Ys b I;obtain⟨pre,post,rfl⟩:=List.append_of_mem J;obtain⟨_,oi,j,_⟩:=mem_ready.1 I;have X:=b.nodup;have m:nth ops.toList i=some oi:=by rw[jP,Array.getElem?_toList];exact j
   have q:noSel oi.op=true:=by have:=b.sel i (by simp);simpa[Ks,m] using this
   have n:∀s,s∈pre->i∉D s/\∀os,ops[s]?=some os->isStatic os.op=true/\noSel os.op=true/\os.apart ops oi=true:=by
    intro s p;have k:s∈pre++i::post:=List.mem_append_left _ p;have f:i∉D s:=by
     intro H;obtain⟨e,he,t|t⟩:=b.edge s k i H
     ·subst t;exact z e he k
     ·exact z e he (b.desc s k e t)
    have Y:i∈D s\/(Zs ops.toList s=true/\apartN ops s i=true):=by
     have:=b.pair;rw[List.pairwise_append] at this;exact this.2.2 s p i List.mem_cons_self
    obtain⟨g,G⟩:=Y.resolve_left f;refine⟨f,fun os K=>?_⟩;have y:nth ops.toList s=some os:=by rw[jP,Array.getElem?_toList];exact K
    refine⟨by simpa[Zs,y] using g,by have:=b.sel s k;simpa[Ks,y] using this,by simpa[apartN,y,m] using G⟩
   have B:=b.step I;have hlen:(pre++post).length=fuel:=by simp at C⊢;omega
   cases g:isStatic oi.op
   ·have:=VD.first_change j g q U post pre acc a w (fun s p=>n s p) h;exact wpOpIn_mono (fun F w' t=>R _ _ _ _ _ B hlen t.2.2) this
   ·obtain⟨v,E,t⟩:=VD.first_static j g q post pre acc a w (fun s p=>(n s p).2) h;have M:=R _ _ _ _ _ B hlen t;unfold wpOpIn;simp only[j];unfold StEv at E;split at E
    ·rename_i hw;rw[if_pos hw];refine⟨fun _ _=>trivial,?_⟩;rw[jo g,E];exact M
    ·rename_i hw;rw[if_neg hw];subst E;exact⟨fun _ _=>trivial,M⟩
theorem chkNd_spec:∀{l:List Nat},chkNd l=true->l.Nodup
 |[],_=>List.nodup_nil
 |x::r,h=>by
  simp only[chkNd] at h;cases hm:memN x r
  ·rw[hm] at h;exact List.nodup_cons.2 ⟨fun a=>(by rw[memN_iff.2 a] at hm;cases hm),chkNd_spec h⟩
  ·rw[hm] at h;cases h
theorem Kf {l:List Nat} (h:Jl ops D l=true) (t:∀s x,x∈D s->x∈l):Rest ops D l (Array.replicate ops.size false):=by
 simp only[Jl,Xl,Bool.and_eq_true] at h;obtain⟨⟨⟨⟨⟨⟨k,w⟩,q,r⟩,m⟩,n⟩,o⟩,p⟩:=h;have c:∀i,i<ops.size->i∈l:=fun i a=>memN_iff.1 (W1.1 k i (List.mem_range.2 a));have d:∀i,i∈l->i<ops.size:=fun i a=>by have:=W1.1 q i a;simpa[Nat.blt_eq] using this
 have j:=chkNd_spec r;have b:=Xm l [] n;refine⟨by simp,fun i a=>?_,d,j,chkPair_spec l o,?_,fun s _ x f=>t s x f,?_,fun i a=>W1.1 m i a,?_⟩
 ·simp[a,c i a,Array.getD]
 ·intro pre x post u e he _;exact(b pre x post u e he).resolve_left (by simp)
 ·intro s v x f;have:=W1.1 (W1.1 p s v) x f;obtain⟨e,he,h⟩:=anyN_iff.1 this;refine⟨e,he,?_⟩;rcases Bool.or_eq_true _ _▸h with g|g
  ·exact .inl (Nat.eq_of_beq_eq_true g)
  ·exact .inr (memN_iff.1 g)
 ·intro x f e he;obtain⟨pre,post,rfl⟩:=List.append_of_mem f;have:=(b pre x post rfl e he).resolve_left (by simp);exact d e (List.mem_append_left _ this)
theorem QD [ZP] {o:Oper} (e:isFree o.op=true) {K:Value->World->Prop} (h:vop P o.op o.type f w K):
  ∃v,(∀g,(execOp (ev f) o).run P g= .ok (.value v) g)/\K v w:=by
 obtain⟨dst,op,type,pos,after,guard⟩:=o;cases op<;>simp only[isFree,Bool.false_eq_true] at e<;>simp only[vop] at h
 case move x=>exact⟨_,fun _=>rfl,h⟩
 case assign x=>exact⟨_,fun _=>rfl,h⟩
 case pick c a b=>
  unfold vpick at h;split at h
  ·rename_i d;exact⟨_,fun _=>by simp[execOp,d,asBool],h⟩
  ·rename_i d;exact⟨_,fun _=>by simp[execOp,d,asBool],h⟩
  ·exact h.elim
def AccRel (accP acc:Acc):Prop:=∀p',p'∈accP→(∀w,p'.2 w)∨ ∃p,p∈acc∧p.1=p'.1∧∀w,p.2 w→p'.2 w
theorem AccRel.fltr {accP acc:Acc} (h:AccRel accP acc) (c:Nat):AccRel (Go.Vc.fltr D c accP) (Go.Vc.fltr D c acc):=by
 intro g a;obtain⟨d,e⟩:=mem_fltr.1 a;rcases h g d with b|⟨p,f,he,hw⟩
 ·exact .inl b
 ·exact .inr ⟨p,mem_fltr.2 ⟨f,by rw[he];exact e⟩,he,hw⟩
theorem AccRel.add {accP acc:Acc} (h:AccRel accP acc) {i:Nat} {e b:World->Prop} (he:∀w,e w->b w):AccRel ((i,b)::accP) ((i,e)::acc):=by
 intro d a;rcases List.mem_cons.1 a with rfl|a
 ·exact .inr ⟨_,List.mem_cons_self,rfl,he⟩
 ·exact(h d a).imp id fun⟨p,c,r⟩=>⟨p,List.mem_cons_of_mem _ c,r⟩
theorem AccRel.addFree {accP acc:Acc} (h:AccRel accP acc) {i:Nat} {b:World->Prop} (he:∀w,b w):AccRel ((i,b)::accP) acc:=by
 intro c a;rcases List.mem_cons.1 a with rfl|a
 ·exact .inl he
 ·exact h c a
theorem Zr {acc:Acc} {X:Prop} (h:vkeeps acc w X):(∀p,p∈acc->p.2 w)/\X:=by
 induction acc with
 |nil=>exact⟨(fun p a=>by cases a),h⟩
 |cons q r c=>
  obtain⟨d,b⟩:=h;refine⟨fun p a=>?_,(c b).2⟩;rcases List.mem_cons.1 a with rfl|a
  ·exact d
  ·exact(c b).1 p a
theorem Wm [ZP] {K:Fr->World->Prop} (m:Xb n ops.toList=true) (hz:∀c a w,ZP.z c w->a.defers=df->Q (.panic c) a w):
  ∀(l sk:List Nat) (acc accP:Acc) (f:Fr) (a:Act) (w:World),vops P ops.toList true D K l sk acc f w->Sim df n f a->Vg sk f->
   AccRel accP acc->(∀p,p∈accP->p.2 w)->
   (∀x B w',Sim df n x B->(∀t,Off ops l t->x t=f t)->K x w'->Q .normal B w')->VD ro P ops Q D l accP a w:=by
 intro l;induction l with
 |nil=>intro sk acc accP f a w h q _ _ _ L;exact L f a w q (fun _ _=>rfl) h
 |cons i r J=>
  intro sk acc accP f a w h q s e g L;simp only[vops] at h;cases O:nth ops.toList i with
  |none=>rw[O] at h;exact h.elim
  |some o=>
   rw[O] at h;have y:=Zv O;have offr:∀t,Off ops (i::r) t->Off ops r t:=fun t I j hj=>I j (List.mem_cons_of_mem _ hj);have H:∀t,Off ops (i::r) t->o.dst≠some t:=fun t I=>I i List.mem_cons_self o y;refine⟨o,y,?_⟩;have b:∀v x B w',Sim df n x B->(∀t,Off ops r t->x t=put f o.dst v t)->K x w'->Q .normal B w':=fun v x B w' T I hk=>
    L x B w' T (fun t h=>(I t (offr t h)).trans (Zu (H t h) _ _)) hk
   rcases k3 m q s h with⟨hw,h⟩|⟨hw,h⟩
   ·simp only[Vh,cond] at h;cases u:isStatic o.op
    ·rw[u] at h;refine .inr ⟨rfl,?_⟩;unfold wpOpIn;simp only[y];rw[if_pos hw];refine vop_sound h q (fun c w h=>hz c _ w h q.defers) fun v w' G=>?_;obtain⟨M,N⟩:=Zr G;have A:∀p,p∈fltr D i accP->p.2 w':=fun Y E=>by
      rcases e.fltr i Y E with Z|⟨p,k,_,V⟩
      ·exact Z w'
      ·exact V w' (M p k)
     exact⟨⟨v,rfl⟩,A,J _ _ _ _ _ _ N (q.put (yg m y) v) (qi s _ _) (e.fltr i) A (b v)⟩
    ·rw[u] at h;refine .inl ⟨rfl,?_⟩;cases C:isFree o.op
     ·rw[C] at h;obtain⟨v,w',R,X,G⟩:=jZ u h;subst X;have d:StEv P ops o a w' v:=by unfold StEv;rw[if_pos hw,q.eval];exact R
      refine⟨v,d,J _ _ _ _ _ _ G (q.put (yg m y) v) (qi s _ _) (e.add fun F h2=>?_) (fun p k=>?_) (b v)⟩
      ·obtain⟨v',w3,S,U,W⟩:=jZ u h2;subst U;subst W;unfold StEv;rw[if_pos hw,q.eval];exact S
      ·rcases List.mem_cons.1 k with rfl|k
       ·exact d
       ·exact g p k
     ·rw[C] at h;obtain⟨v,R,G⟩:=QD C h;have d:∀F,StEv P ops o a F v:=fun F=>by unfold StEv;rw[if_pos hw,q.eval];exact R F
      refine⟨v,d w,J _ _ _ _ _ _ G (q.put (yg m y) v) (qi s _ _) (e.addFree d) (fun p k=>?_) (b v)⟩;rcases List.mem_cons.1 k with rfl|k
      ·exact d w
      ·exact g p k
   ·have d:∀F,StEv P ops o a F undef:=fun F=>by unfold StEv;rw[if_neg (by simp[hw])]
    cases u:isStatic o.op
    ·refine .inr ⟨rfl,?_⟩;unfold wpOpIn;simp only[y];rw[if_neg (by simp[hw])];refine⟨fun _ _=>trivial,⟨_,rfl⟩,fun p k=>g p (mem_fltr.1 k).1,?_⟩;exact J _ _ _ _ _ _ h (q.put (yg m y) undef) (kM s _)
      (fun Y E=>e Y (mem_fltr.1 E).1) (fun p k=>g p (mem_fltr.1 k).1) (b undef)
    ·refine .inl ⟨rfl,undef,d w,J _ _ _ _ _ _ h (q.put (yg m y) undef) (kM s _) (e.addFree d) (fun p k=>?_) (b undef)⟩;rcases List.mem_cons.1 k with rfl|k
     ·exact d w
     ·exact g p k
def onlyN [ZP] (df:List Deferred) (Q:Exit→Act→World→Prop):Exit→Act→World→Prop
 | .normal,a,w=>Q .normal a w
 | .panic c,a,w=>ZP.z c w∧a.defers=df
 |_,_,_=>False
theorem JL [ZP] {id:Nat} {K:Fr->World->Prop} (j:Xb n ops.toList=true) {l:List Nat} (r:l=List.range ops.size)
  (h:vops P ops.toList false D K l [] [] f w) (u:Sim df n f a) (x:∀c a w,ZP.z c w->a.defers=df->Q (.panic c) a w)
  (m:∀b g w',Sim df n b g->(∀t,(∀o,o∈ops->o.dst≠some t)->b t=f t)->K b w'->Q .normal g w'):(Code.region id ops false).wpIn (FR ro) 0 P Q a w:=by
 subst r;refine wpIn_region (Ky j x _ [] [] f a w h u (fun d p=>by cases p) fun b g w' k v q=>m b g w' k (fun t e=>v t fun i _ o s=>e o (Array.mem_of_getElem? s)) q)
theorem JM [ZP] {id:Nat} {K:Fr->World->Prop} (q:Xb n ops.toList=true) (hm:P.follows .mixedOrders=true) {l:List Nat} (k:Jl ops D l=true)
  (m:∀s x,x∈D s->x∈l)
  (h:vops P ops.toList true D K l [] [] f {w with drawn:=w.drawn+1}) (B:Sim df n f a) (E:∀c a w,ZP.z c w->a.defers=df->Q (.panic c) a w)
  (v:∀g b w',Sim df n g b->(∀t,(∀o,o∈ops->o.dst≠some t)->g t=f t)->K g w'->Q .normal b w'):(Code.region id ops true).wpIn (FR ro) 0 P Q a w:=by
 refine wpIn_mono (Q:=onlyN df Q) (wpIn_region_any hm ?_) fun e a w h=>by cases e<;>first|exact h|exact E _ _ _ h.1 h.2|exact h.elim
 refine VD.any (D:=D) (fun c a b w e h=>⟨h.1,e.trans h.2⟩) ops.size l _ [] a _ (Kf k m) ?_ ?_
 ·simp only[Jl,Xl,Bool.and_eq_true] at k;exact Nat.eq_of_beq_eq_true k.1.1.1.1.1.2
 ·exact Wm q (fun c a w h e=>⟨h,e⟩) l [] [] [] f a _ h B (fun d m=>by cases m) (fun p r=>by cases r) (fun p r=>by cases r)
   fun g b w' u C y=>v g b w' u (fun t j=>C t fun i _ o A=>j o (Array.mem_of_getElem? A)) y
end
end Go.Vc
end
section
namespace Go.Vc
open Go
inductive OT where
 |nil|no
 |st (i:Nat) (t:OT)
 |alt (i:Nat) (t r:OT)
def vopsT [ZP] (P:Program) (ops:List Oper) (D:Nat→List Nat) (K:Fr→World→Prop):OT→List Nat→Acc→Fr→World→Prop
 | .nil,_,_,f,w=>K f w
 | .no,_,_,_,_=>True
 | .st i t,sk,acc,f,w=>
  match nth ops i with
  |none=>False
  |some o=>vgd ops o.guard sk f
    (fun f=>Vh P true D i o sk acc f w (vopsT P ops D K t))
    (fun f=>vopsT P ops D K t (skAdd o.dst sk) acc (put f o.dst undef) w)
 | .alt i t r,sk,acc,f,w=>
  (match nth ops i with
  |none=>False
  |some o=>vgd ops o.guard sk f
    (fun f=>Vh P true D i o sk acc f w (vopsT P ops D K t))
    (fun f=>vopsT P ops D K t (skAdd o.dst sk) acc (put f o.dst undef) w))∧vopsT P ops D K r sk acc f w
def heads:OT→List Nat
 | .alt i _ r=>i::heads r
 |_=>[]
def isAlt:OT→Bool
 | .alt _ _ _=>true
 | .no=>true
 |_=>false
def rem (i:Nat):List Nat→List Nat
 |[]=>[]
 |x::r=>cond (Nat.beq x i) (rem i r) (x::rem i r)
theorem mem_rem {i x:Nat}:∀{l:List Nat},x∈rem i l↔x∈l/\x≠i
 |[]=>by simp[rem]
 |y::r=>by
  simp only[rem];cases d:Nat.beq y i
  ·have c:y≠i:=fun e=>by subst e;simp at d
   simp only[cond,List.mem_cons,mem_rem (l:=r)];constructor
   ·rintro(rfl|⟨b,a⟩)
    ·exact⟨.inl rfl,c⟩
    ·exact⟨.inr b,a⟩
   ·rintro⟨rfl|b,a⟩
    ·exact .inl rfl
    ·exact .inr ⟨b,a⟩
  ·have c:=Nat.eq_of_beq_eq_true d;simp only[cond,mem_rem (l:=r),List.mem_cons];constructor
   ·rintro⟨b,a⟩;exact⟨.inr b,a⟩
   ·rintro⟨rfl|b,a⟩
    ·exact absurd c a
    ·exact⟨b,a⟩
def rdy (ops:List Oper) (R:List Nat) (i:Nat):Bool:=allN (fun e=>cond (memN e R) false true) (zK ops i)
theorem rdy_iff {ops:List Oper} {R:List Nat} {i:Nat}:rdy ops R i=true↔ ∀e,e∈zK ops i->e∉R:=by
 unfold rdy;rw[W1];constructor
 ·intro h e he a;have:=h e he;rw[memN_iff.2 a] at this;cases this
 ·intro h e he;cases hm:memN e R
  ·rfl
  ·exact absurd (memN_iff.1 hm) (h e he)
def entry (ops:List Oper) (T:OT) (R:List Nat):Bool:=
 match T with
 | .no=>false
 | .alt i t r=>allN (fun x=>cond (rdy ops R x) (memN x (heads (.alt i t r))) true) R
 |_=>true
def okT (ops:Array Oper) (D:Nat→List Nat):OT→List Nat→Bool
 | .nil,R=>match R with|[]=>true|_=>false
 | .no,_=>true
 | .st i t,R=>memN i R&&(Zs ops.toList i&&(rdy ops.toList R i&&(allN (fun x=>Nat.beq x i||(memN x (D i)||apartN ops i x)) R&&(okT ops D t (rem i R)&&entry ops.toList t (rem i R)))))
 | .alt i t r,R=>memN i R&&((match nth ops.toList i with|some o=> !isStatic o.op|none=>false)&&(rdy ops.toList R i&&((okT ops D t (rem i R)&&entry ops.toList t (rem i R))&&(isAlt r&&okT ops D r R))))
def pull (i:Nat):OT→OT
 | .nil=> .nil
 | .no=> .no
 | .st s t=>cond (Nat.beq s i) t (.st s (pull i t))
 | .alt k t r=>cond (Nat.beq k i) t (pull i r)
section
variable {ro:Option Nat} {df:List Deferred} {P:Program} {n:Nat} {ops:Array Oper} {Q:Exit→Act→World→Prop} {D:Nat→List Nat} {a:Act} {f:Fr} {w:World}
def VT (ro:Option Nat) (P:Program) (ops:Array Oper) (Q:Exit→Act→World→Prop) (D:Nat→List Nat):OT→Acc→Act→World→Prop
 | .nil,_,a,w=>Q .normal a w
 | .no,_,_,_=>True
 | .st i t,acc,a,w=> ∃o,ops[i]?=some o∧isStatic o.op=true∧∃v,StEv P ops o a w v∧VT ro P ops Q D t ((i,fun w=>StEv P ops o a w v)::acc) (a.put o.dst v) w
 | .alt i t r,acc,a,w=>(∃o,ops[i]?=some o∧isStatic o.op=false∧wpOpIn (FR ro) 0 P ops Q i (fun a' w'=>(∃u,a'=a.put o.dst u)∧(∀p,p∈fltr D i acc→p.2 w')∧VT ro P ops Q D t (fltr D i acc) a' w') a w)∧VT ro P ops Q D r acc a w
theorem VT.mono:∀(T:OT) (acc b:Acc) (a:Act) (w:World),AccLe b acc->VT ro P ops Q D T acc a w->VT ro P ops Q D T b a w:=by
 intro T;induction T with
 |nil=>intro acc b a w _ h;exact h
 |no=>intro acc b a w _ h;exact h
 |st i t l=>
  intro acc b a w hle h;obtain⟨o,e,c,v,k,h⟩:=h;exact⟨o,e,c,v,k,l _ _ _ _ (hle.cons fun _ h=>h) h⟩
 |alt i t r iht ihr=>
  intro acc b a w hle h;obtain⟨⟨o,e,c,h⟩,j⟩:=h;refine⟨⟨o,e,c,wpOpIn_mono (fun n w' d=>⟨d.1,fun m f=>?_,iht _ _ _ _ (hle.fltr D i) d.2.2⟩) h⟩,ihr _ _ _ _ hle j⟩;obtain⟨p,g,_,hw⟩:=hle.fltr D i m f;exact hw _ (d.2.1 p g)
theorem Qp {i:Nat} {t:OT} {R:List Nat} (h:okT ops D (.st i t) R=true):i∈R/\Zs ops.toList i=true/\(∀e,e∈zK ops.toList i->e∉R)/\(∀x,x∈R->x=i\/x∈D i\/apartN ops i x=true)/\okT ops D t (rem i R)=true/\entry ops.toList t (rem i R)=true:=by
 simp only[okT,Bool.and_eq_true] at h;obtain⟨a,b,c,d,f,g⟩:=h;refine⟨memN_iff.1 a,b,rdy_iff.1 c,fun x j=>?_,f,g⟩;have:=W1.1 d x j;simp only[Bool.or_eq_true] at this;rcases this with e|e|e
 ·exact .inl (Nat.eq_of_beq_eq_true e)
 ·exact .inr (.inl (memN_iff.1 e))
 ·exact .inr (.inr e)
theorem Xc {i:Nat} {t r:OT} {R:List Nat} (h:okT ops D (.alt i t r) R=true):i∈R/\(∃o,ops[i]?=some o/\isStatic o.op=false)/\(∀e,e∈zK ops.toList i->e∉R)/\okT ops D t (rem i R)=true/\entry ops.toList t (rem i R)=true/\isAlt r=true/\okT ops D r R=true:=by
 simp only[okT,Bool.and_eq_true] at h;obtain⟨b,a,c,⟨d,f⟩,g,j⟩:=h;refine⟨memN_iff.1 b,?_,rdy_iff.1 c,d,f,g,j⟩;split at a
 ·rename_i o k;exact⟨o,Zv k,by simpa using a⟩
 ·cases a
theorem heads_no {x:Nat}:∀{T:OT} {R:List Nat},okT ops D T R=true->x∈heads T->∃o,ops[x]?=some o/\isStatic o.op=false
 | .alt i t r,R,h,a=>by
  obtain⟨d,b,e,f,g,j,c⟩:=Xc h;rcases List.mem_cons.1 a with rfl|a
  ·exact b
  ·exact heads_no c a
 | .nil,_,_,a=>by cases a
 | .no,_,_,a=>by cases a
 | .st _ _,_,_,a=>by cases a
theorem jp {T:OT} {R:List Nat} (h:entry ops.toList T R=true) (a:isAlt T=true) {x:Nat} (c:x∈R) (b:∀e,e∈zK ops.toList x->e∉R):x∈heads T:=by
 cases T with
 |nil=>cases a
 |st=>cases a
 |no=>cases h
 |alt i t r=>
 have:=W1.1 h x c;rw[rdy_iff.2 b] at this;exact memN_iff.1 this
structure RestT (ops:Array Oper) (D:Nat→List Nat) (R:List Nat) (listed:Array Bool):Prop where
 size:listed.size=ops.size
 mem:∀i,i<ops.size→(listed.getD i true=false↔i∈R)
 lt:∀i,i∈R→i<ops.size
 nodup:R.Nodup
 desc:∀s,s∈R→∀x,x∈D s→x∈R
 edge:∀s,s∈R→∀x,x∈D s→∃e,e∈zK ops.toList x∧(e=s∨e∈D s)
 sel:∀i,i∈R→Ks ops.toList i=true
 elt:∀x,x∈R→∀e,e∈zK ops.toList x→e<ops.size
theorem RestT.not_desc {R:List Nat} {listed:Array Bool} (h:RestT ops D R listed) {s x:Nat} (b:s∈R) (c:∀e,e∈zK ops.toList x->e∉R):x∉D s:=by
 intro d;obtain⟨e,he,a|a⟩:=h.edge s b x d
 ·subst a;exact c e he b
 ·exact c e he (h.desc s b e a)
theorem rem_nodup {i:Nat}:∀{l:List Nat},l.Nodup->(rem i l).Nodup
 |[],_=>List.nodup_nil
 |x::r,h=>by
  obtain⟨b,a⟩:=List.nodup_cons.1 h;simp only[rem];cases Nat.beq x i
  ·exact List.nodup_cons.2 ⟨fun c=>b (mem_rem.1 c).1,rem_nodup a⟩
  ·exact rem_nodup a
theorem rem_len {i:Nat}:∀{l:List Nat},l.Nodup->i∈l->(rem i l).length+1=l.length
 |[],_,h=>by cases h
 |x::r,h,f=>by
  obtain⟨c,d⟩:=List.nodup_cons.1 h;simp only[rem];cases a:Nat.beq x i
  ·have b:x≠i:=fun e=>by subst e;simp at a
   have:i∈r:=(List.mem_cons.1 f).resolve_left fun e=>b e.symm;simp[rem_len d this]
  ·have b:=Nat.eq_of_beq_eq_true a;subst b;have:rem x r=r:=rem_not c;simp[this]
where
 rem_not {i:Nat}:∀{l:List Nat},i∉l->rem i l=l
  |[],_=>rfl
  |x::r,h=>by
   simp only[List.mem_cons,not_or] at h;simp only[rem];cases a:Nat.beq x i
   ·simp[rem_not h.2]
   ·exact absurd (Nat.eq_of_beq_eq_true a).symm h.1
theorem rem_comm (i j:Nat):∀(l:List Nat),rem i (rem j l)=rem j (rem i l)
 |[]=>rfl
 |x::r=>by
  simp only[rem];cases a:Nat.beq x i<;>cases b:Nat.beq x j<;>simp[rem,a,b,rem_comm i j r]
theorem RestT.step {R:List Nat} {listed:Array Bool} (b:RestT ops D R listed) {i:Nat} (f:i∈R) (d:∀e,e∈zK ops.toList i->e∉R):RestT ops D (rem i R) (listed.setIfInBounds i true):=by
 have sub:∀x,x∈rem i R->x∈R:=fun x a=>(mem_rem.1 a).1;refine⟨by simp[b.size],fun x a=>?_,fun x a=>b.lt x (sub x a),rem_nodup b.nodup,fun s c x a=>?_,fun s c=>b.edge s (sub s c),fun x a=>b.sel x (sub x a),fun x a=>b.elt x (sub x a)⟩
 ·by_cases e:i=x
  ·subst e;simp only[Array.getD_eq_getD_getElem?];have:i<listed.size:=by rw[b.size];exact a
   simp[this,mem_rem]
  ·rw[getD_set_ne true e,b.mem x a,mem_rem];exact⟨fun h=>⟨h,Ne.symm e⟩,fun h=>h.1⟩
 ·refine mem_rem.2 ⟨b.desc s (sub s c) x a,fun e=>?_⟩;subst e;exact b.not_desc (sub s c) d a
theorem okT_pull {i:Nat}:∀{T:OT} {R:List Nat},okT ops D T R=true->entry ops.toList T R=true->i∈R->(∀e,e∈zK ops.toList i->e∉R)->(okT ops D (pull i T) (rem i R)=true/\entry ops.toList (pull i T) (rem i R)=true)
 | .nil,R,h,_,d,_=>by
  cases R with
  |nil=>cases d
  |cons=>cases h
 | .no,R,h,he,d,a=>by have:=jp he rfl d a;cases this
 | .st s t,R,h,he,d,a=>by
  obtain⟨p,q,u,l,j,m⟩:=Qp h;simp only[pull];cases f:Nat.beq s i
  ·have c:s≠i:=fun e=>by subst e;simp at f
   have n:i∈rem s R:=mem_rem.2 ⟨d,Ne.symm c⟩;have g:∀e,e∈zK ops.toList i->e∉rem s R:=fun e he hm=>a e he (mem_rem.1 hm).1;obtain⟨g1,g2⟩:=okT_pull j m n g;refine⟨?_,rfl⟩;simp only[cond,okT,Bool.and_eq_true];refine⟨memN_iff.2 (mem_rem.2 ⟨p,c⟩),q,rdy_iff.2 fun e he hm=>u e he (mem_rem.1 hm).1,W1.2 fun x w=>?_,by rw[rem_comm];exact g1,by rw[rem_comm];exact g2⟩;simp only[Bool.or_eq_true];rcases l x (mem_rem.1 w).1 with e|e|e
   ·subst e;exact .inl (Nat.beq_refl _)
   ·exact .inr (.inl (memN_iff.2 e))
   ·exact .inr (.inr e)
  ·have o:=Nat.eq_of_beq_eq_true f;subst o;exact⟨j,m⟩
 | .alt k t r,R,h,he,d,a=>by
  have b:=jp he rfl d a;exact go (T:= .alt k t r) h b
where
 go {i:Nat}:∀{T:OT} {R:List Nat},okT ops D T R=true->i∈heads T->(okT ops D (pull i T) (rem i R)=true/\entry ops.toList (pull i T) (rem i R)=true)
  | .alt k t r,R,h,b=>by
   obtain⟨p,q,u,l,j,m,v⟩:=Xc h;simp only[pull];cases f:Nat.beq k i
   ·have c:k≠i:=fun e=>by subst e;simp at f
    exact go v ((List.mem_cons.1 b).resolve_left fun e=>c e.symm)
   ·have o:=Nat.eq_of_beq_eq_true f;subst o;exact⟨l,j⟩
  | .nil,_,_,b=>by cases b
  | .no,_,_,b=>by cases b
  | .st _ _,_,_,b=>by cases b
theorem Yw {s x:Nat} (h:apartN ops s x=true) {os ox:Oper} (c:ops[s]?=some os) (d:ops[x]?=some ox):os.apart ops ox=true:=by
 have a:nth ops.toList s=some os:=by rw[jP,Array.getElem?_toList];exact c
 have b:nth ops.toList x=some ox:=by rw[jP,Array.getElem?_toList];exact d
 simpa[apartN,a,b] using h
theorem ZV {s:Nat} (h:Ks ops.toList s=true) {os:Oper} (b:ops[s]?=some os):noSel os.op=true:=by
 have a:nth ops.toList s=some os:=by rw[jP,Array.getElem?_toList];exact b
 simpa[Ks,a] using h
theorem VT.first_static {x:Nat} {ox:Oper} (F:ops[x]?=some ox) (B:isStatic ox.op=true) (z:noSel ox.op=true):
  ∀(T:OT) (R:List Nat) (acc:Acc) (a:Act) (w:World),okT ops D T R=true->entry ops.toList T R=true->x∈R->(∀e,e∈zK ops.toList x->e∉R)->(∀s,s∈R->x∉D s)->(∀s,s∈R->Ks ops.toList s=true)->
   VT ro P ops Q D T acc a w->∃v,StEv P ops ox a w v/\VT ro P ops Q D (pull x T) acc (a.put ox.dst v) w:=by
 intro T;induction T with
 |nil=>
  intro R acc a w h _ f _ _ _ _;cases R with
  |nil=>cases f
  |cons=>cases h
 |no=>
  intro R acc a w h he f b _ _ _;have:=jp he rfl f b;cases this
 |alt k t r _ _=>
  intro R acc a w h he f b _ _ _;obtain⟨o,J,I⟩:=heads_no h (jp he rfl f b);rw[F] at J;have:=Option.some.inj J;subst this;rw[B] at I;cases I
 |st s t O=>
  intro R acc a w h he f b j g q;obtain⟨G,S,U,K,L,M⟩:=Qp h;obtain⟨os,c,A,vs,n,q⟩:=q;simp only[pull];cases H:Nat.beq s x
  ·have l:s≠x:=fun e=>by subst e;simp at H
   have d:os.apart ops ox=true:=by
    rcases K x f with e|e|e
    ·exact absurd e.symm l
    ·exact absurd e (j s G)
    ·exact Yw e c F
   have m:=ZV (g s G) c;have sub:∀y,y∈rem s R->y∈R:=fun y p=>(mem_rem.1 p).1;obtain⟨v,C,u⟩:=O (rem s R) _ _ _ L M (mem_rem.2 ⟨f,Ne.symm l⟩) (fun e he hm=>b e he (sub e hm)) (fun y p=>j y (sub y p)) (fun y p=>g y (sub y p)) q;refine⟨v,(StEv.put d z).1 C,os,c,A,vs,(StEv.put (apart_symm d) m).2 n,?_⟩;obtain⟨_,i,_⟩:=Oper.apart_spec d;rw[<-Act.put_comm a vs v i];exact u.mono _ _ _ _ _ ((AccLe.refl acc).cons fun w' E=>(StEv.put (apart_symm d) m).2 E)
  ·have N:=Nat.eq_of_beq_eq_true H;subst N;obtain rfl:os=ox:=by rw[F] at c;exact(Option.some.inj c).symm
   exact⟨vs,n,q.mono _ _ _ _ _ (AccLe.drop _ _)⟩
theorem VT.alt_get {x:Nat} {ox:Oper} (m:ops[x]?=some ox):∀(T:OT) (acc:Acc) (a:Act) (w:World),x∈heads T->VT ro P ops Q D T acc a w->
  wpOpIn (FR ro) 0 P ops Q x (fun c w'=>(∃u,c=a.put ox.dst u)/\(∀p,p∈fltr D x acc->p.2 w')/\VT ro P ops Q D (pull x T) (fltr D x acc) c w') a w:=by
 intro T;induction T with
 |nil=>intro _ _ _ h;cases h
 |no=>intro _ _ _ h;cases h
 |st _ _ _=>intro _ _ _ h;cases h
 |alt k t r _ ihr=>
  intro acc a w h l;obtain⟨⟨o,f,_,g⟩,i⟩:=l;simp only[pull];cases d:Nat.beq k x
  ·have b:k≠x:=fun e=>by subst e;simp at d
   exact ihr acc a w ((List.mem_cons.1 h).resolve_left fun e=>b e.symm) i
  ·have j:=Nat.eq_of_beq_eq_true d;subst j;obtain rfl:o=ox:=by rw[m] at f;exact(Option.some.inj f).symm
   exact g
theorem VT.first_change {x:Nat} {ox:Oper} (z:ops[x]?=some ox) (G:isStatic ox.op=false) (F:noSel ox.op=true) (N:∀c a f w,f.defers=a.defers->Q (.panic c) a w->Q (.panic c) f w):
  ∀(T:OT) (R:List Nat) (acc:Acc) (a:Act) (w:World),okT ops D T R=true->entry ops.toList T R=true->x∈R->(∀e,e∈zK ops.toList x->e∉R)->(∀s,s∈R->x∉D s)->(∀s,s∈R->Ks ops.toList s=true)->
   VT ro P ops Q D T acc a w->wpOpIn (FR ro) 0 P ops Q x (fun f w'=>(∃u,f=a.put ox.dst u)/\(∀p,p∈fltr D x acc->p.2 w')/\VT ro P ops Q D (pull x T) (fltr D x acc) f w') a w:=by
 intro T;induction T with
 |nil=>
  intro R acc a w h _ g _ _ _ _;cases R with
  |nil=>cases g
  |cons=>cases h
 |no=>
  intro R acc a w h he g b _ _ _;have:=jp he rfl g b;cases this
 |alt k t r _ _=>
  intro R acc a w h he g b _ _ j;exact VT.alt_get z _ acc a w (jp he rfl g b) j
 |st s t V=>
  intro R acc a w h he g b m i j;obtain⟨A,W,I,J,L,M⟩:=Qp h;obtain⟨os,d,o,vs,U,j⟩:=j;have n:s≠x:=fun e=>by
   subst e;rw[z] at d;have:=Option.some.inj d;subst this;rw[G] at o;cases o
  have l:os.apart ops ox=true:=by
   rcases J x g with e|e|e
   ·exact absurd e.symm n
   ·exact absurd e (m s A)
   ·exact Yw e d z
  have q:=ZV (i s A) d;have sub:∀y,y∈rem s R->y∈R:=fun y v=>(mem_rem.1 v).1;have H:=m s A;have B:=X4 (K:=fun f w'=>(∀p,p∈fltr D x ((s,fun w=>StEv P ops os a w vs)::acc)->p.2 w')/\VT ro P ops Q D (pull x t) (fltr D x ((s,fun w=>StEv P ops os a w vs)::acc)) f w') z l F N
   (V (rem s R) _ _ _ L M (mem_rem.2 ⟨g,Ne.symm n⟩) (fun e he hm=>b e he (sub e hm)) (fun y v=>m y (sub y v)) (fun y v=>i y (sub y v)) j)
  have O:fltr D x ((s,fun w=>StEv P ops os a w vs)::acc)=(s,fun w=>StEv P ops os a w vs)::fltr D x acc:=by
   have:memN x (D s)=false:=by
    cases hm:memN x (D s)
    ·rfl
    ·exact absurd (memN_iff.1 hm) H
   simp[fltr,this]
  have C:Nat.beq s x=false:=by
   cases C:Nat.beq s x
   ·rfl
   ·exact absurd (Nat.eq_of_beq_eq_true C) n
  simp only[pull,C,cond];refine wpOpIn_mono (fun f w' ⟨⟨u,hu⟩,E,j⟩=>?_) B;rw[O] at E j;refine⟨⟨u,hu⟩,fun p S=>E p (List.mem_cons_of_mem _ S),os,d,o,vs,?_,?_⟩
  ·rw[hu];exact(StEv.put (apart_symm l) q).2 (E _ List.mem_cons_self)
  ·refine j.mono _ _ _ _ _ ((AccLe.refl _).cons fun X I=>?_);rw[hu];exact(StEv.put (apart_symm l) q).2 I
theorem has_ready:∀{T:OT} {R:List Nat},okT ops D T R=true->entry ops.toList T R=true->R≠[]->∃i,i∈R/\∀e,e∈zK ops.toList i->e∉R
 | .nil,R,h,_,d=>by
  cases R with
  |nil=>exact absurd rfl d
  |cons=>cases h
 | .no,_,_,he,_=>by cases he
 | .st s t,_,h,_,_=>by obtain⟨a,c,b,_⟩:=Qp h;exact⟨s,a,b⟩
 | .alt s t r,_,h,_,_=>by obtain⟨a,c,b,_⟩:=Xc h;exact⟨s,a,b⟩
theorem X9 {R:List Nat} {listed:Array Bool} (c:RestT ops D R listed) {i:Nat} (n:i∈Region.ready .any ops listed):
  i∈R/\∀e,e∈zK ops.toList i->e∉R:=by
 obtain⟨k,o,j,b⟩:=mem_ready.1 n;have g:i<ops.size:=(Array.getElem?_eq_some_iff.1 j).1;refine⟨(c.mem i g).1 k,fun e he a=>?_⟩;obtain⟨d,m,l,rfl⟩:=(mem_edges j).1 he;have h:=b d m l;have f:=(c.mem d.on (c.lt _ a)).2 a;have p:d.on<listed.size:=by rw[c.size];exact c.lt _ a
 simp[Array.getD,p] at h f;rw[h] at f;cases f
theorem VT.any (V:∀c a F w,F.defers=a.defers->Q (.panic c) a w->Q (.panic c) F w):∀(fuel:Nat) (T:OT) (R:List Nat) (listed:Array Bool) (acc:Acc) (a:Act) (w:World),
  RestT ops D R listed->okT ops D T R=true->entry ops.toList T R=true->R.length=fuel->VT ro P ops Q D T acc a w->wpAnyIn (FR ro) 0 P .any ops Q fuel listed a w:=by
 intro fuel;induction fuel with
 |zero=>
  intro T R listed acc a w b m he C h;have:R=[]:=List.eq_nil_of_length_eq_zero C;subst this;have H:T= .nil:=by
   cases T with
   |nil=>rfl
   |no=>cases he
   |st s t=>have:=(Qp m).1;cases this
   |alt s t r=>have:=(Xc m).1;cases this
  subst H;refine⟨?_,h⟩;cases X:Region.ready .any ops listed with
  |nil=>rfl
  |cons x xs=>
   have:=(X9 b (i:=x) (by rw[X];exact List.mem_cons_self)).1;cases this
 |succ fuel S=>
  intro T R listed acc a w b m he C h;refine⟨fun A=>?_,fun i L=>?_⟩
  ·exfalso;obtain⟨x,k,J⟩:=has_ready m he (fun e=>by rw[e] at C;cases C);obtain⟨o,N⟩:∃o,ops[x]?=some o:=⟨_,Array.getElem?_eq_getElem (b.lt x k)⟩;have O:x∈Region.ready .any ops listed:=by
    refine mem_ready.2 ⟨(b.mem x (b.lt x k)).2 k,o,N,fun d Y W=>?_⟩;have u:d.on∈zK ops.toList x:=(mem_edges N).2 ⟨d,Y,W,rfl⟩;by_cases n:d.on<ops.size
    ·cases K:listed.getD d.on false
     ·exfalso;have I:d.on<listed.size:=by rw[b.size];exact n
      have U:listed.getD d.on true=false:=by
       simp[Array.getD,I] at K⊢;exact K
      exact J _ u ((b.mem d.on n).1 U)
     ·rfl
    ·exact absurd (b.elt x k _ u) n
   rw[A] at O;cases O
  ·obtain⟨f,g⟩:=X9 b L;obtain⟨_,oi,j,_⟩:=mem_ready.1 L;have l:=ZV (b.sel i f) j;have z:∀s,s∈R->i∉D s:=fun s I=>b.not_desc I g;have B:=b.step f g;have hlen:(rem i R).length=fuel:=by have:=rem_len b.nodup f;omega
   obtain⟨q,y⟩:=okT_pull m he f g;cases p:isStatic oi.op
   ·have:=VT.first_change j p l V T R acc a w m he f g z b.sel h;exact wpOpIn_mono (fun F w' G=>S _ _ _ _ _ _ B q y hlen G.2.2) this
   ·obtain⟨v,E,G⟩:=VT.first_static j p l T R acc a w m he f g z b.sel h;have M:=S _ _ _ _ _ _ B q y hlen G;unfold wpOpIn;simp only[j];unfold StEv at E;split at E
    ·rename_i hw;rw[if_pos hw];refine⟨fun _ _=>trivial,?_⟩;rw[jo p,E];exact M
    ·rename_i hw;rw[if_neg hw];subst E;exact⟨fun _ _=>trivial,M⟩
def QI (ops:Array Oper) (D:Nat→List Nat) (T:OT):Bool:=
 allN (Ks ops.toList) (List.range ops.size)&&(allN (fun x=>allN (fun e=>Nat.blt e ops.size) (zK ops.toList x)) (List.range ops.size)&&(allN (fun s=>allN (fun x=>Nat.blt x ops.size&&anyN (fun e=>Nat.beq e s||memN e (D s)) (zK ops.toList x)) (D s)) (List.range ops.size)&&
  (okT ops D T (List.range ops.size)&&entry ops.toList T (List.range ops.size))))
theorem JI {T:OT} (h:QI ops D T=true):RestT ops D (List.range ops.size) (Array.replicate ops.size false)/\okT ops D T (List.range ops.size)=true/\entry ops.toList T (List.range ops.size)=true:=by
 simp only[QI,Bool.and_eq_true] at h;obtain⟨g,j,f,k,l⟩:=h;refine⟨⟨by simp,fun i a=>by simp[a,Array.getD],fun i a=>List.mem_range.1 a,List.nodup_range,fun s d x b=>?_,fun s d x b=>?_,fun i a=>W1.1 g i a,fun x b e he=>?_⟩,k,l⟩
 ·have:=W1.1 (W1.1 f s d) x b;rw[Bool.and_eq_true] at this;exact List.mem_range.2 (by simpa[Nat.blt_eq] using this.1)
 ·have:=W1.1 (W1.1 f s d) x b;rw[Bool.and_eq_true] at this;obtain⟨e,he,h⟩:=anyN_iff.1 this.2;refine⟨e,he,?_⟩;rcases Bool.or_eq_true _ _▸h with c|c
  ·exact .inl (Nat.eq_of_beq_eq_true c)
  ·exact .inr (memN_iff.1 c)
 ·have:=W1.1 (W1.1 j x b) e he;simpa[Nat.blt_eq] using this
def inT:OT→List Nat
 | .nil=>[]
 | .no=>[]
 | .st i t=>i::inT t
 | .alt i t r=>i::(inT t++inT r)
theorem Y4 {l a:List Nat} (h:∀x,x∈a->x∈l) {t:Nat} (c:Off ops l t):Off ops a t:=fun j b=>c j (h j b)
theorem Vt [ZP] {K:Fr->World->Prop} (B:Xb n ops.toList=true) (hz:∀c a w,ZP.z c w->a.defers=df->Q (.panic c) a w):
  ∀(T:OT) (R sk:List Nat) (acc accP:Acc) (f:Fr) (a:Act) (w:World),okT ops D T R=true->vopsT P ops.toList D K T sk acc f w->Sim df n f a->Vg sk f->
   AccRel accP acc->(∀p,p∈accP->p.2 w)->
   (∀e j w',Sim df n e j->(∀t,Off ops (inT T) t->e t=f t)->K e w'->Q .normal j w')->VT ro P ops Q D T accP a w:=by
 have one:∀(i:Nat) (t:OT) (o:Oper) (sk:List Nat) (acc accP:Acc) (f:Fr) (a:Act) (w:World),ops[i]?=some o->isStatic o.op=false->
   (∀(sk:List Nat) (acc accP:Acc) (f:Fr) (a:Act) (w:World),vopsT P ops.toList D K t sk acc f w->Sim df n f a->Vg sk f->AccRel accP acc->(∀p,p∈accP->p.2 w)->
    (∀e j w',Sim df n e j->(∀x,Off ops (inT t) x->e x=f x)->K e w'->Q .normal j w')->VT ro P ops Q D t accP a w)->
   vgd ops.toList o.guard sk f (fun f=>Vh P true D i o sk acc f w (vopsT P ops.toList D K t)) (fun f=>vopsT P ops.toList D K t (skAdd o.dst sk) acc (put f o.dst undef) w)->
   Sim df n f a->Vg sk f->AccRel accP acc->(∀p,p∈accP->p.2 w)->
   (∀e j w',Sim df n e j->(∀x,Off ops (i::inT t) x->e x=f x)->K e w'->Q .normal j w')->
   wpOpIn (FR ro) 0 P ops Q i (fun j w'=>(∃u,j=a.put o.dst u)/\(∀p,p∈fltr D i accP->p.2 w')/\VT ro P ops Q D t (fltr D i accP) j w') a w:=by
  intro i t o sk acc accP f a w A q S h m k b d G;have offr:∀x,Off ops (i::inT t) x->Off ops (inT t) x:=fun x F=>Y4 (fun y H=>List.mem_cons_of_mem _ H) F;have E:∀x,Off ops (i::inT t) x->o.dst≠some x:=fun x F=>F i List.mem_cons_self o A;have g:∀v e j w',Sim df n e j->(∀x,Off ops (inT t) x->e x=put f o.dst v x)->K e w'->Q .normal j w':=fun v e j w' C N L=>
   G e j w' C (fun x h=>(N x (offr x h)).trans (Zu (E x h) _ _)) L
  rcases k3 B m k h with⟨hw,h⟩|⟨hw,h⟩
  ·simp only[Vh,cond] at h;rw[q] at h;unfold wpOpIn;simp only[A];rw[if_pos hw];refine vop_sound h m (fun c w h=>hz c _ w h m.defers) fun v w' U=>?_;obtain⟨Z,a0⟩:=Zr U;have I:∀p,p∈fltr D i accP->p.2 w':=fun p' M=>by
    rcases b.fltr i p' M with h'|⟨p,s,_,a3⟩
    ·exact h' w'
    ·exact a3 w' (Z p s)
   exact⟨⟨v,rfl⟩,I,S _ _ _ _ _ _ a0 (m.put (yg B A) v) (qi k _ _) (b.fltr i) I (g v)⟩
  ·unfold wpOpIn;simp only[A];rw[if_neg (by simp[hw])];refine⟨fun _ _=>trivial,⟨_,rfl⟩,fun p s=>d p (mem_fltr.1 s).1,?_⟩;exact S _ _ _ _ _ _ h (m.put (yg B A) undef) (kM k _)
    (fun p' M=>b p' (mem_fltr.1 M).1) (fun p s=>d p (mem_fltr.1 s).1) (g undef)
 intro T;induction T with
 |nil=>intro R sk acc accP f a w _ h m _ _ _ G;exact G f a w m (fun _ _=>rfl) h
 |no=>intro R sk acc accP f a w _ h m _ _ _ G;trivial
 |alt i t r iht ihr=>
  intro R sk acc accP f a w Y h m k b d G;obtain⟨h1,⟨o,A,q⟩,h3,h4,V,h6,h7⟩:=Xc Y;obtain⟨hA,hB⟩:=h;have hn:nth ops.toList i=some o:=by rw[jP,Array.getElem?_toList];exact A
  rw[hn] at hA;refine⟨⟨o,A,q,one i t o sk acc accP f a w A q (fun sk acc accP f a w=>iht _ sk acc accP f a w h4) hA m k b d fun e j w' C N L=>G e j w' C (fun x F=>N x ?_) L⟩,ihr _ _ _ _ _ _ _ h7 hB m k b d fun e j w' C N L=>G e j w' C (fun x F=>N x ?_) L⟩
  ·exact Y4 (fun y H=>by rcases List.mem_cons.1 H with rfl|H;exact List.mem_cons_self;exact List.mem_cons_of_mem _ (List.mem_append_left _ H)) F
  ·exact Y4 (fun y H=>List.mem_cons_of_mem _ (List.mem_append_right _ H)) F
 |st i t S=>
  intro R sk acc accP f a w Y h m k b d G;obtain⟨h1,X,h3,h4,V,h6⟩:=Qp Y;simp only[vopsT] at h;cases W:nth ops.toList i with
  |none=>rw[W] at h;exact h.elim
  |some o=>
   rw[W] at h;have A:=Zv W;have q:isStatic o.op=true:=(by simpa[Zs,W] using X);have offr:∀x,Off ops (i::inT t) x->Off ops (inT t) x:=fun x F=>Y4 (fun y H=>List.mem_cons_of_mem _ H) F;have E:∀x,Off ops (i::inT t) x->o.dst≠some x:=fun x F=>F i List.mem_cons_self o A;refine⟨o,A,q,?_⟩;have g:∀v e j w',Sim df n e j->(∀x,Off ops (inT t) x->e x=put f o.dst v x)->K e w'->Q .normal j w':=fun v e j w' C N L=>
    G e j w' C (fun x h=>(N x (offr x h)).trans (Zu (E x h) _ _)) L
   rcases k3 B m k h with⟨hw,h⟩|⟨hw,h⟩
   ·simp only[Vh,cond] at h;rw[q] at h;cases J:isFree o.op
    ·rw[J] at h;obtain⟨v,w',hr,a5,U⟩:=jZ q h;subst a5;have l:StEv P ops o a w' v:=by unfold StEv;rw[if_pos hw,m.eval];exact hr
     refine⟨v,l,S _ _ _ _ _ _ _ V U (m.put (yg B A) v) (qi k _ _) (b.add fun O X=>?_) (fun p s=>?_) (g v)⟩
     ·obtain⟨v',w3,a1,a2,a4⟩:=jZ q X;subst a2;subst a4;unfold StEv;rw[if_pos hw,m.eval];exact a1
     ·rcases List.mem_cons.1 s with rfl|s
      ·exact l
      ·exact d p s
    ·rw[J] at h;obtain⟨v,hr,U⟩:=QD J h;have l:∀O,StEv P ops o a O v:=fun O=>by unfold StEv;rw[if_pos hw,m.eval];exact hr O
     refine⟨v,l w,S _ _ _ _ _ _ _ V U (m.put (yg B A) v) (qi k _ _) (b.addFree l) (fun p s=>?_) (g v)⟩;rcases List.mem_cons.1 s with rfl|s
     ·exact l w
     ·exact d p s
   ·have l:∀O,StEv P ops o a O undef:=fun O=>by unfold StEv;rw[if_neg (by simp[hw])]
    refine⟨undef,l w,S _ _ _ _ _ _ _ V h (m.put (yg B A) undef) (kM k _) (b.addFree l) (fun p s=>?_) (g undef)⟩;rcases List.mem_cons.1 s with rfl|s
    ·exact l w
    ·exact d p s
theorem JK [ZP] {id:Nat} {K:Fr->World->Prop} (k:Xb n ops.toList=true) (hm:P.follows .mixedOrders=true) {T:OT} (v:QI ops D T=true)
  (h:vopsT P ops.toList D K T [] [] f {w with drawn:=w.drawn+1}) (B:Sim df n f a) (E:∀c a w,ZP.z c w->a.defers=df->Q (.panic c) a w)
  (u:∀g b w',Sim df n g b->(∀t,(∀o,o∈ops->o.dst≠some t)->g t=f t)->K g w'->Q .normal b w'):(Code.region id ops true).wpIn (FR ro) 0 P Q a w:=by
 refine wpIn_mono (Q:=onlyN df Q) (wpIn_region_any hm ?_) fun e a w h=>by cases e<;>first|exact h|exact E _ _ _ h.1 h.2|exact h.elim
 obtain⟨r,q,s⟩:=JI v;refine VT.any (D:=D) (fun c a b w e h=>⟨h.1,e.trans h.2⟩) ops.size T _ _ [] a _ r q s (by simp) ?_;exact Vt k (fun c a w h e=>⟨h,e⟩) T _ [] [] [] f a _ q h B (fun d x=>by cases x) (fun p l=>by cases l) (fun p l=>by cases l)
   fun g b w' m C y=>u g b w' m (fun t j=>C t fun i _ o A=>j o (Array.mem_of_getElem? A)) y
end
end Go.Vc
end
section
namespace Go.Vc
open Go
def selL (L:List Nat) (f:Fr):List Value:=match L with|[]=>[]|x::r=>f x::selL r f
def pickL (t:Nat):List Nat→List Value→Value→Value
 |[],_,d=>d
 |x::L,u,d=>cond (Nat.beq t x) (u.headD undef) (pickL t L u.tail d)
def sl:Nat→List Value→Value
 |0,u=>u.headD undef
 |n+1,u=>sl n u.tail
def hav (f:Fr) (L M:List Nat) (u:List Value) (g:Fr):Fr:=fun t=>pickL t L u (cond (memN t M) (g t) (f t))
theorem pickL_selL (t:Nat) (f:Fr) (d:Value):∀(L:List Nat),pickL t L (selL L f) d=if t∈L then f t else d:=by
 intro L;induction L with
 |nil=>simp[pickL]
 |cons x r b=>
  simp only[pickL,selL,List.headD_cons,List.tail_cons,List.mem_cons,b];cases a:Nat.beq t x
  ·have:t≠x:=fun e=>by subst e;simp at a
   simp[this]
  ·have:=Nat.eq_of_beq_eq_true a;subst this;simp
theorem QB {f a:Fr} {L M:List Nat} (h:∀t,t∉M->a t=f t):hav f L M (selL L a) a=a:=by
 funext t
 unfold hav;rw[pickL_selL];split
 ·rfl
 ·cases hm:memN t M
  ·exact(h t fun b=>by rw[memN_iff.2 b] at hm;cases hm).symm
  ·rfl
def filt (S:List Nat):List Nat→List Nat
 |[]=>[]
 |e::r=>cond (memN e S) (e::filt S r) (filt S r)
theorem mem_filt {S:List Nat} {e:Nat}:∀{l:List Nat},e∈filt S l↔e∈l/\e∈S
 |[]=>by simp[filt]
 |x::r=>by
  simp only[filt];cases hm:memN x S
  ·have c:x∉S:=fun h=>by rw[memN_iff.2 h] at hm;cases hm
   simp only[cond,mem_filt (l:=r),List.mem_cons];constructor
   ·rintro⟨b,a⟩;exact⟨.inr b,a⟩
   ·rintro⟨rfl|b,a⟩
    ·exact absurd a c
    ·exact⟨b,a⟩
  ·have c:=memN_iff.1 hm;simp only[cond,List.mem_cons,mem_filt (l:=r)];constructor
   ·rintro(rfl|⟨b,a⟩)
    ·exact⟨.inl rfl,c⟩
    ·exact⟨.inr b,a⟩
   ·rintro⟨rfl|b,a⟩
    ·exact .inl rfl
    ·exact .inr ⟨b,a⟩
def impD (d:Nat→Prop) (X:Prop):List Nat→Prop
 |[]=>X
 |e::r=>d e→impD d X r
theorem impD_iff {d:Nat->Prop} {X:Prop}:∀{l:List Nat},impD d X l↔((∀e,e∈l->d e)->X)
 |[]=>by simp[impD]
 |e::r=>by simp[impD,impD_iff (l:=r)]
def vsteps [ZP] (P:Program) (ops:List Oper) (S L:List Nat) (I:(Nat→Prop)→List Value→World→Prop) (d:Nat→Prop) (F:Fr) (w:World):List Nat→Prop
 |[]=>True
 |i::r=>(match nth ops i with
  |none=>False
  |some o=>match o.guard with
   |some _=>False
   |none=>(d i→False)→impD d (cond (isStatic o.op) (vop P o.op o.type F w fun v w'=>w'=w∧I (fun x=>x=i∨d x) (selL L (put F o.dst v)) w) (vop P o.op o.type F w fun v w'=>I (fun x=>x=i∨d x) (selL L (put F o.dst v)) w')) (filt S (zK ops i)))∧vsteps P ops S L I d F w r
def vpar [ZP] (P:Program) (ops:List Oper) (S L:List Nat) (K:Fr→World→Prop) (acc:Acc) (f:Fr) (w:World):Prop:=
 ∃I:(Nat→Prop)→List Value→World→Prop,I (fun _=>False) (selL L f) w∧
  ∀d u g w,I d u w→vkeeps acc w (vsteps P ops S L I d (hav f L L u g) w S∧impD d (K (hav f L L u g) w) S)
def vopsP [ZP] (P:Program) (ops:List Oper) (D:Nat→List Nat) (S L:List Nat) (K:Fr→World→Prop):List Nat→List Nat→Acc→Fr→World→Prop
 |[],_,acc,f,w=>vpar P ops S L K acc f w
 |i::r,sk,acc,f,w=>
  match nth ops i with
  |none=>False
  |some o=>vgd ops o.guard sk f
    (fun f=>Vh P true D i o sk acc f w (vopsP P ops D S L K r))
    (fun f=>vopsP P ops D S L K r (skAdd o.dst sk) acc (put f o.dst undef) w)
section
variable {ro:Option Nat} {df:List Deferred} {P:Program} {n:Nat} {ops:Array Oper} {Q:Exit→Act→World→Prop} {D:Nat→List Nat} {a:Act} {f:Fr} {w:World} {S:List Nat}
def PStep (ro:Option Nat) (P:Program) (ops:Array Oper) (Q:Exit→Act→World→Prop) (I:(Nat→Prop)→Act→World→Prop) (d:Nat→Prop) (i:Nat) (a:Act) (w:World):Prop:=
 ∃o,ops[i]?=some o∧((isStatic o.op=true∧∃v,StEv P ops o a w v∧I (fun x=>x=i∨d x) (a.put o.dst v) w)∨
  (isStatic o.op=false∧wpOpIn (FR ro) 0 P ops Q i (fun a' w'=>(∃u,a'=a.put o.dst u)∧I (fun x=>x=i∨d x) a' w') a w))
def Good (ro:Option Nat) (P:Program) (ops:Array Oper) (Q:Exit→Act→World→Prop) (S:List Nat) (acc:Acc) (I:(Nat→Prop)→Act→World→Prop):Prop:=
 ∀d a w,I d a w→(∀p,p∈acc→p.2 w)∧(∀i,i∈S→¬d i→(∀e,e∈zK ops.toList i→e∈S→d e)→PStep ro P ops Q I d i a w)∧((∀i,i∈S→d i)→Q .normal a w)
def VPar (ro:Option Nat) (P:Program) (ops:Array Oper) (Q:Exit→Act→World→Prop) (S U:List Nat) (acc:Acc) (a:Act) (w:World):Prop:=
 ∃I:(Nat→Prop)→Act→World→Prop,I (fun x=>x∈S∧x∉U) a w∧Good ro P ops Q S acc I
def VP (ro:Option Nat) (P:Program) (ops:Array Oper) (Q:Exit→Act→World→Prop) (S U:List Nat):List Nat→Acc→Act→World→Prop
 |[],acc,a,w=>VPar ro P ops Q S U acc a w
 |i::r,acc,a,w=> ∃o,ops[i]?=some o∧isStatic o.op=true∧∃v,StEv P ops o a w v∧VP ro P ops Q S U r ((i,fun w=>StEv P ops o a w v)::acc) (a.put o.dst v) w
theorem VP.mono {U:List Nat}:∀(l:List Nat) (acc b:Acc) (a:Act) (w:World),AccLe b acc->VP ro P ops Q S U l acc a w->VP ro P ops Q S U l b a w:=by
 intro l;induction l with
 |nil=>
  intro acc b a w hle h;obtain⟨I,f,g⟩:=h;refine⟨I,f,fun d a w j=>?_⟩;obtain⟨g1,g2,g3⟩:=g d a w j;refine⟨fun s c=>?_,g2,g3⟩;obtain⟨p,m,_,hw⟩:=hle s c;exact hw w (g1 p m)
 |cons i r q=>
  intro acc b a w hle h;obtain⟨o,k,e,v,n,h⟩:=h;exact⟨o,k,e,v,n,q _ _ _ _ (hle.cons fun _ h=>h) h⟩
theorem VP.first_static {U:List Nat} {x:Nat} {ox:Oper} (r:ops[x]?=some ox) (g:noSel ox.op=true) (post:List Nat):
  ∀(pre:List Nat) (acc:Acc) (a:Act) (w:World),(∀s,s∈pre->∀os,ops[s]?=some os->noSel os.op=true/\os.apart ops ox=true)->
   VP ro P ops Q S U (pre++x::post) acc a w->∃v,StEv P ops ox a w v/\VP ro P ops Q S U (pre++post) acc (a.put ox.dst v) w:=by
 intro pre;induction pre with
 |nil=>
  intro acc a w _ h;obtain⟨o,m,p,v,j,h⟩:=h;obtain rfl:o=ox:=by rw[r] at m;exact(Option.some.inj m).symm
  exact⟨v,j,h.mono _ _ _ _ _ (AccLe.drop _ _)⟩
 |cons s pre u=>
  intro acc a w c h;obtain⟨os,d,i,vs,k,h⟩:=h;obtain⟨e,b⟩:=c s List.mem_cons_self os d;obtain⟨v,j,n⟩:=u _ _ _ (fun t q=>c t (List.mem_cons_of_mem _ q)) h;refine⟨v,(StEv.put b g).1 j,os,d,i,vs,(StEv.put (apart_symm b) e).2 k,?_⟩;obtain⟨_,f,_⟩:=Oper.apart_spec b;rw[<-Act.put_comm a vs v f];exact n.mono _ _ _ _ _ ((AccLe.refl acc).cons fun w' l=>(StEv.put (apart_symm b) e).2 l)
theorem done_step {U p q:List Nat} {x:Nat} (d:x∈S) (k:U=p++x::q) (i:U.Nodup):(fun y=>y=x\/(y∈S/\y∉U))=(fun y=>y∈S/\y∉p++q):=by
 funext y
 refine propext ?_;subst k;rw[List.nodup_append] at i;obtain⟨b,a,c⟩:=i;have g:=(List.nodup_cons.1 a).1;have f:x∉p:=fun h=>c x h x List.mem_cons_self rfl;simp only[List.mem_append,List.mem_cons,not_or];constructor
 ·rintro(rfl|⟨b,a,c,j⟩)
  ·exact⟨d,f,g⟩
  ·exact⟨b,a,j⟩
 ·rintro⟨b,a,c⟩;by_cases e:y=x
  ·exact .inl e
  ·exact .inr ⟨b,a,e,c⟩
theorem VP.first_par_static {U p q:List Nat} {x:Nat} {ox:Oper} (K:ops[x]?=some ox) (y:isStatic ox.op=true) (r:noSel ox.op=true) (i:x∈S) (C:U=p++x::q) (H:U.Nodup) (n:∀e,e∈zK ops.toList x->e∉U):
  ∀(l:List Nat) (acc:Acc) (a:Act) (w:World),(∀s,s∈l->∀os,ops[s]?=some os->noSel os.op=true/\os.apart ops ox=true)->
   VP ro P ops Q S U l acc a w->∃v,StEv P ops ox a w v/\VP ro P ops Q S (p++q) l acc (a.put ox.dst v) w:=by
 intro l;induction l with
 |nil=>
  intro acc a w _ h;obtain⟨I,F,j⟩:=h;obtain⟨g1,g2,g3⟩:=j _ a w F;obtain⟨o,D,d⟩:=g2 x i (fun h=>h.2 (by rw[C];simp)) (fun e he m=>⟨m,n e he⟩);obtain rfl:o=ox:=by rw[K] at D;exact(Option.some.inj D).symm
  rcases d with⟨_,v,z,G⟩|⟨E,_⟩
  ·exact⟨v,z,I,by rw[<-done_step i C H];exact G,j⟩
  ·rw[y] at E;cases E
 |cons s l L=>
  intro acc a w c h;obtain⟨os,f,u,vs,A,h⟩:=h;obtain⟨g,b⟩:=c s List.mem_cons_self os f;obtain⟨v,z,j⟩:=L _ _ _ (fun t J=>c t (List.mem_cons_of_mem _ J)) h;refine⟨v,(StEv.put b r).1 z,os,f,u,vs,(StEv.put (apart_symm b) g).2 A,?_⟩;obtain⟨_,k,_⟩:=Oper.apart_spec b;rw[<-Act.put_comm a vs v k];exact j.mono _ _ _ _ _ ((AccLe.refl acc).cons fun w' B=>(StEv.put (apart_symm b) g).2 B)
theorem VP.first_par_change {U p q:List Nat} {x:Nat} {ox:Oper} (F:ops[x]?=some ox) (z:isStatic ox.op=false) (v:noSel ox.op=true) (J:∀c a b w,b.defers=a.defers->Q (.panic c) a w->Q (.panic c) b w) (m:x∈S) (B:U=p++x::q) (L:U.Nodup) (r:∀e,e∈zK ops.toList x->e∉U):
  ∀(l:List Nat) (acc:Acc) (a:Act) (w:World),(∀s,s∈l->∀os,ops[s]?=some os->noSel os.op=true/\os.apart ops ox=true)->
   VP ro P ops Q S U l acc a w->wpOpIn (FR ro) 0 P ops Q x (fun b w'=>(∃u,b=a.put ox.dst u)/\(∀p,p∈acc->p.2 w')/\VP ro P ops Q S (p++q) l acc b w') a w:=by
 intro l;induction l with
 |nil=>
  intro acc a w _ h;obtain⟨I,G,i⟩:=h;obtain⟨g1,g2,g3⟩:=i _ a w G;obtain⟨o,D,g⟩:=g2 x m (fun h=>h.2 (by rw[B];simp)) (fun e he n=>⟨n,r e he⟩);obtain rfl:o=ox:=by rw[F] at D;exact(Option.some.inj D).symm
  rcases g with⟨E,_⟩|⟨_,h⟩
  ·rw[z] at E;cases E
  ·refine wpOpIn_mono (fun b w' ⟨hu,A⟩=>⟨hu,(i _ b w' A).1,I,by rw[<-done_step m B L];exact A,i⟩) h
 |cons s l T=>
  intro acc a w d h;obtain⟨os,j,y,vs,R,h⟩:=h;obtain⟨k,f⟩:=d s List.mem_cons_self os j;have i:=X4 (K:=fun b w'=>(∀p,p∈((s,fun w=>StEv P ops os a w vs)::acc:Acc)->p.2 w')/\VP ro P ops Q S (p++q) l ((s,fun w=>StEv P ops os a w vs)::acc) b w') F f v J
   (T _ _ _ (fun t N=>d t (List.mem_cons_of_mem _ N)) h)
  refine wpOpIn_mono (fun b w' ⟨⟨u,hu⟩,C,O⟩=>?_) i;refine⟨⟨u,hu⟩,fun p M=>C p (List.mem_cons_of_mem _ M),os,j,y,vs,?_,?_⟩
  ·rw[hu];exact(StEv.put (apart_symm f) k).2 (C _ List.mem_cons_self)
  ·refine O.mono _ _ _ _ _ ((AccLe.refl _).cons fun V H=>?_);rw[hu];exact(StEv.put (apart_symm f) k).2 H
structure RestP (ops:Array Oper) (D:Nat→List Nat) (S l0 l U:List Nat) (listed:Array Bool):Prop where
 sub:∀s,s∈l→s∈l0
 size:listed.size=ops.size
 mem:∀i,i<ops.size→(listed.getD i true=false↔i∈l++U)
 lt:∀i,i∈l++U→i<ops.size
 nodup:(l++U).Nodup
 us:∀i,i∈U→i∈S
 desc:∀s,s∈l→∀x,x∈D s→x∈l++U
 edge:∀s,s∈l→∀x,x∈D s→∃e,e∈zK ops.toList x∧(e=s∨e∈D s)
 pair:(l++U).Pairwise fun s x=>s∈l0→x∈D s∨apartN ops s x=true
 stat:∀s,s∈l→Zs ops.toList s=true
 lin:∀pre x post,l++U=pre++x::post→∀e,e∈zK ops.toList x→e∈l++U→e∈pre
 sel:∀i,i∈l++U→Ks ops.toList i=true
 elt:∀x,x∈l++U→∀e,e∈zK ops.toList x→e<ops.size
theorem Xa {r l U:List Nat} {listed:Array Bool} (c:RestP ops D S r l U listed) {i:Nat} (p:i∈Region.ready .any ops listed):
  i∈l++U/\∀e,e∈zK ops.toList i->e∉l++U:=by
 obtain⟨k,o,j,b⟩:=mem_ready.1 p;have g:i<ops.size:=(Array.getElem?_eq_some_iff.1 j).1;refine⟨(c.mem i g).1 k,fun e he a=>?_⟩;obtain⟨d,n,m,rfl⟩:=(mem_edges j).1 he;have h:=b d n m;have f:=(c.mem d.on (c.lt _ a)).2 a;have q:d.on<listed.size:=by rw[c.size];exact c.lt _ a
 simp[Array.getD,q] at h f;rw[h] at f;cases f
theorem VM {R pre post:List Nat} {i:Nat} (o:R=pre++i::post) (l:R.Nodup) (b:∀pre x post,R=pre++x::post->∀e,e∈zK ops.toList x->e∈R->e∈pre):
  ∀p x q,pre++post=p++x::q->∀e,e∈zK ops.toList x->e∈pre++post->e∈p:=by
 subst o;have k:(pre++post).Sublist (pre++i::post):=List.Sublist.append (List.Sublist.refl _) (List.sublist_cons_self _ _);have j:i∉pre++post:=by
  rw[List.nodup_append] at l;obtain⟨_,m,n⟩:=l;rw[List.mem_append];rintro(h|h)
  ·exact n i h i List.mem_cons_self rfl
  ·exact(List.nodup_cons.1 m).1 h
 intro p x q r e he f;have g:e∈pre++i::post:=k.subset f;rcases List.append_eq_append_iff.1 r with⟨c,d,a⟩|⟨c,d,a⟩
 ·subst d;have:=b (pre++i::c) x q (by rw[a];simp) e he g;rw[List.mem_append,List.mem_cons] at this;rcases this with h|h|h
  ·exact List.mem_append_left _ h
  ·subst h;exact absurd f j
  ·exact List.mem_append_right _ h
 ·subst d;cases c with
  |nil=>
   simp only[List.nil_append] at a;have:=b (p++[i]) x q (by rw[<-a];simp) e he (by simpa using g);rw[List.mem_append] at this;rcases this with h|h
   ·exact h
   ·rw[List.mem_singleton] at h;subst h;exact absurd f (by simpa using j)
  |cons y c=>
   simp only[List.cons_append,List.cons.injEq] at a;obtain⟨rfl,rfl⟩:=a;exact b p x (c++i::post) (by simp) e he g
theorem RestP.step {t l U n k pre post:List Nat} {i:Nat} {listed:Array Bool} (b:RestP ops D S t l U listed) (o:∀e,e∈zK ops.toList i->e∉l++U)
  (m:l++U=pre++i::post) (f:n++k=pre++post) (j:∀x,x∈n->x∈l) (v:∀x,x∈k->x∈U):RestP ops D S t n k (listed.setIfInBounds i true):=by
 have c:∀x,x∈n++k->x∈l++U:=fun x a=>by rw[f] at a;rw[m,List.mem_append,List.mem_cons];rw[List.mem_append] at a;exact a.elim .inl fun h=> .inr (.inr h)
 have p:=b.nodup;have r:i∉n++k:=by
  rw[f];rw[m,List.nodup_append] at p;obtain⟨_,f,u⟩:=p;rw[List.mem_append];rintro(h|h)
  ·exact u i h i List.mem_cons_self rfl
  ·exact(List.nodup_cons.1 f).1 h
 have g:∀x,x∈l++U->x≠i->x∈n++k:=by
  intro x a q;rw[m,List.mem_append,List.mem_cons] at a;rw[f,List.mem_append];rcases a with h|h|h
  ·exact .inl h
  ·exact absurd h q
  ·exact .inr h
 refine⟨fun s d=>b.sub s (j s d),by simp[b.size],fun x a=>?_,fun x a=>b.lt x (c x a),?_,fun x a=>b.us x (v x a),fun s d x a=>?_,fun s d=>b.edge s (j s d),?_,fun s d=>b.stat s (j s d),?_,fun x a=>b.sel x (c x a),fun x a=>b.elt x (c x a)⟩
 ·by_cases e:i=x
  ·subst e;simp only[Array.getD_eq_getD_getElem?];have:i<listed.size:=by rw[b.size];exact a
   simp[this,r]
  ·rw[getD_set_ne true e,b.mem x a];exact⟨fun h=>g x h (Ne.symm e),fun h=>c x h⟩
 ·rw[f];rw[m] at p;exact p.sublist (List.Sublist.append (List.Sublist.refl _) (List.sublist_cons_self _ _))
 ·refine g x (b.desc s (j s d) x a) fun e=>?_;subst e;obtain⟨e,he,h|h⟩:=b.edge s (j s d) x a
  ·subst h;exact o e he (List.mem_append_left _ (j _ d))
  ·exact o e he (b.desc s (j s d) e h)
 ·rw[f];have:=b.pair;rw[m] at this;exact this.sublist (List.Sublist.append (List.Sublist.refl _) (List.sublist_cons_self _ _))
 ·rw[f];exact VM m p b.lin
theorem VP.any {l0:List Nat} (hQ:∀c a W w,W.defers=a.defers->Q (.panic c) a w->Q (.panic c) W w):∀(fuel:Nat) (l U:List Nat) (listed:Array Bool) (acc:Acc) (a:Act) (w:World),
  RestP ops D S l0 l U listed->(l++U).length=fuel->VP ro P ops Q S U l acc a w->wpAnyIn (FR ro) 0 P .any ops Q fuel listed a w:=by
 intro fuel;induction fuel with
 |zero=>
  intro l U listed acc a w b hlen h;have n:l++U=[]:=List.eq_nil_of_length_eq_zero hlen;obtain⟨rfl,rfl⟩:=List.append_eq_nil_iff.1 n;obtain⟨I,h1,Y⟩:=h;refine⟨?_,(Y _ a w h1).2.2 fun i V=>⟨V,by simp⟩⟩;cases hc:Region.ready .any ops listed with
  |nil=>rfl
  |cons x xs=>
   have:=(Xa b (i:=x) (by rw[hc];exact List.mem_cons_self)).1;simp at this
 |succ fuel ih=>
  intro l U listed acc a w b hlen h;refine⟨fun n=>?_,fun i V=>?_⟩
  ·cases Z:l++U with
   |nil=>rw[Z] at hlen;cases hlen
   |cons x r=>
    exfalso;have E:x∈l++U:=by rw[Z];exact List.mem_cons_self
    obtain⟨o,ho⟩:∃o,ops[x]?=some o:=⟨_,Array.getElem?_eq_getElem (b.lt x E)⟩;have j:x∈Region.ready .any ops listed:=by
     refine mem_ready.2 ⟨(b.mem x (b.lt x E)).2 E,o,ho,fun d hd hb=>?_⟩;have he:d.on∈zK ops.toList x:=(mem_edges ho).2 ⟨d,hd,hb,rfl⟩;by_cases J:d.on<ops.size
     ·cases hg:listed.getD d.on false
      ·exfalso;have g:d.on<listed.size:=by rw[b.size];exact J
       have Y:listed.getD d.on true=false:=by
        simp[Array.getD,g] at hg⊢;exact hg
       have h3:=(b.mem d.on J).1 Y;have:=b.lin [] x r Z d.on he h3;cases this
      ·rfl
     ·exact absurd (b.elt x E _ he) J
    rw[n] at j;cases j
  ·obtain⟨M,k⟩:=Xa b V;obtain⟨_,oi,f,_⟩:=mem_ready.1 V;have u:=ZV (b.sel i M) f;have G:∀s,s∈l->(∃p q,l++U=p++s::q/\i∈q)->∀os,ops[s]?=some os->noSel os.op=true/\os.apart ops oi=true:=by
    intro s g hb os T;refine⟨ZV (b.sel s (List.mem_append_left _ g)) T,?_⟩;obtain⟨p,q,a3,a0⟩:=hb;have hp:=b.pair;rw[a3,List.pairwise_append] at hp;have a2:=(List.pairwise_cons.1 hp.2.1).1 i a0 (b.sub s g);rcases a2 with e|e
    ·exfalso;obtain⟨X,L,z|z⟩:=b.edge s g i e
     ·subst z;exact k X L (List.mem_append_left _ g)
     ·exact k X L (b.desc s g X z)
    ·exact Yw e T f
   have hn:=b.nodup;by_cases H:i∈l
   ·obtain⟨pre,post,rfl⟩:=List.append_of_mem H;have a1:∀s,s∈pre->∃p q,(pre++i::post)++U=p++s::q/\i∈q:=fun s g=>by
     obtain⟨p,q,rfl⟩:=List.append_of_mem g;exact⟨p,q++i::post++U,by simp,by simp⟩
    have y:isStatic oi.op=true:=by
     have:=b.stat i H;have R:nth ops.toList i=some oi:=by rw[jP,Array.getElem?_toList];exact f
     simpa[Zs,R] using this
    obtain⟨v,C,z⟩:=VP.first_static f u post pre acc a w (fun s g=>G s (by simp[g]) (a1 s g)) h;have B:RestP ops D S l0 (pre++post) U (listed.setIfInBounds i true):=b.step k (pre:=pre) (post:=post++U) (by simp) (by simp) (fun x j=>by
     rw[List.mem_append] at j;rw[List.mem_append,List.mem_cons];exact j.elim .inl fun h=> .inr (.inr h)) (fun x j=>j)
    have N:=ih _ _ _ _ _ _ B (by simp at hlen⊢;omega) z;unfold wpOpIn;simp only[f];unfold StEv at C;split at C
    ·rename_i hw;rw[if_pos hw];refine⟨fun _ _=>trivial,?_⟩;rw[jo y,C];exact N
    ·rename_i hw;rw[if_neg hw];subst C;exact⟨fun _ _=>trivial,N⟩
   ·have A:i∈U:=(List.mem_append.1 M).resolve_left H;obtain⟨p,q,K⟩:=List.append_of_mem A;have O:U.Nodup:=(List.nodup_append.1 hn).2.1;have B:RestP ops D S l0 l (p++q) (listed.setIfInBounds i true):=b.step k (pre:=l++p) (post:=q) (by rw[K];simp) (by simp) (fun x j=>j) (fun x j=>by
     rw[List.mem_append] at j;rw[K,List.mem_append,List.mem_cons];exact j.elim .inl fun h=> .inr (.inr h))
    have m:(l++(p++q)).length=fuel:=by rw[K] at hlen;simp at hlen⊢;omega
    have t:∀s,s∈l->∀os,ops[s]?=some os->noSel os.op=true/\os.apart ops oi=true:=fun s g=>G s g (by
     obtain⟨p',q',e⟩:=List.append_of_mem g;exact⟨p',q'++U,by rw[e];simp,List.mem_append_right _ A⟩)
    have F:∀e,e∈zK ops.toList i->e∉U:=fun e he hm=>k e he (List.mem_append_right _ hm);cases y:isStatic oi.op
    ·have:=VP.first_par_change f y u hQ (b.us i A) K O F l acc a w t h;exact wpOpIn_mono (fun W w' z=>ih _ _ _ _ _ _ B m z.2.2) this
    ·obtain⟨v,C,z⟩:=VP.first_par_static f y u (b.us i A) K O F l acc a w t h;have N:=ih _ _ _ _ _ _ B m z;unfold wpOpIn;simp only[f];unfold StEv at C;split at C
     ·rename_i hw;rw[if_pos hw];refine⟨fun _ _=>trivial,?_⟩;rw[jo y,C];exact N
     ·rename_i hw;rw[if_neg hw];subst C;exact⟨fun _ _=>trivial,N⟩
def chkPairP (ops:Array Oper) (D:Nat→List Nat) (S:List Nat):List Nat→Bool
 |[]=>true
 |s::r=>allN (fun x=>memN x (D s)||apartN ops s x) r&&(allN (fun x=>memN x (D s)||apartN ops s x) S&&chkPairP ops D S r)
theorem chkPairP_spec {c:List Nat}:∀{l:List Nat},(∀s,s∈S->s∉c)->chkPairP ops D S l=true->(l++S).Pairwise fun s x=>s∈c->x∈D s\/apartN ops s x=true
 |[],b,_=>by
  rw[List.nil_append];exact List.pairwise_of_forall_mem_list fun s i x _ h=>absurd h (b s i)
 |s::r,b,h=>by
  simp only[chkPairP,Bool.and_eq_true] at h;obtain⟨d,e,f⟩:=h;have get:∀{q:List Nat},allN (fun x=>memN x (D s)||apartN ops s x) q=true->∀x,x∈q->x∈D s\/apartN ops s x=true:=fun g x a=>by
   have:=W1.1 g x a;simpa[Bool.or_eq_true,memN_iff] using this
  refine List.pairwise_cons.2 ⟨fun x a _=>?_,chkPairP_spec b f⟩;rcases List.mem_append.1 a with a|a
  ·exact get d x a
  ·exact get e x a
def chkPar (ops:Array Oper) (D:Nat→List Nat) (l S L:List Nat):Bool:=
 Xl ops.size (l++S)&&(allN (Ks ops.toList) (l++S)&&(chkLin ops.toList [] (l++S)&&(V7 ops.toList D l&&(allN (Zs ops.toList) l&&(allN (fun s=>allN (fun x=>memN x (l++S)) (D s)) l&&
  (chkPairP ops D S l&&allN (fun i=>match dstOf ops.toList i with|some d=>memN d L|none=>true) S))))))
theorem JJ {l L:List Nat} (h:chkPar ops D l S L=true):RestP ops D S l l S (Array.replicate ops.size false)/\(l++S).length=ops.size/\(∀i,i∈S->∀o,ops[i]?=some o->∀d,o.dst=some d->d∈L):=by
 simp only[chkPar,Xl,Bool.and_eq_true] at h;obtain⟨⟨⟨v,w⟩,y,t⟩,z,A,B,C,E,m,n⟩:=h;have g:∀i,i∈l++S->i<ops.size:=fun i a=>by have:=W1.1 y i a;simpa[Nat.blt_eq] using this
 have f:∀i,i<ops.size->i∈l++S:=fun i a=>memN_iff.1 (W1.1 v i (List.mem_range.2 a));have c:=Xm (l++S) [] A;have r:=chkNd_spec t;have p:∀s,s∈S->s∉l:=fun s b q=>(List.nodup_append.1 r).2.2 s q s b rfl;refine⟨⟨fun s b=>b,by simp,fun i a=>?_,g,chkNd_spec t,fun i a=>a,fun s b x j=>memN_iff.1 (W1.1 (W1.1 E s b) x j),fun s b x j=>?_,chkPairP_spec p m,fun s b=>W1.1 C s b,?_,fun i a=>W1.1 z i a,fun x j e he=>?_⟩,Nat.eq_of_beq_eq_true w,fun i a o H d F=>?_⟩
 ·have:=f i a;simp only[a,Array.getD,Array.size_replicate,dif_pos,this,iff_true];simp
 ·have:=W1.1 (W1.1 B s b) x j;obtain⟨e,he,h⟩:=anyN_iff.1 this;refine⟨e,he,?_⟩;rcases Bool.or_eq_true _ _▸h with k|k
  ·exact .inl (Nat.eq_of_beq_eq_true k)
  ·exact .inr (memN_iff.1 k)
 ·intro pre x post q e he _;exact(c pre x post q e he).resolve_left (by simp)
 ·obtain⟨pre,post,u⟩:=List.append_of_mem j;have:=(c pre x post u e he).resolve_left (by simp);exact g e (by rw[u];exact List.mem_append_left _ this)
 ·have:=W1.1 n i a;have G:nth ops.toList i=some o:=by rw[jP,Array.getElem?_toList];exact H
  simp only[dstOf,G,F] at this;exact memN_iff.1 this
theorem vsteps_get [ZP] {L:List Nat} {I:(Nat->Prop)->List Value->World->Prop} {d:Nat->Prop} {F:Fr}:∀{r:List Nat},vsteps P ops.toList S L I d F w r->∀i,i∈r->∃o,ops[i]?=some o/\o.guard=none/\
  (¬d i->(∀e,e∈zK ops.toList i->e∈S->d e)->cond (isStatic o.op) (vop P o.op o.type F w fun v w'=>w'=w/\I (fun x=>x=i\/d x) (selL L (put F o.dst v)) w) (vop P o.op o.type F w fun v w'=>I (fun x=>x=i\/d x) (selL L (put F o.dst v)) w'))
 |[],_,i,b=>by cases b
 |j::r,h,i,b=>by
  obtain⟨a,c⟩:=h;rcases List.mem_cons.1 b with rfl|b
  ·split at a
   ·exact a.elim
   ·rename_i o k;split at a
    ·exact a.elim
    ·rename_i f;exact⟨o,Zv k,f,fun g l=>impD_iff.1 (a g) fun e he=>l e (mem_filt.1 he).1 (mem_filt.1 he).2⟩
  ·exact vsteps_get c i b
theorem Vu [ZP] {K:Fr->World->Prop} {L:List Nat} (A:Xb n ops.toList=true) (hz:∀c a w,ZP.z c w->a.defers=df->Q (.panic c) a w) (hL:∀i,i∈S->∀o,ops[i]?=some o->∀d,o.dst=some d->d∈L) (a3:∀t,t∈L->∃i,i∈S/\∃o,ops[i]?=some o/\o.dst=some t):
  ∀(l sk:List Nat) (acc accP:Acc) (f:Fr) (a:Act) (w:World),(∀i,i∈l->Zs ops.toList i=true)->vopsP P ops.toList D S L K l sk acc f w->Sim df n f a->Vg sk f->
   AccRel accP acc->(∀p,p∈accP->p.2 w)->
   (∀g G w',Sim df n g G->(∀t,Off ops (l++S) t->g t=f t)->K g w'->Q .normal G w')->VP ro P ops Q S S l accP a w:=by
 intro l;induction l with
 |nil=>
  intro sk acc accP f a w _ h J _ m _ hK;obtain⟨I,h1,Z⟩:=h;refine⟨fun d a w=> ∃g,Sim df n g a/\(∀t,t∉L->g t=f t)/\I d (selL L g) w,?_,?_⟩
  ·have e:(fun x=>x∈S/\x∉S)=fun _=>False:=by funext x;exact propext ⟨fun h=>h.2 h.1,False.elim⟩
   rw[e];exact⟨f,J,fun _ _=>rfl,h1⟩
  ·rintro d G w' ⟨g,q,R,hI⟩;have h3:=Z d _ g w' hI;rw[QB R] at h3;obtain⟨a4,a5,a6⟩:=Zr h3;refine⟨fun p' a7=>?_,fun i H hn a2=>?_,fun a0=>?_⟩
   ·rcases m p' a7 with h'|⟨p,B,_,hw⟩
    ·exact h' w'
    ·exact hw w' (a4 p B)
   ·obtain⟨o,C,hg,U⟩:=vsteps_get a5 i H;have Y:=U hn a2;have N:∀v t,t∉L->put g o.dst v t=f t:=fun v t X=>by
     rw[Zu (fun e=>X (hL i H o C t e)),R t X]
    refine⟨o,C,?_⟩;have hw:Region.wanted o (yielded ops G.tmps)=true:=(by simp[Region.wanted,hg]);cases s:isStatic o.op
    ·rw[s] at Y;simp only[cond] at Y;refine .inr ⟨rfl,?_⟩;unfold wpOpIn;simp only[C];rw[if_pos hw];exact vop_sound Y q (fun c w h=>hz c _ w h q.defers) fun v ab O=>⟨⟨v,rfl⟩,put g o.dst v,q.put (yg A C) v,N v,O⟩
    ·rw[s] at Y;simp only[cond] at Y;refine .inl ⟨rfl,?_⟩;obtain⟨v,ab,hr,V,O⟩:=jZ s Y;subst V;exact⟨v,by unfold StEv;rw[if_pos hw,q.eval];exact hr,put g o.dst v,q.put (yg A C) v,N v,O⟩
   ·exact hK g G w' q (fun t X=>R t fun hm=>by obtain⟨i,H,o,C,hd⟩:=a3 t hm;exact X i (by simpa using H) o C hd) (impD_iff.1 a6 a0)
 |cons i r ih=>
  intro sk acc accP f a w F h J M m E hK;have Z:=F i List.mem_cons_self;have k:∀j,j∈r->Zs ops.toList j=true:=fun j hj=>F j (List.mem_cons_of_mem _ hj);simp only[vopsP] at h;cases C:nth ops.toList i with
  |none=>rw[C] at h;exact h.elim
  |some o=>
   rw[C] at h;have H:=Zv C;have s:isStatic o.op=true:=(by simpa[Zs,C] using Z);have offr:∀x,Off ops (i::r++S) x->Off ops (r++S) x:=fun x hx=>Y4 (fun y hy=>List.mem_cons_of_mem _ hy) hx;have a1:∀x,Off ops (i::r++S) x->o.dst≠some x:=fun x hx=>hx i List.mem_cons_self o H;refine⟨o,H,s,?_⟩;have u:∀v g G w',Sim df n g G->(∀x,Off ops (r++S) x->g x=put f o.dst v x)->K g w'->Q .normal G w':=fun v g G w' q X hk=>
    hK g G w' q (fun x h=>(X x (offr x h)).trans (Zu (a1 x h) _ _)) hk
   rcases k3 A J M h with⟨hw,h⟩|⟨hw,h⟩
   ·simp only[Vh,cond] at h;rw[s] at h;cases T:isFree o.op
    ·rw[T] at h;obtain⟨v,w',hr,V,O⟩:=jZ s h;subst V;have b:StEv P ops o a w' v:=by unfold StEv;rw[if_pos hw,J.eval];exact hr
     refine⟨v,b,ih _ _ _ _ _ _ k O (J.put (yg A H) v) (qi M _ _) (m.add fun W Z=>?_) (fun p B=>?_) (u v)⟩
     ·obtain⟨v',w3,a8,a9,aa⟩:=jZ s Z;subst a9;subst aa;unfold StEv;rw[if_pos hw,J.eval];exact a8
     ·rcases List.mem_cons.1 B with rfl|B
      ·exact b
      ·exact E p B
    ·rw[T] at h;obtain⟨v,hr,O⟩:=QD T h;have b:∀W,StEv P ops o a W v:=fun W=>by unfold StEv;rw[if_pos hw,J.eval];exact hr W
     refine⟨v,b w,ih _ _ _ _ _ _ k O (J.put (yg A H) v) (qi M _ _) (m.addFree b) (fun p B=>?_) (u v)⟩;rcases List.mem_cons.1 B with rfl|B
     ·exact b w
     ·exact E p B
   ·have b:∀W,StEv P ops o a W undef:=fun W=>by unfold StEv;rw[if_neg (by simp[hw])]
    refine⟨undef,b w,ih _ _ _ _ _ _ k h (J.put (yg A H) undef) (kM M _) (m.addFree b) (fun p B=>?_) (u undef)⟩;rcases List.mem_cons.1 B with rfl|B
    ·exact b w
    ·exact E p B
def Ka (ops:List Oper) (S L:List Nat):Bool:=allN (fun t=>anyN (fun i=>match dstOf ops i with|some d=>Nat.beq d t|none=>false) S) L
theorem Kg [ZP] {id:Nat} {K:Fr->World->Prop} {l L:List Nat} (u:Xb n ops.toList=true) (hm:P.follows .mixedOrders=true) (F:chkPar ops D l S L=true) (s:Ka ops.toList S L=true)
  (h:vopsP P ops.toList D S L K l [] [] f {w with drawn:=w.drawn+1}) (I:Sim df n f a) (J:∀c a w,ZP.z c w->a.defers=df->Q (.panic c) a w)
  (E:∀j g w',Sim df n j g->(∀t,(∀o,o∈ops->o.dst≠some t)->j t=f t)->K j w'->Q .normal g w'):(Code.region id ops true).wpIn (FR ro) 0 P Q a w:=by
 refine wpIn_mono (Q:=onlyN df Q) (wpIn_region_any hm ?_) fun e a w h=>by cases e<;>first|exact h|exact J _ _ _ h.1 h.2|exact h.elim
 obtain⟨A,B,C⟩:=JJ F;have r:∀t,t∈L->∃i,i∈S/\∃o,ops[i]?=some o/\o.dst=some t:=fun t y=>by
  obtain⟨i,G,b⟩:=anyN_iff.1 (W1.1 s t y);refine⟨i,G,?_⟩;unfold dstOf at b;cases k:nth ops.toList i with
  |none=>rw[k] at b;cases b
  |some o=>
   rw[k] at b;refine⟨o,Zv k,?_⟩;cases m:o.dst with
   |none=>simp only[m] at b;cases b
   |some d=>simp only[m] at b;rw[Nat.eq_of_beq_eq_true b]
 refine VP.any (D:=D) (fun c a g w e h=>⟨h.1,e.trans h.2⟩) ops.size l S _ [] a _ A B ?_;exact Vu u (fun c a w h e=>⟨h,e⟩) C r l [] [] [] f a _ A.stat h I (fun d b=>by cases b) (fun p v=>by cases v) (fun p v=>by cases v)
   fun j g w' x y H=>E j g w' x (fun t q=>y t fun i _ o k=>q o (Array.mem_of_getElem? k)) H
end
end Go.Vc
end
