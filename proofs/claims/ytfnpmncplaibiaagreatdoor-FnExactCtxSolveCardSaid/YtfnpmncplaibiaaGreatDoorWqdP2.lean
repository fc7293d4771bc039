import Derived.Test.YtfnpmncplaibiaaGreatDoorWqdP1
import Derived.RangeFuncRecord
import Derived.WalkKit
import Derived.ProofKit
import Derived.OpenShut
import Derived.ShutString
import Derived.ChangeOld
import Derived.JoinedOf
/- A part of the proof. -/
set_option linter.all false
set_option maxRecDepth 9999
set_option maxHeartbeats 2000000
noncomputable section
namespace Go.Vc
open Go Go.RowKit
section
def hasR:Code->Bool
 | .rangeFunc _ _ _ _=>true
 | .seq a b=>hasR a||hasR b
 | .block _ b=>hasR b
 |_=>false
def ovrAt:List Nat->Fr->List Value->Fr
 |[],f,_=>f
 |p::r,f,args=>ovrAt r (put f (some p) (args.headD undef)) args.tail
def jmp (x:Nat) (Nn Nr Nx:World->Prop) (pe:Option Code) (w:World):Prop:=
 match pe with
 |none=>Nn w
 |some .ret=>Nr w
 |some (.exit i)=>i=x/\Nx w
 |_=>False
def Xm0 (gv:Value) (n x:Nat) (w:World) (B:List Value->(World->(World->Prop)->Prop)->(World->Prop)->(World->Prop)->(World->Prop)->World->Prop) (Nn Nr Nx:Nat->World->Prop):Prop:=
 ∃gf lb,gv= .func (.func gf) #[] lb/\∀(l D:Nat) (w1:World) (RR:LoopState->Option Code->World->Prop),D=w.heap.size->l=w.heap.size+1->Ext w w1->w1.heap.size=w.heap.size+2->w1.heap[D]?=some (.deferred (some []))->
  (∀st pe w' w'',RR st pe w'->w''.heap[l]?=w'.heap[l]?->RR st pe w'')->RR .ready none w1->
  (∀(args:List Value) (w':World) (K:oK),args.length=n->RR .ready none w'->
   B args (λw1 k=>RR .ready none w1/\∀w2,Same (· =l) w1 w2->w2.heap.size=w1.heap.size->RR .busy none w2->k w2)
    (λw3=>RR .busy none w3/\∀w4,Same (· =l) w3 w4->w4.heap.size=w3.heap.size->RR .ready none w4->K (.bool true) w4)
    (λw3=>RR .busy none w3/\∀w4,Same (· =l) w3 w4->w4.heap.size=w3.heap.size->RR .done (some .ret) w4->K (.bool false) w4)
    (λw3=>RR .busy none w3/\∀w4,Same (· =l) w3 w4->w4.heap.size=w3.heap.size->RR .done (some (.exit x)) w4->K (.bool false) w4) w'->
   vcallv (.func (.yield l) #[] #[]) ⟨args⟩ w' K)->
  vcall gf ⟨.func (.yield l) #[] #[]::lb.toList⟩ w1 λ_ w3=> ∃st pe,st≠ .busy/\RR st pe w3/\∀w4,Same (· =l) w3 w4->w4.heap.size=w3.heap.size->jmp x (Nn D) (Nr D) (Nx D) pe w4
def rndK (x:Nat) (kn kr kx:World->Prop) (e:Exit) (_:Fr) (w:World):Prop:=
 match e with
 | .normal=>kn w
 | .ret=>kr w
 | .exit i=>cond (Nat.beq i x) (kx w) False
 |_=>False
def vx (T:Ann) (x:Nat):Code->(Exit->Fr->World->Prop)->(Nat->Exit->Fr->World->Prop)->Fr->World->Prop
 | .rangeFunc g ps asg body,_,K1,f,w=>
  Xm0 (ev f g) ps.size x w
   (λargs beg kn kr kx w'=>vc T asg (seqK (λf1 w1=>beg w1 λw2=>vc T body (rndK x kn kr kx) f1 w2) (λ_ _ _=>False)) (ovrAt ps.toList f args) w')
   (λD w'=>K1 D .normal f w') (λD w'=>K1 D .ret f w') (λD w'=>K1 D (.exit x) f w')
 | .seq a b,K0,K1,f,w=>
  match hasR a with
  |true=>vx T x a (seqK (λf' w'=>vc T b K0 f' w') K0) (λD=>seqK (λf' w'=>vc T b (K1 D) f' w') (K1 D)) f w
  |false=>vc T a (seqK (λf' w'=>vx T x b K0 K1 f' w') K0) f w
 | .block id c,K0,K1,f,w=>vx T x c (blkK id K0) (λD=>blkK id (K1 D)) f w
 |_,_,_,_,_=>False
def okX (n:Nat) (T:Ann):Code->Bool
 | .rangeFunc _ ps asg body=>okC n T asg&&(okC n T body&&ps.toList.all λp=>Nat.blt p n)
 | .seq a b=>cond (hasR a) (okX n T a&&okC n T b) (okC n T a&&okX n T b)
 | .block _ c=>okX n T c
 |_=>false
def Xw0 (D:Nat):Deferred:={target:= .collected D,args:= #[]}
def ZX0 (n:Nat) (K0:Exit->Fr->World->Prop) (K1:Nat->Exit->Fr->World->Prop) (e:Exit) (a:Act) (w:World):Prop:=
 (∃f',Sim [] n f' a/\K0 e f' w)\/ ∃D f',Sim [Xw0 D] n f' a/\K1 D e f' w
section
variable {T:Ann} {n x:Nat}
theorem Yz0:∀(ps:List Nat) (f:Fr) (args:List Value) (tmps:Array Value),args.length=ps.length->ps.all (λp=>Nat.blt p n)=true->tmps.size=n->(∀t,tmps.getD t undef=f t)->
  Sim [] n (ovrAt ps f args) {tmps:=(ps.zip args).foldl (λt p=>t.setIfInBounds p.1 p.2) tmps,defers:=[]}:=by
 intro ps;induction ps with
 |nil=>intro f args tmps _ _ hs a;exact⟨hs,rfl,a⟩
 |cons p r g=>
  intro f args tmps d b hs a;cases args with
  |nil=>simp at d
  |cons v args=>
   simp only[List.all_cons,gd] at b;have c:p<n:=(by simpa[pX] using b.1);refine g (put f (some p) v) args (tmps.setIfInBounds p v) (by simpa using d) b.2 (by simpa using hs) λt=>?_;by_cases e:t=p
   .subst e;rw[Jo];simp[gN,hs,c]
   .rw[Wf _ _ _ _ e,<-a t];simp only[gN];rw[Pd (Ne.symm e)]
theorem Ya (w:World) (l:Nat) (o:Obj):Same (· =l) w (w.putObj l o):=
 ⟨rfl,rfl,rfl,by simp,λ_ _ a=>World.putObj_heap_other a⟩
theorem Yc {w:World} {l:Nat} {o:Obj} (h:w.heap[l]?=some o):l<w.heap.size:=(gA.1 h).1
theorem range_sound (hm:P.follows .mixedOrders=true) {g:Operand} {ps:Array Tmp} {asg body:Code} {S:Exit->Fr->World->Prop} {U:Nat->Exit->Fr->World->Prop} {f:Fr} {a:Act} {w:World}
  (z:okX n T (.rangeFunc g ps asg body)=true) (h:vx T x (.rangeFunc g ps asg body) S U f w) (hs:Sim [] n f a):(Code.rangeFunc g ps asg body).wpIn (FR none) 0 P (ZX0 n S U) a w:=by
 simp only[okX,gd] at z;obtain⟨M,N,O⟩:=z;obtain⟨gf,lb,hg,H⟩:=h;refine wpIn_rangeFunc λfn _=>?_
 let d:LoopState->Option Code->Loop:=λst pe=>{state:=st,pending:=pe,fn,tmps:=a.tmps,params:=ps,assign:=asg,body,defers:=w.heap.size}
 obtain⟨w1,q⟩:∃w1,(w.alloc (.deferred (some []))).alloc (.loop (d .ready none))=w1:=⟨_,rfl⟩;have G:w1.heap[w.heap.size+1]?=some (.loop (d .ready none)):=by
  rw[<-q];have:=World.alloc_heap_new (w.alloc (.deferred (some []))) (.loop (d .ready none));rwa[World.size_alloc] at this
 have hD1:w1.heap[w.heap.size]?=some (.deferred (some [])):=by
  rw[<-q];exact(Below.heap_alloc _ _ _ (by simp)).trans (World.alloc_heap_new w _)
 have D:w1.heap.size=w.heap.size+2:=by rw[<-q,World.size_alloc,World.size_alloc]
 have F:Ext w w1:=by
  rw[<-q];exact⟨rfl,rfl,rfl,by rw[World.size_alloc,World.size_alloc];omega,λb Y _=>(Below.heap_alloc _ _ b (by rw[World.size_alloc];omega)).trans (Below.heap_alloc w _ b Y)⟩
 have Z:=H (w.heap.size+1) w.heap.size w1 (λst pe w'=>w'.heap[w.heap.size+1]?=some (.loop (d st pe))) rfl rfl F D hD1 (λst pe w' w'' A he=>he.trans A) G ?_
 .obtain⟨I,r⟩:=Z;refine⟨w.heap.size+1,[Xw0 w.heap.size],w1,{target:= .fn (.func gf) lb,args:= #[.func (.yield (w.heap.size+1)) #[] #[]]},w1,gf,
   #[.func (.yield (w.heap.size+1)) #[] #[]]++lb,w1,?_,?_,λ_ _=>trivial,?_,λh=>(by cases h),?_⟩
  .rw[<-q];exact run_enterLoop_outer _ _ _ _ _
  .simp only[resolve,hs.eval,hg];simp[go_sem,ev]
  .simp[invoke,go_sem,callFunc_run I]
  .have e:(#[.func (.yield (w.heap.size+1)) #[] #[]]++lb:Array Value)=⟨.func (.yield (w.heap.size+1)) #[] #[]::lb.toList⟩:=by apply GI.1;simp
   rw[e];refine callsIn_wide.2 (Calls.mono r λe E he=>?_);cases e with
   |returned v=>
    obtain⟨st,pe,R,A,X⟩:=he;have u:=run_endLoop (P:=P) A (by exact R);have m:=X _ (Ya E _ (.loop {d st pe with state:= .exhausted})) (by simp);have s:Sim [Xw0 w.heap.size] n f {a with defers:=[Xw0 w.heap.size]++a.defers}:=⟨hs.size,by rw[hs.defers];rfl,hs.at_⟩;refine⟨pe,_,u,?_⟩;cases pe with
    |none=>exact .inr ⟨_,f,s,m⟩
    |some c=>
     cases c<;>simp only[jmp] at m<;>try exact m.elim
     case exit i=>
      obtain⟨rfl,m⟩:=m;exact wpIn_exit (.inr ⟨_,f,s,m⟩)
     case ret=>exact wpIn_ret (.inr ⟨_,f,s,m⟩)
   |panicked c=>exact he.elim
   |outgrown=>exact he.elim
 .intro args w' K hlen A W;have hy:=run_yield (P:=P) (args:=(⟨args⟩:Array Value)) A (by simpa[d] using hlen);refine⟨fn,_,asg,body,hy,roundIn_of_wpIn trivial ?_⟩;have C:=Yz0 (n:=n) ps.toList f args a.tmps (by simpa using hlen) O hs.size hs.at_;have ez:((d .ready none).params.zip (⟨args⟩:Array Value)).foldl (λtmps (t,a)=>tmps.setIfInBounds t a) (d .ready none).tmps=(ps.toList.zip args).foldl (λt p=>t.setIfInBounds p.1 p.2) a.tmps:=by
   rw[<-PA,Array.toList_zip]
  rw[ez];have V:=vc_sound (ro:=some (w.heap.size+1)) hm asg _ _ _ w' M W C (λl f w h=>h);refine wpIn_mono V ?_;rintro e a2 w2 ⟨f2,Q,_,y⟩;cases e<;>simp only[seqK] at y<;>try exact y.elim
  case normal=>
   obtain⟨B,y⟩:=y;refine⟨_,run_beginRound B rfl,?_⟩;have L:=Yc B;have J:=y _ (Ya w2 _ (.loop {d .ready none with state:= .busy})) (by simp) (World.putObj_heap_same L);refine wpIn_mono (vc_sound (ro:=some (w.heap.size+1)) hm body _ _ _ _ N J Q (λl f w h=>h)) ?_;rintro e a3 E ⟨f3,a0,_,j⟩;cases e<;>simp only[rndK] at j<;>try exact j.elim
   case normal=>
    obtain⟨k,o⟩:=j;exact⟨_,_,run_endRound none k,o _ (Ya E _ _) (by simp) (World.putObj_heap_same (Yc k))⟩
   case ret=>
    obtain⟨k,o⟩:=j;exact⟨_,_,run_endRound (some .ret) k,o _ (Ya E _ _) (by simp) (World.putObj_heap_same (Yc k))⟩
   case exit i=>
    cases hi:Nat.beq i x
    .rw[hi] at j;exact j.elim
    .rw[hi] at j;obtain rfl:=gq hi;obtain⟨k,o⟩:=j;exact⟨_,_,run_endRound (some (.exit i)) k,o _ (Ya E _ _) (by simp) (World.putObj_heap_same (Yc k))⟩
theorem kN0 (hm:P.follows .mixedOrders=true):∀(c:Code) (p:Exit->Fr->World->Prop) (q:Nat->Exit->Fr->World->Prop) (f:Fr) (a:Act) (w:World),okX n T c=true->vx T x c p q f w->Sim [] n f a->
  (∀l f w,¬p (.goto l) f w)->(∀D l f w,¬q D (.goto l) f w)->c.wpIn (FR none) 0 P (ZX0 n p q) a w:=by
 intro c;induction c with
 |rangeFunc g ps asg body _ _=>intro p q f a w d h hs _ _;exact range_sound hm d h hs
 |seq y z ihy ihz=>
  intro p q f a w d h hs o s;refine wpIn_seq ?_;simp only[okX] at d;simp only[vx] at h;cases E:hasR y with
  |true=>
   rw[E] at d h;simp only[cond,gd] at d;simp only at h;refine wpIn_mono (ihy _ _ f a w d.1 h hs (λl f w h=>o l f w h) (λD l f w h=>s D l f w h)) ?_;rintro e r w' (⟨m,j,k⟩|⟨D,m,j,k⟩)
   .cases e with
    |normal=>
     refine wpIn_mono (vc_sound hm z p m r w' d.2 k j o) ?_;rintro e A w'' ⟨u,t,_,v⟩;exact .inl ⟨u,t,v⟩
    |_=>exact .inl ⟨m,j,k⟩
   .cases e with
    |normal=>
     refine wpIn_mono (vc_sound hm z (q D) m r w' d.2 k j (s D)) ?_;rintro e A w'' ⟨u,t,_,v⟩;exact .inr ⟨D,u,t,v⟩
    |_=>exact .inr ⟨D,m,j,k⟩
  |false=>
   rw[E] at d h;simp only[cond,gd] at d;simp only at h;refine wpIn_mono (vc_sound hm y _ f a w d.1 h hs (λl f w h=>o l f w h)) ?_;rintro e r w' ⟨m,j,_,k⟩;cases e with
   |normal=>exact ihz p q m r w' d.2 k j o s
   |_=>exact .inl ⟨m,j,k⟩
 |block id b F=>
  intro p q f a w d h hs o s;simp only[vx] at h;refine wpIn_block (wpIn_mono (F _ _ f a w d h hs (λl f w h=>o l f w h) (λD l f w h=>s D l f w h)) ?_);have key:∀(K:Exit->Fr->World->Prop) (e:Exit) (m:Fr) (w':World),blkK id K e m w'->∀(df:List Deferred) (r:Act),Sim df n m r->(∀e f w a,Sim df n f a->K e f w->ZX0 n p q e a w)->Exit.inBlock id (ZX0 n p q) e r w':=by
   intro K e m w' k df r j B;cases e with
   |exit i=>
    simp only[blkK] at k;cases hi:Nat.beq i id
    .rw[hi] at k;have C:i≠id:=Nat.ne_of_beq_eq_false hi;simp only[Exit.inBlock,C,if_false];exact B _ _ _ _ j k
    .rw[hi] at k;have:i=id:=gq hi;subst this;simp only[Exit.inBlock,if_true];exact B _ _ _ _ j k
   |_=>exact B _ _ _ _ j k
  rintro e r w' (⟨m,j,k⟩|⟨D,m,j,k⟩)
  .exact key p e m w' k [] r j λe f w a hs h=> .inl ⟨f,hs,h⟩
  .exact key (q D) e m w' k [Xw0 D] r j λe f w a hs h=> .inr ⟨D,f,hs,h⟩
 |_=>intro p q f a w d;exact absurd d (by simp[okX])
def xM0 (D:Nat) (w:World) (k:World->Prop):Prop:=w.heap[D]?=some (.deferred (some []))/\∀w',Same (· =D) w w'->w'.heap.size=w.heap.size->k w'
def retM (rs:List ResultVar) (K:oK) (D:Nat) (e:Exit) (f:Fr) (w:World):Prop:=
 match e with
 | .normal=>xM0 D w λw'=>X30 rs f w' K
 | .ret=>xM0 D w λw'=>X30 rs f w' K
 |_=>False
theorem yr0 {g:Nat} {fn:Func} {c:Code} {args:List Value} {w:World} {K:oK} (hm:P.follows .mixedOrders=true) (r:P.funcs[g]?=some fn) (q:fn.body=some c)
  (t:fn.ntmps=n) (s:okFn g=true) (j:okX n T c=true) (hlen:Nat.ble args.length n=true)
  (h:vx T x c (retF fn.results.toList K) (retM fn.results.toList K) (nthV args) w):vcall g args.toArray w K:=by
 refine⟨s,callsIn_wide (n:=0).1 (callsIn_of_wp_marks r q trivial ?_)⟩;rw[t];refine wpIn_mono (kN0 (x:=x) hm c _ _ _ _ w j h (sim_enter args n (Pf hlen)) (λl f w h=>h) (λD l f w h=>h)) ?_;rintro e k w' (⟨m,a,b⟩|⟨D,m,a,b⟩)
 .cases e with
  |normal=>obtain⟨v,d,i⟩:=vres_sound b a;rw[bodyPostM,a.defers];exact⟨v,d,i⟩
  |ret=>obtain⟨v,d,i⟩:=vres_sound b a;rw[bodyPostM,a.defers];exact⟨v,d,i⟩
  |_=>exact b.elim
 .have fin:xM0 D w' (λw'=>X30 fn.results.toList m w' K)->LeavesInM (FR none) 0 P fn k.tmps (retK K) k.defers .returning w':=by
   rintro⟨o,p⟩;rw[a.defers];obtain⟨v,d,i⟩:=vres_sound (p _ (Ya w' D (.deferred none)) (by simp)) a;exact⟨by simp,.inl ⟨_,_,rfl,run_takeDeferred o,v,d,i⟩⟩
  cases e with
  |normal=>exact fin b
  |ret=>exact fin b
  |_=>exact b.elim
end
end
end Go.Vc
section
namespace Go.M
inductive Tm where
 |mk (op a b:Int) (s:ByteArray) (ks:List Tm)
namespace Tm
def op:Tm->Int|mk o _ _ _ _=>o
def a:Tm->Int|mk _ a _ _ _=>a
def b:Tm->Int|mk _ _ b _ _=>b
def s:Tm->ByteArray|mk _ _ _ s _=>s
def ks:Tm->List Tm|mk _ _ _ _ ks=>ks
theorem ind {p:Tm->Prop} (h:∀t,(∀k,k∈t.ks->p k)->p t):∀t,p t
 |mk o a b s ks=>h _ λk (c:k∈ks)=>by
   have:=List.sizeOf_lt_of_mem c;exact ind h k
decreasing_by
 grind
variable {α:Type}
mutual
def fold (f:Tm->List α->α):Tm->α
 |mk o a b s ks=>f (mk o a b s ks) (foldL f ks)
def foldL (f:Tm->List α->α):List Tm->List α
 |[]=>[]
 |k::r=>fold f k::foldL f r
end
theorem foldL_eq (f:Tm->List α->α) (ks:List Tm):foldL f ks=ks.map (fold f):=by
 induction ks with
 |nil=>simp only[foldL,Px]
 |cons k r a=>simp only[foldL,a,GA]
theorem fold_eq (f:Tm->List α->α) (t:Tm):fold f t=f t (t.ks.map (fold f)):=by
 cases t with
 |mk o a b s ks=>simp only[fold,foldL_eq];rfl
end Tm
def nada:ByteArray:=⟨#[]⟩
instance:Inhabited Tm:=⟨.mk 0 0 0 nada []⟩
def vok (w n:Int):Bool:=decide (1<=w)&&decide (w<=4)&&decide (0<=n)&&decide (n<2^w.toNat)
theorem vok_iff {w n:Int}:vok w n=true↔1<=w/\w<=4/\0<=n/\n<2^w.toNat:=by simp[vok,and_assoc]
theorem four {w:Int} (a:1<=w) (b:w<=4):w=1\/w=2\/w=3\/w=4:=oM
theorem vok_lt {w n:Int} (h:vok w n=true):1<=w/\w<=4/\0<=n/\n<16:=by
 obtain⟨a,b,c,d⟩:=vok_iff.1 h
 grind [four]
theorem small1 {p:Nat->Nat->Prop} [∀w n,Decidable (p w n)] (h:∀w:Fin 5,∀n:Fin 16,1<=w.1->n.1<2^w.1->p w n) {w n:Int} (a:vok w n=true):p w.toNat n.toNat:=by
 obtain⟨b,c,d,e⟩:=vok_lt a;obtain⟨_,_,_,f⟩:=vok_iff.1 a;refine h ⟨w.toNat,oM⟩ ⟨n.toNat,oM⟩ (by grind) ?_
 grind
def unM (op w a:Int):Int:=if op=1 then 2^w.toNat-1-a else(2^w.toNat-a)%2^w.toNat
def binN (op w a b:Nat):Nat:=
 if op=3 then a&&&b
 else if op=4 then a|||b
 else if op=5 then a^^^b
 else if op=6 then(a+b)%2^w
 else if op=7 then(a+2^w-b)%2^w
 else if op=8 then a*b%2^w
 else if op=9 then(if b=0 then 2^w-1 else a/b)
 else if op=10 then(if b=0 then a else a%b)
 else if op=11 then a*2^b%2^w
 else if op=12 then a/2^b
 else if a<2^(w-1) then a/2^b else 2^w-1-(2^w-1-a)/2^b
def binM (op w a b:Int):Int:=binN op.toNat w.toNat a.toNat b.toNat
def catM (v a b:Int):Int:=a*2^v.toNat+b
def sgn (w a:Int):Int:=if a<2^(w.toNat-1) then a else a-2^w.toNat
def cmpM (op w a b:Int):Bool:=if op=15 then decide (a=b) else if op=16 then decide (a<b) else decide (sgn w a<sgn w b)
def cutM (a hi lo:Int):Int:=a/2^lo.toNat%2^(hi-lo+1).toNat
theorem unM_ok {op w a:Int} (h:vok w a=true):vok w (unM op w a)=true:=by
 obtain⟨b,c,d,e⟩:=vok_iff.1 h;refine vok_iff.2 ⟨b,c,?_⟩;unfold unM;omega
def XI0 (op w:Nat):Bool:=(List.range 16).all λa=>(List.range 16).all λb=> !(decide (a<2^w)&&decide (b<2^w))||decide (binN op w a b<2^w)
theorem binN_lt {op w a b:Nat} (f:3<=op) (h:op<=13) (hw:1<=w) (d:w<=4) (g:a<2^w) (i:b<2^w):binN op w a b<2^w:=by
 have c:∀o:Fin 14,∀v:Fin 5,3<=o.1->1<=v.1->XI0 o v=true:=by decide+kernel
 have e:2^w<=2^4:=Gi oM d;have:=c ⟨op,oM⟩ ⟨w,oM⟩ f hw;simp only[XI0,Gb,gJ,Gv,gV,pg,decide_eq_false_iff_not,X0] at this
 grind
theorem binM_ok {op w a b:Int} (k:3<=op) (c:op<=13) (g:vok w a=true) (h:vok w b=true):vok w (binM op w a b)=true:=by
 obtain⟨i,j,l,m⟩:=vok_iff.1 g;obtain⟨_,_,d,f⟩:=vok_iff.1 h;have e:((2^w.toNat:Nat):Int)=2^w.toNat:=by simp
 have:=binN_lt (op:=op.toNat) (w:=w.toNat) (a:=a.toNat) (b:=b.toNat) oM oM oM oM oM oM
 grind [vok_iff,binM]
theorem cat_ok {v w a b:Int} (c:vok w a=true) (d:vok v b=true) (hs:w+v<=4):vok (w+v) (catM v a b)=true:=by
 obtain⟨e,f,g,h⟩:=vok_iff.1 c;obtain⟨i,j,k,l⟩:=vok_iff.1 d;refine vok_iff.2 ⟨oM,hs,?_⟩;unfold catM
 grind [four]
theorem cut_ok {w a hi lo:Int} (b:vok w a=true) (c:0<=lo) (h:lo<=hi) (hw:hi<w):vok (hi-lo+1) (cutM a hi lo)=true:=by
 obtain⟨d,e,f,g⟩:=vok_iff.1 b;refine vok_iff.2 ⟨oM,oM,?_⟩;unfold cutM;omega
def vecUn (op w n:Int):(Int×Int)×Bool:=if vok w n=true/\(op=1\/op=2) then((w,unM op w n),true) else((0,0),false)
def vecBin (op w n v m:Int):(Int×Int)×Bool:=
 if vok w n=true/\vok v m=true then
  if op=14 then(if w+v<=4 then((w+v,catM v n m),true) else((0,0),false))
  else if 3<=op/\op<=13/\w=v then((w,binM op w n m),true) else((0,0),false)
 else((0,0),false)
def vecCmp (op w n v m:Int):Bool×Bool:=
 if vok w n=true/\vok v m=true/\w=v/\15<=op/\op<=17 then(cmpM op w n m,true) else(false,false)
def vecCut (w n hi lo:Int):(Int×Int)×Bool:=if vok w n=true/\0<=lo/\lo<=hi/\hi<w then((hi-lo+1,cutM n hi lo),true) else((0,0),false)
theorem vok_nat {w n:Int} (h:vok w n=true):∃k a:Nat,w=k/\n=a/\1<=k/\k<=4/\a<2^k:=by
 obtain⟨b,c,d,e⟩:=vok_iff.1 h;refine⟨w.toNat,n.toNat,oM,oM,oM,oM,?_⟩
 grind
theorem unM_not {k a:Nat} (c:1<=k) (d:k<=4) (h:a<2^k):unM 1 k a=((18446744073709551615-a)%2^k:Nat):=by
 have b:∀v:Fin 5,∀x:Fin 16,1<=v.1->x.1<2^v.1->unM 1 v.1 x.1=((18446744073709551615-x.1)%2^v.1:Nat):=by decide+kernel
 have:2^k<=2^4:=Gi oM d;exact b ⟨k,oM⟩ ⟨a,oM⟩ c h
theorem unM_neg {k a:Nat} (c:1<=k) (d:k<=4) (h:a<2^k):unM 2 k a=((if a=0 then 0 else 18446744073709551616-a)%2^k:Nat):=by
 have b:∀v:Fin 5,∀x:Fin 16,1<=v.1->x.1<2^v.1->unM 2 v.1 x.1=((if x.1=0 then 0 else 18446744073709551616-x.1)%2^v.1:Nat):=by decide+kernel
 have:2^k<=2^4:=Gi oM d;exact b ⟨k,oM⟩ ⟨a,oM⟩ c h
theorem cat_or {k v a b:Nat} (d:v<=4) (f:k<=4) (i:a<2^k) (e:b<2^v):((a*2^v|||b:Nat):Int)=catM v a b:=by
 have c:∀v:Fin 5,∀x y:Fin 16,y.1<2^v.1->x.1*2^v.1|||y.1=x.1*2^v.1+y.1:=by decide+kernel
 have g:2^k<=2^4:=Gi oM f;have h:2^v<=2^4:=Gi oM d;have:=c ⟨v,oM⟩ ⟨a,oM⟩ ⟨b,oM⟩ e
 grind [catM]
end Go.M
end
namespace Go.M
open Go.Vc
abbrev Dcl:=ByteArray×Int
def findD (ds:List Dcl) (s:ByteArray):Int:=idxI ds.length λi=>decide ((ds.getD i (nada,0)).1=s)
def tru:ByteArray:=⟨#[116,114,117,101]⟩
def nameOk (s:ByteArray):Bool:=decide (1<=s.size)&&decide (s.size<=4)&&decide (s≠tru)&&s.data.all λc=>decide (97<=c.toNat)&&decide (c.toNat<=122)
def bits (ds:List Dcl):Int:=(ds.map (·.2)).sum
def dclOk (ds:List Dcl) (i:Nat):Bool:=nameOk (ds.getD i (nada,0)).1&&decide (1<=(ds.getD i (nada,0)).2)&&decide ((ds.getD i (nada,0)).2<=4)&&decide (findD (ds.take i) (ds.getD i (nada,0)).1<0)
def declOk (ds:List Dcl):Bool:=decide (ds.length<=4)&&((List.range ds.length).all λi=>dclOk ds i)&&decide (bits ds<=8)
def envOk (ds:List Dcl) (env:oI):Bool:=declOk ds&&decide (env.length=ds.length)&&(List.range ds.length).all λi=>vok (ds.getD i (nada,0)).2 (env.getD i 0)
theorem findD_lt (ds:List Dcl) (s:ByteArray): -1<=findD ds s/\findD ds s<ds.length:=by
 grind [findD,idxI]
theorem findD_neg {ds:List Dcl} {s:ByteArray} (h:findD ds s<0) {j:Nat} (a:j<ds.length):(ds.getD j (nada,0)).1≠s:=by
 grind [findD,idxI]
theorem findD_get {ds:List Dcl} {s:ByteArray} (h:0<=findD ds s):(ds.getD (findD ds s).toNat (nada,0)).1=s:=by
 grind [findD,idxI]
theorem findD_of {ds:List Dcl} {s:ByteArray} {i:Nat} (hi:i<ds.length) (h:(ds.getD i (nada,0)).1=s) (b:∀j,j<i->(ds.getD j (nada,0)).1≠s):findD ds s=i:=
 idxI_some hi (by grind) λj a=>gj (b j a)
theorem findD_none {ds:List Dcl} {s:ByteArray} (b:∀j,j<ds.length->(ds.getD j (nada,0)).1≠s):findD ds s= -1:=
 Kr λj a=>gj (b j a)
theorem decl_iff {ds:List Dcl}:declOk ds=true↔ds.length<=4/\(∀i,i<ds.length->dclOk ds i=true)/\bits ds<=8:=by
 grind [declOk]
theorem take_getD {α:Type} {l:List α} {i j:Nat} {d:α} (h:j<i):(l.take i).getD j d=l.getD j d:=by
 grind
theorem dcl_apart {ds:List Dcl} (h:declOk ds=true) {i j:Nat} (hi:i<ds.length) (b:j<i):(ds.getD j (nada,0)).1≠(ds.getD i (nada,0)).1:=by
 have:=(decl_iff.1 h).2.1 i hi;simp only[dclOk,gd,X0] at this;have a:=findD_neg this.2 (j:=j) (by rw[gh];omega);rwa[take_getD b] at a
def bitT (ds:List Dcl) (i:Nat):Int:=((ds.take i).map (·.2)).sum
theorem bitT_succ {ds:List Dcl} {i:Nat} (h:i<ds.length):bitT ds (i+1)=bitT ds i+(ds.getD i (nada,0)).2:=by
 grind [bitT,List.take_add_one]
theorem bitT_all (ds:List Dcl):bitT ds ds.length=bits ds:=by unfold bitT bits;grind
theorem dcl_wide {ds:List Dcl} (h:declOk ds=true) {i:Nat} (hi:i<ds.length):1<=(ds.getD i (nada,0)).2/\(ds.getD i (nada,0)).2<=4:=by
 simp_all[declOk,dclOk]
theorem env_ok {ds:List Dcl} {env:oI} (h:envOk ds env=true):declOk ds=true/\env.length=ds.length/\∀i,i<ds.length->vok (ds.getD i (nada,0)).2 (env.getD i 0)=true:=by
 grind [envOk]
def sizeM:Tm->Nat:=Tm.fold λ_ xs=>1+xs.sum
def deepM:Tm->Nat:=Tm.fold λ_ xs=>1+xs.foldl max 0
theorem sizeM_eq (t:Tm):sizeM t=1+(t.ks.map sizeM).sum:=Tm.fold_eq _ t
theorem Yf (t:Tm):deepM t=1+(t.ks.map deepM).foldl max 0:=Tm.fold_eq _ t
def szT (ks:List Tm) (i:Nat):Nat:=((ks.take i).map sizeM).sum
def dpT (ks:List Tm) (i:Nat):Nat:=((ks.take i).map deepM).foldl max 0
theorem take_add {α:Type} {l:List α} {i:Nat} (h:i<l.length) (d:α):l.take (i+1)=l.take i++[l.getD i d]:=by
 simp_all
theorem szT_succ {ks:List Tm} {i:Nat} (h:i<ks.length):szT ks (i+1)=szT ks i+sizeM (ks.getD i default):=by
 grind [szT,take_add]
theorem dpT_succ {ks:List Tm} {i:Nat} (h:i<ks.length):dpT ks (i+1)=max (dpT ks i) (deepM (ks.getD i default)):=by
 grind [dpT,take_add]
theorem szT_all (t:Tm):sizeM t=1+szT t.ks t.ks.length:=by rw[sizeM_eq,szT,gy]
theorem dpT_all (t:Tm):deepM t=1+dpT t.ks t.ks.length:=by rw[Yf,dpT,gy]
theorem szT_mono {ks:List Tm} {i:Nat}:∀{j:Nat},i<=j->j<=ks.length->szT ks i<=szT ks j
 |0,h,_=>by
  grind
 |j+1,h,a=>by
  by_cases e:i=j+1
  .grind
  .have:=szT_mono (ks:=ks) (i:=i) (j:=j) oM oM;rw[szT_succ oM];omega
theorem dpT_mono {ks:List Tm} {i:Nat}:∀{j:Nat},i<=j->j<=ks.length->dpT ks i<=dpT ks j
 |0,h,_=>by
  grind
 |j+1,h,a=>by
  by_cases e:i=j+1
  .grind
  .have:=dpT_mono (ks:=ks) (i:=i) (j:=j) oM oM;rw[dpT_succ oM];omega
def fits (t:Tm):Bool:=decide (sizeM t<=20)&&decide (deepM t<=7)
theorem fits_iff {t:Tm}:fits t=true↔sizeM t<=20/\deepM t<=7:=by simp[fits]
def manyM (t:Tm):Nat:=if fits t then sizeM t else 21
def lvlM (t:Tm):Nat:=if fits t then deepM t else 8
def arity (o:Int):Int:=if o=20\/o=21\/o=24 then 0 else if o=1\/o=2\/o=22\/o=25 then 1 else if o=23 then 3 else if o=26\/o=27 then 2 else if 3<=o/\o<=17 then 2 else-1
def plainM (t:Tm):Bool:=(decide (t.op=20)||decide (t.op=22)||(decide (t.a=0)&&decide (t.b=0)))&&(decide (t.op=21)||decide (t.s=nada))
def sortK (ds:List Dcl) (t:Tm) (xs:oI):Int:=
 if t.op=20 then(if vok t.a t.b then t.a else-1)
 else if t.op=21 then(if findD ds t.s<0 then-1 else(ds.getD (findD ds t.s).toNat (nada,0)).2)
 else if 24<=t.op then(if xs.any (λx=>decide (x≠0)) then-1 else 0)
 else if t.op=23 then(if xs.getD 0 0=0/\xs.getD 1 0=xs.getD 2 0 then xs.getD 1 0 else-1)
 else if t.op=22 then(if 0<=t.b/\t.b<=t.a/\t.a<xs.getD 0 0 then t.a-t.b+1 else-1)
 else if t.op<=2 then(if 0<xs.getD 0 0 then xs.getD 0 0 else-1)
 else if t.op=14 then(if 0<xs.getD 0 0/\0<xs.getD 1 0/\xs.getD 0 0+xs.getD 1 0<=4 then xs.getD 0 0+xs.getD 1 0 else-1)
 else if 15<=t.op then(if 0<xs.getD 0 0/\xs.getD 0 0=xs.getD 1 0 then 0 else-1)
 else(if 0<xs.getD 0 0/\xs.getD 0 0=xs.getD 1 0 then xs.getD 0 0 else-1)
def formed (t:Tm):Bool:=decide (arity t.op=t.ks.length)&&plainM t
def sortF (ds:List Dcl) (t:Tm) (xs:oI):Int:=if formed t=true/\¬(-1∈xs) then sortK ds t xs else-1
def sortM (ds:List Dcl):Tm->Int:=Tm.fold (sortF ds)
theorem sortM_eq (ds:List Dcl) (t:Tm):sortM ds t=sortF ds t (t.ks.map (sortM ds)):=Tm.fold_eq _ t
theorem arity_ops {o:Int} (h:0<=arity o):(1<=o/\o<=17)\/(20<=o/\o<=27):=by
 grind [arity]
theorem getD_map {α β:Type} (f:α->β) {l:List α} {i:Nat} (h:i<l.length) (d:β) (e:α):(l.map f).getD i d=f (l.getD i e):=by
 grind
theorem getD_mem {α:Type} {l:List α} {i:Nat} (h:i<l.length) (d:α):l.getD i d∈l:=by
 grind
theorem sort_parts {ds:List Dcl} {t:Tm} (h:sortM ds t≠ -1):formed t=true/\(∀k,k∈t.ks->sortM ds k≠ -1)/\sortM ds t=sortK ds t (t.ks.map (sortM ds)):=by
 rw[sortM_eq] at h⊢
 grind [sortF]
theorem sort_range {ds:List Dcl} (c:declOk ds=true):∀t,-1<=sortM ds t/\sortM ds t<=4:=by
 refine Tm.ind λt k=>?_;rw[sortM_eq];unfold sortF;split
 .rename_i j;have a:∀i,-1<=(t.ks.map (sortM ds)).getD i 0/\(t.ks.map (sortM ds)).getD i 0<=4:=(by grind);have f:=a 0;have g:=a 1;have h:=a 2;have b:=arity_ops (o:=t.op) (by
   grind [formed])
  unfold sortK;split
  .split
   .rename_i e;have:=vok_lt e;omega
   .omega
  .split
   .have d:=findD_lt ds t.s;split
    .omega
    .have:=dcl_wide c (i:=(findD ds t.s).toNat) oM;omega
   omega
 .omega
def tsort (ds:List Dcl) (t:Tm):Int:=if fits t=true/\declOk ds=true then sortM ds t else-1
def b2i (b:Bool):Int:=if b then 1 else 0
def valK (ds:List Dcl) (env:oI) (t:Tm) (xs:List (Int×Int)):Int:=
 if t.op=20 then t.b
 else if t.op=21 then env.getD (findD ds t.s).toNat 0
 else if t.op=24 then 1
 else if t.op=25 then b2i (decide ((xs.getD 0 (0,0)).2=0))
 else if t.op=26 then b2i (decide ((xs.getD 0 (0,0)).2=1)&&decide ((xs.getD 1 (0,0)).2=1))
 else if t.op=27 then b2i (decide ((xs.getD 0 (0,0)).2=1)||decide ((xs.getD 1 (0,0)).2=1))
 else if t.op=23 then(if(xs.getD 0 (0,0)).2=1 then(xs.getD 1 (0,0)).2 else(xs.getD 2 (0,0)).2)
 else if t.op=22 then cutM (xs.getD 0 (0,0)).2 t.a t.b
 else if t.op<=2 then unM t.op (xs.getD 0 (0,0)).1 (xs.getD 0 (0,0)).2
 else if t.op=14 then catM (xs.getD 1 (0,0)).1 (xs.getD 0 (0,0)).2 (xs.getD 1 (0,0)).2
 else if 15<=t.op then b2i (cmpM t.op (xs.getD 0 (0,0)).1 (xs.getD 0 (0,0)).2 (xs.getD 1 (0,0)).2)
 else binM t.op (xs.getD 0 (0,0)).1 (xs.getD 0 (0,0)).2 (xs.getD 1 (0,0)).2
def vecF (ds:List Dcl) (env:oI) (t:Tm) (xs:List (Int×Int)):Int×Int:=(sortF ds t (xs.map (·.1)),valK ds env t xs)
def vecM (ds:List Dcl) (env:oI):Tm->Int×Int:=Tm.fold (vecF ds env)
def evalM (ds:List Dcl) (env:oI) (t:Tm):Int:=(vecM ds env t).2
theorem qQ0 (ds:List Dcl) (env:oI) (t:Tm):vecM ds env t=vecF ds env t (t.ks.map (vecM ds env)):=Tm.fold_eq _ t
theorem vecM_sort (ds:List Dcl) (env:oI):∀t,(vecM ds env t).1=sortM ds t:=by
 refine Tm.ind λt a=>?_;rw[qQ0,sortM_eq];show sortF ds t _=_
 grind [List.map_congr_left]
theorem vecM_pair (ds:List Dcl) (env:oI) (t:Tm):vecM ds env t=(sortM ds t,evalM ds env t):=by rw[<-vecM_sort ds env t];rfl
theorem evalM_eq (ds:List Dcl) (env:oI) (t:Tm):evalM ds env t=valK ds env t (t.ks.map (vecM ds env)):=by
 unfold evalM;rw[qQ0];rfl
def inS (w n:Int):Prop:=(w=0/\(n=0\/n=1))\/vok w n=true
theorem Zs0 {b:Bool}:inS 0 (b2i b):=by left;cases b<;>simp[b2i]
theorem inS_zero {n:Int} (h:inS 0 n):n=0\/n=1:=by
 rcases h with h|h
 .exact h.2
 .exact absurd (vok_lt h).1 oM
theorem inS_pos {w n:Int} (h:inS w n) (hw:0<w):vok w n=true:=by
 rcases h with h|h
 .omega
 .exact h
theorem eval_in {ds:List Dcl} {env:oI} (he:envOk ds env=true):∀t,sortM ds t≠ -1->inS (sortM ds t) (evalM ds env t):=by
 obtain⟨A,C,D⟩:=env_ok he;refine Tm.ind λt E h=>?_;obtain⟨r,B,hs⟩:=sort_parts h;rw[hs] at h;rw[hs,evalM_eq];simp only[formed,gd,X0] at r;obtain⟨x,z⟩:=r;have u:=arity_ops (o:=t.op) oM;have k:∀i,i<t.ks.length->(t.ks.map (sortM ds)).getD i 0=sortM ds (t.ks.getD i default):=by grind
 have l:∀i,i<t.ks.length->(t.ks.map (vecM ds env)).getD i (0,0)=(sortM ds (t.ks.getD i default),evalM ds env (t.ks.getD i default)):=by grind [getD_map,default,vecM_pair]
 have b:∀i,i<t.ks.length->inS (sortM ds (t.ks.getD i default)) (evalM ds env (t.ks.getD i default)):=by grind
 unfold sortK at h⊢;unfold valK;by_cases d:t.op=20
 .simp only[d,if_true] at h⊢;split
  .right;assumption
  grind
 simp only[y0 d] at h⊢;by_cases f:t.op=21
 .simp only[f,if_true] at h⊢;have y:=findD_lt ds t.s;split
  .omega
  .right;grind
 simp only[y0 f] at h⊢;by_cases j:24<=t.op
 .simp only[y3 j] at h⊢;split
  .grind
  .rcases(by omega:t.op=24\/t.op=25\/t.op=26\/t.op=27) with e|e|e|e
   .left;simp[e]
   .simp only[e];exact Zs0
   .simp only[e];exact Zs0
   .simp only[e];exact Zs0
 simp only[y0 j,y0 (show¬t.op=24 by omega),y0 (show¬t.op=25 by omega),y0 (show¬t.op=26 by omega),y0 (show¬t.op=27 by omega)] at h⊢;by_cases n:t.op=23
 .grind [arity]
 simp only[y0 n] at h⊢;by_cases g:t.op=22
 .simp only[g,if_true] at h⊢;have q:t.ks.length=1:=(by grind [arity]);rw[k 0 oM] at h⊢;rw[l 0 oM];split
  .rename_i a;right;exact cut_ok (inS_pos (b 0 oM) oM) a.1 a.2.1 a.2.2
  omega
 simp only[y0 g] at h⊢;by_cases p:t.op<=2
 .simp only[y3 p] at h⊢;have q:t.ks.length=1:=by
   grind [arity]
  rw[k 0 oM] at h⊢;rw[l 0 oM];split
  .rename_i a;right
   grind [unM_ok,inS_pos]
  omega
 simp only[y0 p] at h⊢;have q:t.ks.length=2:=by
  grind [arity]
 have v:=k 0 oM;have w:=k 1 oM;rw[v,w] at h⊢;rw[l 0 oM,l 1 oM];have i0:=b 0 oM;have i1:=b 1 oM;by_cases c:t.op=14
 .simp only[c,if_true] at h⊢;split
  .rename_i a;right;exact cat_ok (inS_pos i0 a.1) (inS_pos i1 a.2.1) a.2.2
  omega
 simp only[y0 c] at h⊢;by_cases m:15<=t.op
 .grind [Zs0]
 simp only[y0 m] at h⊢;split
 .rename_i a;right
  grind [binM_ok,inS_pos]
 omega
end Go.M
namespace Go.Vc
open Go Go.M
section
section
variable {F F' S:oA} {w w':World} {K:oK} {k:Nat} {v:Value} {xs:List (List Value)}
theorem Sl.ldAgg (h:Sl F w k v xs) {t:TypeId} (b:aggB t k=true) {i:Nat} (hi:i<xs.length):zu t (oE (eaddr v k i)) w K=K (.agg ⟨xs.getD i []⟩) w:=by
 have a:(xs.getD i []).length=k:=h.wide _ (M.getD_mem hi _);exact Xo (by rw[a];exact b) (Sl.cells h hi)
theorem Sl.ldField (h:Sl F w k v xs) {t:TypeId} (a:oneB t=true) {i j:Nat} {x:Value} (hi:i<xs.length) (b:(xs.getD i [])[j]?=some x):zu t (oE ((eaddr v k i).add j)) w K=K x w:=
 y5 a (Sl.cells h hi j x b)
theorem Sl.small (h:Sl F w k v xs):xs.length<=9223372036854775807:=by
 obtain⟨_,_,_,a,b,_⟩:=h.shape;omega
end
inductive TmR (F:oA) (w:World):List Value->Tm->Prop
 |mk {o a b:Int} {s:ByteArray} {ks:List Tm} {kv:Value} {css:List (List Value)}:Sl F w 5 kv css->css.length=ks.length->(∀i,i<ks.length->TmR F w (css.getD i []) (ks.getD i default))->
  TmR F w [nI o,nI a,nI b,.string s,kv] (.mk o a b s ks)
def TmsR (F:oA) (w:World) (kv:Value) (ks:List Tm):Prop:= ∃css:List (List Value),Sl F w 5 kv css/\css.length=ks.length/\∀i,i<ks.length->TmR F w (css.getD i []) (ks.getD i default)
def TermR (F:oA) (w:World) (v:Value) (t:Tm):Prop:= ∃kv,v= .agg ⟨[nI t.op,nI t.a,nI t.b,.string t.s,kv]⟩/\TmsR F w kv t.ks
def DclsR (F:oA) (w:World) (v:Value) (ds:List Dcl):Prop:=Sl F w 2 v (ds.map λd=>[.string d.1,nI d.2])
section
variable {F F' S:oA} {w w':World} {K:oK} {v:Value} {cs:List Value} {t:Tm} {ks:List Tm} {ds:List Dcl}
theorem TmR.same (h:TmR F w cs t) (hw:Same S w w') (hs:∀b,F b->b<w.heap.size->¬S b):TmR F w' cs t:=by
 induction h with
 |mk a c e d=>exact .mk (a.same hw hs) c d
theorem TmR.ext (h:TmR F w cs t) (hw:Ext w w'):TmR F w' cs t:=h.same hw λ_ _ _ h=>h
theorem TmR.weaken (h:TmR F w cs t) (d:∀b,F b->b<w.heap.size->F' b):TmR F' w cs t:=by
 induction h with
 |mk a c f e=>exact .mk (a.weaken d) c e
theorem TmR.inv (h:TmR F w cs t):∃kv,cs=[nI t.op,nI t.a,nI t.b,.string t.s,kv]/\TmsR F w kv t.ks:=by
 cases h with
 |mk c d e=>exact⟨_,rfl,_,c,d,e⟩
theorem TmR.of {kv:Value} (h:TmsR F w kv t.ks):TmR F w [nI t.op,nI t.a,nI t.b,.string t.s,kv] t:=by
 obtain⟨css,c,d,e⟩:=h;cases t with
 |mk o a b s ks=>exact .mk c d e
theorem TmR.term (h:TmR F w cs t):TermR F w (.agg ⟨cs⟩) t:=by
 obtain⟨kv,rfl,a⟩:=h.inv;exact⟨kv,rfl,a⟩
theorem TermR.cells (h:TermR F w v t):∃cs,v= .agg ⟨cs⟩/\TmR F w cs t:=by
 obtain⟨kv,rfl,a⟩:=h;exact⟨_,rfl,TmR.of a⟩
theorem TmsR.same (h:TmsR F w v ks) (hw:Same S w w') (hs:∀b,F b->b<w.heap.size->¬S b):TmsR F w' v ks:=by
 obtain⟨css,a,c,d⟩:=h;exact⟨css,a.same hw hs,c,λi hi=>(d i hi).same hw hs⟩
theorem TmsR.ext (h:TmsR F w v ks) (hw:Ext w w'):TmsR F w' v ks:=h.same hw λ_ _ _ h=>h
theorem TmsR.weaken (h:TmsR F w v ks) (a:∀b,F b->b<w.heap.size->F' b):TmsR F' w v ks:=by
 obtain⟨css,c,d,e⟩:=h;exact⟨css,c.weaken a,d,λi hi=>(e i hi).weaken a⟩
theorem TermR.same (h:TermR F w v t) (hw:Same S w w') (hs:∀b,F b->b<w.heap.size->¬S b):TermR F w' v t:=by
 obtain⟨kv,a,c⟩:=h;exact⟨kv,a,c.same hw hs⟩
theorem TermR.ext (h:TermR F w v t) (hw:Ext w w'):TermR F w' v t:=h.same hw λ_ _ _ h=>h
theorem TermR.weaken (h:TermR F w v t) (d:∀b,F b->b<w.heap.size->F' b):TermR F' w v t:=by
 obtain⟨kv,a,c⟩:=h;exact⟨kv,a,c.weaken d⟩
theorem TmsR.small (h:TmsR F w v ks):ks.length<=9223372036854775807:=by
 obtain⟨css,a,b,c⟩:=h;rw[<-b];exact a.small
theorem TmsR.len (h:TmsR F w v ks) {t:TypeId} (c:isSl t=true) (ty:TypeId):vbi .len [t] ty [v] w' K=K (nI ks.length) w':=by
 obtain⟨css,a,b,d⟩:=h;have:=Sl.len (K:=K) (w':=w') a c ty;rwa[b] at this
theorem TmsR.iaddr (h:TmsR F w v ks) {t:TypeId} (e:elB t 5=true) {kd:IntKind} {i:Int} (b:0<=i) (c:i<ks.length):
  y6 t v (.int kd i) w' K=K (oE (eaddr v 5 i.toNat)) w':=by
 obtain⟨css,a,d,f⟩:=h;exact Sl.iaddr a e b (by rw[d];exact c)
theorem TmsR.load (h:TmsR F w v ks) {t:TypeId} (d:aggB t 5=true) {i:Nat} (hi:i<ks.length) (c:∀x,TermR F w x (ks.getD i default)->K x w):zu t (oE (eaddr v 5 i)) w K:=by
 obtain⟨css,a,e,b⟩:=h;rw[a.ldAgg d oM];exact c _ (b i hi).term
theorem TmsR.nil:TmsR F w (oN) []:=⟨[],⟨⟨none,0,rfl,by simp,by simp,by simp⟩,by simp⟩,rfl,by simp⟩
theorem DclsR.same (h:DclsR F w v ds) (hw:Same S w w') (hs:∀b,F b->b<w.heap.size->¬S b):DclsR F w' v ds:=Sl.same h hw hs
theorem DclsR.ext (h:DclsR F w v ds) (hw:Ext w w'):DclsR F w' v ds:=Sl.ext h hw
theorem DclsR.weaken (h:DclsR F w v ds) (a:∀b,F b->b<w.heap.size->F' b):DclsR F' w v ds:=Sl.weaken h a
theorem DclsR.len (h:DclsR F w v ds) {t:TypeId} (a:isSl t=true) (ty:TypeId):vbi .len [t] ty [v] w' K=K (nI ds.length) w':=by
 have:=Sl.len (K:=K) (w':=w') h a ty;rwa[y4] at this
theorem DclsR.iaddr (h:DclsR F w v ds) {t:TypeId} (c:elB t 2=true) {kd:IntKind} {i:Int} (a:0<=i) (b:i<ds.length):
  y6 t v (.int kd i) w' K=K (oE (eaddr v 2 i.toNat)) w':=Sl.iaddr h c a (by rw[y4];exact b)
theorem z30 {i:Nat} (hi:i<ds.length):(ds.map λd=>[Value.string d.1,nI d.2]).getD i []=[.string (ds.getD i (nada,0)).1,nI (ds.getD i (nada,0)).2]:=M.getD_map _ hi _ _
theorem DclsR.load (h:DclsR F w v ds) {t:TypeId} (a:aggB t 2=true) {i:Nat} (hi:i<ds.length):zu t (oE (eaddr v 2 i)) w K=K (.agg ⟨[.string (ds.getD i (nada,0)).1,nI (ds.getD i (nada,0)).2]⟩) w:=by
 rw[Sl.ldAgg h a (by rw[y4];exact hi),z30 hi]
theorem DclsR.load0 (h:DclsR F w v ds) {t:TypeId} (a:oneB t=true) {i:Nat} (hi:i<ds.length):zu t (oE ((eaddr v 2 i).add 0)) w K=K (.string (ds.getD i (nada,0)).1) w:=
 Sl.ldField h a (by rw[y4];exact hi) (by rw[z30 hi];rfl)
theorem DclsR.load1 (h:DclsR F w v ds) {t:TypeId} (a:oneB t=true) {i:Nat} (hi:i<ds.length):zu t (oE ((eaddr v 2 i).add 1)) w K=K (nI (ds.getD i (nada,0)).2) w:=
 Sl.ldField h a (by rw[y4];exact hi) (by rw[z30 hi];rfl)
theorem DclsR.small (h:DclsR F w v ds):ds.length<=9223372036854775807:=by have:=Sl.small h;simpa using this
theorem Sl.base {k:Nat} {xs:List (List Value)} (h:Sl F w k v xs) (f:xs≠[]):∀a l c,v= .slice (some a) l c->∃b o,a=⟨b,o,none⟩:=by
 intro a l c e;obtain⟨i,c',rfl,_,_,g⟩:=h.shape;obtain⟨b,o,rfl,_⟩:=g f
 injection e with d j m
 injection d with d
 exact⟨b,o,d.symm⟩
theorem Sl.taken {k:Nat} {xs:List (List Value)} (h:Sl F w k v xs) {n:Nat} (t:n<=xs.length):Sl F w k (cutV v n) (xs.take n):=by
 obtain⟨a,c,rfl,s,m,q⟩:=h.shape;have l:(xs.take n).length=n:=by rw[gh];omega
 refine⟨⟨a,c,by rw[l];rfl,oM,m,λj=>?_⟩,λx r=>h.wide x (Gc r)⟩;have f:xs≠[]:=λe=>j (by rw[e,List.take_nil]);obtain⟨b,o,e,p,g,d⟩:=q f;refine⟨b,o,e,p,g,λi hi=>?_⟩;rw[l] at hi;rw[M.take_getD hi];exact d i oM
theorem DclsR.cut (h:DclsR F w v ds) (a:ds≠[]) {t:TypeId} (c:elB t 2=true) {kd:IntKind} {n:Nat} (b:n<=ds.length):xf t v none (some (.int kd n)) none w' K=K (cutV v n) w':=
 Sl.cut h (Sl.base h (by simpa using a)) c (by rw[y4];exact b)
theorem DclsR.taken (h:DclsR F w v ds) {n:Nat} (a:n<=ds.length):DclsR F w (cutV v n) (ds.take n):=by
 unfold DclsR;rw[GH];exact Sl.taken h (by rw[y4];exact a)
theorem Blk.sl1k {b k:Nat} {cs:List Value} {e:TypeId} (h:Blk w b cs e) (d:cs.length=k):Sl (· =b) w k (.slice (some ⟨b,0,none⟩) 1 1) [cs]:=by
 refine⟨⟨_,1,rfl,gp _,dC,λ_=>⟨b,0,rfl,rfl,h.lt,λi hi j v c=>?_⟩⟩,by simp[d]⟩;have a:i=0:=by simpa using hi
 subst a;rw[yx];simp only[PN,gX,GW];exact h.cell c
theorem Own.app1k {bs ty b k:Nat} {t e:TypeId} {xs:List (List Value)} {y:List Value} (h:Own 0 k t w v xs) (g:elZ t k bs=true) (j:0<k) (i:Blk w b y e) (l:y.length=k) (a:∀c,c∈y->c.oneCell'=true)
  (d:xs.length<9223372036854775807) (hlen:(xs.length+1)*bs<=140737488355328)
  (f:∀v' w',Own 0 k t w' v' (xs++[y])->Same (λb=>v.ownBlock=some b) w w'->(∀b,v'.ownBlock=some b->v.ownBlock=some b\/w.heap.size<=b)->K v' w'):vbi .append [t,t] ty [v,.slice (some ⟨b,0,none⟩) 1 1] w K:=
 vappend (F:=(· =b)) g j h (i.sl1k l) (by simpa using a) oM (by rw[Gd];omega) (by simpa using hlen) f
theorem qx {t e k:Nat} {z x:Value} {y:List Value} (hu:P.underlying t=some (.slice e)) (l:xZ e k=true) (hzero:yg e z) (i:x.cells=⟨y⟩) (j:y.length=k) (h:k<=16777216)
  (g:∀b w',b=w.heap.size->Ext w w'->w'.heap.size=w.heap.size+1->Blk w' b y e->K (.slice (some ⟨b,0,none⟩) 1 1) w'):vbuildS t 1 [(0,x)] w K:=by
 refine vbuildS_row (xs:=[x]) (us:=[y]) hu l hzero (by simp[i]) (by simp[j]) (by simpa using h) λb w' a c d f=>g b w' a c d (by simpa using f)
theorem Blk.ownk {b k n:Nat} {t:TypeId} {css:List (List Value)} (h:Blk w b css.flatten (Zx t)) (hw:∀x,x∈css->x.length=k) (c:n=css.length) (hm:n<=9223372036854775807):Own 0 k t w (.slice (some ⟨b,0,none⟩) n n) css:=by
 subst c;have a:=flatten_len hw;refine⟨⟨by rw[a],.inr ⟨b,css.length,⟨css.flatten⟩,by simp,gF _,h,gp _,by simpa[maxLen] using hm,by simpa using a,?_⟩⟩,hw⟩;show List.take (css.length*k) css.flatten=css.flatten;rw[<-a,gy]
theorem flatten_set {k:Nat}:∀{xs:List (List Value)} (_:∀x,x∈xs->x.length=k) {i j:Nat} (u:Value),i<xs.length->j<k->xs.flatten.set (i*k+j) u=(xs.set i ((xs.getD i []).set j u)).flatten
 |[],_,i,j,u,hi,_=>by simp at hi
 |x::r,h,i,j,u,hi,a=>by
  have c:=h x gi;cases i with
  |zero=>
   rw[PN,gX];simp only[GL,pb,pU];rw[List.set_append_left _ _ oM]
  |succ i=>
   simp only[GL,Pz,pr];rw[pK _ _ (by rw[GZ];omega)];congr 1;have e:(i+1)*k+j-x.length=i*k+j:=by rw[GZ];omega
   rw[e,flatten_set (λy b=>h y (gm _ b)) u (by simpa using hi) a]
theorem Own.stCell {k:Nat} {t e:TypeId} {xs:List (List Value)} {x:Value} (h:Own 0 k t w v xs) (E:x.cells= #[x]) (o:x.oneCell'=true) (G:xZ e 1=true) {i j:Nat} (hi:i<xs.length) (C:j<k)
  (p:∀w',Own 0 k t w' v (xs.set i ((xs.getD i []).set j x))->Same (λb=>v.ownBlock=some b) w w'->w'.heap.size=w.heap.size->K undef w'):zT e (oE ((eaddr v k i).add j)) x w K:=by
 rcases h.row.2 with⟨rfl,I⟩|⟨g,cap,cur,rfl,s,H,D,z,A,n⟩
 .omega
 .have a:=h.row;have d:i*k+j<xs.length*k:=by
   have:i*k+k<=xs.length*k:=by rw[<-Nat.succ_mul];exact pP _ hi
   omega
  have u:=World.ownsRow.cellAt a (i*k+j) d;have B:=World.ownsRow.frozenAt a (i*k+j);obtain⟨l,m⟩:=World.ownsRow.stored a (i*k+j) x;have f:(xs.getD i []).length=k:=h.wide _ (M.getD_mem hi _);have c:w.cell? ⟨g,i*k+j,none⟩=some (xs.flatten.getD (i*k+j) undef):=by
   rw[u];have:i*k+j<xs.flatten.length:=by rw[flatten_len h.wide];exact d
   rw[y2,V0 this];rfl
  have r:(⟨g,i*k+j,none⟩:Addr).add 0=⟨g,i*k+j,none⟩:=rfl;have he:(eaddr (.slice (some ⟨g,0,none⟩) xs.length cap) k i).add j=⟨g,i*k+j,none⟩:=by
   simp only[eaddr];rw[yx];simp
  rw[he];refine⟨(),w.setCell ⟨g,i*k+j,none⟩ x,?_,p _ ?_ (Same.of_grown m) (by simp)⟩
  .simp only[Instr.storeAt,Instr.sureAddr,Sem.run_bind,Sem.run_pure,Result.andThen_ok,storeVar,run_sizeOf G,E];cases x<;>first|(cases o;done)|simp[storeCells,store,Sem.run,r,c,B]
  .refine⟨?_,λy F=>?_⟩
   .rw[<-flatten_set h.wide x hi C];simpa using l
   .obtain⟨q,J,rfl⟩:=gn F;rw[pB];split
    .rw[gK];exact f
    .exact h.wide _ (G9 _)
def PairsR (F:oA) (w:World) (v:Value) (xs:List (Int×Int)):Prop:=Sl F w 2 v (xs.map λx=>[nI x.1,nI x.2])
def OwnP (t:TypeId) (w:World) (v:Value) (xs:List (Int×Int)):Prop:=Own 0 2 t w v (xs.map λx=>[nI x.1,nI x.2])
variable {xs:List (Int×Int)}
theorem PairsR.ext (h:PairsR F w v xs) (hw:Ext w w'):PairsR F w' v xs:=Sl.ext h hw
theorem PairsR.iaddr (h:PairsR F w v xs) {t:TypeId} (c:elB t 2=true) {kd:IntKind} {i:Int} (a:0<=i) (b:i<xs.length):
  y6 t v (.int kd i) w' K=K (oE (eaddr v 2 i.toNat)) w':=Sl.iaddr h c a (by rw[y4];exact b)
theorem PairsR.len (h:PairsR F w v xs) {t:TypeId} (a:isSl t=true) (ty:TypeId):vbi .len [t] ty [v] w' K=K (nI xs.length) w':=by
 have:=Sl.len (K:=K) (w':=w') h a ty;rwa[y4] at this
theorem PairsR.load (h:PairsR F w v xs) {t:TypeId} (a:aggB t 2=true) {i:Nat} (hi:i<xs.length):zu t (oE (eaddr v 2 i)) w K=K (.agg ⟨[nI (xs.getD i (0,0)).1,nI (xs.getD i (0,0)).2]⟩) w:=by
 rw[Sl.ldAgg h a (by rw[y4];exact hi),M.getD_map _ hi _ (0,0)]
theorem PairsR.load1 (h:PairsR F w v xs) {t:TypeId} (a:oneB t=true) {i:Nat} (hi:i<xs.length):zu t (oE ((eaddr v 2 i).add 1)) w K=K (nI (xs.getD i (0,0)).2) w:=
 Sl.ldField h a (by rw[y4];exact hi) (by rw[M.getD_map _ hi _ (0,0)];rfl)
theorem OwnP.pairs {t:TypeId} (h:OwnP t w v xs):PairsR (λb=>v.ownBlock=some b) w v xs:=Own.sl h
theorem OwnP.ext {t:TypeId} (h:OwnP t w v xs) (hw:Ext w w'):OwnP t w' v xs:=Own.ext h hw
theorem OwnP.nil (t:TypeId):OwnP t w (oN) []:=Own.nil 0 2 t w
end
end
end Go.Vc
namespace Go.Proofs.YtfnpmncplaibiaaGreatDoor
open Go Go.Vc Go.Proofs
theorem mixed:P.follows .mixedOrders=true:=rK
abbrev Zs:Nat:=6
abbrev Vj:Nat:=7
abbrev Vh:Nat:=8
abbrev Vg:Nat:=10
abbrev Ve:Nat:=11
abbrev Vm:Nat:=14
abbrev Vk:Nat:=15
abbrev J8:Nat:=16
abbrev J7:Nat:=17
abbrev Kh:Nat:=24
abbrev JV:Nat:=25
abbrev y20:Nat:=26
abbrev y80:Nat:=29
abbrev JY:Nat:=31
abbrev ZH:Nat:=32
abbrev Uc:Nat:=33
abbrev K4:Nat:=34
abbrev Qg:Nat:=35
abbrev JZ:Nat:=36
abbrev K2:Nat:=37
abbrev Ua:Nat:=38
abbrev U9:Nat:=39
abbrev zz0:Nat:=41
abbrev KX:Nat:=42
abbrev JN:Nat:=43
abbrev U8:Nat:=46
abbrev U7:Nat:=47
abbrev Ka:Nat:=48
abbrev qk:Nat:=49
abbrev Ud:Nat:=52
abbrev Ub:Nat:=53
abbrev ZI:Nat:=54
abbrev x10:Nat:=63
abbrev K5:Nat:=64
abbrev KW:Nat:=65
abbrev JR:Nat:=66
abbrev JQ:Nat:=67
abbrev U5:Nat:=68
abbrev JS:Nat:=69
abbrev Ug:Nat:=71
abbrev Vi:Nat:=72
abbrev Vf:Nat:=73
abbrev Vl:Nat:=74
abbrev WE:Nat:=75
abbrev yU0:Nat:=76
abbrev zK0:Nat:=77
abbrev WT:Nat:=78
abbrev zN0:Nat:=79
abbrev WL:Nat:=80
abbrev JW:Nat:=81
abbrev zY0:Nat:=83
abbrev Un:Nat:=84
abbrev xU:Nat:=85
abbrev q20:Nat:=86
abbrev Kd:Nat:=87
abbrev Qm:Nat:=88
abbrev X6:Nat:=89
abbrev kC:Nat:=90
abbrev Ql:Nat:=103
abbrev WW:Nat:=104
abbrev WX:Nat:=105
abbrev JU:Nat:=106
abbrev WV:Nat:=107
abbrev K8:Nat:=108
abbrev Uf:Nat:=109
abbrev WD:Nat:=110
abbrev KY:Nat:=111
abbrev yV0:Nat:=112
abbrev zF0:Nat:=113
abbrev zG0:Nat:=114
abbrev WK:Nat:=115
abbrev zR0:Nat:=116
abbrev yX0:Nat:=117
abbrev U0:Nat:=118
abbrev y10:Nat:=119
abbrev QV:Nat:=120
abbrev KU:Nat:=121
abbrev xV:Nat:=122
abbrev je0:Nat:=123
abbrev ZG:Nat:=124
abbrev Kf:Nat:=125
abbrev jO:Nat:=126
abbrev QX:Nat:=127
abbrev Vn:Nat:=128
abbrev Uj:Nat:=129
abbrev Zb:Nat:=130
abbrev X7:Nat:=131
abbrev jt:Nat:=132
abbrev ki:Nat:=133
abbrev zW0:Nat:=134
abbrev kR:Nat:=140
abbrev zX0:Nat:=146
abbrev Vb:Nat:=147
abbrev zU0:Nat:=148
abbrev WZ:Nat:=149
abbrev jZ:Nat:=150
abbrev jr:Nat:=151
abbrev qK:Nat:=152
abbrev j6:Nat:=153
abbrev zy0:Nat:=154
abbrev WC:Nat:=155
abbrev WF:Nat:=156
abbrev zH0:Nat:=157
abbrev yW0:Nat:=158
abbrev zD0:Nat:=159
abbrev zI0:Nat:=160
abbrev WJ:Nat:=161
abbrev WG:Nat:=162
abbrev WH:Nat:=163
abbrev zC0:Nat:=164
abbrev zE0:Nat:=165
abbrev KZ:Nat:=166
abbrev V3:Nat:=167
abbrev zS0:Nat:=168
abbrev WY:Nat:=169
abbrev WU:Nat:=170
abbrev V8:Nat:=171
abbrev zQ0:Nat:=172
abbrev WQ:Nat:=173
abbrev V5:Nat:=174
abbrev yY0:Nat:=175
abbrev qi:Nat:=183
abbrev y40:Nat:=184
abbrev QW:Nat:=185
abbrev Vu:Nat:=186
abbrev Vt:Nat:=187
abbrev Vs:Nat:=188
abbrev Vr:Nat:=189
abbrev qA:Nat:=190
abbrev Ja:Nat:=191
abbrev XB:Nat:=192
abbrev YK:Nat:=193
abbrev jc:Nat:=194
abbrev YI:Nat:=195
abbrev K6:Nat:=196
abbrev Vp:Nat:=197
abbrev ZP:Nat:=198
abbrev qj:Nat:=199
abbrev ZO:Nat:=200
abbrev Qo:Nat:=201
abbrev kF:Nat:=202
abbrev Zt:Nat:=203
abbrev yz0:Nat:=204
abbrev y70:Nat:=206
abbrev Vd:Nat:=212
abbrev Kg:Nat:=213
abbrev jf0:Nat:=214
abbrev q00:Nat:=215
abbrev Ki:Nat:=216
abbrev XC:Nat:=217
abbrev zL0:Nat:=218
abbrev zB0:Nat:=219
abbrev zA0:Nat:=220
abbrev WI:Nat:=221
abbrev J6:Nat:=222
abbrev x00:Nat:=223
abbrev V9:Nat:=224
abbrev yZ0:Nat:=225
abbrev JT:Nat:=226
abbrev Va:Nat:=227
abbrev V7:Nat:=228
abbrev WN:Nat:=229
abbrev JO:Nat:=230
abbrev zM0:Nat:=231
abbrev V4:Nat:=232
abbrev WR:Nat:=233
abbrev V6:Nat:=234
abbrev kS:Nat:=239
abbrev Ue:Nat:=240
abbrev qb:Nat:=244
abbrev kf:Nat:=245
abbrev x20:Nat:=246
abbrev Zf:Nat:=247
abbrev qL:Nat:=248
abbrev Vq:Nat:=249
abbrev kD:Nat:=250
abbrev qc:Nat:=251
abbrev XJ:Nat:=252
abbrev Qp:Nat:=253
abbrev XI:Nat:=254
abbrev kE:Nat:=255
abbrev ZN:Nat:=256
abbrev Yn:Nat:=257
abbrev X2:Nat:=258
abbrev X5:Nat:=259
abbrev Ym:Nat:=260
abbrev XF:Nat:=261
abbrev K7:Nat:=262
abbrev XD:Nat:=263
abbrev Uh:Nat:=264
abbrev Ze:Nat:=265
abbrev QU:Nat:=266
abbrev QT:Nat:=267
abbrev zJ0:Nat:=268
abbrev zT0:Nat:=269
abbrev U2:Nat:=270
abbrev y00:Nat:=271
abbrev U3:Nat:=272
abbrev U4:Nat:=273
abbrev WS:Nat:=274
abbrev WM:Nat:=275
abbrev WO:Nat:=276
abbrev WP:Nat:=277
abbrev zP0:Nat:=278
abbrev Jq:Nat:=282
abbrev JX:Nat:=285
abbrev Jb:Nat:=286
abbrev qp:Nat:=287
abbrev X4:Nat:=288
abbrev XH:Nat:=289
abbrev XG:Nat:=290
abbrev X3:Nat:=291
abbrev Qn:Nat:=292
abbrev Qj:Nat:=293
abbrev ZL:Nat:=294
abbrev Yk:Nat:=295
abbrev Yl:Nat:=296
abbrev ZK:Nat:=297
abbrev zV0:Nat:=298
abbrev JP:Nat:=299
abbrev zZ0:Nat:=300
abbrev zO0:Nat:=301
abbrev Wj:Nat:=306
abbrev Jp:Nat:=307
abbrev Qh:Nat:=308
abbrev J9:Nat:=309
abbrev xZ0:Nat:=313
abbrev X1:Nat:=314
abbrev Yi:Nat:=315
abbrev jm:Nat:=316
abbrev YZ:Nat:=317
abbrev Qk:Nat:=318
abbrev jj:Nat:=319
abbrev Zd:Nat:=320
abbrev XA:Nat:=321
abbrev YY:Nat:=322
abbrev Yj:Nat:=323
abbrev Qi:Nat:=324
abbrev U1:Nat:=325
abbrev YJ:Nat:=326
abbrev k7:Nat:=333
abbrev qY:Nat:=334
abbrev jz:Nat:=335
abbrev jA:Nat:=336
abbrev k6:Nat:=337
abbrev jl:Nat:=338
abbrev jB:Nat:=339
abbrev YX:Nat:=340
abbrev jW:Nat:=341
abbrev Xz:Nat:=342
abbrev ZJ:Nat:=343
abbrev kQ:Nat:=344
abbrev ZM:Nat:=345
abbrev Qq:Nat:=346
abbrev kp:Nat:=347
abbrev yJ:Nat:=348
abbrev y30:Nat:=352
abbrev Je:Nat:=353
abbrev K9:Nat:=354
abbrev XE:Nat:=355
abbrev jd0:Nat:=356
abbrev Ui:Nat:=357
abbrev Ke:Nat:=358
abbrev y50:Nat:=359
abbrev Kj:Nat:=360
abbrev Jc:Nat:=363
abbrev qX:Nat:=364
abbrev KR:Nat:=365
abbrev U6:Nat:=375
abbrev Kc:Nat:=398
abbrev ym:Nat:=411
abbrev yw:Nat:=412
abbrev kA:Nat:=413
abbrev jY:Nat:=414
abbrev Zc:Nat:=415
abbrev y60:Nat:=416
abbrev Vv:Nat:=417
abbrev Vo:Nat:=418
abbrev ke:Nat:=419
abbrev jE:Nat:=420
abbrev Um:Nat:=421
abbrev Kb:Nat:=422
abbrev xp:Nat:=423
abbrev xo:Nat:=424
abbrev xn:Nat:=425
abbrev xm:Nat:=426
abbrev xl:Nat:=427
abbrev xk:Nat:=428
abbrev xj:Nat:=429
abbrev xi:Nat:=430
abbrev xh:Nat:=431
abbrev xd:Nat:=432
abbrev xc:Nat:=433
abbrev Yo:Nat:=434
abbrev kc:Nat:=435
abbrev jD:Nat:=436
abbrev Ul:Nat:=437
abbrev Jd:Nat:=438
abbrev jX:Nat:=439
abbrev jx:Nat:=440
abbrev jy:Nat:=441
abbrev jk:Nat:=442
abbrev zh0:Nat:=443
abbrev k8:Nat:=444
abbrev jC:Nat:=445
abbrev Uk:Nat:=446
abbrev kB:Nat:=447
abbrev k5:Nat:=448
abbrev jF:Nat:=449
abbrev jn:Nat:=450
abbrev zi0:Nat:=451
abbrev kg:Nat:=452
abbrev jG:Nat:=453
abbrev yN:Nat:=0
abbrev xX:Nat:=1
abbrev jp:Nat:=2
abbrev qw:Nat:=3
abbrev je:Nat:=4
abbrev T_T_:Nat:=0
abbrev T_int64:Nat:=2
abbrev zV:Nat:=3
abbrev Y7:Nat:=4
abbrev Zm:Nat:=5
abbrev yy:Nat:=9
abbrev xM:Nat:=22
abbrev xg:Nat:=23
abbrev zI:Nat:=26
abbrev yo:Nat:=29
abbrev zl:Nat:=31
abbrev xD:Nat:=40
abbrev zh:Nat:=43
abbrev qq:Nat:=48
abbrev xb:Nat:=56
abbrev xR:Nat:=57
abbrev xQ:Nat:=66
abbrev yI:Nat:=69
abbrev zp:Nat:=72
abbrev qB:Nat:=78
abbrev yV:Nat:=80
abbrev za:Nat:=83
abbrev xw:Nat:=86
abbrev xE:Nat:=111
abbrev xa:Nat:=113
abbrev xC:Nat:=120
abbrev zA:Nat:=123
abbrev zx:Nat:=125
abbrev zB:Nat:=127
abbrev zw:Nat:=133
abbrev zf:Nat:=143
abbrev yH:Nat:=145
abbrev zQ:Nat:=146
abbrev yQ:Nat:=147
abbrev yn:Nat:=149
abbrev Jn:Nat:=150
abbrev yL:Nat:=152
abbrev yz:Nat:=153
abbrev xG:Nat:=173
abbrev y7:Nat:=181
abbrev xJ:Nat:=182
abbrev x6:Nat:=184
abbrev zm:Nat:=193
abbrev zg:Nat:=198
abbrev zH:Nat:=209
abbrev yb:Nat:=211
abbrev yd:Nat:=213
abbrev yU:Nat:=226
abbrev kK:Nat:=231
abbrev xe0:Nat:=265
abbrev qF:Nat:=269
abbrev zO:Nat:=271
abbrev zK:Nat:=272
abbrev zF:Nat:=273
abbrev zM:Nat:=274
abbrev zE:Nat:=275
abbrev zJ:Nat:=276
abbrev zR:Nat:=277
abbrev xS:Nat:=278
abbrev Zn:Nat:=279
abbrev zz:Nat:=281
abbrev zG:Nat:=282
abbrev Ju:Nat:=289
abbrev QK:Nat:=290
abbrev yP:Nat:=302
abbrev W8:Nat:=304
abbrev yA:Nat:=306
abbrev ye:Nat:=344
abbrev yB:Nat:=347
abbrev kK0:Nat:=348
abbrev yy0:Nat:=363
abbrev Ym0:Nat:=383
abbrev zW:Nat:=399
abbrev yf:Nat:=401
abbrev ze0:Nat:=403
abbrev QM:Nat:=415
abbrev yT:Nat:=443
abbrev xe:Nat:=468
theorem xK:yg zV (nI 0):=by unfold yg;kernel_rfl
@[push_cast] theorem WA:oneB zV=true:=rK
@[push_cast] theorem yW:xZ zV 1=true:=rK
theorem J0:qt0 zV .i64:=by unfold qt0;kernel_rfl
theorem zs0:(P.underlying zV).isSome=true:=rK
theorem qC0:yg Y7 (.bool false):=by unfold yg;kernel_rfl
@[push_cast] theorem Xs0:oneB Y7=true:=rK
@[push_cast] theorem qD0:xZ Y7 1=true:=rK
theorem kL0:yg Zm (.int .u8 0):=by unfold yg;kernel_rfl
@[push_cast] theorem Yo0:xZ Zm 1=true:=rK
theorem Zt0:qt0 Zm .u8:=by unfold qt0;kernel_rfl
theorem Xk:yg yy (.string ⟨#[]⟩):=by unfold yg;kernel_rfl
@[push_cast] theorem Zf0:oneB yy=true:=rK
@[push_cast] theorem Xl:xZ yy 1=true:=rK
theorem kV:P.underlying yy=some .string:=rK
@[push_cast] theorem Yb0:oneB xM=true:=rK
theorem zo0:P.underlying xM=some (.slice xQ):=rK
@[push_cast] theorem Y50:isSl xM=true:=rK
@[push_cast] theorem Yj0:elB xM 2=true:=rK
@[push_cast] theorem Ya0:oneB xg=true:=rK
theorem QR:P.underlying xg=some (.slice yI):=rK
@[push_cast] theorem Y40:isSl xg=true:=rK
@[push_cast] theorem Yi0:elB xg 5=true:=rK
theorem kM0:yg zI (oN):=by unfold yg;kernel_rfl
@[push_cast] theorem o_LLint:oneB zI=true:=rK
@[push_cast] theorem Q6:xZ zI 1=true:=rK
@[push_cast] theorem Y0:elZ zI 1 24=true:=rK
theorem Q9:P.underlying zI=some (.slice zh):=rK
theorem UY:Zx zI=zh:=rK
@[push_cast] theorem YB0:isSl zI=true:=rK
@[push_cast] theorem YQ0:elB zI 1=true:=rK
@[push_cast] theorem QS:oneB yo=true:=rK
@[push_cast] theorem QQ:xZ yo 1=true:=rK
@[push_cast] theorem QZ:elZ yo 2 24=true:=rK
theorem zq0:P.underlying yo=some (.slice yV):=rK
theorem XT:Zx yo=yV:=rK
@[push_cast] theorem Y80:isSl yo=true:=rK
@[push_cast] theorem kH:elB yo 2=true:=rK
@[push_cast] theorem qD:oneB zl=true:=rK
@[push_cast] theorem xy:xZ zl 1=true:=rK
@[push_cast] theorem jo:elZ zl 5 64=true:=rK
theorem qf:P.underlying zl=some (.slice za):=rK
theorem jP:Zx zl=za:=rK
@[push_cast] theorem Y70:isSl zl=true:=rK
@[push_cast] theorem yo0:elB zl 5=true:=rK
@[push_cast] theorem Zq0:elZ xD 1 1=true:=rK
theorem Xs:P.underlying xD=some (.slice Zm):=rK
theorem jV0:Zx xD=Zm:=rK
theorem Wp:yg zh (oN):=by unfold yg;kernel_rfl
@[push_cast] theorem Xt0:oneB zh=true:=rK
@[push_cast] theorem jg:xZ zh 1=true:=rK
@[push_cast] theorem xH:elZ zh 1 8=true:=rK
theorem xu:P.underlying zh=some (.slice zV):=rK
theorem qQ:Zx zh=zV:=rK
@[push_cast] theorem Xr0:isSl zh=true:=rK
@[push_cast] theorem XV:elB zh 1=true:=rK
@[push_cast] theorem Us:elZ qq 2 48=true:=rK
theorem VY:Zx qq=xb:=rK
@[push_cast] theorem Z90:isSl qq=true:=rK
@[push_cast] theorem UZ:elB qq 2=true:=rK
theorem jI:yg xb (.agg #[(oN),(oN)]):=by unfold yg;kernel_rfl
@[push_cast] theorem xL:aggB xb 2=true:=rK
theorem Xu:P.underlying xR=some (.slice xC):=rK
@[push_cast] theorem Z80:isSl xR=true:=rK
@[push_cast] theorem ZN0:elB xR 2=true:=rK
@[push_cast] theorem YM0:aggB xQ 2=true:=rK
@[push_cast] theorem Ku:aggB yI 5=true:=rK
theorem xr:yg zp (.agg #[(nI 0),(oN)]):=by unfold yg;kernel_rfl
theorem QI:strF zp=some ([(0,1),(1,1)],[(nI 0),(oN)]):=rK
@[push_cast] theorem zD:aggB zp 2=true:=rK
@[push_cast] theorem jr0:elZ qB 1 1=true:=rK
theorem qT0:P.underlying qB=some (.slice Y7):=rK
theorem UX:Zx qB=Y7:=rK
@[push_cast] theorem s_Lbool:isSl qB=true:=rK
@[push_cast] theorem xa0:elB qB 1=true:=rK
theorem qe:yg yV (.agg #[(.string ⟨#[]⟩),(nI 0)]):=by unfold yg;kernel_rfl
@[push_cast] theorem Xg:aggB yV 2=true:=rK
@[push_cast] theorem yB0:xZ yV 2=true:=rK
theorem zq:yg za (.agg #[(nI 0),(nI 0),(nI 0),(.string ⟨#[]⟩),(oN)]):=by unfold yg;kernel_rfl
theorem j8:strF za=some ([(0,1),(1,1),(2,1),(3,1),(4,1)],[(nI 0),(nI 0),(nI 0),(.string ⟨#[]⟩),(oN)]):=rK
@[push_cast] theorem zc:aggB za 5=true:=rK
@[push_cast] theorem qz:xZ za 5=true:=rK
@[push_cast] theorem xt:oneB xw=true:=rK
@[push_cast] theorem Yp0:xZ xw 1=true:=rK
@[push_cast] theorem Yc0:oneB xE=true:=rK
@[push_cast] theorem zk0:xZ xE 1=true:=rK
@[push_cast] theorem yd0:elZ xE 2 16=true:=rK
theorem zp0:P.underlying xE=some (.slice xG):=rK
@[push_cast] theorem Y60:isSl xE=true:=rK
@[push_cast] theorem Yk0:elB xE 2=true:=rK
theorem yw0:strF xa=some ([(0,1),(1,1),(2,1)],[(oN),(oN),(oN)]):=rK
@[push_cast] theorem J3:aggB xC 2=true:=rK
@[push_cast] theorem Yd0:oneB zA=true:=rK
@[push_cast] theorem QP:xZ zA 1=true:=rK
@[push_cast] theorem qE:elZ zA 3 24=true:=rK
theorem ji:P.underlying zA=some (.slice zm):=rK
theorem XS:Zx zA=zm:=rK
@[push_cast] theorem qg:isSl zA=true:=rK
@[push_cast] theorem Y3:elB zA 3=true:=rK
theorem j0:yg zx (.agg #[(nI 0),(oN)]):=by unfold yg;kernel_rfl
theorem QH:strF zx=some ([(0,1),(1,1)],[(nI 0),(oN)]):=rK
@[push_cast] theorem zY:aggB zx 2=true:=rK
theorem xx:yg zB (.agg #[(nI 0),(oN),(.bool false)]):=by unfold yg;kernel_rfl
theorem xc0:strF zB=some ([(0,2),(2,1)],[(nI 0),(oN),(.bool false)]):=rK
@[push_cast] theorem j7:aggB zB 3=true:=rK
theorem qZ:yg zw (.agg #[(oN),(oN),(oN),(nI 0)]):=by unfold yg;kernel_rfl
theorem ql0:strF zw=some ([(0,1),(1,1),(2,1),(3,1)],[(oN),(oN),(oN),(nI 0)]):=rK
@[push_cast] theorem zP:aggB zw 4=true:=rK
theorem qH:yg zf (oN):=by unfold yg;kernel_rfl
@[push_cast] theorem KT:oneB zf=true:=rK
@[push_cast] theorem j9:xZ zf 1=true:=rK
@[push_cast] theorem yE:elZ zf 1 8=true:=rK
theorem yD:P.underlying zf=some (.slice yz):=rK
theorem yO:Zx zf=yz:=rK
@[push_cast] theorem yX:isSl zf=true:=rK
@[push_cast] theorem yK:elB zf 1=true:=rK
@[push_cast] theorem qq0:oneB yH=true:=rK
@[push_cast] theorem zw0:oneB zQ=true:=rK
theorem Zh:P.underlying zQ=some (.map 3 265):=rK
@[push_cast] theorem JK:oneB yQ=true:=rK
theorem ju:P.underlying yQ=some (.map 9 143):=rK
theorem W6:strF yn=some ([(0,1),(1,1),(2,1),(3,1)],[(.pointer none),(oN),(.map none),(.map none)]):=rK
@[push_cast] theorem qp0:oneB Jn=true:=rK
theorem W5:strF yL=some ([(0,1),(1,1)],[(.pointer none),.nilIface]):=rK
theorem yi:yg yz (nI 0):=by unfold yg;kernel_rfl
@[push_cast] theorem Zg0:oneB yz=true:=rK
@[push_cast] theorem y9:xZ yz 1=true:=rK
theorem QO:yg xG (.agg #[(nI 0),(nI 0)]):=by unfold yg;kernel_rfl
theorem xd0:strF xG=some ([(0,1),(1,1)],[(nI 0),(nI 0)]):=rK
@[push_cast] theorem x50:aggB xG 2=true:=rK
@[push_cast] theorem yA0:xZ xG 2=true:=rK
theorem qk0:strF y7=some ([(0,1),(1,1),(2,1),(3,2),(5,1)],[(oN),(oN),(oN),(nI 0),(oN),(oN)]):=rK
theorem kT:P.underlying xJ=some (.slice x6):=rK
@[push_cast] theorem We:isSl xJ=true:=rK
@[push_cast] theorem kZ:elB xJ 1=true:=rK
theorem ko:yg x6 .nilFunc:=by unfold yg;kernel_rfl
@[push_cast] theorem kP:oneB x6=true:=rK
@[push_cast] theorem kM:xZ x6 1=true:=rK
theorem ku:yg zm (.agg #[(.bool false),(nI 0),(nI 0)]):=by unfold yg;kernel_rfl
theorem Zl:strF zm=some ([(0,1),(1,1),(2,1)],[(.bool false),(nI 0),(nI 0)]):=rK
@[push_cast] theorem xO:aggB zm 3=true:=rK
@[push_cast] theorem YO:xZ zm 3=true:=rK
theorem zX:yg zg (.agg #[(nI 0),(nI 0)]):=by unfold yg;kernel_rfl
theorem QG:strF zg=some ([(0,1),(1,1)],[(nI 0),(nI 0)]):=rK
@[push_cast] theorem zr:aggB zg 2=true:=rK
@[push_cast] theorem xK0:xZ zg 2=true:=rK
@[push_cast] theorem Km:elZ zH 1 24=true:=rK
theorem ZE:P.underlying zH=some (.slice zf):=rK
@[push_cast] theorem j60:isSl zH=true:=rK
@[push_cast] theorem KK:elB zH 1=true:=rK
@[push_cast] theorem zx0:oneB yb=true:=rK
theorem qN:P.underlying yb=some (.map 193 3):=rK
theorem W3:strF yd=some ([(0,2),(2,1)],[(nI 0),(oN),(.map none)]):=rK
@[push_cast] theorem yc0:elZ yU 1 16=true:=rK
theorem Xt:P.underlying yU=some (.slice yy):=rK
theorem qf0:Zx yU=yy:=rK
@[push_cast] theorem Xq0:isSl yU=true:=rK
theorem YF:P.underlying kK=some (.map 9 3):=rK
theorem yx0:strF qF=some ([(0,1),(1,1)],[(.string ⟨#[]⟩),(nI 0)]):=rK
theorem qs:yg zO (.agg #[(.string ⟨#[]⟩),(nI 0)]):=by unfold yg;kernel_rfl
theorem z90:strF zO=some ([(0,2)],[(.string ⟨#[]⟩),(nI 0)]):=rK
@[push_cast] theorem Uy:aggB zO 2=true:=rK
theorem jR:yg zK (.agg #[(.string ⟨#[]⟩),(nI 0)]):=by unfold yg;kernel_rfl
theorem W4:strF zK=some ([(0,2)],[(.string ⟨#[]⟩),(nI 0)]):=rK
theorem Zy:yg zF (.agg #[(.string ⟨#[]⟩),(nI 0)]):=by unfold yg;kernel_rfl
theorem W2:strF zF=some ([(0,2)],[(.string ⟨#[]⟩),(nI 0)]):=rK
@[push_cast] theorem Vz:aggB zF 2=true:=rK
theorem yM:yg zM (.agg #[(.string ⟨#[]⟩),(nI 0)]):=by unfold yg;kernel_rfl
theorem W0:strF zM=some ([(0,2)],[(.string ⟨#[]⟩),(nI 0)]):=rK
@[push_cast] theorem Vx:aggB zM 2=true:=rK
theorem yR:yg zE (.agg #[(.string ⟨#[]⟩),(nI 0)]):=by unfold yg;kernel_rfl
theorem KN:strF zE=some ([(0,2)],[(.string ⟨#[]⟩),(nI 0)]):=rK
@[push_cast] theorem Kv:aggB zE 2=true:=rK
theorem xq:yg zJ (.agg #[(.string ⟨#[]⟩),(nI 0)]):=by unfold yg;kernel_rfl
theorem W1:strF zJ=some ([(0,2)],[(.string ⟨#[]⟩),(nI 0)]):=rK
@[push_cast] theorem Vy:aggB zJ 2=true:=rK
theorem xW:yg zR (.agg #[(.string ⟨#[]⟩),(nI 0)]):=by unfold yg;kernel_rfl
theorem zb0:strF zR=some ([(0,2)],[(.string ⟨#[]⟩),(nI 0)]):=rK
@[push_cast] theorem Uz:aggB zR 2=true:=rK
@[push_cast] theorem x30:elZ xS 2 16=true:=rK
theorem yI0:P.underlying xS=some (.slice zg):=rK
@[push_cast] theorem YP0:elB xS 2=true:=rK
@[push_cast] theorem WB:oneB Zn=true:=rK
theorem J4:yg zz (.agg #[(.string ⟨#[]⟩),(nI 0),.nilFunc]):=by unfold yg;kernel_rfl
theorem KO:strF zz=some ([(0,2),(2,1)],[(.string ⟨#[]⟩),(nI 0),.nilFunc]):=rK
@[push_cast] theorem Y1:aggB zz 3=true:=rK
theorem jS:yg zG (.agg #[(.string ⟨#[]⟩),(nI 0)]):=by unfold yg;kernel_rfl
theorem W7:strF zG=some ([(0,2)],[(.string ⟨#[]⟩),(nI 0)]):=rK
theorem x40:qt0 QK .u64:=by unfold qt0;kernel_rfl
theorem JC:(P.underlying QK).isSome=true:=rK
@[push_cast] theorem j90:oneB yP=true:=rK
@[push_cast] theorem kj0:oneB W8=true:=rK
theorem za0:strF yA=some ([(0,2),(2,1),(3,1),(4,1),(5,1)],[(nI 0),(oN),(.pointer none),(oN),(oN),(nI 0)]):=rK
theorem zc0:strF ye=some ([(0,1),(1,1)],[(oN),(.map none)]):=rK
@[push_cast] theorem xN:aggB ye 2=true:=rK
theorem yv0:strF yB=some ([(0,1),(1,1),(2,1)],[(oN),(oN),(oN)]):=rK
theorem jz0:qt0 yy0 .u64:=by unfold qt0;kernel_rfl
theorem Yx0:(P.underlying yy0).isSome=true:=rK
theorem qV:P.underlying zW=some (.slice yf):=rK
theorem qR:Zx zW=yf:=rK
@[push_cast] theorem Q4:isSl zW=true:=rK
@[push_cast] theorem Q5:elB zW 1=true:=rK
@[push_cast] theorem Yh:oneB yf=true:=rK
@[push_cast] theorem Yg:xZ yf 1=true:=rK
theorem kZ0:P.underlying ze0=some (.slice zI):=rK
@[push_cast] theorem s_LLLint:isSl ze0=true:=rK
@[push_cast] theorem e_LLLint:elB ze0 1=true:=rK
@[push_cast] theorem xB:imapB QM=true:=rK
theorem KH:fieldB xb 0 0=true:=rK
@[push_cast] theorem jR0 {w:World} {K:oK} (a:Addr):zy xb (.pointer (some a)) 0 w K=K (oE (a.add 0)) w:=zt KH a
theorem KG:fieldB xb 1 1=true:=rK
@[push_cast] theorem jQ0 {w:World} {K:oK} (a:Addr):zy xb (.pointer (some a)) 1 w K=K (oE (a.add 1)) w:=zt KG a
theorem VJ:fieldB xQ 0 0=true:=rK
@[push_cast] theorem kw0 {w:World} {K:oK} (a:Addr):zy xQ (.pointer (some a)) 0 w K=K (oE (a.add 0)) w:=zt VJ a
theorem VI:fieldB xQ 1 1=true:=rK
@[push_cast] theorem ku0 {w:World} {K:oK} (a:Addr):zy xQ (.pointer (some a)) 1 w K=K (oE (a.add 1)) w:=zt VI a
theorem VH:fieldB yI 0 0=true:=rK
@[push_cast] theorem kt0 {w:World} {K:oK} (a:Addr):zy yI (.pointer (some a)) 0 w K=K (oE (a.add 0)) w:=zt VH a
theorem VG:fieldB yI 1 1=true:=rK
@[push_cast] theorem ks0 {w:World} {K:oK} (a:Addr):zy yI (.pointer (some a)) 1 w K=K (oE (a.add 1)) w:=zt VG a
theorem VF:fieldB yI 2 2=true:=rK
@[push_cast] theorem kr0 {w:World} {K:oK} (a:Addr):zy yI (.pointer (some a)) 2 w K=K (oE (a.add 2)) w:=zt VF a
theorem VE:fieldB yI 3 3=true:=rK
@[push_cast] theorem kq0 {w:World} {K:oK} (a:Addr):zy yI (.pointer (some a)) 3 w K=K (oE (a.add 3)) w:=zt VE a
theorem VC:fieldB yI 4 4=true:=rK
@[push_cast] theorem kp0 {w:World} {K:oK} (a:Addr):zy yI (.pointer (some a)) 4 w K=K (oE (a.add 4)) w:=zt VC a
theorem UR:fieldB zp 0 0=true:=rK
@[push_cast] theorem ZL0 {w:World} {K:oK} (a:Addr):zy zp (.pointer (some a)) 0 w K=K (oE (a.add 0)) w:=zt UR a
theorem UQ:fieldB zp 1 1=true:=rK
@[push_cast] theorem UV {w:World} {K:oK} (a:Addr):zy zp (.pointer (some a)) 1 w K=K (oE (a.add 1)) w:=zt UQ a
theorem VX:fieldB yV 0 0=true:=rK
@[push_cast] theorem kI0 {w:World} {K:oK} (a:Addr):zy yV (.pointer (some a)) 0 w K=K (oE (a.add 0)) w:=zt VX a
theorem VW:fieldB yV 1 1=true:=rK
@[push_cast] theorem kH0 {w:World} {K:oK} (a:Addr):zy yV (.pointer (some a)) 1 w K=K (oE (a.add 1)) w:=zt VW a
theorem VR:fieldB za 0 0=true:=rK
@[push_cast] theorem kD0 {w:World} {K:oK} (a:Addr):zy za (.pointer (some a)) 0 w K=K (oE (a.add 0)) w:=zt VR a
theorem VQ:fieldB za 1 1=true:=rK
@[push_cast] theorem kC0 {w:World} {K:oK} (a:Addr):zy za (.pointer (some a)) 1 w K=K (oE (a.add 1)) w:=zt VQ a
theorem VO:fieldB za 2 2=true:=rK
@[push_cast] theorem kB0 {w:World} {K:oK} (a:Addr):zy za (.pointer (some a)) 2 w K=K (oE (a.add 2)) w:=zt VO a
theorem VN:fieldB za 3 3=true:=rK
@[push_cast] theorem kA0 {w:World} {K:oK} (a:Addr):zy za (.pointer (some a)) 3 w K=K (oE (a.add 3)) w:=zt VN a
theorem VM:fieldB za 4 4=true:=rK
@[push_cast] theorem kz0 {w:World} {K:oK} (a:Addr):zy za (.pointer (some a)) 4 w K=K (oE (a.add 4)) w:=zt VM a
theorem KD:fieldB xa 0 0=true:=rK
@[push_cast] theorem jN0 {w:World} {K:oK} (a:Addr):zy xa (.pointer (some a)) 0 w K=K (oE (a.add 0)) w:=zt KD a
theorem KC:fieldB xa 1 1=true:=rK
@[push_cast] theorem jM0 {w:World} {K:oK} (a:Addr):zy xa (.pointer (some a)) 1 w K=K (oE (a.add 1)) w:=zt KC a
theorem KB:fieldB xa 2 2=true:=rK
@[push_cast] theorem jL0 {w:World} {K:oK} (a:Addr):zy xa (.pointer (some a)) 2 w K=K (oE (a.add 2)) w:=zt KB a
theorem Kx:fieldB xC 0 0=true:=rK
@[push_cast] theorem jH0 {w:World} {K:oK} (a:Addr):zy xC (.pointer (some a)) 0 w K=K (oE (a.add 0)) w:=zt Kx a
theorem Kw:fieldB xC 1 1=true:=rK
@[push_cast] theorem jG0 {w:World} {K:oK} (a:Addr):zy xC (.pointer (some a)) 1 w K=K (oE (a.add 1)) w:=zt Kw a
theorem UP:fieldB zx 0 0=true:=rK
@[push_cast] theorem ZK0 {w:World} {K:oK} (a:Addr):zy zx (.pointer (some a)) 0 w K=K (oE (a.add 0)) w:=zt UP a
theorem UO:fieldB zx 1 1=true:=rK
@[push_cast] theorem ZJ0 {w:World} {K:oK} (a:Addr):zy zx (.pointer (some a)) 1 w K=K (oE (a.add 1)) w:=zt UO a
theorem VB:fieldB zB 0 0=true:=rK
@[push_cast] theorem ko0 {w:World} {K:oK} (a:Addr):zy zB (.pointer (some a)) 0 w K=K (oE (a.add 0)) w:=zt VB a
theorem VA:fieldB zB 1 2=true:=rK
@[push_cast] theorem kn0 {w:World} {K:oK} (a:Addr):zy zB (.pointer (some a)) 1 w K=K (oE (a.add 2)) w:=zt VA a
theorem UN:fieldB zw 0 0=true:=rK
@[push_cast] theorem UU {w:World} {K:oK} (a:Addr):zy zw (.pointer (some a)) 0 w K=K (oE (a.add 0)) w:=zt UN a
theorem UM:fieldB zw 1 1=true:=rK
@[push_cast] theorem UT {w:World} {K:oK} (a:Addr):zy zw (.pointer (some a)) 1 w K=K (oE (a.add 1)) w:=zt UM a
theorem UL:fieldB zw 2 2=true:=rK
@[push_cast] theorem US {w:World} {K:oK} (a:Addr):zy zw (.pointer (some a)) 2 w K=K (oE (a.add 2)) w:=zt UL a
theorem UK:fieldB zw 3 3=true:=rK
@[push_cast] theorem ZI0 {w:World} {K:oK} (a:Addr):zy zw (.pointer (some a)) 3 w K=K (oE (a.add 3)) w:=zt UK a
theorem QE:fieldB yn 0 0=true:=rK
@[push_cast] theorem qd0 {w:World} {K:oK} (a:Addr):zy yn (.pointer (some a)) 0 w K=K (oE (a.add 0)) w:=zt QE a
theorem QD:fieldB yn 1 1=true:=rK
@[push_cast] theorem qc0 {w:World} {K:oK} (a:Addr):zy yn (.pointer (some a)) 1 w K=K (oE (a.add 1)) w:=zt QD a
theorem QC:fieldB yn 2 2=true:=rK
@[push_cast] theorem qb0 {w:World} {K:oK} (a:Addr):zy yn (.pointer (some a)) 2 w K=K (oE (a.add 2)) w:=zt QC a
theorem QB:fieldB yn 3 3=true:=rK
@[push_cast] theorem qa0 {w:World} {K:oK} (a:Addr):zy yn (.pointer (some a)) 3 w K=K (oE (a.add 3)) w:=zt QB a
theorem QA:fieldB yL 0 0=true:=rK
@[push_cast] theorem q90 {w:World} {K:oK} (a:Addr):zy yL (.pointer (some a)) 0 w K=K (oE (a.add 0)) w:=zt QA a
theorem Qz:fieldB yL 1 1=true:=rK
@[push_cast] theorem q80 {w:World} {K:oK} (a:Addr):zy yL (.pointer (some a)) 1 w K=K (oE (a.add 1)) w:=zt Qz a
theorem VL:fieldB xG 0 0=true:=rK
@[push_cast] theorem ky0 {w:World} {K:oK} (a:Addr):zy xG (.pointer (some a)) 0 w K=K (oE (a.add 0)) w:=zt VL a
theorem VK:fieldB xG 1 1=true:=rK
@[push_cast] theorem kx0 {w:World} {K:oK} (a:Addr):zy xG (.pointer (some a)) 1 w K=K (oE (a.add 1)) w:=zt VK a
theorem UH:fieldB y7 0 0=true:=rK
@[push_cast] theorem ZF0 {w:World} {K:oK} (a:Addr):zy y7 (.pointer (some a)) 0 w K=K (oE (a.add 0)) w:=zt UH a
theorem UG:fieldB y7 1 1=true:=rK
@[push_cast] theorem ZE0 {w:World} {K:oK} (a:Addr):zy y7 (.pointer (some a)) 1 w K=K (oE (a.add 1)) w:=zt UG a
theorem UF:fieldB y7 2 2=true:=rK
@[push_cast] theorem ZD0 {w:World} {K:oK} (a:Addr):zy y7 (.pointer (some a)) 2 w K=K (oE (a.add 2)) w:=zt UF a
theorem UE:fieldB y7 3 3=true:=rK
@[push_cast] theorem ZC0 {w:World} {K:oK} (a:Addr):zy y7 (.pointer (some a)) 3 w K=K (oE (a.add 3)) w:=zt UE a
theorem UD:fieldB y7 4 5=true:=rK
@[push_cast] theorem ZB0 {w:World} {K:oK} (a:Addr):zy y7 (.pointer (some a)) 4 w K=K (oE (a.add 5)) w:=zt UD a
theorem VV:fieldB zm 0 0=true:=rK
@[push_cast] theorem kG0 {w:World} {K:oK} (a:Addr):zy zm (.pointer (some a)) 0 w K=K (oE (a.add 0)) w:=zt VV a
theorem VU:fieldB zm 1 1=true:=rK
@[push_cast] theorem kF0 {w:World} {K:oK} (a:Addr):zy zm (.pointer (some a)) 1 w K=K (oE (a.add 1)) w:=zt VU a
theorem VS:fieldB zm 2 2=true:=rK
@[push_cast] theorem kE0 {w:World} {K:oK} (a:Addr):zy zm (.pointer (some a)) 2 w K=K (oE (a.add 2)) w:=zt VS a
theorem UJ:fieldB zg 0 0=true:=rK
@[push_cast] theorem ZH0 {w:World} {K:oK} (a:Addr):zy zg (.pointer (some a)) 0 w K=K (oE (a.add 0)) w:=zt UJ a
theorem UI:fieldB zg 1 1=true:=rK
@[push_cast] theorem ZG0 {w:World} {K:oK} (a:Addr):zy zg (.pointer (some a)) 1 w K=K (oE (a.add 1)) w:=zt UI a
theorem Qy:fieldB yd 0 0=true:=rK
@[push_cast] theorem q70 {w:World} {K:oK} (a:Addr):zy yd (.pointer (some a)) 0 w K=K (oE (a.add 0)) w:=zt Qy a
theorem Qx:fieldB yd 1 2=true:=rK
@[push_cast] theorem q60 {w:World} {K:oK} (a:Addr):zy yd (.pointer (some a)) 1 w K=K (oE (a.add 2)) w:=zt Qx a
theorem KF:fieldB qF 0 0=true:=rK
@[push_cast] theorem jP0 {w:World} {K:oK} (a:Addr):zy qF (.pointer (some a)) 0 w K=K (oE (a.add 0)) w:=zt KF a
theorem KE:fieldB qF 1 1=true:=rK
@[push_cast] theorem jO0 {w:World} {K:oK} (a:Addr):zy qF (.pointer (some a)) 1 w K=K (oE (a.add 1)) w:=zt KE a
theorem XR:fieldB zz 1 2=true:=rK
@[push_cast] theorem xy0 {w:World} {K:oK} (a:Addr):zy zz (.pointer (some a)) 1 w K=K (oE (a.add 2)) w:=zt XR a
theorem Jj:fieldB yA 0 0=true:=rK
@[push_cast] theorem qy0 {w:World} {K:oK} (a:Addr):zy yA (.pointer (some a)) 0 w K=K (oE (a.add 0)) w:=zt Jj a
theorem Ji:fieldB yA 1 2=true:=rK
@[push_cast] theorem qx0 {w:World} {K:oK} (a:Addr):zy yA (.pointer (some a)) 1 w K=K (oE (a.add 2)) w:=zt Ji a
theorem Jh:fieldB yA 2 3=true:=rK
@[push_cast] theorem qw0 {w:World} {K:oK} (a:Addr):zy yA (.pointer (some a)) 2 w K=K (oE (a.add 3)) w:=zt Jh a
theorem Jg:fieldB yA 3 4=true:=rK
@[push_cast] theorem qv0 {w:World} {K:oK} (a:Addr):zy yA (.pointer (some a)) 3 w K=K (oE (a.add 4)) w:=zt Jg a
theorem Jf:fieldB yA 4 5=true:=rK
@[push_cast] theorem qu0 {w:World} {K:oK} (a:Addr):zy yA (.pointer (some a)) 4 w K=K (oE (a.add 5)) w:=zt Jf a
theorem Jl:fieldB ye 0 0=true:=rK
@[push_cast] theorem qA0 {w:World} {K:oK} (a:Addr):zy ye (.pointer (some a)) 0 w K=K (oE (a.add 0)) w:=zt Jl a
theorem Jk:fieldB ye 1 1=true:=rK
@[push_cast] theorem qz0 {w:World} {K:oK} (a:Addr):zy ye (.pointer (some a)) 1 w K=K (oE (a.add 1)) w:=zt Jk a
theorem KA:fieldB yB 0 0=true:=rK
@[push_cast] theorem jK0 {w:World} {K:oK} (a:Addr):zy yB (.pointer (some a)) 0 w K=K (oE (a.add 0)) w:=zt KA a
theorem Kz:fieldB yB 1 1=true:=rK
@[push_cast] theorem jJ0 {w:World} {K:oK} (a:Addr):zy yB (.pointer (some a)) 1 w K=K (oE (a.add 1)) w:=zt Kz a
theorem Ky:fieldB yB 2 2=true:=rK
@[push_cast] theorem jI0 {w:World} {K:oK} (a:Addr):zy yB (.pointer (some a)) 2 w K=K (oE (a.add 2)) w:=zt Ky a
@[push_cast] theorem kS0 {w:World} {K:oK} (b a:Value):Y00 zg (.agg ⟨[b,a]⟩) 1 w K=K a w:=ya rK
noncomputable def mn_kids:String:=match P.info? 271 with|some i=>(match i.methods[0]? with|some m=>m.name|none=>default)|none=>default
noncomputable def kj:String:=match P.info? 271 with|some i=>(match i.methods[1]? with|some m=>m.name|none=>default)|none=>default
noncomputable def qM:String:=match P.info? 271 with|some i=>(match i.methods[2]? with|some m=>m.name|none=>default)|none=>default
noncomputable def Zg:String:=match P.info? 271 with|some i=>(match i.methods[3]? with|some m=>m.name|none=>default)|none=>default
theorem k30:concB yy=true:=rK
@[push_cast] theorem Xv0 {w:World} {K:oK} (v:Value):qn0 yy v w K=K (.iface yy v) w:=kN k30 v
theorem xY:concB zO=true:=rK
@[push_cast] theorem kk0 {w:World} {K:oK} (v:Value):qn0 zO v w K=K (.iface zO v) w:=kN xY v
theorem Xa (a b:Value) (w:World):(method (P.types.size+Made.depth) zO (.agg ⟨[a,b]⟩) mn_kids).run P w= .ok (ym,.agg ⟨[a,b]⟩) w:=rK
theorem X9 (a b:Value) (w:World):(method (P.types.size+Made.depth) zO (.agg ⟨[a,b]⟩) kj).run P w= .ok (kA,.agg ⟨[a,b]⟩) w:=rK
theorem Yr (a b:Value) (w:World):(method (P.types.size+Made.depth) zO (.agg ⟨[a,b]⟩) qM).run P w= .ok (jY,.agg ⟨[a,b]⟩) w:=rK
theorem X8 (a b:Value) (w:World):(method (P.types.size+Made.depth) zO (.agg ⟨[a,b]⟩) Zg).run P w= .ok (yw,.agg ⟨[a,b]⟩) w:=rK
theorem qm:concB zK=true:=rK
@[push_cast] theorem jj0 {w:World} {K:oK} (v:Value):qn0 zK v w K=K (.iface zK v) w:=kN qm v
theorem YB (a b:Value) (w:World):(method (P.types.size+Made.depth) zK (.agg ⟨[a,b]⟩) mn_kids).run P w= .ok (ym,.agg ⟨[a,b]⟩) w:=rK
theorem YA (a b:Value) (w:World):(method (P.types.size+Made.depth) zK (.agg ⟨[a,b]⟩) kj).run P w= .ok (ke,.agg ⟨[a,b]⟩) w:=rK
theorem ZV (a b:Value) (w:World):(method (P.types.size+Made.depth) zK (.agg ⟨[a,b]⟩) qM).run P w= .ok (jE,.agg ⟨[a,b]⟩) w:=rK
theorem Yz (a b:Value) (w:World):(method (P.types.size+Made.depth) zK (.agg ⟨[a,b]⟩) Zg).run P w= .ok (yw,.agg ⟨[a,b]⟩) w:=rK
theorem km:concB zF=true:=rK
@[push_cast] theorem ji0 {w:World} {K:oK} (v:Value):qn0 zF v w K=K (.iface zF v) w:=kN km v
theorem Yy (a b:Value) (w:World):(method (P.types.size+Made.depth) zF (.agg ⟨[a,b]⟩) mn_kids).run P w= .ok (ym,.agg ⟨[a,b]⟩) w:=rK
theorem Yx (a b:Value) (w:World):(method (P.types.size+Made.depth) zF (.agg ⟨[a,b]⟩) kj).run P w= .ok (kc,.agg ⟨[a,b]⟩) w:=rK
theorem ZU (a b:Value) (w:World):(method (P.types.size+Made.depth) zF (.agg ⟨[a,b]⟩) qM).run P w= .ok (jD,.agg ⟨[a,b]⟩) w:=rK
theorem Yw (a b:Value) (w:World):(method (P.types.size+Made.depth) zF (.agg ⟨[a,b]⟩) Zg).run P w= .ok (yw,.agg ⟨[a,b]⟩) w:=rK
theorem yF:concB zM=true:=rK
@[push_cast] theorem jg0 {w:World} {K:oK} (v:Value):qn0 zM v w K=K (.iface zM v) w:=kN yF v
theorem Yq (a b:Value) (w:World):(method (P.types.size+Made.depth) zM (.agg ⟨[a,b]⟩) mn_kids).run P w= .ok (ym,.agg ⟨[a,b]⟩) w:=rK
theorem Yp (a b:Value) (w:World):(method (P.types.size+Made.depth) zM (.agg ⟨[a,b]⟩) kj).run P w= .ok (jX,.agg ⟨[a,b]⟩) w:=rK
theorem ZQ (a b:Value) (w:World):(method (P.types.size+Made.depth) zM (.agg ⟨[a,b]⟩) qM).run P w= .ok (jx,.agg ⟨[a,b]⟩) w:=rK
theorem yG:concB zE=true:=rK
@[push_cast] theorem qr0 {w:World} {K:oK} (v:Value):qn0 zE v w K=K (.iface zE v) w:=kN yG v
theorem ZS (a b:Value) (w:World):(method (P.types.size+Made.depth) zE (.agg ⟨[a,b]⟩) mn_kids).run P w= .ok (ym,.agg ⟨[a,b]⟩) w:=rK
theorem ZR (a b:Value) (w:World):(method (P.types.size+Made.depth) zE (.agg ⟨[a,b]⟩) kj).run P w= .ok (jy,.agg ⟨[a,b]⟩) w:=rK
theorem Zu (a b:Value) (w:World):(method (P.types.size+Made.depth) zE (.agg ⟨[a,b]⟩) qM).run P w= .ok (jk,.agg ⟨[a,b]⟩) w:=rK
theorem x8:concB zJ=true:=rK
@[push_cast] theorem jh0 {w:World} {K:oK} (v:Value):qn0 zJ v w K=K (.iface zJ v) w:=kN x8 v
theorem Yv (a b:Value) (w:World):(method (P.types.size+Made.depth) zJ (.agg ⟨[a,b]⟩) mn_kids).run P w= .ok (ym,.agg ⟨[a,b]⟩) w:=rK
theorem Yu (a b:Value) (w:World):(method (P.types.size+Made.depth) zJ (.agg ⟨[a,b]⟩) kj).run P w= .ok (k8,.agg ⟨[a,b]⟩) w:=rK
theorem ZT (a b:Value) (w:World):(method (P.types.size+Made.depth) zJ (.agg ⟨[a,b]⟩) qM).run P w= .ok (jC,.agg ⟨[a,b]⟩) w:=rK
theorem Yt (a b:Value) (w:World):(method (P.types.size+Made.depth) zJ (.agg ⟨[a,b]⟩) Zg).run P w= .ok (yw,.agg ⟨[a,b]⟩) w:=rK
theorem xF:concB zR=true:=rK
@[push_cast] theorem kl0 {w:World} {K:oK} (v:Value):qn0 zR v w K=K (.iface zR v) w:=kN xF v
theorem Xd (a b:Value) (w:World):(method (P.types.size+Made.depth) zR (.agg ⟨[a,b]⟩) mn_kids).run P w= .ok (ym,.agg ⟨[a,b]⟩) w:=rK
theorem Xc (a b:Value) (w:World):(method (P.types.size+Made.depth) zR (.agg ⟨[a,b]⟩) kj).run P w= .ok (kB,.agg ⟨[a,b]⟩) w:=rK
theorem Ys (a b:Value) (w:World):(method (P.types.size+Made.depth) zR (.agg ⟨[a,b]⟩) qM).run P w= .ok (k5,.agg ⟨[a,b]⟩) w:=rK
theorem Xb (a b:Value) (w:World):(method (P.types.size+Made.depth) zR (.agg ⟨[a,b]⟩) Zg).run P w= .ok (yw,.agg ⟨[a,b]⟩) w:=rK
theorem Zp:concB zz=true:=rK
@[push_cast] theorem qs0 {w:World} {K:oK} (v:Value):qn0 zz v w K=K (.iface zz v) w:=kN Zp v
theorem ZY (a b c:Value) (w:World):(method (P.types.size+Made.depth) zz (.agg ⟨[a,b,c]⟩) mn_kids).run P w= .ok (ym,.agg ⟨[a,b]⟩) w:=rK
theorem ZX (a b c:Value) (w:World):(method (P.types.size+Made.depth) zz (.agg ⟨[a,b,c]⟩) kj).run P w= .ok (jF,.agg ⟨[a,b,c]⟩) w:=rK
theorem Zv (a b c:Value) (w:World):(method (P.types.size+Made.depth) zz (.agg ⟨[a,b,c]⟩) qM).run P w= .ok (jn,.agg ⟨[a,b,c]⟩) w:=rK
theorem ZW (a b c:Value) (w:World):(method (P.types.size+Made.depth) zz (.agg ⟨[a,b,c]⟩) Zg).run P w= .ok (yw,.agg ⟨[a,b]⟩) w:=rK
theorem qn:concB zG=true:=rK
@[push_cast] theorem jk0 {w:World} {K:oK} (v:Value):qn0 zG v w K=K (.iface zG v) w:=kN qn v
theorem YE (a b:Value) (w:World):(method (P.types.size+Made.depth) zG (.agg ⟨[a,b]⟩) mn_kids).run P w= .ok (ym,.agg ⟨[a,b]⟩) w:=rK
theorem YD (a b:Value) (w:World):(method (P.types.size+Made.depth) zG (.agg ⟨[a,b]⟩) kj).run P w= .ok (kg,.agg ⟨[a,b]⟩) w:=rK
theorem ZZ (a b:Value) (w:World):(method (P.types.size+Made.depth) zG (.agg ⟨[a,b]⟩) qM).run P w= .ok (jG,.agg ⟨[a,b]⟩) w:=rK
theorem YC (a b:Value) (w:World):(method (P.types.size+Made.depth) zG (.agg ⟨[a,b]⟩) Zg).run P w= .ok (yw,.agg ⟨[a,b]⟩) w:=rK
end Go.Proofs.YtfnpmncplaibiaaGreatDoor
section
namespace Go.Proofs.YtfnpmncplaibiaaGreatDoor
open Go Go.Vc Go.Proofs
open Go.ChangeShapes Go.WideShapes Go.ChangeAt Go.RowKit
theorem YD0:ownKnob P.godebug=none:=rK
theorem YR:laidOutB P=true:=rK
def restFacts (P:Program) (f:FuncId) (fn:Func) (s:ChangeSpec) (c:OpenClaim):Bool:=
 c.wf (OpenSpec.ofChange s)&&
 fn.params.all (P.readableRec ·)&&namedTie P c.named s.vars&&
 (c.stops==[])&&(P.stops==[])&&(c.knobs==[])&&(P.stopKnobs==[])&&
 (c.maps==(fn.params.toList++s.plain.varTypes P).any (P.mapsRec ·))&&(c.ifaces==(fn.params.toList++s.plain.varTypes P).any (P.ifacesRec ·))&&(c.mapsOut==P.mapsAmong fn.resultTypes.toList)&&
 (c.loops==(fn.params.toList++s.plain.varTypes P).any (P.loopsFrom ·))&&(c.wideKeys==(fn.params.toList++s.plain.varTypes P++fn.resultTypes.toList).any (P.wideKeysFrom ·))&&
 s.vars.all (P.varReadable ·)&&fn.resultTypes.all (λt=>P.readableRec t&&decide (t<P.types.size))&&(c.ifacesOut==fn.resultTypes.toList.any (P.ifacesRec ·))&&(c.loopsOut==fn.resultTypes.toList.any (P.loopsFrom ·))&&(c.plainKeys==P.plainKeys)&&c.shortTexts.isNone&&P.stopsHeard&&P.mayEnter&&(c.lifted==P.liftsFinal)&&(P.make==some c.make)&&(c.kinds==(if c.domain.isEmpty then[] else fn.params.toList.map λt=>match P.underlying t with|some (.int k)=>some k|_=>none))&&(c.pinned==c.pinnedBy)&&
 (c.veiled==(fn.params.toList++s.plain.varTypes P++fn.resultTypes.toList).any (P.veiledRec ·))&&c.veiledFits P fn.params.toList (fn.params.toList++s.plain.varTypes P++fn.resultTypes.toList)
theorem jt0 {P:Program} {f:FuncId} {fn:Func} {s:ChangeSpec} {c:OpenClaim} (b:laidOutB P=true) (d:mapsRowed P=true) (e:(c.inPlace==P.inPlace f)=true) (g:(c.unfollowed==P.unfollowed f)=true)
  (h:(c.recurses==P.recurses f)=true) (i:(c.named==P.varsNamed f)=true) (a:restFacts P f fn s c=true):joinedFacts P f fn s c=true:=by
 unfold restFacts at a;unfold joinedFacts;rw[b,d,e,g,h,i];simp only[PK];exact a
theorem Za0:mapsRowed P=true:=rK
theorem jT0 {w w':World} (h:Ext w w'):Below w.heap.size w w':=⟨h.os,h.tape,h.output,h.size,λk a=>h.block k a id⟩
end Go.Proofs.YtfnpmncplaibiaaGreatDoor
end
end
