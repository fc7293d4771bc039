import Derived.Test.YtolbhkcajhlllaaGreatDoorWwbP1
import Derived.RangeFuncRecord
import Derived.WalkKit
import Derived.ProofKit
import Derived.OpenShut
import Derived.ShutString
import Derived.ChangeOld
import Derived.JoinedOf
/- A part of the proof. -/
set_option linter.all false
set_option maxRecDepth 9999
set_option maxHeartbeats 2000000
noncomputable section
namespace Go.Vc
open Go Go.RowKit
section
def hasR:Code->Bool
 | .rangeFunc _ _ _ _=>true
 | .seq a b=>hasR a||hasR b
 | .block _ b=>hasR b
 |_=>false
def ovrAt:List Nat->Fr->List Value->Fr
 |[],f,_=>f
 |p::r,f,args=>ovrAt r (put f (some p) (args.headD undef)) args.tail
def jmp (x:Nat) (Nn Nr Nx:World->Prop) (pe:Option Code) (w:World):Prop:=
 match pe with
 |none=>Nn w
 |some .ret=>Nr w
 |some (.exit i)=>i=x/\Nx w
 |_=>False
def Yj0 (gv:Value) (n x:Nat) (w:World) (B:List Value->(World->(World->Prop)->Prop)->(World->Prop)->(World->Prop)->(World->Prop)->World->Prop) (Nn Nr Nx:Nat->World->Prop):Prop:=
 ∃gf lb,gv= .func (.func gf) #[] lb/\∀(l D:Nat) (w1:World) (RR:LoopState->Option Code->World->Prop),D=w.heap.size->l=w.heap.size+1->Ext w w1->w1.heap.size=w.heap.size+2->w1.heap[D]?=some (.deferred (some []))->
  (∀st pe w' w'',RR st pe w'->w''.heap[l]?=w'.heap[l]?->RR st pe w'')->RR .ready none w1->
  (∀(args:List Value) (w':World) (K:oK),args.length=n->RR .ready none w'->
   B args (λw1 k=>RR .ready none w1/\∀w2,Same (· =l) w1 w2->w2.heap.size=w1.heap.size->RR .busy none w2->k w2)
    (λw3=>RR .busy none w3/\∀w4,Same (· =l) w3 w4->w4.heap.size=w3.heap.size->RR .ready none w4->K (.bool true) w4)
    (λw3=>RR .busy none w3/\∀w4,Same (· =l) w3 w4->w4.heap.size=w3.heap.size->RR .done (some .ret) w4->K (.bool false) w4)
    (λw3=>RR .busy none w3/\∀w4,Same (· =l) w3 w4->w4.heap.size=w3.heap.size->RR .done (some (.exit x)) w4->K (.bool false) w4) w'->
   vcallv (.func (.yield l) #[] #[]) ⟨args⟩ w' K)->
  vcall gf ⟨.func (.yield l) #[] #[]::lb.toList⟩ w1 λ_ w3=> ∃st pe,st≠ .busy/\RR st pe w3/\∀w4,Same (· =l) w3 w4->w4.heap.size=w3.heap.size->jmp x (Nn D) (Nr D) (Nx D) pe w4
def rndK (x:Nat) (kn kr kx:World->Prop) (e:Exit) (_:Fr) (w:World):Prop:=
 match e with
 | .normal=>kn w
 | .ret=>kr w
 | .exit i=>cond (Nat.beq i x) (kx w) False
 |_=>False
def vx (T:Ann) (x:Nat):Code->(Exit->Fr->World->Prop)->(Nat->Exit->Fr->World->Prop)->Fr->World->Prop
 | .rangeFunc g ps asg body,_,K1,f,w=>
  Yj0 (ev f g) ps.size x w
   (λargs beg kn kr kx w'=>vc T asg (seqK (λf1 w1=>beg w1 λw2=>vc T body (rndK x kn kr kx) f1 w2) (λ_ _ _=>False)) (ovrAt ps.toList f args) w')
   (λD w'=>K1 D .normal f w') (λD w'=>K1 D .ret f w') (λD w'=>K1 D (.exit x) f w')
 | .seq a b,K0,K1,f,w=>
  match hasR a with
  |true=>vx T x a (seqK (λf' w'=>vc T b K0 f' w') K0) (λD=>seqK (λf' w'=>vc T b (K1 D) f' w') (K1 D)) f w
  |false=>vc T a (seqK (λf' w'=>vx T x b K0 K1 f' w') K0) f w
 | .block id c,K0,K1,f,w=>vx T x c (blkK id K0) (λD=>blkK id (K1 D)) f w
 |_,_,_,_,_=>False
def okX (n:Nat) (T:Ann):Code->Bool
 | .rangeFunc _ ps asg body=>okC n T asg&&(okC n T body&&ps.toList.all λp=>Nat.blt p n)
 | .seq a b=>cond (hasR a) (okX n T a&&okC n T b) (okC n T a&&okX n T b)
 | .block _ c=>okX n T c
 |_=>false
def Ys0 (D:Nat):Deferred:={target:= .collected D,args:= #[]}
def kY0 (n:Nat) (K0:Exit->Fr->World->Prop) (K1:Nat->Exit->Fr->World->Prop) (e:Exit) (a:Act) (w:World):Prop:=
 (∃f',Sim [] n f' a/\K0 e f' w)\/ ∃D f',Sim [Ys0 D] n f' a/\K1 D e f' w
section
variable {T:Ann} {n x:Nat}
theorem Zy0:∀(ps:List Nat) (f:Fr) (args:List Value) (tmps:Array Value),args.length=ps.length->ps.all (λp=>Nat.blt p n)=true->tmps.size=n->(∀t,tmps.getD t undef=f t)->
  Sim [] n (ovrAt ps f args) {tmps:=(ps.zip args).foldl (λt p=>t.setIfInBounds p.1 p.2) tmps,defers:=[]}:=by
 intro ps;induction ps with
 |nil=>intro f args tmps _ _ hs a;exact⟨hs,rfl,a⟩
 |cons p r g=>
  intro f args tmps d b hs a;cases args with
  |nil=>simp at d
  |cons v args=>
   simp only[List.all_cons,gg] at b;have c:p<n:=(by simpa[pO] using b.1);refine g (put f (some p) v) args (tmps.setIfInBounds p v) (by simpa using d) b.2 (by simpa using hs) λt=>?_;by_cases e:t=p
   ·subst e;rw[Jj];simp[gH,hs,c]
   ·rw[VM _ _ _ _ e,<-a t];simp only[gH];rw[pY (Ne.symm e)]
theorem Y4 (w:World) (l:Nat) (o:Obj):Same (· =l) w (w.putObj l o):=
 ⟨rfl,rfl,rfl,by simp,λ_ _ a=>World.putObj_heap_other a⟩
theorem Y6 {w:World} {l:Nat} {o:Obj} (h:w.heap[l]?=some o):l<w.heap.size:=(gA.1 h).1
theorem range_sound (hm:P.follows .mixedOrders=true) {g:Operand} {ps:Array Tmp} {asg body:Code} {R:Exit->Fr->World->Prop} {S:Nat->Exit->Fr->World->Prop} {f:Fr} {a:Act} {w:World}
  (z:okX n T (.rangeFunc g ps asg body)=true) (h:vx T x (.rangeFunc g ps asg body) R S f w) (hs:Sim [] n f a):(Code.rangeFunc g ps asg body).wpIn (FR none) 0 P (kY0 n R S) a w:=by
 simp only[okX,gg] at z;obtain⟨L,M,N⟩:=z;obtain⟨gf,lb,Z,H⟩:=h;refine wpIn_rangeFunc λfn _=>?_
 let d:LoopState->Option Code->Loop:=λst pe=>{state:=st,pending:=pe,fn,tmps:=a.tmps,params:=ps,assign:=asg,body,defers:=w.heap.size}
 obtain⟨w1,q⟩:∃w1,(w.alloc (.deferred (some []))).alloc (.loop (d .ready none))=w1:=⟨_,rfl⟩;have F:w1.heap[w.heap.size+1]?=some (.loop (d .ready none)):=by
  rw[<-q];have:=World.alloc_heap_new (w.alloc (.deferred (some []))) (.loop (d .ready none));rwa[World.size_alloc] at this
 have hD1:w1.heap[w.heap.size]?=some (.deferred (some [])):=by
  rw[<-q];exact(Below.heap_alloc _ _ _ (by simp)).trans (World.alloc_heap_new w _)
 have D:w1.heap.size=w.heap.size+2:=by rw[<-q,World.size_alloc,World.size_alloc]
 have E:Ext w w1:=by
  rw[<-q];exact⟨rfl,rfl,rfl,by rw[World.size_alloc,World.size_alloc];omega,λb X _=>(Below.heap_alloc _ _ b (by rw[World.size_alloc];omega)).trans (Below.heap_alloc w _ b X)⟩
 have Y:=H (w.heap.size+1) w.heap.size w1 (λst pe w'=>w'.heap[w.heap.size+1]?=some (.loop (d st pe))) rfl rfl E D hD1 (λst pe w' w'' A he=>he.trans A) F ?_
 ·obtain⟨G,r⟩:=Y;refine⟨w.heap.size+1,[Ys0 w.heap.size],w1,{target:= .fn (.func gf) lb,args:= #[.func (.yield (w.heap.size+1)) #[] #[]]},w1,gf,
   #[.func (.yield (w.heap.size+1)) #[] #[]]++lb,w1,?_,?_,λ_ _=>trivial,?_,λh=>(by cases h),?_⟩
  ·rw[<-q];exact run_enterLoop_outer _ _ _ _ _
  ·simp only[resolve,hs.eval,Z];simp[go_sem,ev]
  ·simp[invoke,go_sem,callFunc_run G]
  ·have e:(#[.func (.yield (w.heap.size+1)) #[] #[]]++lb:Array Value)=⟨.func (.yield (w.heap.size+1)) #[] #[]::lb.toList⟩:=by apply GA.1;simp
   rw[e];refine callsIn_wide.2 (Calls.mono r λe w3 he=>?_);cases e with
   |returned v=>
    obtain⟨st,pe,Q,A,W⟩:=he;have u:=run_endLoop (P:=P) A (by exact Q);have m:=W _ (Y4 w3 _ (.loop {d st pe with state:= .exhausted})) (by simp);have s:Sim [Ys0 w.heap.size] n f {a with defers:=[Ys0 w.heap.size]++a.defers}:=⟨hs.size,by rw[hs.defers];rfl,hs.at_⟩;refine⟨pe,_,u,?_⟩;cases pe with
    |none=>exact .inr ⟨_,f,s,m⟩
    |some c=>
     cases c<;>simp only[jmp] at m<;>try exact m.elim
     case exit i=>
      obtain⟨rfl,m⟩:=m;exact wpIn_exit (.inr ⟨_,f,s,m⟩)
     case ret=>exact wpIn_ret (.inr ⟨_,f,s,m⟩)
   |panicked c=>exact he.elim
   |outgrown=>exact he.elim
 ·intro args w' K hlen A V;have hy:=run_yield (P:=P) (args:=(⟨args⟩:Array Value)) A (by simpa[d] using hlen);refine⟨fn,_,asg,body,hy,roundIn_of_wpIn trivial ?_⟩;have C:=Zy0 (n:=n) ps.toList f args a.tmps (by simpa using hlen) N hs.size hs.at_;have ez:((d .ready none).params.zip (⟨args⟩:Array Value)).foldl (λtmps (t,a)=>tmps.setIfInBounds t a) (d .ready none).tmps=(ps.toList.zip args).foldl (λt p=>t.setIfInBounds p.1 p.2) a.tmps:=by
   rw[<-Pu,Array.toList_zip]
  rw[ez];have U:=vc_sound (ro:=some (w.heap.size+1)) hm asg _ _ _ w' L V C (λl f w h=>h);refine wpIn_mono U ?_;rintro e a2 w2 ⟨f2,O,_,y⟩;cases e<;>simp only[seqK] at y<;>try exact y.elim
  case normal=>
   obtain⟨B,y⟩:=y;refine⟨_,run_beginRound B rfl,?_⟩;have J:=Y6 B;have I:=y _ (Y4 w2 _ (.loop {d .ready none with state:= .busy})) (by simp) (World.putObj_heap_same J);refine wpIn_mono (vc_sound (ro:=some (w.heap.size+1)) hm body _ _ _ _ M I O (λl f w h=>h)) ?_;rintro e a3 w3 ⟨f3,a0,_,j⟩;cases e<;>simp only[rndK] at j<;>try exact j.elim
   case normal=>
    obtain⟨k,o⟩:=j;exact⟨_,_,run_endRound none k,o _ (Y4 w3 _ _) (by simp) (World.putObj_heap_same (Y6 k))⟩
   case ret=>
    obtain⟨k,o⟩:=j;exact⟨_,_,run_endRound (some .ret) k,o _ (Y4 w3 _ _) (by simp) (World.putObj_heap_same (Y6 k))⟩
   case exit i=>
    cases hi:Nat.beq i x
    ·rw[hi] at j;exact j.elim
    ·rw[hi] at j;obtain rfl:=gp hi;obtain⟨k,o⟩:=j;exact⟨_,_,run_endRound (some (.exit i)) k,o _ (Y4 w3 _ _) (by simp) (World.putObj_heap_same (Y6 k))⟩
theorem jV0 (hm:P.follows .mixedOrders=true):∀(c:Code) (p:Exit->Fr->World->Prop) (q:Nat->Exit->Fr->World->Prop) (f:Fr) (a:Act) (w:World),okX n T c=true->vx T x c p q f w->Sim [] n f a->
  (∀l f w,¬p (.goto l) f w)->(∀D l f w,¬q D (.goto l) f w)->c.wpIn (FR none) 0 P (kY0 n p q) a w:=by
 intro c;induction c with
 |rangeFunc g ps asg body _ _=>intro p q f a w d h hs _ _;exact range_sound hm d h hs
 |seq y z ihy ihz=>
  intro p q f a w d h hs o s;refine wpIn_seq ?_;simp only[okX] at d;simp only[vx] at h;cases E:hasR y with
  |true=>
   rw[E] at d h;simp only[cond,gg] at d;simp only at h;refine wpIn_mono (ihy _ _ f a w d.1 h hs (λl f w h=>o l f w h) (λD l f w h=>s D l f w h)) ?_;rintro e r w' (⟨m,j,k⟩|⟨D,m,j,k⟩)
   ·cases e with
    |normal=>
     refine wpIn_mono (vc_sound hm z p m r w' d.2 k j o) ?_;rintro e A w'' ⟨u,t,_,v⟩;exact .inl ⟨u,t,v⟩
    |_=>exact .inl ⟨m,j,k⟩
   ·cases e with
    |normal=>
     refine wpIn_mono (vc_sound hm z (q D) m r w' d.2 k j (s D)) ?_;rintro e A w'' ⟨u,t,_,v⟩;exact .inr ⟨D,u,t,v⟩
    |_=>exact .inr ⟨D,m,j,k⟩
  |false=>
   rw[E] at d h;simp only[cond,gg] at d;simp only at h;refine wpIn_mono (vc_sound hm y _ f a w d.1 h hs (λl f w h=>o l f w h)) ?_;rintro e r w' ⟨m,j,_,k⟩;cases e with
   |normal=>exact ihz p q m r w' d.2 k j o s
   |_=>exact .inl ⟨m,j,k⟩
 |block id b F=>
  intro p q f a w d h hs o s;simp only[vx] at h;refine wpIn_block (wpIn_mono (F _ _ f a w d h hs (λl f w h=>o l f w h) (λD l f w h=>s D l f w h)) ?_);have key:∀(K:Exit->Fr->World->Prop) (e:Exit) (m:Fr) (w':World),blkK id K e m w'->∀(df:List Deferred) (r:Act),Sim df n m r->(∀e f w a,Sim df n f a->K e f w->kY0 n p q e a w)->Exit.inBlock id (kY0 n p q) e r w':=by
   intro K e m w' k df r j B;cases e with
   |exit i=>
    simp only[blkK] at k;cases hi:Nat.beq i id
    ·rw[hi] at k;have C:i≠id:=Nat.ne_of_beq_eq_false hi;simp only[Exit.inBlock,C,if_false];exact B _ _ _ _ j k
    ·rw[hi] at k;have:i=id:=gp hi;subst this;simp only[Exit.inBlock,if_true];exact B _ _ _ _ j k
   |_=>exact B _ _ _ _ j k
  rintro e r w' (⟨m,j,k⟩|⟨D,m,j,k⟩)
  ·exact key p e m w' k [] r j λe f w a hs h=> .inl ⟨f,hs,h⟩
  ·exact key (q D) e m w' k [Ys0 D] r j λe f w a hs h=> .inr ⟨D,f,hs,h⟩
 |_=>intro p q f a w d;exact absurd d (by simp[okX])
def xb0 (D:Nat) (w:World) (k:World->Prop):Prop:=w.heap[D]?=some (.deferred (some []))/\∀w',Same (· =D) w w'->w'.heap.size=w.heap.size->k w'
def retM (rs:List ResultVar) (K:oK) (D:Nat) (e:Exit) (f:Fr) (w:World):Prop:=
 match e with
 | .normal=>xb0 D w λw'=>Y00 rs f w' K
 | .ret=>xb0 D w λw'=>Y00 rs f w' K
 |_=>False
theorem zX0 {g:Nat} {fn:Func} {c:Code} {args:List Value} {w:World} {K:oK} (hm:P.follows .mixedOrders=true) (r:P.funcs[g]?=some fn) (q:fn.body=some c)
  (t:fn.ntmps=n) (s:okFn g=true) (j:okX n T c=true) (hlen:Nat.ble args.length n=true)
  (h:vx T x c (retF fn.results.toList K) (retM fn.results.toList K) (nthV args) w):vcall g args.toArray w K:=by
 refine⟨s,callsIn_wide (n:=0).1 (callsIn_of_wp_marks r q trivial ?_)⟩;rw[t];refine wpIn_mono (jV0 (x:=x) hm c _ _ _ _ w j h (sim_enter args n (p0 hlen)) (λl f w h=>h) (λD l f w h=>h)) ?_;rintro e k w' (⟨m,a,b⟩|⟨D,m,a,b⟩)
 ·cases e with
  |normal=>obtain⟨v,d,i⟩:=vres_sound b a;rw[bodyPostM,a.defers];exact⟨v,d,i⟩
  |ret=>obtain⟨v,d,i⟩:=vres_sound b a;rw[bodyPostM,a.defers];exact⟨v,d,i⟩
  |_=>exact b.elim
 ·have fin:xb0 D w' (λw'=>Y00 fn.results.toList m w' K)->LeavesInM (FR none) 0 P fn k.tmps (retK K) k.defers .returning w':=by
   rintro⟨o,p⟩;rw[a.defers];obtain⟨v,d,i⟩:=vres_sound (p _ (Y4 w' D (.deferred none)) (by simp)) a;exact⟨by simp,.inl ⟨_,_,rfl,run_takeDeferred o,v,d,i⟩⟩
  cases e with
  |normal=>exact fin b
  |ret=>exact fin b
  |_=>exact b.elim
end
end
end Go.Vc
section
namespace Go.M
inductive Tm where
 |mk (op a b:Int) (s:ByteArray) (ks:List Tm)
namespace Tm
def op:Tm->Int|mk o _ _ _ _=>o
def a:Tm->Int|mk _ a _ _ _=>a
def b:Tm->Int|mk _ _ b _ _=>b
def s:Tm->ByteArray|mk _ _ _ s _=>s
def ks:Tm->List Tm|mk _ _ _ _ ks=>ks
theorem ind {p:Tm->Prop} (h:∀t,(∀k,k∈t.ks->p k)->p t):∀t,p t
 |mk o a b s ks=>h _ λk (c:k∈ks)=>by
   have:=List.sizeOf_lt_of_mem c;exact ind h k
decreasing_by
 grind
variable {α:Type}
mutual
def fold (f:Tm->List α->α):Tm->α
 |mk o a b s ks=>f (mk o a b s ks) (foldL f ks)
def foldL (f:Tm->List α->α):List Tm->List α
 |[]=>[]
 |k::r=>fold f k::foldL f r
end
theorem foldL_eq (f:Tm->List α->α) (ks:List Tm):foldL f ks=ks.map (fold f):=by
 induction ks with
 |nil=>simp only[foldL,Pr]
 |cons k r a=>simp only[foldL,a,Gw]
theorem fold_eq (f:Tm->List α->α) (t:Tm):fold f t=f t (t.ks.map (fold f)):=by
 cases t with
 |mk o a b s ks=>simp only[fold,foldL_eq];rfl
end Tm
def nada:ByteArray:=⟨#[]⟩
instance:Inhabited Tm:=⟨.mk 0 0 0 nada []⟩
def vok (w n:Int):Bool:=decide (1<=w)&&decide (w<=4)&&decide (0<=n)&&decide (n<2^w.toNat)
theorem vok_iff {w n:Int}:vok w n=true↔1<=w/\w<=4/\0<=n/\n<2^w.toNat:=by simp[vok,and_assoc]
theorem four {w:Int} (a:1<=w) (b:w<=4):w=1\/w=2\/w=3\/w=4:=oM
theorem vok_lt {w n:Int} (h:vok w n=true):1<=w/\w<=4/\0<=n/\n<16:=by
 obtain⟨a,b,c,d⟩:=vok_iff.1 h
 grind [four]
theorem small1 {p:Nat->Nat->Prop} [∀w n,Decidable (p w n)] (h:∀w:Fin 5,∀n:Fin 16,1<=w.1->n.1<2^w.1->p w n) {w n:Int} (a:vok w n=true):p w.toNat n.toNat:=by
 obtain⟨b,c,d,e⟩:=vok_lt a;obtain⟨_,_,_,f⟩:=vok_iff.1 a;refine h ⟨w.toNat,oM⟩ ⟨n.toNat,oM⟩ (by grind) ?_
 grind
def unM (op w a:Int):Int:=if op=1 then 2^w.toNat-1-a else(2^w.toNat-a)%2^w.toNat
def binN (op w a b:Nat):Nat:=
 if op=3 then a&&&b
 else if op=4 then a|||b
 else if op=5 then a^^^b
 else if op=6 then(a+b)%2^w
 else if op=7 then(a+2^w-b)%2^w
 else if op=8 then a*b%2^w
 else if op=9 then(if b=0 then 2^w-1 else a/b)
 else if op=10 then(if b=0 then a else a%b)
 else if op=11 then a*2^b%2^w
 else if op=12 then a/2^b
 else if a<2^(w-1) then a/2^b else 2^w-1-(2^w-1-a)/2^b
def binM (op w a b:Int):Int:=binN op.toNat w.toNat a.toNat b.toNat
def catM (v a b:Int):Int:=a*2^v.toNat+b
def sgn (w a:Int):Int:=if a<2^(w.toNat-1) then a else a-2^w.toNat
def cmpM (op w a b:Int):Bool:=if op=15 then decide (a=b) else if op=16 then decide (a<b) else decide (sgn w a<sgn w b)
def cutM (a hi lo:Int):Int:=a/2^lo.toNat%2^(hi-lo+1).toNat
theorem unM_ok {op w a:Int} (h:vok w a=true):vok w (unM op w a)=true:=by
 obtain⟨b,c,d,e⟩:=vok_iff.1 h;refine vok_iff.2 ⟨b,c,?_⟩;unfold unM;omega
def YC0 (op w:Nat):Bool:=(List.range 16).all λa=>(List.range 16).all λb=> !(decide (a<2^w)&&decide (b<2^w))||decide (binN op w a b<2^w)
theorem binN_lt {op w a b:Nat} (f:3<=op) (h:op<=13) (hw:1<=w) (d:w<=4) (g:a<2^w) (i:b<2^w):binN op w a b<2^w:=by
 have c:∀o:Fin 14,∀v:Fin 5,3<=o.1->1<=v.1->YC0 o v=true:=by decide+kernel
 have e:2^w<=2^4:=Gb oM d;have:=c ⟨op,oM⟩ ⟨w,oM⟩ f hw;simp only[YC0,gZ,gI,Gn,gN,G8,decide_eq_false_iff_not,decide_eq_true_eq] at this
 grind
theorem binM_ok {op w a b:Int} (k:3<=op) (c:op<=13) (g:vok w a=true) (h:vok w b=true):vok w (binM op w a b)=true:=by
 obtain⟨i,j,l,m⟩:=vok_iff.1 g;obtain⟨_,_,d,f⟩:=vok_iff.1 h;have e:((2^w.toNat:Nat):Int)=2^w.toNat:=by simp
 have:=binN_lt (op:=op.toNat) (w:=w.toNat) (a:=a.toNat) (b:=b.toNat) oM oM oM oM oM oM
 grind [vok_iff,binM]
theorem cat_ok {v w a b:Int} (c:vok w a=true) (d:vok v b=true) (hs:w+v<=4):vok (w+v) (catM v a b)=true:=by
 obtain⟨e,f,g,h⟩:=vok_iff.1 c;obtain⟨i,j,k,l⟩:=vok_iff.1 d;refine vok_iff.2 ⟨oM,hs,?_⟩;unfold catM
 grind [four]
theorem cut_ok {w a hi lo:Int} (b:vok w a=true) (c:0<=lo) (h:lo<=hi) (hw:hi<w):vok (hi-lo+1) (cutM a hi lo)=true:=by
 obtain⟨d,e,f,g⟩:=vok_iff.1 b;refine vok_iff.2 ⟨oM,oM,?_⟩;unfold cutM;omega
def vecUn (op w n:Int):(Int×Int)×Bool:=if vok w n=true/\(op=1\/op=2) then((w,unM op w n),true) else((0,0),false)
def vecBin (op w n v m:Int):(Int×Int)×Bool:=
 if vok w n=true/\vok v m=true then
  if op=14 then(if w+v<=4 then((w+v,catM v n m),true) else((0,0),false))
  else if 3<=op/\op<=13/\w=v then((w,binM op w n m),true) else((0,0),false)
 else((0,0),false)
def vecCmp (op w n v m:Int):Bool×Bool:=
 if vok w n=true/\vok v m=true/\w=v/\15<=op/\op<=17 then(cmpM op w n m,true) else(false,false)
def vecCut (w n hi lo:Int):(Int×Int)×Bool:=if vok w n=true/\0<=lo/\lo<=hi/\hi<w then((hi-lo+1,cutM n hi lo),true) else((0,0),false)
theorem vok_nat {w n:Int} (h:vok w n=true):∃k a:Nat,w=k/\n=a/\1<=k/\k<=4/\a<2^k:=by
 obtain⟨b,c,d,e⟩:=vok_iff.1 h;refine⟨w.toNat,n.toNat,oM,oM,oM,oM,?_⟩
 grind
theorem unM_not {k a:Nat} (c:1<=k) (d:k<=4) (h:a<2^k):unM 1 k a=((18446744073709551615-a)%2^k:Nat):=by
 have b:∀v:Fin 5,∀x:Fin 16,1<=v.1->x.1<2^v.1->unM 1 v.1 x.1=((18446744073709551615-x.1)%2^v.1:Nat):=by decide+kernel
 have:2^k<=2^4:=Gb oM d;exact b ⟨k,oM⟩ ⟨a,oM⟩ c h
theorem unM_neg {k a:Nat} (c:1<=k) (d:k<=4) (h:a<2^k):unM 2 k a=((if a=0 then 0 else 18446744073709551616-a)%2^k:Nat):=by
 have b:∀v:Fin 5,∀x:Fin 16,1<=v.1->x.1<2^v.1->unM 2 v.1 x.1=((if x.1=0 then 0 else 18446744073709551616-x.1)%2^v.1:Nat):=by decide+kernel
 have:2^k<=2^4:=Gb oM d;exact b ⟨k,oM⟩ ⟨a,oM⟩ c h
theorem cat_or {k v a b:Nat} (d:v<=4) (f:k<=4) (i:a<2^k) (e:b<2^v):((a*2^v|||b:Nat):Int)=catM v a b:=by
 have c:∀v:Fin 5,∀x y:Fin 16,y.1<2^v.1->x.1*2^v.1|||y.1=x.1*2^v.1+y.1:=by decide+kernel
 have g:2^k<=2^4:=Gb oM f;have h:2^v<=2^4:=Gb oM d;have:=c ⟨v,oM⟩ ⟨a,oM⟩ ⟨b,oM⟩ e
 grind [catM]
end Go.M
end
namespace Go.M
open Go.Vc
abbrev Dcl:=ByteArray×Int
def findD (ds:List Dcl) (s:ByteArray):Int:=idxI ds.length λi=>decide ((ds.getD i (nada,0)).1=s)
def tru:ByteArray:=⟨#[116,114,117,101]⟩
def nameOk (s:ByteArray):Bool:=decide (1<=s.size)&&decide (s.size<=4)&&decide (s≠tru)&&s.data.all λc=>decide (97<=c.toNat)&&decide (c.toNat<=122)
def bits (ds:List Dcl):Int:=(ds.map (·.2)).sum
def dclOk (ds:List Dcl) (i:Nat):Bool:=nameOk (ds.getD i (nada,0)).1&&decide (1<=(ds.getD i (nada,0)).2)&&decide ((ds.getD i (nada,0)).2<=4)&&decide (findD (ds.take i) (ds.getD i (nada,0)).1<0)
def declOk (ds:List Dcl):Bool:=decide (ds.length<=4)&&((List.range ds.length).all λi=>dclOk ds i)&&decide (bits ds<=8)
def envOk (ds:List Dcl) (env:List Int):Bool:=declOk ds&&decide (env.length=ds.length)&&(List.range ds.length).all λi=>vok (ds.getD i (nada,0)).2 (env.getD i 0)
theorem findD_lt (ds:List Dcl) (s:ByteArray): -1<=findD ds s/\findD ds s<ds.length:=by
 grind [findD,idxI]
theorem findD_neg {ds:List Dcl} {s:ByteArray} (h:findD ds s<0) {j:Nat} (a:j<ds.length):(ds.getD j (nada,0)).1≠s:=by
 grind [findD,idxI]
theorem findD_get {ds:List Dcl} {s:ByteArray} (h:0<=findD ds s):(ds.getD (findD ds s).toNat (nada,0)).1=s:=by
 grind [findD,idxI]
theorem findD_of {ds:List Dcl} {s:ByteArray} {i:Nat} (hi:i<ds.length) (h:(ds.getD i (nada,0)).1=s) (b:∀j,j<i->(ds.getD j (nada,0)).1≠s):findD ds s=i:=
 idxI_some hi (by grind) λj a=>decide_eq_false (b j a)
theorem findD_none {ds:List Dcl} {s:ByteArray} (b:∀j,j<ds.length->(ds.getD j (nada,0)).1≠s):findD ds s= -1:=
 Kf λj a=>decide_eq_false (b j a)
theorem decl_iff {ds:List Dcl}:declOk ds=true↔ds.length<=4/\(∀i,i<ds.length->dclOk ds i=true)/\bits ds<=8:=by
 grind [declOk]
theorem take_getD {α:Type} {l:List α} {i j:Nat} {d:α} (h:j<i):(l.take i).getD j d=l.getD j d:=by
 grind
theorem dcl_apart {ds:List Dcl} (h:declOk ds=true) {i j:Nat} (hi:i<ds.length) (b:j<i):(ds.getD j (nada,0)).1≠(ds.getD i (nada,0)).1:=by
 have:=(decl_iff.1 h).2.1 i hi;simp only[dclOk,gg,decide_eq_true_eq] at this;have a:=findD_neg this.2 (j:=j) (by rw[gh];omega);rwa[take_getD b] at a
def bitT (ds:List Dcl) (i:Nat):Int:=((ds.take i).map (·.2)).sum
theorem bitT_succ {ds:List Dcl} {i:Nat} (h:i<ds.length):bitT ds (i+1)=bitT ds i+(ds.getD i (nada,0)).2:=by
 grind [bitT,List.take_add_one]
theorem bitT_all (ds:List Dcl):bitT ds ds.length=bits ds:=by unfold bitT bits;grind
theorem dcl_wide {ds:List Dcl} (h:declOk ds=true) {i:Nat} (hi:i<ds.length):1<=(ds.getD i (nada,0)).2/\(ds.getD i (nada,0)).2<=4:=by
 simp_all[declOk,dclOk]
theorem env_ok {ds:List Dcl} {env:List Int} (h:envOk ds env=true):declOk ds=true/\env.length=ds.length/\∀i,i<ds.length->vok (ds.getD i (nada,0)).2 (env.getD i 0)=true:=by
 grind [envOk]
def sizeM:Tm->Nat:=Tm.fold λ_ xs=>1+xs.sum
def deepM:Tm->Nat:=Tm.fold λ_ xs=>1+xs.foldl max 0
theorem sizeM_eq (t:Tm):sizeM t=1+(t.ks.map sizeM).sum:=Tm.fold_eq _ t
theorem Y9 (t:Tm):deepM t=1+(t.ks.map deepM).foldl max 0:=Tm.fold_eq _ t
def szT (ks:List Tm) (i:Nat):Nat:=((ks.take i).map sizeM).sum
def dpT (ks:List Tm) (i:Nat):Nat:=((ks.take i).map deepM).foldl max 0
theorem take_add {α:Type} {l:List α} {i:Nat} (h:i<l.length) (d:α):l.take (i+1)=l.take i++[l.getD i d]:=by
 simp_all
theorem szT_succ {ks:List Tm} {i:Nat} (h:i<ks.length):szT ks (i+1)=szT ks i+sizeM (ks.getD i default):=by
 grind [szT,take_add]
theorem dpT_succ {ks:List Tm} {i:Nat} (h:i<ks.length):dpT ks (i+1)=max (dpT ks i) (deepM (ks.getD i default)):=by
 grind [dpT,take_add]
theorem szT_all (t:Tm):sizeM t=1+szT t.ks t.ks.length:=by rw[sizeM_eq,szT,gw]
theorem dpT_all (t:Tm):deepM t=1+dpT t.ks t.ks.length:=by rw[Y9,dpT,gw]
theorem szT_mono {ks:List Tm} {i:Nat}:∀{j:Nat},i<=j->j<=ks.length->szT ks i<=szT ks j
 |0,h,_=>by
  grind
 |j+1,h,a=>by
  by_cases e:i=j+1
  ·grind
  ·have:=szT_mono (ks:=ks) (i:=i) (j:=j) oM oM;rw[szT_succ oM];omega
theorem dpT_mono {ks:List Tm} {i:Nat}:∀{j:Nat},i<=j->j<=ks.length->dpT ks i<=dpT ks j
 |0,h,_=>by
  grind
 |j+1,h,a=>by
  by_cases e:i=j+1
  ·grind
  ·have:=dpT_mono (ks:=ks) (i:=i) (j:=j) oM oM;rw[dpT_succ oM];omega
def fits (t:Tm):Bool:=decide (sizeM t<=20)&&decide (deepM t<=7)
theorem fits_iff {t:Tm}:fits t=true↔sizeM t<=20/\deepM t<=7:=by simp[fits]
def manyM (t:Tm):Nat:=if fits t then sizeM t else 21
def lvlM (t:Tm):Nat:=if fits t then deepM t else 8
def arity (o:Int):Int:=if o=20\/o=21\/o=24 then 0 else if o=1\/o=2\/o=22\/o=25 then 1 else if o=23 then 3 else if o=26\/o=27 then 2 else if 3<=o/\o<=17 then 2 else-1
def plainM (t:Tm):Bool:=(decide (t.op=20)||decide (t.op=22)||(decide (t.a=0)&&decide (t.b=0)))&&(decide (t.op=21)||decide (t.s=nada))
def sortK (ds:List Dcl) (t:Tm) (xs:List Int):Int:=
 if t.op=20 then(if vok t.a t.b then t.a else-1)
 else if t.op=21 then(if findD ds t.s<0 then-1 else(ds.getD (findD ds t.s).toNat (nada,0)).2)
 else if 24<=t.op then(if xs.any (λx=>decide (x≠0)) then-1 else 0)
 else if t.op=23 then(if xs.getD 0 0=0/\xs.getD 1 0=xs.getD 2 0 then xs.getD 1 0 else-1)
 else if t.op=22 then(if 0<=t.b/\t.b<=t.a/\t.a<xs.getD 0 0 then t.a-t.b+1 else-1)
 else if t.op<=2 then(if 0<xs.getD 0 0 then xs.getD 0 0 else-1)
 else if t.op=14 then(if 0<xs.getD 0 0/\0<xs.getD 1 0/\xs.getD 0 0+xs.getD 1 0<=4 then xs.getD 0 0+xs.getD 1 0 else-1)
 else if 15<=t.op then(if 0<xs.getD 0 0/\xs.getD 0 0=xs.getD 1 0 then 0 else-1)
 else(if 0<xs.getD 0 0/\xs.getD 0 0=xs.getD 1 0 then xs.getD 0 0 else-1)
def formed (t:Tm):Bool:=decide (arity t.op=t.ks.length)&&plainM t
def sortF (ds:List Dcl) (t:Tm) (xs:List Int):Int:=if formed t=true/\¬(-1∈xs) then sortK ds t xs else-1
def sortM (ds:List Dcl):Tm->Int:=Tm.fold (sortF ds)
theorem sortM_eq (ds:List Dcl) (t:Tm):sortM ds t=sortF ds t (t.ks.map (sortM ds)):=Tm.fold_eq _ t
theorem arity_ops {o:Int} (h:0<=arity o):(1<=o/\o<=17)\/(20<=o/\o<=27):=by
 grind [arity]
theorem getD_map {α β:Type} (f:α->β) {l:List α} {i:Nat} (h:i<l.length) (d:β) (e:α):(l.map f).getD i d=f (l.getD i e):=by
 grind
theorem getD_mem {α:Type} {l:List α} {i:Nat} (h:i<l.length) (d:α):l.getD i d∈l:=by
 grind
theorem sort_parts {ds:List Dcl} {t:Tm} (h:sortM ds t≠ -1):formed t=true/\(∀k,k∈t.ks->sortM ds k≠ -1)/\sortM ds t=sortK ds t (t.ks.map (sortM ds)):=by
 rw[sortM_eq] at h⊢
 grind [sortF]
theorem sort_range {ds:List Dcl} (c:declOk ds=true):∀t,-1<=sortM ds t/\sortM ds t<=4:=by
 refine Tm.ind λt k=>?_;rw[sortM_eq];unfold sortF;split
 ·rename_i j;have a:∀i,-1<=(t.ks.map (sortM ds)).getD i 0/\(t.ks.map (sortM ds)).getD i 0<=4:=(by grind);have f:=a 0;have g:=a 1;have h:=a 2;have b:=arity_ops (o:=t.op) (by
   grind [formed])
  unfold sortK;split
  ·split
   ·rename_i e;have:=vok_lt e;omega
   ·omega
  ·split
   ·have d:=findD_lt ds t.s;split
    ·omega
    ·have:=dcl_wide c (i:=(findD ds t.s).toNat) oM;omega
   omega
 ·omega
def tsort (ds:List Dcl) (t:Tm):Int:=if fits t=true/\declOk ds=true then sortM ds t else-1
def b2i (b:Bool):Int:=if b then 1 else 0
def valK (ds:List Dcl) (env:List Int) (t:Tm) (xs:List (Int×Int)):Int:=
 if t.op=20 then t.b
 else if t.op=21 then env.getD (findD ds t.s).toNat 0
 else if t.op=24 then 1
 else if t.op=25 then b2i (decide ((xs.getD 0 (0,0)).2=0))
 else if t.op=26 then b2i (decide ((xs.getD 0 (0,0)).2=1)&&decide ((xs.getD 1 (0,0)).2=1))
 else if t.op=27 then b2i (decide ((xs.getD 0 (0,0)).2=1)||decide ((xs.getD 1 (0,0)).2=1))
 else if t.op=23 then(if(xs.getD 0 (0,0)).2=1 then(xs.getD 1 (0,0)).2 else(xs.getD 2 (0,0)).2)
 else if t.op=22 then cutM (xs.getD 0 (0,0)).2 t.a t.b
 else if t.op<=2 then unM t.op (xs.getD 0 (0,0)).1 (xs.getD 0 (0,0)).2
 else if t.op=14 then catM (xs.getD 1 (0,0)).1 (xs.getD 0 (0,0)).2 (xs.getD 1 (0,0)).2
 else if 15<=t.op then b2i (cmpM t.op (xs.getD 0 (0,0)).1 (xs.getD 0 (0,0)).2 (xs.getD 1 (0,0)).2)
 else binM t.op (xs.getD 0 (0,0)).1 (xs.getD 0 (0,0)).2 (xs.getD 1 (0,0)).2
def vecF (ds:List Dcl) (env:List Int) (t:Tm) (xs:List (Int×Int)):Int×Int:=(sortF ds t (xs.map (·.1)),valK ds env t xs)
def vecM (ds:List Dcl) (env:List Int):Tm->Int×Int:=Tm.fold (vecF ds env)
def evalM (ds:List Dcl) (env:List Int) (t:Tm):Int:=(vecM ds env t).2
theorem qe0 (ds:List Dcl) (env:List Int) (t:Tm):vecM ds env t=vecF ds env t (t.ks.map (vecM ds env)):=Tm.fold_eq _ t
theorem vecM_sort (ds:List Dcl) (env:List Int):∀t,(vecM ds env t).1=sortM ds t:=by
 refine Tm.ind λt a=>?_;rw[qe0,sortM_eq];show sortF ds t _=_
 grind [List.map_congr_left]
theorem vecM_pair (ds:List Dcl) (env:List Int) (t:Tm):vecM ds env t=(sortM ds t,evalM ds env t):=by rw[<-vecM_sort ds env t];rfl
theorem evalM_eq (ds:List Dcl) (env:List Int) (t:Tm):evalM ds env t=valK ds env t (t.ks.map (vecM ds env)):=by
 unfold evalM;rw[qe0];rfl
def inS (w n:Int):Prop:=(w=0/\(n=0\/n=1))\/vok w n=true
theorem kw0 {b:Bool}:inS 0 (b2i b):=by left;cases b<;>simp[b2i]
theorem inS_zero {n:Int} (h:inS 0 n):n=0\/n=1:=by
 rcases h with h|h
 ·exact h.2
 ·exact absurd (vok_lt h).1 oM
theorem inS_pos {w n:Int} (h:inS w n) (hw:0<w):vok w n=true:=by
 rcases h with h|h
 ·omega
 ·exact h
theorem eval_in {ds:List Dcl} {env:List Int} (he:envOk ds env=true):∀t,sortM ds t≠ -1->inS (sortM ds t) (evalM ds env t):=by
 obtain⟨A,C,D⟩:=env_ok he;refine Tm.ind λt E h=>?_;obtain⟨r,B,hs⟩:=sort_parts h;rw[hs] at h;rw[hs,evalM_eq];simp only[formed,gg,decide_eq_true_eq] at r;obtain⟨x,z⟩:=r;have u:=arity_ops (o:=t.op) oM;have k:∀i,i<t.ks.length->(t.ks.map (sortM ds)).getD i 0=sortM ds (t.ks.getD i default):=by grind
 have l:∀i,i<t.ks.length->(t.ks.map (vecM ds env)).getD i (0,0)=(sortM ds (t.ks.getD i default),evalM ds env (t.ks.getD i default)):=by grind [getD_map,default,vecM_pair]
 have b:∀i,i<t.ks.length->inS (sortM ds (t.ks.getD i default)) (evalM ds env (t.ks.getD i default)):=by grind
 unfold sortK at h⊢;unfold valK;by_cases d:t.op=20
 ·simp only[d,if_true] at h⊢;split
  ·right;assumption
  grind
 simp only[if_neg d] at h⊢;by_cases f:t.op=21
 ·simp only[f,if_true] at h⊢;have y:=findD_lt ds t.s;split
  ·omega
  ·right;grind
 simp only[if_neg f] at h⊢;by_cases j:24<=t.op
 ·simp only[if_pos j] at h⊢;split
  ·grind
  ·rcases(by omega:t.op=24\/t.op=25\/t.op=26\/t.op=27) with e|e|e|e
   ·left;simp[e]
   ·simp only[e];exact kw0
   ·simp only[e];exact kw0
   ·simp only[e];exact kw0
 simp only[if_neg j,if_neg (show¬t.op=24 by omega),if_neg (show¬t.op=25 by omega),if_neg (show¬t.op=26 by omega),if_neg (show¬t.op=27 by omega)] at h⊢;by_cases n:t.op=23
 ·grind [arity]
 simp only[if_neg n] at h⊢;by_cases g:t.op=22
 ·simp only[g,if_true] at h⊢;have q:t.ks.length=1:=(by grind [arity]);rw[k 0 oM] at h⊢;rw[l 0 oM];split
  ·rename_i a;right;exact cut_ok (inS_pos (b 0 oM) oM) a.1 a.2.1 a.2.2
  omega
 simp only[if_neg g] at h⊢;by_cases p:t.op<=2
 ·simp only[if_pos p] at h⊢;have q:t.ks.length=1:=by
   grind [arity]
  rw[k 0 oM] at h⊢;rw[l 0 oM];split
  ·rename_i a;right
   grind [unM_ok,inS_pos]
  omega
 simp only[if_neg p] at h⊢;have q:t.ks.length=2:=by
  grind [arity]
 have v:=k 0 oM;have w:=k 1 oM;rw[v,w] at h⊢;rw[l 0 oM,l 1 oM];have i0:=b 0 oM;have i1:=b 1 oM;by_cases c:t.op=14
 ·simp only[c,if_true] at h⊢;split
  ·rename_i a;right;exact cat_ok (inS_pos i0 a.1) (inS_pos i1 a.2.1) a.2.2
  omega
 simp only[if_neg c] at h⊢;by_cases m:15<=t.op
 ·grind [kw0]
 simp only[if_neg m] at h⊢;split
 ·rename_i a;right
  grind [binM_ok,inS_pos]
 omega
end Go.M
namespace Go.Vc
open Go Go.M
section
section
variable {F F' S:Nat->Prop} {w w':World} {K:oK} {k:Nat} {v:Value} {xs:List (List Value)}
theorem Sl.ldAgg (h:Sl F w k v xs) {t:TypeId} (b:aggB t k=true) {i:Nat} (hi:i<xs.length):zt t (.pointer (some (eaddr v k i))) w K=K (.agg ⟨xs.getD i []⟩) w:=by
 have a:(xs.getD i []).length=k:=h.wide _ (M.getD_mem hi _);exact Xj (by rw[a];exact b) (Sl.cells h hi)
theorem Sl.ldField (h:Sl F w k v xs) {t:TypeId} (a:oneB t=true) {i j:Nat} {x:Value} (hi:i<xs.length) (b:(xs.getD i [])[j]?=some x):zt t (.pointer (some ((eaddr v k i).add j))) w K=K x w:=
 y5 a (Sl.cells h hi j x b)
theorem Sl.small (h:Sl F w k v xs):xs.length<=9223372036854775807:=by
 obtain⟨_,_,_,a,b,_⟩:=h.shape;omega
end
inductive TmR (F:Nat->Prop) (w:World):List Value->Tm->Prop
 |mk {o a b:Int} {s:ByteArray} {ks:List Tm} {kv:Value} {css:List (List Value)}:Sl F w 5 kv css->css.length=ks.length->(∀i,i<ks.length->TmR F w (css.getD i []) (ks.getD i default))->
  TmR F w [nI o,nI a,nI b,.string s,kv] (.mk o a b s ks)
def TmsR (F:Nat->Prop) (w:World) (kv:Value) (ks:List Tm):Prop:= ∃css:List (List Value),Sl F w 5 kv css/\css.length=ks.length/\∀i,i<ks.length->TmR F w (css.getD i []) (ks.getD i default)
def TermR (F:Nat->Prop) (w:World) (v:Value) (t:Tm):Prop:= ∃kv,v= .agg ⟨[nI t.op,nI t.a,nI t.b,.string t.s,kv]⟩/\TmsR F w kv t.ks
def DclsR (F:Nat->Prop) (w:World) (v:Value) (ds:List Dcl):Prop:=Sl F w 2 v (ds.map λd=>[.string d.1,nI d.2])
section
variable {F F' S:Nat->Prop} {w w':World} {K:oK} {v:Value} {cs:List Value} {t:Tm} {ks:List Tm} {ds:List Dcl}
theorem TmR.same (h:TmR F w cs t) (hw:Same S w w') (hs:∀b,F b->b<w.heap.size->¬S b):TmR F w' cs t:=by
 induction h with
 |mk a c e d=>exact .mk (a.same hw hs) c d
theorem TmR.ext (h:TmR F w cs t) (hw:Ext w w'):TmR F w' cs t:=h.same hw λ_ _ _ h=>h
theorem TmR.weaken (h:TmR F w cs t) (d:∀b,F b->b<w.heap.size->F' b):TmR F' w cs t:=by
 induction h with
 |mk a c f e=>exact .mk (a.weaken d) c e
theorem TmR.inv (h:TmR F w cs t):∃kv,cs=[nI t.op,nI t.a,nI t.b,.string t.s,kv]/\TmsR F w kv t.ks:=by
 cases h with
 |mk c d e=>exact⟨_,rfl,_,c,d,e⟩
theorem TmR.of {kv:Value} (h:TmsR F w kv t.ks):TmR F w [nI t.op,nI t.a,nI t.b,.string t.s,kv] t:=by
 obtain⟨css,c,d,e⟩:=h;cases t with
 |mk o a b s ks=>exact .mk c d e
theorem TmR.term (h:TmR F w cs t):TermR F w (.agg ⟨cs⟩) t:=by
 obtain⟨kv,rfl,a⟩:=h.inv;exact⟨kv,rfl,a⟩
theorem TermR.cells (h:TermR F w v t):∃cs,v= .agg ⟨cs⟩/\TmR F w cs t:=by
 obtain⟨kv,rfl,a⟩:=h;exact⟨_,rfl,TmR.of a⟩
theorem TmsR.same (h:TmsR F w v ks) (hw:Same S w w') (hs:∀b,F b->b<w.heap.size->¬S b):TmsR F w' v ks:=by
 obtain⟨css,a,c,d⟩:=h;exact⟨css,a.same hw hs,c,λi hi=>(d i hi).same hw hs⟩
theorem TmsR.ext (h:TmsR F w v ks) (hw:Ext w w'):TmsR F w' v ks:=h.same hw λ_ _ _ h=>h
theorem TmsR.weaken (h:TmsR F w v ks) (a:∀b,F b->b<w.heap.size->F' b):TmsR F' w v ks:=by
 obtain⟨css,c,d,e⟩:=h;exact⟨css,c.weaken a,d,λi hi=>(e i hi).weaken a⟩
theorem TermR.same (h:TermR F w v t) (hw:Same S w w') (hs:∀b,F b->b<w.heap.size->¬S b):TermR F w' v t:=by
 obtain⟨kv,a,c⟩:=h;exact⟨kv,a,c.same hw hs⟩
theorem TermR.ext (h:TermR F w v t) (hw:Ext w w'):TermR F w' v t:=h.same hw λ_ _ _ h=>h
theorem TermR.weaken (h:TermR F w v t) (d:∀b,F b->b<w.heap.size->F' b):TermR F' w v t:=by
 obtain⟨kv,a,c⟩:=h;exact⟨kv,a,c.weaken d⟩
theorem TmsR.small (h:TmsR F w v ks):ks.length<=9223372036854775807:=by
 obtain⟨css,a,b,c⟩:=h;rw[<-b];exact a.small
theorem TmsR.len (h:TmsR F w v ks) {t:TypeId} (c:isSl t=true) (ty:TypeId):vbi .len [t] ty [v] w' K=K (nI ks.length) w':=by
 obtain⟨css,a,b,d⟩:=h;have:=Sl.len (K:=K) (w':=w') a c ty;rwa[b] at this
theorem TmsR.iaddr (h:TmsR F w v ks) {t:TypeId} (e:elB t 5=true) {kd:IntKind} {i:Int} (b:0<=i) (c:i<ks.length):
  ya t v (.int kd i) w' K=K (.pointer (some (eaddr v 5 i.toNat))) w':=by
 obtain⟨css,a,d,f⟩:=h;exact Sl.iaddr a e b (by rw[d];exact c)
theorem TmsR.load (h:TmsR F w v ks) {t:TypeId} (d:aggB t 5=true) {i:Nat} (hi:i<ks.length) (c:∀x,TermR F w x (ks.getD i default)->K x w):zt t (.pointer (some (eaddr v 5 i))) w K:=by
 obtain⟨css,a,e,b⟩:=h;rw[a.ldAgg d oM];exact c _ (b i hi).term
theorem TmsR.nil:TmsR F w (.slice none 0 0) []:=⟨[],⟨⟨none,0,rfl,by simp,by simp,by simp⟩,by simp⟩,rfl,by simp⟩
theorem DclsR.ext (h:DclsR F w v ds) (hw:Ext w w'):DclsR F w' v ds:=Sl.ext h hw
theorem DclsR.weaken (h:DclsR F w v ds) (a:∀b,F b->b<w.heap.size->F' b):DclsR F' w v ds:=Sl.weaken h a
theorem DclsR.len (h:DclsR F w v ds) {t:TypeId} (a:isSl t=true) (ty:TypeId):vbi .len [t] ty [v] w' K=K (nI ds.length) w':=by
 have:=Sl.len (K:=K) (w':=w') h a ty;rwa[y4] at this
theorem DclsR.iaddr (h:DclsR F w v ds) {t:TypeId} (c:elB t 2=true) {kd:IntKind} {i:Int} (a:0<=i) (b:i<ds.length):
  ya t v (.int kd i) w' K=K (.pointer (some (eaddr v 2 i.toNat))) w':=Sl.iaddr h c a (by rw[y4];exact b)
theorem UA {i:Nat} (hi:i<ds.length):(ds.map λd=>[Value.string d.1,nI d.2]).getD i []=[.string (ds.getD i (nada,0)).1,nI (ds.getD i (nada,0)).2]:=M.getD_map _ hi _ _
theorem DclsR.load (h:DclsR F w v ds) {t:TypeId} (a:aggB t 2=true) {i:Nat} (hi:i<ds.length):zt t (.pointer (some (eaddr v 2 i))) w K=K (.agg ⟨[.string (ds.getD i (nada,0)).1,nI (ds.getD i (nada,0)).2]⟩) w:=by
 rw[Sl.ldAgg h a (by rw[y4];exact hi),UA hi]
theorem DclsR.load0 (h:DclsR F w v ds) {t:TypeId} (a:oneB t=true) {i:Nat} (hi:i<ds.length):zt t (.pointer (some ((eaddr v 2 i).add 0))) w K=K (.string (ds.getD i (nada,0)).1) w:=
 Sl.ldField h a (by rw[y4];exact hi) (by rw[UA hi];rfl)
theorem DclsR.load1 (h:DclsR F w v ds) {t:TypeId} (a:oneB t=true) {i:Nat} (hi:i<ds.length):zt t (.pointer (some ((eaddr v 2 i).add 1))) w K=K (nI (ds.getD i (nada,0)).2) w:=
 Sl.ldField h a (by rw[y4];exact hi) (by rw[UA hi];rfl)
theorem DclsR.small (h:DclsR F w v ds):ds.length<=9223372036854775807:=by have:=Sl.small h;simpa using this
theorem Sl.base {k:Nat} {xs:List (List Value)} (h:Sl F w k v xs) (f:xs≠[]):∀a l c,v= .slice (some a) l c->∃b o,a=⟨b,o,none⟩:=by
 intro a l c e;obtain⟨i,c',rfl,_,_,g⟩:=h.shape;obtain⟨b,o,rfl,_⟩:=g f
 injection e with d j m
 injection d with d
 exact⟨b,o,d.symm⟩
theorem Sl.taken {k:Nat} {xs:List (List Value)} (h:Sl F w k v xs) {n:Nat} (t:n<=xs.length):Sl F w k (cutV v n) (xs.take n):=by
 obtain⟨a,c,rfl,s,m,q⟩:=h.shape;have l:(xs.take n).length=n:=by rw[gh];omega
 refine⟨⟨a,c,by rw[l];rfl,oM,m,λj=>?_⟩,λx r=>h.wide x (gX r)⟩;have f:xs≠[]:=λe=>j (by rw[e,List.take_nil]);obtain⟨b,o,e,p,g,d⟩:=q f;refine⟨b,o,e,p,g,λi hi=>?_⟩;rw[l] at hi;rw[M.take_getD hi];exact d i oM
theorem DclsR.cut (h:DclsR F w v ds) (a:ds≠[]) {t:TypeId} (c:elB t 2=true) {kd:IntKind} {n:Nat} (b:n<=ds.length):xu t v none (some (.int kd n)) none w' K=K (cutV v n) w':=
 Sl.cut h (Sl.base h (by simpa using a)) c (by rw[y4];exact b)
theorem DclsR.taken (h:DclsR F w v ds) {n:Nat} (a:n<=ds.length):DclsR F w (cutV v n) (ds.take n):=by
 unfold DclsR;rw[Gz];exact Sl.taken h (by rw[y4];exact a)
theorem Blk.sl1k {b k:Nat} {cs:List Value} {e:TypeId} (h:Blk w b cs e) (d:cs.length=k):Sl (· =b) w k (.slice (some ⟨b,0,none⟩) 1 1) [cs]:=by
 refine⟨⟨_,1,rfl,gu _,dC,λ_=>⟨b,0,rfl,rfl,h.lt,λi hi j v c=>?_⟩⟩,by simp[d]⟩;have a:i=0:=by simpa using hi
 subst a;rw[yx];simp only[PF,gQ,GP];exact h.cell c
theorem Own.app1k {bs ty b k:Nat} {t e:TypeId} {xs:List (List Value)} {y:List Value} (h:Own 0 k t w v xs) (g:elZ t k bs=true) (j:0<k) (i:Blk w b y e) (l:y.length=k) (a:∀c,c∈y->c.oneCell'=true)
  (d:xs.length<9223372036854775807) (hlen:(xs.length+1)*bs<=140737488355328)
  (f:∀v' w',Own 0 k t w' v' (xs++[y])->Same (λb=>v.ownBlock=some b) w w'->(∀b,v'.ownBlock=some b->v.ownBlock=some b\/w.heap.size<=b)->K v' w'):vbi .append [t,t] ty [v,.slice (some ⟨b,0,none⟩) 1 1] w K:=
 vappend (F:=(· =b)) g j h (i.sl1k l) (by simpa using a) oM (by rw[gS];omega) (by simpa using hlen) f
theorem xt {t e k:Nat} {z x:Value} {y:List Value} (hu:P.underlying t=some (.slice e)) (l:qn e k=true) (hzero:yl e z) (i:x.cells=⟨y⟩) (j:y.length=k) (h:k<=16777216)
  (g:∀b w',b=w.heap.size->Ext w w'->w'.heap.size=w.heap.size+1->Blk w' b y e->K (.slice (some ⟨b,0,none⟩) 1 1) w'):vbuildS t 1 [(0,x)] w K:=by
 refine vbuildS_row (xs:=[x]) (us:=[y]) hu l hzero (by simp[i]) (by simp[j]) (by simpa using h) λb w' a c d f=>g b w' a c d (by simpa using f)
theorem Blk.ownk {b k n:Nat} {t:TypeId} {css:List (List Value)} (h:Blk w b css.flatten (ZU t)) (hw:∀x,x∈css->x.length=k) (c:n=css.length) (hm:n<=9223372036854775807):Own 0 k t w (.slice (some ⟨b,0,none⟩) n n) css:=by
 subst c;have a:=flatten_len hw;refine⟨⟨by rw[a],.inr ⟨b,css.length,⟨css.flatten⟩,by simp,gP _,h,gu _,by simpa[maxLen] using hm,by simpa using a,?_⟩⟩,hw⟩;show List.take (css.length*k) css.flatten=css.flatten;rw[<-a,gw]
theorem flatten_set {k:Nat}:∀{xs:List (List Value)} (_:∀x,x∈xs->x.length=k) {i j:Nat} (u:Value),i<xs.length->j<k->xs.flatten.set (i*k+j) u=(xs.set i ((xs.getD i []).set j u)).flatten
 |[],_,i,j,u,hi,_=>by simp at hi
 |x::r,h,i,j,u,hi,a=>by
  have c:=h x gi;cases i with
  |zero=>
   rw[PF,gQ];simp only[GC,G5,pK];rw[List.set_append_left _ _ oM]
  |succ i=>
   simp only[GC,Pt,pg];rw[pz _ _ (by rw[GS];omega)];congr 1;have e:(i+1)*k+j-x.length=i*k+j:=by rw[GS];omega
   rw[e,flatten_set (λy b=>h y (gk _ b)) u (by simpa using hi) a]
theorem Own.stCell {k:Nat} {t e:TypeId} {xs:List (List Value)} {x:Value} (h:Own 0 k t w v xs) (E:x.cells= #[x]) (o:x.oneCell'=true) (G:qn e 1=true) {i j:Nat} (hi:i<xs.length) (C:j<k)
  (p:∀w',Own 0 k t w' v (xs.set i ((xs.getD i []).set j x))->Same (λb=>v.ownBlock=some b) w w'->w'.heap.size=w.heap.size->K undef w'):zU e (.pointer (some ((eaddr v k i).add j))) x w K:=by
 rcases h.row.2 with⟨rfl,I⟩|⟨g,cap,cur,rfl,s,H,D,z,A,n⟩
 ·omega
 ·have a:=h.row;have d:i*k+j<xs.length*k:=by
   have:i*k+k<=xs.length*k:=by rw[<-Nat.succ_mul];exact pF _ hi
   omega
  have u:=World.ownsRow.cellAt a (i*k+j) d;have B:=World.ownsRow.frozenAt a (i*k+j);obtain⟨l,m⟩:=World.ownsRow.stored a (i*k+j) x;have f:(xs.getD i []).length=k:=h.wide _ (M.getD_mem hi _);have c:w.cell? ⟨g,i*k+j,none⟩=some (xs.flatten.getD (i*k+j) undef):=by
   rw[u];have:i*k+j<xs.flatten.length:=by rw[flatten_len h.wide];exact d
   rw[y3,V0 this];rfl
  have r:(⟨g,i*k+j,none⟩:Addr).add 0=⟨g,i*k+j,none⟩:=rfl;have he:(eaddr (.slice (some ⟨g,0,none⟩) xs.length cap) k i).add j=⟨g,i*k+j,none⟩:=by
   simp only[eaddr];rw[yx];simp
  rw[he];refine⟨(),w.setCell ⟨g,i*k+j,none⟩ x,?_,p _ ?_ (Same.of_grown m) (by simp)⟩
  ·simp only[Instr.storeAt,Instr.sureAddr,Sem.run_bind,Sem.run_pure,Result.andThen_ok,storeVar,run_sizeOf G,E];cases x<;>first|(cases o;done)|simp[storeCells,store,Sem.run,r,c,B]
  ·refine⟨?_,λy F=>?_⟩
   ·rw[<-flatten_set h.wide x hi C];simpa using l
   ·obtain⟨q,J,rfl⟩:=gm F;rw[G3];split
    ·rw[gE];exact f
    ·exact h.wide _ (G2 _)
def PairsR (F:Nat->Prop) (w:World) (v:Value) (xs:List (Int×Int)):Prop:=Sl F w 2 v (xs.map λx=>[nI x.1,nI x.2])
def OwnP (t:TypeId) (w:World) (v:Value) (xs:List (Int×Int)):Prop:=Own 0 2 t w v (xs.map λx=>[nI x.1,nI x.2])
variable {xs:List (Int×Int)}
theorem PairsR.ext (h:PairsR F w v xs) (hw:Ext w w'):PairsR F w' v xs:=Sl.ext h hw
theorem PairsR.iaddr (h:PairsR F w v xs) {t:TypeId} (c:elB t 2=true) {kd:IntKind} {i:Int} (a:0<=i) (b:i<xs.length):
  ya t v (.int kd i) w' K=K (.pointer (some (eaddr v 2 i.toNat))) w':=Sl.iaddr h c a (by rw[y4];exact b)
theorem PairsR.load (h:PairsR F w v xs) {t:TypeId} (a:aggB t 2=true) {i:Nat} (hi:i<xs.length):zt t (.pointer (some (eaddr v 2 i))) w K=K (.agg ⟨[nI (xs.getD i (0,0)).1,nI (xs.getD i (0,0)).2]⟩) w:=by
 rw[Sl.ldAgg h a (by rw[y4];exact hi),M.getD_map _ hi _ (0,0)]
theorem PairsR.load1 (h:PairsR F w v xs) {t:TypeId} (a:oneB t=true) {i:Nat} (hi:i<xs.length):zt t (.pointer (some ((eaddr v 2 i).add 1))) w K=K (nI (xs.getD i (0,0)).2) w:=
 Sl.ldField h a (by rw[y4];exact hi) (by rw[M.getD_map _ hi _ (0,0)];rfl)
theorem OwnP.pairs {t:TypeId} (h:OwnP t w v xs):PairsR (λb=>v.ownBlock=some b) w v xs:=Own.sl h
theorem OwnP.ext {t:TypeId} (h:OwnP t w v xs) (hw:Ext w w'):OwnP t w' v xs:=Own.ext h hw
theorem OwnP.nil (t:TypeId):OwnP t w (.slice none 0 0) []:=Own.nil 0 2 t w
end
end
end Go.Vc
namespace Go.Proofs.YtolbhkcajhlllaaGreatDoor
open Go Go.Vc Go.Proofs
theorem mixed:P.follows .mixedOrders=true:=rK
abbrev kP:Nat:=4
abbrev KT:Nat:=6
abbrev KR:Nat:=7
abbrev zz0:Nat:=8
abbrev YG:Nat:=9
abbrev YF:Nat:=10
abbrev zF0:Nat:=11
abbrev WM:Nat:=12
abbrev KW:Nat:=13
abbrev KU:Nat:=14
abbrev J0:Nat:=15
abbrev QZ:Nat:=16
abbrev JS:Nat:=17
abbrev JT:Nat:=18
abbrev WJ:Nat:=19
abbrev Qe:Nat:=20
abbrev Xt:Nat:=21
abbrev Qn:Nat:=22
abbrev WL:Nat:=23
abbrev JR:Nat:=24
abbrev K7:Nat:=27
abbrev WK:Nat:=28
abbrev z40:Nat:=29
abbrev KD:Nat:=30
abbrev WI:Nat:=31
abbrev WQ:Nat:=32
abbrev WN:Nat:=33
abbrev Zz:Nat:=34
abbrev Wc:Nat:=35
abbrev yw0:Nat:=36
abbrev K4:Nat:=39
abbrev JW:Nat:=40
abbrev QT:Nat:=41
abbrev XA:Nat:=42
abbrev WG:Nat:=43
abbrev JM:Nat:=44
abbrev z30:Nat:=45
abbrev KE:Nat:=46
abbrev JJ:Nat:=47
abbrev WP:Nat:=48
abbrev qf:Nat:=49
abbrev qt:Nat:=50
abbrev K6:Nat:=58
abbrev WX:Nat:=59
abbrev jG:Nat:=60
abbrev V7:Nat:=61
abbrev V6:Nat:=62
abbrev V5:Nat:=63
abbrev V4:Nat:=64
abbrev Qk:Nat:=65
abbrev Wx:Nat:=66
abbrev Wy:Nat:=67
abbrev JO:Nat:=68
abbrev Ww:Nat:=69
abbrev Wf:Nat:=70
abbrev yp0:Nat:=71
abbrev zh0:Nat:=72
abbrev Wu:Nat:=73
abbrev zk0:Nat:=74
abbrev Wm:Nat:=75
abbrev JP:Nat:=76
abbrev jR:Nat:=77
abbrev jl:Nat:=78
abbrev qF:Nat:=79
abbrev qY:Nat:=80
abbrev zt0:Nat:=83
abbrev zB0:Nat:=87
abbrev KC:Nat:=88
abbrev xP:Nat:=89
abbrev qz0:Nat:=90
abbrev QS:Nat:=91
abbrev YV:Nat:=92
abbrev zu0:Nat:=93
abbrev KP:Nat:=94
abbrev zy0:Nat:=95
abbrev zr0:Nat:=96
abbrev WA:Nat:=97
abbrev We:Nat:=98
abbrev KF:Nat:=99
abbrev yq0:Nat:=100
abbrev zc0:Nat:=101
abbrev zd0:Nat:=102
abbrev Wl:Nat:=103
abbrev zo0:Nat:=104
abbrev ys0:Nat:=105
abbrev WB:Nat:=106
abbrev JY:Nat:=107
abbrev qA0:Nat:=108
abbrev xo0:Nat:=109
abbrev K8:Nat:=110
abbrev Xx:Nat:=111
abbrev WT:Nat:=112
abbrev QR:Nat:=114
abbrev qd:Nat:=122
abbrev jU:Nat:=123
abbrev qS:Nat:=124
abbrev jt:Nat:=125
abbrev ju:Nat:=126
abbrev jT:Nat:=127
abbrev jg:Nat:=128
abbrev jv:Nat:=129
abbrev KQ:Nat:=130
abbrev z00:Nat:=131
abbrev Wd:Nat:=132
abbrev Wg:Nat:=133
abbrev ze0:Nat:=134
abbrev yr0:Nat:=135
abbrev za0:Nat:=136
abbrev zf0:Nat:=137
abbrev Wk:Nat:=138
abbrev Wh:Nat:=139
abbrev Wi:Nat:=140
abbrev z90:Nat:=141
abbrev zb0:Nat:=142
abbrev KG:Nat:=143
abbrev KH:Nat:=144
abbrev zp0:Nat:=145
abbrev Wz:Nat:=146
abbrev Wv:Nat:=147
abbrev KM:Nat:=148
abbrev zn0:Nat:=149
abbrev Wr:Nat:=150
abbrev KJ:Nat:=151
abbrev yt0:Nat:=152
abbrev xO:Nat:=153
abbrev xp0:Nat:=154
abbrev Qj:Nat:=155
abbrev X2:Nat:=156
abbrev km:Nat:=157
abbrev KZ:Nat:=159
abbrev JV:Nat:=160
abbrev Xy:Nat:=161
abbrev WR:Nat:=162
abbrev Z4:Nat:=163
abbrev zA0:Nat:=168
abbrev J8:Nat:=169
abbrev JX:Nat:=170
abbrev Xz:Nat:=171
abbrev kH:Nat:=172
abbrev qy0:Nat:=173
abbrev WS:Nat:=174
abbrev K5:Nat:=175
abbrev zC0:Nat:=176
abbrev zv0:Nat:=177
abbrev zi0:Nat:=178
abbrev z80:Nat:=179
abbrev z60:Nat:=180
abbrev Wj:Nat:=181
abbrev QY:Nat:=182
abbrev yv0:Nat:=183
abbrev KN:Nat:=184
abbrev yu0:Nat:=185
abbrev JN:Nat:=186
abbrev KO:Nat:=187
abbrev KL:Nat:=188
abbrev Wo:Nat:=189
abbrev JK:Nat:=190
abbrev zj0:Nat:=191
abbrev KI:Nat:=192
abbrev Ws:Nat:=193
abbrev KK:Nat:=194
abbrev Zy:Nat:=195
abbrev KX:Nat:=196
abbrev Z1:Nat:=197
abbrev X3:Nat:=198
abbrev jm:Nat:=199
abbrev k5:Nat:=200
abbrev zE0:Nat:=201
abbrev Qh:Nat:=202
abbrev ZC:Nat:=203
abbrev Yf:Nat:=204
abbrev Yg:Nat:=205
abbrev ZB:Nat:=206
abbrev J6:Nat:=210
abbrev qR:Nat:=211
abbrev KA:Nat:=212
abbrev QQ:Nat:=213
abbrev QP:Nat:=214
abbrev zg0:Nat:=215
abbrev zq0:Nat:=216
abbrev WD:Nat:=217
abbrev zx0:Nat:=218
abbrev WE:Nat:=219
abbrev WF:Nat:=220
abbrev Wt:Nat:=221
abbrev Wn:Nat:=222
abbrev Wp:Nat:=223
abbrev Wq:Nat:=224
abbrev zm0:Nat:=225
abbrev qu:Nat:=226
abbrev J4:Nat:=227
abbrev Xw:Nat:=228
abbrev YH:Nat:=229
abbrev j6:Nat:=230
abbrev YD:Nat:=231
abbrev JU:Nat:=232
abbrev ZG:Nat:=233
abbrev qe:Nat:=234
abbrev ZF:Nat:=235
abbrev Ql:Nat:=236
abbrev kq:Nat:=237
abbrev Zj:Nat:=238
abbrev y40:Nat:=239
abbrev Qi:Nat:=240
abbrev je:Nat:=241
abbrev Z3:Nat:=242
abbrev Xv:Nat:=243
abbrev YU:Nat:=244
abbrev Ye:Nat:=245
abbrev Qg:Nat:=246
abbrev WH:Nat:=251
abbrev zs0:Nat:=252
abbrev JL:Nat:=253
abbrev zw0:Nat:=254
abbrev zl0:Nat:=255
abbrev kI:Nat:=256
abbrev WO:Nat:=257
abbrev xW:Nat:=261
abbrev jY:Nat:=262
abbrev yx0:Nat:=263
abbrev Z5:Nat:=264
abbrev qG:Nat:=265
abbrev V3:Nat:=266
abbrev ko:Nat:=267
abbrev xX:Nat:=268
abbrev XE:Nat:=269
abbrev Qm:Nat:=270
abbrev XD:Nat:=271
abbrev kp:Nat:=272
abbrev ZE:Nat:=273
abbrev Yi:Nat:=274
abbrev YX:Nat:=275
abbrev X1:Nat:=276
abbrev Yh:Nat:=277
abbrev YT:Nat:=278
abbrev jO:Nat:=279
abbrev Xu:Nat:=280
abbrev ZA:Nat:=281
abbrev kG:Nat:=282
abbrev ZD:Nat:=283
abbrev Qo:Nat:=284
abbrev ke:Nat:=285
abbrev yK:Nat:=286
abbrev WC:Nat:=288
abbrev YE:Nat:=289
abbrev Jl:Nat:=290
abbrev JQ:Nat:=293
abbrev J5:Nat:=294
abbrev ql:Nat:=295
abbrev YZ:Nat:=296
abbrev XC:Nat:=297
abbrev XB:Nat:=298
abbrev YY:Nat:=299
abbrev K9:Nat:=300
abbrev VQ:Nat:=304
abbrev Jk:Nat:=305
abbrev Qf:Nat:=306
abbrev J3:Nat:=307
abbrev xn0:Nat:=311
abbrev YW:Nat:=312
abbrev Yd:Nat:=313
abbrev jh:Nat:=314
abbrev yn:Nat:=353
abbrev yw:Nat:=354
abbrev kj:Nat:=355
abbrev jQ:Nat:=356
abbrev Z2:Nat:=357
abbrev zD0:Nat:=358
abbrev V8:Nat:=359
abbrev KY:Nat:=360
abbrev jX:Nat:=361
abbrev jy:Nat:=362
abbrev WW:Nat:=363
abbrev JZ:Nat:=364
abbrev xn:Nat:=365
abbrev xm:Nat:=366
abbrev xl:Nat:=367
abbrev xk:Nat:=368
abbrev xj:Nat:=369
abbrev xi:Nat:=370
abbrev xh:Nat:=371
abbrev K2:Nat:=372
abbrev xg:Nat:=373
abbrev xf:Nat:=374
abbrev xd:Nat:=375
abbrev xc:Nat:=376
abbrev Yj:Nat:=377
abbrev jW:Nat:=378
abbrev jx:Nat:=379
abbrev WV:Nat:=380
abbrev J7:Nat:=381
abbrev jP:Nat:=382
abbrev jq:Nat:=383
abbrev jr:Nat:=384
abbrev jf:Nat:=385
abbrev UL:Nat:=386
abbrev jV:Nat:=387
abbrev jw:Nat:=388
abbrev WU:Nat:=389
abbrev kk:Nat:=390
abbrev jS:Nat:=391
abbrev jz:Nat:=392
abbrev ji:Nat:=393
abbrev UM:Nat:=394
abbrev jZ:Nat:=395
abbrev jA:Nat:=396
abbrev yO:Nat:=0
abbrev jj:Nat:=1
abbrev qr:Nat:=2
abbrev xR:Nat:=3
abbrev j8:Nat:=6
abbrev T_T_:Nat:=0
abbrev T_int64:Nat:=2
abbrev zV:Nat:=3
abbrev Y0:Nat:=4
abbrev Zd:Nat:=5
abbrev yy:Nat:=9
abbrev qj:Nat:=22
abbrev xa:Nat:=23
abbrev zh:Nat:=26
abbrev xb:Nat:=29
abbrev zk:Nat:=31
abbrev yi:Nat:=41
abbrev za:Nat:=45
abbrev xC:Nat:=50
abbrev xM:Nat:=57
abbrev xr:Nat:=59
abbrev zR:Nat:=70
abbrev ye:Nat:=73
abbrev zI:Nat:=75
abbrev zq:Nat:=77
abbrev y6:Nat:=84
abbrev xG:Nat:=85
abbrev x6:Nat:=87
abbrev xx:Nat:=89
abbrev qB:Nat:=104
abbrev zO:Nat:=106
abbrev zK:Nat:=107
abbrev zF:Nat:=108
abbrev zM:Nat:=109
abbrev zE:Nat:=110
abbrev zJ:Nat:=111
abbrev zS:Nat:=112
abbrev xN:Nat:=113
abbrev Ze:Nat:=114
abbrev zy:Nat:=116
abbrev zg:Nat:=118
abbrev yW:Nat:=119
abbrev zG:Nat:=120
abbrev yF0:Nat:=122
abbrev zz:Nat:=126
abbrev zw:Nat:=128
abbrev zA:Nat:=130
abbrev zu:Nat:=135
abbrev qw:Nat:=138
abbrev zW:Nat:=158
abbrev yf:Nat:=160
abbrev zm:Nat:=172
abbrev yQ:Nat:=178
abbrev VH:Nat:=180
abbrev yA:Nat:=182
abbrev zf:Nat:=220
abbrev yJ:Nat:=222
abbrev yR:Nat:=223
abbrev yo:Nat:=225
abbrev Jh:Nat:=226
abbrev yM:Nat:=228
abbrev yz:Nat:=229
abbrev Jp:Nat:=232
abbrev QI:Nat:=233
abbrev yD:Nat:=237
abbrev jS0:Nat:=238
abbrev zH:Nat:=266
abbrev yb:Nat:=268
abbrev yd:Nat:=270
abbrev kA:Nat:=277
abbrev UI:Nat:=304
abbrev y30:Nat:=312
abbrev QJ:Nat:=341
abbrev Zl0:Nat:=357
abbrev yV:Nat:=392
abbrev xe:Nat:=409
theorem xH:yl zV (nI 0):=by unfold yl;kernel_rfl
@[push_cast] theorem Wa:oneB zV=true:=rK
@[push_cast] theorem yT:qn zV 1=true:=rK
theorem QV:xR0 zV .i64:=by unfold xR0;kernel_rfl
theorem US:(P.underlying zV).isSome=true:=rK
theorem xZ0:yl Y0 (.bool false):=by unfold yl;kernel_rfl
@[push_cast] theorem Yo0:oneB Y0=true:=rK
@[push_cast] theorem q00:qn Y0 1=true:=rK
theorem jT0:yl Zd (.int .u8 0):=by unfold yl;kernel_rfl
@[push_cast] theorem Zn0:qn Zd 1=true:=rK
theorem kx0:xR0 Zd .u8:=by unfold xR0;kernel_rfl
theorem Xg:yl yy (.string ⟨#[]⟩):=by unfold yl;kernel_rfl
@[push_cast] theorem kk0:oneB yy=true:=rK
@[push_cast] theorem Y1:qn yy 1=true:=rK
theorem kL:P.underlying yy=some .string:=rK
theorem QN:P.underlying qj=some (.slice xM):=rK
@[push_cast] theorem Z70:isSl qj=true:=rK
@[push_cast] theorem Zi0:elB qj 2=true:=rK
@[push_cast] theorem Za0:oneB xa=true:=rK
theorem Zt:P.underlying xa=some (.slice yi):=rK
@[push_cast] theorem Z60:isSl xa=true:=rK
@[push_cast] theorem Zh0:elB xa 5=true:=rK
theorem VY:yl zh (.slice none 0 0):=by unfold yl;kernel_rfl
@[push_cast] theorem Yp0:oneB zh=true:=rK
@[push_cast] theorem ja:qn zh 1=true:=rK
@[push_cast] theorem xE:elZ zh 1 8=true:=rK
theorem xw:P.underlying zh=some (.slice zV):=rK
theorem qL:ZU zh=zV:=rK
@[push_cast] theorem Yn0:isSl zh=true:=rK
@[push_cast] theorem XQ:elB zh 1=true:=rK
@[push_cast] theorem Zc0:oneB xb=true:=rK
@[push_cast] theorem zK0:elZ xb 2 24=true:=rK
theorem Uw:ZU xb=xr:=rK
@[push_cast] theorem Z80:isSl xb=true:=rK
@[push_cast] theorem ZW:elB xb 2=true:=rK
@[push_cast] theorem QO:oneB zk=true:=rK
@[push_cast] theorem xI:qn zk 1=true:=rK
@[push_cast] theorem qz:elZ zk 5 64=true:=rK
theorem yp:P.underlying zk=some (.slice za):=rK
theorem qm:ZU zk=za:=rK
@[push_cast] theorem UV:isSl zk=true:=rK
@[push_cast] theorem Zj0:elB zk 5=true:=rK
@[push_cast] theorem Za:aggB yi 5=true:=rK
theorem zn:yl za (.agg #[(nI 0),(nI 0),(nI 0),(.string ⟨#[]⟩),(.slice none 0 0)]):=by unfold yl;kernel_rfl
theorem j0:strF za=some ([(0,1),(1,1),(2,1),(3,1),(4,1)],[(nI 0),(nI 0),(nI 0),(.string ⟨#[]⟩),(.slice none 0 0)]):=rK
@[push_cast] theorem zc:aggB za 5=true:=rK
@[push_cast] theorem yB:qn za 5=true:=rK
@[push_cast] theorem kt0:elZ xC 1 1=true:=rK
theorem Xn:P.underlying xC=some (.slice Zd):=rK
theorem j90:ZU xC=Zd:=rK
@[push_cast] theorem ZJ0:aggB xM 2=true:=rK
theorem xZ:yl xr (.agg #[(.string ⟨#[]⟩),(nI 0)]):=by unfold yl;kernel_rfl
@[push_cast] theorem Xc:aggB xr 2=true:=rK
@[push_cast] theorem UY:oneB zR=true:=rK
theorem Z7:P.underlying zR=some (.map 3 122):=rK
theorem UH:strF ye=some ([(0,1),(1,1)],[(.slice none 0 0),(.map none)]):=rK
@[push_cast] theorem xJ:aggB ye 2=true:=rK
theorem jU0:yl zI (.slice none 0 0):=by unfold yl;kernel_rfl
@[push_cast] theorem o_LLint:oneB zI=true:=rK
@[push_cast] theorem Q2:qn zI 1=true:=rK
@[push_cast] theorem ZR:elZ zI 1 24=true:=rK
theorem Q6:P.underlying zI=some (.slice zh):=rK
theorem Uy:ZU zI=zh:=rK
@[push_cast] theorem Zz0:isSl zI=true:=rK
@[push_cast] theorem ZN0:elB zI 1=true:=rK
theorem xp:yl zq (.agg #[(nI 0),(.slice none 0 0)]):=by unfold yl;kernel_rfl
theorem QG:strF zq=some ([(0,1),(1,1)],[(nI 0),(.slice none 0 0)]):=rK
@[push_cast] theorem zD:aggB zq 2=true:=rK
theorem xI0:strF y6=some ([(0,1),(1,1),(2,1),(3,2),(5,1)],[(.slice none 0 0),(.slice none 0 0),(.slice none 0 0),(nI 0),(.slice none 0 0),(.slice none 0 0)]):=rK
theorem kJ:P.underlying xG=some (.slice x6):=rK
@[push_cast] theorem VL:isSl xG=true:=rK
@[push_cast] theorem kR:elB xG 1=true:=rK
theorem kc:yl x6 .nilFunc:=by unfold yl;kernel_rfl
@[push_cast] theorem kF:oneB x6=true:=rK
@[push_cast] theorem kC:qn x6 1=true:=rK
@[push_cast] theorem xq:oneB xx=true:=rK
@[push_cast] theorem Zo0:qn xx 1=true:=rK
theorem y20:strF qB=some ([(0,1),(1,1)],[(.string ⟨#[]⟩),(nI 0)]):=rK
theorem qo:yl zO (.agg #[(.string ⟨#[]⟩),(nI 0)]):=by unfold yl;kernel_rfl
theorem UE:strF zO=some ([(0,2)],[(.string ⟨#[]⟩),(nI 0)]):=rK
@[push_cast] theorem U7:aggB zO 2=true:=rK
theorem jI:yl zK (.agg #[(.string ⟨#[]⟩),(nI 0)]):=by unfold yl;kernel_rfl
theorem VC:strF zK=some ([(0,2)],[(.string ⟨#[]⟩),(nI 0)]):=rK
theorem Zn:yl zF (.agg #[(.string ⟨#[]⟩),(nI 0)]):=by unfold yl;kernel_rfl
theorem VA:strF zF=some ([(0,2)],[(.string ⟨#[]⟩),(nI 0)]):=rK
@[push_cast] theorem Vd:aggB zF 2=true:=rK
theorem yN:yl zM (.agg #[(.string ⟨#[]⟩),(nI 0)]):=by unfold yl;kernel_rfl
theorem Vy:strF zM=some ([(0,2)],[(.string ⟨#[]⟩),(nI 0)]):=rK
@[push_cast] theorem Va:aggB zM 2=true:=rK
theorem yS:yl zE (.agg #[(.string ⟨#[]⟩),(nI 0)]):=by unfold yl;kernel_rfl
theorem Kw:strF zE=some ([(0,2)],[(.string ⟨#[]⟩),(nI 0)]):=rK
@[push_cast] theorem Ki:aggB zE 2=true:=rK
theorem xo:yl zJ (.agg #[(.string ⟨#[]⟩),(nI 0)]):=by unfold yl;kernel_rfl
theorem Vz:strF zJ=some ([(0,2)],[(.string ⟨#[]⟩),(nI 0)]):=rK
@[push_cast] theorem Vb:aggB zJ 2=true:=rK
theorem xQ:yl zS (.agg #[(.string ⟨#[]⟩),(nI 0)]):=by unfold yl;kernel_rfl
theorem UG:strF zS=some ([(0,2)],[(.string ⟨#[]⟩),(nI 0)]):=rK
@[push_cast] theorem U8:aggB zS 2=true:=rK
@[push_cast] theorem yy0:elZ xN 2 16=true:=rK
theorem yb0:P.underlying xN=some (.slice zg):=rK
@[push_cast] theorem ZM0:elB xN 2=true:=rK
@[push_cast] theorem Wb:oneB Ze=true:=rK
theorem QW:yl zy (.agg #[(.string ⟨#[]⟩),(nI 0),.nilFunc]):=by unfold yl;kernel_rfl
theorem Kx:strF zy=some ([(0,2),(2,1)],[(.string ⟨#[]⟩),(nI 0),.nilFunc]):=rK
@[push_cast] theorem ZS:aggB zy 3=true:=rK
theorem zX:yl zg (.agg #[(nI 0),(nI 0)]):=by unfold yl;kernel_rfl
theorem QE:strF zg=some ([(0,1),(1,1)],[(nI 0),(nI 0)]):=rK
@[push_cast] theorem zr:aggB zg 2=true:=rK
@[push_cast] theorem x90:qn zg 2=true:=rK
@[push_cast] theorem zJ0:elZ yW 1 16=true:=rK
theorem Xo:P.underlying yW=some (.slice yy):=rK
theorem xD0:ZU yW=yy:=rK
@[push_cast] theorem Ym0:isSl yW=true:=rK
theorem jJ:yl zG (.agg #[(.string ⟨#[]⟩),(nI 0)]):=by unfold yl;kernel_rfl
theorem VG:strF zG=some ([(0,2)],[(.string ⟨#[]⟩),(nI 0)]):=rK
@[push_cast] theorem Zb0:oneB zz=true:=rK
@[push_cast] theorem QM:qn zz 1=true:=rK
@[push_cast] theorem qA:elZ zz 3 24=true:=rK
theorem jd:P.underlying zz=some (.slice zm):=rK
theorem XO:ZU zz=zm:=rK
@[push_cast] theorem qa:isSl zz=true:=rK
@[push_cast] theorem ZV:elB zz 3=true:=rK
theorem qU:yl zw (.agg #[(nI 0),(.slice none 0 0)]):=by unfold yl;kernel_rfl
theorem QF:strF zw=some ([(0,1),(1,1)],[(nI 0),(.slice none 0 0)]):=rK
@[push_cast] theorem zY:aggB zw 2=true:=rK
theorem xy:yl zA (.agg #[(nI 0),(.slice none 0 0),(.bool false)]):=by unfold yl;kernel_rfl
theorem yE0:strF zA=some ([(0,2),(2,1)],[(nI 0),(.slice none 0 0),(.bool false)]):=rK
@[push_cast] theorem qZ:aggB zA 3=true:=rK
theorem qT:yl zu (.agg #[(.slice none 0 0),(.slice none 0 0),(.slice none 0 0),(nI 0)]):=by unfold yl;kernel_rfl
theorem xJ0:strF zu=some ([(0,1),(1,1),(2,1),(3,1)],[(.slice none 0 0),(.slice none 0 0),(.slice none 0 0),(nI 0)]):=rK
@[push_cast] theorem zP:aggB zu 4=true:=rK
@[push_cast] theorem qM0:elZ qw 1 1=true:=rK
theorem qh0:P.underlying qw=some (.slice Y0):=rK
theorem Ux:ZU qw=Y0:=rK
@[push_cast] theorem s_Lbool:isSl qw=true:=rK
@[push_cast] theorem yC0:elB qw 1=true:=rK
theorem qQ:P.underlying zW=some (.slice yf):=rK
theorem qM:ZU zW=yf:=rK
@[push_cast] theorem Q0:isSl zW=true:=rK
@[push_cast] theorem Q1:elB zW 1=true:=rK
@[push_cast] theorem Yc:oneB yf=true:=rK
@[push_cast] theorem Ya:qn yf 1=true:=rK
theorem kf:yl zm (.agg #[(.bool false),(nI 0),(nI 0)]):=by unfold yl;kernel_rfl
theorem Zc:strF zm=some ([(0,1),(1,1),(2,1)],[(.bool false),(nI 0),(nI 0)]):=rK
@[push_cast] theorem xK:aggB zm 3=true:=rK
@[push_cast] theorem YL:qn zm 3=true:=rK
@[push_cast] theorem qu0:oneB yQ=true:=rK
@[push_cast] theorem jv0:oneB VH=true:=rK
theorem UF:strF yA=some ([(0,2),(2,1),(3,1),(4,1),(5,1)],[(nI 0),(.slice none 0 0),(.pointer none),(.slice none 0 0),(.slice none 0 0),(nI 0)]):=rK
theorem qD:yl zf (.slice none 0 0):=by unfold yl;kernel_rfl
@[push_cast] theorem KB:oneB zf=true:=rK
@[push_cast] theorem j3:qn zf 1=true:=rK
@[push_cast] theorem yG:elZ zf 1 8=true:=rK
theorem yF:P.underlying zf=some (.slice yz):=rK
theorem yP:ZU zf=yz:=rK
@[push_cast] theorem yX:isSl zf=true:=rK
@[push_cast] theorem yL:elB zf 1=true:=rK
@[push_cast] theorem xO0:oneB yJ=true:=rK
@[push_cast] theorem JF:oneB yR=true:=rK
theorem jn:P.underlying yR=some (.map 9 220):=rK
theorem VF:strF yo=some ([(0,1),(1,1),(2,1),(3,1)],[(.pointer none),(.slice none 0 0),(.map none),(.map none)]):=rK
@[push_cast] theorem xN0:oneB Jh=true:=rK
theorem VE:strF yM=some ([(0,1),(1,1)],[(.pointer none),.nilIface]):=rK
theorem yj:yl yz (nI 0):=by unfold yl;kernel_rfl
@[push_cast] theorem kl0:oneB yz=true:=rK
@[push_cast] theorem y7:qn yz 1=true:=rK
theorem yz0:xR0 QI .u64:=by unfold xR0;kernel_rfl
theorem Jx:(P.underlying QI).isSome=true:=rK
theorem y10:strF yD=some ([(0,1),(1,1),(2,1)],[(.slice none 0 0),(.slice none 0 0),(.slice none 0 0)]):=rK
@[push_cast] theorem Kc:elZ zH 1 24=true:=rK
theorem Zu:P.underlying zH=some (.slice zf):=rK
@[push_cast] theorem qq0:isSl zH=true:=rK
@[push_cast] theorem Kt:elB zH 1=true:=rK
@[push_cast] theorem UZ:oneB yb=true:=rK
theorem qI:P.underlying yb=some (.map 172 3):=rK
theorem VB:strF yd=some ([(0,2),(2,1)],[(nI 0),(.slice none 0 0),(.map none)]):=rK
theorem YA:P.underlying kA=some (.map 9 3):=rK
theorem k70:P.underlying UI=some (.slice zI):=rK
@[push_cast] theorem s_LLLint:isSl UI=true:=rK
@[push_cast] theorem e_LLLint:elB UI 1=true:=rK
theorem qU0:xR0 y30 .u64:=by unfold xR0;kernel_rfl
theorem Zw0:(P.underlying y30).isSome=true:=rK
@[push_cast] theorem xB:imapB QJ=true:=rK
theorem Vk:fieldB yi 0 0=true:=rK
@[push_cast] theorem jF0 {w:World} {K:oK} (a:Addr):zB yi (.pointer (some a)) 0 w K=K (.pointer (some (a.add 0))) w:=zx Vk a
theorem Vj:fieldB yi 1 1=true:=rK
@[push_cast] theorem jE0 {w:World} {K:oK} (a:Addr):zB yi (.pointer (some a)) 1 w K=K (.pointer (some (a.add 1))) w:=zx Vj a
theorem Vi:fieldB yi 2 2=true:=rK
@[push_cast] theorem jD0 {w:World} {K:oK} (a:Addr):zB yi (.pointer (some a)) 2 w K=K (.pointer (some (a.add 2))) w:=zx Vi a
theorem Vh:fieldB yi 3 3=true:=rK
@[push_cast] theorem jC0 {w:World} {K:oK} (a:Addr):zB yi (.pointer (some a)) 3 w K=K (.pointer (some (a.add 3))) w:=zx Vh a
theorem Vg:fieldB yi 4 4=true:=rK
@[push_cast] theorem jB0 {w:World} {K:oK} (a:Addr):zB yi (.pointer (some a)) 4 w K=K (.pointer (some (a.add 4))) w:=zx Vg a
theorem Vr:fieldB za 0 0=true:=rK
@[push_cast] theorem jM0 {w:World} {K:oK} (a:Addr):zB za (.pointer (some a)) 0 w K=K (.pointer (some (a.add 0))) w:=zx Vr a
theorem Vq:fieldB za 1 1=true:=rK
@[push_cast] theorem jL0 {w:World} {K:oK} (a:Addr):zB za (.pointer (some a)) 1 w K=K (.pointer (some (a.add 1))) w:=zx Vq a
theorem Vp:fieldB za 2 2=true:=rK
@[push_cast] theorem jK0 {w:World} {K:oK} (a:Addr):zB za (.pointer (some a)) 2 w K=K (.pointer (some (a.add 2))) w:=zx Vp a
theorem Vo:fieldB za 3 3=true:=rK
@[push_cast] theorem jJ0 {w:World} {K:oK} (a:Addr):zB za (.pointer (some a)) 3 w K=K (.pointer (some (a.add 3))) w:=zx Vo a
theorem Vn:fieldB za 4 4=true:=rK
@[push_cast] theorem jI0 {w:World} {K:oK} (a:Addr):zB za (.pointer (some a)) 4 w K=K (.pointer (some (a.add 4))) w:=zx Vn a
theorem Vm:fieldB xM 0 0=true:=rK
@[push_cast] theorem jH0 {w:World} {K:oK} (a:Addr):zB xM (.pointer (some a)) 0 w K=K (.pointer (some (a.add 0))) w:=zx Vm a
theorem Vl:fieldB xM 1 1=true:=rK
@[push_cast] theorem jG0 {w:World} {K:oK} (a:Addr):zB xM (.pointer (some a)) 1 w K=K (.pointer (some (a.add 1))) w:=zx Vl a
theorem Vw:fieldB xr 0 0=true:=rK
@[push_cast] theorem jR0 {w:World} {K:oK} (a:Addr):zB xr (.pointer (some a)) 0 w K=K (.pointer (some (a.add 0))) w:=zx Vw a
theorem Vv:fieldB xr 1 1=true:=rK
@[push_cast] theorem jQ0 {w:World} {K:oK} (a:Addr):zB xr (.pointer (some a)) 1 w K=K (.pointer (some (a.add 1))) w:=zx Vv a
theorem Jf:fieldB ye 0 0=true:=rK
@[push_cast] theorem xY0 {w:World} {K:oK} (a:Addr):zB ye (.pointer (some a)) 0 w K=K (.pointer (some (a.add 0))) w:=zx Jf a
theorem Je:fieldB ye 1 1=true:=rK
@[push_cast] theorem xX0 {w:World} {K:oK} (a:Addr):zB ye (.pointer (some a)) 1 w K=K (.pointer (some (a.add 1))) w:=zx Je a
theorem Uq:fieldB zq 0 0=true:=rK
@[push_cast] theorem kP0 {w:World} {K:oK} (a:Addr):zB zq (.pointer (some a)) 0 w K=K (.pointer (some (a.add 0))) w:=zx Uq a
theorem Up:fieldB zq 1 1=true:=rK
@[push_cast] theorem Uu {w:World} {K:oK} (a:Addr):zB zq (.pointer (some a)) 1 w K=K (.pointer (some (a.add 1))) w:=zx Up a
theorem Ug:fieldB y6 0 0=true:=rK
@[push_cast] theorem kJ0 {w:World} {K:oK} (a:Addr):zB y6 (.pointer (some a)) 0 w K=K (.pointer (some (a.add 0))) w:=zx Ug a
theorem Uf:fieldB y6 1 1=true:=rK
@[push_cast] theorem kI0 {w:World} {K:oK} (a:Addr):zB y6 (.pointer (some a)) 1 w K=K (.pointer (some (a.add 1))) w:=zx Uf a
theorem Ue:fieldB y6 2 2=true:=rK
@[push_cast] theorem kH0 {w:World} {K:oK} (a:Addr):zB y6 (.pointer (some a)) 2 w K=K (.pointer (some (a.add 2))) w:=zx Ue a
theorem Ud:fieldB y6 3 3=true:=rK
@[push_cast] theorem kG0 {w:World} {K:oK} (a:Addr):zB y6 (.pointer (some a)) 3 w K=K (.pointer (some (a.add 3))) w:=zx Ud a
theorem Uc:fieldB y6 4 5=true:=rK
@[push_cast] theorem kF0 {w:World} {K:oK} (a:Addr):zB y6 (.pointer (some a)) 4 w K=K (.pointer (some (a.add 5))) w:=zx Uc a
theorem Ko:fieldB qB 0 0=true:=rK
@[push_cast] theorem j50 {w:World} {K:oK} (a:Addr):zB qB (.pointer (some a)) 0 w K=K (.pointer (some (a.add 0))) w:=zx Ko a
theorem Km:fieldB qB 1 1=true:=rK
@[push_cast] theorem j40 {w:World} {K:oK} (a:Addr):zB qB (.pointer (some a)) 1 w K=K (.pointer (some (a.add 1))) w:=zx Km a
theorem XN:fieldB zy 1 2=true:=rK
@[push_cast] theorem yY0 {w:World} {K:oK} (a:Addr):zB zy (.pointer (some a)) 1 w K=K (.pointer (some (a.add 2))) w:=zx XN a
theorem Ui:fieldB zg 0 0=true:=rK
@[push_cast] theorem kL0 {w:World} {K:oK} (a:Addr):zB zg (.pointer (some a)) 0 w K=K (.pointer (some (a.add 0))) w:=zx Ui a
theorem Uh:fieldB zg 1 1=true:=rK
@[push_cast] theorem kK0 {w:World} {K:oK} (a:Addr):zB zg (.pointer (some a)) 1 w K=K (.pointer (some (a.add 1))) w:=zx Uh a
theorem Uo:fieldB zw 0 0=true:=rK
@[push_cast] theorem kO0 {w:World} {K:oK} (a:Addr):zB zw (.pointer (some a)) 0 w K=K (.pointer (some (a.add 0))) w:=zx Uo a
theorem Un:fieldB zw 1 1=true:=rK
@[push_cast] theorem kN0 {w:World} {K:oK} (a:Addr):zB zw (.pointer (some a)) 1 w K=K (.pointer (some (a.add 1))) w:=zx Un a
theorem Vf:fieldB zA 0 0=true:=rK
@[push_cast] theorem jA0 {w:World} {K:oK} (a:Addr):zB zA (.pointer (some a)) 0 w K=K (.pointer (some (a.add 0))) w:=zx Vf a
theorem Ve:fieldB zA 1 2=true:=rK
@[push_cast] theorem jz0 {w:World} {K:oK} (a:Addr):zB zA (.pointer (some a)) 1 w K=K (.pointer (some (a.add 2))) w:=zx Ve a
theorem Um:fieldB zu 0 0=true:=rK
@[push_cast] theorem Ut {w:World} {K:oK} (a:Addr):zB zu (.pointer (some a)) 0 w K=K (.pointer (some (a.add 0))) w:=zx Um a
theorem Ul:fieldB zu 1 1=true:=rK
@[push_cast] theorem Us {w:World} {K:oK} (a:Addr):zB zu (.pointer (some a)) 1 w K=K (.pointer (some (a.add 1))) w:=zx Ul a
theorem Uk:fieldB zu 2 2=true:=rK
@[push_cast] theorem Ur {w:World} {K:oK} (a:Addr):zB zu (.pointer (some a)) 2 w K=K (.pointer (some (a.add 2))) w:=zx Uk a
theorem Uj:fieldB zu 3 3=true:=rK
@[push_cast] theorem kM0 {w:World} {K:oK} (a:Addr):zB zu (.pointer (some a)) 3 w K=K (.pointer (some (a.add 3))) w:=zx Uj a
theorem Vu:fieldB zm 0 0=true:=rK
@[push_cast] theorem jP0 {w:World} {K:oK} (a:Addr):zB zm (.pointer (some a)) 0 w K=K (.pointer (some (a.add 0))) w:=zx Vu a
theorem Vt:fieldB zm 1 1=true:=rK
@[push_cast] theorem jO0 {w:World} {K:oK} (a:Addr):zB zm (.pointer (some a)) 1 w K=K (.pointer (some (a.add 1))) w:=zx Vt a
theorem Vs:fieldB zm 2 2=true:=rK
@[push_cast] theorem jN0 {w:World} {K:oK} (a:Addr):zB zm (.pointer (some a)) 2 w K=K (.pointer (some (a.add 2))) w:=zx Vs a
theorem Jd:fieldB yA 0 0=true:=rK
@[push_cast] theorem xW0 {w:World} {K:oK} (a:Addr):zB yA (.pointer (some a)) 0 w K=K (.pointer (some (a.add 0))) w:=zx Jd a
theorem Jc:fieldB yA 1 2=true:=rK
@[push_cast] theorem xV0 {w:World} {K:oK} (a:Addr):zB yA (.pointer (some a)) 1 w K=K (.pointer (some (a.add 2))) w:=zx Jc a
theorem Jb:fieldB yA 2 3=true:=rK
@[push_cast] theorem xU0 {w:World} {K:oK} (a:Addr):zB yA (.pointer (some a)) 2 w K=K (.pointer (some (a.add 3))) w:=zx Jb a
theorem Ja:fieldB yA 3 4=true:=rK
@[push_cast] theorem xT0 {w:World} {K:oK} (a:Addr):zB yA (.pointer (some a)) 3 w K=K (.pointer (some (a.add 4))) w:=zx Ja a
theorem J9:fieldB yA 4 5=true:=rK
@[push_cast] theorem xS0 {w:World} {K:oK} (a:Addr):zB yA (.pointer (some a)) 4 w K=K (.pointer (some (a.add 5))) w:=zx J9 a
theorem QC:fieldB yo 0 0=true:=rK
@[push_cast] theorem xB0 {w:World} {K:oK} (a:Addr):zB yo (.pointer (some a)) 0 w K=K (.pointer (some (a.add 0))) w:=zx QC a
theorem QB:fieldB yo 1 1=true:=rK
@[push_cast] theorem xA0 {w:World} {K:oK} (a:Addr):zB yo (.pointer (some a)) 1 w K=K (.pointer (some (a.add 1))) w:=zx QB a
theorem QA:fieldB yo 2 2=true:=rK
@[push_cast] theorem xz0 {w:World} {K:oK} (a:Addr):zB yo (.pointer (some a)) 2 w K=K (.pointer (some (a.add 2))) w:=zx QA a
theorem Qz:fieldB yo 3 3=true:=rK
@[push_cast] theorem xy0 {w:World} {K:oK} (a:Addr):zB yo (.pointer (some a)) 3 w K=K (.pointer (some (a.add 3))) w:=zx Qz a
theorem Qy:fieldB yM 0 0=true:=rK
@[push_cast] theorem xx0 {w:World} {K:oK} (a:Addr):zB yM (.pointer (some a)) 0 w K=K (.pointer (some (a.add 0))) w:=zx Qy a
theorem Qx:fieldB yM 1 1=true:=rK
@[push_cast] theorem xw0 {w:World} {K:oK} (a:Addr):zB yM (.pointer (some a)) 1 w K=K (.pointer (some (a.add 1))) w:=zx Qx a
theorem Kl:fieldB yD 0 0=true:=rK
@[push_cast] theorem j30 {w:World} {K:oK} (a:Addr):zB yD (.pointer (some a)) 0 w K=K (.pointer (some (a.add 0))) w:=zx Kl a
theorem Kk:fieldB yD 1 1=true:=rK
@[push_cast] theorem j20 {w:World} {K:oK} (a:Addr):zB yD (.pointer (some a)) 1 w K=K (.pointer (some (a.add 1))) w:=zx Kk a
theorem Kj:fieldB yD 2 2=true:=rK
@[push_cast] theorem j10 {w:World} {K:oK} (a:Addr):zB yD (.pointer (some a)) 2 w K=K (.pointer (some (a.add 2))) w:=zx Kj a
theorem Qw:fieldB yd 0 0=true:=rK
@[push_cast] theorem xv0 {w:World} {K:oK} (a:Addr):zB yd (.pointer (some a)) 0 w K=K (.pointer (some (a.add 0))) w:=zx Qw a
theorem Qv:fieldB yd 1 2=true:=rK
@[push_cast] theorem xu0 {w:World} {K:oK} (a:Addr):zB yd (.pointer (some a)) 1 w K=K (.pointer (some (a.add 2))) w:=zx Qv a
@[push_cast] theorem k00 {w:World} {K:oK} (b a:Value):Z10 zg (.agg ⟨[b,a]⟩) 1 w K=K a w:=y9 rK
noncomputable def mn_kids:String:=match P.info? 106 with|some i=>(match i.methods[0]? with|some m=>m.name|none=>default)|none=>default
noncomputable def k6:String:=match P.info? 106 with|some i=>(match i.methods[1]? with|some m=>m.name|none=>default)|none=>default
noncomputable def qH:String:=match P.info? 106 with|some i=>(match i.methods[2]? with|some m=>m.name|none=>default)|none=>default
noncomputable def Z6:String:=match P.info? 106 with|some i=>(match i.methods[3]? with|some m=>m.name|none=>default)|none=>default
theorem jg0:concB yy=true:=rK
@[push_cast] theorem Yr0 {w:World} {K:oK} (v:Value):xL0 yy v w K=K (.iface yy v) w:=kD jg0 v
theorem xS:concB zO=true:=rK
@[push_cast] theorem jw0 {w:World} {K:oK} (v:Value):xL0 zO v w K=K (.iface zO v) w:=kD xS v
theorem X6 (a b:Value) (w:World):(method (P.types.size+Made.depth) zO (.agg ⟨[a,b]⟩) mn_kids).run P w= .ok (yn,.agg ⟨[a,b]⟩) w:=rK
theorem X5 (a b:Value) (w:World):(method (P.types.size+Made.depth) zO (.agg ⟨[a,b]⟩) k6).run P w= .ok (kj,.agg ⟨[a,b]⟩) w:=rK
theorem Ym (a b:Value) (w:World):(method (P.types.size+Made.depth) zO (.agg ⟨[a,b]⟩) qH).run P w= .ok (jQ,.agg ⟨[a,b]⟩) w:=rK
theorem X4 (a b:Value) (w:World):(method (P.types.size+Made.depth) zO (.agg ⟨[a,b]⟩) Z6).run P w= .ok (yw,.agg ⟨[a,b]⟩) w:=rK
theorem qh:concB zK=true:=rK
@[push_cast] theorem qE0 {w:World} {K:oK} (v:Value):xL0 zK v w K=K (.iface zK v) w:=kD qh v
theorem Yw (a b:Value) (w:World):(method (P.types.size+Made.depth) zK (.agg ⟨[a,b]⟩) mn_kids).run P w= .ok (yn,.agg ⟨[a,b]⟩) w:=rK
theorem Yv (a b:Value) (w:World):(method (P.types.size+Made.depth) zK (.agg ⟨[a,b]⟩) k6).run P w= .ok (jX,.agg ⟨[a,b]⟩) w:=rK
theorem ZM (a b:Value) (w:World):(method (P.types.size+Made.depth) zK (.agg ⟨[a,b]⟩) qH).run P w= .ok (jy,.agg ⟨[a,b]⟩) w:=rK
theorem Yu (a b:Value) (w:World):(method (P.types.size+Made.depth) zK (.agg ⟨[a,b]⟩) Z6).run P w= .ok (yw,.agg ⟨[a,b]⟩) w:=rK
theorem k8:concB zF=true:=rK
@[push_cast] theorem qD0 {w:World} {K:oK} (v:Value):xL0 zF v w K=K (.iface zF v) w:=kD k8 v
theorem Yt (a b:Value) (w:World):(method (P.types.size+Made.depth) zF (.agg ⟨[a,b]⟩) mn_kids).run P w= .ok (yn,.agg ⟨[a,b]⟩) w:=rK
theorem Ys (a b:Value) (w:World):(method (P.types.size+Made.depth) zF (.agg ⟨[a,b]⟩) k6).run P w= .ok (jW,.agg ⟨[a,b]⟩) w:=rK
theorem ZL (a b:Value) (w:World):(method (P.types.size+Made.depth) zF (.agg ⟨[a,b]⟩) qH).run P w= .ok (jx,.agg ⟨[a,b]⟩) w:=rK
theorem Yr (a b:Value) (w:World):(method (P.types.size+Made.depth) zF (.agg ⟨[a,b]⟩) Z6).run P w= .ok (yw,.agg ⟨[a,b]⟩) w:=rK
theorem yH:concB zM=true:=rK
@[push_cast] theorem qB0 {w:World} {K:oK} (v:Value):xL0 zM v w K=K (.iface zM v) w:=kD yH v
theorem Yl (a b:Value) (w:World):(method (P.types.size+Made.depth) zM (.agg ⟨[a,b]⟩) mn_kids).run P w= .ok (yn,.agg ⟨[a,b]⟩) w:=rK
theorem Yk (a b:Value) (w:World):(method (P.types.size+Made.depth) zM (.agg ⟨[a,b]⟩) k6).run P w= .ok (jP,.agg ⟨[a,b]⟩) w:=rK
theorem ZH (a b:Value) (w:World):(method (P.types.size+Made.depth) zM (.agg ⟨[a,b]⟩) qH).run P w= .ok (jq,.agg ⟨[a,b]⟩) w:=rK
theorem yI:concB zE=true:=rK
@[push_cast] theorem xP0 {w:World} {K:oK} (v:Value):xL0 zE v w K=K (.iface zE v) w:=kD yI v
theorem ZJ (a b:Value) (w:World):(method (P.types.size+Made.depth) zE (.agg ⟨[a,b]⟩) mn_kids).run P w= .ok (yn,.agg ⟨[a,b]⟩) w:=rK
theorem ZI (a b:Value) (w:World):(method (P.types.size+Made.depth) zE (.agg ⟨[a,b]⟩) k6).run P w= .ok (jr,.agg ⟨[a,b]⟩) w:=rK
theorem Zk (a b:Value) (w:World):(method (P.types.size+Made.depth) zE (.agg ⟨[a,b]⟩) qH).run P w= .ok (jf,.agg ⟨[a,b]⟩) w:=rK
theorem x8:concB zJ=true:=rK
@[push_cast] theorem qC0 {w:World} {K:oK} (v:Value):xL0 zJ v w K=K (.iface zJ v) w:=kD x8 v
theorem Yq (a b:Value) (w:World):(method (P.types.size+Made.depth) zJ (.agg ⟨[a,b]⟩) mn_kids).run P w= .ok (yn,.agg ⟨[a,b]⟩) w:=rK
theorem Yp (a b:Value) (w:World):(method (P.types.size+Made.depth) zJ (.agg ⟨[a,b]⟩) k6).run P w= .ok (jV,.agg ⟨[a,b]⟩) w:=rK
theorem ZK (a b:Value) (w:World):(method (P.types.size+Made.depth) zJ (.agg ⟨[a,b]⟩) qH).run P w= .ok (jw,.agg ⟨[a,b]⟩) w:=rK
theorem Yo (a b:Value) (w:World):(method (P.types.size+Made.depth) zJ (.agg ⟨[a,b]⟩) Z6).run P w= .ok (yw,.agg ⟨[a,b]⟩) w:=rK
theorem xD:concB zS=true:=rK
@[push_cast] theorem jx0 {w:World} {K:oK} (v:Value):xL0 zS v w K=K (.iface zS v) w:=kD xD v
theorem X9 (a b:Value) (w:World):(method (P.types.size+Made.depth) zS (.agg ⟨[a,b]⟩) mn_kids).run P w= .ok (yn,.agg ⟨[a,b]⟩) w:=rK
theorem X8 (a b:Value) (w:World):(method (P.types.size+Made.depth) zS (.agg ⟨[a,b]⟩) k6).run P w= .ok (kk,.agg ⟨[a,b]⟩) w:=rK
theorem Yn (a b:Value) (w:World):(method (P.types.size+Made.depth) zS (.agg ⟨[a,b]⟩) qH).run P w= .ok (jS,.agg ⟨[a,b]⟩) w:=rK
theorem X7 (a b:Value) (w:World):(method (P.types.size+Made.depth) zS (.agg ⟨[a,b]⟩) Z6).run P w= .ok (yw,.agg ⟨[a,b]⟩) w:=rK
theorem Zg:concB zy=true:=rK
@[push_cast] theorem xQ0 {w:World} {K:oK} (v:Value):xL0 zy v w K=K (.iface zy v) w:=kD Zg v
theorem ZP (a b c:Value) (w:World):(method (P.types.size+Made.depth) zy (.agg ⟨[a,b,c]⟩) mn_kids).run P w= .ok (yn,.agg ⟨[a,b]⟩) w:=rK
theorem ZO (a b c:Value) (w:World):(method (P.types.size+Made.depth) zy (.agg ⟨[a,b,c]⟩) k6).run P w= .ok (jz,.agg ⟨[a,b,c]⟩) w:=rK
theorem Zl (a b c:Value) (w:World):(method (P.types.size+Made.depth) zy (.agg ⟨[a,b,c]⟩) qH).run P w= .ok (ji,.agg ⟨[a,b,c]⟩) w:=rK
theorem ZN (a b c:Value) (w:World):(method (P.types.size+Made.depth) zy (.agg ⟨[a,b,c]⟩) Z6).run P w= .ok (yw,.agg ⟨[a,b]⟩) w:=rK
theorem qi:concB zG=true:=rK
@[push_cast] theorem qF0 {w:World} {K:oK} (v:Value):xL0 zG v w K=K (.iface zG v) w:=kD qi v
theorem Yz (a b:Value) (w:World):(method (P.types.size+Made.depth) zG (.agg ⟨[a,b]⟩) mn_kids).run P w= .ok (yn,.agg ⟨[a,b]⟩) w:=rK
theorem Yy (a b:Value) (w:World):(method (P.types.size+Made.depth) zG (.agg ⟨[a,b]⟩) k6).run P w= .ok (jZ,.agg ⟨[a,b]⟩) w:=rK
theorem ZQ (a b:Value) (w:World):(method (P.types.size+Made.depth) zG (.agg ⟨[a,b]⟩) qH).run P w= .ok (jA,.agg ⟨[a,b]⟩) w:=rK
theorem Yx (a b:Value) (w:World):(method (P.types.size+Made.depth) zG (.agg ⟨[a,b]⟩) Z6).run P w= .ok (yw,.agg ⟨[a,b]⟩) w:=rK
end Go.Proofs.YtolbhkcajhlllaaGreatDoor
section
namespace Go.Proofs.YtolbhkcajhlllaaGreatDoor
open Go Go.Vc Go.Proofs
open Go.ChangeShapes Go.WideShapes Go.ChangeAt Go.RowKit
theorem ZB0:ownKnob P.godebug=none:=rK
theorem jM:laidOutB P=true:=rK
def restFacts (P:Program) (f:FuncId) (fn:Func) (s:ChangeSpec) (c:OpenClaim):Bool:=
 c.wf (OpenSpec.ofChange s)&&
 fn.params.all (P.readableRec ·)&&namedTie P c.named s.vars&&
 (c.stops==[])&&(P.stops==[])&&(c.knobs==[])&&(P.stopKnobs==[])&&
 (c.maps==(fn.params.toList++s.plain.varTypes P).any (P.mapsRec ·))&&(c.ifaces==(fn.params.toList++s.plain.varTypes P).any (P.ifacesRec ·))&&(c.mapsOut==P.mapsAmong fn.resultTypes.toList)&&
 (c.loops==(fn.params.toList++s.plain.varTypes P).any (P.loopsFrom ·))&&(c.wideKeys==(fn.params.toList++s.plain.varTypes P++fn.resultTypes.toList).any (P.wideKeysFrom ·))&&
 s.vars.all (P.varReadable ·)&&fn.resultTypes.all (λt=>P.readableRec t&&decide (t<P.types.size))&&(c.ifacesOut==fn.resultTypes.toList.any (P.ifacesRec ·))&&(c.loopsOut==fn.resultTypes.toList.any (P.loopsFrom ·))&&(c.plainKeys==P.plainKeys)&&c.shortTexts.isNone&&P.stopsHeard&&P.mayEnter&&(c.lifted==P.liftsFinal)&&(P.make==some c.make)&&(c.kinds==(if c.domain.isEmpty then[] else fn.params.toList.map λt=>match P.underlying t with|some (.int k)=>some k|_=>none))&&(c.pinned==c.pinnedBy)&&
 (c.veiled==(fn.params.toList++s.plain.varTypes P++fn.resultTypes.toList).any (P.veiledRec ·))&&c.veiledFits P fn.params.toList (fn.params.toList++s.plain.varTypes P++fn.resultTypes.toList)
theorem qO0 {P:Program} {f:FuncId} {fn:Func} {s:ChangeSpec} {c:OpenClaim} (b:laidOutB P=true) (d:mapsRowed P=true) (e:(c.inPlace==P.inPlace f)=true) (g:(c.unfollowed==P.unfollowed f)=true)
  (h:(c.recurses==P.recurses f)=true) (i:(c.named==P.varsNamed f)=true) (a:restFacts P f fn s c=true):joinedFacts P f fn s c=true:=by
 unfold restFacts at a;unfold joinedFacts;rw[b,d,e,g,h,i];simp only[Pe];exact a
theorem kg0:mapsRowed P=true:=rK
theorem j70 {w w':World} (h:Ext w w'):Below w.heap.size w w':=⟨h.os,h.tape,h.output,h.size,λk a=>h.block k a id⟩
end Go.Proofs.YtolbhkcajhlllaaGreatDoor
end
end
