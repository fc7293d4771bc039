import Derived.Test.YtolbhkcajhlllaaGreatDoorWwaP1
import Derived.RangeFuncRecord
/- A part of the proof. -/
set_option linter.all false
set_option maxRecDepth 9999
set_option maxHeartbeats 2000000
noncomputable section
namespace Go.Vc
open Go Go.RowKit
section
def hasR:Code->Bool
 | .rangeFunc _ _ _ _=>true
 | .seq a b=>hasR a||hasR b
 | .block _ b=>hasR b
 |_=>false
def ovrAt:List Nat->Fr->List Value->Fr
 |[],f,_=>f
 |p::r,f,args=>ovrAt r (put f (some p) (args.headD undef)) args.tail
def jmp (x:Nat) (Nn Nr Nx:World->Prop) (pe:Option Code) (w:World):Prop:=
 match pe with
 |none=>Nn w
 |some .ret=>Nr w
 |some (.exit i)=>i=x/\Nx w
 |_=>False
def Yh0 (gv:Value) (n x:Nat) (w:World) (B:List Value->(World->(World->Prop)->Prop)->(World->Prop)->(World->Prop)->(World->Prop)->World->Prop) (Nn Nr Nx:Nat->World->Prop):Prop:=
 ∃gf lb,gv= .func (.func gf) #[] lb/\∀(l D:Nat) (w1:World) (RR:LoopState->Option Code->World->Prop),D=w.heap.size->l=w.heap.size+1->Ext w w1->w1.heap.size=w.heap.size+2->w1.heap[D]?=some (.deferred (some []))->
  (∀st pe w' w'',RR st pe w'->w''.heap[l]?=w'.heap[l]?->RR st pe w'')->RR .ready none w1->
  (∀(args:List Value) (w':World) (K:oK),args.length=n->RR .ready none w'->
   B args (λw1 k=>RR .ready none w1/\∀w2,Same (· =l) w1 w2->w2.heap.size=w1.heap.size->RR .busy none w2->k w2)
    (λw3=>RR .busy none w3/\∀w4,Same (· =l) w3 w4->w4.heap.size=w3.heap.size->RR .ready none w4->K (.bool true) w4)
    (λw3=>RR .busy none w3/\∀w4,Same (· =l) w3 w4->w4.heap.size=w3.heap.size->RR .done (some .ret) w4->K (.bool false) w4)
    (λw3=>RR .busy none w3/\∀w4,Same (· =l) w3 w4->w4.heap.size=w3.heap.size->RR .done (some (.exit x)) w4->K (.bool false) w4) w'->
   vcallv (.func (.yield l) #[] #[]) ⟨args⟩ w' K)->
  vcall gf ⟨.func (.yield l) #[] #[]::lb.toList⟩ w1 λ_ w3=> ∃st pe,st≠ .busy/\RR st pe w3/\∀w4,Same (· =l) w3 w4->w4.heap.size=w3.heap.size->jmp x (Nn D) (Nr D) (Nx D) pe w4
def rndK (x:Nat) (kn kr kx:World->Prop) (e:Exit) (_:Fr) (w:World):Prop:=
 match e with
 | .normal=>kn w
 | .ret=>kr w
 | .exit i=>cond (Nat.beq i x) (kx w) False
 |_=>False
def vx (T:Ann) (x:Nat):Code->(Exit->Fr->World->Prop)->(Nat->Exit->Fr->World->Prop)->Fr->World->Prop
 | .rangeFunc g ps asg body,_,K1,f,w=>
  Yh0 (ev f g) ps.size x w
   (λargs beg kn kr kx w'=>vc T asg (seqK (λf1 w1=>beg w1 λw2=>vc T body (rndK x kn kr kx) f1 w2) (λ_ _ _=>False)) (ovrAt ps.toList f args) w')
   (λD w'=>K1 D .normal f w') (λD w'=>K1 D .ret f w') (λD w'=>K1 D (.exit x) f w')
 | .seq a b,K0,K1,f,w=>
  match hasR a with
  |true=>vx T x a (seqK (λf' w'=>vc T b K0 f' w') K0) (λD=>seqK (λf' w'=>vc T b (K1 D) f' w') (K1 D)) f w
  |false=>vc T a (seqK (λf' w'=>vx T x b K0 K1 f' w') K0) f w
 | .block id c,K0,K1,f,w=>vx T x c (blkK id K0) (λD=>blkK id (K1 D)) f w
 |_,_,_,_,_=>False
def okX (n:Nat) (T:Ann):Code->Bool
 | .rangeFunc _ ps asg body=>okC n T asg&&(okC n T body&&ps.toList.all λp=>Nat.blt p n)
 | .seq a b=>cond (hasR a) (okX n T a&&okC n T b) (okC n T a&&okX n T b)
 | .block _ c=>okX n T c
 |_=>false
def Yr0 (D:Nat):Deferred:={target:= .collected D,args:= #[]}
def kU0 (n:Nat) (K0:Exit->Fr->World->Prop) (K1:Nat->Exit->Fr->World->Prop) (e:Exit) (a:Act) (w:World):Prop:=
 (∃f',Sim [] n f' a/\K0 e f' w)\/ ∃D f',Sim [Yr0 D] n f' a/\K1 D e f' w
section
variable {T:Ann} {n x:Nat}
theorem Zv0:∀(ps:List Nat) (f:Fr) (args:List Value) (tmps:Array Value),args.length=ps.length->ps.all (λp=>Nat.blt p n)=true->tmps.size=n->(∀t,tmps.getD t undef=f t)->
  Sim [] n (ovrAt ps f args) {tmps:=(ps.zip args).foldl (λt p=>t.setIfInBounds p.1 p.2) tmps,defers:=[]}:=by
 intro ps;induction ps with
 |nil=>intro f args tmps _ _ hs a;exact⟨hs,rfl,a⟩
 |cons p r g=>
  intro f args tmps d b hs a;cases args with
  |nil=>simp at d
  |cons v args=>
   simp only[List.all_cons,K3] at b;have c:p<n:=(by simpa[pK] using b.1);refine g (put f (some p) v) args (tmps.setIfInBounds p v) (by simpa using d) b.2 (by simpa using hs) λt=>?_;by_cases e:t=p
   ·subst e;rw[Jm];simp[gE,hs,c]
   ·rw[VS _ _ _ _ e,<-a t];simp only[gE];rw[pV (Ne.symm e)]
theorem Y4 (w:World) (l:Nat) (o:Obj):Same (· =l) w (w.putObj l o):=
 ⟨rfl,rfl,rfl,by simp,λ_ _ a=>World.putObj_heap_other a⟩
theorem Y6 {w:World} {l:Nat} {o:Obj} (h:w.heap[l]?=some o):l<w.heap.size:=(gx.1 h).1
theorem range_sound (hm:P.follows .mixedOrders=true) {g:Operand} {ps:Array Tmp} {asg body:Code} {S:Exit->Fr->World->Prop} {U:Nat->Exit->Fr->World->Prop} {f:Fr} {a:Act} {w:World}
  (z:okX n T (.rangeFunc g ps asg body)=true) (h:vx T x (.rangeFunc g ps asg body) S U f w) (hs:Sim [] n f a):(Code.rangeFunc g ps asg body).wpIn (FR none) 0 P (kU0 n S U) a w:=by
 simp only[okX,K3] at z;obtain⟨M,N,O⟩:=z;obtain⟨gf,lb,hg,H⟩:=h;refine wpIn_rangeFunc λfn _=>?_
 let d:LoopState->Option Code->Loop:=λst pe=>{state:=st,pending:=pe,fn,tmps:=a.tmps,params:=ps,assign:=asg,body,defers:=w.heap.size}
 obtain⟨w1,q⟩:∃w1,(w.alloc (.deferred (some []))).alloc (.loop (d .ready none))=w1:=⟨_,rfl⟩;have G:w1.heap[w.heap.size+1]?=some (.loop (d .ready none)):=by
  rw[<-q];have:=World.alloc_heap_new (w.alloc (.deferred (some []))) (.loop (d .ready none));rwa[World.size_alloc] at this
 have hD1:w1.heap[w.heap.size]?=some (.deferred (some [])):=by
  rw[<-q];exact(Below.heap_alloc _ _ _ (by simp)).trans (World.alloc_heap_new w _)
 have D:w1.heap.size=w.heap.size+2:=by rw[<-q,World.size_alloc,World.size_alloc]
 have F:Ext w w1:=by
  rw[<-q];exact⟨rfl,rfl,rfl,by rw[World.size_alloc,World.size_alloc];omega,λb Y _=>(Below.heap_alloc _ _ b (by rw[World.size_alloc];omega)).trans (Below.heap_alloc w _ b Y)⟩
 have Z:=H (w.heap.size+1) w.heap.size w1 (λst pe w'=>w'.heap[w.heap.size+1]?=some (.loop (d st pe))) rfl rfl F D hD1 (λst pe w' w'' A he=>he.trans A) G ?_
 ·obtain⟨I,r⟩:=Z;refine⟨w.heap.size+1,[Yr0 w.heap.size],w1,{target:= .fn (.func gf) lb,args:= #[.func (.yield (w.heap.size+1)) #[] #[]]},w1,gf,
   #[.func (.yield (w.heap.size+1)) #[] #[]]++lb,w1,?_,?_,λ_ _=>trivial,?_,λh=>(by cases h),?_⟩
  ·rw[<-q];exact run_enterLoop_outer _ _ _ _ _
  ·simp only[resolve,hs.eval,hg];simp[go_sem,ev]
  ·simp[invoke,go_sem,callFunc_run I]
  ·have e:(#[.func (.yield (w.heap.size+1)) #[] #[]]++lb:Array Value)=⟨.func (.yield (w.heap.size+1)) #[] #[]::lb.toList⟩:=by apply Gx.1;simp
   rw[e];refine callsIn_wide.2 (Calls.mono r λe E he=>?_);cases e with
   |returned v=>
    obtain⟨st,pe,R,A,X⟩:=he;have u:=run_endLoop (P:=P) A (by exact R);have m:=X _ (Y4 E _ (.loop {d st pe with state:= .exhausted})) (by simp);have s:Sim [Yr0 w.heap.size] n f {a with defers:=[Yr0 w.heap.size]++a.defers}:=⟨hs.size,by rw[hs.defers];rfl,hs.at_⟩;refine⟨pe,_,u,?_⟩;cases pe with
    |none=>exact .inr ⟨_,f,s,m⟩
    |some c=>
     cases c<;>simp only[jmp] at m<;>try exact m.elim
     case exit i=>
      obtain⟨rfl,m⟩:=m;exact wpIn_exit (.inr ⟨_,f,s,m⟩)
     case ret=>exact wpIn_ret (.inr ⟨_,f,s,m⟩)
   |panicked c=>exact he.elim
   |outgrown=>exact he.elim
 ·intro args w' K hlen A W;have hy:=run_yield (P:=P) (args:=(⟨args⟩:Array Value)) A (by simpa[d] using hlen);refine⟨fn,_,asg,body,hy,roundIn_of_wpIn trivial ?_⟩;have C:=Zv0 (n:=n) ps.toList f args a.tmps (by simpa using hlen) O hs.size hs.at_;have ez:((d .ready none).params.zip (⟨args⟩:Array Value)).foldl (λtmps (t,a)=>tmps.setIfInBounds t a) (d .ready none).tmps=(ps.toList.zip args).foldl (λt p=>t.setIfInBounds p.1 p.2) a.tmps:=by
   rw[<-Pq,Array.toList_zip]
  rw[ez];have V:=vc_sound (ro:=some (w.heap.size+1)) hm asg _ _ _ w' M W C (λl f w h=>h);refine wpIn_mono V ?_;rintro e a2 w2 ⟨f2,Q,_,y⟩;cases e<;>simp only[seqK] at y<;>try exact y.elim
  case normal=>
   obtain⟨B,y⟩:=y;refine⟨_,run_beginRound B rfl,?_⟩;have L:=Y6 B;have J:=y _ (Y4 w2 _ (.loop {d .ready none with state:= .busy})) (by simp) (World.putObj_heap_same L);refine wpIn_mono (vc_sound (ro:=some (w.heap.size+1)) hm body _ _ _ _ N J Q (λl f w h=>h)) ?_;rintro e a3 E ⟨f3,a0,_,j⟩;cases e<;>simp only[rndK] at j<;>try exact j.elim
   case normal=>
    obtain⟨k,o⟩:=j;exact⟨_,_,run_endRound none k,o _ (Y4 E _ _) (by simp) (World.putObj_heap_same (Y6 k))⟩
   case ret=>
    obtain⟨k,o⟩:=j;exact⟨_,_,run_endRound (some .ret) k,o _ (Y4 E _ _) (by simp) (World.putObj_heap_same (Y6 k))⟩
   case exit i=>
    cases hi:Nat.beq i x
    ·rw[hi] at j;exact j.elim
    ·rw[hi] at j;obtain rfl:=gl hi;obtain⟨k,o⟩:=j;exact⟨_,_,run_endRound (some (.exit i)) k,o _ (Y4 E _ _) (by simp) (World.putObj_heap_same (Y6 k))⟩
theorem jR0 (hm:P.follows .mixedOrders=true):∀(c:Code) (p:Exit->Fr->World->Prop) (q:Nat->Exit->Fr->World->Prop) (f:Fr) (a:Act) (w:World),okX n T c=true->vx T x c p q f w->Sim [] n f a->
  (∀l f w,¬p (.goto l) f w)->(∀D l f w,¬q D (.goto l) f w)->c.wpIn (FR none) 0 P (kU0 n p q) a w:=by
 intro c;induction c with
 |rangeFunc g ps asg body _ _=>intro p q f a w d h hs _ _;exact range_sound hm d h hs
 |seq y z ihy ihz=>
  intro p q f a w d h hs o s;refine wpIn_seq ?_;simp only[okX] at d;simp only[vx] at h;cases E:hasR y with
  |true=>
   rw[E] at d h;simp only[cond,K3] at d;simp only at h;refine wpIn_mono (ihy _ _ f a w d.1 h hs (λl f w h=>o l f w h) (λD l f w h=>s D l f w h)) ?_;rintro e r w' (⟨m,j,k⟩|⟨D,m,j,k⟩)
   ·cases e with
    |normal=>
     refine wpIn_mono (vc_sound hm z p m r w' d.2 k j o) ?_;rintro e A w'' ⟨u,t,_,v⟩;exact .inl ⟨u,t,v⟩
    |_=>exact .inl ⟨m,j,k⟩
   ·cases e with
    |normal=>
     refine wpIn_mono (vc_sound hm z (q D) m r w' d.2 k j (s D)) ?_;rintro e A w'' ⟨u,t,_,v⟩;exact .inr ⟨D,u,t,v⟩
    |_=>exact .inr ⟨D,m,j,k⟩
  |false=>
   rw[E] at d h;simp only[cond,K3] at d;simp only at h;refine wpIn_mono (vc_sound hm y _ f a w d.1 h hs (λl f w h=>o l f w h)) ?_;rintro e r w' ⟨m,j,_,k⟩;cases e with
   |normal=>exact ihz p q m r w' d.2 k j o s
   |_=>exact .inl ⟨m,j,k⟩
 |block id b F=>
  intro p q f a w d h hs o s;simp only[vx] at h;refine wpIn_block (wpIn_mono (F _ _ f a w d h hs (λl f w h=>o l f w h) (λD l f w h=>s D l f w h)) ?_);have key:∀(K:Exit->Fr->World->Prop) (e:Exit) (m:Fr) (w':World),blkK id K e m w'->∀(df:List Deferred) (r:Act),Sim df n m r->(∀e f w a,Sim df n f a->K e f w->kU0 n p q e a w)->Exit.inBlock id (kU0 n p q) e r w':=by
   intro K e m w' k df r j B;cases e with
   |exit i=>
    simp only[blkK] at k;cases hi:Nat.beq i id
    ·rw[hi] at k;have C:i≠id:=Nat.ne_of_beq_eq_false hi;simp only[Exit.inBlock,C,if_false];exact B _ _ _ _ j k
    ·rw[hi] at k;have:i=id:=gl hi;subst this;simp only[Exit.inBlock,if_true];exact B _ _ _ _ j k
   |_=>exact B _ _ _ _ j k
  rintro e r w' (⟨m,j,k⟩|⟨D,m,j,k⟩)
  ·exact key p e m w' k [] r j λe f w a hs h=> .inl ⟨f,hs,h⟩
  ·exact key (q D) e m w' k [Yr0 D] r j λe f w a hs h=> .inr ⟨D,f,hs,h⟩
 |_=>intro p q f a w d;exact absurd d (by simp[okX])
def x80 (D:Nat) (w:World) (k:World->Prop):Prop:=w.heap[D]?=some (.deferred (some []))/\∀w',Same (· =D) w w'->w'.heap.size=w.heap.size->k w'
def retM (rs:List ResultVar) (K:oK) (D:Nat) (e:Exit) (f:Fr) (w:World):Prop:=
 match e with
 | .normal=>x80 D w λw'=>ZX0 rs f w' K
 | .ret=>x80 D w λw'=>ZX0 rs f w' K
 |_=>False
theorem zX0 {g:Nat} {fn:Func} {c:Code} {args:List Value} {w:World} {K:oK} (hm:P.follows .mixedOrders=true) (r:P.funcs[g]?=some fn) (q:fn.body=some c)
  (t:fn.ntmps=n) (s:okFn g=true) (j:okX n T c=true) (hlen:Nat.ble args.length n=true)
  (h:vx T x c (retF fn.results.toList K) (retM fn.results.toList K) (nthV args) w):vcall g args.toArray w K:=by
 refine⟨s,callsIn_wide (n:=0).1 (callsIn_of_wp_marks r q trivial ?_)⟩;rw[t];refine wpIn_mono (jR0 (x:=x) hm c _ _ _ _ w j h (sim_enter args n (pX hlen)) (λl f w h=>h) (λD l f w h=>h)) ?_;rintro e k w' (⟨m,a,b⟩|⟨D,m,a,b⟩)
 ·cases e with
  |normal=>obtain⟨v,d,i⟩:=vres_sound b a;rw[bodyPostM,a.defers];exact⟨v,d,i⟩
  |ret=>obtain⟨v,d,i⟩:=vres_sound b a;rw[bodyPostM,a.defers];exact⟨v,d,i⟩
  |_=>exact b.elim
 ·have fin:x80 D w' (λw'=>ZX0 fn.results.toList m w' K)->LeavesInM (FR none) 0 P fn k.tmps (retK K) k.defers .returning w':=by
   rintro⟨o,p⟩;rw[a.defers];obtain⟨v,d,i⟩:=vres_sound (p _ (Y4 w' D (.deferred none)) (by simp)) a;exact⟨by simp,.inl ⟨_,_,rfl,run_takeDeferred o,v,d,i⟩⟩
  cases e with
  |normal=>exact fin b
  |ret=>exact fin b
  |_=>exact b.elim
end
end
end Go.Vc
section
namespace Go.M
inductive Tm where
 |mk (op a b:Int) (s:ByteArray) (ks:List Tm)
namespace Tm
def op:Tm->Int|mk o _ _ _ _=>o
def a:Tm->Int|mk _ a _ _ _=>a
def b:Tm->Int|mk _ _ b _ _=>b
def s:Tm->ByteArray|mk _ _ _ s _=>s
def ks:Tm->List Tm|mk _ _ _ _ ks=>ks
theorem ind {p:Tm->Prop} (h:∀t,(∀k,k∈t.ks->p k)->p t):∀t,p t
 |mk o a b s ks=>h _ λk (c:k∈ks)=>by
   have:=List.sizeOf_lt_of_mem c;exact ind h k
decreasing_by
 grind
variable {α:Type}
mutual
def fold (f:Tm->List α->α):Tm->α
 |mk o a b s ks=>f (mk o a b s ks) (foldL f ks)
def foldL (f:Tm->List α->α):List Tm->List α
 |[]=>[]
 |k::r=>fold f k::foldL f r
end
theorem foldL_eq (f:Tm->List α->α) (ks:List Tm):foldL f ks=ks.map (fold f):=by
 induction ks with
 |nil=>simp only[foldL,Pn]
 |cons k r a=>simp only[foldL,a,Gr]
theorem fold_eq (f:Tm->List α->α) (t:Tm):fold f t=f t (t.ks.map (fold f)):=by
 cases t with
 |mk o a b s ks=>simp only[fold,foldL_eq];rfl
end Tm
def nada:ByteArray:=⟨#[]⟩
instance:Inhabited Tm:=⟨.mk 0 0 0 nada []⟩
def vok (w n:Int):Bool:=decide (1<=w)&&decide (w<=4)&&decide (0<=n)&&decide (n<2^w.toNat)
theorem vok_iff {w n:Int}:vok w n=true↔1<=w/\w<=4/\0<=n/\n<2^w.toNat:=by simp[vok,and_assoc]
theorem four {w:Int} (a:1<=w) (b:w<=4):w=1\/w=2\/w=3\/w=4:=oM
theorem vok_lt {w n:Int} (h:vok w n=true):1<=w/\w<=4/\0<=n/\n<16:=by
 obtain⟨a,b,c,d⟩:=vok_iff.1 h
 grind [four]
theorem small1 {p:Nat->Nat->Prop} [∀w n,Decidable (p w n)] (h:∀w:Fin 5,∀n:Fin 16,1<=w.1->n.1<2^w.1->p w n) {w n:Int} (a:vok w n=true):p w.toNat n.toNat:=by
 obtain⟨b,c,d,e⟩:=vok_lt a;obtain⟨_,_,_,f⟩:=vok_iff.1 a;refine h ⟨w.toNat,oM⟩ ⟨n.toNat,oM⟩ (by grind) ?_
 grind
def unM (op w a:Int):Int:=if op=1 then 2^w.toNat-1-a else(2^w.toNat-a)%2^w.toNat
def binN (op w a b:Nat):Nat:=
 if op=3 then a&&&b
 else if op=4 then a|||b
 else if op=5 then a^^^b
 else if op=6 then(a+b)%2^w
 else if op=7 then(a+2^w-b)%2^w
 else if op=8 then a*b%2^w
 else if op=9 then(if b=0 then 2^w-1 else a/b)
 else if op=10 then(if b=0 then a else a%b)
 else if op=11 then a*2^b%2^w
 else if op=12 then a/2^b
 else if a<2^(w-1) then a/2^b else 2^w-1-(2^w-1-a)/2^b
def binM (op w a b:Int):Int:=binN op.toNat w.toNat a.toNat b.toNat
def catM (v a b:Int):Int:=a*2^v.toNat+b
def sgn (w a:Int):Int:=if a<2^(w.toNat-1) then a else a-2^w.toNat
def cmpM (op w a b:Int):Bool:=if op=15 then decide (a=b) else if op=16 then decide (a<b) else decide (sgn w a<sgn w b)
def cutM (a hi lo:Int):Int:=a/2^lo.toNat%2^(hi-lo+1).toNat
theorem unM_ok {op w a:Int} (h:vok w a=true):vok w (unM op w a)=true:=by
 obtain⟨b,c,d,e⟩:=vok_iff.1 h;refine vok_iff.2 ⟨b,c,?_⟩;unfold unM;omega
def YB0 (op w:Nat):Bool:=(List.range 16).all λa=>(List.range 16).all λb=> !(decide (a<2^w)&&decide (b<2^w))||decide (binN op w a b<2^w)
theorem binN_lt {op w a b:Nat} (f:3<=op) (h:op<=13) (hw:1<=w) (d:w<=4) (g:a<2^w) (i:b<2^w):binN op w a b<2^w:=by
 have c:∀o:Fin 14,∀v:Fin 5,3<=o.1->1<=v.1->YB0 o v=true:=by decide+kernel
 have e:2^w<=2^4:=gY oM d;have:=c ⟨op,oM⟩ ⟨w,oM⟩ f hw;simp only[YB0,gW,gF,Gi,gK,G5,decide_eq_false_iff_not,decide_eq_true_eq] at this
 grind
theorem binM_ok {op w a b:Int} (k:3<=op) (c:op<=13) (g:vok w a=true) (h:vok w b=true):vok w (binM op w a b)=true:=by
 obtain⟨i,j,l,m⟩:=vok_iff.1 g;obtain⟨_,_,d,f⟩:=vok_iff.1 h;have e:((2^w.toNat:Nat):Int)=2^w.toNat:=by simp
 have:=binN_lt (op:=op.toNat) (w:=w.toNat) (a:=a.toNat) (b:=b.toNat) oM oM oM oM oM oM
 grind [vok_iff,binM]
theorem cat_ok {v w a b:Int} (c:vok w a=true) (d:vok v b=true) (hs:w+v<=4):vok (w+v) (catM v a b)=true:=by
 obtain⟨e,f,g,h⟩:=vok_iff.1 c;obtain⟨i,j,k,l⟩:=vok_iff.1 d;refine vok_iff.2 ⟨oM,hs,?_⟩;unfold catM
 grind [four]
theorem cut_ok {w a hi lo:Int} (b:vok w a=true) (c:0<=lo) (h:lo<=hi) (hw:hi<w):vok (hi-lo+1) (cutM a hi lo)=true:=by
 obtain⟨d,e,f,g⟩:=vok_iff.1 b;refine vok_iff.2 ⟨oM,oM,?_⟩;unfold cutM;omega
def vecUn (op w n:Int):(Int×Int)×Bool:=if vok w n=true/\(op=1\/op=2) then((w,unM op w n),true) else((0,0),false)
def vecBin (op w n v m:Int):(Int×Int)×Bool:=
 if vok w n=true/\vok v m=true then
  if op=14 then(if w+v<=4 then((w+v,catM v n m),true) else((0,0),false))
  else if 3<=op/\op<=13/\w=v then((w,binM op w n m),true) else((0,0),false)
 else((0,0),false)
def vecCmp (op w n v m:Int):Bool×Bool:=
 if vok w n=true/\vok v m=true/\w=v/\15<=op/\op<=17 then(cmpM op w n m,true) else(false,false)
def vecCut (w n hi lo:Int):(Int×Int)×Bool:=if vok w n=true/\0<=lo/\lo<=hi/\hi<w then((hi-lo+1,cutM n hi lo),true) else((0,0),false)
theorem vok_nat {w n:Int} (h:vok w n=true):∃k a:Nat,w=k/\n=a/\1<=k/\k<=4/\a<2^k:=by
 obtain⟨b,c,d,e⟩:=vok_iff.1 h;refine⟨w.toNat,n.toNat,oM,oM,oM,oM,?_⟩
 grind
theorem unM_not {k a:Nat} (c:1<=k) (d:k<=4) (h:a<2^k):unM 1 k a=((18446744073709551615-a)%2^k:Nat):=by
 have b:∀v:Fin 5,∀x:Fin 16,1<=v.1->x.1<2^v.1->unM 1 v.1 x.1=((18446744073709551615-x.1)%2^v.1:Nat):=by decide+kernel
 have:2^k<=2^4:=gY oM d;exact b ⟨k,oM⟩ ⟨a,oM⟩ c h
theorem unM_neg {k a:Nat} (c:1<=k) (d:k<=4) (h:a<2^k):unM 2 k a=((if a=0 then 0 else 18446744073709551616-a)%2^k:Nat):=by
 have b:∀v:Fin 5,∀x:Fin 16,1<=v.1->x.1<2^v.1->unM 2 v.1 x.1=((if x.1=0 then 0 else 18446744073709551616-x.1)%2^v.1:Nat):=by decide+kernel
 have:2^k<=2^4:=gY oM d;exact b ⟨k,oM⟩ ⟨a,oM⟩ c h
theorem cat_or {k v a b:Nat} (d:v<=4) (f:k<=4) (i:a<2^k) (e:b<2^v):((a*2^v|||b:Nat):Int)=catM v a b:=by
 have c:∀v:Fin 5,∀x y:Fin 16,y.1<2^v.1->x.1*2^v.1|||y.1=x.1*2^v.1+y.1:=by decide+kernel
 have g:2^k<=2^4:=gY oM f;have h:2^v<=2^4:=gY oM d;have:=c ⟨v,oM⟩ ⟨a,oM⟩ ⟨b,oM⟩ e
 grind [catM]
end Go.M
end
namespace Go.M
open Go.Vc
abbrev Dcl:=ByteArray×Int
def findD (ds:List Dcl) (s:ByteArray):Int:=idxI ds.length λi=>decide ((ds.getD i (nada,0)).1=s)
def tru:ByteArray:=⟨#[116,114,117,101]⟩
def nameOk (s:ByteArray):Bool:=decide (1<=s.size)&&decide (s.size<=4)&&decide (s≠tru)&&s.data.all λc=>decide (97<=c.toNat)&&decide (c.toNat<=122)
def bits (ds:List Dcl):Int:=(ds.map (·.2)).sum
def dclOk (ds:List Dcl) (i:Nat):Bool:=nameOk (ds.getD i (nada,0)).1&&decide (1<=(ds.getD i (nada,0)).2)&&decide ((ds.getD i (nada,0)).2<=4)&&decide (findD (ds.take i) (ds.getD i (nada,0)).1<0)
def declOk (ds:List Dcl):Bool:=decide (ds.length<=4)&&((List.range ds.length).all λi=>dclOk ds i)&&decide (bits ds<=8)
def envOk (ds:List Dcl) (env:List Int):Bool:=declOk ds&&decide (env.length=ds.length)&&(List.range ds.length).all λi=>vok (ds.getD i (nada,0)).2 (env.getD i 0)
theorem findD_lt (ds:List Dcl) (s:ByteArray): -1<=findD ds s/\findD ds s<ds.length:=by
 grind [findD,idxI]
theorem findD_neg {ds:List Dcl} {s:ByteArray} (h:findD ds s<0) {j:Nat} (a:j<ds.length):(ds.getD j (nada,0)).1≠s:=by
 grind [findD,idxI]
theorem findD_get {ds:List Dcl} {s:ByteArray} (h:0<=findD ds s):(ds.getD (findD ds s).toNat (nada,0)).1=s:=by
 grind [findD,idxI]
theorem findD_of {ds:List Dcl} {s:ByteArray} {i:Nat} (hi:i<ds.length) (h:(ds.getD i (nada,0)).1=s) (b:∀j,j<i->(ds.getD j (nada,0)).1≠s):findD ds s=i:=
 idxI_some hi (by grind) λj a=>decide_eq_false (b j a)
theorem findD_none {ds:List Dcl} {s:ByteArray} (b:∀j,j<ds.length->(ds.getD j (nada,0)).1≠s):findD ds s= -1:=
 Kj λj a=>decide_eq_false (b j a)
theorem decl_iff {ds:List Dcl}:declOk ds=true↔ds.length<=4/\(∀i,i<ds.length->dclOk ds i=true)/\bits ds<=8:=by
 grind [declOk]
theorem take_getD {α:Type} {l:List α} {i j:Nat} {d:α} (h:j<i):(l.take i).getD j d=l.getD j d:=by
 grind
theorem dcl_apart {ds:List Dcl} (h:declOk ds=true) {i j:Nat} (hi:i<ds.length) (b:j<i):(ds.getD j (nada,0)).1≠(ds.getD i (nada,0)).1:=by
 have:=(decl_iff.1 h).2.1 i hi;simp only[dclOk,K3,decide_eq_true_eq] at this;have a:=findD_neg this.2 (j:=j) (by rw[V0];omega);rwa[take_getD b] at a
def bitT (ds:List Dcl) (i:Nat):Int:=((ds.take i).map (·.2)).sum
theorem bitT_succ {ds:List Dcl} {i:Nat} (h:i<ds.length):bitT ds (i+1)=bitT ds i+(ds.getD i (nada,0)).2:=by
 grind [bitT,List.take_add_one]
theorem bitT_all (ds:List Dcl):bitT ds ds.length=bits ds:=by unfold bitT bits;grind
theorem dcl_wide {ds:List Dcl} (h:declOk ds=true) {i:Nat} (hi:i<ds.length):1<=(ds.getD i (nada,0)).2/\(ds.getD i (nada,0)).2<=4:=by
 simp_all[declOk,dclOk]
theorem env_ok {ds:List Dcl} {env:List Int} (h:envOk ds env=true):declOk ds=true/\env.length=ds.length/\∀i,i<ds.length->vok (ds.getD i (nada,0)).2 (env.getD i 0)=true:=by
 grind [envOk]
def sizeM:Tm->Nat:=Tm.fold λ_ xs=>1+xs.sum
def deepM:Tm->Nat:=Tm.fold λ_ xs=>1+xs.foldl max 0
theorem sizeM_eq (t:Tm):sizeM t=1+(t.ks.map sizeM).sum:=Tm.fold_eq _ t
theorem Y9 (t:Tm):deepM t=1+(t.ks.map deepM).foldl max 0:=Tm.fold_eq _ t
def szT (ks:List Tm) (i:Nat):Nat:=((ks.take i).map sizeM).sum
def dpT (ks:List Tm) (i:Nat):Nat:=((ks.take i).map deepM).foldl max 0
theorem take_add {α:Type} {l:List α} {i:Nat} (h:i<l.length) (d:α):l.take (i+1)=l.take i++[l.getD i d]:=by
 simp_all
theorem szT_succ {ks:List Tm} {i:Nat} (h:i<ks.length):szT ks (i+1)=szT ks i+sizeM (ks.getD i default):=by
 grind [szT,take_add]
theorem dpT_succ {ks:List Tm} {i:Nat} (h:i<ks.length):dpT ks (i+1)=max (dpT ks i) (deepM (ks.getD i default)):=by
 grind [dpT,take_add]
theorem szT_all (t:Tm):sizeM t=1+szT t.ks t.ks.length:=by rw[sizeM_eq,szT,gq]
theorem dpT_all (t:Tm):deepM t=1+dpT t.ks t.ks.length:=by rw[Y9,dpT,gq]
theorem szT_mono {ks:List Tm} {i:Nat}:∀{j:Nat},i<=j->j<=ks.length->szT ks i<=szT ks j
 |0,h,_=>by
  grind
 |j+1,h,a=>by
  by_cases e:i=j+1
  ·grind
  ·have:=szT_mono (ks:=ks) (i:=i) (j:=j) oM oM;rw[szT_succ oM];omega
theorem dpT_mono {ks:List Tm} {i:Nat}:∀{j:Nat},i<=j->j<=ks.length->dpT ks i<=dpT ks j
 |0,h,_=>by
  grind
 |j+1,h,a=>by
  by_cases e:i=j+1
  ·grind
  ·have:=dpT_mono (ks:=ks) (i:=i) (j:=j) oM oM;rw[dpT_succ oM];omega
def fits (t:Tm):Bool:=decide (sizeM t<=20)&&decide (deepM t<=7)
theorem fits_iff {t:Tm}:fits t=true↔sizeM t<=20/\deepM t<=7:=by simp[fits]
def manyM (t:Tm):Nat:=if fits t then sizeM t else 21
def lvlM (t:Tm):Nat:=if fits t then deepM t else 8
def arity (o:Int):Int:=if o=20\/o=21\/o=24 then 0 else if o=1\/o=2\/o=22\/o=25 then 1 else if o=23 then 3 else if o=26\/o=27 then 2 else if 3<=o/\o<=17 then 2 else-1
def plainM (t:Tm):Bool:=(decide (t.op=20)||decide (t.op=22)||(decide (t.a=0)&&decide (t.b=0)))&&(decide (t.op=21)||decide (t.s=nada))
def sortK (ds:List Dcl) (t:Tm) (xs:List Int):Int:=
 if t.op=20 then(if vok t.a t.b then t.a else-1)
 else if t.op=21 then(if findD ds t.s<0 then-1 else(ds.getD (findD ds t.s).toNat (nada,0)).2)
 else if 24<=t.op then(if xs.any (λx=>decide (x≠0)) then-1 else 0)
 else if t.op=23 then(if xs.getD 0 0=0/\xs.getD 1 0=xs.getD 2 0 then xs.getD 1 0 else-1)
 else if t.op=22 then(if 0<=t.b/\t.b<=t.a/\t.a<xs.getD 0 0 then t.a-t.b+1 else-1)
 else if t.op<=2 then(if 0<xs.getD 0 0 then xs.getD 0 0 else-1)
 else if t.op=14 then(if 0<xs.getD 0 0/\0<xs.getD 1 0/\xs.getD 0 0+xs.getD 1 0<=4 then xs.getD 0 0+xs.getD 1 0 else-1)
 else if 15<=t.op then(if 0<xs.getD 0 0/\xs.getD 0 0=xs.getD 1 0 then 0 else-1)
 else(if 0<xs.getD 0 0/\xs.getD 0 0=xs.getD 1 0 then xs.getD 0 0 else-1)
def formed (t:Tm):Bool:=decide (arity t.op=t.ks.length)&&plainM t
def sortF (ds:List Dcl) (t:Tm) (xs:List Int):Int:=if formed t=true/\¬(-1∈xs) then sortK ds t xs else-1
def sortM (ds:List Dcl):Tm->Int:=Tm.fold (sortF ds)
theorem sortM_eq (ds:List Dcl) (t:Tm):sortM ds t=sortF ds t (t.ks.map (sortM ds)):=Tm.fold_eq _ t
theorem arity_ops {o:Int} (h:0<=arity o):(1<=o/\o<=17)\/(20<=o/\o<=27):=by
 grind [arity]
theorem getD_map {α β:Type} (f:α->β) {l:List α} {i:Nat} (h:i<l.length) (d:β) (e:α):(l.map f).getD i d=f (l.getD i e):=by
 grind
theorem getD_mem {α:Type} {l:List α} {i:Nat} (h:i<l.length) (d:α):l.getD i d∈l:=by
 grind
theorem sort_parts {ds:List Dcl} {t:Tm} (h:sortM ds t≠ -1):formed t=true/\(∀k,k∈t.ks->sortM ds k≠ -1)/\sortM ds t=sortK ds t (t.ks.map (sortM ds)):=by
 rw[sortM_eq] at h⊢
 grind [sortF]
theorem sort_range {ds:List Dcl} (c:declOk ds=true):∀t,-1<=sortM ds t/\sortM ds t<=4:=by
 refine Tm.ind λt k=>?_;rw[sortM_eq];unfold sortF;split
 ·rename_i j;have a:∀i,-1<=(t.ks.map (sortM ds)).getD i 0/\(t.ks.map (sortM ds)).getD i 0<=4:=(by grind);have f:=a 0;have g:=a 1;have h:=a 2;have b:=arity_ops (o:=t.op) (by
   grind [formed])
  unfold sortK;split
  ·split
   ·rename_i e;have:=vok_lt e;omega
   ·omega
  ·split
   ·have d:=findD_lt ds t.s;split
    ·omega
    ·have:=dcl_wide c (i:=(findD ds t.s).toNat) oM;omega
   omega
 ·omega
def tsort (ds:List Dcl) (t:Tm):Int:=if fits t=true/\declOk ds=true then sortM ds t else-1
def b2i (b:Bool):Int:=if b then 1 else 0
def valK (ds:List Dcl) (env:List Int) (t:Tm) (xs:List (Int×Int)):Int:=
 if t.op=20 then t.b
 else if t.op=21 then env.getD (findD ds t.s).toNat 0
 else if t.op=24 then 1
 else if t.op=25 then b2i (decide ((xs.getD 0 (0,0)).2=0))
 else if t.op=26 then b2i (decide ((xs.getD 0 (0,0)).2=1)&&decide ((xs.getD 1 (0,0)).2=1))
 else if t.op=27 then b2i (decide ((xs.getD 0 (0,0)).2=1)||decide ((xs.getD 1 (0,0)).2=1))
 else if t.op=23 then(if(xs.getD 0 (0,0)).2=1 then(xs.getD 1 (0,0)).2 else(xs.getD 2 (0,0)).2)
 else if t.op=22 then cutM (xs.getD 0 (0,0)).2 t.a t.b
 else if t.op<=2 then unM t.op (xs.getD 0 (0,0)).1 (xs.getD 0 (0,0)).2
 else if t.op=14 then catM (xs.getD 1 (0,0)).1 (xs.getD 0 (0,0)).2 (xs.getD 1 (0,0)).2
 else if 15<=t.op then b2i (cmpM t.op (xs.getD 0 (0,0)).1 (xs.getD 0 (0,0)).2 (xs.getD 1 (0,0)).2)
 else binM t.op (xs.getD 0 (0,0)).1 (xs.getD 0 (0,0)).2 (xs.getD 1 (0,0)).2
def vecF (ds:List Dcl) (env:List Int) (t:Tm) (xs:List (Int×Int)):Int×Int:=(sortF ds t (xs.map (·.1)),valK ds env t xs)
def vecM (ds:List Dcl) (env:List Int):Tm->Int×Int:=Tm.fold (vecF ds env)
def evalM (ds:List Dcl) (env:List Int) (t:Tm):Int:=(vecM ds env t).2
theorem qa0 (ds:List Dcl) (env:List Int) (t:Tm):vecM ds env t=vecF ds env t (t.ks.map (vecM ds env)):=Tm.fold_eq _ t
theorem vecM_sort (ds:List Dcl) (env:List Int):∀t,(vecM ds env t).1=sortM ds t:=by
 refine Tm.ind λt a=>?_;rw[qa0,sortM_eq];show sortF ds t _=_
 grind [List.map_congr_left]
theorem vecM_pair (ds:List Dcl) (env:List Int) (t:Tm):vecM ds env t=(sortM ds t,evalM ds env t):=by rw[<-vecM_sort ds env t];rfl
theorem evalM_eq (ds:List Dcl) (env:List Int) (t:Tm):evalM ds env t=valK ds env t (t.ks.map (vecM ds env)):=by
 unfold evalM;rw[qa0];rfl
def inS (w n:Int):Prop:=(w=0/\(n=0\/n=1))\/vok w n=true
theorem kr0 {b:Bool}:inS 0 (b2i b):=by left;cases b<;>simp[b2i]
theorem inS_zero {n:Int} (h:inS 0 n):n=0\/n=1:=by
 rcases h with h|h
 ·exact h.2
 ·exact absurd (vok_lt h).1 oM
theorem inS_pos {w n:Int} (h:inS w n) (hw:0<w):vok w n=true:=by
 rcases h with h|h
 ·omega
 ·exact h
theorem eval_in {ds:List Dcl} {env:List Int} (he:envOk ds env=true):∀t,sortM ds t≠ -1->inS (sortM ds t) (evalM ds env t):=by
 obtain⟨A,C,D⟩:=env_ok he;refine Tm.ind λt E h=>?_;obtain⟨r,B,hs⟩:=sort_parts h;rw[hs] at h;rw[hs,evalM_eq];simp only[formed,K3,decide_eq_true_eq] at r;obtain⟨x,z⟩:=r;have u:=arity_ops (o:=t.op) oM;have k:∀i,i<t.ks.length->(t.ks.map (sortM ds)).getD i 0=sortM ds (t.ks.getD i default):=by grind
 have l:∀i,i<t.ks.length->(t.ks.map (vecM ds env)).getD i (0,0)=(sortM ds (t.ks.getD i default),evalM ds env (t.ks.getD i default)):=by grind [getD_map,default,vecM_pair]
 have b:∀i,i<t.ks.length->inS (sortM ds (t.ks.getD i default)) (evalM ds env (t.ks.getD i default)):=by grind
 unfold sortK at h⊢;unfold valK;by_cases d:t.op=20
 ·simp only[d,if_true] at h⊢;split
  ·right;assumption
  grind
 simp only[if_neg d] at h⊢;by_cases f:t.op=21
 ·simp only[f,if_true] at h⊢;have y:=findD_lt ds t.s;split
  ·omega
  ·right;grind
 simp only[if_neg f] at h⊢;by_cases j:24<=t.op
 ·simp only[if_pos j] at h⊢;split
  ·grind
  ·rcases(by omega:t.op=24\/t.op=25\/t.op=26\/t.op=27) with e|e|e|e
   ·left;simp[e]
   ·simp only[e];exact kr0
   ·simp only[e];exact kr0
   ·simp only[e];exact kr0
 simp only[if_neg j,if_neg (show¬t.op=24 by omega),if_neg (show¬t.op=25 by omega),if_neg (show¬t.op=26 by omega),if_neg (show¬t.op=27 by omega)] at h⊢;by_cases n:t.op=23
 ·grind [arity]
 simp only[if_neg n] at h⊢;by_cases g:t.op=22
 ·simp only[g,if_true] at h⊢;have q:t.ks.length=1:=(by grind [arity]);rw[k 0 oM] at h⊢;rw[l 0 oM];split
  ·rename_i a;right;exact cut_ok (inS_pos (b 0 oM) oM) a.1 a.2.1 a.2.2
  omega
 simp only[if_neg g] at h⊢;by_cases p:t.op<=2
 ·simp only[if_pos p] at h⊢;have q:t.ks.length=1:=by
   grind [arity]
  rw[k 0 oM] at h⊢;rw[l 0 oM];split
  ·rename_i a;right
   grind [unM_ok,inS_pos]
  omega
 simp only[if_neg p] at h⊢;have q:t.ks.length=2:=by
  grind [arity]
 have v:=k 0 oM;have w:=k 1 oM;rw[v,w] at h⊢;rw[l 0 oM,l 1 oM];have i0:=b 0 oM;have i1:=b 1 oM;by_cases c:t.op=14
 ·simp only[c,if_true] at h⊢;split
  ·rename_i a;right;exact cat_ok (inS_pos i0 a.1) (inS_pos i1 a.2.1) a.2.2
  omega
 simp only[if_neg c] at h⊢;by_cases m:15<=t.op
 ·grind [kr0]
 simp only[if_neg m] at h⊢;split
 ·rename_i a;right
  grind [binM_ok,inS_pos]
 omega
end Go.M
namespace Go.Vc
open Go Go.M
section
section
variable {F F' S:Nat->Prop} {w w':World} {K:oK} {k:Nat} {v:Value} {xs:List (List Value)}
theorem Sl.ldAgg (h:Sl F w k v xs) {t:TypeId} (b:aggB t k=true) {i:Nat} (hi:i<xs.length):zu t (.pointer (some (eaddr v k i))) w K=K (.agg ⟨xs.getD i []⟩) w:=by
 have a:(xs.getD i []).length=k:=h.wide _ (M.getD_mem hi _);exact Xl (by rw[a];exact b) (Sl.cells h hi)
theorem Sl.ldField (h:Sl F w k v xs) {t:TypeId} (a:oneB t=true) {i j:Nat} {x:Value} (hi:i<xs.length) (b:(xs.getD i [])[j]?=some x):zu t (.pointer (some ((eaddr v k i).add j))) w K=K x w:=
 y6 a (Sl.cells h hi j x b)
theorem Sl.small (h:Sl F w k v xs):xs.length<=9223372036854775807:=by
 obtain⟨_,_,_,a,b,_⟩:=h.shape;omega
end
inductive TmR (F:Nat->Prop) (w:World):List Value->Tm->Prop
 |mk {o a b:Int} {s:ByteArray} {ks:List Tm} {kv:Value} {css:List (List Value)}:Sl F w 5 kv css->css.length=ks.length->(∀i,i<ks.length->TmR F w (css.getD i []) (ks.getD i default))->
  TmR F w [nI o,nI a,nI b,.string s,kv] (.mk o a b s ks)
def TmsR (F:Nat->Prop) (w:World) (kv:Value) (ks:List Tm):Prop:= ∃css:List (List Value),Sl F w 5 kv css/\css.length=ks.length/\∀i,i<ks.length->TmR F w (css.getD i []) (ks.getD i default)
def TermR (F:Nat->Prop) (w:World) (v:Value) (t:Tm):Prop:= ∃kv,v= .agg ⟨[nI t.op,nI t.a,nI t.b,.string t.s,kv]⟩/\TmsR F w kv t.ks
def DclsR (F:Nat->Prop) (w:World) (v:Value) (ds:List Dcl):Prop:=Sl F w 2 v (ds.map λd=>[.string d.1,nI d.2])
section
variable {F F' S:Nat->Prop} {w w':World} {K:oK} {v:Value} {cs:List Value} {t:Tm} {ks:List Tm} {ds:List Dcl}
theorem TmR.same (h:TmR F w cs t) (hw:Same S w w') (hs:∀b,F b->b<w.heap.size->¬S b):TmR F w' cs t:=by
 induction h with
 |mk a c e d=>exact .mk (a.same hw hs) c d
theorem TmR.ext (h:TmR F w cs t) (hw:Ext w w'):TmR F w' cs t:=h.same hw λ_ _ _ h=>h
theorem TmR.weaken (h:TmR F w cs t) (d:∀b,F b->b<w.heap.size->F' b):TmR F' w cs t:=by
 induction h with
 |mk a c f e=>exact .mk (a.weaken d) c e
theorem TmR.inv (h:TmR F w cs t):∃kv,cs=[nI t.op,nI t.a,nI t.b,.string t.s,kv]/\TmsR F w kv t.ks:=by
 cases h with
 |mk c d e=>exact⟨_,rfl,_,c,d,e⟩
theorem TmR.of {kv:Value} (h:TmsR F w kv t.ks):TmR F w [nI t.op,nI t.a,nI t.b,.string t.s,kv] t:=by
 obtain⟨css,c,d,e⟩:=h;cases t with
 |mk o a b s ks=>exact .mk c d e
theorem TmR.term (h:TmR F w cs t):TermR F w (.agg ⟨cs⟩) t:=by
 obtain⟨kv,rfl,a⟩:=h.inv;exact⟨kv,rfl,a⟩
theorem TermR.cells (h:TermR F w v t):∃cs,v= .agg ⟨cs⟩/\TmR F w cs t:=by
 obtain⟨kv,rfl,a⟩:=h;exact⟨_,rfl,TmR.of a⟩
theorem TmsR.same (h:TmsR F w v ks) (hw:Same S w w') (hs:∀b,F b->b<w.heap.size->¬S b):TmsR F w' v ks:=by
 obtain⟨css,a,c,d⟩:=h;exact⟨css,a.same hw hs,c,λi hi=>(d i hi).same hw hs⟩
theorem TmsR.ext (h:TmsR F w v ks) (hw:Ext w w'):TmsR F w' v ks:=h.same hw λ_ _ _ h=>h
theorem TmsR.weaken (h:TmsR F w v ks) (a:∀b,F b->b<w.heap.size->F' b):TmsR F' w v ks:=by
 obtain⟨css,c,d,e⟩:=h;exact⟨css,c.weaken a,d,λi hi=>(e i hi).weaken a⟩
theorem TermR.same (h:TermR F w v t) (hw:Same S w w') (hs:∀b,F b->b<w.heap.size->¬S b):TermR F w' v t:=by
 obtain⟨kv,a,c⟩:=h;exact⟨kv,a,c.same hw hs⟩
theorem TermR.ext (h:TermR F w v t) (hw:Ext w w'):TermR F w' v t:=h.same hw λ_ _ _ h=>h
theorem TermR.weaken (h:TermR F w v t) (d:∀b,F b->b<w.heap.size->F' b):TermR F' w v t:=by
 obtain⟨kv,a,c⟩:=h;exact⟨kv,a,c.weaken d⟩
theorem TmsR.small (h:TmsR F w v ks):ks.length<=9223372036854775807:=by
 obtain⟨css,a,b,c⟩:=h;rw[<-b];exact a.small
theorem TmsR.len (h:TmsR F w v ks) {t:TypeId} (c:isSl t=true) (ty:TypeId):vbi .len [t] ty [v] w' K=K (nI ks.length) w':=by
 obtain⟨css,a,b,d⟩:=h;have:=Sl.len (K:=K) (w':=w') a c ty;rwa[b] at this
theorem TmsR.iaddr (h:TmsR F w v ks) {t:TypeId} (e:elB t 5=true) {kd:IntKind} {i:Int} (b:0<=i) (c:i<ks.length):
  zU t v (.int kd i) w' K=K (.pointer (some (eaddr v 5 i.toNat))) w':=by
 obtain⟨css,a,d,f⟩:=h;exact Sl.iaddr a e b (by rw[d];exact c)
theorem TmsR.load (h:TmsR F w v ks) {t:TypeId} (d:aggB t 5=true) {i:Nat} (hi:i<ks.length) (c:∀x,TermR F w x (ks.getD i default)->K x w):zu t (.pointer (some (eaddr v 5 i))) w K:=by
 obtain⟨css,a,e,b⟩:=h;rw[a.ldAgg d oM];exact c _ (b i hi).term
theorem TmsR.nil:TmsR F w (.slice none 0 0) []:=⟨[],⟨⟨none,0,rfl,by simp,by simp,by simp⟩,by simp⟩,rfl,by simp⟩
theorem DclsR.ext (h:DclsR F w v ds) (hw:Ext w w'):DclsR F w' v ds:=Sl.ext h hw
theorem DclsR.weaken (h:DclsR F w v ds) (a:∀b,F b->b<w.heap.size->F' b):DclsR F' w v ds:=Sl.weaken h a
theorem DclsR.len (h:DclsR F w v ds) {t:TypeId} (a:isSl t=true) (ty:TypeId):vbi .len [t] ty [v] w' K=K (nI ds.length) w':=by
 have:=Sl.len (K:=K) (w':=w') h a ty;rwa[y1] at this
theorem DclsR.iaddr (h:DclsR F w v ds) {t:TypeId} (c:elB t 2=true) {kd:IntKind} {i:Int} (a:0<=i) (b:i<ds.length):
  zU t v (.int kd i) w' K=K (.pointer (some (eaddr v 2 i.toNat))) w':=Sl.iaddr h c a (by rw[y1];exact b)
theorem UB {i:Nat} (hi:i<ds.length):(ds.map λd=>[Value.string d.1,nI d.2]).getD i []=[.string (ds.getD i (nada,0)).1,nI (ds.getD i (nada,0)).2]:=M.getD_map _ hi _ _
theorem DclsR.load (h:DclsR F w v ds) {t:TypeId} (a:aggB t 2=true) {i:Nat} (hi:i<ds.length):zu t (.pointer (some (eaddr v 2 i))) w K=K (.agg ⟨[.string (ds.getD i (nada,0)).1,nI (ds.getD i (nada,0)).2]⟩) w:=by
 rw[Sl.ldAgg h a (by rw[y1];exact hi),UB hi]
theorem DclsR.load0 (h:DclsR F w v ds) {t:TypeId} (a:oneB t=true) {i:Nat} (hi:i<ds.length):zu t (.pointer (some ((eaddr v 2 i).add 0))) w K=K (.string (ds.getD i (nada,0)).1) w:=
 Sl.ldField h a (by rw[y1];exact hi) (by rw[UB hi];rfl)
theorem DclsR.load1 (h:DclsR F w v ds) {t:TypeId} (a:oneB t=true) {i:Nat} (hi:i<ds.length):zu t (.pointer (some ((eaddr v 2 i).add 1))) w K=K (nI (ds.getD i (nada,0)).2) w:=
 Sl.ldField h a (by rw[y1];exact hi) (by rw[UB hi];rfl)
theorem DclsR.small (h:DclsR F w v ds):ds.length<=9223372036854775807:=by have:=Sl.small h;simpa using this
theorem Sl.base {k:Nat} {xs:List (List Value)} (h:Sl F w k v xs) (f:xs≠[]):∀a l c,v= .slice (some a) l c->∃b o,a=⟨b,o,none⟩:=by
 intro a l c e;obtain⟨i,c',rfl,_,_,g⟩:=h.shape;obtain⟨b,o,rfl,_⟩:=g f
 injection e with d j m
 injection d with d
 exact⟨b,o,d.symm⟩
theorem Sl.taken {k:Nat} {xs:List (List Value)} (h:Sl F w k v xs) {n:Nat} (t:n<=xs.length):Sl F w k (cutV v n) (xs.take n):=by
 obtain⟨a,c,rfl,s,m,q⟩:=h.shape;have l:(xs.take n).length=n:=by rw[V0];omega
 refine⟨⟨a,c,by rw[l];rfl,oM,m,λj=>?_⟩,λx r=>h.wide x (gU r)⟩;have f:xs≠[]:=λe=>j (by rw[e,List.take_nil]);obtain⟨b,o,e,p,g,d⟩:=q f;refine⟨b,o,e,p,g,λi hi=>?_⟩;rw[l] at hi;rw[M.take_getD hi];exact d i oM
theorem DclsR.cut (h:DclsR F w v ds) (a:ds≠[]) {t:TypeId} (c:elB t 2=true) {kd:IntKind} {n:Nat} (b:n<=ds.length):xq t v none (some (.int kd n)) none w' K=K (cutV v n) w':=
 Sl.cut h (Sl.base h (by simpa using a)) c (by rw[y1];exact b)
theorem DclsR.taken (h:DclsR F w v ds) {n:Nat} (a:n<=ds.length):DclsR F w (cutV v n) (ds.take n):=by
 unfold DclsR;rw[Gw];exact Sl.taken h (by rw[y1];exact a)
theorem Blk.sl1k {b k:Nat} {cs:List Value} {e:TypeId} (h:Blk w b cs e) (d:cs.length=k):Sl (· =b) w k (.slice (some ⟨b,0,none⟩) 1 1) [cs]:=by
 refine⟨⟨_,1,rfl,gp _,dC,λ_=>⟨b,0,rfl,rfl,h.lt,λi hi j v c=>?_⟩⟩,by simp[d]⟩;have a:i=0:=by simpa using hi
 subst a;rw[yw];simp only[PB,gN,GM];exact h.cell c
theorem Own.app1k {bs ty b k:Nat} {t e:TypeId} {xs:List (List Value)} {y:List Value} (h:Own 0 k t w v xs) (g:elZ t k bs=true) (j:0<k) (i:Blk w b y e) (l:y.length=k) (a:∀c,c∈y->c.oneCell'=true)
  (d:xs.length<9223372036854775807) (hlen:(xs.length+1)*bs<=140737488355328)
  (f:∀v' w',Own 0 k t w' v' (xs++[y])->Same (λb=>v.ownBlock=some b) w w'->(∀b,v'.ownBlock=some b->v.ownBlock=some b\/w.heap.size<=b)->K v' w'):vbi .append [t,t] ty [v,.slice (some ⟨b,0,none⟩) 1 1] w K:=
 vappend (F:=(· =b)) g j h (i.sl1k l) (by simpa using a) oM (by rw[gO];omega) (by simpa using hlen) f
theorem qC {t e k:Nat} {z x:Value} {y:List Value} (hu:P.underlying t=some (.slice e)) (l:qm e k=true) (hzero:yi e z) (i:x.cells=⟨y⟩) (j:y.length=k) (h:k<=16777216)
  (g:∀b w',b=w.heap.size->Ext w w'->w'.heap.size=w.heap.size+1->Blk w' b y e->K (.slice (some ⟨b,0,none⟩) 1 1) w'):vbuildS t 1 [(0,x)] w K:=by
 refine vbuildS_row (xs:=[x]) (us:=[y]) hu l hzero (by simp[i]) (by simp[j]) (by simpa using h) λb w' a c d f=>g b w' a c d (by simpa using f)
theorem Blk.ownk {b k n:Nat} {t:TypeId} {css:List (List Value)} (h:Blk w b css.flatten (ZU t)) (hw:∀x,x∈css->x.length=k) (c:n=css.length) (hm:n<=9223372036854775807):Own 0 k t w (.slice (some ⟨b,0,none⟩) n n) css:=by
 subst c;have a:=flatten_len hw;refine⟨⟨by rw[a],.inr ⟨b,css.length,⟨css.flatten⟩,by simp,gM _,h,gp _,by simpa[maxLen] using hm,by simpa using a,?_⟩⟩,hw⟩;show List.take (css.length*k) css.flatten=css.flatten;rw[<-a,gq]
theorem flatten_set {k:Nat}:∀{xs:List (List Value)} (_:∀x,x∈xs->x.length=k) {i j:Nat} (u:Value),i<xs.length->j<k->xs.flatten.set (i*k+j) u=(xs.set i ((xs.getD i []).set j u)).flatten
 |[],_,i,j,u,hi,_=>by simp at hi
 |x::r,h,i,j,u,hi,a=>by
  have c:=h x gd;cases i with
  |zero=>
   rw[PB,gN];simp only[Gz,G2,pG];rw[List.set_append_left _ _ oM]
  |succ i=>
   simp only[Gz,Pp,pc];rw[po _ _ (by rw[GP];omega)];congr 1;have e:(i+1)*k+j-x.length=i*k+j:=by rw[GP];omega
   rw[e,flatten_set (λy b=>h y (gh _ b)) u (by simpa using hi) a]
theorem Own.stCell {k:Nat} {t e:TypeId} {xs:List (List Value)} {x:Value} (h:Own 0 k t w v xs) (E:x.cells= #[x]) (o:x.oneCell'=true) (G:qm e 1=true) {i j:Nat} (hi:i<xs.length) (C:j<k)
  (p:∀w',Own 0 k t w' v (xs.set i ((xs.getD i []).set j x))->Same (λb=>v.ownBlock=some b) w w'->w'.heap.size=w.heap.size->K undef w'):zR e (.pointer (some ((eaddr v k i).add j))) x w K:=by
 rcases h.row.2 with⟨rfl,I⟩|⟨g,cap,cur,rfl,s,H,D,z,A,n⟩
 ·omega
 ·have a:=h.row;have d:i*k+j<xs.length*k:=by
   have:i*k+k<=xs.length*k:=by rw[<-Nat.succ_mul];exact pB _ hi
   omega
  have u:=World.ownsRow.cellAt a (i*k+j) d;have B:=World.ownsRow.frozenAt a (i*k+j);obtain⟨l,m⟩:=World.ownsRow.stored a (i*k+j) x;have f:(xs.getD i []).length=k:=h.wide _ (M.getD_mem hi _);have c:w.cell? ⟨g,i*k+j,none⟩=some (xs.flatten.getD (i*k+j) undef):=by
   rw[u];have:i*k+j<xs.flatten.length:=by rw[flatten_len h.wide];exact d
   rw[y0,y4 this];rfl
  have r:(⟨g,i*k+j,none⟩:Addr).add 0=⟨g,i*k+j,none⟩:=rfl;have he:(eaddr (.slice (some ⟨g,0,none⟩) xs.length cap) k i).add j=⟨g,i*k+j,none⟩:=by
   simp only[eaddr];rw[yw];simp
  rw[he];refine⟨(),w.setCell ⟨g,i*k+j,none⟩ x,?_,p _ ?_ (Same.of_grown m) (by simp)⟩
  ·simp only[Instr.storeAt,Instr.sureAddr,Sem.run_bind,Sem.run_pure,Result.andThen_ok,storeVar,run_sizeOf G,E];cases x<;>first|(cases o;done)|simp[storeCells,store,Sem.run,r,c,B]
  ·refine⟨?_,λy F=>?_⟩
   ·rw[<-flatten_set h.wide x hi C];simpa using l
   ·obtain⟨q,J,rfl⟩:=gj F;rw[G0];split
    ·rw[gB];exact f
    ·exact h.wide _ (GZ _)
def PairsR (F:Nat->Prop) (w:World) (v:Value) (xs:List (Int×Int)):Prop:=Sl F w 2 v (xs.map λx=>[nI x.1,nI x.2])
def OwnP (t:TypeId) (w:World) (v:Value) (xs:List (Int×Int)):Prop:=Own 0 2 t w v (xs.map λx=>[nI x.1,nI x.2])
variable {xs:List (Int×Int)}
theorem PairsR.ext (h:PairsR F w v xs) (hw:Ext w w'):PairsR F w' v xs:=Sl.ext h hw
theorem PairsR.iaddr (h:PairsR F w v xs) {t:TypeId} (c:elB t 2=true) {kd:IntKind} {i:Int} (a:0<=i) (b:i<xs.length):
  zU t v (.int kd i) w' K=K (.pointer (some (eaddr v 2 i.toNat))) w':=Sl.iaddr h c a (by rw[y1];exact b)
theorem PairsR.load (h:PairsR F w v xs) {t:TypeId} (a:aggB t 2=true) {i:Nat} (hi:i<xs.length):zu t (.pointer (some (eaddr v 2 i))) w K=K (.agg ⟨[nI (xs.getD i (0,0)).1,nI (xs.getD i (0,0)).2]⟩) w:=by
 rw[Sl.ldAgg h a (by rw[y1];exact hi),M.getD_map _ hi _ (0,0)]
theorem PairsR.load1 (h:PairsR F w v xs) {t:TypeId} (a:oneB t=true) {i:Nat} (hi:i<xs.length):zu t (.pointer (some ((eaddr v 2 i).add 1))) w K=K (nI (xs.getD i (0,0)).2) w:=
 Sl.ldField h a (by rw[y1];exact hi) (by rw[M.getD_map _ hi _ (0,0)];rfl)
theorem OwnP.pairs {t:TypeId} (h:OwnP t w v xs):PairsR (λb=>v.ownBlock=some b) w v xs:=Own.sl h
theorem OwnP.ext {t:TypeId} (h:OwnP t w v xs) (hw:Ext w w'):OwnP t w' v xs:=Own.ext h hw
theorem OwnP.nil (t:TypeId):OwnP t w (.slice none 0 0) []:=Own.nil 0 2 t w
end
end
end Go.Vc
namespace Go.Proofs.YtolbhkcajhlllaaGreatDoor
open Go Go.Vc Go.Proofs
theorem mixed:P.follows .mixedOrders=true:=rK
abbrev YT:Nat:=3
abbrev KY:Nat:=6
abbrev KX:Nat:=7
abbrev zz0:Nat:=8
abbrev YG:Nat:=9
abbrev YF:Nat:=10
abbrev zF0:Nat:=11
abbrev WN:Nat:=12
abbrev V3:Nat:=13
abbrev KZ:Nat:=14
abbrev J6:Nat:=15
abbrev J5:Nat:=16
abbrev JW:Nat:=17
abbrev JX:Nat:=18
abbrev WK:Nat:=19
abbrev Xz:Nat:=21
abbrev WM:Nat:=23
abbrev Kb:Nat:=27
abbrev WL:Nat:=28
abbrev z40:Nat:=29
abbrev KI:Nat:=30
abbrev WJ:Nat:=31
abbrev WR:Nat:=32
abbrev WO:Nat:=33
abbrev Zz:Nat:=34
abbrev K8:Nat:=39
abbrev K2:Nat:=40
abbrev QX:Nat:=41
abbrev XG:Nat:=42
abbrev WH:Nat:=43
abbrev JR:Nat:=44
abbrev z30:Nat:=45
abbrev KJ:Nat:=46
abbrev JM:Nat:=47
abbrev WQ:Nat:=48
abbrev qe:Nat:=49
abbrev Ka:Nat:=58
abbrev WY:Nat:=59
abbrev jG:Nat:=60
abbrev Vb:Nat:=61
abbrev Va:Nat:=62
abbrev V9:Nat:=63
abbrev V8:Nat:=64
abbrev Qq:Nat:=65
abbrev Wy:Nat:=66
abbrev Wz:Nat:=67
abbrev JT:Nat:=68
abbrev Wx:Nat:=69
abbrev Wj:Nat:=70
abbrev ym0:Nat:=71
abbrev zh0:Nat:=72
abbrev Wv:Nat:=73
abbrev zk0:Nat:=74
abbrev Xw:Nat:=75
abbrev JU:Nat:=76
abbrev jR:Nat:=77
abbrev jk:Nat:=78
abbrev qE:Nat:=79
abbrev qY:Nat:=80
abbrev zt0:Nat:=83
abbrev zB0:Nat:=87
abbrev KH:Nat:=88
abbrev xN:Nat:=89
abbrev qv0:Nat:=90
abbrev QW:Nat:=91
abbrev YW:Nat:=92
abbrev zu0:Nat:=93
abbrev KU:Nat:=94
abbrev zy0:Nat:=95
abbrev zr0:Nat:=96
abbrev WB:Nat:=97
abbrev Wi:Nat:=98
abbrev KK:Nat:=99
abbrev yn0:Nat:=100
abbrev zc0:Nat:=101
abbrev zd0:Nat:=102
abbrev Wp:Nat:=103
abbrev zo0:Nat:=104
abbrev JO:Nat:=105
abbrev WC:Nat:=106
abbrev K5:Nat:=107
abbrev qw0:Nat:=108
abbrev xn0:Nat:=109
abbrev Kc:Nat:=110
abbrev XD:Nat:=111
abbrev WU:Nat:=112
abbrev QV:Nat:=114
abbrev qc:Nat:=122
abbrev jU:Nat:=123
abbrev qR:Nat:=124
abbrev jr:Nat:=125
abbrev jt:Nat:=126
abbrev jT:Nat:=127
abbrev jf:Nat:=128
abbrev ju:Nat:=129
abbrev KW:Nat:=130
abbrev z00:Nat:=131
abbrev Wh:Nat:=132
abbrev Wk:Nat:=133
abbrev ze0:Nat:=134
abbrev yo0:Nat:=135
abbrev za0:Nat:=136
abbrev zf0:Nat:=137
abbrev Wo:Nat:=138
abbrev Wl:Nat:=139
abbrev Wm:Nat:=140
abbrev z90:Nat:=141
abbrev zb0:Nat:=142
abbrev KL:Nat:=143
abbrev KM:Nat:=144
abbrev zp0:Nat:=145
abbrev WA:Nat:=146
abbrev Ww:Nat:=147
abbrev KQ:Nat:=148
abbrev zn0:Nat:=149
abbrev Xy:Nat:=150
abbrev YD:Nat:=151
abbrev JP:Nat:=152
abbrev xM:Nat:=153
abbrev xo0:Nat:=154
abbrev Qp:Nat:=155
abbrev X3:Nat:=156
abbrev ko:Nat:=157
abbrev V6:Nat:=159
abbrev JZ:Nat:=160
abbrev XE:Nat:=161
abbrev WS:Nat:=162
abbrev Z7:Nat:=163
abbrev zA0:Nat:=168
abbrev Jc:Nat:=169
abbrev K4:Nat:=170
abbrev XF:Nat:=171
abbrev kH:Nat:=172
abbrev qu0:Nat:=173
abbrev WT:Nat:=174
abbrev K9:Nat:=175
abbrev zC0:Nat:=176
abbrev zv0:Nat:=177
abbrev zi0:Nat:=178
abbrev z80:Nat:=179
abbrev z60:Nat:=180
abbrev Wn:Nat:=181
abbrev J4:Nat:=182
abbrev yq0:Nat:=183
abbrev KR:Nat:=184
abbrev yp0:Nat:=185
abbrev JS:Nat:=186
abbrev KT:Nat:=187
abbrev KP:Nat:=188
abbrev Wr:Nat:=189
abbrev JN:Nat:=190
abbrev zj0:Nat:=191
abbrev KN:Nat:=192
abbrev Wt:Nat:=193
abbrev KO:Nat:=194
abbrev Zy:Nat:=195
abbrev V4:Nat:=196
abbrev Z4:Nat:=197
abbrev X4:Nat:=198
abbrev jl:Nat:=199
abbrev k5:Nat:=200
abbrev zE0:Nat:=201
abbrev Qn:Nat:=202
abbrev ZC:Nat:=203
abbrev Ye:Nat:=204
abbrev Yf:Nat:=205
abbrev ZB:Nat:=206
abbrev Ja:Nat:=210
abbrev qQ:Nat:=211
abbrev KF:Nat:=212
abbrev kj:Nat:=213
abbrev QU:Nat:=214
abbrev zg0:Nat:=215
abbrev zq0:Nat:=216
abbrev WE:Nat:=217
abbrev zx0:Nat:=218
abbrev WF:Nat:=219
abbrev WG:Nat:=220
abbrev Wu:Nat:=221
abbrev Wq:Nat:=222
abbrev Ws:Nat:=223
abbrev Xx:Nat:=224
abbrev zm0:Nat:=225
abbrev qt:Nat:=226
abbrev J8:Nat:=227
abbrev XC:Nat:=228
abbrev YH:Nat:=229
abbrev j5:Nat:=230
abbrev YC:Nat:=231
abbrev JY:Nat:=232
abbrev ZG:Nat:=233
abbrev qd:Nat:=234
abbrev ZF:Nat:=235
abbrev Qr:Nat:=236
abbrev ku:Nat:=237
abbrev Zl:Nat:=238
abbrev y40:Nat:=239
abbrev Qo:Nat:=240
abbrev jd:Nat:=241
abbrev Z6:Nat:=242
abbrev XB:Nat:=243
abbrev YV:Nat:=244
abbrev Yd:Nat:=245
abbrev Qm:Nat:=246
abbrev WI:Nat:=251
abbrev zs0:Nat:=252
abbrev JQ:Nat:=253
abbrev zw0:Nat:=254
abbrev zl0:Nat:=255
abbrev kI:Nat:=256
abbrev WP:Nat:=257
abbrev xV:Nat:=261
abbrev jY:Nat:=262
abbrev yr0:Nat:=263
abbrev Z8:Nat:=264
abbrev qF:Nat:=265
abbrev V7:Nat:=266
abbrev kp:Nat:=267
abbrev xW:Nat:=268
abbrev XK:Nat:=269
abbrev Qs:Nat:=270
abbrev XJ:Nat:=271
abbrev kq:Nat:=272
abbrev ZE:Nat:=273
abbrev Yh:Nat:=274
abbrev YY:Nat:=275
abbrev X2:Nat:=276
abbrev Yg:Nat:=277
abbrev YU:Nat:=278
abbrev jO:Nat:=279
abbrev XA:Nat:=280
abbrev ZA:Nat:=281
abbrev qp:Nat:=282
abbrev ZD:Nat:=283
abbrev Qt:Nat:=284
abbrev ke:Nat:=285
abbrev yI:Nat:=286
abbrev WD:Nat:=288
abbrev YE:Nat:=289
abbrev Jo:Nat:=290
abbrev JV:Nat:=293
abbrev J9:Nat:=294
abbrev qk:Nat:=295
abbrev X1:Nat:=296
abbrev XI:Nat:=297
abbrev XH:Nat:=298
abbrev YZ:Nat:=299
abbrev Kd:Nat:=300
abbrev VW:Nat:=304
abbrev Jn:Nat:=305
abbrev Ql:Nat:=306
abbrev J7:Nat:=307
abbrev xm0:Nat:=311
abbrev YX:Nat:=312
abbrev Yc:Nat:=313
abbrev jg:Nat:=314
abbrev yl:Nat:=353
abbrev yu:Nat:=354
abbrev kk:Nat:=355
abbrev jQ:Nat:=356
abbrev Z5:Nat:=357
abbrev zD0:Nat:=358
abbrev Vd:Nat:=359
abbrev V5:Nat:=360
abbrev jX:Nat:=361
abbrev jx:Nat:=362
abbrev WX:Nat:=363
abbrev K6:Nat:=364
abbrev xl:Nat:=365
abbrev xk:Nat:=366
abbrev xj:Nat:=367
abbrev xi:Nat:=368
abbrev xh:Nat:=369
abbrev xg:Nat:=370
abbrev xf:Nat:=371
abbrev K7:Nat:=372
abbrev xe:Nat:=373
abbrev xd:Nat:=374
abbrev xb:Nat:=375
abbrev xa:Nat:=376
abbrev Yi:Nat:=377
abbrev jW:Nat:=378
abbrev jw:Nat:=379
abbrev WW:Nat:=380
abbrev Jb:Nat:=381
abbrev jP:Nat:=382
abbrev jp:Nat:=383
abbrev jq:Nat:=384
abbrev je:Nat:=385
abbrev UN:Nat:=386
abbrev jV:Nat:=387
abbrev jv:Nat:=388
abbrev WV:Nat:=389
abbrev km:Nat:=390
abbrev jS:Nat:=391
abbrev jy:Nat:=392
abbrev jh:Nat:=393
abbrev UO:Nat:=394
abbrev jZ:Nat:=395
abbrev jz:Nat:=396
abbrev yM:Nat:=0
abbrev ji:Nat:=1
abbrev qq:Nat:=2
abbrev xP:Nat:=3
abbrev j7:Nat:=6
abbrev T_T_:Nat:=0
abbrev T_int64:Nat:=2
abbrev zC:Nat:=3
abbrev Y0:Nat:=4
abbrev Zf:Nat:=5
abbrev yp:Nat:=9
abbrev qi:Nat:=22
abbrev x7:Nat:=23
abbrev ze:Nat:=26
abbrev x8:Nat:=29
abbrev zl:Nat:=31
abbrev yH:Nat:=41
abbrev za:Nat:=45
abbrev xz:Nat:=50
abbrev xK:Nat:=57
abbrev xp:Nat:=59
abbrev zS:Nat:=70
abbrev ye:Nat:=73
abbrev zI:Nat:=75
abbrev zp:Nat:=77
abbrev y7:Nat:=84
abbrev xD:Nat:=85
abbrev yY:Nat:=87
abbrev xt:Nat:=89
abbrev qA:Nat:=104
abbrev zP:Nat:=106
abbrev zL:Nat:=107
abbrev zG:Nat:=108
abbrev zO:Nat:=109
abbrev zF:Nat:=110
abbrev zK:Nat:=111
abbrev zT:Nat:=112
abbrev xL:Nat:=113
abbrev Zg:Nat:=114
abbrev zz:Nat:=116
abbrev zh:Nat:=118
abbrev yU:Nat:=119
abbrev zH:Nat:=120
abbrev yB0:Nat:=122
abbrev zA:Nat:=126
abbrev zw:Nat:=128
abbrev zB:Nat:=130
abbrev zm:Nat:=135
abbrev qu:Nat:=138
abbrev zX:Nat:=158
abbrev yf:Nat:=160
abbrev zn:Nat:=172
abbrev yO:Nat:=178
abbrev VL:Nat:=180
abbrev yy:Nat:=182
abbrev zf:Nat:=220
abbrev yG:Nat:=222
abbrev yP:Nat:=223
abbrev ym:Nat:=225
abbrev Jl:Nat:=226
abbrev yK:Nat:=228
abbrev yx:Nat:=229
abbrev Js:Nat:=232
abbrev QO:Nat:=233
abbrev yA:Nat:=237
abbrev jO0:Nat:=238
abbrev zJ:Nat:=266
abbrev yb:Nat:=268
abbrev yd:Nat:=270
abbrev kB:Nat:=277
abbrev UK:Nat:=304
abbrev y30:Nat:=312
abbrev QP:Nat:=341
abbrev Zi0:Nat:=357
abbrev yT:Nat:=392
abbrev xc:Nat:=409
theorem xF:yi zC (nI 0):=by unfold yi;kernel_rfl
@[push_cast] theorem Wf:oneB zC=true:=rK
@[push_cast] theorem yR:qm zC 1=true:=rK
theorem QZ:xO0 zC .i64:=by unfold xO0;kernel_rfl
theorem UU:(P.underlying zC).isSome=true:=rK
theorem xW0:yi Y0 (.bool false):=by unfold yi;kernel_rfl
@[push_cast] theorem Yn0:oneB Y0=true:=rK
@[push_cast] theorem xX0:qm Y0 1=true:=rK
theorem jP0:yi Zf (.int .u8 0):=by unfold yi;kernel_rfl
@[push_cast] theorem Zk0:qm Zf 1=true:=rK
theorem ks0:xO0 Zf .u8:=by unfold xO0;kernel_rfl
theorem Xh:yi yp (.string ⟨#[]⟩):=by unfold yi;kernel_rfl
@[push_cast] theorem kg0:oneB yp=true:=rK
@[push_cast] theorem Y1:qm yp 1=true:=rK
theorem kO:P.underlying yp=some .string:=rK
theorem QS:P.underlying qi=some (.slice xK):=rK
@[push_cast] theorem Z30:isSl qi=true:=rK
@[push_cast] theorem Zf0:elB qi 2=true:=rK
@[push_cast] theorem Z70:oneB x7=true:=rK
theorem Zu:P.underlying x7=some (.slice yH):=rK
@[push_cast] theorem Z20:isSl x7=true:=rK
@[push_cast] theorem Ze0:elB x7 5=true:=rK
theorem W4:yi ze (.slice none 0 0):=by unfold yi;kernel_rfl
@[push_cast] theorem Yo0:oneB ze=true:=rK
@[push_cast] theorem j9:qm ze 1=true:=rK
@[push_cast] theorem xB:elZ ze 1 8=true:=rK
theorem xr:P.underlying ze=some (.slice zC):=rK
theorem qK:ZU ze=zC:=rK
@[push_cast] theorem Ym0:isSl ze=true:=rK
@[push_cast] theorem XW:elB ze 1=true:=rK
@[push_cast] theorem Z90:oneB x8=true:=rK
@[push_cast] theorem zK0:elZ x8 2 24=true:=rK
theorem Ux:ZU x8=xp:=rK
@[push_cast] theorem Z50:isSl x8=true:=rK
@[push_cast] theorem ZW:elB x8 2=true:=rK
@[push_cast] theorem QT:oneB zl=true:=rK
@[push_cast] theorem xG:qm zl 1=true:=rK
@[push_cast] theorem qy:elZ zl 5 64=true:=rK
theorem qw:P.underlying zl=some (.slice za):=rK
theorem jH:ZU zl=za:=rK
@[push_cast] theorem Z40:isSl zl=true:=rK
@[push_cast] theorem Zg0:elB zl 5=true:=rK
@[push_cast] theorem Xd:aggB yH 5=true:=rK
theorem zr:yi za (.agg #[(nI 0),(nI 0),(nI 0),(.string ⟨#[]⟩),(.slice none 0 0)]):=by unfold yi;kernel_rfl
theorem j0:strF za=some ([(0,1),(1,1),(2,1),(3,1),(4,1)],[(nI 0),(nI 0),(nI 0),(.string ⟨#[]⟩),(.slice none 0 0)]):=rK
@[push_cast] theorem zc:aggB za 5=true:=rK
@[push_cast] theorem qU:qm za 5=true:=rK
@[push_cast] theorem kp0:elZ xz 1 1=true:=rK
theorem Xp:P.underlying xz=some (.slice Zf):=rK
theorem j50:ZU xz=Zf:=rK
@[push_cast] theorem ZG0:aggB xK 2=true:=rK
theorem xY:yi xp (.agg #[(.string ⟨#[]⟩),(nI 0)]):=by unfold yi;kernel_rfl
@[push_cast] theorem Xe:aggB xp 2=true:=rK
@[push_cast] theorem UY:oneB zS=true:=rK
theorem Za:P.underlying zS=some (.map 3 122):=rK
theorem UJ:strF ye=some ([(0,1),(1,1)],[(.slice none 0 0),(.map none)]):=rK
@[push_cast] theorem xH:aggB ye 2=true:=rK
theorem jQ0:yi zI (.slice none 0 0):=by unfold yi;kernel_rfl
@[push_cast] theorem o_LLint:oneB zI=true:=rK
@[push_cast] theorem Q9:qm zI 1=true:=rK
@[push_cast] theorem ZR:elZ zI 1 24=true:=rK
theorem Qd:P.underlying zI=some (.slice ze):=rK
theorem Uz:ZU zI=ze:=rK
@[push_cast] theorem Zw0:isSl zI=true:=rK
@[push_cast] theorem ZK0:elB zI 1=true:=rK
theorem xn:yi zp (.agg #[(nI 0),(.slice none 0 0)]):=by unfold yi;kernel_rfl
theorem QM:strF zp=some ([(0,1),(1,1)],[(nI 0),(.slice none 0 0)]):=rK
@[push_cast] theorem zE:aggB zp 2=true:=rK
theorem xH0:strF y7=some ([(0,1),(1,1),(2,1),(3,2),(5,1)],[(.slice none 0 0),(.slice none 0 0),(.slice none 0 0),(nI 0),(.slice none 0 0),(.slice none 0 0)]):=rK
theorem kM:P.underlying xD=some (.slice yY):=rK
@[push_cast] theorem VR:isSl xD=true:=rK
@[push_cast] theorem kT:elB xD 1=true:=rK
theorem kc:yi yY .nilFunc:=by unfold yi;kernel_rfl
@[push_cast] theorem kG:oneB yY=true:=rK
@[push_cast] theorem kD:qm yY 1=true:=rK
@[push_cast] theorem xo:oneB xt=true:=rK
@[push_cast] theorem Zl0:qm xt 1=true:=rK
theorem y20:strF qA=some ([(0,1),(1,1)],[(.string ⟨#[]⟩),(nI 0)]):=rK
theorem qn:yi zP (.agg #[(.string ⟨#[]⟩),(nI 0)]):=by unfold yi;kernel_rfl
theorem UG:strF zP=some ([(0,2)],[(.string ⟨#[]⟩),(nI 0)]):=rK
@[push_cast] theorem U8:aggB zP 2=true:=rK
theorem jJ:yi zL (.agg #[(.string ⟨#[]⟩),(nI 0)]):=by unfold yi;kernel_rfl
theorem VH:strF zL=some ([(0,2)],[(.string ⟨#[]⟩),(nI 0)]):=rK
theorem Zp:yi zG (.agg #[(.string ⟨#[]⟩),(nI 0)]):=by unfold yi;kernel_rfl
theorem VF:strF zG=some ([(0,2)],[(.string ⟨#[]⟩),(nI 0)]):=rK
@[push_cast] theorem Vh:aggB zG 2=true:=rK
theorem yL:yi zO (.agg #[(.string ⟨#[]⟩),(nI 0)]):=by unfold yi;kernel_rfl
theorem VC:strF zO=some ([(0,2)],[(.string ⟨#[]⟩),(nI 0)]):=rK
@[push_cast] theorem Vf:aggB zO 2=true:=rK
theorem yQ:yi zF (.agg #[(.string ⟨#[]⟩),(nI 0)]):=by unfold yi;kernel_rfl
theorem Kz:strF zF=some ([(0,2)],[(.string ⟨#[]⟩),(nI 0)]):=rK
@[push_cast] theorem Km:aggB zF 2=true:=rK
theorem xm:yi zK (.agg #[(.string ⟨#[]⟩),(nI 0)]):=by unfold yi;kernel_rfl
theorem VE:strF zK=some ([(0,2)],[(.string ⟨#[]⟩),(nI 0)]):=rK
@[push_cast] theorem Vg:aggB zK 2=true:=rK
theorem xO:yi zT (.agg #[(.string ⟨#[]⟩),(nI 0)]):=by unfold yi;kernel_rfl
theorem UI:strF zT=some ([(0,2)],[(.string ⟨#[]⟩),(nI 0)]):=rK
@[push_cast] theorem U9:aggB zT 2=true:=rK
@[push_cast] theorem ys0:elZ xL 2 16=true:=rK
theorem ya0:P.underlying xL=some (.slice zh):=rK
@[push_cast] theorem ZJ0:elB xL 2=true:=rK
@[push_cast] theorem Wg:oneB Zg=true:=rK
theorem J0:yi zz (.agg #[(.string ⟨#[]⟩),(nI 0),.nilFunc]):=by unfold yi;kernel_rfl
theorem KA:strF zz=some ([(0,2),(2,1)],[(.string ⟨#[]⟩),(nI 0),.nilFunc]):=rK
@[push_cast] theorem ZS:aggB zz 3=true:=rK
theorem zY:yi zh (.agg #[(nI 0),(nI 0)]):=by unfold yi;kernel_rfl
theorem QJ:strF zh=some ([(0,1),(1,1)],[(nI 0),(nI 0)]):=rK
@[push_cast] theorem zt:aggB zh 2=true:=rK
@[push_cast] theorem x50:qm zh 2=true:=rK
@[push_cast] theorem zJ0:elZ yU 1 16=true:=rK
theorem Xq:P.underlying yU=some (.slice yp):=rK
theorem xC0:ZU yU=yp:=rK
@[push_cast] theorem Yl0:isSl yU=true:=rK
theorem jK:yi zH (.agg #[(.string ⟨#[]⟩),(nI 0)]):=by unfold yi;kernel_rfl
theorem VK:strF zH=some ([(0,2)],[(.string ⟨#[]⟩),(nI 0)]):=rK
@[push_cast] theorem Z80:oneB zA=true:=rK
@[push_cast] theorem QR:qm zA 1=true:=rK
@[push_cast] theorem qz:elZ zA 3 24=true:=rK
theorem jc:P.underlying zA=some (.slice zn):=rK
theorem XU:ZU zA=zn:=rK
@[push_cast] theorem xZ:isSl zA=true:=rK
@[push_cast] theorem ZV:elB zA 3=true:=rK
theorem qT:yi zw (.agg #[(nI 0),(.slice none 0 0)]):=by unfold yi;kernel_rfl
theorem QK:strF zw=some ([(0,1),(1,1)],[(nI 0),(.slice none 0 0)]):=rK
@[push_cast] theorem zZ:aggB zw 2=true:=rK
theorem xu:yi zB (.agg #[(nI 0),(.slice none 0 0),(.bool false)]):=by unfold yi;kernel_rfl
theorem yA0:strF zB=some ([(0,2),(2,1)],[(nI 0),(.slice none 0 0),(.bool false)]):=rK
@[push_cast] theorem qZ:aggB zB 3=true:=rK
theorem qS:yi zm (.agg #[(.slice none 0 0),(.slice none 0 0),(.slice none 0 0),(nI 0)]):=by unfold yi;kernel_rfl
theorem xI0:strF zm=some ([(0,1),(1,1),(2,1),(3,1)],[(.slice none 0 0),(.slice none 0 0),(.slice none 0 0),(nI 0)]):=rK
@[push_cast] theorem zQ:aggB zm 4=true:=rK
@[push_cast] theorem qI0:elZ qu 1 1=true:=rK
theorem qd0:P.underlying qu=some (.slice Y0):=rK
theorem Uy:ZU qu=Y0:=rK
@[push_cast] theorem s_Lbool:isSl qu=true:=rK
@[push_cast] theorem yx0:elB qu 1=true:=rK
theorem qP:P.underlying zX=some (.slice yf):=rK
theorem qL:ZU zX=yf:=rK
@[push_cast] theorem Q7:isSl zX=true:=rK
@[push_cast] theorem Q8:elB zX 1=true:=rK
@[push_cast] theorem Yb:oneB yf=true:=rK
@[push_cast] theorem Ya:qm yf 1=true:=rK
theorem kf:yi zn (.agg #[(.bool false),(nI 0),(nI 0)]):=by unfold yi;kernel_rfl
theorem Ze:strF zn=some ([(0,1),(1,1),(2,1)],[(.bool false),(nI 0),(nI 0)]):=rK
@[push_cast] theorem xI:aggB zn 3=true:=rK
@[push_cast] theorem YL:qm zn 3=true:=rK
@[push_cast] theorem qq0:oneB yO=true:=rK
@[push_cast] theorem jr0:oneB VL=true:=rK
theorem UH:strF yy=some ([(0,2),(2,1),(3,1),(4,1),(5,1)],[(nI 0),(.slice none 0 0),(.pointer none),(.slice none 0 0),(.slice none 0 0),(nI 0)]):=rK
theorem qB:yi zf (.slice none 0 0):=by unfold yi;kernel_rfl
@[push_cast] theorem KG:oneB zf=true:=rK
@[push_cast] theorem j3:qm zf 1=true:=rK
@[push_cast] theorem yD:elZ zf 1 8=true:=rK
theorem yC:P.underlying zf=some (.slice yx):=rK
theorem yN:ZU zf=yx:=rK
@[push_cast] theorem yV:isSl zf=true:=rK
@[push_cast] theorem yJ:elB zf 1=true:=rK
@[push_cast] theorem xL0:oneB yG=true:=rK
@[push_cast] theorem JI:oneB yP=true:=rK
theorem jm:P.underlying yP=some (.map 9 220):=rK
theorem VJ:strF ym=some ([(0,1),(1,1),(2,1),(3,1)],[(.pointer none),(.slice none 0 0),(.map none),(.map none)]):=rK
@[push_cast] theorem xK0:oneB Jl=true:=rK
theorem VI:strF yK=some ([(0,1),(1,1)],[(.pointer none),.nilIface]):=rK
theorem yh:yi yx (nI 0):=by unfold yi;kernel_rfl
@[push_cast] theorem kh0:oneB yx=true:=rK
@[push_cast] theorem y9:qm yx 1=true:=rK
theorem yt0:xO0 QO .u64:=by unfold xO0;kernel_rfl
theorem JA:(P.underlying QO).isSome=true:=rK
theorem y10:strF yA=some ([(0,1),(1,1),(2,1)],[(.slice none 0 0),(.slice none 0 0),(.slice none 0 0)]):=rK
@[push_cast] theorem Kg:elZ zJ 1 24=true:=rK
theorem Zv:P.underlying zJ=some (.slice zf):=rK
@[push_cast] theorem qn0:isSl zJ=true:=rK
@[push_cast] theorem Kw:elB zJ 1=true:=rK
@[push_cast] theorem UZ:oneB yb=true:=rK
theorem qH:P.underlying yb=some (.map 172 3):=rK
theorem VG:strF yd=some ([(0,2),(2,1)],[(nI 0),(.slice none 0 0),(.map none)]):=rK
theorem Yz:P.underlying kB=some (.map 9 3):=rK
theorem k30:P.underlying UK=some (.slice zI):=rK
@[push_cast] theorem s_LLLint:isSl UK=true:=rK
@[push_cast] theorem e_LLLint:elB UK 1=true:=rK
theorem qQ0:xO0 y30 .u64:=by unfold xO0;kernel_rfl
theorem Zt0:(P.underlying y30).isSome=true:=rK
@[push_cast] theorem xy:imapB QP=true:=rK
theorem Vo:fieldB yH 0 0=true:=rK
@[push_cast] theorem jB0 {w:World} {K:oK} (a:Addr):zx yH (.pointer (some a)) 0 w K=K (.pointer (some (a.add 0))) w:=zy Vo a
theorem Vn:fieldB yH 1 1=true:=rK
@[push_cast] theorem jA0 {w:World} {K:oK} (a:Addr):zx yH (.pointer (some a)) 1 w K=K (.pointer (some (a.add 1))) w:=zy Vn a
theorem Vm:fieldB yH 2 2=true:=rK
@[push_cast] theorem jz0 {w:World} {K:oK} (a:Addr):zx yH (.pointer (some a)) 2 w K=K (.pointer (some (a.add 2))) w:=zy Vm a
theorem Vl:fieldB yH 3 3=true:=rK
@[push_cast] theorem jy0 {w:World} {K:oK} (a:Addr):zx yH (.pointer (some a)) 3 w K=K (.pointer (some (a.add 3))) w:=zy Vl a
theorem Vk:fieldB yH 4 4=true:=rK
@[push_cast] theorem jx0 {w:World} {K:oK} (a:Addr):zx yH (.pointer (some a)) 4 w K=K (.pointer (some (a.add 4))) w:=zy Vk a
theorem Vv:fieldB za 0 0=true:=rK
@[push_cast] theorem jI0 {w:World} {K:oK} (a:Addr):zx za (.pointer (some a)) 0 w K=K (.pointer (some (a.add 0))) w:=zy Vv a
theorem Vu:fieldB za 1 1=true:=rK
@[push_cast] theorem jH0 {w:World} {K:oK} (a:Addr):zx za (.pointer (some a)) 1 w K=K (.pointer (some (a.add 1))) w:=zy Vu a
theorem Vt:fieldB za 2 2=true:=rK
@[push_cast] theorem jG0 {w:World} {K:oK} (a:Addr):zx za (.pointer (some a)) 2 w K=K (.pointer (some (a.add 2))) w:=zy Vt a
theorem Vs:fieldB za 3 3=true:=rK
@[push_cast] theorem jF0 {w:World} {K:oK} (a:Addr):zx za (.pointer (some a)) 3 w K=K (.pointer (some (a.add 3))) w:=zy Vs a
theorem Vr:fieldB za 4 4=true:=rK
@[push_cast] theorem jE0 {w:World} {K:oK} (a:Addr):zx za (.pointer (some a)) 4 w K=K (.pointer (some (a.add 4))) w:=zy Vr a
theorem Vq:fieldB xK 0 0=true:=rK
@[push_cast] theorem jD0 {w:World} {K:oK} (a:Addr):zx xK (.pointer (some a)) 0 w K=K (.pointer (some (a.add 0))) w:=zy Vq a
theorem Vp:fieldB xK 1 1=true:=rK
@[push_cast] theorem jC0 {w:World} {K:oK} (a:Addr):zx xK (.pointer (some a)) 1 w K=K (.pointer (some (a.add 1))) w:=zy Vp a
theorem VA:fieldB xp 0 0=true:=rK
@[push_cast] theorem jN0 {w:World} {K:oK} (a:Addr):zx xp (.pointer (some a)) 0 w K=K (.pointer (some (a.add 0))) w:=zy VA a
theorem Vz:fieldB xp 1 1=true:=rK
@[push_cast] theorem jM0 {w:World} {K:oK} (a:Addr):zx xp (.pointer (some a)) 1 w K=K (.pointer (some (a.add 1))) w:=zy Vz a
theorem Jj:fieldB ye 0 0=true:=rK
@[push_cast] theorem xV0 {w:World} {K:oK} (a:Addr):zx ye (.pointer (some a)) 0 w K=K (.pointer (some (a.add 0))) w:=zy Jj a
theorem Ji:fieldB ye 1 1=true:=rK
@[push_cast] theorem xU0 {w:World} {K:oK} (a:Addr):zx ye (.pointer (some a)) 1 w K=K (.pointer (some (a.add 1))) w:=zy Ji a
theorem Ur:fieldB zp 0 0=true:=rK
@[push_cast] theorem kL0 {w:World} {K:oK} (a:Addr):zx zp (.pointer (some a)) 0 w K=K (.pointer (some (a.add 0))) w:=zy Ur a
theorem Uq:fieldB zp 1 1=true:=rK
@[push_cast] theorem Uv {w:World} {K:oK} (a:Addr):zx zp (.pointer (some a)) 1 w K=K (.pointer (some (a.add 1))) w:=zy Uq a
theorem Uh:fieldB y7 0 0=true:=rK
@[push_cast] theorem kF0 {w:World} {K:oK} (a:Addr):zx y7 (.pointer (some a)) 0 w K=K (.pointer (some (a.add 0))) w:=zy Uh a
theorem Ug:fieldB y7 1 1=true:=rK
@[push_cast] theorem kE0 {w:World} {K:oK} (a:Addr):zx y7 (.pointer (some a)) 1 w K=K (.pointer (some (a.add 1))) w:=zy Ug a
theorem Uf:fieldB y7 2 2=true:=rK
@[push_cast] theorem kD0 {w:World} {K:oK} (a:Addr):zx y7 (.pointer (some a)) 2 w K=K (.pointer (some (a.add 2))) w:=zy Uf a
theorem Ue:fieldB y7 3 3=true:=rK
@[push_cast] theorem kC0 {w:World} {K:oK} (a:Addr):zx y7 (.pointer (some a)) 3 w K=K (.pointer (some (a.add 3))) w:=zy Ue a
theorem Ud:fieldB y7 4 5=true:=rK
@[push_cast] theorem kB0 {w:World} {K:oK} (a:Addr):zx y7 (.pointer (some a)) 4 w K=K (.pointer (some (a.add 5))) w:=zy Ud a
theorem Kt:fieldB qA 0 0=true:=rK
@[push_cast] theorem j10 {w:World} {K:oK} (a:Addr):zx qA (.pointer (some a)) 0 w K=K (.pointer (some (a.add 0))) w:=zy Kt a
theorem Ks:fieldB qA 1 1=true:=rK
@[push_cast] theorem j00 {w:World} {K:oK} (a:Addr):zx qA (.pointer (some a)) 1 w K=K (.pointer (some (a.add 1))) w:=zy Ks a
theorem XT:fieldB zz 1 2=true:=rK
@[push_cast] theorem yU0 {w:World} {K:oK} (a:Addr):zx zz (.pointer (some a)) 1 w K=K (.pointer (some (a.add 2))) w:=zy XT a
theorem Uj:fieldB zh 0 0=true:=rK
@[push_cast] theorem kH0 {w:World} {K:oK} (a:Addr):zx zh (.pointer (some a)) 0 w K=K (.pointer (some (a.add 0))) w:=zy Uj a
theorem Ui:fieldB zh 1 1=true:=rK
@[push_cast] theorem kG0 {w:World} {K:oK} (a:Addr):zx zh (.pointer (some a)) 1 w K=K (.pointer (some (a.add 1))) w:=zy Ui a
theorem Up:fieldB zw 0 0=true:=rK
@[push_cast] theorem kK0 {w:World} {K:oK} (a:Addr):zx zw (.pointer (some a)) 0 w K=K (.pointer (some (a.add 0))) w:=zy Up a
theorem Uo:fieldB zw 1 1=true:=rK
@[push_cast] theorem kJ0 {w:World} {K:oK} (a:Addr):zx zw (.pointer (some a)) 1 w K=K (.pointer (some (a.add 1))) w:=zy Uo a
theorem Vj:fieldB zB 0 0=true:=rK
@[push_cast] theorem jw0 {w:World} {K:oK} (a:Addr):zx zB (.pointer (some a)) 0 w K=K (.pointer (some (a.add 0))) w:=zy Vj a
theorem Vi:fieldB zB 1 2=true:=rK
@[push_cast] theorem jv0 {w:World} {K:oK} (a:Addr):zx zB (.pointer (some a)) 1 w K=K (.pointer (some (a.add 2))) w:=zy Vi a
theorem Un:fieldB zm 0 0=true:=rK
@[push_cast] theorem Uu {w:World} {K:oK} (a:Addr):zx zm (.pointer (some a)) 0 w K=K (.pointer (some (a.add 0))) w:=zy Un a
theorem Um:fieldB zm 1 1=true:=rK
@[push_cast] theorem Ut {w:World} {K:oK} (a:Addr):zx zm (.pointer (some a)) 1 w K=K (.pointer (some (a.add 1))) w:=zy Um a
theorem Ul:fieldB zm 2 2=true:=rK
@[push_cast] theorem Us {w:World} {K:oK} (a:Addr):zx zm (.pointer (some a)) 2 w K=K (.pointer (some (a.add 2))) w:=zy Ul a
theorem Uk:fieldB zm 3 3=true:=rK
@[push_cast] theorem kI0 {w:World} {K:oK} (a:Addr):zx zm (.pointer (some a)) 3 w K=K (.pointer (some (a.add 3))) w:=zy Uk a
theorem Vy:fieldB zn 0 0=true:=rK
@[push_cast] theorem jL0 {w:World} {K:oK} (a:Addr):zx zn (.pointer (some a)) 0 w K=K (.pointer (some (a.add 0))) w:=zy Vy a
theorem Vx:fieldB zn 1 1=true:=rK
@[push_cast] theorem jK0 {w:World} {K:oK} (a:Addr):zx zn (.pointer (some a)) 1 w K=K (.pointer (some (a.add 1))) w:=zy Vx a
theorem Vw:fieldB zn 2 2=true:=rK
@[push_cast] theorem jJ0 {w:World} {K:oK} (a:Addr):zx zn (.pointer (some a)) 2 w K=K (.pointer (some (a.add 2))) w:=zy Vw a
theorem Jh:fieldB yy 0 0=true:=rK
@[push_cast] theorem xT0 {w:World} {K:oK} (a:Addr):zx yy (.pointer (some a)) 0 w K=K (.pointer (some (a.add 0))) w:=zy Jh a
theorem Jg:fieldB yy 1 2=true:=rK
@[push_cast] theorem xS0 {w:World} {K:oK} (a:Addr):zx yy (.pointer (some a)) 1 w K=K (.pointer (some (a.add 2))) w:=zy Jg a
theorem Jf:fieldB yy 2 3=true:=rK
@[push_cast] theorem xR0 {w:World} {K:oK} (a:Addr):zx yy (.pointer (some a)) 2 w K=K (.pointer (some (a.add 3))) w:=zy Jf a
theorem Je:fieldB yy 3 4=true:=rK
@[push_cast] theorem xQ0 {w:World} {K:oK} (a:Addr):zx yy (.pointer (some a)) 3 w K=K (.pointer (some (a.add 4))) w:=zy Je a
theorem Jd:fieldB yy 4 5=true:=rK
@[push_cast] theorem xP0 {w:World} {K:oK} (a:Addr):zx yy (.pointer (some a)) 4 w K=K (.pointer (some (a.add 5))) w:=zy Jd a
theorem QH:fieldB ym 0 0=true:=rK
@[push_cast] theorem xA0 {w:World} {K:oK} (a:Addr):zx ym (.pointer (some a)) 0 w K=K (.pointer (some (a.add 0))) w:=zy QH a
theorem QG:fieldB ym 1 1=true:=rK
@[push_cast] theorem xz0 {w:World} {K:oK} (a:Addr):zx ym (.pointer (some a)) 1 w K=K (.pointer (some (a.add 1))) w:=zy QG a
theorem QF:fieldB ym 2 2=true:=rK
@[push_cast] theorem xy0 {w:World} {K:oK} (a:Addr):zx ym (.pointer (some a)) 2 w K=K (.pointer (some (a.add 2))) w:=zy QF a
theorem QE:fieldB ym 3 3=true:=rK
@[push_cast] theorem xx0 {w:World} {K:oK} (a:Addr):zx ym (.pointer (some a)) 3 w K=K (.pointer (some (a.add 3))) w:=zy QE a
theorem QD:fieldB yK 0 0=true:=rK
@[push_cast] theorem xw0 {w:World} {K:oK} (a:Addr):zx yK (.pointer (some a)) 0 w K=K (.pointer (some (a.add 0))) w:=zy QD a
theorem QC:fieldB yK 1 1=true:=rK
@[push_cast] theorem xv0 {w:World} {K:oK} (a:Addr):zx yK (.pointer (some a)) 1 w K=K (.pointer (some (a.add 1))) w:=zy QC a
theorem Kr:fieldB yA 0 0=true:=rK
@[push_cast] theorem qZ0 {w:World} {K:oK} (a:Addr):zx yA (.pointer (some a)) 0 w K=K (.pointer (some (a.add 0))) w:=zy Kr a
theorem Kq:fieldB yA 1 1=true:=rK
@[push_cast] theorem qY0 {w:World} {K:oK} (a:Addr):zx yA (.pointer (some a)) 1 w K=K (.pointer (some (a.add 1))) w:=zy Kq a
theorem Ko:fieldB yA 2 2=true:=rK
@[push_cast] theorem qX0 {w:World} {K:oK} (a:Addr):zx yA (.pointer (some a)) 2 w K=K (.pointer (some (a.add 2))) w:=zy Ko a
theorem QB:fieldB yd 0 0=true:=rK
@[push_cast] theorem xu0 {w:World} {K:oK} (a:Addr):zx yd (.pointer (some a)) 0 w K=K (.pointer (some (a.add 0))) w:=zy QB a
theorem QA:fieldB yd 1 2=true:=rK
@[push_cast] theorem xt0 {w:World} {K:oK} (a:Addr):zx yd (.pointer (some a)) 1 w K=K (.pointer (some (a.add 2))) w:=zy QA a
@[push_cast] theorem jW0 {w:World} {K:oK} (b a:Value):kX0 zh (.agg ⟨[b,a]⟩) 1 w K=K a w:=ya rK
noncomputable def mn_kids:String:=match P.info? 106 with|some i=>(match i.methods[0]? with|some m=>m.name|none=>default)|none=>default
noncomputable def k6:String:=match P.info? 106 with|some i=>(match i.methods[1]? with|some m=>m.name|none=>default)|none=>default
noncomputable def qG:String:=match P.info? 106 with|some i=>(match i.methods[2]? with|some m=>m.name|none=>default)|none=>default
noncomputable def Z9:String:=match P.info? 106 with|some i=>(match i.methods[3]? with|some m=>m.name|none=>default)|none=>default
theorem jc0:concB yp=true:=rK
@[push_cast] theorem Yq0 {w:World} {K:oK} (v:Value):x70 yp v w K=K (.iface yp v) w:=kE jc0 v
theorem xQ:concB zP=true:=rK
@[push_cast] theorem js0 {w:World} {K:oK} (v:Value):x70 zP v w K=K (.iface zP v) w:=kE xQ v
theorem X7 (a b:Value) (w:World):(method (P.types.size+Made.depth) zP (.agg ⟨[a,b]⟩) mn_kids).run P w= .ok (yl,.agg ⟨[a,b]⟩) w:=rK
theorem X6 (a b:Value) (w:World):(method (P.types.size+Made.depth) zP (.agg ⟨[a,b]⟩) k6).run P w= .ok (kk,.agg ⟨[a,b]⟩) w:=rK
theorem Yl (a b:Value) (w:World):(method (P.types.size+Made.depth) zP (.agg ⟨[a,b]⟩) qG).run P w= .ok (jQ,.agg ⟨[a,b]⟩) w:=rK
theorem X5 (a b:Value) (w:World):(method (P.types.size+Made.depth) zP (.agg ⟨[a,b]⟩) Z9).run P w= .ok (yu,.agg ⟨[a,b]⟩) w:=rK
theorem qg:concB zL=true:=rK
@[push_cast] theorem qA0 {w:World} {K:oK} (v:Value):x70 zL v w K=K (.iface zL v) w:=kE qg v
theorem Yv (a b:Value) (w:World):(method (P.types.size+Made.depth) zL (.agg ⟨[a,b]⟩) mn_kids).run P w= .ok (yl,.agg ⟨[a,b]⟩) w:=rK
theorem Yu (a b:Value) (w:World):(method (P.types.size+Made.depth) zL (.agg ⟨[a,b]⟩) k6).run P w= .ok (jX,.agg ⟨[a,b]⟩) w:=rK
theorem ZM (a b:Value) (w:World):(method (P.types.size+Made.depth) zL (.agg ⟨[a,b]⟩) qG).run P w= .ok (jx,.agg ⟨[a,b]⟩) w:=rK
theorem Yt (a b:Value) (w:World):(method (P.types.size+Made.depth) zL (.agg ⟨[a,b]⟩) Z9).run P w= .ok (yu,.agg ⟨[a,b]⟩) w:=rK
theorem k8:concB zG=true:=rK
@[push_cast] theorem qz0 {w:World} {K:oK} (v:Value):x70 zG v w K=K (.iface zG v) w:=kE k8 v
theorem Ys (a b:Value) (w:World):(method (P.types.size+Made.depth) zG (.agg ⟨[a,b]⟩) mn_kids).run P w= .ok (yl,.agg ⟨[a,b]⟩) w:=rK
theorem Yr (a b:Value) (w:World):(method (P.types.size+Made.depth) zG (.agg ⟨[a,b]⟩) k6).run P w= .ok (jW,.agg ⟨[a,b]⟩) w:=rK
theorem ZL (a b:Value) (w:World):(method (P.types.size+Made.depth) zG (.agg ⟨[a,b]⟩) qG).run P w= .ok (jw,.agg ⟨[a,b]⟩) w:=rK
theorem Yq (a b:Value) (w:World):(method (P.types.size+Made.depth) zG (.agg ⟨[a,b]⟩) Z9).run P w= .ok (yu,.agg ⟨[a,b]⟩) w:=rK
theorem yE:concB zO=true:=rK
@[push_cast] theorem qx0 {w:World} {K:oK} (v:Value):x70 zO v w K=K (.iface zO v) w:=kE yE v
theorem Yk (a b:Value) (w:World):(method (P.types.size+Made.depth) zO (.agg ⟨[a,b]⟩) mn_kids).run P w= .ok (yl,.agg ⟨[a,b]⟩) w:=rK
theorem Yj (a b:Value) (w:World):(method (P.types.size+Made.depth) zO (.agg ⟨[a,b]⟩) k6).run P w= .ok (jP,.agg ⟨[a,b]⟩) w:=rK
theorem ZH (a b:Value) (w:World):(method (P.types.size+Made.depth) zO (.agg ⟨[a,b]⟩) qG).run P w= .ok (jp,.agg ⟨[a,b]⟩) w:=rK
theorem yF:concB zF=true:=rK
@[push_cast] theorem xM0 {w:World} {K:oK} (v:Value):x70 zF v w K=K (.iface zF v) w:=kE yF v
theorem ZJ (a b:Value) (w:World):(method (P.types.size+Made.depth) zF (.agg ⟨[a,b]⟩) mn_kids).run P w= .ok (yl,.agg ⟨[a,b]⟩) w:=rK
theorem ZI (a b:Value) (w:World):(method (P.types.size+Made.depth) zF (.agg ⟨[a,b]⟩) k6).run P w= .ok (jq,.agg ⟨[a,b]⟩) w:=rK
theorem Zm (a b:Value) (w:World):(method (P.types.size+Made.depth) zF (.agg ⟨[a,b]⟩) qG).run P w= .ok (je,.agg ⟨[a,b]⟩) w:=rK
theorem x6:concB zK=true:=rK
@[push_cast] theorem qy0 {w:World} {K:oK} (v:Value):x70 zK v w K=K (.iface zK v) w:=kE x6 v
theorem Yp (a b:Value) (w:World):(method (P.types.size+Made.depth) zK (.agg ⟨[a,b]⟩) mn_kids).run P w= .ok (yl,.agg ⟨[a,b]⟩) w:=rK
theorem Yo (a b:Value) (w:World):(method (P.types.size+Made.depth) zK (.agg ⟨[a,b]⟩) k6).run P w= .ok (jV,.agg ⟨[a,b]⟩) w:=rK
theorem ZK (a b:Value) (w:World):(method (P.types.size+Made.depth) zK (.agg ⟨[a,b]⟩) qG).run P w= .ok (jv,.agg ⟨[a,b]⟩) w:=rK
theorem Yn (a b:Value) (w:World):(method (P.types.size+Made.depth) zK (.agg ⟨[a,b]⟩) Z9).run P w= .ok (yu,.agg ⟨[a,b]⟩) w:=rK
theorem xA:concB zT=true:=rK
@[push_cast] theorem jt0 {w:World} {K:oK} (v:Value):x70 zT v w K=K (.iface zT v) w:=kE xA v
theorem Xa (a b:Value) (w:World):(method (P.types.size+Made.depth) zT (.agg ⟨[a,b]⟩) mn_kids).run P w= .ok (yl,.agg ⟨[a,b]⟩) w:=rK
theorem X9 (a b:Value) (w:World):(method (P.types.size+Made.depth) zT (.agg ⟨[a,b]⟩) k6).run P w= .ok (km,.agg ⟨[a,b]⟩) w:=rK
theorem Ym (a b:Value) (w:World):(method (P.types.size+Made.depth) zT (.agg ⟨[a,b]⟩) qG).run P w= .ok (jS,.agg ⟨[a,b]⟩) w:=rK
theorem X8 (a b:Value) (w:World):(method (P.types.size+Made.depth) zT (.agg ⟨[a,b]⟩) Z9).run P w= .ok (yu,.agg ⟨[a,b]⟩) w:=rK
theorem Zi:concB zz=true:=rK
@[push_cast] theorem xN0 {w:World} {K:oK} (v:Value):x70 zz v w K=K (.iface zz v) w:=kE Zi v
theorem ZP (a b c:Value) (w:World):(method (P.types.size+Made.depth) zz (.agg ⟨[a,b,c]⟩) mn_kids).run P w= .ok (yl,.agg ⟨[a,b]⟩) w:=rK
theorem ZO (a b c:Value) (w:World):(method (P.types.size+Made.depth) zz (.agg ⟨[a,b,c]⟩) k6).run P w= .ok (jy,.agg ⟨[a,b,c]⟩) w:=rK
theorem Zn (a b c:Value) (w:World):(method (P.types.size+Made.depth) zz (.agg ⟨[a,b,c]⟩) qG).run P w= .ok (jh,.agg ⟨[a,b,c]⟩) w:=rK
theorem ZN (a b c:Value) (w:World):(method (P.types.size+Made.depth) zz (.agg ⟨[a,b,c]⟩) Z9).run P w= .ok (yu,.agg ⟨[a,b]⟩) w:=rK
theorem qh:concB zH=true:=rK
@[push_cast] theorem qB0 {w:World} {K:oK} (v:Value):x70 zH v w K=K (.iface zH v) w:=kE qh v
theorem Yy (a b:Value) (w:World):(method (P.types.size+Made.depth) zH (.agg ⟨[a,b]⟩) mn_kids).run P w= .ok (yl,.agg ⟨[a,b]⟩) w:=rK
theorem Yx (a b:Value) (w:World):(method (P.types.size+Made.depth) zH (.agg ⟨[a,b]⟩) k6).run P w= .ok (jZ,.agg ⟨[a,b]⟩) w:=rK
theorem ZQ (a b:Value) (w:World):(method (P.types.size+Made.depth) zH (.agg ⟨[a,b]⟩) qG).run P w= .ok (jz,.agg ⟨[a,b]⟩) w:=rK
theorem Yw (a b:Value) (w:World):(method (P.types.size+Made.depth) zH (.agg ⟨[a,b]⟩) Z9).run P w= .ok (yu,.agg ⟨[a,b]⟩) w:=rK
section
variable {v0 v1 v2:Value} {w:World} {R:oK}
theorem UF (h:US za v2 w λa b=>zx za a 0 b λb c=>zu zC b c λb c=>Xk zS v0 b true c λb c=>xU b 0 c λc d=>xU b 1 d λb d=>x90 (λe=>kL d λd=>vun .not b d λb f=>f=d/\vif b (R (nI (-1)) d) (zx za a 4 d λb f=>f=d/\zu zl b d λf g=>g=d/\vbi .len [zl] zC [f] d λg h=>h=d/\vinvoke c mn_kids #[] d λd h=>(vbi .len [zl] zC [f] h λi j=>i=g/\j=h)/\(zu zl b h λi j=>i=f/\j=h)/\(zx za a 4 h λi j=>i=b/\j=h)/\xE .neq zC false g d h λb d=>d=h/\vif b (R (nI (-1)) h) (zu za a h λb d=>d=h/\vcall QW #[b] h λb d=>vun .not b d λb f=>f=d/\vif b (R (nI (-1)) d) (e [] d)))) (λ_ _ b=>zx za a 4 b λb d=>zu zl b d λb d=>vbi .len [zl] zC [b] d λd e=>Xi [(.slice none 0 0),(nI 0)] e λe f _ g=>xE .lss zC false (sl 1 f) d g λd g=>vif d (zU zl b (sl 1 f) g λb d=>zu za b d λb d=>ql za d λd h=>zR za d b h λ_ b=>zu za d b λb d=>vcall jG #[v0,v1,b] d λb d=>xE .eql zC true b (nI (-1)) d λd h=>vif d (R (nI (-1)) h) (vbuildS ze 1 [(0,b)] h λb d=>vbi .append [ze,ze] ze [(sl 0 f),b] d λb d=>xE .add zC true (sl 1 f) (nI 1) d λd h=>e [b,d] h)) (zu za a g λa b=>vinvoke c k6 #[v1,a,(sl 0 f)] b λa b=>R a b))):vcall jG #[v0,v1,v2] w R:=kJ {ord:=[oz 2 (oR 15) [(3,[6,7]),(4,[6,7]),(5,[6,7])]],loops:=[(6,[9,38])],cuts:=[(12292,[])]} Tryz.func60 rK rK h
end
def KD (v0 v1:Value) (w:World) (R:oK):Prop:=US zp v0 w λa b=>US zm v1 b λb c=>ql zm c λc d=>zu zp a d λd e=>zx zm b 0 e λe f=>zu ze e f λe f=>vcall Xw #[d,e] f λd e=>zu zp a e λe f=>zx zm b 2 f λf g=>zu zI f g λf g=>vcall Xy #[e,f,d] g λe f=>xU e 0 f λf g=>xU e 1 g λg h=>xU e 2 h λe h=>xE .geq zC true f (nI 0) h λh i=>vif h (kL i λh=>zu zp a h λj k=>k=h/\zu zm b h λk l=>l=h/\zu zp a h λl m=>m=h/\zu zm b h λm n=>n=h/\vcall JP #[l,m,f] h λf h=>(zu zm b h λl m=>l=k/\m=h)/\(zu zp a h λl m=>l=j/\m=h)/\vcall YD #[j,k,f] h λf h=>zR zm c f h λ_ f=>vlv zm c f λf h=>R f h) (xE .geq zC true g (nI 0) i λf h=>vif f (zx zm b 0 h λf i=>zu ze f i λf i=>vbuildS ze 1 [(0,e)] i λe i=>vbi .append [ze,ze] ze [f,e] i λe f=>zx zm b 0 f λf i=>zR ze f e i λ_ e=>zx zm b 1 e λe f=>zu ze e f λe f=>vbuildS ze 1 [(0,g)] f λf g=>vbi .append [ze,ze] ze [e,f] g λe f=>zx zm b 1 f λf g=>zR ze f e g λ_ e=>zu zm b e λe f=>zR zm c e f λ_ e=>vlv zm c e λe f=>R e f) (zx zm b 0 h λe f=>zu ze e f λe f=>vbi .len [ze] zC [e] f λe f=>zx zp a 0 f λa f=>zu zC a f λa f=>xE .eql zC false e a f λa e=>vif a (zx zm b 3 e λa f=>zR zC a (nI 1) f λ_ a=>zu zm b a λa f=>zR zm c a f λ_ a=>vlv zm c a λa f=>R a f) (Xi [(nI 1)] e λa e _ f=>zU ze d (sl 0 e) f λd f=>zu zC d f λd f=>xE .neq zC true d (nI 0) f λd f=>vif d (xE .add zC true (sl 0 e) (nI 1) f λd g=>a [d] g) (zx zm b 0 f λa d=>zu ze a d λa d=>vun .neg (sl 0 e) d λd e=>vbuildS ze 1 [(0,d)] e λd e=>vbi .append [ze,ze] ze [a,d] e λa d=>zx zm b 0 d λd e=>zR ze d a e λ_ a=>zx zm b 1 a λa d=>zu ze a d λa d=>vbuildS ze 1 [(0,(nI (-1)))] d λd e=>vbi .append [ze,ze] ze [a,d] e λa d=>zx zm b 1 d λd e=>zR ze d a e λ_ a=>zu zm b a λa b=>zR zm c a b λ_ a=>vlv zm c a λa b=>R a b))))
theorem yy0 {v0 v1 w R} (h:KD v0 v1 w R):vcall JO #[v0,v1] w R:=kJ {ord:=[(4,[0,1,2,3,4,5,6,7],[(0,[6,7]),(1,[6,7]),(2,[5,6,7]),(3,[5,6,7]),(4,[5,6,7]),(5,[6,7]),(6,[7])])],loops:=[(13,[9])]} Tryz.func105 rK rK h
section
variable {v0 v1 v2 v3:Value} {w:World} {R:oK}
theorem XY (h:ql zp w λa b=>kL b λb=>vnil P v0 b λc e=>e=b/\zx yd c 0 b λe f=>f=b/\zu zw e b λf h=>h=b/\vnil P v0 b λh i=>i=b/\zx yd h 0 b λi j=>j=b/\zx zw i 1 b λj k=>k=b/\zu zA j b λk l=>l=b/\vbi .len [zA] zC [k] b λl m=>m=b/\∃I:(Nat->Prop)->List Value->World->Prop,I (λ_=>False) [undef,undef,undef,undef,undef] b/\∀(d:Nat->Prop) (u:List Value) (g:Fr) (w_11:World),I d u w_11->(vbi .len [zA] zC [k] w_11 λb m=>b=l/\m=w_11)/\(zu zA j w_11 λb m=>b=k/\m=w_11)/\(zx zw i 1 w_11 λb m=>b=j/\m=w_11)/\(zx yd h 0 w_11 λb m=>b=i/\m=w_11)/\(vnil P v0 w_11 λb m=>b=h/\m=w_11)/\(zu zw e w_11 λb m=>b=f/\m=w_11)/\(zx yd c 0 w_11 λb m=>b=e/\m=w_11)/\(vnil P v0 w_11 λb m=>b=c/\m=w_11)/\(((d 10->False)->vcall jl #[f,l] w_11 λc e=>I (λm=>m=10\/d m) [(sl 0 u),c,(sl 2 u),(sl 3 u),(sl 4 u)] e)/\((d 11->False)->vbuildS ze 1 [(0,(nI 1))] w_11 λc e=>I (λm=>m=11\/d m) [(sl 0 u),(sl 1 u),c,(sl 3 u),(sl 4 u)] e)/\((d 12->False)->d 11->vbuildS zI 1 [(0,(sl 2 u))] w_11 λc e=>I (λm=>m=12\/d m) [(sl 0 u),(sl 1 u),(sl 2 u),c,(sl 4 u)] e)/\((d 13->False)->d 10->d 12->yz zp [(0,(sl 1 u)),(1,(sl 3 u))] w_11 λc e=>e=w_11/\I (λm=>m=13\/d m) [(sl 0 u),(sl 1 u),(sl 2 u),(sl 3 u),c] w_11)/\((d 14->False)->ql zp w_11 λc e=>I (λm=>m=14\/d m) [c,(sl 1 u),(sl 2 u),(sl 3 u),(sl 4 u)] e)/\((d 15->False)->d 14->d 13->d 10->d 10->d 11->d 12->d 13->d 14->zR zp (sl 0 u) (sl 4 u) w_11 λ_ c=>I (λm=>m=15\/d m) [(sl 0 u),(sl 1 u),(sl 2 u),(sl 3 u),(sl 4 u)] c)/\True)/\(d 10->d 11->d 12->d 13->d 14->d 15->vnil P v0 w_11 λc e=>zx yd c 0 e λc e=>zx zw c 1 e λc e=>zu zA c e λc e=>vbi .len [zA] zC [c] e λe f=>Xi [(nI 0)] f λf h _ i=>xE .lss zC false (sl 0 h) e i λe i=>vif e (zU zA c (sl 0 h) i λc e=>zu zn c e λc e=>ql zn e λe j=>zR zn e c j λ_ c=>kL c λc=>zx zp (sl 0 u) 1 c λj k=>k=c/\zu zI j c λk l=>l=c/\zu zn e c λl n=>n=c/\vnil P v0 c λn o=>o=c/\zx yd n 0 c λn o=>o=c/\zu zw n c λn o=>o=c/\vcall jl #[n,(sl 0 h)] c λc n=>(zu zn e n λb m=>b=l/\m=n)/\(zu zI j n λb m=>b=k/\m=n)/\(zx zp (sl 0 u) 1 n λb m=>b=j/\m=n)/\xE .add zC true c (nI 1) n λc e=>e=n/\vcall k5 #[l,c] n λc e=>(zu zI j e λb m=>b=k/\m=e)/\(zx zp (sl 0 u) 1 e λb m=>b=j/\m=e)/\vbi .append [zI,zI] zI [k,c] e λb c=>zx zp (sl 0 u) 1 c λe j=>j=c/\zR zI e b c λ_ b=>xE .add zC true (sl 0 h) (nI 1) b λb c=>f [b] c) (zu zp (sl 0 u) i λb c=>zR zp a b c λ_ b=>vlv zp a b λa b=>R a b))):vcall ko #[v0] w R:=kJ {ord:=[oz 5 (oR 14) [(0,[2,3,4,5,6,7,8,9,10]),(1,[2,3,4,5,6,7,8,9,10]),(2,[3,4,5,6,7,8,9]),(3,[7]),(4,[7]),(5,[7]),(6,[7])]],loops:=[(3,[26])],pars:=[(1,[0,1,2,3,4,5,6,7,8,9],[10,11,12,13,14,15],[3,16,17,18,19],[(0,[1,2,3,10,13,15]),(1,[2,3,10,13,15]),(2,[3,10,13,15]),(3,[10,13,15]),(4,[5,6,7,8,9,10,13,15]),(5,[6,7,8,9,10,13,15]),(6,[7,8,9,10,13,15]),(7,[8,9,10,13,15]),(8,[9,10,13,15]),(9,[10,13,15])])]} Tryz.func157 rK rK h
theorem VB (h:US za v2 w λa b=>ql zh b λb c=>zx za a 4 c λc d=>zu zl c d λc d=>vbi .len [zl] zC [c] d λd e=>Xi [(.slice none 0 0),(nI 0)] e λe f _ g=>xE .lss zC false (sl 1 f) d g λd g=>vif d (zU zl c (sl 1 f) g λc d=>zu za c d λc d=>ql za d λd h=>zR za d c h λ_ c=>zu za d c λc d=>vcall kH #[v0,v1,c,v3] d λc d=>vbuildS xL 1 [(0,c)] d λc d=>vbi .append [xL,xL] xL [(sl 0 f),c] d λc d=>xE .add zC true (sl 1 f) (nI 1) d λd h=>e [c,d] h) (kL g λc=>zu za a c λd e=>e=c/\zx za a 0 c λe g=>g=c/\zu zC e c λg h=>h=c/\Xk zS v0 g false c λh i=>i=c/\zu za a c λi j=>j=c/\vcall jG #[v0,v1,d] c λc d=>(zu za a d λj k=>j=i/\k=d)/\(Xk zS v0 g false d λj k=>j=h/\k=d)/\(zu zC e d λj k=>j=g/\k=d)/\(zx za a 0 d λj k=>j=e/\k=d)/\vinvoke h qG #[v3,i,(sl 0 f)] d λa d=>yz zh [(0,c),(1,a)] d λa c=>c=d/\zR zh b a d λ_ a=>vlv zh b a λa b=>R a b)):vcall kH #[v0,v1,v2,v3] w R:=kJ {ord:=[oz 7 [0,1,2,4,5,6,7,8,9,10,3,11,12,13] [(0,[1,2,4,5,6,7,8,9,10]),(1,[2,4,5,6,7,8,9,10]),(2,[4,5,6,7,8,9,10]),(4,[5,6,8,9,10,3]),(5,[8,9,10,3]),(6,[8,9,10,3]),(7,[8,9,10,3]),(8,[9,10,3]),(9,[10,3]),(10,[3])]],loops:=[(3,[9,15])]} Tryz.func172 rK rK h
theorem UE (h:US za v1 w λa b=>zx za a 0 b λb c=>zu zC b c λb c=>xE .eql zC true b (nI 20) c λc d=>vif c (zx za a 1 d λc e=>zu zC c e λc e=>zx za a 2 e λe f=>zu zC e f λe f=>yz zh [(0,c),(1,e)] f λc e=>vcall YH #[c] e λc e=>R c e) (xE .eql zC true b (nI 21) d λc d=>vif c (zx za a 3 d λc e=>zu yp c e λc e=>R c e) (xE .eql zC true b (nI 24) d λb c=>vif b (R (.string {data:= #[116,114,117,101]}) c) (zx za a 0 c λb c=>zu zC b c λb c=>Xk zS v0 b false c λb c=>vinvoke b Z9 #[] c λb c=>vbuildS yU 1 [(0,b)] c λb c=>x90 (λd=>zx za a 0 c λc e=>zu zC c e λc e=>xE .eql zC true c (nI 22) e λc e=>vif c (kL e λc=>zx za a 1 c λf g=>g=c/\zu zC f c λf g=>g=c/\zx za a 2 c λg h=>h=c/\zu zC g c λh i=>i=c/\vcall j5 #[f] c λc f=>(zu zC g f λi j=>i=h/\j=f)/\(zx za a 2 f λi j=>i=g/\j=f)/\vcall j5 #[h] f λf g=>vbuildS yU 2 [(0,c),(1,f)] g λc f=>vbi .append [yU,yU] yU [b,c] f λc f=>d [c] f) (d [b] e)) (λb _ c=>zx za a 4 c λa c=>zu zl a c λa c=>vbi .len [zl] zC [a] c λc d=>Xi [(sl 0 b),(nI 0)] d λb d _ e=>xE .lss zC false (sl 1 d) c e λc e=>vif c (zU zl a (sl 1 d) e λa c=>zu za a c λa c=>ql za c λc f=>zR za c a f λ_ a=>zu za c a λa c=>vcall Z4 #[v0,a] c λa c=>vbuildS yU 1 [(0,a)] c λa c=>vbi .append [yU,yU] yU [(sl 0 d),a] c λa c=>xE .add zC true (sl 1 d) (nI 1) c λc f=>b [a,c] f) (vcall YC #[(sl 0 d),(.string {data:= #[32]})] e λa b=>xE .add yp true (.string {data:= #[40]}) a b λa b=>xE .add yp true a (.string {data:= #[41]}) b λa b=>R a b)))))):vcall Z4 #[v0,v1] w R:=kJ {ord:=[oz 10 [0,1,2,4,5,3,6,7,8,9] [(0,[1,2,4,5,3,6,7]),(1,[4,5]),(2,[4,5]),(4,[3]),(5,[3])]],loops:=[(12,[5,45])],cuts:=[(40971,[5])]} Tryz.func197 rK rK h
end
def Q5 (v0 v1 v2 v3:Value) (w:World) (R:oK):Prop:=vbuildS ze 0 [] w λa b=>xE .add zC true v0 (nI 1) b λb c=>Yd0 ze b b c λb c=>Xi [(nI 0)] c λc d _ e=>vbi .len [ze] zC [v1] e λe f=>xE .lss zC false (sl 0 d) e f λe f=>vif e (kL f λe=>zU ze v1 (sl 0 d) e λg h=>h=e/\zu zC g e λg h=>h=e/\zU ze v1 (sl 0 d) e λh i=>i=e/\zu zC h e λi j=>j=e/\vcall kj #[g] e λe g=>(zu zC h g λj k=>j=i/\k=g)/\(zU ze v1 (sl 0 d) g λj k=>j=h/\k=g)/\zU ze b e g λe h=>h=g/\zR zC e i g λ_ e=>xE .add zC true (sl 0 d) (nI 1) e λd e=>c [d] e) (Xi [(nI 0)] f λc d _ e=>vbi .len [ze] zC [v2] e λe f=>xE .lss zC false (sl 0 d) e f λe f=>vif e (kL f λe=>zU ze v2 (sl 0 d) e λg h=>h=e/\zu zC g e λg h=>h=e/\zU ze v2 (sl 0 d) e λh i=>i=e/\zu zC h e λi l=>l=e/\vcall kj #[g] e λe g=>(zu zC h g λj k=>j=i/\k=g)/\(zU ze v2 (sl 0 d) g λj k=>j=h/\k=g)/\zU ze b e g λe h=>h=g/\zR zC e i g λ_ e=>xE .add zC true (sl 0 d) (nI 1) e λd e=>c [d] e) (Xi [a,(nI 1)] f λa c _ d=>xE .leq zC false (sl 1 c) v0 d λd e=>vif d (xE .neq zC false (sl 1 c) v3 e λd f=>vif d (zU ze b (sl 1 c) f λd g=>zu zC d g λd g=>xE .neq zC true d (nI 0) g λd g=>vif d (zU ze b (sl 1 c) g λb d=>zu zC b d λb d=>vbuildS ze 1 [(0,b)] d λb d=>vbi .append [ze,ze] ze [(sl 0 c),b] d λb d=>xE .add zC true (sl 1 c) (nI 1) d λd h=>a [b,d] h) (xE .add zC true (sl 1 c) (nI 1) g λb d=>a [(sl 0 c),b] d)) (xE .add zC true (sl 1 c) (nI 1) f λb d=>a [(sl 0 c),b] d)) (R (sl 0 c) e)))
theorem UD {v0 v1 v2 v3 w R} (h:Q5 v0 v1 v2 v3 w R):vcall Xx #[v0,v1,v2,v3] w R:=kJ {ord:=[(6,[0,1,2,3,4,6,7,8,9,5,10,11],[(0,[10,11]),(1,[3,4,5,10,11]),(2,[3,4,5,10,11]),(3,[4,5,10,11]),(4,[5,10,11]),(6,[8,9,10,11]),(7,[8,9,10,11]),(8,[9,10,11]),(9,[10,11]),(5,[10,11]),(10,[11])]),(10,[0,1,2,3,4,6,7,8,9,5,10,11],[(0,[10,11]),(1,[3,4,5,10,11]),(2,[3,4,5,10,11]),(3,[4,5,10,11]),(4,[5,10,11]),(6,[8,9,10,11]),(7,[8,9,10,11]),(8,[9,10,11]),(9,[10,11]),(5,[10,11]),(10,[11])])],loops:=[(4,[11]),(8,[12]),(12,[9,13])]} Tryz.func224 rK rK h
def qO (v0 v1 v2 v3:Value) (w:World) (R:oK):Prop:=zu yG v2 w λa b=>zu yx v3 b λb c=>vcall qF #[a,b,v0,v1] c λa b=>R a b
theorem Zd {v0 v1 v2 v3 w R} (h:qO v0 v1 v2 v3 w R):vcall Z8 #[v0,v1,v2,v3] w R:=kJ {} Tryz.func264 rK rK h
def qN (v0 v1 v2:Value) (w:World) (R:oK):Prop:=US yG v0 w λa b=>vbi .len [zf] zC [v1] b λb c=>vcall JY #[b] c λb c=>ql zf c λc d=>zR zf c b d λ_ b=>zu yG a b λb d=>vcall YZ #[b,v1,v2] d λb d=>Yh0 b 1 0 d (λb d e _ _ f=>d f λd=>zu yG a d λa d=>zu zf c d λd f=>vcall kp #[a,d,(sl 0 b),(nI (-1))] f λa b=>zR zf c a b λ_ a=>e a) (λa b=>zu zf c b λb d=>x80 a d λa=>R b a) (λa b=>x80 a b λa=>R (.slice none 0 0) a) (λa b=>zu zf c b λb c=>x80 a c λa=>R b a)
def kC:Ann:={ord:=[],loops:=[],cuts:=[]}
theorem XN (v0 v1 v2:Value) (w:World) (R:oK):vx kC 0 ((Tryz.f272.body).getD .skip) (retF Tryz.f272.results.toList R) (retM Tryz.f272.results.toList R) (nthV [v0,v1,v2]) w=qN v0 v1 v2 w R:=rK
theorem XZ {v0 v1 v2:Value} {w:World} {R:oK} (h:qN v0 v1 v2 w R):vcall kq #[v0,v1,v2] w R:=
 zX0 (T:=kC) (x:=0) (c:=(Tryz.f272.body).getD .skip) (n:=22) mixed Tryz.func272 rfl rfl rK rK rfl (by rw[XN];exact h)
def qr (v0 v1:Value) (w:World) (R:oK):Prop:=x90 (λa=>vbi .len [ze] zC [v0] w λb c=>xE .lss zC true b (nI 1) c λb c=>vif b (x70 yp (.string {data:= #[115,108,105,99,101,115,46,77,97,120,70,117,110,99,58,32,101,109,112,116,121,32,108,105,115,116]}) c λ_ _=>False) (a [] c)) (λ_ _ a=>zU ze v0 (nI 0) a λa b=>zu zC a b λa b=>Xi [a,(nI 1)] b λa b _ c=>vbi .len [ze] zC [v0] c λc d=>xE .lss zC false (sl 1 b) c d λc d=>vif c (zU ze v0 (sl 1 b) d λc e=>zu zC c e λc e=>vcallv v1 #[c,(sl 0 b)] e λc e=>xE .gtr zC true c (nI 0) e λc e=>vif c (zU ze v0 (sl 1 b) e λc f=>zu zC c f λc f=>xE .add zC true (sl 1 b) (nI 1) f λf g=>a [c,f] g) (xE .add zC true (sl 1 b) (nI 1) e λc e=>a [(sl 0 b),c] e)) (R (sl 0 b) d))
theorem kK {v0 v1 w R} (h:qr v0 v1 w R):vcall qp #[v0,v1] w R:=kJ {loops:=[(5,[5,6])],cuts:=[(8195,[])]} Tryz.func282 rK rK h
def Zj (v0 v1:Value) (w:World) (R:oK):Prop:=vun .neg v0 w λa b=>R a b
theorem Jk {v0 v1 w R} (h:Zj v0 v1 w R):vcall J9 #[v0,v1] w R:=kJ {} Tryz.func294 rK rK h
section
variable {w:World} {K:oK} {F:Nat->Prop}
theorem Zx0 (x y:Bool):(Op.equal Y0 (.bool x) (.bool y)).run P w= .ok (x==y) w:=by
 have hu:P.underlying Y0=some .bool:=rK
 have:∀d,(Op.equalIn (d+1) Y0 (.bool x) (.bool y)).run P w= .ok (x==y) w:=λd=>by
  rw[Op.equalIn,Sem.run_bind,run_underlying hu];rfl
 exact this 9999
@[push_cast] theorem vbin_neb (b:Bool) (x y:Bool):xE .neq Y0 b (.bool x) (.bool y) w K=K (.bool (x != y)) w:=
 yo rfl (by simp[binOp,Zx0,Result.andThen,bne])
theorem IndexFunc_Lint_int {v f:Value} {vs:List Value} {p:Nat->Bool} (e:Vals F w v vs) (n:∀i,i<vs.length->FnB w f #[vs.getD i undef] (p i))
  (k:∀w',Ext w w'->K (nI (idxI vs.length p)) w'):vcall jO #[v,f] w K:=by
 refine zg {loops:=[(2,[8])]} Tryz.func279 ?_;simp(disch:=first|(simp only[push_cast])|omega) only[push_cast,e.len];have hlen:vs.length<=9223372036854775807:=by obtain⟨_,_,_,l,s,_⟩:=e.shape;simp at l;omega
 refine vloop_up vs.length (λi u w'=>u=[nI i]/\Ext w w'/\∀j,j<i->p j=false) ⟨rfl,Same.refl _ _,oM⟩ ?_;rintro i _ g w1 C hi ⟨rfl,he,d⟩ m;simp only[push_cast];refine zb (λr=>?_) (λo=>?_)
 ·have b:=e.ext he;simp(disch:=first|(simp only[push_cast])|omega) only[push_cast,b.iaddr,b.load];refine n i oM w1 _ he λw2 a=>zo (λc=>?_) (λc=>?_)
  ·have:=k w2 (he.trans a);rwa[idxI_some oM c d] at this
  ·simp(disch:=omega) only[push_cast,zk];exact m oM _ _ ⟨by simp,he.trans a,λj q=>by
    by_cases h:j=i
    ·subst h;exact c
    ·exact d j oM⟩
 ·have:=k w1 he;rwa[Kj (λj q=>d j oM)] at this
theorem jj {v f:Value} {vs:List Value} {p:Nat->Bool} (c:Vals F w v vs) (b:∀i,i<vs.length->FnB w f #[vs.getD i undef] (p i))
  (a:∀w',Ext w w'->K (.bool ((List.range vs.length).any p)) w'):vcall jd #[v,f] w K:=by
 refine zg {} Tryz.func241 ?_;refine IndexFunc_Lint_int c b λw' he=>?_;simp only[push_cast,Xc];exact a w' he
end
end Go.Proofs.YtolbhkcajhlllaaGreatDoor
section
namespace Go.M
structure Gt where
 x:Bool
 a:Int
 b:Int
deriving DecidableEq
abbrev Gs:=List Gt
def absI (a:Int):Int:=if a<0 then-a else a
def turnI (c:Bool) (a:Int):Int:=if c then-a else a
def putG (n:Nat) (gs:Gs) (g:Gt):Gs×Int:=
 if g∈gs then(gs,2+n+gs.idxOf g) else if 600<=gs.length then(gs,0) else(gs++[g],2+n+gs.length)
def gateA (a b:Int):Gt:=if absI b<absI a then⟨false,b,a⟩ else⟨false,a,b⟩
def gateX (a b:Int):Gt:=if absI b<absI a then⟨true,absI b,absI a⟩ else⟨true,absI a,absI b⟩
def andG (n:Nat) (gs:Gs) (a b:Int):Gs×Int:=
 if a= -1\/b= -1 then(gs,-1) else if a=1 then(gs,b) else if b=1 then(gs,a) else if a=b then(gs,a) else if a= -b then(gs,-1) else putG n gs (gateA a b)
def xorG (n:Nat) (gs:Gs) (a b:Int):Gs×Int:=
 if absI a=1 then(gs,turnI (decide (a=1)) b) else if absI b=1 then(gs,turnI (decide (b=1)) a) else if a=b then(gs,-1) else if a= -b then(gs,1)
 else((putG n gs (gateX a b)).1,turnI (decide (a<0) != decide (b<0)) (putG n gs (gateX a b)).2)
inductive Bd (α:Type) where
 |ret (a:α)
 |and (x y:Int) (k:Int->Bd α)
 |xor (x y:Int) (k:Int->Bd α)
namespace Bd
def bind {α β:Type}:Bd α->(α->Bd β)->Bd β
 |ret a,f=>f a
 |and x y k,f=>and x y λv=>bind (k v) f
 |xor x y k,f=>xor x y λv=>bind (k v) f
def map {α β:Type} (f:α->β) (p:Bd α):Bd β:=p.bind λa=>ret (f a)
def Reach {α:Type}:Bd α->α->Prop
 |ret a,b=>b=a
 |and _ _ k,b=> ∃v,Reach (k v) b
 |xor _ _ k,b=> ∃v,Reach (k v) b
def run {α:Type} (n:Nat):Bd α->Gs->Option (Gs×α)
 |ret a,gs=>some (gs,a)
 |and x y k,gs=>if(andG n gs x y).2=0 then none else run n (k (andG n gs x y).2) (andG n gs x y).1
 |xor x y k,gs=>if(xorG n gs x y).2=0 then none else run n (k (xorG n gs x y).2) (xorG n gs x y).1
def Out {α:Type} (n:Nat) (p:Bd α) (st st':Option Gs) (a:α):Prop:=
 match st with
 |some gs=>(∃gs',p.run n gs=some (gs',a)/\st'=some gs')\/(p.run n gs=none/\st'=none/\p.Reach a)
 |none=>st'=none/\p.Reach a
theorem bind_assoc {α β γ:Type} (p:Bd α) (f:α->Bd β) (g:β->Bd γ):(p.bind f).bind g=p.bind λa=>(f a).bind g:=by
 induction p with
 |ret a=>rfl
 |and x y k b=>grind [bind]
 |xor x y k b=>grind [bind]
theorem run_bind {α β:Type} {n:Nat} (p:Bd α) (f:α->Bd β) (gs:Gs):(p.bind f).run n gs=(p.run n gs).bind λr=>(f r.2).run n r.1:=by
 induction p generalizing gs with
 |ret a=>rfl
 |and x y k b=>
  grind [bind,run]
 |xor x y k b=>
  grind [bind,run]
theorem reach_bind {α β:Type} {p:Bd α} {f:α->Bd β} {a:α} {b:β} (h:p.Reach a) (g:(f a).Reach b):(p.bind f).Reach b:=by
 induction p with
 |ret c=>cases h;exact g
 |and x y k e=>obtain⟨v,d⟩:=h;exact⟨v,e v d⟩
 |xor x y k e=>obtain⟨v,d⟩:=h;exact⟨v,e v d⟩
theorem reach_of_run {α:Type} {n:Nat} {p:Bd α} {gs gs':Gs} {a:α} (h:p.run n gs=some (gs',a)):p.Reach a:=by
 induction p generalizing gs with
 |ret c=>simp only[run,Ge,Gb] at h;exact h.2.symm
 |and x y k b=>
  simp only[run] at h;split at h
  ·cases h
  ·exact⟨_,b _ h⟩
 |xor x y k b=>
  simp only[run] at h;split at h
  ·cases h
  ·exact⟨_,b _ h⟩
theorem Out.reach {α:Type} {n:Nat} {p:Bd α} {st st':Option Gs} {a:α} (h:Out n p st st' a):p.Reach a:=by
 cases st with
 |none=>exact h.2
 |some gs=>
  rcases h with⟨gs',h,_⟩|⟨_,_,h⟩
  ·exact reach_of_run h
  ·exact h
theorem Out.ret {α:Type} {n:Nat} (a:α) (st:Option Gs):Out n (.ret a) st st a:=by
 cases st with
 |none=>exact⟨rfl,rfl⟩
 |some gs=>exact .inl ⟨gs,rfl,rfl⟩
theorem Out.bind {α β:Type} {n:Nat} {p:Bd α} {f:α->Bd β} {st st' d:Option Gs} {a:α} {b:β} (h:Out n p st st' a) (c:Out n (f a) st' d b):Out n (p.bind f) st d b:=by
 cases st with
 |none=>
  obtain⟨rfl,e⟩:=h;exact⟨c.1,reach_bind e c.2⟩
 |some gs=>
  rcases h with⟨gs',e,rfl⟩|⟨e,rfl,i⟩
  ·rcases c with⟨g,c,rfl⟩|⟨c,rfl,i⟩
   ·exact .inl ⟨g,by rw[run_bind,e];exact c,rfl⟩
   ·exact .inr ⟨by rw[run_bind,e];exact c,rfl,reach_bind (reach_of_run e) i⟩
  ·exact .inr ⟨by rw[run_bind,e];rfl,c.1,reach_bind i c.2⟩
theorem Out.map {α β:Type} {n:Nat} {p:Bd α} (f:α->β) {st st':Option Gs} {a:α} (h:Out n p st st' a):Out n (p.map f) st st' (f a):=h.bind (Out.ret _ _)
end Bd
theorem idxOf_pre {gs F:Gs} {g:Gt} (h:gs<+:F) (hm:g∈gs):F.idxOf g=gs.idxOf g:=by
 obtain⟨t,rfl⟩:=h
 grind
theorem put_pre {n:Nat} (gs:Gs) (g:Gt):gs<+:(putG n gs g).1:=by
 grind [putG]
theorem put_again {n:Nat} {gs F:Gs} {g:Gt} (b:(putG n gs g).2≠0) (h:(putG n gs g).1<+:F):putG n F g=(F,(putG n gs g).2):=by
 unfold putG at b h⊢;by_cases hm:g∈gs
 ·grind [idxOf_pre]
 ·rw[if_neg hm] at b h⊢;by_cases c:600<=gs.length
  ·grind
  ·rw[if_neg c] at h⊢;have a:g∈gs++[g]:=(by simp);rw[if_pos (h.subset a),idxOf_pre h a,pz,if_neg hm];simp
theorem and_pre {n:Nat} (gs:Gs) (a b:Int):gs<+:(andG n gs a b).1:=by
 grind [andG,put_pre]
theorem xor_pre {n:Nat} (gs:Gs) (a b:Int):gs<+:(xorG n gs a b).1:=by
 grind [xorG,put_pre]
theorem and_again {n:Nat} {gs F:Gs} {a b:Int} (c:(andG n gs a b).2≠0) (h:(andG n gs a b).1<+:F):andG n F a b=(F,(andG n gs a b).2):=by
 grind [andG,put_again]
theorem turn_zero {c:Bool} {m:Int}:turnI c m=0↔m=0:=by cases c<;>simp[turnI]
theorem xY0 {n:Nat} {gs F:Gs} {a b:Int} (c:(xorG n gs a b).2≠0) (h:(xorG n gs a b).1<+:F):xorG n F a b=(F,(xorG n gs a b).2):=by
 unfold xorG at c h⊢
 repeat' split at c
 all_goals simp_all
 have:=put_again (n:=n) (g:=gateX a b) (λe=>c (turn_zero.2 e)) h;rw[this];exact⟨rfl,rfl⟩
namespace Bd
theorem run_pre {α:Type} {n:Nat} {p:Bd α} {gs gs':Gs} {a:α} (h:p.run n gs=some (gs',a)):gs<+:gs':=by
 induction p generalizing gs with
 |ret c=>grind [run]
 |and x y k b=>
  grind [run,and_pre]
 |xor x y k b=>
  grind [run,xor_pre]
theorem run_again {α:Type} {n:Nat} {p:Bd α} {gs gs' F:Gs} {a:α} (h:p.run n gs=some (gs',a)) (hF:gs'<+:F):p.run n F=some (F,a):=by
 induction p generalizing gs with
 |ret c=>grind [run]
 |and x y k e=>
  simp only[run] at h⊢;split at h
  ·cases h
  ·next b=>
   have d:=(run_pre h).trans hF
   grind [and_again]
 |xor x y k e=>
  simp only[run] at h⊢;split at h
  ·cases h
  ·next b=>
   have d:=(run_pre h).trans hF
   grind [xY0]
end Bd
def has (k:Nat) (m:Int):Prop:=m≠0/\ -(k:Int)<=m/\m<=k
def gateOk (n k:Nat) (g:Gt):Prop:=2<=absI g.a/\absI g.a<absI g.b/\absI g.b<=1+n+k/\(g.x=true->0<g.a/\0<g.b)
structure NetG (n:Nat) (gs:Gs):Prop where
 few:gs.length<=600
 gate:∀k,(h:k<gs.length)->gateOk n k gs[k]
 once:gs.Nodup
theorem has_neg {k:Nat} {m:Int} (h:has k m):has k (-m):=⟨by have:=h.1;omega,by have:=h.2.2;omega,by have:=h.2.1;omega⟩
theorem has_mono {k l:Nat} {m:Int} (h:has k m) (a:k<=l):has l m:=⟨h.1,by have:=h.2.1;omega,by have:=h.2.2;omega⟩
theorem W7 {k:Nat} {m:Int} {c:Bool} (h:has k m):has k (turnI c m):=by cases c;exact h;exact has_neg h
end Go.M
end
section
namespace Go.M
def orB (x y:Int):Bd Int:= .and (-x) (-y) λv=> .ret (-v)
def muxB (c x y:Int):Bd Int:= .and c x λp=> .and (-c) y λq=>orB p q
def sumB:List Int->List Int->Int->Bd (List Int)
 |x::xs,y::ys,c=> .xor x y λh=> .xor h c λs=> .and x y λp=> .and h c λq=>(orB p q).bind λc'=>(sumB xs ys c').map (s:: ·)
 |_,_,_=> .ret []
def lessB:List Int->List Int->Int->Bd Int
 |x::xs,y::ys,r=> .xor x y λd=>(muxB d y r).bind λr'=>lessB xs ys r'
 |_,_,r=> .ret r
def sameB:List Int->List Int->Int->Bd Int
 |x::xs,y::ys,r=> .xor x y λd=> .and r (-d) λr'=>sameB xs ys r'
 |_,_,r=> .ret r
def eachB (f:Int->Int->Bd Int):List Int->List Int->Bd (List Int)
 |x::xs,y::ys=>(f x y).bind λs=>(eachB f xs ys).map (s:: ·)
 |_,_=> .ret []
def rowB (s:Int):List Int->Bd (List Int)
 |x::xs=> .and x s λv=>(rowB s xs).map (v:: ·)
 |[]=> .ret []
def offsL (n:Nat):List Int:=List.replicate n (-1)
def mulB (xs:List Int):List Int->Nat->List Int->Bd (List Int)
 |y::ys,i,s=>(rowB y (xs.take (xs.length-i))).bind λr=>(sumB s (offsL i++r) (-1)).bind λs'=>mulB xs ys (i+1) s'
 |[],_,s=> .ret s
def negL (xs:List Int):List Int:=xs.map λx=> -x
def divB (xs wide:List Int):Nat->List Int->List Int->Bd (List Int×List Int)
 |n+1,r,q=>(lessB (xs.getD n 0::r) wide (-1)).bind λl=>(sumB (xs.getD n 0::r) (negL wide) 1).bind λu=>
   (eachB (muxB l) ((xs.getD n 0::r).take xs.length) (u.take xs.length)).bind λr'=>divB xs wide n r' (q.set n (-l))
 |0,r,q=> .ret (q,r)
def fromL (up:Bool) (fill:Int) (s:List Int) (by_ k:Nat):Int:=if up then(if k<by_ then fill else s.getD (k-by_) 0) else if k+by_<s.length then s.getD (k+by_) 0 else fill
def shiftB (up:Bool) (fill:Int):List Int->Nat->List Int->Bd (List Int)
 |c::ys,i,s=>(eachB (muxB c) ((List.range s.length).map (fromL up fill s (2^i))) s).bind λs'=>shiftB up fill ys (i+1) s'
 |[],_,s=> .ret s
def unB (op:Int) (x:List Int):Bd (List Int):=if op=1 then .ret (negL x) else sumB (offsL x.length) (negL x) 1
def binB (op:Int) (x y:List Int):Bd (List Int):=
 if op=14 then .ret (y++x)
 else if op=3 then eachB (λa b=> .and a b .ret) x y
 else if op=4 then eachB orB x y
 else if op=5 then eachB (λa b=> .xor a b .ret) x y
 else if op=6 then sumB x y (-1)
 else if op=7 then sumB x (negL y) 1
 else if op=8 then mulB x y 0 (offsL x.length)
 else if op=9 then(divB x (y++[-1]) x.length (offsL x.length) (offsL x.length)).map (·.1)
 else if op=10 then(divB x (y++[-1]) x.length (offsL x.length) (offsL x.length)).map (·.2)
 else if op=11 then shiftB true (-1) y 0 x
 else if op=12 then shiftB false (-1) y 0 x
 else shiftB false (x.getD (x.length-1) 0) y 0 x
def swapT (x y:List Int):List Int:=x.set (x.length-1) (y.getD (x.length-1) 0)
def cmpB (op:Int) (x y:List Int):Bd Int:=
 if op=15 then sameB x y 1 else if op=16 then lessB x y (-1) else lessB (swapT x y) (swapT y x) (-1)
def hasL (k:Nat) (xs:List Int):Prop:=∀x,x∈xs->has k x
theorem hasL.mono {k l:Nat} {xs:List Int} (h:hasL k xs) (a:k<=l):hasL l xs:=λx b=>has_mono (h x b) a
theorem qS0 {k:Nat} {x:Int} {xs:List Int}:hasL k (x::xs)↔has k x/\hasL k xs:=by
 simp_all[hasL]
theorem U6 {k:Nat} {xs ys:List Int} (h:hasL k xs) (a:hasL k ys):hasL k (xs++ys):=λx b=>(gg.1 b).elim (h x) (a x)
theorem Jp {k:Nat} {xs:List Int} (h:hasL k xs):hasL k (negL xs):=λx a=>by
 obtain⟨y,b,rfl⟩:=gn.1 a;exact has_neg (h y b)
theorem Kk {k n:Nat} {xs:List Int} (h:hasL k xs):hasL k (xs.take n):=λx a=>h x (gU a)
theorem has_one {k:Nat} (h:1<=k):has k 1:=⟨dC,oM,oM⟩
theorem has_mone {k:Nat} (h:1<=k):has k (-1):=⟨dC,oM,oM⟩
theorem Kl {k n:Nat} (h:1<=k):hasL k (offsL n):=λx a=>by rw[GN a];exact has_mone h
theorem hasL_set {k n:Nat} {xs:List Int} {y:Int} (h:hasL k xs) (c:has k y):hasL k (xs.set n y):=λx b=>by
 rcases pF b with a|a
 ·exact h x a
 grind
theorem XR {k n:Nat} {xs:List Int} (h:hasL k xs) (a:n<xs.length) (d:Int):has k (xs.getD n d):=by
 rw[y0,y4 a];exact h _ (GZ a)
section
variable {k:Nat}
theorem from_has {up:Bool} {fill:Int} {s:List Int} {b j:Nat} (a:has k fill) (hs:hasL k s) (c:j<s.length):has k (fromL up fill s b j):=by
 grind [fromL,XR]
theorem swap_has {x y:List Int} (b:hasL k x) (c:hasL k y) (e:x.length=y.length) (a:x≠[]):hasL k (swapT x y):=by
 have d:0<x.length:=by grind
 exact hasL_set b (XR c oM 0)
end
end Go.M
end
end
