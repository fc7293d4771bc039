import Derived.Test.YtokflbdfnbppjaaGreatDoorWvbP1
import Derived.RangeFuncRecord
import Derived.Test.YtokflbdfnbppjaaGreatDoorProg
/- A part of the proof. -/
set_option linter.all false
namespace Go.Vc
open Go Go.RowKit
section
def hasR:Code->Bool
 | .rangeFunc _ _ _ _=>true
 | .seq a b=>hasR a||hasR b
 | .block _ b=>hasR b
 |_=>false
def ovrAt:List Nat->Fr->List Value->Fr
 |[],f,_=>f
 |p::r,f,args=>ovrAt r (put f (some p) (args.headD undef)) args.tail
def jmp (x:Nat) (Nn Nr Nx:World->Prop) (pe:Option Code) (w:World):Prop:=
 match pe with
 |none=>Nn w
 |some .ret=>Nr w
 |some (.exit i)=>i=x/\Nx w
 |_=>False
def Uz0 (P:Program) (gv:Value) (n x:Nat) (w:World) (B:List Value->(World->(World->Prop)->Prop)->(World->Prop)->(World->Prop)->(World->Prop)->World->Prop) (Nn Nr Nx:Nat->World->Prop):Prop:=
 ∃gf lb,gv= .func (.func gf) #[] lb/\∀(l D:Nat) (w1:World) (RR:LoopState->Option Code->World->Prop),D=w.heap.size->l=w.heap.size+1->Ext w w1->w1.heap.size=w.heap.size+2->w1.heap[D]?=some (.deferred (some []))->
  (∀st pe w' w'',RR st pe w'->w''.heap[l]?=w'.heap[l]?->RR st pe w'')->RR .ready none w1->
  (∀(args:List Value) (w':World) (K:Value->World->Prop),args.length=n->RR .ready none w'->
   B args (λw1 k=>RR .ready none w1/\∀w2,Same (· =l) w1 w2->w2.heap.size=w1.heap.size->RR .busy none w2->k w2)
    (λw3=>RR .busy none w3/\∀w4,Same (· =l) w3 w4->w4.heap.size=w3.heap.size->RR .ready none w4->K (.bool true) w4)
    (λw3=>RR .busy none w3/\∀w4,Same (· =l) w3 w4->w4.heap.size=w3.heap.size->RR .done (some .ret) w4->K (.bool false) w4)
    (λw3=>RR .busy none w3/\∀w4,Same (· =l) w3 w4->w4.heap.size=w3.heap.size->RR .done (some (.exit x)) w4->K (.bool false) w4) w'->
   vcallv P (.func (.yield l) #[] #[]) ⟨args⟩ w' K)->
  vcall P gf ⟨.func (.yield l) #[] #[]::lb.toList⟩ w1 λ_ w3=> ∃st pe,st≠ .busy/\RR st pe w3/\∀w4,Same (· =l) w3 w4->w4.heap.size=w3.heap.size->jmp x (Nn D) (Nr D) (Nx D) pe w4
def rndK (x:Nat) (kn kr kx:World->Prop) (e:Exit) (_:Fr) (w:World):Prop:=
 match e with
 | .normal=>kn w
 | .ret=>kr w
 | .exit i=>cond (Nat.beq i x) (kx w) False
 |_=>False
def vx (P:Program) (T:Ann) (x:Nat):Code->(Exit->Fr->World->Prop)->(Nat->Exit->Fr->World->Prop)->Fr->World->Prop
 | .rangeFunc g ps asg body,_,K1,f,w=>
  Uz0 P (ev f g) ps.size x w
   (λargs beg kn kr kx w'=>vc P T asg (seqK (λf1 w1=>beg w1 λw2=>vc P T body (rndK x kn kr kx) f1 w2) (λ_ _ _=>False)) (ovrAt ps.toList f args) w')
   (λD w'=>K1 D .normal f w') (λD w'=>K1 D .ret f w') (λD w'=>K1 D (.exit x) f w')
 | .seq a b,K0,K1,f,w=>
  match hasR a with
  |true=>vx P T x a (seqK (λf' w'=>vc P T b K0 f' w') K0) (λD=>seqK (λf' w'=>vc P T b (K1 D) f' w') (K1 D)) f w
  |false=>vc P T a (seqK (λf' w'=>vx P T x b K0 K1 f' w') K0) f w
 | .block id c,K0,K1,f,w=>vx P T x c (blkK id K0) (λD=>blkK id (K1 D)) f w
 |_,_,_,_,_=>False
def okX (n:Nat) (T:Ann):Code->Bool
 | .rangeFunc _ ps asg body=>okC n T asg&&(okC n T body&&ps.toList.all λp=>Nat.blt p n)
 | .seq a b=>cond (hasR a) (okX n T a&&okC n T b) (okC n T a&&okX n T b)
 | .block _ c=>okX n T c
 |_=>false
def UM0 (D:Nat):Deferred:={target:= .collected D,args:= #[]}
def Wk0 (n:Nat) (K0:Exit->Fr->World->Prop) (K1:Nat->Exit->Fr->World->Prop) (e:Exit) (a:Act) (w:World):Prop:=
 (∃f',Sim [] n f' a/\K0 e f' w)\/ ∃D f',Sim [UM0 D] n f' a/\K1 D e f' w
section
variable {P:Program} {T:Ann} {n x:Nat}
theorem WM0:∀(ps:List Nat) (f:Fr) (args:List Value) (tmps:Array Value),args.length=ps.length->ps.all (λp=>Nat.blt p n)=true->tmps.size=n->(∀t,tmps.getD t undef=f t)->
  Sim [] n (ovrAt ps f args) {tmps:=(ps.zip args).foldl (λt p=>t.setIfInBounds p.1 p.2) tmps,defers:=[]}:=by
 intro ps;induction ps with
 |nil=>intro f args tmps _ _ hs a;exact⟨hs,rfl,a⟩
 |cons p r g=>
  intro f args tmps d b hs a;cases args with
  |nil=>simp at d
  |cons v args=>
   simp only[List.all_cons,K3] at b;have c:p<n:=(by simpa[pW] using b.1);refine g (put f (some p) v) args (tmps.setIfInBounds p v) (by simpa using d) b.2 (by simpa using hs) λt=>?_;by_cases e:t=p
   ·subst e;rw[qp0];simp[gN,hs,c]
   ·rw[kK0 _ _ _ _ e,<-a t];simp only[gN];rw[Pq (Ne.symm e)]
theorem Wi (w:World) (l:Nat) (o:Obj):Same (· =l) w (w.putObj l o):=
 ⟨rfl,rfl,rfl,by simp,λ_ _ a=>World.putObj_heap_other a⟩
theorem Wl {w:World} {l:Nat} {o:Obj} (h:w.heap[l]?=some o):l<w.heap.size:=(gB.1 h).1
theorem range_sound (hm:P.follows .mixedOrders=true) {g:Operand} {ps:Array Tmp} {asg body:Code} {U:Exit->Fr->World->Prop} {V:Nat->Exit->Fr->World->Prop} {f:Fr} {a:Act} {w:World}
  (z:okX n T (.rangeFunc g ps asg body)=true) (h:vx P T x (.rangeFunc g ps asg body) U V f w) (hs:Sim [] n f a):(Code.rangeFunc g ps asg body).wpIn (FR none) 0 P (Wk0 n U V) a w:=by
 simp only[okX,K3] at z;obtain⟨N,O,Q⟩:=z;obtain⟨gf,lb,hg,H⟩:=h;refine wpIn_rangeFunc λfn _=>?_
 let d:LoopState->Option Code->Loop:=λst pe=>{state:=st,pending:=pe,fn,tmps:=a.tmps,params:=ps,assign:=asg,body,defers:=w.heap.size}
 obtain⟨w1,q⟩:∃w1,(w.alloc (.deferred (some []))).alloc (.loop (d .ready none))=w1:=⟨_,rfl⟩;have G:w1.heap[w.heap.size+1]?=some (.loop (d .ready none)):=by
  rw[<-q];have:=World.alloc_heap_new (w.alloc (.deferred (some []))) (.loop (d .ready none));rwa[World.size_alloc] at this
 have hD1:w1.heap[w.heap.size]?=some (.deferred (some [])):=by
  rw[<-q];exact(Below.heap_alloc _ _ _ (by simp)).trans (World.alloc_heap_new w _)
 have D:w1.heap.size=w.heap.size+2:=by rw[<-q,World.size_alloc,World.size_alloc]
 have F:Ext w w1:=by
  rw[<-q];exact⟨rfl,rfl,rfl,by rw[World.size_alloc,World.size_alloc];omega,λb Z _=>(Below.heap_alloc _ _ b (by rw[World.size_alloc];omega)).trans (Below.heap_alloc w _ b Z)⟩
 have hc:=H (w.heap.size+1) w.heap.size w1 (λst pe w'=>w'.heap[w.heap.size+1]?=some (.loop (d st pe))) rfl rfl F D hD1 (λst pe w' w'' A he=>he.trans A) G ?_
 ·obtain⟨I,r⟩:=hc;refine⟨w.heap.size+1,[UM0 w.heap.size],w1,{target:= .fn (.func gf) lb,args:= #[.func (.yield (w.heap.size+1)) #[] #[]]},w1,gf,
   #[.func (.yield (w.heap.size+1)) #[] #[]]++lb,w1,?_,?_,λ_ _=>trivial,?_,λh=>(by cases h),?_⟩
  ·rw[<-q];exact run_enterLoop_outer _ _ _ _ _
  ·simp only[resolve,hs.eval,hg];simp[go_sem,ev]
  ·simp[invoke,go_sem,callFunc_run I]
  ·have e:(#[.func (.yield (w.heap.size+1)) #[] #[]]++lb:Array Value)=⟨.func (.yield (w.heap.size+1)) #[] #[]::lb.toList⟩:=by apply GJ.1;simp
   rw[e];refine callsIn_wide.2 (Calls.mono r λe E he=>?_);cases e with
   |returned v=>
    obtain⟨st,pe,S,A,Y⟩:=he;have u:=run_endLoop (P:=P) A (by exact S);have m:=Y _ (Wi E _ (.loop {d st pe with state:= .exhausted})) (by simp);have s:Sim [UM0 w.heap.size] n f {a with defers:=[UM0 w.heap.size]++a.defers}:=⟨hs.size,by rw[hs.defers];rfl,hs.at_⟩;refine⟨pe,_,u,?_⟩;cases pe with
    |none=>exact .inr ⟨_,f,s,m⟩
    |some c=>
     cases c<;>simp only[jmp] at m<;>try exact m.elim
     case exit i=>
      obtain⟨rfl,m⟩:=m;exact wpIn_exit (.inr ⟨_,f,s,m⟩)
     case ret=>exact wpIn_ret (.inr ⟨_,f,s,m⟩)
   |panicked c=>exact he.elim
   |outgrown=>exact he.elim
 ·intro args w' K hlen A X;have hy:=run_yield (P:=P) (args:=(⟨args⟩:Array Value)) A (by simpa[d] using hlen);refine⟨fn,_,asg,body,hy,roundIn_of_wpIn trivial ?_⟩;have C:=WM0 (n:=n) ps.toList f args a.tmps (by simpa using hlen) Q hs.size hs.at_;have ez:((d .ready none).params.zip (⟨args⟩:Array Value)).foldl (λtmps (t,a)=>tmps.setIfInBounds t a) (d .ready none).tmps=(ps.toList.zip args).foldl (λt p=>t.setIfInBounds p.1 p.2) a.tmps:=by
   rw[<-PL,Array.toList_zip]
  rw[ez];have W:=vc_sound (ro:=some (w.heap.size+1)) hm asg _ _ _ w' N X C (λl f w h=>h);refine wpIn_mono W ?_;rintro e a2 w2 ⟨f2,R,_,y⟩;cases e<;>simp only[seqK] at y<;>try exact y.elim
  case normal=>
   obtain⟨B,y⟩:=y;refine⟨_,run_beginRound B rfl,?_⟩;have M:=Wl B;have L:=y _ (Wi w2 _ (.loop {d .ready none with state:= .busy})) (by simp) (World.putObj_heap_same M);refine wpIn_mono (vc_sound (ro:=some (w.heap.size+1)) hm body _ _ _ _ O L R (λl f w h=>h)) ?_;rintro e a3 E ⟨f3,a0,_,j⟩;cases e<;>simp only[rndK] at j<;>try exact j.elim
   case normal=>
    obtain⟨k,o⟩:=j;exact⟨_,_,run_endRound none k,o _ (Wi E _ _) (by simp) (World.putObj_heap_same (Wl k))⟩
   case ret=>
    obtain⟨k,o⟩:=j;exact⟨_,_,run_endRound (some .ret) k,o _ (Wi E _ _) (by simp) (World.putObj_heap_same (Wl k))⟩
   case exit i=>
    cases J:Nat.beq i x
    ·rw[J] at j;exact j.elim
    ·rw[J] at j;obtain rfl:=gp J;obtain⟨k,o⟩:=j;exact⟨_,_,run_endRound (some (.exit i)) k,o _ (Wi E _ _) (by simp) (World.putObj_heap_same (Wl k))⟩
theorem V70 (hm:P.follows .mixedOrders=true):∀(c:Code) (p:Exit->Fr->World->Prop) (q:Nat->Exit->Fr->World->Prop) (f:Fr) (a:Act) (w:World),okX n T c=true->vx P T x c p q f w->Sim [] n f a->
  (∀l f w,¬p (.goto l) f w)->(∀D l f w,¬q D (.goto l) f w)->c.wpIn (FR none) 0 P (Wk0 n p q) a w:=by
 intro c;induction c with
 |rangeFunc g ps asg body _ _=>intro p q f a w d h hs _ _;exact range_sound hm d h hs
 |seq y z ihy ihz=>
  intro p q f a w d h hs o s;refine wpIn_seq ?_;simp only[okX] at d;simp only[vx] at h;cases F:hasR y with
  |true=>
   rw[F] at d h;simp only[cond,K3] at d;simp only at h;refine wpIn_mono (ihy _ _ f a w d.1 h hs (λl f w h=>o l f w h) (λD l f w h=>s D l f w h)) ?_;rintro e r w' (⟨m,j,k⟩|⟨D,m,j,k⟩)
   ·cases e with
    |normal=>
     refine wpIn_mono (vc_sound hm z p m r w' d.2 k j o) ?_;rintro e B w'' ⟨u,t,_,v⟩;exact .inl ⟨u,t,v⟩
    |_=>exact .inl ⟨m,j,k⟩
   ·cases e with
    |normal=>
     refine wpIn_mono (vc_sound hm z (q D) m r w' d.2 k j (s D)) ?_;rintro e B w'' ⟨u,t,_,v⟩;exact .inr ⟨D,u,t,v⟩
    |_=>exact .inr ⟨D,m,j,k⟩
  |false=>
   rw[F] at d h;simp only[cond,K3] at d;simp only at h;refine wpIn_mono (vc_sound hm y _ f a w d.1 h hs (λl f w h=>o l f w h)) ?_;rintro e r w' ⟨m,j,_,k⟩;cases e with
   |normal=>exact ihz p q m r w' d.2 k j o s
   |_=>exact .inl ⟨m,j,k⟩
 |block id b G=>
  intro p q f a w d h hs o s;simp only[vx] at h;refine wpIn_block (wpIn_mono (G _ _ f a w d h hs (λl f w h=>o l f w h) (λD l f w h=>s D l f w h)) ?_);have key:∀(K:Exit->Fr->World->Prop) (e:Exit) (m:Fr) (w':World),blkK id K e m w'->∀(df:List Deferred) (r:Act),Sim df n m r->(∀e f w a,Sim df n f a->K e f w->Wk0 n p q e a w)->Exit.inBlock id (Wk0 n p q) e r w':=by
   intro K e m w' k df r j C;cases e with
   |exit i=>
    simp only[blkK] at k;cases A:Nat.beq i id
    ·rw[A] at k;have E:i≠id:=Nat.ne_of_beq_eq_false A;simp only[Exit.inBlock,E,if_false];exact C _ _ _ _ j k
    ·rw[A] at k;have:i=id:=gp A;subst this;simp only[Exit.inBlock,if_true];exact C _ _ _ _ j k
   |_=>exact C _ _ _ _ j k
  rintro e r w' (⟨m,j,k⟩|⟨D,m,j,k⟩)
  ·exact key p e m w' k [] r j λe f w a hs h=> .inl ⟨f,hs,h⟩
  ·exact key (q D) e m w' k [UM0 D] r j λe f w a hs h=> .inr ⟨D,f,hs,h⟩
 |_=>intro p q f a w d;exact absurd d (by simp[okX])
def Qs0 (D:Nat) (w:World) (k:World->Prop):Prop:=w.heap[D]?=some (.deferred (some []))/\∀w',Same (· =D) w w'->w'.heap.size=w.heap.size->k w'
def retM (P:Program) (rs:List ResultVar) (K:Value->World->Prop) (D:Nat) (e:Exit) (f:Fr) (w:World):Prop:=
 match e with
 | .normal=>Qs0 D w λw'=>Uk0 P rs f w' K
 | .ret=>Qs0 D w λw'=>Uk0 P rs f w' K
 |_=>False
theorem YW0 {g:Nat} {fn:Func} {c:Code} {args:List Value} {w:World} {K:Value->World->Prop} (hm:P.follows .mixedOrders=true) (r:P.funcs[g]?=some fn) (q:fn.body=some c)
  (t:fn.ntmps=n) (s:okFn P g=true) (j:okX n T c=true) (hlen:Nat.ble args.length n=true)
  (h:vx P T x c (retF P fn.results.toList K) (retM P fn.results.toList K) (nthV args) w):vcall P g args.toArray w K:=by
 refine⟨s,callsIn_wide (n:=0).1 (callsIn_of_wp_marks r q trivial ?_)⟩;rw[t];refine wpIn_mono (V70 (x:=x) hm c _ _ _ _ w j h (sim_enter args n (Gi hlen)) (λl f w h=>h) (λD l f w h=>h)) ?_;rintro e k w' (⟨m,a,b⟩|⟨D,m,a,b⟩)
 ·cases e with
  |normal=>obtain⟨v,d,i⟩:=vres_sound b a;rw[bodyPostM,a.defers];exact⟨v,d,i⟩
  |ret=>obtain⟨v,d,i⟩:=vres_sound b a;rw[bodyPostM,a.defers];exact⟨v,d,i⟩
  |_=>exact b.elim
 ·have fin:Qs0 D w' (λw'=>Uk0 P fn.results.toList m w' K)->LeavesInM (FR none) 0 P fn k.tmps (retK K) k.defers .returning w':=by
   rintro⟨o,p⟩;rw[a.defers];obtain⟨v,d,i⟩:=vres_sound (p _ (Wi w' D (.deferred none)) (by simp)) a;exact⟨by simp,.inl ⟨_,_,rfl,run_takeDeferred o,v,d,i⟩⟩
  cases e with
  |normal=>exact fin b
  |ret=>exact fin b
  |_=>exact b.elim
end
end
end Go.Vc
section
namespace Go.M
inductive Tm where
 |mk (op a b:Int) (s:ByteArray) (ks:List Tm)
namespace Tm
def op:Tm->Int|mk o _ _ _ _=>o
def a:Tm->Int|mk _ a _ _ _=>a
def b:Tm->Int|mk _ _ b _ _=>b
def s:Tm->ByteArray|mk _ _ _ s _=>s
def ks:Tm->List Tm|mk _ _ _ _ ks=>ks
theorem ind {p:Tm->Prop} (h:∀t,(∀k,k∈t.ks->p k)->p t):∀t,p t
 |mk o a b s ks=>h _ λk (c:k∈ks)=>by
   have:=List.sizeOf_lt_of_mem c;exact ind h k
decreasing_by
 simp only[mk.sizeOf_spec];omega
variable {α:Type}
mutual
def fold (f:Tm->List α->α):Tm->α
 |mk o a b s ks=>f (mk o a b s ks) (foldL f ks)
def foldL (f:Tm->List α->α):List Tm->List α
 |[]=>[]
 |k::r=>fold f k::foldL f r
end
theorem foldL_eq (f:Tm->List α->α) (ks:List Tm):foldL f ks=ks.map (fold f):=by
 induction ks with
 |nil=>simp only[foldL,Pm]
 |cons k r a=>simp only[foldL,a,gU]
theorem fold_eq (f:Tm->List α->α) (t:Tm):fold f t=f t (t.ks.map (fold f)):=by
 cases t with
 |mk o a b s ks=>simp only[fold,foldL_eq];rfl
end Tm
def nada:ByteArray:=⟨#[]⟩
instance:Inhabited Tm:=⟨.mk 0 0 0 nada []⟩
def vok (w n:Int):Bool:=decide (1<=w)&&decide (w<=4)&&decide (0<=n)&&decide (n<2^w.toNat)
theorem vok_iff {w n:Int}:vok w n=true↔1<=w/\w<=4/\0<=n/\n<2^w.toNat:=by simp[vok,and_assoc]
theorem UE0:(2:Int)^(1:Int).toNat=2:=rfl
theorem UD0:(2:Int)^(2:Int).toNat=4:=rfl
theorem UC0:(2:Int)^(3:Int).toNat=8:=rfl
theorem UB0:(2:Int)^(4:Int).toNat=16:=rfl
theorem four {w:Int} (a:1<=w) (b:w<=4):w=1\/w=2\/w=3\/w=4:=oM
theorem vok_lt {w n:Int} (h:vok w n=true):1<=w/\w<=4/\0<=n/\n<16:=by
 obtain⟨a,b,c,d⟩:=vok_iff.1 h;refine⟨a,b,c,?_⟩;rcases four a b with rfl|rfl|rfl|rfl<;>simp only[UE0,UD0,UC0,UB0] at d<;>omega
theorem small1 {p:Nat->Nat->Prop} [∀w n,Decidable (p w n)] (h:∀w:Fin 5,∀n:Fin 16,1<=w.1->n.1<2^w.1->p w n) {w n:Int} (a:vok w n=true):p w.toNat n.toNat:=by
 obtain⟨b,c,d,e⟩:=vok_lt a;obtain⟨_,_,_,f⟩:=vok_iff.1 a;refine h ⟨w.toNat,oM⟩ ⟨n.toNat,oM⟩ (by show 1<=w.toNat;omega) ?_;show n.toNat<2^w.toNat;have:((2^w.toNat:Nat):Int)=2^w.toNat:=by simp
 omega
def unM (op w a:Int):Int:=if op=1 then 2^w.toNat-1-a else(2^w.toNat-a)%2^w.toNat
def binN (op w a b:Nat):Nat:=
 if op=3 then a&&&b
 else if op=4 then a|||b
 else if op=5 then a^^^b
 else if op=6 then(a+b)%2^w
 else if op=7 then(a+2^w-b)%2^w
 else if op=8 then a*b%2^w
 else if op=9 then(if b=0 then 2^w-1 else a/b)
 else if op=10 then(if b=0 then a else a%b)
 else if op=11 then a*2^b%2^w
 else if op=12 then a/2^b
 else if a<2^(w-1) then a/2^b else 2^w-1-(2^w-1-a)/2^b
def U90 (op w a b:Int):Int:=binN op.toNat w.toNat a.toNat b.toNat
def Wy0 (v a b:Int):Int:=a*2^v.toNat+b
def sgn (w a:Int):Int:=if a<2^(w.toNat-1) then a else a-2^w.toNat
def cmpM (op w a b:Int):Bool:=if op=15 then decide (a=b) else if op=16 then decide (a<b) else decide (sgn w a<sgn w b)
def cutM (a hi lo:Int):Int:=a/2^lo.toNat%2^(hi-lo+1).toNat
theorem unM_ok {op w a:Int} (h:vok w a=true):vok w (unM op w a)=true:=by
 obtain⟨b,c,e,d⟩:=vok_iff.1 h;refine vok_iff.2 ⟨b,c,?_⟩;unfold unM;rcases four b c with rfl|rfl|rfl|rfl<;>simp only[UE0,UD0,UC0,UB0] at d⊢ <;>split<;>omega
def UY0 (op w:Nat):Bool:=(List.range 16).all λa=>(List.range 16).all λb=> !(decide (a<2^w)&&decide (b<2^w))||decide (binN op w a b<2^w)
theorem binN_lt {op w a b:Nat} (f:3<=op) (h:op<=13) (hw:1<=w) (d:w<=4) (g:a<2^w) (i:b<2^w):binN op w a b<2^w:=by
 have c:∀o:Fin 14,∀v:Fin 5,3<=o.1->1<=v.1->UY0 o v=true:=by decide+kernel
 have e:2^w<=2^4:=gP oM d;have:=c ⟨op,oM⟩ ⟨w,oM⟩ f hw;simp only[UY0,gH,gr,gQ,gZ,GQ,decide_eq_false_iff_not,decide_eq_true_eq] at this;rcases this a oM b oM with(h|h)|h
 ·exact absurd g h
 ·exact absurd i h
 ·exact h
theorem binM_ok {op w a b:Int} (k:3<=op) (d:op<=13) (i:vok w a=true) (j:vok w b=true):vok w (U90 op w a b)=true:=by
 obtain⟨c,f,l,m⟩:=vok_iff.1 i;obtain⟨_,_,g,h⟩:=vok_iff.1 j;have e:((2^w.toNat:Nat):Int)=2^w.toNat:=by simp
 have:=binN_lt (op:=op.toNat) (w:=w.toNat) (a:=a.toNat) (b:=b.toNat) oM oM oM oM oM oM;refine vok_iff.2 ⟨c,f,by unfold U90;omega,?_⟩;unfold U90;omega
theorem cat_ok {v w a b:Int} (g:vok w a=true) (h:vok v b=true) (hs:w+v<=4):vok (w+v) (Wy0 v a b)=true:=by
 obtain⟨c,d,l,f⟩:=vok_iff.1 g;obtain⟨i,j,m,k⟩:=vok_iff.1 h;refine vok_iff.2 ⟨oM,hs,?_⟩;unfold Wy0;have e:(w+v).toNat=w.toNat+v.toNat:=oM
 rw[e,Int.pow_add];rcases four c d with rfl|rfl|rfl|rfl<;>rcases four i j with rfl|rfl|rfl|rfl<;>simp only[UE0,UD0,UC0,UB0] at f k⊢ <;>omega
theorem cut_ok {w a b lo:Int} (c:vok w a=true) (d:0<=lo) (i:lo<=b) (hw:b<w):vok (b-lo+1) (cutM a b lo)=true:=by
 obtain⟨e,f,g,h⟩:=vok_iff.1 c;refine vok_iff.2 ⟨oM,oM,?_⟩;unfold cutM;have:(0:Int)<2^(b-lo+1).toNat:=Int.pow_pos oM;exact⟨Int.emod_nonneg _ oM,Int.emod_lt_of_pos _ this⟩
def vecUn (op w n:Int):(Int×Int)×Bool:=if vok w n=true/\(op=1\/op=2) then((w,unM op w n),true) else((0,0),false)
def vecBin (op w n v m:Int):(Int×Int)×Bool:=
 if vok w n=true/\vok v m=true then
  if op=14 then(if w+v<=4 then((w+v,Wy0 v n m),true) else((0,0),false))
  else if 3<=op/\op<=13/\w=v then((w,U90 op w n m),true) else((0,0),false)
 else((0,0),false)
def vecCmp (op w n v m:Int):Bool×Bool:=
 if vok w n=true/\vok v m=true/\w=v/\15<=op/\op<=17 then(cmpM op w n m,true) else(false,false)
def vecCut (w n hi lo:Int):(Int×Int)×Bool:=if vok w n=true/\0<=lo/\lo<=hi/\hi<w then((hi-lo+1,cutM n hi lo),true) else((0,0),false)
theorem vok_nat {w n:Int} (h:vok w n=true):∃k a:Nat,w=k/\n=a/\1<=k/\k<=4/\a<2^k:=by
 obtain⟨b,c,d,e⟩:=vok_iff.1 h;refine⟨w.toNat,n.toNat,oM,oM,oM,oM,?_⟩;have:((2^w.toNat:Nat):Int)=2^w.toNat:=by simp
 omega
theorem unM_not {k a:Nat} (c:1<=k) (d:k<=4) (h:a<2^k):unM 1 k a=((18446744073709551615-a)%2^k:Nat):=by
 have b:∀v:Fin 5,∀x:Fin 16,1<=v.1->x.1<2^v.1->unM 1 v.1 x.1=((18446744073709551615-x.1)%2^v.1:Nat):=by decide+kernel
 have:2^k<=2^4:=gP oM d;exact b ⟨k,oM⟩ ⟨a,oM⟩ c h
theorem unM_neg {k a:Nat} (c:1<=k) (d:k<=4) (h:a<2^k):unM 2 k a=((if a=0 then 0 else 18446744073709551616-a)%2^k:Nat):=by
 have b:∀v:Fin 5,∀x:Fin 16,1<=v.1->x.1<2^v.1->unM 2 v.1 x.1=((if x.1=0 then 0 else 18446744073709551616-x.1)%2^v.1:Nat):=by decide+kernel
 have:2^k<=2^4:=gP oM d;exact b ⟨k,oM⟩ ⟨a,oM⟩ c h
theorem cat_or {k v a b:Nat} (d:v<=4) (f:k<=4) (i:a<2^k) (e:b<2^v):((a*2^v|||b:Nat):Int)=Wy0 v a b:=by
 have c:∀v:Fin 5,∀x y:Fin 16,y.1<2^v.1->x.1*2^v.1|||y.1=x.1*2^v.1+y.1:=by decide+kernel
 have g:2^k<=2^4:=gP oM f;have h:2^v<=2^4:=gP oM d;have:=c ⟨v,oM⟩ ⟨a,oM⟩ ⟨b,oM⟩ e;simp only at this;rw[this];simp[Wy0]
end Go.M
end
namespace Go.M
open Go.Vc
abbrev Dcl:=ByteArray×Int
def findD (ds:List Dcl) (s:ByteArray):Int:=idxI ds.length λi=>decide ((ds.getD i (nada,0)).1=s)
def tru:ByteArray:=⟨#[116,114,117,101]⟩
def nameOk (s:ByteArray):Bool:=decide (1<=s.size)&&decide (s.size<=4)&&decide (s≠tru)&&s.data.all λc=>decide (97<=c.toNat)&&decide (c.toNat<=122)
def bits (ds:List Dcl):Int:=(ds.map (·.2)).sum
def dclOk (ds:List Dcl) (i:Nat):Bool:=nameOk (ds.getD i (nada,0)).1&&decide (1<=(ds.getD i (nada,0)).2)&&decide ((ds.getD i (nada,0)).2<=4)&&decide (findD (ds.take i) (ds.getD i (nada,0)).1<0)
def declOk (ds:List Dcl):Bool:=decide (ds.length<=4)&&((List.range ds.length).all λi=>dclOk ds i)&&decide (bits ds<=8)
def envOk (ds:List Dcl) (env:List Int):Bool:=declOk ds&&decide (env.length=ds.length)&&(List.range ds.length).all λi=>vok (ds.getD i (nada,0)).2 (env.getD i 0)
theorem findD_lt (ds:List Dcl) (s:ByteArray): -1<=findD ds s/\findD ds s<ds.length:=by
 unfold findD idxI;split
 ·rename_i i h;have:=Pa h;simp at this;omega
 ·omega
theorem findD_neg {ds:List Dcl} {s:ByteArray} (h:findD ds s<0) {j:Nat} (b:j<ds.length):(ds.getD j (nada,0)).1≠s:=by
 unfold findD idxI at h;split at h
 ·omega
 ·rename_i a;rw[G3] at a;have:=a j (gr.2 b);simpa using this
theorem findD_get {ds:List Dcl} {s:ByteArray} (h:0<=findD ds s):(ds.getD (findD ds s).toNat (nada,0)).1=s:=by
 unfold findD idxI at h⊢;split at h
 ·rename_i i a;have:=z0b a;simpa using this
 ·omega
theorem findD_of {ds:List Dcl} {s:ByteArray} {i:Nat} (a:i<ds.length) (h:(ds.getD i (nada,0)).1=s) (c:∀j,j<i->(ds.getD j (nada,0)).1≠s):findD ds s=i:=
 idxI_some a (by simp only[h,decide_true]) λj b=>decide_eq_false (c j b)
theorem findD_none {ds:List Dcl} {s:ByteArray} (b:∀j,j<ds.length->(ds.getD j (nada,0)).1≠s):findD ds s= -1:=
 qP0 λj a=>decide_eq_false (b j a)
theorem decl_iff {ds:List Dcl}:declOk ds=true↔ds.length<=4/\(∀i,i<ds.length->dclOk ds i=true)/\bits ds<=8:=by
 simp only[declOk,K3,gH,gr,decide_eq_true_eq,and_assoc]
theorem take_getD {α:Type} {l:List α} {i j:Nat} {d:α} (h:j<i):(l.take i).getD j d=l.getD j d:=by
 simp[q0,pN,h]
theorem dcl_apart {ds:List Dcl} (h:declOk ds=true) {i j:Nat} (b:i<ds.length) (c:j<i):(ds.getD j (nada,0)).1≠(ds.getD i (nada,0)).1:=by
 have:=(decl_iff.1 h).2.1 i b;simp only[dclOk,K3,decide_eq_true_eq] at this;have a:=findD_neg this.2 (j:=j) (by rw[gi];omega);rwa[take_getD c] at a
def bitT (ds:List Dcl) (i:Nat):Int:=((ds.take i).map (·.2)).sum
theorem bitT_succ {ds:List Dcl} {i:Nat} (h:i<ds.length):bitT ds (i+1)=bitT ds i+(ds.getD i (nada,0)).2:=by
 unfold bitT;rw[pb,Q1 h,gu,Pe,q0,Q1 h];simp
theorem bitT_all (ds:List Dcl):bitT ds ds.length=bits ds:=by unfold bitT bits;rw[gA]
theorem dcl_wide {ds:List Dcl} (h:declOk ds=true) {i:Nat} (b:i<ds.length):1<=(ds.getD i (nada,0)).2/\(ds.getD i (nada,0)).2<=4:=by
 simp only[declOk,K3,gH,gr,dclOk,decide_eq_true_eq] at h;obtain⟨⟨_,a⟩,_⟩:=h;exact⟨(a i b).1.1.2,(a i b).1.2⟩
theorem env_ok {ds:List Dcl} {env:List Int} (h:envOk ds env=true):declOk ds=true/\env.length=ds.length/\∀i,i<ds.length->vok (ds.getD i (nada,0)).2 (env.getD i 0)=true:=by
 simp only[envOk,K3,gH,gr,decide_eq_true_eq] at h;exact⟨h.1.1,h.1.2,h.2⟩
def sizeM:Tm->Nat:=Tm.fold λ_ xs=>1+xs.sum
def deepM:Tm->Nat:=Tm.fold λ_ xs=>1+xs.foldl max 0
theorem sizeM_eq (t:Tm):sizeM t=1+(t.ks.map sizeM).sum:=Tm.fold_eq _ t
theorem Wq (t:Tm):deepM t=1+(t.ks.map deepM).foldl max 0:=Tm.fold_eq _ t
def szT (ks:List Tm) (i:Nat):Nat:=((ks.take i).map sizeM).sum
def dpT (ks:List Tm) (i:Nat):Nat:=((ks.take i).map deepM).foldl max 0
theorem take_add {α:Type} {l:List α} {i:Nat} (h:i<l.length) (d:α):l.take (i+1)=l.take i++[l.getD i d]:=by
 rw[pb,Q1 h,q0,Q1 h];rfl
theorem szT_succ {ks:List Tm} {i:Nat} (h:i<ks.length):szT ks (i+1)=szT ks i+sizeM (ks.getD i default):=by
 unfold szT;rw[take_add h default,gu,Pe];simp
theorem dpT_succ {ks:List Tm} {i:Nat} (h:i<ks.length):dpT ks (i+1)=max (dpT ks i) (deepM (ks.getD i default)):=by
 unfold dpT;rw[take_add h default,gu,List.foldl_append];rfl
theorem szT_all (t:Tm):sizeM t=1+szT t.ks t.ks.length:=by rw[sizeM_eq,szT,gA]
theorem dpT_all (t:Tm):deepM t=1+dpT t.ks t.ks.length:=by rw[Wq,dpT,gA]
theorem szT_mono {ks:List Tm} {i:Nat}:∀{j:Nat},i<=j->j<=ks.length->szT ks i<=szT ks j
 |0,h,_=>by
  have:i=0:=oM;subst this;exact gq _
 |j+1,h,a=>by
  by_cases e:i=j+1
  ·subst e;exact gq _
  ·have:=szT_mono (ks:=ks) (i:=i) (j:=j) oM oM;rw[szT_succ oM];omega
theorem dpT_mono {ks:List Tm} {i:Nat}:∀{j:Nat},i<=j->j<=ks.length->dpT ks i<=dpT ks j
 |0,h,_=>by
  have:i=0:=oM;subst this;exact gq _
 |j+1,h,a=>by
  by_cases e:i=j+1
  ·subst e;exact gq _
  ·have:=dpT_mono (ks:=ks) (i:=i) (j:=j) oM oM;rw[dpT_succ oM];omega
def fits (t:Tm):Bool:=decide (sizeM t<=20)&&decide (deepM t<=7)
theorem fits_iff {t:Tm}:fits t=true↔sizeM t<=20/\deepM t<=7:=by simp[fits]
def manyM (t:Tm):Nat:=if fits t then sizeM t else 21
def lvlM (t:Tm):Nat:=if fits t then deepM t else 8
def arity (o:Int):Int:=if o=20\/o=21\/o=24 then 0 else if o=1\/o=2\/o=22\/o=25 then 1 else if o=23 then 3 else if o=26\/o=27 then 2 else if 3<=o/\o<=17 then 2 else-1
def plainM (t:Tm):Bool:=(decide (t.op=20)||decide (t.op=22)||(decide (t.a=0)&&decide (t.b=0)))&&(decide (t.op=21)||decide (t.s=nada))
def sortK (ds:List Dcl) (t:Tm) (xs:List Int):Int:=
 if t.op=20 then(if vok t.a t.b then t.a else-1)
 else if t.op=21 then(if findD ds t.s<0 then-1 else(ds.getD (findD ds t.s).toNat (nada,0)).2)
 else if 24<=t.op then(if xs.any (λx=>decide (x≠0)) then-1 else 0)
 else if t.op=23 then(if xs.getD 0 0=0/\xs.getD 1 0=xs.getD 2 0 then xs.getD 1 0 else-1)
 else if t.op=22 then(if 0<=t.b/\t.b<=t.a/\t.a<xs.getD 0 0 then t.a-t.b+1 else-1)
 else if t.op<=2 then(if 0<xs.getD 0 0 then xs.getD 0 0 else-1)
 else if t.op=14 then(if 0<xs.getD 0 0/\0<xs.getD 1 0/\xs.getD 0 0+xs.getD 1 0<=4 then xs.getD 0 0+xs.getD 1 0 else-1)
 else if 15<=t.op then(if 0<xs.getD 0 0/\xs.getD 0 0=xs.getD 1 0 then 0 else-1)
 else(if 0<xs.getD 0 0/\xs.getD 0 0=xs.getD 1 0 then xs.getD 0 0 else-1)
def formed (t:Tm):Bool:=decide (arity t.op=t.ks.length)&&plainM t
def sortF (ds:List Dcl) (t:Tm) (xs:List Int):Int:=if formed t=true/\¬(-1∈xs) then sortK ds t xs else-1
def sortM (ds:List Dcl):Tm->Int:=Tm.fold (sortF ds)
theorem sortM_eq (ds:List Dcl) (t:Tm):sortM ds t=sortF ds t (t.ks.map (sortM ds)):=Tm.fold_eq _ t
theorem arity_ops {o:Int} (h:0<=arity o):(1<=o/\o<=17)\/(20<=o/\o<=27):=by
 unfold arity at h
 repeat' (split at h)
 all_goals omega
theorem getD_map {α β:Type} (f:α->β) {l:List α} {i:Nat} (h:i<l.length) (d:β) (e:α):(l.map f).getD i d=f (l.getD i e):=by
 simp[q0,h]
theorem getD_mem {α:Type} {l:List α} {i:Nat} (h:i<l.length) (d:α):l.getD i d∈l:=by
 rw[q0,Q1 h];exact Gm h
theorem sort_parts {ds:List Dcl} {t:Tm} (h:sortM ds t≠ -1):formed t=true/\(∀k,k∈t.ks->sortM ds k≠ -1)/\sortM ds t=sortK ds t (t.ks.map (sortM ds)):=by
 rw[sortM_eq] at h⊢;unfold sortF at h⊢;split at h
 ·rename_i a;rw[if_pos a];exact⟨a.1,λk b e=>a.2 (e▸Ga b),rfl⟩
 ·exact absurd rfl h
theorem sort_range {ds:List Dcl} (c:declOk ds=true):∀t,-1<=sortM ds t/\sortM ds t<=4:=by
 refine Tm.ind λt g=>?_;rw[sortM_eq];unfold sortF;split
 ·rename_i d;have a:∀i,-1<=(t.ks.map (sortM ds)).getD i 0/\(t.ks.map (sortM ds)).getD i 0<=4:=λi=>by
   by_cases h:i<t.ks.length
   ·rw[getD_map _ h 0 default];exact g _ (getD_mem h _)
   ·rw[q0,pt (by simpa using h)];simp
  have j:=a 0;have k:=a 1;have l:=a 2;have b:=arity_ops (o:=t.op) (by
   have:=d.1;simp only[formed,K3,decide_eq_true_eq] at this;omega)
  unfold sortK;split
  ·split
   ·rename_i f;have:=vok_lt f;omega
   ·omega
  ·split
   ·have e:=findD_lt ds t.s;split
    ·omega
    ·have:=dcl_wide c (i:=(findD ds t.s).toNat) oM;omega
   ·repeat' split
    all_goals omega
 ·omega
def tsort (ds:List Dcl) (t:Tm):Int:=if fits t=true/\declOk ds=true then sortM ds t else-1
def b2i (b:Bool):Int:=if b then 1 else 0
def valK (ds:List Dcl) (env:List Int) (t:Tm) (xs:List (Int×Int)):Int:=
 if t.op=20 then t.b
 else if t.op=21 then env.getD (findD ds t.s).toNat 0
 else if t.op=24 then 1
 else if t.op=25 then b2i (decide ((xs.getD 0 (0,0)).2=0))
 else if t.op=26 then b2i (decide ((xs.getD 0 (0,0)).2=1)&&decide ((xs.getD 1 (0,0)).2=1))
 else if t.op=27 then b2i (decide ((xs.getD 0 (0,0)).2=1)||decide ((xs.getD 1 (0,0)).2=1))
 else if t.op=23 then(if(xs.getD 0 (0,0)).2=1 then(xs.getD 1 (0,0)).2 else(xs.getD 2 (0,0)).2)
 else if t.op=22 then cutM (xs.getD 0 (0,0)).2 t.a t.b
 else if t.op<=2 then unM t.op (xs.getD 0 (0,0)).1 (xs.getD 0 (0,0)).2
 else if t.op=14 then Wy0 (xs.getD 1 (0,0)).1 (xs.getD 0 (0,0)).2 (xs.getD 1 (0,0)).2
 else if 15<=t.op then b2i (cmpM t.op (xs.getD 0 (0,0)).1 (xs.getD 0 (0,0)).2 (xs.getD 1 (0,0)).2)
 else U90 t.op (xs.getD 0 (0,0)).1 (xs.getD 0 (0,0)).2 (xs.getD 1 (0,0)).2
def vecF (ds:List Dcl) (env:List Int) (t:Tm) (xs:List (Int×Int)):Int×Int:=(sortF ds t (xs.map (·.1)),valK ds env t xs)
def vecM (ds:List Dcl) (env:List Int):Tm->Int×Int:=Tm.fold (vecF ds env)
def evalM (ds:List Dcl) (env:List Int) (t:Tm):Int:=(vecM ds env t).2
theorem Jt0 (ds:List Dcl) (env:List Int) (t:Tm):vecM ds env t=vecF ds env t (t.ks.map (vecM ds env)):=Tm.fold_eq _ t
theorem vecM_sort (ds:List Dcl) (env:List Int):∀t,(vecM ds env t).1=sortM ds t:=by
 refine Tm.ind λt b=>?_;rw[Jt0,sortM_eq];show sortF ds t _=_;rw[GM];congr 1;exact Gb λk a=>b k a
theorem vecM_pair (ds:List Dcl) (env:List Int) (t:Tm):vecM ds env t=(sortM ds t,evalM ds env t):=by rw[<-vecM_sort ds env t];rfl
theorem evalM_eq (ds:List Dcl) (env:List Int) (t:Tm):evalM ds env t=valK ds env t (t.ks.map (vecM ds env)):=by
 unfold evalM;rw[Jt0];rfl
def inS (w n:Int):Prop:=(w=0/\(n=0\/n=1))\/vok w n=true
theorem VI0 {b:Bool}:inS 0 (b2i b):=by left;cases b<;>simp[b2i]
theorem inS_zero {n:Int} (h:inS 0 n):n=0\/n=1:=by
 rcases h with h|h
 ·exact h.2
 ·exact absurd (vok_lt h).1 oM
theorem inS_pos {w n:Int} (h:inS w n) (hw:0<w):vok w n=true:=by
 rcases h with h|h
 ·omega
 ·exact h
def tok (ds:List Dcl) (t:Tm) (env:List Int):Bool:=decide (tsort ds t≠ -1)&&envOk ds env
def teval (ds:List Dcl) (t:Tm) (env:List Int):Int:=if tok ds t env then evalM ds env t else 0
theorem eval_in {ds:List Dcl} {env:List Int} (he:envOk ds env=true):∀t,sortM ds t≠ -1->inS (sortM ds t) (evalM ds env t):=by
 obtain⟨F,G,D⟩:=env_ok he;refine Tm.ind λt E h=>?_;obtain⟨w,B,hs⟩:=sort_parts h;rw[hs] at h;rw[hs,evalM_eq];simp only[formed,K3,decide_eq_true_eq] at w;obtain⟨b,C⟩:=w;have x:=arity_ops (o:=t.op) oM;have g:∀i,i<t.ks.length->(t.ks.map (sortM ds)).getD i 0=sortM ds (t.ks.getD i default):=λi k=>getD_map _ k _ _;have j:∀i,i<t.ks.length->(t.ks.map (vecM ds env)).getD i (0,0)=(sortM ds (t.ks.getD i default),evalM ds env (t.ks.getD i default)):=λi k=>by
  rw[getD_map _ k _ default,vecM_pair]
 have c:∀i,i<t.ks.length->inS (sortM ds (t.ks.getD i default)) (evalM ds env (t.ks.getD i default)):=λi k=>E _ (getD_mem k _) (B _ (getD_mem k _));unfold sortK at h⊢;unfold valK;by_cases n:t.op=20
 ·simp only[n,if_true] at h⊢;split
  ·right;assumption
  ·rename_i r;rw[if_neg r] at h;exact absurd rfl h
 simp only[if_neg n] at h⊢;by_cases p:t.op=21
 ·simp only[p,if_true] at h⊢;have A:=findD_lt ds t.s;split
  ·rename_i r;rw[if_pos r] at h;exact absurd rfl h
  ·right;exact D _ oM
 simp only[if_neg p] at h⊢;by_cases q:24<=t.op
 ·simp only[if_pos q] at h⊢;split
  ·rename_i r;rw[if_pos r] at h;exact absurd rfl h
  ·rcases(by omega:t.op=24\/t.op=25\/t.op=26\/t.op=27) with e|e|e|e
   ·left;simp[e]
   ·simp only[e];exact VI0
   ·simp only[e];exact VI0
   ·simp only[e];exact VI0
 simp only[if_neg q,if_neg (show¬t.op=24 by omega),if_neg (show¬t.op=25 by omega),if_neg (show¬t.op=26 by omega),if_neg (show¬t.op=27 by omega)] at h⊢;by_cases f:t.op=23
 ·simp only[f,if_true] at h⊢;have u:t.ks.length=3:=by rw[f] at b;simp[arity] at b;omega
  rw[g 0 oM,g 1 oM,g 2 oM] at h⊢;rw[j 0 oM,j 1 oM,j 2 oM];split
  ·rename_i a;simp only;split
   ·exact c 1 oM
   ·rw[a.2];exact c 2 oM
  ·rename_i a;rw[if_neg a] at h;exact absurd rfl h
 simp only[if_neg f] at h⊢;by_cases d:t.op=22
 ·simp only[d,if_true] at h⊢;have u:t.ks.length=1:=by rw[d] at b;simp[arity] at b;omega
  rw[g 0 oM] at h⊢;rw[j 0 oM];split
  ·rename_i a;right;exact cut_ok (inS_pos (c 0 oM) oM) a.1 a.2.1 a.2.2
  ·rename_i a;rw[if_neg a] at h;exact absurd rfl h
 simp only[if_neg d] at h⊢;by_cases v:t.op<=2
 ·simp only[if_pos v] at h⊢;have u:t.ks.length=1:=by
   have:t.op=1\/t.op=2:=oM;rcases this with e|e<;>rw[e] at b<;>simp[arity] at b<;>omega
  rw[g 0 oM] at h⊢;rw[j 0 oM];split
  ·rename_i a;right;exact unM_ok (inS_pos (c 0 oM) oM)
  ·rename_i a;rw[if_neg a] at h;exact absurd rfl h
 simp only[if_neg v] at h⊢;have u:t.ks.length=2:=by
  unfold arity at b;rw[if_neg oM,if_neg oM,if_neg oM,if_neg oM,if_pos oM] at b;omega
 have y:=g 0 oM;have z:=g 1 oM;rw[y,z] at h⊢;rw[j 0 oM,j 1 oM];have i0:=c 0 oM;have i1:=c 1 oM;by_cases l:t.op=14
 ·simp only[l,if_true] at h⊢;split
  ·rename_i a;right;exact cat_ok (inS_pos i0 a.1) (inS_pos i1 a.2.1) a.2.2
  ·rename_i a;rw[if_neg a] at h;exact absurd rfl h
 simp only[if_neg l] at h⊢;by_cases m:15<=t.op
 ·simp only[if_pos m] at h⊢;split
  ·exact VI0
  ·rename_i a;rw[if_neg a] at h;exact absurd rfl h
 simp only[if_neg m] at h⊢;split
 ·rename_i a;right;refine binM_ok oM oM (inS_pos i0 a.1) ?_;rw[a.2];exact inS_pos i1 oM
 ·rename_i a;rw[if_neg a] at h;exact absurd rfl h
end Go.M
namespace Go.Vc
open Go Go.M
section
section
variable {P:Program} {F F' S:Nat->Prop} {w w':World} {K:Value->World->Prop} {k:Nat} {v:Value} {xs:List (List Value)}
theorem Sl.ldAgg (h:Sl F w k v xs) {t:TypeId} (c:aggB P t k=true) {i:Nat} (a:i<xs.length):zf P t (.pointer (some (eaddr v k i))) w K=K (.agg ⟨xs.getD i []⟩) w:=by
 have b:(xs.getD i []).length=k:=h.wide _ (M.getD_mem a _);exact zp0 (by rw[b];exact c) (Sl.cells h a)
theorem Sl.ldField (h:Sl F w k v xs) {t:TypeId} (b:oneB P t=true) {i j:Nat} {x:Value} (a:i<xs.length) (c:(xs.getD i [])[j]?=some x):zf P t (.pointer (some ((eaddr v k i).add j))) w K=K x w:=
 yF b (Sl.cells h a j x c)
theorem Sl.small (h:Sl F w k v xs):xs.length<=9223372036854775807:=by
 obtain⟨_,_,_,a,b,_⟩:=h.shape;omega
end
inductive TmR (F:Nat->Prop) (w:World):List Value->Tm->Prop
 |mk {o a b:Int} {s:ByteArray} {ks:List Tm} {kv:Value} {css:List (List Value)}:Sl F w 5 kv css->css.length=ks.length->(∀i,i<ks.length->TmR F w (css.getD i []) (ks.getD i default))->
  TmR F w [.int .i64 o,.int .i64 a,.int .i64 b,.string s,kv] (.mk o a b s ks)
def TmsR (F:Nat->Prop) (w:World) (kv:Value) (ks:List Tm):Prop:= ∃css:List (List Value),Sl F w 5 kv css/\css.length=ks.length/\∀i,i<ks.length->TmR F w (css.getD i []) (ks.getD i default)
def TermR (F:Nat->Prop) (w:World) (v:Value) (t:Tm):Prop:= ∃kv,v= .agg ⟨[.int .i64 t.op,.int .i64 t.a,.int .i64 t.b,.string t.s,kv]⟩/\TmsR F w kv t.ks
def DclsR (F:Nat->Prop) (w:World) (v:Value) (ds:List Dcl):Prop:=Sl F w 2 v (ds.map λd=>[.string d.1,.int .i64 d.2])
section
variable {P:Program} {F F' S:Nat->Prop} {w w':World} {K:Value->World->Prop} {v:Value} {cs:List Value} {t:Tm} {ks:List Tm} {ds:List Dcl}
theorem TmR.same (h:TmR F w cs t) (hw:Same S w w') (hs:∀b,F b->b<w.heap.size->¬S b):TmR F w' cs t:=by
 induction h with
 |mk a c e d=>exact .mk (a.same hw hs) c d
theorem TmR.ext (h:TmR F w cs t) (hw:Ext w w'):TmR F w' cs t:=h.same hw λ_ _ _ h=>h
theorem TmR.weaken (h:TmR F w cs t) (d:∀b,F b->b<w.heap.size->F' b):TmR F' w cs t:=by
 induction h with
 |mk a c f e=>exact .mk (a.weaken d) c e
theorem TmR.inv (h:TmR F w cs t):∃kv,cs=[.int .i64 t.op,.int .i64 t.a,.int .i64 t.b,.string t.s,kv]/\TmsR F w kv t.ks:=by
 cases h with
 |mk c d e=>exact⟨_,rfl,_,c,d,e⟩
theorem TmR.of {kv:Value} (h:TmsR F w kv t.ks):TmR F w [.int .i64 t.op,.int .i64 t.a,.int .i64 t.b,.string t.s,kv] t:=by
 obtain⟨css,c,d,e⟩:=h;cases t with
 |mk o a b s ks=>exact .mk c d e
theorem TmR.term (h:TmR F w cs t):TermR F w (.agg ⟨cs⟩) t:=by
 obtain⟨kv,rfl,a⟩:=h.inv;exact⟨kv,rfl,a⟩
theorem TermR.cells (h:TermR F w v t):∃cs,v= .agg ⟨cs⟩/\TmR F w cs t:=by
 obtain⟨kv,rfl,a⟩:=h;exact⟨_,rfl,TmR.of a⟩
theorem TmsR.same (h:TmsR F w v ks) (hw:Same S w w') (hs:∀b,F b->b<w.heap.size->¬S b):TmsR F w' v ks:=by
 obtain⟨css,a,c,d⟩:=h;exact⟨css,a.same hw hs,c,λi e=>(d i e).same hw hs⟩
theorem TmsR.ext (h:TmsR F w v ks) (hw:Ext w w'):TmsR F w' v ks:=h.same hw λ_ _ _ h=>h
theorem TmsR.weaken (h:TmsR F w v ks) (a:∀b,F b->b<w.heap.size->F' b):TmsR F' w v ks:=by
 obtain⟨css,c,d,e⟩:=h;exact⟨css,c.weaken a,d,λi f=>(e i f).weaken a⟩
theorem TermR.same (h:TermR F w v t) (hw:Same S w w') (hs:∀b,F b->b<w.heap.size->¬S b):TermR F w' v t:=by
 obtain⟨kv,a,c⟩:=h;exact⟨kv,a,c.same hw hs⟩
theorem TermR.ext (h:TermR F w v t) (hw:Ext w w'):TermR F w' v t:=h.same hw λ_ _ _ h=>h
theorem TermR.weaken (h:TermR F w v t) (d:∀b,F b->b<w.heap.size->F' b):TermR F' w v t:=by
 obtain⟨kv,a,c⟩:=h;exact⟨kv,a,c.weaken d⟩
theorem TmsR.small (h:TmsR F w v ks):ks.length<=9223372036854775807:=by
 obtain⟨css,a,b,c⟩:=h;rw[<-b];exact a.small
theorem TmsR.len (h:TmsR F w v ks) {t:TypeId} (c:isSl P t=true) (ty:TypeId):vbi P .len [t] ty [v] w' K=K (.int .i64 ks.length) w':=by
 obtain⟨css,a,b,d⟩:=h;have:=Sl.len (K:=K) (w':=w') a c ty;rwa[b] at this
theorem TmsR.iaddr (h:TmsR F w v ks) {t:TypeId} (e:elB P t 5=true) {kd:IntKind} {i:Int} (b:0<=i) (c:i<ks.length):
  zj P t v (.int kd i) w' K=K (.pointer (some (eaddr v 5 i.toNat))) w':=by
 obtain⟨css,a,d,f⟩:=h;exact Sl.iaddr a e b (by rw[d];exact c)
theorem TmsR.load (h:TmsR F w v ks) {t:TypeId} (e:aggB P t 5=true) {i:Nat} (d:i<ks.length) (c:∀x,TermR F w x (ks.getD i default)->K x w):zf P t (.pointer (some (eaddr v 5 i))) w K:=by
 obtain⟨css,a,f,b⟩:=h;rw[a.ldAgg e oM];exact c _ (b i d).term
theorem TmsR.nil:TmsR F w (.slice none 0 0) []:=⟨[],⟨⟨none,0,rfl,by simp,by simp,by simp⟩,by simp⟩,rfl,by simp⟩
theorem DclsR.same (h:DclsR F w v ds) (hw:Same S w w') (hs:∀b,F b->b<w.heap.size->¬S b):DclsR F w' v ds:=Sl.same h hw hs
theorem DclsR.ext (h:DclsR F w v ds) (hw:Ext w w'):DclsR F w' v ds:=Sl.ext h hw
theorem DclsR.weaken (h:DclsR F w v ds) (a:∀b,F b->b<w.heap.size->F' b):DclsR F' w v ds:=Sl.weaken h a
theorem DclsR.len (h:DclsR F w v ds) {t:TypeId} (a:isSl P t=true) (ty:TypeId):vbi P .len [t] ty [v] w' K=K (.int .i64 ds.length) w':=by
 have:=Sl.len (K:=K) (w':=w') h a ty;rwa[X0] at this
theorem DclsR.iaddr (h:DclsR F w v ds) {t:TypeId} (c:elB P t 2=true) {kd:IntKind} {i:Int} (a:0<=i) (b:i<ds.length):
  zj P t v (.int kd i) w' K=K (.pointer (some (eaddr v 2 i.toNat))) w':=Sl.iaddr h c a (by rw[X0];exact b)
theorem ZK0 {i:Nat} (a:i<ds.length):(ds.map λd=>[Value.string d.1,Value.int .i64 d.2]).getD i []=[.string (ds.getD i (nada,0)).1,.int .i64 (ds.getD i (nada,0)).2]:=M.getD_map _ a _ _
theorem DclsR.load (h:DclsR F w v ds) {t:TypeId} (b:aggB P t 2=true) {i:Nat} (a:i<ds.length):zf P t (.pointer (some (eaddr v 2 i))) w K=K (.agg ⟨[.string (ds.getD i (nada,0)).1,.int .i64 (ds.getD i (nada,0)).2]⟩) w:=by
 rw[Sl.ldAgg h b (by rw[X0];exact a),ZK0 a]
theorem DclsR.load0 (h:DclsR F w v ds) {t:TypeId} (b:oneB P t=true) {i:Nat} (a:i<ds.length):zf P t (.pointer (some ((eaddr v 2 i).add 0))) w K=K (.string (ds.getD i (nada,0)).1) w:=
 Sl.ldField h b (by rw[X0];exact a) (by rw[ZK0 a];rfl)
theorem DclsR.load1 (h:DclsR F w v ds) {t:TypeId} (b:oneB P t=true) {i:Nat} (a:i<ds.length):zf P t (.pointer (some ((eaddr v 2 i).add 1))) w K=K (.int .i64 (ds.getD i (nada,0)).2) w:=
 Sl.ldField h b (by rw[X0];exact a) (by rw[ZK0 a];rfl)
theorem DclsR.small (h:DclsR F w v ds):ds.length<=9223372036854775807:=by have:=Sl.small h;simpa using this
theorem Sl.base {k:Nat} {xs:List (List Value)} (h:Sl F w k v xs) (f:xs≠[]):∀a l c,v= .slice (some a) l c->∃b o,a=⟨b,o,none⟩:=by
 intro a l c e;obtain⟨i,c',rfl,_,_,g⟩:=h.shape;obtain⟨b,o,rfl,_⟩:=g f
 injection e with d j m
 injection d with d
 exact⟨b,o,d.symm⟩
theorem Sl.taken {k:Nat} {xs:List (List Value)} (h:Sl F w k v xs) {n:Nat} (u:n<=xs.length):Sl F w k (cutV v n) (xs.take n):=by
 obtain⟨a,c,rfl,t,p,r⟩:=h.shape;have m:(xs.take n).length=n:=by rw[gi];omega
 refine⟨⟨a,c,by rw[m];rfl,oM,p,λj=>?_⟩,λx s=>h.wide x (gX s)⟩;have f:xs≠[]:=λe=>j (by rw[e,List.take_nil]);obtain⟨b,o,e,q,g,d⟩:=r f;refine⟨b,o,e,q,g,λi l=>?_⟩;rw[m] at l;rw[M.take_getD l];exact d i oM
theorem DclsR.cut (h:DclsR F w v ds) (a:ds≠[]) {t:TypeId} (c:elB P t 2=true) {kd:IntKind} {n:Nat} (b:n<=ds.length):yY P t v none (some (.int kd n)) none w' K=K (cutV v n) w':=
 Sl.cut h (Sl.base h (by simpa using a)) c (by rw[X0];exact b)
theorem DclsR.taken (h:DclsR F w v ds) {n:Nat} (a:n<=ds.length):DclsR F w (cutV v n) (ds.take n):=by
 unfold DclsR;rw[GK];exact Sl.taken h (by rw[X0];exact a)
theorem Blk.sl1k {b k:Nat} {cs:List Value} {e:TypeId} (h:Blk w b cs e) (f:cs.length=k):Sl (· =b) w k (.slice (some ⟨b,0,none⟩) 1 1) [cs]:=by
 refine⟨⟨_,1,rfl,gq _,dC,λ_=>⟨b,0,rfl,rfl,h.lt,λi c j v d=>?_⟩⟩,by simp[f]⟩;have a:i=0:=by simpa using c
 subst a;rw[xU];simp only[P8,gS,pg];exact h.cell d
theorem Own.app1k {bs ty b k:Nat} {t e:TypeId} {xs:List (List Value)} {y:List Value} (h:Own P 0 k t w v xs) (g:elZ P t k bs=true) (j:0<k) (i:Blk w b y e) (l:y.length=k) (a:∀c,c∈y->c.oneCell'=true)
  (d:xs.length<9223372036854775807) (hlen:(xs.length+1)*bs<=140737488355328)
  (f:∀v' w',Own P 0 k t w' v' (xs++[y])->Same (λb=>v.ownBlock=some b) w w'->(∀b,v'.ownBlock=some b->v.ownBlock=some b\/w.heap.size<=b)->K v' w'):vbi P .append [t,t] ty [v,.slice (some ⟨b,0,none⟩) 1 1] w K:=
 vappend (F:=(· =b)) g j h (i.sl1k l) (by simpa using a) oM (by rw[gz];omega) (by simpa using hlen) f
theorem xD {t e k:Nat} {z x:Value} {y:List Value} (hu:P.underlying t=some (.slice e)) (l:jC P e k=true) (hzero:xh P e z) (i:x.cells=⟨y⟩) (j:y.length=k) (h:k<=16777216)
  (g:∀b w',b=w.heap.size->Ext w w'->w'.heap.size=w.heap.size+1->Blk w' b y e->K (.slice (some ⟨b,0,none⟩) 1 1) w'):vbuildS P t 1 [(0,x)] w K:=by
 refine vbuildS_row (xs:=[x]) (us:=[y]) hu l hzero (by simp[i]) (by simp[j]) (by simpa using h) λb w' a c d f=>g b w' a c d (by simpa using f)
theorem Blk.ownk {b k n:Nat} {t:TypeId} {css:List (List Value)} (h:Blk w b css.flatten (Wp P t)) (hw:∀x,x∈css->x.length=k) (c:n=css.length) (hm:n<=9223372036854775807):Own P 0 k t w (.slice (some ⟨b,0,none⟩) n n) css:=by
 subst c;have a:=flatten_len hw;refine⟨⟨by rw[a],.inr ⟨b,css.length,⟨css.flatten⟩,by simp,Gj _,h,gq _,by simpa[maxLen] using hm,by simpa using a,?_⟩⟩,hw⟩;show List.take (css.length*k) css.flatten=css.flatten;rw[<-a,gA]
theorem flatten_set {k:Nat}:∀{xs:List (List Value)} (_:∀x,x∈xs->x.length=k) {i j:Nat} (u:Value),i<xs.length->j<k->xs.flatten.set (i*k+j) u=(xs.set i ((xs.getD i []).set j u)).flatten
 |[],_,i,j,u,a,_=>by simp at a
 |x::r,h,i,j,u,a,b=>by
  have d:=h x V0;cases i with
  |zero=>
   rw[P8,gS];simp only[GD,pn,GP];rw[List.set_append_left _ _ oM]
  |succ i=>
   simp only[GD,PK,GB];rw[pS _ _ (by rw[G7];omega)];congr 1;have e:(i+1)*k+j-x.length=i*k+j:=by rw[G7];omega
   rw[e,flatten_set (λy c=>h y (gh _ c)) u (by simpa using a) b]
theorem Own.stCell {k:Nat} {t e:TypeId} {xs:List (List Value)} {x:Value} (h:Own P 0 k t w v xs) (F:x.cells= #[x]) (p:x.oneCell'=true) (H:jC P e 1=true) {i j:Nat} (f:i<xs.length) (D:j<k)
  (r:∀w',Own P 0 k t w' v (xs.set i ((xs.getD i []).set j x))->Same (λb=>v.ownBlock=some b) w w'->w'.heap.size=w.heap.size->K undef w'):zm P e (.pointer (some ((eaddr v k i).add j))) x w K:=by
 rcases h.row.2 with⟨rfl,J⟩|⟨g,cap,cur,rfl,u,I,E,A,B,o⟩
 ·omega
 ·have a:=h.row;have d:i*k+j<xs.length*k:=by
   have:i*k+k<=xs.length*k:=by rw[<-Nat.succ_mul];exact pX _ f
   omega
  have z:=World.ownsRow.cellAt a (i*k+j) d;have C:=World.ownsRow.frozenAt a (i*k+j);obtain⟨m,n⟩:=World.ownsRow.stored a (i*k+j) x;have l:(xs.getD i []).length=k:=h.wide _ (M.getD_mem f _);have c:w.cell? ⟨g,i*k+j,none⟩=some (xs.flatten.getD (i*k+j) undef):=by
   rw[z];have:i*k+j<xs.flatten.length:=by rw[flatten_len h.wide];exact d
   rw[q0,Q1 this];rfl
  have s:(⟨g,i*k+j,none⟩:Addr).add 0=⟨g,i*k+j,none⟩:=rfl;have he:(eaddr (.slice (some ⟨g,0,none⟩) xs.length cap) k i).add j=⟨g,i*k+j,none⟩:=by
   simp only[eaddr];rw[xU];simp
  rw[he];refine⟨(),w.setCell ⟨g,i*k+j,none⟩ x,?_,r _ ?_ (Same.of_grown n) (by simp)⟩
  ·simp only[Instr.storeAt,Instr.sureAddr,Sem.run_bind,Sem.run_pure,Result.andThen_ok,storeVar,run_sizeOf H,F];cases x<;>first|(cases p;done)|simp[storeCells,store,Sem.run,s,c,C]
  ·refine⟨?_,λy G=>?_⟩
   ·rw[<-flatten_set h.wide x f D];simpa using m
   ·obtain⟨q,L,rfl⟩:=gl G;rw[pZ];split
    ·rw[gL];exact l
    ·exact h.wide _ (Gm _)
def PairsR (F:Nat->Prop) (w:World) (v:Value) (xs:List (Int×Int)):Prop:=Sl F w 2 v (xs.map λx=>[.int .i64 x.1,.int .i64 x.2])
def OwnP (P:Program) (t:TypeId) (w:World) (v:Value) (xs:List (Int×Int)):Prop:=Own P 0 2 t w v (xs.map λx=>[.int .i64 x.1,.int .i64 x.2])
variable {xs:List (Int×Int)}
theorem PairsR.ext (h:PairsR F w v xs) (hw:Ext w w'):PairsR F w' v xs:=Sl.ext h hw
theorem PairsR.iaddr (h:PairsR F w v xs) {t:TypeId} (c:elB P t 2=true) {kd:IntKind} {i:Int} (a:0<=i) (b:i<xs.length):
  zj P t v (.int kd i) w' K=K (.pointer (some (eaddr v 2 i.toNat))) w':=Sl.iaddr h c a (by rw[X0];exact b)
theorem PairsR.len (h:PairsR F w v xs) {t:TypeId} (a:isSl P t=true) (ty:TypeId):vbi P .len [t] ty [v] w' K=K (.int .i64 xs.length) w':=by
 have:=Sl.len (K:=K) (w':=w') h a ty;rwa[X0] at this
theorem PairsR.load (h:PairsR F w v xs) {t:TypeId} (b:aggB P t 2=true) {i:Nat} (a:i<xs.length):zf P t (.pointer (some (eaddr v 2 i))) w K=K (.agg ⟨[.int .i64 (xs.getD i (0,0)).1,.int .i64 (xs.getD i (0,0)).2]⟩) w:=by
 rw[Sl.ldAgg h b (by rw[X0];exact a),M.getD_map _ a _ (0,0)]
theorem PairsR.load1 (h:PairsR F w v xs) {t:TypeId} (b:oneB P t=true) {i:Nat} (a:i<xs.length):zf P t (.pointer (some ((eaddr v 2 i).add 1))) w K=K (.int .i64 (xs.getD i (0,0)).2) w:=
 Sl.ldField h b (by rw[X0];exact a) (by rw[M.getD_map _ a _ (0,0)];rfl)
theorem OwnP.pairs {t:TypeId} (h:OwnP P t w v xs):PairsR (λb=>v.ownBlock=some b) w v xs:=Own.sl h
theorem OwnP.ext {t:TypeId} (h:OwnP P t w v xs) (hw:Ext w w'):OwnP P t w' v xs:=Own.ext h hw
theorem OwnP.nil (t:TypeId):OwnP P t w (.slice none 0 0) []:=Own.nil P 0 2 t w
end
end
end Go.Vc
namespace Go.Proofs.YtokflbdfnbppjaaGreatDoor
open Go Go.Vc Go.Proofs
noncomputable abbrev P:Program:=Tryz.prog
theorem mixed:P.follows .mixedOrders=true:=rK
abbrev X6:Nat:=3
abbrev kR:Nat:=5
abbrev X1:Nat:=6
abbrev Z7:Nat:=7
abbrev je:Nat:=8
abbrev ZX:Nat:=9
abbrev kG:Nat:=10
abbrev kp:Nat:=11
abbrev XV:Nat:=12
abbrev J7:Nat:=15
abbrev J4:Nat:=19
abbrev J5:Nat:=20
abbrev K8:Nat:=21
abbrev Xx:Nat:=22
abbrev qM:Nat:=23
abbrev x8:Nat:=24
abbrev Jd:Nat:=25
abbrev Qv:Nat:=26
abbrev Ys:Nat:=27
abbrev k7:Nat:=28
abbrev jY:Nat:=29
abbrev ZG:Nat:=30
abbrev xw:Nat:=31
abbrev kE:Nat:=32
abbrev yL:Nat:=33
abbrev YZ:Nat:=34
abbrev Zk:Nat:=35
abbrev qO:Nat:=36
abbrev xD0:Nat:=37
abbrev XU:Nat:=38
abbrev Za:Nat:=39
abbrev Yr:Nat:=40
abbrev ZH:Nat:=41
abbrev J6:Nat:=44
abbrev Ka:Nat:=45
abbrev zM:Nat:=46
abbrev yr:Nat:=47
abbrev jZ:Nat:=48
abbrev jG:Nat:=49
abbrev js:Nat:=50
abbrev Xz:Nat:=51
abbrev kF:Nat:=52
abbrev xG:Nat:=53
abbrev yd:Nat:=54
abbrev xx:Nat:=55
abbrev jz:Nat:=56
abbrev qQ:Nat:=57
abbrev Kf:Nat:=58
abbrev Vf:Nat:=59
abbrev jH:Nat:=60
abbrev kf:Nat:=61
abbrev Kg:Nat:=62
abbrev ki:Nat:=63
abbrev Yy:Nat:=64
abbrev Kd:Nat:=65
abbrev Kb:Nat:=66
abbrev K9:Nat:=67
abbrev Vb:Nat:=68
abbrev Zz:Nat:=69
abbrev xH:Nat:=70
abbrev K6:Nat:=71
abbrev Xy:Nat:=72
abbrev J2:Nat:=73
abbrev Vd:Nat:=74
abbrev Va:Nat:=75
abbrev K7:Nat:=76
abbrev Ua:Nat:=77
abbrev xa:Nat:=78
abbrev Vg:Nat:=79
abbrev XS:Nat:=80
abbrev kH:Nat:=81
abbrev Ke:Nat:=82
abbrev ql:Nat:=83
abbrev xR:Nat:=84
abbrev Jc:Nat:=85
abbrev Jb:Nat:=86
abbrev Ja:Nat:=87
abbrev J9:Nat:=88
abbrev XN:Nat:=89
abbrev Kc:Nat:=90
abbrev J3:Nat:=91
abbrev yO:Nat:=99
abbrev Qt:Nat:=100
abbrev Ve:Nat:=101
abbrev kg:Nat:=102
abbrev jD:Nat:=103
abbrev qZ:Nat:=104
abbrev jo:Nat:=105
abbrev XT:Nat:=112
abbrev ZU:Nat:=113
abbrev qH0:Nat:=114
abbrev yT0:Nat:=115
abbrev XW:Nat:=116
abbrev ZL:Nat:=117
abbrev ZV:Nat:=118
abbrev jQ:Nat:=122
abbrev yD:Nat:=123
abbrev Jq:Nat:=124
abbrev Yt:Nat:=125
abbrev jy:Nat:=126
abbrev ZQ:Nat:=127
abbrev jI:Nat:=128
abbrev XP:Nat:=129
abbrev ZM:Nat:=130
abbrev ZN:Nat:=131
abbrev yu:Nat:=132
abbrev Yu:Nat:=137
abbrev qt:Nat:=138
abbrev J8:Nat:=139
abbrev XB:Nat:=140
abbrev Zq:Nat:=141
abbrev qf:Nat:=142
abbrev Zs:Nat:=143
abbrev Yp:Nat:=144
abbrev k8:Nat:=145
abbrev jj:Nat:=146
abbrev jk:Nat:=147
abbrev qu:Nat:=148
abbrev Zj:Nat:=150
abbrev x6:Nat:=151
abbrev Z8:Nat:=152
abbrev yE:Nat:=153
abbrev Je:Nat:=154
abbrev Z3:Nat:=155
abbrev Ub:Nat:=156
abbrev kc:Nat:=157
abbrev km:Nat:=158
abbrev yj:Nat:=159
abbrev kj:Nat:=160
abbrev Yv:Nat:=161
abbrev jR:Nat:=162
abbrev jL:Nat:=163
abbrev X7:Nat:=164
abbrev Yq:Nat:=165
abbrev xp:Nat:=166
abbrev jt:Nat:=167
abbrev qX:Nat:=168
abbrev Zh:Nat:=169
abbrev kT:Nat:=170
abbrev Yo:Nat:=171
abbrev jv:Nat:=173
abbrev qU:Nat:=174
abbrev jl:Nat:=175
abbrev jm:Nat:=176
abbrev ju:Nat:=177
abbrev j4:Nat:=178
abbrev jn:Nat:=179
abbrev zP:Nat:=180
abbrev ZJ:Nat:=181
abbrev xi:Nat:=185
abbrev yG:Nat:=186
abbrev Zl:Nat:=187
abbrev ZT:Nat:=188
abbrev xf:Nat:=189
abbrev jJ:Nat:=190
abbrev qb:Nat:=191
abbrev xj:Nat:=192
abbrev yP:Nat:=193
abbrev qJ:Nat:=194
abbrev qa:Nat:=195
abbrev ZS:Nat:=196
abbrev j6:Nat:=197
abbrev qF:Nat:=198
abbrev Zp:Nat:=199
abbrev qP:Nat:=200
abbrev kY:Nat:=201
abbrev Zg:Nat:=202
abbrev qN:Nat:=203
abbrev qA:Nat:=204
abbrev qY:Nat:=205
abbrev jd:Nat:=206
abbrev ka:Nat:=207
abbrev kJ:Nat:=208
abbrev kM:Nat:=209
abbrev yZ:Nat:=210
abbrev YC:Nat:=211
abbrev Zc:Nat:=212
abbrev xY:Nat:=213
abbrev j3:Nat:=214
abbrev j0:Nat:=215
abbrev xZ:Nat:=216
abbrev ko:Nat:=217
abbrev jP:Nat:=218
abbrev XO:Nat:=221
abbrev Ky:Nat:=222
abbrev xn:Nat:=223
abbrev jx:Nat:=224
abbrev ZR:Nat:=225
abbrev ZP:Nat:=226
abbrev XQ:Nat:=227
abbrev ZY:Nat:=228
abbrev Z9:Nat:=231
abbrev kN:Nat:=232
abbrev ZA:Nat:=233
abbrev XA:Nat:=234
abbrev Yn:Nat:=235
abbrev YY:Nat:=236
abbrev Jp:Nat:=240
abbrev jw:Nat:=241
abbrev qE:Nat:=242
abbrev j5:Nat:=243
abbrev ZI:Nat:=254
abbrev ZW:Nat:=283
abbrev yV:Nat:=284
abbrev xd:Nat:=285
abbrev ZK:Nat:=286
abbrev Zf:Nat:=287
abbrev yB:Nat:=288
abbrev Qu:Nat:=289
abbrev Z4:Nat:=290
abbrev Yz:Nat:=291
abbrev Zo:Nat:=292
abbrev kX:Nat:=293
abbrev kI:Nat:=294
abbrev XR:Nat:=295
abbrev xQ:Nat:=296
abbrev xP:Nat:=297
abbrev xO:Nat:=298
abbrev xN:Nat:=299
abbrev xM:Nat:=300
abbrev xL:Nat:=301
abbrev xK:Nat:=302
abbrev xJ:Nat:=303
abbrev xI:Nat:=304
abbrev xr:Nat:=305
abbrev xq:Nat:=306
abbrev Z1:Nat:=307
abbrev Zn:Nat:=308
abbrev kW:Nat:=309
abbrev Kh:Nat:=310
abbrev Zb:Nat:=311
abbrev Ze:Nat:=312
abbrev kS:Nat:=313
abbrev kU:Nat:=314
abbrev ke:Nat:=315
abbrev Ye:Nat:=316
abbrev Zm:Nat:=317
abbrev kV:Nat:=318
abbrev XC:Nat:=319
abbrev ZO:Nat:=320
abbrev Zi:Nat:=321
abbrev kZ:Nat:=322
abbrev kk:Nat:=323
abbrev Yf:Nat:=324
abbrev Zr:Nat:=325
abbrev Z0:Nat:=326
abbrev yw:Nat:=0
abbrev ku:Nat:=1
abbrev jf:Nat:=2
abbrev xz:Nat:=3
abbrev xA:Nat:=7
abbrev T_T_:Nat:=0
abbrev zk0:Nat:=2
abbrev ze:Nat:=3
abbrev qI:Nat:=4
abbrev kC:Nat:=5
abbrev zS:Nat:=9
abbrev yi:Nat:=22
abbrev zk:Nat:=23
abbrev zb:Nat:=24
abbrev za:Nat:=26
abbrev zr:Nat:=32
abbrev zi:Nat:=36
abbrev zy:Nat:=44
abbrev y9:Nat:=55
abbrev zN:Nat:=57
abbrev yf:Nat:=59
abbrev zo:Nat:=67
abbrev yn:Nat:=79
abbrev zc:Nat:=93
abbrev zw:Nat:=95
abbrev j9:Nat:=97
abbrev ya:Nat:=111
abbrev zz:Nat:=114
abbrev zV:Nat:=116
abbrev xk:Nat:=117
abbrev xC:Nat:=119
abbrev yg:Nat:=121
abbrev yh:Nat:=123
abbrev jh:Nat:=125
abbrev yx:Nat:=128
abbrev zX:Nat:=130
abbrev y6:Nat:=131
abbrev zQ:Nat:=132
abbrev y1:Nat:=133
abbrev zU:Nat:=134
abbrev zY:Nat:=135
abbrev y7:Nat:=136
abbrev Y5:Nat:=137
abbrev zE:Nat:=139
abbrev xg:Nat:=140
abbrev y2:Nat:=141
abbrev jN:Nat:=168
abbrev zL:Nat:=170
abbrev yJ:Nat:=172
abbrev zA:Nat:=174
abbrev zF:Nat:=190
abbrev zd:Nat:=194
abbrev y0:Nat:=196
abbrev yo:Nat:=197
abbrev zW:Nat:=199
abbrev Zd:Nat:=200
abbrev y8:Nat:=202
abbrev zv:Nat:=203
abbrev qd:Nat:=205
abbrev yy:Nat:=206
abbrev zH:Nat:=211
abbrev kE0:Nat:=212
abbrev Ue:Nat:=214
abbrev zO:Nat:=224
abbrev zZ:Nat:=226
abbrev zC:Nat:=229
abbrev zK:Nat:=231
abbrev zT:Nat:=233
abbrev zt:Nat:=235
abbrev yc:Nat:=242
abbrev yA:Nat:=244
abbrev Wt:Nat:=259
abbrev qm:Nat:=286
abbrev YG:Nat:=309
abbrev qk:Nat:=345
abbrev ye:Nat:=365
theorem X5:xh P ze (.int .i64 0):=by unfold xh;kernel_rfl
@[push_cast] theorem UI0:oneB P ze=true:=rK
@[push_cast] theorem YV:jC P ze 1=true:=rK
theorem kQ0:J80 P ze .i64:=by unfold J80;kernel_rfl
theorem Q00:(P.underlying ze).isSome=true:=rK
theorem Jg0:xh P qI (.bool false):=by unfold xh;kernel_rfl
@[push_cast] theorem o_bool:oneB P qI=true:=rK
@[push_cast] theorem Ji0:jC P qI 1=true:=rK
@[push_cast] theorem o_uint8:oneB P kC=true:=rK
theorem VJ0:J80 P kC .u8:=by unfold J80;kernel_rfl
theorem XZ0:(P.underlying kC).isSome=true:=rK
theorem KU:xh P zS (.string ⟨#[]⟩):=by unfold xh;kernel_rfl
@[push_cast] theorem Vx0:oneB P zS=true:=rK
@[push_cast] theorem XO0:jC P zS 1=true:=rK
theorem Jl:P.underlying zS=some .string:=rK
@[push_cast] theorem o_Luint8:oneB P yi=true:=rK
@[push_cast] theorem VF0:elZ P yi 1 1=true:=rK
theorem zt0:P.underlying yi=some (.slice kC):=rK
theorem Kq0:Wp P yi=kC:=rK
@[push_cast] theorem s_Luint8:isSl P yi=true:=rK
@[push_cast] theorem W80:elB P yi 1=true:=rK
@[push_cast] theorem zC0:elZ P zk 2 48=true:=rK
theorem qG:P.underlying zk=some (.slice zo):=rK
theorem k60:Wp P zk=zo:=rK
@[push_cast] theorem Zb0:isSl P zk=true:=rK
@[push_cast] theorem yH:elB P zk 2=true:=rK
@[push_cast] theorem yI:oneB P zb=true:=rK
@[push_cast] theorem qr:jC P zb 1=true:=rK
@[push_cast] theorem YD:elZ P zb 5 64=true:=rK
theorem yS:P.underlying zb=some (.slice za):=rK
theorem Ko:Wp P zb=za:=rK
@[push_cast] theorem xo:isSl P zb=true:=rK
@[push_cast] theorem Vv:elB P zb 5=true:=rK
theorem zG:xh P za (.agg #[(.int .i64 0),(.int .i64 0),(.int .i64 0),(.string ⟨#[]⟩),(.slice none 0 0)]):=by unfold xh;kernel_rfl
theorem Zx:strF P za=some ([(0,1),(1,1),(2,1),(3,1),(4,1)],[(.int .i64 0),(.int .i64 0),(.int .i64 0),(.string ⟨#[]⟩),(.slice none 0 0)]):=rK
@[push_cast] theorem zp:aggB P za 5=true:=rK
@[push_cast] theorem xe:jC P za 5=true:=rK
theorem Jh0:xh P zr (.slice none 0 0):=by unfold xh;kernel_rfl
@[push_cast] theorem o_Lint:oneB P zr=true:=rK
@[push_cast] theorem zn0:jC P zr 1=true:=rK
@[push_cast] theorem xF0:elZ P zr 1 8=true:=rK
theorem Jh:P.underlying zr=some (.slice ze):=rK
theorem ZH0:Wp P zr=ze:=rK
@[push_cast] theorem s_Lint:isSl P zr=true:=rK
@[push_cast] theorem e_Lint:elB P zr 1=true:=rK
@[push_cast] theorem xC0:oneB P zi=true:=rK
@[push_cast] theorem xz0:jC P zi 1=true:=rK
@[push_cast] theorem YJ0:elZ P zi 2 24=true:=rK
theorem YA:P.underlying zi=some (.slice zy):=rK
theorem Kp:Wp P zi=zy:=rK
@[push_cast] theorem Yy0:isSl P zi=true:=rK
@[push_cast] theorem xJ0:elB P zi 2=true:=rK
theorem jV:xh P zy (.agg #[(.string ⟨#[]⟩),(.int .i64 0)]):=by unfold xh;kernel_rfl
theorem XM0:strF P zy=some ([(0,1),(1,1)],[(.string ⟨#[]⟩),(.int .i64 0)]):=rK
@[push_cast] theorem XF0:aggB P zy 2=true:=rK
@[push_cast] theorem XK:jC P zy 2=true:=rK
@[push_cast] theorem Ws0:oneB P y9=true:=rK
@[push_cast] theorem Yo0:jC P y9 1=true:=rK
@[push_cast] theorem YI0:elZ P y9 2 16=true:=rK
theorem Yv0:P.underlying y9=some (.slice yf):=rK
@[push_cast] theorem Wp0:isSl P y9=true:=rK
@[push_cast] theorem YS0:elB P y9 2=true:=rK
theorem Xd0:strF P zN=some ([(0,1),(1,1),(2,1)],[(.slice none 0 0),(.slice none 0 0),(.slice none 0 0)]):=rK
theorem Qr:xh P yf (.agg #[(.int .i64 0),(.int .i64 0)]):=by unfold xh;kernel_rfl
theorem XL0:strF P yf=some ([(0,1),(1,1)],[(.int .i64 0),(.int .i64 0)]):=rK
@[push_cast] theorem Km:aggB P yf 2=true:=rK
@[push_cast] theorem Xj0:jC P yf 2=true:=rK
theorem jr:xh P zo (.agg #[(.slice none 0 0),(.slice none 0 0)]):=by unfold xh;kernel_rfl
theorem VL:strF P zo=some ([(0,1),(1,1)],[(.slice none 0 0),(.slice none 0 0)]):=rK
@[push_cast] theorem qH:aggB P zo 2=true:=rK
@[push_cast] theorem qV:jC P zo 2=true:=rK
theorem Xb0:strF P yn=some ([(0,1),(1,1)],[(.slice none 0 0),(.int .i64 0)]):=rK
theorem xF:xh P zc (.agg #[(.int .i64 0),(.int .i64 0)]):=by unfold xh;kernel_rfl
theorem xw0:strF P zc=some ([(0,1),(1,1)],[(.int .i64 0),(.int .i64 0)]):=rK
@[push_cast] theorem y5:aggB P zc 2=true:=rK
@[push_cast] theorem Qq0:jC P zc 2=true:=rK
@[push_cast] theorem YC0:oneB P zw=true:=rK
theorem Kk:P.underlying zw=some (.map 3 125):=rK
theorem WN:P.underlying j9=some (.map 9 3):=rK
theorem V50:xh P ya (.slice none 0 0):=by unfold xh;kernel_rfl
@[push_cast] theorem o_LLint:oneB P ya=true:=rK
@[push_cast] theorem kX0:jC P ya 1=true:=rK
@[push_cast] theorem Zk0:elZ P ya 1 24=true:=rK
theorem Jx0:P.underlying ya=some (.slice zr):=rK
theorem W70:Wp P ya=zr:=rK
@[push_cast] theorem s_LLint:isSl P ya=true:=rK
@[push_cast] theorem e_LLint:elB P ya 1=true:=rK
theorem Yk:xh P zz (.agg #[(.int .i64 0),(.slice none 0 0)]):=by unfold xh;kernel_rfl
theorem kU0:strF P zz=some ([(0,1),(1,1)],[(.int .i64 0),(.slice none 0 0)]):=rK
@[push_cast] theorem xS:aggB P zz 2=true:=rK
theorem J10:strF P zV=some ([(0,1),(1,1),(2,1),(3,2),(5,1)],[(.slice none 0 0),(.slice none 0 0),(.slice none 0 0),(.int .i64 0),(.slice none 0 0),(.slice none 0 0)]):=rK
theorem Ji:P.underlying xk=some (.slice xC):=rK
@[push_cast] theorem kJ0:isSl P xk=true:=rK
@[push_cast] theorem Jv:elB P xk 1=true:=rK
theorem Qp:xh P xC .nilFunc:=by unfold xh;kernel_rfl
@[push_cast] theorem J0:oneB P xC=true:=rK
@[push_cast] theorem QX:jC P xC 1=true:=rK
@[push_cast] theorem qL:oneB P yg=true:=rK
@[push_cast] theorem Wz0:jC P yg 1=true:=rK
@[push_cast] theorem XD0:elZ P yh 2 16=true:=rK
theorem Xn0:P.underlying yh=some (.slice zc):=rK
@[push_cast] theorem U40:elB P yh 2=true:=rK
theorem Xe0:strF P yx=some ([(0,1),(1,1)],[(.string ⟨#[]⟩),(.int .i64 0)]):=rK
theorem Z2:xh P zX (.agg #[(.string ⟨#[]⟩),(.int .i64 0)]):=by unfold xh;kernel_rfl
theorem Yg0:strF P zX=some ([(0,2)],[(.string ⟨#[]⟩),(.int .i64 0)]):=rK
@[push_cast] theorem Zp0:aggB P zX 2=true:=rK
theorem XI:xh P y6 (.agg #[(.string ⟨#[]⟩),(.int .i64 0)]):=by unfold xh;kernel_rfl
theorem kA0:strF P y6=some ([(0,2)],[(.string ⟨#[]⟩),(.int .i64 0)]):=rK
theorem KW:xh P zQ (.agg #[(.string ⟨#[]⟩),(.int .i64 0)]):=by unfold xh;kernel_rfl
theorem ky0:strF P zQ=some ([(0,2)],[(.string ⟨#[]⟩),(.int .i64 0)]):=rK
@[push_cast] theorem jT0:aggB P zQ 2=true:=rK
theorem xX:xh P y1 (.agg #[(.string ⟨#[]⟩),(.int .i64 0)]):=by unfold xh;kernel_rfl
theorem kw0:strF P y1=some ([(0,2)],[(.string ⟨#[]⟩),(.int .i64 0)]):=rK
@[push_cast] theorem jR0:aggB P y1 2=true:=rK
theorem qe:xh P zU (.agg #[(.string ⟨#[]⟩),(.int .i64 0)]):=by unfold xh;kernel_rfl
theorem jG0:strF P zU=some ([(0,2)],[(.string ⟨#[]⟩),(.int .i64 0)]):=rK
@[push_cast] theorem qT0:aggB P zU 2=true:=rK
theorem qK:xh P zY (.agg #[(.string ⟨#[]⟩),(.int .i64 0)]):=by unfold xh;kernel_rfl
theorem kx0:strF P zY=some ([(0,2)],[(.string ⟨#[]⟩),(.int .i64 0)]):=rK
@[push_cast] theorem jS0:aggB P zY 2=true:=rK
theorem jF:xh P y7 (.agg #[(.string ⟨#[]⟩),(.int .i64 0)]):=by unfold xh;kernel_rfl
theorem Yi0:strF P y7=some ([(0,2)],[(.string ⟨#[]⟩),(.int .i64 0)]):=rK
@[push_cast] theorem Zq0:aggB P y7 2=true:=rK
@[push_cast] theorem Zf0:oneB P Y5=true:=rK
theorem xZ0:xh P zE (.agg #[(.string ⟨#[]⟩),(.int .i64 0),.nilFunc]):=by unfold xh;kernel_rfl
theorem jH0:strF P zE=some ([(0,2),(2,1)],[(.string ⟨#[]⟩),(.int .i64 0),.nilFunc]):=rK
@[push_cast] theorem Vt:aggB P zE 3=true:=rK
@[push_cast] theorem YH0:elZ P xg 1 16=true:=rK
theorem V5:P.underlying xg=some (.slice zS):=rK
theorem QU0:Wp P xg=zS:=rK
@[push_cast] theorem UG0:isSl P xg=true:=rK
theorem XJ:xh P y2 (.agg #[(.string ⟨#[]⟩),(.int .i64 0)]):=by unfold xh;kernel_rfl
theorem kD0:strF P y2=some ([(0,2)],[(.string ⟨#[]⟩),(.int .i64 0)]):=rK
@[push_cast] theorem WV0:elZ P jN 1 1=true:=rK
theorem W60:Wp P jN=qI:=rK
@[push_cast] theorem s_Lbool:isSl P jN=true:=rK
@[push_cast] theorem XH0:elB P jN 1=true:=rK
@[push_cast] theorem JN0:oneB P zL=true:=rK
@[push_cast] theorem KP0:oneB P yJ=true:=rK
theorem Yh0:strF P zA=some ([(0,2),(2,1),(3,1),(4,1),(5,1)],[(.int .i64 0),(.slice none 0 0),(.pointer none),(.slice none 0 0),(.slice none 0 0),(.int .i64 0)]):=rK
theorem Yj0:strF P zF=some ([(0,1),(1,1)],[(.slice none 0 0),(.map none)]):=rK
@[push_cast] theorem jA:aggB P zF 2=true:=rK
theorem ZC:xh P zd (.slice none 0 0):=by unfold xh;kernel_rfl
@[push_cast] theorem jP0:oneB P zd=true:=rK
@[push_cast] theorem Yw:jC P zd 1=true:=rK
@[push_cast] theorem xy:elZ P zd 1 8=true:=rK
theorem xt:P.underlying zd=some (.slice zv):=rK
theorem qc:Wp P zd=zv:=rK
@[push_cast] theorem qp:isSl P zd=true:=rK
@[push_cast] theorem xW:elB P zd 1=true:=rK
@[push_cast] theorem J50:oneB P y0=true:=rK
@[push_cast] theorem qF0:oneB P yo=true:=rK
theorem X2:P.underlying yo=some (.map 9 194):=rK
theorem kC0:strF P zW=some ([(0,1),(1,1),(2,1),(3,1)],[(.pointer none),(.slice none 0 0),(.map none),(.map none)]):=rK
@[push_cast] theorem J40:oneB P Zd=true:=rK
theorem kB0:strF P y8=some ([(0,1),(1,1)],[(.pointer none),.nilIface]):=rK
theorem yW:xh P zv (.int .i64 0):=by unfold xh;kernel_rfl
@[push_cast] theorem Vy0:oneB P zv=true:=rK
@[push_cast] theorem yN:jC P zv 1=true:=rK
theorem XE0:J80 P yy .u64:=by unfold J80;kernel_rfl
theorem qz0:(P.underlying yy).isSome=true:=rK
theorem Xc0:strF P zH=some ([(0,1),(1,1),(2,1)],[(.slice none 0 0),(.slice none 0 0),(.slice none 0 0)]):=rK
theorem Ka0:J80 P Ue .u64:=by unfold J80;kernel_rfl
theorem WK0:(P.underlying Ue).isSome=true:=rK
@[push_cast] theorem Wt0:oneB P zO=true:=rK
@[push_cast] theorem Yp0:jC P zO 1=true:=rK
@[push_cast] theorem xG0:elZ P zO 3 24=true:=rK
theorem xA0:P.underlying zO=some (.slice zt):=rK
theorem ZI0:Wp P zO=zt:=rK
@[push_cast] theorem V8:isSl P zO=true:=rK
@[push_cast] theorem xI0:elB P zO 3=true:=rK
theorem kT0:strF P zZ=some ([(0,1),(1,1)],[(.int .i64 0),(.slice none 0 0)]):=rK
@[push_cast] theorem Jt:aggB P zZ 2=true:=rK
@[push_cast] theorem qL0:elZ P zC 1 24=true:=rK
theorem V6:P.underlying zC=some (.slice zd):=rK
@[push_cast] theorem JG0:isSl P zC=true:=rK
@[push_cast] theorem j90:elB P zC 1=true:=rK
@[push_cast] theorem YD0:oneB P zK=true:=rK
theorem Y0:P.underlying zK=some (.map 235 3):=rK
theorem kz0:strF P zT=some ([(0,2),(2,1)],[(.int .i64 0),(.slice none 0 0),(.map none)]):=rK
theorem KX:xh P zt (.agg #[(.bool false),(.int .i64 0),(.int .i64 0)]):=by unfold xh;kernel_rfl
theorem jI0:strF P zt=some ([(0,1),(1,1),(2,1)],[(.bool false),(.int .i64 0),(.int .i64 0)]):=rK
@[push_cast] theorem Zt:aggB P zt 3=true:=rK
@[push_cast] theorem Xk0:jC P zt 3=true:=rK
theorem Yc:P.underlying yc=some (.slice yA):=rK
theorem Y3:Wp P yc=yA:=rK
@[push_cast] theorem yI0:isSl P yc=true:=rK
@[push_cast] theorem yJ0:elB P yc 1=true:=rK
@[push_cast] theorem Ww:oneB P yA=true:=rK
@[push_cast] theorem Wu:jC P yA 1=true:=rK
theorem Vk0:P.underlying Wt=some (.slice ya):=rK
@[push_cast] theorem s_LLLint:isSl P Wt=true:=rK
@[push_cast] theorem e_LLLint:elB P Wt 1=true:=rK
@[push_cast] theorem j8:imapB P qm=true:=rK
theorem k00:fieldB P za 0 0=true:=rK
@[push_cast] theorem KY0 {w:World} {K:Value->World->Prop} (a:Addr):zg P za (.pointer (some a)) 0 w K=K (.pointer (some (a.add 0))) w:=y4 k00 a
theorem jZ0:fieldB P za 1 1=true:=rK
@[push_cast] theorem KX0 {w:World} {K:Value->World->Prop} (a:Addr):zg P za (.pointer (some a)) 1 w K=K (.pointer (some (a.add 1))) w:=y4 jZ0 a
theorem jY0:fieldB P za 2 2=true:=rK
@[push_cast] theorem KW0 {w:World} {K:Value->World->Prop} (a:Addr):zg P za (.pointer (some a)) 2 w K=K (.pointer (some (a.add 2))) w:=y4 jY0 a
theorem jX0:fieldB P za 3 3=true:=rK
@[push_cast] theorem KV0 {w:World} {K:Value->World->Prop} (a:Addr):zg P za (.pointer (some a)) 3 w K=K (.pointer (some (a.add 3))) w:=y4 jX0 a
theorem jW0:fieldB P za 4 4=true:=rK
@[push_cast] theorem KU0 {w:World} {K:Value->World->Prop} (a:Addr):zg P za (.pointer (some a)) 4 w K=K (.pointer (some (a.add 4))) w:=y4 jW0 a
theorem k50:fieldB P zy 0 0=true:=rK
@[push_cast] theorem V30 {w:World} {K:Value->World->Prop} (a:Addr):zg P zy (.pointer (some a)) 0 w K=K (.pointer (some (a.add 0))) w:=y4 k50 a
theorem k40:fieldB P zy 1 1=true:=rK
@[push_cast] theorem V20 {w:World} {K:Value->World->Prop} (a:Addr):zg P zy (.pointer (some a)) 1 w K=K (.pointer (some (a.add 1))) w:=y4 k40 a
theorem j10:fieldB P zN 0 0=true:=rK
@[push_cast] theorem Kk0 {w:World} {K:Value->World->Prop} (a:Addr):zg P zN (.pointer (some a)) 0 w K=K (.pointer (some (a.add 0))) w:=y4 j10 a
theorem j00:fieldB P zN 1 1=true:=rK
@[push_cast] theorem Kj0 {w:World} {K:Value->World->Prop} (a:Addr):zg P zN (.pointer (some a)) 1 w K=K (.pointer (some (a.add 1))) w:=y4 j00 a
theorem qZ0:fieldB P zN 2 2=true:=rK
@[push_cast] theorem Ki0 {w:World} {K:Value->World->Prop} (a:Addr):zg P zN (.pointer (some a)) 2 w K=K (.pointer (some (a.add 2))) w:=y4 qZ0 a
theorem jV0:fieldB P yf 0 0=true:=rK
@[push_cast] theorem KT0 {w:World} {K:Value->World->Prop} (a:Addr):zg P yf (.pointer (some a)) 0 w K=K (.pointer (some (a.add 0))) w:=y4 jV0 a
theorem jU0:fieldB P yf 1 1=true:=rK
@[push_cast] theorem KS0 {w:World} {K:Value->World->Prop} (a:Addr):zg P yf (.pointer (some a)) 1 w K=K (.pointer (some (a.add 1))) w:=y4 jU0 a
theorem j50:fieldB P zo 0 0=true:=rK
@[push_cast] theorem Kn0 {w:World} {K:Value->World->Prop} (a:Addr):zg P zo (.pointer (some a)) 0 w K=K (.pointer (some (a.add 0))) w:=y4 j50 a
theorem j40:fieldB P zo 1 1=true:=rK
@[push_cast] theorem yz {w:World} {K:Value->World->Prop} (a:Addr):zg P zo (.pointer (some a)) 1 w K=K (.pointer (some (a.add 1))) w:=y4 j40 a
theorem qV0:fieldB P yn 0 0=true:=rK
@[push_cast] theorem Vu {w:World} {K:Value->World->Prop} (a:Addr):zg P yn (.pointer (some a)) 0 w K=K (.pointer (some (a.add 0))) w:=y4 qV0 a
theorem qU0:fieldB P yn 1 1=true:=rK
@[push_cast] theorem j70 {w:World} {K:Value->World->Prop} (a:Addr):zg P yn (.pointer (some a)) 1 w K=K (.pointer (some (a.add 1))) w:=y4 qU0 a
theorem ZB0:fieldB P zc 0 0=true:=rK
@[push_cast] theorem VZ0 {w:World} {K:Value->World->Prop} (a:Addr):zg P zc (.pointer (some a)) 0 w K=K (.pointer (some (a.add 0))) w:=y4 ZB0 a
theorem ZA0:fieldB P zc 1 1=true:=rK
@[push_cast] theorem VY0 {w:World} {K:Value->World->Prop} (a:Addr):zg P zc (.pointer (some a)) 1 w K=K (.pointer (some (a.add 1))) w:=y4 ZA0 a
theorem ZF0:fieldB P zz 0 0=true:=rK
@[push_cast] theorem W30 {w:World} {K:Value->World->Prop} (a:Addr):zg P zz (.pointer (some a)) 0 w K=K (.pointer (some (a.add 0))) w:=y4 ZF0 a
theorem ZE0:fieldB P zz 1 1=true:=rK
@[push_cast] theorem W20 {w:World} {K:Value->World->Prop} (a:Addr):zg P zz (.pointer (some a)) 1 w K=K (.pointer (some (a.add 1))) w:=y4 ZE0 a
theorem Zz0:fieldB P zV 0 0=true:=rK
@[push_cast] theorem VX0 {w:World} {K:Value->World->Prop} (a:Addr):zg P zV (.pointer (some a)) 0 w K=K (.pointer (some (a.add 0))) w:=y4 Zz0 a
theorem Zy0:fieldB P zV 1 1=true:=rK
@[push_cast] theorem VW0 {w:World} {K:Value->World->Prop} (a:Addr):zg P zV (.pointer (some a)) 1 w K=K (.pointer (some (a.add 1))) w:=y4 Zy0 a
theorem Zx0:fieldB P zV 2 2=true:=rK
@[push_cast] theorem VV0 {w:World} {K:Value->World->Prop} (a:Addr):zg P zV (.pointer (some a)) 2 w K=K (.pointer (some (a.add 2))) w:=y4 Zx0 a
theorem Zw0:fieldB P zV 3 3=true:=rK
@[push_cast] theorem VU0 {w:World} {K:Value->World->Prop} (a:Addr):zg P zV (.pointer (some a)) 3 w K=K (.pointer (some (a.add 3))) w:=y4 Zw0 a
theorem Zv0:fieldB P zV 4 5=true:=rK
@[push_cast] theorem VT0 {w:World} {K:Value->World->Prop} (a:Addr):zg P zV (.pointer (some a)) 4 w K=K (.pointer (some (a.add 5))) w:=y4 Zv0 a
theorem j30:fieldB P yx 0 0=true:=rK
@[push_cast] theorem Km0 {w:World} {K:Value->World->Prop} (a:Addr):zg P yx (.pointer (some a)) 0 w K=K (.pointer (some (a.add 0))) w:=y4 j30 a
theorem j20:fieldB P yx 1 1=true:=rK
@[push_cast] theorem Kl0 {w:World} {K:Value->World->Prop} (a:Addr):zg P yx (.pointer (some a)) 1 w K=K (.pointer (some (a.add 1))) w:=y4 j20 a
theorem zI0:fieldB P zE 1 2=true:=rK
@[push_cast] theorem Qd0 {w:World} {K:Value->World->Prop} (a:Addr):zg P zE (.pointer (some a)) 1 w K=K (.pointer (some (a.add 2))) w:=y4 zI0 a
theorem q70:fieldB P zA 0 0=true:=rK
@[push_cast] theorem Jd0 {w:World} {K:Value->World->Prop} (a:Addr):zg P zA (.pointer (some a)) 0 w K=K (.pointer (some (a.add 0))) w:=y4 q70 a
theorem q60:fieldB P zA 1 2=true:=rK
@[push_cast] theorem Jc0 {w:World} {K:Value->World->Prop} (a:Addr):zg P zA (.pointer (some a)) 1 w K=K (.pointer (some (a.add 2))) w:=y4 q60 a
theorem q50:fieldB P zA 2 3=true:=rK
@[push_cast] theorem Jb0 {w:World} {K:Value->World->Prop} (a:Addr):zg P zA (.pointer (some a)) 2 w K=K (.pointer (some (a.add 3))) w:=y4 q50 a
theorem q40:fieldB P zA 3 4=true:=rK
@[push_cast] theorem Ja0 {w:World} {K:Value->World->Prop} (a:Addr):zg P zA (.pointer (some a)) 3 w K=K (.pointer (some (a.add 4))) w:=y4 q40 a
theorem q30:fieldB P zA 4 5=true:=rK
@[push_cast] theorem J90 {w:World} {K:Value->World->Prop} (a:Addr):zg P zA (.pointer (some a)) 4 w K=K (.pointer (some (a.add 5))) w:=y4 q30 a
theorem q90:fieldB P zF 0 0=true:=rK
@[push_cast] theorem Jf0 {w:World} {K:Value->World->Prop} (a:Addr):zg P zF (.pointer (some a)) 0 w K=K (.pointer (some (a.add 0))) w:=y4 q90 a
theorem q80:fieldB P zF 1 1=true:=rK
@[push_cast] theorem Je0 {w:World} {K:Value->World->Prop} (a:Addr):zg P zF (.pointer (some a)) 1 w K=K (.pointer (some (a.add 1))) w:=y4 q80 a
theorem x60:fieldB P zW 0 0=true:=rK
@[push_cast] theorem QS0 {w:World} {K:Value->World->Prop} (a:Addr):zg P zW (.pointer (some a)) 0 w K=K (.pointer (some (a.add 0))) w:=y4 x60 a
theorem x50:fieldB P zW 1 1=true:=rK
@[push_cast] theorem QR0 {w:World} {K:Value->World->Prop} (a:Addr):zg P zW (.pointer (some a)) 1 w K=K (.pointer (some (a.add 1))) w:=y4 x50 a
theorem x40:fieldB P zW 2 2=true:=rK
@[push_cast] theorem QQ0 {w:World} {K:Value->World->Prop} (a:Addr):zg P zW (.pointer (some a)) 2 w K=K (.pointer (some (a.add 2))) w:=y4 x40 a
theorem x30:fieldB P zW 3 3=true:=rK
@[push_cast] theorem QP0 {w:World} {K:Value->World->Prop} (a:Addr):zg P zW (.pointer (some a)) 3 w K=K (.pointer (some (a.add 3))) w:=y4 x30 a
theorem x20:fieldB P y8 0 0=true:=rK
@[push_cast] theorem QO0 {w:World} {K:Value->World->Prop} (a:Addr):zg P y8 (.pointer (some a)) 0 w K=K (.pointer (some (a.add 0))) w:=y4 x20 a
theorem x10:fieldB P y8 1 1=true:=rK
@[push_cast] theorem QN0 {w:World} {K:Value->World->Prop} (a:Addr):zg P y8 (.pointer (some a)) 1 w K=K (.pointer (some (a.add 1))) w:=y4 x10 a
theorem qY0:fieldB P zH 0 0=true:=rK
@[push_cast] theorem Kh0 {w:World} {K:Value->World->Prop} (a:Addr):zg P zH (.pointer (some a)) 0 w K=K (.pointer (some (a.add 0))) w:=y4 qY0 a
theorem qX0:fieldB P zH 1 1=true:=rK
@[push_cast] theorem Kg0 {w:World} {K:Value->World->Prop} (a:Addr):zg P zH (.pointer (some a)) 1 w K=K (.pointer (some (a.add 1))) w:=y4 qX0 a
theorem qW0:fieldB P zH 2 2=true:=rK
@[push_cast] theorem Kf0 {w:World} {K:Value->World->Prop} (a:Addr):zg P zH (.pointer (some a)) 2 w K=K (.pointer (some (a.add 2))) w:=y4 qW0 a
theorem ZD0:fieldB P zZ 0 0=true:=rK
@[push_cast] theorem W10 {w:World} {K:Value->World->Prop} (a:Addr):zg P zZ (.pointer (some a)) 0 w K=K (.pointer (some (a.add 0))) w:=y4 ZD0 a
theorem ZC0:fieldB P zZ 1 1=true:=rK
@[push_cast] theorem W00 {w:World} {K:Value->World->Prop} (a:Addr):zg P zZ (.pointer (some a)) 1 w K=K (.pointer (some (a.add 1))) w:=y4 ZC0 a
theorem x00:fieldB P zT 0 0=true:=rK
@[push_cast] theorem QM0 {w:World} {K:Value->World->Prop} (a:Addr):zg P zT (.pointer (some a)) 0 w K=K (.pointer (some (a.add 0))) w:=y4 x00 a
theorem yZ0:fieldB P zT 1 2=true:=rK
@[push_cast] theorem QL0 {w:World} {K:Value->World->Prop} (a:Addr):zg P zT (.pointer (some a)) 1 w K=K (.pointer (some (a.add 2))) w:=y4 yZ0 a
theorem k30:fieldB P zt 0 0=true:=rK
@[push_cast] theorem V10 {w:World} {K:Value->World->Prop} (a:Addr):zg P zt (.pointer (some a)) 0 w K=K (.pointer (some (a.add 0))) w:=y4 k30 a
theorem k20:fieldB P zt 1 1=true:=rK
@[push_cast] theorem V00 {w:World} {K:Value->World->Prop} (a:Addr):zg P zt (.pointer (some a)) 1 w K=K (.pointer (some (a.add 1))) w:=y4 k20 a
theorem k10:fieldB P zt 2 2=true:=rK
@[push_cast] theorem KZ0 {w:World} {K:Value->World->Prop} (a:Addr):zg P zt (.pointer (some a)) 2 w K=K (.pointer (some (a.add 2))) w:=y4 k10 a
@[push_cast] theorem Vd0 {w:World} {K:Value->World->Prop} (b a:Value):XR0 P zc (.agg ⟨[b,a]⟩) 1 w K=K a w:=yU rK
noncomputable def mn_kids:String:=match P.info? 130 with|some i=>(match i.methods[0]? with|some m=>m.name|none=>default)|none=>default
noncomputable def XX:String:=match P.info? 130 with|some i=>(match i.methods[1]? with|some m=>m.name|none=>default)|none=>default
noncomputable def ZZ:String:=match P.info? 130 with|some i=>(match i.methods[2]? with|some m=>m.name|none=>default)|none=>default
noncomputable def Ki:String:=match P.info? 130 with|some i=>(match i.methods[3]? with|some m=>m.name|none=>default)|none=>default
theorem Kw0:concB P zS=true:=rK
@[push_cast] theorem UL0 {w:World} {K:Value->World->Prop} (v:Value):Wv P zS v w K=K (.iface zS v) w:=QY Kw0 v
theorem jK:concB P zX=true:=rK
@[push_cast] theorem KQ0 {w:World} {K:Value->World->Prop} (v:Value):Wv P zX v w K=K (.iface zX v) w:=QY jK v
theorem UN (a b:Value) (w:World):(method (P.types.size+Made.depth) zX (.agg ⟨[a,b]⟩) mn_kids).run P w= .ok (yV,.agg ⟨[a,b]⟩) w:=rK
theorem UM (a b:Value) (w:World):(method (P.types.size+Made.depth) zX (.agg ⟨[a,b]⟩) XX).run P w= .ok (ZK,.agg ⟨[a,b]⟩) w:=rK
theorem Wz (a b:Value) (w:World):(method (P.types.size+Made.depth) zX (.agg ⟨[a,b]⟩) ZZ).run P w= .ok (Zf,.agg ⟨[a,b]⟩) w:=rK
theorem UL (a b:Value) (w:World):(method (P.types.size+Made.depth) zX (.agg ⟨[a,b]⟩) Ki).run P w= .ok (xd,.agg ⟨[a,b]⟩) w:=rK
theorem ky:concB P y6=true:=rK
@[push_cast] theorem JU0 {w:World} {K:Value->World->Prop} (v:Value):Wv P y6 v w K=K (.iface y6 v) w:=QY ky v
theorem WJ (a b:Value) (w:World):(method (P.types.size+Made.depth) y6 (.agg ⟨[a,b]⟩) mn_kids).run P w= .ok (yV,.agg ⟨[a,b]⟩) w:=rK
theorem WI (a b:Value) (w:World):(method (P.types.size+Made.depth) y6 (.agg ⟨[a,b]⟩) XX).run P w= .ok (Zo,.agg ⟨[a,b]⟩) w:=rK
theorem Vm (a b:Value) (w:World):(method (P.types.size+Made.depth) y6 (.agg ⟨[a,b]⟩) ZZ).run P w= .ok (kX,.agg ⟨[a,b]⟩) w:=rK
theorem WH (a b:Value) (w:World):(method (P.types.size+Made.depth) y6 (.agg ⟨[a,b]⟩) Ki).run P w= .ok (xd,.agg ⟨[a,b]⟩) w:=rK
theorem XZ:concB P zQ=true:=rK
@[push_cast] theorem JT0 {w:World} {K:Value->World->Prop} (v:Value):Wv P zQ v w K=K (.iface zQ v) w:=QY XZ v
theorem WG (a b:Value) (w:World):(method (P.types.size+Made.depth) zQ (.agg ⟨[a,b]⟩) mn_kids).run P w= .ok (yV,.agg ⟨[a,b]⟩) w:=rK
theorem WF (a b:Value) (w:World):(method (P.types.size+Made.depth) zQ (.agg ⟨[a,b]⟩) XX).run P w= .ok (Zn,.agg ⟨[a,b]⟩) w:=rK
theorem Vl (a b:Value) (w:World):(method (P.types.size+Made.depth) zQ (.agg ⟨[a,b]⟩) ZZ).run P w= .ok (kW,.agg ⟨[a,b]⟩) w:=rK
theorem WE (a b:Value) (w:World):(method (P.types.size+Made.depth) zQ (.agg ⟨[a,b]⟩) Ki).run P w= .ok (xd,.agg ⟨[a,b]⟩) w:=rK
theorem xB:concB P y1=true:=rK
@[push_cast] theorem JR0 {w:World} {K:Value->World->Prop} (v:Value):Wv P y1 v w K=K (.iface y1 v) w:=QY xB v
theorem Wy (a b:Value) (w:World):(method (P.types.size+Made.depth) y1 (.agg ⟨[a,b]⟩) mn_kids).run P w= .ok (yV,.agg ⟨[a,b]⟩) w:=rK
theorem Wx (a b:Value) (w:World):(method (P.types.size+Made.depth) y1 (.agg ⟨[a,b]⟩) XX).run P w= .ok (Ze,.agg ⟨[a,b]⟩) w:=rK
theorem Vh (a b:Value) (w:World):(method (P.types.size+Made.depth) y1 (.agg ⟨[a,b]⟩) ZZ).run P w= .ok (kS,.agg ⟨[a,b]⟩) w:=rK
theorem xE:concB P zU=true:=rK
@[push_cast] theorem J60 {w:World} {K:Value->World->Prop} (v:Value):Wv P zU v w K=K (.iface zU v) w:=QY xE v
theorem Vj (a b:Value) (w:World):(method (P.types.size+Made.depth) zU (.agg ⟨[a,b]⟩) mn_kids).run P w= .ok (yV,.agg ⟨[a,b]⟩) w:=rK
theorem Vi (a b:Value) (w:World):(method (P.types.size+Made.depth) zU (.agg ⟨[a,b]⟩) XX).run P w= .ok (kU,.agg ⟨[a,b]⟩) w:=rK
theorem KN (a b:Value) (w:World):(method (P.types.size+Made.depth) zU (.agg ⟨[a,b]⟩) ZZ).run P w= .ok (ke,.agg ⟨[a,b]⟩) w:=rK
theorem qw:concB P zY=true:=rK
@[push_cast] theorem JS0 {w:World} {K:Value->World->Prop} (v:Value):Wv P zY v w K=K (.iface zY v) w:=QY qw v
theorem WD (a b:Value) (w:World):(method (P.types.size+Made.depth) zY (.agg ⟨[a,b]⟩) mn_kids).run P w= .ok (yV,.agg ⟨[a,b]⟩) w:=rK
theorem WC (a b:Value) (w:World):(method (P.types.size+Made.depth) zY (.agg ⟨[a,b]⟩) XX).run P w= .ok (Zm,.agg ⟨[a,b]⟩) w:=rK
theorem Vk (a b:Value) (w:World):(method (P.types.size+Made.depth) zY (.agg ⟨[a,b]⟩) ZZ).run P w= .ok (kV,.agg ⟨[a,b]⟩) w:=rK
theorem WB (a b:Value) (w:World):(method (P.types.size+Made.depth) zY (.agg ⟨[a,b]⟩) Ki).run P w= .ok (xd,.agg ⟨[a,b]⟩) w:=rK
theorem jg:concB P y7=true:=rK
@[push_cast] theorem KR0 {w:World} {K:Value->World->Prop} (v:Value):Wv P y7 v w K=K (.iface y7 v) w:=QY jg v
theorem UQ (a b:Value) (w:World):(method (P.types.size+Made.depth) y7 (.agg ⟨[a,b]⟩) mn_kids).run P w= .ok (yV,.agg ⟨[a,b]⟩) w:=rK
theorem UP (a b:Value) (w:World):(method (P.types.size+Made.depth) y7 (.agg ⟨[a,b]⟩) XX).run P w= .ok (ZO,.agg ⟨[a,b]⟩) w:=rK
theorem WA (a b:Value) (w:World):(method (P.types.size+Made.depth) y7 (.agg ⟨[a,b]⟩) ZZ).run P w= .ok (Zi,.agg ⟨[a,b]⟩) w:=rK
theorem UO (a b:Value) (w:World):(method (P.types.size+Made.depth) y7 (.agg ⟨[a,b]⟩) Ki).run P w= .ok (xd,.agg ⟨[a,b]⟩) w:=rK
theorem Kz:concB P zE=true:=rK
@[push_cast] theorem J70 {w:World} {K:Value->World->Prop} (v:Value):Wv P zE v w K=K (.iface zE v) w:=QY Kz v
theorem Vp (a b c:Value) (w:World):(method (P.types.size+Made.depth) zE (.agg ⟨[a,b,c]⟩) mn_kids).run P w= .ok (yV,.agg ⟨[a,b]⟩) w:=rK
theorem Vo (a b c:Value) (w:World):(method (P.types.size+Made.depth) zE (.agg ⟨[a,b,c]⟩) XX).run P w= .ok (kZ,.agg ⟨[a,b,c]⟩) w:=rK
theorem KO (a b c:Value) (w:World):(method (P.types.size+Made.depth) zE (.agg ⟨[a,b,c]⟩) ZZ).run P w= .ok (kk,.agg ⟨[a,b,c]⟩) w:=rK
theorem Vn (a b c:Value) (w:World):(method (P.types.size+Made.depth) zE (.agg ⟨[a,b,c]⟩) Ki).run P w= .ok (xd,.agg ⟨[a,b]⟩) w:=rK
theorem kz:concB P y2=true:=rK
@[push_cast] theorem JV0 {w:World} {K:Value->World->Prop} (v:Value):Wv P y2 v w K=K (.iface y2 v) w:=QY kz v
theorem WM (a b:Value) (w:World):(method (P.types.size+Made.depth) y2 (.agg ⟨[a,b]⟩) mn_kids).run P w= .ok (yV,.agg ⟨[a,b]⟩) w:=rK
theorem WL (a b:Value) (w:World):(method (P.types.size+Made.depth) y2 (.agg ⟨[a,b]⟩) XX).run P w= .ok (Zr,.agg ⟨[a,b]⟩) w:=rK
theorem Vq (a b:Value) (w:World):(method (P.types.size+Made.depth) y2 (.agg ⟨[a,b]⟩) ZZ).run P w= .ok (Z0,.agg ⟨[a,b]⟩) w:=rK
theorem WK (a b:Value) (w:World):(method (P.types.size+Made.depth) y2 (.agg ⟨[a,b]⟩) Ki).run P w= .ok (xd,.agg ⟨[a,b]⟩) w:=rK
end Go.Proofs.YtokflbdfnbppjaaGreatDoor
