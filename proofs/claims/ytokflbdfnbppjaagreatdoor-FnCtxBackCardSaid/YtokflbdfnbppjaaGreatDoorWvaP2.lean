import Derived.Test.YtokflbdfnbppjaaGreatDoorWvaP1
import Derived.RangeFuncRecord
import Derived.Test.YtokflbdfnbppjaaGreatDoorProg
/- A part of the proof. -/
set_option linter.all false
namespace Go.Vc
open Go Go.RowKit
section
def hasR:Code->Bool
 | .rangeFunc _ _ _ _=>true
 | .seq a b=>hasR a||hasR b
 | .block _ b=>hasR b
 |_=>false
def ovrAt:List Nat->Fr->List Value->Fr
 |[],f,_=>f
 |p::r,f,args=>ovrAt r (put f (some p) (args.headD undef)) args.tail
def jmp (x:Nat) (Nn Nr Nx:World->Prop) (pe:Option Code) (w:World):Prop:=
 match pe with
 |none=>Nn w
 |some .ret=>Nr w
 |some (.exit i)=>i=x/\Nx w
 |_=>False
def U90 (P:Program) (gv:Value) (n x:Nat) (w:World) (B:List Value->(World->(World->Prop)->Prop)->(World->Prop)->(World->Prop)->(World->Prop)->World->Prop) (Nn Nr Nx:Nat->World->Prop):Prop:=
 ∃gf lb,gv= .func (.func gf) #[] lb/\∀(l D:Nat) (w1:World) (RR:LoopState->Option Code->World->Prop),D=w.heap.size->l=w.heap.size+1->Ext w w1->w1.heap.size=w.heap.size+2->w1.heap[D]?=some (.deferred (some []))->
  (∀st pe w' w'',RR st pe w'->w''.heap[l]?=w'.heap[l]?->RR st pe w'')->RR .ready none w1->
  (∀(args:List Value) (w':World) (K:Value->World->Prop),args.length=n->RR .ready none w'->
   B args (λw1 k=>RR .ready none w1/\∀w2,Same (· =l) w1 w2->w2.heap.size=w1.heap.size->RR .busy none w2->k w2)
    (λw3=>RR .busy none w3/\∀w4,Same (· =l) w3 w4->w4.heap.size=w3.heap.size->RR .ready none w4->K (.bool true) w4)
    (λw3=>RR .busy none w3/\∀w4,Same (· =l) w3 w4->w4.heap.size=w3.heap.size->RR .done (some .ret) w4->K (.bool false) w4)
    (λw3=>RR .busy none w3/\∀w4,Same (· =l) w3 w4->w4.heap.size=w3.heap.size->RR .done (some (.exit x)) w4->K (.bool false) w4) w'->
   vcallv P (.func (.yield l) #[] #[]) ⟨args⟩ w' K)->
  vcall P gf ⟨.func (.yield l) #[] #[]::lb.toList⟩ w1 λ_ w3=> ∃st pe,st≠ .busy/\RR st pe w3/\∀w4,Same (· =l) w3 w4->w4.heap.size=w3.heap.size->jmp x (Nn D) (Nr D) (Nx D) pe w4
def rndK (x:Nat) (kn kr kx:World->Prop) (e:Exit) (_:Fr) (w:World):Prop:=
 match e with
 | .normal=>kn w
 | .ret=>kr w
 | .exit i=>cond (Nat.beq i x) (kx w) False
 |_=>False
def vx (P:Program) (T:Ann) (x:Nat):Code->(Exit->Fr->World->Prop)->(Nat->Exit->Fr->World->Prop)->Fr->World->Prop
 | .rangeFunc g ps asg body,_,K1,f,w=>
  U90 P (ev f g) ps.size x w
   (λargs beg kn kr kx w'=>vc P T asg (seqK (λf1 w1=>beg w1 λw2=>vc P T body (rndK x kn kr kx) f1 w2) (λ_ _ _=>False)) (ovrAt ps.toList f args) w')
   (λD w'=>K1 D .normal f w') (λD w'=>K1 D .ret f w') (λD w'=>K1 D (.exit x) f w')
 | .seq a b,K0,K1,f,w=>
  match hasR a with
  |true=>vx P T x a (seqK (λf' w'=>vc P T b K0 f' w') K0) (λD=>seqK (λf' w'=>vc P T b (K1 D) f' w') (K1 D)) f w
  |false=>vc P T a (seqK (λf' w'=>vx P T x b K0 K1 f' w') K0) f w
 | .block id c,K0,K1,f,w=>vx P T x c (blkK id K0) (λD=>blkK id (K1 D)) f w
 |_,_,_,_,_=>False
def okX (n:Nat) (T:Ann):Code->Bool
 | .rangeFunc _ ps asg body=>okC n T asg&&(okC n T body&&ps.toList.all λp=>Nat.blt p n)
 | .seq a b=>cond (hasR a) (okX n T a&&okC n T b) (okC n T a&&okX n T b)
 | .block _ c=>okX n T c
 |_=>false
def Um0 (D:Nat):Deferred:={target:= .collected D,args:= #[]}
def VV0 (n:Nat) (K0:Exit->Fr->World->Prop) (K1:Nat->Exit->Fr->World->Prop) (e:Exit) (a:Act) (w:World):Prop:=
 (∃f',Sim [] n f' a/\K0 e f' w)\/ ∃D f',Sim [Um0 D] n f' a/\K1 D e f' w
section
variable {P:Program} {T:Ann} {n x:Nat}
theorem Wn0:∀(ps:List Nat) (f:Fr) (args:List Value) (tmps:Array Value),args.length=ps.length->ps.all (λp=>Nat.blt p n)=true->tmps.size=n->(∀t,tmps.getD t undef=f t)->
  Sim [] n (ovrAt ps f args) {tmps:=(ps.zip args).foldl (λt p=>t.setIfInBounds p.1 p.2) tmps,defers:=[]}:=by
 intro ps;induction ps with
 |nil=>intro f args tmps _ _ hs a;exact⟨hs,rfl,a⟩
 |cons p r g=>
  intro f args tmps d b hs a;cases args with
  |nil=>simp at d
  |cons v args=>
   simp only[List.all_cons,V0] at b;have c:p<n:=(by simpa[pW] using b.1);refine g (put f (some p) v) args (tmps.setIfInBounds p v) (by simpa using d) b.2 (by simpa using hs) λt=>?_;by_cases e:t=p
   ·subst e;rw[qj0];simp[gL,hs,c]
   ·rw[kF0 _ _ _ _ e,<-a t];simp only[gL];rw[Po (Ne.symm e)]
theorem Wh (w:World) (l:Nat) (o:Obj):Same (· =l) w (w.putObj l o):=
 ⟨rfl,rfl,rfl,by simp,λ_ _ a=>World.putObj_heap_other a⟩
theorem Wk {w:World} {l:Nat} {o:Obj} (h:w.heap[l]?=some o):l<w.heap.size:=(gB.1 h).1
theorem range_sound (hm:P.follows .mixedOrders=true) {g:Operand} {ps:Array Tmp} {asg body:Code} {U:Exit->Fr->World->Prop} {V:Nat->Exit->Fr->World->Prop} {f:Fr} {a:Act} {w:World}
  (z:okX n T (.rangeFunc g ps asg body)=true) (h:vx P T x (.rangeFunc g ps asg body) U V f w) (hs:Sim [] n f a):(Code.rangeFunc g ps asg body).wpIn (FR none) 0 P (VV0 n U V) a w:=by
 simp only[okX,V0] at z;obtain⟨N,O,Q⟩:=z;obtain⟨gf,lb,hg,H⟩:=h;refine wpIn_rangeFunc λfn _=>?_
 let d:LoopState->Option Code->Loop:=λst pe=>{state:=st,pending:=pe,fn,tmps:=a.tmps,params:=ps,assign:=asg,body,defers:=w.heap.size}
 obtain⟨w1,q⟩:∃w1,(w.alloc (.deferred (some []))).alloc (.loop (d .ready none))=w1:=⟨_,rfl⟩;have G:w1.heap[w.heap.size+1]?=some (.loop (d .ready none)):=by
  rw[<-q];have:=World.alloc_heap_new (w.alloc (.deferred (some []))) (.loop (d .ready none));rwa[World.size_alloc] at this
 have hD1:w1.heap[w.heap.size]?=some (.deferred (some [])):=by
  rw[<-q];exact(Below.heap_alloc _ _ _ (by simp)).trans (World.alloc_heap_new w _)
 have D:w1.heap.size=w.heap.size+2:=by rw[<-q,World.size_alloc,World.size_alloc]
 have F:Ext w w1:=by
  rw[<-q];exact⟨rfl,rfl,rfl,by rw[World.size_alloc,World.size_alloc];omega,λb Z _=>(Below.heap_alloc _ _ b (by rw[World.size_alloc];omega)).trans (Below.heap_alloc w _ b Z)⟩
 have hc:=H (w.heap.size+1) w.heap.size w1 (λst pe w'=>w'.heap[w.heap.size+1]?=some (.loop (d st pe))) rfl rfl F D hD1 (λst pe w' w'' A he=>he.trans A) G ?_
 ·obtain⟨I,r⟩:=hc;refine⟨w.heap.size+1,[Um0 w.heap.size],w1,{target:= .fn (.func gf) lb,args:= #[.func (.yield (w.heap.size+1)) #[] #[]]},w1,gf,
   #[.func (.yield (w.heap.size+1)) #[] #[]]++lb,w1,?_,?_,λ_ _=>trivial,?_,λh=>(by cases h),?_⟩
  ·rw[<-q];exact run_enterLoop_outer _ _ _ _ _
  ·simp only[resolve,hs.eval,hg];simp[go_sem,ev]
  ·simp[invoke,go_sem,callFunc_run I]
  ·have e:(#[.func (.yield (w.heap.size+1)) #[] #[]]++lb:Array Value)=⟨.func (.yield (w.heap.size+1)) #[] #[]::lb.toList⟩:=by apply GK.1;simp
   rw[e];refine callsIn_wide.2 (Calls.mono r λe E he=>?_);cases e with
   |returned v=>
    obtain⟨st,pe,S,A,Y⟩:=he;have u:=run_endLoop (P:=P) A (by exact S);have m:=Y _ (Wh E _ (.loop {d st pe with state:= .exhausted})) (by simp);have s:Sim [Um0 w.heap.size] n f {a with defers:=[Um0 w.heap.size]++a.defers}:=⟨hs.size,by rw[hs.defers];rfl,hs.at_⟩;refine⟨pe,_,u,?_⟩;cases pe with
    |none=>exact .inr ⟨_,f,s,m⟩
    |some c=>
     cases c<;>simp only[jmp] at m<;>try exact m.elim
     case exit i=>
      obtain⟨rfl,m⟩:=m;exact wpIn_exit (.inr ⟨_,f,s,m⟩)
     case ret=>exact wpIn_ret (.inr ⟨_,f,s,m⟩)
   |panicked c=>exact he.elim
   |outgrown=>exact he.elim
 ·intro args w' K hlen A X;have hy:=run_yield (P:=P) (args:=(⟨args⟩:Array Value)) A (by simpa[d] using hlen);refine⟨fn,_,asg,body,hy,roundIn_of_wpIn trivial ?_⟩;have C:=Wn0 (n:=n) ps.toList f args a.tmps (by simpa using hlen) Q hs.size hs.at_;have ez:((d .ready none).params.zip (⟨args⟩:Array Value)).foldl (λtmps (t,a)=>tmps.setIfInBounds t a) (d .ready none).tmps=(ps.toList.zip args).foldl (λt p=>t.setIfInBounds p.1 p.2) a.tmps:=by
   rw[<-PH,Array.toList_zip]
  rw[ez];have W:=vc_sound (ro:=some (w.heap.size+1)) hm asg _ _ _ w' N X C (λl f w h=>h);refine wpIn_mono W ?_;rintro e a2 w2 ⟨f2,R,_,y⟩;cases e<;>simp only[seqK] at y<;>try exact y.elim
  case normal=>
   obtain⟨B,y⟩:=y;refine⟨_,run_beginRound B rfl,?_⟩;have M:=Wk B;have L:=y _ (Wh w2 _ (.loop {d .ready none with state:= .busy})) (by simp) (World.putObj_heap_same M);refine wpIn_mono (vc_sound (ro:=some (w.heap.size+1)) hm body _ _ _ _ O L R (λl f w h=>h)) ?_;rintro e a3 E ⟨f3,a0,_,j⟩;cases e<;>simp only[rndK] at j<;>try exact j.elim
   case normal=>
    obtain⟨k,o⟩:=j;exact⟨_,_,run_endRound none k,o _ (Wh E _ _) (by simp) (World.putObj_heap_same (Wk k))⟩
   case ret=>
    obtain⟨k,o⟩:=j;exact⟨_,_,run_endRound (some .ret) k,o _ (Wh E _ _) (by simp) (World.putObj_heap_same (Wk k))⟩
   case exit i=>
    cases J:Nat.beq i x
    ·rw[J] at j;exact j.elim
    ·rw[J] at j;obtain rfl:=gp J;obtain⟨k,o⟩:=j;exact⟨_,_,run_endRound (some (.exit i)) k,o _ (Wh E _ _) (by simp) (World.putObj_heap_same (Wk k))⟩
theorem KJ0 (hm:P.follows .mixedOrders=true):∀(c:Code) (p:Exit->Fr->World->Prop) (q:Nat->Exit->Fr->World->Prop) (f:Fr) (a:Act) (w:World),okX n T c=true->vx P T x c p q f w->Sim [] n f a->
  (∀l f w,¬p (.goto l) f w)->(∀D l f w,¬q D (.goto l) f w)->c.wpIn (FR none) 0 P (VV0 n p q) a w:=by
 intro c;induction c with
 |rangeFunc g ps asg body _ _=>intro p q f a w d h hs _ _;exact range_sound hm d h hs
 |seq y z ihy ihz=>
  intro p q f a w d h hs o s;refine wpIn_seq ?_;simp only[okX] at d;simp only[vx] at h;cases F:hasR y with
  |true=>
   rw[F] at d h;simp only[cond,V0] at d;simp only at h;refine wpIn_mono (ihy _ _ f a w d.1 h hs (λl f w h=>o l f w h) (λD l f w h=>s D l f w h)) ?_;rintro e r w' (⟨m,j,k⟩|⟨D,m,j,k⟩)
   ·cases e with
    |normal=>
     refine wpIn_mono (vc_sound hm z p m r w' d.2 k j o) ?_;rintro e B w'' ⟨u,t,_,v⟩;exact .inl ⟨u,t,v⟩
    |_=>exact .inl ⟨m,j,k⟩
   ·cases e with
    |normal=>
     refine wpIn_mono (vc_sound hm z (q D) m r w' d.2 k j (s D)) ?_;rintro e B w'' ⟨u,t,_,v⟩;exact .inr ⟨D,u,t,v⟩
    |_=>exact .inr ⟨D,m,j,k⟩
  |false=>
   rw[F] at d h;simp only[cond,V0] at d;simp only at h;refine wpIn_mono (vc_sound hm y _ f a w d.1 h hs (λl f w h=>o l f w h)) ?_;rintro e r w' ⟨m,j,_,k⟩;cases e with
   |normal=>exact ihz p q m r w' d.2 k j o s
   |_=>exact .inl ⟨m,j,k⟩
 |block id b G=>
  intro p q f a w d h hs o s;simp only[vx] at h;refine wpIn_block (wpIn_mono (G _ _ f a w d h hs (λl f w h=>o l f w h) (λD l f w h=>s D l f w h)) ?_);have key:∀(K:Exit->Fr->World->Prop) (e:Exit) (m:Fr) (w':World),blkK id K e m w'->∀(df:List Deferred) (r:Act),Sim df n m r->(∀e f w a,Sim df n f a->K e f w->VV0 n p q e a w)->Exit.inBlock id (VV0 n p q) e r w':=by
   intro K e m w' k df r j C;cases e with
   |exit i=>
    simp only[blkK] at k;cases A:Nat.beq i id
    ·rw[A] at k;have E:i≠id:=Nat.ne_of_beq_eq_false A;simp only[Exit.inBlock,E,if_false];exact C _ _ _ _ j k
    ·rw[A] at k;have:i=id:=gp A;subst this;simp only[Exit.inBlock,if_true];exact C _ _ _ _ j k
   |_=>exact C _ _ _ _ j k
  rintro e r w' (⟨m,j,k⟩|⟨D,m,j,k⟩)
  ·exact key p e m w' k [] r j λe f w a hs h=> .inl ⟨f,hs,h⟩
  ·exact key (q D) e m w' k [Um0 D] r j λe f w a hs h=> .inr ⟨D,f,hs,h⟩
 |_=>intro p q f a w d;exact absurd d (by simp[okX])
def Q70 (D:Nat) (w:World) (k:World->Prop):Prop:=w.heap[D]?=some (.deferred (some []))/\∀w',Same (· =D) w w'->w'.heap.size=w.heap.size->k w'
def retM (P:Program) (rs:List ResultVar) (K:Value->World->Prop) (D:Nat) (e:Exit) (f:Fr) (w:World):Prop:=
 match e with
 | .normal=>Q70 D w λw'=>WU0 P rs f w' K
 | .ret=>Q70 D w λw'=>WU0 P rs f w' K
 |_=>False
theorem YM0 {g:Nat} {fn:Func} {c:Code} {args:List Value} {w:World} {K:Value->World->Prop} (hm:P.follows .mixedOrders=true) (r:P.funcs[g]?=some fn) (q:fn.body=some c)
  (t:fn.ntmps=n) (s:okFn P g=true) (j:okX n T c=true) (hlen:Nat.ble args.length n=true)
  (h:vx P T x c (retF P fn.results.toList K) (retM P fn.results.toList K) (nthV args) w):vcall P g args.toArray w K:=by
 refine⟨s,callsIn_wide (n:=0).1 (callsIn_of_wp_marks r q trivial ?_)⟩;rw[t];refine wpIn_mono (KJ0 (x:=x) hm c _ _ _ _ w j h (sim_enter args n (Gf hlen)) (λl f w h=>h) (λD l f w h=>h)) ?_;rintro e k w' (⟨m,a,b⟩|⟨D,m,a,b⟩)
 ·cases e with
  |normal=>obtain⟨v,d,i⟩:=vres_sound b a;rw[bodyPostM,a.defers];exact⟨v,d,i⟩
  |ret=>obtain⟨v,d,i⟩:=vres_sound b a;rw[bodyPostM,a.defers];exact⟨v,d,i⟩
  |_=>exact b.elim
 ·have fin:Q70 D w' (λw'=>WU0 P fn.results.toList m w' K)->LeavesInM (FR none) 0 P fn k.tmps (retK K) k.defers .returning w':=by
   rintro⟨o,p⟩;rw[a.defers];obtain⟨v,d,i⟩:=vres_sound (p _ (Wh w' D (.deferred none)) (by simp)) a;exact⟨by simp,.inl ⟨_,_,rfl,run_takeDeferred o,v,d,i⟩⟩
  cases e with
  |normal=>exact fin b
  |ret=>exact fin b
  |_=>exact b.elim
end
end
end Go.Vc
section
namespace Go.M
inductive Tm where
 |mk (op a b:Int) (s:ByteArray) (ks:List Tm)
namespace Tm
def op:Tm->Int|mk o _ _ _ _=>o
def a:Tm->Int|mk _ a _ _ _=>a
def b:Tm->Int|mk _ _ b _ _=>b
def s:Tm->ByteArray|mk _ _ _ s _=>s
def ks:Tm->List Tm|mk _ _ _ _ ks=>ks
theorem ind {p:Tm->Prop} (h:∀t,(∀k,k∈t.ks->p k)->p t):∀t,p t
 |mk o a b s ks=>h _ λk (c:k∈ks)=>by
   have:=List.sizeOf_lt_of_mem c;exact ind h k
decreasing_by
 simp only[mk.sizeOf_spec];omega
variable {α:Type}
mutual
def fold (f:Tm->List α->α):Tm->α
 |mk o a b s ks=>f (mk o a b s ks) (foldL f ks)
def foldL (f:Tm->List α->α):List Tm->List α
 |[]=>[]
 |k::r=>fold f k::foldL f r
end
theorem foldL_eq (f:Tm->List α->α) (ks:List Tm):foldL f ks=ks.map (fold f):=by
 induction ks with
 |nil=>simp only[foldL,Pl]
 |cons k r a=>simp only[foldL,a,gS]
theorem fold_eq (f:Tm->List α->α) (t:Tm):fold f t=f t (t.ks.map (fold f)):=by
 cases t with
 |mk o a b s ks=>simp only[fold,foldL_eq];rfl
end Tm
def nada:ByteArray:=⟨#[]⟩
instance:Inhabited Tm:=⟨.mk 0 0 0 nada []⟩
def vok (w n:Int):Bool:=decide (1<=w)&&decide (w<=4)&&decide (0<=n)&&decide (n<2^w.toNat)
theorem vok_iff {w n:Int}:vok w n=true↔1<=w/\w<=4/\0<=n/\n<2^w.toNat:=by simp[vok,and_assoc]
theorem Ue0:(2:Int)^(1:Int).toNat=2:=rfl
theorem Ud0:(2:Int)^(2:Int).toNat=4:=rfl
theorem Uc0:(2:Int)^(3:Int).toNat=8:=rfl
theorem Ub0:(2:Int)^(4:Int).toNat=16:=rfl
theorem four {w:Int} (a:1<=w) (b:w<=4):w=1\/w=2\/w=3\/w=4:=by omega
theorem vok_lt {w n:Int} (h:vok w n=true):1<=w/\w<=4/\0<=n/\n<16:=by
 obtain⟨a,b,c,d⟩:=vok_iff.1 h;refine⟨a,b,c,?_⟩;rcases four a b with rfl|rfl|rfl|rfl<;>simp only[Ue0,Ud0,Uc0,Ub0] at d<;>omega
theorem small1 {p:Nat->Nat->Prop} [∀w n,Decidable (p w n)] (h:∀w:Fin 5,∀n:Fin 16,1<=w.1->n.1<2^w.1->p w n) {w n:Int} (a:vok w n=true):p w.toNat n.toNat:=by
 obtain⟨b,c,d,e⟩:=vok_lt a;obtain⟨_,_,_,f⟩:=vok_iff.1 a;refine h ⟨w.toNat,by omega⟩ ⟨n.toNat,by omega⟩ (by show 1<=w.toNat;omega) ?_;show n.toNat<2^w.toNat;have:((2^w.toNat:Nat):Int)=2^w.toNat:=by simp
 omega
def unM (op w a:Int):Int:=if op=1 then 2^w.toNat-1-a else(2^w.toNat-a)%2^w.toNat
def binN (op w a b:Nat):Nat:=
 if op=3 then a&&&b
 else if op=4 then a|||b
 else if op=5 then a^^^b
 else if op=6 then(a+b)%2^w
 else if op=7 then(a+2^w-b)%2^w
 else if op=8 then a*b%2^w
 else if op=9 then(if b=0 then 2^w-1 else a/b)
 else if op=10 then(if b=0 then a else a%b)
 else if op=11 then a*2^b%2^w
 else if op=12 then a/2^b
 else if a<2^(w-1) then a/2^b else 2^w-1-(2^w-1-a)/2^b
def WJ0 (op w a b:Int):Int:=binN op.toNat w.toNat a.toNat b.toNat
def W90 (v a b:Int):Int:=a*2^v.toNat+b
def sgn (w a:Int):Int:=if a<2^(w.toNat-1) then a else a-2^w.toNat
def cmpM (op w a b:Int):Bool:=if op=15 then decide (a=b) else if op=16 then decide (a<b) else decide (sgn w a<sgn w b)
def cutM (a hi lo:Int):Int:=a/2^lo.toNat%2^(hi-lo+1).toNat
theorem unM_ok {op w a:Int} (h:vok w a=true):vok w (unM op w a)=true:=by
 obtain⟨b,c,e,d⟩:=vok_iff.1 h;refine vok_iff.2 ⟨b,c,?_⟩;unfold unM;rcases four b c with rfl|rfl|rfl|rfl<;>simp only[Ue0,Ud0,Uc0,Ub0] at d⊢ <;>split<;>omega
def Uz0 (op w:Nat):Bool:=(List.range 16).all λa=>(List.range 16).all λb=> !(decide (a<2^w)&&decide (b<2^w))||decide (binN op w a b<2^w)
theorem binN_lt {op w a b:Nat} (f:3<=op) (h:op<=13) (hw:1<=w) (d:w<=4) (g:a<2^w) (i:b<2^w):binN op w a b<2^w:=by
 have c:∀o:Fin 14,∀v:Fin 5,3<=o.1->1<=v.1->Uz0 o v=true:=by decide+kernel
 have e:2^w<=2^4:=gO (by omega) d;have:=c ⟨op,by omega⟩ ⟨w,by omega⟩ f hw;simp only[Uz0,gN,gy,gP,gY,GO,decide_eq_false_iff_not,decide_eq_true_eq] at this;rcases this a (by omega) b (by omega) with(h|h)|h
 ·exact absurd g h
 ·exact absurd i h
 ·exact h
theorem binM_ok {op w a b:Int} (k:3<=op) (d:op<=13) (i:vok w a=true) (j:vok w b=true):vok w (WJ0 op w a b)=true:=by
 obtain⟨c,f,l,m⟩:=vok_iff.1 i;obtain⟨_,_,g,h⟩:=vok_iff.1 j;have e:((2^w.toNat:Nat):Int)=2^w.toNat:=by simp
 have:=binN_lt (op:=op.toNat) (w:=w.toNat) (a:=a.toNat) (b:=b.toNat) (by omega) (by omega) (by omega) (by omega) (by omega) (by omega);refine vok_iff.2 ⟨c,f,by unfold WJ0;omega,?_⟩;unfold WJ0;omega
theorem cat_ok {v w a b:Int} (g:vok w a=true) (h:vok v b=true) (hs:w+v<=4):vok (w+v) (W90 v a b)=true:=by
 obtain⟨c,d,l,f⟩:=vok_iff.1 g;obtain⟨i,j,m,k⟩:=vok_iff.1 h;refine vok_iff.2 ⟨by omega,hs,?_⟩;unfold W90;have e:(w+v).toNat=w.toNat+v.toNat:=by omega
 rw[e,Int.pow_add];rcases four c d with rfl|rfl|rfl|rfl<;>rcases four i j with rfl|rfl|rfl|rfl<;>simp only[Ue0,Ud0,Uc0,Ub0] at f k⊢ <;>omega
theorem cut_ok {w a b lo:Int} (c:vok w a=true) (d:0<=lo) (i:lo<=b) (hw:b<w):vok (b-lo+1) (cutM a b lo)=true:=by
 obtain⟨e,f,g,h⟩:=vok_iff.1 c;refine vok_iff.2 ⟨by omega,by omega,?_⟩;unfold cutM;have:(0:Int)<2^(b-lo+1).toNat:=Int.pow_pos (by omega);exact⟨Int.emod_nonneg _ (by omega),Int.emod_lt_of_pos _ this⟩
def vecUn (op w n:Int):(Int×Int)×Bool:=if vok w n=true/\(op=1\/op=2) then((w,unM op w n),true) else((0,0),false)
def vecBin (op w n v m:Int):(Int×Int)×Bool:=
 if vok w n=true/\vok v m=true then
  if op=14 then(if w+v<=4 then((w+v,W90 v n m),true) else((0,0),false))
  else if 3<=op/\op<=13/\w=v then((w,WJ0 op w n m),true) else((0,0),false)
 else((0,0),false)
def vecCmp (op w n v m:Int):Bool×Bool:=
 if vok w n=true/\vok v m=true/\w=v/\15<=op/\op<=17 then(cmpM op w n m,true) else(false,false)
def vecCut (w n hi lo:Int):(Int×Int)×Bool:=if vok w n=true/\0<=lo/\lo<=hi/\hi<w then((hi-lo+1,cutM n hi lo),true) else((0,0),false)
theorem vok_nat {w n:Int} (h:vok w n=true):∃k a:Nat,w=k/\n=a/\1<=k/\k<=4/\a<2^k:=by
 obtain⟨b,c,d,e⟩:=vok_iff.1 h;refine⟨w.toNat,n.toNat,by omega,by omega,by omega,by omega,?_⟩;have:((2^w.toNat:Nat):Int)=2^w.toNat:=by simp
 omega
theorem unM_not {k a:Nat} (c:1<=k) (d:k<=4) (h:a<2^k):unM 1 k a=((18446744073709551615-a)%2^k:Nat):=by
 have b:∀v:Fin 5,∀x:Fin 16,1<=v.1->x.1<2^v.1->unM 1 v.1 x.1=((18446744073709551615-x.1)%2^v.1:Nat):=by decide+kernel
 have:2^k<=2^4:=gO (by omega) d;exact b ⟨k,by omega⟩ ⟨a,by omega⟩ c h
theorem unM_neg {k a:Nat} (c:1<=k) (d:k<=4) (h:a<2^k):unM 2 k a=((if a=0 then 0 else 18446744073709551616-a)%2^k:Nat):=by
 have b:∀v:Fin 5,∀x:Fin 16,1<=v.1->x.1<2^v.1->unM 2 v.1 x.1=((if x.1=0 then 0 else 18446744073709551616-x.1)%2^v.1:Nat):=by decide+kernel
 have:2^k<=2^4:=gO (by omega) d;exact b ⟨k,by omega⟩ ⟨a,by omega⟩ c h
theorem cat_or {k v a b:Nat} (d:v<=4) (f:k<=4) (i:a<2^k) (e:b<2^v):((a*2^v|||b:Nat):Int)=W90 v a b:=by
 have c:∀v:Fin 5,∀x y:Fin 16,y.1<2^v.1->x.1*2^v.1|||y.1=x.1*2^v.1+y.1:=by decide+kernel
 have g:2^k<=2^4:=gO (by omega) f;have h:2^v<=2^4:=gO (by omega) d;have:=c ⟨v,by omega⟩ ⟨a,by omega⟩ ⟨b,by omega⟩ e;simp only at this;rw[this];simp[W90]
end Go.M
end
namespace Go.M
open Go.Vc
abbrev Dcl:=ByteArray×Int
def findD (ds:List Dcl) (s:ByteArray):Int:=idxI ds.length λi=>decide ((ds.getD i (nada,0)).1=s)
def tru:ByteArray:=⟨#[116,114,117,101]⟩
def nameOk (s:ByteArray):Bool:=decide (1<=s.size)&&decide (s.size<=4)&&decide (s≠tru)&&s.data.all λc=>decide (97<=c.toNat)&&decide (c.toNat<=122)
def bits (ds:List Dcl):Int:=(ds.map (·.2)).sum
def dclOk (ds:List Dcl) (i:Nat):Bool:=nameOk (ds.getD i (nada,0)).1&&decide (1<=(ds.getD i (nada,0)).2)&&decide ((ds.getD i (nada,0)).2<=4)&&decide (findD (ds.take i) (ds.getD i (nada,0)).1<0)
def declOk (ds:List Dcl):Bool:=decide (ds.length<=4)&&((List.range ds.length).all λi=>dclOk ds i)&&decide (bits ds<=8)
def envOk (ds:List Dcl) (env:List Int):Bool:=declOk ds&&decide (env.length=ds.length)&&(List.range ds.length).all λi=>vok (ds.getD i (nada,0)).2 (env.getD i 0)
theorem findD_lt (ds:List Dcl) (s:ByteArray): -1<=findD ds s/\findD ds s<ds.length:=by
 unfold findD idxI;split
 ·rename_i i h;have:=pZ h;simp at this;omega
 ·omega
theorem findD_neg {ds:List Dcl} {s:ByteArray} (h:findD ds s<0) {j:Nat} (b:j<ds.length):(ds.getD j (nada,0)).1≠s:=by
 unfold findD idxI at h;split at h
 ·omega
 ·rename_i a;rw[GY] at a;have:=a j (gy.2 b);simpa using this
theorem findD_get {ds:List Dcl} {s:ByteArray} (h:0<=findD ds s):(ds.getD (findD ds s).toNat (nada,0)).1=s:=by
 unfold findD idxI at h⊢;split at h
 ·rename_i i a;have:=P6 a;simpa using this
 ·omega
theorem findD_of {ds:List Dcl} {s:ByteArray} {i:Nat} (a:i<ds.length) (h:(ds.getD i (nada,0)).1=s) (c:∀j,j<i->(ds.getD j (nada,0)).1≠s):findD ds s=i:=
 idxI_some a (by simp only[h,decide_true]) λj b=>decide_eq_false (c j b)
theorem findD_none {ds:List Dcl} {s:ByteArray} (b:∀j,j<ds.length->(ds.getD j (nada,0)).1≠s):findD ds s= -1:=
 qI0 λj a=>decide_eq_false (b j a)
theorem decl_iff {ds:List Dcl}:declOk ds=true↔ds.length<=4/\(∀i,i<ds.length->dclOk ds i=true)/\bits ds<=8:=by
 simp only[declOk,V0,gN,gy,decide_eq_true_eq,and_assoc]
theorem take_getD {α:Type} {l:List α} {i j:Nat} {d:α} (h:j<i):(l.take i).getD j d=l.getD j d:=by
 simp[k6,pN,h]
theorem dcl_apart {ds:List Dcl} (h:declOk ds=true) {i j:Nat} (b:i<ds.length) (c:j<i):(ds.getD j (nada,0)).1≠(ds.getD i (nada,0)).1:=by
 have:=(decl_iff.1 h).2.1 i b;simp only[dclOk,V0,decide_eq_true_eq] at this;have a:=findD_neg this.2 (j:=j) (by rw[gi];omega);rwa[take_getD c] at a
def bitT (ds:List Dcl) (i:Nat):Int:=((ds.take i).map (·.2)).sum
theorem bitT_succ {ds:List Dcl} {i:Nat} (h:i<ds.length):bitT ds (i+1)=bitT ds i+(ds.getD i (nada,0)).2:=by
 unfold bitT;rw[G7,K3 h,gx,Pz,k6,K3 h];simp
theorem bitT_all (ds:List Dcl):bitT ds ds.length=bits ds:=by unfold bitT bits;rw[gC]
theorem dcl_wide {ds:List Dcl} (h:declOk ds=true) {i:Nat} (b:i<ds.length):1<=(ds.getD i (nada,0)).2/\(ds.getD i (nada,0)).2<=4:=by
 simp only[declOk,V0,gN,gy,dclOk,decide_eq_true_eq] at h;obtain⟨⟨_,a⟩,_⟩:=h;exact⟨(a i b).1.1.2,(a i b).1.2⟩
theorem env_ok {ds:List Dcl} {env:List Int} (h:envOk ds env=true):declOk ds=true/\env.length=ds.length/\∀i,i<ds.length->vok (ds.getD i (nada,0)).2 (env.getD i 0)=true:=by
 simp only[envOk,V0,gN,gy,decide_eq_true_eq] at h;exact⟨h.1.1,h.1.2,h.2⟩
def sizeM:Tm->Nat:=Tm.fold λ_ xs=>1+xs.sum
def deepM:Tm->Nat:=Tm.fold λ_ xs=>1+xs.foldl max 0
theorem sizeM_eq (t:Tm):sizeM t=1+(t.ks.map sizeM).sum:=Tm.fold_eq _ t
theorem Wp (t:Tm):deepM t=1+(t.ks.map deepM).foldl max 0:=Tm.fold_eq _ t
def szT (ks:List Tm) (i:Nat):Nat:=((ks.take i).map sizeM).sum
def dpT (ks:List Tm) (i:Nat):Nat:=((ks.take i).map deepM).foldl max 0
theorem take_add {α:Type} {l:List α} {i:Nat} (h:i<l.length) (d:α):l.take (i+1)=l.take i++[l.getD i d]:=by
 rw[G7,K3 h,k6,K3 h];rfl
theorem szT_succ {ks:List Tm} {i:Nat} (h:i<ks.length):szT ks (i+1)=szT ks i+sizeM (ks.getD i default):=by
 unfold szT;rw[take_add h default,gx,Pz];simp
theorem dpT_succ {ks:List Tm} {i:Nat} (h:i<ks.length):dpT ks (i+1)=max (dpT ks i) (deepM (ks.getD i default)):=by
 unfold dpT;rw[take_add h default,gx,List.foldl_append];rfl
theorem szT_all (t:Tm):sizeM t=1+szT t.ks t.ks.length:=by rw[sizeM_eq,szT,gC]
theorem dpT_all (t:Tm):deepM t=1+dpT t.ks t.ks.length:=by rw[Wp,dpT,gC]
theorem szT_mono {ks:List Tm} {i:Nat}:∀{j:Nat},i<=j->j<=ks.length->szT ks i<=szT ks j
 |0,h,_=>by
  have:i=0:=(by omega);subst this;exact gr _
 |j+1,h,a=>by
  by_cases e:i=j+1
  ·subst e;exact gr _
  ·have:=szT_mono (ks:=ks) (i:=i) (j:=j) (by omega) (by omega);rw[szT_succ (by omega)];omega
theorem dpT_mono {ks:List Tm} {i:Nat}:∀{j:Nat},i<=j->j<=ks.length->dpT ks i<=dpT ks j
 |0,h,_=>by
  have:i=0:=(by omega);subst this;exact gr _
 |j+1,h,a=>by
  by_cases e:i=j+1
  ·subst e;exact gr _
  ·have:=dpT_mono (ks:=ks) (i:=i) (j:=j) (by omega) (by omega);rw[dpT_succ (by omega)];omega
def fits (t:Tm):Bool:=decide (sizeM t<=20)&&decide (deepM t<=7)
theorem fits_iff {t:Tm}:fits t=true↔sizeM t<=20/\deepM t<=7:=by simp[fits]
def manyM (t:Tm):Nat:=if fits t then sizeM t else 21
def lvlM (t:Tm):Nat:=if fits t then deepM t else 8
def arity (o:Int):Int:=if o=20\/o=21\/o=24 then 0 else if o=1\/o=2\/o=22\/o=25 then 1 else if o=23 then 3 else if o=26\/o=27 then 2 else if 3<=o/\o<=17 then 2 else-1
def plainM (t:Tm):Bool:=(decide (t.op=20)||decide (t.op=22)||(decide (t.a=0)&&decide (t.b=0)))&&(decide (t.op=21)||decide (t.s=nada))
def sortK (ds:List Dcl) (t:Tm) (xs:List Int):Int:=
 if t.op=20 then(if vok t.a t.b then t.a else-1)
 else if t.op=21 then(if findD ds t.s<0 then-1 else(ds.getD (findD ds t.s).toNat (nada,0)).2)
 else if 24<=t.op then(if xs.any (λx=>decide (x≠0)) then-1 else 0)
 else if t.op=23 then(if xs.getD 0 0=0/\xs.getD 1 0=xs.getD 2 0 then xs.getD 1 0 else-1)
 else if t.op=22 then(if 0<=t.b/\t.b<=t.a/\t.a<xs.getD 0 0 then t.a-t.b+1 else-1)
 else if t.op<=2 then(if 0<xs.getD 0 0 then xs.getD 0 0 else-1)
 else if t.op=14 then(if 0<xs.getD 0 0/\0<xs.getD 1 0/\xs.getD 0 0+xs.getD 1 0<=4 then xs.getD 0 0+xs.getD 1 0 else-1)
 else if 15<=t.op then(if 0<xs.getD 0 0/\xs.getD 0 0=xs.getD 1 0 then 0 else-1)
 else(if 0<xs.getD 0 0/\xs.getD 0 0=xs.getD 1 0 then xs.getD 0 0 else-1)
def formed (t:Tm):Bool:=decide (arity t.op=t.ks.length)&&plainM t
def sortF (ds:List Dcl) (t:Tm) (xs:List Int):Int:=if formed t=true/\¬(-1∈xs) then sortK ds t xs else-1
def sortM (ds:List Dcl):Tm->Int:=Tm.fold (sortF ds)
theorem sortM_eq (ds:List Dcl) (t:Tm):sortM ds t=sortF ds t (t.ks.map (sortM ds)):=Tm.fold_eq _ t
theorem arity_ops {o:Int} (h:0<=arity o):(1<=o/\o<=17)\/(20<=o/\o<=27):=by
 unfold arity at h
 repeat' (split at h)
 all_goals omega
theorem getD_map {α β:Type} (f:α->β) {l:List α} {i:Nat} (h:i<l.length) (d:β) (e:α):(l.map f).getD i d=f (l.getD i e):=by
 simp[k6,h]
theorem getD_mem {α:Type} {l:List α} {i:Nat} (h:i<l.length) (d:α):l.getD i d∈l:=by
 rw[k6,K3 h];exact Gm h
theorem sort_parts {ds:List Dcl} {t:Tm} (h:sortM ds t≠ -1):formed t=true/\(∀k,k∈t.ks->sortM ds k≠ -1)/\sortM ds t=sortK ds t (t.ks.map (sortM ds)):=by
 rw[sortM_eq] at h⊢;unfold sortF at h⊢;split at h
 ·rename_i a;rw[if_pos a];exact⟨a.1,λk b e=>a.2 (e▸Gc b),rfl⟩
 ·exact absurd rfl h
theorem sort_range {ds:List Dcl} (c:declOk ds=true):∀t,-1<=sortM ds t/\sortM ds t<=4:=by
 refine Tm.ind λt g=>?_;rw[sortM_eq];unfold sortF;split
 ·rename_i d;have a:∀i,-1<=(t.ks.map (sortM ds)).getD i 0/\(t.ks.map (sortM ds)).getD i 0<=4:=λi=>by
   by_cases h:i<t.ks.length
   ·rw[getD_map _ h 0 default];exact g _ (getD_mem h _)
   ·rw[k6,po (by simpa using h)];simp
  have j:=a 0;have k:=a 1;have l:=a 2;have b:=arity_ops (o:=t.op) (by
   have:=d.1;simp only[formed,V0,decide_eq_true_eq] at this;omega)
  unfold sortK;split
  ·split
   ·rename_i f;have:=vok_lt f;omega
   ·omega
  ·split
   ·have e:=findD_lt ds t.s;split
    ·omega
    ·have:=dcl_wide c (i:=(findD ds t.s).toNat) (by omega);omega
   ·repeat' split
    all_goals omega
 ·omega
def tsort (ds:List Dcl) (t:Tm):Int:=if fits t=true/\declOk ds=true then sortM ds t else-1
def b2i (b:Bool):Int:=if b then 1 else 0
def valK (ds:List Dcl) (env:List Int) (t:Tm) (xs:List (Int×Int)):Int:=
 if t.op=20 then t.b
 else if t.op=21 then env.getD (findD ds t.s).toNat 0
 else if t.op=24 then 1
 else if t.op=25 then b2i (decide ((xs.getD 0 (0,0)).2=0))
 else if t.op=26 then b2i (decide ((xs.getD 0 (0,0)).2=1)&&decide ((xs.getD 1 (0,0)).2=1))
 else if t.op=27 then b2i (decide ((xs.getD 0 (0,0)).2=1)||decide ((xs.getD 1 (0,0)).2=1))
 else if t.op=23 then(if(xs.getD 0 (0,0)).2=1 then(xs.getD 1 (0,0)).2 else(xs.getD 2 (0,0)).2)
 else if t.op=22 then cutM (xs.getD 0 (0,0)).2 t.a t.b
 else if t.op<=2 then unM t.op (xs.getD 0 (0,0)).1 (xs.getD 0 (0,0)).2
 else if t.op=14 then W90 (xs.getD 1 (0,0)).1 (xs.getD 0 (0,0)).2 (xs.getD 1 (0,0)).2
 else if 15<=t.op then b2i (cmpM t.op (xs.getD 0 (0,0)).1 (xs.getD 0 (0,0)).2 (xs.getD 1 (0,0)).2)
 else WJ0 t.op (xs.getD 0 (0,0)).1 (xs.getD 0 (0,0)).2 (xs.getD 1 (0,0)).2
def vecF (ds:List Dcl) (env:List Int) (t:Tm) (xs:List (Int×Int)):Int×Int:=(sortF ds t (xs.map (·.1)),valK ds env t xs)
def vecM (ds:List Dcl) (env:List Int):Tm->Int×Int:=Tm.fold (vecF ds env)
def evalM (ds:List Dcl) (env:List Int) (t:Tm):Int:=(vecM ds env t).2
theorem J90 (ds:List Dcl) (env:List Int) (t:Tm):vecM ds env t=vecF ds env t (t.ks.map (vecM ds env)):=Tm.fold_eq _ t
theorem vecM_sort (ds:List Dcl) (env:List Int):∀t,(vecM ds env t).1=sortM ds t:=by
 refine Tm.ind λt b=>?_;rw[J90,sortM_eq];show sortF ds t _=_;rw[GM];congr 1;exact Gj λk a=>b k a
theorem vecM_pair (ds:List Dcl) (env:List Int) (t:Tm):vecM ds env t=(sortM ds t,evalM ds env t):=by rw[<-vecM_sort ds env t];rfl
theorem evalM_eq (ds:List Dcl) (env:List Int) (t:Tm):evalM ds env t=valK ds env t (t.ks.map (vecM ds env)):=by
 unfold evalM;rw[J90];rfl
def inS (w n:Int):Prop:=(w=0/\(n=0\/n=1))\/vok w n=true
theorem Vl0 {b:Bool}:inS 0 (b2i b):=by left;cases b<;>simp[b2i]
theorem inS_zero {n:Int} (h:inS 0 n):n=0\/n=1:=by
 rcases h with h|h
 ·exact h.2
 ·exact absurd (vok_lt h).1 (by omega)
theorem inS_pos {w n:Int} (h:inS w n) (hw:0<w):vok w n=true:=by
 rcases h with h|h
 ·omega
 ·exact h
theorem eval_in {ds:List Dcl} {env:List Int} (he:envOk ds env=true):∀t,sortM ds t≠ -1->inS (sortM ds t) (evalM ds env t):=by
 obtain⟨F,G,D⟩:=env_ok he;refine Tm.ind λt E h=>?_;obtain⟨w,B,hs⟩:=sort_parts h;rw[hs] at h;rw[hs,evalM_eq];simp only[formed,V0,decide_eq_true_eq] at w;obtain⟨b,C⟩:=w;have x:=arity_ops (o:=t.op) (by omega);have g:∀i,i<t.ks.length->(t.ks.map (sortM ds)).getD i 0=sortM ds (t.ks.getD i default):=λi k=>getD_map _ k _ _;have j:∀i,i<t.ks.length->(t.ks.map (vecM ds env)).getD i (0,0)=(sortM ds (t.ks.getD i default),evalM ds env (t.ks.getD i default)):=λi k=>by
  rw[getD_map _ k _ default,vecM_pair]
 have c:∀i,i<t.ks.length->inS (sortM ds (t.ks.getD i default)) (evalM ds env (t.ks.getD i default)):=λi k=>E _ (getD_mem k _) (B _ (getD_mem k _));unfold sortK at h⊢;unfold valK;by_cases n:t.op=20
 ·simp only[n,if_true] at h⊢;split
  ·right;assumption
  ·rename_i r;rw[if_neg r] at h;exact absurd rfl h
 simp only[if_neg n] at h⊢;by_cases p:t.op=21
 ·simp only[p,if_true] at h⊢;have A:=findD_lt ds t.s;split
  ·rename_i r;rw[if_pos r] at h;exact absurd rfl h
  ·right;exact D _ (by omega)
 simp only[if_neg p] at h⊢;by_cases q:24<=t.op
 ·simp only[if_pos q] at h⊢;split
  ·rename_i r;rw[if_pos r] at h;exact absurd rfl h
  ·rcases(by omega:t.op=24\/t.op=25\/t.op=26\/t.op=27) with e|e|e|e
   ·left;simp[e]
   ·simp only[e];exact Vl0
   ·simp only[e];exact Vl0
   ·simp only[e];exact Vl0
 simp only[if_neg q,if_neg (show¬t.op=24 by omega),if_neg (show¬t.op=25 by omega),if_neg (show¬t.op=26 by omega),if_neg (show¬t.op=27 by omega)] at h⊢;by_cases f:t.op=23
 ·simp only[f,if_true] at h⊢;have u:t.ks.length=3:=by rw[f] at b;simp[arity] at b;omega
  rw[g 0 (by omega),g 1 (by omega),g 2 (by omega)] at h⊢;rw[j 0 (by omega),j 1 (by omega),j 2 (by omega)];split
  ·rename_i a;simp only;split
   ·exact c 1 (by omega)
   ·rw[a.2];exact c 2 (by omega)
  ·rename_i a;rw[if_neg a] at h;exact absurd rfl h
 simp only[if_neg f] at h⊢;by_cases d:t.op=22
 ·simp only[d,if_true] at h⊢;have u:t.ks.length=1:=by rw[d] at b;simp[arity] at b;omega
  rw[g 0 (by omega)] at h⊢;rw[j 0 (by omega)];split
  ·rename_i a;right;exact cut_ok (inS_pos (c 0 (by omega)) (by omega)) a.1 a.2.1 a.2.2
  ·rename_i a;rw[if_neg a] at h;exact absurd rfl h
 simp only[if_neg d] at h⊢;by_cases v:t.op<=2
 ·simp only[if_pos v] at h⊢;have u:t.ks.length=1:=by
   have:t.op=1\/t.op=2:=(by omega);rcases this with e|e<;>rw[e] at b<;>simp[arity] at b<;>omega
  rw[g 0 (by omega)] at h⊢;rw[j 0 (by omega)];split
  ·rename_i a;right;exact unM_ok (inS_pos (c 0 (by omega)) (by omega))
  ·rename_i a;rw[if_neg a] at h;exact absurd rfl h
 simp only[if_neg v] at h⊢;have u:t.ks.length=2:=by
  unfold arity at b;rw[if_neg (by omega),if_neg (by omega),if_neg (by omega),if_neg (by omega),if_pos (by omega)] at b;omega
 have y:=g 0 (by omega);have z:=g 1 (by omega);rw[y,z] at h⊢;rw[j 0 (by omega),j 1 (by omega)];have i0:=c 0 (by omega);have i1:=c 1 (by omega);by_cases l:t.op=14
 ·simp only[l,if_true] at h⊢;split
  ·rename_i a;right;exact cat_ok (inS_pos i0 a.1) (inS_pos i1 a.2.1) a.2.2
  ·rename_i a;rw[if_neg a] at h;exact absurd rfl h
 simp only[if_neg l] at h⊢;by_cases m:15<=t.op
 ·simp only[if_pos m] at h⊢;split
  ·exact Vl0
  ·rename_i a;rw[if_neg a] at h;exact absurd rfl h
 simp only[if_neg m] at h⊢;split
 ·rename_i a;right;refine binM_ok (by omega) (by omega) (inS_pos i0 a.1) ?_;rw[a.2];exact inS_pos i1 (by omega)
 ·rename_i a;rw[if_neg a] at h;exact absurd rfl h
end Go.M
namespace Go.Vc
open Go Go.M
section
section
variable {P:Program} {F F' S:Nat->Prop} {w w':World} {K:Value->World->Prop} {k:Nat} {v:Value} {xs:List (List Value)}
theorem Sl.ldAgg (h:Sl F w k v xs) {t:TypeId} (c:aggB P t k=true) {i:Nat} (a:i<xs.length):zf P t (.pointer (some (eaddr v k i))) w K=K (.agg ⟨xs.getD i []⟩) w:=by
 have b:(xs.getD i []).length=k:=h.wide _ (M.getD_mem a _);exact zo0 (by rw[b];exact c) (Sl.cells h a)
theorem Sl.ldField (h:Sl F w k v xs) {t:TypeId} (b:oneB P t=true) {i j:Nat} {x:Value} (a:i<xs.length) (c:(xs.getD i [])[j]?=some x):zf P t (.pointer (some ((eaddr v k i).add j))) w K=K x w:=
 yF b (Sl.cells h a j x c)
theorem Sl.small (h:Sl F w k v xs):xs.length<=9223372036854775807:=by
 obtain⟨_,_,_,a,b,_⟩:=h.shape;omega
end
inductive TmR (F:Nat->Prop) (w:World):List Value->Tm->Prop
 |mk {o a b:Int} {s:ByteArray} {ks:List Tm} {kv:Value} {css:List (List Value)}:Sl F w 5 kv css->css.length=ks.length->(∀i,i<ks.length->TmR F w (css.getD i []) (ks.getD i default))->
  TmR F w [.int .i64 o,.int .i64 a,.int .i64 b,.string s,kv] (.mk o a b s ks)
def TmsR (F:Nat->Prop) (w:World) (kv:Value) (ks:List Tm):Prop:= ∃css:List (List Value),Sl F w 5 kv css/\css.length=ks.length/\∀i,i<ks.length->TmR F w (css.getD i []) (ks.getD i default)
def TermR (F:Nat->Prop) (w:World) (v:Value) (t:Tm):Prop:= ∃kv,v= .agg ⟨[.int .i64 t.op,.int .i64 t.a,.int .i64 t.b,.string t.s,kv]⟩/\TmsR F w kv t.ks
def DclsR (F:Nat->Prop) (w:World) (v:Value) (ds:List Dcl):Prop:=Sl F w 2 v (ds.map λd=>[.string d.1,.int .i64 d.2])
section
variable {P:Program} {F F' S:Nat->Prop} {w w':World} {K:Value->World->Prop} {v:Value} {cs:List Value} {t:Tm} {ks:List Tm} {ds:List Dcl}
theorem TmR.same (h:TmR F w cs t) (hw:Same S w w') (hs:∀b,F b->b<w.heap.size->¬S b):TmR F w' cs t:=by
 induction h with
 |mk a c e d=>exact .mk (a.same hw hs) c d
theorem TmR.ext (h:TmR F w cs t) (hw:Ext w w'):TmR F w' cs t:=h.same hw λ_ _ _ h=>h
theorem TmR.weaken (h:TmR F w cs t) (d:∀b,F b->b<w.heap.size->F' b):TmR F' w cs t:=by
 induction h with
 |mk a c f e=>exact .mk (a.weaken d) c e
theorem TmR.inv (h:TmR F w cs t):∃kv,cs=[.int .i64 t.op,.int .i64 t.a,.int .i64 t.b,.string t.s,kv]/\TmsR F w kv t.ks:=by
 cases h with
 |mk c d e=>exact⟨_,rfl,_,c,d,e⟩
theorem TmR.of {kv:Value} (h:TmsR F w kv t.ks):TmR F w [.int .i64 t.op,.int .i64 t.a,.int .i64 t.b,.string t.s,kv] t:=by
 obtain⟨css,c,d,e⟩:=h;cases t with
 |mk o a b s ks=>exact .mk c d e
theorem TmR.term (h:TmR F w cs t):TermR F w (.agg ⟨cs⟩) t:=by
 obtain⟨kv,rfl,a⟩:=h.inv;exact⟨kv,rfl,a⟩
theorem TermR.cells (h:TermR F w v t):∃cs,v= .agg ⟨cs⟩/\TmR F w cs t:=by
 obtain⟨kv,rfl,a⟩:=h;exact⟨_,rfl,TmR.of a⟩
theorem TmsR.same (h:TmsR F w v ks) (hw:Same S w w') (hs:∀b,F b->b<w.heap.size->¬S b):TmsR F w' v ks:=by
 obtain⟨css,a,c,d⟩:=h;exact⟨css,a.same hw hs,c,λi e=>(d i e).same hw hs⟩
theorem TmsR.ext (h:TmsR F w v ks) (hw:Ext w w'):TmsR F w' v ks:=h.same hw λ_ _ _ h=>h
theorem TmsR.weaken (h:TmsR F w v ks) (a:∀b,F b->b<w.heap.size->F' b):TmsR F' w v ks:=by
 obtain⟨css,c,d,e⟩:=h;exact⟨css,c.weaken a,d,λi f=>(e i f).weaken a⟩
theorem TermR.same (h:TermR F w v t) (hw:Same S w w') (hs:∀b,F b->b<w.heap.size->¬S b):TermR F w' v t:=by
 obtain⟨kv,a,c⟩:=h;exact⟨kv,a,c.same hw hs⟩
theorem TermR.ext (h:TermR F w v t) (hw:Ext w w'):TermR F w' v t:=h.same hw λ_ _ _ h=>h
theorem TermR.weaken (h:TermR F w v t) (d:∀b,F b->b<w.heap.size->F' b):TermR F' w v t:=by
 obtain⟨kv,a,c⟩:=h;exact⟨kv,a,c.weaken d⟩
theorem TmsR.small (h:TmsR F w v ks):ks.length<=9223372036854775807:=by
 obtain⟨css,a,b,c⟩:=h;rw[<-b];exact a.small
theorem TmsR.len (h:TmsR F w v ks) {t:TypeId} (c:isSl P t=true) (ty:TypeId):vbi P .len [t] ty [v] w' K=K (.int .i64 ks.length) w':=by
 obtain⟨css,a,b,d⟩:=h;have:=Sl.len (K:=K) (w':=w') a c ty;rwa[b] at this
theorem TmsR.iaddr (h:TmsR F w v ks) {t:TypeId} (e:elB P t 5=true) {kd:IntKind} {i:Int} (b:0<=i) (c:i<ks.length):
  zj P t v (.int kd i) w' K=K (.pointer (some (eaddr v 5 i.toNat))) w':=by
 obtain⟨css,a,d,f⟩:=h;exact Sl.iaddr a e b (by rw[d];exact c)
theorem TmsR.load (h:TmsR F w v ks) {t:TypeId} (e:aggB P t 5=true) {i:Nat} (d:i<ks.length) (c:∀x,TermR F w x (ks.getD i default)->K x w):zf P t (.pointer (some (eaddr v 5 i))) w K:=by
 obtain⟨css,a,f,b⟩:=h;rw[a.ldAgg e (by omega)];exact c _ (b i d).term
theorem TmsR.nil:TmsR F w (.slice none 0 0) []:=⟨[],⟨⟨none,0,rfl,by simp,by simp,by simp⟩,by simp⟩,rfl,by simp⟩
theorem DclsR.same (h:DclsR F w v ds) (hw:Same S w w') (hs:∀b,F b->b<w.heap.size->¬S b):DclsR F w' v ds:=Sl.same h hw hs
theorem DclsR.ext (h:DclsR F w v ds) (hw:Ext w w'):DclsR F w' v ds:=Sl.ext h hw
theorem DclsR.weaken (h:DclsR F w v ds) (a:∀b,F b->b<w.heap.size->F' b):DclsR F' w v ds:=Sl.weaken h a
theorem DclsR.len (h:DclsR F w v ds) {t:TypeId} (a:isSl P t=true) (ty:TypeId):vbi P .len [t] ty [v] w' K=K (.int .i64 ds.length) w':=by
 have:=Sl.len (K:=K) (w':=w') h a ty;rwa[X0] at this
theorem DclsR.iaddr (h:DclsR F w v ds) {t:TypeId} (c:elB P t 2=true) {kd:IntKind} {i:Int} (a:0<=i) (b:i<ds.length):
  zj P t v (.int kd i) w' K=K (.pointer (some (eaddr v 2 i.toNat))) w':=Sl.iaddr h c a (by rw[X0];exact b)
theorem ZH0 {i:Nat} (a:i<ds.length):(ds.map λd=>[Value.string d.1,Value.int .i64 d.2]).getD i []=[.string (ds.getD i (nada,0)).1,.int .i64 (ds.getD i (nada,0)).2]:=M.getD_map _ a _ _
theorem DclsR.load (h:DclsR F w v ds) {t:TypeId} (b:aggB P t 2=true) {i:Nat} (a:i<ds.length):zf P t (.pointer (some (eaddr v 2 i))) w K=K (.agg ⟨[.string (ds.getD i (nada,0)).1,.int .i64 (ds.getD i (nada,0)).2]⟩) w:=by
 rw[Sl.ldAgg h b (by rw[X0];exact a),ZH0 a]
theorem DclsR.load0 (h:DclsR F w v ds) {t:TypeId} (b:oneB P t=true) {i:Nat} (a:i<ds.length):zf P t (.pointer (some ((eaddr v 2 i).add 0))) w K=K (.string (ds.getD i (nada,0)).1) w:=
 Sl.ldField h b (by rw[X0];exact a) (by rw[ZH0 a];rfl)
theorem DclsR.load1 (h:DclsR F w v ds) {t:TypeId} (b:oneB P t=true) {i:Nat} (a:i<ds.length):zf P t (.pointer (some ((eaddr v 2 i).add 1))) w K=K (.int .i64 (ds.getD i (nada,0)).2) w:=
 Sl.ldField h b (by rw[X0];exact a) (by rw[ZH0 a];rfl)
theorem DclsR.small (h:DclsR F w v ds):ds.length<=9223372036854775807:=by have:=Sl.small h;simpa using this
theorem Sl.base {k:Nat} {xs:List (List Value)} (h:Sl F w k v xs) (f:xs≠[]):∀a l c,v= .slice (some a) l c->∃b o,a=⟨b,o,none⟩:=by
 intro a l c e;obtain⟨i,c',rfl,_,_,g⟩:=h.shape;obtain⟨b,o,rfl,_⟩:=g f
 injection e with d j m
 injection d with d
 exact⟨b,o,d.symm⟩
theorem Sl.taken {k:Nat} {xs:List (List Value)} (h:Sl F w k v xs) {n:Nat} (u:n<=xs.length):Sl F w k (cutV v n) (xs.take n):=by
 obtain⟨a,c,rfl,t,p,r⟩:=h.shape;have m:(xs.take n).length=n:=by rw[gi];omega
 refine⟨⟨a,c,by rw[m];rfl,by omega,p,λj=>?_⟩,λx s=>h.wide x (gZ s)⟩;have f:xs≠[]:=λe=>j (by rw[e,List.take_nil]);obtain⟨b,o,e,q,g,d⟩:=r f;refine⟨b,o,e,q,g,λi l=>?_⟩;rw[m] at l;rw[M.take_getD l];exact d i (by omega)
theorem DclsR.cut (h:DclsR F w v ds) (a:ds≠[]) {t:TypeId} (c:elB P t 2=true) {kd:IntKind} {n:Nat} (b:n<=ds.length):yQ P t v none (some (.int kd n)) none w' K=K (cutV v n) w':=
 Sl.cut h (Sl.base h (by simpa using a)) c (by rw[X0];exact b)
theorem DclsR.taken (h:DclsR F w v ds) {n:Nat} (a:n<=ds.length):DclsR F w (cutV v n) (ds.take n):=by
 unfold DclsR;rw[Gp];exact Sl.taken h (by rw[X0];exact a)
theorem Blk.sl1k {b k:Nat} {cs:List Value} {e:TypeId} (h:Blk w b cs e) (f:cs.length=k):Sl (· =b) w k (.slice (some ⟨b,0,none⟩) 1 1) [cs]:=by
 refine⟨⟨_,1,rfl,gr _,by decide,λ_=>⟨b,0,rfl,rfl,h.lt,λi c j v d=>?_⟩⟩,by simp[f]⟩;have a:i=0:=by simpa using c
 subst a;rw[xR];simp only[P3,gQ,pd];exact h.cell d
theorem Own.app1k {bs ty b k:Nat} {t e:TypeId} {xs:List (List Value)} {y:List Value} (h:Own P 0 k t w v xs) (g:elZ P t k bs=true) (j:0<k) (i:Blk w b y e) (l:y.length=k) (a:∀c,c∈y->c.oneCell'=true)
  (d:xs.length<9223372036854775807) (hlen:(xs.length+1)*bs<=140737488355328)
  (f:∀v' w',Own P 0 k t w' v' (xs++[y])->Same (λb=>v.ownBlock=some b) w w'->(∀b,v'.ownBlock=some b->v.ownBlock=some b\/w.heap.size<=b)->K v' w'):vbi P .append [t,t] ty [v,.slice (some ⟨b,0,none⟩) 1 1] w K:=
 vappend (F:=(· =b)) g j h (i.sl1k l) (by simpa using a) (by omega) (by rw[gD];omega) (by simpa using hlen) f
theorem xQ {t e k:Nat} {z x:Value} {y:List Value} (hu:P.underlying t=some (.slice e)) (l:jy P e k=true) (hzero:xg P e z) (i:x.cells=⟨y⟩) (j:y.length=k) (h:k<=16777216)
  (g:∀b w',b=w.heap.size->Ext w w'->w'.heap.size=w.heap.size+1->Blk w' b y e->K (.slice (some ⟨b,0,none⟩) 1 1) w'):vbuildS P t 1 [(0,x)] w K:=by
 refine vbuildS_row (xs:=[x]) (us:=[y]) hu l hzero (by simp[i]) (by simp[j]) (by simpa using h) λb w' a c d f=>g b w' a c d (by simpa using f)
theorem Blk.ownk {b k n:Nat} {t:TypeId} {css:List (List Value)} (h:Blk w b css.flatten (Wo P t)) (hw:∀x,x∈css->x.length=k) (c:n=css.length) (hm:n<=9223372036854775807):Own P 0 k t w (.slice (some ⟨b,0,none⟩) n n) css:=by
 subst c;have a:=flatten_len hw;refine⟨⟨by rw[a],.inr ⟨b,css.length,⟨css.flatten⟩,by simp,Gg _,h,gr _,by simpa[maxLen] using hm,by simpa using a,?_⟩⟩,hw⟩;show List.take (css.length*k) css.flatten=css.flatten;rw[<-a,gC]
theorem flatten_set {k:Nat}:∀{xs:List (List Value)} (_:∀x,x∈xs->x.length=k) {i j:Nat} (u:Value),i<xs.length->j<k->xs.flatten.set (i*k+j) u=(xs.set i ((xs.getD i []).set j u)).flatten
 |[],_,i,j,u,a,_=>by simp at a
 |x::r,h,i,j,u,a,b=>by
  have d:=h x gg;cases i with
  |zero=>
   rw[P3,gQ];simp only[GD,ph,pJ];rw[List.set_append_left _ _ (by omega)]
  |succ i=>
   simp only[GD,PF,GA];rw[pS _ _ (by rw[G3];omega)];congr 1;have e:(i+1)*k+j-x.length=i*k+j:=by rw[G3];omega
   rw[e,flatten_set (λy c=>h y (gj _ c)) u (by simpa using a) b]
theorem Own.stCell {k:Nat} {t e:TypeId} {xs:List (List Value)} {x:Value} (h:Own P 0 k t w v xs) (F:x.cells= #[x]) (p:x.oneCell'=true) (H:jy P e 1=true) {i j:Nat} (f:i<xs.length) (D:j<k)
  (r:∀w',Own P 0 k t w' v (xs.set i ((xs.getD i []).set j x))->Same (λb=>v.ownBlock=some b) w w'->w'.heap.size=w.heap.size->K undef w'):zn P e (.pointer (some ((eaddr v k i).add j))) x w K:=by
 rcases h.row.2 with⟨rfl,J⟩|⟨g,cap,cur,rfl,u,I,E,A,B,o⟩
 ·omega
 ·have a:=h.row;have d:i*k+j<xs.length*k:=by
   have:i*k+k<=xs.length*k:=by rw[<-Nat.succ_mul];exact pC _ f
   omega
  have z:=World.ownsRow.cellAt a (i*k+j) d;have C:=World.ownsRow.frozenAt a (i*k+j);obtain⟨m,n⟩:=World.ownsRow.stored a (i*k+j) x;have l:(xs.getD i []).length=k:=h.wide _ (M.getD_mem f _);have c:w.cell? ⟨g,i*k+j,none⟩=some (xs.flatten.getD (i*k+j) undef):=by
   rw[z];have:i*k+j<xs.flatten.length:=by rw[flatten_len h.wide];exact d
   rw[k6,K3 this];rfl
  have s:(⟨g,i*k+j,none⟩:Addr).add 0=⟨g,i*k+j,none⟩:=rfl;have he:(eaddr (.slice (some ⟨g,0,none⟩) xs.length cap) k i).add j=⟨g,i*k+j,none⟩:=by
   simp only[eaddr];rw[xR];simp
  rw[he];refine⟨(),w.setCell ⟨g,i*k+j,none⟩ x,?_,r _ ?_ (Same.of_grown n) (by simp)⟩
  ·simp only[Instr.storeAt,Instr.sureAddr,Sem.run_bind,Sem.run_pure,Result.andThen_ok,storeVar,run_sizeOf H,F];cases x<;>first|(cases p;done)|simp[storeCells,store,Sem.run,s,c,C]
  ·refine⟨?_,λy G=>?_⟩
   ·rw[<-flatten_set h.wide x f D];simpa using m
   ·obtain⟨q,L,rfl⟩:=gq G;rw[pY];split
    ·rw[gH];exact l
    ·exact h.wide _ (Gm _)
def PairsR (F:Nat->Prop) (w:World) (v:Value) (xs:List (Int×Int)):Prop:=Sl F w 2 v (xs.map λx=>[.int .i64 x.1,.int .i64 x.2])
def OwnP (P:Program) (t:TypeId) (w:World) (v:Value) (xs:List (Int×Int)):Prop:=Own P 0 2 t w v (xs.map λx=>[.int .i64 x.1,.int .i64 x.2])
variable {xs:List (Int×Int)}
theorem PairsR.ext (h:PairsR F w v xs) (hw:Ext w w'):PairsR F w' v xs:=Sl.ext h hw
theorem PairsR.iaddr (h:PairsR F w v xs) {t:TypeId} (c:elB P t 2=true) {kd:IntKind} {i:Int} (a:0<=i) (b:i<xs.length):
  zj P t v (.int kd i) w' K=K (.pointer (some (eaddr v 2 i.toNat))) w':=Sl.iaddr h c a (by rw[X0];exact b)
theorem PairsR.len (h:PairsR F w v xs) {t:TypeId} (a:isSl P t=true) (ty:TypeId):vbi P .len [t] ty [v] w' K=K (.int .i64 xs.length) w':=by
 have:=Sl.len (K:=K) (w':=w') h a ty;rwa[X0] at this
theorem PairsR.load (h:PairsR F w v xs) {t:TypeId} (b:aggB P t 2=true) {i:Nat} (a:i<xs.length):zf P t (.pointer (some (eaddr v 2 i))) w K=K (.agg ⟨[.int .i64 (xs.getD i (0,0)).1,.int .i64 (xs.getD i (0,0)).2]⟩) w:=by
 rw[Sl.ldAgg h b (by rw[X0];exact a),M.getD_map _ a _ (0,0)]
theorem PairsR.load1 (h:PairsR F w v xs) {t:TypeId} (b:oneB P t=true) {i:Nat} (a:i<xs.length):zf P t (.pointer (some ((eaddr v 2 i).add 1))) w K=K (.int .i64 (xs.getD i (0,0)).2) w:=
 Sl.ldField h b (by rw[X0];exact a) (by rw[M.getD_map _ a _ (0,0)];rfl)
theorem OwnP.pairs {t:TypeId} (h:OwnP P t w v xs):PairsR (λb=>v.ownBlock=some b) w v xs:=Own.sl h
theorem OwnP.ext {t:TypeId} (h:OwnP P t w v xs) (hw:Ext w w'):OwnP P t w' v xs:=Own.ext h hw
theorem OwnP.nil (t:TypeId):OwnP P t w (.slice none 0 0) []:=Own.nil P 0 2 t w
end
end
end Go.Vc
namespace Go.Proofs.YtokflbdfnbppjaaGreatDoor
open Go Go.Vc Go.Proofs
noncomputable abbrev P:Program:=Tryz.prog
theorem mixed:P.follows .mixedOrders=true:=by kernel_rfl
abbrev Kw:Nat:=4
abbrev kO:Nat:=5
abbrev Z7:Nat:=6
abbrev YZ:Nat:=7
abbrev qG:Nat:=8
abbrev ZU:Nat:=9
abbrev ZE:Nat:=13
abbrev Ja:Nat:=14
abbrev Yy:Nat:=15
abbrev Jb:Nat:=16
abbrev Kg:Nat:=17
abbrev Kc:Nat:=18
abbrev Yw:Nat:=19
abbrev Yx:Nat:=20
abbrev K6:Nat:=21
abbrev Xv:Nat:=22
abbrev qN:Nat:=23
abbrev x7:Nat:=24
abbrev jF:Nat:=25
abbrev Qr:Nat:=26
abbrev qJ:Nat:=27
abbrev jX:Nat:=28
abbrev jV:Nat:=29
abbrev ZC:Nat:=30
abbrev xu:Nat:=31
abbrev kA:Nat:=32
abbrev yL:Nat:=33
abbrev X2:Nat:=34
abbrev XL:Nat:=35
abbrev jY:Nat:=36
abbrev xz0:Nat:=37
abbrev X3:Nat:=39
abbrev kC:Nat:=40
abbrev ZD:Nat:=41
abbrev Ky:Nat:=42
abbrev Vi:Nat:=43
abbrev J3:Nat:=44
abbrev K8:Nat:=45
abbrev zN:Nat:=46
abbrev yr:Nat:=47
abbrev jW:Nat:=48
abbrev jC:Nat:=49
abbrev jq:Nat:=50
abbrev Xx:Nat:=51
abbrev kB:Nat:=52
abbrev xE:Nat:=53
abbrev ye:Nat:=54
abbrev xw:Nat:=55
abbrev kF:Nat:=56
abbrev jm:Nat:=57
abbrev Ke:Nat:=58
abbrev YA:Nat:=60
abbrev Zw:Nat:=61
abbrev ke:Nat:=63
abbrev Yz:Nat:=64
abbrev Kb:Nat:=65
abbrev K9:Nat:=66
abbrev K7:Nat:=67
abbrev Ve:Nat:=68
abbrev Zu:Nat:=69
abbrev xF:Nat:=70
abbrev K4:Nat:=71
abbrev Xw:Nat:=72
abbrev J0:Nat:=73
abbrev Vf:Nat:=74
abbrev Vd:Nat:=75
abbrev K5:Nat:=76
abbrev U6:Nat:=77
abbrev x8:Nat:=78
abbrev Vh:Nat:=79
abbrev XO:Nat:=80
abbrev kD:Nat:=81
abbrev Kd:Nat:=82
abbrev qk:Nat:=83
abbrev qe:Nat:=84
abbrev J8:Nat:=85
abbrev J7:Nat:=86
abbrev J6:Nat:=87
abbrev J5:Nat:=88
abbrev XI:Nat:=89
abbrev Ka:Nat:=90
abbrev J2:Nat:=91
abbrev yO:Nat:=99
abbrev Qp:Nat:=100
abbrev Vg:Nat:=101
abbrev kc:Nat:=102
abbrev jz:Nat:=103
abbrev j0:Nat:=104
abbrev jl:Nat:=105
abbrev XP:Nat:=112
abbrev ZR:Nat:=113
abbrev qC0:Nat:=114
abbrev yQ0:Nat:=115
abbrev XQ:Nat:=116
abbrev ZI:Nat:=117
abbrev ZS:Nat:=118
abbrev jM:Nat:=122
abbrev yD:Nat:=123
abbrev Jm:Nat:=124
abbrev Yr:Nat:=125
abbrev jw:Nat:=126
abbrev ZN:Nat:=127
abbrev jD:Nat:=128
abbrev XK:Nat:=129
abbrev ZJ:Nat:=130
abbrev ZK:Nat:=131
abbrev yu:Nat:=132
abbrev Ys:Nat:=137
abbrev qs:Nat:=138
abbrev J4:Nat:=139
abbrev Xz:Nat:=140
abbrev Zk:Nat:=141
abbrev qf:Nat:=142
abbrev Zm:Nat:=143
abbrev Yp:Nat:=144
abbrev jZ:Nat:=145
abbrev jg:Nat:=146
abbrev jh:Nat:=147
abbrev qt:Nat:=148
abbrev Ze:Nat:=150
abbrev yZ:Nat:=151
abbrev Z3:Nat:=152
abbrev yE:Nat:=153
abbrev J9:Nat:=154
abbrev Z0:Nat:=155
abbrev U7:Nat:=156
abbrev k8:Nat:=157
abbrev ki:Nat:=158
abbrev yj:Nat:=159
abbrev kf:Nat:=160
abbrev Yt:Nat:=161
abbrev jN:Nat:=162
abbrev jH:Nat:=163
abbrev X8:Nat:=164
abbrev Yq:Nat:=165
abbrev xp:Nat:=166
abbrev jr:Nat:=167
abbrev qY:Nat:=168
abbrev Zc:Nat:=169
abbrev kQ:Nat:=170
abbrev Yo:Nat:=171
abbrev jt:Nat:=173
abbrev qT:Nat:=174
abbrev ji:Nat:=175
abbrev jj:Nat:=176
abbrev js:Nat:=177
abbrev j5:Nat:=178
abbrev jk:Nat:=179
abbrev zQ:Nat:=180
abbrev ZG:Nat:=181
abbrev xh:Nat:=185
abbrev yG:Nat:=186
abbrev Zf:Nat:=187
abbrev ZQ:Nat:=188
abbrev xe:Nat:=189
abbrev jE:Nat:=190
abbrev xZ:Nat:=191
abbrev xi:Nat:=192
abbrev yP:Nat:=193
abbrev qK:Nat:=194
abbrev xY:Nat:=195
abbrev ZP:Nat:=196
abbrev j7:Nat:=197
abbrev qD:Nat:=198
abbrev Zj:Nat:=199
abbrev qP:Nat:=200
abbrev kV:Nat:=201
abbrev Zb:Nat:=202
abbrev qO:Nat:=203
abbrev qz:Nat:=204
abbrev qZ:Nat:=205
abbrev jc:Nat:=206
abbrev k7:Nat:=207
abbrev kG:Nat:=208
abbrev kJ:Nat:=209
abbrev yY:Nat:=210
abbrev YE:Nat:=211
abbrev Z6:Nat:=212
abbrev xW:Nat:=213
abbrev j4:Nat:=214
abbrev j3:Nat:=215
abbrev xX:Nat:=216
abbrev kj:Nat:=217
abbrev jL:Nat:=218
abbrev XJ:Nat:=221
abbrev Kx:Nat:=222
abbrev xm:Nat:=223
abbrev jv:Nat:=224
abbrev ZO:Nat:=225
abbrev ZM:Nat:=226
abbrev XM:Nat:=227
abbrev ZV:Nat:=228
abbrev Z4:Nat:=231
abbrev kK:Nat:=232
abbrev Zv:Nat:=233
abbrev Xy:Nat:=234
abbrev Yn:Nat:=235
abbrev X1:Nat:=236
abbrev Jl:Nat:=240
abbrev ju:Nat:=241
abbrev qC:Nat:=242
abbrev j6:Nat:=243
abbrev ZF:Nat:=254
abbrev ZT:Nat:=283
abbrev yV:Nat:=284
abbrev xc:Nat:=285
abbrev ZH:Nat:=286
abbrev Za:Nat:=287
abbrev yB:Nat:=288
abbrev Qq:Nat:=289
abbrev Z1:Nat:=290
abbrev YB:Nat:=291
abbrev Zi:Nat:=292
abbrev kU:Nat:=293
abbrev kE:Nat:=294
abbrev XN:Nat:=295
abbrev xO:Nat:=296
abbrev xN:Nat:=297
abbrev xM:Nat:=298
abbrev xL:Nat:=299
abbrev xK:Nat:=300
abbrev xJ:Nat:=301
abbrev xI:Nat:=302
abbrev xH:Nat:=303
abbrev xG:Nat:=304
abbrev xr:Nat:=305
abbrev xq:Nat:=306
abbrev kY:Nat:=307
abbrev Zh:Nat:=308
abbrev kT:Nat:=309
abbrev Kf:Nat:=310
abbrev Z5:Nat:=311
abbrev Z9:Nat:=312
abbrev kP:Nat:=313
abbrev kR:Nat:=314
abbrev ka:Nat:=315
abbrev Yc:Nat:=316
abbrev Zg:Nat:=317
abbrev kS:Nat:=318
abbrev XA:Nat:=319
abbrev ZL:Nat:=320
abbrev Zd:Nat:=321
abbrev kW:Nat:=322
abbrev kg:Nat:=323
abbrev Yd:Nat:=324
abbrev Zl:Nat:=325
abbrev kX:Nat:=326
abbrev yw:Nat:=0
abbrev km:Nat:=1
abbrev jd:Nat:=2
abbrev xy:Nat:=3
abbrev xz:Nat:=7
abbrev T_T_:Nat:=0
abbrev zj0:Nat:=2
abbrev ze:Nat:=3
abbrev qI:Nat:=4
abbrev ky:Nat:=5
abbrev zT:Nat:=9
abbrev yh:Nat:=22
abbrev zk:Nat:=23
abbrev zb:Nat:=24
abbrev za:Nat:=26
abbrev zt:Nat:=32
abbrev zi:Nat:=36
abbrev zA:Nat:=44
abbrev zP:Nat:=55
abbrev zy:Nat:=57
abbrev y6:Nat:=59
abbrev zo:Nat:=67
abbrev ym:Nat:=79
abbrev zd:Nat:=93
abbrev zw:Nat:=95
abbrev Y2:Nat:=97
abbrev yc:Nat:=111
abbrev zz:Nat:=114
abbrev zW:Nat:=116
abbrev xj:Nat:=117
abbrev xB:Nat:=119
abbrev yg:Nat:=121
abbrev yi:Nat:=123
abbrev jf:Nat:=125
abbrev yx:Nat:=128
abbrev zY:Nat:=130
abbrev y8:Nat:=131
abbrev zR:Nat:=132
abbrev y2:Nat:=133
abbrev zV:Nat:=134
abbrev zZ:Nat:=135
abbrev y9:Nat:=136
abbrev Y3:Nat:=137
abbrev zF:Nat:=139
abbrev xf:Nat:=140
abbrev y3:Nat:=141
abbrev jJ:Nat:=168
abbrev zM:Nat:=170
abbrev yJ:Nat:=172
abbrev zB:Nat:=174
abbrev zG:Nat:=190
abbrev zc:Nat:=194
abbrev y1:Nat:=196
abbrev yn:Nat:=197
abbrev zX:Nat:=199
abbrev Z8:Nat:=200
abbrev ya:Nat:=202
abbrev zv:Nat:=203
abbrev qb:Nat:=205
abbrev yy:Nat:=206
abbrev zI:Nat:=211
abbrev kA0:Nat:=212
abbrev Ua:Nat:=214
abbrev zO:Nat:=224
abbrev y0:Nat:=226
abbrev zC:Nat:=229
abbrev zL:Nat:=231
abbrev zU:Nat:=233
abbrev zu:Nat:=235
abbrev yd:Nat:=242
abbrev yA:Nat:=244
abbrev Wq:Nat:=259
abbrev ql:Nat:=286
abbrev YI:Nat:=309
abbrev qj:Nat:=345
abbrev yf:Nat:=365
theorem X7:xg P ze (.int .i64 0):=by unfold xg;kernel_rfl
@[push_cast] theorem Ui0:oneB P ze=true:=by kernel_rfl
@[push_cast] theorem YC:jy P ze 1=true:=by kernel_rfl
theorem kM0:QN0 P ze .i64:=by unfold QN0;kernel_rfl
theorem XN0:(P.underlying ze).isSome=true:=by kernel_rfl
theorem QV0:xg P qI (.bool false):=by unfold xg;kernel_rfl
@[push_cast] theorem o_bool:oneB P qI=true:=by kernel_rfl
@[push_cast] theorem QX0:jy P qI 1=true:=by kernel_rfl
@[push_cast] theorem o_uint8:oneB P ky=true:=by kernel_rfl
theorem XU0:QN0 P ky .u8:=by unfold QN0;kernel_rfl
theorem XM0:(P.underlying ky).isSome=true:=by kernel_rfl
theorem KY:xg P zT (.string ⟨#[]⟩):=by unfold xg;kernel_rfl
@[push_cast] theorem Va0:oneB P zT=true:=by kernel_rfl
@[push_cast] theorem XB0:jy P zT 1=true:=by kernel_rfl
theorem Ji:P.underlying zT=some .string:=by kernel_rfl
@[push_cast] theorem o_Luint8:oneB P yh=true:=by kernel_rfl
@[push_cast] theorem Vi0:elZ P yh 1 1=true:=by kernel_rfl
theorem JV:P.underlying yh=some (.slice ky):=by kernel_rfl
theorem K50:Wo P yh=ky:=by kernel_rfl
@[push_cast] theorem s_Luint8:isSl P yh=true:=by kernel_rfl
@[push_cast] theorem VL0:elB P yh 1=true:=by kernel_rfl
@[push_cast] theorem zy0:elZ P zk 2 48=true:=by kernel_rfl
theorem qE:P.underlying zk=some (.slice zo):=by kernel_rfl
theorem k00:Wo P zk=zo:=by kernel_rfl
@[push_cast] theorem Z80:isSl P zk=true:=by kernel_rfl
@[push_cast] theorem yH:elB P zk 2=true:=by kernel_rfl
@[push_cast] theorem yI:oneB P zb=true:=by kernel_rfl
@[push_cast] theorem qd:jy P zb 1=true:=by kernel_rfl
@[push_cast] theorem YF:elZ P zb 5 64=true:=by kernel_rfl
theorem xd:P.underlying zb=some (.slice za):=by kernel_rfl
theorem Kl:Wo P zb=za:=by kernel_rfl
@[push_cast] theorem xo:isSl P zb=true:=by kernel_rfl
@[push_cast] theorem Qt:elB P zb 5=true:=by kernel_rfl
theorem zH:xg P za (.agg #[(.int .i64 0),(.int .i64 0),(.int .i64 0),(.string ⟨#[]⟩),(.slice none 0 0)]):=by unfold xg;kernel_rfl
theorem Zr:strF P za=some ([(0,1),(1,1),(2,1),(3,1),(4,1)],[(.int .i64 0),(.int .i64 0),(.int .i64 0),(.string ⟨#[]⟩),(.slice none 0 0)]):=by kernel_rfl
@[push_cast] theorem zp:aggB P za 5=true:=by kernel_rfl
@[push_cast] theorem xn:jy P za 5=true:=by kernel_rfl
theorem QW0:xg P zt (.slice none 0 0):=by unfold xg;kernel_rfl
@[push_cast] theorem o_Lint:oneB P zt=true:=by kernel_rfl
@[push_cast] theorem zm0:jy P zt 1=true:=by kernel_rfl
@[push_cast] theorem xB0:elZ P zt 1 8=true:=by kernel_rfl
theorem Je:P.underlying zt=some (.slice ze):=by kernel_rfl
theorem ZE0:Wo P zt=ze:=by kernel_rfl
@[push_cast] theorem s_Lint:isSl P zt=true:=by kernel_rfl
@[push_cast] theorem e_Lint:elB P zt 1=true:=by kernel_rfl
@[push_cast] theorem xy0:oneB P zi=true:=by kernel_rfl
@[push_cast] theorem Qn:jy P zi 1=true:=by kernel_rfl
@[push_cast] theorem Yy0:elZ P zi 2 24=true:=by kernel_rfl
theorem Zt:P.underlying zi=some (.slice zA):=by kernel_rfl
theorem Km:Wo P zi=zA:=by kernel_rfl
@[push_cast] theorem Yn0:isSl P zi=true:=by kernel_rfl
@[push_cast] theorem Qu:elB P zi 2=true:=by kernel_rfl
theorem jR:xg P zA (.agg #[(.string ⟨#[]⟩),(.int .i64 0)]):=by unfold xg;kernel_rfl
theorem Xz0:strF P zA=some ([(0,1),(1,1)],[(.string ⟨#[]⟩),(.int .i64 0)]):=by kernel_rfl
@[push_cast] theorem Xs0:aggB P zA 2=true:=by kernel_rfl
@[push_cast] theorem Yk:jy P zA 2=true:=by kernel_rfl
@[push_cast] theorem W30:oneB P zP=true:=by kernel_rfl
@[push_cast] theorem xv0:jy P zP 1=true:=by kernel_rfl
@[push_cast] theorem Yx0:elZ P zP 2 16=true:=by kernel_rfl
theorem Yk0:P.underlying zP=some (.slice y6):=by kernel_rfl
@[push_cast] theorem W00:isSl P zP=true:=by kernel_rfl
@[push_cast] theorem xD0:elB P zP 2=true:=by kernel_rfl
theorem X30:strF P zy=some ([(0,1),(1,1),(2,1)],[(.slice none 0 0),(.slice none 0 0),(.slice none 0 0)]):=by kernel_rfl
theorem Qm:xg P y6 (.agg #[(.int .i64 0),(.int .i64 0)]):=by unfold xg;kernel_rfl
theorem Xy0:strF P y6=some ([(0,1),(1,1)],[(.int .i64 0),(.int .i64 0)]):=by kernel_rfl
@[push_cast] theorem Kk:aggB P y6 2=true:=by kernel_rfl
@[push_cast] theorem X60:jy P y6 2=true:=by kernel_rfl
theorem jp:xg P zo (.agg #[(.slice none 0 0),(.slice none 0 0)]):=by unfold xg;kernel_rfl
theorem VM:strF P zo=some ([(0,1),(1,1)],[(.slice none 0 0),(.slice none 0 0)]):=by kernel_rfl
@[push_cast] theorem qH:aggB P zo 2=true:=by kernel_rfl
@[push_cast] theorem qW:jy P zo 2=true:=by kernel_rfl
theorem X10:strF P ym=some ([(0,1),(1,1)],[(.slice none 0 0),(.int .i64 0)]):=by kernel_rfl
theorem xD:xg P zd (.agg #[(.int .i64 0),(.int .i64 0)]):=by unfold xg;kernel_rfl
theorem xs0:strF P zd=some ([(0,1),(1,1)],[(.int .i64 0),(.int .i64 0)]):=by kernel_rfl
@[push_cast] theorem y7:aggB P zd 2=true:=by kernel_rfl
@[push_cast] theorem Q50:jy P zd 2=true:=by kernel_rfl
@[push_cast] theorem Yr0:oneB P zw=true:=by kernel_rfl
theorem Kj:P.underlying zw=some (.map 3 125):=by kernel_rfl
theorem WK:P.underlying Y2=some (.map 9 3):=by kernel_rfl
theorem KI0:xg P yc (.slice none 0 0):=by unfold xg;kernel_rfl
@[push_cast] theorem o_LLint:oneB P yc=true:=by kernel_rfl
@[push_cast] theorem kV0:jy P yc 1=true:=by kernel_rfl
@[push_cast] theorem Zh0:elZ P yc 1 24=true:=by kernel_rfl
theorem Je0:P.underlying yc=some (.slice zt):=by kernel_rfl
theorem VJ0:Wo P yc=zt:=by kernel_rfl
@[push_cast] theorem s_LLint:isSl P yc=true:=by kernel_rfl
@[push_cast] theorem e_LLint:elB P yc 1=true:=by kernel_rfl
theorem Yj:xg P zz (.agg #[(.int .i64 0),(.slice none 0 0)]):=by unfold xg;kernel_rfl
theorem kR0:strF P zz=some ([(0,1),(1,1)],[(.int .i64 0),(.slice none 0 0)]):=by kernel_rfl
@[push_cast] theorem xP:aggB P zz 2=true:=by kernel_rfl
theorem QE0:strF P zW=some ([(0,1),(1,1),(2,1),(3,2),(5,1)],[(.slice none 0 0),(.slice none 0 0),(.slice none 0 0),(.int .i64 0),(.slice none 0 0),(.slice none 0 0)]):=by kernel_rfl
theorem Jf:P.underlying xj=some (.slice xB):=by kernel_rfl
@[push_cast] theorem kE0:isSl P xj=true:=by kernel_rfl
@[push_cast] theorem Jr:elB P xj 1=true:=by kernel_rfl
theorem Qk:xg P xB .nilFunc:=by unfold xg;kernel_rfl
@[push_cast] theorem QZ:oneB P xB=true:=by kernel_rfl
@[push_cast] theorem QW:jy P xB 1=true:=by kernel_rfl
@[push_cast] theorem qM:oneB P yg=true:=by kernel_rfl
@[push_cast] theorem Wa0:jy P yg 1=true:=by kernel_rfl
@[push_cast] theorem Xp0:elZ P yi 2 16=true:=by kernel_rfl
theorem Xa0:P.underlying yi=some (.slice zd):=by kernel_rfl
@[push_cast] theorem WF0:elB P yi 2=true:=by kernel_rfl
theorem X40:strF P yx=some ([(0,1),(1,1)],[(.string ⟨#[]⟩),(.int .i64 0)]):=by kernel_rfl
theorem kZ:xg P zY (.agg #[(.string ⟨#[]⟩),(.int .i64 0)]):=by unfold xg;kernel_rfl
theorem Yc0:strF P zY=some ([(0,2)],[(.string ⟨#[]⟩),(.int .i64 0)]):=by kernel_rfl
@[push_cast] theorem Zm0:aggB P zY 2=true:=by kernel_rfl
theorem XE:xg P y8 (.agg #[(.string ⟨#[]⟩),(.int .i64 0)]):=by unfold xg;kernel_rfl
theorem kw0:strF P y8=some ([(0,2)],[(.string ⟨#[]⟩),(.int .i64 0)]):=by kernel_rfl
theorem KZ:xg P zR (.agg #[(.string ⟨#[]⟩),(.int .i64 0)]):=by unfold xg;kernel_rfl
theorem kt0:strF P zR=some ([(0,2)],[(.string ⟨#[]⟩),(.int .i64 0)]):=by kernel_rfl
@[push_cast] theorem jN0:aggB P zR 2=true:=by kernel_rfl
theorem xV:xg P y2 (.agg #[(.string ⟨#[]⟩),(.int .i64 0)]):=by unfold xg;kernel_rfl
theorem kr0:strF P y2=some ([(0,2)],[(.string ⟨#[]⟩),(.int .i64 0)]):=by kernel_rfl
@[push_cast] theorem jL0:aggB P y2 2=true:=by kernel_rfl
theorem qc:xg P zV (.agg #[(.string ⟨#[]⟩),(.int .i64 0)]):=by unfold xg;kernel_rfl
theorem jx0:strF P zV=some ([(0,2)],[(.string ⟨#[]⟩),(.int .i64 0)]):=by kernel_rfl
@[push_cast] theorem qN0:aggB P zV 2=true:=by kernel_rfl
theorem qL:xg P zZ (.agg #[(.string ⟨#[]⟩),(.int .i64 0)]):=by unfold xg;kernel_rfl
theorem ks0:strF P zZ=some ([(0,2)],[(.string ⟨#[]⟩),(.int .i64 0)]):=by kernel_rfl
@[push_cast] theorem jM0:aggB P zZ 2=true:=by kernel_rfl
theorem jB:xg P y9 (.agg #[(.string ⟨#[]⟩),(.int .i64 0)]):=by unfold xg;kernel_rfl
theorem Ye0:strF P y9=some ([(0,2)],[(.string ⟨#[]⟩),(.int .i64 0)]):=by kernel_rfl
@[push_cast] theorem Zn0:aggB P y9 2=true:=by kernel_rfl
@[push_cast] theorem Zc0:oneB P Y3=true:=by kernel_rfl
theorem xS0:xg P zF (.agg #[(.string ⟨#[]⟩),(.int .i64 0),.nilFunc]):=by unfold xg;kernel_rfl
theorem jy0:strF P zF=some ([(0,2),(2,1)],[(.string ⟨#[]⟩),(.int .i64 0),.nilFunc]):=by kernel_rfl
@[push_cast] theorem Vv:aggB P zF 3=true:=by kernel_rfl
@[push_cast] theorem Yw0:elZ P xf 1 16=true:=by kernel_rfl
theorem V7:P.underlying xf=some (.slice zT):=by kernel_rfl
theorem Qy0:Wo P xf=zT:=by kernel_rfl
@[push_cast] theorem Ug0:isSl P xf=true:=by kernel_rfl
theorem XF:xg P y3 (.agg #[(.string ⟨#[]⟩),(.int .i64 0)]):=by unfold xg;kernel_rfl
theorem kz0:strF P y3=some ([(0,2)],[(.string ⟨#[]⟩),(.int .i64 0)]):=by kernel_rfl
@[push_cast] theorem Ww0:elZ P jJ 1 1=true:=by kernel_rfl
theorem VI0:Wo P jJ=qI:=by kernel_rfl
@[push_cast] theorem s_Lbool:isSl P jJ=true:=by kernel_rfl
@[push_cast] theorem Xu0:elB P jJ 1=true:=by kernel_rfl
@[push_cast] theorem Js0:oneB P zM=true:=by kernel_rfl
@[push_cast] theorem Ks0:oneB P yJ=true:=by kernel_rfl
theorem Yd0:strF P zB=some ([(0,2),(2,1),(3,1),(4,1),(5,1)],[(.int .i64 0),(.slice none 0 0),(.pointer none),(.slice none 0 0),(.slice none 0 0),(.int .i64 0)]):=by kernel_rfl
theorem Yf0:strF P zG=some ([(0,1),(1,1)],[(.slice none 0 0),(.map none)]):=by kernel_rfl
@[push_cast] theorem jx:aggB P zG 2=true:=by kernel_rfl
theorem Zz:xg P zc (.slice none 0 0):=by unfold xg;kernel_rfl
@[push_cast] theorem jI0:oneB P zc=true:=by kernel_rfl
@[push_cast] theorem Yu:jy P zc 1=true:=by kernel_rfl
@[push_cast] theorem xx:elZ P zc 1 8=true:=by kernel_rfl
theorem xt:P.underlying zc=some (.slice zv):=by kernel_rfl
theorem qa:Wo P zc=zv:=by kernel_rfl
@[push_cast] theorem qo:isSl P zc=true:=by kernel_rfl
@[push_cast] theorem xU:elB P zc 1=true:=by kernel_rfl
@[push_cast] theorem QK0:oneB P y1=true:=by kernel_rfl
@[push_cast] theorem qA0:oneB P yn=true:=by kernel_rfl
theorem X4:P.underlying yn=some (.map 9 194):=by kernel_rfl
theorem ky0:strF P zX=some ([(0,1),(1,1),(2,1),(3,1)],[(.pointer none),(.slice none 0 0),(.map none),(.map none)]):=by kernel_rfl
@[push_cast] theorem QJ0:oneB P Z8=true:=by kernel_rfl
theorem kx0:strF P ya=some ([(0,1),(1,1)],[(.pointer none),.nilIface]):=by kernel_rfl
theorem yW:xg P zv (.int .i64 0):=by unfold xg;kernel_rfl
@[push_cast] theorem Vb0:oneB P zv=true:=by kernel_rfl
@[push_cast] theorem yN:jy P zv 1=true:=by kernel_rfl
theorem Xr0:QN0 P yy .u64:=by unfold QN0;kernel_rfl
theorem qt0:(P.underlying yy).isSome=true:=by kernel_rfl
theorem X20:strF P zI=some ([(0,1),(1,1),(2,1)],[(.slice none 0 0),(.slice none 0 0),(.slice none 0 0)]):=by kernel_rfl
theorem JP0:QN0 P Ua .u64:=by unfold QN0;kernel_rfl
theorem Wl0:(P.underlying Ua).isSome=true:=by kernel_rfl
@[push_cast] theorem W40:oneB P zO=true:=by kernel_rfl
@[push_cast] theorem Yh0:jy P zO 1=true:=by kernel_rfl
@[push_cast] theorem xC0:elZ P zO 3 24=true:=by kernel_rfl
theorem xw0:P.underlying zO=some (.slice zu):=by kernel_rfl
theorem ZF0:Wo P zO=zu:=by kernel_rfl
@[push_cast] theorem Va:isSl P zO=true:=by kernel_rfl
@[push_cast] theorem xE0:elB P zO 3=true:=by kernel_rfl
theorem kQ0:strF P y0=some ([(0,1),(1,1)],[(.int .i64 0),(.slice none 0 0)]):=by kernel_rfl
@[push_cast] theorem Jp:aggB P y0 2=true:=by kernel_rfl
@[push_cast] theorem qF0:elZ P zC 1 24=true:=by kernel_rfl
theorem V8:P.underlying zC=some (.slice zc):=by kernel_rfl
@[push_cast] theorem Jl0:isSl P zC=true:=by kernel_rfl
@[push_cast] theorem j30:elB P zC 1=true:=by kernel_rfl
@[push_cast] theorem Ys0:oneB P zL=true:=by kernel_rfl
theorem ZX:P.underlying zL=some (.map 235 3):=by kernel_rfl
theorem ku0:strF P zU=some ([(0,2),(2,1)],[(.int .i64 0),(.slice none 0 0),(.map none)]):=by kernel_rfl
theorem V3:xg P zu (.agg #[(.bool false),(.int .i64 0),(.int .i64 0)]):=by unfold xg;kernel_rfl
theorem jz0:strF P zu=some ([(0,1),(1,1),(2,1)],[(.bool false),(.int .i64 0),(.int .i64 0)]):=by kernel_rfl
@[push_cast] theorem Zn:aggB P zu 3=true:=by kernel_rfl
@[push_cast] theorem X70:jy P zu 3=true:=by kernel_rfl
theorem Yb:P.underlying yd=some (.slice yA):=by kernel_rfl
theorem Y0:Wo P yd=yA:=by kernel_rfl
@[push_cast] theorem yF0:isSl P yd=true:=by kernel_rfl
@[push_cast] theorem yG0:elB P yd 1=true:=by kernel_rfl
@[push_cast] theorem Wt:oneB P yA=true:=by kernel_rfl
@[push_cast] theorem Wr:jy P yA 1=true:=by kernel_rfl
theorem KX0:P.underlying Wq=some (.slice yc):=by kernel_rfl
@[push_cast] theorem s_LLLint:isSl P Wq=true:=by kernel_rfl
@[push_cast] theorem e_LLLint:elB P Wq 1=true:=by kernel_rfl
@[push_cast] theorem j9:imapB P ql=true:=by kernel_rfl
theorem jU0:fieldB P za 0 0=true:=by kernel_rfl
@[push_cast] theorem KB0 {w:World} {K:Value->World->Prop} (a:Addr):zg P za (.pointer (some a)) 0 w K=K (.pointer (some (a.add 0))) w:=y5 jU0 a
theorem jT0:fieldB P za 1 1=true:=by kernel_rfl
@[push_cast] theorem KA0 {w:World} {K:Value->World->Prop} (a:Addr):zg P za (.pointer (some a)) 1 w K=K (.pointer (some (a.add 1))) w:=y5 jT0 a
theorem jS0:fieldB P za 2 2=true:=by kernel_rfl
@[push_cast] theorem Kz0 {w:World} {K:Value->World->Prop} (a:Addr):zg P za (.pointer (some a)) 2 w K=K (.pointer (some (a.add 2))) w:=y5 jS0 a
theorem jR0:fieldB P za 3 3=true:=by kernel_rfl
@[push_cast] theorem Ky0 {w:World} {K:Value->World->Prop} (a:Addr):zg P za (.pointer (some a)) 3 w K=K (.pointer (some (a.add 3))) w:=y5 jR0 a
theorem jQ0:fieldB P za 4 4=true:=by kernel_rfl
@[push_cast] theorem Kx0 {w:World} {K:Value->World->Prop} (a:Addr):zg P za (.pointer (some a)) 4 w K=K (.pointer (some (a.add 4))) w:=y5 jQ0 a
theorem jZ0:fieldB P zA 0 0=true:=by kernel_rfl
@[push_cast] theorem KG0 {w:World} {K:Value->World->Prop} (a:Addr):zg P zA (.pointer (some a)) 0 w K=K (.pointer (some (a.add 0))) w:=y5 jZ0 a
theorem jY0:fieldB P zA 1 1=true:=by kernel_rfl
@[push_cast] theorem KF0 {w:World} {K:Value->World->Prop} (a:Addr):zg P zA (.pointer (some a)) 1 w K=K (.pointer (some (a.add 1))) w:=y5 jY0 a
theorem qV0:fieldB P zy 0 0=true:=by kernel_rfl
@[push_cast] theorem JZ0 {w:World} {K:Value->World->Prop} (a:Addr):zg P zy (.pointer (some a)) 0 w K=K (.pointer (some (a.add 0))) w:=y5 qV0 a
theorem qU0:fieldB P zy 1 1=true:=by kernel_rfl
@[push_cast] theorem JY0 {w:World} {K:Value->World->Prop} (a:Addr):zg P zy (.pointer (some a)) 1 w K=K (.pointer (some (a.add 1))) w:=y5 qU0 a
theorem qT0:fieldB P zy 2 2=true:=by kernel_rfl
@[push_cast] theorem JX0 {w:World} {K:Value->World->Prop} (a:Addr):zg P zy (.pointer (some a)) 2 w K=K (.pointer (some (a.add 2))) w:=y5 qT0 a
theorem jP0:fieldB P y6 0 0=true:=by kernel_rfl
@[push_cast] theorem Kw0 {w:World} {K:Value->World->Prop} (a:Addr):zg P y6 (.pointer (some a)) 0 w K=K (.pointer (some (a.add 0))) w:=y5 jP0 a
theorem jO0:fieldB P y6 1 1=true:=by kernel_rfl
@[push_cast] theorem Kv0 {w:World} {K:Value->World->Prop} (a:Addr):zg P y6 (.pointer (some a)) 1 w K=K (.pointer (some (a.add 1))) w:=y5 jO0 a
theorem qZ0:fieldB P zo 0 0=true:=by kernel_rfl
@[push_cast] theorem K20 {w:World} {K:Value->World->Prop} (a:Addr):zg P zo (.pointer (some a)) 0 w K=K (.pointer (some (a.add 0))) w:=y5 qZ0 a
theorem qY0:fieldB P zo 1 1=true:=by kernel_rfl
@[push_cast] theorem yz {w:World} {K:Value->World->Prop} (a:Addr):zg P zo (.pointer (some a)) 1 w K=K (.pointer (some (a.add 1))) w:=y5 qY0 a
theorem qP0:fieldB P ym 0 0=true:=by kernel_rfl
@[push_cast] theorem Vw {w:World} {K:Value->World->Prop} (a:Addr):zg P ym (.pointer (some a)) 0 w K=K (.pointer (some (a.add 0))) w:=y5 qP0 a
theorem qO0:fieldB P ym 1 1=true:=by kernel_rfl
@[push_cast] theorem j10 {w:World} {K:Value->World->Prop} (a:Addr):zg P ym (.pointer (some a)) 1 w K=K (.pointer (some (a.add 1))) w:=y5 qO0 a
theorem Zy0:fieldB P zd 0 0=true:=by kernel_rfl
@[push_cast] theorem VB0 {w:World} {K:Value->World->Prop} (a:Addr):zg P zd (.pointer (some a)) 0 w K=K (.pointer (some (a.add 0))) w:=y5 Zy0 a
theorem Zx0:fieldB P zd 1 1=true:=by kernel_rfl
@[push_cast] theorem VA0 {w:World} {K:Value->World->Prop} (a:Addr):zg P zd (.pointer (some a)) 1 w K=K (.pointer (some (a.add 1))) w:=y5 Zx0 a
theorem ZC0:fieldB P zz 0 0=true:=by kernel_rfl
@[push_cast] theorem VF0 {w:World} {K:Value->World->Prop} (a:Addr):zg P zz (.pointer (some a)) 0 w K=K (.pointer (some (a.add 0))) w:=y5 ZC0 a
theorem ZB0:fieldB P zz 1 1=true:=by kernel_rfl
@[push_cast] theorem VE0 {w:World} {K:Value->World->Prop} (a:Addr):zg P zz (.pointer (some a)) 1 w K=K (.pointer (some (a.add 1))) w:=y5 ZB0 a
theorem Zw0:fieldB P zW 0 0=true:=by kernel_rfl
@[push_cast] theorem Vz0 {w:World} {K:Value->World->Prop} (a:Addr):zg P zW (.pointer (some a)) 0 w K=K (.pointer (some (a.add 0))) w:=y5 Zw0 a
theorem Zv0:fieldB P zW 1 1=true:=by kernel_rfl
@[push_cast] theorem Vy0 {w:World} {K:Value->World->Prop} (a:Addr):zg P zW (.pointer (some a)) 1 w K=K (.pointer (some (a.add 1))) w:=y5 Zv0 a
theorem Zu0:fieldB P zW 2 2=true:=by kernel_rfl
@[push_cast] theorem Vx0 {w:World} {K:Value->World->Prop} (a:Addr):zg P zW (.pointer (some a)) 2 w K=K (.pointer (some (a.add 2))) w:=y5 Zu0 a
theorem Zt0:fieldB P zW 3 3=true:=by kernel_rfl
@[push_cast] theorem Vw0 {w:World} {K:Value->World->Prop} (a:Addr):zg P zW (.pointer (some a)) 3 w K=K (.pointer (some (a.add 3))) w:=y5 Zt0 a
theorem Zs0:fieldB P zW 4 5=true:=by kernel_rfl
@[push_cast] theorem Vv0 {w:World} {K:Value->World->Prop} (a:Addr):zg P zW (.pointer (some a)) 4 w K=K (.pointer (some (a.add 5))) w:=y5 Zs0 a
theorem qX0:fieldB P yx 0 0=true:=by kernel_rfl
@[push_cast] theorem K10 {w:World} {K:Value->World->Prop} (a:Addr):zg P yx (.pointer (some a)) 0 w K=K (.pointer (some (a.add 0))) w:=y5 qX0 a
theorem qW0:fieldB P yx 1 1=true:=by kernel_rfl
@[push_cast] theorem K00 {w:World} {K:Value->World->Prop} (a:Addr):zg P yx (.pointer (some a)) 1 w K=K (.pointer (some (a.add 1))) w:=y5 qW0 a
theorem zE0:fieldB P zF 1 2=true:=by kernel_rfl
@[push_cast] theorem XZ0 {w:World} {K:Value->World->Prop} (a:Addr):zg P zF (.pointer (some a)) 1 w K=K (.pointer (some (a.add 2))) w:=y5 zE0 a
theorem xY0:fieldB P zB 0 0=true:=by kernel_rfl
@[push_cast] theorem QS0 {w:World} {K:Value->World->Prop} (a:Addr):zg P zB (.pointer (some a)) 0 w K=K (.pointer (some (a.add 0))) w:=y5 xY0 a
theorem xX0:fieldB P zB 1 2=true:=by kernel_rfl
@[push_cast] theorem QR0 {w:World} {K:Value->World->Prop} (a:Addr):zg P zB (.pointer (some a)) 1 w K=K (.pointer (some (a.add 2))) w:=y5 xX0 a
theorem xW0:fieldB P zB 2 3=true:=by kernel_rfl
@[push_cast] theorem QQ0 {w:World} {K:Value->World->Prop} (a:Addr):zg P zB (.pointer (some a)) 2 w K=K (.pointer (some (a.add 3))) w:=y5 xW0 a
theorem xV0:fieldB P zB 3 4=true:=by kernel_rfl
@[push_cast] theorem QP0 {w:World} {K:Value->World->Prop} (a:Addr):zg P zB (.pointer (some a)) 3 w K=K (.pointer (some (a.add 4))) w:=y5 xV0 a
theorem xU0:fieldB P zB 4 5=true:=by kernel_rfl
@[push_cast] theorem QO0 {w:World} {K:Value->World->Prop} (a:Addr):zg P zB (.pointer (some a)) 4 w K=K (.pointer (some (a.add 5))) w:=y5 xU0 a
theorem q00:fieldB P zG 0 0=true:=by kernel_rfl
@[push_cast] theorem QU0 {w:World} {K:Value->World->Prop} (a:Addr):zg P zG (.pointer (some a)) 0 w K=K (.pointer (some (a.add 0))) w:=y5 q00 a
theorem xZ0:fieldB P zG 1 1=true:=by kernel_rfl
@[push_cast] theorem QT0 {w:World} {K:Value->World->Prop} (a:Addr):zg P zG (.pointer (some a)) 1 w K=K (.pointer (some (a.add 1))) w:=y5 xZ0 a
theorem x20:fieldB P zX 0 0=true:=by kernel_rfl
@[push_cast] theorem Qw0 {w:World} {K:Value->World->Prop} (a:Addr):zg P zX (.pointer (some a)) 0 w K=K (.pointer (some (a.add 0))) w:=y5 x20 a
theorem x10:fieldB P zX 1 1=true:=by kernel_rfl
@[push_cast] theorem Qv0 {w:World} {K:Value->World->Prop} (a:Addr):zg P zX (.pointer (some a)) 1 w K=K (.pointer (some (a.add 1))) w:=y5 x10 a
theorem x00:fieldB P zX 2 2=true:=by kernel_rfl
@[push_cast] theorem Qu0 {w:World} {K:Value->World->Prop} (a:Addr):zg P zX (.pointer (some a)) 2 w K=K (.pointer (some (a.add 2))) w:=y5 x00 a
theorem yZ0:fieldB P zX 3 3=true:=by kernel_rfl
@[push_cast] theorem Qt0 {w:World} {K:Value->World->Prop} (a:Addr):zg P zX (.pointer (some a)) 3 w K=K (.pointer (some (a.add 3))) w:=y5 yZ0 a
theorem yY0:fieldB P ya 0 0=true:=by kernel_rfl
@[push_cast] theorem Qs0 {w:World} {K:Value->World->Prop} (a:Addr):zg P ya (.pointer (some a)) 0 w K=K (.pointer (some (a.add 0))) w:=y5 yY0 a
theorem yX0:fieldB P ya 1 1=true:=by kernel_rfl
@[push_cast] theorem Qr0 {w:World} {K:Value->World->Prop} (a:Addr):zg P ya (.pointer (some a)) 1 w K=K (.pointer (some (a.add 1))) w:=y5 yX0 a
theorem qS0:fieldB P zI 0 0=true:=by kernel_rfl
@[push_cast] theorem JW0 {w:World} {K:Value->World->Prop} (a:Addr):zg P zI (.pointer (some a)) 0 w K=K (.pointer (some (a.add 0))) w:=y5 qS0 a
theorem qR0:fieldB P zI 1 1=true:=by kernel_rfl
@[push_cast] theorem JV0 {w:World} {K:Value->World->Prop} (a:Addr):zg P zI (.pointer (some a)) 1 w K=K (.pointer (some (a.add 1))) w:=y5 qR0 a
theorem qQ0:fieldB P zI 2 2=true:=by kernel_rfl
@[push_cast] theorem JU0 {w:World} {K:Value->World->Prop} (a:Addr):zg P zI (.pointer (some a)) 2 w K=K (.pointer (some (a.add 2))) w:=y5 qQ0 a
theorem ZA0:fieldB P y0 0 0=true:=by kernel_rfl
@[push_cast] theorem VD0 {w:World} {K:Value->World->Prop} (a:Addr):zg P y0 (.pointer (some a)) 0 w K=K (.pointer (some (a.add 0))) w:=y5 ZA0 a
theorem Zz0:fieldB P y0 1 1=true:=by kernel_rfl
@[push_cast] theorem VC0 {w:World} {K:Value->World->Prop} (a:Addr):zg P y0 (.pointer (some a)) 1 w K=K (.pointer (some (a.add 1))) w:=y5 Zz0 a
theorem yW0:fieldB P zU 0 0=true:=by kernel_rfl
@[push_cast] theorem Qq0 {w:World} {K:Value->World->Prop} (a:Addr):zg P zU (.pointer (some a)) 0 w K=K (.pointer (some (a.add 0))) w:=y5 yW0 a
theorem yV0:fieldB P zU 1 2=true:=by kernel_rfl
@[push_cast] theorem Qp0 {w:World} {K:Value->World->Prop} (a:Addr):zg P zU (.pointer (some a)) 1 w K=K (.pointer (some (a.add 2))) w:=y5 yV0 a
theorem jX0:fieldB P zu 0 0=true:=by kernel_rfl
@[push_cast] theorem KE0 {w:World} {K:Value->World->Prop} (a:Addr):zg P zu (.pointer (some a)) 0 w K=K (.pointer (some (a.add 0))) w:=y5 jX0 a
theorem jW0:fieldB P zu 1 1=true:=by kernel_rfl
@[push_cast] theorem KD0 {w:World} {K:Value->World->Prop} (a:Addr):zg P zu (.pointer (some a)) 1 w K=K (.pointer (some (a.add 1))) w:=y5 jW0 a
theorem jV0:fieldB P zu 2 2=true:=by kernel_rfl
@[push_cast] theorem KC0 {w:World} {K:Value->World->Prop} (a:Addr):zg P zu (.pointer (some a)) 2 w K=K (.pointer (some (a.add 2))) w:=y5 jV0 a
@[push_cast] theorem KP0 {w:World} {K:Value->World->Prop} (b a:Value):J50 P zd (.agg ⟨[b,a]⟩) 1 w K=K a w:=yU (by kernel_rfl)
noncomputable def mn_kids:String:=match P.info? 130 with|some i=>(match i.methods[0]? with|some m=>m.name|none=>default)|none=>default
noncomputable def XR:String:=match P.info? 130 with|some i=>(match i.methods[1]? with|some m=>m.name|none=>default)|none=>default
noncomputable def ZW:String:=match P.info? 130 with|some i=>(match i.methods[2]? with|some m=>m.name|none=>default)|none=>default
noncomputable def Kh:String:=match P.info? 130 with|some i=>(match i.methods[3]? with|some m=>m.name|none=>default)|none=>default
theorem Ka0:concB P zT=true:=by kernel_rfl
@[push_cast] theorem Ul0 {w:World} {K:Value->World->Prop} (v:Value):Ws P zT v w K=K (.iface zT v) w:=QX Ka0 v
theorem jG:concB P zY=true:=by kernel_rfl
@[push_cast] theorem Kt0 {w:World} {K:Value->World->Prop} (v:Value):Ws P zY v w K=K (.iface zY v) w:=QX jG v
theorem UL (a b:Value) (w:World):(method (P.types.size+Made.depth) zY (.agg ⟨[a,b]⟩) mn_kids).run P w= .ok (yV,.agg ⟨[a,b]⟩) w:=by kernel_rfl
theorem UK (a b:Value) (w:World):(method (P.types.size+Made.depth) zY (.agg ⟨[a,b]⟩) XR).run P w= .ok (ZH,.agg ⟨[a,b]⟩) w:=by kernel_rfl
theorem Ww (a b:Value) (w:World):(method (P.types.size+Made.depth) zY (.agg ⟨[a,b]⟩) ZW).run P w= .ok (Za,.agg ⟨[a,b]⟩) w:=by kernel_rfl
theorem UJ (a b:Value) (w:World):(method (P.types.size+Made.depth) zY (.agg ⟨[a,b]⟩) Kh).run P w= .ok (xc,.agg ⟨[a,b]⟩) w:=by kernel_rfl
theorem kp:concB P y8=true:=by kernel_rfl
@[push_cast] theorem Jz0 {w:World} {K:Value->World->Prop} (v:Value):Ws P y8 v w K=K (.iface y8 v) w:=QX kp v
theorem WG (a b:Value) (w:World):(method (P.types.size+Made.depth) y8 (.agg ⟨[a,b]⟩) mn_kids).run P w= .ok (yV,.agg ⟨[a,b]⟩) w:=by kernel_rfl
theorem WF (a b:Value) (w:World):(method (P.types.size+Made.depth) y8 (.agg ⟨[a,b]⟩) XR).run P w= .ok (Zi,.agg ⟨[a,b]⟩) w:=by kernel_rfl
theorem Vo (a b:Value) (w:World):(method (P.types.size+Made.depth) y8 (.agg ⟨[a,b]⟩) ZW).run P w= .ok (kU,.agg ⟨[a,b]⟩) w:=by kernel_rfl
theorem WE (a b:Value) (w:World):(method (P.types.size+Made.depth) y8 (.agg ⟨[a,b]⟩) Kh).run P w= .ok (xc,.agg ⟨[a,b]⟩) w:=by kernel_rfl
theorem XU:concB P zR=true:=by kernel_rfl
@[push_cast] theorem Jy0 {w:World} {K:Value->World->Prop} (v:Value):Ws P zR v w K=K (.iface zR v) w:=QX XU v
theorem WD (a b:Value) (w:World):(method (P.types.size+Made.depth) zR (.agg ⟨[a,b]⟩) mn_kids).run P w= .ok (yV,.agg ⟨[a,b]⟩) w:=by kernel_rfl
theorem WC (a b:Value) (w:World):(method (P.types.size+Made.depth) zR (.agg ⟨[a,b]⟩) XR).run P w= .ok (Zh,.agg ⟨[a,b]⟩) w:=by kernel_rfl
theorem Vn (a b:Value) (w:World):(method (P.types.size+Made.depth) zR (.agg ⟨[a,b]⟩) ZW).run P w= .ok (kT,.agg ⟨[a,b]⟩) w:=by kernel_rfl
theorem WB (a b:Value) (w:World):(method (P.types.size+Made.depth) zR (.agg ⟨[a,b]⟩) Kh).run P w= .ok (xc,.agg ⟨[a,b]⟩) w:=by kernel_rfl
theorem xA:concB P y2=true:=by kernel_rfl
@[push_cast] theorem Jw0 {w:World} {K:Value->World->Prop} (v:Value):Ws P y2 v w K=K (.iface y2 v) w:=QX xA v
theorem Wv (a b:Value) (w:World):(method (P.types.size+Made.depth) y2 (.agg ⟨[a,b]⟩) mn_kids).run P w= .ok (yV,.agg ⟨[a,b]⟩) w:=by kernel_rfl
theorem Wu (a b:Value) (w:World):(method (P.types.size+Made.depth) y2 (.agg ⟨[a,b]⟩) XR).run P w= .ok (Z9,.agg ⟨[a,b]⟩) w:=by kernel_rfl
theorem Vj (a b:Value) (w:World):(method (P.types.size+Made.depth) y2 (.agg ⟨[a,b]⟩) ZW).run P w= .ok (kP,.agg ⟨[a,b]⟩) w:=by kernel_rfl
theorem xC:concB P zV=true:=by kernel_rfl
@[push_cast] theorem QL0 {w:World} {K:Value->World->Prop} (v:Value):Ws P zV v w K=K (.iface zV v) w:=QX xC v
theorem Vl (a b:Value) (w:World):(method (P.types.size+Made.depth) zV (.agg ⟨[a,b]⟩) mn_kids).run P w= .ok (yV,.agg ⟨[a,b]⟩) w:=by kernel_rfl
theorem Vk (a b:Value) (w:World):(method (P.types.size+Made.depth) zV (.agg ⟨[a,b]⟩) XR).run P w= .ok (kR,.agg ⟨[a,b]⟩) w:=by kernel_rfl
theorem KQ (a b:Value) (w:World):(method (P.types.size+Made.depth) zV (.agg ⟨[a,b]⟩) ZW).run P w= .ok (ka,.agg ⟨[a,b]⟩) w:=by kernel_rfl
theorem qu:concB P zZ=true:=by kernel_rfl
@[push_cast] theorem Jx0 {w:World} {K:Value->World->Prop} (v:Value):Ws P zZ v w K=K (.iface zZ v) w:=QX qu v
theorem WA (a b:Value) (w:World):(method (P.types.size+Made.depth) zZ (.agg ⟨[a,b]⟩) mn_kids).run P w= .ok (yV,.agg ⟨[a,b]⟩) w:=by kernel_rfl
theorem Wz (a b:Value) (w:World):(method (P.types.size+Made.depth) zZ (.agg ⟨[a,b]⟩) XR).run P w= .ok (Zg,.agg ⟨[a,b]⟩) w:=by kernel_rfl
theorem Vm (a b:Value) (w:World):(method (P.types.size+Made.depth) zZ (.agg ⟨[a,b]⟩) ZW).run P w= .ok (kS,.agg ⟨[a,b]⟩) w:=by kernel_rfl
theorem Wy (a b:Value) (w:World):(method (P.types.size+Made.depth) zZ (.agg ⟨[a,b]⟩) Kh).run P w= .ok (xc,.agg ⟨[a,b]⟩) w:=by kernel_rfl
theorem je:concB P y9=true:=by kernel_rfl
@[push_cast] theorem Ku0 {w:World} {K:Value->World->Prop} (v:Value):Ws P y9 v w K=K (.iface y9 v) w:=QX je v
theorem UO (a b:Value) (w:World):(method (P.types.size+Made.depth) y9 (.agg ⟨[a,b]⟩) mn_kids).run P w= .ok (yV,.agg ⟨[a,b]⟩) w:=by kernel_rfl
theorem UN (a b:Value) (w:World):(method (P.types.size+Made.depth) y9 (.agg ⟨[a,b]⟩) XR).run P w= .ok (ZL,.agg ⟨[a,b]⟩) w:=by kernel_rfl
theorem Wx (a b:Value) (w:World):(method (P.types.size+Made.depth) y9 (.agg ⟨[a,b]⟩) ZW).run P w= .ok (Zd,.agg ⟨[a,b]⟩) w:=by kernel_rfl
theorem UM (a b:Value) (w:World):(method (P.types.size+Made.depth) y9 (.agg ⟨[a,b]⟩) Kh).run P w= .ok (xc,.agg ⟨[a,b]⟩) w:=by kernel_rfl
theorem KA:concB P zF=true:=by kernel_rfl
@[push_cast] theorem QM0 {w:World} {K:Value->World->Prop} (v:Value):Ws P zF v w K=K (.iface zF v) w:=QX KA v
theorem Vr (a b c:Value) (w:World):(method (P.types.size+Made.depth) zF (.agg ⟨[a,b,c]⟩) mn_kids).run P w= .ok (yV,.agg ⟨[a,b]⟩) w:=by kernel_rfl
theorem Vq (a b c:Value) (w:World):(method (P.types.size+Made.depth) zF (.agg ⟨[a,b,c]⟩) XR).run P w= .ok (kW,.agg ⟨[a,b,c]⟩) w:=by kernel_rfl
theorem KR (a b c:Value) (w:World):(method (P.types.size+Made.depth) zF (.agg ⟨[a,b,c]⟩) ZW).run P w= .ok (kg,.agg ⟨[a,b,c]⟩) w:=by kernel_rfl
theorem Vp (a b c:Value) (w:World):(method (P.types.size+Made.depth) zF (.agg ⟨[a,b,c]⟩) Kh).run P w= .ok (xc,.agg ⟨[a,b]⟩) w:=by kernel_rfl
theorem kq:concB P y3=true:=by kernel_rfl
@[push_cast] theorem JA0 {w:World} {K:Value->World->Prop} (v:Value):Ws P y3 v w K=K (.iface y3 v) w:=QX kq v
theorem WJ (a b:Value) (w:World):(method (P.types.size+Made.depth) y3 (.agg ⟨[a,b]⟩) mn_kids).run P w= .ok (yV,.agg ⟨[a,b]⟩) w:=by kernel_rfl
theorem WI (a b:Value) (w:World):(method (P.types.size+Made.depth) y3 (.agg ⟨[a,b]⟩) XR).run P w= .ok (Zl,.agg ⟨[a,b]⟩) w:=by kernel_rfl
theorem Vs (a b:Value) (w:World):(method (P.types.size+Made.depth) y3 (.agg ⟨[a,b]⟩) ZW).run P w= .ok (kX,.agg ⟨[a,b]⟩) w:=by kernel_rfl
theorem WH (a b:Value) (w:World):(method (P.types.size+Made.depth) y3 (.agg ⟨[a,b]⟩) Kh).run P w= .ok (xc,.agg ⟨[a,b]⟩) w:=by kernel_rfl
end Go.Proofs.YtokflbdfnbppjaaGreatDoor
