import Derived.Test.YtolbhkcajhlllaaGreatDoorWwcP1
import Derived.RangeFuncRecord
import Derived.WalkKit
import Derived.ProofKit
import Derived.OpenShut
import Derived.ShutString
import Derived.ChangeOld
import Derived.JoinedOf
/- A part of the proof. -/
set_option linter.all false
set_option maxRecDepth 9999
set_option maxHeartbeats 2000000
noncomputable section
namespace Go.Vc
open Go Go.RowKit
section
def hasR:Code->Bool
 | .rangeFunc _ _ _ _=>true
 | .seq a b=>hasR a||hasR b
 | .block _ b=>hasR b
 |_=>false
def ovrAt:List Nat->Fr->List Value->Fr
 |[],f,_=>f
 |p::r,f,args=>ovrAt r (put f (some p) (args.headD undef)) args.tail
def jmp (x:Nat) (Nn Nr Nx:World->Prop) (pe:Option Code) (w:World):Prop:=
 match pe with
 |none=>Nn w
 |some .ret=>Nr w
 |some (.exit i)=>i=x/\Nx w
 |_=>False
def ZF0 (gv:Value) (n x:Nat) (w:World) (B:List Value->(World->(World->Prop)->Prop)->(World->Prop)->(World->Prop)->(World->Prop)->World->Prop) (Nn Nr Nx:Nat->World->Prop):Prop:=
 ∃gf lb,gv= .func (.func gf) #[] lb/\∀(l D:Nat) (w1:World) (RR:LoopState->Option Code->World->Prop),D=w.heap.size->l=w.heap.size+1->Ext w w1->w1.heap.size=w.heap.size+2->w1.heap[D]?=some (.deferred (some []))->
  (∀st pe w' w'',RR st pe w'->w''.heap[l]?=w'.heap[l]?->RR st pe w'')->RR .ready none w1->
  (∀(args:List Value) (w':World) (K:oK),args.length=n->RR .ready none w'->
   B args (λw1 k=>RR .ready none w1/\∀w2,Same (· =l) w1 w2->w2.heap.size=w1.heap.size->RR .busy none w2->k w2)
    (λw3=>RR .busy none w3/\∀w4,Same (· =l) w3 w4->w4.heap.size=w3.heap.size->RR .ready none w4->K (.bool true) w4)
    (λw3=>RR .busy none w3/\∀w4,Same (· =l) w3 w4->w4.heap.size=w3.heap.size->RR .done (some .ret) w4->K (.bool false) w4)
    (λw3=>RR .busy none w3/\∀w4,Same (· =l) w3 w4->w4.heap.size=w3.heap.size->RR .done (some (.exit x)) w4->K (.bool false) w4) w'->
   vcallv (.func (.yield l) #[] #[]) ⟨args⟩ w' K)->
  vcall gf ⟨.func (.yield l) #[] #[]::lb.toList⟩ w1 λ_ w3=> ∃st pe,st≠ .busy/\RR st pe w3/\∀w4,Same (· =l) w3 w4->w4.heap.size=w3.heap.size->jmp x (Nn D) (Nr D) (Nx D) pe w4
def rndK (x:Nat) (kn kr kx:World->Prop) (e:Exit) (_:Fr) (w:World):Prop:=
 match e with
 | .normal=>kn w
 | .ret=>kr w
 | .exit i=>cond (Nat.beq i x) (kx w) False
 |_=>False
def vx (T:Ann) (x:Nat):Code->(Exit->Fr->World->Prop)->(Nat->Exit->Fr->World->Prop)->Fr->World->Prop
 | .rangeFunc g ps asg body,_,K1,f,w=>
  ZF0 (ev f g) ps.size x w
   (λargs beg kn kr kx w'=>vc T asg (seqK (λf1 w1=>beg w1 λw2=>vc T body (rndK x kn kr kx) f1 w2) (λ_ _ _=>False)) (ovrAt ps.toList f args) w')
   (λD w'=>K1 D .normal f w') (λD w'=>K1 D .ret f w') (λD w'=>K1 D (.exit x) f w')
 | .seq a b,K0,K1,f,w=>
  match hasR a with
  |true=>vx T x a (seqK (λf' w'=>vc T b K0 f' w') K0) (λD=>seqK (λf' w'=>vc T b (K1 D) f' w') (K1 D)) f w
  |false=>vc T a (seqK (λf' w'=>vx T x b K0 K1 f' w') K0) f w
 | .block id c,K0,K1,f,w=>vx T x c (blkK id K0) (λD=>blkK id (K1 D)) f w
 |_,_,_,_,_=>False
def okX (n:Nat) (T:Ann):Code->Bool
 | .rangeFunc _ ps asg body=>okC n T asg&&(okC n T body&&ps.toList.all λp=>Nat.blt p n)
 | .seq a b=>cond (hasR a) (okX n T a&&okC n T b) (okC n T a&&okX n T b)
 | .block _ c=>okX n T c
 |_=>false
def ZM0 (D:Nat):Deferred:={target:= .collected D,args:= #[]}
def ks0 (n:Nat) (K0:Exit->Fr->World->Prop) (K1:Nat->Exit->Fr->World->Prop) (e:Exit) (a:Act) (w:World):Prop:=
 (∃f',Sim [] n f' a/\K0 e f' w)\/ ∃D f',Sim [ZM0 D] n f' a/\K1 D e f' w
section
variable {T:Ann} {n x:Nat}
theorem kV0:∀(ps:List Nat) (f:Fr) (args:List Value) (tmps:Array Value),args.length=ps.length->ps.all (λp=>Nat.blt p n)=true->tmps.size=n->(∀t,tmps.getD t undef=f t)->
  Sim [] n (ovrAt ps f args) {tmps:=(ps.zip args).foldl (λt p=>t.setIfInBounds p.1 p.2) tmps,defers:=[]}:=by
 intro ps;induction ps with
 |nil=>intro f args tmps _ _ hs a;exact⟨hs,rfl,a⟩
 |cons p r g=>
  intro f args tmps d b hs a;cases args with
  |nil=>simp at d
  |cons v args=>
   simp only[List.all_cons,gh] at b;have c:p<n:=(by simpa[pI] using b.1);refine g (put f (some p) v) args (tmps.setIfInBounds p v) (by simpa using d) b.2 (by simpa using hs) λt=>?_;by_cases e:t=p
   ·subst e;rw[Jc];simp[gM,hs,c]
   ·rw[VB _ _ _ _ e,<-a t];simp only[gM];rw[pZ (Ne.symm e)]
theorem Y1 (w:World) (l:Nat) (o:Obj):Same (· =l) w (w.putObj l o):=
 ⟨rfl,rfl,rfl,by simp,λ_ _ a=>World.putObj_heap_other a⟩
theorem Y4 {w:World} {l:Nat} {o:Obj} (h:w.heap[l]?=some o):l<w.heap.size:=(gB.1 h).1
theorem range_sound (hm:P.follows .mixedOrders=true) {g:Operand} {ps:Array Tmp} {asg body:Code} {S:Exit->Fr->World->Prop} {U:Nat->Exit->Fr->World->Prop} {f:Fr} {a:Act} {w:World}
  (z:okX n T (.rangeFunc g ps asg body)=true) (h:vx T x (.rangeFunc g ps asg body) S U f w) (hs:Sim [] n f a):(Code.rangeFunc g ps asg body).wpIn (FR none) 0 P (ks0 n S U) a w:=by
 simp only[okX,gh] at z;obtain⟨M,N,O⟩:=z;obtain⟨gf,lb,hg,H⟩:=h;refine wpIn_rangeFunc λfn _=>?_
 let d:LoopState->Option Code->Loop:=λst pe=>{state:=st,pending:=pe,fn,tmps:=a.tmps,params:=ps,assign:=asg,body,defers:=w.heap.size}
 obtain⟨w1,q⟩:∃w1,(w.alloc (.deferred (some []))).alloc (.loop (d .ready none))=w1:=⟨_,rfl⟩;have G:w1.heap[w.heap.size+1]?=some (.loop (d .ready none)):=by
  rw[<-q];have:=World.alloc_heap_new (w.alloc (.deferred (some []))) (.loop (d .ready none));rwa[World.size_alloc] at this
 have hD1:w1.heap[w.heap.size]?=some (.deferred (some [])):=by
  rw[<-q];exact(Below.heap_alloc _ _ _ (by simp)).trans (World.alloc_heap_new w _)
 have D:w1.heap.size=w.heap.size+2:=by rw[<-q,World.size_alloc,World.size_alloc]
 have F:Ext w w1:=by
  rw[<-q];exact⟨rfl,rfl,rfl,by rw[World.size_alloc,World.size_alloc];omega,λb Y _=>(Below.heap_alloc _ _ b (by rw[World.size_alloc];omega)).trans (Below.heap_alloc w _ b Y)⟩
 have Z:=H (w.heap.size+1) w.heap.size w1 (λst pe w'=>w'.heap[w.heap.size+1]?=some (.loop (d st pe))) rfl rfl F D hD1 (λst pe w' w'' A he=>he.trans A) G ?_
 ·obtain⟨I,r⟩:=Z;refine⟨w.heap.size+1,[ZM0 w.heap.size],w1,{target:= .fn (.func gf) lb,args:= #[.func (.yield (w.heap.size+1)) #[] #[]]},w1,gf,
   #[.func (.yield (w.heap.size+1)) #[] #[]]++lb,w1,?_,?_,λ_ _=>trivial,?_,λh=>(by cases h),?_⟩
  ·rw[<-q];exact run_enterLoop_outer _ _ _ _ _
  ·simp only[resolve,hs.eval,hg];simp[go_sem,ev]
  ·simp[invoke,go_sem,callFunc_run I]
  ·have e:(#[.func (.yield (w.heap.size+1)) #[] #[]]++lb:Array Value)=⟨.func (.yield (w.heap.size+1)) #[] #[]::lb.toList⟩:=by apply GC.1;simp
   rw[e];refine callsIn_wide.2 (Calls.mono r λe E he=>?_);cases e with
   |returned v=>
    obtain⟨st,pe,R,A,X⟩:=he;have u:=run_endLoop (P:=P) A (by exact R);have m:=X _ (Y1 E _ (.loop {d st pe with state:= .exhausted})) (by simp);have s:Sim [ZM0 w.heap.size] n f {a with defers:=[ZM0 w.heap.size]++a.defers}:=⟨hs.size,by rw[hs.defers];rfl,hs.at_⟩;refine⟨pe,_,u,?_⟩;cases pe with
    |none=>exact .inr ⟨_,f,s,m⟩
    |some c=>
     cases c<;>simp only[jmp] at m<;>try exact m.elim
     case exit i=>
      obtain⟨rfl,m⟩:=m;exact wpIn_exit (.inr ⟨_,f,s,m⟩)
     case ret=>exact wpIn_ret (.inr ⟨_,f,s,m⟩)
   |panicked c=>exact he.elim
   |outgrown=>exact he.elim
 ·intro args w' K hlen A W;have hy:=run_yield (P:=P) (args:=(⟨args⟩:Array Value)) A (by simpa[d] using hlen);refine⟨fn,_,asg,body,hy,roundIn_of_wpIn trivial ?_⟩;have C:=kV0 (n:=n) ps.toList f args a.tmps (by simpa using hlen) O hs.size hs.at_;have ez:((d .ready none).params.zip (⟨args⟩:Array Value)).foldl (λtmps (t,a)=>tmps.setIfInBounds t a) (d .ready none).tmps=(ps.toList.zip args).foldl (λt p=>t.setIfInBounds p.1 p.2) a.tmps:=by
   rw[<-Pv,Array.toList_zip]
  rw[ez];have V:=vc_sound (ro:=some (w.heap.size+1)) hm asg _ _ _ w' M W C (λl f w h=>h);refine wpIn_mono V ?_;rintro e a2 w2 ⟨f2,Q,_,y⟩;cases e<;>simp only[seqK] at y<;>try exact y.elim
  case normal=>
   obtain⟨B,y⟩:=y;refine⟨_,run_beginRound B rfl,?_⟩;have L:=Y4 B;have J:=y _ (Y1 w2 _ (.loop {d .ready none with state:= .busy})) (by simp) (World.putObj_heap_same L);refine wpIn_mono (vc_sound (ro:=some (w.heap.size+1)) hm body _ _ _ _ N J Q (λl f w h=>h)) ?_;rintro e a3 E ⟨f3,a0,_,j⟩;cases e<;>simp only[rndK] at j<;>try exact j.elim
   case normal=>
    obtain⟨k,o⟩:=j;exact⟨_,_,run_endRound none k,o _ (Y1 E _ _) (by simp) (World.putObj_heap_same (Y4 k))⟩
   case ret=>
    obtain⟨k,o⟩:=j;exact⟨_,_,run_endRound (some .ret) k,o _ (Y1 E _ _) (by simp) (World.putObj_heap_same (Y4 k))⟩
   case exit i=>
    cases hi:Nat.beq i x
    ·rw[hi] at j;exact j.elim
    ·rw[hi] at j;obtain rfl:=gu hi;obtain⟨k,o⟩:=j;exact⟨_,_,run_endRound (some (.exit i)) k,o _ (Y1 E _ _) (by simp) (World.putObj_heap_same (Y4 k))⟩
theorem jv0 (hm:P.follows .mixedOrders=true):∀(c:Code) (p:Exit->Fr->World->Prop) (q:Nat->Exit->Fr->World->Prop) (f:Fr) (a:Act) (w:World),okX n T c=true->vx T x c p q f w->Sim [] n f a->
  (∀l f w,¬p (.goto l) f w)->(∀D l f w,¬q D (.goto l) f w)->c.wpIn (FR none) 0 P (ks0 n p q) a w:=by
 intro c;induction c with
 |rangeFunc g ps asg body _ _=>intro p q f a w d h hs _ _;exact range_sound hm d h hs
 |seq y z ihy ihz=>
  intro p q f a w d h hs o s;refine wpIn_seq ?_;simp only[okX] at d;simp only[vx] at h;cases E:hasR y with
  |true=>
   rw[E] at d h;simp only[cond,gh] at d;simp only at h;refine wpIn_mono (ihy _ _ f a w d.1 h hs (λl f w h=>o l f w h) (λD l f w h=>s D l f w h)) ?_;rintro e r w' (⟨m,j,k⟩|⟨D,m,j,k⟩)
   ·cases e with
    |normal=>
     refine wpIn_mono (vc_sound hm z p m r w' d.2 k j o) ?_;rintro e A w'' ⟨u,t,_,v⟩;exact .inl ⟨u,t,v⟩
    |_=>exact .inl ⟨m,j,k⟩
   ·cases e with
    |normal=>
     refine wpIn_mono (vc_sound hm z (q D) m r w' d.2 k j (s D)) ?_;rintro e A w'' ⟨u,t,_,v⟩;exact .inr ⟨D,u,t,v⟩
    |_=>exact .inr ⟨D,m,j,k⟩
  |false=>
   rw[E] at d h;simp only[cond,gh] at d;simp only at h;refine wpIn_mono (vc_sound hm y _ f a w d.1 h hs (λl f w h=>o l f w h)) ?_;rintro e r w' ⟨m,j,_,k⟩;cases e with
   |normal=>exact ihz p q m r w' d.2 k j o s
   |_=>exact .inl ⟨m,j,k⟩
 |block id b F=>
  intro p q f a w d h hs o s;simp only[vx] at h;refine wpIn_block (wpIn_mono (F _ _ f a w d h hs (λl f w h=>o l f w h) (λD l f w h=>s D l f w h)) ?_);have key:∀(K:Exit->Fr->World->Prop) (e:Exit) (m:Fr) (w':World),blkK id K e m w'->∀(df:List Deferred) (r:Act),Sim df n m r->(∀e f w a,Sim df n f a->K e f w->ks0 n p q e a w)->Exit.inBlock id (ks0 n p q) e r w':=by
   intro K e m w' k df r j B;cases e with
   |exit i=>
    simp only[blkK] at k;cases hi:Nat.beq i id
    ·rw[hi] at k;have C:i≠id:=Nat.ne_of_beq_eq_false hi;simp only[Exit.inBlock,C,if_false];exact B _ _ _ _ j k
    ·rw[hi] at k;have:i=id:=gu hi;subst this;simp only[Exit.inBlock,if_true];exact B _ _ _ _ j k
   |_=>exact B _ _ _ _ j k
  rintro e r w' (⟨m,j,k⟩|⟨D,m,j,k⟩)
  ·exact key p e m w' k [] r j λe f w a hs h=> .inl ⟨f,hs,h⟩
  ·exact key (q D) e m w' k [ZM0 D] r j λe f w a hs h=> .inr ⟨D,f,hs,h⟩
 |_=>intro p q f a w d;exact absurd d (by simp[okX])
def yZ0 (D:Nat) (w:World) (k:World->Prop):Prop:=w.heap[D]?=some (.deferred (some []))/\∀w',Same (· =D) w w'->w'.heap.size=w.heap.size->k w'
def retM (rs:List ResultVar) (K:oK) (D:Nat) (e:Exit) (f:Fr) (w:World):Prop:=
 match e with
 | .normal=>yZ0 D w λw'=>Zl0 rs f w' K
 | .ret=>yZ0 D w λw'=>Zl0 rs f w' K
 |_=>False
theorem zH0 {g:Nat} {fn:Func} {c:Code} {args:List Value} {w:World} {K:oK} (hm:P.follows .mixedOrders=true) (r:P.funcs[g]?=some fn) (q:fn.body=some c)
  (t:fn.ntmps=n) (s:okFn g=true) (j:okX n T c=true) (hlen:Nat.ble args.length n=true)
  (h:vx T x c (retF fn.results.toList K) (retM fn.results.toList K) (nthV args) w):vcall g args.toArray w K:=by
 refine⟨s,callsIn_wide (n:=0).1 (callsIn_of_wp_marks r q trivial ?_)⟩;rw[t];refine wpIn_mono (jv0 (x:=x) hm c _ _ _ _ w j h (sim_enter args n (Gf hlen)) (λl f w h=>h) (λD l f w h=>h)) ?_;rintro e k w' (⟨m,a,b⟩|⟨D,m,a,b⟩)
 ·cases e with
  |normal=>obtain⟨v,d,i⟩:=vres_sound b a;rw[bodyPostM,a.defers];exact⟨v,d,i⟩
  |ret=>obtain⟨v,d,i⟩:=vres_sound b a;rw[bodyPostM,a.defers];exact⟨v,d,i⟩
  |_=>exact b.elim
 ·have fin:yZ0 D w' (λw'=>Zl0 fn.results.toList m w' K)->LeavesInM (FR none) 0 P fn k.tmps (retK K) k.defers .returning w':=by
   rintro⟨o,p⟩;rw[a.defers];obtain⟨v,d,i⟩:=vres_sound (p _ (Y1 w' D (.deferred none)) (by simp)) a;exact⟨by simp,.inl ⟨_,_,rfl,run_takeDeferred o,v,d,i⟩⟩
  cases e with
  |normal=>exact fin b
  |ret=>exact fin b
  |_=>exact b.elim
end
end
end Go.Vc
section
namespace Go.M
inductive Tm where
 |mk (op a b:Int) (s:ByteArray) (ks:List Tm)
namespace Tm
def op:Tm->Int|mk o _ _ _ _=>o
def a:Tm->Int|mk _ a _ _ _=>a
def b:Tm->Int|mk _ _ b _ _=>b
def s:Tm->ByteArray|mk _ _ _ s _=>s
def ks:Tm->List Tm|mk _ _ _ _ ks=>ks
theorem ind {p:Tm->Prop} (h:∀t,(∀k,k∈t.ks->p k)->p t):∀t,p t
 |mk o a b s ks=>h _ λk (c:k∈ks)=>by
   have:=List.sizeOf_lt_of_mem c;exact ind h k
decreasing_by
 grind
variable {α:Type}
mutual
def fold (f:Tm->List α->α):Tm->α
 |mk o a b s ks=>f (mk o a b s ks) (foldL f ks)
def foldL (f:Tm->List α->α):List Tm->List α
 |[]=>[]
 |k::r=>fold f k::foldL f r
end
theorem foldL_eq (f:Tm->List α->α) (ks:List Tm):foldL f ks=ks.map (fold f):=by
 induction ks with
 |nil=>simp only[foldL,Ps]
 |cons k r a=>simp only[foldL,a,Gz]
theorem fold_eq (f:Tm->List α->α) (t:Tm):fold f t=f t (t.ks.map (fold f)):=by
 cases t with
 |mk o a b s ks=>simp only[fold,foldL_eq];rfl
end Tm
def nada:ByteArray:=⟨#[]⟩
instance:Inhabited Tm:=⟨.mk 0 0 0 nada []⟩
def vok (w n:Int):Bool:=decide (1<=w)&&decide (w<=4)&&decide (0<=n)&&decide (n<2^w.toNat)
theorem vok_iff {w n:Int}:vok w n=true↔1<=w/\w<=4/\0<=n/\n<2^w.toNat:=by simp[vok,and_assoc]
theorem four {w:Int} (a:1<=w) (b:w<=4):w=1\/w=2\/w=3\/w=4:=oM
theorem vok_lt {w n:Int} (h:vok w n=true):1<=w/\w<=4/\0<=n/\n<16:=by
 obtain⟨a,b,c,d⟩:=vok_iff.1 h
 grind [four]
theorem small1 {p:Nat->Nat->Prop} [∀w n,Decidable (p w n)] (h:∀w:Fin 5,∀n:Fin 16,1<=w.1->n.1<2^w.1->p w n) {w n:Int} (a:vok w n=true):p w.toNat n.toNat:=by
 obtain⟨b,c,d,e⟩:=vok_lt a;obtain⟨_,_,_,f⟩:=vok_iff.1 a;refine h ⟨w.toNat,oM⟩ ⟨n.toNat,oM⟩ (by grind) ?_
 grind
def unM (op w a:Int):Int:=if op=1 then 2^w.toNat-1-a else(2^w.toNat-a)%2^w.toNat
def binN (op w a b:Nat):Nat:=
 if op=3 then a&&&b
 else if op=4 then a|||b
 else if op=5 then a^^^b
 else if op=6 then(a+b)%2^w
 else if op=7 then(a+2^w-b)%2^w
 else if op=8 then a*b%2^w
 else if op=9 then(if b=0 then 2^w-1 else a/b)
 else if op=10 then(if b=0 then a else a%b)
 else if op=11 then a*2^b%2^w
 else if op=12 then a/2^b
 else if a<2^(w-1) then a/2^b else 2^w-1-(2^w-1-a)/2^b
def binM (op w a b:Int):Int:=binN op.toNat w.toNat a.toNat b.toNat
def catM (v a b:Int):Int:=a*2^v.toNat+b
def sgn (w a:Int):Int:=if a<2^(w.toNat-1) then a else a-2^w.toNat
def cmpM (op w a b:Int):Bool:=if op=15 then decide (a=b) else if op=16 then decide (a<b) else decide (sgn w a<sgn w b)
def cutM (a hi lo:Int):Int:=a/2^lo.toNat%2^(hi-lo+1).toNat
theorem unM_ok {op w a:Int} (h:vok w a=true):vok w (unM op w a)=true:=by
 obtain⟨b,c,d,e⟩:=vok_iff.1 h;refine vok_iff.2 ⟨b,c,?_⟩;unfold unM;omega
def ZW0 (op w:Nat):Bool:=(List.range 16).all λa=>(List.range 16).all λb=> !(decide (a<2^w)&&decide (b<2^w))||decide (binN op w a b<2^w)
theorem binN_lt {op w a b:Nat} (f:3<=op) (h:op<=13) (hw:1<=w) (d:w<=4) (g:a<2^w) (i:b<2^w):binN op w a b<2^w:=by
 have c:∀o:Fin 14,∀v:Fin 5,3<=o.1->1<=v.1->ZW0 o v=true:=by decide+kernel
 have e:2^w<=2^4:=Ge oM d;have:=c ⟨op,oM⟩ ⟨w,oM⟩ f hw;simp only[ZW0,Gb,gP,Gr,gU,pf,decide_eq_false_iff_not,decide_eq_true_eq] at this
 grind
theorem binM_ok {op w a b:Int} (k:3<=op) (c:op<=13) (g:vok w a=true) (h:vok w b=true):vok w (binM op w a b)=true:=by
 obtain⟨i,j,l,m⟩:=vok_iff.1 g;obtain⟨_,_,d,f⟩:=vok_iff.1 h;have e:((2^w.toNat:Nat):Int)=2^w.toNat:=by simp
 have:=binN_lt (op:=op.toNat) (w:=w.toNat) (a:=a.toNat) (b:=b.toNat) oM oM oM oM oM oM
 grind [vok_iff,binM]
theorem cat_ok {v w a b:Int} (c:vok w a=true) (d:vok v b=true) (hs:w+v<=4):vok (w+v) (catM v a b)=true:=by
 obtain⟨e,f,g,h⟩:=vok_iff.1 c;obtain⟨i,j,k,l⟩:=vok_iff.1 d;refine vok_iff.2 ⟨oM,hs,?_⟩;unfold catM
 grind [four]
theorem cut_ok {w a hi lo:Int} (b:vok w a=true) (c:0<=lo) (h:lo<=hi) (hw:hi<w):vok (hi-lo+1) (cutM a hi lo)=true:=by
 obtain⟨d,e,f,g⟩:=vok_iff.1 b;refine vok_iff.2 ⟨oM,oM,?_⟩;unfold cutM;omega
def vecUn (op w n:Int):(Int×Int)×Bool:=if vok w n=true/\(op=1\/op=2) then((w,unM op w n),true) else((0,0),false)
def vecBin (op w n v m:Int):(Int×Int)×Bool:=
 if vok w n=true/\vok v m=true then
  if op=14 then(if w+v<=4 then((w+v,catM v n m),true) else((0,0),false))
  else if 3<=op/\op<=13/\w=v then((w,binM op w n m),true) else((0,0),false)
 else((0,0),false)
def vecCmp (op w n v m:Int):Bool×Bool:=
 if vok w n=true/\vok v m=true/\w=v/\15<=op/\op<=17 then(cmpM op w n m,true) else(false,false)
def vecCut (w n hi lo:Int):(Int×Int)×Bool:=if vok w n=true/\0<=lo/\lo<=hi/\hi<w then((hi-lo+1,cutM n hi lo),true) else((0,0),false)
theorem vok_nat {w n:Int} (h:vok w n=true):∃k a:Nat,w=k/\n=a/\1<=k/\k<=4/\a<2^k:=by
 obtain⟨b,c,d,e⟩:=vok_iff.1 h;refine⟨w.toNat,n.toNat,oM,oM,oM,oM,?_⟩
 grind
theorem unM_not {k a:Nat} (c:1<=k) (d:k<=4) (h:a<2^k):unM 1 k a=((18446744073709551615-a)%2^k:Nat):=by
 have b:∀v:Fin 5,∀x:Fin 16,1<=v.1->x.1<2^v.1->unM 1 v.1 x.1=((18446744073709551615-x.1)%2^v.1:Nat):=by decide+kernel
 have:2^k<=2^4:=Ge oM d;exact b ⟨k,oM⟩ ⟨a,oM⟩ c h
theorem unM_neg {k a:Nat} (c:1<=k) (d:k<=4) (h:a<2^k):unM 2 k a=((if a=0 then 0 else 18446744073709551616-a)%2^k:Nat):=by
 have b:∀v:Fin 5,∀x:Fin 16,1<=v.1->x.1<2^v.1->unM 2 v.1 x.1=((if x.1=0 then 0 else 18446744073709551616-x.1)%2^v.1:Nat):=by decide+kernel
 have:2^k<=2^4:=Ge oM d;exact b ⟨k,oM⟩ ⟨a,oM⟩ c h
theorem cat_or {k v a b:Nat} (d:v<=4) (f:k<=4) (i:a<2^k) (e:b<2^v):((a*2^v|||b:Nat):Int)=catM v a b:=by
 have c:∀v:Fin 5,∀x y:Fin 16,y.1<2^v.1->x.1*2^v.1|||y.1=x.1*2^v.1+y.1:=by decide+kernel
 have g:2^k<=2^4:=Ge oM f;have h:2^v<=2^4:=Ge oM d;have:=c ⟨v,oM⟩ ⟨a,oM⟩ ⟨b,oM⟩ e
 grind [catM]
end Go.M
end
namespace Go.M
open Go.Vc
abbrev Dcl:=ByteArray×Int
def findD (ds:List Dcl) (s:ByteArray):Int:=idxI ds.length λi=>decide ((ds.getD i (nada,0)).1=s)
def tru:ByteArray:=⟨#[116,114,117,101]⟩
def nameOk (s:ByteArray):Bool:=decide (1<=s.size)&&decide (s.size<=4)&&decide (s≠tru)&&s.data.all λc=>decide (97<=c.toNat)&&decide (c.toNat<=122)
def bits (ds:List Dcl):Int:=(ds.map (·.2)).sum
def dclOk (ds:List Dcl) (i:Nat):Bool:=nameOk (ds.getD i (nada,0)).1&&decide (1<=(ds.getD i (nada,0)).2)&&decide ((ds.getD i (nada,0)).2<=4)&&decide (findD (ds.take i) (ds.getD i (nada,0)).1<0)
def declOk (ds:List Dcl):Bool:=decide (ds.length<=4)&&((List.range ds.length).all λi=>dclOk ds i)&&decide (bits ds<=8)
def envOk (ds:List Dcl) (env:List Int):Bool:=declOk ds&&decide (env.length=ds.length)&&(List.range ds.length).all λi=>vok (ds.getD i (nada,0)).2 (env.getD i 0)
theorem findD_lt (ds:List Dcl) (s:ByteArray): -1<=findD ds s/\findD ds s<ds.length:=by
 grind [findD,idxI]
theorem findD_neg {ds:List Dcl} {s:ByteArray} (h:findD ds s<0) {j:Nat} (a:j<ds.length):(ds.getD j (nada,0)).1≠s:=by
 grind [findD,idxI]
theorem findD_get {ds:List Dcl} {s:ByteArray} (h:0<=findD ds s):(ds.getD (findD ds s).toNat (nada,0)).1=s:=by
 grind [findD,idxI]
theorem findD_of {ds:List Dcl} {s:ByteArray} {i:Nat} (hi:i<ds.length) (h:(ds.getD i (nada,0)).1=s) (b:∀j,j<i->(ds.getD j (nada,0)).1≠s):findD ds s=i:=
 idxI_some hi (by grind) λj a=>decide_eq_false (b j a)
theorem findD_none {ds:List Dcl} {s:ByteArray} (b:∀j,j<ds.length->(ds.getD j (nada,0)).1≠s):findD ds s= -1:=
 K8 λj a=>decide_eq_false (b j a)
theorem decl_iff {ds:List Dcl}:declOk ds=true↔ds.length<=4/\(∀i,i<ds.length->dclOk ds i=true)/\bits ds<=8:=by
 grind [declOk]
theorem take_getD {α:Type} {l:List α} {i j:Nat} {d:α} (h:j<i):(l.take i).getD j d=l.getD j d:=by
 grind
theorem dcl_apart {ds:List Dcl} (h:declOk ds=true) {i j:Nat} (hi:i<ds.length) (b:j<i):(ds.getD j (nada,0)).1≠(ds.getD i (nada,0)).1:=by
 have:=(decl_iff.1 h).2.1 i hi;simp only[dclOk,gh,decide_eq_true_eq] at this;have a:=findD_neg this.2 (j:=j) (by rw[gg];omega);rwa[take_getD b] at a
def bitT (ds:List Dcl) (i:Nat):Int:=((ds.take i).map (·.2)).sum
theorem bitT_succ {ds:List Dcl} {i:Nat} (h:i<ds.length):bitT ds (i+1)=bitT ds i+(ds.getD i (nada,0)).2:=by
 grind [bitT,List.take_add_one]
theorem bitT_all (ds:List Dcl):bitT ds ds.length=bits ds:=by unfold bitT bits;grind
theorem dcl_wide {ds:List Dcl} (h:declOk ds=true) {i:Nat} (hi:i<ds.length):1<=(ds.getD i (nada,0)).2/\(ds.getD i (nada,0)).2<=4:=by
 simp_all[declOk,dclOk]
theorem env_ok {ds:List Dcl} {env:List Int} (h:envOk ds env=true):declOk ds=true/\env.length=ds.length/\∀i,i<ds.length->vok (ds.getD i (nada,0)).2 (env.getD i 0)=true:=by
 grind [envOk]
def sizeM:Tm->Nat:=Tm.fold λ_ xs=>1+xs.sum
def deepM:Tm->Nat:=Tm.fold λ_ xs=>1+xs.foldl max 0
theorem sizeM_eq (t:Tm):sizeM t=1+(t.ks.map sizeM).sum:=Tm.fold_eq _ t
theorem Y7 (t:Tm):deepM t=1+(t.ks.map deepM).foldl max 0:=Tm.fold_eq _ t
def szT (ks:List Tm) (i:Nat):Nat:=((ks.take i).map sizeM).sum
def dpT (ks:List Tm) (i:Nat):Nat:=((ks.take i).map deepM).foldl max 0
theorem take_add {α:Type} {l:List α} {i:Nat} (h:i<l.length) (d:α):l.take (i+1)=l.take i++[l.getD i d]:=by
 simp_all
theorem szT_succ {ks:List Tm} {i:Nat} (h:i<ks.length):szT ks (i+1)=szT ks i+sizeM (ks.getD i default):=by
 grind [szT,take_add]
theorem dpT_succ {ks:List Tm} {i:Nat} (h:i<ks.length):dpT ks (i+1)=max (dpT ks i) (deepM (ks.getD i default)):=by
 grind [dpT,take_add]
theorem szT_all (t:Tm):sizeM t=1+szT t.ks t.ks.length:=by rw[sizeM_eq,szT,gx]
theorem dpT_all (t:Tm):deepM t=1+dpT t.ks t.ks.length:=by rw[Y7,dpT,gx]
theorem szT_mono {ks:List Tm} {i:Nat}:∀{j:Nat},i<=j->j<=ks.length->szT ks i<=szT ks j
 |0,h,_=>by
  grind
 |j+1,h,a=>by
  by_cases e:i=j+1
  ·grind
  ·have:=szT_mono (ks:=ks) (i:=i) (j:=j) oM oM;rw[szT_succ oM];omega
theorem dpT_mono {ks:List Tm} {i:Nat}:∀{j:Nat},i<=j->j<=ks.length->dpT ks i<=dpT ks j
 |0,h,_=>by
  grind
 |j+1,h,a=>by
  by_cases e:i=j+1
  ·grind
  ·have:=dpT_mono (ks:=ks) (i:=i) (j:=j) oM oM;rw[dpT_succ oM];omega
def fits (t:Tm):Bool:=decide (sizeM t<=20)&&decide (deepM t<=7)
theorem fits_iff {t:Tm}:fits t=true↔sizeM t<=20/\deepM t<=7:=by simp[fits]
def manyM (t:Tm):Nat:=if fits t then sizeM t else 21
def lvlM (t:Tm):Nat:=if fits t then deepM t else 8
def arity (o:Int):Int:=if o=20\/o=21\/o=24 then 0 else if o=1\/o=2\/o=22\/o=25 then 1 else if o=23 then 3 else if o=26\/o=27 then 2 else if 3<=o/\o<=17 then 2 else-1
def plainM (t:Tm):Bool:=(decide (t.op=20)||decide (t.op=22)||(decide (t.a=0)&&decide (t.b=0)))&&(decide (t.op=21)||decide (t.s=nada))
def sortK (ds:List Dcl) (t:Tm) (xs:List Int):Int:=
 if t.op=20 then(if vok t.a t.b then t.a else-1)
 else if t.op=21 then(if findD ds t.s<0 then-1 else(ds.getD (findD ds t.s).toNat (nada,0)).2)
 else if 24<=t.op then(if xs.any (λx=>decide (x≠0)) then-1 else 0)
 else if t.op=23 then(if xs.getD 0 0=0/\xs.getD 1 0=xs.getD 2 0 then xs.getD 1 0 else-1)
 else if t.op=22 then(if 0<=t.b/\t.b<=t.a/\t.a<xs.getD 0 0 then t.a-t.b+1 else-1)
 else if t.op<=2 then(if 0<xs.getD 0 0 then xs.getD 0 0 else-1)
 else if t.op=14 then(if 0<xs.getD 0 0/\0<xs.getD 1 0/\xs.getD 0 0+xs.getD 1 0<=4 then xs.getD 0 0+xs.getD 1 0 else-1)
 else if 15<=t.op then(if 0<xs.getD 0 0/\xs.getD 0 0=xs.getD 1 0 then 0 else-1)
 else(if 0<xs.getD 0 0/\xs.getD 0 0=xs.getD 1 0 then xs.getD 0 0 else-1)
def formed (t:Tm):Bool:=decide (arity t.op=t.ks.length)&&plainM t
def sortF (ds:List Dcl) (t:Tm) (xs:List Int):Int:=if formed t=true/\¬(-1∈xs) then sortK ds t xs else-1
def sortM (ds:List Dcl):Tm->Int:=Tm.fold (sortF ds)
theorem sortM_eq (ds:List Dcl) (t:Tm):sortM ds t=sortF ds t (t.ks.map (sortM ds)):=Tm.fold_eq _ t
theorem arity_ops {o:Int} (h:0<=arity o):(1<=o/\o<=17)\/(20<=o/\o<=27):=by
 grind [arity]
theorem getD_map {α β:Type} (f:α->β) {l:List α} {i:Nat} (h:i<l.length) (d:β) (e:α):(l.map f).getD i d=f (l.getD i e):=by
 grind
theorem getD_mem {α:Type} {l:List α} {i:Nat} (h:i<l.length) (d:α):l.getD i d∈l:=by
 grind
theorem sort_parts {ds:List Dcl} {t:Tm} (h:sortM ds t≠ -1):formed t=true/\(∀k,k∈t.ks->sortM ds k≠ -1)/\sortM ds t=sortK ds t (t.ks.map (sortM ds)):=by
 rw[sortM_eq] at h⊢
 grind [sortF]
theorem sort_range {ds:List Dcl} (c:declOk ds=true):∀t,-1<=sortM ds t/\sortM ds t<=4:=by
 refine Tm.ind λt k=>?_;rw[sortM_eq];unfold sortF;split
 ·rename_i j;have a:∀i,-1<=(t.ks.map (sortM ds)).getD i 0/\(t.ks.map (sortM ds)).getD i 0<=4:=(by grind);have f:=a 0;have g:=a 1;have h:=a 2;have b:=arity_ops (o:=t.op) (by
   grind [formed])
  unfold sortK;split
  ·split
   ·rename_i e;have:=vok_lt e;omega
   ·omega
  ·split
   ·have d:=findD_lt ds t.s;split
    ·omega
    ·have:=dcl_wide c (i:=(findD ds t.s).toNat) oM;omega
   omega
 ·omega
def tsort (ds:List Dcl) (t:Tm):Int:=if fits t=true/\declOk ds=true then sortM ds t else-1
def b2i (b:Bool):Int:=if b then 1 else 0
def valK (ds:List Dcl) (env:List Int) (t:Tm) (xs:List (Int×Int)):Int:=
 if t.op=20 then t.b
 else if t.op=21 then env.getD (findD ds t.s).toNat 0
 else if t.op=24 then 1
 else if t.op=25 then b2i (decide ((xs.getD 0 (0,0)).2=0))
 else if t.op=26 then b2i (decide ((xs.getD 0 (0,0)).2=1)&&decide ((xs.getD 1 (0,0)).2=1))
 else if t.op=27 then b2i (decide ((xs.getD 0 (0,0)).2=1)||decide ((xs.getD 1 (0,0)).2=1))
 else if t.op=23 then(if(xs.getD 0 (0,0)).2=1 then(xs.getD 1 (0,0)).2 else(xs.getD 2 (0,0)).2)
 else if t.op=22 then cutM (xs.getD 0 (0,0)).2 t.a t.b
 else if t.op<=2 then unM t.op (xs.getD 0 (0,0)).1 (xs.getD 0 (0,0)).2
 else if t.op=14 then catM (xs.getD 1 (0,0)).1 (xs.getD 0 (0,0)).2 (xs.getD 1 (0,0)).2
 else if 15<=t.op then b2i (cmpM t.op (xs.getD 0 (0,0)).1 (xs.getD 0 (0,0)).2 (xs.getD 1 (0,0)).2)
 else binM t.op (xs.getD 0 (0,0)).1 (xs.getD 0 (0,0)).2 (xs.getD 1 (0,0)).2
def vecF (ds:List Dcl) (env:List Int) (t:Tm) (xs:List (Int×Int)):Int×Int:=(sortF ds t (xs.map (·.1)),valK ds env t xs)
def vecM (ds:List Dcl) (env:List Int):Tm->Int×Int:=Tm.fold (vecF ds env)
def evalM (ds:List Dcl) (env:List Int) (t:Tm):Int:=(vecM ds env t).2
theorem xY0 (ds:List Dcl) (env:List Int) (t:Tm):vecM ds env t=vecF ds env t (t.ks.map (vecM ds env)):=Tm.fold_eq _ t
theorem vecM_sort (ds:List Dcl) (env:List Int):∀t,(vecM ds env t).1=sortM ds t:=by
 refine Tm.ind λt a=>?_;rw[xY0,sortM_eq];show sortF ds t _=_
 grind [List.map_congr_left]
theorem vecM_pair (ds:List Dcl) (env:List Int) (t:Tm):vecM ds env t=(sortM ds t,evalM ds env t):=by rw[<-vecM_sort ds env t];rfl
theorem evalM_eq (ds:List Dcl) (env:List Int) (t:Tm):evalM ds env t=valK ds env t (t.ks.map (vecM ds env)):=by
 unfold evalM;rw[xY0];rfl
def inS (w n:Int):Prop:=(w=0/\(n=0\/n=1))\/vok w n=true
theorem k10 {b:Bool}:inS 0 (b2i b):=by left;cases b<;>simp[b2i]
theorem inS_zero {n:Int} (h:inS 0 n):n=0\/n=1:=by
 rcases h with h|h
 ·exact h.2
 ·exact absurd (vok_lt h).1 oM
theorem inS_pos {w n:Int} (h:inS w n) (hw:0<w):vok w n=true:=by
 rcases h with h|h
 ·omega
 ·exact h
theorem eval_in {ds:List Dcl} {env:List Int} (he:envOk ds env=true):∀t,sortM ds t≠ -1->inS (sortM ds t) (evalM ds env t):=by
 obtain⟨A,C,D⟩:=env_ok he;refine Tm.ind λt E h=>?_;obtain⟨r,B,hs⟩:=sort_parts h;rw[hs] at h;rw[hs,evalM_eq];simp only[formed,gh,decide_eq_true_eq] at r;obtain⟨x,z⟩:=r;have u:=arity_ops (o:=t.op) oM;have k:∀i,i<t.ks.length->(t.ks.map (sortM ds)).getD i 0=sortM ds (t.ks.getD i default):=by grind
 have l:∀i,i<t.ks.length->(t.ks.map (vecM ds env)).getD i (0,0)=(sortM ds (t.ks.getD i default),evalM ds env (t.ks.getD i default)):=by grind [getD_map,default,vecM_pair]
 have b:∀i,i<t.ks.length->inS (sortM ds (t.ks.getD i default)) (evalM ds env (t.ks.getD i default)):=by grind
 unfold sortK at h⊢;unfold valK;by_cases d:t.op=20
 ·simp only[d,if_true] at h⊢;split
  ·right;assumption
  grind
 simp only[if_neg d] at h⊢;by_cases f:t.op=21
 ·simp only[f,if_true] at h⊢;have y:=findD_lt ds t.s;split
  ·omega
  ·right;grind
 simp only[if_neg f] at h⊢;by_cases j:24<=t.op
 ·simp only[if_pos j] at h⊢;split
  ·grind
  ·rcases(by omega:t.op=24\/t.op=25\/t.op=26\/t.op=27) with e|e|e|e
   ·left;simp[e]
   ·simp only[e];exact k10
   ·simp only[e];exact k10
   ·simp only[e];exact k10
 simp only[if_neg j,if_neg (show¬t.op=24 by omega),if_neg (show¬t.op=25 by omega),if_neg (show¬t.op=26 by omega),if_neg (show¬t.op=27 by omega)] at h⊢;by_cases n:t.op=23
 ·grind [arity]
 simp only[if_neg n] at h⊢;by_cases g:t.op=22
 ·simp only[g,if_true] at h⊢;have q:t.ks.length=1:=(by grind [arity]);rw[k 0 oM] at h⊢;rw[l 0 oM];split
  ·rename_i a;right;exact cut_ok (inS_pos (b 0 oM) oM) a.1 a.2.1 a.2.2
  omega
 simp only[if_neg g] at h⊢;by_cases p:t.op<=2
 ·simp only[if_pos p] at h⊢;have q:t.ks.length=1:=by
   grind [arity]
  rw[k 0 oM] at h⊢;rw[l 0 oM];split
  ·rename_i a;right
   grind [unM_ok,inS_pos]
  omega
 simp only[if_neg p] at h⊢;have q:t.ks.length=2:=by
  grind [arity]
 have v:=k 0 oM;have w:=k 1 oM;rw[v,w] at h⊢;rw[l 0 oM,l 1 oM];have i0:=b 0 oM;have i1:=b 1 oM;by_cases c:t.op=14
 ·simp only[c,if_true] at h⊢;split
  ·rename_i a;right;exact cat_ok (inS_pos i0 a.1) (inS_pos i1 a.2.1) a.2.2
  omega
 simp only[if_neg c] at h⊢;by_cases m:15<=t.op
 ·grind [k10]
 simp only[if_neg m] at h⊢;split
 ·rename_i a;right
  grind [binM_ok,inS_pos]
 omega
end Go.M
namespace Go.Vc
open Go Go.M
section
section
variable {F F' S:Nat->Prop} {w w':World} {K:oK} {k:Nat} {v:Value} {xs:List (List Value)}
theorem Sl.ldAgg (h:Sl F w k v xs) {t:TypeId} (b:aggB t k=true) {i:Nat} (hi:i<xs.length):zt t (.pointer (some (eaddr v k i))) w K=K (.agg ⟨xs.getD i []⟩) w:=by
 have a:(xs.getD i []).length=k:=h.wide _ (M.getD_mem hi _);exact Xf (by rw[a];exact b) (Sl.cells h hi)
theorem Sl.ldField (h:Sl F w k v xs) {t:TypeId} (a:oneB t=true) {i j:Nat} {x:Value} (hi:i<xs.length) (b:(xs.getD i [])[j]?=some x):zt t (.pointer (some ((eaddr v k i).add j))) w K=K x w:=
 y2 a (Sl.cells h hi j x b)
theorem Sl.small (h:Sl F w k v xs):xs.length<=9223372036854775807:=by
 obtain⟨_,_,_,a,b,_⟩:=h.shape;omega
end
inductive TmR (F:Nat->Prop) (w:World):List Value->Tm->Prop
 |mk {o a b:Int} {s:ByteArray} {ks:List Tm} {kv:Value} {css:List (List Value)}:Sl F w 5 kv css->css.length=ks.length->(∀i,i<ks.length->TmR F w (css.getD i []) (ks.getD i default))->
  TmR F w [nI o,nI a,nI b,.string s,kv] (.mk o a b s ks)
def TmsR (F:Nat->Prop) (w:World) (kv:Value) (ks:List Tm):Prop:= ∃css:List (List Value),Sl F w 5 kv css/\css.length=ks.length/\∀i,i<ks.length->TmR F w (css.getD i []) (ks.getD i default)
def TermR (F:Nat->Prop) (w:World) (v:Value) (t:Tm):Prop:= ∃kv,v= .agg ⟨[nI t.op,nI t.a,nI t.b,.string t.s,kv]⟩/\TmsR F w kv t.ks
def DclsR (F:Nat->Prop) (w:World) (v:Value) (ds:List Dcl):Prop:=Sl F w 2 v (ds.map λd=>[.string d.1,nI d.2])
section
variable {F F' S:Nat->Prop} {w w':World} {K:oK} {v:Value} {cs:List Value} {t:Tm} {ks:List Tm} {ds:List Dcl}
theorem TmR.same (h:TmR F w cs t) (hw:Same S w w') (hs:∀b,F b->b<w.heap.size->¬S b):TmR F w' cs t:=by
 induction h with
 |mk a c e d=>exact .mk (a.same hw hs) c d
theorem TmR.ext (h:TmR F w cs t) (hw:Ext w w'):TmR F w' cs t:=h.same hw λ_ _ _ h=>h
theorem TmR.weaken (h:TmR F w cs t) (d:∀b,F b->b<w.heap.size->F' b):TmR F' w cs t:=by
 induction h with
 |mk a c f e=>exact .mk (a.weaken d) c e
theorem TmR.inv (h:TmR F w cs t):∃kv,cs=[nI t.op,nI t.a,nI t.b,.string t.s,kv]/\TmsR F w kv t.ks:=by
 cases h with
 |mk c d e=>exact⟨_,rfl,_,c,d,e⟩
theorem TmR.of {kv:Value} (h:TmsR F w kv t.ks):TmR F w [nI t.op,nI t.a,nI t.b,.string t.s,kv] t:=by
 obtain⟨css,c,d,e⟩:=h;cases t with
 |mk o a b s ks=>exact .mk c d e
theorem TmR.term (h:TmR F w cs t):TermR F w (.agg ⟨cs⟩) t:=by
 obtain⟨kv,rfl,a⟩:=h.inv;exact⟨kv,rfl,a⟩
theorem TermR.cells (h:TermR F w v t):∃cs,v= .agg ⟨cs⟩/\TmR F w cs t:=by
 obtain⟨kv,rfl,a⟩:=h;exact⟨_,rfl,TmR.of a⟩
theorem TmsR.same (h:TmsR F w v ks) (hw:Same S w w') (hs:∀b,F b->b<w.heap.size->¬S b):TmsR F w' v ks:=by
 obtain⟨css,a,c,d⟩:=h;exact⟨css,a.same hw hs,c,λi hi=>(d i hi).same hw hs⟩
theorem TmsR.ext (h:TmsR F w v ks) (hw:Ext w w'):TmsR F w' v ks:=h.same hw λ_ _ _ h=>h
theorem TmsR.weaken (h:TmsR F w v ks) (a:∀b,F b->b<w.heap.size->F' b):TmsR F' w v ks:=by
 obtain⟨css,c,d,e⟩:=h;exact⟨css,c.weaken a,d,λi hi=>(e i hi).weaken a⟩
theorem TermR.same (h:TermR F w v t) (hw:Same S w w') (hs:∀b,F b->b<w.heap.size->¬S b):TermR F w' v t:=by
 obtain⟨kv,a,c⟩:=h;exact⟨kv,a,c.same hw hs⟩
theorem TermR.ext (h:TermR F w v t) (hw:Ext w w'):TermR F w' v t:=h.same hw λ_ _ _ h=>h
theorem TermR.weaken (h:TermR F w v t) (d:∀b,F b->b<w.heap.size->F' b):TermR F' w v t:=by
 obtain⟨kv,a,c⟩:=h;exact⟨kv,a,c.weaken d⟩
theorem TmsR.small (h:TmsR F w v ks):ks.length<=9223372036854775807:=by
 obtain⟨css,a,b,c⟩:=h;rw[<-b];exact a.small
theorem TmsR.len (h:TmsR F w v ks) {t:TypeId} (c:isSl t=true) (ty:TypeId):vbi .len [t] ty [v] w' K=K (nI ks.length) w':=by
 obtain⟨css,a,b,d⟩:=h;have:=Sl.len (K:=K) (w':=w') a c ty;rwa[b] at this
theorem TmsR.iaddr (h:TmsR F w v ks) {t:TypeId} (e:elB t 5=true) {kd:IntKind} {i:Int} (b:0<=i) (c:i<ks.length):
  zX t v (.int kd i) w' K=K (.pointer (some (eaddr v 5 i.toNat))) w':=by
 obtain⟨css,a,d,f⟩:=h;exact Sl.iaddr a e b (by rw[d];exact c)
theorem TmsR.load (h:TmsR F w v ks) {t:TypeId} (d:aggB t 5=true) {i:Nat} (hi:i<ks.length) (c:∀x,TermR F w x (ks.getD i default)->K x w):zt t (.pointer (some (eaddr v 5 i))) w K:=by
 obtain⟨css,a,e,b⟩:=h;rw[a.ldAgg d oM];exact c _ (b i hi).term
theorem TmsR.nil:TmsR F w (.slice none 0 0) []:=⟨[],⟨⟨none,0,rfl,by simp,by simp,by simp⟩,by simp⟩,rfl,by simp⟩
theorem DclsR.same (h:DclsR F w v ds) (hw:Same S w w') (hs:∀b,F b->b<w.heap.size->¬S b):DclsR F w' v ds:=Sl.same h hw hs
theorem DclsR.ext (h:DclsR F w v ds) (hw:Ext w w'):DclsR F w' v ds:=Sl.ext h hw
theorem DclsR.weaken (h:DclsR F w v ds) (a:∀b,F b->b<w.heap.size->F' b):DclsR F' w v ds:=Sl.weaken h a
theorem DclsR.len (h:DclsR F w v ds) {t:TypeId} (a:isSl t=true) (ty:TypeId):vbi .len [t] ty [v] w' K=K (nI ds.length) w':=by
 have:=Sl.len (K:=K) (w':=w') h a ty;rwa[X0] at this
theorem DclsR.iaddr (h:DclsR F w v ds) {t:TypeId} (c:elB t 2=true) {kd:IntKind} {i:Int} (a:0<=i) (b:i<ds.length):
  zX t v (.int kd i) w' K=K (.pointer (some (eaddr v 2 i.toNat))) w':=Sl.iaddr h c a (by rw[X0];exact b)
theorem Jj {i:Nat} (hi:i<ds.length):(ds.map λd=>[Value.string d.1,nI d.2]).getD i []=[.string (ds.getD i (nada,0)).1,nI (ds.getD i (nada,0)).2]:=M.getD_map _ hi _ _
theorem DclsR.load (h:DclsR F w v ds) {t:TypeId} (a:aggB t 2=true) {i:Nat} (hi:i<ds.length):zt t (.pointer (some (eaddr v 2 i))) w K=K (.agg ⟨[.string (ds.getD i (nada,0)).1,nI (ds.getD i (nada,0)).2]⟩) w:=by
 rw[Sl.ldAgg h a (by rw[X0];exact hi),Jj hi]
theorem DclsR.load0 (h:DclsR F w v ds) {t:TypeId} (a:oneB t=true) {i:Nat} (hi:i<ds.length):zt t (.pointer (some ((eaddr v 2 i).add 0))) w K=K (.string (ds.getD i (nada,0)).1) w:=
 Sl.ldField h a (by rw[X0];exact hi) (by rw[Jj hi];rfl)
theorem DclsR.load1 (h:DclsR F w v ds) {t:TypeId} (a:oneB t=true) {i:Nat} (hi:i<ds.length):zt t (.pointer (some ((eaddr v 2 i).add 1))) w K=K (nI (ds.getD i (nada,0)).2) w:=
 Sl.ldField h a (by rw[X0];exact hi) (by rw[Jj hi];rfl)
theorem DclsR.small (h:DclsR F w v ds):ds.length<=9223372036854775807:=by have:=Sl.small h;simpa using this
theorem Sl.base {k:Nat} {xs:List (List Value)} (h:Sl F w k v xs) (f:xs≠[]):∀a l c,v= .slice (some a) l c->∃b o,a=⟨b,o,none⟩:=by
 intro a l c e;obtain⟨i,c',rfl,_,_,g⟩:=h.shape;obtain⟨b,o,rfl,_⟩:=g f
 injection e with d j m
 injection d with d
 exact⟨b,o,d.symm⟩
theorem Sl.taken {k:Nat} {xs:List (List Value)} (h:Sl F w k v xs) {n:Nat} (t:n<=xs.length):Sl F w k (cutV v n) (xs.take n):=by
 obtain⟨a,c,rfl,s,m,q⟩:=h.shape;have l:(xs.take n).length=n:=by rw[gg];omega
 refine⟨⟨a,c,by rw[l];rfl,oM,m,λj=>?_⟩,λx r=>h.wide x (gQ r)⟩;have f:xs≠[]:=λe=>j (by rw[e,List.take_nil]);obtain⟨b,o,e,p,g,d⟩:=q f;refine⟨b,o,e,p,g,λi hi=>?_⟩;rw[l] at hi;rw[M.take_getD hi];exact d i oM
theorem DclsR.cut (h:DclsR F w v ds) (a:ds≠[]) {t:TypeId} (c:elB t 2=true) {kd:IntKind} {n:Nat} (b:n<=ds.length):xk t v none (some (.int kd n)) none w' K=K (cutV v n) w':=
 Sl.cut h (Sl.base h (by simpa using a)) c (by rw[X0];exact b)
theorem DclsR.taken (h:DclsR F w v ds) {n:Nat} (a:n<=ds.length):DclsR F w (cutV v n) (ds.take n):=by
 unfold DclsR;rw[GB];exact Sl.taken h (by rw[X0];exact a)
theorem Blk.sl1k {b k:Nat} {cs:List Value} {e:TypeId} (h:Blk w b cs e) (d:cs.length=k):Sl (· =b) w k (.slice (some ⟨b,0,none⟩) 1 1) [cs]:=by
 refine⟨⟨_,1,rfl,gy _,dC,λ_=>⟨b,0,rfl,rfl,h.lt,λi hi j v c=>?_⟩⟩,by simp[d]⟩;have a:i=0:=by simpa using hi
 subst a;rw[yn];simp only[PN,gO,GO];exact h.cell c
theorem Own.app1k {bs ty b k:Nat} {t e:TypeId} {xs:List (List Value)} {y:List Value} (h:Own 0 k t w v xs) (g:elZ t k bs=true) (j:0<k) (i:Blk w b y e) (l:y.length=k) (a:∀c,c∈y->c.oneCell'=true)
  (d:xs.length<9223372036854775807) (hlen:(xs.length+1)*bs<=140737488355328)
  (f:∀v' w',Own 0 k t w' v' (xs++[y])->Same (λb=>v.ownBlock=some b) w w'->(∀b,v'.ownBlock=some b->v.ownBlock=some b\/w.heap.size<=b)->K v' w'):vbi .append [t,t] ty [v,.slice (some ⟨b,0,none⟩) 1 1] w K:=
 vappend (F:=(· =b)) g j h (i.sl1k l) (by simpa using a) oM (by rw[gX];omega) (by simpa using hlen) f
theorem qz {t e k:Nat} {z x:Value} {y:List Value} (hu:P.underlying t=some (.slice e)) (l:xV e k=true) (hzero:yl e z) (i:x.cells=⟨y⟩) (j:y.length=k) (h:k<=16777216)
  (g:∀b w',b=w.heap.size->Ext w w'->w'.heap.size=w.heap.size+1->Blk w' b y e->K (.slice (some ⟨b,0,none⟩) 1 1) w'):vbuildS t 1 [(0,x)] w K:=by
 refine vbuildS_row (xs:=[x]) (us:=[y]) hu l hzero (by simp[i]) (by simp[j]) (by simpa using h) λb w' a c d f=>g b w' a c d (by simpa using f)
theorem Blk.ownk {b k n:Nat} {t:TypeId} {css:List (List Value)} (h:Blk w b css.flatten (Yz t)) (hw:∀x,x∈css->x.length=k) (c:n=css.length) (hm:n<=9223372036854775807):Own 0 k t w (.slice (some ⟨b,0,none⟩) n n) css:=by
 subst c;have a:=flatten_len hw;refine⟨⟨by rw[a],.inr ⟨b,css.length,⟨css.flatten⟩,by simp,gJ _,h,gy _,by simpa[maxLen] using hm,by simpa using a,?_⟩⟩,hw⟩;show List.take (css.length*k) css.flatten=css.flatten;rw[<-a,gx]
theorem flatten_set {k:Nat}:∀{xs:List (List Value)} (_:∀x,x∈xs->x.length=k) {i j:Nat} (u:Value),i<xs.length->j<k->xs.flatten.set (i*k+j) u=(xs.set i ((xs.getD i []).set j u)).flatten
 |[],_,i,j,u,hi,_=>by simp at hi
 |x::r,h,i,j,u,hi,a=>by
  have c:=h x gj;cases i with
  |zero=>
   rw[PN,gO];simp only[GJ,pa,pO];rw[List.set_append_left _ _ oM]
  |succ i=>
   simp only[GJ,Pu,pr];rw[pD _ _ (by rw[GX];omega)];congr 1;have e:(i+1)*k+j-x.length=i*k+j:=by rw[GX];omega
   rw[e,flatten_set (λy b=>h y (gl _ b)) u (by simpa using hi) a]
theorem Own.stCell {k:Nat} {t e:TypeId} {xs:List (List Value)} {x:Value} (h:Own 0 k t w v xs) (E:x.cells= #[x]) (o:x.oneCell'=true) (G:xV e 1=true) {i j:Nat} (hi:i<xs.length) (C:j<k)
  (p:∀w',Own 0 k t w' v (xs.set i ((xs.getD i []).set j x))->Same (λb=>v.ownBlock=some b) w w'->w'.heap.size=w.heap.size->K undef w'):zT e (.pointer (some ((eaddr v k i).add j))) x w K:=by
 rcases h.row.2 with⟨rfl,I⟩|⟨g,cap,cur,rfl,s,H,D,z,A,n⟩
 ·omega
 ·have a:=h.row;have d:i*k+j<xs.length*k:=by
   have:i*k+k<=xs.length*k:=by rw[<-Nat.succ_mul];exact pK _ hi
   omega
  have u:=World.ownsRow.cellAt a (i*k+j) d;have B:=World.ownsRow.frozenAt a (i*k+j);obtain⟨l,m⟩:=World.ownsRow.stored a (i*k+j) x;have f:(xs.getD i []).length=k:=h.wide _ (M.getD_mem hi _);have c:w.cell? ⟨g,i*k+j,none⟩=some (xs.flatten.getD (i*k+j) undef):=by
   rw[u];have:i*k+j<xs.flatten.length:=by rw[flatten_len h.wide];exact d
   rw[q0,gi this];rfl
  have r:(⟨g,i*k+j,none⟩:Addr).add 0=⟨g,i*k+j,none⟩:=rfl;have he:(eaddr (.slice (some ⟨g,0,none⟩) xs.length cap) k i).add j=⟨g,i*k+j,none⟩:=by
   simp only[eaddr];rw[yn];simp
  rw[he];refine⟨(),w.setCell ⟨g,i*k+j,none⟩ x,?_,p _ ?_ (Same.of_grown m) (by simp)⟩
  ·simp only[Instr.storeAt,Instr.sureAddr,Sem.run_bind,Sem.run_pure,Result.andThen_ok,storeVar,run_sizeOf G,E];cases x<;>first|(cases o;done)|simp[storeCells,store,Sem.run,r,c,B]
  ·refine⟨?_,λy F=>?_⟩
   ·rw[<-flatten_set h.wide x hi C];simpa using l
   ·obtain⟨q,J,rfl⟩:=gr F;rw[G8];split
    ·rw[G5];exact f
    ·exact h.wide _ (GD _)
def PairsR (F:Nat->Prop) (w:World) (v:Value) (xs:List (Int×Int)):Prop:=Sl F w 2 v (xs.map λx=>[nI x.1,nI x.2])
def OwnP (t:TypeId) (w:World) (v:Value) (xs:List (Int×Int)):Prop:=Own 0 2 t w v (xs.map λx=>[nI x.1,nI x.2])
variable {xs:List (Int×Int)}
theorem PairsR.ext (h:PairsR F w v xs) (hw:Ext w w'):PairsR F w' v xs:=Sl.ext h hw
theorem PairsR.iaddr (h:PairsR F w v xs) {t:TypeId} (c:elB t 2=true) {kd:IntKind} {i:Int} (a:0<=i) (b:i<xs.length):
  zX t v (.int kd i) w' K=K (.pointer (some (eaddr v 2 i.toNat))) w':=Sl.iaddr h c a (by rw[X0];exact b)
theorem PairsR.load (h:PairsR F w v xs) {t:TypeId} (a:aggB t 2=true) {i:Nat} (hi:i<xs.length):zt t (.pointer (some (eaddr v 2 i))) w K=K (.agg ⟨[nI (xs.getD i (0,0)).1,nI (xs.getD i (0,0)).2]⟩) w:=by
 rw[Sl.ldAgg h a (by rw[X0];exact hi),M.getD_map _ hi _ (0,0)]
theorem PairsR.load1 (h:PairsR F w v xs) {t:TypeId} (a:oneB t=true) {i:Nat} (hi:i<xs.length):zt t (.pointer (some ((eaddr v 2 i).add 1))) w K=K (nI (xs.getD i (0,0)).2) w:=
 Sl.ldField h a (by rw[X0];exact hi) (by rw[M.getD_map _ hi _ (0,0)];rfl)
theorem OwnP.pairs {t:TypeId} (h:OwnP t w v xs):PairsR (λb=>v.ownBlock=some b) w v xs:=Own.sl h
theorem OwnP.ext {t:TypeId} (h:OwnP t w v xs) (hw:Ext w w'):OwnP t w' v xs:=Own.ext h hw
theorem OwnP.nil (t:TypeId):OwnP t w (.slice none 0 0) []:=Own.nil 0 2 t w
end
end
end Go.Vc
namespace Go.Proofs.YtolbhkcajhlllaaGreatDoor
open Go Go.Vc Go.Proofs
theorem mixed:P.follows .mixedOrders=true:=rK
abbrev Xp:Nat:=5
abbrev zk0:Nat:=8
abbrev zq0:Nat:=11
abbrev QS:Nat:=25
abbrev WC:Nat:=26
abbrev JX:Nat:=27
abbrev UN:Nat:=29
abbrev KB:Nat:=30
abbrev WF:Nat:=32
abbrev W4:Nat:=37
abbrev KQ:Nat:=38
abbrev JU:Nat:=39
abbrev JP:Nat:=40
abbrev QM:Nat:=41
abbrev Xw:Nat:=42
abbrev WA:Nat:=43
abbrev JI:Nat:=44
abbrev UM:Nat:=45
abbrev KC:Nat:=46
abbrev JF:Nat:=47
abbrev WE:Nat:=48
abbrev qa:Nat:=49
abbrev KO:Nat:=51
abbrev xI:Nat:=52
abbrev W2:Nat:=53
abbrev qh:Nat:=54
abbrev Wo:Nat:=55
abbrev YC:Nat:=56
abbrev Wu:Nat:=57
abbrev JW:Nat:=58
abbrev WM:Nat:=59
abbrev jC:Nat:=60
abbrev V3:Nat:=61
abbrev KZ:Nat:=62
abbrev KY:Nat:=63
abbrev KX:Nat:=64
abbrev Qe:Nat:=65
abbrev Wp:Nat:=66
abbrev Wq:Nat:=67
abbrev JK:Nat:=68
abbrev Wn:Nat:=69
abbrev W6:Nat:=70
abbrev y80:Nat:=71
abbrev UY:Nat:=72
abbrev Wl:Nat:=73
abbrev z30:Nat:=74
abbrev Wd:Nat:=75
abbrev JL:Nat:=76
abbrev jO:Nat:=77
abbrev jh:Nat:=78
abbrev qA:Nat:=79
abbrev qV:Nat:=80
abbrev ze0:Nat:=83
abbrev Z1:Nat:=84
abbrev YD:Nat:=85
abbrev jK:Nat:=86
abbrev zm0:Nat:=87
abbrev KA:Nat:=88
abbrev xK:Nat:=89
abbrev qj0:Nat:=90
abbrev QK:Nat:=91
abbrev YU:Nat:=92
abbrev zf0:Nat:=93
abbrev KN:Nat:=94
abbrev zj0:Nat:=95
abbrev zc0:Nat:=96
abbrev Ws:Nat:=97
abbrev W5:Nat:=98
abbrev KD:Nat:=99
abbrev y90:Nat:=100
abbrev UT:Nat:=101
abbrev UU:Nat:=102
abbrev Wc:Nat:=103
abbrev z90:Nat:=104
abbrev yb0:Nat:=105
abbrev Wt:Nat:=106
abbrev JR:Nat:=107
abbrev qk0:Nat:=108
abbrev xd0:Nat:=109
abbrev JY:Nat:=110
abbrev Xt:Nat:=111
abbrev WI:Nat:=112
abbrev Wv:Nat:=113
abbrev Zu:Nat:=114
abbrev xY:Nat:=122
abbrev jR:Nat:=123
abbrev qP:Nat:=124
abbrev jo:Nat:=125
abbrev jp:Nat:=126
abbrev jQ:Nat:=127
abbrev jc:Nat:=128
abbrev jq:Nat:=129
abbrev KP:Nat:=130
abbrev UL:Nat:=131
abbrev W3:Nat:=132
abbrev W7:Nat:=133
abbrev UV:Nat:=134
abbrev ya0:Nat:=135
abbrev UR:Nat:=136
abbrev UW:Nat:=137
abbrev Wb:Nat:=138
abbrev W8:Nat:=139
abbrev W9:Nat:=140
abbrev UQ:Nat:=141
abbrev US:Nat:=142
abbrev KE:Nat:=143
abbrev KF:Nat:=144
abbrev za0:Nat:=145
abbrev Wr:Nat:=146
abbrev Wm:Nat:=147
abbrev KK:Nat:=148
abbrev z80:Nat:=149
abbrev Wi:Nat:=150
abbrev KH:Nat:=151
abbrev yc0:Nat:=152
abbrev xJ:Nat:=153
abbrev xe0:Nat:=154
abbrev Qd:Nat:=155
abbrev X1:Nat:=156
abbrev kj:Nat:=157
abbrev KU:Nat:=159
abbrev JO:Nat:=160
abbrev Xu:Nat:=161
abbrev WG:Nat:=162
abbrev Z5:Nat:=163
abbrev zl0:Nat:=168
abbrev QY:Nat:=169
abbrev JQ:Nat:=170
abbrev Xv:Nat:=171
abbrev kE:Nat:=172
abbrev qi0:Nat:=173
abbrev WH:Nat:=174
abbrev JV:Nat:=175
abbrev zn0:Nat:=176
abbrev zg0:Nat:=177
abbrev UZ:Nat:=178
abbrev UP:Nat:=179
abbrev UO:Nat:=180
abbrev Wa:Nat:=181
abbrev QR:Nat:=182
abbrev ye0:Nat:=183
abbrev KL:Nat:=184
abbrev yd0:Nat:=185
abbrev JJ:Nat:=186
abbrev KM:Nat:=187
abbrev KJ:Nat:=188
abbrev Wf:Nat:=189
abbrev JG:Nat:=190
abbrev z00:Nat:=191
abbrev KG:Nat:=192
abbrev Wj:Nat:=193
abbrev KI:Nat:=194
abbrev Zv:Nat:=195
abbrev KR:Nat:=196
abbrev Z2:Nat:=197
abbrev X2:Nat:=198
abbrev ji:Nat:=199
abbrev jX:Nat:=200
abbrev zp0:Nat:=201
abbrev Qa:Nat:=202
abbrev Zy:Nat:=203
abbrev Yc:Nat:=204
abbrev Yd:Nat:=205
abbrev Zx:Nat:=206
abbrev QW:Nat:=210
abbrev qO:Nat:=211
abbrev Kw:Nat:=212
abbrev QJ:Nat:=213
abbrev QI:Nat:=214
abbrev UX:Nat:=215
abbrev zb0:Nat:=216
abbrev Wx:Nat:=217
abbrev zi0:Nat:=218
abbrev Wy:Nat:=219
abbrev Wz:Nat:=220
abbrev Wk:Nat:=221
abbrev We:Nat:=222
abbrev Wg:Nat:=223
abbrev Wh:Nat:=224
abbrev z60:Nat:=225
abbrev qr:Nat:=226
abbrev QU:Nat:=227
abbrev Xs:Nat:=228
abbrev YF:Nat:=229
abbrev j0:Nat:=230
abbrev YB:Nat:=231
abbrev JN:Nat:=232
abbrev ZC:Nat:=233
abbrev xZ:Nat:=234
abbrev ZB:Nat:=235
abbrev Qf:Nat:=236
abbrev ko:Nat:=237
abbrev Zk:Nat:=238
abbrev zP0:Nat:=239
abbrev Qc:Nat:=240
abbrev j9:Nat:=241
abbrev Z4:Nat:=242
abbrev Xr:Nat:=243
abbrev YT:Nat:=244
abbrev Yb:Nat:=245
abbrev Q9:Nat:=246
abbrev WB:Nat:=251
abbrev zd0:Nat:=252
abbrev JH:Nat:=253
abbrev zh0:Nat:=254
abbrev z40:Nat:=255
abbrev kF:Nat:=256
abbrev WD:Nat:=257
abbrev xQ:Nat:=261
abbrev jV:Nat:=262
abbrev yf0:Nat:=263
abbrev Z6:Nat:=264
abbrev qB:Nat:=265
abbrev KW:Nat:=266
abbrev kk:Nat:=267
abbrev xR:Nat:=268
abbrev XA:Nat:=269
abbrev Qg:Nat:=270
abbrev Xz:Nat:=271
abbrev km:Nat:=272
abbrev ZA:Nat:=273
abbrev Yf:Nat:=274
abbrev YW:Nat:=275
abbrev YZ:Nat:=276
abbrev Ye:Nat:=277
abbrev YS:Nat:=278
abbrev jL:Nat:=279
abbrev Xq:Nat:=280
abbrev Zw:Nat:=281
abbrev qn:Nat:=282
abbrev Zz:Nat:=283
abbrev Qh:Nat:=284
abbrev k8:Nat:=285
abbrev yD:Nat:=286
abbrev Ww:Nat:=288
abbrev YE:Nat:=289
abbrev Je:Nat:=290
abbrev JM:Nat:=293
abbrev QV:Nat:=294
abbrev qi:Nat:=295
abbrev YY:Nat:=296
abbrev Xy:Nat:=297
abbrev Xx:Nat:=298
abbrev YX:Nat:=299
abbrev JZ:Nat:=300
abbrev VF:Nat:=304
abbrev Jd:Nat:=305
abbrev Q8:Nat:=306
abbrev QT:Nat:=307
abbrev xc0:Nat:=311
abbrev YV:Nat:=312
abbrev Ya:Nat:=313
abbrev jd:Nat:=314
abbrev yh:Nat:=353
abbrev yq:Nat:=354
abbrev kg:Nat:=355
abbrev jN:Nat:=356
abbrev Z3:Nat:=357
abbrev zo0:Nat:=358
abbrev V4:Nat:=359
abbrev KT:Nat:=360
abbrev jU:Nat:=361
abbrev ju:Nat:=362
abbrev WL:Nat:=363
abbrev JS:Nat:=364
abbrev xh:Nat:=365
abbrev xg:Nat:=366
abbrev xf:Nat:=367
abbrev xe:Nat:=368
abbrev xd:Nat:=369
abbrev xc:Nat:=370
abbrev xb:Nat:=371
abbrev JT:Nat:=372
abbrev xa:Nat:=373
abbrev x8:Nat:=374
abbrev yY:Nat:=375
abbrev yX:Nat:=376
abbrev Yg:Nat:=377
abbrev jT:Nat:=378
abbrev jt:Nat:=379
abbrev WK:Nat:=380
abbrev QX:Nat:=381
abbrev jM:Nat:=382
abbrev jm:Nat:=383
abbrev jn:Nat:=384
abbrev ja:Nat:=385
abbrev Uy:Nat:=386
abbrev jS:Nat:=387
abbrev jr:Nat:=388
abbrev WJ:Nat:=389
abbrev ki:Nat:=390
abbrev jP:Nat:=391
abbrev jv:Nat:=392
abbrev je:Nat:=393
abbrev Uz:Nat:=394
abbrev jW:Nat:=395
abbrev jw:Nat:=396
abbrev yI:Nat:=0
abbrev jf:Nat:=1
abbrev qo:Nat:=2
abbrev xM:Nat:=3
abbrev j4:Nat:=6
abbrev T_T_:Nat:=0
abbrev T_int64:Nat:=2
abbrev zE:Nat:=3
abbrev ZY:Nat:=4
abbrev qK:Nat:=5
abbrev yZ:Nat:=9
abbrev zh:Nat:=26
abbrev xw:Nat:=29
abbrev zl:Nat:=31
abbrev za:Nat:=45
abbrev y6:Nat:=50
abbrev yP:Nat:=59
abbrev zS:Nat:=70
abbrev yb:Nat:=73
abbrev zJ:Nat:=75
abbrev zq:Nat:=77
abbrev y3:Nat:=84
abbrev xB:Nat:=85
abbrev yT:Nat:=87
abbrev xm:Nat:=89
abbrev zW:Nat:=99
abbrev qu:Nat:=104
abbrev zP:Nat:=106
abbrev zL:Nat:=107
abbrev zG:Nat:=108
abbrev zO:Nat:=109
abbrev zF:Nat:=110
abbrev zK:Nat:=111
abbrev zU:Nat:=112
abbrev xH:Nat:=113
abbrev Ze:Nat:=114
abbrev zx:Nat:=116
abbrev zg:Nat:=118
abbrev yE:Nat:=119
abbrev zH:Nat:=120
abbrev ym0:Nat:=122
abbrev zA:Nat:=126
abbrev zw:Nat:=128
abbrev zB:Nat:=130
abbrev zu:Nat:=135
abbrev qs:Nat:=138
abbrev zY:Nat:=158
abbrev yc:Nat:=160
abbrev zm:Nat:=172
abbrev yK:Nat:=178
abbrev Vv:Nat:=180
abbrev yu:Nat:=182
abbrev ze:Nat:=220
abbrev yC:Nat:=222
abbrev yL:Nat:=223
abbrev yi:Nat:=225
abbrev Jb:Nat:=226
abbrev yG:Nat:=228
abbrev yr:Nat:=229
abbrev Jk:Nat:=232
abbrev QC:Nat:=233
abbrev yw:Nat:=237
abbrev jt0:Nat:=238
abbrev zI:Nat:=266
abbrev y5:Nat:=268
abbrev ya:Nat:=270
abbrev ky:Nat:=277
abbrev Uv:Nat:=304
abbrev zN0:Nat:=312
abbrev QD:Nat:=341
abbrev kI0:Nat:=357
abbrev yO:Nat:=392
abbrev x6:Nat:=409
theorem xo:yl zE (nI 0):=by unfold yl;kernel_rfl
@[push_cast] theorem W0:oneB zE=true:=rK
@[push_cast] theorem yU:xV zE 1=true:=rK
theorem VI:xD0 zE .i64:=by unfold xD0;kernel_rfl
theorem yA0:(P.underlying zE).isSome=true:=rK
theorem xL0:yl ZY (.bool false):=by unfold yl;kernel_rfl
@[push_cast] theorem ZI0:oneB ZY=true:=rK
@[push_cast] theorem xM0:xV ZY 1=true:=rK
@[push_cast] theorem o_uint8:oneB qK=true:=rK
theorem k20:xD0 qK .u8:=by unfold xD0;kernel_rfl
theorem yz0:(P.underlying qK).isSome=true:=rK
theorem kH:yl yZ (.string ⟨#[]⟩):=by unfold yl;kernel_rfl
@[push_cast] theorem jQ0:oneB yZ=true:=rK
@[push_cast] theorem VN:xV yZ 1=true:=rK
theorem kM:P.underlying yZ=some .string:=rK
theorem VM:yl zh (.slice none 0 0):=by unfold yl;kernel_rfl
@[push_cast] theorem ZJ0:oneB zh=true:=rK
@[push_cast] theorem j6:xV zh 1=true:=rK
@[push_cast] theorem xz:elZ zh 1 8=true:=rK
theorem x7:P.underlying zh=some (.slice zE):=rK
theorem qG:Yz zh=zE:=rK
@[push_cast] theorem ZH0:isSl zh=true:=rK
@[push_cast] theorem XN:elB zh 1=true:=rK
@[push_cast] theorem kC0:oneB xw=true:=rK
@[push_cast] theorem ZN:elZ xw 2 24=true:=rK
theorem j8:P.underlying xw=some (.slice yP):=rK
theorem XL:Yz xw=yP:=rK
@[push_cast] theorem kz0:isSl xw=true:=rK
@[push_cast] theorem ZT:elB xw 2=true:=rK
@[push_cast] theorem UK:oneB zl=true:=rK
@[push_cast] theorem xU:xV zl 1=true:=rK
@[push_cast] theorem qb:elZ zl 5 64=true:=rK
theorem xq:P.underlying zl=some (.slice za):=rK
theorem qH:Yz zl=za:=rK
@[push_cast] theorem QG:isSl zl=true:=rK
@[push_cast] theorem kH0:elB zl 5=true:=rK
theorem zp:yl za (.agg #[(nI 0),(nI 0),(nI 0),(.string ⟨#[]⟩),(.slice none 0 0)]):=by unfold yl;kernel_rfl
theorem qf:strF za=some ([(0,1),(1,1),(2,1),(3,1),(4,1)],[(nI 0),(nI 0),(nI 0),(.string ⟨#[]⟩),(.slice none 0 0)]):=rK
@[push_cast] theorem zc:aggB za 5=true:=rK
@[push_cast] theorem xC:xV za 5=true:=rK
@[push_cast] theorem o_Luint8:oneB y6=true:=rK
@[push_cast] theorem jZ0:elZ y6 1 1=true:=rK
theorem Xi:P.underlying y6=some (.slice qK):=rK
theorem qR0:Yz y6=qK:=rK
@[push_cast] theorem s_Luint8:isSl y6=true:=rK
@[push_cast] theorem kl0:elB y6 1=true:=rK
theorem xp:yl yP (.agg #[(.string ⟨#[]⟩),(nI 0)]):=by unfold yl;kernel_rfl
theorem yl0:strF yP=some ([(0,1),(1,1)],[(.string ⟨#[]⟩),(nI 0)]):=rK
@[push_cast] theorem Z50:aggB yP 2=true:=rK
@[push_cast] theorem jG:xV yP 2=true:=rK
@[push_cast] theorem UI:oneB zS=true:=rK
theorem Z8:P.underlying zS=some (.map 3 122):=rK
theorem Uu:strF yb=some ([(0,1),(1,1)],[(.slice none 0 0),(.map none)]):=rK
@[push_cast] theorem xE:aggB yb 2=true:=rK
theorem ju0:yl zJ (.slice none 0 0):=by unfold yl;kernel_rfl
@[push_cast] theorem o_LLint:oneB zJ=true:=rK
@[push_cast] theorem XZ:xV zJ 1=true:=rK
@[push_cast] theorem ZO:elZ zJ 1 24=true:=rK
theorem Q1:P.underlying zJ=some (.slice zh):=rK
theorem Um:Yz zJ=zh:=rK
@[push_cast] theorem kW0:isSl zJ=true:=rK
@[push_cast] theorem Z90:elB zJ 1=true:=rK
theorem xj:yl zq (.agg #[(nI 0),(.slice none 0 0)]):=by unfold yl;kernel_rfl
theorem QA:strF zq=some ([(0,1),(1,1)],[(nI 0),(.slice none 0 0)]):=rK
@[push_cast] theorem zD:aggB zq 2=true:=rK
theorem xw0:strF y3=some ([(0,1),(1,1),(2,1),(3,2),(5,1)],[(.slice none 0 0),(.slice none 0 0),(.slice none 0 0),(nI 0),(.slice none 0 0),(.slice none 0 0)]):=rK
theorem kJ:P.underlying xB=some (.slice yT):=rK
@[push_cast] theorem VA:isSl xB=true:=rK
@[push_cast] theorem kR:elB xB 1=true:=rK
theorem k7:yl yT .nilFunc:=by unfold yl;kernel_rfl
@[push_cast] theorem kD:oneB yT=true:=rK
@[push_cast] theorem kA:xV yT 1=true:=rK
@[push_cast] theorem xl:oneB xm=true:=rK
@[push_cast] theorem kK0:xV xm 1=true:=rK
theorem zK0:strF zW=some ([(0,1),(1,1)],[(.slice none 0 0),(nI 0)]):=rK
theorem zM0:strF qu=some ([(0,1),(1,1)],[(.string ⟨#[]⟩),(nI 0)]):=rK
theorem ql:yl zP (.agg #[(.string ⟨#[]⟩),(nI 0)]):=by unfold yl;kernel_rfl
theorem Ur:strF zP=some ([(0,2)],[(.string ⟨#[]⟩),(nI 0)]):=rK
@[push_cast] theorem WX:aggB zP 2=true:=rK
theorem jE:yl zL (.agg #[(.string ⟨#[]⟩),(nI 0)]):=by unfold yl;kernel_rfl
theorem Vr:strF zL=some ([(0,2)],[(.string ⟨#[]⟩),(nI 0)]):=rK
theorem Zo:yl zG (.agg #[(.string ⟨#[]⟩),(nI 0)]):=by unfold yl;kernel_rfl
theorem Vp:strF zG=some ([(0,2)],[(.string ⟨#[]⟩),(nI 0)]):=rK
@[push_cast] theorem V8:aggB zG 2=true:=rK
theorem yH:yl zO (.agg #[(.string ⟨#[]⟩),(nI 0)]):=by unfold yl;kernel_rfl
theorem Vn:strF zO=some ([(0,2)],[(.string ⟨#[]⟩),(nI 0)]):=rK
@[push_cast] theorem V6:aggB zO 2=true:=rK
theorem yM:yl zF (.agg #[(.string ⟨#[]⟩),(nI 0)]):=by unfold yl;kernel_rfl
theorem Ks:strF zF=some ([(0,2)],[(.string ⟨#[]⟩),(nI 0)]):=rK
@[push_cast] theorem Kb:aggB zF 2=true:=rK
theorem xi:yl zK (.agg #[(.string ⟨#[]⟩),(nI 0)]):=by unfold yl;kernel_rfl
theorem Vo:strF zK=some ([(0,2)],[(.string ⟨#[]⟩),(nI 0)]):=rK
@[push_cast] theorem V7:aggB zK 2=true:=rK
theorem xL:yl zU (.agg #[(.string ⟨#[]⟩),(nI 0)]):=by unfold yl;kernel_rfl
theorem Ut:strF zU=some ([(0,2)],[(.string ⟨#[]⟩),(nI 0)]):=rK
@[push_cast] theorem WY:aggB zU 2=true:=rK
@[push_cast] theorem yg0:elZ xH 2 16=true:=rK
theorem zV0:P.underlying xH=some (.slice zg):=rK
@[push_cast] theorem Z80:elB xH 2=true:=rK
@[push_cast] theorem W1:oneB Ze=true:=rK
theorem QP:yl zx (.agg #[(.string ⟨#[]⟩),(nI 0),.nilFunc]):=by unfold yl;kernel_rfl
theorem Kt:strF zx=some ([(0,2),(2,1)],[(.string ⟨#[]⟩),(nI 0),.nilFunc]):=rK
@[push_cast] theorem ZP:aggB zx 3=true:=rK
theorem zZ:yl zg (.agg #[(nI 0),(nI 0)]):=by unfold yl;kernel_rfl
theorem Qy:strF zg=some ([(0,1),(1,1)],[(nI 0),(nI 0)]):=rK
@[push_cast] theorem zr:aggB zg 2=true:=rK
@[push_cast] theorem yW0:xV zg 2=true:=rK
@[push_cast] theorem zt0:elZ yE 1 16=true:=rK
theorem kI:P.underlying yE=some (.slice yZ):=rK
theorem xr0:Yz yE=yZ:=rK
@[push_cast] theorem ZG0:isSl yE=true:=rK
theorem jF:yl zH (.agg #[(.string ⟨#[]⟩),(nI 0)]):=by unfold yl;kernel_rfl
theorem Vu:strF zH=some ([(0,2)],[(.string ⟨#[]⟩),(nI 0)]):=rK
@[push_cast] theorem kB0:oneB zA=true:=rK
@[push_cast] theorem QF:xV zA 1=true:=rK
@[push_cast] theorem qt:elZ zA 3 24=true:=rK
theorem j7:P.underlying zA=some (.slice zm):=rK
theorem XK:Yz zA=zm:=rK
@[push_cast] theorem xW:isSl zA=true:=rK
@[push_cast] theorem ZS:elB zA 3=true:=rK
theorem qR:yl zw (.agg #[(nI 0),(.slice none 0 0)]):=by unfold yl;kernel_rfl
theorem Qz:strF zw=some ([(0,1),(1,1)],[(nI 0),(.slice none 0 0)]):=rK
@[push_cast] theorem y0:aggB zw 2=true:=rK
theorem xn:yl zB (.agg #[(nI 0),(.slice none 0 0),(.bool false)]):=by unfold yl;kernel_rfl
theorem yk0:strF zB=some ([(0,2),(2,1)],[(nI 0),(.slice none 0 0),(.bool false)]):=rK
@[push_cast] theorem qW:aggB zB 3=true:=rK
theorem qQ:yl zu (.agg #[(.slice none 0 0),(.slice none 0 0),(.slice none 0 0),(nI 0)]):=by unfold yl;kernel_rfl
theorem xx0:strF zu=some ([(0,1),(1,1),(2,1),(3,1)],[(.slice none 0 0),(.slice none 0 0),(.slice none 0 0),(nI 0)]):=rK
@[push_cast] theorem zQ:aggB zu 4=true:=rK
@[push_cast] theorem qw0:elZ qs 1 1=true:=rK
theorem q20:P.underlying qs=some (.slice ZY):=rK
theorem Ul:Yz qs=ZY:=rK
@[push_cast] theorem s_Lbool:isSl qs=true:=rK
@[push_cast] theorem yj0:elB qs 1=true:=rK
theorem qN:P.underlying zY=some (.slice yc):=rK
theorem qI:Yz zY=yc:=rK
@[push_cast] theorem XX:isSl zY=true:=rK
@[push_cast] theorem XY:elB zY 1=true:=rK
@[push_cast] theorem Y9:oneB yc=true:=rK
@[push_cast] theorem Y8:xV yc 1=true:=rK
theorem kc:yl zm (.agg #[(.bool false),(nI 0),(nI 0)]):=by unfold yl;kernel_rfl
theorem Zd:strF zm=some ([(0,1),(1,1),(2,1)],[(.bool false),(nI 0),(nI 0)]):=rK
@[push_cast] theorem xF:aggB zm 3=true:=rK
@[push_cast] theorem YJ:xV zm 3=true:=rK
@[push_cast] theorem qe0:oneB yK=true:=rK
@[push_cast] theorem jd0:oneB Vv=true:=rK
theorem Us:strF yu=some ([(0,2),(2,1),(3,1),(4,1),(5,1)],[(nI 0),(.slice none 0 0),(.pointer none),(.slice none 0 0),(.slice none 0 0),(nI 0)]):=rK
theorem qw:yl ze (.slice none 0 0):=by unfold yl;kernel_rfl
@[push_cast] theorem Kz:oneB ze=true:=rK
@[push_cast] theorem qX:xV ze 1=true:=rK
@[push_cast] theorem yz:elZ ze 1 8=true:=rK
theorem yy:P.underlying ze=some (.slice yr):=rK
theorem yJ:Yz ze=yr:=rK
@[push_cast] theorem yQ:isSl ze=true:=rK
@[push_cast] theorem yF:elB ze 1=true:=rK
@[push_cast] theorem xA0:oneB yC=true:=rK
@[push_cast] theorem JA:oneB yL=true:=rK
theorem jj:P.underlying yL=some (.map 9 220):=rK
theorem Vt:strF yi=some ([(0,1),(1,1),(2,1),(3,1)],[(.pointer none),(.slice none 0 0),(.map none),(.map none)]):=rK
@[push_cast] theorem xz0:oneB Jb=true:=rK
theorem Vs:strF yG=some ([(0,1),(1,1)],[(.pointer none),.nilIface]):=rK
theorem ye:yl yr (nI 0):=by unfold yl;kernel_rfl
@[push_cast] theorem jR0:oneB yr=true:=rK
@[push_cast] theorem y4:xV yr 1=true:=rK
theorem yh0:xD0 QC .u64:=by unfold xD0;kernel_rfl
theorem Jt:(P.underlying QC).isSome=true:=rK
theorem zL0:strF yw=some ([(0,1),(1,1),(2,1)],[(.slice none 0 0),(.slice none 0 0),(.slice none 0 0)]):=rK
@[push_cast] theorem K5:elZ zI 1 24=true:=rK
theorem Zs:P.underlying zI=some (.slice ze):=rK
@[push_cast] theorem qb0:isSl zI=true:=rK
@[push_cast] theorem Km:elB zI 1=true:=rK
@[push_cast] theorem UJ:oneB y5=true:=rK
theorem qD:P.underlying y5=some (.map 172 3):=rK
theorem Vq:strF ya=some ([(0,2),(2,1)],[(nI 0),(.slice none 0 0),(.map none)]):=rK
theorem Yx:P.underlying ky=some (.map 9 3):=rK
theorem jF0:P.underlying Uv=some (.slice zJ):=rK
@[push_cast] theorem s_LLLint:isSl Uv=true:=rK
@[push_cast] theorem e_LLLint:elB Uv 1=true:=rK
theorem qE0:xD0 zN0 .u64:=by unfold xD0;kernel_rfl
theorem kT0:(P.underlying zN0).isSome=true:=rK
@[push_cast] theorem xu:imapB QD=true:=rK
theorem Vg:fieldB za 0 0=true:=rK
@[push_cast] theorem jn0 {w:World} {K:oK} (a:Addr):zy za (.pointer (some a)) 0 w K=K (.pointer (some (a.add 0))) w:=zz Vg a
theorem Vf:fieldB za 1 1=true:=rK
@[push_cast] theorem jm0 {w:World} {K:oK} (a:Addr):zy za (.pointer (some a)) 1 w K=K (.pointer (some (a.add 1))) w:=zz Vf a
theorem Ve:fieldB za 2 2=true:=rK
@[push_cast] theorem jl0 {w:World} {K:oK} (a:Addr):zy za (.pointer (some a)) 2 w K=K (.pointer (some (a.add 2))) w:=zz Ve a
theorem Vd:fieldB za 3 3=true:=rK
@[push_cast] theorem jk0 {w:World} {K:oK} (a:Addr):zy za (.pointer (some a)) 3 w K=K (.pointer (some (a.add 3))) w:=zz Vd a
theorem Vb:fieldB za 4 4=true:=rK
@[push_cast] theorem jj0 {w:World} {K:oK} (a:Addr):zy za (.pointer (some a)) 4 w K=K (.pointer (some (a.add 4))) w:=zz Vb a
theorem Vl:fieldB yP 0 0=true:=rK
@[push_cast] theorem js0 {w:World} {K:oK} (a:Addr):zy yP (.pointer (some a)) 0 w K=K (.pointer (some (a.add 0))) w:=zz Vl a
theorem Vk:fieldB yP 1 1=true:=rK
@[push_cast] theorem jr0 {w:World} {K:oK} (a:Addr):zy yP (.pointer (some a)) 1 w K=K (.pointer (some (a.add 1))) w:=zz Vk a
theorem J8:fieldB yb 0 0=true:=rK
@[push_cast] theorem xK0 {w:World} {K:oK} (a:Addr):zy yb (.pointer (some a)) 0 w K=K (.pointer (some (a.add 0))) w:=zz J8 a
theorem J7:fieldB yb 1 1=true:=rK
@[push_cast] theorem xJ0 {w:World} {K:oK} (a:Addr):zy yb (.pointer (some a)) 1 w K=K (.pointer (some (a.add 1))) w:=zz J7 a
theorem Uf:fieldB zq 0 0=true:=rK
@[push_cast] theorem kj0 {w:World} {K:oK} (a:Addr):zy zq (.pointer (some a)) 0 w K=K (.pointer (some (a.add 0))) w:=zz Uf a
theorem Ue:fieldB zq 1 1=true:=rK
@[push_cast] theorem Uj {w:World} {K:oK} (a:Addr):zy zq (.pointer (some a)) 1 w K=K (.pointer (some (a.add 1))) w:=zz Ue a
theorem U5:fieldB y3 0 0=true:=rK
@[push_cast] theorem kd0 {w:World} {K:oK} (a:Addr):zy y3 (.pointer (some a)) 0 w K=K (.pointer (some (a.add 0))) w:=zz U5 a
theorem U4:fieldB y3 1 1=true:=rK
@[push_cast] theorem kc0 {w:World} {K:oK} (a:Addr):zy y3 (.pointer (some a)) 1 w K=K (.pointer (some (a.add 1))) w:=zz U4 a
theorem U3:fieldB y3 2 2=true:=rK
@[push_cast] theorem kb0 {w:World} {K:oK} (a:Addr):zy y3 (.pointer (some a)) 2 w K=K (.pointer (some (a.add 2))) w:=zz U3 a
theorem U2:fieldB y3 3 3=true:=rK
@[push_cast] theorem ka0 {w:World} {K:oK} (a:Addr):zy y3 (.pointer (some a)) 3 w K=K (.pointer (some (a.add 3))) w:=zz U2 a
theorem U1:fieldB y3 4 5=true:=rK
@[push_cast] theorem k90 {w:World} {K:oK} (a:Addr):zy y3 (.pointer (some a)) 4 w K=K (.pointer (some (a.add 5))) w:=zz U1 a
theorem Kd:fieldB zW 0 0=true:=rK
@[push_cast] theorem ZR {w:World} {K:oK} (a:Addr):zy zW (.pointer (some a)) 0 w K=K (.pointer (some (a.add 0))) w:=zz Kd a
theorem Kc:fieldB zW 1 1=true:=rK
@[push_cast] theorem Kk {w:World} {K:oK} (a:Addr):zy zW (.pointer (some a)) 1 w K=K (.pointer (some (a.add 1))) w:=zz Kc a
theorem Ki:fieldB qu 0 0=true:=rK
@[push_cast] theorem qO0 {w:World} {K:oK} (a:Addr):zy qu (.pointer (some a)) 0 w K=K (.pointer (some (a.add 0))) w:=zz Ki a
theorem Kh:fieldB qu 1 1=true:=rK
@[push_cast] theorem qN0 {w:World} {K:oK} (a:Addr):zy qu (.pointer (some a)) 1 w K=K (.pointer (some (a.add 1))) w:=zz Kh a
theorem XJ:fieldB zx 1 2=true:=rK
@[push_cast] theorem yK0 {w:World} {K:oK} (a:Addr):zy zx (.pointer (some a)) 1 w K=K (.pointer (some (a.add 2))) w:=zz XJ a
theorem U7:fieldB zg 0 0=true:=rK
@[push_cast] theorem kf0 {w:World} {K:oK} (a:Addr):zy zg (.pointer (some a)) 0 w K=K (.pointer (some (a.add 0))) w:=zz U7 a
theorem U6:fieldB zg 1 1=true:=rK
@[push_cast] theorem ke0 {w:World} {K:oK} (a:Addr):zy zg (.pointer (some a)) 1 w K=K (.pointer (some (a.add 1))) w:=zz U6 a
theorem Ud:fieldB zw 0 0=true:=rK
@[push_cast] theorem ki0 {w:World} {K:oK} (a:Addr):zy zw (.pointer (some a)) 0 w K=K (.pointer (some (a.add 0))) w:=zz Ud a
theorem Uc:fieldB zw 1 1=true:=rK
@[push_cast] theorem kh0 {w:World} {K:oK} (a:Addr):zy zw (.pointer (some a)) 1 w K=K (.pointer (some (a.add 1))) w:=zz Uc a
theorem Va:fieldB zB 0 0=true:=rK
@[push_cast] theorem ji0 {w:World} {K:oK} (a:Addr):zy zB (.pointer (some a)) 0 w K=K (.pointer (some (a.add 0))) w:=zz Va a
theorem V9:fieldB zB 1 2=true:=rK
@[push_cast] theorem jh0 {w:World} {K:oK} (a:Addr):zy zB (.pointer (some a)) 1 w K=K (.pointer (some (a.add 2))) w:=zz V9 a
theorem Ub:fieldB zu 0 0=true:=rK
@[push_cast] theorem Ui {w:World} {K:oK} (a:Addr):zy zu (.pointer (some a)) 0 w K=K (.pointer (some (a.add 0))) w:=zz Ub a
theorem Ua:fieldB zu 1 1=true:=rK
@[push_cast] theorem Uh {w:World} {K:oK} (a:Addr):zy zu (.pointer (some a)) 1 w K=K (.pointer (some (a.add 1))) w:=zz Ua a
theorem U9:fieldB zu 2 2=true:=rK
@[push_cast] theorem Ug {w:World} {K:oK} (a:Addr):zy zu (.pointer (some a)) 2 w K=K (.pointer (some (a.add 2))) w:=zz U9 a
theorem U8:fieldB zu 3 3=true:=rK
@[push_cast] theorem kg0 {w:World} {K:oK} (a:Addr):zy zu (.pointer (some a)) 3 w K=K (.pointer (some (a.add 3))) w:=zz U8 a
theorem Vj:fieldB zm 0 0=true:=rK
@[push_cast] theorem jq0 {w:World} {K:oK} (a:Addr):zy zm (.pointer (some a)) 0 w K=K (.pointer (some (a.add 0))) w:=zz Vj a
theorem Vi:fieldB zm 1 1=true:=rK
@[push_cast] theorem jp0 {w:World} {K:oK} (a:Addr):zy zm (.pointer (some a)) 1 w K=K (.pointer (some (a.add 1))) w:=zz Vi a
theorem Vh:fieldB zm 2 2=true:=rK
@[push_cast] theorem jo0 {w:World} {K:oK} (a:Addr):zy zm (.pointer (some a)) 2 w K=K (.pointer (some (a.add 2))) w:=zz Vh a
theorem J6:fieldB yu 0 0=true:=rK
@[push_cast] theorem xI0 {w:World} {K:oK} (a:Addr):zy yu (.pointer (some a)) 0 w K=K (.pointer (some (a.add 0))) w:=zz J6 a
theorem J5:fieldB yu 1 2=true:=rK
@[push_cast] theorem xH0 {w:World} {K:oK} (a:Addr):zy yu (.pointer (some a)) 1 w K=K (.pointer (some (a.add 2))) w:=zz J5 a
theorem J4:fieldB yu 2 3=true:=rK
@[push_cast] theorem xG0 {w:World} {K:oK} (a:Addr):zy yu (.pointer (some a)) 2 w K=K (.pointer (some (a.add 3))) w:=zz J4 a
theorem J3:fieldB yu 3 4=true:=rK
@[push_cast] theorem xF0 {w:World} {K:oK} (a:Addr):zy yu (.pointer (some a)) 3 w K=K (.pointer (some (a.add 4))) w:=zz J3 a
theorem J0:fieldB yu 4 5=true:=rK
@[push_cast] theorem xE0 {w:World} {K:oK} (a:Addr):zy yu (.pointer (some a)) 4 w K=K (.pointer (some (a.add 5))) w:=zz J0 a
theorem Qv:fieldB yi 0 0=true:=rK
@[push_cast] theorem xp0 {w:World} {K:oK} (a:Addr):zy yi (.pointer (some a)) 0 w K=K (.pointer (some (a.add 0))) w:=zz Qv a
theorem Qu:fieldB yi 1 1=true:=rK
@[push_cast] theorem xo0 {w:World} {K:oK} (a:Addr):zy yi (.pointer (some a)) 1 w K=K (.pointer (some (a.add 1))) w:=zz Qu a
theorem Qt:fieldB yi 2 2=true:=rK
@[push_cast] theorem xn0 {w:World} {K:oK} (a:Addr):zy yi (.pointer (some a)) 2 w K=K (.pointer (some (a.add 2))) w:=zz Qt a
theorem Qs:fieldB yi 3 3=true:=rK
@[push_cast] theorem xm0 {w:World} {K:oK} (a:Addr):zy yi (.pointer (some a)) 3 w K=K (.pointer (some (a.add 3))) w:=zz Qs a
theorem Qr:fieldB yG 0 0=true:=rK
@[push_cast] theorem xl0 {w:World} {K:oK} (a:Addr):zy yG (.pointer (some a)) 0 w K=K (.pointer (some (a.add 0))) w:=zz Qr a
theorem Qq:fieldB yG 1 1=true:=rK
@[push_cast] theorem xk0 {w:World} {K:oK} (a:Addr):zy yG (.pointer (some a)) 1 w K=K (.pointer (some (a.add 1))) w:=zz Qq a
theorem Kg:fieldB yw 0 0=true:=rK
@[push_cast] theorem qM0 {w:World} {K:oK} (a:Addr):zy yw (.pointer (some a)) 0 w K=K (.pointer (some (a.add 0))) w:=zz Kg a
theorem Kf:fieldB yw 1 1=true:=rK
@[push_cast] theorem qL0 {w:World} {K:oK} (a:Addr):zy yw (.pointer (some a)) 1 w K=K (.pointer (some (a.add 1))) w:=zz Kf a
theorem Ke:fieldB yw 2 2=true:=rK
@[push_cast] theorem qK0 {w:World} {K:oK} (a:Addr):zy yw (.pointer (some a)) 2 w K=K (.pointer (some (a.add 2))) w:=zz Ke a
theorem Qp:fieldB ya 0 0=true:=rK
@[push_cast] theorem xj0 {w:World} {K:oK} (a:Addr):zy ya (.pointer (some a)) 0 w K=K (.pointer (some (a.add 0))) w:=zz Qp a
theorem Qo:fieldB ya 1 2=true:=rK
@[push_cast] theorem xi0 {w:World} {K:oK} (a:Addr):zy ya (.pointer (some a)) 1 w K=K (.pointer (some (a.add 2))) w:=zz Qo a
@[push_cast] theorem jA0 {w:World} {K:oK} (b a:Value):kw0 zg (.agg ⟨[b,a]⟩) 1 w K=K a w:=y7 rK
noncomputable def mn_kids:String:=match P.info? 106 with|some i=>(match i.methods[0]? with|some m=>m.name|none=>default)|none=>default
noncomputable def jY:String:=match P.info? 106 with|some i=>(match i.methods[1]? with|some m=>m.name|none=>default)|none=>default
noncomputable def qC:String:=match P.info? 106 with|some i=>(match i.methods[2]? with|some m=>m.name|none=>default)|none=>default
noncomputable def Z7:String:=match P.info? 106 with|some i=>(match i.methods[3]? with|some m=>m.name|none=>default)|none=>default
theorem qY0:concB yZ=true:=rK
@[push_cast] theorem ZL0 {w:World} {K:oK} (v:Value):yY0 yZ v w K=K (.iface yZ v) w:=kB qY0 v
theorem xN:concB zP=true:=rK
@[push_cast] theorem je0 {w:World} {K:oK} (v:Value):yY0 zP v w K=K (.iface zP v) w:=kB xN v
theorem X5 (a b:Value) (w:World):(method (P.types.size+Made.depth) zP (.agg ⟨[a,b]⟩) mn_kids).run P w= .ok (yh,.agg ⟨[a,b]⟩) w:=rK
theorem X4 (a b:Value) (w:World):(method (P.types.size+Made.depth) zP (.agg ⟨[a,b]⟩) jY).run P w= .ok (kg,.agg ⟨[a,b]⟩) w:=rK
theorem Yj (a b:Value) (w:World):(method (P.types.size+Made.depth) zP (.agg ⟨[a,b]⟩) qC).run P w= .ok (jN,.agg ⟨[a,b]⟩) w:=rK
theorem X3 (a b:Value) (w:World):(method (P.types.size+Made.depth) zP (.agg ⟨[a,b]⟩) Z7).run P w= .ok (yq,.agg ⟨[a,b]⟩) w:=rK
theorem qd:concB zL=true:=rK
@[push_cast] theorem qo0 {w:World} {K:oK} (v:Value):yY0 zL v w K=K (.iface zL v) w:=kB qd v
theorem Yt (a b:Value) (w:World):(method (P.types.size+Made.depth) zL (.agg ⟨[a,b]⟩) mn_kids).run P w= .ok (yh,.agg ⟨[a,b]⟩) w:=rK
theorem Ys (a b:Value) (w:World):(method (P.types.size+Made.depth) zL (.agg ⟨[a,b]⟩) jY).run P w= .ok (jU,.agg ⟨[a,b]⟩) w:=rK
theorem ZI (a b:Value) (w:World):(method (P.types.size+Made.depth) zL (.agg ⟨[a,b]⟩) qC).run P w= .ok (ju,.agg ⟨[a,b]⟩) w:=rK
theorem Yr (a b:Value) (w:World):(method (P.types.size+Made.depth) zL (.agg ⟨[a,b]⟩) Z7).run P w= .ok (yq,.agg ⟨[a,b]⟩) w:=rK
theorem k6:concB zG=true:=rK
@[push_cast] theorem qn0 {w:World} {K:oK} (v:Value):yY0 zG v w K=K (.iface zG v) w:=kB k6 v
theorem Yq (a b:Value) (w:World):(method (P.types.size+Made.depth) zG (.agg ⟨[a,b]⟩) mn_kids).run P w= .ok (yh,.agg ⟨[a,b]⟩) w:=rK
theorem Yp (a b:Value) (w:World):(method (P.types.size+Made.depth) zG (.agg ⟨[a,b]⟩) jY).run P w= .ok (jT,.agg ⟨[a,b]⟩) w:=rK
theorem ZH (a b:Value) (w:World):(method (P.types.size+Made.depth) zG (.agg ⟨[a,b]⟩) qC).run P w= .ok (jt,.agg ⟨[a,b]⟩) w:=rK
theorem Yo (a b:Value) (w:World):(method (P.types.size+Made.depth) zG (.agg ⟨[a,b]⟩) Z7).run P w= .ok (yq,.agg ⟨[a,b]⟩) w:=rK
theorem yA:concB zO=true:=rK
@[push_cast] theorem ql0 {w:World} {K:oK} (v:Value):yY0 zO v w K=K (.iface zO v) w:=kB yA v
theorem Yi (a b:Value) (w:World):(method (P.types.size+Made.depth) zO (.agg ⟨[a,b]⟩) mn_kids).run P w= .ok (yh,.agg ⟨[a,b]⟩) w:=rK
theorem Yh (a b:Value) (w:World):(method (P.types.size+Made.depth) zO (.agg ⟨[a,b]⟩) jY).run P w= .ok (jM,.agg ⟨[a,b]⟩) w:=rK
theorem ZD (a b:Value) (w:World):(method (P.types.size+Made.depth) zO (.agg ⟨[a,b]⟩) qC).run P w= .ok (jm,.agg ⟨[a,b]⟩) w:=rK
theorem yB:concB zF=true:=rK
@[push_cast] theorem xB0 {w:World} {K:oK} (v:Value):yY0 zF v w K=K (.iface zF v) w:=kB yB v
theorem ZF (a b:Value) (w:World):(method (P.types.size+Made.depth) zF (.agg ⟨[a,b]⟩) mn_kids).run P w= .ok (yh,.agg ⟨[a,b]⟩) w:=rK
theorem ZE (a b:Value) (w:World):(method (P.types.size+Made.depth) zF (.agg ⟨[a,b]⟩) jY).run P w= .ok (jn,.agg ⟨[a,b]⟩) w:=rK
theorem Zl (a b:Value) (w:World):(method (P.types.size+Made.depth) zF (.agg ⟨[a,b]⟩) qC).run P w= .ok (ja,.agg ⟨[a,b]⟩) w:=rK
theorem yW:concB zK=true:=rK
@[push_cast] theorem qm0 {w:World} {K:oK} (v:Value):yY0 zK v w K=K (.iface zK v) w:=kB yW v
theorem Yn (a b:Value) (w:World):(method (P.types.size+Made.depth) zK (.agg ⟨[a,b]⟩) mn_kids).run P w= .ok (yh,.agg ⟨[a,b]⟩) w:=rK
theorem Ym (a b:Value) (w:World):(method (P.types.size+Made.depth) zK (.agg ⟨[a,b]⟩) jY).run P w= .ok (jS,.agg ⟨[a,b]⟩) w:=rK
theorem ZG (a b:Value) (w:World):(method (P.types.size+Made.depth) zK (.agg ⟨[a,b]⟩) qC).run P w= .ok (jr,.agg ⟨[a,b]⟩) w:=rK
theorem Yl (a b:Value) (w:World):(method (P.types.size+Made.depth) zK (.agg ⟨[a,b]⟩) Z7).run P w= .ok (yq,.agg ⟨[a,b]⟩) w:=rK
theorem xy:concB zU=true:=rK
@[push_cast] theorem jf0 {w:World} {K:oK} (v:Value):yY0 zU v w K=K (.iface zU v) w:=kB xy v
theorem X8 (a b:Value) (w:World):(method (P.types.size+Made.depth) zU (.agg ⟨[a,b]⟩) mn_kids).run P w= .ok (yh,.agg ⟨[a,b]⟩) w:=rK
theorem X7 (a b:Value) (w:World):(method (P.types.size+Made.depth) zU (.agg ⟨[a,b]⟩) jY).run P w= .ok (ki,.agg ⟨[a,b]⟩) w:=rK
theorem Yk (a b:Value) (w:World):(method (P.types.size+Made.depth) zU (.agg ⟨[a,b]⟩) qC).run P w= .ok (jP,.agg ⟨[a,b]⟩) w:=rK
theorem X6 (a b:Value) (w:World):(method (P.types.size+Made.depth) zU (.agg ⟨[a,b]⟩) Z7).run P w= .ok (yq,.agg ⟨[a,b]⟩) w:=rK
theorem Zg:concB zx=true:=rK
@[push_cast] theorem xC0 {w:World} {K:oK} (v:Value):yY0 zx v w K=K (.iface zx v) w:=kB Zg v
theorem ZL (a b c:Value) (w:World):(method (P.types.size+Made.depth) zx (.agg ⟨[a,b,c]⟩) mn_kids).run P w= .ok (yh,.agg ⟨[a,b]⟩) w:=rK
theorem ZK (a b c:Value) (w:World):(method (P.types.size+Made.depth) zx (.agg ⟨[a,b,c]⟩) jY).run P w= .ok (jv,.agg ⟨[a,b,c]⟩) w:=rK
theorem Zm (a b c:Value) (w:World):(method (P.types.size+Made.depth) zx (.agg ⟨[a,b,c]⟩) qC).run P w= .ok (je,.agg ⟨[a,b,c]⟩) w:=rK
theorem ZJ (a b c:Value) (w:World):(method (P.types.size+Made.depth) zx (.agg ⟨[a,b,c]⟩) Z7).run P w= .ok (yq,.agg ⟨[a,b]⟩) w:=rK
theorem qe:concB zH=true:=rK
@[push_cast] theorem qp0 {w:World} {K:oK} (v:Value):yY0 zH v w K=K (.iface zH v) w:=kB qe v
theorem Yw (a b:Value) (w:World):(method (P.types.size+Made.depth) zH (.agg ⟨[a,b]⟩) mn_kids).run P w= .ok (yh,.agg ⟨[a,b]⟩) w:=rK
theorem Yv (a b:Value) (w:World):(method (P.types.size+Made.depth) zH (.agg ⟨[a,b]⟩) jY).run P w= .ok (jW,.agg ⟨[a,b]⟩) w:=rK
theorem ZM (a b:Value) (w:World):(method (P.types.size+Made.depth) zH (.agg ⟨[a,b]⟩) qC).run P w= .ok (jw,.agg ⟨[a,b]⟩) w:=rK
theorem Yu (a b:Value) (w:World):(method (P.types.size+Made.depth) zH (.agg ⟨[a,b]⟩) Z7).run P w= .ok (yq,.agg ⟨[a,b]⟩) w:=rK
end Go.Proofs.YtolbhkcajhlllaaGreatDoor
section
namespace Go.Proofs.YtolbhkcajhlllaaGreatDoor
open Go Go.Vc Go.Proofs
open Go.ChangeShapes Go.WideShapes Go.ChangeAt Go.RowKit
theorem kY0:ownKnob P.godebug=none:=rK
theorem YM:laidOutB P=true:=rK
def restFacts (P:Program) (f:FuncId) (fn:Func) (s:ChangeSpec) (c:OpenClaim):Bool:=
 c.wf (OpenSpec.ofChange s)&&
 fn.params.all (P.readableRec ·)&&namedTie P c.named s.vars&&
 (c.stops==[])&&(P.stops==[])&&(c.knobs==[])&&(P.stopKnobs==[])&&
 (c.maps==(fn.params.toList++s.plain.varTypes P).any (P.mapsRec ·))&&(c.ifaces==(fn.params.toList++s.plain.varTypes P).any (P.ifacesRec ·))&&(c.mapsOut==P.mapsAmong fn.resultTypes.toList)&&
 (c.loops==(fn.params.toList++s.plain.varTypes P).any (P.loopsFrom ·))&&(c.wideKeys==(fn.params.toList++s.plain.varTypes P++fn.resultTypes.toList).any (P.wideKeysFrom ·))&&
 s.vars.all (P.varReadable ·)&&fn.resultTypes.all (λt=>P.readableRec t&&decide (t<P.types.size))&&(c.ifacesOut==fn.resultTypes.toList.any (P.ifacesRec ·))&&(c.loopsOut==fn.resultTypes.toList.any (P.loopsFrom ·))&&(c.plainKeys==P.plainKeys)&&c.shortTexts.isNone&&P.stopsHeard&&P.mayEnter&&(c.lifted==P.liftsFinal)&&(P.make==some c.make)&&(c.kinds==(if c.domain.isEmpty then[] else fn.params.toList.map λt=>match P.underlying t with|some (.int k)=>some k|_=>none))&&(c.pinned==c.pinnedBy)&&
 (c.veiled==(fn.params.toList++s.plain.varTypes P++fn.resultTypes.toList).any (P.veiledRec ·))&&c.veiledFits P fn.params.toList (fn.params.toList++s.plain.varTypes P++fn.resultTypes.toList)
theorem qy0 {P:Program} {f:FuncId} {fn:Func} {s:ChangeSpec} {c:OpenClaim} (b:laidOutB P=true) (d:mapsRowed P=true) (e:(c.inPlace==P.inPlace f)=true) (g:(c.unfollowed==P.unfollowed f)=true)
  (h:(c.recurses==P.recurses f)=true) (i:(c.named==P.varsNamed f)=true) (a:restFacts P f fn s c=true):joinedFacts P f fn s c=true:=by
 unfold restFacts at a;unfold joinedFacts;rw[b,d,e,g,h,i];simp only[Pg];exact a
theorem jM0:mapsRowed P=true:=rK
theorem qP0 {w w':World} (h:Ext w w'):Below w.heap.size w w':=⟨h.os,h.tape,h.output,h.size,λk a=>h.block k a id⟩
theorem u8_wf {n:Int} (h:(Lit.int .u8 n).wf=true):0<=n/\n<256:=by
 simp only[Lit.wf,gh,decide_eq_true_eq] at h;have a:IntKind.u8.min=0:=dC
 have b:IntKind.u8.max=255:=dC
 omega
def yU0 (w:World) (v:Value) (xs:List Nat):Prop:=Vals (λ_=>True) w v (xs.map λx=>Value.int .u8 (x:Nat))/\∀x,x∈xs->x<256
theorem qZ0 (w:World):yU0 w (.slice none 0 0) []:=⟨⟨⟨none,0,rfl,by simp,by simp,λh=>absurd rfl h⟩,by simp⟩,by simp⟩
theorem bytes_of {w:World} {x:Addr} {len cap:Nat} {zs:List Int} (z:len<=cap) (hm:cap<=maxLen) (A:zs.length=cap) (a:∀i,i<zs.length->w.cell? (x.add i)=some (.int .u8 (zs.getD i 0))) (o:∀n,n∈zs->(Lit.int .u8 n).wf=true):
  yU0 w (.slice (some x) len cap) ((zs.take len).map Int.toNat):=by
 have c:∀n,n∈zs.take len->0<=n/\n<256:=λn l=>u8_wf (o n (gQ l));refine⟨⟨⟨some x,cap,?_,?_,by unfold maxLen at hm;exact hm,λm=>?_⟩,λy p=>by obtain⟨u,_,rfl⟩:=gp.1 p;rfl⟩,λy p=>?_⟩
 ·simp only[X0,gg];rw[Gy oM]
 ·simp only[X0,gg];omega
 ·have hlen:0<len:=by
   refine Nat.pos_of_ne_zero λe=>m ?_;subst e;simp
  obtain⟨b,off,spot⟩:=x;have f:=a 0 oM;have d:spot=none:=(by simpa[Addr.add] using World.cell?_spot f);subst d;refine⟨b,off,rfl,trivial,World.block_lt_of_cell? w _ f,λi hi=>?_⟩;simp only[X0,gg] at hi;intro j v h;have hit:i<(zs.take len).length:=by simp only[gg];omega
  have s:((((zs.take len).map Int.toNat).map λx=>Value.int .u8 (x:Nat)).map λx=>[x]).getD i []=[Value.int .u8 (((zs.take len)[i].toNat:Nat):Int)]:=by
   simp[q0,hi]
  rw[s] at h;have t:j=0:=by
   cases j with
   |zero=>rfl
   |succ j=>simp at h
  subst t;simp only[pV,Gj] at h;subst h;have g:i<zs.length:=oM;have q:=a i g;have k:=c _ (GD hit);have r:zs.getD i 0=(zs.take len)[i]:=(by simp[q0,g]);rw[r,yn] at q;rw[Po k.1,yn,GO,pL];exact q
 ·obtain⟨n,l,rfl⟩:=gp.1 p;have:=c n l;omega
end Go.Proofs.YtolbhkcajhlllaaGreatDoor
end
end
