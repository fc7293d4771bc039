import Derived.Test.YtfnpmncplaibiaaGreatDoorWqbP1
import Derived.RangeFuncRecord
import Derived.WalkKit
import Derived.ProofKit
import Derived.OpenShut
import Derived.ShutString
import Derived.ChangeOld
import Derived.JoinedOf
/- A part of the proof. -/
set_option linter.all false
set_option maxRecDepth 9999
set_option maxHeartbeats 2000000
noncomputable section
namespace Go.Vc
open Go Go.RowKit
section
def hasR:Code->Bool
 | .rangeFunc _ _ _ _=>true
 | .seq a b=>hasR a||hasR b
 | .block _ b=>hasR b
 |_=>false
def ovrAt:List Nat->Fr->List Value->Fr
 |[],f,_=>f
 |p::r,f,args=>ovrAt r (put f (some p) (args.headD undef)) args.tail
def jmp (x:Nat) (Nn Nr Nx:World->Prop) (pe:Option Code) (w:World):Prop:=
 match pe with
 |none=>Nn w
 |some .ret=>Nr w
 |some (.exit i)=>i=x/\Nx w
 |_=>False
def Ya0 (gv:Value) (n x:Nat) (w:World) (B:List Value->(World->(World->Prop)->Prop)->(World->Prop)->(World->Prop)->(World->Prop)->World->Prop) (Nn Nr Nx:Nat->World->Prop):Prop:=
 ∃gf lb,gv= .func (.func gf) #[] lb/\∀(l D:Nat) (w1:World) (RR:LoopState->Option Code->World->Prop),D=w.heap.size->l=w.heap.size+1->Ext w w1->w1.heap.size=w.heap.size+2->w1.heap[D]?=some (.deferred (some []))->
  (∀st pe w' w'',RR st pe w'->w''.heap[l]?=w'.heap[l]?->RR st pe w'')->RR .ready none w1->
  (∀(args:List Value) (w':World) (K:oK),args.length=n->RR .ready none w'->
   B args (λw1 k=>RR .ready none w1/\∀w2,Same (· =l) w1 w2->w2.heap.size=w1.heap.size->RR .busy none w2->k w2)
    (λw3=>RR .busy none w3/\∀w4,Same (· =l) w3 w4->w4.heap.size=w3.heap.size->RR .ready none w4->K (.bool true) w4)
    (λw3=>RR .busy none w3/\∀w4,Same (· =l) w3 w4->w4.heap.size=w3.heap.size->RR .done (some .ret) w4->K (.bool false) w4)
    (λw3=>RR .busy none w3/\∀w4,Same (· =l) w3 w4->w4.heap.size=w3.heap.size->RR .done (some (.exit x)) w4->K (.bool false) w4) w'->
   vcallv (.func (.yield l) #[] #[]) ⟨args⟩ w' K)->
  vcall gf ⟨.func (.yield l) #[] #[]::lb.toList⟩ w1 λ_ w3=> ∃st pe,st≠ .busy/\RR st pe w3/\∀w4,Same (· =l) w3 w4->w4.heap.size=w3.heap.size->jmp x (Nn D) (Nr D) (Nx D) pe w4
def rndK (x:Nat) (kn kr kx:World->Prop) (e:Exit) (_:Fr) (w:World):Prop:=
 match e with
 | .normal=>kn w
 | .ret=>kr w
 | .exit i=>cond (Nat.beq i x) (kx w) False
 |_=>False
def vx (T:Ann) (x:Nat):Code->(Exit->Fr->World->Prop)->(Nat->Exit->Fr->World->Prop)->Fr->World->Prop
 | .rangeFunc g ps asg body,_,K1,f,w=>
  Ya0 (ev f g) ps.size x w
   (λargs beg kn kr kx w'=>vc T asg (seqK (λf1 w1=>beg w1 λw2=>vc T body (rndK x kn kr kx) f1 w2) (λ_ _ _=>False)) (ovrAt ps.toList f args) w')
   (λD w'=>K1 D .normal f w') (λD w'=>K1 D .ret f w') (λD w'=>K1 D (.exit x) f w')
 | .seq a b,K0,K1,f,w=>
  match hasR a with
  |true=>vx T x a (seqK (λf' w'=>vc T b K0 f' w') K0) (λD=>seqK (λf' w'=>vc T b (K1 D) f' w') (K1 D)) f w
  |false=>vc T a (seqK (λf' w'=>vx T x b K0 K1 f' w') K0) f w
 | .block id c,K0,K1,f,w=>vx T x c (blkK id K0) (λD=>blkK id (K1 D)) f w
 |_,_,_,_,_=>False
def okX (n:Nat) (T:Ann):Code->Bool
 | .rangeFunc _ ps asg body=>okC n T asg&&(okC n T body&&ps.toList.all λp=>Nat.blt p n)
 | .seq a b=>cond (hasR a) (okX n T a&&okC n T b) (okC n T a&&okX n T b)
 | .block _ c=>okX n T c
 |_=>false
def X90 (D:Nat):Deferred:={target:= .collected D,args:= #[]}
def ZD0 (n:Nat) (K0:Exit->Fr->World->Prop) (K1:Nat->Exit->Fr->World->Prop) (e:Exit) (a:Act) (w:World):Prop:=
 (∃f',Sim [] n f' a/\K0 e f' w)\/ ∃D f',Sim [X90 D] n f' a/\K1 D e f' w
section
variable {T:Ann} {n x:Nat}
theorem Yh0:∀(ps:List Nat) (f:Fr) (args:List Value) (tmps:Array Value),args.length=ps.length->ps.all (λp=>Nat.blt p n)=true->tmps.size=n->(∀t,tmps.getD t undef=f t)->
  Sim [] n (ovrAt ps f args) {tmps:=(ps.zip args).foldl (λt p=>t.setIfInBounds p.1 p.2) tmps,defers:=[]}:=by
 intro ps;induction ps with
 |nil=>intro f args tmps _ _ hs a;exact⟨hs,rfl,a⟩
 |cons p r g=>
  intro f args tmps d b hs a;cases args with
  |nil=>simp at d
  |cons v args=>
   simp only[List.all_cons,gg] at b;have c:p<n:=(by simpa[Pa] using b.1);refine g (put f (some p) v) args (tmps.setIfInBounds p v) (by simpa using d) b.2 (by simpa using hs) λt=>?_;by_cases e:t=p
   .subst e;rw[JY];simp[gX,hs,c]
   .rw[WB _ _ _ _ e,<-a t];simp only[gX];rw[Pm (Ne.symm e)]
theorem Yz (w:World) (l:Nat) (o:Obj):Same (· =l) w (w.putObj l o):=
 ⟨rfl,rfl,rfl,by simp,λ_ _ a=>World.putObj_heap_other a⟩
theorem YB {w:World} {l:Nat} {o:Obj} (h:w.heap[l]?=some o):l<w.heap.size:=(gH.1 h).1
theorem range_sound (hm:P.follows .mixedOrders=true) {g:Operand} {ps:Array Tmp} {asg body:Code} {S:Exit->Fr->World->Prop} {U:Nat->Exit->Fr->World->Prop} {f:Fr} {a:Act} {w:World}
  (z:okX n T (.rangeFunc g ps asg body)=true) (h:vx T x (.rangeFunc g ps asg body) S U f w) (hs:Sim [] n f a):(Code.rangeFunc g ps asg body).wpIn (FR none) 0 P (ZD0 n S U) a w:=by
 simp only[okX,gg] at z;obtain⟨M,N,O⟩:=z;obtain⟨gf,lb,hg,H⟩:=h;refine wpIn_rangeFunc λfn _=>?_
 let d:LoopState->Option Code->Loop:=λst pe=>{state:=st,pending:=pe,fn,tmps:=a.tmps,params:=ps,assign:=asg,body,defers:=w.heap.size}
 obtain⟨w1,q⟩:∃w1,(w.alloc (.deferred (some []))).alloc (.loop (d .ready none))=w1:=⟨_,rfl⟩;have G:w1.heap[w.heap.size+1]?=some (.loop (d .ready none)):=by
  rw[<-q];have:=World.alloc_heap_new (w.alloc (.deferred (some []))) (.loop (d .ready none));rwa[World.size_alloc] at this
 have hD1:w1.heap[w.heap.size]?=some (.deferred (some [])):=by
  rw[<-q];exact(Below.heap_alloc _ _ _ (by simp)).trans (World.alloc_heap_new w _)
 have D:w1.heap.size=w.heap.size+2:=by rw[<-q,World.size_alloc,World.size_alloc]
 have F:Ext w w1:=by
  rw[<-q];exact⟨rfl,rfl,rfl,by rw[World.size_alloc,World.size_alloc];omega,λb Y _=>(Below.heap_alloc _ _ b (by rw[World.size_alloc];omega)).trans (Below.heap_alloc w _ b Y)⟩
 have Z:=H (w.heap.size+1) w.heap.size w1 (λst pe w'=>w'.heap[w.heap.size+1]?=some (.loop (d st pe))) rfl rfl F D hD1 (λst pe w' w'' A he=>he.trans A) G ?_
 .obtain⟨I,r⟩:=Z;refine⟨w.heap.size+1,[X90 w.heap.size],w1,{target:= .fn (.func gf) lb,args:= #[.func (.yield (w.heap.size+1)) #[] #[]]},w1,gf,
   #[.func (.yield (w.heap.size+1)) #[] #[]]++lb,w1,?_,?_,λ_ _=>trivial,?_,λh=>(by cases h),?_⟩
  .rw[<-q];exact run_enterLoop_outer _ _ _ _ _
  .simp only[resolve,hs.eval,hg];simp[go_sem,ev]
  .simp[invoke,go_sem,callFunc_run I]
  .have e:(#[.func (.yield (w.heap.size+1)) #[] #[]]++lb:Array Value)=⟨.func (.yield (w.heap.size+1)) #[] #[]::lb.toList⟩:=by apply GP.1;simp
   rw[e];refine callsIn_wide.2 (Calls.mono r λe E he=>?_);cases e with
   |returned v=>
    obtain⟨st,pe,R,A,X⟩:=he;have u:=run_endLoop (P:=P) A (by exact R);have m:=X _ (Yz E _ (.loop {d st pe with state:= .exhausted})) (by simp);have s:Sim [X90 w.heap.size] n f {a with defers:=[X90 w.heap.size]++a.defers}:=⟨hs.size,by rw[hs.defers];rfl,hs.at_⟩;refine⟨pe,_,u,?_⟩;cases pe with
    |none=>exact .inr ⟨_,f,s,m⟩
    |some c=>
     cases c<;>simp only[jmp] at m<;>try exact m.elim
     case exit i=>
      obtain⟨rfl,m⟩:=m;exact wpIn_exit (.inr ⟨_,f,s,m⟩)
     case ret=>exact wpIn_ret (.inr ⟨_,f,s,m⟩)
   |panicked c=>exact he.elim
   |outgrown=>exact he.elim
 .intro args w' K hlen A W;have hy:=run_yield (P:=P) (args:=(⟨args⟩:Array Value)) A (by simpa[d] using hlen);refine⟨fn,_,asg,body,hy,roundIn_of_wpIn trivial ?_⟩;have C:=Yh0 (n:=n) ps.toList f args a.tmps (by simpa using hlen) O hs.size hs.at_;have ez:((d .ready none).params.zip (⟨args⟩:Array Value)).foldl (λtmps (t,a)=>tmps.setIfInBounds t a) (d .ready none).tmps=(ps.toList.zip args).foldl (λt p=>t.setIfInBounds p.1 p.2) a.tmps:=by
   rw[<-PJ,Array.toList_zip]
  rw[ez];have V:=vc_sound (ro:=some (w.heap.size+1)) hm asg _ _ _ w' M W C (λl f w h=>h);refine wpIn_mono V ?_;rintro e a2 w2 ⟨f2,Q,_,y⟩;cases e<;>simp only[seqK] at y<;>try exact y.elim
  case normal=>
   obtain⟨B,y⟩:=y;refine⟨_,run_beginRound B rfl,?_⟩;have L:=YB B;have J:=y _ (Yz w2 _ (.loop {d .ready none with state:= .busy})) (by simp) (World.putObj_heap_same L);refine wpIn_mono (vc_sound (ro:=some (w.heap.size+1)) hm body _ _ _ _ N J Q (λl f w h=>h)) ?_;rintro e a3 E ⟨f3,a0,_,j⟩;cases e<;>simp only[rndK] at j<;>try exact j.elim
   case normal=>
    obtain⟨k,o⟩:=j;exact⟨_,_,run_endRound none k,o _ (Yz E _ _) (by simp) (World.putObj_heap_same (YB k))⟩
   case ret=>
    obtain⟨k,o⟩:=j;exact⟨_,_,run_endRound (some .ret) k,o _ (Yz E _ _) (by simp) (World.putObj_heap_same (YB k))⟩
   case exit i=>
    cases hi:Nat.beq i x
    .rw[hi] at j;exact j.elim
    .rw[hi] at j;obtain rfl:=gB hi;obtain⟨k,o⟩:=j;exact⟨_,_,run_endRound (some (.exit i)) k,o _ (Yz E _ _) (by simp) (World.putObj_heap_same (YB k))⟩
theorem kA0 (hm:P.follows .mixedOrders=true):∀(c:Code) (p:Exit->Fr->World->Prop) (q:Nat->Exit->Fr->World->Prop) (f:Fr) (a:Act) (w:World),okX n T c=true->vx T x c p q f w->Sim [] n f a->
  (∀l f w,¬p (.goto l) f w)->(∀D l f w,¬q D (.goto l) f w)->c.wpIn (FR none) 0 P (ZD0 n p q) a w:=by
 intro c;induction c with
 |rangeFunc g ps asg body _ _=>intro p q f a w d h hs _ _;exact range_sound hm d h hs
 |seq y z ihy ihz=>
  intro p q f a w d h hs o s;refine wpIn_seq ?_;simp only[okX] at d;simp only[vx] at h;cases E:hasR y with
  |true=>
   rw[E] at d h;simp only[cond,gg] at d;simp only at h;refine wpIn_mono (ihy _ _ f a w d.1 h hs (λl f w h=>o l f w h) (λD l f w h=>s D l f w h)) ?_;rintro e r w' (⟨m,j,k⟩|⟨D,m,j,k⟩)
   .cases e with
    |normal=>
     refine wpIn_mono (vc_sound hm z p m r w' d.2 k j o) ?_;rintro e A w'' ⟨u,t,_,v⟩;exact .inl ⟨u,t,v⟩
    |_=>exact .inl ⟨m,j,k⟩
   .cases e with
    |normal=>
     refine wpIn_mono (vc_sound hm z (q D) m r w' d.2 k j (s D)) ?_;rintro e A w'' ⟨u,t,_,v⟩;exact .inr ⟨D,u,t,v⟩
    |_=>exact .inr ⟨D,m,j,k⟩
  |false=>
   rw[E] at d h;simp only[cond,gg] at d;simp only at h;refine wpIn_mono (vc_sound hm y _ f a w d.1 h hs (λl f w h=>o l f w h)) ?_;rintro e r w' ⟨m,j,_,k⟩;cases e with
   |normal=>exact ihz p q m r w' d.2 k j o s
   |_=>exact .inl ⟨m,j,k⟩
 |block id b F=>
  intro p q f a w d h hs o s;simp only[vx] at h;refine wpIn_block (wpIn_mono (F _ _ f a w d h hs (λl f w h=>o l f w h) (λD l f w h=>s D l f w h)) ?_);have key:∀(K:Exit->Fr->World->Prop) (e:Exit) (m:Fr) (w':World),blkK id K e m w'->∀(df:List Deferred) (r:Act),Sim df n m r->(∀e f w a,Sim df n f a->K e f w->ZD0 n p q e a w)->Exit.inBlock id (ZD0 n p q) e r w':=by
   intro K e m w' k df r j B;cases e with
   |exit i=>
    simp only[blkK] at k;cases hi:Nat.beq i id
    .rw[hi] at k;have C:i≠id:=Nat.ne_of_beq_eq_false hi;simp only[Exit.inBlock,C,if_false];exact B _ _ _ _ j k
    .rw[hi] at k;have:i=id:=gB hi;subst this;simp only[Exit.inBlock,if_true];exact B _ _ _ _ j k
   |_=>exact B _ _ _ _ j k
  rintro e r w' (⟨m,j,k⟩|⟨D,m,j,k⟩)
  .exact key p e m w' k [] r j λe f w a hs h=> .inl ⟨f,hs,h⟩
  .exact key (q D) e m w' k [X90 D] r j λe f w a hs h=> .inr ⟨D,f,hs,h⟩
 |_=>intro p q f a w d;exact absurd d (by simp[okX])
def WN (D:Nat) (w:World) (k:World->Prop):Prop:=w.heap[D]?=some (.deferred (some []))/\∀w',Same (· =D) w w'->w'.heap.size=w.heap.size->k w'
def retM (rs:List ResultVar) (K:oK) (D:Nat) (e:Exit) (f:Fr) (w:World):Prop:=
 match e with
 | .normal=>WN D w λw'=>YI0 rs f w' K
 | .ret=>WN D w λw'=>YI0 rs f w' K
 |_=>False
theorem Jv {g:Nat} {fn:Func} {c:Code} {args:List Value} {w:World} {K:oK} (hm:P.follows .mixedOrders=true) (r:P.funcs[g]?=some fn) (q:fn.body=some c)
  (t:fn.ntmps=n) (s:okFn g=true) (j:okX n T c=true) (hlen:Nat.ble args.length n=true)
  (h:vx T x c (retF fn.results.toList K) (retM fn.results.toList K) (nthV args) w):vcall g args.toArray w K:=by
 refine⟨s,callsIn_wide (n:=0).1 (callsIn_of_wp_marks r q trivial ?_)⟩;rw[t];refine wpIn_mono (kA0 (x:=x) hm c _ _ _ _ w j h (sim_enter args n (Po hlen)) (λl f w h=>h) (λD l f w h=>h)) ?_;rintro e k w' (⟨m,a,b⟩|⟨D,m,a,b⟩)
 .cases e with
  |normal=>obtain⟨v,d,i⟩:=vres_sound b a;rw[bodyPostM,a.defers];exact⟨v,d,i⟩
  |ret=>obtain⟨v,d,i⟩:=vres_sound b a;rw[bodyPostM,a.defers];exact⟨v,d,i⟩
  |_=>exact b.elim
 .have fin:WN D w' (λw'=>YI0 fn.results.toList m w' K)->LeavesInM (FR none) 0 P fn k.tmps (retK K) k.defers .returning w':=by
   rintro⟨o,p⟩;rw[a.defers];obtain⟨v,d,i⟩:=vres_sound (p _ (Yz w' D (.deferred none)) (by simp)) a;exact⟨by simp,.inl ⟨_,_,rfl,run_takeDeferred o,v,d,i⟩⟩
  cases e with
  |normal=>exact fin b
  |ret=>exact fin b
  |_=>exact b.elim
end
end
end Go.Vc
section
namespace Go.M
inductive Tm where
 |mk (op a b:Int) (s:ByteArray) (ks:List Tm)
namespace Tm
def op:Tm->Int|mk o _ _ _ _=>o
def a:Tm->Int|mk _ a _ _ _=>a
def b:Tm->Int|mk _ _ b _ _=>b
def s:Tm->ByteArray|mk _ _ _ s _=>s
def ks:Tm->List Tm|mk _ _ _ _ ks=>ks
theorem ind {p:Tm->Prop} (h:∀t,(∀k,k∈t.ks->p k)->p t):∀t,p t
 |mk o a b s ks=>h _ λk (c:k∈ks)=>by
   have:=List.sizeOf_lt_of_mem c;exact ind h k
decreasing_by
 grind
variable {α:Type}
mutual
def fold (f:Tm->List α->α):Tm->α
 |mk o a b s ks=>f (mk o a b s ks) (foldL f ks)
def foldL (f:Tm->List α->α):List Tm->List α
 |[]=>[]
 |k::r=>fold f k::foldL f r
end
theorem foldL_eq (f:Tm->List α->α) (ks:List Tm):foldL f ks=ks.map (fold f):=by
 induction ks with
 |nil=>simp only[foldL,PG]
 |cons k r a=>simp only[foldL,a,GF]
theorem fold_eq (f:Tm->List α->α) (t:Tm):fold f t=f t (t.ks.map (fold f)):=by
 cases t with
 |mk o a b s ks=>simp only[fold,foldL_eq];rfl
end Tm
def nada:ByteArray:=⟨#[]⟩
instance:Inhabited Tm:=⟨.mk 0 0 0 nada []⟩
def vok (w n:Int):Bool:=decide (1<=w)&&decide (w<=4)&&decide (0<=n)&&decide (n<2^w.toNat)
theorem vok_iff {w n:Int}:vok w n=true↔1<=w/\w<=4/\0<=n/\n<2^w.toNat:=by simp[vok,and_assoc]
theorem four {w:Int} (a:1<=w) (b:w<=4):w=1\/w=2\/w=3\/w=4:=oM
theorem vok_lt {w n:Int} (h:vok w n=true):1<=w/\w<=4/\0<=n/\n<16:=by
 obtain⟨a,b,c,d⟩:=vok_iff.1 h
 grind [four]
theorem small1 {p:Nat->Nat->Prop} [∀w n,Decidable (p w n)] (h:∀w:Fin 5,∀n:Fin 16,1<=w.1->n.1<2^w.1->p w n) {w n:Int} (a:vok w n=true):p w.toNat n.toNat:=by
 obtain⟨b,c,d,e⟩:=vok_lt a;obtain⟨_,_,_,f⟩:=vok_iff.1 a;refine h ⟨w.toNat,oM⟩ ⟨n.toNat,oM⟩ (by grind) ?_
 grind
def unM (op w a:Int):Int:=if op=1 then 2^w.toNat-1-a else(2^w.toNat-a)%2^w.toNat
def binN (op w a b:Nat):Nat:=
 if op=3 then a&&&b
 else if op=4 then a|||b
 else if op=5 then a^^^b
 else if op=6 then(a+b)%2^w
 else if op=7 then(a+2^w-b)%2^w
 else if op=8 then a*b%2^w
 else if op=9 then(if b=0 then 2^w-1 else a/b)
 else if op=10 then(if b=0 then a else a%b)
 else if op=11 then a*2^b%2^w
 else if op=12 then a/2^b
 else if a<2^(w-1) then a/2^b else 2^w-1-(2^w-1-a)/2^b
def binM (op w a b:Int):Int:=binN op.toNat w.toNat a.toNat b.toNat
def catM (v a b:Int):Int:=a*2^v.toNat+b
def sgn (w a:Int):Int:=if a<2^(w.toNat-1) then a else a-2^w.toNat
def cmpM (op w a b:Int):Bool:=if op=15 then decide (a=b) else if op=16 then decide (a<b) else decide (sgn w a<sgn w b)
def cutM (a hi lo:Int):Int:=a/2^lo.toNat%2^(hi-lo+1).toNat
theorem unM_ok {op w a:Int} (h:vok w a=true):vok w (unM op w a)=true:=by
 obtain⟨b,c,d,e⟩:=vok_iff.1 h;refine vok_iff.2 ⟨b,c,?_⟩;unfold unM;omega
def Xm0 (op w:Nat):Bool:=(List.range 16).all λa=>(List.range 16).all λb=> !(decide (a<2^w)&&decide (b<2^w))||decide (binN op w a b<2^w)
theorem binN_lt {op w a b:Nat} (f:3<=op) (h:op<=13) (hw:1<=w) (d:w<=4) (g:a<2^w) (i:b<2^w):binN op w a b<2^w:=by
 have c:∀o:Fin 14,∀v:Fin 5,3<=o.1->1<=v.1->Xm0 o v=true:=by decide+kernel
 have e:2^w<=2^4:=gN oM d;have:=c ⟨op,oM⟩ ⟨w,oM⟩ f hw;simp only[Xm0,gQ,gJ,Gm,gS,GH,decide_eq_false_iff_not,V0] at this
 grind
theorem binM_ok {op w a b:Int} (k:3<=op) (c:op<=13) (g:vok w a=true) (h:vok w b=true):vok w (binM op w a b)=true:=by
 obtain⟨i,j,l,m⟩:=vok_iff.1 g;obtain⟨_,_,d,f⟩:=vok_iff.1 h;have e:((2^w.toNat:Nat):Int)=2^w.toNat:=by simp
 have:=binN_lt (op:=op.toNat) (w:=w.toNat) (a:=a.toNat) (b:=b.toNat) oM oM oM oM oM oM
 grind [vok_iff,binM]
theorem cat_ok {v w a b:Int} (c:vok w a=true) (d:vok v b=true) (hs:w+v<=4):vok (w+v) (catM v a b)=true:=by
 obtain⟨e,f,g,h⟩:=vok_iff.1 c;obtain⟨i,j,k,l⟩:=vok_iff.1 d;refine vok_iff.2 ⟨oM,hs,?_⟩;unfold catM
 grind [four]
theorem cut_ok {w a hi lo:Int} (b:vok w a=true) (c:0<=lo) (h:lo<=hi) (hw:hi<w):vok (hi-lo+1) (cutM a hi lo)=true:=by
 obtain⟨d,e,f,g⟩:=vok_iff.1 b;refine vok_iff.2 ⟨oM,oM,?_⟩;unfold cutM;omega
def vecUn (op w n:Int):(Int×Int)×Bool:=if vok w n=true/\(op=1\/op=2) then((w,unM op w n),true) else((0,0),false)
def vecBin (op w n v m:Int):(Int×Int)×Bool:=
 if vok w n=true/\vok v m=true then
  if op=14 then(if w+v<=4 then((w+v,catM v n m),true) else((0,0),false))
  else if 3<=op/\op<=13/\w=v then((w,binM op w n m),true) else((0,0),false)
 else((0,0),false)
def vecCmp (op w n v m:Int):Bool×Bool:=
 if vok w n=true/\vok v m=true/\w=v/\15<=op/\op<=17 then(cmpM op w n m,true) else(false,false)
def vecCut (w n hi lo:Int):(Int×Int)×Bool:=if vok w n=true/\0<=lo/\lo<=hi/\hi<w then((hi-lo+1,cutM n hi lo),true) else((0,0),false)
theorem vok_nat {w n:Int} (h:vok w n=true):∃k a:Nat,w=k/\n=a/\1<=k/\k<=4/\a<2^k:=by
 obtain⟨b,c,d,e⟩:=vok_iff.1 h;refine⟨w.toNat,n.toNat,oM,oM,oM,oM,?_⟩
 grind
theorem unM_not {k a:Nat} (c:1<=k) (d:k<=4) (h:a<2^k):unM 1 k a=((18446744073709551615-a)%2^k:Nat):=by
 have b:∀v:Fin 5,∀x:Fin 16,1<=v.1->x.1<2^v.1->unM 1 v.1 x.1=((18446744073709551615-x.1)%2^v.1:Nat):=by decide+kernel
 have:2^k<=2^4:=gN oM d;exact b ⟨k,oM⟩ ⟨a,oM⟩ c h
theorem unM_neg {k a:Nat} (c:1<=k) (d:k<=4) (h:a<2^k):unM 2 k a=((if a=0 then 0 else 18446744073709551616-a)%2^k:Nat):=by
 have b:∀v:Fin 5,∀x:Fin 16,1<=v.1->x.1<2^v.1->unM 2 v.1 x.1=((if x.1=0 then 0 else 18446744073709551616-x.1)%2^v.1:Nat):=by decide+kernel
 have:2^k<=2^4:=gN oM d;exact b ⟨k,oM⟩ ⟨a,oM⟩ c h
theorem cat_or {k v a b:Nat} (d:v<=4) (f:k<=4) (i:a<2^k) (e:b<2^v):((a*2^v|||b:Nat):Int)=catM v a b:=by
 have c:∀v:Fin 5,∀x y:Fin 16,y.1<2^v.1->x.1*2^v.1|||y.1=x.1*2^v.1+y.1:=by decide+kernel
 have g:2^k<=2^4:=gN oM f;have h:2^v<=2^4:=gN oM d;have:=c ⟨v,oM⟩ ⟨a,oM⟩ ⟨b,oM⟩ e
 grind [catM]
end Go.M
end
namespace Go.M
open Go.Vc
abbrev Dcl:=ByteArray×Int
def findD (ds:List Dcl) (s:ByteArray):Int:=idxI ds.length λi=>decide ((ds.getD i (nada,0)).1=s)
def tru:ByteArray:=⟨#[116,114,117,101]⟩
def nameOk (s:ByteArray):Bool:=decide (1<=s.size)&&decide (s.size<=4)&&decide (s≠tru)&&s.data.all λc=>decide (97<=c.toNat)&&decide (c.toNat<=122)
def bits (ds:List Dcl):Int:=(ds.map (·.2)).sum
def dclOk (ds:List Dcl) (i:Nat):Bool:=nameOk (ds.getD i (nada,0)).1&&decide (1<=(ds.getD i (nada,0)).2)&&decide ((ds.getD i (nada,0)).2<=4)&&decide (findD (ds.take i) (ds.getD i (nada,0)).1<0)
def declOk (ds:List Dcl):Bool:=decide (ds.length<=4)&&((List.range ds.length).all λi=>dclOk ds i)&&decide (bits ds<=8)
def envOk (ds:List Dcl) (env:oI):Bool:=declOk ds&&decide (env.length=ds.length)&&(List.range ds.length).all λi=>vok (ds.getD i (nada,0)).2 (env.getD i 0)
theorem findD_lt (ds:List Dcl) (s:ByteArray): -1<=findD ds s/\findD ds s<ds.length:=by
 grind [findD,idxI]
theorem findD_neg {ds:List Dcl} {s:ByteArray} (h:findD ds s<0) {j:Nat} (a:j<ds.length):(ds.getD j (nada,0)).1≠s:=by
 grind [findD,idxI]
theorem findD_get {ds:List Dcl} {s:ByteArray} (h:0<=findD ds s):(ds.getD (findD ds s).toNat (nada,0)).1=s:=by
 grind [findD,idxI]
theorem findD_of {ds:List Dcl} {s:ByteArray} {i:Nat} (hi:i<ds.length) (h:(ds.getD i (nada,0)).1=s) (b:∀j,j<i->(ds.getD j (nada,0)).1≠s):findD ds s=i:=
 idxI_some hi (by grind) λj a=>gm (b j a)
theorem findD_none {ds:List Dcl} {s:ByteArray} (b:∀j,j<ds.length->(ds.getD j (nada,0)).1≠s):findD ds s= -1:=
 V7 λj a=>gm (b j a)
theorem decl_iff {ds:List Dcl}:declOk ds=true↔ds.length<=4/\(∀i,i<ds.length->dclOk ds i=true)/\bits ds<=8:=by
 grind [declOk]
theorem take_getD {α:Type} {l:List α} {i j:Nat} {d:α} (h:j<i):(l.take i).getD j d=l.getD j d:=by
 grind
theorem dcl_apart {ds:List Dcl} (h:declOk ds=true) {i j:Nat} (hi:i<ds.length) (b:j<i):(ds.getD j (nada,0)).1≠(ds.getD i (nada,0)).1:=by
 have:=(decl_iff.1 h).2.1 i hi;simp only[dclOk,gg,V0] at this;have a:=findD_neg this.2 (j:=j) (by rw[gh];omega);rwa[take_getD b] at a
def bitT (ds:List Dcl) (i:Nat):Int:=((ds.take i).map (·.2)).sum
theorem bitT_succ {ds:List Dcl} {i:Nat} (h:i<ds.length):bitT ds (i+1)=bitT ds i+(ds.getD i (nada,0)).2:=by
 grind [bitT,List.take_add_one]
theorem bitT_all (ds:List Dcl):bitT ds ds.length=bits ds:=by unfold bitT bits;grind
theorem dcl_wide {ds:List Dcl} (h:declOk ds=true) {i:Nat} (hi:i<ds.length):1<=(ds.getD i (nada,0)).2/\(ds.getD i (nada,0)).2<=4:=by
 simp_all[declOk,dclOk]
theorem env_ok {ds:List Dcl} {env:oI} (h:envOk ds env=true):declOk ds=true/\env.length=ds.length/\∀i,i<ds.length->vok (ds.getD i (nada,0)).2 (env.getD i 0)=true:=by
 grind [envOk]
def sizeM:Tm->Nat:=Tm.fold λ_ xs=>1+xs.sum
def deepM:Tm->Nat:=Tm.fold λ_ xs=>1+xs.foldl max 0
theorem sizeM_eq (t:Tm):sizeM t=1+(t.ks.map sizeM).sum:=Tm.fold_eq _ t
theorem YE (t:Tm):deepM t=1+(t.ks.map deepM).foldl max 0:=Tm.fold_eq _ t
def szT (ks:List Tm) (i:Nat):Nat:=((ks.take i).map sizeM).sum
def dpT (ks:List Tm) (i:Nat):Nat:=((ks.take i).map deepM).foldl max 0
theorem take_add {α:Type} {l:List α} {i:Nat} (h:i<l.length) (d:α):l.take (i+1)=l.take i++[l.getD i d]:=by
 simp_all
theorem szT_succ {ks:List Tm} {i:Nat} (h:i<ks.length):szT ks (i+1)=szT ks i+sizeM (ks.getD i default):=by
 grind [szT,take_add]
theorem dpT_succ {ks:List Tm} {i:Nat} (h:i<ks.length):dpT ks (i+1)=max (dpT ks i) (deepM (ks.getD i default)):=by
 grind [dpT,take_add]
theorem szT_all (t:Tm):sizeM t=1+szT t.ks t.ks.length:=by rw[sizeM_eq,szT,gA]
theorem dpT_all (t:Tm):deepM t=1+dpT t.ks t.ks.length:=by rw[YE,dpT,gA]
theorem szT_mono {ks:List Tm} {i:Nat}:∀{j:Nat},i<=j->j<=ks.length->szT ks i<=szT ks j
 |0,h,_=>by
  grind
 |j+1,h,a=>by
  by_cases e:i=j+1
  .grind
  .have:=szT_mono (ks:=ks) (i:=i) (j:=j) oM oM;rw[szT_succ oM];omega
theorem dpT_mono {ks:List Tm} {i:Nat}:∀{j:Nat},i<=j->j<=ks.length->dpT ks i<=dpT ks j
 |0,h,_=>by
  grind
 |j+1,h,a=>by
  by_cases e:i=j+1
  .grind
  .have:=dpT_mono (ks:=ks) (i:=i) (j:=j) oM oM;rw[dpT_succ oM];omega
def fits (t:Tm):Bool:=decide (sizeM t<=20)&&decide (deepM t<=7)
theorem fits_iff {t:Tm}:fits t=true↔sizeM t<=20/\deepM t<=7:=by simp[fits]
def manyM (t:Tm):Nat:=if fits t then sizeM t else 21
def lvlM (t:Tm):Nat:=if fits t then deepM t else 8
def arity (o:Int):Int:=if o=20\/o=21\/o=24 then 0 else if o=1\/o=2\/o=22\/o=25 then 1 else if o=23 then 3 else if o=26\/o=27 then 2 else if 3<=o/\o<=17 then 2 else-1
def plainM (t:Tm):Bool:=(decide (t.op=20)||decide (t.op=22)||(decide (t.a=0)&&decide (t.b=0)))&&(decide (t.op=21)||decide (t.s=nada))
def sortK (ds:List Dcl) (t:Tm) (xs:oI):Int:=
 if t.op=20 then(if vok t.a t.b then t.a else-1)
 else if t.op=21 then(if findD ds t.s<0 then-1 else(ds.getD (findD ds t.s).toNat (nada,0)).2)
 else if 24<=t.op then(if xs.any (λx=>decide (x≠0)) then-1 else 0)
 else if t.op=23 then(if xs.getD 0 0=0/\xs.getD 1 0=xs.getD 2 0 then xs.getD 1 0 else-1)
 else if t.op=22 then(if 0<=t.b/\t.b<=t.a/\t.a<xs.getD 0 0 then t.a-t.b+1 else-1)
 else if t.op<=2 then(if 0<xs.getD 0 0 then xs.getD 0 0 else-1)
 else if t.op=14 then(if 0<xs.getD 0 0/\0<xs.getD 1 0/\xs.getD 0 0+xs.getD 1 0<=4 then xs.getD 0 0+xs.getD 1 0 else-1)
 else if 15<=t.op then(if 0<xs.getD 0 0/\xs.getD 0 0=xs.getD 1 0 then 0 else-1)
 else(if 0<xs.getD 0 0/\xs.getD 0 0=xs.getD 1 0 then xs.getD 0 0 else-1)
def formed (t:Tm):Bool:=decide (arity t.op=t.ks.length)&&plainM t
def sortF (ds:List Dcl) (t:Tm) (xs:oI):Int:=if formed t=true/\¬(-1∈xs) then sortK ds t xs else-1
def sortM (ds:List Dcl):Tm->Int:=Tm.fold (sortF ds)
theorem sortM_eq (ds:List Dcl) (t:Tm):sortM ds t=sortF ds t (t.ks.map (sortM ds)):=Tm.fold_eq _ t
theorem arity_ops {o:Int} (h:0<=arity o):(1<=o/\o<=17)\/(20<=o/\o<=27):=by
 grind [arity]
theorem getD_map {α β:Type} (f:α->β) {l:List α} {i:Nat} (h:i<l.length) (d:β) (e:α):(l.map f).getD i d=f (l.getD i e):=by
 grind
theorem getD_mem {α:Type} {l:List α} {i:Nat} (h:i<l.length) (d:α):l.getD i d∈l:=by
 grind
theorem sort_parts {ds:List Dcl} {t:Tm} (h:sortM ds t≠ -1):formed t=true/\(∀k,k∈t.ks->sortM ds k≠ -1)/\sortM ds t=sortK ds t (t.ks.map (sortM ds)):=by
 rw[sortM_eq] at h⊢
 grind [sortF]
theorem sort_range {ds:List Dcl} (c:declOk ds=true):∀t,-1<=sortM ds t/\sortM ds t<=4:=by
 refine Tm.ind λt k=>?_;rw[sortM_eq];unfold sortF;split
 .rename_i j;have a:∀i,-1<=(t.ks.map (sortM ds)).getD i 0/\(t.ks.map (sortM ds)).getD i 0<=4:=(by grind);have f:=a 0;have g:=a 1;have h:=a 2;have b:=arity_ops (o:=t.op) (by
   grind [formed])
  unfold sortK;split
  .split
   .rename_i e;have:=vok_lt e;omega
   .omega
  .split
   .have d:=findD_lt ds t.s;split
    .omega
    .have:=dcl_wide c (i:=(findD ds t.s).toNat) oM;omega
   omega
 .omega
def tsort (ds:List Dcl) (t:Tm):Int:=if fits t=true/\declOk ds=true then sortM ds t else-1
def b2i (b:Bool):Int:=if b then 1 else 0
def valK (ds:List Dcl) (env:oI) (t:Tm) (xs:List (Int×Int)):Int:=
 if t.op=20 then t.b
 else if t.op=21 then env.getD (findD ds t.s).toNat 0
 else if t.op=24 then 1
 else if t.op=25 then b2i (decide ((xs.getD 0 (0,0)).2=0))
 else if t.op=26 then b2i (decide ((xs.getD 0 (0,0)).2=1)&&decide ((xs.getD 1 (0,0)).2=1))
 else if t.op=27 then b2i (decide ((xs.getD 0 (0,0)).2=1)||decide ((xs.getD 1 (0,0)).2=1))
 else if t.op=23 then(if(xs.getD 0 (0,0)).2=1 then(xs.getD 1 (0,0)).2 else(xs.getD 2 (0,0)).2)
 else if t.op=22 then cutM (xs.getD 0 (0,0)).2 t.a t.b
 else if t.op<=2 then unM t.op (xs.getD 0 (0,0)).1 (xs.getD 0 (0,0)).2
 else if t.op=14 then catM (xs.getD 1 (0,0)).1 (xs.getD 0 (0,0)).2 (xs.getD 1 (0,0)).2
 else if 15<=t.op then b2i (cmpM t.op (xs.getD 0 (0,0)).1 (xs.getD 0 (0,0)).2 (xs.getD 1 (0,0)).2)
 else binM t.op (xs.getD 0 (0,0)).1 (xs.getD 0 (0,0)).2 (xs.getD 1 (0,0)).2
def vecF (ds:List Dcl) (env:oI) (t:Tm) (xs:List (Int×Int)):Int×Int:=(sortF ds t (xs.map (·.1)),valK ds env t xs)
def vecM (ds:List Dcl) (env:oI):Tm->Int×Int:=Tm.fold (vecF ds env)
def evalM (ds:List Dcl) (env:oI) (t:Tm):Int:=(vecM ds env t).2
theorem j30 (ds:List Dcl) (env:oI) (t:Tm):vecM ds env t=vecF ds env t (t.ks.map (vecM ds env)):=Tm.fold_eq _ t
theorem vecM_sort (ds:List Dcl) (env:oI):∀t,(vecM ds env t).1=sortM ds t:=by
 refine Tm.ind λt a=>?_;rw[j30,sortM_eq];show sortF ds t _=_
 grind [List.map_congr_left]
theorem vecM_pair (ds:List Dcl) (env:oI) (t:Tm):vecM ds env t=(sortM ds t,evalM ds env t):=by rw[<-vecM_sort ds env t];rfl
theorem evalM_eq (ds:List Dcl) (env:oI) (t:Tm):evalM ds env t=valK ds env t (t.ks.map (vecM ds env)):=by
 unfold evalM;rw[j30];rfl
def inS (w n:Int):Prop:=(w=0/\(n=0\/n=1))\/vok w n=true
theorem Z90 {b:Bool}:inS 0 (b2i b):=by left;cases b<;>simp[b2i]
theorem inS_zero {n:Int} (h:inS 0 n):n=0\/n=1:=by
 rcases h with h|h
 .exact h.2
 .exact absurd (vok_lt h).1 oM
theorem inS_pos {w n:Int} (h:inS w n) (hw:0<w):vok w n=true:=by
 rcases h with h|h
 .omega
 .exact h
theorem eval_in {ds:List Dcl} {env:oI} (he:envOk ds env=true):∀t,sortM ds t≠ -1->inS (sortM ds t) (evalM ds env t):=by
 obtain⟨A,C,D⟩:=env_ok he;refine Tm.ind λt E h=>?_;obtain⟨r,B,hs⟩:=sort_parts h;rw[hs] at h;rw[hs,evalM_eq];simp only[formed,gg,V0] at r;obtain⟨x,z⟩:=r;have u:=arity_ops (o:=t.op) oM;have k:∀i,i<t.ks.length->(t.ks.map (sortM ds)).getD i 0=sortM ds (t.ks.getD i default):=by grind
 have l:∀i,i<t.ks.length->(t.ks.map (vecM ds env)).getD i (0,0)=(sortM ds (t.ks.getD i default),evalM ds env (t.ks.getD i default)):=by grind [getD_map,default,vecM_pair]
 have b:∀i,i<t.ks.length->inS (sortM ds (t.ks.getD i default)) (evalM ds env (t.ks.getD i default)):=by grind
 unfold sortK at h⊢;unfold valK;by_cases d:t.op=20
 .simp only[d,if_true] at h⊢;split
  .right;assumption
  grind
 simp only[y3 d] at h⊢;by_cases f:t.op=21
 .simp only[f,if_true] at h⊢;have y:=findD_lt ds t.s;split
  .omega
  .right;grind
 simp only[y3 f] at h⊢;by_cases j:24<=t.op
 .simp only[X0 j] at h⊢;split
  .grind
  .rcases(by omega:t.op=24\/t.op=25\/t.op=26\/t.op=27) with e|e|e|e
   .left;simp[e]
   .simp only[e];exact Z90
   .simp only[e];exact Z90
   .simp only[e];exact Z90
 simp only[y3 j,y3 (show¬t.op=24 by omega),y3 (show¬t.op=25 by omega),y3 (show¬t.op=26 by omega),y3 (show¬t.op=27 by omega)] at h⊢;by_cases n:t.op=23
 .grind [arity]
 simp only[y3 n] at h⊢;by_cases g:t.op=22
 .simp only[g,if_true] at h⊢;have q:t.ks.length=1:=(by grind [arity]);rw[k 0 oM] at h⊢;rw[l 0 oM];split
  .rename_i a;right;exact cut_ok (inS_pos (b 0 oM) oM) a.1 a.2.1 a.2.2
  omega
 simp only[y3 g] at h⊢;by_cases p:t.op<=2
 .simp only[X0 p] at h⊢;have q:t.ks.length=1:=by
   grind [arity]
  rw[k 0 oM] at h⊢;rw[l 0 oM];split
  .rename_i a;right
   grind [unM_ok,inS_pos]
  omega
 simp only[y3 p] at h⊢;have q:t.ks.length=2:=by
  grind [arity]
 have v:=k 0 oM;have w:=k 1 oM;rw[v,w] at h⊢;rw[l 0 oM,l 1 oM];have i0:=b 0 oM;have i1:=b 1 oM;by_cases c:t.op=14
 .simp only[c,if_true] at h⊢;split
  .rename_i a;right;exact cat_ok (inS_pos i0 a.1) (inS_pos i1 a.2.1) a.2.2
  omega
 simp only[y3 c] at h⊢;by_cases m:15<=t.op
 .grind [Z90]
 simp only[y3 m] at h⊢;split
 .rename_i a;right
  grind [binM_ok,inS_pos]
 omega
end Go.M
namespace Go.Vc
open Go Go.M
section
section
variable {F F' S:oA} {w w':World} {K:oK} {k:Nat} {v:Value} {xs:List (List Value)}
theorem Sl.ldAgg (h:Sl F w k v xs) {t:TypeId} (b:aggB t k=true) {i:Nat} (hi:i<xs.length):zu t (oE (eaddr v k i)) w K=K (.agg ⟨xs.getD i []⟩) w:=by
 have a:(xs.getD i []).length=k:=h.wide _ (M.getD_mem hi _);exact XP (by rw[a];exact b) (Sl.cells h hi)
theorem Sl.ldField (h:Sl F w k v xs) {t:TypeId} (a:oneB t=true) {i j:Nat} {x:Value} (hi:i<xs.length) (b:(xs.getD i [])[j]?=some x):zu t (oE ((eaddr v k i).add j)) w K=K x w:=
 zZ a (Sl.cells h hi j x b)
theorem Sl.small (h:Sl F w k v xs):xs.length<=9223372036854775807:=by
 obtain⟨_,_,_,a,b,_⟩:=h.shape;omega
end
inductive TmR (F:oA) (w:World):List Value->Tm->Prop
 |mk {o a b:Int} {s:ByteArray} {ks:List Tm} {kv:Value} {css:List (List Value)}:Sl F w 5 kv css->css.length=ks.length->(∀i,i<ks.length->TmR F w (css.getD i []) (ks.getD i default))->
  TmR F w [nI o,nI a,nI b,.string s,kv] (.mk o a b s ks)
def TmsR (F:oA) (w:World) (kv:Value) (ks:List Tm):Prop:= ∃css:List (List Value),Sl F w 5 kv css/\css.length=ks.length/\∀i,i<ks.length->TmR F w (css.getD i []) (ks.getD i default)
def TermR (F:oA) (w:World) (v:Value) (t:Tm):Prop:= ∃kv,v= .agg ⟨[nI t.op,nI t.a,nI t.b,.string t.s,kv]⟩/\TmsR F w kv t.ks
def DclsR (F:oA) (w:World) (v:Value) (ds:List Dcl):Prop:=Sl F w 2 v (ds.map λd=>[.string d.1,nI d.2])
section
variable {F F' S:oA} {w w':World} {K:oK} {v:Value} {cs:List Value} {t:Tm} {ks:List Tm} {ds:List Dcl}
theorem TmR.same (h:TmR F w cs t) (hw:Same S w w') (hs:∀b,F b->b<w.heap.size->¬S b):TmR F w' cs t:=by
 induction h with
 |mk a c e d=>exact .mk (a.same hw hs) c d
theorem TmR.ext (h:TmR F w cs t) (hw:Ext w w'):TmR F w' cs t:=h.same hw λ_ _ _ h=>h
theorem TmR.weaken (h:TmR F w cs t) (d:∀b,F b->b<w.heap.size->F' b):TmR F' w cs t:=by
 induction h with
 |mk a c f e=>exact .mk (a.weaken d) c e
theorem TmR.inv (h:TmR F w cs t):∃kv,cs=[nI t.op,nI t.a,nI t.b,.string t.s,kv]/\TmsR F w kv t.ks:=by
 cases h with
 |mk c d e=>exact⟨_,rfl,_,c,d,e⟩
theorem TmR.of {kv:Value} (h:TmsR F w kv t.ks):TmR F w [nI t.op,nI t.a,nI t.b,.string t.s,kv] t:=by
 obtain⟨css,c,d,e⟩:=h;cases t with
 |mk o a b s ks=>exact .mk c d e
theorem TmR.term (h:TmR F w cs t):TermR F w (.agg ⟨cs⟩) t:=by
 obtain⟨kv,rfl,a⟩:=h.inv;exact⟨kv,rfl,a⟩
theorem TermR.cells (h:TermR F w v t):∃cs,v= .agg ⟨cs⟩/\TmR F w cs t:=by
 obtain⟨kv,rfl,a⟩:=h;exact⟨_,rfl,TmR.of a⟩
theorem TmsR.same (h:TmsR F w v ks) (hw:Same S w w') (hs:∀b,F b->b<w.heap.size->¬S b):TmsR F w' v ks:=by
 obtain⟨css,a,c,d⟩:=h;exact⟨css,a.same hw hs,c,λi hi=>(d i hi).same hw hs⟩
theorem TmsR.ext (h:TmsR F w v ks) (hw:Ext w w'):TmsR F w' v ks:=h.same hw λ_ _ _ h=>h
theorem TmsR.weaken (h:TmsR F w v ks) (a:∀b,F b->b<w.heap.size->F' b):TmsR F' w v ks:=by
 obtain⟨css,c,d,e⟩:=h;exact⟨css,c.weaken a,d,λi hi=>(e i hi).weaken a⟩
theorem TermR.same (h:TermR F w v t) (hw:Same S w w') (hs:∀b,F b->b<w.heap.size->¬S b):TermR F w' v t:=by
 obtain⟨kv,a,c⟩:=h;exact⟨kv,a,c.same hw hs⟩
theorem TermR.ext (h:TermR F w v t) (hw:Ext w w'):TermR F w' v t:=h.same hw λ_ _ _ h=>h
theorem TermR.weaken (h:TermR F w v t) (d:∀b,F b->b<w.heap.size->F' b):TermR F' w v t:=by
 obtain⟨kv,a,c⟩:=h;exact⟨kv,a,c.weaken d⟩
theorem TmsR.small (h:TmsR F w v ks):ks.length<=9223372036854775807:=by
 obtain⟨css,a,b,c⟩:=h;rw[<-b];exact a.small
theorem TmsR.len (h:TmsR F w v ks) {t:TypeId} (c:isSl t=true) (ty:TypeId):vbi .len [t] ty [v] w' K=K (nI ks.length) w':=by
 obtain⟨css,a,b,d⟩:=h;have:=Sl.len (K:=K) (w':=w') a c ty;rwa[b] at this
theorem TmsR.iaddr (h:TmsR F w v ks) {t:TypeId} (e:elB t 5=true) {kd:IntKind} {i:Int} (b:0<=i) (c:i<ks.length):
  ya t v (.int kd i) w' K=K (oE (eaddr v 5 i.toNat)) w':=by
 obtain⟨css,a,d,f⟩:=h;exact Sl.iaddr a e b (by rw[d];exact c)
theorem TmsR.load (h:TmsR F w v ks) {t:TypeId} (d:aggB t 5=true) {i:Nat} (hi:i<ks.length) (c:∀x,TermR F w x (ks.getD i default)->K x w):zu t (oE (eaddr v 5 i)) w K:=by
 obtain⟨css,a,e,b⟩:=h;rw[a.ldAgg d oM];exact c _ (b i hi).term
theorem TmsR.nil:TmsR F w (oN) []:=⟨[],⟨⟨none,0,rfl,by simp,by simp,by simp⟩,by simp⟩,rfl,by simp⟩
theorem DclsR.same (h:DclsR F w v ds) (hw:Same S w w') (hs:∀b,F b->b<w.heap.size->¬S b):DclsR F w' v ds:=Sl.same h hw hs
theorem DclsR.ext (h:DclsR F w v ds) (hw:Ext w w'):DclsR F w' v ds:=Sl.ext h hw
theorem DclsR.weaken (h:DclsR F w v ds) (a:∀b,F b->b<w.heap.size->F' b):DclsR F' w v ds:=Sl.weaken h a
theorem DclsR.len (h:DclsR F w v ds) {t:TypeId} (a:isSl t=true) (ty:TypeId):vbi .len [t] ty [v] w' K=K (nI ds.length) w':=by
 have:=Sl.len (K:=K) (w':=w') h a ty;rwa[K3] at this
theorem DclsR.iaddr (h:DclsR F w v ds) {t:TypeId} (c:elB t 2=true) {kd:IntKind} {i:Int} (a:0<=i) (b:i<ds.length):
  ya t v (.int kd i) w' K=K (oE (eaddr v 2 i.toNat)) w':=Sl.iaddr h c a (by rw[K3];exact b)
theorem zn0 {i:Nat} (hi:i<ds.length):(ds.map λd=>[Value.string d.1,nI d.2]).getD i []=[.string (ds.getD i (nada,0)).1,nI (ds.getD i (nada,0)).2]:=M.getD_map _ hi _ _
theorem DclsR.load (h:DclsR F w v ds) {t:TypeId} (a:aggB t 2=true) {i:Nat} (hi:i<ds.length):zu t (oE (eaddr v 2 i)) w K=K (.agg ⟨[.string (ds.getD i (nada,0)).1,nI (ds.getD i (nada,0)).2]⟩) w:=by
 rw[Sl.ldAgg h a (by rw[K3];exact hi),zn0 hi]
theorem DclsR.load0 (h:DclsR F w v ds) {t:TypeId} (a:oneB t=true) {i:Nat} (hi:i<ds.length):zu t (oE ((eaddr v 2 i).add 0)) w K=K (.string (ds.getD i (nada,0)).1) w:=
 Sl.ldField h a (by rw[K3];exact hi) (by rw[zn0 hi];rfl)
theorem DclsR.load1 (h:DclsR F w v ds) {t:TypeId} (a:oneB t=true) {i:Nat} (hi:i<ds.length):zu t (oE ((eaddr v 2 i).add 1)) w K=K (nI (ds.getD i (nada,0)).2) w:=
 Sl.ldField h a (by rw[K3];exact hi) (by rw[zn0 hi];rfl)
theorem DclsR.small (h:DclsR F w v ds):ds.length<=9223372036854775807:=by have:=Sl.small h;simpa using this
theorem Sl.base {k:Nat} {xs:List (List Value)} (h:Sl F w k v xs) (f:xs≠[]):∀a l c,v= .slice (some a) l c->∃b o,a=⟨b,o,none⟩:=by
 intro a l c e;obtain⟨i,c',rfl,_,_,g⟩:=h.shape;obtain⟨b,o,rfl,_⟩:=g f
 injection e with d j m
 injection d with d
 exact⟨b,o,d.symm⟩
theorem Sl.taken {k:Nat} {xs:List (List Value)} (h:Sl F w k v xs) {n:Nat} (t:n<=xs.length):Sl F w k (cutV v n) (xs.take n):=by
 obtain⟨a,c,rfl,s,m,q⟩:=h.shape;have l:(xs.take n).length=n:=by rw[gh];omega
 refine⟨⟨a,c,by rw[l];rfl,oM,m,λj=>?_⟩,λx r=>h.wide x (gU r)⟩;have f:xs≠[]:=λe=>j (by rw[e,List.take_nil]);obtain⟨b,o,e,p,g,d⟩:=q f;refine⟨b,o,e,p,g,λi hi=>?_⟩;rw[l] at hi;rw[M.take_getD hi];exact d i oM
theorem DclsR.cut (h:DclsR F w v ds) (a:ds≠[]) {t:TypeId} (c:elB t 2=true) {kd:IntKind} {n:Nat} (b:n<=ds.length):xy t v none (some (.int kd n)) none w' K=K (cutV v n) w':=
 Sl.cut h (Sl.base h (by simpa using a)) c (by rw[K3];exact b)
theorem DclsR.taken (h:DclsR F w v ds) {n:Nat} (a:n<=ds.length):DclsR F w (cutV v n) (ds.take n):=by
 unfold DclsR;rw[GG];exact Sl.taken h (by rw[K3];exact a)
theorem Blk.sl1k {b k:Nat} {cs:List Value} {e:TypeId} (h:Blk w b cs e) (d:cs.length=k):Sl (· =b) w k (.slice (some ⟨b,0,none⟩) 1 1) [cs]:=by
 refine⟨⟨_,1,rfl,gr _,dC,λ_=>⟨b,0,rfl,rfl,h.lt,λi hi j v c=>?_⟩⟩,by simp[d]⟩;have a:i=0:=by simpa using hi
 subst a;rw[yw];simp only[PZ,Gi,G7];exact h.cell c
theorem Own.app1k {bs ty b k:Nat} {t e:TypeId} {xs:List (List Value)} {y:List Value} (h:Own 0 k t w v xs) (g:elZ t k bs=true) (j:0<k) (i:Blk w b y e) (l:y.length=k) (a:∀c,c∈y->c.oneCell'=true)
  (d:xs.length<9223372036854775807) (hlen:(xs.length+1)*bs<=140737488355328)
  (f:∀v' w',Own 0 k t w' v' (xs++[y])->Same (λb=>v.ownBlock=some b) w w'->(∀b,v'.ownBlock=some b->v.ownBlock=some b\/w.heap.size<=b)->K v' w'):vbi .append [t,t] ty [v,.slice (some ⟨b,0,none⟩) 1 1] w K:=
 vappend (F:=(· =b)) g j h (i.sl1k l) (by simpa using a) oM (by rw[gG];omega) (by simpa using hlen) f
theorem qJ {t e k:Nat} {z x:Value} {y:List Value} (hu:P.underlying t=some (.slice e)) (l:qr e k=true) (hzero:yl e z) (i:x.cells=⟨y⟩) (j:y.length=k) (h:k<=16777216)
  (g:∀b w',b=w.heap.size->Ext w w'->w'.heap.size=w.heap.size+1->Blk w' b y e->K (.slice (some ⟨b,0,none⟩) 1 1) w'):vbuildS t 1 [(0,x)] w K:=by
 refine vbuildS_row (xs:=[x]) (us:=[y]) hu l hzero (by simp[i]) (by simp[j]) (by simpa using h) λb w' a c d f=>g b w' a c d (by simpa using f)
theorem Blk.ownk {b k n:Nat} {t:TypeId} {css:List (List Value)} (h:Blk w b css.flatten (Yp t)) (hw:∀x,x∈css->x.length=k) (c:n=css.length) (hm:n<=9223372036854775807):Own 0 k t w (.slice (some ⟨b,0,none⟩) n n) css:=by
 subst c;have a:=flatten_len hw;refine⟨⟨by rw[a],.inr ⟨b,css.length,⟨css.flatten⟩,by simp,Gf _,h,gr _,by simpa[maxLen] using hm,by simpa using a,?_⟩⟩,hw⟩;show List.take (css.length*k) css.flatten=css.flatten;rw[<-a,gA]
theorem flatten_set {k:Nat}:∀{xs:List (List Value)} (_:∀x,x∈xs->x.length=k) {i j:Nat} (u:Value),i<xs.length->j<k->xs.flatten.set (i*k+j) u=(xs.set i ((xs.getD i []).set j u)).flatten
 |[],_,i,j,u,hi,_=>by simp at hi
 |x::r,h,i,j,u,hi,a=>by
  have c:=h x gk;cases i with
  |zero=>
   rw[PZ,Gi];simp only[GR,po,pf];rw[List.set_append_left _ _ oM]
  |succ i=>
   simp only[GR,PI,pg];rw[pM _ _ (by rw[pa];omega)];congr 1;have e:(i+1)*k+j-x.length=i*k+j:=by rw[pa];omega
   rw[e,flatten_set (λy b=>h y (gp _ b)) u (by simpa using hi) a]
theorem Own.stCell {k:Nat} {t e:TypeId} {xs:List (List Value)} {x:Value} (h:Own 0 k t w v xs) (E:x.cells= #[x]) (o:x.oneCell'=true) (G:qr e 1=true) {i j:Nat} (hi:i<xs.length) (C:j<k)
  (p:∀w',Own 0 k t w' v (xs.set i ((xs.getD i []).set j x))->Same (λb=>v.ownBlock=some b) w w'->w'.heap.size=w.heap.size->K undef w'):zG e (oE ((eaddr v k i).add j)) x w K:=by
 rcases h.row.2 with⟨rfl,I⟩|⟨g,cap,cur,rfl,s,H,D,z,A,n⟩
 .omega
 .have a:=h.row;have d:i*k+j<xs.length*k:=by
   have:i*k+k<=xs.length*k:=by rw[<-Nat.succ_mul];exact pT _ hi
   omega
  have u:=World.ownsRow.cellAt a (i*k+j) d;have B:=World.ownsRow.frozenAt a (i*k+j);obtain⟨l,m⟩:=World.ownsRow.stored a (i*k+j) x;have f:(xs.getD i []).length=k:=h.wide _ (M.getD_mem hi _);have c:w.cell? ⟨g,i*k+j,none⟩=some (xs.flatten.getD (i*k+j) undef):=by
   rw[u];have:i*k+j<xs.flatten.length:=by rw[flatten_len h.wide];exact d
   rw[y4,gd this];rfl
  have r:(⟨g,i*k+j,none⟩:Addr).add 0=⟨g,i*k+j,none⟩:=rfl;have he:(eaddr (.slice (some ⟨g,0,none⟩) xs.length cap) k i).add j=⟨g,i*k+j,none⟩:=by
   simp only[eaddr];rw[yw];simp
  rw[he];refine⟨(),w.setCell ⟨g,i*k+j,none⟩ x,?_,p _ ?_ (Same.of_grown m) (by simp)⟩
  .simp only[Instr.storeAt,Instr.sureAddr,Sem.run_bind,Sem.run_pure,Result.andThen_ok,storeVar,run_sizeOf G,E];cases x<;>first|(cases o;done)|simp[storeCells,store,Sem.run,r,c,B]
  .refine⟨?_,λy F=>?_⟩
   .rw[<-flatten_set h.wide x hi C];simpa using l
   .obtain⟨q,J,rfl⟩:=gq F;rw[pF];split
    .rw[gP];exact f
    .exact h.wide _ (pj _)
def PairsR (F:oA) (w:World) (v:Value) (xs:List (Int×Int)):Prop:=Sl F w 2 v (xs.map λx=>[nI x.1,nI x.2])
def OwnP (t:TypeId) (w:World) (v:Value) (xs:List (Int×Int)):Prop:=Own 0 2 t w v (xs.map λx=>[nI x.1,nI x.2])
variable {xs:List (Int×Int)}
theorem PairsR.ext (h:PairsR F w v xs) (hw:Ext w w'):PairsR F w' v xs:=Sl.ext h hw
theorem PairsR.iaddr (h:PairsR F w v xs) {t:TypeId} (c:elB t 2=true) {kd:IntKind} {i:Int} (a:0<=i) (b:i<xs.length):
  ya t v (.int kd i) w' K=K (oE (eaddr v 2 i.toNat)) w':=Sl.iaddr h c a (by rw[K3];exact b)
theorem PairsR.load (h:PairsR F w v xs) {t:TypeId} (a:aggB t 2=true) {i:Nat} (hi:i<xs.length):zu t (oE (eaddr v 2 i)) w K=K (.agg ⟨[nI (xs.getD i (0,0)).1,nI (xs.getD i (0,0)).2]⟩) w:=by
 rw[Sl.ldAgg h a (by rw[K3];exact hi),M.getD_map _ hi _ (0,0)]
theorem PairsR.load1 (h:PairsR F w v xs) {t:TypeId} (a:oneB t=true) {i:Nat} (hi:i<xs.length):zu t (oE ((eaddr v 2 i).add 1)) w K=K (nI (xs.getD i (0,0)).2) w:=
 Sl.ldField h a (by rw[K3];exact hi) (by rw[M.getD_map _ hi _ (0,0)];rfl)
theorem OwnP.pairs {t:TypeId} (h:OwnP t w v xs):PairsR (λb=>v.ownBlock=some b) w v xs:=Own.sl h
theorem OwnP.ext {t:TypeId} (h:OwnP t w v xs) (hw:Ext w w'):OwnP t w' v xs:=Own.ext h hw
theorem OwnP.nil (t:TypeId):OwnP t w (oN) []:=Own.nil 0 2 t w
end
end
end Go.Vc
namespace Go.Proofs.YtfnpmncplaibiaaGreatDoor
open Go Go.Vc Go.Proofs
theorem mixed:P.follows .mixedOrders=true:=rK
abbrev Zq:Nat:=3
abbrev Xc:Nat:=7
abbrev VK:Nat:=8
abbrev JA:Nat:=9
abbrev Xb:Nat:=10
abbrev Xa:Nat:=11
abbrev ZF:Nat:=12
abbrev VM:Nat:=13
abbrev VN:Nat:=14
abbrev VL:Nat:=15
abbrev JD:Nat:=16
abbrev JB:Nat:=17
abbrev JC:Nat:=18
abbrev JE:Nat:=19
abbrev Uy:Nat:=33
abbrev KF:Nat:=36
abbrev KG:Nat:=37
abbrev Uw:Nat:=38
abbrev Uv:Nat:=39
abbrev zP0:Nat:=40
abbrev zO0:Nat:=41
abbrev Vv:Nat:=42
abbrev Kw:Nat:=43
abbrev Vw:Nat:=44
abbrev KC:Nat:=45
abbrev Uu:Nat:=46
abbrev Q4:Nat:=47
abbrev Ya:Nat:=48
abbrev xG:Nat:=49
abbrev JG:Nat:=50
abbrev qK:Nat:=51
abbrev Uz:Nat:=52
abbrev Ux:Nat:=53
abbrev Y2:Nat:=54
abbrev Us:Nat:=68
abbrev Kz:Nat:=69
abbrev UC:Nat:=71
abbrev U1:Nat:=75
abbrev x70:Nat:=76
abbrev y00:Nat:=77
abbrev Ug:Nat:=78
abbrev y30:Nat:=79
abbrev U8:Nat:=80
abbrev KD:Nat:=81
abbrev yi0:Nat:=82
abbrev ye0:Nat:=83
abbrev UJ:Nat:=84
abbrev xU:Nat:=85
abbrev qd0:Nat:=86
abbrev KN:Nat:=87
abbrev QT:Nat:=88
abbrev Xx:Nat:=89
abbrev kR:Nat:=90
abbrev qL:Nat:=93
abbrev Uj:Nat:=104
abbrev Uk:Nat:=105
abbrev KB:Nat:=106
abbrev Ui:Nat:=107
abbrev KJ:Nat:=108
abbrev UB:Nat:=109
abbrev U0:Nat:=110
abbrev Vx:Nat:=111
abbrev x80:Nat:=112
abbrev zV0:Nat:=113
abbrev zW0:Nat:=114
abbrev U7:Nat:=115
abbrev y70:Nat:=116
abbrev xa0:Nat:=117
abbrev Un:Nat:=118
abbrev yh0:Nat:=119
abbrev Jr:Nat:=120
abbrev Vu:Nat:=121
abbrev xV:Nat:=122
abbrev jm0:Nat:=123
abbrev Y1:Nat:=124
abbrev KP:Nat:=125
abbrev jV:Nat:=126
abbrev Jt:Nat:=127
abbrev VO:Nat:=128
abbrev UF:Nat:=129
abbrev Zr:Nat:=130
abbrev Xy:Nat:=131
abbrev jA:Nat:=132
abbrev kF:Nat:=133
abbrev yc0:Nat:=134
abbrev yo0:Nat:=139
abbrev Z5:Nat:=140
abbrev yd0:Nat:=146
abbrev VI:Nat:=147
abbrev ya0:Nat:=148
abbrev Um:Nat:=149
abbrev kq:Nat:=150
abbrev jz:Nat:=151
abbrev qM:Nat:=152
abbrev je:Nat:=153
abbrev zN0:Nat:=154
abbrev WZ:Nat:=155
abbrev U2:Nat:=156
abbrev zX0:Nat:=157
abbrev x90:Nat:=158
abbrev zT0:Nat:=159
abbrev zY0:Nat:=160
abbrev U6:Nat:=161
abbrev U3:Nat:=162
abbrev U4:Nat:=163
abbrev zS0:Nat:=164
abbrev zU0:Nat:=165
abbrev Vy:Nat:=166
abbrev Vz:Nat:=167
abbrev y80:Nat:=168
abbrev Ul:Nat:=169
abbrev Uh:Nat:=170
abbrev VF:Nat:=171
abbrev y60:Nat:=172
abbrev Ud:Nat:=173
abbrev VB:Nat:=174
abbrev xb0:Nat:=175
abbrev qi:Nat:=183
abbrev yk0:Nat:=184
abbrev Js:Nat:=185
abbrev VX:Nat:=186
abbrev VW:Nat:=187
abbrev VV:Nat:=188
abbrev VU:Nat:=189
abbrev qA:Nat:=190
abbrev JH:Nat:=191
abbrev Q7:Nat:=192
abbrev Xd:Nat:=193
abbrev jk:Nat:=194
abbrev X8:Nat:=195
abbrev KH:Nat:=196
abbrev VR:Nat:=197
abbrev Y9:Nat:=198
abbrev qj:Nat:=199
abbrev Y8:Nat:=200
abbrev QV:Nat:=201
abbrev kU:Nat:=202
abbrev ZM:Nat:=203
abbrev yP0:Nat:=204
abbrev yn0:Nat:=206
abbrev VJ:Nat:=212
abbrev KQ:Nat:=213
abbrev KR:Nat:=214
abbrev qc0:Nat:=215
abbrev KT:Nat:=216
abbrev Q8:Nat:=217
abbrev y10:Nat:=218
abbrev zR0:Nat:=219
abbrev zQ0:Nat:=220
abbrev U5:Nat:=221
abbrev Jz:Nat:=222
abbrev xd0:Nat:=223
abbrev VG:Nat:=224
abbrev xc0:Nat:=225
abbrev KA:Nat:=226
abbrev VH:Nat:=227
abbrev VE:Nat:=228
abbrev Ua:Nat:=229
abbrev Kx:Nat:=230
abbrev y20:Nat:=231
abbrev VA:Nat:=232
abbrev Ue:Nat:=233
abbrev VC:Nat:=234
abbrev Z6:Nat:=239
abbrev UA:Nat:=240
abbrev qb:Nat:=244
abbrev kD:Nat:=245
abbrev xe0:Nat:=246
abbrev Zv:Nat:=247
abbrev qN:Nat:=248
abbrev VS:Nat:=249
abbrev kS:Nat:=250
abbrev qc:Nat:=251
abbrev Qg:Nat:=252
abbrev QW:Nat:=253
abbrev Qf:Nat:=254
abbrev kT:Nat:=255
abbrev Y7:Nat:=256
abbrev YM:Nat:=257
abbrev Xt:Nat:=258
abbrev Xw:Nat:=259
abbrev YL:Nat:=260
abbrev Qc:Nat:=261
abbrev KI:Nat:=262
abbrev Q9:Nat:=263
abbrev UD:Nat:=264
abbrev Zu:Nat:=265
abbrev Jq:Nat:=266
abbrev Jp:Nat:=267
abbrev zZ0:Nat:=268
abbrev y90:Nat:=269
abbrev Up:Nat:=270
abbrev yg0:Nat:=271
abbrev Uq:Nat:=272
abbrev Ur:Nat:=273
abbrev Uf:Nat:=274
abbrev U9:Nat:=275
abbrev Ub:Nat:=276
abbrev Uc:Nat:=277
abbrev y50:Nat:=278
abbrev K2:Nat:=282
abbrev KE:Nat:=285
abbrev JI:Nat:=286
abbrev qp:Nat:=287
abbrev Xv:Nat:=288
abbrev Qe:Nat:=289
abbrev Qd:Nat:=290
abbrev Xu:Nat:=291
abbrev QU:Nat:=292
abbrev QR:Nat:=293
abbrev Y5:Nat:=294
abbrev YJ:Nat:=295
abbrev YK:Nat:=296
abbrev Y4:Nat:=297
abbrev yb0:Nat:=298
abbrev Ky:Nat:=299
abbrev yf0:Nat:=300
abbrev y40:Nat:=301
abbrev WF:Nat:=306
abbrev JZ:Nat:=307
abbrev QO:Nat:=308
abbrev JF:Nat:=309
abbrev qb0:Nat:=313
abbrev Xs:Nat:=314
abbrev YH:Nat:=315
abbrev jt:Nat:=316
abbrev Xr:Nat:=317
abbrev QS:Nat:=318
abbrev jp:Nat:=319
abbrev Zt:Nat:=320
abbrev Q6:Nat:=321
abbrev Xq:Nat:=322
abbrev YI:Nat:=323
abbrev QQ:Nat:=324
abbrev Uo:Nat:=325
abbrev X9:Nat:=326
abbrev kz:Nat:=333
abbrev j0:Nat:=334
abbrev jI:Nat:=335
abbrev jJ:Nat:=336
abbrev ky:Nat:=337
abbrev jr:Nat:=338
abbrev jK:Nat:=339
abbrev Xp:Nat:=340
abbrev km:Nat:=341
abbrev Q5:Nat:=342
abbrev Y3:Nat:=343
abbrev Z4:Nat:=344
abbrev Y6:Nat:=345
abbrev QX:Nat:=346
abbrev kK:Nat:=347
abbrev yL:Nat:=348
abbrev yj0:Nat:=352
abbrev JL:Nat:=353
abbrev KK:Nat:=354
abbrev Qa:Nat:=355
abbrev jl0:Nat:=356
abbrev UE:Nat:=357
abbrev KO:Nat:=358
abbrev yl0:Nat:=359
abbrev KU:Nat:=360
abbrev JJ:Nat:=363
abbrev qZ:Nat:=364
abbrev Vs:Nat:=365
abbrev Ut:Nat:=375
abbrev KM:Nat:=398
abbrev yn:Nat:=411
abbrev yu:Nat:=412
abbrev kP:Nat:=413
abbrev kp:Nat:=414
abbrev Zs:Nat:=415
abbrev ym0:Nat:=416
abbrev VY:Nat:=417
abbrev VQ:Nat:=418
abbrev kC:Nat:=419
abbrev jN:Nat:=420
abbrev UI:Nat:=421
abbrev KL:Nat:=422
abbrev xp:Nat:=423
abbrev xo:Nat:=424
abbrev xn:Nat:=425
abbrev xm:Nat:=426
abbrev xl:Nat:=427
abbrev xk:Nat:=428
abbrev xj:Nat:=429
abbrev xi:Nat:=430
abbrev xh:Nat:=431
abbrev xe:Nat:=432
abbrev xd:Nat:=433
abbrev YN:Nat:=434
abbrev kB:Nat:=435
abbrev jM:Nat:=436
abbrev UH:Nat:=437
abbrev JK:Nat:=438
abbrev ko:Nat:=439
abbrev jG:Nat:=440
abbrev jH:Nat:=441
abbrev jq:Nat:=442
abbrev zy0:Nat:=443
abbrev kA:Nat:=444
abbrev jL:Nat:=445
abbrev UG:Nat:=446
abbrev kQ:Nat:=447
abbrev ku:Nat:=448
abbrev jP:Nat:=449
abbrev ju:Nat:=450
abbrev zz0:Nat:=451
abbrev kE:Nat:=452
abbrev jQ:Nat:=453
abbrev yG:Nat:=0
abbrev xX:Nat:=1
abbrev jv:Nat:=2
abbrev qy:Nat:=3
abbrev jm:Nat:=4
abbrev T_T_:Nat:=0
abbrev T_int64:Nat:=2
abbrev zE:Nat:=3
abbrev Yu:Nat:=4
abbrev ZC:Nat:=5
abbrev yx:Nat:=9
abbrev qn:Nat:=22
abbrev xc:Nat:=23
abbrev zn:Nat:=26
abbrev yC:Nat:=29
abbrev zl:Nat:=31
abbrev xF:Nat:=40
abbrev zh:Nat:=43
abbrev xQ:Nat:=66
abbrev yK:Nat:=69
abbrev zq:Nat:=72
abbrev xx:Nat:=78
abbrev xu:Nat:=80
abbrev za:Nat:=83
abbrev xw:Nat:=86
abbrev zA:Nat:=123
abbrev zx:Nat:=125
abbrev zC:Nat:=127
abbrev zw:Nat:=133
abbrev zf:Nat:=143
abbrev yJ:Nat:=145
abbrev zS:Nat:=146
abbrev yS:Nat:=147
abbrev yo:Nat:=149
abbrev JW:Nat:=150
abbrev yO:Nat:=152
abbrev yy:Nat:=153
abbrev zW:Nat:=181
abbrev xK:Nat:=182
abbrev x8:Nat:=184
abbrev zo:Nat:=193
abbrev zg:Nat:=198
abbrev zK:Nat:=209
abbrev yb:Nat:=211
abbrev ye:Nat:=213
abbrev yW:Nat:=226
abbrev kY:Nat:=231
abbrev xm0:Nat:=265
abbrev qG:Nat:=269
abbrev zQ:Nat:=271
abbrev zM:Nat:=272
abbrev zI:Nat:=273
abbrev zP:Nat:=274
abbrev zH:Nat:=275
abbrev zL:Nat:=276
abbrev zT:Nat:=277
abbrev xR:Nat:=278
abbrev ZD:Nat:=279
abbrev zz:Nat:=281
abbrev zJ:Nat:=282
abbrev Kb:Nat:=289
abbrev Ji:Nat:=290
abbrev yR:Nat:=302
abbrev Wv:Nat:=304
abbrev yz:Nat:=306
abbrev yf:Nat:=344
abbrev yB:Nat:=347
abbrev ky0:Nat:=348
abbrev yN0:Nat:=363
abbrev Y30:Nat:=383
abbrev zX:Nat:=399
abbrev yg:Nat:=401
abbrev zv0:Nat:=403
abbrev Jj:Nat:=415
abbrev yV:Nat:=443
abbrev xf:Nat:=468
theorem xJ:yl zE (nI 0):=by unfold yl;kernel_rfl
@[push_cast] theorem Jy:oneB zE=true:=rK
@[push_cast] theorem yM:qr zE 1=true:=rK
theorem Qo:qG0 zE .i64:=by unfold qG0;kernel_rfl
theorem Wz:(P.underlying zE).isSome=true:=rK
theorem qO0:yl Yu (.bool false):=by unfold yl;kernel_rfl
@[push_cast] theorem X50:oneB Yu=true:=rK
@[push_cast] theorem xn0:qr Yu 1=true:=rK
theorem kz0:yl ZC (.int .u8 0):=by unfold yl;kernel_rfl
@[push_cast] theorem Y50:qr ZC 1=true:=rK
theorem Za0:qG0 ZC .u8:=by unfold qG0;kernel_rfl
theorem XM:yl yx (.string ⟨#[]⟩):=by unfold yl;kernel_rfl
@[push_cast] theorem kY0:oneB yx=true:=rK
@[push_cast] theorem Yv:qr yx 1=true:=rK
theorem Zb:P.underlying yx=some .string:=rK
theorem Jm:P.underlying qn=some (.slice xQ):=rK
@[push_cast] theorem ZO0:isSl qn=true:=rK
@[push_cast] theorem Y00:elB qn 2=true:=rK
@[push_cast] theorem ZT0:oneB xc=true:=rK
theorem ZW:P.underlying xc=some (.slice yK):=rK
@[push_cast] theorem ZN0:isSl xc=true:=rK
@[push_cast] theorem ZZ0:elB xc 5=true:=rK
theorem WL:yl zn (oN):=by unfold yl;kernel_rfl
@[push_cast] theorem Zp:oneB zn=true:=rK
@[push_cast] theorem jy:qr zn 1=true:=rK
@[push_cast] theorem jC:elZ zn 1 24=true:=rK
theorem kf:P.underlying zn=some (.slice zh):=rK
theorem K8:Yp zn=zh:=rK
@[push_cast] theorem Yi0:isSl zn=true:=rK
@[push_cast] theorem Yw0:elB zn 1=true:=rK
@[push_cast] theorem zM0:oneB yC=true:=rK
@[push_cast] theorem yt0:elZ yC 2 24=true:=rK
theorem zm0:Yp yC=xu:=rK
@[push_cast] theorem ZR0:isSl yC=true:=rK
@[push_cast] theorem Yr:elB yC 2=true:=rK
@[push_cast] theorem ZZ:oneB zl=true:=rK
@[push_cast] theorem xM:qr zl 1=true:=rK
@[push_cast] theorem qE:elZ zl 5 64=true:=rK
theorem qC:P.underlying zl=some (.slice za):=rK
theorem jX:Yp zl=za:=rK
@[push_cast] theorem ZQ0:isSl zl=true:=rK
@[push_cast] theorem Y10:elB zl 5=true:=rK
@[push_cast] theorem Z70:elZ xF 1 1=true:=rK
theorem XU:P.underlying xF=some (.slice ZC):=rK
theorem jQ0:Yp xF=ZC:=rK
theorem Xg:yl zh (oN):=by unfold yl;kernel_rfl
@[push_cast] theorem X60:oneB zh=true:=rK
@[push_cast] theorem qq:qr zh 1=true:=rK
@[push_cast] theorem xC:elZ zh 1 8=true:=rK
theorem xt:P.underlying zh=some (.slice zE):=rK
theorem qB:Yp zh=zE:=rK
@[push_cast] theorem ZP0:isSl zh=true:=rK
@[push_cast] theorem Qu:elB zh 1=true:=rK
@[push_cast] theorem Ys0:aggB xQ 2=true:=rK
@[push_cast] theorem XH:aggB yK 5=true:=rK
theorem xr:yl zq (.agg #[(nI 0),(oN)]):=by unfold yl;kernel_rfl
theorem Jg:strF zq=some ([(0,1),(1,1)],[(nI 0),(oN)]):=rK
@[push_cast] theorem zF:aggB zq 2=true:=rK
@[push_cast] theorem UO:elZ xx 1 1=true:=rK
theorem yW0:P.underlying xx=some (.slice Yu):=rK
theorem K7:Yp xx=Yu:=rK
@[push_cast] theorem s_Lbool:isSl xx=true:=rK
@[push_cast] theorem xi0:elB xx 1=true:=rK
theorem xL:yl xu (.agg #[(.string ⟨#[]⟩),(nI 0)]):=by unfold yl;kernel_rfl
@[push_cast] theorem XI:aggB xu 2=true:=rK
theorem zr:yl za (.agg #[(nI 0),(nI 0),(nI 0),(.string ⟨#[]⟩),(oN)]):=by unfold yl;kernel_rfl
theorem jg:strF za=some ([(0,1),(1,1),(2,1),(3,1),(4,1)],[(nI 0),(nI 0),(nI 0),(.string ⟨#[]⟩),(oN)]):=rK
@[push_cast] theorem zc:aggB za 5=true:=rK
@[push_cast] theorem j8:qr za 5=true:=rK
@[push_cast] theorem xg:oneB xw=true:=rK
@[push_cast] theorem Y60:qr xw 1=true:=rK
@[push_cast] theorem ZU0:oneB zA=true:=rK
@[push_cast] theorem Jl:qr zA 1=true:=rK
@[push_cast] theorem qF:elZ zA 3 24=true:=rK
theorem jo:P.underlying zA=some (.slice zo):=rK
theorem Qs:Yp zA=zo:=rK
@[push_cast] theorem qf:isSl zA=true:=rK
@[push_cast] theorem Yq:elB zA 3=true:=rK
theorem j5:yl zx (.agg #[(nI 0),(oN)]):=by unfold yl;kernel_rfl
theorem Jf:strF zx=some ([(0,1),(1,1)],[(nI 0),(oN)]):=rK
@[push_cast] theorem y5:aggB zx 2=true:=rK
theorem xA:yl zC (.agg #[(nI 0),(oN),(.bool false)]):=by unfold yl;kernel_rfl
theorem xl0:strF zC=some ([(0,2),(2,1)],[(nI 0),(oN),(.bool false)]):=rK
@[push_cast] theorem jf:aggB zC 3=true:=rK
theorem j4:yl zw (.agg #[(oN),(oN),(oN),(nI 0)]):=by unfold yl;kernel_rfl
theorem qz0:strF zw=some ([(0,1),(1,1),(2,1),(3,1)],[(oN),(oN),(oN),(nI 0)]):=rK
@[push_cast] theorem zR:aggB zw 4=true:=rK
theorem qH:yl zf (oN):=by unfold yl;kernel_rfl
@[push_cast] theorem Vt:oneB zf=true:=rK
@[push_cast] theorem jh:qr zf 1=true:=rK
@[push_cast] theorem yF:elZ zf 1 8=true:=rK
theorem yD:P.underlying zf=some (.slice yy):=rK
theorem yQ:Yp zf=yy:=rK
@[push_cast] theorem yX:isSl zf=true:=rK
@[push_cast] theorem yN:elB zf 1=true:=rK
@[push_cast] theorem qD0:oneB yJ=true:=rK
@[push_cast] theorem zK0:oneB zS=true:=rK
theorem Zx:P.underlying zS=some (.map 3 265):=rK
@[push_cast] theorem Kt:oneB yS=true:=rK
theorem jB:P.underlying yS=some (.map 9 143):=rK
theorem Wt:strF yo=some ([(0,1),(1,1),(2,1),(3,1)],[(.pointer none),(oN),(.map none),(.map none)]):=rK
@[push_cast] theorem qC0:oneB JW=true:=rK
theorem Ws:strF yO=some ([(0,1),(1,1)],[(.pointer none),.nilIface]):=rK
theorem yi:yl yy (nI 0):=by unfold yl;kernel_rfl
@[push_cast] theorem kZ0:oneB yy=true:=rK
@[push_cast] theorem y7:qr yy 1=true:=rK
theorem qy0:strF zW=some ([(0,1),(1,1),(2,1),(3,2),(5,1)],[(oN),(oN),(oN),(nI 0),(oN),(oN)]):=rK
theorem Z8:P.underlying xK=some (.slice x8):=rK
@[push_cast] theorem WA:isSl xK=true:=rK
@[push_cast] theorem Zf:elB xK 1=true:=rK
theorem kJ:yl x8 .nilFunc:=by unfold yl;kernel_rfl
@[push_cast] theorem Z3:oneB x8=true:=rK
@[push_cast] theorem Z0:qr x8 1=true:=rK
theorem kL:yl zo (.agg #[(.bool false),(nI 0),(nI 0)]):=by unfold yl;kernel_rfl
theorem ZB:strF zo=some ([(0,1),(1,1),(2,1)],[(.bool false),(nI 0),(nI 0)]):=rK
@[push_cast] theorem xO:aggB zo 3=true:=rK
@[push_cast] theorem Xh:qr zo 3=true:=rK
theorem zY:yl zg (.agg #[(nI 0),(nI 0)]):=by unfold yl;kernel_rfl
theorem Je:strF zg=some ([(0,1),(1,1)],[(nI 0),(nI 0)]):=rK
@[push_cast] theorem zt:aggB zg 2=true:=rK
@[push_cast] theorem xW0:qr zg 2=true:=rK
@[push_cast] theorem KZ:elZ zK 1 24=true:=rK
theorem ZX:P.underlying zK=some (.slice zf):=rK
@[push_cast] theorem jd0:isSl zK=true:=rK
@[push_cast] theorem Vi:elB zK 1=true:=rK
@[push_cast] theorem zL0:oneB yb=true:=rK
theorem qP:P.underlying yb=some (.map 193 3):=rK
theorem Wq:strF ye=some ([(0,2),(2,1)],[(nI 0),(oN),(.map none)]):=rK
@[push_cast] theorem ys0:elZ yW 1 16=true:=rK
theorem XV:P.underlying yW=some (.slice yx):=rK
theorem qs0:Yp yW=yx:=rK
@[push_cast] theorem X40:isSl yW=true:=rK
theorem X5:P.underlying kY=some (.map 9 3):=rK
theorem yM0:strF qG=some ([(0,1),(1,1)],[(.string ⟨#[]⟩),(nI 0)]):=rK
theorem qs:yl zQ (.agg #[(.string ⟨#[]⟩),(nI 0)]):=by unfold yl;kernel_rfl
theorem zr0:strF zQ=some ([(0,2)],[(.string ⟨#[]⟩),(nI 0)]):=rK
@[push_cast] theorem UT:aggB zQ 2=true:=rK
theorem kc:yl zM (.agg #[(.string ⟨#[]⟩),(nI 0)]):=by unfold yl;kernel_rfl
theorem Wr:strF zM=some ([(0,2)],[(.string ⟨#[]⟩),(nI 0)]):=rK
theorem ZQ:yl zI (.agg #[(.string ⟨#[]⟩),(nI 0)]):=by unfold yl;kernel_rfl
theorem Wp:strF zI=some ([(0,2)],[(.string ⟨#[]⟩),(nI 0)]):=rK
@[push_cast] theorem W2:aggB zI 2=true:=rK
theorem yP:yl zP (.agg #[(.string ⟨#[]⟩),(nI 0)]):=by unfold yl;kernel_rfl
theorem Wn:strF zP=some ([(0,2)],[(.string ⟨#[]⟩),(nI 0)]):=rK
@[push_cast] theorem W0:aggB zP 2=true:=rK
theorem yT:yl zH (.agg #[(.string ⟨#[]⟩),(nI 0)]):=by unfold yl;kernel_rfl
theorem Vm:strF zH=some ([(0,2)],[(.string ⟨#[]⟩),(nI 0)]):=rK
@[push_cast] theorem V9:aggB zH 2=true:=rK
theorem xq:yl zL (.agg #[(.string ⟨#[]⟩),(nI 0)]):=by unfold yl;kernel_rfl
theorem Wo:strF zL=some ([(0,2)],[(.string ⟨#[]⟩),(nI 0)]):=rK
@[push_cast] theorem W1:aggB zL 2=true:=rK
theorem xW:yl zT (.agg #[(.string ⟨#[]⟩),(nI 0)]):=by unfold yl;kernel_rfl
theorem zt0:strF zT=some ([(0,2)],[(.string ⟨#[]⟩),(nI 0)]):=rK
@[push_cast] theorem UU:aggB zT 2=true:=rK
@[push_cast] theorem xf0:elZ xR 2 16=true:=rK
theorem yV0:P.underlying xR=some (.slice zg):=rK
@[push_cast] theorem Yv0:elB xR 2=true:=rK
@[push_cast] theorem WY:oneB ZD=true:=rK
theorem Jw:yl zz (.agg #[(.string ⟨#[]⟩),(nI 0),.nilFunc]):=by unfold yl;kernel_rfl
theorem Vn:strF zz=some ([(0,2),(2,1)],[(.string ⟨#[]⟩),(nI 0),.nilFunc]):=rK
@[push_cast] theorem Yn:aggB zz 3=true:=rK
theorem ke:yl zJ (.agg #[(.string ⟨#[]⟩),(nI 0)]):=by unfold yl;kernel_rfl
theorem Wu:strF zJ=some ([(0,2)],[(.string ⟨#[]⟩),(nI 0)]):=rK
theorem V6:qG0 Ji .u64:=by unfold qG0;kernel_rfl
theorem Kk:(P.underlying Ji).isSome=true:=rK
@[push_cast] theorem jh0:oneB yR=true:=rK
@[push_cast] theorem kb0:oneB Wv=true:=rK
theorem zs0:strF yz=some ([(0,2),(2,1),(3,1),(4,1),(5,1)],[(nI 0),(oN),(.pointer none),(oN),(oN),(nI 0)]):=rK
theorem zu0:strF yf=some ([(0,1),(1,1)],[(oN),(.map none)]):=rK
@[push_cast] theorem xN:aggB yf 2=true:=rK
theorem yL0:strF yB=some ([(0,1),(1,1),(2,1)],[(oN),(oN),(oN)]):=rK
theorem jE0:qG0 yN0 .u64:=by unfold qG0;kernel_rfl
theorem Yf0:(P.underlying yN0).isSome=true:=rK
theorem qX:P.underlying zX=some (.slice yg):=rK
theorem qT:Yp zX=yg:=rK
@[push_cast] theorem QC:isSl zX=true:=rK
@[push_cast] theorem QD:elB zX 1=true:=rK
@[push_cast] theorem YG:oneB yg=true:=rK
@[push_cast] theorem YF:qr yg 1=true:=rK
theorem kM0:P.underlying zv0=some (.slice zn):=rK
@[push_cast] theorem s_LLLint:isSl zv0=true:=rK
@[push_cast] theorem e_LLLint:elB zv0 1=true:=rK
@[push_cast] theorem xE:imapB Jj=true:=rK
theorem Wb:fieldB xQ 0 0=true:=rK
@[push_cast] theorem km0 {w:World} {K:oK} (a:Addr):zD xQ (.pointer (some a)) 0 w K=K (oE (a.add 0)) w:=zy Wb a
theorem Wa:fieldB xQ 1 1=true:=rK
@[push_cast] theorem kl0 {w:World} {K:oK} (a:Addr):zD xQ (.pointer (some a)) 1 w K=K (oE (a.add 1)) w:=zy Wa a
theorem W9:fieldB yK 0 0=true:=rK
@[push_cast] theorem kk0 {w:World} {K:oK} (a:Addr):zD yK (.pointer (some a)) 0 w K=K (oE (a.add 0)) w:=zy W9 a
theorem W8:fieldB yK 1 1=true:=rK
@[push_cast] theorem kj0 {w:World} {K:oK} (a:Addr):zD yK (.pointer (some a)) 1 w K=K (oE (a.add 1)) w:=zy W8 a
theorem W7:fieldB yK 2 2=true:=rK
@[push_cast] theorem ki0 {w:World} {K:oK} (a:Addr):zD yK (.pointer (some a)) 2 w K=K (oE (a.add 2)) w:=zy W7 a
theorem W6:fieldB yK 3 3=true:=rK
@[push_cast] theorem kh0 {w:World} {K:oK} (a:Addr):zD yK (.pointer (some a)) 3 w K=K (oE (a.add 3)) w:=zy W6 a
theorem W5:fieldB yK 4 4=true:=rK
@[push_cast] theorem kg0 {w:World} {K:oK} (a:Addr):zD yK (.pointer (some a)) 4 w K=K (oE (a.add 4)) w:=zy W5 a
theorem zg0:fieldB zq 0 0=true:=rK
@[push_cast] theorem Zt0 {w:World} {K:oK} (a:Addr):zD zq (.pointer (some a)) 0 w K=K (oE (a.add 0)) w:=zy zg0 a
theorem zf0:fieldB zq 1 1=true:=rK
@[push_cast] theorem zk0 {w:World} {K:oK} (a:Addr):zD zq (.pointer (some a)) 1 w K=K (oE (a.add 1)) w:=zy zf0 a
theorem Wl:fieldB xu 0 0=true:=rK
@[push_cast] theorem kx0 {w:World} {K:oK} (a:Addr):zD xu (.pointer (some a)) 0 w K=K (oE (a.add 0)) w:=zy Wl a
theorem Wk:fieldB xu 1 1=true:=rK
@[push_cast] theorem kw0 {w:World} {K:oK} (a:Addr):zD xu (.pointer (some a)) 1 w K=K (oE (a.add 1)) w:=zy Wk a
theorem Wg:fieldB za 0 0=true:=rK
@[push_cast] theorem kr0 {w:World} {K:oK} (a:Addr):zD za (.pointer (some a)) 0 w K=K (oE (a.add 0)) w:=zy Wg a
theorem Wf:fieldB za 1 1=true:=rK
@[push_cast] theorem kq0 {w:World} {K:oK} (a:Addr):zD za (.pointer (some a)) 1 w K=K (oE (a.add 1)) w:=zy Wf a
theorem We:fieldB za 2 2=true:=rK
@[push_cast] theorem kp0 {w:World} {K:oK} (a:Addr):zD za (.pointer (some a)) 2 w K=K (oE (a.add 2)) w:=zy We a
theorem Wd:fieldB za 3 3=true:=rK
@[push_cast] theorem ko0 {w:World} {K:oK} (a:Addr):zD za (.pointer (some a)) 3 w K=K (oE (a.add 3)) w:=zy Wd a
theorem Wc:fieldB za 4 4=true:=rK
@[push_cast] theorem kn0 {w:World} {K:oK} (a:Addr):zD za (.pointer (some a)) 4 w K=K (oE (a.add 4)) w:=zy Wc a
theorem ze0:fieldB zx 0 0=true:=rK
@[push_cast] theorem Zs0 {w:World} {K:oK} (a:Addr):zD zx (.pointer (some a)) 0 w K=K (oE (a.add 0)) w:=zy ze0 a
theorem zd0:fieldB zx 1 1=true:=rK
@[push_cast] theorem Zr0 {w:World} {K:oK} (a:Addr):zD zx (.pointer (some a)) 1 w K=K (oE (a.add 1)) w:=zy zd0 a
theorem W4:fieldB zC 0 0=true:=rK
@[push_cast] theorem kf0 {w:World} {K:oK} (a:Addr):zD zC (.pointer (some a)) 0 w K=K (oE (a.add 0)) w:=zy W4 a
theorem W3:fieldB zC 1 2=true:=rK
@[push_cast] theorem ke0 {w:World} {K:oK} (a:Addr):zD zC (.pointer (some a)) 1 w K=K (oE (a.add 2)) w:=zy W3 a
theorem zc0:fieldB zw 0 0=true:=rK
@[push_cast] theorem zj0 {w:World} {K:oK} (a:Addr):zD zw (.pointer (some a)) 0 w K=K (oE (a.add 0)) w:=zy zc0 a
theorem zb0:fieldB zw 1 1=true:=rK
@[push_cast] theorem zi0 {w:World} {K:oK} (a:Addr):zD zw (.pointer (some a)) 1 w K=K (oE (a.add 1)) w:=zy zb0 a
theorem za0:fieldB zw 2 2=true:=rK
@[push_cast] theorem zh0 {w:World} {K:oK} (a:Addr):zD zw (.pointer (some a)) 2 w K=K (oE (a.add 2)) w:=zy za0 a
theorem z90:fieldB zw 3 3=true:=rK
@[push_cast] theorem Zq0 {w:World} {K:oK} (a:Addr):zD zw (.pointer (some a)) 3 w K=K (oE (a.add 3)) w:=zy z90 a
theorem Jc:fieldB yo 0 0=true:=rK
@[push_cast] theorem qq0 {w:World} {K:oK} (a:Addr):zD yo (.pointer (some a)) 0 w K=K (oE (a.add 0)) w:=zy Jc a
theorem Jb:fieldB yo 1 1=true:=rK
@[push_cast] theorem qp0 {w:World} {K:oK} (a:Addr):zD yo (.pointer (some a)) 1 w K=K (oE (a.add 1)) w:=zy Jb a
theorem Ja:fieldB yo 2 2=true:=rK
@[push_cast] theorem qo0 {w:World} {K:oK} (a:Addr):zD yo (.pointer (some a)) 2 w K=K (oE (a.add 2)) w:=zy Ja a
theorem J9:fieldB yo 3 3=true:=rK
@[push_cast] theorem qn0 {w:World} {K:oK} (a:Addr):zD yo (.pointer (some a)) 3 w K=K (oE (a.add 3)) w:=zy J9 a
theorem J8:fieldB yO 0 0=true:=rK
@[push_cast] theorem qm0 {w:World} {K:oK} (a:Addr):zD yO (.pointer (some a)) 0 w K=K (oE (a.add 0)) w:=zy J8 a
theorem J7:fieldB yO 1 1=true:=rK
@[push_cast] theorem ql0 {w:World} {K:oK} (a:Addr):zD yO (.pointer (some a)) 1 w K=K (oE (a.add 1)) w:=zy J7 a
theorem z40:fieldB zW 0 0=true:=rK
@[push_cast] theorem Zn0 {w:World} {K:oK} (a:Addr):zD zW (.pointer (some a)) 0 w K=K (oE (a.add 0)) w:=zy z40 a
theorem z30:fieldB zW 1 1=true:=rK
@[push_cast] theorem Zm0 {w:World} {K:oK} (a:Addr):zD zW (.pointer (some a)) 1 w K=K (oE (a.add 1)) w:=zy z30 a
theorem z00:fieldB zW 2 2=true:=rK
@[push_cast] theorem Zl0 {w:World} {K:oK} (a:Addr):zD zW (.pointer (some a)) 2 w K=K (oE (a.add 2)) w:=zy z00 a
theorem UZ:fieldB zW 3 3=true:=rK
@[push_cast] theorem Zk0 {w:World} {K:oK} (a:Addr):zD zW (.pointer (some a)) 3 w K=K (oE (a.add 3)) w:=zy UZ a
theorem UY:fieldB zW 4 5=true:=rK
@[push_cast] theorem Zj0 {w:World} {K:oK} (a:Addr):zD zW (.pointer (some a)) 4 w K=K (oE (a.add 5)) w:=zy UY a
theorem Wj:fieldB zo 0 0=true:=rK
@[push_cast] theorem ku0 {w:World} {K:oK} (a:Addr):zD zo (.pointer (some a)) 0 w K=K (oE (a.add 0)) w:=zy Wj a
theorem Wi:fieldB zo 1 1=true:=rK
@[push_cast] theorem kt0 {w:World} {K:oK} (a:Addr):zD zo (.pointer (some a)) 1 w K=K (oE (a.add 1)) w:=zy Wi a
theorem Wh:fieldB zo 2 2=true:=rK
@[push_cast] theorem ks0 {w:World} {K:oK} (a:Addr):zD zo (.pointer (some a)) 2 w K=K (oE (a.add 2)) w:=zy Wh a
theorem z80:fieldB zg 0 0=true:=rK
@[push_cast] theorem Zp0 {w:World} {K:oK} (a:Addr):zD zg (.pointer (some a)) 0 w K=K (oE (a.add 0)) w:=zy z80 a
theorem z60:fieldB zg 1 1=true:=rK
@[push_cast] theorem Zo0 {w:World} {K:oK} (a:Addr):zD zg (.pointer (some a)) 1 w K=K (oE (a.add 1)) w:=zy z60 a
theorem J6:fieldB ye 0 0=true:=rK
@[push_cast] theorem qk0 {w:World} {K:oK} (a:Addr):zD ye (.pointer (some a)) 0 w K=K (oE (a.add 0)) w:=zy J6 a
theorem J5:fieldB ye 1 2=true:=rK
@[push_cast] theorem qj0 {w:World} {K:oK} (a:Addr):zD ye (.pointer (some a)) 1 w K=K (oE (a.add 2)) w:=zy J5 a
theorem Vf:fieldB qG 0 0=true:=rK
@[push_cast] theorem jN0 {w:World} {K:oK} (a:Addr):zD qG (.pointer (some a)) 0 w K=K (oE (a.add 0)) w:=zy Vf a
theorem Ve:fieldB qG 1 1=true:=rK
@[push_cast] theorem jM0 {w:World} {K:oK} (a:Addr):zD qG (.pointer (some a)) 1 w K=K (oE (a.add 1)) w:=zy Ve a
theorem Qr:fieldB zz 1 2=true:=rK
@[push_cast] theorem xK0 {w:World} {K:oK} (a:Addr):zD zz (.pointer (some a)) 1 w K=K (oE (a.add 2)) w:=zy Qr a
theorem JR:fieldB yz 0 0=true:=rK
@[push_cast] theorem qL0 {w:World} {K:oK} (a:Addr):zD yz (.pointer (some a)) 0 w K=K (oE (a.add 0)) w:=zy JR a
theorem JQ:fieldB yz 1 2=true:=rK
@[push_cast] theorem qK0 {w:World} {K:oK} (a:Addr):zD yz (.pointer (some a)) 1 w K=K (oE (a.add 2)) w:=zy JQ a
theorem JP:fieldB yz 2 3=true:=rK
@[push_cast] theorem qJ0 {w:World} {K:oK} (a:Addr):zD yz (.pointer (some a)) 2 w K=K (oE (a.add 3)) w:=zy JP a
theorem JO:fieldB yz 3 4=true:=rK
@[push_cast] theorem qI0 {w:World} {K:oK} (a:Addr):zD yz (.pointer (some a)) 3 w K=K (oE (a.add 4)) w:=zy JO a
theorem JN:fieldB yz 4 5=true:=rK
@[push_cast] theorem qH0 {w:World} {K:oK} (a:Addr):zD yz (.pointer (some a)) 4 w K=K (oE (a.add 5)) w:=zy JN a
theorem JT:fieldB yf 0 0=true:=rK
@[push_cast] theorem qN0 {w:World} {K:oK} (a:Addr):zD yf (.pointer (some a)) 0 w K=K (oE (a.add 0)) w:=zy JT a
theorem JS:fieldB yf 1 1=true:=rK
@[push_cast] theorem qM0 {w:World} {K:oK} (a:Addr):zD yf (.pointer (some a)) 1 w K=K (oE (a.add 1)) w:=zy JS a
theorem Vd:fieldB yB 0 0=true:=rK
@[push_cast] theorem jL0 {w:World} {K:oK} (a:Addr):zD yB (.pointer (some a)) 0 w K=K (oE (a.add 0)) w:=zy Vd a
theorem Vb:fieldB yB 1 1=true:=rK
@[push_cast] theorem jK0 {w:World} {K:oK} (a:Addr):zD yB (.pointer (some a)) 1 w K=K (oE (a.add 1)) w:=zy Vb a
theorem Va:fieldB yB 2 2=true:=rK
@[push_cast] theorem jJ0 {w:World} {K:oK} (a:Addr):zD yB (.pointer (some a)) 2 w K=K (oE (a.add 2)) w:=zy Va a
@[push_cast] theorem kF0 {w:World} {K:oK} (b a:Value):ZH0 zg (.agg ⟨[b,a]⟩) 1 w K=K a w:=y9 rK
noncomputable def mn_kids:String:=match P.info? 271 with|some i=>(match i.methods[0]? with|some m=>m.name|none=>default)|none=>default
noncomputable def kG:String:=match P.info? 271 with|some i=>(match i.methods[1]? with|some m=>m.name|none=>default)|none=>default
noncomputable def qO:String:=match P.info? 271 with|some i=>(match i.methods[2]? with|some m=>m.name|none=>default)|none=>default
noncomputable def Zw:String:=match P.info? 271 with|some i=>(match i.methods[3]? with|some m=>m.name|none=>default)|none=>default
theorem jX0:concB yx=true:=rK
@[push_cast] theorem X80 {w:World} {K:oK} (v:Value):qA0 yx v w K=K (.iface yx v) w:=Z1 jX0 v
theorem xY:concB zQ=true:=rK
@[push_cast] theorem kc0 {w:World} {K:oK} (v:Value):qA0 zQ v w K=K (.iface zQ v) w:=Z1 xY v
theorem XB (a b:Value) (w:World):(method (P.types.size+Made.depth) zQ (.agg ⟨[a,b]⟩) mn_kids).run P w= .ok (yn,.agg ⟨[a,b]⟩) w:=rK
theorem XA (a b:Value) (w:World):(method (P.types.size+Made.depth) zQ (.agg ⟨[a,b]⟩) kG).run P w= .ok (kP,.agg ⟨[a,b]⟩) w:=rK
theorem YQ (a b:Value) (w:World):(method (P.types.size+Made.depth) zQ (.agg ⟨[a,b]⟩) qO).run P w= .ok (kp,.agg ⟨[a,b]⟩) w:=rK
theorem Xz (a b:Value) (w:World):(method (P.types.size+Made.depth) zQ (.agg ⟨[a,b]⟩) Zw).run P w= .ok (yu,.agg ⟨[a,b]⟩) w:=rK
theorem ql:concB zM=true:=rK
@[push_cast] theorem jq0 {w:World} {K:oK} (v:Value):qA0 zM v w K=K (.iface zM v) w:=Z1 ql v
theorem X1 (a b:Value) (w:World):(method (P.types.size+Made.depth) zM (.agg ⟨[a,b]⟩) mn_kids).run P w= .ok (yn,.agg ⟨[a,b]⟩) w:=rK
theorem YZ (a b:Value) (w:World):(method (P.types.size+Made.depth) zM (.agg ⟨[a,b]⟩) kG).run P w= .ok (kC,.agg ⟨[a,b]⟩) w:=rK
theorem Yg (a b:Value) (w:World):(method (P.types.size+Made.depth) zM (.agg ⟨[a,b]⟩) qO).run P w= .ok (jN,.agg ⟨[a,b]⟩) w:=rK
theorem YY (a b:Value) (w:World):(method (P.types.size+Made.depth) zM (.agg ⟨[a,b]⟩) Zw).run P w= .ok (yu,.agg ⟨[a,b]⟩) w:=rK
theorem kI:concB zI=true:=rK
@[push_cast] theorem jp0 {w:World} {K:oK} (v:Value):qA0 zI v w K=K (.iface zI v) w:=Z1 kI v
theorem YX (a b:Value) (w:World):(method (P.types.size+Made.depth) zI (.agg ⟨[a,b]⟩) mn_kids).run P w= .ok (yn,.agg ⟨[a,b]⟩) w:=rK
theorem YW (a b:Value) (w:World):(method (P.types.size+Made.depth) zI (.agg ⟨[a,b]⟩) kG).run P w= .ok (kB,.agg ⟨[a,b]⟩) w:=rK
theorem Yf (a b:Value) (w:World):(method (P.types.size+Made.depth) zI (.agg ⟨[a,b]⟩) qO).run P w= .ok (jM,.agg ⟨[a,b]⟩) w:=rK
theorem YV (a b:Value) (w:World):(method (P.types.size+Made.depth) zI (.agg ⟨[a,b]⟩) Zw).run P w= .ok (yu,.agg ⟨[a,b]⟩) w:=rK
theorem yH:concB zP=true:=rK
@[push_cast] theorem jn0 {w:World} {K:oK} (v:Value):qA0 zP v w K=K (.iface zP v) w:=Z1 yH v
theorem YP (a b:Value) (w:World):(method (P.types.size+Made.depth) zP (.agg ⟨[a,b]⟩) mn_kids).run P w= .ok (yn,.agg ⟨[a,b]⟩) w:=rK
theorem YO (a b:Value) (w:World):(method (P.types.size+Made.depth) zP (.agg ⟨[a,b]⟩) kG).run P w= .ok (ko,.agg ⟨[a,b]⟩) w:=rK
theorem Yb (a b:Value) (w:World):(method (P.types.size+Made.depth) zP (.agg ⟨[a,b]⟩) qO).run P w= .ok (jG,.agg ⟨[a,b]⟩) w:=rK
theorem yI:concB zH=true:=rK
@[push_cast] theorem qE0 {w:World} {K:oK} (v:Value):qA0 zH v w K=K (.iface zH v) w:=Z1 yI v
theorem Yd (a b:Value) (w:World):(method (P.types.size+Made.depth) zH (.agg ⟨[a,b]⟩) mn_kids).run P w= .ok (yn,.agg ⟨[a,b]⟩) w:=rK
theorem Yc (a b:Value) (w:World):(method (P.types.size+Made.depth) zH (.agg ⟨[a,b]⟩) kG).run P w= .ok (jH,.agg ⟨[a,b]⟩) w:=rK
theorem ZN (a b:Value) (w:World):(method (P.types.size+Made.depth) zH (.agg ⟨[a,b]⟩) qO).run P w= .ok (jq,.agg ⟨[a,b]⟩) w:=rK
theorem xb:concB zL=true:=rK
@[push_cast] theorem jo0 {w:World} {K:oK} (v:Value):qA0 zL v w K=K (.iface zL v) w:=Z1 xb v
theorem YU (a b:Value) (w:World):(method (P.types.size+Made.depth) zL (.agg ⟨[a,b]⟩) mn_kids).run P w= .ok (yn,.agg ⟨[a,b]⟩) w:=rK
theorem YT (a b:Value) (w:World):(method (P.types.size+Made.depth) zL (.agg ⟨[a,b]⟩) kG).run P w= .ok (kA,.agg ⟨[a,b]⟩) w:=rK
theorem Ye (a b:Value) (w:World):(method (P.types.size+Made.depth) zL (.agg ⟨[a,b]⟩) qO).run P w= .ok (jL,.agg ⟨[a,b]⟩) w:=rK
theorem YS (a b:Value) (w:World):(method (P.types.size+Made.depth) zL (.agg ⟨[a,b]⟩) Zw).run P w= .ok (yu,.agg ⟨[a,b]⟩) w:=rK
theorem xH:concB zT=true:=rK
@[push_cast] theorem kd0 {w:World} {K:oK} (v:Value):qA0 zT v w K=K (.iface zT v) w:=Z1 xH v
theorem XE (a b:Value) (w:World):(method (P.types.size+Made.depth) zT (.agg ⟨[a,b]⟩) mn_kids).run P w= .ok (yn,.agg ⟨[a,b]⟩) w:=rK
theorem XD (a b:Value) (w:World):(method (P.types.size+Made.depth) zT (.agg ⟨[a,b]⟩) kG).run P w= .ok (kQ,.agg ⟨[a,b]⟩) w:=rK
theorem YR (a b:Value) (w:World):(method (P.types.size+Made.depth) zT (.agg ⟨[a,b]⟩) qO).run P w= .ok (ku,.agg ⟨[a,b]⟩) w:=rK
theorem XC (a b:Value) (w:World):(method (P.types.size+Made.depth) zT (.agg ⟨[a,b]⟩) Zw).run P w= .ok (yu,.agg ⟨[a,b]⟩) w:=rK
theorem ZG:concB zz=true:=rK
@[push_cast] theorem qF0 {w:World} {K:oK} (v:Value):qA0 zz v w K=K (.iface zz v) w:=Z1 ZG v
theorem Yj (a b c:Value) (w:World):(method (P.types.size+Made.depth) zz (.agg ⟨[a,b,c]⟩) mn_kids).run P w= .ok (yn,.agg ⟨[a,b]⟩) w:=rK
theorem Yi (a b c:Value) (w:World):(method (P.types.size+Made.depth) zz (.agg ⟨[a,b,c]⟩) kG).run P w= .ok (jP,.agg ⟨[a,b,c]⟩) w:=rK
theorem ZO (a b c:Value) (w:World):(method (P.types.size+Made.depth) zz (.agg ⟨[a,b,c]⟩) qO).run P w= .ok (ju,.agg ⟨[a,b,c]⟩) w:=rK
theorem Yh (a b c:Value) (w:World):(method (P.types.size+Made.depth) zz (.agg ⟨[a,b,c]⟩) Zw).run P w= .ok (yu,.agg ⟨[a,b]⟩) w:=rK
theorem qm:concB zJ=true:=rK
@[push_cast] theorem jr0 {w:World} {K:oK} (v:Value):qA0 zJ v w K=K (.iface zJ v) w:=Z1 qm v
theorem X4 (a b:Value) (w:World):(method (P.types.size+Made.depth) zJ (.agg ⟨[a,b]⟩) mn_kids).run P w= .ok (yn,.agg ⟨[a,b]⟩) w:=rK
theorem X3 (a b:Value) (w:World):(method (P.types.size+Made.depth) zJ (.agg ⟨[a,b]⟩) kG).run P w= .ok (kE,.agg ⟨[a,b]⟩) w:=rK
theorem Yk (a b:Value) (w:World):(method (P.types.size+Made.depth) zJ (.agg ⟨[a,b]⟩) qO).run P w= .ok (jQ,.agg ⟨[a,b]⟩) w:=rK
theorem X2 (a b:Value) (w:World):(method (P.types.size+Made.depth) zJ (.agg ⟨[a,b]⟩) Zw).run P w= .ok (yu,.agg ⟨[a,b]⟩) w:=rK
end Go.Proofs.YtfnpmncplaibiaaGreatDoor
section
namespace Go.Proofs.YtfnpmncplaibiaaGreatDoor
open Go Go.Vc Go.Proofs
open Go.ChangeShapes Go.WideShapes Go.ChangeAt Go.RowKit
theorem Yk0:ownKnob P.godebug=none:=rK
theorem kj:laidOutB P=true:=rK
def restFacts (P:Program) (f:FuncId) (fn:Func) (s:ChangeSpec) (c:OpenClaim):Bool:=
 c.wf (OpenSpec.ofChange s)&&
 fn.params.all (P.readableRec ·)&&namedTie P c.named s.vars&&
 (c.stops==[])&&(P.stops==[])&&(c.knobs==[])&&(P.stopKnobs==[])&&
 (c.maps==(fn.params.toList++s.plain.varTypes P).any (P.mapsRec ·))&&(c.ifaces==(fn.params.toList++s.plain.varTypes P).any (P.ifacesRec ·))&&(c.mapsOut==P.mapsAmong fn.resultTypes.toList)&&
 (c.loops==(fn.params.toList++s.plain.varTypes P).any (P.loopsFrom ·))&&(c.wideKeys==(fn.params.toList++s.plain.varTypes P++fn.resultTypes.toList).any (P.wideKeysFrom ·))&&
 s.vars.all (P.varReadable ·)&&fn.resultTypes.all (λt=>P.readableRec t&&decide (t<P.types.size))&&(c.ifacesOut==fn.resultTypes.toList.any (P.ifacesRec ·))&&(c.loopsOut==fn.resultTypes.toList.any (P.loopsFrom ·))&&(c.plainKeys==P.plainKeys)&&c.shortTexts.isNone&&P.stopsHeard&&P.mayEnter&&(c.lifted==P.liftsFinal)&&(P.make==some c.make)&&(c.kinds==(if c.domain.isEmpty then[] else fn.params.toList.map λt=>match P.underlying t with|some (.int k)=>some k|_=>none))&&(c.pinned==c.pinnedBy)&&
 (c.veiled==(fn.params.toList++s.plain.varTypes P++fn.resultTypes.toList).any (P.veiledRec ·))&&c.veiledFits P fn.params.toList (fn.params.toList++s.plain.varTypes P++fn.resultTypes.toList)
theorem jz0 {P:Program} {f:FuncId} {fn:Func} {s:ChangeSpec} {c:OpenClaim} (b:laidOutB P=true) (d:mapsRowed P=true) (e:(c.inPlace==P.inPlace f)=true) (g:(c.unfollowed==P.unfollowed f)=true)
  (h:(c.recurses==P.recurses f)=true) (i:(c.named==P.varsNamed f)=true) (a:restFacts P f fn s c=true):joinedFacts P f fn s c=true:=by
 unfold restFacts at a;unfold joinedFacts;rw[b,d,e,g,h,i];simp only[PU];exact a
theorem kU0:mapsRowed P=true:=rK
theorem jO0 {w w':World} (h:Ext w w'):Below w.heap.size w w':=⟨h.os,h.tape,h.output,h.size,λk a=>h.block k a id⟩
end Go.Proofs.YtfnpmncplaibiaaGreatDoor
end
end
