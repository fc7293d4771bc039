import Derived.Test.YtiglcianecnchaaGreatDoorWxbP1
import Derived.RangeFuncRecord
import Derived.WalkKit
import Derived.ProofKit
import Derived.OpenShut
import Derived.ShutString
import Derived.ChangeOld
import Derived.JoinedOf
/- A part of the proof. -/
set_option linter.all false
set_option maxRecDepth 9999
set_option maxHeartbeats 2000000
noncomputable section
namespace Go.Vc
open Go Go.RowKit
section
def hasR:Code->Bool
 | .rangeFunc _ _ _ _=>true
 | .seq a b=>hasR a||hasR b
 | .block _ b=>hasR b
 |_=>false
def ovrAt:List Nat->Fr->List Value->Fr
 |[],f,_=>f
 |p::r,f,args=>ovrAt r (put f (some p) (args.headD undef)) args.tail
def jmp (x:Nat) (Nn Nr Nx:World->Prop) (pe:Option Code) (w:World):Prop:=
 match pe with
 |none=>Nn w
 |some .ret=>Nr w
 |some (.exit i)=>i=x/\Nx w
 |_=>False
def ZX0 (gv:Value) (n x:Nat) (w:World) (B:List Value->(World->(World->Prop)->Prop)->(World->Prop)->(World->Prop)->(World->Prop)->World->Prop) (Nn Nr Nx:Nat->World->Prop):Prop:=
 ∃gf lb,gv= .func (.func gf) #[] lb/\∀(l D:Nat) (w1:World) (RR:LoopState->Option Code->World->Prop),D=w.heap.size->l=w.heap.size+1->Ext w w1->w1.heap.size=w.heap.size+2->w1.heap[D]?=some (.deferred (some []))->
  (∀st pe w' w'',RR st pe w'->w''.heap[l]?=w'.heap[l]?->RR st pe w'')->RR .ready none w1->
  (∀(args:List Value) (w':World) (K:oK),args.length=n->RR .ready none w'->
   B args (λw1 k=>RR .ready none w1/\∀w2,Same (· =l) w1 w2->w2.heap.size=w1.heap.size->RR .busy none w2->k w2)
    (λw3=>RR .busy none w3/\∀w4,Same (· =l) w3 w4->w4.heap.size=w3.heap.size->RR .ready none w4->K (.bool true) w4)
    (λw3=>RR .busy none w3/\∀w4,Same (· =l) w3 w4->w4.heap.size=w3.heap.size->RR .done (some .ret) w4->K (.bool false) w4)
    (λw3=>RR .busy none w3/\∀w4,Same (· =l) w3 w4->w4.heap.size=w3.heap.size->RR .done (some (.exit x)) w4->K (.bool false) w4) w'->
   vcallv (.func (.yield l) #[] #[]) ⟨args⟩ w' K)->
  vcall gf ⟨.func (.yield l) #[] #[]::lb.toList⟩ w1 λ_ w3=> ∃st pe,st≠ .busy/\RR st pe w3/\∀w4,Same (· =l) w3 w4->w4.heap.size=w3.heap.size->jmp x (Nn D) (Nr D) (Nx D) pe w4
def rndK (x:Nat) (kn kr kx:World->Prop) (e:Exit) (_:Fr) (w:World):Prop:=
 match e with
 | .normal=>kn w
 | .ret=>kr w
 | .exit i=>cond (Nat.beq i x) (kx w) False
 |_=>False
def vx (T:Ann) (x:Nat):Code->(Exit->Fr->World->Prop)->(Nat->Exit->Fr->World->Prop)->Fr->World->Prop
 | .rangeFunc g ps asg body,_,K1,f,w=>
  ZX0 (ev f g) ps.size x w
   (λargs beg kn kr kx w'=>vc T asg (seqK (λf1 w1=>beg w1 λw2=>vc T body (rndK x kn kr kx) f1 w2) (λ_ _ _=>False)) (ovrAt ps.toList f args) w')
   (λD w'=>K1 D .normal f w') (λD w'=>K1 D .ret f w') (λD w'=>K1 D (.exit x) f w')
 | .seq a b,K0,K1,f,w=>
  match hasR a with
  |true=>vx T x a (seqK (λf' w'=>vc T b K0 f' w') K0) (λD=>seqK (λf' w'=>vc T b (K1 D) f' w') (K1 D)) f w
  |false=>vc T a (seqK (λf' w'=>vx T x b K0 K1 f' w') K0) f w
 | .block id c,K0,K1,f,w=>vx T x c (blkK id K0) (λD=>blkK id (K1 D)) f w
 |_,_,_,_,_=>False
def okX (n:Nat) (T:Ann):Code->Bool
 | .rangeFunc _ ps asg body=>okC n T asg&&(okC n T body&&ps.toList.all λp=>Nat.blt p n)
 | .seq a b=>cond (hasR a) (okX n T a&&okC n T b) (okC n T a&&okX n T b)
 | .block _ c=>okX n T c
 |_=>false
def Y50 (D:Nat):Deferred:={target:= .collected D,args:= #[]}
def kK0 (n:Nat) (K0:Exit->Fr->World->Prop) (K1:Nat->Exit->Fr->World->Prop) (e:Exit) (a:Act) (w:World):Prop:=
 (∃f',Sim [] n f' a/\K0 e f' w)\/ ∃D f',Sim [Y50 D] n f' a/\K1 D e f' w
section
variable {T:Ann} {n x:Nat}
theorem Zc0:∀(ps:List Nat) (f:Fr) (args:List Value) (tmps:Array Value),args.length=ps.length->ps.all (λp=>Nat.blt p n)=true->tmps.size=n->(∀t,tmps.getD t undef=f t)->
  Sim [] n (ovrAt ps f args) {tmps:=(ps.zip args).foldl (λt p=>t.setIfInBounds p.1 p.2) tmps,defers:=[]}:=by
 intro ps;induction ps with
 |nil=>intro f args tmps _ _ hs a;exact⟨hs,rfl,a⟩
 |cons p r g=>
  intro f args tmps d b hs a;cases args with
  |nil=>simp at d
  |cons v args=>
   simp only[List.all_cons,gg] at b;have c:p<n:=(by simpa[pM] using b.1);refine g (put f (some p) v) args (tmps.setIfInBounds p v) (by simpa using d) b.2 (by simpa using hs) λt=>?_;by_cases e:t=p
   ·subst e;rw[Jk];simp[gP,hs,c]
   ·rw[VI _ _ _ _ e,<-a t];simp only[gP];rw[Pd (Ne.symm e)]
theorem Y8 (w:World) (l:Nat) (o:Obj):Same (· =l) w (w.putObj l o):=
 ⟨rfl,rfl,rfl,by simp,λ_ _ a=>World.putObj_heap_other a⟩
theorem Ya {w:World} {l:Nat} {o:Obj} (h:w.heap[l]?=some o):l<w.heap.size:=(gz.1 h).1
theorem range_sound (hm:P.follows .mixedOrders=true) {g:Operand} {ps:Array Tmp} {asg body:Code} {S:Exit->Fr->World->Prop} {U:Nat->Exit->Fr->World->Prop} {f:Fr} {a:Act} {w:World}
  (z:okX n T (.rangeFunc g ps asg body)=true) (h:vx T x (.rangeFunc g ps asg body) S U f w) (hs:Sim [] n f a):(Code.rangeFunc g ps asg body).wpIn (FR none) 0 P (kK0 n S U) a w:=by
 simp only[okX,gg] at z;obtain⟨M,N,O⟩:=z;obtain⟨gf,lb,hg,H⟩:=h;refine wpIn_rangeFunc λfn _=>?_
 let d:LoopState->Option Code->Loop:=λst pe=>{state:=st,pending:=pe,fn,tmps:=a.tmps,params:=ps,assign:=asg,body,defers:=w.heap.size}
 obtain⟨w1,q⟩:∃w1,(w.alloc (.deferred (some []))).alloc (.loop (d .ready none))=w1:=⟨_,rfl⟩;have G:w1.heap[w.heap.size+1]?=some (.loop (d .ready none)):=by
  rw[<-q];have:=World.alloc_heap_new (w.alloc (.deferred (some []))) (.loop (d .ready none));rwa[World.size_alloc] at this
 have hD1:w1.heap[w.heap.size]?=some (.deferred (some [])):=by
  rw[<-q];exact(Below.heap_alloc _ _ _ (by simp)).trans (World.alloc_heap_new w _)
 have D:w1.heap.size=w.heap.size+2:=by rw[<-q,World.size_alloc,World.size_alloc]
 have F:Ext w w1:=by
  rw[<-q];exact⟨rfl,rfl,rfl,by rw[World.size_alloc,World.size_alloc];omega,λb Y _=>(Below.heap_alloc _ _ b (by rw[World.size_alloc];omega)).trans (Below.heap_alloc w _ b Y)⟩
 have Z:=H (w.heap.size+1) w.heap.size w1 (λst pe w'=>w'.heap[w.heap.size+1]?=some (.loop (d st pe))) rfl rfl F D hD1 (λst pe w' w'' A he=>he.trans A) G ?_
 ·obtain⟨I,r⟩:=Z;refine⟨w.heap.size+1,[Y50 w.heap.size],w1,{target:= .fn (.func gf) lb,args:= #[.func (.yield (w.heap.size+1)) #[] #[]]},w1,gf,
   #[.func (.yield (w.heap.size+1)) #[] #[]]++lb,w1,?_,?_,λ_ _=>trivial,?_,λh=>(by cases h),?_⟩
  ·rw[<-q];exact run_enterLoop_outer _ _ _ _ _
  ·simp only[resolve,hs.eval,hg];simp[go_sem,ev]
  ·simp[invoke,go_sem,callFunc_run I]
  ·have e:(#[.func (.yield (w.heap.size+1)) #[] #[]]++lb:Array Value)=⟨.func (.yield (w.heap.size+1)) #[] #[]::lb.toList⟩:=by apply GF.1;simp
   rw[e];refine callsIn_wide.2 (Calls.mono r λe E he=>?_);cases e with
   |returned v=>
    obtain⟨st,pe,R,A,X⟩:=he;have u:=run_endLoop (P:=P) A (by exact R);have m:=X _ (Y8 E _ (.loop {d st pe with state:= .exhausted})) (by simp);have s:Sim [Y50 w.heap.size] n f {a with defers:=[Y50 w.heap.size]++a.defers}:=⟨hs.size,by rw[hs.defers];rfl,hs.at_⟩;refine⟨pe,_,u,?_⟩;cases pe with
    |none=>exact .inr ⟨_,f,s,m⟩
    |some c=>
     cases c<;>simp only[jmp] at m<;>try exact m.elim
     case exit i=>
      obtain⟨rfl,m⟩:=m;exact wpIn_exit (.inr ⟨_,f,s,m⟩)
     case ret=>exact wpIn_ret (.inr ⟨_,f,s,m⟩)
   |panicked c=>exact he.elim
   |outgrown=>exact he.elim
 ·intro args w' K hlen A W;have hy:=run_yield (P:=P) (args:=(⟨args⟩:Array Value)) A (by simpa[d] using hlen);refine⟨fn,_,asg,body,hy,roundIn_of_wpIn trivial ?_⟩;have C:=Zc0 (n:=n) ps.toList f args a.tmps (by simpa using hlen) O hs.size hs.at_;have ez:((d .ready none).params.zip (⟨args⟩:Array Value)).foldl (λtmps (t,a)=>tmps.setIfInBounds t a) (d .ready none).tmps=(ps.toList.zip args).foldl (λt p=>t.setIfInBounds p.1 p.2) a.tmps:=by
   rw[<-PC,Array.toList_zip]
  rw[ez];have V:=vc_sound (ro:=some (w.heap.size+1)) hm asg _ _ _ w' M W C (λl f w h=>h);refine wpIn_mono V ?_;rintro e a2 w2 ⟨f2,Q,_,y⟩;cases e<;>simp only[seqK] at y<;>try exact y.elim
  case normal=>
   obtain⟨B,y⟩:=y;refine⟨_,run_beginRound B rfl,?_⟩;have L:=Ya B;have J:=y _ (Y8 w2 _ (.loop {d .ready none with state:= .busy})) (by simp) (World.putObj_heap_same L);refine wpIn_mono (vc_sound (ro:=some (w.heap.size+1)) hm body _ _ _ _ N J Q (λl f w h=>h)) ?_;rintro e a3 E ⟨f3,a0,_,j⟩;cases e<;>simp only[rndK] at j<;>try exact j.elim
   case normal=>
    obtain⟨k,o⟩:=j;exact⟨_,_,run_endRound none k,o _ (Y8 E _ _) (by simp) (World.putObj_heap_same (Ya k))⟩
   case ret=>
    obtain⟨k,o⟩:=j;exact⟨_,_,run_endRound (some .ret) k,o _ (Y8 E _ _) (by simp) (World.putObj_heap_same (Ya k))⟩
   case exit i=>
    cases hi:Nat.beq i x
    ·rw[hi] at j;exact j.elim
    ·rw[hi] at j;obtain rfl:=gr hi;obtain⟨k,o⟩:=j;exact⟨_,_,run_endRound (some (.exit i)) k,o _ (Y8 E _ _) (by simp) (World.putObj_heap_same (Ya k))⟩
theorem jI0 (hm:P.follows .mixedOrders=true):∀(c:Code) (p:Exit->Fr->World->Prop) (q:Nat->Exit->Fr->World->Prop) (f:Fr) (a:Act) (w:World),okX n T c=true->vx T x c p q f w->Sim [] n f a->
  (∀l f w,¬p (.goto l) f w)->(∀D l f w,¬q D (.goto l) f w)->c.wpIn (FR none) 0 P (kK0 n p q) a w:=by
 intro c;induction c with
 |rangeFunc g ps asg body _ _=>intro p q f a w d h hs _ _;exact range_sound hm d h hs
 |seq y z ihy ihz=>
  intro p q f a w d h hs o s;refine wpIn_seq ?_;simp only[okX] at d;simp only[vx] at h;cases E:hasR y with
  |true=>
   rw[E] at d h;simp only[cond,gg] at d;simp only at h;refine wpIn_mono (ihy _ _ f a w d.1 h hs (λl f w h=>o l f w h) (λD l f w h=>s D l f w h)) ?_;rintro e r w' (⟨m,j,k⟩|⟨D,m,j,k⟩)
   ·cases e with
    |normal=>
     refine wpIn_mono (vc_sound hm z p m r w' d.2 k j o) ?_;rintro e A w'' ⟨u,t,_,v⟩;exact .inl ⟨u,t,v⟩
    |_=>exact .inl ⟨m,j,k⟩
   ·cases e with
    |normal=>
     refine wpIn_mono (vc_sound hm z (q D) m r w' d.2 k j (s D)) ?_;rintro e A w'' ⟨u,t,_,v⟩;exact .inr ⟨D,u,t,v⟩
    |_=>exact .inr ⟨D,m,j,k⟩
  |false=>
   rw[E] at d h;simp only[cond,gg] at d;simp only at h;refine wpIn_mono (vc_sound hm y _ f a w d.1 h hs (λl f w h=>o l f w h)) ?_;rintro e r w' ⟨m,j,_,k⟩;cases e with
   |normal=>exact ihz p q m r w' d.2 k j o s
   |_=>exact .inl ⟨m,j,k⟩
 |block id b F=>
  intro p q f a w d h hs o s;simp only[vx] at h;refine wpIn_block (wpIn_mono (F _ _ f a w d h hs (λl f w h=>o l f w h) (λD l f w h=>s D l f w h)) ?_);have key:∀(K:Exit->Fr->World->Prop) (e:Exit) (m:Fr) (w':World),blkK id K e m w'->∀(df:List Deferred) (r:Act),Sim df n m r->(∀e f w a,Sim df n f a->K e f w->kK0 n p q e a w)->Exit.inBlock id (kK0 n p q) e r w':=by
   intro K e m w' k df r j B;cases e with
   |exit i=>
    simp only[blkK] at k;cases hi:Nat.beq i id
    ·rw[hi] at k;have C:i≠id:=Nat.ne_of_beq_eq_false hi;simp only[Exit.inBlock,C,if_false];exact B _ _ _ _ j k
    ·rw[hi] at k;have:i=id:=gr hi;subst this;simp only[Exit.inBlock,if_true];exact B _ _ _ _ j k
   |_=>exact B _ _ _ _ j k
  rintro e r w' (⟨m,j,k⟩|⟨D,m,j,k⟩)
  ·exact key p e m w' k [] r j λe f w a hs h=> .inl ⟨f,hs,h⟩
  ·exact key (q D) e m w' k [Y50 D] r j λe f w a hs h=> .inr ⟨D,f,hs,h⟩
 |_=>intro p q f a w d;exact absurd d (by simp[okX])
def x80 (D:Nat) (w:World) (k:World->Prop):Prop:=w.heap[D]?=some (.deferred (some []))/\∀w',Same (· =D) w w'->w'.heap.size=w.heap.size->k w'
def retM (rs:List ResultVar) (K:oK) (D:Nat) (e:Exit) (f:Fr) (w:World):Prop:=
 match e with
 | .normal=>x80 D w λw'=>ZD0 rs f w' K
 | .ret=>x80 D w λw'=>ZD0 rs f w' K
 |_=>False
theorem zR0 {g:Nat} {fn:Func} {c:Code} {args:List Value} {w:World} {K:oK} (hm:P.follows .mixedOrders=true) (r:P.funcs[g]?=some fn) (q:fn.body=some c)
  (t:fn.ntmps=n) (s:okFn g=true) (j:okX n T c=true) (hlen:Nat.ble args.length n=true)
  (h:vx T x c (retF fn.results.toList K) (retM fn.results.toList K) (nthV args) w):vcall g args.toArray w K:=by
 refine⟨s,callsIn_wide (n:=0).1 (callsIn_of_wp_marks r q trivial ?_)⟩;rw[t];refine wpIn_mono (jI0 (x:=x) hm c _ _ _ _ w j h (sim_enter args n (Gg hlen)) (λl f w h=>h) (λD l f w h=>h)) ?_;rintro e k w' (⟨m,a,b⟩|⟨D,m,a,b⟩)
 ·cases e with
  |normal=>obtain⟨v,d,i⟩:=vres_sound b a;rw[bodyPostM,a.defers];exact⟨v,d,i⟩
  |ret=>obtain⟨v,d,i⟩:=vres_sound b a;rw[bodyPostM,a.defers];exact⟨v,d,i⟩
  |_=>exact b.elim
 ·have fin:x80 D w' (λw'=>ZD0 fn.results.toList m w' K)->LeavesInM (FR none) 0 P fn k.tmps (retK K) k.defers .returning w':=by
   rintro⟨o,p⟩;rw[a.defers];obtain⟨v,d,i⟩:=vres_sound (p _ (Y8 w' D (.deferred none)) (by simp)) a;exact⟨by simp,.inl ⟨_,_,rfl,run_takeDeferred o,v,d,i⟩⟩
  cases e with
  |normal=>exact fin b
  |ret=>exact fin b
  |_=>exact b.elim
end
end
end Go.Vc
section
namespace Go.M
inductive Tm where
 |mk (op a b:Int) (s:ByteArray) (ks:List Tm)
namespace Tm
def op:Tm->Int|mk o _ _ _ _=>o
def a:Tm->Int|mk _ a _ _ _=>a
def b:Tm->Int|mk _ _ b _ _=>b
def s:Tm->ByteArray|mk _ _ _ s _=>s
def ks:Tm->List Tm|mk _ _ _ _ ks=>ks
theorem ind {p:Tm->Prop} (h:∀t,(∀k,k∈t.ks->p k)->p t):∀t,p t
 |mk o a b s ks=>h _ λk (c:k∈ks)=>by
   have:=List.sizeOf_lt_of_mem c;exact ind h k
decreasing_by
 grind
variable {α:Type}
mutual
def fold (f:Tm->List α->α):Tm->α
 |mk o a b s ks=>f (mk o a b s ks) (foldL f ks)
def foldL (f:Tm->List α->α):List Tm->List α
 |[]=>[]
 |k::r=>fold f k::foldL f r
end
theorem foldL_eq (f:Tm->List α->α) (ks:List Tm):foldL f ks=ks.map (fold f):=by
 induction ks with
 |nil=>simp only[foldL,Pz]
 |cons k r a=>simp only[foldL,a,Gz]
theorem fold_eq (f:Tm->List α->α) (t:Tm):fold f t=f t (t.ks.map (fold f)):=by
 cases t with
 |mk o a b s ks=>simp only[fold,foldL_eq];rfl
end Tm
def nada:ByteArray:=⟨#[]⟩
instance:Inhabited Tm:=⟨.mk 0 0 0 nada []⟩
def vok (w n:Int):Bool:=decide (1<=w)&&decide (w<=4)&&decide (0<=n)&&decide (n<2^w.toNat)
theorem vok_iff {w n:Int}:vok w n=true↔1<=w/\w<=4/\0<=n/\n<2^w.toNat:=by simp[vok,and_assoc]
theorem four {w:Int} (a:1<=w) (b:w<=4):w=1\/w=2\/w=3\/w=4:=oM
theorem vok_lt {w n:Int} (h:vok w n=true):1<=w/\w<=4/\0<=n/\n<16:=by
 obtain⟨a,b,c,d⟩:=vok_iff.1 h
 grind [four]
theorem small1 {p:Nat->Nat->Prop} [∀w n,Decidable (p w n)] (h:∀w:Fin 5,∀n:Fin 16,1<=w.1->n.1<2^w.1->p w n) {w n:Int} (a:vok w n=true):p w.toNat n.toNat:=by
 obtain⟨b,c,d,e⟩:=vok_lt a;obtain⟨_,_,_,f⟩:=vok_iff.1 a;refine h ⟨w.toNat,oM⟩ ⟨n.toNat,oM⟩ (by grind) ?_
 grind
def unM (op w a:Int):Int:=if op=1 then 2^w.toNat-1-a else(2^w.toNat-a)%2^w.toNat
def binN (op w a b:Nat):Nat:=
 if op=3 then a&&&b
 else if op=4 then a|||b
 else if op=5 then a^^^b
 else if op=6 then(a+b)%2^w
 else if op=7 then(a+2^w-b)%2^w
 else if op=8 then a*b%2^w
 else if op=9 then(if b=0 then 2^w-1 else a/b)
 else if op=10 then(if b=0 then a else a%b)
 else if op=11 then a*2^b%2^w
 else if op=12 then a/2^b
 else if a<2^(w-1) then a/2^b else 2^w-1-(2^w-1-a)/2^b
def binM (op w a b:Int):Int:=binN op.toNat w.toNat a.toNat b.toNat
def catM (v a b:Int):Int:=a*2^v.toNat+b
def sgn (w a:Int):Int:=if a<2^(w.toNat-1) then a else a-2^w.toNat
def cmpM (op w a b:Int):Bool:=if op=15 then decide (a=b) else if op=16 then decide (a<b) else decide (sgn w a<sgn w b)
def cutM (a hi lo:Int):Int:=a/2^lo.toNat%2^(hi-lo+1).toNat
theorem unM_ok {op w a:Int} (h:vok w a=true):vok w (unM op w a)=true:=by
 obtain⟨b,c,d,e⟩:=vok_iff.1 h;refine vok_iff.2 ⟨b,c,?_⟩;unfold unM;omega
def Yi0 (op w:Nat):Bool:=(List.range 16).all λa=>(List.range 16).all λb=> !(decide (a<2^w)&&decide (b<2^w))||decide (binN op w a b<2^w)
theorem binN_lt {op w a b:Nat} (f:3<=op) (h:op<=13) (hw:1<=w) (d:w<=4) (g:a<2^w) (i:b<2^w):binN op w a b<2^w:=by
 have c:∀o:Fin 14,∀v:Fin 5,3<=o.1->1<=v.1->Yi0 o v=true:=by decide+kernel
 have e:2^w<=2^4:=gK oM d;have:=c ⟨op,oM⟩ ⟨w,oM⟩ f hw;simp only[Yi0,gU,gH,Ge,gJ,GB,decide_eq_false_iff_not,decide_eq_true_eq] at this
 grind
theorem binM_ok {op w a b:Int} (k:3<=op) (c:op<=13) (g:vok w a=true) (h:vok w b=true):vok w (binM op w a b)=true:=by
 obtain⟨i,j,l,m⟩:=vok_iff.1 g;obtain⟨_,_,d,f⟩:=vok_iff.1 h;have e:((2^w.toNat:Nat):Int)=2^w.toNat:=by simp
 have:=binN_lt (op:=op.toNat) (w:=w.toNat) (a:=a.toNat) (b:=b.toNat) oM oM oM oM oM oM
 grind [vok_iff,binM]
theorem cat_ok {v w a b:Int} (c:vok w a=true) (d:vok v b=true) (hs:w+v<=4):vok (w+v) (catM v a b)=true:=by
 obtain⟨e,f,g,h⟩:=vok_iff.1 c;obtain⟨i,j,k,l⟩:=vok_iff.1 d;refine vok_iff.2 ⟨oM,hs,?_⟩;unfold catM
 grind [four]
theorem cut_ok {w a hi lo:Int} (b:vok w a=true) (c:0<=lo) (h:lo<=hi) (hw:hi<w):vok (hi-lo+1) (cutM a hi lo)=true:=by
 obtain⟨d,e,f,g⟩:=vok_iff.1 b;refine vok_iff.2 ⟨oM,oM,?_⟩;unfold cutM;omega
def vecUn (op w n:Int):(Int×Int)×Bool:=if vok w n=true/\(op=1\/op=2) then((w,unM op w n),true) else((0,0),false)
def vecBin (op w n v m:Int):(Int×Int)×Bool:=
 if vok w n=true/\vok v m=true then
  if op=14 then(if w+v<=4 then((w+v,catM v n m),true) else((0,0),false))
  else if 3<=op/\op<=13/\w=v then((w,binM op w n m),true) else((0,0),false)
 else((0,0),false)
def vecCmp (op w n v m:Int):Bool×Bool:=
 if vok w n=true/\vok v m=true/\w=v/\15<=op/\op<=17 then(cmpM op w n m,true) else(false,false)
def vecCut (w n hi lo:Int):(Int×Int)×Bool:=if vok w n=true/\0<=lo/\lo<=hi/\hi<w then((hi-lo+1,cutM n hi lo),true) else((0,0),false)
theorem vok_nat {w n:Int} (h:vok w n=true):∃k a:Nat,w=k/\n=a/\1<=k/\k<=4/\a<2^k:=by
 obtain⟨b,c,d,e⟩:=vok_iff.1 h;refine⟨w.toNat,n.toNat,oM,oM,oM,oM,?_⟩
 grind
theorem unM_not {k a:Nat} (c:1<=k) (d:k<=4) (h:a<2^k):unM 1 k a=((18446744073709551615-a)%2^k:Nat):=by
 have b:∀v:Fin 5,∀x:Fin 16,1<=v.1->x.1<2^v.1->unM 1 v.1 x.1=((18446744073709551615-x.1)%2^v.1:Nat):=by decide+kernel
 have:2^k<=2^4:=gK oM d;exact b ⟨k,oM⟩ ⟨a,oM⟩ c h
theorem unM_neg {k a:Nat} (c:1<=k) (d:k<=4) (h:a<2^k):unM 2 k a=((if a=0 then 0 else 18446744073709551616-a)%2^k:Nat):=by
 have b:∀v:Fin 5,∀x:Fin 16,1<=v.1->x.1<2^v.1->unM 2 v.1 x.1=((if x.1=0 then 0 else 18446744073709551616-x.1)%2^v.1:Nat):=by decide+kernel
 have:2^k<=2^4:=gK oM d;exact b ⟨k,oM⟩ ⟨a,oM⟩ c h
theorem cat_or {k v a b:Nat} (d:v<=4) (f:k<=4) (i:a<2^k) (e:b<2^v):((a*2^v|||b:Nat):Int)=catM v a b:=by
 have c:∀v:Fin 5,∀x y:Fin 16,y.1<2^v.1->x.1*2^v.1|||y.1=x.1*2^v.1+y.1:=by decide+kernel
 have g:2^k<=2^4:=gK oM f;have h:2^v<=2^4:=gK oM d;have:=c ⟨v,oM⟩ ⟨a,oM⟩ ⟨b,oM⟩ e
 grind [catM]
end Go.M
end
namespace Go.M
open Go.Vc
abbrev Dcl:=ByteArray×Int
def findD (ds:List Dcl) (s:ByteArray):Int:=idxI ds.length λi=>decide ((ds.getD i (nada,0)).1=s)
def tru:ByteArray:=⟨#[116,114,117,101]⟩
def nameOk (s:ByteArray):Bool:=decide (1<=s.size)&&decide (s.size<=4)&&decide (s≠tru)&&s.data.all λc=>decide (97<=c.toNat)&&decide (c.toNat<=122)
def bits (ds:List Dcl):Int:=(ds.map (·.2)).sum
def dclOk (ds:List Dcl) (i:Nat):Bool:=nameOk (ds.getD i (nada,0)).1&&decide (1<=(ds.getD i (nada,0)).2)&&decide ((ds.getD i (nada,0)).2<=4)&&decide (findD (ds.take i) (ds.getD i (nada,0)).1<0)
def declOk (ds:List Dcl):Bool:=decide (ds.length<=4)&&((List.range ds.length).all λi=>dclOk ds i)&&decide (bits ds<=8)
def envOk (ds:List Dcl) (env:List Int):Bool:=declOk ds&&decide (env.length=ds.length)&&(List.range ds.length).all λi=>vok (ds.getD i (nada,0)).2 (env.getD i 0)
theorem findD_lt (ds:List Dcl) (s:ByteArray): -1<=findD ds s/\findD ds s<ds.length:=by
 grind [findD,idxI]
theorem findD_neg {ds:List Dcl} {s:ByteArray} (h:findD ds s<0) {j:Nat} (a:j<ds.length):(ds.getD j (nada,0)).1≠s:=by
 grind [findD,idxI]
theorem findD_get {ds:List Dcl} {s:ByteArray} (h:0<=findD ds s):(ds.getD (findD ds s).toNat (nada,0)).1=s:=by
 grind [findD,idxI]
theorem findD_of {ds:List Dcl} {s:ByteArray} {i:Nat} (hi:i<ds.length) (h:(ds.getD i (nada,0)).1=s) (b:∀j,j<i->(ds.getD j (nada,0)).1≠s):findD ds s=i:=
 idxI_some hi (by grind) λj a=>decide_eq_false (b j a)
theorem findD_none {ds:List Dcl} {s:ByteArray} (b:∀j,j<ds.length->(ds.getD j (nada,0)).1≠s):findD ds s= -1:=
 Kg λj a=>decide_eq_false (b j a)
theorem decl_iff {ds:List Dcl}:declOk ds=true↔ds.length<=4/\(∀i,i<ds.length->dclOk ds i=true)/\bits ds<=8:=by
 grind [declOk]
theorem take_getD {α:Type} {l:List α} {i j:Nat} {d:α} (h:j<i):(l.take i).getD j d=l.getD j d:=by
 grind
theorem dcl_apart {ds:List Dcl} (h:declOk ds=true) {i j:Nat} (hi:i<ds.length) (b:j<i):(ds.getD j (nada,0)).1≠(ds.getD i (nada,0)).1:=by
 have:=(decl_iff.1 h).2.1 i hi;simp only[dclOk,gg,decide_eq_true_eq] at this;have a:=findD_neg this.2 (j:=j) (by rw[V0];omega);rwa[take_getD b] at a
def bitT (ds:List Dcl) (i:Nat):Int:=((ds.take i).map (·.2)).sum
theorem bitT_succ {ds:List Dcl} {i:Nat} (h:i<ds.length):bitT ds (i+1)=bitT ds i+(ds.getD i (nada,0)).2:=by
 grind [bitT,List.take_add_one]
theorem bitT_all (ds:List Dcl):bitT ds ds.length=bits ds:=by unfold bitT bits;grind
theorem dcl_wide {ds:List Dcl} (h:declOk ds=true) {i:Nat} (hi:i<ds.length):1<=(ds.getD i (nada,0)).2/\(ds.getD i (nada,0)).2<=4:=by
 simp_all[declOk,dclOk]
theorem env_ok {ds:List Dcl} {env:List Int} (h:envOk ds env=true):declOk ds=true/\env.length=ds.length/\∀i,i<ds.length->vok (ds.getD i (nada,0)).2 (env.getD i 0)=true:=by
 grind [envOk]
def sizeM:Tm->Nat:=Tm.fold λ_ xs=>1+xs.sum
def deepM:Tm->Nat:=Tm.fold λ_ xs=>1+xs.foldl max 0
theorem sizeM_eq (t:Tm):sizeM t=1+(t.ks.map sizeM).sum:=Tm.fold_eq _ t
theorem Yd (t:Tm):deepM t=1+(t.ks.map deepM).foldl max 0:=Tm.fold_eq _ t
def szT (ks:List Tm) (i:Nat):Nat:=((ks.take i).map sizeM).sum
def dpT (ks:List Tm) (i:Nat):Nat:=((ks.take i).map deepM).foldl max 0
theorem take_add {α:Type} {l:List α} {i:Nat} (h:i<l.length) (d:α):l.take (i+1)=l.take i++[l.getD i d]:=by
 simp_all
theorem szT_succ {ks:List Tm} {i:Nat} (h:i<ks.length):szT ks (i+1)=szT ks i+sizeM (ks.getD i default):=by
 grind [szT,take_add]
theorem dpT_succ {ks:List Tm} {i:Nat} (h:i<ks.length):dpT ks (i+1)=max (dpT ks i) (deepM (ks.getD i default)):=by
 grind [dpT,take_add]
theorem szT_all (t:Tm):sizeM t=1+szT t.ks t.ks.length:=by rw[sizeM_eq,szT,gy]
theorem dpT_all (t:Tm):deepM t=1+dpT t.ks t.ks.length:=by rw[Yd,dpT,gy]
theorem szT_mono {ks:List Tm} {i:Nat}:∀{j:Nat},i<=j->j<=ks.length->szT ks i<=szT ks j
 |0,h,_=>by
  grind
 |j+1,h,a=>by
  by_cases e:i=j+1
  ·grind
  ·have:=szT_mono (ks:=ks) (i:=i) (j:=j) oM oM;rw[szT_succ oM];omega
theorem dpT_mono {ks:List Tm} {i:Nat}:∀{j:Nat},i<=j->j<=ks.length->dpT ks i<=dpT ks j
 |0,h,_=>by
  grind
 |j+1,h,a=>by
  by_cases e:i=j+1
  ·grind
  ·have:=dpT_mono (ks:=ks) (i:=i) (j:=j) oM oM;rw[dpT_succ oM];omega
def fits (t:Tm):Bool:=decide (sizeM t<=20)&&decide (deepM t<=7)
theorem fits_iff {t:Tm}:fits t=true↔sizeM t<=20/\deepM t<=7:=by simp[fits]
def manyM (t:Tm):Nat:=if fits t then sizeM t else 21
def lvlM (t:Tm):Nat:=if fits t then deepM t else 8
def arity (o:Int):Int:=if o=20\/o=21\/o=24 then 0 else if o=1\/o=2\/o=22\/o=25 then 1 else if o=23 then 3 else if o=26\/o=27 then 2 else if 3<=o/\o<=17 then 2 else-1
def plainM (t:Tm):Bool:=(decide (t.op=20)||decide (t.op=22)||(decide (t.a=0)&&decide (t.b=0)))&&(decide (t.op=21)||decide (t.s=nada))
def sortK (ds:List Dcl) (t:Tm) (xs:List Int):Int:=
 if t.op=20 then(if vok t.a t.b then t.a else-1)
 else if t.op=21 then(if findD ds t.s<0 then-1 else(ds.getD (findD ds t.s).toNat (nada,0)).2)
 else if 24<=t.op then(if xs.any (λx=>decide (x≠0)) then-1 else 0)
 else if t.op=23 then(if xs.getD 0 0=0/\xs.getD 1 0=xs.getD 2 0 then xs.getD 1 0 else-1)
 else if t.op=22 then(if 0<=t.b/\t.b<=t.a/\t.a<xs.getD 0 0 then t.a-t.b+1 else-1)
 else if t.op<=2 then(if 0<xs.getD 0 0 then xs.getD 0 0 else-1)
 else if t.op=14 then(if 0<xs.getD 0 0/\0<xs.getD 1 0/\xs.getD 0 0+xs.getD 1 0<=4 then xs.getD 0 0+xs.getD 1 0 else-1)
 else if 15<=t.op then(if 0<xs.getD 0 0/\xs.getD 0 0=xs.getD 1 0 then 0 else-1)
 else(if 0<xs.getD 0 0/\xs.getD 0 0=xs.getD 1 0 then xs.getD 0 0 else-1)
def formed (t:Tm):Bool:=decide (arity t.op=t.ks.length)&&plainM t
def sortF (ds:List Dcl) (t:Tm) (xs:List Int):Int:=if formed t=true/\¬(-1∈xs) then sortK ds t xs else-1
def sortM (ds:List Dcl):Tm->Int:=Tm.fold (sortF ds)
theorem sortM_eq (ds:List Dcl) (t:Tm):sortM ds t=sortF ds t (t.ks.map (sortM ds)):=Tm.fold_eq _ t
theorem arity_ops {o:Int} (h:0<=arity o):(1<=o/\o<=17)\/(20<=o/\o<=27):=by
 grind [arity]
theorem getD_map {α β:Type} (f:α->β) {l:List α} {i:Nat} (h:i<l.length) (d:β) (e:α):(l.map f).getD i d=f (l.getD i e):=by
 grind
theorem getD_mem {α:Type} {l:List α} {i:Nat} (h:i<l.length) (d:α):l.getD i d∈l:=by
 grind
theorem sort_parts {ds:List Dcl} {t:Tm} (h:sortM ds t≠ -1):formed t=true/\(∀k,k∈t.ks->sortM ds k≠ -1)/\sortM ds t=sortK ds t (t.ks.map (sortM ds)):=by
 rw[sortM_eq] at h⊢
 grind [sortF]
theorem sort_range {ds:List Dcl} (c:declOk ds=true):∀t,-1<=sortM ds t/\sortM ds t<=4:=by
 refine Tm.ind λt k=>?_;rw[sortM_eq];unfold sortF;split
 ·rename_i j;have a:∀i,-1<=(t.ks.map (sortM ds)).getD i 0/\(t.ks.map (sortM ds)).getD i 0<=4:=(by grind);have f:=a 0;have g:=a 1;have h:=a 2;have b:=arity_ops (o:=t.op) (by
   grind [formed])
  unfold sortK;split
  ·split
   ·rename_i e;have:=vok_lt e;omega
   ·omega
  ·split
   ·have d:=findD_lt ds t.s;split
    ·omega
    ·have:=dcl_wide c (i:=(findD ds t.s).toNat) oM;omega
   omega
 ·omega
def tsort (ds:List Dcl) (t:Tm):Int:=if fits t=true/\declOk ds=true then sortM ds t else-1
def b2i (b:Bool):Int:=if b then 1 else 0
def valK (ds:List Dcl) (env:List Int) (t:Tm) (xs:List (Int×Int)):Int:=
 if t.op=20 then t.b
 else if t.op=21 then env.getD (findD ds t.s).toNat 0
 else if t.op=24 then 1
 else if t.op=25 then b2i (decide ((xs.getD 0 (0,0)).2=0))
 else if t.op=26 then b2i (decide ((xs.getD 0 (0,0)).2=1)&&decide ((xs.getD 1 (0,0)).2=1))
 else if t.op=27 then b2i (decide ((xs.getD 0 (0,0)).2=1)||decide ((xs.getD 1 (0,0)).2=1))
 else if t.op=23 then(if(xs.getD 0 (0,0)).2=1 then(xs.getD 1 (0,0)).2 else(xs.getD 2 (0,0)).2)
 else if t.op=22 then cutM (xs.getD 0 (0,0)).2 t.a t.b
 else if t.op<=2 then unM t.op (xs.getD 0 (0,0)).1 (xs.getD 0 (0,0)).2
 else if t.op=14 then catM (xs.getD 1 (0,0)).1 (xs.getD 0 (0,0)).2 (xs.getD 1 (0,0)).2
 else if 15<=t.op then b2i (cmpM t.op (xs.getD 0 (0,0)).1 (xs.getD 0 (0,0)).2 (xs.getD 1 (0,0)).2)
 else binM t.op (xs.getD 0 (0,0)).1 (xs.getD 0 (0,0)).2 (xs.getD 1 (0,0)).2
def vecF (ds:List Dcl) (env:List Int) (t:Tm) (xs:List (Int×Int)):Int×Int:=(sortF ds t (xs.map (·.1)),valK ds env t xs)
def vecM (ds:List Dcl) (env:List Int):Tm->Int×Int:=Tm.fold (vecF ds env)
def evalM (ds:List Dcl) (env:List Int) (t:Tm):Int:=(vecM ds env t).2
theorem qc0 (ds:List Dcl) (env:List Int) (t:Tm):vecM ds env t=vecF ds env t (t.ks.map (vecM ds env)):=Tm.fold_eq _ t
theorem vecM_sort (ds:List Dcl) (env:List Int):∀t,(vecM ds env t).1=sortM ds t:=by
 refine Tm.ind λt a=>?_;rw[qc0,sortM_eq];show sortF ds t _=_
 grind [List.map_congr_left]
theorem vecM_pair (ds:List Dcl) (env:List Int) (t:Tm):vecM ds env t=(sortM ds t,evalM ds env t):=by rw[<-vecM_sort ds env t];rfl
theorem evalM_eq (ds:List Dcl) (env:List Int) (t:Tm):evalM ds env t=valK ds env t (t.ks.map (vecM ds env)):=by
 unfold evalM;rw[qc0];rfl
def inS (w n:Int):Prop:=(w=0/\(n=0\/n=1))\/vok w n=true
theorem kf0 {b:Bool}:inS 0 (b2i b):=by left;cases b<;>simp[b2i]
theorem inS_zero {n:Int} (h:inS 0 n):n=0\/n=1:=by
 rcases h with h|h
 ·exact h.2
 ·exact absurd (vok_lt h).1 oM
theorem inS_pos {w n:Int} (h:inS w n) (hw:0<w):vok w n=true:=by
 rcases h with h|h
 ·omega
 ·exact h
theorem eval_in {ds:List Dcl} {env:List Int} (he:envOk ds env=true):∀t,sortM ds t≠ -1->inS (sortM ds t) (evalM ds env t):=by
 obtain⟨A,C,D⟩:=env_ok he;refine Tm.ind λt E h=>?_;obtain⟨r,B,hs⟩:=sort_parts h;rw[hs] at h;rw[hs,evalM_eq];simp only[formed,gg,decide_eq_true_eq] at r;obtain⟨x,z⟩:=r;have u:=arity_ops (o:=t.op) oM;have k:∀i,i<t.ks.length->(t.ks.map (sortM ds)).getD i 0=sortM ds (t.ks.getD i default):=by grind
 have l:∀i,i<t.ks.length->(t.ks.map (vecM ds env)).getD i (0,0)=(sortM ds (t.ks.getD i default),evalM ds env (t.ks.getD i default)):=by grind [getD_map,default,vecM_pair]
 have b:∀i,i<t.ks.length->inS (sortM ds (t.ks.getD i default)) (evalM ds env (t.ks.getD i default)):=by grind
 unfold sortK at h⊢;unfold valK;by_cases d:t.op=20
 ·simp only[d,if_true] at h⊢;split
  ·right;assumption
  grind
 simp only[if_neg d] at h⊢;by_cases f:t.op=21
 ·simp only[f,if_true] at h⊢;have y:=findD_lt ds t.s;split
  ·omega
  ·right;grind
 simp only[if_neg f] at h⊢;by_cases j:24<=t.op
 ·simp only[if_pos j] at h⊢;split
  ·grind
  ·rcases(by omega:t.op=24\/t.op=25\/t.op=26\/t.op=27) with e|e|e|e
   ·left;simp[e]
   ·simp only[e];exact kf0
   ·simp only[e];exact kf0
   ·simp only[e];exact kf0
 simp only[if_neg j,if_neg (show¬t.op=24 by omega),if_neg (show¬t.op=25 by omega),if_neg (show¬t.op=26 by omega),if_neg (show¬t.op=27 by omega)] at h⊢;by_cases n:t.op=23
 ·grind [arity]
 simp only[if_neg n] at h⊢;by_cases g:t.op=22
 ·simp only[g,if_true] at h⊢;have q:t.ks.length=1:=(by grind [arity]);rw[k 0 oM] at h⊢;rw[l 0 oM];split
  ·rename_i a;right;exact cut_ok (inS_pos (b 0 oM) oM) a.1 a.2.1 a.2.2
  omega
 simp only[if_neg g] at h⊢;by_cases p:t.op<=2
 ·simp only[if_pos p] at h⊢;have q:t.ks.length=1:=by
   grind [arity]
  rw[k 0 oM] at h⊢;rw[l 0 oM];split
  ·rename_i a;right
   grind [unM_ok,inS_pos]
  omega
 simp only[if_neg p] at h⊢;have q:t.ks.length=2:=by
  grind [arity]
 have v:=k 0 oM;have w:=k 1 oM;rw[v,w] at h⊢;rw[l 0 oM,l 1 oM];have i0:=b 0 oM;have i1:=b 1 oM;by_cases c:t.op=14
 ·simp only[c,if_true] at h⊢;split
  ·rename_i a;right;exact cat_ok (inS_pos i0 a.1) (inS_pos i1 a.2.1) a.2.2
  omega
 simp only[if_neg c] at h⊢;by_cases m:15<=t.op
 ·grind [kf0]
 simp only[if_neg m] at h⊢;split
 ·rename_i a;right
  grind [binM_ok,inS_pos]
 omega
end Go.M
namespace Go.Vc
open Go Go.M
section
section
variable {F F' S:Nat->Prop} {w w':World} {K:oK} {k:Nat} {v:Value} {xs:List (List Value)}
theorem Sl.ldAgg (h:Sl F w k v xs) {t:TypeId} (b:aggB t k=true) {i:Nat} (hi:i<xs.length):zt t (.pointer (some (eaddr v k i))) w K=K (.agg ⟨xs.getD i []⟩) w:=by
 have a:(xs.getD i []).length=k:=h.wide _ (M.getD_mem hi _);exact Xl (by rw[a];exact b) (Sl.cells h hi)
theorem Sl.ldField (h:Sl F w k v xs) {t:TypeId} (a:oneB t=true) {i j:Nat} {x:Value} (hi:i<xs.length) (b:(xs.getD i [])[j]?=some x):zt t (.pointer (some ((eaddr v k i).add j))) w K=K x w:=
 zZ a (Sl.cells h hi j x b)
theorem Sl.small (h:Sl F w k v xs):xs.length<=9223372036854775807:=by
 obtain⟨_,_,_,a,b,_⟩:=h.shape;omega
end
inductive TmR (F:Nat->Prop) (w:World):List Value->Tm->Prop
 |mk {o a b:Int} {s:ByteArray} {ks:List Tm} {kv:Value} {css:List (List Value)}:Sl F w 5 kv css->css.length=ks.length->(∀i,i<ks.length->TmR F w (css.getD i []) (ks.getD i default))->
  TmR F w [nI o,nI a,nI b,.string s,kv] (.mk o a b s ks)
def TmsR (F:Nat->Prop) (w:World) (kv:Value) (ks:List Tm):Prop:= ∃css:List (List Value),Sl F w 5 kv css/\css.length=ks.length/\∀i,i<ks.length->TmR F w (css.getD i []) (ks.getD i default)
def TermR (F:Nat->Prop) (w:World) (v:Value) (t:Tm):Prop:= ∃kv,v= .agg ⟨[nI t.op,nI t.a,nI t.b,.string t.s,kv]⟩/\TmsR F w kv t.ks
def DclsR (F:Nat->Prop) (w:World) (v:Value) (ds:List Dcl):Prop:=Sl F w 2 v (ds.map λd=>[.string d.1,nI d.2])
section
variable {F F' S:Nat->Prop} {w w':World} {K:oK} {v:Value} {cs:List Value} {t:Tm} {ks:List Tm} {ds:List Dcl}
theorem TmR.same (h:TmR F w cs t) (hw:Same S w w') (hs:∀b,F b->b<w.heap.size->¬S b):TmR F w' cs t:=by
 induction h with
 |mk a c e d=>exact .mk (a.same hw hs) c d
theorem TmR.ext (h:TmR F w cs t) (hw:Ext w w'):TmR F w' cs t:=h.same hw λ_ _ _ h=>h
theorem TmR.weaken (h:TmR F w cs t) (d:∀b,F b->b<w.heap.size->F' b):TmR F' w cs t:=by
 induction h with
 |mk a c f e=>exact .mk (a.weaken d) c e
theorem TmR.inv (h:TmR F w cs t):∃kv,cs=[nI t.op,nI t.a,nI t.b,.string t.s,kv]/\TmsR F w kv t.ks:=by
 cases h with
 |mk c d e=>exact⟨_,rfl,_,c,d,e⟩
theorem TmR.of {kv:Value} (h:TmsR F w kv t.ks):TmR F w [nI t.op,nI t.a,nI t.b,.string t.s,kv] t:=by
 obtain⟨css,c,d,e⟩:=h;cases t with
 |mk o a b s ks=>exact .mk c d e
theorem TmR.term (h:TmR F w cs t):TermR F w (.agg ⟨cs⟩) t:=by
 obtain⟨kv,rfl,a⟩:=h.inv;exact⟨kv,rfl,a⟩
theorem TermR.cells (h:TermR F w v t):∃cs,v= .agg ⟨cs⟩/\TmR F w cs t:=by
 obtain⟨kv,rfl,a⟩:=h;exact⟨_,rfl,TmR.of a⟩
theorem TmsR.same (h:TmsR F w v ks) (hw:Same S w w') (hs:∀b,F b->b<w.heap.size->¬S b):TmsR F w' v ks:=by
 obtain⟨css,a,c,d⟩:=h;exact⟨css,a.same hw hs,c,λi hi=>(d i hi).same hw hs⟩
theorem TmsR.ext (h:TmsR F w v ks) (hw:Ext w w'):TmsR F w' v ks:=h.same hw λ_ _ _ h=>h
theorem TmsR.weaken (h:TmsR F w v ks) (a:∀b,F b->b<w.heap.size->F' b):TmsR F' w v ks:=by
 obtain⟨css,c,d,e⟩:=h;exact⟨css,c.weaken a,d,λi hi=>(e i hi).weaken a⟩
theorem TermR.same (h:TermR F w v t) (hw:Same S w w') (hs:∀b,F b->b<w.heap.size->¬S b):TermR F w' v t:=by
 obtain⟨kv,a,c⟩:=h;exact⟨kv,a,c.same hw hs⟩
theorem TermR.ext (h:TermR F w v t) (hw:Ext w w'):TermR F w' v t:=h.same hw λ_ _ _ h=>h
theorem TermR.weaken (h:TermR F w v t) (d:∀b,F b->b<w.heap.size->F' b):TermR F' w v t:=by
 obtain⟨kv,a,c⟩:=h;exact⟨kv,a,c.weaken d⟩
theorem TmsR.small (h:TmsR F w v ks):ks.length<=9223372036854775807:=by
 obtain⟨css,a,b,c⟩:=h;rw[<-b];exact a.small
theorem TmsR.len (h:TmsR F w v ks) {t:TypeId} (c:isSl t=true) (ty:TypeId):vbi .len [t] ty [v] w' K=K (nI ks.length) w':=by
 obtain⟨css,a,b,d⟩:=h;have:=Sl.len (K:=K) (w':=w') a c ty;rwa[b] at this
theorem TmsR.iaddr (h:TmsR F w v ks) {t:TypeId} (e:elB t 5=true) {kd:IntKind} {i:Int} (b:0<=i) (c:i<ks.length):
  y1 t v (.int kd i) w' K=K (.pointer (some (eaddr v 5 i.toNat))) w':=by
 obtain⟨css,a,d,f⟩:=h;exact Sl.iaddr a e b (by rw[d];exact c)
theorem TmsR.load (h:TmsR F w v ks) {t:TypeId} (d:aggB t 5=true) {i:Nat} (hi:i<ks.length) (c:∀x,TermR F w x (ks.getD i default)->K x w):zt t (.pointer (some (eaddr v 5 i))) w K:=by
 obtain⟨css,a,e,b⟩:=h;rw[a.ldAgg d oM];exact c _ (b i hi).term
theorem TmsR.nil:TmsR F w (.slice none 0 0) []:=⟨[],⟨⟨none,0,rfl,by simp,by simp,by simp⟩,by simp⟩,rfl,by simp⟩
theorem DclsR.same (h:DclsR F w v ds) (hw:Same S w w') (hs:∀b,F b->b<w.heap.size->¬S b):DclsR F w' v ds:=Sl.same h hw hs
theorem DclsR.ext (h:DclsR F w v ds) (hw:Ext w w'):DclsR F w' v ds:=Sl.ext h hw
theorem DclsR.weaken (h:DclsR F w v ds) (a:∀b,F b->b<w.heap.size->F' b):DclsR F' w v ds:=Sl.weaken h a
theorem DclsR.len (h:DclsR F w v ds) {t:TypeId} (a:isSl t=true) (ty:TypeId):vbi .len [t] ty [v] w' K=K (nI ds.length) w':=by
 have:=Sl.len (K:=K) (w':=w') h a ty;rwa[k6] at this
theorem DclsR.iaddr (h:DclsR F w v ds) {t:TypeId} (c:elB t 2=true) {kd:IntKind} {i:Int} (a:0<=i) (b:i<ds.length):
  y1 t v (.int kd i) w' K=K (.pointer (some (eaddr v 2 i.toNat))) w':=Sl.iaddr h c a (by rw[k6];exact b)
theorem Jr {i:Nat} (hi:i<ds.length):(ds.map λd=>[Value.string d.1,nI d.2]).getD i []=[.string (ds.getD i (nada,0)).1,nI (ds.getD i (nada,0)).2]:=M.getD_map _ hi _ _
theorem DclsR.load (h:DclsR F w v ds) {t:TypeId} (a:aggB t 2=true) {i:Nat} (hi:i<ds.length):zt t (.pointer (some (eaddr v 2 i))) w K=K (.agg ⟨[.string (ds.getD i (nada,0)).1,nI (ds.getD i (nada,0)).2]⟩) w:=by
 rw[Sl.ldAgg h a (by rw[k6];exact hi),Jr hi]
theorem DclsR.load0 (h:DclsR F w v ds) {t:TypeId} (a:oneB t=true) {i:Nat} (hi:i<ds.length):zt t (.pointer (some ((eaddr v 2 i).add 0))) w K=K (.string (ds.getD i (nada,0)).1) w:=
 Sl.ldField h a (by rw[k6];exact hi) (by rw[Jr hi];rfl)
theorem DclsR.load1 (h:DclsR F w v ds) {t:TypeId} (a:oneB t=true) {i:Nat} (hi:i<ds.length):zt t (.pointer (some ((eaddr v 2 i).add 1))) w K=K (nI (ds.getD i (nada,0)).2) w:=
 Sl.ldField h a (by rw[k6];exact hi) (by rw[Jr hi];rfl)
theorem DclsR.small (h:DclsR F w v ds):ds.length<=9223372036854775807:=by have:=Sl.small h;simpa using this
theorem Sl.base {k:Nat} {xs:List (List Value)} (h:Sl F w k v xs) (f:xs≠[]):∀a l c,v= .slice (some a) l c->∃b o,a=⟨b,o,none⟩:=by
 intro a l c e;obtain⟨i,c',rfl,_,_,g⟩:=h.shape;obtain⟨b,o,rfl,_⟩:=g f
 injection e with d j m
 injection d with d
 exact⟨b,o,d.symm⟩
theorem Sl.taken {k:Nat} {xs:List (List Value)} (h:Sl F w k v xs) {n:Nat} (t:n<=xs.length):Sl F w k (cutV v n) (xs.take n):=by
 obtain⟨a,c,rfl,s,m,q⟩:=h.shape;have l:(xs.take n).length=n:=by rw[V0];omega
 refine⟨⟨a,c,by rw[l];rfl,oM,m,λj=>?_⟩,λx r=>h.wide x (gL r)⟩;have f:xs≠[]:=λe=>j (by rw[e,List.take_nil]);obtain⟨b,o,e,p,g,d⟩:=q f;refine⟨b,o,e,p,g,λi hi=>?_⟩;rw[l] at hi;rw[M.take_getD hi];exact d i oM
theorem DclsR.cut (h:DclsR F w v ds) (a:ds≠[]) {t:TypeId} (c:elB t 2=true) {kd:IntKind} {n:Nat} (b:n<=ds.length):xk t v none (some (.int kd n)) none w' K=K (cutV v n) w':=
 Sl.cut h (Sl.base h (by simpa using a)) c (by rw[k6];exact b)
theorem DclsR.taken (h:DclsR F w v ds) {n:Nat} (a:n<=ds.length):DclsR F w (cutV v n) (ds.take n):=by
 unfold DclsR;rw[Gq];exact Sl.taken h (by rw[k6];exact a)
theorem Blk.sl1k {b k:Nat} {cs:List Value} {e:TypeId} (h:Blk w b cs e) (d:cs.length=k):Sl (· =b) w k (.slice (some ⟨b,0,none⟩) 1 1) [cs]:=by
 refine⟨⟨_,1,rfl,gn _,dC,λ_=>⟨b,0,rfl,rfl,h.lt,λi hi j v c=>?_⟩⟩,by simp[d]⟩;have a:i=0:=by simpa using hi
 subst a;rw[ym];simp only[PX,gQ,GP];exact h.cell c
theorem Own.app1k {bs ty b k:Nat} {t e:TypeId} {xs:List (List Value)} {y:List Value} (h:Own 0 k t w v xs) (g:elZ t k bs=true) (j:0<k) (i:Blk w b y e) (l:y.length=k) (a:∀c,c∈y->c.oneCell'=true)
  (d:xs.length<9223372036854775807) (hlen:(xs.length+1)*bs<=140737488355328)
  (f:∀v' w',Own 0 k t w' v' (xs++[y])->Same (λb=>v.ownBlock=some b) w w'->(∀b,v'.ownBlock=some b->v.ownBlock=some b\/w.heap.size<=b)->K v' w'):vbi .append [t,t] ty [v,.slice (some ⟨b,0,none⟩) 1 1] w K:=
 vappend (F:=(· =b)) g j h (i.sl1k l) (by simpa using a) oM (by rw[gM];omega) (by simpa using hlen) f
theorem qx {t e k:Nat} {z x:Value} {y:List Value} (hu:P.underlying t=some (.slice e)) (l:xV e k=true) (hzero:yi e z) (i:x.cells=⟨y⟩) (j:y.length=k) (h:k<=16777216)
  (g:∀b w',b=w.heap.size->Ext w w'->w'.heap.size=w.heap.size+1->Blk w' b y e->K (.slice (some ⟨b,0,none⟩) 1 1) w'):vbuildS t 1 [(0,x)] w K:=by
 refine vbuildS_row (xs:=[x]) (us:=[y]) hu l hzero (by simp[i]) (by simp[j]) (by simpa using h) λb w' a c d f=>g b w' a c d (by simpa using f)
theorem Blk.ownk {b k n:Nat} {t:TypeId} {css:List (List Value)} (h:Blk w b css.flatten (YF t)) (hw:∀x,x∈css->x.length=k) (c:n=css.length) (hm:n<=9223372036854775807):Own 0 k t w (.slice (some ⟨b,0,none⟩) n n) css:=by
 subst c;have a:=flatten_len hw;refine⟨⟨by rw[a],.inr ⟨b,css.length,⟨css.flatten⟩,by simp,gI _,h,gn _,by simpa[maxLen] using hm,by simpa using a,?_⟩⟩,hw⟩;show List.take (css.length*k) css.flatten=css.flatten;rw[<-a,gy]
theorem flatten_set {k:Nat}:∀{xs:List (List Value)} (_:∀x,x∈xs->x.length=k) {i j:Nat} (u:Value),i<xs.length->j<k->xs.flatten.set (i*k+j) u=(xs.set i ((xs.getD i []).set j u)).flatten
 |[],_,i,j,u,hi,_=>by simp at hi
 |x::r,h,i,j,u,hi,a=>by
  have c:=h x gh;cases i with
  |zero=>
   rw[PX,gQ];simp only[GJ,pf,G8];rw[List.set_append_left _ _ oM]
  |succ i=>
   simp only[GJ,PB,G9];rw[pI _ _ (by rw[G1];omega)];congr 1;have e:(i+1)*k+j-x.length=i*k+j:=by rw[G1];omega
   rw[e,flatten_set (λy b=>h y (gk _ b)) u (by simpa using hi) a]
theorem Own.stCell {k:Nat} {t e:TypeId} {xs:List (List Value)} {x:Value} (h:Own 0 k t w v xs) (E:x.cells= #[x]) (o:x.oneCell'=true) (G:xV e 1=true) {i j:Nat} (hi:i<xs.length) (C:j<k)
  (p:∀w',Own 0 k t w' v (xs.set i ((xs.getD i []).set j x))->Same (λb=>v.ownBlock=some b) w w'->w'.heap.size=w.heap.size->K undef w'):zT e (.pointer (some ((eaddr v k i).add j))) x w K:=by
 rcases h.row.2 with⟨rfl,I⟩|⟨g,cap,cur,rfl,s,H,D,z,A,n⟩
 ·omega
 ·have a:=h.row;have d:i*k+j<xs.length*k:=by
   have:i*k+k<=xs.length*k:=by rw[<-Nat.succ_mul];exact pO _ hi
   omega
  have u:=World.ownsRow.cellAt a (i*k+j) d;have B:=World.ownsRow.frozenAt a (i*k+j);obtain⟨l,m⟩:=World.ownsRow.stored a (i*k+j) x;have f:(xs.getD i []).length=k:=h.wide _ (M.getD_mem hi _);have c:w.cell? ⟨g,i*k+j,none⟩=some (xs.flatten.getD (i*k+j) undef):=by
   rw[u];have:i*k+j<xs.flatten.length:=by rw[flatten_len h.wide];exact d
   rw[q0,gd this];rfl
  have r:(⟨g,i*k+j,none⟩:Addr).add 0=⟨g,i*k+j,none⟩:=rfl;have he:(eaddr (.slice (some ⟨g,0,none⟩) xs.length cap) k i).add j=⟨g,i*k+j,none⟩:=by
   simp only[eaddr];rw[ym];simp
  rw[he];refine⟨(),w.setCell ⟨g,i*k+j,none⟩ x,?_,p _ ?_ (Same.of_grown m) (by simp)⟩
  ·simp only[Instr.storeAt,Instr.sureAddr,Sem.run_bind,Sem.run_pure,Result.andThen_ok,storeVar,run_sizeOf G,E];cases x<;>first|(cases o;done)|simp[storeCells,store,Sem.run,r,c,B]
  ·refine⟨?_,λy F=>?_⟩
   ·rw[<-flatten_set h.wide x hi C];simpa using l
   ·obtain⟨q,J,rfl⟩:=gl F;rw[pc];split
    ·rw[G7];exact f
    ·exact h.wide _ (GG _)
def PairsR (F:Nat->Prop) (w:World) (v:Value) (xs:List (Int×Int)):Prop:=Sl F w 2 v (xs.map λx=>[nI x.1,nI x.2])
def OwnP (t:TypeId) (w:World) (v:Value) (xs:List (Int×Int)):Prop:=Own 0 2 t w v (xs.map λx=>[nI x.1,nI x.2])
variable {xs:List (Int×Int)}
theorem PairsR.ext (h:PairsR F w v xs) (hw:Ext w w'):PairsR F w' v xs:=Sl.ext h hw
theorem PairsR.iaddr (h:PairsR F w v xs) {t:TypeId} (c:elB t 2=true) {kd:IntKind} {i:Int} (a:0<=i) (b:i<xs.length):
  y1 t v (.int kd i) w' K=K (.pointer (some (eaddr v 2 i.toNat))) w':=Sl.iaddr h c a (by rw[k6];exact b)
theorem PairsR.load (h:PairsR F w v xs) {t:TypeId} (a:aggB t 2=true) {i:Nat} (hi:i<xs.length):zt t (.pointer (some (eaddr v 2 i))) w K=K (.agg ⟨[nI (xs.getD i (0,0)).1,nI (xs.getD i (0,0)).2]⟩) w:=by
 rw[Sl.ldAgg h a (by rw[k6];exact hi),M.getD_map _ hi _ (0,0)]
theorem PairsR.load1 (h:PairsR F w v xs) {t:TypeId} (a:oneB t=true) {i:Nat} (hi:i<xs.length):zt t (.pointer (some ((eaddr v 2 i).add 1))) w K=K (nI (xs.getD i (0,0)).2) w:=
 Sl.ldField h a (by rw[k6];exact hi) (by rw[M.getD_map _ hi _ (0,0)];rfl)
theorem OwnP.pairs {t:TypeId} (h:OwnP t w v xs):PairsR (λb=>v.ownBlock=some b) w v xs:=Own.sl h
theorem OwnP.ext {t:TypeId} (h:OwnP t w v xs) (hw:Ext w w'):OwnP t w' v xs:=Own.ext h hw
theorem OwnP.nil (t:TypeId):OwnP t w (.slice none 0 0) []:=Own.nil 0 2 t w
end
end
end Go.Vc
namespace Go.Proofs.YtiglcianecnchaaGreatDoor
open Go Go.Vc Go.Proofs
theorem mixed:P.follows .mixedOrders=true:=rK
abbrev Xw:Nat:=4
abbrev J0:Nat:=7
abbrev zz0:Nat:=8
abbrev zt0:Nat:=9
abbrev WK:Nat:=10
abbrev Wc:Nat:=14
abbrev KY:Nat:=15
abbrev WN:Nat:=16
abbrev UW:Nat:=17
abbrev KH:Nat:=18
abbrev WI:Nat:=19
abbrev Wa:Nat:=20
abbrev qU:Nat:=21
abbrev WC:Nat:=22
abbrev KW:Nat:=26
abbrev xI:Nat:=27
abbrev Ww:Nat:=28
abbrev YI:Nat:=29
abbrev WM:Nat:=30
abbrev qa:Nat:=31
abbrev JP:Nat:=32
abbrev UV:Nat:=33
abbrev KI:Nat:=34
abbrev JM:Nat:=35
abbrev Wx:Nat:=36
abbrev Wy:Nat:=37
abbrev Z5:Nat:=38
abbrev JR:Nat:=39
abbrev YJ:Nat:=40
abbrev WU:Nat:=41
abbrev zn0:Nat:=45
abbrev jM:Nat:=46
abbrev jQ:Nat:=47
abbrev ji:Nat:=48
abbrev qy:Nat:=49
abbrev qV:Nat:=50
abbrev Wv:Nat:=53
abbrev We:Nat:=54
abbrev yh0:Nat:=55
abbrev zb0:Nat:=56
abbrev Wt:Nat:=57
abbrev ze0:Nat:=58
abbrev Wl:Nat:=59
abbrev JS:Nat:=60
abbrev WD:Nat:=61
abbrev zo0:Nat:=62
abbrev Zz:Nat:=63
abbrev KG:Nat:=64
abbrev xK:Nat:=65
abbrev qw0:Nat:=66
abbrev K4:Nat:=68
abbrev kI:Nat:=70
abbrev QT:Nat:=71
abbrev K7:Nat:=73
abbrev JY:Nat:=74
abbrev qx0:Nat:=75
abbrev xn0:Nat:=76
abbrev K8:Nat:=77
abbrev XA:Nat:=78
abbrev WQ:Nat:=79
abbrev KU:Nat:=80
abbrev zs0:Nat:=81
abbrev zl0:Nat:=82
abbrev WA:Nat:=83
abbrev Wd:Nat:=84
abbrev KJ:Nat:=85
abbrev yi0:Nat:=86
abbrev z40:Nat:=87
abbrev z60:Nat:=88
abbrev Wk:Nat:=89
abbrev zi0:Nat:=90
abbrev yk0:Nat:=91
abbrev WB:Nat:=92
abbrev xY:Nat:=100
abbrev K6:Nat:=101
abbrev jC:Nat:=102
abbrev zy0:Nat:=103
abbrev V9:Nat:=104
abbrev V8:Nat:=105
abbrev V7:Nat:=106
abbrev V6:Nat:=107
abbrev JW:Nat:=108
abbrev XD:Nat:=109
abbrev xJ:Nat:=110
abbrev xo0:Nat:=111
abbrev Ql:Nat:=112
abbrev X6:Nat:=113
abbrev ko:Nat:=114
abbrev V4:Nat:=115
abbrev JV:Nat:=116
abbrev XB:Nat:=117
abbrev WO:Nat:=118
abbrev Z9:Nat:=119
abbrev KX:Nat:=120
abbrev UU:Nat:=121
abbrev Wb:Nat:=122
abbrev Wf:Nat:=123
abbrev z80:Nat:=124
abbrev yj0:Nat:=125
abbrev z00:Nat:=126
abbrev z90:Nat:=127
abbrev Wj:Nat:=128
abbrev Wg:Nat:=129
abbrev Wh:Nat:=130
abbrev UZ:Nat:=131
abbrev z30:Nat:=132
abbrev KK:Nat:=133
abbrev KL:Nat:=134
abbrev zj0:Nat:=135
abbrev Wz:Nat:=136
abbrev Wu:Nat:=137
abbrev KQ:Nat:=138
abbrev zh0:Nat:=139
abbrev Wq:Nat:=140
abbrev KN:Nat:=141
abbrev yl0:Nat:=142
abbrev zv0:Nat:=147
abbrev QS:Nat:=148
abbrev Qm:Nat:=149
abbrev ZA:Nat:=150
abbrev KZ:Nat:=151
abbrev Z6:Nat:=152
abbrev X7:Nat:=153
abbrev jj:Nat:=154
abbrev jZ:Nat:=155
abbrev Qj:Nat:=156
abbrev ZD:Nat:=157
abbrev Yi:Nat:=158
abbrev Yj:Nat:=159
abbrev ZC:Nat:=160
abbrev zp0:Nat:=161
abbrev zc0:Nat:=162
abbrev UY:Nat:=163
abbrev UX:Nat:=164
abbrev Wi:Nat:=165
abbrev QZ:Nat:=166
abbrev yn0:Nat:=167
abbrev KR:Nat:=168
abbrev ym0:Nat:=169
abbrev JQ:Nat:=170
abbrev KT:Nat:=171
abbrev KP:Nat:=172
abbrev Wn:Nat:=173
abbrev JN:Nat:=174
abbrev zd0:Nat:=175
abbrev KM:Nat:=176
abbrev Wr:Nat:=177
abbrev KO:Nat:=178
abbrev YZ:Nat:=182
abbrev qo:Nat:=183
abbrev J4:Nat:=184
abbrev Xz:Nat:=185
abbrev YL:Nat:=186
abbrev j0:Nat:=187
abbrev YH:Nat:=188
abbrev JU:Nat:=189
abbrev ZH:Nat:=190
abbrev xZ:Nat:=191
abbrev ZG:Nat:=192
abbrev Qn:Nat:=193
abbrev ku:Nat:=194
abbrev Zn:Nat:=195
abbrev zZ0:Nat:=196
abbrev Qk:Nat:=197
abbrev j9:Nat:=198
abbrev Z8:Nat:=199
abbrev Xy:Nat:=200
abbrev YY:Nat:=201
abbrev Yh:Nat:=202
abbrev Qi:Nat:=203
abbrev QR:Nat:=204
abbrev QQ:Nat:=205
abbrev za0:Nat:=206
abbrev zk0:Nat:=207
abbrev WF:Nat:=208
abbrev zr0:Nat:=209
abbrev WG:Nat:=210
abbrev WH:Nat:=211
abbrev Ws:Nat:=212
abbrev Wm:Nat:=213
abbrev Wo:Nat:=214
abbrev Wp:Nat:=215
abbrev zg0:Nat:=216
abbrev jT:Nat:=221
abbrev qN:Nat:=222
abbrev jp:Nat:=223
abbrev jq:Nat:=224
abbrev jS:Nat:=225
abbrev jc:Nat:=226
abbrev jr:Nat:=227
abbrev kJ:Nat:=228
abbrev WL:Nat:=229
abbrev xQ:Nat:=233
abbrev jX:Nat:=234
abbrev yo0:Nat:=235
abbrev Za:Nat:=236
abbrev qz:Nat:=237
abbrev V5:Nat:=238
abbrev kp:Nat:=239
abbrev xR:Nat:=240
abbrev XH:Nat:=241
abbrev Qo:Nat:=242
abbrev XG:Nat:=243
abbrev kq:Nat:=244
abbrev ZF:Nat:=245
abbrev Yl:Nat:=246
abbrev X2:Nat:=247
abbrev X5:Nat:=248
abbrev Yk:Nat:=249
abbrev YX:Nat:=250
abbrev jN:Nat:=251
abbrev Xx:Nat:=252
abbrev ZB:Nat:=253
abbrev kH:Nat:=254
abbrev ZE:Nat:=255
abbrev Qp:Nat:=256
abbrev kf:Nat:=257
abbrev yB:Nat:=258
abbrev zm0:Nat:=259
abbrev JO:Nat:=260
abbrev zq0:Nat:=261
abbrev zf0:Nat:=262
abbrev zu0:Nat:=264
abbrev J8:Nat:=265
abbrev JX:Nat:=266
abbrev XC:Nat:=267
abbrev qv0:Nat:=268
abbrev WP:Nat:=269
abbrev K5:Nat:=270
abbrev zw0:Nat:=271
abbrev Jm:Nat:=272
abbrev JT:Nat:=275
abbrev J5:Nat:=276
abbrev qh:Nat:=277
abbrev X4:Nat:=278
abbrev XF:Nat:=279
abbrev XE:Nat:=280
abbrev X3:Nat:=281
abbrev K9:Nat:=282
abbrev WE:Nat:=285
abbrev YK:Nat:=286
abbrev J6:Nat:=288
abbrev qM:Nat:=289
abbrev KE:Nat:=290
abbrev VL:Nat:=291
abbrev Jl:Nat:=292
abbrev Qh:Nat:=293
abbrev J3:Nat:=294
abbrev xm0:Nat:=298
abbrev X1:Nat:=299
abbrev Yg:Nat:=300
abbrev jd:Nat:=301
abbrev WJ:Nat:=312
abbrev K2:Nat:=341
abbrev yf:Nat:=354
abbrev yp:Nat:=355
abbrev kk:Nat:=356
abbrev jP:Nat:=357
abbrev Z7:Nat:=358
abbrev zx0:Nat:=359
abbrev Va:Nat:=360
abbrev V3:Nat:=361
abbrev jW:Nat:=362
abbrev jv:Nat:=363
abbrev WT:Nat:=364
abbrev JZ:Nat:=365
abbrev xh:Nat:=366
abbrev xg:Nat:=367
abbrev xf:Nat:=368
abbrev xe:Nat:=369
abbrev xd:Nat:=370
abbrev xc:Nat:=371
abbrev xb:Nat:=372
abbrev xa:Nat:=373
abbrev x8:Nat:=374
abbrev yX:Nat:=375
abbrev yW:Nat:=376
abbrev Ym:Nat:=377
abbrev jV:Nat:=378
abbrev ju:Nat:=379
abbrev WS:Nat:=380
abbrev J7:Nat:=381
abbrev jO:Nat:=382
abbrev jn:Nat:=383
abbrev jo:Nat:=384
abbrev ja:Nat:=385
abbrev UF:Nat:=386
abbrev jU:Nat:=387
abbrev jt:Nat:=388
abbrev WR:Nat:=389
abbrev km:Nat:=390
abbrev jR:Nat:=391
abbrev jw:Nat:=392
abbrev je:Nat:=393
abbrev UG:Nat:=394
abbrev jY:Nat:=395
abbrev jx:Nat:=396
abbrev yG:Nat:=0
abbrev jf:Nat:=1
abbrev qm:Nat:=2
abbrev xM:Nat:=3
abbrev j4:Nat:=6
abbrev T_T_:Nat:=0
abbrev T_int64:Nat:=2
abbrev y0:Nat:=3
abbrev Y3:Nat:=4
abbrev Y2:Nat:=5
abbrev x6:Nat:=9
abbrev x7:Nat:=22
abbrev xw:Nat:=23
abbrev zk:Nat:=24
abbrev zh:Nat:=27
abbrev za:Nat:=32
abbrev yN:Nat:=53
abbrev yV:Nat:=56
abbrev zI:Nat:=57
abbrev zq:Nat:=60
abbrev y2:Nat:=62
abbrev xA:Nat:=63
abbrev yR:Nat:=65
abbrev xm:Nat:=67
abbrev yC:Nat:=85
abbrev zz:Nat:=94
abbrev zw:Nat:=96
abbrev zA:Nat:=98
abbrev zu:Nat:=104
abbrev qp:Nat:=107
abbrev zg:Nat:=115
abbrev zR:Nat:=117
abbrev kB:Nat:=119
abbrev yI:Nat:=124
abbrev VB:Nat:=126
abbrev yr:Nat:=128
abbrev zm:Nat:=152
abbrev xH:Nat:=164
abbrev yw0:Nat:=166
abbrev qs:Nat:=169
abbrev zO:Nat:=171
abbrev zK:Nat:=172
abbrev zF:Nat:=173
abbrev zM:Nat:=174
abbrev zE:Nat:=175
abbrev zJ:Nat:=176
abbrev zS:Nat:=177
abbrev Zh:Nat:=178
abbrev zx:Nat:=180
abbrev zG:Nat:=181
abbrev y9:Nat:=184
abbrev ze:Nat:=188
abbrev yA:Nat:=190
abbrev yJ:Nat:=191
abbrev yg:Nat:=193
abbrev Jj:Nat:=194
abbrev yE:Nat:=196
abbrev yq:Nat:=197
abbrev Jt:Nat:=199
abbrev QH:Nat:=200
abbrev yu:Nat:=204
abbrev jG0:Nat:=205
abbrev zH:Nat:=234
abbrev y4:Nat:=236
abbrev y7:Nat:=238
abbrev zV:Nat:=258
abbrev ya:Nat:=260
abbrev UC:Nat:=275
abbrev zX0:Nat:=295
abbrev QI:Nat:=322
abbrev kZ0:Nat:=346
abbrev yM:Nat:=381
abbrev yY:Nat:=406
theorem xo:yi y0 (nI 0):=by unfold yi;kernel_rfl
@[push_cast] theorem W8:oneB y0=true:=rK
@[push_cast] theorem yS:xV y0 1=true:=rK
theorem VO:xP0 y0 .i64:=by unfold xP0;kernel_rfl
theorem yK0:(P.underlying y0).isSome=true:=rK
theorem xX0:yi Y3 (.bool false):=by unfold yi;kernel_rfl
@[push_cast] theorem Y10:oneB Y3=true:=rK
@[push_cast] theorem xY0:xV Y3 1=true:=rK
@[push_cast] theorem o_uint8:oneB Y2=true:=rK
theorem kg0:xP0 Y2 .u8:=by unfold xP0;kernel_rfl
theorem yJ0:(P.underlying Y2).isSome=true:=rK
theorem kL:yi x6 (.string ⟨#[]⟩):=by unfold yi;kernel_rfl
@[push_cast] theorem k40:oneB x6=true:=rK
@[push_cast] theorem VW:xV x6 1=true:=rK
theorem kR:P.underlying x6=some .string:=rK
@[push_cast] theorem o_Luint8:oneB x7=true:=rK
@[push_cast] theorem kd0:elZ x7 1 1=true:=rK
theorem Xp:P.underlying x7=some (.slice Y2):=rK
theorem j30:YF x7=Y2:=rK
@[push_cast] theorem s_Luint8:isSl x7=true:=rK
@[push_cast] theorem kC0:elB x7 1=true:=rK
@[push_cast] theorem kT0:oneB xw=true:=rK
@[push_cast] theorem ZS:elZ xw 2 24=true:=rK
theorem j8:P.underlying xw=some (.slice yN):=rK
theorem XT:YF xw=yN:=rK
@[push_cast] theorem kQ0:isSl xw=true:=rK
@[push_cast] theorem ZZ:elB xw 2=true:=rK
@[push_cast] theorem UT:oneB zk=true:=rK
@[push_cast] theorem xU:xV zk 1=true:=rK
@[push_cast] theorem qb:elZ zk 5 64=true:=rK
theorem xq:P.underlying zk=some (.slice za):=rK
theorem qG:YF zk=za:=rK
@[push_cast] theorem QN:isSl zk=true:=rK
@[push_cast] theorem kY0:elB zk 5=true:=rK
theorem VV:yi zh (.slice none 0 0):=by unfold yi;kernel_rfl
@[push_cast] theorem Y20:oneB zh=true:=rK
@[push_cast] theorem j6:xV zh 1=true:=rK
@[push_cast] theorem xy:elZ zh 1 8=true:=rK
theorem yZ:P.underlying zh=some (.slice y0):=rK
theorem qF:YF zh=y0:=rK
@[push_cast] theorem Y00:isSl zh=true:=rK
@[push_cast] theorem XV:elB zh 1=true:=rK
theorem zp:yi za (.agg #[(nI 0),(nI 0),(nI 0),(.string ⟨#[]⟩),(.slice none 0 0)]):=by unfold yi;kernel_rfl
theorem qf:strF za=some ([(0,1),(1,1),(2,1),(3,1),(4,1)],[(nI 0),(nI 0),(nI 0),(.string ⟨#[]⟩),(.slice none 0 0)]):=rK
@[push_cast] theorem zc:aggB za 5=true:=rK
@[push_cast] theorem xC:xV za 5=true:=rK
theorem xp:yi yN (.agg #[(.string ⟨#[]⟩),(nI 0)]):=by unfold yi;kernel_rfl
theorem yv0:strF yN=some ([(0,1),(1,1)],[(.string ⟨#[]⟩),(nI 0)]):=rK
@[push_cast] theorem Zo0:aggB yN 2=true:=rK
@[push_cast] theorem jI:xV yN 2=true:=rK
theorem zU0:strF yV=some ([(0,1),(1,1)],[(.slice none 0 0),(nI 0)]):=rK
theorem jH0:yi zI (.slice none 0 0):=by unfold yi;kernel_rfl
@[push_cast] theorem o_LLint:oneB zI=true:=rK
@[push_cast] theorem Q8:xV zI 1=true:=rK
@[push_cast] theorem ZT:elZ zI 1 24=true:=rK
theorem Qa:P.underlying zI=some (.slice zh):=rK
theorem Ut:YF zI=zh:=rK
@[push_cast] theorem Zd0:isSl zI=true:=rK
@[push_cast] theorem Zs0:elB zI 1=true:=rK
theorem xj:yi zq (.agg #[(nI 0),(.slice none 0 0)]):=by unfold yi;kernel_rfl
theorem QF:strF zq=some ([(0,1),(1,1)],[(nI 0),(.slice none 0 0)]):=rK
@[push_cast] theorem zD:aggB zq 2=true:=rK
theorem xH0:strF y2=some ([(0,1),(1,1),(2,1),(3,2),(5,1)],[(.slice none 0 0),(.slice none 0 0),(.slice none 0 0),(nI 0),(.slice none 0 0),(.slice none 0 0)]):=rK
theorem kN:P.underlying xA=some (.slice yR):=rK
@[push_cast] theorem VH:isSl xA=true:=rK
@[push_cast] theorem kW:elB xA 1=true:=rK
theorem ke:yi yR .nilFunc:=by unfold yi;kernel_rfl
@[push_cast] theorem kG:oneB yR=true:=rK
@[push_cast] theorem kD:xV yR 1=true:=rK
@[push_cast] theorem xl:oneB xm=true:=rK
@[push_cast] theorem Z10:xV xm 1=true:=rK
@[push_cast] theorem zC0:elZ yC 1 16=true:=rK
theorem kM:P.underlying yC=some (.slice x6):=rK
theorem xB0:YF yC=x6:=rK
@[push_cast] theorem ZZ0:isSl yC=true:=rK
@[push_cast] theorem kS0:oneB zz=true:=rK
@[push_cast] theorem QK:xV zz 1=true:=rK
@[push_cast] theorem qr:elZ zz 3 24=true:=rK
theorem j7:P.underlying zz=some (.slice zm):=rK
theorem XS:YF zz=zm:=rK
@[push_cast] theorem xW:isSl zz=true:=rK
@[push_cast] theorem ZY:elB zz 3=true:=rK
theorem qQ:yi zw (.agg #[(nI 0),(.slice none 0 0)]):=by unfold yi;kernel_rfl
theorem QE:strF zw=some ([(0,1),(1,1)],[(nI 0),(.slice none 0 0)]):=rK
@[push_cast] theorem zX:aggB zw 2=true:=rK
theorem xn:yi zA (.agg #[(nI 0),(.slice none 0 0),(.bool false)]):=by unfold yi;kernel_rfl
theorem yu0:strF zA=some ([(0,2),(2,1)],[(nI 0),(.slice none 0 0),(.bool false)]):=rK
@[push_cast] theorem qW:aggB zA 3=true:=rK
theorem qP:yi zu (.agg #[(.slice none 0 0),(.slice none 0 0),(.slice none 0 0),(nI 0)]):=by unfold yi;kernel_rfl
theorem xI0:strF zu=some ([(0,1),(1,1),(2,1),(3,1)],[(.slice none 0 0),(.slice none 0 0),(.slice none 0 0),(nI 0)]):=rK
@[push_cast] theorem zP:aggB zu 4=true:=rK
@[push_cast] theorem qJ0:elZ qp 1 1=true:=rK
theorem qf0:P.underlying qp=some (.slice Y3):=rK
theorem Us:YF qp=Y3:=rK
@[push_cast] theorem s_Lbool:isSl qp=true:=rK
@[push_cast] theorem ys0:elB qp 1=true:=rK
theorem zW:yi zg (.agg #[(nI 0),(nI 0)]):=by unfold yi;kernel_rfl
theorem QD:strF zg=some ([(0,1),(1,1)],[(nI 0),(nI 0)]):=rK
@[push_cast] theorem zr:aggB zg 2=true:=rK
@[push_cast] theorem x60:xV zg 2=true:=rK
@[push_cast] theorem UR:oneB zR=true:=rK
theorem Zc:P.underlying zR=some (.map 3 166):=rK
theorem YD:P.underlying kB=some (.map 9 3):=rK
@[push_cast] theorem qr0:oneB yI=true:=rK
@[push_cast] theorem jr0:oneB VB=true:=rK
theorem Uz:strF yr=some ([(0,2),(2,1),(3,1),(4,1),(5,1)],[(nI 0),(.slice none 0 0),(.pointer none),(.slice none 0 0),(.slice none 0 0),(nI 0)]):=rK
theorem kg:yi zm (.agg #[(.bool false),(nI 0),(nI 0)]):=by unfold yi;kernel_rfl
theorem Zg:strF zm=some ([(0,1),(1,1),(2,1)],[(.bool false),(nI 0),(nI 0)]):=rK
@[push_cast] theorem xF:aggB zm 3=true:=rK
@[push_cast] theorem YO:xV zm 3=true:=rK
@[push_cast] theorem yp0:elZ xH 2 16=true:=rK
theorem y40:P.underlying xH=some (.slice zg):=rK
@[push_cast] theorem Zr0:elB xH 2=true:=rK
theorem zW0:strF qs=some ([(0,1),(1,1)],[(.string ⟨#[]⟩),(nI 0)]):=rK
theorem qj:yi zO (.agg #[(.string ⟨#[]⟩),(nI 0)]):=by unfold yi;kernel_rfl
theorem Uy:strF zO=some ([(0,2)],[(.string ⟨#[]⟩),(nI 0)]):=rK
@[push_cast] theorem U3:aggB zO 2=true:=rK
theorem jG:yi zK (.agg #[(.string ⟨#[]⟩),(nI 0)]):=by unfold yi;kernel_rfl
theorem Vx:strF zK=some ([(0,2)],[(.string ⟨#[]⟩),(nI 0)]):=rK
theorem Zr:yi zF (.agg #[(.string ⟨#[]⟩),(nI 0)]):=by unfold yi;kernel_rfl
theorem Vv:strF zF=some ([(0,2)],[(.string ⟨#[]⟩),(nI 0)]):=rK
@[push_cast] theorem Vf:aggB zF 2=true:=rK
theorem yF:yi zM (.agg #[(.string ⟨#[]⟩),(nI 0)]):=by unfold yi;kernel_rfl
theorem Vt:strF zM=some ([(0,2)],[(.string ⟨#[]⟩),(nI 0)]):=rK
@[push_cast] theorem Vd:aggB zM 2=true:=rK
theorem yK:yi zE (.agg #[(.string ⟨#[]⟩),(nI 0)]):=by unfold yi;kernel_rfl
theorem Kz:strF zE=some ([(0,2)],[(.string ⟨#[]⟩),(nI 0)]):=rK
@[push_cast] theorem Ki:aggB zE 2=true:=rK
theorem xi:yi zJ (.agg #[(.string ⟨#[]⟩),(nI 0)]):=by unfold yi;kernel_rfl
theorem Vu:strF zJ=some ([(0,2)],[(.string ⟨#[]⟩),(nI 0)]):=rK
@[push_cast] theorem Ve:aggB zJ 2=true:=rK
theorem xL:yi zS (.agg #[(.string ⟨#[]⟩),(nI 0)]):=by unfold yi;kernel_rfl
theorem UA:strF zS=some ([(0,2)],[(.string ⟨#[]⟩),(nI 0)]):=rK
@[push_cast] theorem U4:aggB zS 2=true:=rK
@[push_cast] theorem W9:oneB Zh=true:=rK
theorem QX:yi zx (.agg #[(.string ⟨#[]⟩),(nI 0),.nilFunc]):=by unfold yi;kernel_rfl
theorem KA:strF zx=some ([(0,2),(2,1)],[(.string ⟨#[]⟩),(nI 0),.nilFunc]):=rK
@[push_cast] theorem ZV:aggB zx 3=true:=rK
theorem jH:yi zG (.agg #[(.string ⟨#[]⟩),(nI 0)]):=by unfold yi;kernel_rfl
theorem VA:strF zG=some ([(0,2)],[(.string ⟨#[]⟩),(nI 0)]):=rK
theorem UB:strF y9=some ([(0,1),(1,1)],[(.slice none 0 0),(.map none)]):=rK
@[push_cast] theorem xE:aggB y9 2=true:=rK
theorem qt:yi ze (.slice none 0 0):=by unfold yi;kernel_rfl
@[push_cast] theorem KF:oneB ze=true:=rK
@[push_cast] theorem qX:xV ze 1=true:=rK
@[push_cast] theorem yx:elZ ze 1 8=true:=rK
theorem yw:P.underlying ze=some (.slice yq):=rK
theorem yH:YF ze=yq:=rK
@[push_cast] theorem yO:isSl ze=true:=rK
@[push_cast] theorem yD:elB ze 1=true:=rK
@[push_cast] theorem xM0:oneB yA=true:=rK
@[push_cast] theorem JI:oneB yJ=true:=rK
theorem jk:P.underlying yJ=some (.map 9 188):=rK
theorem Vz:strF yg=some ([(0,1),(1,1),(2,1),(3,1)],[(.pointer none),(.slice none 0 0),(.map none),(.map none)]):=rK
@[push_cast] theorem xL0:oneB Jj=true:=rK
theorem Vy:strF yE=some ([(0,1),(1,1)],[(.pointer none),.nilIface]):=rK
theorem yc:yi yq (nI 0):=by unfold yi;kernel_rfl
@[push_cast] theorem k50:oneB yq=true:=rK
@[push_cast] theorem y3:xV yq 1=true:=rK
theorem yq0:xP0 QH .u64:=by unfold xP0;kernel_rfl
theorem JB:(P.underlying QH).isSome=true:=rK
theorem zV0:strF yu=some ([(0,1),(1,1),(2,1)],[(.slice none 0 0),(.slice none 0 0),(.slice none 0 0)]):=rK
@[push_cast] theorem Kd:elZ zH 1 24=true:=rK
theorem Zx:P.underlying zH=some (.slice ze):=rK
@[push_cast] theorem qo0:isSl zH=true:=rK
@[push_cast] theorem Kv:elB zH 1=true:=rK
@[push_cast] theorem US:oneB y4=true:=rK
theorem qB:P.underlying y4=some (.map 152 3):=rK
theorem Vw:strF y7=some ([(0,2),(2,1)],[(nI 0),(.slice none 0 0),(.map none)]):=rK
theorem qL:P.underlying zV=some (.slice ya):=rK
theorem qH:YF zV=ya:=rK
@[push_cast] theorem Q6:isSl zV=true:=rK
@[push_cast] theorem Q7:elB zV 1=true:=rK
@[push_cast] theorem Yf:oneB ya=true:=rK
@[push_cast] theorem Ye:xV ya 1=true:=rK
theorem jS0:P.underlying UC=some (.slice zI):=rK
@[push_cast] theorem s_LLLint:isSl UC=true:=rK
@[push_cast] theorem e_LLLint:elB UC 1=true:=rK
theorem qR0:xP0 zX0 .u64:=by unfold xP0;kernel_rfl
theorem Za0:(P.underlying zX0).isSome=true:=rK
@[push_cast] theorem xu:imapB QI=true:=rK
theorem Vm:fieldB za 0 0=true:=rK
@[push_cast] theorem jA0 {w:World} {K:oK} (a:Addr):zB za (.pointer (some a)) 0 w K=K (.pointer (some (a.add 0))) w:=zy Vm a
theorem Vl:fieldB za 1 1=true:=rK
@[push_cast] theorem jz0 {w:World} {K:oK} (a:Addr):zB za (.pointer (some a)) 1 w K=K (.pointer (some (a.add 1))) w:=zy Vl a
theorem Vk:fieldB za 2 2=true:=rK
@[push_cast] theorem jy0 {w:World} {K:oK} (a:Addr):zB za (.pointer (some a)) 2 w K=K (.pointer (some (a.add 2))) w:=zy Vk a
theorem Vj:fieldB za 3 3=true:=rK
@[push_cast] theorem jx0 {w:World} {K:oK} (a:Addr):zB za (.pointer (some a)) 3 w K=K (.pointer (some (a.add 3))) w:=zy Vj a
theorem Vi:fieldB za 4 4=true:=rK
@[push_cast] theorem jw0 {w:World} {K:oK} (a:Addr):zB za (.pointer (some a)) 4 w K=K (.pointer (some (a.add 4))) w:=zy Vi a
theorem Vr:fieldB yN 0 0=true:=rK
@[push_cast] theorem jF0 {w:World} {K:oK} (a:Addr):zB yN (.pointer (some a)) 0 w K=K (.pointer (some (a.add 0))) w:=zy Vr a
theorem Vq:fieldB yN 1 1=true:=rK
@[push_cast] theorem jE0 {w:World} {K:oK} (a:Addr):zB yN (.pointer (some a)) 1 w K=K (.pointer (some (a.add 1))) w:=zy Vq a
theorem Kk:fieldB yV 0 0=true:=rK
@[push_cast] theorem ZX {w:World} {K:oK} (a:Addr):zB yV (.pointer (some a)) 0 w K=K (.pointer (some (a.add 0))) w:=zy Kk a
theorem Kj:fieldB yV 1 1=true:=rK
@[push_cast] theorem Kt {w:World} {K:oK} (a:Addr):zB yV (.pointer (some a)) 1 w K=K (.pointer (some (a.add 1))) w:=zy Kj a
theorem Um:fieldB zq 0 0=true:=rK
@[push_cast] theorem kA0 {w:World} {K:oK} (a:Addr):zB zq (.pointer (some a)) 0 w K=K (.pointer (some (a.add 0))) w:=zy Um a
theorem Ul:fieldB zq 1 1=true:=rK
@[push_cast] theorem Uq {w:World} {K:oK} (a:Addr):zB zq (.pointer (some a)) 1 w K=K (.pointer (some (a.add 1))) w:=zy Ul a
theorem Uc:fieldB y2 0 0=true:=rK
@[push_cast] theorem kt0 {w:World} {K:oK} (a:Addr):zB y2 (.pointer (some a)) 0 w K=K (.pointer (some (a.add 0))) w:=zy Uc a
theorem Ub:fieldB y2 1 1=true:=rK
@[push_cast] theorem ks0 {w:World} {K:oK} (a:Addr):zB y2 (.pointer (some a)) 1 w K=K (.pointer (some (a.add 1))) w:=zy Ub a
theorem Ua:fieldB y2 2 2=true:=rK
@[push_cast] theorem kr0 {w:World} {K:oK} (a:Addr):zB y2 (.pointer (some a)) 2 w K=K (.pointer (some (a.add 2))) w:=zy Ua a
theorem U9:fieldB y2 3 3=true:=rK
@[push_cast] theorem kq0 {w:World} {K:oK} (a:Addr):zB y2 (.pointer (some a)) 3 w K=K (.pointer (some (a.add 3))) w:=zy U9 a
theorem U8:fieldB y2 4 5=true:=rK
@[push_cast] theorem kp0 {w:World} {K:oK} (a:Addr):zB y2 (.pointer (some a)) 4 w K=K (.pointer (some (a.add 5))) w:=zy U8 a
theorem Uk:fieldB zw 0 0=true:=rK
@[push_cast] theorem kz0 {w:World} {K:oK} (a:Addr):zB zw (.pointer (some a)) 0 w K=K (.pointer (some (a.add 0))) w:=zy Uk a
theorem Uj:fieldB zw 1 1=true:=rK
@[push_cast] theorem ky0 {w:World} {K:oK} (a:Addr):zB zw (.pointer (some a)) 1 w K=K (.pointer (some (a.add 1))) w:=zy Uj a
theorem Vh:fieldB zA 0 0=true:=rK
@[push_cast] theorem jv0 {w:World} {K:oK} (a:Addr):zB zA (.pointer (some a)) 0 w K=K (.pointer (some (a.add 0))) w:=zy Vh a
theorem Vg:fieldB zA 1 2=true:=rK
@[push_cast] theorem ju0 {w:World} {K:oK} (a:Addr):zB zA (.pointer (some a)) 1 w K=K (.pointer (some (a.add 2))) w:=zy Vg a
theorem Ui:fieldB zu 0 0=true:=rK
@[push_cast] theorem Up {w:World} {K:oK} (a:Addr):zB zu (.pointer (some a)) 0 w K=K (.pointer (some (a.add 0))) w:=zy Ui a
theorem Uh:fieldB zu 1 1=true:=rK
@[push_cast] theorem Uo {w:World} {K:oK} (a:Addr):zB zu (.pointer (some a)) 1 w K=K (.pointer (some (a.add 1))) w:=zy Uh a
theorem Ug:fieldB zu 2 2=true:=rK
@[push_cast] theorem Un {w:World} {K:oK} (a:Addr):zB zu (.pointer (some a)) 2 w K=K (.pointer (some (a.add 2))) w:=zy Ug a
theorem Uf:fieldB zu 3 3=true:=rK
@[push_cast] theorem kx0 {w:World} {K:oK} (a:Addr):zB zu (.pointer (some a)) 3 w K=K (.pointer (some (a.add 3))) w:=zy Uf a
theorem Ue:fieldB zg 0 0=true:=rK
@[push_cast] theorem kw0 {w:World} {K:oK} (a:Addr):zB zg (.pointer (some a)) 0 w K=K (.pointer (some (a.add 0))) w:=zy Ue a
theorem Ud:fieldB zg 1 1=true:=rK
@[push_cast] theorem ku0 {w:World} {K:oK} (a:Addr):zB zg (.pointer (some a)) 1 w K=K (.pointer (some (a.add 1))) w:=zy Ud a
theorem Je:fieldB yr 0 0=true:=rK
@[push_cast] theorem xU0 {w:World} {K:oK} (a:Addr):zB yr (.pointer (some a)) 0 w K=K (.pointer (some (a.add 0))) w:=zy Je a
theorem Jd:fieldB yr 1 2=true:=rK
@[push_cast] theorem xT0 {w:World} {K:oK} (a:Addr):zB yr (.pointer (some a)) 1 w K=K (.pointer (some (a.add 2))) w:=zy Jd a
theorem Jc:fieldB yr 2 3=true:=rK
@[push_cast] theorem xS0 {w:World} {K:oK} (a:Addr):zB yr (.pointer (some a)) 2 w K=K (.pointer (some (a.add 3))) w:=zy Jc a
theorem Jb:fieldB yr 3 4=true:=rK
@[push_cast] theorem xR0 {w:World} {K:oK} (a:Addr):zB yr (.pointer (some a)) 3 w K=K (.pointer (some (a.add 4))) w:=zy Jb a
theorem Ja:fieldB yr 4 5=true:=rK
@[push_cast] theorem xQ0 {w:World} {K:oK} (a:Addr):zB yr (.pointer (some a)) 4 w K=K (.pointer (some (a.add 5))) w:=zy Ja a
theorem Vp:fieldB zm 0 0=true:=rK
@[push_cast] theorem jD0 {w:World} {K:oK} (a:Addr):zB zm (.pointer (some a)) 0 w K=K (.pointer (some (a.add 0))) w:=zy Vp a
theorem Vo:fieldB zm 1 1=true:=rK
@[push_cast] theorem jC0 {w:World} {K:oK} (a:Addr):zB zm (.pointer (some a)) 1 w K=K (.pointer (some (a.add 1))) w:=zy Vo a
theorem Vn:fieldB zm 2 2=true:=rK
@[push_cast] theorem jB0 {w:World} {K:oK} (a:Addr):zB zm (.pointer (some a)) 2 w K=K (.pointer (some (a.add 2))) w:=zy Vn a
theorem Kr:fieldB qs 0 0=true:=rK
@[push_cast] theorem j00 {w:World} {K:oK} (a:Addr):zB qs (.pointer (some a)) 0 w K=K (.pointer (some (a.add 0))) w:=zy Kr a
theorem Kq:fieldB qs 1 1=true:=rK
@[push_cast] theorem qZ0 {w:World} {K:oK} (a:Addr):zB qs (.pointer (some a)) 1 w K=K (.pointer (some (a.add 1))) w:=zy Kq a
theorem XR:fieldB zx 1 2=true:=rK
@[push_cast] theorem yU0 {w:World} {K:oK} (a:Addr):zB zx (.pointer (some a)) 1 w K=K (.pointer (some (a.add 2))) w:=zy XR a
theorem Jg:fieldB y9 0 0=true:=rK
@[push_cast] theorem xW0 {w:World} {K:oK} (a:Addr):zB y9 (.pointer (some a)) 0 w K=K (.pointer (some (a.add 0))) w:=zy Jg a
theorem Jf:fieldB y9 1 1=true:=rK
@[push_cast] theorem xV0 {w:World} {K:oK} (a:Addr):zB y9 (.pointer (some a)) 1 w K=K (.pointer (some (a.add 1))) w:=zy Jf a
theorem QB:fieldB yg 0 0=true:=rK
@[push_cast] theorem xz0 {w:World} {K:oK} (a:Addr):zB yg (.pointer (some a)) 0 w K=K (.pointer (some (a.add 0))) w:=zy QB a
theorem QA:fieldB yg 1 1=true:=rK
@[push_cast] theorem xy0 {w:World} {K:oK} (a:Addr):zB yg (.pointer (some a)) 1 w K=K (.pointer (some (a.add 1))) w:=zy QA a
theorem Qz:fieldB yg 2 2=true:=rK
@[push_cast] theorem xx0 {w:World} {K:oK} (a:Addr):zB yg (.pointer (some a)) 2 w K=K (.pointer (some (a.add 2))) w:=zy Qz a
theorem Qy:fieldB yg 3 3=true:=rK
@[push_cast] theorem xw0 {w:World} {K:oK} (a:Addr):zB yg (.pointer (some a)) 3 w K=K (.pointer (some (a.add 3))) w:=zy Qy a
theorem Qx:fieldB yE 0 0=true:=rK
@[push_cast] theorem xv0 {w:World} {K:oK} (a:Addr):zB yE (.pointer (some a)) 0 w K=K (.pointer (some (a.add 0))) w:=zy Qx a
theorem Qw:fieldB yE 1 1=true:=rK
@[push_cast] theorem xu0 {w:World} {K:oK} (a:Addr):zB yE (.pointer (some a)) 1 w K=K (.pointer (some (a.add 1))) w:=zy Qw a
theorem Ko:fieldB yu 0 0=true:=rK
@[push_cast] theorem qY0 {w:World} {K:oK} (a:Addr):zB yu (.pointer (some a)) 0 w K=K (.pointer (some (a.add 0))) w:=zy Ko a
theorem Km:fieldB yu 1 1=true:=rK
@[push_cast] theorem qX0 {w:World} {K:oK} (a:Addr):zB yu (.pointer (some a)) 1 w K=K (.pointer (some (a.add 1))) w:=zy Km a
theorem Kl:fieldB yu 2 2=true:=rK
@[push_cast] theorem qW0 {w:World} {K:oK} (a:Addr):zB yu (.pointer (some a)) 2 w K=K (.pointer (some (a.add 2))) w:=zy Kl a
theorem Qv:fieldB y7 0 0=true:=rK
@[push_cast] theorem xt0 {w:World} {K:oK} (a:Addr):zB y7 (.pointer (some a)) 0 w K=K (.pointer (some (a.add 0))) w:=zy Qv a
theorem Qu:fieldB y7 1 2=true:=rK
@[push_cast] theorem xs0 {w:World} {K:oK} (a:Addr):zB y7 (.pointer (some a)) 1 w K=K (.pointer (some (a.add 2))) w:=zy Qu a
@[push_cast] theorem jN0 {w:World} {K:oK} (b a:Value):kN0 zg (.agg ⟨[b,a]⟩) 1 w K=K a w:=y5 rK
noncomputable def mn_kids:String:=match P.info? 171 with|some i=>(match i.methods[0]? with|some m=>m.name|none=>default)|none=>default
noncomputable def k7:String:=match P.info? 171 with|some i=>(match i.methods[1]? with|some m=>m.name|none=>default)|none=>default
noncomputable def qA:String:=match P.info? 171 with|some i=>(match i.methods[2]? with|some m=>m.name|none=>default)|none=>default
noncomputable def Zb:String:=match P.info? 171 with|some i=>(match i.methods[3]? with|some m=>m.name|none=>default)|none=>default
theorem jc0:concB x6=true:=rK
@[push_cast] theorem Y40 {w:World} {K:oK} (v:Value):xJ0 x6 v w K=K (.iface x6 v) w:=kE jc0 v
theorem xN:concB zO=true:=rK
@[push_cast] theorem js0 {w:World} {K:oK} (v:Value):xJ0 zO v w K=K (.iface zO v) w:=kE xN v
theorem Xa (a b:Value) (w:World):(method (P.types.size+Made.depth) zO (.agg ⟨[a,b]⟩) mn_kids).run P w= .ok (yf,.agg ⟨[a,b]⟩) w:=rK
theorem X9 (a b:Value) (w:World):(method (P.types.size+Made.depth) zO (.agg ⟨[a,b]⟩) k7).run P w= .ok (kk,.agg ⟨[a,b]⟩) w:=rK
theorem Yp (a b:Value) (w:World):(method (P.types.size+Made.depth) zO (.agg ⟨[a,b]⟩) qA).run P w= .ok (jP,.agg ⟨[a,b]⟩) w:=rK
theorem X8 (a b:Value) (w:World):(method (P.types.size+Made.depth) zO (.agg ⟨[a,b]⟩) Zb).run P w= .ok (yp,.agg ⟨[a,b]⟩) w:=rK
theorem qd:concB zK=true:=rK
@[push_cast] theorem qB0 {w:World} {K:oK} (v:Value):xJ0 zK v w K=K (.iface zK v) w:=kE qd v
theorem Yz (a b:Value) (w:World):(method (P.types.size+Made.depth) zK (.agg ⟨[a,b]⟩) mn_kids).run P w= .ok (yf,.agg ⟨[a,b]⟩) w:=rK
theorem Yy (a b:Value) (w:World):(method (P.types.size+Made.depth) zK (.agg ⟨[a,b]⟩) k7).run P w= .ok (jW,.agg ⟨[a,b]⟩) w:=rK
theorem ZN (a b:Value) (w:World):(method (P.types.size+Made.depth) zK (.agg ⟨[a,b]⟩) qA).run P w= .ok (jv,.agg ⟨[a,b]⟩) w:=rK
theorem Yx (a b:Value) (w:World):(method (P.types.size+Made.depth) zK (.agg ⟨[a,b]⟩) Zb).run P w= .ok (yp,.agg ⟨[a,b]⟩) w:=rK
theorem kc:concB zF=true:=rK
@[push_cast] theorem qA0 {w:World} {K:oK} (v:Value):xJ0 zF v w K=K (.iface zF v) w:=kE kc v
theorem Yw (a b:Value) (w:World):(method (P.types.size+Made.depth) zF (.agg ⟨[a,b]⟩) mn_kids).run P w= .ok (yf,.agg ⟨[a,b]⟩) w:=rK
theorem Yv (a b:Value) (w:World):(method (P.types.size+Made.depth) zF (.agg ⟨[a,b]⟩) k7).run P w= .ok (jV,.agg ⟨[a,b]⟩) w:=rK
theorem ZM (a b:Value) (w:World):(method (P.types.size+Made.depth) zF (.agg ⟨[a,b]⟩) qA).run P w= .ok (ju,.agg ⟨[a,b]⟩) w:=rK
theorem Yu (a b:Value) (w:World):(method (P.types.size+Made.depth) zF (.agg ⟨[a,b]⟩) Zb).run P w= .ok (yp,.agg ⟨[a,b]⟩) w:=rK
theorem yy:concB zM=true:=rK
@[push_cast] theorem qy0 {w:World} {K:oK} (v:Value):xJ0 zM v w K=K (.iface zM v) w:=kE yy v
theorem Yo (a b:Value) (w:World):(method (P.types.size+Made.depth) zM (.agg ⟨[a,b]⟩) mn_kids).run P w= .ok (yf,.agg ⟨[a,b]⟩) w:=rK
theorem Yn (a b:Value) (w:World):(method (P.types.size+Made.depth) zM (.agg ⟨[a,b]⟩) k7).run P w= .ok (jO,.agg ⟨[a,b]⟩) w:=rK
theorem ZI (a b:Value) (w:World):(method (P.types.size+Made.depth) zM (.agg ⟨[a,b]⟩) qA).run P w= .ok (jn,.agg ⟨[a,b]⟩) w:=rK
theorem yz:concB zE=true:=rK
@[push_cast] theorem xN0 {w:World} {K:oK} (v:Value):xJ0 zE v w K=K (.iface zE v) w:=kE yz v
theorem ZK (a b:Value) (w:World):(method (P.types.size+Made.depth) zE (.agg ⟨[a,b]⟩) mn_kids).run P w= .ok (yf,.agg ⟨[a,b]⟩) w:=rK
theorem ZJ (a b:Value) (w:World):(method (P.types.size+Made.depth) zE (.agg ⟨[a,b]⟩) k7).run P w= .ok (jo,.agg ⟨[a,b]⟩) w:=rK
theorem Zo (a b:Value) (w:World):(method (P.types.size+Made.depth) zE (.agg ⟨[a,b]⟩) qA).run P w= .ok (ja,.agg ⟨[a,b]⟩) w:=rK
theorem yU:concB zJ=true:=rK
@[push_cast] theorem qz0 {w:World} {K:oK} (v:Value):xJ0 zJ v w K=K (.iface zJ v) w:=kE yU v
theorem Yt (a b:Value) (w:World):(method (P.types.size+Made.depth) zJ (.agg ⟨[a,b]⟩) mn_kids).run P w= .ok (yf,.agg ⟨[a,b]⟩) w:=rK
theorem Ys (a b:Value) (w:World):(method (P.types.size+Made.depth) zJ (.agg ⟨[a,b]⟩) k7).run P w= .ok (jU,.agg ⟨[a,b]⟩) w:=rK
theorem ZL (a b:Value) (w:World):(method (P.types.size+Made.depth) zJ (.agg ⟨[a,b]⟩) qA).run P w= .ok (jt,.agg ⟨[a,b]⟩) w:=rK
theorem Yr (a b:Value) (w:World):(method (P.types.size+Made.depth) zJ (.agg ⟨[a,b]⟩) Zb).run P w= .ok (yp,.agg ⟨[a,b]⟩) w:=rK
theorem xx:concB zS=true:=rK
@[push_cast] theorem jt0 {w:World} {K:oK} (v:Value):xJ0 zS v w K=K (.iface zS v) w:=kE xx v
theorem Xd (a b:Value) (w:World):(method (P.types.size+Made.depth) zS (.agg ⟨[a,b]⟩) mn_kids).run P w= .ok (yf,.agg ⟨[a,b]⟩) w:=rK
theorem Xc (a b:Value) (w:World):(method (P.types.size+Made.depth) zS (.agg ⟨[a,b]⟩) k7).run P w= .ok (km,.agg ⟨[a,b]⟩) w:=rK
theorem Yq (a b:Value) (w:World):(method (P.types.size+Made.depth) zS (.agg ⟨[a,b]⟩) qA).run P w= .ok (jR,.agg ⟨[a,b]⟩) w:=rK
theorem Xb (a b:Value) (w:World):(method (P.types.size+Made.depth) zS (.agg ⟨[a,b]⟩) Zb).run P w= .ok (yp,.agg ⟨[a,b]⟩) w:=rK
theorem Zj:concB zx=true:=rK
@[push_cast] theorem xO0 {w:World} {K:oK} (v:Value):xJ0 zx v w K=K (.iface zx v) w:=kE Zj v
theorem ZQ (a b c:Value) (w:World):(method (P.types.size+Made.depth) zx (.agg ⟨[a,b,c]⟩) mn_kids).run P w= .ok (yf,.agg ⟨[a,b]⟩) w:=rK
theorem ZP (a b c:Value) (w:World):(method (P.types.size+Made.depth) zx (.agg ⟨[a,b,c]⟩) k7).run P w= .ok (jw,.agg ⟨[a,b,c]⟩) w:=rK
theorem Zp (a b c:Value) (w:World):(method (P.types.size+Made.depth) zx (.agg ⟨[a,b,c]⟩) qA).run P w= .ok (je,.agg ⟨[a,b,c]⟩) w:=rK
theorem ZO (a b c:Value) (w:World):(method (P.types.size+Made.depth) zx (.agg ⟨[a,b,c]⟩) Zb).run P w= .ok (yp,.agg ⟨[a,b]⟩) w:=rK
theorem qe:concB zG=true:=rK
@[push_cast] theorem qC0 {w:World} {K:oK} (v:Value):xJ0 zG v w K=K (.iface zG v) w:=kE qe v
theorem YC (a b:Value) (w:World):(method (P.types.size+Made.depth) zG (.agg ⟨[a,b]⟩) mn_kids).run P w= .ok (yf,.agg ⟨[a,b]⟩) w:=rK
theorem YB (a b:Value) (w:World):(method (P.types.size+Made.depth) zG (.agg ⟨[a,b]⟩) k7).run P w= .ok (jY,.agg ⟨[a,b]⟩) w:=rK
theorem ZR (a b:Value) (w:World):(method (P.types.size+Made.depth) zG (.agg ⟨[a,b]⟩) qA).run P w= .ok (jx,.agg ⟨[a,b]⟩) w:=rK
theorem YA (a b:Value) (w:World):(method (P.types.size+Made.depth) zG (.agg ⟨[a,b]⟩) Zb).run P w= .ok (yp,.agg ⟨[a,b]⟩) w:=rK
end Go.Proofs.YtiglcianecnchaaGreatDoor
section
namespace Go.Proofs.YtiglcianecnchaaGreatDoor
open Go Go.Vc Go.Proofs
open Go.ChangeShapes Go.WideShapes Go.ChangeAt Go.RowKit
theorem Zf0:ownKnob P.godebug=none:=rK
theorem YR:laidOutB P=true:=rK
def restFacts (P:Program) (f:FuncId) (fn:Func) (s:ChangeSpec) (c:OpenClaim):Bool:=
 c.wf (OpenSpec.ofChange s)&&
 fn.params.all (P.readableRec ·)&&namedTie P c.named s.vars&&
 (c.stops==[])&&(P.stops==[])&&(c.knobs==[])&&(P.stopKnobs==[])&&
 (c.maps==(fn.params.toList++s.plain.varTypes P).any (P.mapsRec ·))&&(c.ifaces==(fn.params.toList++s.plain.varTypes P).any (P.ifacesRec ·))&&(c.mapsOut==P.mapsAmong fn.resultTypes.toList)&&
 (c.loops==(fn.params.toList++s.plain.varTypes P).any (P.loopsFrom ·))&&(c.wideKeys==(fn.params.toList++s.plain.varTypes P++fn.resultTypes.toList).any (P.wideKeysFrom ·))&&
 s.vars.all (P.varReadable ·)&&fn.resultTypes.all (λt=>P.readableRec t&&decide (t<P.types.size))&&(c.ifacesOut==fn.resultTypes.toList.any (P.ifacesRec ·))&&(c.loopsOut==fn.resultTypes.toList.any (P.loopsFrom ·))&&(c.plainKeys==P.plainKeys)&&c.shortTexts.isNone&&P.stopsHeard&&P.mayEnter&&(c.lifted==P.liftsFinal)&&(P.make==some c.make)&&(c.kinds==(if c.domain.isEmpty then[] else fn.params.toList.map λt=>match P.underlying t with|some (.int k)=>some k|_=>none))&&(c.pinned==c.pinnedBy)&&
 (c.veiled==(fn.params.toList++s.plain.varTypes P++fn.resultTypes.toList).any (P.veiledRec ·))&&c.veiledFits P fn.params.toList (fn.params.toList++s.plain.varTypes P++fn.resultTypes.toList)
theorem qL0 {P:Program} {f:FuncId} {fn:Func} {s:ChangeSpec} {c:OpenClaim} (b:laidOutB P=true) (d:mapsRowed P=true) (e:(c.inPlace==P.inPlace f)=true) (g:(c.unfollowed==P.unfollowed f)=true)
  (h:(c.recurses==P.recurses f)=true) (i:(c.named==P.varsNamed f)=true) (a:restFacts P f fn s c=true):joinedFacts P f fn s c=true:=by
 unfold restFacts at a;unfold joinedFacts;rw[b,d,e,g,h,i];simp only[Po];exact a
theorem k00:mapsRowed P=true:=rK
theorem j10 {w w':World} (h:Ext w w'):Below w.heap.size w w':=⟨h.os,h.tape,h.output,h.size,λk a=>h.block k a id⟩
theorem u8_wf {n:Int} (h:(Lit.int .u8 n).wf=true):0<=n/\n<256:=by
 simp only[Lit.wf,gg,decide_eq_true_eq] at h;have a:IntKind.u8.min=0:=dC
 have b:IntKind.u8.max=255:=dC
 omega
def x40 (w:World) (v:Value) (xs:List Nat):Prop:=Vals (λ_=>True) w v (xs.map λx=>Value.int .u8 (x:Nat))/\∀x,x∈xs->x<256
theorem jd0 (w:World):x40 w (.slice none 0 0) []:=⟨⟨⟨none,0,rfl,by simp,by simp,λh=>absurd rfl h⟩,by simp⟩,by simp⟩
theorem bytes_of {w:World} {x:Addr} {len cap:Nat} {zs:List Int} (z:len<=cap) (hm:cap<=maxLen) (A:zs.length=cap) (a:∀i,i<zs.length->w.cell? (x.add i)=some (.int .u8 (zs.getD i 0))) (o:∀n,n∈zs->(Lit.int .u8 n).wf=true):
  x40 w (.slice (some x) len cap) ((zs.take len).map Int.toNat):=by
 have c:∀n,n∈zs.take len->0<=n/\n<256:=λn l=>u8_wf (o n (gL l));refine⟨⟨⟨some x,cap,?_,?_,by unfold maxLen at hm;exact hm,λm=>?_⟩,λy p=>by obtain⟨u,_,rfl⟩:=gm.1 p;rfl⟩,λy p=>?_⟩
 ·simp only[k6,V0];rw[Gw oM]
 ·simp only[k6,V0];omega
 ·have hlen:0<len:=by
   refine Nat.pos_of_ne_zero λe=>m ?_;subst e;simp
  obtain⟨b,off,spot⟩:=x;have f:=a 0 oM;have d:spot=none:=(by simpa[Addr.add] using World.cell?_spot f);subst d;refine⟨b,off,rfl,trivial,World.block_lt_of_cell? w _ f,λi hi=>?_⟩;simp only[k6,V0] at hi;intro j v h;have hit:i<(zs.take len).length:=by simp only[V0];omega
  have s:((((zs.take len).map Int.toNat).map λx=>Value.int .u8 (x:Nat)).map λx=>[x]).getD i []=[Value.int .u8 (((zs.take len)[i].toNat:Nat):Int)]:=by
   simp[q0,hi]
  rw[s] at h;have t:j=0:=by
   cases j with
   |zero=>rfl
   |succ j=>simp at h
  subst t;simp only[pY,Gj] at h;subst h;have g:i<zs.length:=oM;have q:=a i g;have k:=c _ (GG hit);have r:zs.getD i 0=(zs.take len)[i]:=(by simp[q0,g]);rw[r,ym] at q;rw[Pu k.1,ym,GP,pC];exact q
 ·obtain⟨n,l,rfl⟩:=gm.1 p;have:=c n l;omega
end Go.Proofs.YtiglcianecnchaaGreatDoor
end
end
