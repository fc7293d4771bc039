import Derived.Test.YtaekfnbnhjgboaaGreatDoorWudP0
import Derived.Scope
import Derived.Laws.World
import Derived.Below
import Derived.IntWalk
import Derived.Laws.AppendOwn
import Derived.Laws.OwnMore
import Derived.Laws.Slices
import Derived.Laws.Tables
import Derived.Laws.Cover3
import Derived.Laws.CopyRow
import Derived.MapKept
import Derived.Laws.IdiomRangeMap
import Derived.Laws.Small
import Derived.Laws.Entries
import Derived.Laws.Strings2
import Derived.Laws.Concat
import Derived.Laws.StructEq
import Derived.Laws.Shifts
import Derived.Laws.Build
import Derived.RangeFuncRecord
/- A part of the proof. -/
set_option linter.unusedVariables false
set_option linter.unusedSimpArgs false
set_option linter.unnecessarySimpa false
set_option linter.unusedSectionVars false
section
namespace Go.Vc
open Go
def lookN {α:Type} (k:Nat):List (Nat×α)→Option α
 |[]=>none
 |p::r=>cond (Nat.beq k p.1) (some p.2) (lookN k r)
structure Ann where
 ord:List (Nat×List Nat×List (Nat×List Nat)):=[]
 loops:List (Nat×List Nat):=[]
 cuts:List (Nat×List Nat):=[]
 trees:List (Nat×OT×List (Nat×List Nat)):=[]
 pars:List (Nat×List Nat×List Nat×List Nat×List (Nat×List Nat)):=[]
def firstR:Code→Option Nat
 | .region id _ _=>some id
 | .seq a b=>match firstR a with|some i=>some i|none=>firstR b
 | .cond _ a b=>match firstR a with|some i=>some i|none=>firstR b
 | .block _ b=>firstR b
 | .loop b=>firstR b
 | .scope b=>firstR b
 |_=>none
def dsts:List Oper→List Nat→List Nat
 |[],l=>l
 |o::r,l=>match o.dst with|some d=>d::dsts r l|none=>dsts r l
def mods:Code→List Nat→List Nat
 | .region _ ops _,l=>dsts ops.toList l
 | .seq a b,l=>mods a (mods b l)
 | .cond _ a b,l=>mods a (mods b l)
 | .block _ b,l=>mods b l
 | .loop b,l=>mods b l
 | .scope b,l=>mods b l
 |_,l=>l
theorem mem_dsts {t:Nat}:∀{ops:List Oper} {l:List Nat},t∈dsts ops l↔(∃o,o∈ops∧o.dst=some t)∨t∈l:=by
 intro ops
 induction ops with
 |nil=>intro l;simp[dsts]
 |cons o r c=>
  intro l
  simp only[dsts]
  cases b:o.dst with
  |none=>
   simp only[c,List.mem_cons];constructor
   ·rintro(⟨x,a,h⟩|h);exact .inl ⟨x,.inr a,h⟩;exact .inr h
   ·rintro(⟨x,rfl|a,h⟩|h);rw[b] at h;cases h;exact .inl ⟨x,a,h⟩;exact .inr h
  |some d=>
   simp only[List.mem_cons,c];constructor
   ·rintro(rfl|⟨x,a,h⟩|h);exact .inl ⟨o,.inl rfl,b⟩;exact .inl ⟨x,.inr a,h⟩;exact .inr h
   ·rintro(⟨x,rfl|a,h⟩|h);rw[b] at h;exact .inl (Option.some.inj h).symm;exact .inr (.inl ⟨x,a,h⟩);exact .inr (.inr h)
theorem mem_mods {t:Nat}:∀(c:Code) (l:List Nat),t∈mods c l↔t∈mods c []∨t∈l:=by
 intro c
 induction c with
 |region id ops d=>intro l;simp only[mods,mem_dsts,List.not_mem_nil,or_false]
 |seq a b iha ihb=>intro l;simp only[mods];rw[iha,ihb l,iha (mods b [])];simp only[or_assoc]
 |cond x a b iha ihb=>intro l;simp only[mods];rw[iha,ihb l,iha (mods b [])];simp only[or_assoc]
 |block i b e=>intro l;simp only[mods];exact e l
 |loop b e=>intro l;simp only[mods];exact e l
 |scope b e=>intro l;simp only[mods];exact e l
 |_=>intro l;simp[mods]
def yF (A:(List Value→World→Prop)→Prop) (B:List Value→Fr→World→Prop):Prop:= ∃J,A J∧∀u g w,J u w→B u g w
def yJ (z:List Value) (w:World) (B:(List Value→World→Prop)→List Value→Fr→World→Prop):Prop:=
 ∃I:Nat→List Value→World→Prop,(∃n,I n z w)∧∀n u g w',I n u w'→B (fun u' w''=> ∃m,m<n∧I m u' w'') u g w'
def y0 (w:World) (K:World→Prop):Prop:=K {w with drawn:=w.drawn+1}
def seqK (N:Fr→World→Prop) (K:Exit→Fr→World→Prop) (e:Exit) (f:Fr) (w:World):Prop:=
 match e with
 | .normal=>N f w
 |e=>K e f w
def blkK (id:Nat) (K:Exit→Fr→World→Prop) (e:Exit) (f:Fr) (w:World):Prop:=
 match e with
 | .exit i=>cond (Nat.beq i id) (K .normal f w) (K (.exit i) f w)
 |e=>K e f w
def lookD (T:List (Nat×List Nat)) (s:Nat):List Nat:=match lookN s T with|some l=>l|none=>[]
def upto:Nat→Nat→List Nat
 |0,_=>[]
 |n+1,k=>k::upto n (k+1)
def lenO:List Oper→Nat
 |[]=>0
 |_::r=>lenO r+1
def Jq0 (T:Ann) (a c:Code):Option (List Nat):=match firstR c with|some i=>lookN (Nat.add (Nat.mul (match firstR a with|some j=>j+1 |none=>0) 4096) i) T.cuts|none=>none
def Qa0 (T:Ann) (c:Code):Option (List Nat):=match firstR c with|some i=>lookN i T.loops|none=>none
def vc (P:Program) (T:Ann):Code→(Exit→Fr→World→Prop)→Fr→World→Prop
 | .skip,K,f,w=>K .normal f w
 | .label _,K,f,w=>K .normal f w
 | .region id ops dr,K,f,w=>
  match dr with
  |false=>vops P ops.toList false (fun _=>[]) (fun f w=>K .normal f w) (upto (lenO ops.toList) 0) [] [] f w
  |true=>match lookN id T.ord with
   |some p=>y0 w fun w=>vops P ops.toList true (lookD p.2) (fun f w=>K .normal f w) p.1 [] [] f w
   |none=>match lookN id T.trees with
    |some p=>y0 w fun w=>vopsT P ops.toList (lookD p.2) (fun f w=>K .normal f w) p.1 [] [] f w
    |none=>match lookN id T.pars with
     |some p=>y0 w fun w=>vopsP P ops.toList (lookD p.2.2.2) p.2.1 p.2.2.1 (fun f w=>K .normal f w) p.1 [] [] f w
     |none=>False
 | .seq a b,K,f,w=>
  match Jq0 T a b with
  |some L=>yF (fun J=>vc P T a (seqK (fun f' w'=>J (selL L f') w') K) f w) (fun u g w'=>vc P T b K (hav f L (mods a []) u g) w')
  |none=>vc P T a (seqK (fun f' w'=>vc P T b K f' w') K) f w
 | .cond c a b,K,f,w=>vif (ev f c) (vc P T a K f w) (vc P T b K f w)
 | .block id b,K,f,w=>vc P T b (blkK id K) f w
 | .loop b,K,f,w=>
  match Qa0 T b with
  |some L=>yJ (selL L f) w fun C u g w'=>vc P T b (seqK (fun f' w''=>C (selL L f') w'') K) (hav f L (mods b []) u g) w'
  |none=>False
 | .exit id,K,f,w=>K (.exit id) f w
 | .ret,K,f,w=>K .ret f w
 | .scope b,K,f,w=>vc P T b K f w
 |_,_,_,_=>False
def okC (n:Nat) (T:Ann):Code→Bool
 | .region id ops dr=>yd0 n ops.toList&&(match dr with
  |false=>true
  |true=>match lookN id T.ord with
   |some p=>jz0 ops (lookD p.2) p.1&&allN (fun q=>allN (fun x=>memN x p.1) (lookD p.2 q)) (p.2.map (·.1))
   |none=>match lookN id T.trees with
    |some p=>qA0 ops (lookD p.2) p.1
    |none=>match lookN id T.pars with
     |some p=>chkPar ops (lookD p.2.2.2) p.1 p.2.1 p.2.2.1&&kZ0 ops.toList p.2.1 p.2.2.1
     |none=>false)
 | .seq a b=>okC n T a&&okC n T b
 | .cond _ a b=>okC n T a&&okC n T b
 | .block _ b=>okC n T b
 | .loop b=>okC n T b
 | .scope b=>okC n T b
 |_=>true
theorem Qm0 (n k:Nat):upto n k=List.range' k n:=by
 induction n generalizing k with
 |zero=>rfl
 |succ n a=>simp only[upto,a];rfl
theorem Qy0 (l:List Oper):lenO l=l.length:=by induction l<;>simp_all[lenO]
theorem Yj0 {α:Type} {k:Nat} {T:List (Nat×α)} {x:α} (h:lookN k T=some x):k∈T.map (·.1):=by
 induction T with
 |nil=>cases h
 |cons p r b=>
  simp only[lookN] at h
  cases a:Nat.beq k p.1
  ·rw[a] at h;exact List.mem_cons_of_mem _ (b h)
  ·simp[Nat.eq_of_beq_eq_true a]
theorem Xt0 {T:List (Nat×List Nat)} {π:List Nat} (h:allN (fun q=>allN (fun x=>memN x π) (lookD T q)) (T.map (·.1))=true):∀s x,x∈lookD T s→x∈π:=by
 intro s x a
 have hs:s∈T.map (·.1):=by
  unfold lookD at a
  cases b:lookN s T with
  |none=>rw[b] at a;cases a
  |some l=>exact Yj0 b
 exact memN_iff.1 (XW0.1 (XW0.1 h s hs) x a)
def Post (df:List Deferred) (n:Nat) (M:List Nat) (f:Fr) (K:Exit→Fr→World→Prop) (e:Exit) (a:Act) (w:World):Prop:=
 ∃f',Sim df n f' a∧(∀t,t∉M→f' t=f t)∧K e f' w
theorem Jj0 {p:Nat→Prop} (h:∃n,p n):∃n,p n∧∀m,p m→n≤m:=by
 obtain⟨n,c⟩:=h
 induction n using Nat.strongRecOn with
 |_ n d=>
  by_cases hm:∃m,m<n∧p m
  ·obtain⟨m,a,b⟩:=hm
   exact d m a b
  ·exact⟨n,c,fun m b=>Nat.le_of_not_lt fun a=>hm ⟨m,a,b⟩⟩
open Classical in
noncomputable def rank (p:Nat→Prop):Nat:=if h:∃n,p n then Classical.choose (Jj0 h) else 0
theorem jj0 {p:Nat→Prop} (h:∃n,p n):p (rank p)∧∀m,p m→rank p≤m:=by
 unfold rank
 rw[dif_pos h]
 exact Classical.choose_spec (Jj0 h)
theorem Sim.fr {df:List Deferred} {n:Nat} {f:Fr} {a:Act} (h:Sim df n f a):(fun t=>a.tmps.getD t undef)=f:=funext h.at_
theorem Z7 {P:Program} {b:Frame} {a:Act} {k:List Item} {cs:List Frame} {w:World} {c:Code}:step P (lone (b.atR a (.code (.scope c)::k)) cs w)= .next (lone (b.atR a (.code c:: .inScope c::k)) cs w):=
 step_lone_go (by simp[stepG,stepG.exec,Frame.atR])
theorem qb0 {P:Program} {b:Frame} {a:Act} {k:List Item} {cs:List Frame} {w:World} {c:Code}:step P (lone (b.atR a (.inScope c::k)) cs w)= .next (lone (b.atR a k) cs w):=
 step_lone_go (by simp[stepG,stepG.exec,Frame.atR])
theorem wpIn_scope_straight {ro:Option Nat} {P:Program} {Q:Exit→Act→World→Prop} {a:Act} {w:World} {c:Code} (h:c.wpIn (FR ro) 0 P (Exit.noGoto Q) a w):(Code.scope c).wpIn (FR ro) 0 P Q a w:=by
 intro b k cs o i m
 have f:(lone (b.atR a (.code (.scope c)::k)) cs w).fenced P (FR ro):=fenced_calm i m rfl
 obtain⟨e,a₁,w₁,g,d⟩:=h b (.inScope c::k) cs o i m
 cases e with
 |normal=>exact⟨.normal,a₁,w₁,g,.head f Z7 (StepsIn.trans d (.one (fenced_calm i m rfl) qb0))⟩
 |exit id=>
  have p:exitTo id (.inScope c::k)=exitTo id k:=by simp[exitTo]
  exact⟨.exit id,a₁,w₁,g,fun s j=> .head f Z7 (d.1 s (by rw[p];exact j)),
   fun n j=>let ⟨k₁,q,r⟩:=d.2 n (by rw[p];exact j);⟨k₁,q,.head f Z7 r⟩⟩
 |goto l=>exact g.elim
 |ret=>exact⟨_,a₁,w₁,g,.of_steps (.one f Z7) d⟩
 |panic ch=>exact⟨_,a₁,w₁,g,.of_steps (.one f Z7) d⟩
 |outgrown=>exact⟨_,a₁,w₁,g,.of_steps (.one f Z7) d⟩
section
variable {ro:Option Nat} {df:List Deferred} {P:Program} {T:Ann} {n:Nat}
theorem vc_sound (hm:P.follows .mixedOrders=true):∀(c:Code) (K:Exit→Fr→World→Prop) (f:Fr) (a:Act) (w:World),okC n T c=true→vc P T c K f w→Sim df n f a→(∀l f w,¬K (.goto l) f w)→
  c.wpIn (FR ro) 0 P (Post df n (mods c []) f K) a w:=by
 intro c
 induction c with
 |skip=>intro K f a w _ h hs _;exact wpIn_skip ⟨f,hs,fun _ _=>rfl,h⟩
 |label l=>intro K f a w _ h hs _;exact wpIn_label ⟨f,hs,fun _ _=>rfl,h⟩
 |exit id=>intro K f a w _ h hs _;exact wpIn_exit ⟨f,hs,fun _ _=>rfl,h⟩
 |ret=>intro K f a w _ h hs _;exact wpIn_ret ⟨f,hs,fun _ _=>rfl,h⟩
 |goto l=>intro K f a w _ h;exact h.elim
 |refuse s=>intro K f a w _ h;exact h.elim
 |rangeFunc x y z b _ _=>intro K f a w _ h;exact h.elim
 |region id ops dr=>
  intro K f a w d h hs _
  simp only[okC,Bool.and_eq_true] at d
  have Q:∀q C w',Sim df n q C→(∀t,(∀o,o∈ops→o.dst≠some t)→q t=f t)→K .normal q w'→Post df n (mods (.region id ops dr) []) f K .normal C w':=by
   intro q C w' j u r
   refine⟨q,j,fun t A=>u t fun o ho hd=>A ?_,r⟩
   simp only[mods,mem_dsts]
   exact .inl ⟨o,Array.mem_toList_iff.2 ho,hd⟩
  cases dr with
  |false=>
   simp only[vc] at h
   exact kq0 d.1 (by rw[Qm0,Qy0,Array.length_toList,List.range_eq_range']) h hs Q
  |true=>
   simp only[vc] at h
   have g:=d.2
   cases N:lookN id T.ord with
   |none=>
    rw[N] at h g
    simp only at h g
    cases u:lookN id T.trees with
    |none=>
     rw[u] at h g
     simp only at h g
     cases X:lookN id T.pars with
     |none=>rw[X] at h;exact h.elim
     |some p=>
      rw[X] at h g
      simp only[Bool.and_eq_true] at g
      exact Zd0 d.1 hm g.1 g.2 h hs Q
    |some p=>
     rw[u] at h g
     exact kp0 d.1 hm g h hs Q
   |some p=>
    rw[N] at h g
    simp only[Bool.and_eq_true] at g
    exact kr0 d.1 hm g.1 (Xt0 g.2) h hs Q
 |seq x y ihx ihy=>
  intro K f a w d h hs E
  simp only[okC,Bool.and_eq_true] at d
  refine wpIn_seq ?_
  simp only[vc] at h
  cases W:Jq0 T x y with
  |none=>
   rw[W] at h
   refine wpIn_mono (ihx _ f a w d.1 h hs ?_) ?_
   ·intro l q w' r;exact E l q w' r
   ·rintro e C w' ⟨q,j,u,r⟩
    cases e with
    |normal=>
     refine wpIn_mono (ihy K q C w' d.2 r j E) ?_
     rintro e M w'' ⟨B,v,D,H⟩
     refine⟨B,v,fun t A=>?_,H⟩
     simp only[mods] at A
     rw[mem_mods] at A
     rw[D t (fun h=>A (.inr h)),u t (fun h=>A (.inl h))]
    |_=>exact⟨q,j,fun t A=>u t (fun h=>A (by simp only[mods];rw[mem_mods];exact .inl h)),r⟩
  |some L=>
   rw[W] at h
   obtain⟨J,Z,R⟩:=h
   refine wpIn_mono (ihx _ f a w d.1 Z hs ?_) ?_
   ·intro l q w' r;exact E l q w' r
   ·rintro e C w' ⟨q,j,u,r⟩
    cases e with
    |normal=>
     have F:=R _ q _ r
     simp only[qo0 u] at F
     refine wpIn_mono (ihy K q C w' d.2 F j E) ?_
     rintro e M w'' ⟨B,v,D,H⟩
     refine⟨B,v,fun t A=>?_,H⟩
     simp only[mods] at A
     rw[mem_mods] at A
     rw[D t (fun h=>A (.inr h)),u t (fun h=>A (.inl h))]
    |_=>exact⟨q,j,fun t A=>u t (fun h=>A (by simp only[mods];rw[mem_mods];exact .inl h)),r⟩
 |cond x y z ihy ihz=>
  intro K f a w d h hs E
  simp only[okC,Bool.and_eq_true] at d
  simp only[vc] at h
  unfold vif at h
  split at h
  ·rename_i V
   refine wpIn_cond_true (by rw[hs.eval];exact V) (wpIn_mono (ihy K f a w d.1 h hs E) ?_)
   rintro e C w' ⟨q,j,u,r⟩
   exact⟨q,j,fun t A=>u t (fun h=>A (by simp only[mods];rw[mem_mods];exact .inl h)),r⟩
  ·rename_i V
   refine wpIn_cond_false (by rw[hs.eval];exact V) (wpIn_mono (ihz K f a w d.2 h hs E) ?_)
   rintro e C w' ⟨q,j,u,r⟩
   exact⟨q,j,fun t A=>u t (fun h=>A (by simp only[mods];rw[mem_mods];exact .inr h)),r⟩
  ·exact h.elim
 |block id b O=>
  intro K f a w d h hs E
  refine wpIn_block (wpIn_mono (O _ f a w d h hs ?_) ?_)
  ·intro l q w' r;exact E l q w' r
  ·rintro e C w' ⟨q,j,u,r⟩
   cases e with
   |exit i=>
    simp only[Exit.inBlock]
    simp only[blkK] at r
    cases F:Nat.beq i id
    ·rw[F] at r
     have:i≠id:=fun e=>by subst e;simp at F
     rw[if_neg this]
     exact⟨q,j,u,r⟩
    ·rw[F] at r
     rw[if_pos (Nat.eq_of_beq_eq_true F)]
     exact⟨q,j,u,r⟩
   |_=>exact⟨q,j,u,r⟩
 |loop b O=>
  intro K f a w d h hs E
  simp only[vc] at h
  cases N:Qa0 T b with
  |none=>rw[N] at h;exact h.elim
  |some L=>
   rw[N] at h
   obtain⟨I,Y,R⟩:=h
   refine wpIn_loop (fun C w'=> ∃q,Sim df n q C∧(∀t,t∉mods b []→q t=f t)∧∃k,I k (selL L q) w') (fun C w'=>rank fun k=>I k (selL L fun t=>C.tmps.getD t undef) w')
    ⟨f,hs,fun _ _=>rfl,Y⟩ ?_
   rintro C w' ⟨q,j,u,hI⟩
   obtain⟨U,_⟩:=jj0 hI
   have F:=R _ _ q _ U
   simp only[qo0 u] at F
   refine wpIn_mono (O _ q C w' d F j ?_) ?_
   ·intro l B w'' r;exact E l B w'' r
   ·rintro e M w'' ⟨B,v,D,r⟩
    have G:∀t,t∉mods b []→B t=f t:=fun t A=>(D t A).trans (u t A)
    cases e with
    |normal=>
     obtain⟨m,S,hm⟩:=r
     refine⟨⟨B,v,G,m,hm⟩,?_⟩
     rw[v.fr,j.fr]
     exact Nat.lt_of_le_of_lt ((jj0 ⟨m,hm⟩).2 m hm) S
    |_=>exact⟨B,v,G,r⟩
 |scope b O=>
  intro K f a w d h hs E
  refine wpIn_scope_straight (wpIn_mono (O K f a w d h hs E) ?_)
  rintro e C w' ⟨q,j,u,r⟩
  cases e with
  |goto l=>exact(E l _ _ r).elim
  |_=>exact⟨q,j,u,r⟩
def vlv (P:Program) (t:TypeId) (a:Value) (w:World) (K:Value→World→Prop):Prop:=Wf P (do loadVar t (←asAddr a)) w fun v w'=>w'=w∧K v w
def vresL (P:Program):List ResultVar→Fr→World→(List Value→World→Prop)→Prop
 |[],_,w,K=>K [] w
 | .tmp t::r,f,w,K=>vresL P r f w fun l w=>K (f t::l) w
 | .cell a t::r,f,w,K=>vlv P t (f a) w fun v w=>vresL P r f w fun l w=>K (v::l) w
def tup:List Value→Value
 |[v]=>v
 |l=> .tuple ⟨l⟩
def QT0 (P:Program) (rs:List ResultVar) (f:Fr) (w:World) (K:Value→World→Prop):Prop:=vresL P rs f w fun l w=>K (tup l) w
def rdR (a:Act):ResultVar→Sem Value
 | .tmp t=>pure (a.tmps.getD t undef)
 | .cell x t=>do loadVar t (←asAddr (a.tmps.getD x undef))
theorem kd0 {f:Fr} {a:Act} {w:World} (hs:Sim df n f a):∀(rs:List ResultVar) (K:List Value→World→Prop),vresL P rs f w K→
  ∃l,l.length=rs.length∧(rs.mapM (rdR a)).run P w= .ok l w∧K l w:=by
 intro rs
 induction rs with
 |nil=>intro K h;exact⟨[],rfl,rfl,h⟩
 |cons r rs g=>
  intro K h
  cases r with
  |tmp t=>
   obtain⟨l,d,e,c⟩:=g _ h
   refine⟨f t::l,by simp[d],?_,c⟩
   simp only[List.mapM_cons,rdR,Sem.run_bind,Sem.run_pure,Result.andThen_ok]
   rw[e]
   simp only[Result.andThen_ok,hs.at_]
  |cell x t=>
   obtain⟨v,w',b,hw,i⟩:=h
   obtain⟨l,d,e,c⟩:=g _ i
   subst hw
   refine⟨v::l,by simp[d],?_,c⟩
   rw[←hs.at_ x] at b
   simp only[List.mapM_cons,rdR,Sem.run_bind] at b⊢
   rw[b]
   simp only[Result.andThen_ok,e,Sem.run_pure]
theorem tup_eq (l:List Value):(if h:(l.toArray).size=1 then(l.toArray)[0] else Value.tuple l.toArray)=tup l:=by
 match l with
 |[]=>rfl
 |[v]=>rfl
 |a::b::r=>simp[tup]
theorem vres_sound {fn:Func} {f:Fr} {a:Act} {w:World} {K:Value→World→Prop} (h:QT0 P fn.results.toList f w K) (hs:Sim df n f a):
  ∃v,(results fn a.tmps).run P w= .ok v w∧K v w:=by
 obtain⟨l,_,d,c⟩:=kd0 (P:=P) hs _ _ h
 refine⟨tup l,?_,c⟩
 have e:fn.results=fn.results.toList.toArray:=rfl
 have b:results fn a.tmps=(do
   let vs ←fn.results.mapM (rdR a)
   pure (if h:vs.size=1 then vs[0] else .tuple vs)):=by
  unfold results
  congr 2
 rw[b,e,List.mapM_toArray]
 simp only[Sem.run_bind,Sem.run_map]
 rw[d]
 simp only[Result.andThen_ok,Sem.run_pure]
 rw[tup_eq]
def retF (P:Program) (rs:List ResultVar) (K:Value→World→Prop) (e:Exit) (f:Fr) (w:World):Prop:=
 match e with
 | .normal=>QT0 P rs f w K
 | .ret=>QT0 P rs f w K
 |_=>False
def nthV:List Value→Fr
 |[],_=>undef
 |v::_,0=>v
 |_::l,t+1=>nthV l t
theorem Qw0 (l:List Value) (t:Nat):nthV l t=l.getD t undef:=by
 induction l generalizing t with
 |nil=>simp[nthV]
 |cons v l a=>cases t<;>simp[nthV,a]
theorem sim_enter (args:List Value) (m:Nat) (h:args.length≤m):
  Sim [] m (nthV args) {tmps:=(args.toArray)++Array.replicate (m-args.toArray.size) undef,defers:=[]}:=by
 refine⟨by simp;omega,rfl,fun t=>?_⟩
 rw[Qw0]
 simp only[Array.getD_eq_getD_getElem?,List.getD_eq_getElem?_getD]
 rw[Array.getElem?_append]
 split
 ·simp
 ·rename_i a
  simp only[List.size_toArray,Nat.not_lt] at a
  rw[List.getElem?_eq_none a]
  rw[Array.getElem?_replicate]
  split<;>rfl
theorem Zq0 {g:Nat} {fn:Func} {c:Code} {args:List Value} {w:World} {K:Value→World→Prop} (hm:P.follows .mixedOrders=true) (m:P.funcs[g]?=some fn) (k:fn.body=some c)
  (p:fn.ntmps=n) (o:okFn P g=true) (d:okC n T c=true) (hlen:Nat.ble args.length n=true)
  (h:vc P T c (retF P fn.results.toList K) (nthV args) w):vcall P g args.toArray w K:=by
 refine⟨o,callsIn_wide (n:=0).1 (callsIn_of_wp m k trivial ?_)⟩
 rw[p]
 refine wpIn_mono (vc_sound hm c _ _ _ w d h (sim_enter args n (Nat.le_of_ble_eq_true hlen)) (fun l f w h=>h)) ?_
 rintro e q w' ⟨r,a,_,b⟩
 cases e with
 |normal=>obtain⟨v,i,j⟩:=vres_sound b a;exact⟨a.defers,v,i,j⟩
 |ret=>obtain⟨v,i,j⟩:=vres_sound b a;exact⟨a.defers,v,i,j⟩
 |_=>exact b.elim
end
def Je0 (P:Program) (T:Ann) (g:Nat) (fn:Func) (args:List Value):Bool:=okFn P g&&okC fn.ntmps T (fn.body.getD .skip)&&Nat.ble args.length fn.ntmps&&fn.body.isSome&&P.follows .mixedOrders
theorem zo {P:Program} (T:Ann) {g:Nat} {fn:Func} {args:List Value} {w:World} {K:Value→World→Prop} {F:Prop} (k:P.funcs[g]?=some fn) (a:Je0 P T g fn args=true)
  (hF:vc P T (fn.body.getD .skip) (retF P fn.results.toList K) (nthV args) w=F) (h:F):vcall P g args.toArray w K:=by
 simp only[Je0,Bool.and_eq_true] at a
 obtain⟨⟨⟨⟨e,b⟩,f⟩,i⟩,j⟩:=a
 obtain⟨c,d⟩:=Option.isSome_iff_exists.1 i
 have he:fn.body.getD .skip=c:=by rw[d];rfl
 rw[he] at b hF
 exact Zq0 j k d rfl e b f (hF▸h)
theorem YX {z:List Value} {w:World} {B:(List Value→World→Prop)→List Value→Fr→World→Prop} (I:Nat→List Value→World→Prop) (n:Nat) (c:I n z w)
  (h:∀n u g w' C,I n u w'→(∀m b w'',m<n→I m b w''→C b w'')→B C u g w'):yJ z w B:=
 ⟨I,⟨n,c⟩,fun n u g w' d=>h n u g w' _ d fun m _ _ a hm=>⟨m,a,hm⟩⟩
theorem vloop_up {z:List Value} {w:World} {B:(List Value→World→Prop)→List Value→Fr→World→Prop} (N:Nat) (I:Nat→List Value→World→Prop) (d:I 0 z w)
  (h:∀k u g w' C,k≤N→I k u w'→(k<N→∀a w'',I (k+1) a w''→C a w'')→B C u g w'):yJ z w B:=by
 refine YX (fun n u w=> ∃k,k≤N∧n=N-k∧I k u w) N ⟨0,Nat.zero_le _,by omega,d⟩ ?_
 rintro n u g w' C ⟨k,i,rfl,f⟩ e
 exact h k u g w' C i f fun c a w'' b=>e (N-(k+1)) a w'' (by omega) ⟨k+1,c,rfl,b⟩
theorem zI {A:(List Value→World→Prop)→Prop} {B:List Value→Fr→World→Prop} (J:List Value→World→Prop)
  (a:∀C,(∀u w,J u w→C u w)→A C) (b:∀u g w,J u w→B u g w):yF A B:=⟨J,a J fun _ _ h=>h,b⟩
end Go.Vc
end
section
namespace Go.Vc
open Go
section
variable {P:Program} {w:World} {K:Value→World→Prop}
theorem yH {α:Type} {s:Sem α} {K:α→World→Prop} {v:α} {w':World} (h:s.run P w= .ok v w'):Wf P s w K=K v w':=by
 apply propext
 constructor
 ·rintro⟨a,b,c,k⟩
  rw[h] at c
  cases c
  exact k
 ·exact fun k=>⟨_,_,h,k⟩
@[push_cast] theorem vif_t (A B:Prop):vif (.bool true) A B=A:=rfl
@[push_cast] theorem vif_f (A B:Prop):vif (.bool false) A B=B:=rfl
theorem zh {p:Prop} [Decidable p] {A B:Prop} (h:p→A) (b: ¬p→B):vif (.bool (decide p)) A B:=by
 by_cases a:p
 ·rw[decide_eq_true a];exact h a
 ·rw[decide_eq_false a];exact b a
theorem y3 {b:Bool} {A B:Prop} (h:b=true→A) (a:b=false→B):vif (.bool b) A B:=by
 cases b
 ·exact a rfl
 ·exact h rfl
@[push_cast] theorem vpick_t (a b:Value):vpick (.bool true) a b w K=K a w:=rfl
@[push_cast] theorem vpick_f (a b:Value):vpick (.bool false) a b w K=K b w:=rfl
@[push_cast] theorem vpick_bb (c x y:Bool):vpick (.bool c) (.bool x) (.bool y) w K=K (.bool (if c then x else y)) w:=by cases c<;>rfl
@[push_cast] theorem kC0 (a:Addr):vnil P (.pointer (some a)) w K=K (.pointer (some a)) w:=propext ⟨fun h=>h.h,fun h=>⟨h⟩⟩
@[push_cast] theorem Qk0 (g:Nat) (a b args:Array Value):vcallv P (.func (.func g) a b) args w K=vcall P g ⟨(a.toList++args.toList)++b.toList⟩ w K:=rfl
@[push_cast] theorem vun_not (b:Bool):vun P .not (.bool b) w K=K (.bool (!b)) w:=yH rfl
@[push_cast] theorem vun_neg (k:IntKind) (n:Int):vun P .neg (.int k n) w K=K (.int k (k.wrap (0-n))) w:=yH rfl
theorem yL {op:BinOp} {t:TypeId} {c:Bool} {a b v:Value} (d:(eqG op t c a b).run P w= .ok () w) (e:(binOp op t a b).run P w= .ok v w):
  zq P op t c a b w K=K v w:=yH (by simp only[Sem.run_bind,d,Result.andThen_ok,e])
@[push_cast] theorem kI0 (t:TypeId) (c:Bool) (k:IntKind) (a b:Int):zq P .add t c (.int k a) (.int k b) w K=K (.int k (k.wrap (a+b))) w:=yL rfl (by simp[binOp,Op.intArith])
@[push_cast] theorem Wi (t:TypeId) (c:Bool) (k:IntKind) (a b:Int):zq P .sub t c (.int k a) (.int k b) w K=K (.int k (k.wrap (a-b))) w:=yL rfl (by simp[binOp,Op.intArith])
@[push_cast] theorem kH0 (t:TypeId) (c:Bool) (k:IntKind) (a b:Int):zq P .mul t c (.int k a) (.int k b) w K=K (.int k (k.wrap (a*b))) w:=yL rfl (by simp[binOp,Op.intArith])
@[push_cast] theorem Xc0 (t:TypeId) (c:Bool) (k:IntKind) (a b:Int):zq P .lss t c (.int k a) (.int k b) w K=K (.bool (decide (a<b))) w:=yL rfl (by simp[binOp,Op.intCmp])
@[push_cast] theorem vbin_leq (t:TypeId) (c:Bool) (k:IntKind) (a b:Int):zq P .leq t c (.int k a) (.int k b) w K=K (.bool (decide (a≤b))) w:=yL rfl (by simp[binOp,Op.intCmp])
@[push_cast] theorem vbin_gtr (t:TypeId) (c:Bool) (k:IntKind) (a b:Int):zq P .gtr t c (.int k a) (.int k b) w K=K (.bool (decide (b<a))) w:=yL rfl (by simp[binOp,Op.intCmp])
@[push_cast] theorem vbin_geq (t:TypeId) (c:Bool) (k:IntKind) (a b:Int):zq P .geq t c (.int k a) (.int k b) w K=K (.bool (decide (b≤a))) w:=yL rfl (by simp[binOp,Op.intCmp])
@[push_cast] theorem Xd0 (t:TypeId) (c:Bool) (k:IntKind) (a b:Int):zq P .eql t c (.int k a) (.int k b) w K=K (.bool (decide (a=b))) w:=
 yL rfl (by simp[binOp,Op.intCmp];by_cases h:a=b<;>simp[h])
@[push_cast] theorem vbin_neq (t:TypeId) (c:Bool) (k:IntKind) (a b:Int):zq P .neq t c (.int k a) (.int k b) w K=K (.bool (decide (a≠b))) w:=
 yL rfl (by simp[binOp,Op.intCmp];by_cases h:a=b<;>simp[h])
theorem zE {x:Int} (h: -9223372036854775808≤x) (a:x≤9223372036854775807):IntKind.i64.wrap x=x:=IntWalk.i64_in x ⟨h,a⟩
@[push_cast] theorem X90 (a b:Value):zk P (.tuple #[a,b]) 0 w K=K a w:=yH rfl
@[push_cast] theorem X80 (a b:Value):zk P (.tuple #[a,b]) 1 w K=K b w:=yH rfl
@[push_cast] theorem ZS0 (a b c:Value):zk P (.tuple #[a,b,c]) 0 w K=K a w:=yH rfl
@[push_cast] theorem ZR0 (a b c:Value):zk P (.tuple #[a,b,c]) 1 w K=K b w:=yH rfl
@[push_cast] theorem ZQ0 (a b c:Value):zk P (.tuple #[a,b,c]) 2 w K=K c w:=yH rfl
@[push_cast] theorem vmkF_eq (fn:Fn) (a b:List Value):je0 P fn a b w K=K (.func fn ⟨a⟩ ⟨b⟩) w:=yH rfl
@[push_cast] theorem sl0 (a:Value) (l:List Value):sl 0 (a::l)=a:=rfl
@[push_cast] theorem sl1 (a b:Value) (l:List Value):sl 1 (a::b::l)=b:=rfl
@[push_cast] theorem sl2 (a b c:Value) (l:List Value):sl 2 (a::b::c::l)=c:=rfl
@[push_cast] theorem sl3 (a b c d:Value) (l:List Value):sl 3 (a::b::c::d::l)=d:=rfl
@[push_cast] theorem sl4 (a b c d e:Value) (l:List Value):sl 4 (a::b::c::d::e::l)=e:=rfl
@[push_cast] theorem sl5 (a b c d e f:Value) (l:List Value):sl 5 (a::b::c::d::e::f::l)=f:=rfl
@[push_cast] theorem sl6 (a b c d e f g:Value) (l:List Value):sl 6 (a::b::c::d::e::f::g::l)=g:=rfl
@[push_cast] theorem sl7 (a b c d e f g h:Value) (l:List Value):sl 7 (a::b::c::d::e::f::g::h::l)=h:=rfl
end
structure Same (S:Nat→Prop) (w w':World):Prop where
 os:w'.os=w.os
 tape:w'.tape=w.tape
 output:w'.output=w.output
 size:w.heap.size≤w'.heap.size
 block:∀b,b<w.heap.size→¬S b→w'.heap[b]?=w.heap[b]?
abbrev Ext (w w':World):Prop:=Same (fun _=>False) w w'
theorem Same.refl (S:Nat→Prop) (w:World):Same S w w:=⟨rfl,rfl,rfl,Nat.le_refl _,fun _ _ _=>rfl⟩
theorem Same.trans {S:Nat→Prop} {a b c:World} (h:Same S a b) (k:Same S b c):Same S a c:=
 ⟨k.os.trans h.os,k.tape.trans h.tape,k.output.trans h.output,Nat.le_trans h.size k.size,fun i hi hs=>(k.block i (Nat.lt_of_lt_of_le hi h.size) hs).trans (h.block i hi hs)⟩
theorem Same.mono {S S':Nat→Prop} {a b:World} (h:Same S a b) (hs:∀x,x<a.heap.size→S x→S' x):Same S' a b:=
 ⟨h.os,h.tape,h.output,h.size,fun i hi c=>h.block i hi (fun d=>c (hs i hi d))⟩
theorem Same.of_ext {S:Nat→Prop} {a b:World} (h:Ext a b):Same S a b:=h.mono fun _ _ h=>h.elim
theorem Ext.then {S:Nat→Prop} {a b c:World} (h:Ext a b) (k:Same S b c) (hs:∀x,S x→a.heap.size≤x):Ext a c:=
 ⟨k.os.trans h.os,k.tape.trans h.tape,k.output.trans h.output,Nat.le_trans h.size k.size,fun i hi _=>
  (k.block i (Nat.lt_of_lt_of_le hi h.size) (fun d=>by have:=hs i d;omega)).trans (h.block i hi id)⟩
theorem XO0 (w:World):Ext w {w with drawn:=w.drawn+1}:=⟨rfl,rfl,rfl,Nat.le_refl _,fun _ _ _=>rfl⟩
theorem Same.cell {S:Nat→Prop} {w w':World} (h:Same S w w') {a:Addr} (hs: ¬S a.block) {v:Value} (b:w.cell? a=some v):w'.cell? a=some v:=
 (World.cell?_of_block (h.block a.block (World.block_lt_of_cell? w a b) hs)).trans b
theorem zr {w:World} {K:World→Prop} (h:∀w',Ext w w'→w'.heap=w.heap→K w'):y0 w K:=h _ (XO0 w) rfl
section
variable {P:Program} {w:World} {K:Value→World→Prop}
def oneB (P:Program) (t:TypeId):Bool:=match P.underlying t with
 |some (.struct _)=>false
 |some (.array _ _)=>false
 |some _=>true
 |none=>false
def aggB (P:Program) (t:TypeId) (n:Nat):Bool:=(match P.underlying t with
 |some (.struct _)=>true
 |some (.array _ _)=>true
 |_=>false)&&(match P.info? t with|some i=>Nat.beq i.size n|none=>false)
theorem qe0 {t:TypeId} (h:oneB P t=true):(isAgg t).run P w= .ok false w:=by
 unfold oneB at h
 cases hu:P.underlying t with
 |none=>rw[hu] at h;cases h
 |some d=>rw[hu] at h;cases d<;>simp[isAgg,underlying,program,hu,Sem.run] at h⊢
theorem qf0 {t:TypeId} {n:Nat} (h:aggB P t n=true):(isAgg t).run P w= .ok true w:=by
 unfold aggB at h
 cases hu:P.underlying t with
 |none=>rw[hu] at h;simp at h
 |some d=>rw[hu] at h;cases d<;>simp[isAgg,underlying,program,hu,Sem.run] at h⊢
theorem KX {t:TypeId} {n:Nat} (h:aggB P t n=true):(sizeOf t).run P w= .ok n w:=by
 unfold aggB at h
 cases hi:P.info? t with
 |none=>rw[hi] at h;simp at h
 |some i=>
  rw[hi] at h
  simp only[Bool.and_eq_true] at h
  have:=Nat.eq_of_beq_eq_true h.2
  simp[sizeOf,typeInfo,program,hi,Sem.run,this]
theorem xY {t:TypeId} (b:oneB P t=true) {a:Addr} {v:Value} (h:w.cell? a=some v):ze P t (.pointer (some a)) w K=K v w:=by
 refine yH ?_
 simp only[Instr.loadAt,Instr.sureAddr,Sem.run_bind,Sem.run_pure,Result.andThen_ok,loadVar,qe0 b,Bool.false_eq_true,if_false]
 simp[load,Sem.run,h]
def Cells (w:World) (a:Addr) (cs:List Value):Prop:=∀i v,cs[i]?=some v→w.cell? (a.add i)=some v
theorem Uy {a:Addr}:∀(cs:List Value) (i:Nat) (acc:Array Value),(∀j v,cs[j]?=some v→w.cell? (a.add (i+j))=some v)→
  (loadCellsFrom a i cs.length acc).run P w= .ok (acc++cs.toArray) w:=by
 intro cs
 induction cs with
 |nil=>intro i acc _;simp[loadCellsFrom]
 |cons c cs f=>
  intro i acc h
  have b:=h 0 c (by simp)
  rw[Nat.add_zero] at b
  have e:(load (a.add i)).run P w= .ok c w:=by simp[load,Sem.run,b]
  simp only[List.length_cons,loadCellsFrom,Sem.run_bind,e,Result.andThen_ok]
  rw[f (i+1) (acc.push c) (fun j v d=>by have:=h (j+1) v (by simpa using d);rwa[Nat.add_assoc,Nat.add_comm 1 j])]
  simp
theorem y60 {t:TypeId} {cs:List Value} (b:aggB P t cs.length=true) {a:Addr} (h:Cells w a cs):ze P t (.pointer (some a)) w K=K (.agg cs.toArray) w:=by
 refine yH ?_
 have d:=Uy (P:=P) (w:=w) (a:=a) cs 0 #[] (fun j v c=>by rw[Nat.zero_add];exact h j v c)
 simp only[Instr.loadAt,Instr.sureAddr,Sem.run_bind,Sem.run_pure,Result.andThen_ok,loadVar,qf0 b,if_true,KX b,loadCells,d]
 simp
theorem Q10 {t:TypeId} {a:Addr} {v:Value} (h:ze P t (.pointer (some a)) w (fun x w'=>x=v∧w'=w)):vlv P t (.pointer (some a)) w K=K v w:=by
 obtain⟨x,w',c,rfl,rfl⟩:=h
 have b:(do loadVar t (←asAddr (.pointer (some a)))).run P w'= .ok x w':=by
  simpa[Instr.loadAt,Instr.sureAddr,asAddr] using c
 unfold vlv
 rw[yH b]
 simp
end
structure Sl (F:Nat→Prop) (w:World) (k:Nat) (v:Value) (xs:List (List Value)):Prop where
 shape:∃a c,v= .slice a xs.length c∧xs.length≤c∧c≤9223372036854775807∧
  (xs≠[]→∃b o,a=some ⟨b,o,none⟩∧F b∧b<w.heap.size∧∀i,i<xs.length→Cells w ⟨b,o+i*k,none⟩ (xs.getD i []))
 wide:∀x,x∈xs→x.length=k
def eaddr (v:Value) (k i:Nat):Addr:=match v with
 | .slice (some a) _ _=>⟨a.block,a.off+i*k,none⟩
 |_=>default
theorem xj (b o n:Nat):(⟨b,o,none⟩:Addr).add n=⟨b,o+n,none⟩:=by
 unfold Addr.add
 split
 ·simp[*]
 ·rfl
theorem Cells.same {S:Nat→Prop} {w w':World} {a:Addr} {cs:List Value} (h:Same S w w') (hs: ¬S a.block) (b:Cells w a cs):Cells w' a cs:=by
 intro i v c
 refine h.cell ?_ (b i v c)
 unfold Addr.add
 split<;>exact hs
theorem Sl.same {F S:Nat→Prop} {w w':World} {k:Nat} {v:Value} {xs:List (List Value)} (h:Sl F w k v xs) (hw:Same S w w') (hs:∀b,F b→b<w.heap.size→¬S b):Sl F w' k v xs:=by
 obtain⟨⟨a,c,p,m,hm,l⟩,n⟩:=h
 refine⟨⟨a,c,p,m,hm,fun f=>?_⟩,n⟩
 obtain⟨b,o,j,g,e,d⟩:=l f
 exact⟨b,o,j,g,Nat.lt_of_lt_of_le e hw.size,fun i hi=>(d i hi).same hw (hs b g e)⟩
theorem Sl.ext {F:Nat→Prop} {w w':World} {k:Nat} {v:Value} {xs:List (List Value)} (h:Sl F w k v xs) (hw:Ext w w'):Sl F w' k v xs:=h.same hw fun _ _ _ h=>h
theorem Sl.weaken {F F':Nat→Prop} {w:World} {k:Nat} {v:Value} {xs:List (List Value)} (h:Sl F w k v xs) (m:∀b,F b→b<w.heap.size→F' b):Sl F' w k v xs:=by
 obtain⟨⟨a,c,p,l,hm,j⟩,n⟩:=h
 refine⟨⟨a,c,p,l,hm,fun f=>?_⟩,n⟩
 obtain⟨b,o,i,g,e,d⟩:=j f
 exact⟨b,o,i,m b g e,e,d⟩
def isSl (P:Program) (t:TypeId):Bool:=match P.underlying t with
 |some (.slice _)=>true
 |_=>false
theorem qn0 {P:Program} {t:TypeId} (h:isSl P t=true):∃e,P.underlying t=some (.slice e):=by
 unfold isSl at h
 split at h
 ·rename_i e hu;exact⟨e,hu⟩
 ·cases h
def jH (P:Program) (e n:Nat):Bool:=match P.info? e with|some i=>Nat.beq i.size n|none=>false
def elB (P:Program) (t k:Nat):Bool:=match P.underlying t with
 |some (.slice e)=>jH P e k
 |_=>false
theorem Qd0 {P:Program} {t k:Nat} (h:elB P t k=true):∃e,P.underlying t=some (.slice e)∧jH P e k=true:=by
 unfold elB at h
 split at h
 ·rename_i e hu;exact⟨e,hu,h⟩
 ·cases h
section
variable {P:Program} {F:Nat→Prop} {w w':World} {K:Value→World→Prop} {k:Nat} {v:Value} {xs:List (List Value)}
theorem run_sizeOf {e n:Nat} (h:jH P e n=true):(sizeOf e).run P w= .ok n w:=by
 unfold jH at h
 cases hi:P.info? e with
 |none=>rw[hi] at h;cases h
 |some i=>rw[hi] at h;have:=Nat.eq_of_beq_eq_true h;simp[sizeOf,typeInfo,program,hi,Sem.run,this]
theorem qh {t:TypeId} {d:TypeDesc} (h:P.underlying t=some d):(underlying t).run P w= .ok d w:=by simp[underlying,program,h,Sem.run]
theorem Sl.len (h:Sl F w k v xs) {t:TypeId} (b:isSl P t=true) (ty:TypeId):vbi P .len [t] ty [v] w' K=K (.int .i64 xs.length) w':=by
 obtain⟨a,c,d,_⟩:=h.shape
 obtain⟨e,he⟩:=qn0 b
 subst d
 refine yH ?_
 simp[biSem,Builtin.len_,qh he,goInt]
theorem Sl.iaddr (h:Sl F w k v xs) {t:TypeId} (l:elB P t k=true) {kd:IntKind} {i:Int} (f:0≤i) (d:i<xs.length):
  zm P t v (.int kd i) w' K=K (.pointer (some (eaddr v k i.toNat))) w':=by
 obtain⟨a,c,m,_,_,j⟩:=h.shape
 obtain⟨b,o,g,_⟩:=j (by intro e;subst e;simp at d;omega)
 obtain⟨e,he,hs⟩:=Qd0 l
 subst g
 subst m
 refine yH ?_
 simp[Instr.indexAt,asIntOf,qh he,f,d,run_sizeOf hs,eaddr,xj]
theorem Sl.cells (h:Sl F w k v xs) {i:Nat} (hi:i<xs.length):Cells w (eaddr v k i) (xs.getD i []):=by
 obtain⟨a,c,j,_,_,f⟩:=h.shape
 obtain⟨b,o,d,_,_,g⟩:=f (by intro e;subst e;simp at hi)
 subst d
 subst j
 exact g i hi
end
def Blk (w:World) (b:Nat) (cs:List Value) (t:TypeId):Prop:=w.heap[b]?=some (.cells ⟨cs⟩ t (0,0))
theorem Blk.lt {w:World} {b:Nat} {cs:List Value} {t:TypeId} (h:Blk w b cs t):b<w.heap.size:=(Array.getElem?_eq_some_iff.1 h).1
theorem Blk.same {S:Nat→Prop} {w w':World} {b:Nat} {cs:List Value} {t:TypeId} (h:Blk w b cs t) (hw:Same S w w') (hs: ¬S b):Blk w' b cs t:=
 (hw.block b h.lt hs).trans h
theorem Blk.ext {w w':World} {b:Nat} {cs:List Value} {t:TypeId} (h:Blk w b cs t) (hw:Ext w w'):Blk w' b cs t:=h.same hw id
theorem Blk.cell {w:World} {b:Nat} {cs:List Value} {t:TypeId} (h:Blk w b cs t) {i:Nat} {v:Value} (a:cs[i]?=some v):w.cell? ⟨b,i,none⟩=some v:=by
 unfold World.cell?
 rw[show w.heap[(⟨b,i,none⟩:Addr).block]?=_ from h]
 simpa using a
theorem Blk.frozen {w:World} {b:Nat} {cs:List Value} {t:TypeId} (h:Blk w b cs t) (a:Addr) (c:a.block=b):w.frozen? a=false:=by
 unfold World.frozen?
 rw[c,show w.heap[b]?=_ from h]
 simp
section
variable {P:Program} {w:World} {K:Value→World→Prop} {b:Nat} {cs:List Value} {t0:TypeId}
@[push_cast] theorem blt_zero {α:Type} (a:α) (l:List α):Nat.blt 0 (a::l).length=true:=rfl
@[push_cast] theorem blt_succ {α:Type} (n:Nat) (a:α) (l:List α):Nat.blt (n+1) (a::l).length=Nat.blt n l.length:=rfl
theorem getD_some {cs:List Value} {i:Nat} (hi:Nat.blt i cs.length=true):cs[i]?=some (cs.getD i undef):=by
 have:i<cs.length:=by simpa[Nat.blt_eq] using hi
 simp[List.getD_eq_getElem?_getD,this]
theorem Blk.ld0 {a:Value} {r:List Value} (h:Blk w b (a::r) t0) {t:TypeId} (c:oneB P t=true):ze P t (.pointer (some ⟨b,0,none⟩)) w K=K a w:=xY c (h.cell rfl)
theorem Blk.ld1 {d a:Value} {r:List Value} (h:Blk w b (d::a::r) t0) {t:TypeId} (c:oneB P t=true):ze P t (.pointer (some ⟨b,1,none⟩)) w K=K a w:=xY c (h.cell rfl)
theorem Blk.ld2 {d e a:Value} {r:List Value} (h:Blk w b (d::e::a::r) t0) {t:TypeId} (c:oneB P t=true):ze P t (.pointer (some ⟨b,2,none⟩)) w K=K a w:=xY c (h.cell rfl)
theorem Blk.ld3 {d e f a:Value} {r:List Value} (h:Blk w b (d::e::f::a::r) t0) {t:TypeId} (c:oneB P t=true):ze P t (.pointer (some ⟨b,3,none⟩)) w K=K a w:=xY c (h.cell rfl)
theorem Blk.ld4 {d e f g a:Value} {r:List Value} (h:Blk w b (d::e::f::g::a::r) t0) {t:TypeId} (c:oneB P t=true):ze P t (.pointer (some ⟨b,4,none⟩)) w K=K a w:=xY c (h.cell rfl)
theorem Blk.ldAgg (h:Blk w b cs t0) {t:TypeId} (a:aggB P t cs.length=true):ze P t (.pointer (some ⟨b,0,none⟩)) w K=K (.agg ⟨cs⟩) w:=
 y60 a fun i v c=>by rw[xj,Nat.zero_add];exact h.cell c
theorem Blk.lv (h:Blk w b cs t0) {t:TypeId} (a:aggB P t cs.length=true):vlv P t (.pointer (some ⟨b,0,none⟩)) w K=K (.agg ⟨cs⟩) w:=
 Q10 (by rw[h.ldAgg a];exact⟨rfl,rfl⟩)
def yT (P:Program) (t:TypeId) (z:Value):Prop:=(match P.info? t with|some i=>i.zero|none=>none)=some z
theorem Ka {t:TypeId} {z:Value} (h:yT P t z):(zeroValue t).run P w= .ok z w:=by
 unfold yT at h
 cases hi:P.info? t with
 |none=>rw[hi] at h;cases h
 |some i=>rw[hi] at h;simp[zeroValue,typeInfo,program,hi,Sem.run,h]
theorem ext_push (w:World) (o:Obj):Ext w {w with heap:=w.heap.push o}:=
 ⟨rfl,rfl,rfl,by simp,fun i hi _=>by rw[Array.getElem?_push,if_neg (by show i≠w.heap.size;omega)]⟩
theorem WQ (w:World) (cs:List Value) (t:TypeId):Blk {w with heap:=w.heap.push (.cells ⟨cs⟩ t)} w.heap.size cs t:=by simp[Blk]
theorem Zg {t:TypeId} {v:Value} (h:∀b w',b=w.heap.size→Ext w w'→w'.heap.size=w.heap.size+1→Blk w' b v.cells.toList t→K (.pointer (some ⟨b,0,none⟩)) w'):yo P t v w K:=by
 refine⟨_,_,?_,h w.heap.size {w with heap:=w.heap.push (.cells ⟨v.cells.toList⟩ t)} rfl (ext_push w _) (by simp) (WQ w _ t)⟩
 simp[Instr.box,newVar,newRow,newObj,Sem.run]
theorem XH {t:TypeId} {z:Value} (a:yT P t z) (h:∀b w',b=w.heap.size→Ext w w'→w'.heap.size=w.heap.size+1→Blk w' b z.cells.toList t→K (.pointer (some ⟨b,0,none⟩)) w'):zJ P t w K:=by
 refine⟨_,_,?_,h w.heap.size {w with heap:=w.heap.push (.cells ⟨z.cells.toList⟩ t)} rfl (ext_push w _) (by simp) (WQ w _ t)⟩
 simp[Instr.alloc,Ka a,newVar,newRow,newObj,Sem.run]
theorem Blk.st (h:Blk w b cs t0) {t:TypeId} {v:Value} (l:v.cells= #[v]) (a:v.oneCell'=true) (m:jH P t 1=true) {i:Nat} (hi:Nat.blt i cs.length=true)
  (c:∀w',Same (· =b) w w'→w'.heap.size=w.heap.size→Blk w' b (cs.set i v) t0→K undef w'):zl P t (.pointer (some ⟨b,i,none⟩)) v w K:=by
 have f:=h.cell (getD_some hi)
 have g:=h.frozen ⟨b,i,none⟩ rfl
 have d:(⟨b,i,none⟩:Addr).add 0=⟨b,i,none⟩:=rfl
 refine⟨(),w.setCell ⟨b,i,none⟩ v,?_,c _ ⟨rfl,rfl,rfl,by simp,fun k _ j=>?_⟩ (by simp) ?_⟩
 ·simp only[Instr.storeAt,Instr.sureAddr,Sem.run_bind,Sem.run_pure,Result.andThen_ok,storeVar,run_sizeOf m,l]
  cases v<;>first|(cases a;done)|simp[storeCells,store,Sem.run,d,f,g]
 ·simp only[World.setCell,Array.getElem?_modify]
  rw[if_neg (fun e=>j e.symm)]
 ·unfold Blk at h⊢
  simp only[World.setCell,Array.getElem?_modify,if_true,h]
  simp
def fieldB (P:Program) (s f off:Nat):Bool:=match P.underlying s with
 |some (.struct fs)=>match fs[f]? with
  |some x=>Nat.beq x.offset off&&(match P.info? x.type with|some i=> !Nat.beq i.size 0 |none=>false)
  |none=>false
 |_=>false
theorem yl {s f off:Nat} (h:fieldB P s f off=true) (a:Addr):zi P s (.pointer (some a)) f w K=K (.pointer (some (a.add off))) w:=by
 unfold fieldB at h
 cases hu:P.underlying s with
 |none=>rw[hu] at h;cases h
 |some d=>
  rw[hu] at h
  cases d with
  |struct fs=>
   simp only at h
   cases g:fs[f]? with
   |none=>rw[g] at h;cases h
   |some x=>
    rw[g] at h
    simp only[Bool.and_eq_true] at h
    obtain⟨j,b⟩:=h
    have c:=Nat.eq_of_beq_eq_true j
    cases hi:P.info? x.type with
    |none=>rw[hi] at b;cases b
    |some i=>
     rw[hi] at b
     have k:i.size≠0:=by intro e;simp[e] at b
     refine yH ?_
     simp[Instr.fieldAt,qh hu,g,Instr.sureAddr,fieldPlace,sizeOf,typeInfo,program,hi,Sem.run,k,c]
  |_=>simp at h
end
attribute [push_cast] xj List.getD_cons_zero List.getD_cons_succ Nat.zero_add List.set_cons_zero List.set_cons_succ Value.cells
end Go.Vc
end
section
namespace Go.Vc
open Go
attribute [push_cast] Int.toNat_natCast
def Vals (F:Nat→Prop) (w:World) (v:Value) (vs:List Value):Prop:=Sl F w 1 v (vs.map fun x=>[x])
def Ints (F:Nat→Prop) (w:World) (v:Value) (xs:List Int):Prop:=Vals F w v (xs.map fun x=> .int .i64 x)
def Bools (F:Nat→Prop) (w:World) (v:Value) (xs:List Bool):Prop:=Vals F w v (xs.map fun x=> .bool x)
section
variable {P:Program} {F F' S:Nat→Prop} {w w':World} {K:Value→World→Prop} {v:Value} {vs:List Value} {xs:List Int} {bs:List Bool} {xss:List (List Int)}
theorem Vals.ext (h:Vals F w v vs) (hw:Ext w w'):Vals F w' v vs:=Sl.ext h hw
theorem Vals.same (h:Vals F w v vs) (hw:Same S w w') (hs:∀b,F b→b<w.heap.size→¬S b):Vals F w' v vs:=Sl.same h hw hs
theorem Vals.weaken (h:Vals F w v vs) (a:∀b,F b→b<w.heap.size→F' b):Vals F' w v vs:=Sl.weaken h a
theorem Vals.len (h:Vals F w v vs) {t:TypeId} (a:isSl P t=true) (ty:TypeId):vbi P .len [t] ty [v] w' K=K (.int .i64 vs.length) w':=by
 have:=Sl.len (K:=K) (w':=w') h a ty;rwa[List.length_map] at this
theorem Vals.iaddr (h:Vals F w v vs) {t:TypeId} (c:elB P t 1=true) {kd:IntKind} {i:Int} (a:0≤i) (b:i<vs.length):
  zm P t v (.int kd i) w' K=K (.pointer (some (eaddr v 1 i.toNat))) w':=Sl.iaddr h c a (by rw[List.length_map];exact b)
theorem Vals.load (h:Vals F w v vs) {e:TypeId} (he:oneB P e=true) {i:Nat} (hi:i<vs.length):ze P e (.pointer (some (eaddr v 1 i))) w K=K (vs.getD i undef) w:=by
 have a:=Sl.cells h (i:=i) (by rw[List.length_map];exact hi)
 have:=a 0 (vs.getD i undef) (by simp[List.getD_eq_getElem?_getD,hi])
 exact xY he this
theorem Ints.ext (h:Ints F w v xs) (hw:Ext w w'):Ints F w' v xs:=Vals.ext h hw
theorem Ints.same (h:Ints F w v xs) (hw:Same S w w') (hs:∀b,F b→b<w.heap.size→¬S b):Ints F w' v xs:=Vals.same h hw hs
theorem Ints.weaken (h:Ints F w v xs) (a:∀b,F b→b<w.heap.size→F' b):Ints F' w v xs:=Vals.weaken h a
theorem Ints.len (h:Ints F w v xs) {t:TypeId} (a:isSl P t=true) (ty:TypeId):vbi P .len [t] ty [v] w' K=K (.int .i64 xs.length) w':=by
 have:=Vals.len (K:=K) (w':=w') h a ty;rwa[List.length_map] at this
theorem Ints.iaddr (h:Ints F w v xs) {t:TypeId} (c:elB P t 1=true) {kd:IntKind} {i:Int} (a:0≤i) (b:i<xs.length):
  zm P t v (.int kd i) w' K=K (.pointer (some (eaddr v 1 i.toNat))) w':=Vals.iaddr h c a (by rw[List.length_map];exact b)
theorem jt0 {i:Nat} (hi:i<xs.length):(xs.map fun x=>Value.int .i64 x).getD i undef= .int .i64 (xs.getD i 0):=by
 simp[List.getD_eq_getElem?_getD,hi]
theorem Ints.load (h:Ints F w v xs) {e:TypeId} (he:oneB P e=true) {i:Nat} (hi:i<xs.length):ze P e (.pointer (some (eaddr v 1 i))) w K=K (.int .i64 (xs.getD i 0)) w:=by
 rw[Vals.load h he (by rw[List.length_map];exact hi),jt0 hi]
theorem Bools.ext (h:Bools F w v bs) (hw:Ext w w'):Bools F w' v bs:=Vals.ext h hw
theorem Bools.len (h:Bools F w v bs) {t:TypeId} (a:isSl P t=true) (ty:TypeId):vbi P .len [t] ty [v] w' K=K (.int .i64 bs.length) w':=by
 have:=Vals.len (K:=K) (w':=w') h a ty;rwa[List.length_map] at this
theorem Bools.iaddr (h:Bools F w v bs) {t:TypeId} (c:elB P t 1=true) {kd:IntKind} {i:Int} (a:0≤i) (b:i<bs.length):
  zm P t v (.int kd i) w' K=K (.pointer (some (eaddr v 1 i.toNat))) w':=Vals.iaddr h c a (by rw[List.length_map];exact b)
theorem Bools.load (h:Bools F w v bs) {e:TypeId} (he:oneB P e=true) {i:Nat} (hi:i<bs.length):ze P e (.pointer (some (eaddr v 1 i))) w K=K (.bool (bs.getD i false)) w:=by
 rw[Vals.load h he (by rw[List.length_map];exact hi)]
 simp[List.getD_eq_getElem?_getD,hi]
def FnB (P:Program) (w0:World) (f:Value) (args:Array Value) (b:Bool):Prop:=
 ∀(w':World) (K:Value→World→Prop),Ext w0 w'→(∀w'',Ext w' w''→K (.bool b) w'')→vcallv P f args w' K
def idxI (n:Nat) (p:Nat→Bool):Int:=match(List.range n).find? p with|some i=>i|none=> -1
theorem idxI_some {n i:Nat} {p:Nat→Bool} (hi:i<n) (c:p i=true) (b:∀j,j<i→p j=false):idxI n p=i:=by
 have:(List.range n).find? p=some i:=by
  rw[List.find?_eq_some_iff_append]
  refine⟨c,List.range i,(List.range' (i+1) (n-(i+1))),?_,fun j a=>by simp[b j (List.mem_range.1 a)]⟩
  rw[List.range_eq_range',List.range_eq_range',show n=i+(n-(i+1)+1) from by omega,←List.range'_append_1,List.range'_succ]
  simp
  omega
 simp[idxI,this]
theorem yo0 {n:Nat} {p:Nat→Bool} (b:∀j,j<n→p j=false):idxI n p= -1:=by
 have:(List.range n).find? p=none:=by rw[List.find?_eq_none];intro j a;simp[b j (List.mem_range.1 a)]
 simp[idxI,this]
theorem VO {n:Nat} {p:Nat→Bool}:decide (0≤idxI n p)=(List.range n).any p:=by
 unfold idxI
 cases h:(List.range n).find? p with
 |none=>
  rw[List.find?_eq_none] at h
  have:(List.range n).any p=false:=by rw[List.any_eq_false];exact h
  simp[this]
 |some i=>
  have a:=List.find?_some h
  have b:=List.mem_of_find?_eq_some h
  have:(List.range n).any p=true:=List.any_eq_true.2 ⟨i,b,a⟩
  simp[this]
end
end Go.Vc
end
section
namespace Go.Vc
open Go
def elZ (P:Program) (t k bs:Nat):Bool:=match P.underlying t with
 |some (.slice e)=>match P.info? e with
  |some i=>Nat.beq i.size k&&Nat.beq i.bytes bs&&(match i.zero with|some z=>Nat.beq z.cells.size k|none=>false)
  |none=>false
 |_=>false
def VR (P:Program) (t:TypeId):TypeId:=match P.underlying t with|some (.slice e)=>e|_=>0
theorem kX0 {P:Program} {t k bs:Nat} (h:elZ P t k bs=true):P.underlying t=some (.slice (VR P t))∧∃i z,P.info? (VR P t)=some i∧i.zero=some z∧i.size=k∧i.bytes=bs∧z.cells.size=k:=by
 unfold elZ at h
 unfold VR
 split at h
 ·rename_i e hu
  rw[hu]
  refine⟨rfl,?_⟩
  split at h
  ·rename_i i hi
   simp only[Bool.and_eq_true] at h
   obtain⟨⟨b,c⟩,a⟩:=h
   split at a
   ·rename_i z d
    exact⟨i,z,hi,d,Nat.eq_of_beq_eq_true b,Nat.eq_of_beq_eq_true c,Nat.eq_of_beq_eq_true a⟩
   ·cases a
  ·cases h
 ·cases h
structure Own (P:Program) (base k:Nat) (t:TypeId) (w:World) (v:Value) (xs:List (List Value)):Prop where
 row:w.ownsRow base (VR P t) k v xs.length xs.flatten
 wide:∀x,x∈xs→x.length=k
theorem flatten_len {k:Nat}:∀{xs:List (List Value)},(∀x,x∈xs→x.length=k)→xs.flatten.length=xs.length*k
 |[],_=>by simp
 |x::r,h=>by
  rw[List.flatten_cons,List.length_append,h x List.mem_cons_self,flatten_len fun y a=>h y (List.mem_cons_of_mem _ a),List.length_cons,Nat.add_mul]
  omega
theorem flatten_get {k:Nat}:∀{xs:List (List Value)} (_:∀x,x∈xs→x.length=k) {i j:Nat},i<xs.length→j<k→xs.flatten[i*k+j]?=(xs.getD i [])[j]?
 |[],_,i,j,hi,_=>by simp at hi
 |x::r,h,i,j,hi,a=>by
  have c:=h x List.mem_cons_self
  rw[List.flatten_cons]
  cases i with
  |zero=>rw[Nat.zero_mul,Nat.zero_add,List.getElem?_append_left (by omega)];simp
  |succ i=>
   rw[List.getElem?_append_right (by rw[Nat.add_mul];omega)]
   have e:(i+1)*k+j-x.length=i*k+j:=by rw[Nat.add_mul];omega
   rw[e,flatten_get (fun y b=>h y (List.mem_cons_of_mem _ b)) (by simpa using hi) a]
   simp
theorem flat1:∀(cs:List Value),(cs.map fun x=>[x]).flatten=cs
 |[]=>rfl
 |c::cs=>by rw[List.map_cons,List.flatten_cons,flat1 cs];rfl
section
variable {P:Program} {base k:Nat} {t:TypeId} {w w':World} {v:Value} {xs ys:List (List Value)} {K:Value→World→Prop}
theorem Own.nil (P:Program) (base k:Nat) (t:TypeId) (w:World):Own P base k t w (.slice none 0 0) []:=⟨World.ownsRow_nil w base _ k,fun x a=>by cases a⟩
theorem Own.lt (h:Own P base k t w v xs) {b:Nat} (a:v.ownBlock=some b):base≤b∧b<w.heap.size:=h.row.lt b a
theorem Own.same {S:Nat→Prop} (h:Own P base k t w v xs) (hw:Same S w w') (hs:∀b,v.ownBlock=some b→¬S b):Own P base k t w' v xs:=by
 refine⟨⟨h.row.1,?_⟩,h.wide⟩
 rcases h.row.2 with d|⟨g,cap,cur,rfl,c,a,rest⟩
 ·exact .inl d
 ·exact .inr ⟨g,cap,cur,rfl,c,(hw.block g (Array.getElem?_eq_some_iff.1 a).1 (hs g rfl)).trans a,rest⟩
theorem Own.ext (h:Own P base k t w v xs) (hw:Ext w w'):Own P base k t w' v xs:=h.same hw fun _ _ h=>h
theorem Own.sl (h:Own P base k t w v xs):Sl (fun b=>v.ownBlock=some b) w k v xs:=by
 refine⟨?_,h.wide⟩
 rcases h.row.2 with⟨rfl,l⟩|⟨g,cap,cur,rfl,q,n,c,a,m,e⟩
 ·exact⟨none,0,by rw[l],by omega,by omega,fun d=>absurd (List.eq_nil_of_length_eq_zero l) d⟩
 ·refine⟨_,cap,rfl,c,by simpa[maxLen] using a,fun _=>⟨g,0,rfl,rfl,(Array.getElem?_eq_some_iff.1 n).1,fun i hi j u hu=>?_⟩⟩
  have o:j<k:=by
   have p:xs.getD i []∈xs:=by rw[List.getD_eq_getElem?_getD,List.getElem?_eq_getElem hi];exact List.getElem_mem hi
   have:=h.wide _ p
   rw[←this];exact(List.getElem?_eq_some_iff.1 hu).1
  have f:=flatten_get h.wide hi o
  rw[hu] at f
  have:=h.row.cells (g:=g) rfl (i*k+j) u f
  rw[xj] at this⊢
  rwa[Nat.zero_add] at this⊢
theorem Same.of_grown {row:Option Nat} (h:w.grownBy w' row):Same (fun b=>row=some b) w w':=
 ⟨h.os,h.tape,h.output,h.size,fun b a hs=>h.block b a (fun e=>hs e.symm)⟩
theorem vappend {bs ty:Nat} {F:Nat→Prop} {x:Value} (hT:elZ P t k bs=true) (hk:0<k) (h:Own P base k t w v xs) (hs:Sl F w k x ys) (J:∀y,y∈ys→∀c,c∈y→c.oneCell'=true)
  (B:base≤w.heap.size) (M:xs.length+ys.length≤9223372036854775807) (hlen:(xs.length+ys.length)*bs≤140737488355328)
  (N:∀v' w',Own P base k t w' v' (xs++ys)→Same (fun b=>v.ownBlock=some b) w w'→(∀b,v'.ownBlock=some b→v.ownBlock=some b∨w.heap.size≤b)→K v' w'):vbi P .append [t,t] ty [v,x] w K:=by
 obtain⟨hu,i,z,hi,X,L,C,Y⟩:=kX0 hT
 obtain⟨a,c,rfl,a0,a1,n⟩:=hs.shape
 have r:∀y,y∈xs++ys→y.length=k:=fun y V=>(List.mem_append.1 V).elim (h.wide y) (hs.wide y)
 by_cases p:ys=[]
 ·subst p
  have e:Own P base k t w v (xs++[]):=by rw[List.append_nil];exact h
  rcases h.row.2 with⟨rfl,hn⟩|⟨g,cap,cur,rfl,Q,hg,I,D,E,q⟩
  ·refine⟨_,_,?_,N _ w e (Same.refl _ w) fun b B=> .inl B⟩
   cases a<;>simp[biSem,Builtin.append_,qh hu,sizeOf,typeInfo,program,hi,Sem.run,Builtin.lenOf,Builtin.firstCells,loadCells,loadCellsFrom]
  ·refine⟨_,_,?_,N _ w e (Same.refl _ w) fun b B=> .inl B⟩
   cases a<;>simp[biSem,Builtin.append_,qh hu,sizeOf,typeInfo,program,hi,Sem.run,Builtin.lenOf,Builtin.firstCells,loadCells,loadCellsFrom,storeCells,I]
 ·obtain⟨b,o,rfl,_,a2,R⟩:=n p
  have d:∀j u,ys.flatten[j]?=some u→w.cell? ((⟨b,o,none⟩:Addr).add j)=some u:=by
   intro j u H
   have T:j<ys.length*k:=by rw[←flatten_len hs.wide];exact(List.getElem?_eq_some_iff.1 H).1
   have hq:j/k<ys.length:=Nat.div_lt_of_lt_mul (by rwa[Nat.mul_comm] at T)
   have s:j%k<k:=Nat.mod_lt _ hk
   have hj:j/k*k+j%k=j:=Nat.div_add_mod' j k
   have hf:=flatten_get hs.wide hq s
   rw[hj,H] at hf
   have:=R _ hq _ _ hf.symm
   rw[xj] at this⊢
   rwa[Nat.add_assoc,hj] at this
  have h1:∀u∈ys.flatten,u.oneCell'=true:=by
   intro u U
   obtain⟨y,V,hc⟩:=List.mem_flatten.1 U
   exact J y V u hc
  obtain⟨v',w',s,e,S,_⟩:=run_append_own (P:=P) w base t ty (VR P t) i z k bs hu hi X L C Y hk v xs.length xs.flatten h.row ⟨b,o,none⟩ ys.length c ys.flatten (flatten_len hs.wide) d h1
   (by simpa[maxLen] using M) hlen B
  refine⟨v',w',s,N v' w' ⟨?_,r⟩ (Same.of_grown S) ?_⟩
  ·rw[List.length_append,List.flatten_append]
   exact e
  ·have W:0<ys.length:=List.length_pos_iff.2 p
   have m:=flatten_len hs.wide
   subst L C
   rcases h.row.2 with⟨rfl,hn⟩|⟨g,cap,cur,rfl,Q,hg,I,D,E,q⟩
   ·have f:=run_append_nil (P:=P) w t ty (VR P t) i z hu hi X ⟨b,o,none⟩ ys.length c ys.flatten m d W (by omega) (by have O:=hlen;rw[hn,Nat.zero_add] at O;omega)
    obtain⟨rfl,-⟩:=Result.ok.inj (s.symm.trans f)
    rintro Z A
    exact .inr (by cases A;exact Nat.le_refl _)
   ·by_cases l:xs.length+ys.length≤cap
    ·have G:xs.length*i.size+ys.flatten.length≤cur.size:=by rw[m,E,←Nat.add_mul];exact Nat.mul_le_mul_right _ l
     have f:=run_append_room (P:=P) w t ty (VR P t) i hu hi g xs.length cap cur hg ⟨b,o,none⟩ ys.length c ys.flatten m d h1 l G
     obtain⟨rfl,-⟩:=Result.ok.inj (s.symm.trans f)
     exact fun Z A=> .inl A
    ·have f:=run_append_grow (P:=P) w t ty (VR P t) i z hu hi X ⟨g,0,none⟩ xs.length cap xs.flatten h.row.1 (h.row.cells (g:=g) rfl) ⟨b,o,none⟩ ys.length c ys.flatten m d (by omega) (by omega) (growslice_fits (by omega) hlen)
     obtain⟨rfl,-⟩:=Result.ok.inj (s.symm.trans f)
     rintro Z A
     exact .inr (by cases A;exact Nat.le_refl _)
theorem yh {e:TypeId} {x z:Value} (hu:P.underlying t=some (.slice e)) (f:jH P e 1=true) (hzero:yT P e z) (a:z.cells= #[z]) (d:x.cells= #[x])
  (c:∀b w',b=w.heap.size→Ext w w'→w'.heap.size=w.heap.size+1→Blk w' b [x] e→K (.slice (some ⟨b,0,none⟩) 1 1) w'):vbuildS P t 1 [(0,x)] w K:=by
 refine⟨_,_,?_,c w.heap.size {w with heap:=w.heap.push (.cells ⟨[x]⟩ e)} rfl (ext_push w _) (by simp) (WQ w _ e)⟩
 simp[Instr.buildSlice,qh hu,run_sizeOf f,Ka hzero,a,Instr.fill,d,newRow,newObj,Sem.run]
 refine congrArg (fun l=>w.alloc (Obj.cells l e)) (Array.toList_inj.1 ?_)
 simp[List.range_succ]
theorem qC {e d:Nat} (hu:P.underlying t=some (.slice e)) (c:jH P e d=true)
  (a:∀b w',b=w.heap.size→Ext w w'→w'.heap.size=w.heap.size+1→Blk w' b [] e→K (.slice (some ⟨b,0,none⟩) 0 0) w'):vbuildS P t 0 [] w K:=by
 refine⟨_,_,?_,a w.heap.size {w with heap:=w.heap.push (.cells ⟨[]⟩ e)} rfl (ext_push w _) (by simp) (WQ w _ e)⟩
 simp[Instr.buildSlice,qh hu,run_sizeOf c,Instr.fill,newRow,newObj,Sem.run]
 refine congrArg (fun l=>w.alloc (Obj.cells l e)) (Array.toList_inj.1 ?_)
 simp
theorem Blk.sl1 {b n:Nat} {cs:List Value} {e:TypeId} (h:Blk w b cs e) (c:n=cs.length) (hm:n≤9223372036854775807):Sl (· =b) w 1 (.slice (some ⟨b,0,none⟩) n n) (cs.map fun x=>[x]):=by
 subst c
 refine⟨⟨_,cs.length,by simp,by simp,by simpa using hm,fun _=>⟨b,0,rfl,rfl,h.lt,fun i hi j v a=>?_⟩⟩,by simp⟩
 simp only[List.length_map] at hi
 have:j=0∧cs[i]?=some v:=by
  simp only[List.getD_eq_getElem?_getD,List.getElem?_map] at a
  rw[List.getElem?_eq_getElem hi] at a⊢
  cases j with
  |zero=>simp at a;simp[a]
  |succ j=>simp at a
 obtain⟨rfl,d⟩:=this
 rw[xj]
 simp only[Nat.mul_one,Nat.zero_add,Nat.add_zero]
 exact h.cell d
theorem Blk.own1 {b n c:Nat} {cs:List Value} (h:Blk w b cs (VR P t)) (a:base≤b) (e:n=cs.length) (d:c=cs.length) (hm:n≤9223372036854775807):Own P base 1 t w (.slice (some ⟨b,0,none⟩) n c) (cs.map fun x=>[x]):=by
 subst e d
 refine⟨⟨by simp[flatten_len (k:=1) (xs:=cs.map fun x=>[x]) (by simp)],.inr ⟨b,cs.length,⟨cs⟩,by simp,a,h,by simp,by simpa[maxLen] using hm,by simp,?_⟩⟩,by simp⟩
 rw[flat1];simp
end
end Go.Vc
end
section
namespace Go.Vc
open Go
def OwnV (P:Program) (t:TypeId) (w:World) (v:Value) (vs:List Value):Prop:=Own P 0 1 t w v (vs.map fun x=>[x])
def OwnI (P:Program) (t:TypeId) (w:World) (v:Value) (xs:List Int):Prop:=OwnV P t w v (xs.map fun x=> .int .i64 x)
def OwnB (P:Program) (t:TypeId) (w:World) (v:Value) (xs:List Bool):Prop:=OwnV P t w v (xs.map fun x=> .bool x)
section
variable {P:Program} {t:TypeId} {w w':World} {v:Value} {vs:List Value} {xs:List Int} {bs:List Bool} {K:Value→World→Prop} {F S:Nat→Prop}
theorem OwnV.nil:OwnV P t w (.slice none 0 0) []:=Own.nil P 0 1 t w
theorem OwnI.nil:OwnI P t w (.slice none 0 0) []:=OwnV.nil
theorem OwnB.nil:OwnB P t w (.slice none 0 0) []:=OwnV.nil
theorem OwnV.lt (h:OwnV P t w v vs) {b:Nat} (a:v.ownBlock=some b):b<w.heap.size:=(Own.lt h a).2
theorem OwnI.lt (h:OwnI P t w v xs) {b:Nat} (a:v.ownBlock=some b):b<w.heap.size:=OwnV.lt h a
theorem OwnV.same (h:OwnV P t w v vs) (hw:Same S w w') (hs:∀b,v.ownBlock=some b→¬S b):OwnV P t w' v vs:=Own.same h hw hs
theorem OwnI.same (h:OwnI P t w v xs) (hw:Same S w w') (hs:∀b,v.ownBlock=some b→¬S b):OwnI P t w' v xs:=OwnV.same h hw hs
theorem OwnV.ext (h:OwnV P t w v vs) (hw:Ext w w'):OwnV P t w' v vs:=Own.ext h hw
theorem OwnI.ext (h:OwnI P t w v xs) (hw:Ext w w'):OwnI P t w' v xs:=OwnV.ext h hw
theorem OwnB.ext (h:OwnB P t w v bs) (hw:Ext w w'):OwnB P t w' v bs:=OwnV.ext h hw
theorem OwnV.vals (h:OwnV P t w v vs):Vals (fun b=>v.ownBlock=some b) w v vs:=Own.sl h
theorem OwnI.ints (h:OwnI P t w v xs):Ints (fun b=>v.ownBlock=some b) w v xs:=OwnV.vals h
theorem OwnB.bools (h:OwnB P t w v bs):Bools (fun b=>v.ownBlock=some b) w v bs:=OwnV.vals h
theorem OwnV.app {bs ty:Nat} {y:Value} {us:List Value} (h:OwnV P t w v vs) (k:elZ P t 1 bs=true) (hs:Vals F w y us) (a:∀u,u∈us→u.oneCell'=true)
  (d:vs.length+us.length≤9223372036854775807) (hlen:(vs.length+us.length)*bs≤140737488355328)
  (j:∀v' w',OwnV P t w' v' (vs++us)→Same (fun b=>v.ownBlock=some b) w w'→(∀b,v'.ownBlock=some b→v.ownBlock=some b∨w.heap.size≤b)→K v' w'):vbi P .append [t,t] ty [v,y] w K:=by
 refine vappend k (by decide) h hs (fun y l c e=>?_) (by omega) (by simpa using d) (by simpa using hlen) fun v' w' f g i=>j v' w' ?_ g i
 ·obtain⟨u,hu,rfl⟩:=List.mem_map.1 l
  rw[List.mem_singleton] at e
  subst e;exact a _ hu
 ·unfold OwnV;rw[List.map_append];exact f
theorem OwnV.app1 {bs ty b:Nat} {x:Value} {e:TypeId} (h:OwnV P t w v vs) (f:elZ P t 1 bs=true) (g:Blk w b [x] e) (a:x.oneCell'=true)
  (c:vs.length<9223372036854775807) (hlen:(vs.length+1)*bs≤140737488355328)
  (d:∀v' w',OwnV P t w' v' (vs++[x])→Same (fun b=>v.ownBlock=some b) w w'→(∀b,v'.ownBlock=some b→v.ownBlock=some b∨w.heap.size≤b)→K v' w'):vbi P .append [t,t] ty [v,.slice (some ⟨b,0,none⟩) 1 1] w K:=
 h.app f (F:=(· =b)) (us:=[x]) (g.sl1 rfl (by omega)) (by simpa using a) (by simp;omega) (by simpa using hlen) d
theorem OwnI.app1 {bs ty b:Nat} {x:Int} {e:TypeId} (h:OwnI P t w v xs) (f:elZ P t 1 bs=true) (g:Blk w b [.int .i64 x] e)
  (a:xs.length<9223372036854775807) (hlen:(xs.length+1)*bs≤140737488355328)
  (d:∀v' w',OwnI P t w' v' (xs++[x])→Same (fun b=>v.ownBlock=some b) w w'→(∀b,v'.ownBlock=some b→v.ownBlock=some b∨w.heap.size≤b)→K v' w'):vbi P .append [t,t] ty [v,.slice (some ⟨b,0,none⟩) 1 1] w K:=
 OwnV.app1 h f g rfl (by simpa using a) (by simpa using hlen) fun v' w' c=>d v' w' (by unfold OwnI;rw[List.map_append];exact c)
theorem OwnI.app {bs ty:Nat} {y:Value} {ys:List Int} (h:OwnI P t w v xs) (e:elZ P t 1 bs=true) (hs:Ints F w y ys)
  (a:xs.length+ys.length≤9223372036854775807) (hlen:(xs.length+ys.length)*bs≤140737488355328)
  (d:∀v' w',OwnI P t w' v' (xs++ys)→Same (fun b=>v.ownBlock=some b) w w'→(∀b,v'.ownBlock=some b→v.ownBlock=some b∨w.heap.size≤b)→K v' w'):vbi P .append [t,t] ty [v,y] w K:=
 OwnV.app h e hs (by simp[Value.oneCell']) (by simpa using a) (by simpa using hlen) fun v' w' c=>d v' w' (by unfold OwnI;rw[List.map_append];exact c)
theorem OwnV.st (h:OwnV P t w v vs) {e:TypeId} {x:Value} (C:x.cells= #[x]) (m:x.oneCell'=true) (E:jH P e 1=true) {i:Nat} (hi:i<vs.length)
  (n:∀w',OwnV P t w' v (vs.set i x)→Same (fun b=>v.ownBlock=some b) w w'→w'.heap.size=w.heap.size→K undef w'):zl P e (.pointer (some (eaddr v 1 i))) x w K:=by
 rcases h.row.2 with⟨rfl,A⟩|⟨g,cap,cur,rfl,p,F,B,r,s,k⟩
 ·rw[List.length_map] at A;omega
 ·have a:=h.row
  have f:i<(vs.map fun x=>[x]).length*1:=by simpa using hi
  have q:=World.ownsRow.cellAt a i f
  have z:=World.ownsRow.frozenAt a i
  obtain⟨d,j⟩:=World.ownsRow.stored a i x
  have c:w.cell? ⟨g,i,none⟩=some (vs.getD i undef):=by rw[q,flat1];simp[List.getD_eq_getElem?_getD,hi]
  have o:(⟨g,i,none⟩:Addr).add 0=⟨g,i,none⟩:=rfl
  have he:eaddr (.slice (some ⟨g,0,none⟩) (vs.map fun x=>[x]).length cap) 1 i=⟨g,i,none⟩:=by
   simp only[eaddr];simp
  rw[he]
  refine⟨(),w.setCell ⟨g,i,none⟩ x,?_,n _ ?_ (Same.of_grown j) (by simp)⟩
  ·simp only[Instr.storeAt,Instr.sureAddr,Sem.run_bind,Sem.run_pure,Result.andThen_ok,storeVar,run_sizeOf E,C]
   cases x<;>first|(cases m;done)|simp[storeCells,store,Sem.run,o,c,z]
  ·refine⟨?_,fun y D=>by obtain⟨u,_,rfl⟩:=List.mem_map.1 D;rfl⟩
   rw[flat1] at d
   have l:((vs.set i x).map fun x=>[x]).flatten=vs.set i x:=flat1 _
   rw[l]
   simpa using d
theorem OwnI.st (h:OwnI P t w v xs) {e:TypeId} {x:Int} (d:jH P e 1=true) {i:Nat} (hi:i<xs.length)
  (c:∀w',OwnI P t w' v (xs.set i x)→Same (fun b=>v.ownBlock=some b) w w'→w'.heap.size=w.heap.size→K undef w'):zl P e (.pointer (some (eaddr v 1 i))) (.int .i64 x) w K:=
 OwnV.st h rfl rfl d (by simpa using hi) fun w' a=>c w' (by unfold OwnI;rw[List.map_set];exact a)
theorem yy0 {k:Nat} (h:elB P t k=true):P.underlying t=some (.slice (P.elem t))∧jH P (P.elem t) k=true:=by
 obtain⟨e,hu,hs⟩:=Qd0 h
 have:P.elem t=e:=by simp[Program.elem,hu]
 rw[this];exact⟨hu,hs⟩
def cutV (v:Value) (n:Nat):Value:=match v with
 | .slice a _ c=> .slice a n c
 |x=>x
theorem Sl.cut {k:Nat} {v:Value} {xs:List (List Value)} (h:Sl F w k v xs) (g:∀a l c,v= .slice (some a) l c→∃b o,a=⟨b,o,none⟩) (f:elB P t k=true) {kd:IntKind} {n:Nat} (j:n≤xs.length):
  yC P t v none (some (.int kd n)) none w' K=K (cutV v n) w':=by
 obtain⟨hu,hs⟩:=yy0 f
 obtain⟨a,c,rfl,i,e,d⟩:=h.shape
 refine yH ?_
 rw[run_sliceAt_slice w' t _ _ _ _ hu,run_slice_h w' t _ _ _ hu kd n (by omega) (by omega),run_sizeOf hs]
 cases a with
 |none=>simp[Result.andThen,sliced,cutV]
 |some a=>
  obtain⟨b,o,rfl⟩:=g _ _ _ rfl
  simp[Result.andThen,sliced,cutV]
  exact fun _=>rfl
theorem OwnV.cut (h:OwnV P t w v vs) (o:elB P t 1=true) {kd:IntKind} {n:Nat} (k:n≤vs.length):yC P t v none (some (.int kd n)) none w' K=K (cutV v n) w':=by
 refine Sl.cut h.vals ?_ o (by simpa using k)
 rintro a l c e
 rcases h.row.2 with⟨rfl,s⟩|⟨g,cap,cur,rfl,f,r,m,i,j,d⟩
 ·cases e
 ·injection e with b p q
  injection b with b
  exact⟨g,0,b.symm⟩
theorem XS0 (v:Value) (n:Nat):(cutV v n).ownBlock=v.ownBlock:=by
 unfold cutV
 split
 ·rename_i a l c
  cases a<;>rfl
 ·rfl
theorem OwnV.taken (h:OwnV P t w v vs) {n:Nat} (f:n≤vs.length):OwnV P t w (cutV v n) (vs.take n):=by
 rcases h.row.2 with⟨rfl,l⟩|⟨g,cap,cur,rfl,c,j,i,d,e,a⟩
 ·rw[List.length_map] at l
  have:n=0:=by omega
  subst this
  rw[List.take_zero];exact OwnV.nil
 ·refine⟨⟨by rw[flat1,List.length_map,Nat.mul_one],.inr ⟨g,cap,cur,by simp[cutV,Nat.min_eq_left f],c,j,?_,d,e,?_⟩⟩,fun y k=>by obtain⟨u,_,rfl⟩:=List.mem_map.1 k;rfl⟩
  ·rw[List.length_map] at i⊢;simp;omega
  ·have b:=a
   rw[flat1] at b⊢
   rw[List.length_map] at b
   simp only[List.length_map,List.length_take,Nat.min_eq_left f,Nat.mul_one] at b⊢
   rw[←b,List.take_take,Nat.min_eq_left f]
theorem vmkS_own {bs n:Nat} {z:Value} {q r:IntKind} {e:TypeId} (u:elZ P t 1 bs=true) (he:VR P t=e) (d:yT P e z) (p:z.cells= #[z]) (g:bs*n≤281474976710656) (k:n≤9223372036854775807)
  (s:∀v' w',OwnV P t w' v' (List.replicate n z)→Ext w w'→(∀b,v'.ownBlock=some b→w.heap.size≤b)→K v' w'):Qi0 P t (.int q n) (.int r n) w K:=by
 obtain⟨hu,i,f,hi,c,o,l,y⟩:=kX0 u
 subst he
 have:f=z:=by
  unfold yT at d;rw[hi] at d;simp only[c,Option.some.injEq] at d;exact d
 subst this
 subst l
 obtain⟨w',x,a,m⟩:=run_make_full (P:=P) w 0 t (VR P t) i f 1 hu hi c o q r n g (by simpa[maxLen] using k) (by omega)
 refine⟨_,w',x,s _ w' ?_ ((Same.of_grown m).mono fun _ _ h=>by cases h) fun b v=>by cases v;exact Nat.le_refl _⟩
 have e:(madeCells f.cells (n*1)).toList=List.replicate n f:=by
  refine List.ext_getElem (by simp[madeCells]) fun j A B=>?_
  simp[madeCells,p,Nat.mod_one]
 rw[e] at a
 refine⟨?_,by simp⟩
 rw[flat1];simpa using a
end
end Go.Vc
end
section
namespace Go.Vc
open Go
def strF (P:Program) (t:TypeId):Option (List (Nat×Nat)×List Value):=
 match P.underlying t,P.info? t with
 |some (.struct fs),some i=>
  match fs.toList.mapM (fun f=>(P.info? f.type).map fun j=>(f.offset,j.size)),i.zero with
  |some pl,some z=>some (pl,z.cells.toList)
  |_,_=>none
 |_,_=>none
def setL (cs:List Value) (o:Nat):List Value→List Value
 |[]=>cs
 |c::r=>setL (cs.set o c) (o+1) r
def fillC (pl:List (Nat×Nat)) (cs:List Value):List Nat→List (List Value)→Option (List Value)
 |[],[]=>some cs
 |i::is,u::us=>
  match pl[i]? with
  |none=>none
  |some (o,s)=>if Nat.beq u.length s&&Nat.ble (o+s) cs.length then fillC pl (setL cs o u) is us else none
 |_,_=>none
section
variable {P:Program} {t:TypeId} {w:World} {K:Value→World→Prop}
theorem foldl_set (us:List Value):∀(cs:List Value) (o k:Nat),((us.zipIdx k).foldl (fun(cs:Array Value) (c,j)=>cs.setIfInBounds (o+j) c) ⟨cs⟩)=⟨setL cs (o+k) us⟩:=by
 induction us with
 |nil=>intro cs o k;rfl
 |cons u r a=>
  intro cs o k
  rw[List.zipIdx_cons,List.foldl_cons]
  simp only[List.setIfInBounds_toArray,setL]
  rw[a,Nat.add_assoc]
theorem fill_eq {pl:List (Nat×Nat)}:∀{ps:List (Nat×Value)} {us:List (List Value)} {zs cs:List Value},ps.map (fun p=>p.2.cells)=us.map List.toArray→fillC pl zs (ps.map (·.1)) us=some cs→
  Instr.fill (pl.toArray[·]?) ⟨zs⟩ ps=some ⟨cs⟩
 |[],[],zs,cs,_,h=>by simp only[List.map_nil,fillC,Option.some.injEq] at h;rw[h];rfl
 |[],u::us,_,_,h,_=>by cases h
 |p::ps,[],_,_,h,_=>by cases h
 |(i,v)::ps,u::us,zs,cs,c,h=>by
  simp only[List.map_cons,List.cons.injEq] at c
  simp only[List.map_cons,fillC] at h
  unfold Instr.fill
  simp only[List.getElem?_toArray]
  split at h
  ·cases h
  ·rename_i o s f
   rw[f]
   simp only
   split at h
   ·rename_i b
    rw[Bool.and_eq_true] at b
    have d:=Nat.eq_of_beq_eq_true b.1
    have g:=Nat.le_of_ble_eq_true b.2
    have e:=c.1
    simp only[e]
    have a:(decide ((List.toArray u).size≠s)||decide (o+(List.toArray u).size>(List.toArray zs).size))=false:=by simp[d];omega
    rw[a]
    simp only[Bool.false_eq_true,if_false]
    rw[←Array.foldl_toList,Array.toList_zipIdx,foldl_set,Nat.add_zero]
    have:=fill_eq c.2 h
    simpa only[List.getElem?_toArray] using this
   ·cases h
theorem Z50 {pl:List (Nat×Nat)} {ps:List (Nat×Value)} {us:List (List Value)} {zs cs:List Value} (h:strF P t=some (pl,zs)) (d:ps.map (fun p=>p.2.cells)=us.map List.toArray)
  (b:fillC pl zs (ps.map (·.1)) us=some cs) (a:K (.agg ⟨cs⟩) w):zC P t ps w K:=by
 refine⟨_,w,run_build (P:=P) w t ⟨ps⟩ ⟨cs⟩ ?_,a⟩
 unfold strF at h
 split at h
 ·rename_i fs i hu hi
  split at h
  ·rename_i f z c e
   simp only[Option.some.injEq,Prod.mk.injEq] at h
   obtain⟨rfl,rfl⟩:=h
   simp only[Program.built,hu,hi,e,c]
   exact fill_eq d b
  ·cases h
 ·cases h
theorem Blk.stAgg {b:Nat} {cs cs':List Value} {t0:TypeId} (h:Blk w b cs t0) (a:cs'.length=cs.length) (i:aggB P t cs'.length=true) (d:∀v,v∈cs'→v.oneCell'=true)
  (f:∀w',Same (· =b) w w'→w'.heap.size=w.heap.size→Blk w' b cs' t0→K undef w'):zl P t (.pointer (some ⟨b,0,none⟩)) (.agg ⟨cs'⟩) w K:=by
 have c:=run_storeCells_at (P:=P) b 0 t0 cs' 0 ⟨cs⟩ w h (by simp[a]) d
 refine⟨(),_,?_,f (w.setRow b (cs'.toArray)) ⟨rfl,rfl,rfl,by simp,fun k _ g=>setRow_other w b k _ g⟩ (by simp) (setRow_heap w b _ _ t0 _ h)⟩
 simp only[Instr.storeAt,Instr.sureAddr,Sem.run_bind,Sem.run_pure,Result.andThen_ok,storeVar,KX i,Value.cells]
 simp only[List.size_toArray,ne_eq,not_true_eq_false,if_false]
 have e:(cs.take (0+0)++cs'++cs.drop (0+0+cs'.length))=cs':=by rw[a];simp
 simp only[e] at c
 exact c
theorem Uw {c:Bool} {a:Option Addr} {l k:Nat} (h:isSl P t=true):zq P .eql t c (.slice a l k) (.slice none 0 0) w K=K (.bool a.isNone) w:=by
 obtain⟨e,he⟩:=qn0 h
 refine yL ?_ ?_
 ·simp[eqG,eqGuard]
 ·simp[binOp,run_equal_slice_nil w t e a l k he,Result.andThen]
theorem Sl.cells1 {F:Nat→Prop} {k:Nat} {v:Value} {xs:List (List Value)} (h:Sl F w k v xs):v.cells= #[v]:=by
 obtain⟨a,c,rfl,_⟩:=h.shape;rfl
theorem Sl.one {F:Nat→Prop} {k:Nat} {v:Value} {xs:List (List Value)} (h:Sl F w k v xs):v.oneCell'=true:=by
 obtain⟨a,c,rfl,_⟩:=h.shape;rfl
end
end Go.Vc
end
section
namespace Go.Vc
open Go Go.MapKept
section
variable {P:Program} {t:TypeId} {w w':World} {K:Value→World→Prop} {b:Nat} {ks:List Int} {S:Nat→Prop}
theorem JA (n:Int):IsKey (.int .i64) (.int .i64 n):=by simp[IsKey]
theorem zX0 {w:World} {r:Nat} {o o':Obj} (a:w.heap[r]?=some o):Same (· =r) w {w with heap:=w.heap.setIfInBounds r o'}:=
 ⟨rfl,rfl,rfl,by simp,fun k _ b=>(heap_set (o':=o') a).2 k b⟩
end
end Go.Vc
end
section
namespace Go.Vc
open Go
section
variable {P:Program} {w:World} {K:Value→World→Prop}
theorem vbi_max {ts:List TypeId} {t:TypeId} {k a:IntKind} {x y:Int}:vbi P .max ts t [.int k x,.int a y] w K=K (.int k (max x y)) w:=by
 refine yH ?_
 simp only[biSem,run_max_int2]
 rw[Int.max_def];split<;>split<;>(first|rfl|(exfalso;omega)|skip)
 all_goals (have:x=y:=by omega)<;>rw[this]
theorem Ql0 {ts:List TypeId} {t:TypeId} {k a:IntKind} {x y:Int}:vbi P .min ts t [.int k x,.int a y] w K=K (.int k (min x y)) w:=by
 refine yH ?_
 simp only[biSem,run_min_int2]
 rw[Int.min_def];split<;>split<;>(first|rfl|(exfalso;omega)|skip)
 all_goals (have:x=y:=by omega)<;>rw[this]
attribute [push_cast] vbi_max Ql0
theorem setL_app:∀(us a b:List Value),us.length≤b.length→setL (a++b) a.length us=a++us++b.drop us.length
 |[],a,b,_=>by simp[setL]
 |u::us,a,[],h=>by simp at h
 |u::us,a,c::b,h=>by
  have e:(a++c::b).set a.length u=(a++[u])++b:=by simp
  rw[setL,e,show a.length+1=(a++[u]).length from by simp,setL_app us (a++[u]) b (by simpa using h)]
  simp
theorem fill_row {k:Nat}:∀(xs:List Value) (us:List (List Value)) (i:Nat) (a b:List Value),xs.map Value.cells=us.map List.toArray→(∀u,u∈us→u.length=k)→a.length=i*k→b.length=xs.length*k→
  Instr.fill (fun i=>some (i*k,k)) ⟨a++b⟩ ((xs.zipIdx i).map fun p=>(p.2,p.1))=some ⟨a++us.flatten⟩
 |[],[],i,a,b,_,_,_,c=>by
  have:b=[]:=List.eq_nil_of_length_eq_zero (by simpa using c)
  subst this;simp[Instr.fill]
 |[],u::us,_,_,_,h,_,_,_=>by simp at h
 |x::xs,[],_,_,_,h,_,_,_=>by simp at h
 |x::xs,u::us,i,a,b,h,hw,d,c=>by
  simp only[List.map_cons,List.cons.injEq] at h
  have hu:=hw u List.mem_cons_self
  rw[List.length_cons,Nat.add_mul,Nat.one_mul] at c
  have hs:x.cells.size=k:=by rw[h.1];simpa using hu
  rw[List.zipIdx_cons,List.map_cons,Instr.fill]
  simp only[hs,ne_eq,not_true_eq_false,decide_false,Bool.false_or,List.size_toArray,List.length_append]
  rw[if_neg (by simp;omega)]
  rw[←Array.foldl_toList,Array.toList_zipIdx,h.1]
  rw[foldl_set,Nat.add_zero,←d,setL_app u a b (by omega),List.append_assoc,←List.append_assoc a u]
  rw[fill_row xs us (i+1) (a++u) (b.drop u.length) h.2 (fun v e=>hw v (List.mem_cons_of_mem _ e)) (by simp[d,hu,Nat.add_mul]) (by simp;omega)]
  simp
theorem vbuildS_row {t:TypeId} {e k:Nat} {z:Value} {xs:List Value} {us:List (List Value)} (hu:P.underlying t=some (.slice e)) (j:jH P e k=true) (hzero:yT P e z) (h:xs.map Value.cells=us.map List.toArray) (hw:∀u,u∈us→u.length=k) (g:xs.length*k≤16777216)
  (d:∀b w',b=w.heap.size→Ext w w'→w'.heap.size=w.heap.size+1→Blk w' b us.flatten e→K (.slice (some ⟨b,0,none⟩) xs.length xs.length) w'):vbuildS P t xs.length (xs.zipIdx.map fun p=>(p.2,p.1)) w K:=by
 refine⟨_,_,?_,d w.heap.size {w with heap:=w.heap.push (.cells ⟨us.flatten⟩ e)} rfl (ext_push w _) (by simp) (WQ w _ e)⟩
 have a:∀c:Array Value,c.size=xs.length*k→Instr.fill (fun i=>some (i*k,k)) c (xs.zipIdx.map fun p=>(p.2,p.1))=some ⟨us.flatten⟩:=fun c f=>by
  have:=fill_row xs us 0 [] c.toList h hw (by simp) (by simpa using f)
  simpa using this
 simp only[Instr.buildSlice,Sem.run_bind,qh hu,Result.andThen_ok,run_sizeOf j]
 rw[if_neg (by omega)]
 split
 ·simp only[Sem.run_bind,Sem.run_pure,Result.andThen_ok]
  rw[a _ (by simp)]
  rfl
 ·simp only[Sem.run_bind,Sem.run_pure,Result.andThen_ok,Ka hzero]
  rw[a _ (by simp)]
  rfl
theorem vbuildS_row1 {t:TypeId} {e:Nat} {z:Value} {xs:List Value} (hu:P.underlying t=some (.slice e)) (k:jH P e 1=true) (hzero:yT P e z) (j:∀x,x∈xs→x.cells= #[x]) (i:xs.length≤16777216)
  (h:∀b w',b=w.heap.size→Ext w w'→w'.heap.size=w.heap.size+1→Blk w' b xs e→K (.slice (some ⟨b,0,none⟩) xs.length xs.length) w'):vbuildS P t xs.length (xs.zipIdx.map fun p=>(p.2,p.1)) w K:=by
 refine vbuildS_row (us:=xs.map fun x=>[x]) hu k hzero ?_ (fun u hu=>by obtain⟨y,_,rfl⟩:=List.mem_map.1 hu;rfl) (by omega) fun b w' c d f g=>h b w' c d f (by rwa[flat1] at g)
 rw[List.map_map]
 exact List.map_congr_left fun x a=>j x a
theorem zW0 {t:TypeId} {c:Bool} {k:IntKind} {a b:Int} (d:b≠0):zq P .quo t c (.int k a) (.int k b) w K=K (.int k (k.wrap (a.tdiv b))) w:=
 yL rfl (by simp[binOp,Op.intDiv,d])
theorem YZ {t:TypeId} {c:Bool} {k:IntKind} {a b:Int} (d:b≠0):zq P .rem t c (.int k a) (.int k b) w K=K (.int k (a.tmod b)) w:=
 yL rfl (by simp[binOp,Op.intDiv,d])
theorem bits_xor64 {a b:Nat} (c:a<9223372036854775808) (d:b<9223372036854775808):(IntKind.i64.wrap (((BitVec.ofInt 64 a)^^^(BitVec.ofInt 64 b)).toNat:Int))=((a^^^b:Nat):Int):=by
 have e:a^^^b<2^63:=Nat.xor_lt_two_pow c d
 rw[BitVec.toNat_xor,BitVec.ofInt_natCast,BitVec.ofInt_natCast,BitVec.toNat_ofNat,BitVec.toNat_ofNat,Nat.mod_eq_of_lt (by omega),Nat.mod_eq_of_lt (by omega)]
 exact zE (by omega) (by omega)
theorem Z60 {t:TypeId} {c:Bool} {a b:Nat} (d:a<9223372036854775808) (e:b<9223372036854775808):zq P .xor t c (.int .i64 a) (.int .i64 b) w K=K (.int .i64 (a^^^b:Nat)) w:=
 yL rfl (by simp only[binOp,ne_eq,not_true_eq_false,if_false,Op.intBits];rw[←bits_xor64 d e];rfl)
def ZC0 (P:Program) (t:TypeId) (k:IntKind):Prop:=P.underlying t=some (.int k)
theorem j6 {s d:TypeId} {k c:IntKind} {n:Int} (hs:(P.underlying s).isSome=true) (a:ZC0 P d k):Yl P s d (.int c n) w K=K (.int k (k.wrap n)) w:=by
 refine yH ?_
 obtain⟨x,b⟩:=Option.isSome_iff_exists.1 hs
 unfold ZC0 at a
 simp only[convert,Sem.run_bind,qh b,qh a,Result.andThen_ok]
 cases x<;>rfl
end
end Go.Vc
end
section
namespace Go.Vc
open Go Go.MapKept
def MapF (d:TypeDesc) (w:World) (b:Nat) (f:List (Value×Value)):Prop:=
 ∃es clock,w.heap[b]?=some (.map es clock)∧Stamped es clock∧(∀x∈es.toList,IsKey d x.key)∧es.toList.map (fun e=>(e.key,e.val))=f
def Xs0 (P:Program) (t:TypeId) (d:TypeDesc) (e:TypeId):Prop:= ∃kt,P.underlying t=some (.map kt e)∧P.underlying kt=some d
section
variable {P:Program} {t e:TypeId} {d:TypeDesc} {w w':World} {K:Value→World→Prop} {b:Nat} {f:List (Value×Value)} {S:Nat→Prop}
theorem MapF.lt (h:MapF d w b f):b<w.heap.size:=by
 obtain⟨es,cl,a,_⟩:=h;exact(Array.getElem?_eq_some_iff.1 a).1
theorem MapF.same (h:MapF d w b f) (hw:Same S w w') (hs: ¬S b):MapF d w' b f:=by
 have a:=h.lt
 obtain⟨es,cl,c,r⟩:=h;exact⟨es,cl,(hw.block b a hs).trans c,r⟩
theorem MapF.ext (h:MapF d w b f) (hw:Ext w w'):MapF d w' b f:=h.same hw id
theorem MapF.nodup (h:MapF d w b f):(f.map (·.1)).Nodup:=by
 obtain⟨es,cl,e,a,c,rfl⟩:=h
 have:=a.2.2
 rw[List.map_map]
 exact this
theorem ZO0 {r:Option Value} {k:IntKind} {n:Nat} (c:Xs0 P t d e) (g:r=none∨r=some (.int k n)) (a:∀b w',b=w.heap.size→MapF d w' b []→Ext w w'→w'.heap.size=w.heap.size+1→K (.map (some b)) w'):Q00 P t r w K:=by
 refine⟨.map (some w.heap.size),w.alloc (.map #[] 0),?_,a _ _ rfl ⟨#[],0,(heap_alloc w _).1,stamped_empty 0,by simp,rfl⟩ ⟨rfl,rfl,rfl,by simp,fun k f _=>(heap_alloc w _).2 k f⟩ (by simp)⟩
 obtain⟨kt,hm,h⟩:=c
 rcases g with rfl|rfl
 ·simp[Instr.makeMap,newObj,Sem.run]
 ·simp only[Instr.makeMap,Sem.run_bind,qh hm,Result.andThen_ok]
  simp[asInt,asIntOf,newObj,Sem.run,Result.andThen]
theorem kD0 (c:Xs0 P t d e) (a:∀b w',b=w.heap.size→MapF d w' b []→Ext w w'→w'.heap.size=w.heap.size+1→K (.map (some b)) w'):Q00 P t none w K:=ZO0 (k:= .i64) (n:=0) c (.inl rfl) a
theorem ZM0 {k x:Value} (r:Xs0 P t d e) (h:MapF d w b f) (l:IsKey d k) (s:∀v,(k,v)∉f)
  (q:∀w',MapF d w' b (f++[(k,x)])→Same (· =b) w w'→w'.heap.size=w.heap.size→K undef w'):ZH P t (.map (some b)) k x w K:=by
 obtain⟨kt,hm,o⟩:=r
 obtain⟨es,cl,g,m,c,rfl⟩:=h
 rcases findNow_spec l es.toList 0 c with⟨n,i⟩|⟨j,e,n,i,p⟩
 ·refine⟨(),{w with heap:=w.heap.setIfInBounds b (.map (es.push {key:=k,val:=x,born:=cl}) (cl+1))},?_,q _ ⟨_,_,(heap_set g).1,stamped_push m i,fun y a=>?_,by simp⟩ (zX0 g) (by simp)⟩
  ·simp[Instr.mapUpdate,run_underlying hm,MapKept.run_getObj_map g,run_checkKey o l,run_findKey o n,run_setObj_map _ g,Result.andThen]
  ·rw[Array.toList_push] at a
   rcases List.mem_append.1 a with a|a
   ·exact c y a
   ·rw[List.mem_singleton.1 a];exact l
 ·exact absurd (List.mem_map.2 ⟨e,List.mem_of_getElem? i,by rw[p]⟩) (s e.val)
theorem Wg {k v:Value} {ok:Bool} (F:Xs0 P t d e) (h:MapF d w b f) (E:IsKey d k) (l:(k,v)∈f):
  XG P t (.map (some b)) k ok w K=K (if ok then .tuple #[v,.bool true] else v) w:=by
 obtain⟨kt,hm,D⟩:=F
 have H:=h.nodup
 obtain⟨es,cl,G,u,r,rfl⟩:=h
 rcases findNow_spec E es.toList 0 r with⟨B,q⟩|⟨j,e,B,q,C⟩
 ·obtain⟨x,y,e⟩:=List.mem_map.1 l
  cases e;exact absurd rfl (q x y)
 ·obtain⟨x,y,A⟩:=List.mem_map.1 l
  have z:x=e:=by
   have s:e∈es.toList:=List.mem_of_getElem? q
   have I:=u.2.2
   cases A
   have n:es.toList.Pairwise fun a b=>a.key≠b.key:=List.pairwise_map.1 I
   by_cases m:x=e
   ·exact m
   ·obtain⟨i1,g,o⟩:=List.getElem_of_mem y
    obtain⟨i2,i,p⟩:=List.getElem_of_mem s
    rcases Nat.lt_trichotomy i1 i2 with c|heq|c
    ·exact absurd (by rw[o,p];exact C.symm) (List.pairwise_iff_getElem.1 n i1 i2 g i c)
    ·subst heq;exact absurd (o.symm.trans p) m
    ·exact absurd (by rw[o,p];exact C) (List.pairwise_iff_getElem.1 n i2 i1 i g c)
  subst z
  cases A
  refine yH ?_
  cases ok<;>simp[Instr.lookup,run_underlying hm,MapKept.run_getObj_map G,run_checkKey D E,run_findKey D B,Result.andThen]
theorem jf0 {k z:Value} {ok:Bool} (n:Xs0 P t d e) (r:yT P e z) (h:MapF d w b f) (l:IsKey d k) (p:∀v,(k,v)∉f):
  XG P t (.map (some b)) k ok w K=K (if ok then .tuple #[z,.bool false] else z) w:=by
 obtain⟨kt,hm,i⟩:=n
 obtain⟨es,cl,o,q,a,rfl⟩:=h
 rcases findNow_spec l es.toList 0 a with⟨c,g⟩|⟨j,e,c,g,m⟩
 ·refine yH ?_
  cases ok<;>simp[Instr.lookup,run_underlying hm,MapKept.run_getObj_map o,run_checkKey i l,run_findKey i c,Ka r,Result.andThen]
 ·exact absurd (List.mem_map.2 ⟨e,List.mem_of_getElem? g,by rw[m]⟩) (p e.val)
theorem y8 {ty:TypeId} {v rcv:Value} {name:String} {args:Array Value} {g:Nat} (hm:∀w:World,(method (P.types.size+Made.depth) ty v name).run P w= .ok (g,rcv) w) (h:vcall P g ⟨rcv::args.toList⟩ w K):vinvoke P (.iface ty v) name args w K:=
 ⟨g,rcv,hm w,h⟩
def concB (P:Program) (t:TypeId):Bool:=match P.underlying t with|some (.interface _)=>false|some _=>true|none=>false
theorem Xq (h:concB P t=true) (v:Value):KW P t v w K=K (.iface t v) w:=by
 refine yH ?_
 unfold concB at h
 cases hu:P.underlying t with
 |none=>rw[hu] at h;cases h
 |some x=>
  rw[hu] at h
  simp only[Instr.makeInterface,Sem.run_bind,qh hu,Result.andThen_ok]
  cases x<;>first|(cases h;done)|simp
theorem k50 (a b:ByteArray):(a.toList==b.toList)=decide (a=b):=by
 rw[←beq_toListBytes]
 by_cases h:a=b
 ·subst h;rw[decide_eq_true rfl];exact(MapKept.bytes_beq a a).2 rfl
 ·rw[decide_eq_false h,Bool.eq_false_iff];exact fun e=>h ((MapKept.bytes_beq a b).1 e)
@[push_cast] theorem QV0 {c:Bool} (t:TypeId) (a b:ByteArray):zq P .eql t c (.string a) (.string b) w K=K (.bool (decide (a=b))) w:=
 yL rfl (by rw[binOp_string_eql,k50];rfl)
@[push_cast] theorem QU0 {c:Bool} (t:TypeId) (a b:ByteArray):zq P .neq t c (.string a) (.string b) w K=K (.bool (decide (a≠b))) w:=
 yL rfl (by rw[binOp_string_neq,k50,decide_not];rfl)
theorem y70 {c:Bool} {t:TypeId} {a b:ByteArray} (h:a.size+b.size≤9223372036854775807):zq P .add t c (.string a) (.string b) w K=K (.string (a++b)) w:=
 yL rfl (by simp only[binOp_string_add];exact run_string_add_sum w a b h)
theorem q50 {t ty:TypeId} {s:ByteArray} (h:P.underlying t=some .string):vbi P .len [t] ty [.string s] w K=K (.int .i64 s.size) w:=
 yH (run_len_string (P:=P) (w:=w) t ty s h)
theorem vindex_str {t:TypeId} {s:ByteArray} {k:IntKind} {i:Int} (h:P.underlying t=some .string) (b:0≤i) (c:i<s.size):xR0 P t (.string s) (.int k i) w K=K (.int .u8 ((s.data.getD i.toNat 0).toNat:Int)) w:=by
 refine yH ?_
 rw[run_index_string (P:=P) (w:=w) t s k i h]
 have a:i.toNat<s.size:=by omega
 have d:i.toNat<s.data.size:=a
 rw[dif_pos ⟨b,c⟩,Array.getD_eq_getD_getElem?,Array.getElem?_eq_getElem d]
 rfl
theorem Z30 {t:TypeId} {s:ByteArray} {k a:IntKind} {i j:Int} (h:P.underlying t=some .string) (b:0≤i) (c:i≤j) (d:j≤s.size):yC P t (.string s) (some (.int k i)) (some (.int a j)) none w K=K (.string (s.extract i.toNat j.toNat)) w:=by
 refine yH ?_
 rw[run_sliceAt_string w t _ _ _ _ h]
 exact run_slice_string (P:=P) w t s k a i j h b c d
theorem zV0 {c:Bool} {t:TypeId} {k yk:IntKind} {x y:Int} (h:0≤y):zq P .shl t c (.int k x) (.int yk y) w K=K (.int k (k.wrap (x*2^min y.toNat k.bits))) w:=
 yL rfl (by simp[binOp,shift_shl_any,h])
theorem kF0 {c:Bool} {t:TypeId} {k yk:IntKind} {x y:Int} (h:0≤y):zq P .shr t c (.int k x) (.int yk y) w K=K (.int k (x/2^min y.toNat k.bits)) w:=
 yL rfl (by simp[binOp,shift_shr_any,h])
theorem wrapU {n:Nat} (h:n<18446744073709551616):IntKind.u64.wrap (n:Int)=n:=by
 simp only[IntKind.wrap,IntKind.bits,IntKind.signed,Bool.false_and,Bool.false_eq_true,if_false]
 omega
theorem wrapN {n:Nat} (h:n<9223372036854775808):IntKind.i64.wrap (n:Int)=n:=zE (by omega) (by omega)
theorem Wn (n:Nat):BitVec.ofInt 64 (n:Int)=BitVec.ofNat 64 n:=by simp
theorem J4 {c:Bool} {t:TypeId} {a b:Nat} (d:a<18446744073709551616) (g:b<18446744073709551616):zq P .and t c (.int .u64 a) (.int .u64 b) w K=K (.int .u64 (a&&&b:Nat)) w:=
 yL rfl (by
  have f:a&&&b<18446744073709551616:=Nat.lt_of_le_of_lt Nat.and_le_left d
  have e:(BitVec.ofInt 64 (a:Int)&&&BitVec.ofInt 64 (b:Int)).toNat=a&&&b:=by
   rw[Wn,Wn,BitVec.toNat_and,BitVec.toNat_ofNat,BitVec.toNat_ofNat,Nat.mod_eq_of_lt d,Nat.mod_eq_of_lt g]
  simp only[binOp,ne_eq,not_true_eq_false,if_false,Op.intBits]
  show(pure (Value.int .u64 (IntKind.u64.wrap ((BitVec.ofInt 64 (a:Int)&&&BitVec.ofInt 64 (b:Int)).toNat:Int))):Sem Value).run P w=_
  rw[e,wrapU f];rfl)
theorem kG0 {c:Bool} {t:TypeId} {a b:Nat} (d:a<18446744073709551616) (f:b<18446744073709551616):zq P .or t c (.int .u64 a) (.int .u64 b) w K=K (.int .u64 (a|||b:Nat)) w:=
 yL rfl (by
  have g:a|||b<2^64:=Nat.or_lt_two_pow d f
  have e:(BitVec.ofInt 64 (a:Int)|||BitVec.ofInt 64 (b:Int)).toNat=a|||b:=by
   rw[Wn,Wn,BitVec.toNat_or,BitVec.toNat_ofNat,BitVec.toNat_ofNat,Nat.mod_eq_of_lt d,Nat.mod_eq_of_lt f]
  simp only[binOp,ne_eq,not_true_eq_false,if_false,Op.intBits]
  show(pure (Value.int .u64 (IntKind.u64.wrap ((BitVec.ofInt 64 (a:Int)|||BitVec.ofInt 64 (b:Int)).toNat:Int))):Sem Value).run P w=_
  rw[e,wrapU g];rfl)
theorem ZV0 {c:Bool} {t:TypeId} {a b:Nat} (d:a<18446744073709551616) (f:b<18446744073709551616):zq P .xor t c (.int .u64 a) (.int .u64 b) w K=K (.int .u64 (a^^^b:Nat)) w:=
 yL rfl (by
  have g:a^^^b<2^64:=Nat.xor_lt_two_pow d f
  have e:(BitVec.ofInt 64 (a:Int)^^^BitVec.ofInt 64 (b:Int)).toNat=a^^^b:=by
   rw[Wn,Wn,BitVec.toNat_xor,BitVec.toNat_ofNat,BitVec.toNat_ofNat,Nat.mod_eq_of_lt d,Nat.mod_eq_of_lt f]
  simp only[binOp,ne_eq,not_true_eq_false,if_false,Op.intBits]
  show(pure (Value.int .u64 (IntKind.u64.wrap ((BitVec.ofInt 64 (a:Int)^^^BitVec.ofInt 64 (b:Int)).toNat:Int))):Sem Value).run P w=_
  rw[e,wrapU g];rfl)
theorem vbin_orI {c:Bool} {t:TypeId} {a b:Nat} (f:a<9223372036854775808) (g:b<9223372036854775808):zq P .or t c (.int .i64 a) (.int .i64 b) w K=K (.int .i64 (a|||b:Nat)) w:=
 yL rfl (by
  have d:a|||b<2^63:=Nat.or_lt_two_pow f g
  have e:(BitVec.ofInt 64 (a:Int)|||BitVec.ofInt 64 (b:Int)).toNat=a|||b:=by
   rw[Wn,Wn,BitVec.toNat_or,BitVec.toNat_ofNat,BitVec.toNat_ofNat,Nat.mod_eq_of_lt (by omega),Nat.mod_eq_of_lt (by omega)]
  simp only[binOp,ne_eq,not_true_eq_false,if_false,Op.intBits]
  show(pure (Value.int .i64 (IntKind.i64.wrap ((BitVec.ofInt 64 (a:Int)|||BitVec.ofInt 64 (b:Int)).toNat:Int))):Sem Value).run P w=_
  rw[e,wrapN d];rfl)
theorem vun_xorU {a:Nat} (c:a<18446744073709551616):vun P .xor (.int .u64 a) w K=K (.int .u64 (18446744073709551615-a:Nat)) w:=by
 refine yH ?_
 have e:(BitVec.ofInt 64 (18446744073709551615:Int)^^^BitVec.ofInt 64 (a:Int)).toNat=18446744073709551615-a:=by
  have b:BitVec.ofInt 64 (18446744073709551615:Int)=BitVec.allOnes 64:=by decide
  rw[b,Wn,BitVec.allOnes_xor,BitVec.toNat_not,BitVec.toNat_ofNat,Nat.mod_eq_of_lt c]
 show(pure (Value.int .u64 (IntKind.u64.wrap ((BitVec.ofInt 64 (18446744073709551615:Int)^^^BitVec.ofInt 64 (a:Int)).toNat:Int))):Sem Value).run P w=_
 rw[e,wrapU (by omega)];rfl
theorem vbin_shlU {c:Bool} {t:TypeId} {yk:IntKind} {x y:Nat} (a:y<64) (h:x*2^y<18446744073709551616):zq P .shl t c (.int .u64 x) (.int yk y) w K=K (.int .u64 (x*2^y:Nat)) w:=by
 rw[zV0 (by omega)]
 have e:((x:Int)*2^min (y:Int).toNat IntKind.u64.bits)=((x*2^y:Nat):Int):=by
  have:min (y:Int).toNat IntKind.u64.bits=y:=by show min y 64=y;omega
  rw[this];simp
 rw[e,wrapU h]
theorem vbin_shlI {c:Bool} {t:TypeId} {yk:IntKind} {x y:Nat} (a:y<64) (h:x*2^y<9223372036854775808):zq P .shl t c (.int .i64 x) (.int yk y) w K=K (.int .i64 (x*2^y:Nat)) w:=by
 rw[zV0 (by omega)]
 have e:((x:Int)*2^min (y:Int).toNat IntKind.i64.bits)=((x*2^y:Nat):Int):=by
  have:min (y:Int).toNat IntKind.i64.bits=y:=by show min y 64=y;omega
  rw[this];simp
 rw[e,wrapN h]
theorem vbin_shrU {c:Bool} {t:TypeId} {yk:IntKind} {x y:Nat} (a:y<64):zq P .shr t c (.int .u64 x) (.int yk y) w K=K (.int .u64 (x/2^y:Nat)) w:=by
 rw[kF0 (by omega)]
 have:min (y:Int).toNat IntKind.u64.bits=y:=by show min y 64=y;omega
 rw[this];simp
theorem zy {t:TypeId} {cs:List Value} (h:∀b w',b=w.heap.size→Ext w w'→w'.heap.size=w.heap.size+1→Blk w' b cs t→K (.pointer (some ⟨b,0,none⟩)) w'):yo P t (.agg ⟨cs⟩) w K:=Zg h
theorem zz {t:TypeId} {cs:List Value} (a:yT P t (.agg ⟨cs⟩)) (h:∀b w',b=w.heap.size→Ext w w'→w'.heap.size=w.heap.size+1→Blk w' b cs t→K (.pointer (some ⟨b,0,none⟩)) w'):zJ P t w K:=XH a h
theorem ye {t:TypeId} {pl:List (Nat×Nat)} {ps:List (Nat×Value)} {us:List (List Value)} {zs cs:List Value} (h:strF P t=some (pl,zs)) (c:ps.map (fun p=>p.2.cells)=us.map List.toArray)
  (a:fillC pl zs (ps.map (·.1)) us=some cs):zC P t ps w K=K (.agg ⟨cs⟩) w:=by
 refine yH (run_build (P:=P) w t ⟨ps⟩ ⟨cs⟩ ?_)
 unfold strF at h
 split at h
 ·rename_i fs i hu hi
  split at h
  ·rename_i e z b d
   simp only[Option.some.injEq,Prod.mk.injEq] at h
   obtain⟨rfl,rfl⟩:=h
   simp only[Program.built,hu,hi,d,b]
   exact fill_eq c a
  ·cases h
 ·cases h
theorem Wr (s:ByteArray):IsKey .string (.string s):=by simp[IsKey]
theorem inc64' {i:Nat} (h:i<9223372036854775807):IntKind.i64.wrap ((i:Int)+1)=((i+1:Nat):Int):=by rw[zE (by omega) (by omega)];omega
end
end Go.Vc
end
section
namespace Go.Vc
open Go Go.RowKit
def hasR:Code→Bool
 | .rangeFunc _ _ _ _=>true
 | .seq a b=>hasR a||hasR b
 | .block _ b=>hasR b
 |_=>false
def ovrAt:List Nat→Fr→List Value→Fr
 |[],f,_=>f
 |p::r,f,args=>ovrAt r (put f (some p) (args.headD undef)) args.tail
def jmp (x:Nat) (Nn Nr Nx:World→Prop) (pe:Option Code) (w:World):Prop:=
 match pe with
 |none=>Nn w
 |some .ret=>Nr w
 |some (.exit i)=>i=x∧Nx w
 |_=>False
def Qj0 (P:Program) (gv:Value) (n x:Nat) (w:World) (B:List Value→(World→(World→Prop)→Prop)→(World→Prop)→(World→Prop)→(World→Prop)→World→Prop) (Nn Nr Nx:Nat→World→Prop):Prop:=
 ∃gf lb,gv= .func (.func gf) #[] lb∧∀(l D:Nat) (w1:World) (RR:LoopState→Option Code→World→Prop),D=w.heap.size→l=w.heap.size+1→Ext w w1→w1.heap.size=w.heap.size+2→w1.heap[D]?=some (.deferred (some []))→
  (∀st pe w' w'',RR st pe w'→w''.heap[l]?=w'.heap[l]?→RR st pe w'')→RR .ready none w1→
  (∀(args:List Value) (w':World) (K:Value→World→Prop),args.length=n→RR .ready none w'→
   B args (fun w1 k=>RR .ready none w1∧∀w2,Same (· =l) w1 w2→w2.heap.size=w1.heap.size→RR .busy none w2→k w2)
    (fun w3=>RR .busy none w3∧∀w4,Same (· =l) w3 w4→w4.heap.size=w3.heap.size→RR .ready none w4→K (.bool true) w4)
    (fun w3=>RR .busy none w3∧∀w4,Same (· =l) w3 w4→w4.heap.size=w3.heap.size→RR .done (some .ret) w4→K (.bool false) w4)
    (fun w3=>RR .busy none w3∧∀w4,Same (· =l) w3 w4→w4.heap.size=w3.heap.size→RR .done (some (.exit x)) w4→K (.bool false) w4) w'→
   vcallv P (.func (.yield l) #[] #[]) ⟨args⟩ w' K)→
  vcall P gf ⟨.func (.yield l) #[] #[]::lb.toList⟩ w1 fun _ w3=> ∃st pe,st≠ .busy∧RR st pe w3∧∀w4,Same (· =l) w3 w4→w4.heap.size=w3.heap.size→jmp x (Nn D) (Nr D) (Nx D) pe w4
def rndK (x:Nat) (kn kr kx:World→Prop) (e:Exit) (_:Fr) (w:World):Prop:=
 match e with
 | .normal=>kn w
 | .ret=>kr w
 | .exit i=>cond (Nat.beq i x) (kx w) False
 |_=>False
def vx (P:Program) (T:Ann) (x:Nat):Code→(Exit→Fr→World→Prop)→(Nat→Exit→Fr→World→Prop)→Fr→World→Prop
 | .rangeFunc g ps asg body,_,K1,f,w=>
  Qj0 P (ev f g) ps.size x w
   (fun args beg kn kr kx w'=>vc P T asg (seqK (fun f1 w1=>beg w1 fun w2=>vc P T body (rndK x kn kr kx) f1 w2) (fun _ _ _=>False)) (ovrAt ps.toList f args) w')
   (fun D w'=>K1 D .normal f w') (fun D w'=>K1 D .ret f w') (fun D w'=>K1 D (.exit x) f w')
 | .seq a b,K0,K1,f,w=>
  match hasR a with
  |true=>vx P T x a (seqK (fun f' w'=>vc P T b K0 f' w') K0) (fun D=>seqK (fun f' w'=>vc P T b (K1 D) f' w') (K1 D)) f w
  |false=>vc P T a (seqK (fun f' w'=>vx P T x b K0 K1 f' w') K0) f w
 | .block id c,K0,K1,f,w=>vx P T x c (blkK id K0) (fun D=>blkK id (K1 D)) f w
 |_,_,_,_,_=>False
def okX (n:Nat) (T:Ann):Code→Bool
 | .rangeFunc _ ps asg body=>okC n T asg&&(okC n T body&&ps.toList.all fun p=>Nat.blt p n)
 | .seq a b=>cond (hasR a) (okX n T a&&okC n T b) (okC n T a&&okX n T b)
 | .block _ c=>okX n T c
 |_=>false
def Ji0 (D:Nat):Deferred:={target:= .collected D,args:= #[]}
def XY0 (n:Nat) (K0:Exit→Fr→World→Prop) (K1:Nat→Exit→Fr→World→Prop) (e:Exit) (a:Act) (w:World):Prop:=
 (∃f',Sim [] n f' a∧K0 e f' w)∨ ∃D f',Sim [Ji0 D] n f' a∧K1 D e f' w
section
variable {P:Program} {T:Ann} {n x:Nat}
theorem Qs0:∀(ps:List Nat) (f:Fr) (args:List Value) (tmps:Array Value),args.length=ps.length→ps.all (fun p=>Nat.blt p n)=true→tmps.size=n→(∀t,tmps.getD t undef=f t)→
  Sim [] n (ovrAt ps f args) {tmps:=(ps.zip args).foldl (fun t p=>t.setIfInBounds p.1 p.2) tmps,defers:=[]}:=by
 intro ps
 induction ps with
 |nil=>intro f args tmps _ _ hs a;exact⟨hs,rfl,a⟩
 |cons p r g=>
  intro f args tmps d b hs a
  cases args with
  |nil=>simp at d
  |cons v args=>
   simp only[List.all_cons,Bool.and_eq_true] at b
   have c:p<n:=by simpa[Nat.blt_eq] using b.1
   refine g (put f (some p) v) args (tmps.setIfInBounds p v) (by simpa using d) b.2 (by simpa using hs) fun t=>?_
   by_cases e:t=p
   ·subst e
    rw[zY0]
    simp[Array.getD_eq_getD_getElem?,hs,c]
   ·rw[xS0 _ _ _ _ e,←a t]
    simp only[Array.getD_eq_getD_getElem?]
    rw[Array.getElem?_setIfInBounds_ne (Ne.symm e)]
theorem K9 (w:World) (l:Nat) (o:Obj):Same (· =l) w (w.putObj l o):=
 ⟨rfl,rfl,rfl,by simp,fun _ _ a=>World.putObj_heap_other a⟩
theorem Kc {w:World} {l:Nat} {o:Obj} (h:w.heap[l]?=some o):l<w.heap.size:=(Array.getElem?_eq_some_iff.1 h).1
theorem range_sound (hm:P.follows .mixedOrders=true) {g:Operand} {ps:Array Tmp} {asg body:Code} {U:Exit→Fr→World→Prop} {V:Nat→Exit→Fr→World→Prop} {f:Fr} {a:Act} {w:World}
  (A:okX n T (.rangeFunc g ps asg body)=true) (h:vx P T x (.rangeFunc g ps asg body) U V f w) (hs:Sim [] n f a):(Code.rangeFunc g ps asg body).wpIn (FR none) 0 P (XY0 n U V) a w:=by
 simp only[okX,Bool.and_eq_true] at A
 obtain⟨N,O,Q⟩:=A
 obtain⟨gf,lb,hg,H⟩:=h
 refine wpIn_rangeFunc fun fn _=>?_
 let d:LoopState→Option Code→Loop:=fun st pe=>{state:=st,pending:=pe,fn,tmps:=a.tmps,params:=ps,assign:=asg,body,defers:=w.heap.size}
 obtain⟨r,q⟩:∃r,(w.alloc (.deferred (some []))).alloc (.loop (d .ready none))=r:=⟨_,rfl⟩
 have I:r.heap[w.heap.size+1]?=some (.loop (d .ready none)):=by
  rw[←q];have:=World.alloc_heap_new (w.alloc (.deferred (some []))) (.loop (d .ready none));rwa[World.size_alloc] at this
 have hD1:r.heap[w.heap.size]?=some (.deferred (some [])):=by
  rw[←q];exact(Below.heap_alloc _ _ _ (by simp)).trans (World.alloc_heap_new w _)
 have E:r.heap.size=w.heap.size+2:=by rw[←q,World.size_alloc,World.size_alloc]
 have G:Ext w r:=by
  rw[←q]
  exact⟨rfl,rfl,rfl,by rw[World.size_alloc,World.size_alloc];omega,fun b Z _=>(Below.heap_alloc _ _ b (by rw[World.size_alloc];omega)).trans (Below.heap_alloc w _ b Z)⟩
 have hc:=H (w.heap.size+1) w.heap.size r (fun st pe w'=>w'.heap[w.heap.size+1]?=some (.loop (d st pe))) rfl rfl G E hD1 (fun st pe w' w'' B he=>he.trans B) I ?_
 ·obtain⟨J,s⟩:=hc
  refine⟨w.heap.size+1,[Ji0 w.heap.size],r,{target:= .fn (.func gf) lb,args:= #[.func (.yield (w.heap.size+1)) #[] #[]]},r,gf,
   #[.func (.yield (w.heap.size+1)) #[] #[]]++lb,r,?_,?_,fun _ _=>trivial,?_,fun h=>(by cases h),?_⟩
  ·rw[←q];exact run_enterLoop_outer _ _ _ _ _
  ·simp only[resolve,hs.eval,hg]
   simp[go_sem,ev]
  ·simp[invoke,go_sem,callFunc_run J]
  ·have e:(#[.func (.yield (w.heap.size+1)) #[] #[]]++lb:Array Value)=⟨.func (.yield (w.heap.size+1)) #[] #[]::lb.toList⟩:=by apply Array.toList_inj.1;simp
   rw[e]
   refine callsIn_wide.2 (Calls.mono s fun e F he=>?_)
   cases e with
   |returned v=>
    obtain⟨st,pe,S,B,Y⟩:=he
    have y:=run_endLoop (P:=P) B (by exact S)
    have m:=Y _ (K9 F _ (.loop {d st pe with state:= .exhausted})) (by simp)
    have u:Sim [Ji0 w.heap.size] n f {a with defers:=[Ji0 w.heap.size]++a.defers}:=⟨hs.size,by rw[hs.defers];rfl,hs.at_⟩
    refine⟨pe,_,y,?_⟩
    cases pe with
    |none=>exact .inr ⟨_,f,u,m⟩
    |some c=>
     cases c<;>simp only[jmp] at m<;>try exact m.elim
     case exit i=>
      obtain⟨rfl,m⟩:=m
      exact wpIn_exit (.inr ⟨_,f,u,m⟩)
     case ret=>exact wpIn_ret (.inr ⟨_,f,u,m⟩)
   |panicked c=>exact he.elim
   |outgrown=>exact he.elim
 ·intro args w' K hlen B X
  have hy:=run_yield (P:=P) (args:=(⟨args⟩:Array Value)) B (by simpa[d] using hlen)
  refine⟨fn,_,asg,body,hy,roundIn_of_wpIn trivial ?_⟩
  have D:=Qs0 (n:=n) ps.toList f args a.tmps (by simpa using hlen) Q hs.size hs.at_
  have ez:((d .ready none).params.zip (⟨args⟩:Array Value)).foldl (fun tmps (t,a)=>tmps.setIfInBounds t a) (d .ready none).tmps=(ps.toList.zip args).foldl (fun t p=>t.setIfInBounds p.1 p.2) a.tmps:=by
   rw[←Array.foldl_toList,Array.toList_zip]
  rw[ez]
  have W:=vc_sound (ro:=some (w.heap.size+1)) hm asg _ _ _ w' N X D (fun l f w h=>h)
  refine wpIn_mono W ?_
  rintro e a2 w2 ⟨f2,R,_,z⟩
  cases e<;>simp only[seqK] at z<;>try exact z.elim
  case normal=>
   obtain⟨C,z⟩:=z
   refine⟨_,run_beginRound C rfl,?_⟩
   have M:=Kc C
   have L:=z _ (K9 w2 _ (.loop {d .ready none with state:= .busy})) (by simp) (World.putObj_heap_same M)
   refine wpIn_mono (vc_sound (ro:=some (w.heap.size+1)) hm body _ _ _ _ O L R (fun l f w h=>h)) ?_
   rintro e a3 F ⟨f3,a0,_,j⟩
   cases e<;>simp only[rndK] at j<;>try exact j.elim
   case normal=>
    obtain⟨k,o⟩:=j
    exact⟨_,_,run_endRound none k,o _ (K9 F _ _) (by simp) (World.putObj_heap_same (Kc k))⟩
   case ret=>
    obtain⟨k,o⟩:=j
    exact⟨_,_,run_endRound (some .ret) k,o _ (K9 F _ _) (by simp) (World.putObj_heap_same (Kc k))⟩
   case exit i=>
    cases hi:Nat.beq i x
    ·rw[hi] at j;exact j.elim
    ·rw[hi] at j
     obtain rfl:=Nat.eq_of_beq_eq_true hi
     obtain⟨k,o⟩:=j
     exact⟨_,_,run_endRound (some (.exit i)) k,o _ (K9 F _ _) (by simp) (World.putObj_heap_same (Kc k))⟩
theorem X30 (hm:P.follows .mixedOrders=true):∀(c:Code) (p:Exit→Fr→World→Prop) (q:Nat→Exit→Fr→World→Prop) (f:Fr) (a:Act) (w:World),okX n T c=true→vx P T x c p q f w→Sim [] n f a→
  (∀l f w,¬p (.goto l) f w)→(∀D l f w,¬q D (.goto l) f w)→c.wpIn (FR none) 0 P (XY0 n p q) a w:=by
 intro c
 induction c with
 |rangeFunc g ps asg body _ _=>intro p q f a w d h hs _ _;exact range_sound hm d h hs
 |seq y z ihy ihz=>
  intro p q f a w d h hs o s
  refine wpIn_seq ?_
  simp only[okX] at d
  simp only[vx] at h
  cases E:hasR y with
  |true=>
   rw[E] at d h
   simp only[cond,Bool.and_eq_true] at d
   simp only at h
   refine wpIn_mono (ihy _ _ f a w d.1 h hs (fun l f w h=>o l f w h) (fun D l f w h=>s D l f w h)) ?_
   rintro e r w' (⟨m,j,k⟩|⟨D,m,j,k⟩)
   ·cases e with
    |normal=>
     refine wpIn_mono (vc_sound hm z p m r w' d.2 k j o) ?_
     rintro e A w'' ⟨u,t,_,v⟩
     exact .inl ⟨u,t,v⟩
    |_=>exact .inl ⟨m,j,k⟩
   ·cases e with
    |normal=>
     refine wpIn_mono (vc_sound hm z (q D) m r w' d.2 k j (s D)) ?_
     rintro e A w'' ⟨u,t,_,v⟩
     exact .inr ⟨D,u,t,v⟩
    |_=>exact .inr ⟨D,m,j,k⟩
  |false=>
   rw[E] at d h
   simp only[cond,Bool.and_eq_true] at d
   simp only at h
   refine wpIn_mono (vc_sound hm y _ f a w d.1 h hs (fun l f w h=>o l f w h)) ?_
   rintro e r w' ⟨m,j,_,k⟩
   cases e with
   |normal=>exact ihz p q m r w' d.2 k j o s
   |_=>exact .inl ⟨m,j,k⟩
 |block id b F=>
  intro p q f a w d h hs o s
  simp only[vx] at h
  refine wpIn_block (wpIn_mono (F _ _ f a w d h hs (fun l f w h=>o l f w h) (fun D l f w h=>s D l f w h)) ?_)
  have key:∀(K:Exit→Fr→World→Prop) (e:Exit) (m:Fr) (w':World),blkK id K e m w'→∀(df:List Deferred) (r:Act),Sim df n m r→(∀e f w a,Sim df n f a→K e f w→XY0 n p q e a w)→Exit.inBlock id (XY0 n p q) e r w':=by
   intro K e m w' k df r j B
   cases e with
   |exit i=>
    simp only[blkK] at k
    cases hi:Nat.beq i id
    ·rw[hi] at k
     have C:i≠id:=Nat.ne_of_beq_eq_false hi
     simp only[Exit.inBlock,C,if_false]
     exact B _ _ _ _ j k
    ·rw[hi] at k
     have:i=id:=Nat.eq_of_beq_eq_true hi
     subst this
     simp only[Exit.inBlock,if_true]
     exact B _ _ _ _ j k
   |_=>exact B _ _ _ _ j k
  rintro e r w' (⟨m,j,k⟩|⟨D,m,j,k⟩)
  ·exact key p e m w' k [] r j fun e f w a hs h=> .inl ⟨f,hs,h⟩
  ·exact key (q D) e m w' k [Ji0 D] r j fun e f w a hs h=> .inr ⟨D,f,hs,h⟩
 |_=>intro p q f a w d;exact absurd d (by simp[okX])
def q40 (D:Nat) (w:World) (k:World→Prop):Prop:=w.heap[D]?=some (.deferred (some []))∧∀w',Same (· =D) w w'→w'.heap.size=w.heap.size→k w'
def retM (P:Program) (rs:List ResultVar) (K:Value→World→Prop) (D:Nat) (e:Exit) (f:Fr) (w:World):Prop:=
 match e with
 | .normal=>q40 D w fun w'=>QT0 P rs f w' K
 | .ret=>q40 D w fun w'=>QT0 P rs f w' K
 |_=>False
theorem ze0 {g:Nat} {fn:Func} {c:Code} {args:List Value} {w:World} {K:Value→World→Prop} (hm:P.follows .mixedOrders=true) (r:P.funcs[g]?=some fn) (q:fn.body=some c)
  (t:fn.ntmps=n) (s:okFn P g=true) (j:okX n T c=true) (hlen:Nat.ble args.length n=true)
  (h:vx P T x c (retF P fn.results.toList K) (retM P fn.results.toList K) (nthV args) w):vcall P g args.toArray w K:=by
 refine⟨s,callsIn_wide (n:=0).1 (callsIn_of_wp_marks r q trivial ?_)⟩
 rw[t]
 refine wpIn_mono (X30 (x:=x) hm c _ _ _ _ w j h (sim_enter args n (Nat.le_of_ble_eq_true hlen)) (fun l f w h=>h) (fun D l f w h=>h)) ?_
 rintro e k w' (⟨m,a,b⟩|⟨D,m,a,b⟩)
 ·cases e with
  |normal=>obtain⟨v,d,i⟩:=vres_sound b a;rw[bodyPostM,a.defers];exact⟨v,d,i⟩
  |ret=>obtain⟨v,d,i⟩:=vres_sound b a;rw[bodyPostM,a.defers];exact⟨v,d,i⟩
  |_=>exact b.elim
 ·have fin:q40 D w' (fun w'=>QT0 P fn.results.toList m w' K)→LeavesInM (FR none) 0 P fn k.tmps (retK K) k.defers .returning w':=by
   rintro⟨o,p⟩
   rw[a.defers]
   obtain⟨v,d,i⟩:=vres_sound (p _ (K9 w' D (.deferred none)) (by simp)) a
   exact⟨by simp,.inl ⟨_,_,rfl,run_takeDeferred o,v,d,i⟩⟩
  cases e with
  |normal=>exact fin b
  |ret=>exact fin b
  |_=>exact b.elim
end
end Go.Vc
end
section
namespace Go.M
inductive Tm where
 |mk (op a b:Int) (s:ByteArray) (ks:List Tm)
namespace Tm
def op:Tm→Int|mk o _ _ _ _=>o
def a:Tm→Int|mk _ a _ _ _=>a
def b:Tm→Int|mk _ _ b _ _=>b
def s:Tm→ByteArray|mk _ _ _ s _=>s
def ks:Tm→List Tm|mk _ _ _ _ ks=>ks
theorem ind {p:Tm→Prop} (h:∀t,(∀k,k∈t.ks→p k)→p t):∀t,p t
 |mk o a b s ks=>h _ fun k (c:k∈ks)=>by
   have:=List.sizeOf_lt_of_mem c
   exact ind h k
decreasing_by
 simp only[mk.sizeOf_spec]
 omega
variable {α:Type}
mutual
def fold (f:Tm→List α→α):Tm→α
 |mk o a b s ks=>f (mk o a b s ks) (foldL f ks)
def foldL (f:Tm→List α→α):List Tm→List α
 |[]=>[]
 |k::r=>fold f k::foldL f r
end
theorem foldL_eq (f:Tm→List α→α) (ks:List Tm):foldL f ks=ks.map (fold f):=by
 induction ks with
 |nil=>simp only[foldL,List.map_nil]
 |cons k r a=>simp only[foldL,a,List.map_cons]
theorem fold_eq (f:Tm→List α→α) (t:Tm):fold f t=f t (t.ks.map (fold f)):=by
 cases t with
 |mk o a b s ks=>simp only[fold,foldL_eq];rfl
end Tm
def nada:ByteArray:=⟨#[]⟩
instance:Inhabited Tm:=⟨.mk 0 0 0 nada []⟩
def vok (w n:Int):Bool:=decide (1≤w)&&decide (w≤4)&&decide (0≤n)&&decide (n<2^w.toNat)
theorem vok_iff {w n:Int}:vok w n=true↔1≤w∧w≤4∧0≤n∧n<2^w.toNat:=by simp[vok,and_assoc]
theorem Jc0:(2:Int)^(1:Int).toNat=2:=rfl
theorem Jb0:(2:Int)^(2:Int).toNat=4:=rfl
theorem Ja0:(2:Int)^(3:Int).toNat=8:=rfl
theorem J90:(2:Int)^(4:Int).toNat=16:=rfl
theorem four {w:Int} (a:1≤w) (b:w≤4):w=1∨w=2∨w=3∨w=4:=by omega
theorem vok_lt {w n:Int} (h:vok w n=true):1≤w∧w≤4∧0≤n∧n<16:=by
 obtain⟨a,b,c,d⟩:=vok_iff.1 h
 refine⟨a,b,c,?_⟩
 rcases four a b with rfl|rfl|rfl|rfl<;>simp only[Jc0,Jb0,Ja0,J90] at d<;>omega
theorem small1 {p:Nat→Nat→Prop} [∀w n,Decidable (p w n)] (h:∀w:Fin 5,∀n:Fin 16,1≤w.1→n.1<2^w.1→p w n) {w n:Int} (a:vok w n=true):p w.toNat n.toNat:=by
 obtain⟨b,c,d,e⟩:=vok_lt a
 obtain⟨_,_,_,f⟩:=vok_iff.1 a
 refine h ⟨w.toNat,by omega⟩ ⟨n.toNat,by omega⟩ (by show 1≤w.toNat;omega) ?_
 show n.toNat<2^w.toNat
 have:((2^w.toNat:Nat):Int)=2^w.toNat:=by simp
 omega
def unM (op w a:Int):Int:=if op=1 then 2^w.toNat-1-a else(2^w.toNat-a)%2^w.toNat
def binN (op w a b:Nat):Nat:=
 if op=3 then a&&&b
 else if op=4 then a|||b
 else if op=5 then a^^^b
 else if op=6 then(a+b)%2^w
 else if op=7 then(a+2^w-b)%2^w
 else if op=8 then a*b%2^w
 else if op=9 then(if b=0 then 2^w-1 else a/b)
 else if op=10 then(if b=0 then a else a%b)
 else if op=11 then a*2^b%2^w
 else if op=12 then a/2^b
 else if a<2^(w-1) then a/2^b else 2^w-1-(2^w-1-a)/2^b
def QM0 (op w a b:Int):Int:=binN op.toNat w.toNat a.toNat b.toNat
def Qf0 (v a b:Int):Int:=a*2^v.toNat+b
def sgn (w a:Int):Int:=if a<2^(w.toNat-1) then a else a-2^w.toNat
def cmpM (op w a b:Int):Bool:=if op=15 then decide (a=b) else if op=16 then decide (a<b) else decide (sgn w a<sgn w b)
def cutM (a hi lo:Int):Int:=a/2^lo.toNat%2^(hi-lo+1).toNat
theorem unM_ok {op w a:Int} (h:vok w a=true):vok w (unM op w a)=true:=by
 obtain⟨b,c,e,d⟩:=vok_iff.1 h
 refine vok_iff.2 ⟨b,c,?_⟩
 unfold unM
 rcases four b c with rfl|rfl|rfl|rfl<;>simp only[Jc0,Jb0,Ja0,J90] at d⊢ <;>split<;>omega
def Jv0 (op w:Nat):Bool:=(List.range 16).all fun a=>(List.range 16).all fun b=> !(decide (a<2^w)&&decide (b<2^w))||decide (binN op w a b<2^w)
theorem binN_lt {op w a b:Nat} (f:3≤op) (h:op≤13) (hw:1≤w) (d:w≤4) (g:a<2^w) (i:b<2^w):binN op w a b<2^w:=by
 have c:∀o:Fin 14,∀v:Fin 5,3≤o.1→1≤v.1→Jv0 o v=true:=by decide+kernel
 have e:2^w≤2^4:=Nat.pow_le_pow_right (by omega) d
 have:=c ⟨op,by omega⟩ ⟨w,by omega⟩ f hw
 simp only[Jv0,List.all_eq_true,List.mem_range,Bool.or_eq_true,Bool.not_eq_true',Bool.and_eq_false_iff,decide_eq_false_iff_not,decide_eq_true_eq] at this
 rcases this a (by omega) b (by omega) with(h|h)|h
 ·exact absurd g h
 ·exact absurd i h
 ·exact h
theorem binM_ok {op w a b:Int} (k:3≤op) (d:op≤13) (i:vok w a=true) (j:vok w b=true):vok w (QM0 op w a b)=true:=by
 obtain⟨c,f,l,m⟩:=vok_iff.1 i
 obtain⟨_,_,g,h⟩:=vok_iff.1 j
 have e:((2^w.toNat:Nat):Int)=2^w.toNat:=by simp
 have:=binN_lt (op:=op.toNat) (w:=w.toNat) (a:=a.toNat) (b:=b.toNat) (by omega) (by omega) (by omega) (by omega) (by omega) (by omega)
 refine vok_iff.2 ⟨c,f,by unfold QM0;omega,?_⟩
 unfold QM0;omega
theorem cat_ok {v w a b:Int} (g:vok w a=true) (h:vok v b=true) (hs:w+v≤4):vok (w+v) (Qf0 v a b)=true:=by
 obtain⟨c,d,l,f⟩:=vok_iff.1 g
 obtain⟨i,j,m,k⟩:=vok_iff.1 h
 refine vok_iff.2 ⟨by omega,hs,?_⟩
 unfold Qf0
 have e:(w+v).toNat=w.toNat+v.toNat:=by omega
 rw[e,Int.pow_add]
 rcases four c d with rfl|rfl|rfl|rfl<;>rcases four i j with rfl|rfl|rfl|rfl<;>simp only[Jc0,Jb0,Ja0,J90] at f k⊢ <;>omega
theorem cut_ok {w a hi lo:Int} (b:vok w a=true) (c:0≤lo) (h:lo≤hi) (hw:hi<w):vok (hi-lo+1) (cutM a hi lo)=true:=by
 obtain⟨d,e,f,g⟩:=vok_iff.1 b
 refine vok_iff.2 ⟨by omega,by omega,?_⟩
 unfold cutM
 have:(0:Int)<2^(hi-lo+1).toNat:=Int.pow_pos (by omega)
 exact⟨Int.emod_nonneg _ (by omega),Int.emod_lt_of_pos _ this⟩
def vecUn (op w n:Int):(Int×Int)×Bool:=if vok w n=true∧(op=1∨op=2) then((w,unM op w n),true) else((0,0),false)
def vecBin (op w n v m:Int):(Int×Int)×Bool:=
 if vok w n=true∧vok v m=true then
  if op=14 then(if w+v≤4 then((w+v,Qf0 v n m),true) else((0,0),false))
  else if 3≤op∧op≤13∧w=v then((w,QM0 op w n m),true) else((0,0),false)
 else((0,0),false)
def vecCmp (op w n v m:Int):Bool×Bool:=
 if vok w n=true∧vok v m=true∧w=v∧15≤op∧op≤17 then(cmpM op w n m,true) else(false,false)
def vecCut (w n hi lo:Int):(Int×Int)×Bool:=if vok w n=true∧0≤lo∧lo≤hi∧hi<w then((hi-lo+1,cutM n hi lo),true) else((0,0),false)
theorem vok_nat {w n:Int} (h:vok w n=true):∃k a:Nat,w=k∧n=a∧1≤k∧k≤4∧a<2^k:=by
 obtain⟨b,c,d,e⟩:=vok_iff.1 h
 refine⟨w.toNat,n.toNat,by omega,by omega,by omega,by omega,?_⟩
 have:((2^w.toNat:Nat):Int)=2^w.toNat:=by simp
 omega
theorem unM_not {k a:Nat} (c:1≤k) (d:k≤4) (h:a<2^k):unM 1 k a=((18446744073709551615-a)%2^k:Nat):=by
 have b:∀v:Fin 5,∀x:Fin 16,1≤v.1→x.1<2^v.1→unM 1 v.1 x.1=((18446744073709551615-x.1)%2^v.1:Nat):=by decide+kernel
 have:2^k≤2^4:=Nat.pow_le_pow_right (by omega) d
 exact b ⟨k,by omega⟩ ⟨a,by omega⟩ c h
theorem unM_neg {k a:Nat} (c:1≤k) (d:k≤4) (h:a<2^k):unM 2 k a=((if a=0 then 0 else 18446744073709551616-a)%2^k:Nat):=by
 have b:∀v:Fin 5,∀x:Fin 16,1≤v.1→x.1<2^v.1→unM 2 v.1 x.1=((if x.1=0 then 0 else 18446744073709551616-x.1)%2^v.1:Nat):=by decide+kernel
 have:2^k≤2^4:=Nat.pow_le_pow_right (by omega) d
 exact b ⟨k,by omega⟩ ⟨a,by omega⟩ c h
theorem cat_or {k v a b:Nat} (d:v≤4) (f:k≤4) (i:a<2^k) (e:b<2^v):((a*2^v|||b:Nat):Int)=Qf0 v a b:=by
 have c:∀v:Fin 5,∀x y:Fin 16,y.1<2^v.1→x.1*2^v.1|||y.1=x.1*2^v.1+y.1:=by decide+kernel
 have g:2^k≤2^4:=Nat.pow_le_pow_right (by omega) f
 have h:2^v≤2^4:=Nat.pow_le_pow_right (by omega) d
 have:=c ⟨v,by omega⟩ ⟨a,by omega⟩ ⟨b,by omega⟩ e
 simp only at this
 rw[this]
 simp[Qf0]
end Go.M
end
