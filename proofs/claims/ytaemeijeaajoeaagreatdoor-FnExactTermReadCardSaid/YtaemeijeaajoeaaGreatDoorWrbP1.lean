import Derived.Test.YtaemeijeaajoeaaGreatDoorWrbP0
import Derived.Scope
import Derived.Laws.World
import Derived.Below
import Derived.IntWalk
import Derived.Laws.AppendOwn
import Derived.Laws.OwnMore
import Derived.Laws.Slices
import Derived.Laws.Tables
import Derived.Laws.Cover3
import Derived.Laws.CopyRow
import Derived.MapKept
import Derived.Laws.IdiomRangeMap
import Derived.Laws.Small
import Derived.Laws.Entries
import Derived.Laws.Strings2
import Derived.Laws.Concat
import Derived.Laws.StructEq
import Derived.Laws.Shifts
import Derived.Laws.Build
import Derived.RangeFuncRecord
/- A part of the proof. -/
set_option linter.unusedVariables false
set_option linter.unusedSimpArgs false
set_option linter.unnecessarySimpa false
set_option linter.unusedSectionVars false
section
namespace Go.Vc
open Go
def lookN {α:Type} (k:Nat):List (Nat×α)→Option α
 |[]=>none
 |p::r=>cond (Nat.beq k p.1) (some p.2) (lookN k r)
structure Ann where
 ord:List (Nat×List Nat×List (Nat×List Nat)):=[]
 loops:List (Nat×List Nat):=[]
 cuts:List (Nat×List Nat):=[]
 trees:List (Nat×OT×List (Nat×List Nat)):=[]
 pars:List (Nat×List Nat×List Nat×List Nat×List (Nat×List Nat)):=[]
def firstR:Code→Option Nat
 | .region id _ _=>some id
 | .seq a b=>match firstR a with|some i=>some i|none=>firstR b
 | .cond _ a b=>match firstR a with|some i=>some i|none=>firstR b
 | .block _ b=>firstR b
 | .loop b=>firstR b
 | .scope b=>firstR b
 |_=>none
def dsts:List Oper→List Nat→List Nat
 |[],l=>l
 |o::r,l=>match o.dst with|some d=>d::dsts r l|none=>dsts r l
def mods:Code→List Nat→List Nat
 | .region _ ops _,l=>dsts ops.toList l
 | .seq a b,l=>mods a (mods b l)
 | .cond _ a b,l=>mods a (mods b l)
 | .block _ b,l=>mods b l
 | .loop b,l=>mods b l
 | .scope b,l=>mods b l
 |_,l=>l
theorem mem_dsts {t:Nat}:∀{ops:List Oper} {l:List Nat},t∈dsts ops l↔(∃o,o∈ops/\o.dst=some t)\/t∈l:=by
 intro ops;induction ops with
 |nil=>intro l;simp[dsts]
 |cons o r c=>
  intro l;simp only[dsts];cases b:o.dst with
  |none=>
   simp only[c,List.mem_cons];constructor
   ·rintro(⟨x,a,h⟩|h);exact .inl ⟨x,.inr a,h⟩;exact .inr h
   ·rintro(⟨x,rfl|a,h⟩|h);rw[b] at h;cases h;exact .inl ⟨x,a,h⟩;exact .inr h
  |some d=>
   simp only[List.mem_cons,c];constructor
   ·rintro(rfl|⟨x,a,h⟩|h);exact .inl ⟨o,.inl rfl,b⟩;exact .inl ⟨x,.inr a,h⟩;exact .inr h
   ·rintro(⟨x,rfl|a,h⟩|h);rw[b] at h;exact .inl (Option.some.inj h).symm;exact .inr (.inl ⟨x,a,h⟩);exact .inr (.inr h)
theorem mem_mods {t:Nat}:∀(c:Code) (l:List Nat),t∈mods c l↔t∈mods c []\/t∈l:=by
 intro c;induction c with
 |region id ops d=>intro l;simp only[mods,mem_dsts,List.not_mem_nil,or_false]
 |seq a b iha ihb=>intro l;simp only[mods];rw[iha,ihb l,iha (mods b [])];simp only[or_assoc]
 |cond x a b iha ihb=>intro l;simp only[mods];rw[iha,ihb l,iha (mods b [])];simp only[or_assoc]
 |block i b e=>intro l;simp only[mods];exact e l
 |loop b e=>intro l;simp only[mods];exact e l
 |scope b e=>intro l;simp only[mods];exact e l
 |_=>intro l;simp[mods]
def yN (A:(List Value→World→Prop)→Prop) (B:List Value→Fr→World→Prop):Prop:= ∃J,A J∧∀u g w,J u w→B u g w
def yD (z:List Value) (w:World) (B:(List Value→World→Prop)→List Value→Fr→World→Prop):Prop:=
 ∃I:Nat→List Value→World→Prop,(∃n,I n z w)∧∀n u g w',I n u w'→B (fun u' w''=> ∃m,m<n∧I m u' w'') u g w'
def x9 (w:World) (K:World→Prop):Prop:=K {w with drawn:=w.drawn+1}
def seqK (N:Fr→World→Prop) (K:Exit→Fr→World→Prop) (e:Exit) (f:Fr) (w:World):Prop:=
 match e with
 | .normal=>N f w
 |e=>K e f w
def blkK (id:Nat) (K:Exit→Fr→World→Prop) (e:Exit) (f:Fr) (w:World):Prop:=
 match e with
 | .exit i=>cond (Nat.beq i id) (K .normal f w) (K (.exit i) f w)
 |e=>K e f w
def lookD (T:List (Nat×List Nat)) (s:Nat):List Nat:=match lookN s T with|some l=>l|none=>[]
def upto:Nat→Nat→List Nat
 |0,_=>[]
 |n+1,k=>k::upto n (k+1)
def lenO:List Oper→Nat
 |[]=>0
 |_::r=>lenO r+1
def Ua (T:Ann) (a c:Code):Option (List Nat):=match firstR c with|some i=>lookN (Nat.add (Nat.mul (match firstR a with|some j=>j+1 |none=>0) 4096) i) T.cuts|none=>none
def Wb (T:Ann) (c:Code):Option (List Nat):=match firstR c with|some i=>lookN i T.loops|none=>none
def vc [ZP] (P:Program) (T:Ann):Code→(Exit→Fr→World→Prop)→Fr→World→Prop
 | .skip,K,f,w=>K .normal f w
 | .label _,K,f,w=>K .normal f w
 | .region id ops dr,K,f,w=>
  match dr with
  |false=>vops P ops.toList false (fun _=>[]) (fun f w=>K .normal f w) (upto (lenO ops.toList) 0) [] [] f w
  |true=>match lookN id T.ord with
   |some p=>x9 w fun w=>vops P ops.toList true (lookD p.2) (fun f w=>K .normal f w) p.1 [] [] f w
   |none=>match lookN id T.trees with
    |some p=>x9 w fun w=>vopsT P ops.toList (lookD p.2) (fun f w=>K .normal f w) p.1 [] [] f w
    |none=>match lookN id T.pars with
     |some p=>x9 w fun w=>vopsP P ops.toList (lookD p.2.2.2) p.2.1 p.2.2.1 (fun f w=>K .normal f w) p.1 [] [] f w
     |none=>False
 | .seq a b,K,f,w=>
  match Ua T a b with
  |some L=>yN (fun J=>vc P T a (seqK (fun f' w'=>J (selL L f') w') K) f w) (fun u g w'=>vc P T b K (hav f L (mods a []) u g) w')
  |none=>vc P T a (seqK (fun f' w'=>vc P T b K f' w') K) f w
 | .cond c a b,K,f,w=>vif (ev f c) (vc P T a K f w) (vc P T b K f w)
 | .block id b,K,f,w=>vc P T b (blkK id K) f w
 | .loop b,K,f,w=>
  match Wb T b with
  |some L=>yD (selL L f) w fun C u g w'=>vc P T b (seqK (fun f' w''=>C (selL L f') w'') K) (hav f L (mods b []) u g) w'
  |none=>False
 | .exit id,K,f,w=>K (.exit id) f w
 | .ret,K,f,w=>K .ret f w
 | .scope b,K,f,w=>vc P T b K f w
 |_,_,_,_=>False
def okC (n:Nat) (T:Ann):Code→Bool
 | .region id ops dr=>Xb n ops.toList&&(match dr with
  |false=>true
  |true=>match lookN id T.ord with
   |some p=>Jl ops (lookD p.2) p.1&&allN (fun q=>allN (fun x=>memN x p.1) (lookD p.2 q)) (p.2.map (·.1))
   |none=>match lookN id T.trees with
    |some p=>QI ops (lookD p.2) p.1
    |none=>match lookN id T.pars with
     |some p=>chkPar ops (lookD p.2.2.2) p.1 p.2.1 p.2.2.1&&Ka ops.toList p.2.1 p.2.2.1
     |none=>false)
 | .seq a b=>okC n T a&&okC n T b
 | .cond _ a b=>okC n T a&&okC n T b
 | .block _ b=>okC n T b
 | .loop b=>okC n T b
 | .scope b=>okC n T b
 |_=>true
theorem Wq (n k:Nat):upto n k=List.range' k n:=by
 induction n generalizing k with
 |zero=>rfl
 |succ n a=>simp only[upto,a];rfl
theorem Wz (l:List Oper):lenO l=l.length:=by induction l<;>simp_all[lenO]
theorem KR {α:Type} {k:Nat} {T:List (Nat×α)} {x:α} (h:lookN k T=some x):k∈T.map (·.1):=by
 induction T with
 |nil=>cases h
 |cons p r b=>
  simp only[lookN] at h;cases a:Nat.beq k p.1
  ·rw[a] at h;exact List.mem_cons_of_mem _ (b h)
  ·simp[Nat.eq_of_beq_eq_true a]
theorem VL {T:List (Nat×List Nat)} {π:List Nat} (h:allN (fun q=>allN (fun x=>memN x π) (lookD T q)) (T.map (·.1))=true):∀s x,x∈lookD T s->x∈π:=by
 intro s x a;have c:s∈T.map (·.1):=by
  unfold lookD at a;cases b:lookN s T with
  |none=>rw[b] at a;cases a
  |some l=>exact KR b
 exact memN_iff.1 (W1.1 (W1.1 h s c) x a)
def Post [ZP] (df:List Deferred) (n:Nat) (M:List Nat) (f:Fr) (K:Exit→Fr→World→Prop) (e:Exit) (a:Act) (w:World):Prop:=
 (∃c,e= .panic c∧ZP.z c w∧a.defers=df)∨ ∃f',Sim df n f' a∧(∀t,t∉M→f' t=f t)∧K e f' w
theorem U6 {p:Nat->Prop} (h:∃n,p n):∃n,p n/\∀m,p m->n<=m:=by
 obtain⟨n,c⟩:=h;induction n using Nat.strongRecOn with
 |_ n d=>
  by_cases hm:∃m,m<n/\p m
  ·obtain⟨m,a,b⟩:=hm;exact d m a b
  ·exact⟨n,c,fun m b=>Nat.le_of_not_lt fun a=>hm ⟨m,a,b⟩⟩
open Classical in
noncomputable def rank (p:Nat→Prop):Nat:=if h:∃n,p n then Classical.choose (U6 h) else 0
theorem Jc {p:Nat->Prop} (h:∃n,p n):p (rank p)/\∀m,p m->rank p<=m:=by
 unfold rank;rw[dif_pos h];exact Classical.choose_spec (U6 h)
theorem Sim.fr {df:List Deferred} {n:Nat} {f:Fr} {a:Act} (h:Sim df n f a):(fun t=>a.tmps.getD t undef)=f:=funext h.at_
theorem xI {P:Program} {b:Frame} {a:Act} {k:List Item} {cs:List Frame} {w:World} {c:Code}:step P (lone (b.atR a (.code (.scope c)::k)) cs w)= .next (lone (b.atR a (.code c:: .inScope c::k)) cs w):=
 step_lone_go (by simp[stepG,stepG.exec,Frame.atR])
theorem Qw {P:Program} {b:Frame} {a:Act} {k:List Item} {cs:List Frame} {w:World} {c:Code}:step P (lone (b.atR a (.inScope c::k)) cs w)= .next (lone (b.atR a k) cs w):=
 step_lone_go (by simp[stepG,stepG.exec,Frame.atR])
theorem wpIn_scope_straight {ro:Option Nat} {P:Program} {Q:Exit->Act->World->Prop} {a:Act} {w:World} {c:Code} (h:c.wpIn (FR ro) 0 P (Exit.noGoto Q) a w):(Code.scope c).wpIn (FR ro) 0 P Q a w:=by
 intro b k cs o i m;have f:(lone (b.atR a (.code (.scope c)::k)) cs w).fenced P (FR ro):=fenced_calm i m rfl;obtain⟨e,a₁,w₁,g,d⟩:=h b (.inScope c::k) cs o i m;cases e with
 |normal=>exact⟨.normal,a₁,w₁,g,.head f xI (StepsIn.trans d (.one (fenced_calm i m rfl) Qw))⟩
 |exit id=>
  have p:exitTo id (.inScope c::k)=exitTo id k:=(by simp[exitTo]);exact⟨.exit id,a₁,w₁,g,fun s j=> .head f xI (d.1 s (by rw[p];exact j)),
   fun n j=>let ⟨k₁,q,r⟩:=d.2 n (by rw[p];exact j);⟨k₁,q,.head f xI r⟩⟩
 |goto l=>exact g.elim
 |ret=>exact⟨_,a₁,w₁,g,.of_steps (.one f xI) d⟩
 |panic ch=>exact⟨_,a₁,w₁,g,.of_steps (.one f xI) d⟩
 |outgrown=>exact⟨_,a₁,w₁,g,.of_steps (.one f xI) d⟩
section
variable {ro:Option Nat} {df:List Deferred} {P:Program} {T:Ann} {n:Nat}
theorem vc_sound [ZP] (hm:P.follows .mixedOrders=true):∀(c:Code) (K:Exit->Fr->World->Prop) (f:Fr) (a:Act) (w:World),okC n T c=true->vc P T c K f w->Sim df n f a->(∀l f w,¬K (.goto l) f w)->
  c.wpIn (FR ro) 0 P (Post df n (mods c []) f K) a w:=by
 intro c;induction c with
 |skip=>intro K f a w _ h u _;exact wpIn_skip (.inr ⟨f,u,fun _ _=>rfl,h⟩)
 |label l=>intro K f a w _ h u _;exact wpIn_label (.inr ⟨f,u,fun _ _=>rfl,h⟩)
 |exit id=>intro K f a w _ h u _;exact wpIn_exit (.inr ⟨f,u,fun _ _=>rfl,h⟩)
 |ret=>intro K f a w _ h u _;exact wpIn_ret (.inr ⟨f,u,fun _ _=>rfl,h⟩)
 |goto l=>intro K f a w _ h;exact h.elim
 |refuse s=>intro K f a w _ h;exact h.elim
 |rangeFunc x y z b _ _=>intro K f a w _ h;exact h.elim
 |region id ops dr=>
  intro K f a w d h u _;simp only[okC,Bool.and_eq_true] at d;have U:∀q E w',Sim df n q E->(∀t,(∀o,o∈ops->o.dst≠some t)->q t=f t)->K .normal q w'->Post df n (mods (.region id ops dr) []) f K .normal E w':=by
   intro q E w' j v r;refine .inr ⟨q,j,fun t B=>v t fun o ho hd=>B ?_,r⟩;simp only[mods,mem_dsts];exact .inl ⟨o,Array.mem_toList_iff.2 ho,hd⟩
  have C:∀c a w,ZP.z c w->a.defers=df->Post df n (mods (.region id ops dr) []) f K (.panic c) a w:=fun c a w h e=> .inl ⟨c,rfl,h,e⟩;cases dr with
  |false=>
   simp only[vc] at h;exact JL d.1 (by rw[Wq,Wz,Array.length_toList,List.range_eq_range']) h u C U
  |true=>
   simp only[vc] at h;have g:=d.2;cases R:lookN id T.ord with
   |none=>
    rw[R] at h g;simp only at h g;cases v:lookN id T.trees with
    |none=>
     rw[v] at h g;simp only at h g;cases hp:lookN id T.pars with
     |none=>rw[hp] at h;exact h.elim
     |some p=>
      rw[hp] at h g;simp only[Bool.and_eq_true] at g;exact Kg d.1 hm g.1 g.2 h u C U
    |some p=>
     rw[v] at h g;exact JK d.1 hm g h u C U
   |some p=>
    rw[R] at h g;simp only[Bool.and_eq_true] at g;exact JM d.1 hm g.1 (VL g.2) h u C U
 |seq x y ihx ihy=>
  intro K f a w d h u G;simp only[okC,Bool.and_eq_true] at d;refine wpIn_seq ?_;simp only[vc] at h;cases Z:Ua T x y with
  |none=>
   rw[Z] at h;refine wpIn_mono (ihx _ f a w d.1 h u ?_) ?_
   ·intro l q w' r;exact G l q w' r
   ·rintro e E w' (⟨c,rfl,C⟩|⟨q,j,v,r⟩)
    ·exact .inl ⟨c,rfl,C⟩
    cases e with
    |normal=>
     refine wpIn_mono (ihy K q E w' d.2 r j G) ?_;rintro e Q M (⟨c,rfl,C⟩|⟨D,A,F,O⟩)
     ·exact .inl ⟨c,rfl,C⟩
     refine .inr ⟨D,A,fun t B=>?_,O⟩;simp only[mods] at B;rw[mem_mods] at B;rw[F t (fun h=>B (.inr h)),v t (fun h=>B (.inl h))]
    |_=>exact .inr ⟨q,j,fun t B=>v t (fun h=>B (by simp only[mods];rw[mem_mods];exact .inl h)),r⟩
  |some L=>
   rw[Z] at h;obtain⟨J,hA,V⟩:=h;refine wpIn_mono (ihx _ f a w d.1 hA u ?_) ?_
   ·intro l q w' r;exact G l q w' r
   ·rintro e E w' (⟨c,rfl,C⟩|⟨q,j,v,r⟩)
    ·exact .inl ⟨c,rfl,C⟩
    cases e with
    |normal=>
     have H:=V _ q _ r;simp only[QB v] at H;refine wpIn_mono (ihy K q E w' d.2 H j G) ?_;rintro e Q M (⟨c,rfl,C⟩|⟨D,A,F,O⟩)
     ·exact .inl ⟨c,rfl,C⟩
     refine .inr ⟨D,A,fun t B=>?_,O⟩;simp only[mods] at B;rw[mem_mods] at B;rw[F t (fun h=>B (.inr h)),v t (fun h=>B (.inl h))]
    |_=>exact .inr ⟨q,j,fun t B=>v t (fun h=>B (by simp only[mods];rw[mem_mods];exact .inl h)),r⟩
 |cond x y z ihy ihz=>
  intro K f a w d h u G;simp only[okC,Bool.and_eq_true] at d;simp only[vc] at h;unfold vif at h;split at h
  ·rename_i Y;refine wpIn_cond_true (by rw[u.eval];exact Y) (wpIn_mono (ihy K f a w d.1 h u G) ?_);rintro e E w' (⟨c,rfl,C⟩|⟨q,j,v,r⟩)
   ·exact .inl ⟨c,rfl,C⟩
   exact .inr ⟨q,j,fun t B=>v t (fun h=>B (by simp only[mods];rw[mem_mods];exact .inl h)),r⟩
  ·rename_i Y;refine wpIn_cond_false (by rw[u.eval];exact Y) (wpIn_mono (ihz K f a w d.2 h u G) ?_);rintro e E w' (⟨c,rfl,C⟩|⟨q,j,v,r⟩)
   ·exact .inl ⟨c,rfl,C⟩
   exact .inr ⟨q,j,fun t B=>v t (fun h=>B (by simp only[mods];rw[mem_mods];exact .inr h)),r⟩
  ·exact h.elim
 |block id b S=>
  intro K f a w d h u G;refine wpIn_block (wpIn_mono (S _ f a w d h u ?_) ?_)
  ·intro l q w' r;exact G l q w' r
  ·rintro e E w' (⟨c,rfl,C⟩|⟨q,j,v,r⟩)
   ·exact .inl ⟨c,rfl,C⟩
   cases e with
   |exit i=>
    simp only[Exit.inBlock];simp only[blkK] at r;cases H:Nat.beq i id
    ·rw[H] at r;have:i≠id:=fun e=>by subst e;simp at H
     rw[if_neg this];exact .inr ⟨q,j,v,r⟩
    ·rw[H] at r;rw[if_pos (Nat.eq_of_beq_eq_true H)];exact .inr ⟨q,j,v,r⟩
   |_=>exact .inr ⟨q,j,v,r⟩
 |loop b S=>
  intro K f a w d h u G;simp only[vc] at h;cases R:Wb T b with
  |none=>rw[R] at h;exact h.elim
  |some L=>
   rw[R] at h;obtain⟨I,h0,V⟩:=h;refine wpIn_loop (fun E w'=> ∃q,Sim df n q E/\(∀t,t∉mods b []->q t=f t)/\∃k,I k (selL L q) w') (fun E w'=>rank fun k=>I k (selL L fun t=>E.tmps.getD t undef) w')
    ⟨f,u,fun _ _=>rfl,h0⟩ ?_
   rintro E w' ⟨q,j,v,hI⟩;obtain⟨X,_⟩:=Jc hI;have H:=V _ _ q _ X;simp only[QB v] at H;refine wpIn_mono (S _ q E w' d H j ?_) ?_
   ·intro l D M r;exact G l D M r
   ·rintro e Q M (⟨c,rfl,C⟩|⟨D,A,F,r⟩)
    ·exact .inl ⟨c,rfl,C⟩
    have N:∀t,t∉mods b []->D t=f t:=fun t B=>(F t B).trans (v t B);cases e with
    |normal=>
     obtain⟨m,W,hm⟩:=r;refine⟨⟨D,A,N,m,hm⟩,?_⟩;rw[A.fr,j.fr];exact Nat.lt_of_le_of_lt ((Jc ⟨m,hm⟩).2 m hm) W
    |_=>exact .inr ⟨D,A,N,r⟩
 |scope b S=>
  intro K f a w d h u G;refine wpIn_scope_straight (wpIn_mono (S K f a w d h u G) ?_);rintro e E w' (⟨c,rfl,C⟩|⟨q,j,v,r⟩)
  ·exact .inl ⟨c,rfl,C⟩
  cases e with
  |goto l=>exact(G l _ _ r).elim
  |_=>exact .inr ⟨q,j,v,r⟩
def vlv (P:Program) (t:TypeId) (a:Value) (w:World) (K:Value→World→Prop):Prop:=ZN P (do loadVar t (←asAddr a)) w fun v w'=>w'=w∧K v w
def vresL (P:Program):List ResultVar→Fr→World→(List Value→World→Prop)→Prop
 |[],_,w,K=>K [] w
 | .tmp t::r,f,w,K=>vresL P r f w fun l w=>K (f t::l) w
 | .cell a t::r,f,w,K=>vlv P t (f a) w fun v w=>vresL P r f w fun l w=>K (v::l) w
def tup:List Value→Value
 |[v]=>v
 |l=> .tuple ⟨l⟩
def vres (P:Program) (rs:List ResultVar) (f:Fr) (w:World) (K:Value→World→Prop):Prop:=vresL P rs f w fun l w=>K (tup l) w
def rdR (a:Act):ResultVar→Sem Value
 | .tmp t=>pure (a.tmps.getD t undef)
 | .cell x t=>do loadVar t (←asAddr (a.tmps.getD x undef))
theorem JA {f:Fr} {a:Act} {w:World} (g:Sim df n f a):∀(rs:List ResultVar) (K:List Value->World->Prop),vresL P rs f w K->
  ∃l,l.length=rs.length/\(rs.mapM (rdR a)).run P w= .ok l w/\K l w:=by
 intro rs;induction rs with
 |nil=>intro K h;exact⟨[],rfl,rfl,h⟩
 |cons r rs i=>
  intro K h;cases r with
  |tmp t=>
   obtain⟨l,d,e,c⟩:=i _ h;refine⟨f t::l,by simp[d],?_,c⟩;simp only[List.mapM_cons,rdR,Sem.run_bind,Sem.run_pure,Result.andThen_ok];rw[e];simp only[Result.andThen_ok,g.at_]
  |cell x t=>
   obtain⟨v,w',b,hw,j⟩:=h;obtain⟨l,d,e,c⟩:=i _ j;subst hw;refine⟨v::l,by simp[d],?_,c⟩;rw[<-g.at_ x] at b;simp only[List.mapM_cons,rdR,Sem.run_bind] at b⊢;rw[b];simp only[Result.andThen_ok,e,Sem.run_pure]
theorem tup_eq (l:List Value):(if h:(l.toArray).size=1 then(l.toArray)[0] else Value.tuple l.toArray)=tup l:=by
 match l with
 |[]=>rfl
 |[v]=>rfl
 |a::b::r=>simp[tup]
theorem vres_sound {fn:Func} {f:Fr} {a:Act} {w:World} {K:Value->World->Prop} (h:vres P fn.results.toList f w K) (g:Sim df n f a):
  ∃v,(results fn a.tmps).run P w= .ok v w/\K v w:=by
 obtain⟨l,_,d,c⟩:=JA (P:=P) g _ _ h;refine⟨tup l,?_,c⟩;have e:fn.results=fn.results.toList.toArray:=rfl;have b:results fn a.tmps=(do
   let vs <-fn.results.mapM (rdR a)
   pure (if h:vs.size=1 then vs[0] else .tuple vs)):=by
  unfold results;congr 2
 rw[b,e,List.mapM_toArray];simp only[Sem.run_bind,Sem.run_map];rw[d];simp only[Result.andThen_ok,Sem.run_pure];rw[tup_eq]
def retF (P:Program) (rs:List ResultVar) (K:Value→World→Prop) (e:Exit) (f:Fr) (w:World):Prop:=
 match e with
 | .normal=>vres P rs f w K
 | .ret=>vres P rs f w K
 |_=>False
def nthV:List Value→Fr
 |[],_=>undef
 |v::_,0=>v
 |_::l,t+1=>nthV l t
theorem Wx (l:List Value) (t:Nat):nthV l t=l.getD t undef:=by
 induction l generalizing t with
 |nil=>simp[nthV]
 |cons v l a=>cases t<;>simp[nthV,a]
theorem sim_enter (args:List Value) (m:Nat) (h:args.length<=m):
  Sim [] m (nthV args) {tmps:=(args.toArray)++Array.replicate (m-args.toArray.size) undef,defers:=[]}:=by
 refine⟨by simp;omega,rfl,fun t=>?_⟩;rw[Wx];simp only[Array.getD_eq_getD_getElem?,List.getD_eq_getElem?_getD];rw[Array.getElem?_append];split
 ·simp
 ·rename_i a;simp only[List.size_toArray,Nat.not_lt] at a;rw[List.getElem?_eq_none a];rw[Array.getElem?_replicate];split<;>rfl
theorem Kq [ZP] {g:Nat} {fn:Func} {c:Code} {args:List Value} {w:World} {K:Value->World->Prop} (hm:P.follows .mixedOrders=true) (o:P.funcs[g]?=some fn) (m:fn.body=some c)
  (q:fn.ntmps=n) (p:okFn P g=true) (d:okC n T c=true) (hlen:Nat.ble args.length n=true)
  (h:vc P T c (retF P fn.results.toList K) (nthV args) w):vcall P g args.toArray w K:=by
 refine⟨p,callsIn_wide (n:=0).1 (callsIn_of_wp o m trivial ?_)⟩;rw[q];refine wpIn_mono (vc_sound hm c _ _ _ w d h (sim_enter args n (Nat.le_of_ble_eq_true hlen)) (fun l f w h=>h)) ?_;rintro e r w' (⟨c,rfl,k⟩|⟨s,a,_,b⟩)
 ·exact⟨k.2,k.1⟩
 cases e with
 |normal=>obtain⟨v,i,j⟩:=vres_sound b a;exact⟨a.defers,v,i,j⟩
 |ret=>obtain⟨v,i,j⟩:=vres_sound b a;exact⟨a.defers,v,i,j⟩
 |_=>exact b.elim
end
def U5 (P:Program) (T:Ann) (g:Nat) (fn:Func) (args:List Value):Bool:=okFn P g&&okC fn.ntmps T (fn.body.getD .skip)&&Nat.ble args.length fn.ntmps&&fn.body.isSome&&P.follows .mixedOrders
theorem zl [ZP] {P:Program} (T:Ann) {g:Nat} {fn:Func} {args:List Value} {w:World} {K:Value->World->Prop} {F:Prop} (k:P.funcs[g]?=some fn) (a:U5 P T g fn args=true)
  (hF:vc P T (fn.body.getD .skip) (retF P fn.results.toList K) (nthV args) w=F) (h:F):vcall P g args.toArray w K:=by
 simp only[U5,Bool.and_eq_true] at a;obtain⟨⟨⟨⟨e,b⟩,f⟩,i⟩,j⟩:=a;obtain⟨c,d⟩:=Option.isSome_iff_exists.1 i;have he:fn.body.getD .skip=c:=by rw[d];rfl
 rw[he] at b hF;exact Kq j k d rfl e b f (hF▸h)
theorem jz {z:List Value} {w:World} {B:(List Value->World->Prop)->List Value->Fr->World->Prop} (I:Nat->List Value->World->Prop) (n:Nat) (d:I n z w)
  (h:∀n u g w' C,I n u w'->(∀m c a,m<n->I m c a->C c a)->B C u g w'):yD z w B:=
 ⟨I,⟨n,d⟩,fun n u g w' e=>h n u g w' _ e fun m _ _ b hm=>⟨m,b,hm⟩⟩
theorem vloop_up {z:List Value} {w:World} {B:(List Value->World->Prop)->List Value->Fr->World->Prop} (N:Nat) (I:Nat->List Value->World->Prop) (e:I 0 z w)
  (h:∀k u g w' C,k<=N->I k u w'->(k<N->∀b a,I (k+1) b a->C b a)->B C u g w'):yD z w B:=by
 refine jz (fun n u w=> ∃k,k<=N/\n=N-k/\I k u w) N ⟨0,Nat.zero_le _,by omega,e⟩ ?_;rintro n u g w' C ⟨k,j,rfl,i⟩ f;exact h k u g w' C j i fun d b a c=>f (N-(k+1)) b a (by omega) ⟨k+1,d,rfl,c⟩
theorem zL {A:(List Value->World->Prop)->Prop} {B:List Value->Fr->World->Prop} (J:List Value->World->Prop)
  (a:∀C,(∀u w,J u w->C u w)->A C) (b:∀u g w,J u w->B u g w):yN A B:=⟨J,a J fun _ _ h=>h,b⟩
end Go.Vc
end
section
namespace Go.Vc
open Go
@[push_cast] def wq (m:(Value→World→Prop)→World→Prop) (K:Value→World→Prop):World→Prop:=fun w=>m (fun v x=>x=w∧K v w) w
end Go.Vc
end
section
namespace Go.Vc
open Go
section
variable {P:Program} {w:World} {K:Value→World→Prop}
theorem y6 {α:Type} {s:Sem α} {K:α->World->Prop} {v:α} {w':World} (h:s.run P w= .ok v w'):ZN P s w K=K v w':=by
 apply propext;constructor
 ·rintro⟨a,b,c,k⟩;rw[h] at c;cases c;exact k
 ·exact fun k=>⟨_,_,h,k⟩
@[push_cast] theorem vif_t (A B:Prop):vif (.bool true) A B=A:=rfl
@[push_cast] theorem vif_f (A B:Prop):vif (.bool false) A B=B:=rfl
theorem zd {p:Prop} [Decidable p] {A B:Prop} (h:p->A) (b: ¬p->B):vif (.bool (decide p)) A B:=by
 by_cases a:p
 ·rw[decide_eq_true a];exact h a
 ·rw[decide_eq_false a];exact b a
theorem zE {b:Bool} {A B:Prop} (h:b=true->A) (a:b=false->B):vif (.bool b) A B:=by
 cases b
 ·exact a rfl
 ·exact h rfl
@[push_cast] theorem vpick_t (a b:Value):vpick (.bool true) a b w K=K a w:=rfl
@[push_cast] theorem vpick_f (a b:Value):vpick (.bool false) a b w K=K b w:=rfl
@[push_cast] theorem vnil_ptr (a:Addr):vnil P (.pointer (some a)) w K=K (.pointer (some a)) w:=propext ⟨fun h=>h.h,fun h=>⟨h⟩⟩
@[push_cast] theorem Wo (g:Nat) (a b args:Array Value):vcallv P (.func (.func g) a b) args w K=vcall P g ⟨(a.toList++args.toList)++b.toList⟩ w K:=rfl
@[push_cast] theorem jw (b:Bool):vun P .not (.bool b) w K=K (.bool (!b)) w:=y6 rfl
@[push_cast] theorem vun_neg (k:IntKind) (n:Int):vun P .neg (.int k n) w K=K (.int k (k.wrap (0-n))) w:=y6 rfl
theorem yo {op:BinOp} {t:TypeId} {c:Bool} {a b v:Value} (d:(eqG op t c a b).run P w= .ok () w) (e:(binOp op t a b).run P w= .ok v w):
  zj P op t c a b w K=K v w:=y6 (by simp only[Sem.run_bind,d,Result.andThen_ok,e])
@[push_cast] theorem jB (t:TypeId) (c:Bool) (k:IntKind) (a b:Int):zj P .add t c (.int k a) (.int k b) w K=K (.int k (k.wrap (a+b))) w:=yo rfl (by simp[binOp,Op.intArith])
@[push_cast] theorem JW (t:TypeId) (c:Bool) (k:IntKind) (a b:Int):zj P .sub t c (.int k a) (.int k b) w K=K (.int k (k.wrap (a-b))) w:=yo rfl (by simp[binOp,Op.intArith])
@[push_cast] theorem vbin_mul (t:TypeId) (c:Bool) (k:IntKind) (a b:Int):zj P .mul t c (.int k a) (.int k b) w K=K (.int k (k.wrap (a*b))) w:=yo rfl (by simp[binOp,Op.intArith])
@[push_cast] theorem yF (t:TypeId) (c:Bool) (k:IntKind) (a b:Int):zj P .lss t c (.int k a) (.int k b) w K=K (.bool (decide (a<b))) w:=yo rfl (by simp[binOp,Op.intCmp])
@[push_cast] theorem Qu (t:TypeId) (c:Bool) (k:IntKind) (a b:Int):zj P .leq t c (.int k a) (.int k b) w K=K (.bool (decide (a<=b))) w:=yo rfl (by simp[binOp,Op.intCmp])
@[push_cast] theorem jA (t:TypeId) (c:Bool) (k:IntKind) (a b:Int):zj P .gtr t c (.int k a) (.int k b) w K=K (.bool (decide (b<a))) w:=yo rfl (by simp[binOp,Op.intCmp])
@[push_cast] theorem ZR (t:TypeId) (c:Bool) (k:IntKind) (a b:Int):zj P .geq t c (.int k a) (.int k b) w K=K (.bool (decide (b<=a))) w:=yo rfl (by simp[binOp,Op.intCmp])
@[push_cast] theorem qT (t:TypeId) (c:Bool) (k:IntKind) (a b:Int):zj P .eql t c (.int k a) (.int k b) w K=K (.bool (decide (a=b))) w:=
 yo rfl (by simp[binOp,Op.intCmp];by_cases h:a=b<;>simp[h])
@[push_cast] theorem kJ (t:TypeId) (c:Bool) (k:IntKind) (a b:Int):zj P .neq t c (.int k a) (.int k b) w K=K (.bool (decide (a≠b))) w:=
 yo rfl (by simp[binOp,Op.intCmp];by_cases h:a=b<;>simp[h])
theorem yb {x:Int} (h: -9223372036854775808<=x) (a:x<=9223372036854775807):IntKind.i64.wrap x=x:=IntWalk.i64_in x ⟨h,a⟩
@[push_cast] theorem qg (a:Value):zm P (.tuple #[a]) 0 w K=K a w:=y6 rfl
@[push_cast] theorem zH (a b:Value):zm P (.tuple #[a,b]) 0 w K=K a w:=y6 rfl
@[push_cast] theorem zG (a b:Value):zm P (.tuple #[a,b]) 1 w K=K b w:=y6 rfl
@[push_cast] theorem xm (a b c:Value):zm P (.tuple #[a,b,c]) 0 w K=K a w:=y6 rfl
@[push_cast] theorem qw (a b c:Value):zm P (.tuple #[a,b,c]) 1 w K=K b w:=y6 rfl
@[push_cast] theorem qv (a b c:Value):zm P (.tuple #[a,b,c]) 2 w K=K c w:=y6 rfl
@[push_cast] theorem vmkF_eq (fn:Fn) (a b:List Value):vmkF P fn a b w K=K (.func fn ⟨a⟩ ⟨b⟩) w:=y6 rfl
@[push_cast] theorem sl0 (a:Value) (l:List Value):sl 0 (a::l)=a:=rfl
@[push_cast] theorem sl1 (a b:Value) (l:List Value):sl 1 (a::b::l)=b:=rfl
@[push_cast] theorem sl2 (a b c:Value) (l:List Value):sl 2 (a::b::c::l)=c:=rfl
@[push_cast] theorem sl3 (a b c d:Value) (l:List Value):sl 3 (a::b::c::d::l)=d:=rfl
@[push_cast] theorem sl4 (a b c d e:Value) (l:List Value):sl 4 (a::b::c::d::e::l)=e:=rfl
@[push_cast] theorem sl5 (a b c d e f:Value) (l:List Value):sl 5 (a::b::c::d::e::f::l)=f:=rfl
@[push_cast] theorem sl6 (a b c d e f g:Value) (l:List Value):sl 6 (a::b::c::d::e::f::g::l)=g:=rfl
@[push_cast] theorem sl7 (a b c d e f g h:Value) (l:List Value):sl 7 (a::b::c::d::e::f::g::h::l)=h:=rfl
end
structure Same (S:Nat→Prop) (w w':World):Prop where
 os:w'.os=w.os
 tape:w'.tape=w.tape
 output:w'.output=w.output
 size:w.heap.size≤w'.heap.size
 block:∀b,b<w.heap.size→¬S b→w'.heap[b]?=w.heap[b]?
abbrev Ext (w w':World):Prop:=Same (fun _=>False) w w'
theorem Same.refl (S:Nat->Prop) (w:World):Same S w w:=⟨rfl,rfl,rfl,Nat.le_refl _,fun _ _ _=>rfl⟩
theorem Same.trans {S:Nat->Prop} {a b c:World} (h:Same S a b) (k:Same S b c):Same S a c:=
 ⟨k.os.trans h.os,k.tape.trans h.tape,k.output.trans h.output,Nat.le_trans h.size k.size,fun i d e=>(k.block i (Nat.lt_of_lt_of_le d h.size) e).trans (h.block i d e)⟩
theorem Same.mono {S S':Nat->Prop} {a b:World} (h:Same S a b) (e:∀x,x<a.heap.size->S x->S' x):Same S' a b:=
 ⟨h.os,h.tape,h.output,h.size,fun i c d=>h.block i c (fun f=>d (e i c f))⟩
theorem Same.of_ext {S:Nat->Prop} {a b:World} (h:Ext a b):Same S a b:=h.mono fun _ _ h=>h.elim
theorem Ext.then {S:Nat->Prop} {a b c:World} (h:Ext a b) (k:Same S b c) (e:∀x,S x->a.heap.size<=x):Ext a c:=
 ⟨k.os.trans h.os,k.tape.trans h.tape,k.output.trans h.output,Nat.le_trans h.size k.size,fun i d _=>
  (k.block i (Nat.lt_of_lt_of_le d h.size) (fun f=>by have:=e i f;omega)).trans (h.block i d id)⟩
theorem VX (w:World):Ext w {w with drawn:=w.drawn+1}:=⟨rfl,rfl,rfl,Nat.le_refl _,fun _ _ _=>rfl⟩
theorem Same.cell {S:Nat->Prop} {w w':World} (h:Same S w w') {a:Addr} (c: ¬S a.block) {v:Value} (b:w.cell? a=some v):w'.cell? a=some v:=
 (World.cell?_of_block (h.block a.block (World.block_lt_of_cell? w a b) c)).trans b
theorem zN {w:World} {K:World->Prop} (h:∀w',Ext w w'->w'.heap=w.heap->K w'):x9 w K:=h _ (VX w) rfl
section
variable {P:Program} {w:World} {K:Value→World→Prop}
def oneB (P:Program) (t:TypeId):Bool:=match P.underlying t with
 |some (.struct _)=>false
 |some (.array _ _)=>false
 |some _=>true
 |none=>false
def aggB (P:Program) (t:TypeId) (n:Nat):Bool:=(match P.underlying t with
 |some (.struct _)=>true
 |some (.array _ _)=>true
 |_=>false)&&(match P.info? t with|some i=>Nat.beq i.size n|none=>false)
theorem Qy {t:TypeId} (h:oneB P t=true):(isAgg t).run P w= .ok false w:=by
 unfold oneB at h;cases hu:P.underlying t with
 |none=>rw[hu] at h;cases h
 |some d=>rw[hu] at h;cases d<;>simp[isAgg,underlying,program,hu,Sem.run] at h⊢
theorem Qz {t:TypeId} {n:Nat} (h:aggB P t n=true):(isAgg t).run P w= .ok true w:=by
 unfold aggB at h;cases hu:P.underlying t with
 |none=>rw[hu] at h;simp at h
 |some d=>rw[hu] at h;cases d<;>simp[isAgg,underlying,program,hu,Sem.run] at h⊢
theorem j6 {t:TypeId} {n:Nat} (h:aggB P t n=true):(sizeOf t).run P w= .ok n w:=by
 unfold aggB at h;cases a:P.info? t with
 |none=>rw[a] at h;simp at h
 |some i=>
  rw[a] at h;simp only[Bool.and_eq_true] at h;have:=Nat.eq_of_beq_eq_true h.2;simp[sizeOf,typeInfo,program,a,Sem.run,this]
theorem qu {t:TypeId} (b:oneB P t=true) {a:Addr} {v:Value} (h:w.cell? a=some v):zh P t (.pointer (some a)) w K=K v w:=by
 refine y6 ?_;simp only[Instr.loadAt,Instr.sureAddr,Sem.run_bind,Sem.run_pure,Result.andThen_ok,loadVar,Qy b,Bool.false_eq_true,if_false];simp[load,Sem.run,h]
def Cells (w:World) (a:Addr) (cs:List Value):Prop:=∀i v,cs[i]?=some v→w.cell? (a.add i)=some v
theorem Yq {a:Addr}:∀(cs:List Value) (i:Nat) (acc:Array Value),(∀j v,cs[j]?=some v->w.cell? (a.add (i+j))=some v)->
  (loadCellsFrom a i cs.length acc).run P w= .ok (acc++cs.toArray) w:=by
 intro cs;induction cs with
 |nil=>intro i acc _;simp[loadCellsFrom]
 |cons c cs f=>
  intro i acc h;have b:=h 0 c (by simp);rw[Nat.add_zero] at b;have e:(load (a.add i)).run P w= .ok c w:=(by simp[load,Sem.run,b]);simp only[List.length_cons,loadCellsFrom,Sem.run_bind,e,Result.andThen_ok];rw[f (i+1) (acc.push c) (fun j v d=>by have:=h (j+1) v (by simpa using d);rwa[Nat.add_assoc,Nat.add_comm 1 j])];simp
theorem J8 {t:TypeId} {cs:List Value} (b:aggB P t cs.length=true) {a:Addr} (h:Cells w a cs):zh P t (.pointer (some a)) w K=K (.agg cs.toArray) w:=by
 refine y6 ?_;have d:=Yq (P:=P) (w:=w) (a:=a) cs 0 #[] (fun j v c=>by rw[Nat.zero_add];exact h j v c);simp only[Instr.loadAt,Instr.sureAddr,Sem.run_bind,Sem.run_pure,Result.andThen_ok,loadVar,Qz b,if_true,j6 b,loadCells,d];simp
theorem KB {t:TypeId} {a:Addr} {v:Value} (h:zh P t (.pointer (some a)) w (fun x w'=>x=v/\w'=w)):vlv P t (.pointer (some a)) w K=K v w:=by
 obtain⟨x,w',c,rfl,rfl⟩:=h;have b:(do loadVar t (<-asAddr (.pointer (some a)))).run P w'= .ok x w':=by
  simpa[Instr.loadAt,Instr.sureAddr,asAddr] using c
 unfold vlv;rw[y6 b];simp
end
structure Sl (F:Nat→Prop) (w:World) (k:Nat) (v:Value) (xs:List (List Value)):Prop where
 shape:∃a c,v= .slice a xs.length c∧xs.length≤c∧c≤9223372036854775807∧
  (xs≠[]→∃b o,a=some ⟨b,o,none⟩∧F b∧b<w.heap.size∧∀i,i<xs.length→Cells w ⟨b,o+i*k,none⟩ (xs.getD i []))
 wide:∀x,x∈xs→x.length=k
def eaddr (v:Value) (k i:Nat):Addr:=match v with
 | .slice (some a) _ _=>⟨a.block,a.off+i*k,none⟩
 |_=>default
theorem yG (b o n:Nat):(⟨b,o,none⟩:Addr).add n=⟨b,o+n,none⟩:=by
 unfold Addr.add;split
 ·simp[*]
 ·rfl
theorem Cells.same {S:Nat->Prop} {w w':World} {a:Addr} {cs:List Value} (h:Same S w w') (c: ¬S a.block) (b:Cells w a cs):Cells w' a cs:=by
 intro i v d;refine h.cell ?_ (b i v d);unfold Addr.add;split<;>exact c
theorem Sl.same {F S:Nat->Prop} {w w':World} {k:Nat} {v:Value} {xs:List (List Value)} (h:Sl F w k v xs) (hw:Same S w w') (q:∀b,F b->b<w.heap.size->¬S b):Sl F w' k v xs:=by
 obtain⟨⟨a,c,r,m,hm,l⟩,p⟩:=h;refine⟨⟨a,c,r,m,hm,fun f=>?_⟩,p⟩;obtain⟨b,o,j,g,e,d⟩:=l f;exact⟨b,o,j,g,Nat.lt_of_lt_of_le e hw.size,fun i n=>(d i n).same hw (q b g e)⟩
theorem Sl.ext {F:Nat->Prop} {w w':World} {k:Nat} {v:Value} {xs:List (List Value)} (h:Sl F w k v xs) (hw:Ext w w'):Sl F w' k v xs:=h.same hw fun _ _ _ h=>h
theorem Sl.weaken {F F':Nat->Prop} {w:World} {k:Nat} {v:Value} {xs:List (List Value)} (h:Sl F w k v xs) (m:∀b,F b->b<w.heap.size->F' b):Sl F' w k v xs:=by
 obtain⟨⟨a,c,p,l,hm,j⟩,n⟩:=h;refine⟨⟨a,c,p,l,hm,fun f=>?_⟩,n⟩;obtain⟨b,o,i,g,e,d⟩:=j f;exact⟨b,o,i,m b g e,e,d⟩
def isSl (P:Program) (t:TypeId):Bool:=match P.underlying t with
 |some (.slice _)=>true
 |_=>false
theorem WA {P:Program} {t:TypeId} (h:isSl P t=true):∃e,P.underlying t=some (.slice e):=by
 unfold isSl at h;split at h
 ·rename_i e hu;exact⟨e,hu⟩
 ·cases h
def k6 (P:Program) (e n:Nat):Bool:=match P.info? e with|some i=>Nat.beq i.size n|none=>false
def elB (P:Program) (t k:Nat):Bool:=match P.underlying t with
 |some (.slice e)=>k6 P e k
 |_=>false
theorem Wf {P:Program} {t k:Nat} (h:elB P t k=true):∃e,P.underlying t=some (.slice e)/\k6 P e k=true:=by
 unfold elB at h;split at h
 ·rename_i e hu;exact⟨e,hu,h⟩
 ·cases h
section
variable {P:Program} {F:Nat→Prop} {w w':World} {K:Value→World→Prop} {k:Nat} {v:Value} {xs:List (List Value)}
theorem qt {e n:Nat} (h:k6 P e n=true):(sizeOf e).run P w= .ok n w:=by
 unfold k6 at h;cases a:P.info? e with
 |none=>rw[a] at h;cases h
 |some i=>rw[a] at h;have:=Nat.eq_of_beq_eq_true h;simp[sizeOf,typeInfo,program,a,Sem.run,this]
theorem yP {t:TypeId} {d:TypeDesc} (h:P.underlying t=some d):(underlying t).run P w= .ok d w:=by simp[underlying,program,h,Sem.run]
theorem Sl.len (h:Sl F w k v xs) {t:TypeId} (b:isSl P t=true) (ty:TypeId):vbi P .len [t] ty [v] w' K=K (.int .i64 xs.length) w':=by
 obtain⟨a,c,d,_⟩:=h.shape;obtain⟨e,he⟩:=WA b;subst d;refine y6 ?_;simp[biSem,Builtin.len_,yP he,goInt]
theorem Sl.iaddr (h:Sl F w k v xs) {t:TypeId} (m:elB P t k=true) {kd:IntKind} {i:Int} (f:0<=i) (d:i<xs.length):
  zv P t v (.int kd i) w' K=K (.pointer (some (eaddr v k i.toNat))) w':=by
 obtain⟨a,c,n,_,_,j⟩:=h.shape;obtain⟨b,o,g,_⟩:=j (by intro e;subst e;simp at d;omega);obtain⟨e,he,l⟩:=Wf m;subst g;subst n;refine y6 ?_;simp[Instr.indexAt,asIntOf,yP he,f,d,qt l,eaddr,yG]
theorem Sl.cells (h:Sl F w k v xs) {i:Nat} (d:i<xs.length):Cells w (eaddr v k i) (xs.getD i []):=by
 obtain⟨a,c,l,_,_,g⟩:=h.shape;obtain⟨b,o,f,_,_,j⟩:=g (by intro e;subst e;simp at d);subst f;subst l;exact j i d
end
def Blk (w:World) (b:Nat) (cs:List Value) (t:TypeId):Prop:=w.heap[b]?=some (.cells ⟨cs⟩ t (0,0))
theorem Blk.lt {w:World} {b:Nat} {cs:List Value} {t:TypeId} (h:Blk w b cs t):b<w.heap.size:=(Array.getElem?_eq_some_iff.1 h).1
theorem Blk.same {S:Nat->Prop} {w w':World} {b:Nat} {cs:List Value} {t:TypeId} (h:Blk w b cs t) (hw:Same S w w') (a: ¬S b):Blk w' b cs t:=
 (hw.block b h.lt a).trans h
theorem Blk.ext {w w':World} {b:Nat} {cs:List Value} {t:TypeId} (h:Blk w b cs t) (hw:Ext w w'):Blk w' b cs t:=h.same hw id
theorem Blk.cell {w:World} {b:Nat} {cs:List Value} {t:TypeId} (h:Blk w b cs t) {i:Nat} {v:Value} (a:cs[i]?=some v):w.cell? ⟨b,i,none⟩=some v:=by
 unfold World.cell?;rw[show w.heap[(⟨b,i,none⟩:Addr).block]?=_ from h];simpa using a
theorem Blk.frozen {w:World} {b:Nat} {cs:List Value} {t:TypeId} (h:Blk w b cs t) (a:Addr) (c:a.block=b):w.frozen? a=false:=by
 unfold World.frozen?;rw[c,show w.heap[b]?=_ from h];simp
section
variable {P:Program} {w:World} {K:Value→World→Prop} {b:Nat} {cs:List Value} {t0:TypeId}
@[push_cast] theorem blt_zero {α:Type} (a:α) (l:List α):Nat.blt 0 (a::l).length=true:=rfl
@[push_cast] theorem blt_succ {α:Type} (n:Nat) (a:α) (l:List α):Nat.blt (n+1) (a::l).length=Nat.blt n l.length:=rfl
theorem getD_some {cs:List Value} {i:Nat} (a:Nat.blt i cs.length=true):cs[i]?=some (cs.getD i undef):=by
 have:i<cs.length:=by simpa[Nat.blt_eq] using a
 simp[List.getD_eq_getElem?_getD,this]
theorem Blk.ld0 {a:Value} {r:List Value} (h:Blk w b (a::r) t0) {t:TypeId} (c:oneB P t=true):zh P t (.pointer (some ⟨b,0,none⟩)) w K=K a w:=qu c (h.cell rfl)
theorem Blk.ld1 {d a:Value} {r:List Value} (h:Blk w b (d::a::r) t0) {t:TypeId} (c:oneB P t=true):zh P t (.pointer (some ⟨b,1,none⟩)) w K=K a w:=qu c (h.cell rfl)
theorem Blk.ld2 {d e a:Value} {r:List Value} (h:Blk w b (d::e::a::r) t0) {t:TypeId} (c:oneB P t=true):zh P t (.pointer (some ⟨b,2,none⟩)) w K=K a w:=qu c (h.cell rfl)
theorem Blk.ld3 {d e f a:Value} {r:List Value} (h:Blk w b (d::e::f::a::r) t0) {t:TypeId} (c:oneB P t=true):zh P t (.pointer (some ⟨b,3,none⟩)) w K=K a w:=qu c (h.cell rfl)
theorem Blk.ld4 {d e f g a:Value} {r:List Value} (h:Blk w b (d::e::f::g::a::r) t0) {t:TypeId} (c:oneB P t=true):zh P t (.pointer (some ⟨b,4,none⟩)) w K=K a w:=qu c (h.cell rfl)
theorem Blk.ldAgg (h:Blk w b cs t0) {t:TypeId} (a:aggB P t cs.length=true):zh P t (.pointer (some ⟨b,0,none⟩)) w K=K (.agg ⟨cs⟩) w:=
 J8 a fun i v c=>by rw[yG,Nat.zero_add];exact h.cell c
theorem Blk.lv (h:Blk w b cs t0) {t:TypeId} (a:aggB P t cs.length=true):vlv P t (.pointer (some ⟨b,0,none⟩)) w K=K (.agg ⟨cs⟩) w:=
 KB (by rw[h.ldAgg a];exact⟨rfl,rfl⟩)
def yT (P:Program) (t:TypeId) (z:Value):Prop:=(match P.info? t with|some i=>i.zero|none=>none)=some z
theorem YY {t:TypeId} {z:Value} (h:yT P t z):(zeroValue t).run P w= .ok z w:=by
 unfold yT at h;cases a:P.info? t with
 |none=>rw[a] at h;cases h
 |some i=>rw[a] at h;simp[zeroValue,typeInfo,program,a,Sem.run,h]
theorem ext_push (w:World) (o:Obj):Ext w {w with heap:=w.heap.push o}:=
 ⟨rfl,rfl,rfl,by simp,fun i a _=>by rw[Array.getElem?_push,if_neg (by show i≠w.heap.size;omega)]⟩
theorem X1 (w:World) (cs:List Value) (t:TypeId):Blk {w with heap:=w.heap.push (.cells ⟨cs⟩ t)} w.heap.size cs t:=by simp[Blk]
theorem Vy {t:TypeId} {v:Value} (h:∀b w',b=w.heap.size->Ext w w'->w'.heap.size=w.heap.size+1->Blk w' b v.cells.toList t->K (.pointer (some ⟨b,0,none⟩)) w'):xO P t v w K:=by
 refine⟨_,_,?_,h w.heap.size {w with heap:=w.heap.push (.cells ⟨v.cells.toList⟩ t)} rfl (ext_push w _) (by simp) (X1 w _ t)⟩;simp[Instr.box,newVar,newRow,newObj,Sem.run]
theorem kK {t:TypeId} {z:Value} (a:yT P t z) (h:∀b w',b=w.heap.size->Ext w w'->w'.heap.size=w.heap.size+1->Blk w' b z.cells.toList t->K (.pointer (some ⟨b,0,none⟩)) w'):yp P t w K:=by
 refine⟨_,_,?_,h w.heap.size {w with heap:=w.heap.push (.cells ⟨z.cells.toList⟩ t)} rfl (ext_push w _) (by simp) (X1 w _ t)⟩;simp[Instr.alloc,YY a,newVar,newRow,newObj,Sem.run]
theorem Blk.st (h:Blk w b cs t0) {t:TypeId} {v:Value} (m:v.cells= #[v]) (a:v.oneCell'=true) (n:k6 P t 1=true) {i:Nat} (j:Nat.blt i cs.length=true)
  (c:∀w',Same (· =b) w w'->w'.heap.size=w.heap.size->Blk w' b (cs.set i v) t0->K undef w'):zn P t (.pointer (some ⟨b,i,none⟩)) v w K:=by
 have f:=h.cell (getD_some j);have g:=h.frozen ⟨b,i,none⟩ rfl;have d:(⟨b,i,none⟩:Addr).add 0=⟨b,i,none⟩:=rfl;refine⟨(),w.setCell ⟨b,i,none⟩ v,?_,c _ ⟨rfl,rfl,rfl,by simp,fun k _ l=>?_⟩ (by simp) ?_⟩
 ·simp only[Instr.storeAt,Instr.sureAddr,Sem.run_bind,Sem.run_pure,Result.andThen_ok,storeVar,qt n,m];cases v<;>first|(cases a;done)|simp[storeCells,store,Sem.run,d,f,g]
 ·simp only[World.setCell,Array.getElem?_modify];rw[if_neg (fun e=>l e.symm)]
 ·unfold Blk at h⊢;simp only[World.setCell,Array.getElem?_modify,if_true,h];simp
def fieldB (P:Program) (s f off:Nat):Bool:=match P.underlying s with
 |some (.struct fs)=>match fs[f]? with
  |some x=>Nat.beq x.offset off&&(match P.info? x.type with|some i=> !Nat.beq i.size 0 |none=>false)
  |none=>false
 |_=>false
theorem yu {s f off:Nat} (h:fieldB P s f off=true) (a:Addr):zg P s (.pointer (some a)) f w K=K (.pointer (some (a.add off))) w:=by
 unfold fieldB at h;cases hu:P.underlying s with
 |none=>rw[hu] at h;cases h
 |some d=>
  rw[hu] at h;cases d with
  |struct fs=>
   simp only at h;cases g:fs[f]? with
   |none=>rw[g] at h;cases h
   |some x=>
    rw[g] at h;simp only[Bool.and_eq_true] at h;obtain⟨k,b⟩:=h;have c:=Nat.eq_of_beq_eq_true k;cases j:P.info? x.type with
    |none=>rw[j] at b;cases b
    |some i=>
     rw[j] at b;have l:i.size≠0:=by intro e;simp[e] at b
     refine y6 ?_;simp[Instr.fieldAt,yP hu,g,Instr.sureAddr,fieldPlace,sizeOf,typeInfo,program,j,Sem.run,l,c]
  |_=>simp at h
end
attribute [push_cast] yG List.getD_cons_zero List.getD_cons_succ Nat.zero_add List.set_cons_zero List.set_cons_succ Value.cells
end Go.Vc
end
section
namespace Go.Vc
open Go
attribute [push_cast] Int.toNat_natCast
def Vals (F:Nat→Prop) (w:World) (v:Value) (vs:List Value):Prop:=Sl F w 1 v (vs.map fun x=>[x])
def Ints (F:Nat→Prop) (w:World) (v:Value) (xs:List Int):Prop:=Vals F w v (xs.map fun x=> .int .i64 x)
section
variable {P:Program} {F F' S:Nat→Prop} {w w':World} {K:Value→World→Prop} {v:Value} {vs:List Value} {xs:List Int} {bs:List Bool} {xss:List (List Int)}
theorem Vals.ext (h:Vals F w v vs) (hw:Ext w w'):Vals F w' v vs:=Sl.ext h hw
theorem Vals.same (h:Vals F w v vs) (hw:Same S w w') (a:∀b,F b->b<w.heap.size->¬S b):Vals F w' v vs:=Sl.same h hw a
theorem Vals.weaken (h:Vals F w v vs) (a:∀b,F b->b<w.heap.size->F' b):Vals F' w v vs:=Sl.weaken h a
theorem Vals.len (h:Vals F w v vs) {t:TypeId} (a:isSl P t=true) (ty:TypeId):vbi P .len [t] ty [v] w' K=K (.int .i64 vs.length) w':=by
 have:=Sl.len (K:=K) (w':=w') h a ty;rwa[List.length_map] at this
theorem Vals.iaddr (h:Vals F w v vs) {t:TypeId} (c:elB P t 1=true) {kd:IntKind} {i:Int} (a:0<=i) (b:i<vs.length):
  zv P t v (.int kd i) w' K=K (.pointer (some (eaddr v 1 i.toNat))) w':=Sl.iaddr h c a (by rw[List.length_map];exact b)
theorem Vals.load (h:Vals F w v vs) {e:TypeId} (he:oneB P e=true) {i:Nat} (a:i<vs.length):zh P e (.pointer (some (eaddr v 1 i))) w K=K (vs.getD i undef) w:=by
 have b:=Sl.cells h (i:=i) (by rw[List.length_map];exact a);have:=b 0 (vs.getD i undef) (by simp[List.getD_eq_getElem?_getD,a]);exact qu he this
theorem Ints.ext (h:Ints F w v xs) (hw:Ext w w'):Ints F w' v xs:=Vals.ext h hw
theorem Ints.iaddr (h:Ints F w v xs) {t:TypeId} (c:elB P t 1=true) {kd:IntKind} {i:Int} (a:0<=i) (b:i<xs.length):
  zv P t v (.int kd i) w' K=K (.pointer (some (eaddr v 1 i.toNat))) w':=Vals.iaddr h c a (by rw[List.length_map];exact b)
theorem Ji {i:Nat} (a:i<xs.length):(xs.map fun x=>Value.int .i64 x).getD i undef= .int .i64 (xs.getD i 0):=by
 simp[List.getD_eq_getElem?_getD,a]
theorem Ints.load (h:Ints F w v xs) {e:TypeId} (he:oneB P e=true) {i:Nat} (a:i<xs.length):zh P e (.pointer (some (eaddr v 1 i))) w K=K (.int .i64 (xs.getD i 0)) w:=by
 rw[Vals.load h he (by rw[List.length_map];exact a),Ji a]
def FnB (P:Program) (w0:World) (f:Value) (args:Array Value) (b:Bool):Prop:=
 ∀(w':World) (K:Value→World→Prop),Ext w0 w'→(∀w'',Ext w' w''→K (.bool b) w'')→vcallv P f args w' K
def idxI (n:Nat) (p:Nat→Bool):Int:=match(List.range n).find? p with|some i=>i|none=> -1
theorem idxI_some {n i:Nat} {p:Nat->Bool} (d:i<n) (c:p i=true) (b:∀j,j<i->p j=false):idxI n p=i:=by
 have:(List.range n).find? p=some i:=by
  rw[List.find?_eq_some_iff_append];refine⟨c,List.range i,(List.range' (i+1) (n-(i+1))),?_,fun j a=>by simp[b j (List.mem_range.1 a)]⟩;rw[List.range_eq_range',List.range_eq_range',show n=i+(n-(i+1)+1) from by omega,<-List.range'_append_1,List.range'_succ];simp;omega
 simp[idxI,this]
theorem Xh {n:Nat} {p:Nat->Bool} (b:∀j,j<n->p j=false):idxI n p= -1:=by
 have:(List.range n).find? p=none:=by rw[List.find?_eq_none];intro j a;simp[b j (List.mem_range.1 a)]
 simp[idxI,this]
theorem ZC {n:Nat} {p:Nat->Bool}:decide (0<=idxI n p)=(List.range n).any p:=by
 unfold idxI;cases h:(List.range n).find? p with
 |none=>
  rw[List.find?_eq_none] at h;have:(List.range n).any p=false:=by rw[List.any_eq_false];exact h
  simp[this]
 |some i=>
  have a:=List.find?_some h;have b:=List.mem_of_find?_eq_some h;have:(List.range n).any p=true:=List.any_eq_true.2 ⟨i,b,a⟩;simp[this]
end
end Go.Vc
end
section
namespace Go.Vc
open Go
def elZ (P:Program) (t k bs:Nat):Bool:=match P.underlying t with
 |some (.slice e)=>match P.info? e with
  |some i=>Nat.beq i.size k&&Nat.beq i.bytes bs&&(match i.zero with|some z=>Nat.beq z.cells.size k|none=>false)
  |none=>false
 |_=>false
def JQ (P:Program) (t:TypeId):TypeId:=match P.underlying t with|some (.slice e)=>e|_=>0
theorem We {P:Program} {t k bs:Nat} (h:elZ P t k bs=true):P.underlying t=some (.slice (JQ P t))/\∃i z,P.info? (JQ P t)=some i/\i.zero=some z/\i.size=k/\i.bytes=bs/\z.cells.size=k:=by
 unfold elZ at h;unfold JQ;split at h
 ·rename_i e hu;rw[hu];refine⟨rfl,?_⟩;split at h
  ·rename_i i d;simp only[Bool.and_eq_true] at h;obtain⟨⟨b,c⟩,a⟩:=h;split at a
   ·rename_i z f;exact⟨i,z,d,f,Nat.eq_of_beq_eq_true b,Nat.eq_of_beq_eq_true c,Nat.eq_of_beq_eq_true a⟩
   ·cases a
  ·cases h
 ·cases h
structure Own (P:Program) (base k:Nat) (t:TypeId) (w:World) (v:Value) (xs:List (List Value)):Prop where
 row:w.ownsRow base (JQ P t) k v xs.length xs.flatten
 wide:∀x,x∈xs→x.length=k
theorem flatten_len {k:Nat}:∀{xs:List (List Value)},(∀x,x∈xs->x.length=k)->xs.flatten.length=xs.length*k
 |[],_=>by simp
 |x::r,h=>by
  rw[List.flatten_cons,List.length_append,h x List.mem_cons_self,flatten_len fun y a=>h y (List.mem_cons_of_mem _ a),List.length_cons,Nat.add_mul];omega
theorem flatten_get {k:Nat}:∀{xs:List (List Value)} (_:∀x,x∈xs->x.length=k) {i j:Nat},i<xs.length->j<k->xs.flatten[i*k+j]?=(xs.getD i [])[j]?
 |[],_,i,j,a,_=>by simp at a
 |x::r,h,i,j,a,b=>by
  have d:=h x List.mem_cons_self;rw[List.flatten_cons];cases i with
  |zero=>rw[Nat.zero_mul,Nat.zero_add,List.getElem?_append_left (by omega)];simp
  |succ i=>
   rw[List.getElem?_append_right (by rw[Nat.add_mul];omega)];have e:(i+1)*k+j-x.length=i*k+j:=by rw[Nat.add_mul];omega
   rw[e,flatten_get (fun y c=>h y (List.mem_cons_of_mem _ c)) (by simpa using a) b];simp
theorem flat1:∀(cs:List Value),(cs.map fun x=>[x]).flatten=cs
 |[]=>rfl
 |c::cs=>by rw[List.map_cons,List.flatten_cons,flat1 cs];rfl
section
variable {P:Program} {base k:Nat} {t:TypeId} {w w':World} {v:Value} {xs ys:List (List Value)} {K:Value→World→Prop}
theorem Own.nil (P:Program) (base k:Nat) (t:TypeId) (w:World):Own P base k t w (.slice none 0 0) []:=⟨World.ownsRow_nil w base _ k,fun x a=>by cases a⟩
theorem Own.lt (h:Own P base k t w v xs) {b:Nat} (a:v.ownBlock=some b):base<=b/\b<w.heap.size:=h.row.lt b a
theorem Own.same {S:Nat->Prop} (h:Own P base k t w v xs) (hw:Same S w w') (e:∀b,v.ownBlock=some b->¬S b):Own P base k t w' v xs:=by
 refine⟨⟨h.row.1,?_⟩,h.wide⟩;rcases h.row.2 with d|⟨g,cap,cur,rfl,c,a,rest⟩
 ·exact .inl d
 ·exact .inr ⟨g,cap,cur,rfl,c,(hw.block g (Array.getElem?_eq_some_iff.1 a).1 (e g rfl)).trans a,rest⟩
theorem Own.ext (h:Own P base k t w v xs) (hw:Ext w w'):Own P base k t w' v xs:=h.same hw fun _ _ h=>h
theorem Own.sl (h:Own P base k t w v xs):Sl (fun b=>v.ownBlock=some b) w k v xs:=by
 refine⟨?_,h.wide⟩;rcases h.row.2 with⟨rfl,m⟩|⟨g,cap,cur,rfl,r,o,d,a,n,f⟩
 ·exact⟨none,0,by rw[m],by omega,by omega,fun e=>absurd (List.eq_nil_of_length_eq_zero m) e⟩
 ·refine⟨_,cap,rfl,d,by simpa[maxLen] using a,fun _=>⟨g,0,rfl,rfl,(Array.getElem?_eq_some_iff.1 o).1,fun i c j u hu=>?_⟩⟩;have p:j<k:=by
   have q:xs.getD i []∈xs:=by rw[List.getD_eq_getElem?_getD,List.getElem?_eq_getElem c];exact List.getElem_mem c
   have:=h.wide _ q;rw[<-this];exact(List.getElem?_eq_some_iff.1 hu).1
  have l:=flatten_get h.wide c p;rw[hu] at l;have:=h.row.cells (g:=g) rfl (i*k+j) u l;rw[yG] at this⊢;rwa[Nat.zero_add] at this⊢
theorem Same.of_grown {row:Option Nat} (h:w.grownBy w' row):Same (fun b=>row=some b) w w':=
 ⟨h.os,h.tape,h.output,h.size,fun b a c=>h.block b a (fun e=>c e.symm)⟩
theorem vappend {bs ty:Nat} {F:Nat->Prop} {x:Value} (hT:elZ P t k bs=true) (hk:0<k) (h:Own P base k t w v xs) (B:Sl F w k x ys) (N:∀y,y∈ys->∀c,c∈y->c.oneCell'=true)
  (E:base<=w.heap.size) (Q:xs.length+ys.length<=9223372036854775807) (hlen:(xs.length+ys.length)*bs<=140737488355328)
  (R:∀C w',Own P base k t w' C (xs++ys)->Same (fun b=>v.ownBlock=some b) w w'->(∀b,C.ownBlock=some b->v.ownBlock=some b\/w.heap.size<=b)->K C w'):vbi P .append [t,t] ty [v,x] w K:=by
 obtain⟨hu,i,z,s,hz,O,G,a0⟩:=We hT;obtain⟨a,c,rfl,a1,a2,n⟩:=B.shape;have r:∀y,y∈xs++ys->y.length=k:=fun y Y=>(List.mem_append.1 Y).elim (h.wide y) (B.wide y);by_cases p:ys=[]
 ·subst p;have e:Own P base k t w v (xs++[]):=by rw[List.append_nil];exact h
  rcases h.row.2 with⟨rfl,hn⟩|⟨g,cap,cur,rfl,T,hg,M,H,I,q⟩
  ·refine⟨_,_,?_,R _ w e (Same.refl _ w) fun b E=> .inl E⟩;cases a<;>simp[biSem,Builtin.append_,yP hu,sizeOf,typeInfo,program,s,Sem.run,Builtin.lenOf,Builtin.firstCells,loadCells,loadCellsFrom]
  ·refine⟨_,_,?_,R _ w e (Same.refl _ w) fun b E=> .inl E⟩;cases a<;>simp[biSem,Builtin.append_,yP hu,sizeOf,typeInfo,program,s,Sem.run,Builtin.lenOf,Builtin.firstCells,loadCells,loadCellsFrom,storeCells,M]
 ·obtain⟨b,o,rfl,_,a3,U⟩:=n p;have d:∀j u,ys.flatten[j]?=some u->w.cell? ((⟨b,o,none⟩:Addr).add j)=some u:=by
   intro j u L;have W:j<ys.length*k:=by rw[<-flatten_len B.wide];exact(List.getElem?_eq_some_iff.1 L).1
   have hq:j/k<ys.length:=Nat.div_lt_of_lt_mul (by rwa[Nat.mul_comm] at W);have A:j%k<k:=Nat.mod_lt _ hk;have hj:j/k*k+j%k=j:=Nat.div_add_mod' j k;have hf:=flatten_get B.wide hq A;rw[hj,L] at hf;have:=U _ hq _ _ hf.symm;rw[yG] at this⊢;rwa[Nat.add_assoc,hj] at this
  have h1:∀u∈ys.flatten,u.oneCell'=true:=by
   intro u X;obtain⟨y,Y,hc⟩:=List.mem_flatten.1 X;exact N y Y u hc
  obtain⟨C,w',A,e,V,_⟩:=run_append_own (P:=P) w base t ty (JQ P t) i z k bs hu s hz O G a0 hk v xs.length xs.flatten h.row ⟨b,o,none⟩ ys.length c ys.flatten (flatten_len B.wide) d h1
   (by simpa[maxLen] using Q) hlen E
  refine⟨C,w',A,R C w' ⟨?_,r⟩ (Same.of_grown V) ?_⟩
  ·rw[List.length_append,List.flatten_append];exact e
  ·have Z:0<ys.length:=List.length_pos_iff.2 p;have m:=flatten_len B.wide;subst O G;rcases h.row.2 with⟨rfl,hn⟩|⟨g,cap,cur,rfl,T,hg,M,H,I,q⟩
   ·have f:=run_append_nil (P:=P) w t ty (JQ P t) i z hu s hz ⟨b,o,none⟩ ys.length c ys.flatten m d Z (by omega) (by have S:=hlen;rw[hn,Nat.zero_add] at S;omega);obtain⟨rfl,-⟩:=Result.ok.inj (A.symm.trans f);rintro b' D;exact .inr (by cases D;exact Nat.le_refl _)
   ·by_cases l:xs.length+ys.length<=cap
    ·have J:xs.length*i.size+ys.flatten.length<=cur.size:=by rw[m,I,<-Nat.add_mul];exact Nat.mul_le_mul_right _ l
     have f:=run_append_room (P:=P) w t ty (JQ P t) i hu s g xs.length cap cur hg ⟨b,o,none⟩ ys.length c ys.flatten m d h1 l J;obtain⟨rfl,-⟩:=Result.ok.inj (A.symm.trans f);exact fun b' D=> .inl D
    ·have f:=run_append_grow (P:=P) w t ty (JQ P t) i z hu s hz ⟨g,0,none⟩ xs.length cap xs.flatten h.row.1 (h.row.cells (g:=g) rfl) ⟨b,o,none⟩ ys.length c ys.flatten m d (by omega) (by omega) (growslice_fits (by omega) hlen);obtain⟨rfl,-⟩:=Result.ok.inj (A.symm.trans f);rintro b' D;exact .inr (by cases D;exact Nat.le_refl _)
theorem qx {e:TypeId} {x z:Value} (hu:P.underlying t=some (.slice e)) (f:k6 P e 1=true) (hzero:yT P e z) (a:z.cells= #[z]) (d:x.cells= #[x])
  (c:∀b w',b=w.heap.size->Ext w w'->w'.heap.size=w.heap.size+1->Blk w' b [x] e->K (.slice (some ⟨b,0,none⟩) 1 1) w'):vbuildS P t 1 [(0,x)] w K:=by
 refine⟨_,_,?_,c w.heap.size {w with heap:=w.heap.push (.cells ⟨[x]⟩ e)} rfl (ext_push w _) (by simp) (X1 w _ e)⟩;simp[Instr.buildSlice,yP hu,qt f,YY hzero,a,Instr.fill,d,newRow,newObj,Sem.run];refine congrArg (fun l=>w.alloc (Obj.cells l e)) (Array.toList_inj.1 ?_);simp[List.range_succ]
theorem Blk.sl1 {b n:Nat} {cs:List Value} {e:TypeId} (h:Blk w b cs e) (d:n=cs.length) (hm:n<=9223372036854775807):Sl (· =b) w 1 (.slice (some ⟨b,0,none⟩) n n) (cs.map fun x=>[x]):=by
 subst d;refine⟨⟨_,cs.length,by simp,by simp,by simpa using hm,fun _=>⟨b,0,rfl,rfl,h.lt,fun i c j v a=>?_⟩⟩,by simp⟩;simp only[List.length_map] at c;have:j=0/\cs[i]?=some v:=by
  simp only[List.getD_eq_getElem?_getD,List.getElem?_map] at a;rw[List.getElem?_eq_getElem c] at a⊢;cases j with
  |zero=>simp at a;simp[a]
  |succ j=>simp at a
 obtain⟨rfl,f⟩:=this;rw[yG];simp only[Nat.mul_one,Nat.zero_add,Nat.add_zero];exact h.cell f
theorem Blk.own1 {b n c:Nat} {cs:List Value} (h:Blk w b cs (JQ P t)) (a:base<=b) (e:n=cs.length) (d:c=cs.length) (hm:n<=9223372036854775807):Own P base 1 t w (.slice (some ⟨b,0,none⟩) n c) (cs.map fun x=>[x]):=by
 subst e d;refine⟨⟨by simp[flatten_len (k:=1) (xs:=cs.map fun x=>[x]) (by simp)],.inr ⟨b,cs.length,⟨cs⟩,by simp,a,h,by simp,by simpa[maxLen] using hm,by simp,?_⟩⟩,by simp⟩;rw[flat1];simp
end
end Go.Vc
end
section
namespace Go.Vc
open Go
def OwnV (P:Program) (t:TypeId) (w:World) (v:Value) (vs:List Value):Prop:=Own P 0 1 t w v (vs.map fun x=>[x])
def OwnI (P:Program) (t:TypeId) (w:World) (v:Value) (xs:List Int):Prop:=OwnV P t w v (xs.map fun x=> .int .i64 x)
section
variable {P:Program} {t:TypeId} {w w':World} {v:Value} {vs:List Value} {xs:List Int} {bs:List Bool} {K:Value→World→Prop} {F S:Nat→Prop}
theorem OwnV.nil:OwnV P t w (.slice none 0 0) []:=Own.nil P 0 1 t w
theorem OwnI.nil:OwnI P t w (.slice none 0 0) []:=OwnV.nil
theorem OwnV.ext (h:OwnV P t w v vs) (hw:Ext w w'):OwnV P t w' v vs:=Own.ext h hw
theorem OwnI.ext (h:OwnI P t w v xs) (hw:Ext w w'):OwnI P t w' v xs:=OwnV.ext h hw
theorem OwnV.vals (h:OwnV P t w v vs):Vals (fun b=>v.ownBlock=some b) w v vs:=Own.sl h
theorem OwnI.ints (h:OwnI P t w v xs):Ints (fun b=>v.ownBlock=some b) w v xs:=OwnV.vals h
theorem OwnV.app {bs ty:Nat} {y:Value} {us:List Value} (h:OwnV P t w v vs) (l:elZ P t 1 bs=true) (m:Vals F w y us) (a:∀u,u∈us->u.oneCell'=true)
  (e:vs.length+us.length<=9223372036854775807) (hlen:(vs.length+us.length)*bs<=140737488355328)
  (k:∀d w',OwnV P t w' d (vs++us)->Same (fun b=>v.ownBlock=some b) w w'->(∀b,d.ownBlock=some b->v.ownBlock=some b\/w.heap.size<=b)->K d w'):vbi P .append [t,t] ty [v,y] w K:=by
 refine vappend l (by decide) h m (fun y n c f=>?_) (by omega) (by simpa using e) (by simpa using hlen) fun d w' g i j=>k d w' ?_ i j
 ·obtain⟨u,hu,rfl⟩:=List.mem_map.1 n;rw[List.mem_singleton] at f;subst f;exact a _ hu
 ·unfold OwnV;rw[List.map_append];exact g
theorem OwnV.app1 {bs ty b:Nat} {x:Value} {e:TypeId} (h:OwnV P t w v vs) (g:elZ P t 1 bs=true) (i:Blk w b [x] e) (a:x.oneCell'=true)
  (d:vs.length<9223372036854775807) (hlen:(vs.length+1)*bs<=140737488355328)
  (f:∀c w',OwnV P t w' c (vs++[x])->Same (fun b=>v.ownBlock=some b) w w'->(∀b,c.ownBlock=some b->v.ownBlock=some b\/w.heap.size<=b)->K c w'):vbi P .append [t,t] ty [v,.slice (some ⟨b,0,none⟩) 1 1] w K:=
 h.app g (F:=(· =b)) (us:=[x]) (i.sl1 rfl (by omega)) (by simpa using a) (by simp;omega) (by simpa using hlen) f
theorem OwnI.app1 {bs ty b:Nat} {x:Int} {e:TypeId} (h:OwnI P t w v xs) (g:elZ P t 1 bs=true) (i:Blk w b [.int .i64 x] e)
  (c:xs.length<9223372036854775807) (hlen:(xs.length+1)*bs<=140737488355328)
  (f:∀a w',OwnI P t w' a (xs++[x])->Same (fun b=>v.ownBlock=some b) w w'->(∀b,a.ownBlock=some b->v.ownBlock=some b\/w.heap.size<=b)->K a w'):vbi P .append [t,t] ty [v,.slice (some ⟨b,0,none⟩) 1 1] w K:=
 OwnV.app1 h g i rfl (by simpa using c) (by simpa using hlen) fun a w' d=>f a w' (by unfold OwnI;rw[List.map_append];exact d)
theorem U8 {k:Nat} (h:elB P t k=true):P.underlying t=some (.slice (P.elem t))/\k6 P (P.elem t) k=true:=by
 obtain⟨e,hu,a⟩:=Wf h;have:P.elem t=e:=by simp[Program.elem,hu]
 rw[this];exact⟨hu,a⟩
def cutV (v:Value) (n:Nat):Value:=match v with
 | .slice a _ c=> .slice a n c
 |x=>x
theorem Sl.cut {k:Nat} {v:Value} {xs:List (List Value)} (h:Sl F w k v xs) (i:∀a l c,v= .slice (some a) l c->∃b o,a=⟨b,o,none⟩) (g:elB P t k=true) {kd:IntKind} {n:Nat} (m:n<=xs.length):
  yJ P t v none (some (.int kd n)) none w' K=K (cutV v n) w':=by
 obtain⟨hu,f⟩:=U8 g;obtain⟨a,c,rfl,j,e,d⟩:=h.shape;refine y6 ?_;rw[run_sliceAt_slice w' t _ _ _ _ hu,run_slice_h w' t _ _ _ hu kd n (by omega) (by omega),qt f];cases a with
 |none=>simp[Result.andThen,sliced,cutV]
 |some a=>
  obtain⟨b,o,rfl⟩:=i _ _ _ rfl;simp[Result.andThen,sliced,cutV];exact fun _=>rfl
end
end Go.Vc
end
section
namespace Go.Vc
open Go
def strF (P:Program) (t:TypeId):Option (List (Nat×Nat)×List Value):=
 match P.underlying t,P.info? t with
 |some (.struct fs),some i=>
  match fs.toList.mapM (fun f=>(P.info? f.type).map fun j=>(f.offset,j.size)),i.zero with
  |some pl,some z=>some (pl,z.cells.toList)
  |_,_=>none
 |_,_=>none
def setL (cs:List Value) (o:Nat):List Value→List Value
 |[]=>cs
 |c::r=>setL (cs.set o c) (o+1) r
def fillC (pl:List (Nat×Nat)) (cs:List Value):List Nat→List (List Value)→Option (List Value)
 |[],[]=>some cs
 |i::is,u::us=>
  match pl[i]? with
  |none=>none
  |some (o,s)=>if Nat.beq u.length s&&Nat.ble (o+s) cs.length then fillC pl (setL cs o u) is us else none
 |_,_=>none
section
variable {P:Program} {t:TypeId} {w:World} {K:Value→World→Prop}
theorem foldl_set (us:List Value):∀(cs:List Value) (o k:Nat),((us.zipIdx k).foldl (fun(cs:Array Value) (c,j)=>cs.setIfInBounds (o+j) c) ⟨cs⟩)=⟨setL cs (o+k) us⟩:=by
 induction us with
 |nil=>intro cs o k;rfl
 |cons u r a=>
  intro cs o k;rw[List.zipIdx_cons,List.foldl_cons];simp only[List.setIfInBounds_toArray,setL];rw[a,Nat.add_assoc]
theorem fill_eq {pl:List (Nat×Nat)}:∀{ps:List (Nat×Value)} {us:List (List Value)} {zs cs:List Value},ps.map (fun p=>p.2.cells)=us.map List.toArray->fillC pl zs (ps.map (·.1)) us=some cs->
  Instr.fill (pl.toArray[·]?) ⟨zs⟩ ps=some ⟨cs⟩
 |[],[],zs,cs,_,h=>by simp only[List.map_nil,fillC,Option.some.injEq] at h;rw[h];rfl
 |[],u::us,_,_,h,_=>by cases h
 |p::ps,[],_,_,h,_=>by cases h
 |(i,v)::ps,u::us,zs,cs,c,h=>by
  simp only[List.map_cons,List.cons.injEq] at c;simp only[List.map_cons,fillC] at h;unfold Instr.fill;simp only[List.getElem?_toArray];split at h
  ·cases h
  ·rename_i o s f;rw[f];simp only;split at h
   ·rename_i b;rw[Bool.and_eq_true] at b;have d:=Nat.eq_of_beq_eq_true b.1;have g:=Nat.le_of_ble_eq_true b.2;have e:=c.1;simp only[e];have a:(decide ((List.toArray u).size≠s)||decide (o+(List.toArray u).size>(List.toArray zs).size))=false:=by simp[d];omega
    rw[a];simp only[Bool.false_eq_true,if_false];rw[<-Array.foldl_toList,Array.toList_zipIdx,foldl_set,Nat.add_zero];have:=fill_eq c.2 h;simpa only[List.getElem?_toArray] using this
   ·cases h
theorem Blk.stAgg {b:Nat} {cs cs':List Value} {t0:TypeId} (h:Blk w b cs t0) (a:cs'.length=cs.length) (i:aggB P t cs'.length=true) (d:∀v,v∈cs'->v.oneCell'=true)
  (f:∀w',Same (· =b) w w'->w'.heap.size=w.heap.size->Blk w' b cs' t0->K undef w'):zn P t (.pointer (some ⟨b,0,none⟩)) (.agg ⟨cs'⟩) w K:=by
 have c:=run_storeCells_at (P:=P) b 0 t0 cs' 0 ⟨cs⟩ w h (by simp[a]) d;refine⟨(),_,?_,f (w.setRow b (cs'.toArray)) ⟨rfl,rfl,rfl,by simp,fun k _ g=>setRow_other w b k _ g⟩ (by simp) (setRow_heap w b _ _ t0 _ h)⟩;simp only[Instr.storeAt,Instr.sureAddr,Sem.run_bind,Sem.run_pure,Result.andThen_ok,storeVar,j6 i,Value.cells];simp only[List.size_toArray,ne_eq,not_true_eq_false,if_false];have e:(cs.take (0+0)++cs'++cs.drop (0+0+cs'.length))=cs':=by rw[a];simp
 simp only[e] at c;exact c
theorem Sl.one {F:Nat->Prop} {k:Nat} {v:Value} {xs:List (List Value)} (h:Sl F w k v xs):v.oneCell'=true:=by
 obtain⟨a,c,rfl,_⟩:=h.shape;rfl
end
end Go.Vc
end
section
namespace Go.Vc
open Go Go.MapKept
def ISet (w:World) (b:Nat) (ks:List Int):Prop:=
 ∃es clock,w.heap[b]?=some (.map es clock)∧Stamped es clock∧es.toList.map (·.key)=ks.map fun k=>Value.int .i64 k
def imapB (P:Program) (t:TypeId):Bool:=match P.underlying t with
 |some (.map kt _)=>(match P.underlying kt with|some (.int .i64)=>true|_=>false)
 |_=>false
section
variable {P:Program} {t:TypeId} {w w':World} {K:Value→World→Prop} {b:Nat} {ks:List Int} {S:Nat→Prop}
theorem VO (h:imapB P t=true):∃kt et,P.underlying t=some (.map kt et)/\P.underlying kt=some (.int .i64):=by
 unfold imapB at h;split at h
 ·rename_i kt et hu;split at h
  ·exact⟨kt,et,hu,by assumption⟩
  ·cases h
 ·cases h
theorem KX {es:Array MapEntry} (c:es.toList.map (·.key)=ks.map fun k=>Value.int .i64 k):∀x∈es.toList,∃k,k∈ks/\x.key= .int .i64 k:=by
 intro x d;have:x.key∈es.toList.map (·.key):=List.mem_map_of_mem d;rw[c] at this;obtain⟨k,a,b⟩:=List.mem_map.1 this;exact⟨k,a,b.symm⟩
theorem Xf (n:Int):IsKey (.int .i64) (.int .i64 n):=by simp[IsKey]
theorem Qx {w:World} {r:Nat} {o o':Obj} (a:w.heap[r]?=some o):Same (· =r) w {w with heap:=w.heap.setIfInBounds r o'}:=
 ⟨rfl,rfl,rfl,by simp,fun k _ b=>(heap_set (o':=o') a).2 k b⟩
def IterR (w:World) (r b:Nat) (ks ds:List Int):Prop:=
 ∃es clock seen,w.heap[b]?=some (.map es clock)∧Stamped es clock∧es.toList.map (·.key)=ks.map (fun k=>Value.int .i64 k)∧w.heap[r]?=some (.mapIter (some b) clock seen clock)∧ds.Nodup∧(∀k,k∈ds→k∈ks)∧
  (∀e,e∈es.toList→(seen.contains e.born=true↔ ∃k,k∈ds∧e.key= .int .i64 k))∧(∀ds' k,ds=ds'++[k]→∃e,e∈es.toList∧e.key= .int .i64 k∧∃s':Array Nat,seen=s'.push e.born)
theorem IterR.same {r:Nat} {ds:List Int} (h:IterR w r b ks ds) (hw:Same S w w') (a: ¬S b) (k: ¬S r):IterR w' r b ks ds:=by
 obtain⟨es,clock,seen,d,c,j,hit,e,f,g,i⟩:=h;exact⟨es,clock,seen,(hw.block b (Array.getElem?_eq_some_iff.1 d).1 a).trans d,c,j,(hw.block r (Array.getElem?_eq_some_iff.1 hit).1 k).trans hit,e,f,g,i⟩
theorem IterR.ext {r:Nat} {ds:List Int} (h:IterR w r b ks ds) (hw:Ext w w'):IterR w' r b ks ds:=h.same hw id id
theorem IterR.nd {r:Nat} {ds:List Int} (h:IterR w r b ks ds):ds.Nodup:=by
 obtain⟨es,clock,seen,d,c,e,hit,a,_⟩:=h;exact a
theorem IterR.sub {r:Nat} {ds:List Int} (h:IterR w r b ks ds) {k:Int} (a:k∈ds):k∈ks:=by
 obtain⟨es,clock,seen,f,d,g,hit,e,c,_⟩:=h;exact c k a
theorem IterR.len {r:Nat} {ds:List Int} (h:IterR w r b ks ds):ds.length<=ks.length:=h.nd.length_le_of_subset fun _ a=>h.sub a
theorem Kc (f:imapB P t=true) (h:ISet w b ks) (e:∀r w',r=w.heap.size->IterR w' r b ks []->Ext w w'->K (.pointer (some ⟨r,0,none⟩)) w'):X5 P t (.map (some b)) w K:=by
 obtain⟨kt,et,hm,g⟩:=VO f;obtain⟨es,cl,a,d,c⟩:=h;refine⟨.pointer (some ⟨w.heap.size,0,none⟩),w.alloc (.mapIter (some b) cl #[] cl),?_,e _ _ rfl ⟨es,cl,#[],?_,d,c,(MapKept.heap_alloc w _).1,List.nodup_nil,by simp,by simp,by simp⟩ ⟨rfl,rfl,rfl,by simp,fun k c _=>(MapKept.heap_alloc w _).2 k c⟩⟩
 ·simp[Instr.range,run_underlying hm,MapKept.run_getObj_map a,Result.andThen,newObj,Sem.run]
 ·rw[(MapKept.heap_alloc w _).2 b (Array.getElem?_eq_some_iff.1 a).1];exact a
theorem vnext_set {r:Nat} {ds:List Int} {ty:TypeId} (h:IterR w r b ks ds) (u:(∀k,k∈ks->k∈ds)->K (.tuple #[.bool false]) w)
  (hK:∀k x w',k∈ks->k∉ds->IterR w' r b ks (ds++[k])->Same (· =r) w w'->w'.heap.size=w.heap.size->K (.tuple #[.bool true,.int .i64 k,x]) w'):JB P (.pointer (some ⟨r,0,none⟩)) false ty w K:=by
 obtain⟨es,clock,seen,M,n,S,hit,h1,h2,J,h4⟩:=h;have hold:∀x∈es.toList,x.born<clock:=n.1;have V:r≠b:=fun e=>by subst e;rw[M] at hit;cases hit
 have A:∀k,k∈ks->∃e,e∈es.toList/\e.key= .int .i64 k:=fun k i=>by
  have:Value.int .i64 k∈es.toList.map (·.key):=by rw[S];exact List.mem_map_of_mem i
  obtain⟨y,hy,e⟩:=List.mem_map.1 this;exact⟨y,hy,e⟩
 have p:∀{v:Value} {w':World},(∃(L:Array MapEntry),L=leftOf es seen/\
   ((L.size=0/\v= .tuple #[.bool false]/\w'=w)\/ ∃(j:Nat) (g:World) (e:MapEntry),L[j]?=some e/\(choose (Question.mapNext L.size)).run P w= .ok j g/\g.heap=w.heap/\v= .tuple #[.bool true,e.key,e.val]/\w'={g with heap:=w.heap.setIfInBounds r (.mapIter (some b) clock (seen.push e.born) clock)}))->
   (Instr.next (.pointer (some ⟨r,0,none⟩)) false ty).run P w= .ok v w':=by
  rintro v w' ⟨L,X,F⟩;simp only[Instr.next,getObj,Sem.run_bind,Sem.run,hit,M,Result.andThen,next_test_false seen es clock clock hold (Nat.le_refl _),Bool.false_eq_true,if_false];unfold leftOf at X;have m:∀x∈(Array.filter (fun e=> !seen.contains e.born) es).toList,x.born<clock:=fun x d=>hold x (by simp at d⊢;exact d.1);rw[<-X] at m⊢;have e1:L.filter (fun x=>decide (x.born<clock))=L:=Array.filter_eq_self.2 (fun x d=>by simpa using m x (by simpa using d));have I:L.filter (fun x=>decide (x.born≥clock))= #[]:=by
   rw[Array.filter_eq_empty_iff];intro x d;have:=m x (by simpa using d);simp;omega
  simp only[e1,I,Array.append_empty];rcases F with⟨E,rfl,rfl⟩|⟨j,g,e,H,q,G,rfl,rfl⟩
  ·have:L= #[]:=Array.eq_empty_of_size_eq_zero E;subst this;simp[choose,Sem.run,Question.forced]
  ·have a1:=(Array.getElem?_eq_some_iff.1 H).1;have B:L.isEmpty=false:=(by simp[Array.isEmpty,show L.size≠0 by omega]);simp only[B,Bool.false_eq_true,if_false,Array.empty_append,Array.size_map];have Z:g.heap[r]?=some (.mapIter (some b) clock seen clock):=by rw[G];exact hit
   have C:∀o',(setObj r o').run P g= .ok () {g with heap:=w.heap.setIfInBounds r o'}:=fun o'=>by
    simp only[setObj,Sem.run,G,hit]
   simp only[q,Array.getElem?_map,H,Option.map_some,Sem.run_bind,C,Result.andThen];rfl
 by_cases E:(leftOf es seen).size=0
 ·refine⟨_,w,p ⟨_,rfl,.inl ⟨E,rfl,rfl⟩⟩,u fun k i=>?_⟩;obtain⟨e,he,f⟩:=A k i;obtain⟨k',T,t⟩:=(J e he).1 (all_seen es seen E e he);rw[f] at t;cases t;exact T
 ·have q:∃(j:Nat) (g:World),j<(leftOf es seen).size/\(g=w\/g={w with drawn:=w.drawn+1})/\(choose (Question.mapNext (leftOf es seen).size)).run P w= .ok j g:=by
   by_cases Y:(leftOf es seen).size<=1
   ·exact⟨0,w,by omega,.inl rfl,by simp[choose,Sem.run,Question.forced,Y]⟩
   ·exact⟨_,_,Nat.mod_lt _ (by omega),.inr rfl,by
     simp only[choose,Sem.run,Question.forced,decide_eq_true_eq,Y,if_false,Question.cut];rfl⟩
  obtain⟨j,g,H,D,N⟩:=q;have l:=Array.getElem?_eq_getElem H;generalize (leftOf es seen)[j]=e at l;have Q:e∈(leftOf es seen).toList:=(by simpa using Array.mem_of_getElem? l);obtain⟨he,W⟩:=mem_left Q;obtain⟨k,i,f⟩:=KX S e he;have z:k∉ds:=fun h=>by
   have:=(J e he).2 ⟨k,h,f⟩;rw[W] at this;cases this
  have G:g.heap=w.heap:=by rcases D with rfl|rfl<;>rfl
  refine⟨_,_,p ⟨_,rfl,.inr ⟨j,g,e,l,N,G,rfl,rfl⟩⟩,?_⟩;rw[f];have hS:Same (· =r) w {g with heap:=w.heap.setIfInBounds r (.mapIter (some b) clock (seen.push e.born) clock)}:=by
   have:=Qx (o':= .mapIter (some b) clock (seen.push e.born) clock) hit;rcases D with rfl|rfl
   ·exact this
   ·exact⟨this.os,this.tape,this.output,this.size,this.block⟩
  refine hK k e.val _ i z ⟨es,clock,seen.push e.born,?_,n,S,(heap_set hit).1,?_,?_,?_,?_⟩ hS (by simp)
  ·exact((heap_set hit).2 b (fun e=>V e.symm)).trans M
  ·rw[List.nodup_append];exact⟨h1,by simp,fun a ha c F e=>by simp at F;subst F;subst e;exact z ha⟩
  ·intro x d;rw[List.mem_append,List.mem_singleton] at d;rcases d with d|rfl
   ·exact h2 x d
   ·exact i
  ·intro t s;rw[contains_push,Bool.or_eq_true,J t s];constructor
   ·rintro(⟨x,d,o⟩|d)
    ·exact⟨x,List.mem_append_left _ d,o⟩
    ·have:=born_inj n.2.1 s he (by simpa using d);subst this;exact⟨k,by simp,f⟩
   ·rintro⟨x,d,o⟩;rw[List.mem_append,List.mem_singleton] at d;rcases d with d|rfl
    ·exact .inl ⟨x,d,o⟩
    ·right;have:t=e:=by
      have U:=n.2.2;have hp:=List.pairwise_map.1 U;exact(List.Pairwise.forall_of_forall_of_flip (R:=fun x y=>x.key=y.key->x=y) (by simp) (hp.imp fun h e=>absurd e h) (hp.imp fun h e=>absurd e.symm h)) s he (by rw[o,f])
     subst this;simp
  ·rintro a0 k' O;have:=List.append_inj' O rfl;have I:k=k':=(by simpa using this.2);subst I;exact⟨e,he,f,seen,rfl⟩
end
end Go.Vc
end
section
namespace Go.Vc
open Go
section
variable {P:Program} {w:World} {K:Value→World→Prop}
theorem vbi_max {ts:List TypeId} {t:TypeId} {k a:IntKind} {x y:Int}:vbi P .max ts t [.int k x,.int a y] w K=K (.int k (max x y)) w:=by
 refine y6 ?_;simp only[biSem,run_max_int2];rw[Int.max_def];split<;>split<;>(first|rfl|(exfalso;omega)|skip)
 all_goals (have:x=y:=by omega)<;>rw[this]
theorem Wp {ts:List TypeId} {t:TypeId} {k a:IntKind} {x y:Int}:vbi P .min ts t [.int k x,.int a y] w K=K (.int k (min x y)) w:=by
 refine y6 ?_;simp only[biSem,run_min_int2];rw[Int.min_def];split<;>split<;>(first|rfl|(exfalso;omega)|skip)
 all_goals (have:x=y:=by omega)<;>rw[this]
attribute [push_cast] vbi_max Wp
theorem setL_app:∀(us a b:List Value),us.length<=b.length->setL (a++b) a.length us=a++us++b.drop us.length
 |[],a,b,_=>by simp[setL]
 |u::us,a,[],h=>by simp at h
 |u::us,a,c::b,h=>by
  have e:(a++c::b).set a.length u=(a++[u])++b:=(by simp);rw[setL,e,show a.length+1=(a++[u]).length from by simp,setL_app us (a++[u]) b (by simpa using h)];simp
theorem fill_row {k:Nat}:∀(xs:List Value) (us:List (List Value)) (i:Nat) (a b:List Value),xs.map Value.cells=us.map List.toArray->(∀u,u∈us->u.length=k)->a.length=i*k->b.length=xs.length*k->
  Instr.fill (fun i=>some (i*k,k)) ⟨a++b⟩ ((xs.zipIdx i).map fun p=>(p.2,p.1))=some ⟨a++us.flatten⟩
 |[],[],i,a,b,_,_,_,c=>by
  have:b=[]:=List.eq_nil_of_length_eq_zero (by simpa using c);subst this;simp[Instr.fill]
 |[],u::us,_,_,_,h,_,_,_=>by simp at h
 |x::xs,[],_,_,_,h,_,_,_=>by simp at h
 |x::xs,u::us,i,a,b,h,hw,d,c=>by
  simp only[List.map_cons,List.cons.injEq] at h;have hu:=hw u List.mem_cons_self;rw[List.length_cons,Nat.add_mul,Nat.one_mul] at c;have e:x.cells.size=k:=by rw[h.1];simpa using hu
  rw[List.zipIdx_cons,List.map_cons,Instr.fill];simp only[e,ne_eq,not_true_eq_false,decide_false,Bool.false_or,List.size_toArray,List.length_append];rw[if_neg (by simp;omega)];rw[<-Array.foldl_toList,Array.toList_zipIdx,h.1];rw[foldl_set,Nat.add_zero,<-d,setL_app u a b (by omega),List.append_assoc,<-List.append_assoc a u];rw[fill_row xs us (i+1) (a++u) (b.drop u.length) h.2 (fun v f=>hw v (List.mem_cons_of_mem _ f)) (by simp[d,hu,Nat.add_mul]) (by simp;omega)];simp
theorem vbuildS_row {t:TypeId} {e k:Nat} {z:Value} {xs:List Value} {us:List (List Value)} (hu:P.underlying t=some (.slice e)) (j:k6 P e k=true) (hzero:yT P e z) (h:xs.map Value.cells=us.map List.toArray) (hw:∀u,u∈us->u.length=k) (g:xs.length*k<=16777216)
  (d:∀b w',b=w.heap.size->Ext w w'->w'.heap.size=w.heap.size+1->Blk w' b us.flatten e->K (.slice (some ⟨b,0,none⟩) xs.length xs.length) w'):vbuildS P t xs.length (xs.zipIdx.map fun p=>(p.2,p.1)) w K:=by
 refine⟨_,_,?_,d w.heap.size {w with heap:=w.heap.push (.cells ⟨us.flatten⟩ e)} rfl (ext_push w _) (by simp) (X1 w _ e)⟩;have a:∀c:Array Value,c.size=xs.length*k->Instr.fill (fun i=>some (i*k,k)) c (xs.zipIdx.map fun p=>(p.2,p.1))=some ⟨us.flatten⟩:=fun c f=>by
  have:=fill_row xs us 0 [] c.toList h hw (by simp) (by simpa using f);simpa using this
 simp only[Instr.buildSlice,Sem.run_bind,yP hu,Result.andThen_ok,qt j];rw[if_neg (by omega)];split
 ·simp only[Sem.run_bind,Sem.run_pure,Result.andThen_ok];rw[a _ (by simp)];rfl
 ·simp only[Sem.run_bind,Sem.run_pure,Result.andThen_ok,YY hzero];rw[a _ (by simp)];rfl
theorem vbuildS_row1 {t:TypeId} {e:Nat} {z:Value} {xs:List Value} (hu:P.underlying t=some (.slice e)) (k:k6 P e 1=true) (hzero:yT P e z) (j:∀x,x∈xs->x.cells= #[x]) (i:xs.length<=16777216)
  (h:∀b w',b=w.heap.size->Ext w w'->w'.heap.size=w.heap.size+1->Blk w' b xs e->K (.slice (some ⟨b,0,none⟩) xs.length xs.length) w'):vbuildS P t xs.length (xs.zipIdx.map fun p=>(p.2,p.1)) w K:=by
 refine vbuildS_row (us:=xs.map fun x=>[x]) hu k hzero ?_ (fun u hu=>by obtain⟨y,_,rfl⟩:=List.mem_map.1 hu;rfl) (by omega) fun b w' c d f g=>h b w' c d f (by rwa[flat1] at g);rw[List.map_map];exact List.map_congr_left fun x a=>j x a
theorem JY {t:TypeId} {c:Bool} {k:IntKind} {a b:Int} (d:b≠0):zj P .quo t c (.int k a) (.int k b) w K=K (.int k (k.wrap (a.tdiv b))) w:=
 yo rfl (by simp[binOp,Op.intDiv,d])
theorem JX {t:TypeId} {c:Bool} {k:IntKind} {a b:Int} (d:b≠0):zj P .rem t c (.int k a) (.int k b) w K=K (.int k (a.tmod b)) w:=
 yo rfl (by simp[binOp,Op.intDiv,d])
def Wc (P:Program) (t:TypeId) (k:IntKind):Prop:=P.underlying t=some (.int k)
theorem jm {s d:TypeId} {k e:IntKind} {n:Int} (b:(P.underlying s).isSome=true) (a:Wc P d k):qh P s d (.int e n) w K=K (.int k (k.wrap n)) w:=by
 refine y6 ?_;obtain⟨x,c⟩:=Option.isSome_iff_exists.1 b;unfold Wc at a;simp only[convert,Sem.run_bind,yP c,yP a,Result.andThen_ok];cases x<;>rfl
end
end Go.Vc
end
section
namespace Go.Vc
open Go Go.MapKept
def MapF (d:TypeDesc) (w:World) (b:Nat) (f:List (Value×Value)):Prop:=
 ∃es clock,w.heap[b]?=some (.map es clock)∧Stamped es clock∧(∀x∈es.toList,IsKey d x.key)∧es.toList.map (fun e=>(e.key,e.val))=f
def WM (P:Program) (t:TypeId) (d:TypeDesc) (e:TypeId):Prop:= ∃kt,P.underlying t=some (.map kt e)∧P.underlying kt=some d
section
variable {P:Program} {t e:TypeId} {d:TypeDesc} {w w':World} {K:Value→World→Prop} {b:Nat} {f:List (Value×Value)} {S:Nat→Prop}
theorem MapF.lt (h:MapF d w b f):b<w.heap.size:=by
 obtain⟨es,cl,a,_⟩:=h;exact(Array.getElem?_eq_some_iff.1 a).1
theorem MapF.same (h:MapF d w b f) (hw:Same S w w') (e: ¬S b):MapF d w' b f:=by
 have a:=h.lt;obtain⟨es,cl,c,r⟩:=h;exact⟨es,cl,(hw.block b a e).trans c,r⟩
theorem MapF.ext (h:MapF d w b f) (hw:Ext w w'):MapF d w' b f:=h.same hw id
theorem MapF.nodup (h:MapF d w b f):(f.map (·.1)).Nodup:=by
 obtain⟨es,cl,e,a,c,rfl⟩:=h;have:=a.2.2;rw[List.map_map];exact this
theorem KA {r:Option Value} {k:IntKind} {n:Nat} (c:WM P t d e) (g:r=none\/r=some (.int k n)) (a:∀b w',b=w.heap.size->MapF d w' b []->Ext w w'->w'.heap.size=w.heap.size+1->K (.map (some b)) w'):vmkM P t r w K:=by
 refine⟨.map (some w.heap.size),w.alloc (.map #[] 0),?_,a _ _ rfl ⟨#[],0,(heap_alloc w _).1,stamped_empty 0,by simp,rfl⟩ ⟨rfl,rfl,rfl,by simp,fun k f _=>(heap_alloc w _).2 k f⟩ (by simp)⟩;obtain⟨kt,hm,h⟩:=c;rcases g with rfl|rfl
 ·simp[Instr.makeMap,newObj,Sem.run]
 ·simp only[Instr.makeMap,Sem.run_bind,yP hm,Result.andThen_ok];simp[asInt,asIntOf,newObj,Sem.run,Result.andThen]
theorem Vw (c:WM P t d e) (a:∀b w',b=w.heap.size->MapF d w' b []->Ext w w'->w'.heap.size=w.heap.size+1->K (.map (some b)) w'):vmkM P t none w K:=KA (k:= .i64) (n:=0) c (.inl rfl) a
theorem Kz {k x:Value} (r:WM P t d e) (h:MapF d w b f) (l:IsKey d k) (s:∀v,(k,v)∉f)
  (q:∀w',MapF d w' b (f++[(k,x)])->Same (· =b) w w'->w'.heap.size=w.heap.size->K undef w'):jx P t (.map (some b)) k x w K:=by
 obtain⟨kt,hm,o⟩:=r;obtain⟨es,cl,g,m,c,rfl⟩:=h;rcases findNow_spec l es.toList 0 c with⟨n,i⟩|⟨j,e,n,i,p⟩
 ·refine⟨(),{w with heap:=w.heap.setIfInBounds b (.map (es.push {key:=k,val:=x,born:=cl}) (cl+1))},?_,q _ ⟨_,_,(heap_set g).1,stamped_push m i,fun y a=>?_,by simp⟩ (Qx g) (by simp)⟩
  ·simp[Instr.mapUpdate,run_underlying hm,MapKept.run_getObj_map g,run_checkKey o l,run_findKey o n,run_setObj_map _ g,Result.andThen]
  ·rw[Array.toList_push] at a;rcases List.mem_append.1 a with a|a
   ·exact c y a
   ·rw[List.mem_singleton.1 a];exact l
 ·exact absurd (List.mem_map.2 ⟨e,List.mem_of_getElem? i,by rw[p]⟩) (s e.val)
theorem Vx {k v:Value} {ok:Bool} (F:WM P t d e) (h:MapF d w b f) (E:IsKey d k) (l:(k,v)∈f):
  J7 P t (.map (some b)) k ok w K=K (if ok then .tuple #[v,.bool true] else v) w:=by
 obtain⟨kt,hm,D⟩:=F;have H:=h.nodup;obtain⟨es,cl,G,u,r,rfl⟩:=h;rcases findNow_spec E es.toList 0 r with⟨B,q⟩|⟨j,e,B,q,C⟩
 ·obtain⟨x,y,e⟩:=List.mem_map.1 l;cases e;exact absurd rfl (q x y)
 ·obtain⟨x,y,A⟩:=List.mem_map.1 l;have z:x=e:=by
   have s:e∈es.toList:=List.mem_of_getElem? q;have I:=u.2.2;cases A;have n:es.toList.Pairwise fun a b=>a.key≠b.key:=List.pairwise_map.1 I;by_cases m:x=e
   ·exact m
   ·obtain⟨i1,g,o⟩:=List.getElem_of_mem y;obtain⟨i2,i,p⟩:=List.getElem_of_mem s;rcases Nat.lt_trichotomy i1 i2 with c|heq|c
    ·exact absurd (by rw[o,p];exact C.symm) (List.pairwise_iff_getElem.1 n i1 i2 g i c)
    ·subst heq;exact absurd (o.symm.trans p) m
    ·exact absurd (by rw[o,p];exact C) (List.pairwise_iff_getElem.1 n i2 i1 i g c)
  subst z;cases A;refine y6 ?_;cases ok<;>simp[Instr.lookup,run_underlying hm,MapKept.run_getObj_map G,run_checkKey D E,run_findKey D B,Result.andThen]
theorem KC {k z:Value} {ok:Bool} (n:WM P t d e) (r:yT P e z) (h:MapF d w b f) (l:IsKey d k) (p:∀v,(k,v)∉f):
  J7 P t (.map (some b)) k ok w K=K (if ok then .tuple #[z,.bool false] else z) w:=by
 obtain⟨kt,hm,i⟩:=n;obtain⟨es,cl,o,q,a,rfl⟩:=h;rcases findNow_spec l es.toList 0 a with⟨c,g⟩|⟨j,e,c,g,m⟩
 ·refine y6 ?_;cases ok<;>simp[Instr.lookup,run_underlying hm,MapKept.run_getObj_map o,run_checkKey i l,run_findKey i c,YY r,Result.andThen]
 ·exact absurd (List.mem_map.2 ⟨e,List.mem_of_getElem? g,by rw[m]⟩) (p e.val)
theorem zw {ty:TypeId} {v rcv:Value} {name:String} {args:Array Value} {g:Nat} (hm:∀w:World,(method (P.types.size+Made.depth) ty v name).run P w= .ok (g,rcv) w) (h:vcall P g ⟨rcv::args.toList⟩ w K):vinvoke P (.iface ty v) name args w K:=
 ⟨g,rcv,hm w,h⟩
def concB (P:Program) (t:TypeId):Bool:=match P.underlying t with|some (.interface _)=>false|some _=>true|none=>false
theorem jy (h:concB P t=true) (v:Value):Yo P t v w K=K (.iface t v) w:=by
 refine y6 ?_;unfold concB at h;cases hu:P.underlying t with
 |none=>rw[hu] at h;cases h
 |some x=>
  rw[hu] at h;simp only[Instr.makeInterface,Sem.run_bind,yP hu,Result.andThen_ok];cases x<;>first|(cases h;done)|simp
theorem Jw (a b:ByteArray):(a.toList==b.toList)=decide (a=b):=by
 rw[<-beq_toListBytes];by_cases h:a=b
 ·subst h;rw[decide_eq_true rfl];exact(MapKept.bytes_beq a a).2 rfl
 ·rw[decide_eq_false h,Bool.eq_false_iff];exact fun e=>h ((MapKept.bytes_beq a b).1 e)
@[push_cast] theorem qs {c:Bool} (t:TypeId) (a b:ByteArray):zj P .eql t c (.string a) (.string b) w K=K (.bool (decide (a=b))) w:=
 yo rfl (by rw[binOp_string_eql,Jw];rfl)
@[push_cast] theorem Qn {c:Bool} (t:TypeId) (a b:ByteArray):zj P .neq t c (.string a) (.string b) w K=K (.bool (decide (a≠b))) w:=
 yo rfl (by rw[binOp_string_neq,Jw,decide_not];rfl)
theorem yc {c:Bool} {t:TypeId} {a b:ByteArray} (h:a.size+b.size<=9223372036854775807):zj P .add t c (.string a) (.string b) w K=K (.string (a++b)) w:=
 yo rfl (by simp only[binOp_string_add];exact run_string_add_sum w a b h)
theorem zY {t ty:TypeId} {s:ByteArray} (h:P.underlying t=some .string):vbi P .len [t] ty [.string s] w K=K (.int .i64 s.size) w:=
 y6 (run_len_string (P:=P) (w:=w) t ty s h)
theorem vindex_str {t:TypeId} {s:ByteArray} {k:IntKind} {i:Int} (h:P.underlying t=some .string) (b:0<=i) (c:i<s.size):yn P t (.string s) (.int k i) w K=K (.int .u8 ((s.data.getD i.toNat 0).toNat:Int)) w:=by
 refine y6 ?_;rw[run_index_string (P:=P) (w:=w) t s k i h];have a:i.toNat<s.size:=by omega
 have d:i.toNat<s.data.size:=a;rw[dif_pos ⟨b,c⟩,Array.getD_eq_getD_getElem?,Array.getElem?_eq_getElem d];rfl
theorem Qm {t:TypeId} {s:ByteArray} {k a:IntKind} {i j:Int} (h:P.underlying t=some .string) (b:0<=i) (c:i<=j) (d:j<=s.size):yJ P t (.string s) (some (.int k i)) (some (.int a j)) none w K=K (.string (s.extract i.toNat j.toNat)) w:=by
 refine y6 ?_;rw[run_sliceAt_string w t _ _ _ _ h];exact run_slice_string (P:=P) w t s k a i j h b c d
theorem VA {c:Bool} {t:TypeId} {k yk:IntKind} {x y:Int} (h:0<=y):zj P .shl t c (.int k x) (.int yk y) w K=K (.int k (k.wrap (x*2^min y.toNat k.bits))) w:=
 yo rfl (by simp[binOp,shift_shl_any,h])
theorem Vz {c:Bool} {t:TypeId} {k yk:IntKind} {x y:Int} (h:0<=y):zj P .shr t c (.int k x) (.int yk y) w K=K (.int k (x/2^min y.toNat k.bits)) w:=
 yo rfl (by simp[binOp,shift_shr_any,h])
theorem wrapU {n:Nat} (h:n<18446744073709551616):IntKind.u64.wrap (n:Int)=n:=by
 simp only[IntKind.wrap,IntKind.bits,IntKind.signed,Bool.false_and,Bool.false_eq_true,if_false];omega
theorem wrapN {n:Nat} (h:n<9223372036854775808):IntKind.i64.wrap (n:Int)=n:=yb (by omega) (by omega)
theorem Wa (n:Nat):BitVec.ofInt 64 (n:Int)=BitVec.ofNat 64 n:=by simp
theorem KE {c:Bool} {t:TypeId} {a b:Nat} (d:a<18446744073709551616) (g:b<18446744073709551616):zj P .and t c (.int .u64 a) (.int .u64 b) w K=K (.int .u64 (a&&&b:Nat)) w:=
 yo rfl (by
  have f:a&&&b<18446744073709551616:=Nat.lt_of_le_of_lt Nat.and_le_left d;have e:(BitVec.ofInt 64 (a:Int)&&&BitVec.ofInt 64 (b:Int)).toNat=a&&&b:=by
   rw[Wa,Wa,BitVec.toNat_and,BitVec.toNat_ofNat,BitVec.toNat_ofNat,Nat.mod_eq_of_lt d,Nat.mod_eq_of_lt g]
  simp only[binOp,ne_eq,not_true_eq_false,if_false,Op.intBits];show(pure (Value.int .u64 (IntKind.u64.wrap ((BitVec.ofInt 64 (a:Int)&&&BitVec.ofInt 64 (b:Int)).toNat:Int))):Sem Value).run P w=_;rw[e,wrapU f];rfl)
theorem vbin_shlI {c:Bool} {t:TypeId} {yk:IntKind} {x y:Nat} (a:y<64) (h:x*2^y<9223372036854775808):zj P .shl t c (.int .i64 x) (.int yk y) w K=K (.int .i64 (x*2^y:Nat)) w:=by
 rw[VA (by omega)];have e:((x:Int)*2^min (y:Int).toNat IntKind.i64.bits)=((x*2^y:Nat):Int):=by
  have:min (y:Int).toNat IntKind.i64.bits=y:=by show min y 64=y;omega
  rw[this];simp
 rw[e,wrapN h]
theorem vbin_shrU {c:Bool} {t:TypeId} {yk:IntKind} {x y:Nat} (a:y<64):zj P .shr t c (.int .u64 x) (.int yk y) w K=K (.int .u64 (x/2^y:Nat)) w:=by
 rw[Vz (by omega)];have:min (y:Int).toNat IntKind.u64.bits=y:=by show min y 64=y;omega
 rw[this];simp
theorem zr {t:TypeId} {cs:List Value} (h:∀b w',b=w.heap.size->Ext w w'->w'.heap.size=w.heap.size+1->Blk w' b cs t->K (.pointer (some ⟨b,0,none⟩)) w'):xO P t (.agg ⟨cs⟩) w K:=Vy h
theorem zx {t:TypeId} {cs:List Value} (a:yT P t (.agg ⟨cs⟩)) (h:∀b w',b=w.heap.size->Ext w w'->w'.heap.size=w.heap.size+1->Blk w' b cs t->K (.pointer (some ⟨b,0,none⟩)) w'):yp P t w K:=kK a h
theorem yd {t:TypeId} {pl:List (Nat×Nat)} {ps:List (Nat×Value)} {us:List (List Value)} {zs cs:List Value} (h:strF P t=some (pl,zs)) (d:ps.map (fun p=>p.2.cells)=us.map List.toArray)
  (a:fillC pl zs (ps.map (·.1)) us=some cs):zq P t ps w K=K (.agg ⟨cs⟩) w:=by
 refine y6 (run_build (P:=P) w t ⟨ps⟩ ⟨cs⟩ ?_);unfold strF at h;split at h
 ·rename_i fs i hu b;split at h
  ·rename_i f z c e;simp only[Option.some.injEq,Prod.mk.injEq] at h;obtain⟨rfl,rfl⟩:=h;simp only[Program.built,hu,b,e,c];exact fill_eq d a
  ·cases h
 ·cases h
theorem inc64' {i:Nat} (h:i<9223372036854775807):IntKind.i64.wrap ((i:Int)+1)=((i+1:Nat):Int):=by rw[yb (by omega) (by omega)];omega
end
end Go.Vc
end
section
namespace Go.M
inductive Tm where
 |mk (op a b:Int) (s:ByteArray) (ks:List Tm)
namespace Tm
def op:Tm→Int|mk o _ _ _ _=>o
def a:Tm→Int|mk _ a _ _ _=>a
def b:Tm→Int|mk _ _ b _ _=>b
def s:Tm→ByteArray|mk _ _ _ s _=>s
def ks:Tm→List Tm|mk _ _ _ _ ks=>ks
theorem ind {p:Tm->Prop} (h:∀t,(∀k,k∈t.ks->p k)->p t):∀t,p t
 |mk o a b s ks=>h _ fun k (c:k∈ks)=>by
   have:=List.sizeOf_lt_of_mem c;exact ind h k
decreasing_by
 grind
variable {α:Type}
mutual
def fold (f:Tm→List α→α):Tm→α
 |mk o a b s ks=>f (mk o a b s ks) (foldL f ks)
def foldL (f:Tm→List α→α):List Tm→List α
 |[]=>[]
 |k::r=>fold f k::foldL f r
end
theorem foldL_eq (f:Tm->List α->α) (ks:List Tm):foldL f ks=ks.map (fold f):=by
 induction ks with
 |nil=>simp only[foldL,List.map_nil]
 |cons k r a=>simp only[foldL,a,List.map_cons]
theorem fold_eq (f:Tm->List α->α) (t:Tm):fold f t=f t (t.ks.map (fold f)):=by
 cases t with
 |mk o a b s ks=>simp only[fold,foldL_eq];rfl
end Tm
def nada:ByteArray:=⟨#[]⟩
instance:Inhabited Tm:=⟨.mk 0 0 0 nada []⟩
def vok (w n:Int):Bool:=decide (1≤w)&&decide (w≤4)&&decide (0≤n)&&decide (n<2^w.toNat)
theorem vok_iff {w n:Int}:vok w n=true↔1<=w/\w<=4/\0<=n/\n<2^w.toNat:=by simp[vok,and_assoc]
theorem four {w:Int} (a:1<=w) (b:w<=4):w=1\/w=2\/w=3\/w=4:=by omega
theorem vok_lt {w n:Int} (h:vok w n=true):1<=w/\w<=4/\0<=n/\n<16:=by
 obtain⟨a,b,c,d⟩:=vok_iff.1 h
 grind [four]
def unM (op w a:Int):Int:=if op=1 then 2^w.toNat-1-a else(2^w.toNat-a)%2^w.toNat
def Qc (op w a b:Nat):Nat:=
 if op=3 then a&&&b
 else if op=4 then a|||b
 else if op=5 then a^^^b
 else if op=6 then(a+b)%2^w
 else if op=7 then(a+2^w-b)%2^w
 else if op=8 then a*b%2^w
 else if op=9 then(if b=0 then 2^w-1 else a/b)
 else if op=10 then(if b=0 then a else a%b)
 else if op=11 then a*2^b%2^w
 else if op=12 then a/2^b
 else if a<2^(w-1) then a/2^b else 2^w-1-(2^w-1-a)/2^b
def binM (op w a b:Int):Int:=Qc op.toNat w.toNat a.toNat b.toNat
def catM (v a b:Int):Int:=a*2^v.toNat+b
def sgn (w a:Int):Int:=if a<2^(w.toNat-1) then a else a-2^w.toNat
def cmpM (op w a b:Int):Bool:=if op=15 then decide (a=b) else if op=16 then decide (a<b) else decide (sgn w a<sgn w b)
def cutM (a hi lo:Int):Int:=a/2^lo.toNat%2^(hi-lo+1).toNat
end Go.M
end
section
namespace Go.M
open Go.Vc
abbrev Dcl:=ByteArray×Int
def findD (ds:List Dcl) (s:ByteArray):Int:=idxI ds.length fun i=>decide ((ds.getD i (nada,0)).1=s)
def tru:ByteArray:=⟨#[116,114,117,101]⟩
def nameOk (s:ByteArray):Bool:=decide (1≤s.size)&&decide (s.size≤4)&&decide (s≠tru)&&s.data.all fun c=>decide (97≤c.toNat)&&decide (c.toNat≤122)
def bits (ds:List Dcl):Int:=(ds.map (·.2)).sum
def dclOk (ds:List Dcl) (i:Nat):Bool:=nameOk (ds.getD i (nada,0)).1&&decide (1≤(ds.getD i (nada,0)).2)&&decide ((ds.getD i (nada,0)).2≤4)&&decide (findD (ds.take i) (ds.getD i (nada,0)).1<0)
def declOk (ds:List Dcl):Bool:=decide (ds.length≤4)&&((List.range ds.length).all fun i=>dclOk ds i)&&decide (bits ds≤8)
theorem findD_lt (ds:List Dcl) (s:ByteArray): -1<=findD ds s/\findD ds s<ds.length:=by
 grind [findD,idxI]
theorem findD_get {ds:List Dcl} {s:ByteArray} (h:0<=findD ds s):(ds.getD (findD ds s).toNat (nada,0)).1=s:=by
 grind [findD,idxI]
theorem findD_of {ds:List Dcl} {s:ByteArray} {i:Nat} (a:i<ds.length) (h:(ds.getD i (nada,0)).1=s) (c:∀j,j<i->(ds.getD j (nada,0)).1≠s):findD ds s=i:=
 idxI_some a (by grind) fun j b=>decide_eq_false (c j b)
theorem findD_none {ds:List Dcl} {s:ByteArray} (b:∀j,j<ds.length->(ds.getD j (nada,0)).1≠s):findD ds s= -1:=
 Xh fun j a=>decide_eq_false (b j a)
theorem decl_iff {ds:List Dcl}:declOk ds=true↔ds.length<=4/\(∀i,i<ds.length->dclOk ds i=true)/\bits ds<=8:=by
 grind [declOk]
theorem take_getD {α:Type} {l:List α} {i j:Nat} {d:α} (h:j<i):(l.take i).getD j d=l.getD j d:=by
 grind
def bitT (ds:List Dcl) (i:Nat):Int:=((ds.take i).map (·.2)).sum
theorem bitT_succ {ds:List Dcl} {i:Nat} (h:i<ds.length):bitT ds (i+1)=bitT ds i+(ds.getD i (nada,0)).2:=by
 grind [bitT,List.take_add_one]
theorem bitT_all (ds:List Dcl):bitT ds ds.length=bits ds:=by unfold bitT bits;grind
theorem VY {ds:List Dcl} (h:declOk ds=true) {i:Nat} (a:i<ds.length):1<=(ds.getD i (nada,0)).2/\(ds.getD i (nada,0)).2<=4:=by
 simp_all[declOk,dclOk]
def sizeM:Tm→Nat:=Tm.fold fun _ xs=>1+xs.sum
def deepM:Tm→Nat:=Tm.fold fun _ xs=>1+xs.foldl max 0
theorem sizeM_eq (t:Tm):sizeM t=1+(t.ks.map sizeM).sum:=Tm.fold_eq _ t
theorem K8 (t:Tm):deepM t=1+(t.ks.map deepM).foldl max 0:=Tm.fold_eq _ t
def szT (ks:List Tm) (i:Nat):Nat:=((ks.take i).map sizeM).sum
def dpT (ks:List Tm) (i:Nat):Nat:=((ks.take i).map deepM).foldl max 0
theorem take_add {α:Type} {l:List α} {i:Nat} (h:i<l.length) (d:α):l.take (i+1)=l.take i++[l.getD i d]:=by
 simp_all
theorem szT_succ {ks:List Tm} {i:Nat} (h:i<ks.length):szT ks (i+1)=szT ks i+sizeM (ks.getD i default):=by
 grind [szT,take_add]
theorem dpT_succ {ks:List Tm} {i:Nat} (h:i<ks.length):dpT ks (i+1)=max (dpT ks i) (deepM (ks.getD i default)):=by
 grind [dpT,take_add]
theorem szT_all (t:Tm):sizeM t=1+szT t.ks t.ks.length:=by rw[sizeM_eq,szT,List.take_length]
theorem dpT_all (t:Tm):deepM t=1+dpT t.ks t.ks.length:=by rw[K8,dpT,List.take_length]
theorem szT_mono {ks:List Tm} {i:Nat}:∀{j:Nat},i<=j->j<=ks.length->szT ks i<=szT ks j
 |0,h,_=>by
  grind
 |j+1,h,a=>by
  by_cases e:i=j+1
  ·grind
  ·have:=szT_mono (ks:=ks) (i:=i) (j:=j) (by omega) (by omega);rw[szT_succ (by omega)];omega
theorem dpT_mono {ks:List Tm} {i:Nat}:∀{j:Nat},i<=j->j<=ks.length->dpT ks i<=dpT ks j
 |0,h,_=>by
  grind
 |j+1,h,a=>by
  by_cases e:i=j+1
  ·grind
  ·have:=dpT_mono (ks:=ks) (i:=i) (j:=j) (by omega) (by omega);rw[dpT_succ (by omega)];omega
def fits (t:Tm):Bool:=decide (sizeM t≤20)&&decide (deepM t≤7)
theorem fits_iff {t:Tm}:fits t=true↔sizeM t<=20/\deepM t<=7:=by simp[fits]
def manyM (t:Tm):Nat:=if fits t then sizeM t else 21
def lvlM (t:Tm):Nat:=if fits t then deepM t else 8
def arity (o:Int):Int:=if o=20∨o=21∨o=24 then 0 else if o=1∨o=2∨o=22∨o=25 then 1 else if o=23 then 3 else if o=26∨o=27 then 2 else if 3≤o∧o≤17 then 2 else-1
def plainM (t:Tm):Bool:=(decide (t.op=20)||decide (t.op=22)||(decide (t.a=0)&&decide (t.b=0)))&&(decide (t.op=21)||decide (t.s=nada))
def sortK (ds:List Dcl) (t:Tm) (xs:List Int):Int:=
 if t.op=20 then(if vok t.a t.b then t.a else-1)
 else if t.op=21 then(if findD ds t.s<0 then-1 else(ds.getD (findD ds t.s).toNat (nada,0)).2)
 else if 24≤t.op then(if xs.any (fun x=>decide (x≠0)) then-1 else 0)
 else if t.op=23 then(if xs.getD 0 0=0∧xs.getD 1 0=xs.getD 2 0 then xs.getD 1 0 else-1)
 else if t.op=22 then(if 0≤t.b∧t.b≤t.a∧t.a<xs.getD 0 0 then t.a-t.b+1 else-1)
 else if t.op≤2 then(if 0<xs.getD 0 0 then xs.getD 0 0 else-1)
 else if t.op=14 then(if 0<xs.getD 0 0∧0<xs.getD 1 0∧xs.getD 0 0+xs.getD 1 0≤4 then xs.getD 0 0+xs.getD 1 0 else-1)
 else if 15≤t.op then(if 0<xs.getD 0 0∧xs.getD 0 0=xs.getD 1 0 then 0 else-1)
 else(if 0<xs.getD 0 0∧xs.getD 0 0=xs.getD 1 0 then xs.getD 0 0 else-1)
def formed (t:Tm):Bool:=decide (arity t.op=t.ks.length)&&plainM t
def sortF (ds:List Dcl) (t:Tm) (xs:List Int):Int:=if formed t=true∧¬(-1∈xs) then sortK ds t xs else-1
def sortM (ds:List Dcl):Tm→Int:=Tm.fold (sortF ds)
theorem sortM_eq (ds:List Dcl) (t:Tm):sortM ds t=sortF ds t (t.ks.map (sortM ds)):=Tm.fold_eq _ t
theorem arity_ops {o:Int} (h:0<=arity o):(1<=o/\o<=17)\/(20<=o/\o<=27):=by
 grind [arity]
theorem getD_map {α β:Type} (f:α->β) {l:List α} {i:Nat} (h:i<l.length) (d:β) (e:α):(l.map f).getD i d=f (l.getD i e):=by
 grind
theorem getD_mem {α:Type} {l:List α} {i:Nat} (h:i<l.length) (d:α):l.getD i d∈l:=by
 grind
theorem sort_parts {ds:List Dcl} {t:Tm} (h:sortM ds t≠ -1):formed t=true/\(∀k,k∈t.ks->sortM ds k≠ -1)/\sortM ds t=sortK ds t (t.ks.map (sortM ds)):=by
 rw[sortM_eq] at h⊢
 grind [sortF]
theorem sort_range {ds:List Dcl} (c:declOk ds=true):∀t,-1<=sortM ds t/\sortM ds t<=4:=by
 refine Tm.ind fun t k=>?_;rw[sortM_eq];unfold sortF;split
 ·rename_i j;have a:∀i,-1<=(t.ks.map (sortM ds)).getD i 0/\(t.ks.map (sortM ds)).getD i 0<=4:=(by grind);have f:=a 0;have g:=a 1;have h:=a 2;have b:=arity_ops (o:=t.op) (by
   grind [formed])
  unfold sortK;split
  ·split
   ·rename_i e;have:=vok_lt e;omega
   ·omega
  ·split
   ·have d:=findD_lt ds t.s;split
    ·omega
    ·have:=VY c (i:=(findD ds t.s).toNat) (by omega);omega
   omega
 ·omega
def tsort (ds:List Dcl) (t:Tm):Int:=if fits t=true∧declOk ds=true then sortM ds t else-1
def b2i (b:Bool):Int:=if b then 1 else 0
def valK (ds:List Dcl) (env:List Int) (t:Tm) (xs:List (Int×Int)):Int:=
 if t.op=20 then t.b
 else if t.op=21 then env.getD (findD ds t.s).toNat 0
 else if t.op=24 then 1
 else if t.op=25 then b2i (decide ((xs.getD 0 (0,0)).2=0))
 else if t.op=26 then b2i (decide ((xs.getD 0 (0,0)).2=1)&&decide ((xs.getD 1 (0,0)).2=1))
 else if t.op=27 then b2i (decide ((xs.getD 0 (0,0)).2=1)||decide ((xs.getD 1 (0,0)).2=1))
 else if t.op=23 then(if(xs.getD 0 (0,0)).2=1 then(xs.getD 1 (0,0)).2 else(xs.getD 2 (0,0)).2)
 else if t.op=22 then cutM (xs.getD 0 (0,0)).2 t.a t.b
 else if t.op≤2 then unM t.op (xs.getD 0 (0,0)).1 (xs.getD 0 (0,0)).2
 else if t.op=14 then catM (xs.getD 1 (0,0)).1 (xs.getD 0 (0,0)).2 (xs.getD 1 (0,0)).2
 else if 15≤t.op then b2i (cmpM t.op (xs.getD 0 (0,0)).1 (xs.getD 0 (0,0)).2 (xs.getD 1 (0,0)).2)
 else binM t.op (xs.getD 0 (0,0)).1 (xs.getD 0 (0,0)).2 (xs.getD 1 (0,0)).2
end Go.M
end
section
namespace Go.Vc
open Go Go.M
section
variable {P:Program} {F F' S:Nat→Prop} {w w':World} {K:Value→World→Prop} {k:Nat} {v:Value} {xs:List (List Value)}
theorem Sl.ldAgg (h:Sl F w k v xs) {t:TypeId} (c:aggB P t k=true) {i:Nat} (a:i<xs.length):zh P t (.pointer (some (eaddr v k i))) w K=K (.agg ⟨xs.getD i []⟩) w:=by
 have b:(xs.getD i []).length=k:=h.wide _ (M.getD_mem a _);exact J8 (by rw[b];exact c) (Sl.cells h a)
theorem Sl.ldField (h:Sl F w k v xs) {t:TypeId} (b:oneB P t=true) {i j:Nat} {x:Value} (a:i<xs.length) (c:(xs.getD i [])[j]?=some x):zh P t (.pointer (some ((eaddr v k i).add j))) w K=K x w:=
 qu b (Sl.cells h a j x c)
theorem Sl.small (h:Sl F w k v xs):xs.length<=9223372036854775807:=by
 obtain⟨_,_,_,a,b,_⟩:=h.shape;omega
end
inductive TmR (F:Nat→Prop) (w:World):List Value→Tm→Prop
 |mk {o a b:Int} {s:ByteArray} {ks:List Tm} {kv:Value} {css:List (List Value)}:Sl F w 5 kv css→css.length=ks.length→(∀i,i<ks.length→TmR F w (css.getD i []) (ks.getD i default))→
  TmR F w [.int .i64 o,.int .i64 a,.int .i64 b,.string s,kv] (.mk o a b s ks)
def TmsR (F:Nat→Prop) (w:World) (kv:Value) (ks:List Tm):Prop:= ∃css:List (List Value),Sl F w 5 kv css∧css.length=ks.length∧∀i,i<ks.length→TmR F w (css.getD i []) (ks.getD i default)
def TermR (F:Nat→Prop) (w:World) (v:Value) (t:Tm):Prop:= ∃kv,v= .agg ⟨[.int .i64 t.op,.int .i64 t.a,.int .i64 t.b,.string t.s,kv]⟩∧TmsR F w kv t.ks
def DclsR (F:Nat→Prop) (w:World) (v:Value) (ds:List Dcl):Prop:=Sl F w 2 v (ds.map fun d=>[.string d.1,.int .i64 d.2])
section
variable {P:Program} {F F' S:Nat→Prop} {w w':World} {K:Value→World→Prop} {v:Value} {cs:List Value} {t:Tm} {ks:List Tm} {ds:List Dcl}
theorem TmR.same (h:TmR F w cs t) (hw:Same S w w') (d:∀b,F b->b<w.heap.size->¬S b):TmR F w' cs t:=by
 induction h with
 |mk a c f e=>exact .mk (a.same hw d) c e
theorem TmR.ext (h:TmR F w cs t) (hw:Ext w w'):TmR F w' cs t:=h.same hw fun _ _ _ h=>h
theorem TmR.weaken (h:TmR F w cs t) (d:∀b,F b->b<w.heap.size->F' b):TmR F' w cs t:=by
 induction h with
 |mk a c f e=>exact .mk (a.weaken d) c e
theorem TmR.inv (h:TmR F w cs t):∃kv,cs=[.int .i64 t.op,.int .i64 t.a,.int .i64 t.b,.string t.s,kv]/\TmsR F w kv t.ks:=by
 cases h with
 |mk c d e=>exact⟨_,rfl,_,c,d,e⟩
theorem TmR.of {kv:Value} (h:TmsR F w kv t.ks):TmR F w [.int .i64 t.op,.int .i64 t.a,.int .i64 t.b,.string t.s,kv] t:=by
 obtain⟨css,c,d,e⟩:=h;cases t with
 |mk o a b s ks=>exact .mk c d e
theorem TmR.term (h:TmR F w cs t):TermR F w (.agg ⟨cs⟩) t:=by
 obtain⟨kv,rfl,a⟩:=h.inv;exact⟨kv,rfl,a⟩
theorem TermR.cells (h:TermR F w v t):∃cs,v= .agg ⟨cs⟩/\TmR F w cs t:=by
 obtain⟨kv,rfl,a⟩:=h;exact⟨_,rfl,TmR.of a⟩
theorem TmsR.same (h:TmsR F w v ks) (hw:Same S w w') (a:∀b,F b->b<w.heap.size->¬S b):TmsR F w' v ks:=by
 obtain⟨css,c,d,e⟩:=h;exact⟨css,c.same hw a,d,fun i f=>(e i f).same hw a⟩
theorem TmsR.ext (h:TmsR F w v ks) (hw:Ext w w'):TmsR F w' v ks:=h.same hw fun _ _ _ h=>h
theorem TmsR.weaken (h:TmsR F w v ks) (a:∀b,F b->b<w.heap.size->F' b):TmsR F' w v ks:=by
 obtain⟨css,c,d,e⟩:=h;exact⟨css,c.weaken a,d,fun i f=>(e i f).weaken a⟩
theorem TermR.same (h:TermR F w v t) (hw:Same S w w') (d:∀b,F b->b<w.heap.size->¬S b):TermR F w' v t:=by
 obtain⟨kv,a,c⟩:=h;exact⟨kv,a,c.same hw d⟩
theorem TermR.ext (h:TermR F w v t) (hw:Ext w w'):TermR F w' v t:=h.same hw fun _ _ _ h=>h
theorem TermR.weaken (h:TermR F w v t) (d:∀b,F b->b<w.heap.size->F' b):TermR F' w v t:=by
 obtain⟨kv,a,c⟩:=h;exact⟨kv,a,c.weaken d⟩
theorem TmsR.small (h:TmsR F w v ks):ks.length<=9223372036854775807:=by
 obtain⟨css,a,b,c⟩:=h;rw[<-b];exact a.small
theorem TmsR.len (h:TmsR F w v ks) {t:TypeId} (c:isSl P t=true) (ty:TypeId):vbi P .len [t] ty [v] w' K=K (.int .i64 ks.length) w':=by
 obtain⟨css,a,b,d⟩:=h;have:=Sl.len (K:=K) (w':=w') a c ty;rwa[b] at this
theorem TmsR.iaddr (h:TmsR F w v ks) {t:TypeId} (e:elB P t 5=true) {kd:IntKind} {i:Int} (b:0<=i) (c:i<ks.length):
  zv P t v (.int kd i) w' K=K (.pointer (some (eaddr v 5 i.toNat))) w':=by
 obtain⟨css,a,d,f⟩:=h;exact Sl.iaddr a e b (by rw[d];exact c)
theorem TmsR.load (h:TmsR F w v ks) {t:TypeId} (e:aggB P t 5=true) {i:Nat} (d:i<ks.length) (c:∀x,TermR F w x (ks.getD i default)->K x w):zh P t (.pointer (some (eaddr v 5 i))) w K:=by
 obtain⟨css,a,f,b⟩:=h;rw[a.ldAgg e (by omega)];exact c _ (b i d).term
theorem TmsR.nil:TmsR F w (.slice none 0 0) []:=⟨[],⟨⟨none,0,rfl,by simp,by simp,by simp⟩,by simp⟩,rfl,by simp⟩
theorem DclsR.ext (h:DclsR F w v ds) (hw:Ext w w'):DclsR F w' v ds:=Sl.ext h hw
theorem DclsR.len (h:DclsR F w v ds) {t:TypeId} (a:isSl P t=true) (ty:TypeId):vbi P .len [t] ty [v] w' K=K (.int .i64 ds.length) w':=by
 have:=Sl.len (K:=K) (w':=w') h a ty;rwa[List.length_map] at this
theorem DclsR.iaddr (h:DclsR F w v ds) {t:TypeId} (c:elB P t 2=true) {kd:IntKind} {i:Int} (a:0<=i) (b:i<ds.length):
  zv P t v (.int kd i) w' K=K (.pointer (some (eaddr v 2 i.toNat))) w':=Sl.iaddr h c a (by rw[List.length_map];exact b)
theorem QH {i:Nat} (a:i<ds.length):(ds.map fun d=>[Value.string d.1,Value.int .i64 d.2]).getD i []=[.string (ds.getD i (nada,0)).1,.int .i64 (ds.getD i (nada,0)).2]:=M.getD_map _ a _ _
theorem DclsR.load (h:DclsR F w v ds) {t:TypeId} (b:aggB P t 2=true) {i:Nat} (a:i<ds.length):zh P t (.pointer (some (eaddr v 2 i))) w K=K (.agg ⟨[.string (ds.getD i (nada,0)).1,.int .i64 (ds.getD i (nada,0)).2]⟩) w:=by
 rw[Sl.ldAgg h b (by rw[List.length_map];exact a),QH a]
theorem DclsR.load0 (h:DclsR F w v ds) {t:TypeId} (b:oneB P t=true) {i:Nat} (a:i<ds.length):zh P t (.pointer (some ((eaddr v 2 i).add 0))) w K=K (.string (ds.getD i (nada,0)).1) w:=
 Sl.ldField h b (by rw[List.length_map];exact a) (by rw[QH a];rfl)
theorem DclsR.load1 (h:DclsR F w v ds) {t:TypeId} (b:oneB P t=true) {i:Nat} (a:i<ds.length):zh P t (.pointer (some ((eaddr v 2 i).add 1))) w K=K (.int .i64 (ds.getD i (nada,0)).2) w:=
 Sl.ldField h b (by rw[List.length_map];exact a) (by rw[QH a];rfl)
theorem DclsR.small (h:DclsR F w v ds):ds.length<=9223372036854775807:=by have:=Sl.small h;simpa using this
theorem Sl.base {k:Nat} {xs:List (List Value)} (h:Sl F w k v xs) (f:xs≠[]):∀a l c,v= .slice (some a) l c->∃b o,a=⟨b,o,none⟩:=by
 intro a l c e;obtain⟨i,j,rfl,_,_,g⟩:=h.shape;obtain⟨b,o,rfl,_⟩:=g f
 injection e with d m n
 injection d with d
 exact⟨b,o,d.symm⟩
theorem Sl.taken {k:Nat} {xs:List (List Value)} (h:Sl F w k v xs) {n:Nat} (u:n<=xs.length):Sl F w k (cutV v n) (xs.take n):=by
 obtain⟨a,c,rfl,t,p,r⟩:=h.shape;have m:(xs.take n).length=n:=by rw[List.length_take];omega
 refine⟨⟨a,c,by rw[m];rfl,by omega,p,fun j=>?_⟩,fun x s=>h.wide x (List.mem_of_mem_take s)⟩;have f:xs≠[]:=fun e=>j (by rw[e,List.take_nil]);obtain⟨b,o,e,q,g,d⟩:=r f;refine⟨b,o,e,q,g,fun i l=>?_⟩;rw[m] at l;rw[M.take_getD l];exact d i (by omega)
theorem DclsR.cut (h:DclsR F w v ds) (a:ds≠[]) {t:TypeId} (c:elB P t 2=true) {kd:IntKind} {n:Nat} (b:n<=ds.length):yJ P t v none (some (.int kd n)) none w' K=K (cutV v n) w':=
 Sl.cut h (Sl.base h (by simpa using a)) c (by rw[List.length_map];exact b)
theorem DclsR.taken (h:DclsR F w v ds) {n:Nat} (a:n<=ds.length):DclsR F w (cutV v n) (ds.take n):=by
 unfold DclsR;rw[List.map_take];exact Sl.taken h (by rw[List.length_map];exact a)
theorem Blk.sl1k {b k:Nat} {cs:List Value} {e:TypeId} (h:Blk w b cs e) (f:cs.length=k):Sl (· =b) w k (.slice (some ⟨b,0,none⟩) 1 1) [cs]:=by
 refine⟨⟨_,1,rfl,Nat.le_refl _,by decide,fun _=>⟨b,0,rfl,rfl,h.lt,fun i c j v d=>?_⟩⟩,by simp[f]⟩;have a:i=0:=by simpa using c
 subst a;rw[yG];simp only[Nat.zero_mul,Nat.zero_add,Nat.add_zero];exact h.cell d
theorem Own.app1k {bs ty b k:Nat} {t e:TypeId} {xs:List (List Value)} {y:List Value} (h:Own P 0 k t w v xs) (i:elZ P t k bs=true) (l:0<k) (j:Blk w b y e) (m:y.length=k) (a:∀c,c∈y->c.oneCell'=true)
  (f:xs.length<9223372036854775807) (hlen:(xs.length+1)*bs<=140737488355328)
  (g:∀d w',Own P 0 k t w' d (xs++[y])->Same (fun b=>v.ownBlock=some b) w w'->(∀b,d.ownBlock=some b->v.ownBlock=some b\/w.heap.size<=b)->K d w'):vbi P .append [t,t] ty [v,.slice (some ⟨b,0,none⟩) 1 1] w K:=
 vappend (F:=(· =b)) i l h (j.sl1k m) (by simpa using a) (by omega) (by rw[List.length_singleton];omega) (by simpa using hlen) g
theorem YX {t e k:Nat} {z x:Value} {y:List Value} (hu:P.underlying t=some (.slice e)) (l:k6 P e k=true) (hzero:yT P e z) (i:x.cells=⟨y⟩) (j:y.length=k) (h:k<=16777216)
  (g:∀b w',b=w.heap.size->Ext w w'->w'.heap.size=w.heap.size+1->Blk w' b y e->K (.slice (some ⟨b,0,none⟩) 1 1) w'):vbuildS P t 1 [(0,x)] w K:=by
 refine vbuildS_row (xs:=[x]) (us:=[y]) hu l hzero (by simp[i]) (by simp[j]) (by simpa using h) fun b w' a c d f=>g b w' a c d (by simpa using f)
theorem flatten_set {k:Nat}:∀{xs:List (List Value)} (_:∀x,x∈xs->x.length=k) {i j:Nat} (u:Value),i<xs.length->j<k->xs.flatten.set (i*k+j) u=(xs.set i ((xs.getD i []).set j u)).flatten
 |[],_,i,j,u,a,_=>by simp at a
 |x::r,h,i,j,u,a,b=>by
  have d:=h x List.mem_cons_self;cases i with
  |zero=>
   rw[Nat.zero_mul,Nat.zero_add];simp only[List.flatten_cons,List.set_cons_zero,List.getD_cons_zero];rw[List.set_append_left _ _ (by omega)]
  |succ i=>
   simp only[List.flatten_cons,List.set_cons_succ,List.getD_cons_succ];rw[List.set_append_right _ _ (by rw[Nat.add_mul];omega)];congr 1;have e:(i+1)*k+j-x.length=i*k+j:=by rw[Nat.add_mul];omega
   rw[e,flatten_set (fun y c=>h y (List.mem_cons_of_mem _ c)) u (by simpa using a) b]
theorem Own.stCell {k:Nat} {t e:TypeId} {xs:List (List Value)} {x:Value} (h:Own P 0 k t w v xs) (F:x.cells= #[x]) (p:x.oneCell'=true) (H:k6 P e 1=true) {i j:Nat} (f:i<xs.length) (D:j<k)
  (r:∀w',Own P 0 k t w' v (xs.set i ((xs.getD i []).set j x))->Same (fun b=>v.ownBlock=some b) w w'->w'.heap.size=w.heap.size->K undef w'):zn P e (.pointer (some ((eaddr v k i).add j))) x w K:=by
 rcases h.row.2 with⟨rfl,J⟩|⟨g,cap,cur,rfl,u,I,E,A,B,o⟩
 ·omega
 ·have a:=h.row;have d:i*k+j<xs.length*k:=by
   have:i*k+k<=xs.length*k:=by rw[<-Nat.succ_mul];exact Nat.mul_le_mul_right _ f
   omega
  have z:=World.ownsRow.cellAt a (i*k+j) d;have C:=World.ownsRow.frozenAt a (i*k+j);obtain⟨m,n⟩:=World.ownsRow.stored a (i*k+j) x;have l:(xs.getD i []).length=k:=h.wide _ (M.getD_mem f _);have c:w.cell? ⟨g,i*k+j,none⟩=some (xs.flatten.getD (i*k+j) undef):=by
   rw[z];have:i*k+j<xs.flatten.length:=by rw[flatten_len h.wide];exact d
   rw[List.getD_eq_getElem?_getD,List.getElem?_eq_getElem this];rfl
  have s:(⟨g,i*k+j,none⟩:Addr).add 0=⟨g,i*k+j,none⟩:=rfl;have he:(eaddr (.slice (some ⟨g,0,none⟩) xs.length cap) k i).add j=⟨g,i*k+j,none⟩:=by
   simp only[eaddr];rw[yG];simp
  rw[he];refine⟨(),w.setCell ⟨g,i*k+j,none⟩ x,?_,r _ ?_ (Same.of_grown n) (by simp)⟩
  ·simp only[Instr.storeAt,Instr.sureAddr,Sem.run_bind,Sem.run_pure,Result.andThen_ok,storeVar,qt H,F];cases x<;>first|(cases p;done)|simp[storeCells,store,Sem.run,s,c,C]
  ·refine⟨?_,fun y G=>?_⟩
   ·rw[<-flatten_set h.wide x f D];simpa using m
   ·obtain⟨q,L,rfl⟩:=List.getElem_of_mem G;rw[List.getElem_set];split
    ·rw[List.length_set];exact l
    ·exact h.wide _ (List.getElem_mem _)
def PairsR (F:Nat→Prop) (w:World) (v:Value) (xs:List (Int×Int)):Prop:=Sl F w 2 v (xs.map fun x=>[.int .i64 x.1,.int .i64 x.2])
variable {xs:List (Int×Int)}
theorem PairsR.iaddr (h:PairsR F w v xs) {t:TypeId} (c:elB P t 2=true) {kd:IntKind} {i:Int} (a:0<=i) (b:i<xs.length):
  zv P t v (.int kd i) w' K=K (.pointer (some (eaddr v 2 i.toNat))) w':=Sl.iaddr h c a (by rw[List.length_map];exact b)
theorem PairsR.load1 (h:PairsR F w v xs) {t:TypeId} (b:oneB P t=true) {i:Nat} (a:i<xs.length):zh P t (.pointer (some ((eaddr v 2 i).add 1))) w K=K (.int .i64 (xs.getD i (0,0)).2) w:=
 Sl.ldField h b (by rw[List.length_map];exact a) (by rw[M.getD_map _ a _ (0,0)];rfl)
end
end Go.Vc
end
