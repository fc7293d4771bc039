import Derived.Test.YtokflbdfnbppjaaGreatDoorWvbP0
import Derived.Scope
import Derived.Laws.World
import Derived.Below
import Derived.IntWalk
import Derived.Laws.AppendOwn
import Derived.Laws.OwnMore
import Derived.Laws.Slices
import Derived.Laws.Tables
import Derived.Laws.Cover3
import Derived.Laws.CopyRow
import Derived.MapKept
import Derived.Laws.IdiomRangeMap
import Derived.Laws.Small
import Derived.Laws.Entries
import Derived.Laws.Strings2
import Derived.Laws.Concat
import Derived.Laws.StructEq
import Derived.Laws.Shifts
import Derived.Laws.Build
/- A part of the proof. -/
set_option linter.all false
namespace Go.Vc
open Go
section
def lookN {α:Type} (k:Nat):List (Nat×α)->Option α
 |[]=>none
 |p::r=>cond (Nat.beq k p.1) (some p.2) (lookN k r)
structure Ann where
 ord:List (Nat×List Nat×List (Nat×List Nat)):=[]
 loops:List (Nat×List Nat):=[]
 cuts:List (Nat×List Nat):=[]
 trees:List (Nat×OT×List (Nat×List Nat)):=[]
 pars:List (Nat×List Nat×List Nat×List Nat×List (Nat×List Nat)):=[]
def firstR:Code->Option Nat
 | .region id _ _=>some id
 | .seq a b=>match firstR a with|some i=>some i|none=>firstR b
 | .cond _ a b=>match firstR a with|some i=>some i|none=>firstR b
 | .block _ b=>firstR b
 | .loop b=>firstR b
 | .scope b=>firstR b
 |_=>none
def dsts:List Oper->List Nat->List Nat
 |[],l=>l
 |o::r,l=>match o.dst with|some d=>d::dsts r l|none=>dsts r l
def mods:Code->List Nat->List Nat
 | .region _ ops _,l=>dsts ops.toList l
 | .seq a b,l=>mods a (mods b l)
 | .cond _ a b,l=>mods a (mods b l)
 | .block _ b,l=>mods b l
 | .loop b,l=>mods b l
 | .scope b,l=>mods b l
 |_,l=>l
theorem mem_dsts {t:Nat}:∀{ops:List Oper} {l:List Nat},t∈dsts ops l↔(∃o,o∈ops/\o.dst=some t)\/t∈l:=by
 intro ops;induction ops with
 |nil=>intro l;simp[dsts]
 |cons o r c=>
  intro l;simp only[dsts];cases b:o.dst with
  |none=>
   simp only[c,gd];constructor
   ·rintro(⟨x,a,h⟩|h);exact .inl ⟨x,.inr a,h⟩;exact .inr h
   ·rintro(⟨x,rfl|a,h⟩|h);rw[b] at h;cases h;exact .inl ⟨x,a,h⟩;exact .inr h
  |some d=>
   simp only[gd,c];constructor
   ·rintro(rfl|⟨x,a,h⟩|h);exact .inl ⟨o,.inl rfl,b⟩;exact .inl ⟨x,.inr a,h⟩;exact .inr h
   ·rintro(⟨x,rfl|a,h⟩|h);rw[b] at h;exact .inl (gg h).symm;exact .inr (.inl ⟨x,a,h⟩);exact .inr (.inr h)
theorem mem_mods {t:Nat}:∀(c:Code) (l:List Nat),t∈mods c l↔t∈mods c []\/t∈l:=by
 intro c;induction c with
 |region id ops d=>intro l;simp only[mods,mem_dsts,gx,or_false]
 |seq a b iha ihb=>intro l;simp only[mods];rw[iha,ihb l,iha (mods b [])];simp only[or_assoc]
 |cond x a b iha ihb=>intro l;simp only[mods];rw[iha,ihb l,iha (mods b [])];simp only[or_assoc]
 |block i b e=>intro l;simp only[mods];exact e l
 |loop b e=>intro l;simp only[mods];exact e l
 |scope b e=>intro l;simp only[mods];exact e l
 |_=>intro l;simp[mods]
def x7 (A:(List Value->World->Prop)->Prop) (B:List Value->Fr->World->Prop):Prop:= ∃J,A J/\∀u g w,J u w->B u g w
def yQ (z:List Value) (w:World) (B:(List Value->World->Prop)->List Value->Fr->World->Prop):Prop:=
 ∃I:Nat->List Value->World->Prop,(∃n,I n z w)/\∀n u g w',I n u w'->B (λu' w''=> ∃m,m<n/\I m u' w'') u g w'
def yb (w:World) (K:World->Prop):Prop:=K {w with drawn:=w.drawn+1}
def seqK (N:Fr->World->Prop) (K:Exit->Fr->World->Prop) (e:Exit) (f:Fr) (w:World):Prop:=
 match e with
 | .normal=>N f w
 |e=>K e f w
def blkK (id:Nat) (K:Exit->Fr->World->Prop) (e:Exit) (f:Fr) (w:World):Prop:=
 match e with
 | .exit i=>cond (Nat.beq i id) (K .normal f w) (K (.exit i) f w)
 |e=>K e f w
def lookD (T:List (Nat×List Nat)) (s:Nat):List Nat:=match lookN s T with|some l=>l|none=>[]
def upto:Nat->Nat->List Nat
 |0,_=>[]
 |n+1,k=>k::upto n (k+1)
def lenO:List Oper->Nat
 |[]=>0
 |_::r=>lenO r+1
def UT0 (T:Ann) (a c:Code):Option (List Nat):=match firstR c with|some i=>lookN (Nat.add (Nat.mul (match firstR a with|some j=>j+1 |none=>0) 4096) i) T.cuts|none=>none
def Wu0 (T:Ann) (c:Code):Option (List Nat):=match firstR c with|some i=>lookN i T.loops|none=>none
def vc (P:Program) (T:Ann):Code->(Exit->Fr->World->Prop)->Fr->World->Prop
 | .skip,K,f,w=>K .normal f w
 | .label _,K,f,w=>K .normal f w
 | .region id ops dr,K,f,w=>
  match dr with
  |false=>vops P ops.toList false (λ_=>[]) (λf w=>K .normal f w) (upto (lenO ops.toList) 0) [] [] f w
  |true=>match lookN id T.ord with
   |some p=>yb w λw=>vops P ops.toList true (lookD p.2) (λf w=>K .normal f w) p.1 [] [] f w
   |none=>match lookN id T.trees with
    |some p=>yb w λw=>vopsT P ops.toList (lookD p.2) (λf w=>K .normal f w) p.1 [] [] f w
    |none=>match lookN id T.pars with
     |some p=>yb w λw=>vopsP P ops.toList (lookD p.2.2.2) p.2.1 p.2.2.1 (λf w=>K .normal f w) p.1 [] [] f w
     |none=>False
 | .seq a b,K,f,w=>
  match UT0 T a b with
  |some L=>x7 (λJ=>vc P T a (seqK (λf' w'=>J (selL L f') w') K) f w) (λu g w'=>vc P T b K (hav f L (mods a []) u g) w')
  |none=>vc P T a (seqK (λf' w'=>vc P T b K f' w') K) f w
 | .cond c a b,K,f,w=>vif (ev f c) (vc P T a K f w) (vc P T b K f w)
 | .block id b,K,f,w=>vc P T b (blkK id K) f w
 | .loop b,K,f,w=>
  match Wu0 T b with
  |some L=>yQ (selL L f) w λC u g w'=>vc P T b (seqK (λf' w''=>C (selL L f') w'') K) (hav f L (mods b []) u g) w'
  |none=>False
 | .exit id,K,f,w=>K (.exit id) f w
 | .ret,K,f,w=>K .ret f w
 | .scope b,K,f,w=>vc P T b K f w
 |_,_,_,_=>False
def okC (n:Nat) (T:Ann):Code->Bool
 | .region id ops dr=>qD0 n ops.toList&&(match dr with
  |false=>true
  |true=>match lookN id T.ord with
   |some p=>YU0 ops (lookD p.2) p.1&&allN (λq=>allN (λx=>memN x p.1) (lookD p.2 q)) (p.2.map (·.1))
   |none=>match lookN id T.trees with
    |some p=>ZM0 ops (lookD p.2) p.1
    |none=>match lookN id T.pars with
     |some p=>chkPar ops (lookD p.2.2.2) p.1 p.2.1 p.2.2.1&&Qm0 ops.toList p.2.1 p.2.2.1
     |none=>false)
 | .seq a b=>okC n T a&&okC n T b
 | .cond _ a b=>okC n T a&&okC n T b
 | .block _ b=>okC n T b
 | .loop b=>okC n T b
 | .scope b=>okC n T b
 |_=>true
theorem WE0 (n k:Nat):upto n k=List.range' k n:=by
 induction n generalizing k with
 |zero=>rfl
 |succ n a=>simp only[upto,a];rfl
theorem WU0 (l:List Oper):lenO l=l.length:=by induction l<;>simp_all[lenO]
theorem K00 {α:Type} {k:Nat} {T:List (Nat×α)} {x:α} (h:lookN k T=some x):k∈T.map (·.1):=by
 induction T with
 |nil=>cases h
 |cons p r b=>
  simp only[lookN] at h;cases a:Nat.beq k p.1
  ·rw[a] at h;exact gh _ (b h)
  ·simp[gp a]
theorem VC0 {T:List (Nat×List Nat)} {π:List Nat} (h:allN (λq=>allN (λx=>memN x π) (lookD T q)) (T.map (·.1))=true):∀s x,x∈lookD T s->x∈π:=by
 intro s x a;have hs:s∈T.map (·.1):=by
  unfold lookD at a;cases b:lookN s T with
  |none=>rw[b] at a;cases a
  |some l=>exact K00 b
 exact memN_iff.1 (Wj0.1 (Wj0.1 h s hs) x a)
def Post (df:List Deferred) (n:Nat) (M:List Nat) (f:Fr) (K:Exit->Fr->World->Prop) (e:Exit) (a:Act) (w:World):Prop:=
 ∃f',Sim df n f' a/\(∀t,t∉M->f' t=f t)/\K e f' w
theorem least {p:Nat->Prop} (h:∃n,p n):∃n,p n/\∀m,p m->n<=m:=by
 obtain⟨n,c⟩:=h;induction n using Nat.strongRecOn with
 |_ n d=>
  by_cases hm:∃m,m<n/\p m
  ·obtain⟨m,a,b⟩:=hm;exact d m a b
  ·exact⟨n,c,λm b=>Nat.le_of_not_lt λa=>hm ⟨m,a,b⟩⟩
open Classical in
noncomputable def rank (p:Nat->Prop):Nat:=if h:∃n,p n then Classical.choose (least h) else 0
theorem YA0 {p:Nat->Prop} (h:∃n,p n):p (rank p)/\∀m,p m->rank p<=m:=by
 unfold rank;rw[dif_pos h];exact Classical.choose_spec (least h)
theorem Sim.fr {df:List Deferred} {n:Nat} {f:Fr} {a:Act} (h:Sim df n f a):(λt=>a.tmps.getD t undef)=f:=funext h.at_
theorem Yl {P:Program} {b:Frame} {a:Act} {k:List Item} {cs:List Frame} {w:World} {c:Code}:step P (lone (b.atR a (.code (.scope c)::k)) cs w)= .next (lone (b.atR a (.code c:: .inScope c::k)) cs w):=
 step_lone_go (by simp[stepG,stepG.exec,Frame.atR])
theorem Z80 {P:Program} {b:Frame} {a:Act} {k:List Item} {cs:List Frame} {w:World} {c:Code}:step P (lone (b.atR a (.inScope c::k)) cs w)= .next (lone (b.atR a k) cs w):=
 step_lone_go (by simp[stepG,stepG.exec,Frame.atR])
theorem wpIn_scope_straight {ro:Option Nat} {P:Program} {Q:Exit->Act->World->Prop} {a:Act} {w:World} {c:Code} (h:c.wpIn (FR ro) 0 P (Exit.noGoto Q) a w):(Code.scope c).wpIn (FR ro) 0 P Q a w:=by
 intro b k cs o i m;have f:(lone (b.atR a (.code (.scope c)::k)) cs w).fenced P (FR ro):=fenced_calm i m rfl;obtain⟨e,a₁,w₁,g,d⟩:=h b (.inScope c::k) cs o i m;cases e with
 |normal=>exact⟨.normal,a₁,w₁,g,.head f Yl (StepsIn.trans d (.one (fenced_calm i m rfl) Z80))⟩
 |exit id=>
  have p:exitTo id (.inScope c::k)=exitTo id k:=(by simp[exitTo]);exact⟨.exit id,a₁,w₁,g,λs j=> .head f Yl (d.1 s (by rw[p];exact j)),
   λn j=>let ⟨k₁,q,r⟩:=d.2 n (by rw[p];exact j);⟨k₁,q,.head f Yl r⟩⟩
 |goto l=>exact g.elim
 |ret=>exact⟨_,a₁,w₁,g,.of_steps (.one f Yl) d⟩
 |panic ch=>exact⟨_,a₁,w₁,g,.of_steps (.one f Yl) d⟩
 |outgrown=>exact⟨_,a₁,w₁,g,.of_steps (.one f Yl) d⟩
section
variable {ro:Option Nat} {df:List Deferred} {P:Program} {T:Ann} {n:Nat}
theorem vc_sound (hm:P.follows .mixedOrders=true):∀(c:Code) (K:Exit->Fr->World->Prop) (f:Fr) (a:Act) (w:World),okC n T c=true->vc P T c K f w->Sim df n f a->(∀l f w,¬K (.goto l) f w)->
  c.wpIn (FR ro) 0 P (Post df n (mods c []) f K) a w:=by
 intro c;induction c with
 |skip=>intro K f a w _ h hs _;exact wpIn_skip ⟨f,hs,λ_ _=>rfl,h⟩
 |label l=>intro K f a w _ h hs _;exact wpIn_label ⟨f,hs,λ_ _=>rfl,h⟩
 |exit id=>intro K f a w _ h hs _;exact wpIn_exit ⟨f,hs,λ_ _=>rfl,h⟩
 |ret=>intro K f a w _ h hs _;exact wpIn_ret ⟨f,hs,λ_ _=>rfl,h⟩
 |goto l=>intro K f a w _ h;exact h.elim
 |refuse s=>intro K f a w _ h;exact h.elim
 |rangeFunc x y z b _ _=>intro K f a w _ h;exact h.elim
 |region id ops dr=>
  intro K f a w d h hs _;simp only[okC,K3] at d;have Q:∀q C w',Sim df n q C->(∀t,(∀o,o∈ops->o.dst≠some t)->q t=f t)->K .normal q w'->Post df n (mods (.region id ops dr) []) f K .normal C w':=by
   intro q C w' j u r;refine⟨q,j,λt A=>u t λo ho hd=>A ?_,r⟩;simp only[mods,mem_dsts];exact .inl ⟨o,pC.2 ho,hd⟩
  cases dr with
  |false=>
   simp only[vc] at h;exact Xz0 d.1 (by rw[WE0,WU0,pf,pD]) h hs Q
  |true=>
   simp only[vc] at h;have g:=d.2;cases N:lookN id T.ord with
   |none=>
    rw[N] at h g;simp only at h g;cases u:lookN id T.trees with
    |none=>
     rw[u] at h g;simp only at h g;cases X:lookN id T.pars with
     |none=>rw[X] at h;exact h.elim
     |some p=>
      rw[X] at h g;simp only[K3] at g;exact QC0 d.1 hm g.1 g.2 h hs Q
    |some p=>
     rw[u] at h g;exact Xy0 d.1 hm g h hs Q
   |some p=>
    rw[N] at h g;simp only[K3] at g;exact XA0 d.1 hm g.1 (VC0 g.2) h hs Q
 |seq x y ihx ihy=>
  intro K f a w d h hs E;simp only[okC,K3] at d;refine wpIn_seq ?_;simp only[vc] at h;cases W:UT0 T x y with
  |none=>
   rw[W] at h;refine wpIn_mono (ihx _ f a w d.1 h hs ?_) ?_
   ·intro l q w' r;exact E l q w' r
   ·rintro e C w' ⟨q,j,u,r⟩;cases e with
    |normal=>
     refine wpIn_mono (ihy K q C w' d.2 r j E) ?_;rintro e M w'' ⟨B,v,D,H⟩;refine⟨B,v,λt A=>?_,H⟩;simp only[mods] at A;rw[mem_mods] at A;rw[D t (λh=>A (.inr h)),u t (λh=>A (.inl h))]
    |_=>exact⟨q,j,λt A=>u t (λh=>A (by simp only[mods];rw[mem_mods];exact .inl h)),r⟩
  |some L=>
   rw[W] at h;obtain⟨J,Z,R⟩:=h;refine wpIn_mono (ihx _ f a w d.1 Z hs ?_) ?_
   ·intro l q w' r;exact E l q w' r
   ·rintro e C w' ⟨q,j,u,r⟩;cases e with
    |normal=>
     have F:=R _ q _ r;simp only[Zn0 u] at F;refine wpIn_mono (ihy K q C w' d.2 F j E) ?_;rintro e M w'' ⟨B,v,D,H⟩;refine⟨B,v,λt A=>?_,H⟩;simp only[mods] at A;rw[mem_mods] at A;rw[D t (λh=>A (.inr h)),u t (λh=>A (.inl h))]
    |_=>exact⟨q,j,λt A=>u t (λh=>A (by simp only[mods];rw[mem_mods];exact .inl h)),r⟩
 |cond x y z ihy ihz=>
  intro K f a w d h hs E;simp only[okC,K3] at d;simp only[vc] at h;unfold vif at h;split at h
  ·rename_i V;refine wpIn_cond_true (by rw[hs.eval];exact V) (wpIn_mono (ihy K f a w d.1 h hs E) ?_);rintro e C w' ⟨q,j,u,r⟩;exact⟨q,j,λt A=>u t (λh=>A (by simp only[mods];rw[mem_mods];exact .inl h)),r⟩
  ·rename_i V;refine wpIn_cond_false (by rw[hs.eval];exact V) (wpIn_mono (ihz K f a w d.2 h hs E) ?_);rintro e C w' ⟨q,j,u,r⟩;exact⟨q,j,λt A=>u t (λh=>A (by simp only[mods];rw[mem_mods];exact .inr h)),r⟩
  ·exact h.elim
 |block id b O=>
  intro K f a w d h hs E;refine wpIn_block (wpIn_mono (O _ f a w d h hs ?_) ?_)
  ·intro l q w' r;exact E l q w' r
  ·rintro e C w' ⟨q,j,u,r⟩;cases e with
   |exit i=>
    simp only[Exit.inBlock];simp only[blkK] at r;cases F:Nat.beq i id
    ·rw[F] at r;have:i≠id:=λe=>by subst e;simp at F
     rw[if_neg this];exact⟨q,j,u,r⟩
    ·rw[F] at r;rw[if_pos (gp F)];exact⟨q,j,u,r⟩
   |_=>exact⟨q,j,u,r⟩
 |loop b O=>
  intro K f a w d h hs E;simp only[vc] at h;cases N:Wu0 T b with
  |none=>rw[N] at h;exact h.elim
  |some L=>
   rw[N] at h;obtain⟨I,Y,R⟩:=h;refine wpIn_loop (λC w'=> ∃q,Sim df n q C/\(∀t,t∉mods b []->q t=f t)/\∃k,I k (selL L q) w') (λC w'=>rank λk=>I k (selL L λt=>C.tmps.getD t undef) w')
    ⟨f,hs,λ_ _=>rfl,Y⟩ ?_
   rintro C w' ⟨q,j,u,hI⟩;obtain⟨U,_⟩:=YA0 hI;have F:=R _ _ q _ U;simp only[Zn0 u] at F;refine wpIn_mono (O _ q C w' d F j ?_) ?_
   ·intro l B w'' r;exact E l B w'' r
   ·rintro e M w'' ⟨B,v,D,r⟩;have G:∀t,t∉mods b []->B t=f t:=λt A=>(D t A).trans (u t A);cases e with
    |normal=>
     obtain⟨m,S,hm⟩:=r;refine⟨⟨B,v,G,m,hm⟩,?_⟩;rw[v.fr,j.fr];exact PJ ((YA0 ⟨m,hm⟩).2 m hm) S
    |_=>exact⟨B,v,G,r⟩
 |scope b O=>
  intro K f a w d h hs E;refine wpIn_scope_straight (wpIn_mono (O K f a w d h hs E) ?_);rintro e C w' ⟨q,j,u,r⟩;cases e with
  |goto l=>exact(E l _ _ r).elim
  |_=>exact⟨q,j,u,r⟩
def vlv (P:Program) (t:TypeId) (a:Value) (w:World) (K:Value->World->Prop):Prop:=zm0 P (do loadVar t (<-asAddr a)) w λv w'=>w'=w/\K v w
def vresL (P:Program):List ResultVar->Fr->World->(List Value->World->Prop)->Prop
 |[],_,w,K=>K [] w
 | .tmp t::r,f,w,K=>vresL P r f w λl w=>K (f t::l) w
 | .cell a t::r,f,w,K=>vlv P t (f a) w λv w=>vresL P r f w λl w=>K (v::l) w
def tup:List Value->Value
 |[v]=>v
 |l=> .tuple ⟨l⟩
def Uk0 (P:Program) (rs:List ResultVar) (f:Fr) (w:World) (K:Value->World->Prop):Prop:=vresL P rs f w λl w=>K (tup l) w
def rdR (a:Act):ResultVar->Sem Value
 | .tmp t=>pure (a.tmps.getD t undef)
 | .cell x t=>do loadVar t (<-asAddr (a.tmps.getD x undef))
theorem Xl0 {f:Fr} {a:Act} {w:World} (hs:Sim df n f a):∀(rs:List ResultVar) (K:List Value->World->Prop),vresL P rs f w K->
  ∃l,l.length=rs.length/\(rs.mapM (rdR a)).run P w= .ok l w/\K l w:=by
 intro rs;induction rs with
 |nil=>intro K h;exact⟨[],rfl,rfl,h⟩
 |cons r rs g=>
  intro K h;cases r with
  |tmp t=>
   obtain⟨l,d,e,c⟩:=g _ h;refine⟨f t::l,by simp[d],?_,c⟩;simp only[List.mapM_cons,rdR,Sem.run_bind,Sem.run_pure,Result.andThen_ok];rw[e];simp only[Result.andThen_ok,hs.at_]
  |cell x t=>
   obtain⟨v,w',b,hw,i⟩:=h;obtain⟨l,d,e,c⟩:=g _ i;subst hw;refine⟨v::l,by simp[d],?_,c⟩;rw[<-hs.at_ x] at b;simp only[List.mapM_cons,rdR,Sem.run_bind] at b⊢;rw[b];simp only[Result.andThen_ok,e,Sem.run_pure]
theorem tup_eq (l:List Value):(if h:(l.toArray).size=1 then(l.toArray)[0] else Value.tuple l.toArray)=tup l:=by
 match l with
 |[]=>rfl
 |[v]=>rfl
 |a::b::r=>simp[tup]
theorem vres_sound {fn:Func} {f:Fr} {a:Act} {w:World} {K:Value->World->Prop} (h:Uk0 P fn.results.toList f w K) (hs:Sim df n f a):
  ∃v,(results fn a.tmps).run P w= .ok v w/\K v w:=by
 obtain⟨l,_,d,c⟩:=Xl0 (P:=P) hs _ _ h;refine⟨tup l,?_,c⟩;have e:fn.results=fn.results.toList.toArray:=rfl;have b:results fn a.tmps=(do
   let vs <-fn.results.mapM (rdR a)
   pure (if h:vs.size=1 then vs[0] else .tuple vs)):=by
  unfold results;congr 2
 rw[b,e,List.mapM_toArray];simp only[Sem.run_bind,Sem.run_map];rw[d];simp only[Result.andThen_ok,Sem.run_pure];rw[tup_eq]
def retF (P:Program) (rs:List ResultVar) (K:Value->World->Prop) (e:Exit) (f:Fr) (w:World):Prop:=
 match e with
 | .normal=>Uk0 P rs f w K
 | .ret=>Uk0 P rs f w K
 |_=>False
def nthV:List Value->Fr
 |[],_=>undef
 |v::_,0=>v
 |_::l,t+1=>nthV l t
theorem WS0 (l:List Value) (t:Nat):nthV l t=l.getD t undef:=by
 induction l generalizing t with
 |nil=>simp[nthV]
 |cons v l a=>cases t<;>simp[nthV,a]
theorem sim_enter (args:List Value) (m:Nat) (h:args.length<=m):
  Sim [] m (nthV args) {tmps:=(args.toArray)++Array.replicate (m-args.toArray.size) undef,defers:=[]}:=by
 refine⟨by simp;omega,rfl,λt=>?_⟩;rw[WS0];simp only[gN,q0];rw[Array.getElem?_append];split
 ·simp
 ·rename_i a;simp only[G9,Nat.not_lt] at a;rw[pt a];rw[Array.getElem?_replicate];split<;>rfl
theorem QW0 {g:Nat} {fn:Func} {c:Code} {args:List Value} {w:World} {K:Value->World->Prop} (hm:P.follows .mixedOrders=true) (m:P.funcs[g]?=some fn) (k:fn.body=some c)
  (p:fn.ntmps=n) (o:okFn P g=true) (d:okC n T c=true) (hlen:Nat.ble args.length n=true)
  (h:vc P T c (retF P fn.results.toList K) (nthV args) w):vcall P g args.toArray w K:=by
 refine⟨o,callsIn_wide (n:=0).1 (callsIn_of_wp m k trivial ?_)⟩;rw[p];refine wpIn_mono (vc_sound hm c _ _ _ w d h (sim_enter args n (Gi hlen)) (λl f w h=>h)) ?_;rintro e q w' ⟨r,a,_,b⟩;cases e with
 |normal=>obtain⟨v,i,j⟩:=vres_sound b a;exact⟨a.defers,v,i,j⟩
 |ret=>obtain⟨v,i,j⟩:=vres_sound b a;exact⟨a.defers,v,i,j⟩
 |_=>exact b.elim
end
def UH0 (P:Program) (T:Ann) (g:Nat) (fn:Func) (args:List Value):Bool:=okFn P g&&okC fn.ntmps T (fn.body.getD .skip)&&Nat.ble args.length fn.ntmps&&fn.body.isSome&&P.follows .mixedOrders
theorem zl {P:Program} (T:Ann) {g:Nat} {fn:Func} {args:List Value} {w:World} {K:Value->World->Prop} {F:Prop} (k:P.funcs[g]?=some fn) (a:UH0 P T g fn args=true)
  (hF:vc P T (fn.body.getD .skip) (retF P fn.results.toList K) (nthV args) w=F) (h:F):vcall P g args.toArray w K:=by
 simp only[UH0,K3] at a;obtain⟨⟨⟨⟨e,b⟩,f⟩,i⟩,j⟩:=a;obtain⟨c,d⟩:=pG.1 i;have he:fn.body.getD .skip=c:=by rw[d];rfl
 rw[he] at b hF;exact QW0 j k d rfl e b f (hF▸h)
theorem cQ {P:Program} (T:Ann) {g:Nat} {fn:Func} {args:List Value} {w:World} {K:Value->World->Prop} {F:Prop} (hf:P.funcs[g]?=some fn) (h:F) (hall:UH0 P T g fn args=true:=by kernel_rfl) (hF:vc P T (fn.body.getD .skip) (retF P fn.results.toList K) (nthV args) w=F:=by kernel_rfl):vcall P g args.toArray w K:=zl T hf hall hF h
theorem Wd {z:List Value} {w:World} {B:(List Value->World->Prop)->List Value->Fr->World->Prop} (I:Nat->List Value->World->Prop) (n:Nat) (c:I n z w)
  (h:∀n u g w' C,I n u w'->(∀m b w'',m<n->I m b w''->C b w'')->B C u g w'):yQ z w B:=
 ⟨I,⟨n,c⟩,λn u g w' d=>h n u g w' _ d λm _ _ a hm=>⟨m,a,hm⟩⟩
theorem vloop_up {z:List Value} {w:World} {B:(List Value->World->Prop)->List Value->Fr->World->Prop} (N:Nat) (I:Nat->List Value->World->Prop) (d:I 0 z w)
  (h:∀k u g w' C,k<=N->I k u w'->(k<N->∀a w'',I (k+1) a w''->C a w'')->B C u g w'):yQ z w B:=by
 refine Wd (λn u w=> ∃k,k<=N/\n=N-k/\I k u w) N ⟨0,Gj _,oM,d⟩ ?_;rintro n u g w' C ⟨k,i,rfl,f⟩ e;exact h k u g w' C i f λc a w'' b=>e (N-(k+1)) a w'' oM ⟨k+1,c,rfl,b⟩
theorem zR {A:(List Value->World->Prop)->Prop} {B:List Value->Fr->World->Prop} (J:List Value->World->Prop)
  (a:∀C,(∀u w,J u w->C u w)->A C) (b:∀u g w,J u w->B u g w):x7 A B:=⟨J,a J λ_ _ h=>h,b⟩
end
section
section
variable {P:Program} {w:World} {K:Value->World->Prop}
theorem yU {α:Type} {s:Sem α} {K:α->World->Prop} {v:α} {w':World} (h:s.run P w= .ok v w'):zm0 P s w K=K v w':=by
 apply propext;constructor
 ·rintro⟨a,b,c,k⟩;rw[h] at c;cases c;exact k
 ·exact λk=>⟨_,_,h,k⟩
@[push_cast] theorem vif_t (A B:Prop):vif (.bool true) A B=A:=rfl
@[push_cast] theorem vif_f (A B:Prop):vif (.bool false) A B=B:=rfl
theorem zh {p:Prop} [Decidable p] {A B:Prop} (h:p->A) (b: ¬p->B):vif (.bool (decide p)) A B:=by
 by_cases a:p
 ·rw[decide_eq_true a];exact h a
 ·rw[decide_eq_false a];exact b a
theorem zI {b:Bool} {A B:Prop} (h:b=true->A) (a:b=false->B):vif (.bool b) A B:=by
 cases b
 ·exact a rfl
 ·exact h rfl
@[push_cast] theorem vpick_t (a b:Value):vpick (.bool true) a b w K=K a w:=rfl
@[push_cast] theorem vpick_f (a b:Value):vpick (.bool false) a b w K=K b w:=rfl
@[push_cast] theorem vpick_bb (c x y:Bool):vpick (.bool c) (.bool x) (.bool y) w K=K (.bool (if c then x else y)) w:=by cases c<;>rfl
@[push_cast] theorem XQ0 (a:Addr):vnil P (.pointer (some a)) w K=K (.pointer (some a)) w:=propext ⟨λh=>h.h,λh=>⟨h⟩⟩
@[push_cast] theorem WC0 (g:Nat) (a b args:Array Value):vcallv P (.func (.func g) a b) args w K=vcall P g ⟨(a.toList++args.toList)++b.toList⟩ w K:=rfl
@[push_cast] theorem vun_not (b:Bool):vun P .not (.bool b) w K=K (.bool (!b)) w:=yU rfl
@[push_cast] theorem vun_neg (k:IntKind) (n:Int):vun P .neg (.int k n) w K=K (.int k (k.wrap (0-n))) w:=yU rfl
theorem xc {op:BinOp} {t:TypeId} {c:Bool} {a b v:Value} (d:(eqG op t c a b).run P w= .ok () w) (e:(binOp op t a b).run P w= .ok v w):
  zq P op t c a b w K=K v w:=yU (by simp only[Sem.run_bind,d,Result.andThen_ok,e])
@[push_cast] theorem qo0 (t:TypeId) (c:Bool) (k:IntKind) (a b:Int):zq P .add t c (.int k a) (.int k b) w K=K (.int k (k.wrap (a+b))) w:=xc rfl (by simp[binOp,Op.intArith])
@[push_cast] theorem We (t:TypeId) (c:Bool) (k:IntKind) (a b:Int):zq P .sub t c (.int k a) (.int k b) w K=K (.int k (k.wrap (a-b))) w:=xc rfl (by simp[binOp,Op.intArith])
@[push_cast] theorem XX0 (t:TypeId) (c:Bool) (k:IntKind) (a b:Int):zq P .mul t c (.int k a) (.int k b) w K=K (.int k (k.wrap (a*b))) w:=xc rfl (by simp[binOp,Op.intArith])
@[push_cast] theorem Z20 (t:TypeId) (c:Bool) (k:IntKind) (a b:Int):zq P .lss t c (.int k a) (.int k b) w K=K (.bool (decide (a<b))) w:=xc rfl (by simp[binOp,Op.intCmp])
@[push_cast] theorem vbin_leq (t:TypeId) (c:Bool) (k:IntKind) (a b:Int):zq P .leq t c (.int k a) (.int k b) w K=K (.bool (decide (a<=b))) w:=xc rfl (by simp[binOp,Op.intCmp])
@[push_cast] theorem Vj0 (t:TypeId) (c:Bool) (k:IntKind) (a b:Int):zq P .gtr t c (.int k a) (.int k b) w K=K (.bool (decide (b<a))) w:=xc rfl (by simp[binOp,Op.intCmp])
@[push_cast] theorem vbin_geq (t:TypeId) (c:Bool) (k:IntKind) (a b:Int):zq P .geq t c (.int k a) (.int k b) w K=K (.bool (decide (b<=a))) w:=xc rfl (by simp[binOp,Op.intCmp])
@[push_cast] theorem JY (t:TypeId) (c:Bool) (k:IntKind) (a b:Int):zq P .eql t c (.int k a) (.int k b) w K=K (.bool (decide (a=b))) w:=
 xc rfl (by simp[binOp,Op.intCmp];by_cases h:a=b<;>simp[h])
@[push_cast] theorem vbin_neq (t:TypeId) (c:Bool) (k:IntKind) (a b:Int):zq P .neq t c (.int k a) (.int k b) w K=K (.bool (decide (a≠b))) w:=
 xc rfl (by simp[binOp,Op.intCmp];by_cases h:a=b<;>simp[h])
theorem zJ {x:Int} (h: -9223372036854775808<=x) (a:x<=9223372036854775807):IntKind.i64.wrap x=x:=IntWalk.i64_in x ⟨h,a⟩
@[push_cast] theorem Vg0 (a:Value):zn P (.tuple #[a]) 0 w K=K a w:=yU rfl
@[push_cast] theorem Vf0 (a b:Value):zn P (.tuple #[a,b]) 0 w K=K a w:=yU rfl
@[push_cast] theorem Ve0 (a b:Value):zn P (.tuple #[a,b]) 1 w K=K b w:=yU rfl
@[push_cast] theorem Js0 (a b c:Value):zn P (.tuple #[a,b,c]) 0 w K=K a w:=yU rfl
@[push_cast] theorem Jr0 (a b c:Value):zn P (.tuple #[a,b,c]) 1 w K=K b w:=yU rfl
@[push_cast] theorem Jq0 (a b c:Value):zn P (.tuple #[a,b,c]) 2 w K=K c w:=yU rfl
@[push_cast] theorem vmkF_eq (fn:Fn) (a b:List Value):kG0 P fn a b w K=K (.func fn ⟨a⟩ ⟨b⟩) w:=yU rfl
@[push_cast] theorem sl0 (a:Value) (l:List Value):sl 0 (a::l)=a:=rfl
@[push_cast] theorem sl1 (a b:Value) (l:List Value):sl 1 (a::b::l)=b:=rfl
@[push_cast] theorem sl2 (a b c:Value) (l:List Value):sl 2 (a::b::c::l)=c:=rfl
@[push_cast] theorem sl3 (a b c d:Value) (l:List Value):sl 3 (a::b::c::d::l)=d:=rfl
@[push_cast] theorem sl4 (a b c d e:Value) (l:List Value):sl 4 (a::b::c::d::e::l)=e:=rfl
@[push_cast] theorem sl5 (a b c d e f:Value) (l:List Value):sl 5 (a::b::c::d::e::f::l)=f:=rfl
@[push_cast] theorem sl6 (a b c d e f g:Value) (l:List Value):sl 6 (a::b::c::d::e::f::g::l)=g:=rfl
@[push_cast] theorem sl7 (a b c d e f g h:Value) (l:List Value):sl 7 (a::b::c::d::e::f::g::h::l)=h:=rfl
end
structure Same (S:Nat->Prop) (w w':World):Prop where
 os:w'.os=w.os
 tape:w'.tape=w.tape
 output:w'.output=w.output
 size:w.heap.size<=w'.heap.size
 block:∀b,b<w.heap.size->¬S b->w'.heap[b]?=w.heap[b]?
abbrev Ext (w w':World):Prop:=Same (λ_=>False) w w'
theorem Same.refl (S:Nat->Prop) (w:World):Same S w w:=⟨rfl,rfl,rfl,gq _,λ_ _ _=>rfl⟩
theorem Same.trans {S:Nat->Prop} {a b c:World} (h:Same S a b) (k:Same S b c):Same S a c:=
 ⟨k.os.trans h.os,k.tape.trans h.tape,k.output.trans h.output,Gc h.size k.size,λi d hs=>(k.block i (gJ d h.size) hs).trans (h.block i d hs)⟩
theorem Same.mono {S S':Nat->Prop} {a b:World} (h:Same S a b) (hs:∀x,x<a.heap.size->S x->S' x):Same S' a b:=
 ⟨h.os,h.tape,h.output,h.size,λi c d=>h.block i c (λe=>d (hs i c e))⟩
theorem Same.of_ext {S:Nat->Prop} {a b:World} (h:Ext a b):Same S a b:=h.mono λ_ _ h=>h.elim
theorem Ext.then {S:Nat->Prop} {a b c:World} (h:Ext a b) (k:Same S b c) (hs:∀x,S x->a.heap.size<=x):Ext a c:=
 ⟨k.os.trans h.os,k.tape.trans h.tape,k.output.trans h.output,Gc h.size k.size,λi d _=>
  (k.block i (gJ d h.size) (λe=>by have:=hs i e;omega)).trans (h.block i d id)⟩
theorem W40 (w:World):Ext w {w with drawn:=w.drawn+1}:=⟨rfl,rfl,rfl,gq _,λ_ _ _=>rfl⟩
theorem Same.cell {S:Nat->Prop} {w w':World} (h:Same S w w') {a:Addr} (hs: ¬S a.block) {v:Value} (b:w.cell? a=some v):w'.cell? a=some v:=
 (World.cell?_of_block (h.block a.block (World.block_lt_of_cell? w a b) hs)).trans b
theorem zu {w:World} {K:World->Prop} (h:∀w',Ext w w'->w'.heap=w.heap->K w'):yb w K:=h _ (W40 w) rfl
section
variable {P:Program} {w:World} {K:Value->World->Prop}
def oneB (P:Program) (t:TypeId):Bool:=match P.underlying t with
 |some (.struct _)=>false
 |some (.array _ _)=>false
 |some _=>true
 |none=>false
def aggB (P:Program) (t:TypeId) (n:Nat):Bool:=(match P.underlying t with
 |some (.struct _)=>true
 |some (.array _ _)=>true
 |_=>false)&&(match P.info? t with|some i=>Nat.beq i.size n|none=>false)
theorem zw0 {t:TypeId} (h:oneB P t=true):(isAgg t).run P w= .ok false w:=by
 unfold oneB at h;cases hu:P.underlying t with
 |none=>rw[hu] at h;cases h
 |some d=>rw[hu] at h;cases d<;>simp[isAgg,underlying,program,hu,Sem.run] at h⊢
theorem Zc0 {t:TypeId} {n:Nat} (h:aggB P t n=true):(isAgg t).run P w= .ok true w:=by
 unfold aggB at h;cases hu:P.underlying t with
 |none=>rw[hu] at h;simp at h
 |some d=>rw[hu] at h;cases d<;>simp[isAgg,underlying,program,hu,Sem.run] at h⊢
theorem Yx {t:TypeId} {n:Nat} (h:aggB P t n=true):(sizeOf t).run P w= .ok n w:=by
 unfold aggB at h;cases a:P.info? t with
 |none=>rw[a] at h;simp at h
 |some i=>
  rw[a] at h;simp only[K3] at h;have:=gp h.2;simp[sizeOf,typeInfo,program,a,Sem.run,this]
theorem yF {t:TypeId} (b:oneB P t=true) {a:Addr} {v:Value} (h:w.cell? a=some v):zf P t (.pointer (some a)) w K=K v w:=by
 refine yU ?_;simp only[Instr.loadAt,Instr.sureAddr,Sem.run_bind,Sem.run_pure,Result.andThen_ok,loadVar,zw0 b,gF,if_false];simp[load,Sem.run,h]
def Cells (w:World) (a:Addr) (cs:List Value):Prop:=∀i v,cs[i]?=some v->w.cell? (a.add i)=some v
theorem yP0 {a:Addr}:∀(cs:List Value) (i:Nat) (acc:Array Value),(∀j v,cs[j]?=some v->w.cell? (a.add (i+j))=some v)->
  (loadCellsFrom a i cs.length acc).run P w= .ok (acc++cs.toArray) w:=by
 intro cs;induction cs with
 |nil=>intro i acc _;simp[loadCellsFrom]
 |cons c cs f=>
  intro i acc h;have b:=h 0 c (by simp);rw[pg] at b;have e:(load (a.add i)).run P w= .ok c w:=(by simp[load,Sem.run,b]);simp only[gw,loadCellsFrom,Sem.run_bind,e,Result.andThen_ok];rw[f (i+1) (acc.push c) (λj v d=>by have:=h (j+1) v (by simpa using d);rwa[Px,Nat.add_comm 1 j])];simp
theorem zp0 {t:TypeId} {cs:List Value} (b:aggB P t cs.length=true) {a:Addr} (h:Cells w a cs):zf P t (.pointer (some a)) w K=K (.agg cs.toArray) w:=by
 refine yU ?_;have d:=yP0 (P:=P) (w:=w) (a:=a) cs 0 #[] (λj v c=>by rw[gS];exact h j v c);simp only[Instr.loadAt,Instr.sureAddr,Sem.run_bind,Sem.run_pure,Result.andThen_ok,loadVar,Zc0 b,if_true,Yx b,loadCells,d];simp
theorem Uy0 {t:TypeId} {a:Addr} {v:Value} (h:zf P t (.pointer (some a)) w (λx w'=>x=v/\w'=w)):vlv P t (.pointer (some a)) w K=K v w:=by
 obtain⟨x,w',c,rfl,rfl⟩:=h;have b:(do loadVar t (<-asAddr (.pointer (some a)))).run P w'= .ok x w':=by
  simpa[Instr.loadAt,Instr.sureAddr,asAddr] using c
 unfold vlv;rw[yU b];simp
end
structure Sl (F:Nat->Prop) (w:World) (k:Nat) (v:Value) (xs:List (List Value)):Prop where
 shape:∃a c,v= .slice a xs.length c/\xs.length<=c/\c<=9223372036854775807/\
  (xs≠[]->∃b o,a=some ⟨b,o,none⟩/\F b/\b<w.heap.size/\∀i,i<xs.length->Cells w ⟨b,o+i*k,none⟩ (xs.getD i []))
 wide:∀x,x∈xs->x.length=k
def eaddr (v:Value) (k i:Nat):Addr:=match v with
 | .slice (some a) _ _=>⟨a.block,a.off+i*k,none⟩
 |_=>default
theorem xU (b o n:Nat):(⟨b,o,none⟩:Addr).add n=⟨b,o+n,none⟩:=by
 unfold Addr.add;split
 ·simp[*]
 ·rfl
theorem Cells.same {S:Nat->Prop} {w w':World} {a:Addr} {cs:List Value} (h:Same S w w') (hs: ¬S a.block) (b:Cells w a cs):Cells w' a cs:=by
 intro i v c;refine h.cell ?_ (b i v c);unfold Addr.add;split<;>exact hs
theorem Sl.same {F S:Nat->Prop} {w w':World} {k:Nat} {v:Value} {xs:List (List Value)} (h:Sl F w k v xs) (hw:Same S w w') (hs:∀b,F b->b<w.heap.size->¬S b):Sl F w' k v xs:=by
 obtain⟨⟨a,c,q,m,hm,l⟩,p⟩:=h;refine⟨⟨a,c,q,m,hm,λf=>?_⟩,p⟩;obtain⟨b,o,j,g,e,d⟩:=l f;exact⟨b,o,j,g,gJ e hw.size,λi n=>(d i n).same hw (hs b g e)⟩
theorem Sl.ext {F:Nat->Prop} {w w':World} {k:Nat} {v:Value} {xs:List (List Value)} (h:Sl F w k v xs) (hw:Ext w w'):Sl F w' k v xs:=h.same hw λ_ _ _ h=>h
theorem Sl.weaken {F F':Nat->Prop} {w:World} {k:Nat} {v:Value} {xs:List (List Value)} (h:Sl F w k v xs) (m:∀b,F b->b<w.heap.size->F' b):Sl F' w k v xs:=by
 obtain⟨⟨a,c,p,l,hm,j⟩,n⟩:=h;refine⟨⟨a,c,p,l,hm,λf=>?_⟩,n⟩;obtain⟨b,o,i,g,e,d⟩:=j f;exact⟨b,o,i,m b g e,e,d⟩
def isSl (P:Program) (t:TypeId):Bool:=match P.underlying t with
 |some (.slice _)=>true
 |_=>false
theorem Zl0 {P:Program} {t:TypeId} (h:isSl P t=true):∃e,P.underlying t=some (.slice e):=by
 unfold isSl at h;split at h
 ·rename_i e hu;exact⟨e,hu⟩
 ·cases h
def jC (P:Program) (e n:Nat):Bool:=match P.info? e with|some i=>Nat.beq i.size n|none=>false
def elB (P:Program) (t k:Nat):Bool:=match P.underlying t with
 |some (.slice e)=>jC P e k
 |_=>false
theorem Wx0 {P:Program} {t k:Nat} (h:elB P t k=true):∃e,P.underlying t=some (.slice e)/\jC P e k=true:=by
 unfold elB at h;split at h
 ·rename_i e hu;exact⟨e,hu,h⟩
 ·cases h
section
variable {P:Program} {F:Nat->Prop} {w w':World} {K:Value->World->Prop} {k:Nat} {v:Value} {xs:List (List Value)}
theorem run_sizeOf {e n:Nat} (h:jC P e n=true):(sizeOf e).run P w= .ok n w:=by
 unfold jC at h;cases a:P.info? e with
 |none=>rw[a] at h;cases h
 |some i=>rw[a] at h;have:=gp h;simp[sizeOf,typeInfo,program,a,Sem.run,this]
theorem qW {t:TypeId} {d:TypeDesc} (h:P.underlying t=some d):(underlying t).run P w= .ok d w:=by simp[underlying,program,h,Sem.run]
theorem Sl.len (h:Sl F w k v xs) {t:TypeId} (b:isSl P t=true) (ty:TypeId):vbi P .len [t] ty [v] w' K=K (.int .i64 xs.length) w':=by
 obtain⟨a,c,d,_⟩:=h.shape;obtain⟨e,he⟩:=Zl0 b;subst d;refine yU ?_;simp[biSem,Builtin.len_,qW he,goInt]
theorem Sl.iaddr (h:Sl F w k v xs) {t:TypeId} (l:elB P t k=true) {kd:IntKind} {i:Int} (f:0<=i) (d:i<xs.length):
  zj P t v (.int kd i) w' K=K (.pointer (some (eaddr v k i.toNat))) w':=by
 obtain⟨a,c,m,_,_,j⟩:=h.shape;obtain⟨b,o,g,_⟩:=j (by intro e;subst e;simp at d;omega);obtain⟨e,he,hs⟩:=Wx0 l;subst g;subst m;refine yU ?_;simp[Instr.indexAt,asIntOf,qW he,f,d,run_sizeOf hs,eaddr,xU]
theorem Sl.cells (h:Sl F w k v xs) {i:Nat} (d:i<xs.length):Cells w (eaddr v k i) (xs.getD i []):=by
 obtain⟨a,c,l,_,_,g⟩:=h.shape;obtain⟨b,o,f,_,_,j⟩:=g (by intro e;subst e;simp at d);subst f;subst l;exact j i d
end
def Blk (w:World) (b:Nat) (cs:List Value) (t:TypeId):Prop:=w.heap[b]?=some (.cells ⟨cs⟩ t (0,0))
theorem Blk.lt {w:World} {b:Nat} {cs:List Value} {t:TypeId} (h:Blk w b cs t):b<w.heap.size:=(gB.1 h).1
theorem Blk.same {S:Nat->Prop} {w w':World} {b:Nat} {cs:List Value} {t:TypeId} (h:Blk w b cs t) (hw:Same S w w') (hs: ¬S b):Blk w' b cs t:=
 (hw.block b h.lt hs).trans h
theorem Blk.ext {w w':World} {b:Nat} {cs:List Value} {t:TypeId} (h:Blk w b cs t) (hw:Ext w w'):Blk w' b cs t:=h.same hw id
theorem Blk.cell {w:World} {b:Nat} {cs:List Value} {t:TypeId} (h:Blk w b cs t) {i:Nat} {v:Value} (a:cs[i]?=some v):w.cell? ⟨b,i,none⟩=some v:=by
 unfold World.cell?;rw[show w.heap[(⟨b,i,none⟩:Addr).block]?=_ from h];simpa using a
theorem Blk.frozen {w:World} {b:Nat} {cs:List Value} {t:TypeId} (h:Blk w b cs t) (a:Addr) (c:a.block=b):w.frozen? a=false:=by
 unfold World.frozen?;rw[c,show w.heap[b]?=_ from h];simp
section
variable {P:Program} {w:World} {K:Value->World->Prop} {b:Nat} {cs:List Value} {t0:TypeId}
@[push_cast] theorem blt_zero {α:Type} (a:α) (l:List α):Nat.blt 0 (a::l).length=true:=rfl
@[push_cast] theorem blt_succ {α:Type} (n:Nat) (a:α) (l:List α):Nat.blt (n+1) (a::l).length=Nat.blt n l.length:=rfl
theorem getD_some {cs:List Value} {i:Nat} (a:Nat.blt i cs.length=true):cs[i]?=some (cs.getD i undef):=by
 have:i<cs.length:=by simpa[pW] using a
 simp[q0,this]
theorem Blk.ld0 {a:Value} {r:List Value} (h:Blk w b (a::r) t0) {t:TypeId} (c:oneB P t=true):zf P t (.pointer (some ⟨b,0,none⟩)) w K=K a w:=yF c (h.cell rfl)
theorem Blk.ld1 {d a:Value} {r:List Value} (h:Blk w b (d::a::r) t0) {t:TypeId} (c:oneB P t=true):zf P t (.pointer (some ⟨b,1,none⟩)) w K=K a w:=yF c (h.cell rfl)
theorem Blk.ld2 {d e a:Value} {r:List Value} (h:Blk w b (d::e::a::r) t0) {t:TypeId} (c:oneB P t=true):zf P t (.pointer (some ⟨b,2,none⟩)) w K=K a w:=yF c (h.cell rfl)
theorem Blk.ld3 {c d e x3:Value} {r:List Value} (h:Blk w b (c::d::e::x3::r) t0) {t:TypeId} (a:oneB P t=true):zf P t (.pointer (some ⟨b,3,none⟩)) w K=K x3 w:=yF a (h.cell rfl)
theorem Blk.ld4 {c d e x3 x4:Value} {r:List Value} (h:Blk w b (c::d::e::x3::x4::r) t0) {t:TypeId} (a:oneB P t=true):zf P t (.pointer (some ⟨b,4,none⟩)) w K=K x4 w:=yF a (h.cell rfl)
theorem Blk.ld5 {c d e x3 x4 x5:Value} {r:List Value} (h:Blk w b (c::d::e::x3::x4::x5::r) t0) {t:TypeId} (a:oneB P t=true):zf P t (.pointer (some ⟨b,5,none⟩)) w K=K x5 w:=yF a (h.cell rfl)
theorem Blk.ldAgg (h:Blk w b cs t0) {t:TypeId} (a:aggB P t cs.length=true):zf P t (.pointer (some ⟨b,0,none⟩)) w K=K (.agg ⟨cs⟩) w:=
 zp0 a λi v c=>by rw[xU,gS];exact h.cell c
theorem Blk.lv (h:Blk w b cs t0) {t:TypeId} (a:aggB P t cs.length=true):vlv P t (.pointer (some ⟨b,0,none⟩)) w K=K (.agg ⟨cs⟩) w:=
 Uy0 (by rw[h.ldAgg a];exact⟨rfl,rfl⟩)
def xh (P:Program) (t:TypeId) (z:Value):Prop:=(match P.info? t with|some i=>i.zero|none=>none)=some z
theorem Wj {t:TypeId} {z:Value} (h:xh P t z):(zeroValue t).run P w= .ok z w:=by
 unfold xh at h;cases a:P.info? t with
 |none=>rw[a] at h;cases h
 |some i=>rw[a] at h;simp[zeroValue,typeInfo,program,a,Sem.run,h]
theorem ext_push (w:World) (o:Obj):Ext w {w with heap:=w.heap.push o}:=
 ⟨rfl,rfl,rfl,by simp,λi a _=>by rw[Array.getElem?_push,if_neg (by show i≠w.heap.size;omega)]⟩
theorem y90 (w:World) (cs:List Value) (t:TypeId):Blk {w with heap:=w.heap.push (.cells ⟨cs⟩ t)} w.heap.size cs t:=by simp[Blk]
theorem jO {t:TypeId} {v:Value} (h:∀b w',b=w.heap.size->Ext w w'->w'.heap.size=w.heap.size+1->Blk w' b v.cells.toList t->K (.pointer (some ⟨b,0,none⟩)) w'):yX P t v w K:=by
 refine⟨_,_,?_,h w.heap.size {w with heap:=w.heap.push (.cells ⟨v.cells.toList⟩ t)} rfl (ext_push w _) (by simp) (y90 w _ t)⟩;simp[Instr.box,newVar,newRow,newObj,Sem.run]
theorem Wf {t:TypeId} {z:Value} (a:xh P t z) (h:∀b w',b=w.heap.size->Ext w w'->w'.heap.size=w.heap.size+1->Blk w' b z.cells.toList t->K (.pointer (some ⟨b,0,none⟩)) w'):y3 P t w K:=by
 refine⟨_,_,?_,h w.heap.size {w with heap:=w.heap.push (.cells ⟨z.cells.toList⟩ t)} rfl (ext_push w _) (by simp) (y90 w _ t)⟩;simp[Instr.alloc,Wj a,newVar,newRow,newObj,Sem.run]
theorem Blk.st (h:Blk w b cs t0) {t:TypeId} {v:Value} (m:v.cells= #[v]) (a:v.oneCell'=true) (n:jC P t 1=true) {i:Nat} (j:Nat.blt i cs.length=true)
  (c:∀w',Same (· =b) w w'->w'.heap.size=w.heap.size->Blk w' b (cs.set i v) t0->K undef w'):zm P t (.pointer (some ⟨b,i,none⟩)) v w K:=by
 have f:=h.cell (getD_some j);have g:=h.frozen ⟨b,i,none⟩ rfl;have d:(⟨b,i,none⟩:Addr).add 0=⟨b,i,none⟩:=rfl;refine⟨(),w.setCell ⟨b,i,none⟩ v,?_,c _ ⟨rfl,rfl,rfl,by simp,λk _ l=>?_⟩ (by simp) ?_⟩
 ·simp only[Instr.storeAt,Instr.sureAddr,Sem.run_bind,Sem.run_pure,Result.andThen_ok,storeVar,run_sizeOf n,m];cases v<;>first|(cases a;done)|simp[storeCells,store,Sem.run,d,f,g]
 ·simp only[World.setCell,G1];rw[if_neg (λe=>l e.symm)]
 ·unfold Blk at h⊢;simp only[World.setCell,G1,if_true,h];simp
def fieldB (P:Program) (s f off:Nat):Bool:=match P.underlying s with
 |some (.struct fs)=>match fs[f]? with
  |some x=>Nat.beq x.offset off&&(match P.info? x.type with|some i=> !Nat.beq i.size 0 |none=>false)
  |none=>false
 |_=>false
theorem y4 {s f off:Nat} (h:fieldB P s f off=true) (a:Addr):zg P s (.pointer (some a)) f w K=K (.pointer (some (a.add off))) w:=by
 unfold fieldB at h;cases hu:P.underlying s with
 |none=>rw[hu] at h;cases h
 |some d=>
  rw[hu] at h;cases d with
  |struct fs=>
   simp only at h;cases g:fs[f]? with
   |none=>rw[g] at h;cases h
   |some x=>
    rw[g] at h;simp only[K3] at h;obtain⟨k,b⟩:=h;have c:=gp k;cases j:P.info? x.type with
    |none=>rw[j] at b;cases b
    |some i=>
     rw[j] at b;have l:i.size≠0:=by intro e;simp[e] at b
     refine yU ?_;simp[Instr.fieldAt,qW hu,g,Instr.sureAddr,fieldPlace,sizeOf,typeInfo,program,j,Sem.run,l,c]
  |_=>simp at h
end
attribute [push_cast] xU GP GB gS pn PK Value.cells
end
section
attribute [push_cast] gm
def Vals (F:Nat->Prop) (w:World) (v:Value) (vs:List Value):Prop:=Sl F w 1 v (vs.map λx=>[x])
def Ints (F:Nat->Prop) (w:World) (v:Value) (xs:List Int):Prop:=Vals F w v (xs.map λx=> .int .i64 x)
def Bools (F:Nat->Prop) (w:World) (v:Value) (xs:List Bool):Prop:=Vals F w v (xs.map λx=> .bool x)
def Lists (F:Nat->Prop) (w:World) (v:Value) (xss:List (List Int)):Prop:=
 ∃vs:List Value,vs.length=xss.length/\Vals F w v vs/\∀i,i<xss.length->Ints F w (vs.getD i undef) (xss.getD i [])
section
variable {P:Program} {F F' S:Nat->Prop} {w w':World} {K:Value->World->Prop} {v:Value} {vs:List Value} {xs:List Int} {bs:List Bool} {xss:List (List Int)}
theorem Vals.ext (h:Vals F w v vs) (hw:Ext w w'):Vals F w' v vs:=Sl.ext h hw
theorem Vals.same (h:Vals F w v vs) (hw:Same S w w') (hs:∀b,F b->b<w.heap.size->¬S b):Vals F w' v vs:=Sl.same h hw hs
theorem Vals.weaken (h:Vals F w v vs) (a:∀b,F b->b<w.heap.size->F' b):Vals F' w v vs:=Sl.weaken h a
theorem Vals.len (h:Vals F w v vs) {t:TypeId} (a:isSl P t=true) (ty:TypeId):vbi P .len [t] ty [v] w' K=K (.int .i64 vs.length) w':=by
 have:=Sl.len (K:=K) (w':=w') h a ty;rwa[X0] at this
theorem Vals.iaddr (h:Vals F w v vs) {t:TypeId} (c:elB P t 1=true) {kd:IntKind} {i:Int} (a:0<=i) (b:i<vs.length):
  zj P t v (.int kd i) w' K=K (.pointer (some (eaddr v 1 i.toNat))) w':=Sl.iaddr h c a (by rw[X0];exact b)
theorem Vals.load (h:Vals F w v vs) {e:TypeId} (he:oneB P e=true) {i:Nat} (a:i<vs.length):zf P e (.pointer (some (eaddr v 1 i))) w K=K (vs.getD i undef) w:=by
 have b:=Sl.cells h (i:=i) (by rw[X0];exact a);have:=b 0 (vs.getD i undef) (by simp[q0,a]);exact yF he this
theorem Ints.ext (h:Ints F w v xs) (hw:Ext w w'):Ints F w' v xs:=Vals.ext h hw
theorem Ints.same (h:Ints F w v xs) (hw:Same S w w') (hs:∀b,F b->b<w.heap.size->¬S b):Ints F w' v xs:=Vals.same h hw hs
theorem Ints.weaken (h:Ints F w v xs) (a:∀b,F b->b<w.heap.size->F' b):Ints F' w v xs:=Vals.weaken h a
theorem Ints.len (h:Ints F w v xs) {t:TypeId} (a:isSl P t=true) (ty:TypeId):vbi P .len [t] ty [v] w' K=K (.int .i64 xs.length) w':=by
 have:=Vals.len (K:=K) (w':=w') h a ty;rwa[X0] at this
theorem Ints.iaddr (h:Ints F w v xs) {t:TypeId} (c:elB P t 1=true) {kd:IntKind} {i:Int} (a:0<=i) (b:i<xs.length):
  zj P t v (.int kd i) w' K=K (.pointer (some (eaddr v 1 i.toNat))) w':=Vals.iaddr h c a (by rw[X0];exact b)
theorem qO0 {i:Nat} (a:i<xs.length):(xs.map λx=>Value.int .i64 x).getD i undef= .int .i64 (xs.getD i 0):=by
 simp[q0,a]
theorem Ints.load (h:Ints F w v xs) {e:TypeId} (he:oneB P e=true) {i:Nat} (a:i<xs.length):zf P e (.pointer (some (eaddr v 1 i))) w K=K (.int .i64 (xs.getD i 0)) w:=by
 rw[Vals.load h he (by rw[X0];exact a),qO0 a]
theorem Bools.ext (h:Bools F w v bs) (hw:Ext w w'):Bools F w' v bs:=Vals.ext h hw
theorem Bools.same (h:Bools F w v bs) (hw:Same S w w') (hs:∀b,F b->b<w.heap.size->¬S b):Bools F w' v bs:=Vals.same h hw hs
theorem Bools.len (h:Bools F w v bs) {t:TypeId} (a:isSl P t=true) (ty:TypeId):vbi P .len [t] ty [v] w' K=K (.int .i64 bs.length) w':=by
 have:=Vals.len (K:=K) (w':=w') h a ty;rwa[X0] at this
theorem Bools.iaddr (h:Bools F w v bs) {t:TypeId} (c:elB P t 1=true) {kd:IntKind} {i:Int} (a:0<=i) (b:i<bs.length):
  zj P t v (.int kd i) w' K=K (.pointer (some (eaddr v 1 i.toNat))) w':=Vals.iaddr h c a (by rw[X0];exact b)
theorem Bools.load (h:Bools F w v bs) {e:TypeId} (he:oneB P e=true) {i:Nat} (a:i<bs.length):zf P e (.pointer (some (eaddr v 1 i))) w K=K (.bool (bs.getD i false)) w:=by
 rw[Vals.load h he (by rw[X0];exact a)];simp[q0,a]
theorem Lists.ext (h:Lists F w v xss) (hw:Ext w w'):Lists F w' v xss:=by
 obtain⟨vs,b,c,a⟩:=h;exact⟨vs,b,c.ext hw,λi h=>(a i h).ext hw⟩
theorem Lists.same (h:Lists F w v xss) (hw:Same S w w') (hs:∀b,F b->b<w.heap.size->¬S b):Lists F w' v xss:=by
 obtain⟨vs,c,d,a⟩:=h;exact⟨vs,c,d.same hw hs,λi h=>(a i h).same hw hs⟩
theorem Lists.weaken (h:Lists F w v xss) (a:∀b,F b->b<w.heap.size->F' b):Lists F' w v xss:=by
 obtain⟨vs,d,e,c⟩:=h;exact⟨vs,d,e.weaken a,λi h=>(c i h).weaken a⟩
def FnB (P:Program) (w0:World) (f:Value) (args:Array Value) (b:Bool):Prop:=
 ∀(w':World) (K:Value->World->Prop),Ext w0 w'->(∀w'',Ext w' w''->K (.bool b) w'')->vcallv P f args w' K
def idxI (n:Nat) (p:Nat->Bool):Int:=match(List.range n).find? p with|some i=>i|none=> -1
theorem idxI_some {n i:Nat} {p:Nat->Bool} (d:i<n) (c:p i=true) (b:∀j,j<i->p j=false):idxI n p=i:=by
 have:(List.range n).find? p=some i:=by
  rw[Pz];refine⟨c,List.range i,(List.range' (i+1) (n-(i+1))),?_,λj a=>by simp[b j (gr.1 a)]⟩;rw[pD,pD,show n=i+(n-(i+1)+1) from by omega,<-List.range'_append_1,List.range'_succ];simp;omega
 simp[idxI,this]
theorem qP0 {n:Nat} {p:Nat->Bool} (b:∀j,j<n->p j=false):idxI n p= -1:=by
 have:(List.range n).find? p=none:=by rw[G3];intro j a;simp[b j (gr.1 a)]
 simp[idxI,this]
theorem UR {n:Nat} {p:Nat->Bool}:decide (0<=idxI n p)=(List.range n).any p:=by
 unfold idxI;cases h:(List.range n).find? p with
 |none=>
  rw[G3] at h;have:(List.range n).any p=false:=by rw[pU];exact h
  simp[this]
 |some i=>
  have a:=z0b h;have b:=Pa h;have:(List.range n).any p=true:=G4.2 ⟨i,b,a⟩;simp[this]
end
end
section
def elZ (P:Program) (t k bs:Nat):Bool:=match P.underlying t with
 |some (.slice e)=>match P.info? e with
  |some i=>Nat.beq i.size k&&Nat.beq i.bytes bs&&(match i.zero with|some z=>Nat.beq z.cells.size k|none=>false)
  |none=>false
 |_=>false
def Wp (P:Program) (t:TypeId):TypeId:=match P.underlying t with|some (.slice e)=>e|_=>0
theorem Qh0 {P:Program} {t k bs:Nat} (h:elZ P t k bs=true):P.underlying t=some (.slice (Wp P t))/\∃i z,P.info? (Wp P t)=some i/\i.zero=some z/\i.size=k/\i.bytes=bs/\z.cells.size=k:=by
 unfold elZ at h;unfold Wp;split at h
 ·rename_i e hu;rw[hu];refine⟨rfl,?_⟩;split at h
  ·rename_i i d;simp only[K3] at h;obtain⟨⟨b,c⟩,a⟩:=h;split at a
   ·rename_i z f;exact⟨i,z,d,f,gp b,gp c,gp a⟩
   ·cases a
  ·cases h
 ·cases h
structure Own (P:Program) (base k:Nat) (t:TypeId) (w:World) (v:Value) (xs:List (List Value)):Prop where
 row:w.ownsRow base (Wp P t) k v xs.length xs.flatten
 wide:∀x,x∈xs->x.length=k
theorem flatten_len {k:Nat}:∀{xs:List (List Value)},(∀x,x∈xs->x.length=k)->xs.flatten.length=xs.length*k
 |[],_=>by simp
 |x::r,h=>by
  rw[GD,k6,h x V0,flatten_len λy a=>h y (gh _ a),gw,G7];omega
theorem flatten_get {k:Nat}:∀{xs:List (List Value)} (_:∀x,x∈xs->x.length=k) {i j:Nat},i<xs.length->j<k->xs.flatten[i*k+j]?=(xs.getD i [])[j]?
 |[],_,i,j,a,_=>by simp at a
 |x::r,h,i,j,a,b=>by
  have d:=h x V0;rw[GD];cases i with
  |zero=>rw[P8,gS,gy oM];simp
  |succ i=>
   rw[gO (by rw[G7];omega)];have e:(i+1)*k+j-x.length=i*k+j:=by rw[G7];omega
   rw[e,flatten_get (λy c=>h y (gh _ c)) (by simpa using a) b];simp
theorem flat1:∀(cs:List Value),(cs.map λx=>[x]).flatten=cs
 |[]=>rfl
 |c::cs=>by rw[gU,GD,flat1 cs];rfl
section
variable {P:Program} {base k:Nat} {t:TypeId} {w w':World} {v:Value} {xs ys:List (List Value)} {K:Value->World->Prop}
theorem Own.nil (P:Program) (base k:Nat) (t:TypeId) (w:World):Own P base k t w (.slice none 0 0) []:=⟨World.ownsRow_nil w base _ k,λx a=>by cases a⟩
theorem Own.lt (h:Own P base k t w v xs) {b:Nat} (a:v.ownBlock=some b):base<=b/\b<w.heap.size:=h.row.lt b a
theorem Own.same {S:Nat->Prop} (h:Own P base k t w v xs) (hw:Same S w w') (hs:∀b,v.ownBlock=some b->¬S b):Own P base k t w' v xs:=by
 refine⟨⟨h.row.1,?_⟩,h.wide⟩;rcases h.row.2 with d|⟨g,cap,cur,rfl,c,a,rest⟩
 ·exact .inl d
 ·exact .inr ⟨g,cap,cur,rfl,c,(hw.block g (gB.1 a).1 (hs g rfl)).trans a,rest⟩
theorem Own.ext (h:Own P base k t w v xs) (hw:Ext w w'):Own P base k t w' v xs:=h.same hw λ_ _ h=>h
theorem Own.sl (h:Own P base k t w v xs):Sl (λb=>v.ownBlock=some b) w k v xs:=by
 refine⟨?_,h.wide⟩;rcases h.row.2 with⟨rfl,m⟩|⟨g,cap,cur,rfl,r,o,d,a,n,f⟩
 ·exact⟨none,0,by rw[m],oM,oM,λe=>absurd (gC m) e⟩
 ·refine⟨_,cap,rfl,d,by simpa[maxLen] using a,λ_=>⟨g,0,rfl,rfl,(gB.1 o).1,λi c j u hu=>?_⟩⟩;have p:j<k:=by
   have q:xs.getD i []∈xs:=by rw[q0,Q1 c];exact Gm c
   have:=h.wide _ q;rw[<-this];exact(Gv.1 hu).1
  have l:=flatten_get h.wide c p;rw[hu] at l;have:=h.row.cells (g:=g) rfl (i*k+j) u l;rw[xU] at this⊢;rwa[gS] at this⊢
theorem Same.of_grown {row:Option Nat} (h:w.grownBy w' row):Same (λb=>row=some b) w w':=
 ⟨h.os,h.tape,h.output,h.size,λb a hs=>h.block b a (λe=>hs e.symm)⟩
theorem vappend {bs ty:Nat} {F:Nat->Prop} {x:Value} (hT:elZ P t k bs=true) (hk:0<k) (h:Own P base k t w v xs) (hs:Sl F w k x ys) (L:∀y,y∈ys->∀c,c∈y->c.oneCell'=true)
  (C:base<=w.heap.size) (N:xs.length+ys.length<=9223372036854775807) (hlen:(xs.length+ys.length)*bs<=140737488355328)
  (O:∀v' w',Own P base k t w' v' (xs++ys)->Same (λb=>v.ownBlock=some b) w w'->(∀b,v'.ownBlock=some b->v.ownBlock=some b\/w.heap.size<=b)->K v' w'):vbi P .append [t,t] ty [v,x] w K:=by
 obtain⟨hu,i,z,s,Y,M,D,Z⟩:=Qh0 hT;obtain⟨a,c,rfl,a0,a1,n⟩:=hs.shape;have r:∀y,y∈xs++ys->y.length=k:=λy W=>(gj.1 W).elim (h.wide y) (hs.wide y);by_cases p:ys=[]
 ·subst p;have e:Own P base k t w v (xs++[]):=by rw[gD];exact h
  rcases h.row.2 with⟨rfl,hn⟩|⟨g,cap,cur,rfl,R,hg,J,E,G,q⟩
  ·refine⟨_,_,?_,O _ w e (Same.refl _ w) λb C=> .inl C⟩;cases a<;>simp[biSem,Builtin.append_,qW hu,sizeOf,typeInfo,program,s,Sem.run,Builtin.lenOf,Builtin.firstCells,loadCells,loadCellsFrom]
  ·refine⟨_,_,?_,O _ w e (Same.refl _ w) λb C=> .inl C⟩;cases a<;>simp[biSem,Builtin.append_,qW hu,sizeOf,typeInfo,program,s,Sem.run,Builtin.lenOf,Builtin.firstCells,loadCells,loadCellsFrom,storeCells,J]
 ·obtain⟨b,o,rfl,_,a2,S⟩:=n p;have d:∀j u,ys.flatten[j]?=some u->w.cell? ((⟨b,o,none⟩:Addr).add j)=some u:=by
   intro j u I;have U:j<ys.length*k:=by rw[<-flatten_len hs.wide];exact(Gv.1 I).1
   have hq:j/k<ys.length:=Nat.div_lt_of_lt_mul (by rwa[PI] at U);have A:j%k<k:=Pg _ hk;have hj:j/k*k+j%k=j:=Nat.div_add_mod' j k;have hf:=flatten_get hs.wide hq A;rw[hj,I] at hf;have:=S _ hq _ _ hf.symm;rw[xU] at this⊢;rwa[Px,hj] at this
  have h1:∀u∈ys.flatten,u.oneCell'=true:=by
   intro u V;obtain⟨y,W,hc⟩:=P4.1 V;exact L y W u hc
  obtain⟨v',w',A,e,T,_⟩:=run_append_own (P:=P) w base t ty (Wp P t) i z k bs hu s Y M D Z hk v xs.length xs.flatten h.row ⟨b,o,none⟩ ys.length c ys.flatten (flatten_len hs.wide) d h1
   (by simpa[maxLen] using N) hlen C
  refine⟨v',w',A,O v' w' ⟨?_,r⟩ (Same.of_grown T) ?_⟩
  ·rw[k6,pK];exact e
  ·have X:0<ys.length:=gG.2 p;have m:=flatten_len hs.wide;subst M D;rcases h.row.2 with⟨rfl,hn⟩|⟨g,cap,cur,rfl,R,hg,J,E,G,q⟩
   ·have f:=run_append_nil (P:=P) w t ty (Wp P t) i z hu s Y ⟨b,o,none⟩ ys.length c ys.flatten m d X oM (by have Q:=hlen;rw[hn,gS] at Q;omega);obtain⟨rfl,-⟩:=Result.ok.inj (A.symm.trans f);rintro b' B;exact .inr (by cases B;exact gq _)
   ·by_cases l:xs.length+ys.length<=cap
    ·have H:xs.length*i.size+ys.flatten.length<=cur.size:=by rw[m,G,<-G7];exact pX _ l
     have f:=run_append_room (P:=P) w t ty (Wp P t) i hu s g xs.length cap cur hg ⟨b,o,none⟩ ys.length c ys.flatten m d h1 l H;obtain⟨rfl,-⟩:=Result.ok.inj (A.symm.trans f);exact λb' B=> .inl B
    ·have f:=run_append_grow (P:=P) w t ty (Wp P t) i z hu s Y ⟨g,0,none⟩ xs.length cap xs.flatten h.row.1 (h.row.cells (g:=g) rfl) ⟨b,o,none⟩ ys.length c ys.flatten m d oM oM (growslice_fits oM hlen);obtain⟨rfl,-⟩:=Result.ok.inj (A.symm.trans f);rintro b' B;exact .inr (by cases B;exact gq _)
theorem yK {e:TypeId} {x z:Value} (hu:P.underlying t=some (.slice e)) (f:jC P e 1=true) (hzero:xh P e z) (a:z.cells= #[z]) (d:x.cells= #[x])
  (c:∀b w',b=w.heap.size->Ext w w'->w'.heap.size=w.heap.size+1->Blk w' b [x] e->K (.slice (some ⟨b,0,none⟩) 1 1) w'):vbuildS P t 1 [(0,x)] w K:=by
 refine⟨_,_,?_,c w.heap.size {w with heap:=w.heap.push (.cells ⟨[x]⟩ e)} rfl (ext_push w _) (by simp) (y90 w _ e)⟩;simp[Instr.buildSlice,qW hu,run_sizeOf f,Wj hzero,a,Instr.fill,d,newRow,newObj,Sem.run];refine congrArg (λl=>w.alloc (Obj.cells l e)) (GJ.1 ?_);simp[PB]
theorem qC {e d:Nat} (hu:P.underlying t=some (.slice e)) (c:jC P e d=true)
  (a:∀b w',b=w.heap.size->Ext w w'->w'.heap.size=w.heap.size+1->Blk w' b [] e->K (.slice (some ⟨b,0,none⟩) 0 0) w'):vbuildS P t 0 [] w K:=by
 refine⟨_,_,?_,a w.heap.size {w with heap:=w.heap.push (.cells ⟨[]⟩ e)} rfl (ext_push w _) (by simp) (y90 w _ e)⟩;simp[Instr.buildSlice,qW hu,run_sizeOf c,Instr.fill,newRow,newObj,Sem.run];refine congrArg (λl=>w.alloc (Obj.cells l e)) (GJ.1 ?_);simp
theorem Blk.sl1 {b n:Nat} {cs:List Value} {e:TypeId} (h:Blk w b cs e) (d:n=cs.length) (hm:n<=9223372036854775807):Sl (· =b) w 1 (.slice (some ⟨b,0,none⟩) n n) (cs.map λx=>[x]):=by
 subst d;refine⟨⟨_,cs.length,by simp,by simp,by simpa using hm,λ_=>⟨b,0,rfl,rfl,h.lt,λi c j v a=>?_⟩⟩,by simp⟩;simp only[X0] at c;have:j=0/\cs[i]?=some v:=by
  simp only[q0,Gk] at a;rw[Q1 c] at a⊢;cases j with
  |zero=>simp at a;simp[a]
  |succ j=>simp at a
 obtain⟨rfl,f⟩:=this;rw[xU];simp only[pL,gS,pg];exact h.cell f
theorem Blk.own1 {b n c:Nat} {cs:List Value} (h:Blk w b cs (Wp P t)) (a:base<=b) (e:n=cs.length) (d:c=cs.length) (hm:n<=9223372036854775807):Own P base 1 t w (.slice (some ⟨b,0,none⟩) n c) (cs.map λx=>[x]):=by
 subst e d;refine⟨⟨by simp[flatten_len (k:=1) (xs:=cs.map λx=>[x]) (by simp)],.inr ⟨b,cs.length,⟨cs⟩,by simp,a,h,by simp,by simpa[maxLen] using hm,by simp,?_⟩⟩,by simp⟩;rw[flat1];simp
end
end
section
def OwnV (P:Program) (t:TypeId) (w:World) (v:Value) (vs:List Value):Prop:=Own P 0 1 t w v (vs.map λx=>[x])
def OwnI (P:Program) (t:TypeId) (w:World) (v:Value) (xs:List Int):Prop:=OwnV P t w v (xs.map λx=> .int .i64 x)
def OwnB (P:Program) (t:TypeId) (w:World) (v:Value) (xs:List Bool):Prop:=OwnV P t w v (xs.map λx=> .bool x)
section
variable {P:Program} {t:TypeId} {w w':World} {v:Value} {vs:List Value} {xs:List Int} {bs:List Bool} {K:Value->World->Prop} {F S:Nat->Prop}
theorem OwnV.nil:OwnV P t w (.slice none 0 0) []:=Own.nil P 0 1 t w
theorem OwnI.nil:OwnI P t w (.slice none 0 0) []:=OwnV.nil
theorem OwnV.lt (h:OwnV P t w v vs) {b:Nat} (a:v.ownBlock=some b):b<w.heap.size:=(Own.lt h a).2
theorem OwnI.lt (h:OwnI P t w v xs) {b:Nat} (a:v.ownBlock=some b):b<w.heap.size:=OwnV.lt h a
theorem OwnV.same (h:OwnV P t w v vs) (hw:Same S w w') (hs:∀b,v.ownBlock=some b->¬S b):OwnV P t w' v vs:=Own.same h hw hs
theorem OwnI.same (h:OwnI P t w v xs) (hw:Same S w w') (hs:∀b,v.ownBlock=some b->¬S b):OwnI P t w' v xs:=OwnV.same h hw hs
theorem OwnV.ext (h:OwnV P t w v vs) (hw:Ext w w'):OwnV P t w' v vs:=Own.ext h hw
theorem OwnI.ext (h:OwnI P t w v xs) (hw:Ext w w'):OwnI P t w' v xs:=OwnV.ext h hw
theorem OwnB.ext (h:OwnB P t w v bs) (hw:Ext w w'):OwnB P t w' v bs:=OwnV.ext h hw
theorem OwnV.vals (h:OwnV P t w v vs):Vals (λb=>v.ownBlock=some b) w v vs:=Own.sl h
theorem OwnI.ints (h:OwnI P t w v xs):Ints (λb=>v.ownBlock=some b) w v xs:=OwnV.vals h
theorem OwnB.bools (h:OwnB P t w v bs):Bools (λb=>v.ownBlock=some b) w v bs:=OwnV.vals h
theorem OwnV.small (h:OwnV P t w v vs):vs.length<=9223372036854775807:=by
 obtain⟨_,_,_,a,b,_⟩:=h.vals.shape;simp at a;omega
theorem OwnI.small (h:OwnI P t w v xs):xs.length<=9223372036854775807:=by have:=OwnV.small h;simpa using this
theorem OwnV.app {bs ty:Nat} {y:Value} {us:List Value} (h:OwnV P t w v vs) (k:elZ P t 1 bs=true) (hs:Vals F w y us) (a:∀u,u∈us->u.oneCell'=true)
  (d:vs.length+us.length<=9223372036854775807) (hlen:(vs.length+us.length)*bs<=140737488355328)
  (j:∀v' w',OwnV P t w' v' (vs++us)->Same (λb=>v.ownBlock=some b) w w'->(∀b,v'.ownBlock=some b->v.ownBlock=some b\/w.heap.size<=b)->K v' w'):vbi P .append [t,t] ty [v,y] w K:=by
 refine vappend k dC h hs (λy l c e=>?_) oM (by simpa using d) (by simpa using hlen) λv' w' f g i=>j v' w' ?_ g i
 ·obtain⟨u,hu,rfl⟩:=gk.1 l;rw[gn] at e;subst e;exact a _ hu
 ·unfold OwnV;rw[gu];exact f
theorem OwnV.app1 {bs ty b:Nat} {x:Value} {e:TypeId} (h:OwnV P t w v vs) (f:elZ P t 1 bs=true) (g:Blk w b [x] e) (a:x.oneCell'=true)
  (c:vs.length<9223372036854775807) (hlen:(vs.length+1)*bs<=140737488355328)
  (d:∀v' w',OwnV P t w' v' (vs++[x])->Same (λb=>v.ownBlock=some b) w w'->(∀b,v'.ownBlock=some b->v.ownBlock=some b\/w.heap.size<=b)->K v' w'):vbi P .append [t,t] ty [v,.slice (some ⟨b,0,none⟩) 1 1] w K:=
 h.app f (F:=(· =b)) (us:=[x]) (g.sl1 rfl oM) (by simpa using a) (by simp;omega) (by simpa using hlen) d
theorem OwnI.app1 {bs ty b:Nat} {x:Int} {e:TypeId} (h:OwnI P t w v xs) (f:elZ P t 1 bs=true) (g:Blk w b [.int .i64 x] e)
  (a:xs.length<9223372036854775807) (hlen:(xs.length+1)*bs<=140737488355328)
  (d:∀v' w',OwnI P t w' v' (xs++[x])->Same (λb=>v.ownBlock=some b) w w'->(∀b,v'.ownBlock=some b->v.ownBlock=some b\/w.heap.size<=b)->K v' w'):vbi P .append [t,t] ty [v,.slice (some ⟨b,0,none⟩) 1 1] w K:=
 OwnV.app1 h f g rfl (by simpa using a) (by simpa using hlen) λv' w' c=>d v' w' (by unfold OwnI;rw[gu];exact c)
theorem OwnI.app {bs ty:Nat} {y:Value} {ys:List Int} (h:OwnI P t w v xs) (e:elZ P t 1 bs=true) (hs:Ints F w y ys)
  (a:xs.length+ys.length<=9223372036854775807) (hlen:(xs.length+ys.length)*bs<=140737488355328)
  (d:∀v' w',OwnI P t w' v' (xs++ys)->Same (λb=>v.ownBlock=some b) w w'->(∀b,v'.ownBlock=some b->v.ownBlock=some b\/w.heap.size<=b)->K v' w'):vbi P .append [t,t] ty [v,y] w K:=
 OwnV.app h e hs (by simp[Value.oneCell']) (by simpa using a) (by simpa using hlen) λv' w' c=>d v' w' (by unfold OwnI;rw[gu];exact c)
theorem OwnV.st (h:OwnV P t w v vs) {e:TypeId} {x:Value} (D:x.cells= #[x]) (n:x.oneCell'=true) (F:jC P e 1=true) {i:Nat} (l:i<vs.length)
  (o:∀w',OwnV P t w' v (vs.set i x)->Same (λb=>v.ownBlock=some b) w w'->w'.heap.size=w.heap.size->K undef w'):zm P e (.pointer (some (eaddr v 1 i))) x w K:=by
 rcases h.row.2 with⟨rfl,B⟩|⟨g,cap,cur,rfl,q,G,C,s,z,k⟩
 ·rw[X0] at B;omega
 ·have a:=h.row;have f:i<(vs.map λx=>[x]).length*1:=(by simpa using l);have r:=World.ownsRow.cellAt a i f;have A:=World.ownsRow.frozenAt a i;obtain⟨d,j⟩:=World.ownsRow.stored a i x;have c:w.cell? ⟨g,i,none⟩=some (vs.getD i undef):=by rw[r,flat1];simp[q0,l]
  have p:(⟨g,i,none⟩:Addr).add 0=⟨g,i,none⟩:=rfl;have he:eaddr (.slice (some ⟨g,0,none⟩) (vs.map λx=>[x]).length cap) 1 i=⟨g,i,none⟩:=by
   simp only[eaddr];simp
  rw[he];refine⟨(),w.setCell ⟨g,i,none⟩ x,?_,o _ ?_ (Same.of_grown j) (by simp)⟩
  ·simp only[Instr.storeAt,Instr.sureAddr,Sem.run_bind,Sem.run_pure,Result.andThen_ok,storeVar,run_sizeOf F,D];cases x<;>first|(cases n;done)|simp[storeCells,store,Sem.run,p,c,A]
  ·refine⟨?_,λy E=>by obtain⟨u,_,rfl⟩:=gk.1 E;rfl⟩;rw[flat1] at d;have m:((vs.set i x).map λx=>[x]).flatten=vs.set i x:=flat1 _;rw[m];simpa using d
theorem OwnI.st (h:OwnI P t w v xs) {e:TypeId} {x:Int} (f:jC P e 1=true) {i:Nat} (d:i<xs.length)
  (c:∀w',OwnI P t w' v (xs.set i x)->Same (λb=>v.ownBlock=some b) w w'->w'.heap.size=w.heap.size->K undef w'):zm P e (.pointer (some (eaddr v 1 i))) (.int .i64 x) w K:=
 OwnV.st h rfl rfl f (by simpa using d) λw' a=>c w' (by unfold OwnI;rw[pY];exact a)
theorem OwnB.st (h:OwnB P t w v bs) {e:TypeId} {x:Bool} (f:jC P e 1=true) {i:Nat} (d:i<bs.length)
  (c:∀w',OwnB P t w' v (bs.set i x)->Same (λb=>v.ownBlock=some b) w w'->w'.heap.size=w.heap.size->K undef w'):zm P e (.pointer (some (eaddr v 1 i))) (.bool x) w K:=
 OwnV.st h rfl rfl f (by simpa using d) λw' a=>c w' (by unfold OwnB;rw[pY];exact a)
theorem zJ0 {k:Nat} (h:elB P t k=true):P.underlying t=some (.slice (P.elem t))/\jC P (P.elem t) k=true:=by
 obtain⟨e,hu,hs⟩:=Wx0 h;have:P.elem t=e:=by simp[Program.elem,hu]
 rw[this];exact⟨hu,hs⟩
def cutV (v:Value) (n:Nat):Value:=match v with
 | .slice a _ c=> .slice a n c
 |x=>x
theorem Sl.cut {k:Nat} {v:Value} {xs:List (List Value)} (h:Sl F w k v xs) (g:∀a l c,v= .slice (some a) l c->∃b o,a=⟨b,o,none⟩) (f:elB P t k=true) {kd:IntKind} {n:Nat} (j:n<=xs.length):
  yY P t v none (some (.int kd n)) none w' K=K (cutV v n) w':=by
 obtain⟨hu,hs⟩:=zJ0 f;obtain⟨a,c,rfl,i,e,d⟩:=h.shape;refine yU ?_;rw[run_sliceAt_slice w' t _ _ _ _ hu,run_slice_h w' t _ _ _ hu kd n oM oM,run_sizeOf hs];cases a with
 |none=>simp[Result.andThen,sliced,cutV]
 |some a=>
  obtain⟨b,o,rfl⟩:=g _ _ _ rfl;simp[Result.andThen,sliced,cutV];exact λ_=>rfl
theorem OwnV.cut (h:OwnV P t w v vs) (o:elB P t 1=true) {kd:IntKind} {n:Nat} (k:n<=vs.length):yY P t v none (some (.int kd n)) none w' K=K (cutV v n) w':=by
 refine Sl.cut h.vals ?_ o (by simpa using k);rintro a l c e;rcases h.row.2 with⟨rfl,s⟩|⟨g,cap,cur,rfl,f,r,m,i,j,d⟩
 ·cases e
 ·injection e with b p q
  injection b with b
  exact⟨g,0,b.symm⟩
theorem jB (v:Value) (n:Nat):(cutV v n).ownBlock=v.ownBlock:=by
 unfold cutV;split
 ·rename_i a l c;cases a<;>rfl
 ·rfl
theorem OwnV.taken (h:OwnV P t w v vs) {n:Nat} (f:n<=vs.length):OwnV P t w (cutV v n) (vs.take n):=by
 rcases h.row.2 with⟨rfl,l⟩|⟨g,cap,cur,rfl,c,j,i,d,e,a⟩
 ·rw[X0] at l;have:n=0:=oM;subst this;rw[z0h];exact OwnV.nil
 ·refine⟨⟨by rw[flat1,X0,pL],.inr ⟨g,cap,cur,by simp[cutV,Gh f],c,j,?_,d,e,?_⟩⟩,λy k=>by obtain⟨u,_,rfl⟩:=gk.1 k;rfl⟩
  ·rw[X0] at i⊢;simp;omega
  ·have b:=a;rw[flat1] at b⊢;rw[X0] at b;simp only[X0,gi,Gh f,pL] at b⊢;rw[<-b,GI,Gh f]
theorem OwnI.cut (h:OwnI P t w v xs) (b:elB P t 1=true) {kd:IntKind} {n:Nat} (a:n<=xs.length):yY P t v none (some (.int kd n)) none w' K=K (cutV v n) w':=
 OwnV.cut h b (by simpa using a)
theorem OwnI.taken (h:OwnI P t w v xs) {n:Nat} (a:n<=xs.length):OwnI P t w (cutV v n) (xs.take n):=by
 unfold OwnI;rw[GK];exact OwnV.taken h (by simpa using a)
theorem vmkS_own {bs n:Nat} {z:Value} {r s:IntKind} {e:TypeId} (v:elZ P t 1 bs=true) (he:Wp P t=e) (d:xh P e z) (p:z.cells= #[z]) (g:bs*n<=281474976710656) (k:n<=9223372036854775807)
  (u:∀v' w',OwnV P t w' v' (List.replicate n z)->Ext w w'->(∀b,v'.ownBlock=some b->w.heap.size<=b)->K v' w'):Wo0 P t (.int r n) (.int s n) w K:=by
 obtain⟨hu,i,f,q,c,o,l,A⟩:=Qh0 v;subst he;have:f=z:=by
  unfold xh at d;rw[q] at d;simp only[c,gV] at d;exact d
 subst this;subst l;obtain⟨w',y,a,m⟩:=run_make_full (P:=P) w 0 t (Wp P t) i f 1 hu q c o r s n g (by simpa[maxLen] using k) oM;refine⟨_,w',y,u _ w' ?_ ((Same.of_grown m).mono λ_ _ h=>by cases h) λb x=>by cases x;exact gq _⟩;have e:(madeCells f.cells (n*1)).toList=List.replicate n f:=by
  refine Ge (by simp[madeCells]) λj B C=>?_;simp[madeCells,p,Nat.mod_one]
 rw[e] at a;refine⟨?_,by simp⟩;rw[flat1];simpa using a
end
end
section
def strF (P:Program) (t:TypeId):Option (List (Nat×Nat)×List Value):=
 match P.underlying t,P.info? t with
 |some (.struct fs),some i=>
  match fs.toList.mapM (λf=>(P.info? f.type).map λj=>(f.offset,j.size)),i.zero with
  |some pl,some z=>some (pl,z.cells.toList)
  |_,_=>none
 |_,_=>none
def setL (cs:List Value) (o:Nat):List Value->List Value
 |[]=>cs
 |c::r=>setL (cs.set o c) (o+1) r
def fillC (pl:List (Nat×Nat)) (cs:List Value):List Nat->List (List Value)->Option (List Value)
 |[],[]=>some cs
 |i::is,u::us=>
  match pl[i]? with
  |none=>none
  |some (o,s)=>if Nat.beq u.length s&&Nat.ble (o+s) cs.length then fillC pl (setL cs o u) is us else none
 |_,_=>none
section
variable {P:Program} {t:TypeId} {w:World} {K:Value->World->Prop}
theorem foldl_set (us:List Value):∀(cs:List Value) (o k:Nat),((us.zipIdx k).foldl (λ(cs:Array Value) (c,j)=>cs.setIfInBounds (o+j) c) ⟨cs⟩)=⟨setL cs (o+k) us⟩:=by
 induction us with
 |nil=>intro cs o k;rfl
 |cons u r a=>
  intro cs o k;rw[List.zipIdx_cons,z0c];simp only[List.setIfInBounds_toArray,setL];rw[a,Px]
theorem fill_eq {pl:List (Nat×Nat)}:∀{ps:List (Nat×Value)} {us:List (List Value)} {zs cs:List Value},ps.map (λp=>p.2.cells)=us.map List.toArray->fillC pl zs (ps.map (·.1)) us=some cs->
  Instr.fill (pl.toArray[·]?) ⟨zs⟩ ps=some ⟨cs⟩
 |[],[],zs,cs,_,h=>by simp only[Pm,fillC,gV] at h;rw[h];rfl
 |[],u::us,_,_,h,_=>by cases h
 |p::ps,[],_,_,h,_=>by cases h
 |(i,v)::ps,u::us,zs,cs,c,h=>by
  simp only[gU,Gg] at c;simp only[gU,fillC] at h;unfold Instr.fill;simp only[Pr];split at h
  ·cases h
  ·rename_i o s f;rw[f];simp only;split at h
   ·rename_i b;rw[K3] at b;have d:=gp b.1;have g:=Gi b.2;have e:=c.1;simp only[e];have a:(decide ((List.toArray u).size≠s)||decide (o+(List.toArray u).size>(List.toArray zs).size))=false:=by simp[d];omega
    rw[a];simp only[gF,if_false];rw[<-PL,Array.toList_zipIdx,foldl_set,pg];have:=fill_eq c.2 h;simpa only[Pr] using this
   ·cases h
theorem yM0 {pl:List (Nat×Nat)} {ps:List (Nat×Value)} {us:List (List Value)} {zs cs:List Value} (h:strF P t=some (pl,zs)) (e:ps.map (λp=>p.2.cells)=us.map List.toArray)
  (b:fillC pl zs (ps.map (·.1)) us=some cs) (a:K (.agg ⟨cs⟩) w):zD P t ps w K:=by
 refine⟨_,w,run_build (P:=P) w t ⟨ps⟩ ⟨cs⟩ ?_,a⟩;unfold strF at h;split at h
 ·rename_i fs i hu c;split at h
  ·rename_i g z d f;simp only[gV,GF] at h;obtain⟨rfl,rfl⟩:=h;simp only[Program.built,hu,c,f,d];exact fill_eq e b
  ·cases h
 ·cases h
theorem Blk.stAgg {b:Nat} {cs cs':List Value} {t0:TypeId} (h:Blk w b cs t0) (a:cs'.length=cs.length) (i:aggB P t cs'.length=true) (d:∀v,v∈cs'->v.oneCell'=true)
  (f:∀w',Same (· =b) w w'->w'.heap.size=w.heap.size->Blk w' b cs' t0->K undef w'):zm P t (.pointer (some ⟨b,0,none⟩)) (.agg ⟨cs'⟩) w K:=by
 have c:=run_storeCells_at (P:=P) b 0 t0 cs' 0 ⟨cs⟩ w h (by simp[a]) d;refine⟨(),_,?_,f (w.setRow b (cs'.toArray)) ⟨rfl,rfl,rfl,by simp,λk _ g=>setRow_other w b k _ g⟩ (by simp) (setRow_heap w b _ _ t0 _ h)⟩;simp only[Instr.storeAt,Instr.sureAddr,Sem.run_bind,Sem.run_pure,Result.andThen_ok,storeVar,Yx i,Value.cells];simp only[G9,ne_eq,not_true_eq_false,if_false];have e:(cs.take (0+0)++cs'++cs.drop (0+0+cs'.length))=cs':=by rw[a];simp
 simp only[e] at c;exact c
theorem yN0 {c:Bool} {a:Option Addr} {l k:Nat} (h:isSl P t=true):zq P .eql t c (.slice a l k) (.slice none 0 0) w K=K (.bool a.isNone) w:=by
 obtain⟨e,he⟩:=Zl0 h;refine xc ?_ ?_
 ·simp[eqG,eqGuard]
 ·simp[binOp,run_equal_slice_nil w t e a l k he,Result.andThen]
theorem Sl.cells1 {F:Nat->Prop} {k:Nat} {v:Value} {xs:List (List Value)} (h:Sl F w k v xs):v.cells= #[v]:=by
 obtain⟨a,c,rfl,_⟩:=h.shape;rfl
theorem Sl.one {F:Nat->Prop} {k:Nat} {v:Value} {xs:List (List Value)} (h:Sl F w k v xs):v.oneCell'=true:=by
 obtain⟨a,c,rfl,_⟩:=h.shape;rfl
end
end
end Go.Vc
namespace Go.Vc
open Go Go.MapKept
section
def ISet (w:World) (b:Nat) (ks:List Int):Prop:=
 ∃es clock,w.heap[b]?=some (.map es clock)/\Stamped es clock/\es.toList.map (·.key)=ks.map λk=>Value.int .i64 k
def imapB (P:Program) (t:TypeId):Bool:=match P.underlying t with
 |some (.map kt _)=>(match P.underlying kt with|some (.int .i64)=>true|_=>false)
 |_=>false
section
variable {P:Program} {t:TypeId} {w w':World} {K:Value->World->Prop} {b:Nat} {ks:List Int} {S:Nat->Prop}
theorem Zm0 (h:imapB P t=true):∃kt et,P.underlying t=some (.map kt et)/\P.underlying kt=some (.int .i64):=by
 unfold imapB at h;split at h
 ·rename_i kt et hu;split at h
  ·exact⟨kt,et,hu,by assumption⟩
  ·cases h
 ·cases h
theorem ISet.lt (h:ISet w b ks):b<w.heap.size:=by
 obtain⟨es,cl,a,_⟩:=h;exact(gB.1 a).1
theorem ISet.same (h:ISet w b ks) (hw:Same S w w') (hs: ¬S b):ISet w' b ks:=by
 have a:=h.lt;obtain⟨es,cl,c,r⟩:=h;exact⟨es,cl,(hw.block b a hs).trans c,r⟩
theorem ISet.ext (h:ISet w b ks) (hw:Ext w w'):ISet w' b ks:=h.same hw id
theorem ISet.nodup (h:ISet w b ks):ks.Nodup:=by
 obtain⟨es,cl,f,c,d⟩:=h;have:=c.2.2;rw[d] at this;exact List.Pairwise.of_map _ (λa b h e=>h (by rw[e])) this
theorem qN0 {es:Array MapEntry} (c:es.toList.map (·.key)=ks.map λk=>Value.int .i64 k):∀x∈es.toList,∃k,k∈ks/\x.key= .int .i64 k:=by
 intro x d;have:x.key∈es.toList.map (·.key):=Ga d;rw[c] at this;obtain⟨k,a,b⟩:=gk.1 this;exact⟨k,a,b.symm⟩
theorem j7 (n:Int):IsKey (.int .i64) (.int .i64 n):=by simp[IsKey]
theorem Xw {w:World} {r:Nat} {o o':Obj} (a:w.heap[r]?=some o):Same (· =r) w {w with heap:=w.heap.setIfInBounds r o'}:=
 ⟨rfl,rfl,rfl,by simp,λk _ b=>(heap_set (o':=o') a).2 k b⟩
theorem Vc0 (a:∀b w',b=w.heap.size->ISet w' b []->Ext w w'->K (.map (some b)) w'):Jp0 P t none w K:=by
 refine⟨.map (some w.heap.size),w.alloc (.map #[] 0),?_,a _ _ rfl ⟨#[],0,(heap_alloc w _).1,stamped_empty 0,rfl⟩ ⟨rfl,rfl,rfl,by simp,λk c _=>(heap_alloc w _).2 k c⟩⟩;simp[Instr.makeMap,newObj,Sem.run]
theorem Yr0 {k:Int} {x:Value} (z:imapB P t=true) (h:ISet w b ks)
  (o:∀w',ISet w' b (if k∈ks then ks else ks++[k])->Same (· =b) w w'->w'.heap.size=w.heap.size->K undef w'):ZD P t (.map (some b)) (.int .i64 k) x w K:=by
 obtain⟨kt,et,hm,p⟩:=Zm0 z;obtain⟨es,cl,c,l,i⟩:=h;have s:∀y∈es.toList,IsKey (.int .i64) y.key:=λy a=>by obtain⟨n,_,e⟩:=qN0 i y a;rw[e];exact j7 n
 rcases findNow_spec (j7 k) es.toList 0 s with⟨q,g⟩|⟨j,e,q,g,m⟩
 ·have u:k∉ks:=λf=>by
   have:Value.int .i64 k∈es.toList.map (·.key):=by rw[i];exact Ga f
   obtain⟨y,a,e⟩:=gk.1 this;exact g y a e
  rw[if_neg u] at o;refine⟨(),{w with heap:=w.heap.setIfInBounds b (.map (es.push {key:= .int .i64 k,val:=x,born:=cl}) (cl+1))},?_,o _ ⟨_,_,(heap_set c).1,stamped_push l g,by simp[i]⟩ (Xw c) (by simp)⟩;simp[Instr.mapUpdate,run_underlying hm,MapKept.run_getObj_map c,run_checkKey p (j7 k),run_findKey p q,run_setObj_map _ c,Result.andThen]
 ·have f:k∈ks:=by
   have:e.key∈es.toList.map (·.key):=Ga (G6 g);rw[i,m] at this;obtain⟨n,u,v⟩:=gk.1 this;cases v;exact u
  rw[if_pos f] at o;have d:es[j]?=some e:=(by simpa using g);have A:∀y∈es.toList,es[0+j]?=some y->({y with key:= .int .i64 k,val:=x}:MapEntry).key=y.key:=λy _ a=>by
   rw[gS,d] at a;cases a;exact m.symm
  refine⟨(),{w with heap:=w.heap.setIfInBounds b (.map (es.modify (0+j) λy=>{y with key:= .int .i64 k,val:=x}) cl)},?_,o _ ⟨_,_,(heap_set c).1,stamped_modify l _ _ (λ_ _=>rfl) A,?_⟩ (Xw c) (by simp)⟩
  ·have r:((es[0+j]?).map (·.key)).getD (.int .i64 k)= .int .i64 k:=by rw[gS,d];exact m
   simp only[Instr.mapUpdate,Sem.run_bind,run_underlying hm,MapKept.run_getObj_map c,run_checkKey p (j7 k),run_findKey p q,Result.andThen,r,run_keyThatStays (j7 k),run_setObj_map _ c]
  ·rw[modify_keys _ _ λy a=>by rw[gS,d] at a;cases a;exact m.symm];exact i
theorem map_erase {α β:Type} (f:α->β):∀(l:List α) (j:Nat),(l.eraseIdx j).map f=(l.map f).eraseIdx j
 |[],_=>rfl
 |_::_,0=>rfl
 |x::l,j+1=>by simp[map_erase f l j]
theorem Xm0 {k:Int} {t2 ty:TypeId} (A:imapB P t=true) (h:ISet w b ks)
  (i:∀w',ISet w' b (ks.erase k)->Same (· =b) w w'->w'.heap.size=w.heap.size->K (.tuple #[]) w'):vbi P .delete [t,t2] ty [.map (some b),.int .i64 k] w K:=by
 obtain⟨kt,et,hm,l⟩:=Zm0 A;obtain⟨es,cl,a,d,f⟩:=h;have s:∀y∈es.toList,IsKey (.int .i64) y.key:=λy x=>by obtain⟨n,_,e⟩:=qN0 f y x;rw[e];exact j7 n
 have v:=ISet.nodup ⟨es,cl,a,d,f⟩;rcases findNow_spec (j7 k) es.toList 0 s with⟨o,g⟩|⟨j,e,o,g,z⟩
 ·have B:k∉ks:=λp=>by
   have:Value.int .i64 k∈es.toList.map (·.key):=by rw[f];exact Ga p
   obtain⟨y,x,e⟩:=gk.1 this;exact g y x e
  rw[List.erase_of_not_mem B] at i;refine⟨.tuple #[],{w with heap:=w.heap.setIfInBounds b (.map es cl)},?_,i _ ⟨_,_,(heap_set a).1,d,f⟩ (Xw a) (by simp)⟩;simp[biSem,Builtin.delete_,run_underlying hm,MapKept.run_getObj_map a,run_checkKey l (j7 k),run_findKey l o,run_setObj_map _ a,Result.andThen]
 ·have r:ks[j]?=some k:=by
   have:(es.toList.map (·.key))[j]?=some (.int .i64 k):=by rw[Gk,g];simp[z]
   rw[f,Gk] at this;cases m:ks[j]? with
   |none=>rw[m] at this;cases this
   |some n=>rw[m] at this;simp at this;rw[this]
  have c:ks.erase k=ks.eraseIdx j:=by
   obtain⟨m,q⟩:=Gv.1 r;rw[List.erase_eq_eraseIdx_of_idxOf];rw[<-q];exact v.idxOf_getElem j m
  rw[c] at i;have u:0+j<es.size:=by have:=(Gv.1 g).1;simpa using this
  refine⟨.tuple #[],{w with heap:=w.heap.setIfInBounds b (.map (es.eraseIdxIfInBounds (0+j)) cl)},?_,i _ ⟨_,_,(heap_set a).1,stamped_erase d _,?_⟩ (Xw a) (by simp)⟩
  ·simp only[biSem,Builtin.delete_,Pr,P5,List.getElem?_cons_succ,Sem.run_bind,Sem.run_pure,run_underlying hm,MapKept.run_getObj_map a,run_checkKey l (j7 k),run_findKey l o,run_setObj_map _ a,Result.andThen]
  ·unfold Array.eraseIdxIfInBounds;rw[dif_pos u,Array.toList_eraseIdx,gS,map_erase,f,map_erase]
def IterR (w:World) (r b:Nat) (ks ds:List Int):Prop:=
 ∃es clock seen,w.heap[b]?=some (.map es clock)/\Stamped es clock/\es.toList.map (·.key)=ks.map (λk=>Value.int .i64 k)/\w.heap[r]?=some (.mapIter (some b) clock seen clock)/\ds.Nodup/\(∀k,k∈ds->k∈ks)/\
  (∀e,e∈es.toList->(seen.contains e.born=true↔ ∃k,k∈ds/\e.key= .int .i64 k))/\(∀ds' k,ds=ds'++[k]->∃e,e∈es.toList/\e.key= .int .i64 k/\∃s':Array Nat,seen=s'.push e.born)
theorem IterR.same {r:Nat} {ds:List Int} (h:IterR w r b ks ds) (hw:Same S w w') (a: ¬S b) (k: ¬S r):IterR w' r b ks ds:=by
 obtain⟨es,clock,seen,d,c,j,hit,e,f,g,i⟩:=h;exact⟨es,clock,seen,(hw.block b (gB.1 d).1 a).trans d,c,j,(hw.block r (gB.1 hit).1 k).trans hit,e,f,g,i⟩
theorem IterR.ext {r:Nat} {ds:List Int} (h:IterR w r b ks ds) (hw:Ext w w'):IterR w' r b ks ds:=h.same hw id id
theorem IterR.nd {r:Nat} {ds:List Int} (h:IterR w r b ks ds):ds.Nodup:=by
 obtain⟨es,clock,seen,d,c,e,hit,a,_⟩:=h;exact a
theorem IterR.sub {r:Nat} {ds:List Int} (h:IterR w r b ks ds) {k:Int} (a:k∈ds):k∈ks:=by
 obtain⟨es,clock,seen,f,d,g,hit,e,c,_⟩:=h;exact c k a
theorem IterR.len {r:Nat} {ds:List Int} (h:IterR w r b ks ds):ds.length<=ks.length:=h.nd.length_le_of_subset λ_ a=>h.sub a
theorem IterR.lt {r:Nat} {ds:List Int} (h:IterR w r b ks ds):r<w.heap.size:=by
 obtain⟨es,clock,seen,c,a,d,hit,_⟩:=h;exact(gB.1 hit).1
theorem kF0 (f:imapB P t=true) (h:ISet w b ks) (e:∀r w',r=w.heap.size->IterR w' r b ks []->Ext w w'->K (.pointer (some ⟨r,0,none⟩)) w'):XP0 P t (.map (some b)) w K:=by
 obtain⟨kt,et,hm,g⟩:=Zm0 f;obtain⟨es,cl,a,d,c⟩:=h;refine⟨.pointer (some ⟨w.heap.size,0,none⟩),w.alloc (.mapIter (some b) cl #[] cl),?_,e _ _ rfl ⟨es,cl,#[],?_,d,c,(MapKept.heap_alloc w _).1,pk,by simp,by simp,by simp⟩ ⟨rfl,rfl,rfl,by simp,λk c _=>(MapKept.heap_alloc w _).2 k c⟩⟩
 ·simp[Instr.range,run_underlying hm,MapKept.run_getObj_map a,Result.andThen,newObj,Sem.run]
 ·rw[(MapKept.heap_alloc w _).2 b (gB.1 a).1];exact a
theorem kI0 {r:Nat} {ds:List Int} {k:Int} (h:IterR w r b ks (ds++[k])) (f:∀x,K (.tuple #[.int .i64 k,x]) w):XS0 P (.pointer (some ⟨r,0,none⟩)) w K:=by
 obtain⟨es,clock,seen,g,c,n,hit,j,l,m,d⟩:=h;obtain⟨e,he,a,o,rfl⟩:=d _ _ rfl;refine⟨.tuple #[e.key,e.val],w,?_,a▸f e.val⟩;have i:es.find? (·.born==e.born)=some e:=by rw[<-Array.find?_toList];exact find_born e es.toList c.2.1 he
 simp only[Instr.entry,getObj,Sem.run_bind,Sem.run,hit,g,Result.andThen,Array.back?_push,bne_self_eq_false,gF,if_false,i];rfl
theorem vnext_set {r:Nat} {ds:List Int} {ty:TypeId} (h:IterR w r b ks ds) (t:(∀k,k∈ks->k∈ds)->K (.tuple #[.bool false]) w)
  (hK:∀k x w',k∈ks->k∉ds->IterR w' r b ks (ds++[k])->Same (· =r) w w'->w'.heap.size=w.heap.size->K (.tuple #[.bool true,.int .i64 k,x]) w'):Vb0 P (.pointer (some ⟨r,0,none⟩)) false ty w K:=by
 obtain⟨es,clock,seen,J,m,Q,hit,h1,h2,I,h4⟩:=h;have hold:∀x∈es.toList,x.born<clock:=m.1;have U:r≠b:=λe=>by subst e;rw[J] at hit;cases hit
 have z:∀k,k∈ks->∃e,e∈es.toList/\e.key= .int .i64 k:=λk g=>by
  have:Value.int .i64 k∈es.toList.map (·.key):=by rw[Q];exact Ga g
  obtain⟨y,hy,e⟩:=gk.1 this;exact⟨y,hy,e⟩
 have o:∀{v:Value} {w':World},(∃(L:Array MapEntry),L=leftOf es seen/\
   ((L.size=0/\v= .tuple #[.bool false]/\w'=w)\/ ∃(j:Nat) (w1:World) (e:MapEntry),L[j]?=some e/\(choose (Question.mapNext L.size)).run P w= .ok j w1/\w1.heap=w.heap/\v= .tuple #[.bool true,e.key,e.val]/\w'={w1 with heap:=w.heap.setIfInBounds r (.mapIter (some b) clock (seen.push e.born) clock)}))->
   (Instr.next (.pointer (some ⟨r,0,none⟩)) false ty).run P w= .ok v w':=by
  rintro v w' ⟨L,W,E⟩;simp only[Instr.next,getObj,Sem.run_bind,Sem.run,hit,J,Result.andThen,next_test_false seen es clock clock hold (gq _),gF,if_false];unfold leftOf at W;have l:∀x∈(Array.filter (λe=> !seen.contains e.born) es).toList,x.born<clock:=λx d=>hold x (by simp at d⊢;exact d.1);rw[<-W] at l⊢;have e1:L.filter (λx=>decide (x.born<clock))=L:=Array.filter_eq_self.2 (λx d=>by simpa using l x (by simpa using d));have H:L.filter (λx=>decide (x.born≥clock))= #[]:=by
   rw[Array.filter_eq_empty_iff];intro x d;have:=l x (by simpa using d);simp;omega
  simp only[e1,H,Array.append_empty];rcases E with⟨D,rfl,rfl⟩|⟨j,w1,e,G,p,F,rfl,rfl⟩
  ·have:L= #[]:=Array.eq_empty_of_size_eq_zero D;subst this;simp[choose,Sem.run,Question.forced]
  ·have a1:=(gB.1 G).1;have A:L.isEmpty=false:=(by simp[Array.isEmpty,show L.size≠0 by omega]);simp only[A,gF,if_false,Array.empty_append,Array.size_map];have Y:w1.heap[r]?=some (.mapIter (some b) clock seen clock):=by rw[F];exact hit
   have B:∀o',(setObj r o').run P w1= .ok () {w1 with heap:=w.heap.setIfInBounds r o'}:=λo'=>by
    simp only[setObj,Sem.run,F,hit]
   simp only[p,Array.getElem?_map,G,Option.map_some,Sem.run_bind,B,Result.andThen];rfl
 by_cases D:(leftOf es seen).size=0
 ·refine⟨_,w,o ⟨_,rfl,.inl ⟨D,rfl,rfl⟩⟩,t λk g=>?_⟩;obtain⟨e,he,f⟩:=z k g;obtain⟨k',S,s⟩:=(I e he).1 (all_seen es seen D e he);rw[f] at s;cases s;exact S
 ·have p:∃(j:Nat) (w1:World),j<(leftOf es seen).size/\(w1=w\/w1={w with drawn:=w.drawn+1})/\(choose (Question.mapNext (leftOf es seen).size)).run P w= .ok j w1:=by
   by_cases X:(leftOf es seen).size<=1
   ·exact⟨0,w,oM,.inl rfl,by simp[choose,Sem.run,Question.forced,X]⟩
   ·exact⟨_,_,Pg _ oM,.inr rfl,by
     simp only[choose,Sem.run,Question.forced,decide_eq_true_eq,X,if_false,Question.cut];rfl⟩
  obtain⟨j,w1,G,C,M⟩:=p;have i:=Gu G;generalize (leftOf es seen)[j]=e at i;have O:e∈(leftOf es seen).toList:=(by simpa using pr i);obtain⟨he,V⟩:=mem_left O;obtain⟨k,g,f⟩:=qN0 Q e he;have u:k∉ds:=λh=>by
   have:=(I e he).2 ⟨k,h,f⟩;rw[V] at this;cases this
  have F:w1.heap=w.heap:=by rcases C with rfl|rfl<;>rfl
  refine⟨_,_,o ⟨_,rfl,.inr ⟨j,w1,e,i,M,F,rfl,rfl⟩⟩,?_⟩;rw[f];have hS:Same (· =r) w {w1 with heap:=w.heap.setIfInBounds r (.mapIter (some b) clock (seen.push e.born) clock)}:=by
   have:=Xw (o':= .mapIter (some b) clock (seen.push e.born) clock) hit;rcases C with rfl|rfl
   ·exact this
   ·exact⟨this.os,this.tape,this.output,this.size,this.block⟩
  refine hK k e.val _ g u ⟨es,clock,seen.push e.born,?_,m,Q,(heap_set hit).1,?_,?_,?_,?_⟩ hS (by simp)
  ·exact((heap_set hit).2 b (λe=>U e.symm)).trans J
  ·rw[Gy];exact⟨h1,by simp,λa ha c E e=>by simp at E;subst E;subst e;exact u ha⟩
  ·intro x d;rw[gj,gn] at d;rcases d with d|rfl
   ·exact h2 x d
   ·exact g
  ·intro s q;rw[contains_push,gQ,I s q];constructor
   ·rintro(⟨x,d,n⟩|d)
    ·exact⟨x,gW _ d,n⟩
    ·have:=born_inj m.2.1 q he (by simpa using d);subst this;exact⟨k,by simp,f⟩
   ·rintro⟨x,d,n⟩;rw[gj,gn] at d;rcases d with d|rfl
    ·exact .inl ⟨x,d,n⟩
    ·right;have:s=e:=by
      have T:=m.2.2;have Z:=pa.1 T;exact(List.Pairwise.forall_of_forall_of_flip (R:=λx y=>x.key=y.key->x=y) (by simp) (Z.imp λh e=>absurd e h) (Z.imp λh e=>absurd e.symm h)) q he (by rw[n,f])
     subst this;simp
  ·rintro a0 k' N;have:=List.append_inj' N rfl;have H:k=k':=(by simpa using this.2);subst H;exact⟨e,he,f,seen,rfl⟩
end
end
end Go.Vc
namespace Go.Vc
open Go
section
section
variable {P:Program} {w:World} {K:Value->World->Prop}
theorem vbi_max {ts:List TypeId} {t:TypeId} {k a:IntKind} {x y:Int}:vbi P .max ts t [.int k x,.int a y] w K=K (.int k (max x y)) w:=by
 refine yU ?_;simp only[biSem,run_max_int2];rw[Int.max_def];split<;>split<;>(first|rfl|(exfalso;omega)|skip)
 all_goals (have:x=y:=oM)<;>rw[this]
theorem WD0 {ts:List TypeId} {t:TypeId} {k a:IntKind} {x y:Int}:vbi P .min ts t [.int k x,.int a y] w K=K (.int k (min x y)) w:=by
 refine yU ?_;simp only[biSem,run_min_int2];rw[Int.min_def];split<;>split<;>(first|rfl|(exfalso;omega)|skip)
 all_goals (have:x=y:=oM)<;>rw[this]
attribute [push_cast] vbi_max WD0
theorem setL_app:∀(us a b:List Value),us.length<=b.length->setL (a++b) a.length us=a++us++b.drop us.length
 |[],a,b,_=>by simp[setL]
 |u::us,a,[],h=>by simp at h
 |u::us,a,c::b,h=>by
  have e:(a++c::b).set a.length u=(a++[u])++b:=(by simp);rw[setL,e,show a.length+1=(a++[u]).length from by simp,setL_app us (a++[u]) b (by simpa using h)];simp
theorem fill_row {k:Nat}:∀(xs:List Value) (us:List (List Value)) (i:Nat) (a b:List Value),xs.map Value.cells=us.map List.toArray->(∀u,u∈us->u.length=k)->a.length=i*k->b.length=xs.length*k->
  Instr.fill (λi=>some (i*k,k)) ⟨a++b⟩ ((xs.zipIdx i).map λp=>(p.2,p.1))=some ⟨a++us.flatten⟩
 |[],[],i,a,b,_,_,_,c=>by
  have:b=[]:=gC (by simpa using c);subst this;simp[Instr.fill]
 |[],u::us,_,_,_,h,_,_,_=>by simp at h
 |x::xs,[],_,_,_,h,_,_,_=>by simp at h
 |x::xs,u::us,i,a,b,h,hw,d,c=>by
  simp only[gU,Gg] at h;have hu:=hw u V0;rw[gw,G7,Pj] at c;have hs:x.cells.size=k:=by rw[h.1];simpa using hu
  rw[List.zipIdx_cons,gU,Instr.fill];simp only[hs,ne_eq,not_true_eq_false,decide_false,z0j,G9,k6];rw[if_neg (by simp;omega)];rw[<-PL,Array.toList_zipIdx,h.1];rw[foldl_set,pg,<-d,setL_app u a b oM,Gd,<-Gd a u];rw[fill_row xs us (i+1) (a++u) (b.drop u.length) h.2 (λv e=>hw v (gh _ e)) (by simp[d,hu,G7]) (by simp;omega)];simp
theorem vbuildS_row {t:TypeId} {e k:Nat} {z:Value} {xs:List Value} {us:List (List Value)} (hu:P.underlying t=some (.slice e)) (j:jC P e k=true) (hzero:xh P e z) (h:xs.map Value.cells=us.map List.toArray) (hw:∀u,u∈us->u.length=k) (g:xs.length*k<=16777216)
  (d:∀b w',b=w.heap.size->Ext w w'->w'.heap.size=w.heap.size+1->Blk w' b us.flatten e->K (.slice (some ⟨b,0,none⟩) xs.length xs.length) w'):vbuildS P t xs.length (xs.zipIdx.map λp=>(p.2,p.1)) w K:=by
 refine⟨_,_,?_,d w.heap.size {w with heap:=w.heap.push (.cells ⟨us.flatten⟩ e)} rfl (ext_push w _) (by simp) (y90 w _ e)⟩;have a:∀c:Array Value,c.size=xs.length*k->Instr.fill (λi=>some (i*k,k)) c (xs.zipIdx.map λp=>(p.2,p.1))=some ⟨us.flatten⟩:=λc f=>by
  have:=fill_row xs us 0 [] c.toList h hw (by simp) (by simpa using f);simpa using this
 simp only[Instr.buildSlice,Sem.run_bind,qW hu,Result.andThen_ok,run_sizeOf j];rw[if_neg oM];split
 ·simp only[Sem.run_bind,Sem.run_pure,Result.andThen_ok];rw[a _ (by simp)];rfl
 ·simp only[Sem.run_bind,Sem.run_pure,Result.andThen_ok,Wj hzero];rw[a _ (by simp)];rfl
theorem vbuildS_row1 {t:TypeId} {e:Nat} {z:Value} {xs:List Value} (hu:P.underlying t=some (.slice e)) (k:jC P e 1=true) (hzero:xh P e z) (j:∀x,x∈xs->x.cells= #[x]) (i:xs.length<=16777216)
  (h:∀b w',b=w.heap.size->Ext w w'->w'.heap.size=w.heap.size+1->Blk w' b xs e->K (.slice (some ⟨b,0,none⟩) xs.length xs.length) w'):vbuildS P t xs.length (xs.zipIdx.map λp=>(p.2,p.1)) w K:=by
 refine vbuildS_row (us:=xs.map λx=>[x]) hu k hzero ?_ (λu hu=>by obtain⟨y,_,rfl⟩:=gk.1 hu;rfl) oM λb w' c d f g=>h b w' c d f (by rwa[flat1] at g);rw[GM];exact Gb λx a=>j x a
theorem Z10 {t:TypeId} {c:Bool} {k:IntKind} {a b:Int} (d:b≠0):zq P .quo t c (.int k a) (.int k b) w K=K (.int k (k.wrap (a.tdiv b))) w:=
 xc rfl (by simp[binOp,Op.intDiv,d])
theorem zr0 {t:TypeId} {c:Bool} {k:IntKind} {a b:Int} (d:b≠0):zq P .rem t c (.int k a) (.int k b) w K=K (.int k (a.tmod b)) w:=
 xc rfl (by simp[binOp,Op.intDiv,d])
theorem bits_xor64 {a b:Nat} (c:a<9223372036854775808) (d:b<9223372036854775808):(IntKind.i64.wrap (((BitVec.ofInt 64 a)^^^(BitVec.ofInt 64 b)).toNat:Int))=((a^^^b:Nat):Int):=by
 have e:a^^^b<2^63:=PM c d;rw[BitVec.toNat_xor,BitVec.ofInt_natCast,BitVec.ofInt_natCast,BitVec.toNat_ofNat,BitVec.toNat_ofNat,Gn oM,Gn oM];exact zJ oM oM
theorem Qu0 {t:TypeId} {c:Bool} {a b:Nat} (d:a<9223372036854775808) (e:b<9223372036854775808):zq P .xor t c (.int .i64 a) (.int .i64 b) w K=K (.int .i64 (a^^^b:Nat)) w:=
 xc rfl (by simp only[binOp,ne_eq,not_true_eq_false,if_false,Op.intBits];rw[<-bits_xor64 d e];rfl)
def J80 (P:Program) (t:TypeId) (k:IntKind):Prop:=P.underlying t=some (.int k)
theorem ZE {s d:TypeId} {k c:IntKind} {n:Int} (hs:(P.underlying s).isSome=true) (a:J80 P d k):QZ P s d (.int c n) w K=K (.int k (k.wrap n)) w:=by
 refine yU ?_;obtain⟨x,b⟩:=pG.1 hs;unfold J80 at a;simp only[convert,Sem.run_bind,qW b,qW a,Result.andThen_ok];cases x<;>rfl
end
end
end Go.Vc
namespace Go.Vc
open Go Go.MapKept
section
def MapF (d:TypeDesc) (w:World) (b:Nat) (f:List (Value×Value)):Prop:=
 ∃es clock,w.heap[b]?=some (.map es clock)/\Stamped es clock/\(∀x∈es.toList,IsKey d x.key)/\es.toList.map (λe=>(e.key,e.val))=f
def VB0 (P:Program) (t:TypeId) (d:TypeDesc) (e:TypeId):Prop:= ∃kt,P.underlying t=some (.map kt e)/\P.underlying kt=some d
section
variable {P:Program} {t e:TypeId} {d:TypeDesc} {w w':World} {K:Value->World->Prop} {b:Nat} {f:List (Value×Value)} {S:Nat->Prop}
theorem MapF.lt (h:MapF d w b f):b<w.heap.size:=by
 obtain⟨es,cl,a,_⟩:=h;exact(gB.1 a).1
theorem MapF.same (h:MapF d w b f) (hw:Same S w w') (hs: ¬S b):MapF d w' b f:=by
 have a:=h.lt;obtain⟨es,cl,c,r⟩:=h;exact⟨es,cl,(hw.block b a hs).trans c,r⟩
theorem MapF.ext (h:MapF d w b f) (hw:Ext w w'):MapF d w' b f:=h.same hw id
theorem MapF.nodup (h:MapF d w b f):(f.map (·.1)).Nodup:=by
 obtain⟨es,cl,e,a,c,rfl⟩:=h;have:=a.2.2;rw[GM];exact this
theorem Jo0 {r:Option Value} {k:IntKind} {n:Nat} (c:VB0 P t d e) (g:r=none\/r=some (.int k n)) (a:∀b w',b=w.heap.size->MapF d w' b []->Ext w w'->w'.heap.size=w.heap.size+1->K (.map (some b)) w'):Jp0 P t r w K:=by
 refine⟨.map (some w.heap.size),w.alloc (.map #[] 0),?_,a _ _ rfl ⟨#[],0,(heap_alloc w _).1,stamped_empty 0,by simp,rfl⟩ ⟨rfl,rfl,rfl,by simp,λk f _=>(heap_alloc w _).2 k f⟩ (by simp)⟩;obtain⟨kt,hm,h⟩:=c;rcases g with rfl|rfl
 ·simp[Instr.makeMap,newObj,Sem.run]
 ·simp only[Instr.makeMap,Sem.run_bind,qW hm,Result.andThen_ok];simp[asInt,asIntOf,newObj,Sem.run,Result.andThen]
theorem kY0 (c:VB0 P t d e) (a:∀b w',b=w.heap.size->MapF d w' b []->Ext w w'->w'.heap.size=w.heap.size+1->K (.map (some b)) w'):Jp0 P t none w K:=Jo0 (k:= .i64) (n:=0) c (.inl rfl) a
theorem Ys0 {k x:Value} (r:VB0 P t d e) (h:MapF d w b f) (l:IsKey d k) (s:∀v,(k,v)∉f)
  (q:∀w',MapF d w' b (f++[(k,x)])->Same (· =b) w w'->w'.heap.size=w.heap.size->K undef w'):ZD P t (.map (some b)) k x w K:=by
 obtain⟨kt,hm,o⟩:=r;obtain⟨es,cl,g,m,c,rfl⟩:=h;rcases findNow_spec l es.toList 0 c with⟨n,i⟩|⟨j,e,n,i,p⟩
 ·refine⟨(),{w with heap:=w.heap.setIfInBounds b (.map (es.push {key:=k,val:=x,born:=cl}) (cl+1))},?_,q _ ⟨_,_,(heap_set g).1,stamped_push m i,λy a=>?_,by simp⟩ (Xw g) (by simp)⟩
  ·simp[Instr.mapUpdate,run_underlying hm,MapKept.run_getObj_map g,run_checkKey o l,run_findKey o n,run_setObj_map _ g,Result.andThen]
  ·rw[PU] at a;rcases gj.1 a with a|a
   ·exact c y a
   ·rw[gn.1 a];exact l
 ·exact absurd (gk.2 ⟨e,G6 i,by rw[p]⟩) (s e.val)
theorem zo0 {k v:Value} {ok:Bool} (F:VB0 P t d e) (h:MapF d w b f) (E:IsKey d k) (l:(k,v)∈f):
  Jg P t (.map (some b)) k ok w K=K (if ok then .tuple #[v,.bool true] else v) w:=by
 obtain⟨kt,hm,D⟩:=F;have H:=h.nodup;obtain⟨es,cl,G,u,r,rfl⟩:=h;rcases findNow_spec E es.toList 0 r with⟨B,q⟩|⟨j,e,B,q,C⟩
 ·obtain⟨x,y,e⟩:=gk.1 l;cases e;exact absurd rfl (q x y)
 ·obtain⟨x,y,A⟩:=gk.1 l;have z:x=e:=by
   have s:e∈es.toList:=G6 q;have I:=u.2.2;cases A;have n:es.toList.Pairwise λa b=>a.key≠b.key:=pa.1 I;by_cases m:x=e
   ·exact m
   ·obtain⟨i1,g,o⟩:=gl y;obtain⟨i2,i,p⟩:=gl s;rcases Nat.lt_trichotomy i1 i2 with c|heq|c
    ·exact absurd (by rw[o,p];exact C.symm) (Gw.1 n i1 i2 g i c)
    ·subst heq;exact absurd (o.symm.trans p) m
    ·exact absurd (by rw[o,p];exact C) (Gw.1 n i2 i1 i g c)
  subst z;cases A;refine yU ?_;cases ok<;>simp[Instr.lookup,run_underlying hm,MapKept.run_getObj_map G,run_checkKey D E,run_findKey D B,Result.andThen]
theorem Yt0 {k z:Value} {ok:Bool} (n:VB0 P t d e) (r:xh P e z) (h:MapF d w b f) (l:IsKey d k) (p:∀v,(k,v)∉f):
  Jg P t (.map (some b)) k ok w K=K (if ok then .tuple #[z,.bool false] else z) w:=by
 obtain⟨kt,hm,i⟩:=n;obtain⟨es,cl,o,q,a,rfl⟩:=h;rcases findNow_spec l es.toList 0 a with⟨c,g⟩|⟨j,e,c,g,m⟩
 ·refine yU ?_;cases ok<;>simp[Instr.lookup,run_underlying hm,MapKept.run_getObj_map o,run_checkKey i l,run_findKey i c,Wj r,Result.andThen]
 ·exact absurd (gk.2 ⟨e,G6 g,by rw[m]⟩) (p e.val)
theorem ym {ty:TypeId} {v rcv:Value} {name:String} {args:Array Value} {g:Nat} (hm:∀w:World,(method (P.types.size+Made.depth) ty v name).run P w= .ok (g,rcv) w) (h:vcall P g ⟨rcv::args.toList⟩ w K):vinvoke P (.iface ty v) name args w K:=
 ⟨g,rcv,hm w,h⟩
def concB (P:Program) (t:TypeId):Bool:=match P.underlying t with|some (.interface _)=>false|some _=>true|none=>false
theorem QY (h:concB P t=true) (v:Value):Wv P t v w K=K (.iface t v) w:=by
 refine yU ?_;unfold concB at h;cases hu:P.underlying t with
 |none=>rw[hu] at h;cases h
 |some x=>
  rw[hu] at h;simp only[Instr.makeInterface,Sem.run_bind,qW hu,Result.andThen_ok];cases x<;>first|(cases h;done)|simp
theorem jE0 (a b:ByteArray):(a.toList==b.toList)=decide (a=b):=by
 rw[<-beq_toListBytes];by_cases h:a=b
 ·subst h;rw[decide_eq_true rfl];exact(MapKept.bytes_beq a a).2 rfl
 ·rw[decide_eq_false h,GV];exact λe=>h ((MapKept.bytes_beq a b).1 e)
@[push_cast] theorem Um0 {c:Bool} (t:TypeId) (a b:ByteArray):zq P .eql t c (.string a) (.string b) w K=K (.bool (decide (a=b))) w:=
 xc rfl (by rw[binOp_string_eql,jE0];rfl)
@[push_cast] theorem Ul0 {c:Bool} (t:TypeId) (a b:ByteArray):zq P .neq t c (.string a) (.string b) w K=K (.bool (decide (a≠b))) w:=
 xc rfl (by rw[binOp_string_neq,jE0,decide_not];rfl)
theorem qu0 {c:Bool} {t:TypeId} {a b:ByteArray} (h:a.size+b.size<=9223372036854775807):zq P .add t c (.string a) (.string b) w K=K (.string (a++b)) w:=
 xc rfl (by simp only[binOp_string_add];exact run_string_add_sum w a b h)
theorem kZ0 {t ty:TypeId} {s:ByteArray} (h:P.underlying t=some .string):vbi P .len [t] ty [.string s] w K=K (.int .i64 s.size) w:=
 yU (run_len_string (P:=P) (w:=w) t ty s h)
theorem vindex_str {t:TypeId} {s:ByteArray} {k:IntKind} {i:Int} (h:P.underlying t=some .string) (b:0<=i) (c:i<s.size):kH0 P t (.string s) (.int k i) w K=K (.int .u8 ((s.data.getD i.toNat 0).toNat:Int)) w:=by
 refine yU ?_;rw[run_index_string (P:=P) (w:=w) t s k i h];have a:i.toNat<s.size:=oM
 have d:i.toNat<s.data.size:=a;rw[dif_pos ⟨b,c⟩,gN,Gu d];rfl
theorem Qr0 {t:TypeId} {s:ByteArray} {k a:IntKind} {i j:Int} (h:P.underlying t=some .string) (b:0<=i) (c:i<=j) (d:j<=s.size):yY P t (.string s) (some (.int k i)) (some (.int a j)) none w K=K (.string (s.extract i.toNat j.toNat)) w:=by
 refine yU ?_;rw[run_sliceAt_string w t _ _ _ _ h];exact run_slice_string (P:=P) w t s k a i j h b c d
theorem XV0 {c:Bool} {t:TypeId} {k yk:IntKind} {x y:Int} (h:0<=y):zq P .shl t c (.int k x) (.int yk y) w K=K (.int k (k.wrap (x*2^min y.toNat k.bits))) w:=
 xc rfl (by simp[binOp,shift_shl_any,h])
theorem XU0 {c:Bool} {t:TypeId} {k yk:IntKind} {x y:Int} (h:0<=y):zq P .shr t c (.int k x) (.int yk y) w K=K (.int k (x/2^min y.toNat k.bits)) w:=
 xc rfl (by simp[binOp,shift_shr_any,h])
theorem wrapU {n:Nat} (h:n<18446744073709551616):IntKind.u64.wrap (n:Int)=n:=by
 simp only[IntKind.wrap,IntKind.bits,IntKind.signed,GR,gF,if_false];omega
theorem wrapN {n:Nat} (h:n<9223372036854775808):IntKind.i64.wrap (n:Int)=n:=zJ oM oM
theorem zx0 (n:Nat):BitVec.ofInt 64 (n:Int)=BitVec.ofNat 64 n:=by simp
theorem V3 {c:Bool} {t:TypeId} {a b:Nat} (d:a<18446744073709551616) (g:b<18446744073709551616):zq P .and t c (.int .u64 a) (.int .u64 b) w K=K (.int .u64 (a&&&b:Nat)) w:=
 xc rfl (by
  have f:a&&&b<18446744073709551616:=PJ Nat.and_le_left d;have e:(BitVec.ofInt 64 (a:Int)&&&BitVec.ofInt 64 (b:Int)).toNat=a&&&b:=by
   rw[zx0,zx0,BitVec.toNat_and,BitVec.toNat_ofNat,BitVec.toNat_ofNat,Gn d,Gn g]
  simp only[binOp,ne_eq,not_true_eq_false,if_false,Op.intBits];show(pure (Value.int .u64 (IntKind.u64.wrap ((BitVec.ofInt 64 (a:Int)&&&BitVec.ofInt 64 (b:Int)).toNat:Int))):Sem Value).run P w=_;rw[e,wrapU f];rfl)
theorem XW0 {c:Bool} {t:TypeId} {a b:Nat} (d:a<18446744073709551616) (f:b<18446744073709551616):zq P .or t c (.int .u64 a) (.int .u64 b) w K=K (.int .u64 (a|||b:Nat)) w:=
 xc rfl (by
  have g:a|||b<2^64:=PV d f;have e:(BitVec.ofInt 64 (a:Int)|||BitVec.ofInt 64 (b:Int)).toNat=a|||b:=by
   rw[zx0,zx0,BitVec.toNat_or,BitVec.toNat_ofNat,BitVec.toNat_ofNat,Gn d,Gn f]
  simp only[binOp,ne_eq,not_true_eq_false,if_false,Op.intBits];show(pure (Value.int .u64 (IntKind.u64.wrap ((BitVec.ofInt 64 (a:Int)|||BitVec.ofInt 64 (b:Int)).toNat:Int))):Sem Value).run P w=_;rw[e,wrapU g];rfl)
theorem Jv0 {c:Bool} {t:TypeId} {a b:Nat} (d:a<18446744073709551616) (f:b<18446744073709551616):zq P .xor t c (.int .u64 a) (.int .u64 b) w K=K (.int .u64 (a^^^b:Nat)) w:=
 xc rfl (by
  have g:a^^^b<2^64:=PM d f;have e:(BitVec.ofInt 64 (a:Int)^^^BitVec.ofInt 64 (b:Int)).toNat=a^^^b:=by
   rw[zx0,zx0,BitVec.toNat_xor,BitVec.toNat_ofNat,BitVec.toNat_ofNat,Gn d,Gn f]
  simp only[binOp,ne_eq,not_true_eq_false,if_false,Op.intBits];show(pure (Value.int .u64 (IntKind.u64.wrap ((BitVec.ofInt 64 (a:Int)^^^BitVec.ofInt 64 (b:Int)).toNat:Int))):Sem Value).run P w=_;rw[e,wrapU g];rfl)
theorem vbin_orI {c:Bool} {t:TypeId} {a b:Nat} (f:a<9223372036854775808) (g:b<9223372036854775808):zq P .or t c (.int .i64 a) (.int .i64 b) w K=K (.int .i64 (a|||b:Nat)) w:=
 xc rfl (by
  have d:a|||b<2^63:=PV f g;have e:(BitVec.ofInt 64 (a:Int)|||BitVec.ofInt 64 (b:Int)).toNat=a|||b:=by
   rw[zx0,zx0,BitVec.toNat_or,BitVec.toNat_ofNat,BitVec.toNat_ofNat,Gn oM,Gn oM]
  simp only[binOp,ne_eq,not_true_eq_false,if_false,Op.intBits];show(pure (Value.int .i64 (IntKind.i64.wrap ((BitVec.ofInt 64 (a:Int)|||BitVec.ofInt 64 (b:Int)).toNat:Int))):Sem Value).run P w=_;rw[e,wrapN d];rfl)
theorem vun_xorU {a:Nat} (c:a<18446744073709551616):vun P .xor (.int .u64 a) w K=K (.int .u64 (18446744073709551615-a:Nat)) w:=by
 refine yU ?_;have e:(BitVec.ofInt 64 (18446744073709551615:Int)^^^BitVec.ofInt 64 (a:Int)).toNat=18446744073709551615-a:=by
  have b:BitVec.ofInt 64 (18446744073709551615:Int)=BitVec.allOnes 64:=dC;rw[b,zx0,BitVec.allOnes_xor,BitVec.toNat_not,BitVec.toNat_ofNat,Gn c]
 show(pure (Value.int .u64 (IntKind.u64.wrap ((BitVec.ofInt 64 (18446744073709551615:Int)^^^BitVec.ofInt 64 (a:Int)).toNat:Int))):Sem Value).run P w=_;rw[e,wrapU oM];rfl
theorem vbin_shlU {c:Bool} {t:TypeId} {yk:IntKind} {x y:Nat} (a:y<64) (h:x*2^y<18446744073709551616):zq P .shl t c (.int .u64 x) (.int yk y) w K=K (.int .u64 (x*2^y:Nat)) w:=by
 rw[XV0 oM];have e:((x:Int)*2^min (y:Int).toNat IntKind.u64.bits)=((x*2^y:Nat):Int):=by
  have:min (y:Int).toNat IntKind.u64.bits=y:=by show min y 64=y;omega
  rw[this];simp
 rw[e,wrapU h]
theorem vbin_shlI {c:Bool} {t:TypeId} {yk:IntKind} {x y:Nat} (a:y<64) (h:x*2^y<9223372036854775808):zq P .shl t c (.int .i64 x) (.int yk y) w K=K (.int .i64 (x*2^y:Nat)) w:=by
 rw[XV0 oM];have e:((x:Int)*2^min (y:Int).toNat IntKind.i64.bits)=((x*2^y:Nat):Int):=by
  have:min (y:Int).toNat IntKind.i64.bits=y:=by show min y 64=y;omega
  rw[this];simp
 rw[e,wrapN h]
theorem vbin_shrU {c:Bool} {t:TypeId} {yk:IntKind} {x y:Nat} (a:y<64):zq P .shr t c (.int .u64 x) (.int yk y) w K=K (.int .u64 (x/2^y:Nat)) w:=by
 rw[XU0 oM];have:min (y:Int).toNat IntKind.u64.bits=y:=by show min y 64=y;omega
 rw[this];simp
theorem zx {t:TypeId} {cs:List Value} (h:∀b w',b=w.heap.size->Ext w w'->w'.heap.size=w.heap.size+1->Blk w' b cs t->K (.pointer (some ⟨b,0,none⟩)) w'):yX P t (.agg ⟨cs⟩) w K:=jO h
theorem zB {t:TypeId} {cs:List Value} (a:xh P t (.agg ⟨cs⟩)) (h:∀b w',b=w.heap.size->Ext w w'->w'.heap.size=w.heap.size+1->Blk w' b cs t->K (.pointer (some ⟨b,0,none⟩)) w'):y3 P t w K:=Wf a h
theorem yp {t:TypeId} {pl:List (Nat×Nat)} {ps:List (Nat×Value)} {us:List (List Value)} {zs cs:List Value} (h:strF P t=some (pl,zs)) (d:ps.map (λp=>p.2.cells)=us.map List.toArray)
  (a:fillC pl zs (ps.map (·.1)) us=some cs):zD P t ps w K=K (.agg ⟨cs⟩) w:=by
 refine yU (run_build (P:=P) w t ⟨ps⟩ ⟨cs⟩ ?_);unfold strF at h;split at h
 ·rename_i fs i hu b;split at h
  ·rename_i f z c e;simp only[gV,GF] at h;obtain⟨rfl,rfl⟩:=h;simp only[Program.built,hu,b,e,c];exact fill_eq d a
  ·cases h
 ·cases h
theorem Vr (s:ByteArray):IsKey .string (.string s):=by simp[IsKey]
theorem inc64' {i:Nat} (h:i<9223372036854775807):IntKind.i64.wrap ((i:Int)+1)=((i+1:Nat):Int):=by rw[zJ oM oM];omega
end
end
end Go.Vc
