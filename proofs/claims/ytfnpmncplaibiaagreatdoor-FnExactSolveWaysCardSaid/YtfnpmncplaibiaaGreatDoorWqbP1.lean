import Derived.Test.YtfnpmncplaibiaaGreatDoorWqbP0
import Derived.Scope
import Derived.Laws.World
import Derived.Below
import Derived.IntWalk
import Derived.Laws.AppendOwn
import Derived.Laws.OwnMore
import Derived.Laws.Slices
import Derived.Laws.Tables
import Derived.Laws.Cover3
import Derived.Laws.CopyRow
import Derived.MapKept
import Derived.Laws.IdiomRangeMap
import Derived.Laws.Small
import Derived.Laws.Entries
import Derived.Laws.Strings2
import Derived.Laws.Concat
import Derived.Laws.StructEq
import Derived.Laws.Shifts
import Derived.Laws.Build
/- A part of the proof. -/
set_option linter.all false
set_option maxRecDepth 9999
set_option maxHeartbeats 2000000
noncomputable section
namespace Go.Vc
open Go
section
def lookN {α:Type} (k:Nat):List (Nat×α)->Option α
 |[]=>none
 |p::r=>cond (Nat.beq k p.1) (some p.2) (lookN k r)
structure Ann where
 ord:List (Nat×List Nat×List (Nat×List Nat)):=[]
 loops:List (Nat×List Nat):=[]
 cuts:List (Nat×List Nat):=[]
 trees:List (Nat×OT×List (Nat×List Nat)):=[]
 pars:List (Nat×List Nat×List Nat×List Nat×List (Nat×List Nat)):=[]
def firstR:Code->Option Nat
 | .region id _ _=>some id
 | .seq a b=>match firstR a with|some i=>some i|none=>firstR b
 | .cond _ a b=>match firstR a with|some i=>some i|none=>firstR b
 | .block _ b=>firstR b
 | .loop b=>firstR b
 | .scope b=>firstR b
 |_=>none
def dsts:List Oper->List Nat->List Nat
 |[],l=>l
 |o::r,l=>match o.dst with|some d=>d::dsts r l|none=>dsts r l
def mods:Code->List Nat->List Nat
 | .region _ ops _,l=>dsts ops.toList l
 | .seq a b,l=>mods a (mods b l)
 | .cond _ a b,l=>mods a (mods b l)
 | .block _ b,l=>mods b l
 | .loop b,l=>mods b l
 | .scope b,l=>mods b l
 |_,l=>l
theorem mem_dsts {t:Nat}:∀{ops:List Oper} {l:List Nat},t∈dsts ops l↔(∃o,o∈ops/\o.dst=some t)\/t∈l:=by
 intro ops;induction ops with
 |nil=>intro l;simp[dsts]
 |cons o r c=>
  intro l;simp only[dsts];cases b:o.dst with
  |none=>
   simp only[c,gj];constructor
   .rintro(⟨x,a,h⟩|h);exact .inl ⟨x,.inr a,h⟩;exact .inr h
   .rintro(⟨x,rfl|a,h⟩|h);rw[b] at h;cases h;exact .inl ⟨x,a,h⟩;exact .inr h
  |some d=>
   simp only[gj,c];constructor
   .rintro(rfl|⟨x,a,h⟩|h);exact .inl ⟨o,.inl rfl,b⟩;exact .inl ⟨x,.inr a,h⟩;exact .inr h
   .rintro(⟨x,rfl|a,h⟩|h);rw[b] at h;exact .inl (V1 h).symm;exact .inr (.inl ⟨x,a,h⟩);exact .inr (.inr h)
theorem mem_mods {t:Nat}:∀(c:Code) (l:List Nat),t∈mods c l↔t∈mods c []\/t∈l:=by
 intro c;induction c with
 |region id ops d=>intro l;simp only[mods,mem_dsts,gC,Gn]
 |seq a b iha ihb=>intro l;simp only[mods];rw[iha,ihb l,iha (mods b [])];simp only[or_assoc]
 |cond x a b iha ihb=>intro l;simp only[mods];rw[iha,ihb l,iha (mods b [])];simp only[or_assoc]
 |block i b e=>intro l;simp only[mods];exact e l
 |loop b e=>intro l;simp only[mods];exact e l
 |scope b e=>intro l;simp only[mods];exact e l
 |_=>intro l;simp[mods]
def qX0 (A:(List Value->World->Prop)->Prop) (B:List Value->Fr->World->Prop):Prop:= ∃J,A J/\∀u g w,J u w->B u g w
def WO (z:List Value) (w:World) (B:(List Value->World->Prop)->List Value->Fr->World->Prop):Prop:=
 ∃I:Nat->List Value->World->Prop,(∃n,I n z w)/\∀n u g w',I n u w'->B (λu' w''=> ∃m,m<n/\I m u' w'') u g w'
def ZK (w:World) (K:World->Prop):Prop:=K {w with drawn:=w.drawn+1}
def seqK (N:Fr->World->Prop) (K:Exit->Fr->World->Prop) (e:Exit) (f:Fr) (w:World):Prop:=
 match e with
 | .normal=>N f w
 |e=>K e f w
def blkK (id:Nat) (K:Exit->Fr->World->Prop) (e:Exit) (f:Fr) (w:World):Prop:=
 match e with
 | .exit i=>cond (Nat.beq i id) (K .normal f w) (K (.exit i) f w)
 |e=>K e f w
def lookD (T:List (Nat×List Nat)) (s:Nat):List Nat:=match lookN s T with|some l=>l|none=>[]
def upto:Nat->Nat->List Nat
 |0,_=>[]
 |n+1,k=>k::upto n (k+1)
def lenO:List Oper->Nat
 |[]=>0
 |_::r=>lenO r+1
def Xh0 (T:Ann) (a c:Code):Option (List Nat):=match firstR c with|some i=>lookN (Nat.add (Nat.mul (match firstR a with|some j=>j+1 |none=>0) 4096) i) T.cuts|none=>none
def ZV0 (T:Ann) (c:Code):Option (List Nat):=match firstR c with|some i=>lookN i T.loops|none=>none
def vc (T:Ann):Code->(Exit->Fr->World->Prop)->Fr->World->Prop
 | .skip,K,f,w=>K .normal f w
 | .label _,K,f,w=>K .normal f w
 | .region id ops dr,K,f,w=>
  match dr with
  |false=>vops ops.toList false (λ_=>[]) (λf w=>K .normal f w) (upto (lenO ops.toList) 0) [] [] f w
  |true=>match lookN id T.ord with
   |some p=>ZK w λw=>vops ops.toList true (lookD p.2) (λf w=>K .normal f w) p.1 [] [] f w
   |none=>match lookN id T.trees with
    |some p=>ZK w λw=>vopsT ops.toList (lookD p.2) (λf w=>K .normal f w) p.1 [] [] f w
    |none=>match lookN id T.pars with
     |some p=>ZK w λw=>vopsP ops.toList (lookD p.2.2.2) p.2.1 p.2.2.1 (λf w=>K .normal f w) p.1 [] [] f w
     |none=>False
 | .seq a b,K,f,w=>
  match Xh0 T a b with
  |some L=>qX0 (λJ=>vc T a (seqK (λf' w'=>J (selL L f') w') K) f w) (λu g w'=>vc T b K (hav f L (mods a []) u g) w')
  |none=>vc T a (seqK (λf' w'=>vc T b K f' w') K) f w
 | .cond c a b,K,f,w=>vif (ev f c) (vc T a K f w) (vc T b K f w)
 | .block id b,K,f,w=>vc T b (blkK id K) f w
 | .loop b,K,f,w=>
  match ZV0 T b with
  |some L=>WO (selL L f) w λC u g w'=>vc T b (seqK (λf' w''=>C (selL L f') w'') K) (hav f L (mods b []) u g) w'
  |none=>False
 | .exit id,K,f,w=>K (.exit id) f w
 | .ret,K,f,w=>K .ret f w
 | .scope b,K,f,w=>vc T b K f w
 |_,_,_,_=>False
def okC (n:Nat) (T:Ann):Code->Bool
 | .region id ops dr=>Kr n ops.toList&&(match dr with
  |false=>true
  |true=>match lookN id T.ord with
   |some p=>yH0 ops (lookD p.2) p.1&&allN (λq=>allN (λx=>memN x p.1) (lookD p.2 q)) (p.2.map (·.1))
   |none=>match lookN id T.trees with
    |some p=>zo0 ops (lookD p.2) p.1
    |none=>match lookN id T.pars with
     |some p=>chkPar ops (lookD p.2.2.2) p.1 p.2.1 p.2.2.1&&xQ0 ops.toList p.2.1 p.2.2.1
     |none=>false)
 | .seq a b=>okC n T a&&okC n T b
 | .cond _ a b=>okC n T a&&okC n T b
 | .block _ b=>okC n T b
 | .loop b=>okC n T b
 | .scope b=>okC n T b
 |_=>true
theorem Yd0 (n k:Nat):upto n k=List.range' k n:=by
 induction n generalizing k with
 |zero=>rfl
 |succ n a=>simp only[upto,a];rfl
theorem Yp0 (l:List Oper):lenO l=l.length:=by induction l<;>simp_all[lenO]
theorem jw0 {α:Type} {k:Nat} {T:List (Nat×α)} {x:α} (h:lookN k T=some x):k∈T.map (·.1):=by
 induction T with
 |nil=>cases h
 |cons p r b=>
  simp only[lookN] at h;cases a:Nat.beq k p.1
  .rw[a] at h;exact gp _ (b h)
  .simp[gB a]
theorem Z30 {T:List (Nat×List Nat)} {π:List Nat} (h:allN (λq=>allN (λx=>memN x π) (lookD T q)) (T.map (·.1))=true):∀s x,x∈lookD T s->x∈π:=by
 intro s x a;have hs:s∈T.map (·.1):=by
  unfold lookD at a;cases b:lookN s T with
  |none=>rw[b] at a;cases a
  |some l=>exact jw0 b
 exact memN_iff.1 (ZA0.1 (ZA0.1 h s hs) x a)
def Post (df:List Deferred) (n:Nat) (M:List Nat) (f:Fr) (K:Exit->Fr->World->Prop) (e:Exit) (a:Act) (w:World):Prop:=
 ∃f',Sim df n f' a/\(∀t,t∉M->f' t=f t)/\K e f' w
theorem least {p:oA} (h:∃n,p n):∃n,p n/\∀m,p m->n<=m:=by
 obtain⟨n,c⟩:=h;induction n using Nat.strongRecOn with
 |_ n d=>
  by_cases hm:∃m,m<n/\p m
  .obtain⟨m,a,b⟩:=hm;exact d m a b
  .exact⟨n,c,λm b=>Nat.le_of_not_lt λa=>hm ⟨m,a,b⟩⟩
open Classical in
noncomputable def rank (p:oA):Nat:=if h:∃n,p n then Classical.choose (least h) else 0
theorem zH0 {p:oA} (h:∃n,p n):p (rank p)/\∀m,p m->rank p<=m:=by
 unfold rank;rw[dif_pos h];exact Classical.choose_spec (least h)
theorem Sim.fr {df:List Deferred} {n:Nat} {f:Fr} {a:Act} (h:Sim df n f a):(λt=>a.tmps.getD t undef)=f:=funext h.at_
theorem ja {b:Frame} {a:Act} {k:List Item} {cs:List Frame} {w:World} {c:Code}:step P (lone (b.atR a (.code (.scope c)::k)) cs w)= .next (lone (b.atR a (.code c:: .inScope c::k)) cs w):=
 step_lone_go (by simp[stepG,stepG.exec,Frame.atR])
theorem WT {b:Frame} {a:Act} {k:List Item} {cs:List Frame} {w:World} {c:Code}:step P (lone (b.atR a (.inScope c::k)) cs w)= .next (lone (b.atR a k) cs w):=
 step_lone_go (by simp[stepG,stepG.exec,Frame.atR])
theorem wpIn_scope_straight {ro:Option Nat} {Q:Exit->Act->World->Prop} {a:Act} {w:World} {c:Code} (h:c.wpIn (FR ro) 0 P (Exit.noGoto Q) a w):(Code.scope c).wpIn (FR ro) 0 P Q a w:=by
 intro b k cs o i m;have f:(lone (b.atR a (.code (.scope c)::k)) cs w).fenced P (FR ro):=fenced_calm i m rfl;obtain⟨e,a₁,w₁,g,d⟩:=h b (.inScope c::k) cs o i m;cases e with
 |normal=>exact⟨.normal,a₁,w₁,g,.head f ja (StepsIn.trans d (.one (fenced_calm i m rfl) WT))⟩
 |exit id=>
  have p:exitTo id (.inScope c::k)=exitTo id k:=(by simp[exitTo]);exact⟨.exit id,a₁,w₁,g,λs j=> .head f ja (d.1 s (by rw[p];exact j)),
   λn j=>let ⟨k₁,q,r⟩:=d.2 n (by rw[p];exact j);⟨k₁,q,.head f ja r⟩⟩
 |goto l=>exact g.elim
 |ret=>exact⟨_,a₁,w₁,g,.of_steps (.one f ja) d⟩
 |panic ch=>exact⟨_,a₁,w₁,g,.of_steps (.one f ja) d⟩
 |outgrown=>exact⟨_,a₁,w₁,g,.of_steps (.one f ja) d⟩
section
variable {ro:Option Nat} {df:List Deferred} {T:Ann} {n:Nat}
theorem vc_sound (hm:P.follows .mixedOrders=true):∀(c:Code) (K:Exit->Fr->World->Prop) (f:Fr) (a:Act) (w:World),okC n T c=true->vc T c K f w->Sim df n f a->(∀l f w,¬K (.goto l) f w)->
  c.wpIn (FR ro) 0 P (Post df n (mods c []) f K) a w:=by
 intro c;induction c with
 |skip=>intro K f a w _ h hs _;exact wpIn_skip ⟨f,hs,λ_ _=>rfl,h⟩
 |label l=>intro K f a w _ h hs _;exact wpIn_label ⟨f,hs,λ_ _=>rfl,h⟩
 |exit id=>intro K f a w _ h hs _;exact wpIn_exit ⟨f,hs,λ_ _=>rfl,h⟩
 |ret=>intro K f a w _ h hs _;exact wpIn_ret ⟨f,hs,λ_ _=>rfl,h⟩
 |goto l=>intro K f a w _ h;exact h.elim
 |refuse s=>intro K f a w _ h;exact h.elim
 |rangeFunc x y z b _ _=>intro K f a w _ h;exact h.elim
 |region id ops dr=>
  intro K f a w d h hs _;simp only[okC,gg] at d;have Q:∀q C w',Sim df n q C->(∀t,(∀o,o∈ops->o.dst≠some t)->q t=f t)->K .normal q w'->Post df n (mods (.region id ops dr) []) f K .normal C w':=by
   intro q C w' j u r;refine⟨q,j,λt A=>u t λo ho hd=>A ?_,r⟩;simp only[mods,mem_dsts];exact .inl ⟨o,pR.2 ho,hd⟩
  cases dr with
  |false=>
   simp only[vc] at h;exact x50 d.1 (by rw[Yd0,Yp0,pD,Px]) h hs Q
  |true=>
   simp only[vc] at h;have g:=d.2;cases N:lookN id T.ord with
   |none=>
    rw[N] at h g;simp only at h g;cases u:lookN id T.trees with
    |none=>
     rw[u] at h g;simp only at h g;cases X:lookN id T.pars with
     |none=>rw[X] at h;exact h.elim
     |some p=>
      rw[X] at h g;simp only[gg] at g;exact q60 d.1 hm g.1 g.2 h hs Q
    |some p=>
     rw[u] at h g;exact x40 d.1 hm g h hs Q
   |some p=>
    rw[N] at h g;simp only[gg] at g;exact x60 d.1 hm g.1 (Z30 g.2) h hs Q
 |seq x y ihx ihy=>
  intro K f a w d h hs E;simp only[okC,gg] at d;refine wpIn_seq ?_;simp only[vc] at h;cases W:Xh0 T x y with
  |none=>
   rw[W] at h;refine wpIn_mono (ihx _ f a w d.1 h hs ?_) ?_
   .intro l q w' r;exact E l q w' r
   .rintro e C w' ⟨q,j,u,r⟩;cases e with
    |normal=>
     refine wpIn_mono (ihy K q C w' d.2 r j E) ?_;rintro e M w'' ⟨B,v,D,H⟩;refine⟨B,v,λt A=>?_,H⟩;simp only[mods] at A;rw[mem_mods] at A;rw[D t (λh=>A (.inr h)),u t (λh=>A (.inl h))]
    |_=>exact⟨q,j,λt A=>u t (λh=>A (by simp only[mods];rw[mem_mods];exact .inl h)),r⟩
  |some L=>
   rw[W] at h;obtain⟨J,Z,R⟩:=h;refine wpIn_mono (ihx _ f a w d.1 Z hs ?_) ?_
   .intro l q w' r;exact E l q w' r
   .rintro e C w' ⟨q,j,u,r⟩;cases e with
    |normal=>
     have F:=R _ q _ r;simp only[UR u] at F;refine wpIn_mono (ihy K q C w' d.2 F j E) ?_;rintro e M w'' ⟨B,v,D,H⟩;refine⟨B,v,λt A=>?_,H⟩;simp only[mods] at A;rw[mem_mods] at A;rw[D t (λh=>A (.inr h)),u t (λh=>A (.inl h))]
    |_=>exact⟨q,j,λt A=>u t (λh=>A (by simp only[mods];rw[mem_mods];exact .inl h)),r⟩
 |cond x y z ihy ihz=>
  intro K f a w d h hs E;simp only[okC,gg] at d;simp only[vc] at h;unfold vif at h;split at h
  .rename_i V;refine wpIn_cond_true (by rw[hs.eval];exact V) (wpIn_mono (ihy K f a w d.1 h hs E) ?_);rintro e C w' ⟨q,j,u,r⟩;exact⟨q,j,λt A=>u t (λh=>A (by simp only[mods];rw[mem_mods];exact .inl h)),r⟩
  .rename_i V;refine wpIn_cond_false (by rw[hs.eval];exact V) (wpIn_mono (ihz K f a w d.2 h hs E) ?_);rintro e C w' ⟨q,j,u,r⟩;exact⟨q,j,λt A=>u t (λh=>A (by simp only[mods];rw[mem_mods];exact .inr h)),r⟩
  .exact h.elim
 |block id b O=>
  intro K f a w d h hs E;refine wpIn_block (wpIn_mono (O _ f a w d h hs ?_) ?_)
  .intro l q w' r;exact E l q w' r
  .rintro e C w' ⟨q,j,u,r⟩;cases e with
   |exit i=>
    simp only[Exit.inBlock];simp only[blkK] at r;cases F:Nat.beq i id
    .rw[F] at r;have:i≠id:=λe=>by subst e;simp at F
     rw[y3 this];exact⟨q,j,u,r⟩
    .rw[F] at r;rw[X0 (gB F)];exact⟨q,j,u,r⟩
   |_=>exact⟨q,j,u,r⟩
 |loop b O=>
  intro K f a w d h hs E;simp only[vc] at h;cases N:ZV0 T b with
  |none=>rw[N] at h;exact h.elim
  |some L=>
   rw[N] at h;obtain⟨I,Y,R⟩:=h;refine wpIn_loop (λC w'=> ∃q,Sim df n q C/\(∀t,t∉mods b []->q t=f t)/\∃k,I k (selL L q) w') (λC w'=>rank λk=>I k (selL L λt=>C.tmps.getD t undef) w')
    ⟨f,hs,λ_ _=>rfl,Y⟩ ?_
   rintro C w' ⟨q,j,u,hI⟩;obtain⟨U,_⟩:=zH0 hI;have F:=R _ _ q _ U;simp only[UR u] at F;refine wpIn_mono (O _ q C w' d F j ?_) ?_
   .intro l B w'' r;exact E l B w'' r
   .rintro e M w'' ⟨B,v,D,r⟩;have G:∀t,t∉mods b []->B t=f t:=λt A=>(D t A).trans (u t A);cases e with
    |normal=>
     obtain⟨m,S,hm⟩:=r;refine⟨⟨B,v,G,m,hm⟩,?_⟩;rw[v.fr,j.fr];exact PH ((zH0 ⟨m,hm⟩).2 m hm) S
    |_=>exact⟨B,v,G,r⟩
 |scope b O=>
  intro K f a w d h hs E;refine wpIn_scope_straight (wpIn_mono (O K f a w d h hs E) ?_);rintro e C w' ⟨q,j,u,r⟩;cases e with
  |goto l=>exact(E l _ _ r).elim
  |_=>exact⟨q,j,u,r⟩
def vlv (t:TypeId) (a:Value) (w:World) (K:oK):Prop:=XL (do loadVar t (<-asAddr a)) w λv w'=>w'=w/\K v w
def vresL:List ResultVar->Fr->World->(List Value->World->Prop)->Prop
 |[],_,w,K=>K [] w
 | .tmp t::r,f,w,K=>vresL r f w λl w=>K (f t::l) w
 | .cell a t::r,f,w,K=>vlv t (f a) w λv w=>vresL r f w λl w=>K (v::l) w
def tup:List Value->Value
 |[v]=>v
 |l=> .tuple ⟨l⟩
def YI0 (rs:List ResultVar) (f:Fr) (w:World) (K:oK):Prop:=vresL rs f w λl w=>K (tup l) w
def rdR (a:Act):ResultVar->Sem Value
 | .tmp t=>pure (a.tmps.getD t undef)
 | .cell x t=>do loadVar t (<-asAddr (a.tmps.getD x undef))
theorem yQ0 {f:Fr} {a:Act} {w:World} (hs:Sim df n f a):∀(rs:List ResultVar) (K:List Value->World->Prop),vresL rs f w K->
  ∃l,l.length=rs.length/\(rs.mapM (rdR a)).run P w= .ok l w/\K l w:=by
 intro rs;induction rs with
 |nil=>intro K h;exact⟨[],rfl,rfl,h⟩
 |cons r rs g=>
  intro K h;cases r with
  |tmp t=>
   obtain⟨l,d,e,c⟩:=g _ h;refine⟨f t::l,by simp[d],?_,c⟩;simp only[List.mapM_cons,rdR,Sem.run_bind,Sem.run_pure,Result.andThen_ok];rw[e];simp only[Result.andThen_ok,hs.at_]
  |cell x t=>
   obtain⟨v,w',b,hw,i⟩:=h;obtain⟨l,d,e,c⟩:=g _ i;subst hw;refine⟨v::l,by simp[d],?_,c⟩;rw[<-hs.at_ x] at b;simp only[List.mapM_cons,rdR,Sem.run_bind] at b⊢;rw[b];simp only[Result.andThen_ok,e,Sem.run_pure]
theorem tup_eq (l:List Value):(if h:(l.toArray).size=1 then(l.toArray)[0] else Value.tuple l.toArray)=tup l:=by
 match l with
 |[]=>rfl
 |[v]=>rfl
 |a::b::r=>simp[tup]
theorem vres_sound {fn:Func} {f:Fr} {a:Act} {w:World} {K:oK} (h:YI0 fn.results.toList f w K) (hs:Sim df n f a):
  ∃v,(results fn a.tmps).run P w= .ok v w/\K v w:=by
 obtain⟨l,_,d,c⟩:=yQ0 hs _ _ h;refine⟨tup l,?_,c⟩;have e:fn.results=fn.results.toList.toArray:=rfl;have b:results fn a.tmps=(do
   let vs <-fn.results.mapM (rdR a)
   pure (if h:vs.size=1 then vs[0] else .tuple vs)):=by
  unfold results;congr 2
 rw[b,e,List.mapM_toArray];simp only[Sem.run_bind,Sem.run_map];rw[d];simp only[Result.andThen_ok,Sem.run_pure];rw[tup_eq]
def retF (rs:List ResultVar) (K:oK) (e:Exit) (f:Fr) (w:World):Prop:=
 match e with
 | .normal=>YI0 rs f w K
 | .ret=>YI0 rs f w K
 |_=>False
def nthV:List Value->Fr
 |[],_=>undef
 |v::_,0=>v
 |_::l,t+1=>nthV l t
theorem Yo0 (l:List Value) (t:Nat):nthV l t=l.getD t undef:=by
 induction l generalizing t with
 |nil=>simp[nthV]
 |cons v l a=>cases t<;>simp[nthV,a]
theorem sim_enter (args:List Value) (m:Nat) (h:args.length<=m):
  Sim [] m (nthV args) {tmps:=(args.toArray)++Array.replicate (m-args.toArray.size) undef,defers:=[]}:=by
 refine⟨by simp;omega,rfl,λt=>?_⟩;rw[Yo0];simp only[gX,y4];rw[Array.getElem?_append];split
 .simp
 .rename_i a;simp only[pb,Nat.not_lt] at a;rw[Pn a];rw[Array.getElem?_replicate];split<;>rfl
theorem qu0 {g:Nat} {fn:Func} {c:Code} {args:List Value} {w:World} {K:oK} (hm:P.follows .mixedOrders=true) (m:P.funcs[g]?=some fn) (k:fn.body=some c)
  (p:fn.ntmps=n) (o:okFn g=true) (d:okC n T c=true) (hlen:Nat.ble args.length n=true)
  (h:vc T c (retF fn.results.toList K) (nthV args) w):vcall g args.toArray w K:=by
 refine⟨o,callsIn_wide (n:=0).1 (callsIn_of_wp m k trivial ?_)⟩;rw[p];refine wpIn_mono (vc_sound hm c _ _ _ w d h (sim_enter args n (Po hlen)) (λl f w h=>h)) ?_;rintro e q w' ⟨r,a,_,b⟩;cases e with
 |normal=>obtain⟨v,i,j⟩:=vres_sound b a;exact⟨a.defers,v,i,j⟩
 |ret=>obtain⟨v,i,j⟩:=vres_sound b a;exact⟨a.defers,v,i,j⟩
 |_=>exact b.elim
end
def Ym0 (T:Ann) (g:Nat) (fn:Func) (args:List Value):Bool:=okFn g&&okC fn.ntmps T (fn.body.getD .skip)&&Nat.ble args.length fn.ntmps&&fn.body.isSome&&P.follows .mixedOrders
theorem XJ (T:Ann) {g:Nat} {fn:Func} {args:List Value} {w:World} {K:oK} {F:Prop} (k:P.funcs[g]?=some fn) (a:Ym0 T g fn args=true)
  (hF:vc T (fn.body.getD .skip) (retF fn.results.toList K) (nthV args) w=F) (h:F):vcall g args.toArray w K:=by
 simp only[Ym0,gg] at a;obtain⟨⟨⟨⟨e,b⟩,f⟩,i⟩,j⟩:=a;obtain⟨c,d⟩:=G6.1 i;have he:fn.body.getD .skip=c:=by rw[d];rfl
 rw[he] at b hF;exact qu0 j k d rfl e b f (hF▸h)
theorem cQ (T:Ann) {g:Nat} {fn:Func} {args:List Value} {w:World} {K:oK} {F:Prop} (hf:P.funcs[g]?=some fn) (h:F) (hall:Ym0 T g fn args=true:=by kernel_rfl) (hF:vc T (fn.body.getD .skip) (retF fn.results.toList K) (nthV args) w=F:=by kernel_rfl):vcall g args.toArray w K:=XJ T hf hall hF h
theorem ji {z:List Value} {w:World} {B:(List Value->World->Prop)->List Value->Fr->World->Prop} (I:Nat->List Value->World->Prop) (n:Nat) (c:I n z w)
  (h:∀n u g w' C,I n u w'->(∀m b w'',m<n->I m b w''->C b w'')->B C u g w'):WO z w B:=
 ⟨I,⟨n,c⟩,λn u g w' d=>h n u g w' _ d λm _ _ a hm=>⟨m,a,hm⟩⟩
theorem vloop_up {z:List Value} {w:World} {B:(List Value->World->Prop)->List Value->Fr->World->Prop} (N:Nat) (I:Nat->List Value->World->Prop) (d:I 0 z w)
  (h:∀k u g w' C,k<=N->I k u w'->(k<N->∀a w'',I (k+1) a w''->C a w'')->B C u g w'):WO z w B:=by
 refine ji (λn u w=> ∃k,k<=N/\n=N-k/\I k u w) N ⟨0,Gf _,oM,d⟩ ?_;rintro n u g w' C ⟨k,i,rfl,f⟩ e;exact h k u g w' C i f λc a w'' b=>e (N-(k+1)) a w'' oM ⟨k+1,c,rfl,b⟩
theorem zp {A:(List Value->World->Prop)->Prop} {B:List Value->Fr->World->Prop} (J:List Value->World->Prop)
  (a:∀C,(∀u w,J u w->C u w)->A C) (b:∀u g w,J u w->B u g w):qX0 A B:=⟨J,a J λ_ _ h=>h,b⟩
end
inductive E where
 |op (o:Op) (ty:Nat) (k:E)
 |call (g:Nat) (xs:List Operand) (k:E)
 |st (o:Op) (ty:Nat) (k:E)
 |ck (o:Op) (ty i:Nat) (k:E)
 |mv (x:Operand) (k:E)
 |vif (x:Operand) (a b:E)
 |draw (k:E)
 |and (a b:E)
 |tt
 |ff
 |join (m:Nat) (a b:E)
 |loop (z:List Operand) (m:Nat) (b:E)
 |jmp (j:Nat) (xs:List Operand)
 |lv (t:Nat) (x:Operand) (k:E)
 |ret1 (x:Operand)
 |ret (xs:List Operand)
def nthJ:List (List Value->World->Prop)->Nat->List Value->World->Prop
 |[],_=>λ_ _=>False
 |J::_,0=>J
 |_::l,t+1=>nthJ l t
def pus:Nat->List Value->List Value->List Value
 |0,_,vs=>vs
 |m+1,u,vs=>sl m u::pus m u vs
def den (R:oK):E->List Value->List (List Value->World->Prop)->World->Prop
 | .op o ty k,vs,js,w=>vop o ty (nthV vs) w λv w=>den R k (v::vs) js w
 | .call g xs k,vs,js,w=>vcall g (evL (nthV vs) xs).toArray w λv w=>den R k (v::vs) js w
 | .st o ty k,vs,js,w=>vop o ty (nthV vs) w λv w'=>w'=w/\den R k (v::vs) js w
 | .ck o ty i k,vs,js,w=>(vop o ty (nthV vs) w λv x=>v=nthV vs i/\x=w)/\den R k vs js w
 | .mv x k,vs,js,w=>den R k (ev (nthV vs) x::vs) js w
 | .vif x a b,vs,js,w=>Vc.vif (ev (nthV vs) x) (den R a vs js w) (den R b vs js w)
 | .draw k,vs,js,w=>ZK w λw=>den R k vs js w
 | .and a b,vs,js,w=>den R a vs js w/\den R b vs js w
 | .tt,_,_,_=>True
 | .ff,_,_,_=>False
 | .join m a b,vs,js,w=>qX0 (λJ=>den R a vs (J::js) w) λu _ w=>den R b (pus m u vs) js w
 | .loop z m b,vs,js,w=>WO (evL (nthV vs) z) w λC u _ w=>den R b (pus m u vs) (C::js) w
 | .jmp j xs,vs,js,w=>nthJ js j (evL (nthV vs) xs) w
 | .lv t x k,vs,js,w=>vlv t (ev (nthV vs) x) w λv w=>den R k (v::vs) js w
 | .ret1 x,vs,_,w=>R (ev (nthV vs) x) w
 | .ret xs,vs,_,w=>R (.tuple (evL (nthV vs) xs).toArray) w
abbrev En:=List (Nat×Option (Nat×Option Bool))
structure St where
 n:Nat
 j:Nat
 e:En
def lkL (t:Nat):List (Nat×List Nat)->Option (List Nat)
 |[]=>none
 |(k,v)::r=>(match t==k with|true=>some v|false=>lkL t r)
def lkT {α:Type} (t:Nat):List (Nat×α)->Option α
 |[]=>none
 |(k,v)::r=>(match t==k with|true=>some v|false=>lkT t r)
def ldE (t:Nat):List (Nat×List Nat)->List Nat
 |[]=>[]
 |(k,v)::r=>(match t==k with|true=>v|false=>ldE t r)
def dlE (d:Option Nat) (sk:List Nat):List Nat:=
 match sk with
 |[]=>[]
 |y::r=>match d with|some x=>(match x==y with|true=>dlE d r|false=>y::dlE d r)|none=>y::r
def meE (x:Nat):List Nat->Bool
 |[]=>false
 |y::r=>(match x==y with|true=>true|false=>meE x r)
def lkE (t:Nat):En->Option (Nat×Option Bool)
 |[]=>none
 |(k,v)::r=>(match t==k with|true=>v|false=>lkE t r)
def rnE (n:Nat) (e:En):Operand->Operand
 | .tmp t=>match lkE t e with|some (l,_)=> .tmp (n-1-l)|none=> .const undef
 |x=>x
def knE (e:En):Operand->Option Bool
 | .tmp t=>match lkE t e with|some (_,b)=>b|none=>none
 | .const (.bool b)=>some b
 |_=>none
def mL (r:Operand->Operand):List Operand->List Operand
 |[]=>[]
 |x::l=>r x::mL r l
def mP (r:Operand->Operand):List (Nat×Operand)->List (Nat×Operand)
 |[]=>[]
 |x::l=>(x.1,r x.2)::mP r l
def mOp (r:Operand->Operand):Option Operand->Option Operand
 |some x=>some (r x)
 |none=>none
def mO (r:Operand->Operand):Op->Op
 | .pick a b c=> .pick (r a) (r b) (r c)
 | .box t x=> .box t (r x)
 | .build t ps=> .build t ⟨mP r ps.toList⟩
 | .buildSlice t n ps=> .buildSlice t n ⟨mP r ps.toList⟩
 | .insert t a b c=> .insert t (r a) (r b) (r c)
 | .load t a=> .load t (r a)
 | .store t a b=> .store t (r a) (r b)
 | .nilCheck x=> .nilCheck (r x)
 | .binOp o t x y u=> .binOp o t (r x) (r y) u
 | .unOp o t x=> .unOp o t (r x)
 | .convert s d x=> .convert s d (r x)
 | .makeInterface t x=> .makeInterface t (r x)
 | .makeFunc f a b=> .makeFunc f ⟨mL r a.toList⟩ ⟨mL r b.toList⟩
 | .makeMap t x=> .makeMap t (mOp r x)
 | .makeSlice t a b=> .makeSlice t (r a) (r b)
 | .slice t x a b c=> .slice t (r x) (mOp r a) (mOp r b) (mOp r c)
 | .fieldAddr t x f=> .fieldAddr t (r x) f
 | .field t x f=> .field t (r x) f
 | .indexAddr t x i=> .indexAddr t (r x) (r i)
 | .index t x i=> .index t (r x) (r i)
 | .lookup t x i o=> .lookup t (r x) (r i) o
 | .mapUpdate t a b c=> .mapUpdate t (r a) (r b) (r c)
 | .range t x=> .range t (r x)
 | .next x s=> .next (r x) s
 | .entry x=> .entry (r x)
 | .typeAssert x t u o=> .typeAssert (r x) t u o
 | .extract x i=> .extract (r x) i
 | .call c=> .call ⟨match c.callee with| .value x=> .value (r x)| .invoke x m=> .invoke (r x) m| .builtin b=> .builtin b,⟨mL r c.args.toList⟩,c.argTypes⟩
 |o=>o
def St.new (s:St) (d:Option Nat) (b:Option Bool):St:=⟨s.n+1,s.j,match d with|some d=>(d,some (s.n,b))::s.e|none=>s.e⟩
def St.set (s:St) (d:Option Nat) (v:Option (Nat×Option Bool)):St:=⟨s.n,s.j,match d with|some d=>(d,v)::s.e|none=>s.e⟩
abbrev YH0:=List (List Nat×Op×Nat×En×Nat)
def ckE (i n:Nat):YH0->E->E
 |[],k=>k
 |(j,o,ty,e,l)::r,k=>(match meE i j with|true=>ckE i n r k|false=> .ck (mO (rnE n e) o) ty (n-1-l) (ckE i n r k))
def flE (i:Nat):YH0->YH0
 |[]=>[]
 |p::r=>(match meE i p.1 with|true=>flE i r|false=>p::flE i r)
def cpE (s:St) (d:Option Nat) (x:Operand) (N:St->E):E:=
 match x with
 | .tmp t=>N (s.set d (lkE t s.e))
 | .const v=> .mv x (N (s.new d (match v with| .bool b=>some b|_=>none)))
 |_=> .mv x (N (s.new d none))
def putE (s:St) (op:Op) (ty:Nat) (k:E):E:=
 match op with
 | .call ⟨.value (.func g),xs,_⟩=> .call g (mL (rnE s.n s.e) xs.toList) k
 |op=> .op (mO (rnE s.n s.e) op) ty k
def oneE (dr:Bool) (D:Nat->List Nat) (i:Nat) (o:Oper) (sk:List Nat) (acc:YH0) (s:St) (N:List Nat->YH0->St->E):E:=
 match o.op with
 | .move x=>cpE s o.dst x λs=>N (dlE o.dst sk) acc s
 | .assign x=>cpE s o.dst x λs=>N (dlE o.dst sk) acc s
 | .panic _=> .ff
 | .pick c a b=>match knE s.e c with
  |some true=>cpE s o.dst a λs=>N (dlE o.dst sk) acc s
  |some false=>cpE s o.dst b λs=>N (dlE o.dst sk) acc s
  |none=> .op (.pick (rnE s.n s.e c) (rnE s.n s.e a) (rnE s.n s.e b)) o.type (N (dlE o.dst sk) acc (s.new o.dst none))
 |op=>match dr with
  |false=>putE s op o.type (N (dlE o.dst sk) acc (s.new o.dst none))
  |true=>match isStatic op with
   |true=> .st (mO (rnE s.n s.e) op) o.type (N (dlE o.dst sk) ((D i,op,o.type,s.e,s.n)::acc) (s.new o.dst none))
   |false=>putE s op o.type (ckE i (s.n+1) acc (N (dlE o.dst sk) (flE i acc) (s.new o.dst none)))
def gdE (ops:List Oper) (g:Option (Nat×Bool)) (sk:List Nat) (s:St) (run skip:St->E):E:=
 match g with
 |none=>run s
 |some (j,b)=>match dstOf ops j with
  |none=> .ff
  |some d=>match meE d sk with
   |true=>skip s
   |false=>match knE s.e (.tmp d) with
    |some c=>(match c==b with|true=>run s|false=>skip s)
    |none=>match b with
     |true=> .vif (rnE s.n s.e (.tmp d)) (.mv (.const (.bool true)) (run (s.new (some d) (some true)))) (.mv (.const (.bool false)) (skip (s.new (some d) (some false))))
     |false=> .vif (rnE s.n s.e (.tmp d)) (.mv (.const (.bool true)) (skip (s.new (some d) (some true)))) (.mv (.const (.bool false)) (run (s.new (some d) (some false))))
def opsE (ops:List Oper) (dr:Bool) (D:Nat->List Nat) (K:St->E):List Nat->List Nat->YH0->St->E
 |[],_,_,s=>K s
 |i::r,sk,acc,s=>match nth ops i with
  |none=> .ff
  |some o=>gdE ops o.guard sk s (λs=>oneE dr D i o sk acc s (opsE ops dr D K r)) (λs=>opsE ops dr D K r (skAdd o.dst sk) acc (s.set o.dst none))
def q90 (ops:List Oper) (D:Nat->List Nat) (K:St->E):OT->List Nat->YH0->St->E
 | .nil,_,_,s=>K s
 | .no,_,_,_=> .tt
 | .st i t,sk,acc,s=>match nth ops i with
  |none=> .ff
  |some o=>gdE ops o.guard sk s (λs=>oneE true D i o sk acc s (q90 ops D K t)) (λs=>q90 ops D K t (skAdd o.dst sk) acc (s.set o.dst none))
 | .alt i t r,sk,acc,s=> .and (match nth ops i with
  |none=> .ff
  |some o=>gdE ops o.guard sk s (λs=>oneE true D i o sk acc s (q90 ops D K t)) (λs=>q90 ops D K t (skAdd o.dst sk) acc (s.set o.dst none))) (q90 ops D K r sk acc s)
def inE (n:Nat):List Nat->En->En
 |[],e=>e
 |t::r,e=>(t,some (n,none))::inE (n+1) r e
def Xb0:List Nat->Nat
 |[]=>0
 |_::r=>Xb0 r+1
def kR0 (s:St):List Nat->List Operand
 |[]=>[]
 |t::r=>rnE s.n s.e (.tmp t)::kR0 s r
def seqE (N:St->E) (K:Exit->St->E) (e:Exit) (s:St):E:=match e with| .normal=>N s|e=>K e s
def blkE (id:Nat) (K:Exit->St->E) (e:Exit) (s:St):E:=
 match e with
 | .exit i=>(match i==id with|true=>K .normal s|false=>K (.exit i) s)
 |e=>K e s
def cutE (T:Ann) (a c:Code):Option (List Nat):=
 match T.cuts with
 |[]=>none
 |l=>match firstR c with
  |some i=>lkL ((match firstR a with|some j=>j+1 |none=>0)*4096+i) l
  |none=>none
def loE (T:Ann) (c:Code):Option (List Nat):=match firstR c with|some i=>lkL i T.loops|none=>none
def cE (T:Ann):Code->(Exit->St->E)->St->E
 | .skip,K,s=>K .normal s
 | .label _,K,s=>K .normal s
 | .region id ops dr,K,s=>match dr with
  |false=>opsE ops.toList false (λ_=>[]) (λs=>K .normal s) (upto (lenO ops.toList) 0) [] [] s
  |true=>match lkT id T.ord with
   |some p=> .draw (opsE ops.toList true (λi=>ldE i p.2) (λs=>K .normal s) p.1 [] [] s)
   |none=>match lkT id T.trees with
    |some p=> .draw (q90 ops.toList (λi=>ldE i p.2) (λs=>K .normal s) p.1 [] [] s)
    |none=> .ff
 | .seq a b,K,s=>match cutE T a b with
  |some L=> .join (Xb0 L) (cE T a (seqE (λs'=> .jmp (s'.j-1-s.j) (kR0 s' L)) K) ⟨s.n,s.j+1,s.e⟩) (cE T b K ⟨s.n+Xb0 L,s.j,inE s.n L s.e⟩)
  |none=>cE T a (seqE (λs=>cE T b K s) K) s
 | .cond c a b,K,s=>match knE s.e c with
  |some true=>cE T a K s
  |some false=>cE T b K s
  |none=> .vif (rnE s.n s.e c) (cE T a K s) (cE T b K s)
 | .block id b,K,s=>cE T b (blkE id K) s
 | .loop b,K,s=>match loE T b with
  |some L=> .loop (kR0 s L) (Xb0 L) (cE T b (seqE (λs'=> .jmp (s'.j-1-s.j) (kR0 s' L)) K) ⟨s.n+Xb0 L,s.j+1,inE s.n L s.e⟩)
  |none=> .ff
 | .exit id,K,s=>K (.exit id) s
 | .ret,K,s=>K .ret s
 | .scope b,K,s=>cE T b K s
 |_,_,_=> .ff
def reE:List ResultVar->St->(St->List (En×Nat)->E)->E
 |[],s,K=>K s []
 | .tmp t::r,s,K=>reE r s λs' l=>K s' ((s.e,t)::l)
 | .cell a t::r,s,K=> .lv t (rnE s.n s.e (.tmp a)) (reE r (s.new none none) λs' l=>K s' (([(0,some (s.n,none))],0)::l))
def outE (s:St):List (En×Nat)->List Operand
 |[]=>[]
 |p::r=>rnE s.n p.1 (.tmp p.2)::outE s r
def fE (rs:List ResultVar) (e:Exit) (s:St):E:=
 match e with
 | .normal=>reE rs s λs l=>match outE s l with|[x]=> .ret1 x|l=> .ret l
 | .ret=>reE rs s λs l=>match outE s l with|[x]=> .ret1 x|l=> .ret l
 |_=> .ff
def argE:Nat->Nat->En
 |0,_=>[]
 |n+1,t=>(t,some (n,none))::argE n (t+1)
def cF (T:Ann) (fn:Func) (n:Nat):E:=cE T (fn.body.getD .skip) (fE fn.results.toList) ⟨n,0,argE n 0⟩
theorem ap_n {α:Type} (l:List α):[]++l=l:=rfl
theorem ap_c {α:Type} (a:α) (l m:List α):a::l++m=a::(l++m):=rfl
theorem or_t (b:Bool):(true||b)=true:=rfl
theorem or_f (b:Bool):(false||b)=b:=rfl
def alE (p:Nat->Bool):List Nat->Bool
 |[]=>true
 |x::r=>(match p x with|true=>alE p r|false=>false)
def fsE (p:Nat->Bool):List Nat->Option Nat
 |[]=>none
 |x::r=>(match p x with|true=>some x|false=>fsE p r)
def fiE (p:Nat->Bool):List Nat->List Nat
 |[]=>[]
 |x::r=>(match p x with|true=>x::fiE p r|false=>fiE p r)
def noE (x:Nat):List Nat->List Nat
 |[]=>[]
 |y::r=>(match x==y with|true=>noE x r|false=>y::noE x r)
def edE (ops:List Oper) (x:Nat):List Nat:=match nth ops x with|some o=>mxE o.after.toList|none=>[]
where mxE:List Edge->List Nat
 |[]=>[]
 |d::r=>(match Region.binds .any d with|true=>d.on::mxE r|false=>mxE r)
def stE (ops:List Oper) (x:Nat):Bool:=match nth ops x with|some a=>isStatic a.op|none=>false
def grE (ops:List Oper):Nat->List Nat->List Nat->List Nat
 |0,_,_=>[]
 |n+1,done,left=>match fsE (λx=>match alE (λe=>meE e done) (edE ops x) with|true=>stE ops x|false=>false) left with
  |some x=>x::grE ops n (x::done) (noE x left)
  |none=>match fsE (λx=>alE (λe=>meE e done) (edE ops x)) left with
   |some x=>x::grE ops n (x::done) (noE x left)
   |none=>[]
def dsE (ops:List Oper) (ds:List Nat):List Nat->List Nat
 |[]=>[]
 |y::r=>(match alE (λe=>match meE e ds with|true=>false|false=>true) (edE ops y) with|true=>dsE ops ds r|false=>y::dsE ops (y::ds) r)
def tbE (ops:List Oper):List Nat->List (Nat×List Nat)
 |[]=>[]
 |x::r=>(x,dsE ops [x] r)::tbE ops r
def okE (ops:List Oper):List (Nat×List Nat)->List Nat->Bool
 |(x,ds)::t,_::r=>(match(match stE ops x with|true=>true|false=>alE (λy=>meE y ds) r) with|true=>okE ops t r|false=>false)
 |_,_=>true
def alT (f:Nat->OT):List Nat->OT
 |[]=> .no
 |i::r=> .alt i (f i) (alT f r)
def otE (ops:List Oper):Nat->List Nat->OT
 |0,_=> .nil
 |n+1,R=>match R with
  |[]=> .nil
  |_=>(λr=>match fsE (stE ops) r with
   |some i=> .st i (otE ops n (noE i R))
   |none=>alT (λi=>otE ops n (noE i R)) r) (fiE (λi=>alE (λe=>match meE e R with|true=>false|false=>true) (edE ops i)) R)
def rgE:Code->List (Nat×List Oper)->List (Nat×List Oper)
 | .region id ops dr,l=>(match dr with|true=>(id,ops.toList)::l|false=>l)
 | .seq a b,l=>rgE a (rgE b l)
 | .cond _ a b,l=>rgE a (rgE b l)
 | .block _ b,l=>rgE b l
 | .loop b,l=>rgE b l
 | .scope b,l=>rgE b l
 |_,l=>l
def anE (T:Ann):List (Nat×List Oper)->Ann
 |[]=>T
 |(id,ops)::r=>(λo=>(λt=>match okE ops t o with
  |true=>(λA=>{A with ord:=(id,o,t)::A.ord}) (anE T r)
  |false=>(λA=>{A with trees:=(id,otE ops (lenO ops) (upto (lenO ops) 0),t)::A.trees}) (anE T r)) (tbE ops o)) (grE ops (lenO ops) [] (upto (lenO ops) 0))
def aN (T:Ann) (fn:Func):Ann:=anE T (rgE (fn.body.getD .skip) [])
theorem ze (T0:Ann) {T:Ann} {g:Nat} {fn:Func} {args:List Value} {w:World} {K:oK} {F:Prop} {e:E} (hf:P.funcs[g]?=some fn) (h:F) (hT:aN T0 fn=T:=by cbv) (hall:Ym0 T g fn args=true:=by kernel_rfl) (hC:cF T fn args.length=e:=by cbv)
  (hE:vc T (fn.body.getD .skip) (retF fn.results.toList K) (nthV args) w=den K e args [] w:=by kernel_rfl) (hF:den K e args [] w=F:=by conv=>lhs;dsimp only[Go.Vc.den,Go.Vc.vop,Go.Vc.nthV,Go.Vc.ev,Go.Vc.evL,Go.Vc.evP,Go.Vc.evO,Go.Vc.isC,Go.Vc.pus,Go.Vc.nthJ,Go.Vc.or_t,Go.Vc.or_f,Go.Vc.ap_n,Go.Vc.ap_c]):vcall g args.toArray w K:=XJ T hf hall (hE.trans hF) h
section
section
variable {w:World} {K:oK}
theorem y9 {α:Type} {s:Sem α} {K:α->World->Prop} {v:α} {w':World} (h:s.run P w= .ok v w'):XL s w K=K v w':=by
 apply propext;constructor
 .rintro⟨a,b,c,k⟩;rw[h] at c;cases c;exact k
 .exact λk=>⟨_,_,h,k⟩
@[push_cast] theorem YZ0 (A B:Prop):vif (.bool true) A B=A:=rfl
@[push_cast] theorem vif_f (A B:Prop):vif (.bool false) A B=B:=rfl
theorem zb {p:Prop} [Decidable p] {A B:Prop} (h:p->A) (b: ¬p->B):vif (.bool (decide p)) A B:=by
 by_cases a:p
 .rw[gz a];exact h a
 .rw[gm a];exact b a
theorem zm {b:Bool} {A B:Prop} (h:b=true->A) (a:b=false->B):vif (.bool b) A B:=by
 cases b
 .exact a rfl
 .exact h rfl
@[push_cast] theorem vpick_t (a b:Value):vpick (.bool true) a b w K=K a w:=rfl
@[push_cast] theorem vpick_f (a b:Value):vpick (.bool false) a b w K=K b w:=rfl
@[push_cast] theorem vpick_bb (c x y:Bool):vpick (.bool c) (.bool x) (.bool y) w K=K (.bool (if c then x else y)) w:=by cases c<;>rfl
@[push_cast] theorem vnil_ptr (a:Addr):vnil P (.pointer (some a)) w K=K (.pointer (some a)) w:=propext ⟨λh=>h.h,λh=>⟨h⟩⟩
@[push_cast] theorem Yb0 (g:Nat) (a b args:Array Value):vcallv (.func (.func g) a b) args w K=vcall g ⟨(a.toList++args.toList)++b.toList⟩ w K:=rfl
@[push_cast] theorem vun_not (b:Bool):vun .not (.bool b) w K=K (.bool (!b)) w:=y9 rfl
@[push_cast] theorem Y80 (k:IntKind) (n:Int):vun .neg (.int k n) w K=K (.int k (k.wrap (0-n))) w:=y9 rfl
theorem yp {op:BinOp} {t:TypeId} {c:Bool} {a b v:Value} (d:(eqG op t c a b).run P w= .ok () w) (e:(binOp op t a b).run P w= .ok v w):
  qu op t c a b w K=K v w:=y9 (by simp only[Sem.run_bind,d,Result.andThen_ok,e])
@[push_cast] theorem XS (t:TypeId) (c:Bool) (k:IntKind) (a b:Int):qu .add t c (.int k a) (.int k b) w K=K (.int k (k.wrap (a+b))) w:=yp rfl (by simp[binOp,Op.intArith])
@[push_cast] theorem Yw (t:TypeId) (c:Bool) (k:IntKind) (a b:Int):qu .sub t c (.int k a) (.int k b) w K=K (.int k (k.wrap (a-b))) w:=yp rfl (by simp[binOp,Op.intArith])
@[push_cast] theorem kK0 (t:TypeId) (c:Bool) (k:IntKind) (a b:Int):qu .mul t c (.int k a) (.int k b) w K=K (.int k (k.wrap (a*b))) w:=yp rfl (by simp[binOp,Op.intArith])
@[push_cast] theorem kL0 (t:TypeId) (c:Bool) (k:IntKind) (a b:Int):qu .lss t c (.int k a) (.int k b) w K=K (.bool (decide (a<b))) w:=yp rfl (by simp[binOp,Op.intCmp])
@[push_cast] theorem vbin_leq (t:TypeId) (c:Bool) (k:IntKind) (a b:Int):qu .leq t c (.int k a) (.int k b) w K=K (.bool (decide (a<=b))) w:=yp rfl (by simp[binOp,Op.intCmp])
@[push_cast] theorem xt0 (t:TypeId) (c:Bool) (k:IntKind) (a b:Int):qu .gtr t c (.int k a) (.int k b) w K=K (.bool (decide (b<a))) w:=yp rfl (by simp[binOp,Op.intCmp])
@[push_cast] theorem vbin_geq (t:TypeId) (c:Bool) (k:IntKind) (a b:Int):qu .geq t c (.int k a) (.int k b) w K=K (.bool (decide (b<=a))) w:=yp rfl (by simp[binOp,Op.intCmp])
@[push_cast] theorem xu0 (t:TypeId) (c:Bool) (k:IntKind) (a b:Int):qu .eql t c (.int k a) (.int k b) w K=K (.bool (decide (a=b))) w:=
 yp rfl (by simp[binOp,Op.intCmp];by_cases h:a=b<;>simp[h])
@[push_cast] theorem xs0 (t:TypeId) (c:Bool) (k:IntKind) (a b:Int):qu .neq t c (.int k a) (.int k b) w K=K (.bool (decide (a≠b))) w:=
 yp rfl (by simp[binOp,Op.intCmp];by_cases h:a=b<;>simp[h])
theorem zk {x:Int} (h: -9223372036854775808<=x) (a:x<=9223372036854775807):IntKind.i64.wrap x=x:=IntWalk.i64_in x ⟨h,a⟩
@[push_cast] theorem kI0 (a:Value):qo (.tuple #[a]) 0 w K=K a w:=y9 rfl
@[push_cast] theorem kH0 (a b:Value):qo (.tuple #[a,b]) 0 w K=K a w:=y9 rfl
@[push_cast] theorem kG0 (a b:Value):qo (.tuple #[a,b]) 1 w K=K b w:=y9 rfl
@[push_cast] theorem j20 (a b c:Value):qo (.tuple #[a,b,c]) 0 w K=K a w:=y9 rfl
@[push_cast] theorem j00 (a b c:Value):qo (.tuple #[a,b,c]) 1 w K=K b w:=y9 rfl
@[push_cast] theorem qZ0 (a b c:Value):qo (.tuple #[a,b,c]) 2 w K=K c w:=y9 rfl
@[push_cast] theorem vmkF_eq (fn:Fn) (a b:List Value):vmkF fn a b w K=K (.func fn ⟨a⟩ ⟨b⟩) w:=y9 rfl
@[push_cast] theorem sl0 (a:Value) (l:List Value):sl 0 (a::l)=a:=rfl
@[push_cast] theorem sl1 (a b:Value) (l:List Value):sl 1 (a::b::l)=b:=rfl
@[push_cast] theorem sl2 (a b c:Value) (l:List Value):sl 2 (a::b::c::l)=c:=rfl
@[push_cast] theorem sl3 (a b c d:Value) (l:List Value):sl 3 (a::b::c::d::l)=d:=rfl
@[push_cast] theorem sl4 (a b c d e:Value) (l:List Value):sl 4 (a::b::c::d::e::l)=e:=rfl
@[push_cast] theorem sl5 (a b c d e f:Value) (l:List Value):sl 5 (a::b::c::d::e::f::l)=f:=rfl
@[push_cast] theorem sl6 (a b c d e f g:Value) (l:List Value):sl 6 (a::b::c::d::e::f::g::l)=g:=rfl
@[push_cast] theorem sl7 (a b c d e f g h:Value) (l:List Value):sl 7 (a::b::c::d::e::f::g::h::l)=h:=rfl
end
structure Same (S:oA) (w w':World):Prop where
 os:w'.os=w.os
 tape:w'.tape=w.tape
 output:w'.output=w.output
 size:w.heap.size<=w'.heap.size
 block:∀b,b<w.heap.size->¬S b->w'.heap[b]?=w.heap[b]?
abbrev Ext (w w':World):Prop:=Same (λ_=>False) w w'
theorem Same.refl (S:oA) (w:World):Same S w w:=⟨rfl,rfl,rfl,gr _,λ_ _ _=>rfl⟩
theorem Same.trans {S:oA} {a b c:World} (h:Same S a b) (k:Same S b c):Same S a c:=
 ⟨k.os.trans h.os,k.tape.trans h.tape,k.output.trans h.output,gY h.size k.size,λi hi hs=>(k.block i (pH hi h.size) hs).trans (h.block i hi hs)⟩
theorem Same.mono {S S':oA} {a b:World} (h:Same S a b) (hs:∀x,x<a.heap.size->S x->S' x):Same S' a b:=
 ⟨h.os,h.tape,h.output,h.size,λi hi c=>h.block i hi (λd=>c (hs i hi d))⟩
theorem Same.of_ext {S:oA} {a b:World} (h:Ext a b):Same S a b:=h.mono λ_ _ h=>h.elim
theorem Ext.then {S:oA} {a b c:World} (h:Ext a b) (k:Same S b c) (hs:∀x,S x->a.heap.size<=x):Ext a c:=
 ⟨k.os.trans h.os,k.tape.trans h.tape,k.output.trans h.output,gY h.size k.size,λi hi _=>
  (k.block i (pH hi h.size) (λd=>by have:=hs i d;omega)).trans (h.block i hi id)⟩
theorem Zu0 (w:World):Ext w {w with drawn:=w.drawn+1}:=⟨rfl,rfl,rfl,gr _,λ_ _ _=>rfl⟩
theorem Same.cell {S:oA} {w w':World} (h:Same S w w') {a:Addr} (hs: ¬S a.block) {v:Value} (b:w.cell? a=some v):w'.cell? a=some v:=
 (World.cell?_of_block (h.block a.block (World.block_lt_of_cell? w a b) hs)).trans b
theorem zd {w:World} {K:World->Prop} (h:∀w',Ext w w'->w'.heap=w.heap->K w'):ZK w K:=h _ (Zu0 w) rfl
section
variable {w:World} {K:oK}
def oneB (t:TypeId):Bool:=match P.underlying t with
 |some (.struct _)=>false
 |some (.array _ _)=>false
 |some _=>true
 |none=>false
def aggB (t:TypeId) (n:Nat):Bool:=(match P.underlying t with
 |some (.struct _)=>true
 |some (.array _ _)=>true
 |_=>false)&&(match P.info? t with|some i=>Nat.beq i.size n|none=>false)
theorem WV {t:TypeId} (h:oneB t=true):(isAgg t).run P w= .ok false w:=by
 unfold oneB at h;cases hu:P.underlying t with
 |none=>rw[hu] at h;cases h
 |some d=>rw[hu] at h;cases d<;>simp[isAgg,underlying,program,hu,Sem.run] at h⊢
theorem WW {t:TypeId} {n:Nat} (h:aggB t n=true):(isAgg t).run P w= .ok true w:=by
 unfold aggB at h;cases hu:P.underlying t with
 |none=>rw[hu] at h;simp at h
 |some d=>rw[hu] at h;cases d<;>simp[isAgg,underlying,program,hu,Sem.run] at h⊢
theorem jj {t:TypeId} {n:Nat} (h:aggB t n=true):(sizeOf t).run P w= .ok n w:=by
 unfold aggB at h;cases hi:P.info? t with
 |none=>rw[hi] at h;simp at h
 |some i=>
  rw[hi] at h;simp only[gg] at h;have:=gB h.2;simp[sizeOf,typeInfo,program,hi,Sem.run,this]
theorem zZ {t:TypeId} (b:oneB t=true) {a:Addr} {v:Value} (h:w.cell? a=some v):zu t (.pointer (some a)) w K=K v w:=by
 refine y9 ?_;simp only[Instr.loadAt,Instr.sureAddr,Sem.run_bind,Sem.run_pure,Result.andThen_ok,loadVar,WV b,Gd,if_false];simp[load,Sem.run,h]
def Cells (w:World) (a:Addr) (cs:List Value):Prop:=∀i v,cs[i]?=some v->w.cell? (a.add i)=some v
theorem QJ {a:Addr}:∀(cs:List Value) (i:Nat) (acc:Array Value),(∀j v,cs[j]?=some v->w.cell? (a.add (i+j))=some v)->
  (loadCellsFrom a i cs.length acc).run P w= .ok (acc++cs.toArray) w:=by
 intro cs;induction cs with
 |nil=>intro i acc _;simp[loadCellsFrom]
 |cons c cs f=>
  intro i acc h;have b:=h 0 c (by simp);rw[G7] at b;have e:(load (a.add i)).run P w= .ok c w:=(by simp[load,Sem.run,b]);simp only[gF,loadCellsFrom,Sem.run_bind,e,Result.andThen_ok];rw[f (i+1) (acc.push c) (λj v d=>by have:=h (j+1) v (by simpa using d);rwa[Pw,Nat.add_comm 1 j])];simp
theorem XP {t:TypeId} {cs:List Value} (b:aggB t cs.length=true) {a:Addr} (h:Cells w a cs):zu t (.pointer (some a)) w K=K (.agg cs.toArray) w:=by
 refine y9 ?_;have d:=QJ (w:=w) (a:=a) cs 0 #[] (λj v c=>by rw[Gi];exact h j v c);simp only[Instr.loadAt,Instr.sureAddr,Sem.run_bind,Sem.run_pure,Result.andThen_ok,loadVar,WW b,if_true,jj b,loadCells,d];simp
theorem ZG0 {t:TypeId} {a:Addr} {v:Value} (h:zu t (.pointer (some a)) w (λx w'=>x=v/\w'=w)):vlv t (.pointer (some a)) w K=K v w:=by
 obtain⟨x,w',c,rfl,rfl⟩:=h;have b:(do loadVar t (<-asAddr (.pointer (some a)))).run P w'= .ok x w':=by
  simpa[Instr.loadAt,Instr.sureAddr,asAddr] using c
 unfold vlv;rw[y9 b];simp
end
structure Sl (F:oA) (w:World) (k:Nat) (v:Value) (xs:List (List Value)):Prop where
 shape:∃a c,v= .slice a xs.length c/\xs.length<=c/\c<=9223372036854775807/\
  (xs≠[]->∃b o,a=some ⟨b,o,none⟩/\F b/\b<w.heap.size/\∀i,i<xs.length->Cells w ⟨b,o+i*k,none⟩ (xs.getD i []))
 wide:∀x,x∈xs->x.length=k
def eaddr (v:Value) (k i:Nat):Addr:=match v with
 | .slice (some a) _ _=>⟨a.block,a.off+i*k,none⟩
 |_=>default
theorem yw (b o n:Nat):(⟨b,o,none⟩:Addr).add n=⟨b,o+n,none⟩:=by
 unfold Addr.add;split
 .simp[*]
 .rfl
theorem Cells.same {S:oA} {w w':World} {a:Addr} {cs:List Value} (h:Same S w w') (hs: ¬S a.block) (b:Cells w a cs):Cells w' a cs:=by
 intro i v c;refine h.cell ?_ (b i v c);unfold Addr.add;split<;>exact hs
theorem Sl.same {F S:oA} {w w':World} {k:Nat} {v:Value} {xs:List (List Value)} (h:Sl F w k v xs) (hw:Same S w w') (hs:∀b,F b->b<w.heap.size->¬S b):Sl F w' k v xs:=by
 obtain⟨⟨a,c,p,m,hm,l⟩,n⟩:=h;refine⟨⟨a,c,p,m,hm,λf=>?_⟩,n⟩;obtain⟨b,o,j,g,e,d⟩:=l f;exact⟨b,o,j,g,pH e hw.size,λi hi=>(d i hi).same hw (hs b g e)⟩
theorem Sl.ext {F:oA} {w w':World} {k:Nat} {v:Value} {xs:List (List Value)} (h:Sl F w k v xs) (hw:Ext w w'):Sl F w' k v xs:=h.same hw λ_ _ _ h=>h
theorem Sl.weaken {F F':oA} {w:World} {k:Nat} {v:Value} {xs:List (List Value)} (h:Sl F w k v xs) (m:∀b,F b->b<w.heap.size->F' b):Sl F' w k v xs:=by
 obtain⟨⟨a,c,p,l,hm,j⟩,n⟩:=h;refine⟨⟨a,c,p,l,hm,λf=>?_⟩,n⟩;obtain⟨b,o,i,g,e,d⟩:=j f;exact⟨b,o,i,m b g e,e,d⟩
def isSl (t:TypeId):Bool:=match P.underlying t with
 |some (.slice _)=>true
 |_=>false
theorem UP {t:TypeId} (h:isSl t=true):∃e,P.underlying t=some (.slice e):=by
 unfold isSl at h;split at h
 .rename_i e hu;exact⟨e,hu⟩
 .cases h
def qr (e n:Nat):Bool:=match P.info? e with|some i=>Nat.beq i.size n|none=>false
def elB (t k:Nat):Bool:=match P.underlying t with
 |some (.slice e)=>qr e k
 |_=>false
theorem ZY0 {t k:Nat} (h:elB t k=true):∃e,P.underlying t=some (.slice e)/\qr e k=true:=by
 unfold elB at h;split at h
 .rename_i e hu;exact⟨e,hu,h⟩
 .cases h
section
variable {F:oA} {w w':World} {K:oK} {k:Nat} {v:Value} {xs:List (List Value)}
theorem run_sizeOf {e n:Nat} (h:qr e n=true):(sizeOf e).run P w= .ok n w:=by
 unfold qr at h;cases hi:P.info? e with
 |none=>rw[hi] at h;cases h
 |some i=>rw[hi] at h;have:=gB h;simp[sizeOf,typeInfo,program,hi,Sem.run,this]
theorem xB {t:TypeId} {d:TypeDesc} (h:P.underlying t=some d):(underlying t).run P w= .ok d w:=by simp[underlying,program,h,Sem.run]
theorem Sl.len (h:Sl F w k v xs) {t:TypeId} (b:isSl t=true) (ty:TypeId):vbi .len [t] ty [v] w' K=K (nI xs.length) w':=by
 obtain⟨a,c,d,_⟩:=h.shape;obtain⟨e,he⟩:=UP b;subst d;refine y9 ?_;simp[biSem,Builtin.len_,xB he,goInt]
theorem Sl.iaddr (h:Sl F w k v xs) {t:TypeId} (l:elB t k=true) {kd:IntKind} {i:Int} (f:0<=i) (d:i<xs.length):
  ya t v (.int kd i) w' K=K (oE (eaddr v k i.toNat)) w':=by
 obtain⟨a,c,m,_,_,j⟩:=h.shape;obtain⟨b,o,g,_⟩:=j (by intro e;subst e;simp at d;omega);obtain⟨e,he,hs⟩:=ZY0 l;subst g;subst m;refine y9 ?_;simp[Instr.indexAt,asIntOf,xB he,f,d,run_sizeOf hs,eaddr,yw]
theorem Sl.cells (h:Sl F w k v xs) {i:Nat} (hi:i<xs.length):Cells w (eaddr v k i) (xs.getD i []):=by
 obtain⟨a,c,j,_,_,f⟩:=h.shape;obtain⟨b,o,d,_,_,g⟩:=f (by intro e;subst e;simp at hi);subst d;subst j;exact g i hi
end
def Blk (w:World) (b:Nat) (cs:List Value) (t:TypeId):Prop:=w.heap[b]?=some (.cells ⟨cs⟩ t (0,0))
theorem Blk.lt {w:World} {b:Nat} {cs:List Value} {t:TypeId} (h:Blk w b cs t):b<w.heap.size:=(gH.1 h).1
theorem Blk.same {S:oA} {w w':World} {b:Nat} {cs:List Value} {t:TypeId} (h:Blk w b cs t) (hw:Same S w w') (hs: ¬S b):Blk w' b cs t:=
 (hw.block b h.lt hs).trans h
theorem Blk.ext {w w':World} {b:Nat} {cs:List Value} {t:TypeId} (h:Blk w b cs t) (hw:Ext w w'):Blk w' b cs t:=h.same hw id
theorem Blk.cell {w:World} {b:Nat} {cs:List Value} {t:TypeId} (h:Blk w b cs t) {i:Nat} {v:Value} (a:cs[i]?=some v):w.cell? ⟨b,i,none⟩=some v:=by
 unfold World.cell?;rw[show w.heap[(⟨b,i,none⟩:Addr).block]?=_ from h];simpa using a
theorem Blk.frozen {w:World} {b:Nat} {cs:List Value} {t:TypeId} (h:Blk w b cs t) (a:Addr) (c:a.block=b):w.frozen? a=false:=by
 unfold World.frozen?;rw[c,show w.heap[b]?=_ from h];simp
section
variable {w:World} {K:oK} {b:Nat} {cs:List Value} {t0:TypeId}
@[push_cast] theorem blt_zero {α:Type} (a:α) (l:List α):Nat.blt 0 (a::l).length=true:=rfl
@[push_cast] theorem blt_succ {α:Type} (n:Nat) (a:α) (l:List α):Nat.blt (n+1) (a::l).length=Nat.blt n l.length:=rfl
theorem getD_some {cs:List Value} {i:Nat} (hi:Nat.blt i cs.length=true):cs[i]?=some (cs.getD i undef):=by
 have:i<cs.length:=by simpa[Pa] using hi
 simp[y4,this]
theorem Blk.ld0 {a:Value} {r:List Value} (h:Blk w b (a::r) t0) {t:TypeId} (c:oneB t=true):zu t (oP b 0) w K=K a w:=zZ c (h.cell rfl)
theorem Blk.ld1 {d a:Value} {r:List Value} (h:Blk w b (d::a::r) t0) {t:TypeId} (c:oneB t=true):zu t (oP b 1) w K=K a w:=zZ c (h.cell rfl)
theorem Blk.ld2 {d e a:Value} {r:List Value} (h:Blk w b (d::e::a::r) t0) {t:TypeId} (c:oneB t=true):zu t (oP b 2) w K=K a w:=zZ c (h.cell rfl)
theorem Blk.ld3 {c d e x3:Value} {r:List Value} (h:Blk w b (c::d::e::x3::r) t0) {t:TypeId} (a:oneB t=true):zu t (oP b 3) w K=K x3 w:=zZ a (h.cell rfl)
theorem Blk.ld4 {c d e x3 x4:Value} {r:List Value} (h:Blk w b (c::d::e::x3::x4::r) t0) {t:TypeId} (a:oneB t=true):zu t (oP b 4) w K=K x4 w:=zZ a (h.cell rfl)
theorem Blk.ld5 {c d e x3 x4 x5:Value} {r:List Value} (h:Blk w b (c::d::e::x3::x4::x5::r) t0) {t:TypeId} (a:oneB t=true):zu t (oP b 5) w K=K x5 w:=zZ a (h.cell rfl)
theorem Blk.ldAgg (h:Blk w b cs t0) {t:TypeId} (a:aggB t cs.length=true):zu t (oP b 0) w K=K (.agg ⟨cs⟩) w:=
 XP a λi v c=>by rw[yw,Gi];exact h.cell c
theorem Blk.lv (h:Blk w b cs t0) {t:TypeId} (a:aggB t cs.length=true):vlv t (oP b 0) w K=K (.agg ⟨cs⟩) w:=
 ZG0 (by rw[h.ldAgg a];exact⟨rfl,rfl⟩)
def yl (t:TypeId) (z:Value):Prop:=(match P.info? t with|some i=>i.zero|none=>none)=some z
theorem YA {t:TypeId} {z:Value} (h:yl t z):(zeroValue t).run P w= .ok z w:=by
 unfold yl at h;cases hi:P.info? t with
 |none=>rw[hi] at h;cases h
 |some i=>rw[hi] at h;simp[zeroValue,typeInfo,program,hi,Sem.run,h]
theorem ext_push (w:World) (o:Obj):Ext w {w with heap:=w.heap.push o}:=
 ⟨rfl,rfl,rfl,by simp,λi hi _=>by rw[Array.getElem?_push,y3 (by show i≠w.heap.size;omega)]⟩
theorem Qy (w:World) (cs:List Value) (t:TypeId):Blk {w with heap:=w.heap.push (.cells ⟨cs⟩ t)} w.heap.size cs t:=by simp[Blk]
theorem yj {t:TypeId} {v:Value} (h:∀b w',b=w.heap.size->Ext w w'->w'.heap.size=w.heap.size+1->Blk w' b v.cells.toList t->K (oP b 0) w'):yO0 t v w K:=by
 refine⟨_,_,?_,h w.heap.size {w with heap:=w.heap.push (.cells ⟨v.cells.toList⟩ t)} rfl (ext_push w _) (by simp) (Qy w _ t)⟩;simp[Instr.box,newVar,newRow,newObj,Sem.run]
theorem xz {t:TypeId} {z:Value} (a:yl t z) (h:∀b w',b=w.heap.size->Ext w w'->w'.heap.size=w.heap.size+1->Blk w' b z.cells.toList t->K (oP b 0) w'):xS t w K:=by
 refine⟨_,_,?_,h w.heap.size {w with heap:=w.heap.push (.cells ⟨z.cells.toList⟩ t)} rfl (ext_push w _) (by simp) (Qy w _ t)⟩;simp[Instr.alloc,YA a,newVar,newRow,newObj,Sem.run]
theorem Blk.st (h:Blk w b cs t0) {t:TypeId} {v:Value} (l:v.cells= #[v]) (a:v.oneCell'=true) (m:qr t 1=true) {i:Nat} (hi:Nat.blt i cs.length=true)
  (c:∀w',Same (· =b) w w'->w'.heap.size=w.heap.size->Blk w' b (cs.set i v) t0->K undef w'):zG t (oP b i) v w K:=by
 have f:=h.cell (getD_some hi);have g:=h.frozen ⟨b,i,none⟩ rfl;have d:(⟨b,i,none⟩:Addr).add 0=⟨b,i,none⟩:=rfl;refine⟨(),w.setCell ⟨b,i,none⟩ v,?_,c _ ⟨rfl,rfl,rfl,by simp,λk _ j=>?_⟩ (by simp) ?_⟩
 .simp only[Instr.storeAt,Instr.sureAddr,Sem.run_bind,Sem.run_pure,Result.andThen_ok,storeVar,run_sizeOf m,l];cases v<;>first|(cases a;done)|simp[storeCells,store,Sem.run,d,f,g]
 .simp only[World.setCell,G2];rw[y3 (λe=>j e.symm)]
 .unfold Blk at h⊢;simp only[World.setCell,G2,if_true,h];simp
def fieldB (s f off:Nat):Bool:=match P.underlying s with
 |some (.struct fs)=>match fs[f]? with
  |some x=>Nat.beq x.offset off&&(match P.info? x.type with|some i=> !Nat.beq i.size 0 |none=>false)
  |none=>false
 |_=>false
theorem zy {s f off:Nat} (h:fieldB s f off=true) (a:Addr):zD s (.pointer (some a)) f w K=K (oE (a.add off)) w:=by
 unfold fieldB at h;cases hu:P.underlying s with
 |none=>rw[hu] at h;cases h
 |some d=>
  rw[hu] at h;cases d with
  |struct fs=>
   simp only at h;cases g:fs[f]? with
   |none=>rw[g] at h;cases h
   |some x=>
    rw[g] at h;simp only[gg] at h;obtain⟨j,b⟩:=h;have c:=gB j;cases hi:P.info? x.type with
    |none=>rw[hi] at b;cases b
    |some i=>
     rw[hi] at b;have k:i.size≠0:=by intro e;simp[e] at b
     refine y9 ?_;simp[Instr.fieldAt,xB hu,g,Instr.sureAddr,fieldPlace,sizeOf,typeInfo,program,hi,Sem.run,k,c]
  |_=>simp at h
end
attribute [push_cast] yw pf pg Gi po PI Value.cells
end
section
attribute [push_cast] gu
def Vals (F:oA) (w:World) (v:Value) (vs:List Value):Prop:=Sl F w 1 v (vs.map λx=>[x])
def Ints (F:oA) (w:World) (v:Value) (xs:oI):Prop:=Vals F w v (xs.map λx=> nI x)
def Bools (F:oA) (w:World) (v:Value) (xs:List Bool):Prop:=Vals F w v (xs.map λx=> .bool x)
def Lists (F:oA) (w:World) (v:Value) (xss:List (oI)):Prop:=
 ∃vs:List Value,vs.length=xss.length/\Vals F w v vs/\∀i,i<xss.length->Ints F w (vs.getD i undef) (xss.getD i [])
section
variable {F F' S:oA} {w w':World} {K:oK} {v:Value} {vs:List Value} {xs:oI} {bs:List Bool} {xss:List (oI)}
theorem Vals.ext (h:Vals F w v vs) (hw:Ext w w'):Vals F w' v vs:=Sl.ext h hw
theorem Vals.same (h:Vals F w v vs) (hw:Same S w w') (hs:∀b,F b->b<w.heap.size->¬S b):Vals F w' v vs:=Sl.same h hw hs
theorem Vals.weaken (h:Vals F w v vs) (a:∀b,F b->b<w.heap.size->F' b):Vals F' w v vs:=Sl.weaken h a
theorem Vals.len (h:Vals F w v vs) {t:TypeId} (a:isSl t=true) (ty:TypeId):vbi .len [t] ty [v] w' K=K (nI vs.length) w':=by
 have:=Sl.len (K:=K) (w':=w') h a ty;rwa[K3] at this
theorem Vals.iaddr (h:Vals F w v vs) {t:TypeId} (c:elB t 1=true) {kd:IntKind} {i:Int} (a:0<=i) (b:i<vs.length):
  ya t v (.int kd i) w' K=K (oE (eaddr v 1 i.toNat)) w':=Sl.iaddr h c a (by rw[K3];exact b)
theorem Vals.load (h:Vals F w v vs) {e:TypeId} (he:oneB e=true) {i:Nat} (hi:i<vs.length):zu e (oE (eaddr v 1 i)) w K=K (vs.getD i undef) w:=by
 have a:=Sl.cells h (i:=i) (by rw[K3];exact hi);have:=a 0 (vs.getD i undef) (by simp[y4,hi]);exact zZ he this
theorem Ints.ext (h:Ints F w v xs) (hw:Ext w w'):Ints F w' v xs:=Vals.ext h hw
theorem Ints.same (h:Ints F w v xs) (hw:Same S w w') (hs:∀b,F b->b<w.heap.size->¬S b):Ints F w' v xs:=Vals.same h hw hs
theorem Ints.weaken (h:Ints F w v xs) (a:∀b,F b->b<w.heap.size->F' b):Ints F' w v xs:=Vals.weaken h a
theorem Ints.len (h:Ints F w v xs) {t:TypeId} (a:isSl t=true) (ty:TypeId):vbi .len [t] ty [v] w' K=K (nI xs.length) w':=by
 have:=Vals.len (K:=K) (w':=w') h a ty;rwa[K3] at this
theorem Ints.iaddr (h:Ints F w v xs) {t:TypeId} (c:elB t 1=true) {kd:IntKind} {i:Int} (a:0<=i) (b:i<xs.length):
  ya t v (.int kd i) w' K=K (oE (eaddr v 1 i.toNat)) w':=Vals.iaddr h c a (by rw[K3];exact b)
theorem V5 {i:Nat} (hi:i<xs.length):(xs.map λx=>nI x).getD i undef= nI (xs.getD i 0):=by
 simp[y4,hi]
theorem Ints.load (h:Ints F w v xs) {e:TypeId} (he:oneB e=true) {i:Nat} (hi:i<xs.length):zu e (oE (eaddr v 1 i)) w K=K (nI (xs.getD i 0)) w:=by
 rw[Vals.load h he (by rw[K3];exact hi),V5 hi]
theorem Bools.ext (h:Bools F w v bs) (hw:Ext w w'):Bools F w' v bs:=Vals.ext h hw
theorem Bools.same (h:Bools F w v bs) (hw:Same S w w') (hs:∀b,F b->b<w.heap.size->¬S b):Bools F w' v bs:=Vals.same h hw hs
theorem Bools.len (h:Bools F w v bs) {t:TypeId} (a:isSl t=true) (ty:TypeId):vbi .len [t] ty [v] w' K=K (nI bs.length) w':=by
 have:=Vals.len (K:=K) (w':=w') h a ty;rwa[K3] at this
theorem Bools.iaddr (h:Bools F w v bs) {t:TypeId} (c:elB t 1=true) {kd:IntKind} {i:Int} (a:0<=i) (b:i<bs.length):
  ya t v (.int kd i) w' K=K (oE (eaddr v 1 i.toNat)) w':=Vals.iaddr h c a (by rw[K3];exact b)
theorem Bools.load (h:Bools F w v bs) {e:TypeId} (he:oneB e=true) {i:Nat} (hi:i<bs.length):zu e (oE (eaddr v 1 i)) w K=K (.bool (bs.getD i false)) w:=by
 rw[Vals.load h he (by rw[K3];exact hi)];simp[y4,hi]
theorem Lists.ext (h:Lists F w v xss) (hw:Ext w w'):Lists F w' v xss:=by
 obtain⟨vs,a,b,hi⟩:=h;exact⟨vs,a,b.ext hw,λi h=>(hi i h).ext hw⟩
theorem Lists.same (h:Lists F w v xss) (hw:Same S w w') (hs:∀b,F b->b<w.heap.size->¬S b):Lists F w' v xss:=by
 obtain⟨vs,a,c,hi⟩:=h;exact⟨vs,a,c.same hw hs,λi h=>(hi i h).same hw hs⟩
theorem Lists.weaken (h:Lists F w v xss) (a:∀b,F b->b<w.heap.size->F' b):Lists F' w v xss:=by
 obtain⟨vs,c,d,hi⟩:=h;exact⟨vs,c,d.weaken a,λi h=>(hi i h).weaken a⟩
def FnB (w0:World) (f:Value) (args:Array Value) (b:Bool):Prop:=
 ∀(w':World) (K:oK),Ext w0 w'->(∀w'',Ext w' w''->K (.bool b) w'')->vcallv f args w' K
def idxI (n:Nat) (p:Nat->Bool):Int:=match(List.range n).find? p with|some i=>i|none=> -1
theorem idxI_some {n i:Nat} {p:Nat->Bool} (hi:i<n) (c:p i=true) (b:∀j,j<i->p j=false):idxI n p=i:=by
 have:(List.range n).find? p=some i:=by
  rw[List.find?_eq_some_iff_append];refine⟨c,List.range i,(List.range' (i+1) (n-(i+1))),?_,λj a=>by simp[b j (gJ.1 a)]⟩;rw[Px,Px,show n=i+(n-(i+1)+1) from by omega,<-List.range'_append_1,List.range'_succ];simp;omega
 simp[idxI,this]
theorem V7 {n:Nat} {p:Nat->Bool} (b:∀j,j<n->p j=false):idxI n p= -1:=by
 have:(List.range n).find? p=none:=by rw[Pc];intro j a;simp[b j (gJ.1 a)]
 simp[idxI,this]
theorem XG {n:Nat} {p:Nat->Bool}:decide (0<=idxI n p)=(List.range n).any p:=by
 unfold idxI;cases h:(List.range n).find? p with
 |none=>
  rw[Pc] at h;have:(List.range n).any p=false:=by rw[pP];exact h
  simp[this]
 |some i=>
  have a:=List.find?_some h;have b:=List.mem_of_find?_eq_some h;have:(List.range n).any p=true:=ph.2 ⟨i,b,a⟩;simp[this]
end
end
section
def elZ (t k bs:Nat):Bool:=match P.underlying t with
 |some (.slice e)=>match P.info? e with
  |some i=>Nat.beq i.size k&&Nat.beq i.bytes bs&&(match i.zero with|some z=>Nat.beq z.cells.size k|none=>false)
  |none=>false
 |_=>false
def Yp (t:TypeId):TypeId:=match P.underlying t with|some (.slice e)=>e|_=>0
theorem yE0 {t k bs:Nat} (h:elZ t k bs=true):P.underlying t=some (.slice (Yp t))/\∃i z,P.info? (Yp t)=some i/\i.zero=some z/\i.size=k/\i.bytes=bs/\z.cells.size=k:=by
 unfold elZ at h;unfold Yp;split at h
 .rename_i e hu;rw[hu];refine⟨rfl,?_⟩;split at h
  .rename_i i hi;simp only[gg] at h;obtain⟨⟨b,c⟩,a⟩:=h;split at a
   .rename_i z d;exact⟨i,z,hi,d,gB b,gB c,gB a⟩
   .cases a
  .cases h
 .cases h
structure Own (base k:Nat) (t:TypeId) (w:World) (v:Value) (xs:List (List Value)):Prop where
 row:w.ownsRow base (Yp t) k v xs.length xs.flatten
 wide:∀x,x∈xs->x.length=k
theorem flatten_len {k:Nat}:∀{xs:List (List Value)},(∀x,x∈xs->x.length=k)->xs.flatten.length=xs.length*k
 |[],_=>by simp
 |x::r,h=>by
  rw[GR,Q1,h x gk,flatten_len λy a=>h y (gp _ a),gF,pa];omega
theorem flatten_get {k:Nat}:∀{xs:List (List Value)} (_:∀x,x∈xs->x.length=k) {i j:Nat},i<xs.length->j<k->xs.flatten[i*k+j]?=(xs.getD i [])[j]?
 |[],_,i,j,hi,_=>by simp at hi
 |x::r,h,i,j,hi,a=>by
  have c:=h x gk;rw[GR];cases i with
  |zero=>rw[PZ,Gi,Gb oM];simp
  |succ i=>
   rw[GA (by rw[pa];omega)];have e:(i+1)*k+j-x.length=i*k+j:=by rw[pa];omega
   rw[e,flatten_get (λy b=>h y (gp _ b)) (by simpa using hi) a];simp
theorem flat1:∀(cs:List Value),(cs.map λx=>[x]).flatten=cs
 |[]=>rfl
 |c::cs=>by rw[GF,GR,flat1 cs];rfl
section
variable {base k:Nat} {t:TypeId} {w w':World} {v:Value} {xs ys:List (List Value)} {K:oK}
theorem Own.nil (base k:Nat) (t:TypeId) (w:World):Own base k t w (oN) []:=⟨World.ownsRow_nil w base _ k,λx a=>by cases a⟩
theorem Own.lt (h:Own base k t w v xs) {b:Nat} (a:v.ownBlock=some b):base<=b/\b<w.heap.size:=h.row.lt b a
theorem Own.same {S:oA} (h:Own base k t w v xs) (hw:Same S w w') (hs:∀b,v.ownBlock=some b->¬S b):Own base k t w' v xs:=by
 refine⟨⟨h.row.1,?_⟩,h.wide⟩;rcases h.row.2 with d|⟨g,cap,cur,rfl,c,a,rest⟩
 .exact .inl d
 .exact .inr ⟨g,cap,cur,rfl,c,(hw.block g (gH.1 a).1 (hs g rfl)).trans a,rest⟩
theorem Own.ext (h:Own base k t w v xs) (hw:Ext w w'):Own base k t w' v xs:=h.same hw λ_ _ h=>h
theorem Own.sl (h:Own base k t w v xs):Sl (λb=>v.ownBlock=some b) w k v xs:=by
 refine⟨?_,h.wide⟩;rcases h.row.2 with⟨rfl,l⟩|⟨g,cap,cur,rfl,q,n,c,a,m,e⟩
 .exact⟨none,0,by rw[l],oM,oM,λd=>absurd (gL l) d⟩
 .refine⟨_,cap,rfl,c,by simpa[maxLen] using a,λ_=>⟨g,0,rfl,rfl,(gH.1 n).1,λi hi j u hu=>?_⟩⟩;have o:j<k:=by
   have p:xs.getD i []∈xs:=by rw[y4,gd hi];exact pj hi
   have:=h.wide _ p;rw[<-this];exact(Gx.1 hu).1
  have f:=flatten_get h.wide hi o;rw[hu] at f;have:=h.row.cells (g:=g) rfl (i*k+j) u f;rw[yw] at this⊢;rwa[Gi] at this⊢
theorem Same.of_grown {row:Option Nat} (h:w.grownBy w' row):Same (λb=>row=some b) w w':=
 ⟨h.os,h.tape,h.output,h.size,λb a hs=>h.block b a (λe=>hs e.symm)⟩
theorem vappend {bs ty:Nat} {F:oA} {x:Value} (hT:elZ t k bs=true) (hk:0<k) (h:Own base k t w v xs) (hs:Sl F w k x ys) (J:∀y,y∈ys->∀c,c∈y->c.oneCell'=true)
  (B:base<=w.heap.size) (M:xs.length+ys.length<=9223372036854775807) (hlen:(xs.length+ys.length)*bs<=140737488355328)
  (N:∀v' w',Own base k t w' v' (xs++ys)->Same (λb=>v.ownBlock=some b) w w'->(∀b,v'.ownBlock=some b->v.ownBlock=some b\/w.heap.size<=b)->K v' w'):vbi .append [t,t] ty [v,x] w K:=by
 obtain⟨hu,i,z,hi,X,L,C,Y⟩:=yE0 hT;obtain⟨a,c,rfl,a0,a1,n⟩:=hs.shape;have r:∀y,y∈xs++ys->y.length=k:=λy V=>(gl.1 V).elim (h.wide y) (hs.wide y);by_cases p:ys=[]
 .subst p;have e:Own base k t w v (xs++[]):=by rw[gK];exact h
  rcases h.row.2 with⟨rfl,hn⟩|⟨g,cap,cur,rfl,Q,hg,I,D,E,q⟩
  .refine⟨_,_,?_,N _ w e (Same.refl _ w) λb B=> .inl B⟩;cases a<;>simp[biSem,Builtin.append_,xB hu,sizeOf,typeInfo,program,hi,Sem.run,Builtin.lenOf,Builtin.firstCells,loadCells,loadCellsFrom]
  .refine⟨_,_,?_,N _ w e (Same.refl _ w) λb B=> .inl B⟩;cases a<;>simp[biSem,Builtin.append_,xB hu,sizeOf,typeInfo,program,hi,Sem.run,Builtin.lenOf,Builtin.firstCells,loadCells,loadCellsFrom,storeCells,I]
 .obtain⟨b,o,rfl,_,a2,R⟩:=n p;have d:∀j u,ys.flatten[j]?=some u->w.cell? ((⟨b,o,none⟩:Addr).add j)=some u:=by
   intro j u H;have T:j<ys.length*k:=by rw[<-flatten_len hs.wide];exact(Gx.1 H).1
   have hq:j/k<ys.length:=Nat.div_lt_of_lt_mul (by rwa[PF] at T);have s:j%k<k:=pS _ hk;have hj:j/k*k+j%k=j:=Nat.div_add_mod' j k;have hf:=flatten_get hs.wide hq s;rw[hj,H] at hf;have:=R _ hq _ _ hf.symm;rw[yw] at this⊢;rwa[Pw,hj] at this
  have h1:∀u∈ys.flatten,u.oneCell'=true:=by
   intro u U;obtain⟨y,V,hc⟩:=List.mem_flatten.1 U;exact J y V u hc
  obtain⟨v',w',s,e,S,_⟩:=run_append_own (P:=P) w base t ty (Yp t) i z k bs hu hi X L C Y hk v xs.length xs.flatten h.row ⟨b,o,none⟩ ys.length c ys.flatten (flatten_len hs.wide) d h1
   (by simpa[maxLen] using M) hlen B
  refine⟨v',w',s,N v' w' ⟨?_,r⟩ (Same.of_grown S) ?_⟩
  .rw[Q1,Pz];exact e
  .have W:0<ys.length:=GQ.2 p;have m:=flatten_len hs.wide;subst L C;rcases h.row.2 with⟨rfl,hn⟩|⟨g,cap,cur,rfl,Q,hg,I,D,E,q⟩
   .have f:=run_append_nil (P:=P) w t ty (Yp t) i z hu hi X ⟨b,o,none⟩ ys.length c ys.flatten m d W oM (by have O:=hlen;rw[hn,Gi] at O;omega);obtain⟨rfl,-⟩:=Result.ok.inj (s.symm.trans f);rintro Z A;exact .inr (by cases A;exact gr _)
   .by_cases l:xs.length+ys.length<=cap
    .have G:xs.length*i.size+ys.flatten.length<=cur.size:=by rw[m,E,<-pa];exact pT _ l
     have f:=run_append_room (P:=P) w t ty (Yp t) i hu hi g xs.length cap cur hg ⟨b,o,none⟩ ys.length c ys.flatten m d h1 l G;obtain⟨rfl,-⟩:=Result.ok.inj (s.symm.trans f);exact λZ A=> .inl A
    .have f:=run_append_grow (P:=P) w t ty (Yp t) i z hu hi X ⟨g,0,none⟩ xs.length cap xs.flatten h.row.1 (h.row.cells (g:=g) rfl) ⟨b,o,none⟩ ys.length c ys.flatten m d oM oM (growslice_fits oM hlen);obtain⟨rfl,-⟩:=Result.ok.inj (s.symm.trans f);rintro Z A;exact .inr (by cases A;exact gr _)
theorem zB {e:TypeId} {x z:Value} (hu:P.underlying t=some (.slice e)) (f:qr e 1=true) (hzero:yl e z) (a:z.cells= #[z]) (d:x.cells= #[x])
  (c:∀b w',b=w.heap.size->Ext w w'->w'.heap.size=w.heap.size+1->Blk w' b [x] e->K (.slice (some ⟨b,0,none⟩) 1 1) w'):vbuildS t 1 [(0,x)] w K:=by
 refine⟨_,_,?_,c w.heap.size {w with heap:=w.heap.push (.cells ⟨[x]⟩ e)} rfl (ext_push w _) (by simp) (Qy w _ e)⟩;simp[Instr.buildSlice,xB hu,run_sizeOf f,YA hzero,a,Instr.fill,d,newRow,newObj,Sem.run];refine congrArg (λl=>w.alloc (Obj.cells l e)) (GP.1 ?_);simp[P8]
theorem yc {e d:Nat} (hu:P.underlying t=some (.slice e)) (c:qr e d=true)
  (a:∀b w',b=w.heap.size->Ext w w'->w'.heap.size=w.heap.size+1->Blk w' b [] e->K (.slice (some ⟨b,0,none⟩) 0 0) w'):vbuildS t 0 [] w K:=by
 refine⟨_,_,?_,a w.heap.size {w with heap:=w.heap.push (.cells ⟨[]⟩ e)} rfl (ext_push w _) (by simp) (Qy w _ e)⟩;simp[Instr.buildSlice,xB hu,run_sizeOf c,Instr.fill,newRow,newObj,Sem.run];refine congrArg (λl=>w.alloc (Obj.cells l e)) (GP.1 ?_);simp
theorem Blk.sl1 {b n:Nat} {cs:List Value} {e:TypeId} (h:Blk w b cs e) (c:n=cs.length) (hm:n<=9223372036854775807):Sl (· =b) w 1 (.slice (some ⟨b,0,none⟩) n n) (cs.map λx=>[x]):=by
 subst c;refine⟨⟨_,cs.length,by simp,by simp,by simpa using hm,λ_=>⟨b,0,rfl,rfl,h.lt,λi hi j v a=>?_⟩⟩,by simp⟩;simp only[K3] at hi;have:j=0/\cs[i]?=some v:=by
  simp only[y4,GN] at a;rw[gd hi] at a⊢;cases j with
  |zero=>simp at a;simp[a]
  |succ j=>simp at a
 obtain⟨rfl,d⟩:=this;rw[yw];simp only[pU,Gi,G7];exact h.cell d
theorem Blk.own1 {b n c:Nat} {cs:List Value} (h:Blk w b cs (Yp t)) (a:base<=b) (e:n=cs.length) (d:c=cs.length) (hm:n<=9223372036854775807):Own base 1 t w (.slice (some ⟨b,0,none⟩) n c) (cs.map λx=>[x]):=by
 subst e d;refine⟨⟨by simp[flatten_len (k:=1) (xs:=cs.map λx=>[x]) (by simp)],.inr ⟨b,cs.length,⟨cs⟩,by simp,a,h,by simp,by simpa[maxLen] using hm,by simp,?_⟩⟩,by simp⟩;rw[flat1];simp
end
end
section
def OwnV (t:TypeId) (w:World) (v:Value) (vs:List Value):Prop:=Own 0 1 t w v (vs.map λx=>[x])
def OwnI (t:TypeId) (w:World) (v:Value) (xs:oI):Prop:=OwnV t w v (xs.map λx=> nI x)
def OwnB (t:TypeId) (w:World) (v:Value) (xs:List Bool):Prop:=OwnV t w v (xs.map λx=> .bool x)
section
variable {t:TypeId} {w w':World} {v:Value} {vs:List Value} {xs:oI} {bs:List Bool} {K:oK} {F S:oA}
theorem OwnV.nil:OwnV t w (oN) []:=Own.nil 0 1 t w
theorem OwnI.nil:OwnI t w (oN) []:=OwnV.nil
theorem OwnB.nil:OwnB t w (oN) []:=OwnV.nil
theorem OwnV.lt (h:OwnV t w v vs) {b:Nat} (a:v.ownBlock=some b):b<w.heap.size:=(Own.lt h a).2
theorem OwnI.lt (h:OwnI t w v xs) {b:Nat} (a:v.ownBlock=some b):b<w.heap.size:=OwnV.lt h a
theorem OwnV.same (h:OwnV t w v vs) (hw:Same S w w') (hs:∀b,v.ownBlock=some b->¬S b):OwnV t w' v vs:=Own.same h hw hs
theorem OwnI.same (h:OwnI t w v xs) (hw:Same S w w') (hs:∀b,v.ownBlock=some b->¬S b):OwnI t w' v xs:=OwnV.same h hw hs
theorem OwnV.ext (h:OwnV t w v vs) (hw:Ext w w'):OwnV t w' v vs:=Own.ext h hw
theorem OwnI.ext (h:OwnI t w v xs) (hw:Ext w w'):OwnI t w' v xs:=OwnV.ext h hw
theorem OwnB.ext (h:OwnB t w v bs) (hw:Ext w w'):OwnB t w' v bs:=OwnV.ext h hw
theorem OwnV.vals (h:OwnV t w v vs):Vals (λb=>v.ownBlock=some b) w v vs:=Own.sl h
theorem OwnI.ints (h:OwnI t w v xs):Ints (λb=>v.ownBlock=some b) w v xs:=OwnV.vals h
theorem OwnB.bools (h:OwnB t w v bs):Bools (λb=>v.ownBlock=some b) w v bs:=OwnV.vals h
theorem OwnV.small (h:OwnV t w v vs):vs.length<=9223372036854775807:=by
 obtain⟨_,_,_,a,b,_⟩:=h.vals.shape;simp at a;omega
theorem OwnI.small (h:OwnI t w v xs):xs.length<=9223372036854775807:=by have:=OwnV.small h;simpa using this
theorem OwnV.app {bs ty:Nat} {y:Value} {us:List Value} (h:OwnV t w v vs) (k:elZ t 1 bs=true) (hs:Vals F w y us) (a:∀u,u∈us->u.oneCell'=true)
  (d:vs.length+us.length<=9223372036854775807) (hlen:(vs.length+us.length)*bs<=140737488355328)
  (j:∀v' w',OwnV t w' v' (vs++us)->Same (λb=>v.ownBlock=some b) w w'->(∀b,v'.ownBlock=some b->v.ownBlock=some b\/w.heap.size<=b)->K v' w'):vbi .append [t,t] ty [v,y] w K:=by
 refine vappend k dC h hs (λy l c e=>?_) oM (by simpa using d) (by simpa using hlen) λv' w' f g i=>j v' w' ?_ g i
 .obtain⟨u,hu,rfl⟩:=gy.1 l;rw[gx] at e;subst e;exact a _ hu
 .unfold OwnV;rw[gE];exact f
theorem OwnV.app1 {bs ty b:Nat} {x:Value} {e:TypeId} (h:OwnV t w v vs) (f:elZ t 1 bs=true) (g:Blk w b [x] e) (a:x.oneCell'=true)
  (c:vs.length<9223372036854775807) (hlen:(vs.length+1)*bs<=140737488355328)
  (d:∀v' w',OwnV t w' v' (vs++[x])->Same (λb=>v.ownBlock=some b) w w'->(∀b,v'.ownBlock=some b->v.ownBlock=some b\/w.heap.size<=b)->K v' w'):vbi .append [t,t] ty [v,.slice (some ⟨b,0,none⟩) 1 1] w K:=
 h.app f (F:=(· =b)) (us:=[x]) (g.sl1 rfl oM) (by simpa using a) (by simp;omega) (by simpa using hlen) d
theorem OwnI.app1 {bs ty b:Nat} {x:Int} {e:TypeId} (h:OwnI t w v xs) (f:elZ t 1 bs=true) (g:Blk w b [nI x] e)
  (a:xs.length<9223372036854775807) (hlen:(xs.length+1)*bs<=140737488355328)
  (d:∀v' w',OwnI t w' v' (xs++[x])->Same (λb=>v.ownBlock=some b) w w'->(∀b,v'.ownBlock=some b->v.ownBlock=some b\/w.heap.size<=b)->K v' w'):vbi .append [t,t] ty [v,.slice (some ⟨b,0,none⟩) 1 1] w K:=
 OwnV.app1 h f g rfl (by simpa using a) (by simpa using hlen) λv' w' c=>d v' w' (by unfold OwnI;rw[gE];exact c)
theorem OwnI.app {bs ty:Nat} {y:Value} {ys:oI} (h:OwnI t w v xs) (e:elZ t 1 bs=true) (hs:Ints F w y ys)
  (a:xs.length+ys.length<=9223372036854775807) (hlen:(xs.length+ys.length)*bs<=140737488355328)
  (d:∀v' w',OwnI t w' v' (xs++ys)->Same (λb=>v.ownBlock=some b) w w'->(∀b,v'.ownBlock=some b->v.ownBlock=some b\/w.heap.size<=b)->K v' w'):vbi .append [t,t] ty [v,y] w K:=
 OwnV.app h e hs (by simp[Value.oneCell']) (by simpa using a) (by simpa using hlen) λv' w' c=>d v' w' (by unfold OwnI;rw[gE];exact c)
theorem OwnV.st (h:OwnV t w v vs) {e:TypeId} {x:Value} (C:x.cells= #[x]) (m:x.oneCell'=true) (E:qr e 1=true) {i:Nat} (hi:i<vs.length)
  (n:∀w',OwnV t w' v (vs.set i x)->Same (λb=>v.ownBlock=some b) w w'->w'.heap.size=w.heap.size->K undef w'):zG e (oE (eaddr v 1 i)) x w K:=by
 rcases h.row.2 with⟨rfl,A⟩|⟨g,cap,cur,rfl,p,F,B,r,s,k⟩
 .rw[K3] at A;omega
 .have a:=h.row;have f:i<(vs.map λx=>[x]).length*1:=(by simpa using hi);have q:=World.ownsRow.cellAt a i f;have z:=World.ownsRow.frozenAt a i;obtain⟨d,j⟩:=World.ownsRow.stored a i x;have c:w.cell? ⟨g,i,none⟩=some (vs.getD i undef):=by rw[q,flat1];simp[y4,hi]
  have o:(⟨g,i,none⟩:Addr).add 0=⟨g,i,none⟩:=rfl;have he:eaddr (.slice (some ⟨g,0,none⟩) (vs.map λx=>[x]).length cap) 1 i=⟨g,i,none⟩:=by
   simp only[eaddr];simp
  rw[he];refine⟨(),w.setCell ⟨g,i,none⟩ x,?_,n _ ?_ (Same.of_grown j) (by simp)⟩
  .simp only[Instr.storeAt,Instr.sureAddr,Sem.run_bind,Sem.run_pure,Result.andThen_ok,storeVar,run_sizeOf E,C];cases x<;>first|(cases m;done)|simp[storeCells,store,Sem.run,o,c,z]
  .refine⟨?_,λy D=>by obtain⟨u,_,rfl⟩:=gy.1 D;rfl⟩;rw[flat1] at d;have l:((vs.set i x).map λx=>[x]).flatten=vs.set i x:=flat1 _;rw[l];simpa using d
theorem OwnI.st (h:OwnI t w v xs) {e:TypeId} {x:Int} (d:qr e 1=true) {i:Nat} (hi:i<xs.length)
  (c:∀w',OwnI t w' v (xs.set i x)->Same (λb=>v.ownBlock=some b) w w'->w'.heap.size=w.heap.size->K undef w'):zG e (oE (eaddr v 1 i)) (nI x) w K:=
 OwnV.st h rfl rfl d (by simpa using hi) λw' a=>c w' (by unfold OwnI;rw[P3];exact a)
theorem OwnB.st (h:OwnB t w v bs) {e:TypeId} {x:Bool} (d:qr e 1=true) {i:Nat} (hi:i<bs.length)
  (c:∀w',OwnB t w' v (bs.set i x)->Same (λb=>v.ownBlock=some b) w w'->w'.heap.size=w.heap.size->K undef w'):zG e (oE (eaddr v 1 i)) (.bool x) w K:=
 OwnV.st h rfl rfl d (by simpa using hi) λw' a=>c w' (by unfold OwnB;rw[P3];exact a)
theorem Xe {k:Nat} (h:elB t k=true):P.underlying t=some (.slice (P.elem t))/\qr (P.elem t) k=true:=by
 obtain⟨e,hu,hs⟩:=ZY0 h;have:P.elem t=e:=by simp[Program.elem,hu]
 rw[this];exact⟨hu,hs⟩
def cutV (v:Value) (n:Nat):Value:=match v with
 | .slice a _ c=> .slice a n c
 |x=>x
theorem Sl.cut {k:Nat} {v:Value} {xs:List (List Value)} (h:Sl F w k v xs) (g:∀a l c,v= .slice (some a) l c->∃b o,a=⟨b,o,none⟩) (f:elB t k=true) {kd:IntKind} {n:Nat} (j:n<=xs.length):
  xy t v none (some (.int kd n)) none w' K=K (cutV v n) w':=by
 obtain⟨hu,hs⟩:=Xe f;obtain⟨a,c,rfl,i,e,d⟩:=h.shape;refine y9 ?_;rw[run_sliceAt_slice w' t _ _ _ _ hu,run_slice_h w' t _ _ _ hu kd n oM oM,run_sizeOf hs];cases a with
 |none=>simp[Result.andThen,sliced,cutV]
 |some a=>
  obtain⟨b,o,rfl⟩:=g _ _ _ rfl;simp[Result.andThen,sliced,cutV];exact λ_=>rfl
theorem OwnV.cut (h:OwnV t w v vs) (o:elB t 1=true) {kd:IntKind} {n:Nat} (k:n<=vs.length):xy t v none (some (.int kd n)) none w' K=K (cutV v n) w':=by
 refine Sl.cut h.vals ?_ o (by simpa using k);rintro a l c e;rcases h.row.2 with⟨rfl,s⟩|⟨g,cap,cur,rfl,f,r,m,i,j,d⟩
 .cases e
 .injection e with b p q
  injection b with b
  exact⟨g,0,b.symm⟩
theorem xP (v:Value) (n:Nat):(cutV v n).ownBlock=v.ownBlock:=by
 unfold cutV;split
 .rename_i a l c;cases a<;>rfl
 .rfl
theorem OwnV.taken (h:OwnV t w v vs) {n:Nat} (f:n<=vs.length):OwnV t w (cutV v n) (vs.take n):=by
 rcases h.row.2 with⟨rfl,l⟩|⟨g,cap,cur,rfl,c,j,i,d,e,a⟩
 .rw[K3] at l;have:n=0:=oM;subst this;rw[pV];exact OwnV.nil
 .refine⟨⟨by rw[flat1,K3,pU],.inr ⟨g,cap,cur,by simp[cutV,GL f],c,j,?_,d,e,?_⟩⟩,λy k=>by obtain⟨u,_,rfl⟩:=gy.1 k;rfl⟩
  .rw[K3] at i⊢;simp;omega
  .have b:=a;rw[flat1] at b⊢;rw[K3] at b;simp only[K3,gh,GL f,pU] at b⊢;rw[<-b,pr,GL f]
theorem OwnI.cut (h:OwnI t w v xs) (b:elB t 1=true) {kd:IntKind} {n:Nat} (a:n<=xs.length):xy t v none (some (.int kd n)) none w' K=K (cutV v n) w':=
 OwnV.cut h b (by simpa using a)
theorem OwnI.taken (h:OwnI t w v xs) {n:Nat} (a:n<=xs.length):OwnI t w (cutV v n) (xs.take n):=by
 unfold OwnI;rw[GG];exact OwnV.taken h (by simpa using a)
theorem vmkS_own {bs n:Nat} {z:Value} {q r:IntKind} {e:TypeId} (u:elZ t 1 bs=true) (he:Yp t=e) (d:yl e z) (p:z.cells= #[z]) (g:bs*n<=281474976710656) (k:n<=9223372036854775807)
  (s:∀v' w',OwnV t w' v' (List.replicate n z)->Ext w w'->(∀b,v'.ownBlock=some b->w.heap.size<=b)->K v' w'):vmkS t (.int q n) (.int r n) w K:=by
 obtain⟨hu,i,f,hi,c,o,l,y⟩:=yE0 u;subst he;have:f=z:=by
  unfold yl at d;rw[hi] at d;simp only[c,Gr] at d;exact d
 subst this;subst l;obtain⟨w',x,a,m⟩:=run_make_full (P:=P) w 0 t (Yp t) i f 1 hu hi c o q r n g (by simpa[maxLen] using k) oM;refine⟨_,w',x,s _ w' ?_ ((Same.of_grown m).mono λ_ _ h=>by cases h) λb v=>by cases v;exact gr _⟩;have e:(madeCells f.cells (n*1)).toList=List.replicate n f:=by
  refine gM (by simp[madeCells]) λj A B=>?_;simp[madeCells,p,Nat.mod_one]
 rw[e] at a;refine⟨?_,by simp⟩;rw[flat1];simpa using a
end
end
section
def strF (t:TypeId):Option (List (Nat×Nat)×List Value):=
 match P.underlying t,P.info? t with
 |some (.struct fs),some i=>
  match fs.toList.mapM (λf=>(P.info? f.type).map λj=>(f.offset,j.size)),i.zero with
  |some pl,some z=>some (pl,z.cells.toList)
  |_,_=>none
 |_,_=>none
def setL (cs:List Value) (o:Nat):List Value->List Value
 |[]=>cs
 |c::r=>setL (cs.set o c) (o+1) r
def fillC (pl:List (Nat×Nat)) (cs:List Value):List Nat->List (List Value)->Option (List Value)
 |[],[]=>some cs
 |i::is,u::us=>
  match pl[i]? with
  |none=>none
  |some (o,s)=>if Nat.beq u.length s&&Nat.ble (o+s) cs.length then fillC pl (setL cs o u) is us else none
 |_,_=>none
section
variable {t:TypeId} {w:World} {K:oK}
theorem foldl_set (us:List Value):∀(cs:List Value) (o k:Nat),((us.zipIdx k).foldl (λ(cs:Array Value) (c,j)=>cs.setIfInBounds (o+j) c) ⟨cs⟩)=⟨setL cs (o+k) us⟩:=by
 induction us with
 |nil=>intro cs o k;rfl
 |cons u r a=>
  intro cs o k;rw[List.zipIdx_cons,List.foldl_cons];simp only[List.setIfInBounds_toArray,setL];rw[a,Pw]
theorem fill_eq {pl:List (Nat×Nat)}:∀{ps:List (Nat×Value)} {us:List (List Value)} {zs cs:List Value},ps.map (λp=>p.2.cells)=us.map List.toArray->fillC pl zs (ps.map (·.1)) us=some cs->
  Instr.fill (pl.toArray[·]?) ⟨zs⟩ ps=some ⟨cs⟩
 |[],[],zs,cs,_,h=>by simp only[PG,fillC,Gr] at h;rw[h];rfl
 |[],u::us,_,_,h,_=>by cases h
 |p::ps,[],_,_,h,_=>by cases h
 |(i,v)::ps,u::us,zs,cs,c,h=>by
  simp only[GF,Gg] at c;simp only[GF,fillC] at h;unfold Instr.fill;simp only[Pp];split at h
  .cases h
  .rename_i o s f;rw[f];simp only;split at h
   .rename_i b;rw[gg] at b;have d:=gB b.1;have g:=Po b.2;have e:=c.1;simp only[e];have a:(decide ((List.toArray u).size≠s)||decide (o+(List.toArray u).size>(List.toArray zs).size))=false:=by simp[d];omega
    rw[a];simp only[Gd,if_false];rw[<-PJ,Array.toList_zipIdx,foldl_set,G7];have:=fill_eq c.2 h;simpa only[Pp] using this
   .cases h
theorem QF {pl:List (Nat×Nat)} {ps:List (Nat×Value)} {us:List (List Value)} {zs cs:List Value} (h:strF t=some (pl,zs)) (d:ps.map (λp=>p.2.cells)=us.map List.toArray)
  (b:fillC pl zs (ps.map (·.1)) us=some cs) (a:K (.agg ⟨cs⟩) w):yA t ps w K:=by
 refine⟨_,w,run_build (P:=P) w t ⟨ps⟩ ⟨cs⟩ ?_,a⟩;unfold strF at h;split at h
 .rename_i fs i hu hi;split at h
  .rename_i f z c e;simp only[Gr,Gw] at h;obtain⟨rfl,rfl⟩:=h;simp only[Program.built,hu,hi,e,c];exact fill_eq d b
  .cases h
 .cases h
theorem Blk.stAgg {b:Nat} {cs cs':List Value} {t0:TypeId} (h:Blk w b cs t0) (a:cs'.length=cs.length) (i:aggB t cs'.length=true) (d:∀v,v∈cs'->v.oneCell'=true)
  (f:∀w',Same (· =b) w w'->w'.heap.size=w.heap.size->Blk w' b cs' t0->K undef w'):zG t (oP b 0) (.agg ⟨cs'⟩) w K:=by
 have c:=run_storeCells_at (P:=P) b 0 t0 cs' 0 ⟨cs⟩ w h (by simp[a]) d;refine⟨(),_,?_,f (w.setRow b (cs'.toArray)) ⟨rfl,rfl,rfl,by simp,λk _ g=>setRow_other w b k _ g⟩ (by simp) (setRow_heap w b _ _ t0 _ h)⟩;simp only[Instr.storeAt,Instr.sureAddr,Sem.run_bind,Sem.run_pure,Result.andThen_ok,storeVar,jj i,Value.cells];simp only[pb,z0c,not_true_eq_false,if_false];have e:(cs.take (0+0)++cs'++cs.drop (0+0+cs'.length))=cs':=by rw[a];simp
 simp only[e] at c;exact c
theorem QG {c:Bool} {a:Option Addr} {l k:Nat} (h:isSl t=true):qu .eql t c (.slice a l k) (oN) w K=K (.bool a.isNone) w:=by
 obtain⟨e,he⟩:=UP h;refine yp ?_ ?_
 .simp[eqG,eqGuard]
 .simp[binOp,run_equal_slice_nil w t e a l k he,Result.andThen]
theorem Sl.cells1 {F:oA} {k:Nat} {v:Value} {xs:List (List Value)} (h:Sl F w k v xs):v.cells= #[v]:=by
 obtain⟨a,c,rfl,_⟩:=h.shape;rfl
theorem Sl.one {F:oA} {k:Nat} {v:Value} {xs:List (List Value)} (h:Sl F w k v xs):v.oneCell'=true:=by
 obtain⟨a,c,rfl,_⟩:=h.shape;rfl
end
end
end Go.Vc
namespace Go.Vc
open Go Go.MapKept
section
def ISet (w:World) (b:Nat) (ks:oI):Prop:=
 ∃es clock,w.heap[b]?=some (.map es clock)/\Stamped es clock/\es.toList.map (·.key)=ks.map λk=>nI k
def imapB (t:TypeId):Bool:=match P.underlying t with
 |some (.map kt _)=>(match P.underlying kt with|some (.int .i64)=>true|_=>false)
 |_=>false
section
variable {t:TypeId} {w w':World} {K:oK} {b:Nat} {ks:oI} {S:oA}
set_option maxRecDepth 100000 in
theorem UQ (h:imapB t=true):∃kt et,P.underlying t=some (.map kt et)/\P.underlying kt=some (.int .i64):=by
 unfold imapB at h;split at h
 .rename_i kt et hu;split at h
  .exact⟨kt,et,hu,by assumption⟩
  .cases h
 .cases h
theorem ISet.lt (h:ISet w b ks):b<w.heap.size:=by
 obtain⟨es,cl,a,_⟩:=h;exact(gH.1 a).1
theorem ISet.same (h:ISet w b ks) (hw:Same S w w') (hs: ¬S b):ISet w' b ks:=by
 have a:=h.lt;obtain⟨es,cl,c,r⟩:=h;exact⟨es,cl,(hw.block b a hs).trans c,r⟩
theorem ISet.ext (h:ISet w b ks) (hw:Ext w w'):ISet w' b ks:=h.same hw id
theorem ISet.nodup (h:ISet w b ks):ks.Nodup:=by
 obtain⟨es,cl,f,c,d⟩:=h;have:=c.2.2;rw[d] at this;exact List.Pairwise.of_map _ (λa b h e=>h (by rw[e])) this
theorem V3 {es:Array MapEntry} (c:es.toList.map (·.key)=ks.map λk=>nI k):∀x∈es.toList,∃k,k∈ks/\x.key= nI k:=by
 intro x d;have:x.key∈es.toList.map (·.key):=Gc d;rw[c] at this;obtain⟨k,a,b⟩:=gy.1 this;exact⟨k,a,b.symm⟩
theorem xD (n:Int):IsKey (.int .i64) (nI n):=by simp[IsKey]
theorem jU {w:World} {r:Nat} {o o':Obj} (a:w.heap[r]?=some o):Same (· =r) w {w with heap:=w.heap.setIfInBounds r o'}:=
 ⟨rfl,rfl,rfl,by simp,λk _ b=>(heap_set (o':=o') a).2 k b⟩
theorem kE0 (a:∀b w',b=w.heap.size->ISet w' b []->Ext w w'->K (.map (some b)) w'):YY0 t none w K:=by
 refine⟨.map (some w.heap.size),w.alloc (.map #[] 0),?_,a _ _ rfl ⟨#[],0,(heap_alloc w _).1,stamped_empty 0,rfl⟩ ⟨rfl,rfl,rfl,by simp,λk c _=>(heap_alloc w _).2 k c⟩⟩;simp[Instr.makeMap,newObj,Sem.run]
theorem zB0 {k:Int} {x:Value} (z:imapB t=true) (h:ISet w b ks)
  (o:∀w',ISet w' b (if k∈ks then ks else ks++[k])->Same (· =b) w w'->w'.heap.size=w.heap.size->K undef w'):zC0 t (.map (some b)) (nI k) x w K:=by
 obtain⟨kt,et,hm,p⟩:=UQ z;obtain⟨es,cl,c,l,i⟩:=h;have s:∀y∈es.toList,IsKey (.int .i64) y.key:=λy a=>by obtain⟨n,_,e⟩:=V3 i y a;rw[e];exact xD n
 rcases findNow_spec (xD k) es.toList 0 s with⟨q,g⟩|⟨j,e,q,g,m⟩
 .have u:k∉ks:=λf=>by
   have:nI k∈es.toList.map (·.key):=by rw[i];exact Gc f
   obtain⟨y,a,e⟩:=gy.1 this;exact g y a e
  rw[y3 u] at o;refine⟨(),{w with heap:=w.heap.setIfInBounds b (.map (es.push {key:= nI k,val:=x,born:=cl}) (cl+1))},?_,o _ ⟨_,_,(heap_set c).1,stamped_push l g,by simp[i]⟩ (jU c) (by simp)⟩;simp[Instr.mapUpdate,run_underlying hm,MapKept.run_getObj_map c,run_checkKey p (xD k),run_findKey p q,run_setObj_map _ c,Result.andThen]
 .have f:k∈ks:=by
   have:e.key∈es.toList.map (·.key):=Gc (G9 g);rw[i,m] at this;obtain⟨n,u,v⟩:=gy.1 this;cases v;exact u
  rw[X0 f] at o;have d:es[j]?=some e:=(by simpa using g);have A:∀y∈es.toList,es[0+j]?=some y->({y with key:= nI k,val:=x}:MapEntry).key=y.key:=λy _ a=>by
   rw[Gi,d] at a;cases a;exact m.symm
  refine⟨(),{w with heap:=w.heap.setIfInBounds b (.map (es.modify (0+j) λy=>{y with key:= nI k,val:=x}) cl)},?_,o _ ⟨_,_,(heap_set c).1,stamped_modify l _ _ (λ_ _=>rfl) A,?_⟩ (jU c) (by simp)⟩
  .have r:((es[0+j]?).map (·.key)).getD (nI k)= nI k:=by rw[Gi,d];exact m
   simp only[Instr.mapUpdate,Sem.run_bind,run_underlying hm,MapKept.run_getObj_map c,run_checkKey p (xD k),run_findKey p q,Result.andThen,r,run_keyThatStays (xD k),run_setObj_map _ c]
  .rw[modify_keys _ _ λy a=>by rw[Gi,d] at a;cases a;exact m.symm];exact i
theorem map_erase {α β:Type} (f:α->β):∀(l:List α) (j:Nat),(l.eraseIdx j).map f=(l.map f).eraseIdx j
 |[],_=>rfl
 |_::_,0=>rfl
 |x::l,j+1=>by simp[map_erase f l j]
theorem yR0 {k:Int} {t2 ty:TypeId} (A:imapB t=true) (h:ISet w b ks)
  (i:∀w',ISet w' b (ks.erase k)->Same (· =b) w w'->w'.heap.size=w.heap.size->K (.tuple #[]) w'):vbi .delete [t,t2] ty [.map (some b),nI k] w K:=by
 obtain⟨kt,et,hm,l⟩:=UQ A;obtain⟨es,cl,a,d,f⟩:=h;have s:∀y∈es.toList,IsKey (.int .i64) y.key:=λy x=>by obtain⟨n,_,e⟩:=V3 f y x;rw[e];exact xD n
 have v:=ISet.nodup ⟨es,cl,a,d,f⟩;rcases findNow_spec (xD k) es.toList 0 s with⟨o,g⟩|⟨j,e,o,g,z⟩
 .have B:k∉ks:=λp=>by
   have:nI k∈es.toList.map (·.key):=by rw[f];exact Gc p
   obtain⟨y,x,e⟩:=gy.1 this;exact g y x e
  rw[List.erase_of_not_mem B] at i;refine⟨.tuple #[],{w with heap:=w.heap.setIfInBounds b (.map es cl)},?_,i _ ⟨_,_,(heap_set a).1,d,f⟩ (jU a) (by simp)⟩;simp[biSem,Builtin.delete_,run_underlying hm,MapKept.run_getObj_map a,run_checkKey l (xD k),run_findKey l o,run_setObj_map _ a,Result.andThen]
 .have r:ks[j]?=some k:=by
   have:(es.toList.map (·.key))[j]?=some (nI k):=by rw[GN,g];simp[z]
   rw[f,GN] at this;cases m:ks[j]? with
   |none=>rw[m] at this;cases this
   |some n=>rw[m] at this;simp at this;rw[this]
  have c:ks.erase k=ks.eraseIdx j:=by
   obtain⟨m,q⟩:=Gx.1 r;rw[List.erase_eq_eraseIdx_of_idxOf];rw[<-q];exact v.idxOf_getElem j m
  rw[c] at i;have u:0+j<es.size:=by have:=(Gx.1 g).1;simpa using this
  refine⟨.tuple #[],{w with heap:=w.heap.setIfInBounds b (.map (es.eraseIdxIfInBounds (0+j)) cl)},?_,i _ ⟨_,_,(heap_set a).1,stamped_erase d _,?_⟩ (jU a) (by simp)⟩
  .simp only[biSem,Builtin.delete_,Pp,Pe,Pf,Sem.run_bind,Sem.run_pure,run_underlying hm,MapKept.run_getObj_map a,run_checkKey l (xD k),run_findKey l o,run_setObj_map _ a,Result.andThen]
  .unfold Array.eraseIdxIfInBounds;rw[dif_pos u,Array.toList_eraseIdx,Gi,map_erase,f,map_erase]
def IterR (w:World) (r b:Nat) (ks ds:oI):Prop:=
 ∃es clock seen,w.heap[b]?=some (.map es clock)/\Stamped es clock/\es.toList.map (·.key)=ks.map (λk=>nI k)/\w.heap[r]?=some (.mapIter (some b) clock seen clock)/\ds.Nodup/\(∀k,k∈ds->k∈ks)/\
  (∀e,e∈es.toList->(seen.contains e.born=true↔ ∃k,k∈ds/\e.key= nI k))/\(∀ds' k,ds=ds'++[k]->∃e,e∈es.toList/\e.key= nI k/\∃s':Array Nat,seen=s'.push e.born)
theorem IterR.same {r:Nat} {ds:oI} (h:IterR w r b ks ds) (hw:Same S w w') (a: ¬S b) (k: ¬S r):IterR w' r b ks ds:=by
 obtain⟨es,clock,seen,d,c,j,hit,e,f,g,i⟩:=h;exact⟨es,clock,seen,(hw.block b (gH.1 d).1 a).trans d,c,j,(hw.block r (gH.1 hit).1 k).trans hit,e,f,g,i⟩
theorem IterR.ext {r:Nat} {ds:oI} (h:IterR w r b ks ds) (hw:Ext w w'):IterR w' r b ks ds:=h.same hw id id
theorem IterR.nd {r:Nat} {ds:oI} (h:IterR w r b ks ds):ds.Nodup:=by
 obtain⟨es,clock,seen,d,c,e,hit,a,_⟩:=h;exact a
theorem IterR.sub {r:Nat} {ds:oI} (h:IterR w r b ks ds) {k:Int} (a:k∈ds):k∈ks:=by
 obtain⟨es,clock,seen,f,d,g,hit,e,c,_⟩:=h;exact c k a
theorem IterR.len {r:Nat} {ds:oI} (h:IterR w r b ks ds):ds.length<=ks.length:=h.nd.length_le_of_subset λ_ a=>h.sub a
theorem IterR.lt {r:Nat} {ds:oI} (h:IterR w r b ks ds):r<w.heap.size:=by
 obtain⟨es,clock,seen,c,a,d,hit,_⟩:=h;exact(gH.1 hit).1
theorem Wx (f:imapB t=true) (h:ISet w b ks) (e:∀r w',r=w.heap.size->IterR w' r b ks []->Ext w w'->K (oP r 0) w'):ZF0 t (.map (some b)) w K:=by
 obtain⟨kt,et,hm,g⟩:=UQ f;obtain⟨es,cl,a,d,c⟩:=h;refine⟨oP w.heap.size 0,w.alloc (.mapIter (some b) cl #[] cl),?_,e _ _ rfl ⟨es,cl,#[],?_,d,c,(MapKept.heap_alloc w _).1,pn,by simp,by simp,by simp⟩ ⟨rfl,rfl,rfl,by simp,λk c _=>(MapKept.heap_alloc w _).2 k c⟩⟩
 .simp[Instr.range,run_underlying hm,MapKept.run_getObj_map a,Result.andThen,newObj,Sem.run]
 .rw[(MapKept.heap_alloc w _).2 b (gH.1 a).1];exact a
theorem Wy {r:Nat} {ds:oI} {k:Int} (h:IterR w r b ks (ds++[k])) (f:∀x,K (.tuple #[nI k,x]) w):ZI0 (oP r 0) w K:=by
 obtain⟨es,clock,seen,g,c,n,hit,j,l,m,d⟩:=h;obtain⟨e,he,a,o,rfl⟩:=d _ _ rfl;refine⟨.tuple #[e.key,e.val],w,?_,a▸f e.val⟩;have i:es.find? (·.born==e.born)=some e:=by rw[<-Array.find?_toList];exact find_born e es.toList c.2.1 he
 simp only[Instr.entry,getObj,Sem.run_bind,Sem.run,hit,g,Result.andThen,Array.back?_push,bne_self_eq_false,Gd,if_false,i];rfl
theorem vnext_set {r:Nat} {ds:oI} {ty:TypeId} (h:IterR w r b ks ds) (t:(∀k,k∈ks->k∈ds)->K (.tuple #[.bool false]) w)
  (hK:∀k x w',k∈ks->k∉ds->IterR w' r b ks (ds++[k])->Same (· =r) w w'->w'.heap.size=w.heap.size->K (.tuple #[.bool true,nI k,x]) w'):YX0 (oP r 0) false ty w K:=by
 obtain⟨es,clock,seen,J,m,Q,hit,h1,h2,I,h4⟩:=h;have hold:∀x∈es.toList,x.born<clock:=m.1;have U:r≠b:=λe=>by subst e;rw[J] at hit;cases hit
 have z:∀k,k∈ks->∃e,e∈es.toList/\e.key= nI k:=λk g=>by
  have:nI k∈es.toList.map (·.key):=by rw[Q];exact Gc g
  obtain⟨y,hy,e⟩:=gy.1 this;exact⟨y,hy,e⟩
 have o:∀{v:Value} {w':World},(∃(L:Array MapEntry),L=leftOf es seen/\
   ((L.size=0/\v= .tuple #[.bool false]/\w'=w)\/ ∃(j:Nat) (w1:World) (e:MapEntry),L[j]?=some e/\(choose (Question.mapNext L.size)).run P w= .ok j w1/\w1.heap=w.heap/\v= .tuple #[.bool true,e.key,e.val]/\w'={w1 with heap:=w.heap.setIfInBounds r (.mapIter (some b) clock (seen.push e.born) clock)}))->
   (Instr.next (oP r 0) false ty).run P w= .ok v w':=by
  rintro v w' ⟨L,W,E⟩;simp only[Instr.next,getObj,Sem.run_bind,Sem.run,hit,J,Result.andThen,next_test_false seen es clock clock hold (gr _),Gd,if_false];unfold leftOf at W;have l:∀x∈(Array.filter (λe=> !seen.contains e.born) es).toList,x.born<clock:=λx d=>hold x (by simp at d⊢;exact d.1);rw[<-W] at l⊢;have e1:L.filter (λx=>decide (x.born<clock))=L:=Array.filter_eq_self.2 (λx d=>by simpa using l x (by simpa using d));have H:L.filter (λx=>decide (x.born≥clock))= #[]:=by
   rw[Array.filter_eq_empty_iff];intro x d;have:=l x (by simpa using d);simp;omega
  simp only[e1,H,Array.append_empty];rcases E with⟨D,rfl,rfl⟩|⟨j,w1,e,G,p,F,rfl,rfl⟩
  .have:L= #[]:=Array.eq_empty_of_size_eq_zero D;subst this;simp[choose,Sem.run,Question.forced]
  .have a1:=(gH.1 G).1;have A:L.isEmpty=false:=(by simp[Array.isEmpty,show L.size≠0 by omega]);simp only[A,Gd,if_false,Array.empty_append,Array.size_map];have Y:w1.heap[r]?=some (.mapIter (some b) clock seen clock):=by rw[F];exact hit
   have B:∀o',(setObj r o').run P w1= .ok () {w1 with heap:=w.heap.setIfInBounds r o'}:=λo'=>by
    simp only[setObj,Sem.run,F,hit]
   simp only[p,Array.getElem?_map,G,Option.map_some,Sem.run_bind,B,Result.andThen];rfl
 by_cases D:(leftOf es seen).size=0
 .refine⟨_,w,o ⟨_,rfl,.inl ⟨D,rfl,rfl⟩⟩,t λk g=>?_⟩;obtain⟨e,he,f⟩:=z k g;obtain⟨k',S,s⟩:=(I e he).1 (all_seen es seen D e he);rw[f] at s;cases s;exact S
 .have p:∃(j:Nat) (w1:World),j<(leftOf es seen).size/\(w1=w\/w1={w with drawn:=w.drawn+1})/\(choose (Question.mapNext (leftOf es seen).size)).run P w= .ok j w1:=by
   by_cases X:(leftOf es seen).size<=1
   .exact⟨0,w,oM,.inl rfl,by simp[choose,Sem.run,Question.forced,X]⟩
   .exact⟨_,_,pS _ oM,.inr rfl,by
     simp only[choose,Sem.run,Question.forced,V0,X,if_false,Question.cut];rfl⟩
  obtain⟨j,w1,G,C,M⟩:=p;have i:=GB G;generalize (leftOf es seen)[j]=e at i;have O:e∈(leftOf es seen).toList:=(by simpa using pw i);obtain⟨he,V⟩:=mem_left O;obtain⟨k,g,f⟩:=V3 Q e he;have u:k∉ds:=λh=>by
   have:=(I e he).2 ⟨k,h,f⟩;rw[V] at this;cases this
  have F:w1.heap=w.heap:=by rcases C with rfl|rfl<;>rfl
  refine⟨_,_,o ⟨_,rfl,.inr ⟨j,w1,e,i,M,F,rfl,rfl⟩⟩,?_⟩;rw[f];have hS:Same (· =r) w {w1 with heap:=w.heap.setIfInBounds r (.mapIter (some b) clock (seen.push e.born) clock)}:=by
   have:=jU (o':= .mapIter (some b) clock (seen.push e.born) clock) hit;rcases C with rfl|rfl
   .exact this
   .exact⟨this.os,this.tape,this.output,this.size,this.block⟩
  refine hK k e.val _ g u ⟨es,clock,seen.push e.born,?_,m,Q,(heap_set hit).1,?_,?_,?_,?_⟩ hS (by simp)
  .exact((heap_set hit).2 b (λe=>U e.symm)).trans J
  .rw[Gu];exact⟨h1,by simp,λa ha c E e=>by simp at E;subst E;subst e;exact u ha⟩
  .intro x d;rw[gl,gx] at d;rcases d with d|rfl
   .exact h2 x d
   .exact g
  .intro s q;rw[contains_push,Gm,I s q];constructor
   .rintro(⟨x,d,n⟩|d)
    .exact⟨x,Ge _ d,n⟩
    .have:=born_inj m.2.1 q he (by simpa using d);subst this;exact⟨k,by simp,f⟩
   .rintro⟨x,d,n⟩;rw[gl,gx] at d;rcases d with d|rfl
    .exact .inl ⟨x,d,n⟩
    .right;have:s=e:=by
      have T:=m.2.2;have Z:=pc.1 T;exact(List.Pairwise.forall_of_forall_of_flip (R:=λx y=>x.key=y.key->x=y) (by simp) (Z.imp λh e=>absurd e h) (Z.imp λh e=>absurd e.symm h)) q he (by rw[n,f])
     subst this;simp
  .rintro a0 k' N;have:=List.append_inj' N rfl;have H:k=k':=(by simpa using this.2);subst H;exact⟨e,he,f,seen,rfl⟩
end
end
end Go.Vc
namespace Go.Vc
open Go
section
section
variable {w:World} {K:oK}
theorem vbi_max {ts:List TypeId} {t:TypeId} {k a:IntKind} {x y:Int}:vbi .max ts t [.int k x,.int a y] w K=K (.int k (max x y)) w:=by
 refine y9 ?_;simp only[biSem,run_max_int2];rw[Int.max_def];split<;>split<;>(first|rfl|(exfalso;omega)|skip)
 all_goals (have:x=y:=oM)<;>rw[this]
theorem Yc0 {ts:List TypeId} {t:TypeId} {k a:IntKind} {x y:Int}:vbi .min ts t [.int k x,.int a y] w K=K (.int k (min x y)) w:=by
 refine y9 ?_;simp only[biSem,run_min_int2];rw[Int.min_def];split<;>split<;>(first|rfl|(exfalso;omega)|skip)
 all_goals (have:x=y:=oM)<;>rw[this]
attribute [push_cast] vbi_max Yc0
theorem setL_app:∀(us a b:List Value),us.length<=b.length->setL (a++b) a.length us=a++us++b.drop us.length
 |[],a,b,_=>by simp[setL]
 |u::us,a,[],h=>by simp at h
 |u::us,a,c::b,h=>by
  have e:(a++c::b).set a.length u=(a++[u])++b:=(by simp);rw[setL,e,show a.length+1=(a++[u]).length from by simp,setL_app us (a++[u]) b (by simpa using h)];simp
theorem fill_row {k:Nat}:∀(xs:List Value) (us:List (List Value)) (i:Nat) (a b:List Value),xs.map Value.cells=us.map List.toArray->(∀u,u∈us->u.length=k)->a.length=i*k->b.length=xs.length*k->
  Instr.fill (λi=>some (i*k,k)) ⟨a++b⟩ ((xs.zipIdx i).map λp=>(p.2,p.1))=some ⟨a++us.flatten⟩
 |[],[],i,a,b,_,_,_,c=>by
  have:b=[]:=gL (by simpa using c);subst this;simp[Instr.fill]
 |[],u::us,_,_,_,h,_,_,_=>by simp at h
 |x::xs,[],_,_,_,h,_,_,_=>by simp at h
 |x::xs,u::us,i,a,b,h,hw,d,c=>by
  simp only[GF,Gg] at h;have hu:=hw u gk;rw[gF,pa,Pg] at c;have hs:x.cells.size=k:=by rw[h.1];simpa using hu
  rw[List.zipIdx_cons,GF,Instr.fill];simp only[hs,z0c,not_true_eq_false,decide_false,z0g,pb,Q1];rw[y3 (by simp;omega)];rw[<-PJ,Array.toList_zipIdx,h.1];rw[foldl_set,G7,<-d,setL_app u a b oM,gZ,<-gZ a u];rw[fill_row xs us (i+1) (a++u) (b.drop u.length) h.2 (λv e=>hw v (gp _ e)) (by simp[d,hu,pa]) (by simp;omega)];simp
theorem vbuildS_row {t:TypeId} {e k:Nat} {z:Value} {xs:List Value} {us:List (List Value)} (hu:P.underlying t=some (.slice e)) (j:qr e k=true) (hzero:yl e z) (h:xs.map Value.cells=us.map List.toArray) (hw:∀u,u∈us->u.length=k) (g:xs.length*k<=16777216)
  (d:∀b w',b=w.heap.size->Ext w w'->w'.heap.size=w.heap.size+1->Blk w' b us.flatten e->K (.slice (some ⟨b,0,none⟩) xs.length xs.length) w'):vbuildS t xs.length (xs.zipIdx.map λp=>(p.2,p.1)) w K:=by
 refine⟨_,_,?_,d w.heap.size {w with heap:=w.heap.push (.cells ⟨us.flatten⟩ e)} rfl (ext_push w _) (by simp) (Qy w _ e)⟩;have a:∀c:Array Value,c.size=xs.length*k->Instr.fill (λi=>some (i*k,k)) c (xs.zipIdx.map λp=>(p.2,p.1))=some ⟨us.flatten⟩:=λc f=>by
  have:=fill_row xs us 0 [] c.toList h hw (by simp) (by simpa using f);simpa using this
 simp only[Instr.buildSlice,Sem.run_bind,xB hu,Result.andThen_ok,run_sizeOf j];rw[y3 oM];split
 .simp only[Sem.run_bind,Sem.run_pure,Result.andThen_ok];rw[a _ (by simp)];rfl
 .simp only[Sem.run_bind,Sem.run_pure,Result.andThen_ok,YA hzero];rw[a _ (by simp)];rfl
theorem vbuildS_row1 {t:TypeId} {e:Nat} {z:Value} {xs:List Value} (hu:P.underlying t=some (.slice e)) (k:qr e 1=true) (hzero:yl e z) (j:∀x,x∈xs->x.cells= #[x]) (i:xs.length<=16777216)
  (h:∀b w',b=w.heap.size->Ext w w'->w'.heap.size=w.heap.size+1->Blk w' b xs e->K (.slice (some ⟨b,0,none⟩) xs.length xs.length) w'):vbuildS t xs.length (xs.zipIdx.map λp=>(p.2,p.1)) w K:=by
 refine vbuildS_row (us:=xs.map λx=>[x]) hu k hzero ?_ (λu hu=>by obtain⟨y,_,rfl⟩:=gy.1 hu;rfl) oM λb w' c d f g=>h b w' c d f (by rwa[flat1] at g);rw[GV];exact Gq λx a=>j x a
theorem kN {t:TypeId} {c:Bool} {k:IntKind} {a b:Int} (d:b≠0):qu .quo t c (.int k a) (.int k b) w K=K (.int k (k.wrap (a.tdiv b))) w:=
 yp rfl (by simp[binOp,Op.intDiv,d])
theorem Zk {t:TypeId} {c:Bool} {k:IntKind} {a b:Int} (d:b≠0):qu .rem t c (.int k a) (.int k b) w K=K (.int k (a.tmod b)) w:=
 yp rfl (by simp[binOp,Op.intDiv,d])
def qG0 (t:TypeId) (k:IntKind):Prop:=P.underlying t=some (.int k)
theorem qI {s d:TypeId} {k c:IntKind} {n:Int} (hs:(P.underlying s).isSome=true) (a:qG0 d k):yS0 s d (.int c n) w K=K (.int k (k.wrap n)) w:=by
 refine y9 ?_;obtain⟨x,b⟩:=G6.1 hs;unfold qG0 at a;simp only[convert,Sem.run_bind,xB b,xB a,Result.andThen_ok];cases x<;>rfl
end
end
end Go.Vc
namespace Go.Vc
open Go Go.MapKept
section
def MapF (d:TypeDesc) (w:World) (b:Nat) (f:List (Value×Value)):Prop:=
 ∃es clock,w.heap[b]?=some (.map es clock)/\Stamped es clock/\(∀x∈es.toList,IsKey d x.key)/\es.toList.map (λe=>(e.key,e.val))=f
def Z20 (t:TypeId) (d:TypeDesc) (e:TypeId):Prop:= ∃kt,P.underlying t=some (.map kt e)/\P.underlying kt=some d
section
variable {t e:TypeId} {d:TypeDesc} {w w':World} {K:oK} {b:Nat} {f:List (Value×Value)} {S:oA}
theorem MapF.lt (h:MapF d w b f):b<w.heap.size:=by
 obtain⟨es,cl,a,_⟩:=h;exact(gH.1 a).1
theorem MapF.same (h:MapF d w b f) (hw:Same S w w') (hs: ¬S b):MapF d w' b f:=by
 have a:=h.lt;obtain⟨es,cl,c,r⟩:=h;exact⟨es,cl,(hw.block b a hs).trans c,r⟩
theorem MapF.ext (h:MapF d w b f) (hw:Ext w w'):MapF d w' b f:=h.same hw id
theorem MapF.nodup (h:MapF d w b f):(f.map (·.1)).Nodup:=by
 obtain⟨es,cl,e,a,c,rfl⟩:=h;have:=a.2.2;rw[GV];exact this
theorem qW0 {r:Option Value} {k:IntKind} {n:Nat} (c:Z20 t d e) (g:r=none\/r=some (.int k n)) (a:∀b w',b=w.heap.size->MapF d w' b []->Ext w w'->w'.heap.size=w.heap.size+1->K (.map (some b)) w'):YY0 t r w K:=by
 refine⟨.map (some w.heap.size),w.alloc (.map #[] 0),?_,a _ _ rfl ⟨#[],0,(heap_alloc w _).1,stamped_empty 0,by simp,rfl⟩ ⟨rfl,rfl,rfl,by simp,λk f _=>(heap_alloc w _).2 k f⟩ (by simp)⟩;obtain⟨kt,hm,h⟩:=c;rcases g with rfl|rfl
 .simp[Instr.makeMap,newObj,Sem.run]
 .simp only[Instr.makeMap,Sem.run_bind,xB hm,Result.andThen_ok];simp[asInt,asIntOf,newObj,Sem.run,Result.andThen]
theorem xo0 (c:Z20 t d e) (a:∀b w',b=w.heap.size->MapF d w' b []->Ext w w'->w'.heap.size=w.heap.size+1->K (.map (some b)) w'):YY0 t none w K:=qW0 (k:= .i64) (n:=0) c (.inl rfl) a
theorem qU0 {k x:Value} (r:Z20 t d e) (h:MapF d w b f) (l:IsKey d k) (s:∀v,(k,v)∉f)
  (q:∀w',MapF d w' b (f++[(k,x)])->Same (· =b) w w'->w'.heap.size=w.heap.size->K undef w'):zC0 t (.map (some b)) k x w K:=by
 obtain⟨kt,hm,o⟩:=r;obtain⟨es,cl,g,m,c,rfl⟩:=h;rcases findNow_spec l es.toList 0 c with⟨n,i⟩|⟨j,e,n,i,p⟩
 .refine⟨(),{w with heap:=w.heap.setIfInBounds b (.map (es.push {key:=k,val:=x,born:=cl}) (cl+1))},?_,q _ ⟨_,_,(heap_set g).1,stamped_push m i,λy a=>?_,by simp⟩ (jU g) (by simp)⟩
  .simp[Instr.mapUpdate,run_underlying hm,MapKept.run_getObj_map g,run_checkKey o l,run_findKey o n,run_setObj_map _ g,Result.andThen]
  .rw[PQ] at a;rcases gl.1 a with a|a
   .exact c y a
   .rw[gx.1 a];exact l
 .exact absurd (gy.2 ⟨e,G9 i,by rw[p]⟩) (s e.val)
theorem XN {k v:Value} {ok:Bool} (F:Z20 t d e) (h:MapF d w b f) (E:IsKey d k) (l:(k,v)∈f):
  XO t (.map (some b)) k ok w K=K (if ok then .tuple #[v,.bool true] else v) w:=by
 obtain⟨kt,hm,D⟩:=F;have H:=h.nodup;obtain⟨es,cl,G,u,r,rfl⟩:=h;rcases findNow_spec E es.toList 0 r with⟨B,q⟩|⟨j,e,B,q,C⟩
 .obtain⟨x,y,e⟩:=gy.1 l;cases e;exact absurd rfl (q x y)
 .obtain⟨x,y,A⟩:=gy.1 l;have z:x=e:=by
   have s:e∈es.toList:=G9 q;have I:=u.2.2;cases A;have n:es.toList.Pairwise λa b=>a.key≠b.key:=pc.1 I;by_cases m:x=e
   .exact m
   .obtain⟨i1,g,o⟩:=gq y;obtain⟨i2,i,p⟩:=gq s;rcases Nat.lt_trichotomy i1 i2 with c|heq|c
    .exact absurd (by rw[o,p];exact C.symm) (GC.1 n i1 i2 g i c)
    .subst heq;exact absurd (o.symm.trans p) m
    .exact absurd (by rw[o,p];exact C) (GC.1 n i2 i1 i g c)
  subst z;cases A;refine y9 ?_;cases ok<;>simp[Instr.lookup,run_underlying hm,MapKept.run_getObj_map G,run_checkKey D E,run_findKey D B,Result.andThen]
theorem zD0 {k z:Value} {ok:Bool} (n:Z20 t d e) (r:yl e z) (h:MapF d w b f) (l:IsKey d k) (p:∀v,(k,v)∉f):
  XO t (.map (some b)) k ok w K=K (if ok then .tuple #[z,.bool false] else z) w:=by
 obtain⟨kt,hm,i⟩:=n;obtain⟨es,cl,o,q,a,rfl⟩:=h;rcases findNow_spec l es.toList 0 a with⟨c,g⟩|⟨j,e,c,g,m⟩
 .refine y9 ?_;cases ok<;>simp[Instr.lookup,run_underlying hm,MapKept.run_getObj_map o,run_checkKey i l,run_findKey i c,YA r,Result.andThen]
 .exact absurd (gy.2 ⟨e,G9 g,by rw[m]⟩) (p e.val)
theorem zO {ty:TypeId} {v rcv:Value} {name:String} {args:Array Value} {g:Nat} (hm:∀w:World,(method (P.types.size+Made.depth) ty v name).run P w= .ok (g,rcv) w) (h:vcall g ⟨rcv::args.toList⟩ w K):vinvoke (.iface ty v) name args w K:=
 ⟨g,rcv,hm w,h⟩
def concB (t:TypeId):Bool:=match P.underlying t with|some (.interface _)=>false|some _=>true|none=>false
theorem Z1 (h:concB t=true) (v:Value):qA0 t v w K=K (.iface t v) w:=by
 refine y9 ?_;unfold concB at h;cases hu:P.underlying t with
 |none=>rw[hu] at h;cases h
 |some x=>
  rw[hu] at h;simp only[Instr.makeInterface,Sem.run_bind,xB hu,Result.andThen_ok];cases x<;>first|(cases h;done)|simp
theorem yJ0 (a b:ByteArray):(a.toList==b.toList)=decide (a=b):=by
 rw[<-beq_toListBytes];by_cases h:a=b
 .subst h;rw[gz rfl];exact(MapKept.bytes_beq a a).2 rfl
 .rw[gm h,GS];exact λe=>h ((MapKept.bytes_beq a b).1 e)
@[push_cast] theorem YK0 {c:Bool} (t:TypeId) (a b:ByteArray):qu .eql t c (.string a) (.string b) w K=K (.bool (decide (a=b))) w:=
 yp rfl (by rw[binOp_string_eql,yJ0];rfl)
@[push_cast] theorem YJ0 {c:Bool} (t:TypeId) (a b:ByteArray):qu .neq t c (.string a) (.string b) w K=K (.bool (decide (a≠b))) w:=
 yp rfl (by rw[binOp_string_neq,yJ0,decide_not];rfl)
theorem Zj {c:Bool} {t:TypeId} {a b:ByteArray} (h:a.size+b.size<=9223372036854775807):qu .add t c (.string a) (.string b) w K=K (.string (a++b)) w:=
 yp rfl (by simp only[binOp_string_add];exact run_string_add_sum w a b h)
theorem XQ {t ty:TypeId} {s:ByteArray} (h:P.underlying t=some .string):vbi .len [t] ty [.string s] w K=K (nI s.size) w:=
 y9 (run_len_string (P:=P) (w:=w) t ty s h)
theorem vindex_str {t:TypeId} {s:ByteArray} {k:IntKind} {i:Int} (h:P.underlying t=some .string) (b:0<=i) (c:i<s.size):qY0 t (.string s) (.int k i) w K=K (.int .u8 ((s.data.getD i.toNat 0).toNat:Int)) w:=by
 refine y9 ?_;rw[run_index_string (P:=P) (w:=w) t s k i h];have a:i.toNat<s.size:=oM
 have d:i.toNat<s.data.size:=a;rw[dif_pos ⟨b,c⟩,gX,GB d];rfl
theorem xX0 {t:TypeId} {s:ByteArray} {k a:IntKind} {i j:Int} (h:P.underlying t=some .string) (b:0<=i) (c:i<=j) (d:j<=s.size):xy t (.string s) (some (.int k i)) (some (.int a j)) none w K=K (.string (s.extract i.toNat j.toNat)) w:=by
 refine y9 ?_;rw[run_sliceAt_string w t _ _ _ _ h];exact run_slice_string (P:=P) w t s k a i j h b c d
theorem xq0 {c:Bool} {t:TypeId} {k yk:IntKind} {x y:Int} (h:0<=y):qu .shl t c (.int k x) (.int yk y) w K=K (.int k (k.wrap (x*2^min y.toNat k.bits))) w:=
 yp rfl (by simp[binOp,shift_shl_any,h])
theorem xp0 {c:Bool} {t:TypeId} {k yk:IntKind} {x y:Int} (h:0<=y):qu .shr t c (.int k x) (.int yk y) w K=K (.int k (x/2^min y.toNat k.bits)) w:=
 yp rfl (by simp[binOp,shift_shr_any,h])
theorem wrapU {n:Nat} (h:n<18446744073709551616):IntKind.u64.wrap (n:Int)=n:=by
 simp only[IntKind.wrap,IntKind.bits,IntKind.signed,GU,Gd,if_false];omega
theorem wrapN {n:Nat} (h:n<9223372036854775808):IntKind.i64.wrap (n:Int)=n:=zk oM oM
theorem Q2 (n:Nat):BitVec.ofInt 64 (n:Int)=BitVec.ofNat 64 n:=by simp
theorem ZT {c:Bool} {t:TypeId} {a b:Nat} (d:a<18446744073709551616) (g:b<18446744073709551616):qu .and t c (.int .u64 a) (.int .u64 b) w K=K (.int .u64 (a&&&b:Nat)) w:=
 yp rfl (by
  have f:a&&&b<18446744073709551616:=PH Nat.and_le_left d;have e:(BitVec.ofInt 64 (a:Int)&&&BitVec.ofInt 64 (b:Int)).toNat=a&&&b:=by
   rw[Q2,Q2,BitVec.toNat_and,BitVec.toNat_ofNat,BitVec.toNat_ofNat,Gz d,Gz g]
  simp only[binOp,z0c,not_true_eq_false,if_false,Op.intBits];show(pure (Value.int .u64 (IntKind.u64.wrap ((BitVec.ofInt 64 (a:Int)&&&BitVec.ofInt 64 (b:Int)).toNat:Int))):Sem Value).run P w=_;rw[e,wrapU f];rfl)
theorem xr0 {c:Bool} {t:TypeId} {a b:Nat} (d:a<18446744073709551616) (f:b<18446744073709551616):qu .or t c (.int .u64 a) (.int .u64 b) w K=K (.int .u64 (a|||b:Nat)) w:=
 yp rfl (by
  have g:a|||b<2^64:=PR d f;have e:(BitVec.ofInt 64 (a:Int)|||BitVec.ofInt 64 (b:Int)).toNat=a|||b:=by
   rw[Q2,Q2,BitVec.toNat_or,BitVec.toNat_ofNat,BitVec.toNat_ofNat,Gz d,Gz f]
  simp only[binOp,z0c,not_true_eq_false,if_false,Op.intBits];show(pure (Value.int .u64 (IntKind.u64.wrap ((BitVec.ofInt 64 (a:Int)|||BitVec.ofInt 64 (b:Int)).toNat:Int))):Sem Value).run P w=_;rw[e,wrapU g];rfl)
theorem j50 {c:Bool} {t:TypeId} {a b:Nat} (d:a<18446744073709551616) (f:b<18446744073709551616):qu .xor t c (.int .u64 a) (.int .u64 b) w K=K (.int .u64 (a^^^b:Nat)) w:=
 yp rfl (by
  have g:a^^^b<2^64:=Nat.xor_lt_two_pow d f;have e:(BitVec.ofInt 64 (a:Int)^^^BitVec.ofInt 64 (b:Int)).toNat=a^^^b:=by
   rw[Q2,Q2,BitVec.toNat_xor,BitVec.toNat_ofNat,BitVec.toNat_ofNat,Gz d,Gz f]
  simp only[binOp,z0c,not_true_eq_false,if_false,Op.intBits];show(pure (Value.int .u64 (IntKind.u64.wrap ((BitVec.ofInt 64 (a:Int)^^^BitVec.ofInt 64 (b:Int)).toNat:Int))):Sem Value).run P w=_;rw[e,wrapU g];rfl)
theorem vbin_orI {c:Bool} {t:TypeId} {a b:Nat} (f:a<9223372036854775808) (g:b<9223372036854775808):qu .or t c (nI a) (nI b) w K=K (nI (a|||b:Nat)) w:=
 yp rfl (by
  have d:a|||b<2^63:=PR f g;have e:(BitVec.ofInt 64 (a:Int)|||BitVec.ofInt 64 (b:Int)).toNat=a|||b:=by
   rw[Q2,Q2,BitVec.toNat_or,BitVec.toNat_ofNat,BitVec.toNat_ofNat,Gz oM,Gz oM]
  simp only[binOp,z0c,not_true_eq_false,if_false,Op.intBits];show(pure (nI (IntKind.i64.wrap ((BitVec.ofInt 64 (a:Int)|||BitVec.ofInt 64 (b:Int)).toNat:Int))):Sem Value).run P w=_;rw[e,wrapN d];rfl)
theorem vun_xorU {a:Nat} (c:a<18446744073709551616):vun .xor (.int .u64 a) w K=K (.int .u64 (18446744073709551615-a:Nat)) w:=by
 refine y9 ?_;have e:(BitVec.ofInt 64 (18446744073709551615:Int)^^^BitVec.ofInt 64 (a:Int)).toNat=18446744073709551615-a:=by
  have b:BitVec.ofInt 64 (18446744073709551615:Int)=BitVec.allOnes 64:=dC;rw[b,Q2,BitVec.allOnes_xor,BitVec.toNat_not,BitVec.toNat_ofNat,Gz c]
 show(pure (Value.int .u64 (IntKind.u64.wrap ((BitVec.ofInt 64 (18446744073709551615:Int)^^^BitVec.ofInt 64 (a:Int)).toNat:Int))):Sem Value).run P w=_;rw[e,wrapU oM];rfl
theorem vbin_shlU {c:Bool} {t:TypeId} {yk:IntKind} {x y:Nat} (a:y<64) (h:x*2^y<18446744073709551616):qu .shl t c (.int .u64 x) (.int yk y) w K=K (.int .u64 (x*2^y:Nat)) w:=by
 rw[xq0 oM];have e:((x:Int)*2^min (y:Int).toNat IntKind.u64.bits)=((x*2^y:Nat):Int):=by
  have:min (y:Int).toNat IntKind.u64.bits=y:=by show min y 64=y;omega
  rw[this];simp
 rw[e,wrapU h]
theorem vbin_shlI {c:Bool} {t:TypeId} {yk:IntKind} {x y:Nat} (a:y<64) (h:x*2^y<9223372036854775808):qu .shl t c (nI x) (.int yk y) w K=K (nI (x*2^y:Nat)) w:=by
 rw[xq0 oM];have e:((x:Int)*2^min (y:Int).toNat IntKind.i64.bits)=((x*2^y:Nat):Int):=by
  have:min (y:Int).toNat IntKind.i64.bits=y:=by show min y 64=y;omega
  rw[this];simp
 rw[e,wrapN h]
theorem vbin_shrU {c:Bool} {t:TypeId} {yk:IntKind} {x y:Nat} (a:y<64):qu .shr t c (.int .u64 x) (.int yk y) w K=K (.int .u64 (x/2^y:Nat)) w:=by
 rw[xp0 oM];have:min (y:Int).toNat IntKind.u64.bits=y:=by show min y 64=y;omega
 rw[this];simp
theorem zj {t:TypeId} {cs:List Value} (h:∀b w',b=w.heap.size->Ext w w'->w'.heap.size=w.heap.size+1->Blk w' b cs t->K (oP b 0) w'):yO0 t (.agg ⟨cs⟩) w K:=yj h
theorem zi {t:TypeId} {cs:List Value} (a:yl t (.agg ⟨cs⟩)) (h:∀b w',b=w.heap.size->Ext w w'->w'.heap.size=w.heap.size+1->Blk w' b cs t->K (oP b 0) w'):xS t w K:=xz a h
theorem zU {t:TypeId} {pl:List (Nat×Nat)} {ps:List (Nat×Value)} {us:List (List Value)} {zs cs:List Value} (h:strF t=some (pl,zs)) (c:ps.map (λp=>p.2.cells)=us.map List.toArray)
  (a:fillC pl zs (ps.map (·.1)) us=some cs):yA t ps w K=K (.agg ⟨cs⟩) w:=by
 refine y9 (run_build (P:=P) w t ⟨ps⟩ ⟨cs⟩ ?_);unfold strF at h;split at h
 .rename_i fs i hu hi;split at h
  .rename_i e z b d;simp only[Gr,Gw] at h;obtain⟨rfl,rfl⟩:=h;simp only[Program.built,hu,hi,d,b];exact fill_eq c a
  .cases h
 .cases h
theorem Qn (s:ByteArray):IsKey .string (.string s):=by simp[IsKey]
theorem inc64' {i:Nat} (h:i<9223372036854775807):IntKind.i64.wrap ((i:Int)+1)=((i+1:Nat):Int):=by rw[zk oM oM];omega
end
end
end Go.Vc
end
