import Derived.Test.YtokflbdfnbppjaaGreatDoorWvaP13
import Derived.WalkKit
import Derived.ProofKit
import Derived.OpenShut
import Derived.ShutString
import Derived.ChangeOld
import Derived.JoinedOf
import Derived.OpenVars
import Derived.MakeChecks
import Derived.Stop.LaidErr
import Derived.Stop.LaidTwo
/- A part of the proof. -/
set_option linter.all false
namespace Go.Proofs.YtokflbdfnbppjaaGreatDoor
open Go Go.Vc Go.Proofs
section
variable {w w':World} {K:Value->World->Prop} {F F' G H S:Nat->Prop} {n b:Nat} {v va vb f:Value} {t:M.Tm} {ts us:List M.Tm} {d:M.Dcl} {ds es:List M.Dcl} {c e:List M.Lay}
def strT (P:Program) (t:TypeId):Bool:=match P.underlying t with
 |some .string=>true
 |_=>false
def intT (P:Program) (t:TypeId):Bool:=match P.underlying t with
 |some (.int .i64)=>true
 |_=>false
def eqD2 (P:Program) (t:TypeId):Bool:=(match(P.fieldsOf t).toList with
 |[f,g]=>decide (f.name≠ "_")&&decide (g.name≠ "_")&&Nat.beq f.offset 0&&Nat.beq g.offset 1&&strT P f.type&&intT P g.type
 |_=>false)&&(match P.underlying t with
 |some (.struct _)=>true
 |_=>false)&& !P.stoodInHeld t&& !P.eqGuardType P.depth t
theorem Qo {P:Program} {t:TypeId} (h:oneB P t=true) {cs:Array Value} {off:Nat} {v:Value} (a:cs[off]?=some v):(part t cs off).run P w= .ok v w:=by
 simp only[part,Sem.run_bind,zt0 h,Result.andThen_ok,gU,if_false,a,Sem.run_pure]
theorem Wi0 {P:Program} {t:TypeId} (h:strT P t=true):P.underlying t=some .string:=by
 unfold strT at h;split at h
 ·assumption
 ·cases h
theorem Wz0 {P:Program} {t:TypeId} (h:intT P t=true):P.underlying t=some (.int .i64):=by
 unfold intT at h;split at h
 ·assumption
 ·cases h
theorem Qa0 {P:Program} {t:TypeId} (h:eqD2 P t=true) (cc:Bool) (s1 s2:ByteArray) (a b:Int):zq P .neq t cc (.agg ⟨[.string s1,.int .i64 a]⟩) (.agg ⟨[.string s2,.int .i64 b]⟩) w K=K (.bool (decide ((s1,a)≠(s2,b)))) w:=by
 unfold eqD2 at h;simp only[V0,gY] at h;obtain⟨⟨⟨c,k⟩,r⟩,s⟩:=h;have hu:P.underlying t=some (.struct (P.fieldsOf t)):=by
  unfold Program.fieldsOf;split at k
  ·rename_i fs e;rw[e]
  ·cases k
 split at c
 ·rename_i f g d;simp only[V0,decide_eq_true_eq] at c;obtain⟨⟨⟨⟨⟨p,a2⟩,a3⟩,a4⟩,a5⟩,q⟩:=c;have u:=gp a3;have x:=gp a4;have n:=Wi0 a5;have o:=Wz0 q;have l:oneB P f.type=true:=by unfold oneB;rw[n]
  have m:oneB P g.type=true:=by unfold oneB;rw[o]
  refine xb (run_eqGuard_agg w .neq t _ _ _ _ s) ?_;rw[run_neq_struct,run_equalIn_agg w 9999 t _ _ hu r,d];simp only[Op.eqFields,p,a2,ne_eq,not_false_eq_true,if_true,Sem.run_bind,u,x];rw[Qo l (v:= .string s1) rfl];simp only[Result.andThen_ok];rw[Qo l (v:= .string s2) rfl];simp only[Result.andThen_ok];rw[run_equalIn_string w 9998 f.type s1 s2 n];simp only[Result.andThen_ok];rw[jw0];by_cases i:s1=s2
  ·subst i;simp only[decide_true,Pd,gU,if_false,Sem.run_bind];rw[Qo m (v:= .int .i64 a) rfl];simp only[Result.andThen_ok];rw[Qo m (v:= .int .i64 b) rfl];simp only[Result.andThen_ok];rw[run_equalIn_int w 9998 g.type .i64 .i64 a b o];simp only[Result.andThen_ok];by_cases j:a=b
   ·subst j;simp
   ·simp[j]
  ·simp[i]
 ·cases c
theorem WE0:eqD2 P zA=true:=by kernel_rfl
theorem EqualDecl_spec (k:DclsR F w va ds) (o:DclsR G w vb es) (n:∀w',Ext w w'->K (.bool (decide (ds=es))) w'):vcall P xE #[va,vb] w K:=by
 apply Zo;have no:∀w',Ext w w'->ds≠es->K (.bool false) w':=λw' h m=>by
  have:=n w' h;rwa[decide_eq_false m] at this
 have t:=k.small;simp(disch:=(simp only[push_cast])) only[push_cast,k.len,o.len];refine zh (λe=>no _ (Same.refl _ _) λh=>e (by rw[h])) (λel=>?_);have el:ds.length=es.length:=by omega
 refine vloop_up ds.length (λi x w'=>x=[.int .i64 i]/\Ext w w'/\∀j,j<i->ds.getD j (M.nada,0)=es.getD j (M.nada,0)) ⟨rfl,Same.refl _ _,λj p=>absurd p (by omega)⟩ ?_;rintro i _ _ u C v ⟨rfl,f,b⟩ s;simp only[push_cast];refine zh (λa=>?_) (λa=>?_)
 ·refine zr λy l _=>?_;have g:=f.trans l;have c:=k.ext g;have d:=o.ext g;simp(disch:=first|(simp only[push_cast])|omega) only[push_cast,c.iaddr,d.iaddr,gl,c.load,d.load,true_and,Qa0 WE0];refine zh (λh=>no _ g λm=>h (by rw[m])) (λh=>?_);rw[inc64' (by omega)];refine s (by omega) _ _ ⟨rfl,g,λj p=>?_⟩;by_cases e:j<i
  ·exact b j e
  ·have:j=i:=(by omega);subst this;exact GG.1 h
 ·have:ds=es:=Gh el λj q r=>by
   have:=b j (by omega);rwa[k6,K3 q,k6,K3 r] at this
  have:=n u f;rwa[decide_eq_true ‹ds=es›] at this
theorem EqualTerms_spec (m:TmsR F w va ts) (u:TmsR G w vb us) (H:∀w',Ext w w'->K (.bool (decide (ts=us))) w'):
  vcall P ye #[va,vb,.func (.func xw) #[] #[]] w K:=by
 apply yT;have no:∀w',Ext w w'->ts≠us->K (.bool false) w':=λw' h U=>by
  have:=H w' h;rwa[decide_eq_false U] at this
 have X:=m.small;simp(disch:=(simp only[push_cast])) only[push_cast,m.len,u.len];refine zh (λe=>no _ (Same.refl _ _) λh=>e (by rw[h])) (λel=>?_);have el:ts.length=us.length:=by omega
 refine vloop_up ts.length (λi x w'=>x=[.int .i64 i]/\Ext w w'/\∀j,j<i->ts.getD j default=us.getD j default) ⟨rfl,Same.refl _ _,λj I=>absurd I (by omega)⟩ ?_;rintro i _ _ D C hi ⟨rfl,c,f⟩ R;have o:=m.ext c;have z:=u.ext c;simp only[push_cast];refine zh (λa=>?_) (λa=>?_)
 ·simp(disch:=first|(simp only[push_cast])|omega) only[push_cast,o.iaddr];refine o.load zp (by omega) λx Y=>?_;obtain⟨cx,rfl,g⟩:=Y.cells;refine zD zH λb4 w4 S q V M=>?_;refine stTerm M rfl ((g.weaken (F':=λb=>b<D.heap.size) λb _ h=>h).ext q) λE A Z N=>?_;have l:Ext D E:=Ext.then q A λy v=>by subst v;omega
  have p:=z.ext l;simp(disch:=first|(simp only[push_cast])|omega) only[push_cast,p.iaddr];refine p.load zp (by omega) λy v=>?_;obtain⟨cy,rfl,k⟩:=v.cells;refine zD zH λb6 w6 T r W O=>?_;refine stTerm O rfl ((k.weaken (F':=λb=>b<E.heap.size) λb _ h=>h).ext r) λw7 B a0 Q=>?_;have d:Ext E w7:=Ext.then r B λy v=>by subst v;omega
  rw[(N.ext d).ldAgg (t:=za) (by rw[yq g];exact zp),Q.ldAgg (t:=za) (by rw[yq k];exact zp)];simp only[push_cast,gz,gX];have n:=c.trans (l.trans d);refine TermSame_spec _ (g.ext (l.trans d)).term (k.ext d).term λw8 s=>?_;simp only[push_cast];refine zK (λb=>?_) (λb=>?_)
  ·rw[gY,decide_eq_false_iff_not] at b;exact no _ (n.trans s) λh=>b (by rw[h])
  ·rw[Gz,decide_eq_true_eq] at b;rw[inc64' (by omega)];refine R (by omega) _ _ ⟨rfl,n.trans s,λj I=>?_⟩;by_cases e:j<i
   ·exact f j e
   ·have:j=i:=(by omega);subst this;exact b
 ·have:ts=us:=Gh el λj J L=>by
   have:=f j (by omega);rwa[k6,K3 J,k6,K3 L] at this
  have:=H D c;rwa[decide_eq_true ‹ts=us›] at this
theorem jH0 {d1 d2 t1 t2:Value} (m:DclsR F w d1 ds) (n:TmsR F w t1 ts) (o:DclsR G w d2 es) (p:TmsR G w t2 us) (k:∀w',Ext w w'->K (.bool (decide ((ds,ts)=(es,us)))) w'):
  vcall P X2 #[.agg ⟨[d1,t1]⟩,.agg ⟨[d2,t2]⟩] w K:=by
 apply q60;refine zx λb1 w1 q i s g=>?_;refine zx λb2 w2 r d t c=>?_;have l:=g.ext d;have f:=i.trans d;simp(disch:=(simp only[push_cast])) only[push_cast,l.ld0,c.ld0];refine EqualDecl_spec (m.ext f) (o.ext f) λx b=>?_;have e:=f.trans b;refine zh (λa=>?_) (λa=>?_)
 ·have u:=l.ext b;have v:=c.ext b;simp(disch:=(simp only[push_cast])) only[push_cast,u.ld1,v.ld1];refine EqualTerms_spec (n.ext e) (p.ext e) λy j=>?_;have:=k y (e.trans j);rwa[show decide ((ds,ts)=(es,us))=decide (ts=us) from decide_eq_decide.2 ⟨λh=>(Prod.ext_iff.1 h).2,λh=>by rw[a,h]⟩] at this
 ·have:=k x e;rwa[decide_eq_false (λh=>a (Prod.ext_iff.1 h).1)] at this
theorem CtxSame_spec (D:LaysR F w va c) (T:LaysR G w vb e) (S:∀w',Ext w w'->K (.bool (decide (c=e))) w'):vcall P qG #[va,vb] w K:=by
 apply ko0;apply xS;have no:∀w',Ext w w'->c≠e->K (.bool false) w':=λw' h L=>by
  have:=S w' h;rwa[decide_eq_false L] at this
 have a0:c.length<=9223372036854775807:=by
  obtain⟨css,s,u,_⟩:=D;have:=s.small;rw[X0,u] at this;exact this
 simp(disch:=(simp only[push_cast])) only[push_cast,D.len,T.len];refine zh (λh=>no _ (Same.refl _ _) λL=>h (by rw[L])) (λel=>?_);have el:c.length=e.length:=by omega
 refine vloop_up c.length (λi x w'=>x=[.int .i64 i]/\Ext w w'/\∀j,j<i->c.getD j ([],[])=e.getD j ([],[])) ⟨rfl,Same.refl _ _,λj U=>absurd U (by omega)⟩ ?_;rintro i _ _ V C hi ⟨rfl,b,d⟩ X;have g:=(D.weaken (F':=λx=>x<w.heap.size) λx _ h=>h).ext b;have E:=(T.weaken (F':=λx=>x<w.heap.size) λx _ h=>h).ext b;simp only[push_cast];refine zh (λa=>?_) (λa=>?_)
 ·have n:i<c.length:=(by omega);simp(disch:=first|(simp only[push_cast])|omega) only[push_cast,g.iaddr];refine g.load qH n λd1 t1 l o=>?_;refine zD jp λb4 w4 Y H a1 v=>?_;refine v.stAgg (cs':=[d1,t1]) rfl qH (two_one l.one o.one) λW M a2 z=>?_;have Q:Ext V W:=Ext.then H M λy O=>by subst O;omega
  have k:=E.ext Q;simp(disch:=first|(simp only[push_cast])|omega) only[push_cast,k.iaddr];refine k.load qH (by omega) λd2 t2 m p=>?_;refine zD jp λb6 w6 Z I a3 A=>?_;refine A.stAgg (cs':=[d2,t2]) rfl qH (two_one m.one p.one) λw7 N a4 B=>?_;have r:Ext W w7:=Ext.then I N λy O=>by subst O;omega
  have f:=Q.trans r;rw[(z.ext r).ldAgg (t:=zo) qH,B.ldAgg (t:=zo) qH];simp only[push_cast,gz,gX];refine jH0 (l.ext f) (o.ext f) (m.ext r) (p.ext r) λw8 J=>?_;have R:=(b.trans f).trans J;simp only[push_cast];refine zK (λq=>?_) (λq=>?_)
  ·rw[gY,decide_eq_false_iff_not] at q;exact no _ R λh=>q (by rw[h])
  ·rw[Gz,decide_eq_true_eq] at q;rw[inc64' (by omega)];refine X n _ _ ⟨rfl,R,λj U=>?_⟩;by_cases ej:j<i
   ·exact d j ej
   ·have:j=i:=(by omega);subst this;exact q
 ·have:c=e:=Gh el λj s u=>by
   have:=d j (by omega);rwa[k6,K3 s,k6,K3 u] at this
  have:=S V b;rwa[decide_eq_true ‹c=e›] at this
end
section
variable {w w' w1 w2:World} {K:Value->World->Prop} {F F' G H H2 S:Nat->Prop} {n b k:Nat} {v lv tv dv f:Value} {t:M.Tm} {ts us:List M.Tm} {d:M.Dcl} {ds:List M.Dcl} {c e:List M.Lay} {tag:Nat->Nat} {css:List (Value×Value)}
theorem LaysR.load0 (h:LaysR F w v c) {t:TypeId} (f:oneB P t=true) {i:Nat} (e:i<c.length) (d:∀dv,DclsR F w dv (c.getD i ([],[])).1->K dv w):zf P t (.pointer (some ((eaddr v 2 i).add 0))) w K:=by
 obtain⟨css,a,g,b⟩:=h;rw[Sl.ldField a f (x:=(css.getD i (undef,undef)).1) (by rw[X0];omega) (by rw[M.getD_map _ (by omega) _ (undef,undef)];rfl)];exact d _ (b i e).1
theorem LaysR.load1 (h:LaysR F w v c) {t:TypeId} (f:oneB P t=true) {i:Nat} (e:i<c.length) (d:∀tv,TmsR F w tv (c.getD i ([],[])).2->K tv w):zf P t (.pointer (some ((eaddr v 2 i).add 1))) w K:=by
 obtain⟨css,a,g,b⟩:=h;rw[Sl.ldField a f (x:=(css.getD i (undef,undef)).2) (by rw[X0];omega) (by rw[M.getD_map _ (by omega) _ (undef,undef)];rfl)];exact d _ (b i e).2
theorem LaysR.taken (h:LaysR F w v c) {n:Nat} (f:n<=c.length):LaysR F w (cutV v n) (c.take n):=by
 obtain⟨css,a,b,d⟩:=h;refine⟨css.take n,by rw[Gp];exact a.taken (by rw[X0];omega),by rw[gi,gi,b],λi e=>?_⟩;rw[gi] at e;rw[M.take_getD (by omega),M.take_getD (by omega)];exact d i (by omega)
theorem LaysR.cut (h:LaysR F w v c) (a:c≠[]) {t:TypeId} (d:elB P t 2=true) {kd:IntKind} {n:Nat} (j:n<=c.length):yQ P t v none (some (.int kd n)) none w' K=K (cutV v n) w':=by
 obtain⟨css,b,f,g⟩:=h;have i:0<c.length:=gG.2 a;exact Sl.cut b (Sl.base b λe=>by have:=congrArg List.length e;rw[X0,pw] at this;omega) d (by rw[X0];omega)
theorem l10Decls_spec (E:LaysR F w v c) (s:CtxB c) (A:∀w' v',Ext w w'->DclsR (λx=>w.heap.size<=x) w' v' (M.decL c)->K v' w'):vcall P qN #[v] w K:=by
 apply ja0;have hlen:=s.len;refine qB Zt Yk λb w1 B l G n=>?_;have L:=l.size;have t:OwnD w1 (.slice (some ⟨b,0,none⟩) 0 0) []:=Blk.ownk (css:=[]) (by rw[Km];exact n) (λx g=>by cases g) rfl (by omega);refine vloop_up c.length (λi u w'=> ∃lv,u=[lv,.int .i64 i]/\Ext w w'/\OwnD w' lv (M.decL (c.take i))/\∀x,lv.ownBlock=some x->w.heap.size<=x) ⟨_,rfl,l,t,λx g=>by have e:b=x:=gh g;omega⟩ ?_;rintro i _ _ w2 C I ⟨lv,rfl,d,m,j⟩ z;have k:=(E.weaken (F':=λx=>x<w.heap.size) λx _ h=>h).ext d;simp(disch:=(simp only[push_cast])) only[push_cast,k.len];refine zh (λa=>?_) (λa=>?_)
 ·have f:i<c.length:=(by omega);have H:=(ctxB_take s (i+1)).dec;rw[M.decL_take f,Q1] at H;simp(disch:=first|(simp only[push_cast])|omega) only[push_cast,k.iaddr,gl];refine k.load0 xy0 f λdv D=>?_;refine OwnD.app m D (by omega) λJ r q p y=>?_;rw[inc64' (by omega)];refine z f _ _ ⟨r,rfl,Ext.then d q λx g=>j x g,by rw[M.decL_take f];exact y,λx g=>?_⟩;have z2:=d.size;rcases p x g with h|h
  ·exact j x h
  ·omega
 ·have o:i=c.length:=(by omega);subst o;rw[gC] at m;exact A _ _ d (m.dcls.weaken λx g _=>j x g)
theorem l10Terms_spec (L:LaysR F w v c) (A:CtxB c) (I:∀w' v',Ext w w'->TmsR (λ_=>True) w' v' (M.terL c)->K v' w'):vcall P ZC #[v] w K:=by
 apply j90;have hlen:=A.len;refine qB xd xn λb w1 J l N n=>?_;have R:=l.size;have E:LstH (λx=>x<w.heap.size) w1 (.slice (some ⟨b,0,none⟩) 0 0) []:=⟨[],Blk.ownk (css:=[]) (by rw[Kl];exact n) (λx d=>by cases d) rfl (by omega),rfl,λi B=>absurd B (pz _)⟩;refine vloop_up c.length (λi u w'=> ∃lv,u=[lv,.int .i64 i]/\Ext w w'/\LstH (λx=>x<w.heap.size) w' lv (M.terL (c.take i))/\∀x,lv.ownBlock=some x->w.heap.size<=x) ⟨_,rfl,l,E,λx d=>by have e:b=x:=gh d;omega⟩ ?_;rintro i _ _ w2 C B ⟨lv,rfl,f,m,j⟩ H;have k:=(L.weaken (F':=λx=>x<w.heap.size) λx _ h=>h).ext f;simp(disch:=(simp only[push_cast])) only[push_cast,k.len];refine zh (λa=>?_) (λa=>?_)
 ·have g:i<c.length:=(by omega);have O:=(ctxB_take A (i+1)).ter;rw[M.terL_take g,Q1] at O;simp(disch:=first|(simp only[push_cast])|omega) only[push_cast,k.iaddr,gl];refine k.load1 yI g λtv y=>?_;obtain⟨D,s,q,o⟩:=y;have z2:=f.size;refine LstH.app m (λx d=>⟨λe=>by have:=j x d;omega,λe=>by have:=j x d;omega⟩) s q o (by omega) λQ z t r G=>?_;rw[inc64' (by omega)];refine H g _ _ ⟨z,rfl,Ext.then f t λx d=>j x d,by rw[M.terL_take g];exact G.weaken λx d _=>d.1.elim id id,λx d=>?_⟩;rcases r x d with h|h
  ·exact j x h
  ·omega
 ·have p:i=c.length:=(by omega);subst p;rw[gC] at m;exact I _ _ f (m.tms.weaken λx _ _=>trivial)
theorem sized_take {i:Nat} (h:qg0 (M.decL c)):qg0 (M.decL (c.take i)):=λj a=>by
 have:=h j (by rw[M.decL_split c i,Q1];omega);rw[M.decL_split c i] at this;rwa[M.app_getD a] at this
theorem spec_CtxOk_spec (D:LaysR F w v c) (B:CtxB c) (A:qg0 (M.decL c)) (U:∀w',Ext w w'->K (.bool (M.ctxOk c)) w'):vcall P jX #[v] w K:=by
 apply YR0;have hlen:=B.len;have no:∀w',Ext w w'->M.ctxOk c≠true->K (.bool false) w':=λw' he hn=>by
  have:=U w' he;rwa[Pt _|>.mp hn] at this
 refine zS (λu w'=>u=[]/\Ext w w'/\1<=c.length/\c.length<=6/\M.declOk (M.decL c)=true/\(M.terL c).length<=8) (λJ Z=>?_) ?_
 ·simp(disch:=(simp only[push_cast])) only[push_cast,D.len];refine zh (λE=>no _ (Same.refl _ _) λe=>by have:=(M.ctx_iff.1 e).1;omega) (λE=>?_);refine zh (λa2=>no _ (Same.refl _ _) λe=>by have:=(M.ctx_iff.1 e).2.1;omega) (λa2=>?_);refine l10Decls_spec D B λw1 v1 n N=>?_;refine spec_DeclOk_spec N A λw2 b=>?_;have H:=n.trans b
  try simp only[push_cast]
  refine zK (λa3=>no _ H λe=>by rw[(M.ctx_iff.1 e).2.2.1] at a3;cases a3) (λa3=>?_);refine l10Terms_spec (D.ext H) B λX v3 o S=>?_;simp(disch:=(simp only[push_cast])) only[push_cast,S.len];have T:=H.trans o;refine zh (λa4=>no _ T λe=>by have:=(M.ctx_iff.1 e).2.2.2.1;omega) (λa4=>?_);exact Z _ _ ⟨rfl,T,by omega,by omega,by simpa using a3,by omega⟩
 rintro _ _ w1 ⟨rfl,n,E,a2,a3,a4⟩;refine vloop_up c.length (λi u w'=>u=[.int .i64 i]/\Ext w w'/\∀j,j<i->∀t,t∈(c.getD j ([],[])).2->M.tsort (M.decL (c.take (j+1))) t=0) ⟨rfl,n,λj V=>absurd V (by omega)⟩ ?_;rintro i _ _ w2 C hi ⟨rfl,b,l⟩ Y;have h:=D.ext b;simp(disch:=(simp only[push_cast])) only[push_cast,h.len];refine zh (λa=>?_) (λa=>?_)
 ·have f:i<c.length:=(by omega);rw[inc64' (by omega),LaysR.cut h (gG.1 (by omega)) yH (by omega:i+1<=c.length)];refine l10Decls_spec (h.taken (by omega:i+1<=c.length)) (ctxB_take B _) λX dv o O=>?_;refine vloop_up (c.getD i ([],[])).2.length (λj u w'=>u=[.int .i64 j]/\Ext X w'/\∀k,k<j->M.tsort (M.decL (c.take (i+1))) ((c.getD i ([],[])).2.getD k default)=0) ⟨rfl,Same.refl _ _,λk R=>absurd R (by omega)⟩ ?_;rintro j _ _ w6 C1 V ⟨rfl,p,d⟩ L;have m:=o.trans p;have r:=h.ext m;simp(disch:=first|(simp only[push_cast])|omega) only[push_cast,r.iaddr,gl];refine r.load1 yI f λpv y=>?_;have a0:=y.small;simp(disch:=(simp only[push_cast])) only[push_cast,y.len];refine zh (λa5=>?_) (λa5=>?_)
  ·have g:j<(c.getD i ([],[])).2.length:=(by omega);refine r.load1 yI f λqv z=>?_;simp(disch:=first|(simp only[push_cast])|omega) only[push_cast,z.iaddr,gl];refine z.load zp g λx hx=>?_;refine spec_TermSort_spec (sized_take A) (O.ext p) hx λw7 s=>?_
   try simp only[push_cast]
   have I:=m.trans s;refine zh (λG=>no _ (b.trans I) λe=>G ((M.ctx_iff.1 e).2.2.2.2 i f _ (M.getD_mem g _))) (λG=>?_);rw[inc64' (by omega)];refine L g _ _ ⟨rfl,p.trans s,λk R=>?_⟩;by_cases e:k<j
   ·exact d k e
   ·have:k=j:=(by omega);subst this;exact GG.1 G
  ·have g:j=(c.getD i ([],[])).2.length:=(by omega);refine Y f _ _ ⟨rfl,b.trans m,λk R t W=>?_⟩;by_cases e:k<i
   ·exact l k e t W
   ·have:k=i:=(by omega);subst this;obtain⟨q,hq,rfl⟩:=gq W;have:=d q (by omega);rwa[k6,K3 hq] at this
 ·have Q:i=c.length:=(by omega);subst Q;have:=U _ b;rwa[M.ctx_iff.2 ⟨E,a2,a3,a4,l⟩] at this
structure LayO (n:Nat) (tag:Nat->Nat) (w:World) (lv:Value) (c:List M.Lay) (css:List (Value×Value)):Prop where
 row:Own P 0 2 zk w lv (css.map λp=>[p.1,p.2])
 len:css.length=c.length
 own:∀x,lv.ownBlock=some x->n<=x/\tag x=0
 dec:∀i,i<c.length->OwnD w (css.getD i (undef,undef)).1 (c.getD i ([],[])).1
 decn:∀i x,i<c.length->(css.getD i (undef,undef)).1.ownBlock=some x->n<=x/\tag x=3*i+1
 ter:∀i,i<c.length->LstH (λx=>n<=x/\tag x=3*i+2) w (css.getD i (undef,undef)).2 (c.getD i ([],[])).2
 tern:∀i x,i<c.length->(css.getD i (undef,undef)).2.ownBlock=some x->n<=x/\tag x=3*i+3
theorem LayO.nil (h:Blk w b [] zo) (d:n<=b):LayO n (λ_=>0) w (.slice (some ⟨b,0,none⟩) 0 0) [] []:=
 ⟨Blk.ownk (css:=[]) (by rw[k00];exact h) (λx c=>by cases c) rfl (by omega),rfl,λx c=>by have e:b=x:=gh c;omega,λi a=>absurd a (pz _),λi x a=>absurd a (pz _),λi a=>absurd a (pz _),λi x a=>absurd a (pz _)⟩
theorem LayO.ext (h:LayO n tag w lv c css) (hw:Ext w w'):LayO n tag w' lv c css:=⟨h.row.ext hw,h.len,h.own,λi a=>(h.dec i a).ext hw,h.decn,λi a=>(h.ter i a).ext hw,h.tern⟩
theorem LayO.lays (h:LayO n tag w lv c css):LaysR (λx=>n<=x) w lv c:=
 ⟨css,h.row.sl.weaken λx a _=>(h.own x a).1,h.len,λi b=>⟨(h.dec i b).dcls.weaken λx a _=>(h.decn i x b a).1,(h.ter i b).tms.weaken λx a _=>a.elim (λh=>h.1) λe=>(h.tern i x b e).1⟩⟩
open Classical in
theorem LayO.push {ty:Nat} {f:World} (h:LayO n tag f lv c css) (N:n<=f.heap.size) (he:Ext f w) (z:OwnD w dv ds) (r:∀x,dv.ownBlock=some x->f.heap.size<=x) (C:LstH H w tv ts)
  (hH:∀x,H x->f.heap.size<=x/\dv.ownBlock≠some x/\tv.ownBlock≠some x) (t:∀x,tv.ownBlock=some x->f.heap.size<=x/\dv.ownBlock≠some x) (E:c.length<=1000)
  (D:∀w' o u,Same (λx=>n<=x) w w'->LayO n u w' o (c++[(ds,ts)]) (css++[(dv,tv)])->K o w'):
  vbuildS P zk 1 [(0,.agg ⟨[dv,tv]⟩)] w λs w1=>vbi P .append [zk,zk] ty [lv,s] w1 K:=by
 refine xQ qE qW jp rfl rfl (by decide) λb w1 L g G y=>?_;have z0:=he.size;have Q:=g.size;have p:=he.trans g;have m:=h.len;refine Own.app1k (h.row.ext p) zy0 (by decide) y rfl (two_one z.dcls.one C.tms.one) (by rw[X0];omega) (by rw[X0];omega) λo w2 B k A=>?_;have llt:∀x,lv.ownBlock=some x->x<f.heap.size:=λx a=>(h.row.lt a).2;refine D w2 o (λx=>if x<f.heap.size then tag x else if dv.ownBlock=some x then 3*c.length+1 else if tv.ownBlock=some x then 3*c.length+3 else if x<w1.heap.size then 3*c.length+2 else 0) ((Same.of_ext g).trans (k.mono λx _ a=>(h.own x a).1)) ⟨by rw[gx];exact B,by simp[m],λx a=>?_,λi j=>?_,λi x j a=>?_,λi j=>?_,λi x j a=>?_⟩
 ·rcases A x a with e|e
  ·refine⟨(h.own x e).1,?_⟩;simp only[if_pos (llt x e)];exact(h.own x e).2
  ·have I:dv.ownBlock≠some x:=λv=>by have:=(z.lt v).2;omega
   have J:tv.ownBlock≠some x:=λv=>by have:=C.lt v;omega
   refine⟨by omega,?_⟩;simp only[if_neg (show¬x<f.heap.size by omega),if_neg I,if_neg J,if_neg (show¬x<w1.heap.size by omega)]
 ·rw[Q1] at j;by_cases d:i<c.length
  ·rw[M.app_getD (by omega),M.app_getD d];exact((h.dec i d).ext p).same k λx a e=>by have:=(h.decn i x d a).2;have:=(h.own x e).2;omega
  ·have e:i=c.length:=by simp at j;omega
   rw[XX (by omega),XX (by omega),m,e,GB];exact(z.ext g).same k λx a e=>by have:=r x a;have:=llt x e;omega
 ·rw[Q1] at j;by_cases d:i<c.length
  ·rw[M.app_getD (by omega)] at a;have q:=h.decn i x d a;have l:=((h.dec i d).lt a).2;refine⟨q.1,?_⟩;simp only[if_pos l];exact q.2
  ·have e:i=c.length:=by simp at j;omega
   rw[XX (by omega),m,e,GB] at a;replace a:dv.ownBlock=some x:=a;have q:=r x a;refine⟨by omega,?_⟩;simp only[if_neg (show¬x<f.heap.size by omega),if_pos a,e]
 ·rw[Q1] at j;by_cases d:i<c.length
  ·rw[M.app_getD (by omega),M.app_getD d];have q:=(h.ter i d).weaken (F:=λx=>(n<=x/\tag x=3*i+2)/\x<f.heap.size) λx a m=>⟨a,m⟩;refine((q.ext p).same k (λx a e=>by have:=(h.tern i x d a).2;have:=(h.own x e).2;omega) λx a _ e=>by have:=a.1.2;have:=(h.own x e).2;omega).weaken λx a _=>⟨a.1.1,?_⟩;simp only[if_pos a.2];exact a.1.2
  ·have e:i=c.length:=by simp at j;omega
   rw[XX (by omega),XX (by omega),m,e,GB];have q:=C.weaken (F:=λx=>H x/\x<w.heap.size) λx a m=>⟨a,m⟩;refine((q.ext g).same k (λx a e=>by have:=(t x a).1;have:=llt x e;omega) λx a _ e=>by have:=(hH x a.1).1;have:=llt x e;omega).weaken λx a _=>?_;have q:=hH x a.1;have O:=a.2;refine⟨by omega,?_⟩;simp only[if_neg (show¬x<f.heap.size by omega),if_neg q.2.1,if_neg q.2.2,if_pos (show x<w1.heap.size by omega)]
 ·rw[Q1] at j;by_cases d:i<c.length
  ·rw[M.app_getD (by omega)] at a;have q:=h.tern i x d a;have l:=(h.ter i d).lt a;refine⟨q.1,?_⟩;simp only[if_pos l];exact q.2
  ·have e:i=c.length:=by simp at j;omega
   rw[XX (by omega),m,e,GB] at a;replace a:tv.ownBlock=some x:=a;have q:=t x a;refine⟨by omega,?_⟩;simp only[if_neg (show¬x<f.heap.size by omega),if_neg q.2,if_pos a,e]
theorem Kj0 {b:Option Addr} {a c1:Nat}:zE P zo [(0,.slice b a c1)] w K=K (.agg ⟨[.slice b a c1,.slice none 0 0]⟩) w:=yo VM (us:=[[.slice b a c1]]) rfl rfl
theorem VT0 (b:DclsR F w' dv ds):zE P zo [(0,dv)] w K=K (.agg ⟨[dv,.slice none 0 0]⟩) w:=by
 obtain⟨a,c,rfl,_⟩:=b.shape;exact Kj0
@[push_cast] theorem UF0:zE P zo [] w K=K (.agg ⟨[.slice none 0 0,.slice none 0 0]⟩) w:=yo VM (us:=[]) rfl rfl
theorem l10Copy_spec (hv:LaysR F w v c) (hb:CtxB c) (hf:∀i,i<c.length->∀t,t∈(c.getD i ([],[])).2->JT0 t=true)
  (hK:∀w' lv tag css,Ext w w'->LayO w.heap.size tag w' lv c css->K lv w'):vcall P xu #[v] w K:=by
 apply k70;have hlen:=hb.len;refine qB qE qW λb w1 ar U ax a9=>?_;have z1:=U.size;refine vloop_up c.length (λi u w'=> ∃lv tag css,u=[lv,.int .i64 i]/\Ext w w'/\LayO w.heap.size tag w' lv (c.take i) css) ⟨_,_,_,rfl,U,LayO.nil a9 (by omega)⟩ ?_;rintro i _ _ w2 C hi ⟨lv,tag,css,rfl,z,h2⟩ hC;have z2:=z.size;have a0:=(hv.weaken (F':=λx=>x<w.heap.size) λx _ h=>h).ext z;simp(disch:=(simp only[push_cast])) only[push_cast,a0.len];refine zh (λa=>?_) (λa=>?_)
 ·have k:i<c.length:=(by omega);have l1:=(ctxB_take hb (i+1)).dec;have l2:=(ctxB_take hb (i+1)).ter;rw[M.decL_take k,Q1] at l1;rw[M.terL_take k,Q1] at l2;refine qB Zt Yk λb3 w3 au I ay aa=>?_;have z3:=I.size;have a1:=a0.ext I;have h3:OwnD w3 (.slice (some ⟨b3,0,none⟩) 0 0) []:=Blk.ownk (css:=[]) (by rw[Km];exact aa) (λx d=>by cases d) rfl (by omega);simp(disch:=first|(simp only[push_cast])|omega) only[push_cast,a1.iaddr,gl];refine a1.load0 xy0 k λdq ae=>?_;refine OwnD.app h3 ae (by rw[pw];omega) λw4 dv Z ag Q=>?_;rw[gX] at Q;have e4:Ext w2 w4:=Ext.then I Z λx d=>by have e:b3=x:=gh d;omega
  have z4:=Z.size;have n4:∀x,dv.ownBlock=some x->w2.heap.size<=x:=λx d=>by
   rcases ag x d with e|e
   ·have e:b3=x:=gh e;omega
   ·omega
  rw[VT0 Q.dcls];refine zD jp λL w5 av V az ab=>?_;refine ab.stAgg (cs':=[dv,.slice none 0 0]) rfl qH (two_one Q.dcls.one rfl) λw6 aj b0 ac=>?_;have z5:=V.size;have e6:Ext w4 w6:=Ext.then V aj λy hy=>by subst hy;omega
  have d6:=Q.ext e6;have ldv:∀x,dv.ownBlock=some x->x<w4.heap.size:=λx d=>(Q.lt d).2;refine vloop_up (c.getD i ([],[])).2.length (λj u w'=> ∃tv H,u=[.int .i64 j]/\Same (λx=>w2.heap.size<=x) w2 w'/\w6.heap.size<=w'.heap.size/\Blk w' L [dv,tv] zo/\OwnD w' dv (c.getD i ([],[])).1/\LstH H w' tv ((c.getD i ([],[])).2.take j)/\
    (∀x,H x->w2.heap.size<=x/\dv.ownBlock≠some x/\x≠L)/\∀x,tv.ownBlock=some x->w2.heap.size<=x/\dv.ownBlock≠some x/\x≠L/\¬H x)
   ⟨_,λ_=>False,rfl,(Same.of_ext (e4.trans e6)),gr _,ac,d6,LstH.nil,λx d=>d.elim,λx d=>(by cases d)⟩ ?_
  rintro j _ _ w7 C1 hj ⟨tv,H,rfl,q,b1,D,d7,t7,E,f⟩ ad;have e7:Ext w w7:=Ext.then z q λx d=>(by omega);have J:=(hv.weaken (F':=λx=>x<w.heap.size) λx _ h=>h).ext e7;simp(disch:=first|(simp only[push_cast])|omega) only[push_cast,J.iaddr,gl];refine J.load1 yI k λpv X=>?_;have aw:=X.small;simp(disch:=(simp only[push_cast])) only[push_cast,X.len];refine zh (λa5=>?_) (λa5=>?_)
  ·have n:j<(c.getD i ([],[])).2.length:=(by omega);refine zr λw8 p _=>?_;have S:=D.ext p;have a2:=J.ext p;have t8:=t7.ext p;simp(disch:=first|(simp only[push_cast])|omega) only[push_cast,S.ld1,true_and,a2.iaddr,gl];refine a2.load1 yI k λqv Y=>?_;simp(disch:=first|(simp only[push_cast])|omega) only[push_cast,true_and,Y.iaddr,gl];refine Y.load zp n λx d=>?_;refine⟨rfl,?_⟩;refine l3Copy_spec _ d (hf i k _ (M.getD_mem n _)) λw9 N A ah=>?_;have T:=S.ext A;simp(disch:=first|(simp only[push_cast])|omega) only[push_cast,T.ld1,true_and,and_self];have z8:=p.size;have z9:=A.size;have ltv:∀x,tv.ownBlock=some x->x<w7.heap.size:=λx d=>t7.lt d;have b2:=D.lt;have l7:∀x,dv.ownBlock=some x->x<w7.heap.size:=λx d=>(d7.lt d).2;obtain⟨N,rfl⟩:∃l:List Value,N=l:=⟨_,rfl⟩;have G:=Z30 _ ah;refine xQ xd xn zH rfl (yq G) (by decide) λaq a7 an g ao R=>?_;have a4:=T.ext g;have b6:=g.size;simp(disch:=first|(simp only[push_cast])|omega) only[push_cast,a4.ld1,true_and,and_self];refine LstH.app (H2:=λx=>w8.heap.size<=x/\x<w9.heap.size) (us:=[(c.getD i ([],[])).2.getD j default]) ((t8.ext A).ext g) (λx d=>⟨(f x d).2.2.2,λe=>by have:=ltv x d;omega⟩) (R.sl1k (yq G)) rfl (λi hi=>?_) (by simp;omega) λb4 s m W t11=>?_
   ·have:i=0:=(by simpa using hi);subst this;exact(G.weaken λx d _=>d).ext g
   rw[V9 n] at t11;have al:=a4.same m λe=>(f _ e).2.2.1 rfl
   try simp only[push_cast,true_and]
   refine al.st (i:=1) t11.tms.cellsV t11.tms.one qd rfl λam r ap o=>?_;replace o:Blk am L [dv,s] zo:=o;rw[inc64' (by omega)];have O:=(p.trans A).trans g;have d12:=((d7.ext O).same m λx d e=>(f x e).2.1 d).same r λx d e=>by have:=ldv x d;omega
   have b7:=m.size;have a3:∀x,s.ownBlock=some x->w2.heap.size<=x/\dv.ownBlock≠some x/\x≠L/\¬((H x\/w8.heap.size<=x/\x<w9.heap.size)/\x<a7.heap.size):=λx d=>by
    rcases W x d with e|e
    ·refine⟨(f x e).1,(f x e).2.1,(f x e).2.2.1,λh=>?_⟩;have:=ltv x e;rcases h.1 with h|h
     ·exact(f x e).2.2.2 h
     ·omega
    ·exact⟨by have:=q.size;omega,λe'=>by have:=l7 x e';omega,by omega,λh=>by have:=h.2;omega⟩
   have B:∀x,((H x\/w8.heap.size<=x/\x<w9.heap.size)/\x<a7.heap.size)->w2.heap.size<=x/\dv.ownBlock≠some x/\x≠L:=λx d=>by
    rcases d.1 with h|h
    ·exact E x h
    ·exact⟨by have:=q.size;omega,λe'=>by have:=l7 x e';omega,by omega⟩
   exact ad n _ _ ⟨s,_,rfl,((q.trans (Same.of_ext O)).trans (m.mono λx _ d=>(f x d).1)).trans (r.mono λx _ d=>by omega),by omega,o,d12,t11.same r (λx d e=>(a3 x d).2.2.1 e) (λx d _ e=>(B x d).2.2 e),B,a3⟩
  ·have n:j=(c.getD i ([],[])).2.length:=(by omega);subst n;rw[gC] at t7;rw[D.ldAgg (t:=zo) qH];have a8:Ext w2 w7:=Ext.then (Same.refl _ w2) q λx d=>d;refine LayO.push h2 (by omega) a8 d7 n4 t7 (λx d=>⟨(E x d).1,(E x d).2.1,λe=>(f x e).2.2.2 d⟩) (λx d=>⟨(f x d).1,(f x d).2.1⟩) (by rw[gi];omega) λw8 ak a6 ai h8=>?_;rw[inc64' (by omega)];rw[show(c.take i++[((c.getD i ([],[])).1,(c.getD i ([],[])).2)])=c.take (i+1) from(M.lay_take k).symm] at h8;exact hC k _ _ ⟨ak,a6,_,rfl,Ext.then e7 ai λx d=>d,h8⟩
 ·have af:i=c.length:=(by omega);subst af;rw[gC] at h2;exact hK _ _ _ _ z h2
end
section
variable {w w' w1 w2:World} {K:Value->World->Prop} {F F' G H H2 S:Nat->Prop} {n b k:Nat} {v lv tv dv f:Value} {t:M.Tm} {ts us:List M.Tm} {d:M.Dcl} {ds:List M.Dcl} {c e:List M.Lay} {tag:Nat->Nat} {css:List (Value×Value)}
theorem LayO.ia (h:LayO n tag w lv c css) {t:TypeId} (a:elB P t 2=true) (b:k<c.length) {kd:IntKind}:zj P t lv (.int kd k) w' K=K (.pointer (some (eaddr lv 2 k))) w':=by
 have:=h.lays.iaddr (K:=K) (w':=w') (kd:=kd) a (i:=(k:Int)) (by omega) (by omega);rwa[gl] at this
theorem LayO.ldD (h:LayO n tag w lv c css) {t:TypeId} (b:oneB P t=true) (a:k<c.length):zf P t (.pointer (some ((eaddr lv 2 k).add 0))) w K=K (css.getD k (undef,undef)).1 w:=
 Sl.ldField h.row.sl b (by rw[X0,h.len];exact a) (by rw[M.getD_map _ (by rw[h.len];exact a) _ (undef,undef)];rfl)
theorem LayO.ldT (h:LayO n tag w lv c css) {t:TypeId} (b:oneB P t=true) (a:k<c.length):zf P t (.pointer (some ((eaddr lv 2 k).add 1))) w K=K (css.getD k (undef,undef)).2 w:=
 Sl.ldField h.row.sl b (by rw[X0,h.len];exact a) (by rw[M.getD_map _ (by rw[h.len];exact a) _ (undef,undef)];rfl)
theorem kN {α:Type} {l:List α} {x e:α} {i:Nat} (h:k<l.length):(l.set k x).getD i e=if k=i then x else l.getD i e:=by
 rw[k6,PV];by_cases e:k=i
 ·subst e;rw[if_pos rfl,if_pos rfl,if_pos h];rfl
 ·rw[if_neg e,if_neg e,<-k6]
open Classical in
theorem LayO.setD (h:LayO n tag w lv c css) (f:k<c.length) (A:n<=w.heap.size) (hs:Same (λx=>(css.getD k (undef,undef)).1.ownBlock=some x) w w2) (r:OwnD w2 dv ds) (t:∀x,dv.ownBlock=some x->(css.getD k (undef,undef)).1.ownBlock=some x\/w.heap.size<=x)
  (u:∀m o,Same (λx=>n<=x) w m->LayO n o m lv (c.set k (ds,(c.getD k ([],[])).2)) (css.set k (dv,(css.getD k (undef,undef)).2))->K undef m):zn P zi (.pointer (some ((eaddr lv 2 k).add 0))) dv w2 K:=by
 have d:k<css.length:=by rw[h.len];exact f
 have y:Own P 0 2 zk w2 lv (css.map λp=>[p.1,p.2]):=h.row.same hs λx a e=>by have:=(h.own x a).2;have:=(h.decn k x f e).2;omega
 refine Own.stCell y (x:=dv) r.dcls.cellsV r.dcls.one Qn (i:=k) (j:=0) (by rw[X0];exact d) (by decide) λm s g z=>?_;rw[M.getD_map _ d _ (undef,undef)] at s;have llt:∀x,lv.ownBlock=some x->x<w.heap.size:=λx a=>(h.row.lt a).2;have nd:∀x,dv.ownBlock=some x->lv.ownBlock≠some x:=λx a e=>by
  rcases t x a with q|q
  ·have:=(h.own x e).2;have:=(h.decn k x f q).2;omega
  ·have:=llt x e;omega
 refine u m (λx=>if x<w.heap.size then tag x else 3*k+1) ((hs.mono λx _ a=>(h.decn k x f a).1).trans (g.mono λx _ a=>(h.own x a).1)) ⟨by rw[pM];exact s,by simp[h.len],λx a=>⟨(h.own x a).1,by simp only[if_pos (llt x a)];exact(h.own x a).2⟩,λi b=>?_,λi x b a=>?_,λi b=>?_,λi x b a=>?_⟩
 ·rw[gH] at b;rw[kN d,kN f];by_cases e:k=i
  ·rw[if_pos e,if_pos e];exact r.same g nd
  ·rw[if_neg e,if_neg e];exact((h.dec i b).same hs λx a q=>by have:=(h.decn i x b a).2;have:=(h.decn k x f q).2;omega).same g λx a q=>by have:=(h.own x q).2;have:=(h.decn i x b a).2;omega
 ·rw[gH] at b;rw[kN d] at a;by_cases e:k=i
  ·rw[if_pos e] at a;subst e;rcases t x a with q|q
   ·have l:=((h.dec k f).lt q).2;refine⟨(h.decn k x f q).1,?_⟩;simp only[if_pos l];exact(h.decn k x f q).2
   ·refine⟨by omega,?_⟩;simp only[if_neg (show¬x<w.heap.size by omega)]
  ·rw[if_neg e] at a;have l:=((h.dec i b).lt a).2;refine⟨(h.decn i x b a).1,?_⟩;simp only[if_pos l];exact(h.decn i x b a).2
 ·rw[gH] at b;rw[kN d,kN f];have q:LstH (λx=>n<=x/\(if x<w.heap.size then tag x else 3*k+1)=3*i+2) m (css.getD i (undef,undef)).2 (c.getD i ([],[])).2:=
   (((((h.ter i b).weaken (F:=λx=>(n<=x/\tag x=3*i+2)/\x<w.heap.size) λx a v=>⟨a,v⟩).same hs (λx a q=>by have:=(h.tern i x b a).2;have:=(h.decn k x f q).2;omega) λx a _ q=>by have:=a.1.2;have:=(h.decn k x f q).2;omega).same g (λx a q=>by have:=(h.own x q).2;have:=(h.tern i x b a).2;omega) λx a _ q=>by have:=(h.own x q).2;have:=a.1.2;omega)).weaken λx a _=>⟨a.1.1,by simp only[if_pos a.2];exact a.1.2⟩
  by_cases e:k=i
  ·rw[if_pos e,if_pos e];subst e;exact q
  ·rw[if_neg e,if_neg e];exact q
 ·rw[gH] at b;rw[kN d] at a;replace a:(css.getD i (undef,undef)).2.ownBlock=some x:=by
   by_cases e:k=i
   ·rw[if_pos e] at a;subst e;exact a
   ·rw[if_neg e] at a;exact a
  have l:=(h.ter i b).lt a;refine⟨(h.tern i x b a).1,?_⟩;simp only[if_pos l];exact(h.tern i x b a).2
open Classical in
theorem LayO.setT (h:LayO n tag w lv c css) (f:k<c.length) (G:n<=w.heap.size) (hs:Same (λx=>(css.getD k (undef,undef)).2.ownBlock=some x\/w.heap.size<=x) w w2) (v:LstH H w2 tv ts) (z:∀x,tv.ownBlock=some x->(css.getD k (undef,undef)).2.ownBlock=some x\/w.heap.size<=x)
  (hH:∀x,H x->n<=x/\tag x=3*k+2/\x<w.heap.size\/w.heap.size<=x/\tv.ownBlock≠some x)
  (B:∀m l,Same (λx=>lv.ownBlock=some x) w2 m->(∀x,H x->n<=x/\l x=3*k+2)->LayO n l m lv (c.set k ((c.getD k ([],[])).1,ts)) (css.set k ((css.getD k (undef,undef)).1,tv))->K undef m):zn P zb (.pointer (some ((eaddr lv 2 k).add 1))) tv w2 K:=by
 have d:k<css.length:=by rw[h.len];exact f
 have llt:∀x,lv.ownBlock=some x->x<w.heap.size:=λx a=>(h.row.lt a).2;have dlt:∀i x,i<c.length->(css.getD i (undef,undef)).1.ownBlock=some x->x<w.heap.size:=λi x b a=>((h.dec i b).lt a).2;have tlt:∀i x,i<c.length->(css.getD i (undef,undef)).2.ownBlock=some x->x<w.heap.size:=λi x b a=>(h.ter i b).lt a;have D:Own P 0 2 zk w2 lv (css.map λp=>[p.1,p.2]):=h.row.same hs λx a e=>by
  have q:=llt x a;rcases e with e|e
  ·have:=(h.own x a).2;have:=(h.tern k x f e).2;omega
  ·omega
 refine Own.stCell D (x:=tv) v.tms.cellsV v.tms.one qd (i:=k) (j:=1) (by rw[X0];exact d) (by decide) λm y g E=>?_;rw[M.getD_map _ d _ (undef,undef)] at y;have o:∀x,H x->n<=x/\(if x<w.heap.size then tag x else if tv.ownBlock=some x then 3*k+3 else 3*k+2)=3*k+2:=λx a=>by
  rcases hH x a with⟨s,r,A⟩|⟨s,r⟩
  ·refine⟨s,?_⟩;simp only[if_pos A];exact r
  ·refine⟨by omega,?_⟩;simp only[if_neg (show¬x<w.heap.size by omega),if_neg r]
 have t:∀x,H x->lv.ownBlock≠some x:=λx a e=>by
  have:=llt x e;have:=(h.own x e).2;rcases hH x a with⟨s,r,A⟩|⟨s,r⟩<;>omega
 have u:∀x,tv.ownBlock=some x->lv.ownBlock≠some x:=λx a e=>by
  have:=llt x e;have:=(h.own x e).2;rcases z x a with q|q
  ·have:=(h.tern k x f q).2;omega
  ·omega
 refine B m _ g o ⟨by rw[pM];exact y,by simp[h.len],λx a=>⟨(h.own x a).1,by simp only[if_pos (llt x a)];exact(h.own x a).2⟩,λi b=>?_,λi x b a=>?_,λi b=>?_,λi x b a=>?_⟩
 ·rw[gH] at b;rw[kN d,kN f];have q:OwnD m (css.getD i (undef,undef)).1 (c.getD i ([],[])).1:=((h.dec i b).same hs λx a q=>by
   have:=dlt i x b a;rcases q with q|q
   ·have:=(h.decn i x b a).2;have:=(h.tern k x f q).2;omega
   ·omega).same g λx a q=>by have:=(h.own x q).2;have:=(h.decn i x b a).2;omega
  by_cases e:k=i
  ·rw[if_pos e,if_pos e];subst e;exact q
  ·rw[if_neg e,if_neg e];exact q
 ·rw[gH] at b;rw[kN d] at a;replace a:(css.getD i (undef,undef)).1.ownBlock=some x:=by
   by_cases e:k=i
   ·rw[if_pos e] at a;subst e;exact a
   ·rw[if_neg e] at a;exact a
  refine⟨(h.decn i x b a).1,?_⟩;simp only[if_pos (dlt i x b a)];exact(h.decn i x b a).2
 ·rw[gH] at b;rw[kN d,kN f];by_cases e:k=i
  ·rw[if_pos e,if_pos e];subst e;exact(v.same g (λx a q=>u x a q) λx a _ q=>t x a q).weaken λx a _=>o x a
  ·rw[if_neg e,if_neg e];refine((((h.ter i b).weaken (F:=λx=>(n<=x/\tag x=3*i+2)/\x<w.heap.size) λx a C=>⟨a,C⟩).same hs (λx a q=>?_) λx a _ q=>?_).same g (λx a q=>?_) λx a _ q=>?_).weaken λx a _=>⟨a.1.1,by simp only[if_pos a.2];exact a.1.2⟩
   ·have:=tlt i x b a;rcases q with q|q
    ·have:=(h.tern i x b a).2;have:=(h.tern k x f q).2;omega
    ·omega
   ·have:=a.2;rcases q with q|q
    ·have:=a.1.2;have:=(h.tern k x f q).2;omega
    ·omega
   ·have:=(h.own x q).2;have:=(h.tern i x b a).2;omega
   ·have:=(h.own x q).2;have:=a.1.2;omega
 ·rw[gH] at b;rw[kN d] at a;by_cases e:k=i
  ·rw[if_pos e] at a;subst e;rcases z x a with q|q
   ·refine⟨(h.tern k x f q).1,?_⟩;simp only[if_pos (tlt k x f q)];exact(h.tern k x f q).2
   ·refine⟨by omega,?_⟩;replace a:tv.ownBlock=some x:=a;simp only[if_neg (show¬x<w.heap.size by omega),if_pos a]
  ·rw[if_neg e] at a;refine⟨(h.tern i x b a).1,?_⟩;simp only[if_pos (tlt i x b a)];exact(h.tern i x b a).2
theorem LayO.stEl {i:Nat} {cs:List Value} (h:LayO n tag w lv c css) (f:k<c.length) (p:i<(c.getD k ([],[])).2.length) (o:TmR (λx=>n<=x/\tag x=3*k+2) w cs t)
  (m:∀g,Same (λx=>(css.getD k (undef,undef)).2.ownBlock=some x) w g->LayO n tag g lv (c.set k ((c.getD k ([],[])).1,(c.getD k ([],[])).2.set i t)) css->K undef g):zn P za (.pointer (some (eaddr (css.getD k (undef,undef)).2 5 i))) (.agg ⟨cs⟩) w K:=by
 refine LstH.st (h.ter k f) p o (λx b q=>by have:=(h.tern k x f b).2;omega) λg d r l=>m g d ⟨h.row.same d λx b q=>by have:=(h.own x b).2;have:=(h.tern k x f q).2;omega,by rw[gH];exact h.len,h.own,λj a=>?_,λj x a b=>h.decn j x (by rw[gH] at a;exact a) b,λj a=>?_,λj x a b=>h.tern j x (by rw[gH] at a;exact a) b⟩
 ·rw[gH] at a;rw[kN f];have q:OwnD g (css.getD j (undef,undef)).1 (c.getD j ([],[])).1:=(h.dec j a).same d λx b q=>by have:=(h.decn j x a b).2;have:=(h.tern k x f q).2;omega
  by_cases e:k=j
  ·rw[if_pos e];subst e;exact q
  ·rw[if_neg e];exact q
 ·rw[gH] at a;rw[kN f];by_cases e:k=j
  ·rw[if_pos e];subst e;exact l
  ·rw[if_neg e];exact(h.ter j a).same d (λx b q=>by have:=(h.tern j x a b).2;have:=(h.tern k x f q).2;omega) λx b _ q=>by have:=b.2;have:=(h.tern k x f q).2;omega
theorem LayO.appT {cs:List Value} {bz len:Nat} (h:LayO n tag w lv c css) (f:k<c.length) (hn:n<=w.heap.size) (he:Ext w w1) (hz:Blk w1 bz yH0 za) (ht:TmR G w1 cs t) (hG:∀x,G x->x<w1.heap.size->w.heap.size<=x) (a0:(c.getD k ([],[])).2.length<=1000)
  (hlen:len=(c.getD k ([],[])).2.length) {J:World->Prop} (hJ:∀w' D R,Same (λx=>n<=x) w w'->LayO n D w' lv (c.set k ((c.getD k ([],[])).1,(c.getD k ([],[])).2++[t])) (css.set k ((css.getD k (undef,undef)).1,R))->J w'):
  vbi P .append [zb,zb] zb [(css.getD k (undef,undef)).2,.slice (some ⟨bz,0,none⟩) 1 1] w1 λt39 d=>
   zj P zb t39 (.int .i64 len) d λt40 S=>S=d/\
   zj P zk lv (.int .i64 k) d λt41 T=>T=d/\
   zg P zo t41 1 d λt42 U=>U=d/\
   (zn P za t40 (.agg ⟨cs⟩) d λ_ l=>(zg P zo t41 1 l λv x=>v=t42/\x=l)/\(zj P zk lv (.int .i64 k) l λv x=>v=t41/\x=l)/\
    (zn P zb t42 t39 l λ_ V=>J V)/\True)/\
   (zn P zb t42 t39 d λ_ r=>(zj P zb t39 (.int .i64 len) r λv x=>v=t40/\x=r)/\
    (zn P za t40 (.agg ⟨cs⟩) r λ_ W=>J W)/\True)/\True:=by
 subst hlen;have L:k<css.length:=by rw[h.len];exact f
 have z1:=he.size;have ltv:∀x,(css.getD k (undef,undef)).2.ownBlock=some x->x<w.heap.size:=λx a=>(h.ter k f).lt a;refine LstH.app (H2:=λ_=>False) (us:=[.mk 0 0 0 M.nada []]) (((h.ter k f).weaken (F:=λx=>(n<=x/\tag x=3*k+2)/\x<w.heap.size) λx a E=>⟨a,E⟩).ext he) (λx a=>⟨λq=>by have:=(h.tern k x f a).2;omega,λq=>q⟩) (hz.sl1k rfl) rfl (λi hi=>?_) (by simp only[gD];omega) λw2 b p y Z=>?_
 ·have:i=0:=(by simpa using hi);subst this;exact VY0
 have z2:=p.size;have m:Same (λx=>(css.getD k (undef,undef)).2.ownBlock=some x\/w.heap.size<=x) w w2:=(Same.of_ext he).trans (p.mono λx _ a=> .inl a);have j:∀x,b.ownBlock=some x->(css.getD k (undef,undef)).2.ownBlock=some x\/w.heap.size<=x:=λx a=>(y x a).imp id λq=>by omega
 have u:(c.getD k ([],[])).2.length<((c.getD k ([],[])).2++[M.Tm.mk 0 0 0 M.nada []]).length:=by rw[Q1,gD];omega
 have B:∀{w':World} {K:Value->World->Prop},zj P zb b (.int .i64 (c.getD k ([],[])).2.length) w' K=K (.pointer (some (eaddr b 5 (c.getD k ([],[])).2.length))) w':=λ{w' K}=>by
  have:=Z.tms.iaddr (K:=K) (w':=w') (kd:= .i64) Qt (i:=((c.getD k ([],[])).2.length:Int)) (by omega) (by omega);rwa[gl] at this
 have Q:∀x,(n<=x/\tag x=3*k+2)/\x<w.heap.size->b.ownBlock≠some x:=λx a e=>by
  rcases j x e with q|q
  ·have:=(h.tern k x f q).2;have:=a.1.2;omega
  ·omega
 have A:TmR (λx=>((n<=x/\tag x=3*k+2)/\x<w.heap.size)\/(w.heap.size<=x/\x<w1.heap.size)) w2 cs t:=((ht.weaken (F':=λx=>w.heap.size<=x/\x<w1.heap.size) λx a E=>⟨hG x a E,E⟩).same p λx a _ e=>by have:=ltv x e;omega).weaken λx a _=> .inr a;have C:∀x,(w.heap.size<=x/\x<w1.heap.size)->b.ownBlock≠some x:=λx a e=>by
  rcases y x e with q|q
  ·have:=ltv x q;omega
  ·omega
 have hH:∀x,(((n<=x/\tag x=3*k+2)/\x<w.heap.size)\/(w.heap.size<=x/\x<w1.heap.size))->n<=x/\tag x=3*k+2/\x<w.heap.size\/w.heap.size<=x/\b.ownBlock≠some x:=λx a=>by
  rcases a with a|a
  ·exact .inl ⟨a.1.1,a.1.2,a.2⟩
  ·exact .inr ⟨a.1,C x a⟩
 have s:LstH (λx=>((n<=x/\tag x=3*k+2)/\x<w.heap.size)\/(w.heap.size<=x/\x<w1.heap.size)) w2 b ((c.getD k ([],[])).2++[M.Tm.mk 0 0 0 M.nada []]):=Z.weaken λx a _=>a.1.elim .inl λq=>q.elim;rw[B];refine⟨rfl,?_⟩;rw[h.ia yH f];refine⟨rfl,?_⟩;rw[yz];refine⟨rfl,?_,?_,trivial⟩
 ·refine LstH.st s u A (λx a q=>q.elim (λq=>Q x q a) λq=>C x q a) λw3 z a1 h3=>?_;rw[Z60] at h3;rw[yz,h.ia yH f];refine⟨⟨rfl,rfl⟩,⟨rfl,rfl⟩,?_,trivial⟩;refine LayO.setT h f hn (m.trans (z.mono λx _ a=>j x a)) h3 j hH λw4 g o _ H=>hJ w4 g b ?_ H;exact((m.mono λx _ a=>a.elim (λq=>(h.tern k x f q).1) λq=>by omega).trans (z.mono λx _ a=>(j x a).elim (λq=>(h.tern k x f q).1) λq=>by omega)).trans (o.mono λx _ a=>(h.own x a).1)
 ·refine LayO.setT h f hn m s j hH λw4 g o I H=>?_;rw[B];refine⟨⟨rfl,rfl⟩,?_,trivial⟩;have Y:(css.set k ((css.getD k (undef,undef)).1,b)).getD k (undef,undef)=((css.getD k (undef,undef)).1,b):=(by rw[kN L,if_pos rfl]);have X:(c.set k ((c.getD k ([],[])).1,(c.getD k ([],[])).2++[M.Tm.mk 0 0 0 M.nada []])).getD k ([],[])=((c.getD k ([],[])).1,(c.getD k ([],[])).2++[M.Tm.mk 0 0 0 M.nada []]):=(by rw[kN f,if_pos rfl]);have O:=(A.same o λx a _ q=>by
   have:=(h.own x q).2;have:=(h.row.lt q).2;rcases a with a|a
   ·have:=a.1.2;omega
   ·omega).weaken (F':=λx=>n<=x/\g x=3*k+2) λx a _=>I x a
  have:=LayO.stEl (K:=λ_ w=>J w) (t:=t) (i:=(c.getD k ([],[])).2.length) H (by rw[gH];exact f) (by rw[X];exact u) O λw5 N h5=>?_
  ·rw[Y] at this;exact this
  ·rw[X,Y] at*;rw[Z60,List.set_set] at h5;refine hJ w5 g b ?_ h5;exact((m.mono λx _ a=>a.elim (λq=>(h.tern k x f q).1) λq=>by omega).trans (o.mono λx _ a=>(h.own x a).1)).trans (N.mono λx _ a=>(j x a).elim (λq=>(h.tern k x f q).1) λq=>by omega)
end
section
variable {w w' w1 w2:World} {K:Value->World->Prop} {F G H S:Nat->Prop} {n b k:Nat} {v lv tv dv xv f:Value} {t:M.Tm} {ts:List M.Tm} {d:M.Dcl} {ds es:List M.Dcl} {c e x:List M.Lay} {tag:Nat->Nat} {css:List (Value×Value)}
theorem LaysR.nilB {b:Nat}:LaysR F w (.slice (some ⟨b,0,none⟩) 0 0) []:=⟨[],⟨⟨_,0,rfl,by simp,by simp,by simp⟩,by simp⟩,rfl,by simp⟩
theorem US (h:M.ctxOk c=true):∀i,i<c.length->∀t,t∈(c.getD i ([],[])).2->JT0 t=true:=λi a t b=>fit_ok ((M.ctx_iff.1 h).2.2.2.2 i a t b)
theorem l10Now_spec (m:LaysR F w v c) (d:M.ctxOk c=true) (i:LaysR G w xv x) (l:CtxB x) (g:qg0 (M.decL x))
  (h:∀w' r,Ext w w'->LaysR (λz=>G z\/w.heap.size<=z) w' r (if M.ctxOk x=true then x else c)->K (.tuple #[r,.bool (M.ctxOk x)]) w'):vcall P ZD #[v,xv] w K:=by
 apply ZS0;refine spec_CtxOk_spec i l g λw1 b=>?_;simp only[push_cast];refine zK (λa=>?_) (λa=>?_)
 ·have f:M.ctxOk x=false:=(by simpa using a);refine l10Copy_spec (m.ext b) (ctxB_of d) (US d) λw2 lv tag css e k=>?_;have:=h w2 lv (b.trans e);rw[f,if_neg (by decide)] at this;have n:=b.size;exact this (k.lays.weaken λz j _=> .inr (by omega))
 ·have f:M.ctxOk x=true:=(by simpa using a);have:=h w1 xv b;rw[f,if_pos rfl] at this;exact this ((i.ext b).weaken λz j _=> .inl j)
theorem U8 (h:M.ctxOk c=true):chg c x=(if M.ctxOk x=true then x else c,M.ctxOk x):=by
 unfold chg;rw[if_pos h];cases a:M.ctxOk x<;>simp
theorem YL0 (h:M.ctxOk c≠true):chg c x=([],false):=by unfold chg;rw[if_neg h]
theorem sized_app {d:M.Dcl} (h:qg0 ds) (b:d.1.size<=9223372036854775807):qg0 (ds++[d]):=λi a=>by
 rw[Q1] at a;by_cases e:i<ds.length
 ·rw[M.app_getD e];exact h i e
 ·have e:i=ds.length:=by simp at a;omega
  rw[XX (by omega),e,GB];exact b
theorem ctxB_push (h:M.ctxOk c=true):CtxB (c++[([],[])]):=by
 have q:=ctxB_of h;have:=(M.ctx_iff.1 h).2.1;exact⟨by rw[Q1];simp;omega,by rw[M.decL_app,M.decL_one,gz];exact q.dec,by rw[M.terL_app,M.terL_one,gz];exact q.ter⟩
theorem ctxB_addD (h:M.ctxOk c=true):CtxB (M.addD c d):=by
 have q:=ctxB_of h;have a:=(M.decl_iff.1 (M.ctx_iff.1 h).2.2.1).1;exact⟨by rw[M.addD_len];exact q.len,by rw[M.addD_decL (ctx_ne h),Q1];simp;omega,by rw[M.addD_terL (ctx_ne h)];exact q.ter⟩
theorem spec_CtxPush_spec (m:LaysR F w v c) (u:CtxB c) (i:qg0 (M.decL c)) (n:∀w' v',Ext w w'->LaysR (λx=>w.heap.size<=x) w' v' (chg c (c++[([],[])])).1->K (.tuple #[v',.bool (chg c (c++[([],[])])).2]) w'):vcall P Yy #[v] w K:=by
 apply k90;refine spec_CtxOk_spec m u i λw1 e=>?_;simp only[push_cast];have D:=e.size;refine zK (λa=>?_) (λa=>?_)
 ·refine qB qE qW λb w2 y f z t=>?_;have:=n w2 (.slice (some ⟨b,0,none⟩) 0 0) (e.trans f);rw[YL0 (by simpa using a)] at this;exact this LaysR.nilB
 ·have d:M.ctxOk c=true:=(by simpa using a);refine l10Copy_spec (m.ext e) (ctxB_of d) (US d) λw2 lv tag css f p=>?_;have z2:=f.size;refine LayO.push (H:=λ_=>False) (ds:=[]) (ts:=[]) p (by omega) (Same.refl _ _) (Own.nil P 0 2 _ w2) (λx g=>(by cases g)) LstH.nil (λx g=>g.elim) (λx g=>(by cases g)) (by have:=(ctxB_of d).len;omega) λB A o l q=>?_;have j:Ext w1 B:=Ext.then f l λx g=>g;refine l10Now_spec (m.ext (e.trans j)) d q.lays (ctxB_push d) (by rw[M.decL_app,M.decL_one,gz];exact i) λC r k s=>?_
  try simp only[push_cast]
  have:=n C r (e.trans (j.trans k));rw[U8 d] at this;have z3:=j.size;exact this (s.weaken λx g _=>by rcases g with h|h<;>omega)
theorem spec_CtxName_spec (H:LaysR F w v c) (z:CtxB c) (o:qg0 (M.decL c)) (X:d.1.size<=9223372036854775807) (N:∀w' v',Ext w w'->LaysR (λx=>w.heap.size<=x) w' v' (chg c (M.addD c d)).1->K (.tuple #[v',.bool (chg c (M.addD c d)).2]) w'):
  vcall P Yz #[v,.agg ⟨[.string d.1,.int .i64 d.2]⟩] w K:=by
 apply ka0;refine zx λb1 w0 U j Y t=>?_;refine spec_CtxOk_spec (H.ext j) z o λw1 k=>?_;simp only[push_cast];have z0:=j.size;have z1:=k.size;have p:=j.trans k;refine zK (λa=>?_) (λa=>?_)
 ·refine qB qE qW λb w2 V f Z T=>?_;have:=N w2 (.slice (some ⟨b,0,none⟩) 0 0) (p.trans f);rw[YL0 (by simpa using a)] at this;exact this LaysR.nilB
 ·have e:M.ctxOk c=true:=(by simpa using a);have n:=ctx_ne e;have O:0<c.length:=gG.2 n;have hlen:=z.len;have m:c.length-1<c.length:=(by omega);have h4:=(M.decl_iff.1 (M.ctx_iff.1 e).2.2.1).1;refine l10Copy_spec (H.ext p) (ctxB_of e) (US e) λw2 lv tag css f J=>?_;have z2:=f.size;simp(disch:=(simp only[push_cast])) only[push_cast,J.lays.len];rw[zJ (by omega) (by omega),show(c.length:Int)-1=((c.length-1:Nat):Int) by omega];refine zr λw3 i _=>?_;have s:=J.ext i;have u:=t.ext (k.trans (f.trans i));simp(disch:=first|(simp only[push_cast])|exact m) only[push_cast,s.ia,s.ldD,true_and,stD u];refine xQ Zt Yk jR rfl rfl (by decide) λb4 w4 W l a0 y=>?_;have g:=s.ext l;simp(disch:=first|(simp only[push_cast])|exact m) only[push_cast,g.ia,g.ldD,true_and,and_self];have z3:=i.size;have z4:=l.size;have dl:(c.getD (c.length-1) ([],[])).1.length<=1000:=by
   have:=(ctxB_take z (c.length-1+1)).dec;rw[M.decL_take m,Q1] at this;omega
  refine OwnD.app (es:=[d]) (g.dec _ m) (y.sl1k rfl) (by simp only[gD];omega) λw5 R E D B=>?_
  try simp only[push_cast,true_and]
  refine LayO.setD g m (by omega) E B D λw6 Q G L=>?_;have q:Ext w1 w6:=Ext.then (f.trans (i.trans l)) G λx I=>I;have A:c.set (c.length-1) ((c.getD (c.length-1) ([],[])).1++[d],(c.getD (c.length-1) ([],[])).2)=M.addD c d:=rfl;rw[A] at L;refine l10Now_spec (H.ext (p.trans q)) e L.lays (ctxB_addD e) (by rw[M.addD_decL n];exact sized_app o X) λw7 r C S=>?_
  try simp only[push_cast]
  have:=N w7 r (p.trans (q.trans C));rw[U8 e] at this;have z6:=q.size;exact this (S.weaken λx I _=>by rcases I with h|h<;>omega)
theorem spec_CtxPop_spec (m:LaysR F w v c) (k:CtxB c) (i:qg0 (M.decL c)) (n:∀w' v',Ext w w'->LaysR (λx=>w.heap.size<=x) w' v' (chg c (c.take (c.length-1))).1->K (.tuple #[v',.bool (chg c (c.take (c.length-1))).2]) w'):vcall P Ka #[v] w K:=by
 apply ZW0;refine spec_CtxOk_spec m k i λw1 d=>?_;simp only[push_cast];have z:=d.size;refine zK (λa=>?_) (λa=>?_)
 ·refine qB qE qW λb w2 s e u q=>?_;have:=n w2 (.slice (some ⟨b,0,none⟩) 0 0) (d.trans e);rw[YL0 (by simpa using a)] at this;exact this LaysR.nilB
 ·have f:M.ctxOk c=true:=(by simpa using a);have g:=ctx_ne f;have o:0<c.length:=gG.2 g;have hlen:=k.len;refine l10Copy_spec (m.ext d) (ctxB_of f) (US f) λw2 lv tag css e j=>?_;have z2:=e.size;simp(disch:=(simp only[push_cast])) only[push_cast,j.lays.len];rw[zJ (by omega) (by omega),show(c.length:Int)-1=((c.length-1:Nat):Int) by omega,j.lays.cut g yH (by omega)];refine l10Now_spec (m.ext (d.trans e)) f (j.lays.taken (by omega:c.length-1<=c.length)) (ctxB_take k _) (sized_take i) λy r l p=>?_
  try simp only[push_cast]
  have:=n y r (d.trans (e.trans l));rw[U8 f] at this;exact this (p.weaken λx t _=>by rcases t with h|h<;>omega)
theorem spec_CtxNew_spec (e:∀w' v',Ext w w'->LaysR (λx=>w.heap.size<=x) w' v' [([],[])]->K v' w'):vcall P Kb #[] w K:=by
 apply ZX0;simp only[push_cast];refine xQ qE qW jp rfl rfl (by decide) λb w1 h c g a=>?_;refine e w1 _ c ⟨[(.slice none 0 0,.slice none 0 0)],(a.sl1k rfl).weaken λx d _=>by omega,rfl,λi f=>?_⟩;have:i=0:=by simpa using f
 subst this;exact⟨(Own.nil P 0 2 zi w1).sl.weaken λx d _=>(by cases d),TmsR.nil⟩
theorem spec_CtxAssert_spec (T:LaysR F w v c) (ht:TermR G w tv t) (N:CtxB c) (S:qg0 (M.decL c)) (hK:∀w' v',Ext w w'->LaysR (λx=>w.heap.size<=x) w' v' (chg c (M.addT c t)).1->K (.tuple #[v',.bool (chg c (M.addT c t)).2]) w'):
  vcall P YZ #[v,tv] w K:=by
 apply q30;obtain⟨cs,rfl,B⟩:=ht.cells;have X:aggB P za cs.length=true:=by rw[yq B];exact zp
 refine zx λb1 w0 af C aj H=>?_;refine spec_CtxOk_spec (T.ext C) N S λw1 p=>?_;simp only[push_cast];have z0:=C.size;have z1:=p.size;have q:=C.trans p;refine zK (λa=>?_) (λa=>?_)
 ·refine qB qE qW λb w2 ag d ak A=>?_;have:=hK w2 (.slice (some ⟨b,0,none⟩) 0 0) (q.trans d);rw[YL0 (by simpa using a)] at this;exact this LaysR.nilB
 have j:M.ctxOk c=true:=by simpa using a
 have a5:=ctx_ne j;have ab:0<c.length:=gG.2 a5;have hlen:=N.len;have g:c.length-1<c.length:=by omega
 have o:=M.ctx_addT (t:=t) j;have bad:M.ctxOk (M.addT c t)≠true->∀{w2:World},Ext w1 w2->vcall P xu #[v] w2 λt24 V=>K (.tuple #[t24,.bool false]) V:=λhn {w2} d=>by
  refine l10Copy_spec (T.ext (q.trans d)) (ctxB_of j) (US j) λU lv tag css i W=>?_;have:=hK U lv (q.trans (d.trans i));rw[U8 j,if_neg hn,Pt _|>.mp hn] at this;have z2:=d.size;exact this (W.lays.weaken λx D _=>by omega)
 refine zS (λu w'=>u=[]/\Ext w1 w'/\M.tsort (M.decL c) t=0/\(M.terL c).length<8) (λJ hJ=>?_) ?_
 ·refine zr λw2 d _=>?_;have A:=H.ext (p.trans d);rw[A.ldAgg X];refine⟨rfl,?_⟩;refine l10Decls_spec (T.ext (q.trans d)) N λU dv i a4=>?_;rw[(A.ext i).ldAgg X];refine⟨⟨rfl,rfl⟩,?_⟩;have E:=d.trans i;refine spec_TermSort_spec S a4 (B.ext (q.trans E)).term λw4 l=>?_;have Z:=E.trans l;simp only[push_cast,true_and];refine zh (λY=>bad (λh=>?_) Z) (λY=>?_)
  ·rw[o,V0,decide_eq_true_eq] at h;exact Y h.1
  refine l10Terms_spec (T.ext (q.trans Z)) N λw5 aa f a9=>?_;simp(disch:=(simp only[push_cast])) only[push_cast,a9.len,true_and];have e5:=Z.trans f;refine zh (λa2=>bad (λh=>?_) e5) (λa2=>?_)
  ·rw[o,V0,decide_eq_true_eq,decide_eq_true_eq] at h;omega
  exact hJ _ _ ⟨rfl,e5,GG.1 Y,by omega⟩
 rintro _ _ w2 ⟨rfl,d,R,h8⟩;have s:M.ctxOk (M.addT c t)=true:=by rw[o,V0,decide_eq_true_eq,decide_eq_true_eq];exact⟨R,h8⟩
 refine l10Copy_spec (T.ext (q.trans d)) (ctxB_of j) (US j) λU lv tag css i W=>?_;have E:=q.trans (d.trans i);simp(disch:=(simp only[push_cast])) only[push_cast,W.lays.len];rw[zJ (by omega) (by omega),show(c.length:Int)-1=((c.length-1:Nat):Int) by omega];have z2:=d.size;have z3:=i.size;have Q:∀{w':World} {e:Nat->Nat} {k:Value},Same (λx=>w2.heap.size<=x) U w'->LayO w2.heap.size e w' lv (M.addT c t) (css.set (c.length-1) ((css.getD (c.length-1) (undef,undef)).1,k))->K (.tuple #[lv,.bool true]) w':=λ{w' e k} hs h=>by
  have:=hK w' lv (Ext.then E hs λx D=>by omega);rw[U8 j,if_pos s,s] at this;exact this (h.lays.weaken λx D _=>by omega)
 refine zS (λu w'=>u=[]/\∃e k,Same (λx=>w2.heap.size<=x) U w'/\LayO w2.heap.size e w' lv (M.addT c t) (css.set (c.length-1) ((css.getD (c.length-1) (undef,undef)).1,k))) (λJ hJ=>?_) ?_
 ·refine zr λw4 l _=>?_;have y:=W.ext l;have z4:=l.size;have I:=H.ext ((p.trans (d.trans i)).trans l);have O:=B.ext (E.trans l);have r:=fit_ok R;have tl:(c.getD (c.length-1) ([],[])).2.length<=1000:=by
   have:=(ctxB_take N (c.length-1+1)).ter;rw[M.terL_take g,Q1] at this;omega
  have L:∀w' e k,Same (λx=>w2.heap.size<=x) w4 w'->LayO w2.heap.size e w' lv (c.set (c.length-1) ((c.getD (c.length-1) ([],[])).1,(c.getD (c.length-1) ([],[])).2++[t])) (css.set (c.length-1) ((css.getD (c.length-1) (undef,undef)).1,k))->J [] w':=λw' e k hs h=>hJ _ _ ⟨rfl,e,k,(Same.of_ext l).trans hs,h⟩;rw[y.ia yH g];refine⟨rfl,?_⟩;rw[yz];refine⟨rfl,?_⟩;rw[y.ldT yI g];refine⟨rfl,?_⟩;rw[I.ldAgg X];refine⟨rfl,?_⟩;rw[(y.ter _ g).tms.len xo];refine⟨rfl,?_,?_,trivial⟩
  ·refine l3Copy_spec _ O.term r λw5 ad f a6=>?_;have n:=y.ext f;have z5:=f.size;rw[(n.ter _ g).tms.len xo,n.ldT yI g,yz,n.ia yH g];refine⟨⟨rfl,rfl⟩,⟨rfl,rfl⟩,⟨rfl,rfl⟩,⟨rfl,rfl⟩,?_,trivial⟩;refine xQ xd xn zH rfl rfl (by decide) λb6 w6 ai m am a3=>?_;have z:=n.ext m;rw[(z.ter _ g).tms.len xo,z.ldT yI g,yz,z.ia yH g];refine⟨⟨rfl,rfl⟩,⟨rfl,rfl⟩,⟨rfl,rfl⟩,⟨rfl,rfl⟩,?_,trivial⟩;exact LayO.appT y g (by omega) (f.trans m) a3 ((Z30 _ a6).ext m) (λx D _=>D.1) tl rfl L
  ·refine xQ xd xn zH rfl rfl (by decide) λb5 w5 ah f al a0=>?_;have n:=y.ext f;have z5:=f.size;rw[(n.ter _ g).tms.len xo,(I.ext f).ldAgg X,n.ldT yI g,yz,n.ia yH g];refine⟨⟨rfl,rfl⟩,⟨rfl,rfl⟩,⟨rfl,rfl⟩,⟨rfl,rfl⟩,⟨rfl,rfl⟩,?_,trivial⟩;refine l3Copy_spec _ (O.ext f).term r λw6 ae m a7=>?_;have z:=n.ext m;rw[(z.ter _ g).tms.len xo,z.ldT yI g,yz,z.ia yH g];refine⟨⟨rfl,rfl⟩,⟨rfl,rfl⟩,⟨rfl,rfl⟩,⟨rfl,rfl⟩,?_,trivial⟩;exact LayO.appT y g (by omega) (f.trans m) (a0.ext m) (Z30 _ a7) (λx D _=>by have:=D.1;omega) tl rfl L
 ·rintro _ _ w5 ⟨rfl,ac,aa,a8,n⟩;exact Q a8 n
end
section
variable {w w' w1 w2:World} {K:Value->World->Prop} {F F' D G H S:Nat->Prop} {n b k p:Nat} {v cv tv dv f:Value} {xs:List Nat} {t:M.Tm} {d:M.Dcl} {c c' x:List M.Lay}
def VW0 (c:List M.Lay):Prop:=M.ctxOk c=true/\∀d,d∈M.decL c->d.1.size<=1
theorem dokL_dok (h:VW0 c):Dok (M.decL c)/\(M.decL c).length<=4:=by
 have a:=(M.ctx_iff.1 h.1).2.2.1;have d:=(M.decl_iff.1 a).1;exact⟨⟨by omega,λi b=>⟨(M.dcl_wide a b).1,(M.dcl_wide a b).2,h.2 _ (M.getD_mem b _)⟩⟩,d⟩
theorem Q30 (h:VW0 c) (b:∀d,d∈M.decL x->d.1.size<=1):VW0 (chg c x).1:=by
 rw[U8 h.1];by_cases a:M.ctxOk x=true
 ·rw[if_pos a];exact⟨a,b⟩
 ·rw[if_neg a];exact h
theorem cost_up {p b c i a k:Nat} (d:b<=p+a+k*i) (e:c<=b+k):c<=p+a+k*(i+1):=by
 rw[Nat.mul_succ];omega
theorem l10Act_spec (h:RdR F w b v xs p) (hF:∀x,F x->x<w.heap.size) (hc:LaysR D w cv c) (hD:∀x,D x->x≠b) (f:VW0 c) (hp:p+300000<1099511627776)
  (hK:∀w' p' I c',Same (· =b) w w'->RdR F w' b v xs p'->p'<=p+200010->LaysR (λx=>w.heap.size<=x) w' I c'->VW0 c'->K I w'):vcall P K9 #[.pointer (some ⟨b,0,none⟩),cv] w K:=by
 apply ZU0;have lb:=h.blk.lt;have n:=ctxB_of f.1;obtain⟨L,a7⟩:=dokL_dok f;have B:=dok_sized L;have Q:=ctx_ne f.1;refine vbuildS_row1 (xs:=([⟨#[120]⟩,⟨#[121]⟩,⟨#[122]⟩,⟨#[119]⟩,⟨#[118]⟩]:List ByteArray).map .string) V7 (by kernel_rfl) KY (λx a=>by obtain⟨s,_,rfl⟩:=gm.1 a;rfl) (by decide) λb1 w1 a6 E R W=>?_;have a2:Vals (· =b1) w1 (.slice (some ⟨b1,0,none⟩) 5 5) (([⟨#[120]⟩,⟨#[121]⟩,⟨#[122]⟩,⟨#[119]⟩,⟨#[118]⟩]:List ByteArray).map .string):=W.sl1 rfl (by decide);have z1:=E.size;refine l10Decls_spec (hc.ext E) n λw2 dv G Y=>?_;have z2:=G.size;have U:=E.trans G;refine pick_spec (h.ext U) (by omega) (by omega) λw3 m A a9 r hm _=>?_;have z:=(hc.ext U).same A λx a _ e=>hD x a e;have Z:=(Y.weaken (F':=λx=>w1.heap.size<=x/\x<w2.heap.size) λx a hl=>⟨a,hl⟩).same A λx a _ e=>by omega
 have a1:=(a2.ext G).same A λx a _ e=>by omega
 have s3:Same (· =b) w w3:=(Same.of_ext U).trans A;refine zS (λu w'=>(∃q,u=[.bool q])/\w'=w3) (λJ hJ=>?_) ?_
 ·simp only[push_cast];refine zh (λ_=>hJ _ _ ⟨⟨_,rfl⟩,rfl⟩) (λ_=>hJ _ _ ⟨⟨_,rfl⟩,rfl⟩)
 rintro _ _ _ ⟨⟨q,rfl⟩,rfl⟩;simp only[push_cast];have fin:∀{C H:World} {T:Nat} {o:Value} {x:List M.Lay},Same (· =b) w C->w.heap.size<=C.heap.size->RdR F C b v xs T->T<=p+200010->Ext C H->LaysR (λx=>C.heap.size<=x) H o (chg c x).1->(∀d,d∈M.decL x->d.1.size<=1)->K o H:=λ{C H T o x} g a5 l a3 N a0 hn=>by
  exact hK H T o _ (g.trans (Same.of_ext N)) (l.ext N) a3 (a0.weaken λy hy _=>by omega) (Q30 f hn)
 refine zK (λ_=>?_) (λ_=>?_)
 ·refine strof_spec r a1 (by simp) (by simp) (by omega) (λx a e=>by subst a;omega) λC s g a5 l hs=>?_;refine pick_spec l (by omega) (by omega) λH m5 S aa V O _=>?_;have O:=O (by omega);simp(disch:=first|(simp only[push_cast])|omega) only[push_cast,zJ];have X:=(z.same g λx a _ e=>hD x a e).same S λx a _ e=>hD x a e;have R:s.size<=1:=by
   simp only[gd,gw,or_false] at hs;rcases hs with rfl|rfl|rfl|rfl|rfl<;>decide
  refine spec_CtxName_spec (d:=(s,1+(m5:Int))) X n B (by show s.size<=_;omega) λw6 v6 i j=>?_
  try simp only[push_cast]
  refine fin ((s3.trans g).trans S) (by omega) V (by omega) i j λd k=>?_;rw[M.addD_decL Q] at k;rcases gk.1 k with k|k
  ·exact f.2 d k
  ·rw[gn.1 k];exact R
 refine zh (λ_=>?_) (λ_=>?_)
 ·refine spec_CtxPush_spec z n B λw6 v6 i j=>?_
  try simp only[push_cast]
  refine fin s3 (by omega) r (by omega) i j λd k=>?_;rw[M.decL_app,M.decL_one,gz] at k;exact f.2 d k
 refine zh (λ_=>?_) (λ_=>?_)
 ·refine spec_CtxPop_spec z n B λw6 v6 i j=>?_
  try simp only[push_cast]
  refine fin s3 (by omega) r (by omega) i j λd k=>?_;exact f.2 d (by rw[M.decL_split c (c.length-1)];exact Ge _ k)
 ·refine l8Some_spec r (λx a=>by have:=hF x a;omega) Z (λx a e=>by omega) (λx a=>by omega) L (by omega) (by omega) (by omega) λC p4 tv t g l a8 a4 _=>?_;have z4:=g.size;refine spec_CtxAssert_spec (z.same g λx a _ e=>hD x a e) a4 n B λw6 v6 i j=>?_
  try simp only[push_cast]
  refine fin (s3.trans g) (by omega) l (by omega) i j λd k=>?_;rw[M.addT_decL Q] at k;exact f.2 d k
theorem dokL_new {s:ByteArray} {m:Int} (h:s.size<=1) (hs:s=⟨#[120]⟩) (c:1<=m) (e:m<=4):VW0 (chg [([],[])] (M.addD [([],[])] (s,m))).1:=by
 have b:M.ctxOk [([],[])]=true:=by decide+kernel
 refine Q30 ⟨b,λd a=>by cases a⟩ λd a=>?_;have:d=(s,m):=by simpa[M.addD,M.decL] using a
 rw[this];exact h
theorem l10Ctx_spec (h:RdR F w b v xs p) (hF:∀x,F x->x<w.heap.size) (hp:p+4000000<1099511627776)
  (Y:∀w' A k c',Same (· =b) w w'->RdR F w' b v xs A->A<=p+3000000->LaysR (λx=>w.heap.size<=x) w' k c'->VW0 c'->K k w'):vcall P K8 #[.pointer (some ⟨b,0,none⟩)] w K:=by
 apply ZT0;have lb:=h.blk.lt;refine spec_CtxNew_spec λw1 v1 f L=>?_;have z1:=f.size;refine pick_spec (h.ext f) (by omega) (by omega) λw2 m r Z D hm _=>?_;have hm:=hm (by omega);simp(disch:=first|(simp only[push_cast])|omega) only[push_cast,zJ];have N:=L.same r λx j _ e=>by omega
 refine spec_CtxName_spec (d:=(⟨#[120]⟩,1+(m:Int))) N ⟨by simp,by simp[M.decL],by simp[M.terL]⟩ (λi V=>by simp[M.decL] at V) (by show 1<=9223372036854775807;omega) λw3 v3 g O=>?_
 try simp only[push_cast]
 have z3:=g.size;have s3:Same (· =b) w w3:=((Same.of_ext f).trans r).trans (Same.of_ext g);have H:=dokL_new (s:=⟨#[120]⟩) (m:=1+(m:Int)) (by decide) rfl (by omega) (by omega);refine pick_spec (D.ext g) (by omega) (by omega) λw4 m4 t a0 E q _=>?_;have q:=q (by omega);have Q:=O.same t λx j _ e=>by omega
 refine vloop_up m4 (λi u w'=> ∃cv c A,u=[cv,.int .i64 ((m4-i:Nat):Int)]/\Same (· =b) w w'/\w.heap.size<=w'.heap.size/\RdR F w' b v xs A/\A<=p+2+200010*i/\LaysR (λx=>w.heap.size<=x) w' cv c/\VW0 c) ⟨v3,_,_,rfl,s3.trans t,by omega,E,by omega,Q.weaken λx j _=>by omega,H⟩ ?_;rintro i _ _ w5 C V ⟨cv,c,p5,rfl,y,a1,l,S,o,n⟩ X;simp only[push_cast];refine zh (λa=>?_) (λa=>?_)
 ·have J:i<m4:=(by omega);refine l10Act_spec l (λx j=>by have:=hF x j;omega) o (λx j e=>by omega) n (by omega) λw6 p6 B W z G T R I=>?_;rw[show IntKind.i64.wrap (((m4-i:Nat):Int)-1)=((m4-(i+1):Nat):Int) by rw[zJ (by omega) (by omega)];omega];have z6:=z.size;have U:=cost_up S T;exact X J _ _ ⟨B,W,p6,rfl,y.trans z,by omega,G,U,R.weaken λx j _=>by omega,I⟩
 ·exact Y _ _ _ _ y l (by omega) o n
end
section
variable {w w' w1:World} {K:Value->World->Prop} {F D G H S:Nat->Prop} {n b k p:Nat} {v cv lv f:Value} {xs:List Nat} {t:M.Tm} {ts:List M.Tm} {d:M.Dcl} {ds es:List M.Dcl} {c c' x:List M.Lay} {l:M.Lay} {tag:Nat->Nat} {css:List (Value×Value)}
theorem LayO.same (h:LayO n tag w lv c css) (hw:Same S w w') (d:∀x,S x->x<n):LayO n tag w' lv c css:=
 ⟨h.row.same hw λx a e=>by have:=(h.own x a).1;have:=d x e;omega,h.len,h.own,λi b=>(h.dec i b).same hw λx a e=>by have:=(h.decn i x b a).1;have:=d x e;omega,h.decn,
  λi b=>(h.ter i b).same hw (λx a e=>by have:=(h.tern i x b a).1;have:=d x e;omega) λx a _ e=>by have:=a.1;have:=d x e;omega,h.tern⟩
theorem Zg0 (a:k<c.length):c.set k l=c.take k++l::c.drop (k+1):=by rw[List.set_eq_take_append_cons_drop,if_pos a]
theorem xA0 (a:k<c.length):c=c.take k++c.getD k ([],[])::c.drop (k+1):=by rw[<-M.lay_drop a,GL]
theorem Js (a b:List M.Lay) (l:M.Lay):M.decL (a++l::b)=M.decL a++(l.1++M.decL b):=by simp[M.decL]
theorem Jh (a b:List M.Lay) (l:M.Lay):M.terL (a++l::b)=M.terL a++(l.2++M.terL b):=by simp[M.terL]
theorem j40 (a:k<c.length):M.decL (c.set k ((c.getD k ([],[])).1,ts))=M.decL c:=by
 rw[Zg0 a,Js];conv=>rhs;rw[xA0 a,Js]
theorem terL_setT (a:k<c.length):(M.terL (c.set k ((c.getD k ([],[])).1,(c.getD k ([],[])).2++[t]))).length=(M.terL c).length+1:=by
 rw[Zg0 a,Jh];have:=congrArg (λc=>(M.terL c).length) (xA0 a);simp only[Jh,Q1,gD] at this⊢;omega
theorem Jh0 (a:k<c.length):M.terL (c.set k (ds,(c.getD k ([],[])).2))=M.terL c:=by
 rw[Zg0 a,Jh];conv=>rhs;rw[xA0 a,Jh]
theorem decL_setD (a:k<c.length):(M.decL (c.set k ((c.getD k ([],[])).1++[d],(c.getD k ([],[])).2))).length=(M.decL c).length+1/\∀e,e∈M.decL (c.set k ((c.getD k ([],[])).1++[d],(c.getD k ([],[])).2))->e∈M.decL c\/e=d:=by
 rw[Zg0 a,Js];have q:=congrArg (λc=>(M.decL c).length) (xA0 a);refine⟨?_,λe he=>?_⟩
 ·simp only[Js,Q1,gD] at q⊢;omega
 ·rw[xA0 a,Js];simp only[gk,gn] at he⊢;rcases he with h|(h|h)|h
  ·exact .inl (.inl h)
  ·exact .inl (.inr (.inl h))
  ·exact .inr h
  ·exact .inl (.inr (.inr h))
theorem WG0 (b:ds.length<=5) (h:∀d,d∈ds->1<=d.2/\d.2<=4/\d.1.size<=1):Dok ds:=⟨b,λi a=>h _ (M.getD_mem a _)⟩
theorem Wt0 (h:Dok ds):∀d,d∈ds->1<=d.2/\d.2<=4/\d.1.size<=1:=λd b=>by
 obtain⟨i,a,rfl⟩:=gq b;have:=h.2 i a;rwa[k6,K3 a] at this
def QG0 (c:List M.Lay):Prop:=CtxB c/\Dok (M.decL c)
theorem l10Bent_spec (h:RdR F w b v xs p) (hF:∀x,F x->x<w.heap.size) (hc:LaysR D w cv c) (S:VW0 c) (hp:p+100<1099511627776)
  (hK:∀w' p' Q c',Same (· =b) w w'->RdR F w' b v xs p'->p'<=p+2->LaysR (λx=>w.heap.size<=x) w' Q c'->QG0 c'->K Q w'):vcall P J3 #[.pointer (some ⟨b,0,none⟩),cv] w K:=by
 apply k80;have lb:=h.blk.lt;have A:=ctxB_of S.1;obtain⟨V,b0⟩:=dokL_dok S;have ao:=ctx_ne S.1;have ay:0<c.length:=gG.2 ao;have b1:=(M.ctx_iff.1 S.1).2.1;have b2:=(M.ctx_iff.1 S.1).2.2.2.1;refine l10Copy_spec hc A (US S.1) λw1 lv tag css a7 h1=>?_;have z1:=a7.size;rw[h1.lays.len Z80];refine pick_spec (h.ext a7) (by omega) (by omega) λw3 k ab b3 ai f _=>?_;have f:k<c.length:=by have:=f (by omega);omega
 have h3:=h1.same ab λx r=>by omega
 have s3:Same (· =b) w w3:=(Same.of_ext a7).trans ab;have tl:∀{j:Nat},(c.getD k ([],[])).2.length<=8:=by
  have:=congrArg (λc=>(M.terL c).length) (xA0 f);simp only[Jh,Q1] at this;omega
 refine zS (λu w'=> ∃Q c' p',u=[Q]/\Same (· =b) w w'/\RdR F w' b v xs p'/\p'<=p+2/\LaysR (λx=>w.heap.size<=x) w' Q c'/\QG0 c') (λJ hJ=>?_) ?_
 ·refine pick_spec ai (by omega) (by omega) λw4 m ac b4 R _ _=>?_;have h4:=h3.same ac λx r=>(by omega);have s4:=s3.trans ac;have a4:QG0 c:=⟨A,V⟩;have termed:∀{N:World} {s:Nat->Nat} {o:List (Value×Value)} {t:M.Tm},Same (λx=>w.heap.size<=x) w4 N->LayO w.heap.size s N lv (c.set k ((c.getD k ([],[])).1,(c.getD k ([],[])).2++[t])) o->J [lv] N:=λ{N s o t} n y=>
   hJ _ _ ⟨lv,_,_,rfl,same_news s4 n,R.same n (by omega) (λx r _ e=>by have:=hF x r;omega),by omega,y.lays,
    ⟨by rw[gH];exact A.len,by rw[j40 f];exact A.dec,by rw[terL_setT f];omega⟩,by rw[j40 f];exact V⟩
  rw[JU];refine zh (λ_=>?_) (λ_=>?_)
  ·refine qB qE qW λb5 N a3 l au a9=>?_;exact hK N _ _ [] (s4.trans (Same.of_ext l)) (R.ext l) (by omega) LaysR.nilB ⟨⟨by simp,by simp[M.decL],by simp[M.terL]⟩,⟨by simp[M.decL],λi hi=>by simp[M.decL] at hi⟩⟩
  rw[JU];refine zh (λ_=>?_) (λ_=>?_)
  ·refine vloop_up (7-c.length) (λi u w'=> ∃Z s o,u=[Z]/\Same (λx=>w.heap.size<=x) w4 w'/\LayO w.heap.size s w' Z (c++List.replicate i ([],[])) o) ⟨lv,tag,css,rfl,Same.refl _ _,by simpa using h4⟩ ?_;rintro i _ _ N C hi ⟨Z,s,o,rfl,n,y⟩ hC;have z5:=n.size;have O:(c++List.replicate i (([],[]):M.Lay)).length=c.length+i:=(by simp);simp(disch:=(simp only[push_cast])) only[push_cast,y.lays.len,O];refine zh (λa=>?_) (λa=>?_)
   ·refine LayO.push (H:=λ_=>False) (ds:=[]) (ts:=[]) y (by omega) (Same.refl _ _) (Own.nil P 0 2 _ N) (λx r=>(by cases r)) LstH.nil (λx r=>r.elim) (λx r=>(by cases r)) (by omega) λY av L W z=>?_;rw[Gb,<-List.replicate_succ'] at z;exact hC (by omega) _ _ ⟨av,L,_,rfl,n.trans W,z⟩
   ·have ed:M.decL (c++List.replicate i ([],[]))=M.decL c:=by rw[M.decL_app];simp[M.decL]
    have et:M.terL (c++List.replicate i ([],[]))=M.terL c:=by rw[M.terL_app];simp[M.terL]
    exact hJ _ _ ⟨Z,_,_,rfl,same_news s4 (n.mono λx _ r=>by omega),R.same n (by omega) (λx r _ e=>by have:=hF x r;omega),by omega,y.lays,⟨by rw[O];omega,by rw[ed];exact A.dec,by rw[et];exact A.ter⟩,by rw[ed];exact V⟩
  rw[JU];refine zh (λ_=>?_) (λ_=>?_)
  ·simp(disch:=first|(simp only[push_cast])|exact f) only[push_cast,h4.ia,h4.ldD];refine xQ Zt Yk jR rfl rfl (by decide) λb5 N a3 l au a9=>?_;have y:=h4.ext l;have z5:=l.size;have dl:(c.getD k ([],[])).1.length<=4:=by
    have:=congrArg (λc=>(M.decL c).length) (xA0 f);simp only[Js,Q1] at this;omega
   refine OwnD.app (es:=[(⟨#[120]⟩,2)]) (y.dec _ f) (a9.sl1k rfl) (by simp only[gD];omega) λY az W an a6=>?_
   try simp only[push_cast]
   refine LayO.setD y f (by omega) W a6 an λw7 a1 X I=>?_;have a0:Same (λx=>w.heap.size<=x) w4 w7:=(Same.of_ext l).trans X;obtain⟨q1,q2⟩:=decL_setD (d:=(⟨#[120]⟩,2)) f;refine hJ _ _ ⟨lv,_,_,rfl,same_news s4 a0,R.same a0 (by omega) (λx r _ e=>by have:=hF x r;omega),by omega,I.lays,⟨by rw[gH];exact A.len,by rw[q1];omega,by rw[Jh0 f];exact A.ter⟩,WG0 (by rw[q1];omega) λd hd=>?_⟩;rcases q2 d hd with q|q
   ·exact Wt0 V d q
   ·rw[q];exact⟨by decide,by decide,by decide⟩
  rw[JU];refine zh (λ_=>?_) (λ_=>?_)
  ·refine zr λN l _=>?_;have y:=h4.ext l;have z5:=l.size;rw[y.ia yH f];refine⟨rfl,?_⟩;rw[yz];refine⟨rfl,?_⟩;rw[y.ldT yI f];refine⟨rfl,?_⟩;rw[Ki0];refine⟨rfl,?_⟩;rw[(y.ter _ f).tms.len xo];refine⟨rfl,?_,trivial⟩;refine xQ xd xn zH rfl rfl (by decide) λb6 Y ak g ae U=>?_;have z:=y.ext g;rw[(z.ter _ f).tms.len xo,Ki0,z.ldT yI f,yz,z.ia yH f];refine⟨⟨rfl,rfl⟩,⟨rfl,rfl⟩,⟨rfl,rfl⟩,⟨rfl,rfl⟩,⟨rfl,rfl⟩,?_,trivial⟩;exact LayO.appT (G:=λ_=>False) y f (by omega) g U (UP 21 0 0 ⟨#[120]⟩) (λx r=>r.elim) (by have:=tl (j:=0);omega) rfl λw7 a1 ax X I=>termed ((Same.of_ext l).trans X) I
  rw[JU];refine zh (λ_=>?_) (λ_=>?_)
  ·refine zr λN l _=>?_;have y:=h4.ext l;have z5:=l.size;rw[y.ia yH f];refine⟨rfl,?_⟩;rw[yz];refine⟨rfl,?_⟩;rw[y.ldT yI f];refine⟨rfl,?_⟩;rw[Ki0];refine⟨rfl,?_⟩;rw[Ki0];refine⟨rfl,?_⟩;rw[(y.ter _ f).tms.len xo];have done:∀{Y:World} {b7:Nat} {a:Option Addr},Ext N Y->Blk Y b7 yH0 za->TmsR (λx=>N.heap.size<=x) Y (.slice a 2 2) [.mk 21 0 0 ⟨#[119]⟩ [],.mk 21 0 0 ⟨#[119]⟩ []]->_:=λ{Y b7 a} g U a8=>LayO.appT (J:=λw=>J [lv] w) (len:=(c.getD k ([],[])).2.length) (G:=λx=>N.heap.size<=x) y f (by omega) g U (TmR.of (t:= .mk 15 0 0 ⟨#[]⟩ [.mk 21 0 0 ⟨#[119]⟩ [],.mk 21 0 0 ⟨#[119]⟩ []]) a8) (λx r _=>r) (by have:=tl (j:=0);omega) rfl λw7 a1 ax X I=>termed ((Same.of_ext l).trans X) I;refine⟨rfl,?_,?_,trivial⟩
   ·refine kids2 (G:=λ_=>False) (UP 21 0 0 ⟨#[119]⟩).term (UP 21 0 0 ⟨#[119]⟩).term λY a g ae a8=>?_;have z:=y.ext g;rw[(z.ter _ f).tms.len xo,z.ldT yI f,yz,z.ia yH f];refine⟨⟨rfl,rfl⟩,⟨rfl,rfl⟩,⟨rfl,rfl⟩,⟨rfl,rfl⟩,?_⟩;rw[WP0];refine⟨rfl,?_,trivial⟩;refine xQ xd xn zH rfl rfl (by decide) λb7 w7 al B af a2=>?_;have I:=z.ext B;rw[WP0,(I.ter _ f).tms.len xo,I.ldT yI f,yz,I.ia yH f];refine⟨⟨rfl,rfl⟩,⟨rfl,rfl⟩,⟨rfl,rfl⟩,⟨rfl,rfl⟩,⟨rfl,rfl⟩,?_,trivial⟩;exact done (g.trans B) a2 ((a8.ext B).weaken λx r _=>r.elim (λq=>q.elim) λq=>by omega)
   ·refine xQ xd xn zH rfl rfl (by decide) λb6 Y ak g ae U=>?_;have z:=y.ext g;rw[(z.ter _ f).tms.len xo,Ki0,z.ldT yI f,yz,z.ia yH f];refine⟨⟨rfl,rfl⟩,⟨rfl,rfl⟩,⟨rfl,rfl⟩,⟨rfl,rfl⟩,⟨rfl,rfl⟩,⟨rfl,rfl⟩,?_,trivial⟩;refine kids2 (G:=λ_=>False) (UP 21 0 0 ⟨#[119]⟩).term (UP 21 0 0 ⟨#[119]⟩).term λw7 a B af am=>?_;have I:=z.ext B;rw[(I.ter _ f).tms.len xo,I.ldT yI f,yz,I.ia yH f];refine⟨⟨rfl,rfl⟩,⟨rfl,rfl⟩,⟨rfl,rfl⟩,⟨rfl,rfl⟩,?_⟩;rw[WP0];refine⟨rfl,?_,trivial⟩;exact done (g.trans B) (U.ext B) (am.weaken λx r _=>r.elim (λq=>q.elim) λq=>by have:=g.size;omega)
  rw[JU];refine zh (λ_=>?_) (λ_=>?_)
  ·refine vloop_up 8 (λi u w'=> ∃c5 s o,u=[.int .i64 i]/\Same (λx=>w.heap.size<=x) w4 w'/\LayO w.heap.size s w' lv c5 o/\c5.length=c.length/\M.decL c5=M.decL c/\(M.terL c5).length=(M.terL c).length+i) ⟨c,tag,css,rfl,Same.refl _ _,h4,rfl,rfl,rfl⟩ ?_;rintro i _ _ N C hi ⟨c5,s,o,rfl,n,y,O,a5,ad⟩ hC;have z5:=n.size;have E:k<c5.length:=(by omega);rw[sl0,kZ0];refine zh (λa=>?_) (λa=>?_)
   ·refine zS (λu w'=> ∃c6 L T,u=[]/\Same (λx=>w.heap.size<=x) w4 w'/\LayO w.heap.size L w' lv c6 T/\c6.length=c.length/\M.decL c6=M.decL c/\(M.terL c6).length=(M.terL c).length+(i+1)) (λJ1 ah=>?_) ?_
    ·refine zr λY g _=>?_;have z:=y.ext g;have z6:=g.size;have aw:(c5.getD k ([],[])).2.length<=1000:=by
      have:=congrArg (λc=>(M.terL c).length) (xA0 E);simp only[Jh,Q1] at this;omega
     rw[z.ia yH E];refine⟨rfl,?_⟩;rw[yz];refine⟨rfl,?_⟩;rw[z.ldT yI E];refine⟨rfl,?_⟩;rw[UE0];refine⟨rfl,?_⟩;rw[(z.ter _ E).tms.len xo];refine⟨rfl,?_,trivial⟩;refine xQ xd xn zH rfl rfl (by decide) λb7 w7 al B af a2=>?_;have I:=z.ext B;rw[(I.ter _ E).tms.len xo,UE0,I.ldT yI E,yz,I.ia yH E];refine⟨⟨rfl,rfl⟩,⟨rfl,rfl⟩,⟨rfl,rfl⟩,⟨rfl,rfl⟩,⟨rfl,rfl⟩,?_,trivial⟩;exact LayO.appT (G:=λ_=>False) z E (by omega) B a2 (UP 24 0 0 ⟨#[]⟩) (λx r=>r.elim) aw rfl λw8 ag b8 aq h8=>
      ah _ _ ⟨_,ag,_,rfl,(n.trans (Same.of_ext g)).trans aq,h8,by rw[gH];exact O,by rw[j40 E];exact a5,by rw[terL_setT E,ad];omega⟩
    ·rintro _ _ Y ⟨c6,L,T,rfl,W,z,aa,a6,ar⟩;simp only[push_cast];rw[inc64' (by omega)];exact hC (by omega) _ _ ⟨c6,L,T,rfl,W,z,aa,a6,ar⟩
   ·exact hJ _ _ ⟨lv,c5,_,rfl,same_news s4 n,R.same n (by omega) (λx r _ e=>by have:=hF x r;omega),by omega,y.lays,⟨by rw[O];exact A.len,by rw[a5];exact A.dec,by rw[ad];omega⟩,by rw[a5];exact V⟩
  ·exact hJ _ _ ⟨lv,c,_,rfl,s4,R,by omega,h4.lays,a4⟩
 ·rintro _ _ N ⟨Q,c',p',rfl,n,aj,ap,O,a3⟩;exact hK _ _ _ _ n aj ap O a3
end
section
variable {w w' w1 w2:World} {K:Value->World->Prop} {F F' D G H S:Nat->Prop} {n b k p:Nat} {v cv tv dv f:Value} {xs:List Nat} {t:M.Tm} {d:M.Dcl} {c c' x:List M.Lay}
theorem l10Some_spec (h:RdR F w b v xs p) (hF:∀x,F x->x<w.heap.size) (t:p+5000000<1099511627776)
  (q:∀w' n a c',Same (· =b) w w'->RdR F w' b v xs n->n<=p+3000002->LaysR (λx=>w.heap.size<=x) w' a c'->QG0 c'->K a w'):vcall P Yx #[.pointer (some ⟨b,0,none⟩)] w K:=by
 apply k60;refine l10Ctx_spec h hF (by omega) λw1 p1 o c1 c e r j i=>?_;have u:=c.size;refine l10Bent_spec e (λx m=>by have:=hF x m;omega) j i (by omega) λw2 p2 d c2 l f s k g=>?_;exact q w2 p2 d c2 (c.trans l) f (by omega) (k.weaken λx m _=>by omega) g
theorem DrawCtxPush_spec (a:Bytes F w v xs) (k:∀w' cv c,Ext w w'->LaysR (λx=>w.heap.size<=x) w' cv c->QG0 c->K cv w'):vcall P ZE #[v] w K:=by
 apply zI0;refine l12Open_spec (F:=λx=>F x/\x<w.heap.size) ⟨a.1.weaken λx a n=>⟨a,n⟩,a.2⟩ (λx a=>a.2) λw2 b v' ys d e m=>?_;have z2:=d.size;refine l10Some_spec (p:=0) (F:=λx=>(F x/\x<w.heap.size)) e (λx a=>by have:=a.2;omega) (by omega) λi r cv c h l o g f=>?_;have j:Same (λx=>w.heap.size<=x) w i:=(Same.of_ext d).trans (h.mono λx _ a=>by subst a;omega);exact k i cv c (j.mono λx a q=>by omega) (g.weaken λx a _=>by omega) f
theorem DrawCtxAssert_spec (a:Bytes F w v xs) (Y:∀w' cv c tv t,Ext w w'->LaysR (λx=>w.heap.size<=x) w' cv c->QG0 c->TermR (λx=>w.heap.size<=x) w' tv t->K (.tuple #[cv,tv]) w'):vcall P kO #[v] w K:=by
 apply WN;refine zD zH λb1 w1 a0 j a8 C=>?_;have z1:=j.size;refine l12Open_spec (F:=λx=>F x/\x<w.heap.size) ⟨(a.1.weaken λx a s=>⟨a,s⟩).ext j,a.2⟩ (λx a=>by have:=a.2;omega) λw2 b v' ys k q a1=>?_;have z2:=k.size;have g:∀x,(F x/\x<w.heap.size)->x<w2.heap.size:=λx a=>by have:=a.2;omega
 refine l10Some_spec (p:=0) q g (by omega) λU p3 cv c z E a5 u i=>?_;have z3:=z.size;have lb:=q.blk.lt;refine l10Decls_spec u i.1 λw4 dv f I=>?_;have z4:=f.size;have N:=u.ext f;refine ints_lit (ns:=[0,0,0,0,2]) (by decide) λb5 w5 a2 d M=>?_;have z5:=d.size;have J:=I.ext d;refine num_spec ((E.ext f).ext d) M (by simp) (by decide) (by omega) (λx a e=>by subst a;omega) λw6 m l a9 G hm=>?_;have y:0<=m/\m<=4:=by
  simp only[gd,gw,or_false] at hm;omega
 have L:=(J.weaken (F':=λx=>U.heap.size<=x/\x<w5.heap.size) λx a s=>⟨a,s⟩).same l λx a _ e=>by omega
 have O:=(N.ext d).same l λx a _ e=>by omega
 refine l8Some_spec G (λx a=>by have:=g x a;omega) L (λx a e=>by omega) (λx a=>by omega) i.2 y.1 y.2 (by omega) λw7 p7 tv t n H a6 R a3=>?_;have z7:=n.size;refine l2Bent_spec H (λx a=>by have:=g x a;omega) (R.weaken (F':=λx=>w6.heap.size<=x/\x<w7.heap.size) λx a s=>⟨a,s⟩) (λx a e=>by omega) (λx a=>a.2) (by omega) (by omega) λw8 p8 ab t8 o Z a7 S a4=>?_;have z8:=o.size;obtain⟨W,rfl,r⟩:=S.cells;have B:Same (· =b) w2 w8:=(((z.trans (Same.of_ext (f.trans d))).trans l).trans n).trans o;have D:=(C.ext k).same B (by omega);have Q:=(O.same n λx a _ e=>by omega).same o λx a _ e=>by omega
 refine ZB D rfl (r.weaken (F':=λx=>U.heap.size<=x) λx a _=>by rcases a with h|h<;>omega) (λx a e=>by omega) λV A aa T=>?_;have X:Same (λx=>w.heap.size<=x) w V:=((Same.of_ext (j.trans k)).trans (B.mono λx _ a=>by subst a;omega)).trans (A.mono λx _ a=>by subst a;omega);exact Y V cv c _ t8 (X.mono λx a hh=>by omega) ((Q.same A λx a _ e=>by omega).weaken λx a _=>by omega) i (T.weaken λx a _=>by omega)
end
section
variable {w w' w1 w2:World} {K:Value->World->Prop} {F F' D G H S:Nat->Prop} {n b k p:Nat} {v v' cv tv dv ev xv f:Value} {xs ys:List Nat} {t:M.Tm} {d:M.Dcl} {c x:List M.Lay} {ar ab at_ an am:Addr}
def ctxR (c:List M.Lay):List Int×Int:=if M.ctxOk c=true then Ku (M.decL c) (M.terL c) [] else([],4)
theorem yE0 (q:LaysR F w v c) (g:CtxB c) (er:Er w at_ an am ar ab) (o:∀w' ev,Ext w w'->Ints (λ_=>True) w' ev (ctxR c).1->K (.tuple #[ev,.int .i64 (ctxR c).2]) w'):vcall P ZU #[v] w K:=by
 apply js0;refine flat_spec q g λw1 b dv tv mv h n=>?_;refine ok_spec n g λw2 d=>?_;have l:=h.trans d;simp only[push_cast];refine zK (λa=>?_) (λa=>?_)
 ·have:=o w2 (.slice none 0 0) l;have p: ¬M.ctxOk c=true:=(by simpa using a);unfold ctxR at this;rw[if_neg p] at this;exact this (OwnI.nil (P:=P) (t:=zt)|>.ints.weaken λx _ _=>trivial)
 ·have k:M.ctxOk c=true:=(by simpa using a);refine zr λs e _=>?_;have m:=l.trans e;have f:=(n.ext d).ext e;simp(disch:=(simp only[push_cast])) only[push_cast,f.blk.ld0,f.blk.ld1,true_and];apply YY0;refine solved_spec f.dec.dcls f.ter.tms g.ter (er.ext m) λr ev i j=>?_
  try simp only[push_cast,true_and]
  have:=o r ev (m.trans i);unfold ctxR at this;rw[if_pos k] at this;exact this j
def Over (c x:List M.Lay):Prop:=M.ctxOk x=true/\x.length=c.length+1/\x.take c.length=c
theorem Over.set {l:M.Lay} (h:Over c x):Over c (chg x (x.set (x.length-1) l)).1:=by
 rw[U8 h.1];by_cases a:M.ctxOk (x.set (x.length-1) l)=true
 ·rw[if_pos a];refine⟨a,by rw[gH];exact h.2.1,?_⟩;rw[List.take_set_of_le (by have:=h.2.1;omega)];exact h.2.2
 ·rw[if_neg a];exact h
theorem FnCtxBack_spec (hx:Bytes F w v xs) (hy:Bytes F' w v' ys) (er:Er w at_ an am ar ab) (hK:∀w',Ext w w'->K (.bool true) w'):vcall P Kw #[v,v'] w K:=by
 apply q40;refine zS (λu w'=>u=[]/\w'=w/\ys.length<=1048576) (λC hC=>?_) ?_
 ·simp(disch:=(simp only[push_cast])) only[push_cast,hx.len,hy.len];refine zh (λ_=>hK w (Same.refl _ _)) (λ_=>?_);exact zh (λ_=>hK w (Same.refl _ _)) (λ_=>hC _ _ ⟨rfl,rfl,by omega⟩)
 rintro _ _ _ ⟨rfl,rfl,ax⟩;rename_i w;refine DrawCtxPush_spec hx λw1 cv c a1 H hb=>?_;have ap:=Bytes.ext hy a1;refine DrawCtxAssert_spec ap λw2 _ _ tv t ah _ _ aj=>?_;simp only[push_cast];obtain⟨cs,rfl,I⟩:=aj.cells;have hg:aggB P za cs.length=true:=by rw[yq I];exact zp
 refine zD zH λb3 w3 b1 a3 b4 af=>?_;refine stTerm af rfl (I.ext a3) λw4 al b5 ag=>?_;have X:Ext w2 w4:=Ext.then a3 al λy hy=>by omega
 have D:=ah.trans X;have e4:=a1.trans D;have Z:=H.ext D;have ak:=I.ext X;have ai:=dok_sized hb.2;refine CtxPush_spec Z hb.1 λw5 xv s ao=>?_;simp only[push_cast];have e5:=e4.trans s;refine spec_CtxPush_spec (Z.ext s) hb.1 ai λw6 yv x aa=>?_;have e6:=e5.trans x;have L:=ao.ext x;simp only[push_cast];refine zS (λu w'=>u=[]/\Ext w6 w'/\(chg c (c++[([],[])])).2=true) (λJ hJ=>?_) ?_
 ·have fin:∀{Q:World},Ext w6 Q->vif (.bool ((chg c (c++[([],[])])).2==(chg c (c++[([],[])])).2)) (vcall P qG #[xv,yv] Q λt68 ac=>K t68 ac) (K (.bool false) Q):=λ{Q} b=>by
   refine zK (λ_=>?_) (λh=>by simp at h);refine CtxSame_spec (L.ext b) (aa.ext b) λw8 n=>?_;rw[decide_eq_true rfl];exact hK w8 ((e6.trans b).trans n)
  refine zK (λh=>by simp at h) (λ_=>?_);refine CtxSame_spec L aa λQ b=>?_;simp only[push_cast];refine zK (λh=>by simp at h) (λ_=>?_);refine zK (λ_=>fin b) (λh=>hJ _ _ ⟨rfl,b,by simpa using h⟩)
 rintro _ _ Q ⟨rfl,b,g⟩;have e7:=e6.trans b;have p:M.ctxOk c=true:=by
  refine GU λh=>?_;rw[YL0 h] at g;cases g
 have q:M.ctxOk (c++[([],[])])=true:=by rw[U8 p] at g;exact g
 have N:=L.ext b;rw[U8 p] at N;simp only[if_pos q] at N;have au:Over c (c++[([],[])]):=⟨q,by simp,by simp⟩;have aq:=Bytes.ext hy e7;simp(disch:=(simp only[push_cast])) only[push_cast,aq.len];rw[We (by decide)];simp only[push_cast];generalize IntKind.i64.wrap (1+(ys.length:Int).tmod 4)=m;refine CtxName_spec (d:=(⟨#[110,101,119]⟩,m)) N (ctxB_of q) λw8 v8 n a8=>?_;have r:=au.set (l:=(((c++[([],[])]).getD ((c++[([],[])]).length-1) ([],[])).1++[(⟨#[110,101,119]⟩,m)],((c++[([],[])]).getD ((c++[([],[])]).length-1) ([],[])).2));replace r:Over c (chg (c++[([],[])]) (M.addD (c++[([],[])]) (⟨#[110,101,119]⟩,m))).1:=r;generalize (chg (c++[([],[])]) (M.addD (c++[([],[])]) (⟨#[110,101,119]⟩,m))).1=R at a8 r;generalize (chg (c++[([],[])]) (M.addD (c++[([],[])]) (⟨#[110,101,119]⟩,m))).2=q1;simp only[push_cast];have e8:=e7.trans n;have Y:Ext w4 w8:=((s.trans x).trans b).trans n;rw[(ag.ext Y).ldAgg hg];refine CtxAssert_spec a8 (ak.ext Y).term (ctxB_of r.1) λw9 v9 a4 a9=>?_;have O:Over c (chg R (M.addT R t)).1:=r.set;generalize (chg R (M.addT R t)).1=S at a9 O;generalize (chg R (M.addT R t)).2=q2;simp only[push_cast];have e9:=e8.trans a4;refine Xq0 (G:=λ_=>False) (UP 24 0 0 ⟨#[]⟩).term λb6 a j ay a7=>?_;simp only[push_cast];have ad:=e9.trans j;refine CtxAssert_spec (a9.ext j) (TmR.of (t:= .mk 25 0 0 ⟨#[]⟩ [.mk 24 0 0 ⟨#[]⟩ []]) a7).term (ctxB_of O.1) λb7 v11 z B=>?_;have i:Over c (chg S (M.addT S (.mk 25 0 0 ⟨#[]⟩ [.mk 24 0 0 ⟨#[]⟩ []]))).1:=O.set;generalize (chg S (M.addT S (.mk 25 0 0 ⟨#[]⟩ [.mk 24 0 0 ⟨#[]⟩ []]))).1=x3 at B i;generalize (chg S (M.addT S (.mk 25 0 0 ⟨#[]⟩ [.mk 24 0 0 ⟨#[]⟩ []]))).2=q3;simp only[push_cast];have ae:=ad.trans z;have b2:1<=c.length:=(M.ctx_iff.1 p).1;refine CtxPop_spec B (ctxB_of i.1) (by have:=i.2.1;omega) λav v12 A o=>?_;have E:chg x3 (x3.take (x3.length-1))=(c,true):=by
  rw[show x3.length-1=c.length by have:=i.2.1;omega,i.2.2,U8 i.1,if_pos p,p]
 rw[E] at o⊢;simp only[push_cast];have T:=ae.trans A;have W:Ext w1 av:=(((((D.trans s).trans x).trans b).trans n).trans a4).trans ((j.trans z).trans A);have a0:=hb.1;refine yE0 (H.ext W) a0 (er.ext T) λb8 az e a5=>?_;simp only[push_cast];have U:=T.trans e;refine yE0 (o.ext e) a0 (er.ext U) λb9 b0 f a6=>?_;simp only[push_cast];have V:=U.trans f;refine CtxSame_spec ((o.ext e).ext f) ((H.ext W).ext (e.trans f)) λba k=>?_;refine zh (λ_=>?_) (λh=>absurd rfl h);refine zh (λ_=>?_) (λh=>absurd trivial h);refine wpInts_spec (a5.ext (f.trans k)) (a6.ext k) λaw a2=>?_;rw[decide_eq_true rfl];exact hK aw (V.trans (k.trans a2))
end
end Go.Proofs.YtokflbdfnbppjaaGreatDoor
section
namespace Go.Proofs.YtokflbdfnbppjaaGreatDoor
open Go Go.Vc Go.Proofs
open Go.ChangeShapes Go.WideShapes Go.ChangeAt Go.RowKit
theorem Wo0:ownKnob P.godebug=none:=by kernel_rfl
theorem K2:laidOutB P=true:=by kernel_rfl
def restFacts (P:Program) (f:FuncId) (fn:Func) (s:ChangeSpec) (c:OpenClaim):Bool:=
 c.wf (OpenSpec.ofChange s)&&
 fn.params.all (P.readableRec ·)&&namedTie P c.named s.vars&&
 (c.stops==[])&&(P.stops==[])&&(c.knobs==[])&&(P.stopKnobs==[])&&
 (c.maps==(fn.params.toList++s.plain.varTypes P).any (P.mapsRec ·))&&(c.ifaces==(fn.params.toList++s.plain.varTypes P).any (P.ifacesRec ·))&&(c.mapsOut==P.mapsAmong fn.resultTypes.toList)&&
 (c.loops==(fn.params.toList++s.plain.varTypes P).any (P.loopsFrom ·))&&(c.wideKeys==(fn.params.toList++s.plain.varTypes P++fn.resultTypes.toList).any (P.wideKeysFrom ·))&&
 s.vars.all (P.varReadable ·)&&fn.resultTypes.all (λt=>P.readableRec t&&decide (t<P.types.size))&&(c.ifacesOut==fn.resultTypes.toList.any (P.ifacesRec ·))&&(c.loopsOut==fn.resultTypes.toList.any (P.loopsFrom ·))&&(c.plainKeys==P.plainKeys)&&c.shortTexts.isNone&&P.stopsHeard&&P.mayEnter&&(c.lifted==P.liftsFinal)&&(P.make==some c.make)&&(c.kinds==(if c.domain.isEmpty then[] else fn.params.toList.map λt=>match P.underlying t with|some (.int k)=>some k|_=>none))&&(c.pinned==c.pinnedBy)&&
 (c.veiled==(fn.params.toList++s.plain.varTypes P++fn.resultTypes.toList).any (P.veiledRec ·))&&c.veiledFits P fn.params.toList (fn.params.toList++s.plain.varTypes P++fn.resultTypes.toList)
theorem JK0 {P:Program} {f:FuncId} {fn:Func} {s:ChangeSpec} {c:OpenClaim} (b:laidOutB P=true) (d:mapsRowed P=true) (e:(c.inPlace==P.inPlace f)=true) (g:(c.unfollowed==P.unfollowed f)=true)
  (h:(c.recurses==P.recurses f)=true) (i:(c.named==P.varsNamed f)=true) (a:restFacts P f fn s c=true):joinedFacts P f fn s c=true:=by
 unfold restFacts at a;unfold joinedFacts;rw[b,d,e,g,h,i];simp only[Pw];exact a
theorem V50:mapsRowed P=true:=by kernel_rfl
theorem K30 {w w':World} (h:Ext w w'):Below w.heap.size w w':=⟨h.os,h.tape,h.output,h.size,λk a=>h.block k a id⟩
theorem u8_wf {n:Int} (h:(Lit.int .u8 n).wf=true):0<=n/\n<256:=by
 simp only[Lit.wf,V0,decide_eq_true_eq] at h;have a:IntKind.u8.min=0:=by decide
 have b:IntKind.u8.max=255:=by decide
 omega
def kT0 (w:World) (v:Value) (xs:List Nat):Prop:=Vals (λ_=>True) w v (xs.map λx=>Value.int .u8 (x:Nat))/\∀x,x∈xs->x<256
theorem YZ0 (w:World):kT0 w (.slice none 0 0) []:=⟨⟨⟨none,0,rfl,by simp,by simp,λh=>absurd rfl h⟩,by simp⟩,by simp⟩
theorem bytes_of {w:World} {x:Addr} {len cap:Nat} {zs:List Int} (A:len<=cap) (hm:cap<=maxLen) (B:zs.length=cap) (a:∀i,i<zs.length->w.cell? (x.add i)=some (.int .u8 (zs.getD i 0))) (o:∀n,n∈zs->(Lit.int .u8 n).wf=true):
  kT0 w (.slice (some x) len cap) ((zs.take len).map Int.toNat):=by
 have c:∀n,n∈zs.take len->0<=n/\n<256:=λn l=>u8_wf (o n (gZ l));refine⟨⟨⟨some x,cap,?_,?_,by unfold maxLen at hm;exact hm,λm=>?_⟩,λy p=>by obtain⟨u,_,rfl⟩:=gm.1 p;rfl⟩,λy p=>?_⟩
 ·simp only[X0,gi];rw[gJ (by omega)]
 ·simp only[X0,gi];omega
 ·have hlen:0<len:=by
   refine Nat.pos_of_ne_zero λe=>m ?_;subst e;simp
  obtain⟨b,off,spot⟩:=x;have f:=a 0 (by omega);have d:spot=none:=(by simpa[Addr.add] using World.cell?_spot f);subst d;refine⟨b,off,rfl,trivial,World.block_lt_of_cell? w _ f,λi r=>?_⟩;simp only[X0,gi] at r;intro j v h;have hit:i<(zs.take len).length:=by simp only[gi];omega
  have t:((((zs.take len).map Int.toNat).map λx=>Value.int .u8 (x:Nat)).map λx=>[x]).getD i []=[Value.int .u8 (((zs.take len)[i].toNat:Nat):Int)]:=by
   simp[k6,r]
  rw[t] at h;have z:j=0:=by
   cases j with
   |zero=>rfl
   |succ j=>simp at h
  subst z;simp only[PY,gV] at h;subst h;have g:i<zs.length:=(by omega);have q:=a i g;have k:=c _ (Gm hit);have s:zs.getD i 0=(zs.take len)[i]:=(by simp[k6,g]);rw[s,xR] at q;rw[Int.toNat_of_nonneg k.1,xR,pd,pX];exact q
 ·obtain⟨n,l,rfl⟩:=gm.1 p;have:=c n l;omega
end Go.Proofs.YtokflbdfnbppjaaGreatDoor
end
section
namespace Go.Proofs.YtokflbdfnbppjaaGreatDoor
open Go Go.Vc Go.Proofs
open Go.RowKit
theorem laid_at {l:List (String×DataW Unit)} {W:World} (h:laidMet P l W):∀k,laidMet P (l.drop k) W
 |0=>h
 |k+1=>by
  have a:=laid_at h k;rw[<-List.tail_drop];cases b:l.drop k with
  |nil=>rw[b] at a;exact a
  |cons x r=>rw[b] at a;exact a.tail
theorem Ym0: "*" ++ "errors.errorString" = "*errors.errorString" :=by decide
theorem V10 (u:TypeId) (h:P.typeName? 3 u=some "*errors.errorString"):u=qj:=
 typeName_ptr_named (nm:= "errors.errorString") (by rw[Ym0];kernel_rfl) (by kernel_rfl) (by decide) u (by rw[Ym0];exact h)
def ifaceB (P:Program) (t:TypeId):Bool:=match P.underlying t with
 |some (.interface _)=>true
 |_=>false
theorem Vm0 {P:Program} {t:TypeId} (h:ifaceB P t=true):∃ms,P.underlying t=some (.interface ms):=by
 unfold ifaceB at h;split at h
 ·exact⟨_,by assumption⟩
 ·cases h
theorem Qc0:∃ms,P.underlying yg=some (.interface ms):=Vm0 (by kernel_rfl)
def fieldB (P:Program) (t u:TypeId):Bool:=match P.underlying t with
 |some (.struct fs)=>match fs.toList with
  |[f]=>decide (f.type=u)&&decide (f.offset=0)
  |_=>false
 |_=>false
theorem Vt0 {P:Program} {t u:TypeId} (h:fieldB P t u=true):∃f,P.underlying t=some (.struct #[f])/\f.type=u/\f.offset=0:=by
 unfold fieldB at h;split at h
 ·rename_i fs a;split at h
  ·rename_i f b;simp only[V0,decide_eq_true_eq] at h;refine⟨f,?_,h⟩;rw[a];congr 2;exact GK.1 (by simpa using b)
  ·cases h
 ·cases h
theorem V20:P.underlying qj=some (.pointer 380):=by kernel_rfl
theorem Xe0:∃f,P.underlying 380=some (.struct #[f])/\f.type=zT/\f.offset=0:=Vt0 (by kernel_rfl)
theorem Xf0:P.underlying zT=some .string:=by kernel_rfl
theorem WX0:P.cellsOf 380=1/\P.cellsOf zT=1:=⟨by kernel_rfl,by kernel_rfl⟩
theorem vars_len {H:Type} {enc:TypeId×Value->H} {P:Program} {w:World} {sp:Nat->Bool}:∀{ns:List String} {gs:List (DataW H)} {ps:List MemPlace},DataW.TrodVars enc P w sp ns gs ps->gs.length=ns.length
 |[],[],_,_=>rfl
 |[],_::_,_,h=>h.elim
 |_::_,[],_,h=>h.elim
 |_::_,_::_,_,⟨_,_,_,_,_,_,_,_,_,_,hs,_⟩=>by rw[gu,gu,vars_len hs]
theorem vlist5 {α:Type} {l:List α} (h:l.length=5):∃a b c d e,l=[a,b,c,d,e]:=by
 match l,h with
 |[a,b,c,d,e],_=>exact⟨a,b,c,d,e,rfl⟩
end Go.Proofs.YtokflbdfnbppjaaGreatDoor
end
section
namespace Go.Proofs.YtokflbdfnbppjaaGreatDoor
open Go Go.Vc Go.Proofs
open Go.RowKit
theorem zx0 {P:Program} {x y:String×DataW Unit} {r:List (String×DataW Unit)} {w:World} (h:laidMet P (x::y::r) w):laidMet P (x::r) w:=by
 obtain⟨ps,u,j,c⟩:=h;obtain⟨n,d⟩:=x;obtain⟨m,e⟩:=y;obtain⟨g,t,cs,fuel,p,q,o,a2,a3,a4,s,rfl⟩:=u;obtain⟨g2,t2,f,i,p2,l,_,_,_,_,k,rfl⟩:=s;have a:=pI (pT (MemPlace.row ⟨g,0,none⟩ cs.size++p)) (List.sublist_append_right (MemPlace.row ⟨g2,0,none⟩ f.size++p2) l);exact⟨_,⟨g,t,cs,fuel,p,l,o,a2,a3,a4,k,rfl⟩,List.Nodup.sublist a j,λb off hm=>c b off (a.subset hm)⟩
theorem Xt {W:World} {g:Nat} {a c:Addr} (h:Sent W g a) (b:Sent W g c):a=c:=by
 unfold Sent at h b;rw[h] at b
 injection b with b
 injection b with _ b
 injection b with b
 exact gh b
theorem JY {j k:String} {t0 t1:List UInt8} {r:List (String×DataW Unit)} {W:World} {g0 g1:Nat} (h:laidMet P ((j,.iface "*errors.errorString" (.ptr (.agg [.lit (.string t0)])))::(k,.iface "*errors.errorString" (.ptr (.agg [.lit (.string t1)])))::r) W)
  (c:P.globalNamed j=some g0) (g:(P.globals[g0]?).map (·.type)=some yg) (d:P.globalNamed k=some g1) (i:(P.globals[g1]?).map (·.type)=some yg):∃a b,Sent W g0 a/\Sent W g1 b/\a≠b/\RowA W a/\RowA W b:=by
 obtain⟨ms,p⟩:=Qc0;obtain⟨f,m,n,o⟩:=Xe0;obtain⟨a0,l,v,s1,c0,c1,t,u,v0,v1,_,_,_,_,_,_,e,q,s⟩:=laid_sentinels2 h c g d i p V10 V20 m n o Xf0 WX0.1 WX0.2;exact⟨a0,l,by unfold Sent;simpa using World.var?_cell c v0 0,by unfold Sent;simpa using World.var?_cell d v1 0,e,⟨c0,t,q⟩,⟨c1,u,s⟩⟩
theorem er_of {nr nb nt nn nm:String} {tr tb tt tn tm:List UInt8} {r l:List (String×DataW Unit)} {W:World} (h:laidMet P l W) (k:Nat)
  (B:l.drop k=(nr,.iface "*errors.errorString" (.ptr (.agg [.lit (.string tr)])))::(nb,.iface "*errors.errorString" (.ptr (.agg [.lit (.string tb)])))::(nt,.iface "*errors.errorString" (.ptr (.agg [.lit (.string tt)])))::(nn,.iface "*errors.errorString" (.ptr (.agg [.lit (.string tn)])))::(nm,.iface "*errors.errorString" (.ptr (.agg [.lit (.string tm)])))::r)
  (er:P.globalNamed nr=some xy) (eb:P.globalNamed nb=some xz) (et:P.globalNamed nt=some yw) (en:P.globalNamed nn=some km) (em:P.globalNamed nm=some jd)
  (fr:(P.globals[xy]?).map (·.type)=some yg) (fb:(P.globals[xz]?).map (·.type)=some yg) (ft:(P.globals[yw]?).map (·.type)=some yg) (fn:(P.globals[km]?).map (·.type)=some yg) (fm:(P.globals[jd]?).map (·.type)=some yg):
  ∃at_ an am ar ab,Er W at_ an am ar ab:=by
 have a:=laid_at h k;rw[B] at a;obtain⟨ar,ab,sr,sb,_,rr,_⟩:=JY a er fr eb fb;have b:=zx0 a;obtain⟨w,at_,j,st,C,_,rt⟩:=JY b er fr et ft;have q:=zx0 b;obtain⟨x,an,m,sn,D,_,rn⟩:=JY q er fr en fn;obtain⟨y,am,n,sm,E,_,rm⟩:=JY (zx0 q) er fr em fm;have c:=b.tail;obtain⟨z,u,o,g,F,_⟩:=JY c et ft en fn;obtain⟨A,s,p,d,G,_⟩:=JY (zx0 c) et ft em fm;obtain⟨v,t,i,f,n6,_⟩:=JY c.tail en fn em fm;obtain rfl:=Xt j sr;obtain rfl:=Xt m sr;obtain rfl:=Xt n sr;obtain rfl:=Xt o st;obtain rfl:=Xt p st;obtain rfl:=Xt g sn;obtain rfl:=Xt i sn;obtain rfl:=Xt d sm;obtain rfl:=Xt f sm;exact⟨_,_,_,_,ab,st,sn,sm,⟨sr,sb,id,id⟩,rt,rn,rm,rr,λe=>F e.symm,λe=>G e.symm,λe=>n6 e.symm,C,D,E⟩
end Go.Proofs.YtokflbdfnbppjaaGreatDoor
end
