import Derived.Test.YtolbhkcajhlllaaGreatDoorWwaP12
import Derived.OpenVars
import Derived.MakeChecks
import Derived.Stop.LaidErr
import Derived.Stop.LaidTwo
/- A part of the proof. -/
set_option linter.all false
set_option maxRecDepth 9999
set_option maxHeartbeats 2000000
noncomputable section
namespace Go.Proofs.YtolbhkcajhlllaaGreatDoor
open Go Go.Vc Go.Proofs
section
variable {w:World} {K:oK} {F F' D G:Nat->Prop}
theorem eqIntS_same {va vb:Value} {a:List Int} (f:Ints F w va a) (k:Ints F' w vb a) (n:∀w',Ext w w'->K (.bool true) w'):vcall WN #[va,vb] w K:=by
 refine zg {ord:=[oz 6 (oR 9) [(0,[1,4,5,6,7]),(1,[4,5,6,7]),(2,[4,5,6,7]),(3,[4,5,6,7]),(4,[5])]],loops:=[(4,[5])]} Tryz.func12 ?_;have o:=ints_small f;simp only[push_cast,f.len,k.len];refine zb (λh=>absurd rfl h) (λh=>?_);refine vloop_up a.length (λi u w'=>u=[nI i]/\Ext w w') ⟨rfl,Same.refl _ _⟩ ?_;rintro i _ _ w1 C hi ⟨rfl,he⟩ m;have c:=f.ext he;have g:=k.ext he;simp only[push_cast,c.len];refine zb (λl=>?_) (λl=>?_)
 ·refine zd λw2 b _=>?_;have d:=c.ext b;have e:=g.ext b;simp(disch:=first|(simp only[push_cast])|omega) only[push_cast,d.iaddr,d.load,e.iaddr,e.load,true_and];refine zb (λj=>absurd rfl j) (λj=>?_);rw[inc64' oM];exact m oM _ _ ⟨rfl,he.trans b⟩
 ·exact n w1 he
theorem szDecl_spec {s:ByteArray} {n left:Int} (g:0<=left) (h:left<=1048576) (hs:s.size<=9223372036854775807) (c:∀w' r,Ext w w'->(r= -1\/0<=r/\r<=left/\(s.size:Int)<=left)->K (nI r) w'):vcall WL #[.agg ⟨[.string s,nI n]⟩,nI left] w K:=by
 refine zg {} Tryz.func28 ?_;refine zj λb1 w1 d b e f=>?_;simp(disch:=first|(simp only[push_cast])|exact Zt) only[push_cast,f.ld0,Xm];rw[show IntKind.i64.wrap (left-(s.size:Int))=left-s.size from zk oM oM];refine zb (λa=>?_) (λa=>?_)
 ·exact c _ _ b (.inl rfl)
 ·exact c _ _ b (.inr oM)
theorem szDeclS_spec {v:Value} {ds:List M.Dcl} {left:Int} (o:0<=left) (p:left<=1048576) (l:KB ds) (g:DclsR F w v ds) (f:∀w' r,Ext w w'->(r= -1\/0<=r/\r<=left/\(ds.length:Int)<=left)->K (nI r) w'):vcall KY #[v,nI left] w K:=by
 refine zg {loops:=[(5,[1,5])]} Tryz.func6 ?_;have k:=g.small;simp only[push_cast,g.len];rw[show IntKind.i64.wrap (left-(ds.length:Int))=left-ds.length from zk oM oM];refine zb (λa=>f _ _ (Same.refl _ _) (.inl rfl)) (λa=>?_);refine vloop_up ds.length (λi u w'=> ∃r:Int,u=[nI r,nI i]/\Ext w w'/\0<=r/\r<=left) ⟨_,rfl,Same.refl _ _,oM,oM⟩ ?_;rintro i _ _ w1 C hi ⟨r,rfl,he,m,q⟩ h;have b:=g.ext he;simp(disch:=first|(simp only[push_cast])|omega) only[push_cast,b.len];refine zb (λc=>?_) (λc=>?_)
 ·simp(disch:=first|(simp only[push_cast])|omega) only[push_cast,b.iaddr,b.load];refine szDecl_spec m oM (l i oM) λw2 n e j=>?_;simp only[push_cast];refine zb (λd=>f _ _ (he.trans e) (.inl rfl)) (λd=>?_);rw[inc64' oM];exact h oM _ _ ⟨n,rfl,he.trans e,oM,oM⟩
 ·exact f _ _ he (.inr oM)
abbrev SzT (t:M.Tm):Prop:=∀{w:World} {K:oK} {F:Nat->Prop} {v:Value} {left:Int},TermR F w v t->Qe t=true->0<=left->left<=1048576->(∀w' r,Ext w w'->(r= -1\/0<=r/\r+M.sizeM t<=left+1/\xs0 t=true)->K (nI r) w')->vcall WK #[v,nI left] w K
theorem szTermS_of {ks:List M.Tm} (B:∀k,k∈ks->SzT k) {v:Value} {left:Int} (l:TmsR F w v ks) (hs:∀k,k∈ks->Qe k=true) (E:0<=left) (G:left<=1048576)
  (n:∀w' r,Ext w w'->(r= -1\/0<=r/\r+M.szT ks ks.length<=left/\(ks.length:Int)<=left/\∀k,k∈ks->xs0 k=true)->K (nI r) w'):vcall KX #[v,nI left] w K:=by
 refine zg {loops:=[(5,[1,5])]} Tryz.func7 ?_;have y:=l.small;simp only[push_cast,l.len];rw[show IntKind.i64.wrap (left-(ks.length:Int))=left-ks.length from zk oM oM];refine zb (λa=>n _ _ (Same.refl _ _) (.inl rfl)) (λa=>?_);refine vloop_up ks.length (λi u w'=> ∃r:Int,u=[nI r,nI i]/\Ext w w'/\0<=r/\r+M.szT ks i<=left-ks.length+i/\∀j,j<i->xs0 (ks.getD j default)=true) ⟨_,rfl,Same.refl _ _,oM,by show _+((0:Nat):Int)<=_;omega,λj m=>absurd m oM⟩ ?_;rintro i _ _ w1 C hi ⟨r,rfl,he,s,H,q⟩ t;have f:=l.ext he;simp(disch:=first|(simp only[push_cast])|omega) only[push_cast,f.len];refine zb (λc=>?_) (λc=>?_)
 ·have b:ks.getD i default∈ks:=M.getD_mem oM _;simp(disch:=first|(simp only[push_cast])|omega) only[push_cast,f.iaddr];refine f.load Xd oM λx A=>?_;refine B _ b A (hs _ b) s oM λw2 D g p=>?_;simp only[push_cast];refine zb (λd=>n _ _ (he.trans g) (.inl rfl)) (λd=>?_);rw[inc64' oM];rcases p with h|⟨g0,g1,g2⟩
  ·omega
  have z:=M.szT_succ (ks:=ks) (i:=i) oM;refine t oM _ _ ⟨D,rfl,he.trans g,g0,oM,λj m=>?_⟩;by_cases e:j<i
  ·exact q j e
  ·have:j=i:=oM;subst this;exact g2
 ·have o:i=ks.length:=oM;subst o;refine n _ _ he (.inr ⟨s,oM,oM,λk l=>?_⟩);obtain⟨j,m,rfl⟩:=gj l;have:=q j oM;rwa[y0,y4 m] at this
theorem szTerm_spec:∀t:M.Tm,SzT t:=by
 refine M.Tm.ind λt n=>?_;intro w K F v left m hs o p e;refine zg {} Tryz.func19 ?_;obtain⟨kv,rfl,f⟩:=m;obtain⟨s1,s2⟩:=Yi0.1 hs;refine zj λb1 w1 i b k g=>?_;simp(disch:=first|(simp only[push_cast])|exact Zt) only[push_cast,g.ld3,g.ld4,Xm];rw[show IntKind.i64.wrap (left-(t.s.size:Int))=left-t.s.size from zk oM oM];refine zb (λa=>e _ _ b (.inl rfl)) (λa=>?_);refine szTermS_of n (f.ext b) s2 oM oM λw2 r c j=>?_;simp only[push_cast];refine zb (λd=>e _ _ (b.trans c) (.inl rfl)) (λd=>?_);rcases j with h|⟨g0,g1,g2,g3⟩
 ·omega
 have l:=M.szT_all t;exact e _ _ (b.trans c) (.inr ⟨g0,oM,fitB_iff.2 ⟨oM,g3⟩⟩)
theorem toDecl_spec {s:ByteArray} {n:Int} (x:∀w',Ext w w'->K (.agg ⟨[.string s,nI n]⟩) w'):vcall WJ #[.agg ⟨[.string s,nI n]⟩] w K:=by
 refine zg {} Tryz.func31 ?_;refine zj λb1 w1 z h C p=>?_;refine zi xY λb2 w2 A d D q=>?_;refine zi xY λb3 J B a E r=>?_;have m:=(p.ext d).ext a;simp only[push_cast,m.ld0];refine r.st (i:=0) rfl rfl Y1 rfl λL e F u=>?_;have I:=m.same e oM;simp only[push_cast,I.ld1];refine u.st (i:=1) rfl rfl yR rfl λo j G g=>?_;replace g:Blk o b3 [.string s,nI n] xp:=g;rw[g.ldAgg (t:=xp) Xe];have c:Same (λb=>b=b3) J o:=e.trans j;have f:=(q.ext a).same c oM;refine stDecl f λM k H v=>?_;rw[v.lv (t:=xp) Xe];refine x _ (Ext.then (Ext.then ((h.trans d).trans a) c λy l=>by subst l;omega) k λy l=>by subst l;omega)
theorem toDeclS_own {v:Value} {ds:List M.Dcl} (s:DclsR F w v ds) (B:ds.length<=1048576) (z:∀w' v',Ext w w'->Own 0 2 x8 w' v' (ds.map λd=>[Value.string d.1,nI d.2])->(∀b,v'.ownBlock=some b->w.heap.size<=b)->K v' w'):vcall YG #[v] w K:=by
 refine zg {loops:=[(3,[4])]} Tryz.func9 ?_;simp only[push_cast,s.len];refine vmkS_agg (cs:=[.string ⟨#[]⟩,nI 0]) zK0 dC (by rw[Ux];exact xY) oM oM λv1 w1 o n h=>?_;refine vloop_up ds.length (λi u w'=>u=[nI i]/\Ext w w'/\∃css,css.length=ds.length/\Own 0 2 x8 w' v1 css/\∀j,j<i->css.getD j []=[.string (ds.getD j yY0).1,nI (ds.getD j yY0).2]) ⟨rfl,n,_,by simp,o,oM⟩ ?_;rintro i _ _ w2 C hi ⟨rfl,f,css,A,k,t⟩ y;have c:=s.ext f;simp only[push_cast,c.len];refine zb (λa=>?_) (λa=>?_)
 ·simp(disch:=first|(simp only[push_cast])|omega) only[push_cast,c.iaddr,c.load];refine toDecl_spec λG g=>?_;have l:=k.ext g;have q:=l.sl;simp(disch:=first|(simp only[push_cast])|omega) only[push_cast,q.iaddr];refine own_stEl l dC rfl (by intro v x;simp only[X0,gm,or_false] at x;rcases x with rfl|rfl<;>rfl) Xe oM λH p r D=>?_;rw[inc64' oM];refine y oM _ _ ⟨rfl,Ext.then (f.trans g) r λb m=>h b m,_,by rw[gB];exact A,p,λj E=>?_⟩;rw[getD_set oM];by_cases e:i=j
  ·subst e;rw[if_pos rfl]
  ·rw[if_neg e];exact t j oM
 ·have e:css=ds.map λd=>[Value.string d.1,nI d.2]:=by
   refine gC (by simp;omega) λj g1 g2=>?_;have:=t j oM;rw[y0,y4 g1,y0,y4 oM] at this;simpa using this
  subst e;exact z w2 v1 f k λb m=>h b m
theorem Zw {v:Value} {ds:List M.Dcl} (e:DclsR F w v ds) (a:ds.length<=1048576) (c:∀w' v',Ext w w'->DclsR (λb=>w.heap.size<=b) w' v' ds->K v' w'):vcall YG #[v] w K:=
 toDeclS_own e a λw' v' he f d=>c w' v' he (f.sl.weaken λb h _=>d b h)
abbrev CpT (t:M.Tm):Prop:=∀{w:World} {K:oK} {F:Nat->Prop} {v:Value},TermR F w v t->xs0 t=true->(∀w' v',Ext w w'->TermR (λb=>w.heap.size<=b) w' v' t->K v' w')->vcall Xz #[v] w K
theorem toTermS_of {ks:List M.Tm} (R:∀k,k∈ks->CpT k) {v:Value} (A:TmsR F w v ks) (J:ks.length<=1048576) (H:∀k,k∈ks->xs0 k=true)
  (G:∀w' v',Ext w w'->TmsR (λb=>w.heap.size<=b) w' v' ks->K v' w'):vcall YF #[v] w K:=by
 refine zg {loops:=[(3,[4])]} Tryz.func10 ?_;simp only[push_cast,A.len];refine vmkS_agg (cs:=W5) qy dC (by rw[jH];exact zr) oM oM λv1 w1 t o p=>?_;have N:=o.size;refine vloop_up ks.length (λi u w'=>u=[nI i]/\Ext w w'/\∃css,css.length=ks.length/\Own 0 5 zl w' v1 css/\∀j,j<i->TmR (λb=>w.heap.size<=b/\v1.ownBlock≠some b) w' (css.getD j []) (ks.getD j default)) ⟨rfl,o,_,by simp,t,oM⟩ ?_;rintro i _ _ w2 C hi ⟨rfl,d,css,B,m,D⟩ E;have l:=A.ext d;have O:=d.size;simp only[push_cast,l.len];refine zb (λa=>?_) (λa=>?_)
 ·have f:ks.getD i default∈ks:=M.getD_mem oM _;simp(disch:=first|(simp only[push_cast])|omega) only[push_cast,l.iaddr];refine l.load Xd oM λx L=>?_;refine R _ f L (H _ f) λS v3 h s=>?_;obtain⟨c3,rfl,g⟩:=s.cells;have q:=m.ext h;have z:=q.sl;simp(disch:=first|(simp only[push_cast])|omega) only[push_cast,z.iaddr];have r:∀b,v1.ownBlock=some b->b<w2.heap.size:=λb c=>(m.lt c).2;refine own_stEl q dC (zW g) (tmR_one g) zc oM λT y n Q=>?_;rw[inc64' oM];refine E oM _ _ ⟨rfl,Ext.then (d.trans h) n λb c=>p b c,_,by rw[gB];exact B,y,λj I=>?_⟩;rw[getD_set oM];by_cases e:i=j
  ·subst e;rw[if_pos rfl];refine(g.weaken (F':=λb=>w.heap.size<=b/\v1.ownBlock≠some b) λb c _=>⟨oM,λe=>by have:=r b e;omega⟩).same n λb c _ e=>c.2 e
  ·rw[if_neg e];exact((D j oM).ext h).same n λb c _ e=>c.2 e
 ·exact G w2 v1 d ⟨css,m.sl.weaken λb c _=>p b c,B,λj I=>(D j oM).weaken λb c _=>c.1⟩
theorem toTerm_spec:∀t:M.Tm,CpT t:=by
 refine M.Tm.ind λt ih=>?_;intro w K F v ht hf hK;refine zg {} Tryz.func21 ?_;obtain⟨kv,rfl,H⟩:=ht;obtain⟨f1,f2⟩:=fitB_iff.1 hf;refine zj λb1 w1 a0 E a3 S=>?_;refine zi zr λb2 w2 a1 m a4 T=>?_;refine zi zr λb3 w3 a2 h a5 U=>?_;have N:=(S.ext m).ext h;simp only[push_cast,N.ld0];refine U.st (i:=0) rfl rfl yR rfl λw4 r a6 V=>?_;have O:=N.same r oM;simp only[push_cast,O.ld1];refine V.st (i:=1) rfl rfl yR rfl λw5 u a7 W=>?_;have P:=O.same u oM;simp only[push_cast,P.ld2];refine W.st (i:=2) rfl rfl yR rfl λw6 z a8 X=>?_;have Q:=P.same z oM;simp only[push_cast,Q.ld3];refine X.st (i:=3) rfl rfl Y1 rfl λI A a9 Y=>?_;have q7:=Q.same A oM;simp only[push_cast,q7.ld4];have g:Same (λb=>b=b3) w3 I:=r.trans (u.trans (z.trans A));have l:=(E.trans m).trans h;have j:Ext w I:=Ext.then l g λy B=>by subst B;omega
 refine toTermS_of ih (H.ext j) f1 f2 λw8 d f n=>?_;have Z:=Y.ext f;have o:d.cells= #[d]/\d.oneCell'=true:=by
  obtain⟨css,hs,_⟩:=n;obtain⟨a,c,rfl,_⟩:=hs.shape;exact⟨rfl,rfl⟩
 have aa:=f.size;have L:=g.size
 try simp only[push_cast]
 refine Z.st (i:=4) o.1 o.2 xG rfl λR k ab D=>?_;replace D:Blk R b3 [nI t.op,nI t.a,nI t.b,.string t.s,d] za:=D;rw[D.ldAgg (t:=za) zc];have G:TmsR (λb=>I.heap.size<=b) R d t.ks:=n.same k λb hb _ e=>oM
 have C:=(((T.ext h).same g oM).ext f).same k oM;refine qb C rfl (TmR.of (t:=t) G) (λx hx=>oM) λw10 q J p=>?_;exact hK _ _ (Ext.then (Ext.then (j.trans f) k λy B=>by subst B;omega) q λy B=>by subst B;omega) (p.weaken λb hb _=>by have:=j.size;omega)
theorem yw0 {s:ByteArray} {n:Int} (f:∀w',Ext w w'->K (.bool true) w'):vcall WO #[.agg ⟨[.string s,nI n]⟩,.agg ⟨[.string s,nI n]⟩] w K:=by
 refine zg {} Tryz.func33 ?_;refine zj λb1 w1 g d j e=>?_;refine zj λb2 w2 i a k b=>?_;have c:=e.ext a;simp only[push_cast,c.ld0,b.ld0,c.ld1,b.ld1];refine zb (λh=>absurd rfl h) (λ_=>?_)
 try simp only[push_cast,c.ld0,b.ld0,c.ld1,b.ld1]
 refine zb (λh=>absurd rfl h) (λ_=>?_);exact f _ (d.trans a)
theorem eqDeclS_same {va vb:Value} {ds:List M.Dcl} (e:DclsR F w va ds) (j:DclsR F' w vb ds) (m:∀w',Ext w w'->K (.bool true) w'):vcall V3 #[va,vb] w K:=by
 refine zg {ord:=[oz 6 (oR 10) [(0,[1,4,5,6,7]),(1,[4,5,6,7]),(2,[4,5,6,7]),(3,[4,5,6,7]),(4,[5])]],loops:=[(4,[5])]} Tryz.func13 ?_;have n:=e.small;simp only[push_cast,e.len,j.len];refine zb (λh=>absurd rfl h) (λh=>?_);refine vloop_up ds.length (λi u w'=>u=[nI i]/\Ext w w') ⟨rfl,Same.refl _ _⟩ ?_;rintro i _ _ w1 C hi ⟨rfl,he⟩ l;have b:=e.ext he;have f:=j.ext he;simp only[push_cast,b.len];refine zb (λk=>?_) (λk=>?_)
 ·refine zd λw2 a _=>?_;have c:=b.ext a;have d:=f.ext a;simp(disch:=first|(simp only[push_cast])|omega) only[push_cast,c.iaddr,c.load,d.iaddr,d.load,true_and];refine yw0 λo g=>?_;simp only[push_cast,Gc,true_and];rw[inc64' oM];exact l oM _ _ ⟨rfl,he.trans (a.trans g)⟩
 ·exact m w1 he
abbrev EqT (t:M.Tm):Prop:=∀{w:World} {K:oK} {F G:Nat->Prop} {va vb:Value},TermR F w va t->TermR G w vb t->(∀w',Ext w w'->K (.bool true) w')->vcall WM #[va,vb] w K
theorem eqTermS_of {ks:List M.Tm} (o:∀k,k∈ks->EqT k) {va vb:Value} (d:TmsR F w va ks) (g:TmsR F' w vb ks) (m:∀w',Ext w w'->K (.bool true) w'):vcall KZ #[va,vb] w K:=by
 refine zg {ord:=[oz 6 (oR 10) [(0,[1,4,5,6,7]),(1,[4,5,6,7]),(2,[4,5,6,7]),(3,[4,5,6,7]),(4,[5])]],loops:=[(4,[5])]} Tryz.func14 ?_;have n:=d.small;simp only[push_cast,d.len,g.len];refine zb (λh=>absurd rfl h) (λh=>?_);refine vloop_up ks.length (λi u w'=>u=[nI i]/\Ext w w') ⟨rfl,Same.refl _ _⟩ ?_;rintro i _ _ w1 C hi ⟨rfl,he⟩ l;have b:=d.ext he;have e:=g.ext he;simp only[push_cast,b.len];refine zb (λj=>?_) (λj=>?_)
 ·refine zd λw2 a _=>?_;obtain⟨cssa,sa,la,ka⟩:=b.ext a;obtain⟨cssb,sb,lb,kb⟩:=e.ext a;have c:ks.getD i default∈ks:=M.getD_mem oM _;have ga:aggB za 5=true:=zc;simp(disch:=first|(simp only[push_cast])|omega) only[push_cast,sa.iaddr,sa.ldAgg,sb.iaddr,sb.ldAgg,true_and];refine o _ c (ka i oM).term (kb i oM).term λp f=>?_;simp only[push_cast,Gc,true_and];rw[inc64' oM];exact l oM _ _ ⟨rfl,he.trans (a.trans f)⟩
 ·exact m w1 he
theorem yv0:∀t:M.Tm,EqT t:=by
 refine M.Tm.ind λt r=>?_;intro w K F G va vb l m k;refine zg {} Tryz.func23 ?_;obtain⟨kva,rfl,g⟩:=l;obtain⟨kvb,rfl,i⟩:=m;refine zj λb1 w1 n e p j=>?_;refine zj λb2 w2 o b q a=>?_;have c:=j.ext b;simp only[push_cast,c.ld0,a.ld0,c.ld1,a.ld1,c.ld2,a.ld2,c.ld3,a.ld3,c.ld4,a.ld4];refine zb (λh=>absurd rfl h) (λ_=>?_);refine zb (λh=>absurd rfl h) (λ_=>?_);refine zb (λh=>absurd rfl h) (λ_=>?_);refine zb (λh=>absurd rfl h) (λ_=>?_);have d:=e.trans b;refine eqTermS_of r (g.ext d) (i.ext d) λs f=>?_;simp only[push_cast,Gc];exact k _ (d.trans f)
end
section
variable {w:World} {K:oK} {F D G:Nat->Prop}
def kT0 (w:World) (D:Nat->Prop) (kv:Value) (us:List M.Tm) (css:List (List Value)) (Ds:Nat->Nat->Prop):Prop:=
 Own 0 5 zl w kv css/\css.length=us.length/\(∀b,kv.ownBlock=some b->D b/\∀i,i<us.length->¬Ds i b)/\(∀i j b,i<j->j<us.length->Ds i b->¬Ds j b)/\(∀i b,i<us.length->Ds i b->D b)/\
 ∀i,i<us.length->TmO w (Ds i) (css.getD i []) (us.getD i default)
theorem Z00 {kv:Value} {t:M.Tm} {css:List (List Value)} {Ds:Nat->Nat->Prop} (h:kT0 w D kv t.ks css Ds):TmO w D [nI t.op,nI t.a,nI t.b,.string t.s,kv] t:=by
 obtain⟨c,d,e,f,g,i⟩:=h;exact .mk css Ds c d e f g i
theorem qf0 {cs:List Value} {t:M.Tm} (h:TmO w D cs t):∃kv css Ds,cs=[nI t.op,nI t.a,nI t.b,.string t.s,kv]/\kT0 w D kv t.ks css Ds:=by
 obtain⟨kv,css,Ds,c,d,e,f,g,i,j⟩:=W9 h;exact⟨kv,css,Ds,c,d,e,f,g,i,j⟩
theorem kZ0 {kv:Value} {us:List M.Tm} {css:List (List Value)} {Ds:Nat->Nat->Prop} (h:kT0 w D kv us css Ds):TmsR D w kv us:=by
 obtain⟨c,d,e,j,f,g⟩:=h;exact⟨css,c.sl.weaken λb a _=>(e b a).1,d,λi hi=>(xb0 _ (g i hi)).weaken λb a _=>f i b hi a⟩
theorem Xr {S:Nat->Prop} {w':World} {kv:Value} {us:List M.Tm} {css:List (List Value)} {Ds:Nat->Nat->Prop} (h:kT0 w D kv us css Ds) (hw:Same S w w') (hs:∀b,D b->¬S b):kT0 w' D kv us css Ds:=by
 obtain⟨e,f,c,g,d,j⟩:=h;exact⟨e.same hw λb a=>hs b (c b a).1,f,c,g,d,λi hi=>jC hw _ (j i hi) λb a=>hs b (d i b hi a)⟩
abbrev CpO (t:M.Tm):Prop:=∀{w:World} {K:oK} {F:Nat->Prop} {v:Value},TermR F w v t->xs0 t=true->(∀w' cs,Ext w w'->TmO w' (λb=>w.heap.size<=b/\b<w'.heap.size) cs t->K (.agg ⟨cs⟩) w')->vcall Xz #[v] w K
theorem toTermS_own {ks:List M.Tm} (ih:∀k,k∈ks->CpO k) {v:Value} (I:TmsR F w v ks) (W:ks.length<=1048576) (V:∀k,k∈ks->xs0 k=true)
  (T:∀w' v' css Ds,Ext w w'->kT0 w' (λb=>w.heap.size<=b/\b<w'.heap.size) v' ks css Ds->K v' w'):vcall YF #[v] w K:=by
 refine zg {loops:=[(3,[4])]} Tryz.func10 ?_;simp only[push_cast,I.len];refine vmkS_agg (cs:=W5) qy dC (by rw[jH];exact zr) oM oM λv1 w1 z r t=>?_;have Y:=r.size;have f:∀b,v1.ownBlock=some b->b<w1.heap.size:=λb c=>(z.lt c).2;refine vloop_up ks.length (λi u w'=>u=[nI i]/\Ext w w'/\w1.heap.size<=w'.heap.size/\∃(css:List (List Value)) (Ds:Nat->Nat->Prop),css.length=ks.length/\Own 0 5 zl w' v1 css/\
   (∀j b,j<i->Ds j b->w1.heap.size<=b/\b<w'.heap.size)/\(∀j k b,j<k->k<i->Ds j b->¬Ds k b)/\∀j,j<i->TmO w' (Ds j) (css.getD j []) (ks.getD j default))
  ⟨rfl,r,gp _,_,λ_ _=>False,by simp,z,oM,oM,oM⟩ ?_
 rintro i _ _ w2 C hi ⟨rfl,n,Z,css,Ds,Q,A,d,h,R⟩ S;have o:=I.ext n;simp only[push_cast,o.len];refine zb (λa=>?_) (λa=>?_)
 ·have l:ks.getD i default∈ks:=M.getD_mem oM _;simp(disch:=first|(simp only[push_cast])|omega) only[push_cast,o.iaddr];refine o.load Xd oM λx X=>?_;refine ih _ l X (V _ l) λw3 c3 g q=>?_;have y:=xb0 _ q;have B:=A.ext g;have L:=B.sl;have a0:=g.size;simp(disch:=first|(simp only[push_cast])|omega) only[push_cast,L.iaddr];refine own_stEl B dC (zW y) (tmR_one y) zc oM λw4 J p a1=>?_;rw[inc64' oM];refine S oM _ _ ⟨rfl,Ext.then (n.trans g) p λb c=>t b c,oM,css.set i c3,λj b=>(j<i/\Ds j b)\/(j=i/\w2.heap.size<=b/\b<w3.heap.size),by rw[gB];exact Q,J,λj b s c=>?_,λj k b H I m D=>?_,λj s=>?_⟩
  ·rcases c with⟨m,D⟩|⟨m,D,E⟩
   ·have:=d j b m D;omega
   ·omega
  ·rcases m with⟨m,E⟩|⟨m,E,h4⟩
   ·rcases D with⟨N,O⟩|⟨N,O,h7⟩
    ·exact h j k b H N E O
    ·have:=d j b m E;omega
   ·omega
  ·rw[getD_set oM];by_cases e:i=j
   ·subst e;rw[if_pos rfl];exact qx (jC p _ q λb c e=>by have:=f b e;omega) λb c=> .inr ⟨rfl,c⟩
   ·rw[if_neg e];exact qx (jC p _ (qg0 (R j oM) g) λb c e=>by have:=f b e;have:=d j b oM c;omega) λb c=> .inl ⟨oM,c⟩
 ·have G:i=ks.length:=oM;subst G;refine T w2 v1 css Ds n ⟨A,Q,λb c=>⟨⟨t b c,by have:=f b c;omega⟩,λj s U=>by have:=f b c;have:=d j b s U;omega⟩,h,λj b s c=>by have:=d j b s c;omega,R⟩
theorem toTerm_own:∀t:M.Tm,CpO t:=by
 refine M.Tm.ind λt ih=>?_;intro w K F v ht hf Z;refine zg {} Tryz.func21 ?_;obtain⟨kv,rfl,H⟩:=ht;obtain⟨f1,f2⟩:=fitB_iff.1 hf;refine zj λb1 w1 a0 E a3 R=>?_;refine zi zr λb2 w2 a1 m a4 S=>?_;refine zi zr λb3 w3 a2 h a5 T=>?_;have L:=(R.ext m).ext h;simp only[push_cast,L.ld0];refine T.st (i:=0) rfl rfl yR rfl λw4 r a6 U=>?_;have N:=L.same r oM;simp only[push_cast,N.ld1];refine U.st (i:=1) rfl rfl yR rfl λw5 u a7 V=>?_;have O:=N.same u oM;simp only[push_cast,O.ld2];refine V.st (i:=2) rfl rfl yR rfl λw6 z a8 W=>?_;have P:=O.same z oM;simp only[push_cast,P.ld3];refine W.st (i:=3) rfl rfl Y1 rfl λQ A a9 X=>?_;have q7:=P.same A oM;simp only[push_cast,q7.ld4];have g:Same (λb=>b=b3) w3 Q:=r.trans (u.trans (z.trans A));have l:=(E.trans m).trans h;have j:Ext w Q:=Ext.then l g λy B=>by subst B;omega
 refine toTermS_own ih (H.ext j) f1 f2 λw8 f css Ds d n=>?_;have Y:=X.ext d;have o:f.cells= #[f]/\f.oneCell'=true:=by
  obtain⟨a,c,rfl,_⟩:=n.1.sl.shape;exact⟨rfl,rfl⟩
 have aa:=d.size;have J:=g.size
 try simp only[push_cast]
 refine Y.st (i:=4) o.1 o.2 xG rfl λw9 k ab D=>?_;replace D:Blk w9 b3 [nI t.op,nI t.a,nI t.b,.string t.s,f] za:=D;rw[D.ldAgg (t:=za) zc];have G:=Xr n k λb hb e=>oM
 have C:=(((S.ext h).same g oM).ext d).same k oM;refine retO C rfl (Z00 (t:=t) G) (λx hx=>oM) λw10 q I p=>?_;exact Z _ _ (Ext.then (Ext.then (j.trans d) k λy B=>by subst B;omega) q λy B=>by subst B;omega) (qx p λb hb=>by have:=j.size;omega)
def digs:Nat->Nat->ByteArray->ByteArray
 |0,_,acc=>acc
 |f+1,k,acc=>if 0<k then digs f (k/10) (strOfNums [((48+k%10:Nat):Int)]++acc) else acc
def Qu (k:Nat):ByteArray:=if k=0 then⟨#[109,48]⟩ else⟨#[109]⟩++digs (k+1) k ⟨#[]⟩
theorem markText_spec {k:Nat} (h:k<4611686018427387904) (b:∀w',Ext w w'->K (.string (Qu k)) w'):vcall Zz #[nI k] w K:=by
 refine zg {loops:=[(4,[0,3])]} Tryz.func34 ?_;simp only[push_cast];refine zb (λa=>?_) (λa=>?_)
 ·have e:Qu k=⟨#[109,48]⟩:=by unfold Qu;rw[if_pos oM]
  rw[e] at b;exact b _ (Same.refl _ _)
 have e:Qu k=⟨#[109]⟩++digs (k+1) k ⟨#[]⟩:=by unfold Qu;rw[if_neg oM]
 rw[e] at b;refine jB (λn u w'=> ∃(j:Nat) (acc:ByteArray) (f:Nat),u=[nI j,.string acc]/\n=j/\j<=k/\j<f/\acc.size+j<=k/\Ext w w'/\digs f j acc=digs (k+1) k ⟨#[]⟩) k
  ⟨k,_,k+1,rfl,rfl,gp _,oM,by simp[ByteArray.size],Same.refl _ _,rfl⟩ ?_
 rintro n _ _ w1 C ⟨j,acc,f,rfl,rfl,v,t,z,he,m⟩ q;simp only[push_cast];refine zb (λc=>?_) (λc=>?_)
 ·rw[kX dC,show(n:Int).tmod 10=((n%10:Nat):Int) from by rw[pD oM];omega,Xo];rw[show IntKind.i64.wrap (48+((n%10:Nat):Int))=((48+n%10:Nat):Int) from by rw[zk oM oM];omega];rw[ja UU ks0,show IntKind.u8.wrap ((48+n%10:Nat):Int)=((48+n%10:Nat):Int) from by show((48+n%10:Nat):Int)%256=_;omega];refine qC (k:=1) (y:=[.int .u8 ((48+n%10:Nat):Int)]) Xp Zk0 jP0 rfl rfl dC λb2 w2 r l x p=>?_;have s:∀d:oK,y70 xz yp (.slice (some ⟨b2,0,none⟩) 1 1) w2 d=d (.string (strOfNums [((48+n%10:Nat):Int)])) w2:=λd=>
   ya (run_convert_bytes_arg w2 xz Zf Xp rK b2 0 1 1 [((48+n%10:Nat):Int)] rfl (λi hi=>by
    have:i=0:=oM;subst this;exact p.cell (i:=0) rfl) yp Zt)
  rw[s,kW (by rw[strOfNums_size];show 1+_<=_;omega),ki dC,show(n:Int).tdiv 10=((n/10:Nat):Int) from by rw[Int.tdiv_eq_ediv_of_nonneg oM];omega,zk oM oM];obtain⟨f,rfl⟩:∃g,f=g+1:=⟨f-1,oM⟩;refine q (n/10) _ _ oM ⟨n/10,_,f,rfl,rfl,oM,oM,?_,he.trans l,?_⟩
  ·rw[ByteArray.size_append,strOfNums_size];show 1+acc.size+n/10<=k;omega
  ·rw[<-m];show _=if 0<n then _ else _
   rw[if_pos oM]
 ·have o:n=0:=oM;subst o;obtain⟨f,rfl⟩:∃g,f=g+1:=⟨f-1,oM⟩;have:acc=digs (k+1) k ⟨#[]⟩:=by
   rw[<-m];show _=if 0<0 then _ else acc
   rw[if_neg oM]
  subst this;rw[kW (by show 1+_<=_;omega)];exact b _ he
theorem markText_int {k:Int} (b:0<=k) (h:k<4611686018427387904) (a:∀w',Ext w w'->K (.string (Qu k.toNat)) w'):vcall Zz #[nI k] w K:=by
 obtain⟨n,rfl⟩:∃n:Nat,k=n:=⟨k.toNat,oM⟩;exact markText_spec oM a
theorem inc_wrap {k:Int} (a:0<=k) (h:k<4611686018427387904):IntKind.i64.wrap (k+1)=k+1:=zk oM oM
theorem markDeclS_spec {v:Value} {css:List (List Value)} {k:Int} (x:Own 0 2 x8 w v css) (A:0<=k) (B:k+2*css.length<4611686018427387904)
  (t:∀w',Same (λb=>v.ownBlock=some b) w w'->K (nI (k+2*css.length)) w'):vcall J6 #[v,nI k] w K:=by
 refine zg {loops:=[(2,[1,5])]} Tryz.func15 ?_;refine vloop_up css.length (λi u w'=>u=[nI (k+2*i),nI i]/\Same (λb=>v.ownBlock=some b) w w'/\∃c,c.length=css.length/\Own 0 2 x8 w' v c) ⟨by simp,Same.refl _ _,css,rfl,x⟩ ?_;rintro i _ _ w1 C hi ⟨rfl,h,r,e,f⟩ s;have o:=f.sl;simp only[push_cast,o.len,e];refine zb (λa=>?_) (λa=>?_)
 ·refine markText_int oM oM λw2 d=>?_;have g:=f.ext d;have n:=g.sl;simp(disch:=first|(simp only[push_cast])|omega) only[push_cast,n.iaddr];refine Own.stCell g rfl rfl Y1 (i:=i) (j:=0) oM dC λD l p y=>?_;rw[inc_wrap oM oM];refine Own.stCell l rfl rfl yR (i:=i) (j:=1) (by rw[gB];omega) dC λE m q z=>?_;rw[inc_wrap oM oM,inc64' oM];refine s oM _ _ ⟨by rw[show k+2*(i:Int)+1+1=k+2*((i+1:Nat):Int) by omega],h.trans ((Same.of_ext d).trans (p.trans q)),_,by rw[gB,gB];exact e,m⟩
 ·have:i=css.length:=oM;subst this;exact t _ h
end
section
variable {w:World} {K:oK} {F D G:Nat->Prop}
inductive Held:List M.Tm->Int->Int->Prop
 |nil (k:Int):Held [] k k
 |cons {t:M.Tm} {us:List M.Tm} {k m n:Int}:t.op=k->t.a=k+1->t.b=k+2->t.s=Qu (k+3).toNat->Held t.ks (k+4) m->Held us m n->Held (t::us) k n
theorem qR0 {us:List M.Tm} {k m n:Int} {t:M.Tm} (h:Held us k m) (f:t.op=m) (g:t.a=m+1) (i:t.b=m+2) (j:t.s=Qu (m+3).toNat) (l:Held t.ks (m+4) n):Held (us++[t]) k n:=by
 induction h with
 |nil k=>exact .cons f g i j l (.nil _)
 |cons a b c d e _ _ o=>exact .cons a b c d e (o f g i j l)
abbrev MarkT (t:M.Tm):Prop:=∀{w:World} {K:oK} {D:Nat->Prop} {kv:Value} {css:List (List Value)} {Ds:Nat->Nat->Prop} {k:Int},kT0 w D kv t.ks css Ds->0<=k->k+4*M.szT t.ks t.ks.length<4611686018427387904->
 (∀w' us css',Same D w w'->kT0 w' D kv us css' Ds->us.length=t.ks.length->Held us k (k+4*M.szT t.ks t.ks.length)->K (nI (k+4*M.szT t.ks t.ks.length)) w')->vcall J5 #[kv,nI k] w K
theorem k60 {us:List M.Tm} {i:Nat} {u:M.Tm} (h:i<us.length):(us.set i u).take (i+1)=us.take i++[u]:=by
 rw[M.take_add (by rw[gB];exact h) default,List.take_set_of_le (gp _),getD_set h,if_pos rfl]
theorem markTermS_spec:∀t:M.Tm,MarkT t:=by
 refine M.Tm.ind λt ih=>?_;intro w K D kv css Ds k h h0 hk hK;refine zg {loops:=[(2,[1,5])]} Tryz.func16 ?_;refine vloop_up t.ks.length (λi u w'=>u=[nI (k+4*M.szT t.ks i),nI i]/\Same D w w'/\∃us F,us.length=t.ks.length/\kT0 w' D kv us F Ds/\Held (us.take i) k (k+4*M.szT t.ks i)/\∀j,i<=j->us.getD j default=t.ks.getD j default)
  ⟨by show _=[nI (k+4*((0:Nat):Int)),_];simp,Same.refl _ _,t.ks,css,rfl,h,by rw[pC];show Held [] k (k+4*((0:Nat):Int));simpa using Held.nil k,λj _=>rfl⟩ ?_
 rintro i _ _ w1 C hi ⟨rfl,O,us,d,l,hT,hH,n⟩ hC;have U:=hT;obtain⟨own1,L,f,A,p,g⟩:=U;have o:=own1.sl;have a4:=o.small;simp only[push_cast,o.len,L,l];refine zb (λa=>?_) (λa=>?_)
 ·have q:i<t.ks.length:=oM;have a8:=M.szT_succ q;have W:=M.szT_mono (ks:=t.ks) (i:=i+1) (j:=t.ks.length) oM (gp _);have a7:=M.szT_all (t.ks.getD i default);obtain⟨m,hm⟩:∃m:Int,m=k+4*M.szT t.ks i:=⟨_,rfl⟩;have a5:0<=m:=oM;have a6:m+10+4*M.szT (t.ks.getD i default).ks (t.ks.getD i default).ks.length<4611686018427387914:=oM;have B:m+4+4*M.szT (t.ks.getD i default).ks (t.ks.getD i default).ks.length=k+4*M.szT t.ks (i+1):=oM;simp only[<-hm];simp(disch:=first|(simp only[push_cast])|omega) only[push_cast,o.iaddr];have I:=g i oM;rw[n i (gp _)] at I;obtain⟨kvi,cssi,Dsi,ei,hp⟩:=qf0 I;refine Own.stCell own1 rfl rfl yR (i:=i) (j:=0) oM dC λw2 r Z a9=>?_;rw[ei] at r;rw[inc_wrap oM oM];refine Own.stCell r rfl rfl yR (i:=i) (j:=1) (by rw[gB];omega) dC λw3 s a0 aa=>?_;rw[getD_set oM,if_pos rfl,PD] at s;rw[inc_wrap oM oM];refine Own.stCell s rfl rfl yR (i:=i) (j:=2) (by rw[gB];omega) dC λw4 v a1 ab=>?_;rw[getD_set oM,if_pos rfl,PD] at v;rw[inc_wrap oM oM,show m+1+1=m+2 by omega,show m+2+1=m+3 by omega];refine markText_int oM oM λw5 H=>?_;have Q:=v.ext H;refine Own.stCell Q rfl rfl Y1 (i:=i) (j:=3) (by rw[gB];omega) dC λw6 c a2 ac=>?_;rw[getD_set oM,if_pos rfl,PD] at c;rw[inc_wrap oM oM,show m+3+1=m+4 by omega];rw[show m+1+1=m+2 by omega] at c;replace c:Own 0 5 zl w6 kv (d.set i [nI m,nI (m+1),nI (m+2),.string (Qu (m+3).toNat),kvi]):=c;have V:i<(d.set i [nI m,nI (m+1),nI (m+2),.string (Qu (m+3).toNat),kvi]).length:=by rw[gB];omega
  rw[Sl.ldField c.sl QT V (x:=kvi) (j:=4) (by rw[getD_set oM,if_pos rfl];rfl)];have y:Same (λb=>kv.ownBlock=some b) w1 w6:=Z.trans (a0.trans (a1.trans ((Same.of_ext H).trans a2)));have X:=Xr hp y λb z e=>(f b e).2 i oM z;have N:t.ks.getD i default∈t.ks:=M.getD_mem q _;refine ih _ N X oM oM λw7 ui R E Y a3 G=>?_;rw[B] at G⊢;rw[inc64' oM];have T:Same D w1 w7:=(y.mono λb _ e=>(f b e).1).trans (E.mono λb _ e=>p i b oM e);have S:Same (λb=>kv.ownBlock=some b\/Ds i b) w1 w7:=(y.mono λb _ e=> .inl e).trans (E.mono λb _ e=> .inr e);refine hC oM _ _ ⟨rfl,O.trans T,us.set i (.mk m (m+1) (m+2) (Qu (m+3).toNat) ui),d.set i [nI m,nI (m+1),nI (m+2),.string (Qu (m+3).toNat),kvi],by rw[gB];exact l,⟨c.same E λb z e=>(f b z).2 i oM e,by rw[gB,gB];exact L,?_,?_,?_,λj J=>?_⟩,?_,λj J=>?_⟩
  ·rw[gB];exact f
  ·rw[gB];exact A
  ·rw[gB];exact p
  ·rw[gB] at J;rw[getD_set oM,getD_set oM];by_cases e:i=j
   ·subst e;rw[if_pos rfl,if_pos rfl];exact Z00 (t:= .mk m (m+1) (m+2) (Qu (m+3).toNat) ui) Y
   ·rw[if_neg e,if_neg e];refine jC S _ (g j J) λb z hs=>?_;rcases hs with hs|hs
    ·exact(f b hs).2 j J z
    ·rcases Nat.lt_or_gt_of_ne e with h|h
     ·exact A i j b h J hs z
     ·exact A j i b h oM z hs
  ·rw[k60 oM];rw[<-hm] at hH;exact qR0 hH rfl rfl rfl rfl G
  ·rw[getD_set oM,if_neg oM];exact n j oM
 ·have q:i=t.ks.length:=oM;subst q;rw[<-l,gq,l] at hH;exact hK _ us d O hT l hH
end
end Go.Proofs.YtolbhkcajhlllaaGreatDoor
namespace Go.Proofs.YtolbhkcajhlllaaGreatDoor
open Go Go.Vc Go.Proofs Go.M
section
variable {w:World} {K:oK} {F:Nat->Prop} {c:Cnf}
theorem j20 {xs ys:List Int} (c:xs.length=ys.length) (h:∀j,j<xs.length->xs.getD j 0=ys.getD j 0):xs=ys:=
 gC c λj a b=>by have:=h j a;simpa[y0,a,b] using this
theorem qV0 {α:Type} {xs:List α} {i j:Nat} {x d:α} (hi:i<xs.length):(xs.set i x).getD j d=if i=j then x else xs.getD j d:=by
 simp only[y0,List.getElem?_set];by_cases e:i=j
 ·subst e;simp[hi]
 ·simp[e]
def Zz0 (k n:Nat):List Int:=(List.range n).map λj=>((k+j:Nat):Int)
theorem yN0 (k n:Nat):(Zz0 k n).length=n:=by simp[Zz0]
theorem yO0 {k n j:Nat} (h:j<n):(Zz0 k n).getD j 0=((k+j:Nat):Int):=by
 simp[Zz0,y0,h]
section
variable {w':World}
end
theorem markIntS_specX {v:Value} {xs:List Int} {k:Nat} (x:OwnI ze w v xs) (z:k<=4611686018427387904) (t:xs.length<=1048576)
  (n:∀w',Same (λb=>v.ownBlock=some b) w w'->w'.heap.size=w.heap.size->OwnI ze w' v (Zz0 k xs.length)->K (nI (k+xs.length:Nat)) w'):vcall JW #[v,nI k] w K:=by
 refine zg {loops:=[(2,[1,5])]} Tryz.func17 ?_;refine vloop_up xs.length (λi u w'=>u=[nI (k+i:Nat),nI i]/\Same (λb=>v.ownBlock=some b) w w'/\w'.heap.size=w.heap.size/\∃ys:List Int,ys.length=xs.length/\OwnI ze w' v ys/\∀j,j<i->ys.getD j 0=((k+j:Nat):Int)) ⟨by simp,Same.refl _ _,rfl,xs,rfl,x,oM⟩ ?_;rintro i _ _ w2 C hi ⟨rfl,d,m,ys,o,c,p⟩ r;have f:=c.ints;simp only[push_cast,f.len];refine zb (λa=>?_) (λa=>?_)
 ·simp(disch:=first|(simp only[push_cast])|omega) only[push_cast,f.iaddr];refine c.st yR oM λA l h y=>?_;have q:IntKind.i64.wrap (((k+i:Nat):Int)+1)=((k+(i+1):Nat):Int):=by rw[zk oM oM];omega
  rw[inc64' oM];refine r oM _ _ ⟨by rw[<-q];simp,d.trans h,oM,_,by rw[gB];exact o,l,λj s=>?_⟩;rw[qV0 oM];by_cases e:i=j
  ·subst e;rw[if_pos rfl];simp
  ·rw[if_neg e];exact p j oM
 ·have g:i=xs.length:=oM;subst g;have:ys=Zz0 k xs.length:=j20 (by rw[yN0];exact o) λj s=>by rw[yO0 oM];exact p j oM
  rw[<-this] at n;exact n w2 d m c
theorem heldIntS_specX {v:Value} {k n:Nat} (m:Ints F w v (Zz0 k n)) (o:k<=4611686018427387904) (l:n<=1048576) (h:∀w',Ext w w'->K (nI (k+n:Nat)) w'):vcall JX #[v,nI k] w K:=by
 refine zg {loops:=[(2,[1,5])]} Tryz.func18 ?_;have j:=yN0 k n;refine vloop_up n (λi u w'=>u=[nI (k+i:Nat),nI i]/\Ext w w') ⟨by simp,Same.refl _ _⟩ ?_;rintro i _ _ w2 C hi ⟨rfl,c⟩ g;have d:=m.ext c;simp only[push_cast,d.len];refine zb (λa=>?_) (λa=>?_)
 ·simp(disch:=first|(simp only[push_cast])|omega) only[push_cast,d.iaddr,d.load];refine zb (λb=>absurd (by rw[yO0 oM];simp) b) (λb=>?_);have f:IntKind.i64.wrap (((k+i:Nat):Int)+1)=((k+(i+1):Nat):Int):=by rw[zk oM oM];omega
  rw[inc64' oM];exact g oM _ _ ⟨by rw[<-f];simp,c⟩
 ·have e:i=n:=oM;subst e;exact h w2 c
end
end Go.Proofs.YtolbhkcajhlllaaGreatDoor
section
namespace Go.Proofs.YtolbhkcajhlllaaGreatDoor
open Go Go.Vc Go.Proofs
open Go.ChangeShapes Go.WideShapes Go.ChangeAt Go.RowKit
section
variable {H:Type} {enc:TypeId×Value->H} {W:World} {cs:List Value} {x:DataW H×List MemPlace} {held:Bool} {fuel:Nat}
theorem terms_in (h:DataW.trod enc P W 0 (λ_=>true) held fuel x7 cs=some x):∃v ks,cs=[v]/\TmsR (λ_=>True) W v ks/\∀k,k∈ks->Qe k=true:=by
 rcases DataW.trod_slice Zu h with⟨rfl,_⟩|⟨a,len,cap,elems,rest,n,_,rfl,_,_,e,hm,f,b,_,_⟩
 ·exact⟨_,[],rfl,TmsR.nil,λk c=>by cases c⟩
 ·obtain⟨css,ys,hs,j,l,d⟩:=each_in (α:=M.Tm) (R:=λcs t=>TmR (λ_=>True) W cs t/\Qe t=true) yz0 dC e hm f b λcs x g=>term_in _ g;refine⟨_,ys,rfl,⟨css,hs,oM,λi hi=>(d i oM).1⟩,λk c=>?_⟩;obtain⟨i,hi,rfl⟩:=gj c;have:=(d i oM).2;rwa[y0,y4 hi] at this
end
abbrev kidsT (ts:List M.Tm):M.Tm:= .mk 0 0 0 ⟨#[]⟩ ts
end Go.Proofs.YtolbhkcajhlllaaGreatDoor
end
namespace Go.Proofs.YtolbhkcajhlllaaGreatDoor
open Go Go.Vc Go.Proofs
section
variable {w:World} {K:oK} {D F F' G:Nat->Prop} {dv tv:Value} {ds:List M.Dcl} {ts:List M.Tm} {at_ an am ar ab:Addr}
theorem ye0 {n:Nat} {ds:List M.Dcl} {c:M.Cnf} (h:ds.length<=4):(M.searchM n ds c).1.length<=4:=by
 unfold M.searchM;dsimp only;split
 ·rw[M.envB_len];exact h
 ·split<;>simp
theorem xc0 {n:Nat} {ds:List M.Dcl} {ts:List M.Tm} {ns:List (List Int)} (h:ds.length<=4):(M.solveM n ds ts ns).1.length<=4:=by
 unfold M.solveM;split
 ·simp
 ·exact ye0 h
theorem qk0 (ds:List M.Dcl) (ts:List M.Tm):(qD ds ts []).1.length<=4:=by
 by_cases h:W1 ds ts=true
 ·have a:=(M.decl_iff.1 (all8_iff.1 h).2.1).1;unfold qD;rw[if_pos h];exact xc0 a
 ·rw[Qg h];decide
theorem FnExactSolve_spec (hd:DclsR F w dv ds) (hz:KB ds) (ht:TmsR F' w tv ts) (hs:∀k,k∈ts->Qe k=true) (er:Er w at_ an am ar ab) (hK:∀w',Ext w w'->K (.bool true) w'):vcall YT #[dv,tv] w K:=by
 have bx:=qk0 ds ts;refine zg {cuts:=[(53262,[]),(90135,[])]} Tryz.func3 ?_;refine szDeclS_spec dC dC hz hd λw1 r a6 hr=>?_;simp only[push_cast];refine zb (λ_=>hK _ a6) (λc=>?_);rcases hr with h|⟨r0,r1,r2⟩
 ·omega
 refine szTermS_of (λk _=>szTerm_spec k) (ht.ext a6) hs r0 r1 λw2 r' ba bc=>?_;have a2:=a6.trans ba;simp only[push_cast];refine zb (λ_=>hK _ a2) (λc'=>?_);rcases bc with h|⟨c2,c3,c4,n⟩
 ·omega
 have H:ds.length<=1048576:=oM
 have I:ts.length<=1048576:=oM
 refine Zw (hd.ext a2) H λw3 bv bb b9=>?_;have aj:=a2.trans bb;refine toTermS_of (λk _=>toTerm_spec k) (ht.ext aj) I n λw4 c5 aw bd=>?_;have b8:=aj.trans aw;refine spec_Solve_spec hz (b9.ext aw) bd λw6 b7 ax a9 bw=>?_;have a3:=b8.trans ax;have bz:=ax.size;have ay:∀b,b7.ownBlock=some b->b<w6.heap.size:=λb G=>a9.lt G;simp only[push_cast];refine toDeclS_own (hd.ext a3) H λw7 x0 a7 J a0=>?_;have ak:=a3.trans a7;have c0:=a7.size;have a1:∀b,x0.ownBlock=some b->b<w7.heap.size:=λb G=>(J.lt G).2;refine toTermS_own (λk _=>toTerm_own k) (ht.ext ak) I n λw8 x1 bj bu p a5=>?_;have a4:=ak.trans p;have c1:=p.size;refine W2 (J.sl.ext p) (kZ0 a5) oM (er.ext a4) λw10 ev i W B=>?_;have ac:=a4.trans i;have bn:=i.size;have z:Ext w6 w10:=a7.trans (p.trans i);simp only[push_cast];refine zq (λu w'=>u=[]/\Ext w10 w') (λC hC=>?_) ?_
 ·refine eqIntS_same W.ints (a9.ext z).ints λbf d=>?_;simp only[push_cast,Gc];exact zb (λh=>absurd rfl h) (λ_=>hC _ _ ⟨rfl,d⟩)
 rintro _ _ bf ⟨rfl,d⟩;have N:=ac.trans d;refine Zw (hd.ext N) H λbg bk m ao=>?_;have ad:=N.trans m;have a8:Ext w7 bg:=p.trans (i.trans (d.trans m));refine eqDeclS_same (ds:=ds) (J.sl.ext a8) ao λc6 q=>?_;simp only[push_cast,Gc];have O:=ad.trans q;refine toTermS_of (λk _=>toTerm_spec k) (ht.ext O) I n λbh br s b0=>?_;have ae:=O.trans s;have A:Ext w8 bh:=i.trans (d.trans (m.trans (q.trans s)));refine eqTermS_of (λk _=>yv0 k) ((kZ0 a5).ext A) b0 λb2 t=>?_;simp only[push_cast,Gc];have af:=ae.trans t;have j:=A.trans t;have f:Ext w10 b2:=d.trans (m.trans (q.trans (s.trans t)));have be:=j.size;have b4:=f.size;refine markDeclS_spec ((J.ext p).ext j) dC (by rw[y1];omega) λc7 E=>?_;rw[y1];have bo:=E.size;have al:=Xr (Xr a5 j λ_ _ h=>h) E λb G e=>by have:=a1 _ e;omega
 refine markTermS_spec (kidsT ts) al oM (by show _+4*(M.szT ts ts.length:Int)<_;omega) λL bt b6 Z _ _ _=>?_;have bp:=Z.size;have l:Same (λb=>x0.ownBlock=some b\/(w7.heap.size<=b/\b<w8.heap.size)) b2 L:=(E.mono λ_ _ h=> .inl h).trans (Z.mono λ_ _ h=> .inr h);have ag:Ext w L:=Ext.then af l λy hy=>by
  have:=a3.size;rcases hy with hy|hy
  ·have:=a0 y hy;omega
  ·omega
 have D:=a9.same ((Same.of_ext (z.trans f)).trans l) λb G e=>by
  have:=ay b G;rcases e with e|e
  ·have:=a0 _ e;omega
  ·omega
 have o:=W.same ((Same.of_ext f).trans l) λb G e=>by
  have:=B b G;rcases e with e|e
  ·have:=a1 _ e;omega
  ·omega
 have b5:w10.heap.size<=L.heap.size:=by have:=l.size;omega
 refine zq (λu w'=>u=[]/\Ext L w') (λC hC=>?_) ?_
 ·simp only[push_cast];refine zb (λa=>oM) (λ_=>?_);refine eqIntS_same o.ints D.ints λc8 aq=>?_;simp only[push_cast,Gc];exact zb (λh=>absurd rfl h) (λ_=>hC _ _ ⟨rfl,aq⟩)
 rintro _ _ c9 ⟨rfl,v⟩;have ah:=ag.trans v;refine markIntS_specX (k:=1) (o.ext v) oM oM λb3 Y bq X=>?_;have Q:Ext w b3:=Ext.then ah Y λy hy=>by have:=B y hy;have:=a4.size;omega
 have aa:=(D.ext v).same Y λb G e=>by have:=ay b G;have:=B b e;omega
 refine heldIntS_specX (k:=1) X.ints oM oM λca T=>?_;simp only[push_cast];refine zb (λa=>absurd a oM) (λ_=>?_);refine zb (λa=>absurd rfl a) (λ_=>?_);have R:=Q.trans T;refine Zw (hd.ext R) H λcb bl U ap=>?_;have S:=R.trans U;refine toTermS_of (λk _=>toTerm_spec k) (ht.ext S) I n λcc bs x b1=>?_;have ai:=S.trans x;refine W2 (ap.ext x) b1 oM (er.ext ai) λbi bm au az _=>?_;have g:Ext b3 bi:=T.trans (U.trans (x.trans au));simp only[push_cast];refine eqIntS_same az.ints (aa.ext g).ints λcd V=>?_;simp only[push_cast,Gc];refine zb (λh=>absurd rfl h) (λ_=>?_);refine heldIntS_specX (k:=1) (X.ext (g.trans V)).ints oM oM λce av=>?_;simp only[push_cast];refine zb (λa=>absurd a oM) (λ_=>?_);refine zb (λa=>absurd rfl a) (λ_=>?_);exact hK _ (Q.trans (g.trans (V.trans av)))
end
end Go.Proofs.YtolbhkcajhlllaaGreatDoor
section
namespace Go.Proofs.YtolbhkcajhlllaaGreatDoor
open Go Go.Vc Go.Proofs
open Go.RowKit
theorem laid_at {l:List (String×DataW Unit)} {W:World} (h:laidMet P l W):∀k,laidMet P (l.drop k) W
 |0=>h
 |k+1=>by
  have a:=laid_at h k;rw[<-List.tail_drop];cases b:l.drop k with
  |nil=>rw[b] at a;exact a
  |cons x r=>rw[b] at a;exact a.tail
theorem UW: "*" ++ "errors.errorString" = "*errors.errorString" :=dC
theorem k90 (u:TypeId) (h:P.typeName? 3 u=some "*errors.errorString"):u=yT:=
 typeName_ptr_named (nm:= "errors.errorString") (by rw[UW];kernel_rfl) rK dC u (by rw[UW];exact h)
def ifaceB (t:TypeId):Bool:=match P.underlying t with
 |some (.interface _)=>true
 |_=>false
theorem kt0 {t:TypeId} (h:ifaceB t=true):∃ms,P.underlying t=some (.interface ms):=by
 unfold ifaceB at h;split at h
 ·exact⟨_,by assumption⟩
 ·cases h
theorem xd0:∃ms,P.underlying xt=some (.interface ms):=kt0 rK
def fieldB (t u:TypeId):Bool:=match P.underlying t with
 |some (.struct fs)=>match fs.toList with
  |[f]=>decide (f.type=u)&&decide (f.offset=0)
  |_=>false
 |_=>false
theorem kz0 {t u:TypeId} (h:fieldB t u=true):∃f,P.underlying t=some (.struct #[f])/\f.type=u/\f.offset=0:=by
 unfold fieldB at h;split at h
 ·rename_i fs a;split at h
  ·rename_i f b;simp only[K3,decide_eq_true_eq] at h;refine⟨f,?_,h⟩;rw[a];congr 2;exact Gx.1 (by simpa using b)
  ·cases h
 ·cases h
theorem ka0:P.underlying yT=some (.pointer 420):=rK
theorem yc0:∃f,P.underlying 420=some (.struct #[f])/\f.type=yp/\f.offset=0:=kz0 rK
theorem yd0:P.underlying yp=some .string:=rK
theorem Y00:P.cellsOf 420=1/\P.cellsOf yp=1:=⟨rK,rK⟩
theorem vars_len {H:Type} {enc:TypeId×Value->H} {w:World} {sp:Nat->Bool}:∀{ns:List String} {gs:List (DataW H)} {ps:List MemPlace},DataW.TrodVars enc P w sp ns gs ps->gs.length=ns.length
 |[],[],_,_=>rfl
 |[],_::_,_,h=>h.elim
 |_::_,[],_,h=>h.elim
 |_::_,_::_,_,⟨_,_,_,_,_,_,_,_,_,_,hs,_⟩=>by rw[gw,gw,vars_len hs]
theorem vlist5 {α:Type} {l:List α} (h:l.length=5):∃a b c d e,l=[a,b,c,d,e]:=by
 match l,h with
 |[a,b,c,d,e],_=>exact⟨a,b,c,d,e,rfl⟩
end Go.Proofs.YtolbhkcajhlllaaGreatDoor
end
section
namespace Go.Proofs.YtolbhkcajhlllaaGreatDoor
open Go Go.Vc Go.Proofs
open Go.RowKit
theorem XM {x y:String×DataW Unit} {r:List (String×DataW Unit)} {w:World} (h:laidMet P (x::y::r) w):laidMet P (x::r) w:=by
 obtain⟨ps,u,j,c⟩:=h;obtain⟨n,d⟩:=x;obtain⟨m,e⟩:=y;obtain⟨g,t,cs,fuel,p,q,o,a2,a3,a4,s,rfl⟩:=u;obtain⟨g2,t2,f,i,p2,l,_,_,_,_,k,rfl⟩:=s;have a:=pa (pt (MemPlace.row ⟨g,0,none⟩ cs.size++p)) (List.sublist_append_right (MemPlace.row ⟨g2,0,none⟩ f.size++p2) l);exact⟨_,⟨g,t,cs,fuel,p,l,o,a2,a3,a4,k,rfl⟩,List.Nodup.sublist a j,λb off hm=>c b off (a.subset hm)⟩
theorem jE {W:World} {g:Nat} {a c:Addr} (h:Sent W g a) (b:Sent W g c):a=c:=by
 unfold Sent at h b;rw[h] at b
 injection b with b
 injection b with _ b
 injection b with b
 exact y2 b
theorem Z1 {j k:String} {t0 t1:List UInt8} {r:List (String×DataW Unit)} {W:World} {g0 g1:Nat} (h:laidMet P ((j,.iface "*errors.errorString" (.ptr (.agg [.lit (.string t0)])))::(k,.iface "*errors.errorString" (.ptr (.agg [.lit (.string t1)])))::r) W)
  (c:P.globalNamed j=some g0) (g:(P.globals[g0]?).map (·.type)=some xt) (d:P.globalNamed k=some g1) (i:(P.globals[g1]?).map (·.type)=some xt):∃a b,Sent W g0 a/\Sent W g1 b/\a≠b/\RowA W a/\RowA W b:=by
 obtain⟨ms,hi⟩:=xd0;obtain⟨f,m,n,o⟩:=yc0;obtain⟨a0,l,u,s1,c0,c1,s,t,v0,v1,_,_,_,_,_,_,e,p,q⟩:=laid_sentinels2 h c g d i hi k90 ka0 m n o yd0 Y00.1 Y00.2;exact⟨a0,l,by unfold Sent;simpa using World.var?_cell c v0 0,by unfold Sent;simpa using World.var?_cell d v1 0,e,⟨c0,s,p⟩,⟨c1,t,q⟩⟩
theorem er_of {nr nb nt nn nm:String} {tr tb tt tn tm:List UInt8} {r l:List (String×DataW Unit)} {W:World} (h:laidMet P l W) (k:Nat)
  (B:l.drop k=(nr,.iface "*errors.errorString" (.ptr (.agg [.lit (.string tr)])))::(nb,.iface "*errors.errorString" (.ptr (.agg [.lit (.string tb)])))::(nt,.iface "*errors.errorString" (.ptr (.agg [.lit (.string tt)])))::(nn,.iface "*errors.errorString" (.ptr (.agg [.lit (.string tn)])))::(nm,.iface "*errors.errorString" (.ptr (.agg [.lit (.string tm)])))::r)
  (er:P.globalNamed nr=some xP) (eb:P.globalNamed nb=some j7) (et:P.globalNamed nt=some yM) (en:P.globalNamed nn=some ji) (em:P.globalNamed nm=some qq)
  (fr:(P.globals[xP]?).map (·.type)=some xt) (fb:(P.globals[j7]?).map (·.type)=some xt) (ft:(P.globals[yM]?).map (·.type)=some xt) (fn:(P.globals[ji]?).map (·.type)=some xt) (fm:(P.globals[qq]?).map (·.type)=some xt):
  ∃at_ an am ar ab,Er W at_ an am ar ab:=by
 have a:=laid_at h k;rw[B] at a;obtain⟨ar,ab,sr,sb,_,rr,_⟩:=Z1 a er fr eb fb;have b:=XM a;obtain⟨w,at_,j,st,C,_,rt⟩:=Z1 b er fr et ft;have q:=XM b;obtain⟨x,an,m,sn,D,_,rn⟩:=Z1 q er fr en fn;obtain⟨y,am,n,sm,E,_,rm⟩:=Z1 (XM q) er fr em fm;have c:=b.tail;obtain⟨z,u,o,g,F,_⟩:=Z1 c et ft en fn;obtain⟨A,s,p,d,G,_⟩:=Z1 (XM c) et ft em fm;obtain⟨v,t,i,f,n6,_⟩:=Z1 c.tail en fn em fm;obtain rfl:=jE j sr;obtain rfl:=jE m sr;obtain rfl:=jE n sr;obtain rfl:=jE o st;obtain rfl:=jE p st;obtain rfl:=jE g sn;obtain rfl:=jE i sn;obtain rfl:=jE d sm;obtain rfl:=jE f sm;exact⟨_,_,_,_,ab,st,sn,sm,⟨sr,sb,id,id⟩,rt,rn,rm,rr,λe=>F e.symm,λe=>G e.symm,λe=>n6 e.symm,C,D,E⟩
end Go.Proofs.YtolbhkcajhlllaaGreatDoor
end
end
