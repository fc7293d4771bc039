import Derived.Test.YtokflbdfnbppjaaGreatDoorWvbP13
import Derived.WalkKit
import Derived.ProofKit
import Derived.OpenShut
import Derived.ShutString
import Derived.ChangeOld
import Derived.JoinedOf
import Derived.OpenVars
import Derived.MakeChecks
import Derived.Stop.LaidErr
import Derived.Stop.LaidTwo
/- A part of the proof. -/
set_option linter.all false
namespace Go.Proofs.YtokflbdfnbppjaaGreatDoor
open Go Go.Vc Go.Proofs
section
variable {w w':World} {K:Value->World->Prop} {F F' G H H2 S:Nat->Prop} {n b:Nat} {v tv dv mv f:Value} {t:M.Tm} {ts us:List M.Tm} {d:M.Dcl} {ms:List (Int×Int)} {c c' e:List M.Lay}
theorem ctx_ne (h:M.ctxOk c=true):c≠[]:=PT (by have:=(M.ctx_iff.1 h).1;omega)
theorem stD {a:Nat} {x:Int} {y:ByteArray} (h:Blk w a [.string y,.int .i64 x] zy):zf P zy (.pointer (some ⟨a,0,none⟩)) w K=K (.agg ⟨[.string y,.int .i64 x]⟩) w:=h.ldAgg XF0
theorem VA0 {ms:List (Int×Int)} {i:Nat} {x y:Int} (h:OwnP P y9 w mv ms) (c:i<ms.length) (e:ms.getD i (0,0)=(x,y)) {z:Int}
  (d:∀w',OwnP P y9 w' mv (ms.set i (x,z))->Same (λb=>mv.ownBlock=some b) w w'->w'.heap.size=w.heap.size->K undef w'):zm P ze (.pointer (some ((eaddr mv 2 i).add 1))) (.int .i64 z) w K:=by
 refine Own.stCell h (x:= .int .i64 z) rfl rfl YV (i:=i) (j:=1) (by rw[X0];exact c) dC λw1 a hs f=>d w1 ?_ hs f;rw[M.getD_map _ c _ (0,0),e] at a;unfold OwnP;rw[pY];exact a
theorem LstH.st {i:Nat} {cs:List Value} (h:LstH H w tv ts) (n:i<ts.length) (c:TmR H w cs t) (m:∀x,tv.ownBlock=some x->¬H x)
  (p:∀w',Same (λx=>tv.ownBlock=some x) w w'->w'.heap.size=w.heap.size->LstH H w' tv (ts.set i t)->K undef w'):zm P za (.pointer (some (eaddr tv 5 i))) (.agg ⟨cs⟩) w K:=by
 obtain⟨css,r,q,d⟩:=h;refine own_stEl r dC (yl c) (one_tms (css:=[cs]) (ks:=[t]) rfl (λi n=>by
  have:i=0:=(by simpa using n);subst this;exact c) cs (by simp)) zp oM λw1 f a k=>p w1 a k ⟨css.set i cs,f,by simp[q],λj o=>?_⟩
 rw[gL] at o;rw[q0,PY,q0 (l:=ts.set i t),PY];by_cases b:i=j
 ·subst b;rw[if_pos rfl,if_pos rfl,if_pos oM,if_pos oM];exact c.same a λx g _ e=>m x e g
 ·rw[if_neg b,if_neg b,<-q0,<-q0];exact(d j o).same a λx g _ e=>m x e g
theorem Wn0:TmR H w yK0 (.mk 0 0 0 M.nada []):=TmR.of (t:= .mk 0 0 0 M.nada []) TmsR.nil
theorem Z90 {α:Type} {l:List α} {x y:α}:(l++[x]).set l.length y=l++[y]:=by simp[PE]
theorem CtxAssert_spec (hv:LaysR F w v c) (ht:TermR G w tv t) (hb:CtxB c) (hK:∀w' v',Ext w w'->LaysR (λx=>w.heap.size<=x) w' v' (chg c (M.addT c t)).1->K (.tuple #[v',.bool (chg c (M.addT c t)).2]) w'):
  vcall P X1 #[v,tv] w K:=by
 apply ql0;obtain⟨cs,rfl,H⟩:=ht.cells;refine zx λb1 w1 am A ap a0=>?_
 try simp only[push_cast]
 refine changed_spec (c':=M.addT c t) (hv.ext A) hb (λr=>?_) (λw2 b dv tv mv K1 B r h2 ab=>?_) λw2 v1 B ad=>?_
 ·have hc:=ctxB_of r;have f:=(M.ctx_iff.1 r).2.2.2.1;exact⟨by rw[M.addT_len];exact hc.len,by rw[M.addT_decL (ctx_ne r)];exact hc.dec,by rw[M.addT_terL (ctx_ne r),k6];simp;omega⟩
 ·simp only[push_cast,gD,Gf];apply y70;have s:=ctx_ne r;have hlen:=hb.len;have ao:=(M.ctx_iff.1 r).2.2.2.1;have a6:0<c.length:=gG.2 s;have hg:aggB P za cs.length=true:=by rw[yl H];exact zp
  have z1:=A.size;have a5:=(H.weaken (F':=λx=>x<w1.heap.size) λx _ h=>oM).ext A;refine zR (λu w'=>u=[]/\Same (λx=>w1.heap.size<=x) w2 w'/\∃al,StkR w1.heap.size w' b dv al mv (M.decL c) (M.terL c++[t]) (M.markL c)) (λJ hJ=>?_) ?_
  ·refine zR (λu w'=>(∃q,u=[.bool q])/\Ext w2 w') (λJ1 a9=>?_) ?_
   ·refine zu λw3 k _=>?_;refine⟨?_,trivial⟩;refine Wf Jg0 λb4 T ac d ai o=>?_;replace o:Blk T b4 [.bool false] qI:=o;have e4:=k.trans d;have z3:=k.size;have fin:∀(p q:Bool),zm P qI (.pointer (some ⟨b4,0,none⟩)) (.bool p) T λ_ R=>(zm P qI (.pointer (some ⟨b4,0,none⟩)) (.bool q) R λ_ g=>zf P qI (.pointer (some ⟨b4,0,none⟩)) g λt4 w7=>w7=g/\J1 [t4] g)/\True:=λp q=>by
     refine o.st (i:=0) rfl rfl Ji0 rfl λR X aj U=>⟨?_,trivial⟩;refine U.st (i:=0) rfl rfl Ji0 rfl λg l ak z=>?_;replace z:Blk g b4 [.bool q] qI:=z;simp only[push_cast,z.ld0,true_and];have e6:Ext w2 g:=Ext.then (Ext.then e4 X λy hy=>by subst hy;omega) l λy hy=>by subst hy;omega
     exact a9 _ _ ⟨⟨_,rfl⟩,e6⟩
    exact⟨fin true false,fin false true,trivial⟩
   ·rintro _ _ w3 ⟨⟨q,rfl⟩,k⟩;have E:=h2.ext k;have a8:=a0.ext (B.trans k);have c3:=a5.ext (B.trans k);have S:∀x,tv.ownBlock=some x->¬x<w1.heap.size/\¬x<w1.heap.size:=λx a=>⟨λe=>by have:=(h2.nt x a).1;omega,λe=>by have:=(h2.nt x a).1;omega⟩;have grown:∀{T R:World} {m:Value} {us:List M.Tm},Ext w3 T->Same (λx=>tv.ownBlock=some x) T R->(∀x,m.ownBlock=some x->tv.ownBlock=some x\/w3.heap.size<=x)->LstH (λx=>x<w1.heap.size) R m us->∀{J:World->Prop},
      (∀g,Same (λx=>w1.heap.size<=x) w2 g->StkR w1.heap.size g b dv m mv (M.decL c) us (M.markL c)->J g)->zm P zb (.pointer (some ⟨b,1,none⟩)) m R λ_ g=>J g:=λ{T R m us} d L W C {J} aa=>by
     have f:=E.ext d;have z3:=k.size;have lb:=E.blk.lt;have nw:=E.new;have ldv:∀x,dv.ownBlock=some x->x<w3.heap.size:=λx a=>(Own.lt E.dec a).2;have lmv:∀x,mv.ownBlock=some x->x<w3.heap.size:=λx a=>(Own.lt E.mar a).2;have q5:=f.blk.same L λe=>(f.nt _ e).2.1 rfl;refine q5.st (i:=1) C.tms.cellsV C.tms.one qr rfl λg l ak z=>?_;have D:∀x,m.ownBlock=some x->w1.heap.size<=x/\x≠b/\dv.ownBlock≠some x/\mv.ownBlock≠some x:=λx a=>by
      rcases W x a with e|e
      ·exact⟨(f.nt x e).1,(f.nt x e).2.1,(f.nt x e).2.2,λY=>(f.nm x Y).2.2.2 e⟩
      ·exact⟨oM,oM,λY=>by have:=ldv x Y;omega,λY=>by have:=lmv x Y;omega⟩
     refine aa g (((Same.of_ext (k.trans d)).trans (L.mono λx _ a=>(f.nt x a).1)).trans (l.mono λx _ a=>oM)) ⟨z,(f.dec.same L λx a e=>(f.nt x e).2.2 a).same l λx a e=>(f.nd x a).2 e,C.same l (λx a e=>(D x a).2.1 e) (λx a _ e=>oM),(Own.same f.mar L λx a e=>(f.nm x a).2.2.2 e).same l λx a e=>(f.nm x a).2.1 e,nw,f.nd,λx a=>⟨(D x a).1,(D x a).2.1,(D x a).2.2.1⟩,λx a=>⟨(f.nm x a).1,(f.nm x a).2.1,(f.nm x a).2.2.1,λe=>(D x e).2.2.2 a⟩⟩
    refine zI (λ_=>?_) (λ_=>?_)
    ·simp only[push_cast,E.blk.ld1,E.ter.tms.len];refine xD yS xe zG rfl rfl dC λb4 T ac d ai o=>?_;refine LstH.app (H2:=λx=>x<w1.heap.size) (us:=[.mk 0 0 0 M.nada []]) ((E.ter.ext d)) S (o.sl1k rfl) rfl (λi hi=>?_) (by simp;omega) λR m X W C=>?_
     ·have:i=0:=(by simpa using hi);subst this;exact Wn0
     have z4:=d.size
     try simp only[push_cast]
     have a3:=C.weaken (F:=λx=>x<w1.heap.size) λx a _=>a.1.elim id id;refine grown d X (λx a=>(W x a).imp id λh=>oM) a3 λg N j=>?_;have Z:Ext w1 g:=Ext.then B N λx a=>a;rw[(a0.ext Z).ldAgg hg];have a2:(M.terL c).length<(M.terL c++[M.Tm.mk 0 0 0 M.nada []]).length:=(by simp);simp(disch:=first|(simp only[push_cast])|omega|(simp only[Int.ofNat_lt];exact a2)) only[push_cast,j.ter.tms.iaddr,gm];refine LstH.st j.ter a2 (a5.ext Z) (λx a e=>by have:=(j.nt x a).1;omega) λw7 O aq a4=>?_;rw[Z90] at a4;refine hJ _ _ ⟨rfl,N.trans (O.mono λx _ a=>(j.nt x a).1),m,j.blk.same O λe=>(j.nt _ e).2.1 rfl,j.dec.same O λx a e=>(j.nt x e).2.2 a,a4,Own.same j.mar O λx a e=>(j.nm x a).2.2.2 e,j.new,j.nd,j.nt,j.nm⟩
    ·refine zu λT d _=>?_;have f:=E.ext d;have o:=a8.ext d;simp only[push_cast,f.blk.ld1,true_and,o.ldAgg hg];refine xD yS xe zG rfl (yl H) dC λb5 R an I aj U=>?_;have h5:=f.ext I;simp only[push_cast,h5.blk.ld1,true_and,and_self];refine LstH.app (H2:=λx=>x<w1.heap.size) (us:=[t]) h5.ter S (U.sl1k (yl H)) rfl (λi hi=>?_) (by simp;omega) λg a7 l ag ae=>?_
     ·have:i=0:=(by simpa using hi);subst this;exact(c3.ext d).ext I
     have z4:=d.size;have z5:=I.size
     try simp only[push_cast,true_and]
     exact grown (d.trans I) l (λx a=>(ag x a).imp id λh=>oM) (ae.weaken (F:=λx=>x<w1.heap.size) λx a _=>a.1.elim id id) λw7 ah n=>hJ _ _ ⟨rfl,ah,_,n⟩
  ·rintro _ _ g ⟨rfl,N,a7,j⟩;refine last_spec j (by rw[M.markL_len];exact a6) λw7 a1=>?_;have n:=j.ext a1;have V:(M.markL c).length-1<(M.markL c).length:=by rw[M.markL_len];omega
   simp(disch:=first|(simp only[push_cast])|exact V) only[push_cast,n.mar.pairs.load1];rw[M.markL_len,M.markL_last s];rw[M.markL_len] at V;rw[zJ oM oM];refine VA0 (i:=c.length-1) n.mar (by rw[M.markL_len];exact V) (M.markL_last s) λw8 af Q ar=>?_;refine ab w8 dv a7 mv _ ((N.trans (Same.of_ext a1)).trans (Q.mono λx _ a=>(n.nm x a).1)) ?_;rw[M.addT_decL s,M.addT_terL s,M.markL_addT s];exact⟨n.blk.same Q λe=>(n.nm _ e).2.1 rfl,n.dec.same Q λx a e=>(n.nm x e).2.2.1 a,n.ter.same Q (λx a e=>(n.nm x e).2.2.2 a) (λx a _ e=>by have:=(n.nm x e).1;omega),af,n.new,n.nd,n.nt,n.nm⟩
 ·simp only[push_cast];have z1:=A.size;exact hK _ _ (A.trans B) (ad.weaken λx a _=>oM)
end
section
variable {w w':World} {K:Value->World->Prop} {F F' G H S:Nat->Prop} {n b:Nat} {v va vb f:Value} {t:M.Tm} {ts us:List M.Tm} {d:M.Dcl} {ds es:List M.Dcl} {c e:List M.Lay}
def strT (P:Program) (t:TypeId):Bool:=match P.underlying t with
 |some .string=>true
 |_=>false
def intT (P:Program) (t:TypeId):Bool:=match P.underlying t with
 |some (.int .i64)=>true
 |_=>false
def eqD2 (P:Program) (t:TypeId):Bool:=(match(P.fieldsOf t).toList with
 |[f,g]=>decide (f.name≠ "_")&&decide (g.name≠ "_")&&Nat.beq f.offset 0&&Nat.beq g.offset 1&&strT P f.type&&intT P g.type
 |_=>false)&&(match P.underlying t with
 |some (.struct _)=>true
 |_=>false)&& !P.stoodInHeld t&& !P.eqGuardType P.depth t
theorem Qs {P:Program} {t:TypeId} (h:oneB P t=true) {cs:Array Value} {off:Nat} {v:Value} (a:cs[off]?=some v):(part t cs off).run P w= .ok v w:=by
 simp only[part,Sem.run_bind,zw0 h,Result.andThen_ok,gF,if_false,a,Sem.run_pure]
theorem WH0 {P:Program} {t:TypeId} (h:strT P t=true):P.underlying t=some .string:=by
 unfold strT at h;split at h
 ·assumption
 ·cases h
theorem WY0 {P:Program} {t:TypeId} (h:intT P t=true):P.underlying t=some (.int .i64):=by
 unfold intT at h;split at h
 ·assumption
 ·cases h
theorem Qv0 {P:Program} {t:TypeId} (h:eqD2 P t=true) (cc:Bool) (s1 s2:ByteArray) (a b:Int):zq P .neq t cc (.agg ⟨[.string s1,.int .i64 a]⟩) (.agg ⟨[.string s2,.int .i64 b]⟩) w K=K (.bool (decide ((s1,a)≠(s2,b)))) w:=by
 unfold eqD2 at h;simp only[K3,gZ] at h;obtain⟨⟨⟨c,k⟩,r⟩,s⟩:=h;have hu:P.underlying t=some (.struct (P.fieldsOf t)):=by
  unfold Program.fieldsOf;split at k
  ·rename_i fs e;rw[e]
  ·cases k
 split at c
 ·rename_i f g d;simp only[K3,decide_eq_true_eq] at c;obtain⟨⟨⟨⟨⟨p,a2⟩,a3⟩,a4⟩,a5⟩,q⟩:=c;have u:=gp a3;have x:=gp a4;have n:=WH0 a5;have o:=WY0 q;have l:oneB P f.type=true:=by unfold oneB;rw[n]
  have m:oneB P g.type=true:=by unfold oneB;rw[o]
  refine xc (run_eqGuard_agg w .neq t _ _ _ _ s) ?_;rw[run_neq_struct,run_equalIn_agg w 9999 t _ _ hu r,d];simp only[Op.eqFields,p,a2,ne_eq,not_false_eq_true,if_true,Sem.run_bind,u,x];rw[Qs l (v:= .string s1) rfl];simp only[Result.andThen_ok];rw[Qs l (v:= .string s2) rfl];simp only[Result.andThen_ok];rw[run_equalIn_string w 9998 f.type s1 s2 n];simp only[Result.andThen_ok];rw[jE0];by_cases i:s1=s2
  ·subst i;simp only[decide_true,ph,gF,if_false,Sem.run_bind];rw[Qs m (v:= .int .i64 a) rfl];simp only[Result.andThen_ok];rw[Qs m (v:= .int .i64 b) rfl];simp only[Result.andThen_ok];rw[run_equalIn_int w 9998 g.type .i64 .i64 a b o];simp only[Result.andThen_ok];by_cases j:a=b
   ·subst j;simp
   ·simp[j]
  ·simp[i]
 ·cases c
theorem U30:eqD2 P zy=true:=rK
theorem EqualDecl_spec (k:DclsR F w va ds) (o:DclsR G w vb es) (n:∀w',Ext w w'->K (.bool (decide (ds=es))) w'):vcall P xG #[va,vb] w K:=by
 apply Zu;have no:∀w',Ext w w'->ds≠es->K (.bool false) w':=λw' h m=>by
  have:=n w' h;rwa[decide_eq_false m] at this
 have t:=k.small;simp only[push_cast,k.len,o.len];refine zh (λe=>no _ (Same.refl _ _) λh=>e (by rw[h])) (λel=>?_);have el:ds.length=es.length:=oM
 refine vloop_up ds.length (λi x w'=>x=[.int .i64 i]/\Ext w w'/\∀j,j<i->ds.getD j (M.nada,0)=es.getD j (M.nada,0)) ⟨rfl,Same.refl _ _,λj p=>absurd p oM⟩ ?_;rintro i _ _ u C v ⟨rfl,f,b⟩ s;simp only[push_cast];refine zh (λa=>?_) (λa=>?_)
 ·refine zu λy l _=>?_;have g:=f.trans l;have c:=k.ext g;have d:=o.ext g;simp(disch:=first|(simp only[push_cast])|omega) only[push_cast,c.iaddr,d.iaddr,gm,c.load,d.load,true_and,Qv0 U30];refine zh (λh=>no _ g λm=>h (by rw[m])) (λh=>?_);rw[inc64' oM];refine s oM _ _ ⟨rfl,g,λj p=>?_⟩;by_cases e:j<i
  ·exact b j e
  ·have:j=i:=oM;subst this;exact GG.1 h
 ·have:ds=es:=Ge el λj q r=>by
   have:=b j oM;rwa[q0,Q1 q,q0,Q1 r] at this
  have:=n u f;rwa[decide_eq_true ‹ds=es›] at this
theorem EqualTerms_spec (m:TmsR F w va ts) (u:TmsR G w vb us) (H:∀w',Ext w w'->K (.bool (decide (ts=us))) w'):
  vcall P yd #[va,vb,.func (.func xx) #[] #[]] w K:=by
 apply yT;have no:∀w',Ext w w'->ts≠us->K (.bool false) w':=λw' h U=>by
  have:=H w' h;rwa[decide_eq_false U] at this
 have X:=m.small;simp only[push_cast,m.len,u.len];refine zh (λe=>no _ (Same.refl _ _) λh=>e (by rw[h])) (λel=>?_);have el:ts.length=us.length:=oM
 refine vloop_up ts.length (λi x w'=>x=[.int .i64 i]/\Ext w w'/\∀j,j<i->ts.getD j default=us.getD j default) ⟨rfl,Same.refl _ _,λj I=>absurd I oM⟩ ?_;rintro i _ _ D C hi ⟨rfl,c,f⟩ R;have o:=m.ext c;have z:=u.ext c;simp only[push_cast];refine zh (λa=>?_) (λa=>?_)
 ·simp(disch:=first|(simp only[push_cast])|omega) only[push_cast,o.iaddr];refine o.load zp oM λx Y=>?_;obtain⟨cx,rfl,g⟩:=Y.cells;refine zB zG λb4 w4 S q V M=>?_;refine stTerm M rfl ((g.weaken (F':=λb=>b<D.heap.size) λb _ h=>h).ext q) λE A Z N=>?_;have l:Ext D E:=Ext.then q A λy v=>by subst v;omega
  have p:=z.ext l;simp(disch:=first|(simp only[push_cast])|omega) only[push_cast,p.iaddr];refine p.load zp oM λy v=>?_;obtain⟨cy,rfl,k⟩:=v.cells;refine zB zG λb6 w6 T r W O=>?_;refine stTerm O rfl ((k.weaken (F':=λb=>b<E.heap.size) λb _ h=>h).ext r) λw7 B a0 Q=>?_;have d:Ext E w7:=Ext.then r B λy v=>by subst v;omega
  rw[(N.ext d).ldAgg (t:=za) (by rw[yl g];exact zp),Q.ldAgg (t:=za) (by rw[yl k];exact zp)];simp only[push_cast,gD,Gf];have n:=c.trans (l.trans d);refine TermSame_spec _ (g.ext (l.trans d)).term (k.ext d).term λw8 s=>?_;simp only[push_cast];refine zI (λb=>?_) (λb=>?_)
  ·rw[gZ,decide_eq_false_iff_not] at b;exact no _ (n.trans s) λh=>b (by rw[h])
  ·rw[Gq,decide_eq_true_eq] at b;rw[inc64' oM];refine R oM _ _ ⟨rfl,n.trans s,λj I=>?_⟩;by_cases e:j<i
   ·exact f j e
   ·have:j=i:=oM;subst this;exact b
 ·have:ts=us:=Ge el λj J L=>by
   have:=f j oM;rwa[q0,Q1 J,q0,Q1 L] at this
  have:=H D c;rwa[decide_eq_true ‹ts=us›] at this
theorem jO0 {d1 d2 t1 t2:Value} (m:DclsR F w d1 ds) (n:TmsR F w t1 ts) (o:DclsR G w d2 es) (p:TmsR G w t2 us) (k:∀w',Ext w w'->K (.bool (decide ((ds,ts)=(es,us)))) w'):
  vcall P YZ #[.agg ⟨[d1,t1]⟩,.agg ⟨[d2,t2]⟩] w K:=by
 apply qd0;refine zx λb1 w1 q i s g=>?_;refine zx λb2 w2 r d t c=>?_;have l:=g.ext d;have f:=i.trans d;simp only[push_cast,l.ld0,c.ld0];refine EqualDecl_spec (m.ext f) (o.ext f) λx b=>?_;have e:=f.trans b;refine zh (λa=>?_) (λa=>?_)
 ·have u:=l.ext b;have v:=c.ext b;simp only[push_cast,u.ld1,v.ld1];refine EqualTerms_spec (n.ext e) (p.ext e) λy j=>?_;have:=k y (e.trans j);rwa[show decide ((ds,ts)=(es,us))=decide (ts=us) from decide_eq_decide.2 ⟨λh=>(Prod.ext_iff.1 h).2,λh=>by rw[a,h]⟩] at this
 ·have:=k x e;rwa[decide_eq_false (λh=>a (Prod.ext_iff.1 h).1)] at this
theorem CtxSame_spec (D:LaysR F w va c) (T:LaysR G w vb e) (S:∀w',Ext w w'->K (.bool (decide (c=e))) w'):vcall P je #[va,vb] w K:=by
 apply ku0;apply xV;have no:∀w',Ext w w'->c≠e->K (.bool false) w':=λw' h L=>by
  have:=S w' h;rwa[decide_eq_false L] at this
 have a0:c.length<=9223372036854775807:=by
  obtain⟨css,s,u,_⟩:=D;have:=s.small;rw[X0,u] at this;exact this
 simp only[push_cast,D.len,T.len];refine zh (λh=>no _ (Same.refl _ _) λL=>h (by rw[L])) (λel=>?_);have el:c.length=e.length:=oM
 refine vloop_up c.length (λi x w'=>x=[.int .i64 i]/\Ext w w'/\∀j,j<i->c.getD j ([],[])=e.getD j ([],[])) ⟨rfl,Same.refl _ _,λj U=>absurd U oM⟩ ?_;rintro i _ _ V C hi ⟨rfl,b,d⟩ X;have g:=(D.weaken (F':=λx=>x<w.heap.size) λx _ h=>h).ext b;have E:=(T.weaken (F':=λx=>x<w.heap.size) λx _ h=>h).ext b;simp only[push_cast];refine zh (λa=>?_) (λa=>?_)
 ·have n:i<c.length:=oM;simp(disch:=first|(simp only[push_cast])|omega) only[push_cast,g.iaddr];refine g.load qH n λd1 t1 l o=>?_;refine zB jr λb4 w4 Y H a1 v=>?_;refine v.stAgg (cs':=[d1,t1]) rfl qH (two_one l.one o.one) λW M a2 z=>?_;have Q:Ext V W:=Ext.then H M λy O=>by subst O;omega
  have k:=E.ext Q;simp(disch:=first|(simp only[push_cast])|omega) only[push_cast,k.iaddr];refine k.load qH oM λd2 t2 m p=>?_;refine zB jr λb6 w6 Z I a3 A=>?_;refine A.stAgg (cs':=[d2,t2]) rfl qH (two_one m.one p.one) λw7 N a4 B=>?_;have r:Ext W w7:=Ext.then I N λy O=>by subst O;omega
  have f:=Q.trans r;rw[(z.ext r).ldAgg (t:=zo) qH,B.ldAgg (t:=zo) qH];simp only[push_cast,gD,Gf];refine jO0 (l.ext f) (o.ext f) (m.ext r) (p.ext r) λw8 J=>?_;have R:=(b.trans f).trans J;simp only[push_cast];refine zI (λq=>?_) (λq=>?_)
  ·rw[gZ,decide_eq_false_iff_not] at q;exact no _ R λh=>q (by rw[h])
  ·rw[Gq,decide_eq_true_eq] at q;rw[inc64' oM];refine X n _ _ ⟨rfl,R,λj U=>?_⟩;by_cases ej:j<i
   ·exact d j ej
   ·have:j=i:=oM;subst this;exact q
 ·have:c=e:=Ge el λj s u=>by
   have:=d j oM;rwa[q0,Q1 s,q0,Q1 u] at this
  have:=S V b;rwa[decide_eq_true ‹c=e›] at this
end
section
variable {w w' w1 w2:World} {K:Value->World->Prop} {F F' G H H2 S:Nat->Prop} {n b k:Nat} {v lv tv dv f:Value} {t:M.Tm} {ts us:List M.Tm} {d:M.Dcl} {ds:List M.Dcl} {c e:List M.Lay} {tag:Nat->Nat} {css:List (Value×Value)}
theorem LaysR.load0 (h:LaysR F w v c) {t:TypeId} (f:oneB P t=true) {i:Nat} (e:i<c.length) (d:∀dv,DclsR F w dv (c.getD i ([],[])).1->K dv w):zf P t (.pointer (some ((eaddr v 2 i).add 0))) w K:=by
 obtain⟨css,a,g,b⟩:=h;rw[Sl.ldField a f (x:=(css.getD i (undef,undef)).1) (by rw[X0];omega) (by rw[M.getD_map _ oM _ (undef,undef)];rfl)];exact d _ (b i e).1
theorem LaysR.load1 (h:LaysR F w v c) {t:TypeId} (f:oneB P t=true) {i:Nat} (e:i<c.length) (d:∀tv,TmsR F w tv (c.getD i ([],[])).2->K tv w):zf P t (.pointer (some ((eaddr v 2 i).add 1))) w K:=by
 obtain⟨css,a,g,b⟩:=h;rw[Sl.ldField a f (x:=(css.getD i (undef,undef)).2) (by rw[X0];omega) (by rw[M.getD_map _ oM _ (undef,undef)];rfl)];exact d _ (b i e).2
theorem LaysR.taken (h:LaysR F w v c) {n:Nat} (f:n<=c.length):LaysR F w (cutV v n) (c.take n):=by
 obtain⟨css,a,b,d⟩:=h;refine⟨css.take n,by rw[GK];exact a.taken (by rw[X0];omega),by rw[gi,gi,b],λi e=>?_⟩;rw[gi] at e;rw[M.take_getD oM,M.take_getD oM];exact d i oM
theorem LaysR.cut (h:LaysR F w v c) (a:c≠[]) {t:TypeId} (d:elB P t 2=true) {kd:IntKind} {n:Nat} (j:n<=c.length):yY P t v none (some (.int kd n)) none w' K=K (cutV v n) w':=by
 obtain⟨css,b,f,g⟩:=h;have i:0<c.length:=gG.2 a;exact Sl.cut b (Sl.base b λe=>by have:=congrArg List.length e;rw[X0,pA] at this;omega) d (by rw[X0];omega)
theorem l10Decls_spec (E:LaysR F w v c) (s:CtxB c) (A:∀w' v',Ext w w'->DclsR (λx=>w.heap.size<=x) w' v' (M.decL c)->K v' w'):vcall P qM #[v] w K:=by
 apply jg0;have hlen:=s.len;refine qC YA XK λb w1 B l G n=>?_;have L:=l.size;have t:OwnD w1 (.slice (some ⟨b,0,none⟩) 0 0) []:=Blk.ownk (css:=[]) (by rw[Kp];exact n) (λx g=>by cases g) rfl oM;refine vloop_up c.length (λi u w'=> ∃lv,u=[lv,.int .i64 i]/\Ext w w'/\OwnD w' lv (M.decL (c.take i))/\∀x,lv.ownBlock=some x->w.heap.size<=x) ⟨_,rfl,l,t,λx g=>by have e:b=x:=gg g;omega⟩ ?_;rintro i _ _ w2 C I ⟨lv,rfl,d,m,j⟩ z;have k:=(E.weaken (F':=λx=>x<w.heap.size) λx _ h=>h).ext d;simp only[push_cast,k.len];refine zh (λa=>?_) (λa=>?_)
 ·have f:i<c.length:=oM;have H:=(ctxB_take s (i+1)).dec;rw[M.decL_take f,k6] at H;simp(disch:=first|(simp only[push_cast])|omega) only[push_cast,k.iaddr,gm];refine k.load0 xC0 f λdv D=>?_;refine OwnD.app m D oM λJ r q p y=>?_;rw[inc64' oM];refine z f _ _ ⟨r,rfl,Ext.then d q λx g=>j x g,by rw[M.decL_take f];exact y,λx g=>?_⟩;have z2:=d.size;rcases p x g with h|h
  ·exact j x h
  ·omega
 ·have o:i=c.length:=oM;subst o;rw[gA] at m;exact A _ _ d (m.dcls.weaken λx g _=>j x g)
theorem l10Terms_spec (L:LaysR F w v c) (A:CtxB c) (I:∀w' v',Ext w w'->TmsR (λ_=>True) w' v' (M.terL c)->K v' w'):vcall P ZG #[v] w K:=by
 apply jf0;have hlen:=A.len;refine qC yS xe λb w1 J l N n=>?_;have R:=l.size;have E:LstH (λx=>x<w.heap.size) w1 (.slice (some ⟨b,0,none⟩) 0 0) []:=⟨[],Blk.ownk (css:=[]) (by rw[Ko];exact n) (λx d=>by cases d) rfl oM,rfl,λi B=>absurd B (pB _)⟩;refine vloop_up c.length (λi u w'=> ∃lv,u=[lv,.int .i64 i]/\Ext w w'/\LstH (λx=>x<w.heap.size) w' lv (M.terL (c.take i))/\∀x,lv.ownBlock=some x->w.heap.size<=x) ⟨_,rfl,l,E,λx d=>by have e:b=x:=gg d;omega⟩ ?_;rintro i _ _ w2 C B ⟨lv,rfl,f,m,j⟩ H;have k:=(L.weaken (F':=λx=>x<w.heap.size) λx _ h=>h).ext f;simp only[push_cast,k.len];refine zh (λa=>?_) (λa=>?_)
 ·have g:i<c.length:=oM;have O:=(ctxB_take A (i+1)).ter;rw[M.terL_take g,k6] at O;simp(disch:=first|(simp only[push_cast])|omega) only[push_cast,k.iaddr,gm];refine k.load1 yI g λtv y=>?_;obtain⟨D,s,q,o⟩:=y;have z2:=f.size;refine LstH.app m (λx d=>⟨λe=>by have:=j x d;omega,λe=>by have:=j x d;omega⟩) s q o oM λQ z t r G=>?_;rw[inc64' oM];refine H g _ _ ⟨z,rfl,Ext.then f t λx d=>j x d,by rw[M.terL_take g];exact G.weaken λx d _=>d.1.elim id id,λx d=>?_⟩;rcases r x d with h|h
  ·exact j x h
  ·omega
 ·have p:i=c.length:=oM;subst p;rw[gA] at m;exact I _ _ f (m.tms.weaken λx _ _=>trivial)
theorem sized_take {i:Nat} (h:qm0 (M.decL c)):qm0 (M.decL (c.take i)):=λj a=>by
 have:=h j (by rw[M.decL_split c i,k6];omega);rw[M.decL_split c i] at this;rwa[M.app_getD a] at this
theorem spec_CtxOk_spec (D:LaysR F w v c) (B:CtxB c) (A:qm0 (M.decL c)) (U:∀w',Ext w w'->K (.bool (M.ctxOk c)) w'):vcall P k7 #[v] w K:=by
 apply X10;have hlen:=B.len;have no:∀w',Ext w w'->M.ctxOk c≠true->K (.bool false) w':=λw' he hn=>by
  have:=U w' he;rwa[Pu _|>.mp hn] at this
 refine zR (λu w'=>u=[]/\Ext w w'/\1<=c.length/\c.length<=6/\M.declOk (M.decL c)=true/\(M.terL c).length<=8) (λJ Z=>?_) ?_
 ·simp only[push_cast,D.len];refine zh (λE=>no _ (Same.refl _ _) λe=>by have:=(M.ctx_iff.1 e).1;omega) (λE=>?_);refine zh (λa2=>no _ (Same.refl _ _) λe=>by have:=(M.ctx_iff.1 e).2.1;omega) (λa2=>?_);refine l10Decls_spec D B λw1 v1 n N=>?_;refine spec_DeclOk_spec N A λw2 b=>?_;have H:=n.trans b
  try simp only[push_cast]
  refine zI (λa3=>no _ H λe=>by rw[(M.ctx_iff.1 e).2.2.1] at a3;cases a3) (λa3=>?_);refine l10Terms_spec (D.ext H) B λX v3 o S=>?_;simp only[push_cast,S.len];have T:=H.trans o;refine zh (λa4=>no _ T λe=>by have:=(M.ctx_iff.1 e).2.2.2.1;omega) (λa4=>?_);exact Z _ _ ⟨rfl,T,oM,oM,by simpa using a3,oM⟩
 rintro _ _ w1 ⟨rfl,n,E,a2,a3,a4⟩;refine vloop_up c.length (λi u w'=>u=[.int .i64 i]/\Ext w w'/\∀j,j<i->∀t,t∈(c.getD j ([],[])).2->M.tsort (M.decL (c.take (j+1))) t=0) ⟨rfl,n,λj V=>absurd V oM⟩ ?_;rintro i _ _ w2 C hi ⟨rfl,b,l⟩ Y;have h:=D.ext b;simp only[push_cast,h.len];refine zh (λa=>?_) (λa=>?_)
 ·have f:i<c.length:=oM;rw[inc64' oM,LaysR.cut h (gG.1 oM) yH (by omega:i+1<=c.length)];refine l10Decls_spec (h.taken (by omega:i+1<=c.length)) (ctxB_take B _) λX dv o O=>?_;refine vloop_up (c.getD i ([],[])).2.length (λj u w'=>u=[.int .i64 j]/\Ext X w'/\∀k,k<j->M.tsort (M.decL (c.take (i+1))) ((c.getD i ([],[])).2.getD k default)=0) ⟨rfl,Same.refl _ _,λk R=>absurd R oM⟩ ?_;rintro j _ _ w6 C1 V ⟨rfl,p,d⟩ L;have m:=o.trans p;have r:=h.ext m;simp(disch:=first|(simp only[push_cast])|omega) only[push_cast,r.iaddr,gm];refine r.load1 yI f λpv y=>?_;have a0:=y.small;simp only[push_cast,y.len];refine zh (λa5=>?_) (λa5=>?_)
  ·have g:j<(c.getD i ([],[])).2.length:=oM;refine r.load1 yI f λqv z=>?_;simp(disch:=first|(simp only[push_cast])|omega) only[push_cast,z.iaddr,gm];refine z.load zp g λx hx=>?_;refine spec_TermSort_spec (sized_take A) (O.ext p) hx λw7 s=>?_
   try simp only[push_cast]
   have I:=m.trans s;refine zh (λG=>no _ (b.trans I) λe=>G ((M.ctx_iff.1 e).2.2.2.2 i f _ (M.getD_mem g _))) (λG=>?_);rw[inc64' oM];refine L g _ _ ⟨rfl,p.trans s,λk R=>?_⟩;by_cases e:k<j
   ·exact d k e
   ·have:k=j:=oM;subst this;exact GG.1 G
  ·have g:j=(c.getD i ([],[])).2.length:=oM;refine Y f _ _ ⟨rfl,b.trans m,λk R t W=>?_⟩;by_cases e:k<i
   ·exact l k e t W
   ·have:k=i:=oM;subst this;obtain⟨q,hq,rfl⟩:=gl W;have:=d q oM;rwa[q0,Q1 hq] at this
 ·have Q:i=c.length:=oM;subst Q;have:=U _ b;rwa[M.ctx_iff.2 ⟨E,a2,a3,a4,l⟩] at this
structure LayO (n:Nat) (tag:Nat->Nat) (w:World) (lv:Value) (c:List M.Lay) (css:List (Value×Value)):Prop where
 row:Own P 0 2 zk w lv (css.map λp=>[p.1,p.2])
 len:css.length=c.length
 own:∀x,lv.ownBlock=some x->n<=x/\tag x=0
 dec:∀i,i<c.length->OwnD w (css.getD i (undef,undef)).1 (c.getD i ([],[])).1
 decn:∀i x,i<c.length->(css.getD i (undef,undef)).1.ownBlock=some x->n<=x/\tag x=3*i+1
 ter:∀i,i<c.length->LstH (λx=>n<=x/\tag x=3*i+2) w (css.getD i (undef,undef)).2 (c.getD i ([],[])).2
 tern:∀i x,i<c.length->(css.getD i (undef,undef)).2.ownBlock=some x->n<=x/\tag x=3*i+3
theorem LayO.nil (h:Blk w b [] zo) (d:n<=b):LayO n (λ_=>0) w (.slice (some ⟨b,0,none⟩) 0 0) [] []:=
 ⟨Blk.ownk (css:=[]) (by rw[k60];exact h) (λx c=>by cases c) rfl oM,rfl,λx c=>by have e:b=x:=gg c;omega,λi a=>absurd a (pB _),λi x a=>absurd a (pB _),λi a=>absurd a (pB _),λi x a=>absurd a (pB _)⟩
theorem LayO.ext (h:LayO n tag w lv c css) (hw:Ext w w'):LayO n tag w' lv c css:=⟨h.row.ext hw,h.len,h.own,λi a=>(h.dec i a).ext hw,h.decn,λi a=>(h.ter i a).ext hw,h.tern⟩
theorem LayO.lays (h:LayO n tag w lv c css):LaysR (λx=>n<=x) w lv c:=
 ⟨css,h.row.sl.weaken λx a _=>(h.own x a).1,h.len,λi b=>⟨(h.dec i b).dcls.weaken λx a _=>(h.decn i x b a).1,(h.ter i b).tms.weaken λx a _=>a.elim (λh=>h.1) λe=>(h.tern i x b e).1⟩⟩
open Classical in
theorem LayO.push {ty:Nat} {f:World} (h:LayO n tag f lv c css) (N:n<=f.heap.size) (he:Ext f w) (z:OwnD w dv ds) (r:∀x,dv.ownBlock=some x->f.heap.size<=x) (C:LstH H w tv ts)
  (hH:∀x,H x->f.heap.size<=x/\dv.ownBlock≠some x/\tv.ownBlock≠some x) (t:∀x,tv.ownBlock=some x->f.heap.size<=x/\dv.ownBlock≠some x) (E:c.length<=1000)
  (D:∀w' o u,Same (λx=>n<=x) w w'->LayO n u w' o (c++[(ds,ts)]) (css++[(dv,tv)])->K o w'):
  vbuildS P zk 1 [(0,.agg ⟨[dv,tv]⟩)] w λs w1=>vbi P .append [zk,zk] ty [lv,s] w1 K:=by
 refine xD qG qV jr rfl rfl dC λb w1 L g G y=>?_;have z0:=he.size;have Q:=g.size;have p:=he.trans g;have m:=h.len;refine Own.app1k (h.row.ext p) zC0 dC y rfl (two_one z.dcls.one C.tms.one) (by rw[X0];omega) (by rw[X0];omega) λo w2 B k A=>?_;have llt:∀x,lv.ownBlock=some x->x<f.heap.size:=λx a=>(h.row.lt a).2;refine D w2 o (λx=>if x<f.heap.size then tag x else if dv.ownBlock=some x then 3*c.length+1 else if tv.ownBlock=some x then 3*c.length+3 else if x<w1.heap.size then 3*c.length+2 else 0) ((Same.of_ext g).trans (k.mono λx _ a=>(h.own x a).1)) ⟨by rw[gu];exact B,by simp[m],λx a=>?_,λi j=>?_,λi x j a=>?_,λi j=>?_,λi x j a=>?_⟩
 ·rcases A x a with e|e
  ·refine⟨(h.own x e).1,?_⟩;simp only[if_pos (llt x e)];exact(h.own x e).2
  ·have I:dv.ownBlock≠some x:=λv=>by have:=(z.lt v).2;omega
   have J:tv.ownBlock≠some x:=λv=>by have:=C.lt v;omega
   refine⟨oM,?_⟩;simp only[if_neg (show¬x<f.heap.size by omega),if_neg I,if_neg J,if_neg (show¬x<w1.heap.size by omega)]
 ·rw[k6] at j;by_cases d:i<c.length
  ·rw[M.app_getD oM,M.app_getD d];exact((h.dec i d).ext p).same k λx a e=>by have:=(h.decn i x d a).2;have:=(h.own x e).2;omega
  ·have e:i=c.length:=by simp at j;omega
   rw[Q3 oM,Q3 oM,m,e,GC];exact(z.ext g).same k λx a e=>by have:=r x a;have:=llt x e;omega
 ·rw[k6] at j;by_cases d:i<c.length
  ·rw[M.app_getD oM] at a;have q:=h.decn i x d a;have l:=((h.dec i d).lt a).2;refine⟨q.1,?_⟩;simp only[if_pos l];exact q.2
  ·have e:i=c.length:=by simp at j;omega
   rw[Q3 oM,m,e,GC] at a;replace a:dv.ownBlock=some x:=a;have q:=r x a;refine⟨oM,?_⟩;simp only[if_neg (show¬x<f.heap.size by omega),if_pos a,e]
 ·rw[k6] at j;by_cases d:i<c.length
  ·rw[M.app_getD oM,M.app_getD d];have q:=(h.ter i d).weaken (F:=λx=>(n<=x/\tag x=3*i+2)/\x<f.heap.size) λx a m=>⟨a,m⟩;refine((q.ext p).same k (λx a e=>by have:=(h.tern i x d a).2;have:=(h.own x e).2;omega) λx a _ e=>by have:=a.1.2;have:=(h.own x e).2;omega).weaken λx a _=>⟨a.1.1,?_⟩;simp only[if_pos a.2];exact a.1.2
  ·have e:i=c.length:=by simp at j;omega
   rw[Q3 oM,Q3 oM,m,e,GC];have q:=C.weaken (F:=λx=>H x/\x<w.heap.size) λx a m=>⟨a,m⟩;refine((q.ext g).same k (λx a e=>by have:=(t x a).1;have:=llt x e;omega) λx a _ e=>by have:=(hH x a.1).1;have:=llt x e;omega).weaken λx a _=>?_;have q:=hH x a.1;have O:=a.2;refine⟨oM,?_⟩;simp only[if_neg (show¬x<f.heap.size by omega),if_neg q.2.1,if_neg q.2.2,if_pos (show x<w1.heap.size by omega)]
 ·rw[k6] at j;by_cases d:i<c.length
  ·rw[M.app_getD oM] at a;have q:=h.tern i x d a;have l:=(h.ter i d).lt a;refine⟨q.1,?_⟩;simp only[if_pos l];exact q.2
  ·have e:i=c.length:=by simp at j;omega
   rw[Q3 oM,m,e,GC] at a;replace a:tv.ownBlock=some x:=a;have q:=t x a;refine⟨oM,?_⟩;simp only[if_neg (show¬x<f.heap.size by omega),if_neg q.2,if_pos a,e]
theorem KH0 {b:Option Addr} {a c1:Nat}:zD P zo [(0,.slice b a c1)] w K=K (.agg ⟨[.slice b a c1,.slice none 0 0]⟩) w:=yp VL (us:=[[.slice b a c1]]) rfl rfl
theorem Wi0 (b:DclsR F w' dv ds):zD P zo [(0,dv)] w K=K (.agg ⟨[dv,.slice none 0 0]⟩) w:=by
 obtain⟨a,c,rfl,_⟩:=b.shape;exact KH0
@[push_cast] theorem z71:zD P zo [] w K=K (.agg ⟨[.slice none 0 0,.slice none 0 0]⟩) w:=yp VL (us:=[]) rfl rfl
theorem l10Copy_spec (hv:LaysR F w v c) (hb:CtxB c) (hf:∀i,i<c.length->∀t,t∈(c.getD i ([],[])).2->Ke0 t=true)
  (hK:∀w' lv tag css,Ext w w'->LayO w.heap.size tag w' lv c css->K lv w'):vcall P xw #[v] w K:=by
 apply kd0;have hlen:=hb.len;refine qC qG qV λb w1 ar U ax a9=>?_;have z1:=U.size;refine vloop_up c.length (λi u w'=> ∃lv tag css,u=[lv,.int .i64 i]/\Ext w w'/\LayO w.heap.size tag w' lv (c.take i) css) ⟨_,_,_,rfl,U,LayO.nil a9 oM⟩ ?_;rintro i _ _ w2 C hi ⟨lv,tag,css,rfl,z,h2⟩ hC;have z2:=z.size;have a0:=(hv.weaken (F':=λx=>x<w.heap.size) λx _ h=>h).ext z;simp only[push_cast,a0.len];refine zh (λa=>?_) (λa=>?_)
 ·have k:i<c.length:=oM;have l1:=(ctxB_take hb (i+1)).dec;have l2:=(ctxB_take hb (i+1)).ter;rw[M.decL_take k,k6] at l1;rw[M.terL_take k,k6] at l2;refine qC YA XK λb3 w3 au I ay aa=>?_;have z3:=I.size;have a1:=a0.ext I;have h3:OwnD w3 (.slice (some ⟨b3,0,none⟩) 0 0) []:=Blk.ownk (css:=[]) (by rw[Kp];exact aa) (λx d=>by cases d) rfl oM;simp(disch:=first|(simp only[push_cast])|omega) only[push_cast,a1.iaddr,gm];refine a1.load0 xC0 k λdq ae=>?_;refine OwnD.app h3 ae (by rw[pA];omega) λw4 dv Z ag Q=>?_;rw[Gf] at Q;have e4:Ext w2 w4:=Ext.then I Z λx d=>by have e:b3=x:=gg d;omega
  have z4:=Z.size;have n4:∀x,dv.ownBlock=some x->w2.heap.size<=x:=λx d=>by
   rcases ag x d with e|e
   ·have e:b3=x:=gg e;omega
   ·omega
  rw[Wi0 Q.dcls];refine zB jr λL w5 av V az ab=>?_;refine ab.stAgg (cs':=[dv,.slice none 0 0]) rfl qH (two_one Q.dcls.one rfl) λw6 aj b0 ac=>?_;have z5:=V.size;have e6:Ext w4 w6:=Ext.then V aj λy hy=>by subst hy;omega
  have d6:=Q.ext e6;have ldv:∀x,dv.ownBlock=some x->x<w4.heap.size:=λx d=>(Q.lt d).2;refine vloop_up (c.getD i ([],[])).2.length (λj u w'=> ∃tv H,u=[.int .i64 j]/\Same (λx=>w2.heap.size<=x) w2 w'/\w6.heap.size<=w'.heap.size/\Blk w' L [dv,tv] zo/\OwnD w' dv (c.getD i ([],[])).1/\LstH H w' tv ((c.getD i ([],[])).2.take j)/\
    (∀x,H x->w2.heap.size<=x/\dv.ownBlock≠some x/\x≠L)/\∀x,tv.ownBlock=some x->w2.heap.size<=x/\dv.ownBlock≠some x/\x≠L/\¬H x)
   ⟨_,λ_=>False,rfl,(Same.of_ext (e4.trans e6)),gq _,ac,d6,LstH.nil,λx d=>d.elim,λx d=>(by cases d)⟩ ?_
  rintro j _ _ w7 C1 hj ⟨tv,H,rfl,q,b1,D,d7,t7,E,f⟩ ad;have e7:Ext w w7:=Ext.then z q λx d=>oM;have J:=(hv.weaken (F':=λx=>x<w.heap.size) λx _ h=>h).ext e7;simp(disch:=first|(simp only[push_cast])|omega) only[push_cast,J.iaddr,gm];refine J.load1 yI k λpv X=>?_;have aw:=X.small;simp only[push_cast,X.len];refine zh (λa5=>?_) (λa5=>?_)
  ·have n:j<(c.getD i ([],[])).2.length:=oM;refine zu λw8 p _=>?_;have S:=D.ext p;have a2:=J.ext p;have t8:=t7.ext p;simp(disch:=first|(simp only[push_cast])|omega) only[push_cast,S.ld1,true_and,a2.iaddr,gm];refine a2.load1 yI k λqv Y=>?_;simp(disch:=first|(simp only[push_cast])|omega) only[push_cast,true_and,Y.iaddr,gm];refine Y.load zp n λx d=>?_;refine⟨rfl,?_⟩;refine l3Copy_spec _ d (hf i k _ (M.getD_mem n _)) λw9 N A ah=>?_;have T:=S.ext A;simp(disch:=first|(simp only[push_cast])|omega) only[push_cast,T.ld1,true_and,and_self];have z8:=p.size;have z9:=A.size;have ltv:∀x,tv.ownBlock=some x->x<w7.heap.size:=λx d=>t7.lt d;have b2:=D.lt;have l7:∀x,dv.ownBlock=some x->x<w7.heap.size:=λx d=>(d7.lt d).2;obtain⟨N,rfl⟩:∃l:List Value,N=l:=⟨_,rfl⟩;have G:=Z70 _ ah;refine xD yS xe zG rfl (yl G) dC λaq a7 an g ao R=>?_;have a4:=T.ext g;have b6:=g.size;simp(disch:=first|(simp only[push_cast])|omega) only[push_cast,a4.ld1,true_and,and_self];refine LstH.app (H2:=λx=>w8.heap.size<=x/\x<w9.heap.size) (us:=[(c.getD i ([],[])).2.getD j default]) ((t8.ext A).ext g) (λx d=>⟨(f x d).2.2.2,λe=>by have:=ltv x d;omega⟩) (R.sl1k (yl G)) rfl (λi hi=>?_) (by simp;omega) λb4 s m W t11=>?_
   ·have:i=0:=(by simpa using hi);subst this;exact(G.weaken λx d _=>d).ext g
   rw[V7 n] at t11;have al:=a4.same m λe=>(f _ e).2.2.1 rfl
   try simp only[push_cast,true_and]
   refine al.st (i:=1) t11.tms.cellsV t11.tms.one qr rfl λam r ap o=>?_;replace o:Blk am L [dv,s] zo:=o;rw[inc64' oM];have O:=(p.trans A).trans g;have d12:=((d7.ext O).same m λx d e=>(f x e).2.1 d).same r λx d e=>by have:=ldv x d;omega
   have b7:=m.size;have a3:∀x,s.ownBlock=some x->w2.heap.size<=x/\dv.ownBlock≠some x/\x≠L/\¬((H x\/w8.heap.size<=x/\x<w9.heap.size)/\x<a7.heap.size):=λx d=>by
    rcases W x d with e|e
    ·refine⟨(f x e).1,(f x e).2.1,(f x e).2.2.1,λh=>?_⟩;have:=ltv x e;rcases h.1 with h|h
     ·exact(f x e).2.2.2 h
     ·omega
    ·exact⟨by have:=q.size;omega,λe'=>by have:=l7 x e';omega,oM,λh=>by have:=h.2;omega⟩
   have B:∀x,((H x\/w8.heap.size<=x/\x<w9.heap.size)/\x<a7.heap.size)->w2.heap.size<=x/\dv.ownBlock≠some x/\x≠L:=λx d=>by
    rcases d.1 with h|h
    ·exact E x h
    ·exact⟨by have:=q.size;omega,λe'=>by have:=l7 x e';omega,oM⟩
   exact ad n _ _ ⟨s,_,rfl,((q.trans (Same.of_ext O)).trans (m.mono λx _ d=>(f x d).1)).trans (r.mono λx _ d=>oM),oM,o,d12,t11.same r (λx d e=>(a3 x d).2.2.1 e) (λx d _ e=>(B x d).2.2 e),B,a3⟩
  ·have n:j=(c.getD i ([],[])).2.length:=oM;subst n;rw[gA] at t7;rw[D.ldAgg (t:=zo) qH];have a8:Ext w2 w7:=Ext.then (Same.refl _ w2) q λx d=>d;refine LayO.push h2 oM a8 d7 n4 t7 (λx d=>⟨(E x d).1,(E x d).2.1,λe=>(f x e).2.2.2 d⟩) (λx d=>⟨(f x d).1,(f x d).2.1⟩) (by rw[gi];omega) λw8 ak a6 ai h8=>?_;rw[inc64' oM];rw[show(c.take i++[((c.getD i ([],[])).1,(c.getD i ([],[])).2)])=c.take (i+1) from(M.lay_take k).symm] at h8;exact hC k _ _ ⟨ak,a6,_,rfl,Ext.then e7 ai λx d=>d,h8⟩
 ·have af:i=c.length:=oM;subst af;rw[gA] at h2;exact hK _ _ _ _ z h2
end
section
variable {w w' w1 w2:World} {K:Value->World->Prop} {F F' G H H2 S:Nat->Prop} {n b k:Nat} {v lv tv dv f:Value} {t:M.Tm} {ts us:List M.Tm} {d:M.Dcl} {ds:List M.Dcl} {c e:List M.Lay} {tag:Nat->Nat} {css:List (Value×Value)}
theorem LayO.ia (h:LayO n tag w lv c css) {t:TypeId} (a:elB P t 2=true) (b:k<c.length) {kd:IntKind}:zj P t lv (.int kd k) w' K=K (.pointer (some (eaddr lv 2 k))) w':=by
 have:=h.lays.iaddr (K:=K) (w':=w') (kd:=kd) a (i:=(k:Int)) oM oM;rwa[gm] at this
theorem LayO.ldD (h:LayO n tag w lv c css) {t:TypeId} (b:oneB P t=true) (a:k<c.length):zf P t (.pointer (some ((eaddr lv 2 k).add 0))) w K=K (css.getD k (undef,undef)).1 w:=
 Sl.ldField h.row.sl b (by rw[X0,h.len];exact a) (by rw[M.getD_map _ (by rw[h.len];exact a) _ (undef,undef)];rfl)
theorem LayO.ldT (h:LayO n tag w lv c css) {t:TypeId} (b:oneB P t=true) (a:k<c.length):zf P t (.pointer (some ((eaddr lv 2 k).add 1))) w K=K (css.getD k (undef,undef)).2 w:=
 Sl.ldField h.row.sl b (by rw[X0,h.len];exact a) (by rw[M.getD_map _ (by rw[h.len];exact a) _ (undef,undef)];rfl)
theorem kQ {α:Type} {l:List α} {x e:α} {i:Nat} (h:k<l.length):(l.set k x).getD i e=if k=i then x else l.getD i e:=by
 rw[q0,PY];by_cases e:k=i
 ·subst e;rw[if_pos rfl,if_pos rfl,if_pos h];rfl
 ·rw[if_neg e,if_neg e,<-q0]
open Classical in
theorem LayO.setD (h:LayO n tag w lv c css) (f:k<c.length) (A:n<=w.heap.size) (hs:Same (λx=>(css.getD k (undef,undef)).1.ownBlock=some x) w w2) (r:OwnD w2 dv ds) (t:∀x,dv.ownBlock=some x->(css.getD k (undef,undef)).1.ownBlock=some x\/w.heap.size<=x)
  (u:∀m o,Same (λx=>n<=x) w m->LayO n o m lv (c.set k (ds,(c.getD k ([],[])).2)) (css.set k (dv,(css.getD k (undef,undef)).2))->K undef m):zm P zi (.pointer (some ((eaddr lv 2 k).add 0))) dv w2 K:=by
 have d:k<css.length:=by rw[h.len];exact f
 have y:Own P 0 2 zk w2 lv (css.map λp=>[p.1,p.2]):=h.row.same hs λx a e=>by have:=(h.own x a).2;have:=(h.decn k x f e).2;omega
 refine Own.stCell y (x:=dv) r.dcls.cellsV r.dcls.one xz0 (i:=k) (j:=0) (by rw[X0];exact d) dC λm s g z=>?_;rw[M.getD_map _ d _ (undef,undef)] at s;have llt:∀x,lv.ownBlock=some x->x<w.heap.size:=λx a=>(h.row.lt a).2;have nd:∀x,dv.ownBlock=some x->lv.ownBlock≠some x:=λx a e=>by
  rcases t x a with q|q
  ·have:=(h.own x e).2;have:=(h.decn k x f q).2;omega
  ·have:=llt x e;omega
 refine u m (λx=>if x<w.heap.size then tag x else 3*k+1) ((hs.mono λx _ a=>(h.decn k x f a).1).trans (g.mono λx _ a=>(h.own x a).1)) ⟨by rw[pY];exact s,by simp[h.len],λx a=>⟨(h.own x a).1,by simp only[if_pos (llt x a)];exact(h.own x a).2⟩,λi b=>?_,λi x b a=>?_,λi b=>?_,λi x b a=>?_⟩
 ·rw[gL] at b;rw[kQ d,kQ f];by_cases e:k=i
  ·rw[if_pos e,if_pos e];exact r.same g nd
  ·rw[if_neg e,if_neg e];exact((h.dec i b).same hs λx a q=>by have:=(h.decn i x b a).2;have:=(h.decn k x f q).2;omega).same g λx a q=>by have:=(h.own x q).2;have:=(h.decn i x b a).2;omega
 ·rw[gL] at b;rw[kQ d] at a;by_cases e:k=i
  ·rw[if_pos e] at a;subst e;rcases t x a with q|q
   ·have l:=((h.dec k f).lt q).2;refine⟨(h.decn k x f q).1,?_⟩;simp only[if_pos l];exact(h.decn k x f q).2
   ·refine⟨oM,?_⟩;simp only[if_neg (show¬x<w.heap.size by omega)]
  ·rw[if_neg e] at a;have l:=((h.dec i b).lt a).2;refine⟨(h.decn i x b a).1,?_⟩;simp only[if_pos l];exact(h.decn i x b a).2
 ·rw[gL] at b;rw[kQ d,kQ f];have q:LstH (λx=>n<=x/\(if x<w.heap.size then tag x else 3*k+1)=3*i+2) m (css.getD i (undef,undef)).2 (c.getD i ([],[])).2:=
   (((((h.ter i b).weaken (F:=λx=>(n<=x/\tag x=3*i+2)/\x<w.heap.size) λx a v=>⟨a,v⟩).same hs (λx a q=>by have:=(h.tern i x b a).2;have:=(h.decn k x f q).2;omega) λx a _ q=>by have:=a.1.2;have:=(h.decn k x f q).2;omega).same g (λx a q=>by have:=(h.own x q).2;have:=(h.tern i x b a).2;omega) λx a _ q=>by have:=(h.own x q).2;have:=a.1.2;omega)).weaken λx a _=>⟨a.1.1,by simp only[if_pos a.2];exact a.1.2⟩
  by_cases e:k=i
  ·rw[if_pos e,if_pos e];subst e;exact q
  ·rw[if_neg e,if_neg e];exact q
 ·rw[gL] at b;rw[kQ d] at a;replace a:(css.getD i (undef,undef)).2.ownBlock=some x:=by
   by_cases e:k=i
   ·rw[if_pos e] at a;subst e;exact a
   ·rw[if_neg e] at a;exact a
  have l:=(h.ter i b).lt a;refine⟨(h.tern i x b a).1,?_⟩;simp only[if_pos l];exact(h.tern i x b a).2
open Classical in
theorem LayO.setT (h:LayO n tag w lv c css) (f:k<c.length) (G:n<=w.heap.size) (hs:Same (λx=>(css.getD k (undef,undef)).2.ownBlock=some x\/w.heap.size<=x) w w2) (v:LstH H w2 tv ts) (z:∀x,tv.ownBlock=some x->(css.getD k (undef,undef)).2.ownBlock=some x\/w.heap.size<=x)
  (hH:∀x,H x->n<=x/\tag x=3*k+2/\x<w.heap.size\/w.heap.size<=x/\tv.ownBlock≠some x)
  (B:∀m l,Same (λx=>lv.ownBlock=some x) w2 m->(∀x,H x->n<=x/\l x=3*k+2)->LayO n l m lv (c.set k ((c.getD k ([],[])).1,ts)) (css.set k ((css.getD k (undef,undef)).1,tv))->K undef m):zm P zb (.pointer (some ((eaddr lv 2 k).add 1))) tv w2 K:=by
 have d:k<css.length:=by rw[h.len];exact f
 have llt:∀x,lv.ownBlock=some x->x<w.heap.size:=λx a=>(h.row.lt a).2;have dlt:∀i x,i<c.length->(css.getD i (undef,undef)).1.ownBlock=some x->x<w.heap.size:=λi x b a=>((h.dec i b).lt a).2;have tlt:∀i x,i<c.length->(css.getD i (undef,undef)).2.ownBlock=some x->x<w.heap.size:=λi x b a=>(h.ter i b).lt a;have D:Own P 0 2 zk w2 lv (css.map λp=>[p.1,p.2]):=h.row.same hs λx a e=>by
  have q:=llt x a;rcases e with e|e
  ·have:=(h.own x a).2;have:=(h.tern k x f e).2;omega
  ·omega
 refine Own.stCell D (x:=tv) v.tms.cellsV v.tms.one qr (i:=k) (j:=1) (by rw[X0];exact d) dC λm y g E=>?_;rw[M.getD_map _ d _ (undef,undef)] at y;have o:∀x,H x->n<=x/\(if x<w.heap.size then tag x else if tv.ownBlock=some x then 3*k+3 else 3*k+2)=3*k+2:=λx a=>by
  rcases hH x a with⟨s,r,A⟩|⟨s,r⟩
  ·refine⟨s,?_⟩;simp only[if_pos A];exact r
  ·refine⟨oM,?_⟩;simp only[if_neg (show¬x<w.heap.size by omega),if_neg r]
 have t:∀x,H x->lv.ownBlock≠some x:=λx a e=>by
  have:=llt x e;have:=(h.own x e).2;rcases hH x a with⟨s,r,A⟩|⟨s,r⟩<;>omega
 have u:∀x,tv.ownBlock=some x->lv.ownBlock≠some x:=λx a e=>by
  have:=llt x e;have:=(h.own x e).2;rcases z x a with q|q
  ·have:=(h.tern k x f q).2;omega
  ·omega
 refine B m _ g o ⟨by rw[pY];exact y,by simp[h.len],λx a=>⟨(h.own x a).1,by simp only[if_pos (llt x a)];exact(h.own x a).2⟩,λi b=>?_,λi x b a=>?_,λi b=>?_,λi x b a=>?_⟩
 ·rw[gL] at b;rw[kQ d,kQ f];have q:OwnD m (css.getD i (undef,undef)).1 (c.getD i ([],[])).1:=((h.dec i b).same hs λx a q=>by
   have:=dlt i x b a;rcases q with q|q
   ·have:=(h.decn i x b a).2;have:=(h.tern k x f q).2;omega
   ·omega).same g λx a q=>by have:=(h.own x q).2;have:=(h.decn i x b a).2;omega
  by_cases e:k=i
  ·rw[if_pos e,if_pos e];subst e;exact q
  ·rw[if_neg e,if_neg e];exact q
 ·rw[gL] at b;rw[kQ d] at a;replace a:(css.getD i (undef,undef)).1.ownBlock=some x:=by
   by_cases e:k=i
   ·rw[if_pos e] at a;subst e;exact a
   ·rw[if_neg e] at a;exact a
  refine⟨(h.decn i x b a).1,?_⟩;simp only[if_pos (dlt i x b a)];exact(h.decn i x b a).2
 ·rw[gL] at b;rw[kQ d,kQ f];by_cases e:k=i
  ·rw[if_pos e,if_pos e];subst e;exact(v.same g (λx a q=>u x a q) λx a _ q=>t x a q).weaken λx a _=>o x a
  ·rw[if_neg e,if_neg e];refine((((h.ter i b).weaken (F:=λx=>(n<=x/\tag x=3*i+2)/\x<w.heap.size) λx a C=>⟨a,C⟩).same hs (λx a q=>?_) λx a _ q=>?_).same g (λx a q=>?_) λx a _ q=>?_).weaken λx a _=>⟨a.1.1,by simp only[if_pos a.2];exact a.1.2⟩
   ·have:=tlt i x b a;rcases q with q|q
    ·have:=(h.tern i x b a).2;have:=(h.tern k x f q).2;omega
    ·omega
   ·have:=a.2;rcases q with q|q
    ·have:=a.1.2;have:=(h.tern k x f q).2;omega
    ·omega
   ·have:=(h.own x q).2;have:=(h.tern i x b a).2;omega
   ·have:=(h.own x q).2;have:=a.1.2;omega
 ·rw[gL] at b;rw[kQ d] at a;by_cases e:k=i
  ·rw[if_pos e] at a;subst e;rcases z x a with q|q
   ·refine⟨(h.tern k x f q).1,?_⟩;simp only[if_pos (tlt k x f q)];exact(h.tern k x f q).2
   ·refine⟨oM,?_⟩;replace a:tv.ownBlock=some x:=a;simp only[if_neg (show¬x<w.heap.size by omega),if_pos a]
  ·rw[if_neg e] at a;refine⟨(h.tern i x b a).1,?_⟩;simp only[if_pos (tlt i x b a)];exact(h.tern i x b a).2
theorem LayO.stEl {i:Nat} {cs:List Value} (h:LayO n tag w lv c css) (f:k<c.length) (p:i<(c.getD k ([],[])).2.length) (o:TmR (λx=>n<=x/\tag x=3*k+2) w cs t)
  (m:∀g,Same (λx=>(css.getD k (undef,undef)).2.ownBlock=some x) w g->LayO n tag g lv (c.set k ((c.getD k ([],[])).1,(c.getD k ([],[])).2.set i t)) css->K undef g):zm P za (.pointer (some (eaddr (css.getD k (undef,undef)).2 5 i))) (.agg ⟨cs⟩) w K:=by
 refine LstH.st (h.ter k f) p o (λx b q=>by have:=(h.tern k x f b).2;omega) λg d r l=>m g d ⟨h.row.same d λx b q=>by have:=(h.own x b).2;have:=(h.tern k x f q).2;omega,by rw[gL];exact h.len,h.own,λj a=>?_,λj x a b=>h.decn j x (by rw[gL] at a;exact a) b,λj a=>?_,λj x a b=>h.tern j x (by rw[gL] at a;exact a) b⟩
 ·rw[gL] at a;rw[kQ f];have q:OwnD g (css.getD j (undef,undef)).1 (c.getD j ([],[])).1:=(h.dec j a).same d λx b q=>by have:=(h.decn j x a b).2;have:=(h.tern k x f q).2;omega
  by_cases e:k=j
  ·rw[if_pos e];subst e;exact q
  ·rw[if_neg e];exact q
 ·rw[gL] at a;rw[kQ f];by_cases e:k=j
  ·rw[if_pos e];subst e;exact l
  ·rw[if_neg e];exact(h.ter j a).same d (λx b q=>by have:=(h.tern j x a b).2;have:=(h.tern k x f q).2;omega) λx b _ q=>by have:=b.2;have:=(h.tern k x f q).2;omega
theorem LayO.appT {cs:List Value} {bz len:Nat} (h:LayO n tag w lv c css) (f:k<c.length) (hn:n<=w.heap.size) (he:Ext w w1) (hz:Blk w1 bz yK0 za) (ht:TmR G w1 cs t) (hG:∀x,G x->x<w1.heap.size->w.heap.size<=x) (a0:(c.getD k ([],[])).2.length<=1000)
  (hlen:len=(c.getD k ([],[])).2.length) {J:World->Prop} (hJ:∀w' D R,Same (λx=>n<=x) w w'->LayO n D w' lv (c.set k ((c.getD k ([],[])).1,(c.getD k ([],[])).2++[t])) (css.set k ((css.getD k (undef,undef)).1,R))->J w'):
  vbi P .append [zb,zb] zb [(css.getD k (undef,undef)).2,.slice (some ⟨bz,0,none⟩) 1 1] w1 λt39 d=>
   zj P zb t39 (.int .i64 len) d λt40 S=>S=d/\
   zj P zk lv (.int .i64 k) d λt41 T=>T=d/\
   zg P zo t41 1 d λt42 U=>U=d/\
   (zm P za t40 (.agg ⟨cs⟩) d λ_ l=>(zg P zo t41 1 l λv x=>v=t42/\x=l)/\(zj P zk lv (.int .i64 k) l λv x=>v=t41/\x=l)/\
    (zm P zb t42 t39 l λ_ V=>J V)/\True)/\
   (zm P zb t42 t39 d λ_ r=>(zj P zb t39 (.int .i64 len) r λv x=>v=t40/\x=r)/\
    (zm P za t40 (.agg ⟨cs⟩) r λ_ W=>J W)/\True)/\True:=by
 subst hlen;have L:k<css.length:=by rw[h.len];exact f
 have z1:=he.size;have ltv:∀x,(css.getD k (undef,undef)).2.ownBlock=some x->x<w.heap.size:=λx a=>(h.ter k f).lt a;refine LstH.app (H2:=λ_=>False) (us:=[.mk 0 0 0 M.nada []]) (((h.ter k f).weaken (F:=λx=>(n<=x/\tag x=3*k+2)/\x<w.heap.size) λx a E=>⟨a,E⟩).ext he) (λx a=>⟨λq=>by have:=(h.tern k x f a).2;omega,λq=>q⟩) (hz.sl1k rfl) rfl (λi hi=>?_) (by simp only[gz];omega) λw2 b p y Z=>?_
 ·have:i=0:=(by simpa using hi);subst this;exact Wn0
 have z2:=p.size;have m:Same (λx=>(css.getD k (undef,undef)).2.ownBlock=some x\/w.heap.size<=x) w w2:=(Same.of_ext he).trans (p.mono λx _ a=> .inl a);have j:∀x,b.ownBlock=some x->(css.getD k (undef,undef)).2.ownBlock=some x\/w.heap.size<=x:=λx a=>(y x a).imp id λq=>oM
 have u:(c.getD k ([],[])).2.length<((c.getD k ([],[])).2++[M.Tm.mk 0 0 0 M.nada []]).length:=by rw[k6,gz];omega
 have B:∀{w':World} {K:Value->World->Prop},zj P zb b (.int .i64 (c.getD k ([],[])).2.length) w' K=K (.pointer (some (eaddr b 5 (c.getD k ([],[])).2.length))) w':=λ{w' K}=>by
  have:=Z.tms.iaddr (K:=K) (w':=w') (kd:= .i64) Vv (i:=((c.getD k ([],[])).2.length:Int)) oM oM;rwa[gm] at this
 have Q:∀x,(n<=x/\tag x=3*k+2)/\x<w.heap.size->b.ownBlock≠some x:=λx a e=>by
  rcases j x e with q|q
  ·have:=(h.tern k x f q).2;have:=a.1.2;omega
  ·omega
 have A:TmR (λx=>((n<=x/\tag x=3*k+2)/\x<w.heap.size)\/(w.heap.size<=x/\x<w1.heap.size)) w2 cs t:=((ht.weaken (F':=λx=>w.heap.size<=x/\x<w1.heap.size) λx a E=>⟨hG x a E,E⟩).same p λx a _ e=>by have:=ltv x e;omega).weaken λx a _=> .inr a;have C:∀x,(w.heap.size<=x/\x<w1.heap.size)->b.ownBlock≠some x:=λx a e=>by
  rcases y x e with q|q
  ·have:=ltv x q;omega
  ·omega
 have hH:∀x,(((n<=x/\tag x=3*k+2)/\x<w.heap.size)\/(w.heap.size<=x/\x<w1.heap.size))->n<=x/\tag x=3*k+2/\x<w.heap.size\/w.heap.size<=x/\b.ownBlock≠some x:=λx a=>by
  rcases a with a|a
  ·exact .inl ⟨a.1.1,a.1.2,a.2⟩
  ·exact .inr ⟨a.1,C x a⟩
 have s:LstH (λx=>((n<=x/\tag x=3*k+2)/\x<w.heap.size)\/(w.heap.size<=x/\x<w1.heap.size)) w2 b ((c.getD k ([],[])).2++[M.Tm.mk 0 0 0 M.nada []]):=Z.weaken λx a _=>a.1.elim .inl λq=>q.elim;rw[B];refine⟨rfl,?_⟩;rw[h.ia yH f];refine⟨rfl,?_⟩;rw[yz];refine⟨rfl,?_,?_,trivial⟩
 ·refine LstH.st s u A (λx a q=>q.elim (λq=>Q x q a) λq=>C x q a) λw3 z a1 h3=>?_;rw[Z90] at h3;rw[yz,h.ia yH f];refine⟨⟨rfl,rfl⟩,⟨rfl,rfl⟩,?_,trivial⟩;refine LayO.setT h f hn (m.trans (z.mono λx _ a=>j x a)) h3 j hH λw4 g o _ H=>hJ w4 g b ?_ H;exact((m.mono λx _ a=>a.elim (λq=>(h.tern k x f q).1) λq=>oM).trans (z.mono λx _ a=>(j x a).elim (λq=>(h.tern k x f q).1) λq=>oM)).trans (o.mono λx _ a=>(h.own x a).1)
 ·refine LayO.setT h f hn m s j hH λw4 g o I H=>?_;rw[B];refine⟨⟨rfl,rfl⟩,?_,trivial⟩;have Y:(css.set k ((css.getD k (undef,undef)).1,b)).getD k (undef,undef)=((css.getD k (undef,undef)).1,b):=(by rw[kQ L,if_pos rfl]);have X:(c.set k ((c.getD k ([],[])).1,(c.getD k ([],[])).2++[M.Tm.mk 0 0 0 M.nada []])).getD k ([],[])=((c.getD k ([],[])).1,(c.getD k ([],[])).2++[M.Tm.mk 0 0 0 M.nada []]):=(by rw[kQ f,if_pos rfl]);have O:=(A.same o λx a _ q=>by
   have:=(h.own x q).2;have:=(h.row.lt q).2;rcases a with a|a
   ·have:=a.1.2;omega
   ·omega).weaken (F':=λx=>n<=x/\g x=3*k+2) λx a _=>I x a
  have:=LayO.stEl (K:=λ_ w=>J w) (t:=t) (i:=(c.getD k ([],[])).2.length) H (by rw[gL];exact f) (by rw[X];exact u) O λw5 N h5=>?_
  ·rw[Y] at this;exact this
  ·rw[X,Y] at*;rw[Z90,List.set_set] at h5;refine hJ w5 g b ?_ h5;exact((m.mono λx _ a=>a.elim (λq=>(h.tern k x f q).1) λq=>oM).trans (o.mono λx _ a=>(h.own x a).1)).trans (N.mono λx _ a=>(j x a).elim (λq=>(h.tern k x f q).1) λq=>oM)
end
section
variable {w w' w1 w2:World} {K:Value->World->Prop} {F G H S:Nat->Prop} {n b k:Nat} {v lv tv dv xv f:Value} {t:M.Tm} {ts:List M.Tm} {d:M.Dcl} {ds es:List M.Dcl} {c e x:List M.Lay} {tag:Nat->Nat} {css:List (Value×Value)}
theorem LaysR.nilB {b:Nat}:LaysR F w (.slice (some ⟨b,0,none⟩) 0 0) []:=⟨[],⟨⟨_,0,rfl,by simp,by simp,by simp⟩,by simp⟩,rfl,by simp⟩
theorem UT (h:M.ctxOk c=true):∀i,i<c.length->∀t,t∈(c.getD i ([],[])).2->Ke0 t=true:=λi a t b=>fit_ok ((M.ctx_iff.1 h).2.2.2.2 i a t b)
theorem l10Now_spec (m:LaysR F w v c) (d:M.ctxOk c=true) (i:LaysR G w xv x) (l:CtxB x) (g:qm0 (M.decL x))
  (h:∀w' r,Ext w w'->LaysR (λz=>G z\/w.heap.size<=z) w' r (if M.ctxOk x=true then x else c)->K (.tuple #[r,.bool (M.ctxOk x)]) w'):vcall P ZH #[v,xv] w K:=by
 apply ZW0;refine spec_CtxOk_spec i l g λw1 b=>?_;simp only[push_cast];refine zI (λa=>?_) (λa=>?_)
 ·have f:M.ctxOk x=false:=(by simpa using a);refine l10Copy_spec (m.ext b) (ctxB_of d) (UT d) λw2 lv tag css e k=>?_;have:=h w2 lv (b.trans e);rw[f,if_neg dC] at this;have n:=b.size;exact this (k.lays.weaken λz j _=> .inr oM)
 ·have f:M.ctxOk x=true:=(by simpa using a);have:=h w1 xv b;rw[f,if_pos rfl] at this;exact this ((i.ext b).weaken λz j _=> .inl j)
theorem xL0 (h:M.ctxOk c=true):chg c x=(if M.ctxOk x=true then x else c,M.ctxOk x):=by
 unfold chg;rw[if_pos h];cases a:M.ctxOk x<;>simp
theorem YV0 (h:M.ctxOk c≠true):chg c x=([],false):=by unfold chg;rw[if_neg h]
theorem sized_app {d:M.Dcl} (h:qm0 ds) (b:d.1.size<=9223372036854775807):qm0 (ds++[d]):=λi a=>by
 rw[k6] at a;by_cases e:i<ds.length
 ·rw[M.app_getD e];exact h i e
 ·have e:i=ds.length:=by simp at a;omega
  rw[Q3 oM,e,GC];exact b
theorem ctxB_push (h:M.ctxOk c=true):CtxB (c++[([],[])]):=by
 have q:=ctxB_of h;have:=(M.ctx_iff.1 h).2.1;exact⟨by rw[k6];simp;omega,by rw[M.decL_app,M.decL_one,gD];exact q.dec,by rw[M.terL_app,M.terL_one,gD];exact q.ter⟩
theorem ctxB_addD (h:M.ctxOk c=true):CtxB (M.addD c d):=by
 have q:=ctxB_of h;have a:=(M.decl_iff.1 (M.ctx_iff.1 h).2.2.1).1;exact⟨by rw[M.addD_len];exact q.len,by rw[M.addD_decL (ctx_ne h),k6];simp;omega,by rw[M.addD_terL (ctx_ne h)];exact q.ter⟩
theorem spec_CtxPush_spec (m:LaysR F w v c) (u:CtxB c) (i:qm0 (M.decL c)) (n:∀w' v',Ext w w'->LaysR (λx=>w.heap.size<=x) w' v' (chg c (c++[([],[])])).1->K (.tuple #[v',.bool (chg c (c++[([],[])])).2]) w'):vcall P J7 #[v] w K:=by
 apply kf0;refine spec_CtxOk_spec m u i λw1 e=>?_;simp only[push_cast];have D:=e.size;refine zI (λa=>?_) (λa=>?_)
 ·refine qC qG qV λb w2 y f z t=>?_;have:=n w2 (.slice (some ⟨b,0,none⟩) 0 0) (e.trans f);rw[YV0 (by simpa using a)] at this;exact this LaysR.nilB
 ·have d:M.ctxOk c=true:=(by simpa using a);refine l10Copy_spec (m.ext e) (ctxB_of d) (UT d) λw2 lv tag css f p=>?_;have z2:=f.size;refine LayO.push (H:=λ_=>False) (ds:=[]) (ts:=[]) p oM (Same.refl _ _) (Own.nil P 0 2 _ w2) (λx g=>(by cases g)) LstH.nil (λx g=>g.elim) (λx g=>(by cases g)) (by have:=(ctxB_of d).len;omega) λB A o l q=>?_;have j:Ext w1 B:=Ext.then f l λx g=>g;refine l10Now_spec (m.ext (e.trans j)) d q.lays (ctxB_push d) (by rw[M.decL_app,M.decL_one,gD];exact i) λC r k s=>?_
  try simp only[push_cast]
  have:=n C r (e.trans (j.trans k));rw[xL0 d] at this;have z3:=j.size;exact this (s.weaken λx g _=>by rcases g with h|h<;>omega)
theorem spec_CtxName_spec (H:LaysR F w v c) (z:CtxB c) (o:qm0 (M.decL c)) (X:d.1.size<=9223372036854775807) (N:∀w' v',Ext w w'->LaysR (λx=>w.heap.size<=x) w' v' (chg c (M.addD c d)).1->K (.tuple #[v',.bool (chg c (M.addD c d)).2]) w'):
  vcall P Yy #[v,.agg ⟨[.string d.1,.int .i64 d.2]⟩] w K:=by
 apply kg0;refine zx λb1 w0 U j Y t=>?_;refine spec_CtxOk_spec (H.ext j) z o λw1 k=>?_;simp only[push_cast];have z0:=j.size;have z1:=k.size;have p:=j.trans k;refine zI (λa=>?_) (λa=>?_)
 ·refine qC qG qV λb w2 V f Z T=>?_;have:=N w2 (.slice (some ⟨b,0,none⟩) 0 0) (p.trans f);rw[YV0 (by simpa using a)] at this;exact this LaysR.nilB
 ·have e:M.ctxOk c=true:=(by simpa using a);have n:=ctx_ne e;have O:0<c.length:=gG.2 n;have hlen:=z.len;have m:c.length-1<c.length:=oM;have h4:=(M.decl_iff.1 (M.ctx_iff.1 e).2.2.1).1;refine l10Copy_spec (H.ext p) (ctxB_of e) (UT e) λw2 lv tag css f J=>?_;have z2:=f.size;simp only[push_cast,J.lays.len];rw[zJ oM oM,show(c.length:Int)-1=((c.length-1:Nat):Int) by omega];refine zu λw3 i _=>?_;have s:=J.ext i;have u:=t.ext (k.trans (f.trans i));simp(disch:=first|(simp only[push_cast])|exact m) only[push_cast,s.ia,s.ldD,true_and,stD u];refine xD YA XK jV rfl rfl dC λb4 w4 W l a0 y=>?_;have g:=s.ext l;simp(disch:=first|(simp only[push_cast])|exact m) only[push_cast,g.ia,g.ldD,true_and,and_self];have z3:=i.size;have z4:=l.size;have dl:(c.getD (c.length-1) ([],[])).1.length<=1000:=by
   have:=(ctxB_take z (c.length-1+1)).dec;rw[M.decL_take m,k6] at this;omega
  refine OwnD.app (es:=[d]) (g.dec _ m) (y.sl1k rfl) (by simp only[gz];omega) λw5 R E D B=>?_
  try simp only[push_cast,true_and]
  refine LayO.setD g m oM E B D λw6 Q G L=>?_;have q:Ext w1 w6:=Ext.then (f.trans (i.trans l)) G λx I=>I;have A:c.set (c.length-1) ((c.getD (c.length-1) ([],[])).1++[d],(c.getD (c.length-1) ([],[])).2)=M.addD c d:=rfl;rw[A] at L;refine l10Now_spec (H.ext (p.trans q)) e L.lays (ctxB_addD e) (by rw[M.addD_decL n];exact sized_app o X) λw7 r C S=>?_
  try simp only[push_cast]
  have:=N w7 r (p.trans (q.trans C));rw[xL0 e] at this;have z6:=q.size;exact this (S.weaken λx I _=>by rcases I with h|h<;>omega)
theorem spec_CtxPop_spec (m:LaysR F w v c) (k:CtxB c) (i:qm0 (M.decL c)) (n:∀w' v',Ext w w'->LaysR (λx=>w.heap.size<=x) w' v' (chg c (c.take (c.length-1))).1->K (.tuple #[v',.bool (chg c (c.take (c.length-1))).2]) w'):vcall P Kc #[v] w K:=by
 apply Y00;refine spec_CtxOk_spec m k i λw1 d=>?_;simp only[push_cast];have z:=d.size;refine zI (λa=>?_) (λa=>?_)
 ·refine qC qG qV λb w2 s e u q=>?_;have:=n w2 (.slice (some ⟨b,0,none⟩) 0 0) (d.trans e);rw[YV0 (by simpa using a)] at this;exact this LaysR.nilB
 ·have f:M.ctxOk c=true:=(by simpa using a);have g:=ctx_ne f;have o:0<c.length:=gG.2 g;have hlen:=k.len;refine l10Copy_spec (m.ext d) (ctxB_of f) (UT f) λw2 lv tag css e j=>?_;have z2:=e.size;simp only[push_cast,j.lays.len];rw[zJ oM oM,show(c.length:Int)-1=((c.length-1:Nat):Int) by omega,j.lays.cut g yH oM];refine l10Now_spec (m.ext (d.trans e)) f (j.lays.taken (by omega:c.length-1<=c.length)) (ctxB_take k _) (sized_take i) λy r l p=>?_
  try simp only[push_cast]
  have:=n y r (d.trans (e.trans l));rw[xL0 f] at this;exact this (p.weaken λx t _=>by rcases t with h|h<;>omega)
theorem spec_CtxNew_spec (e:∀w' v',Ext w w'->LaysR (λx=>w.heap.size<=x) w' v' [([],[])]->K v' w'):vcall P Kd #[] w K:=by
 apply Y10;simp only[push_cast];refine xD qG qV jr rfl rfl dC λb w1 h c g a=>?_;refine e w1 _ c ⟨[(.slice none 0 0,.slice none 0 0)],(a.sl1k rfl).weaken λx d _=>oM,rfl,λi f=>?_⟩;have:i=0:=by simpa using f
 subst this;exact⟨(Own.nil P 0 2 zi w1).sl.weaken λx d _=>(by cases d),TmsR.nil⟩
theorem spec_CtxAssert_spec (T:LaysR F w v c) (ht:TermR G w tv t) (N:CtxB c) (S:qm0 (M.decL c)) (hK:∀w' v',Ext w w'->LaysR (λx=>w.heap.size<=x) w' v' (chg c (M.addT c t)).1->K (.tuple #[v',.bool (chg c (M.addT c t)).2]) w'):
  vcall P Z7 #[v,tv] w K:=by
 apply qb0;obtain⟨cs,rfl,B⟩:=ht.cells;have X:aggB P za cs.length=true:=by rw[yl B];exact zp
 refine zx λb1 w0 af C aj H=>?_;refine spec_CtxOk_spec (T.ext C) N S λw1 p=>?_;simp only[push_cast];have z0:=C.size;have z1:=p.size;have q:=C.trans p;refine zI (λa=>?_) (λa=>?_)
 ·refine qC qG qV λb w2 ag d ak A=>?_;have:=hK w2 (.slice (some ⟨b,0,none⟩) 0 0) (q.trans d);rw[YV0 (by simpa using a)] at this;exact this LaysR.nilB
 have j:M.ctxOk c=true:=by simpa using a
 have a5:=ctx_ne j;have ab:0<c.length:=gG.2 a5;have hlen:=N.len;have g:c.length-1<c.length:=oM
 have o:=M.ctx_addT (t:=t) j;have bad:M.ctxOk (M.addT c t)≠true->∀{w2:World},Ext w1 w2->vcall P xw #[v] w2 λt24 V=>K (.tuple #[t24,.bool false]) V:=λhn {w2} d=>by
  refine l10Copy_spec (T.ext (q.trans d)) (ctxB_of j) (UT j) λU lv tag css i W=>?_;have:=hK U lv (q.trans (d.trans i));rw[xL0 j,if_neg hn,Pu _|>.mp hn] at this;have z2:=d.size;exact this (W.lays.weaken λx D _=>oM)
 refine zR (λu w'=>u=[]/\Ext w1 w'/\M.tsort (M.decL c) t=0/\(M.terL c).length<8) (λJ hJ=>?_) ?_
 ·refine zu λw2 d _=>?_;have A:=H.ext (p.trans d);rw[A.ldAgg X];refine⟨rfl,?_⟩;refine l10Decls_spec (T.ext (q.trans d)) N λU dv i a4=>?_;rw[(A.ext i).ldAgg X];refine⟨⟨rfl,rfl⟩,?_⟩;have E:=d.trans i;refine spec_TermSort_spec S a4 (B.ext (q.trans E)).term λw4 l=>?_;have Z:=E.trans l;simp only[push_cast,true_and];refine zh (λY=>bad (λh=>?_) Z) (λY=>?_)
  ·rw[o,K3,decide_eq_true_eq] at h;exact Y h.1
  refine l10Terms_spec (T.ext (q.trans Z)) N λw5 aa f a9=>?_;simp only[push_cast,a9.len,true_and];have e5:=Z.trans f;refine zh (λa2=>bad (λh=>?_) e5) (λa2=>?_)
  ·rw[o,K3,decide_eq_true_eq,decide_eq_true_eq] at h;omega
  exact hJ _ _ ⟨rfl,e5,GG.1 Y,oM⟩
 rintro _ _ w2 ⟨rfl,d,R,h8⟩;have s:M.ctxOk (M.addT c t)=true:=by rw[o,K3,decide_eq_true_eq,decide_eq_true_eq];exact⟨R,h8⟩
 refine l10Copy_spec (T.ext (q.trans d)) (ctxB_of j) (UT j) λU lv tag css i W=>?_;have E:=q.trans (d.trans i);simp only[push_cast,W.lays.len];rw[zJ oM oM,show(c.length:Int)-1=((c.length-1:Nat):Int) by omega];have z2:=d.size;have z3:=i.size;have Q:∀{w':World} {e:Nat->Nat} {k:Value},Same (λx=>w2.heap.size<=x) U w'->LayO w2.heap.size e w' lv (M.addT c t) (css.set (c.length-1) ((css.getD (c.length-1) (undef,undef)).1,k))->K (.tuple #[lv,.bool true]) w':=λ{w' e k} hs h=>by
  have:=hK w' lv (Ext.then E hs λx D=>oM);rw[xL0 j,if_pos s,s] at this;exact this (h.lays.weaken λx D _=>oM)
 refine zR (λu w'=>u=[]/\∃e k,Same (λx=>w2.heap.size<=x) U w'/\LayO w2.heap.size e w' lv (M.addT c t) (css.set (c.length-1) ((css.getD (c.length-1) (undef,undef)).1,k))) (λJ hJ=>?_) ?_
 ·refine zu λw4 l _=>?_;have y:=W.ext l;have z4:=l.size;have I:=H.ext ((p.trans (d.trans i)).trans l);have O:=B.ext (E.trans l);have r:=fit_ok R;have tl:(c.getD (c.length-1) ([],[])).2.length<=1000:=by
   have:=(ctxB_take N (c.length-1+1)).ter;rw[M.terL_take g,k6] at this;omega
  have L:∀w' e k,Same (λx=>w2.heap.size<=x) w4 w'->LayO w2.heap.size e w' lv (c.set (c.length-1) ((c.getD (c.length-1) ([],[])).1,(c.getD (c.length-1) ([],[])).2++[t])) (css.set (c.length-1) ((css.getD (c.length-1) (undef,undef)).1,k))->J [] w':=λw' e k hs h=>hJ _ _ ⟨rfl,e,k,(Same.of_ext l).trans hs,h⟩;rw[y.ia yH g];refine⟨rfl,?_⟩;rw[yz];refine⟨rfl,?_⟩;rw[y.ldT yI g];refine⟨rfl,?_⟩;rw[I.ldAgg X];refine⟨rfl,?_⟩;rw[(y.ter _ g).tms.len xo];refine⟨rfl,?_,?_,trivial⟩
  ·refine l3Copy_spec _ O.term r λw5 ad f a6=>?_;have n:=y.ext f;have z5:=f.size;rw[(n.ter _ g).tms.len xo,n.ldT yI g,yz,n.ia yH g];refine⟨⟨rfl,rfl⟩,⟨rfl,rfl⟩,⟨rfl,rfl⟩,⟨rfl,rfl⟩,?_,trivial⟩;refine xD yS xe zG rfl rfl dC λb6 w6 ai m am a3=>?_;have z:=n.ext m;rw[(z.ter _ g).tms.len xo,z.ldT yI g,yz,z.ia yH g];refine⟨⟨rfl,rfl⟩,⟨rfl,rfl⟩,⟨rfl,rfl⟩,⟨rfl,rfl⟩,?_,trivial⟩;exact LayO.appT y g oM (f.trans m) a3 ((Z70 _ a6).ext m) (λx D _=>D.1) tl rfl L
  ·refine xD yS xe zG rfl rfl dC λb5 w5 ah f al a0=>?_;have n:=y.ext f;have z5:=f.size;rw[(n.ter _ g).tms.len xo,(I.ext f).ldAgg X,n.ldT yI g,yz,n.ia yH g];refine⟨⟨rfl,rfl⟩,⟨rfl,rfl⟩,⟨rfl,rfl⟩,⟨rfl,rfl⟩,⟨rfl,rfl⟩,?_,trivial⟩;refine l3Copy_spec _ (O.ext f).term r λw6 ae m a7=>?_;have z:=n.ext m;rw[(z.ter _ g).tms.len xo,z.ldT yI g,yz,z.ia yH g];refine⟨⟨rfl,rfl⟩,⟨rfl,rfl⟩,⟨rfl,rfl⟩,⟨rfl,rfl⟩,?_,trivial⟩;exact LayO.appT y g oM (f.trans m) (a0.ext m) (Z70 _ a7) (λx D _=>by have:=D.1;omega) tl rfl L
 ·rintro _ _ w5 ⟨rfl,ac,aa,a8,n⟩;exact Q a8 n
end
section
variable {w w' w1 w2:World} {K:Value->World->Prop} {F F' D G H S:Nat->Prop} {n b k p:Nat} {v cv tv dv f:Value} {xs:List Nat} {t:M.Tm} {d:M.Dcl} {c c' x:List M.Lay}
def Wl0 (c:List M.Lay):Prop:=M.ctxOk c=true/\∀d,d∈M.decL c->d.1.size<=1
theorem dokL_dok (h:Wl0 c):Dok (M.decL c)/\(M.decL c).length<=4:=by
 have a:=(M.ctx_iff.1 h.1).2.2.1;have d:=(M.decl_iff.1 a).1;exact⟨⟨oM,λi b=>⟨(M.dcl_wide a b).1,(M.dcl_wide a b).2,h.2 _ (M.getD_mem b _)⟩⟩,d⟩
theorem Qj0 (h:Wl0 c) (b:∀d,d∈M.decL x->d.1.size<=1):Wl0 (chg c x).1:=by
 rw[xL0 h.1];by_cases a:M.ctxOk x=true
 ·rw[if_pos a];exact⟨a,b⟩
 ·rw[if_neg a];exact h
theorem cost_up {p b c i a k:Nat} (d:b<=p+a+k*i) (e:c<=b+k):c<=p+a+k*(i+1):=by
 rw[Nat.mul_succ];omega
theorem l10Act_spec (h:RdR F w b v xs p) (hF:∀x,F x->x<w.heap.size) (hc:LaysR D w cv c) (hD:∀x,D x->x≠b) (f:Wl0 c) (hp:p+300000<1099511627776)
  (hK:∀w' p' I c',Same (· =b) w w'->RdR F w' b v xs p'->p'<=p+200010->LaysR (λx=>w.heap.size<=x) w' I c'->Wl0 c'->K I w'):vcall P Kb #[.pointer (some ⟨b,0,none⟩),cv] w K:=by
 apply ZY0;have lb:=h.blk.lt;have n:=ctxB_of f.1;obtain⟨L,a7⟩:=dokL_dok f;have B:=dok_sized L;have Q:=ctx_ne f.1;refine vbuildS_row1 (xs:=([⟨#[120]⟩,⟨#[121]⟩,⟨#[122]⟩,⟨#[119]⟩,⟨#[118]⟩]:List ByteArray).map .string) V5 rK KU (λx a=>by obtain⟨s,_,rfl⟩:=gk.1 a;rfl) dC λb1 w1 a6 E R W=>?_;have a2:Vals (· =b1) w1 (.slice (some ⟨b1,0,none⟩) 5 5) (([⟨#[120]⟩,⟨#[121]⟩,⟨#[122]⟩,⟨#[119]⟩,⟨#[118]⟩]:List ByteArray).map .string):=W.sl1 rfl dC;have z1:=E.size;refine l10Decls_spec (hc.ext E) n λw2 dv G Y=>?_;have z2:=G.size;have U:=E.trans G;refine pick_spec (h.ext U) oM oM λw3 m A a9 r hm _=>?_;have z:=(hc.ext U).same A λx a _ e=>hD x a e;have Z:=(Y.weaken (F':=λx=>w1.heap.size<=x/\x<w2.heap.size) λx a hl=>⟨a,hl⟩).same A λx a _ e=>oM
 have a1:=(a2.ext G).same A λx a _ e=>oM
 have s3:Same (· =b) w w3:=(Same.of_ext U).trans A;refine zR (λu w'=>(∃q,u=[.bool q])/\w'=w3) (λJ hJ=>?_) ?_
 ·simp only[push_cast];refine zh (λ_=>hJ _ _ ⟨⟨_,rfl⟩,rfl⟩) (λ_=>hJ _ _ ⟨⟨_,rfl⟩,rfl⟩)
 rintro _ _ _ ⟨⟨q,rfl⟩,rfl⟩;simp only[push_cast];have fin:∀{C H:World} {T:Nat} {o:Value} {x:List M.Lay},Same (· =b) w C->w.heap.size<=C.heap.size->RdR F C b v xs T->T<=p+200010->Ext C H->LaysR (λx=>C.heap.size<=x) H o (chg c x).1->(∀d,d∈M.decL x->d.1.size<=1)->K o H:=λ{C H T o x} g a5 l a3 N a0 hn=>by
  exact hK H T o _ (g.trans (Same.of_ext N)) (l.ext N) a3 (a0.weaken λy hy _=>oM) (Qj0 f hn)
 refine zI (λ_=>?_) (λ_=>?_)
 ·refine strof_spec r a1 (by simp) (by simp) oM (λx a e=>by subst a;omega) λC s g a5 l hs=>?_;refine pick_spec l oM oM λH m5 S aa V O _=>?_;have O:=O oM;simp(disch:=first|(simp only[push_cast])|omega) only[push_cast,zJ];have X:=(z.same g λx a _ e=>hD x a e).same S λx a _ e=>hD x a e;have R:s.size<=1:=by
   simp only[gd,gx,or_false] at hs;rcases hs with rfl|rfl|rfl|rfl|rfl<;>decide
  refine spec_CtxName_spec (d:=(s,1+(m5:Int))) X n B (by show s.size<=_;omega) λw6 v6 i j=>?_
  try simp only[push_cast]
  refine fin ((s3.trans g).trans S) oM V oM i j λd k=>?_;rw[M.addD_decL Q] at k;rcases gj.1 k with k|k
  ·exact f.2 d k
  ·rw[gn.1 k];exact R
 refine zh (λ_=>?_) (λ_=>?_)
 ·refine spec_CtxPush_spec z n B λw6 v6 i j=>?_
  try simp only[push_cast]
  refine fin s3 oM r oM i j λd k=>?_;rw[M.decL_app,M.decL_one,gD] at k;exact f.2 d k
 refine zh (λ_=>?_) (λ_=>?_)
 ·refine spec_CtxPop_spec z n B λw6 v6 i j=>?_
  try simp only[push_cast]
  refine fin s3 oM r oM i j λd k=>?_;exact f.2 d (by rw[M.decL_split c (c.length-1)];exact gW _ k)
 ·refine l8Some_spec r (λx a=>by have:=hF x a;omega) Z (λx a e=>oM) (λx a=>oM) L oM oM oM λC p4 tv t g l a8 a4 _=>?_;have z4:=g.size;refine spec_CtxAssert_spec (z.same g λx a _ e=>hD x a e) a4 n B λw6 v6 i j=>?_
  try simp only[push_cast]
  refine fin (s3.trans g) oM l oM i j λd k=>?_;rw[M.addT_decL Q] at k;exact f.2 d k
theorem dokL_new {s:ByteArray} {m:Int} (h:s.size<=1) (hs:s=⟨#[120]⟩) (c:1<=m) (e:m<=4):Wl0 (chg [([],[])] (M.addD [([],[])] (s,m))).1:=by
 have b:M.ctxOk [([],[])]=true:=by decide+kernel
 refine Qj0 ⟨b,λd a=>by cases a⟩ λd a=>?_;have:d=(s,m):=by simpa[M.addD,M.decL] using a
 rw[this];exact h
theorem l10Ctx_spec (h:RdR F w b v xs p) (hF:∀x,F x->x<w.heap.size) (hp:p+4000000<1099511627776)
  (Y:∀w' A k c',Same (· =b) w w'->RdR F w' b v xs A->A<=p+3000000->LaysR (λx=>w.heap.size<=x) w' k c'->Wl0 c'->K k w'):vcall P Ka #[.pointer (some ⟨b,0,none⟩)] w K:=by
 apply ZX0;have lb:=h.blk.lt;refine spec_CtxNew_spec λw1 v1 f L=>?_;have z1:=f.size;refine pick_spec (h.ext f) oM oM λw2 m r Z D hm _=>?_;have hm:=hm oM;simp(disch:=first|(simp only[push_cast])|omega) only[push_cast,zJ];have N:=L.same r λx j _ e=>oM
 refine spec_CtxName_spec (d:=(⟨#[120]⟩,1+(m:Int))) N ⟨by simp,by simp[M.decL],by simp[M.terL]⟩ (λi V=>by simp[M.decL] at V) (by show 1<=9223372036854775807;omega) λw3 v3 g O=>?_
 try simp only[push_cast]
 have z3:=g.size;have s3:Same (· =b) w w3:=((Same.of_ext f).trans r).trans (Same.of_ext g);have H:=dokL_new (s:=⟨#[120]⟩) (m:=1+(m:Int)) dC rfl oM oM;refine pick_spec (D.ext g) oM oM λw4 m4 t a0 E q _=>?_;have q:=q oM;have Q:=O.same t λx j _ e=>oM
 refine vloop_up m4 (λi u w'=> ∃cv c A,u=[cv,.int .i64 ((m4-i:Nat):Int)]/\Same (· =b) w w'/\w.heap.size<=w'.heap.size/\RdR F w' b v xs A/\A<=p+2+200010*i/\LaysR (λx=>w.heap.size<=x) w' cv c/\Wl0 c) ⟨v3,_,_,rfl,s3.trans t,oM,E,oM,Q.weaken λx j _=>oM,H⟩ ?_;rintro i _ _ w5 C V ⟨cv,c,p5,rfl,y,a1,l,S,o,n⟩ X;simp only[push_cast];refine zh (λa=>?_) (λa=>?_)
 ·have J:i<m4:=oM;refine l10Act_spec l (λx j=>by have:=hF x j;omega) o (λx j e=>oM) n oM λw6 p6 B W z G T R I=>?_;rw[show IntKind.i64.wrap (((m4-i:Nat):Int)-1)=((m4-(i+1):Nat):Int) by rw[zJ oM oM];omega];have z6:=z.size;have U:=cost_up S T;exact X J _ _ ⟨B,W,p6,rfl,y.trans z,oM,G,U,R.weaken λx j _=>oM,I⟩
 ·exact Y _ _ _ _ y l oM o n
end
section
variable {w w' w1:World} {K:Value->World->Prop} {F D G H S:Nat->Prop} {n b k p:Nat} {v cv lv f:Value} {xs:List Nat} {t:M.Tm} {ts:List M.Tm} {d:M.Dcl} {ds es:List M.Dcl} {c c' x:List M.Lay} {l:M.Lay} {tag:Nat->Nat} {css:List (Value×Value)}
theorem LayO.same (h:LayO n tag w lv c css) (hw:Same S w w') (d:∀x,S x->x<n):LayO n tag w' lv c css:=
 ⟨h.row.same hw λx a e=>by have:=(h.own x a).1;have:=d x e;omega,h.len,h.own,λi b=>(h.dec i b).same hw λx a e=>by have:=(h.decn i x b a).1;have:=d x e;omega,h.decn,
  λi b=>(h.ter i b).same hw (λx a e=>by have:=(h.tern i x b a).1;have:=d x e;omega) λx a _ e=>by have:=a.1;have:=d x e;omega,h.tern⟩
theorem Zj0 (a:k<c.length):c.set k l=c.take k++l::c.drop (k+1):=by rw[List.set_eq_take_append_cons_drop,if_pos a]
theorem xE0 (a:k<c.length):c=c.take k++c.getD k ([],[])::c.drop (k+1):=by rw[<-M.lay_drop a,GL]
theorem Jw (a b:List M.Lay) (l:M.Lay):M.decL (a++l::b)=M.decL a++(l.1++M.decL b):=by simp[M.decL]
theorem Jk (a b:List M.Lay) (l:M.Lay):M.terL (a++l::b)=M.terL a++(l.2++M.terL b):=by simp[M.terL]
theorem ja0 (a:k<c.length):M.decL (c.set k ((c.getD k ([],[])).1,ts))=M.decL c:=by
 rw[Zj0 a,Jw];conv=>rhs;rw[xE0 a,Jw]
theorem terL_setT (a:k<c.length):(M.terL (c.set k ((c.getD k ([],[])).1,(c.getD k ([],[])).2++[t]))).length=(M.terL c).length+1:=by
 rw[Zj0 a,Jk];have:=congrArg (λc=>(M.terL c).length) (xE0 a);simp only[Jk,k6,gz] at this⊢;omega
theorem JB0 (a:k<c.length):M.terL (c.set k (ds,(c.getD k ([],[])).2))=M.terL c:=by
 rw[Zj0 a,Jk];conv=>rhs;rw[xE0 a,Jk]
theorem decL_setD (a:k<c.length):(M.decL (c.set k ((c.getD k ([],[])).1++[d],(c.getD k ([],[])).2))).length=(M.decL c).length+1/\∀e,e∈M.decL (c.set k ((c.getD k ([],[])).1++[d],(c.getD k ([],[])).2))->e∈M.decL c\/e=d:=by
 rw[Zj0 a,Jw];have q:=congrArg (λc=>(M.decL c).length) (xE0 a);refine⟨?_,λe he=>?_⟩
 ·simp only[Jw,k6,gz] at q⊢;omega
 ·rw[xE0 a,Jw];simp only[gj,gn] at he⊢;rcases he with h|(h|h)|h
  ·exact .inl (.inl h)
  ·exact .inl (.inr (.inl h))
  ·exact .inr h
  ·exact .inl (.inr (.inr h))
theorem U50 (b:ds.length<=5) (h:∀d,d∈ds->1<=d.2/\d.2<=4/\d.1.size<=1):Dok ds:=⟨b,λi a=>h _ (M.getD_mem a _)⟩
theorem WT0 (h:Dok ds):∀d,d∈ds->1<=d.2/\d.2<=4/\d.1.size<=1:=λd b=>by
 obtain⟨i,a,rfl⟩:=gl b;have:=h.2 i a;rwa[q0,Q1 a] at this
def KN0 (c:List M.Lay):Prop:=CtxB c/\Dok (M.decL c)
theorem l10Bent_spec (h:RdR F w b v xs p) (hF:∀x,F x->x<w.heap.size) (hc:LaysR D w cv c) (S:Wl0 c) (hp:p+100<1099511627776)
  (hK:∀w' p' Q c',Same (· =b) w w'->RdR F w' b v xs p'->p'<=p+2->LaysR (λx=>w.heap.size<=x) w' Q c'->KN0 c'->K Q w'):vcall P J6 #[.pointer (some ⟨b,0,none⟩),cv] w K:=by
 apply ke0;have lb:=h.blk.lt;have A:=ctxB_of S.1;obtain⟨V,b0⟩:=dokL_dok S;have ao:=ctx_ne S.1;have ay:0<c.length:=gG.2 ao;have b1:=(M.ctx_iff.1 S.1).2.1;have b2:=(M.ctx_iff.1 S.1).2.2.2.1;refine l10Copy_spec hc A (UT S.1) λw1 lv tag css a7 h1=>?_;have z1:=a7.size;rw[h1.lays.len Zb0];refine pick_spec (h.ext a7) oM oM λw3 k ab b3 ai f _=>?_;have f:k<c.length:=by have:=f oM;omega
 have h3:=h1.same ab λx r=>oM
 have s3:Same (· =b) w w3:=(Same.of_ext a7).trans ab;have tl:∀{j:Nat},(c.getD k ([],[])).2.length<=8:=by
  have:=congrArg (λc=>(M.terL c).length) (xE0 f);simp only[Jk,k6] at this;omega
 refine zR (λu w'=> ∃Q c' p',u=[Q]/\Same (· =b) w w'/\RdR F w' b v xs p'/\p'<=p+2/\LaysR (λx=>w.heap.size<=x) w' Q c'/\KN0 c') (λJ hJ=>?_) ?_
 ·refine pick_spec ai oM oM λw4 m ac b4 R _ _=>?_;have h4:=h3.same ac λx r=>oM;have s4:=s3.trans ac;have a4:KN0 c:=⟨A,V⟩;have termed:∀{N:World} {s:Nat->Nat} {o:List (Value×Value)} {t:M.Tm},Same (λx=>w.heap.size<=x) w4 N->LayO w.heap.size s N lv (c.set k ((c.getD k ([],[])).1,(c.getD k ([],[])).2++[t])) o->J [lv] N:=λ{N s o t} n y=>
   hJ _ _ ⟨lv,_,_,rfl,same_news s4 n,R.same n oM (λx r _ e=>by have:=hF x r;omega),oM,y.lays,
    ⟨by rw[gL];exact A.len,by rw[ja0 f];exact A.dec,by rw[terL_setT f];omega⟩,by rw[ja0 f];exact V⟩
  rw[JY];refine zh (λ_=>?_) (λ_=>?_)
  ·refine qC qG qV λb5 N a3 l au a9=>?_;exact hK N _ _ [] (s4.trans (Same.of_ext l)) (R.ext l) oM LaysR.nilB ⟨⟨by simp,by simp[M.decL],by simp[M.terL]⟩,⟨by simp[M.decL],λi hi=>by simp[M.decL] at hi⟩⟩
  rw[JY];refine zh (λ_=>?_) (λ_=>?_)
  ·refine vloop_up (7-c.length) (λi u w'=> ∃Z s o,u=[Z]/\Same (λx=>w.heap.size<=x) w4 w'/\LayO w.heap.size s w' Z (c++List.replicate i ([],[])) o) ⟨lv,tag,css,rfl,Same.refl _ _,by simpa using h4⟩ ?_;rintro i _ _ N C hi ⟨Z,s,o,rfl,n,y⟩ hC;have z5:=n.size;have O:(c++List.replicate i (([],[]):M.Lay)).length=c.length+i:=(by simp);simp only[push_cast,y.lays.len,O];refine zh (λa=>?_) (λa=>?_)
   ·refine LayO.push (H:=λ_=>False) (ds:=[]) (ts:=[]) y oM (Same.refl _ _) (Own.nil P 0 2 _ N) (λx r=>(by cases r)) LstH.nil (λx r=>r.elim) (λx r=>(by cases r)) oM λY av L W z=>?_;rw[Gd,<-List.replicate_succ'] at z;exact hC oM _ _ ⟨av,L,_,rfl,n.trans W,z⟩
   ·have ed:M.decL (c++List.replicate i ([],[]))=M.decL c:=by rw[M.decL_app];simp[M.decL]
    have et:M.terL (c++List.replicate i ([],[]))=M.terL c:=by rw[M.terL_app];simp[M.terL]
    exact hJ _ _ ⟨Z,_,_,rfl,same_news s4 (n.mono λx _ r=>oM),R.same n oM (λx r _ e=>by have:=hF x r;omega),oM,y.lays,⟨by rw[O];omega,by rw[ed];exact A.dec,by rw[et];exact A.ter⟩,by rw[ed];exact V⟩
  rw[JY];refine zh (λ_=>?_) (λ_=>?_)
  ·simp(disch:=first|(simp only[push_cast])|exact f) only[push_cast,h4.ia,h4.ldD];refine xD YA XK jV rfl rfl dC λb5 N a3 l au a9=>?_;have y:=h4.ext l;have z5:=l.size;have dl:(c.getD k ([],[])).1.length<=4:=by
    have:=congrArg (λc=>(M.decL c).length) (xE0 f);simp only[Jw,k6] at this;omega
   refine OwnD.app (es:=[(⟨#[120]⟩,2)]) (y.dec _ f) (a9.sl1k rfl) (by simp only[gz];omega) λY az W an a6=>?_
   try simp only[push_cast]
   refine LayO.setD y f oM W a6 an λw7 a1 X I=>?_;have a0:Same (λx=>w.heap.size<=x) w4 w7:=(Same.of_ext l).trans X;obtain⟨q1,q2⟩:=decL_setD (d:=(⟨#[120]⟩,2)) f;refine hJ _ _ ⟨lv,_,_,rfl,same_news s4 a0,R.same a0 oM (λx r _ e=>by have:=hF x r;omega),oM,I.lays,⟨by rw[gL];exact A.len,by rw[q1];omega,by rw[JB0 f];exact A.ter⟩,U50 (by rw[q1];omega) λd hd=>?_⟩;rcases q2 d hd with q|q
   ·exact WT0 V d q
   ·rw[q];exact⟨dC,dC,dC⟩
  rw[JY];refine zh (λ_=>?_) (λ_=>?_)
  ·refine zu λN l _=>?_;have y:=h4.ext l;have z5:=l.size;rw[y.ia yH f];refine⟨rfl,?_⟩;rw[yz];refine⟨rfl,?_⟩;rw[y.ldT yI f];refine⟨rfl,?_⟩;rw[KG0];refine⟨rfl,?_⟩;rw[(y.ter _ f).tms.len xo];refine⟨rfl,?_,trivial⟩;refine xD yS xe zG rfl rfl dC λb6 Y ak g ae U=>?_;have z:=y.ext g;rw[(z.ter _ f).tms.len xo,KG0,z.ldT yI f,yz,z.ia yH f];refine⟨⟨rfl,rfl⟩,⟨rfl,rfl⟩,⟨rfl,rfl⟩,⟨rfl,rfl⟩,⟨rfl,rfl⟩,?_,trivial⟩;exact LayO.appT (G:=λ_=>False) y f oM g U (zA0 21 0 0 ⟨#[120]⟩) (λx r=>r.elim) (by have:=tl (j:=0);omega) rfl λw7 a1 ax X I=>termed ((Same.of_ext l).trans X) I
  rw[JY];refine zh (λ_=>?_) (λ_=>?_)
  ·refine zu λN l _=>?_;have y:=h4.ext l;have z5:=l.size;rw[y.ia yH f];refine⟨rfl,?_⟩;rw[yz];refine⟨rfl,?_⟩;rw[y.ldT yI f];refine⟨rfl,?_⟩;rw[KG0];refine⟨rfl,?_⟩;rw[KG0];refine⟨rfl,?_⟩;rw[(y.ter _ f).tms.len xo];have done:∀{Y:World} {b7:Nat} {a:Option Addr},Ext N Y->Blk Y b7 yK0 za->TmsR (λx=>N.heap.size<=x) Y (.slice a 2 2) [.mk 21 0 0 ⟨#[119]⟩ [],.mk 21 0 0 ⟨#[119]⟩ []]->_:=λ{Y b7 a} g U a8=>LayO.appT (J:=λw=>J [lv] w) (len:=(c.getD k ([],[])).2.length) (G:=λx=>N.heap.size<=x) y f oM g U (TmR.of (t:= .mk 15 0 0 ⟨#[]⟩ [.mk 21 0 0 ⟨#[119]⟩ [],.mk 21 0 0 ⟨#[119]⟩ []]) a8) (λx r _=>r) (by have:=tl (j:=0);omega) rfl λw7 a1 ax X I=>termed ((Same.of_ext l).trans X) I;refine⟨rfl,?_,?_,trivial⟩
   ·refine kids2 (G:=λ_=>False) (zA0 21 0 0 ⟨#[119]⟩).term (zA0 21 0 0 ⟨#[119]⟩).term λY a g ae a8=>?_;have z:=y.ext g;rw[(z.ter _ f).tms.len xo,z.ldT yI f,yz,z.ia yH f];refine⟨⟨rfl,rfl⟩,⟨rfl,rfl⟩,⟨rfl,rfl⟩,⟨rfl,rfl⟩,?_⟩;rw[Uf0];refine⟨rfl,?_,trivial⟩;refine xD yS xe zG rfl rfl dC λb7 w7 al B af a2=>?_;have I:=z.ext B;rw[Uf0,(I.ter _ f).tms.len xo,I.ldT yI f,yz,I.ia yH f];refine⟨⟨rfl,rfl⟩,⟨rfl,rfl⟩,⟨rfl,rfl⟩,⟨rfl,rfl⟩,⟨rfl,rfl⟩,?_,trivial⟩;exact done (g.trans B) a2 ((a8.ext B).weaken λx r _=>r.elim (λq=>q.elim) λq=>oM)
   ·refine xD yS xe zG rfl rfl dC λb6 Y ak g ae U=>?_;have z:=y.ext g;rw[(z.ter _ f).tms.len xo,KG0,z.ldT yI f,yz,z.ia yH f];refine⟨⟨rfl,rfl⟩,⟨rfl,rfl⟩,⟨rfl,rfl⟩,⟨rfl,rfl⟩,⟨rfl,rfl⟩,⟨rfl,rfl⟩,?_,trivial⟩;refine kids2 (G:=λ_=>False) (zA0 21 0 0 ⟨#[119]⟩).term (zA0 21 0 0 ⟨#[119]⟩).term λw7 a B af am=>?_;have I:=z.ext B;rw[(I.ter _ f).tms.len xo,I.ldT yI f,yz,I.ia yH f];refine⟨⟨rfl,rfl⟩,⟨rfl,rfl⟩,⟨rfl,rfl⟩,⟨rfl,rfl⟩,?_⟩;rw[Uf0];refine⟨rfl,?_,trivial⟩;exact done (g.trans B) (U.ext B) (am.weaken λx r _=>r.elim (λq=>q.elim) λq=>by have:=g.size;omega)
  rw[JY];refine zh (λ_=>?_) (λ_=>?_)
  ·refine vloop_up 8 (λi u w'=> ∃c5 s o,u=[.int .i64 i]/\Same (λx=>w.heap.size<=x) w4 w'/\LayO w.heap.size s w' lv c5 o/\c5.length=c.length/\M.decL c5=M.decL c/\(M.terL c5).length=(M.terL c).length+i) ⟨c,tag,css,rfl,Same.refl _ _,h4,rfl,rfl,rfl⟩ ?_;rintro i _ _ N C hi ⟨c5,s,o,rfl,n,y,O,a5,ad⟩ hC;have z5:=n.size;have E:k<c5.length:=oM;rw[sl0,Z20];refine zh (λa=>?_) (λa=>?_)
   ·refine zR (λu w'=> ∃c6 L T,u=[]/\Same (λx=>w.heap.size<=x) w4 w'/\LayO w.heap.size L w' lv c6 T/\c6.length=c.length/\M.decL c6=M.decL c/\(M.terL c6).length=(M.terL c).length+(i+1)) (λJ1 ah=>?_) ?_
    ·refine zu λY g _=>?_;have z:=y.ext g;have z6:=g.size;have aw:(c5.getD k ([],[])).2.length<=1000:=by
      have:=congrArg (λc=>(M.terL c).length) (xE0 E);simp only[Jk,k6] at this;omega
     rw[z.ia yH E];refine⟨rfl,?_⟩;rw[yz];refine⟨rfl,?_⟩;rw[z.ldT yI E];refine⟨rfl,?_⟩;rw[z61];refine⟨rfl,?_⟩;rw[(z.ter _ E).tms.len xo];refine⟨rfl,?_,trivial⟩;refine xD yS xe zG rfl rfl dC λb7 w7 al B af a2=>?_;have I:=z.ext B;rw[(I.ter _ E).tms.len xo,z61,I.ldT yI E,yz,I.ia yH E];refine⟨⟨rfl,rfl⟩,⟨rfl,rfl⟩,⟨rfl,rfl⟩,⟨rfl,rfl⟩,⟨rfl,rfl⟩,?_,trivial⟩;exact LayO.appT (G:=λ_=>False) z E oM B a2 (zA0 24 0 0 ⟨#[]⟩) (λx r=>r.elim) aw rfl λw8 ag b8 aq h8=>
      ah _ _ ⟨_,ag,_,rfl,(n.trans (Same.of_ext g)).trans aq,h8,by rw[gL];exact O,by rw[ja0 E];exact a5,by rw[terL_setT E,ad];omega⟩
    ·rintro _ _ Y ⟨c6,L,T,rfl,W,z,aa,a6,ar⟩;simp only[push_cast];rw[inc64' oM];exact hC oM _ _ ⟨c6,L,T,rfl,W,z,aa,a6,ar⟩
   ·exact hJ _ _ ⟨lv,c5,_,rfl,same_news s4 n,R.same n oM (λx r _ e=>by have:=hF x r;omega),oM,y.lays,⟨by rw[O];exact A.len,by rw[a5];exact A.dec,by rw[ad];omega⟩,by rw[a5];exact V⟩
  ·exact hJ _ _ ⟨lv,c,_,rfl,s4,R,oM,h4.lays,a4⟩
 ·rintro _ _ N ⟨Q,c',p',rfl,n,aj,ap,O,a3⟩;exact hK _ _ _ _ n aj ap O a3
end
section
variable {w w' w1 w2:World} {K:Value->World->Prop} {F F' D G H S:Nat->Prop} {n b k p:Nat} {v cv tv dv f:Value} {xs:List Nat} {t:M.Tm} {d:M.Dcl} {c c' x:List M.Lay}
theorem l10Some_spec (h:RdR F w b v xs p) (hF:∀x,F x->x<w.heap.size) (t:p+5000000<1099511627776)
  (q:∀w' n a c',Same (· =b) w w'->RdR F w' b v xs n->n<=p+3000002->LaysR (λx=>w.heap.size<=x) w' a c'->KN0 c'->K a w'):vcall P J5 #[.pointer (some ⟨b,0,none⟩)] w K:=by
 apply kc0;refine l10Ctx_spec h hF oM λw1 p1 o c1 c e r j i=>?_;have u:=c.size;refine l10Bent_spec e (λx m=>by have:=hF x m;omega) j i oM λw2 p2 d c2 l f s k g=>?_;exact q w2 p2 d c2 (c.trans l) f oM (k.weaken λx m _=>oM) g
theorem DrawCtxAssert_spec (a:Bytes F w v xs) (Y:∀w' cv c tv t,Ext w w'->LaysR (λx=>w.heap.size<=x) w' cv c->KN0 c->TermR (λx=>w.heap.size<=x) w' tv t->K (.tuple #[cv,tv]) w'):vcall P kR #[v] w K:=by
 apply WQ;refine zB zG λb1 w1 a0 j a8 C=>?_;have z1:=j.size;refine l12Open_spec (F:=λx=>F x/\x<w.heap.size) ⟨(a.1.weaken λx a s=>⟨a,s⟩).ext j,a.2⟩ (λx a=>by have:=a.2;omega) λw2 b v' ys k q a1=>?_;have z2:=k.size;have g:∀x,(F x/\x<w.heap.size)->x<w2.heap.size:=λx a=>by have:=a.2;omega
 refine l10Some_spec (p:=0) q g oM λU p3 cv c z E a5 u i=>?_;have z3:=z.size;have lb:=q.blk.lt;refine l10Decls_spec u i.1 λw4 dv f I=>?_;have z4:=f.size;have N:=u.ext f;refine ints_lit (ns:=[0,0,0,0,2]) dC λb5 w5 a2 d M=>?_;have z5:=d.size;have J:=I.ext d;refine num_spec ((E.ext f).ext d) M (by simp) dC oM (λx a e=>by subst a;omega) λw6 m l a9 G hm=>?_;have y:0<=m/\m<=4:=by
  simp only[gd,gx,or_false] at hm;omega
 have L:=(J.weaken (F':=λx=>U.heap.size<=x/\x<w5.heap.size) λx a s=>⟨a,s⟩).same l λx a _ e=>oM
 have O:=(N.ext d).same l λx a _ e=>oM
 refine l8Some_spec G (λx a=>by have:=g x a;omega) L (λx a e=>oM) (λx a=>oM) i.2 y.1 y.2 oM λw7 p7 tv t n H a6 R a3=>?_;have z7:=n.size;refine l2Bent_spec H (λx a=>by have:=g x a;omega) (R.weaken (F':=λx=>w6.heap.size<=x/\x<w7.heap.size) λx a s=>⟨a,s⟩) (λx a e=>oM) (λx a=>a.2) oM oM λw8 p8 ab t8 o Z a7 S a4=>?_;have z8:=o.size;obtain⟨W,rfl,r⟩:=S.cells;have B:Same (· =b) w2 w8:=(((z.trans (Same.of_ext (f.trans d))).trans l).trans n).trans o;have D:=(C.ext k).same B oM;have Q:=(O.same n λx a _ e=>oM).same o λx a _ e=>oM
 refine ZF D rfl (r.weaken (F':=λx=>U.heap.size<=x) λx a _=>by rcases a with h|h<;>omega) (λx a e=>oM) λV A aa T=>?_;have X:Same (λx=>w.heap.size<=x) w V:=((Same.of_ext (j.trans k)).trans (B.mono λx _ a=>by subst a;omega)).trans (A.mono λx _ a=>by subst a;omega);exact Y V cv c _ t8 (X.mono λx a hh=>oM) ((Q.same A λx a _ e=>oM).weaken λx a _=>oM) i (T.weaken λx a _=>oM)
end
section
variable {w w' w1 w2:World} {K:Value->World->Prop} {F:Nat->Prop} {n b k p:Nat} {v tv dv ev f:Value} {t:M.Tm} {d:M.Dcl} {c x:List M.Lay} {ar ab at_ an am:Addr}
def Ql0 (c:List M.Lay):List Int×Int:=if M.ctxOk c=true then Jm (M.decL c) (M.terL c) [] else([],4)
theorem yH0 (q:LaysR F w v c) (g:CtxB c) (er:Er w at_ an am ar ab) (o:∀w' ev,Ext w w'->Ints (λ_=>True) w' ev (Ql0 c).1->K (.tuple #[ev,.int .i64 (Ql0 c).2]) w'):vcall P ZX #[v] w K:=by
 apply jA0;refine flat_spec q g λw1 b dv tv mv h n=>?_;refine ok_spec n g λw2 d=>?_;have l:=h.trans d;simp only[push_cast];refine zI (λa=>?_) (λa=>?_)
 ·have:=o w2 (.slice none 0 0) l;have p: ¬M.ctxOk c=true:=(by simpa using a);unfold Ql0 at this;rw[if_neg p] at this;exact this (OwnI.nil (P:=P) (t:=zr)|>.ints.weaken λx _ _=>trivial)
 ·have k:M.ctxOk c=true:=(by simpa using a);refine zu λs e _=>?_;have m:=l.trans e;have f:=(n.ext d).ext e;simp only[push_cast,f.blk.ld0,f.blk.ld1,true_and];apply X80;refine solved_spec f.dec.dcls f.ter.tms g.ter (er.ext m) λr ev i j=>?_
  try simp only[push_cast,true_and]
  have:=o r ev (m.trans i);unfold Ql0 at this;rw[if_pos k] at this;exact this j
end
section
variable {w w' w1 w2:World} {K:Value->World->Prop} {F D G H S:Nat->Prop} {n b k p:Nat} {v cv tv dv ev xv f:Value} {xs:List Nat} {env:List Int} {t:M.Tm} {ts:List M.Tm} {d:M.Dcl} {ds:List M.Dcl} {c x:List M.Lay} {ar ab at_ an am:Addr}
theorem Kw (i:LaysR F w v c) (a:M.ctxOk c=true) (h:∀w' dv,Ext w w'->DclsR (λ_=>True) w' dv (M.decL c)->K dv w'):vcall P kp #[v] w K:=by
 apply jB0;refine flat_spec i (ctxB_of a) λw1 b dv tv mv e f=>?_;refine ok_spec f (ctxB_of a) λw2 d=>?_;rw[a];simp only[push_cast,ph];have g:=f.ext d;simp only[push_cast,g.blk.ld0];exact h _ _ (e.trans d) (g.dec.dcls.weaken λ_ _ _=>trivial)
theorem Yl0 (l:LaysR F w v c) (a:M.ctxOk c=true) (j:∀w' tv,Ext w w'->TmsR (λ_=>True) w' tv (M.terL c)->K tv w'):vcall P XV #[v] w K:=by
 apply jz0;refine flat_spec l (ctxB_of a) λw1 b dv tv mv e g=>?_;refine ok_spec g (ctxB_of a) λw2 d=>?_;rw[a];simp only[push_cast,ph];have h:=g.ext d;simp only[push_cast,h.blk.ld1];exact copyTerms_spec h.ter.tms (λt k=>fit_ok (M.ctx_terms a t k)) (ctxB_of a).ter λm v3 f i=>j _ _ ((e.trans d).trans f) (i.weaken λ_ _ _=>trivial)
theorem wpTrue_spec (m:DclsR F w dv ds) (n:TmsR G w tv ts) (he:Ints H w ev env) (hs:ts.length<=1000) (e:∀t,t∈ts->M.tok ds t env=true/\M.teval ds t env=1) (l:∀w',Ext w w'->K (.bool true) w'):vcall P kG #[dv,tv,ev] w K:=by
 apply Y20;refine vloop_up ts.length (λi u w'=>u=[.int .i64 i]/\Ext w w') ⟨rfl,Same.refl _ _⟩ ?_;rintro i _ _ w1 C p ⟨rfl,b⟩ k;have d:=n.ext b;simp only[push_cast,d.len];refine zh (λa=>?_) (λ_=>l w1 b);have c:i<ts.length:=oM
 simp(disch:=first|(simp only[push_cast])|omega) only[push_cast,d.iaddr,gm];refine d.load zp c λx o=>?_;refine Yk0 (m.ext b) o (he.ext b) λw2 f=>?_;obtain⟨g,j⟩:=e _ (M.getD_mem c default);rw[g,j];simp only[push_cast,ph];refine zh (λh=>absurd rfl h) (λ_=>?_);rw[inc64' oM];exact k c _ _ ⟨rfl,b.trans f⟩
theorem Wc0 (h:M.ctxOk c=true):Xi0 (M.decL c) (M.terL c)=true:=all8_iff.2 ⟨(M.ctx_iff.1 h).2.2.2.1,(M.ctx_iff.1 h).2.2.1,M.ctx_terms h⟩
theorem ZL0 (h:M.ctxOk c=true):Ql0 c=M.solveM 4000 (M.decL c) (M.terL c) []:=by
 unfold Ql0 Jm;rw[if_pos h,if_pos (Wc0 h)]
theorem Ws (h:M.ctxOk c=true):M.sorted0 (M.decL c) (M.terL c):=λt a=>(M.tsort0.1 (M.ctx_terms h t a)).2.2
theorem ctx_few (h:M.ctxOk c=true):(M.terL c).length+([]:List (List Int)).length<=90:=by have:=(M.ctx_iff.1 h).2.2.2.1;simp;omega
theorem Zg0:∀e:List Int,e∈([]:List (List Int))->M.envOk ds e=true:=λe he=>by cases he
theorem Wb0 (h:M.ctxOk c=true):(Ql0 c).2=1\/(Ql0 c).2=2\/(Ql0 c).2=3:=by
 rw[ZL0 h];exact M.solve_code (M.ctx_iff.1 h).2.2.1 (Ws h) Zg0 (ctx_few h)
theorem U70 (h:M.ctxOk c=true) (b:(Ql0 c).2=1):∀t,t∈M.terL c->M.tok (M.decL c) t (Ql0 c).1=true/\M.teval (M.decL c) t (Ql0 c).1=1:=by
 rw[ZL0 h] at b⊢;obtain⟨⟨a,a2,_⟩,_⟩:=M.solve_yes (M.ctx_iff.1 h).2.2.1 (Ws h) Zg0 (ctx_few h) b;generalize (M.solveM 4000 (M.decL c) (M.terL c) []).1=env at a a2;intro t e;have d:M.tok (M.decL c) t env=true:=by
  unfold M.tok;rw[a,M.ctx_terms h t e];rfl
 exact⟨d,by unfold M.teval;rw[if_pos d];exact a2 t e⟩
theorem Wa0 (h:M.ctxOk c=true) (a:M.ctxOk (M.addT c t)=true) (e:(Ql0 (M.addT c t)).2=1):(Ql0 c).2≠2:=λf=>by
 rw[ZL0 a] at e;rw[ZL0 h] at f;obtain⟨⟨d,a2,_⟩,_⟩:=M.solve_yes (M.ctx_iff.1 a).2.2.1 (Ws a) Zg0 (ctx_few a) e;obtain⟨_,b⟩:=M.solve_no (M.ctx_iff.1 h).2.2.1 (Ws h) Zg0 (ctx_few h) f;rw[M.addT_decL (ctx_ne h),M.addT_terL (ctx_ne h)] at d a2;exact b _ ⟨d,λt g=>a2 t (gW _ g),λq=>by cases q⟩
theorem FnCtxAsserted_spec (hx:Bytes F w v xs) (er:Er w at_ an am ar ab) (T:∀w',Ext w w'->K (.bool true) w'):vcall P X6 #[v] w K:=by
 apply WR;simp only[push_cast,hx.len];refine zh (λ_=>T w (Same.refl _ _)) (λ_=>?_);refine DrawCtxAssert_spec hx λw2 cv c tv t ae ad hb ag=>?_;simp only[push_cast];obtain⟨cs,rfl,l⟩:=ag.cells;have hg:aggB P za cs.length=true:=by rw[yl l];exact zp
 refine zB zG λb3 w3 b5 a2 b7 ac=>?_;refine stTerm ac rfl (l.ext a2) λw4 aj b8 I=>?_;have H:Ext w2 w4:=Ext.then a2 aj λy hy=>oM
 have e4:=ae.trans H;have L:=ad.ext H;have R:=l.ext H;have af:=dok_sized hb.2;rw[I.ldAgg hg];refine CtxAssert_spec L R.term hb.1 λw5 xv r ak=>?_;simp only[push_cast];have e5:=e4.trans r;rw[(I.ext r).ldAgg hg];refine spec_CtxAssert_spec (L.ext r) (R.ext r).term hb.1 af λw6 yv N a5=>?_;have e6:=e5.trans N;have S:=ak.ext N;simp only[push_cast];refine zR (λu w'=>u=[]/\Ext w6 w'/\(chg c (M.addT c t)).2=true) (λJ hJ=>?_) ?_
 ·have fin:∀{U:World},Ext w6 U->vif (.bool ((chg c (M.addT c t)).2==(chg c (M.addT c t)).2)) (vcall P je #[xv,yv] U λt68 a8=>K t68 a8) (K (.bool false) U):=λ{U} d=>by
   refine zI (λ_=>?_) (λh=>by simp at h);refine CtxSame_spec (S.ext d) (a5.ext d) λw8 m=>?_;rw[decide_eq_true rfl];exact T w8 ((e6.trans d).trans m)
  refine zI (λh=>by simp at h) (λ_=>?_);refine CtxSame_spec S a5 λU d=>?_;simp only[push_cast];refine zI (λh=>by simp at h) (λ_=>?_);refine zI (λ_=>fin d) (λh=>hJ _ _ ⟨rfl,d,by simpa using h⟩)
 rintro _ _ U ⟨rfl,d,k⟩;have e7:=e6.trans d;have x:M.ctxOk c=true:=by
  refine Gr λh=>?_;rw[YV0 h] at k;cases k
 have a:M.ctxOk (M.addT c t)=true:=by rw[xL0 x] at k;exact k
 have z:=S.ext d;rw[xL0 x] at z;simp only[if_pos a] at z;have V:=(r.trans N).trans d;refine yH0 (L.ext V) hb.1 (er.ext e7) λw8 b4 m ay=>?_;simp only[push_cast];have e8:=e7.trans m;refine yH0 (z.ext m) (ctxB_of a) (er.ext e8) λw9 aa O D=>?_;simp only[push_cast];have e9:=e8.trans O;have al:=(z.ext m).ext O;refine zh (λh1=>?_) (λh1=>?_)
 ·have G:=U70 a h1;have b6:=(M.ctx_iff.1 a).2.2.2.1;refine zu λb9 f _=>?_;have a9:=e9.trans f;refine⟨trivial,?_⟩;refine zh (λ_=>?_) (λh=>absurd (Wa0 x a h1) h);have s:=al.ext f;have ah:t∈M.terL (M.addT c t):=by rw[M.addT_terL (ctx_ne x)];simp
  refine⟨?_,trivial⟩;refine Kw s a λba aq B Y=>⟨?_,trivial⟩;refine Yl0 (s.ext B) a λbb b1 C a3=>⟨?_,trivial⟩;have o:=B.trans C;refine wpTrue_spec (Y.ext C) a3 (D.ext (f.trans o)) oM G λa6 a0=>?_;refine zI (λ_=>?_) (λh=>by cases h);have e:=o.trans a0;have W:Ext w4 a6:=V.trans ((m.trans O).trans (f.trans e));have A:=I.ext W;have E:=s.ext e;have Q:=D.ext (f.trans e);have a4:=R.ext W;have one:∀{j:World} {n:Nat} {dv:Value},Ext a6 j->Blk j n cs za->DclsR (λ_=>True) j dv (M.decL (M.addT c t))->vcall P kG #[dv,.slice (some ⟨n,0,none⟩) 1 1,aa] j λt52 a7=>K t52 a7:=λ{j n dv} b p q=>by
   have ai:TmsR (λ_=>True) j (.slice (some ⟨n,0,none⟩) 1 1) [t]:=by
    refine⟨[cs],(p.sl1k (yl l)).weaken λ_ _ _=>trivial,rfl,λi hi=>?_⟩;have:i=0:=(by simpa using hi);subst this;exact(a4.ext b).weaken λ_ _ _=>trivial
   refine wpTrue_spec q ai (Q.ext b) (by simp) (λu hu=>?_) λap a1=>T ap ((a9.trans e).trans (b.trans a1));rw[gn.1 hu];exact G t ah
  rw[A.ldAgg hg];refine⟨rfl,?_,?_,trivial⟩
  ·refine Kw E a λj au b q=>?_;rw[(A.ext b).ldAgg hg];refine⟨⟨rfl,rfl⟩,?_,trivial⟩;refine xD yS xe zG rfl (yl l) dC λb2 ao ax g b0 X=>⟨?_,trivial⟩;exact one (b.trans g) X (q.ext g)
  ·refine xD yS xe zG rfl (yl l) dC λn j aw b az p=>⟨?_,trivial⟩;refine Kw (E.ext b) a λao av g Z=>⟨?_,trivial⟩;exact one (b.trans g) (p.ext g) Z
 ·rcases Wb0 a with h|h|h
  ·exact absurd h h1
  ·refine zh (λ_=>T w9 e9) (λh2=>absurd h h2)
  ·refine zh (λ_=>T w9 e9) (λh2=>?_);rw[h];exact T w9 e9
end
end Go.Proofs.YtokflbdfnbppjaaGreatDoor
section
namespace Go.Proofs.YtokflbdfnbppjaaGreatDoor
open Go Go.Vc Go.Proofs
open Go.ChangeShapes Go.WideShapes Go.ChangeAt Go.RowKit
theorem WN0:ownKnob P.godebug=none:=rK
theorem UF:laidOutB P=true:=rK
def restFacts (P:Program) (f:FuncId) (fn:Func) (s:ChangeSpec) (c:OpenClaim):Bool:=
 c.wf (OpenSpec.ofChange s)&&
 fn.params.all (P.readableRec ·)&&namedTie P c.named s.vars&&
 (c.stops==[])&&(P.stops==[])&&(c.knobs==[])&&(P.stopKnobs==[])&&
 (c.maps==(fn.params.toList++s.plain.varTypes P).any (P.mapsRec ·))&&(c.ifaces==(fn.params.toList++s.plain.varTypes P).any (P.ifacesRec ·))&&(c.mapsOut==P.mapsAmong fn.resultTypes.toList)&&
 (c.loops==(fn.params.toList++s.plain.varTypes P).any (P.loopsFrom ·))&&(c.wideKeys==(fn.params.toList++s.plain.varTypes P++fn.resultTypes.toList).any (P.wideKeysFrom ·))&&
 s.vars.all (P.varReadable ·)&&fn.resultTypes.all (λt=>P.readableRec t&&decide (t<P.types.size))&&(c.ifacesOut==fn.resultTypes.toList.any (P.ifacesRec ·))&&(c.loopsOut==fn.resultTypes.toList.any (P.loopsFrom ·))&&(c.plainKeys==P.plainKeys)&&c.shortTexts.isNone&&P.stopsHeard&&P.mayEnter&&(c.lifted==P.liftsFinal)&&(P.make==some c.make)&&(c.kinds==(if c.domain.isEmpty then[] else fn.params.toList.map λt=>match P.underlying t with|some (.int k)=>some k|_=>none))&&(c.pinned==c.pinnedBy)&&
 (c.veiled==(fn.params.toList++s.plain.varTypes P++fn.resultTypes.toList).any (P.veiledRec ·))&&c.veiledFits P fn.params.toList (fn.params.toList++s.plain.varTypes P++fn.resultTypes.toList)
theorem K50 {P:Program} {f:FuncId} {fn:Func} {s:ChangeSpec} {c:OpenClaim} (b:laidOutB P=true) (d:mapsRowed P=true) (e:(c.inPlace==P.inPlace f)=true) (g:(c.unfollowed==P.unfollowed f)=true)
  (h:(c.recurses==P.recurses f)=true) (i:(c.named==P.varsNamed f)=true) (a:restFacts P f fn s c=true):joinedFacts P f fn s c=true:=by
 unfold restFacts at a;unfold joinedFacts;rw[b,d,e,g,h,i];simp only[Py];exact a
theorem Vs0:mapsRowed P=true:=rK
theorem Ko0 {w w':World} (h:Ext w w'):Below w.heap.size w w':=⟨h.os,h.tape,h.output,h.size,λk a=>h.block k a id⟩
theorem u8_wf {n:Int} (h:(Lit.int .u8 n).wf=true):0<=n/\n<256:=by
 simp only[Lit.wf,K3,decide_eq_true_eq] at h;have a:IntKind.u8.min=0:=dC
 have b:IntKind.u8.max=255:=dC
 omega
def Qp0 (w:World) (v:Value) (xs:List Nat):Prop:=Vals (λ_=>True) w v (xs.map λx=>Value.int .u8 (x:Nat))/\∀x,x∈xs->x<256
theorem Ky0 (w:World):Qp0 w (.slice none 0 0) []:=⟨⟨⟨none,0,rfl,by simp,by simp,λh=>absurd rfl h⟩,by simp⟩,by simp⟩
theorem bytes_of {w:World} {x:Addr} {len cap:Nat} {zs:List Int} (A:len<=cap) (hm:cap<=maxLen) (B:zs.length=cap) (a:∀i,i<zs.length->w.cell? (x.add i)=some (.int .u8 (zs.getD i 0))) (o:∀n,n∈zs->(Lit.int .u8 n).wf=true):
  Qp0 w (.slice (some x) len cap) ((zs.take len).map Int.toNat):=by
 have c:∀n,n∈zs.take len->0<=n/\n<256:=λn l=>u8_wf (o n (gX l));refine⟨⟨⟨some x,cap,?_,?_,by unfold maxLen at hm;exact hm,λm=>?_⟩,λy p=>by obtain⟨u,_,rfl⟩:=gk.1 p;rfl⟩,λy p=>?_⟩
 ·simp only[X0,gi];rw[Gh oM]
 ·simp only[X0,gi];omega
 ·have hlen:0<len:=by
   refine Nat.pos_of_ne_zero λe=>m ?_;subst e;simp
  obtain⟨b,off,spot⟩:=x;have f:=a 0 oM;have d:spot=none:=(by simpa[Addr.add] using World.cell?_spot f);subst d;refine⟨b,off,rfl,trivial,World.block_lt_of_cell? w _ f,λi r=>?_⟩;simp only[X0,gi] at r;intro j v h;have hit:i<(zs.take len).length:=by simp only[gi];omega
  have t:((((zs.take len).map Int.toNat).map λx=>Value.int .u8 (x:Nat)).map λx=>[x]).getD i []=[Value.int .u8 (((zs.take len)[i].toNat:Nat):Int)]:=by
   simp[q0,r]
  rw[t] at h;have z:j=0:=by
   cases j with
   |zero=>rfl
   |succ j=>simp at h
  subst z;simp only[P5,gV] at h;subst h;have g:i<zs.length:=oM;have q:=a i g;have k:=c _ (Gm hit);have s:zs.getD i 0=(zs.take len)[i]:=(by simp[q0,g]);rw[s,xU] at q;rw[Int.toNat_of_nonneg k.1,xU,pg,pL];exact q
 ·obtain⟨n,l,rfl⟩:=gk.1 p;have:=c n l;omega
end Go.Proofs.YtokflbdfnbppjaaGreatDoor
end
section
namespace Go.Proofs.YtokflbdfnbppjaaGreatDoor
open Go Go.Vc Go.Proofs
open Go.RowKit
theorem laid_at {l:List (String×DataW Unit)} {W:World} (h:laidMet P l W):∀k,laidMet P (l.drop k) W
 |0=>h
 |k+1=>by
  have a:=laid_at h k;rw[<-List.tail_drop];cases b:l.drop k with
  |nil=>rw[b] at a;exact a
  |cons x r=>rw[b] at a;exact a.tail
theorem Yx0: "*" ++ "errors.errorString" = "*errors.errorString" :=dC
theorem Vo0 (u:TypeId) (h:P.typeName? 3 u=some "*errors.errorString"):u=qk:=
 typeName_ptr_named (nm:= "errors.errorString") (by rw[Yx0];kernel_rfl) rK dC u (by rw[Yx0];exact h)
def ifaceB (P:Program) (t:TypeId):Bool:=match P.underlying t with
 |some (.interface _)=>true
 |_=>false
theorem VK0 {P:Program} {t:TypeId} (h:ifaceB P t=true):∃ms,P.underlying t=some (.interface ms):=by
 unfold ifaceB at h;split at h
 ·exact⟨_,by assumption⟩
 ·cases h
theorem Qx0:∃ms,P.underlying yg=some (.interface ms):=VK0 rK
def fieldB (P:Program) (t u:TypeId):Bool:=match P.underlying t with
 |some (.struct fs)=>match fs.toList with
  |[f]=>decide (f.type=u)&&decide (f.offset=0)
  |_=>false
 |_=>false
theorem VR0 {P:Program} {t u:TypeId} (h:fieldB P t u=true):∃f,P.underlying t=some (.struct #[f])/\f.type=u/\f.offset=0:=by
 unfold fieldB at h;split at h
 ·rename_i fs a;split at h
  ·rename_i f b;simp only[K3,decide_eq_true_eq] at h;refine⟨f,?_,h⟩;rw[a];congr 2;exact GJ.1 (by simpa using b)
  ·cases h
 ·cases h
theorem Vp0:P.underlying qk=some (.pointer 380):=rK
theorem Xs0:∃f,P.underlying 380=some (.struct #[f])/\f.type=zS/\f.offset=0:=VR0 rK
theorem Xt0:P.underlying zS=some .string:=rK
theorem Un0:P.cellsOf 380=1/\P.cellsOf zS=1:=⟨rK,rK⟩
theorem vars_len {H:Type} {enc:TypeId×Value->H} {P:Program} {w:World} {sp:Nat->Bool}:∀{ns:List String} {gs:List (DataW H)} {ps:List MemPlace},DataW.TrodVars enc P w sp ns gs ps->gs.length=ns.length
 |[],[],_,_=>rfl
 |[],_::_,_,h=>h.elim
 |_::_,[],_,h=>h.elim
 |_::_,_::_,_,⟨_,_,_,_,_,_,_,_,_,_,hs,_⟩=>by rw[gw,gw,vars_len hs]
theorem vlist5 {α:Type} {l:List α} (h:l.length=5):∃a b c d e,l=[a,b,c,d,e]:=by
 match l,h with
 |[a,b,c,d,e],_=>exact⟨a,b,c,d,e,rfl⟩
end Go.Proofs.YtokflbdfnbppjaaGreatDoor
end
section
namespace Go.Proofs.YtokflbdfnbppjaaGreatDoor
open Go Go.Vc Go.Proofs
open Go.RowKit
theorem zB0 {P:Program} {x y:String×DataW Unit} {r:List (String×DataW Unit)} {w:World} (h:laidMet P (x::y::r) w):laidMet P (x::r) w:=by
 obtain⟨ps,u,j,c⟩:=h;obtain⟨n,d⟩:=x;obtain⟨m,e⟩:=y;obtain⟨g,t,cs,fuel,p,q,o,a2,a3,a4,s,rfl⟩:=u;obtain⟨g2,t2,f,i,p2,l,_,_,_,_,k,rfl⟩:=s;have a:=pJ (pT (MemPlace.row ⟨g,0,none⟩ cs.size++p)) (List.sublist_append_right (MemPlace.row ⟨g2,0,none⟩ f.size++p2) l);exact⟨_,⟨g,t,cs,fuel,p,l,o,a2,a3,a4,k,rfl⟩,List.Nodup.sublist a j,λb off hm=>c b off (a.subset hm)⟩
theorem Xv {W:World} {g:Nat} {a c:Addr} (h:Sent W g a) (b:Sent W g c):a=c:=by
 unfold Sent at h b;rw[h] at b
 injection b with b
 injection b with _ b
 injection b with b
 exact gg b
theorem K4 {j k:String} {t0 t1:List UInt8} {r:List (String×DataW Unit)} {W:World} {g0 g1:Nat} (h:laidMet P ((j,.iface "*errors.errorString" (.ptr (.agg [.lit (.string t0)])))::(k,.iface "*errors.errorString" (.ptr (.agg [.lit (.string t1)])))::r) W)
  (c:P.globalNamed j=some g0) (g:(P.globals[g0]?).map (·.type)=some yg) (d:P.globalNamed k=some g1) (i:(P.globals[g1]?).map (·.type)=some yg):∃a b,Sent W g0 a/\Sent W g1 b/\a≠b/\RowA W a/\RowA W b:=by
 obtain⟨ms,p⟩:=Qx0;obtain⟨f,m,n,o⟩:=Xs0;obtain⟨a0,l,v,s1,c0,c1,t,u,v0,v1,_,_,_,_,_,_,e,q,s⟩:=laid_sentinels2 h c g d i p Vo0 Vp0 m n o Xt0 Un0.1 Un0.2;exact⟨a0,l,by unfold Sent;simpa using World.var?_cell c v0 0,by unfold Sent;simpa using World.var?_cell d v1 0,e,⟨c0,t,q⟩,⟨c1,u,s⟩⟩
theorem er_of {nr nb nt nn nm:String} {tr tb tt tn tm:List UInt8} {r l:List (String×DataW Unit)} {W:World} (h:laidMet P l W) (k:Nat)
  (B:l.drop k=(nr,.iface "*errors.errorString" (.ptr (.agg [.lit (.string tr)])))::(nb,.iface "*errors.errorString" (.ptr (.agg [.lit (.string tb)])))::(nt,.iface "*errors.errorString" (.ptr (.agg [.lit (.string tt)])))::(nn,.iface "*errors.errorString" (.ptr (.agg [.lit (.string tn)])))::(nm,.iface "*errors.errorString" (.ptr (.agg [.lit (.string tm)])))::r)
  (er:P.globalNamed nr=some xz) (eb:P.globalNamed nb=some xA) (et:P.globalNamed nt=some yw) (en:P.globalNamed nn=some ku) (em:P.globalNamed nm=some jf)
  (fr:(P.globals[xz]?).map (·.type)=some yg) (fb:(P.globals[xA]?).map (·.type)=some yg) (ft:(P.globals[yw]?).map (·.type)=some yg) (fn:(P.globals[ku]?).map (·.type)=some yg) (fm:(P.globals[jf]?).map (·.type)=some yg):
  ∃at_ an am ar ab,Er W at_ an am ar ab:=by
 have a:=laid_at h k;rw[B] at a;obtain⟨ar,ab,sr,sb,_,rr,_⟩:=K4 a er fr eb fb;have b:=zB0 a;obtain⟨w,at_,j,st,C,_,rt⟩:=K4 b er fr et ft;have q:=zB0 b;obtain⟨x,an,m,sn,D,_,rn⟩:=K4 q er fr en fn;obtain⟨y,am,n,sm,E,_,rm⟩:=K4 (zB0 q) er fr em fm;have c:=b.tail;obtain⟨z,u,o,g,F,_⟩:=K4 c et ft en fn;obtain⟨A,s,p,d,G,_⟩:=K4 (zB0 c) et ft em fm;obtain⟨v,t,i,f,n6,_⟩:=K4 c.tail en fn em fm;obtain rfl:=Xv j sr;obtain rfl:=Xv m sr;obtain rfl:=Xv n sr;obtain rfl:=Xv o st;obtain rfl:=Xv p st;obtain rfl:=Xv g sn;obtain rfl:=Xv i sn;obtain rfl:=Xv d sm;obtain rfl:=Xv f sm;exact⟨_,_,_,_,ab,st,sn,sm,⟨sr,sb,id,id⟩,rt,rn,rm,rr,λe=>F e.symm,λe=>G e.symm,λe=>n6 e.symm,C,D,E⟩
end Go.Proofs.YtokflbdfnbppjaaGreatDoor
end
