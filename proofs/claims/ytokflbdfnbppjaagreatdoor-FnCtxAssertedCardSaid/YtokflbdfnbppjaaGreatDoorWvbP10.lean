import Derived.Test.YtokflbdfnbppjaaGreatDoorWvbP9
/- A part of the proof. -/
set_option linter.all false
namespace Go.Proofs.YtokflbdfnbppjaaGreatDoor
open Go Go.Vc Go.Proofs
section
variable {w:World} {K:Value->World->Prop} {F Fx Q X:Nat->Prop} {n bc mb m:Nat} {gs:M.Gs} {v:Value} {ar ab:Addr}
theorem gone (gs:M.Gs):∀y,y∈gs.map kq->∀c,c∈y->c.oneCell'=true:=λy b c a=>by
 obtain⟨g,_,rfl⟩:=gk.1 b;simp only[kq,gd,gx,or_false] at a;rcases a with rfl|rfl|rfl<;>rfl
theorem OwnG.nil:OwnG w (.slice none 0 0) []:=Own.nil P 0 3 zO w
theorem Clone_gate (d:GatesR Fx w v gs) (u:gs.length<=1000000) (l:∀w' v',Ext w w'->OwnG w' v' gs->(∀x,v'.ownBlock=some x->w.heap.size<=x)->K v' w'):
  vcall P x6 #[v] w K:=by
 apply Zv;obtain⟨a,c,rfl,r,s,f⟩:=d.shape;rw[X0] at d r⊢;rw[yN0 V8];refine zI (λm=>?_) (λm=>?_)
 ·cases a with
  |some a=>cases m
  |none=>
   have k:gs=[]:=by
    have n:gs.map kq=[]:=Gr λh=>by
     obtain⟨b,o,p,_⟩:=f h;cases p
    simpa using n
   subst k;exact l w _ (Same.refl _ _) OwnG.nil λx d=>by cases d
 ·refine qC xA0 Xk0 λb w1 z he A q=>?_;have g:Own P 0 3 zO w1 (.slice (some ⟨b,0,none⟩) 0 0) []:=Blk.ownk (css:=[]) (by rw[ZI0];exact q) (λx d=>by cases d) rfl oM;have j:Sl Fx w1 3 (.slice a gs.length c) (gs.map kq):=Sl.ext d he;refine vappend (bs:=24) xG0 dC g j (gone gs) oM (by rw[X0];simp;omega) (by rw[X0];simp;omega) λv' w2 t hs i=>?_;have y:=he.size;refine l w2 v' (Ext.then he hs λx d=>by have e:b=x:=gg d;omega) t λx d=>?_;rcases i x d with h|h
  ·have e:b=x:=gg h;omega
  ·omega
theorem sigof_spec {a m:Int} (hm:m.natAbs<=1000000) (b:K (.bool (decide (a≠0/\ -m<=a/\a<=m))) w):vcall P Z8 #[.int .i64 a,.int .i64 m] w K:=by
 apply qc0;simp only[push_cast];refine zh (λc=>?_) (λc=>?_)
 ·simp(disch:=omega) only[push_cast,zJ,GS];refine zh (λd=>?_) (λd=>?_)
  ·try simp only[push_cast]
   rwa[show decide (a≠0/\ -m<=a/\a<=m)=decide (a<=m) from decide_eq_decide.2 ⟨λh=>h.2.2,λh=>⟨c,d,h⟩⟩] at b
  ·rwa[decide_eq_false (λh=>d h.2.1)] at b
 ·rwa[decide_eq_false (λh=>c h.1)] at b
theorem kS0 {a:Int} {o:Option Addr} {l c mb:Nat}:zD P zT [(0,.agg ⟨[.int .i64 a,.slice o l c]⟩),(1,.map (some mb))] w K=K (.agg ⟨[.int .i64 a,.slice o l c,.map (some mb)]⟩) w:=yp kz0 (us:=[[.int .i64 a,.slice o l c],[.map (some mb)]]) rfl rfl
theorem KE0 {a:Int} {o:Option Addr} {l c:Nat}:zD P zZ [(0,.int .i64 a),(1,.slice o l c)] w K=K (.agg ⟨[.int .i64 a,.slice o l c]⟩) w:=yp kT0 (us:=[[.int .i64 a],[.slice o l c]]) rfl rfl
structure Rd (n:Nat) (w:World) (bc:Nat) (v':Value) (mb:Nat) (gs:M.Gs) (i:Nat) (w':World):Prop where
 ext:Ext w w'
 blk:Blk w' bc [.int .i64 n,v',.map (some mb)] zT
 own:OwnG w' v' gs
 map:∃f,GMap w' mb f/\∀g,WO g f=if g∈gs.take i then some (2+n+gs.idxOf g:Int) else none
 sep:bc≠mb/\v'.ownBlock≠some bc/\v'.ownBlock≠some mb
 new:∀b,WP bc mb v' b->w.heap.size<=b
theorem readNet_spec (hv:GatesR Fx w v gs) (hg:M.NetG n gs) (hn:n<=8) (hK:∀w' bc v' mb,CktR n bc w' gs v' mb->Ext w w'->(∀b,WP bc mb v' b->w.heap.size<=b)->K (.tuple #[.pointer (some ⟨bc,0,none⟩),.bool true]) w'):
  vcall P J8 #[.agg ⟨[.int .i64 n,v]⟩] w K:=by
 apply ki0;refine zx λb1 w1 aq F av x=>?_;have au:GatesR Fx w1 v gs:=Sl.ext hv F;have ae:=hg.few;have hlen:∀(w':World) (K:Value->World->Prop),vbi P .len [zO] ze [v] w' K=K (.int .i64 gs.length) w':=λw' K=>by rw[Sl.len hv V8,VL0]
 refine zR (λu w'=>u=[]/\w'=w1) ?_ ?_
 ·intro J O;simp(disch:=first|(simp only[push_cast])|omega) only[push_cast,x.ld0];refine zh (λc=>absurd c oM) (λ_=>?_)
  try simp(disch:=first|(simp only[push_cast])|omega) only[push_cast,x.ld0]
  refine zh (λc=>absurd c oM) (λ_=>?_)
  try simp(disch:=first|(simp only[push_cast])|omega) only[push_cast,x.ld1,hlen]
  refine zh (λc=>absurd c oM) (λ_=>?_);exact O _ _ ⟨rfl,rfl⟩
 rintro _ _ w2 ⟨rfl,rfl⟩;refine zR (λu w'=> ∃bc v' mb,u=[.pointer (some ⟨bc,0,none⟩)]/\Rd n w2 bc v' mb gs 0 w') ?_ ?_
 ·intro J O;refine zu λw3 B _=>?_;have z:=x.ext B;have e3:=F.trans B;simp(disch:=first|(simp only[push_cast])|omega) only[push_cast,z.ld0,z.ld1,true_and,and_true];refine⟨?_,?_⟩
  ·refine Clone_gate (Sl.ext hv e3) oM λw4 v' p k T=>?_;have A:=z.ext p;obtain⟨o,c,rfl,_⟩:=(Own.sl k).shape;simp(disch:=first|(simp only[push_cast])|omega) only[push_cast,A.ld0,true_and,and_true,and_self,KE0];refine UR0 rfl λmb w5 am a2 l ag=>?_;have q:=A.ext l;simp(disch:=first|(simp only[push_cast])|omega) only[push_cast,q.ld0,true_and,and_true,and_self,KE0,kS0];refine zx λbc w6 ak r ah E=>?_;have z3:=B.size;have z4:=p.size;have S:=(λb Q=>(Own.lt k (b:=b) Q).2);refine O _ _ ⟨bc,_,mb,rfl,B.trans (p.trans (l.trans r)),E,Own.ext k (l.trans r),⟨[],a2.ext r,λg=>rfl⟩,⟨oM,λh=>by have:=S _ h;omega,λh=>by have:=S _ h;omega⟩,?_⟩;rintro b (rfl|rfl|h)
   ·omega
   ·omega
   ·have:=T b h;omega
  ·refine UR0 rfl λmb w5 am a2 l ag=>?_;have q:=z.ext l;simp(disch:=first|(simp only[push_cast])|omega) only[push_cast,q.ld0,q.ld1,true_and,and_true,and_self];refine Clone_gate (Sl.ext hv (e3.trans l)) oM λw4 v' p k T=>?_;have A:=q.ext p;obtain⟨o,c,rfl,_⟩:=(Own.sl k).shape;simp(disch:=first|(simp only[push_cast])|omega) only[push_cast,A.ld0,true_and,and_true,and_self,KE0,kS0];refine zx λbc w6 ak r ah E=>?_;have z3:=B.size;have z4:=p.size;have S:=(λb Q=>(Own.lt k (b:=b) Q).2);refine O _ _ ⟨bc,_,mb,rfl,B.trans (l.trans (p.trans r)),E,Own.ext k r,⟨[],a2.ext (p.trans r),λg=>rfl⟩,⟨oM,λh=>by have:=S _ h;omega,λh=>by have:=T _ h;omega⟩,?_⟩;rintro b (rfl|rfl|h)
   ·omega
   ·omega
   ·have:=T b h;omega
 rintro _ _ w3 ⟨bc,v',mb,rfl,h3⟩;have z:=x.ext h3.ext;simp(disch:=first|(simp only[push_cast])|omega) only[push_cast,z.ld1,hlen];refine vloop_up gs.length (λi u w'=>u=[.int .i64 i]/\Rd n w2 bc v' mb gs i w') ⟨rfl,h3⟩ ?_;rintro i _ _ w4 C hi ⟨rfl,d⟩ hC;have A:=x.ext d.ext;simp only[push_cast];refine zh (λa=>?_) (λa=>?_)
 ·have m:i<gs.length:=oM;have k:Sl Fx w4 3 v (gs.map kq):=Sl.ext hv (F.trans d.ext);have al:(gs.map kq).getD i []=kq gs[i]:=(by simp[q0,m]);rw[Sl.iaddr k xI0 oM (by rw[VL0];omega),gm,Sl.ldAgg k Zt (by rw[VL0];exact m),al];obtain⟨g1,g2,g3,g4⟩:=hg.gate i m;have Y:gs[i]∉gs.take i:=λh=>by
   obtain⟨j,hj,e⟩:=gl h;rw[gi] at hj;rw[pc] at e;exact Gw.1 hg.once j i oM m oM e
  have ao:gs.take (i+1)=gs.take i++[gs[i]]:=by rw[pb,Q1 m];rfl
  have af:gs.idxOf gs[i]=i:=List.Nodup.idxOf_getElem hg.once i m;generalize gs[i]=g at*;have absN:∀a:Int,M.absI a=(a.natAbs:Int):=λa=>by unfold M.absI;split<;>omega
  have ga:=absN g.a;have gb:=absN g.b;refine zB KX λb5 w5 ar l ag q=>?_;refine q.stAgg (cs':=kq g) rfl Zt (λc hc=>by simp only[kq,gd,gx,or_false] at hc;rcases hc with rfl|rfl|rfl<;>rfl) λw6 an ah E=>?_;have ai:Ext w4 w6:=Ext.then l an λy hy=>by subst hy;omega
  refine zu λw7 aa _=>?_;have N:=E.ext aa;have a4:=ai.trans aa;have Z:=A.ext a4;have a1:∀w':World,Blk w' b5 (kq g) zt->∀K:Value->World->Prop,zf P zt (.pointer (some ⟨b5,0,none⟩)) w' K=K (gv g) w':=λw' hB K=>Blk.ldAgg hB (by exact Zt);simp(disch:=first|(simp only[push_cast])|omega) only[push_cast,N.ld1,N.ld2,true_and];refine zR (λu w'=>u=[]/\Ext w7 w') ?_ ?_
  ·intro J O;rw[Z.ldAgg (t:=zZ) Jt];refine nodes_spec oM oM λw8 ab=>?_;refine sigof_spec oM ?_;rw[decide_eq_true ⟨oM,oM,oM⟩];have aj:=Z.ext ab;simp(disch:=first|(simp only[push_cast])|omega) only[push_cast,ph,aj.ldAgg (t:=zZ) Jt];refine nodes_spec oM oM λw9 D=>?_;refine sigof_spec oM ?_;rw[decide_eq_true ⟨oM,oM,oM⟩];simp only[push_cast,ph];refine node_spec oM ?_;simp only[push_cast];refine zh (λc=>absurd c oM) (λ_=>?_);refine node_spec oM ?_;simp only[push_cast];refine zh (λc=>absurd c oM) (λ_=>?_);refine node_spec oM (node_spec oM ?_);simp only[push_cast];refine zh (λc=>absurd c oM) (λ_=>?_);exact O _ _ ⟨rfl,ab.trans D⟩
  rintro _ _ w9 ⟨rfl,D⟩;have a5:=a4.trans D;refine zR (λu w'=>u=[]/\Ext w9 w') ?_ ?_
  ·intro J O;refine zu λaw s _=>?_;have e:=a5.trans s;have a6:=d.blk.ext e;have V:=(N.ext D).ext s;obtain⟨f,hf,hl⟩:=d.map;have ac:=hf.ext e;have a3:WO g f=none:=(by rw[hl,if_neg Y]);simp(disch:=first|(simp only[push_cast])|omega) only[push_cast,a6.ld2,a1 _ V,Wv0 ac,a3,true_and];simp(disch:=first|(simp only[push_cast])|omega) only[push_cast,V.ld0];refine zI (λhx=>?_) (λhx=>?_)
   ·obtain⟨p1,p2⟩:=g4 hx
    try simp only[push_cast]
    refine zh (λc=>absurd c oM) (λ_=>?_)
    try simp only[push_cast]
    refine zh (λc=>absurd c oM) (λ_=>?_);exact O _ _ ⟨rfl,s⟩
   ·exact O _ _ ⟨rfl,s⟩
  rintro _ _ ax ⟨rfl,G⟩;refine zu λay H _=>?_;have e:=(a5.trans G).trans H;have a7:=d.blk.ext e;have W:=((N.ext D).ext G).ext H;have a9:=((Z.ext D).ext G).ext H;simp(disch:=first|(simp only[push_cast])|omega) only[push_cast,a7.ld2,a1 _ W,a9.ldAgg (t:=zZ) Jt,true_and];refine nodes_spec oM oM λaz X=>?_;have L:=e.trans X;have U:=d.blk.ext L;have a8:=W.ext X;obtain⟨f,hf,hl⟩:=d.map;have a3:WO g f=none:=(by rw[hl,if_neg Y]);simp(disch:=first|(simp only[push_cast])|omega) only[push_cast,U.ld2,a1 _ a8,true_and,and_self,and_true,zJ];refine gset (hf.ext L) a3 λb0 ad I ap=>?_
  try simp(disch:=omega) only[push_cast,zJ]
  have l4:=d.ext.size;refine hC m _ _ ⟨by simp,Ext.then (d.ext.trans L) I (λb Q=>by have:=d.new b (.inr (.inl Q));omega),U.same I d.sep.1,Own.same (Own.ext d.own L) I (λb Q e=>d.sep.2.2 (e▸Q)),⟨_,ad,λg'=>?_⟩,d.sep,d.new⟩;have e1:=look_app (g:=g') (h:=g) (n:=1+(n:Int)+i+1) (f:=f) (i:=0);have e2:=hl g';unfold WO at e2⊢;rw[e1,e2,ao];by_cases R:g'∈gs.take i
  ·rw[if_pos R,if_pos (gj.2 (.inl R))]
  ·rw[if_neg R];by_cases a0:g'=g
   ·subst a0;simp only;rw[if_pos trivial,if_pos (by simp),af];congr 1;omega
   ·simp only;rw[if_neg a0,if_neg (by simp[R,a0])]
 ·have m:i=gs.length:=oM;subst m;obtain⟨f,hf,hl⟩:=d.map;rw[gA] at hl;have z1:=F.size;exact hK w4 bc v' mb ⟨d.blk,d.own,⟨f,hf,hl⟩,d.sep,ae,hn⟩ (F.trans d.ext) λb Q=>by have:=d.new b Q;omega
end
section
variable {w:World} {K:Value->World->Prop} {F Fx Q X:Nat->Prop} {n bl bc mb bb kb m:Nat} {gs:M.Gs} {v dv:Value} {ar ab:Addr} {ds:List M.Dcl}
theorem Ua0 {a:Int}:zD P zZ [(0,.int .i64 a)] w K=K (.agg ⟨[.int .i64 a,.slice none 0 0]⟩) w:=yp kT0 (us:=[[.int .i64 a]]) rfl rfl
theorem QZ0 {a:Addr}:zD P y8 [(0,.pointer (some a))] w K=K (.agg ⟨[.pointer (some a),.nilIface]⟩) w:=yp kB0 (us:=[[.pointer (some a)]]) rfl rfl
theorem J00 {a:Addr} {o:Option Addr} {l c k m:Nat}:zD P zW [(0,.pointer (some a)),(1,.slice o l c),(2,.map (some k)),(3,.map (some m))] w K=K (.agg ⟨[.pointer (some a),.slice o l c,.map (some k),.map (some m)]⟩) w:=yp kC0 (us:=[[.pointer (some a)],[.slice o l c],[.map (some k)],[.map (some m)]]) rfl rfl
theorem GatesR.nil:GatesR Fx w (.slice none 0 0) []:=Sl.weaken (Own.sl (OwnG.nil (w:=w))) λb a _=>by cases a
theorem NetG.nil (n:Nat):M.NetG n []:=⟨by simp,λk h=>absurd h (by simp),pk⟩
theorem newBlaster_spec (A:M.declOk ds=true) (n:DclsR Fx w dv ds) (he:Errs (λ_=>False) w ar ab)
  (J:∀w' bl bb kb m F,BlR (M.bits ds).toNat bl bb kb m ar ab ds dv (· =m) F w' (some [])->Ext w w'->(∀b,F b\/b=m\/b=bl->w.heap.size<=b)->K (.pointer (some ⟨bl,0,none⟩)) w'):vcall P Yt #[dv] w K:=by
 apply xe0;have Z:=(M.decl_iff.1 A).2.2;have Y:=M.bits_pos' (ds:=ds) λd B=>by
  obtain⟨i,H,e⟩:=gl B;have:=(M.dcl_wide A H).1;rw[q0,Q1 H] at this;simp only[gI,e] at this;omega
 refine bitsOf_spec n A λw1 s=>?_;rw[Ua0,show M.bits ds=(((M.bits ds).toNat:Nat):Int) by omega];refine readNet_spec (Fx:=Fx) (gs:=[]) GatesR.nil (NetG.nil _) oM λw2 bc v' mb G t E=>?_;simp only[push_cast,QZ0];refine zx λbb w3 L u T y=>?_;refine kinds_new λW kb q v R=>?_;refine kY0 zz0 λm w5 hm D l U=>?_;obtain⟨o,c,rfl,_⟩:=n.shape;rw[J00];refine zx λbl X N g V z=>?_;have s1:=s.size;have s2:=t.size;have s3:=u.size;have s4:=q.size;have s5:=l.size;have s6:=g.size;have r:=u.trans (q.trans (l.trans g));have x:=t.trans r;have k:=s.trans x;have j:∀b,WP bc mb v' b->b<w2.heap.size:=λb f=>G.lt f;have C:=v.ext (l.trans g);have O:=v.lt;have a:∀b,(WP bc mb v' b\/b=bb)->w.heap.size<=b/\b<W.heap.size:=λb f=>f.elim (λh=>by have:=E b h;have:=j b h;omega) λh=>oM
 refine J X bl bb kb m (λb=>WP bc mb v' b\/b=bb) ⟨⟨⟨?_,?_,?_⟩,⟨bc,y.ext (q.trans (l.trans g)),λgs e=>?_⟩,.inr rfl,λb f=>?_⟩,z,⟨λh=>by have:=(a _ h).2;omega,λh=>by have:=(a _ h).2;omega,?_,oM,oM⟩,rfl,?_,C,?_⟩ k λb f=>?_
 ·exact he.room.same k id
 ·exact he.bits.same k id
 ·have l1:=he.room.lt;have l2:=he.bits.lt;exact⟨λh=>by have:=(a _ h).1;omega,λh=>by have:=(a _ h).1;omega⟩
 ·cases e;exact⟨v',mb,G.ext r,λh=>by have:=j _ h;omega,λb f=> .inl f⟩
 ·rcases f with h|h
  ·have:=(a _ h).2;omega
  ·omega
 ·rintro(h|h)
  ·have:=j _ h;omega
  ·omega
 ·have I:DclsR (λb=>Fx b/\b<w.heap.size) w _ ds:=Sl.weaken n λb f Q=>⟨f,Q⟩;exact Sl.weaken (Sl.ext I k) λb f _=>⟨λh=>by have:=(a _ h).1;omega,λh=>oM⟩
 ·exact⟨[],D.ext g,λp S=>by cases S⟩
 ·rcases f with h|h|h
  ·exact(a _ h).1
  ·omega
  ·omega
theorem Vl0 {t:M.Tm} (h:M.tsort ds t≠ -1):M.fits t=true/\M.declOk ds=true/\M.sortM ds t≠ -1/\M.sizeM t<=20:=by
 unfold M.tsort at h;split at h
 ·next a=>exact⟨a.1,a.2,h,(M.fits_iff.1 a.1).1⟩
 ·exact absurd rfl h
end
theorem net_one {a:Int} {o:Option Addr} {l c:Nat}:∀u,u∈[Value.int .i64 a,.slice o l c]->u.oneCell'=true:=λu hu=>by
 simp only[gd,gx,or_false] at hu;rcases hu with rfl|rfl<;>rfl
end Go.Proofs.YtokflbdfnbppjaaGreatDoor
namespace Go.M
open Go.Vc
section
mutual
def sameT:Tm->Tm->Bool
 | .mk o a b s ks,.mk o' a' b' s' ks'=>decide (o=o')&&decide (a=a')&&decide (b=b')&&decide (s=s')&&sameL ks ks'
def sameL:List Tm->List Tm->Bool
 |[],[]=>true
 |x::xs,y::ys=>sameT x y&&sameL xs ys
 |[],_::_=>false
 |_::_,[]=>false
end
theorem Vr0 {xs:List Tm} (a:∀k,k∈xs->∀y,sameT k y=true↔k=y):∀ys,sameL xs ys=true↔xs=ys:=by
 induction xs with
 |nil=>intro ys;cases ys<;>simp[sameL]
 |cons x xs ihx=>
  intro ys;cases ys with
  |nil=>simp[sameL]
  |cons y ys=>
   rw[sameL,K3,a x V0,ihx (λk b=>a k (gh _ b)),Gg]
theorem sameT_iff:∀t u:Tm,sameT t u=true↔t=u:=by
 refine Tm.ind λt c u=>?_;cases t with
 |mk o a b s ks=>
  cases u with
  |mk o' e f g d=>
   rw[sameT,K3,Vr0 (xs:=ks) c];simp only[K3,decide_eq_true_eq,Tm.mk.injEq,and_assoc]
instance:DecidableEq Tm:=λt u=>decidable_of_iff _ (sameT_iff t u)
theorem tm_ext {t u:Tm} (c:t.op=u.op) (d:t.a=u.a) (e:t.b=u.b) (f:t.s=u.s) (g:t.ks=u.ks):t=u:=by
 cases t;cases u;simp only[Tm.op,Tm.a,Tm.b,Tm.s,Tm.ks] at c d e f g;rw[c,d,e,f,g]
def truT:Tm:= .mk 24 0 0 nada []
def flsT:Tm:= .mk 25 0 0 nada [truT]
def fixedM (t:Tm):Option Int:=if t=truT then some 1 else if t=flsT then some 0 else if t.op=20/\t.ks=[]/\t.s=nada/\vok t.a t.b=true then some t.b else none
def isM (t:Tm) (n:Int):Bool:=decide (fixedM t=some n)
def constM (w n:Int):Tm:=if 0<w then .mk 20 w n nada [] else if n=1 then truT else flsT
def zeroE (ds:List Dcl):List Int:=List.replicate ds.length 0
theorem zeroE_ok {ds:List Dcl} (h:declOk ds=true):envOk ds (zeroE ds)=true:=by
 unfold envOk zeroE;rw[h,gE];simp only[decide_true,pI,gH,gr];intro i a;have hw:=dcl_wide h a;have:(List.replicate ds.length (0:Int)).getD i 0=0:=by simp[q0,Pl,a]
 rw[this,vok_iff];exact⟨hw.1,hw.2,Pk _,Int.pow_pos dC⟩
section
variable {ds:List Dcl} {env:List Int} {t u:Tm} {w n:Int}
theorem Z50:sortM ds truT=0:=by rw[sort_leaf (formed_iff.2 ⟨rfl,rfl⟩) rfl];rfl
theorem XY0:evalM ds env truT=1:=by rw[eval_leaf (.inr (.inr rfl))];rfl
theorem Zt0 (a:declOk ds=true):sortM ds flsT=0:=by
 rw[sort_one a (formed_iff.2 ⟨rfl,rfl⟩) rfl];show oneM _ (sortM ds truT)=0;rw[Z50];rfl
theorem VP0 (he:envOk ds env=true):evalM ds env flsT=0:=by
 rw[(eval_no he (by rw[Zt0 (env_ok he).1];decide) rfl).2.2];show(1:Int)-evalM ds env truT=0;rw[XY0];rfl
theorem XT0 {t:Tm} (c:t.op=20) (d:t.ks=[]) (e:t.s=nada) (g:vok t.a t.b=true):sortM ds t=t.a:=by
 have f:plainM t=true:=by simp[plainM,c,e]
 rw[sort_leaf (formed_iff.2 ⟨by rw[c,d];rfl,f⟩) (by rw[d];rfl)];unfold sortK;rw[if_pos c,if_pos g]
theorem fixed_cases (h:fixedM t=some n):(t=truT/\n=1)\/(t=flsT/\n=0)\/(t.op=20/\t.ks=[]/\t.s=nada/\vok t.a t.b=true/\n=t.b):=by
 unfold fixedM at h;split at h
 ·exact .inl ⟨by assumption,(gg h).symm⟩
 split at h
 ·exact .inr (.inl ⟨by assumption,(gg h).symm⟩)
 split at h
 ·rename_i c;exact .inr (.inr ⟨c.1,c.2.1,c.2.2.1,c.2.2.2,(gg h).symm⟩)
 ·cases h
theorem fixed_good (he:envOk ds env=true) (h:fixedM t=some n):sortM ds t≠ -1/\evalM ds env t=n/\inS (sortM ds t) n:=by
 rcases fixed_cases h with⟨rfl,rfl⟩|⟨rfl,rfl⟩|⟨a,c,d,b,rfl⟩
 ·rw[Z50,XY0];exact⟨dC,rfl,.inl ⟨rfl,.inr rfl⟩⟩
 ·rw[Zt0 (env_ok he).1,VP0 he];exact⟨dC,rfl,.inl ⟨rfl,.inl rfl⟩⟩
 ·rw[XT0 a c d b,eval_leaf (.inl a),if_pos a];have:=vok_lt b;exact⟨oM,rfl,.inr b⟩
theorem isM_iff:isM t n=true↔fixedM t=some n:=by unfold isM;rw[decide_eq_true_eq]
theorem const_fixed (h:inS w n):fixedM (constM w n)=some n:=by
 unfold constM;rcases h with⟨c,b⟩|h
 ·rw[if_neg oM];rcases b with e|e
  ·rw[e,if_neg dC];rfl
  ·rw[e,if_pos rfl];rfl
 ·have hw:=vok_lt h;rw[if_pos oM];have a: ¬Tm.mk 20 w n nada []=truT:=λe=>by
   have e:(20:Int)=24:=congrArg Tm.op e;omega
  have a2: ¬Tm.mk 20 w n nada []=flsT:=λe=>by
   have e:(20:Int)=25:=congrArg Tm.op e;omega
  unfold fixedM;rw[if_neg a,if_neg a2];exact if_pos ⟨rfl,rfl,rfl,h⟩
theorem const_sort (b:declOk ds=true) (h:inS w n):sortM ds (constM w n)=w:=by
 unfold constM;rcases h with⟨a,c⟩|h
 ·rw[if_neg oM];split
  ·rw[Z50,a]
  ·rw[Zt0 b,a]
 ·have hw:=vok_lt h;rw[if_pos oM];exact XT0 rfl rfl rfl h
theorem Jx (he:envOk ds env=true) (h:inS w n):evalM ds env (constM w n)=n:=(fixed_good he (const_fixed h)).2.1
def allFixed (t:Tm):Bool:=decide (t.ks≠[])&&t.ks.all λk=>(fixedM k).isSome
def ruleX (ds:List Dcl) (t:Tm):Option Tm:=if allFixed t=true then some (constM (sortM ds t) (evalM ds (zeroE ds) t)) else none
def ruleB (t:Tm):Option Tm:=
 if t.op=25/\(kid t 0).op=25 then some (kid (kid t 0) 0)
 else if t.op≠23 then none
 else if isM (kid t 0) 1=true then some (kid t 1)
 else if isM (kid t 0) 0=true then some (kid t 2)
 else if kid t 1=kid t 2 then some (kid t 1) else none
def neutral (o:Int):Int:=if o=26 then 1 else 0
def ruleT (t:Tm):Option Tm:=
 if t.op=26\/t.op=27 then
  if isM (kid t 0) (neutral t.op)=true\/kid t 0=kid t 1 then some (kid t 1)
  else if isM (kid t 1) (neutral t.op)=true then some (kid t 0)
  else if isM (kid t 0) (1-neutral t.op)=true\/isM (kid t 1) (1-neutral t.op)=true then some (constM 0 (1-neutral t.op)) else none
 else none
def ruleL (ds:List Dcl) (t:Tm):Option Tm:=
 if t.op=22 then(if t.b=0/\t.a=sortM ds (kid t 0)-1 then some (kid t 0) else none)
 else if(t.op=1\/t.op=2)/\(kid t 0).op=t.op then some (kid (kid t 0) 0) else none
def ruleW (ds:List Dcl) (t:Tm):Option Tm:=
 if t.ks.length=2/\kid t 0=kid t 1 then
  if t.op=3\/t.op=4 then some (kid t 0)
  else if t.op=5\/t.op=7 then some (constM (sortM ds t) 0)
  else if t.op=15 then some (constM 0 1)
  else if t.op=16\/t.op=17 then some (constM 0 0) else none
 else none
def ruleS (t:Tm):Option Tm:=
 if t.ks.length=2 then
  if isM (kid t 1) 0=true/\(t.op=4\/t.op=5\/t.op=6\/t.op=7\/t.op=11\/t.op=12\/t.op=13) then some (kid t 0)
  else if isM (kid t 1) 0=true/\(t.op=3\/t.op=8) then some (kid t 1)
  else if isM (kid t 1) 1=true/\t.op=8 then some (kid t 0) else none
 else none
def ruleF (t:Tm):Option Tm:=
 if t.ks.length=2 then
  if isM (kid t 0) 0=true/\(t.op=4\/t.op=5\/t.op=6) then some (kid t 1)
  else if isM (kid t 0) 0=true/\(t.op=3\/t.op=8) then some (kid t 0)
  else if isM (kid t 0) 1=true/\t.op=8 then some (kid t 1) else none
 else none
def ruleA (ds:List Dcl) (t:Tm):Option Tm:=ruleX ds t <|> ruleB t <|> ruleT t <|> ruleL ds t <|> ruleW ds t <|> ruleS t <|> ruleF t
def oneT (ds:List Dcl) (t:Tm):Tm:=(ruleA ds t).getD t
def foldT (ds:List Dcl):Tm->Tm:=Tm.fold λt us=>oneT ds (.mk t.op t.a t.b t.s us)
theorem VN0 (ds:List Dcl) (t:Tm):foldT ds t=oneT ds (.mk t.op t.a t.b t.s (t.ks.map (foldT ds))):=Tm.fold_eq _ t
inductive Src (t:Tm):Tm->Prop
 |kid (i:Nat) (h:i<t.ks.length):Src t (kid t i)
 |deep (i j:Nat) (h:i<t.ks.length) (h':j<(M.kid t i).ks.length):Src t (M.kid (M.kid t i) j)
 |const (w n:Int) (h:t.ks≠[]) (h':inS w n):Src t (constM w n)
structure Step (ds:List Dcl) (t u:Tm):Prop where
 src:Src t u
 sort:sortM ds u=sortM ds t
 eval:∀env,envOk ds env=true->evalM ds env u=evalM ds env t
theorem yO0 {α:Type} {a b:Option α} {x:α} (h:(a <|> b)=some x):a=some x\/(a=none/\b=some x):=by
 cases a with
 |none=>exact .inr ⟨rfl,h⟩
 |some y=>exact .inl h
theorem VG0 {i:Nat} (h:i<t.ks.length):t.ks≠[]:=λe=>by rw[e] at h;simp at h
theorem len_of (hs:sortM ds t≠ -1):arity t.op=t.ks.length:=(formed_iff.1 (sort_parts hs).1).1
theorem allFixed_eval (he:envOk ds env=true) (hs:sortM ds t≠ -1) (h:allFixed t=true):evalM ds (zeroE ds) t=evalM ds env t:=by
 have f:=zeroE_ok (env_ok he).1;unfold allFixed at h;simp only[K3,decide_eq_true_eq,gH] at h;have b:t.ks.map (vecM ds (zeroE ds))=t.ks.map (vecM ds env):=Gb λk b=>by
  obtain⟨n,c⟩:=pG.1 (h.2 k b);rw[vecM_pair,vecM_pair,(fixed_good f c).2.1,(fixed_good he c).2.1]
 have a:t.op≠21:=λe=>by
  have:=len_of hs;rw[e] at this;have d:t.ks.length=0:=by simp[arity] at this;omega
  exact h.1 (gC d)
 rw[evalM_eq,evalM_eq,b];unfold valK;rw[if_neg a,if_neg a]
theorem Qz0 (c:declOk ds=true) (hs:sortM ds t≠ -1) (h:ruleX ds t=some u):Step ds t u:=by
 unfold ruleX at h;split at h
 ·rename_i a;obtain rfl:=(gg h).symm;have b:=eval_in (zeroE_ok c) t hs;refine⟨.const _ _ (by unfold allFixed at a;simp only[K3,decide_eq_true_eq] at a;exact a.1) b,const_sort c b,λenv he=>?_⟩;rw[Jx he b,allFixed_eval he hs a]
 ·cases h
theorem ruleB_step (m:declOk ds=true) (hs:sortM ds t≠ -1) (h:ruleB t=some u):Step ds t u:=by
 have n:=(sort_parts hs).1;have f:=len_of hs;unfold ruleB at h;split at h
 ·rename_i c;obtain rfl:=(gg h).symm;have j:t.ks.length=1:=by rw[c.1] at f;simp[arity] at f;omega
  have k0:=good_kid hs (i:=0) oM;have k:(kid t 0).ks.length=1:=by have:=len_of k0;rw[c.2] at this;simp[arity] at this;omega
  have q:=good_kid k0 (i:=0) oM;refine⟨.deep 0 0 oM oM,?_,λenv he=>?_⟩
  ·have g:=sort_one m n j;have s1:=sort_one m (sort_parts k0).1 k;rw[g] at hs⊢;have g0:=(one_good oM hs).1 c.1;rw[s1] at k0;have g1:=(one_good oM k0).1 c.2;unfold oneM;rw[if_pos c.1,if_pos g0,g1]
  ·obtain⟨_,i0,o⟩:=eval_no he hs c.1;obtain⟨_,i1,p⟩:=eval_no he k0 c.2;rw[o,p];omega
 ·split at h
  ·cases h
  ·rename_i a;have a:t.op=23:=oM;have l:t.ks.length=3:=by rw[a] at f;simp[arity] at f;omega
   have g:=sort_three (ds:=ds) n l;have b:=hs;rw[g] at b;have gs:sortM ds (kid t 1)=sortM ds (kid t 2):=by
    split at b
    ·exact absurd rfl b
    ·omega
   have st:sortM ds t=sortM ds (kid t 1):=by
    rw[g];split at b
    ·exact absurd rfl b
    ·rw[if_neg (by assumption)]
   split at h
   ·rename_i d;obtain rfl:=(gg h).symm;refine⟨.kid 1 oM,st.symm,λenv he=>?_⟩;obtain⟨_,_,e⟩:=eval_if he hs a;rw[e,(fixed_good he (isM_iff.1 d)).2.1,if_pos rfl]
   ·split at h
    ·rename_i d;obtain rfl:=(gg h).symm;refine⟨.kid 2 oM,by rw[st,gs],λenv he=>?_⟩;obtain⟨_,_,e⟩:=eval_if he hs a;rw[e,(fixed_good he (isM_iff.1 d)).2.1,if_neg dC]
    ·split at h
     ·rename_i d;obtain rfl:=(gg h).symm;refine⟨.kid 1 oM,st.symm,λenv he=>?_⟩;obtain⟨_,_,e⟩:=eval_if he hs a;rw[e,<-d];split<;>rfl
     ·cases h
theorem ruleT_step (o:declOk ds=true) (hs:sortM ds t≠ -1) (h:ruleT t=some u):Step ds t u:=by
 have r:=(sort_parts hs).1;have p:=len_of hs;unfold ruleT at h;split at h
 ·rename_i l;have n:t.ks.length=2:=by rcases l with e|e<;>rw[e] at p<;>simp[arity] at p<;>omega
  have q:=sort_two o r n;have m:=hs;rw[q] at m;obtain⟨g0,g1⟩:=(both_good m).1 l;have st:sortM ds t=0:=by rw[q];unfold bothM;rw[if_pos l,if_pos ⟨g0,g1⟩]
  have k:neutral t.op=1/\t.op=26\/neutral t.op=0/\t.op=27:=by
   unfold neutral;rcases l with e|e
   ·exact .inl ⟨if_pos e,e⟩
   ·exact .inr ⟨if_neg oM,e⟩
  have ev:∀env,envOk ds env=true->inS 0 (evalM ds env (kid t 0))/\inS 0 (evalM ds env (kid t 1))/\evalM ds env t=if t.op=26 then evalM ds env (kid t 0)*evalM ds env (kid t 1) else max (evalM ds env (kid t 0)) (evalM ds env (kid t 1)):=λenv he=>by
   obtain⟨_,a,b,c⟩:=eval_two he hs l;exact⟨a,b,c⟩
  split at h
  ·rename_i f;obtain rfl:=(gg h).symm;refine⟨.kid 1 oM,by rw[st,g1],λenv he=>?_⟩;obtain⟨i0,i1,e⟩:=ev env he;rw[e];rcases f with f|f
   ·have:=(fixed_good he (isM_iff.1 f)).2.1;rw[this];rcases k with⟨d,g⟩|⟨d,g⟩
    ·rw[d,if_pos g,Int.one_mul]
    ·rw[d,if_neg oM];rcases inS_zero i1 with z|z<;>rw[z]<;>rfl
   ·rw[f];rcases inS_zero i1 with z|z<;>rw[z]<;>split<;>rfl
  ·split at h
   ·rename_i f;obtain rfl:=(gg h).symm;refine⟨.kid 0 oM,by rw[st,g0],λenv he=>?_⟩;obtain⟨i0,i1,e⟩:=ev env he;rw[e,(fixed_good he (isM_iff.1 f)).2.1];rcases k with⟨d,g⟩|⟨d,g⟩
    ·rw[d,if_pos g,Int.mul_one]
    ·rw[d,if_neg oM];rcases inS_zero i0 with z|z<;>rw[z]<;>rfl
   ·split at h
    ·rename_i f;obtain rfl:=(gg h).symm;have j:inS 0 (1-neutral t.op):=by
      rcases k with⟨d,_⟩|⟨d,_⟩<;>rw[d]
      ·exact .inl ⟨rfl,.inl rfl⟩
      ·exact .inl ⟨rfl,.inr rfl⟩
     refine⟨.const _ _ (VG0 (i:=0) oM) j,by rw[st,const_sort o j],λenv he=>?_⟩;obtain⟨i0,i1,e⟩:=ev env he;rw[e,Jx he j];rcases f with f|f<;>rw[(fixed_good he (isM_iff.1 f)).2.1]
     ·rcases k with⟨d,g⟩|⟨d,g⟩
      ·rw[d,if_pos g];simp
      ·rw[d,if_neg oM];rcases inS_zero i1 with z|z<;>rw[z]<;>rfl
     ·rcases k with⟨d,g⟩|⟨d,g⟩
      ·rw[d,if_pos g];simp
      ·rw[d,if_neg oM];rcases inS_zero i0 with z|z<;>rw[z]<;>rfl
    ·cases h
 ·cases h
theorem cut_all {w a:Int} (h:vok w a=true):cutM a (w-1) 0=a:=by
 obtain⟨b,c,e,d⟩:=vok_iff.1 h;unfold cutM;rw[show(w-1-0+1)=w by omega];rcases four b c with rfl|rfl|rfl|rfl<;>simp only[UE0,UD0,UC0,UB0] at d⊢ <;>simp<;>omega
theorem un_un {o w a:Int} (h:vok w a=true):unM o w (unM o w a)=a:=by
 obtain⟨b,c,e,d⟩:=vok_iff.1 h;unfold unM;rcases four b c with rfl|rfl|rfl|rfl<;>simp only[UE0,UD0,UC0,UB0] at d⊢ <;>split<;>omega
theorem ruleL_step (r:declOk ds=true) (hs:sortM ds t≠ -1) (h:ruleL ds t=some u):Step ds t u:=by
 have v:=(sort_parts hs).1;have o:=len_of hs;unfold ruleL at h;split at h
 ·rename_i c;split at h
  ·rename_i q;obtain rfl:=(gg h).symm;have d:t.ks.length=1:=by rw[c] at o;simp[arity] at o;omega
   have n:=sort_one r v d;have j:=hs;rw[n] at j;have g:=one_good oM j;have g2:=g.2.1 oM;have g3:=g.2.2 c;refine⟨.kid 0 oM,?_,λenv he=>?_⟩
   ·rw[n];unfold oneM;rw[if_neg oM,if_neg oM,if_pos c,if_pos g3];omega
   ·obtain⟨_,p,e⟩:=eval_cut he hs c;rw[e];unfold vecCut;rw[if_pos ⟨p,g3⟩];show _=cutM _ t.a t.b;rw[q.1,q.2,cut_all p]
  ·cases h
 ·split at h
  ·rename_i c;obtain rfl:=(gg h).symm;have d:t.ks.length=1:=by rcases c.1 with e|e<;>rw[e] at o<;>simp[arity] at o<;>omega
   have k0:=good_kid hs (i:=0) oM;have f:(kid t 0).op=1\/(kid t 0).op=2:=by rw[c.2];exact c.1
   have l:(kid t 0).ks.length=1:=by have:=len_of k0;rcases f with e|e<;>rw[e] at this<;>simp[arity] at this<;>omega
   have w:=good_kid k0 (i:=0) oM;have k:∀{t:Tm},sortM ds t≠ -1->(t.op=1\/t.op=2)->t.ks.length=1->sortM ds t=sortM ds (kid t 0):=λ{t} hs c d=>by
    have n:=sort_one r (sort_parts hs).1 d;have j:=hs;rw[n] at j;have g:=(one_good oM j).2.1 oM;rw[n];unfold oneM;rw[if_neg oM,if_neg oM,if_neg oM]
   refine⟨.deep 0 0 oM oM,?_,λenv he=>?_⟩
   ·rw[k hs c.1 d,k k0 f l]
   ·obtain⟨_,p,e⟩:=eval_un he hs c.1;obtain⟨_,m,s⟩:=eval_un he k0 f;rw[e];unfold vecUn;rw[if_pos ⟨p,c.1⟩];show _=unM t.op (sortM ds (kid t 0)) (evalM ds env (kid t 0));rw[s];unfold vecUn;rw[if_pos ⟨m,f⟩];show _=unM t.op (sortM ds (kid t 0)) (unM (kid t 0).op (sortM ds (kid (kid t 0) 0)) (evalM ds env (kid (kid t 0) 0)));rw[c.2,k k0 f l,un_un m]
  ·cases h
def binT (w n:Nat):Prop:=
 (binN 3 w n n=n/\binN 4 w n n=n/\binN 5 w n n=0/\binN 7 w n n=0)/\
 (binN 4 w n 0=n/\binN 5 w n 0=n/\binN 6 w n 0=n/\binN 7 w n 0=n/\binN 11 w n 0=n/\binN 12 w n 0=n/\binN 13 w n 0=n)/\
 (binN 3 w n 0=0/\binN 8 w n 0=0/\binN 8 w n 1=n)/\
 (binN 4 w 0 n=n/\binN 5 w 0 n=n/\binN 6 w 0 n=n/\binN 3 w 0 n=0/\binN 8 w 0 n=0/\binN 8 w 1 n=n)
instance (w n:Nat):Decidable (binT w n):=by unfold binT;infer_instance
theorem bin_tab {w n:Int} (h:vok w n=true):binT w.toNat n.toNat:=small1 (p:=binT) (by decide+kernel) h
theorem bin_parts (i:declOk ds=true) (hs:sortM ds t≠ -1) (h:t.ks.length=2) (d:3<=t.op) (c:t.op<=13):sortM ds (kid t 0)=sortM ds t/\sortM ds (kid t 1)=sortM ds t/\
  ∀env,envOk ds env=true->vok (sortM ds t) (evalM ds env (kid t 0))=true/\vok (sortM ds t) (evalM ds env (kid t 1))=true/\evalM ds env t=binN t.op.toNat (sortM ds t).toNat (evalM ds env (kid t 0)).toNat (evalM ds env (kid t 1)).toNat:=by
 have f:=sort_two i (sort_parts hs).1 h;have b:=hs;rw[f] at b;have g:=(both_good b).2 oM;have a:=g.2.2.2 oM;have st:sortM ds t=sortM ds (kid t 0):=by
  rw[f];unfold bothM;rw[if_neg oM,if_neg oM,if_neg oM,if_neg oM,if_neg oM]
 refine⟨st.symm,by rw[st,a],λenv he=>?_⟩;obtain⟨_,v0,v1,e⟩:=eval_bin he hs d oM;refine⟨by rw[st];exact v0,by rw[st,a];exact v1,?_⟩;rw[e];unfold vecBin;rw[if_pos (show vok _ _=true/\vok _ _=true from⟨v0,v1⟩),if_neg (show¬t.op=14 by omega),if_pos (show 3<=t.op/\t.op<=13/\_=_ from⟨d,c,a⟩),st];rfl
theorem nat_of {w n:Int} (h:vok w n=true):((n.toNat:Nat):Int)=n:=by have:=vok_lt h;omega
theorem ruleW_step (j:declOk ds=true) (hs:sortM ds t≠ -1) (h:ruleW ds t=some u):Step ds t u:=by
 have s:=(sort_parts hs).1;unfold ruleW at h;split at h
 ·rename_i m;obtain⟨r,m⟩:=m;split at h
  ·rename_i k;obtain rfl:=(gg h).symm;obtain⟨q,s1,ev⟩:=bin_parts j hs r oM oM;refine⟨.kid 0 oM,q,λenv he=>?_⟩;obtain⟨v0,v1,e⟩:=ev env he;have tb:=(bin_tab v0).1;rw[e,<-m];rcases k with o|o<;>rw[o]
   ·show _=((binN 3 _ _ _:Nat):Int);rw[tb.1,nat_of v0]
   ·show _=((binN 4 _ _ _:Nat):Int);rw[tb.2.1,nat_of v0]
  ·split at h
   ·rename_i k;obtain rfl:=(gg h).symm;obtain⟨q,s1,ev⟩:=bin_parts j hs r oM oM;have c:inS (sortM ds t) 0:=by
     have:=(ev _ (zeroE_ok j)).1;obtain⟨a,b,_,_⟩:=vok_iff.1 this;exact .inr (vok_iff.2 ⟨a,b,Pk _,Int.pow_pos dC⟩)
    refine⟨.const _ _ (VG0 (i:=0) oM) c,const_sort j c,λenv he=>?_⟩;obtain⟨v0,v1,e⟩:=ev env he;have tb:=(bin_tab v0).1;rw[Jx he c,e,<-m];rcases k with o|o<;>rw[o]
    ·show _=((binN 5 _ _ _:Nat):Int);rw[tb.2.2.1];rfl
    ·show _=((binN 7 _ _ _:Nat):Int);rw[tb.2.2.2];rfl
   ·have cmp:15<=t.op->t.op<=17->sortM ds t=0/\∀env,envOk ds env=true->evalM ds env t=b2i (decide (t.op=15)):=λf l=>by
     have q:=sort_two j s r;have n:=hs;rw[q] at n;have g:=(both_good n).2 oM;refine⟨?_,λenv he=>?_⟩
     ·rw[q];unfold bothM;rw[if_neg oM,if_neg oM,if_neg oM,if_neg (by have:=g.2.2.2 oM;omega),if_pos f]
     ·obtain⟨_,v0,v1,e⟩:=eval_cmp he hs f l;rw[e];unfold vecCmp;rw[if_pos ⟨v0,v1,g.2.2.2 oM,f,l⟩,<-m];unfold cmpM;by_cases d:t.op=15
      ·rw[if_pos d];simp[d]
      ·rw[if_neg d];by_cases p:t.op=16
       ·rw[if_pos p];simp[d]
       ·rw[if_neg p];simp[d]
    split at h
    ·rename_i k;obtain rfl:=(gg h).symm;obtain⟨st,ev⟩:=cmp oM oM;have c:inS 0 1:= .inl ⟨rfl,.inr rfl⟩;exact⟨.const _ _ (VG0 (i:=0) oM) c,by rw[const_sort j c,st],λenv he=>by rw[Jx he c,ev env he,decide_eq_true k];rfl⟩
    ·split at h
     ·rename_i n15 k;obtain rfl:=(gg h).symm;obtain⟨st,ev⟩:=cmp oM oM;have c:inS 0 0:= .inl ⟨rfl,.inl rfl⟩;exact⟨.const _ _ (VG0 (i:=0) oM) c,by rw[const_sort j c,st],λenv he=>by rw[Jx he c,ev env he,decide_eq_false n15];rfl⟩
     ·cases h
 ·cases h
theorem ruleS_step (d:declOk ds=true) (hs:sortM ds t≠ -1) (h:ruleS t=some u):Step ds t u:=by
 unfold ruleS at h;split at h
 ·rename_i c;split at h
  ·rename_i a;obtain rfl:=(gg h).symm;obtain⟨b,s1,ev⟩:=bin_parts d hs c oM oM;refine⟨.kid 0 oM,b,λenv he=>?_⟩;obtain⟨v0,v1,e⟩:=ev env he;have tb:=(bin_tab v0).2.1;rw[e,(fixed_good he (isM_iff.1 a.1)).2.1];rcases a.2 with o|o|o|o|o|o|o<;>rw[o]
   ·show _=((binN 4 _ _ 0:Nat):Int);rw[tb.1,nat_of v0]
   ·show _=((binN 5 _ _ 0:Nat):Int);rw[tb.2.1,nat_of v0]
   ·show _=((binN 6 _ _ 0:Nat):Int);rw[tb.2.2.1,nat_of v0]
   ·show _=((binN 7 _ _ 0:Nat):Int);rw[tb.2.2.2.1,nat_of v0]
   ·show _=((binN 11 _ _ 0:Nat):Int);rw[tb.2.2.2.2.1,nat_of v0]
   ·show _=((binN 12 _ _ 0:Nat):Int);rw[tb.2.2.2.2.2.1,nat_of v0]
   ·show _=((binN 13 _ _ 0:Nat):Int);rw[tb.2.2.2.2.2.2,nat_of v0]
  ·split at h
   ·rename_i a;obtain rfl:=(gg h).symm;obtain⟨b,s1,ev⟩:=bin_parts d hs c oM oM;refine⟨.kid 1 oM,s1,λenv he=>?_⟩;obtain⟨v0,v1,e⟩:=ev env he;have tb:=(bin_tab v0).2.2.1;rw[e,(fixed_good he (isM_iff.1 a.1)).2.1];rcases a.2 with o|o<;>rw[o]
    ·show _=((binN 3 _ _ 0:Nat):Int);rw[tb.1];rfl
    ·show _=((binN 8 _ _ 0:Nat):Int);rw[tb.2.1];rfl
   ·split at h
    ·rename_i a;obtain rfl:=(gg h).symm;obtain⟨b,s1,ev⟩:=bin_parts d hs c oM oM;refine⟨.kid 0 oM,b,λenv he=>?_⟩;obtain⟨v0,v1,e⟩:=ev env he;have tb:=(bin_tab v0).2.2.1;rw[e,(fixed_good he (isM_iff.1 a.1)).2.1,a.2];show _=((binN 8 _ _ 1:Nat):Int);rw[tb.2.2,nat_of v0]
    ·cases h
 ·cases h
theorem ruleF_step (c:declOk ds=true) (hs:sortM ds t≠ -1) (h:ruleF t=some u):Step ds t u:=by
 unfold ruleF at h;split at h
 ·rename_i b;split at h
  ·rename_i a;obtain rfl:=(gg h).symm;obtain⟨d,s1,ev⟩:=bin_parts c hs b oM oM;refine⟨.kid 1 oM,s1,λenv he=>?_⟩;obtain⟨v0,v1,e⟩:=ev env he;have tb:=(bin_tab v1).2.2.2;rw[e,(fixed_good he (isM_iff.1 a.1)).2.1];rcases a.2 with o|o|o<;>rw[o]
   ·show _=((binN 4 _ 0 _:Nat):Int);rw[tb.1,nat_of v1]
   ·show _=((binN 5 _ 0 _:Nat):Int);rw[tb.2.1,nat_of v1]
   ·show _=((binN 6 _ 0 _:Nat):Int);rw[tb.2.2.1,nat_of v1]
  ·split at h
   ·rename_i a;obtain rfl:=(gg h).symm;obtain⟨d,s1,ev⟩:=bin_parts c hs b oM oM;refine⟨.kid 0 oM,d,λenv he=>?_⟩;obtain⟨v0,v1,e⟩:=ev env he;have tb:=(bin_tab v1).2.2.2;rw[e,(fixed_good he (isM_iff.1 a.1)).2.1];rcases a.2 with o|o<;>rw[o]
    ·show _=((binN 3 _ 0 _:Nat):Int);rw[tb.2.2.2.1];rfl
    ·show _=((binN 8 _ 0 _:Nat):Int);rw[tb.2.2.2.2.1];rfl
   ·split at h
    ·rename_i a;obtain rfl:=(gg h).symm;obtain⟨d,s1,ev⟩:=bin_parts c hs b oM oM;refine⟨.kid 1 oM,s1,λenv he=>?_⟩;obtain⟨v0,v1,e⟩:=ev env he;have tb:=(bin_tab v1).2.2.2;rw[e,(fixed_good he (isM_iff.1 a.1)).2.1,a.2];show _=((binN 8 _ 1 _:Nat):Int);rw[tb.2.2.2.2.2,nat_of v1]
    ·cases h
 ·cases h
theorem JI0 (a:declOk ds=true) (hs:sortM ds t≠ -1) (h:ruleA ds t=some u):Step ds t u:=by
 unfold ruleA at h;rcases yO0 h with h|⟨_,h⟩
 ·exact Qz0 a hs h
 rcases yO0 h with h|⟨_,h⟩
 ·exact ruleB_step a hs h
 rcases yO0 h with h|⟨_,h⟩
 ·exact ruleT_step a hs h
 rcases yO0 h with h|⟨_,h⟩
 ·exact ruleL_step a hs h
 rcases yO0 h with h|⟨_,h⟩
 ·exact ruleW_step a hs h
 rcases yO0 h with h|⟨_,h⟩
 ·exact ruleS_step a hs h
 ·exact ruleF_step a hs h
theorem JM0 (a:declOk ds=true) (hs:sortM ds t≠ -1):(ruleA ds t=none/\oneT ds t=t)\/Step ds t (oneT ds t):=by
 unfold oneT;cases h:ruleA ds t with
 |none=>exact .inl ⟨rfl,rfl⟩
 |some u=>exact .inr (JI0 a hs h)
end
end
section
section
variable {ds:List Dcl} {env:List Int} {t u:Tm} {w n:Int}
theorem kid_size {i:Nat} (h:i<t.ks.length):sizeM (kid t i)+1<=sizeM t/\deepM (kid t i)+1<=deepM t:=by
 have a:=szT_all t;have b:=dpT_all t;have c:=szT_mono (ks:=t.ks) (i:=i+1) (j:=t.ks.length) oM oM;have d:=dpT_mono (ks:=t.ks) (i:=i+1) (j:=t.ks.length) oM oM;have e:=szT_succ h;have f:=dpT_succ h;unfold kid;omega
theorem size_pos:1<=sizeM t/\1<=deepM t:=by rw[sizeM_eq,Wq];omega
theorem const_size:sizeM (constM w n)<=2/\deepM (constM w n)<=2:=by
 have leaf:∀o a b s,sizeM (.mk o a b s [])=1/\deepM (.mk o a b s [])=1:=λo a b s=>by rw[sizeM_eq,Wq];exact⟨rfl,rfl⟩
 have c:sizeM truT=1/\deepM truT=1:=leaf _ _ _ _;have d:sizeM flsT=2/\deepM flsT=2:=by
  rw[sizeM_eq,Wq];show 1+(sizeM truT+0)=2/\1+max 0 (deepM truT)=2;rw[c.1,c.2];exact⟨rfl,rfl⟩
 unfold constM;split
 ·have:=leaf 20 w n nada;omega
 ·split<;>omega
theorem src_size (h:Src t u):sizeM u<=sizeM t/\deepM u<=deepM t:=by
 cases h with
 |kid i h=>have:=kid_size h;omega
 |deep i j h a=>have:=kid_size h;have:=kid_size a;omega
 |const w n h a=>
  have b:0<t.ks.length:=gG.2 h;have:=kid_size (t:=t) (i:=0) b;have:=size_pos (t:=kid t 0);have:=const_size (w:=w) (n:=n);omega
theorem JL0 (a:declOk ds=true) (hs:sortM ds t≠ -1):sortM ds (oneT ds t)=sortM ds t/\(∀env,envOk ds env=true->evalM ds env (oneT ds t)=evalM ds env t)/\sizeM (oneT ds t)<=sizeM t/\deepM (oneT ds t)<=deepM t:=by
 rcases JM0 a hs with⟨_,e⟩|h
 ·rw[e];exact⟨rfl,λ_ _=>rfl,gq _,gq _⟩
 ·exact⟨h.sort,h.eval,src_size h.src⟩
def remake (t:Tm) (us:List Tm):Tm:= .mk t.op t.a t.b t.s us
theorem Xw0 {us:List Tm} (b:us.length=t.ks.length) (h:us.map (sortM ds)=t.ks.map (sortM ds)):sortM ds (remake t us)=sortM ds t:=by
 rw[sortM_eq ds (remake t us),sortM_eq ds t];show sortF ds (remake t us) (us.map (sortM ds))=_;rw[h];have a:formed (remake t us)=formed t:=by
  show(decide (arity t.op=(us.length:Int))&&plainM t)=_;rw[b];rfl
 unfold sortF;rw[a];rfl
theorem Xx0 {us:List Tm} (a:us.length=t.ks.length) (h:us.map (vecM ds env)=t.ks.map (vecM ds env)):evalM ds env (remake t us)=evalM ds env t:=by
 rw[evalM_eq,evalM_eq];show valK ds env (remake t us) (us.map (vecM ds env))=_;rw[h];rfl
theorem sum_le {f g:Tm->Nat}:∀{ks:List Tm},(∀k,k∈ks->f k<=g k)->(ks.map f).sum<=(ks.map g).sum
 |[],_=>gq _
 |k::r,h=>by
  have b:=h k V0;have c:=sum_le (ks:=r) λx a=>h x (gh _ a);simp only[gU,P0];omega
theorem max_le {f g:Tm->Nat}:∀{ks:List Tm} {a b:Nat},a<=b->(∀k,k∈ks->f k<=g k)->(ks.map f).foldl max a<=(ks.map g).foldl max b
 |[],a,b,c,_=>c
 |k::r,a,b,c,h=>by
  have e:=h k V0;simp only[gU,z0c];exact max_le (ks:=r) oM λx d=>h x (gh _ d)
structure Good (ds:List Dcl) (t u:Tm):Prop where
 sort:sortM ds u=sortM ds t
 eval:∀env,envOk ds env=true->evalM ds env u=evalM ds env t
 size:sizeM u<=sizeM t
 deep:deepM u<=deepM t
theorem remake_good {f:Tm->Tm} (h:∀k,k∈t.ks->Good ds k (f k)):Good ds t (remake t (t.ks.map f)):=by
 have d:(t.ks.map f).length=t.ks.length:=X0 _;refine⟨Xw0 d ?_,λenv he=>Xx0 d ?_,?_,?_⟩
 ·rw[GM];exact Gb λk c=>(h k c).sort
 ·rw[GM];exact Gb λk c=>by show vecM ds env (f k)=_;rw[vecM_pair,vecM_pair,(h k c).sort,(h k c).eval env he]
 ·rw[sizeM_eq,sizeM_eq t];show 1+((t.ks.map f).map sizeM).sum<=_;rw[GM];have:=sum_le (f:=sizeM∘f) (g:=sizeM) (ks:=t.ks) λk c=>(h k c).size;omega
 ·rw[Wq,Wq t];show 1+((t.ks.map f).map deepM).foldl max 0<=_;rw[GM];have:=max_le (f:=deepM∘f) (g:=deepM) (ks:=t.ks) (a:=0) (b:=0) (gq _) λk c=>(h k c).deep;omega
theorem foldT_rem (ds:List Dcl) (t:Tm):foldT ds t=oneT ds (remake t (t.ks.map (foldT ds))):=VN0 ds t
theorem fold_good (d:declOk ds=true):∀t,sortM ds t≠ -1->Good ds t (foldT ds t):=by
 refine Tm.ind λt f hs=>?_;have e:=(sort_parts hs).2.1;have b:Good ds t (remake t (t.ks.map (foldT ds))):=remake_good λk a=>f k a (e k a);have c:=JL0 d (t:=remake t (t.ks.map (foldT ds))) (by rw[b.sort];exact hs);rw[foldT_rem];exact⟨c.1.trans b.sort,λenv he=>(c.2.1 env he).trans (b.eval env he),Gc c.2.2.1 b.size,Gc c.2.2.2 b.deep⟩
theorem kids_good (a:declOk ds=true) (hs:sortM ds t≠ -1):Good ds t (remake t (t.ks.map (foldT ds))):=remake_good λk b=>fold_good a k ((sort_parts hs).2.1 k b)
end
end
section
section
variable {ds:List Dcl} {env:List Int} {t:Tm} {d:Dcl}
theorem app_getD {α:Type} {l r:List α} {i:Nat} {e:α} (h:i<l.length):(l++r).getD i e=l.getD i e:=by
 rw[q0,gy h,<-q0]
theorem more_find (he:declOk (ds++[d])=true) {s:ByteArray} (h:0<=findD ds s):findD (ds++[d]) s=findD ds s:=by
 have f:=(findD_lt ds s).2;have a:=findD_get h;have b:(findD ds s).toNat<(ds++[d]).length:=by rw[k6];omega
 have e:=findD_of (ds:=ds++[d]) (s:=s) b (by rw[app_getD oM];exact a) λj c=>by
  have:=dcl_apart he b c;rw[app_getD (l:=ds) (i:=(findD ds s).toNat) oM,a] at this;exact this
 rw[e];omega
theorem more_sort (he:declOk (ds++[d])=true):∀t,sortM ds t≠ -1->sortM (ds++[d]) t=sortM ds t:=by
 refine Tm.ind λt g hs=>?_;have f:=(sort_parts hs).2.1;have hm:t.ks.map (sortM (ds++[d]))=t.ks.map (sortM ds):=Gb λk c=>g k c (f k c);rw[sortM_eq,sortM_eq ds t,hm];unfold sortF;split
 ·unfold sortK;by_cases b:t.op=20
  ·rw[if_pos b,if_pos b]
  rw[if_neg b,if_neg b];by_cases a:t.op=21
  ·have e:=name_found hs a;have h:=(findD_lt ds t.s).2;rw[if_pos a,if_pos a,more_find he e,if_neg oM,if_neg oM,app_getD oM]
  ·rw[if_neg a,if_neg a]
 ·rfl
theorem KA0:bits (ds++[d])=bits ds+d.2:=by
 unfold bits;rw[gu,Pe];simp
theorem decl_less (he:declOk (ds++[d])=true):declOk ds=true:=by
 have h:=decl_iff.1 he;refine decl_iff.2 ⟨by have:=h.1;rw[k6] at this;omega,λi c=>?_,?_⟩
 ·have:=h.2.1 i (by rw[k6];omega);unfold dclOk at this⊢;rw[app_getD c,gY oM] at this;exact this
 ·have b:=h.2.2;rw[KA0] at b;have a:=dcl_wide he (i:=ds.length) (by rw[k6];simp);rw[q0,gO (gq _)] at a;simp at a;omega
def rankE:List Dcl->List Int->Int
 |d::ds,n::env=>n*2^(bits ds).toNat+rankE ds env
 |[],_=>0
 |_::_,[]=>0
end
end
end Go.M
namespace Go.Proofs.YtokflbdfnbppjaaGreatDoor
open Go Go.Vc Go.Proofs
section
variable {w:World} {K:Value->World->Prop} {F F' D G:Nat->Prop}
@[push_cast] theorem bd_TZ:zD P za [] w K=K (.agg ⟨yK0⟩) w:=yp Zx (us:=[]) rfl rfl
theorem tms_op {kv:Value} {ks:List M.Tm} (h:TmsR F w kv ks) {i:Nat} (a:i<ks.length):zf P ze (.pointer (some ((eaddr kv 5 i).add 0))) w K=K (.int .i64 (ks.getD i default).op) w:=by
 obtain⟨css,hs,d,b⟩:=h;obtain⟨c,e,_⟩:=(b i a).inv;exact hs.ldField UI0 oM (by rw[e];rfl)
theorem tms_kids {kv:Value} {ks:List M.Tm} (h:TmsR F w kv ks) {i:Nat} (d:i<ks.length) (c:∀a,TmsR F w a (ks.getD i default).ks->K a w):zf P zb (.pointer (some ((eaddr kv 5 i).add 4))) w K:=by
 obtain⟨css,hs,g,f⟩:=h;obtain⟨a,e,b⟩:=(f i d).inv;rw[hs.ldField yI oM (by rw[e];rfl)];exact c a b
theorem TermSame_spec:∀(t:M.Tm) {w:World} {K:Value->World->Prop} {F G:Nat->Prop} {va vb:Value} {u:M.Tm},TermR F w va t->TermR G w vb u->(∀w',Ext w w'->K (.bool (decide (t=u))) w')->vcall P xx #[va,vb] w K:=by
 refine M.Tm.ind λt ih w K F G va vb u ha hb T=>?_;apply ju0;obtain⟨kva,rfl,p⟩:=ha;obtain⟨kvb,rfl,D⟩:=hb;refine zx λb1 w1 a0 N a4 J=>?_;refine zx λb2 w2 a1 s a5 k=>?_;have I:=J.ext s;have f:=N.trans s;have no:∀w',Ext w w'->t≠u->K (.bool false) w':=λw' h hn=>by
  have:=T w' h;rwa[decide_eq_false hn] at this
 simp only[push_cast,I.ld0,k.ld0,I.ld1,k.ld1,I.ld2,k.ld2,I.ld3,k.ld3,I.ld4,k.ld4];refine zh (λV=>?_) (λe=>no _ f λh=>e (by rw[h]));refine zh (λW=>?_) (λe=>no _ f λh=>e (by rw[h]));refine zh (λX=>?_) (λe=>no _ f λh=>e (by rw[h]));refine zh (λY=>?_) (λe=>no _ f λh=>e (by rw[h]));apply yT;have B:=p.ext f;have E:=D.ext f;have a8:=p.small;simp only[push_cast,B.len,E.len];refine zh (λe=>no _ f λh=>e (by rw[h])) (λel=>?_);have el:t.ks.length=u.ks.length:=oM
 refine vloop_up t.ks.length (λi x w'=>x=[.int .i64 i]/\Ext w w'/\∀j,j<i->t.ks.getD j default=u.ks.getD j default) ⟨rfl,f,λj U=>absurd U oM⟩ ?_;rintro i _ _ R C hi ⟨rfl,c,g⟩ hC;have l:=p.ext c;have L:=D.ext c;simp(disch:=first|(simp only[push_cast])|omega) only[push_cast,l.len];refine zh (λa=>?_) (λa=>?_)
 ·simp(disch:=first|(simp only[push_cast])|omega) only[push_cast,l.iaddr];refine l.load zp oM λx hx=>?_;obtain⟨cx,rfl,m⟩:=hx.cells;refine zB zG λb4 w4 a2 v a6 Z=>?_;refine stTerm Z rfl ((m.weaken (F':=λb=>b<R.heap.size) λb _ h=>h).ext v) λS O a9 h5=>?_;have o:Ext R S:=Ext.then v O λy H=>by subst H;omega
  have r:=L.ext o;simp(disch:=first|(simp only[push_cast])|omega) only[push_cast,r.iaddr];refine r.load zp oM λy H=>?_;obtain⟨cy,rfl,n⟩:=H.cells;refine zB zG λb6 w6 a3 z a7 h6=>?_;refine stTerm h6 rfl ((n.weaken (F':=λb=>b<S.heap.size) λb _ h=>h).ext z) λw7 Q aa h7=>?_;have d:Ext S w7:=Ext.then z Q λy H=>by subst H;omega
  rw[(h5.ext d).ldAgg (t:=za) (by rw[yl m];exact zp),h7.ldAgg (t:=za) (by rw[yl n];exact zp)];simp only[push_cast,gD,Gf];have q:=c.trans (o.trans d);refine ih _ (M.getD_mem oM _) (m.ext (o.trans d)).term (n.ext d).term λw8 A=>?_;simp only[push_cast];refine zI (λb=>?_) (λb=>?_)
  ·rw[gZ,decide_eq_false_iff_not] at b;exact no _ (q.trans A) λh=>b (by rw[h])
  ·rw[Gq,decide_eq_true_eq] at b;rw[inc64' oM];refine hC oM _ _ ⟨rfl,q.trans A,λj U=>?_⟩;by_cases e:j<i
   ·exact g j e
   ·have:j=i:=oM;subst this;exact b
 ·have:t=u:=M.tm_ext V W X Y (Ge el λj J k=>by
   have:=g j oM;rwa[q0,Q1 J,q0,Q1 k] at this)
  have:=T R c;rwa[decide_eq_true ‹t=u›] at this
theorem falseTerm_spec (i:∀w' v,Ext w w'->TermR (λb=>w.heap.size<=b) w' v M.flsT->K v w'):vcall P Z9 #[] w K:=by
 apply qg0;refine zB zG λb1 w1 k d m g=>?_;simp only[push_cast];refine QI0 (YE0 (o:=24) (F:=λ_=>False)) λw2 a c n u=>?_;simp only[push_cast];have l:TmR (λb=>b≠b1/\w.heap.size<=b) w2 _ M.flsT:=(TmR.of (t:=M.flsT) u).weaken λz r _=>by
  rcases r with h|h
  ·exact h.elim
  ·exact⟨oM,oM⟩
 refine ZF (g.ext c) rfl l (λx p=>p.1) λA f s e=>?_;exact i _ _ (Ext.then (d.trans c) f λy q=>by subst q;omega) (e.weaken λb j _=>j.2)
theorem constant_spec {s n:Int} (f:∀w' v,Ext w w'->TermR (λb=>w.heap.size<=b) w' v (M.constM s n)->K v w'):vcall P xY #[.int .i64 s,.int .i64 n] w K:=by
 apply jp0;refine zB zG λb1 w1 q e r l=>?_;unfold M.constM at f;simp only[push_cast];refine zh (λa=>?_) (λa=>?_)
 ·rw[if_pos a] at f;refine ZF l rfl (zA0 20 s n _:TmR (λ_=>False) w1 _ _) (λx k=>k.elim) λp d i c=>?_;exact f _ _ (Ext.then e d λy h=>by subst h;omega) (c.weaken λb j _=>j.elim)
 ·rw[if_neg a] at f;refine zh (λb=>?_) (λb=>?_)
  ·rw[if_pos b] at f;refine ZF l rfl (zA0 24 0 0 _:TmR (λ_=>False) w1 _ _) (λx k=>k.elim) λp d i c=>?_;exact f _ _ (Ext.then e d λy h=>by subst h;omega) (c.weaken λb j _=>j.elim)
  ·rw[if_neg b] at f;refine falseTerm_spec λw2 v g o=>?_;obtain⟨cs,rfl,m⟩:=o.cells;refine ZF (l.ext g) rfl m (λx k=>oM) λp d i c=>?_;exact f _ _ (Ext.then (e.trans g) d λy h=>by subst h;omega) (c.weaken λb j _=>by have:=e.size;omega)
theorem Kd0 {t:M.Tm} (h:t.op=20):M.fixedM t=if t.ks=[]/\t.s=M.nada/\M.vok t.a t.b=true then some t.b else none:=by
 unfold M.fixedM;rw[if_neg (λe=>by rw[e] at h;exact absurd h dC),if_neg (λe=>by rw[e] at h;exact absurd h dC)];by_cases c:t.ks=[]/\t.s=M.nada/\M.vok t.a t.b=true
 ·rw[if_pos c,if_pos ⟨h,c⟩]
 ·rw[if_neg c,if_neg (λx=>c x.2)]
theorem nil_len {ks:List M.Tm}:((ks.length:Int)=0)↔ks=[]:=by
 rw[<-P6];omega
theorem Ud {v:Value} {t:M.Tm} (O:TermR F w v t) (R:∀w',Ext w w'->K (.tuple #[.int .i64 ((M.fixedM t).getD 0),.bool (M.fixedM t).isSome]) w'):vcall P Zc #[v] w K:=by
 apply qj0;have A:=O;obtain⟨kv,rfl,H⟩:=O;refine zx λb1 w1 S q T m=>?_;have out:∀w' o,Ext w w'->M.fixedM t=o->K (.tuple #[.int .i64 (o.getD 0),.bool o.isSome]) w':=λw' o h e=>by rw[<-e];exact R w' h
 have U:(M.truT).s=M.nada/\(M.flsT).s=M.nada:=⟨rfl,rfl⟩;simp only[push_cast,m.ld3];refine zh (λa=>?_) (λa=>?_)
 ·refine out w1 none q ?_;have I:t.s≠M.nada:=a;unfold M.fixedM;rw[if_neg (λe=>I (by rw[e];rfl)),if_neg (λe=>I (by rw[e];rfl)),if_neg (λe=>I e.2.2.1)]
 have hs:t.s=M.nada:=by
  by_cases h:t.s=M.nada
  ·exact h
  ·exact absurd h a
 refine zR (λu w'=> ∃b:Bool,u=[.bool b]/\Ext w1 w'/\(b=true↔t.op=20/\t.ks=[]/\M.vok t.a t.b=true)) (λC D=>?_) ?_
 ·simp only[push_cast,m.ld0];refine zh (λc=>?_) (λc=>?_)
  ·simp only[push_cast,m.ld4,H.len];refine zh (λd=>?_) (λd=>?_)
   ·try simp only[push_cast,m.ld1,m.ld2]
    refine VecOk_spec λw2 i=>?_;exact D _ _ ⟨_,rfl,i,⟨λh=>⟨c,nil_len.1 d,h⟩,λh=>h.2.2⟩⟩
   ·exact D _ _ ⟨false,rfl,Same.refl _ _,⟨λh=>(by cases h),λh=>absurd (nil_len.2 h.2.1) d⟩⟩
  ·exact D _ _ ⟨false,rfl,Same.refl _ _,⟨λh=>(by cases h),λh=>absurd h.1 c⟩⟩
 rintro u g w2 ⟨b,rfl,i,N⟩;have J:=m.ext i;have j:=q.trans i;simp only[push_cast];refine zI (λc=>?_) (λc=>?_)
 ·obtain⟨c1,c2,c3⟩:=N.1 c;simp only[push_cast,J.ld2];refine out w2 (some t.b) j ?_;rw[Kd0 c1,if_pos ⟨c2,hs,c3⟩]
 have z: ¬(t.op=20/\t.ks=[]/\t.s=M.nada/\M.vok t.a t.b=true):=λh=>by
  have:=N.2 ⟨h.1,h.2.1,h.2.2.2⟩;rw[c] at this;cases this
 rw[J.ldAgg (t:=za) zp]
 try simp only[push_cast]
 refine TermSame_spec t (A.ext j) (YE0 (o:=24) (F:=λ_=>False)) λW r=>?_;have n:=j.trans r;refine zh (λd=>?_) (λd=>?_)
 ·exact out W (some 1) n (if_pos d)
 have B: ¬t=M.truT:=d;refine zu λX y _=>?_;have k:=n.trans y;have L:=J.ext (r.trans y);simp only[push_cast,L.ld0,true_and];refine zh (λe=>?_) (λe=>?_)
 ·simp only[push_cast,L.ldAgg (t:=za) zp,true_and];refine falseTerm_spec λY fv l G=>?_;have V:=L.ext l;simp only[push_cast,V.ldAgg (t:=za) zp,true_and,and_self];refine TermSame_spec t (A.ext (k.trans l)) G λQ E=>?_;have p:=k.trans (l.trans E);refine zh (λf=>?_) (λf=>?_)
  ·refine out Q (some 0) p ?_;unfold M.fixedM;rw[if_neg B,if_pos f]
  ·refine out Q none p ?_;unfold M.fixedM;rw[if_neg B,if_neg f,if_neg z]
 ·refine out X none k ?_;unfold M.fixedM;rw[if_neg B,if_neg (λx=>e (by rw[x];rfl)),if_neg z]
theorem X3 {v:Value} {t:M.Tm} {n:Int} (i:TermR F w v t) (f:∀w',Ext w w'->K (.bool (M.isM t n)) w'):vcall P j0 #[v,.int .i64 n] w K:=by
 apply Kx0;obtain⟨cs,rfl,a⟩:=i.cells;refine zx λb1 w1 g b h d=>?_;rw[d.ldAgg (t:=za) (by rw[yl a];exact zp)];refine Ud (a.ext b).term λw2 c=>?_;have:=f w2 (b.trans c);unfold M.isM at this;simp only[push_cast];cases e:M.fixedM t with
 |none=>rw[e] at this;exact this
 |some m=>
  rw[e] at this;simp only[gV] at this;exact this
theorem among_spec {v av:Value} {t:M.Tm} {xs:List Int} (z:TermR F w v t) (n:Ints G w av xs) (y:xs.length<=100) (m:∀w',Ext w w'->K (.bool (decide (t.op∈xs))) w'):vcall P ko #[v,av] w K:=by
 apply X50;obtain⟨kv,rfl,s⟩:=z;refine zx λb1 w1 r f x p=>?_;simp only[push_cast,p.ld0];apply Qq;apply Kr;have l:=n.ext f;simp only[push_cast,l.len];refine vloop_up xs.length (λi u w'=>u=[.int .i64 i]/\Ext w w'/\∀j,j<i->t.op≠xs.getD j 0) ⟨rfl,f,λj k=>absurd k oM⟩ ?_;rintro i _ _ o C A ⟨rfl,c,d⟩ q;have g:=n.ext c;simp only[push_cast];refine zh (λa=>?_) (λa=>?_)
 ·simp(disch:=first|(simp only[push_cast])|omega) only[push_cast,g.iaddr,g.load];refine zh (λb=>?_) (λb=>?_)
  ·have hm:t.op∈xs:=by rw[b];exact M.getD_mem oM _
   have:=m o c;rw[decide_eq_true hm] at this
   try simp only[push_cast]
   rw[decide_eq_true oM];exact this
  ·rw[inc64' oM];refine q oM _ _ ⟨rfl,c,λj k=>?_⟩;by_cases e:j<i
   ·exact d j e
   ·have:j=i:=oM;subst this;exact b
 ·have hm: ¬t.op∈xs:=λh=>by
   obtain⟨j,k,e⟩:=gl h;have:=d j oM;rw[q0,Q1 k] at this;exact this e.symm
  have:=m o c;rw[decide_eq_false hm] at this;exact this
theorem chosen_spec {v:Value} {t:M.Tm} {b:Bool} (u:TermR F w v t) (k:∀w' v',Ext w w'->TermR F w' v' t->K (.tuple #[v',.bool b]) w'):vcall P xZ #[.bool b,v] w K:=by
 apply Ya0;obtain⟨cs,rfl,a⟩:=u.cells;refine zx λb1 w1 m c q i=>?_;refine zB zG λb2 w2 n d s j=>?_;rw[(i.ext d).ldAgg (t:=za) (by rw[yl a];exact zp)];have g:=c.trans d;have o:TmR (λb=>F b/\b<w.heap.size) w2 cs t:=(a.weaken (F':=λb=>F b/\b<w.heap.size) λb h p=>⟨h,p⟩).ext g;have A:=c.size;refine ZF (K:=λr w=>K (.tuple #[r,.bool b]) w) j rfl o (λx C=>oM) λD f B e=>?_;exact k _ _ (Ext.then g f λy z=>by subst z;omega) (e.weaken λb l _=>l.1)
end
end Go.Proofs.YtokflbdfnbppjaaGreatDoor
section
namespace Go.M
def Uv0 (n:Nat) (p:Nat->Bool):Bool:=(List.range n).all p
theorem allI_iff {n:Nat} {p:Nat->Bool}:Uv0 n p=true↔ ∀k,k<n->p k=true:=by
 unfold Uv0;rw[gH];simp only[gr]
def yU0 (m l:Int):Bool:=decide (l≠0/\ -m<=l/\l<=m)
def qq (m:Int) (xs:List Int):Bool:=Uv0 xs.length λk=>yU0 m (xs.getD k 0)&&(k==0||decide ((xs.getD (k-1) 0).natAbs<(xs.getD k 0).natAbs))
structure Cnf where
 many:Int
 list:List (List Int)
structure Sat where
 put:List Int
 why:List Int
 learned:List (List Int)
 code:Int
def cnfOk (c:Cnf):Bool:=decide (0<=c.many)&&decide (c.many<=700)&&decide (c.list.length<=2500)&&Uv0 c.list.length λk=>qq c.many (c.list.getD k [])
def placeOf (put:List Int) (v:Nat):Nat:=match(List.range put.length).find? (λi=>(put.getD i 0).natAbs==v) with|some i=>i+1 |none=>0
theorem find_range_some {n i:Nat} {p:Nat->Bool} (d:i<n) (c:p i=true) (b:∀j,j<i->p j=false):(List.range n).find? p=some i:=by
 rw[Pz];refine⟨c,List.range i,(List.range' (i+1) (n-(i+1))),?_,λj a=>by simp[b j (gr.1 a)]⟩;rw[pD,pD,show n=i+(n-(i+1)+1) from by omega,<-List.range'_append_1,List.range'_succ];simp;omega
theorem xB0 {put:List Int} {v:Nat} (h:∀l,l∈put->l.natAbs≠v):placeOf put v=0:=by
 unfold placeOf;have:(List.range put.length).find? (λi=>(put.getD i 0).natAbs==v)=none:=by
  rw[G3];intro j b;have a:=gr.1 b;have:put.getD j 0∈put:=by rw[q0,Q1 a];exact Gm a
  have:=h _ this;simpa using this
 rw[this]
theorem jc {put:List Int} {v:Nat} (h:placeOf put v≠0):placeOf put v<=put.length/\(put.getD (placeOf put v-1) 0).natAbs=v:=by
 unfold placeOf at*;cases a:(List.range put.length).find? (λi=>(put.getD i 0).natAbs==v) with
 |none=>rw[a] at h;exact absurd rfl h
 |some i=>
  have b:=z0b a;have c:=gr.1 (Pa a);simp only[GN];exact⟨c,by simpa using b⟩
def ja (put:List Int):Prop:=(put.map Int.natAbs).Nodup
theorem qi {put:List Int} {i:Nat} (a:i<put.length):put.getD i 0∈put:=by
 rw[q0,Q1 a];exact Gm a
theorem placeOf_at {put:List Int} (d:ja put) {i:Nat} (c:i<put.length):placeOf put (put.getD i 0).natAbs=i+1:=by
 unfold placeOf;rw[find_range_some c (by simp) ?_];intro j e;have a:(put.map Int.natAbs)[j]'(by simp;omega)≠(put.map Int.natAbs)[i]'(by simp;omega):=Gw.1 d j i _ _ e;have b:j<put.length:=oM
 simp only[pj] at a;simp[q0,c,b,a]
theorem placeOf_snoc {put:List Int} {l:Int} (h:∀x,x∈put->x.natAbs≠l.natAbs) (v:Nat):placeOf (put++[l]) v=if v=l.natAbs then put.length+1 else placeOf put v:=by
 by_cases f:v=l.natAbs
 ·rw[if_pos f];unfold placeOf;rw[find_range_some (i:=put.length) (by simp) (by simp[f]) ?_];intro j g;have:=h _ (qi g);simp only[q0,gy g] at this⊢;simp[f,this]
 ·rw[if_neg f];by_cases b:placeOf put v=0
  ·rw[b];refine xB0 λx m=>?_;rw[gj,gn] at m;rcases m with m|rfl
   ·intro e;obtain⟨i,c,rfl⟩:=gl m;unfold placeOf at b;cases a:(List.range put.length).find? (λi=>(put.getD i 0).natAbs==v) with
    |none=>
     rw[G3] at a;have:=a i (gr.2 c);simp[q0,c,e] at this
    |some k=>rw[a] at b;cases b
   ·exact λe=>f e.symm
  ·unfold placeOf at b⊢;cases a:(List.range put.length).find? (λi=>(put.getD i 0).natAbs==v) with
   |none=>rw[a] at b;exact absurd rfl b
   |some k=>
    rw[Pv] at a;obtain⟨p,i,c,d,o⟩:=a;simp only[GH] at d;subst d;simp only[Gz] at c;rw[find_range_some (i:=i) (by simp;omega) ?_ ?_]
    ·simpa[q0,gy c] using p
    ·intro j g;have:=o j g;simp only[GH] at this;have n:j<put.length:=oM;simpa[q0,gy n] using this
end Go.M
namespace Go.M
def lookM (put:List Int):List Int->Nat->Int->Bool×Nat×Int
 |[],n,x=>(false,n,x)
 |l::r,n,x=>if l∈put then(true,0,0) else if placeOf put l.natAbs=0 then lookM put r (n+1) l else lookM put r n x
theorem K10 (put:List Int) (n:Nat) (x:Int):lookM put [] n x=(false,n,x):=rfl
theorem kO0 (put:List Int) (l:Int) (r:List Int) (n:Nat) (x:Int):lookM put (l::r) n x=if l∈put then(true,0,0) else if placeOf put l.natAbs=0 then lookM put r (n+1) l else lookM put r n x:=rfl
def findM (put:List Int):List (List Int)->Int->Int->Int->Int×Int×Int
 |[],_,u,x=>(-1,u,x)
 |c::r,k,u,x=>
  match lookM put c 0 0 with
  |(true,_,_)=>findM put r (k+1) u x
  |(false,0,_)=>(k,u,x)
  |(false,1,l)=>if u<0 then findM put r (k+1) k l else findM put r (k+1) u x
  |(false,_,_)=>findM put r (k+1) u x
theorem findM_cons (put:List Int) (c:List Int) (r:List (List Int)) (k u x:Int):findM put (c::r) k u x=
  if(lookM put c 0 0).1=true then findM put r (k+1) u x else if(lookM put c 0 0).2.1=0 then(k,u,x) else
  if(lookM put c 0 0).2.1=1 then(if u<0 then findM put r (k+1) k (lookM put c 0 0).2.2 else findM put r (k+1) u x) else findM put r (k+1) u x:=by
 rw[findM];generalize lookM put c 0 0=z;obtain⟨b,n,l⟩:=z;cases b with
 |true=>simp
 |false=>
  match n with
  |0=>simp
  |1=>simp
  |n+2=>simp
def jX (many:Nat) (put:List Int):List Int:=(List.range (many+1)).map λv=>(placeOf put v:Int)
theorem Jo (many:Nat) (put:List Int):(jX many put).length=many+1:=by simp[jX]
theorem places_get {many:Nat} {put:List Int} {v:Nat} (h:v<=many):(jX many put).getD v 0=placeOf put v:=by
 simp[jX,q0,show v<many+1 by omega]
theorem placeOf_le (put:List Int) (v:Nat):placeOf put v<=put.length:=by
 by_cases h:placeOf put v=0
 ·omega
 ·exact(jc h).1
theorem xu {put:List Int} {l:Int} (h:l∈put):placeOf put l.natAbs≠0:=by
 obtain⟨i,b,rfl⟩:=gl h;intro e;unfold placeOf at e;cases a:(List.range put.length).find? (λj=>(put.getD j 0).natAbs==(put[i]).natAbs) with
 |none=>
  rw[G3] at a;have:=a i (gr.2 b);simp[q0,b] at this
 |some k=>rw[a] at e;cases e
theorem mem_iff_place {put:List Int} (d:ja put) {l:Int}:l∈put↔placeOf put l.natAbs≠0/\put.getD (placeOf put l.natAbs-1) 0=l:=by
 constructor
 ·intro h;refine⟨xu h,?_⟩;obtain⟨i,a,rfl⟩:=gl h;have:=placeOf_at d a;simp only[q0,Q1 a,gI] at this⊢;rw[this];simp[a]
 ·rintro⟨b,c⟩;rw[<-c];have:=(jc b).1;exact qi oM
theorem zK0 {α:Type} {d:α} {xs:List α} {i:Nat} (h:i<xs.length):xs.drop i=xs.getD i d::xs.drop (i+1):=by
 rw[GZ h];simp[q0,h]
theorem XH {α:Type} {a b:List α} {d:α} {k:Nat} (h:k<a.length):(a++b).getD k d=a.getD k d:=by
 simp[q0,gy h]
theorem QK0 {α:Type} {a b:List α} {d:α} {j:Nat}:(a++b).getD (a.length+j) d=b.getD j d:=by
 simp[q0,gO]
theorem XB0 (v:Nat):placeOf [] v=0:=rfl
theorem QE0 (many:Nat):jX many []=List.replicate (many+1) 0:=by
 refine Ge (by simp[jX]) λi a b=>?_;simp[jX,XB0]
theorem qC0 {many:Nat} {put:List Int} {l:Int} (h:placeOf put l.natAbs=0):jX many (put++[l])=(jX many put).set l.natAbs (put.length+1:Nat):=by
 refine Ge (by simp[jX]) λi c f=>?_;simp only[jX,X0,Gz] at c;rw[pZ];simp only[jX,pj,GH];have b:∀x,x∈put->x.natAbs≠l.natAbs:=λx d e=>xu d (by rw[e];exact h);rw[placeOf_snoc b];by_cases a:i=l.natAbs
 ·rw[if_pos a,if_pos a.symm]
 ·rw[if_neg a,if_neg (λe=>a e.symm)]
theorem distinct_snoc {put:List Int} {l:Int} (f:ja put) (h:placeOf put l.natAbs=0):ja (put++[l]):=by
 unfold ja;rw[gu,Gy];refine⟨f,by simp,?_⟩;intro a d b c e;obtain⟨x,g,rfl⟩:=gk.1 d;simp only[gU,Pm,gn] at c;exact xu g (by rw[e,c];exact h)
theorem Kq {put:List Int} (a:ja put) (n:Nat):ja (put.take n):=by
 unfold ja at*;rw[GK];exact a.sublist (PX _ _)
theorem Zd0 {many:Nat} {put:List Int} {l:Int} (a:ja (put++[l])):(jX many (put++[l])).set l.natAbs 0=jX many put:=by
 have h:placeOf put l.natAbs=0:=by
  refine xB0 λx c e=>?_;unfold ja at a;rw[gu,Gy] at a;exact a.2.2 _ (Ga c) _ (by simp) e
 rw[qC0 h,List.set_set];refine Ge (by simp[jX]) λi d f=>?_;rw[pZ];by_cases b:l.natAbs=i
 ·rw[if_pos b];simp only[jX,pj,GH,<-b,h];rfl
 ·rw[if_neg b]
theorem YE {m:Int} {xs:List Int} (h:qq m xs=true) {x:Int} (c:x∈xs):x≠0/\ -m<=x/\x<=m:=by
 obtain⟨k,b,rfl⟩:=gl c;have:=allI_iff.1 h k b;rw[K3] at this;have a:=this.1;simp only[yU0,decide_eq_true_eq,q0,Q1 b,gI] at a;exact a
theorem clauseOk_up {m:Int} {xs:List Int} (h:qq m xs=true):∀k,k<xs.length->k+1<=(xs.getD k 0).natAbs
 |0,a=>by have:=(YE h (qi a)).1;omega
 |k+1,a=>by
  have c:=clauseOk_up h k oM;have:=allI_iff.1 h (k+1) a;rw[K3] at this;have b:=this.2;simp only[GN,gQ,beq_iff_eq,decide_eq_true_eq] at b;omega
theorem clauseOk_len {m:Nat} {xs:List Int} (h:qq m xs=true):xs.length<=m:=by
 cases c:xs.length with
 |zero=>omega
 |succ n=>
  have a:=clauseOk_up h n oM;have b:=YE h (qi (show n<xs.length by omega));omega
def lvl (ds:List Bool) (i:Nat):Nat:=(ds.take (i+1)).count true
def kO (ds:List Bool):List Int:=(List.range ds.length).map λi=>(lvl ds i:Int)
theorem Wn (ds:List Bool):(kO ds).length=ds.length:=by simp[kO]
theorem yV0 {ds:List Bool} {i:Nat} (h:i<ds.length):(kO ds).getD i 0=lvl ds i:=by simp[kO,q0,h]
theorem lvl_le (ds:List Bool) (i:Nat):lvl ds i<=ds.length:=Gc (List.count_le_length) (by simp;omega)
theorem JY0 {ds:List Bool} {i:Nat} (h:ds.length<=i+1):lvl ds i=ds.count true:=by unfold lvl;rw[gK h]
theorem levels_snoc (ds:List Bool) (d:Bool):kO (ds++[d])=kO ds++[((ds.count true+d.toNat:Nat):Int)]:=by
 refine Ge (by simp[kO]) λi b c=>?_;simp only[kO,X0,Gz,k6,gz] at b;by_cases a:i<ds.length
 ·rw[pH (by simpa[kO] using a)];simp only[kO,pj,GH,lvl];rw[gY oM]
 ·rw[Pb (by simpa[kO] using a)];simp only[kO,pj,GH,List.getElem_singleton];rw[JY0 (by simp;omega),List.count_append];cases d<;>simp
theorem levels_take (ds:List Bool) (n:Nat):(kO ds).take n=kO (ds.take n):=by
 refine Ge (by simp[kO]) λi a b=>?_;simp only[kO,X0,Gz,gi] at a b;rw[pc];simp only[kO,pj,GH,lvl];rw[GI,Gh oM]
def qD (why:List Int):List Bool:=why.map λy=>decide (y= -1)
theorem Wr (why:List Int):(qD why).length=why.length:=by simp[qD]
theorem Ks0 (why:List Int) (y:Int):qD (why++[y])=qD why++[decide (y= -1)]:=by simp[qD]
theorem YT0 (why:List Int) (n:Nat):(qD why).take n=qD (why.take n):=by simp[qD]
def backN (ds:List Bool) (L:Int):Nat->Nat
 |0=>0
 |n+1=>if L<lvl ds n then backN ds L n else n+1
theorem lvl_take {ds:List Bool} {i n:Nat} (h:i<n):lvl (ds.take n) i=lvl ds i:=by unfold lvl;rw[GI,Gh oM]
def lvM (put:List Int) (ds:List Bool) (k:Int):Nat:=lvl ds (placeOf put k.natAbs-1)
structure TopOf (put:List Int) (ds:List Bool) (ks:List Int) (top:Nat) (xs:List Int):Prop where
 le:∀k,k∈ks->lvM put ds k<=top
 mem:∀k,k∈xs↔k∈ks/\lvM put ds k=top
 ne:top=0\/xs≠[]
 nd:xs.Nodup
def atM (c:Cnf) (s:Sat) (k:Nat):List Int:=(c.list++s.learned).getD k []
def marksOk (many:Nat) (put:List Int):Prop:=ja put/\∀x,x∈put->x≠0/\x.natAbs<=many
def badM (put:List Int) (k:Nat) (l:Int):Bool:=decide (l≠put.getD k 0)&&(decide (placeOf put l.natAbs=0)||(decide (l∈put)||decide ((k:Int)<=(placeOf put l.natAbs:Int)-1)))
def QJ0 (put:List Int) (k:Nat) (cl:List Int):Bool:=decide (put.getD k 0∈cl)&& !((List.range cl.length).any λi=>badM put k (cl.getD i 0))
def Jl0 (c:Cnf) (s:Sat) (k:Nat):Prop:=s.why.getD k 0= -1\/(0<=s.why.getD k 0/\s.why.getD k 0<c.list.length+s.learned.length/\QJ0 s.put k (atM c s (s.why.getD k 0).toNat)=true)
structure satOk (many:Nat) (c:Cnf) (s:Sat):Prop where
 cnf:cnfOk c=true
 few:s.learned.length<=300
 c0:0<=s.code
 c3:s.code<=3
 len:s.put.length=s.why.length
 lrn:∀x,x∈s.learned->qq c.many x=true
 mks:marksOk many s.put
 why:∀k,k<s.why.length->Jl0 c s k
end Go.M
namespace Go.M
def Srt (xs:List Int):Prop:=xs.Pairwise λa b=>a.natAbs<b.natAbs
theorem srt_ext:∀{xs ys:List Int},Srt xs->Srt ys->(∀k,k∈xs↔k∈ys)->xs=ys
 |[],[],_,_,_=>rfl
 |[],y::ys,_,_,h=>by have:=(h y).2 V0;cases this
 |x::xs,[],_,_,h=>by have:=(h x).1 V0;cases this
 |x::xs,y::ys,b,c,h=>by
  unfold Srt at b c;rw[Pf] at b c;have e:x=y:=by
   have d:=(h x).1 V0;have f:=(h y).2 V0;rcases gd.1 d with e|d
   ·exact e
   ·rcases gd.1 f with e|f
    ·exact e.symm
    ·have:=c.1 x d;have:=b.1 y f;omega
  subst e;rw[srt_ext (xs:=xs) (ys:=ys) b.2 c.2 λk=>?_];constructor
  ·intro a;rcases gd.1 ((h k).1 (gh _ a)) with e|e
   ·subst e;have:=b.1 _ a;omega
   ·exact e
  ·intro a;rcases gd.1 ((h k).2 (gh _ a)) with e|e
   ·subst e;have:=c.1 _ a;omega
   ·exact e
theorem clauseOk_srt {m:Int} {xs:List Int} (h:qq m xs=true):Srt xs:=by
 have step:∀k,k+1<xs.length->(xs.getD k 0).natAbs<(xs.getD (k+1) 0).natAbs:=λk a=>by
  have:=allI_iff.1 h (k+1) a;rw[K3] at this;have b:=this.2;simp only[GN,gQ,beq_iff_eq,decide_eq_true_eq] at b;omega
 have far:∀d k,k+d+1<xs.length->(xs.getD k 0).natAbs<(xs.getD (k+d+1) 0).natAbs:=by
  intro d;induction d with
  |zero=>intro k a;exact step k a
  |succ d l=>
   intro k a;have n:=l k oM;have b:=step (k+d+1) oM;have e:k+(d+1)+1=k+d+1+1:=oM;rw[e];omega
 unfold Srt;rw[Gw];intro i j c g f;have:=far (j-i-1) i oM;rw[show i+(j-i-1)+1=j from by omega] at this;simpa[q0,c,g] using this
def qM0 (many:Nat) (a b:List Int) (m:Nat):List Int:=(List.range many).filterMap λi=>
 if i+1=m then none else if((i+1:Nat):Int)∈a\/((i+1:Nat):Int)∈b then some ((i+1:Nat):Int) else if-((i+1:Nat):Int)∈a\/ -((i+1:Nat):Int)∈b then some (-((i+1:Nat):Int)) else none
theorem mem_joinM {many m:Nat} {a b:List Int} (j:∀k,k∈a++b->k.natAbs≠m-> -k∉a++b) (g:∀k,k∈a++b->k≠0/\k.natAbs<=many) (k:Int):k∈qM0 many a b m↔(k∈a\/k∈b)/\k.natAbs≠m:=by
 unfold qM0;simp only[List.mem_filterMap,gr];constructor
 ·rintro⟨i,n,h⟩;split at h
  ·cases h
  ·rename_i c;split at h
   ·rename_i d;simp only[gV] at h;subst h;exact⟨d,oM⟩
   ·split at h
    ·rename_i d;simp only[gV] at h;subst h;exact⟨d,oM⟩
    ·cases h
 ·rintro⟨h,c⟩;have hm:k∈a++b:=gj.2 h;obtain⟨l,hle⟩:=g k hm;refine⟨k.natAbs-1,oM,?_⟩;rw[if_neg oM];have e:k.natAbs-1+1=k.natAbs:=oM;rw[e];by_cases o:0<k
  ·rw[show((k.natAbs:Nat):Int)=k from by omega,if_pos h]
  ·rw[show((k.natAbs:Nat):Int)= -k from by omega];have f:=j k hm c;rw[gj] at f;rw[if_neg f,PA,if_pos h]
theorem joinM_srt (many:Nat) (a b:List Int) (m:Nat):Srt (qM0 many a b m):=by
 unfold qM0 Srt;rw[List.pairwise_filterMap];refine List.Pairwise.imp ?_ List.pairwise_lt_range;intro i j c x d y e;have abs:∀{i:Nat} {x:Int},(if i+1=m then none else if((i+1:Nat):Int)∈a\/((i+1:Nat):Int)∈b then some ((i+1:Nat):Int) else if-((i+1:Nat):Int)∈a\/ -((i+1:Nat):Int)∈b then some (-((i+1:Nat):Int)) else none)=some x->x.natAbs=i+1:=by
  intro i x h;split at h
  ·cases h
  ·split at h
   ·simp only[gV] at h;omega
   ·split at h
    ·simp only[gV] at h;omega
    ·cases h
 have:=abs d;have:=abs e;omega
theorem kw {put:List Int} (b:ja put) {x y:Int} (d:x∈put) (e:y∈put) (h:x.natAbs=y.natAbs):x=y:=by
 have a:=(mem_iff_place b).1 d;have c:=(mem_iff_place b).1 e;rw[h] at a;rw[<-a.2,c.2]
def Fls (put cl:List Int):Prop:=∀k,k∈cl-> -k∈put
def XC0 (xs:List Nat):Nat:=xs.foldl max 0
theorem YR0 {xs:List Nat} {a x:Nat} (h:x∈xs\/x<=a):x<=xs.foldl max a:=by
 induction xs generalizing a with
 |nil=>rcases h with h|h;cases h;exact h
 |cons y r b=>
  refine b ?_;rcases h with h|h
  ·rcases gd.1 h with rfl|h
   ·exact .inr (Nat.le_max_right _ _)
   ·exact .inl h
  ·exact .inr (Gc h (Nat.le_max_left _ _))
theorem Kl {xs:List Nat} {x:Nat} (h:x∈xs):x<=XC0 xs:=YR0 (.inl h)
theorem Zs0 (xs:List Nat) (a:Nat):xs.foldl max a=a\/xs.foldl max a∈xs:=by
 induction xs generalizing a with
 |nil=>exact .inl rfl
 |cons y r b=>
  rw[z0c];rcases b (max a y) with h|h
  ·rw[h];rcases Nat.le_total a y with e|e
   ·rw[Nat.max_eq_right e];exact .inr V0
   ·rw[Nat.max_eq_left e];exact .inl rfl
  ·exact .inr (gh _ h)
theorem Kj {xs:List Nat}:XC0 xs=0\/XC0 xs∈xs:=Zs0 xs 0
theorem lvl_mono {ds:List Bool} {i j:Nat} (h:i<=j):lvl ds i<=lvl ds j:=by
 unfold lvl;refine List.Sublist.count_le true ?_;have:ds.take (i+1)=(ds.take (j+1)).take (i+1):=by rw[GI,Gh oM]
 rw[this];exact PX _ _
def ji (put cl:List Int):Nat:=XC0 (cl.map λk=>placeOf put k.natAbs)
theorem lastPl_top {put cl xs:List Int} {ds:List Bool} {top:Nat} {m:Int} (h:TopOf put ds cl top xs) (hm:m∈xs) (a:∀x,x∈xs->placeOf put x.natAbs<=placeOf put m.natAbs):placeOf put m.natAbs=ji put cl:=by
 have b:=(h.mem m).1 hm;have d:placeOf put m.natAbs<=ji put cl:=Kl (gk.2 ⟨m,b.1,rfl⟩);rcases Kj (xs:=cl.map λk=>placeOf put k.natAbs) with e|e
 ·unfold ji at d⊢;omega
 ·obtain⟨q,c,e⟩:=gk.1 e;have i:placeOf put q.natAbs=ji put cl:=e;have j:lvM put ds m<=lvM put ds q:=lvl_mono oM;have f:=h.le q c;have g:=a q ((h.mem q).2 ⟨c,oM⟩);omega
theorem two_mem {xs:List Int} (d:xs.Nodup) (h:2<=xs.length) (p:Int):∃q,q∈xs/\q≠p:=by
 match xs,d,h with
 |a::b::r,d,_=>
  have c:a≠b:=λe=>by subst e;simp at d
  by_cases e:a=p
  ·exact⟨b,by simp,λf=>c (by rw[e,f])⟩
  ·exact⟨a,by simp,e⟩
theorem impl_of {put cl:List Int} {k:Nat} (h:QJ0 put k cl=true):put.getD k 0∈cl/\∀l,l∈cl->l≠put.getD k 0->placeOf put l.natAbs≠0/\l∉put/\placeOf put l.natAbs<=k:=by
 unfold QJ0 at h;simp only[K3,decide_eq_true_eq,gZ,pU] at h;refine⟨h.1,λl d a=>?_⟩;obtain⟨i,c,rfl⟩:=gl d;have:=h.2 i (gr.2 c);simp only[q0,Q1 c,gI,badM] at this a⊢;simp only[K3,gQ,decide_eq_true_eq,not_and,not_or] at this;have b:=this a;exact⟨b.1,b.2.1,by have:=b.2.2;omega⟩
theorem false_of {put:List Int} {l:Int} (a:placeOf put l.natAbs≠0) (b:l∉put): -l∈put:=by
 obtain⟨hle,he⟩:=jc a;have hm:put.getD (placeOf put l.natAbs-1) 0∈put:=qi oM;generalize put.getD (placeOf put l.natAbs-1) 0=y at he hm;have:y=l\/y= -l:=oM
 rcases this with e|e
 ·exact absurd (e▸hm) b
 ·exact e▸hm
theorem lvl_decided {ds:List Bool} {i k:Nat} (b:k<ds.length) (a:ds.getD k false=true) (h:i<k):lvl ds i<lvl ds k:=by
 have c:lvl ds i<=(ds.take k).count true:=by
  unfold lvl;refine List.Sublist.count_le true ?_;have:ds.take (i+1)=(ds.take k).take (i+1):=(by rw[GI,Gh oM]);rw[this];exact PX _ _
 have d:lvl ds k=(ds.take k).count true+1:=by
  unfold lvl;rw[pb,List.count_append];simp only[q0,Q1 b,gI] at a;simp[b,a]
 omega
theorem Qk0 {why:List Int} {k:Nat} (a:k<why.length):(qD why).getD k false=decide (why.getD k 0= -1):=by
 simp[qD,q0,a]
theorem last_reason {many:Nat} {c:Cnf} {s:Sat} (h:satOk many c s) {cl xs:List Int} {top k:Nat} (hF:Fls s.put cl) (m:TopOf s.put (qD s.why) cl top xs) (A:2<=xs.length) (n:ji s.put cl=k+1):
  k<s.put.length/\ -(s.put.getD k 0)∈cl/\0<=s.why.getD k 0/\s.why.getD k 0<c.list.length+s.learned.length/\QJ0 s.put k (atM c s (s.why.getD k 0).toNat)=true/\
  ∃q,q∈cl/\q≠ -(s.put.getD k 0)/\lvM s.put (qD s.why) q=top:=by
 have B:=h.mks.1;obtain⟨d,b,y⟩:∃q,q∈cl/\placeOf s.put q.natAbs=k+1:=by
  rcases Kj (xs:=cl.map λk=>placeOf s.put k.natAbs) with e|e
  ·unfold ji at n;omega
  ·obtain⟨q,t,e⟩:=gk.1 e;exact⟨q,t,e.trans n⟩
 have o:=jc (put:=s.put) (v:=d.natAbs) oM;rw[y,GN] at o;have i:k<s.put.length:=oM
 have l:s.put.getD k 0= -d:=kw B (qi i) (hF d b) oM;have hle:∀q,q∈cl->placeOf s.put q.natAbs<=k+1:=λq t=>by rw[<-n];exact Kl (gk.2 ⟨q,t,rfl⟩)
 have C:lvM s.put (qD s.why) d=top:=by
  obtain⟨x,I,-⟩:=two_mem m.nd A 0;have w:=(m.mem x).1 I;have z:=hle x w.1;have G:lvM s.put (qD s.why) x<=lvM s.put (qD s.why) d:=lvl_mono oM;have:=m.le d b;omega
 obtain⟨f,u,j⟩:=two_mem m.nd A d;have a:=(m.mem f).1 u;have E:=hle f a.1;have D:placeOf s.put f.natAbs≠k+1:=λe=>by
  have p:=jc (put:=s.put) (v:=f.natAbs) oM;rw[e,GN] at p;have:=kw B (hF f a.1) (hF d b) oM;exact j oM
 have r:placeOf s.put f.natAbs≠0:=by have:=xu (hF f a.1);rwa[GA] at this
 have H:s.why.length=s.put.length:=h.len.symm;have g:s.why.getD k 0≠ -1:=λe=>by
  have z:(qD s.why).getD k false=true:=by rw[Qk0 oM];simpa using e
  have G:lvM s.put (qD s.why) f<lvl (qD s.why) k:=lvl_decided (by rw[Wr];omega) z oM;have J:lvM s.put (qD s.why) d=lvl (qD s.why) k:=by unfold lvM;rw[y];rfl
  omega
 rcases h.why k oM with e|⟨F,a2,a3⟩
 ·exact absurd e g
 ·exact⟨i,by rw[l,PA];exact b,F,a2,a3,f,a.1,by rw[l,PA];exact j,a.2⟩
theorem satOk.lit {many:Nat} {c:Cnf} {s:Sat} (h:satOk many c s) (f:c.many=many) {k:Nat} (m:k<c.list.length+s.learned.length) {l:Int} (g:l∈atM c s k):l≠0/\l.natAbs<=many:=by
 have b:atM c s k∈c.list++s.learned:=by
  unfold atM;rw[q0,Q1 (by rw[k6];omega)];exact Gm _
 have d:∀x,x∈c.list->qq c.many x=true:=λx j=>by
  have a:=h.cnf;unfold cnfOk at a;rw[K3] at a;obtain⟨i,e,rfl⟩:=gl j;have:=allI_iff.1 a.2 i e;simpa[q0,e] using this
 have:=(gj.1 b).elim (d _) (h.lrn _);have:=YE this g;omega
theorem learn_join {many:Nat} {c:Cnf} {s:Sat} (h:satOk many c s) (B:c.many=many) {cl xs:List Int} {top k:Nat} (hF:Fls s.put cl) (I:TopOf s.put (qD s.why) cl top xs) (K:2<=xs.length) (C:ji s.put cl=k+1):
  let r:=atM c s (s.why.getD k 0).toNat
  let d:=qM0 many cl r (s.put.getD k 0).natAbs
  (∀l,l∈d↔(l∈cl/\l≠ -(s.put.getD k 0))\/(l∈r/\l≠s.put.getD k 0))/\Fls s.put d/\ji s.put d<=k/\(∀l,l∈d->lvM s.put (qD s.why) l<=top)/\∃q,q∈d/\lvM s.put (qD s.why) q=top:=by
 intro r d;obtain⟨t,D,O,P,himp,q,H,w,F⟩:=last_reason h hF I K C;have z:=h.mks.1;have J:(0:Int)∉s.put:=λe=>(h.mks.2 0 e).1 rfl;obtain⟨M,i⟩:=impl_of himp;have u:s.put.getD k 0∈s.put:=qi t;have E:placeOf s.put (s.put.getD k 0).natAbs=k+1:=placeOf_at z t;generalize G:s.put.getD k 0=p at*;have x:(s.why.getD k 0).toNat<c.list.length+s.learned.length:=oM
 have o:∀l,l∈r->l≠p-> -l∈s.put:=λl b a=>false_of (i l b a).1 (i l b a).2.1;have off:∀l,l∈cl++r->l.natAbs≠p.natAbs-> -l∈s.put:=λl b a=>by
  rcases gj.1 b with b|b
  ·exact hF l b
  ·exact o l b λe=>a (by rw[e])
 have m:∀l,l∈cl++r->l.natAbs≠p.natAbs-> -l∉cl++r:=λl b a L=>by
  have f:=off l b a;have y:=off (-l) L (by rwa[GA]);rw[PA] at y;have:=kw z f y oM;have:l=0:=oM;subst this;exact J y
 have A:∀l,l∈cl++r->l≠0/\l.natAbs<=many:=λl b=>by
  rcases gj.1 b with b|b
  ·have:=h.mks.2 _ (hF l b);omega
  ·exact h.lit B x b
 have g:∀l,l∈d↔(l∈cl/\l≠ -p)\/(l∈r/\l≠p):=λl=>by
  have e:d=qM0 many cl r p.natAbs:=by show qM0 many cl r (s.put.getD k 0).natAbs=_;rw[G]
  rw[e,mem_joinM m A];constructor
  ·rintro⟨f|f,a⟩
   ·exact .inl ⟨f,λe=>a (by rw[e,GA])⟩
   ·exact .inr ⟨f,λe=>a (by rw[e])⟩
  ·rintro(⟨f,a⟩|⟨f,a⟩)
   ·refine⟨.inl f,λe=>a ?_⟩;have:=kw z (hF l f) u oM;omega
   ·refine⟨.inr f,λe=>a ?_⟩;have:=(i l f a).2.2;rw[e] at this;omega
 have j:∀l,l∈d->placeOf s.put l.natAbs<=k:=λl b=>by
  rcases(g l).1 b with⟨f,a⟩|⟨f,a⟩
  ·have y:placeOf s.put l.natAbs<=k+1:=by rw[<-C];exact Kl (gk.2 ⟨l,f,rfl⟩)
   have Q:placeOf s.put l.natAbs≠k+1:=λe=>by
    have:=jc (put:=s.put) (v:=l.natAbs) oM;rw[e,GN,G] at this;have:=kw z (hF l f) u oM;exact a oM
   omega
  ·exact(i l f a).2.2
 have n:lvl (qD s.why) k=top:=by
  have R:=I.le _ D;have N:lvM s.put (qD s.why) q<=lvl (qD s.why) k:=lvl_mono (by
   have:placeOf s.put q.natAbs<=k+1:=by rw[<-C];exact Kl (gk.2 ⟨q,H,rfl⟩)
   omega)
  have e:lvM s.put (qD s.why) (-p)=lvl (qD s.why) k:=by unfold lvM;rw[GA,E];rfl
  omega
 refine⟨g,λl b=>?_,?_,λl b=>?_,q,(g q).2 (.inl ⟨H,w⟩),F⟩
 ·rcases(g l).1 b with⟨f,_⟩|⟨f,a⟩
  ·exact hF l f
  ·exact o l f a
 ·unfold ji;rcases Kj (xs:=d.map λk=>placeOf s.put k.natAbs) with e|e
  ·omega
  ·obtain⟨l,b,e⟩:=gk.1 e;rw[<-e];exact j l b
 ·rw[<-n];exact lvl_mono (by have:=j l b;omega)
def q00 (put:List Int) (ds:List Bool) (cl:List Int):Nat:=XC0 (cl.map (lvM put ds))
def Xp0 (put:List Int) (ds:List Bool) (cl:List Int):List Int:=cl.filter λk=>lvM put ds k==q00 put ds cl
theorem srt_nodup {cl:List Int} (h:Srt cl):cl.Nodup:=List.Pairwise.imp (λh e=>by rw[e] at h;omega) h
theorem topOf_tops {put:List Int} {ds:List Bool} {cl:List Int} (h:cl.Nodup):TopOf put ds cl (q00 put ds cl) (Xp0 put ds cl):=by
 refine⟨λk a=>Kl (Ga a),λk=>by simp[Xp0],?_,h.sublist List.filter_sublist⟩;rcases Kj (xs:=cl.map (lvM put ds)) with e|e
 ·exact .inl e
 ·obtain⟨q,b,e⟩:=gk.1 e;have:q∈Xp0 put ds cl:=by simp only[Xp0,pd,beq_iff_eq];exact⟨b,e⟩
  exact .inr λh=>by rw[h] at this;cases this
theorem topOf_top {put:List Int} {ds:List Bool} {cl xs a:List Int} {t t':Nat} (h:TopOf put ds cl t xs) (b:TopOf put ds cl t' a):t=t':=by
 have le:∀{t t':Nat} {xs a:List Int},TopOf put ds cl t xs->TopOf put ds cl t' a->t<=t':=by
  intro t t' xs a h b;rcases h.ne with e|e
  ·omega
  ·obtain⟨x,d⟩:=pw _ e;have c:=(h.mem x).1 d;have:=b.le x c.1;omega
 exact z0f (le h b) (le b h)
theorem JA0 {put:List Int} {ds:List Bool} {cl xs a:List Int} {t t':Nat} (h:TopOf put ds cl t xs) (b:TopOf put ds cl t' a):xs.length=a.length:=by
 have e:=topOf_top h b;subst e;exact z0f (h.nd.length_le_of_subset λx c=>(b.mem x).2 ((h.mem x).1 c)) (b.nd.length_le_of_subset λx c=>(h.mem x).2 ((b.mem x).1 c))
theorem qv0 {put:List Int} {ds:List Bool} {cl a xs:List Int} {t:Nat} (b:∀k,k∈cl↔k∈a) (h:TopOf put ds cl t xs):TopOf put ds a t xs:=
 ⟨λk c=>h.le k ((b k).2 c),λk=>by rw[h.mem,b],h.ne,h.nd⟩
def X8 (many:Nat) (c:Cnf) (s:Sat) (cl:List Int):List Int:=
 qM0 many cl (atM c s (s.why.getD (ji s.put cl-1) 0).toNat) (s.put.getD (ji s.put cl-1) 0).natAbs
def learnM (many:Nat) (c:Cnf) (s:Sat):Nat->List Int->List Int
 |0,cl=>cl
 |f+1,cl=>if(Xp0 s.put (qD s.why) cl).length<=1 then cl else learnM many c s f (X8 many c s cl)
theorem lastPl_pos {put cl:List Int} (hF:Fls put cl) (h:cl≠[]):ji put cl≠0:=by
 obtain⟨q,a⟩:=pw _ h;have b:placeOf put q.natAbs<=ji put cl:=Kl (gk.2 ⟨q,a,rfl⟩);have:=xu (hF q a);rw[GA] at this;omega
theorem learnS_ok {many:Nat} {c:Cnf} {s:Sat} (h:satOk many c s) (b:c.many=many) {cl:List Int} (hF:Fls s.put cl) (hs:Srt cl) (g:2<=(Xp0 s.put (qD s.why) cl).length):
  Fls s.put (X8 many c s cl)/\Srt (X8 many c s cl)/\ji s.put (X8 many c s cl)<ji s.put cl/\q00 s.put (qD s.why) (X8 many c s cl)=q00 s.put (qD s.why) cl:=by
 have j:=topOf_tops (put:=s.put) (ds:=qD s.why) (srt_nodup hs);have d:cl≠[]:=λe=>by subst e;simp[Xp0] at g
 have u:=lastPl_pos hF d;obtain⟨k,i⟩:∃k,ji s.put cl=k+1:=⟨ji s.put cl-1,oM⟩;obtain⟨hm,l,t,m,q,n,o⟩:=learn_join h b hF j g i;have e:X8 many c s cl=qM0 many cl (atM c s (s.why.getD k 0).toNat) (s.put.getD k 0).natAbs:=by unfold X8;rw[i];rfl
 rw[e];refine⟨l,joinM_srt _ _ _ _,oM,?_⟩;have a:=topOf_tops (put:=s.put) (ds:=qD s.why) (srt_nodup (joinM_srt many cl (atM c s (s.why.getD k 0).toNat) (s.put.getD k 0).natAbs));have r:=a.le q n;rcases a.ne with e|e
 ·have:=j.le;omega
 ·obtain⟨x,p⟩:=pw _ e;have f:=(a.mem x).1 p;have:=m x f.1;omega
theorem learnM_ok {many:Nat} {c:Cnf} {s:Sat} (h:satOk many c s) (a:c.many=many):∀{f:Nat} {cl:List Int},Fls s.put cl->Srt cl->ji s.put cl<=f->
  Fls s.put (learnM many c s f cl)/\Srt (learnM many c s f cl)/\q00 s.put (qD s.why) (learnM many c s f cl)=q00 s.put (qD s.why) cl/\(Xp0 s.put (qD s.why) (learnM many c s f cl)).length<=1
 |0,cl,hF,hs,g=>by
  refine⟨hF,hs,rfl,?_⟩;have:cl=[]:=pz λd=>lastPl_pos hF d oM;subst this;simp[learnM,Xp0]
 |f+1,cl,hF,hs,g=>by
  unfold learnM;by_cases b:(Xp0 s.put (qD s.why) cl).length<=1
  ·rw[if_pos b];exact⟨hF,hs,rfl,b⟩
  ·rw[if_neg b];obtain⟨e,a2,a3,a4⟩:=learnS_ok h a hF hs oM;obtain⟨b1,b2,b3,b4⟩:=learnM_ok h a (f:=f) e a2 oM;exact⟨b1,b2,b3.trans a4,b4⟩
end Go.M
namespace Go.M
def jF0 (put:List Int) (ds:List Bool) (cl:List Int):Nat:=XC0 ((cl.filter λk=>decide (lvM put ds k<q00 put ds cl)).map (lvM put ds))
def Uc (many:Nat) (c:Cnf) (s:Sat) (cl:List Int):Sat:=
 if q00 s.put (qD s.why) cl=0 then{s with code:=2}
 else if s.learned.length=300 then{s with code:=3}
 else
  {s with
   put:=s.put.take (backN (qD s.why) (jF0 s.put (qD s.why) (learnM many c s s.put.length cl)) s.put.length)
   why:=s.why.take (backN (qD s.why) (jF0 s.put (qD s.why) (learnM many c s s.put.length cl)) s.put.length)
   learned:=s.learned++[learnM many c s s.put.length cl]}
def q20 (many:Nat) (put:List Int):Nat:=((List.range many).find? λi=>decide (placeOf put (i+1)=0)).getD 0+1
def goM (many:Nat) (c:Cnf) (s:Sat):Sat:=
 match findM s.put (c.list++s.learned) 0 (-1) 0 with
 |(k,u,x)=>if 0<=k then Uc many c s (atM c s k.toNat) else if 0<=u then{s with put:=s.put++[x],why:=s.why++[u]}
  else if s.put.length=many then{s with code:=1} else{s with put:=s.put++[-(q20 many s.put:Int)],why:=s.why++[-1]}
def qy0 (many:Nat) (c:Cnf) (s:Sat):Sat:=if s.code=0 then goM many c s else s
def runM (many:Nat) (c:Cnf):Nat->Sat->Sat
 |0,s=>s
 |n+1,s=>runM many c n (qy0 many c s)
def emptyS:Sat:=⟨[],[],[],0⟩
def X9 (put cl:List Int):Prop:=∀l,l∈cl->l∉put/\placeOf put l.natAbs≠0
theorem lookM_spec (put:List Int):∀(cl:List Int) (n:Nat) (x:Int),((∃l,l∈cl/\l∈put)/\lookM put cl n x=(true,0,0))\/
  ((∀l,l∈cl->l∉put)/\∃y,lookM put cl n x=(false,n+(cl.filter λl=>decide (placeOf put l.natAbs=0)).length,y)/\(y=x/\(cl.filter λl=>decide (placeOf put l.natAbs=0))=[]\/y∈cl/\placeOf put y.natAbs=0))
 |[],n,x=> .inr ⟨by simp,x,by simp[K10],.inl ⟨rfl,rfl⟩⟩
 |l::r,n,x=>by
  rw[kO0];by_cases c:l∈put
  ·rw[if_pos c];exact .inl ⟨⟨l,V0,c⟩,rfl⟩
  rw[if_neg c];by_cases d:placeOf put l.natAbs=0
  ·rw[if_pos d];rcases lookM_spec put r (n+1) l with⟨⟨q,b,g⟩,e⟩|⟨f,y,e,a⟩
   ·exact .inl ⟨⟨q,gh _ b,g⟩,e⟩
   ·refine .inr ⟨λq b=>(gd.1 b).elim (λe=>e▸c) (f q),y,?_,?_⟩
    ·rw[e,List.filter_cons_of_pos (by simpa using d),gw,Px,Nat.add_comm 1]
    ·rcases a with⟨rfl,-⟩|⟨a,h⟩
     ·exact .inr ⟨V0,d⟩
     ·exact .inr ⟨gh _ a,h⟩
  ·rw[if_neg d];rcases lookM_spec put r n x with⟨⟨q,b,g⟩,e⟩|⟨f,y,e,a⟩
   ·exact .inl ⟨⟨q,gh _ b,g⟩,e⟩
   ·have i:((l::r).filter λl=>decide (placeOf put l.natAbs=0))=r.filter λl=>decide (placeOf put l.natAbs=0):=List.filter_cons_of_neg (by simpa using d);refine .inr ⟨λq b=>(gd.1 b).elim (λe=>e▸c) (f q),y,by rw[i];exact e,?_⟩;rw[i];rcases a with a|⟨a,h⟩
    ·exact .inl a
    ·exact .inr ⟨gh _ a,h⟩
def unitC (put cl:List Int) (x:Int):Prop:=(∀l,l∈cl->l∉put)/\(cl.filter λl=>decide (placeOf put l.natAbs=0))=[x]
theorem look_clash {put cl:List Int}:X9 put cl↔(lookM put cl 0 0).1=false/\(lookM put cl 0 0).2.1=0:=by
 rcases lookM_spec put cl 0 0 with⟨⟨l,a,c⟩,e⟩|⟨b,y,e,-⟩
 ·rw[e];exact⟨λh=>absurd c (h l a).1,λh=>by cases h.1⟩
 ·rw[e];simp only[gS,P6,true_and];rw[List.filter_eq_nil_iff];exact⟨λh l a=>by have:=(h l a).2;simpa using this,λh l a=>⟨b l a,by have:=h l a;simpa using this⟩⟩
theorem UN0 {put cl:List Int} {x:Int}:unitC put cl x↔lookM put cl 0 0=(false,1,x):=by
 rcases lookM_spec put cl 0 0 with⟨⟨l,g,j⟩,e⟩|⟨i,y,e,a⟩
 ·rw[e];exact⟨λh=>absurd j (h.1 l g),λh=>by cases h⟩
 ·rw[e];constructor
  ·rintro⟨_,h⟩;rw[h] at a;rcases a with⟨_,c⟩|⟨a,b⟩
   ·cases c
   ·have:y∈cl.filter λl=>decide (placeOf put l.natAbs=0):=by rw[pd];exact⟨a,by simpa using b⟩
    rw[h,gn] at this;subst this;rw[h];rfl
  ·intro h;simp only[GF,true_and,gS] at h;obtain⟨f,rfl⟩:=h;refine⟨i,?_⟩;obtain⟨z,b⟩:=z0a.1 f;rw[b] at a⊢;rcases a with⟨_,c⟩|⟨a,d⟩
   ·cases c
   ·have:y∈cl.filter λl=>decide (placeOf put l.natAbs=0):=by rw[pd];exact⟨a,by simpa using d⟩
    rw[b,gn] at this;rw[this]
def FindP (put:List Int) (L:List (List Int)) (k0 u0 x0:Int) (r:Int×Int×Int):Prop:=
 (∃i,i<L.length/\r.1=k0+(i:Nat)/\X9 put (L.getD i []))\/
  (r.1= -1/\(∀cl,cl∈L->¬X9 put cl)/\((0<=u0/\r.2=(u0,x0))\/
   (u0<0/\((∃i,i<L.length/\r.2.1=k0+(i:Nat)/\unitC put (L.getD i []) r.2.2/\∀j,j<i->∀x,¬unitC put (L.getD j []) x)\/
    (r.2=(u0,x0)/\∀cl,cl∈L->∀x,¬unitC put cl x)))))
theorem FindP.skip {put cl:List Int} {L:List (List Int)} {k0 m o:Int} {r:Int×Int×Int} (q: ¬X9 put cl) (hu:0<=m\/ ∀x,¬unitC put cl x) (h:FindP put L (k0+1) m o r):FindP put (cl::L) k0 m o r:=by
 rcases h with⟨i,l,d,f⟩|⟨d,f,b⟩
 ·exact .inl ⟨i+1,by simpa using l,by rw[d];omega,by simpa using f⟩
 ·refine .inr ⟨d,λc a=>(gd.1 a).elim (λe=>e▸q) (f c),?_⟩;rcases b with b|⟨n,b⟩
  ·exact .inl b
  have hu:∀x,¬unitC put cl x:=hu.elim (λh=>absurd h oM) id;rcases b with⟨i,l,g,k,p⟩|⟨g,k⟩
  ·refine .inr ⟨n,.inl ⟨i+1,by simpa using l,by rw[g];omega,by simpa using k,λj s x=>?_⟩⟩;cases j with
   |zero=>simpa using hu x
   |succ j=>simpa using p j oM x
  ·exact .inr ⟨n,.inr ⟨g,λc a=>(gd.1 a).elim (λe=>e▸hu) (k c)⟩⟩
theorem findM_spec (put:List Int):∀(L:List (List Int)) (k0 a g:Int),0<=k0->FindP put L k0 a g (findM put L k0 a g)
 |[],k0,a,g,_=>by
  refine .inr ⟨rfl,by simp,?_⟩;by_cases h:0<=a
  ·exact .inl ⟨h,rfl⟩
  ·exact .inr ⟨oM,.inr ⟨rfl,by simp⟩⟩
 |cl::L,k0,a,g,s=>by
  rw[findM_cons];by_cases f:(lookM put cl 0 0).1=true
  ·rw[if_pos f];refine FindP.skip (λh=>?_) (.inr λx h=>?_) (findM_spec put L (k0+1) a g oM)
   ·rw[(look_clash.1 h).1] at f;cases f
   ·rw[UN0.1 h] at f;cases f
  rw[if_neg f];have k:(lookM put cl 0 0).1=false:=(by simpa using f);by_cases l:(lookM put cl 0 0).2.1=0
  ·rw[if_pos l];exact .inl ⟨0,by simp,by simp,by simpa using look_clash.2 ⟨k,l⟩⟩
  rw[if_neg l];have d: ¬X9 put cl:=λh=>l (look_clash.1 h).2;by_cases m:(lookM put cl 0 0).2.1=1
  ·rw[if_pos m];have q:unitC put cl (lookM put cl 0 0).2.2:=UN0.2 (by rw[<-k,<-m]);by_cases hu:a<0
   ·rw[if_pos hu];rcases findM_spec put L (k0+1) k0 (lookM put cl 0 0).2.2 oM with⟨i,r,n,o⟩|⟨n,o,b⟩
    ·exact .inl ⟨i+1,by simpa using r,by rw[n];omega,by simpa using o⟩
    ·refine .inr ⟨n,λc p=>(gd.1 p).elim (λe=>e▸d) (o c),.inr ⟨hu,.inl ⟨0,by simp,?_,?_,λj t=>oM⟩⟩⟩
     ·rcases b with⟨_,b⟩|⟨b,_⟩
      ·rw[b];simp
      ·omega
     ·rcases b with⟨_,b⟩|⟨b,_⟩
      ·rw[b];simpa using q
      ·omega
   ·rw[if_neg hu];exact FindP.skip d (.inl oM) (findM_spec put L (k0+1) a g oM)
  ·rw[if_neg m];refine FindP.skip d (.inr λx h=>m ?_) (findM_spec put L (k0+1) a g oM);rw[UN0.1 h]
theorem find_cases (put:List Int) (L:List (List Int)):(∃(i:Nat) (u x:Int),i<L.length/\findM put L 0 (-1) 0=((i:Int),u,x)/\X9 put (L.getD i []))\/
  ((∀cl,cl∈L->¬X9 put cl)/\((∃(i:Nat) (x:Int),i<L.length/\findM put L 0 (-1) 0=(-1,(i:Int),x)/\unitC put (L.getD i []) x/\∀j,j<i->∀x,¬unitC put (L.getD j []) x)\/
   (findM put L 0 (-1) 0=(-1,-1,0)/\∀cl,cl∈L->∀x,¬unitC put cl x))):=by
 have h:=findM_spec put L 0 (-1) 0 oM;generalize findM put L 0 (-1) 0=z at h;obtain⟨k,u,x⟩:=z;rcases h with⟨i,f,b,d⟩|⟨b,d,c⟩
 ·exact .inl ⟨i,u,x,f,by simp at b;rw[b],d⟩
 ·refine .inr ⟨d,?_⟩;simp only at b;subst b;rcases c with⟨c,_⟩|⟨_,c⟩
  ·omega
  rcases c with⟨i,f,a,e,g⟩|⟨a,e⟩
  ·exact .inl ⟨i,x,f,by simp at a;rw[a],e,g⟩
  ·simp only[GF] at a;exact .inr ⟨by rw[a.1,a.2],e⟩
end Go.M
namespace Go.M
theorem mem_take {put:List Int} (b:ja put) {l:Int} {k:Nat}:l∈put.take k↔l∈put/\placeOf put l.natAbs<=k:=by
 constructor
 ·intro h;refine⟨gX h,?_⟩;obtain⟨i,e,rfl⟩:=gl h;simp only[gi] at e;have:=placeOf_at b (i:=i) oM;simp only[q0,Q1 (show i<put.length by omega),gI] at this;rw[pc,this];omega
 ·rintro⟨c,f⟩;have d:=(mem_iff_place b).1 c;have g:=placeOf_le put l.natAbs;have a:placeOf put l.natAbs-1<put.length:=oM;rw[<-d.2,q0,Q1 a,gI];have:put[placeOf put l.natAbs-1]=(put.take k)[placeOf put l.natAbs-1]'(by simp;omega):=(by rw[pc]);rw[this];exact Gm _
theorem marksOk.zero {many:Nat} {put:List Int} (h:marksOk many put):(0:Int)∉put:=λe=>(h.2 0 e).1 rfl
theorem marksOk.neg {many:Nat} {put:List Int} (h:marksOk many put) {l:Int} (a:l∈put): -l∉put:=λb=>by
 have:=kw h.1 a b oM;have e:l=0:=oM
 subst e;exact h.zero a
theorem marksOk.take {many:Nat} {put:List Int} (h:marksOk many put) (n:Nat):marksOk many (put.take n):=⟨Kq h.1 n,λx a=>h.2 x (gX a)⟩
theorem marksOk.snoc {many:Nat} {put:List Int} (h:marksOk many put) {l:Int} (b:l≠0) (c:l.natAbs<=many) (d:placeOf put l.natAbs=0):marksOk many (put++[l]):=
 ⟨distinct_snoc h.1 d,λx a=>by
  rcases gj.1 a with a|a
  ·exact h.2 x a
  ·rw[gn] at a;subst a;exact⟨b,c⟩⟩
theorem marksOk.len {many:Nat} {put:List Int} (h:marksOk many put):put.length<=many:=by
 have:=h.1.length_le_of_subset (l₂:=List.range' 1 many) λx a=>by
  obtain⟨y,b,rfl⟩:=gk.1 a;have:=h.2 y b;rw[Po];omega
 simpa using this
theorem impl_iff {many:Nat} {put cl:List Int} (h:marksOk many put) {k:Nat}:QJ0 put k cl=true↔put.getD k 0∈cl/\∀l,l∈cl->l≠put.getD k 0-> -l∈put.take k:=by
 constructor
 ·intro e;obtain⟨f,g⟩:=impl_of e;refine⟨f,λl n d=>?_⟩;obtain⟨a,b,c⟩:=g l n d;exact(mem_take h.1).2 ⟨false_of a b,by rwa[GA]⟩
 ·rintro⟨f,g⟩;unfold QJ0;simp only[K3,decide_eq_true_eq,gZ,pU];refine⟨f,λi e=>?_⟩;rw[gr] at e;have hm:cl.getD i 0∈cl:=qi e;generalize cl.getD i 0=l at hm;simp only[badM,K3,gQ,decide_eq_true_eq,not_and,not_or];intro d;have j:=(mem_take h.1).1 (g l hm d);have m:=xu j.1;rw[GA] at j m;refine⟨m,λo=>h.neg o j.1,oM⟩
theorem clauseOk_of {m:Int} {xs:List Int} (hs:Srt xs) (h:∀l,l∈xs->l≠0/\(l.natAbs:Int)<=m):qq m xs=true:=by
 unfold qq;refine allI_iff.2 λk a=>?_;have c:=h _ (qi a);rw[K3];refine⟨by simp only[yU0,decide_eq_true_eq];omega,?_⟩;simp only[gQ,beq_iff_eq,decide_eq_true_eq];by_cases b:k=0
 ·exact .inl b
 ·refine .inr ?_;have:=Gw.1 hs (k-1) k oM a oM;simpa[q0,a,show k-1<xs.length by omega] using this
theorem xK0 {c:Cnf} (h:cnfOk c=true) {x:List Int} (b:x∈c.list):qq c.many x=true:=by
 unfold cnfOk at h;rw[K3] at h;obtain⟨i,a,rfl⟩:=gl b;have:=allI_iff.1 h.2 i a;simpa[q0,a] using this
theorem XN0 {c:Cnf} {s:Sat} {k:Nat} (a:k<c.list.length+s.learned.length):atM c s k∈c.list++s.learned:=by
 unfold atM;rw[q0,Q1 (by rw[k6];omega)];exact Gm _
theorem satOk.cls {many:Nat} {c:Cnf} {s:Sat} (h:satOk many c s) {x:List Int} (a:x∈c.list++s.learned):qq c.many x=true:=
 (gj.1 a).elim (xK0 h.cnf) (h.lrn x)
theorem satOk.atOk {many:Nat} {c:Cnf} {s:Sat} (h:satOk many c s) {k:Nat} (a:k<c.list.length+s.learned.length):qq c.many (atM c s k)=true:=h.cls (XN0 a)
theorem zG0 {put:List Int} {k n:Nat} (h:k<n):(put.take n).getD k 0=put.getD k 0:=by
 simp[q0,pN,h]
theorem why_ext {many:Nat} {c:Cnf} {s a:Sat} {k:Nat} (hm:marksOk many s.put) (d:marksOk many a.put) (f:a.put.take (k+1)=s.put.take (k+1)) (hw:a.why.getD k 0=s.why.getD k 0) (n:∃t,a.learned=s.learned++t) (h:Jl0 c s k):Jl0 c a k:=by
 unfold Jl0 at h⊢;rw[hw];rcases h with h|⟨i,o,j⟩
 ·exact .inl h
 obtain⟨t,g⟩:=n;have b:atM c a (s.why.getD k 0).toNat=atM c s (s.why.getD k 0).toNat:=by
  unfold atM;rw[g,<-Gd,XH (by rw[k6];omega)]
 have m:a.put.getD k 0=s.put.getD k 0:=by rw[<-zG0 (show k<k+1 by omega),f,zG0 oM]
 have e:a.put.take k=s.put.take k:=by
  have:=congrArg (λl=>l.take k) f;simpa[GI] using this
 refine .inr ⟨i,by rw[g,k6];omega,?_⟩;rw[b,impl_iff d,m,e];exact(impl_iff hm).1 j
theorem free_spec {many:Nat} {put:List Int} (h:marksOk many put) (l:put.length≠many):1<=q20 many put/\q20 many put<=many/\placeOf put (q20 many put)=0/\∀v,1<=v->v<q20 many put->placeOf put v≠0:=by
 have hlen:=h.len;unfold q20;cases c:(List.range many).find? λi=>decide (placeOf put (i+1)=0) with
 |none=>
  rw[G3] at c;have:(List.range' 1 many).length<=(put.map Int.natAbs).length:=by
   refine(List.nodup_range' (step:=1)).length_le_of_subset λv k=>?_;rw[Po] at k;have b:=c (v-1) (gr.2 oM);rw[show v-1+1=v by omega] at b;have d:=jc (put:=put) (v:=v) (by simpa using b);exact gk.2 ⟨_,qi (show placeOf put v-1<put.length by
    have:placeOf put v≠0:=(by simpa using b);omega),d.2⟩
  simp at this;omega
 |some i=>
  rw[Pv] at c;obtain⟨g,j,f,a,e⟩:=c;simp only[GH] at a;subst a;simp only[Gz] at f;refine⟨by simp,by simp;omega,by simpa using g,λv b d=>?_⟩;simp only[gI] at d;have:=e (v-1) oM;simp only[GH,show v-1+1=v by omega] at this;simpa using this
theorem zL0 {put cl:List Int} (h:X9 put cl):Fls put cl:=λl a=>false_of (h l a).2 (h l a).1
theorem unit_mem {put cl:List Int} {x:Int} (h:unitC put cl x):x∈cl/\placeOf put x.natAbs=0:=by
 have:x∈cl.filter λl=>decide (placeOf put l.natAbs=0):=by rw[h.2];exact V0
 rw[pd] at this;exact⟨this.1,by simpa using this.2⟩
theorem Jw0 {put cl:List Int} {x l:Int} (h:unitC put cl x) (b:l∈cl) (a:l≠x): -l∈put:=by
 refine false_of (λc=>a ?_) (h.1 l b);have:l∈cl.filter λl=>decide (placeOf put l.natAbs=0):=by rw[pd];exact⟨b,by simpa using c⟩
 rw[h.2,gn] at this;exact this
theorem maxL_le {xs ys:List Nat} (h:∀x,x∈xs->x∈ys):XC0 xs<=XC0 ys:=by
 rcases Kj (xs:=xs) with e|e
 ·omega
 ·exact Kl (h _ e)
theorem QG0 {xs ys:List Nat} (h:∀x,x∈xs↔x∈ys):XC0 xs=XC0 ys:=z0f (maxL_le λx=>(h x).1) (maxL_le λx=>(h x).2)
theorem JX0 (xs:List Nat) (f:List Nat) (x:Nat) (a:f=[x]):XC0 (xs++f)=max (XC0 xs) x:=by subst a;simp[XC0,List.foldl_append]
theorem lastPl_le {put cl:List Int}:ji put cl<=put.length:=by
 unfold ji;rcases Kj (xs:=cl.map λk=>placeOf put k.natAbs) with e|e
 ·omega
 ·obtain⟨q,_,e⟩:=gk.1 e;have:=placeOf_le put q.natAbs;omega
theorem Q70 {many:Nat} {c:Cnf} {s:Sat} (h:satOk many c s) (a:c.many=many) {k:Nat} (d:k<c.list.length+s.learned.length) (b:X9 s.put (atM c s k)):
  Fls s.put (learnM many c s s.put.length (atM c s k))/\Srt (learnM many c s s.put.length (atM c s k))/\q00 s.put (qD s.why) (learnM many c s s.put.length (atM c s k))=q00 s.put (qD s.why) (atM c s k)/\(Xp0 s.put (qD s.why) (learnM many c s s.put.length (atM c s k))).length<=1:=
 learnM_ok h a (zL0 b) (clauseOk_srt (h.atOk d)) lastPl_le
theorem push_ok {many:Nat} {c:Cnf} {s:Sat} (h:satOk many c s) {l y:Int} (n:l≠0) (o:l.natAbs<=many) (p:placeOf s.put l.natAbs=0)
  (m:y= -1\/(0<=y/\y<c.list.length+s.learned.length/\l∈atM c s y.toNat/\∀q,q∈atM c s y.toNat->q≠l-> -q∈s.put)):satOk many c {s with put:=s.put++[l],why:=s.why++[y]}:=by
 have hm:=h.mks.snoc n o p;have hlen:=h.len;refine⟨h.cnf,h.few,h.c0,h.c3,by simp[h.len],h.lrn,hm,λk t=>?_⟩;simp only[k6,gz] at t;by_cases g:k<s.why.length
 ·refine why_ext h.mks hm ?_ ?_ ⟨[],by simp⟩ (h.why k g)
  ·simp only;rw[gY oM]
  ·exact XH g
 ·have e:k=s.why.length:=oM;have r:(s.why++[y]).getD k 0=y:=by rw[e];simp
  unfold Jl0;rw[r];rcases m with m|⟨a,b,d,f⟩
  ·exact .inl m
  ·refine .inr ⟨a,b,?_⟩;have i:(s.put++[l]).getD k 0=l:=by rw[e,<-hlen];simp
   rw[impl_iff hm];simp only[i];refine⟨d,λq u j=>?_⟩;rw[e,<-hlen,gY oM,gA];exact f q u j
theorem clash_ok {many:Nat} {c:Cnf} {s:Sat} (h:satOk many c s) (b:c.many=many) {k:Nat} (g:k<c.list.length+s.learned.length) (e:X9 s.put (atM c s k)):satOk many c (Uc many c s (atM c s k)):=by
 unfold Uc;split
 ·exact⟨h.cnf,h.few,by simp,by simp,h.len,h.lrn,h.mks,h.why⟩
 split
 ·exact⟨h.cnf,h.few,by simp,by simp,h.len,h.lrn,h.mks,h.why⟩
 ·rename_i p;obtain⟨m,o,q,r⟩:=Q70 h b g e;generalize learnM many c s s.put.length (atM c s k)=cl at*;generalize backN (qD s.why) (jF0 s.put (qD s.why) cl) s.put.length=n;have d:=h.few;refine⟨h.cnf,by simp;omega,h.c0,h.c3,by simp[h.len],λx a=>?_,h.mks.take n,λj f=>?_⟩
  ·rcases gj.1 a with a|a
   ·exact h.lrn x a
   ·rw[gn] at a;subst a;refine clauseOk_of o λl i=>?_;have:=h.mks.2 _ (m l i);omega
  ·simp only[gi] at f;refine why_ext h.mks (h.mks.take n) ?_ ?_ ⟨[cl],rfl⟩ (h.why j oM)
   ·simp only;rw[GI,Gh oM]
   ·exact zG0 oM
theorem go_ok {many:Nat} {c:Cnf} {s:Sat} (h:satOk many c s) (f:c.many=many):satOk many c (goM many c s):=by
 unfold goM;rcases find_cases s.put (c.list++s.learned) with⟨i,u,x,g,e,n⟩|⟨r,⟨i,x,g,e,hu,-⟩|⟨e,-⟩⟩
 ·rw[e];simp only[Ph,if_true,gm];rw[k6] at g;exact clash_ok h f g n
 ·rw[e];rw[k6] at g;simp only[Ph,if_true,show¬(0:Int)<= -1 by omega,if_false];obtain⟨m,o⟩:=unit_mem hu;have k:=h.lit f g m;refine push_ok h k.1 k.2 o (.inr ⟨oM,oM,?_,λq l j=>?_⟩)
  ·rw[gm];exact m
  ·rw[gm] at l;exact Jw0 hu l j
 ·rw[e];simp only[show¬(0:Int)<= -1 by omega,if_false];split
  ·exact⟨h.cnf,h.few,by simp,by simp,h.len,h.lrn,h.mks,h.why⟩
  ·rename_i p;obtain⟨a,b,d,-⟩:=free_spec h.mks p;exact push_ok h oM oM (by rw[GA,PO];exact d) (.inl rfl)
theorem WJ0 {many:Nat} {c:Cnf} {s:Sat} (h:satOk many c s) (a:c.many=many):satOk many c (qy0 many c s):=by
 unfold qy0;split
 ·exact go_ok h a
 ·exact h
theorem run_ok {many:Nat} {c:Cnf} (a:c.many=many):∀{n:Nat} {s:Sat},satOk many c s->satOk many c (runM many c n s)
 |0,_,h=>h
 |n+1,_,h=>run_ok a (n:=n) (WJ0 h a)
theorem Qg0 {many:Nat} {c:Cnf} (h:cnfOk c=true):satOk many c emptyS:=⟨h,by simp[emptyS],by simp[emptyS],by simp[emptyS],rfl,by simp[emptyS],⟨pk,by simp[emptyS]⟩,by simp[emptyS]⟩
theorem run_succ (many:Nat) (c:Cnf):∀(n:Nat) (s:Sat),runM many c (n+1) s=qy0 many c (runM many c n s)
 |0,_=>rfl
 |n+1,s=>run_succ many c n (qy0 many c s)
theorem JC0 {many:Nat} {c:Cnf} {s:Sat} (h:s.code≠0):qy0 many c s=s:=if_neg h
theorem run_stop {many:Nat} {c:Cnf}:∀{n:Nat} {s:Sat},s.code≠0->runM many c n s=s
 |0,_,_=>rfl
 |n+1,s,h=>by rw[runM,JC0 h,run_stop (n:=n) h]
theorem run_add (many:Nat) (c:Cnf):∀(a b:Nat) (s:Sat),runM many c (a+b) s=runM many c b (runM many c a s)
 |0,b,s=>by rw[gS];rfl
 |a+1,b,s=>by rw[show a+1+b=(a+b)+1 by omega,runM,run_add many c a b];rfl
end Go.M
namespace Go.M
end Go.M
namespace Go.M
end Go.M
end
