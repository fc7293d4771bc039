import Derived.Test.YtokflbdfnbppjaaGreatDoorWvaP9
import Derived.LaidEql
import Derived.Stop.Asserts
/- A part of the proof. -/
set_option linter.all false
section
namespace Go.Proofs.YtokflbdfnbppjaaGreatDoor
open Go Go.Vc Go.Proofs
section
open Go.RowKit Go.Extern.Stop Go.Stop Go.Extern
theorem YB0 (v:Value) (w:World):(Extern.ReflectliteType.typeOf #[.iface 345 v]).run Tryz.prog w= .ok (.iface 179 (.agg #[.pointer (some ⟨11,345,none⟩)])) w:=by kernel_rfl
theorem zA0 (w:World):(callFunc 330 #[.agg #[.pointer (some ⟨11,345,none⟩)]]).run Tryz.prog w= .ok (Next.value (.bool true)) w:=by
 rw[@run_callFunc_extern Tryz.prog 330 _ (Extern.ReflectliteType.method λt=>do Extern.Rtype.noPackHeld "Comparable" t;pure (.bool (<-typeInfo t).comparable)) Tryz.func330 (by kernel_rfl) (by kernel_rfl) (by kernel_rfl) (by kernel_rfl)];kernel_rfl
theorem YC0 (v:Value) (w:World):(Go.method 491 179 v "Comparable").run Tryz.prog w= .ok (330,v) w:=by kernel_rfl
theorem JO0:(Tryz.prog.info? 345).map (·.comparable)=some true:=by kernel_rfl
theorem JM0:(Tryz.prog.info? 380).map (·.size)=some 1:=by kernel_rfl
theorem noIsE (v:Value) (xT:TypeId) (w:World):(Instr.typeAssert (.iface 345 v) xT 181 true).run Tryz.prog w= .ok (.tuple #[.nilIface,.bool false]) w:=run_typeAssert_lacksB Tryz.underlying181 (by kernel_rfl) (by kernel_rfl) v xT w
theorem Ju0 (v:Value) (xT:TypeId) (w:World):(Instr.typeAssert (.iface 345 v) xT 184 true).run Tryz.prog w= .ok (.tuple #[.nilIface,.bool false]) w:=run_typeAssert_lacksB Tryz.underlying184 (by kernel_rfl) (by kernel_rfl) v xT w
theorem Qk0 (v:Value) (xT:TypeId) (w:World):(Instr.typeAssert (.iface 345 v) xT 185 true).run Tryz.prog w= .ok (.tuple #[.nilIface,.bool false]) w:=run_typeAssert_lacksB Tryz.underlying185 (by kernel_rfl) (by kernel_rfl) v xT w
theorem Wx0 (a : Addr) (w : World) :
    Calls Tryz.prog 83 #[.iface 345 (.pointer (some a)), .iface 345 (.pointer (some a))] w λe w' => e = .returned (.bool true) /\ w' = w := by
  obtain ⟨i, hi, hcmp⟩ := pP.1 JO0
  obtain ⟨j, hj, hjs⟩ := pP.1 JM0
  have h8 := @run_callFunc_extern Tryz.prog 106 _ Extern.ReflectliteType.typeOf Tryz.func106 (by kernel_rfl) (by kernel_rfl) (by kernel_rfl) (by kernel_rfl)
  have h32 : ∀ w : World, (callFunc 330 #[.agg #[.pointer (some ⟨11, 345, none⟩)]]).run Tryz.prog w = .ok (Next.value (.bool true)) w := zA0
  have tT := YB0
  have mR := YC0
  have heq := run_eql_iface_ptr_same (P := Tryz.prog) w a Tryz.underlying121 Tryz.underlying345 hi hcmp hj
  go_enter Tryz.func83, Tryz.ntmps83
  go_wp2
  refine wp_loop_rounds 1 ?_
  rw [rounds_succ]
  go_wp2
  go_ret
  exact ⟨rfl, rfl⟩
theorem Uq0 (b : Addr) (w : World) :
    Calls Tryz.prog 83 #[.nilIface, .iface 345 (.pointer (some b))] w λe w' => e = .returned (.bool false) /\ w' = w := by
  have hn := run_eql_iface_nil_left (P := Tryz.prog) w 345 (.pointer (some b)) Tryz.underlying121
  go_enter Tryz.func83, Tryz.ntmps83
  go_wp2
  go_ret
  exact ⟨rfl, rfl⟩
end
variable {w:World} {K:Value->World->Prop}
theorem YA0 {a:Addr} (b:K (.bool true) w):vcall P qk #[erv a,erv a] w K:=
 ⟨by kernel_rfl,(Wx0 a w).mono λe w' h=>by obtain⟨rfl,rfl⟩:=h;exact b⟩
theorem JN0 {a:Addr} (b:K (.bool false) w):vcall P qk #[.nilIface,erv a] w K:=
 ⟨by kernel_rfl,(Uq0 a w).mono λe w' h=>by obtain⟨rfl,rfl⟩:=h;exact b⟩
end Go.Proofs.YtokflbdfnbppjaaGreatDoor
end
namespace Go.Proofs.YtokflbdfnbppjaaGreatDoor
open Go Go.Vc Go.Proofs
section
variable {w:World} {K:Value->World->Prop} {F Fx Q X:Nat->Prop} {n bc mb m:Nat} {gs:M.Gs} {v:Value} {ar ab:Addr}
theorem gone (gs:M.Gs):∀y,y∈gs.map kk->∀c,c∈y->c.oneCell'=true:=λy b c a=>by
 obtain⟨g,_,rfl⟩:=gm.1 b;simp only[kk,gd,gw,or_false] at a;rcases a with rfl|rfl|rfl<;>rfl
theorem OwnG.nil:OwnG w (.slice none 0 0) []:=Own.nil P 0 3 zO w
theorem Clone_gate (d:GatesR Fx w v gs) (u:gs.length<=1000000) (l:∀w' v',Ext w w'->OwnG w' v' gs->(∀x,v'.ownBlock=some x->w.heap.size<=x)->K v' w'):
  vcall P yZ #[v] w K:=by
 apply Zp;obtain⟨a,c,rfl,r,s,f⟩:=d.shape;rw[X0] at d r⊢;rw[yK0 Va];refine zK (λm=>?_) (λm=>?_)
 ·cases a with
  |some a=>cases m
  |none=>
   have k:gs=[]:=by
    have n:gs.map kk=[]:=GU λh=>by
     obtain⟨b,o,p,_⟩:=f h;cases p
    simpa using n
   subst k;exact l w _ (Same.refl _ _) OwnG.nil λx d=>by cases d
 ·refine qB xw0 X70 λb w1 z he A q=>?_;have g:Own P 0 3 zO w1 (.slice (some ⟨b,0,none⟩) 0 0) []:=Blk.ownk (css:=[]) (by rw[ZF0];exact q) (λx d=>by cases d) rfl (by omega);have j:Sl Fx w1 3 (.slice a gs.length c) (gs.map kk):=Sl.ext d he;refine vappend (bs:=24) xC0 (by decide) g j (gone gs) (by omega) (by rw[X0];simp;omega) (by rw[X0];simp;omega) λv' w2 t hs i=>?_;have y:=he.size;refine l w2 v' (Ext.then he hs λx d=>by have e:b=x:=gh d;omega) t λx d=>?_;rcases i x d with h|h
  ·have e:b=x:=gh h;omega
  ·omega
theorem sigof_spec {a m:Int} (hm:m.natAbs<=1000000) (b:K (.bool (decide (a≠0/\ -m<=a/\a<=m))) w):vcall P Z3 #[.int .i64 a,.int .i64 m] w K:=by
 apply q50;simp only[push_cast];refine zh (λc=>?_) (λc=>?_)
 ·simp(disch:=omega) only[push_cast,zJ,GQ];refine zh (λd=>?_) (λd=>?_)
  ·try simp only[push_cast]
   rwa[show decide (a≠0/\ -m<=a/\a<=m)=decide (a<=m) from decide_eq_decide.2 ⟨λh=>h.2.2,λh=>⟨c,d,h⟩⟩] at b
  ·rwa[decide_eq_false (λh=>d h.2.1)] at b
 ·rwa[decide_eq_false (λh=>c h.1)] at b
theorem kP0 {a:Int} {o:Option Addr} {l c mb:Nat}:zE P zU [(0,.agg ⟨[.int .i64 a,.slice o l c]⟩),(1,.map (some mb))] w K=K (.agg ⟨[.int .i64 a,.slice o l c,.map (some mb)]⟩) w:=yo ku0 (us:=[[.int .i64 a,.slice o l c],[.map (some mb)]]) rfl rfl
theorem Kg0 {a:Int} {o:Option Addr} {l c:Nat}:zE P y0 [(0,.int .i64 a),(1,.slice o l c)] w K=K (.agg ⟨[.int .i64 a,.slice o l c]⟩) w:=yo kQ0 (us:=[[.int .i64 a],[.slice o l c]]) rfl rfl
structure Rd (n:Nat) (w:World) (bc:Nat) (v':Value) (mb:Nat) (gs:M.Gs) (i:Nat) (w':World):Prop where
 ext:Ext w w'
 blk:Blk w' bc [.int .i64 n,v',.map (some mb)] zU
 own:OwnG w' v' gs
 map:∃f,GMap w' mb f/\∀g,WL g f=if g∈gs.take i then some (2+n+gs.idxOf g:Int) else none
 sep:bc≠mb/\v'.ownBlock≠some bc/\v'.ownBlock≠some mb
 new:∀b,WM bc mb v' b->w.heap.size<=b
theorem readNet_spec (hv:GatesR Fx w v gs) (hg:M.NetG n gs) (hn:n<=8) (hK:∀w' bc v' mb,CktR n bc w' gs v' mb->Ext w w'->(∀b,WM bc mb v' b->w.heap.size<=b)->K (.tuple #[.pointer (some ⟨bc,0,none⟩),.bool true]) w'):
  vcall P J4 #[.agg ⟨[.int .i64 n,v]⟩] w K:=by
 apply kc0;refine zx λb1 w1 aq F av x=>?_;have au:GatesR Fx w1 v gs:=Sl.ext hv F;have ae:=hg.few;have hlen:∀(w':World) (K:Value->World->Prop),vbi P .len [zO] ze [v] w' K=K (.int .i64 gs.length) w':=λw' K=>by rw[Sl.len hv Va,Vn0]
 refine zS (λu w'=>u=[]/\w'=w1) ?_ ?_
 ·intro J O;simp(disch:=first|(simp only[push_cast])|omega) only[push_cast,x.ld0];refine zh (λc=>absurd c (by omega)) (λ_=>?_)
  try simp(disch:=first|(simp only[push_cast])|omega) only[push_cast,x.ld0]
  refine zh (λc=>absurd c (by omega)) (λ_=>?_)
  try simp(disch:=first|(simp only[push_cast])|omega) only[push_cast,x.ld1,hlen]
  refine zh (λc=>absurd c (by omega)) (λ_=>?_);exact O _ _ ⟨rfl,rfl⟩
 rintro _ _ w2 ⟨rfl,rfl⟩;refine zS (λu w'=> ∃bc v' mb,u=[.pointer (some ⟨bc,0,none⟩)]/\Rd n w2 bc v' mb gs 0 w') ?_ ?_
 ·intro J O;refine zr λw3 B _=>?_;have z:=x.ext B;have e3:=F.trans B;simp(disch:=first|(simp only[push_cast])|omega) only[push_cast,z.ld0,z.ld1,true_and,and_true];refine⟨?_,?_⟩
  ·refine Clone_gate (Sl.ext hv e3) (by omega) λw4 v' p k T=>?_;have A:=z.ext p;obtain⟨o,c,rfl,_⟩:=(Own.sl k).shape;simp(disch:=first|(simp only[push_cast])|omega) only[push_cast,A.ld0,true_and,and_true,and_self,Kg0];refine Us0 rfl λmb w5 am a2 l ag=>?_;have q:=A.ext l;simp(disch:=first|(simp only[push_cast])|omega) only[push_cast,q.ld0,true_and,and_true,and_self,Kg0,kP0];refine zx λbc w6 ak r ah E=>?_;have z3:=B.size;have z4:=p.size;have S:=(λb Q=>(Own.lt k (b:=b) Q).2);refine O _ _ ⟨bc,_,mb,rfl,B.trans (p.trans (l.trans r)),E,Own.ext k (l.trans r),⟨[],a2.ext r,λg=>rfl⟩,⟨by omega,λh=>by have:=S _ h;omega,λh=>by have:=S _ h;omega⟩,?_⟩;rintro b (rfl|rfl|h)
   ·omega
   ·omega
   ·have:=T b h;omega
  ·refine Us0 rfl λmb w5 am a2 l ag=>?_;have q:=z.ext l;simp(disch:=first|(simp only[push_cast])|omega) only[push_cast,q.ld0,q.ld1,true_and,and_true,and_self];refine Clone_gate (Sl.ext hv (e3.trans l)) (by omega) λw4 v' p k T=>?_;have A:=q.ext p;obtain⟨o,c,rfl,_⟩:=(Own.sl k).shape;simp(disch:=first|(simp only[push_cast])|omega) only[push_cast,A.ld0,true_and,and_true,and_self,Kg0,kP0];refine zx λbc w6 ak r ah E=>?_;have z3:=B.size;have z4:=p.size;have S:=(λb Q=>(Own.lt k (b:=b) Q).2);refine O _ _ ⟨bc,_,mb,rfl,B.trans (l.trans (p.trans r)),E,Own.ext k r,⟨[],a2.ext (p.trans r),λg=>rfl⟩,⟨by omega,λh=>by have:=S _ h;omega,λh=>by have:=T _ h;omega⟩,?_⟩;rintro b (rfl|rfl|h)
   ·omega
   ·omega
   ·have:=T b h;omega
 rintro _ _ w3 ⟨bc,v',mb,rfl,h3⟩;have z:=x.ext h3.ext;simp(disch:=first|(simp only[push_cast])|omega) only[push_cast,z.ld1,hlen];refine vloop_up gs.length (λi u w'=>u=[.int .i64 i]/\Rd n w2 bc v' mb gs i w') ⟨rfl,h3⟩ ?_;rintro i _ _ w4 C hi ⟨rfl,d⟩ hC;have A:=x.ext d.ext;simp only[push_cast];refine zh (λa=>?_) (λa=>?_)
 ·have m:i<gs.length:=(by omega);have k:Sl Fx w4 3 v (gs.map kk):=Sl.ext hv (F.trans d.ext);have al:(gs.map kk).getD i []=kk gs[i]:=(by simp[k6,m]);rw[Sl.iaddr k xE0 (by omega) (by rw[Vn0];omega),gl,Sl.ldAgg k Zn (by rw[Vn0];exact m),al];obtain⟨g1,g2,g3,g4⟩:=hg.gate i m;have Y:gs[i]∉gs.take i:=λh=>by
   obtain⟨j,hj,e⟩:=gq h;rw[gi] at hj;rw[Pm] at e;exact Gu.1 hg.once j i (by omega) m (by omega) e
  have ao:gs.take (i+1)=gs.take i++[gs[i]]:=by rw[G7,K3 m];rfl
  have af:gs.idxOf gs[i]=i:=List.Nodup.idxOf_getElem hg.once i m;generalize gs[i]=g at*;have absN:∀a:Int,M.absI a=(a.natAbs:Int):=λa=>by unfold M.absI;split<;>omega
  have ga:=absN g.a;have gb:=absN g.b;refine zD V3 λb5 w5 ar l ag q=>?_;refine q.stAgg (cs':=kk g) rfl Zn (λc hc=>by simp only[kk,gd,gw,or_false] at hc;rcases hc with rfl|rfl|rfl<;>rfl) λw6 an ah E=>?_;have ai:Ext w4 w6:=Ext.then l an λy hy=>by subst hy;omega
  refine zr λw7 aa _=>?_;have N:=E.ext aa;have a4:=ai.trans aa;have Z:=A.ext a4;have a1:∀w':World,Blk w' b5 (kk g) zu->∀K:Value->World->Prop,zf P zu (.pointer (some ⟨b5,0,none⟩)) w' K=K (gv g) w':=λw' hB K=>Blk.ldAgg hB (by exact Zn);simp(disch:=first|(simp only[push_cast])|omega) only[push_cast,N.ld1,N.ld2,true_and];refine zS (λu w'=>u=[]/\Ext w7 w') ?_ ?_
  ·intro J O;rw[Z.ldAgg (t:=y0) Jp];refine nodes_spec (by omega) (by omega) λw8 ab=>?_;refine sigof_spec (by omega) ?_;rw[decide_eq_true ⟨by omega,by omega,by omega⟩];have aj:=Z.ext ab;simp(disch:=first|(simp only[push_cast])|omega) only[push_cast,Pd,aj.ldAgg (t:=y0) Jp];refine nodes_spec (by omega) (by omega) λw9 D=>?_;refine sigof_spec (by omega) ?_;rw[decide_eq_true ⟨by omega,by omega,by omega⟩];simp only[push_cast,Pd];refine node_spec (by omega) ?_;simp only[push_cast];refine zh (λc=>absurd c (by omega)) (λ_=>?_);refine node_spec (by omega) ?_;simp only[push_cast];refine zh (λc=>absurd c (by omega)) (λ_=>?_);refine node_spec (by omega) (node_spec (by omega) ?_);simp only[push_cast];refine zh (λc=>absurd c (by omega)) (λ_=>?_);exact O _ _ ⟨rfl,ab.trans D⟩
  rintro _ _ w9 ⟨rfl,D⟩;have a5:=a4.trans D;refine zS (λu w'=>u=[]/\Ext w9 w') ?_ ?_
  ·intro J O;refine zr λaw s _=>?_;have e:=a5.trans s;have a6:=d.blk.ext e;have V:=(N.ext D).ext s;obtain⟨f,hf,hl⟩:=d.map;have ac:=hf.ext e;have a3:WL g f=none:=(by rw[hl,if_neg Y]);simp(disch:=first|(simp only[push_cast])|omega) only[push_cast,a6.ld2,a1 _ V,W60 ac,a3,true_and];simp(disch:=first|(simp only[push_cast])|omega) only[push_cast,V.ld0];refine zK (λhx=>?_) (λhx=>?_)
   ·obtain⟨p1,p2⟩:=g4 hx
    try simp only[push_cast]
    refine zh (λc=>absurd c (by omega)) (λ_=>?_)
    try simp only[push_cast]
    refine zh (λc=>absurd c (by omega)) (λ_=>?_);exact O _ _ ⟨rfl,s⟩
   ·exact O _ _ ⟨rfl,s⟩
  rintro _ _ ax ⟨rfl,G⟩;refine zr λay H _=>?_;have e:=(a5.trans G).trans H;have a7:=d.blk.ext e;have W:=((N.ext D).ext G).ext H;have a9:=((Z.ext D).ext G).ext H;simp(disch:=first|(simp only[push_cast])|omega) only[push_cast,a7.ld2,a1 _ W,a9.ldAgg (t:=y0) Jp,true_and];refine nodes_spec (by omega) (by omega) λaz X=>?_;have L:=e.trans X;have U:=d.blk.ext L;have a8:=W.ext X;obtain⟨f,hf,hl⟩:=d.map;have a3:WL g f=none:=(by rw[hl,if_neg Y]);simp(disch:=first|(simp only[push_cast])|omega) only[push_cast,U.ld2,a1 _ a8,true_and,and_self,and_true,zJ];refine gset (hf.ext L) a3 λb0 ad I ap=>?_
  try simp(disch:=omega) only[push_cast,zJ]
  have l4:=d.ext.size;refine hC m _ _ ⟨by simp,Ext.then (d.ext.trans L) I (λb Q=>by have:=d.new b (.inr (.inl Q));omega),U.same I d.sep.1,Own.same (Own.ext d.own L) I (λb Q e=>d.sep.2.2 (e▸Q)),⟨_,ad,λg'=>?_⟩,d.sep,d.new⟩;have e1:=look_app (g:=g') (h:=g) (n:=1+(n:Int)+i+1) (f:=f) (i:=0);have e2:=hl g';unfold WL at e2⊢;rw[e1,e2,ao];by_cases R:g'∈gs.take i
  ·rw[if_pos R,if_pos (gk.2 (.inl R))]
  ·rw[if_neg R];by_cases a0:g'=g
   ·subst a0;simp only;rw[if_pos trivial,if_pos (by simp),af];congr 1;omega
   ·simp only;rw[if_neg a0,if_neg (by simp[R,a0])]
 ·have m:i=gs.length:=(by omega);subst m;obtain⟨f,hf,hl⟩:=d.map;rw[gC] at hl;have z1:=F.size;exact hK w4 bc v' mb ⟨d.blk,d.own,⟨f,hf,hl⟩,d.sep,ae,hn⟩ (F.trans d.ext) λb Q=>by have:=d.new b Q;omega
end
section
variable {w:World} {K:Value->World->Prop} {F Fx Q X:Nat->Prop} {n bl bc mb bb kb m:Nat} {gs:M.Gs} {v dv:Value} {ar ab:Addr} {ds:List M.Dcl}
theorem WK0 {a:Int}:zE P y0 [(0,.int .i64 a)] w K=K (.agg ⟨[.int .i64 a,.slice none 0 0]⟩) w:=yo kQ0 (us:=[[.int .i64 a]]) rfl rfl
theorem QC0 {a:Addr}:zE P ya [(0,.pointer (some a))] w K=K (.agg ⟨[.pointer (some a),.nilIface]⟩) w:=yo kx0 (us:=[[.pointer (some a)]]) rfl rfl
theorem QD0 {a:Addr} {o:Option Addr} {l c k m:Nat}:zE P zX [(0,.pointer (some a)),(1,.slice o l c),(2,.map (some k)),(3,.map (some m))] w K=K (.agg ⟨[.pointer (some a),.slice o l c,.map (some k),.map (some m)]⟩) w:=yo ky0 (us:=[[.pointer (some a)],[.slice o l c],[.map (some k)],[.map (some m)]]) rfl rfl
theorem GatesR.nil:GatesR Fx w (.slice none 0 0) []:=Sl.weaken (Own.sl (OwnG.nil (w:=w))) λb a _=>by cases a
theorem NetG.nil (n:Nat):M.NetG n []:=⟨by simp,λk h=>absurd h (by simp),pg⟩
theorem newBlaster_spec (A:M.declOk ds=true) (n:DclsR Fx w dv ds) (he:Errs (λ_=>False) w ar ab)
  (J:∀w' bl bb kb m F,BlR (M.bits ds).toNat bl bb kb m ar ab ds dv (· =m) F w' (some [])->Ext w w'->(∀b,F b\/b=m\/b=bl->w.heap.size<=b)->K (.pointer (some ⟨bl,0,none⟩)) w'):vcall P Yr #[dv] w K:=by
 apply xa0;have Z:=(M.decl_iff.1 A).2.2;have Y:=M.bits_pos' (ds:=ds) λd B=>by
  obtain⟨i,H,e⟩:=gq B;have:=(M.dcl_wide A H).1;rw[k6,K3 H] at this;simp only[Gw,e] at this;omega
 refine bitsOf_spec n A λw1 s=>?_;rw[WK0,show M.bits ds=(((M.bits ds).toNat:Nat):Int) by omega];refine readNet_spec (Fx:=Fx) (gs:=[]) GatesR.nil (NetG.nil _) (by omega) λw2 bc v' mb G t E=>?_;simp only[push_cast,QC0];refine zx λbb w3 L u T y=>?_;refine kinds_new λW kb q v R=>?_;refine XE0 zw0 λm w5 hm D l U=>?_;obtain⟨o,c,rfl,_⟩:=n.shape;rw[QD0];refine zx λbl X N g V z=>?_;have s1:=s.size;have s2:=t.size;have s3:=u.size;have s4:=q.size;have s5:=l.size;have s6:=g.size;have r:=u.trans (q.trans (l.trans g));have x:=t.trans r;have k:=s.trans x;have j:∀b,WM bc mb v' b->b<w2.heap.size:=λb f=>G.lt f;have C:=v.ext (l.trans g);have O:=v.lt;have a:∀b,(WM bc mb v' b\/b=bb)->w.heap.size<=b/\b<W.heap.size:=λb f=>f.elim (λh=>by have:=E b h;have:=j b h;omega) λh=>by omega
 refine J X bl bb kb m (λb=>WM bc mb v' b\/b=bb) ⟨⟨⟨?_,?_,?_⟩,⟨bc,y.ext (q.trans (l.trans g)),λgs e=>?_⟩,.inr rfl,λb f=>?_⟩,z,⟨λh=>by have:=(a _ h).2;omega,λh=>by have:=(a _ h).2;omega,?_,by omega,by omega⟩,rfl,?_,C,?_⟩ k λb f=>?_
 ·exact he.room.same k id
 ·exact he.bits.same k id
 ·have l1:=he.room.lt;have l2:=he.bits.lt;exact⟨λh=>by have:=(a _ h).1;omega,λh=>by have:=(a _ h).1;omega⟩
 ·cases e;exact⟨v',mb,G.ext r,λh=>by have:=j _ h;omega,λb f=> .inl f⟩
 ·rcases f with h|h
  ·have:=(a _ h).2;omega
  ·omega
 ·rintro(h|h)
  ·have:=j _ h;omega
  ·omega
 ·have I:DclsR (λb=>Fx b/\b<w.heap.size) w _ ds:=Sl.weaken n λb f Q=>⟨f,Q⟩;exact Sl.weaken (Sl.ext I k) λb f _=>⟨λh=>by have:=(a _ h).1;omega,λh=>by omega⟩
 ·exact⟨[],D.ext g,λp S=>by cases S⟩
 ·rcases f with h|h|h
  ·exact(a _ h).1
  ·omega
  ·omega
theorem KY0 {t:M.Tm} (h:M.tsort ds t≠ -1):M.fits t=true/\M.declOk ds=true/\M.sortM ds t≠ -1/\M.sizeM t<=20:=by
 unfold M.tsort at h;split at h
 ·next a=>exact⟨a.1,a.2,h,(M.fits_iff.1 a.1).1⟩
 ·exact absurd rfl h
end
theorem net_one {a:Int} {o:Option Addr} {l c:Nat}:∀u,u∈[Value.int .i64 a,.slice o l c]->u.oneCell'=true:=λu hu=>by
 simp only[gd,gw,or_false] at hu;rcases hu with rfl|rfl<;>rfl
end Go.Proofs.YtokflbdfnbppjaaGreatDoor
namespace Go.M
open Go.Vc
section
mutual
def sameT:Tm->Tm->Bool
 | .mk o a b s ks,.mk o' a' b' s' ks'=>decide (o=o')&&decide (a=a')&&decide (b=b')&&decide (s=s')&&sameL ks ks'
def sameL:List Tm->List Tm->Bool
 |[],[]=>true
 |x::xs,y::ys=>sameT x y&&sameL xs ys
 |[],_::_=>false
 |_::_,[]=>false
end
theorem V40 {xs:List Tm} (a:∀k,k∈xs->∀y,sameT k y=true↔k=y):∀ys,sameL xs ys=true↔xs=ys:=by
 induction xs with
 |nil=>intro ys;cases ys<;>simp[sameL]
 |cons x xs ihx=>
  intro ys;cases ys with
  |nil=>simp[sameL]
  |cons y ys=>
   rw[sameL,V0,a x gg,ihx (λk b=>a k (gj _ b)),Gd]
theorem sameT_iff:∀t u:Tm,sameT t u=true↔t=u:=by
 refine Tm.ind λt c u=>?_;cases t with
 |mk o a b s ks=>
  cases u with
  |mk o' e f g d=>
   rw[sameT,V0,V40 (xs:=ks) c];simp only[V0,decide_eq_true_eq,Tm.mk.injEq,and_assoc]
instance:DecidableEq Tm:=λt u=>decidable_of_iff _ (sameT_iff t u)
theorem tm_ext {t u:Tm} (c:t.op=u.op) (d:t.a=u.a) (e:t.b=u.b) (f:t.s=u.s) (g:t.ks=u.ks):t=u:=by
 cases t;cases u;simp only[Tm.op,Tm.a,Tm.b,Tm.s,Tm.ks] at c d e f g;rw[c,d,e,f,g]
def truT:Tm:= .mk 24 0 0 nada []
def flsT:Tm:= .mk 25 0 0 nada [truT]
def fixedM (t:Tm):Option Int:=if t=truT then some 1 else if t=flsT then some 0 else if t.op=20/\t.ks=[]/\t.s=nada/\vok t.a t.b=true then some t.b else none
def isM (t:Tm) (n:Int):Bool:=decide (fixedM t=some n)
def constM (w n:Int):Tm:=if 0<w then .mk 20 w n nada [] else if n=1 then truT else flsT
def zeroE (ds:List Dcl):List Int:=List.replicate ds.length 0
theorem zeroE_ok {ds:List Dcl} (h:declOk ds=true):envOk ds (zeroE ds)=true:=by
 unfold envOk zeroE;rw[h,gF];simp only[decide_true,pH,gN,gy];intro i a;have hw:=dcl_wide h a;have:(List.replicate ds.length (0:Int)).getD i 0=0:=by simp[k6,Pk,a]
 rw[this,vok_iff];exact⟨hw.1,hw.2,Pj _,Int.pow_pos (by decide)⟩
section
variable {ds:List Dcl} {env:List Int} {t u:Tm} {w n:Int}
theorem Z10:sortM ds truT=0:=by rw[sort_leaf (formed_iff.2 ⟨rfl,rfl⟩) rfl];rfl
theorem XL0:evalM ds env truT=1:=by rw[eval_leaf (.inr (.inr rfl))];rfl
theorem Zq0 (a:declOk ds=true):sortM ds flsT=0:=by
 rw[sort_one a (formed_iff.2 ⟨rfl,rfl⟩) rfl];show oneM _ (sortM ds truT)=0;rw[Z10];rfl
theorem Vr0 (he:envOk ds env=true):evalM ds env flsT=0:=by
 rw[(eval_no he (by rw[Zq0 (env_ok he).1];decide) rfl).2.2];show(1:Int)-evalM ds env truT=0;rw[XL0];rfl
theorem XG0 {t:Tm} (c:t.op=20) (d:t.ks=[]) (e:t.s=nada) (g:vok t.a t.b=true):sortM ds t=t.a:=by
 have f:plainM t=true:=by simp[plainM,c,e]
 rw[sort_leaf (formed_iff.2 ⟨by rw[c,d];rfl,f⟩) (by rw[d];rfl)];unfold sortK;rw[if_pos c,if_pos g]
theorem fixed_cases (h:fixedM t=some n):(t=truT/\n=1)\/(t=flsT/\n=0)\/(t.op=20/\t.ks=[]/\t.s=nada/\vok t.a t.b=true/\n=t.b):=by
 unfold fixedM at h;split at h
 ·exact .inl ⟨by assumption,(gh h).symm⟩
 split at h
 ·exact .inr (.inl ⟨by assumption,(gh h).symm⟩)
 split at h
 ·rename_i c;exact .inr (.inr ⟨c.1,c.2.1,c.2.2.1,c.2.2.2,(gh h).symm⟩)
 ·cases h
theorem fixed_good (he:envOk ds env=true) (h:fixedM t=some n):sortM ds t≠ -1/\evalM ds env t=n/\inS (sortM ds t) n:=by
 rcases fixed_cases h with⟨rfl,rfl⟩|⟨rfl,rfl⟩|⟨a,c,d,b,rfl⟩
 ·rw[Z10,XL0];exact⟨by decide,rfl,.inl ⟨rfl,.inr rfl⟩⟩
 ·rw[Zq0 (env_ok he).1,Vr0 he];exact⟨by decide,rfl,.inl ⟨rfl,.inl rfl⟩⟩
 ·rw[XG0 a c d b,eval_leaf (.inl a),if_pos a];have:=vok_lt b;exact⟨by omega,rfl,.inr b⟩
theorem isM_iff:isM t n=true↔fixedM t=some n:=by unfold isM;rw[decide_eq_true_eq]
theorem const_fixed (h:inS w n):fixedM (constM w n)=some n:=by
 unfold constM;rcases h with⟨c,b⟩|h
 ·rw[if_neg (by omega)];rcases b with e|e
  ·rw[e,if_neg (by decide)];rfl
  ·rw[e,if_pos rfl];rfl
 ·have hw:=vok_lt h;rw[if_pos (by omega)];have a: ¬Tm.mk 20 w n nada []=truT:=λe=>by
   have e:(20:Int)=24:=congrArg Tm.op e;omega
  have a2: ¬Tm.mk 20 w n nada []=flsT:=λe=>by
   have e:(20:Int)=25:=congrArg Tm.op e;omega
  unfold fixedM;rw[if_neg a,if_neg a2];exact if_pos ⟨rfl,rfl,rfl,h⟩
theorem const_sort (b:declOk ds=true) (h:inS w n):sortM ds (constM w n)=w:=by
 unfold constM;rcases h with⟨a,c⟩|h
 ·rw[if_neg (by omega)];split
  ·rw[Z10,a]
  ·rw[Zq0 b,a]
 ·have hw:=vok_lt h;rw[if_pos (by omega)];exact XG0 rfl rfl rfl h
theorem Jt (he:envOk ds env=true) (h:inS w n):evalM ds env (constM w n)=n:=(fixed_good he (const_fixed h)).2.1
def allFixed (t:Tm):Bool:=decide (t.ks≠[])&&t.ks.all λk=>(fixedM k).isSome
def ruleX (ds:List Dcl) (t:Tm):Option Tm:=if allFixed t=true then some (constM (sortM ds t) (evalM ds (zeroE ds) t)) else none
def ruleB (t:Tm):Option Tm:=
 if t.op=25/\(kid t 0).op=25 then some (kid (kid t 0) 0)
 else if t.op≠23 then none
 else if isM (kid t 0) 1=true then some (kid t 1)
 else if isM (kid t 0) 0=true then some (kid t 2)
 else if kid t 1=kid t 2 then some (kid t 1) else none
def neutral (o:Int):Int:=if o=26 then 1 else 0
def ruleT (t:Tm):Option Tm:=
 if t.op=26\/t.op=27 then
  if isM (kid t 0) (neutral t.op)=true\/kid t 0=kid t 1 then some (kid t 1)
  else if isM (kid t 1) (neutral t.op)=true then some (kid t 0)
  else if isM (kid t 0) (1-neutral t.op)=true\/isM (kid t 1) (1-neutral t.op)=true then some (constM 0 (1-neutral t.op)) else none
 else none
def ruleL (ds:List Dcl) (t:Tm):Option Tm:=
 if t.op=22 then(if t.b=0/\t.a=sortM ds (kid t 0)-1 then some (kid t 0) else none)
 else if(t.op=1\/t.op=2)/\(kid t 0).op=t.op then some (kid (kid t 0) 0) else none
def ruleW (ds:List Dcl) (t:Tm):Option Tm:=
 if t.ks.length=2/\kid t 0=kid t 1 then
  if t.op=3\/t.op=4 then some (kid t 0)
  else if t.op=5\/t.op=7 then some (constM (sortM ds t) 0)
  else if t.op=15 then some (constM 0 1)
  else if t.op=16\/t.op=17 then some (constM 0 0) else none
 else none
def ruleS (t:Tm):Option Tm:=
 if t.ks.length=2 then
  if isM (kid t 1) 0=true/\(t.op=4\/t.op=5\/t.op=6\/t.op=7\/t.op=11\/t.op=12\/t.op=13) then some (kid t 0)
  else if isM (kid t 1) 0=true/\(t.op=3\/t.op=8) then some (kid t 1)
  else if isM (kid t 1) 1=true/\t.op=8 then some (kid t 0) else none
 else none
def ruleF (t:Tm):Option Tm:=
 if t.ks.length=2 then
  if isM (kid t 0) 0=true/\(t.op=4\/t.op=5\/t.op=6) then some (kid t 1)
  else if isM (kid t 0) 0=true/\(t.op=3\/t.op=8) then some (kid t 0)
  else if isM (kid t 0) 1=true/\t.op=8 then some (kid t 1) else none
 else none
def ruleA (ds:List Dcl) (t:Tm):Option Tm:=ruleX ds t <|> ruleB t <|> ruleT t <|> ruleL ds t <|> ruleW ds t <|> ruleS t <|> ruleF t
def oneT (ds:List Dcl) (t:Tm):Tm:=(ruleA ds t).getD t
def foldT (ds:List Dcl):Tm->Tm:=Tm.fold λt us=>oneT ds (.mk t.op t.a t.b t.s us)
theorem Vp0 (ds:List Dcl) (t:Tm):foldT ds t=oneT ds (.mk t.op t.a t.b t.s (t.ks.map (foldT ds))):=Tm.fold_eq _ t
inductive Src (t:Tm):Tm->Prop
 |kid (i:Nat) (h:i<t.ks.length):Src t (kid t i)
 |deep (i j:Nat) (h:i<t.ks.length) (h':j<(M.kid t i).ks.length):Src t (M.kid (M.kid t i) j)
 |const (w n:Int) (h:t.ks≠[]) (h':inS w n):Src t (constM w n)
structure Step (ds:List Dcl) (t u:Tm):Prop where
 src:Src t u
 sort:sortM ds u=sortM ds t
 eval:∀env,envOk ds env=true->evalM ds env u=evalM ds env t
theorem yL0 {α:Type} {a b:Option α} {x:α} (h:(a <|> b)=some x):a=some x\/(a=none/\b=some x):=by
 cases a with
 |none=>exact .inr ⟨rfl,h⟩
 |some y=>exact .inl h
theorem Vj0 {i:Nat} (h:i<t.ks.length):t.ks≠[]:=λe=>by rw[e] at h;simp at h
theorem len_of (hs:sortM ds t≠ -1):arity t.op=t.ks.length:=(formed_iff.1 (sort_parts hs).1).1
theorem allFixed_eval (he:envOk ds env=true) (hs:sortM ds t≠ -1) (h:allFixed t=true):evalM ds (zeroE ds) t=evalM ds env t:=by
 have f:=zeroE_ok (env_ok he).1;unfold allFixed at h;simp only[V0,decide_eq_true_eq,gN] at h;have b:t.ks.map (vecM ds (zeroE ds))=t.ks.map (vecM ds env):=Gj λk b=>by
  obtain⟨n,c⟩:=pF.1 (h.2 k b);rw[vecM_pair,vecM_pair,(fixed_good f c).2.1,(fixed_good he c).2.1]
 have a:t.op≠21:=λe=>by
  have:=len_of hs;rw[e] at this;have d:t.ks.length=0:=by simp[arity] at this;omega
  exact h.1 (gE d)
 rw[evalM_eq,evalM_eq,b];unfold valK;rw[if_neg a,if_neg a]
theorem Qe0 (c:declOk ds=true) (hs:sortM ds t≠ -1) (h:ruleX ds t=some u):Step ds t u:=by
 unfold ruleX at h;split at h
 ·rename_i a;obtain rfl:=(gh h).symm;have b:=eval_in (zeroE_ok c) t hs;refine⟨.const _ _ (by unfold allFixed at a;simp only[V0,decide_eq_true_eq] at a;exact a.1) b,const_sort c b,λenv he=>?_⟩;rw[Jt he b,allFixed_eval he hs a]
 ·cases h
theorem ruleB_step (m:declOk ds=true) (hs:sortM ds t≠ -1) (h:ruleB t=some u):Step ds t u:=by
 have n:=(sort_parts hs).1;have f:=len_of hs;unfold ruleB at h;split at h
 ·rename_i c;obtain rfl:=(gh h).symm;have j:t.ks.length=1:=by rw[c.1] at f;simp[arity] at f;omega
  have k0:=good_kid hs (i:=0) (by omega);have k:(kid t 0).ks.length=1:=by have:=len_of k0;rw[c.2] at this;simp[arity] at this;omega
  have q:=good_kid k0 (i:=0) (by omega);refine⟨.deep 0 0 (by omega) (by omega),?_,λenv he=>?_⟩
  ·have g:=sort_one m n j;have s1:=sort_one m (sort_parts k0).1 k;rw[g] at hs⊢;have g0:=(one_good (by omega) hs).1 c.1;rw[s1] at k0;have g1:=(one_good (by omega) k0).1 c.2;unfold oneM;rw[if_pos c.1,if_pos g0,g1]
  ·obtain⟨_,i0,o⟩:=eval_no he hs c.1;obtain⟨_,i1,p⟩:=eval_no he k0 c.2;rw[o,p];omega
 ·split at h
  ·cases h
  ·rename_i a;have a:t.op=23:=(by omega);have l:t.ks.length=3:=by rw[a] at f;simp[arity] at f;omega
   have g:=sort_three (ds:=ds) n l;have b:=hs;rw[g] at b;have gs:sortM ds (kid t 1)=sortM ds (kid t 2):=by
    split at b
    ·exact absurd rfl b
    ·omega
   have st:sortM ds t=sortM ds (kid t 1):=by
    rw[g];split at b
    ·exact absurd rfl b
    ·rw[if_neg (by assumption)]
   split at h
   ·rename_i d;obtain rfl:=(gh h).symm;refine⟨.kid 1 (by omega),st.symm,λenv he=>?_⟩;obtain⟨_,_,e⟩:=eval_if he hs a;rw[e,(fixed_good he (isM_iff.1 d)).2.1,if_pos rfl]
   ·split at h
    ·rename_i d;obtain rfl:=(gh h).symm;refine⟨.kid 2 (by omega),by rw[st,gs],λenv he=>?_⟩;obtain⟨_,_,e⟩:=eval_if he hs a;rw[e,(fixed_good he (isM_iff.1 d)).2.1,if_neg (by decide)]
    ·split at h
     ·rename_i d;obtain rfl:=(gh h).symm;refine⟨.kid 1 (by omega),st.symm,λenv he=>?_⟩;obtain⟨_,_,e⟩:=eval_if he hs a;rw[e,<-d];split<;>rfl
     ·cases h
theorem ruleT_step (o:declOk ds=true) (hs:sortM ds t≠ -1) (h:ruleT t=some u):Step ds t u:=by
 have r:=(sort_parts hs).1;have p:=len_of hs;unfold ruleT at h;split at h
 ·rename_i l;have n:t.ks.length=2:=by rcases l with e|e<;>rw[e] at p<;>simp[arity] at p<;>omega
  have q:=sort_two o r n;have m:=hs;rw[q] at m;obtain⟨g0,g1⟩:=(both_good m).1 l;have st:sortM ds t=0:=by rw[q];unfold bothM;rw[if_pos l,if_pos ⟨g0,g1⟩]
  have k:neutral t.op=1/\t.op=26\/neutral t.op=0/\t.op=27:=by
   unfold neutral;rcases l with e|e
   ·exact .inl ⟨if_pos e,e⟩
   ·exact .inr ⟨if_neg (by omega),e⟩
  have ev:∀env,envOk ds env=true->inS 0 (evalM ds env (kid t 0))/\inS 0 (evalM ds env (kid t 1))/\evalM ds env t=if t.op=26 then evalM ds env (kid t 0)*evalM ds env (kid t 1) else max (evalM ds env (kid t 0)) (evalM ds env (kid t 1)):=λenv he=>by
   obtain⟨_,a,b,c⟩:=eval_two he hs l;exact⟨a,b,c⟩
  split at h
  ·rename_i f;obtain rfl:=(gh h).symm;refine⟨.kid 1 (by omega),by rw[st,g1],λenv he=>?_⟩;obtain⟨i0,i1,e⟩:=ev env he;rw[e];rcases f with f|f
   ·have:=(fixed_good he (isM_iff.1 f)).2.1;rw[this];rcases k with⟨d,g⟩|⟨d,g⟩
    ·rw[d,if_pos g,Int.one_mul]
    ·rw[d,if_neg (by omega)];rcases inS_zero i1 with z|z<;>rw[z]<;>rfl
   ·rw[f];rcases inS_zero i1 with z|z<;>rw[z]<;>split<;>rfl
  ·split at h
   ·rename_i f;obtain rfl:=(gh h).symm;refine⟨.kid 0 (by omega),by rw[st,g0],λenv he=>?_⟩;obtain⟨i0,i1,e⟩:=ev env he;rw[e,(fixed_good he (isM_iff.1 f)).2.1];rcases k with⟨d,g⟩|⟨d,g⟩
    ·rw[d,if_pos g,Int.mul_one]
    ·rw[d,if_neg (by omega)];rcases inS_zero i0 with z|z<;>rw[z]<;>rfl
   ·split at h
    ·rename_i f;obtain rfl:=(gh h).symm;have j:inS 0 (1-neutral t.op):=by
      rcases k with⟨d,_⟩|⟨d,_⟩<;>rw[d]
      ·exact .inl ⟨rfl,.inl rfl⟩
      ·exact .inl ⟨rfl,.inr rfl⟩
     refine⟨.const _ _ (Vj0 (i:=0) (by omega)) j,by rw[st,const_sort o j],λenv he=>?_⟩;obtain⟨i0,i1,e⟩:=ev env he;rw[e,Jt he j];rcases f with f|f<;>rw[(fixed_good he (isM_iff.1 f)).2.1]
     ·rcases k with⟨d,g⟩|⟨d,g⟩
      ·rw[d,if_pos g];simp
      ·rw[d,if_neg (by omega)];rcases inS_zero i1 with z|z<;>rw[z]<;>rfl
     ·rcases k with⟨d,g⟩|⟨d,g⟩
      ·rw[d,if_pos g];simp
      ·rw[d,if_neg (by omega)];rcases inS_zero i0 with z|z<;>rw[z]<;>rfl
    ·cases h
 ·cases h
theorem cut_all {w a:Int} (h:vok w a=true):cutM a (w-1) 0=a:=by
 obtain⟨b,c,e,d⟩:=vok_iff.1 h;unfold cutM;rw[show(w-1-0+1)=w by omega];rcases four b c with rfl|rfl|rfl|rfl<;>simp only[Ue0,Ud0,Uc0,Ub0] at d⊢ <;>simp<;>omega
theorem un_un {o w a:Int} (h:vok w a=true):unM o w (unM o w a)=a:=by
 obtain⟨b,c,e,d⟩:=vok_iff.1 h;unfold unM;rcases four b c with rfl|rfl|rfl|rfl<;>simp only[Ue0,Ud0,Uc0,Ub0] at d⊢ <;>split<;>omega
theorem ruleL_step (r:declOk ds=true) (hs:sortM ds t≠ -1) (h:ruleL ds t=some u):Step ds t u:=by
 have v:=(sort_parts hs).1;have o:=len_of hs;unfold ruleL at h;split at h
 ·rename_i c;split at h
  ·rename_i q;obtain rfl:=(gh h).symm;have d:t.ks.length=1:=by rw[c] at o;simp[arity] at o;omega
   have n:=sort_one r v d;have j:=hs;rw[n] at j;have g:=one_good (by omega) j;have g2:=g.2.1 (by omega);have g3:=g.2.2 c;refine⟨.kid 0 (by omega),?_,λenv he=>?_⟩
   ·rw[n];unfold oneM;rw[if_neg (by omega),if_neg (by omega),if_pos c,if_pos g3];omega
   ·obtain⟨_,p,e⟩:=eval_cut he hs c;rw[e];unfold vecCut;rw[if_pos ⟨p,g3⟩];show _=cutM _ t.a t.b;rw[q.1,q.2,cut_all p]
  ·cases h
 ·split at h
  ·rename_i c;obtain rfl:=(gh h).symm;have d:t.ks.length=1:=by rcases c.1 with e|e<;>rw[e] at o<;>simp[arity] at o<;>omega
   have k0:=good_kid hs (i:=0) (by omega);have f:(kid t 0).op=1\/(kid t 0).op=2:=by rw[c.2];exact c.1
   have l:(kid t 0).ks.length=1:=by have:=len_of k0;rcases f with e|e<;>rw[e] at this<;>simp[arity] at this<;>omega
   have w:=good_kid k0 (i:=0) (by omega);have k:∀{t:Tm},sortM ds t≠ -1->(t.op=1\/t.op=2)->t.ks.length=1->sortM ds t=sortM ds (kid t 0):=λ{t} hs c d=>by
    have n:=sort_one r (sort_parts hs).1 d;have j:=hs;rw[n] at j;have g:=(one_good (by omega) j).2.1 (by omega);rw[n];unfold oneM;rw[if_neg (by omega),if_neg (by omega),if_neg (by omega)]
   refine⟨.deep 0 0 (by omega) (by omega),?_,λenv he=>?_⟩
   ·rw[k hs c.1 d,k k0 f l]
   ·obtain⟨_,p,e⟩:=eval_un he hs c.1;obtain⟨_,m,s⟩:=eval_un he k0 f;rw[e];unfold vecUn;rw[if_pos ⟨p,c.1⟩];show _=unM t.op (sortM ds (kid t 0)) (evalM ds env (kid t 0));rw[s];unfold vecUn;rw[if_pos ⟨m,f⟩];show _=unM t.op (sortM ds (kid t 0)) (unM (kid t 0).op (sortM ds (kid (kid t 0) 0)) (evalM ds env (kid (kid t 0) 0)));rw[c.2,k k0 f l,un_un m]
  ·cases h
def binT (w n:Nat):Prop:=
 (binN 3 w n n=n/\binN 4 w n n=n/\binN 5 w n n=0/\binN 7 w n n=0)/\
 (binN 4 w n 0=n/\binN 5 w n 0=n/\binN 6 w n 0=n/\binN 7 w n 0=n/\binN 11 w n 0=n/\binN 12 w n 0=n/\binN 13 w n 0=n)/\
 (binN 3 w n 0=0/\binN 8 w n 0=0/\binN 8 w n 1=n)/\
 (binN 4 w 0 n=n/\binN 5 w 0 n=n/\binN 6 w 0 n=n/\binN 3 w 0 n=0/\binN 8 w 0 n=0/\binN 8 w 1 n=n)
instance (w n:Nat):Decidable (binT w n):=by unfold binT;infer_instance
theorem bin_tab {w n:Int} (h:vok w n=true):binT w.toNat n.toNat:=small1 (p:=binT) (by decide+kernel) h
theorem bin_parts (i:declOk ds=true) (hs:sortM ds t≠ -1) (h:t.ks.length=2) (d:3<=t.op) (c:t.op<=13):sortM ds (kid t 0)=sortM ds t/\sortM ds (kid t 1)=sortM ds t/\
  ∀env,envOk ds env=true->vok (sortM ds t) (evalM ds env (kid t 0))=true/\vok (sortM ds t) (evalM ds env (kid t 1))=true/\evalM ds env t=binN t.op.toNat (sortM ds t).toNat (evalM ds env (kid t 0)).toNat (evalM ds env (kid t 1)).toNat:=by
 have f:=sort_two i (sort_parts hs).1 h;have b:=hs;rw[f] at b;have g:=(both_good b).2 (by omega);have a:=g.2.2.2 (by omega);have st:sortM ds t=sortM ds (kid t 0):=by
  rw[f];unfold bothM;rw[if_neg (by omega),if_neg (by omega),if_neg (by omega),if_neg (by omega),if_neg (by omega)]
 refine⟨st.symm,by rw[st,a],λenv he=>?_⟩;obtain⟨_,v0,v1,e⟩:=eval_bin he hs d (by omega);refine⟨by rw[st];exact v0,by rw[st,a];exact v1,?_⟩;rw[e];unfold vecBin;rw[if_pos (show vok _ _=true/\vok _ _=true from⟨v0,v1⟩),if_neg (show¬t.op=14 by omega),if_pos (show 3<=t.op/\t.op<=13/\_=_ from⟨d,c,a⟩),st];rfl
theorem nat_of {w n:Int} (h:vok w n=true):((n.toNat:Nat):Int)=n:=by have:=vok_lt h;omega
theorem ruleW_step (j:declOk ds=true) (hs:sortM ds t≠ -1) (h:ruleW ds t=some u):Step ds t u:=by
 have s:=(sort_parts hs).1;unfold ruleW at h;split at h
 ·rename_i m;obtain⟨r,m⟩:=m;split at h
  ·rename_i k;obtain rfl:=(gh h).symm;obtain⟨q,s1,ev⟩:=bin_parts j hs r (by omega) (by omega);refine⟨.kid 0 (by omega),q,λenv he=>?_⟩;obtain⟨v0,v1,e⟩:=ev env he;have tb:=(bin_tab v0).1;rw[e,<-m];rcases k with o|o<;>rw[o]
   ·show _=((binN 3 _ _ _:Nat):Int);rw[tb.1,nat_of v0]
   ·show _=((binN 4 _ _ _:Nat):Int);rw[tb.2.1,nat_of v0]
  ·split at h
   ·rename_i k;obtain rfl:=(gh h).symm;obtain⟨q,s1,ev⟩:=bin_parts j hs r (by omega) (by omega);have c:inS (sortM ds t) 0:=by
     have:=(ev _ (zeroE_ok j)).1;obtain⟨a,b,_,_⟩:=vok_iff.1 this;exact .inr (vok_iff.2 ⟨a,b,Pj _,Int.pow_pos (by decide)⟩)
    refine⟨.const _ _ (Vj0 (i:=0) (by omega)) c,const_sort j c,λenv he=>?_⟩;obtain⟨v0,v1,e⟩:=ev env he;have tb:=(bin_tab v0).1;rw[Jt he c,e,<-m];rcases k with o|o<;>rw[o]
    ·show _=((binN 5 _ _ _:Nat):Int);rw[tb.2.2.1];rfl
    ·show _=((binN 7 _ _ _:Nat):Int);rw[tb.2.2.2];rfl
   ·have cmp:15<=t.op->t.op<=17->sortM ds t=0/\∀env,envOk ds env=true->evalM ds env t=b2i (decide (t.op=15)):=λf l=>by
     have q:=sort_two j s r;have n:=hs;rw[q] at n;have g:=(both_good n).2 (by omega);refine⟨?_,λenv he=>?_⟩
     ·rw[q];unfold bothM;rw[if_neg (by omega),if_neg (by omega),if_neg (by omega),if_neg (by have:=g.2.2.2 (by omega);omega),if_pos f]
     ·obtain⟨_,v0,v1,e⟩:=eval_cmp he hs f l;rw[e];unfold vecCmp;rw[if_pos ⟨v0,v1,g.2.2.2 (by omega),f,l⟩,<-m];unfold cmpM;by_cases d:t.op=15
      ·rw[if_pos d];simp[d]
      ·rw[if_neg d];by_cases p:t.op=16
       ·rw[if_pos p];simp[d]
       ·rw[if_neg p];simp[d]
    split at h
    ·rename_i k;obtain rfl:=(gh h).symm;obtain⟨st,ev⟩:=cmp (by omega) (by omega);have c:inS 0 1:= .inl ⟨rfl,.inr rfl⟩;exact⟨.const _ _ (Vj0 (i:=0) (by omega)) c,by rw[const_sort j c,st],λenv he=>by rw[Jt he c,ev env he,decide_eq_true k];rfl⟩
    ·split at h
     ·rename_i n15 k;obtain rfl:=(gh h).symm;obtain⟨st,ev⟩:=cmp (by omega) (by omega);have c:inS 0 0:= .inl ⟨rfl,.inl rfl⟩;exact⟨.const _ _ (Vj0 (i:=0) (by omega)) c,by rw[const_sort j c,st],λenv he=>by rw[Jt he c,ev env he,decide_eq_false n15];rfl⟩
     ·cases h
 ·cases h
theorem ruleS_step (d:declOk ds=true) (hs:sortM ds t≠ -1) (h:ruleS t=some u):Step ds t u:=by
 unfold ruleS at h;split at h
 ·rename_i c;split at h
  ·rename_i a;obtain rfl:=(gh h).symm;obtain⟨b,s1,ev⟩:=bin_parts d hs c (by omega) (by omega);refine⟨.kid 0 (by omega),b,λenv he=>?_⟩;obtain⟨v0,v1,e⟩:=ev env he;have tb:=(bin_tab v0).2.1;rw[e,(fixed_good he (isM_iff.1 a.1)).2.1];rcases a.2 with o|o|o|o|o|o|o<;>rw[o]
   ·show _=((binN 4 _ _ 0:Nat):Int);rw[tb.1,nat_of v0]
   ·show _=((binN 5 _ _ 0:Nat):Int);rw[tb.2.1,nat_of v0]
   ·show _=((binN 6 _ _ 0:Nat):Int);rw[tb.2.2.1,nat_of v0]
   ·show _=((binN 7 _ _ 0:Nat):Int);rw[tb.2.2.2.1,nat_of v0]
   ·show _=((binN 11 _ _ 0:Nat):Int);rw[tb.2.2.2.2.1,nat_of v0]
   ·show _=((binN 12 _ _ 0:Nat):Int);rw[tb.2.2.2.2.2.1,nat_of v0]
   ·show _=((binN 13 _ _ 0:Nat):Int);rw[tb.2.2.2.2.2.2,nat_of v0]
  ·split at h
   ·rename_i a;obtain rfl:=(gh h).symm;obtain⟨b,s1,ev⟩:=bin_parts d hs c (by omega) (by omega);refine⟨.kid 1 (by omega),s1,λenv he=>?_⟩;obtain⟨v0,v1,e⟩:=ev env he;have tb:=(bin_tab v0).2.2.1;rw[e,(fixed_good he (isM_iff.1 a.1)).2.1];rcases a.2 with o|o<;>rw[o]
    ·show _=((binN 3 _ _ 0:Nat):Int);rw[tb.1];rfl
    ·show _=((binN 8 _ _ 0:Nat):Int);rw[tb.2.1];rfl
   ·split at h
    ·rename_i a;obtain rfl:=(gh h).symm;obtain⟨b,s1,ev⟩:=bin_parts d hs c (by omega) (by omega);refine⟨.kid 0 (by omega),b,λenv he=>?_⟩;obtain⟨v0,v1,e⟩:=ev env he;have tb:=(bin_tab v0).2.2.1;rw[e,(fixed_good he (isM_iff.1 a.1)).2.1,a.2];show _=((binN 8 _ _ 1:Nat):Int);rw[tb.2.2,nat_of v0]
    ·cases h
 ·cases h
theorem ruleF_step (c:declOk ds=true) (hs:sortM ds t≠ -1) (h:ruleF t=some u):Step ds t u:=by
 unfold ruleF at h;split at h
 ·rename_i b;split at h
  ·rename_i a;obtain rfl:=(gh h).symm;obtain⟨d,s1,ev⟩:=bin_parts c hs b (by omega) (by omega);refine⟨.kid 1 (by omega),s1,λenv he=>?_⟩;obtain⟨v0,v1,e⟩:=ev env he;have tb:=(bin_tab v1).2.2.2;rw[e,(fixed_good he (isM_iff.1 a.1)).2.1];rcases a.2 with o|o|o<;>rw[o]
   ·show _=((binN 4 _ 0 _:Nat):Int);rw[tb.1,nat_of v1]
   ·show _=((binN 5 _ 0 _:Nat):Int);rw[tb.2.1,nat_of v1]
   ·show _=((binN 6 _ 0 _:Nat):Int);rw[tb.2.2.1,nat_of v1]
  ·split at h
   ·rename_i a;obtain rfl:=(gh h).symm;obtain⟨d,s1,ev⟩:=bin_parts c hs b (by omega) (by omega);refine⟨.kid 0 (by omega),d,λenv he=>?_⟩;obtain⟨v0,v1,e⟩:=ev env he;have tb:=(bin_tab v1).2.2.2;rw[e,(fixed_good he (isM_iff.1 a.1)).2.1];rcases a.2 with o|o<;>rw[o]
    ·show _=((binN 3 _ 0 _:Nat):Int);rw[tb.2.2.2.1];rfl
    ·show _=((binN 8 _ 0 _:Nat):Int);rw[tb.2.2.2.2.1];rfl
   ·split at h
    ·rename_i a;obtain rfl:=(gh h).symm;obtain⟨d,s1,ev⟩:=bin_parts c hs b (by omega) (by omega);refine⟨.kid 1 (by omega),s1,λenv he=>?_⟩;obtain⟨v0,v1,e⟩:=ev env he;have tb:=(bin_tab v1).2.2.2;rw[e,(fixed_good he (isM_iff.1 a.1)).2.1,a.2];show _=((binN 8 _ 1 _:Nat):Int);rw[tb.2.2.2.2.2,nat_of v1]
    ·cases h
 ·cases h
theorem Jn0 (a:declOk ds=true) (hs:sortM ds t≠ -1) (h:ruleA ds t=some u):Step ds t u:=by
 unfold ruleA at h;rcases yL0 h with h|⟨_,h⟩
 ·exact Qe0 a hs h
 rcases yL0 h with h|⟨_,h⟩
 ·exact ruleB_step a hs h
 rcases yL0 h with h|⟨_,h⟩
 ·exact ruleT_step a hs h
 rcases yL0 h with h|⟨_,h⟩
 ·exact ruleL_step a hs h
 rcases yL0 h with h|⟨_,h⟩
 ·exact ruleW_step a hs h
 rcases yL0 h with h|⟨_,h⟩
 ·exact ruleS_step a hs h
 ·exact ruleF_step a hs h
theorem Jr0 (a:declOk ds=true) (hs:sortM ds t≠ -1):(ruleA ds t=none/\oneT ds t=t)\/Step ds t (oneT ds t):=by
 unfold oneT;cases h:ruleA ds t with
 |none=>exact .inl ⟨rfl,rfl⟩
 |some u=>exact .inr (Jn0 a hs h)
end
end
section
section
variable {ds:List Dcl} {env:List Int} {t u:Tm} {w n:Int}
theorem kid_size {i:Nat} (h:i<t.ks.length):sizeM (kid t i)+1<=sizeM t/\deepM (kid t i)+1<=deepM t:=by
 have a:=szT_all t;have b:=dpT_all t;have c:=szT_mono (ks:=t.ks) (i:=i+1) (j:=t.ks.length) (by omega) (by omega);have d:=dpT_mono (ks:=t.ks) (i:=i+1) (j:=t.ks.length) (by omega) (by omega);have e:=szT_succ h;have f:=dpT_succ h;unfold kid;omega
theorem size_pos:1<=sizeM t/\1<=deepM t:=by rw[sizeM_eq,Wp];omega
theorem const_size:sizeM (constM w n)<=2/\deepM (constM w n)<=2:=by
 have leaf:∀o a b s,sizeM (.mk o a b s [])=1/\deepM (.mk o a b s [])=1:=λo a b s=>by rw[sizeM_eq,Wp];exact⟨rfl,rfl⟩
 have c:sizeM truT=1/\deepM truT=1:=leaf _ _ _ _;have d:sizeM flsT=2/\deepM flsT=2:=by
  rw[sizeM_eq,Wp];show 1+(sizeM truT+0)=2/\1+max 0 (deepM truT)=2;rw[c.1,c.2];exact⟨rfl,rfl⟩
 unfold constM;split
 ·have:=leaf 20 w n nada;omega
 ·split<;>omega
theorem src_size (h:Src t u):sizeM u<=sizeM t/\deepM u<=deepM t:=by
 cases h with
 |kid i h=>have:=kid_size h;omega
 |deep i j h a=>have:=kid_size h;have:=kid_size a;omega
 |const w n h a=>
  have b:0<t.ks.length:=gG.2 h;have:=kid_size (t:=t) (i:=0) b;have:=size_pos (t:=kid t 0);have:=const_size (w:=w) (n:=n);omega
theorem Jq0 (a:declOk ds=true) (hs:sortM ds t≠ -1):sortM ds (oneT ds t)=sortM ds t/\(∀env,envOk ds env=true->evalM ds env (oneT ds t)=evalM ds env t)/\sizeM (oneT ds t)<=sizeM t/\deepM (oneT ds t)<=deepM t:=by
 rcases Jr0 a hs with⟨_,e⟩|h
 ·rw[e];exact⟨rfl,λ_ _=>rfl,gr _,gr _⟩
 ·exact⟨h.sort,h.eval,src_size h.src⟩
def remake (t:Tm) (us:List Tm):Tm:= .mk t.op t.a t.b t.s us
theorem Xi0 {us:List Tm} (b:us.length=t.ks.length) (h:us.map (sortM ds)=t.ks.map (sortM ds)):sortM ds (remake t us)=sortM ds t:=by
 rw[sortM_eq ds (remake t us),sortM_eq ds t];show sortF ds (remake t us) (us.map (sortM ds))=_;rw[h];have a:formed (remake t us)=formed t:=by
  show(decide (arity t.op=(us.length:Int))&&plainM t)=_;rw[b];rfl
 unfold sortF;rw[a];rfl
theorem Xj0 {us:List Tm} (a:us.length=t.ks.length) (h:us.map (vecM ds env)=t.ks.map (vecM ds env)):evalM ds env (remake t us)=evalM ds env t:=by
 rw[evalM_eq,evalM_eq];show valK ds env (remake t us) (us.map (vecM ds env))=_;rw[h];rfl
theorem sum_le {f g:Tm->Nat}:∀{ks:List Tm},(∀k,k∈ks->f k<=g k)->(ks.map f).sum<=(ks.map g).sum
 |[],_=>gr _
 |k::r,h=>by
  have b:=h k gg;have c:=sum_le (ks:=r) λx a=>h x (gj _ a);simp only[gS,PX];omega
theorem max_le {f g:Tm->Nat}:∀{ks:List Tm} {a b:Nat},a<=b->(∀k,k∈ks->f k<=g k)->(ks.map f).foldl max a<=(ks.map g).foldl max b
 |[],a,b,c,_=>c
 |k::r,a,b,c,h=>by
  have e:=h k gg;simp only[gS,P7];exact max_le (ks:=r) (by omega) λx d=>h x (gj _ d)
structure Good (ds:List Dcl) (t u:Tm):Prop where
 sort:sortM ds u=sortM ds t
 eval:∀env,envOk ds env=true->evalM ds env u=evalM ds env t
 size:sizeM u<=sizeM t
 deep:deepM u<=deepM t
theorem remake_good {f:Tm->Tm} (h:∀k,k∈t.ks->Good ds k (f k)):Good ds t (remake t (t.ks.map f)):=by
 have d:(t.ks.map f).length=t.ks.length:=X0 _;refine⟨Xi0 d ?_,λenv he=>Xj0 d ?_,?_,?_⟩
 ·rw[GM];exact Gj λk c=>(h k c).sort
 ·rw[GM];exact Gj λk c=>by show vecM ds env (f k)=_;rw[vecM_pair,vecM_pair,(h k c).sort,(h k c).eval env he]
 ·rw[sizeM_eq,sizeM_eq t];show 1+((t.ks.map f).map sizeM).sum<=_;rw[GM];have:=sum_le (f:=sizeM∘f) (g:=sizeM) (ks:=t.ks) λk c=>(h k c).size;omega
 ·rw[Wp,Wp t];show 1+((t.ks.map f).map deepM).foldl max 0<=_;rw[GM];have:=max_le (f:=deepM∘f) (g:=deepM) (ks:=t.ks) (a:=0) (b:=0) (gr _) λk c=>(h k c).deep;omega
theorem foldT_rem (ds:List Dcl) (t:Tm):foldT ds t=oneT ds (remake t (t.ks.map (foldT ds))):=Vp0 ds t
theorem fold_good (d:declOk ds=true):∀t,sortM ds t≠ -1->Good ds t (foldT ds t):=by
 refine Tm.ind λt f hs=>?_;have e:=(sort_parts hs).2.1;have b:Good ds t (remake t (t.ks.map (foldT ds))):=remake_good λk a=>f k a (e k a);have c:=Jq0 d (t:=remake t (t.ks.map (foldT ds))) (by rw[b.sort];exact hs);rw[foldT_rem];exact⟨c.1.trans b.sort,λenv he=>(c.2.1 env he).trans (b.eval env he),Ga c.2.2.1 b.size,Ga c.2.2.2 b.deep⟩
theorem kids_good (a:declOk ds=true) (hs:sortM ds t≠ -1):Good ds t (remake t (t.ks.map (foldT ds))):=remake_good λk b=>fold_good a k ((sort_parts hs).2.1 k b)
end
end
section
theorem app_getD {α:Type} {l r:List α} {i:Nat} {e:α} (h:i<l.length):(l++r).getD i e=l.getD i e:=by
 rw[k6,gA h,<-k6]
end
end Go.M
namespace Go.Proofs.YtokflbdfnbppjaaGreatDoor
open Go Go.Vc Go.Proofs
section
variable {w:World} {K:Value->World->Prop} {F F' D G:Nat->Prop}
@[push_cast] theorem bd_TZ:zE P za [] w K=K (.agg ⟨yH0⟩) w:=yo Zr (us:=[]) rfl rfl
theorem tms_op {kv:Value} {ks:List M.Tm} (h:TmsR F w kv ks) {i:Nat} (a:i<ks.length):zf P ze (.pointer (some ((eaddr kv 5 i).add 0))) w K=K (.int .i64 (ks.getD i default).op) w:=by
 obtain⟨css,hs,d,b⟩:=h;obtain⟨c,e,_⟩:=(b i a).inv;exact hs.ldField Ui0 (by omega) (by rw[e];rfl)
theorem tms_kids {kv:Value} {ks:List M.Tm} (h:TmsR F w kv ks) {i:Nat} (d:i<ks.length) (c:∀a,TmsR F w a (ks.getD i default).ks->K a w):zf P zb (.pointer (some ((eaddr kv 5 i).add 4))) w K:=by
 obtain⟨css,hs,g,f⟩:=h;obtain⟨a,e,b⟩:=(f i d).inv;rw[hs.ldField yI (by omega) (by rw[e];rfl)];exact c a b
theorem TermSame_spec:∀(t:M.Tm) {w:World} {K:Value->World->Prop} {F G:Nat->Prop} {va vb:Value} {u:M.Tm},TermR F w va t->TermR G w vb u->(∀w',Ext w w'->K (.bool (decide (t=u))) w')->vcall P xw #[va,vb] w K:=by
 refine M.Tm.ind λt ih w K F G va vb u ha hb T=>?_;apply jo0;obtain⟨kva,rfl,p⟩:=ha;obtain⟨kvb,rfl,D⟩:=hb;refine zx λb1 w1 a0 N a4 J=>?_;refine zx λb2 w2 a1 s a5 k=>?_;have I:=J.ext s;have f:=N.trans s;have no:∀w',Ext w w'->t≠u->K (.bool false) w':=λw' h hn=>by
  have:=T w' h;rwa[decide_eq_false hn] at this
 simp(disch:=(simp only[push_cast])) only[push_cast,I.ld0,k.ld0,I.ld1,k.ld1,I.ld2,k.ld2,I.ld3,k.ld3,I.ld4,k.ld4];refine zh (λV=>?_) (λe=>no _ f λh=>e (by rw[h]));refine zh (λW=>?_) (λe=>no _ f λh=>e (by rw[h]));refine zh (λX=>?_) (λe=>no _ f λh=>e (by rw[h]));refine zh (λY=>?_) (λe=>no _ f λh=>e (by rw[h]));apply yT;have B:=p.ext f;have E:=D.ext f;have a8:=p.small;simp(disch:=(simp only[push_cast])) only[push_cast,B.len,E.len];refine zh (λe=>no _ f λh=>e (by rw[h])) (λel=>?_);have el:t.ks.length=u.ks.length:=by omega
 refine vloop_up t.ks.length (λi x w'=>x=[.int .i64 i]/\Ext w w'/\∀j,j<i->t.ks.getD j default=u.ks.getD j default) ⟨rfl,f,λj U=>absurd U (by omega)⟩ ?_;rintro i _ _ R C hi ⟨rfl,c,g⟩ hC;have l:=p.ext c;have L:=D.ext c;simp(disch:=first|(simp only[push_cast])|omega) only[push_cast,l.len];refine zh (λa=>?_) (λa=>?_)
 ·simp(disch:=first|(simp only[push_cast])|omega) only[push_cast,l.iaddr];refine l.load zp (by omega) λx hx=>?_;obtain⟨cx,rfl,m⟩:=hx.cells;refine zD zH λb4 w4 a2 v a6 Z=>?_;refine stTerm Z rfl ((m.weaken (F':=λb=>b<R.heap.size) λb _ h=>h).ext v) λS O a9 h5=>?_;have o:Ext R S:=Ext.then v O λy H=>by subst H;omega
  have r:=L.ext o;simp(disch:=first|(simp only[push_cast])|omega) only[push_cast,r.iaddr];refine r.load zp (by omega) λy H=>?_;obtain⟨cy,rfl,n⟩:=H.cells;refine zD zH λb6 w6 a3 z a7 h6=>?_;refine stTerm h6 rfl ((n.weaken (F':=λb=>b<S.heap.size) λb _ h=>h).ext z) λw7 Q aa h7=>?_;have d:Ext S w7:=Ext.then z Q λy H=>by subst H;omega
  rw[(h5.ext d).ldAgg (t:=za) (by rw[yq m];exact zp),h7.ldAgg (t:=za) (by rw[yq n];exact zp)];simp only[push_cast,gz,gX];have q:=c.trans (o.trans d);refine ih _ (M.getD_mem (by omega) _) (m.ext (o.trans d)).term (n.ext d).term λw8 A=>?_;simp only[push_cast];refine zK (λb=>?_) (λb=>?_)
  ·rw[gY,decide_eq_false_iff_not] at b;exact no _ (q.trans A) λh=>b (by rw[h])
  ·rw[Gz,decide_eq_true_eq] at b;rw[inc64' (by omega)];refine hC (by omega) _ _ ⟨rfl,q.trans A,λj U=>?_⟩;by_cases e:j<i
   ·exact g j e
   ·have:j=i:=(by omega);subst this;exact b
 ·have:t=u:=M.tm_ext V W X Y (Gh el λj J k=>by
   have:=g j (by omega);rwa[k6,K3 J,k6,K3 k] at this)
  have:=T R c;rwa[decide_eq_true ‹t=u›] at this
theorem falseTerm_spec (i:∀w' v,Ext w w'->TermR (λb=>w.heap.size<=b) w' v M.flsT->K v w'):vcall P Z4 #[] w K:=by
 apply q90;refine zD zH λb1 w1 k d m g=>?_;simp only[push_cast];refine Xq0 (Yt0 (o:=24) (F:=λ_=>False)) λw2 a c n u=>?_;simp only[push_cast];have l:TmR (λb=>b≠b1/\w.heap.size<=b) w2 _ M.flsT:=(TmR.of (t:=M.flsT) u).weaken λz r _=>by
  rcases r with h|h
  ·exact h.elim
  ·exact⟨by omega,by omega⟩
 refine ZB (g.ext c) rfl l (λx p=>p.1) λA f s e=>?_;exact i _ _ (Ext.then (d.trans c) f λy q=>by subst q;omega) (e.weaken λb j _=>j.2)
theorem constant_spec {s n:Int} (f:∀w' v,Ext w w'->TermR (λb=>w.heap.size<=b) w' v (M.constM s n)->K v w'):vcall P xW #[.int .i64 s,.int .i64 n] w K:=by
 apply jj0;refine zD zH λb1 w1 q e r l=>?_;unfold M.constM at f;simp only[push_cast];refine zh (λa=>?_) (λa=>?_)
 ·rw[if_pos a] at f;refine ZB l rfl (UP 20 s n _:TmR (λ_=>False) w1 _ _) (λx k=>k.elim) λp d i c=>?_;exact f _ _ (Ext.then e d λy h=>by subst h;omega) (c.weaken λb j _=>j.elim)
 ·rw[if_neg a] at f;refine zh (λb=>?_) (λb=>?_)
  ·rw[if_pos b] at f;refine ZB l rfl (UP 24 0 0 _:TmR (λ_=>False) w1 _ _) (λx k=>k.elim) λp d i c=>?_;exact f _ _ (Ext.then e d λy h=>by subst h;omega) (c.weaken λb j _=>j.elim)
  ·rw[if_neg b] at f;refine falseTerm_spec λw2 v g o=>?_;obtain⟨cs,rfl,m⟩:=o.cells;refine ZB (l.ext g) rfl m (λx k=>by omega) λp d i c=>?_;exact f _ _ (Ext.then (e.trans g) d λy h=>by subst h;omega) (c.weaken λb j _=>by have:=e.size;omega)
theorem JS0 {t:M.Tm} (h:t.op=20):M.fixedM t=if t.ks=[]/\t.s=M.nada/\M.vok t.a t.b=true then some t.b else none:=by
 unfold M.fixedM;rw[if_neg (λe=>by rw[e] at h;exact absurd h (by decide)),if_neg (λe=>by rw[e] at h;exact absurd h (by decide))];by_cases c:t.ks=[]/\t.s=M.nada/\M.vok t.a t.b=true
 ·rw[if_pos c,if_pos ⟨h,c⟩]
 ·rw[if_neg c,if_neg (λx=>c x.2)]
theorem nil_len {ks:List M.Tm}:((ks.length:Int)=0)↔ks=[]:=by
 rw[<-PZ];omega
theorem U9 {v:Value} {t:M.Tm} (O:TermR F w v t) (R:∀w',Ext w w'->K (.tuple #[.int .i64 ((M.fixedM t).getD 0),.bool (M.fixedM t).isSome]) w'):vcall P Z6 #[v] w K:=by
 apply qc0;have A:=O;obtain⟨kv,rfl,H⟩:=O;refine zx λb1 w1 S q T m=>?_;have out:∀w' o,Ext w w'->M.fixedM t=o->K (.tuple #[.int .i64 (o.getD 0),.bool o.isSome]) w':=λw' o h e=>by rw[<-e];exact R w' h
 have U:(M.truT).s=M.nada/\(M.flsT).s=M.nada:=⟨rfl,rfl⟩;simp(disch:=(simp only[push_cast])) only[push_cast,m.ld3];refine zh (λa=>?_) (λa=>?_)
 ·refine out w1 none q ?_;have I:t.s≠M.nada:=a;unfold M.fixedM;rw[if_neg (λe=>I (by rw[e];rfl)),if_neg (λe=>I (by rw[e];rfl)),if_neg (λe=>I e.2.2.1)]
 have hs:t.s=M.nada:=by
  by_cases h:t.s=M.nada
  ·exact h
  ·exact absurd h a
 refine zS (λu w'=> ∃b:Bool,u=[.bool b]/\Ext w1 w'/\(b=true↔t.op=20/\t.ks=[]/\M.vok t.a t.b=true)) (λC D=>?_) ?_
 ·simp(disch:=(simp only[push_cast])) only[push_cast,m.ld0];refine zh (λc=>?_) (λc=>?_)
  ·simp(disch:=(simp only[push_cast])) only[push_cast,m.ld4,H.len];refine zh (λd=>?_) (λd=>?_)
   ·try simp(disch:=(simp only[push_cast])) only[push_cast,m.ld1,m.ld2]
    refine VecOk_spec λw2 i=>?_;exact D _ _ ⟨_,rfl,i,⟨λh=>⟨c,nil_len.1 d,h⟩,λh=>h.2.2⟩⟩
   ·exact D _ _ ⟨false,rfl,Same.refl _ _,⟨λh=>(by cases h),λh=>absurd (nil_len.2 h.2.1) d⟩⟩
  ·exact D _ _ ⟨false,rfl,Same.refl _ _,⟨λh=>(by cases h),λh=>absurd h.1 c⟩⟩
 rintro u g w2 ⟨b,rfl,i,N⟩;have J:=m.ext i;have j:=q.trans i;simp only[push_cast];refine zK (λc=>?_) (λc=>?_)
 ·obtain⟨c1,c2,c3⟩:=N.1 c;simp(disch:=(simp only[push_cast])) only[push_cast,J.ld2];refine out w2 (some t.b) j ?_;rw[JS0 c1,if_pos ⟨c2,hs,c3⟩]
 have z: ¬(t.op=20/\t.ks=[]/\t.s=M.nada/\M.vok t.a t.b=true):=λh=>by
  have:=N.2 ⟨h.1,h.2.1,h.2.2.2⟩;rw[c] at this;cases this
 rw[J.ldAgg (t:=za) zp]
 try simp only[push_cast]
 refine TermSame_spec t (A.ext j) (Yt0 (o:=24) (F:=λ_=>False)) λW r=>?_;have n:=j.trans r;refine zh (λd=>?_) (λd=>?_)
 ·exact out W (some 1) n (if_pos d)
 have B: ¬t=M.truT:=d;refine zr λX y _=>?_;have k:=n.trans y;have L:=J.ext (r.trans y);simp(disch:=(simp only[push_cast])) only[push_cast,L.ld0,true_and];refine zh (λe=>?_) (λe=>?_)
 ·simp(disch:=(simp only[push_cast])) only[push_cast,L.ldAgg (t:=za) zp,true_and];refine falseTerm_spec λY fv l G=>?_;have V:=L.ext l;simp(disch:=(simp only[push_cast])) only[push_cast,V.ldAgg (t:=za) zp,true_and,and_self];refine TermSame_spec t (A.ext (k.trans l)) G λQ E=>?_;have p:=k.trans (l.trans E);refine zh (λf=>?_) (λf=>?_)
  ·refine out Q (some 0) p ?_;unfold M.fixedM;rw[if_neg B,if_pos f]
  ·refine out Q none p ?_;unfold M.fixedM;rw[if_neg B,if_neg f,if_neg z]
 ·refine out X none k ?_;unfold M.fixedM;rw[if_neg B,if_neg (λx=>e (by rw[x];rfl)),if_neg z]
theorem X5 {v:Value} {t:M.Tm} {n:Int} (i:TermR F w v t) (f:∀w',Ext w w'->K (.bool (M.isM t n)) w'):vcall P j3 #[v,.int .i64 n] w K:=by
 apply Kb0;obtain⟨cs,rfl,a⟩:=i.cells;refine zx λb1 w1 g b h d=>?_;rw[d.ldAgg (t:=za) (by rw[yq a];exact zp)];refine U9 (a.ext b).term λw2 c=>?_;have:=f w2 (b.trans c);unfold M.isM at this;simp only[push_cast];cases e:M.fixedM t with
 |none=>rw[e] at this;exact this
 |some m=>
  rw[e] at this;simp only[gV] at this;exact this
theorem among_spec {v av:Value} {t:M.Tm} {xs:List Int} (z:TermR F w v t) (n:Ints G w av xs) (y:xs.length<=100) (m:∀w',Ext w w'->K (.bool (decide (t.op∈xs))) w'):vcall P kj #[v,av] w K:=by
 apply YV0;obtain⟨kv,rfl,s⟩:=z;refine zx λb1 w1 r f x p=>?_;simp(disch:=(simp only[push_cast])) only[push_cast,p.ld0];apply Ql;apply Kp;have l:=n.ext f;simp(disch:=(simp only[push_cast])) only[push_cast,l.len];refine vloop_up xs.length (λi u w'=>u=[.int .i64 i]/\Ext w w'/\∀j,j<i->t.op≠xs.getD j 0) ⟨rfl,f,λj k=>absurd k (by omega)⟩ ?_;rintro i _ _ o C A ⟨rfl,c,d⟩ q;have g:=n.ext c;simp only[push_cast];refine zh (λa=>?_) (λa=>?_)
 ·simp(disch:=first|(simp only[push_cast])|omega) only[push_cast,g.iaddr,g.load];refine zh (λb=>?_) (λb=>?_)
  ·have hm:t.op∈xs:=by rw[b];exact M.getD_mem (by omega) _
   have:=m o c;rw[decide_eq_true hm] at this
   try simp only[push_cast]
   rw[decide_eq_true (by omega)];exact this
  ·rw[inc64' (by omega)];refine q (by omega) _ _ ⟨rfl,c,λj k=>?_⟩;by_cases e:j<i
   ·exact d j e
   ·have:j=i:=(by omega);subst this;exact b
 ·have hm: ¬t.op∈xs:=λh=>by
   obtain⟨j,k,e⟩:=gq h;have:=d j (by omega);rw[k6,K3 k] at this;exact this e.symm
  have:=m o c;rw[decide_eq_false hm] at this;exact this
theorem chosen_spec {v:Value} {t:M.Tm} {b:Bool} (u:TermR F w v t) (k:∀w' v',Ext w w'->TermR F w' v' t->K (.tuple #[v',.bool b]) w'):vcall P xX #[.bool b,v] w K:=by
 apply Y50;obtain⟨cs,rfl,a⟩:=u.cells;refine zx λb1 w1 m c q i=>?_;refine zD zH λb2 w2 n d s j=>?_;rw[(i.ext d).ldAgg (t:=za) (by rw[yq a];exact zp)];have g:=c.trans d;have o:TmR (λb=>F b/\b<w.heap.size) w2 cs t:=(a.weaken (F':=λb=>F b/\b<w.heap.size) λb h p=>⟨h,p⟩).ext g;have A:=c.size;refine ZB (K:=λr w=>K (.tuple #[r,.bool b]) w) j rfl o (λx C=>by omega) λD f B e=>?_;exact k _ _ (Ext.then g f λy z=>by subst z;omega) (e.weaken λb l _=>l.1)
end
end Go.Proofs.YtokflbdfnbppjaaGreatDoor
section
namespace Go.M
def U50 (n:Nat) (p:Nat->Bool):Bool:=(List.range n).all p
theorem allI_iff {n:Nat} {p:Nat->Bool}:U50 n p=true↔ ∀k,k<n->p k=true:=by
 unfold U50;rw[gN];simp only[gy]
def yR0 (m l:Int):Bool:=decide (l≠0/\ -m<=l/\l<=m)
def qp (m:Int) (xs:List Int):Bool:=U50 xs.length λk=>yR0 m (xs.getD k 0)&&(k==0||decide ((xs.getD (k-1) 0).natAbs<(xs.getD k 0).natAbs))
structure Cnf where
 many:Int
 list:List (List Int)
structure Sat where
 put:List Int
 why:List Int
 learned:List (List Int)
 code:Int
def cnfOk (c:Cnf):Bool:=decide (0<=c.many)&&decide (c.many<=700)&&decide (c.list.length<=2500)&&U50 c.list.length λk=>qp c.many (c.list.getD k [])
def placeOf (put:List Int) (v:Nat):Nat:=match(List.range put.length).find? (λi=>(put.getD i 0).natAbs==v) with|some i=>i+1 |none=>0
theorem find_range_some {n i:Nat} {p:Nat->Bool} (d:i<n) (c:p i=true) (b:∀j,j<i->p j=false):(List.range n).find? p=some i:=by
 rw[Px];refine⟨c,List.range i,(List.range' (i+1) (n-(i+1))),?_,λj a=>by simp[b j (gy.1 a)]⟩;rw[pB,pB,show n=i+(n-(i+1)+1) from by omega,<-List.range'_append_1,List.range'_succ];simp;omega
theorem xx0 {put:List Int} {v:Nat} (h:∀l,l∈put->l.natAbs≠v):placeOf put v=0:=by
 unfold placeOf;have:(List.range put.length).find? (λi=>(put.getD i 0).natAbs==v)=none:=by
  rw[GY];intro j b;have a:=gy.1 b;have:put.getD j 0∈put:=by rw[k6,K3 a];exact Gm a
  have:=h _ this;simpa using this
 rw[this]
theorem jU {put:List Int} {v:Nat} (h:placeOf put v≠0):placeOf put v<=put.length/\(put.getD (placeOf put v-1) 0).natAbs=v:=by
 unfold placeOf at*;cases a:(List.range put.length).find? (λi=>(put.getD i 0).natAbs==v) with
 |none=>rw[a] at h;exact absurd rfl h
 |some i=>
  have b:=P6 a;have c:=gy.1 (pZ a);simp only[GN];exact⟨c,by simpa using b⟩
def ja (put:List Int):Prop:=(put.map Int.natAbs).Nodup
theorem qU {put:List Int} {i:Nat} (a:i<put.length):put.getD i 0∈put:=by
 rw[k6,K3 a];exact Gm a
theorem placeOf_at {put:List Int} (d:ja put) {i:Nat} (c:i<put.length):placeOf put (put.getD i 0).natAbs=i+1:=by
 unfold placeOf;rw[find_range_some c (by simp) ?_];intro j e;have a:(put.map Int.natAbs)[j]'(by simp;omega)≠(put.map Int.natAbs)[i]'(by simp;omega):=Gu.1 d j i _ _ e;have b:j<put.length:=by omega
 simp only[pf] at a;simp[k6,c,b,a]
theorem placeOf_snoc {put:List Int} {l:Int} (h:∀x,x∈put->x.natAbs≠l.natAbs) (v:Nat):placeOf (put++[l]) v=if v=l.natAbs then put.length+1 else placeOf put v:=by
 by_cases f:v=l.natAbs
 ·rw[if_pos f];unfold placeOf;rw[find_range_some (i:=put.length) (by simp) (by simp[f]) ?_];intro j g;have:=h _ (qU g);simp only[k6,gA g] at this⊢;simp[f,this]
 ·rw[if_neg f];by_cases b:placeOf put v=0
  ·rw[b];refine xx0 λx m=>?_;rw[gk,gn] at m;rcases m with m|rfl
   ·intro e;obtain⟨i,c,rfl⟩:=gq m;unfold placeOf at b;cases a:(List.range put.length).find? (λi=>(put.getD i 0).natAbs==v) with
    |none=>
     rw[GY] at a;have:=a i (gy.2 c);simp[k6,c,e] at this
    |some k=>rw[a] at b;cases b
   ·exact λe=>f e.symm
  ·unfold placeOf at b⊢;cases a:(List.range put.length).find? (λi=>(put.getD i 0).natAbs==v) with
   |none=>rw[a] at b;exact absurd rfl b
   |some k=>
    rw[Pu] at a;obtain⟨p,i,c,d,o⟩:=a;simp only[GI] at d;subst d;simp only[Gy] at c;rw[find_range_some (i:=i) (by simp;omega) ?_ ?_]
    ·simpa[k6,gA c] using p
    ·intro j g;have:=o j g;simp only[GI] at this;have n:j<put.length:=(by omega);simpa[k6,gA n] using this
end Go.M
namespace Go.M
def lookM (put:List Int):List Int->Nat->Int->Bool×Nat×Int
 |[],n,x=>(false,n,x)
 |l::r,n,x=>if l∈put then(true,0,0) else if placeOf put l.natAbs=0 then lookM put r (n+1) l else lookM put r n x
theorem JH0 (put:List Int) (n:Nat) (x:Int):lookM put [] n x=(false,n,x):=rfl
theorem kJ0 (put:List Int) (l:Int) (r:List Int) (n:Nat) (x:Int):lookM put (l::r) n x=if l∈put then(true,0,0) else if placeOf put l.natAbs=0 then lookM put r (n+1) l else lookM put r n x:=rfl
def findM (put:List Int):List (List Int)->Int->Int->Int->Int×Int×Int
 |[],_,u,x=>(-1,u,x)
 |c::r,k,u,x=>
  match lookM put c 0 0 with
  |(true,_,_)=>findM put r (k+1) u x
  |(false,0,_)=>(k,u,x)
  |(false,1,l)=>if u<0 then findM put r (k+1) k l else findM put r (k+1) u x
  |(false,_,_)=>findM put r (k+1) u x
theorem findM_cons (put:List Int) (c:List Int) (r:List (List Int)) (k u x:Int):findM put (c::r) k u x=
  if(lookM put c 0 0).1=true then findM put r (k+1) u x else if(lookM put c 0 0).2.1=0 then(k,u,x) else
  if(lookM put c 0 0).2.1=1 then(if u<0 then findM put r (k+1) k (lookM put c 0 0).2.2 else findM put r (k+1) u x) else findM put r (k+1) u x:=by
 rw[findM];generalize lookM put c 0 0=z;obtain⟨b,n,l⟩:=z;cases b with
 |true=>simp
 |false=>
  match n with
  |0=>simp
  |1=>simp
  |n+2=>simp
def jT (many:Nat) (put:List Int):List Int:=(List.range (many+1)).map λv=>(placeOf put v:Int)
theorem Jk (many:Nat) (put:List Int):(jT many put).length=many+1:=by simp[jT]
theorem places_get {many:Nat} {put:List Int} {v:Nat} (h:v<=many):(jT many put).getD v 0=placeOf put v:=by
 simp[jT,k6,show v<many+1 by omega]
theorem placeOf_le (put:List Int) (v:Nat):placeOf put v<=put.length:=by
 by_cases h:placeOf put v=0
 ·omega
 ·exact(jU h).1
theorem qr {put:List Int} {l:Int} (h:l∈put):placeOf put l.natAbs≠0:=by
 obtain⟨i,b,rfl⟩:=gq h;intro e;unfold placeOf at e;cases a:(List.range put.length).find? (λj=>(put.getD j 0).natAbs==(put[i]).natAbs) with
 |none=>
  rw[GY] at a;have:=a i (gy.2 b);simp[k6,b] at this
 |some k=>rw[a] at e;cases e
theorem mem_iff_place {put:List Int} (d:ja put) {l:Int}:l∈put↔placeOf put l.natAbs≠0/\put.getD (placeOf put l.natAbs-1) 0=l:=by
 constructor
 ·intro h;refine⟨qr h,?_⟩;obtain⟨i,a,rfl⟩:=gq h;have:=placeOf_at d a;simp only[k6,K3 a,Gw] at this⊢;rw[this];simp[a]
 ·rintro⟨b,c⟩;rw[<-c];have:=(jU b).1;exact qU (by omega)
theorem zG0 {α:Type} {d:α} {xs:List α} {i:Nat} (h:i<xs.length):xs.drop i=xs.getD i d::xs.drop (i+1):=by
 rw[GS h];simp[k6,h]
theorem Jo {α:Type} {a b:List α} {d:α} {k:Nat} (h:k<a.length):(a++b).getD k d=a.getD k d:=by
 simp[k6,gA h]
theorem Qo0 {α:Type} {a b:List α} {d:α} {j:Nat}:(a++b).getD (a.length+j) d=b.getD j d:=by
 simp[k6,gW]
theorem Xn0 (v:Nat):placeOf [] v=0:=rfl
theorem Qj0 (many:Nat):jT many []=List.replicate (many+1) 0:=by
 refine Gh (by simp[jT]) λi a b=>?_;simp[jT,Xn0]
theorem qw0 {many:Nat} {put:List Int} {l:Int} (h:placeOf put l.natAbs=0):jT many (put++[l])=(jT many put).set l.natAbs (put.length+1:Nat):=by
 refine Gh (by simp[jT]) λi c f=>?_;simp only[jT,X0,Gy] at c;rw[pY];simp only[jT,pf,GI];have b:∀x,x∈put->x.natAbs≠l.natAbs:=λx d e=>qr d (by rw[e];exact h);rw[placeOf_snoc b];by_cases a:i=l.natAbs
 ·rw[if_pos a,if_pos a.symm]
 ·rw[if_neg a,if_neg (λe=>a e.symm)]
theorem distinct_snoc {put:List Int} {l:Int} (f:ja put) (h:placeOf put l.natAbs=0):ja (put++[l]):=by
 unfold ja;rw[gx,Gx];refine⟨f,by simp,?_⟩;intro a d b c e;obtain⟨x,g,rfl⟩:=gm.1 d;simp only[gS,Pl,gn] at c;exact qr g (by rw[e,c];exact h)
theorem Ko {put:List Int} (a:ja put) (n:Nat):ja (put.take n):=by
 unfold ja at*;rw[Gp];exact a.sublist (PT _ _)
theorem Za0 {many:Nat} {put:List Int} {l:Int} (a:ja (put++[l])):(jT many (put++[l])).set l.natAbs 0=jT many put:=by
 have h:placeOf put l.natAbs=0:=by
  refine xx0 λx c e=>?_;unfold ja at a;rw[gx,Gx] at a;exact a.2.2 _ (Gc c) _ (by simp) e
 rw[qw0 h,List.set_set];refine Gh (by simp[jT]) λi d f=>?_;rw[pY];by_cases b:l.natAbs=i
 ·rw[if_pos b];simp only[jT,pf,GI,<-b,h];rfl
 ·rw[if_neg b]
theorem Qv {m:Int} {xs:List Int} (h:qp m xs=true) {x:Int} (c:x∈xs):x≠0/\ -m<=x/\x<=m:=by
 obtain⟨k,b,rfl⟩:=gq c;have:=allI_iff.1 h k b;rw[V0] at this;have a:=this.1;simp only[yR0,decide_eq_true_eq,k6,K3 b,Gw] at a;exact a
theorem clauseOk_up {m:Int} {xs:List Int} (h:qp m xs=true):∀k,k<xs.length->k+1<=(xs.getD k 0).natAbs
 |0,a=>by have:=(Qv h (qU a)).1;omega
 |k+1,a=>by
  have c:=clauseOk_up h k (by omega);have:=allI_iff.1 h (k+1) a;rw[V0] at this;have b:=this.2;simp only[GN,gP,beq_iff_eq,decide_eq_true_eq] at b;omega
theorem clauseOk_len {m:Nat} {xs:List Int} (h:qp m xs=true):xs.length<=m:=by
 cases c:xs.length with
 |zero=>omega
 |succ n=>
  have a:=clauseOk_up h n (by omega);have b:=Qv h (qU (show n<xs.length by omega));omega
def lvl (ds:List Bool) (i:Nat):Nat:=(ds.take (i+1)).count true
def kL (ds:List Bool):List Int:=(List.range ds.length).map λi=>(lvl ds i:Int)
theorem Wm (ds:List Bool):(kL ds).length=ds.length:=by simp[kL]
theorem yS0 {ds:List Bool} {i:Nat} (h:i<ds.length):(kL ds).getD i 0=lvl ds i:=by simp[kL,k6,h]
theorem lvl_le (ds:List Bool) (i:Nat):lvl ds i<=ds.length:=Ga (List.count_le_length) (by simp;omega)
theorem JE0 {ds:List Bool} {i:Nat} (h:ds.length<=i+1):lvl ds i=ds.count true:=by unfold lvl;rw[gM h]
theorem levels_snoc (ds:List Bool) (d:Bool):kL (ds++[d])=kL ds++[((ds.count true+d.toNat:Nat):Int)]:=by
 refine Gh (by simp[kL]) λi b c=>?_;simp only[kL,X0,Gy,Q1,gD] at b;by_cases a:i<ds.length
 ·rw[pG (by simpa[kL] using a)];simp only[kL,pf,GI,lvl];rw[GH (by omega)]
 ·rw[Pa (by simpa[kL] using a)];simp only[kL,pf,GI,List.getElem_singleton];rw[JE0 (by simp;omega),List.count_append];cases d<;>simp
theorem levels_take (ds:List Bool) (n:Nat):(kL ds).take n=kL (ds.take n):=by
 refine Gh (by simp[kL]) λi a b=>?_;simp only[kL,X0,Gy,gi] at a b;rw[Pm];simp only[kL,pf,GI,lvl];rw[GC,gJ (by omega)]
def qV (why:List Int):List Bool:=why.map λy=>decide (y= -1)
theorem zH0 (why:List Int):(qV why).length=why.length:=by simp[qV]
theorem K70 (why:List Int) (y:Int):qV (why++[y])=qV why++[decide (y= -1)]:=by simp[qV]
theorem YH0 (why:List Int) (n:Nat):(qV why).take n=qV (why.take n):=by simp[qV]
def backN (ds:List Bool) (L:Int):Nat->Nat
 |0=>0
 |n+1=>if L<lvl ds n then backN ds L n else n+1
theorem lvl_take {ds:List Bool} {i n:Nat} (h:i<n):lvl (ds.take n) i=lvl ds i:=by unfold lvl;rw[GC,gJ (by omega)]
def lvM (put:List Int) (ds:List Bool) (k:Int):Nat:=lvl ds (placeOf put k.natAbs-1)
structure TopOf (put:List Int) (ds:List Bool) (ks:List Int) (top:Nat) (xs:List Int):Prop where
 le:∀k,k∈ks->lvM put ds k<=top
 mem:∀k,k∈xs↔k∈ks/\lvM put ds k=top
 ne:top=0\/xs≠[]
 nd:xs.Nodup
def atM (c:Cnf) (s:Sat) (k:Nat):List Int:=(c.list++s.learned).getD k []
def marksOk (many:Nat) (put:List Int):Prop:=ja put/\∀x,x∈put->x≠0/\x.natAbs<=many
def badM (put:List Int) (k:Nat) (l:Int):Bool:=decide (l≠put.getD k 0)&&(decide (placeOf put l.natAbs=0)||(decide (l∈put)||decide ((k:Int)<=(placeOf put l.natAbs:Int)-1)))
def Qn0 (put:List Int) (k:Nat) (cl:List Int):Bool:=decide (put.getD k 0∈cl)&& !((List.range cl.length).any λi=>badM put k (cl.getD i 0))
def J00 (c:Cnf) (s:Sat) (k:Nat):Prop:=s.why.getD k 0= -1\/(0<=s.why.getD k 0/\s.why.getD k 0<c.list.length+s.learned.length/\Qn0 s.put k (atM c s (s.why.getD k 0).toNat)=true)
structure satOk (many:Nat) (c:Cnf) (s:Sat):Prop where
 cnf:cnfOk c=true
 few:s.learned.length<=300
 c0:0<=s.code
 c3:s.code<=3
 len:s.put.length=s.why.length
 lrn:∀x,x∈s.learned->qp c.many x=true
 mks:marksOk many s.put
 why:∀k,k<s.why.length->J00 c s k
end Go.M
namespace Go.M
def Srt (xs:List Int):Prop:=xs.Pairwise λa b=>a.natAbs<b.natAbs
theorem srt_ext:∀{xs ys:List Int},Srt xs->Srt ys->(∀k,k∈xs↔k∈ys)->xs=ys
 |[],[],_,_,_=>rfl
 |[],y::ys,_,_,h=>by have:=(h y).2 gg;cases this
 |x::xs,[],_,_,h=>by have:=(h x).1 gg;cases this
 |x::xs,y::ys,b,c,h=>by
  unfold Srt at b c;rw[Pg] at b c;have e:x=y:=by
   have d:=(h x).1 gg;have f:=(h y).2 gg;rcases gd.1 d with e|d
   ·exact e
   ·rcases gd.1 f with e|f
    ·exact e.symm
    ·have:=c.1 x d;have:=b.1 y f;omega
  subst e;rw[srt_ext (xs:=xs) (ys:=ys) b.2 c.2 λk=>?_];constructor
  ·intro a;rcases gd.1 ((h k).1 (gj _ a)) with e|e
   ·subst e;have:=b.1 _ a;omega
   ·exact e
  ·intro a;rcases gd.1 ((h k).2 (gj _ a)) with e|e
   ·subst e;have:=c.1 _ a;omega
   ·exact e
theorem clauseOk_srt {m:Int} {xs:List Int} (h:qp m xs=true):Srt xs:=by
 have step:∀k,k+1<xs.length->(xs.getD k 0).natAbs<(xs.getD (k+1) 0).natAbs:=λk a=>by
  have:=allI_iff.1 h (k+1) a;rw[V0] at this;have b:=this.2;simp only[GN,gP,beq_iff_eq,decide_eq_true_eq] at b;omega
 have far:∀d k,k+d+1<xs.length->(xs.getD k 0).natAbs<(xs.getD (k+d+1) 0).natAbs:=by
  intro d;induction d with
  |zero=>intro k a;exact step k a
  |succ d l=>
   intro k a;have n:=l k (by omega);have b:=step (k+d+1) (by omega);have e:k+(d+1)+1=k+d+1+1:=(by omega);rw[e];omega
 unfold Srt;rw[Gu];intro i j c g f;have:=far (j-i-1) i (by omega);rw[show i+(j-i-1)+1=j from by omega] at this;simpa[k6,c,g] using this
def jK0 (many:Nat) (a b:List Int) (m:Nat):List Int:=(List.range many).filterMap λi=>
 if i+1=m then none else if((i+1:Nat):Int)∈a\/((i+1:Nat):Int)∈b then some ((i+1:Nat):Int) else if-((i+1:Nat):Int)∈a\/ -((i+1:Nat):Int)∈b then some (-((i+1:Nat):Int)) else none
theorem mem_joinM {many m:Nat} {a b:List Int} (j:∀k,k∈a++b->k.natAbs≠m-> -k∉a++b) (g:∀k,k∈a++b->k≠0/\k.natAbs<=many) (k:Int):k∈jK0 many a b m↔(k∈a\/k∈b)/\k.natAbs≠m:=by
 unfold jK0;simp only[List.mem_filterMap,gy];constructor
 ·rintro⟨i,n,h⟩;split at h
  ·cases h
  ·rename_i c;split at h
   ·rename_i d;simp only[gV] at h;subst h;exact⟨d,by omega⟩
   ·split at h
    ·rename_i d;simp only[gV] at h;subst h;exact⟨d,by omega⟩
    ·cases h
 ·rintro⟨h,c⟩;have hm:k∈a++b:=gk.2 h;obtain⟨l,hle⟩:=g k hm;refine⟨k.natAbs-1,by omega,?_⟩;rw[if_neg (by omega)];have e:k.natAbs-1+1=k.natAbs:=(by omega);rw[e];by_cases o:0<k
  ·rw[show((k.natAbs:Nat):Int)=k from by omega,if_pos h]
  ·rw[show((k.natAbs:Nat):Int)= -k from by omega];have f:=j k hm c;rw[gk] at f;rw[if_neg f,Py,if_pos h]
theorem joinM_srt (many:Nat) (a b:List Int) (m:Nat):Srt (jK0 many a b m):=by
 unfold jK0 Srt;rw[List.pairwise_filterMap];refine List.Pairwise.imp ?_ List.pairwise_lt_range;intro i j c x d y e;have abs:∀{i:Nat} {x:Int},(if i+1=m then none else if((i+1:Nat):Int)∈a\/((i+1:Nat):Int)∈b then some ((i+1:Nat):Int) else if-((i+1:Nat):Int)∈a\/ -((i+1:Nat):Int)∈b then some (-((i+1:Nat):Int)) else none)=some x->x.natAbs=i+1:=by
  intro i x h;split at h
  ·cases h
  ·split at h
   ·simp only[gV] at h;omega
   ·split at h
    ·simp only[gV] at h;omega
    ·cases h
 have:=abs d;have:=abs e;omega
theorem ko {put:List Int} (b:ja put) {x y:Int} (d:x∈put) (e:y∈put) (h:x.natAbs=y.natAbs):x=y:=by
 have a:=(mem_iff_place b).1 d;have c:=(mem_iff_place b).1 e;rw[h] at a;rw[<-a.2,c.2]
def Fls (put cl:List Int):Prop:=∀k,k∈cl-> -k∈put
def Xo0 (xs:List Nat):Nat:=xs.foldl max 0
theorem YG0 {xs:List Nat} {a x:Nat} (h:x∈xs\/x<=a):x<=xs.foldl max a:=by
 induction xs generalizing a with
 |nil=>rcases h with h|h;cases h;exact h
 |cons y r b=>
  refine b ?_;rcases h with h|h
  ·rcases gd.1 h with rfl|h
   ·exact .inr (Nat.le_max_right _ _)
   ·exact .inl h
  ·exact .inr (Ga h (Nat.le_max_left _ _))
theorem Vt {xs:List Nat} {x:Nat} (h:x∈xs):x<=Xo0 xs:=YG0 (.inl h)
theorem Zp0 (xs:List Nat) (a:Nat):xs.foldl max a=a\/xs.foldl max a∈xs:=by
 induction xs generalizing a with
 |nil=>exact .inl rfl
 |cons y r b=>
  rw[P7];rcases b (max a y) with h|h
  ·rw[h];rcases Nat.le_total a y with e|e
   ·rw[Nat.max_eq_right e];exact .inr gg
   ·rw[Nat.max_eq_left e];exact .inl rfl
  ·exact .inr (gj _ h)
theorem Ki {xs:List Nat}:Xo0 xs=0\/Xo0 xs∈xs:=Zp0 xs 0
theorem lvl_mono {ds:List Bool} {i j:Nat} (h:i<=j):lvl ds i<=lvl ds j:=by
 unfold lvl;refine List.Sublist.count_le true ?_;have:ds.take (i+1)=(ds.take (j+1)).take (i+1):=by rw[GC,gJ (by omega)]
 rw[this];exact PT _ _
def jn (put cl:List Int):Nat:=Xo0 (cl.map λk=>placeOf put k.natAbs)
theorem lastPl_top {put cl xs:List Int} {ds:List Bool} {top:Nat} {m:Int} (h:TopOf put ds cl top xs) (hm:m∈xs) (a:∀x,x∈xs->placeOf put x.natAbs<=placeOf put m.natAbs):placeOf put m.natAbs=jn put cl:=by
 have b:=(h.mem m).1 hm;have d:placeOf put m.natAbs<=jn put cl:=Vt (gm.2 ⟨m,b.1,rfl⟩);rcases Ki (xs:=cl.map λk=>placeOf put k.natAbs) with e|e
 ·unfold jn at d⊢;omega
 ·obtain⟨q,c,e⟩:=gm.1 e;have i:placeOf put q.natAbs=jn put cl:=e;have j:lvM put ds m<=lvM put ds q:=lvl_mono (by omega);have f:=h.le q c;have g:=a q ((h.mem q).2 ⟨c,by omega⟩);omega
theorem two_mem {xs:List Int} (d:xs.Nodup) (h:2<=xs.length) (p:Int):∃q,q∈xs/\q≠p:=by
 match xs,d,h with
 |a::b::r,d,_=>
  have c:a≠b:=λe=>by subst e;simp at d
  by_cases e:a=p
  ·exact⟨b,by simp,λf=>c (by rw[e,f])⟩
  ·exact⟨a,by simp,e⟩
theorem impl_of {put cl:List Int} {k:Nat} (h:Qn0 put k cl=true):put.getD k 0∈cl/\∀l,l∈cl->l≠put.getD k 0->placeOf put l.natAbs≠0/\l∉put/\placeOf put l.natAbs<=k:=by
 unfold Qn0 at h;simp only[V0,decide_eq_true_eq,gY,pU] at h;refine⟨h.1,λl d a=>?_⟩;obtain⟨i,c,rfl⟩:=gq d;have:=h.2 i (gy.2 c);simp only[k6,K3 c,Gw,badM] at this a⊢;simp only[V0,gP,decide_eq_true_eq,not_and,not_or] at this;have b:=this a;exact⟨b.1,b.2.1,by have:=b.2.2;omega⟩
theorem false_of {put:List Int} {l:Int} (a:placeOf put l.natAbs≠0) (b:l∉put): -l∈put:=by
 obtain⟨hle,he⟩:=jU a;have hm:put.getD (placeOf put l.natAbs-1) 0∈put:=qU (by omega);generalize put.getD (placeOf put l.natAbs-1) 0=y at he hm;have:y=l\/y= -l:=by omega
 rcases this with e|e
 ·exact absurd (e▸hm) b
 ·exact e▸hm
theorem lvl_decided {ds:List Bool} {i k:Nat} (b:k<ds.length) (a:ds.getD k false=true) (h:i<k):lvl ds i<lvl ds k:=by
 have c:lvl ds i<=(ds.take k).count true:=by
  unfold lvl;refine List.Sublist.count_le true ?_;have:ds.take (i+1)=(ds.take k).take (i+1):=(by rw[GC,gJ (by omega)]);rw[this];exact PT _ _
 have d:lvl ds k=(ds.take k).count true+1:=by
  unfold lvl;rw[G7,List.count_append];simp only[k6,K3 b,Gw] at a;simp[b,a]
 omega
theorem VN0 {why:List Int} {k:Nat} (a:k<why.length):(qV why).getD k false=decide (why.getD k 0= -1):=by
 simp[qV,k6,a]
theorem last_reason {many:Nat} {c:Cnf} {s:Sat} (h:satOk many c s) {cl xs:List Int} {top k:Nat} (hF:Fls s.put cl) (m:TopOf s.put (qV s.why) cl top xs) (A:2<=xs.length) (n:jn s.put cl=k+1):
  k<s.put.length/\ -(s.put.getD k 0)∈cl/\0<=s.why.getD k 0/\s.why.getD k 0<c.list.length+s.learned.length/\Qn0 s.put k (atM c s (s.why.getD k 0).toNat)=true/\
  ∃q,q∈cl/\q≠ -(s.put.getD k 0)/\lvM s.put (qV s.why) q=top:=by
 have B:=h.mks.1;obtain⟨d,b,y⟩:∃q,q∈cl/\placeOf s.put q.natAbs=k+1:=by
  rcases Ki (xs:=cl.map λk=>placeOf s.put k.natAbs) with e|e
  ·unfold jn at n;omega
  ·obtain⟨q,t,e⟩:=gm.1 e;exact⟨q,t,e.trans n⟩
 have o:=jU (put:=s.put) (v:=d.natAbs) (by omega);rw[y,GN] at o;have i:k<s.put.length:=by omega
 have l:s.put.getD k 0= -d:=ko B (qU i) (hF d b) (by omega);have hle:∀q,q∈cl->placeOf s.put q.natAbs<=k+1:=λq t=>by rw[<-n];exact Vt (gm.2 ⟨q,t,rfl⟩)
 have C:lvM s.put (qV s.why) d=top:=by
  obtain⟨x,I,-⟩:=two_mem m.nd A 0;have w:=(m.mem x).1 I;have z:=hle x w.1;have G:lvM s.put (qV s.why) x<=lvM s.put (qV s.why) d:=lvl_mono (by omega);have:=m.le d b;omega
 obtain⟨f,u,j⟩:=two_mem m.nd A d;have a:=(m.mem f).1 u;have E:=hle f a.1;have D:placeOf s.put f.natAbs≠k+1:=λe=>by
  have p:=jU (put:=s.put) (v:=f.natAbs) (by omega);rw[e,GN] at p;have:=ko B (hF f a.1) (hF d b) (by omega);exact j (by omega)
 have r:placeOf s.put f.natAbs≠0:=by have:=qr (hF f a.1);rwa[GJ] at this
 have H:s.why.length=s.put.length:=h.len.symm;have g:s.why.getD k 0≠ -1:=λe=>by
  have z:(qV s.why).getD k false=true:=by rw[VN0 (by omega)];simpa using e
  have G:lvM s.put (qV s.why) f<lvl (qV s.why) k:=lvl_decided (by rw[zH0];omega) z (by omega);have J:lvM s.put (qV s.why) d=lvl (qV s.why) k:=by unfold lvM;rw[y];rfl
  omega
 rcases h.why k (by omega) with e|⟨F,a2,a3⟩
 ·exact absurd e g
 ·exact⟨i,by rw[l,Py];exact b,F,a2,a3,f,a.1,by rw[l,Py];exact j,a.2⟩
theorem satOk.lit {many:Nat} {c:Cnf} {s:Sat} (h:satOk many c s) (f:c.many=many) {k:Nat} (m:k<c.list.length+s.learned.length) {l:Int} (g:l∈atM c s k):l≠0/\l.natAbs<=many:=by
 have b:atM c s k∈c.list++s.learned:=by
  unfold atM;rw[k6,K3 (by rw[Q1];omega)];exact Gm _
 have d:∀x,x∈c.list->qp c.many x=true:=λx j=>by
  have a:=h.cnf;unfold cnfOk at a;rw[V0] at a;obtain⟨i,e,rfl⟩:=gq j;have:=allI_iff.1 a.2 i e;simpa[k6,e] using this
 have:=(gk.1 b).elim (d _) (h.lrn _);have:=Qv this g;omega
theorem learn_join {many:Nat} {c:Cnf} {s:Sat} (h:satOk many c s) (B:c.many=many) {cl xs:List Int} {top k:Nat} (hF:Fls s.put cl) (I:TopOf s.put (qV s.why) cl top xs) (K:2<=xs.length) (C:jn s.put cl=k+1):
  let r:=atM c s (s.why.getD k 0).toNat
  let d:=jK0 many cl r (s.put.getD k 0).natAbs
  (∀l,l∈d↔(l∈cl/\l≠ -(s.put.getD k 0))\/(l∈r/\l≠s.put.getD k 0))/\Fls s.put d/\jn s.put d<=k/\(∀l,l∈d->lvM s.put (qV s.why) l<=top)/\∃q,q∈d/\lvM s.put (qV s.why) q=top:=by
 intro r d;obtain⟨t,D,O,P,himp,q,H,w,F⟩:=last_reason h hF I K C;have z:=h.mks.1;have J:(0:Int)∉s.put:=λe=>(h.mks.2 0 e).1 rfl;obtain⟨M,i⟩:=impl_of himp;have u:s.put.getD k 0∈s.put:=qU t;have E:placeOf s.put (s.put.getD k 0).natAbs=k+1:=placeOf_at z t;generalize G:s.put.getD k 0=p at*;have x:(s.why.getD k 0).toNat<c.list.length+s.learned.length:=by omega
 have o:∀l,l∈r->l≠p-> -l∈s.put:=λl b a=>false_of (i l b a).1 (i l b a).2.1;have off:∀l,l∈cl++r->l.natAbs≠p.natAbs-> -l∈s.put:=λl b a=>by
  rcases gk.1 b with b|b
  ·exact hF l b
  ·exact o l b λe=>a (by rw[e])
 have m:∀l,l∈cl++r->l.natAbs≠p.natAbs-> -l∉cl++r:=λl b a L=>by
  have f:=off l b a;have y:=off (-l) L (by rwa[GJ]);rw[Py] at y;have:=ko z f y (by omega);have:l=0:=(by omega);subst this;exact J y
 have A:∀l,l∈cl++r->l≠0/\l.natAbs<=many:=λl b=>by
  rcases gk.1 b with b|b
  ·have:=h.mks.2 _ (hF l b);omega
  ·exact h.lit B x b
 have g:∀l,l∈d↔(l∈cl/\l≠ -p)\/(l∈r/\l≠p):=λl=>by
  have e:d=jK0 many cl r p.natAbs:=by show jK0 many cl r (s.put.getD k 0).natAbs=_;rw[G]
  rw[e,mem_joinM m A];constructor
  ·rintro⟨f|f,a⟩
   ·exact .inl ⟨f,λe=>a (by rw[e,GJ])⟩
   ·exact .inr ⟨f,λe=>a (by rw[e])⟩
  ·rintro(⟨f,a⟩|⟨f,a⟩)
   ·refine⟨.inl f,λe=>a ?_⟩;have:=ko z (hF l f) u (by omega);omega
   ·refine⟨.inr f,λe=>a ?_⟩;have:=(i l f a).2.2;rw[e] at this;omega
 have j:∀l,l∈d->placeOf s.put l.natAbs<=k:=λl b=>by
  rcases(g l).1 b with⟨f,a⟩|⟨f,a⟩
  ·have y:placeOf s.put l.natAbs<=k+1:=by rw[<-C];exact Vt (gm.2 ⟨l,f,rfl⟩)
   have Q:placeOf s.put l.natAbs≠k+1:=λe=>by
    have:=jU (put:=s.put) (v:=l.natAbs) (by omega);rw[e,GN,G] at this;have:=ko z (hF l f) u (by omega);exact a (by omega)
   omega
  ·exact(i l f a).2.2
 have n:lvl (qV s.why) k=top:=by
  have R:=I.le _ D;have N:lvM s.put (qV s.why) q<=lvl (qV s.why) k:=lvl_mono (by
   have:placeOf s.put q.natAbs<=k+1:=by rw[<-C];exact Vt (gm.2 ⟨q,H,rfl⟩)
   omega)
  have e:lvM s.put (qV s.why) (-p)=lvl (qV s.why) k:=by unfold lvM;rw[GJ,E];rfl
  omega
 refine⟨g,λl b=>?_,?_,λl b=>?_,q,(g q).2 (.inl ⟨H,w⟩),F⟩
 ·rcases(g l).1 b with⟨f,_⟩|⟨f,a⟩
  ·exact hF l f
  ·exact o l f a
 ·unfold jn;rcases Ki (xs:=d.map λk=>placeOf s.put k.natAbs) with e|e
  ·omega
  ·obtain⟨l,b,e⟩:=gm.1 e;rw[<-e];exact j l b
 ·rw[<-n];exact lvl_mono (by have:=j l b;omega)
def qq0 (put:List Int) (ds:List Bool) (cl:List Int):Nat:=Xo0 (cl.map (lvM put ds))
def QH0 (put:List Int) (ds:List Bool) (cl:List Int):List Int:=cl.filter λk=>lvM put ds k==qq0 put ds cl
theorem srt_nodup {cl:List Int} (h:Srt cl):cl.Nodup:=List.Pairwise.imp (λh e=>by rw[e] at h;omega) h
theorem topOf_tops {put:List Int} {ds:List Bool} {cl:List Int} (h:cl.Nodup):TopOf put ds cl (qq0 put ds cl) (QH0 put ds cl):=by
 refine⟨λk a=>Vt (Gc a),λk=>by simp[QH0],?_,h.sublist List.filter_sublist⟩;rcases Ki (xs:=cl.map (lvM put ds)) with e|e
 ·exact .inl e
 ·obtain⟨q,b,e⟩:=gm.1 e;have:q∈QH0 put ds cl:=by simp only[QH0,G8,beq_iff_eq];exact⟨b,e⟩
  exact .inr λh=>by rw[h] at this;cases this
theorem topOf_top {put:List Int} {ds:List Bool} {cl xs a:List Int} {t t':Nat} (h:TopOf put ds cl t xs) (b:TopOf put ds cl t' a):t=t':=by
 have le:∀{t t':Nat} {xs a:List Int},TopOf put ds cl t xs->TopOf put ds cl t' a->t<=t':=by
  intro t t' xs a h b;rcases h.ne with e|e
  ·omega
  ·obtain⟨x,d⟩:=pr _ e;have c:=(h.mem x).1 d;have:=b.le x c.1;omega
 exact P9 (le h b) (le b h)
theorem Jg0 {put:List Int} {ds:List Bool} {cl xs a:List Int} {t t':Nat} (h:TopOf put ds cl t xs) (b:TopOf put ds cl t' a):xs.length=a.length:=by
 have e:=topOf_top h b;subst e;exact P9 (h.nd.length_le_of_subset λx c=>(b.mem x).2 ((h.mem x).1 c)) (b.nd.length_le_of_subset λx c=>(h.mem x).2 ((b.mem x).1 c))
theorem qp0 {put:List Int} {ds:List Bool} {cl a xs:List Int} {t:Nat} (b:∀k,k∈cl↔k∈a) (h:TopOf put ds cl t xs):TopOf put ds a t xs:=
 ⟨λk c=>h.le k ((b k).2 c),λk=>by rw[h.mem,b],h.ne,h.nd⟩
def Jn (many:Nat) (c:Cnf) (s:Sat) (cl:List Int):List Int:=
 jK0 many cl (atM c s (s.why.getD (jn s.put cl-1) 0).toNat) (s.put.getD (jn s.put cl-1) 0).natAbs
def learnM (many:Nat) (c:Cnf) (s:Sat):Nat->List Int->List Int
 |0,cl=>cl
 |f+1,cl=>if(QH0 s.put (qV s.why) cl).length<=1 then cl else learnM many c s f (Jn many c s cl)
theorem lastPl_pos {put cl:List Int} (hF:Fls put cl) (h:cl≠[]):jn put cl≠0:=by
 obtain⟨q,a⟩:=pr _ h;have b:placeOf put q.natAbs<=jn put cl:=Vt (gm.2 ⟨q,a,rfl⟩);have:=qr (hF q a);rw[GJ] at this;omega
theorem learnS_ok {many:Nat} {c:Cnf} {s:Sat} (h:satOk many c s) (b:c.many=many) {cl:List Int} (hF:Fls s.put cl) (hs:Srt cl) (g:2<=(QH0 s.put (qV s.why) cl).length):
  Fls s.put (Jn many c s cl)/\Srt (Jn many c s cl)/\jn s.put (Jn many c s cl)<jn s.put cl/\qq0 s.put (qV s.why) (Jn many c s cl)=qq0 s.put (qV s.why) cl:=by
 have j:=topOf_tops (put:=s.put) (ds:=qV s.why) (srt_nodup hs);have d:cl≠[]:=λe=>by subst e;simp[QH0] at g
 have u:=lastPl_pos hF d;obtain⟨k,i⟩:∃k,jn s.put cl=k+1:=⟨jn s.put cl-1,by omega⟩;obtain⟨hm,l,t,m,q,n,o⟩:=learn_join h b hF j g i;have e:Jn many c s cl=jK0 many cl (atM c s (s.why.getD k 0).toNat) (s.put.getD k 0).natAbs:=by unfold Jn;rw[i];rfl
 rw[e];refine⟨l,joinM_srt _ _ _ _,by omega,?_⟩;have a:=topOf_tops (put:=s.put) (ds:=qV s.why) (srt_nodup (joinM_srt many cl (atM c s (s.why.getD k 0).toNat) (s.put.getD k 0).natAbs));have r:=a.le q n;rcases a.ne with e|e
 ·have:=j.le;omega
 ·obtain⟨x,p⟩:=pr _ e;have f:=(a.mem x).1 p;have:=m x f.1;omega
theorem learnM_ok {many:Nat} {c:Cnf} {s:Sat} (h:satOk many c s) (a:c.many=many):∀{f:Nat} {cl:List Int},Fls s.put cl->Srt cl->jn s.put cl<=f->
  Fls s.put (learnM many c s f cl)/\Srt (learnM many c s f cl)/\qq0 s.put (qV s.why) (learnM many c s f cl)=qq0 s.put (qV s.why) cl/\(QH0 s.put (qV s.why) (learnM many c s f cl)).length<=1
 |0,cl,hF,hs,g=>by
  refine⟨hF,hs,rfl,?_⟩;have:cl=[]:=pt λd=>lastPl_pos hF d (by omega);subst this;simp[learnM,QH0]
 |f+1,cl,hF,hs,g=>by
  unfold learnM;by_cases b:(QH0 s.put (qV s.why) cl).length<=1
  ·rw[if_pos b];exact⟨hF,hs,rfl,b⟩
  ·rw[if_neg b];obtain⟨e,a2,a3,a4⟩:=learnS_ok h a hF hs (by omega);obtain⟨b1,b2,b3,b4⟩:=learnM_ok h a (f:=f) e a2 (by omega);exact⟨b1,b2,b3.trans a4,b4⟩
end Go.M
namespace Go.M
def kO0 (put:List Int) (ds:List Bool) (cl:List Int):Nat:=Xo0 ((cl.filter λk=>decide (lvM put ds k<qq0 put ds cl)).map (lvM put ds))
def xF0 (many:Nat) (c:Cnf) (s:Sat) (cl:List Int):Sat:=
 if qq0 s.put (qV s.why) cl=0 then{s with code:=2}
 else if s.learned.length=300 then{s with code:=3}
 else
  {s with
   put:=s.put.take (backN (qV s.why) (kO0 s.put (qV s.why) (learnM many c s s.put.length cl)) s.put.length)
   why:=s.why.take (backN (qV s.why) (kO0 s.put (qV s.why) (learnM many c s s.put.length cl)) s.put.length)
   learned:=s.learned++[learnM many c s s.put.length cl]}
def xT0 (many:Nat) (put:List Int):Nat:=((List.range many).find? λi=>decide (placeOf put (i+1)=0)).getD 0+1
def goM (many:Nat) (c:Cnf) (s:Sat):Sat:=
 match findM s.put (c.list++s.learned) 0 (-1) 0 with
 |(k,u,x)=>if 0<=k then xF0 many c s (atM c s k.toNat) else if 0<=u then{s with put:=s.put++[x],why:=s.why++[u]}
  else if s.put.length=many then{s with code:=1} else{s with put:=s.put++[-(xT0 many s.put:Int)],why:=s.why++[-1]}
def Z50 (many:Nat) (c:Cnf) (s:Sat):Sat:=if s.code=0 then goM many c s else s
def runM (many:Nat) (c:Cnf):Nat->Sat->Sat
 |0,s=>s
 |n+1,s=>runM many c n (Z50 many c s)
def emptyS:Sat:=⟨[],[],[],0⟩
def Kz (put cl:List Int):Prop:=∀l,l∈cl->l∉put/\placeOf put l.natAbs≠0
theorem lookM_spec (put:List Int):∀(cl:List Int) (n:Nat) (x:Int),((∃l,l∈cl/\l∈put)/\lookM put cl n x=(true,0,0))\/
  ((∀l,l∈cl->l∉put)/\∃y,lookM put cl n x=(false,n+(cl.filter λl=>decide (placeOf put l.natAbs=0)).length,y)/\(y=x/\(cl.filter λl=>decide (placeOf put l.natAbs=0))=[]\/y∈cl/\placeOf put y.natAbs=0))
 |[],n,x=> .inr ⟨by simp,x,by simp[JH0],.inl ⟨rfl,rfl⟩⟩
 |l::r,n,x=>by
  rw[kJ0];by_cases c:l∈put
  ·rw[if_pos c];exact .inl ⟨⟨l,gg,c⟩,rfl⟩
  rw[if_neg c];by_cases d:placeOf put l.natAbs=0
  ·rw[if_pos d];rcases lookM_spec put r (n+1) l with⟨⟨q,b,g⟩,e⟩|⟨f,y,e,a⟩
   ·exact .inl ⟨⟨q,gj _ b,g⟩,e⟩
   ·refine .inr ⟨λq b=>(gd.1 b).elim (λe=>e▸c) (f q),y,?_,?_⟩
    ·rw[e,List.filter_cons_of_pos (by simpa using d),gu,Pv,Nat.add_comm 1]
    ·rcases a with⟨rfl,-⟩|⟨a,h⟩
     ·exact .inr ⟨gg,d⟩
     ·exact .inr ⟨gj _ a,h⟩
  ·rw[if_neg d];rcases lookM_spec put r n x with⟨⟨q,b,g⟩,e⟩|⟨f,y,e,a⟩
   ·exact .inl ⟨⟨q,gj _ b,g⟩,e⟩
   ·have i:((l::r).filter λl=>decide (placeOf put l.natAbs=0))=r.filter λl=>decide (placeOf put l.natAbs=0):=List.filter_cons_of_neg (by simpa using d);refine .inr ⟨λq b=>(gd.1 b).elim (λe=>e▸c) (f q),y,by rw[i];exact e,?_⟩;rw[i];rcases a with a|⟨a,h⟩
    ·exact .inl a
    ·exact .inr ⟨gj _ a,h⟩
def unitC (put cl:List Int) (x:Int):Prop:=(∀l,l∈cl->l∉put)/\(cl.filter λl=>decide (placeOf put l.natAbs=0))=[x]
theorem look_clash {put cl:List Int}:Kz put cl↔(lookM put cl 0 0).1=false/\(lookM put cl 0 0).2.1=0:=by
 rcases lookM_spec put cl 0 0 with⟨⟨l,a,c⟩,e⟩|⟨b,y,e,-⟩
 ·rw[e];exact⟨λh=>absurd c (h l a).1,λh=>by cases h.1⟩
 ·rw[e];simp only[gQ,PZ,true_and];rw[List.filter_eq_nil_iff];exact⟨λh l a=>by have:=(h l a).2;simpa using this,λh l a=>⟨b l a,by have:=h l a;simpa using this⟩⟩
theorem Un0 {put cl:List Int} {x:Int}:unitC put cl x↔lookM put cl 0 0=(false,1,x):=by
 rcases lookM_spec put cl 0 0 with⟨⟨l,g,j⟩,e⟩|⟨i,y,e,a⟩
 ·rw[e];exact⟨λh=>absurd j (h.1 l g),λh=>by cases h⟩
 ·rw[e];constructor
  ·rintro⟨_,h⟩;rw[h] at a;rcases a with⟨_,c⟩|⟨a,b⟩
   ·cases c
   ·have:y∈cl.filter λl=>decide (placeOf put l.natAbs=0):=by rw[G8];exact⟨a,by simpa using b⟩
    rw[h,gn] at this;subst this;rw[h];rfl
  ·intro h;simp only[GF,true_and,gQ] at h;obtain⟨f,rfl⟩:=h;refine⟨i,?_⟩;obtain⟨z,b⟩:=P5.1 f;rw[b] at a⊢;rcases a with⟨_,c⟩|⟨a,d⟩
   ·cases c
   ·have:y∈cl.filter λl=>decide (placeOf put l.natAbs=0):=by rw[G8];exact⟨a,by simpa using d⟩
    rw[b,gn] at this;rw[this]
def FindP (put:List Int) (L:List (List Int)) (k0 u0 x0:Int) (r:Int×Int×Int):Prop:=
 (∃i,i<L.length/\r.1=k0+(i:Nat)/\Kz put (L.getD i []))\/
  (r.1= -1/\(∀cl,cl∈L->¬Kz put cl)/\((0<=u0/\r.2=(u0,x0))\/
   (u0<0/\((∃i,i<L.length/\r.2.1=k0+(i:Nat)/\unitC put (L.getD i []) r.2.2/\∀j,j<i->∀x,¬unitC put (L.getD j []) x)\/
    (r.2=(u0,x0)/\∀cl,cl∈L->∀x,¬unitC put cl x)))))
theorem FindP.skip {put cl:List Int} {L:List (List Int)} {k0 m o:Int} {r:Int×Int×Int} (q: ¬Kz put cl) (hu:0<=m\/ ∀x,¬unitC put cl x) (h:FindP put L (k0+1) m o r):FindP put (cl::L) k0 m o r:=by
 rcases h with⟨i,l,d,f⟩|⟨d,f,b⟩
 ·exact .inl ⟨i+1,by simpa using l,by rw[d];omega,by simpa using f⟩
 ·refine .inr ⟨d,λc a=>(gd.1 a).elim (λe=>e▸q) (f c),?_⟩;rcases b with b|⟨n,b⟩
  ·exact .inl b
  have hu:∀x,¬unitC put cl x:=hu.elim (λh=>absurd h (by omega)) id;rcases b with⟨i,l,g,k,p⟩|⟨g,k⟩
  ·refine .inr ⟨n,.inl ⟨i+1,by simpa using l,by rw[g];omega,by simpa using k,λj s x=>?_⟩⟩;cases j with
   |zero=>simpa using hu x
   |succ j=>simpa using p j (by omega) x
  ·exact .inr ⟨n,.inr ⟨g,λc a=>(gd.1 a).elim (λe=>e▸hu) (k c)⟩⟩
theorem findM_spec (put:List Int):∀(L:List (List Int)) (k0 a g:Int),0<=k0->FindP put L k0 a g (findM put L k0 a g)
 |[],k0,a,g,_=>by
  refine .inr ⟨rfl,by simp,?_⟩;by_cases h:0<=a
  ·exact .inl ⟨h,rfl⟩
  ·exact .inr ⟨by omega,.inr ⟨rfl,by simp⟩⟩
 |cl::L,k0,a,g,s=>by
  rw[findM_cons];by_cases f:(lookM put cl 0 0).1=true
  ·rw[if_pos f];refine FindP.skip (λh=>?_) (.inr λx h=>?_) (findM_spec put L (k0+1) a g (by omega))
   ·rw[(look_clash.1 h).1] at f;cases f
   ·rw[Un0.1 h] at f;cases f
  rw[if_neg f];have k:(lookM put cl 0 0).1=false:=(by simpa using f);by_cases l:(lookM put cl 0 0).2.1=0
  ·rw[if_pos l];exact .inl ⟨0,by simp,by simp,by simpa using look_clash.2 ⟨k,l⟩⟩
  rw[if_neg l];have d: ¬Kz put cl:=λh=>l (look_clash.1 h).2;by_cases m:(lookM put cl 0 0).2.1=1
  ·rw[if_pos m];have q:unitC put cl (lookM put cl 0 0).2.2:=Un0.2 (by rw[<-k,<-m]);by_cases hu:a<0
   ·rw[if_pos hu];rcases findM_spec put L (k0+1) k0 (lookM put cl 0 0).2.2 (by omega) with⟨i,r,n,o⟩|⟨n,o,b⟩
    ·exact .inl ⟨i+1,by simpa using r,by rw[n];omega,by simpa using o⟩
    ·refine .inr ⟨n,λc p=>(gd.1 p).elim (λe=>e▸d) (o c),.inr ⟨hu,.inl ⟨0,by simp,?_,?_,λj t=>by omega⟩⟩⟩
     ·rcases b with⟨_,b⟩|⟨b,_⟩
      ·rw[b];simp
      ·omega
     ·rcases b with⟨_,b⟩|⟨b,_⟩
      ·rw[b];simpa using q
      ·omega
   ·rw[if_neg hu];exact FindP.skip d (.inl (by omega)) (findM_spec put L (k0+1) a g (by omega))
  ·rw[if_neg m];refine FindP.skip d (.inr λx h=>m ?_) (findM_spec put L (k0+1) a g (by omega));rw[Un0.1 h]
theorem find_cases (put:List Int) (L:List (List Int)):(∃(i:Nat) (u x:Int),i<L.length/\findM put L 0 (-1) 0=((i:Int),u,x)/\Kz put (L.getD i []))\/
  ((∀cl,cl∈L->¬Kz put cl)/\((∃(i:Nat) (x:Int),i<L.length/\findM put L 0 (-1) 0=(-1,(i:Int),x)/\unitC put (L.getD i []) x/\∀j,j<i->∀x,¬unitC put (L.getD j []) x)\/
   (findM put L 0 (-1) 0=(-1,-1,0)/\∀cl,cl∈L->∀x,¬unitC put cl x))):=by
 have h:=findM_spec put L 0 (-1) 0 (by omega);generalize findM put L 0 (-1) 0=z at h;obtain⟨k,u,x⟩:=z;rcases h with⟨i,f,b,d⟩|⟨b,d,c⟩
 ·exact .inl ⟨i,u,x,f,by simp at b;rw[b],d⟩
 ·refine .inr ⟨d,?_⟩;simp only at b;subst b;rcases c with⟨c,_⟩|⟨_,c⟩
  ·omega
  rcases c with⟨i,f,a,e,g⟩|⟨a,e⟩
  ·exact .inl ⟨i,x,f,by simp at a;rw[a],e,g⟩
  ·simp only[GF] at a;exact .inr ⟨by rw[a.1,a.2],e⟩
end Go.M
namespace Go.M
theorem mem_take {put:List Int} (b:ja put) {l:Int} {k:Nat}:l∈put.take k↔l∈put/\placeOf put l.natAbs<=k:=by
 constructor
 ·intro h;refine⟨gZ h,?_⟩;obtain⟨i,e,rfl⟩:=gq h;simp only[gi] at e;have:=placeOf_at b (i:=i) (by omega);simp only[k6,K3 (show i<put.length by omega),Gw] at this;rw[Pm,this];omega
 ·rintro⟨c,f⟩;have d:=(mem_iff_place b).1 c;have g:=placeOf_le put l.natAbs;have a:placeOf put l.natAbs-1<put.length:=(by omega);rw[<-d.2,k6,K3 a,Gw];have:put[placeOf put l.natAbs-1]=(put.take k)[placeOf put l.natAbs-1]'(by simp;omega):=(by rw[Pm]);rw[this];exact Gm _
theorem marksOk.zero {many:Nat} {put:List Int} (h:marksOk many put):(0:Int)∉put:=λe=>(h.2 0 e).1 rfl
theorem marksOk.neg {many:Nat} {put:List Int} (h:marksOk many put) {l:Int} (a:l∈put): -l∉put:=λb=>by
 have:=ko h.1 a b (by omega);have e:l=0:=by omega
 subst e;exact h.zero a
theorem marksOk.take {many:Nat} {put:List Int} (h:marksOk many put) (n:Nat):marksOk many (put.take n):=⟨Ko h.1 n,λx a=>h.2 x (gZ a)⟩
theorem marksOk.snoc {many:Nat} {put:List Int} (h:marksOk many put) {l:Int} (b:l≠0) (c:l.natAbs<=many) (d:placeOf put l.natAbs=0):marksOk many (put++[l]):=
 ⟨distinct_snoc h.1 d,λx a=>by
  rcases gk.1 a with a|a
  ·exact h.2 x a
  ·rw[gn] at a;subst a;exact⟨b,c⟩⟩
theorem marksOk.len {many:Nat} {put:List Int} (h:marksOk many put):put.length<=many:=by
 have:=h.1.length_le_of_subset (l₂:=List.range' 1 many) λx a=>by
  obtain⟨y,b,rfl⟩:=gm.1 a;have:=h.2 y b;rw[PU];omega
 simpa using this
theorem impl_iff {many:Nat} {put cl:List Int} (h:marksOk many put) {k:Nat}:Qn0 put k cl=true↔put.getD k 0∈cl/\∀l,l∈cl->l≠put.getD k 0-> -l∈put.take k:=by
 constructor
 ·intro e;obtain⟨f,g⟩:=impl_of e;refine⟨f,λl n d=>?_⟩;obtain⟨a,b,c⟩:=g l n d;exact(mem_take h.1).2 ⟨false_of a b,by rwa[GJ]⟩
 ·rintro⟨f,g⟩;unfold Qn0;simp only[V0,decide_eq_true_eq,gY,pU];refine⟨f,λi e=>?_⟩;rw[gy] at e;have hm:cl.getD i 0∈cl:=qU e;generalize cl.getD i 0=l at hm;simp only[badM,V0,gP,decide_eq_true_eq,not_and,not_or];intro d;have j:=(mem_take h.1).1 (g l hm d);have m:=qr j.1;rw[GJ] at j m;refine⟨m,λo=>h.neg o j.1,by omega⟩
theorem clauseOk_of {m:Int} {xs:List Int} (hs:Srt xs) (h:∀l,l∈xs->l≠0/\(l.natAbs:Int)<=m):qp m xs=true:=by
 unfold qp;refine allI_iff.2 λk a=>?_;have c:=h _ (qU a);rw[V0];refine⟨by simp only[yR0,decide_eq_true_eq];omega,?_⟩;simp only[gP,beq_iff_eq,decide_eq_true_eq];by_cases b:k=0
 ·exact .inl b
 ·refine .inr ?_;have:=Gu.1 hs (k-1) k (by omega) a (by omega);simpa[k6,a,show k-1<xs.length by omega] using this
theorem YI0 {c:Cnf} (h:cnfOk c=true) {x:List Int} (b:x∈c.list):qp c.many x=true:=by
 unfold cnfOk at h;rw[V0] at h;obtain⟨i,a,rfl⟩:=gq b;have:=allI_iff.1 h.2 i a;simpa[k6,a] using this
theorem Kk0 {c:Cnf} {s:Sat} {k:Nat} (a:k<c.list.length+s.learned.length):atM c s k∈c.list++s.learned:=by
 unfold atM;rw[k6,K3 (by rw[Q1];omega)];exact Gm _
theorem satOk.cls {many:Nat} {c:Cnf} {s:Sat} (h:satOk many c s) {x:List Int} (a:x∈c.list++s.learned):qp c.many x=true:=
 (gk.1 a).elim (YI0 h.cnf) (h.lrn x)
theorem satOk.atOk {many:Nat} {c:Cnf} {s:Sat} (h:satOk many c s) {k:Nat} (a:k<c.list.length+s.learned.length):qp c.many (atM c s k)=true:=h.cls (Kk0 a)
theorem qK0 {put:List Int} {k n:Nat} (h:k<n):(put.take n).getD k 0=put.getD k 0:=by
 simp[k6,pN,h]
theorem why_ext {many:Nat} {c:Cnf} {s a:Sat} {k:Nat} (hm:marksOk many s.put) (d:marksOk many a.put) (f:a.put.take (k+1)=s.put.take (k+1)) (hw:a.why.getD k 0=s.why.getD k 0) (n:∃t,a.learned=s.learned++t) (h:J00 c s k):J00 c a k:=by
 unfold J00 at h⊢;rw[hw];rcases h with h|⟨i,o,j⟩
 ·exact .inl h
 obtain⟨t,g⟩:=n;have b:atM c a (s.why.getD k 0).toNat=atM c s (s.why.getD k 0).toNat:=by
  unfold atM;rw[g,<-Gb,Jo (by rw[Q1];omega)]
 have m:a.put.getD k 0=s.put.getD k 0:=by rw[<-qK0 (show k<k+1 by omega),f,qK0 (by omega)]
 have e:a.put.take k=s.put.take k:=by
  have:=congrArg (λl=>l.take k) f;simpa[GC] using this
 refine .inr ⟨i,by rw[g,Q1];omega,?_⟩;rw[b,impl_iff d,m,e];exact(impl_iff hm).1 j
theorem free_spec {many:Nat} {put:List Int} (h:marksOk many put) (l:put.length≠many):1<=xT0 many put/\xT0 many put<=many/\placeOf put (xT0 many put)=0/\∀v,1<=v->v<xT0 many put->placeOf put v≠0:=by
 have hlen:=h.len;unfold xT0;cases c:(List.range many).find? λi=>decide (placeOf put (i+1)=0) with
 |none=>
  rw[GY] at c;have:(List.range' 1 many).length<=(put.map Int.natAbs).length:=by
   refine(List.nodup_range' (step:=1)).length_le_of_subset λv k=>?_;rw[PU] at k;have b:=c (v-1) (gy.2 (by omega));rw[show v-1+1=v by omega] at b;have d:=jU (put:=put) (v:=v) (by simpa using b);exact gm.2 ⟨_,qU (show placeOf put v-1<put.length by
    have:placeOf put v≠0:=(by simpa using b);omega),d.2⟩
  simp at this;omega
 |some i=>
  rw[Pu] at c;obtain⟨g,j,f,a,e⟩:=c;simp only[GI] at a;subst a;simp only[Gy] at f;refine⟨by simp,by simp;omega,by simpa using g,λv b d=>?_⟩;simp only[Gw] at d;have:=e (v-1) (by omega);simp only[GI,show v-1+1=v by omega] at this;simpa using this
theorem YJ0 {put cl:List Int} (h:Kz put cl):Fls put cl:=λl a=>false_of (h l a).2 (h l a).1
theorem unit_mem {put cl:List Int} {x:Int} (h:unitC put cl x):x∈cl/\placeOf put x.natAbs=0:=by
 have:x∈cl.filter λl=>decide (placeOf put l.natAbs=0):=by rw[h.2];exact gg
 rw[G8] at this;exact⟨this.1,by simpa using this.2⟩
theorem Jd0 {put cl:List Int} {x l:Int} (h:unitC put cl x) (b:l∈cl) (a:l≠x): -l∈put:=by
 refine false_of (λc=>a ?_) (h.1 l b);have:l∈cl.filter λl=>decide (placeOf put l.natAbs=0):=by rw[G8];exact⟨b,by simpa using c⟩
 rw[h.2,gn] at this;exact this
theorem maxL_le {xs ys:List Nat} (h:∀x,x∈xs->x∈ys):Xo0 xs<=Xo0 ys:=by
 rcases Ki (xs:=xs) with e|e
 ·omega
 ·exact Vt (h _ e)
theorem Ql0 {xs ys:List Nat} (h:∀x,x∈xs↔x∈ys):Xo0 xs=Xo0 ys:=P9 (maxL_le λx=>(h x).1) (maxL_le λx=>(h x).2)
theorem JC0 (xs:List Nat) (f:List Nat) (x:Nat) (a:f=[x]):Xo0 (xs++f)=max (Xo0 xs) x:=by subst a;simp[Xo0,List.foldl_append]
theorem lastPl_le {put cl:List Int}:jn put cl<=put.length:=by
 unfold jn;rcases Ki (xs:=cl.map λk=>placeOf put k.natAbs) with e|e
 ·omega
 ·obtain⟨q,_,e⟩:=gm.1 e;have:=placeOf_le put q.natAbs;omega
theorem XT0 {many:Nat} {c:Cnf} {s:Sat} (h:satOk many c s) (a:c.many=many) {k:Nat} (d:k<c.list.length+s.learned.length) (b:Kz s.put (atM c s k)):
  Fls s.put (learnM many c s s.put.length (atM c s k))/\Srt (learnM many c s s.put.length (atM c s k))/\qq0 s.put (qV s.why) (learnM many c s s.put.length (atM c s k))=qq0 s.put (qV s.why) (atM c s k)/\(QH0 s.put (qV s.why) (learnM many c s s.put.length (atM c s k))).length<=1:=
 learnM_ok h a (YJ0 b) (clauseOk_srt (h.atOk d)) lastPl_le
theorem push_ok {many:Nat} {c:Cnf} {s:Sat} (h:satOk many c s) {l y:Int} (n:l≠0) (o:l.natAbs<=many) (p:placeOf s.put l.natAbs=0)
  (m:y= -1\/(0<=y/\y<c.list.length+s.learned.length/\l∈atM c s y.toNat/\∀q,q∈atM c s y.toNat->q≠l-> -q∈s.put)):satOk many c {s with put:=s.put++[l],why:=s.why++[y]}:=by
 have hm:=h.mks.snoc n o p;have hlen:=h.len;refine⟨h.cnf,h.few,h.c0,h.c3,by simp[h.len],h.lrn,hm,λk t=>?_⟩;simp only[Q1,gD] at t;by_cases g:k<s.why.length
 ·refine why_ext h.mks hm ?_ ?_ ⟨[],by simp⟩ (h.why k g)
  ·simp only;rw[GH (by omega)]
  ·exact Jo g
 ·have e:k=s.why.length:=(by omega);have r:(s.why++[y]).getD k 0=y:=by rw[e];simp
  unfold J00;rw[r];rcases m with m|⟨a,b,d,f⟩
  ·exact .inl m
  ·refine .inr ⟨a,b,?_⟩;have i:(s.put++[l]).getD k 0=l:=by rw[e,<-hlen];simp
   rw[impl_iff hm];simp only[i];refine⟨d,λq u j=>?_⟩;rw[e,<-hlen,GH (by omega),gC];exact f q u j
theorem clash_ok {many:Nat} {c:Cnf} {s:Sat} (h:satOk many c s) (b:c.many=many) {k:Nat} (g:k<c.list.length+s.learned.length) (e:Kz s.put (atM c s k)):satOk many c (xF0 many c s (atM c s k)):=by
 unfold xF0;split
 ·exact⟨h.cnf,h.few,by simp,by simp,h.len,h.lrn,h.mks,h.why⟩
 split
 ·exact⟨h.cnf,h.few,by simp,by simp,h.len,h.lrn,h.mks,h.why⟩
 ·rename_i p;obtain⟨m,o,q,r⟩:=XT0 h b g e;generalize learnM many c s s.put.length (atM c s k)=cl at*;generalize backN (qV s.why) (kO0 s.put (qV s.why) cl) s.put.length=n;have d:=h.few;refine⟨h.cnf,by simp;omega,h.c0,h.c3,by simp[h.len],λx a=>?_,h.mks.take n,λj f=>?_⟩
  ·rcases gk.1 a with a|a
   ·exact h.lrn x a
   ·rw[gn] at a;subst a;refine clauseOk_of o λl i=>?_;have:=h.mks.2 _ (m l i);omega
  ·simp only[gi] at f;refine why_ext h.mks (h.mks.take n) ?_ ?_ ⟨[cl],rfl⟩ (h.why j (by omega))
   ·simp only;rw[GC,gJ (by omega)]
   ·exact qK0 (by omega)
theorem go_ok {many:Nat} {c:Cnf} {s:Sat} (h:satOk many c s) (f:c.many=many):satOk many c (goM many c s):=by
 unfold goM;rcases find_cases s.put (c.list++s.learned) with⟨i,u,x,g,e,n⟩|⟨r,⟨i,x,g,e,hu,-⟩|⟨e,-⟩⟩
 ·rw[e];simp only[Int.natCast_nonneg,if_true,gl];rw[Q1] at g;exact clash_ok h f g n
 ·rw[e];rw[Q1] at g;simp only[Int.natCast_nonneg,if_true,show¬(0:Int)<= -1 by omega,if_false];obtain⟨m,o⟩:=unit_mem hu;have k:=h.lit f g m;refine push_ok h k.1 k.2 o (.inr ⟨by omega,by omega,?_,λq l j=>?_⟩)
  ·rw[gl];exact m
  ·rw[gl] at l;exact Jd0 hu l j
 ·rw[e];simp only[show¬(0:Int)<= -1 by omega,if_false];split
  ·exact⟨h.cnf,h.few,by simp,by simp,h.len,h.lrn,h.mks,h.why⟩
  ·rename_i p;obtain⟨a,b,d,-⟩:=free_spec h.mks p;exact push_ok h (by omega) (by omega) (by rw[GJ,PK];exact d) (.inl rfl)
theorem Wk0 {many:Nat} {c:Cnf} {s:Sat} (h:satOk many c s) (a:c.many=many):satOk many c (Z50 many c s):=by
 unfold Z50;split
 ·exact go_ok h a
 ·exact h
theorem run_ok {many:Nat} {c:Cnf} (a:c.many=many):∀{n:Nat} {s:Sat},satOk many c s->satOk many c (runM many c n s)
 |0,_,h=>h
 |n+1,_,h=>run_ok a (n:=n) (Wk0 h a)
theorem VK0 {many:Nat} {c:Cnf} (h:cnfOk c=true):satOk many c emptyS:=⟨h,by simp[emptyS],by simp[emptyS],by simp[emptyS],rfl,by simp[emptyS],⟨pg,by simp[emptyS]⟩,by simp[emptyS]⟩
theorem run_succ (many:Nat) (c:Cnf):∀(n:Nat) (s:Sat),runM many c (n+1) s=Z50 many c (runM many c n s)
 |0,_=>rfl
 |n+1,s=>run_succ many c n (Z50 many c s)
theorem Ji0 {many:Nat} {c:Cnf} {s:Sat} (h:s.code≠0):Z50 many c s=s:=if_neg h
theorem run_stop {many:Nat} {c:Cnf}:∀{n:Nat} {s:Sat},s.code≠0->runM many c n s=s
 |0,_,_=>rfl
 |n+1,s,h=>by rw[runM,Ji0 h,run_stop (n:=n) h]
theorem run_add (many:Nat) (c:Cnf):∀(a b:Nat) (s:Sat),runM many c (a+b) s=runM many c b (runM many c a s)
 |0,b,s=>by rw[gQ];rfl
 |a+1,b,s=>by rw[show a+1+b=(a+b)+1 by omega,runM,run_add many c a b];rfl
end Go.M
namespace Go.M
end Go.M
namespace Go.M
end Go.M
end
section
namespace Go.M
def wayM (put:List Int) (u:Nat):Bool:=decide ((u:Int)∈put)
end Go.M
namespace Go.M
end Go.M
namespace Go.M
end Go.M
end
