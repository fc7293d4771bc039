import Derived.Test.YtfnpmncplaibiaaGreatDoorWqdP7
/- A part of the proof. -/
set_option linter.all false
set_option maxRecDepth 9999
set_option maxHeartbeats 2000000
noncomputable section
namespace Go.Proofs.YtfnpmncplaibiaaGreatDoor
open Go Go.Vc Go.Proofs
section
variable {w:World} {K:oK} {F Fx Q X:oA} {n bc mb m:Nat} {gs:M.Gs} {v:Value} {ar ab:Addr}
theorem gone (gs:M.Gs):∀y,y∈gs.map yl->∀c,c∈y->c.oneCell'=true:=λy b c a=>by
 obtain⟨g,_,rfl⟩:=gr.1 b;simp only[yl,gg,gx,Ge] at a;rcases a with rfl|rfl|rfl<;>rfl
theorem OwnG.nil:OwnG w (oN) []:=Own.nil 0 3 zA w
theorem Clone_gate (d:GatesR Fx w v gs) (u:gs.length<=1000000) (l:∀w' v',Ext w w'->OwnG w' v' gs->(∀x,v'.ownBlock=some x->w.heap.size<=x)->K v' w'):
  vcall qA #[v] w K:=by
 refine ze {} Tryz.func190 ?_;obtain⟨a,c,rfl,r,s,f⟩:=d.shape;rw[y4] at d r⊢;rw[Wc qg];refine zn (λm=>?_) (λm=>?_)
 .cases a with
  |some a=>cases m
  |none=>
   have k:gs=[]:=by
    have n:gs.map yl=[]:=GJ λh=>by
     obtain⟨b,o,p,_⟩:=f h;cases p
    simpa using n
   subst k;exact l w _ (Same.refl _ _) OwnG.nil λx d=>by cases d
 .refine yj ji YO λb w1 z he A q=>?_;have g:Own 0 3 zA w1 (.slice (some ⟨b,0,none⟩) 0 0) []:=Blk.ownk (css:=[]) (by rw[XS];exact q) (λx d=>by cases d) rfl oM;have j:Sl Fx w1 3 (.slice a gs.length c) (gs.map yl):=Sl.ext d he;refine vappend (bs:=24) qE dC g j (gone gs) oM (by rw[y4];simp;omega) (by rw[y4];simp;omega) λv' w2 t hs i=>?_;have y:=he.size;refine l w2 v' (Ext.then he hs λx d=>by have e:b=x:=K3 d;omega) t λx d=>?_;rcases i x d with h|h
  .have e:b=x:=K3 h;omega
  .omega
theorem sigof_spec {a m:Int} (hm:m.natAbs<=1000000) (b:K (.bool (decide (a≠0/\ -m<=a/\a<=m))) w):vcall Ja #[nI a,nI m] w K:=by
 refine ze {} Tryz.func191 ?_;refine oZ ?_;refine zb (λc=>?_) (λc=>?_)
 .simp(disch:=omega) only[push_cast,zk,gO];refine zb (λd=>?_) (λd=>?_)
  .try simp only[push_cast]
   rwa[show decide (a≠0/\ -m<=a/\a<=m)=decide (a<=m) from decide_eq_decide.2 ⟨λh=>h.2.2,λh=>⟨c,d,h⟩⟩] at b
  .rwa[gj (λh=>d h.2.1)] at b
 .rwa[gj (λh=>c h.1)] at b
theorem Wn {a:Int} {o:Option Addr} {l c mb:Nat}:yr yd [(0,.agg ⟨[nI a,.slice o l c]⟩),(1,.map (some mb))] w K=K (.agg ⟨[nI a,.slice o l c,.map (some mb)]⟩) w:=zS W3 (us:=[[nI a,.slice o l c],[.map (some mb)]]) rfl rfl
theorem k80 {a:Int} {o:Option Addr} {l c:Nat}:yr zx [(0,nI a),(1,.slice o l c)] w K=K (.agg ⟨[nI a,.slice o l c]⟩) w:=zS QH (us:=[[nI a],[.slice o l c]]) rfl rfl
structure Rd (n:Nat) (w:World) (bc:Nat) (v':Value) (mb:Nat) (gs:M.Gs) (i:Nat) (w':World):Prop where
 ext:Ext w w'
 blk:Blk w' bc [nI n,v',.map (some mb)] yd
 own:OwnG w' v' gs
 map:∃f,GMap w' mb f/\∀g,YG g f=if g∈gs.take i then some (2+n+gs.idxOf g:Int) else none
 sep:bc≠mb/\v'.ownBlock≠some bc/\v'.ownBlock≠some mb
 new:∀b,YH bc mb v' b->w.heap.size<=b
theorem readNet_spec (hv:GatesR Fx w v gs) (hg:M.NetG n gs) (hn:n<=8) (hK:∀w' bc v' mb,CktR n bc w' gs v' mb->Ext w w'->(∀b,YH bc mb v' b->w.heap.size<=b)->K (.tuple #[oP bc 0,.bool true]) w'):
  vcall Vn #[.agg ⟨[nI n,v]⟩] w K:=by
 refine ze {loops:=[(5,[37])],cuts:=[(8195,[]),(16388,[4]),(36874,[]),(45069,[])]} Tryz.func128 ?_;refine zj λb1 w1 aq F av x=>?_;have au:GatesR Fx w1 v gs:=Sl.ext hv F;have ae:=hg.few;have hlen:∀(w':World) (K:oK),vbi .len [zA] zV [v] w' K=K (nI gs.length) w':=λw' K=>by rw[Sl.len hv qg,xx0]
 refine zo (λu w'=>u=[]/\w'=w1) ?_ ?_
 .intro J O;simp(disch:=exact oS) only[push_cast,x.ld0];refine zb (λc=>absurd c oM) (λ_=>?_)
  try simp(disch:=exact oS) only[push_cast,x.ld0]
  refine zb (λc=>absurd c oM) (λ_=>?_)
  try simp(disch:=exact oS) only[push_cast,x.ld1,hlen]
  refine zb (λc=>absurd c oM) (λ_=>?_);exact O _ _ ⟨rfl,rfl⟩
 rintro _ _ w2 ⟨rfl,rfl⟩;refine zo (λu w'=> ∃bc v' mb,u=[oP bc 0]/\Rd n w2 bc v' mb gs 0 w') ?_ ?_
 .intro J O;refine zd λw3 B _=>?_;have z:=x.ext B;have e3:=F.trans B;simp(disch:=exact oS) only[push_cast,z.ld0,z.ld1,y1,gQ];refine⟨?_,?_⟩
  .refine Clone_gate (Sl.ext hv e3) oM λw4 v' p k T=>?_;have A:=z.ext p;obtain⟨o,c,rfl,_⟩:=(Own.sl k).shape;simp(disch:=exact oS) only[push_cast,A.ld0,y1,gQ,V1,k80];refine XE0 rfl λmb w5 am a2 l ag=>?_;have q:=A.ext l;simp(disch:=exact oS) only[push_cast,q.ld0,y1,gQ,V1,k80,Wn];refine zj λbc w6 ak r ah E=>?_;have z3:=B.size;have z4:=p.size;have S:=(λb Q=>(Own.lt k (b:=b) Q).2);refine O _ _ ⟨bc,_,mb,rfl,B.trans (p.trans (l.trans r)),E,Own.ext k (l.trans r),⟨[],a2.ext r,λg=>rfl⟩,⟨oM,λh=>by have:=S _ h;omega,λh=>by have:=S _ h;omega⟩,?_⟩;rintro b (rfl|rfl|h)
   .omega
   .omega
   .have:=T b h;omega
  .refine XE0 rfl λmb w5 am a2 l ag=>?_;have q:=z.ext l;simp(disch:=exact oS) only[push_cast,q.ld0,q.ld1,y1,gQ,V1];refine Clone_gate (Sl.ext hv (e3.trans l)) oM λw4 v' p k T=>?_;have A:=q.ext p;obtain⟨o,c,rfl,_⟩:=(Own.sl k).shape;simp(disch:=exact oS) only[push_cast,A.ld0,y1,gQ,V1,k80,Wn];refine zj λbc w6 ak r ah E=>?_;have z3:=B.size;have z4:=p.size;have S:=(λb Q=>(Own.lt k (b:=b) Q).2);refine O _ _ ⟨bc,_,mb,rfl,B.trans (l.trans (p.trans r)),E,Own.ext k r,⟨[],a2.ext (p.trans r),λg=>rfl⟩,⟨oM,λh=>by have:=S _ h;omega,λh=>by have:=T _ h;omega⟩,?_⟩;rintro b (rfl|rfl|h)
   .omega
   .omega
   .have:=T b h;omega
 rintro _ _ w3 ⟨bc,v',mb,rfl,h3⟩;have z:=x.ext h3.ext;simp(disch:=exact oS) only[push_cast,z.ld1,hlen];refine vloop_up gs.length (λi u w'=>u=[nI i]/\Rd n w2 bc v' mb gs i w') ⟨rfl,h3⟩ ?_;rintro i _ _ w4 C hi ⟨rfl,d⟩ hC;have A:=x.ext d.ext;refine oZ ?_;refine zb (λa=>?_) (λa=>?_)
 .have m:i<gs.length:=oM;have k:Sl Fx w4 3 v (gs.map yl):=Sl.ext hv (F.trans d.ext);have al:(gs.map yl).getD i []=yl gs[i]:=(by simp[y2,m]);rw[Sl.iaddr k Y3 oM (by rw[xx0];omega),gl,Sl.ldAgg k xO (by rw[xx0];exact m),al];obtain⟨g1,g2,g3,g4⟩:=hg.gate i m;have Y:gs[i]∉gs.take i:=λh=>by
   obtain⟨j,hj,e⟩:=gn h;rw[gh] at hj;rw[List.getElem_take] at e;exact Gu.1 hg.once j i oM m oM e
  have ao:gs.take (i+1)=gs.take i++[gs[i]]:=by rw[G5,V0 m];rfl
  have af:gs.idxOf gs[i]=i:=List.Nodup.idxOf_getElem hg.once i m;generalize gs[i]=g at*;have absN:∀a:Int,M.absI a=(a.natAbs:Int):=λa=>by unfold M.absI;split<;>omega
  have ga:=absN g.a;have gb:=absN g.b;refine zi ku λb5 w5 ar l ag q=>?_;refine q.stAgg (cs':=yl g) rfl xO (λc hc=>by simp only[yl,gg,gx,Ge] at hc;rcases hc with rfl|rfl|rfl<;>rfl) λw6 an ah E=>?_;have ai:Ext w4 w6:=Ext.then l an λy hy=>by subst hy;omega
  refine zd λw7 aa _=>?_;have N:=E.ext aa;have a4:=ai.trans aa;have Z:=A.ext a4;have a1:∀w':World,Blk w' b5 (yl g) zm->∀K:oK,zu zm (oP b5 0) w' K=K (gv g) w':=λw' hB K=>Blk.ldAgg hB (by exact xO);simp(disch:=exact oS) only[push_cast,N.ld1,N.ld2,y1];refine zo (λu w'=>u=[]/\Ext w7 w') ?_ ?_
  .intro J O;rw[Z.ldAgg (t:=zx) zY];refine nodes_spec oM oM λw8 ab=>?_;refine sigof_spec oM ?_;rw[gu ⟨oM,oM,oM⟩];have aj:=Z.ext ab;simp(disch:=exact oS) only[push_cast,Gh,aj.ldAgg (t:=zx) zY];refine nodes_spec oM oM λw9 D=>?_;refine sigof_spec oM ?_;rw[gu ⟨oM,oM,oM⟩];simp only[push_cast,Gh];refine node_spec oM ?_;refine oZ ?_;refine zb (λc=>absurd c oM) (λ_=>?_);refine node_spec oM ?_;refine oZ ?_;refine zb (λc=>absurd c oM) (λ_=>?_);refine node_spec oM (node_spec oM ?_);refine oZ ?_;refine zb (λc=>absurd c oM) (λ_=>?_);exact O _ _ ⟨rfl,ab.trans D⟩
  rintro _ _ w9 ⟨rfl,D⟩;have a5:=a4.trans D;refine zo (λu w'=>u=[]/\Ext w9 w') ?_ ?_
  .intro J O;refine zd λw10 s _=>?_;have e:=a5.trans s;have a6:=d.blk.ext e;have V:=(N.ext D).ext s;obtain⟨f,hf,hl⟩:=d.map;have ac:=hf.ext e;have a3:YG g f=none:=(by rw[hl,y0 Y]);simp(disch:=exact oS) only[push_cast,a6.ld2,a1 _ V,Yf0 ac,a3,y1];simp(disch:=exact oS) only[push_cast,V.ld0];refine zn (λhx=>?_) (λhx=>?_)
   .obtain⟨p1,p2⟩:=g4 hx
    try simp only[push_cast]
    refine zb (λc=>absurd c oM) (λ_=>?_)
    try simp only[push_cast]
    refine zb (λc=>absurd c oM) (λ_=>?_);exact O _ _ ⟨rfl,s⟩
   .exact O _ _ ⟨rfl,s⟩
  rintro _ _ aw ⟨rfl,G⟩;refine zd λax H _=>?_;have e:=(a5.trans G).trans H;have a7:=d.blk.ext e;have W:=((N.ext D).ext G).ext H;have a9:=((Z.ext D).ext G).ext H;simp(disch:=exact oS) only[push_cast,a7.ld2,a1 _ W,a9.ldAgg (t:=zx) zY,y1];refine nodes_spec oM oM λay X=>?_;have L:=e.trans X;have U:=d.blk.ext L;have a8:=W.ext X;obtain⟨f,hf,hl⟩:=d.map;have a3:YG g f=none:=(by rw[hl,y0 Y]);simp(disch:=exact oS) only[push_cast,U.ld2,a1 _ a8,y1,V1,gQ,zk];refine gset (hf.ext L) a3 λaz ad I ap=>?_
  try simp(disch:=omega) only[push_cast,zk]
  have l4:=d.ext.size;refine hC m _ _ ⟨by simp,Ext.then (d.ext.trans L) I (λb Q=>by have:=d.new b (.inr (.inl Q));omega),U.same I d.sep.1,Own.same (Own.ext d.own L) I (λb Q e=>d.sep.2.2 (e▸Q)),⟨_,ad,λg'=>?_⟩,d.sep,d.new⟩;have e1:=look_app (g:=g') (h:=g) (n:=1+(n:Int)+i+1) (f:=f) (i:=0);have e2:=hl g';unfold YG at e2⊢;rw[e1,e2,ao];by_cases R:g'∈gs.take i
  .rw[y3 R,y3 (gk.2 (.inl R))]
  .rw[y0 R];by_cases a0:g'=g
   .subst a0;simp only;rw[y3 trivial,y3 (by simp),af];congr 1;omega
   .simp only;rw[y0 a0,y0 (by simp[R,a0])]
 .have m:i=gs.length:=oM;subst m;obtain⟨f,hf,hl⟩:=d.map;rw[gy] at hl;have z1:=F.size;exact hK w4 bc v' mb ⟨d.blk,d.own,⟨f,hf,hl⟩,d.sep,ae,hn⟩ (F.trans d.ext) λb Q=>by have:=d.new b Q;omega
end
section
variable {w:World} {K:oK} {F Fx Q X:oA} {n bl bc mb bb kb m:Nat} {gs:M.Gs} {v dv:Value} {ar ab:Addr} {ds:List M.Dcl}
theorem k70 {a:Int}:yr zx [(0,nI a)] w K=K (.agg ⟨[nI a,oN]⟩) w:=zS QH (us:=[[nI a]]) rfl rfl
theorem YU0:yr zx [] w K=K (.agg ⟨[nI 0,oN]⟩) w:=zS QH (us:=[]) rfl rfl
theorem qi0 {a:Addr}:yr yL [(0,.pointer (some a))] w K=K (.agg ⟨[.pointer (some a),.nilIface]⟩) w:=zS W5 (us:=[[.pointer (some a)]]) rfl rfl
theorem qj0 {a:Addr} {o:Option Addr} {l c k m:Nat}:yr yn [(0,.pointer (some a)),(1,.slice o l c),(2,.map (some k)),(3,.map (some m))] w K=K (.agg ⟨[.pointer (some a),.slice o l c,.map (some k),.map (some m)]⟩) w:=zS W6 (us:=[[.pointer (some a)],[.slice o l c],[.map (some k)],[.map (some m)]]) rfl rfl
theorem GatesR.nil:GatesR Fx w (oN) []:=Sl.weaken (Own.sl (OwnG.nil (w:=w))) λb a _=>by cases a
theorem NetG.nil (n:Nat):M.NetG n []:=⟨by simp,λk h=>absurd h (by simp),pa⟩
theorem newBlaster_spec (A:M.declOk ds=true) (n:DclsR Fx w dv ds) (he:Errs (λ_=>False) w ar ab)
  (I:∀w' bl bb kb m F,BlR (M.bits ds).toNat bl bb kb m ar ab ds dv (· =m) F w' (some [])->Ext w w'->(∀b,F b\/b=m\/b=bl->w.heap.size<=b)->K (oP bl 0) w'):vcall Qm #[dv] w K:=by
 refine ze {} Tryz.func88 ?_;have Y:=(M.decl_iff.1 A).2.2;have X:=M.bits_pos' (ds:=ds) λd B=>by
  obtain⟨i,hi,e⟩:=gn B;have:=(M.dcl_wide A hi).1;rw[y2,V0 hi] at this;simp only[GO,e] at this;omega
 refine bitsOf_spec n A λw1 s=>?_;rw[k70,show M.bits ds=(((M.bits ds).toNat:Nat):Int) by omega];refine readNet_spec (Fx:=Fx) (gs:=[]) GatesR.nil (NetG.nil _) oM λw2 bc v' mb G t E=>?_;simp only[push_cast,qi0];refine zj λbb w3 J u S y=>?_;refine kinds_new λV kb q v Q=>?_;refine xf0 XK λm w5 hm D l T=>?_;obtain⟨o,c,rfl,_⟩:=n.shape;rw[qj0];refine zj λbl W L g U z=>?_;have s1:=s.size;have s2:=t.size;have s3:=u.size;have s4:=q.size;have s5:=l.size;have s6:=g.size;have r:=u.trans (q.trans (l.trans g));have x:=t.trans r;have k:=s.trans x;have j:∀b,YH bc mb v' b->b<w2.heap.size:=λb f=>G.lt f;have C:=v.ext (l.trans g);have N:=v.lt;have a:∀b,(YH bc mb v' b\/b=bb)->w.heap.size<=b/\b<V.heap.size:=λb f=>f.elim (λh=>by have:=E b h;have:=j b h;omega) λh=>oM
 refine I W bl bb kb m (λb=>YH bc mb v' b\/b=bb) ⟨⟨⟨?_,?_,?_⟩,⟨bc,y.ext (q.trans (l.trans g)),λgs e=>?_⟩,.inr rfl,λb f=>?_⟩,z,⟨λh=>by have:=(a _ h).2;omega,λh=>by have:=(a _ h).2;omega,?_,oM,oM⟩,rfl,?_,C,?_⟩ k λb f=>?_
 .exact he.room.same k id
 .exact he.bits.same k id
 .have Z:=he.room.lt;have l2:=he.bits.lt;exact⟨λh=>by have:=(a _ h).1;omega,λh=>by have:=(a _ h).1;omega⟩
 .cases e;exact⟨v',mb,G.ext r,λh=>by have:=j _ h;omega,λb f=> .inl f⟩
 .rcases f with h|h
  .have:=(a _ h).2;omega
  .omega
 .rintro(h|h)
  .have:=j _ h;omega
  .omega
 .have H:DclsR (λb=>Fx b/\b<w.heap.size) w _ ds:=Sl.weaken n λb f O=>⟨f,O⟩;exact Sl.weaken (Sl.ext H k) λb f _=>⟨λh=>by have:=(a _ h).1;omega,λh=>oM⟩
 .exact⟨[],D.ext g,λp R=>by cases R⟩
 .rcases f with h|h|h
  .exact(a _ h).1
  .omega
  .omega
theorem Z00 {t:M.Tm} (h:M.tsort ds t≠ -1):M.fits t=true/\M.declOk ds=true/\M.sortM ds t≠ -1/\M.sizeM t<=20:=by
 unfold M.tsort at h;split at h
 .next a=>exact⟨a.1,a.2,h,(M.fits_iff.1 a.1).1⟩
 .exact absurd rfl h
end
section
variable {w:World} {K:oK} {D F Fx Y S:oA} {n b4 b8:Nat} {gs:M.Gs} {v nv:Value} {cs':List Value}
theorem net_one {a:Int} {o:Option Addr} {l c:Nat}:∀u,u∈[nI a,.slice o l c]->u.oneCell'=true:=λu hu=>by
 simp only[gg,gx,Ge] at hu;rcases hu with rfl|rfl<;>rfl
theorem jC0 {op:BinOp} (a:op= .eql\/op= .neq) (c:Bool) (x y:Array Value):(eqG op zm c (.agg x) (.agg y)).run P w= .ok () w:=by
 rcases a with rfl|rfl<;>cases c<;>kernel_rfl
theorem yG0 {c:Bool} (g h:M.Gt):qG .eql zm c (gv g) (gv h) w K=K (.bool (decide (g=h))) w:=by
 have a:(Op.equal zm (gv g) (gv h)).run P w= .ok (decide (g=h)) w:=eqGate g h w;refine yq (jC0 (.inl rfl) c _ _) ?_;have e:∀xs ys:Array Value,binOp .eql zm (.agg xs) (.agg ys)=(do let b <-Op.equal zm (.agg xs) (.agg ys);pure (Value.bool b)):=λ_ _=>rfl;unfold gv at a⊢;rw[e,Sem.run_bind,a];rfl
abbrev GOff (D:oA) (w:World) (v:Value) (gs:M.Gs):Prop:=GatesR (λb=> ¬D b) w v gs
theorem GOff.swap {w':World} (h:GOff D w v gs) (hw:Same S w w') (d:∀b,S b->D b) (e:∀b,Y b->b<w.heap.size->D b):GOff Y w' v gs:=by
 have c:GatesR (λb=> ¬D b/\b<w.heap.size) w v gs:=Sl.weaken h λb a f=>⟨a,f⟩;exact Sl.weaken (Sl.same c hw λb a _ hs=>a.1 (d b hs)) λb a _ g=>a.1 (e b g a.2)
theorem gates_app {x:Value} {b1:Nat} {t0:TypeId} {g:M.Gt} (q:GatesR Fx w x gs) (l:Blk w b1 (yl g) t0) (s:gs.length<=1000) (o:OwnG w v []) (p:∀b,v.ownBlock=some b->b≠b1)
  (m:∀w' v',OwnG w' v' (gs++[g])->Same (λb=>v.ownBlock=some b\/w.heap.size<=b) w w'->(∀b,v'.ownBlock=some b->v.ownBlock=some b\/w.heap.size<=b)->K v' w'):
  vbi .append [zA,zA] zA [v,x] w λt w1=>vbi .append [zA,zA] zA [t,.slice (some ⟨b1,0,none⟩) 1 1] w1 K:=by
 refine vappend (bs:=24) qE dC o q (gone gs) oM (by rw[y4];simp;omega) (by rw[y4];simp;omega) λv' w2 i a c=>?_;have n:=l.lt;refine Own.app1k (bs:=24) i qE dC (l.same a λe=>p _ e rfl) rfl (gone [g] _ (by simp)) (by simp;omega) (by simp;omega) λv3 r j k f=>?_;have s2:=a.size;refine m r v3 (by unfold OwnG;rw[gz];exact j) (Same.thn (a.mono λb _ h=> .inl h) (k.mono λb _ h=>h) λb d=> .inl ((c b d).imp id id)) λb d=>?_;rcases f b d with h|h
 .exact c b h
 .exact .inr oM
theorem sput_spec {g:M.Gt} (hn:n<=8) (hg:GOff D w nv gs) (hl:gs.length<=600) (hD:∀b,D b->b<w.heap.size)
  (hK:∀w' n' gv',Ext w w'->GOff D w' gv' (if(M.putG n gs g).2=0 then[] else(M.putG n gs g).1)->(n'=if(M.putG n gs g).2=0 then 0 else n)->((M.putG n gs g).2=0->gv'= oN)->K (.tuple #[.agg ⟨[nI (n':Nat),gv']⟩,nI (M.putG n gs g).2]) w'):
  vcall QT #[.agg ⟨[nI n,nv]⟩,.agg ⟨yl g⟩] w K:=by
 refine ze {loops:=[(2,[6])],cuts:=[(36873,[])]} Tryz.func267 ?_;refine zj λb1 w1 aw W b0 ae=>?_;refine zj λb2 w2 ax Q b4 af=>?_;refine zi j0 λb3 w3 ay a2 b5 a1=>?_;have e3:=W.trans (Q.trans a2);have a6:=ae.ext (Q.trans a2);have a7:=af.ext a2;have X:∀w':World,Blk w' b2 (yl g) zm->∀K:oK,zu zm (oP b2 0) w' K=K (.agg ⟨yl g⟩) w':=λw' hB K=>Blk.ldAgg hB (by exact xO);have hlen:∀(w':World) (K:oK),vbi .len [zA] zV [nv] w' K=K (nI gs.length) w':=λw' K=>by rw[Sl.len hg qg,xx0]
 obtain⟨go,gc,am,_⟩:=hg.shape;have aa:∀i,i<gs.length->gs.getD i ⟨false,0,0⟩=g->g∉gs.take i->(M.putG n gs g)=(gs,(2+n+i:Int)):=λi hi h1 h2=>by
  have hm:g∈gs:=h1▸M.getD_mem hi _;unfold M.putG;rw[y3 hm];have:gs.idxOf g=i:=by
   have e:=GR i gs;have h3:gs.drop i=gs.getD i ⟨false,0,0⟩::gs.drop (i+1):=by
    rw[PG hi,y2,V0 hi];rfl
   rw[<-e,pN,y0 h2,h3,h1,List.idxOf_cons_self,gh];omega
  rw[this]
 refine vloop_up gs.length (λi u w'=>u=[nI i]/\Ext w3 w'/\g∉gs.take i) ⟨rfl,Same.refl _ _,by simp⟩ ?_;rintro i _ _ w4 C hi ⟨rfl,r,R⟩ hC;have B:=a6.ext r;have Z:=a7.ext r;have e4:=e3.trans r;simp(disch:=first|omega|simp only[push_cast]) only[push_cast,B.ld1,hlen];refine zb (λa=>?_) (λa=>?_)
 .have z:i<gs.length:=oM;refine zd λH l _=>?_;have j:=B.ext l;have E:=Z.ext l;have a9:GOff D H nv gs:=Sl.ext hg (e4.trans l);have al:(gs.map yl).getD i []=yl (gs.getD i ⟨false,0,0⟩):=M.getD_map _ z _ _;simp(disch:=first|omega|simp only[push_cast]) only[push_cast,j.ld1,y1];rw[Sl.iaddr a9 Y3 oM (by rw[xx0];omega),gl];simp(disch:=first|omega|simp only[push_cast]) only[push_cast,y1];rw[Sl.ldAgg a9 xO (by rw[xx0];exact z),al];simp(disch:=first|omega|simp only[push_cast]) only[push_cast,y1,X _ E];rw[show(Value.agg ⟨yl (gs.getD i ⟨false,0,0⟩)⟩)=gv (gs.getD i ⟨false,0,0⟩) from rfl,show(Value.agg ⟨yl g⟩)=gv g from rfl,yG0];refine⟨rfl,?_⟩;refine zb (λc=>?_) (λc=>?_)
  .have hp:=aa i z c R;rw[hp] at hK;refine zd λI f _=>?_;have d:=j.ext f;have O:=(a1.ext (r.trans l)).ext f;subst am;simp(disch:=first|omega|simp only[push_cast]) only[push_cast,d.ld0,d.ldAgg (t:=zx) zY,y1,zk];refine O.stAgg (cs':=[nI n,.slice go (gs.map yl).length gc]) rfl zY net_one λv m Y q=>?_;have e7:Ext w v:=Ext.then ((e4.trans l).trans f) m λb p=>by have:=W.size;have:=Q.size;omega
   have k:=d.same m (show¬b1=b3 by omega);simp(disch:=first|omega|simp only[push_cast]) only[push_cast,k.ld0,y1,V1,zk];rw[q.lv (t:=zx) zY];refine hK v n _ e7 ?_ ?_ ?_
   .rw[y0 (by show(2+(n:Int)+i)≠0;omega)];exact Sl.ext hg e7
   .rw[y0 (by show(2+(n:Int)+i)≠0;omega)]
   .intro h;exfalso;revert h;show(2+(n:Int)+i)=0->False;omega
  .simp(disch:=omega) only[push_cast,zk];refine hC z _ _ ⟨by simp,r.trans l,?_⟩;rw[M.take_add z ⟨false,0,0⟩];intro h;rcases gk.1 h with h|h
   .exact R h
   .exact c (gw.1 h).symm
 .have z:i=gs.length:=oM;subst z;rw[gy] at R
  try simp(disch:=first|omega|simp only[push_cast]) only[push_cast,B.ld1,hlen]
  refine zb (λc=>?_) (λc=>?_)
  .have hp:M.putG n gs g=(gs,0):=by unfold M.putG;rw[y0 R,y3 oM]
   rw[hp] at hK;rw[YU0];refine(a1.ext r).stAgg (cs':=[nI 0,oN]) rfl zY net_one λv m Y q=>?_;rw[q.lv (t:=zx) zY];have e7:Ext w v:=Ext.then e4 m λb p=>by have:=W.size;have:=Q.size;omega
   exact hK v 0 _ e7 (by rw[y3 rfl];exact GatesR.nil) (by rw[y3 rfl]) λ_=>rfl
  .have hp:M.putG n gs g=(gs++[g],(2+n+gs.length:Int)):=by unfold M.putG;rw[y0 R,y0 oM]
   rw[hp] at hK;have s1:=W.size;have s2:=Q.size;have s4:=e4.size;have bb:=r.size;refine zo (λu w'=>u=[]/\Ext w w'/\∃v',Blk w' b1 [nI n,v'] zx/\Blk w' b3 [nI 0,oN] zx/\OwnG w' v' (gs++[g])/\∀b,v'.ownBlock=some b->w.heap.size<=b/\b≠b1/\b≠b3) ?_ ?_
   .intro J hJ;refine zd λH l _=>?_;have e5:=e4.trans l;have j:=B.ext l;have E:=Z.ext l;have N:=(a1.ext r).ext l;have s5:=l.size;have fin:∀(U:World) (v':Value),Same (λb=>H.heap.size<=b) H U->OwnG U v' (gs++[g])->(∀b,v'.ownBlock=some b->H.heap.size<=b)->zT zA (oE (Addr.add ⟨b1,0,none⟩ 1)) v' U λ_ ad=>J [] ad:=λU v' L A G=>by
     have e8:Ext H U:=⟨L.os,L.tape,L.output,L.size,λi hi _=>L.block i hi oM⟩;refine Blk.st (i:=1) (j.ext e8) (Sl.cells1 (Own.sl A)) (Sl.one (Own.sl A)) QP rfl λw9 T ba ah=>?_;refine hJ _ _ ⟨rfl,Ext.then (e5.trans e8) T λb p=>oM,v',ah,(N.ext e8).same T (show¬b3=b1 by omega),Own.same A T (λb p e=>by have:=G b p;omega),λb p=>by have:=G b p;omega⟩
    simp(disch:=first|omega|simp only[push_cast]) only[push_cast,j.ld1,X _ E,y1,gQ];have mk:∀(I:World) (K:oK),(∀b7 v,b7=I.heap.size->Ext I v->v.heap.size=I.heap.size+1->Blk v b7 (yl g) zm->K (.slice (some ⟨b7,0,none⟩) 1 1) v)->vbuildS zA 1 [(0,.agg ⟨yl g⟩)] I K:=λI K h=>
     qx ji rK ku (y:=yl g) rfl rfl (show 3<=16777216 by decide) h
    have nil:∀{I:World} {F:Nat},Blk I F [] zm->OwnG I (.slice (some ⟨F,0,none⟩) 0 0) []:=λh=>Blk.ownk (css:=[]) (by rw[XS];exact h) (λx hx=>by cases hx) rfl oM;refine⟨?_,?_⟩
    .refine yj ji YO λF I aj f av V=>?_;have d:=j.ext f;have a0:=E.ext f;simp(disch:=first|omega|simp only[push_cast]) only[push_cast,d.ld1,X _ a0,y1,gQ,V1];refine⟨?_,?_⟩
     .refine vappend (bs:=24) qE dC (nil V) (Sl.ext hg (e5.trans f)) (gone gs) oM (by rw[y4];simp;omega) (by rw[y4];simp;omega) λv7 v aq m an=>?_;have s7:=m.size;have a8:=a0.same m λe=>by have e:F=b2:=K3 e;omega
      simp(disch:=first|omega|simp only[push_cast]) only[push_cast,X _ a8,y1,gQ,V1];refine mk v _ λb8 U az a3 b9 ag=>?_;have n7:∀b,v7.ownBlock=some b->H.heap.size<=b:=λb p=>(an b p).elim (λe=>by have e:F=b:=K3 e;omega) λh=>oM;refine Own.app1k (bs:=24) (Own.ext aq a3) qE dC ag rfl (gone [g] _ (by simp)) (by simp;omega) (by simp;omega) λv9 w9 ar T ao=>?_
      try simp(disch:=first|omega|simp only[push_cast]) only[push_cast,y1,gQ,V1]
      have s8:=a3.size;refine fin w9 v9 (Same.thn (((Same.of_ext f).trans (m.mono (S':=λb=>H.heap.size<=b) λb _ e=>by have e:F=b:=K3 e;omega)).trans (Same.of_ext a3)) (T.mono (S':=λb=>H.heap.size<=b) λb _ e=>n7 b e) λb p=> .inl p) (by unfold OwnG;rw[gz];exact ar) λb p=>(ao b p).elim (n7 b) λh=>oM
     .refine mk I _ λb7 v ak s Y q=>?_;have k:=d.ext s;simp(disch:=first|omega|simp only[push_cast]) only[push_cast,k.ld1,y1,gQ,V1];refine gates_app (Sl.ext hg ((e5.trans f).trans s)) q oM (nil (V.ext s)) (λb e=>by have e:F=b:=K3 e;omega) λU v8 A a5 G=>?_
      try simp(disch:=first|omega|simp only[push_cast]) only[push_cast,y1,gQ,V1]
      refine fin U v8 (((Same.of_ext (f.trans s))).trans (a5.mono (S':=λb=>H.heap.size<=b) λb _ e=>e.elim (λe=>by have e:F=b:=K3 e;omega) λh=>oM)) A λb p=>(G b p).elim (λe=>by have e:F=b:=K3 e;omega) λh=>oM
    .refine mk H _ λb7 v ak s Y q=>?_;have k:=j.ext s;simp(disch:=first|omega|simp only[push_cast]) only[push_cast,k.ld1,y1,gQ,V1];refine yj ji YO λF I aj f av V=>?_;have d:=k.ext f;simp(disch:=first|omega|simp only[push_cast]) only[push_cast,d.ld1,y1,gQ,V1];refine gates_app (Sl.ext hg ((e5.trans s).trans f)) (q.ext f) oM (nil V) (λb e=>by have e:F=b:=K3 e;omega) λU v8 A a5 G=>?_
     try simp(disch:=first|omega|simp only[push_cast]) only[push_cast,y1,gQ,V1]
     refine fin U v8 (((Same.of_ext (s.trans f))).trans (a5.mono (S':=λb=>H.heap.size<=b) λb _ e=>e.elim (λe=>by have e:F=b:=K3 e;omega) λh=>oM)) A λb p=>(G b p).elim (λe=>by have e:F=b:=K3 e;omega) λh=>oM
   rintro _ _ H ⟨rfl,e5,v',j,N,a4,ac⟩;refine zd λI f _=>?_;have d:=j.ext f;have ap:=Own.ext a4 f;have O:=N.ext f;have ab:∀(w':World) (K:oK),vbi .len [zA] zV [v'] w' K=K (nI ((gs.length+1:Nat):Int)) w':=λw' K=>by
    rw[Sl.len (Own.sl a4) qg,y4,q0];rfl
   obtain⟨o,c',au,_⟩:=(Own.sl a4).shape;simp(disch:=first|omega|simp only[push_cast]) only[push_cast,d.ld0,d.ld1,ab,d.ldAgg (t:=zx) zY,y1,zk];subst au;refine O.stAgg (cs':=[nI n,.slice o (List.map yl (gs++[g])).length c']) rfl zY net_one λv m Y q=>?_;have k:=d.same m (show¬b1=b3 by omega);simp(disch:=first|omega|simp only[push_cast]) only[push_cast,k.ld0,k.ld1,ab,y1,V1,zk];rw[q.lv (t:=zx) zY];have e7:Ext w v:=Ext.then (e5.trans f) m λb p=>oM;have S:(2+(n:Int)+gs.length)≠0:=oM;have ai:=hK v n (.slice o (List.map yl (gs++[g])).length c') e7 (by rw[y0 S];exact Sl.weaken (Own.sl (Own.same ap m λb p e=>(ac b p).2.2 e)) λb p _ hd=>by have:=hD b hd;have:=(ac b p).1;omega) (by rw[y0 S]) λh=>absurd h S;rwa[show(2+(n:Int)+gs.length)=1+n+((gs.length+1:Nat):Int) by omega] at ai
end
section
variable {w:World} {K:oK} {D F Y S:oA} {n b8:Nat} {gs:M.Gs} {v nv:Value} {cs cs':List Value} {a b m:Int}
def NetO (n:Nat) (D:oA) (w:World) (gs:M.Gs) (m:Int) (cs:List Value):Prop:=
 if m=0 then cs=[nI 0,.slice none 0 0] else ∃o l c,cs=[nI n,.slice o l c]/\GOff D w (.slice o l c) gs/\gs.length<=600
theorem NetO.form (h:NetO n D w gs m cs):∃(x:Int) (o:Option Addr) (l c:Nat),cs=[nI x,.slice o l c]:=by
 unfold NetO at h;split at h
 .exact⟨_,_,_,_,h⟩
 .obtain⟨o,l,c,e,_⟩:=h;exact⟨_,_,_,_,e⟩
theorem NetO.len (h:NetO n D w gs m cs):cs.length=2:=by obtain⟨x,o,l,c,rfl⟩:=h.form;rfl
theorem NetO.one (h:NetO n D w gs m cs):∀u,u∈cs->u.oneCell'=true:=by obtain⟨x,o,l,c,rfl⟩:=h.form;exact net_one
theorem NetO.same {w':World} (h:NetO n D w gs m cs) (hw:Same S w w') (f:∀b,S b->D b):NetO n D w' gs m cs:=by
 unfold NetO at h⊢;by_cases hm:m=0
 .rw[y3 hm] at h⊢;exact h
 .rw[y0 hm] at h⊢;obtain⟨o,l,c,e,a,d⟩:=h;exact⟨o,l,c,e,a.swap hw f λb g _=>g,d⟩
theorem NetO.weak {Y:oA} (h:NetO n D w gs m cs) (f:∀b,Y b->D b):NetO n Y w gs m cs:=by
 unfold NetO at h⊢;by_cases hm:m=0
 .rw[y3 hm] at h⊢;exact h
 .rw[y0 hm] at h⊢;obtain⟨o,l,c,e,a,d⟩:=h;exact⟨o,l,c,e,Sl.weaken a λb g _ i=>g (f b i),d⟩
theorem NetO.put {f:Nat} {a:Value} (d:GOff D w a (if m=0 then[] else gs)) (b:f=if m=0 then 0 else n) (g:m=0->a= oN) (h:gs.length<=600):NetO n D w gs m [nI (f:Nat),a]:=by
 unfold NetO;by_cases c:m=0
 .rw[y3 c] at b⊢;rw[b,g c];rfl
 .rw[y0 c] at d b⊢;obtain⟨o,c',e,_⟩:=d.shape;exact⟨o,_,c',by rw[b,e],by rw[<-e];exact d,h⟩
theorem NetO.of {o:Option Addr} {l c:Nat} (h:GOff D w (.slice o l c) gs) (a:gs.length<=600) (hm:m≠0):NetO n D w gs m [nI n,.slice o l c]:=by
 unfold NetO;rw[y0 hm];exact⟨o,l,c,rfl,h,a⟩
theorem put_len {g:M.Gt} (h:gs.length<=600):(M.putG n gs g).1.length<=600:=by
 unfold M.putG;split
 .exact h
 .split
  .exact h
  .rw[q0,Gd];omega
theorem l4Abs_sm (c:Sm a) (b:K (nI (M.absI a)) w):vcall QU #[nI a] w K:=by
 refine ze {} Tryz.func266 ?_;unfold M.absI at b;refine oZ ?_;refine zb (λh=>?_) (λh=>?_)
 .rw[y3 h] at b;simp(disch:=omega) only[push_cast,zk,gO];exact b
 .rw[y0 h] at b;exact b
theorem xG0 (x y:Int):yr zm [(1,nI x),(2,nI y)] w K=K (.agg ⟨yl ⟨false,x,y⟩⟩) w:=zS Zl (us:=[[nI x],[nI y]]) rfl rfl
theorem ZU0 (x y:Int):yr zm [(0,.bool true),(1,nI x),(2,nI y)] w K=K (.agg ⟨yl ⟨true,x,y⟩⟩) w:=zS Zl (us:=[[.bool true],[nI x],[nI y]]) rfl rfl
theorem net_out {b2:Nat} {a:List Value} (e:Blk w b2 a zx) (g:a.length=2) (c:cs.length=2) (d:∀u,u∈cs->u.oneCell'=true) (f:∀w',Same (· =b2) w w'->K (.agg ⟨cs⟩) w'):
  zT zx (oP b2 0) (.agg ⟨cs⟩) w λ_ w1=>vlv zx (oP b2 0) w1 K:=by
 refine e.stAgg (cs':=cs) oM (by rw[c];exact zY) d λw1 hs h b=>?_;rw[b.lv (t:=zx) (by rw[c];exact zY)];exact f w1 hs
theorem sand6_spec (hn:n<=8) (L:GOff D w nv gs) (l:gs.length<=600) (hD:∀b,D b->b<w.heap.size) (ha:Sm a) (d:Sm b) (R:a≠0) (S:b≠0)
  (I:∀w' cs,Ext w w'->NetO n D w' (M.andG n gs a b).1 (M.andG n gs a b).2 cs->K (.tuple #[.agg ⟨cs⟩,nI (M.andG n gs a b).2]) w'):
  vcall zL0 #[.agg ⟨[nI n,nv]⟩,nI a,nI b] w K:=by
 refine ze {cuts:=[(8201,[]),(8194,[8]),(16388,[22])]} Tryz.func218 ?_;obtain⟨go,gc,U,_⟩:=L.shape;rw[U] at L⊢;refine zj λb1 w1 a0 r a2 O=>?_;refine zi j0 λb2 w2 a1 j a3 p=>?_;have N:=r.trans j;have o:=O.ext j;have f:∀K:oK,zu zx (oP b1 0) w2 K=K (.agg ⟨[nI n,.slice go (gs.map yl).length gc]⟩) w2:=λK=>o.ldAgg (t:=zx) zY;have z1:=r.size;have z2:=j.size;have same:∀(x:Int),x≠0->(M.andG n gs a b)=(gs,x)->∀w':World,w'=w2->zT zx (oP b2 0) (.agg ⟨[nI n,.slice go (gs.map yl).length gc]⟩) w' λ_ A=>vlv zx (oP b2 0) A λr6 B=>K (.tuple #[r6,(nI x)]) B:=λx hx e w' ew=>by
  subst ew;rw[e] at I;refine net_out p rfl rfl net_one λm X=>?_;have e3:Ext w m:=Ext.then N X λy Y=>by subst Y;omega
  exact I m _ e3 (NetO.of (Sl.ext L e3) l hx)
 have V:GatesR (λb=> ¬D b/\b<w.heap.size) w (.slice go (gs.map yl).length gc) gs:=Sl.weaken L λb d l=>⟨d,l⟩;have put:∀g:M.Gt,(M.andG n gs a b)=M.putG n gs g->vcall QT #[.agg ⟨[nI n,.slice go (gs.map yl).length gc]⟩,.agg ⟨yl g⟩] w2 λt47 C=>qI t47 0 C λt48 E=>qI t47 1 E λt49 F=>
   zT zx (oP b2 0) t48 F λ_ G=>vlv zx (oP b2 0) G λz H=>K (.tuple #[z,t49]) H:=λg e=>by
  rw[e] at I;refine sput_spec (D:=λb=>D b\/b=b2) hn (Sl.weaken (Sl.ext V N) λb d l hd=>hd.elim d.1 λe=>by have:=d.2;omega) l (λb d=>d.elim (λh=>by have:=hD b h;omega) λh=>oM) λm n' a4 s T W Z=>?_;refine oZ ?_;have Q:=NetO.put T W Z (put_len l);refine net_out (p.ext s) rfl Q.len Q.one λw4 v=>?_;exact I w4 _ (Ext.then (N.trans s) v λy Y=>by subst Y;omega) ((Q.same v λb d=> .inr d).weak λb d=> .inl d)
 unfold Sm at ha d;refine zo (λu w'=>u=[]/\w'=w2/\M.andG n gs a b=M.putG n gs ⟨false,a,b⟩) ?_ ?_
 .intro J hJ;refine zo (λu w'=>u=[.bool (decide (a= -1\/b= -1\/a= -b))]/\w'=w2) ?_ ?_
  .intro J1 i;refine oZ ?_;refine zb (λc=>i _ _ ⟨by rw[gu (.inl c)],rfl⟩) (λc=>?_)
   try simp only[push_cast]
   refine zb (λc2=>i _ _ ⟨by rw[gu (.inr (.inl c2))],rfl⟩) (λc2=>?_);simp(disch:=omega) only[push_cast,zk,gO];refine i _ _ ⟨?_,rfl⟩;rw[decide_eq_decide.2 (show(a= -1\/b= -1\/a= -b)↔a= -b from⟨λh=>h.elim (λh=>absurd h c) λh=>h.elim (λh=>absurd h c2) id,λh=> .inr (.inr h)⟩)]
  rintro _ _ m ⟨rfl,rfl⟩;refine oZ ?_;refine zb (λc=>?_) (λc=>?_)
  .rw[f];refine same (-1) dC ?_ _ rfl;unfold M.andG;by_cases c1:a= -1\/b= -1
   .rw[y3 c1]
   .rw[y0 c1];have c2:a= -b:=c.elim (λh=>absurd (.inl h) c1) λh=>h.elim (λh=>absurd (.inr h) c1) id;rw[y0 oM,y0 oM];by_cases c3:a=b
    .exfalso;omega
    .rw[y0 c3,y3 c2]
  refine zo (λu w'=>u=[.bool (decide (a=1\/a=b))]/\w'=m) ?_ ?_
  .intro J2 q
   try simp only[push_cast]
   refine zb (λc=>q _ _ ⟨by rw[gu (.inl c)],rfl⟩) (λc2=>?_)
   try simp only[push_cast]
   refine q _ _ ⟨?_,rfl⟩;rw[decide_eq_decide.2 (show(a=1\/a=b)↔a=b from⟨λh=>h.elim (λh=>absurd h c2) id,.inr⟩)]
  rintro _ _ w4 ⟨rfl,rfl⟩;have c1: ¬(a= -1\/b= -1):=λh=>c (h.elim .inl λh=> .inr (.inl h));refine oZ ?_;refine zb (λc2=>?_) (λc2=>?_)
  .rw[f];refine same b S ?_ _ rfl;unfold M.andG;rw[y0 c1];by_cases c3:a=1
   .rw[y3 c3]
   .have k:a=b:=c2.elim (λh=>absurd h c3) id;rw[y0 c3];by_cases c5:b=1
    .omega
    .rw[y0 c5,y3 k,k]
  try simp only[push_cast]
  refine zb (λc3=>?_) (λc3=>?_)
  .rw[f];refine same a R ?_ _ rfl;unfold M.andG;rw[y0 c1,y0 (λh=>c2 (.inl h)),y3 c3]
  have hand:M.andG n gs a b=M.putG n gs (M.gateA a b):=by
   unfold M.andG;rw[y0 c1,y0 (λh=>c2 (.inl h)),y0 c3,y0 (λh=>c2 (.inr h)),y0 (λh=>c (.inr (.inr h)))]
  refine l4Abs_sm ha (l4Abs_sm d ?_)
  try simp only[push_cast]
  unfold M.gateA at hand;refine zb (λk=>?_) (λk=>?_)
  .rw[y3 k] at hand;rw[f,xG0];exact put _ hand
  .rw[y0 k] at hand;exact hJ _ _ ⟨rfl,rfl,hand⟩
 rintro _ _ m ⟨rfl,rfl,hp⟩;rw[f,xG0];exact put _ hp
theorem sxor6_spec (hn:n<=8) (Q:GOff D w nv gs) (z:gs.length<=600) (hD:∀b,D b->b<w.heap.size) (W:Sm a) (j:Sm b) (a6:a≠0) (a7:b≠0)
  (O:∀w' cs,Ext w w'->NetO n D w' (M.xorG n gs a b).1 (M.xorG n gs a b).2 cs->K (.tuple #[.agg ⟨cs⟩,nI (M.xorG n gs a b).2]) w'):
  vcall zJ0 #[.agg ⟨[nI n,nv]⟩,nI a,nI b] w K:=by
 refine ze {cuts:=[(8201,[]),(8194,[13]),(16388,[25]),(45068,[8]),(53262,[8]),(69651,[9,10])]} Tryz.func268 ?_;obtain⟨go,gc,Z,_⟩:=Q.shape;rw[Z] at Q⊢;refine zj λb1 w1 a8 H ad T=>?_;refine zi j0 λb2 w2 a9 s ae F=>?_;have R:=H.trans s;have E:=T.ext s;have o:∀K:oK,zu zx (oP b1 0) w2 K=K (.agg ⟨[nI n,.slice go (gs.map yl).length gc]⟩) w2:=λK=>E.ldAgg (t:=zx) zY;have z1:=H.size;have z2:=s.size;have same:∀(x:Int),x≠0->(M.xorG n gs a b)=(gs,x)->∀w':World,w'=w2->zT zx (oP b2 0) (.agg ⟨[nI n,.slice go (gs.map yl).length gc]⟩) w' λ_ I=>vlv zx (oP b2 0) I λr6 L=>K (.tuple #[r6,(nI x)]) L:=λx hx e w' ew=>by
  subst ew;rw[e] at O;refine net_out F rfl rfl net_one λC a2=>?_;have e3:Ext w C:=Ext.then R a2 λy B=>by subst B;omega
  exact O C _ e3 (NetO.of (Sl.ext Q e3) z hx)
 have a0:GatesR (λb=> ¬D b/\b<w.heap.size) w (.slice go (gs.map yl).length gc) gs:=Sl.weaken Q λb j z=>⟨j,z⟩;have absN:∀a:Int,M.absI a=(a.natAbs:Int):=λa=>by unfold M.absI;split<;>omega
 have na:=absN a;have nb:=absN b;unfold Sm at W j;refine zo (λu w'=>u=[]/\w'=w2/\M.xorG n gs a b=((M.putG n gs (M.gateX a b)).1,M.turnI (decide (a<0) != decide (b<0)) (M.putG n gs (M.gateX a b)).2)) ?_ ?_
 .intro J hJ;refine zo (λu w'=>u=[.bool (decide (a=1\/a= -1))]/\w'=w2) ?_ ?_
  .intro N i;refine oZ ?_;refine zb (λc=>i _ _ ⟨by rw[gu (.inl c)],rfl⟩) (λc=>?_)
   try simp only[push_cast]
   refine i _ _ ⟨?_,rfl⟩;rw[decide_eq_decide.2 (show(a=1\/a= -1)↔a= -1 from⟨λh=>h.elim (λh=>absurd h c) id,.inr⟩)]
  rintro _ _ C ⟨rfl,rfl⟩;refine oZ ?_;refine zb (λc=>?_) (λc=>?_)
  .rw[o];have e:M.xorG n gs a b=(gs,-a*b):=by
    unfold M.xorG;rcases c with rfl|rfl
    .rw[y3 dC];simp[M.turnI]
    .rw[y3 dC];simp[M.turnI]
   have hm:(-a*b).natAbs=b.natAbs:=by rcases c with rfl|rfl<;>simp
   have k: -a*b≠0:=oM;simp(disch:=omega) only[push_cast,zk,gO];exact same (-a*b) k e _ rfl
  refine zo (λu w'=>u=[.bool (decide (b=1\/b= -1))]/\w'=C) ?_ ?_
  .intro N i
   try simp only[push_cast]
   refine zb (λc=>i _ _ ⟨by rw[gu (.inl c)],rfl⟩) (λc=>?_)
   try simp only[push_cast]
   refine i _ _ ⟨?_,rfl⟩;rw[decide_eq_decide.2 (show(b=1\/b= -1)↔b= -1 from⟨λh=>h.elim (λh=>absurd h c) id,.inr⟩)]
  rintro _ _ w4 ⟨rfl,rfl⟩;refine oZ ?_;have c1: ¬M.absI a=1:=oM;refine zb (λd=>?_) (λd=>?_)
  .rw[o];have e:M.xorG n gs a b=(gs,-b*a):=by
    unfold M.xorG;rw[y0 c1];rcases d with rfl|rfl
    .rw[y3 dC];simp[M.turnI]
    .rw[y3 dC];simp[M.turnI]
   have hm:(-b*a).natAbs=a.natAbs:=by rcases d with rfl|rfl<;>simp
   have k: -b*a≠0:=oM;simp(disch:=omega) only[push_cast,zk,gO];exact same (-b*a) k e _ rfl
  have c2: ¬M.absI b=1:=oM
  try simp only[push_cast]
  refine zb (λf=>?_) (λf=>?_)
  .rw[o];exact same (-1) dC (by unfold M.xorG;rw[y0 c1,y0 c2,y3 f]) _ rfl
  try simp(disch:=omega) only[push_cast,zk,gO]
  refine zb (λf2=>?_) (λf2=>?_)
  .rw[o];exact same 1 dC (by unfold M.xorG;rw[y0 c1,y0 c2,y0 f,y3 f2]) _ rfl
  exact hJ _ _ ⟨rfl,rfl,by unfold M.xorG;rw[y0 c1,y0 c2,y0 f,y0 f2]⟩
 rintro _ _ C ⟨rfl,rfl,hx⟩;rw[hx] at O;have ac:=put_abs (g:=M.gateX a b) z hn;refine zo (λu w'=>u=[nI (if a<0 then-1 else 1)]/\w'=C) ?_ ?_
 .intro N i;refine oZ ?_;refine zb (λc=>?_) (λc=>?_)
  .simp(disch:=omega) only[push_cast,zk,gO];exact i _ _ ⟨by rw[y3 c],rfl⟩
  .exact i _ _ ⟨by rw[y0 c],rfl⟩
 rintro _ _ w4 ⟨rfl,rfl⟩;refine zo (λu w'=>u=[nI (if(decide (a<0) != decide (b<0)) then-1 else 1)]/\w'=w4) ?_ ?_
 .intro N i;refine oZ ?_;refine zb (λc=>?_) (λc=>?_)
  .by_cases d:a<0
   .rw[y3 d];simp(disch:=omega) only[push_cast,zk,gO];exact i _ _ ⟨by simp[c,d],rfl⟩
   .rw[y0 d];simp(disch:=omega) only[push_cast,zk,gO];exact i _ _ ⟨by simp[c,d],rfl⟩
  .refine i _ _ ⟨?_,rfl⟩;by_cases d:a<0<;>simp[c,d]
 rintro _ _ w5 ⟨rfl,rfl⟩;refine l4Abs_sm W (l4Abs_sm j ?_);refine zo (λu w'=>u=[nI (M.gateX a b).a,nI (M.gateX a b).b]/\w'=w5) ?_ ?_
 .intro N i
  try simp only[push_cast]
  unfold M.gateX at i;refine zb (λc=>?_) (λc=>?_)
  .rw[y3 c] at i;exact l4Abs_sm j (l4Abs_sm W (i _ _ ⟨rfl,rfl⟩))
  .rw[y0 c] at i;exact i _ _ ⟨rfl,rfl⟩
 rintro _ _ w6 ⟨rfl,rfl⟩
 try simp only[push_cast]
 rw[o,ZU0,show(⟨true,(M.gateX a b).a,(M.gateX a b).b⟩:M.Gt)=M.gateX a b from by unfold M.gateX;split<;>rfl];refine sput_spec (D:=λb=>D b\/b=b2) hn (Sl.weaken (Sl.ext a0 R) λb j z hd=>hd.elim j.1 λe=>by have:=j.2;omega) z (λb j=>j.elim (λh=>by have:=hD b h;omega) λh=>oM) λw7 n' a4 v X a1 a3=>?_;refine oZ ?_;have q:=NetO.put X a1 a3 (put_len z);generalize [nI (n':Nat),a4]=cs at q⊢;generalize ab:(M.putG n gs (M.gateX a b)).2=pm at*;have r:=q.len;refine zi j0 λb8 w8 aa m af U=>?_;have a5:=q.same (Same.of_ext m (S:=λ_=>False)) λb j=>j.elim;refine U.stAgg (cs':=cs) (by rw[r];rfl) (by rw[r];exact zY) q.one λw9 A ag V=>?_;rw[V.ldAgg (t:=zx) (by rw[r];exact zY)];have hmul:(if(decide (a<0) != decide (b<0))=true then(-1:Int) else 1)*pm=M.turnI (decide (a<0) != decide (b<0)) pm:=by
  unfold M.turnI;split<;>omega
 try simp only[push_cast]
 rw[hmul,zk (by have:=Jw (c:=decide (a<0) != decide (b<0)) (a:=pm);omega) (by have:=Jw (c:=decide (a<0) != decide (b<0)) (a:=pm);omega)];have l7:=v.size;have l8:=m.size;have G:=((F.ext v).ext m).same A (show¬b2=b8 by omega);refine net_out G rfl q.len q.one λw10 p=>?_;have e9:Ext w w9:=Ext.then ((R.trans v).trans m) A λy B=>by subst B;omega
 refine O w10 _ (Ext.then e9 p λy B=>by subst B;omega) ?_;have h9:Ext w7 w9:=Ext.then m A λy B=>by subst B;omega
 have l:=((q.same (Same.of_ext h9 (S:=λ_=>False)) λb j=>j.elim).same p λb j=> .inr j).weak (Y:=D) λb j=> .inl j;unfold NetO at l⊢;by_cases k:pm=0
 .rw[y3 k] at l;rw[y3 (M.turn_zero.2 k)];exact l
 .rw[y0 k] at l;rw[y0 (λh=>k (M.turn_zero.1 h))];exact l
end
section
variable {w:World} {K:oK} {D F Y S:oA} {n b4 b8:Nat} {gs:M.Gs} {v:Value} {cs cs':List Value} {st st':Option M.Gs} {a b c m x y r:Int}
def MkR (n:Nat) (D:oA) (w:World) (cs:List Value) (st:Option M.Gs):Prop:=
 match st with
 |some gs=> ∃o l c,cs=[nI n,.slice o l c,.bool true]/\GOff D w (.slice o l c) gs/\gs.length<=600
 |none=>cs=[nI 0,.slice none 0 0,.bool false]
theorem MkR.form (h:MkR n D w cs st):∃(x:Int) (o:Option Addr) (l c:Nat) (b:Bool),cs=[nI x,.slice o l c,.bool b]:=by
 cases st with
 |none=>exact⟨_,_,_,_,_,h⟩
 |some gs=>obtain⟨o,l,c,e,_⟩:=h;exact⟨_,_,_,_,_,e⟩
theorem MkR.len (h:MkR n D w cs st):cs.length=3:=by obtain⟨x,o,l,c,b,rfl⟩:=h.form;rfl
theorem MkR.one (h:MkR n D w cs st):∀u,u∈cs->u.oneCell'=true:=by
 obtain⟨x,o,l,c,b,rfl⟩:=h.form;intro u hu;simp only[gg,gx,Ge] at hu;rcases hu with rfl|rfl|rfl<;>rfl
theorem MkR.swap {w':World} (h:MkR n D w cs st) (hw:Same S w w') (f:∀b,S b->D b) (g:∀b,Y b->b<w.heap.size->D b):MkR n Y w' cs st:=by
 cases st with
 |none=>exact h
 |some gs=>
  obtain⟨o,l,c,e,a,d⟩:=h;exact⟨o,l,c,e,a.swap hw f g,d⟩
theorem MkR.ext {w':World} (h:MkR n D w cs st) (hw:Ext w w') (a:∀b,Y b->b<w.heap.size->D b):MkR n Y w' cs st:=h.swap hw (λ_ h=>h.elim) a
theorem MkR.same {w':World} (h:MkR n D w cs st) (hw:Same S w w') (a:∀b,S b->D b):MkR n D w' cs st:=h.swap hw a λ_ h _=>h
def Sn (st:Option M.Gs) (x:Int):Prop:=Sm x/\(x=0->st=none)
def SnL (st:Option M.Gs) (xs:oI):Prop:=∀x,x∈xs->Sn st x
theorem Ze0 {α:Type} {p:M.Bd α} {a:α} (h:M.Bd.Out n p st st' a):st=none->st'=none:=λe=>by subst e;exact h.1
theorem Sn.out {α:Type} {p:M.Bd α} {a:α} (h:Sn st x) (b:M.Bd.Out n p st st' a):Sn st' x:=⟨h.1,λe=>Ze0 b (h.2 e)⟩
theorem SnL.out {α:Type} {p:M.Bd α} {a:α} {xs:oI} (h:SnL st xs) (b:M.Bd.Out n p st st' a):SnL st' xs:=λx c=>(h x c).out b
theorem Sn.neg (h:Sn st x):Sn st (-x):=⟨by have:=h.1;unfold Sm at*;omega,λe=>h.2 oM⟩
theorem Sn.nz (h:Sn (some gs) x):x≠0:=λe=>by have:=h.2 e;cases this
theorem Sn.of (h:Sm x) (a:x≠0):Sn st x:=⟨h,λe=>absurd e a⟩
theorem SnL.get {xs:oI} (h:SnL st xs) {i:Nat} (hi:i<xs.length):Sn st (xs.getD i 0):=h _ (M.getD_mem hi 0)
theorem SnL.app {xs ys:oI} (h:SnL st xs) (a:SnL st ys):SnL st (xs++ys):=λx b=>(gk.1 b).elim (h x) (a x)
theorem SnL.one (h:Sn st x):SnL st [x]:=λy a=>by rw[gw.1 a];exact h
theorem SnL.nil:SnL st []:=λx a=>by cases a
theorem SnL.sm {xs:oI} (h:SnL st xs):SmL xs:=λx a=>(h x a).1
theorem SnL.fill (m:Nat):SnL st (M.offsL m):=λx a=>by rw[GX a];exact Sn.of dC dC
theorem SnL.neg {xs:oI} (h:SnL st xs):SnL st (M.negL xs):=λx a=>by
 obtain⟨y,b,rfl⟩:=gr.1 a;exact(h y b).neg
theorem YW0 {x:Int} {o:Option Addr} {l c:Nat} {b:Bool}:yr zB [(0,.agg ⟨[nI x,.slice o l c]⟩),(1,.bool b)] w K=K (.agg ⟨[nI x,.slice o l c,.bool b]⟩) w:=zS xc0 (us:=[[nI x,.slice o l c],[.bool b]]) rfl rfl
theorem Kk {b4:Nat} (a:Blk w b4 cs zB) (h:cs.length=3):zu zB (oP b4 0) w K=K (.agg ⟨cs⟩) w:=a.ldAgg (t:=zB) (by rw[h];exact j7)
theorem mk_put {b4:Nat} {a:List Value} (c:Blk w b4 a zB) (f:a.length=3) (e:cs.length=3) (b:∀u,u∈cs->u.oneCell'=true) (d:∀w',Same (· =b4) w w'->w'.heap.size=w.heap.size->Blk w' b4 cs zB->K undef w'):zT zB (oP b4 0) (.agg ⟨cs⟩) w K:=
 c.stAgg (cs':=cs) oM (by rw[e];exact j7) b d
theorem QY {b8:Nat} {a:List Value} (f:Blk w b8 a zB) (d:a.length=3) (c:cs.length=3) (e:∀u,u∈cs->u.oneCell'=true) (g:∀w',Same (· =b8) w w'->K (.agg ⟨cs⟩) w'):
  zT zB (oP b8 0) (.agg ⟨cs⟩) w λ_ w1=>vlv zB (oP b8 0) w1 K:=
 mk_put f d c e λw1 hs h b=>by
  rw[b.lv (t:=zB) (by rw[c];exact j7)];exact g w1 hs
theorem sand7_spec (hn:n<=8) (Z:MkR n D w cs st) (hD:∀b,D b->b<w.heap.size) (hx:Sn st x) (H:Sn st y)
  (U:∀w' cs' st' r,Ext w w'->MkR n D w' cs' st'->Sn st' r->M.Bd.Out n (.and x y .ret) st st' r->K (.tuple #[.agg ⟨cs'⟩,nI r]) w'):
  vcall zH0 #[.agg ⟨cs⟩,nI x,nI y] w K:=by
 refine ze {} Tryz.func157 ?_;refine zj λb3 w1 a3 E a7 Q=>?_;refine zi xx λb6 w2 a4 p a8 z=>?_;have N:=E.trans p;have d:=Q.ext p;have z1:=E.size;have z2:=p.size;cases st with
 |none=>
  have V:cs=[nI 0,oN,.bool false]:=Z;subst V;simp(disch:=exact oS) only[push_cast,d.ld2,PB,Kk d rfl];refine QY z rfl rfl Z.one λw3 a1=>?_;exact U w3 _ none 1 (Ext.then N a1 λb e=>oM) rfl (Sn.of dC dC) ⟨rfl,1,rfl⟩
 |some gs=>
  obtain⟨o,l,c,rfl,hg,I⟩:=Z;have G:zu zx (oP b3 0) w2=λK=>K (.agg ⟨[nI n,.slice o l c]⟩) w2:=by
   funext K;exact Blk.ldTake (us:=[nI n,.slice o l c]) (r:=[.bool true]) d zY
  simp(disch:=exact oS) only[push_cast,d.ld2,Gh,yx,GW,G];have W:GOff (λb=>D b\/b=b3\/b=b6) w2 (.slice o l c) gs:=hg.swap N (λ_ h=>h.elim) λb e I=>e.elim id λh=>oM;refine sand6_spec hn W I (λb e=>e.elim (λh=>by have:=hD b h;omega) λh=>oM) hx.1 H.1 hx.nz H.nz λw3 J q j=>?_;have hlen:gs.length<=600:=I;have C:=kd0 (gs:=gs) (n:=n) I hn hx.1 H.1;have f:(M.Bd.and x y .ret:M.Bd Int).run n gs=if(M.andG n gs x y).2=0 then none else some ((M.andG n gs x y).1,(M.andG n gs x y).2):=rfl
  generalize a6:(M.andG n gs x y).1=v at*;generalize (M.andG n gs x y).2=m at*;refine oZ ?_;have k:=j.len;refine zi j0 λb8 w8 a5 F a9 R=>?_;refine R.stAgg (cs':=J) (by rw[k];rfl) (by rw[k];exact zY) j.one λw9 a2 aa T=>?_;have z3:=q.size;have z8:=F.size;have O:Ext w3 w9:=Ext.then F a2 λy H=>by subst H;omega
  have B:=j.same (Same.of_ext O (S:=λ_=>False)) λb e=>e.elim;rw[T.ldAgg (t:=zx) (by rw[k];exact zY)];obtain⟨x3,o3,l3,c3,rfl⟩:=B.form;simp only[push_cast,YW0];have A:=(z.ext (q.trans O));refine QY A rfl rfl (λu hu=>by simp only[gg,gx,Ge] at hu;rcases hu with rfl|rfl|rfl<;>rfl) λw10 g=>?_;have s:Ext w w10:=Ext.then (N.trans (q.trans O)) g λb e=>oM;have a:=(B.same g λb e=> .inr (.inr e)).weak (Y:=D) λb e=> .inl e;by_cases hm:m=0
  .subst hm;unfold NetO at a;rw[y3 rfl] at a;simp only[gP,gQ] at a;obtain⟨L,i⟩:=a;rw[L,i];refine U w10 _ none 0 s rfl ⟨dC,λ_=>rfl⟩ (.inr ⟨by rw[f,y3 rfl],rfl,0,rfl⟩)
  .unfold NetO at a;rw[y0 hm] at a;obtain⟨o4,l4,c4,e4,X,a0⟩:=a;simp only[gP,gQ] at e4;obtain⟨L,i⟩:=e4;rw[L,i,gu hm];refine U w10 _ (some v) m s ⟨o4,l4,c4,rfl,X,a0⟩ (Sn.of C hm) (.inl ⟨v,by rw[f,y0 hm],rfl⟩)
theorem sxor7_spec (hn:n<=8) (Z:MkR n D w cs st) (hD:∀b,D b->b<w.heap.size) (hx:Sn st x) (H:Sn st y)
  (U:∀w' cs' st' r,Ext w w'->MkR n D w' cs' st'->Sn st' r->M.Bd.Out n (.xor x y .ret) st st' r->K (.tuple #[.agg ⟨cs'⟩,nI r]) w'):
  vcall zA0 #[.agg ⟨cs⟩,nI x,nI y] w K:=by
 refine ze {} Tryz.func220 ?_;refine zj λb3 w1 a3 E a7 Q=>?_;refine zi xx λb6 w2 a4 p a8 z=>?_;have N:=E.trans p;have d:=Q.ext p;have z1:=E.size;have z2:=p.size;cases st with
 |none=>
  have V:cs=[nI 0,oN,.bool false]:=Z;subst V;simp(disch:=exact oS) only[push_cast,d.ld2,PB,Kk d rfl];refine QY z rfl rfl Z.one λw3 a1=>?_;exact U w3 _ none 1 (Ext.then N a1 λb e=>oM) rfl (Sn.of dC dC) ⟨rfl,1,rfl⟩
 |some gs=>
  obtain⟨o,l,c,rfl,hg,I⟩:=Z;have G:zu zx (oP b3 0) w2=λK=>K (.agg ⟨[nI n,.slice o l c]⟩) w2:=by
   funext K;exact Blk.ldTake (us:=[nI n,.slice o l c]) (r:=[.bool true]) d zY
  simp(disch:=exact oS) only[push_cast,d.ld2,Gh,yx,GW,G];have W:GOff (λb=>D b\/b=b3\/b=b6) w2 (.slice o l c) gs:=hg.swap N (λ_ h=>h.elim) λb e I=>e.elim id λh=>oM;refine sxor6_spec hn W I (λb e=>e.elim (λh=>by have:=hD b h;omega) λh=>oM) hx.1 H.1 hx.nz H.nz λw3 J q j=>?_;have hlen:gs.length<=600:=I;have C:=qF0 (gs:=gs) (n:=n) I hn hx.1 H.1;have f:(M.Bd.xor x y .ret:M.Bd Int).run n gs=if(M.xorG n gs x y).2=0 then none else some ((M.xorG n gs x y).1,(M.xorG n gs x y).2):=rfl
  generalize a6:(M.xorG n gs x y).1=v at*;generalize (M.xorG n gs x y).2=m at*;refine oZ ?_;have k:=j.len;refine zi j0 λb8 w8 a5 F a9 R=>?_;refine R.stAgg (cs':=J) (by rw[k];rfl) (by rw[k];exact zY) j.one λw9 a2 aa T=>?_;have z3:=q.size;have z8:=F.size;have O:Ext w3 w9:=Ext.then F a2 λy H=>by subst H;omega
  have B:=j.same (Same.of_ext O (S:=λ_=>False)) λb e=>e.elim;rw[T.ldAgg (t:=zx) (by rw[k];exact zY)];obtain⟨x3,o3,l3,c3,rfl⟩:=B.form;simp only[push_cast,YW0];have A:=(z.ext (q.trans O));refine QY A rfl rfl (λu hu=>by simp only[gg,gx,Ge] at hu;rcases hu with rfl|rfl|rfl<;>rfl) λw10 g=>?_;have s:Ext w w10:=Ext.then (N.trans (q.trans O)) g λb e=>oM;have a:=(B.same g λb e=> .inr (.inr e)).weak (Y:=D) λb e=> .inl e;by_cases hm:m=0
  .subst hm;unfold NetO at a;rw[y3 rfl] at a;simp only[gP,gQ] at a;obtain⟨L,i⟩:=a;rw[L,i];refine U w10 _ none 0 s rfl ⟨dC,λ_=>rfl⟩ (.inr ⟨by rw[f,y3 rfl],rfl,0,rfl⟩)
  .unfold NetO at a;rw[y0 hm] at a;obtain⟨o4,l4,c4,e4,X,a0⟩:=a;simp only[gP,gQ] at e4;obtain⟨L,i⟩:=e4;rw[L,i,gu hm];refine U w10 _ (some v) m s ⟨o4,l4,c4,rfl,X,a0⟩ (Sn.of C hm) (.inl ⟨v,by rw[f,y0 hm],rfl⟩)
theorem sor7_spec (O:n<=8) (s:MkR n D w cs st) (hD:∀b,D b->b<w.heap.size) (F:Sn st x) (G:Sn st y)
  (J:∀w' cs' st' r,Ext w w'->MkR n D w' cs' st'->Sn st' r->M.Bd.Out n (M.orB x y) st st' r->K (.tuple #[.agg ⟨cs'⟩,nI r]) w'):
  vcall yW0 #[.agg ⟨cs⟩,nI x,nI y] w K:=by
 refine ze {} Tryz.func158 ?_;refine zj λb3 w1 L j Q o=>?_;refine zi xx λC w2 N e R p=>?_;have E:=j.trans e;have d:=o.ext e;have W:=j.size;have z2:=e.size;have z:=F.1;have A:=G.1;unfold Sm at z A;simp(disch:=omega) only[push_cast,Kk d s.len,zk,gO];have t:MkR n (λb=>D b\/b=b3\/b=C) w2 cs st:=s.ext E λb c T=>c.elim id λh=>oM
 refine sand7_spec O t (λb c=>c.elim (λh=>by have:=hD b h;omega) λh=>oM) F.neg G.neg λU m B r f a k u=>?_;have v:=k.1;unfold Sm at v;refine oZ ?_;refine mk_put (d.ext f) s.len a.len a.one λV g S q=>?_;have i:=(p.ext f).same g (show¬C=b3 by omega);simp(disch:=omega) only[push_cast,Kk q a.len,zk,gO];refine QY i rfl a.len a.one λH l=>?_;have I:Ext w H:=Ext.then (Ext.then (E.trans f) g λb c=>oM) l λb c=>oM
 exact J H m B (-r) I ((a.same g λb c=> .inr (.inl c)).swap l (λb c=> .inr (.inr c)) λb c _=> .inl c) k.neg (xI u (M.Bd.Out.ret _ _))
theorem sone7_spec (S:n<=8) (N:MkR n D w cs st) (hD:∀b,D b->b<w.heap.size) (J:Sn st c) (hx:Sn st x) (hy:Sn st y)
  (hK:∀w' cs' st' r,Ext w w'->MkR n D w' cs' st'->Sn st' r->M.Bd.Out n (M.muxB c x y) st st' r->K (.tuple #[.agg ⟨cs'⟩,nI r]) w'):
  vcall zB0 #[.agg ⟨cs⟩,nI c,nI x,nI y] w K:=by
 refine ze {} Tryz.func219 ?_;refine zj λb3 w1 a2 z a4 G=>?_;refine zi xx λE w2 a3 k a5 H=>?_;have Y:=z.trans k;have i:=G.ext k;have z1:=z.size;have z2:=k.size;have L:=J.1;unfold Sm at L;rw[Kk i N.len];have O:MkR n (λb=>D b\/b=b3\/b=E) w2 cs st:=N.ext Y λb a hl=>a.elim id λh=>oM
 have j:∀b,(D b\/b=b3\/b=E)->b<w2.heap.size:=λb a=>a.elim (λh=>by have:=hD b h;omega) λh=>oM
 refine sand7_spec S O j J hx λw3 a0 a8 p e d U m=>?_;refine oZ ?_;refine mk_put (i.ext e) N.len d.len d.one λw4 o a6 v=>?_;have z3:=e.size;have t:=(H.ext e).same o (show¬E=b3 by omega);have Q:=d.same o λb a=> .inr (.inl a);simp(disch:=omega) only[push_cast,Kk v d.len,zk,gO];refine sand7_spec S Q (λb a=>by have:=j b a;omega) (J.out m).neg (hy.out m) λw5 a1 a9 q f g V B=>?_;refine oZ ?_;refine mk_put (v.ext f) d.len g.len g.one λw6 s a7 I=>?_;have z5:=f.size;have u:=(t.ext f).same s (show¬E=b3 by omega);have R:=g.same s λb a=> .inr (.inl a);rw[Kk I g.len];refine sor7_spec S R (λb a=>by have:=j b a;omega) (U.out B) V λw7 F X r A l W T=>?_;refine oZ ?_;refine QY (u.ext A) rfl l.len l.one λZ C=>?_;have e6:Ext w w6:=Ext.then ((Ext.then (Y.trans e) o λb a=>oM).trans f) s λb a=>oM
 have e8:Ext w Z:=Ext.then (e6.trans A) C λb a=>oM
 exact hK Z F X r e8 (l.swap C (λb a=> .inr (.inr a)) λb a _=> .inl a) W (xI m (xI B T))
end
section
variable {w:World} {K:oK} {D F Fx Fy Y S O:oA} {n b4 b8:Nat} {v xv yv:Value} {cs cs':List Value} {st st':Option M.Gs} {a b c m x y r:Int} {xs ys:oI}
abbrev Xf0 (D O:oA) (b4 b8:Nat):oA:=λb=>D b\/b=b4\/b=b8\/O b
structure Fm (n:Nat) (D O:oA) (w0:World) (b4 b8:Nat) (w:World) (st:Option M.Gs):Prop where
 ext:Ext w0 w
 k:∃cs,Blk w b4 cs zB/\MkR n (Xf0 D O b4 b8) w cs st
 r:∃cs,Blk w b8 cs zB/\cs.length=3
 lo:w0.heap.size<=b4/\w0.heap.size<=b8/\b4≠b8
 off:∀b,O b->b<w.heap.size/\w0.heap.size<=b/\b≠b4/\b≠b8
 dlt:∀b,D b->b<w0.heap.size
theorem Fm.start (k:MkR n D w cs st) (hD:∀b,D b->b<w.heap.size) {K:Value->oK} (f:∀b4 b8 w',Fm n D (λ_=>False) w b4 b8 w' st->K (oP b4 0) (oP b8 0) w'):
  yF0 zB (.agg ⟨cs⟩) w λt w1=>qt zB w1 λt8 w2=>K t t8 w2:=by
 refine zj λb4 w1 i c l d=>?_;refine zi xx λb8 w2 j a m e=>?_;refine f b4 b8 w2 ⟨c.trans a,⟨cs,d.ext a,k.ext (c.trans a) λb g o=>g.elim id λh=>?_⟩,⟨_,e,rfl⟩,oM,λb h=>h.elim,hD⟩;rcases h with h|h|h
 .omega
 .omega
 .exact h.elim
section
variable {w0 w':World}
theorem Fm.lt4 (h:Fm n D O w0 b4 b8 w st):b4<w.heap.size/\b8<w.heap.size:=by
 obtain⟨_,a,_⟩:=h.k;obtain⟨_,b,_⟩:=h.r;exact⟨a.lt,b.lt⟩
theorem Fm.dl (h:Fm n D O w0 b4 b8 w st):∀b,Xf0 D O b4 b8 b->b<w.heap.size:=λb c=>by
 have l:=h.lt4;have s:=h.ext.size;rcases c with a|a|a|a
 .have:=h.dlt b a;omega
 .omega
 .omega
 .exact(h.off b a).1
theorem Fm.grow (h:Fm n D O w0 b4 b8 w st) (he:Ext w w'):Fm n D O w0 b4 b8 w' st:=by
 obtain⟨cs,c,d⟩:=h.k;obtain⟨a,e,f⟩:=h.r;exact⟨h.ext.trans he,⟨cs,c.ext he,d.ext he λ_ h _=>h⟩,⟨a,e.ext he,f⟩,h.lo,λb i=>by have g:=h.off b i;have:=he.size;exact⟨oM,g.2⟩,h.dlt⟩
theorem Fm.call (h:Fm n D O w0 b4 b8 w st):∃cs,MkR n (Xf0 D O b4 b8) w cs st/\∀w',Ext w w'->∀K:oK,zu zB (oP b4 0) w' K=K (.agg ⟨cs⟩) w':=by
 obtain⟨cs,b,a⟩:=h.k;exact⟨cs,a,λw' he K=>Kk (b.ext he) a.len⟩
theorem Fm.put (h:Fm n D O w0 b4 b8 w st) (he:Ext w w') (c:MkR n (Xf0 D O b4 b8) w' cs' st') (o:∀w'',Fm n D O w0 b4 b8 w'' st'->Same (· =b4) w' w''->w''.heap.size=w'.heap.size->K undef w''):
  zT zB (oP b4 0) (.agg ⟨cs'⟩) w' K:=by
 obtain⟨cs,f,g⟩:=h.k;obtain⟨d,i,j⟩:=h.r;refine mk_put (f.ext he) g.len c.len c.one λw'' hs p m=>o w'' ⟨Ext.then (h.ext.trans he) hs λb a=>by have:=h.lo;omega,⟨cs',m,c.same hs λb a=> .inr (.inl a)⟩,⟨d,(i.ext he).same hs λe=>h.lo.2.2 e.symm,j⟩,h.lo,λb a=>?_,h.dlt⟩ hs p;have l:=h.off b a;have:=he.size;exact⟨oM,l.2⟩
theorem Fm.own {O':oA} (h:Fm n D O w0 b4 b8 w st) (hw:Same S w w') (e:∀b,S b->O b) (hO:∀b,O' b->b<w'.heap.size/\(O b\/w.heap.size<=b)):Fm n D O' w0 b4 b8 w' st:=by
 obtain⟨cs,a,i⟩:=h.k;obtain⟨g,j,m⟩:=h.r;have l:=h.lt4;have s:=h.ext.size;refine⟨Ext.then h.ext hw λb c=>(h.off b (e b c)).2.1,⟨cs,a.same hw λhs=>(h.off _ (e _ hs)).2.2.1 rfl,i.swap hw (λb c=> .inr (.inr (.inr (e b c)))) λb c o=>?_⟩,⟨g,j.same hw λhs=>(h.off _ (e _ hs)).2.2.2 rfl,m⟩,h.lo,λb c=>?_,h.dlt⟩
 .rcases c with a|a|a|a
  .exact .inl a
  .exact .inr (.inl a)
  .exact .inr (.inr (.inl a))
  .exact(hO b a).2.elim (λh=> .inr (.inr (.inr h))) λh=>oM
 .obtain⟨f,d⟩:=hO b c;rcases d with d|d
  .have:=h.off b d;exact⟨f,this.2⟩
  .exact⟨f,oM,oM,oM⟩
theorem Fm.fin (h:Fm n D O w0 b4 b8 w st) (g:∀w' cs,Ext w0 w'->MkR n D w' cs st->Same (· =b8) w w'->K (.agg ⟨cs⟩) w'):
  zu zB (oP b4 0) w λt w1=>zT zB (oP b8 0) t w1 λ_ w2=>vlv zB (oP b8 0) w2 K:=by
 obtain⟨cs,d,a⟩:=h.k;obtain⟨i,e,f⟩:=h.r;rw[Kk d a.len];exact QY e f a.len a.one λw' hs=>g w' cs (Ext.then h.ext hs λb c=>by have:=h.lo;omega) (a.swap hs (λb c=> .inr (.inr (.inl c))) λb c _=> .inl c) hs
theorem Fm.out (h:Fm n D O w0 b4 b8 w st) (he:Ext w w') (c:MkR n (Xf0 D O b4 b8) w' cs' st') (f:∀w'',Ext w0 w''->MkR n D w'' cs' st'->Same (· =b8) w' w''->K (.agg ⟨cs'⟩) w''):
  zT zB (oP b8 0) (.agg ⟨cs'⟩) w' λ_ w2=>vlv zB (oP b8 0) w2 K:=by
 obtain⟨g,d,e⟩:=h.r;exact QY (d.ext he) e c.len c.one λw'' hs=>f w'' (Ext.then (h.ext.trans he) hs λb a=>by have:=h.lo;omega) (c.swap hs (λb a=> .inr (.inr (.inl a))) λb a _=> .inl a) hs
end
abbrev O1 (v:Value):oA:=λb=>v.ownBlock=some b
abbrev Low (w:World):oA:=λb=>b<w.heap.size
theorem Ints.under (h:Ints Fx w xv xs):Ints (Low w) w xv xs:=Ints.weaken h λ_ _ a=>a
theorem Ints.ext0 {w0 w:World} (h:Ints (Low w0) w0 xv xs) (he:Ext w0 w):Ints (Low w0) w xv xs:=Ints.ext h he
theorem Fm.app {w0:World} {zs:oI} {x:Int} {ty:Nat} (h:Fm n D (O1 v) w0 b4 b8 w st) (l:OwnI zh w v zs) (q:zs.length<=1000000)
  (j:∀v' w',Fm n D (O1 v') w0 b4 b8 w' st->OwnI zh w' v' (zs++[x])->Ext w0 w'->K v' w'):
  vbuildS zh 1 [(0,nI x)] w λt w1=>vbi .append [zh,zh] ty [v,t] w1 K:=by
 refine zC xu yW xK rfl rfl λp r k a m e=>?_;refine(l.ext a).app1 xH e oM oM λv6 o c g f=>?_;have i:=(h.grow a).own (O':=O1 v6) g (λb d=>d) λb d=>⟨c.lt d,f b d⟩;exact j v6 o i c i.ext
theorem Fm.nil {w0:World} (h:Fm n D (λ_=>False) w0 b4 b8 w st) (j:∀v' w',Fm n D (O1 v') w0 b4 b8 w' st->OwnI zh w' v' []->Ext w0 w'->K v' w'):vbuildS zh 0 [] w K:=by
 refine yj xu yW λa i k f m c=>?_;have l:OwnI zh i (.slice (some ⟨a,0,none⟩) 0 0) []:=Blk.own1 (t:=zh) (cs:=[]) (by rw[qQ];exact c) (gF _) rfl rfl oM;have g:=h.own (O':=O1 (.slice (some ⟨a,0,none⟩) 0 0)) (S:=λ_=>False) f (λb d=>d) λb d=>by
  have e:a=b:=K3 d;exact⟨oM,.inr oM⟩
 exact j _ i g l g.ext
theorem sadd7_spec (hn:n<=8) (hk:MkR n D w cs st) (hD:∀b,D b->b<w.heap.size) (O:Ints Fx w xv xs) (hy:Ints Fy w yv ys) (hl:xs.length<=ys.length) (h8:xs.length<=1000) (b1:SnL st xs) (b2:SnL st ys) (hc:Sn st c)
  (hK:∀w' cs' st' r zs,Ext w w'->MkR n D w' cs' st'->OwnI zh w' r zs->(∀b,r.ownBlock=some b->w.heap.size<=b)->SnL st' zs->M.Bd.Out n (M.sumB xs ys c) st st' zs->K (.tuple #[.agg ⟨cs'⟩,r]) w'):
  vcall zI0 #[.agg ⟨cs⟩,xv,yv,nI c] w K:=by
 refine ze {loops:=[(3,[3,10,11])]} Tryz.func160 ?_;refine Fm.start hk hD λb4 b8 w1 h1=>?_;refine h1.nil λv2 w2 h2 aw e2=>?_;have Q:=Ints.under O;have ag:=Ints.under hy;refine vloop_up xs.length (λi u w'=> ∃k r zs c1,u=[nI c1,r,nI i]/\Fm n D (O1 r) w b4 b8 w' k/\OwnI zh w' r zs/\zs.length=i/\SnL k zs/\SnL k xs/\SnL k ys/\Sn k c1/\
  ∀st2 rs,M.Bd.Out n (M.sumB (xs.drop i) (ys.drop i) c1) k st2 rs->M.Bd.Out n (M.sumB xs ys c) st st2 (zs++rs)) ⟨st,_,[],c,rfl,h2,aw,rfl,SnL.nil,b1,b2,hc,λ_ _ h=>h⟩ ?_
 rintro i _ g w3 C hi ⟨ak,r3,zs,c3,rfl,R,aa,b3,aj,A,E,V,z⟩ hC;have b0:=Ints.ext0 Q R.ext;simp(disch:=exact oS) only[push_cast,b0.len];refine zb (λbp=>?_) (λbo=>?_)
 .have m:i<xs.length:=oM;refine zd λw4 W _=>?_;have S:=R.grow W;have ae:=Ints.ext0 Q S.ext;have ah:=Ints.ext0 ag S.ext;obtain⟨c4,J,a5⟩:=S.call;simp(disch:=exact oS) only[push_cast,ae.iaddr,ae.load,ah.iaddr,ah.load,y1,a5 w4 (Same.refl _ _)];refine sxor7_spec hn J S.dl (A.get m) (E.get oM) λw5 bl bs d X aq hd f=>?_;simp only[push_cast,y1];refine S.put X aq λw6 h6 ay bq=>?_;obtain⟨c6,ar,a6⟩:=h6.call;simp only[push_cast,y1,V1,a6 w6 (Same.refl _ _)];refine sxor7_spec hn ar h6.dl hd (V.out f) λw7 bm b6 s Y au hs j=>?_;simp only[push_cast,y1];refine h6.put Y au λw8 ao az br=>?_;refine zd λw9 Z _=>?_;have T:=ao.grow Z;have af:=Ints.ext0 Q T.ext;have ai:=Ints.ext0 ag T.ext;obtain⟨c9,av,a7⟩:=T.call;simp(disch:=exact oS) only[push_cast,af.iaddr,af.load,ai.iaddr,ai.load,y1,a7 w9 (Same.refl _ _)];have B:=(A.out f).out j;have F:=(E.out f).out j;refine sand7_spec hn av T.dl (B.get m) (F.get oM) λw10 bb bh p o a0 hp a=>?_;simp only[push_cast,y1];refine T.put o a0 λb7 H ab be=>?_;obtain⟨bj,a1,L⟩:=H.call;simp only[push_cast,y1,V1,L b7 (Same.refl _ _)];refine sand7_spec hn a1 H.dl ((hd.out j).out a) (((V.out f).out j).out a) λbt bc bi q t a2 hq l=>?_;simp only[push_cast,y1];refine H.put t a2 λb9 I ac bf=>?_;obtain⟨bk,a3,N⟩:=I.call;simp only[push_cast,y1,V1,N b9 (Same.refl _ _)];refine sor7_spec hn a3 I.dl (hp.out l) hq λbu bd G c2 v a4 ap y=>?_;simp only[push_cast,y1];refine I.put v a4 λba am ad bg=>?_;have a8:OwnI zh ba r3 zs:=by
   have off:∀b,r3.ownBlock=some b->¬b=b4:=λb U=>(R.off b U).2.2.1;exact((((((((((aa.ext W).ext X).same ay off).ext Y).same az off).ext Z).ext o).same ab off).ext t).same ac off|>.ext v).same ad off
  refine am.app a8 oM λb5 bv an a9 bn=>?_;simp(disch:=omega) only[push_cast,zk];have up:∀{x},Sn b6 x->Sn G x:=λh=>((h.out a).out l).out y;refine hC m _ _ ⟨G,b5,zs++[s],c2,by simp<;>exact⟨rfl,rfl⟩,an,a9,by simp[b3],SnL.app (λx O=>up (((aj x O).out f).out j)) (SnL.one (up hs)),λx O=>up (B x O),λx O=>up (F x O),ap,λst2 rs ho=>?_⟩;have:=z st2 (s::rs) ?_
  .simpa using this
  rw[yY m,yY (show i<ys.length by omega)];exact ky f (ky j (xI a (xI l (M.Bd.Out.bind y (M.Bd.Out.map _ ho)))))
 .have:=z ak [] (by rw[qY0 oM];exact M.Bd.Out.ret _ _);rw[gE] at this;refine R.fin λw4 al e4 J ax=>?_;exact hK w4 al ak r3 zs e4 J (aa.same ax λb U e=>(R.off b U).2.2.2 e) (λb U=>(R.off b U).2.1) aj this
end
section
variable {w:World} {K:oK} {D F Fx Fy Y S O:oA} {n b4 b8:Nat} {v xv yv:Value} {cs cs':List Value} {st st':Option M.Gs} {a b c m x y r:Int} {xs ys:oI}
theorem spec_nil (f:∀v' w',OwnI zh w' v' []->Ext w w'->(∀b,v'.ownBlock=some b->w.heap.size<=b)->K v' w'):vbuildS zh 0 [] w K:=by
 refine yj xu yW λd j h c i a=>?_;exact f _ j (Blk.own1 (t:=zh) (cs:=[]) (by rw[qQ];exact a) (gF _) rfl rfl oM) c λb g=>by have e:d=b:=K3 g;omega
theorem spec_app {w0:World} {zs:oI} {x:Int} {ty:Nat} (he:Ext w0 w) (l:OwnI zh w v zs) (i:∀b,v.ownBlock=some b->w0.heap.size<=b) (p:zs.length<=1000000)
  (j:∀v' w',OwnI zh w' v' (zs++[x])->Ext w0 w'->(∀b,v'.ownBlock=some b->w0.heap.size<=b)->K v' w'):
  vbuildS zh 1 [(0,nI x)] w λt w1=>vbi .append [zh,zh] ty [v,t] w1 K:=by
 refine zC xu yW xK rfl rfl λo q k a m c=>?_;refine(l.ext a).app1 xH c oM oM λv6 n f g e=>?_;have s:=he.size;exact j v6 n f (Ext.then (he.trans a) g λb d=>i b d) λb d=>(e b d).elim (i b) λh=>oM
theorem sturn7_spec (t:Ints Fx w xv xs) (v:xs.length<=100000) (n:SmL xs) (s:∀w' r,Ext w w'->OwnI zh w' r (M.negL xs)->(∀b,r.ownBlock=some b->w.heap.size<=b)->K r w'):vcall WF #[xv] w K:=by
 refine ze {loops:=[(3,[3,4])]} Tryz.func156 ?_;refine spec_nil λv1 w1 m o k=>?_;refine vloop_up xs.length (λi u w'=> ∃r,u=[r,nI i]/\Ext w w'/\OwnI zh w' r (M.negL (xs.take i))/\∀b,r.ownBlock=some b->w.heap.size<=b) ⟨_,rfl,o,m,k⟩ ?_;rintro i _ g w2 C hi ⟨r,rfl,j,d,f⟩ q;have e:=Ints.ext t j;simp(disch:=exact oS) only[push_cast,e.len];refine zb (λa=>?_) (λa=>?_)
 .have c:i<xs.length:=oM;have hs:=n.get c;unfold Sm at hs;simp(disch:=exact oS) only[push_cast,e.iaddr,e.load,zk,gO];refine spec_app j d f (by rw[M.negL_len,gh];omega) λv3 x h p l=>?_
  try simp(disch:=omega) only[push_cast,zk]
  refine q c _ _ ⟨v3,by simp,p,?_,l⟩;rw[M.take_add c 0];unfold M.negL at h⊢;rw[gz];exact h
 .have c:i=xs.length:=oM;subst c;rw[gy] at d;exact s w2 r j d f
theorem sfill7_spec {m:Nat} {x:Int} (s:m<=100000) (q:∀w' r,Ext w w'->OwnI zh w' r (List.replicate m x)->(∀b,r.ownBlock=some b->w.heap.size<=b)->K r w'):vcall WJ #[nI x,nI m] w K:=by
 refine ze {loops:=[(3,[5,6])]} Tryz.func161 ?_;refine spec_nil λv1 w1 j n f=>?_;refine vloop_up m (λi u w'=> ∃r,u=[r,nI i]/\Ext w w'/\OwnI zh w' r (List.replicate i x)/\∀b,r.ownBlock=some b->w.heap.size<=b) ⟨_,rfl,n,j,f⟩ ?_;rintro i _ g w2 C hi ⟨r,rfl,l,e,d⟩ p;refine oZ ?_;refine zb (λa=>?_) (λa=>?_)
 .have c:i<m:=oM;refine spec_app l e d (by rw[gD];omega) λv3 t k o h=>?_
  try simp(disch:=omega) only[push_cast,zk]
  refine p c _ _ ⟨v3,by simp,o,?_,h⟩;rw[List.replicate_succ'];exact k
 .have c:i=m:=oM;subst c;exact q w2 r l e d
theorem sless7_spec (X:n<=8) (hk:MkR n D w cs st) (hD:∀b,D b->b<w.heap.size) (hx:Ints Fx w xv xs) (hy:Ints Fy w yv ys) (hl:xs.length<=ys.length) (h8:xs.length<=1000) (T:SnL st xs) (U:SnL st ys)
  (hK:∀w' cs' st' r,Ext w w'->MkR n D w' cs' st'->Sn st' r->M.Bd.Out n (M.lessB xs ys (-1)) st st' r->K (.tuple #[.agg ⟨cs'⟩,nI r]) w'):
  vcall WH #[.agg ⟨cs⟩,xv,yv] w K:=by
 refine ze {loops:=[(3,[8,9])]} Tryz.func163 ?_;refine Fm.start hk hD λb4 b8 w1 h1=>?_;have v:=Ints.under hx;have y:=Ints.under hy;refine vloop_up xs.length (λi u w'=> ∃e r,u=[nI r,nI i]/\Fm n D (λ_=>False) w b4 b8 w' e/\SnL e xs/\SnL e ys/\Sn e r/\
  ∀st2 q,M.Bd.Out n (M.lessB (xs.drop i) (ys.drop i) r) e st2 q->M.Bd.Out n (M.lessB xs ys (-1)) st st2 q) ⟨st,-1,rfl,h1,T,U,Sn.of dC dC,λ_ _ h=>h⟩ ?_
 rintro i _ g w3 C hi ⟨E,Y,rfl,H,j,c,t,f⟩ hC;have S:=Ints.ext0 v H.ext;simp(disch:=exact oS) only[push_cast,S.len];refine zb (λa2=>?_) (λa1=>?_)
 .have k:i<xs.length:=oM;refine zd λW I _=>?_;have o:=H.grow I;have x:=Ints.ext0 v o.ext;have A:=Ints.ext0 y o.ext;obtain⟨c4,l,p⟩:=o.call;simp(disch:=exact oS) only[push_cast,x.iaddr,x.load,A.iaddr,A.load,y1,p W (Same.refl _ _)];refine sxor7_spec X l o.dl (j.get k) (c.get oM) λw5 Z a8 d J O hd a=>?_;simp only[push_cast,y1];refine o.put J O λw6 h6 a4 a6=>?_
  try simp only[push_cast,y1,V1]
  refine zd λw7 L _=>?_;have F:=h6.grow L;have B:=Ints.ext0 y F.ext;obtain⟨c7,Q,s⟩:=F.call;simp(disch:=exact oS) only[push_cast,B.iaddr,B.load,y1,s w7 (Same.refl _ _)];refine sone7_spec X Q F.dl hd ((c.out a).get oM) (t.out a) λw8 a0 V q N R hq m=>?_;simp only[push_cast,y1];refine F.put N R λw9 h9 a5 a7=>?_
  try simp(disch:=omega) only[push_cast,zk,y1,V1]
  refine hC k _ _ ⟨V,q,by simp<;>exact⟨rfl,rfl⟩,h9,(j.out a).out m,(c.out a).out m,hq,λst2 z ho=>f st2 z ?_⟩;rw[yY k,yY (show i<ys.length by omega)];exact ky a (M.Bd.Out.bind m ho)
 .refine H.fin λW G e4 l a3=>?_;exact hK W G E Y e4 l t (f E Y (by rw[xw0 oM];exact M.Bd.Out.ret _ _))
theorem ssame7_spec (X:n<=8) (hk:MkR n D w cs st) (hD:∀b,D b->b<w.heap.size) (hx:Ints Fx w xv xs) (hy:Ints Fy w yv ys) (hl:xs.length<=ys.length) (h8:xs.length<=1000) (R:SnL st xs) (T:SnL st ys)
  (hK:∀w' cs' st' r,Ext w w'->MkR n D w' cs' st'->Sn st' r->M.Bd.Out n (M.sameB xs ys 1) st st' r->K (.tuple #[.agg ⟨cs'⟩,nI r]) w'):
  vcall WG #[.agg ⟨cs⟩,xv,yv] w K:=by
 refine ze {loops:=[(3,[8,9])]} Tryz.func162 ?_;refine Fm.start hk hD λb4 b8 w1 h1=>?_;have v:=Ints.under hx;have S:=Ints.under hy;refine vloop_up xs.length (λi u w'=> ∃a r,u=[nI r,nI i]/\Fm n D (λ_=>False) w b4 b8 w' a/\SnL a xs/\SnL a ys/\Sn a r/\
  ∀st2 q,M.Bd.Out n (M.sameB (xs.drop i) (ys.drop i) r) a st2 q->M.Bd.Out n (M.sameB xs ys 1) st st2 q) ⟨st,1,rfl,h1,R,T,Sn.of dC dC,λ_ _ h=>h⟩ ?_
 rintro i _ g w3 C hi ⟨A,Y,rfl,E,f,j,t,e⟩ hC;have Q:=Ints.ext0 v E.ext;simp(disch:=exact oS) only[push_cast,Q.len];refine zb (λa2=>?_) (λa1=>?_)
 .have k:i<xs.length:=oM;refine zd λV H _=>?_;have o:=E.grow H;have x:=Ints.ext0 v o.ext;have y:=Ints.ext0 S o.ext;obtain⟨c4,l,p⟩:=o.call;simp(disch:=exact oS) only[push_cast,x.iaddr,x.load,y.iaddr,y.load,y1,p V (Same.refl _ _)];refine sxor7_spec X l o.dl (f.get k) (j.get oM) λw5 Z a8 d I L W c=>?_;simp only[push_cast,y1];refine o.put I L λw6 F a4 a6=>?_;obtain⟨c6,N,s⟩:=F.call;have G:=W.1;unfold Sm at G;simp(disch:=omega) only[push_cast,y1,V1,s w6 (Same.refl _ _),zk,gO];refine sand7_spec X N F.dl (t.out c) W.neg λw8 a0 U q J O hq m=>?_;simp only[push_cast,y1];refine F.put J O λw9 h9 a5 a7=>?_
  try simp(disch:=omega) only[push_cast,zk,y1,V1]
  refine hC k _ _ ⟨U,q,by simp<;>exact⟨rfl,rfl⟩,h9,(f.out c).out m,(j.out c).out m,hq,λst2 z ho=>e st2 z ?_⟩;rw[yY k,yY (show i<ys.length by omega)];exact ky c (xI m ho)
 .refine E.fin λV B e4 l a3=>?_;exact hK V B A Y e4 l t (e A Y (by rw[xp0 oM];exact M.Bd.Out.ret _ _))
theorem sifs7_spec (hn:n<=8) (hk:MkR n D w cs st) (hD:∀b,D b->b<w.heap.size) (hx:Ints Fx w xv xs) (hy:Ints Fy w yv ys) (hl:xs.length<=ys.length) (h8:xs.length<=1000) (S:SnL st xs) (U:SnL st ys) (hc:Sn st c)
  (hK:∀w' cs' st' r zs,Ext w w'->MkR n D w' cs' st'->OwnI zh w' r zs->(∀b,r.ownBlock=some b->w.heap.size<=b)->SnL st' zs->M.Bd.Out n (M.eachB (M.muxB c) xs ys) st st' zs->K (.tuple #[.agg ⟨cs'⟩,r]) w'):
  vcall zD0 #[.agg ⟨cs⟩,nI c,xv,yv] w K:=by
 refine ze {loops:=[(3,[10,11])]} Tryz.func159 ?_;refine Fm.start hk hD λb4 b8 w1 h1=>?_;refine h1.nil λv2 w2 h2 J e2=>?_;have A:=Ints.under hx;have T:=Ints.under hy;refine vloop_up xs.length (λi u w'=> ∃a r zs,u=[r,nI i]/\Fm n D (O1 r) w b4 b8 w' a/\OwnI zh w' r zs/\zs.length=i/\SnL a zs/\SnL a xs/\SnL a ys/\Sn a c/\
  ∀st2 rs,M.Bd.Out n (M.eachB (M.muxB c) (xs.drop i) (ys.drop i)) a st2 rs->M.Bd.Out n (M.eachB (M.muxB c) xs ys) st st2 (zs++rs)) ⟨st,_,[],rfl,h2,J,rfl,SnL.nil,S,U,hc,λ_ _ h=>h⟩ ?_
 rintro i _ g w3 C hi ⟨G,Y,zs,rfl,o,z,V,F,j,k,t,f⟩ hC;have R:=Ints.ext0 A o.ext;simp(disch:=exact oS) only[push_cast,R.len];refine zb (λa1=>?_) (λa0=>?_)
 .have l:i<xs.length:=oM;refine zd λX v _=>?_;have p:=o.grow v;have B:=Ints.ext0 A p.ext;have E:=Ints.ext0 T p.ext;obtain⟨c4,m,y⟩:=p.call;simp(disch:=exact oS) only[push_cast,B.iaddr,B.load,E.iaddr,E.load,y1,y X (Same.refl _ _)];refine sone7_spec hn m p.dl t (j.get l) (k.get oM) λw5 Z W s x I hs d=>?_;simp only[push_cast,y1];refine p.put x I λw6 h6 Q a2=>?_
  try simp only[push_cast,y1,V1]
  have L:OwnI zh w6 Y zs:=((z.ext v).ext x).same Q λb q=>(o.off b q).2.2.1;refine h6.app L oM λr7 w7 h7 N e7=>?_;simp(disch:=omega) only[push_cast,zk];refine hC l _ _ ⟨W,r7,zs++[s],by simp,h7,N,by simp[V],SnL.app (F.out d) (SnL.one hs),j.out d,k.out d,t.out d,λst2 rs ho=>?_⟩;have:=f st2 (s::rs) ?_
  .simpa using this
  rw[XU l (show i<ys.length by omega)];exact M.Bd.Out.bind d (M.Bd.Out.map _ ho)
 .have:=f G [] (by rw[Ye oM];exact M.Bd.Out.ret _ _);rw[gE] at this;refine o.fin λX H e4 m O=>?_;exact hK X H G Y zs e4 m (z.same O λb q e=>(o.off b q).2.2.2 e) (λb q=>(o.off b q).2.1) F this
def plainB (op:Int):Int->Int->M.Bd Int:=if op=3 then λa b=> .and a b .ret else if op=4 then M.orB else λa b=> .xor a b .ret
theorem splain7_spec {op:Int} (hn:n<=8) (hk:MkR n D w cs st) (hD:∀b,D b->b<w.heap.size) (hx:Ints Fx w xv xs) (hy:Ints Fy w yv ys) (hl:xs.length<=ys.length) (h8:xs.length<=1000) (a4:SnL st xs) (a5:SnL st ys)
  (hK:∀w' cs' st' r zs,Ext w w'->MkR n D w' cs' st'->OwnI zh w' r zs->(∀b,r.ownBlock=some b->w.heap.size<=b)->SnL st' zs->M.Bd.Out n (M.eachB (plainB op) xs ys) st st' zs->K (.tuple #[.agg ⟨cs'⟩,r]) w'):
  vcall V3 #[.agg ⟨cs⟩,nI op,xv,yv] w K:=by
 refine ze {loops:=[(3,[10,11])]} Tryz.func167 ?_;refine Fm.start hk hD λb4 b8 w1 h1=>?_;refine h1.nil λv2 w2 h2 a1 e2=>?_;have H:=Ints.under hx;have N:=Ints.under hy;refine vloop_up xs.length (λi u w'=> ∃B r zs,u=[r,nI i]/\Fm n D (O1 r) w b4 b8 w' B/\OwnI zh w' r zs/\zs.length=i/\SnL B zs/\SnL B xs/\SnL B ys/\
  ∀st2 rs,M.Bd.Out n (M.eachB (plainB op) (xs.drop i) (ys.drop i)) B st2 rs->M.Bd.Out n (M.eachB (plainB op) xs ys) st st2 (zs++rs)) ⟨st,_,[],rfl,h2,a1,rfl,SnL.nil,a4,a5,λ_ _ h=>h⟩ ?_
 rintro i _ g w3 C hi ⟨Q,r3,zs,rfl,E,G,O,I,f,j,J⟩ hC;have a3:=Ints.ext0 H E.ext;simp(disch:=exact oS) only[push_cast,a3.len];refine zb (λa7=>?_) (λa6=>?_)
 .have t:i<xs.length:=oM;have L:∀d s,M.Bd.Out n (plainB op (xs.getD i 0) (ys.getD i 0)) Q d s->∀st2 rs,M.Bd.Out n (M.eachB (plainB op) (xs.drop (i+1)) (ys.drop (i+1))) d st2 rs->M.Bd.Out n (M.eachB (plainB op) xs ys) st st2 ((zs++[s])++rs):=λd s c st2 rs ho=>by
   have:=J st2 (s::rs) ?_
   .simpa using this
   rw[XU t (show i<ys.length by omega)];exact M.Bd.Out.bind c (M.Bd.Out.map _ ho)
  try simp only[push_cast]
  refine zb (λc3=>?_) (λc3=>?_)
  .have W:plainB op=(λa b=> .and a b .ret):=by unfold plainB;rw[y3 c3]
   refine zd λR l _=>?_;have k:=E.grow l;have p:=Ints.ext0 H k.ext;have q:=Ints.ext0 N k.ext;obtain⟨S,v,o⟩:=k.call;simp(disch:=exact oS) only[push_cast,p.iaddr,p.load,q.iaddr,q.load,y1,o R (Same.refl _ _)];refine sand7_spec hn v k.dl (f.get t) (j.get oM) λw5 T d s m x hs c=>?_;simp only[push_cast,y1];refine k.put m x λZ U A X=>?_
   try simp only[push_cast,y1,V1]
   have y:OwnI zh Z r3 zs:=((G.ext l).ext m).same A λb F=>(E.off b F).2.2.1;refine U.app y oM λY w7 V z e7=>?_;simp(disch:=omega) only[push_cast,zk];exact hC t _ _ ⟨d,Y,zs++[s],by simp,V,z,by simp[O],SnL.app (I.out c) (SnL.one hs),f.out c,j.out c,L d s (by rw[W];exact c)⟩
  try simp only[push_cast]
  refine zb (λS=>?_) (λS=>?_)
  .have W:plainB op=M.orB:=by unfold plainB;rw[y0 c3,y3 S]
   refine zd λR l _=>?_;have k:=E.grow l;have p:=Ints.ext0 H k.ext;have q:=Ints.ext0 N k.ext;obtain⟨S,v,o⟩:=k.call;simp(disch:=exact oS) only[push_cast,p.iaddr,p.load,q.iaddr,q.load,y1,o R (Same.refl _ _)];refine sor7_spec hn v k.dl (f.get t) (j.get oM) λw5 T d s m x hs c=>?_;simp only[push_cast,y1];refine k.put m x λZ U A X=>?_
   try simp only[push_cast,y1,V1]
   have y:OwnI zh Z r3 zs:=((G.ext l).ext m).same A λb F=>(E.off b F).2.2.1;refine U.app y oM λY w7 V z e7=>?_;simp(disch:=omega) only[push_cast,zk];exact hC t _ _ ⟨d,Y,zs++[s],by simp,V,z,by simp[O],SnL.app (I.out c) (SnL.one hs),f.out c,j.out c,L d s (by rw[W];exact c)⟩
  have W:plainB op=(λa b=> .xor a b .ret):=by unfold plainB;rw[y0 c3,y0 S]
  refine zd λR l _=>?_;have k:=E.grow l;have p:=Ints.ext0 H k.ext;have q:=Ints.ext0 N k.ext;obtain⟨S,v,o⟩:=k.call;simp(disch:=exact oS) only[push_cast,p.iaddr,p.load,q.iaddr,q.load,y1,o R (Same.refl _ _)];refine sxor7_spec hn v k.dl (f.get t) (j.get oM) λw5 T d s m x hs c=>?_;simp only[push_cast,y1];refine k.put m x λZ U A X=>?_
  try simp only[push_cast,y1,V1]
  have y:OwnI zh Z r3 zs:=((G.ext l).ext m).same A λb F=>(E.off b F).2.2.1;refine U.app y oM λY w7 V z e7=>?_;simp(disch:=omega) only[push_cast,zk];exact hC t _ _ ⟨d,Y,zs++[s],by simp,V,z,by simp[O],SnL.app (I.out c) (SnL.one hs),f.out c,j.out c,L d s (by rw[W];exact c)⟩
 .have:=J Q [] (by rw[Ye oM];exact M.Bd.Out.ret _ _);rw[gE] at this;refine E.fin λR a0 e4 v a2=>?_;exact hK R a0 Q r3 zs e4 v (G.same a2 λb F e=>(E.off b F).2.2.2 e) (λb F=>(E.off b F).2.1) I this
end
section
variable {w:World} {K:oK} {D F Fx Fy Y S O O':oA} {n b4 b8:Nat} {v v' nv xv yv sv:Value} {cs cs':List Value} {st st':Option M.Gs} {a b c m x y r:Int} {xs ys:oI}
abbrev Kp (b4 b8:Nat) (O:oA):oA:=λb=>b≠b4/\b≠b8/\¬O b
section
variable {w0 w':World}
theorem Ints.kp4 (h:Ints (Kp b4 b8 O) w xv xs) (hs:Same (· =b4) w w'):Ints (Kp b4 b8 O) w' xv xs:=Ints.same h hs λb a _ e=>a.1 e
theorem Ints.kpO (h:Ints (Kp b4 b8 O) w xv xs) (hs:Same S w w') (d:∀b,S b->O b) (hO:∀b,O' b->O b\/w.heap.size<=b):Ints (Kp b4 b8 O') w' xv xs:=by
 have c:Ints (λb=>Kp b4 b8 O b/\b<w.heap.size) w xv xs:=Ints.weaken h λb a f=>⟨a,f⟩;exact Ints.weaken (Ints.same c hs λb a _ e=>a.1.2.2 (d b e)) λb a _=>⟨a.1.1,a.1.2.1,λg=>(hO b g).elim a.1.2.2 λh=>by have:=a.2;omega⟩
theorem Fm.new {zs:oI} (h:Fm n D O w0 b4 b8 w st) (d:OwnI zh w' v zs) (c:∀b,v.ownBlock=some b->w.heap.size<=b):Ints (Kp b4 b8 O) w' v zs:=Ints.weaken d.ints λb a _=>by
 have e:=c b a;have f:=h.lt4;exact⟨oM,oM,λhO=>by have:=(h.off b hO).1;omega⟩
theorem Fm.app' {zs:oI} {x:Int} {ty:Nat} (h:Fm n D (O1 v) w0 b4 b8 w st) (l:OwnI zh w v zs) (r:zs.length<=1000000)
  (j:∀v' w',Fm n D (O1 v') w0 b4 b8 w' st->OwnI zh w' v' (zs++[x])->(∀xv xs,Ints (Kp b4 b8 (O1 v)) w xv xs->Ints (Kp b4 b8 (O1 v')) w' xv xs)->K v' w'):
  vbuildS zh 1 [(0,nI x)] w λt w1=>vbi .append [zh,zh] ty [v,t] w1 K:=by
 refine zC xu yW xK rfl rfl λq s k c o g=>?_;refine(l.ext c).app1 xH g oM oM λv6 p e f d=>?_;have i:=(h.grow c).own (O':=O1 v6) f (λb a=>a) λb a=>⟨e.lt a,d b a⟩;exact j v6 p i e λxv xs m=>Ints.kpO (Ints.ext m c) f (λb a=>a) λb a=>d b a
theorem Fm.take {zs:oI} (h:Fm n D (λ_=>False) w0 b4 b8 w st) (he:Ext w w') (d:OwnI zh w' v zs) (c:∀b,v.ownBlock=some b->w.heap.size<=b):Fm n D (O1 v) w0 b4 b8 w' st:=
 h.own (S:=λ_=>False) he (λb a=>a) λb a=>⟨d.lt a,.inr (c b a)⟩
theorem Fm.drop (h:Fm n D O w0 b4 b8 w st):Fm n D (λ_=>False) w0 b4 b8 w st:=h.own (S:=λ_=>False) (Same.refl _ _) (λb a=>a.elim) λb a=>a.elim
end
theorem smul7_spec (hn:n<=8) (hk:MkR n D w cs st) (hD:∀b,D b->b<w.heap.size) (hx:Ints Fx w xv xs) (hy:Ints Fy w yv ys) (hl:xs.length=ys.length) (h8:xs.length<=900) (ap:SnL st xs) (ar:SnL st ys)
  (hK:∀w' cs' st' r zs,Ext w w'->MkR n D w' cs' st'->Ints (λb=>w.heap.size<=b) w' r zs->SnL st' zs->M.Bd.Out n (M.mulB xs ys 0 (M.offsL xs.length)) st st' zs->K (.tuple #[.agg ⟨cs'⟩,r]) w'):
  vcall zC0 #[.agg ⟨cs⟩,xv,yv] w K:=by
 refine ze {loops:=[(3,[8,9]),(7,[10,11])]} Tryz.func164 ?_;refine Fm.start hk hD λb4 b8 w1 S=>?_;have Q:=Ints.under hx;have a4:=Ints.under hy;have an:=Ints.ext0 Q S.ext;simp(disch:=exact oS) only[push_cast,an.len];refine sfill7_spec oM λw2 aa ae am ag=>?_;have lo:=S.lo;have s1:=S.ext.size;have a8:Ints (λb=>Kp b4 b8 (λ_=>False) b/\w.heap.size<=b) w2 aa (M.offsL xs.length):=Ints.weaken am.ints λb a _=>by
  have b0:=ag b a;have h2:=S.lt4;exact⟨⟨oM,oM,id⟩,oM⟩
 refine vloop_up ys.length (λi u w'=> ∃v sv s,u=[sv,nI i]/\Fm n D (λ_=>False) w b4 b8 w' v/\Ints (λb=>Kp b4 b8 (λ_=>False) b/\w.heap.size<=b) w' sv s/\s.length=xs.length/\SnL v s/\SnL v xs/\SnL v ys/\
  ∀st2 res,M.Bd.Out n (M.mulB xs (ys.drop i) i s) v st2 res->M.Bd.Out n (M.mulB xs ys 0 (M.offsL xs.length)) st st2 res) ⟨st,aa,_,rfl,S.grow ae,a8,M.offsL_len _,SnL.fill _,ap,ar,λ_ _ h=>h⟩ ?_
 rintro i _ g w3 C hi ⟨y,sv,s,rfl,h3,Z,b5,B,a3,a6,A⟩ hC;have aq:=Ints.ext0 a4 h3.ext;simp(disch:=exact oS) only[push_cast,aq.len];refine zb (λb3=>?_) (λb1=>?_)
 .have H:i<ys.length:=oM;refine sfill7_spec oM λw4 rv U X W=>?_;have h4:=h3.take U X W;have N:Ints (Kp b4 b8 (O1 rv)) w4 sv s:=Ints.kpO (O:=λ_=>False) (Ints.weaken Z λb a _=>a.1) U (λb a=>a.elim) λb a=> .inr (W b a);have az:(xs.take (xs.length-i)).length=xs.length-i:=by rw[gh];omega
  refine vloop_up (xs.length-i) (λj u w'=> ∃c rv zs,u=[rv,nI ((i+j:Nat):Int)]/\Fm n D (O1 rv) w b4 b8 w' c/\OwnI zh w' rv (M.offsL i++zs)/\zs.length=j/\Ints (Kp b4 b8 (O1 rv)) w' sv s/\SnL c zs/\SnL c s/\SnL c xs/\SnL c ys/\
   ∀st2 rs,M.Bd.Out n (M.rowB (ys.getD i 0) ((xs.take (xs.length-i)).drop j)) c st2 rs->M.Bd.Out n (M.rowB (ys.getD i 0) (xs.take (xs.length-i))) y st2 (zs++rs)) ⟨y,rv,[],rfl,h4,by rw[gE];exact X,rfl,N,SnL.nil,B,a3,a6,λ_ _ h=>h⟩ ?_
  rintro j _ g5 w5 C5 hj ⟨c,a9,zs,rfl,z,Y,av,a0,a7,E,q,t,o⟩ ad;have ao:=Ints.ext0 Q z.ext;simp(disch:=exact oS) only[push_cast,ao.len];refine zb (λay=>?_) (λax=>?_)
  .have V:j<xs.length-i:=oM;refine zd λw6 G _=>?_;have T:=z.grow G;have a2:=Ints.ext0 Q T.ext;have a5:=Ints.ext0 a4 T.ext;obtain⟨c6,I,m⟩:=T.call;have ei:((i:Int)+j)-i=(j:Int):=oM;simp(disch:=exact oS) only[push_cast,zk,ei,a2.iaddr,a2.load,a5.iaddr,a5.load,y1,m w6 (Same.refl _ _)];refine sand7_spec hn I T.dl (q.get oM) (t.get H) λw7 ac R d l J hd f=>?_;simp only[push_cast,y1];refine T.put l J λw8 F x au=>?_
   try simp only[push_cast,y1,V1]
   have ak:OwnI zh w8 a9 (M.offsL i++zs):=((Y.ext G).ext l).same x λb a=>(z.off b a).2.2.1;have a1:Ints (Kp b4 b8 (O1 a9)) w8 sv s:=Ints.kp4 (Ints.ext (Ints.ext a0 G) l) x;refine F.app' ak (by rw[q0,M.offsL_len];omega) λaw w9 h9 al L=>?_
   try simp(disch:=omega) only[push_cast,zk]
   refine ad V _ _ ⟨R,aw,zs++[d],by simp<;>omega,h9,by rw[<-Gf];exact al,by simp[av],L _ _ a1,SnL.app (a7.out f) (SnL.one hd),E.out f,q.out f,t.out f,λst2 rs ho=>?_⟩;have:=o st2 (d::rs) ?_
   .simpa using this
   rw[j80 oM,Xv V];exact xI f (M.Bd.Out.map _ ho)
  .have b2:j=xs.length-i:=oM;have p:=o c [] (by rw[xq0 oM];exact M.Bd.Out.ret _ _);rw[gE] at p;obtain⟨c6,I,m⟩:=z.call;simp only[m w5 (Same.refl _ _)];refine sadd7_spec hn I z.dl a0 Y.ints (by rw[q0,M.offsL_len];omega) oM E (SnL.app (SnL.fill i) a7) (Sn.of dC dC) λw7 ac R nv ns l J f ah aj k=>?_;simp only[push_cast,y1];refine z.put l J λw8 F x au=>?_
   try simp(disch:=omega) only[push_cast,zk]
   have ai:ns.length=xs.length:=by
    have:=M.sum_len k.reach;rw[q0,M.offsL_len] at this;omega
   have l5:=z.lt4;have s5:=z.ext.size;refine hC H _ _ ⟨R,nv,ns,by simp,F.drop,Ints.same (Ints.weaken (F':=λb=>Kp b4 b8 (λ_=>False) b/\w.heap.size<=b) f.ints λb a _=>by have:=ah b a;exact⟨⟨oM,oM,id⟩,oM⟩) x (λb a _ e=>a.1.1 e),ai,aj,q.out k,t.out k,λst2 res ho=>A st2 res ?_⟩;rw[yY H];exact M.Bd.Out.bind p (M.Bd.Out.bind k ho)
 .refine h3.fin λw4 ab e4 af N=>?_;exact hK w4 ab y sv s e4 af (Ints.weaken (Ints.same Z N λb a _ e=>a.1.2.1 e) λb a _=>a.2) B (A y s (by rw[xv0 oM];exact M.Bd.Out.ret _ _))
theorem sfrom7_spec {op fill:Int} {j b:Nat} (hs:Ints Fx w sv xs) (f:j<xs.length) (h:xs.length<=1000) (g:b<=1000) (a:K (nI (M.fromL (decide (op=11)) fill xs b j)) w):
  vcall WI #[nI op,sv,nI j,nI b,nI fill] w K:=by
 refine ze {} Tryz.func221 ?_;obtain⟨f1,f2,f3⟩:=from_at (up:=decide (op=11)) (fill:=fill) (s:=xs) (b:=b) f;simp(disch:=omega) only[push_cast,zk];refine zb (λc=>?_) (λc=>?_)
 .rw[gu c] at f1 f2 f3 a;simp only[if_true] at f1 f2 f3;rw[show(j:Int)-b=j+ -(b:Int) by omega]
  try simp(disch:=omega) only[push_cast,zk]
  refine zb (λd=>?_) (λd=>?_)
  .rw[f2 d] at a;exact a
  try simp(disch:=exact oS) only[push_cast,hs.len]
  refine zb (λe=>?_) (λe=>?_)
  .rw[f3 e] at a;exact a
  simp(disch:=exact oS) only[push_cast,hs.iaddr,hs.load];rw[f1 oM oM] at a;exact a
 .rw[gj c] at f1 f2 f3 a;simp only[gZ,if_false] at f1 f2 f3;refine zb (λd=>absurd d oM) (λd=>?_)
  try simp(disch:=exact oS) only[push_cast,hs.len]
  refine zb (λe=>?_) (λe=>?_)
  .rw[f3 e] at a;exact a
  simp(disch:=exact oS) only[push_cast,hs.iaddr,hs.load];rw[f1 oM oM] at a;exact a
theorem from_sn {up:Bool} {fill:Int} {s:oI} {b k:Nat} (a:Sn st fill) (hs:SnL st s) (c:k<s.length):Sn st (M.fromL up fill s b k):=by
 unfold M.fromL
 repeat' split
 all_goals first|exact a|exact hs.get oM
theorem sshift7_spec {op:Int} (hn:n<=8) (hk:MkR n D w cs st) (hD:∀b,D b->b<w.heap.size) (hx:Ints Fx w xv xs) (hy:Ints Fy w yv ys) (h1:1<=xs.length) (h8:xs.length<=1000) (b6:ys.length<=8) (a7:SnL st xs) (au:SnL st ys)
  (hK:∀w' cs' st' r zs,Ext w w'->MkR n D w' cs' st'->Ints (λb=>w.heap.size<=b) w' r zs->SnL st' zs->M.Bd.Out n (M.shiftB (decide (op=11)) (if op=13 then xs.getD (xs.length-1) 0 else-1) ys 0 xs) st st' zs->K (.tuple #[.agg ⟨cs'⟩,r]) w'):
  vcall KZ #[.agg ⟨cs⟩,nI op,xv,yv] w K:=by
 refine ze {loops:=[(6,[10,12]),(10,[13,14])],cuts:=[(16389,[11])]} Tryz.func166 ?_;refine Fm.start hk hD λb4 b8 w1 p=>?_;have a6:=Ints.under hx;have a8:=Ints.under hy;have lo:=p.lo;have s1:=p.ext.size;refine spec_nil λv2 w2 ao e2 X=>?_;refine ao.app xH (Ints.ext0 a6 (p.ext.trans e2)) (by simp;omega) (by simp;omega) λv3 w3 ap aq an=>?_;have l1:=p.lt4;have z2:=e2.size;have ae:Ext w1 w3:=Ext.then e2 aq λb f=>X b f;have Z:∀b,v3.ownBlock=some b->w1.heap.size<=b:=λb f=>(an b f).elim (X b) λh=>oM
 have h3:=p.grow ae;have ab:Ints (λb=>Kp b4 b8 (λ_=>False) b/\w.heap.size<=b) w3 v3 xs:=Ints.weaken ap.ints λb f _=>by
  have:=Z b f;exact⟨⟨oM,oM,id⟩,oM⟩
 have aj:Sn st (if op=13 then xs.getD (xs.length-1) 0 else-1):=by
  split
  .exact a7.get oM
  .exact Sn.of dC dC
 refine zo (λu w'=>u=[nI (if op=13 then xs.getD (xs.length-1) 0 else-1)]/\w'=w3) ?_ ?_
 .intro J hJ;have U:=Ints.ext0 a6 h3.ext;refine oZ ?_;refine zb (λc=>?_) (λc=>?_)
  .rw[y3 c] at hJ;simp(disch:=exact oS) only[push_cast,U.len,zk];rw[show((xs.length:Int)-1)=((xs.length-1:Nat):Int) by omega];rw[U.iaddr XV oM oM,gl,U.load WA oM];exact hJ _ _ ⟨rfl,rfl⟩
  .rw[y0 c] at hJ;exact hJ _ _ ⟨rfl,rfl⟩
 rintro _ _ w4 ⟨rfl,rfl⟩;generalize (if op=13 then xs.getD (xs.length-1) 0 else-1)=fill at*;refine vloop_up ys.length (λi u w'=> ∃z sv s,u=[sv,nI i]/\Fm n D (λ_=>False) w b4 b8 w' z/\Ints (λb=>Kp b4 b8 (λ_=>False) b/\w.heap.size<=b) w' sv s/\s.length=xs.length/\SnL z s/\SnL z ys/\Sn z fill/\
  ∀st2 res,M.Bd.Out n (M.shiftB (decide (op=11)) fill (ys.drop i) i s) z st2 res->M.Bd.Out n (M.shiftB (decide (op=11)) fill ys 0 xs) st st2 res) ⟨st,v3,_,rfl,h3,ab,rfl,a7,au,aj,λ_ _ h=>h⟩ ?_
 rintro i _ g w5 C hi ⟨E,sv,s,rfl,h5,a4,b5,H,a9,ai,F⟩ hC;have ar:=Ints.ext0 a8 h5.ext;simp(disch:=exact oS) only[push_cast,ar.len];refine zb (λb3=>?_) (λb1=>?_)
 .have Q:i<ys.length:=oM;have hp:=pow_le4 (i:=i) oM;obtain⟨B,hB⟩:∃B,2^i=B:=⟨_,rfl⟩;refine spec_nil λrv w6 a2 W Y=>?_;have h6:=h5.take W a2 Y;have T:Ints (Kp b4 b8 (O1 rv)) w6 sv s:=Ints.kpO (O:=λ_=>False) (Ints.weaken a4 λb f _=>f.1) W (λb f=>f.elim) λb f=> .inr (Y b f);refine vloop_up s.length (λj u w'=> ∃k rv zs,u=[rv,nI j]/\Fm n D (O1 rv) w b4 b8 w' k/\OwnI zh w' rv zs/\zs.length=j/\Ints (Kp b4 b8 (O1 rv)) w' sv s/\SnL k zs/\SnL k s/\SnL k ys/\Sn k fill/\
   ∀st2 rs,M.Bd.Out n (M.eachB (M.muxB (ys.getD i 0)) (((List.range s.length).map (M.fromL (decide (op=11)) fill s B)).drop j) (s.drop j)) k st2 rs->M.Bd.Out n (M.eachB (M.muxB (ys.getD i 0)) ((List.range s.length).map (M.fromL (decide (op=11)) fill s B)) s) E st2 (zs++rs)) ⟨E,rv,[],rfl,h6,a2,rfl,T,SnL.nil,H,a9,ai,λ_ _ h=>h⟩ ?_
  rintro j _ g7 w7 C7 hj ⟨k,V,zs,rfl,h7,a3,av,a5,aa,x,y,N,v⟩ ah;simp(disch:=exact oS) only[push_cast,a5.len];refine zb (λay=>?_) (λax=>?_)
  .have m:j<s.length:=oM;refine zd λw8 I _=>?_;have A:=h7.grow I;have l:=Ints.ext a5 I;have a:=Ints.ext0 a8 A.ext;obtain⟨c8,al,q⟩:=A.call;simp(disch:=exact oS) only[push_cast,l.iaddr,l.load,a.iaddr,a.load,y1,q w8 (Same.refl _ _)];refine l1Two_nat oM ?_;rw[hB];simp(disch:=exact oS) only[push_cast,l.iaddr,l.load,a.iaddr,a.load,y1,V1,q w8 (Same.refl _ _)];refine sfrom7_spec l m oM oM ?_;simp(disch:=exact oS) only[push_cast,l.iaddr,l.load,a.iaddr,a.load,y1,V1,q w8 (Same.refl _ _)];refine sone7_spec hn al A.dl (y.get Q) (from_sn N x m) (x.get m) λw9 b0 aw d L am hd t=>?_;simp only[push_cast,y1];refine A.put L am λw10 af G az=>?_
   try simp only[push_cast,y1,V1]
   have a0:OwnI zh w10 V zs:=((a3.ext I).ext L).same G λb f=>(h7.off b f).2.2.1;have S:Ints (Kp b4 b8 (O1 V)) w10 sv s:=Ints.kp4 (Ints.ext l L) G;refine af.app' a0 oM λac b7 ag a1 R=>?_
   try simp(disch:=omega) only[push_cast,zk]
   refine ah m _ _ ⟨aw,ac,zs++[d],by simp,ag,a1,by simp[av],R _ _ S,SnL.app (aa.out t) (SnL.one hd),x.out t,y.out t,N.out t,λst2 rs ho=>?_⟩;have:=v st2 (d::rs) ?_
   .simpa using this
   rw[XU (by simpa using m) m,JG m];exact M.Bd.Out.bind t (M.Bd.Out.map _ ho)
  .have b2:j=s.length:=oM;have o:=v k [] (by rw[Ye (by simp;omega)];exact M.Bd.Out.ret _ _);rw[gE] at o
   try simp(disch:=omega) only[push_cast,zk]
   refine hC Q _ _ ⟨k,V,zs,by simp,h7.drop,Ints.weaken a3.ints (λb f _=>by have h9:=h7.off b f;exact⟨⟨h9.2.2.1,h9.2.2.2,id⟩,h9.2.1⟩),oM,aa,y,N,λst2 res ho=>F st2 res ?_⟩;rw[yY Q];rw[<-hB] at o;exact M.Bd.Out.bind o ho
 .refine h5.fin λw6 ad e6 ak T=>?_;exact hK w6 ad E sv s e6 ak (Ints.weaken (Ints.same a4 T λb f _ e=>f.1.2.1 e) λb f _=>f.2) H (F E s (by rw[zt0 oM];exact M.Bd.Out.ret _ _))
end
section
variable {w:World} {K:oK} {D F Fx Fy Y S O:oA} {n b4 b8:Nat} {v nv xv yv:Value} {cs cs':List Value} {st st':Option M.Gs} {a b c m x y r:Int} {xs ys:oI}
theorem SnL.set {xs:oI} (h:SnL st xs) {i:Nat} {x:Int} (b:Sn st x):SnL st (xs.set i x):=λy c=>by
 rcases pT c with a|a
 .exact h y a
 .rw[a];exact b
theorem SnL.take (h:SnL st xs) (m:Nat):SnL st (xs.take m):=λx a=>h x (Gc a)
theorem sdiv7_spec (hn:n<=8) (hk:MkR n D w cs st) (hD:∀b,D b->b<w.heap.size) (hx:Ints Fx w xv xs) (hy:Ints Fy w yv ys) (hl:xs.length=ys.length) (h8:xs.length<=900) (cq:SnL st xs) (ct:SnL st ys)
  (hK:∀w' cs' st' qv rv q r,Ext w w'->MkR n D w' cs' st'->Ints (λb=>w.heap.size<=b) w' qv q->Ints (λb=>w.heap.size<=b) w' rv r->SnL st' q->SnL st' r->M.Bd.Out n (M.divB xs (ys++[-1]) xs.length (M.offsL xs.length) (M.offsL xs.length)) st st' (q,r)->K (.tuple #[.agg ⟨cs'⟩,qv,rv]) w'):
  vcall zE0 #[.agg ⟨cs⟩,xv,yv] w K:=by
 refine ze {loops:=[(6,[10,13])]} Tryz.func165 ?_;refine Fm.start hk hD λb4 b8 w1 h1=>?_;have bj:=Ints.under hx;have cr:=Ints.under hy;have lo:=h1.lo;have s1:=h1.ext.size;have l1:=h1.lt4;have cp:=Ints.ext0 bj h1.ext;simp(disch:=exact oS) only[push_cast,cp.len];refine sfill7_spec oM λw2 bm a5 b7 az=>?_;refine sfill7_spec oM λw3 qv Q ab U=>?_;refine spec_nil λv4 w4 cc e4 ay=>?_;refine cc.app xH (Ints.ext0 cr (h1.ext.trans (a5.trans (Q.trans e4)))) (by simp;omega) (by simp;omega) λv5 w5 cd bb c9=>?_;have z2:=a5.size;have z3:=Q.size;have z4:=e4.size;have z5:=bb.size;have cm:∀b,v5.ownBlock=some b->w3.heap.size<=b:=λb a=>(c9 b a).elim (ay b) λh=>oM
 have bs:Ext w3 w5:=Ext.then e4 bb λb a=>ay b a;refine spec_app (w0:=w3) bs cd cm (by simp;omega) λwv w6 bi a2 b0=>?_;rw[Gg] at bi;simp(disch:=omega) only[push_cast,zk];have ce:=ab.ext a2;have h2:=h1.grow a5;have h3:=h2.take Q ab U;have h6:Fm n D (O1 qv) w b4 b8 w6 st:=h3.grow a2;have bz:Ints (λb=>Kp b4 b8 (O1 qv) b/\w.heap.size<=b) w6 bm (M.offsL xs.length):=Ints.weaken (b7.ext (Q.trans a2)).ints λb a _=>by
  have bw:=az b a;have c6:=b7.lt a;exact⟨⟨oM,oM,λhq=>by have:=U b hq;omega⟩,oM⟩
 have c3:Ints (Kp b4 b8 (O1 qv)) w6 wv (ys++[-1]):=Ints.weaken bi.ints λb a _=>by
  have bw:=b0 b a;exact⟨oM,oM,λhq=>by have:=ab.lt hq;omega⟩
 have dd:(ys++[(-1:Int)]).length=xs.length+1:=by rw[q0,hl];rfl
 have co:SnL st (ys++[(-1:Int)]):=ct.app (SnL.one (Sn.of dC dC));generalize ys++[(-1:Int)]=wide at*;refine jJ (λm u w'=> ∃B rv r q,u=[rv,nI ((m:Int)-1)]/\m<=xs.length/\Fm n D (O1 qv) w b4 b8 w' B/\Ints (λb=>Kp b4 b8 (O1 qv) b/\w.heap.size<=b) w' rv r/\r.length=xs.length/\SnL B r/\OwnI zh w' qv q/\q.length=xs.length/\SnL B q/\Ints (Kp b4 b8 (O1 qv)) w' wv wide/\SnL B wide/\SnL B xs/\
  ∀st2 res,M.Bd.Out n (M.divB xs wide m r q) B st2 res->M.Bd.Out n (M.divB xs wide xs.length (M.offsL xs.length) (M.offsL xs.length)) st st2 res) xs.length
  ⟨st,bm,_,_,rfl,gp _,h6,bz,M.offsL_len _,SnL.fill _,ce,M.offsL_len _,SnL.fill _,c3,co,cq,λ_ _ h=>h⟩ ?_
 rintro m _ g w7 C ⟨ad,rv,r,q,rfl,hm,h7,b9,cg,ba,b5,cf,b6,cn,z,Z,V⟩ hC;refine oZ ?_;refine zb (λdb=>?_) (λc6=>?_)
 .obtain⟨m,rfl⟩:∃j,m=j+1:=⟨m-1,oM⟩;have c8:m<xs.length:=oM;rw[show((m+1:Nat):Int)-1=(m:Int) by omega];have bk:=Ints.ext0 bj h7.ext;rw[bk.iaddr XV oM oM,gl,bk.load WA oM];refine zC xu yW xK rfl rfl λa0 w8 da ao de bx=>?_;have ci:OwnI zh w8 (.slice (some ⟨a0,0,none⟩) 1 1) [xs.getD m 0]:=Blk.own1 (t:=zh) (cs:=[nI (xs.getD m 0)]) (by rw[qQ];exact bx) (gF _) rfl rfl oM;refine ci.app xH (Ints.ext b9 ao) (by simp;omega) (by simp;omega) λtv w9 cj ch ca=>?_;have ah:Ext w7 w9:=Ext.then ao ch λb a=>by have e:a0=b:=K3 a;omega
  have ck:∀b,tv.ownBlock=some b->w7.heap.size<=b:=λb a=>(ca b a).elim (λh=>by have e:a0=b:=K3 h;omega) λh=>oM;have h9:=h7.grow ah;have c0:Ints (Kp b4 b8 (O1 qv)) w9 tv (xs.getD m 0::r):=h7.new cj ck;have ac:SnL ad (xs.getD m 0::r):=(SnL.one (Z.get c8)).app ba;have bd:(xs.getD m 0::r).length=xs.length+1:=(by rw[gB,cg]);refine spec_nil λvz w10 d0 a1 cb=>?_;have E:=h9.grow a1;have R:=ah.trans a1;have S:Ints (Kp b4 b8 (O1 qv)) w10 tv (xs.getD m 0::r):=Ints.ext c0 a1;have X:Ints (Kp b4 b8 (O1 qv)) w10 wv wide:=Ints.ext cn R;have b1:=b5.ext R;generalize ht:xs.getD m 0::r=t at*;obtain⟨d6,ap,a6⟩:=E.call;simp only[a6 w10 (Same.refl _ _)];refine sless7_spec hn ap E.dl S X oM oM ac z λdg cx bn l v aq I d=>?_;simp only[push_cast,y1];refine E.put v aq λae ai L d1=>?_;have W:OwnI zh ae qv q:=(b1.ext v).same L λb a=>(E.off b a).2.2.1;have ak:Ints (Kp b4 b8 (O1 qv)) ae tv t:=Ints.kp4 (Ints.ext S v) L;have bg:Ints (Kp b4 b8 (O1 qv)) ae wv wide:=Ints.kp4 (Ints.ext X v) L;have c5:=I.1;unfold Sm at c5;simp(disch:=omega) only[push_cast,zk,gO];rw[W.ints.iaddr XV oM oM,gl];refine W.st yW oM λaf b2 N d2=>?_;have bt:Fm n D (O1 qv) w b4 b8 af bn:=ai.own N (λb a=>a) λb a=>⟨by have:=(ai.off b a).1;omega,.inl a⟩;have al:Ints (Kp b4 b8 (O1 qv)) af tv t:=Ints.same ak N λb a _ e=>a.2.2 e;have Y:Ints (Kp b4 b8 (O1 qv)) af wv wide:=Ints.same bg N λb a _ e=>a.2.2 e;refine zd λcw k _=>?_;have a3:=bt.grow k;obtain⟨d7,ar,J⟩:=a3.call;simp only[push_cast,y1,J cw (Same.refl _ _)];refine sturn7_spec (Ints.ext Y k) oM (z.sm) λag nv i ax a8=>?_;have a4:=a3.grow i;have aj:Ints (Kp b4 b8 (O1 qv)) ag nv (M.negL wide):=a3.new ax a8;have T:Ints (Kp b4 b8 (O1 qv)) ag tv t:=Ints.ext (Ints.ext al k) i;simp only[push_cast,y1,V1,J ag i];refine sadd7_spec hn (ar.ext i λ_ h _=>h) a4.dl T aj (by rw[M.negL_len];omega) oM (ac.out d) ((z.out d).neg) (Sn.of dC dC) λdh cy d5 uv us x au be a9 cl f=>?_;simp only[push_cast,y1];refine a4.put x au λbp bu y d3=>?_;have bf:us.length=xs.length+1:=by
   have:=M.sum_len f.reach;rw[M.negL_len] at this;omega
  have an:Ints (Kp b4 b8 (O1 qv)) bp uv us:=Ints.kp4 (a4.new be a9) y;have am:Ints (Kp b4 b8 (O1 qv)) bp tv t:=Ints.kp4 (Ints.ext T x) y
  try simp only[push_cast,y1,V1]
  refine zd λs o _=>?_;have A:=bu.grow o;obtain⟨d8,av,a7⟩:=A.call;have F:=Ints.ext am o;have G:=Ints.ext an o;have eT:xf zh tv none (some (nI xs.length)) none s=λK=>K (cutV tv xs.length) s:=by
   funext K
   by_cases c:xs.length<=t.length
   .exact Sl.cut F (Sl.base F (by simp;intro h;rw[h] at bd;simp at bd)) XV (by simpa using c)
   .omega
  have eU:xf zh uv none (some (nI xs.length)) none s=λK=>K (cutV uv xs.length) s:=by
   funext K
   exact Sl.cut G (Sl.base G (by simp;intro h;rw[h] at bf;simp at bf)) XV (by simpa using(show xs.length<=us.length by omega))
  have c1:Ints (Kp b4 b8 (O1 qv)) s (cutV tv xs.length) (t.take xs.length):=by
   have:=Sl.taken F (n:=xs.length) (by simpa using(show xs.length<=t.length by omega));unfold Ints Vals;rw[GH,GH];exact this
  have c2:Ints (Kp b4 b8 (O1 qv)) s (cutV uv xs.length) (us.take xs.length):=by
   have:=Sl.taken G (n:=xs.length) (by simpa using(show xs.length<=us.length by omega));unfold Ints Vals;rw[GH,GH];exact this
  simp only[push_cast,y1,a7 s (Same.refl _ _),eT,eU];refine sifs7_spec hn av A.dl c1 c2 (by rw[gh,gh];omega) (by rw[gh];omega) (((ac.out d).out f).take _) (cl.take _) (I.out f) λdi cz bo zv zs H aw bl aa cv p=>?_;simp only[push_cast,y1];refine A.put H aw λbq bv O d4=>?_
  try simp(disch:=omega) only[push_cast,y1,V1,zk]
  have cu:zs.length=xs.length:=by
   have:=M.each_len p.reach;rw[gh,gh] at this;omega
  have b3:OwnI zh bq qv (q.set m (-l)):=by
   have off:∀b,qv.ownBlock=some b->¬b=b4:=λb a=>(E.off b a).2.2.1;exact((((((b2.ext k).ext i).ext x).same y off).ext o).ext H).same O off
  have bh:Ints (Kp b4 b8 (O1 qv)) bq wv wide:=Ints.kp4 (Ints.ext (Ints.ext (Ints.kp4 (Ints.ext (Ints.ext (Ints.ext Y k) i) x) y) o) H) O;have df:=A.ext.size;refine hC m _ _ oM ⟨bo,zv,zs,q.set m (-l),by simp<;>exact⟨rfl,rfl⟩,oM,bv,Ints.same (Ints.weaken (F':=λb=>Kp b4 b8 (O1 qv) b/\w.heap.size<=b) bl.ints λb a _=>by
   have d9:=aa b a;have dc:=A.lt4;exact⟨⟨oM,oM,λhO=>by have:=(A.off b hO).1;omega⟩,oM⟩) O (λb a _ e=>a.1.1 e),cu,cv,b3,by rw[gK];exact cf,(((b6.out d).set I.neg).out f).out p,bh,((z.out d).out f).out p,((Z.out d).out f).out p,λst2 res ho=>V st2 res ?_⟩
  subst ht;exact xB0 d f p ho
 .have c7:m=0:=oM;subst c7;refine h7.fin λw8 br e8 c4 bc=>?_;exact hK w8 br ad qv rv q r e8 c4 (Ints.weaken (b5.same bc λb a e=>(h7.off b a).2.2.2 e).ints λb a _=>(h7.off b a).2.1) (Ints.weaken (Ints.same b9 bc λb a _ e=>a.1.2.1 e) λb a _=>a.2) b6 ba (V ad (q,r) (by unfold M.divB;exact M.Bd.Out.ret _ _))
end
end Go.Proofs.YtfnpmncplaibiaaGreatDoor
end
