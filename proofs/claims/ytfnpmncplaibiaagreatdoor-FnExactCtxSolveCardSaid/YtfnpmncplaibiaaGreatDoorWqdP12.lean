import Derived.Test.YtfnpmncplaibiaaGreatDoorWqdP11
import Derived.Test.YtfnpmncplaibiaaGreatDoorWqdP10
/- A part of the proof. -/
set_option linter.all false
set_option maxRecDepth 9999
set_option maxHeartbeats 2000000
noncomputable section
namespace Go.Proofs.YtfnpmncplaibiaaGreatDoor
open Go Go.Vc Go.Proofs
section
variable {w:World} {K:oK} {F F' D G:oA}
set_option maxRecDepth 20000 in
theorem l3Fold_spec:∀(t:M.Tm) {w:World} {K:oK} {F G:oA} {dv tv:Value} {ds:List M.Dcl},DclsR F w dv ds->M.declOk ds=true->TermR G w tv t->M.sortM ds t≠ -1->X00 K w G (M.foldT ds t)->vcall WT #[dv,tv] w K:=by
 refine M.Tm.ind λt ih w K F G dv tv ds hd T ht hs hK=>?_;have hlen:=M.len_of hs;have ay:t.ks.length<=3:=by
  unfold M.arity at hlen
  repeat' split at hlen
  all_goals omega
 refine ze {loops:=[(3,[6])]} Tryz.func78 ?_;obtain⟨kv,rfl,ae⟩:=ht;refine zj λb1 w1 ap Y av h1=>?_;refine zi zq λb2 w2 aq Z aw h2=>?_;have az:=Y.size;have q2:=h1.ext Z;simp only[push_cast,q2.ld0,q2.ld1,q2.ld2,q2.ld3];refine zi zq λb3 w3 ar a0 ax h3=>?_;refine stTerm h3 rfl (yb0 t.op t.a t.b t.s:TmR (λ_=>False) w3 _ _) λB a7 b0 h4=>?_;have W:Ext w1 B:=Ext.then (Z.trans a0) a7 λy hy=>by subst hy;omega
 have N:=Y.trans W;have q4:=h1.ext W;have r4:=(h2.ext a0).same a7 oM;have ac:TmsR (λx=>G x/\x<w.heap.size) B kv t.ks:=(ae.weaken λb h X=>⟨h,X⟩).ext N;have an:=N.size;refine vloop_up t.ks.length (λi u w'=>u=[nI i]/\Same (λb=>b=b3) B w'/\∃k css,Blk w' b3 [nI t.op,nI t.a,nI t.b,.string t.s,k] za/\Own 0 5 zl w' k css/\css.length=i/\(∀b,k.ownBlock=some b->B.heap.size<=b)/\
   ∀j,j<i->TmR (λx=>(G x/\x<w.heap.size)\/(B.heap.size<=x/\k.ownBlock≠some x)) w' (css.getD j []) (M.foldT ds (t.ks.getD j default)))
  ⟨rfl,Same.refl _ _,_,[],h4,Own.nil _ _ _ _,rfl,λb h=>(by cases h),λj V=>absurd V oM⟩ ?_
 rintro i _ _ w5 C hi ⟨rfl,d,k,css,h5,v,S,g,E⟩ hC;have b4:=d.size;have O:Ext w w5:=Ext.then N d λy hy=>by subst hy;omega
 have a2:=ac.same d λb f _ e=>oM
 have q5:=q4.same d oM;simp only[push_cast,q5.ld4,a2.len];refine zb (λa=>?_) (λa=>?_)
 .refine zd λw8 o _=>?_;have q8:=q5.ext o;have p8:=h5.ext o;obtain⟨cks,a6,au,hc⟩:=a2.ext o;simp(disch:=exact oS) only[push_cast,q8.ld4,p8.ld4,a6.iaddr,a6.ldAgg,y1];have I:t.ks.getD i default∈t.ks:=M.getD_mem oM _;have b6:=o.size;refine ih _ I (hd.ext (O.trans o)) T (hc i oM).term ((M.sort_parts hs).2.1 _ I) λw9 rv Q z=>?_;obtain⟨cr,rfl,n⟩:=z.cells;have p9:=p8.ext Q;simp only[push_cast,p9.ld4,y1,V1];have b7:=Q.size;refine qx qf qz zq rfl (zU n) dC λao w10 ai l aj a9=>?_;have a8:=p9.ext l;simp only[push_cast,a8.ld4,y1,V1];have D:=o.trans (Q.trans l);have a5:=v.ext D;refine Own.app1k a5 jo dC a9 (zU n) (tmR_one n) oM oM λp b8 J m q=>?_;have ah:=a8.same m (λe=>by have:=g _ e;have:=h5.lt;omega);have al:=m.size
  try simp only[push_cast,y1]
  have a3:p.cells= #[p]/\p.oneCell'=true:=by
   obtain⟨a,c,rfl,_⟩:=J.sl.shape;exact⟨rfl,rfl⟩
  refine ah.st (i:=4) a3.1 a3.2 xy rfl λA r am L=>?_;replace L:Blk A b3 [nI t.op,nI t.a,nI t.b,.string t.s,p] za:=L;rw[inc64' oM];have ak:=l.size;have H:∀b,p.ownBlock=some b->B.heap.size<=b:=λb f=>by
   rcases q b f with h|h
   .exact g b h
   .omega
  have U:Same (λb=>b=b3\/k.ownBlock=some b) w5 A:=(Same.of_ext D).trans ((m.mono λ_ _ h=> .inr h).trans (r.mono λ_ _ h=> .inl h));have aa:Same (λb=>b=b3) B A:=⟨U.os.trans d.os,U.tape.trans d.tape,U.output.trans d.output,gH d.size U.size,λb f a4=>(U.block b oM (λe=>e.elim a4 λe=>by have:=g b e;omega)).trans (d.block b f a4)⟩;refine hC oM _ _ ⟨rfl,aa,p,css++[cr],L,J.same r (λb f e=>by have:=H b f;omega),by simp[S],H,λj V=>?_⟩;by_cases ej:j<i
  .rw[y2,Gj oM,<-y2];refine((E j ej).weaken (F':=λx=>((G x/\x<w.heap.size)\/(B.heap.size<=x/\k.ownBlock≠some x))/\x<w5.heap.size) λb h X=>⟨h,X⟩).same U (λb f _ e=>?_)|>.weaken λb f _=>?_
   .rcases f.1 with h|h
    .rcases e with e|e
     .omega
     .have:=g b e;omega
    .rcases e with e|e
     .omega
     .exact h.2 e
   .rcases f.1 with h|h
    .exact .inl h
    .refine .inr ⟨h.1,λe=>?_⟩;rcases q b e with e|e
     .exact h.2 e
     .omega
  .have:j=i:=oM;subst this;rw[y2,Gy oM,S,pj];show TmR _ A cr _;refine(((n.weaken (F':=λx=>((G x/\x<w.heap.size)\/w8.heap.size<=x)/\x<w9.heap.size) λb h X=>⟨h,X⟩).ext l).same m (λb f _ e=>?_)).same r (λb f _ e=>?_)|>.weaken λb f _=>?_
   .have:=g b e;have:=(v.lt e).2;rcases f.1 with h|h<;>omega
   .rcases f.1 with h|h<;>omega
   .rcases f.1 with h|h
    .exact .inl h
    .refine .inr ⟨oM,λe=>?_⟩;rcases q b e with e|e
     .have:=(v.lt e).2;omega
     .omega
 .have ab:i=t.ks.length:=oM;subst ab;rw[h5.ldAgg (t:=za) zc];have ad:TmsR (λx=>(G x/\x<w.heap.size)\/B.heap.size<=x) w5 k (t.ks.map (M.foldT ds)):=by
   refine⟨css,v.sl.weaken λb f _=> .inr (g b f),by rw[S,y4],λj V=>?_⟩;rw[y4] at V;rw[M.getD_map _ V _ default];exact(E j V).weaken λb f _=>f.imp id λh=>h.1
  have R:=M.kids_good T hs;refine l3One_spec (t:=M.remake t (t.ks.map (M.foldT ds))) (hd.ext O) T ⟨k,rfl,ad⟩ (by rw[R.sort];exact hs) λw6 rv a1 z=>?_;rw[<-M.foldT_rem] at z;obtain⟨cr,rfl,n⟩:=z.cells;have r6:=(r4.same d oM).ext a1;refine qr r6 rfl n (λx hx=>by rcases hx with(h|h)|h<;>omega) λw7 ag b5 af=>?_;exact hK _ _ (Ext.then (O.trans a1) ag λy hy=>by subst hy;omega) (af.weaken λx hx _=>by
   rcases hx with(h|h)|h
   .exact .inl h.1
   .exact .inr oM
   .exact .inr oM)
end
theorem zr0 {ds:List M.Dcl} {t:M.Tm} (a:M.declOk ds=true) (b:M.fits t=true):M.tsort ds t=M.sortM ds t:=by unfold M.tsort;rw[y3 ⟨b,a⟩]
theorem Zx0 {ds:List M.Dcl} {t:M.Tm} (a:M.declOk ds=true) (b:M.fits t=true) (hs:M.sortM ds t≠ -1):Qw ds t=M.foldT ds t:=by
 unfold Qw;rw[y0 (by rw[zr0 a b];exact hs)]
end Go.Proofs.YtfnpmncplaibiaaGreatDoor
section
namespace Go.M
variable {ds:List Dcl} {env:oI}
def msbN:List Bool->Nat
 |b::bs=>(if b then 2^bs.length else 0)+msbN bs
 |[]=>0
theorem Uo (b:Bool) (bs:List Bool):msbN (b::bs)=(if b then 2^bs.length else 0)+msbN bs:=rfl
theorem msb_lt:∀bs:List Bool,msbN bs<2^bs.length
 |[]=>dC
 |b::bs=>by
  have:=msb_lt bs
  grind [Uo]
theorem msb_app:∀aa bs:List Bool,msbN (aa++bs)=msbN aa*2^bs.length+msbN bs
 |[],bs=>by simp[msbN]
 |a::aa,bs=>by
  rw[Gz,Uo,Uo,msb_app aa bs,q0,Nat.pow_add,GZ]
  grind
def envB:List Dcl->List Bool->oI
 |d::ds,ins=>(msbN (ins.take d.2.toNat):Int)::envB ds (ins.drop d.2.toNat)
 |[],_=>[]
theorem envB_len:∀(ds:List Dcl) (ins:List Bool),(envB ds ins).length=ds.length
 |[],_=>rfl
 |d::ds,ins=>by simp[envB,envB_len ds]
def exK:List Bool->Int->oI
 |b::bs,k=>(if b then-k else k)::exK bs (k+1)
 |[],_=>[]
def exC (ds:List Dcl) (env:oI):oI:=exK (insM ds env) 2
theorem exK_len:∀(bs:List Bool) (k:Int),(exK bs k).length=bs.length
 |[],_=>rfl
 |b::bs,k=>by simp[exK,exK_len bs]
theorem exK_get:∀{bs:List Bool} {k:Int} {i:Nat},i<bs.length->(exK bs k).getD i 0=if bs.getD i false then-(k+i) else k+i
 |[],_,_,h=>by simp at h
 |b::bs,k,0,_=>by simp[exK]
 |b::bs,k,i+1,h=>by
  have:=exK_get (bs:=bs) (k:=k+1) (i:=i) (by grind)
  grind [exK]
theorem exC_ok {m:Nat} (hm:1+(insM ds env).length<=m):yZ m (exC ds env)=true:=by
 refine QF.2 λk a=>?_;unfold exC at a⊢;rw[exK_len] at a;have e:=exK_get (k:=2) a;refine⟨?_,?_⟩
 .grind [litOk]
 grind [exK_get]
def jobC (ds:List Dcl) (gs:Gs) (rs:List (oI)) (nots:List (oI)):Cnf:=netC (nIn ds) gs (rootsC rs++nots.map (exC ds))
def searchM (n:Nat) (ds:List Dcl) (c:Cnf):oI×Int:=
 let s:=runM c.many.toNat c n emptyS
 if s.code=1 then(envB ds (insV (wayM s.put) (nIn ds)),1) else if s.code=2 then([],2) else([],3)
def solveM (n:Nat) (ds:List Dcl) (ts:List Tm) (nots:List (oI)):oI×Int:=match listB ds (ts.map (foldT ds)) with
 |none=>([],3)
 |some (gs,rs)=>searchM n ds (jobC ds gs rs nots)
section
variable {ts:List Tm} {gs:Gs} {rs nots:List (oI)}
theorem job_ok (b:declOk ds=true) (h:ListNet ds ts gs rs) (d:∀e,e∈nots->envOk ds e=true) (c:ts.length+nots.length<=90):cnfOk (jobC ds gs rs nots)=true:=by
 refine net_ok (nIn_eq b).2 h.net (by unfold rootsC;rw[q0,y4,y4,h.many];exact c) λcl a=>?_;rcases gk.1 a with a|a
 .exact roots_ok b h cl a
 .obtain⟨e,he,rfl⟩:=gr.1 a;exact exC_ok (by rw[insM_n (d e he)];omega)
end
end Go.M
end
namespace Go.Proofs.YtfnpmncplaibiaaGreatDoor
open Go Go.Vc Go.Proofs
section
variable {ds:List M.Dcl} {t:M.Tm} {ts:List M.Tm} {nots:List (oI)}
theorem Wm (b:M.declOk ds=true) (h:M.tsort ds t=0):M.tsort ds (M.foldT ds t)=0/\Qw ds t=M.foldT ds t:=by
 obtain⟨a,d,f⟩:=JD h;have c:=M.fold_good b t (by rw[a];decide);obtain⟨f1,f2⟩:=M.fits_iff.1 d;have e:M.fits (M.foldT ds t)=true:=M.fits_iff.2 ⟨gH c.size f1,gH c.deep f2⟩;exact⟨by rw[zr0 b e,c.sort,a],Zx0 b d (by rw[a];decide)⟩
theorem Q1 (h:zd0 ds ts=true):zd0 ds (ts.map (M.foldT ds))=true:=by
 obtain⟨b,a,c⟩:=all8_iff.1 h;refine all8_iff.2 ⟨by rw[y4];exact b,a,λu hu=>?_⟩;obtain⟨t,d,rfl⟩:=gr.1 hu;exact(Wm a (c t d)).1
def qW (ds:List M.Dcl) (ts:List M.Tm) (nots:List (oI)):oI×Int:=if zd0 ds ts=true then M.solveM 4000 ds ts nots else([],4)
def x70 (c:M.Cnf) (ds:List M.Dcl) (nots:List (oI)):M.Cnf:=⟨c.many,c.list++nots.map (M.exC ds)⟩
theorem jU0 {gs:M.Gs} {rs:List (oI)}:x70 (M.blastC ds gs rs) ds nots=M.jobC ds gs rs nots:=by
 show M.Cnf.mk _ _=M.Cnf.mk _ _;congr 1;show([1]::(M.gatesC _ gs 0++M.rootsC rs))++_=[1]::(M.gatesC _ gs 0++(M.rootsC rs++_));simp
theorem Wd (h: ¬zd0 ds ts=true):qW ds ts nots=([],4):=by unfold qW;rw[y0 h]
theorem JB (h:zd0 ds ts=true) (a:(cnfE ds (ts.map (M.foldT ds))).2≠0):qW ds ts nots=([],3):=by
 unfold qW M.solveM;rw[y3 h];unfold cnfE at a;rw[y3 (Q1 h)] at a;cases b:M.listB ds (ts.map (M.foldT ds)) with
 |none=>rfl
 |some r=>rw[b] at a;exact absurd rfl a
theorem k10 (h:zd0 ds ts=true):(cnfE ds ts).2=0\/(cnfE ds ts).2=1:=by
 unfold cnfE;rw[y3 h];cases M.listB ds ts with
 |none=>exact .inr rfl
 |some r=>exact .inl rfl
theorem solveR_run (h:zd0 ds ts=true) (b:(cnfE ds (ts.map (M.foldT ds))).2=0) (f:∀e,e∈nots->M.envOk ds e=true) (j:nots.length<=80):
  qW ds ts nots=M.searchM 4000 ds (x70 (cnfE ds (ts.map (M.foldT ds))).1 ds nots)/\M.cnfOk (x70 (cnfE ds (ts.map (M.foldT ds))).1 ds nots)=true/\1+M.nIn ds<=(cnfE ds (ts.map (M.foldT ds))).1.many.toNat:=by
 have c:=Q1 h;unfold qW M.solveM;rw[y3 h];unfold cnfE at b⊢;rw[y3 c] at b⊢;cases d:M.listB ds (ts.map (M.foldT ds)) with
 |none=>rw[d] at b;exact absurd b (by simp)
 |some r=>
  obtain⟨i,a2,a3⟩:=all8_iff.1 c;have a:=M.list_net a2 (λt g=>by rw[(JD (a3 t g)).1];decide) d;have e:=jU0 (ds:=ds) (nots:=nots) (gs:=r.1) (rs:=r.2);refine⟨by show _=M.searchM 4000 ds (x70 (M.blastC ds r.1 r.2) ds nots);rw[e],by show M.cnfOk (x70 (M.blastC ds r.1 r.2) ds nots)=true;rw[e];exact M.job_ok a2 a f oM,?_⟩;show 1+M.nIn ds<=(M.netC _ r.1 (M.rootsC r.2)).many.toNat;unfold M.netC;simp only;omega
end
section
variable {w:World} {G:oA}
theorem one_tms {ks:List M.Tm} {css:List (List Value)} (k:css.length=ks.length) (h:∀i,i<ks.length->TmR G w (css.getD i []) (ks.getD i default)):∀y,y∈css->∀c,c∈y->c.oneCell'=true:=λy g c a=>by
 obtain⟨i,hi,rfl⟩:=gn g;have f:=h i oM;rw[y2,V0 hi] at f;obtain⟨j,he,b⟩:=f.inv;obtain⟨e,d,_⟩:=b;rw[show css[i]=(some css[i]).getD [] from rfl,he] at a;simp only[gg,gx,Ge] at a;rcases a with rfl|rfl|rfl|rfl|rfl
 .rfl
 .rfl
 .rfl
 .rfl
 .exact d.one
end
section
variable {w:World} {K:oK} {D F F' G Fr Fx Fy X:oA} {n N b:Nat} {gs:M.Gs} {v dv tv lv:Value} {ls ls':List Value} {xss yss:List (oI)} {xs ys:oI} {ds:List M.Dcl} {t:M.Tm} {ts:List M.Tm} {ar ab:Addr} {k m:Int} {st:Option M.Gs}
theorem lit_row {w2:World} {us:oI} {xs:List Value} {K:oK} (m:xs=us.map (λx=>nI x)) (g:us.length<=8) (k:RowsR N (λb=>b<w2.heap.size) w2 ls xss) (j:ls.length=xss.length)
  (h:∀a v,Ext w2 a->RowsR N (λb=>b<a.heap.size) a (ls++[v]) (xss++[us])->(∃o l c,v= .slice o l c)->K v a):vbuildS zh xs.length (xs.zipIdx.map λp=>(p.2,p.1)) w2 K:=by
 refine lit_ints m g λa b3 i d n e=>?_;refine h a _ d (RowsR.new (k.weaken λb q _ _=>oM) j d e (λb f=>?_) λb f=>e.lt f) ⟨_,_,_,rfl⟩;have:b=b3:=(K3 f).symm;omega
theorem lits_fin {w2:World} {xs:List Value} (g:xs.length<=8) (k:xs.length=xss.length) (m:∀x,x∈xs->∃o l c,x= .slice o l c) (f:RowsR N (λb=>b<w2.heap.size) w2 xs xss) (h:∀w' v,Ext w2 w'->Fresh N w' v xs xss->K v w'):
  vbuildS zI xs.length (xs.zipIdx.map λp=>(p.2,p.1)) w2 K:=by
 refine lit_lists m g λq b3 j a n d=>?_;have s:=f.nle;refine h q _ a ⟨d,k,λb i=>?_,?_⟩
 .have:b=b3:=(K3 i).symm;omega
 .exact(f.ext a).weaken λb r _ _ e=>by
   have:b3=b:=K3 e;omega
theorem gl_xor {a b k:Int} {K:oK} (s:∀w' v ls,Ext w w'->Fresh w.heap.size w' v ls [[a,b,-k],[-a,-b,-k],[-a,b,k],[a,-b,k]]->ls.length=4->K v w'):
  vbuildS zh 3 [(0,nI a),(1,nI b),(2,nI (-k))] w λt1 w1=>vbuildS zh 3 [(0,nI (-a)),(1,nI (-b)),(2,nI (-k))] w1 λt2 w2=>
   vbuildS zh 3 [(0,nI (-a)),(1,nI b),(2,nI k)] w2 λt3 z=>vbuildS zh 3 [(0,nI a),(1,nI (-b)),(2,nI k)] z λt4 A=>vbuildS zI 4 [(0,t1),(1,t2),(2,t3),(3,t4)] A K:=by
 refine lit_row (N:=w.heap.size) (ls:=[]) (xss:=[]) (xs:=[nI a,nI b,nI (-k)]) (us:=[a,b,-k]) rfl (by simp) (RowsR.nil (gp _)) rfl λC v9 l m t=>?_;refine lit_row (xs:=[nI (-a),nI (-b),nI (-k)]) (us:=[-a,-b,-k]) rfl (by simp) m rfl λw10 v10 c h p=>?_;refine lit_row (xs:=[nI (-a),nI b,nI k]) (us:=[-a,b,k]) rfl (by simp) h rfl λu v11 d i q=>?_;refine lit_row (xs:=[nI a,nI (-b),nI k]) (us:=[a,-b,k]) rfl (by simp) i rfl λy v12 e j r=>?_;refine lits_fin (xs:=[v9,v10,v11,v12]) (by simp) rfl (λx B=>?_) j λo n f g=>s o n _ (l.trans (c.trans (d.trans (e.trans f)))) g rfl
 grind
theorem gl_and {a b k:Int} {K:oK} (p:∀w' v ls,Ext w w'->Fresh w.heap.size w' v ls [[a,-k],[b,-k],[-a,-b,k]]->ls.length=3->K v w'):
  vbuildS zh 2 [(0,nI a),(1,nI (-k))] w λt1 w1=>vbuildS zh 2 [(0,nI b),(1,nI (-k))] w1 λt2 w2=>
   vbuildS zh 3 [(0,nI (-a)),(1,nI (-b)),(2,nI k)] w2 λt3 s=>vbuildS zI 3 [(0,t1),(1,t2),(2,t3)] s K:=by
 refine lit_row (N:=w.heap.size) (ls:=[]) (xss:=[]) (xs:=[nI a,nI (-k)]) (us:=[a,-k]) rfl (by simp) (RowsR.nil (gp _)) rfl λu v9 i j q=>?_;refine lit_row (xs:=[nI b,nI (-k)]) (us:=[b,-k]) rfl (by simp) j rfl λw10 v10 c g n=>?_;refine lit_row (xs:=[nI (-a),nI (-b),nI k]) (us:=[-a,-b,k]) rfl (by simp) g rfl λr v11 d h o=>?_;refine lits_fin (xs:=[v9,v10,v11]) (by simp) rfl (λx t=>?_) h λm l e f=>p m l _ (i.trans (c.trans (d.trans e))) f rfl
 grind
structure CnfS (N b:Nat) (w:World) (m:Int) (lv:Value) (ls:List Value) (xss:List (oI)):Prop where
 blk:Blk w b [nI m,lv] zp
 own:OwnV zI w lv ls
 len:ls.length=xss.length
 rows:RowsR N (λx=>lv.ownBlock≠some x/\x≠b) w ls xss
 new:∀x,lv.ownBlock=some x->N<=x/\x≠b
 lo:N<=b
theorem CnfS.ext {w':World} (h:CnfS N b w m lv ls xss) (he:Ext w w'):CnfS N b w' m lv ls xss:=⟨h.blk.ext he,h.own.ext he,h.len,h.rows.ext he,h.new,h.lo⟩
theorem rows_one (h:RowsR N Fr w ls xss) (d:ls.length=xss.length):∀u,u∈ls->u.oneCell'=true:=λu hu=>by
 obtain⟨j,b,rfl⟩:=gn hu;have a:=h.own j oM;obtain⟨o,c,e,_⟩:=a.ints.shape;rw[y2,V0 b,GO] at e;rw[e];rfl
theorem CnfS.add {p:World} {v9:Value} {M:Nat} {K:oK} (h:CnfS N b w m lv ls xss) (he:Ext w p) (l:Fresh M p v9 ls' yss) (V:w.heap.size<=M) (a:ls.length<=100000) (z:ls'.length<=1000)
  (J:∀w' D,Same (λx=>x=b\/lv.ownBlock=some x) p w'->CnfS N b w' m D (ls++ls') (xss++yss)->K undef w'):
  vbi .append [zI,zI] zI [lv,v9] p λt w1=>zT zI (oP b 1) t w1 K:=by
 have z9:=he.size;have Q:=h.blk.lt;have H:∀x,lv.ownBlock=some x->x<w.heap.size:=λx n=>h.own.lt n;refine OwnV.app (us:=ls') (h.own.ext he) Y0 l.own.vals (rows_one l.rows l.len) oM oM λv10 w10 g d s=>?_;have T:=d.size;have q:=(h.blk.ext he).same d λe=>(h.new _ e).2 rfl;refine q.st (i:=1) (v:=v10) ?_ ?_ Q6 (by rfl) λE f G r=>?_
 .obtain⟨o,c,e,_⟩:=g.vals.shape;rw[e];rfl
 .obtain⟨o,c,e,_⟩:=g.vals.shape;rw[e];rfl
 have U:=f.size;have u:=h.rows.ext he;have A:=u.nle;have C:RowsR N (λx=>lv.ownBlock≠some x/\x≠b) p ls' yss:=by
  have a:=l.rows;refine⟨A,a.own,λj x O n=>?_,a.dj⟩;have z:=(a.sub j x O n).2;have:=h.rows.nle
  grind
 have B:=u.app h.len C l.len λR S x a z L e=>by
  have:=(h.rows.own R a).lt L;have:=(l.rows.sub S x z e).2;omega
 have k:∀x,v10.ownBlock=some x->N<=x/\x≠b:=λx n=>by
  rcases s x n with F|F
  .exact h.new x F
  omega
 refine J E v10 ((d.mono λx _ h=> .inr h).trans (f.mono λx _ h=> .inl h)) ⟨r,g.same f λx n e=>(k x n).2 e,by rw[q0,q0,h.len,l.len],?_,k,h.lo⟩;have y:=B.weaken (F':=λx=>(lv.ownBlock≠some x/\x≠b)/\x<p.heap.size) λx a _ I=>⟨a,I⟩;refine((y.same d λx a _ e=>a.1.1 e).same f λx a _ e=>a.1.2 e).weaken λx a _ _=>⟨λe=>?_,a.1.2⟩
 grind
theorem CnfS.out {b2:Nat} {a0 c0:Value} {K:oK} (h:CnfS N b w m lv ls xss) (p:Blk w b2 [a0,c0] zp) (u:b2<N) (q:∀w',Same (· =b2) w w'->CnfO N w' lv ls ⟨m,xss⟩->K (.agg ⟨[nI m,lv]⟩) w'):
  zu zp (oP b 0) w λt45 g=>zT zp (oP b2 0) t45 g λ_ i=>vlv zp (oP b2 0) i K:=by
 obtain⟨o,c,f,_⟩:=h.own.vals.shape;generalize (ls.map λx=>[x]).length=l at f;subst f;rw[h.blk.ldAgg (t:=zp) zD];refine p.stAgg (cs':=[nI m,.slice o l c]) rfl zD net_one λs a r j=>?_;rw[j.lv (t:=zp) zD];refine q s a ⟨h.own.same a λx k e=>by have:=(h.new x k).1;omega,h.len,λx k=>(h.new x k).1,?_⟩;have d:=(h.rows.weaken (F':=λx=>(Value.slice o l c).ownBlock≠some x/\N<=x) λx d n _=>⟨d.1,n⟩).same a λx d _ e=>oM
 exact d.weaken λx d _ _=>d.1
theorem l6Many_spec {x:Value} (d:GatesR Fx w x gs) (j:n<=8) (i:gs.length<=600) (h:∀w',Ext w w'->K (nI (1+n+gs.length:Nat)) w'):vcall WK #[.agg ⟨[nI n,x]⟩] w K:=by
 refine ze {} Tryz.func115 ?_;obtain⟨o,c,b,_⟩:=d.shape;have hlen:∀(w':World) (K:oK),vbi .len [zA] zV [x] w' K=K (nI gs.length) w':=λw' K=>by rw[Sl.len d qg,xx0]
 generalize (gs.map yl).length=l at b;subst b;refine zj λb1 w1 e f g a=>?_;simp(disch:=exact oS) only[push_cast,a.ld0,a.ld1,hlen,zk]
 grind
theorem l6Cnf_spec {x:Value} (I:GatesR Fx w x gs) (hg:M.NetG n gs) (hn:n<=8) (hK:∀w' lv ls,Ext w w'->CnfO w.heap.size w' lv ls (M.netC n gs [])->K (.agg ⟨[nI (1+n+gs.length:Nat),lv]⟩) w'):vcall zK0 #[.agg ⟨[nI n,x]⟩] w K:=by
 refine ze {loops:=[(3,[4])]} Tryz.func77 ?_;have R:=hg.few;have a9:=I.shape;obtain⟨o,c,hv,_⟩:=a9;have hlen:∀(w':World) (K:oK),vbi .len [zA] zV [x] w' K=K (nI gs.length) w':=λw' K=>by rw[Sl.len I qg,xx0]
 generalize (gs.map yl).length=l at hv;subst hv;refine zj λb1 w1 af L ao a1=>?_;refine zi xr λb2 w2 ag B ap a2=>?_;have e2:=L.trans B;have s:=a1.ext B;rw[s.ldAgg (t:=zx) zY];refine l6Many_spec (Sl.ext I e2) hn R λY j=>?_;have e3:=e2.trans j;have z1:=L.size;have z2:=B.size;have z3:=j.size;obtain⟨m,hm⟩:∃m:Int,m=(1+n+gs.length:Nat):=⟨_,rfl⟩;rw[<-hm];refine lit_row (N:=Y.heap.size) (ls:=[]) (xss:=[]) (xs:=[nI 1]) (us:=[1]) rfl (by simp) (RowsR.nil (gp _)) rfl λw4 v4 O a7 al=>?_;refine lits_fin (xs:=[v4]) (xss:=[[1]]) (by simp) rfl (λy V=>by grind) a7 λZ v5 Q k=>?_;have z4:=O.size;have z5:=Q.size;obtain⟨H,z,U,_⟩:=k.own.vals.shape;generalize ([v4].map λx=>[x]).length=G at U;subst U;rw[show ∀K:oK,yr zp [(0,nI m),(1,.slice H G z)] Z K=K (.agg ⟨[nI m,.slice H G z]⟩) Z from λK=>zS QI (us:=[[nI m],[.slice H G z]]) rfl rfl];refine zi xr λX w6 ah ai aq a3=>?_;refine a3.stAgg (cs':=[nI m,.slice H G z]) rfl zD net_one λw7 am ar a4=>?_;have A:Ext Z w7:=by grind [Ext.then]
 have ae:∀b,(Value.slice H G z).ownBlock=some b->b<Z.heap.size:=by grind
 have h0:CnfS Y.heap.size X w7 m (.slice H G z) [v4] [[1]]:=
  ⟨a4,k.own.ext A,rfl,((k.rows.weaken (F':=λx=>(Value.slice H G z).ownBlock≠some x/\x≠X) λx h1 _ h3=>⟨h1,oM⟩).ext A),λx I=>⟨k.new x I,by grind⟩,oM⟩
 have a0:=O.trans (Q.trans A);refine vloop_up gs.length (λi u w'=>u=[nI i]/\Ext Y w'/\∃lv ls,CnfS Y.heap.size X w' m lv ls ([1]::M.gatesC n (gs.take i) 0)) ⟨rfl,a0,_,_,h0⟩ ?_;rintro i _ _ r C hi ⟨rfl,e,lv,ls,v⟩ hC;have d:=(s.ext j).ext e;have q:GatesR Fx r (.slice o l c) gs:=Sl.ext I (e3.trans e);simp(disch:=exact oS) only[push_cast,d.ld0,d.ld1,hlen];refine zb (λa=>?_) (λa=>?_)
 .have p:i<gs.length:=oM;obtain⟨ha,hb⟩:=gpos hg hn p;have aj:=gatesC_take (n:=n) p;have E:(gs.map yl).getD i []=yl gs[i]:=yk0 p;have F:i<(gs.map yl).length:=(by grind);generalize gs[i]=g at*;have l0:∀K:oK,zu Y7 (.pointer (some ((eaddr (.slice o l c) 3 i).add 0))) r K=K (.bool g.x) r:=λK=>Sl.ldField q Xs0 F (by rw[E];rfl);have l1:∀K:oK,zu zV (.pointer (some ((eaddr (.slice o l c) 3 i).add 1))) r K=K (nI g.a) r:=λK=>Sl.ldField q WA F (by rw[E];rfl);have l2:∀K:oK,zu zV (.pointer (some ((eaddr (.slice o l c) 3 i).add 2))) r K=K (nI g.b) r:=λK=>Sl.ldField q WA F (by rw[E];rfl);simp(disch:=first|(simp only[push_cast])|(simp only[y4];omega)|omega) only[push_cast,d.ld0,d.ld1,q.iaddr,l0,l1,l2,zk];have hk:(2+(n:Int)+i).natAbs<=100000:=oM;have ak:ls.length<=2401:=by
   have h1:=Zj n (gs.take i) 0;have h2:(gs.take i).length=i:=(by grind);rw[v.len,gB];omega
  have au:=e.size;have ad:∀{ys:List (oI)},M.gateC (2+n+i) g=ys->[1]::M.gatesC n (gs.take i) 0++ys=[1]::M.gatesC n (gs.take (i+1)) 0:=(by grind);have fin:∀{h w10:World} {v9:Value} {ls':List Value} {ys:List (oI)},Ext r h->Fresh r.heap.size h v9 ls' ys->ls'.length<=4->M.gateC (2+n+i) g=ys->vbi .append [zI,zI] zI [lv,v9] h λt w1=>zT zI (oP X 1) t w1 λ_ W=>C [nI ((i:Int)+1)] W:=λ{h w10 v9 ls' ys} f hf h4 an=>by
   refine v.add f hf (gp _) oM oM λav ab T ac=>?_;refine hC p _ _ ⟨by simp,Ext.then (e.trans f) T λy V=>?_,ab,ls++ls',?_⟩
   .rcases V with rfl|V
    .exact v.lo
    .exact(v.new y V).1
   grind
  refine zn (λa5=>?_) (λa5=>?_)
  .simp(disch:=exact oS) only[push_cast,v.blk.ld1,neg_wrap ha,neg_wrap hb,neg_wrap hk];simp only[gO];exact gl_xor λh v9 aa f D h4=>fin (w10:=h) f D oM (by unfold M.gateC;grind)
  .simp(disch:=exact oS) only[push_cast,v.blk.ld1,neg_wrap ha,neg_wrap hb,neg_wrap hk];simp only[gO];exact gl_and λh v9 aa f D h4=>fin (w10:=h) f D oM (by simp_all[M.gateC])
 .have a6:i=gs.length:=oM;subst a6;rw[gy] at v;have J:=(a2.ext j).ext e;refine v.out J oM λh a8 hO=>?_;have S:Ext w h:=Ext.then (e3.trans e) a8 λy V=>oM;rw[hm];refine hK h lv ls S ?_;have h1:=hO.down (M:=w.heap.size) oM
  grind [M.netC]
theorem CnfS.of {c:M.Cnf} {K:oK} (h:CnfO N w lv ls c) (j:∀w' b,b=w.heap.size->Ext w w'->CnfS N b w' c.many lv ls c.list->K (oP b 0) w'):
  qt zp w λt4 w1=>zT zp t4 (.agg ⟨[nI c.many,lv]⟩) w1 λ_ w2=>K t4 w2:=by
 obtain⟨o,cc,d,_⟩:=h.lst.vals.shape;generalize (ls.map λx=>[x]).length=l at d;subst d;have s:=h.rows.nle;refine zi xr λb w1 f k p e=>?_;refine e.stAgg (cs':=[nI c.many,.slice o l cc]) rfl zD net_one λw2 n q i=>?_;have a:Ext w w2:=by grind [Ext.then]
 have m:∀x,(Value.slice o l cc).ownBlock=some x->x<w.heap.size:=λx g=>h.lst.lt g;exact j w2 b f a ⟨i,h.lst.ext a,h.len,(h.rows.weaken (F':=λx=>(Value.slice o l cc).ownBlock≠some x/\x≠b) λx e _ r=>⟨e,oM⟩).ext a,λx g=>⟨h.dl x g,by grind⟩,oM⟩
def headsI (rs:List (oI)):oI:=rs.map λr=>r.getD 0 0
theorem l8Cnf_spec (bl:zd0 ds ts=true) (hd:DclsR Fx w dv ds) (ht:TmsR Fy w tv ts)
  (hK:∀w' lv ls,Ext w w'->CnfO w.heap.size w' lv ls (cnfE ds ts).1->K (.tuple #[.agg ⟨[nI (cnfE ds ts).1.many,lv]⟩,.bool (decide ((cnfE ds ts).2=0))]) w'):vcall zz0 #[dv,tv] w K:=by
 refine ze {loops:=[(4,[7,8]),(13,[11])]} Tryz.func41 ?_;obtain⟨h8,B,U⟩:=all8_iff.1 bl;obtain⟨bd,ag⟩:=bits_nat B;have ch:=ht.small;refine zi xr λb4 w1 c6 a0 bo ac=>?_;refine sbits8_spec (k:=ds.length) B (gp _) (by rw[gy];exact hd.ext a0) λw2 a1=>?_;rw[M.bitT_all,bd];simp only[push_cast,k70,YW0];have e2:=a0.trans a1;refine zi xx λJ w3 c8 bf ci bb=>?_;have an:MkR (M.bits ds).toNat (λb=>b=J) w3 [nI ((M.bits ds).toNat:Nat),oN,.bool true] (some []):=⟨none,0,0,rfl,GatesR.nil,by simp⟩;refine bb.stAgg (cs':=[nI ((M.bits ds).toNat:Nat),oN,.bool true]) rfl j7 an.one λw4 cf cj S=>?_;have b9:Ext w2 w4:=by grind [Ext.then]
 have z1:=a0.size;have z2:=a1.size;have z3:=bf.size;refine yj xu yW λb5 w5 c7 ah ck ba=>?_;have aa:=b9.trans ah;have e5:=e2.trans aa;have bj:OwnI zh w5 (.slice (some ⟨b5,0,none⟩) 0 0) []:=Blk.own1 (t:=zh) (cs:=[]) (by rw[qQ];exact ba) (gF _) rfl rfl oM;have cm:=S.lt;have c4:∀b,(Value.slice (some ⟨b5,0,none⟩) 0 0).ownBlock=some b->b=b5:=λb s=>(K3 s).symm;have ao:MkR (M.bits ds).toNat (λb=>b=J\/(Value.slice (some ⟨b5,0,none⟩) 0 0).ownBlock=some b) w5 [nI ((M.bits ds).toNat:Nat),oN,.bool true] (some []):=⟨none,0,0,rfl,GatesR.nil,by simp⟩;refine vloop_up ts.length (λi u w'=> ∃mv cs st rs,u=[mv,nI i]/\Ext w2 w'/\Blk w' J cs zB/\MkR (M.bits ds).toNat (λb=>b=J\/mv.ownBlock=some b) w' cs st/\M.Bd.Out (M.bits ds).toNat (M.seqB ((ts.take i).map (M.termB ds))) (some []) st rs/\rs.length=i/\OwnI zh w' mv (headsI rs)/\∀b,mv.ownBlock=some b->w2.heap.size<=b/\b≠J)
  ⟨_,_,some [],[],rfl,aa,S.ext ah,ao,.inl ⟨[],rfl,rfl⟩,rfl,bj,λb s=>by grind⟩ ?_
 rintro i _ _ w6 C hi ⟨mv,cs,st,rs,rfl,L,f,G,m,bm,Q,a7⟩ hC;have e6:=e2.trans L;have av:=ht.ext e6;simp only[push_cast,av.len];have z26:=L.size;refine zb (λa=>?_) (λa=>?_)
 .have F:i<ts.length:=oM;refine yj xu yW λb7 w7 c9 a2 bp af=>?_;refine zd λw8 a3 _=>?_;have q:=a2.trans a3;have cq:=q.size;have aw:=av.ext q;have ad:=f.ext q;have bi:∀{w':World} {cs:List Value},cs.length=3->Blk w' J cs zB->∀K:oK,zu zB (oP J 0) w' K=K (.agg ⟨cs⟩) w':=λh3 h K=>h.ldAgg (t:=zB) (by rw[h3];exact j7);rw[bi G.len ad];simp(disch:=exact oS) only[push_cast,aw.iaddr,y1];refine aw.load zc F λx hx=>?_;have hD:∀b,(b=J\/mv.ownBlock=some b)->b<w8.heap.size:=λb s=>s.elim (λe=>by grind) λh=>by have:=Q.lt h;omega
  obtain⟨bn,_,c5⟩:=JD (U _ (M.getD_mem F default));refine⟨rfl,sdo8_spec B ag _ oM (G.ext q λb h _=>h) hD (hd.ext (e6.trans q)) hx λw9 Y b1 r zs ai O bq c2 bk=>?_⟩;have p:=q.trans ai;have z9:=ai.size;have ay:=(out_lens B oM bk).1;have bo:zs.length=1:=by rw[ay,bn];rfl
  simp only[push_cast,y1,V1];have ae:=f.ext p;have az:=f.lt;refine ae.stAgg (cs':=Y) (by rw[O.len,G.len]) (by rw[O.len];exact j7) O.one λw10 n c3 ab=>?_;have I:Ints (New w8) w10 r zs:=bq.same n λb s _ e=>oM;have ak:=O.same n λb s=> .inl s;simp(disch:=exact oS) only[push_cast,y1,V1,I.iaddr,I.load];refine spec_one λb2 cn d aq bw=>?_;have a8:OwnI zh b2 mv (headsI rs):=((Q.ext p).same n λb s e=>(a7 b s).2 e).ext d;have am:(headsI rs).length=i:=(by grind [headsI]);refine a8.app (ys:=[zs.getD 0 0]) xH aq.ints (by grind) (by grind) λv12 b3 bz z ap=>?_
  try simp(disch:=omega) only[push_cast,zk]
  have cp:=d.size;have z12:=z.size;have bv:∀b,mv.ownBlock=some b->b<w6.heap.size:=λb s=>Q.lt s;have al:MkR (M.bits ds).toNat (λb=>b=J\/v12.ownBlock=some b) b3 Y b1:=
   (ak.ext d λb h _=>h).swap z (λb s=> .inr s) λb s hl=>s.elim .inl λh=>(ap b h).elim .inr λh2=>oM
  refine hC F _ _ ⟨v12,Y,b1,rs++[zs],by simp,?_,((ab.ext d).same z λe=>(a7 _ e).2 rfl),al,?_,by grind,?_,λb s=>?_⟩
  .exact Ext.then ((Ext.then (L.trans p) n λy X=>oM).trans d) z λy X=>(a7 y X).1
  .grind [M.take_add,xu0]
  .grind [headsI]
  grind
 .have F:i=ts.length:=oM;subst F;rw[gy] at m;have R:=ac.ext (a1.trans L);have cl:=ac.lt;have az:=f.lt;cases st with
  |none=>
   have be:cs=[nI 0,oN,.bool false]:=G;subst be;have ce:M.listB ds ts=none:=by
    rcases m with⟨g,q1,q2⟩|⟨q1,q2,_⟩
    .cases q2
    .exact q1
   have Z:cnfE ds ts=(⟨0,[]⟩,1):=by unfold cnfE;grind
   simp(disch:=exact oS) only[push_cast,f.ld1,f.ld2,PB];rw[ka0];refine R.stAgg (cs':=[nI 0,oN]) rfl zD net_one λw7 cg bp af=>?_;rw[af.lv (t:=zp) zD];have m:Ext w w7:=(by grind [Ext.then]);have:=hK w7 (oN) [] m;rw[Z] at this;exact this (xD0 m.size)
  |some gs=>
   obtain⟨o,l,c,rfl,bg,ca⟩:=G;have ax:M.listB ds ts=some (gs,rs):=by
    rcases m with⟨g,q1,q2⟩|⟨q1,q2,_⟩
    .cases q2;exact q1
    .cases q2
   have W:=M.list_net B (λt ht=>by rw[(JD (U t ht)).1];decide) ax;have Z:cnfE ds ts=(M.blastC ds gs rs,0):=by unfold cnfE;grind
   simp(disch:=exact oS) only[push_cast,f.ld1,f.ld2,Gh];rw[Blk.ldTake (us:=[nI ((M.bits ds).toNat:Nat),.slice o l c]) (r:=[.bool true]) f zY];refine l6Cnf_spec bg W.net ag λw7 lv ls a2 hO=>?_;refine CnfS.of (c:=M.netC (M.bits ds).toNat gs []) hO λw8 b8 bt a3 hS=>?_;have cd:=Zj (M.bits ds).toNat gs 0;have bu:=W.net.few;have bx:(M.netC (M.bits ds).toNat gs []).list.length<=2401:=by
    show([1]::(M.gatesC _ gs 0++[])).length<=2401
    grind
   have a6:(M.netC (M.bits ds).toNat gs []).many=(M.blastC ds gs rs).many:=rfl;have a5:(M.netC (M.bits ds).toNat gs []).list++M.rootsC rs=(M.blastC ds gs rs).list:=by
    show([1]::(M.gatesC _ gs 0++[]))++M.rootsC rs=[1]::(M.gatesC _ gs 0++M.rootsC rs);rw[gE];rfl
   generalize M.netC (M.bits ds).toNat gs []=c0 at*;have q:=a2.trans a3;have am:(headsI rs).length=ts.length:=(by grind [headsI]);refine vloop_up ts.length (λj u w'=>u=[nI j]/\Ext w6 w'/\∃lv ls,CnfS w6.heap.size b8 w' c0.many lv ls (c0.list++M.rootsC (rs.take j))) ⟨rfl,q,lv,ls,by simpa[M.rootsC] using hS⟩ ?_;rintro j _ _ w9 C2 hj ⟨rfl,p,br,a9,A⟩ bc;have V:=(Q.ext p).ints;simp only[push_cast,V.len,am];refine zb (λa=>?_) (λa=>?_)
   .have cb:j<rs.length:=oM;have a4:(headsI rs).getD j 0=(rs.getD j []).getD 0 0:=by
     grind [headsI]
    refine zd λw10 D _=>?_;have v:=A.ext D;have H:=V.ext D;simp(disch:=exact oS) only[push_cast,v.blk.ld1,H.iaddr,H.load,y1];rw[a4];refine lit_row (N:=w10.heap.size) (ls:=[]) (xss:=[]) (xs:=[nI ((rs.getD j []).getD 0 0)]) (us:=[(rs.getD j []).getD 0 0]) rfl (by simp) (RowsR.nil (gp _)) rfl λb2 v11 d ar c1=>?_;simp(disch:=exact oS) only[push_cast,(v.ext d).blk.ld1,y1,V1];refine lits_fin (xs:=[v11]) (xss:=[[(rs.getD j []).getD 0 0]]) (by simp) rfl (λy X=>by grind) ar λb3 v12 E aj=>?_;simp(disch:=exact oS) only[push_cast,((v.ext d).ext E).blk.ld1,y1,V1];have cc:a9.length<=3000:=by
     rw[A.len,q0]
     grind [M.rootsC]
    refine v.add (d.trans E) aj (gp _) oM (by simp) λco b0 au bs=>?_
    try simp(disch:=omega) only[push_cast,zk]
    have z9:=p.size;refine bc oM _ _ ⟨by simp,Ext.then (p.trans (D.trans (d.trans E))) au λy X=>?_,b0,a9++[v11],?_⟩
    .rcases X with rfl|X
     .exact A.lo
     .exact(A.new y X).1
    grind [M.take_add,M.rootsC]
   .have bh:j=ts.length:=oM;subst bh;rw[<-bm,gy,a5] at A;refine A.out (R.ext p) oM λw10 n T=>?_;have m:Ext w w10:=Ext.then (e6.trans p) n λy X=>oM;have:=hK w10 br a9 m;rw[Z] at this;rw[a6] at T⊢;exact this ((T.down oM))
end
end Go.Proofs.YtfnpmncplaibiaaGreatDoor
namespace Go.Proofs.YtfnpmncplaibiaaGreatDoor
open Go Go.Vc Go.Proofs Go.M
section
variable {w:World} {K:oK} {F Fr:oA}
def Sep (Fr:oA) (os:List (Option Nat)):Prop:=os.Pairwise (λa b=>∀x,a=some x->b≠some x)/\∀o,o∈os->∀x,o=some x->¬Fr x
structure TrailR (Fr:oA) (w:World) (bt many:Nat) (put:oI) (ds:List Bool) (vp vpl vl:Value):Prop where
 blk:Blk w bt [vp,vpl,vl] yB
 rp:OwnI zh w vp put
 rpl:OwnI zh w vpl (places many put)
 rl:OwnI zh w vl (levels ds)
 sep:Sep Fr [some bt,vp.ownBlock,vpl.ownBlock,vl.ownBlock]
 len:ds.length=put.length
 dis:Distinct put
 bnd:∀x,x∈put->x≠0/\x.natAbs<=many
 few:many<=700
def kU (bt:Nat) (vp vpl vl:Value) (b:Nat):Prop:=b=bt\/vp.ownBlock=some b\/vpl.ownBlock=some b\/vl.ownBlock=some b
section
variable {bt many:Nat} {put:oI} {ds:List Bool} {vp vpl vl:Value}
theorem TrailR.same {S:oA} {w':World} (h:TrailR Fr w bt many put ds vp vpl vl) (hw:Same S w w') (hs:∀b,kU bt vp vpl vl b->¬S b):TrailR Fr w' bt many put ds vp vpl vl:=
 ⟨h.blk.same hw (hs _ (.inl rfl)),h.rp.same hw λb a=>hs _ (.inr (.inl a)),h.rpl.same hw λb a=>hs _ (.inr (.inr (.inl a))),h.rl.same hw λb a=>hs _ (.inr (.inr (.inr a))),h.sep,h.len,h.dis,h.bnd,h.few⟩
theorem TrailR.ext {w':World} (h:TrailR Fr w bt many put ds vp vpl vl) (hw:Ext w w'):TrailR Fr w' bt many put ds vp vpl vl:=h.same hw λ_ _ h=>h
theorem nodup_le {m:Nat} {xs:List Nat} (b:xs.Nodup) (a:∀x,x∈xs->1<=x/\x<=m):xs.length<=m:=by
 have:=b.length_le_of_subset (l₂:=(List.range' 1 m)) λx c=>by rw[List.mem_range'_1];have:=a x c;omega
 simpa using this
theorem TrailR.few' (h:TrailR Fr w bt many put ds vp vpl vl):put.length<=many:=by
 have:=nodup_le (m:=many) h.dis λx a=>by
  obtain⟨y,b,rfl⟩:=gr.1 a;have:=h.bnd y b;omega
 simpa using this
theorem newTrail_spec (hm:many<=700) (i:∀b,Fr b->b<w.heap.size) (p:∀bt vp vpl vl w',Ext w w'->TrailR Fr w' bt many [] [] vp vpl vl->(∀b,kU bt vp vpl vl b->w.heap.size<=b)->K (oP bt 0) w'):
  vcall K7 #[nI many] w K:=by
 refine ze {} Tryz.func262 ?_;simp(disch:=omega) only[push_cast,zk];rw[show((many:Int)+1)=((many+1:Nat):Int) from by omega];refine vmkS_own (bs:=8) xH qQ xK rfl oM oM λv1 w1 g c f=>?_;refine Q8 yv0 (us:=[[v1]]) (by simp[g.vals.cells1]) rfl ?_;refine yp λb w2 q d _ n=>?_;have m:OwnI zh w2 v1 (places many []):=by rw[xW0];unfold OwnI;rw[GF];exact g.ext d
 refine p b (oN) v1 (oN) w2 (c.trans d) ⟨n,OwnI.nil,m,OwnI.nil,⟨?_,?_⟩,rfl,pa,(λx a=>by cases a),hm⟩ ?_
 .have j:∀x,v1.ownBlock=some x->x<b:=λx a=>by have:=g.lt a;omega
  simp[Value.ownBlock];intro e;have:=j b e;omega
 .have k:=c.size;intro o l x a hF;have:=i x hF;simp only[gg,gx,Ge] at l;rcases l with rfl|rfl|rfl|rfl
  .cases a;omega
  .cases a
  .have:=f x a;omega
  .cases a
 .have k:=c.size;rintro x (rfl|h|h|h)
  .omega
  .cases h
  .exact f x h
  .cases h
theorem assigned_spec {l:Int} (h:TrailR Fr w bt many put ds vp vpl vl) (e:l.natAbs<=many) (d:∀w',Ext w w'->K (.bool (decide (placeOf put l.natAbs≠0))) w'):
  vcall ZK #[oP bt 0,nI l] w K:=by
 refine ze {} Tryz.func297 ?_;have g:=h.few;refine zd λw1 a _=>?_;have c:=h.ext a;have b:=c.rpl.ints;have f:=kX many put;simp only[push_cast,c.blk.ld1,y1];refine variable_spec oM oM ?_;simp(disch:=exact oS) only[push_cast,c.blk.ld1,y1,b.iaddr,b.load,V1,places_get e];have:=d w1 a;simpa using this
theorem isTrue_spec {l:Int} (h:TrailR Fr w bt many put ds vp vpl vl) (j:l.natAbs<=many) (g:∀w',Ext w w'->K (.bool (decide (l∈put))) w'):
  vcall YX #[oP bt 0,nI l] w K:=by
 refine ze {} Tryz.func340 ?_;have o:=h.few;refine zd λw1 b _=>?_;refine assigned_spec (h.ext b) j λw2 c=>zb (λa=>?_) (λa=>?_)
 .have d:=h.ext (b.trans c);have k:=d.rp.ints;have f:=d.rpl.ints;have m:=kX many put;have hle:=placeOf_le put l.natAbs;have i:=h.few';simp(disch:=exact oS) only[push_cast,d.blk.ld0,d.blk.ld1,y1];refine variable_spec oM oM ?_;simp(disch:=exact oS) only[push_cast,d.blk.ld0,d.blk.ld1,y1,V1,f.iaddr,f.load,places_get j,zk];obtain⟨q,n⟩:∃q,placeOf put l.natAbs=q+1:=⟨placeOf put l.natAbs-1,oM⟩;rw[n,show(((q+1:Nat):Int)-1)=(q:Int) from by omega];simp(disch:=exact oS) only[push_cast,y1,k.iaddr,k.load];rw[show q=placeOf put l.natAbs-1 from by omega];have:=g w2 (b.trans c);have e:l∈put↔put.getD (placeOf put l.natAbs-1) 0=l:=(mem_iff_place h.dis).trans ⟨λh=>h.2,λh=>⟨a,h⟩⟩;rwa[decide_eq_decide.2 e] at this
 .have:=g w2 (b.trans c);rwa[gj (λhm=>a (placeOf_ne_zero hm))] at this
theorem place_spec {l:Int} (h:TrailR Fr w bt many put ds vp vpl vl) (f:l.natAbs<=many) (e:∀w',Ext w w'->K (nI ((placeOf put l.natAbs:Int)-1)) w'):
  vcall Xz #[oP bt 0,nI l] w K:=by
 refine ze {} Tryz.func342 ?_;have i:=h.few;refine zd λw1 a _=>?_;have c:=h.ext a;have b:=c.rpl.ints;have g:=kX many put;have hle:=placeOf_le put l.natAbs;have d:=h.few';simp only[push_cast,c.blk.ld1,y1];refine variable_spec oM oM ?_;simp(disch:=exact oS) only[push_cast,c.blk.ld1,y1,b.iaddr,b.load,V1,places_get f,zk];exact e w1 a
theorem level_spec {l:Int} (h:TrailR Fr w bt many put ds vp vpl vl) (i:l.natAbs<=many) (m:placeOf put l.natAbs≠0) (g:∀w',Ext w w'->K (nI (lvl ds (placeOf put l.natAbs-1))) w'):
  vcall XA #[oP bt 0,nI l] w K:=by
 refine ze {} Tryz.func321 ?_;have n:=h.few;have e:=h.few';have hlen:=h.len;have hle:=placeOf_le put l.natAbs;refine zd λw1 a _=>?_;have c:=h.ext a;simp only[push_cast,c.blk.ld2,y1];refine place_spec c i λw2 b=>?_;have d:=c.ext b;have f:=d.rl.ints;have k:=Yd ds;obtain⟨q,j⟩:∃q,placeOf put l.natAbs=q+1:=⟨placeOf put l.natAbs-1,oM⟩;rw[j,show(((q+1:Nat):Int)-1)=(q:Int) from by omega];simp(disch:=exact oS) only[push_cast,d.blk.ld2,y1,f.iaddr,f.load,V1];rw[Qu oM,show q=placeOf put l.natAbs-1 from by omega];exact g w2 (a.trans b)
theorem look_spec {v:Value} {c:oI} {F:oA} (h:TrailR Fr w bt many put ds vp vpl vl) (o:Ints F w v c) (r:∀l,l∈c->l.natAbs<=many)
  (q:∀w' b n x,Ext w w'->lookM put c 0 0=(b,n,x)->K (.tuple #[.bool b,nI n,nI x]) w'):
  vcall Qk #[oP bt 0,v] w K:=by
 refine ze {loops:=[(2,[5,6,11])]} Tryz.func318 ?_;simp(disch:=exact oS) only[push_cast,o.len];have hlen:c.length<=9223372036854775807:=by obtain⟨_,_,_,s,A,_⟩:=o.shape;simp at s;omega
 refine vloop_up c.length (λi u w'=> ∃n x,u=[nI (n:Nat),nI x,nI i]/\Ext w w'/\n<=i/\lookM put (c.drop i) n x=lookM put c 0 0) ⟨0,0,rfl,Same.refl _ _,oM,rfl⟩ ?_;rintro i _ g w1 C hi ⟨n,x,rfl,he,B,e⟩ p;refine oZ ?_;refine zb (λz=>?_) (λy=>?_)
 .have k:=o.ext he;simp(disch:=exact oS) only[push_cast,k.iaddr,k.load];have t:=Z0 (d:=0) (show i<c.length by omega);have hm:c.getD i 0∈c:=getD_meS oM;rw[t,Qs] at e;refine isTrue_spec (h.ext he) (r _ hm) λw2 f=>zb (λa=>?_) (λa=>?_)
  .rw[y3 a] at e;exact q w2 true 0 0 (he.trans f) e.symm
  .rw[y0 a] at e;refine assigned_spec (h.ext (he.trans f)) (r _ hm) λD j=>?_;refine oZ ?_;refine zn (λb=>?_) (λb=>?_)
   .have m:placeOf put (c.getD i 0).natAbs=0:=(by simpa using b);rw[y3 m] at e;simp(disch:=omega) only[push_cast,zk];exact p oM _ _ ⟨n+1,_,by simp,he.trans (f.trans j),oM,e⟩
   .have m: ¬placeOf put (c.getD i 0).natAbs=0:=(by simpa using b);rw[y0 m] at e;simp(disch:=omega) only[push_cast,zk];exact p oM _ _ ⟨n,_,by simp,he.trans (f.trans j),oM,e⟩
 .rw[gY oM] at e;exact q w1 false n x he e.symm
end
end
section
variable {w:World} {K:oK} {F Fr:oA} {bt many:Nat} {put:oI} {ds:List Bool} {vp vpl vl:Value}
theorem next_spec {v:Value} {vs:List Value} {lls:List (List (oI))} (h:TrailR Fr w bt many put ds vp vpl vl) (J:Vals F w v vs) (hn:vs.length=lls.length) (hi:∀i,i<lls.length->Lists F w (vs.getD i undef) (lls.getD i []))
  (hl:∀c,c∈lls.flatten->∀l,l∈c->l.natAbs<=many) (a1:lls.flatten.length<=1000000)
  (M:∀w' k u x,Ext w w'->findM put lls.flatten 0 (-1) 0=(k,u,x)->K (.tuple #[nI k,nI u,nI x]) w'):
  vcall Qj #[oP bt 0,v] w K:=by
 refine ze {loops:=[(4,[4,5,6,7,17]),(7,[4,5,6,7,23])]} Tryz.func293 ?_;simp(disch:=exact oS) only[push_cast,J.len];have hlen:vs.length<=9223372036854775807:=by obtain⟨_,_,_,A,R,_⟩:=J.shape;simp at A;omega
 refine vloop_up vs.length (λi u w'=> ∃(k:Nat) (b x:Int),u=[nI (-1),nI b,nI x,nI k,nI i]/\Ext w w'/\k+(lls.drop i).flatten.length=lls.flatten.length/\findM put (lls.drop i).flatten k b x=findM put lls.flatten 0 (-1) 0) ⟨0,-1,0,rfl,Same.refl _ _,by simp,rfl⟩ ?_;rintro i _ g w1 C Y ⟨k,b,x,rfl,he,O,a⟩ S;refine oZ ?_;refine zb (λa0=>?_) (λX=>?_)
 .have z:=J.ext he;obtain⟨cs,V,q,D⟩:=hi i oM;have s:=q.ext he;simp(disch:=exact oS) only[push_cast,z.iaddr,z.load,s.len];have G:cs.length<=9223372036854775807:=by obtain⟨_,_,_,A,R,_⟩:=q.shape;simp at A;omega
  have W:=Z0 (d:=[]) (show i<lls.length by omega);rw[W,GL] at a O;have t:∀c,c∈lls.getD i []->c∈lls.flatten:=λc U=>Ph.2 ⟨_,by rw[y2,V0 oM];exact G9 _,U⟩;generalize lls.getD i []=L at*;generalize (lls.drop (i+1)).flatten=T at*;rw[q0] at O;refine vloop_up cs.length (λj u w'=> ∃(o:Nat) (b x:Int),u=[nI (-1),nI b,nI x,nI o,nI j]/\Ext w w'/\o=k+j/\findM put (L.drop j++T) o b x=findM put lls.flatten 0 (-1) 0) ⟨k,b,x,rfl,he,oM,a⟩ ?_;rintro j _ g2 w2 C2 hj ⟨o,b,x,rfl,f,Z,a⟩ m;refine oZ ?_;refine zb (λQ=>?_) (λN=>?_)
  .have p:=q.ext f;simp(disch:=exact oS) only[push_cast,p.iaddr,p.load];have hm:L.getD j []∈L:=by rw[y2,V0 oM];exact G9 _
   rw[Z0 (d:=[]) (show j<L.length by omega),Gz,findM_cons] at a;refine look_spec (h.ext f) ((D j oM).ext f) (hl _ (t _ hm)) λw3 b' n y E r=>?_;rw[r] at a;dsimp only at a;simp(disch:=omega) only[push_cast,zk];have e:=f.trans E;refine zn (λB=>?_) (λB=>?_)
   .rw[y3 B] at a;exact m oM _ _ ⟨o+1,_,_,by simp<;>exact⟨rfl,rfl⟩,e,oM,a⟩
   rw[y0 (by simp[B])] at a;refine zb (λH=>?_) (λH=>?_)
   .rw[y3 oM] at a;exact M w3 _ _ _ e a.symm
   rw[y0 oM] at a;refine zb (λI=>?_) (λI=>?_)
   .rw[y3 oM] at a;refine zb (λhu=>?_) (λhu=>?_)
    .rw[y3 hu] at a;exact m oM _ _ ⟨o+1,_,_,by simp<;>exact⟨rfl,rfl⟩,e,oM,a⟩
    .rw[y0 hu] at a;exact m oM _ _ ⟨o+1,_,_,by simp<;>exact⟨rfl,rfl⟩,e,oM,a⟩
   .rw[y0 oM] at a;exact m oM _ _ ⟨o+1,_,_,by simp<;>exact⟨rfl,rfl⟩,e,oM,a⟩
  .rw[gY (show L.length<=j by omega),Gg] at a;simp(disch:=omega) only[push_cast,zk];exact S oM _ _ ⟨o,_,_,by simp<;>exact⟨rfl,rfl⟩,f,oM,a⟩
 .rw[gY oM] at a;exact M w1 _ _ _ he a.symm
theorem sep4 {a b c d:Option Nat}:Sep Fr [a,b,c,d]↔((∀x,a=some x->b≠some x)/\(∀x,a=some x->c≠some x)/\(∀x,a=some x->d≠some x)/\(∀x,b=some x->c≠some x)/\(∀x,b=some x->d≠some x)/\(∀x,c=some x->d≠some x))/\
  (∀x,a=some x->¬Fr x)/\(∀x,b=some x->¬Fr x)/\(∀x,c=some x->¬Fr x)/\(∀x,d=some x->¬Fr x):=by
 unfold Sep;simp only[pY,gg,gx,Ge,forall_eq_or_imp,forall_eq];constructor
 .rintro⟨⟨⟨e,a2,a3⟩,⟨b1,b2⟩,c1,-⟩,f1,f2,f3,f4⟩;exact⟨⟨e,a2,a3,b1,b2,c1⟩,f1,f2,f3,f4⟩
 .rintro⟨⟨e,a2,a3,b1,b2,c1⟩,f1,f2,f3,f4⟩;exact⟨⟨⟨e,a2,a3⟩,⟨b1,b2⟩,c1,λ_ h=>h.elim,List.Pairwise.nil⟩,f1,f2,f3,f4⟩
theorem push_spec {l:Int} {d:Bool} (h:TrailR Fr w bt many put ds vp vpl vl) (a9:l≠0) (hl:l.natAbs<=many) (s:placeOf put l.natAbs=0) (a8:∀b,Fr b->b<w.heap.size)
  (hK:∀i k w',TrailR Fr w' bt many (put++[l]) (ds++[d]) i vpl k->Same (kU bt vp vpl vl) w w'->(∀b,kU bt i vpl k b->kU bt vp vpl vl b\/w.heap.size<=b)->K (.tuple #[]) w'):
  vcall Qi #[oP bt 0,nI l,.bool d] w K:=by
 refine ze {cuts:=[(8195,[6]),(16389,[6])]} Tryz.func324 ?_;have hf:=h.few;have ai:=h.few';have hlen:=h.len;have ah:=Yd ds;have hc:=pS (l:=ds) (a:=true);refine zo (λu w'=>u=[nI (ds.count true)]/\Ext w w') ?_ ?_
 .intro C V;have hv:=h.rl.ints;simp(disch:=exact oS) only[push_cast,h.blk.ld2,hv.len];refine zb (λa=>zd λw1 n _=>?_) (λa=>V _ _ ⟨?_,Same.refl _ _⟩)
  .have T:=h.ext n;have O:=T.rl.ints;obtain⟨q,hq⟩:∃q,ds.length=q+1:=⟨ds.length-1,oM⟩;simp(disch:=exact oS) only[push_cast,T.blk.ld2,O.len,y1];rw[ah,hq,show(((q+1:Nat):Int)-1)=(q:Int) from by omega];simp(disch:=exact oS) only[push_cast,zk,O.iaddr,O.load,y1];refine V _ _ ⟨?_,n⟩;rw[Qu oM,jn0 oM]
  .have:ds=[]:=gG oM;subst this;rfl
 rintro _ g w1 ⟨rfl,n⟩;refine zo (λu w'=>u=[nI ((ds.count true+d.toNat:Nat):Int)]/\w'=w1) ?_ ?_
 .intro C V;cases d
  .exact V _ _ ⟨rfl,rfl⟩
  .simp(disch:=omega) only[push_cast,zk];exact V _ _ ⟨rfl,rfl⟩
 rintro _ g2 _ ⟨rfl,rfl⟩;have T:=h.ext n;have aj:=n.size;simp(disch:=exact oS) only[push_cast,T.blk.ld0];obtain⟨⟨s1,s2,s3,s4,s5,s6⟩,f1,f2,f3,f4⟩:=sep4.1 h.sep;refine zC xu yW xK rfl rfl λb1 w2 aq L av a2=>?_;have h2:=T.ext L;refine h2.rp.app1 xH a2 oM oM λi w3 B y ad=>?_;have a3:Blk w3 bt [vp,vpl,vl] yB:=h2.blk.same y λe=>s1 bt rfl e;refine a3.st B.ints.cells1 B.ints.one jg rfl λQ D aw a4=>?_;have F:Blk Q bt [i,vpl,vl] yB:=a4;simp(disch:=exact oS) only[push_cast,F.ld2];have ak:=L.size;have al:=y.size;have m:∀x,i.ownBlock=some x->vp.ownBlock=some x\/w.heap.size<=x:=λx c=>(ad x c).imp id λh=>oM
 have l1:=h.blk.lt;have j:∀x,kU bt vp vpl vl x->x<w.heap.size:=by
  rintro x (rfl|e|e|e)
  .exact l1
  .exact h.rp.lt e
  .exact h.rpl.lt e
  .exact h.rl.lt e
 have aa:OwnI zh Q vl (levels ds):=(h2.rl.same y λx c e=>s5 x e c).same D λx c e=>s3 x (by rw[e]) c;have Y:OwnI zh Q vpl (places many put):=(h2.rpl.same y λx c e=>s4 x e c).same D λx c e=>s2 x (by rw[e]) c;have af:OwnI zh Q i (put++[l]):=B.same D λx c e=>by
  rcases m x c with f|f
  .exact s1 x (by rw[e]) f
  .have:=j bt (.inl rfl);omega
 refine zC xu yW xK rfl rfl λb2 w5 ar o ax a5=>?_;refine(aa.ext o).app1 xH a5 oM oM λk w6 M z ae=>?_;have a6:Blk w6 bt [i,vpl,vl] yB:=(F.ext o).same z λe=>s3 bt rfl e;refine a6.st M.ints.cells1 M.ints.one jg rfl λR A ay a7=>?_;have U:Blk R bt [i,vpl,k] yB:=a7;have am:=o.size;have an:=z.size;have t:∀x,k.ownBlock=some x->vl.ownBlock=some x\/w3.heap.size<=x:=λx c=>(ae x c).imp id λh=>oM
 have H:∀x,k.ownBlock=some x->vl.ownBlock=some x\/w.heap.size<=x:=λx c=>(t x c).imp id λh=>oM
 have ag:OwnI zh R i (put++[l]):=((af.ext o).same z λx c e=>by
  rcases m x c with f|f
  .exact s5 x f e
  .have:=j x (.inr (.inr (.inr e)));omega).same A λx c e=>by
  rcases m x c with f|f
  .exact s1 x (by rw[e]) f
  .have:=j bt (.inl rfl);omega
 have Z:OwnI zh R vpl (places many put):=((Y.ext o).same z λx c e=>s6 x c e).same A λx c e=>s2 x (by rw[e]) c;have ab:OwnI zh R k (levels (ds++[d])):=by
  rw[levels_snoc];refine M.same A λx c e=>?_;rcases t x c with f|f
  .exact s3 x (by rw[e]) f
  .have:=j bt (.inl rfl);omega
 refine zd λw8 p _=>?_;have r:=U.ext p;have W:=ag.ext p;have J:=Z.ext p;have ac:=ab.ext p;have X:=W.ints;have a1:=J.ints;have au:=kX many put;simp(disch:=exact oS) only[push_cast,r.ld0,r.ld1,X.len,y1];refine variable_spec oM oM ?_;simp(disch:=exact oS) only[push_cast,r.ld0,r.ld1,X.len,a1.iaddr,y1,V1];refine J.st yW oM λw9 a0 E az=>?_;have N:OwnI zh w9 vpl (places many (put++[l])):=by
  rw[places_snoc s];simpa using a0
 have I:∀x,i.ownBlock=some x->vpl.ownBlock≠some x:=λx c e=>by
  rcases m x c with f|f
  .exact s4 x f e
  .have:=j x (.inr (.inr (.inl e)));omega
 have v:∀x,vpl.ownBlock=some x->k.ownBlock≠some x:=λx c e=>by
  rcases t x e with f|f
  .exact s6 x c f
  .have:=j x (.inr (.inr (.inl c)));omega
 have ao:=A.size;have ap:=p.size;have G:∀x,w.heap.size<=x->¬Fr x:=λx c hF=>by have:=a8 x hF;omega
 refine hK i k w9 ⟨r.same E λe=>s2 bt rfl e,W.same E I,N,ac.same E λx c e=>v x e c,?_,by simp[hlen],distinct_snoc h.dis s,?_,h.few⟩ ?_ ?_
 .rw[sep4];refine⟨⟨?_,s2,?_,I,?_,v⟩,f1,?_,f3,?_⟩
  .rintro x e S;cases e;rcases m _ S with f|f
   .exact s1 _ rfl f
   .have:=j _ (.inl rfl);omega
  .rintro x e S;cases e;rcases t _ S with f|f
   .exact s3 _ rfl f
   .have:=j _ (.inl rfl);omega
  .intro x e S;have c:=B.lt e;rcases t x S with e3|e3
   .rcases m x e with f|f
    .exact s5 x f e3
    .have:=j x (.inr (.inr (.inr e3)));omega
   .omega
  .intro x e;rcases m x e with f|f
   .exact f2 x f
   .exact G x f
  .intro x e;rcases H x e with f|f
   .exact f4 x f
   .exact G x f
 .intro x c;rw[gk,gw] at c;rcases c with c|rfl
  .exact h.bnd x c
  .exact⟨a9,hl⟩
 .have S0:Same (kU bt vp vpl vl) w w2:=Same.of_ext (n.trans L);have S3:Same (kU bt vp vpl vl) w2 w3:=y.mono λx _ e=> .inr (.inl e);have S4:Same (kU bt vp vpl vl) w3 Q:=D.mono λx _ e=> .inl e;have S5:Same (kU bt vp vpl vl) Q w5:=Same.of_ext o;have S6:Same (kU bt vp vpl vl) w5 w6:=z.mono λx _ e=> .inr (.inr (.inr e));have S7:Same (kU bt vp vpl vl) w6 R:=A.mono λx _ e=> .inl e;have S8:Same (kU bt vp vpl vl) R w8:=Same.of_ext p;have S9:Same (kU bt vp vpl vl) w8 w9:=E.mono λx _ e=> .inr (.inr (.inl e));exact S0.trans (S3.trans (S4.trans (S5.trans (S6.trans (S7.trans (S8.trans S9))))))
 .rintro x (e|e|e|e)
  .exact .inl (.inl e)
  .exact(m x e).imp (λe=> .inr (.inl e)) id
  .exact .inl (.inr (.inr (.inl e)))
  .exact(H x e).imp (λe=> .inr (.inr (.inr e))) id
end
theorem JA {α:Type} {xs:List α} {d:α} {i:Nat} (h:i<xs.length):xs.take (i+1)=xs.take i++[xs.getD i d]:=by
 rw[G5];simp[y2,h]
end Go.Proofs.YtfnpmncplaibiaaGreatDoor
namespace Go.Proofs.YtfnpmncplaibiaaGreatDoor
open Go Go.Vc Go.Proofs
section
variable {w:World} {K:oK}
theorem unit_mem {put cl:oI} {x:Int} (h:M.unitC put cl x):x∈cl/\M.placeOf put x.natAbs=0:=by
 have:x∈cl.filter λl=>decide (M.placeOf put l.natAbs=0):=by rw[h.2];grind
 grind
theorem cnf_new {N:Nat} {lv:Value} {ls:List Value} {c:M.Cnf} {K:oK} (h:CnfO N w lv ls c) (g:∀w' b,w.heap.size<=b->Ext w w'->Blk w' b [nI c.many,lv] zp->CnfO N w' lv ls c->K (oP b 0) w'):
  qt zp w λt4 w1=>zT zp t4 (.agg ⟨[nI c.many,lv]⟩) w1 λ_ w2=>K t4 w2:=by
 obtain⟨o,cc,d,_⟩:=h.lst.vals.shape;generalize (ls.map λx=>[x]).length=l at d;subst d;refine zi xr λb w1 i j k e=>?_;refine e.stAgg (cs':=[nI c.many,.slice o l cc]) rfl zD net_one λw2 m n f=>?_;have a:Ext w w2:=by grind [Ext.then]
 exact g w2 b oM a f (h.ext a)
theorem push_int {pv:Value} {xs:oI} {x:Int} (h:OwnI zh w pv xs) (n:xs.length<=100000) (g:∀w' a,Same (λb=>pv.ownBlock=some b) w w'->OwnI zh w' a (xs++[x])->(∀b,a.ownBlock=some b->pv.ownBlock=some b\/w.heap.size<=b)->K a w'):
  vbuildS zh 1 [(0,nI x)] w λs w1=>vbi .append [zh,zh] zh [pv,s] w1 K:=by
 refine qx xu yW xK rfl rfl dC λb3 o i c k d=>?_;refine OwnI.app1 (h.ext c) xH d oM oM λv4 l e f j=>?_;refine g l v4 ((Same.of_ext c).trans f) e λb m=>?_
 grind
end
end Go.Proofs.YtfnpmncplaibiaaGreatDoor
namespace Go.Vc
open Go
section
variable {t:TypeId} {w:World} {v:Value} {vs:List Value} {F:oA}
theorem Vals.part (h:Vals F w v vs) (j:vs≠[]) (m:elB t 1=true) {n:Nat} (q:n<=vs.length):∃v1,(∀(kd:IntKind) (w':World) (K:oK),xf t v none (some (.int kd n)) none w' K=K v1 w')/\Vals F w v1 (vs.take n):=by
 obtain⟨hu,hs⟩:=YM m;obtain⟨a,c,rfl,l,g,d⟩:=h.shape;obtain⟨b,o,rfl,hF,k,f⟩:=d (by simpa using j);rw[y4] at l f;refine⟨.slice (some ⟨b,o,none⟩) n c,λkd w' K=>ya ?_,⟨some ⟨b,o,none⟩,c,?_,?_,g,λ_=>⟨b,o,rfl,hF,k,λi hi=>?_⟩⟩,λx p=>by obtain⟨u,_,rfl⟩:=gr.1 p;rfl⟩
 .rw[run_sliceAt_slice w' t _ _ _ _ hu,run_slice_h w' t _ _ _ hu kd n oM oM,run_sizeOf hs];simp[Result.andThen,sliced];exact λ_=>rfl
 .simp;omega
 .simp;omega
 .simp only[y4,gh] at hi;have:=f i oM;have e:(List.map (λx=>[x]) (vs.take n)).getD i []=(List.map (λx=>[x]) vs).getD i []:=by
   simp[y2,List.getElem?_take,show i<n by omega]
  rw[e];exact this
theorem Vals.rest (h:Vals F w v vs) (j:vs≠[]) (r:elB t 1=true) {n:Nat} (y:n<=vs.length):∃v1,(∀(kd:IntKind) (w':World) (K:oK),xf t v (some (.int kd n)) none none w' K=K v1 w')/\Vals F w v1 (vs.drop n):=by
 obtain⟨hu,hs⟩:=YM r;obtain⟨a,c,rfl,m,p,d⟩:=h.shape;obtain⟨b,o,rfl,hF,l,f⟩:=d (by simpa using j);rw[y4] at m f;refine⟨sliced (some ⟨b,o,none⟩) n vs.length c 1,λkd w' K=>ya ?_,?_⟩
 .rw[run_sliceAt_slice w' t _ _ _ _ hu,run_slice_l w' t _ _ _ hu kd n oM (by simp;omega),run_sizeOf hs];simp[Result.andThen]
 .refine⟨⟨_,c-n,rfl|>λ(_:True=True)=>by simp[sliced];rfl,by simp;omega,oM,λg=>?_⟩,λx s=>by obtain⟨u,_,rfl⟩:=gr.1 s;rfl⟩;have q:n<vs.length:=by
   refine Nat.lt_of_not_le λk=>g ?_;rw[PO k];rfl
  rw[y0 oM];refine⟨b,o+n,by simp[yx],hF,l,λi hi=>?_⟩;simp only[y4,GU] at hi;have:=f (n+i) oM;have e:(List.map (λx=>[x]) (vs.drop n)).getD i []=(List.map (λx=>[x]) vs).getD (n+i) []:=by
   simp[y2,pc]
  rw[e,show o+n+i*1=o+(n+i)*1 by omega];exact this
end
end Go.Vc
namespace Go.Proofs.YtfnpmncplaibiaaGreatDoor
open Go Go.Vc Go.Proofs
section
variable {w:World} {K:oK} {D F F' G:oA} {dv iv:Value} {ds:List M.Dcl} {ins:List Bool}
def J5 (ds:List M.Dcl) (i:Nat):Nat:=M.nIn (ds.take i)
theorem off_succ (a:M.declOk ds=true) {i:Nat} (hi:i<ds.length):J5 ds (i+1)=J5 ds i+(ds.getD i (M.nada,0)).2.toNat:=by
 have f:=M.bits_le a hi;have hw:=M.dcl_wide a hi;unfold J5 M.nIn;have e:M.bits (ds.take (i+1))=M.bits (ds.take i)+(ds.getD i (M.nada,0)).2:=by
  rw[M.take_add hi (M.nada,0)];unfold M.bits;rw[gz,List.sum_append];simp
 have c:0<=M.bits (ds.take i):=M.bits_pos' λd b=>M.dpos a d (Gc b);rw[e];omega
theorem YH0:J5 ds ds.length=M.nIn ds:=by unfold J5;rw[gy]
theorem off_le (hd : M.declOk ds = true) {i : Nat} (hi : i <= ds.length) : J5 ds i <= M.nIn ds := by
  induction h : ds.length - i generalizing i with
  | zero => have : i = ds.length := by omega
            subst this; exact Nat.le_of_eq YH0
  | succ n ih =>
    have h2 := off_succ hd (show i < ds.length by omega)
    have := ih (i := i + 1) (by omega) (by omega)
    omega
theorem envB_take:∀{ds:List M.Dcl} {ins:List Bool} {i:Nat},(∀d,d∈ds->0<=d.2)->i<ds.length->(M.envB ds ins).getD i 0=(M.msbN ((ins.drop (J5 ds i)).take (ds.getD i (M.nada,0)).2.toNat):Int)
 |[],_,_,_,h=>by simp at h
 |d::ds,ins,0,_,_=>by
  have:J5 (d::ds) 0=0:=rfl;rw[this];simp[M.envB]
 |d::ds,ins,i+1,c,h=>by
  have f:=c d gi;have a:∀x,x∈ds->0<=x.2:=λx b=>c x (gm _ b);have g:0<=M.bits (ds.take i):=M.bits_pos' λx b=>a x (Gc b);have e:J5 (d::ds) (i+1)=d.2.toNat+J5 ds i:=by
   unfold J5 M.nIn;rw[pW,M.bits_cons'];omega
  unfold M.envB;rw[pr,envB_take a (by simpa using h),e,pr,<-PZ]
theorem msb_snoc (bs:List Bool) (b:Bool):(M.msbN (bs++[b]):Int)=2*M.msbN bs+M.b2i b:=by
 rw[M.msb_app];cases b<;>simp[M.msbN,M.b2i]<;>omega
theorem BlastEnv_spec (Q:DclsR F w dv ds) (hi:Bools F' w iv ins) (d:M.declOk ds=true) (hl:ins.length=M.nIn ds)
  (hK:∀w' r,Ext w w'->OwnI zh w' r (M.envB ds ins)->(∀b,r.ownBlock=some b->w.heap.size<=b)->K r w'):vcall Ki #[dv,iv] w K:=by
 refine ze {loops:=[(5,[1,5,23]),(9,[8,32])],cuts:=[(8195,[])]} Tryz.func216 ?_;obtain⟨ag,ah⟩:=M.nIn_eq d;have Z:Bools (λx=>x<w.heap.size) w iv ins:=Sl.weaken hi λx _ h=>h;refine zo (λu w'=>u=[]/\Ext w w') (λC S=>?_) ?_
 .refine DeclOk_spec Q λw1 f=>?_;rw[d];simp only[push_cast,Gh,(hi.ext f).len];refine bitsOf_spec (Q.ext f) d λw2 W=>?_;refine oZ ?_;refine zb (λh=>absurd oM h) (λ_=>S _ _ ⟨rfl,f.trans W⟩)
 rintro _ _ w1 ⟨rfl,f⟩;simp only[push_cast,(Q.ext f).len];have h4:=(M.decl_iff.1 d).1;have V:=M.dpos d;have Y:=M.envB_len ds ins;refine vloop_up ds.length (λi u w'=> ∃v r,u=[v,r,nI i]/\Ext w w'/\Bools (λx=>x<w.heap.size) w' v (ins.drop (J5 ds i))/\OwnI zh w' r ((M.envB ds ins).take i)/\∀b,r.ownBlock=some b->w.heap.size<=b) ⟨iv,_,rfl,f,by simpa[J5,M.nIn,M.bits] using Z.ext f,OwnI.nil,λb hb=>by cases hb⟩ ?_;rintro i _ _ w2 C ae ⟨v,r,rfl,E,a6,t,s⟩ S;refine oZ ?_;refine zb (λa=>?_) (λa=>?_)
 .have p:i<ds.length:=oM;have I:=Q.ext E;have aa:=M.dcl_wide d p;have z:=off_succ d p;have ab:=off_le d (i:=i+1) oM;have o:(ins.drop (J5 ds i)).length=M.nIn ds-J5 ds i:=(by rw[GU,hl]);simp(disch:=exact oS) only[push_cast,I.iaddr,I.load];refine zi qe λb3 w3 ad X aj R=>?_;refine stDecl R λw4 a5 ak G=>?_;have k:Ext w2 w4:=Ext.then X a5 λy hy=>by subst hy;omega
  have e4:=E.trans k;have O:=a6.ext k;have het:=envB_take (ins:=ins) V p;obtain⟨wd,l⟩:∃wd:Nat,(ds.getD i (M.nada,0)).2=wd:=⟨_,(Int.toNat_of_nonneg oM).symm⟩;rw[l] at aa z het;rw[gl] at z het;simp(disch:=exact oS) only[push_cast,G.ld1,l];have J:(ins.drop (J5 ds i)).map (λx=>Value.bool x)≠[]:=λh=>by
   have:=congrArg List.length h;rw[y4,o] at this;simp at this;omega
  obtain⟨v5,H,a7⟩:=Vals.part O J xa0 (n:=wd) (by rw[y4,o];omega);rw[H];have g:Bools (λx=>x<w.heap.size) w4 v5 ((ins.drop (J5 ds i)).take wd):=by unfold Bools;rw[GH];exact a7
  generalize U:(ins.drop (J5 ds i)).take wd=bs at g het;have m:bs.length=wd:=by rw[<-U,gh,o];omega
  simp only[push_cast,g.len,m];refine vloop_up wd (λj u w'=>u=[nI (M.msbN (bs.take j)),nI j]/\w'=w4) ⟨rfl,rfl⟩ ?_;rintro j _ _ _ C1 hj ⟨rfl,rfl⟩ T;refine oZ ?_;have af:=M.msb_lt (bs.take j);have ai:2^(bs.take j).length<=2^4:=Gi oM (by rw[gh];omega);refine zb (λc=>?_) (λc=>?_)
  .have a1:j<wd:=oM;simp(disch:=exact oS) only[push_cast,g.iaddr,gl,g.load,zk];refine YT ?_;have ac:0<=M.b2i (bs.getD j false)/\M.b2i (bs.getD j false)<=1:=by unfold M.b2i;split<;>omega
   have N:=msb_snoc (bs.take j) (bs.getD j false);rw[<-M.take_add (by omega:j<bs.length) false] at N;refine oZ ?_;rw[<-N,zk oM oM];exact T a1 _ _ ⟨rfl,rfl⟩
  .have a2:j=wd:=oM;subst a2;rw[<-m,gy];have a4:=t.ext k;refine push_int a4 (by rw[gh];omega) λw6 r6 B L a3=>?_;have lr:∀x,r.ownBlock=some x->x<w2.heap.size:=λx D=>(t.lt D);have q6:=G.same B λe=>by have:=lr _ e;omega
   have a8:=O.same B λx D _ e=>by have:=s x e;omega
   have z24:=k.size;have z2:=E.size;rw[<-het,<-M.take_add oM 0] at L;obtain⟨v7,A,a9⟩:=Vals.rest a8 J xa0 (n:=bs.length) (by rw[y4,o];omega);simp(disch:=exact oS) only[push_cast,q6.ld1,l,m.symm,A];rw[inc64' oM];refine S p _ _ ⟨v7,r6,rfl,Ext.then (E.trans k) B λx D=>s x D,?_,?_,λx D=>?_⟩
   .rw[z,<-m];have q:=a9;rw[<-Po,PZ] at q;exact q
   .exact L
   .rcases a3 x D with e|e
    .exact s x e
    .omega
 .have a0:i=ds.length:=oM;subst a0;rw[<-Y,gy] at t;exact hK w2 r E t s
end
end Go.Proofs.YtfnpmncplaibiaaGreatDoor
section
namespace Go.Proofs.YtfnpmncplaibiaaGreatDoor
open Go Go.Vc Go.Proofs
section
open Go.RowKit Go.Extern.Stop Go.Stop Go.Extern
theorem YL0 (a b : Addr) (w : World) (hne : a ≠ b) {ca cb : Array Value} {ta tb : TypeId} (ha : w.heap[a.block]? = some (.cells ca ta (0, 0))) (hb : w.heap[b.block]? = some (.cells cb tb (0, 0))) :
    Calls Tryz.prog 49 #[.iface 443 (.pointer (some a)), .iface 443 (.pointer (some b))] w λe w' => e = .returned (.bool false) /\ w' = w := by
  obtain ⟨i, hi, hcmp⟩ := pF.1 jy0
  obtain ⟨j, hj, hjs⟩ := pF.1 jw0
  have h8 := @run_callFunc_extern Tryz.prog 91 _ Extern.ReflectliteType.typeOf Tryz.func91 (by kernel_rfl) (by kernel_rfl) (by kernel_rfl) (by kernel_rfl)
  have h32 : ∀ w : World, (callFunc 402 #[.agg #[.pointer (some ⟨11, 443, none⟩)]]).run Tryz.prog w = .ok (Next.value (.bool true)) w := XN
  have tT := yg0
  have mR := yh0
  have heq := run_eql_iface_ptr_other (P := Tryz.prog) w Tryz.underlying86 Tryz.underlying443 hi hcmp hj (by rw [hjs]; decide) hne ha hb
  have n1 := noIsE
  have n2 := ja0
  have n3 := xY0
  go_enter Tryz.func49, Tryz.ntmps49
  go_wp2
  refine wp_loop_rounds 1 ?_
  rw [rounds_succ]
  go_wp2
  go_ret
  exact ⟨rfl, rfl⟩
end
variable {w:World} {K:oK}
theorem Zr0 {a b:Addr} (c:a≠b) {ca cb:Array Value} {ta tb:TypeId} (f:w.heap[a.block]?=some (.cells ca ta (0,0))) (g:w.heap[b.block]?=some (.cells cb tb (0,0))) (d:K (.bool false) w):vcall qk #[erv a,erv b] w K:=
 ⟨rK,(YL0 a b w c f g).mono λe w' h=>by obtain⟨rfl,rfl⟩:=h;exact d⟩
end Go.Proofs.YtfnpmncplaibiaaGreatDoor
end
namespace Go.Proofs.YtfnpmncplaibiaaGreatDoor
open Go Go.Vc Go.Proofs Go.M
section
variable {w:World} {K:oK} {F Fr:oA} {many bs:Nat} {c:Cnf} {s:Sat} {N:Nat}
structure SV where
 (vc:Value) (bt:Nat) (vp vpl vl vw vr:Value) (ls:List Value)
def SV.tf (σ:SV):oA:=kU σ.bt σ.vp σ.vpl σ.vl
def SV.f3 (σ:SV) (bs b:Nat):Prop:=b=bs\/σ.vw.ownBlock=some b\/σ.vr.ownBlock=some b
def SV.foot (σ:SV) (bs b:Nat):Prop:=σ.tf b\/σ.f3 bs b
structure SR (N:Nat) (Fr:oA) (w:World) (bs many:Nat) (c:Cnf) (s:Sat) (σ:SV):Prop where
 blk:Blk w bs [nI many,σ.vc,oP σ.bt 0,σ.vw,σ.vr,nI s.code] yA
 cm:c.many=many
 cl:Lists Fr w σ.vc c.list
 tr:TrailR Fr w σ.bt many s.put (yC s.why) σ.vp σ.vpl σ.vl
 rw:OwnI zh w σ.vw s.why
 rl:OwnV zI w σ.vr σ.ls
 lsl:σ.ls.length=s.learned.length
 ll:RowsR N Fr w σ.ls s.learned
 s1:∀x,σ.vw.ownBlock=some x->x≠bs
 s2:∀x,σ.vr.ownBlock=some x->x≠bs
 s3:∀x,σ.vw.ownBlock=some x->σ.vr.ownBlock≠some x
 st:∀x,σ.f3 bs x->¬σ.tf x
 sf:∀x,σ.f3 bs x->¬Fr x
section
variable {σ:SV} {w':World} {S:oA}
theorem SR.notF (h:SR N Fr w bs many c s σ) {x:Nat} (a:σ.foot bs x): ¬Fr x:=by
 obtain⟨_,f1,f2,f3,f4⟩:=sep4.1 h.tr.sep;rcases a with(rfl|e|e|e)|e
 .exact f1 _ rfl
 .exact f2 _ e
 .exact f3 _ e
 .exact f4 _ e
 .exact h.sf _ e
theorem SR.lt (h:SR N Fr w bs many c s σ) {x:Nat} (a:σ.foot bs x):x<w.heap.size:=by
 rcases a with(rfl|e|e|e)|rfl|e|e
 .exact h.tr.blk.lt
 .exact h.tr.rp.lt e
 .exact h.tr.rpl.lt e
 .exact h.tr.rl.lt e
 .exact h.blk.lt
 .exact h.rw.lt e
 .exact h.rl.lt e
theorem SR.same (h:SR N Fr w bs many c s σ) (hw:Same S w w') (hs:∀x,σ.foot bs x->¬S x) (hF:∀x,Fr x->x<w.heap.size->¬S x):SR N Fr w' bs many c s σ:=
 ⟨h.blk.same hw (hs _ (.inr (.inl rfl))),h.cm,h.cl.same hw hF,h.tr.same hw λb a=>hs _ (.inl a),h.rw.same hw λb a=>hs _ (.inr (.inr (.inl a))),h.rl.same hw λb a=>hs _ (.inr (.inr (.inr a))),h.lsl,h.ll.same hw hF,h.s1,h.s2,h.s3,h.st,h.sf⟩
theorem SR.ext (h:SR N Fr w bs many c s σ) (hw:Ext w w'):SR N Fr w' bs many c s σ:=h.same hw (λ_ _ h=>h) λ_ _ _ h=>h
theorem SR.lists (h:SR N Fr w bs many c s σ):Vals (λb=>σ.vr.ownBlock=some b) w σ.vr σ.ls:=h.rl.vals
theorem clause_spec {k:Nat} (h:SR N Fr w bs many c s σ) (q:k<c.list.length+s.learned.length) (p:c.list.length+s.learned.length<=1000000)
  (n:∀v w',Ext w w'->Ints Fr w' v (atM c s k)->K v w'):vcall Yk #[oP bs 0,nI k] w K:=by
 refine ze {} Tryz.func295 ?_;obtain⟨cs,m,b,l⟩:=h.cl;simp(disch:=exact oS) only[push_cast,h.blk.ld1,b.len];refine zb (λa=>?_) (λa=>zd λw1 d _=>?_)
 .simp(disch:=exact oS) only[push_cast,h.blk.ld1,b.iaddr,b.load];refine n _ w (Same.refl _ _) ?_;have:=l k oM;rwa[atM,getD_app_l oM]
 .have g:=h.ext d;have e:=b.ext d;obtain⟨j,rfl⟩:∃j,k=cs.length+j:=⟨k-cs.length,oM⟩;have f:=g.lists;have o:=h.lsl;simp(disch:=exact oS) only[push_cast,g.blk.ld1,g.blk.ld4,e.len,y1];rw[show(cs.length:Int)+j-cs.length=(j:Int) from by omega];simp(disch:=exact oS) only[push_cast,zk,f.iaddr,f.load,y1];refine n _ w1 d ?_;have:=g.ll.int (i:=j) oM;rwa[atM,m,getD_app_r]
theorem assign_spec {l y:Int} (h:SR N Fr w bs many c s σ) (J:l≠0) (hl:l.natAbs<=many) (r:placeOf s.put l.natAbs=0) (C:∀b,Fr b->b<w.heap.size)
  (X:∀W w',SR N Fr w' bs many c {s with put:=s.put++[l],why:=s.why++[y]} W->Same (σ.foot bs) w w'->(∀b,W.foot bs b->σ.foot bs b\/w.heap.size<=b)->K (.tuple #[]) w'):
  vcall Yl #[oP bs 0,nI l,nI y] w K:=by
 refine ze {} Tryz.func296 ?_;simp(disch:=exact oS) only[push_cast,h.blk.ld2];refine push_spec (d:=decide (y= -1)) h.tr J hl r C λn m w1 j f D=>?_;have S:=f.size;have t:∀x,σ.f3 bs x->¬kU σ.bt σ.vp σ.vpl σ.vl x:=λx a=>h.st x a;have B:=h.blk.same f (t bs (.inl rfl));have Q:=h.rw.same f λx a=>t x (.inr (.inl a));have M:=h.rl.same f λx a=>t x (.inr (.inr a));have R:=h.tr.few';have a0:=h.tr.few;have hlen:=h.tr.len;rw[kI] at hlen;simp(disch:=exact oS) only[push_cast,B.ld3];refine zC xu yW xK rfl rfl λb1 w2 Y i a1 I=>?_;have T:=i.size;refine(Q.ext i).app1 xH I oM oM λo w3 z k L=>?_;have U:=k.size;have G:=(B.ext i).same k λe=>h.s1 _ e rfl;have u:∀x,o.ownBlock=some x->σ.vw.ownBlock=some x\/w1.heap.size<=x:=λx a=>(L x a).imp id λh=>oM
 have Z:=h.lt (.inr (.inl rfl));have p:∀x,o.ownBlock=some x->x≠bs:=λx a e=>by
  rcases u x a with A|A
  .exact h.s1 x A e
  .omega
 refine G.st z.ints.cells1 z.ints.one jg rfl λV v a2 H=>?_;have O:∀x,kU σ.bt n σ.vpl m x->x<w1.heap.size:=by
  rintro x (rfl|e|e|e)
  .exact j.blk.lt
  .exact j.rp.lt e
  .exact j.rpl.lt e
  .exact j.rl.lt e
 have E:∀x,σ.f3 bs x->¬kU σ.bt n σ.vpl m x:=λx a g=>by
  rcases D x g with e|e
  .exact h.st x a e
  .have:=h.lt (.inr a);omega
 have F:Same (σ.f3 bs) w1 V:=(Same.of_ext i).trans ((k.mono λx _ e=> .inr (.inl e)).trans (v.mono λx _ e=> .inl e));have q:∀x,(SV.mk σ.vc σ.bt n σ.vpl m o σ.vr σ.ls).f3 bs x->σ.f3 bs x\/w1.heap.size<=x:=by
  rintro x (e|e|e)
  .exact .inl (.inl e)
  .exact(u x e).imp (λe=> .inr (.inl e)) id
  .exact .inl (.inr (.inr e))
 refine X ⟨σ.vc,σ.bt,n,σ.vpl,m,o,σ.vr,σ.ls⟩ V ⟨H,h.cm,(h.cl.same f ?_).same F ?_,?_,z.same v p,?_,h.lsl,?_,p,h.s2,?_,?_,?_⟩ ?_ ?_
 .exact λx hF _ g=>h.notF (.inl g) hF
 .exact λx hF _ g=>h.notF (.inr g) hF
 .have:=j.same F λx a e=>E x e a;rwa[<-jY0] at this
 .exact((M.ext i).same k λx a e=>h.s3 x e a).same v λx a e=>h.s2 x a e
 .exact(h.ll.same f λx hF _ g=>h.notF (.inl g) hF).same F λx hF _ g=>h.notF (.inr g) hF
 .intro x a e;rcases u x a with A|A
  .exact h.s3 x A e
  .have:=h.lt (.inr (.inr (.inr e)));omega
 .intro x a g;rcases q x a with e|e
  .exact E x e g
  .have:=O x g;omega
 .intro x a hF;rcases q x a with e|e
  .exact h.sf x e hF
  .have:=C x hF;omega
 .exact(f.mono λx _ e=> .inl e).trans (F.mono λx _ e=> .inr e)
 .rintro x (e|e)
  .exact(D x e).imp (λe=> .inl e) id
  .exact(q x e).imp (λe=> .inr e) λh=>oM
theorem pop_take {α:Type} {d:α} {xs:List α} {n:Nat} (h:xs.length=n+1):xs=xs.take n++[xs.getD n d]:=by
 have:=GR n xs;rw[Z0 (d:=d) (show n<xs.length by omega),gY (show xs.length<=n+1 by omega)] at this;exact this.symm
theorem goBack_spec {L:Int} (h:SR N Fr w bs many c s σ)
  (hK:∀f w' n,n=backN (yC s.why) L s.put.length->SR N Fr w' bs many c {s with put:=s.put.take n,why:=s.why.take n} f->Same (σ.foot bs) w w'->(∀b,f.foot bs b->σ.foot bs b)->K (.tuple #[]) w'):
  vcall Yj #[oP bs 0,nI L] w K:=by
 refine ze {loops:=[(1,[])],cuts:=[(8194,[])]} Tryz.func323 ?_;simp(disch:=exact oS) only[push_cast,h.blk.ld2];have aq:=h.tr.few';have ai:=h.tr.few;have hlen:=h.tr.len;rw[kI] at hlen;refine vloop_up s.put.length (λi u w'=> ∃f,SR N Fr w' bs many c {s with put:=s.put.take (s.put.length-i),why:=s.why.take (s.put.length-i)} f/\f.bt=σ.bt/\Same (σ.foot bs) w w'/\(∀b,f.foot bs b->σ.foot bs b)/\backN (yC s.why) L (s.put.length-i)=backN (yC s.why) L s.put.length) ⟨σ,?_,rfl,Same.refl _ _,λ_ h=>h,by simp⟩ ?_
 .rw[Nat.sub_zero,gy,<-hlen,gy];exact h
 rintro i u g w1 C hi ⟨f,h1,a4,T,z,U⟩ hC;generalize hn:s.put.length-i=n at*;have W:(s.put.take n).length=n:=by simp;omega
 have ap:(s.why.take n).length=n:=by simp;omega
 have au:(yC (s.why.take n)).length=n:=by rw[kI];exact ap
 have ah:n=backN (yC s.why) L s.put.length->K (.tuple #[]) w1:=λe=>hK f w1 n e h1 T z;rw[<-a4];refine zo (λu w'=>Ext w1 w'/\∃m,n=m+1/\L<lvl (yC s.why) m) ?_ ?_
 .intro J hJ;refine zd λw2 t _=>?_;have G:=h1.ext t;have H:Ints _ w2 f.vp (s.put.take n):=G.tr.rp.ints;have a6:Ints _ w2 f.vl (levels (yC (s.why.take n))):=G.tr.rl.ints;have a7:=Yd (yC (s.why.take n));simp(disch:=exact oS) only[push_cast,G.tr.blk.ld0,H.len,y1];have r:n=backN (yC s.why) L s.put.length->K (.tuple #[]) w2:=λe=>hK f w2 n e G (T.trans (Same.of_ext t)) z;refine zb (λa=>?_) (λa=>?_)
  .obtain⟨m,rfl⟩:∃m,n=m+1:=⟨n-1,oM⟩;simp(disch:=exact oS) only[push_cast,G.tr.blk.ld0,G.tr.blk.ld2,H.len,y1];rw[W,show(((m+1:Nat):Int)-1)=(m:Int) from by omega];simp(disch:=exact oS) only[push_cast,zk,a6.iaddr,a6.load,y1];rw[Qu oM,<-yp0,lvl_take oM];refine zb (λb=>hJ _ _ ⟨t,m,rfl,b⟩) (λb=>r ?_);rw[<-U,backN,y0 b]
  .refine r ?_;rw[<-U,show n=0 from by omega];rfl
 rintro _ g2 w2 ⟨t,m,rfl,hL⟩;have G:=h1.ext t;have H:OwnI zh w2 f.vp (s.put.take (m+1)):=G.tr.rp;have a8:=H.ints;simp(disch:=exact oS) only[push_cast,G.tr.blk.ld0,a8.len];rw[W,show(((m+1:Nat):Int)-1)=(m:Int) from by omega];simp(disch:=omega) only[push_cast,zk];refine zd λZ a5 _=>?_;have j:=G.ext a5;have a9:OwnI zh Z f.vp (s.put.take (m+1)):=j.tr.rp;have R:OwnI zh Z f.vpl (places many (s.put.take (m+1))):=j.tr.rpl;have aj:OwnI zh Z f.vl (levels (yC (s.why.take (m+1)))):=j.tr.rl;have an:OwnI zh Z f.vw (s.why.take (m+1)):=j.rw;have Q:=a9.ints;have X:=R.ints;have av:=kX many (s.put.take (m+1));have hm:(s.put.take (m+1)).getD m 0∈s.put.take (m+1):=getD_meS oM;have ar:=j.tr.bnd _ hm;simp(disch:=exact oS) only[push_cast,j.tr.blk.ld0,j.tr.blk.ld1,Q.iaddr,Q.load,y1];refine variable_spec oM oM ?_;simp(disch:=exact oS) only[push_cast,j.tr.blk.ld1,X.iaddr,y1,V1];refine R.st yW oM λw4 aa p aw=>?_;have l:=pop_take (d:=0) W;rw[pw,GG (by omega:m<=m+1)] at l;generalize hx:(s.put.take (m+1)).getD m 0=x at*;have Y:OwnI zh w4 f.vpl (places many (s.put.take m)):=by
  have hd:Distinct (s.put.take m++[x]):=by rw[<-l];exact j.tr.dis
  rw[<-places_unsnoc (many:=many) hd,<-l];simpa using aa
 obtain⟨⟨t1,t2,t3,t4,t5,t6⟩,f1,f2,f3,f4⟩:=sep4.1 j.tr.sep;have k1:∀y,f.f3 bs y->f.vpl.ownBlock≠some y:=λy k e=>j.st y k (.inr (.inr (.inl e)));have ad:Blk w4 f.bt [f.vp,f.vpl,f.vl] yB:=j.tr.blk.same p λe=>t2 _ rfl e;have a2:Blk w4 bs [nI many,f.vc,oP f.bt 0,f.vw,f.vr,nI s.code] yA:=j.blk.same p λe=>k1 _ (.inl rfl) e;have al:=a9.same p λy k e=>t4 y k e;have ak:=aj.same p λy k e=>t6 y e k;have ao:=an.same p λy k e=>k1 y (.inr (.inl k)) e;have am:=j.rl.same p λy k e=>k1 y (.inr (.inr k)) e;refine zd λw5 o _=>?_;have S:=ad.ext o;have M:=a2.ext o;have I:=al.ext o;have E:=ak.ext o;have A:=ao.ext o;have a7:=Yd (yC (s.why.take (m+1)));simp(disch:=exact oS) only[push_cast,S.ld0,S.ld2,M.ld3,I.cut,E.cut,A.cut,y1];refine S.st (I.taken (n:=m) oM).ints.cells1 (I.taken (n:=m) oM).ints.one jg rfl λw6 ab ax ae=>?_
 try simp(disch:=exact oS) only[push_cast,E.cut,A.cut,y1,V1]
 refine ae.st (E.taken (n:=m) oM).ints.cells1 (E.taken (n:=m) oM).ints.one jg rfl λw7 ac ay af=>?_
 try simp(disch:=exact oS) only[push_cast,A.cut,y1,V1]
 have V:bs≠f.bt:=λe=>j.st bs (.inl rfl) (.inl e);have a3:=(M.same ab V).same ac V;refine a3.st (A.taken (n:=m) oM).ints.cells1 (A.taken (n:=m) oM).ints.one jg rfl λw8 F az ag=>?_;have q:Same (· =f.bt) w5 w7:=ab.trans ac;have mv:∀{xs:oI} {v:Value},OwnI zh w5 v xs->(∀y,v.ownBlock=some y->y≠f.bt/\y≠bs)->OwnI zh w8 v xs:=λhv k=>(hv.same q λy e=>(k y e).1).same F λy e=>(k y e).2;have nbt:∀y,f.tf y->y≠bs:=λy k e=>j.st bs (.inl rfl) (e▸k);have hP:=I.taken (n:=m) oM;have a0:=E.taken (n:=m) (by rw[a7];omega);have hW:=A.taken (n:=m) oM;rw[pw,GG (by omega:m<=m+1)] at hP hW;rw[levels_take,yp0,pw,GG (by omega:m<=m+1)] at a0;have a1:Same (σ.foot bs) Z w8:=(p.mono λy _ e=>z _ (.inl (.inr (.inr (.inl e))))).trans ((Same.of_ext o).trans ((q.mono λy _ e=>z _ (.inl (.inl e))).trans (F.mono λy _ e=>z _ (.inr (.inl e)))));have D:Same (f.foot bs) Z w8:=(p.mono λy _ e=>(.inl (.inr (.inr (.inl e))))).trans ((Same.of_ext o).trans ((q.mono λy _ e=>(.inl (.inl e))).trans (F.mono λy _ e=>(.inr (.inl e)))));have O:s.put.length-(i+1)=m:=oM
 refine hC oM _ _ ⟨⟨f.vc,f.bt,cutV f.vp m,f.vpl,cutV f.vl m,cutV f.vw m,f.vr,f.ls⟩,?_,a4,?_,?_,?_⟩
 .rw[O];refine⟨ag,j.cm,j.cl.same D λy k _ ht=>j.notF ht k,?_,?_,?_,j.lsl,j.ll.same D λy k _ ht=>j.notF ht k,?_,j.s2,?_,?_,?_⟩
  .refine⟨(show Blk w7 f.bt [cutV f.vp m,f.vpl,cutV f.vl m] yB from af).same F λe=>V e.symm,mv hP λy e=>?_,mv (Y.ext o) λy e=>?_,mv a0 λy e=>?_,?_,?_,?_,?_,ai⟩
   .rw[xP] at e;exact⟨λB=>t1 _ rfl (B▸e),nbt y (.inr (.inl e))⟩
   .exact⟨λB=>t2 _ rfl (B▸e),nbt y (.inr (.inr (.inl e)))⟩
   .rw[xP] at e;exact⟨λB=>t3 _ rfl (B▸e),nbt y (.inr (.inr (.inr e)))⟩
   .rw[xP,xP];exact j.tr.sep
   .show(yC (s.why.take m)).length=(s.put.take m).length;rw[kI,gh,gh];omega
   .have:=distinct_take j.tr.dis m;rwa[pw,GG (by omega:m<=m+1)] at this
   .intro y k;refine j.tr.bnd y ?_;show y∈s.put.take (m+1);rw[l];exact gW _ k
  .refine mv hW λy e=>?_;rw[xP] at e;exact⟨λB=>j.st y (.inr (.inl e)) (.inl B),j.s1 y e⟩
  .exact((am.ext o).same q λy e B=>j.st y (.inr (.inr e)) (.inl B)).same F λy e B=>j.s2 y e B
  .intro y e;rw[xP] at e;exact j.s1 y e
  .intro y e;rw[xP] at e;exact j.s3 y e
  .intro y k ht;refine j.st y ?_ ?_
   .rcases k with e|e|e
    .exact .inl e
    .exact .inr (.inl (by rwa[xP] at e))
    .exact .inr (.inr e)
   .rcases ht with e|e|e|e
    .exact .inl e
    .exact .inr (.inl (by rwa[xP] at e))
    .exact .inr (.inr (.inl e))
    .exact .inr (.inr (.inr (by rwa[xP] at e)))
  .intro y k;refine j.sf y ?_;rcases k with e|e|e
   .exact .inl e
   .exact .inr (.inl (by rwa[xP] at e))
   .exact .inr (.inr e)
 .exact T.trans ((Same.of_ext (t.trans a5)).trans a1)
 .intro y k;refine z y ?_;rcases k with(e|e|e|e)|e|e|e
  .exact .inl (.inl e)
  .exact .inl (.inr (.inl (by rwa[xP] at e)))
  .exact .inl (.inr (.inr (.inl e)))
  .exact .inl (.inr (.inr (.inr (by rwa[xP] at e))))
  .exact .inr (.inl e)
  .exact .inr (.inr (.inl (by rwa[xP] at e)))
  .exact .inr (.inr (.inr e))
 .rw[O,<-U,backN,y3 hL]
end
end
section
variable {w:World} {K:oK} {F Fr:oA} {many:Nat}
theorem few_ints {ks:oI} (g:ks.Nodup) (b:∀k,k∈ks->k.natAbs<=700):ks.length<=1401:=by
 have d:(ks.map λk=>(k+701).toNat).Nodup:=by
  unfold List.Nodup;rw[G3];refine(Pc.2 λ{a c} hs=>?_);have e:a∈ks:=hs.subset (by simp);have f:c∈ks:=hs.subset (by simp);have:=b a e;have:=b c f;have i:a≠c:=by
   have:=g.sublist hs;simpa using this
  omega
 have:=nodup_le (m:=1401) d λx j=>by
  obtain⟨k,h,rfl⟩:=gr.1 j;have:=b k h;omega
 simpa using this
theorem greatest_spec {bt b:Nat} {put ks:oI} {ds:List Bool} {vp vpl vl:Value} (h:TrailR Fr w bt many put ds vp vpl vl) (hm:ISet w b ks) (N:∀k,k∈ks->k.natAbs<=many/\placeOf put k.natAbs≠0)
  (hK:∀w' top v xs,Ext w w'->TopOf put ds ks top xs->OwnI zh w' v xs->(∀x,v.ownBlock=some x->w.heap.size<=x)->K (.tuple #[nI (top:Nat),v]) w'):
  vcall ZJ #[oP bt 0,.map (some b)] w K:=by
 refine ze {loops:=[(4,[6,7])]} Tryz.func343 ?_;have ad:=h.few;have a8:=h.few';have hlen:=h.len;have a0:=hm.nodup;have af:ks.length<=1401:=few_ints a0 λk M=>by have:=(N k M).1;omega
 refine Wa xB hm λr w1 hr J W=>?_;refine vloop_up ks.length (λi u w'=> ∃dn top v xs,dn.length=i/\u=[nI (top:Nat),v]/\IterR w' r b ks dn/\OwnI zh w' v xs/\TopOf put ds dn top xs/\Ext w w'/\r<w'.heap.size/\top<=700/\(∀x,v.ownBlock=some x->w.heap.size<=x/\x≠r))
  ⟨[],0,oN,[],rfl,rfl,J,OwnI.nil,⟨by simp,by simp,.inl rfl,pa⟩,W,?_,oM,λx z=>by cases z⟩ ?_
 .exact J.lt
 rintro i _ g w2 C hi ⟨dn,top,v,xs,F,rfl,hit,hv,l,he,ae,D,j⟩ U;refine vnext_set hit (λA=>?_) λk x w3 M Z p S ah=>?_
 .refine oZ ?_;refine hK w2 top v xs he ⟨λk M=>l.le k (A k M),λk=>?_,l.ne,l.nd⟩ hv λx z=>(j x z).1;rw[l.mem];obtain⟨_,_,_,_,_,_,_,_,s,_⟩:=hit;exact⟨λ⟨a,b⟩=>⟨s k a,b⟩,λ⟨a,b⟩=>⟨A k a,b⟩⟩
 have o:Ext w w3:=he.then S λy d=>by subst d;omega
 have a4:=hv.same S λy d=>(j y d).2;refine oZ ?_;refine Wb p λx'=>?_;refine oZ ?_;obtain⟨X,Y⟩:=N k M;refine level_spec (h.ext o) X Y λw4 n=>?_;have T:=a4.ext n;have m:=p.ext n;have Q:lvl ds (placeOf put k.natAbs-1)=lvM put ds k:=rfl;have O:lvM put ds k<=700:=by have:=lvl_le ds (placeOf put k.natAbs-1);rw[Q] at this;omega
 rw[Q];refine oZ ?_;have G:i<ks.length:=by have:=p.len;simp at this;omega
 have B:∀y,y∈xs->y∈dn:=λy d=>((l.mem y).1 d).1;have ag:xs.length<=i:=by have:=List.Nodup.length_le_of_subset l.nd B;omega
 have a9:=o.size;have aa:=n.size;have R:=m.lt;have a1:k∉xs:=λh=>Z (B k h);have memd:∀y,y∈dn++[k]↔y∈dn\/y=k:=λy=>by simp
 refine zb (λa=>?_) (λa=>?_)
 .refine zC xu yW xK rfl rfl λb1 w5 V f a7 E=>?_;refine U G _ _ ⟨dn++[k],lvM put ds k,_,[k],by simp[F],rfl,m.ext f,Blk.own1 (t:=zh) (cs:=[nI k]) (by rw[qQ];exact E) (gF _) rfl rfl oM,⟨λy d=>?_,λy=>?_,.inr (by simp),by simp⟩,o.trans (n.trans f),oM,O,?_⟩
  .rcases(memd y).1 d with d|rfl
   .have:=l.le y d;omega
   .exact gp _
  .rw[memd,gw];constructor
   .rintro rfl;exact⟨.inr rfl,rfl⟩
   .rintro⟨d|rfl,e⟩
    .have:=l.le y d;omega
    .rfl
  .intro x z;have e:b1=x:=K3 z;omega
 .refine zb (λa2=>?_) (λa2=>?_)
  .refine zC xu yW xK rfl rfl λb1 w5 V f a7 E=>?_;have a5:=T.ext f;refine a5.app1 xH E oM oM λv' w6 a6 H a3=>?_;have ab:=f.size;have ac:=H.size;have I:∀x,v'.ownBlock=some x->w.heap.size<=x/\x≠r:=λx z=>by
    rcases a3 x z with e|e
    .exact j x e
    .have:=he.size;constructor<;>omega
   have L:=(m.ext f).same H (λe=>by have:=(j b e).1;have:=hm.lt;omega) λe=>(j r e).2 rfl;have hE:Ext w w6:=Ext.then (o.trans (n.trans f)) H λx z=>(j x z).1;refine U G _ _ ⟨dn++[k],top,v',xs++[k],by simp[F],rfl,L,a6,⟨λy d=>?_,λy=>?_,.inr (by simp),?_⟩,hE,oM,D,I⟩
   .rcases(memd y).1 d with d|rfl
    .exact l.le y d
    .omega
   .rw[memd,gk,gw,l.mem];constructor
    .rintro(⟨q,s⟩|rfl)
     .exact⟨.inl q,s⟩
     .exact⟨.inr rfl,oM⟩
    .rintro⟨q|q,s⟩
     .exact .inl ⟨q,s⟩
     .exact .inr q
   .rw[Gq];exact⟨l.nd,by simp,λa ha c hc e=>by simp at hc;subst hc;subst e;exact a1 ha⟩
  .refine U G _ _ ⟨dn++[k],top,v,xs,by simp[F],rfl,m,T,⟨λy d=>?_,λy=>?_,l.ne,l.nd⟩,o.trans n,R,D,j⟩
   .rcases(memd y).1 d with d|rfl
    .exact l.le y d
    .omega
   .rw[memd,l.mem];constructor
    .rintro⟨q,s⟩;exact⟨.inl q,s⟩
    .rintro⟨q|rfl,s⟩
     .exact⟨q,s⟩
     .omega
end
section
variable {w:World} {K:oK} {F:oA}
def ZR0 (a b:Int):Int:=if a<b then-1 else if b<a then 1 else 0
theorem cmpI_pos {a b:Int}:0<ZR0 a b↔b<a:=by unfold ZR0;split<;>(try split)<;>omega
theorem yi0 {a:Int} (b:K (.bool false) w):vcall Kj #[nI a] w K:=by
 refine ze {} Tryz.func360 ?_;simp only[push_cast,PY,not_true_eq_false,decide_false];exact b
theorem KQ {a b:Int} (c:K (nI (ZR0 a b)) w):vcall Qq #[nI a,nI b] w K:=by
 refine ze {} Tryz.func346 ?_;refine yi0 (yi0 ?_);simp only[push_cast];unfold ZR0 at c;refine zb (λh=>?_) (λh=>zb (λd=>?_) (λd=>?_))
 .rwa[y3 h] at c
 .rwa[y0 h,y3 d] at c
 .rwa[y0 h,y0 d] at c
def FnI (w0:World) (f:Value) (args:Array Value) (b:Int):Prop:=
 ∀(w':World) (K:oK),Ext w0 w'->(∀w'',Ext w' w''->K (nI b) w'')->vcallv f args w' K
theorem MaxFunc_Lint {v f:Value} {xs:oI} {g:Int->Int} (p:Ints F w v xs) (t:xs≠[]) (B:∀a b,a∈xs->b∈xs->FnI w f #[nI a,nI b] (ZR0 (g a) (g b)))
  (A:∀w' m,Ext w w'->m∈xs->(∀x,x∈xs->g x<=g m)->K (nI m) w'):vcall kQ #[v,f] w K:=by
 refine ze {loops:=[(5,[5,6])],cuts:=[(8195,[])]} Tryz.func344 ?_;have o:0<xs.length:=GB.2 t;have hlen:xs.length<=9223372036854775807:=by obtain⟨_,_,_,z,E,_⟩:=p.shape;simp at z;omega
 refine zo (λu w'=>Ext w w'/\w'=w) ?_ ?_
 .intro C r;simp(disch:=exact oS) only[push_cast,p.len];exact zb (λa=>oM) (λa=>r _ _ ⟨Same.refl _ _,rfl⟩)
 rintro _ _ _ ⟨-,rfl⟩;simp(disch:=exact oS) only[p.iaddr,Int.toNat_zero,p.load];refine vloop_up (xs.length-1) (λi u w'=> ∃m,u=[nI m,nI (i+1:Nat)]/\Ext w' w'/\Ext _ w'/\m∈xs/\∀j,j<=i->g (xs.getD j 0)<=g m) ⟨xs.getD 0 0,rfl,Same.refl _ _,Same.refl _ _,getD_meS o,λj n=>by
  have:j=0:=oM;subst this;exact Pq _⟩ ?_
 rintro i _ _ w1 C hi ⟨m,rfl,-,he,hm,c⟩ r;have d:=p.ext he;simp(disch:=exact oS) only[sl0,sl1,d.len,kY0];refine zb (λa=>?_) (λa=>?_)
 .simp(disch:=exact oS) only[d.iaddr,gl,d.load];have n:xs.getD (i+1) 0∈xs:=getD_meS oM;refine B _ _ n hm w1 _ he λw2 l=>?_;have q:=d.ext l;have k:IntKind.i64.wrap (((i+1:Nat):Int)+1)=((i+1+1:Nat):Int):=by rw[zk oM oM];omega
  simp only[xk0];refine zb (λb=>?_) (λb=>?_)
  .simp(disch:=exact oS) only[q.iaddr,gl,q.load,Xr,k];refine r oM _ _ ⟨_,rfl,Same.refl _ _,he.trans l,n,λj s=>?_⟩;have D:g m<g (xs.getD (i+1) 0):=cmpI_pos.1 b;by_cases e:j=i+1
   .subst e;exact Pq _
   .have:=c j oM;omega
  .simp only[Xr,k];refine r oM _ _ ⟨_,rfl,Same.refl _ _,he.trans l,hm,λj s=>?_⟩;have hle:g (xs.getD (i+1) 0)<=g m:=Int.not_lt.1 λh=>b (cmpI_pos.2 h);by_cases e:j=i+1
   .subst e;exact hle
   .exact c j oM
 .refine A w1 m he hm λx y=>?_;obtain⟨j,n,rfl⟩:=gn y;have:=c j oM;simpa[y2,n] using this
end
section
variable {w:World} {K:oK} {Fr:oA} {many bs:Nat} {c:Cnf} {s:Sat} {σ:SV} {N:Nat}
theorem learn_2_spec {a b:Int} (d:a.natAbs<=700) (e:b.natAbs<=700) (c:K (nI (ZR0 a.natAbs b.natAbs)) w):vcall yJ #[nI a,nI b] w K:=by
 refine ze {} Tryz.func348 ?_;exact variable_spec oM oM (variable_spec oM oM (KQ c))
def plM (put:oI) (a:Int):Int:=(placeOf put a.natAbs:Int)-1
theorem ya0 {a b:Int} {p:Nat} {t:TypeId} {r:List Value} (h:SR N Fr w bs many c s σ) (o:Blk w p (oP bs 0::r) t) (m:a.natAbs<=many) (n:b.natAbs<=many)
  (l:∀w',Ext w w'->K (nI (ZR0 (plM s.put a) (plM s.put b))) w'):vcall ZM #[nI a,nI b,oP p 0] w K:=by
 refine ze {} Tryz.func345 ?_;refine zd λw1 d _=>?_;have g:=h.ext d;have f:=o.ext d;simp only[push_cast,f.ld0,g.blk.ld2,y1];refine place_spec g.tr m λw2 e=>?_;have k:=g.ext e;have j:=f.ext e;simp only[push_cast,j.ld0,k.blk.ld2,y1,V1];exact place_spec k.tr n λq i=>KQ (l q (d.trans (e.trans i)))
theorem resolve_1_spec {a:Int} {p:Nat} {t:TypeId} {r:List Value} (h:SR N Fr w bs many c s σ) (g:Blk w p (oP bs 0::r) t) (f:a.natAbs<=many) (b:placeOf s.put a.natAbs≠0)
  (e:∀w',Ext w w'->K (.bool (decide (0<lvM s.put (yC s.why) a))) w'):vcall Zd #[nI a,oP p 0] w K:=by
 refine ze {} Tryz.func320 ?_;simp only[push_cast,g.ld0,h.blk.ld2];refine level_spec h.tr f b λw1 d=>?_;have:=e w1 d;simp only[push_cast];rwa[show decide ((0:Int)<(lvl (yC s.why) (placeOf s.put a.natAbs-1):Nat))=decide (0<lvM s.put (yC s.why) a) from decide_eq_decide.2 (by unfold lvM;omega)]
end
section
variable {w:World} {K:oK}
abbrev Xg0:={x:Int//x.natAbs<=700}
instance:Inhabited Xg0:=⟨⟨0,dC⟩⟩
def km0 (x:Xg0):Value:= nI x.1
def X70 (x y:Xg0):Int:=ZR0 x.1.natAbs y.1.natAbs
theorem litC_lt (x y:Xg0):ltOf X70 x y=decide (x.1.natAbs<y.1.natAbs):=by
 unfold ltOf X70 ZR0;refine decide_eq_decide.2 ?_;split<;>(try split)<;>omega
theorem litC_swo:Go.Sort.SWO (ltOf X70) where
 irrefl x:=by rw[litC_lt];simp
 trans x y z a b:=by rw[litC_lt] at*;simp at*;omega
 ntrans x y z a b:=by rw[litC_lt] at*;simp at*;omega
theorem Vw (args:Array Value) (w:World):(callFunc yJ args).run P w= .ok (.enter yJ args) w:=callFunc_run rK
theorem Ur (blk off size:Nat) (w:World):CmpReads P yJ #[] km0 X70 blk off size w:=by
 intro m os dk _ x y;have h:=learn_2_spec (K:=λv w'=>v= nI (X70 x y)/\∃q,w'=(sortWorld km0 w blk off m dk os).drewN q) (w:=sortWorld km0 w blk off m dk os) x.2 y.2 ⟨rfl,0,rfl⟩;refine Calls.mono h.2 λe w' he=>?_;cases e with
 |returned v=>exact⟨by rw[he.1],he.2⟩
 |panicked c=>exact he.elim
 |outgrown=>exact he.elim
theorem SortFunc_learn {v : Value} {xs : oI} (hv : OwnI zh w v xs) (hne : xs ≠ []) (hb : ∀ x, x ∈ xs -> x.natAbs <= 700) (hnd : (xs.map Int.natAbs).Nodup)
    (hK : ∀ w' ys, OwnI zh w' v ys -> Srt ys -> (∀ k, k ∈ ys ↔ k ∈ xs) -> Same (λb => v.ownBlock = some b) w w' -> K (.tuple #[]) w') :
    vcall kp #[v, .func (.func yJ) #[] #[]] w K := by
  refine ⟨by kernel_rfl, ?_⟩
  have hsm := hv.small
  have hlen : xs.length <= 1401 := few_ints (by
    unfold List.Nodup at hnd ⊢
    rw [G3] at hnd
    exact hnd.imp λh e => h (by rw [e])) hb
  have hrow := Own.row hv
  rcases hrow.2 with ⟨rfl, hn⟩ | ⟨g, cap, cur, rfl, hbg, hg, hnc, hcm, hcs, htake⟩
  · simp at hn; exact absurd hn hne
  let L : List Xg0 := xs.attach.map λx => ⟨x.1, hb x.1 x.2⟩
  have hL : L.map (·.1) = xs := by
    simp [L]
  let d : Array Xg0 := L.toArray
  have hds : d.size = xs.length := by simp [d, L]
  have hdj : ∀ j, j < xs.length -> km0 d[j]! = .int .i64 (xs.getD j 0) := λj hj => by
    have h1 : (L.map (·.1)).getD j 0 = xs.getD j 0 := by rw [hL]
    simp only [km0]
    rw [<- h1, getElem!_pos d j (by omega)]
    have : j < L.length := by simp [L]; exact hj
    simp [d, y2, this]
  have hH : Go.Sort.Holds km0 w g 0 d := by
    intro j hj
    rw [hds] at hj
    have hi' : j < ((xs.map λx => Value.int .i64 x).map λx => [x]).length * 1 := by simpa using hj
    have hc := World.ownsRow.cellAt hrow j hi'
    have hf := World.ownsRow.frozenAt hrow j
    rw [gX]
    refine ⟨?_, hf⟩
    rw [hc, flat1, hdj j hj]
    simp [y2, hj]
  have hcon := Any.slices_SortFunc YtfnpmncplaibiaaGreatDoor.sortL km0 (λ_ => rfl) X70 litC_swo yJ #[] g 0 cap d w Vw (Ur g 0 d.size w).lays hH (gA.1 hg).1 (by omega)
  have hsz : ((xs.map λx => Value.int .i64 x).map λx => [x]).length = d.size := by simp [hds]
  rw [hsz]
  refine Calls.mono hcon ?_
  rintro e w' ⟨rfl, d', n, os, hp, hs, rfl⟩
  show K _ _
  obtain ⟨hp1, hp2, hp3⟩ := hp
  have hex : d'.toList.Perm L := by
    have e1 : d'.extract 0 d.size = d' := by rw [<- hp1]; simp
    have e2 : d.extract 0 d.size = d := by simp
    rw [e1, e2] at hp3
    exact hp3
  have hmap : (d'.toList.map (·.1)).Perm xs := by rw [<- hL]; exact hex.map _
  have hgl := (gA.1 hg).1
  have hcells : (sortWorld km0 w g 0 n d' os).heap[g]? = some (.cells (Go.Sort.putCells km0 0 d' cur) (Zx zh) (0, 0)) := by
    unfold sortWorld Go.Sort.grow Go.Sort.putRow Go.Sort.mapBlock Go.Sort.ahead
    simp only
    rw [PE (by simpa using hgl)]
    simp [GQ, hg, Go.Sort.onCells]
  have hlen' : d'.toList.length = xs.length := by simpa [L] using hex.length_eq
  refine hK _ (d'.toList.map (·.1)) ⟨⟨by rw [flat1]; simp only [y4, p4], .inr ⟨g, cap, _, by simp only [y4, hds, hlen'], hbg, hcells, ?_, hcm, ?_, ?_⟩⟩, λy hy => by obtain ⟨u, _, rfl⟩ := gr.1 hy; rfl⟩ ?_ (λk => hmap.mem_iff) ?_
  · simp only [y4] at hnc ⊢; simp at hlen' ⊢; omega
  · simpa [Go.Sort.putCells] using hcs
  · rw [flat1]
    simp only [y4, p4, hlen']
    refine List.ext_getElem? λi => ?_
    rw [List.getElem?_take]
    split
    · rename_i hi
      have hic : i < cur.size := by simp at hnc; omega
      have hid : i < d'.size := by omega
      simp [Go.Sort.putCells, Array.getElem?_mapIdx, hic, hid, km0]
    · rename_i hi
      symm
      rw [Pe]
      simp at hlen' ⊢; omega
  · unfold Srt
    rw [G3, Gu]
    intro i j hi hj hij
    have h1 := hs i j (gF _) hij (by simp at hj; omega)
    rw [litC_lt] at h1
    simp only [decide_eq_false_iff_not, Nat.not_lt] at h1
    simp only [po] at hi hj
    rw [getElem!_pos d' i hi, getElem!_pos d' j hj] at h1
    simp only [Array.getElem_toList]
    refine Nat.lt_of_le_of_ne h1 λe => ?_
    have hnd2 : ((d'.toList.map (·.1)).map Int.natAbs).Nodup := (hmap.map _).nodup_iff.2 hnd
    unfold List.Nodup at hnd2
    rw [G7, G3, Gu] at hnd2
    have := hnd2 i j (by simpa using hi) (by simpa using hj) hij
    simp at this
    exact this e
  · refine ⟨rfl, rfl, rfl, by simp [sortWorld, Go.Sort.grow, Go.Sort.putRow, Go.Sort.mapBlock, Go.Sort.ahead], λb hb' hne' => ?_⟩
    have hbg' : g ≠ b := λe => hne' (by rw [e]; rfl)
    unfold sortWorld Go.Sort.grow Go.Sort.putRow Go.Sort.mapBlock Go.Sort.ahead
    simp only
    rw [PE (by simpa using hb'), GQ, y0 hbg']
end
section
variable {w:World} {F:oA} {c:Cnf} {s:Sat}
def SatR (F:oA) (w:World) (v:Value) (s:Sat):Prop:=
 ∃vp vw vl,v= .agg #[vp,vw,vl,nI s.code]/\Ints F w vp s.put/\Ints F w vw s.why/\Lists F w vl s.learned
theorem SatR.ext {v:Value} {w':World} (h:SatR F w v s) (hw:Ext w w'):SatR F w' v s:=by
 obtain⟨vp,vw,vl,d,a,b,c⟩:=h;exact⟨vp,vw,vl,d,a.ext hw,b.ext hw,c.ext hw⟩
end
section
variable {w:World} {K:oK} {F Fr:oA} {many bs:Nat} {c:Cnf} {s:Sat} {σ:SV} {N:Nat}
theorem satOk.many' (h:satOk many c s) (a:c.many=many):many<=700/\c.list.length<=2500:=by
 have:=h.cnf;unfold cnfOk at this;simp only[gd,X0] at this;omega
theorem learn_spec {v:Value} {k:Nat} (h:SR N Fr w bs many c s σ) (D:satOk many c s) (a0:c.many=many) (hk:k<c.list.length+s.learned.length) (o:Ints F w v (atM c s k)) (hc:kJ s.put (atM c s k)) (d5:Z4 s.put (yC s.why) (atM c s k)≠0) (c4:∀b,Fr b->b<w.heap.size)
  (hK:∀w' v',Ext w w'->OwnI zh w' v' (learnM many c s s.put.length (atM c s k))->(∀x,v'.ownBlock=some x->w.heap.size<=x)->K (.tuple #[v',nI (Y6 s.put (yC s.why) (learnM many c s s.put.length (atM c s k)))]) w'):
  vcall YY #[oP bs 0,v] w K:=by
 refine ze {loops:=[(3,[20]),(8,[10]),(12,[59]),(21,[14,15])],cuts:=[(102425,[98])]} Tryz.func322 ?_;obtain⟨cm,db⟩:=satOk.many' D a0;have d1:=D.few;have au:=D.mks;obtain⟨z1,z2,z3,z4⟩:=Uq D a0 hk hc;have b2:=XW hc;have c9:=clauseOk_srt (D.atOk hk);generalize atM c s k=cl at*;refine yp λp w1 hp ce dm c6=>?_;refine kR0 λbm w2 da bg ac=>?_;have dp:=ac.size;have hlen:cl.length<=9223372036854775807:=by obtain⟨_,_,_,h1,h2,_⟩:=o.shape;simp at h1;omega
 simp(disch:=exact oS) only[push_cast,o.len];have c7:Blk w2 p [oP bs 0] yP:=c6.ext ac;have keep:∀{w3 w4:World} {S:oA},(Ext w w3/\Blk w3 p [oP bs 0] yP)->Same S w3 w4->(∀x,S x->w1.heap.size<=x)->(Ext w w4/\Blk w4 p [oP bs 0] yP):=by
  rintro w3 w4 S ⟨a,b⟩ hs hS;exact⟨a.then hs λx o=>by have:=hS x o;omega,b.same hs λe=>by have:=hS p e;omega⟩
 refine vloop_up cl.length (λi u w'=> ∃ks,u=[nI i]/\(Ext w w'/\Blk w' p [oP bs 0] yP)/\ISet w' bm ks/\∀x,x∈ks↔x∈cl.take i) ⟨[],rfl,⟨ce.trans ac,c7⟩,bg,by simp⟩ ?_;rintro i _ _ w3 C hi ⟨ks,rfl,M,B,z⟩ hC;refine oZ ?_;refine zb (λa=>?_) (λa=>?_)
 .have bw:=o.ext M.1;simp(disch:=exact oS) only[push_cast,bw.iaddr,bw.load];refine zl0 xB B λw4 ci cs dr=>?_;simp(disch:=omega) only[push_cast,zk];refine hC oM _ _ ⟨_,by simp,keep M cs (λx o=>oM),ci,λx=>?_⟩;rw[JA (d:=0) oM,gk,gw,<-z];split
  .rename_i ap;exact⟨.inl,λe=>e.elim id λe=>e▸ap⟩
  .rw[gk,gw]
 clear hC;rw[gC oM] at z;clear bg hi a;have bounds:∀{j:oI},Fls s.put j->∀x,x∈j->x≠0/\x.natAbs<=many/\placeOf s.put x.natAbs≠0:=λhF x o=>by
  have h1:=au.2 _ (hF x o);have h2:=placeOf_ne_zero (hF x o);rw[G1] at h2;exact⟨oM,oM,h2⟩
 have Z:=h.ext M.1;simp only[push_cast,M.2.ld0,Z.blk.ld2];refine greatest_spec Z.tr B (λx o=>(bounds b2 x ((z x).1 o)).2) λw4 top v4 xs A bq bu bl=>?_;refine oZ ?_;have al:TopOf s.put (yC s.why) cl top xs:=Jy z bq;refine jJ (λn u w'=> ∃ks j f top v xs,n=lastPl s.put j/\u=[v]/\(Ext w w'/\Blk w' p [oP bs 0] yP)/\ISet w' bm ks/\(∀x,x∈ks↔x∈j)/\
   Fls s.put j/\Srt j/\TopOf s.put (yC s.why) j top xs/\OwnI zh w' v xs/\(∀x,v.ownBlock=some x->w.heap.size<=x/\x≠bm/\x≠p)/\lastPl s.put j<=f/\learnM many c s f j=learnM many c s s.put.length cl) _
  ⟨ks,cl,s.put.length,top,v4,xs,rfl,rfl,keep M (S:=λ_=>False) A (λ_ h=>h.elim),B.ext A,z,b2,c9,al,bu,λx o=>?_,lastPl_le,rfl⟩ ?_
 .have:=bl x o;have:=B.lt;have:=M.2.lt;have:=M.1.size;exact⟨oM,oM,oM⟩
 clear B z bq al bu bl A Z ks top v4 xs M;clear w3 w4;rintro _ _ _ w3 C ⟨ks,j,f,top,v3,xs,rfl,rfl,M,B,z,hF,hS,ht,a7,bk,df,ar⟩ hC;have Z:=h.ext M.1;have bx:=a7.ints;have Q:=bounds hF;have t:∀x,x∈xs->x∈j:=λx o=>((ht.mem x).1 o).1;have cy:xs.length<=1401:=few_ints ht.nd λx o=>by have:=Q x (t x o);omega
 have bt:=topOf_tops (put:=s.put) (ds:=yC s.why) (srt_nodup hS);have dl:xs.length=(Jx s.put (yC s.why) j).length:=qU0 ht bt;have ay:top=Z4 s.put (yC s.why) j:=topOf_top ht bt;simp only[push_cast,bx.len];refine zb (λa=>?_) (λa=>?_)
 ·
  have h2:2<=xs.length:=oM;have hf:f≠0:=λe=>by
   subst e;have:xs≠[]:=λe=>by subst e;simp at h2
   obtain⟨q,hq⟩:=ph _ this;exact lastPl_pos hF (λe=>by have:=t q hq;rw[e] at this;cases this) oM
  obtain⟨f,rfl⟩:∃f',f=f'+1:=⟨f-1,oM⟩;rw[learnM,y0 oM] at ar;obtain⟨k1,k2,k3,k4⟩:=learnS_ok D a0 hF hS oM;refine MaxFunc_Lint (g:=plM s.put) bx (λe=>by rw[e] at h2;simp at h2) (λa b ha hb w' K' bb c5=>?_) λw4 m A hm a4=>?_
  .exact ya0 (Z.ext bb) (M.2.ext bb) (Q a (t a ha)).2.1 (Q b (t b hb)).2.1 c5
  have bi:=Q m (t m hm);have cq:placeOf s.put m.natAbs=lastPl s.put j:=lastPl_top ht hm λx o=>by have:=a4 x o;unfold plM at this;omega
  refine yD0 xB (B.ext A) λw5 cj bo dt=>?_;have c3:=keep M (S:=λ_=>False) A (λ_ h=>h.elim);have W:=keep c3 bo (λx o=>oM);refine zd λw6 an _=>?_;have X:=keep W (S:=λ_=>False) an (λ_ h=>h.elim);have aa:=h.ext X.1;have dk:=aa.rw.ints;simp only[push_cast,X.2.ld0,aa.blk.ld2,aa.blk.ld3,y1];refine place_spec aa.tr bi.2.1 λw7 H=>?_;have Y:=keep X (S:=λ_=>False) H (λ_ h=>h.elim);have ab:=h.ext Y.1;have am:=ab.rw.ints;obtain⟨q,hq⟩:∃q,lastPl s.put j=q+1:=⟨lastPl s.put j-1,oM⟩;have cr:(placeOf s.put m.natAbs:Int)-1=(q:Int):=oM;have dh:=D.len;have d2:=placeOf_le s.put m.natAbs;obtain⟨r1,r2,r3,r4,r5,-⟩:=last_reason D hF ht h2 hq;have bn:s.put.getD q 0= -m:=by
   refine distinct_eq au.1 (getD_meS r1) (hF m (t m hm)) ?_;have:=(placeOf_pos bi.2.2).2;rw[cq,hq,GN] at this;rw[this,G1]
  rw[cr];simp(disch:=exact oS) only[push_cast,Y.2.ld0,ab.blk.ld2,ab.blk.ld3,y1,V1,am.iaddr,am.load];obtain⟨y,hy⟩:∃y:Nat,s.why.getD q 0=y:=⟨(s.why.getD q 0).toNat,oM⟩;have az:s.why.getD q 0=(y:Int):=hy;rw[az];refine clause_spec ab oM oM λv8 w8 ao a8=>?_;have V:=keep Y (S:=λ_=>False) ao (λ_ h=>h.elim);have d3:=clauseOk_len (m:=many) (by have:=D.atOk (k:=y) oM;rwa[a0] at this);simp(disch:=exact oS) only[push_cast,a8.len,y1];have ck:ISet w8 bm (ks.erase m):=((cj.ext an).ext H).ext ao;have co:ks.Nodup:=B.nodup;have d6:OwnI zh w8 v3 xs:=((((a7.ext A).same bo λx o=>(bk x o).2.1).ext an).ext H).ext ao;have hj:jH many c s j=Qv many j (atM c s y) (s.put.getD q 0).natAbs:=by
   unfold jH;rw[hq,GN,az,gl]
  have cg:∀l,l∈jH many c s j↔(l∈j/\l≠m)\/(l∈atM c s y/\l≠ -m):=λl=>by
   have:=(learn_join D a0 hF ht h2 hq).1 l;rw[az,gl,<-hj,bn,Int.neg_neg] at this;exact this
  refine vloop_up (atM c s y).length (λi u w'=> ∃bz,u=[nI i]/\(Ext w w'/\Blk w' p [oP bs 0] yP)/\Ints Fr w' v8 (atM c s y)/\ISet w' bm bz/\(∀x,x∈bz↔(x∈j/\x≠m)\/(x∈(atM c s y).take i/\x≠ -m)))
   ⟨ks.erase m,rfl,V,a8,ck,λx=>by rw[co.mem_erase_iff,z];simp[and_comm]⟩ ?_
  rintro i _ _ w9 C9 hi ⟨c0,rfl,O,ae,a3,E⟩ b1;refine oZ ?_;refine zb (λa9=>?_) (λa9=>?_)
  .simp(disch:=exact oS) only[push_cast,ae.iaddr,ae.load];have br:=JA (d:=0) (xs:=atM c s y) (show i<(atM c s y).length by omega);have d8:∀x,Fr x->x<w.heap.size->¬(x=bm):=λx _ o e=>oM;have G:IntKind.i64.wrap (0-m)= -m:=by rw[zk oM oM];omega
   have T:IntKind.i64.wrap ((i:Int)+1)=((i+1:Nat):Int):=by rw[zk oM oM];omega
   simp only[G,T];refine zb (λb9=>?_) (λb9=>?_)
   .refine zl0 xB a3 λw10 bf ak d7=>?_;simp(disch:=omega) only[push_cast,zk];have a6:Ints Fr w10 v8 (atM c s y):=ae.same ak λx o _ e=>by have:=c4 x o;omega
    refine b1 oM _ _ ⟨_,rfl,keep O ak (λx o=>oM),a6,bf,λx=>?_⟩;rw[br,gk,gw];split
    .rename_i ap;rw[E];constructor
     .rintro(e|⟨G,T⟩)
      .exact .inl e
      .exact .inr ⟨.inl G,T⟩
     .rintro(e|⟨G|G,T⟩)
      .exact .inl e
      .exact .inr ⟨G,T⟩
      .rw[G];exact(E _).1 ap
    .rw[gk,gw,E];constructor
     .rintro((e|⟨G,T⟩)|e)
      .exact .inl e
      .exact .inr ⟨.inl G,T⟩
      .exact .inr ⟨.inr e,by rw[e];exact b9⟩
     .rintro(e|⟨G|G,T⟩)
      .exact .inl (.inl e)
      .exact .inl (.inr ⟨G,T⟩)
      .exact .inr G
   .refine b1 oM _ _ ⟨_,rfl,O,ae,a3,λx=>?_⟩;rw[br,gk,gw,E];constructor
    .rintro(e|⟨G,T⟩)
     .exact .inl e
     .exact .inr ⟨.inl G,T⟩
    .rintro(e|⟨G|G,T⟩)
     .exact .inl e
     .exact .inr ⟨G,T⟩
     .exact absurd (by rw[<-G];exact T) b9
  .rw[gC oM] at E;have R:∀x,x∈c0↔x∈jH many c s j:=λx=>(by rw[E,cg]);have b4:=h.ext O.1;have cb:=bounds k1;simp only[push_cast,O.2.ld0,b4.blk.ld2];refine greatest_spec b4.tr a3 (λx o=>(cb x ((R x).1 o)).2) λw10 c1 v10 d0 ag bp a6 bj=>?_;refine oZ ?_;have dw:=O.1.size;have:=a3.lt;have:=O.2.lt;refine hC (lastPl s.put (jH many c s j)) _ _ k3 ⟨c0,jH many c s j,f,c1,v10,d0,rfl,rfl,keep O (S:=λ_=>False) ag (λ_ h=>h.elim),a3.ext ag,R,k1,k2,Jy R bp,a6,λx o=>?_,oM,ar⟩;have:=bj x o;exact⟨oM,oM,oM⟩
 ·
  have bc:learnM many c s s.put.length cl=j:=by
   rw[<-ar];cases f with
   |zero=>rfl
   |succ f=>rw[learnM,y3 oM]
  rw[bc] at hK z1 z2 z3 z4;rw[z3] at ay;have cx:xs.length=1:=by
   have:=ht.ne;rcases this with e|e
   .omega
   .have:=GB.2 e;omega
  obtain⟨t0,rfl⟩:=PS.1 cx;have af:∀x,x∈j->(x≠t0↔lvM s.put (yC s.why) x<Z4 s.put (yC s.why) j):=λx o=>by
   have h1:=ht.mem x;have h2:=ht.le x o;rw[gw] at h1;rw[z3];constructor
   .intro cp;have: ¬lvM s.put (yC s.why) x=top:=λe=>cp (h1.2 ⟨o,e⟩);omega
   .intro dg e;have:=(h1.1 e).2;omega
  refine Wa xB B λr w4 hr cf A=>?_;have de:=few_ints B.nodup λx o=>by have:=Q x ((z x).1 o);omega
  have dq:=M.1.size;have di:=B.lt;have dj:=M.2.lt;refine vloop_up ks.length (λi u w'=> ∃dn v,dn.length=i/\u=[nI (maxL ((dn.filter λk=>decide (lvM s.put (yC s.why) k<Z4 s.put (yC s.why) j)).map (lvM s.put (yC s.why))):Nat),v]/\(Ext w w'/\Blk w' p [oP bs 0] yP)/\IterR w' r bm ks dn/\OwnI zh w' v dn/\OwnI zh w' v3 [t0]/\(∀x,v.ownBlock=some x->w3.heap.size<x))
   ⟨[],oN,rfl,rfl,keep M (S:=λ_=>False) A (λ_ h=>h.elim),cf,OwnI.nil,a7.ext A,λx o=>by cases o⟩ ?_
  rintro i _ _ w5 C5 hi ⟨dn,v5,b8,rfl,W,I,bv,ct,L⟩ b0;refine vnext_set I (λb5=>?_) λU x' w6 ch dd a2 a5 du=>?_
  ·
   refine oZ ?_;have a1:∀x,x∈dn↔x∈j:=λx=>⟨λh=>(z x).1 (I.sub h),λh=>b5 x ((z x).2 h)⟩;have ba:dn≠[]:=λe=>by
    have:=(ht.mem t0).1 (by simp);have:=(a1 t0).2 this.1;rw[e] at this;cases this
   have cd:(dn.map Int.natAbs).Nodup:=by
    have h1:=I.nd;unfold List.Nodup at h1⊢;rw[G3];refine Pc.2 λ{a c} hs=>?_;have ca:a≠c:=by
     have:=h1.sublist hs;simpa using this
    have ha:=(a1 a).1 (hs.subset (by simp));have cc:=(a1 c).1 (hs.subset (by simp));intro e;exact ca (by have:=distinct_eq au.1 (hF a ha) (hF c cc) oM;omega)
   refine SortFunc_learn bv ba (λx o=>by have:=Q x ((a1 x).1 o);omega) cd λw6 zs cv c8 bh a5=>?_;have cz:zs=j:=srt_ext c8 hS λx=>(by rw[bh,a1]);subst cz;have a4:maxL ((dn.filter λk=>decide (lvM s.put (yC s.why) k<Z4 s.put (yC s.why) zs)).map (lvM s.put (yC s.why)))=Y6 s.put (yC s.why) zs:=by
    unfold Y6;exact q30 λx=>by simp only[gr,PT,bh]
   simp only[push_cast,a4];exact hK w6 v5 (W.1.then a5 λx o=>by have:=L x o;omega) cv λx o=>by have:=L x o;omega
  .refine oZ ?_;refine Wb a2 λdx=>?_;refine oZ ?_;refine zC xu yW xK rfl rfl λb7 w7 d9 H dv c2=>?_;have dc:=I.lt;have X:=keep W a5 (λx o=>by have:=ac.size;have:=M.1.size;omega);have Y:=keep X (S:=λ_=>False) H (λ_ h=>h.elim);have d4:=W.1.size;have cw:=(bv.same a5 λx o e=>by have:=L x o;omega).ext H;have cu:=(ct.same a5 λx o e=>by have:=bk x o;have:=a7.lt o;omega).ext H;have bd:=a2.ext H;have b6:i<ks.length:=by have:=a2.len;simp at this;omega
   refine cw.app1 xH c2 oM oM λv8 w8 a8 av cn=>?_;have aj:∀x,v8.ownBlock=some x->w3.heap.size<x:=λx o=>by
    rcases cn x o with e|e
    .exact L x e
    .have:=A.size;have:=I.lt;omega
   have V:=keep Y av (λx o=>by have:=L x o;omega);have aw:=cu.same av λx o e=>by have:=L x e;have:=a7.lt o;omega
   have ai:=bd.same av (λe=>by have:=L _ e;omega) (λe=>by have:=L _ e;omega);have ax:=aw.ints;have aq:U∈j:=(z U).1 ch;have be:=Q U aq;refine zo (λu w'=>u=[.bool (decide (U≠t0))]/\w'=w8) ?_ ?_
   .intro J hJ;simp(disch:=exact oS) only[push_cast,ax.len,ax.iaddr,ax.load];exact hJ _ _ ⟨rfl,rfl⟩
   rintro _ _ _ ⟨rfl,rfl⟩;refine oZ ?_;have ah:(dn++[U]).filter (λk=>decide (lvM s.put (yC s.why) k<Z4 s.put (yC s.why) j))=dn.filter (λk=>decide (lvM s.put (yC s.why) k<Z4 s.put (yC s.why) j))++(if lvM s.put (yC s.why) U<Z4 s.put (yC s.why) j then[U] else[]):=by
    rw[PD];simp[PM]
   refine zb (λb=>?_) (λb=>?_)
   .have b3:=h.ext V.1;simp only[push_cast,V.2.ld0,b3.blk.ld2];refine level_spec b3.tr be.2.1 be.2.2 λw9 ad=>?_;refine oZ ?_;refine b0 b6 _ _ ⟨dn++[U],v8,by simp[b8],?_,keep V (S:=λ_=>False) ad (λ_ h=>h.elim),ai.ext ad,a8.ext ad,aw.ext ad,aj⟩;rw[ah,y3 ((af U aq).1 b),gz,maxL_snoc _ ([U].map (lvM s.put (yC s.why))) (lvM s.put (yC s.why) U) rfl];simp only[gP,Value.int.injEq,y1,gQ];show(max _ ((lvM s.put (yC s.why) U:Nat):Int))=_;omega
   .refine b0 b6 _ _ ⟨dn++[U],v8,by simp[b8],?_,V,ai,a8,aw,aj⟩;rw[ah,y0 λe=>b ((af U aq).2 e),gE]
end
section
variable {w:World} {Fr:oA} {many:Nat}
theorem TrailR.reframe {a:oA} {bt:Nat} {put:oI} {ds:List Bool} {vp vpl vl:Value} (h:TrailR Fr w bt many put ds vp vpl vl) (b:∀x,kU bt vp vpl vl x->¬a x):TrailR a w bt many put ds vp vpl vl:=by
 obtain⟨hs,_⟩:=sep4.1 h.sep;exact⟨h.blk,h.rp,h.rpl,h.rl,sep4.2 ⟨hs,λx e=>b x (.inl (K3 e).symm),λx e=>b x (.inr (.inl e)),λx e=>b x (.inr (.inr (.inl e))),λx e=>b x (.inr (.inr (.inr e)))⟩,h.len,h.dis,h.bnd,h.few⟩
end
end Go.Proofs.YtfnpmncplaibiaaGreatDoor
end
