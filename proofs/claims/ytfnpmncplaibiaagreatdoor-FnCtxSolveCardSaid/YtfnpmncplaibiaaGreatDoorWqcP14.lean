import Derived.Test.YtfnpmncplaibiaaGreatDoorWqcP13
/- A part of the proof. -/
set_option linter.all false
set_option maxRecDepth 9999
set_option maxHeartbeats 2000000
noncomputable section
namespace Go.Proofs.YtfnpmncplaibiaaGreatDoor
open Go Go.Vc Go.Proofs
section
variable {w w' w1 w2:World} {K:oK} {F D G H S:oA} {n b k p many:Nat} {v lv tv dv nv ev x3 x4 x5 f:Value} {t:M.Tm} {ts:List M.Tm} {ds:List M.Dcl} {c:M.Cnf} {ar ab at_ an am:Addr}
theorem ZU0 {o:Nat} {cs cs':List Value} {t0 t:TypeId} (h:Blk w b cs t0) (e:o+cs'.length<=cs.length) (g:aggB t cs'.length=true) (a:∀v,v∈cs'->v.oneCell'=true)
  (c:∀w',Same (· =b) w w'->w'.heap.size=w.heap.size->Blk w' b (cs.take o++cs'++cs.drop (o+cs'.length)) t0->K undef w'):zP t (oP b o) (.agg ⟨cs'⟩) w K:=by
 have f:=run_storeCells_at (P:=P) b o t0 cs' 0 ⟨cs⟩ w h (by simpa using e) a;refine⟨(),_,?_,c (w.setRow b (cs.take o++cs'++cs.drop (o+cs'.length)).toArray) ⟨rfl,rfl,rfl,by simp,λk _ d=>setRow_other w b k _ d⟩ (by simp) (setRow_heap w b _ _ t0 _ h)⟩;simp only[Instr.storeAt,Instr.sureAddr,Sem.run_bind,Sem.run_pure,Result.andThen_ok,storeVar,ja g,Value.cells];simp only[pb,P7,not_true_eq_false,if_false];exact f
theorem jobFold_spec (r:Blk w b [dv,tv,nv,x3,x4,x5] y7) (hd:DclsR F w dv ds) (N:TmsR F w tv ts) (a6:∀x,F x->x≠b) (hs:ts.length<=2000000) (Z:Sent w yP at_)
  (U:∀t,t∈ts->M.tsort ds t≠0->∀w',Ext w w'->K (erv at_) w')
  (V:(∀t,t∈ts->M.tsort ds t=0)->∀w' L,Same (· =b) w w'->Blk w' b [dv,L,nv,x3,x4,x5] y7->TmsR (λx=>w.heap.size<=x) w' L (ts.map (QN ds))->K .nilIface w'):
  vcall jY #[oP b 0] w K:=by
 refine ze {loops:=[(3,[3,11])]} Tryz.func150 ?_;have lb:=r.lt;simp only[push_cast,r.ld1,N.len];refine vloop_up ts.length (λi u w'=> ∃lv H,u=[lv,nI i]/\Ext w w'/\LstH H w' lv ((ts.take i).map (QN ds))/\(∀x,H x->w.heap.size<=x)/\(∀x,lv.ownBlock=some x->w.heap.size<=x/\¬H x)/\∀j,j<i->M.tsort ds (ts.getD j default)=0)
  ⟨_,λ_=>False,rfl,Same.refl _ _,LstH.nil,λx d=>d.elim,λx d=>(by cases d),λj D=>absurd D oM⟩ ?_
 rintro i _ _ w2 C hi ⟨lv,H,rfl,c,f,hH,hO,n⟩ hC;refine oZ ?_;refine zb (λa=>?_) (λa=>?_)
 .have m:i<ts.length:=oM;have G:=N.ext c;simp(disch:=exact oS) only[push_cast,G.iaddr];refine G.load zc m λx d=>?_;obtain⟨cs,rfl,l⟩:=d.cells;have hg:aggB za cs.length=true:=by rw[zU l];exact zc
  refine zh zn λb3 w3 a7 s a3 o=>?_;refine stTerm o rfl (l.ext s) λw4 a0 a8 R=>?_;refine zd λw5 v _=>?_;have k:Ext w2 w5:=(Ext.then s a0 λy hy=>by subst hy;omega).trans v;have S:=r.ext (c.trans k);have q5:=R.ext v;simp only[push_cast,S.ld0,k6];rw[q5.ldAgg (t:=za) hg];refine⟨rfl,?_⟩;refine TermSort_spec (hd.ext (c.trans k)) (l.ext k).term λw6 z=>?_;have p:=k.trans z;have e6:=c.trans p;simp only[push_cast,k6];refine zb (λO=>?_) (λO=>?_)
  .have I:=Z.same e6 id;rw[y3 xA I.cell];exact U _ (M.getD_mem m _) O _ e6
  .refine zd λw7 A _=>?_;have g:=p.trans A;have T:=r.ext (c.trans g);have q7:=q5.ext (z.trans A);simp only[push_cast,T.ld0,k6];rw[q7.ldAgg (t:=za) hg];refine⟨rfl,?_⟩;refine TermFold_spec (hd.ext (c.trans g)) (l.ext g).term λw8 a5 B Y=>?_;have q:=g.trans B;have a9:=g.size;have z2:=c.size;have z8:=B.size;have llt:∀x,lv.ownBlock=some x->x<w2.heap.size:=λx d=>f.lt d;refine LstH.push (f.ext q) (λx d=>⟨(hO x d).2,λe=>by have:=llt x d;omega⟩) (WF _ Y).term (by rw[K3,gg];omega) λw9 a4 a2 X E=>?_
   try simp only[push_cast]
   rw[inc64' oM];rw[show(ts.take i).map (QN ds)++[QN ds (ts.getD i default)]=(ts.take (i+1)).map (QN ds) by rw[<-Z2 m,gD];rfl] at E;refine hC m _ _ ⟨a4,_,rfl,Ext.then (c.trans q) a2 λx d=>(hO x d).1,E,λx d=>?_,λx d=>?_,λj D=>?_⟩
   .rcases d.1 with h|h
    .exact hH x h
    .have:=h.1;omega
   .rcases X x d with e|e
    .refine⟨(hO x e).1,λh=>?_⟩;have:=llt x e;rcases h.1 with h|h
     .exact(hO x e).2 h
     .have:=h.1;omega
    .exact⟨oM,λh=>by have:=h.2;omega⟩
   .by_cases e:j<i
    .exact n j e
    .have:j=i:=oM;subst this;exact Ph.1 O
 .have W:i=ts.length:=oM;subst W;rw[gB] at f;have Q:=r.ext c;refine Q.st (i:=1) f.tms.cellsV f.tms.one xk rfl λw3 J a3 o=>?_;refine V (λt N=>?_) w3 lv ((Same.of_ext c).trans J) o ?_
  .obtain⟨j,D,rfl⟩:=gr N;have:=n j D;rwa[X0,gk D] at this
  .exact(f.tms.same J λx d _ e=>by
    have:w.heap.size<=x:=d.elim (hH x) λh=>(hO x h).1;omega).weaken λx d _=>d.elim (hH x) λh=>(hO x h).1
theorem jobBlast_spec (z:Blk w b [dv,tv,nv,x3,x4,x5] y7) (I:DclsR F w dv ds) (M:TmsR G w tv ts) (he:Errs (λ_=>False) w ar ab) (D:Sent w yP at_)
  (O:∀w' lv ls,Same (· =b) w w'->Blk w' b [dv,tv,nv,nI (cnfE ds ts).1.many,lv,x5] y7->CnfO w.heap.size w' lv ls (cnfE ds ts).1->K (errV ar at_ (cnfE ds ts).2) w'):vcall jr #[oP b 0] w K:=by
 refine ze {cuts:=[(8194,[3,4])]} Tryz.func151 ?_;have lb:=z.lt;refine zp (λu w'=> ∃b3 lv ls,u=[oP b3 0,errV ar at_ (cnfE ds ts).2]/\Ext w w'/\w.heap.size<=b3/\Blk w' b3 [nI (cnfE ds ts).1.many,lv] zq/\CnfO w.heap.size w' lv ls (cnfE ds ts).1) (λJ H=>?_) ?_
 .refine zd λw1 c _=>?_;have k:=z.ext c;have V:=c.size;have j:=D.same c id;have i:=he.ext0 c;simp only[push_cast,k.ld0,k.ld1,k6,Gg];refine⟨?_,?_⟩
  .refine blastCnf_spec (I.ext c) (M.ext c) i j λw2 lv ls g f=>?_;have z2:=g.size;simp only[push_cast,k6,Gg];refine zh xx λb3 E m a s d=>?_;have C:=f.ext a
   try simp only[push_cast,k6,Gg,gi]
   refine d.stAgg (cs':=[nI (cnfE ds ts).1.many,lv]) rfl zD (two_one rfl C.lst.vals.one) λT q R A=>?_
   try simp only[push_cast,k6,Gg,gi]
   refine H _ _ ⟨b3,lv,ls,rfl,Ext.then ((c.trans g).trans a) q λy Q=>oM,oM,A,(f.same ((Same.of_ext a).trans q) λx N L e=>oM).down oM⟩
  .refine zh xx λb3 E m a s d=>?_;have h:=k.ext a;have v:=c.trans a;have z3:=a.size;simp only[push_cast,h.ld0,h.ld1,k6,gi];refine blastCnf_spec (I.ext v) (M.ext v) (i.ext0 a) (j.same a id) λT lv ls n l=>?_;simp only[push_cast,k6,Gg];refine(d.ext n).stAgg (cs':=[nI (cnfE ds ts).1.many,lv]) rfl zD (two_one rfl l.lst.vals.one) λU r S B=>?_
   try simp only[push_cast,k6,Gg,gi]
   exact H _ _ ⟨b3,lv,ls,rfl,Ext.then (v.trans n) r λy Q=>oM,oM,B,(l.same r λx N L e=>oM).down oM⟩
 .rintro _ _ w2 ⟨b3,lv,ls,rfl,g,m,d,f⟩;refine oZ ?_;rw[d.ldAgg (t:=zq) zD]
  try simp only[push_cast]
  refine ZU0 (o:=3) (z.ext g) (by simp) zD (two_one rfl f.lst.vals.one) λE p s d=>?_;exact O E lv ls ((Same.of_ext g).trans p) d (f.same p λx N L e=>oM)
theorem jobExclude_spec (d:Blk w b [dv,tv,oN,x3,x4,x5] y7) (e:K .nilIface w):vcall qH #[oP b 0] w K:=by
 refine ze {loops:=[(2,[13]),(6,[5,24])]} Tryz.func152 ?_;have c:Vals (λ_=>False) w (oN) []:=OwnV.nil (t:=zJ)|>.vals.weaken λx f _=>(by cases f);simp only[push_cast,d.ld2,c.len,pg];refine vloop_up 0 (λi u w'=>u=[nI i]/\w'=w) ⟨rfl,rfl⟩ ?_;rintro i _ _ _ C hi ⟨rfl,rfl⟩ g;refine oZ ?_;refine zb (λa=>absurd a oM) (λ_=>e)
theorem vals_ins {put:oI} (h:1+n<=many):((ZB many put).drop 1).take n=M.insV (M.wayM put) n:=by
 refine gZ (by simp[ZB,M.insV];omega) λi a b=>?_;simp[ZB,M.insV,M.wayM,Nat.add_comm 1 i,PU];rw[show(i:Int)+1+1=i+2 by omega]
theorem jobSearch_spec (g:Blk w b [dv,tv,nv,nI c.many,lv,x5] y7) (hd:DclsR F w dv ds) (a1:∀x,F x->x≠b) (l:M.declOk ds=true) (hc:CnfR G w (.agg #[nI c.many,lv]) c) (u:M.cnfOk c=true) (hn:1+M.nIn ds<=c.many.toNat) (W:Sent w jn an) (U:Sent w qu am)
  (m:(M.searchM 4000 ds c).2=1->∀w' ev,Same (· =b) w w'->Blk w' b [dv,tv,nv,nI c.many,lv,ev] y7->OwnI zi w' ev (M.searchM 4000 ds c).1->(∀x,ev.ownBlock=some x->w.heap.size<=x)->K .nilIface w')
  (o:M.searchM 4000 ds c=([],2)->∀w',Ext w w'->K (erv an) w') (p:M.searchM 4000 ds c=([],3)->∀w',Ext w w'->K (erv am) w'):vcall j6 #[oP b 0] w K:=by
 refine ze {} Tryz.func153 ?_;have lb:=g.lt;obtain⟨V,a5⟩:=M.nIn_eq l;have R:zt zq (oP b 3) w=λK=>K (.agg #[nI c.many,lv]) w:=by
  funext K
  refine XF (cs:=[nI c.many,lv]) zD λi v C=>?_;rw[yq]
  match i,C with
  |0,C=>exact g.cell (by simpa using C)
  |1,C=>exact g.cell (by simpa using C)
 simp only[push_cast];rw[R];have a3:0<=c.many:=oM
 refine run_spec (many:=c.many.toNat) (n:=4000) hc u oM (gw _) λFr bs σ w2 f h _ _ _=>?_;have a0:=g.ext f;have z2:=f.size;simp only[push_cast,h.blk.ld5];have d:M.searchM 4000 ds c=if(M.runM c.many.toNat c 4000 M.emptyS).code=1 then(M.envB ds (M.insV (M.wayM (M.runM c.many.toNat c 4000 M.emptyS).put) (M.nIn ds)),1) else if(M.runM c.many.toNat c 4000 M.emptyS).code=2 then([],2) else([],3):=rfl
 generalize M.searchM 4000 ds c=sr at d m o p;generalize hs:M.runM c.many.toNat c 4000 M.emptyS=s at h d;refine zb (λa=>?_) (λa=>?_)
 .rw[Q1 a] at d;refine zd λw3 z _=>?_;have e3:=f.trans z;have J:=g.ext e3;simp only[push_cast,J.ld0,k6];refine vals_spec (h.ext z) λw4 vv S X a4=>?_;have I:=e3.trans S;have L:=g.ext I;simp only[push_cast,L.ld0,k6,gi];refine bitsOf_spec (hd.ext I) l λw5 A=>?_;have H:=I.trans A;have N:=g.ext H;simp only[push_cast,N.ld0,k6,gi];rw[zj oM oM,<-V,show(1:Int)+(M.nIn ds:Int)=((1+M.nIn ds:Nat):Int) by omega];obtain⟨v6,y,Y⟩:=Sl.mid (X.ext A).bools (t:=qy) (k:=1) xg0 (a:=1) (b:=1+M.nIn ds) oM (by simp[ZB];omega);rw[show(1:Int)=((1:Nat):Int) from rfl,y]
  try simp only[push_cast,k6]
  have D:Bools (λx=>vv.ownBlock=some x) w5 v6 (M.insV (M.wayM s.put) (M.nIn ds)):=by
   have q:=Y;rw[show 1+M.nIn ds-1=M.nIn ds by omega,<-pY,<-Gy,<-pY,<-Gy,vals_ins hn] at q;exact q
  refine BlastEnv_spec (hd.ext H) D l (by rw[M.insV_len]) λw7 r T j B=>?_;have e7:=H.trans T;have O:=g.ext e7
  try simp only[push_cast,k6]
  refine O.st (i:=5) j.ints.cells1 j.ints.one jg rfl λw8 E a6 Q=>?_;have z5:=H.size;subst d;exact m rfl w8 r ((Same.of_ext e7).trans E) Q (j.same E λx Z e=>by have:=B x Z;omega) λx Z=>by have:=B x Z;omega
 .rw[q0 a] at d;refine zb (λa2=>?_) (λa2=>?_)
  .rw[Q1 a2] at d;rw[y3 xA (W.same f id).cell];exact o d w2 f
  .rw[q0 a2] at d;rw[y3 xA (U.same f id).cell];exact p d w2 f
end
section
variable {w w' w1 w2:World} {K:oK} {F F' D G H S:oA} {n b k p:Nat} {v lv tv dv ev f:Value} {xs:List Nat} {t:M.Tm} {ts us:List M.Tm} {ds:List M.Dcl} {c:M.Cnf} {ar ab at_ an am:Addr}
def RowA (w:World) (a:Addr):Prop:= ∃(c:Array Value) (t:TypeId),w.heap[a.block]?=some (.cells c t (0,0))
theorem RowA.ext {a:Addr} (h:RowA w a) (he:Ext w w'):RowA w' a:=by
 obtain⟨c,t,h⟩:=h;refine⟨c,t,?_⟩;rw[he.block _ (gH.1 h).1 id];exact h
structure Er (w:World) (at_ an am ar ab:Addr):Prop where
 terms:Sent w yP at_
 no:Sent w jn an
 much:Sent w qu am
 errs:Errs (λ_=>False) w ar ab
 rt:RowA w at_
 rn:RowA w an
 rm:RowA w am
 rr:RowA w ar
 d1:an≠at_
 d2:am≠at_
 d3:am≠an
 d4:ar≠at_
 d5:ar≠an
 d6:ar≠am
theorem Er.ext (h:Er w at_ an am ar ab) (he:Ext w w'):Er w' at_ an am ar ab:=
 ⟨h.terms.same he id,h.no.same he id,h.much.same he id,h.errs.ext0 he,h.rt.ext he,h.rn.ext he,h.rm.ext he,h.rr.ext he,h.d1,h.d2,h.d3,h.d4,h.d5,h.d6⟩
def errE (at_ an am ar:Addr):Nat->Value
 |0=> .nilIface
 |1=>erv ar
 |2=>erv at_
 |3=>erv an
 |_=>erv am
theorem Ws {a c:Addr} (h:a≠c) (f:RowA w a) (g:RowA w c) (e:K (.bool false) w):vcall qi #[erv a,erv c] w K:=by
 obtain⟨_,_,b⟩:=f;obtain⟨_,_,d⟩:=g;exact Zm0 h b d e
theorem switch_spec {r q j X:World->Prop} (er:Er w at_ an am ar ab) (k:Nat) (l:k=0->X w) (m:k=1->j w) (n:k=2->r w) (o:k=3->q w) (p:4<=k->j w):
  zt xB (oP yP 0) w λt28 e=>vcall qi #[errE at_ an am ar k,t28] e λt29 b=>vif t29 (r b) (
   zt xB (oP jn 0) b λt32 f=>vcall qi #[errE at_ an am ar k,t32] f λt33 c=>vif t33 (q c) (
    zt xB (oP qu 0) c λt36 g=>vcall qi #[errE at_ an am ar k,t36] g λt37 a=>vif t37 (vif t37 (j a) (X a)) (
     zt xB (oP xW 0) a λt39 i=>vcall qi #[errE at_ an am ar k,t39] i λt40 d=>vif t40 (j d) (X d)))):=by
 rw[y3 xA er.terms.cell]
 match k,l,m,n,o,p with
 |0,l,_,_,_,_=>
  refine jN0 (zm (λh=>by cases h) λ_=>?_);rw[y3 xA er.no.cell];refine jN0 (zm (λh=>by cases h) λ_=>?_);rw[y3 xA er.much.cell];refine jN0 (zm (λh=>by cases h) λ_=>?_);rw[y3 xA er.errs.room.cell];exact jN0 (zm (λh=>by cases h) λ_=>l rfl)
 |1,_,m,_,_,_=>
  refine Ws er.d4 er.rr er.rt (zm (λh=>by cases h) λ_=>?_);rw[y3 xA er.no.cell];refine Ws er.d5 er.rr er.rn (zm (λh=>by cases h) λ_=>?_);rw[y3 xA er.much.cell];refine Ws er.d6 er.rr er.rm (zm (λh=>by cases h) λ_=>?_);rw[y3 xA er.errs.room.cell];exact ys0 (zm (λ_=>m rfl) λh=>by cases h)
 |2,_,_,n,_,_=>exact ys0 (zm (λ_=>n rfl) λh=>by cases h)
 |3,_,_,_,o,_=>
  refine Ws er.d1 er.rn er.rt (zm (λh=>by cases h) λ_=>?_);rw[y3 xA er.no.cell];exact ys0 (zm (λ_=>o rfl) λh=>by cases h)
 |k+4,_,_,_,_,p=>
  refine Ws er.d2 er.rm er.rt (zm (λh=>by cases h) λ_=>?_);rw[y3 xA er.no.cell];refine Ws er.d3 er.rm er.rn (zm (λh=>by cases h) λ_=>?_);rw[y3 xA er.much.cell];exact ys0 (zm (λ_=>zm (λ_=>p oM) λh=>by cases h) λh=>by cases h)
theorem Xz0 {d e f:Option Addr} {a c1 b c2 c c3:Nat}:ye y7 [(0,.slice d a c1),(1,.slice e b c2),(2,.slice f c c3)] w K=K (.agg ⟨[.slice d a c1,.slice e b c2,.slice f c c3,nI 0,oN,oN]⟩) w:=
 zE qD0 (us:=[[.slice d a c1],[.slice e b c2],[.slice f c c3]]) rfl rfl
theorem bdJob (b:DclsR F w' dv ds) (d:TmsR G w' tv ts):ye y7 [(0,dv),(1,tv),(2,oN)] w K=K (.agg ⟨[dv,tv,oN,nI 0,oN,oN]⟩) w:=by
 obtain⟨a,c,rfl,_⟩:=b.shape;obtain⟨_,h,_⟩:=d;obtain⟨e,c',rfl,_⟩:=h.shape;exact Xz0
def ji0:List Value:=[.func (.func jY) #[] #[],.func (.func jr) #[] #[],.func (.func qH) #[] #[],.func (.func j6) #[] #[]]
theorem stages_spec (d:∀w' b,b=w.heap.size->Ext w w'->Vals (· =b) w' (.slice (some ⟨b,0,none⟩) 4 4) ji0->K (.slice (some ⟨b,0,none⟩) 4 4) w'):vcall Uu #[] w K:=by
 refine ze {} Tryz.func109 ?_;exact vbuildS_row1 (xs:=ji0) kY kQ kp (λx a=>by
  simp only[ji0,gj,gA,Gk] at a;rcases a with rfl|rfl|rfl|rfl<;>rfl) dC λb w1 e he f c=>d w1 b e he (c.sl1 rfl dC)
theorem xM0:xf0 c ds []=c:=by unfold xf0;simp
def JobS (w0:World) (b:Nat) (dv tv:Value) (ds:List M.Dcl) (ts:List M.Tm) (w:World):oA
 |0=>Blk w b [dv,tv,.slice none 0 0,nI 0,.slice none 0 0,.slice none 0 0] y7
 |1=>(∀t,t∈ts->M.tsort ds t=0)/\∃tv',Blk w b [dv,tv',.slice none 0 0,nI 0,.slice none 0 0,.slice none 0 0] y7/\TmsR (λx=>w0.heap.size<=x/\x≠b) w tv' (ts.map (QN ds))
 |4=>(qU ds ts []).2=1/\∃tv' y z ev,Blk w b [dv,tv',.slice none 0 0,y,z,ev] y7/\OwnI zi w ev (qU ds ts []).1/\∀x,ev.ownBlock=some x->w0.heap.size<=x
 |_=>zw0 ds ts=true/\(cnfE ds (ts.map (M.foldT ds))).2=0/\∃tv' lv ls,Blk w b [dv,tv',.slice none 0 0,nI (cnfE ds (ts.map (M.foldT ds))).1.many,lv,.slice none 0 0] y7/\CnfO w0.heap.size w lv ls (cnfE ds (ts.map (M.foldT ds))).1
theorem solved_spec (hd:DclsR F w dv ds) (N:TmsR G w tv ts) (hs:ts.length<=2000000) (er:Er w at_ an am ar ab)
  (hK:∀w' ev,Ext w w'->OwnI zi w' ev (qU ds ts []).1->(∀x,ev.ownBlock=some x->w.heap.size<=x)->K (.tuple #[ev,nI (qU ds ts []).2]) w'):vcall Uv #[dv,tv,oN] w K:=by
 refine ze {loops:=[(3,[19])]} Tryz.func71 ?_;rw[bdJob hd N];refine zk λb w1 hb S a6 Z=>?_;refine stages_spec λw2 b2 a5 D O=>?_;have z1:=S.size;have z2:=D.size;have e2:=S.trans D;have a0:=Z.ext D;have out:∀{w':World} {k:Int},Ext w w'->qU ds ts []=([],k)->K (.tuple #[oN,nI k]) w':=λ{w' k} he h=>by
  have:=hK w' (oN) he;rw[h] at this;exact this OwnI.nil λx J=>(by cases J)
 simp only[push_cast,O.len];rw[show ji0.length=4 from rfl];refine vloop_up 4 (λi u w'=>u=[nI i]/\Same (· =b) w2 w'/\JobS w b dv tv ds ts w' i) ⟨rfl,Same.refl _ _,a0⟩ ?_;rintro i _ _ q C hi ⟨rfl,I,L⟩ hC;have j:Ext w q:=Ext.then e2 I λy hy=>oM
 have l:=er.ext j;have B:=(hd.weaken (F':=λx=>x<w.heap.size) λx _ h=>h).ext j;have a2:=(N.weaken (F':=λx=>x<w.heap.size) λx _ h=>h).ext j;have Q:=O.same I λx J _ e=>oM
 refine oZ ?_;refine zb (λa=>?_) (λa=>?_)
 .have T:i<4:=oM;rw[Q.iaddr Z7 oM (by show(i:Int)<4;omega),gn,Q.load kT (by exact T)];have next:∀{d:World},Same (· =b) q d->JobS w b dv tv ds ts d (i+1)->C [nI (IntKind.i64.wrap ((i:Int)+1))] d:=λ{d} c h4=>by
   rw[inc64' oM];exact hC T _ _ ⟨rfl,I.trans c,h4⟩
  have v:∀{d:World},Same (· =b) q d->Ext w d:=λ{d} c=>Ext.then j c λy hy=>oM;have two:∀{d:World},Ext w d->¬zw0 ds ts=true->K (.tuple #[oN,nI 4]) d:=λhe h=>out he (q80 h);rcases(by omega:i=0\/i=1\/i=2\/i=3) with rfl|rfl|rfl|rfl
  .show vcall jY #[oP b 0] q _;refine jobFold_spec (show Blk q b [dv,tv,oN,nI 0,oN,oN] y7 from L) B a2 (λx J=>oM) hs l.terms (λt N h d f=>?_) λg d a4 c o a3=>?_
   .have r:=j.trans f;exact switch_spec (er.ext r) 2 (λh=>by cases h) (λh=>by cases h) (λ_=>two r λm=>h ((all8_iff.1 m).2.2 t N)) (λh=>by cases h) (λh=>oM)
   .have z3:=j.size;exact switch_spec (er.ext (v c)) 0 (λ_=>next c ⟨g,a4,o,a3.weaken λx J _=>⟨oM,by have:=L.lt;omega⟩⟩) (λh=>by cases h) (λh=>by cases h) (λh=>by cases h) (λh=>oM)
  .obtain⟨g,p,n,V⟩:=L;show vcall jr #[oP b 0] q _;refine jobBlast_spec n B V l.errs l.terms λd lv ls c o R=>?_;have r:=v c;by_cases m:zw0 ds ts=true
   .have U:ts.map (QN ds)=ts.map (M.foldT ds):=Gm λt N=>(Wu (all8_iff.1 m).2.1 (g t N)).2;rw[U] at o R⊢;have z3:=j.size;rcases kb0 (Qj m) with s|s
    .rw[s];exact switch_spec (er.ext r) 0 (λ_=>next c ⟨m,s,p,lv,ls,o,R.down z3⟩) (λh=>by cases h) (λh=>by cases h) (λh=>by cases h) (λh=>oM)
    .rw[s];exact switch_spec (er.ext r) 1 (λh=>by cases h) (λ_=>out r (JT m (by rw[s];decide))) (λh=>by cases h) (λh=>by cases h) (λh=>oM)
   .have s:(cnfE ds (ts.map (QN ds))).2=2:=by
     unfold cnfE;rw[q0 λh=>m (all8_iff.2 ⟨by have:=(all8_iff.1 h).1;rwa[K3] at this,(all8_iff.1 h).2.1,g⟩)]
    rw[s];exact switch_spec (er.ext r) 2 (λh=>by cases h) (λh=>by cases h) (λ_=>two r m) (λh=>by cases h) (λh=>oM)
  .obtain⟨m,X,p,lv,ls,n,A⟩:=L;show vcall qH #[oP b 0] q _;refine jobExclude_spec n ?_;exact switch_spec l 0 (λ_=>next (Same.refl _ _) ⟨m,X,p,lv,ls,n,A⟩) (λh=>by cases h) (λh=>by cases h) (λh=>by cases h) (λh=>oM)
  .obtain⟨m,X,p,lv,ls,n,A⟩:=L;show vcall j6 #[oP b 0] q _;obtain⟨W,q2,q3⟩:=solveR_run (nots:=[]) m X (λe he=>by cases he) (by simp);rw[xM0] at W q2;refine jobSearch_spec n B (λx J=>oM) (all8_iff.1 m).2.1 A.cnf q2 q3 l.no l.much (λY d ev c o E H=>?_) (λh2 d f=>?_) λh3 d f=>?_
   .exact switch_spec (er.ext (v c)) 0 (λ_=>next c ⟨by rw[W];exact Y,p,_,lv,ev,o,by rw[W];exact E,λx J=>by have:=H x J;have:=j.size;omega⟩) (λh=>by cases h) (λh=>by cases h) (λh=>by cases h) (λh=>oM)
   .exact switch_spec (er.ext (j.trans f)) 3 (λh=>by cases h) (λh=>by cases h) (λh=>by cases h) (λ_=>out (j.trans f) (by rw[W];exact h2)) (λh=>oM)
   .exact switch_spec (er.ext (j.trans f)) 4 (λh=>by cases h) (λh=>by cases h) (λh=>by cases h) (λh=>by cases h) (λ_=>out (j.trans f) (by rw[W];exact h3))
 .have a1:i=4:=oM;subst a1;obtain⟨Y,p,y,z,ev,hB,E,H⟩:=L;have:=hK q ev j E H;rw[Y] at this;simp only[push_cast,hB.ld5];exact this
end
section
variable {w w':World} {K:oK} {F F':oA} {b:Nat} {tv dv:Value} {ts us:List M.Tm} {ds:List M.Dcl} {c c':List M.Lay}
theorem fit_ok {a:M.Tm} (b:M.tsort ds a=0):jS0 a=true:=fit_size _ (by have:=(M.fits_iff.1 (Jb b).2.1).1;omega)
theorem ZO0 {c d:Option Addr} {a b c1 c2:Nat}:ye zW [(0,.slice c a c1),(1,.slice d b c2)] w K=K (.agg ⟨[.slice c a c1,.slice d b c2]⟩) w:=zE Yj (us:=[[.slice c a c1],[.slice d b c2]]) rfl rfl
theorem YM0 (b:DclsR F w' dv ds) (d:TmsR F' w' tv ts):ye zW [(0,dv),(1,tv)] w K=K (.agg ⟨[dv,tv]⟩) w:=by
 obtain⟨a,c,rfl,_⟩:=b.shape;obtain⟨_,h,_⟩:=d;obtain⟨e,c',rfl,_⟩:=h.shape;exact ZO0
def chg (c c':List M.Lay):List M.Lay×Bool:=if M.ctxOk c=true then(if M.ctxOk c'=true then(c',true) else(c,false)) else([],false)
end
section
variable {w w':World} {K:oK} {H:oA} {n b:Nat} {tv f:Value} {t:M.Tm} {ts:List M.Tm} {d:M.Dcl} {c e:List M.Lay}
theorem xA0 {α:Type} {l:List α} {x y:α}:(l++[x]).set l.length y=l++[y]:=by simp[List.set_append]
theorem stD {a:Nat} {x:Int} {y:ByteArray} (h:Blk w a [.string y,nI x] yR):zt yR (oP a 0) w K=K (.agg ⟨[.string y,nI x]⟩) w:=h.ldAgg xe0
theorem ctx_ne (h:M.ctxOk c=true):c≠[]:=List.ne_nil_of_length_pos (by have:=(M.ctx_iff.1 h).1;omega)
theorem LstH.st {i:Nat} {cs:List Value} (h:LstH H w tv ts) (hi:i<ts.length) (c:TmR H w cs t) (m:∀x,tv.ownBlock=some x->¬H x)
  (o:∀w',Same (λx=>tv.ownBlock=some x) w w'->w'.heap.size=w.heap.size->LstH H w' tv (ts.set i t)->K undef w'):zP za (oE (eaddr tv 5 i)) (.agg ⟨cs⟩) w K:=by
 obtain⟨css,q,p,d⟩:=h;refine own_stEl q dC (zU c) (one_tms (css:=[cs]) (ks:=[t]) rfl (λi hi=>by
  have:i=0:=(by simpa using hi);subst this;exact c) cs (by simp)) zc oM λw1 f a k=>o w1 a k ⟨css.set i cs,f,by simp[p],λj n=>?_⟩
 rw[gX] at n;rw[X0,PT,X0 (l:=ts.set i t),PT];by_cases b:i=j
 .subst b;rw[Q1 rfl,Q1 rfl,Q1 oM,Q1 oM];exact c.same a λx g _ e=>m x e g
 .rw[q0 b,q0 b,<-X0,<-X0];exact(d j n).same a λx g _ e=>m x e g
theorem X50:TmR H w JN (.mk 0 0 0 M.nada []):=TmR.of (t:= .mk 0 0 0 M.nada []) TmsR.nil
end
section
variable {w w' w1 w2:World} {K:oK} {F F' G H H2 S:oA} {n b k:Nat} {v lv tv dv f:Value} {t:M.Tm} {ts us:List M.Tm} {d:M.Dcl} {ds:List M.Dcl} {c e:List M.Lay} {tag:Nat->Nat} {css:List (Value×Value)}
theorem LaysR.load0 (h:LaysR F w v c) {t:TypeId} (e:oneB t=true) {i:Nat} (hi:i<c.length) (d:∀dv,DclsR F w dv (c.getD i ([],[])).1->K dv w):zt t (oE ((eaddr v 2 i).add 0)) w K:=by
 obtain⟨css,a,f,b⟩:=h;rw[Sl.ldField a e (x:=(css.getD i (undef,undef)).1) (by rw[K3];omega) (by rw[M.getD_map _ oM _ (undef,undef)];rfl)];exact d _ (b i hi).1
theorem LaysR.load1 (h:LaysR F w v c) {t:TypeId} (e:oneB t=true) {i:Nat} (hi:i<c.length) (d:∀tv,TmsR F w tv (c.getD i ([],[])).2->K tv w):zt t (oE ((eaddr v 2 i).add 1)) w K:=by
 obtain⟨css,a,f,b⟩:=h;rw[Sl.ldField a e (x:=(css.getD i (undef,undef)).2) (by rw[K3];omega) (by rw[M.getD_map _ oM _ (undef,undef)];rfl)];exact d _ (b i hi).2
theorem LaysR.taken (h:LaysR F w v c) {n:Nat} (e:n<=c.length):LaysR F w (cutV v n) (c.take n):=by
 obtain⟨css,a,b,d⟩:=h;refine⟨css.take n,by rw[Gy];exact a.taken (by rw[K3];omega),by rw[gg,gg,b],λi hi=>?_⟩;rw[gg] at hi;rw[M.take_getD oM,M.take_getD oM];exact d i oM
theorem LaysR.cut (h:LaysR F w v c) (a:c≠[]) {t:TypeId} (d:elB t 2=true) {kd:IntKind} {n:Nat} (j:n<=c.length):xd t v none (some (.int kd n)) none w' K=K (cutV v n) w':=by
 obtain⟨css,b,f,g⟩:=h;have i:0<c.length:=Gh.2 a;exact Sl.cut b (Sl.base b λe=>by have:=congrArg List.length e;rw[K3,pg] at this;omega) d (by rw[K3];omega)
theorem l10Decls_spec (E:LaysR F w v c) (s:CtxB c) (A:∀w' v',Ext w w'->DclsR (λx=>w.heap.size<=x) w' v' (M.decL c)->K v' w'):vcall Kc #[v] w K:=by
 refine ze {loops:=[(3,[3,4])]} Tryz.func66 ?_;have hlen:=s.len;refine zV kB Zc λb w1 B l G n=>?_;have J:=l.size;have t:OwnD w1 (.slice (some ⟨b,0,none⟩) 0 0) []:=Blk.ownk (css:=[]) (by rw[Qc];exact n) (λx g=>by cases g) rfl oM;refine vloop_up c.length (λi u w'=> ∃lv,u=[lv,nI i]/\Ext w w'/\OwnD w' lv (M.decL (c.take i))/\∀x,lv.ownBlock=some x->w.heap.size<=x) ⟨_,rfl,l,t,λx g=>by have e:b=x:=gd g;omega⟩ ?_;rintro i _ _ w2 C hi ⟨lv,rfl,d,m,j⟩ z;have k:=(E.weaken (F':=λx=>x<w.heap.size) λx _ h=>h).ext d;simp only[push_cast,k.len];refine zb (λa=>?_) (λa=>?_)
 .have f:i<c.length:=oM;have H:=(ctxB_take s (i+1)).dec;rw[M.decL_take f,V0] at H;simp(disch:=exact oS) only[push_cast,k.iaddr,gn];refine k.load0 Jc f λdv D=>?_;refine OwnD.app m D oM λI r q p y=>?_;rw[inc64' oM];refine z f _ _ ⟨r,rfl,Ext.then d q λx g=>j x g,by rw[M.decL_take f];exact y,λx g=>?_⟩;have z2:=d.size;rcases p x g with h|h
  .exact j x h
  .omega
 .have o:i=c.length:=oM;subst o;rw[gB] at m;exact A _ _ d (m.dcls.weaken λx g _=>j x g)
theorem l10Terms_spec (J:LaysR F w v c) (A:CtxB c) (H:∀w' v',Ext w w'->TmsR (λ_=>True) w' v' (M.terL c)->K v' w'):vcall Kb #[v] w K:=by
 refine ze {loops:=[(3,[3,4])]} Tryz.func67 ?_;have hlen:=A.len;refine zV yr yJ λb w1 I l L n=>?_;have Q:=l.size;have D:LstH (λx=>x<w.heap.size) w1 (.slice (some ⟨b,0,none⟩) 0 0) []:=⟨[],Blk.ownk (css:=[]) (by rw[Zs];exact n) (λx d=>by cases d) rfl oM,rfl,λi hi=>absurd hi (pD _)⟩;refine vloop_up c.length (λi u w'=> ∃lv,u=[lv,nI i]/\Ext w w'/\LstH (λx=>x<w.heap.size) w' lv (M.terL (c.take i))/\∀x,lv.ownBlock=some x->w.heap.size<=x) ⟨_,rfl,l,D,λx d=>by have e:b=x:=gd d;omega⟩ ?_;rintro i _ _ w2 C hi ⟨lv,rfl,f,m,j⟩ G;have k:=(J.weaken (F':=λx=>x<w.heap.size) λx _ h=>h).ext f;simp only[push_cast,k.len];refine zb (λa=>?_) (λa=>?_)
 .have g:i<c.length:=oM;have N:=(ctxB_take A (i+1)).ter;rw[M.terL_take g,V0] at N;simp(disch:=exact oS) only[push_cast,k.iaddr,gn];refine k.load1 y5 g λtv y=>?_;obtain⟨B,s,q,o⟩:=y;have z2:=f.size;refine LstH.app m (λx d=>⟨λe=>by have:=j x d;omega,λe=>by have:=j x d;omega⟩) s q o oM λO z t r E=>?_;rw[inc64' oM];refine G g _ _ ⟨z,rfl,Ext.then f t λx d=>j x d,by rw[M.terL_take g];exact E.weaken λx d _=>d.1.elim id id,λx d=>?_⟩;rcases r x d with h|h
  .exact j x h
  .omega
 .have p:i=c.length:=oM;subst p;rw[gB] at m;exact H _ _ f (m.tms.weaken λx _ _=>trivial)
theorem sized_take {i:Nat} (h:YY (M.decL c)):YY (M.decL (c.take i)):=λj a=>by
 have:=h j (by rw[M.decL_split c i,V0];omega);rw[M.decL_split c i] at this;rwa[M.app_getD a] at this
theorem spec_CtxOk_spec (D:LaysR F w v c) (B:CtxB c) (A:YY (M.decL c)) (U:∀w',Ext w w'->K (.bool (M.ctxOk c)) w'):vcall ye0 #[v] w K:=by
 refine ze {loops:=[(4,[3]),(8,[5])],cuts:=[(8195,[])]} Tryz.func26 ?_;have hlen:=B.len;have no:∀w',Ext w w'->M.ctxOk c≠true->K (.bool false) w':=λw' he hn=>by
  have:=U w' he;rwa[P3 _|>.mp hn] at this
 refine zp (λu w'=>u=[]/\Ext w w'/\1<=c.length/\c.length<=6/\M.declOk (M.decL c)=true/\(M.terL c).length<=8) (λJ Z=>?_) ?_
 .simp only[push_cast,D.len];refine zb (λE=>no _ (Same.refl _ _) λe=>by have:=(M.ctx_iff.1 e).1;omega) (λE=>?_);refine zb (λa2=>no _ (Same.refl _ _) λe=>by have:=(M.ctx_iff.1 e).2.1;omega) (λa2=>?_);refine l10Decls_spec D B λw1 v1 n N=>?_;refine spec_DeclOk_spec N A λw2 b=>?_;have H:=n.trans b
  try simp only[push_cast]
  refine zm (λa3=>no _ H λe=>by rw[(M.ctx_iff.1 e).2.2.1] at a3;cases a3) (λa3=>?_);refine l10Terms_spec (D.ext H) B λX v3 o S=>?_;simp only[push_cast,S.len];have T:=H.trans o;refine zb (λa4=>no _ T λe=>by have:=(M.ctx_iff.1 e).2.2.2.1;omega) (λa4=>?_);exact Z _ _ ⟨rfl,T,oM,oM,by simpa using a3,oM⟩
 rintro _ _ w1 ⟨rfl,n,E,a2,a3,a4⟩;refine vloop_up c.length (λi u w'=>u=[nI i]/\Ext w w'/\∀j,j<i->∀t,t∈(c.getD j ([],[])).2->M.tsort (M.decL (c.take (j+1))) t=0) ⟨rfl,n,λj V=>absurd V oM⟩ ?_;rintro i _ _ w2 C hi ⟨rfl,b,l⟩ Y;have h:=D.ext b;simp only[push_cast,h.len];refine zb (λa=>?_) (λa=>?_)
 .have f:i<c.length:=oM;rw[inc64' oM,LaysR.cut h (Gh.1 oM) y4 (by omega:i+1<=c.length)];refine l10Decls_spec (h.taken (by omega:i+1<=c.length)) (ctxB_take B _) λX dv o O=>?_;refine vloop_up (c.getD i ([],[])).2.length (λj u w'=>u=[nI j]/\Ext X w'/\∀k,k<j->M.tsort (M.decL (c.take (i+1))) ((c.getD i ([],[])).2.getD k default)=0) ⟨rfl,Same.refl _ _,λk R=>absurd R oM⟩ ?_;rintro j _ _ w6 C1 V ⟨rfl,p,d⟩ L;have m:=o.trans p;have r:=h.ext m;simp(disch:=exact oS) only[push_cast,r.iaddr,gn];refine r.load1 y5 f λpv y=>?_;have a0:=y.small;simp only[push_cast,y.len];refine zb (λa5=>?_) (λa5=>?_)
  .have g:j<(c.getD i ([],[])).2.length:=oM;refine r.load1 y5 f λqv z=>?_;simp(disch:=exact oS) only[push_cast,z.iaddr,gn];refine z.load zc g λx hx=>?_;refine spec_TermSort_spec (sized_take A) (O.ext p) hx λw7 s=>?_
   try simp only[push_cast]
   have I:=m.trans s;refine zb (λG=>no _ (b.trans I) λe=>G ((M.ctx_iff.1 e).2.2.2.2 i f _ (M.getD_mem g _))) (λG=>?_);rw[inc64' oM];refine L g _ _ ⟨rfl,p.trans s,λk R=>?_⟩;by_cases e:k<j
   .exact d k e
   .have:k=j:=oM;subst this;exact Ph.1 G
  .have g:j=(c.getD i ([],[])).2.length:=oM;refine Y f _ _ ⟨rfl,b.trans m,λk R t W=>?_⟩;by_cases e:k<i
   .exact l k e t W
   .have:k=i:=oM;subst this;obtain⟨q,hq,rfl⟩:=gr W;have:=d q oM;rwa[X0,gk hq] at this
 .have Q:i=c.length:=oM;subst Q;have:=U _ b;rwa[M.ctx_iff.2 ⟨E,a2,a3,a4,l⟩] at this
structure LayO (n:Nat) (tag:Nat->Nat) (w:World) (lv:Value) (c:List M.Lay) (css:List (Value×Value)):Prop where
 row:Own 0 2 yA w lv (css.map λp=>[p.1,p.2])
 len:css.length=c.length
 own:∀x,lv.ownBlock=some x->n<=x/\tag x=0
 dec:∀i,i<c.length->OwnD w (css.getD i (undef,undef)).1 (c.getD i ([],[])).1
 decn:∀i x,i<c.length->(css.getD i (undef,undef)).1.ownBlock=some x->n<=x/\tag x=3*i+1
 ter:∀i,i<c.length->LstH (λx=>n<=x/\tag x=3*i+2) w (css.getD i (undef,undef)).2 (c.getD i ([],[])).2
 tern:∀i x,i<c.length->(css.getD i (undef,undef)).2.ownBlock=some x->n<=x/\tag x=3*i+3
theorem LayO.nil (h:Blk w b [] zW) (c:n<=b):LayO n (λ_=>0) w (.slice (some ⟨b,0,none⟩) 0 0) [] []:=
 ⟨Blk.ownk (css:=[]) (by rw[W6];exact h) (λx a=>by cases a) rfl oM,rfl,λx a=>by have e:b=x:=gd a;omega,λi hi=>absurd hi (pD _),λi x hi=>absurd hi (pD _),λi hi=>absurd hi (pD _),λi x hi=>absurd hi (pD _)⟩
theorem LayO.ext (h:LayO n tag w lv c css) (hw:Ext w w'):LayO n tag w' lv c css:=⟨h.row.ext hw,h.len,h.own,λi hi=>(h.dec i hi).ext hw,h.decn,λi hi=>(h.ter i hi).ext hw,h.tern⟩
theorem LayO.lays (h:LayO n tag w lv c css):LaysR (λx=>n<=x) w lv c:=
 ⟨css,h.row.sl.weaken λx a _=>(h.own x a).1,h.len,λi hi=>⟨(h.dec i hi).dcls.weaken λx a _=>(h.decn i x hi a).1,(h.ter i hi).tms.weaken λx a _=>a.elim (λh=>h.1) λe=>(h.tern i x hi e).1⟩⟩
open Classical in
theorem LayO.push {ty:Nat} {f:World} (h:LayO n tag f lv c css) (L:n<=f.heap.size) (he:Ext f w) (y:OwnD w dv ds) (p:∀x,dv.ownBlock=some x->f.heap.size<=x) (B:LstH H w tv ts)
  (hH:∀x,H x->f.heap.size<=x/\dv.ownBlock≠some x/\tv.ownBlock≠some x) (r:∀x,tv.ownBlock=some x->f.heap.size<=x/\dv.ownBlock≠some x) (D:c.length<=2000000)
  (C:∀w' m t,Same (λx=>n<=x) w w'->LayO n t w' m (c++[(ds,ts)]) (css++[(dv,tv)])->K m w'):
  vbuildS yA 1 [(0,.agg ⟨[dv,tv]⟩)] w λs w1=>vbi .append [yA,yA] ty [lv,s] w1 K:=by
 refine yL xh xD qD rfl rfl dC λb w1 J g E v=>?_;have z0:=he.size;have O:=g.size;have o:=he.trans g;have k:=h.len;refine Own.app1k (h.row.ext o) UI dC v rfl (two_one y.dcls.one B.tms.one) (by rw[K3];omega) (by rw[K3];omega) λm w2 A j z=>?_;have llt:∀x,lv.ownBlock=some x->x<f.heap.size:=λx a=>(h.row.lt a).2;refine C w2 m (λx=>if x<f.heap.size then tag x else if dv.ownBlock=some x then 3*c.length+1 else if tv.ownBlock=some x then 3*c.length+3 else if x<w1.heap.size then 3*c.length+2 else 0) ((Same.of_ext g).trans (j.mono λx _ a=>(h.own x a).1)) ⟨by rw[gD];exact A,by simp[k],λx a=>?_,λi hi=>?_,λi x hi a=>?_,λi hi=>?_,λi x hi a=>?_⟩
 .rcases z x a with e|e
  .refine⟨(h.own x e).1,?_⟩;simp only[Q1 (llt x e)];exact(h.own x e).2
  .have G:dv.ownBlock≠some x:=λu=>by have:=(y.lt u).2;omega
   have I:tv.ownBlock≠some x:=λu=>by have:=B.lt u;omega
   refine⟨oM,?_⟩;simp only[q0 (show¬x<f.heap.size by omega),q0 G,q0 I,q0 (show¬x<w1.heap.size by omega)]
 .rw[V0] at hi;by_cases d:i<c.length
  .rw[M.app_getD oM,M.app_getD d];exact((h.dec i d).ext o).same j λx a e=>by have:=(h.decn i x d a).2;have:=(h.own x e).2;omega
  .have e:i=c.length:=by simp at hi;omega
   rw[Zv oM,Zv oM,k,e,GR];exact(y.ext g).same j λx a e=>by have:=p x a;have:=llt x e;omega
 .rw[V0] at hi;by_cases d:i<c.length
  .rw[M.app_getD oM] at a;have q:=h.decn i x d a;have l:=((h.dec i d).lt a).2;refine⟨q.1,?_⟩;simp only[Q1 l];exact q.2
  .have e:i=c.length:=by simp at hi;omega
   rw[Zv oM,k,e,GR] at a;replace a:dv.ownBlock=some x:=a;have q:=p x a;refine⟨oM,?_⟩;simp only[q0 (show¬x<f.heap.size by omega),Q1 a,e]
 .rw[V0] at hi;by_cases d:i<c.length
  .rw[M.app_getD oM,M.app_getD d];have q:=(h.ter i d).weaken (F:=λx=>(n<=x/\tag x=3*i+2)/\x<f.heap.size) λx a k=>⟨a,k⟩;refine((q.ext o).same j (λx a e=>by have:=(h.tern i x d a).2;have:=(h.own x e).2;omega) λx a _ e=>by have:=a.1.2;have:=(h.own x e).2;omega).weaken λx a _=>⟨a.1.1,?_⟩;simp only[Q1 a.2];exact a.1.2
  .have e:i=c.length:=by simp at hi;omega
   rw[Zv oM,Zv oM,k,e,GR];have q:=B.weaken (F:=λx=>H x/\x<w.heap.size) λx a k=>⟨a,k⟩;refine((q.ext g).same j (λx a e=>by have:=(r x a).1;have:=llt x e;omega) λx a _ e=>by have:=(hH x a.1).1;have:=llt x e;omega).weaken λx a _=>?_;have q:=hH x a.1;have N:=a.2;refine⟨oM,?_⟩;simp only[q0 (show¬x<f.heap.size by omega),q0 q.2.1,q0 q.2.2,Q1 (show x<w1.heap.size by omega)]
 .rw[V0] at hi;by_cases d:i<c.length
  .rw[M.app_getD oM] at a;have q:=h.tern i x d a;have l:=(h.ter i d).lt a;refine⟨q.1,?_⟩;simp only[Q1 l];exact q.2
  .have e:i=c.length:=by simp at hi;omega
   rw[Zv oM,k,e,GR] at a;replace a:tv.ownBlock=some x:=a;have q:=r x a;refine⟨oM,?_⟩;simp only[q0 (show¬x<f.heap.size by omega),q0 q.2,Q1 a,e]
theorem km0 {b:Option Addr} {a c1:Nat}:ye zW [(0,.slice b a c1)] w K=K (.agg ⟨[.slice b a c1,oN]⟩) w:=zE Yj (us:=[[.slice b a c1]]) rfl rfl
theorem ZP0 (b:DclsR F w' dv ds):ye zW [(0,dv)] w K=K (.agg ⟨[dv,oN]⟩) w:=by
 obtain⟨a,c,rfl,_⟩:=b.shape;exact km0
@[push_cast] theorem XC0:ye zW [] w K=K (.agg ⟨[oN,oN]⟩) w:=zE Yj (us:=[]) rfl rfl
theorem l10Copy_spec (hv:LaysR F w v c) (hb:CtxB c) (hf:∀i,i<c.length->∀t,t∈(c.getD i ([],[])).2->jS0 t=true)
  (hK:∀w' lv tag css,Ext w w'->LayO w.heap.size tag w' lv c css->K lv w'):vcall X3 #[v] w K:=by
 refine ze {loops:=[(3,[3,4]),(7,[6])]} Tryz.func142 ?_;have hlen:=hb.len;refine zV xh xD λb w1 aq U aw a8=>?_;have z1:=U.size;refine vloop_up c.length (λi u w'=> ∃lv tag css,u=[lv,nI i]/\Ext w w'/\LayO w.heap.size tag w' lv (c.take i) css) ⟨_,_,_,rfl,U,LayO.nil a8 oM⟩ ?_;rintro i _ _ w2 C hi ⟨lv,tag,css,rfl,z,h2⟩ hC;have z2:=z.size;have a0:=(hv.weaken (F':=λx=>x<w.heap.size) λx _ h=>h).ext z;simp only[push_cast,a0.len];refine zb (λa=>?_) (λa=>?_)
 .have k:i<c.length:=oM;have l1:=(ctxB_take hb (i+1)).dec;have l2:=(ctxB_take hb (i+1)).ter;rw[M.decL_take k,V0] at l1;rw[M.terL_take k,V0] at l2;refine zV kB Zc λb3 w3 ar I ax a9=>?_;have z3:=I.size;have a1:=a0.ext I;have h3:OwnD w3 (.slice (some ⟨b3,0,none⟩) 0 0) []:=Blk.ownk (css:=[]) (by rw[Qc];exact a9) (λx d=>by cases d) rfl oM;simp(disch:=exact oS) only[push_cast,a1.iaddr,gn];refine a1.load0 Jc k λdq ad=>?_;refine OwnD.app h3 ad (by rw[pg];omega) λw4 dv Z af Q=>?_;rw[Gj] at Q;have e4:Ext w2 w4:=Ext.then I Z λx d=>by have e:b3=x:=gd d;omega
  have z4:=Z.size;have n4:∀x,dv.ownBlock=some x->w2.heap.size<=x:=λx d=>by
   rcases af x d with e|e
   .have e:b3=x:=gd e;omega
   .omega
  rw[ZP0 Q.dcls];refine zh qD λL w5 au V ay aa=>?_;refine aa.stAgg (cs':=[dv,oN]) rfl kL (two_one Q.dcls.one rfl) λw6 ai az ab=>?_;have z5:=V.size;have e6:Ext w4 w6:=Ext.then V ai λy hy=>by subst hy;omega
  have d6:=Q.ext e6;have ldv:∀x,dv.ownBlock=some x->x<w4.heap.size:=λx d=>(Q.lt d).2;refine vloop_up (c.getD i ([],[])).2.length (λj u w'=> ∃tv H,u=[nI j]/\Same (λx=>w2.heap.size<=x) w2 w'/\w6.heap.size<=w'.heap.size/\Blk w' L [dv,tv] zW/\OwnD w' dv (c.getD i ([],[])).1/\LstH H w' tv ((c.getD i ([],[])).2.take j)/\
    (∀x,H x->w2.heap.size<=x/\dv.ownBlock≠some x/\x≠L)/\∀x,tv.ownBlock=some x->w2.heap.size<=x/\dv.ownBlock≠some x/\x≠L/\¬H x)
   ⟨_,λ_=>False,rfl,(Same.of_ext (e4.trans e6)),gw _,ab,d6,LstH.nil,λx d=>d.elim,λx d=>(by cases d)⟩ ?_
  rintro j _ _ w7 C1 hj ⟨tv,H,rfl,q,b0,D,d7,t7,E,f⟩ ac;have e7:Ext w w7:=Ext.then z q λx d=>oM;have J:=(hv.weaken (F':=λx=>x<w.heap.size) λx _ h=>h).ext e7;simp(disch:=exact oS) only[push_cast,J.iaddr,gn];refine J.load1 y5 k λpv X=>?_;have av:=X.small;simp only[push_cast,X.len];refine zb (λa5=>?_) (λa5=>?_)
  .have n:j<(c.getD i ([],[])).2.length:=oM;refine zd λw8 p _=>?_;have S:=D.ext p;have a2:=J.ext p;have t8:=t7.ext p;simp(disch:=exact oS) only[push_cast,S.ld1,k6,a2.iaddr,gn];refine a2.load1 y5 k λqv Y=>?_;simp(disch:=exact oS) only[push_cast,k6,Y.iaddr,gn];refine Y.load zc n λx d=>?_;refine⟨rfl,?_⟩;refine l3Copy_spec _ d (hf i k _ (M.getD_mem n _)) λw9 N A ag=>?_;have T:=S.ext A;simp(disch:=exact oS) only[push_cast,T.ld1,k6,gi];have z8:=p.size;have z9:=A.size;have ltv:∀x,tv.ownBlock=some x->x<w7.heap.size:=λx d=>t7.lt d;have b1:=D.lt;have l7:∀x,dv.ownBlock=some x->x<w7.heap.size:=λx d=>(d7.lt d).2;obtain⟨N,rfl⟩:∃l:List Value,N=l:=⟨_,rfl⟩;have G:=WF _ ag;refine yL yr yJ zn rfl (zU G) dC λap w10 am g an R=>?_;have a4:=T.ext g;have b4:=g.size;simp(disch:=exact oS) only[push_cast,a4.ld1,k6,gi];refine LstH.app (H2:=λx=>w8.heap.size<=x/\x<w9.heap.size) (us:=[(c.getD i ([],[])).2.getD j default]) ((t8.ext A).ext g) (λx d=>⟨(f x d).2.2.2,λe=>by have:=ltv x d;omega⟩) (R.sl1k (zU G)) rfl (λi hi=>?_) (by simp;omega) λb2 s m W t11=>?_
   .have:i=0:=(by simpa using hi);subst this;exact(G.weaken λx d _=>d).ext g
   rw[Z2 n] at t11;have ak:=a4.same m λe=>(f _ e).2.2.1 rfl
   try simp only[push_cast,k6]
   refine ak.st (i:=1) t11.tms.cellsV t11.tms.one xk rfl λal r ao o=>?_;replace o:Blk al L [dv,s] zW:=o;rw[inc64' oM];have O:=(p.trans A).trans g;have d12:=((d7.ext O).same m λx d e=>(f x e).2.1 d).same r λx d e=>by have:=ldv x d;omega
   have b6:=m.size;have a3:∀x,s.ownBlock=some x->w2.heap.size<=x/\dv.ownBlock≠some x/\x≠L/\¬((H x\/w8.heap.size<=x/\x<w9.heap.size)/\x<w10.heap.size):=λx d=>by
    rcases W x d with e|e
    .refine⟨(f x e).1,(f x e).2.1,(f x e).2.2.1,λh=>?_⟩;have:=ltv x e;rcases h.1 with h|h
     .exact(f x e).2.2.2 h
     .omega
    .exact⟨by have:=q.size;omega,λe'=>by have:=l7 x e';omega,oM,λh=>by have:=h.2;omega⟩
   have B:∀x,((H x\/w8.heap.size<=x/\x<w9.heap.size)/\x<w10.heap.size)->w2.heap.size<=x/\dv.ownBlock≠some x/\x≠L:=λx d=>by
    rcases d.1 with h|h
    .exact E x h
    .exact⟨by have:=q.size;omega,λe'=>by have:=l7 x e';omega,oM⟩
   exact ac n _ _ ⟨s,_,rfl,((q.trans (Same.of_ext O)).trans (m.mono λx _ d=>(f x d).1)).trans (r.mono λx _ d=>oM),oM,o,d12,t11.same r (λx d e=>(a3 x d).2.2.1 e) (λx d _ e=>(B x d).2.2 e),B,a3⟩
  .have n:j=(c.getD i ([],[])).2.length:=oM;subst n;rw[gB] at t7;rw[D.ldAgg (t:=zW) kL];have a7:Ext w2 w7:=Ext.then (Same.refl _ w2) q λx d=>d;refine LayO.push h2 oM a7 d7 n4 t7 (λx d=>⟨(E x d).1,(E x d).2.1,λe=>(f x e).2.2.2 d⟩) (λx d=>⟨(f x d).1,(f x d).2.1⟩) (by rw[gg];omega) λw8 aj a6 ah h8=>?_;rw[inc64' oM];rw[show(c.take i++[((c.getD i ([],[])).1,(c.getD i ([],[])).2)])=c.take (i+1) from(M.lay_take k).symm] at h8;exact hC k _ _ ⟨aj,a6,_,rfl,Ext.then e7 ah λx d=>d,h8⟩
 .have ae:i=c.length:=oM;subst ae;rw[gB] at h2;exact hK _ _ _ _ z h2
end
section
variable {w w' w1 w2:World} {K:oK} {F F' G H H2 S:oA} {n b k:Nat} {v lv tv dv f:Value} {t:M.Tm} {ts us:List M.Tm} {d:M.Dcl} {ds:List M.Dcl} {c e:List M.Lay} {tag:Nat->Nat} {css:List (Value×Value)}
theorem LayO.ia (h:LayO n tag w lv c css) {t:TypeId} (a:elB t 2=true) (b:k<c.length) {kd:IntKind}:zX t lv (.int kd k) w' K=K (oE (eaddr lv 2 k)) w':=by
 have:=h.lays.iaddr (K:=K) (w':=w') (kd:=kd) a (i:=(k:Int)) oM oM;rwa[gn] at this
theorem LayO.ldD (h:LayO n tag w lv c css) {t:TypeId} (b:oneB t=true) (a:k<c.length):zt t (oE ((eaddr lv 2 k).add 0)) w K=K (css.getD k (undef,undef)).1 w:=
 Sl.ldField h.row.sl b (by rw[K3,h.len];exact a) (by rw[M.getD_map _ (by rw[h.len];exact a) _ (undef,undef)];rfl)
theorem LayO.ldT (h:LayO n tag w lv c css) {t:TypeId} (b:oneB t=true) (a:k<c.length):zt t (oE ((eaddr lv 2 k).add 1)) w K=K (css.getD k (undef,undef)).2 w:=
 Sl.ldField h.row.sl b (by rw[K3,h.len];exact a) (by rw[M.getD_map _ (by rw[h.len];exact a) _ (undef,undef)];rfl)
theorem qq {α:Type} {l:List α} {x e:α} {i:Nat} (h:k<l.length):(l.set k x).getD i e=if k=i then x else l.getD i e:=by
 rw[X0,PT];by_cases e:k=i
 .subst e;rw[Q1 rfl,Q1 rfl,Q1 h];rfl
 .rw[q0 e,q0 e,<-X0]
open Classical in
theorem LayO.setD (h:LayO n tag w lv c css) (d:k<c.length) (z:n<=w.heap.size) (hs:Same (λx=>(css.getD k (undef,undef)).1.ownBlock=some x) w w2) (o:OwnD w2 dv ds) (s:∀x,dv.ownBlock=some x->(css.getD k (undef,undef)).1.ownBlock=some x\/w.heap.size<=x)
  (t:∀g m,Same (λx=>n<=x) w g->LayO n m g lv (c.set k (ds,(c.getD k ([],[])).2)) (css.set k (dv,(css.getD k (undef,undef)).2))->K undef g):zP yD (oE ((eaddr lv 2 k).add 0)) dv w2 K:=by
 have b:k<css.length:=by rw[h.len];exact d
 have v:Own 0 2 yA w2 lv (css.map λp=>[p.1,p.2]):=h.row.same hs λx a e=>by have:=(h.own x a).2;have:=(h.decn k x d e).2;omega
 refine Own.stCell v (x:=dv) o.dcls.cellsV o.dcls.one J9 (i:=k) (j:=0) (by rw[K3];exact b) dC λg r f y=>?_;rw[M.getD_map _ b _ (undef,undef)] at r;have llt:∀x,lv.ownBlock=some x->x<w.heap.size:=λx a=>(h.row.lt a).2;have nd:∀x,dv.ownBlock=some x->lv.ownBlock≠some x:=λx a e=>by
  rcases s x a with q|q
  .have:=(h.own x e).2;have:=(h.decn k x d q).2;omega
  .have:=llt x e;omega
 refine t g (λx=>if x<w.heap.size then tag x else 3*k+1) ((hs.mono λx _ a=>(h.decn k x d a).1).trans (f.mono λx _ a=>(h.own x a).1)) ⟨by rw[Pe];exact r,by simp[h.len],λx a=>⟨(h.own x a).1,by simp only[Q1 (llt x a)];exact(h.own x a).2⟩,λi hi=>?_,λi x hi a=>?_,λi hi=>?_,λi x hi a=>?_⟩
 .rw[gX] at hi;rw[qq b,qq d];by_cases e:k=i
  .rw[Q1 e,Q1 e];exact o.same f nd
  .rw[q0 e,q0 e];exact((h.dec i hi).same hs λx a q=>by have:=(h.decn i x hi a).2;have:=(h.decn k x d q).2;omega).same f λx a q=>by have:=(h.own x q).2;have:=(h.decn i x hi a).2;omega
 .rw[gX] at hi;rw[qq b] at a;by_cases e:k=i
  .rw[Q1 e] at a;subst e;rcases s x a with q|q
   .have l:=((h.dec k d).lt q).2;refine⟨(h.decn k x d q).1,?_⟩;simp only[Q1 l];exact(h.decn k x d q).2
   .refine⟨oM,?_⟩;simp only[q0 (show¬x<w.heap.size by omega)]
  .rw[q0 e] at a;have l:=((h.dec i hi).lt a).2;refine⟨(h.decn i x hi a).1,?_⟩;simp only[Q1 l];exact(h.decn i x hi a).2
 .rw[gX] at hi;rw[qq b,qq d];have q:LstH (λx=>n<=x/\(if x<w.heap.size then tag x else 3*k+1)=3*i+2) g (css.getD i (undef,undef)).2 (c.getD i ([],[])).2:=
   (((((h.ter i hi).weaken (F:=λx=>(n<=x/\tag x=3*i+2)/\x<w.heap.size) λx a u=>⟨a,u⟩).same hs (λx a q=>by have:=(h.tern i x hi a).2;have:=(h.decn k x d q).2;omega) λx a _ q=>by have:=a.1.2;have:=(h.decn k x d q).2;omega).same f (λx a q=>by have:=(h.own x q).2;have:=(h.tern i x hi a).2;omega) λx a _ q=>by have:=(h.own x q).2;have:=a.1.2;omega)).weaken λx a _=>⟨a.1.1,by simp only[Q1 a.2];exact a.1.2⟩
  by_cases e:k=i
  .rw[Q1 e,Q1 e];subst e;exact q
  .rw[q0 e,q0 e];exact q
 .rw[gX] at hi;rw[qq b] at a;replace a:(css.getD i (undef,undef)).2.ownBlock=some x:=by
   by_cases e:k=i
   .rw[Q1 e] at a;subst e;exact a
   .rw[q0 e] at a;exact a
  have l:=(h.ter i hi).lt a;refine⟨(h.tern i x hi a).1,?_⟩;simp only[Q1 l];exact(h.tern i x hi a).2
open Classical in
theorem LayO.setT (h:LayO n tag w lv c css) (d:k<c.length) (E:n<=w.heap.size) (hs:Same (λx=>(css.getD k (undef,undef)).2.ownBlock=some x\/w.heap.size<=x) w w2) (u:LstH H w2 tv ts) (y:∀x,tv.ownBlock=some x->(css.getD k (undef,undef)).2.ownBlock=some x\/w.heap.size<=x)
  (hH:∀x,H x->n<=x/\tag x=3*k+2/\x<w.heap.size\/w.heap.size<=x/\tv.ownBlock≠some x)
  (A:∀l g,Same (λx=>lv.ownBlock=some x) w2 l->(∀x,H x->n<=x/\g x=3*k+2)->LayO n g l lv (c.set k ((c.getD k ([],[])).1,ts)) (css.set k ((css.getD k (undef,undef)).1,tv))->K undef l):zP zl (oE ((eaddr lv 2 k).add 1)) tv w2 K:=by
 have b:k<css.length:=by rw[h.len];exact d
 have llt:∀x,lv.ownBlock=some x->x<w.heap.size:=λx a=>(h.row.lt a).2;have dlt:∀i x,i<c.length->(css.getD i (undef,undef)).1.ownBlock=some x->x<w.heap.size:=λi x hi a=>((h.dec i hi).lt a).2;have tlt:∀i x,i<c.length->(css.getD i (undef,undef)).2.ownBlock=some x->x<w.heap.size:=λi x hi a=>(h.ter i hi).lt a;have C:Own 0 2 yA w2 lv (css.map λp=>[p.1,p.2]):=h.row.same hs λx a e=>by
  have q:=llt x a;rcases e with e|e
  .have:=(h.own x a).2;have:=(h.tern k x d e).2;omega
  .omega
 refine Own.stCell C (x:=tv) u.tms.cellsV u.tms.one xk (i:=k) (j:=1) (by rw[K3];exact b) dC λl v f D=>?_;rw[M.getD_map _ b _ (undef,undef)] at v;have m:∀x,H x->n<=x/\(if x<w.heap.size then tag x else if tv.ownBlock=some x then 3*k+3 else 3*k+2)=3*k+2:=λx a=>by
  rcases hH x a with⟨r,o,z⟩|⟨r,o⟩
  .refine⟨r,?_⟩;simp only[Q1 z];exact o
  .refine⟨oM,?_⟩;simp only[q0 (show¬x<w.heap.size by omega),q0 o]
 have s:∀x,H x->lv.ownBlock≠some x:=λx a e=>by
  have:=llt x e;have:=(h.own x e).2;rcases hH x a with⟨r,o,z⟩|⟨r,o⟩<;>omega
 have t:∀x,tv.ownBlock=some x->lv.ownBlock≠some x:=λx a e=>by
  have:=llt x e;have:=(h.own x e).2;rcases y x a with q|q
  .have:=(h.tern k x d q).2;omega
  .omega
 refine A l _ f m ⟨by rw[Pe];exact v,by simp[h.len],λx a=>⟨(h.own x a).1,by simp only[Q1 (llt x a)];exact(h.own x a).2⟩,λi hi=>?_,λi x hi a=>?_,λi hi=>?_,λi x hi a=>?_⟩
 .rw[gX] at hi;rw[qq b,qq d];have q:OwnD l (css.getD i (undef,undef)).1 (c.getD i ([],[])).1:=((h.dec i hi).same hs λx a q=>by
   have:=dlt i x hi a;rcases q with q|q
   .have:=(h.decn i x hi a).2;have:=(h.tern k x d q).2;omega
   .omega).same f λx a q=>by have:=(h.own x q).2;have:=(h.decn i x hi a).2;omega
  by_cases e:k=i
  .rw[Q1 e,Q1 e];subst e;exact q
  .rw[q0 e,q0 e];exact q
 .rw[gX] at hi;rw[qq b] at a;replace a:(css.getD i (undef,undef)).1.ownBlock=some x:=by
   by_cases e:k=i
   .rw[Q1 e] at a;subst e;exact a
   .rw[q0 e] at a;exact a
  refine⟨(h.decn i x hi a).1,?_⟩;simp only[Q1 (dlt i x hi a)];exact(h.decn i x hi a).2
 .rw[gX] at hi;rw[qq b,qq d];by_cases e:k=i
  .rw[Q1 e,Q1 e];subst e;exact(u.same f (λx a q=>t x a q) λx a _ q=>s x a q).weaken λx a _=>m x a
  .rw[q0 e,q0 e];refine((((h.ter i hi).weaken (F:=λx=>(n<=x/\tag x=3*i+2)/\x<w.heap.size) λx a B=>⟨a,B⟩).same hs (λx a q=>?_) λx a _ q=>?_).same f (λx a q=>?_) λx a _ q=>?_).weaken λx a _=>⟨a.1.1,by simp only[Q1 a.2];exact a.1.2⟩
   .have:=tlt i x hi a;rcases q with q|q
    .have:=(h.tern i x hi a).2;have:=(h.tern k x d q).2;omega
    .omega
   .have:=a.2;rcases q with q|q
    .have:=a.1.2;have:=(h.tern k x d q).2;omega
    .omega
   .have:=(h.own x q).2;have:=(h.tern i x hi a).2;omega
   .have:=(h.own x q).2;have:=a.1.2;omega
 .rw[gX] at hi;rw[qq b] at a;by_cases e:k=i
  .rw[Q1 e] at a;subst e;rcases y x a with q|q
   .refine⟨(h.tern k x d q).1,?_⟩;simp only[Q1 (tlt k x d q)];exact(h.tern k x d q).2
   .refine⟨oM,?_⟩;replace a:tv.ownBlock=some x:=a;simp only[q0 (show¬x<w.heap.size by omega),Q1 a]
  .rw[q0 e] at a;refine⟨(h.tern i x hi a).1,?_⟩;simp only[Q1 (tlt i x hi a)];exact(h.tern i x hi a).2
theorem LayO.stEl {i:Nat} {cs:List Value} (h:LayO n tag w lv c css) (f:k<c.length) (hi:i<(c.getD k ([],[])).2.length) (o:TmR (λx=>n<=x/\tag x=3*k+2) w cs t)
  (m:∀g,Same (λx=>(css.getD k (undef,undef)).2.ownBlock=some x) w g->LayO n tag g lv (c.set k ((c.getD k ([],[])).1,(c.getD k ([],[])).2.set i t)) css->K undef g):zP za (.pointer (some (eaddr (css.getD k (undef,undef)).2 5 i))) (.agg ⟨cs⟩) w K:=by
 refine LstH.st (h.ter k f) hi o (λx b q=>by have:=(h.tern k x f b).2;omega) λg d p l=>m g d ⟨h.row.same d λx b q=>by have:=(h.own x b).2;have:=(h.tern k x f q).2;omega,by rw[gX];exact h.len,h.own,λj a=>?_,λj x a b=>h.decn j x (by rw[gX] at a;exact a) b,λj a=>?_,λj x a b=>h.tern j x (by rw[gX] at a;exact a) b⟩
 .rw[gX] at a;rw[qq f];have q:OwnD g (css.getD j (undef,undef)).1 (c.getD j ([],[])).1:=(h.dec j a).same d λx b q=>by have:=(h.decn j x a b).2;have:=(h.tern k x f q).2;omega
  by_cases e:k=j
  .rw[Q1 e];subst e;exact q
  .rw[q0 e];exact q
 .rw[gX] at a;rw[qq f];by_cases e:k=j
  .rw[Q1 e];subst e;exact l
  .rw[q0 e];exact(h.ter j a).same d (λx b q=>by have:=(h.tern j x a b).2;have:=(h.tern k x f q).2;omega) λx b _ q=>by have:=b.2;have:=(h.tern k x f q).2;omega
theorem LayO.appT {cs:List Value} {bz len:Nat} (h:LayO n tag w lv c css) (f:k<c.length) (hn:n<=w.heap.size) (he:Ext w w1) (hz:Blk w1 bz JN za) (ht:TmR G w1 cs t) (hG:∀x,G x->x<w1.heap.size->w.heap.size<=x) (a0:(c.getD k ([],[])).2.length<=2000000)
  (hlen:len=(c.getD k ([],[])).2.length) {J:World->Prop} (hJ:∀w' D R,Same (λx=>n<=x) w w'->LayO n D w' lv (c.set k ((c.getD k ([],[])).1,(c.getD k ([],[])).2++[t])) (css.set k ((css.getD k (undef,undef)).1,R))->J w'):
  vbi .append [zl,zl] zl [(css.getD k (undef,undef)).2,.slice (some ⟨bz,0,none⟩) 1 1] w1 λt39 d=>
   zX zl t39 (nI len) d λt40 S=>S=d/\
   zX yA lv (nI k) d λt41 T=>T=d/\
   zz zW t41 1 d λt42 U=>U=d/\
   (zP za t40 (.agg ⟨cs⟩) d λ_ l=>(zz zW t41 1 l λv x=>v=t42/\x=l)/\(zX yA lv (nI k) l λv x=>v=t41/\x=l)/\
    (zP zl t42 t39 l λ_ V=>J V)/\True)/\
   (zP zl t42 t39 d λ_ r=>(zX zl t39 (nI len) r λv x=>v=t40/\x=r)/\
    (zP za t40 (.agg ⟨cs⟩) r λ_ W=>J W)/\True)/\True:=by
 subst hlen;have L:k<css.length:=by rw[h.len];exact f
 have z1:=he.size;have ltv:∀x,(css.getD k (undef,undef)).2.ownBlock=some x->x<w.heap.size:=λx a=>(h.ter k f).lt a;refine LstH.app (H2:=λ_=>False) (us:=[.mk 0 0 0 M.nada []]) (((h.ter k f).weaken (F:=λx=>(n<=x/\tag x=3*k+2)/\x<w.heap.size) λx a E=>⟨a,E⟩).ext he) (λx a=>⟨λq=>by have:=(h.tern k x f a).2;omega,λq=>q⟩) (hz.sl1k rfl) rfl (λi hi=>?_) (by simp only[gG];omega) λw2 b p y Z=>?_
 .have:i=0:=(by simpa using hi);subst this;exact X50
 have z2:=p.size;have m:Same (λx=>(css.getD k (undef,undef)).2.ownBlock=some x\/w.heap.size<=x) w w2:=(Same.of_ext he).trans (p.mono λx _ a=> .inl a);have j:∀x,b.ownBlock=some x->(css.getD k (undef,undef)).2.ownBlock=some x\/w.heap.size<=x:=λx a=>(y x a).imp id λq=>oM
 have u:(c.getD k ([],[])).2.length<((c.getD k ([],[])).2++[M.Tm.mk 0 0 0 M.nada []]).length:=by rw[V0,gG];omega
 have B:∀{w':World} {K:oK},zX zl b (nI (c.getD k ([],[])).2.length) w' K=K (.pointer (some (eaddr b 5 (c.getD k ([],[])).2.length))) w':=λ{w' K}=>by
  have:=Z.tms.iaddr (K:=K) (w':=w') (kd:= .i64) Jj (i:=((c.getD k ([],[])).2.length:Int)) oM oM;rwa[gn] at this
 have Q:∀x,(n<=x/\tag x=3*k+2)/\x<w.heap.size->b.ownBlock≠some x:=λx a e=>by
  rcases j x e with q|q
  .have:=(h.tern k x f q).2;have:=a.1.2;omega
  .omega
 have A:TmR (λx=>((n<=x/\tag x=3*k+2)/\x<w.heap.size)\/(w.heap.size<=x/\x<w1.heap.size)) w2 cs t:=((ht.weaken (F':=λx=>w.heap.size<=x/\x<w1.heap.size) λx a E=>⟨hG x a E,E⟩).same p λx a _ e=>by have:=ltv x e;omega).weaken λx a _=> .inr a;have C:∀x,(w.heap.size<=x/\x<w1.heap.size)->b.ownBlock≠some x:=λx a e=>by
  rcases y x e with q|q
  .have:=ltv x q;omega
  .omega
 have hH:∀x,(((n<=x/\tag x=3*k+2)/\x<w.heap.size)\/(w.heap.size<=x/\x<w1.heap.size))->n<=x/\tag x=3*k+2/\x<w.heap.size\/w.heap.size<=x/\b.ownBlock≠some x:=λx a=>by
  rcases a with a|a
  .exact .inl ⟨a.1.1,a.1.2,a.2⟩
  .exact .inr ⟨a.1,C x a⟩
 have s:LstH (λx=>((n<=x/\tag x=3*k+2)/\x<w.heap.size)\/(w.heap.size<=x/\x<w1.heap.size)) w2 b ((c.getD k ([],[])).2++[M.Tm.mk 0 0 0 M.nada []]):=Z.weaken λx a _=>a.1.elim .inl λq=>q.elim;rw[B];refine⟨rfl,?_⟩;rw[h.ia y4 f];refine⟨rfl,?_⟩;rw[zY];refine⟨rfl,?_,?_,trivial⟩
 .refine LstH.st s u A (λx a q=>q.elim (λq=>Q x q a) λq=>C x q a) λw3 z a1 h3=>?_;rw[xA0] at h3;rw[zY,h.ia y4 f];refine⟨⟨rfl,rfl⟩,⟨rfl,rfl⟩,?_,trivial⟩;refine LayO.setT h f hn (m.trans (z.mono λx _ a=>j x a)) h3 j hH λw4 g o _ H=>hJ w4 g b ?_ H;exact((m.mono λx _ a=>a.elim (λq=>(h.tern k x f q).1) λq=>oM).trans (z.mono λx _ a=>(j x a).elim (λq=>(h.tern k x f q).1) λq=>oM)).trans (o.mono λx _ a=>(h.own x a).1)
 .refine LayO.setT h f hn m s j hH λw4 g o I H=>?_;rw[B];refine⟨⟨rfl,rfl⟩,?_,trivial⟩;have Y:(css.set k ((css.getD k (undef,undef)).1,b)).getD k (undef,undef)=((css.getD k (undef,undef)).1,b):=(by rw[qq L,Q1 rfl]);have X:(c.set k ((c.getD k ([],[])).1,(c.getD k ([],[])).2++[M.Tm.mk 0 0 0 M.nada []])).getD k ([],[])=((c.getD k ([],[])).1,(c.getD k ([],[])).2++[M.Tm.mk 0 0 0 M.nada []]):=(by rw[qq f,Q1 rfl]);have O:=(A.same o λx a _ q=>by
   have:=(h.own x q).2;have:=(h.row.lt q).2;rcases a with a|a
   .have:=a.1.2;omega
   .omega).weaken (F':=λx=>n<=x/\g x=3*k+2) λx a _=>I x a
  have:=LayO.stEl (K:=λ_ w=>J w) (t:=t) (i:=(c.getD k ([],[])).2.length) H (by rw[gX];exact f) (by rw[X];exact u) O λw5 N h5=>?_
  .rw[Y] at this;exact this
  .rw[X,Y] at*;rw[xA0,List.set_set] at h5;refine hJ w5 g b ?_ h5;exact((m.mono λx _ a=>a.elim (λq=>(h.tern k x f q).1) λq=>oM).trans (o.mono λx _ a=>(h.own x a).1)).trans (N.mono λx _ a=>(j x a).elim (λq=>(h.tern k x f q).1) λq=>oM)
end
section
variable {w w' w1 w2:World} {K:oK} {F G H S:oA} {n b k:Nat} {v lv tv dv xv f:Value} {t:M.Tm} {ts:List M.Tm} {d:M.Dcl} {ds es:List M.Dcl} {c e x:List M.Lay} {tag:Nat->Nat} {css:List (Value×Value)}
theorem LaysR.nilB {b:Nat}:LaysR F w (.slice (some ⟨b,0,none⟩) 0 0) []:=⟨[],⟨⟨_,0,rfl,by simp,by simp,by simp⟩,by simp⟩,rfl,by simp⟩
theorem Xz (h:M.ctxOk c=true):∀i,i<c.length->∀t,t∈(c.getD i ([],[])).2->jS0 t=true:=λi hi t a=>fit_ok ((M.ctx_iff.1 h).2.2.2.2 i hi t a)
theorem l10Now_spec (m:LaysR F w v c) (d:M.ctxOk c=true) (i:LaysR G w xv x) (l:CtxB x) (g:YY (M.decL x))
  (h:∀w' r,Ext w w'->LaysR (λz=>G z\/w.heap.size<=z) w' r (if M.ctxOk x=true then x else c)->K (.tuple #[r,.bool (M.ctxOk x)]) w'):vcall Ui #[v,xv] w K:=by
 refine ze {} Tryz.func208 ?_;refine spec_CtxOk_spec i l g λw1 b=>?_;refine oZ ?_;refine zm (λa=>?_) (λa=>?_)
 .have f:M.ctxOk x=false:=(by simpa using a);refine l10Copy_spec (m.ext b) (ctxB_of d) (Xz d) λw2 lv tag css e k=>?_;have:=h w2 lv (b.trans e);rw[f,q0 dC] at this;have n:=b.size;exact this (k.lays.weaken λz j _=> .inr oM)
 .have f:M.ctxOk x=true:=(by simpa using a);have:=h w1 xv b;rw[f,Q1 rfl] at this;exact this ((i.ext b).weaken λz j _=> .inl j)
theorem Ww (h:M.ctxOk c=true):chg c x=(if M.ctxOk x=true then x else c,M.ctxOk x):=by
 unfold chg;rw[Q1 h];cases a:M.ctxOk x<;>simp
theorem xV0 (h:M.ctxOk c≠true):chg c x=([],false):=by unfold chg;rw[q0 h]
theorem sized_app {d:M.Dcl} (h:YY ds) (a:d.1.size<=9223372036854775807):YY (ds++[d]):=λi hi=>by
 rw[V0] at hi;by_cases e:i<ds.length
 .rw[M.app_getD e];exact h i e
 .have e:i=ds.length:=by simp at hi;omega
  rw[Zv oM,e,GR];exact a
theorem ctxB_push (h:M.ctxOk c=true):CtxB (c++[([],[])]):=by
 have q:=ctxB_of h;have:=(M.ctx_iff.1 h).2.1;exact⟨by rw[V0];simp;omega,by rw[M.decL_app,M.decL_one,gF];exact q.dec,by rw[M.terL_app,M.terL_one,gF];exact q.ter⟩
theorem ctxB_addD (h:M.ctxOk c=true):CtxB (M.addD c d):=by
 have q:=ctxB_of h;have a:=(M.decl_iff.1 (M.ctx_iff.1 h).2.2.1).1;exact⟨by rw[M.addD_len];exact q.len,by rw[M.addD_decL (ctx_ne h),V0];simp;omega,by rw[M.addD_terL (ctx_ne h)];exact q.ter⟩
theorem spec_CtxPush_spec (m:LaysR F w v c) (u:CtxB c) (i:YY (M.decL c)) (n:∀w' v',Ext w w'->LaysR (λx=>w.heap.size<=x) w' v' (chg c (c++[([],[])])).1->K (.tuple #[v',.bool (chg c (c++[([],[])])).2]) w'):vcall VA #[v] w K:=by
 refine ze {} Tryz.func209 ?_;refine spec_CtxOk_spec m u i λw1 e=>?_;refine oZ ?_;have D:=e.size;refine zm (λa=>?_) (λa=>?_)
 .refine zV xh xD λb w2 y f z t=>?_;have:=n w2 (.slice (some ⟨b,0,none⟩) 0 0) (e.trans f);rw[xV0 (by simpa using a)] at this;exact this LaysR.nilB
 .have d:M.ctxOk c=true:=(by simpa using a);refine l10Copy_spec (m.ext e) (ctxB_of d) (Xz d) λw2 lv tag css f p=>?_;have z2:=f.size;refine LayO.push (H:=λ_=>False) (ds:=[]) (ts:=[]) p oM (Same.refl _ _) (Own.nil 0 2 _ w2) (λx g=>(by cases g)) LstH.nil (λx g=>g.elim) (λx g=>(by cases g)) (by have:=(ctxB_of d).len;omega) λB A o l q=>?_;have j:Ext w1 B:=Ext.then f l λx g=>g;refine l10Now_spec (m.ext (e.trans j)) d q.lays (ctxB_push d) (by rw[M.decL_app,M.decL_one,gF];exact i) λC r k s=>?_
  try simp only[push_cast]
  have:=n C r (e.trans (j.trans k));rw[Ww d] at this;have z3:=j.size;exact this (s.weaken λx g _=>by rcases g with h|h<;>omega)
theorem spec_CtxName_spec (H:LaysR F w v c) (z:CtxB c) (o:YY (M.decL c)) (X:d.1.size<=9223372036854775807) (N:∀w' v',Ext w w'->LaysR (λx=>w.heap.size<=x) w' v' (chg c (M.addD c d)).1->K (.tuple #[v',.bool (chg c (M.addD c d)).2]) w'):
  vcall VB #[v,.agg ⟨[.string d.1,nI d.2]⟩] w K:=by
 refine ze {} Tryz.func143 ?_;refine zk λb1 w0 U j Y t=>?_;refine spec_CtxOk_spec (H.ext j) z o λw1 k=>?_;refine oZ ?_;have z0:=j.size;have z1:=k.size;have p:=j.trans k;refine zm (λa=>?_) (λa=>?_)
 .refine zV xh xD λb w2 V f Z T=>?_;have:=N w2 (.slice (some ⟨b,0,none⟩) 0 0) (p.trans f);rw[xV0 (by simpa using a)] at this;exact this LaysR.nilB
 .have e:M.ctxOk c=true:=(by simpa using a);have n:=ctx_ne e;have O:0<c.length:=Gh.2 n;have hlen:=z.len;have m:c.length-1<c.length:=oM;have h4:=(M.decl_iff.1 (M.ctx_iff.1 e).2.2.1).1;refine l10Copy_spec (H.ext p) (ctxB_of e) (Xz e) λw2 lv tag css f J=>?_;have z2:=f.size;simp only[push_cast,J.lays.len];rw[zj oM oM,show(c.length:Int)-1=((c.length-1:Nat):Int) by omega];refine zd λw3 i _=>?_;have s:=J.ext i;have u:=t.ext (k.trans (f.trans i));simp(disch:=first|(simp only[push_cast])|exact m) only[push_cast,s.ia,s.ldD,k6,stD u];refine yL kB Zc qz rfl rfl dC λb4 w4 W l a0 y=>?_;have g:=s.ext l;simp(disch:=first|(simp only[push_cast])|exact m) only[push_cast,g.ia,g.ldD,k6,gi];have z3:=i.size;have z4:=l.size;have dl:(c.getD (c.length-1) ([],[])).1.length<=1048576:=by
   have:=(ctxB_take z (c.length-1+1)).dec;rw[M.decL_take m,V0] at this;omega
  refine OwnD.app (es:=[d]) (g.dec _ m) (y.sl1k rfl) (by simp only[gG];omega) λw5 R E D B=>?_
  try simp only[push_cast,k6]
  refine LayO.setD g m oM E B D λw6 Q G L=>?_;have q:Ext w1 w6:=Ext.then (f.trans (i.trans l)) G λx I=>I;have A:c.set (c.length-1) ((c.getD (c.length-1) ([],[])).1++[d],(c.getD (c.length-1) ([],[])).2)=M.addD c d:=rfl;rw[A] at L;refine l10Now_spec (H.ext (p.trans q)) e L.lays (ctxB_addD e) (by rw[M.addD_decL n];exact sized_app o X) λw7 r C S=>?_
  try simp only[push_cast]
  have:=N w7 r (p.trans (q.trans C));rw[Ww e] at this;have z6:=q.size;exact this (S.weaken λx I _=>by rcases I with h|h<;>omega)
theorem spec_CtxPop_spec (m:LaysR F w v c) (k:CtxB c) (i:YY (M.decL c)) (n:∀w' v',Ext w w'->LaysR (λx=>w.heap.size<=x) w' v' (chg c (c.take (c.length-1))).1->K (.tuple #[v',.bool (chg c (c.take (c.length-1))).2]) w'):vcall Up #[v] w K:=by
 refine ze {} Tryz.func210 ?_;refine spec_CtxOk_spec m k i λw1 d=>?_;refine oZ ?_;have z:=d.size;refine zm (λa=>?_) (λa=>?_)
 .refine zV xh xD λb w2 s e u q=>?_;have:=n w2 (.slice (some ⟨b,0,none⟩) 0 0) (d.trans e);rw[xV0 (by simpa using a)] at this;exact this LaysR.nilB
 .have f:M.ctxOk c=true:=(by simpa using a);have g:=ctx_ne f;have o:0<c.length:=Gh.2 g;have hlen:=k.len;refine l10Copy_spec (m.ext d) (ctxB_of f) (Xz f) λw2 lv tag css e j=>?_;have z2:=e.size;simp only[push_cast,j.lays.len];rw[zj oM oM,show(c.length:Int)-1=((c.length-1:Nat):Int) by omega,j.lays.cut g y4 oM];refine l10Now_spec (m.ext (d.trans e)) f (j.lays.taken (by omega:c.length-1<=c.length)) (ctxB_take k _) (sized_take i) λy r l p=>?_
  try simp only[push_cast]
  have:=n y r (d.trans (e.trans l));rw[Ww f] at this;exact this (p.weaken λx t _=>by rcases t with h|h<;>omega)
theorem spec_CtxNew_spec (e:∀w' v',Ext w w'->LaysR (λx=>w.heap.size<=x) w' v' [([],[])]->K v' w'):vcall Uq #[] w K:=by
 refine ze {} Tryz.func144 ?_;refine oZ ?_;refine yL xh xD qD rfl rfl dC λb w1 g c f a=>?_;refine e w1 _ c ⟨[(oN,oN)],(a.sl1k rfl).weaken λx d _=>oM,rfl,λi hi=>?_⟩;have:i=0:=by simpa using hi
 subst this;exact⟨(Own.nil 0 2 yD w1).sl.weaken λx d _=>(by cases d),TmsR.nil⟩
theorem spec_CtxAssert_spec (T:LaysR F w v c) (ht:TermR G w tv t) (N:CtxB c) (S:YY (M.decL c)) (hK:∀w' v',Ext w w'->LaysR (λx=>w.heap.size<=x) w' v' (chg c (M.addT c t)).1->K (.tuple #[v',.bool (chg c (M.addT c t)).2]) w'):
  vcall Jn #[v,tv] w K:=by
 refine ze {cuts:=[(16389,[]),(32776,[])]} Tryz.func211 ?_;obtain⟨cs,rfl,B⟩:=ht.cells;have X:aggB za cs.length=true:=by rw[zU B];exact zc
 refine zk λb1 w0 af C aj H=>?_;refine spec_CtxOk_spec (T.ext C) N S λw1 p=>?_;refine oZ ?_;have z0:=C.size;have z1:=p.size;have q:=C.trans p;refine zm (λa=>?_) (λa=>?_)
 .refine zV xh xD λb w2 ag d ak A=>?_;have:=hK w2 (.slice (some ⟨b,0,none⟩) 0 0) (q.trans d);rw[xV0 (by simpa using a)] at this;exact this LaysR.nilB
 have j:M.ctxOk c=true:=by simpa using a
 have a5:=ctx_ne j;have ab:0<c.length:=Gh.2 a5;have hlen:=N.len;have g:c.length-1<c.length:=oM
 have o:=M.ctx_addT (t:=t) j;have bad:M.ctxOk (M.addT c t)≠true->∀{w2:World},Ext w1 w2->vcall X3 #[v] w2 λt24 V=>K (.tuple #[t24,.bool false]) V:=λhn {w2} d=>by
  refine l10Copy_spec (T.ext (q.trans d)) (ctxB_of j) (Xz j) λU lv tag css i W=>?_;have:=hK U lv (q.trans (d.trans i));rw[Ww j,q0 hn,P3 _|>.mp hn] at this;have z2:=d.size;exact this (W.lays.weaken λx D _=>oM)
 refine zp (λu w'=>u=[]/\Ext w1 w'/\M.tsort (M.decL c) t=0/\(M.terL c).length<8) (λJ hJ=>?_) ?_
 .refine zd λw2 d _=>?_;have A:=H.ext (p.trans d);rw[A.ldAgg X];refine⟨rfl,?_⟩;refine l10Decls_spec (T.ext (q.trans d)) N λU dv i a4=>?_;rw[(A.ext i).ldAgg X];refine⟨⟨rfl,rfl⟩,?_⟩;have E:=d.trans i;refine spec_TermSort_spec S a4 (B.ext (q.trans E)).term λw4 l=>?_;have Z:=E.trans l;simp only[push_cast,k6];refine zb (λY=>bad (λh=>?_) Z) (λY=>?_)
  .rw[o,gh,V1] at h;exact Y h.1
  refine l10Terms_spec (T.ext (q.trans Z)) N λw5 aa f a9=>?_;simp only[push_cast,a9.len,k6];have e5:=Z.trans f;refine zb (λa2=>bad (λh=>?_) e5) (λa2=>?_)
  .rw[o,gh,V1,V1] at h;omega
  exact hJ _ _ ⟨rfl,e5,Ph.1 Y,oM⟩
 rintro _ _ w2 ⟨rfl,d,R,h8⟩;have s:M.ctxOk (M.addT c t)=true:=by rw[o,gh,V1,V1];exact⟨R,h8⟩
 refine l10Copy_spec (T.ext (q.trans d)) (ctxB_of j) (Xz j) λU lv tag css i W=>?_;have E:=q.trans (d.trans i);simp only[push_cast,W.lays.len];rw[zj oM oM,show(c.length:Int)-1=((c.length-1:Nat):Int) by omega];have z2:=d.size;have z3:=i.size;have Q:∀{w':World} {e:Nat->Nat} {k:Value},Same (λx=>w2.heap.size<=x) U w'->LayO w2.heap.size e w' lv (M.addT c t) (css.set (c.length-1) ((css.getD (c.length-1) (undef,undef)).1,k))->K (.tuple #[lv,.bool true]) w':=λ{w' e k} hs h=>by
  have:=hK w' lv (Ext.then E hs λx D=>oM);rw[Ww j,Q1 s,s] at this;exact this (h.lays.weaken λx D _=>oM)
 refine zp (λu w'=>u=[]/\∃e k,Same (λx=>w2.heap.size<=x) U w'/\LayO w2.heap.size e w' lv (M.addT c t) (css.set (c.length-1) ((css.getD (c.length-1) (undef,undef)).1,k))) (λJ hJ=>?_) ?_
 .refine zd λw4 l _=>?_;have y:=W.ext l;have z4:=l.size;have I:=H.ext ((p.trans (d.trans i)).trans l);have O:=B.ext (E.trans l);have r:=fit_ok R;have tl:(c.getD (c.length-1) ([],[])).2.length<=2000000:=by
   have:=(ctxB_take N (c.length-1+1)).ter;rw[M.terL_take g,V0] at this;omega
  have L:∀w' e k,Same (λx=>w2.heap.size<=x) w4 w'->LayO w2.heap.size e w' lv (c.set (c.length-1) ((c.getD (c.length-1) ([],[])).1,(c.getD (c.length-1) ([],[])).2++[t])) (css.set (c.length-1) ((css.getD (c.length-1) (undef,undef)).1,k))->J [] w':=λw' e k hs h=>hJ _ _ ⟨rfl,e,k,(Same.of_ext l).trans hs,h⟩;rw[y.ia y4 g];refine⟨rfl,?_⟩;rw[zY];refine⟨rfl,?_⟩;rw[y.ldT y5 g];refine⟨rfl,?_⟩;rw[I.ldAgg X];refine⟨rfl,?_⟩;rw[(y.ter _ g).tms.len yB];refine⟨rfl,?_,?_,trivial⟩
  .refine l3Copy_spec _ O.term r λw5 ad f a6=>?_;have n:=y.ext f;have z5:=f.size;rw[(n.ter _ g).tms.len yB,n.ldT y5 g,zY,n.ia y4 g];refine⟨⟨rfl,rfl⟩,⟨rfl,rfl⟩,⟨rfl,rfl⟩,⟨rfl,rfl⟩,?_,trivial⟩;refine yL yr yJ zn rfl rfl dC λb6 w6 ai m am a3=>?_;have z:=n.ext m;rw[(z.ter _ g).tms.len yB,z.ldT y5 g,zY,z.ia y4 g];refine⟨⟨rfl,rfl⟩,⟨rfl,rfl⟩,⟨rfl,rfl⟩,⟨rfl,rfl⟩,?_,trivial⟩;exact LayO.appT y g oM (f.trans m) a3 ((WF _ a6).ext m) (λx D _=>D.1) tl rfl L
  .refine yL yr yJ zn rfl rfl dC λb5 w5 ah f al a0=>?_;have n:=y.ext f;have z5:=f.size;rw[(n.ter _ g).tms.len yB,(I.ext f).ldAgg X,n.ldT y5 g,zY,n.ia y4 g];refine⟨⟨rfl,rfl⟩,⟨rfl,rfl⟩,⟨rfl,rfl⟩,⟨rfl,rfl⟩,⟨rfl,rfl⟩,?_,trivial⟩;refine l3Copy_spec _ (O.ext f).term r λw6 ae m a7=>?_;have z:=n.ext m;rw[(z.ter _ g).tms.len yB,z.ldT y5 g,zY,z.ia y4 g];refine⟨⟨rfl,rfl⟩,⟨rfl,rfl⟩,⟨rfl,rfl⟩,⟨rfl,rfl⟩,?_,trivial⟩;exact LayO.appT y g oM (f.trans m) (a0.ext m) (WF _ a7) (λx D _=>by have:=D.1;omega) tl rfl L
 .rintro _ _ w5 ⟨rfl,ac,aa,a8,n⟩;exact Q a8 n
end
section
variable {w w' w1 w2:World} {K:oK} {F F' D G H S:oA} {n b k p:Nat} {v cv tv dv f:Value} {xs:List Nat} {t:M.Tm} {d:M.Dcl} {c c' x:List M.Lay}
def ZT0 (c:List M.Lay):Prop:=M.ctxOk c=true/\∀d,d∈M.decL c->d.1.size<=5
theorem dokL_dok (h:ZT0 c):Dok (M.decL c)/\(M.decL c).length<=4:=by
 have a:=(M.ctx_iff.1 h.1).2.2.1;have b:=(M.decl_iff.1 a).1;exact⟨⟨oM,λi hi=>⟨(M.dcl_wide a hi).1,(M.dcl_wide a hi).2,h.2 _ (M.getD_mem hi _)⟩⟩,b⟩
theorem xQ0 (h:ZT0 c) (b:∀d,d∈M.decL x->d.1.size<=5):ZT0 (chg c x).1:=by
 rw[Ww h.1];by_cases a:M.ctxOk x=true
 .rw[Q1 a];exact⟨a,b⟩
 .rw[q0 a];exact h
theorem cost_up {p b c i a k:Nat} (d:b<=p+a+k*i) (e:c<=b+k):c<=p+a+k*(i+1):=by
 rw[Nat.mul_succ];omega
theorem l10Act_spec (h:RdR F w b v xs p) (hF:∀x,F x->x<w.heap.size) (hc:LaysR D w cv c) (hD:∀x,D x->x≠b) (f:ZT0 c) (hp:p+300000<1099511627776)
  (hK:∀w' p' I c',Same (· =b) w w'->RdR F w' b v xs p'->p'<=p+200010->LaysR (λx=>w.heap.size<=x) w' I c'->ZT0 c'->K I w'):vcall Uk #[oP b 0,cv] w K:=by
 refine ze {cuts:=[(24583,[20])]} Tryz.func145 ?_;have lb:=h.blk.lt;have n:=ctxB_of f.1;obtain⟨L,a7⟩:=dokL_dok f;have B:=dok_sized L;have Q:=ctx_ne f.1;refine vbuildS_row1 (xs:=([⟨#[120]⟩,⟨#[121]⟩,⟨#[122]⟩,⟨#[119]⟩,⟨#[118]⟩]:List ByteArray).map .string) ZN rK ZG (λx a=>by obtain⟨s,_,rfl⟩:=gu.1 a;rfl) dC λb1 w1 a6 E R W=>?_;have a2:Vals (· =b1) w1 (.slice (some ⟨b1,0,none⟩) 5 5) (([⟨#[120]⟩,⟨#[121]⟩,⟨#[122]⟩,⟨#[119]⟩,⟨#[118]⟩]:List ByteArray).map .string):=W.sl1 rfl dC;have z1:=E.size;refine l10Decls_spec (hc.ext E) n λw2 dv G Y=>?_;have z2:=G.size;have U:=E.trans G;refine pick_spec (h.ext U) oM oM λw3 m A a9 r hm _=>?_;have z:=(hc.ext U).same A λx a _ e=>hD x a e;have Z:=(Y.weaken (F':=λx=>w1.heap.size<=x/\x<w2.heap.size) λx a hl=>⟨a,hl⟩).same A λx a _ e=>oM
 have a1:=(a2.ext G).same A λx a _ e=>oM
 have s3:Same (· =b) w w3:=(Same.of_ext U).trans A;refine zp (λu w'=>(∃q,u=[.bool q])/\w'=w3) (λJ hJ=>?_) ?_
 .refine oZ ?_;refine zb (λ_=>hJ _ _ ⟨⟨_,rfl⟩,rfl⟩) (λ_=>hJ _ _ ⟨⟨_,rfl⟩,rfl⟩)
 rintro _ _ _ ⟨⟨q,rfl⟩,rfl⟩;refine oZ ?_;have fin:∀{C H:World} {T:Nat} {o:Value} {x:List M.Lay},Same (· =b) w C->w.heap.size<=C.heap.size->RdR F C b v xs T->T<=p+200010->Ext C H->LaysR (λx=>C.heap.size<=x) H o (chg c x).1->(∀d,d∈M.decL x->d.1.size<=5)->K o H:=λ{C H T o x} g a5 l a3 N a0 hn=>by
  exact hK H T o _ (g.trans (Same.of_ext N)) (l.ext N) a3 (a0.weaken λy hy _=>oM) (xQ0 f hn)
 refine zm (λ_=>?_) (λ_=>?_)
 .refine strof_spec r a1 (by simp) (by simp) oM (λx a e=>by subst a;omega) λC s g a5 l hs=>?_;refine pick_spec l oM oM λH m5 S aa V O _=>?_;have O:=O oM;simp(disch:=exact oS) only[push_cast,zj];have X:=(z.same g λx a _ e=>hD x a e).same S λx a _ e=>hD x a e;have R:s.size<=5:=by
   simp only[gj,gA,Gk] at hs;rcases hs with rfl|rfl|rfl|rfl|rfl<;>decide
  refine spec_CtxName_spec (d:=(s,1+(m5:Int))) X n B (by show s.size<=_;omega) λw6 v6 i j=>?_
  try simp only[push_cast]
  refine fin ((s3.trans g).trans S) oM V oM i j λd k=>?_;rw[M.addD_decL Q] at k;rcases gm.1 k with k|k
  .exact f.2 d k
  .rw[gx.1 k];exact R
 refine zb (λ_=>?_) (λ_=>?_)
 .refine spec_CtxPush_spec z n B λw6 v6 i j=>?_
  try simp only[push_cast]
  refine fin s3 oM r oM i j λd k=>?_;rw[M.decL_app,M.decL_one,gF] at k;exact f.2 d k
 refine zb (λ_=>?_) (λ_=>?_)
 .refine spec_CtxPop_spec z n B λw6 v6 i j=>?_
  try simp only[push_cast]
  refine fin s3 oM r oM i j λd k=>?_;exact f.2 d (by rw[M.decL_split c (c.length-1)];exact gQ _ k)
 .refine l8Some_spec r (λx a=>by have:=hF x a;omega) Z (λx a e=>oM) (λx a=>oM) L oM oM oM λC p4 tv t g l a8 a4 _=>?_;have z4:=g.size;refine spec_CtxAssert_spec (z.same g λx a _ e=>hD x a e) a4 n B λw6 v6 i j=>?_
  try simp only[push_cast]
  refine fin (s3.trans g) oM l oM i j λd k=>?_;rw[M.addT_decL Q] at k;exact f.2 d k
theorem dokL_new {s:ByteArray} {m:Int} (h:s.size<=5) (hs:s=⟨#[120]⟩) (c:1<=m) (e:m<=4):ZT0 (chg [([],[])] (M.addD [([],[])] (s,m))).1:=by
 have b:M.ctxOk [([],[])]=true:=by decide+kernel
 refine xQ0 ⟨b,λd a=>by cases a⟩ λd a=>?_;have:d=(s,m):=by simpa[M.addD,M.decL] using a
 rw[this];exact h
theorem l10Ctx_spec (h:RdR F w b v xs p) (hF:∀x,F x->x<w.heap.size) (hp:p+4000000<1099511627776)
  (X:∀w' A k c',Same (· =b) w w'->RdR F w' b v xs A->A<=p+3000000->LaysR (λx=>w.heap.size<=x) w' k c'->ZT0 c'->K k w'):vcall Uj #[oP b 0] w K:=by
 refine ze {loops:=[(3,[3,5])]} Tryz.func102 ?_;have lb:=h.blk.lt;refine spec_CtxNew_spec λw1 v1 f L=>?_;have z1:=f.size;refine pick_spec (h.ext f) oM oM λw2 m r Y D hm _=>?_;have hm:=hm oM;simp(disch:=exact oS) only[push_cast,zj];have N:=L.same r λx j _ e=>oM
 refine spec_CtxName_spec (d:=(⟨#[120]⟩,1+(m:Int))) N ⟨by simp,by simp[M.decL],by simp[M.terL]⟩ (λi hi=>by simp[M.decL] at hi) (by show 1<=9223372036854775807;omega) λw3 v3 g O=>?_
 try simp only[push_cast]
 have z3:=g.size;have s3:Same (· =b) w w3:=((Same.of_ext f).trans r).trans (Same.of_ext g);have H:=dokL_new (s:=⟨#[120]⟩) (m:=1+(m:Int)) dC rfl oM oM;refine pick_spec (D.ext g) oM oM λw4 m4 t Z E q _=>?_;have q:=q oM;have Q:=O.same t λx j _ e=>oM
 refine vloop_up m4 (λi u w'=> ∃cv c A,u=[cv,nI ((m4-i:Nat):Int)]/\Same (· =b) w w'/\w.heap.size<=w'.heap.size/\RdR F w' b v xs A/\A<=p+2+200010*i/\LaysR (λx=>w.heap.size<=x) w' cv c/\ZT0 c) ⟨v3,_,_,rfl,s3.trans t,oM,E,oM,Q.weaken λx j _=>oM,H⟩ ?_;rintro i _ _ w5 C hi ⟨cv,c,p5,rfl,y,a0,l,S,o,n⟩ W;refine oZ ?_;refine zb (λa=>?_) (λa=>?_)
 .have J:i<m4:=oM;refine l10Act_spec l (λx j=>by have:=hF x j;omega) o (λx j e=>oM) n oM λw6 p6 B V z G T R I=>?_;rw[show IntKind.i64.wrap (((m4-i:Nat):Int)-1)=((m4-(i+1):Nat):Int) by rw[zj oM oM];omega];have z6:=z.size;have U:=cost_up S T;exact W J _ _ ⟨B,V,p6,rfl,y.trans z,oM,G,U,R.weaken λx j _=>oM,I⟩
 .exact X _ _ _ _ y l oM o n
end
section
variable {w w' w1:World} {K:oK} {F D G H S:oA} {n b k p:Nat} {v cv lv f:Value} {xs:List Nat} {t:M.Tm} {ts:List M.Tm} {d:M.Dcl} {ds es:List M.Dcl} {c c' x:List M.Lay} {l:M.Lay} {tag:Nat->Nat} {css:List (Value×Value)}
theorem LayO.same (h:LayO n tag w lv c css) (hw:Same S w w') (b:∀x,S x->x<n):LayO n tag w' lv c css:=
 ⟨h.row.same hw λx a e=>by have:=(h.own x a).1;have:=b x e;omega,h.len,h.own,λi hi=>(h.dec i hi).same hw λx a e=>by have:=(h.decn i x hi a).1;have:=b x e;omega,h.decn,
  λi hi=>(h.ter i hi).same hw (λx a e=>by have:=(h.tern i x hi a).1;have:=b x e;omega) λx a _ e=>by have:=a.1;have:=b x e;omega,h.tern⟩
theorem UH (a:k<c.length):c.set k l=c.take k++l::c.drop (k+1):=by rw[List.set_eq_take_append_cons_drop,Q1 a]
theorem Ji (a:k<c.length):c=c.take k++c.getD k ([],[])::c.drop (k+1):=by rw[<-M.lay_drop a,GN]
theorem Z9 (a b:List M.Lay) (l:M.Lay):M.decL (a++l::b)=M.decL a++(l.1++M.decL b):=by simp[M.decL]
theorem Z1 (a b:List M.Lay) (l:M.Lay):M.terL (a++l::b)=M.terL a++(l.2++M.terL b):=by simp[M.terL]
theorem V7 (a:k<c.length):M.decL (c.set k ((c.getD k ([],[])).1,ts))=M.decL c:=by
 rw[UH a,Z9];conv=>rhs;rw[Ji a,Z9]
theorem terL_setT (a:k<c.length):(M.terL (c.set k ((c.getD k ([],[])).1,(c.getD k ([],[])).2++[t]))).length=(M.terL c).length+1:=by
 rw[UH a,Z1];have:=congrArg (λc=>(M.terL c).length) (Ji a);simp only[Z1,V0,gG] at this⊢;omega
theorem jf0 (a:k<c.length):M.terL (c.set k (ds,(c.getD k ([],[])).2))=M.terL c:=by
 rw[UH a,Z1];conv=>rhs;rw[Ji a,Z1]
theorem decL_setD (a:k<c.length):(M.decL (c.set k ((c.getD k ([],[])).1++[d],(c.getD k ([],[])).2))).length=(M.decL c).length+1/\∀e,e∈M.decL (c.set k ((c.getD k ([],[])).1++[d],(c.getD k ([],[])).2))->e∈M.decL c\/e=d:=by
 rw[UH a,Z9];have q:=congrArg (λc=>(M.decL c).length) (Ji a);refine⟨?_,λe he=>?_⟩
 .simp only[Z9,V0,gG] at q⊢;omega
 .rw[Ji a,Z9];simp only[gm,gx] at he⊢;rcases he with h|(h|h)|h
  .exact .inl (.inl h)
  .exact .inl (.inr (.inl h))
  .exact .inr h
  .exact .inl (.inr (.inr h))
theorem YE0 (a:ds.length<=5) (h:∀d,d∈ds->1<=d.2/\d.2<=4/\d.1.size<=5):Dok ds:=⟨a,λi hi=>h _ (M.getD_mem hi _)⟩
theorem Yw0 (h:Dok ds):∀d,d∈ds->1<=d.2/\d.2<=4/\d.1.size<=5:=λd a=>by
 obtain⟨i,hi,rfl⟩:=gr a;have:=h.2 i hi;rwa[X0,gk hi] at this
def ku0 (c:List M.Lay):Prop:=CtxB c/\Dok (M.decL c)
theorem l10Bent_spec (h:RdR F w b v xs p) (hF:∀x,F x->x<w.heap.size) (hc:LaysR D w cv c) (S:ZT0 c) (hp:p+100<1099511627776)
  (hK:∀w' p' Q c',Same (· =b) w w'->RdR F w' b v xs p'->p'<=p+2->LaysR (λx=>w.heap.size<=x) w' Q c'->ku0 c'->K Q w'):vcall Vz #[oP b 0,cv] w K:=by
 refine ze {loops:=[(7,[5]),(17,[7])],cuts:=[(16404,[5]),(81938,[])]} Tryz.func101 ?_;have lb:=h.blk.lt;have A:=ctxB_of S.1;obtain⟨V,b0⟩:=dokL_dok S;have ao:=ctx_ne S.1;have ay:0<c.length:=Gh.2 ao;have b1:=(M.ctx_iff.1 S.1).2.1;have b2:=(M.ctx_iff.1 S.1).2.2.2.1;refine l10Copy_spec hc A (Xz S.1) λw1 lv tag css a7 h1=>?_;have z1:=a7.size;rw[h1.lays.len WJ];refine pick_spec (h.ext a7) oM oM λw3 k ab b3 ai f _=>?_;have f:k<c.length:=by have:=f oM;omega
 have h3:=h1.same ab λx r=>oM
 have s3:Same (· =b) w w3:=(Same.of_ext a7).trans ab;have tl:∀{j:Nat},(c.getD k ([],[])).2.length<=8:=by
  have:=congrArg (λc=>(M.terL c).length) (Ji f);simp only[Z1,V0] at this;omega
 refine zp (λu w'=> ∃Q c' p',u=[Q]/\Same (· =b) w w'/\RdR F w' b v xs p'/\p'<=p+2/\LaysR (λx=>w.heap.size<=x) w' Q c'/\ku0 c') (λJ hJ=>?_) ?_
 .refine pick_spec ai oM oM λw4 m ac b4 R _ _=>?_;have h4:=h3.same ac λx r=>oM;have s4:=s3.trans ac;have a4:ku0 c:=⟨A,V⟩;have termed:∀{N:World} {s:Nat->Nat} {o:List (Value×Value)} {t:M.Tm},Same (λx=>w.heap.size<=x) w4 N->LayO w.heap.size s N lv (c.set k ((c.getD k ([],[])).1,(c.getD k ([],[])).2++[t])) o->J [lv] N:=λ{N s o t} n y=>
   hJ _ _ ⟨lv,_,_,rfl,same_news s4 n,R.same n oM (λx r _ e=>by have:=hF x r;omega),oM,y.lays,
    ⟨by rw[gX];exact A.len,by rw[V7 f];exact A.dec,by rw[terL_setT f];omega⟩,by rw[V7 f];exact V⟩
  rw[kA];refine zb (λ_=>?_) (λ_=>?_)
  .refine zV xh xD λb5 N a3 l au a9=>?_;exact hK N _ _ [] (s4.trans (Same.of_ext l)) (R.ext l) oM LaysR.nilB ⟨⟨by simp,by simp[M.decL],by simp[M.terL]⟩,⟨by simp[M.decL],λi hi=>by simp[M.decL] at hi⟩⟩
  rw[kA];refine zb (λ_=>?_) (λ_=>?_)
  .refine vloop_up (7-c.length) (λi u w'=> ∃Z s o,u=[Z]/\Same (λx=>w.heap.size<=x) w4 w'/\LayO w.heap.size s w' Z (c++List.replicate i ([],[])) o) ⟨lv,tag,css,rfl,Same.refl _ _,by simpa using h4⟩ ?_;rintro i _ _ N C hi ⟨Z,s,o,rfl,n,y⟩ hC;have z5:=n.size;have O:(c++List.replicate i (([],[]):M.Lay)).length=c.length+i:=(by simp);simp only[push_cast,y.lays.len,O];refine zb (λa=>?_) (λa=>?_)
   .refine LayO.push (H:=λ_=>False) (ds:=[]) (ts:=[]) y oM (Same.refl _ _) (Own.nil 0 2 _ N) (λx r=>(by cases r)) LstH.nil (λx r=>r.elim) (λx r=>(by cases r)) oM λY av L W z=>?_;rw[Gi,<-List.replicate_succ'] at z;exact hC oM _ _ ⟨av,L,_,rfl,n.trans W,z⟩
   .have ed:M.decL (c++List.replicate i ([],[]))=M.decL c:=by rw[M.decL_app];simp[M.decL]
    have et:M.terL (c++List.replicate i ([],[]))=M.terL c:=by rw[M.terL_app];simp[M.terL]
    exact hJ _ _ ⟨Z,_,_,rfl,same_news s4 (n.mono λx _ r=>oM),R.same n oM (λx r _ e=>by have:=hF x r;omega),oM,y.lays,⟨by rw[O];omega,by rw[ed];exact A.dec,by rw[et];exact A.ter⟩,by rw[ed];exact V⟩
  rw[kA];refine zb (λ_=>?_) (λ_=>?_)
  .simp(disch:=first|(simp only[push_cast])|exact f) only[push_cast,h4.ia,h4.ldD];refine yL kB Zc qz rfl rfl dC λb5 N a3 l au a9=>?_;have y:=h4.ext l;have z5:=l.size;have dl:(c.getD k ([],[])).1.length<=4:=by
    have:=congrArg (λc=>(M.decL c).length) (Ji f);simp only[Z9,V0] at this;omega
   refine OwnD.app (es:=[(⟨#[120]⟩,2)]) (y.dec _ f) (a9.sl1k rfl) (by simp only[gG];omega) λY az W an a6=>?_
   try simp only[push_cast]
   refine LayO.setD y f oM W a6 an λw7 a1 X I=>?_;have a0:Same (λx=>w.heap.size<=x) w4 w7:=(Same.of_ext l).trans X;obtain⟨q1,q2⟩:=decL_setD (d:=(⟨#[120]⟩,2)) f;refine hJ _ _ ⟨lv,_,_,rfl,same_news s4 a0,R.same a0 oM (λx r _ e=>by have:=hF x r;omega),oM,I.lays,⟨by rw[gX];exact A.len,by rw[q1];omega,by rw[jf0 f];exact A.ter⟩,YE0 (by rw[q1];omega) λd hd=>?_⟩;rcases q2 d hd with q|q
   .exact Yw0 V d q
   .rw[q];exact⟨dC,dC,dC⟩
  rw[kA];refine zb (λ_=>?_) (λ_=>?_)
  .refine zd λN l _=>?_;have y:=h4.ext l;have z5:=l.size;rw[y.ia y4 f];refine⟨rfl,?_⟩;rw[zY];refine⟨rfl,?_⟩;rw[y.ldT y5 f];refine⟨rfl,?_⟩;rw[kl0];refine⟨rfl,?_⟩;rw[(y.ter _ f).tms.len yB];refine⟨rfl,?_,trivial⟩;refine yL yr yJ zn rfl rfl dC λb6 Y ak g ae U=>?_;have z:=y.ext g;rw[(z.ter _ f).tms.len yB,kl0,z.ldT y5 f,zY,z.ia y4 f];refine⟨⟨rfl,rfl⟩,⟨rfl,rfl⟩,⟨rfl,rfl⟩,⟨rfl,rfl⟩,⟨rfl,rfl⟩,?_,trivial⟩;exact LayO.appT (G:=λ_=>False) y f oM g U (Y9 21 0 0 ⟨#[120]⟩) (λx r=>r.elim) (by have:=tl (j:=0);omega) rfl λw7 a1 ax X I=>termed ((Same.of_ext l).trans X) I
  rw[kA];refine zb (λ_=>?_) (λ_=>?_)
  .refine zd λN l _=>?_;have y:=h4.ext l;have z5:=l.size;rw[y.ia y4 f];refine⟨rfl,?_⟩;rw[zY];refine⟨rfl,?_⟩;rw[y.ldT y5 f];refine⟨rfl,?_⟩;rw[kl0];refine⟨rfl,?_⟩;rw[kl0];refine⟨rfl,?_⟩;rw[(y.ter _ f).tms.len yB];have done:∀{Y:World} {b7:Nat} {a:Option Addr},Ext N Y->Blk Y b7 JN za->TmsR (λx=>N.heap.size<=x) Y (.slice a 2 2) [.mk 21 0 0 ⟨#[119]⟩ [],.mk 21 0 0 ⟨#[119]⟩ []]->_:=λ{Y b7 a} g U a8=>LayO.appT (J:=λw=>J [lv] w) (len:=(c.getD k ([],[])).2.length) (G:=λx=>N.heap.size<=x) y f oM g U (TmR.of (t:= .mk 15 0 0 ⟨#[]⟩ [.mk 21 0 0 ⟨#[119]⟩ [],.mk 21 0 0 ⟨#[119]⟩ []]) a8) (λx r _=>r) (by have:=tl (j:=0);omega) rfl λw7 a1 ax X I=>termed ((Same.of_ext l).trans X) I;refine⟨rfl,?_,?_,trivial⟩
   .refine kids2 (G:=λ_=>False) (Y9 21 0 0 ⟨#[119]⟩).term (Y9 21 0 0 ⟨#[119]⟩).term λY a g ae a8=>?_;have z:=y.ext g;rw[(z.ter _ f).tms.len yB,z.ldT y5 f,zY,z.ia y4 f];refine⟨⟨rfl,rfl⟩,⟨rfl,rfl⟩,⟨rfl,rfl⟩,⟨rfl,rfl⟩,?_⟩;rw[YL0];refine⟨rfl,?_,trivial⟩;refine yL yr yJ zn rfl rfl dC λb7 w7 al B af a2=>?_;have I:=z.ext B;rw[YL0,(I.ter _ f).tms.len yB,I.ldT y5 f,zY,I.ia y4 f];refine⟨⟨rfl,rfl⟩,⟨rfl,rfl⟩,⟨rfl,rfl⟩,⟨rfl,rfl⟩,⟨rfl,rfl⟩,?_,trivial⟩;exact done (g.trans B) a2 ((a8.ext B).weaken λx r _=>r.elim (λq=>q.elim) λq=>oM)
   .refine yL yr yJ zn rfl rfl dC λb6 Y ak g ae U=>?_;have z:=y.ext g;rw[(z.ter _ f).tms.len yB,kl0,z.ldT y5 f,zY,z.ia y4 f];refine⟨⟨rfl,rfl⟩,⟨rfl,rfl⟩,⟨rfl,rfl⟩,⟨rfl,rfl⟩,⟨rfl,rfl⟩,⟨rfl,rfl⟩,?_,trivial⟩;refine kids2 (G:=λ_=>False) (Y9 21 0 0 ⟨#[119]⟩).term (Y9 21 0 0 ⟨#[119]⟩).term λw7 a B af am=>?_;have I:=z.ext B;rw[(I.ter _ f).tms.len yB,I.ldT y5 f,zY,I.ia y4 f];refine⟨⟨rfl,rfl⟩,⟨rfl,rfl⟩,⟨rfl,rfl⟩,⟨rfl,rfl⟩,?_⟩;rw[YL0];refine⟨rfl,?_,trivial⟩;exact done (g.trans B) (U.ext B) (am.weaken λx r _=>r.elim (λq=>q.elim) λq=>by have:=g.size;omega)
  rw[kA];refine zb (λ_=>?_) (λ_=>?_)
  .refine vloop_up 8 (λi u w'=> ∃c5 s o,u=[nI i]/\Same (λx=>w.heap.size<=x) w4 w'/\LayO w.heap.size s w' lv c5 o/\c5.length=c.length/\M.decL c5=M.decL c/\(M.terL c5).length=(M.terL c).length+i) ⟨c,tag,css,rfl,Same.refl _ _,h4,rfl,rfl,rfl⟩ ?_;rintro i _ _ N C hi ⟨c5,s,o,rfl,n,y,O,a5,ad⟩ hC;have z5:=n.size;have E:k<c5.length:=oM;rw[sl0,WD];refine zb (λa=>?_) (λa=>?_)
   .refine zp (λu w'=> ∃c6 L T,u=[]/\Same (λx=>w.heap.size<=x) w4 w'/\LayO w.heap.size L w' lv c6 T/\c6.length=c.length/\M.decL c6=M.decL c/\(M.terL c6).length=(M.terL c).length+(i+1)) (λJ1 ah=>?_) ?_
    .refine zd λY g _=>?_;have z:=y.ext g;have z6:=g.size;have aw:(c5.getD k ([],[])).2.length<=1000:=by
      have:=congrArg (λc=>(M.terL c).length) (Ji E);simp only[Z1,V0] at this;omega
     rw[z.ia y4 E];refine⟨rfl,?_⟩;rw[zY];refine⟨rfl,?_⟩;rw[z.ldT y5 E];refine⟨rfl,?_⟩;rw[XB0];refine⟨rfl,?_⟩;rw[(z.ter _ E).tms.len yB];refine⟨rfl,?_,trivial⟩;refine yL yr yJ zn rfl rfl dC λb7 w7 al B af a2=>?_;have I:=z.ext B;rw[(I.ter _ E).tms.len yB,XB0,I.ldT y5 E,zY,I.ia y4 E];refine⟨⟨rfl,rfl⟩,⟨rfl,rfl⟩,⟨rfl,rfl⟩,⟨rfl,rfl⟩,⟨rfl,rfl⟩,?_,trivial⟩;exact LayO.appT (G:=λ_=>False) z E oM B a2 (Y9 24 0 0 ⟨#[]⟩) (λx r=>r.elim) (gL aw dC) rfl λw8 ag b8 aq h8=>
      ah _ _ ⟨_,ag,_,rfl,(n.trans (Same.of_ext g)).trans aq,h8,by rw[gX];exact O,by rw[V7 E];exact a5,by rw[terL_setT E,ad];omega⟩
    .rintro _ _ Y ⟨c6,L,T,rfl,W,z,aa,a6,ar⟩;refine oZ ?_;rw[inc64' oM];exact hC oM _ _ ⟨c6,L,T,rfl,W,z,aa,a6,ar⟩
   .exact hJ _ _ ⟨lv,c5,_,rfl,same_news s4 n,R.same n oM (λx r _ e=>by have:=hF x r;omega),oM,y.lays,⟨by rw[O];exact A.len,by rw[a5];exact A.dec,by rw[ad];omega⟩,by rw[a5];exact V⟩
  .exact hJ _ _ ⟨lv,c,_,rfl,s4,R,oM,h4.lays,a4⟩
 .rintro _ _ N ⟨Q,c',p',rfl,n,aj,ap,O,a3⟩;exact hK _ _ _ _ n aj ap O a3
end
section
variable {w w' w1 w2:World} {K:oK} {F:oA} {n b k p:Nat} {v f:Value} {xs:List Nat} {t:M.Tm} {d:M.Dcl} {c c' x:List M.Lay}
theorem l10Some_spec (h:RdR F w b v xs p) (hF:∀x,F x->x<w.heap.size) (t:p+5000000<1099511627776)
  (q:∀w' n a c',Same (· =b) w w'->RdR F w' b v xs n->n<=p+3000002->LaysR (λx=>w.heap.size<=x) w' a c'->ku0 c'->K a w'):vcall Vy #[oP b 0] w K:=by
 refine ze {} Tryz.func62 ?_;refine l10Ctx_spec h hF oM λw1 p1 o c1 c e r j i=>?_;have u:=c.size;refine l10Bent_spec e (λx m=>by have:=hF x m;omega) j i oM λw2 p2 d c2 l f s k g=>?_;exact q w2 p2 d c2 (c.trans l) f oM (k.weaken λx m _=>oM) g
end
section
variable {w w' w1 w2:World} {K:oK} {F:oA} {n b k p:Nat} {v tv dv ev f:Value} {t:M.Tm} {d:M.Dcl} {c x:List M.Lay} {ar ab at_ an am:Addr}
def xi0 (c:List M.Lay):oI×Int:=if M.ctxOk c=true then qU (M.decL c) (M.terL c) [] else([],4)
theorem Qn (q:LaysR F w v c) (g:CtxB c) (er:Er w at_ an am ar ab) (o:∀w' ev,Ext w w'->Ints (λ_=>True) w' ev (xi0 c).1->K (.tuple #[ev,nI (xi0 c).2]) w'):vcall Ky #[v] w K:=by
 refine ze {} Tryz.func24 ?_;refine flat_spec q g λw1 b dv tv mv h n=>?_;refine ok_spec n g λw2 d=>?_;have l:=h.trans d;refine oZ ?_;refine zm (λa=>?_) (λa=>?_)
 .have:=o w2 (oN) l;have p: ¬M.ctxOk c=true:=(by simpa using a);unfold xi0 at this;rw[q0 p] at this;exact this (OwnI.nil (t:=zi)|>.ints.weaken λx _ _=>trivial)
 .have k:M.ctxOk c=true:=(by simpa using a);refine zd λs e _=>?_;have m:=l.trans e;have f:=(n.ext d).ext e;simp only[push_cast,f.blk.ld0,f.blk.ld1,k6];refine ze {} Tryz.func29 ?_;refine solved_spec f.dec.dcls f.ter.tms (gL g.ter dC) (er.ext m) λr ev i j _=>?_
  try simp only[push_cast,k6]
  have:=o r ev (m.trans i);unfold xi0 at this;rw[Q1 k] at this;exact this (j.ints.weaken λ_ _ _=>trivial)
end
section
variable {w w' w1 w2:World} {K:oK} {F:oA} {b k:Nat} {v tv dv f:Value} {t:M.Tm} {d:M.Dcl} {c:List M.Lay}
theorem zt0 (i:LaysR F w v c) (a:M.ctxOk c=true) (h:∀w' dv,Ext w w'->DclsR (λ_=>True) w' dv (M.decL c)->K dv w'):vcall Kz #[v] w K:=by
 refine ze {} Tryz.func27 ?_;refine flat_spec i (ctxB_of a) λw1 b dv tv mv e f=>?_;refine ok_spec f (ctxB_of a) λw2 d=>?_;rw[a];simp only[push_cast,GP];have g:=f.ext d;simp only[push_cast,g.blk.ld0];exact h _ _ (e.trans d) (g.dec.dcls.weaken λ_ _ _=>trivial)
theorem CtxTerms_spec (l:LaysR F w v c) (a:M.ctxOk c=true) (j:∀w' tv,Ext w w'->TmsR (λ_=>True) w' tv (M.terL c)->K tv w'):vcall Kx #[v] w K:=by
 refine ze {} Tryz.func28 ?_;refine flat_spec l (ctxB_of a) λw1 b dv tv mv e g=>?_;refine ok_spec g (ctxB_of a) λw2 d=>?_;rw[a];simp only[push_cast,GP];have h:=g.ext d;simp only[push_cast,h.blk.ld1];exact copyTerms_spec h.ter.tms (λt k=>fit_ok (M.ctx_terms a t k)) (by have:=(M.ctx_iff.1 a).2.2.2.1;omega) λm v3 f i=>j _ _ ((e.trans d).trans f) (i.weaken λ_ _ _=>trivial)
theorem xS0 (h:M.ctxOk c=true):zw0 (M.decL c) (M.terL c)=true:=all8_iff.2 ⟨(M.ctx_iff.1 h).2.2.2.1,(M.ctx_iff.1 h).2.2.1,M.ctx_terms h⟩
end
end Go.Proofs.YtfnpmncplaibiaaGreatDoor
namespace Go.Proofs.YtfnpmncplaibiaaGreatDoor
open Go Go.Vc Go.Proofs Go.M
section
variable {w:World} {K:oK} {F Fr:oA} {many:Nat} {c:Cnf} {s:Sat}
theorem l4Abs_spec {x:Int} (h:x.natAbs<=9223372036854775807) (b:K (nI x.natAbs) w):vcall Je #[nI x] w K:=by
 refine ze {} Tryz.func266 ?_;refine oZ ?_;refine zb (λa=>?_) (λa=>?_)
 .rw[zj oM oM,show 0-x=(x.natAbs:Int) from by omega];exact b
 .rwa[show(x.natAbs:Int)=x from by omega] at b
theorem l5Vals_spec {vc v:Value} {put:oI} (R:CnfR F w vc c) (A:c.many=many) (G:many<=700) (j:Ints Fr w v put) (hm:marksOk many put)
  (Q:∀w' v',Ext w w'->OwnI zi w' v' (signs many put)->(∀x,v'.ownBlock=some x->w.heap.size<=x)->K v' w'):vcall WZ #[vc,v] w K:=by
 refine ze {loops:=[(3,[6])]} Tryz.func80 ?_;obtain⟨lv,rfl,-⟩:=R;have hlen:=hm.len;refine ym λb w1 I p T O=>?_;have z:Blk w1 b [nI c.many,lv] zq:=O;simp only[push_cast,z.ld0];rw[A,zj oM oM,show((many:Int)+1)=((many+1:Nat):Int) from by omega];refine vmkS_own (bs:=8) xK qO xM rfl oM oM λv1 w2 N B l=>?_;have y:OwnI zi w2 v1 (signs many []):=by rw[jj0];unfold OwnI;rw[GO];exact N
 have J:=p.size;refine vloop_up put.length (λi u w'=>u=[nI i]/\Ext w w'/\OwnI zi w' v1 (signs many (put.take i))) ⟨rfl,p.trans B,by simpa using y⟩ ?_;rintro i _ _ U C hi ⟨rfl,g,r⟩ H;have o:=j.ext g;have S:=signs_len many (put.take i);simp only[push_cast,o.len];refine zb (λa=>?_) (λa=>?_)
 .have h:i<put.length:=oM;simp(disch:=exact oS) only[push_cast,o.iaddr,o.load];have I:=hm.2 _ (getD_meS h);have q:=M.take_snoc' (d:=0) h;have t:=distinct_take hm.1 (i+1);have k:placeOf (put.take i) (put.getD i 0).natAbs=0:=by
   refine placeOf_zero λx j e=>?_;rw[q] at t;unfold Distinct at t;rw[gD,Gv] at t;exact t.2.2 _ (Gd j) _ (by simp) e
  have f:=signs_snoc (many:=many) I.1 k;rw[<-q] at f;have s:=r.ints;have E:IntKind.i64.wrap ((i:Int)+1)=((i+1:Nat):Int):=by rw[zj oM oM];omega
  generalize W:put.getD i 0=x at*;refine zb (λb3=>?_) (λb3=>?_)
  .simp(disch:=exact oS) only[push_cast,s.iaddr];rw[show x.toNat=x.natAbs from by omega];refine r.st xy oM λV n m D=>?_;rw[Q1 b3] at f;simp only[push_cast,E];exact H h _ _ ⟨rfl,Ext.then g m λx j=>by have:=l x j;omega,by rw[f];exact n⟩
  .have L:IntKind.i64.wrap (0-x)=(x.natAbs:Int):=by rw[zj oM oM];omega
   rw[L];simp(disch:=exact oS) only[push_cast,s.iaddr];refine r.st xy oM λV n m D=>?_;rw[q0 b3] at f;simp only[push_cast,E];exact H h _ _ ⟨rfl,Ext.then g m λx j=>by have:=l x j;omega,by rw[f];exact n⟩
 .rw[gC oM] at r;exact Q U v1 g r λx j=>by have:=l x j;omega
theorem l5Sign_spec {v:Value} {put:oI} {m:Int} (b:Ints F w v (signs many put)) (hm:marksOk many put) (c:many<=700) (h:m≠0) (e:m.natAbs<=many) (d:K (nI (ZY0 put m)) w):vcall U0 #[v,nI m] w K:=by
 refine ze {} Tryz.func275 ?_;have g:=signs_len many put;refine oZ ?_;refine zb (λa=>?_) (λa=>?_)
 .simp(disch:=exact oS) only[push_cast,b.iaddr,b.load];rw[show m.toNat=m.natAbs from by omega,signs_get e,sgn_pos hm a];exact d
 .have f:IntKind.i64.wrap (0-m)=(m.natAbs:Int):=by rw[zj oM oM];omega
  rw[f];simp(disch:=exact oS) only[push_cast,b.iaddr,b.load];have:=sgnV_range put m.natAbs;rw[signs_get e,zj oM oM,gW,sgn_neg hm oM];exact d
theorem l5Look_spec {v v':Value} {put cl:oI} (t:Ints F w v (signs many put)) (hm:marksOk many put) (g:many<=700) (c:Ints Fr w v' cl) (r:∀l,l∈cl->l≠0/\l.natAbs<=many)
  (p:∀b n x,lookM put cl 0 0=(b,n,x)->K (.tuple #[nI (if b then-1 else(n:Int)),nI (if b then 0 else x)]) w):vcall U1 #[v,v'] w K:=by
 refine ze {loops:=[(4,[6,7,8])]} Tryz.func229 ?_;have hlen:cl.length<=9223372036854775807:=by obtain⟨_,_,_,j,k,_⟩:=c.shape;simp at j;omega
 refine vloop_up cl.length (λi u w'=>w'=w/\∃(n:Nat) (x:Int),u=[nI n,nI x,nI i]/\n<=i/\lookM put (cl.drop i) n x=lookM put cl 0 0) ⟨rfl,0,0,rfl,oM,rfl⟩ ?_;rintro i _ _ _ C hi ⟨rfl,n,x,rfl,y,e⟩ o;simp only[push_cast,c.len];refine zb (λa=>?_) (λa=>?_)
 .have f:i<cl.length:=oM;simp(disch:=exact oS) only[push_cast,c.iaddr,c.load];have h:=r _ (getD_meS f);rw[Z8 (d:=0) f,QJ] at e;refine l5Sign_spec t hm g h.1 h.2 ?_;have m:IntKind.i64.wrap ((i:Int)+1)=((i+1:Nat):Int):=by rw[zj oM oM];omega
  have q:IntKind.i64.wrap ((n:Int)+1)=((n+1:Nat):Int):=by rw[zj oM oM];omega
  generalize s:cl.getD i 0=l at*;simp only[xv0,kA];unfold ZY0;by_cases j:l∈put
  .rw[Q1 j] at e⊢;have:=p true 0 0 e.symm;exact zb (λ_=>by simpa using this) (λb=>absurd (by decide:(0:Int)<1) b)
  rw[q0 j] at e⊢;by_cases k:placeOf put l.natAbs=0
  .rw[Q1 k] at e⊢;refine zb (λb=>absurd b oM) (λ_=>zb (λ_=>?_) (λb=>absurd rfl b));simp(disch:=exact oS) only[push_cast,c.load];rw[m,q,s];exact o f _ _ ⟨rfl,n+1,l,rfl,oM,e⟩
  .rw[q0 k] at e⊢;refine zb (λb=>absurd b oM) (λ_=>zb (λb=>absurd b oM) (λ_=>?_));rw[m];exact o f _ _ ⟨rfl,n,x,rfl,oM,e⟩
 .rw[Gf oM] at e;have:=p false n x e.symm;simpa using this
end
section
variable {w:World} {K:oK} {F Fr F':oA} {many:Nat} {c:Cnf} {s:Sat}
theorem inc64 {i:Nat} (h:i<9223372036854775807):IntKind.i64.wrap ((i:Int)+1)=((i+1:Nat):Int):=by rw[zj oM oM];omega
theorem l5Find_spec {vc vl v:Value} {put:oI} {ls:List (oI)} (hc:CnfR F w vc c) (hl:Lists F' w vl ls) (hx:Ints Fr w v (signs many put)) (hm:marksOk many put) (z:many<=700) (a4:c.list.length+ls.length<=1000000)
  (hb:∀cl,cl∈c.list++ls->∀l,l∈cl->l≠0/\l.natAbs<=many)
  (hK:∀w' k u x,Ext w w'->findM put (c.list++ls) 0 (-1) 0=(k,u,x)->K (.tuple #[nI k,nI (if 0<=k then-1 else u),nI (if 0<=k then 0 else x)]) w'):vcall U4 #[vc,vl,v] w K:=by
 refine ze {loops:=[(5,[9,10,12])],cuts:=[(36875,[13])]} Tryz.func173 ?_;obtain⟨lv,rfl,X⟩:=hc;obtain⟨cs,U,B,T⟩:=X;obtain⟨es,W,H,V⟩:=hl;refine ym λb w1 a1 E a5 hB=>?_;have A:Blk w1 b [nI c.many,lv] zq:=hB;have D:=B.ext E;simp only[push_cast,A.ld1,D.len];refine vloop_up (c.list.length+ls.length) (λi u w'=> ∃(y x:Int),u=[nI y,nI x,nI i]/\Ext w w'/\Blk w' b [nI c.many,lv] zq/\findM put ((c.list++ls).drop i) i y x=findM put (c.list++ls) 0 (-1) 0) ⟨-1,0,rfl,E,A,rfl⟩ ?_;rintro i _ _ w2 C hi ⟨y,x,rfl,s,S,g⟩ Q;have I:=H.ext s;simp only[push_cast,I.len];rw[U,W,zj oM oM];refine zb (λa=>?_) (λa=>?_)
 .have o:i<c.list.length+ls.length:=oM;refine zV xz xy λb3 w3 a2 G a6 a0=>?_;have p:=s.trans G;have f:=S.ext G;have q:=B.ext p;have r:=H.ext p;refine zp (λu w'=>w'=w3/\∃v4,u=[v4]/\Ints (λ_=>True) w3 v4 ((c.list++ls).getD i [])) ?_ ?_
  .intro J Z;refine zb (λa3=>?_) (λa3=>?_)
   .simp(disch:=exact oS) only[push_cast,f.ld1,q.iaddr,q.load];refine Z _ _ ⟨rfl,_,rfl,?_⟩;rw[getD_app_l oM];exact((T i oM).ext p).weaken λ_ _ _=>trivial
   .obtain⟨j,rfl⟩:∃j,i=c.list.length+j:=⟨i-c.list.length,oM⟩;rw[show((c.list.length+j:Nat):Int)-(c.list.length:Int)=(j:Int) from by omega,zj oM oM];simp(disch:=exact oS) only[push_cast,r.iaddr,r.load];refine Z _ _ ⟨rfl,_,rfl,?_⟩;rw[getD_app_r];exact((V j oM).ext p).weaken λ_ _ _=>trivial
  rintro _ _ _ ⟨rfl,v4,rfl,h4⟩;have L:i<(c.list++ls).length:=by rw[V0];exact o
  have M:(c.list++ls).getD i []∈c.list++ls:=by rw[X0,gk L];exact GY _
  rw[Z8 (d:=[]) L,findM_cons] at g;refine oZ ?_;refine l5Look_spec (hx.ext p) hm z h4 (hb _ M) λO n Y t=>?_;rw[t] at g;dsimp only at g;refine oZ ?_;rw[inc64 oM];have N: ¬(O=true)->((if O then(-1:Int) else(n:Int))=n/\(if O then(0:Int) else Y)=Y):=λh=>⟨q0 h,q0 h⟩;by_cases m:O=true
  .rw[Q1 m] at g;refine zb (λe=>absurd e (by rw[Q1 m];omega)) (λ_=>zb (λe=>absurd e (by rw[Q1 m];omega)) (λ_=>?_));exact Q o _ _ ⟨y,x,rfl,p,f,g⟩
  rw[q0 m] at g;rw[(N m).1,(N m).2];refine zb (λe=>?_) (λe=>zb (λe1=>?_) (λe1=>?_))
  .rw[Q1 oM] at g;have:=hK _ _ _ _ p g.symm;rwa[Q1 oM,Q1 oM] at this
  .rw[q0 oM,Q1 oM] at g;refine zb (λR=>?_) (λR=>?_)
   .rw[Q1 R] at g;exact Q o _ _ ⟨i,Y,rfl,p,f,g⟩
   .rw[q0 R] at g;exact Q o _ _ ⟨y,x,rfl,p,f,g⟩
  .rw[q0 oM,q0 oM] at g;exact Q o _ _ ⟨y,x,rfl,p,f,g⟩
 .rw[Gf (by rw[V0];omega)] at g;have:=hK w2 _ _ _ s g.symm;rwa[q0 oM,q0 oM] at this
theorem l5At_spec {vc v:Value} {k:Nat} (A:CnfR F w vc c) (hs:SatR F' w v s) (G:k<c.list.length+s.learned.length) (C:c.list.length+s.learned.length<=1000000)
  (u:∀w' v',Ext w w'->Ints (λb=>F b\/F' b) w' v' (atM c s k)->K v' w'):vcall x60 #[vc,v,nI k] w K:=by
 refine ze {} Tryz.func175 ?_;obtain⟨lv,rfl,cs,n,o,m⟩:=A;obtain⟨vp,vw,vl,rfl,-,-,es,B,r,q⟩:=hs;refine ym λb1 w1 y p D i=>?_;refine ym λb2 w2 z g E l=>?_;have t:Blk w2 b1 [nI c.many,lv] zq:=i.ext g;have x:Blk w2 b2 [vp,vw,vl,nI s.code] zu:=l;have f:=p.trans g;have d:=o.ext f;have e:=r.ext f;simp only[push_cast,t.ld1,d.len];refine zb (λa=>?_) (λa=>?_)
 .simp(disch:=exact oS) only[push_cast,d.iaddr,d.load];refine u w2 _ f ?_;rw[atM,getD_app_l oM];exact((m k oM).ext f).weaken λ_ h _=> .inl h
 .obtain⟨j,rfl⟩:∃j,k=c.list.length+j:=⟨k-c.list.length,oM⟩;simp(disch:=(simp only[push_cast])) only[x.ld2,t.ld1,d.len,zb0,ze0,yq,gV,Zd];rw[n,show((c.list.length+j:Nat):Int)-(c.list.length:Int)=(j:Int) from by omega,zj oM oM];simp(disch:=exact oS) only[push_cast,e.iaddr,e.load];refine u w2 _ f ?_;rw[atM,getD_app_r];exact((q j oM).ext f).weaken λ_ h _=> .inr h
theorem l5Levels_spec {vc v:Value} (hc:CnfR F w vc c) (hs:SatR F' w v s) (L:c.many=many) (T:many<=700) (hm:marksOk many s.put) (hlen:s.put.length=s.why.length) (A:∀k,k<s.why.length->s.why.getD k 0= -1\/0<=s.why.getD k 0)
  (hK:∀w' v',Ext w w'->OwnI zi w' v' (levs many s.put (yu s.why))->(∀x,v'.ownBlock=some x->w.heap.size<=x)->K v' w'):vcall K8 #[vc,v] w K:=by
 refine ze {loops:=[(4,[6,7])],cuts:=[(28680,[6])]} Tryz.func230 ?_;obtain⟨lv,rfl,-⟩:=hc;obtain⟨vp,vw,vl,rfl,hp,hw,-⟩:=hs;have a4:=hm.len;refine ym λb1 w1 a0 N a7 H=>?_;refine ym λb2 w2 a1 p a8 I=>?_;have X:Blk w2 b1 [nI c.many,lv] zq:=H.ext p;have R:Blk w2 b2 [vp,vw,vl,nI s.code] zu:=I;have S:=N.trans p;simp only[push_cast,X.ld0];rw[L,zj oM oM,show((many:Int)+1)=((many+1:Nat):Int) from by omega];refine vmkS_own (bs:=8) xK qO xM rfl oM oM λv1 w3 Y q m=>?_;have G:OwnI zi w3 v1 (levs many [] (yu s.why)):=by rw[Zj0];unfold OwnI;rw[GO];exact Y
 have V:=S.size;refine vloop_up s.put.length (λi u w'=>u=[nI ((yu s.why).take i|>.count true:Nat),nI i]/\Ext w w'/\Blk w' b2 [vp,vw,vl,nI s.code] zu/\OwnI zi w' v1 (levs many (s.put.take i) (yu s.why))) ⟨rfl,S.trans q,R.ext q,by simpa using G⟩ ?_;rintro i _ _ W C hi ⟨rfl,g,f,E⟩ Z;have n:=hp.ext g;have z:=hw.ext g;have a5:=UE many (s.put.take i) (yu s.why);have a3:=jN s.why;simp only[push_cast,f.ld0,n.len];refine zb (λa=>?_) (λa=>?_)
 .have l:i<s.put.length:=oM;have h:=Yh (ds:=yu s.why) (i:=i) oM;have a2:((yu s.why).take i).count true<=700:=gL pV (by simp;omega);refine zp (λu w'=>w'=W/\u=[nI ((yu s.why).take (i+1)|>.count true:Nat)]) ?_ ?_
  .intro J U;simp(disch:=exact oS) only[push_cast,f.ld1,z.iaddr,z.load];have o:=JK (why:=s.why) (k:=i) oM;have a6:=A i oM;refine zb (λb=>?_) (λb=>?_)
   .rw[inc64 oM];refine U _ _ ⟨rfl,?_⟩;rw[h,o,gy oM];rfl
   .refine U _ _ ⟨rfl,?_⟩;rw[h,o,gp oM];rfl
  rintro _ _ _ ⟨rfl,rfl⟩;simp(disch:=exact oS) only[push_cast,f.ld0,n.iaddr,n.load];have hb:=hm.2 _ (getD_meS l);have y:=M.take_snoc' (d:=0) l;have D:=distinct_take hm.1 (i+1);have j:placeOf (s.put.take i) (s.put.getD i 0).natAbs=0:=by
   refine placeOf_zero λx B e=>?_;rw[y] at D;unfold Distinct at D;rw[gD,Gv] at D;exact D.2.2 _ (Gd B) _ (by simp) e
  have t:=levs_snoc (many:=many) (ds:=yu s.why) j;rw[<-y,gg,GC oM,lvl_succ oM,<-h] at t;have Q:=E.ints;refine l4Abs_spec oM ?_;simp(disch:=exact oS) only[push_cast,Q.iaddr];refine E.st xy oM λw5 O r a9=>?_;rw[inc64 oM];refine Z l _ _ ⟨rfl,Ext.then g r λx B=>by have:=m x B;omega,f.same r λe=>by have:=m _ e;have:=R.lt;omega,by rw[t];exact O⟩
 .rw[gC oM] at E;exact hK W v1 g E λx B=>by have:=m x B;omega
theorem l5Top_spec {v v':Value} {put cl:oI} {ds:List Bool} (m:Ints F w v (levs many put ds)) (j:many<=700) (p:ds.length<=700) (d:Ints Fr w v' cl) (o:∀l,l∈cl->l.natAbs<=many/\placeOf put l.natAbs≠0)
  (s:K (.tuple #[nI (kZ put ds cl:Nat),nI (Ja put ds cl).length]) w):vcall zY0 #[v,v'] w K:=by
 refine ze {loops:=[(4,[6,7,8])]} Tryz.func231 ?_;have hlen:cl.length<=9223372036854775807:=by obtain⟨_,_,_,n,r,_⟩:=d.shape;simp at n;omega
 have q:=UE many put ds;refine vloop_up cl.length (λi u w'=>w'=w/\u=[nI (kZ put ds (cl.take i):Nat),nI (Ja put ds (cl.take i)).length,nI i]) ⟨rfl,rfl⟩ ?_;rintro i _ _ _ C hi ⟨rfl,rfl⟩ f;simp only[push_cast,d.len];refine zb (λa=>?_) (λa=>?_)
 .have c:i<cl.length:=oM;simp(disch:=exact oS) only[push_cast,d.iaddr,d.load];obtain⟨g,h⟩:=o _ (getD_meS c);refine l4Abs_spec oM ?_;simp(disch:=exact oS) only[push_cast,m.iaddr,m.load];rw[levs_get g,levV_lit h];obtain⟨t1,t2⟩:=top_step (put:=put) (ds:=ds) c _ rfl;generalize lvM put ds (cl.getD i 0)=k at*;have t:(Ja put ds (cl.take i)).length<=i:=gL (List.length_filter_le _ _) (by simp;omega);refine zb (λb=>?_) (λb=>?_)
  .rw[Q1 oM] at t1 t2;refine zb (λ_=>?_) (λe=>absurd trivial e);rw[inc64 oM];exact f c _ _ ⟨rfl,by rw[t1,t2];rfl⟩
  .rw[q0 oM] at t1 t2;refine zb (λe=>?_) (λe=>?_)
   .rw[Q1 oM] at t2;rw[inc64 oM,inc64 oM];exact f c _ _ ⟨rfl,by rw[t1,t2]⟩
   .rw[q0 oM] at t2;rw[inc64 oM];exact f c _ _ ⟨rfl,by rw[t1,t2]⟩
 .rwa[gC oM]
theorem l5Has_spec {v:Value} {cl:oI} {m:Nat} (c:Ints Fr w v cl) (p:∀l,l∈cl->l.natAbs<=700) (g:(∃q,q∈cl/\q.natAbs=m)->K (.bool true) w) (j:(∀q,q∈cl->q.natAbs≠m)->K (.bool false) w):vcall y00 #[v,nI m] w K:=by
 refine ze {loops:=[(2,[5])]} Tryz.func301 ?_;have hlen:cl.length<=9223372036854775807:=by obtain⟨_,_,_,n,s,_⟩:=c.shape;simp at n;omega
 refine vloop_up cl.length (λi u w'=>w'=w/\u=[nI i]/\∀q,q∈cl.take i->q.natAbs≠m) ⟨rfl,rfl,by simp⟩ ?_;rintro i _ _ _ C hi ⟨rfl,rfl,k⟩ o;simp only[push_cast,c.len];refine zb (λa=>?_) (λa=>?_)
 .have f:i<cl.length:=oM;simp(disch:=exact oS) only[push_cast,c.iaddr,c.load];have e:cl.getD i 0∈cl:=getD_meS f;have r:=p _ e;refine l4Abs_spec oM ?_;refine oZ ?_;refine zb (λb=>g ⟨_,e,oM⟩) (λb=>?_);rw[inc64 oM];refine o f _ _ ⟨rfl,rfl,λq h=>?_⟩;rw[M.take_snoc' (d:=0) f,gm,gx] at h;rcases h with h|rfl
  .exact k q h
  .omega
 .rw[gC oM] at k;exact j k
theorem l5Last_spec {v v':Value} {cl:oI} (hs:SatR F w v s) (hm:marksOk many s.put) (t:many<=700) (m:Ints Fr w v' cl) (z:∀l,l∈cl->l.natAbs<=700)
  (x:∀w',Ext w w'->K (nI ((lastPl s.put cl:Int)-1)) w'):vcall U2 #[v,v'] w K:=by
 refine ze {loops:=[(2,[5])]} Tryz.func276 ?_;obtain⟨vp,vw,vl,rfl,G,-,-⟩:=hs;have E:=hm.len;refine ym λb2 w2 A b H g=>?_;have p:Blk w2 b2 [vp,vw,vl,nI s.code] zu:=g;have c:=G.ext b;simp only[push_cast,p.ld0,c.len];rw[zj oM oM];refine vloop_up s.put.length (λi u w'=>w'=w2/\u=[nI ((s.put.length:Int)-1-i)]/\∀j,s.put.length-i<=j->j<s.put.length->∀q,q∈cl->q.natAbs≠(s.put.getD j 0).natAbs) ⟨rfl,by simp,λj r d=>oM⟩ ?_;rintro i _ _ _ C hi ⟨rfl,rfl,n⟩ y;refine oZ ?_;refine zb (λa=>?_) (λa=>?_)
 .obtain⟨k,D⟩:∃k:Nat,(s.put.length:Int)-1-i=k:=⟨s.put.length-1-i,oM⟩;have f:k<s.put.length:=oM;rw[D];simp(disch:=exact oS) only[push_cast,p.ld0,c.iaddr,c.load];have B:=hm.2 _ (getD_meS f);refine l4Abs_spec oM ?_;refine l5Has_spec (m.ext b) z (λh=>?_) (λh=>?_)
  .refine oZ ?_;have o:=lastPl_eq hm f h λj r d=>n j oM d;have:=x _ b;rwa[o,show((k+1:Nat):Int)-1=(k:Int) from by omega] at this
  .refine oZ ?_;rw[zj oM oM];refine y oM _ _ ⟨rfl,by rw[show(s.put.length:Int)-1-((i+1:Nat):Int)=(k:Int)-1 from by omega],λj r d=>?_⟩;by_cases e:j=k
   .subst e;exact h
   .exact n j oM d
 .have o:=lastPl_none (put:=s.put) (cl:=cl) λj d=>n j oM d;have:=x _ b;rw[o] at this;exact this
end
end Go.Proofs.YtfnpmncplaibiaaGreatDoor
end
