import Derived.Test.YtfnpmncplaibiaaGreatDoorWqaP7
import Derived.LaidEql
import Derived.Stop.Asserts
/- A part of the proof. -/
set_option linter.all false
set_option maxRecDepth 9999
set_option maxHeartbeats 2000000
noncomputable section
namespace Go.Proofs.YtfnpmncplaibiaaGreatDoor
open Go Go.Vc Go.Proofs
section
variable {w:World} {K:oK} {F D G:oA}
theorem ints_lit {ns:oI} (e:ns.length<=1000) (d:∀b2 w',b2=w.heap.size->Ext w w'->Ints (· =b2) w' (.slice (some ⟨b2,0,none⟩) ns.length ns.length) ns->K (.slice (some ⟨b2,0,none⟩) ns.length ns.length) w'):vbuildS ze ns.length ((ns.map λx=>nI x).zipIdx.map λp=>(p.2,p.1)) w K:=by
 have:=vbuildS_row1 (w:=w) (K:=K) (t:=ze) (xs:=ns.map λx=>nI x) x8 yG xp (λx f=>by obtain⟨y,_,rfl⟩:=gB.1 f;rfl) (by simp;omega) λb2 w' a b g c=>by
  rw[gd];exact d b2 w' a b (c.sl1 (by simp) oM)
 rwa[gd] at this
theorem l2Bent_spec {b p:Nat} {v tv:Value} {xs:List Nat} {t:M.Tm} (h:RdR F w b v xs p) (hF:∀x,F x->x<w.heap.size) (ht:TermR G w tv t) (hG:∀x,G x->x≠b) (L:∀x,G x->x<w.heap.size) (hp:p+10<1099511627776) (c9:t.ks.length<=1000)
  (hK:∀w' p' bd t',Same (· =b) w w'->RdR F w' b v xs p'->p'<=p+10->TermR (λx=>G x\/w.heap.size<=x) w' bd t'->t'.ks.length<=t.ks.length+1->K bd w'):vcall Uo #[oP b 0,tv] w K:=by
 refine zf {loops:=[(15,[6])]} Tryz.func98 ?_;have lb:=h.blk.lt;obtain⟨kv,rfl,ax⟩:=ht;refine zk λb1 w1 c3 ar c6 h1=>?_;refine zj zr λb2 w2 c4 ab c7 h2=>?_;have q2:=h1.ext ab;refine vbuildS_row (xs:=[]) (us:=[]) (k:=5) xJ qc zr rfl (by simp) dC λb3 w3 c5 a8 c8 h3=>?_;have br:Own 0 5 zl w3 (.slice (some ⟨b3,0,none⟩) 0 0) []:=Blk.ownk (css:=[]) (by rw[jW];exact h3) (by simp) rfl dC;have q3:=q2.ext a8;have r3:=h2.ext a8;have Z:=(ar.trans ab).trans a8;have ay:=ax.ext Z;have bf:=h.ext Z;have ca:=ar.size;have cb:=ab.size;have cc:=a8.size;simp only[push_cast,q3.ld4];obtain⟨css,bt,ap,ao⟩:=ay;have Q:∀y,y∈css->∀c,c∈y->c.oneCell'=true:=λy hy c S=>by
  obtain⟨i,hi,rfl⟩:=gy hy;have hq:=ao i oM;rw[X0,gj hi] at hq;obtain⟨c0,he,ad⟩:=hq.inv;obtain⟨am,al,_⟩:=ad;rw[show css[i]=(some css[i]).getD [] from rfl,he] at S;simp only[gk,gE,Gn] at S;rcases S with rfl|rfl|rfl|rfl|rfl
  .rfl
  .rfl
  .rfl
  .rfl
  .exact al.one
 refine vappend (F:=G) qm dC br bt Q (gW _) (by simp;omega) (by simp;omega) λov w4 ag bb bo=>?_;replace ag:Own 0 5 zl w4 ov css:=ag;have cd:=bb.size;have A:Same (· =b3) w3 w4:=bb.mono λx _ d=>(gg d).symm;have hn:∀x,ov.ownBlock=some x->w2.heap.size<=x:=λx d=>by
  rcases bo x d with d|d
  .have e:x=b3:=(gg d).symm;omega
  .omega
 have b6:Same (· =b) w w4:=same_new (Same.of_ext Z) A oM;have bg:RdR F w4 b v xs p:=bf.new A oM λx d e=>by have:=hF x d;omega
 have q4:=q3.same A oM;have r4:=r3.same A oM;have az:TmsR G w4 kv t.ks:=(ax.ext Z).same A λx d _ e=>by have:=L x d;omega
 refine pick_spec bg oM oM λw5 c R ce B _ _=>?_;have q5:=q4.same R oM;have r5:=r4.same R oM;have z:TmsR G w5 kv t.ks:=az.same R λx d _ e=>hG x d e;have n:=b6.trans R;have b0:Own 0 5 zl w5 ov css:=ag.same R λx d e=>by have:=hn x d;omega
 have c1:=n.size;have T:∀{q:World} {p6:Nat} {cs:List Value} {t':M.Tm},t'.ks.length<=t.ks.length+1->Same (· =b) w q->RdR F q b v xs p6->p6<=p+10->Blk q b1 cs za->Blk q b2 Kb za->TmR (λx=>G x\/w2.heap.size<=x) q cs t'->
   zu za (oP b1 0) q λt56 W=>zy za (oP b2 0) t56 W λ_ X=>vlv za (oP b2 0) X λr4 Y=>K r4 Y:=by
  intro q p6 cs t' hl hs hR aj hq hr S;rw[hq.ldAgg (t:=za) (by rw[zS S];exact zc)];refine xK hr rfl S (λx d e=>by rcases d with d|d<;>first|(have:=L x d;omega)|omega) λH E bc bu=>?_;exact hK H p6 _ t' (same_new hs E oM) (hR.new E oM λx d e=>by have:=hF x d;omega) aj (bu.weaken λx d _=>d.imp id λh=>oM) hl
 have J:∀{q:World} {p6:Nat} {i:Nat} {x:Value} {e:TypeId} {t':M.Tm} {cs':List Value},t'.ks.length<=t.ks.length+1->Same (· =b) w q->RdR F q b v xs p6->p6<=p+10->Blk q b1 [nI t.op,nI t.a,nI t.b,.string t.s,kv] za->Blk q b2 Kb za->x.cells= #[x]->x.oneCell'=true->qg e 1=true->i<5->
   [nI t.op,nI t.a,nI t.b,.string t.s,kv].set i x=cs'->(∀H,Same (· =b1) q H->TmR (λx=>G x\/w2.heap.size<=x) H cs' t')->
   zy e (oP b1 i) x q λ_ be=>zu za (oP b1 0) be λt56 W=>zy za (oP b2 0) t56 W λ_ X=>vlv za (oP b2 0) X λr4 Y=>K r4 Y:=by
  intro q p6 i x e t' cs' hl hs hR aj hq hr bw bx hz hi b9 S;refine hq.st bw bx hz (by simp[Pb];omega) λH E bc b4=>?_;rw[b9] at b4;exact T hl (same_new hs E oM) (hR.new E oM λx d e=>by have:=hF x d;omega) aj b4 (hr.same E oM) (S H E)
 have D:∀{q H:World},TmsR G q kv t.ks->Same (· =b1) q H->TmsR (λx=>G x\/w2.heap.size<=x) H kv t.ks:=λhk hs=>(hk.same hs λx d _ e=>by have:=L x d;omega).weaken λx d _=> .inl d;refine oZ ?_;refine zb (λa0=>?_) (λa0=>?_)
 .refine num_lit (ns:=[0,18,28,3,16,25]) B (by simp) dC oM λq m N a6 hm=>?_
  try simp only[push_cast]
  exact J (t':= .mk m t.a t.b t.s t.ks) (P6 _) (n.trans N) a6 oM (q5.same N oM) (r5.same N oM) rfl rfl yG oM rfl λH E=>TmR.of (t:= .mk m t.a t.b t.s t.ks) (D (z.same N λx d _ e=>hG x d e) E)
 refine zb (λa1=>?_) (λa1=>?_)
 .refine zd λq f _=>?_;have q6:=q5.ext f;simp only[push_cast,q6.ld1,K3];refine ints_lit (ns:=[1,-1]) dC λb7 H bi g ac=>?_;have q7:=q6.ext g;simp only[push_cast,q7.ld1,K3,gm];have af:=(B.ext f).blk.lt;refine num_spec ((B.ext f).ext g) ac (by simp) dC oM (λx d e=>by subst d;omega) λw8 m j _ aa hm=>?_;have q8:=q7.same j oM;simp only[push_cast,q8.ld1,K3,gm];have U:=((n.trans (Same.of_ext f)).trans (Same.of_ext g)).trans j;exact J (t':= .mk t.op (IntKind.i64.wrap (t.a+m)) t.b t.s t.ks) (P6 _) U aa oM q8 (((r5.ext f).ext g).same j oM) rfl rfl yG oM rfl λw9 O=>TmR.of (t:= .mk t.op (IntKind.i64.wrap (t.a+m)) t.b t.s t.ks) (D (((z.ext f).ext g).same j λx d _ e=>hG x d e) O)
 refine zb (λa2=>?_) (λa2=>?_)
 .refine zd λq f _=>?_;have q6:=q5.ext f;simp only[push_cast,q6.ld2,K3];refine ints_lit (ns:=[1,-1,16]) dC λb7 H bi g ac=>?_;have q7:=q6.ext g;simp only[push_cast,q7.ld2,K3,gm];have af:=(B.ext f).blk.lt;refine num_spec ((B.ext f).ext g) ac (by simp) dC oM (λx d e=>by subst d;omega) λw8 m j _ aa hm=>?_;have q8:=q7.same j oM;simp only[push_cast,q8.ld2,K3,gm];have U:=((n.trans (Same.of_ext f)).trans (Same.of_ext g)).trans j;exact J (t':= .mk t.op t.a (IntKind.i64.wrap (t.b+m)) t.s t.ks) (P6 _) U aa oM q8 (((r5.ext f).ext g).same j oM) rfl rfl yG oM rfl λw9 O=>TmR.of (t:= .mk t.op t.a (IntKind.i64.wrap (t.b+m)) t.s t.ks) (D (((z.ext f).ext g).same j λx d _ e=>hG x d e) O)
 refine zb (λa3=>?_) (λa3=>?_)
 .exact J (t':= .mk t.op t.a t.b ⟨#[113]⟩ t.ks) (P6 _) n B oM q5 r5 rfl rfl WH oM rfl λw9 O=>TmR.of (t:= .mk t.op t.a t.b ⟨#[113]⟩ t.ks) (D z O)
 refine zb (λa4=>?_) (λa4=>?_)
 .refine yv0 (G:=λ_=>False) (t0:= .mk 24 0 0 ⟨#[]⟩ []) (TmR.term (JJ 24 0 0 _)) λq sa f bz bl=>?_;obtain⟨I,ba,aq,a9⟩:=bl;have ai:∀y,y∈I->∀c,c∈y->c.oneCell'=true:=λy hy c S=>by
   obtain⟨i,hi,rfl⟩:=gy hy;have hq:=a9 i oM;rw[X0,gj hi] at hq;obtain⟨c0,he,ad⟩:=hq.inv;obtain⟨am,al,_⟩:=ad;rw[show I[i]=(some I[i]).getD [] from rfl,he] at S;simp only[gk,gE,Gn] at S;rcases S with rfl|rfl|rfl|rfl|rfl
   .rfl
   .rfl
   .rfl
   .rfl
   .exact al.one
  have bm:I.length=1:=aq;refine vappend qm dC (b0.ext f) ba ai (gW _) oM oM λV H ah r bp=>?_;have o:=n.trans (Same.of_ext f);have c2:=o.size;have b8:Same (· =b) w H:=⟨r.os.trans o.os,r.tape.trans o.tape,r.output.trans o.output,gU o.size r.size,λy hy bq=>by
   rw[r.block y (gQ hy o.size) (λe=>by have:=hn y e;omega)];exact o.block y hy bq⟩
  have bh:RdR F H b v xs _:=(B.ext f).same r (λe=>by have:=hn b e;omega) λy hy _ e=>by have:=hn y e;have:=hF y hy;omega
  have q7:=(q5.ext f).same r (λe=>by have:=hn b1 e;omega);have r7:=(r5.ext f).same r (λe=>by have:=hn b2 e;omega);have bn:∀x,V.ownBlock=some x->w2.heap.size<=x:=λx d=>by
   rcases bp x d with d|d
   .exact hn x d
   .omega
  have ae:TmsR (λx=>G x\/w2.heap.size<=x) H V (t.ks++[.mk 24 0 0 ⟨#[]⟩ []]):=by
   refine⟨css++I,ah.sl.weaken λx d _=> .inr (bn x d),by rw[V1,V1,ap,bm];rfl,λi hi=>?_⟩;rw[V1] at hi;by_cases au:i<t.ks.length
   .rw[X0,gK oM,<-X0,X0 (l:=t.ks++_),gK au,<-X0];exact(((((ao i au).same A λx d _ e=>by have:=L x d;omega).same R λx d _ e=>hG x d e).ext f).same r λx d _ e=>by have:=hn x e;have:=L x d;omega).weaken λx d _=> .inl d
   .have bk:i=t.ks.length:=by simp at hi;omega
    subst bk;rw[X0,gX oM,<-X0,ap,GH,X0 (l:=t.ks++_),gX oM,GH];have bv:=a9 0 (by simp);obtain⟨cg,bj,aw⟩:=bv.inv;rw[bj];exact TmR.of (t:= .mk 24 0 0 ⟨#[]⟩ []) ((aw.same r λx d hl e=>by
     rcases d with d|d
     .exact d.elim
     .have:=b0.lt e;omega).weaken λx d _=>by
     rcases d with d|d
     .exact d.elim
     .right;omega)
  have Q:V.cells= #[V]/\V.oneCell'=true:=⟨ah.sl.cells1,ah.sl.one⟩
  try simp only[push_cast]
  exact J (t':= .mk t.op t.a t.b t.s (t.ks++[.mk 24 0 0 ⟨#[]⟩ []])) (by show(t.ks++[_]).length<=_;rw[V1];exact gz _) b8 bh oM q7 r7 Q.1 Q.2 qf oM rfl λw9 O=>TmR.of (t:= .mk t.op t.a t.b t.s (t.ks++[.mk 24 0 0 ⟨#[]⟩ []])) (ae.same O λx d _ e=>by
   rcases d with d|d
   .have:=L x d;omega
   .omega)
 refine zb (λa5=>?_) (λa5=>?_)
 .refine vloop_up 7 (λi u w'=> ∃cs t',u=[nI i]/\Same (· =b) w w'/\RdR F w' b v xs (p+1)/\Blk w' b1 cs za/\Blk w' b2 Kb za/\TmR (λx=>G x\/w2.heap.size<=x) w' cs t'/\w2.heap.size<=w'.heap.size/\t'.ks.length<=t.ks.length+1) ⟨_,t,rfl,n,B,q5,r5,TmR.of (z.weaken λx d _=> .inl d),oM,oM⟩ ?_;rintro i _ _ q C hi ⟨cs,t',rfl,N,a6,ak,b5,a7,bz,af⟩ hC;refine oZ ?_;refine zb (λc=>?_) (λc=>?_)
  .rw[ak.ldAgg (t:=za) (by rw[zS a7];exact zc)];refine yv0 a7.term λH sa g bc ae=>?_;refine oZ ?_;have av:TmsR (λx=>G x\/w2.heap.size<=x) H (.slice sa 1 1) [t']:=ae.weaken λx d _=>by
    rcases d with d|d
    .exact d
    .right;omega
   have an:TmR (λx=>G x\/w2.heap.size<=x) H [nI 25,nI 0,nI 0,.string ⟨#[]⟩,.slice sa 1 1] (.mk 25 0 0 ⟨#[]⟩ [t']):=TmR.of (t:= .mk 25 0 0 ⟨#[]⟩ [t']) av;refine stTerm (ak.ext g) (zS a7) an λw8 j cf bs=>?_
   try simp only[push_cast]
   rw[inc64' oM];refine hC oM _ _ ⟨_,_,rfl,same_new (N.trans (Same.of_ext g)) j oM,(a6.ext g).new j oM λx d e=>by have:=hF x d;omega,bs,(b5.ext g).same j oM,an.same j λx d _ e=>by
    rcases d with d|d
    .have:=L x d;omega
    .omega,oM,by show 1<=_;omega⟩
  .exact T af N a6 oM ak b5 a7
 .exact T (P6 _) n B oM q5 r5 (TmR.of (t:=t) (z.weaken λx d _=> .inl d))
end
section
variable {w:World} {F:oA}
theorem Bytes.below {v:Value} {xs:List Nat} (h:Bytes F w v xs):Bytes (λb=>b<w.heap.size) w v xs:=⟨h.1.weaken λ_ _ a=>a,h.2⟩
theorem dtSize {ds:List M.Dcl} {t:M.Tm}:M.tsort ds t= -1\/(0<=M.tsort ds t/\M.tsort ds t<=4/\M.tsort ds t=M.sortM ds t/\M.fits t=true/\M.declOk ds=true):=by
 unfold M.tsort;split
 .rename_i h;have:=M.sort_range h.2 t;by_cases e:M.sortM ds t= -1
  .exact .inl e
  .exact .inr ⟨oM,oM,rfl,h.1,h.2⟩
 .exact .inl rfl
theorem YH0 {ds:List M.Dcl} {t:M.Tm} {env:oI} (he:M.envOk ds env=true) (hs:M.sortM ds t≠ -1) (a:M.fits t=true):M.tok ds t env=true:=by
 unfold M.tok M.tsort;rw[V0 ⟨a,(M.env_ok he).1⟩,he,gC hs];rfl
end
section
variable {w:World} {F:oA}
abbrev kO0 (o:Int) (ks:List M.Tm):M.Tm:= .mk o 0 0 M.nada ks
theorem Ku {o:Int} {a:Option Addr} {l c:Nat} {ks:List M.Tm} (h:TmsR F w (.slice a l c) ks):TermR F w (.agg ⟨[nI o,nI 0,nI 0,.string ⟨#[]⟩,.slice a l c]⟩) (kO0 o ks):=⟨_,rfl,h⟩
theorem Q4 {o:Int}:TermR F w (.agg ⟨[nI o,nI 0,nI 0,.string ⟨#[]⟩,oN]⟩) (kO0 o []):=Ku TmsR.nil
end
section
variable {w:World} {K:oK} {F D G:oA}
theorem flatten_setEl {k:Nat}:∀{xs:List (List Value)} (_:∀x,x∈xs->x.length=k) {i:Nat} {y:List Value},y.length=k->i<xs.length->(xs.set i y).flatten=xs.flatten.take (i*k)++y++xs.flatten.drop (i*k+k)
 |[],_,i,y,_,hi=>by simp at hi
 |x::r,h,i,y,c,hi=>by
  have e:=h x gp;cases i with
  |zero=>
   simp only[pD,G0,z0e,z0l,Gr,Gg];rw[List.drop_append,Pt oM,Gr,show k-x.length=0 by omega,List.drop_zero]
  |succ i=>
   simp only[PR,G0];have a:(i+1)*k=x.length+i*k:=by rw[pk];omega
   have b:x.length+i*k+k=x.length+(i*k+k):=oM;rw[flatten_setEl (λz d=>h z (gx _ d)) c (by simpa using hi),a,b,List.take_length_add_append,List.drop_length_add_append];simp only[Gd]
set_option maxRecDepth 100000 in
theorem own_stEl {v:Value} {k:Nat} {t e:TypeId} {xs:List (List Value)} {y:List Value} (h:Own 0 k t w v xs) (J:0<k) (n:y.length=k) (B:∀c,c∈y->c.oneCell'=true) (u:aggB e k=true) {i:Nat} (hi:i<xs.length)
  (C:∀w',Own 0 k t w' v (xs.set i y)->Same (λb=>v.ownBlock=some b) w w'->w'.heap.size=w.heap.size->K undef w'):zy e (oE (eaddr v k i)) (.agg ⟨y⟩) w K:=by
 have E:=flatten_len h.wide;rcases h.row with⟨H,s⟩;rcases s with⟨rfl,L⟩|⟨g,cap,cur,rfl,o,x,j,p,r,f⟩
 .omega
 .have F:i*k+k<=xs.length*k:=by rw[<-Nat.succ_mul];exact Pd _ hi
  have G:xs.length*k<=cap*k:=Pd _ j;have d:=run_storeCells_at (P:=P) g (i*k) (X9 t) y 0 cur w x oM B;have he:eaddr (.slice (some ⟨g,0,none⟩) xs.length cap) k i=⟨g,i*k,none⟩:=by
   simp only[eaddr,Gg]
  rw[he];have D:cur.toList.length=cap*k:=(by simpa using r);have m:(cur.toList.take (i*k+0)++y++cur.toList.drop (i*k+0+y.length)).toArray.size=cap*k:=by
   simp only[po,V1,gi,pB];omega
  have a:(cur.toList.take (i*k+0)++y++cur.toList.drop (i*k+0+y.length)).toArray.toList.take (xs.length*k)=(xs.set i y).flatten:=by
   rw[flatten_setEl h.wide n hi,<-f,n];simp only[G6];have I:(cur.toList.take (i*k)).length=i*k:=by rw[gi];omega
   rw[List.take_append,List.take_append,gI (l:=List.take (i*k) cur.toList) oM,gI (l:=y) oM,pF,GG oM,List.drop_take];congr 2;rw[V1,gi];omega
  refine⟨(),_,?_,C (w.setRow g (cur.toList.take (i*k+0)++y++cur.toList.drop (i*k+0+y.length)).toArray) ⟨?_,?_⟩ ⟨rfl,rfl,rfl,by simp,λq _ A=>setRow_other w g q _ (λe=>A (by rw[e];rfl))⟩ (by simp)⟩
  .simp only[Instr.storeAt,Instr.sureAddr,Sem.run_bind,Sem.run_pure,Result.andThen_ok,storeVar,jg u,Value.cells];simp only[po,n,z0h,not_true_eq_false,if_false];rw[n] at d;exact d
  .rw[G4];refine⟨?_,.inr ⟨g,cap,_,rfl,o,setRow_heap w g _ _ _ _ x,j,p,m,a⟩⟩;rw[<-a,gi];have:=m;simp only[po] at this;simp only[List.toList_toArray,this];omega
  .intro z u;obtain⟨q,A,rfl⟩:=gy u;rw[pQ];split
   .exact n
   .exact h.wide _ (GZ _)
end
section
variable {w:World} {F:oA}
theorem getD_set {α:Type} {xs:List α} {i j:Nat} {x d:α} (hi:i<xs.length):(xs.set i x).getD j d=if i=j then x else xs.getD j d:=by
 simp only[X0,Ps];by_cases e:i=j
 .subst e;simp[hi]
 .simp[e]
theorem tmR_one {cs:List Value} {t:M.Tm} (h:TmR F w cs t):∀c,c∈cs->c.oneCell'=true:=λc e=>by
 obtain⟨f,rfl,d,b,_⟩:=h.inv;obtain⟨a,l,rfl,_⟩:=b.shape;simp only[gk,gE,Gn] at e;rcases e with rfl|rfl|rfl|rfl|rfl<;>rfl
def Yt0:M.Tm->Bool:=M.Tm.fold λt xs=>decide (t.ks.length<=1048576)&&xs.all id
theorem Y90 (t:M.Tm):Yt0 t=(decide (t.ks.length<=1048576)&&(t.ks.map Yt0).all id):=M.Tm.fold_eq _ t
theorem fitB_iff {t:M.Tm}:Yt0 t=true↔t.ks.length<=1048576/\∀k,k∈t.ks->Yt0 k=true:=by
 rw[Y90,gl,gh,Ga];refine and_congr_right λ_=>⟨λh k a=>h _ (Gm a),λh y b=>?_⟩;obtain⟨k,a,rfl⟩:=gB.1 b;exact h k a
end
end Go.Proofs.YtfnpmncplaibiaaGreatDoor
section
namespace Go.M
def vecL (w n:Nat):List UInt8:=35::(List.range w).reverse.map λi=>if n/2^i%2=1 then 49 else 48
def digL (n:Int):List UInt8:=[UInt8.ofNat (48+n.toNat)]
def textF (t:Tm) (xs:List (List UInt8)):List UInt8:=
 if t.op=20 then vecL t.a.toNat t.b.toNat else if t.op=21 then t.s.data.toList else if t.op=24 then[116,114,117,101]
 else 40::(wordL t.op++((if t.op=22 then 32::(digL t.a++32::digL t.b) else[])++(xs.flatMap (λx=>32::x)++[41])))
def textL:Tm->List UInt8:=Tm.fold textF
theorem textL_eq (t:Tm):textL t=textF t (t.ks.map textL):=Tm.fold_eq _ t
def Stop (r:List UInt8):Prop:=∀c,r.head?=some c->c=32\/c=41
def Free (a:List UInt8):Prop:=∀c,c∈a->c≠32/\c≠41
theorem atom_cancel:∀{a b r s:List UInt8},Free a->Free b->Stop r->Stop s->a++r=b++s->a=b/\r=s
 |[],[],r,s,_,_,_,_,h=>⟨rfl,h⟩
 |[],y::b,r,s,_,g,j,_,h=>by
  have d:r=y::(b++s):=h;have k:=g y gp;rcases j y (by grind) with e|e
  .grind
  grind
 |x::a,[],r,s,f,_,_,hs,h=>by
  have d:s=x::(a++r):=h.symm;have k:=f x gp;rcases hs x (by grind) with e|e
  .grind
  grind
 |x::a,y::b,r,s,f,g,j,hs,h=>by
  have d:x::(a++r)=y::(b++s):=h;simp only[Gu] at d;obtain⟨rfl,d⟩:=d;obtain⟨rfl,e⟩:=atom_cancel (λc i=>f c (gx _ i)) (λc i=>g c (gx _ i)) j hs d
  grind
theorem stop_cons {c:UInt8} {r:List UInt8} (h:c=32\/c=41):Stop (c::r):=λd a=>by
 grind
theorem word_free:∀o:Fin 28,Free (wordL o):=by unfold Free;decide+kernel
theorem word_inj:∀o p:Fin 28,wordL o=wordL p->wordL o≠[]->o=p:=by decide+kernel
theorem word_ne:∀o:Fin 28,1<=o.1->(o.1<=17\/o.1=22\/o.1=23\/25<=o.1)->wordL o≠[]:=by decide+kernel
theorem vec_inj:∀w:Fin 5,∀a:Fin 16,∀v:Fin 5,∀b:Fin 16,a.1<2^w.1->b.1<2^v.1->vecL w a=vecL v b->w=v/\a=b:=by decide+kernel
theorem vec_free (w n:Nat):Free (vecL w n):=λc a=>by
 grind [vecL]
theorem dig_inj:∀a b:Fin 4,digL a=digL b->a=b:=by decide+kernel
theorem dig_free:∀a:Fin 4,Free (digL a):=by unfold Free;decide+kernel
section
variable {ds:List Dcl} {t u:Tm}
theorem name_ok (d:declOk ds=true) (hs:sortM ds t≠ -1) (i:t.op=21):t.s.data.toList≠[]/\t.s≠tru/\∀c,c∈t.s.data.toList->97<=c.toNat/\c.toNat<=122:=by
 have f:=name_found hs i;have h:(findD ds t.s).toNat<ds.length:=by have:=(findD_lt ds t.s).2;omega
 have g:=findD_get f;have a:=(decl_iff.1 d).2.1 _ h;unfold dclOk at a;rw[g] at a;simp only[gl,gh,nameOk] at a;obtain⟨⟨⟨⟨⟨⟨j,k⟩,b⟩,l⟩,_⟩,_⟩,_⟩:=a;refine⟨λe=>?_,b,λc m=>?_⟩
 .have:t.s.size=0:=by show t.s.data.size=0;simp_all
  omega
 grind [Array.all_eq_true']
theorem right_op (hs:sortM ds t≠ -1):arity t.op=t.ks.length/\plainM t=true/\((1<=t.op/\t.op<=17)\/(20<=t.op/\t.op<=27)):=by
 obtain⟨a,_,_⟩:=sort_parts hs;simp_all[formed_iff,arity_ops]
theorem leaf_arity {o:Int} (h:o=20\/o=21\/o=24):arity o=0:=by unfold arity;omega
theorem node_arity {o:Int} (h:(1<=o/\o<=17)\/(20<=o/\o<=27)) (a: ¬(o=20\/o=21\/o=24)):1<=arity o:=by
 grind [arity]
theorem vec_ok (hs:sortM ds t≠ -1) (c:t.op=20):vok t.a t.b=true:=by
 have h:=(sort_parts hs).2.2
 grind [sortK]
theorem cut_ab (c:declOk ds=true) (hs:sortM ds t≠ -1) (d:t.op=22):0<=t.b/\t.b<=t.a/\t.a<4:=by
 have h:=(sort_parts hs).2.2;have e:(t.ks.map (sortM ds)).getD 0 0<=4:=by
  by_cases hi:0<t.ks.length
  .simp_all[sort_range]
  grind
 grind [sortK]
theorem atom_text (f:declOk ds=true) (hs:sortM ds t≠ -1) (h:t.op=20\/t.op=21\/t.op=24):textL t=textF t []/\Free (textL t)/\textL t≠[]/\∀c,(textL t).head?=some c->c≠40:=by
 have g:t.ks=[]:=by grind [List.eq_nil_of_length_eq_zero,right_op,leaf_arity]
 have e:textL t=textF t []:=by rw[textL_eq,g];rfl
 refine⟨e,?_⟩;rw[e];unfold textF;rcases h with o|o|o
 .rw[V0 o]
  grind [vec_free,vecL]
 .rw[Q1 oM,V0 o];obtain⟨d,i,b⟩:=name_ok f hs o;refine⟨λc a=>?_,d,λc a=>?_⟩
  .have:=b c a;exact⟨λe=>by simp_all,λe=>by simp_all⟩
  .have:=b c (List.mem_of_mem_head? a);intro e;simp_all
 grind [Free]
theorem tm_extT {t u:Tm} (c:t.op=u.op) (d:t.a=u.a) (e:t.b=u.b) (f:t.s=u.s) (g:t.ks=u.ks):t=u:=by
 cases t;cases u
 grind [Tm.op,Tm.a,Tm.b,Tm.s,Tm.ks]
theorem plain_ab (h:plainM t=true) (c:t.op≠20/\t.op≠22):t.a=0/\t.b=0:=by
 grind [plainM]
theorem plain_s (h:plainM t=true) (a:t.op≠21):t.s=nada:=by
 grind [plainM]
theorem atom_inj (g:declOk ds=true) (hs:sortM ds t≠ -1) (hu:sortM ds u≠ -1) (l:t.op=20\/t.op=21\/t.op=24) (m:u.op=20\/u.op=21\/u.op=24) (h:textL t=textL u):t=u:=by
 have x:t.ks=[]:=by grind [List.eq_nil_of_length_eq_zero,right_op,leaf_arity]
 have n:u.ks=[]:=by grind [List.eq_nil_of_length_eq_zero,right_op,leaf_arity]
 have j:=(right_op hs).2.1;have d:=(right_op hu).2.1;rw[(atom_text g hs l).1,(atom_text g hu m).1] at h;unfold textF at h;have letter:∀{v:Tm},sortM ds v≠ -1->v.op=21->∀c r,v.s.data.toList=c::r->97<=c.toNat:=by grind [name_ok,List.mem_cons_self]
 have notrue:∀{v:Tm},sortM ds v≠ -1->v.op=21->v.s.data.toList=[116,114,117,101]->False:=λ{v} q i e=>(name_ok g q i).2.1 (by
  have:v.s.data= #[116,114,117,101]:=(by grind);show v.s=tru;have f:v.s=⟨v.s.data⟩:=rfl;rw[f,this];rfl)
 rcases l with o|o|o<;>rcases m with p|p|p
 .rw[V0 o,V0 p] at h;have v1:=vok_lt (vec_ok hs o);have v2:=vok_lt (vec_ok hu p);have w1:=vok_iff.1 (vec_ok hs o);have w2:=vok_iff.1 (vec_ok hu p);have k:((2^t.a.toNat:Nat):Int)=2^t.a.toNat:=(by simp);have f:((2^u.a.toNat:Nat):Int)=2^u.a.toNat:=(by simp);have:=vec_inj ⟨t.a.toNat,oM⟩ ⟨t.b.toNat,oM⟩ ⟨u.a.toNat,oM⟩ ⟨u.b.toNat,oM⟩ (by grind) (by grind) h
  grind [tm_extT,plain_s]
 .rw[V0 o,Q1 oM,V0 p] at h;exact absurd (letter hu p 35 _ h.symm) dC
 .grind [vecL]
 .rw[Q1 oM,V0 o,V0 p] at h;exact absurd (letter hs o 35 _ h) dC
 .rw[Q1 oM,V0 o,Q1 oM,V0 p] at h;obtain⟨w,b1⟩:=plain_ab j oM;obtain⟨a2,b2⟩:=plain_ab d oM;refine tm_extT oM oM oM ?_ (by grind);have:=GY.1 h;have k:t.s=⟨t.s.data⟩:=rfl;have f:u.s=⟨u.s.data⟩:=rfl;rw[k,f,this]
 .grind
 .grind [vecL]
 .grind
 grind [plain_ab,tm_extT,plain_s]
theorem kids_inj:∀{ks us:List Tm} {r s:List UInt8},ks.length=us.length->(∀k,k∈ks->∀u,u∈us->∀r s,Stop r->Stop s->textL k++r=textL u++s->k=u/\r=s)->
  (ks.map textL).flatMap (λx=>32::x)++41::r=(us.map textL).flatMap (λx=>32::x)++41::s->ks=us/\r=s
 |[],[],r,s,_,_,h=>by
  grind
 |[],_::_,_,_,b,_,_=>by simp at b
 |_::_,[],_,_,b,_,_=>by simp at b
 |k::ks,u::us,r,s,b,c,h=>by
  simp only[GN,List.flatMap_cons,GV,Gd,Gu,K3] at h;have st:∀(l:List Tm) (r:List UInt8),Stop ((l.map textL).flatMap (λx=>32::x)++41::r):=λl r=>by
   cases l with
   |nil=>exact stop_cons (.inr rfl)
   |cons a l=>exact stop_cons (.inl rfl)
  obtain⟨he,h⟩:=c k gp u gp _ _ (st _ _) (st _ _) h;obtain⟨rfl,e⟩:=kids_inj (by grind) (λk d u hu=>c k (gx _ d) u (gx _ hu)) h
  grind
theorem text_inj' (i:declOk ds=true):∀t:Tm,sortM ds t≠ -1->∀u:Tm,sortM ds u≠ -1->∀r s,Stop r->Stop s->textL t++r=textL u++s->t=u/\r=s:=by
 refine Tm.ind λt J hs u hu r s U I h=>?_;obtain⟨ar,pl,op⟩:=right_op hs;obtain⟨B,P,p⟩:=right_op hu;have comp:∀{v:Tm},¬(v.op=20\/v.op=21\/v.op=24)->textL v=40::(wordL v.op++((if v.op=22 then 32::(digL v.a++32::digL v.b) else[])++((v.ks.map textL).flatMap (λx=>32::x)++[41]))):=λ{v} z=>by
  rw[textL_eq];grind [textF]
 by_cases lt:t.op=20\/t.op=21\/t.op=24
 .obtain⟨_,f1,f2,f3⟩:=atom_text i hs lt;by_cases lu:u.op=20\/u.op=21\/u.op=24
  .grind [atom_text,atom_cancel,atom_inj]
  .exfalso;rw[comp lu] at h
   match H:textL t,f2 with
   |c::q,_=>
    grind
 .by_cases lu:u.op=20\/u.op=21\/u.op=24
  .exfalso;obtain⟨_,g1,g2,g3⟩:=atom_text i hu lu;rw[comp lt] at h
   match H:textL u,g2 with
   |c::q,_=>
    grind
  .rw[comp lt,comp lu] at h;simp only[GV,Gd,Gu,K3,Gr] at h;have na:=node_arity op lt;have M:=node_arity p lu;have kst:∀{l:List Tm} {q:List UInt8},1<=l.length->∃A,(l.map textL).flatMap (λx=>32::x)++41::q=32::A:=λ{l q} n=>by
    cases l with
    |nil=>simp at n
    |cons a l=>grind
   have st:∀{v:Tm} {q:List UInt8},1<=v.ks.length->Stop ((if v.op=22 then 32::(digL v.a++32::digL v.b) else[])++((v.ks.map textL).flatMap (λx=>32::x)++41::q)):=λ{v q} n=>by
    split
    .exact stop_cons (.inl rfl)
    .obtain⟨A,e⟩:=kst (q:=q) n
     grind [stop_cons]
   have N:(((⟨t.op.toNat,oM⟩:Fin 28):Nat):Int)=t.op:=(by grind);have O:(((⟨u.op.toNat,oM⟩:Fin 28):Nat):Int)=u.op:=(by grind);have f:=word_free ⟨t.op.toNat,oM⟩;have g:=word_free ⟨u.op.toNat,oM⟩;rw[N] at f;rw[O] at g;obtain⟨hw,h⟩:=atom_cancel f g (st (v:=t) oM) (st (v:=u) oM) h;have o:=word_ne ⟨t.op.toNat,oM⟩ oM oM;have G:=word_inj ⟨t.op.toNat,oM⟩ ⟨u.op.toNat,oM⟩ (by grind) o;have w:t.op=u.op:=by
    omega
   have j:t.a=u.a/\t.b=u.b/\(t.ks.map textL).flatMap (λx=>32::x)++41::r=(u.ks.map textL).flatMap (λx=>32::x)++41::s:=by
    by_cases d:t.op=22
    .rw[V0 d,V0 oM] at h;simp only[GV,Gd,Gu,K3] at h;have c1:=cut_ab i hs d;have c2:=cut_ab i hu oM;have da:∀{x:Int},0<=x->x<4->Free (digL x):=λ{x} C E=>by
      have:=dig_free ⟨x.toNat,oM⟩
      grind
     have di:∀{x y:Int},0<=x->x<4->0<=y->y<4->digL x=digL y->x=y:=λ{x y} C E D F he=>by
      have:=dig_inj ⟨x.toNat,oM⟩ ⟨y.toNat,oM⟩ (by
       grind)
      grind
     obtain⟨Q,h⟩:=atom_cancel (da oM oM) (da oM oM) (stop_cons (.inl rfl)) (stop_cons (.inl rfl)) h;simp only[Gu,K3] at h;obtain⟨V,K⟩:=kst (l:=t.ks) (q:=r) oM;obtain⟨W,L⟩:=kst (l:=u.ks) (q:=s) oM;obtain⟨R,h⟩:=atom_cancel (da oM oM) (da oM oM) (by rw[K];exact stop_cons (.inl rfl)) (by rw[L];exact stop_cons (.inl rfl)) h
     grind
    grind [plain_ab]
   obtain⟨S,T,h⟩:=j;obtain⟨m,e⟩:=kids_inj (by
    grind) (λk m v z=>J k m ((sort_parts hs).2.1 k m) v ((sort_parts hu).2.1 v z)) h
   grind [tm_extT,plain_s]
theorem text_inj (b:declOk ds=true) (hs:sortM ds t≠ -1) (hu:sortM ds u≠ -1) (h:textL t=textL u):t=u:=
 (text_inj' b t hs u hu [] [] (λc a=>by cases a) (λc a=>by cases a) (by grind)).1
end
end Go.M
end
namespace Go.Proofs.YtfnpmncplaibiaaGreatDoor
open Go Go.Vc Go.Proofs
section
variable {w:World} {K:oK} {F Fx X Q:oA} {n:Nat} {v:Value}
theorem dcl_small {ds:List M.Dcl} (a:M.declOk ds=true) {i:Nat} (hi:i<=ds.length):0<=M.bitT ds i/\M.bitT ds i<=16:=by
 have c:=(M.decl_iff.1 a).1;induction i with
 |zero=>exact⟨pn _,show(0:Int)<=16 by decide⟩
 |succ i b=>
  have:=b oM;have hw:=M.dcl_wide a (i:=i) oM;rw[M.bitT_succ oM];have key:M.bitT ds i<=4*(i:Int):=by
   clear b this;induction i with
   |zero=>exact pn _
   |succ j ihj=>
    have hw:=M.dcl_wide a (i:=j) oM;have:=ihj oM (M.dcl_wide a oM);rw[M.bitT_succ oM];omega
  omega
theorem bitsOf_spec {dv:Value} {ds:List M.Dcl} (l:DclsR Fx w dv ds) (d:M.declOk ds=true) (o:∀w',Ext w w'->K (nI (M.bits ds)) w'):vcall UE #[dv] w K:=by
 refine zf {loops:=[(3,[3,8])]} Tryz.func129 ?_;simp only[push_cast,l.len];have k:=(M.decl_iff.1 d).1;refine vloop_up ds.length (λi u w'=>u=[nI (M.bitT ds i),nI i]/\Ext w w') ⟨rfl,Same.refl _ _⟩ ?_;rintro i _ _ w2 C hi ⟨rfl,c⟩ n;have e:=l.ext c;refine oZ ?_;refine zb (λa=>?_) (λa=>?_)
 .have b:i<ds.length:=oM;simp(disch:=exact oS) only[push_cast,e.iaddr,e.load];refine zj yO λb1 v p f r m=>?_;refine stDecl m λt j _ k=>?_;have g:Ext w2 t:=Ext.then f j λy s=>by subst s;omega
  have q:=dcl_small d hi;have h:=dcl_small d (i:=i+1) b;rw[M.bitT_succ b] at h;simp(disch:=exact oS) only[push_cast,k.ld1,zi];refine n b _ _ ⟨?_,c.trans g⟩;rw[M.bitT_succ b];simp
 .have:i=ds.length:=oM;subst this;rw[M.bitT_all];exact o w2 c
theorem nameB_take {ds:List M.Dcl} {k j:Nat} {wd top:Int} (c:(j:Int)<wd) (hw:wd=(ds.getD k (M.nada,0)).2) (b:top=2+M.bits (ds.take k)):(M.nameB ds k).take (j+1)=(M.nameB ds k).take j++[top+(wd-1-j)]:=by
 have a:j<(M.nameB ds k).length:=by rw[M.nameB_len];omega
 rw[M.take_add a 0];congr 1;unfold M.nameB;rw[X0,GQ,PL oM];show[2+M.bits (ds.take k)+(ds.getD k (M.nada,0)).2-1-(j:Int)]=[top+(wd-1-(j:Int))];rw[b,hw];congr 1;omega
theorem inputs_spec {bl:Nat} {r:List Value} {dv:Value} {ds:List M.Dcl} {s:ByteArray} {x0:Value} (T:Blk w bl (x0::dv::r) yh) (N:DclsR Fx w dv ds) (f:M.declOk ds=true) (hs:0<=M.findD ds s)
  (L:∀w' r,Ext w w'->OwnI zg w' r (M.nameB ds (M.findD ds s).toNat)->(∀b,r.ownBlock=some b->w.heap.size<=b)->K r w'):vcall Y8 #[oP bl 0,.string s] w K:=by
 refine zf {loops:=[(3,[5,15]),(8,[8,9])]} Tryz.func198 ?_;simp only[push_cast,T.ld1,N.len];have h4:=(M.decl_iff.1 f).1;have a0:=M.findD_lt ds s;refine vloop_up ds.length (λi u w'=>u=[nI (2+M.bitT ds i),nI i]/\Ext w w'/\i<=(M.findD ds s).toNat) ⟨rfl,Same.refl _ _,gW _⟩ ?_;rintro i _ _ w2 C hi ⟨rfl,k,Z⟩ U;have q:=N.ext k;refine oZ ?_;have d:i<ds.length:=oM
 refine zb (λa=>?_) (λa=>oM);simp(disch:=exact oS) only[push_cast,q.iaddr,q.load];refine zj yO λb1 w3 W D a3 S=>?_;refine stDecl S λw4 J _ o=>?_;have t:Ext w2 w4:=Ext.then D J λy hy=>by subst hy;omega
 have a2:=dcl_small f hi;have H:=dcl_small f (i:=i+1) d;rw[M.bitT_succ d] at H;have Q:=M.dcl_wide f d;simp(disch:=exact oS) only[push_cast,o.ld0,o.ld1,zi];refine zb (λe=>?_) (λe=>?_)
 .have E:i=(M.findD ds s).toNat:=by
   by_cases c:i=(M.findD ds s).toNat
   .exact c
   .have R:=M.dcl_apart f (i:=(M.findD ds s).toNat) (j:=i) oM oM;exact absurd (e.trans (M.findD_get hs).symm) R
  rw[<-E] at L;have B:M.bitT ds i=M.bits (ds.take i):=rfl;generalize V:(ds.getD i (M.nada,0)).2=wd at*;refine qA (λm u w'=> ∃j r,u=[r,nI ((m:Int)-1)]/\(m:Int)+(j:Nat)=wd/\Ext w w'/\OwnI zg w' r ((M.nameB ds i).take j)/\∀b,r.ownBlock=some b->w.heap.size<=b) wd.toNat
   ⟨0,_,by rw[show((wd.toNat:Nat):Int)=wd by omega],oM,k.trans t,OwnI.nil,λb p=>by cases p⟩ ?_
  rintro m _ _ w5 C5 ⟨j,r,rfl,a1,v,n,l⟩ A;refine oZ ?_;refine zb (λY=>?_) (λO=>?_)
  .simp(disch:=omega) only[push_cast,zi];refine zC yx y3 ye rfl rfl λb6 w6 X x a4 z=>?_;have g:=v.trans x;have hz:=g.size;have hle:((M.nameB ds i).take j).length<=16:=by rw[gi,M.nameB_len];omega
   refine(n.ext x).app1 yy z oM oM λr7 w7 G I F=>?_
   try simp(disch:=omega) only[push_cast,zi]
   refine A (m-1) _ _ oM ⟨j+1,r7,?_,oM,Ext.then g I λb p=>l b p,?_,λb p=>(F b p).elim (l b) λh=>oM⟩
   .rw[show((m-1:Nat):Int)=(m:Int)-1 by omega]
   .rw[nameB_take (wd:=wd) (top:=2+M.bits (ds.take i)) oM V.symm rfl,<-B];rw[show(2+M.bitT ds i+(wd-1-j))=2+M.bitT ds i+((m:Int)-1) by omega];exact G
  .rw[gI (by rw[M.nameB_len];omega)] at n;exact L w5 r v n l
 .refine U d _ _ ⟨?_,k.trans t,?_⟩
  .rw[M.bitT_succ d];simp;omega
  .have:i≠(M.findD ds s).toNat:=λh=>e (by rw[h];exact M.findD_get hs);omega
end
end Go.Proofs.YtfnpmncplaibiaaGreatDoor
namespace Go.Proofs.YtfnpmncplaibiaaGreatDoor
open Go Go.Vc Go.Proofs Go.Shelf
section
variable {w:World} {K:oK} {F X Q:oA}
def Yd0:ByteArray:=⟨#[48,49,50,51,52,53,54,55,56,57,97,98,99,100,101,102,103,104,105,106,107,108,109,110,111,112,113,114,115,116,117,118,119,120,121,122]⟩
theorem digit_text:∀k:Fin 10,(Yd0.extract k.1 (k.1+1)).data.toList=M.digL (k.1:Int):=by decide+kernel
theorem Itoa_spec {k:Nat} (c:k<10) (b:∀s:ByteArray,s.data.toList=M.digL (k:Int)->K (.string s) w):vcall jh #[nI k] w K:=by
 refine zf {} Tryz.func194 ?_;refine zf {} Tryz.func240 ?_;refine zf {cuts:=[(12292,[]),(28680,[6])]} Tryz.func282 ?_;refine oZ ?_;refine zb (λ_=>?_) (λh=>absurd trivial h);refine zp (λ_ _=>False) ?_ (λ_ _ _ h=>h.elim);intro J d;refine zb (λ_=>?_) (λh=>oM);refine zb (λ_=>?_) (λh=>oM);refine zf {} Tryz.func306 ?_;simp(disch:=omega) only[push_cast,zi];refine zb (λ_=>?_) (λh=>oM);have a:Yd0.size=36:=by decide+kernel
 show xt xe (.string Yd0) _ _ _ w _;rw[xW0 rK oM oM (by rw[a];omega)];rw[show((k:Int)).toNat=k by omega,show((k:Int)+1).toNat=k+1 by omega];exact b _ (digit_text ⟨k,c⟩)
def byV (c:UInt8):Value:= .int .u8 c.toNat
theorem qu0 {v:Value} {l:List UInt8} (h:OwnV xf w v (l.map byV)) (g:l≠[]):xY0 xf xe v w K=K (.string ⟨l.toArray⟩) w:=by
 obtain⟨a,c,k,p,n,d⟩:=(OwnV.vals h).shape;have f:(l.map byV).map (λx=>[x])≠[]:=by simpa using g
 obtain⟨b,o,m,_,_,e⟩:=d f;simp only[gd] at k e;subst m;subst k;refine y6 (run_convert_bytes_back w xf xe Yw ⟨b,o,none⟩ c l XV rK rK λj i=>?_);have:=e j i 0 (byV l[j]) (by
  rw[X0,GQ,GQ,gj i];rfl)
 rw[ym] at this⊢;rw[pS,G6] at this;exact this
def jV0 (n:Nat) (i:Nat):UInt8:=if n/2^i%2=1 then 49 else 48
theorem bitC_take {wd n j:Nat} (a:j<wd):((List.range wd).reverse.map (jV0 n)).take (j+1)=((List.range wd).reverse.map (jV0 n)).take j++[jV0 n (wd-1-j)]:=by
 have b:j<((List.range wd).reverse.map (jV0 n)).length:=by simpa using a
 rw[M.take_add b 0];congr 1;rw[X0,GQ,pX (by simpa using a),G7,PL oM];rfl
theorem VecText_spec {wd n:Int} (C:M.vok wd n=true) (hK:∀w' s,Ext w w'->s.data.toList=M.vecL wd.toNat n.toNat->K (.string s) w'):vcall Xf #[qa wd n] w K:=by
 refine zf {loops:=[(5,[3,4])]} Tryz.func193 ?_;obtain⟨U,V,W,X⟩:=M.vok_iff.1 C;have hp:(2:Int)^wd.toNat<=16:=by
  have:=pow4 (k:=wd.toNat) oM oM;have e:=Wz wd.toNat;omega
 refine zk λb1 w1 a0 z aa g=>?_;have y:∀w':World,Blk w' b1 [nI wd,nI n] zh->∀K:oK,zu zh (oP b1 0) w' K=K (qa wd n) w':=λw' hB K=>Blk.ldAgg hB (by exact zt);rw[y w1 g];refine VecOk_spec λw2 o=>?_;rw[C];simp only[push_cast,GI];refine zC XV rK (show yj Yw (.int .u8 0) by unfold yj;kernel_rfl) rfl rfl λb3 w3 a5 A ab I=>?_;have D:=g.ext (o.trans A);have e3:=z.trans (o.trans A);have s1:=z.size;have s2:=o.size;have S:OwnV xf w3 (.slice (some ⟨b3,0,none⟩) 1 1) ([(35:UInt8)].map byV):=Blk.own1 (t:=xf) (cs:=[byV 35]) (by rw[jK0];exact I) (gW _) rfl rfl oM;simp(disch:=exact oS) only[push_cast,D.ld0,zi];refine qA (λm u w'=> ∃j r,u=[r,nI ((m:Int)-1)]/\(m:Int)+(j:Nat)=wd/\Ext w w'/\Blk w' b1 [nI wd,nI n] zh/\OwnV xf w' r ((35::((List.range wd.toNat).reverse.map (jV0 n.toNat)).take j).map byV)/\∀b,r.ownBlock=some b->w1.heap.size<=b) wd.toNat
  ⟨0,_,by rw[show((wd.toNat:Nat):Int)=wd by omega],oM,e3,D,S,λb l=>by have e:b3=b:=gg l;omega⟩ ?_
 rintro m _ _ Y Z ⟨j,r,rfl,a9,p,i,v,q⟩ L;refine oZ ?_;refine zb (λa7=>?_) (λa8=>?_)
 .rw[y Y i];rw[show n=((n.toNat:Nat):Int) by omega];refine raw_spec oM λw6 O=>?_;rw[show(m:Int)-1=((m-1:Nat):Int) by omega];refine bit_spec oM oM ?_;have step:∀(x:UInt8) (G:oK),x=jV0 n.toNat (wd.toNat-1-j)->(∀d a,Ext w a->Blk a b1 [nI wd,nI n] zh->OwnV xf a d ((35::((List.range wd.toNat).reverse.map (jV0 n.toNat)).take (j+1)).map byV)->(∀b,d.ownBlock=some b->w1.heap.size<=b)->G d a)->
    vbuildS xf 1 [(0,.int .u8 x.toNat)] w6 λt21 F=>vbi .append [xf,xf] xf [r,t21] F G:=by
   intro x G hx N;refine zC XV rK (show yj Yw (.int .u8 0) by unfold yj;kernel_rfl) rfl rfl λb7 a a6 Q ad J=>?_;have f:=O.trans Q;have hl:((35::((List.range wd.toNat).reverse.map (jV0 n.toNat)).take j).map byV).length<=20:=by
    simp only[gd,gJ,gi,pP,G7];omega
   refine(v.ext f).app1 kW0 J rfl oM oM λr8 w8 T E R=>?_;have ac:=p.size;have z67:=f.size;refine N r8 w8 (Ext.then (p.trans f) E λb l=>by have:=q b l;omega) ((i.ext f).same E λl=>by have:=q b1 l;have:=g.lt;omega) ?_ λb l=>(R b l).elim (q b) λh=>by have:=i.lt;omega
   rw[bitC_take oM,<-hx,<-GV,gG];exact T
  have B:wd.toNat-1-j=m-1:=oM;have fin:∀d a,Ext w a->Blk a b1 [nI wd,nI n] zh->OwnV xf a d ((35::((List.range wd.toNat).reverse.map (jV0 n.toNat)).take (j+1)).map byV)->(∀b,d.ownBlock=some b->w1.heap.size<=b)->Z [d,nI (((m-1:Nat):Int)-1)] a:=λd a U V W X=>
   L (m-1) _ _ oM ⟨j+1,d,rfl,oM,U,V,W,X⟩
  refine zb (λc=>?_) (λc=>?_)
  .refine step 49 _ (by rw[B];unfold jV0;rw[V0 c]) λd a H a2 a3 a4=>?_;rw[zi oM oM];exact fin d a H a2 a3 a4
  .refine step 48 _ (by rw[B];unfold jV0;rw[Q1 c]) λd a H a2 a3 a4=>?_;rw[zi oM oM];exact fin d a H a2 a3 a4
 .rw[gI (by simp;omega)] at v;rw[qu0 v (by simp)];exact hK Y _ p rfl
theorem joinX:Builder.Extra P YtfnpmncplaibiaaGreatDoor.joinL_ren where
 sizeBuilder:=rK
 liesBuilder:=rK
 t5:=rK
 a5:=λw=>rK
 z5:=λw=>rK
 v5:=λw=>rK
 infoByte:=rK
 cellsByte:=rK
 sizeByte:=rK
 neB5:=by decide+kernel
def joinB:List (List UInt8)->List UInt8
 |[]=>[]
 |x::xs=>x++xs.flatMap λy=>32::y
theorem ju0 (xs:List (List UInt8)):Lib.join xs [32]=joinB xs:=by
 unfold Lib.join joinB;induction xs with
 |nil=>rfl
 |cons x xs a=>
  cases xs with
  |nil=>simp[List.intercalate,List.intersperse]
  |cons y ys=>
   simp only[List.intercalate,List.intersperse_cons_cons,G0] at a⊢;rw[a];simp
theorem Join_spec {v:Value} {xs:List ByteArray} (h:OwnV yE w v (xs.map .string)) (n:2<=xs.length) (y:xs.length<=1000) (g:(joinB (xs.map (·.data.toList))).length<=1000000)
  (q:∀w' s,Ext w w'->s.data.toList=joinB (xs.map (·.data.toList))->K (.string s) w'):vcall Xb #[v,.string ⟨#[32]⟩] w K:=by
 obtain⟨a,c,m,l,u,d⟩:=(OwnV.vals h).shape;have k:(xs.map Value.string).map (λx=>[x])≠[]:=by intro e;have:=congrArg List.length e;simp only[gd,pW] at this;omega
 obtain⟨b,o,r,_,t,f⟩:=d k;simp only[gd] at m f l;subst r;subst m;refine⟨rK,?_⟩;refine(Any.strings_Join_many YtfnpmncplaibiaaGreatDoor.joinL joinX b o c xs ⟨#[32]⟩ w (λj x g=>?_) t n oM l (by rw[show(⟨#[32]⟩:ByteArray).data.toList=[32] from rfl,ju0];omega)).mono ?_
 .have i:j<xs.length:=(GK.1 g).1;have:=f j i 0 (.string x) (by
   rw[X0,GQ,GQ,g];rfl)
  rw[ym,pS,G6] at this;exact this
 .rintro e w' ⟨rfl,p⟩;refine q w' _ (yJ0 p) ?_;rw[show(⟨#[32]⟩:ByteArray).data.toList=[32] from rfl,ju0]
end
end Go.Proofs.YtfnpmncplaibiaaGreatDoor
namespace Go.Proofs.YtfnpmncplaibiaaGreatDoor
open Go Go.Vc Go.Proofs
section
variable {w:World} {K:oK} {F X Q:oA}
theorem Kv {s:ByteArray} {m:Value} (c:∀w',Ext w w'->K (.string s) w'):vcall yp #[.agg ⟨[.string s,m]⟩] w K:=by
 refine zf {} Tryz.func412 ?_;refine zk λb w1 d he e a=>?_;simp(disch:=exact oS) only[push_cast,a.ld0];exact c w1 he
theorem word_spec {o:Int} {v:Value} (k:KindR o v) (l:(1<=o/\o<=17)\/(22<=o/\o<=27)) (a:o≠24) (j:∀w' s,Ext w w'->s.data.toList=M.wordL o->K (.string s) w'):vinvoke v Zy #[] w K:=by
 obtain⟨s,m,r,rfl,e,g,i⟩:=k.word;have hs:s.data.toList=M.wordL o:=by
  rcases i with h|h|h|h
  .omega
  .omega
  .exact absurd h a
  .exact h
 have fin:vcall yp #[.agg ⟨[.string s,nI m]⟩] w K:=Kv λw' he=>j w' s he hs;unfold kTy;by_cases c:24<=o
 .obtain⟨f,rfl,_⟩:=g c
  repeat rw[Q1 oM]
  exact zO (Yg _ _ _) fin
 .have:=e oM;subst this;by_cases c1:o<=2
  .rw[V0 c1];exact zO (XD _ _) fin
  rw[Q1 c1];by_cases c2:o<=13
  .rw[V0 c2];exact zO (X4 _ _) fin
  rw[Q1 c2];by_cases c3:o=14
  .rw[V0 c3];exact zO (X1 _ _) fin
  rw[Q1 c3];by_cases b:o<=17
  .rw[V0 b];exact zO (YX _ _) fin
  rw[Q1 b,Q1 oM,Q1 oM];by_cases d:o=22
  .rw[V0 d];exact zO (YU _ _) fin
  rw[Q1 d,V0 oM];exact zO (XG _ _) fin
theorem wordL_len (o:Int):(M.wordL o).length<=5:=by
 by_cases h:0<=o/\o<28
 .have a:∀k:Fin 28,(M.wordL (k.1:Int)).length<=5:=(by decide+kernel);have:=a ⟨o.toNat,oM⟩;rwa[show((o.toNat:Nat):Int)=o by omega] at this
 .unfold M.wordL
  repeat rw[Q1 oM]
  decide
theorem kz0 (wd n:Nat):(M.vecL wd n).length=wd+1:=by unfold M.vecL;simp
theorem kids_sum {f:M.Tm->Nat} {ks:List M.Tm} {g:M.Tm->List UInt8} (h:∀k,k∈ks->(g k).length+1<=f k):((ks.map g).flatMap (λx=>32::x)).length<=(ks.map f).sum:=by
 induction ks with
 |nil=>simp
 |cons k ks b=>
  have:=h k gp;have:=b λy a=>h y (gx _ a);simp only[GN,List.flatMap_cons,V1,gJ,List.sum_cons];omega
theorem text_len {ds:List M.Dcl} (i:M.declOk ds=true):∀t,M.sortM ds t≠ -1->(M.textL t).length+1<=20*M.sizeM t:=by
 refine M.Tm.ind λt n hs=>?_;obtain⟨h,v,u⟩:=M.right_op hs;rw[M.sizeM_eq,M.textL_eq];have e:((t.ks.map M.textL).flatMap (λx=>32::x)).length<=(t.ks.map λk=>20*M.sizeM k).sum:=kids_sum λk e=>n k e ((M.sort_parts hs).2.1 k e);have g:(t.ks.map λk=>20*M.sizeM k).sum=20*(t.ks.map M.sizeM).sum:=by
  generalize t.ks=l;induction l with
  |nil=>rfl
  |cons k l ihl=>simp only[GN,List.sum_cons,ihl];omega
 unfold M.textF;by_cases c:t.op=20
 .rw[V0 c,kz0];have:=M.vok_iff.1 (M.vec_ok hs c);omega
 rw[Q1 c];by_cases c:t.op=21
 .rw[V0 c];have j:=M.name_found hs c;have m:(M.findD ds t.s).toNat<ds.length:=by have:=(M.findD_lt ds t.s).2;omega
  have d:=(M.decl_iff.1 i).2.1 _ m;unfold M.dclOk at d;rw[M.findD_get j] at d;simp only[gl,gh,M.nameOk] at d;obtain⟨⟨⟨⟨⟨⟨o,p⟩,q⟩,r⟩,_⟩,_⟩,_⟩:=d;have:t.s.data.toList.length=t.s.size:=by rw[pO];rfl
  omega
 rw[Q1 c];by_cases c:t.op=24
 .rw[V0 c];simp;omega
 rw[Q1 c];have:=wordL_len t.op;have f:(if t.op=22 then(32:UInt8)::(M.digL t.a++32::M.digL t.b) else[]).length<=4:=by
  split
  .simp[M.digL]
  .simp
 simp only[gJ,V1,pW];omega
theorem Itoa_int {k:Int} (b:0<=k) (c:k<10) (a:∀s:ByteArray,s.data.toList=M.digL k->K (.string s) w):vcall jh #[nI k] w K:=by
 obtain⟨j,rfl⟩:∃j:Nat,k=j:=⟨k.toNat,oM⟩;exact Itoa_spec oM a
theorem textOf_spec {ds:List M.Dcl} (hd:M.declOk ds=true) {kb:Nat}:∀(t:M.Tm),M.sortM ds t≠ -1->M.sizeM t<=1000->∀{w:World} {K:oK} {F:oA} {tv:Value},KindsR w kb->TermR F w tv t->
  (∀w' s,Ext w w'->s.data.toList=M.textL t->K (.string s) w')->vcall Zt #[.map (some kb),tv] w K:=by
 refine M.Tm.ind λt ih hs bf w K F tv hk ht n=>?_;obtain⟨ac,hp,ho⟩:=M.right_op hs;have hlen:=text_len hd t hs;obtain⟨kv,rfl,ae⟩:=ht;apply zo0;refine zk λb1 w1 b4 f bh m=>?_;have Y:=hk.ext f;have H:=ae.ext f;rw[M.textL_eq] at n hlen;unfold M.textF at n hlen;simp(disch:=exact oS) only[push_cast,m.ld0,m.ld1,m.ld2,m.ld3];refine zb (λc=>?_) (λc=>?_)
 .rw[V0 c] at n;have hv:=M.vec_ok hs c;have e:yi zh [(0,nI t.a),(1,nI t.b)] w1=λK=>K (qa t.a t.b) w1:=by
   funext K;exact zT Jg (us:=[[nI t.a],[nI t.b]]) rfl rfl
  try rw[e]
  exact VecText_spec hv λw2 s B ak=>n w2 s (f.trans B) ak
 rw[Q1 c] at n hlen;refine zb (λc=>?_) (λc=>?_)
 .rw[V0 c] at n;exact n w1 _ f rfl
 rw[Q1 c] at n hlen;refine zb (λc=>?_) (λc=>?_)
 .rw[V0 c] at n;exact n w1 _ f rfl
 rw[Q1 c] at n hlen;have ai:(1<=t.op/\t.op<=17)\/(22<=t.op/\t.op<=27):=oM
 refine KX (ok:=false) Y (by rw[ac];omega) λbm af=>?_;simp only[Gj,if_false];refine word_spec af ai oM λw2 ws B a6=>?_;refine zC Z8 rK Z7 rfl rfl λb3 w3 b6 W bi a9=>?_;have O:=B.trans W;have s1:=f.size;have s2:=B.size;have k:=m.ext O;have a2:OwnV yE w3 (.slice (some ⟨b3,0,none⟩) 1 1) ([ws].map .string):=Blk.own1 (t:=yE) (cs:=[Value.string ws]) (by rw[qr0];exact a9) (gW _) rfl rfl oM;have be:1<=t.ks.length:=by
  have:=M.node_arity ho oM;omega
 have bc:t.ks.length<=3:=by
  have h:M.arity t.op<=3:=by
   unfold M.arity;repeat' split
   all_goals omega
  omega
 refine zp (λu w'=> ∃(wv:Value) (wl:List ByteArray),u=[wv]/\Ext w1 w'/\OwnV yE w' wv (wl.map .string)/\(∀b,wv.ownBlock=some b->w1.heap.size<=b)/\wl.length<=3/\wl.map (·.data.toList)=M.wordL t.op::(if t.op=22 then[M.digL t.a,M.digL t.b] else[])) ?_ ?_
 .intro J hJ;simp(disch:=exact oS) only[push_cast,k.ld0,k.ld1,k.ld2];refine zb (λz=>?_) (λz=>?_)
  .obtain⟨b2,ba,b0⟩:=M.cut_ab hd hs z;refine zd λw4 X _=>?_;have p:=k.ext X;simp(disch:=exact oS) only[push_cast,p.ld1,p.ld2,K3];refine Itoa_int oM oM λsa am=>?_;simp(disch:=exact oS) only[push_cast,p.ld2,K3,gm];refine Itoa_int oM oM λsb an=>?_;refine vbuildS_row1 (xs:=[.string sa,.string sb]) Z8 WH Z7 (λx a8=>by
    simp only[gk,gE,Gn] at a8;rcases a8 with rfl|rfl<;>rfl) (by simp) λb5 w5 b8 q bj S=>?_
   have ap:Vals (· =b5) w5 (.slice (some ⟨b5,0,none⟩) 2 2) [.string sa,.string sb]:=S.sl1 rfl (by simp);have Q:=X.trans q;refine(a2.ext Q).app yu0 ap (λu hu=>by
    simp only[gk,gE,Gn] at hu;rcases hu with rfl|rfl<;>rfl) (by simp) (by simp) λr6 w6 G al E=>?_
   have z35:=Q.size;have z3:=W.size;refine hJ _ _ ⟨r6,[ws,sa,sb],rfl,Ext.then (O.trans Q) al λb A=>by have e:b3=b:=gg A;omega,by simpa using G,λb A=>(E b A).elim (λh=>by have e:b3=b:=gg h;omega) λh=>oM,by simp,?_⟩;rw[V0 z];simp[a6,am,an]
  .exact hJ _ _ ⟨_,[ws],rfl,O,a2,λb A=>by have e:b3=b:=gg A;omega,by simp,by rw[Q1 z];simp[a6]⟩
 rintro _ _ w5 ⟨wv,wl,rfl,q,aj,ah,bg,a7⟩;have S:=m.ext q;have Z:=H.ext q;simp(disch:=exact oS) only[push_cast,S.ld4,Z.len];refine vloop_up t.ks.length (λi u w'=> ∃(r:Value) (kl:List ByteArray),u=[r,nI i]/\Ext w1 w'/\OwnV yE w' r ((wl++kl).map .string)/\(∀b,r.ownBlock=some b->w1.heap.size<=b)/\kl.map (·.data.toList)=(t.ks.take i).map M.textL) ⟨wv,[],rfl,q,by simpa using aj,ah,rfl⟩ ?_;rintro i _ g w6 C hi ⟨r,kl,rfl,v,G,E,l⟩ hC;have I:=H.ext v;have av:kl.length=i:=by
  have:=congrArg List.length l;simp only[gd,gi] at this;omega
 refine oZ ?_;refine zb (λa=>?_) (λa=>?_)
 .have d:i<t.ks.length:=oM;simp(disch:=exact oS) only[push_cast,I.iaddr];refine I.load zc d λx hx=>?_;obtain⟨cx,rfl,T⟩:=hx.cells;refine zj zr λb7 w7 b9 D bk aa=>?_;refine stTerm aa rfl (T.ext D) λw8 aq bl ab=>?_;have R:Ext w6 w8:=Ext.then D aq λy hy=>by subst hy;omega
  have v8:=T.ext R;simp only[push_cast,ab.ldAgg (t:=za) (by rw[zS T];exact zc)];have L:t.ks.getD i default∈t.ks:=M.getD_mem d _;have ao:M.sizeM (t.ks.getD i default)<=1000:=by
   have h1:=M.szT_succ d;have h2:=M.szT_mono (ks:=t.ks) (i:=i+1) (j:=t.ks.length) d (gz _);have h3:=M.szT_all t;omega
  refine ih _ L ((M.sort_parts hs).2.1 _ L) ao (Y.ext (v.trans R)) v8.term λw9 sk ad a5=>?_;refine zC Z8 rK Z7 rfl rfl λaz w10 au V ax U=>?_;have o:=R.trans (ad.trans V);have bd:((wl++kl).map Value.string).length<=6:=by rw[gd,V1];omega
  refine(G.ext o).app1 yu0 U rfl oM oM λar bn a1 a3 a0=>?_;have z6:=v.size;have ay:=o.size
  try simp(disch:=omega) only[push_cast,zi]
  refine hC d _ _ ⟨ar,kl++[sk],by simp<;>exact⟨rfl,rfl⟩,Ext.then (v.trans o) a3 λb A=>E b A,?_,λb A=>(a0 b A).elim (E b) λh=>oM,?_⟩
  .rw[<-Gd,gG];exact a1
  .rw[M.take_add d default,gG,gG,l];simp[a5]
 .have d:i=t.ks.length:=oM;subst d;rw[gF] at l;have N:joinB ((wl++kl).map (·.data.toList))=M.wordL t.op++((if t.op=22 then(32:UInt8)::(M.digL t.a++32::M.digL t.b) else[])++(t.ks.map M.textL).flatMap λx=>32::x):=by
   rw[gG,a7,l];show joinB (M.wordL t.op::((if t.op=22 then[M.digL t.a,M.digL t.b] else[])++t.ks.map M.textL))=_;rw[show ∀(x:List UInt8) xs,joinB (x::xs)=x++xs.flatMap (λy=>32::y) from λ_ _=>rfl,List.flatMap_append];split<;>simp
  have ag:2<=(wl++kl).length:=by
   have h1:1<=wl.length:=by
    have:=congrArg List.length a7;simp only[gd,gJ] at this;omega
   rw[V1];omega
  simp only[gJ,V1,pW] at hlen;have bb:(joinB ((wl++kl).map (·.data.toList))).length<=20000:=by
   rw[N];simp only[V1];omega
  refine Join_spec G ag (by rw[V1];omega) oM λw7 sj D a4=>?_;have aw:sj.size<=20000:=by
   have:sj.data.toList.length=sj.size:=by rw[pO];rfl
   rw[a4] at this;omega
  have h1:(⟨#[40]⟩:ByteArray).size=1:=(by decide+kernel);have h3:(⟨#[41]⟩:ByteArray).size=1:=(by decide+kernel);have h2:((⟨#[40]⟩:ByteArray)++sj).size=1+sj.size:=(by rw[ByteArray.size_append,h1]);rw[Kf oM,Kf oM];refine n w7 _ (f.trans (v.trans D)) ?_;rw[ByteArray.data_append,ByteArray.data_append,PK,PK,a4,N];simp
end
end Go.Proofs.YtfnpmncplaibiaaGreatDoor
section
namespace Go.M
theorem node_right {ds:List Dcl} {t:Tm} (l:declOk ds=true) (hs:sortM ds t≠ -1) {L:Nat->Nat} (n:∀i,i<t.ks.length->L i=lenS (sortM ds (kid t i))):
  (1<=t.op->t.op<=2->t.ks.length=1/\1<=L 0/\L 0<=4)/\(3<=t.op->t.op<=13->t.ks.length=2/\L 0=L 1/\1<=L 0/\L 0<=4)/\(t.op=14->t.ks.length=2/\1<=L 0/\1<=L 1/\L 0+L 1<=4)/\
  (15<=t.op->t.op<=17->t.ks.length=2/\L 0=L 1/\1<=L 0/\L 0<=4)/\(t.op=22->t.ks.length=1/\0<=t.b/\t.b<=t.a/\t.a<L 0/\L 0<=4)/\(t.op=23->t.ks.length=3/\L 0=1/\L 1=L 2/\1<=L 1/\L 1<=4)/\
  (25<=t.op->(t.ks.length=if t.op=25 then 1 else 2)/\∀i,i<t.ks.length->L i=1):=by
 obtain⟨j,m,g⟩:=sort_parts hs;simp only[formed,gl,gh] at j;obtain⟨f,q⟩:=j;have k:=arity_ops (o:=t.op) oM;have s:∀i,i<t.ks.length->(t.ks.map (sortM ds)).getD i 0=sortM ds (kid t i):=λi hi=>getD_map _ hi _ _;have d:∀i,-1<=sortM ds (kid t i)/\sortM ds (kid t i)<=4:=λi=>sort_range l _;rw[g] at hs;unfold sortK at hs;unfold arity at f;have u:=d 0;have v:=d 1;have w:=d 2;refine⟨λa b=>?_,λa b=>?_,λa=>?_,λa b=>?_,λa=>?_,λa=>?_,λa=>?_⟩
 .grind [lenS]
 .have e:t.ks.length=2:=oM
  grind [lenS]
 .have e:t.ks.length=2:=oM
  grind [lenS]
 .have e:t.ks.length=2:=oM
  grind [lenS]
 .grind [lenS]
 .have e:t.ks.length=3:=oM
  grind [lenS]
 .have e:t.ks.length=if t.op=25 then 1 else 2:=by
   grind
  rw[Q1 oM,Q1 oM,V0 oM] at hs;by_cases c:(t.ks.map (sortM ds)).any (λx=>decide (x≠0))=true
  .grind
  .refine⟨e,λi hi=>?_⟩;have h:=n i hi;have r:sortM ds (kid t i)=0:=Gw λp=>c (pA.2 ⟨sortM ds (kid t i),gB.2 ⟨_,getD_mem hi default,rfl⟩,by grind⟩);rw[r] at h;exact h
end Go.M
end
namespace Go.Proofs.YtfnpmncplaibiaaGreatDoor
open Go Go.Vc Go.Proofs
section
variable {w:World} {K:oK} {F F' X Fk Q:oA} {n bc bb:Nat} {gs:M.Gs} {v:Value} {ar ab:Addr}
theorem as_yes {a:TypeId} {v:Value} (b:concB a=true) {xT:TypeId}:yV0 (.iface a v) xT a true w K=K (.tuple #[v,.bool true]) w:=by
 refine y6 ?_;unfold concB at b;cases hu:P.underlying a with
 |none=>grind
 |some d=>
  rw[hu] at b;cases d<;>first|(cases b;done)|simp[Instr.typeAssert,run_underlying hu]
theorem as_no {a t:TypeId} {v z:Value} (b:concB a=true) (e:yj a z) (c:t≠a) {xT:TypeId}:yV0 (.iface t v) xT a true w K=K (.tuple #[z,.bool false]) w:=by
 refine y6 ?_;unfold concB at b;cases hu:P.underlying a with
 |none=>grind
 |some d=>
  rw[hu] at b;cases d<;>first|(cases b;done)|simp[Instr.typeAssert,run_underlying hu,c,YB e,Result.andThen]
structure KidsR (Fk X F:oA) (w:World) (kv:Value) (rs:List (oI)):Prop where
 at_:∃vs:List Value,Vals Fk w kv vs/\vs.length=rs.length/\∀i,i<rs.length->Ints (Off X F) w (vs.getD i undef) (rs.getD i [])
 sm:∀r,r∈rs->SmL r
theorem KidsR.ext {w':World} {kv:Value} {rs:List (oI)} (h:KidsR Fk X F w kv rs) (he:Ext w w'):KidsR Fk X F w' kv rs:=by
 obtain⟨vs,a,b,c⟩:=h.at_;exact⟨⟨vs,a.ext he,b,λi hi=>(c i hi).ext he⟩,h.sm⟩
theorem KidsR.sml {kv:Value} {rs:List (oI)} (h:KidsR Fk X F w kv rs) {i:Nat} (hi:i<rs.length):SmL (rs.getD i []):=h.sm _ (M.getD_mem hi [])
theorem KidsR.vals {kv:Value} {rs:List (oI)} (h:KidsR Fk X F w kv rs):∃vs:List Value,(∀(w':World),Ext w w'->∀i,i<rs.length->∀K:oK,y2 zK kv (nI i) w' K=K (oE (eaddr kv 1 i)) w'/\zu zg (oE (eaddr kv 1 i)) w' K=K (vs.getD i undef) w')/\
  ∀i,i<rs.length->Ints (Off X F) w (vs.getD i undef) (rs.getD i []):=by
 obtain⟨vs,b,d,c⟩:=h.at_;refine⟨vs,λw' he i hi K=>?_,c⟩;have a:=b.ext he;refine⟨?_,a.load Vw oM⟩;rw[a.iaddr Vl oM oM,gu]
theorem stKind {b:Nat} {x y:Value} {t0 tk:TypeId} {s:ByteArray} {m:Int} (h:Blk w b [x,y] t0) (e:aggB tk 2=true) (d:∀w',Same (· =b) w w'->K undef w'):zy tk (oP b 0) (.agg ⟨[.string s,nI m]⟩) w K:=
 h.stAgg rfl e (by intro v a;simp only[gk,gE,Gn] at a;rcases a with rfl|rfl<;>rfl) λw' c _ _=>d w' c
theorem fixB_at {wd nn:Int} {j:Nat} (a:(j:Int)<wd):(M.fixB wd nn).getD j 0=if nn.toNat/2^j%2=1 then 1 else-1:=by
 grind [M.fixB]
theorem fix_step {wd nn:Int} {j:Nat} (a:(j:Int)<wd):((M.fixB wd nn).take j++List.replicate (wd.toNat-j) (-1)).set j (if nn.toNat/2^j%2=1 then 1 else-1)=(M.fixB wd nn).take (j+1)++List.replicate (wd.toNat-(j+1)) (-1):=by
 have b:((M.fixB wd nn).take j).length=j:=by rw[gi,M.fixB_len];omega
 rw[pc _ _ oM,b,GH,show wd.toNat-j=(wd.toNat-(j+1))+1 by omega,Pj,pD,M.take_add (by rw[M.fixB_len];omega) 0,fixB_at a,Gd];rfl
theorem SmL.fix {wd nn:Int}:SmL (M.fixB wd nn):=λx a=>by
 grind [M.fixB]
theorem SmL.name {ds:List M.Dcl} {k:Nat} (a:M.declOk ds=true) (b:k<ds.length):SmL (M.nameB ds k):=λx c=>by
 have:=M.name_has (m:=9) a b (by have:=(M.decl_iff.1 a).2.2;omega) x c;obtain⟨d,e,f⟩:=this;omega
def Yj0 (n bb:Nat) (ar ab:Addr) (X F:oA) (w:World) (gs:M.Gs) (ds:List M.Dcl) (t:M.Tm) (rs:List (oI)) (K:oK):Prop:=
 ∀w' F' st' r zs,BdR n bb ar ab X F' w' st'->Mv F w F' w'->Ints (Off X F') w' r zs->SmL zs->M.Bd.Out n (M.nodeB ds t rs) (some gs) st' zs->K r w'
section
variable {bl kb m:Nat} {dv tv kv:Value} {ds:List M.Dcl} {t:M.Tm} {rs:List (oI)} {G Gt:oA}
theorem root_spec (hb:BdR n bb ar ab X F w (some gs)) (hd:M.declOk ds=true) (hs:M.sortM ds t≠ -1) (hB:Blk w bl [oP bb 0,dv,.map (some kb),.map (some m)] yh) (bn:DclsR G w dv ds) (br:KindsR w kb) (ht:TermR Gt w tv t)
  (l:KidsR Fk X F w kv rs) (cn:rs.length=t.ks.length) (hlen:∀i,i<t.ks.length->(rs.getD i []).length=M.lenS (M.sortM ds (M.kid t i)))
  (hK:Yj0 n bb ar ab X F w gs ds t rs K):vcall XC #[oP bl 0,tv,kv] w K:=by
 obtain⟨tk,rfl,cl⟩:=ht;refine zf {loops:=[(6,[32])]} Tryz.func131 ?_;obtain⟨cd,hp,c8⟩:=M.right_op hs;obtain⟨q1,q2,q3,q4,q5,q6,q7⟩:=M.node_right hd hs (L:=λi=>(rs.getD i []).length) hlen;refine zk λb1 w1 ce bo cp bg=>?_;refine zd λw2 b0 _=>?_;have e2:=bo.trans b0;have S:=hB.ext e2;have Q:=bg.ext b0;have q:=hb.ext e2;have az:=bn.ext e2;simp(disch:=exact oS) only[push_cast,S.ld2,Q.ld0,K3];refine KX (ok:=false) (br.ext e2) oM λcq bs=>⟨rfl,?_⟩;obtain⟨s,mm,r,b4,a2,c3,_⟩:=bs.word;simp only[Gj,if_false];rw[b4];have p:∀w3,Ext w2 w3->Yj0 n bb ar ab X F w3 gs ds t rs K:=λw3 U w' F' st' r' zs h1 h2 h3 h4 h5=>hK w' F' st' r' zs h1 ((Mv.refl.ext (e2.trans U)).trans h2) h3 h4 h5;obtain⟨vs,hA,N⟩:=(l.ext e2).vals;unfold Yj0 M.nodeB at p;by_cases a7:t.op=20
 .have B:kTy t.op=zP:=by rw[a7];rfl
  have:=a2 oM;subst this;rw[B,as_yes yA];refine oZ ?_;rw[V0 a7] at p;refine zj yJ λb3 w3 a4 U a6 H=>?_;refine stKind H W2 λw4 a3=>?_;have o:Ext w2 w4:=(by grind [Ext.then]);have a9:=Q.ext o;have hv:=M.vec_ok hs a7;obtain⟨v1,v2,v3,v4⟩:=M.vok_iff.1 hv;have c9:(2:Int)^t.a.toNat<=16:=by
   have:=pow4 (k:=t.a.toNat) oM oM
   grind
  simp(disch:=exact oS) only[push_cast,a9.ld1];rw[show t.a=((t.a.toNat:Nat):Int) by omega];refine offs_spec oM λh ov E ai bw=>?_;have d:=o.trans E;have ao:∀(w':World) (K:oK),vbi .len [zg] zE [ov] w' K=K (nI t.a.toNat) w':=λw' K=>(by rw[ai.ints.len yS,M.offsL_len]);rw[ao];refine vloop_up t.a.toNat (λj u w'=>u=[nI j]/\Ext w2 w'/\OwnI zg w' ov ((M.fixB t.a t.b).take j++List.replicate (t.a.toNat-j) (-1))) ⟨rfl,d,ai⟩ ?_;rintro j _ g w6 C hj ⟨rfl,V,I⟩ hC;have z25:=d.size;have z24:=o.size;refine oZ ?_;refine zb (λbu=>?_) (λch=>?_)
  .have bj:=Q.ext V;simp(disch:=exact oS) only[push_cast,bj.ld2];rw[qw zJ0 (show qF0 Jk .u64 by unfold qF0;kernel_rfl),show t.b=((t.b.toNat:Nat):Int) by omega,wrapU oM];refine bit_spec oM oM ?_;have cm:((M.fixB t.a t.b).take j++List.replicate (t.a.toNat-j) (-1)).length=t.a.toNat:=by
    grind [M.fixB_len]
   refine zb (λc=>?_) (λc=>?_)
   .rw[I.ints.iaddr yH oM oM,gu];refine I.st y3 oM λw7 bz co c6=>?_;have a5:=fix_step (wd:=t.a) (nn:=t.b) (j:=j) oM;rw[V0 c] at a5;rw[a5] at bz
    try simp(disch:=omega) only[push_cast,zi]
    grind [Ext.then]
   .have a5:=fix_step (wd:=t.a) (nn:=t.b) (j:=j) oM;rw[Q1 c] at a5;have au:((M.fixB t.a t.b).take j++List.replicate (t.a.toNat-j) (-1)).set j (-1)=(M.fixB t.a t.b).take j++List.replicate (t.a.toNat-j) (-1):=by
     have hl:((M.fixB t.a t.b).take j).length=j:=(by grind);rw[pc _ _ oM,hl,GH,show t.a.toNat-j=(t.a.toNat-(j+1))+1 by omega,Pj,pD]
    rw[au] at a5;rw[a5] at I
    try simp(disch:=omega) only[push_cast,zi]
    grind
  .have bq:j=t.a.toNat:=oM;rw[bq,GH,Ph,gS,gI (by rw[M.fixB_len];omega)] at I;exact p w6 V w6 F (some gs) ov _ (q.ext V) Mv.refl (NewI.of (w:=w2) I (λb hb=>by grind) q.lt).ints SmL.fix (M.Bd.Out.ret _ _)
 rw[Q1 a7] at p;by_cases a8:t.op=21
 .have B:kTy t.op=zH:=by rw[a8];rfl
  have:=a2 oM;subst this;rw[B];simp only[as_no yA yJ (show zH≠zP by decide),as_yes yB,push_cast];rw[V0 a8] at p;refine zj yN λb3 w3 a4 U a6 H=>?_;refine stKind H V9 λw4 a3=>?_;have o:Ext w2 w4:=(by grind [Ext.then]);have a9:=Q.ext o;have hf:=M.name_found hs a8;have bu:=M.findD_lt ds t.s;simp(disch:=exact oS) only[push_cast,a9.ld3];refine inputs_spec (S.ext o) (az.ext o) hd hf λh r5 E ai bw=>?_;have z24:=o.size;exact p h (o.trans E) h F (some gs) r5 _ (q.ext (o.trans E)) Mv.refl (NewI.of (w:=w2) ai (λb hb=>by grind) q.lt).ints (SmL.name hd oM) (M.Bd.Out.ret _ _)
 rw[Q1 a8] at p;by_cases bf:24<=t.op
 .have B:kTy t.op=zz:=by
   unfold kTy
   grind
  obtain⟨f,rfl,c1⟩:=c3 bf;rw[B];simp only[as_no yA yJ (show zz≠zP by decide),as_no yB yN (show zz≠zH by decide),as_no yX xq (show zz≠zL by decide),as_no xD xU (show zz≠zV by decide),as_no xW qu (show zz≠zQ by decide),as_no qp ke (show zz≠zJ by decide),as_no qo kc (show zz≠zM by decide),as_no kJ ZR (show zz≠zI by decide),as_yes ZI,push_cast];refine zj Jw λb3 w3 a4 U a6 H=>?_;refine H.stAgg (cs':=[.string s,nI mm,f]) rfl Yo (by intro v hv;simp only[gk,gE,Gn] at hv;rcases hv with rfl|rfl|rfl<;>first|rfl|exact c1) λw4 a3 _ bh=>?_;have o:Ext w2 w4:=(by grind [Ext.then]);have a9:=Q.ext o;rw[bh.ldAgg (t:=zz) Yo,a9.ldAgg (t:=za) zc];refine zf {} Tryz.func204 ?_;refine zk λb6 w6 cf V aj ca=>?_;refine zk λb7 w7 cg bp c6 bi=>?_;have a0:Ext w2 w7:=o.trans (V.trans bp);simp(disch:=exact oS) only[push_cast,bi.ld0];have fin:∀(J:World) (F8:oA) (ak:Option M.Gs) (x:Int),BdR n bb ar ab X F8 J ak->Mv F w2 F8 J->Sm x->M.Bd.Out n (M.nodeB ds t rs) (some gs) ak [x]->vbuildS zg 1 [(0,nI x)] J K:=λJ F8 ak x h8 bv c5 c0=>by
   refine zC yx y3 ye rfl rfl λb9 w9 bk aa c7 am=>?_;have a1:OwnI zg w9 (.slice (some ⟨b9,0,none⟩) 1 1) [x]:=Blk.own1 (t:=zg) (cs:=[nI x]) (by rw[yK];exact am) (gW _) rfl rfl oM;exact hK w9 F8 ak _ [x] (h8.ext aa) (((Mv.refl.ext e2).trans bv).ext aa) (NewI.of (w:=J) a1 (λb hb=>by have e:b9=b:=gg hb;omega) h8.lt).ints (SmL.one c5) c0
  unfold M.nodeB at fin;rw[Q1 a7,Q1 a8] at fin;by_cases c:t.op=24
  .rw[V0 c] at fin;rw[gr oM,gr oM,gr oM];refine oZ ?_;exact fin w7 F (some gs) 1 (q.ext a0) (Mv.refl.ext a0) dC (M.Bd.Out.ret _ _)
  rw[Q1 c] at fin;obtain⟨ck,ay⟩:=q7 oM;have ci:1<=t.ks.length:=(by grind);have cb:=ay 0 oM;by_cases ag:t.op=25
  .rw[V0 ag] at fin;rw[gC ag];refine oZ ?_;have W:∀K:oK,y2 zK kv (nI 0) w7 K=K (oE (eaddr kv 1 0)) w7:=(by grind);have Y:∀K:oK,zu zg (oE (eaddr kv 1 0)) w7 K=K (vs.getD 0 undef) w7:=(by grind);have O:Ints (Off X F) w7 (vs.getD 0 undef) (rs.getD 0 []):=(N 0 oM).ext a0;have S0:=(l.sml (i:=0) oM).get (i:=0) oM;unfold Sm at S0;simp(disch:=exact oS) only[W,Y,O.iaddr,O.load,push_cast,zi,Gh];exact fin w7 F (some gs) _ (q.ext a0) (Mv.refl.ext a0) (by unfold Sm;rw[G8];exact S0) (M.Bd.Out.ret _ _)
  rw[Q1 ag] at fin;rw[gr ag];have cj:t.ks.length=2:=(by grind);have cc:=ay 1 oM;refine oZ ?_;have two:∀(J:World),Ext w2 J->(∀K:oK,y2 zK kv (nI 0) J K=K (oE (eaddr kv 1 0)) J)/\(∀K:oK,zu zg (oE (eaddr kv 1 0)) J K=K (vs.getD 0 undef) J)/\(∀K:oK,y2 zK kv (nI 1) J K=K (oE (eaddr kv 1 1)) J)/\(∀K:oK,zu zg (oE (eaddr kv 1 1)) J K=K (vs.getD 1 undef) J)/\Ints (Off X F) J (vs.getD 0 undef) (rs.getD 0 [])/\Ints (Off X F) J (vs.getD 1 undef) (rs.getD 1 []):=λJ e8=>
   ⟨λK=>(hA J e8 0 oM K).1,λK=>(hA J e8 0 oM K).2,λK=>(hA J e8 1 oM K).1,λK=>(hA J e8 1 oM K).2,(N 0 oM).ext e8,(N 1 oM).ext e8⟩
  have S0:=(l.sml (i:=0) oM).get (i:=0) oM;have S1:=(l.sml (i:=1) oM).get (i:=0) oM;by_cases ah:t.op=26
  .rw[V0 ah] at fin;rw[gC ah];refine oZ ?_;refine zd λJ an _=>?_;have R:=a0.trans an;have al:=S.ext R;obtain⟨W,Y,A1,B1,O,Z⟩:=two J R;simp(disch:=exact oS) only[al.ld0,W,Y,A1,B1,O.iaddr,O.load,Z.iaddr,Z.load,push_cast,K3];refine qR (q.ext R) S0 S1 λw9 F9 aw x h9 ap av a1=>fin w9 F9 aw x h9 ((Mv.refl.ext R).trans ap) av ?_;exact xF a1 (M.Bd.Out.ret _ _)
  rw[Q1 ah,V0 oM] at fin;rw[gr ah,gC (show t.op=27 by omega)];refine oZ ?_;refine zd λJ an _=>?_;have R:=a0.trans an;have al:=S.ext R;obtain⟨W,Y,A1,B1,O,Z⟩:=two J R;simp(disch:=exact oS) only[al.ld0,W,Y,A1,B1,O.iaddr,O.load,Z.iaddr,Z.load,push_cast,K3];exact bor_spec (q.ext R) S0 S1 λw9 F9 aw x h9 ap av a1=>fin w9 F9 aw x h9 ((Mv.refl.ext R).trans ap) av (M.Bd.Out.map _ a1)
 rw[Q1 oM,Q1 oM,Q1 oM,Q1 oM] at p;by_cases af:t.op=23
 .have B:kTy t.op=zV:=by rw[af];rfl
  have:=a2 oM;subst this;obtain⟨k1,l0,l1,l2,l3⟩:=q6 af;rw[B];simp only[as_no yA yJ (show zV≠zP by decide),as_no yB yN (show zV≠zH by decide),as_no yX xq (show zV≠zL by decide),as_yes xD,push_cast];rw[V0 af] at p;refine zj xU λb3 w3 a4 U a6 H=>?_;refine stKind H UU λw4 a3=>?_;have o:Ext w2 w4:=(by grind [Ext.then]);refine zd λh E _=>?_;have d:=o.trans E;have A:=Q.ext d;have T:=S.ext d;have D:=q.ext d;have W:∀K:oK,y2 zK kv (nI 0) h K=K (oE (eaddr kv 1 0)) h:=(by grind);have Y:∀K:oK,zu zg (oE (eaddr kv 1 0)) h K=K (vs.getD 0 undef) h:=(by grind);have O:Ints (Off X F) h (vs.getD 0 undef) (rs.getD 0 []):=(N 0 oM).ext d;have S0:=l.sml (i:=0) oM;have A1:∀K:oK,y2 zK kv (nI 1) h K=K (oE (eaddr kv 1 1)) h:=(by grind);have B1:∀K:oK,zu zg (oE (eaddr kv 1 1)) h K=K (vs.getD 1 undef) h:=(by grind);have Z:Ints (Off X F) h (vs.getD 1 undef) (rs.getD 1 []):=(N 1 oM).ext d;have S1:=l.sml (i:=1) oM;have A2:∀K:oK,y2 zK kv (nI 2) h K=K (oE (eaddr kv 1 2)) h:=(by grind);have B2:∀K:oK,zu zg (oE (eaddr kv 1 2)) h K=K (vs.getD 2 undef) h:=(by grind);have V2:Ints (Off X F) h (vs.getD 2 undef) (rs.getD 2 []):=(N 2 oM).ext d;have S2:=l.sml (i:=2) oM;simp(disch:=exact oS) only[T.ld0,A.ld0,A.ld1,A.ld2,W,Y,O.iaddr,O.load,A1,B1,Z.iaddr,Z.load,A2,B2,V2.iaddr,V2.load,push_cast,zi,K3];exact choose_spec D ⟨gs,rfl⟩ Z V2 l1 oM S1 S2 (S0.get oM) λw6 F6 ad r6 zs h6 ac aq aj I=>p h d w6 F6 ad r6 zs h6 ac aq aj I
 rw[Q1 af] at p;by_cases ae:t.op=22
 .have B:kTy t.op=zL:=by rw[ae];rfl
  have:=a2 oM;subst this;obtain⟨k1,l0,l1,l2,l3⟩:=q5 ae;rw[B];simp only[as_no yA yJ (show zL≠zP by decide),as_no yB yN (show zL≠zH by decide),as_yes yX,push_cast];rw[V0 ae] at p;refine zj xq λb3 w3 a4 U a6 H=>?_;refine stKind H W3 λw4 a3=>?_;have o:Ext w2 w4:=(by grind [Ext.then]);refine zd λh E _=>?_;have d:=o.trans E;have A:=Q.ext d;have T:=S.ext d;have D:=q.ext d;have W:∀K:oK,y2 zK kv (nI 0) h K=K (oE (eaddr kv 1 0)) h:=(by grind);have Y:∀K:oK,zu zg (oE (eaddr kv 1 0)) h K=K (vs.getD 0 undef) h:=(by grind);have O:Ints (Off X F) h (vs.getD 0 undef) (rs.getD 0 []):=(N 0 oM).ext d;have S0:=l.sml (i:=0) oM;simp(disch:=exact oS) only[T.ld0,A.ld0,A.ld1,A.ld2,W,Y,O.iaddr,O.load,push_cast,zi,K3];rw[show t.b=((t.b.toNat:Nat):Int) by omega,show t.a+1=((t.a.toNat+1:Nat):Int) by omega];refine Ints.cutLH O yH oM oM λcv bm=>⟨rfl,?_⟩;refine Clone_signal bm (by grind) λw6 r6 V I bx=>?_;refine p h d w6 F (some gs) r6 _ (D.ext V) (Mv.refl.ext V) (NewI.of (w:=h) I bx D.lt).ints (λx hx=>S0 x (GX (gV hx))) ?_;rw[show t.a.toNat+1-t.b.toNat=(t.a-t.b+1).toNat by omega];exact M.Bd.Out.ret _ _
 rw[Q1 ae] at p;by_cases c2:t.op<=2
 .have B:kTy t.op=zQ:=by unfold kTy;grind
  have:=a2 oM;subst this;obtain⟨k1,l0,l1⟩:=q1 oM c2;rw[B];simp only[as_no yA yJ (show zQ≠zP by decide),as_no yB yN (show zQ≠zH by decide),as_no yX xq (show zQ≠zL by decide),as_no xD xU (show zQ≠zV by decide),as_yes xW,push_cast];rw[V0 c2] at p;refine zj qu λb3 w3 a4 U a6 H=>?_;refine stKind H UT λw4 a3=>?_;have o:Ext w2 w4:=Ext.then U a3 λy hy=>by subst hy;omega
  refine zd λh E _=>?_;have d:=o.trans E;have A:=Q.ext d;have T:=S.ext d;have D:=q.ext d;have W:∀K:oK,y2 zK kv (nI 0) h K=K (oE (eaddr kv 1 0)) h:=(by grind);have Y:∀K:oK,zu zg (oE (eaddr kv 1 0)) h K=K (vs.getD 0 undef) h:=(by grind);have O:Ints (Off X F) h (vs.getD 0 undef) (rs.getD 0 []):=(N 0 oM).ext d;have S0:=l.sml (i:=0) oM;simp(disch:=exact oS) only[T.ld0,A.ld0,A.ld1,A.ld2,W,Y,O.iaddr,O.load,push_cast,zi,K3]
  grind [un_spec]
 rw[Q1 c2] at p;by_cases ax:15<=t.op
 .have B:kTy t.op=zI:=(by grind [kTy]);have:=a2 oM;subst this;obtain⟨k1,l0,l1,l2⟩:=q4 ax oM;rw[B];simp only[as_no yA yJ (show zI≠zP by decide),as_no yB yN (show zI≠zH by decide),as_no yX xq (show zI≠zL by decide),as_no xD xU (show zI≠zV by decide),as_no xW qu (show zI≠zQ by decide),as_no qp ke (show zI≠zJ by decide),as_no qo kc (show zI≠zM by decide),as_yes kJ,push_cast];rw[V0 oM] at p;refine zj ZR λb3 w3 a4 U a6 H=>?_;refine stKind H W4 λw4 a3=>?_;have o:Ext w2 w4:=(by grind [Ext.then]);refine zd λh E _=>?_;have d:=o.trans E;have A:=Q.ext d;have T:=S.ext d;have D:=q.ext d;have W:∀K:oK,y2 zK kv (nI 0) h K=K (oE (eaddr kv 1 0)) h:=(by grind);have Y:∀K:oK,zu zg (oE (eaddr kv 1 0)) h K=K (vs.getD 0 undef) h:=(by grind);have O:Ints (Off X F) h (vs.getD 0 undef) (rs.getD 0 []):=(N 0 oM).ext d;have S0:=l.sml (i:=0) oM;have A1:∀K:oK,y2 zK kv (nI 1) h K=K (oE (eaddr kv 1 1)) h:=(by grind);have B1:∀K:oK,zu zg (oE (eaddr kv 1 1)) h K=K (vs.getD 1 undef) h:=(by grind);have Z:Ints (Off X F) h (vs.getD 1 undef) (rs.getD 1 []):=(N 1 oM).ext d;have S1:=l.sml (i:=1) oM;simp(disch:=exact oS) only[T.ld0,A.ld0,A.ld1,A.ld2,W,Y,O.iaddr,O.load,A1,B1,Z.iaddr,Z.load,push_cast,zi,K3];refine compare_spec D ⟨gs,rfl⟩ ax oM O Z l0 l1 oM S0 S1 λw6 F6 ad x h6 ac c4 I=>?_;refine zC yx y3 ye rfl rfl λb9 w9 bk aa c7 am=>?_;have a1:OwnI zg w9 (.slice (some ⟨b9,0,none⟩) 1 1) [x]:=Blk.own1 (t:=zg) (cs:=[nI x]) (by rw[yK];exact am) (gW _) rfl rfl oM;exact p h d w9 F6 ad _ [x] (h6.ext aa) (ac.ext aa) (NewI.of (w:=w6) a1 (λb hb=>by have e:b9=b:=gg hb;omega) h6.lt).ints (SmL.one c4) (M.Bd.Out.map _ I)
 rw[Q1 oM] at p;have b2:kTy t.op=zJ\/kTy t.op=zM:=by
  grind [kTy]
 have:=a2 oM;subst this;have bt:t.ks.length=2/\(t.op≠14->(rs.getD 0 []).length=(rs.getD 1 []).length)/\(t.op=14->(rs.getD 0 []).length+(rs.getD 1 []).length<=4)/\1<=(rs.getD 0 []).length/\(rs.getD 0 []).length<=4:=by
  grind
 obtain⟨k1,l0,l1,l2,l3⟩:=bt;have go:Zl w2 λz=>zu yC (oP bl 0) z λt107 b5=>b5=z/\zu zE (oP b1 0) z λt109 b8=>b8=z/\
   y2 zK kv (nI 0) z λt111 ba=>ba=z/\zu zg t111 z λt112 bc=>bc=z/\y2 zK kv (nI 1) z λt114 bd=>bd=z/\
   zu zg t114 z λt115 be=>be=z/\vcall kU #[t107,t109,t112,t115] z K:=by
  refine zd λh E _=>?_;have d:=E;have A:=Q.ext d;have T:=S.ext d;have D:=q.ext d;have W:∀K:oK,y2 zK kv (nI 0) h K=K (oE (eaddr kv 1 0)) h:=(by grind);have Y:∀K:oK,zu zg (oE (eaddr kv 1 0)) h K=K (vs.getD 0 undef) h:=(by grind);have O:Ints (Off X F) h (vs.getD 0 undef) (rs.getD 0 []):=(N 0 oM).ext d;have S0:=l.sml (i:=0) oM;have A1:∀K:oK,y2 zK kv (nI 1) h K=K (oE (eaddr kv 1 1)) h:=(by grind);have B1:∀K:oK,zu zg (oE (eaddr kv 1 1)) h K=K (vs.getD 1 undef) h:=(by grind);have Z:Ints (Off X F) h (vs.getD 1 undef) (rs.getD 1 []):=(N 1 oM).ext d;have S1:=l.sml (i:=1) oM;simp(disch:=exact oS) only[T.ld0,A.ld0,W,Y,A1,B1,push_cast,K3];exact bin_spec D ⟨gs,rfl⟩ oM oM O Z l0 l1 l2 oM S0 S1 λw6 F6 ad r6 zs h6 ac aq aj I=>p h d w6 F6 ad r6 zs h6 ac aq aj I
 rcases b2 with B|B
 .rw[B];simp only[as_no yA yJ (show zJ≠zP by decide),as_no yB yN (show zJ≠zH by decide),as_no yX xq (show zJ≠zL by decide),as_no xD xU (show zJ≠zV by decide),as_no xW qu (show zJ≠zQ by decide),as_no qo kc (show zJ≠zM by decide),as_yes qp,push_cast];exact go
 .rw[B];simp only[as_no yA yJ (show zM≠zP by decide),as_no yB yN (show zM≠zH by decide),as_no yX xq (show zM≠zL by decide),as_no xD xU (show zM≠zV by decide),as_no xW qu (show zM≠zQ by decide),as_no qp ke (show zM≠zJ by decide),as_yes qo,push_cast];exact go
end
end
section
variable {w:World} {K:oK} {F F' Q X:oA} {n bl bc mb bb kb m:Nat} {gs:M.Gs} {v dv:Value} {ar ab:Addr} {st:Option M.Gs} {ds:List M.Dcl}
def TOut {α:Type} (n:Nat) (p:M.Bd α) (st st':Option M.Gs) (a:α):Prop:=
 (∃gs gs',st=some gs/\st'=some gs'/\p.run n gs=some (gs',a))\/(st'=none/\∀gs,st=some gs->p.run n gs=none)
theorem Out.pre' {α:Type} {p:M.Bd α} {st st':Option M.Gs} {a:α} (h:M.Bd.Out n p st st' a):∀gs',st'=some gs'->∃gs,st=some gs/\gs<+:gs':=λgs' e=>by
 cases st with
 |none=>rw[h.1] at e;cases e
 |some gs=>
  rcases h with⟨g2,c,b⟩|⟨_,b,_⟩
  .rw[b] at e;cases e;exact⟨gs,rfl,M.Bd.run_pre c⟩
  .rw[b] at e;cases e
theorem WR (ps:List (M.Bd (oI))) (p:M.Bd (oI)):∀(gs:M.Gs),(M.seqB (ps++[p])).run n gs=((M.seqB ps).run n gs).bind λr=>(p.run n r.1).map λq=>(q.1,r.2++[q.2]):=by
 induction ps with
 |nil=>
  intro gs;show((p.bind λr=>(M.Bd.ret []:M.Bd (List (oI))).map (r:: ·))).run n gs=_;rw[M.Bd.run_bind];show _=(p.run n gs).map _;cases p.run n gs<;>rfl
 |cons q ps c=>
  intro gs;show(q.bind λr=>(M.seqB (ps++[p])).map (r:: ·)).run n gs=((q.bind λr=>(M.seqB ps).map (r:: ·)).run n gs).bind _;rw[M.Bd.run_bind,M.Bd.run_bind];cases q.run n gs with
  |none=>rfl
  |some a=>
   show((M.seqB (ps++[p])).bind λx=>M.Bd.ret (a.2::x)).run n a.1=(((M.seqB ps).bind λx=>M.Bd.ret (a.2::x)).run n a.1).bind _;rw[M.Bd.run_bind,M.Bd.run_bind,c];cases (M.seqB ps).run n a.1 with
   |none=>rfl
   |some b=>
    show((p.run n b.1).map _).bind _=(p.run n b.1).map _;cases p.run n b.1<;>rfl
theorem TOut.snoc {ps:List (M.Bd (oI))} {p:M.Bd (oI)} {st a st2:Option M.Gs} {rs:List (oI)} {r:oI} (h:TOut n (M.seqB ps) st a rs) (d:TOut n p a st2 r):TOut n (M.seqB (ps++[p])) st st2 (rs++[r]):=by
 rcases h with⟨g0,g1,b,a2,a3⟩|⟨b,a2⟩
 .rcases d with⟨c,g2,b1,b2,b3⟩|⟨b1,b2⟩
  .rw[a2] at b1;cases b1;exact .inl ⟨g0,g2,b,b2,by rw[WR,a3];show(p.run n g1).map _=_;rw[b3];rfl⟩
  .refine .inr ⟨b1,λgs e=>?_⟩;rw[b] at e;cases e;rw[WR,a3];show(p.run n g1).map _=_;rw[b2 g1 a2];rfl
 .rcases d with⟨c,g2,b1,b2,b3⟩|⟨b1,b2⟩
  .rw[b] at b1;cases b1
  .exact .inr ⟨b1,λgs e=>by rw[WR,a2 gs e];rfl⟩
theorem TOut.root {t:M.Tm} {st a st2:Option M.Gs} {rs:List (oI)} {zs:oI} (h:TOut n (M.seqB (t.ks.map (M.termB ds))) st a rs):(∀b,a=some b->M.Bd.Out n (M.nodeB ds t rs) (some b) st2 zs)->(a=none->st2=none)->TOut n (M.termB ds t) st st2 zs:=λd f=>by
 rcases h with⟨g0,g1,c,a2,a3⟩|⟨c,a2⟩
 .rcases d g1 a2 with⟨g2,b1,b2⟩|⟨b1,b2,_⟩
  .exact .inl ⟨g0,g2,c,b2,by rw[M.termB_eq,M.Bd.run_bind,a3];exact b1⟩
  .refine .inr ⟨b2,λgs e=>?_⟩;rw[c] at e;cases e;rw[M.termB_eq,M.Bd.run_bind,a3];exact b1
 .exact .inr ⟨f c,λgs e=>by rw[M.termB_eq,M.Bd.run_bind,a2 gs e];rfl⟩
def P1 (m:Nat) (F:oA) (b:Nat):Prop:=F b\/b=m
theorem Mv.p1 {w':World} (h:Mv F w F' w'):Mv (P1 m F) w (P1 m F') w':=
 ⟨h.same.mono λ_ _ h=> .inl h,λb a=>a.elim (λa=>(h.new b a).imp .inl id) λa=> .inl (.inr a)⟩
theorem Sl.mvX {k:Nat} {v:Value} {xs:List (List Value)} {w':World} (h:Sl (Off X F) w k v xs) (d:X m) (hm:Mv (P1 m F) w (P1 m F') w'):Sl (Off X F') w' k v xs:=by
 have f:Sl (λb=>Off X F b/\b<w.heap.size) w k v xs:=h.weaken λb a j=>⟨a,j⟩;have g:=f.same hm.same λb a _ c=>c.elim a.1.1 λe=>a.1.2 (e▸d);exact g.weaken λb a _=>⟨λi=>hm.off (λc=>c.elim a.1.1 λe=>a.1.2 (e▸d)) a.2 (.inl i),a.1.2⟩
def MetR (n:Nat) (ds:List M.Dcl) (m:Nat) (X F:oA) (w:World) (st:Option M.Gs):Prop:=
 ∃f,MapF .string w m f/\∀p,p∈f->∃(u:M.Tm) (s:ByteArray) (v:Value) (zs:oI),p=(.string s,v)/\s.data.toList=M.textL u/\M.sortM ds u≠ -1/\Ints (Off X F) w v zs/\SmL zs/\∀gs,st=some gs->(M.termB ds u).run n gs=some (gs,zs)
structure BlR (n bl bb kb m:Nat) (ar ab:Addr) (ds:List M.Dcl) (dv:Value) (X F:oA) (w:World) (st:Option M.Gs):Prop where
 bd:BdR n bb ar ab X F w st
 blk:Blk w bl [oP bb 0,dv,.map (some kb),.map (some m)] yh
 off: ¬F bl/\¬F m/\¬F kb/\bl≠m/\kb≠m
 ext:X m
 dcl:DclsR (Off X F) w dv ds
 kin:KindsR w kb
 met:MetR n ds m X F w st
theorem KindsR.same {w':World} {S:oA} (h:KindsR w kb) (hs:Same S w w') (c: ¬S kb):KindsR w' kb:=by
 obtain⟨f,a,b⟩:=h;exact⟨f,a.same hs c,b⟩
theorem KindsR.lt (h:KindsR w kb):kb<w.heap.size:=by obtain⟨f,a,b⟩:=h;exact a.lt
theorem MetR.lt (h:MetR n ds m X F w st):m<w.heap.size:=by obtain⟨f,a,b⟩:=h;exact a.lt
theorem BlR.step {w':World} {st':Option M.Gs} (h:BlR n bl bb kb m ar ab ds dv X F w st) (o:BdR n bb ar ab X F' w' st') (hm:Mv F w F' w') (r:∀gs',st'=some gs'->∃gs,st=some gs/\gs<+:gs'):BlR n bl bb kb m ar ab ds dv X F' w' st':=by
 obtain⟨c,d,g,t,x⟩:=h.off;refine⟨o,h.blk.same hm.same c,⟨hm.off c h.blk.lt,hm.off d h.met.lt,hm.off g h.kin.lt,t,x⟩,h.ext,Sl.mvX h.dcl h.ext hm.p1,h.kin.same hm.same g,?_⟩;obtain⟨f,q,a⟩:=h.met;refine⟨f,q.same hm.same d,λp b=>?_⟩;obtain⟨u,s,v,zs,i,a2,a3,a4,a5,j⟩:=a p b;refine⟨u,s,v,zs,i,a2,a3,Sl.mvX a4 h.ext hm.p1,a5,λgs' e=>?_⟩;obtain⟨gs,k,l⟩:=r gs' e;exact M.Bd.run_again (j gs k) l
theorem BlR.grow {w':World} (h:BlR n bl bb kb m ar ab ds dv X F w st) (he:Ext w w'):BlR n bl bb kb m ar ab ds dv X F w' st:=h.step (h.bd.ext he) (Mv.refl.ext he) λgs e=>⟨gs,e,Pz _⟩
theorem BlR.swap {w0 w':World} {t r S Y:oA} {o:Option M.Gs} (h:BlR n bl bb kb m ar ab ds dv X F w st) (e:BlR n bl bb kb m ar ab ds dv t r w0 o) (hw:Same S w w') (i:∀b,S b->X b/\w0.heap.size<=b/\¬F b)
  (q:∀b,Y b->b<w'.heap.size/\(b<w.heap.size->X b)) (hm:Y m):BlR n bl bb kb m ar ab ds dv Y F w' st:=by
 have key:∀b,b<w0.heap.size->¬S b:=λb a hs=>by have:=(i b hs).2.1;omega
 have a:=h.bd.upd e.bd.err hw λb a=>(i b a).2;have d:∀b,Off X F b->b<w.heap.size->¬S b:=λb a _ hs=>a.2 (i b hs).1;have cut:∀b,(Off X F b/\b<w.heap.size)->Off Y F b:=λb a=>⟨a.1.1,λA=>a.1.2 ((q b A).2 a.2)⟩;refine⟨⟨a.err,a.blk,a.foot,λb j=>j.elim (λh=>a.lt b (.inl h)) λh=>(q b h).1⟩,h.blk.same hw (key _ e.blk.lt),h.off,hm,?_,h.kin.same hw (key _ e.kin.lt),?_⟩
 .have g:DclsR (λb=>Off X F b/\b<w.heap.size) w dv ds:=Sl.weaken h.dcl λb a c=>⟨a,c⟩;exact Sl.weaken (Sl.same g hw λb a c=>d b a.1 c) λb a _=>cut b a
 .obtain⟨f,z,k⟩:=h.met;refine⟨f,z.same hw (key _ e.met.lt),λp l=>?_⟩;obtain⟨u,s,v,zs,x,a2,a3,a4,a5,y⟩:=k p l;have g:Ints (λb=>Off X F b/\b<w.heap.size) w v zs:=Ints.weaken a4 λb a c=>⟨a,c⟩;exact⟨u,s,v,zs,x,a2,a3,Ints.weaken (Ints.same g hw λb a c=>d b a.1 c) λb a _=>cut b a,a5,y⟩
theorem Ints.swap {w':World} {S Y:oA} {r:Value} {zs:oI} (h:Ints (Off X F) w r zs) (hw:Same S w w') (d:∀b,S b->X b) (e:∀b,Y b->b<w.heap.size->X b):Ints (Off Y F) w' r zs:=by
 have c:Ints (λb=>Off X F b/\b<w.heap.size) w r zs:=Ints.weaken h λb a f=>⟨a,f⟩;exact Ints.weaken (Ints.same c hw λb a _ hs=>a.1.2 (d b hs)) λb a _=>⟨a.1.1,λg=>a.1.2 (e b g a.2)⟩
theorem Ql:kR0 yM .string zg:=⟨_,jA,rK⟩
theorem BlR.put {s:ByteArray} {t:M.Tm} {r:Value} {zs:oI} (h:BlR n bl bb kb m ar ab ds dv X F w st) (hs:s.data.toList=M.textL t) (S:M.sortM ds t≠ -1) (hi:Ints (Off X F) w r zs) (z:SmL zs)
  (l:∀gs,st=some gs->(M.termB ds t).run n gs=some (gs,zs)) (N:∀w',BlR n bl bb kb m ar ab ds dv X F w' st->Same (· =m) w w'->K undef w'):zF0 yM (.map (some m)) (.string s) r w K:=by
 obtain⟨o1,D,o3,U,V⟩:=h.off;obtain⟨f,C,R⟩:=h.met;refine qS0 Ql C (Ym s) λw' H q o hw T=>N w' ?_ hw;obtain⟨es,cl,x,_⟩:=C;have i:∀(a:Addr),(∃v,w.cell? a=some v)->a.block≠m:=λa ⟨v,O⟩ e=>by
  simp[World.cell?,e,x] at O
 have d:∀{g:Nat} {a:Addr},Sent w g a->g≠m:=λy=>i _ ⟨_,y.cell⟩;have he:=h.bd.err;have W:=d he.room;have Y:=d he.bits;have c:∀b,Off X F b->b<w.heap.size->¬(b=m):=λb k _ e=>k.2 (e▸h.ext);obtain⟨bc,J,L⟩:=h.bd.blk;refine⟨⟨⟨he.room.same hw W,he.bits.same hw Y,he.off⟩,⟨bc,J.same hw λe=>D (e▸h.bd.foot),λgs e=>?_⟩,h.bd.foot,λb k=>by rw[T];exact h.bd.lt b k⟩,h.blk.same hw U,h.off,h.ext,Sl.same h.dcl hw c,h.kin.same hw V,H,q,λp j=>?_⟩
 .obtain⟨v,mb,Q,I,B⟩:=L gs e;exact⟨v,mb,Q.same hw λb k e=>D (e▸B b k),I,B⟩
 .rcases o p j with rfl|j
  .exact⟨t,s,r,zs,rfl,hs,S,Ints.same hi hw c,z,l⟩
  .obtain⟨u,Z,v,A,E,a2,a3,a4,a5,G⟩:=R p j;exact⟨u,Z,v,A,E,a2,a3,Ints.same a4 hw c,a5,G⟩
structure KidsB (n bl bb kb m:Nat) (ar ab:Addr) (ds:List M.Dcl) (dv:Value) (t:M.Tm) (X F:oA) (w:World) (st:Option M.Gs) (i:Nat) (v:Value) (w':World):Prop where
 ex:∃(F1:oA) (st1:Option M.Gs) (vs:List Value) (rs:List (oI)),BlR n bl bb kb m ar ab ds dv (λb=>X b\/v.ownBlock=some b) F1 w' st1/\Mv (P1 m F) w (P1 m F1) w'/\OwnV zK w' v vs/\(∀b,v.ownBlock=some b->w.heap.size<=b/\¬F1 b)/\
  vs.length=i/\rs.length=i/\(∀j,j<i->Ints (Off (λb=>X b\/v.ownBlock=some b) F1) w' (vs.getD j undef) (rs.getD j []))/\(∀r,r∈rs->SmL r)/\TOut n (M.seqB ((t.ks.take i).map (M.termB ds))) st st1 rs
theorem K2 {α:Type} {l r:List α} {d:α} {i:Nat} (h:i<l.length):(l++r).getD i d=l.getD i d:=by
 rw[X0,gK h,<-X0]
theorem K4 {α:Type} {l:List α} {x d:α} {i:Nat} (h:l.length=i):(l++[x]).getD i d=x:=by
 subst h;simp[X0]
theorem TOut.nil:TOut n (M.seqB []) st st []:=by
 cases st with
 |none=>exact .inr ⟨rfl,λgs e=>by cases e⟩
 |some gs=>exact .inl ⟨gs,gs,rfl,rfl,rfl⟩
theorem term_spec (hd:M.declOk ds=true):∀(t:M.Tm),M.sortM ds t≠ -1->M.sizeM t<=1000->∀{w:World} {K:oK} {X F:oA} {st:Option M.Gs} {tv:Value},BlR n bl bb kb m ar ab ds dv X F w st->TermR (Off X F) w tv t->
  (∀w' F' st' r zs,BlR n bl bb kb m ar ab ds dv X F' w' st'->Mv (P1 m F) w (P1 m F') w'->Ints (Off X F') w' r zs->SmL zs->TOut n (M.termB ds t) st st' zs->K r w')->
  vcall XB #[oP bl 0,tv] w K:=by
 refine M.Tm.ind λt ih hs br w K X F st tv d ht hK=>?_;obtain⟨kv,rfl,bn⟩:=ht;refine zf {loops:=[(7,[8,32])]} Tryz.func89 ?_;refine zk λb1 w1 c5 bk c8 b8=>?_;refine zd λw2 an _=>?_;have e2:=bk.trans an;have ad:=d.grow e2;have ai:=b8.ext an;have Z:=bn.ext e2;simp(disch:=exact oS) only[push_cast,ad.blk.ld2,ai.ldAgg (t:=za) zc,K3];refine textOf_spec hd t hs br ad.kin ⟨kv,rfl,Z⟩ λQ s R b0=>?_;have e3:=e2.trans R;have k:=ad.grow R;have aj:=ai.ext R;have a0:=Z.ext R;simp(disch:=exact oS) only[push_cast,k.blk.ld3];obtain⟨f,O,bm⟩:=k.met;by_cases H:∃v,(Value.string s,v)∈f
 .obtain⟨v,H⟩:=H;rw[XP Ql O (Ym s) H];simp only[push_cast,if_true];obtain⟨u,s',v',zs,e,a2,a3,a4,a5,a6⟩:=bm _ H;cases e;have:=M.text_inj hd hs a3 (b0.symm.trans a2);subst this;refine hK Q F st v zs k (Mv.refl.ext e3) a4 a5 ?_;cases st with
  |none=>exact .inr ⟨rfl,λgs e=>by cases e⟩
  |some gs=>exact .inl ⟨gs,gs,rfl,rfl,a6 gs rfl⟩
 rw[zG0 Ql qG O (Ym s) λv hv=>H ⟨v,hv⟩];simp(disch:=exact oS) only[push_cast,if_true,aj.ld4,a0.len];have c7:t.ks.length<=3:=by
  obtain⟨c4,hp,ho⟩:=M.right_op hs;have h:M.arity t.op<=3:=by
   unfold M.arity;repeat' split
   all_goals omega
  omega
 have S:∀b,(X b\/(oN).ownBlock=some b)->b<Q.heap.size/\(b<Q.heap.size->X b):=λb d=>d.elim (λh=>⟨k.bd.lt b (.inr h),λ_=>h⟩) λh=>by cases h
 have ak:=k.swap (Y:=λb=>X b\/(oN).ownBlock=some b) k (Same.refl (λ_=>False) Q) (λb d=>d.elim) S (.inl k.ext);have be:TmsR (λb=>Off X F b/\b<Q.heap.size) Q kv t.ks:=a0.weaken λb d hl=>⟨d,hl⟩;refine vloop_up t.ks.length (λi u w'=> ∃v,u=[v,nI i]/\KidsB n bl bb kb m ar ab ds dv t X F Q st i v w') ⟨_,rfl,⟨F,st,[],[],ak,Mv.refl,OwnV.nil,(λb d=>by cases d),rfl,rfl,λj W=>absurd W oM,(λr hr=>by cases hr),TOut.nil⟩⟩ ?_;rintro i _ g w4 C hi ⟨v,rfl,⟨F4,bv,vs,rs,l,A,af,E,b3,ax,hint,az,L⟩⟩ hC;refine oZ ?_;have l4:=A.same.size;have I:TmsR (λb=>Off X F b/\b<Q.heap.size) w4 kv t.ks:=be.same A.same λb d _ hp=>hp.elim d.1.1 λe=>d.1.2 (e▸k.ext);have bf:∀b,(Off X F b/\b<Q.heap.size)->Off (λb=>X b\/v.ownBlock=some b) F4 b:=λb d=>⟨λO=>A.off (λhp=>hp.elim d.1.1 λe=>d.1.2 (e▸k.ext)) d.2 (.inl O),λhx=>hx.elim d.1.2 λho=>by have:=(E b ho).1;omega⟩;refine zb (λa=>?_) (λa=>?_)
 .have p:i<t.ks.length:=oM;simp(disch:=exact oS) only[push_cast,I.iaddr];refine I.load zc p λx hx=>?_;obtain⟨cx,rfl,ae⟩:=hx.cells;refine zj zr λb7 w7 c6 ao c9 b9=>?_;refine stTerm b9 rfl (ae.ext ao) λw8 bt ca ba=>?_;have D:Ext w4 w8:=Ext.then ao bt λy hy=>by subst hy;omega
  have v8:=ae.ext D;simp only[push_cast,ba.ldAgg (t:=za) (by rw[zS ae];exact zc)];have B:t.ks.getD i default∈t.ks:=M.getD_mem p _;have bq:M.sizeM (t.ks.getD i default)<=1000:=by
   have h1:=M.szT_succ p;have h2:=M.szT_mono (ks:=t.ks) (i:=i+1) (j:=t.ks.length) p (gz _);have h3:=M.szT_all t;omega
  have bj:=l.grow D;refine ih _ B ((M.sort_parts hs).2.1 _ B) bq bj (v8.term.weaken λb d _=>bf b d) λw9 F9 bw r zs am J ag bu bs=>?_;refine zC ZX je qG rfl (Sl.cells1 ag) λc0 w10 bx o bz ah=>?_;have cb:=D.size;have l9:=J.same.size;have b2:∀b,v.ownBlock=some b->¬P1 m F4 b:=λb d hp=>hp.elim (E b d).2 λe=>by have:=(E b d).1;have:=k.met.lt;omega
  have av:OwnV zK w10 v vs:=((af.ext D).same J.same b2).ext o;refine av.app1 KZ ah (Sl.one ag) oM oM λv11 cc a9 z a7=>?_
  try simp(disch:=omega) only[push_cast,zi]
  have a8:∀b,v.ownBlock=some b->¬F9 b:=λb d O=>J.off (b2 b d) (by have:=af.lt d;omega) (.inl O);have G:∀b,(X b\/v11.ownBlock=some b)->b<w10.heap.size->(X b\/v.ownBlock=some b):=λb d hl=>d.elim .inl λh=>(a7 b h).elim .inr λh2=>oM;have T:∀j,j<i->Ints (Off (λb=>X b\/v.ownBlock=some b) F9) w10 (vs.getD j undef) (rs.getD j []):=λj W=>Ints.ext (Sl.mvX (Ints.ext (hint j W) D) (.inl d.ext) J) o;refine hC p _ _ ⟨v11,by simp,⟨F9,bw,vs++[r],rs++[zs],(am.grow o).swap k z (λb d=>⟨.inr d,(E b d).1,a8 b d⟩) (λb d=>⟨?_,G b d⟩) (.inl d.ext),(((A.ext D).trans J).ext o).to z λb d=> .inr (E b d).1,a9,λb d=>?_,by simp[b3],by simp[ax],λj W=>?_,λq hq=>?_,?_⟩⟩
  .rcases d with h|h
   .have:=l.bd.lt b (.inr (.inl h));have:=o.size;have:=z.size;omega
   .exact a9.lt h
  .rcases a7 b d with h|h
   .exact⟨(E b h).1,a8 b h⟩
   .have:=o.size;exact⟨oM,λO=>by have:=am.bd.lt b (.inl O);omega⟩
  .by_cases c:j<i
   .rw[K2 oM,K2 oM];exact Ints.swap (T j c) z (λb d=> .inr d) G
   .have:j=i:=oM;subst this;rw[K4 b3,K4 ax];exact Ints.swap (Ints.ext ag o) z (λb d=> .inr d) G
  .rcases gq.1 hq with h|h
   .exact az q h
   .rw[gD.1 h];exact bu
  .rw[M.take_add p default,gG];exact L.snoc bs
 .have p:i=t.ks.length:=oM;subst p;rw[gF] at L;obtain⟨bc,hB,c3⟩:=l.bd.blk;have back:∀{F5:oA} {w5:World} {N:Option M.Gs},BlR n bl bb kb m ar ab ds dv (λb=>X b\/v.ownBlock=some b) F5 w5 N->BlR n bl bb kb m ar ab ds dv X F5 w5 N:=λh=>h.swap h (Same.refl (λ_=>False) _) (λb d=>d.elim) (λb d=>⟨h.bd.lt b (.inr (.inl d)),λ_=> .inl d⟩) k.ext;have m3:Mv (P1 m F) w (P1 m F) Q:=Mv.refl.ext e3;cases bv with
  |none=>
   simp only at hB;simp(disch:=exact oS) only[push_cast,l.blk.ld0,hB.ld1,zl0];have au:Ints (Off X F4) w4 (oN) []:=Ints.weaken (OwnI.nil (t:=zg)).ints λb d _=>(by cases d);exact hK w4 F4 none _ [] (back l) (m3.trans A) au SmL.nil (TOut.root (st2:=none) L (λb6 e=>by cases e) λ_=>rfl)
  |some c2=>
   simp only at hB;simp(disch:=exact oS) only[push_cast,l.blk.ld0,hB.ld1,Xq];have bg:=aj.same A.same λhp=>hp.elim (λO=>by have:=d.bd.lt _ (.inl O);omega) λe=>by have:=d.met.lt;omega
   simp(disch:=exact oS) only[push_cast,bg.ldAgg (t:=za) zc];have U:(M.seqB (t.ks.map (M.termB ds))).Reach rs:=by
    rcases L with⟨c1,g1,a1,a2,a3⟩|⟨a1,_⟩
    .exact M.Bd.reach_of_run a3
    .cases a1
   obtain⟨ay,bp⟩:=M.seq_reach U;refine root_spec l.bd hd hs l.blk l.dcl l.kin ⟨kv,rfl,I⟩ ⟨⟨vs,af.vals,oM,λj W=>hint j oM⟩,az⟩ ay (λj W=>?_) λw5 F5 N r zs bh ap bo b5 aw=>?_
   .have B:t.ks.getD j default∈t.ks:=M.getD_mem W _;have:=M.term_len hd _ ((M.sort_parts hs).2.1 _ B) (bp j W);rw[this];rfl
   have al:=l.step bh ap (Out.pre' aw);have ac:TOut n (M.termB ds t) st N zs:=L.root (λb6 e=>by cases e;exact aw) λe=>(by cases e);have aq:Mv (P1 m F) w (P1 m F5) w5:=(m3.trans A).trans ap.p1;have aa:Ints (Off X F5) w5 r zs:=Ints.weaken bo λb d _=>⟨d.1,λhx=>d.2 (.inl hx)⟩;have V:=back al;simp(disch:=exact oS) only[push_cast,V.blk.ld3];refine V.put b0 hs aa b5 (λgs e=>?_) λw6 bi b4=>?_
   .rcases ac with⟨g0,g1,a1,a2,a3⟩|⟨a1,_⟩
    .rw[a2] at e;cases e;exact M.Bd.run_again a3 (Pz _)
    .rw[a1] at e;cases e
   .refine hK w6 F5 N r zs bi (aq.to b4 λb d=> .inl (.inr d)) ?_ b5 ac;exact Ints.same aa b4 λb d _ e=>d.2 (e▸k.ext)
end
end Go.Proofs.YtfnpmncplaibiaaGreatDoor
section
namespace Go.Proofs.YtfnpmncplaibiaaGreatDoor
open Go Go.Vc Go.Proofs
section
open Go.RowKit Go.Extern.Stop Go.Stop Go.Extern
theorem yx0 (v:Value) (w:World):(Extern.ReflectliteType.typeOf #[.iface 443 v]).run Tryz.prog w= .ok (.iface 216 (.agg #[oP 11 443])) w:=rK
theorem Qp (w:World):(callFunc 402 #[.agg #[oP 11 443]]).run Tryz.prog w= .ok (Next.value (.bool true)) w:=by
 rw[@run_callFunc_extern Tryz.prog 402 _ (Extern.ReflectliteType.method λt=>do Extern.Rtype.noPackHeld "Comparable" t;pure (.bool (<-typeInfo t).comparable)) Tryz.func402 rK rK rK rK];kernel_rfl
theorem yy0 (v:Value) (w:World):(Go.method 582 216 v "Comparable").run Tryz.prog w= .ok (402,v) w:=rK
theorem jx0:(Tryz.prog.info? 443).map (·.comparable)=some true:=rK
theorem jw0:(Tryz.prog.info? 471).map (·.size)=some 1:=rK
theorem noIsE (v:Value) (xT:TypeId) (w:World):(Instr.typeAssert (.iface 443 v) xT 218 true).run Tryz.prog w= .ok (.tuple #[.nilIface,.bool false]) w:=run_typeAssert_lacksB Tryz.underlying218 rK rK v xT w
theorem jd0 (v:Value) (xT:TypeId) (w:World):(Instr.typeAssert (.iface 443 v) xT 221 true).run Tryz.prog w= .ok (.tuple #[.nilIface,.bool false]) w:=run_typeAssert_lacksB Tryz.underlying221 rK rK v xT w
theorem qa0 (v:Value) (xT:TypeId) (w:World):(Instr.typeAssert (.iface 443 v) xT 223 true).run Tryz.prog w= .ok (.tuple #[.nilIface,.bool false]) w:=run_typeAssert_lacksB Tryz.underlying223 rK rK v xT w
theorem Y60 (a : Addr) (w : World) :
    Calls Tryz.prog 49 #[.iface 443 (.pointer (some a)), .iface 443 (.pointer (some a))] w λe w' => e = .returned (.bool true) /\ w' = w := by
  obtain ⟨i, hi, hcmp⟩ := pU.1 jx0
  obtain ⟨j, hj, hjs⟩ := pU.1 jw0
  have h8 := @run_callFunc_extern Tryz.prog 91 _ Extern.ReflectliteType.typeOf Tryz.func91 (by kernel_rfl) (by kernel_rfl) (by kernel_rfl) (by kernel_rfl)
  have h32 : ∀ w : World, (callFunc 402 #[.agg #[.pointer (some ⟨11, 443, none⟩)]]).run Tryz.prog w = .ok (Next.value (.bool true)) w := Qp
  have tT := yx0
  have mR := yy0
  have heq := run_eql_iface_ptr_same (P := Tryz.prog) w a Tryz.underlying86 Tryz.underlying443 hi hcmp hj
  go_enter Tryz.func49, Tryz.ntmps49
  go_wp2
  refine wp_loop_rounds 1 ?_
  rw [rounds_succ]
  go_wp2
  go_ret
  exact ⟨rfl, rfl⟩
theorem YO0 (b : Addr) (w : World) :
    Calls Tryz.prog 49 #[.nilIface, .iface 443 (.pointer (some b))] w λe w' => e = .returned (.bool false) /\ w' = w := by
  have hn := run_eql_iface_nil_left (P := Tryz.prog) w 443 (.pointer (some b)) Tryz.underlying86
  go_enter Tryz.func49, Tryz.ntmps49
  go_wp2
  go_ret
  exact ⟨rfl, rfl⟩
end
variable {w:World} {K:oK}
theorem WB {a:Addr} (b:K (.bool true) w):vcall xC #[erv a,erv a] w K:=
 ⟨rK,(Y60 a w).mono λe w' h=>by obtain⟨rfl,rfl⟩:=h;exact b⟩
theorem qg0 {a:Addr} (b:K (.bool false) w):vcall xC #[.nilIface,erv a] w K:=
 ⟨rK,(YO0 a w).mono λe w' h=>by obtain⟨rfl,rfl⟩:=h;exact b⟩
end Go.Proofs.YtfnpmncplaibiaaGreatDoor
end
namespace Go.Proofs.YtfnpmncplaibiaaGreatDoor
open Go Go.Vc Go.Proofs
section
variable {w:World} {K:oK} {F Fx Q X:oA} {n bc mb m:Nat} {gs:M.Gs} {v:Value} {ar ab:Addr}
theorem gone (gs:M.Gs):∀y,y∈gs.map yf->∀c,c∈y->c.oneCell'=true:=λy b c a=>by
 obtain⟨g,_,rfl⟩:=gB.1 b;simp only[yf,gk,gE,Gn] at a;rcases a with rfl|rfl|rfl<;>rfl
theorem OwnG.nil:OwnG w (oN) []:=Own.nil 0 3 zB w
theorem Clone_gate (d:GatesR Fx w v gs) (u:gs.length<=1000000) (l:∀w' v',Ext w w'->OwnG w' v' gs->(∀x,v'.ownBlock=some x->w.heap.size<=x)->K v' w'):
  vcall qC #[v] w K:=by
 refine zf {} Tryz.func190 ?_;obtain⟨a,c,rfl,r,s,f⟩:=d.shape;rw[gd] at d r⊢;rw[QI qh];refine zm (λm=>?_) (λm=>?_)
 .cases a with
  |some a=>cases m
  |none=>
   have k:gs=[]:=by
    have n:gs.map yf=[]:=Gw λh=>by
     obtain⟨b,o,p,_⟩:=f h;cases p
    simpa using n
   subst k;exact l w _ (Same.refl _ _) OwnG.nil λx d=>by cases d
 .refine y7 jm Xj λb w1 z he A q=>?_;have g:Own 0 3 zB w1 (.slice (some ⟨b,0,none⟩) 0 0) []:=Blk.ownk (css:=[]) (by rw[Qs];exact q) (λx d=>by cases d) rfl oM;have j:Sl Fx w1 3 (.slice a gs.length c) (gs.map yf):=Sl.ext d he;refine vappend (bs:=24) qE dC g j (gone gs) oM (by rw[gd];simp;omega) (by rw[gd];simp;omega) λv' w2 t hs i=>?_;have y:=he.size;refine l w2 v' (Ext.then he hs λx d=>by have e:b=x:=gg d;omega) t λx d=>?_;rcases i x d with h|h
  .have e:b=x:=gg h;omega
  .omega
theorem sigof_spec {a m:Int} (hm:m.natAbs<=1000000) (b:K (.bool (decide (a≠0/\ -m<=a/\a<=m))) w):vcall JE #[nI a,nI m] w K:=by
 refine zf {} Tryz.func191 ?_;refine oZ ?_;refine zb (λc=>?_) (λc=>?_)
 .simp(disch:=omega) only[push_cast,zi,Gh];refine zb (λd=>?_) (λd=>?_)
  .try simp only[push_cast]
   rwa[show decide (a≠0/\ -m<=a/\a<=m)=decide (a<=m) from decide_eq_decide.2 ⟨λh=>h.2.2,λh=>⟨c,d,h⟩⟩] at b
  .rwa[gr (λh=>d h.2.1)] at b
 .rwa[gr (λh=>c h.1)] at b
theorem WE {a:Int} {o:Option Addr} {l c mb:Nat}:yi ya [(0,.agg ⟨[nI a,.slice o l c]⟩),(1,.map (some mb))] w K=K (.agg ⟨[nI a,.slice o l c,.map (some mb)]⟩) w:=zT Wl (us:=[[nI a,.slice o l c],[.map (some mb)]]) rfl rfl
theorem jX0 {a:Int} {o:Option Addr} {l c:Nat}:yi zx [(0,nI a),(1,.slice o l c)] w K=K (.agg ⟨[nI a,.slice o l c]⟩) w:=zT Jh (us:=[[nI a],[.slice o l c]]) rfl rfl
structure Rd (n:Nat) (w:World) (bc:Nat) (v':Value) (mb:Nat) (gs:M.Gs) (i:Nat) (w':World):Prop where
 ext:Ext w w'
 blk:Blk w' bc [nI n,v',.map (some mb)] ya
 own:OwnG w' v' gs
 map:∃f,GMap w' mb f/\∀g,X8 g f=if g∈gs.take i then some (2+n+gs.idxOf g:Int) else none
 sep:bc≠mb/\v'.ownBlock≠some bc/\v'.ownBlock≠some mb
 new:∀b,Xa bc mb v' b->w.heap.size<=b
theorem readNet_spec (hv:GatesR Fx w v gs) (hg:M.NetG n gs) (hn:n<=8) (hK:∀w' bc v' mb,CktR n bc w' gs v' mb->Ext w w'->(∀b,Xa bc mb v' b->w.heap.size<=b)->K (.tuple #[oP bc 0,.bool true]) w'):
  vcall VR #[.agg ⟨[nI n,v]⟩] w K:=by
 refine zf {loops:=[(5,[37])],cuts:=[(8195,[]),(16388,[4]),(36874,[]),(45069,[])]} Tryz.func128 ?_;refine zk λb1 w1 aq F av x=>?_;have au:GatesR Fx w1 v gs:=Sl.ext hv F;have ae:=hg.few;have hlen:∀(w':World) (K:oK),vbi .len [zB] zE [v] w' K=K (nI gs.length) w':=λw' K=>by rw[Sl.len hv qh,xH0]
 refine zp (λu w'=>u=[]/\w'=w1) ?_ ?_
 .intro J O;simp(disch:=exact oS) only[push_cast,x.ld0];refine zb (λc=>absurd c oM) (λ_=>?_)
  try simp(disch:=exact oS) only[push_cast,x.ld0]
  refine zb (λc=>absurd c oM) (λ_=>?_)
  try simp(disch:=exact oS) only[push_cast,x.ld1,hlen]
  refine zb (λc=>absurd c oM) (λ_=>?_);exact O _ _ ⟨rfl,rfl⟩
 rintro _ _ w2 ⟨rfl,rfl⟩;refine zp (λu w'=> ∃bc v' mb,u=[oP bc 0]/\Rd n w2 bc v' mb gs 0 w') ?_ ?_
 .intro J O;refine zd λw3 B _=>?_;have z:=x.ext B;have e3:=F.trans B;simp(disch:=exact oS) only[push_cast,z.ld0,z.ld1,K3,Gq];refine⟨?_,?_⟩
  .refine Clone_gate (Sl.ext hv e3) oM λw4 v' p k T=>?_;have A:=z.ext p;obtain⟨o,c,rfl,_⟩:=(Own.sl k).shape;simp(disch:=exact oS) only[push_cast,A.ld0,K3,Gq,gm,jX0];refine YQ0 rfl λmb w5 am a2 l ag=>?_;have q:=A.ext l;simp(disch:=exact oS) only[push_cast,q.ld0,K3,Gq,gm,jX0,WE];refine zk λbc w6 ak r ah E=>?_;have z3:=B.size;have z4:=p.size;have S:=(λb Q=>(Own.lt k (b:=b) Q).2);refine O _ _ ⟨bc,_,mb,rfl,B.trans (p.trans (l.trans r)),E,Own.ext k (l.trans r),⟨[],a2.ext r,λg=>rfl⟩,⟨oM,λh=>by have:=S _ h;omega,λh=>by have:=S _ h;omega⟩,?_⟩;rintro b (rfl|rfl|h)
   .omega
   .omega
   .have:=T b h;omega
  .refine YQ0 rfl λmb w5 am a2 l ag=>?_;have q:=z.ext l;simp(disch:=exact oS) only[push_cast,q.ld0,q.ld1,K3,Gq,gm];refine Clone_gate (Sl.ext hv (e3.trans l)) oM λw4 v' p k T=>?_;have A:=q.ext p;obtain⟨o,c,rfl,_⟩:=(Own.sl k).shape;simp(disch:=exact oS) only[push_cast,A.ld0,K3,Gq,gm,jX0,WE];refine zk λbc w6 ak r ah E=>?_;have z3:=B.size;have z4:=p.size;have S:=(λb Q=>(Own.lt k (b:=b) Q).2);refine O _ _ ⟨bc,_,mb,rfl,B.trans (l.trans (p.trans r)),E,Own.ext k r,⟨[],a2.ext (p.trans r),λg=>rfl⟩,⟨oM,λh=>by have:=S _ h;omega,λh=>by have:=T _ h;omega⟩,?_⟩;rintro b (rfl|rfl|h)
   .omega
   .omega
   .have:=T b h;omega
 rintro _ _ w3 ⟨bc,v',mb,rfl,h3⟩;have z:=x.ext h3.ext;simp(disch:=exact oS) only[push_cast,z.ld1,hlen];refine vloop_up gs.length (λi u w'=>u=[nI i]/\Rd n w2 bc v' mb gs i w') ⟨rfl,h3⟩ ?_;rintro i _ _ w4 C hi ⟨rfl,d⟩ hC;have A:=x.ext d.ext;refine oZ ?_;refine zb (λa=>?_) (λa=>?_)
 .have m:i<gs.length:=oM;have k:Sl Fx w4 3 v (gs.map yf):=Sl.ext hv (F.trans d.ext);have al:(gs.map yf).getD i []=yf gs[i]:=(by simp[X0,m]);rw[Sl.iaddr k Yr oM (by rw[xH0];omega),gu,Sl.ldAgg k xN (by rw[xH0];exact m),al];obtain⟨g1,g2,g3,g4⟩:=hg.gate i m;have Y:gs[i]∉gs.take i:=λh=>by
   obtain⟨j,hj,e⟩:=gy h;rw[gi] at hj;rw[List.getElem_take] at e;exact GL.1 hg.once j i oM m oM e
  have ao:gs.take (i+1)=gs.take i++[gs[i]]:=by rw[pt,gj m];rfl
  have af:gs.idxOf gs[i]=i:=List.Nodup.idxOf_getElem hg.once i m;generalize gs[i]=g at*;have absN:∀a:Int,M.absI a=(a.natAbs:Int):=λa=>by unfold M.absI;split<;>omega
  have ga:=absN g.a;have gb:=absN g.b;refine zj kM λb5 w5 ar l ag q=>?_;refine q.stAgg (cs':=yf g) rfl xN (λc hc=>by simp only[yf,gk,gE,Gn] at hc;rcases hc with rfl|rfl|rfl<;>rfl) λw6 an ah E=>?_;have ai:Ext w4 w6:=Ext.then l an λy hy=>by subst hy;omega
  refine zd λw7 aa _=>?_;have N:=E.ext aa;have a4:=ai.trans aa;have Z:=A.ext a4;have a1:∀w':World,Blk w' b5 (yf g) zo->∀K:oK,zu zo (oP b5 0) w' K=K (gv g) w':=λw' hB K=>Blk.ldAgg hB (by exact xN);simp(disch:=exact oS) only[push_cast,N.ld1,N.ld2,K3];refine zp (λu w'=>u=[]/\Ext w7 w') ?_ ?_
  .intro J O;rw[Z.ldAgg (t:=zx) y0];refine nodes_spec oM oM λw8 ab=>?_;refine sigof_spec oM ?_;rw[gC ⟨oM,oM,oM⟩];have aj:=Z.ext ab;simp(disch:=exact oS) only[push_cast,GI,aj.ldAgg (t:=zx) y0];refine nodes_spec oM oM λw9 D=>?_;refine sigof_spec oM ?_;rw[gC ⟨oM,oM,oM⟩];simp only[push_cast,GI];refine node_spec oM ?_;refine oZ ?_;refine zb (λc=>absurd c oM) (λ_=>?_);refine node_spec oM ?_;refine oZ ?_;refine zb (λc=>absurd c oM) (λ_=>?_);refine node_spec oM (node_spec oM ?_);refine oZ ?_;refine zb (λc=>absurd c oM) (λ_=>?_);exact O _ _ ⟨rfl,ab.trans D⟩
  rintro _ _ w9 ⟨rfl,D⟩;have a5:=a4.trans D;refine zp (λu w'=>u=[]/\Ext w9 w') ?_ ?_
  .intro J O;refine zd λw10 s _=>?_;have e:=a5.trans s;have a6:=d.blk.ext e;have V:=(N.ext D).ext s;obtain⟨f,hf,hl⟩:=d.map;have ac:=hf.ext e;have a3:X8 g f=none:=(by rw[hl,Q1 Y]);simp(disch:=exact oS) only[push_cast,a6.ld2,a1 _ V,ZG0 ac,a3,K3];simp(disch:=exact oS) only[push_cast,V.ld0];refine zm (λhx=>?_) (λhx=>?_)
   .obtain⟨p1,p2⟩:=g4 hx
    try simp only[push_cast]
    refine zb (λc=>absurd c oM) (λ_=>?_)
    try simp only[push_cast]
    refine zb (λc=>absurd c oM) (λ_=>?_);exact O _ _ ⟨rfl,s⟩
   .exact O _ _ ⟨rfl,s⟩
  rintro _ _ aw ⟨rfl,G⟩;refine zd λax H _=>?_;have e:=(a5.trans G).trans H;have a7:=d.blk.ext e;have W:=((N.ext D).ext G).ext H;have a9:=((Z.ext D).ext G).ext H;simp(disch:=exact oS) only[push_cast,a7.ld2,a1 _ W,a9.ldAgg (t:=zx) y0,K3];refine nodes_spec oM oM λay X=>?_;have L:=e.trans X;have U:=d.blk.ext L;have a8:=W.ext X;obtain⟨f,hf,hl⟩:=d.map;have a3:X8 g f=none:=(by rw[hl,Q1 Y]);simp(disch:=exact oS) only[push_cast,U.ld2,a1 _ a8,K3,gm,Gq,zi];refine gset (hf.ext L) a3 λaz ad I ap=>?_
  try simp(disch:=omega) only[push_cast,zi]
  have l4:=d.ext.size;refine hC m _ _ ⟨by simp,Ext.then (d.ext.trans L) I (λb Q=>by have:=d.new b (.inr (.inl Q));omega),U.same I d.sep.1,Own.same (Own.ext d.own L) I (λb Q e=>d.sep.2.2 (e▸Q)),⟨_,ad,λg'=>?_⟩,d.sep,d.new⟩;have e1:=look_app (g:=g') (h:=g) (n:=1+(n:Int)+i+1) (f:=f) (i:=0);have e2:=hl g';unfold X8 at e2⊢;rw[e1,e2,ao];by_cases R:g'∈gs.take i
  .rw[V0 R,V0 (gq.2 (.inl R))]
  .rw[Q1 R];by_cases a0:g'=g
   .subst a0;simp only;rw[V0 trivial,V0 (by simp),af];congr 1;omega
   .simp only;rw[Q1 a0,Q1 (by simp[R,a0])]
 .have m:i=gs.length:=oM;subst m;obtain⟨f,hf,hl⟩:=d.map;rw[gF] at hl;have z1:=F.size;exact hK w4 bc v' mb ⟨d.blk,d.own,⟨f,hf,hl⟩,d.sep,ae,hn⟩ (F.trans d.ext) λb Q=>by have:=d.new b Q;omega
end
section
variable {w:World} {K:oK} {F Fx Q X:oA} {n bl bc mb bb kb m:Nat} {gs:M.Gs} {v dv:Value} {ar ab:Addr} {ds:List M.Dcl}
theorem jW0 {a:Int}:yi zx [(0,nI a)] w K=K (.agg ⟨[nI a,oN]⟩) w:=zT Jh (us:=[[nI a]]) rfl rfl
theorem Ye0:yi zx [] w K=K (.agg ⟨[nI 0,oN]⟩) w:=zT Jh (us:=[]) rfl rfl
theorem qv0 {a:Addr}:yi yI [(0,.pointer (some a))] w K=K (.agg ⟨[.pointer (some a),.nilIface]⟩) w:=zT Wn (us:=[[.pointer (some a)]]) rfl rfl
theorem qw0 {a:Addr} {o:Option Addr} {l c k m:Nat}:yi yh [(0,.pointer (some a)),(1,.slice o l c),(2,.map (some k)),(3,.map (some m))] w K=K (.agg ⟨[.pointer (some a),.slice o l c,.map (some k),.map (some m)]⟩) w:=zT Wo (us:=[[.pointer (some a)],[.slice o l c],[.map (some k)],[.map (some m)]]) rfl rfl
theorem GatesR.nil:GatesR Fx w (oN) []:=Sl.weaken (Own.sl (OwnG.nil (w:=w))) λb a _=>by cases a
theorem NetG.nil (n:Nat):M.NetG n []:=⟨by simp,λk h=>absurd h (by simp),pC⟩
theorem newBlaster_spec (A:M.declOk ds=true) (n:DclsR Fx w dv ds) (he:Errs (λ_=>False) w ar ab)
  (I:∀w' bl bb kb m F,BlR (M.bits ds).toNat bl bb kb m ar ab ds dv (· =m) F w' (some [])->Ext w w'->(∀b,F b\/b=m\/b=bl->w.heap.size<=b)->K (oP bl 0) w'):vcall QU #[dv] w K:=by
 refine zf {} Tryz.func88 ?_;have Y:=(M.decl_iff.1 A).2.2;have X:=M.bits_pos' (ds:=ds) λd B=>by
  obtain⟨i,hi,e⟩:=gy B;have:=(M.dcl_wide A hi).1;rw[X0,gj hi] at this;simp only[GF,e] at this;omega
 refine bitsOf_spec n A λw1 s=>?_;rw[jW0,show M.bits ds=(((M.bits ds).toNat:Nat):Int) by omega];refine readNet_spec (Fx:=Fx) (gs:=[]) GatesR.nil (NetG.nil _) oM λw2 bc v' mb G t E=>?_;simp only[push_cast,qv0];refine zk λbb w3 J u S y=>?_;refine kinds_new λV kb q v Q=>?_;refine WI Ql λm w5 hm D l T=>?_;obtain⟨o,c,rfl,_⟩:=n.shape;rw[qw0];refine zk λbl W L g U z=>?_;have s1:=s.size;have s2:=t.size;have s3:=u.size;have s4:=q.size;have s5:=l.size;have s6:=g.size;have r:=u.trans (q.trans (l.trans g));have x:=t.trans r;have k:=s.trans x;have j:∀b,Xa bc mb v' b->b<w2.heap.size:=λb f=>G.lt f;have C:=v.ext (l.trans g);have N:=v.lt;have a:∀b,(Xa bc mb v' b\/b=bb)->w.heap.size<=b/\b<V.heap.size:=λb f=>f.elim (λh=>by have:=E b h;have:=j b h;omega) λh=>oM
 refine I W bl bb kb m (λb=>Xa bc mb v' b\/b=bb) ⟨⟨⟨?_,?_,?_⟩,⟨bc,y.ext (q.trans (l.trans g)),λgs e=>?_⟩,.inr rfl,λb f=>?_⟩,z,⟨λh=>by have:=(a _ h).2;omega,λh=>by have:=(a _ h).2;omega,?_,oM,oM⟩,rfl,?_,C,?_⟩ k λb f=>?_
 .exact he.room.same k id
 .exact he.bits.same k id
 .have Z:=he.room.lt;have l2:=he.bits.lt;exact⟨λh=>by have:=(a _ h).1;omega,λh=>by have:=(a _ h).1;omega⟩
 .cases e;exact⟨v',mb,G.ext r,λh=>by have:=j _ h;omega,λb f=> .inl f⟩
 .rcases f with h|h
  .have:=(a _ h).2;omega
  .omega
 .rintro(h|h)
  .have:=j _ h;omega
  .omega
 .have H:DclsR (λb=>Fx b/\b<w.heap.size) w _ ds:=Sl.weaken n λb f O=>⟨f,O⟩;exact Sl.weaken (Sl.ext H k) λb f _=>⟨λh=>by have:=(a _ h).1;omega,λh=>oM⟩
 .exact⟨[],D.ext g,λp R=>by cases R⟩
 .rcases f with h|h|h
  .exact(a _ h).1
  .omega
  .omega
theorem kB0 {t:M.Tm} (h:M.tsort ds t≠ -1):M.fits t=true/\M.declOk ds=true/\M.sortM ds t≠ -1/\M.sizeM t<=20:=by
 unfold M.tsort at h;split at h
 .next a=>exact⟨a.1,a.2,h,(M.fits_iff.1 a.1).1⟩
 .exact absurd rfl h
end
end Go.Proofs.YtfnpmncplaibiaaGreatDoor
end
