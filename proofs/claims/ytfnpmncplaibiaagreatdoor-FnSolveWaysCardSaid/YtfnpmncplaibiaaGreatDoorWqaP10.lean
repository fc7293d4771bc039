import Derived.Test.YtfnpmncplaibiaaGreatDoorWqaP9
/- A part of the proof. -/
set_option linter.all false
set_option maxRecDepth 9999
set_option maxHeartbeats 2000000
noncomputable section
namespace Go.Proofs.YtfnpmncplaibiaaGreatDoor
open Go Go.Vc Go.Proofs
section
variable {w:World} {K:oK} {D F Fx Y S O:oA} {n b4 b8:Nat} {v tv kv:Value} {cs cs' ts:List Value} {st st':Option M.Gs} {a b c m x y r:Int} {ds:List M.Dcl} {t:M.Tm} {rs:List (oI)}
theorem Fm.start2 (s:MkR n D w cs st) (hD:∀b,D b->b<w.heap.size) {K:Value->Value->oK} (m:∀b4 a b8 w',Fm n D (λ_=>False) w b4 b8 w' st->Blk w' a ts za->w.heap.size<=a/\a≠b4/\a≠b8->K (oP b4 0) (oP a 0) (oP b8 0) w'):
  WM zD (.agg ⟨cs⟩) w λt w1=>WM za (.agg ⟨ts⟩) w1 λt5 w2=>xE zD w2 λt8 k=>K t t5 t8 k:=by
 refine zk λb4 w1 p i u e=>?_;refine zk λa w2 q j v f=>?_;refine zj xy λb8 k r d x g=>?_;have c:=j.trans d;have l:=i.trans c;refine m b4 a b8 k ⟨l,⟨cs,e.ext c,s.ext l λb o y=>o.elim id λh=>?_⟩,⟨_,g,rfl⟩,oM,λb h=>h.elim,hD⟩ (f.ext d) oM;rcases h with h|h|h
 .omega
 .omega
 .exact h.elim
def KidsS (w:World) (kv:Value) (rs:List (oI)):Prop:= ∃(vs:List Value) (Fk:oA),Vals Fk w kv vs/\vs.length=rs.length/\∀i,i<rs.length->Ints (λ_=>True) w (vs.getD i undef) (rs.getD i [])
theorem KidsS.vals (h:KidsS w kv rs):∃vs:List Value,(∀(w':World),Ext w w'->∀i:Nat,i<rs.length->∀K:oK,y2 zn kv (nI i) w' K=K (oE (eaddr kv 1 i)) w'/\zu ze (oE (eaddr kv 1 i)) w' K=K (vs.getD i undef) w')/\
  ∀i,i<rs.length->Ints (λ_=>True) w (vs.getD i undef) (rs.getD i []):=by
 obtain⟨vs,Fk,b,d,c⟩:=h;refine⟨vs,λw' he i hi K=>?_,c⟩;have a:=b.ext he;refine⟨?_,a.load ZD0 oM⟩;rw[a.iaddr Yc0 oM oM,gu]
theorem KidsS.ext {w':World} (h:KidsS w kv rs) (he:Ext w w'):KidsS w' kv rs:=by
 obtain⟨vs,Fk,a,b,c⟩:=h;exact⟨vs,Fk,a.ext he,b,λi hi=>Ints.ext (c i hi) he⟩
theorem len_one {l:oI} (h:l.length=1):l=[l.getD 0 0]:=by
 match l,h with
 |[x],_=>rfl
theorem slogic8_spec (a5:M.declOk ds=true) (hs:M.sortM ds t≠ -1) (a9:22<t.op) (a1:t.op≠24) (hn:n<=8) (hk:MkR n D w cs st) (hD:∀b,D b->b<w.heap.size) (ht:TermR Fx w tv t) (J:KidsS w kv rs) (ad:rs.length=t.ks.length) (hlen:∀i,i<t.ks.length->(rs.getD i []).length=M.lenS (M.sortM ds (M.kid t i))) (a6:∀r,r∈rs->SnL st r)
  (m:∀w' cs' st' r zs,Ext w w'->MkR n D w' cs' st'->Ints (New w) w' r zs->SnL st' zs->M.Bd.Out n (M.nodeB ds t rs) st st' zs->K (.tuple #[.agg ⟨cs'⟩,r]) w'):
  vcall VA #[.agg ⟨cs⟩,tv,kv] w K:=by
 refine zf {} Tryz.func111 ?_;obtain⟨kw,rfl,ab⟩:=ht;obtain⟨aa,hp,ho⟩:=M.right_op hs;obtain⟨q1,q2,q3,q4,q5,q6,q7⟩:=M.node_right a5 hs (L:=λi=>(rs.getD i []).length) hlen;refine Fm.start2 hk hD λb4 b5 b8 w1 S a2 ac=>?_;obtain⟨c1,y,e⟩:=S.call;obtain⟨vs,g,f⟩:=(J.ext S.ext).vals;have get:∀i,i<rs.length->SnL st (rs.getD i []):=λi hi=>a6 _ (M.getD_mem hi []);simp(disch:=exact oS) only[push_cast,a2.ld0];unfold M.nodeB at m;rw[Q1 oM,Q1 oM,Q1 a1] at m;refine zb (λc=>?_) (λF=>?_)
 .rw[V0 c] at m;obtain⟨q,j⟩:=q7 oM;rw[V0 c] at q;have H:=j 0 oM;refine zd λw2 a _=>?_;have B:∀K:oK,y2 zn kv (nI 0) w2 K=K (oE (eaddr kv 1 0)) w2:=λK=>(g w2 a 0 oM K).1;have C:∀K:oK,zu ze (oE (eaddr kv 1 0)) w2 K=K (vs.getD 0 undef) w2:=λK=>(g w2 a 0 oM K).2;simp only[e w2 a,B,C,K3];refine sturn7_spec (Ints.ext (f 0 oM) a) oM (get 0 oM).sm λY r3 d l a4=>?_;simp only[e Y (a.trans d),K3,gm];have z2:=a.size;refine S.res (a.trans d) (y.ext (a.trans d) λ_ h _=>h) (j8 l λb hb=>by have:=a4 b hb;omega) λR e4 k v=>m R c1 st r3 _ e4 k v (get 0 oM).neg ?_;rw[len_one H];exact M.Bd.Out.ret _ _
 rw[Q1 F] at m
 try simp only[push_cast]
 refine zb (λc=>?_) (λZ=>?_)
 .rw[V0 c] at m;obtain⟨q,j⟩:=q7 oM;rw[Q1 F] at q;have H:=j 0 oM;have a3:=j 1 oM;refine zd λw2 a _=>?_;have B:∀K:oK,y2 zn kv (nI 0) w2 K=K (oE (eaddr kv 1 0)) w2:=λK=>(g w2 a 0 oM K).1;have C:∀K:oK,zu ze (oE (eaddr kv 1 0)) w2 K=K (vs.getD 0 undef) w2:=λK=>(g w2 a 0 oM K).2;have T:∀K:oK,y2 zn kv (nI 1) w2 K=K (oE (eaddr kv 1 1)) w2:=λK=>(g w2 a 1 oM K).1;have U:∀K:oK,zu ze (oE (eaddr kv 1 1)) w2 K=K (vs.getD 1 undef) w2:=λK=>(g w2 a 1 oM K).2;have z:=Ints.ext (f 0 oM) a;have E:=Ints.ext (f 1 oM) a;simp(disch:=exact oS) only[e w2 a,B,C,T,U,z.iaddr,z.load,E.iaddr,E.load,push_cast,K3];have A:=S.grow a;refine sand7_spec hn (y.ext a λ_ h _=>h) A.dl ((get 0 oM).get oM) ((get 1 oM).get oM) λY G x r d p u l=>?_;simp only[push_cast,K3];refine A.put d p λR W a7 v=>?_
  try simp only[push_cast,K3,gm]
  obtain⟨c4,k,s⟩:=W.call;simp only[s R (Same.refl _ _)];refine spec_one λw5 rv o O N=>?_;refine W.res o (k.ext o λ_ h _=>h) (j8 O N) λw6 e6 I Q=>m w6 c4 x rv [r] e6 I Q (SnL.one u) (xF l (M.Bd.Out.ret _ _))
 rw[Q1 Z] at m
 try simp only[push_cast]
 refine zb (λc=>?_) (λa0=>?_)
 .rw[V0 c] at m;obtain⟨q,j⟩:=q7 oM;rw[Q1 F] at q;have H:=j 0 oM;have a3:=j 1 oM;refine zd λw2 a _=>?_;have B:∀K:oK,y2 zn kv (nI 0) w2 K=K (oE (eaddr kv 1 0)) w2:=λK=>(g w2 a 0 oM K).1;have C:∀K:oK,zu ze (oE (eaddr kv 1 0)) w2 K=K (vs.getD 0 undef) w2:=λK=>(g w2 a 0 oM K).2;have T:∀K:oK,y2 zn kv (nI 1) w2 K=K (oE (eaddr kv 1 1)) w2:=λK=>(g w2 a 1 oM K).1;have U:∀K:oK,zu ze (oE (eaddr kv 1 1)) w2 K=K (vs.getD 1 undef) w2:=λK=>(g w2 a 1 oM K).2;have z:=Ints.ext (f 0 oM) a;have E:=Ints.ext (f 1 oM) a;simp(disch:=exact oS) only[e w2 a,B,C,T,U,z.iaddr,z.load,E.iaddr,E.load,push_cast,K3];have A:=S.grow a;refine sor7_spec hn (y.ext a λ_ h _=>h) A.dl ((get 0 oM).get oM) ((get 1 oM).get oM) λY G x r d p u l=>?_;simp only[push_cast,K3];refine A.put d p λR W a7 v=>?_
  try simp only[push_cast,K3,gm]
  obtain⟨c4,k,s⟩:=W.call;simp only[s R (Same.refl _ _)];refine spec_one λw5 rv o O N=>?_;refine W.res o (k.ext o λ_ h _=>h) (j8 O N) λw6 e6 I Q=>m w6 c4 x rv [r] e6 I Q (SnL.one u) (M.Bd.Out.map _ l)
 have V:t.op=23:=oM
 rw[Q1 a0,V0 V] at m;obtain⟨k1,l0,l1,l2,l3⟩:=q6 V;refine zd λw2 a _=>?_;have B:∀K:oK,y2 zn kv (nI 0) w2 K=K (oE (eaddr kv 1 0)) w2:=λK=>(g w2 a 0 oM K).1;have C:∀K:oK,zu ze (oE (eaddr kv 1 0)) w2 K=K (vs.getD 0 undef) w2:=λK=>(g w2 a 0 oM K).2;have T:∀K:oK,y2 zn kv (nI 1) w2 K=K (oE (eaddr kv 1 1)) w2:=λK=>(g w2 a 1 oM K).1;have U:∀K:oK,zu ze (oE (eaddr kv 1 1)) w2 K=K (vs.getD 1 undef) w2:=λK=>(g w2 a 1 oM K).2;have A2:∀K:oK,y2 zn kv (nI 2) w2 K=K (oE (eaddr kv 1 2)) w2:=λK=>(g w2 a 2 oM K).1;have B2:∀K:oK,zu ze (oE (eaddr kv 1 2)) w2 K=K (vs.getD 2 undef) w2:=λK=>(g w2 a 2 oM K).2;have z:=Ints.ext (f 0 oM) a;have E:=Ints.ext (f 1 oM) a;have V2:=Ints.ext (f 2 oM) a;simp(disch:=exact oS) only[e w2 a,B,C,T,U,A2,B2,z.iaddr,z.load,push_cast,K3];have A:=S.grow a;refine sifs7_spec hn (y.ext a λ_ h _=>h) A.dl E V2 oM oM (get 1 oM) (get 2 oM) ((get 0 oM).get oM) λY G x r zs d p u X a8 l=>?_;simp only[push_cast,K3];exact A.res d p (j8 u X) λR e4 k v=>m R G x r zs e4 k v a8 l
end
section
variable {w:World} {K:oK} {D F Y S O:oA} {n b4 b8:Nat} {v v' xv dv tv kv:Value} {cs cs':List Value} {st st':Option M.Gs} {a b c m x y r:Int} {xs:oI} {ds:List M.Dcl} {t:M.Tm} {rs:List (oI)}
theorem cutEq {lo hi:Nat} {kl kh:IntKind} (h:Ints F w v xs) (k:lo<=hi) (j:hi<=xs.length):∃v',(∀(w':World) (K:oK),xt ze v (some (.int kl lo)) (some (.int kh hi)) none w' K=K v' w')/\Ints F w v' ((xs.drop lo).take (hi-lo)):=by
 have d:elB ze 1=true:=Qv;obtain⟨hu,hs⟩:=Xh d;have hlen:((xs.drop lo).take (hi-lo)).length=hi-lo:=by rw[gi,pB];omega
 obtain⟨a,c,rfl,g,i,b⟩:=h.shape;rw[gd,gd] at g;refine⟨sliced a lo hi c 1,λw' K=>y6 ?_,?_⟩
 .rw[gd,gd,run_sliceAt_slice w' ze _ _ _ _ hu,run_slice_lh w' ze _ _ _ hu kl kh lo hi oM oM oM,Go.Vc.run_sizeOf hs];simp[Result.andThen]
 .have key:=Ints.cutLH (t:=ze) (kl:=kl) (kh:=kh) (w':=w) (K:=λv' w'=>v'=sliced a lo hi c 1->Ints F w v' ((xs.drop lo).take (hi-lo))) h d k j λv' f _=>f;rw[gd,gd] at key;have e:xt ze (.slice a xs.length c) (some (.int kl lo)) (some (.int kh hi)) none w (λv' w'=>v'=sliced a lo hi c 1->Ints F w v' ((xs.drop lo).take (hi-lo)))=(sliced a lo hi c 1=sliced a lo hi c 1->Ints F w (sliced a lo hi c 1) ((xs.drop lo).take (hi-lo))):=y6 (by
   rw[run_sliceAt_slice w ze _ _ _ _ hu,run_slice_lh w ze _ _ _ hu kl kh lo hi oM oM oM,Go.Vc.run_sizeOf hs];simp[Result.andThen];rfl)
  rw[e] at key;exact key rfl
theorem j80 (ps:List (M.Bd (oI))) (p:M.Bd (oI)):M.seqB (ps++[p])=(M.seqB ps).bind λrs=>p.map λr=>rs++[r]:=by
 induction ps with
 |nil=>rfl
 |cons q ps a=>
  show(q.bind λr=>(M.seqB (ps++[p])).map (r:: ·))=((q.bind λr=>(M.seqB ps).map (r:: ·)).bind λrs=>p.map λr=>rs++[r]);rw[M.Bd.bind_assoc];congr 1
  funext r
  rw[a];unfold M.Bd.map;rw[M.Bd.bind_assoc,M.Bd.bind_assoc];congr 1
  funext rs
  rw[M.Bd.bind_assoc];rfl
theorem xD0 {ps:List (M.Bd (oI))} {p:M.Bd (oI)} {st a st2:Option M.Gs} {rs:List (oI)} {r:oI} (h:M.Bd.Out n (M.seqB ps) st a rs) (b:M.Bd.Out n p a st2 r):M.Bd.Out n (M.seqB (ps++[p])) st st2 (rs++[r]):=by
 rw[j80];exact M.Bd.Out.bind h (M.Bd.Out.map _ b)
theorem ks_few (hs:M.sortM ds t≠ -1):t.ks.length<=3:=by
 obtain⟨a,c,b⟩:=M.right_op hs;have h:M.arity t.op<=3:=by
  unfold M.arity;repeat' split
  all_goals omega
 omega
theorem sdo8_spec (ac:M.declOk ds=true) (hn:n<=8):∀(t:M.Tm),M.sortM ds t≠ -1->∀{w:World} {K:oK} {D:oA} {cs:List Value} {st:Option M.Gs} {tv:Value} {Fd Ft:oA},MkR n D w cs st->(∀b,D b->b<w.heap.size)->DclsR Fd w dv ds->TermR Ft w tv t->
  (∀w' cs' st' r zs,Ext w w'->MkR n D w' cs' st'->Ints (New w) w' r zs->SnL st' zs->M.Bd.Out n (M.termB ds t) st st' zs->K (.tuple #[.agg ⟨cs'⟩,r]) w')->
  vcall x90 #[.agg ⟨cs⟩,dv,tv] w K:=by
 refine M.Tm.ind λt ih hs w K D cs st tv Fd Ft hk hD ay ht hK=>?_;obtain⟨kw,rfl,bz⟩:=ht;refine zf {loops:=[(3,[8,9])]} Tryz.func76 ?_;have ci:=ks_few hs;refine Fm.start2 hk hD λb4 b5 b8 w1 h1 aw c8=>?_;refine y7 kg qe λb6 w2 cq az cx bp=>?_;have c9:OwnV zn w2 (.slice (some ⟨b6,0,none⟩) 0 0) []:=Blk.own1 (t:=zn) (cs:=[]) (by rw[K6];exact bp) (gW _) rfl rfl oM;have h2:Fm n D (O1 (.slice (some ⟨b6,0,none⟩) 0 0)) w b4 b8 w2 st:=h1.own (S:=λ_=>False) az (λb l=>l) λb l=>by
  have e:b6=b:=gg l;exact⟨oM,.inr oM⟩
 have ct:=aw.lt;have bs:TmsR (Low w) w kw t.ks:=bz.weaken λb _ hl=>hl;refine vloop_up t.ks.length (λi u w'=> ∃kv E vs rs,u=[kv,nI i]/\Fm n D (O1 kv) w b4 b8 w' E/\Blk w' b5 [nI t.op,nI t.a,nI t.b,.string t.s,kw] za/\(∀b,kv.ownBlock=some b->b≠b5)/\OwnV zn w' kv vs/\vs.length=i/\rs.length=i/\
  (∀j,j<i->Ints (Kp b4 b8 (O1 kv)) w' (vs.getD j undef) (rs.getD j []))/\(∀r,r∈rs->SnL E r)/\M.Bd.Out n (M.seqB ((t.ks.take i).map (M.termB ds))) st E rs)
  ⟨_,st,[],[],rfl,h2,aw.ext az,λb l=>by have e:b6=b:=gg l;omega,c9,rfl,rfl,λj hj=>absurd hj oM,(λr hr=>by cases hr),M.Bd.Out.ret _ _⟩ ?_
 rintro i _ g w3 C hi ⟨kv,E,vs,rs,rfl,T,m,bb,ao,av,be,hint,au,ae⟩ hC;have al:TmsR (Low w) w3 kw t.ks:=bs.ext T.ext;simp(disch:=exact oS) only[push_cast,m.ld4,al.len];refine zb (λa=>?_) (λa=>?_)
 .have N:i<t.ks.length:=oM;refine spec_nil λvz f bj e4 cj=>?_;refine zd λR p _=>?_;have y:=e4.trans p;have h5:=T.grow y;have V:=m.ext y;have ax:=al.ext y;obtain⟨c5,z,b3⟩:=h5.call;simp(disch:=exact oS) only[push_cast,V.ld4,ax.iaddr,b3 R (Same.refl _ _),K3];refine ax.load zc N λx hx=>?_;simp only[push_cast,K3];have I:t.ks.getD i default∈t.ks:=M.getD_mem N _;refine ih _ I ((M.sort_parts hs).2.1 _ I) z h5.dl (ay.ext h5.ext) hx λw6 cn bl r zs a9 A F bi ab=>?_;simp only[push_cast,K3];refine h5.put a9 A λw7 h7 ad bk=>?_
  try simp only[push_cast,K3,gm]
  have l5:=h5.lt4;have ar:Ints (Kp b4 b8 (O1 kv)) w7 r zs:=Ints.same (Ints.weaken (F':=Kp b4 b8 (O1 kv)) F λb l _=>by
   have cp:R.heap.size<=b:=l;exact⟨oM,oM,λhO=>by have:=(h5.off b hO).1;omega⟩) ad λb l _ e=>l.1 e
  have ap:OwnV zn w7 kv vs:=((ao.ext y).ext a9).same ad λb l=>(T.off b l).2.2.1;have bq:=(V.ext a9).same ad (λe=>c8.2.1 e);have am:∀j,j<i->Ints (Kp b4 b8 (O1 kv)) w7 (vs.getD j undef) (rs.getD j []):=λj hj=>Ints.kp4 (Ints.ext (Ints.ext (hint j hj) y) a9) ad;refine zC kg qe ZS rfl (Sl.cells1 ar) λb9 w9 cr aa cy br=>?_;refine(ap.ext aa).app1 jB br (Sl.one ar) oM oM λv10 w10 ai a0 Y=>?_
  try simp(disch:=omega) only[push_cast,zi]
  have bo:Fm n D (O1 v10) w b4 b8 w10 bl:=(h7.grow aa).own a0 (λb l=>l) λb l=>⟨ai.lt l,Y b l⟩;have b2:∀{xv:Value} {xs:oI},Ints (Kp b4 b8 (O1 kv)) w7 xv xs->Ints (Kp b4 b8 (O1 v10)) w10 xv xs:=λh=>Ints.kpO (Ints.ext h aa) a0 (λb l=>l) λb l=>Y b l;have ag:=bq.ext aa;have cu:=ag.lt;refine hC N _ _ ⟨v10,bl,vs++[r],rs++[zs],by simp,bo,ag.same a0 (λe=>bb _ e rfl),λb l=>(Y b l).elim (bb b) λh=>oM,ai,by simp[av],by simp[be],λj hj=>?_,λq hq=>?_,?_⟩
  .by_cases c:j<i
   .rw[K2 oM,K2 oM];exact b2 (am j c)
   .have:j=i:=oM;subst this;rw[K4 av,K4 be];exact b2 ar
  .rcases gq.1 hq with h|h
   .exact(au q h).out ab
   .rw[gD.1 h];exact bi
  .rw[M.take_add N default,gG];exact xD0 ae ab
 have N:i=t.ks.length:=oM
 subst N;rw[gF] at ae;obtain⟨bf,cc⟩:=M.seq_reach ae.reach;have hlen:∀j,j<t.ks.length->(rs.getD j []).length=M.lenS (M.sortM ds (M.kid t j)):=λj hj=>by
  have I:t.ks.getD j default∈t.ks:=M.getD_mem hj _;have:=M.term_len ac _ ((M.sort_parts hs).2.1 _ I) (cc j hj);rw[this];rfl
 have W:KidsS w3 kv rs:=⟨vs,_,ao.vals,oM,λj hj=>Ints.weaken (hint j oM) λ_ _ _=>trivial⟩;have fin:∀{af:Option M.Gs} {zs:oI},M.Bd.Out n (M.nodeB ds t rs) E af zs->M.Bd.Out n (M.termB ds t) st af zs:=λh=>by
  rw[M.termB_eq];exact M.Bd.Out.bind ae h
 have a6:∀w',Ext w3 w'->TermR (Low w) w' (.agg ⟨[nI t.op,nI t.a,nI t.b,.string t.s,kw]⟩) t:=λw' he=>⟨kw,rfl,al.ext he⟩;obtain⟨c3,O,k⟩:=T.call;have X:∀(w':World) (K:oK),vbi .len [zn] zE [kv] w' K=K (nI t.ks.length) w':=λw' K=>by rw[ao.vals.len ZY0,av]
 rw[X];refine oZ ?_;obtain⟨co,hp,cw⟩:=M.right_op hs;obtain⟨q1,q2,q3,q4,q5,q6,q7⟩:=M.node_right ac hs (L:=λi=>(rs.getD i []).length) hlen;have get:∀i,i<rs.length->SnL E (rs.getD i []):=λi hi=>au _ (M.getD_mem hi []);refine zb (λc0=>?_) (λc0=>?_)
 .have h0:t.ks.length=0:=oM;refine zd λf d _=>?_;have o:=m.ext d;simp(disch:=exact oS) only[push_cast,k f d,o.ldAgg (t:=za) zc,K3];refine sleaf8_spec (n:=n) (st:=E) ac hs h0 (ay.ext (T.ext.trans d)) (a6 f d) λR r zs p B J G aq=>?_;simp only[k R (d.trans p),K3,gm];have z4:=d.size;refine T.res (d.trans p) (O.ext (d.trans p) λ_ h _=>h) (j8 B λb l=>by have:=J b l;omega) λw6 e6 A F=>hK w6 c3 E r zs e6 A F G (fin ?_);have:rs=[]:=Pr.1 oM;rw[this];exact aq
 have bc: ¬(t.op=20\/t.op=21\/t.op=24):=λh=>by
  have:M.arity t.op=0:=by rcases h with h|h|h<;>rw[h]<;>decide
  omega
 obtain⟨H,U,Q⟩:=W.vals;simp(disch:=exact oS) only[push_cast,m.ld0];refine zb (λc=>?_) (λcm=>?_)
 .obtain⟨k1,b0,ba,aL,L4⟩:=q5 c;have cl:t.a<((rs.getD 0 []).length:Int):=aL;have ck:(rs.getD 0 []).length<=4:=L4;refine zd λf d _=>?_;have o:=m.ext d;have A0:∀w',Ext w3 w'->∀K:oK,y2 zn kv (nI 0) w' K=K (oE (eaddr kv 1 0)) w':=λw' he K=>(U w' he 0 oM K).1;have B0:∀w',Ext w3 w'->∀K:oK,zu ze (oE (eaddr kv 1 0)) w' K=K (H.getD 0 undef) w':=λw' he K=>(U w' he 0 oM K).2;obtain⟨cv,bu,bt⟩:=cutEq (kl:= .i64) (kh:= .i64) (lo:=t.b.toNat) (hi:=(t.a+1).toNat) (Q 0 oM) oM oM;have ah:∀(w':World) (K:oK),xt ze (H.getD 0 undef) (some (nI t.b)) (some (nI (t.a+1))) none w' K=K cv w':=λw' K=>by
   have:=bu w' K;rwa[show((t.b.toNat:Nat):Int)=t.b by omega,show(((t.a+1).toNat:Nat):Int)=t.a+1 by omega] at this
  simp(disch:=exact oS) only[push_cast,k f d,A0 f d,B0 f d,o.ld1,o.ld2,zi,ah,K3];refine spec_nil λv5 R B e5 J=>?_;have y:=d.trans e5;have V:=o.ext e5;simp(disch:=exact oS) only[push_cast,k R y,A0 R y,B0 R y,V.ld1,V.ld2,zi,ah,K3,gm];refine B.app xx (Ints.ext bt y) (by simp;omega) (by simp;omega) λv6 w6 ab bg c4=>?_;have z4:=d.size;have z5:=e5.size;have ak:Ext f w6:=Ext.then e5 bg λb l=>J b l;simp(disch:=exact oS) only[push_cast,k w6 (d.trans ak),K3,gm];refine T.res (d.trans ak) (O.ext (d.trans ak) λ_ h _=>h) (j8 ab λb l=>(c4 b l).elim (λh=>by have:=J b h;omega) λh=>oM) λw7 e7 bw bk=>hK w7 c3 E v6 _ e7 bw bk (λx hx=>?_) (fin ?_)
  .rw[Gr] at hx;exact get 0 oM x (GX (gV hx))
  .rw[Gr];unfold M.nodeB;rw[Q1 oM,Q1 oM,Q1 oM,Q1 oM,Q1 oM,Q1 oM,Q1 oM,V0 c,show(t.a-t.b+1).toNat=(t.a+1).toNat-t.b.toNat by omega];exact M.Bd.Out.ret _ _
 try simp(disch:=exact oS) only[push_cast,m.ld0]
 refine zb (λc=>?_) (λcg=>?_)
 .simp(disch:=exact oS) only[push_cast,k w3 (Same.refl _ _),m.ldAgg (t:=za) zc];refine slogic8_spec ac hs oM (λh=>bc (.inr (.inr h))) hn O T.dl (a6 w3 (Same.refl _ _)) W bf hlen au λf bn af r zs d bv bj bh ca=>?_;refine oZ ?_;exact T.res d bv bj λR e5 z G=>hK R bn af r zs e5 z G bh (fin ca)
 have an:M.nodeB ds t rs=if t.op<=2 then M.unB t.op (rs.getD 0 []) else if 15<=t.op/\t.op<=17 then(M.cmpB t.op (rs.getD 0 []) (rs.getD 1 [])).map λv=>[v] else M.binB t.op (rs.getD 0 []) (rs.getD 1 []):=by
  unfold M.nodeB;rw[Q1 oM,Q1 oM,Q1 oM,Q1 oM,Q1 oM,Q1 oM,Q1 oM,Q1 oM]
 rw[an] at fin;rw[X];refine oZ ?_;refine zb (λc1=>?_) (λc1=>?_)
 .have Z:t.op<=2:=Gw λh=>by
   by_cases aj:15<=t.op
   .have:=(q4 aj oM).1;omega
   .by_cases bm:t.op=14
    .have:=(q3 bm).1;omega
    .have:=(q2 oM oM).1;omega
  rw[V0 Z] at fin;obtain⟨k1,l1,l4⟩:=q1 oM Z;have ch:(rs.getD 0 []).length<=4:=l4;refine zd λf d _=>?_;have o:=m.ext d;have A0:∀K:oK,y2 zn kv (nI 0) f K=K (oE (eaddr kv 1 0)) f:=λK=>(U f d 0 oM K).1;have B0:∀K:oK,zu ze (oE (eaddr kv 1 0)) f K=K (H.getD 0 undef) f:=λK=>(U f d 0 oM K).2;simp(disch:=exact oS) only[push_cast,k f d,A0,B0,o.ld0,K3];have h4:=T.grow d;refine sun7_spec oM hn (O.ext d λ_ h _=>h) h4.dl (Ints.ext (Q 0 oM) d) oM (get 0 oM) λR a8 a7 r zs p z G a5 B=>?_;simp only[push_cast,K3];exact h4.res p z G λw6 e6 A F=>hK w6 a8 a7 r zs e6 A F a5 (fin B)
 have bd:3<=t.op:=Gw λh=>by have:=(q1 oM oM).1;omega
 rw[Q1 oM] at fin
 try simp(disch:=exact oS) only[push_cast,m.ld0]
 refine zb (λaj=>?_) (λaj=>?_)
 .rw[V0 oM] at fin;obtain⟨k1,l0,l1,l4⟩:=q4 oM oM;have ce:(rs.getD 0 []).length=(rs.getD 1 []).length:=l0;have cf:1<=(rs.getD 0 []).length:=l1;have ch:(rs.getD 0 []).length<=4:=l4;refine zd λf d _=>?_;have o:=m.ext d;have A0:∀K:oK,y2 zn kv (nI 0) f K=K (oE (eaddr kv 1 0)) f:=λK=>(U f d 0 oM K).1;have B0:∀K:oK,zu ze (oE (eaddr kv 1 0)) f K=K (H.getD 0 undef) f:=λK=>(U f d 0 oM K).2;have A1:∀K:oK,y2 zn kv (nI 1) f K=K (oE (eaddr kv 1 1)) f:=λK=>(U f d 1 oM K).1;have B1:∀K:oK,zu ze (oE (eaddr kv 1 1)) f K=K (H.getD 1 undef) f:=λK=>(U f d 1 oM K).2;simp(disch:=exact oS) only[push_cast,k f d,A0,B0,A1,B1,o.ld0,K3];have h4:=T.grow d;refine scmp7_spec oM oM hn (O.ext d λ_ h _=>h) h4.dl (Ints.ext (Q 0 oM) d) (Ints.ext (Q 1 oM) d) ce cf oM (get 0 oM) (get 1 oM) λR a8 a7 r p z cb B=>?_;simp only[push_cast,K3];refine h4.put p z λw6 h6 bg F=>?_
  try simp only[push_cast,K3,gm]
  obtain⟨c6,A,b7⟩:=h6.call;simp only[b7 w6 (Same.refl _ _)];refine spec_one λw7 rv b1 ap c7=>?_;exact h6.res b1 (A.ext b1 λ_ h _=>h) (j8 ap c7) λw8 e8 bx cd=>hK w8 c6 a7 rv [r] e8 bx cd (SnL.one cb) (fin (M.Bd.Out.map _ B))
 rw[Q1 oM] at fin;have c2:t.ks.length=2/\(t.op≠14->(rs.getD 0 []).length=(rs.getD 1 []).length)/\1<=(rs.getD 0 []).length/\(rs.getD 0 []).length<=8/\(rs.getD 1 []).length<=8:=by
  by_cases c:t.op=14
  .obtain⟨a1,a2,a3,a4⟩:=q3 c;exact⟨a1,λh=>absurd c h,a2,oM,oM⟩
  .obtain⟨a1,a2,a3,a4⟩:=q2 oM oM;exact⟨a1,λ_=>a2,a3,oM,oM⟩
 obtain⟨k1,l0,l1,l2,l3⟩:=c2;refine zd λf d _=>?_;have o:=m.ext d;have A0:∀K:oK,y2 zn kv (nI 0) f K=K (oE (eaddr kv 1 0)) f:=λK=>(U f d 0 oM K).1;have B0:∀K:oK,zu ze (oE (eaddr kv 1 0)) f K=K (H.getD 0 undef) f:=λK=>(U f d 0 oM K).2;have A1:∀K:oK,y2 zn kv (nI 1) f K=K (oE (eaddr kv 1 1)) f:=λK=>(U f d 1 oM K).1;have B1:∀K:oK,zu ze (oE (eaddr kv 1 1)) f K=K (H.getD 1 undef) f:=λK=>(U f d 1 oM K).2;simp(disch:=exact oS) only[push_cast,k f d,A0,B0,A1,B1,o.ld0,K3];have h4:=T.grow d;refine sbin7_spec bd oM hn (O.ext d λ_ h _=>h) h4.dl (Ints.ext (Q 0 oM) d) (Ints.ext (Q 1 oM) d) l0 l1 l2 l3 (get 0 oM) (get 1 oM) λR a8 a7 r zs p z G a5 B=>?_;simp only[push_cast,K3];exact h4.res p z G λw6 e6 A F=>hK w6 a8 a7 r zs e6 A F a5 (fin B)
end
section
variable {n:Nat} {st st':Option M.Gs} {a b c:Int} {ds:List M.Dcl} {t:M.Tm}
theorem bits_nat (a:M.declOk ds=true):M.bits ds=(((M.bits ds).toNat:Nat):Int)/\(M.bits ds).toNat<=8:=by
 have c:=(M.decl_iff.1 a).2.2;have b:=(dcl_small a (i:=ds.length) (gz _)).1;rw[M.bitT_all] at b;exact⟨oM,oM⟩
theorem out_lens {zs:oI} (b:M.declOk ds=true) (hs:M.sortM ds t≠ -1) (c:M.Bd.Out n (M.termB ds t) st st' zs):zs.length=M.lenS (M.sortM ds t)/\zs.length<=4:=by
 have a:=M.term_len b t hs c.reach;have d:=M.sort_range b t;refine⟨a,?_⟩;rw[a];unfold M.lenS;omega
end
end Go.Proofs.YtfnpmncplaibiaaGreatDoor
namespace Go.M
open Go.Vc
section
mutual
def sameT:Tm->Tm->Bool
 | .mk o a b s ks,.mk o' a' b' s' ks'=>decide (o=o')&&decide (a=a')&&decide (b=b')&&decide (s=s')&&sameL ks ks'
def sameL:List Tm->List Tm->Bool
 |[],[]=>true
 |x::xs,y::ys=>sameT x y&&sameL xs ys
 |[],_::_=>false
 |_::_,[]=>false
end
theorem sameL_of {xs:List Tm} (a:∀k,k∈xs->∀y,sameT k y=true↔k=y):∀ys,sameL xs ys=true↔xs=ys:=by
 induction xs with
 |nil=>intro ys;cases ys<;>simp[sameL]
 |cons x xs ihx=>
  intro ys;cases ys with
  |nil=>simp[sameL]
  |cons y ys=>
   grind [sameL]
theorem sameT_iff:∀t u:Tm,sameT t u=true↔t=u:=by
 refine Tm.ind λt c u=>?_;cases t with
 |mk o a b s ks=>
  cases u with
  |mk o' e f g d=>
   rw[sameT,gl,sameL_of (xs:=ks) c]
   grind
instance:DecidableEq Tm:=λt u=>decidable_of_iff _ (sameT_iff t u)
theorem tm_ext {t u:Tm} (c:t.op=u.op) (d:t.a=u.a) (e:t.b=u.b) (f:t.s=u.s) (g:t.ks=u.ks):t=u:=by
 cases t;cases u
 grind [Tm.op,Tm.a,Tm.b,Tm.s,Tm.ks]
def truT:Tm:= .mk 24 0 0 nada []
def flsT:Tm:= .mk 25 0 0 nada [truT]
def fixedM (t:Tm):Option Int:=if t=truT then some 1 else if t=flsT then some 0 else if t.op=20/\t.ks=[]/\t.s=nada/\vok t.a t.b=true then some t.b else none
def isM (t:Tm) (n:Int):Bool:=decide (fixedM t=some n)
def constM (w n:Int):Tm:=if 0<w then .mk 20 w n nada [] else if n=1 then truT else flsT
def zeroE (ds:List Dcl):oI:=List.replicate ds.length 0
theorem zeroE_ok {ds:List Dcl} (h:declOk ds=true):envOk ds (zeroE ds)=true:=by
 unfold envOk zeroE;rw[h,gP];simp only[decide_true,pz,Ga,gN];intro i hi;have hw:=dcl_wide h hi;simp_all[vok_iff,Int.pow_pos]
section
variable {ds:List Dcl} {env:oI} {t u:Tm} {w n:Int}
theorem WO:sortM ds truT=0:=by rw[sort_leaf (formed_iff.2 ⟨rfl,rfl⟩) rfl];rfl
theorem xw0:evalM ds env truT=1:=by rw[eval_leaf (.inr (.inr rfl))];rfl
theorem UW (a:declOk ds=true):sortM ds flsT=0:=by
 rw[sort_one a (formed_iff.2 ⟨rfl,rfl⟩) rfl];show oneM _ (sortM ds truT)=0;rw[WO];rfl
theorem Z40 (he:envOk ds env=true):evalM ds env flsT=0:=by
 rw[(eval_no he (by rw[UW (env_ok he).1];decide) rfl).2.2];show(1:Int)-evalM ds env truT=0;rw[xw0];rfl
theorem vec_sort {t:Tm} (c:t.op=20) (d:t.ks=[]) (e:t.s=nada) (g:vok t.a t.b=true):sortM ds t=t.a:=by
 have f:plainM t=true:=by simp[plainM,c,e]
 rw[sort_leaf (formed_iff.2 ⟨by rw[c,d];rfl,f⟩) (by grind)];simp_all[sortK]
theorem fixed_cases (h:fixedM t=some n):(t=truT/\n=1)\/(t=flsT/\n=0)\/(t.op=20/\t.ks=[]/\t.s=nada/\vok t.a t.b=true/\n=t.b):=by
 grind [fixedM]
theorem fixed_good (he:envOk ds env=true) (h:fixedM t=some n):sortM ds t≠ -1/\evalM ds env t=n/\inS (sortM ds t) n:=by
 rcases fixed_cases h with⟨rfl,rfl⟩|⟨rfl,rfl⟩|⟨a,c,d,b,rfl⟩
 .rw[WO,xw0];exact⟨dC,rfl,.inl ⟨rfl,.inr rfl⟩⟩
 .rw[UW (env_ok he).1,Z40 he];exact⟨dC,rfl,.inl ⟨rfl,.inl rfl⟩⟩
 .rw[vec_sort a c d b,eval_leaf (.inl a),V0 a];have:=vok_lt b;exact⟨oM,rfl,.inr b⟩
theorem isM_iff:isM t n=true↔fixedM t=some n:=by unfold isM;grind
theorem const_fixed (h:inS w n):fixedM (constM w n)=some n:=by
 unfold constM;rcases h with⟨c,b⟩|h
 .rw[Q1 oM];rcases b with e|e
  .rw[e,Q1 dC];rfl
  .rw[e,V0 rfl];rfl
 .have hw:=vok_lt h;rw[V0 oM];have a: ¬Tm.mk 20 w n nada []=truT:=λe=>by
   have e:(20:Int)=24:=congrArg Tm.op e;omega
  have a2: ¬Tm.mk 20 w n nada []=flsT:=λe=>by
   have e:(20:Int)=25:=congrArg Tm.op e;omega
  unfold fixedM;rw[Q1 a,Q1 a2];exact V0 ⟨rfl,rfl,rfl,h⟩
theorem const_sort (c:declOk ds=true) (h:inS w n):sortM ds (constM w n)=w:=by
 unfold constM;rcases h with⟨a,b⟩|h
 .rw[Q1 oM]
  grind [WO,UW]
 .have hw:=vok_lt h;rw[V0 oM];exact vec_sort rfl rfl rfl h
theorem Zj (he:envOk ds env=true) (h:inS w n):evalM ds env (constM w n)=n:=(fixed_good he (const_fixed h)).2.1
def allFixed (t:Tm):Bool:=decide (t.ks≠[])&&t.ks.all λk=>(fixedM k).isSome
def ruleX (ds:List Dcl) (t:Tm):Option Tm:=if allFixed t=true then some (constM (sortM ds t) (evalM ds (zeroE ds) t)) else none
def ruleB (t:Tm):Option Tm:=
 if t.op=25/\(kid t 0).op=25 then some (kid (kid t 0) 0)
 else if t.op≠23 then none
 else if isM (kid t 0) 1=true then some (kid t 1)
 else if isM (kid t 0) 0=true then some (kid t 2)
 else if kid t 1=kid t 2 then some (kid t 1) else none
def neutral (o:Int):Int:=if o=26 then 1 else 0
def ruleT (t:Tm):Option Tm:=
 if t.op=26\/t.op=27 then
  if isM (kid t 0) (neutral t.op)=true\/kid t 0=kid t 1 then some (kid t 1)
  else if isM (kid t 1) (neutral t.op)=true then some (kid t 0)
  else if isM (kid t 0) (1-neutral t.op)=true\/isM (kid t 1) (1-neutral t.op)=true then some (constM 0 (1-neutral t.op)) else none
 else none
def ruleL (ds:List Dcl) (t:Tm):Option Tm:=
 if t.op=22 then(if t.b=0/\t.a=sortM ds (kid t 0)-1 then some (kid t 0) else none)
 else if(t.op=1\/t.op=2)/\(kid t 0).op=t.op then some (kid (kid t 0) 0) else none
def ruleW (ds:List Dcl) (t:Tm):Option Tm:=
 if t.ks.length=2/\kid t 0=kid t 1 then
  if t.op=3\/t.op=4 then some (kid t 0)
  else if t.op=5\/t.op=7 then some (constM (sortM ds t) 0)
  else if t.op=15 then some (constM 0 1)
  else if t.op=16\/t.op=17 then some (constM 0 0) else none
 else none
def ruleS (t:Tm):Option Tm:=
 if t.ks.length=2 then
  if isM (kid t 1) 0=true/\(t.op=4\/t.op=5\/t.op=6\/t.op=7\/t.op=11\/t.op=12\/t.op=13) then some (kid t 0)
  else if isM (kid t 1) 0=true/\(t.op=3\/t.op=8) then some (kid t 1)
  else if isM (kid t 1) 1=true/\t.op=8 then some (kid t 0) else none
 else none
def ruleF (t:Tm):Option Tm:=
 if t.ks.length=2 then
  if isM (kid t 0) 0=true/\(t.op=4\/t.op=5\/t.op=6) then some (kid t 1)
  else if isM (kid t 0) 0=true/\(t.op=3\/t.op=8) then some (kid t 0)
  else if isM (kid t 0) 1=true/\t.op=8 then some (kid t 1) else none
 else none
def ruleA (ds:List Dcl) (t:Tm):Option Tm:=ruleX ds t <|> ruleB t <|> ruleT t <|> ruleL ds t <|> ruleW ds t <|> ruleS t <|> ruleF t
def oneT (ds:List Dcl) (t:Tm):Tm:=(ruleA ds t).getD t
def foldT (ds:List Dcl):Tm->Tm:=Tm.fold λt us=>oneT ds (.mk t.op t.a t.b t.s us)
theorem Z20 (ds:List Dcl) (t:Tm):foldT ds t=oneT ds (.mk t.op t.a t.b t.s (t.ks.map (foldT ds))):=Tm.fold_eq _ t
inductive Src (t:Tm):Tm->Prop
 |kid (i:Nat) (h:i<t.ks.length):Src t (kid t i)
 |deep (i j:Nat) (h:i<t.ks.length) (h':j<(M.kid t i).ks.length):Src t (M.kid (M.kid t i) j)
 |const (w n:Int) (h:t.ks≠[]) (h':inS w n):Src t (constM w n)
structure Step (ds:List Dcl) (t u:Tm):Prop where
 src:Src t u
 sort:sortM ds u=sortM ds t
 eval:∀env,envOk ds env=true->evalM ds env u=evalM ds env t
theorem QJ {α:Type} {a b:Option α} {x:α} (h:(a <|> b)=some x):a=some x\/(a=none/\b=some x):=by
 simp_all
theorem ks_ne {i:Nat} (h:i<t.ks.length):t.ks≠[]:=by grind
theorem len_of (hs:sortM ds t≠ -1):arity t.op=t.ks.length:=(formed_iff.1 (sort_parts hs).1).1
theorem allFixed_eval (he:envOk ds env=true) (hs:sortM ds t≠ -1) (h:allFixed t=true):evalM ds (zeroE ds) t=evalM ds env t:=by
 have d:=zeroE_ok (env_ok he).1;unfold allFixed at h;simp only[gl,gh,Ga] at h;have a:t.ks.map (vecM ds (zeroE ds))=t.ks.map (vecM ds env):=Gz λk a=>by
  obtain⟨n,c⟩:=ph.1 (h.2 k a);simp_all[vecM_pair,fixed_good]
 have b:t.op≠21:=by grind [len_of,arity,List.eq_nil_of_length_eq_zero]
 rw[evalM_eq,evalM_eq,a];unfold valK;omega
theorem ruleX_step (a:declOk ds=true) (hs:sortM ds t≠ -1) (h:ruleX ds t=some u):Step ds t u:=by
 unfold ruleX at h;split at h
 .rename_i b;obtain rfl:=(gg h).symm;have hi:=eval_in (zeroE_ok a) t hs;refine⟨.const _ _ (by grind [allFixed]) hi,const_sort a hi,λenv he=>?_⟩
  grind [Zj,allFixed_eval]
 .cases h
theorem ruleB_step (f:declOk ds=true) (hs:sortM ds t≠ -1) (h:ruleB t=some u):Step ds t u:=by
 have g:=(sort_parts hs).1;have k:=len_of hs;unfold ruleB at h;split at h
 .rename_i l;obtain rfl:=(gg h).symm;have b:t.ks.length=1:=(by grind [arity]);have k0:=good_kid hs (i:=0) oM;have c:(kid t 0).ks.length=1:=(by grind [len_of]);have m:=good_kid k0 (i:=0) oM;refine⟨.deep 0 0 oM oM,?_,λenv he=>?_⟩
  .have j:=sort_one f g b;have s1:=sort_one f (sort_parts k0).1 c
   grind [oneM]
  grind [eval_no]
 .split at h
  .cases h
  .rename_i a;have a:t.op=23:=oM;have d:t.ks.length=3:=(by grind [arity]);have j:=sort_three (ds:=ds) g d;have e:=hs;rw[j] at e;have gs:sortM ds (kid t 1)=sortM ds (kid t 2):=by
    omega
   have st:sortM ds t=sortM ds (kid t 1):=by
    omega
   split at h
   .rename_i hi;obtain rfl:=(gg h).symm;refine⟨.kid 1 oM,st.symm,λenv he=>?_⟩;simp_all[eval_if,fixed_good,isM_iff]
   .split at h
    .rename_i hi;obtain rfl:=(gg h).symm;refine⟨.kid 2 oM,by rw[st,gs],λenv he=>?_⟩;simp_all[eval_if,fixed_good,isM_iff]
    .split at h
     .rename_i hi;obtain rfl:=(gg h).symm;refine⟨.kid 1 oM,st.symm,λenv he=>?_⟩;simp_all[eval_if]
     .cases h
theorem ruleT_step (f:declOk ds=true) (hs:sortM ds t≠ -1) (h:ruleT t=some u):Step ds t u:=by
 have g:=(sort_parts hs).1;have m:=len_of hs;unfold ruleT at h;split at h
 .rename_i k;have c:t.ks.length=2:=(by grind [arity]);have l:=sort_two f g c;have b:=hs;rw[l] at b;obtain⟨g0,g1⟩:=(both_good b).1 k;have st:sortM ds t=0:=(by simp_all[bothM]);have j:neutral t.op=1/\t.op=26\/neutral t.op=0/\t.op=27:=by
   grind [neutral]
  have ev:∀env,envOk ds env=true->inS 0 (evalM ds env (kid t 0))/\inS 0 (evalM ds env (kid t 1))/\evalM ds env t=if t.op=26 then evalM ds env (kid t 0)*evalM ds env (kid t 1) else max (evalM ds env (kid t 0)) (evalM ds env (kid t 1)):=by grind [eval_two]
  split at h
  .rename_i hi;obtain rfl:=(gg h).symm;refine⟨.kid 1 oM,by rw[st,g1],λenv he=>?_⟩;obtain⟨i0,i1,e⟩:=ev env he;rw[e];rcases hi with hi|hi
   .have:=(fixed_good he (isM_iff.1 hi)).2.1
    grind [inS_zero]
   grind [inS_zero]
  .split at h
   .rename_i hi;obtain rfl:=(gg h).symm;refine⟨.kid 0 oM,by rw[st,g0],λenv he=>?_⟩;obtain⟨i0,i1,e⟩:=ev env he;rw[e,(fixed_good he (isM_iff.1 hi)).2.1]
    grind [inS_zero]
   .split at h
    .rename_i hi;obtain rfl:=(gg h).symm;have a:inS 0 (1-neutral t.op):=by
      rcases j with⟨d,_⟩|⟨d,_⟩<;>rw[d]
      .exact .inl ⟨rfl,.inl rfl⟩
      .exact .inl ⟨rfl,.inr rfl⟩
     refine⟨.const _ _ (ks_ne (i:=0) oM) a,by rw[st,const_sort f a],λenv he=>?_⟩;obtain⟨i0,i1,e⟩:=ev env he;rw[e,Zj he a];rcases hi with hi|hi<;>rw[(fixed_good he (isM_iff.1 hi)).2.1]
     .grind [inS_zero]
     grind [inS_zero]
    .cases h
 .cases h
theorem cut_all {w a:Int} (h:vok w a=true):cutM a (w-1) 0=a:=by
 obtain⟨b,c,d,e⟩:=vok_iff.1 h;unfold cutM
 grind [four]
theorem un_un {o w a:Int} (h:vok w a=true):unM o w (unM o w a)=a:=by
 obtain⟨b,c,d,e⟩:=vok_iff.1 h;unfold unM
 grind [four]
theorem ruleL_step (f:declOk ds=true) (hs:sortM ds t≠ -1) (h:ruleL ds t=some u):Step ds t u:=by
 have m:=(sort_parts hs).1;have r:=len_of hs;unfold ruleL at h;split at h
 .rename_i b;split at h
  .rename_i q;obtain rfl:=(gg h).symm;have a:t.ks.length=1:=(by grind [arity]);have k:=sort_one f m a;have c:=hs;rw[k] at c;have g:=one_good oM c;have g2:=oM;have g3:=g.2.2 b;refine⟨.kid 0 oM,?_,λenv he=>?_⟩
   .grind [oneM]
   .obtain⟨_,j,e⟩:=eval_cut he hs b;rw[e];unfold vecCut;simp_all[cut_all]
  .cases h
 .split at h
  .rename_i b;obtain rfl:=(gg h).symm;have a:t.ks.length=1:=(by grind [arity]);have k0:=good_kid hs (i:=0) oM;have d:(kid t 0).op=1\/(kid t 0).op=2:=oM;have n:(kid t 0).ks.length=1:=(by grind [len_of]);have s:=good_kid k0 (i:=0) oM;have p:∀{t:Tm},sortM ds t≠ -1->(t.op=1\/t.op=2)->t.ks.length=1->sortM ds t=sortM ds (kid t 0):=λ{t} hs b a=>by
    have k:=sort_one f (sort_parts hs).1 a
    grind [oneM]
   refine⟨.deep 0 0 oM oM,?_,λenv he=>?_⟩
   .grind
   .obtain⟨_,j,e⟩:=eval_un he hs b.1;obtain⟨_,o,l⟩:=eval_un he k0 d;rw[e];unfold vecUn;rw[V0 ⟨j,b.1⟩];show _=unM t.op (sortM ds (kid t 0)) (evalM ds env (kid t 0));rw[l];unfold vecUn
    grind [un_un]
  .cases h
def binT (w n:Nat):Prop:=
 (binN 3 w n n=n/\binN 4 w n n=n/\binN 5 w n n=0/\binN 7 w n n=0)/\
 (binN 4 w n 0=n/\binN 5 w n 0=n/\binN 6 w n 0=n/\binN 7 w n 0=n/\binN 11 w n 0=n/\binN 12 w n 0=n/\binN 13 w n 0=n)/\
 (binN 3 w n 0=0/\binN 8 w n 0=0/\binN 8 w n 1=n)/\
 (binN 4 w 0 n=n/\binN 5 w 0 n=n/\binN 6 w 0 n=n/\binN 3 w 0 n=0/\binN 8 w 0 n=0/\binN 8 w 1 n=n)
instance (w n:Nat):Decidable (binT w n):=by unfold binT;infer_instance
theorem bin_tab {w n:Int} (h:vok w n=true):binT w.toNat n.toNat:=small1 (p:=binT) (by decide+kernel) h
theorem bin_parts (i:declOk ds=true) (hs:sortM ds t≠ -1) (h:t.ks.length=2) (d:3<=t.op) (c:t.op<=13):sortM ds (kid t 0)=sortM ds t/\sortM ds (kid t 1)=sortM ds t/\
  ∀env,envOk ds env=true->vok (sortM ds t) (evalM ds env (kid t 0))=true/\vok (sortM ds t) (evalM ds env (kid t 1))=true/\evalM ds env t=binN t.op.toNat (sortM ds t).toNat (evalM ds env (kid t 0)).toNat (evalM ds env (kid t 1)).toNat:=by
 have f:=sort_two i (sort_parts hs).1 h;have b:=hs;rw[f] at b;have g:=(both_good b).2 oM;have a:=g.2.2.2 oM;have st:sortM ds t=sortM ds (kid t 0):=by
  rw[f];unfold bothM;rw[Q1 oM,Q1 oM,Q1 oM,Q1 oM,Q1 oM]
 refine⟨st.symm,by rw[st,a],λenv he=>?_⟩;obtain⟨_,v0,v1,e⟩:=eval_bin he hs d oM;refine⟨by rw[st];exact v0,by rw[st,a];exact v1,?_⟩;rw[e];unfold vecBin;rw[V0 (show vok _ _=true/\vok _ _=true from⟨v0,v1⟩),Q1 (show¬t.op=14 by omega),V0 (show 3<=t.op/\t.op<=13/\_=_ from⟨d,c,a⟩),st];rfl
theorem nat_of {w n:Int} (h:vok w n=true):((n.toNat:Nat):Int)=n:=by have:=vok_lt h;omega
theorem ruleW_step (d:declOk ds=true) (hs:sortM ds t≠ -1) (h:ruleW ds t=some u):Step ds t u:=by
 have p:=(sort_parts hs).1;unfold ruleW at h;split at h
 .rename_i m;obtain⟨l,m⟩:=m;split at h
  .rename_i j;obtain rfl:=(gg h).symm;obtain⟨k,s1,ev⟩:=bin_parts d hs l oM oM;refine⟨.kid 0 oM,k,λenv he=>?_⟩
   grind [binN,nat_of]
  .split at h
   .rename_i j;obtain rfl:=(gg h).symm;obtain⟨k,s1,ev⟩:=bin_parts d hs l oM oM;have c:inS (sortM ds t) 0:=by
     have:=(ev _ (zeroE_ok d)).1;obtain⟨a,b,_,_⟩:=vok_iff.1 this;exact .inr (vok_iff.2 ⟨a,b,pn _,Int.pow_pos dC⟩)
    refine⟨.const _ _ (ks_ne (i:=0) oM) c,const_sort d c,λenv he=>?_⟩;obtain⟨v0,v1,e⟩:=ev env he;have tb:=(bin_tab v0).1
    grind [Zj]
   .have cmp:15<=t.op->t.op<=17->sortM ds t=0/\∀env,envOk ds env=true->evalM ds env t=b2i (decide (t.op=15)):=λn o=>by
     have k:=sort_two d p l;have f:=hs;rw[k] at f;have g:=(both_good f).2 oM;refine⟨?_,λenv he=>?_⟩
     .grind [bothM]
     simp_all[eval_cmp,vecCmp,cmpM]
    split at h
    .rename_i j;obtain rfl:=(gg h).symm;obtain⟨st,ev⟩:=cmp oM oM;have c:inS 0 1:= .inl ⟨rfl,.inr rfl⟩;exact⟨.const _ _ (ks_ne (i:=0) oM) c,by rw[const_sort d c,st],λenv he=>by rw[Zj he c,ev env he,gC j];rfl⟩
    .split at h
     .rename_i n15 j;obtain rfl:=(gg h).symm;obtain⟨st,ev⟩:=cmp oM oM;have c:inS 0 0:= .inl ⟨rfl,.inl rfl⟩;exact⟨.const _ _ (ks_ne (i:=0) oM) c,by rw[const_sort d c,st],λenv he=>by rw[Zj he c,ev env he,gr n15];rfl⟩
     .cases h
 .cases h
theorem ruleS_step (d:declOk ds=true) (hs:sortM ds t≠ -1) (h:ruleS t=some u):Step ds t u:=by
 unfold ruleS at h;split at h
 .rename_i c;split at h
  .rename_i a;obtain rfl:=(gg h).symm;obtain⟨b,s1,ev⟩:=bin_parts d hs c oM oM;refine⟨.kid 0 oM,b,λenv he=>?_⟩;obtain⟨v0,v1,e⟩:=ev env he;have tb:=(bin_tab v0).2.1;rw[e,(fixed_good he (isM_iff.1 a.1)).2.1];rcases a.2 with o|o|o|o|o|o|o<;>rw[o]
   .grind [nat_of]
   .grind [nat_of]
   .grind [nat_of]
   .grind [nat_of]
   .grind [nat_of]
   .grind [nat_of]
   grind [nat_of]
  .split at h
   .rename_i a;obtain rfl:=(gg h).symm;obtain⟨b,s1,ev⟩:=bin_parts d hs c oM oM;refine⟨.kid 1 oM,s1,λenv he=>?_⟩;obtain⟨v0,v1,e⟩:=ev env he;have tb:=(bin_tab v0).2.2.1;rw[e,(fixed_good he (isM_iff.1 a.1)).2.1]
    grind
   .split at h
    .rename_i a;obtain rfl:=(gg h).symm;obtain⟨b,s1,ev⟩:=bin_parts d hs c oM oM;refine⟨.kid 0 oM,b,λenv he=>?_⟩;obtain⟨v0,v1,e⟩:=ev env he;have tb:=(bin_tab v0).2.2.1;rw[e,(fixed_good he (isM_iff.1 a.1)).2.1,a.2]
     grind [nat_of]
    .cases h
 .cases h
theorem ruleF_step (c:declOk ds=true) (hs:sortM ds t≠ -1) (h:ruleF t=some u):Step ds t u:=by
 unfold ruleF at h;split at h
 .rename_i b;split at h
  .rename_i a;obtain rfl:=(gg h).symm;obtain⟨d,s1,ev⟩:=bin_parts c hs b oM oM;refine⟨.kid 1 oM,s1,λenv he=>?_⟩;obtain⟨v0,v1,e⟩:=ev env he;have tb:=(bin_tab v1).2.2.2;rw[e,(fixed_good he (isM_iff.1 a.1)).2.1]
   grind [nat_of]
  .split at h
   .rename_i a;obtain rfl:=(gg h).symm;obtain⟨d,s1,ev⟩:=bin_parts c hs b oM oM;refine⟨.kid 0 oM,d,λenv he=>?_⟩;obtain⟨v0,v1,e⟩:=ev env he;have tb:=(bin_tab v1).2.2.2;rw[e,(fixed_good he (isM_iff.1 a.1)).2.1]
    grind
   .split at h
    .rename_i a;obtain rfl:=(gg h).symm;obtain⟨d,s1,ev⟩:=bin_parts c hs b oM oM;refine⟨.kid 1 oM,s1,λenv he=>?_⟩;obtain⟨v0,v1,e⟩:=ev env he;have tb:=(bin_tab v1).2.2.2;rw[e,(fixed_good he (isM_iff.1 a.1)).2.1,a.2]
     grind [nat_of]
    .cases h
 .cases h
theorem ja0 (a:declOk ds=true) (hs:sortM ds t≠ -1) (h:ruleA ds t=some u):Step ds t u:=by
 unfold ruleA at h;rcases QJ h with h|⟨_,h⟩
 .exact ruleX_step a hs h
 rcases QJ h with h|⟨_,h⟩
 .exact ruleB_step a hs h
 rcases QJ h with h|⟨_,h⟩
 .exact ruleT_step a hs h
 rcases QJ h with h|⟨_,h⟩
 .exact ruleL_step a hs h
 rcases QJ h with h|⟨_,h⟩
 .exact ruleW_step a hs h
 rcases QJ h with h|⟨_,h⟩
 .exact ruleS_step a hs h
 .exact ruleF_step a hs h
theorem one_cases (a:declOk ds=true) (hs:sortM ds t≠ -1):(ruleA ds t=none/\oneT ds t=t)\/Step ds t (oneT ds t):=by
 unfold oneT;cases h:ruleA ds t with
 |none=>grind
 |some u=>exact .inr (ja0 a hs h)
end
end
section
section
variable {ds:List Dcl} {env:oI} {t u:Tm} {w n:Int}
theorem kid_size {i:Nat} (h:i<t.ks.length):sizeM (kid t i)+1<=sizeM t/\deepM (kid t i)+1<=deepM t:=by
 have a:=szT_all t;have b:=dpT_all t;have c:=szT_mono (ks:=t.ks) (i:=i+1) (j:=t.ks.length) oM oM;have d:=dpT_mono (ks:=t.ks) (i:=i+1) (j:=t.ks.length) oM oM
 grind [szT_succ,dpT_succ,kid]
theorem size_pos:1<=sizeM t/\1<=deepM t:=by rw[sizeM_eq,YF];omega
theorem const_size:sizeM (constM w n)<=2/\deepM (constM w n)<=2:=by
 have leaf:∀o a b s,sizeM (.mk o a b s [])=1/\deepM (.mk o a b s [])=1:=λo a b s=>by rw[sizeM_eq,YF];exact⟨rfl,rfl⟩
 have c:sizeM truT=1/\deepM truT=1:=leaf _ _ _ _;have d:sizeM flsT=2/\deepM flsT=2:=by
  rw[sizeM_eq,YF];show 1+(sizeM truT+0)=2/\1+max 0 (deepM truT)=2;omega
 grind [constM]
theorem src_size (h:Src t u):sizeM u<=sizeM t/\deepM u<=deepM t:=by
 cases h with
 |kid i h=>have:=kid_size h;omega
 |deep i j h a=>have:=kid_size h;have:=kid_size a;omega
 |const w n h a=>
  have b:0<t.ks.length:=(by grind);have:=kid_size (t:=t) (i:=0) b
  grind [size_pos,const_size]
theorem one_good' (a:declOk ds=true) (hs:sortM ds t≠ -1):sortM ds (oneT ds t)=sortM ds t/\(∀env,envOk ds env=true->evalM ds env (oneT ds t)=evalM ds env t)/\sizeM (oneT ds t)<=sizeM t/\deepM (oneT ds t)<=deepM t:=by
 rcases one_cases a hs with⟨_,e⟩|h
 .grind
 .exact⟨h.sort,h.eval,src_size h.src⟩
def remake (t:Tm) (us:List Tm):Tm:= .mk t.op t.a t.b t.s us
theorem x40 {us:List Tm} (b:us.length=t.ks.length) (h:us.map (sortM ds)=t.ks.map (sortM ds)):sortM ds (remake t us)=sortM ds t:=by
 rw[sortM_eq ds (remake t us),sortM_eq ds t];show sortF ds (remake t us) (us.map (sortM ds))=_;rw[h];have a:formed (remake t us)=formed t:=by
  show(decide (arity t.op=(us.length:Int))&&plainM t)=_;rw[b];rfl
 unfold sortF;rw[a];rfl
theorem x50 {us:List Tm} (a:us.length=t.ks.length) (h:us.map (vecM ds env)=t.ks.map (vecM ds env)):evalM ds env (remake t us)=evalM ds env t:=by
 rw[evalM_eq,evalM_eq];show valK ds env (remake t us) (us.map (vecM ds env))=_;rw[h];rfl
theorem sum_le {f g:Tm->Nat}:∀{ks:List Tm},(∀k,k∈ks->f k<=g k)->(ks.map f).sum<=(ks.map g).sum
 |[],_=>gz _
 |k::r,h=>by
  have b:=h k gp;have c:=sum_le (ks:=r) λx a=>h x (gx _ a)
  grind
theorem max_le {f g:Tm->Nat}:∀{ks:List Tm} {a b:Nat},a<=b->(∀k,k∈ks->f k<=g k)->(ks.map f).foldl max a<=(ks.map g).foldl max b
 |[],a,b,c,_=>c
 |k::r,a,b,c,h=>by
  have e:=h k gp;simp only[GN,List.foldl_cons];exact max_le (ks:=r) oM λx d=>h x (gx _ d)
structure Good (ds:List Dcl) (t u:Tm):Prop where
 sort:sortM ds u=sortM ds t
 eval:∀env,envOk ds env=true->evalM ds env u=evalM ds env t
 size:sizeM u<=sizeM t
 deep:deepM u<=deepM t
theorem remake_good {f:Tm->Tm} (h:∀k,k∈t.ks->Good ds k (f k)):Good ds t (remake t (t.ks.map f)):=by
 have d:(t.ks.map f).length=t.ks.length:=by grind
 refine⟨x40 d ?_,λenv he=>x50 d ?_,?_,?_⟩
 .rw[G3];exact Gz λk c=>(h k c).sort
 .rw[G3];exact Gz λk c=>by show vecM ds env (f k)=_;rw[vecM_pair,vecM_pair,(h k c).sort,(h k c).eval env he]
 .rw[sizeM_eq,sizeM_eq t];show 1+((t.ks.map f).map sizeM).sum<=_;rw[G3];have:=sum_le (f:=sizeM∘f) (g:=sizeM) (ks:=t.ks) λk c=>(h k c).size;omega
 .rw[YF,YF t];show 1+((t.ks.map f).map deepM).foldl max 0<=_;rw[G3];have:=max_le (f:=deepM∘f) (g:=deepM) (ks:=t.ks) (a:=0) (b:=0) (gz _) λk c=>(h k c).deep;omega
theorem foldT_rem (ds:List Dcl) (t:Tm):foldT ds t=oneT ds (remake t (t.ks.map (foldT ds))):=Z20 ds t
theorem fold_good (c:declOk ds=true):∀t,sortM ds t≠ -1->Good ds t (foldT ds t):=by
 refine Tm.ind λt e hs=>?_;have d:=(sort_parts hs).2.1;have a:Good ds t (remake t (t.ks.map (foldT ds))):=by grind [remake_good]
 have b:=one_good' c (t:=remake t (t.ks.map (foldT ds))) (by rw[a.sort];exact hs);rw[foldT_rem];exact⟨b.1.trans a.sort,λenv he=>(b.2.1 env he).trans (a.eval env he),gU b.2.2.1 a.size,gU b.2.2.2 a.deep⟩
theorem kids_good (a:declOk ds=true) (hs:sortM ds t≠ -1):Good ds t (remake t (t.ks.map (foldT ds))):=remake_good λk b=>fold_good a k ((sort_parts hs).2.1 k b)
theorem leaf_none (h:t.ks=[]) (e:t.op=20\/t.op=21\/t.op=24):ruleA ds t=none:=by
 have a:t.ks.length=0:=by rw[h];rfl
 have x:ruleX ds t=none:=by
  unfold ruleX allFixed;rw[h];rfl
 have b:ruleB t=none:=by unfold ruleB;grind
 have c:ruleT t=none:=by unfold ruleT;grind
 have d:ruleL ds t=none:=by unfold ruleL;grind
 simp_all[ruleW,ruleS,ruleF,ruleA]
theorem kV0 (h:t.ks=[]) (a:t.op=20\/t.op=21\/t.op=24):oneT ds t=t:=by unfold oneT;rw[leaf_none h a];rfl
end
end
section
section
variable {ds:List Dcl} {env:oI} {d:Dcl} {x:Int}
theorem app_getD {α:Type} {l r:List α} {i:Nat} {e:α} (h:i<l.length):(l++r).getD i e=l.getD i e:=by
 grind
def rankE:List Dcl->oI->Int
 |d::ds,n::env=>n*2^(bits ds).toNat+rankE ds env
 |[],_=>0
 |_::_,[]=>0
theorem bits_cons (d:Dcl) (ds:List Dcl):bits (d::ds)=d.2+bits ds:=by unfold bits;grind
theorem bits_nonneg:∀{ds:List Dcl},(∀d,d∈ds->0<=d.2)->0<=bits ds
 |[],_=>pn _
 |d::ds,h=>by
  have:=h d gp;have:=bits_nonneg (ds:=ds) λx a=>h x (gx _ a);rw[bits_cons];omega
theorem rank_zero:∀(ds:List Dcl) (n:Nat),rankE ds (List.replicate n 0)=0
 |[],n=>by cases n<;>rfl
 |d::ds,0=>rfl
 |d::ds,n+1=>by
  show(0:Int)*2^(bits ds).toNat+rankE ds (List.replicate n 0)=0;rw[rank_zero ds n];simp
def Tops (ds:List Dcl) (env:oI) (i:Nat):Prop:=∀j,i<=j->j<ds.length->env.getD j 0=2^((ds.getD j (nada,0)).2).toNat-1
theorem rank_top:∀{ds:List Dcl} {env:oI},env.length=ds.length->(∀d,d∈ds->0<=d.2)->Tops ds env 0->rankE ds env=2^(bits ds).toNat-1
 |[],[],_,_,_=>rfl
 |d::ds,n::env,b,c,h=>by
  have g:n=2^(d.2).toNat-1:=h 0 (gz _) (by simp);have a:∀x,x∈ds->0<=x.2:=(by grind);have l:=rank_top (ds:=ds) (env:=env) (by grind) a λj _ k=>by
   have:=h (j+1) (gW _) (by grind)
   grind
  have i:=bits_nonneg a;have f:=c d gp;show n*2^(bits ds).toNat+rankE ds env=_;have e:(bits (d::ds)).toNat=d.2.toNat+(bits ds).toNat:=by rw[bits_cons];omega
  grind
 |[],_::_,b,_,_=>by simp at b
 |_::_,[],b,_,_=>by simp at b
def bump (env:oI) (i:Nat):oI:=env.take i++(env.getD i 0+1)::List.replicate (env.length-i-1) 0
theorem rank_bump:∀{ds:List Dcl} {env:oI} {i:Nat},env.length=ds.length->(∀d,d∈ds->0<=d.2)->i<ds.length->Tops ds env (i+1)->rankE ds (bump env i)=rankE ds env+1
 |d::ds,n::env,0,b,c,_,h=>by
  have a:∀x,x∈ds->0<=x.2:=(by grind);have k:=rank_top (ds:=ds) (env:=env) (by grind) a λj _ e=>by
   have:=h (j+1) oM (by grind)
   grind
  show(n+1)*2^(bits ds).toNat+rankE ds (List.replicate _ 0)=n*2^(bits ds).toNat+rankE ds env+1
  grind [rank_zero]
 |d::ds,n::env,i+1,b,c,hi,h=>by
  have l:=rank_bump (ds:=ds) (env:=env) (i:=i) (by grind) (λx g=>c x (gx _ g)) (by grind) λj e f=>by
   have:=h (j+1) oM (by grind)
   grind
  grind [bump,rankE]
 |[],_,_,_,_,hi,_=>by simp at hi
 |_::_,[],_,b,_,_,_=>by simp at b
end
end
end Go.M
namespace Go.Proofs.YtfnpmncplaibiaaGreatDoor
open Go Go.Vc Go.Proofs
section
variable {w:World} {K:oK} {F F' D G:oA}
@[push_cast] theorem bd_TZ:yi za [] w K=K (.agg ⟨Kb⟩) w:=zT qq (us:=[]) rfl rfl
theorem tms_op {kv:Value} {ks:List M.Tm} (h:TmsR F w kv ks) {i:Nat} (hi:i<ks.length):zu zE (oE ((eaddr kv 5 i).add 0)) w K=K (nI (ks.getD i default).op) w:=by
 obtain⟨css,hs,c,a⟩:=h;obtain⟨b,e,_⟩:=(a i hi).inv;exact hs.ldField Jz oM (by rw[e];rfl)
theorem tms_kids {kv:Value} {ks:List M.Tm} (h:TmsR F w kv ks) {i:Nat} (hi:i<ks.length) (c:∀a,TmsR F w a (ks.getD i default).ks->K a w):zu zl (oE ((eaddr kv 5 i).add 4)) w K:=by
 obtain⟨css,hs,f,d⟩:=h;obtain⟨a,e,b⟩:=(d i hi).inv;rw[hs.ldField Jq oM (by rw[e];rfl)];exact c a b
theorem TermSame_spec:∀(t:M.Tm) {w:World} {K:oK} {F G:oA} {va vb:Value} {u:M.Tm},TermR F w va t->TermR G w vb u->(∀w',Ext w w'->K (.bool (decide (t=u))) w')->vcall KM #[va,vb] w K:=by
 refine M.Tm.ind λt ih w K F G va vb u ha hb T=>?_;refine zf {} Tryz.func358 ?_;obtain⟨kva,rfl,p⟩:=ha;obtain⟨kvb,rfl,D⟩:=hb;refine zk λb1 w1 a0 N a4 J=>?_;refine zk λb2 w2 a1 s a5 k=>?_;have I:=J.ext s;have f:=N.trans s;have no:∀w',Ext w w'->t≠u->K (.bool false) w':=λw' h hn=>by
  have:=T w' h;rwa[gr hn] at this
 simp only[push_cast,I.ld0,k.ld0,I.ld1,k.ld1,I.ld2,k.ld2,I.ld3,k.ld3,I.ld4,k.ld4];refine zb (λV=>?_) (λe=>no _ f λh=>e (by rw[h]));refine zb (λW=>?_) (λe=>no _ f λh=>e (by rw[h]));refine zb (λX=>?_) (λe=>no _ f λh=>e (by rw[h]));refine zb (λY=>?_) (λe=>no _ f λh=>e (by rw[h]));refine zf {loops:=[(4,[17])]} Tryz.func364 ?_;have B:=p.ext f;have E:=D.ext f;have a8:=p.small;simp only[push_cast,B.len,E.len];refine zb (λe=>no _ f λh=>e (by rw[h])) (λel=>?_);have el:t.ks.length=u.ks.length:=oM
 refine vloop_up t.ks.length (λi x w'=>x=[nI i]/\Ext w w'/\∀j,j<i->t.ks.getD j default=u.ks.getD j default) ⟨rfl,f,λj U=>absurd U oM⟩ ?_;rintro i _ _ R C hi ⟨rfl,c,g⟩ hC;have l:=p.ext c;have L:=D.ext c;simp(disch:=exact oS) only[push_cast,l.len];refine zb (λa=>?_) (λa=>?_)
 .simp(disch:=exact oS) only[push_cast,l.iaddr];refine l.load zc oM λx hx=>?_;obtain⟨cx,rfl,m⟩:=hx.cells;refine zj zr λb4 w4 a2 v a6 Z=>?_;refine stTerm Z rfl ((m.weaken (F':=λb=>b<R.heap.size) λb _ h=>h).ext v) λS O a9 h5=>?_;have o:Ext R S:=Ext.then v O λy H=>by subst H;omega
  have r:=L.ext o;simp(disch:=exact oS) only[push_cast,r.iaddr];refine r.load zc oM λy H=>?_;obtain⟨cy,rfl,n⟩:=H.cells;refine zj zr λb6 w6 a3 z a7 h6=>?_;refine stTerm h6 rfl ((n.weaken (F':=λb=>b<S.heap.size) λb _ h=>h).ext z) λw7 Q aa h7=>?_;have d:Ext S w7:=Ext.then z Q λy H=>by subst H;omega
  rw[(h5.ext d).ldAgg (t:=za) (by rw[zS m];exact zc),h7.ldAgg (t:=za) (by rw[zS n];exact zc)];simp only[push_cast,gS,Gr];have q:=c.trans (o.trans d);refine ih _ (M.getD_mem oM _) (m.ext (o.trans d)).term (n.ext d).term λw8 A=>?_;refine oZ ?_;refine zm (λb=>?_) (λb=>?_)
  .rw[Gb,decide_eq_false_iff_not] at b;exact no _ (q.trans A) λh=>b (by rw[h])
  .rw[Gc,gh] at b;rw[inc64' oM];refine hC oM _ _ ⟨rfl,q.trans A,λj U=>?_⟩;by_cases e:j<i
   .exact g j e
   .have:j=i:=oM;subst this;exact b
 .have:t=u:=M.tm_ext V W X Y (Gi el λj J k=>by
   have:=g j oM;rwa[X0,gj J,X0,gj k] at this)
  have:=T R c;rwa[gC ‹t=u›] at this
theorem falseTerm_spec (i:∀w' v,Ext w w'->TermR (λb=>w.heap.size<=b) w' v M.flsT->K v w'):vcall JG #[] w K:=by
 refine zf {} Tryz.func363 ?_;refine zj zr λb1 w1 k d m g=>?_;refine oZ ?_;refine yv0 (Q4 (o:=24) (F:=λ_=>False)) λw2 a c n u=>?_;refine oZ ?_;have l:TmR (λb=>b≠b1/\w.heap.size<=b) w2 _ M.flsT:=(TmR.of (t:=M.flsT) u).weaken λz r _=>by
  rcases r with h|h
  .exact h.elim
  .exact⟨oM,oM⟩
 refine xK (g.ext c) rfl l (λx p=>p.1) λA f s e=>?_;exact i _ _ (Ext.then (d.trans c) f λy q=>by subst q;omega) (e.weaken λb j _=>j.2)
theorem constant_spec {s n:Int} (f:∀w' v,Ext w w'->TermR (λb=>w.heap.size<=b) w' v (M.constM s n)->K v w'):vcall KI #[nI s,nI n] w K:=by
 refine zf {} Tryz.func354 ?_;refine zj zr λb1 w1 q e r l=>?_;unfold M.constM at f;refine oZ ?_;refine zb (λa=>?_) (λa=>?_)
 .rw[V0 a] at f;refine xK l rfl (JJ 20 s n _:TmR (λ_=>False) w1 _ _) (λx k=>k.elim) λp d i c=>?_;exact f _ _ (Ext.then e d λy h=>by subst h;omega) (c.weaken λb j _=>j.elim)
 .rw[Q1 a] at f;refine zb (λb=>?_) (λb=>?_)
  .rw[V0 b] at f;refine xK l rfl (JJ 24 0 0 _:TmR (λ_=>False) w1 _ _) (λx k=>k.elim) λp d i c=>?_;exact f _ _ (Ext.then e d λy h=>by subst h;omega) (c.weaken λb j _=>j.elim)
  .rw[Q1 b] at f;refine falseTerm_spec λw2 v g o=>?_;obtain⟨cs,rfl,m⟩:=o.cells;refine xK (l.ext g) rfl m (λx k=>oM) λp d i c=>?_;exact f _ _ (Ext.then (e.trans g) d λy h=>by subst h;omega) (c.weaken λb j _=>by have:=e.size;omega)
theorem yD0 {t:M.Tm} (h:t.op=20):M.fixedM t=if t.ks=[]/\t.s=M.nada/\M.vok t.a t.b=true then some t.b else none:=by
 unfold M.fixedM;rw[Q1 (λe=>by rw[e] at h;exact absurd h dC),Q1 (λe=>by rw[e] at h;exact absurd h dC)];by_cases c:t.ks=[]/\t.s=M.nada/\M.vok t.a t.b=true
 .rw[V0 c,V0 ⟨h,c⟩]
 .rw[Q1 c,Q1 (λx=>c x.2)]
theorem nil_len {ks:List M.Tm}:((ks.length:Int)=0)↔ks=[]:=by
 rw[<-Pr];omega
theorem Xi {v:Value} {t:M.Tm} (O:TermR F w v t) (R:∀w',Ext w w'->K (.tuple #[nI ((M.fixedM t).getD 0),.bool (M.fixedM t).isSome]) w'):vcall JI #[v] w K:=by
 refine zf {cuts:=[(16388,[8])]} Tryz.func353 ?_;have A:=O;obtain⟨kv,rfl,H⟩:=O;refine zk λb1 w1 S q T m=>?_;have out:∀w' o,Ext w w'->M.fixedM t=o->K (.tuple #[nI (o.getD 0),.bool o.isSome]) w':=λw' o h e=>by rw[<-e];exact R w' h
 have U:(M.truT).s=M.nada/\(M.flsT).s=M.nada:=⟨rfl,rfl⟩;simp only[push_cast,m.ld3];refine zb (λa=>?_) (λa=>?_)
 .refine out w1 none q ?_;have I:t.s≠M.nada:=a;unfold M.fixedM;rw[Q1 (λe=>I (by rw[e];rfl)),Q1 (λe=>I (by rw[e];rfl)),Q1 (λe=>I e.2.2.1)]
 have hs:t.s=M.nada:=by
  by_cases h:t.s=M.nada
  .exact h
  .exact absurd h a
 refine zp (λu w'=> ∃b:Bool,u=[.bool b]/\Ext w1 w'/\(b=true↔t.op=20/\t.ks=[]/\M.vok t.a t.b=true)) (λC D=>?_) ?_
 .simp only[push_cast,m.ld0];refine zb (λc=>?_) (λc=>?_)
  .simp only[push_cast,m.ld4,H.len];refine zb (λd=>?_) (λd=>?_)
   .try simp only[push_cast,m.ld1,m.ld2]
    refine VecOk_spec λw2 i=>?_;exact D _ _ ⟨_,rfl,i,⟨λh=>⟨c,nil_len.1 d,h⟩,λh=>h.2.2⟩⟩
   .exact D _ _ ⟨false,rfl,Same.refl _ _,⟨λh=>(by cases h),λh=>absurd (nil_len.2 h.2.1) d⟩⟩
  .exact D _ _ ⟨false,rfl,Same.refl _ _,⟨λh=>(by cases h),λh=>absurd h.1 c⟩⟩
 rintro u g w2 ⟨b,rfl,i,N⟩;have J:=m.ext i;have j:=q.trans i;refine oZ ?_;refine zm (λc=>?_) (λc=>?_)
 .obtain⟨c1,c2,c3⟩:=N.1 c;simp only[push_cast,J.ld2];refine out w2 (some t.b) j ?_;rw[yD0 c1,V0 ⟨c2,hs,c3⟩]
 have z: ¬(t.op=20/\t.ks=[]/\t.s=M.nada/\M.vok t.a t.b=true):=λh=>by
  have:=N.2 ⟨h.1,h.2.1,h.2.2.2⟩;rw[c] at this;cases this
 rw[J.ldAgg (t:=za) zc]
 try simp only[push_cast]
 refine TermSame_spec t (A.ext j) (Q4 (o:=24) (F:=λ_=>False)) λW r=>?_;have n:=j.trans r;refine zb (λd=>?_) (λd=>?_)
 .exact out W (some 1) n (V0 d)
 have B: ¬t=M.truT:=d;refine zd λX y _=>?_;have k:=n.trans y;have L:=J.ext (r.trans y);simp only[push_cast,L.ld0,K3];refine zb (λe=>?_) (λe=>?_)
 .simp only[push_cast,L.ldAgg (t:=za) zc,K3];refine falseTerm_spec λY fv l G=>?_;have V:=L.ext l;simp only[push_cast,V.ldAgg (t:=za) zc,K3,gm];refine TermSame_spec t (A.ext (k.trans l)) G λQ E=>?_;have p:=k.trans (l.trans E);refine zb (λf=>?_) (λf=>?_)
  .refine out Q (some 0) p ?_;unfold M.fixedM;rw[Q1 B,V0 f]
  .refine out Q none p ?_;unfold M.fixedM;rw[Q1 B,Q1 f,Q1 z]
 .refine out X none k ?_;unfold M.fixedM;rw[Q1 B,Q1 (λx=>e (by rw[x];rfl)),Q1 z]
theorem jC {v:Value} {t:M.Tm} {n:Int} (i:TermR F w v t) (f:∀w',Ext w w'->K (.bool (M.isM t n)) w'):vcall jg0 #[v,nI n] w K:=by
 refine zf {} Tryz.func356 ?_;obtain⟨cs,rfl,a⟩:=i.cells;refine zk λb1 w1 g b h d=>?_;rw[d.ldAgg (t:=za) (by rw[zS a];exact zc)];refine Xi (a.ext b).term λw2 c=>?_;have:=f w2 (b.trans c);unfold M.isM at this;simp only[push_cast];cases e:M.fixedM t with
 |none=>rw[e] at this;exact this
 |some m=>
  rw[e] at this;simp only[GA] at this;exact this
theorem among_spec {v av:Value} {t:M.Tm} {xs:oI} (z:TermR F w v t) (n:Ints G w av xs) (y:xs.length<=100) (m:∀w',Ext w w'->K (.bool (decide (t.op∈xs))) w'):vcall yo0 #[v,av] w K:=by
 refine zf {} Tryz.func359 ?_;obtain⟨kv,rfl,s⟩:=z;refine zk λb1 w1 r f x p=>?_;simp only[push_cast,p.ld0];refine zf {} Tryz.func365 ?_;refine zf {loops:=[(2,[8])]} Tryz.func375 ?_;have l:=n.ext f;simp only[push_cast,l.len];refine vloop_up xs.length (λi u w'=>u=[nI i]/\Ext w w'/\∀j,j<i->t.op≠xs.getD j 0) ⟨rfl,f,λj k=>absurd k oM⟩ ?_;rintro i _ _ o C hi ⟨rfl,c,d⟩ q;have g:=n.ext c;refine oZ ?_;refine zb (λa=>?_) (λa=>?_)
 .simp(disch:=exact oS) only[push_cast,g.iaddr,g.load];refine zb (λb=>?_) (λb=>?_)
  .have hm:t.op∈xs:=by rw[b];exact M.getD_mem oM _
   have:=m o c;rw[gC hm] at this
   try simp only[push_cast]
   rw[gC oM];exact this
  .rw[inc64' oM];refine q oM _ _ ⟨rfl,c,λj k=>?_⟩;by_cases e:j<i
   .exact d j e
   .have:j=i:=oM;subst this;exact b
 .have hm: ¬t.op∈xs:=λh=>by
   obtain⟨j,k,e⟩:=gy h;have:=d j oM;rw[X0,gj k] at this;exact this e.symm
  have:=m o c;rw[gr hm] at this;exact this
theorem chosen_spec {v:Value} {t:M.Tm} {b:Bool} (u:TermR F w v t) (k:∀w' v',Ext w w'->TermR F w' v' t->K (.tuple #[v',.bool b]) w'):vcall UD #[.bool b,v] w K:=by
 refine zf {} Tryz.func357 ?_;obtain⟨cs,rfl,a⟩:=u.cells;refine zk λb1 w1 m c q i=>?_;refine zj zr λb2 w2 n d s j=>?_;rw[(i.ext d).ldAgg (t:=za) (by rw[zS a];exact zc)];have g:=c.trans d;have o:TmR (λb=>F b/\b<w.heap.size) w2 cs t:=(a.weaken (F':=λb=>F b/\b<w.heap.size) λb h p=>⟨h,p⟩).ext g;have A:=c.size;refine xK (K:=λr w=>K (.tuple #[r,.bool b]) w) j rfl o (λx C=>oM) λD f B e=>?_;exact k _ _ (Ext.then g f λy z=>by subst z;omega) (e.weaken λb l _=>l.1)
end
section
variable {w:World} {K:oK} {F F' D G:oA}
theorem lv0 {b:Nat} {x:Value} {t0 t:TypeId} (h:Blk w b [x] t0) (a:oneB t=true):vlv t (oP b 0) w K=K x w:=Zv0 (by rw[h.ld0 a];exact⟨rfl,rfl⟩)
def QZ (ds:List M.Dcl):Int:=if M.declOk ds=true then 2^(M.bits ds).toNat else 0
theorem yI0 {ds:List M.Dcl}:∀{i:Nat},i<ds.length->M.bits (ds.take (i+1))=M.bits (ds.take i)+(ds.getD i (M.nada,0)).2:=λ{i} h=>by
 unfold M.bits;rw[Pu h,gG,PH,X0,gj h];simp
theorem bits_all {ds:List M.Dcl} (h:M.declOk ds=true) (i:Nat):0<=M.bits (ds.take i)/\M.bits (ds.take i)<=M.bits ds/\M.bits ds<=8:=by
 have hw:=λi (hi:i<ds.length)=>M.dcl_wide h hi;have c:=(M.decl_iff.1 h).2.2;have pos:∀d,d∈ds->0<=d.2:=λd a=>by
  obtain⟨j,b,rfl⟩:=gy a;have:=hw j b;rw[X0,gj b] at this;simp at this;omega
 refine⟨M.bits_nonneg λd a=>pos d (gV a),?_,c⟩;have e:M.bits ds=M.bits (ds.take i)+M.bits (ds.drop i):=by
  unfold M.bits;rw[<-PH,<-gG,pd]
 have:=M.bits_nonneg (ds:=ds.drop i) λd a=>pos d (GX a);omega
theorem pow8 {b:Int} (a:0<=b) (c:b<=8):1<=(2:Int)^b.toNat/\(2:Int)^b.toNat<=256:=by
 obtain⟨n,rfl⟩:∃n:Nat,b=n:=⟨b.toNat,oM⟩;have:n<=8:=oM
 have e:n=0\/n=1\/n=2\/n=3\/n=4\/n=5\/n=6\/n=7\/n=8:=oM
 rcases e with rfl|rfl|rfl|rfl|rfl|rfl|rfl|rfl|rfl<;>decide
theorem shl1 {c:Bool} {t:TypeId} {yk:IntKind} {y:Int} (a:0<=y) (b:y<=8):qb .shl t c (nI 1) (.int yk y) w K=K (nI (2^y.toNat)) w:=by
 rw[WN a];have d:=pow8 a b;have e:min y.toNat IntKind.i64.bits=y.toNat:=GG (by show y.toNat<=64;omega);rw[e,Int.one_mul,zi oM oM]
theorem manyE_le (ds:List M.Dcl):0<=QZ ds/\QZ ds<=256:=by
 unfold QZ;split
 .next h=>
  have:=bits_all h 0;have:=pow8 (b:=M.bits ds) (by have:=(bits_all h 0).1;have:=(bits_all h 0).2.1;omega) this.2.2;omega
 .omega
theorem EnvMany_spec {v:Value} {ds:List M.Dcl} (g:DclsR F w v ds) (e:∀w',Ext w w'->K (nI (QZ ds)) w'):vcall Xg #[v] w K:=by
 refine zf {loops:=[(5,[3,11])]} Tryz.func59 ?_;refine DeclOk_spec g λw1 d=>?_;simp only[push_cast];unfold QZ at e;have h:=g.ext d;refine zm (λa=>?_) (λa=>?_)
 .rw[Q1 (by simpa using a)] at e;exact e _ d
 have b:M.declOk ds=true:=by simpa using a
 rw[V0 b] at e;have q:=g.small;simp only[push_cast,h.len];refine vloop_up ds.length (λi u w'=>u=[nI (M.bits (ds.take i)),nI i]/\Ext w w') ⟨rfl,d⟩ ?_;rintro i _ _ w2 C hi ⟨rfl,c⟩ n;have f:=g.ext c;refine oZ ?_;refine zb (λa=>?_) (λa=>?_)
 .simp(disch:=exact oS) only[push_cast,f.iaddr,f.load];refine zj yO λb3 t o j p l=>?_;refine stDecl l λx k s m=>?_;simp only[push_cast,m.ld1];have b1:=bits_all b i;have b2:=bits_all b (i+1);rw[yI0 oM] at b2;rw[zi oM oM,inc64' oM];exact n oM _ _ ⟨by rw[yI0 oM],Ext.then (c.trans j) k λy r=>by subst r;have:=c.size;omega⟩
 .have:i=ds.length:=oM;subst this;rw[gF];have b1:=bits_all b 0;have b2:=bits_all b ds.length;rw[gF] at b2;rw[shl1 b2.1 b2.2.2];exact e _ c
def jU0 (env:oI) (i n:Nat):oI:=env.take i++(env.getD i 0+1)::List.replicate n 0
theorem set_cut {env:oI} {i m:Nat} {x:Int} (hi:i<env.length) (hm:m=m):(env.take (i+1)++List.replicate m 0).set i x=env.take i++x::List.replicate m 0:=by
 rw[List.set_append_left _ _ (by rw[gi];omega),Pu hi,pc _ _ (by rw[gi];omega)];have:i-(env.take i).length=0:=by rw[gi];omega
 rw[this,Gd];rfl
theorem bump_zero {env:oI} {i n:Nat} (hi:i<env.length) (a:i<n):(jU0 env i (n-i-1)).set i 0=env.take i++List.replicate (n-i) 0:=by
 unfold jU0;rw[pc _ _ (by rw[gi];omega)];have:i-(env.take i).length=0:=by rw[gi];omega
 rw[this,show n-i=(n-i-1)+1 by omega,Pj];rfl
theorem yN0 {α:Type} {l r:List α} {i:Nat} {e:α} (h:l.length<=i):(l++r).getD i e=r.getD (i-l.length) e:=by
 rw[X0,gX h,<-X0]
theorem bump_ok {ds:List M.Dcl} {env:oI} {i:Nat} (h:M.envOk ds env=true) (hi:i<ds.length) (k:env.getD i 0+1<2^((ds.getD i (M.nada,0)).2).toNat):M.envOk ds (M.bump env i)=true:=by
 obtain⟨c,m,d⟩:=M.env_ok h;have g:(M.bump env i).length=ds.length:=by unfold M.bump;rw[V1,gi,gJ,gP];omega
 unfold M.envOk;rw[c,g];simp only[pz,decide_true,Ga,gN];intro q a;have hw:=M.dcl_wide c a;obtain⟨_,_,n,_⟩:=M.vok_iff.1 (d q a);unfold M.bump;rcases Nat.lt_trichotomy q i with e|e|e
 .rw[M.app_getD (by rw[gi];omega),M.take_getD e];exact d q a
 .subst e;rw[yN0 (l:=env.take q) (by rw[gi];omega)];have:q-(env.take q).length=0:=by rw[gi];omega
  rw[this];exact M.vok_iff.2 ⟨hw.1,hw.2,by show 0<=env.getD q 0+1;omega,k⟩
 .rw[yN0 (l:=env.take i) (by rw[gi];omega)];obtain⟨r,j⟩:∃r,q-(env.take i).length=r+1:=⟨q-(env.take i).length-1,by rw[gi];omega⟩;rw[j,G9];have f:(List.replicate (env.length-i-1) (0:Int)).getD r 0=0:=by
   rw[X0,Pq];split<;>rfl
  rw[f];have:=pow8 (b:=(ds.getD q (M.nada,0)).2) oM oM;exact M.vok_iff.2 ⟨hw.1,hw.2,pn _,oM⟩
theorem environments_1_spec {yv:Value} {bd:Nat} {dv:Value} {t0:TypeId} {ds:List M.Dcl} {k:Int} {S:oA} {R:Int->World->Prop} {Z:World->Prop} (r:M.declOk ds=true) (aj:0<=k) (hk:k<2^(M.bits ds).toNat)
  (E:Blk w bd [dv] t0) (U:DclsR F w dv ds) (ab: ¬S bd) (aa:∀b,F b->¬S b) (ac:∀b,S b->b<w.heap.size) (h0:R 0 w)
  (hR:∀j w' w'',R j w'->Same (λb=>w.heap.size<=b) w' w''->R j w'')
  (hy:∀(j:Int) (w':World) (v:Value) (env:oI) (K':oK),0<=j->j<=k->R j w'->OwnI ze w' v env->(∀b,v.ownBlock=some b->w.heap.size<=b)->M.envOk ds env=true->M.rankE ds env=j->
   (j<k->∀w'',R (j+1) w''->Same S w' w''->K' (.bool true) w'')->(j=k->∀w'',Z w''->K' (.bool false) w'')->vcallv yv #[v] w' K')
  (hZ:∀w',Z w'->K (.tuple #[]) w'):vcall ql #[yv,oP bd 0] w K:=by
 refine zf {loops:=[(1,[]),(3,[4])]} Tryz.func138 ?_;have az:=U.small;have aw:=(M.decl_iff.1 r).1;rw[E.ld0 ZY];simp only[push_cast,U.len];refine vmkS_own (z:= nI 0) xx rK xp rfl oM oM λv w1 hv o c=>?_;have a0:OwnI ze w1 v (List.replicate ds.length 0):=by unfold OwnI;rw[GU];exact hv
 have av:∀b,v.ownBlock=some b->b<w1.heap.size:=λb E=>a0.lt E;have b4:=o.size;have t:∀d,d∈ds->0<=d.2:=λd U=>by
  obtain⟨j,hj,rfl⟩:=gy U;have:=M.dcl_wide r hj;rw[X0,gj hj] at this;simp at this;omega
 have H:M.envOk ds (List.replicate ds.length 0)=true:=by
  unfold M.envOk;rw[r,gP];simp only[pz,decide_true,Ga,gN];intro i hi;have:=M.dcl_wide r hi;have e:(List.replicate ds.length (0:Int)).getD i 0=0:=(by simp[X0,hi]);rw[e];refine M.vok_iff.2 ⟨this.1,this.2,pn _,?_⟩;have:=pow8 (b:=(ds.getD i (M.nada,0)).2) oM oM;omega
 let S':oA:=λb=>S b\/v.ownBlock=some b
 refine qA (λn u w'=> ∃(j:Int) (env:oI),u=[]/\n=(k-j).toNat/\0<=j/\j<=k/\R j w'/\OwnI ze w' v env/\M.envOk ds env=true/\M.rankE ds env=j/\Same S' w1 w') (k-0).toNat
  ⟨0,_,rfl,rfl,pn _,aj,hR 0 w w1 h0 (o.mono λ_ _ h=>h.elim),a0,H,M.rank_zero _ _,Same.refl _ _⟩ ?_
 rintro _ _ _ w2 C ⟨j,env,rfl,rfl,ah,ai,a9,a1,g,l,ao⟩ hC;have T: ¬S' bd:=λh=>h.elim ab λh=>by have:=c _ h;have:=E.lt;omega
 have Q:∀b,F b->b<w.heap.size->¬S' b:=λb hF ak h=>h.elim (aa b hF) λh=>by have:=c _ h;omega
 have dcl:∀w',Same S' w1 w'->Blk w' bd [dv] t0/\DclsR (λb=>F b/\b<w.heap.size) w' dv ds:=λw' h=>
  ⟨(E.ext o).same h T,((U.weaken (F':=λb=>F b/\b<w.heap.size) λb h1 O=>⟨h1,O⟩).ext o).same h λb hF _=>Q b hF.1 hF.2⟩
 obtain⟨_,hlen,N⟩:=M.env_ok g;refine hy j w2 v env _ ah ai a9 a1 c g l (λak w3 a7 X=>?_) (λ_ w3 hz=>?_)
 .simp only[push_cast,GI];have x:Same S' w1 w3:=ao.trans (X.mono λ_ _ h=> .inl h);have am:∀b,v.ownBlock=some b->¬S b:=λb E h=>by have:=ac b h;have:=c b E;omega
  have aq:=a1.same X am;obtain⟨ad,ag⟩:=dcl w3 x;rw[ad.ld0 ZY];simp only[push_cast,ag.len];rw[show IntKind.i64.wrap ((ds.length:Int)-1)=(ds.length:Int)-1 from zi oM oM];refine qA (λn u w'=> ∃cur:oI,u=[nI ((n:Int)-1)]/\n<=ds.length/\cur=env.take n++List.replicate (ds.length-n) 0/\M.Tops ds env n/\OwnI ze w' v cur/\Same (λb=>v.ownBlock=some b) w3 w') ds.length
   ⟨env,rfl,gz _,by rw[GH,<-hlen,gF];simp,λi h1 O=>absurd O oM,aq,Same.refl _ _⟩ ?_
  rintro n _ _ w4 C1 ⟨cur,rfl,hn,f,m,a4,J⟩ a6;have W:Same S' w1 w4:=x.trans (J.mono λ_ _ h=> .inr h);have a8:R (j+1) w4:=hR _ _ _ a7 (J.mono λb _ h=>c b h);have af:cur.length=ds.length:=by rw[f,V1,gi,gP];omega
  refine oZ ?_;refine zb (λa=>?_) (λa=>?_)
  .obtain⟨i,rfl⟩:∃i,n=i+1:=⟨n-1,oM⟩;have I:i<ds.length:=oM;have ei:((i+1:Nat):Int)-1=i:=oM;have G:cur.getD i 0=env.getD i 0:=by
    rw[f,M.app_getD (by rw[gi];omega),M.take_getD oM]
   obtain⟨b0,b1,b2,b3⟩:=M.vok_iff.1 (N i I);have ay:=pow8 (b:=(ds.getD i (M.nada,0)).2) oM oM;rw[ei];have a5:=a4.ints;simp(disch:=exact oS) only[push_cast,a5.iaddr,a5.load,G];rw[zi oM oM];refine a4.st yG oM λw5 ar L b5=>?_;refine zd λw6 p _=>?_;have s:=ar.ext p;have A:Same S' w1 w6:=W.trans ((L.mono λ_ _ h=> .inr h).trans (Same.of_ext p));have Y:Same (λb=>v.ownBlock=some b) w3 w6:=J.trans (L.trans (Same.of_ext p));obtain⟨ae,V⟩:=dcl w6 A;have D:=s.ints;have ax:i<(cur.set i (env.getD i 0+1)).length:=by rw[G4];omega
   simp(disch:=first|(simp only[push_cast])|(rw[G4];omega)|omega) only[push_cast,D.iaddr,D.load,ae.ld0,V.iaddr,V.load1,K3];rw[shl1 (y:=(ds.getD i (M.nada,0)).2) oM oM];rw[getD_set oM];simp only[push_cast,K3,if_true];have B:cur.set i (env.getD i 0+1)=jU0 env i (ds.length-i-1):=by
    rw[f];exact set_cut oM oM
   refine zb (λa2=>?_) (λa2=>?_)
   .refine zb (λa3=>oM) (λ_=>?_);have eb:jU0 env i (ds.length-i-1)=M.bump env i:=by unfold M.bump jU0;rw[hlen]
    rw[B,eb] at s;have an:=M.rank_bump (ds:=ds) (env:=env) (i:=i) hlen t I m;refine hC (k-(j+1)).toNat _ _ oM ⟨j+1,_,rfl,rfl,oM,oM,hR _ _ _ a8 ((L.trans (Same.of_ext p)).mono λb _ h=>c b h),s,bump_ok g I a2,by rw[an,l],A⟩
   .refine s.st yG oM λw7 au ap b6=>?_;rw[show IntKind.i64.wrap ((i:Int)-1)=(i:Int)-1 from zi oM oM];refine a6 i _ _ oM ⟨_,rfl,oM,?_,λq h1 O=>?_,au,Y.trans ap⟩
    .rw[B];exact bump_zero oM oM
    .by_cases e:q=i
     .subst e;omega
     .exact m q oM O
  .exfalso;have al:n=0:=oM;subst al;have:=M.rank_top hlen t m;omega
 .simp only[push_cast,Pe];exact hZ _ hz
theorem _root_.Go.Vc.Same.trans' {a b c:Nat} {w0 w1 w2 d:World} (e:Same (· =a) w0 w1) (f:Same (· =b) w1 w2) (g:Same (· =c) w2 d):Same (λx=>x=a\/x=b\/x=c) w0 d:=
 (e.mono λ_ _ h=> .inl h).trans ((f.mono λ_ _ h=> .inr (.inl h)).trans (g.mono λ_ _ h=> .inr (.inr h)))
theorem jY {S T:oA} {w0 w1 w2:World} (a:Same S w0 w1) (c:Same T w1 w2) (h:∀b,b<w0.heap.size->T b->S b):Same S w0 w2:=
 ⟨c.os.trans a.os,c.tape.trans a.tape,c.output.trans a.output,gU a.size c.size,λb d f=>(c.block b (gQ d a.size) λe=>f (h b d e)).trans (a.block b d f)⟩
theorem EnvAll_spec {dv:Value} {ds:List M.Dcl} {k:Int} (hd:DclsR F w dv ds) (A:M.declOk ds=true) (af:0<=k) (hk:k<2^(M.bits ds).toNat)
  (hK:∀w' v env,Ext w w'->OwnI ze w' v env->(∀b,v.ownBlock=some b->w.heap.size<=b)->M.envOk ds env=true->M.rankE ds env=k->K (.tuple #[v,.bool true]) w'):vcall Qj #[dv,nI k] w K:=by
 apply zq0;unfold ZF;have ac:=bits_all A 0;have hp:=pow8 (b:=M.bits ds) oM ac.2.2;refine y4 λb1 w1 ap a1 az U=>?_;replace U:Blk w1 b1 [nI k] zE:=U;refine yZ ZS λb2 w2 aq ad b0 V=>?_;replace V:Blk w2 b2 [oN] ze:=V;refine yZ yR0 λb3 w3 ar a2 b4 h3=>?_;replace h3:Blk w3 b3 [.bool false] xH:=h3;refine zd λw4 L _=>?_;have Q:=(ad.trans a2).trans L;have W:=a1.trans Q;have q1:=U.ext Q;simp only[push_cast,q1.ld0,K3];refine zb (λa=>oM) (λ_=>?_);refine EnvMany_spec (hd.ext W) λw5 t=>?_;have q5:=q1.ext t;have ag:QZ ds=2^(M.bits ds).toNat:=by unfold QZ;rw[V0 A]
 simp only[push_cast,q5.ld0,K3,gm];refine zb (λa=>oM) (λ_=>?_);refine zf {} Tryz.func99 ?_;obtain⟨da,dc,rfl,_⟩:=hd.shape;rw[gd] at*;refine y4 λb6 w6 au u b5 h6=>?_;replace h6:Blk w6 b6 [.slice da ds.length dc] yF:=h6;refine oZ ?_;have ab:=W.trans (t.trans u);refine⟨ql,⟨[oP b6 0]⟩,rfl,λl D p RR hD hl x b7 aa aj ah B=>?_⟩;have X:=ab.trans x;have z1:=a1.size;have z4:=L.size;have z5:=t.size;have z6:=u.size;have E:Ext w3 p:=L.trans (t.trans (u.trans x));have p1:Blk p b1 [nI k] zE:=q5.ext (u.trans x);have p2:Blk p b2 [oN] ze:=(V.ext a2).ext E;have p3:Blk p b3 [.bool false] xH:=h3.ext E;have z37:=E.size;show vcall ql #[.func (.yield l) #[] #[],oP b6 0] p _
 let S:oA:=λb=>b=l\/b=b1\/b=b2\/b=b3
 have J:∀{st pe} {T:oA} {w' w'':World},RR st pe w'->Same T w' w''->p.heap.size<=w'.heap.size->¬T l->RR st pe w'':=λh Y hz hn=>aj _ _ _ _ h (Y.block l oM hn);have m:∀{T:oA} {w' w'':World},w'.heap[D]?=some (.deferred (some []))->Same T w' w''->p.heap.size<=w'.heap.size->¬T D->w''.heap[D]?=some (.deferred (some [])):=λh Y hz hn=>(Y.block D oM hn).trans h;refine environments_1_spec (F:=λb=>F b/\b<w.heap.size) (S:=S) (ds:=ds) (k:=k)
  (R:=λj w'=>RR .ready none w'/\Blk w' b1 [nI (k-j)] zE/\Blk w' b2 [oN] ze/\Blk w' b3 [.bool false] xH/\w'.heap[D]?=some (.deferred (some []))/\Same S p w')
  (Z:=λw'=>RR .done (some .ret) w'/\w'.heap[D]?=some (.deferred (some []))/\Same S p w'/\∃v env,Blk w' b2 [v] ze/\Blk w' b3 [.bool true] xH/\OwnI ze w' v env/\(∀b,v.ownBlock=some b->p.heap.size<=b)/\M.envOk ds env=true/\M.rankE ds env=k)
  A af hk (h6.ext x) ((hd.weaken λb U V=>⟨U,V⟩).ext X) (λh=>by rcases h with h|h|h|h<;>omega) (λb q h=>by rcases h with h|h|h|h<;>omega) (λb h=>by rcases h with h|h|h|h<;>omega)
  ⟨ah,by rw[Int.sub_zero];exact p1,p2,p3,aa,Same.refl _ _⟩ ?_ ?_ ?_
 .rintro j w8 w9 ⟨g1,g2,g3,g4,g5,g6⟩ hs;have z:=g6.size;exact⟨J g1 hs z oM,g2.same hs oM,g3.same hs oM,g4.same hs oM,m g5 hs z oM,jY g6 hs λb q h=>oM⟩
 .rintro j w8 v env K' ay ax ⟨g1,g2,g3,g4,g5,g6⟩ hv ak C ai Y hZ;have z78:=g6.size;refine B [v] w8 K' rfl g1 ⟨g1,λw9 c al a0=>?_⟩;have k1:=g2.same c oM;have k2:=g3.same c oM;have k3:=g4.same c oM;have k5:=m g5 c z78 oM;have k6:Same S p w9:=jY g6 c λb _ h=> .inl h;simp only[push_cast,k1.ld0];refine zb (λa=>?_) (λa=>?_)
  .have ae:=(hv.same c λb q e=>by have:=ak b q;omega).ints;have aw:=(M.env_ok C).2.1;have av:=(M.decl_iff.1 A).1;refine Clone_Lint ae oM λw10 v2 o a7 a3=>?_;have hc:v2.cells= #[v2]/\v2.oneCell'=true:=by
    obtain⟨a',c',e,_⟩:=a7.ints.shape;subst e;exact⟨rfl,rfl⟩
   have b8:=o.size;refine(k2.ext o).st (i:=0) hc.1 hc.2 qe rfl λN r a9 H=>?_;replace H:Blk N b2 [v2] ze:=H;refine((k3.ext o).same r oM).st (i:=0) rfl rfl zB0 rfl λO s an I=>?_;replace I:Blk O b3 [.bool true] xH:=I;have n:Same (λb=>b=b2\/b=b3) w9 O:=(Same.of_ext o).trans ((r.mono λ_ _ h=> .inl h).trans (s.mono λ_ _ h=> .inr h));have k7:Same S p O:=jY k6 n λb _ h=> .inr (.inr h);refine⟨J a0 n oM oM,λam g ao a5=>hZ oM am ⟨a5,m (m k5 n oM oM) g oM oM,jY k7 g λb _ h=> .inl h,v2,env,(H.same s oM).same g oM,I.same g oM,?_,λb q=>by have:=a3 b q;omega,C,oM⟩⟩;exact a7.same (r.trans' s g) λb q e=>by have:=a3 b q;omega
  .try simp only[push_cast,k1.ld0]
   rw[zi oM oM];refine k1.st (i:=0) rfl rfl yG rfl λw10 f a8 G=>?_;replace G:Blk w10 b1 [nI (k-(j+1))] zE:=by rw[show k-(j+1)=k-j-1 by omega];exact G
   refine⟨J a0 f oM oM,λN d a9 a4=>Y oM N ⟨a4,G.same d oM,(k2.same f oM).same d oM,(k3.same f oM).same d oM,m (m k5 f oM oM) d oM oM,?_⟩ ?_⟩
   .exact jY (jY k6 f λb _ h=> .inr (.inl h)) d λb _ h=> .inl h
   .exact(c.mono λb _ h=> .inl h).trans ((f.mono λb _ h=> .inr (.inl h)).trans (d.mono λb _ h=> .inl h))
 .rintro w8 ⟨g1,g2,g3,v,env,g4,g5,g6,g7,g8,g9⟩;have z78:=g3.size;refine⟨.done,some .ret,dC,g1,λw9 c al=>?_⟩;refine⟨m g2 c z78 oM,λw10 a6 a8=>?_⟩;have hs:Same (λb=>b=l\/b=D) w8 w10:=(c.mono λ_ _ h=> .inl h).trans (a6.mono λ_ _ h=> .inr h);show vlv ze (oP b2 0) w10 _;rw[lv0 (g4.same hs oM) ZD0,lv0 (g5.same hs oM) ZC0];refine hK _ v env (Ext.then (Ext.then X g3 λy hy=>by rcases hy with h|h|h|h<;>omega) hs λy hy=>oM) (g6.same hs λb q h=>by have:=g7 b q;omega) (λb q=>by have:=g7 b q;omega) g8 g9
end
end Go.Proofs.YtfnpmncplaibiaaGreatDoor
end
