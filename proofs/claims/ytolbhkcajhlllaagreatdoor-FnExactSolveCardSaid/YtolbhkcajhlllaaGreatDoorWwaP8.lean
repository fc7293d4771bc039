import Derived.Test.YtolbhkcajhlllaaGreatDoorWwaP7
/- A part of the proof. -/
set_option linter.all false
set_option maxRecDepth 9999
set_option maxHeartbeats 2000000
noncomputable section
namespace Go.Proofs.YtolbhkcajhlllaaGreatDoor
open Go Go.Vc Go.Proofs
section
variable {w:World} {K:oK} {D F Y S O:Nat->Prop} {n b4 b8:Nat} {v v' xv dv tv kv:Value} {cs cs':List Value} {st st':Option M.Gs} {a b c m x y r:Int} {xs:List Int} {ds:List M.Dcl} {t:M.Tm} {rs:List (List Int)}
theorem cutEq {lo hi:Nat} {kl kh:IntKind} (h:Ints F w v xs) (k:lo<=hi) (j:hi<=xs.length):∃v',(∀(w':World) (K:oK),xq ze v (some (.int kl lo)) (some (.int kh hi)) none w' K=K v' w')/\Ints F w v' ((xs.drop lo).take (hi-lo)):=by
 have d:elB ze 1=true:=XW;obtain⟨hu,hs⟩:=YJ d;have hlen:((xs.drop lo).take (hi-lo)).length=hi-lo:=by rw[V0,GK];omega
 obtain⟨a,c,rfl,g,i,b⟩:=h.shape;rw[y1,y1] at g;refine⟨sliced a lo hi c 1,λw' K=>ya ?_,?_⟩
 ·rw[y1,y1,run_sliceAt_slice w' ze _ _ _ _ hu,run_slice_lh w' ze _ _ _ hu kl kh lo hi oM oM oM,Go.Vc.run_sizeOf hs];simp[Result.andThen]
 ·have key:=Ints.cutLH (t:=ze) (kl:=kl) (kh:=kh) (w':=w) (K:=λv' w'=>v'=sliced a lo hi c 1->Ints F w v' ((xs.drop lo).take (hi-lo))) h d k j λv' f _=>f;rw[y1,y1] at key;have e:xq ze (.slice a xs.length c) (some (.int kl lo)) (some (.int kh hi)) none w (λv' w'=>v'=sliced a lo hi c 1->Ints F w v' ((xs.drop lo).take (hi-lo)))=(sliced a lo hi c 1=sliced a lo hi c 1->Ints F w (sliced a lo hi c 1) ((xs.drop lo).take (hi-lo))):=ya (by
   rw[run_sliceAt_slice w ze _ _ _ _ hu,run_slice_lh w ze _ _ _ hu kl kh lo hi oM oM oM,Go.Vc.run_sizeOf hs];simp[Result.andThen];rfl)
  rw[e] at key;exact key rfl
theorem qm0 (ps:List (M.Bd (List Int))) (p:M.Bd (List Int)):M.seqB (ps++[p])=(M.seqB ps).bind λrs=>p.map λr=>rs++[r]:=by
 induction ps with
 |nil=>rfl
 |cons q ps a=>
  show(q.bind λr=>(M.seqB (ps++[p])).map (r:: ·))=((q.bind λr=>(M.seqB ps).map (r:: ·)).bind λrs=>p.map λr=>rs++[r]);rw[M.Bd.bind_assoc];congr 1
  funext r
  rw[a];unfold M.Bd.map;rw[M.Bd.bind_assoc,M.Bd.bind_assoc];congr 1
  funext rs
  rw[M.Bd.bind_assoc];rfl
theorem yQ0 {ps:List (M.Bd (List Int))} {p:M.Bd (List Int)} {st a st2:Option M.Gs} {rs:List (List Int)} {r:List Int} (h:M.Bd.Out n (M.seqB ps) st a rs) (b:M.Bd.Out n p a st2 r):M.Bd.Out n (M.seqB (ps++[p])) st st2 (rs++[r]):=by
 rw[qm0];exact M.Bd.Out.bind h (M.Bd.Out.map _ b)
theorem ks_few (hs:M.sortM ds t≠ -1):t.ks.length<=3:=by
 obtain⟨a,c,b⟩:=M.right_op hs;have h:M.arity t.op<=3:=by
  unfold M.arity;repeat' split
  all_goals omega
 omega
theorem sdo8_spec (ac:M.declOk ds=true) (hn:n<=8):∀(t:M.Tm),M.sortM ds t≠ -1->∀{w:World} {K:oK} {D:Nat->Prop} {cs:List Value} {st:Option M.Gs} {tv:Value} {Fd Ft:Nat->Prop},MkR n D w cs st->(∀b,D b->b<w.heap.size)->DclsR Fd w dv ds->TermR Ft w tv t->
  (∀w' cs' st' r zs,Ext w w'->MkR n D w' cs' st'->Ints (New w) w' r zs->SnL st' zs->M.Bd.Out n (M.termB ds t) st st' zs->K (.tuple #[.agg ⟨cs'⟩,r]) w')->
  vcall ym0 #[.agg ⟨cs⟩,dv,tv] w K:=by
 refine M.Tm.ind λt ih hs w K D cs st tv Fd Ft hk hD ay ht hK=>?_;obtain⟨kw,rfl,bz⟩:=ht;refine zg {ord:=[oz 6 (oR 13) [(0,[1,2,3,4,5,6]),(1,[2,3,4,5,6]),(2,[4]),(3,[4]),(9,[10]),(10,[11])],oz 9 (oR 6) [(0,[1,2,3]),(1,[2])],oz 11 [0,2,3,4,5,6,7,8,9,10,1,11,12,13] [(0,[2,3,4,5,6,7,8,9,10,1,11]),(2,[5,6,7,8,9,1]),(3,[5,6,7,8,9,1]),(4,[5,6,7,8,9,1]),(5,[7,8,9,1]),(6,[7,8,9,1]),(7,[1]),(8,[1]),(9,[1]),(10,[1])],oz 15 (oR 11) [(0,[1,2,3,4,5]),(1,[3,4,5]),(2,[3,4,5]),(7,[8])],oz 18 (oR 15) [(0,[1,2,3,4,5,6,7,8]),(1,[3,4,5,6,7,8]),(2,[3,4,5,6,7,8]),(3,[6,7,8]),(4,[6,7,8]),(5,[6,7,8]),(11,[12]),(12,[13])],oz 20 (oR 14) [(0,[1,2,3,4,5,6,7,8]),(1,[3,4,5,6,7,8]),(2,[3,4,5,6,7,8]),(3,[6,7,8]),(4,[6,7,8]),(5,[6,7,8]),(10,[11])]],loops:=[(3,[8,9])]} Tryz.func71 ?_;have ci:=ks_few hs;refine Fm.start2 hk hD λb4 b5 b8 w1 h1 aw c8=>?_;refine yq Qd j9 λb6 w2 cq az cx bp=>?_;have c9:OwnV zI w2 (.slice (some ⟨b6,0,none⟩) 0 0) []:=Blk.own1 (t:=zI) (cs:=[]) (by rw[Uz];exact bp) (gM _) rfl rfl oM;have h2:Fm n D (O1 (.slice (some ⟨b6,0,none⟩) 0 0)) w b4 b8 w2 st:=h1.own (S:=λ_=>False) az (λb l=>l) λb l=>by
  have e:b6=b:=y2 l;exact⟨oM,.inr oM⟩
 have ct:=aw.lt;have bs:TmsR (Low w) w kw t.ks:=bz.weaken λb _ hl=>hl;refine vloop_up t.ks.length (λi u w'=> ∃kv E vs rs,u=[kv,nI i]/\Fm n D (O1 kv) w b4 b8 w' E/\Blk w' b5 [nI t.op,nI t.a,nI t.b,.string t.s,kw] za/\(∀b,kv.ownBlock=some b->b≠b5)/\OwnV zI w' kv vs/\vs.length=i/\rs.length=i/\
  (∀j,j<i->Ints (Kp b4 b8 (O1 kv)) w' (vs.getD j undef) (rs.getD j []))/\(∀r,r∈rs->SnL E r)/\M.Bd.Out n (M.seqB ((t.ks.take i).map (M.termB ds))) st E rs)
  ⟨_,st,[],[],rfl,h2,aw.ext az,λb l=>by have e:b6=b:=y2 l;omega,c9,rfl,rfl,λj hj=>absurd hj oM,(λr hr=>by cases hr),M.Bd.Out.ret _ _⟩ ?_
 rintro i _ g w3 C hi ⟨kv,E,vs,rs,rfl,T,m,bb,ao,av,be,hint,au,ae⟩ hC;have al:TmsR (Low w) w3 kw t.ks:=bs.ext T.ext;simp(disch:=first|(simp only[push_cast])|omega) only[push_cast,m.ld4,al.len];refine zb (λa=>?_) (λa=>?_)
 ·have N:i<t.ks.length:=oM;refine spec_nil λvz f bj e4 cj=>?_;refine zd λR p _=>?_;have y:=e4.trans p;have h5:=T.grow y;have V:=m.ext y;have ax:=al.ext y;obtain⟨c5,z,b3⟩:=h5.call;simp(disch:=first|(simp only[push_cast])|omega) only[push_cast,V.ld4,ax.iaddr,b3 R (Same.refl _ _),true_and];refine ax.load zc N λx hx=>?_;simp only[push_cast,true_and];have I:t.ks.getD i default∈t.ks:=M.getD_mem N _;refine ih _ I ((M.sort_parts hs).2.1 _ I) z h5.dl (ay.ext h5.ext) hx λw6 cn bl r zs a9 A F bi ab=>?_;simp only[push_cast,true_and];refine h5.put a9 A λw7 h7 ad bk=>?_
  try simp only[push_cast,true_and,and_self]
  have l5:=h5.lt4;have ar:Ints (Kp b4 b8 (O1 kv)) w7 r zs:=Ints.same (Ints.weaken (F':=Kp b4 b8 (O1 kv)) F λb l _=>by
   have cp:R.heap.size<=b:=l;exact⟨oM,oM,λhO=>by have:=(h5.off b hO).1;omega⟩) ad λb l _ e=>l.1 e
  have ap:OwnV zI w7 kv vs:=((ao.ext y).ext a9).same ad λb l=>(T.off b l).2.2.1;have bq:=(V.ext a9).same ad (λe=>c8.2.1 e);have am:∀j,j<i->Ints (Kp b4 b8 (O1 kv)) w7 (vs.getD j undef) (rs.getD j []):=λj hj=>Ints.kp4 (Ints.ext (Ints.ext (hint j hj) y) a9) ad;refine zD Qd j9 W4 rfl (Sl.cells1 ar) λb9 w9 cr aa cy br=>?_;refine(ap.ext aa).app1 ZR br (Sl.one ar) oM oM λv10 w10 ai a0 Y=>?_
  try simp(disch:=omega) only[push_cast,zk]
  have bo:Fm n D (O1 v10) w b4 b8 w10 bl:=(h7.grow aa).own a0 (λb l=>l) λb l=>⟨ai.lt l,Y b l⟩;have b2:∀{xv:Value} {xs:List Int},Ints (Kp b4 b8 (O1 kv)) w7 xv xs->Ints (Kp b4 b8 (O1 v10)) w10 xv xs:=λh=>Ints.kpO (Ints.ext h aa) a0 (λb l=>l) λb l=>Y b l;have ag:=bq.ext aa;have cu:=ag.lt;refine hC N _ _ ⟨v10,bl,vs++[r],rs++[zs],by simp,bo,ag.same a0 (λe=>bb _ e rfl),λb l=>(Y b l).elim (bb b) λh=>oM,ai,by simp[av],by simp[be],λj hj=>?_,λq hq=>?_,?_⟩
  ·by_cases c:j<i
   ·rw[Jq oM,Jq oM];exact b2 (am j c)
   ·have:j=i:=oM;subst this;rw[Jr av,Jr be];exact b2 ar
  ·rcases gg.1 hq with h|h
   ·exact(au q h).out ab
   ·rw[gk.1 h];exact bi
  ·rw[M.take_add N default,gr];exact yQ0 ae ab
 have N:i=t.ks.length:=oM
 subst N;rw[gq] at ae;obtain⟨bf,cc⟩:=M.seq_reach ae.reach;have hlen:∀j,j<t.ks.length->(rs.getD j []).length=M.lenS (M.sortM ds (M.kid t j)):=λj hj=>by
  have I:t.ks.getD j default∈t.ks:=M.getD_mem hj _;have:=M.term_len ac _ ((M.sort_parts hs).2.1 _ I) (cc j hj);rw[this];rfl
 have W:KidsS w3 kv rs:=⟨vs,_,ao.vals,oM,λj hj=>Ints.weaken (hint j oM) λ_ _ _=>trivial⟩;have fin:∀{af:Option M.Gs} {zs:List Int},M.Bd.Out n (M.nodeB ds t rs) E af zs->M.Bd.Out n (M.termB ds t) st af zs:=λh=>by
  rw[M.termB_eq];exact M.Bd.Out.bind ae h
 have a6:∀w',Ext w3 w'->TermR (Low w) w' (.agg ⟨[nI t.op,nI t.a,nI t.b,.string t.s,kw]⟩) t:=λw' he=>⟨kw,rfl,al.ext he⟩;obtain⟨c3,O,k⟩:=T.call;have X:∀(w':World) (K:oK),vbi .len [zI] zC [kv] w' K=K (nI t.ks.length) w':=λw' K=>by rw[ao.vals.len Zw0,av]
 rw[X];simp only[push_cast];obtain⟨co,hp,cw⟩:=M.right_op hs;obtain⟨q1,q2,q3,q4,q5,q6,q7⟩:=M.node_right ac hs (L:=λi=>(rs.getD i []).length) hlen;have get:∀i,i<rs.length->SnL E (rs.getD i []):=λi hi=>au _ (M.getD_mem hi []);refine zb (λc0=>?_) (λc0=>?_)
 ·have h0:t.ks.length=0:=oM;refine zd λf d _=>?_;have o:=m.ext d;simp(disch:=first|(simp only[push_cast])|omega) only[push_cast,k f d,o.ldAgg (t:=za) zc,true_and];refine sleaf8_spec (n:=n) (st:=E) ac hs h0 (ay.ext (T.ext.trans d)) (a6 f d) λR r zs p B J G aq=>?_;simp only[k R (d.trans p),true_and,and_self];have z4:=d.size;refine T.res (d.trans p) (O.ext (d.trans p) λ_ h _=>h) (qX B λb l=>by have:=J b l;omega) λw6 e6 A F=>hK w6 c3 E r zs e6 A F G (fin ?_);have:rs=[]:=pT.1 oM;rw[this];exact aq
 have bc: ¬(t.op=20\/t.op=21\/t.op=24):=λh=>by
  have:M.arity t.op=0:=by rcases h with h|h|h<;>rw[h]<;>decide
  omega
 obtain⟨H,U,Q⟩:=W.vals;simp(disch:=first|(simp only[push_cast])|omega) only[push_cast,m.ld0];refine zb (λc=>?_) (λcm=>?_)
 ·obtain⟨k1,b0,ba,aL,L4⟩:=q5 c;have cl:t.a<((rs.getD 0 []).length:Int):=aL;have ck:(rs.getD 0 []).length<=4:=L4;refine zd λf d _=>?_;have o:=m.ext d;have A0:∀w',Ext w3 w'->∀K:oK,zU zI kv (nI 0) w' K=K (.pointer (some (eaddr kv 1 0))) w':=λw' he K=>(U w' he 0 oM K).1;have B0:∀w',Ext w3 w'->∀K:oK,zu ze (.pointer (some (eaddr kv 1 0))) w' K=K (H.getD 0 undef) w':=λw' he K=>(U w' he 0 oM K).2;obtain⟨cv,bu,bt⟩:=cutEq (kl:= .i64) (kh:= .i64) (lo:=t.b.toNat) (hi:=(t.a+1).toNat) (Q 0 oM) oM oM;have ah:∀(w':World) (K:oK),xq ze (H.getD 0 undef) (some (nI t.b)) (some (nI (t.a+1))) none w' K=K cv w':=λw' K=>by
   have:=bu w' K;rwa[show((t.b.toNat:Nat):Int)=t.b by omega,show(((t.a+1).toNat:Nat):Int)=t.a+1 by omega] at this
  simp(disch:=first|(simp only[push_cast])|omega) only[push_cast,k f d,A0 f d,B0 f d,o.ld1,o.ld2,zk,ah,true_and];refine spec_nil λv5 R B e5 J=>?_;have y:=d.trans e5;have V:=o.ext e5;simp(disch:=first|(simp only[push_cast])|omega) only[push_cast,k R y,A0 R y,B0 R y,V.ld1,V.ld2,zk,ah,true_and,and_self];refine B.app xB (Ints.ext bt y) (by simp;omega) (by simp;omega) λv6 w6 ab bg c4=>?_;have z4:=d.size;have z5:=e5.size;have ak:Ext f w6:=Ext.then e5 bg λb l=>J b l;simp(disch:=first|(simp only[push_cast])|omega) only[push_cast,k w6 (d.trans ak),true_and,and_self];refine T.res (d.trans ak) (O.ext (d.trans ak) λ_ h _=>h) (qX ab λb l=>(c4 b l).elim (λh=>by have:=J b h;omega) λh=>oM) λw7 e7 bw bk=>hK w7 c3 E v6 _ e7 bw bk (λx hx=>?_) (fin ?_)
  ·rw[gX] at hx;exact get 0 oM x (GQ (gU hx))
  ·rw[gX];unfold M.nodeB;rw[if_neg oM,if_neg oM,if_neg oM,if_neg oM,if_neg oM,if_neg oM,if_neg oM,if_pos c,show(t.a-t.b+1).toNat=(t.a+1).toNat-t.b.toNat by omega];exact M.Bd.Out.ret _ _
 try simp(disch:=first|(simp only[push_cast])|omega) only[push_cast,m.ld0]
 refine zb (λc=>?_) (λcg=>?_)
 ·simp(disch:=first|(simp only[push_cast])|omega) only[push_cast,k w3 (Same.refl _ _),m.ldAgg (t:=za) zc];refine slogic8_spec ac hs oM (λh=>bc (.inr (.inr h))) hn O T.dl (a6 w3 (Same.refl _ _)) W bf hlen au λf bn af r zs d bv bj bh ca=>?_;simp only[push_cast];exact T.res d bv bj λR e5 z G=>hK R bn af r zs e5 z G bh (fin ca)
 have an:M.nodeB ds t rs=if t.op<=2 then M.unB t.op (rs.getD 0 []) else if 15<=t.op/\t.op<=17 then(M.cmpB t.op (rs.getD 0 []) (rs.getD 1 [])).map λv=>[v] else M.binB t.op (rs.getD 0 []) (rs.getD 1 []):=by
  unfold M.nodeB;rw[if_neg oM,if_neg oM,if_neg oM,if_neg oM,if_neg oM,if_neg oM,if_neg oM,if_neg oM]
 rw[an] at fin;rw[X];simp only[push_cast];refine zb (λc1=>?_) (λc1=>?_)
 ·have Z:t.op<=2:=Gp λh=>by
   by_cases aj:15<=t.op
   ·have:=(q4 aj oM).1;omega
   ·by_cases bm:t.op=14
    ·have:=(q3 bm).1;omega
    ·have:=(q2 oM oM).1;omega
  rw[if_pos Z] at fin;obtain⟨k1,l1,l4⟩:=q1 oM Z;have ch:(rs.getD 0 []).length<=4:=l4;refine zd λf d _=>?_;have o:=m.ext d;have A0:∀K:oK,zU zI kv (nI 0) f K=K (.pointer (some (eaddr kv 1 0))) f:=λK=>(U f d 0 oM K).1;have B0:∀K:oK,zu ze (.pointer (some (eaddr kv 1 0))) f K=K (H.getD 0 undef) f:=λK=>(U f d 0 oM K).2;simp(disch:=first|(simp only[push_cast])|omega) only[push_cast,k f d,A0,B0,o.ld0,true_and];have h4:=T.grow d;refine sun7_spec oM hn (O.ext d λ_ h _=>h) h4.dl (Ints.ext (Q 0 oM) d) oM (get 0 oM) λR a8 a7 r zs p z G a5 B=>?_;simp only[push_cast,true_and];exact h4.res p z G λw6 e6 A F=>hK w6 a8 a7 r zs e6 A F a5 (fin B)
 have bd:3<=t.op:=Gp λh=>by have:=(q1 oM oM).1;omega
 rw[if_neg oM] at fin
 try simp(disch:=first|(simp only[push_cast])|omega) only[push_cast,m.ld0]
 refine zb (λaj=>?_) (λaj=>?_)
 ·rw[if_pos oM] at fin;obtain⟨k1,l0,l1,l4⟩:=q4 oM oM;have ce:(rs.getD 0 []).length=(rs.getD 1 []).length:=l0;have cf:1<=(rs.getD 0 []).length:=l1;have ch:(rs.getD 0 []).length<=4:=l4;refine zd λf d _=>?_;have o:=m.ext d;have A0:∀K:oK,zU zI kv (nI 0) f K=K (.pointer (some (eaddr kv 1 0))) f:=λK=>(U f d 0 oM K).1;have B0:∀K:oK,zu ze (.pointer (some (eaddr kv 1 0))) f K=K (H.getD 0 undef) f:=λK=>(U f d 0 oM K).2;have A1:∀K:oK,zU zI kv (nI 1) f K=K (.pointer (some (eaddr kv 1 1))) f:=λK=>(U f d 1 oM K).1;have B1:∀K:oK,zu ze (.pointer (some (eaddr kv 1 1))) f K=K (H.getD 1 undef) f:=λK=>(U f d 1 oM K).2;simp(disch:=first|(simp only[push_cast])|omega) only[push_cast,k f d,A0,B0,A1,B1,o.ld0,true_and];have h4:=T.grow d;refine scmp7_spec oM oM hn (O.ext d λ_ h _=>h) h4.dl (Ints.ext (Q 0 oM) d) (Ints.ext (Q 1 oM) d) ce cf oM (get 0 oM) (get 1 oM) λR a8 a7 r p z cb B=>?_;simp only[push_cast,true_and];refine h4.put p z λw6 h6 bg F=>?_
  try simp only[push_cast,true_and,and_self]
  obtain⟨c6,A,b7⟩:=h6.call;simp only[b7 w6 (Same.refl _ _)];refine spec_one λw7 rv b1 ap c7=>?_;exact h6.res b1 (A.ext b1 λ_ h _=>h) (qX ap c7) λw8 e8 bx cd=>hK w8 c6 a7 rv [r] e8 bx cd (SnL.one cb) (fin (M.Bd.Out.map _ B))
 rw[if_neg oM] at fin;have c2:t.ks.length=2/\(t.op≠14->(rs.getD 0 []).length=(rs.getD 1 []).length)/\1<=(rs.getD 0 []).length/\(rs.getD 0 []).length<=8/\(rs.getD 1 []).length<=8:=by
  by_cases c:t.op=14
  ·obtain⟨a1,a2,a3,a4⟩:=q3 c;exact⟨a1,λh=>absurd c h,a2,oM,oM⟩
  ·obtain⟨a1,a2,a3,a4⟩:=q2 oM oM;exact⟨a1,λ_=>a2,a3,oM,oM⟩
 obtain⟨k1,l0,l1,l2,l3⟩:=c2;refine zd λf d _=>?_;have o:=m.ext d;have A0:∀K:oK,zU zI kv (nI 0) f K=K (.pointer (some (eaddr kv 1 0))) f:=λK=>(U f d 0 oM K).1;have B0:∀K:oK,zu ze (.pointer (some (eaddr kv 1 0))) f K=K (H.getD 0 undef) f:=λK=>(U f d 0 oM K).2;have A1:∀K:oK,zU zI kv (nI 1) f K=K (.pointer (some (eaddr kv 1 1))) f:=λK=>(U f d 1 oM K).1;have B1:∀K:oK,zu ze (.pointer (some (eaddr kv 1 1))) f K=K (H.getD 1 undef) f:=λK=>(U f d 1 oM K).2;simp(disch:=first|(simp only[push_cast])|omega) only[push_cast,k f d,A0,B0,A1,B1,o.ld0,true_and];have h4:=T.grow d;refine sbin7_spec bd oM hn (O.ext d λ_ h _=>h) h4.dl (Ints.ext (Q 0 oM) d) (Ints.ext (Q 1 oM) d) l0 l1 l2 l3 (get 0 oM) (get 1 oM) λR a8 a7 r zs p z G a5 B=>?_;simp only[push_cast,true_and];exact h4.res p z G λw6 e6 A F=>hK w6 a8 a7 r zs e6 A F a5 (fin B)
end
section
variable {n:Nat} {st st':Option M.Gs} {a b c:Int} {ds:List M.Dcl} {t:M.Tm}
theorem bits_nat (a:M.declOk ds=true):M.bits ds=(((M.bits ds).toNat:Nat):Int)/\(M.bits ds).toNat<=8:=by
 have c:=(M.decl_iff.1 a).2.2;have b:=(dcl_small a (i:=ds.length) (gp _)).1;rw[M.bitT_all] at b;exact⟨oM,oM⟩
theorem out_lens {zs:List Int} (b:M.declOk ds=true) (hs:M.sortM ds t≠ -1) (c:M.Bd.Out n (M.termB ds t) st st' zs):zs.length=M.lenS (M.sortM ds t)/\zs.length<=4:=by
 have a:=M.term_len b t hs c.reach;have d:=M.sort_range b t;refine⟨a,?_⟩;rw[a];unfold M.lenS;omega
end
end Go.Proofs.YtolbhkcajhlllaaGreatDoor
namespace Go.M
open Go.Vc
section
mutual
def sameT:Tm->Tm->Bool
 | .mk o a b s ks,.mk o' a' b' s' ks'=>decide (o=o')&&decide (a=a')&&decide (b=b')&&decide (s=s')&&sameL ks ks'
def sameL:List Tm->List Tm->Bool
 |[],[]=>true
 |x::xs,y::ys=>sameT x y&&sameL xs ys
 |[],_::_=>false
 |_::_,[]=>false
end
theorem sameL_of {xs:List Tm} (a:∀k,k∈xs->∀y,sameT k y=true↔k=y):∀ys,sameL xs ys=true↔xs=ys:=by
 induction xs with
 |nil=>intro ys;cases ys<;>simp[sameL]
 |cons x xs ihx=>
  intro ys;cases ys with
  |nil=>simp[sameL]
  |cons y ys=>
   grind [sameL]
theorem sameT_iff:∀t u:Tm,sameT t u=true↔t=u:=by
 refine Tm.ind λt c u=>?_;cases t with
 |mk o a b s ks=>
  cases u with
  |mk o' e f g d=>
   rw[sameT,K3,sameL_of (xs:=ks) c]
   grind
instance:DecidableEq Tm:=λt u=>decidable_of_iff _ (sameT_iff t u)
theorem tm_ext {t u:Tm} (c:t.op=u.op) (d:t.a=u.a) (e:t.b=u.b) (f:t.s=u.s) (g:t.ks=u.ks):t=u:=by
 cases t;cases u
 grind [Tm.op,Tm.a,Tm.b,Tm.s,Tm.ks]
def truT:Tm:= .mk 24 0 0 nada []
def flsT:Tm:= .mk 25 0 0 nada [truT]
def fixedM (t:Tm):Option Int:=if t=truT then some 1 else if t=flsT then some 0 else if t.op=20/\t.ks=[]/\t.s=nada/\vok t.a t.b=true then some t.b else none
def isM (t:Tm) (n:Int):Bool:=decide (fixedM t=some n)
def constM (w n:Int):Tm:=if 0<w then .mk 20 w n nada [] else if n=1 then truT else flsT
def zeroE (ds:List Dcl):List Int:=List.replicate ds.length 0
theorem zeroE_ok {ds:List Dcl} (h:declOk ds=true):envOk ds (zeroE ds)=true:=by
 unfold envOk zeroE;rw[h,gu];simp only[decide_true,pn,gW,gF];intro i hi;have hw:=dcl_wide h hi;simp_all[vok_iff,Int.pow_pos]
section
variable {ds:List Dcl} {env:List Int} {t u:Tm} {w n:Int}
theorem W8:sortM ds truT=0:=by rw[sort_leaf (formed_iff.2 ⟨rfl,rfl⟩) rfl];rfl
theorem yJ0:evalM ds env truT=1:=by rw[eval_leaf (.inr (.inr rfl))];rfl
theorem Ub (a:declOk ds=true):sortM ds flsT=0:=by
 rw[sort_one a (formed_iff.2 ⟨rfl,rfl⟩) rfl];show oneM _ (sortM ds truT)=0;rw[W8];rfl
theorem ky0 (he:envOk ds env=true):evalM ds env flsT=0:=by
 rw[(eval_no he (by rw[Ub (env_ok he).1];decide) rfl).2.2];show(1:Int)-evalM ds env truT=0;rw[yJ0];rfl
theorem vec_sort {t:Tm} (c:t.op=20) (d:t.ks=[]) (e:t.s=nada) (g:vok t.a t.b=true):sortM ds t=t.a:=by
 have f:plainM t=true:=by simp[plainM,c,e]
 rw[sort_leaf (formed_iff.2 ⟨by rw[c,d];rfl,f⟩) (by grind)];simp_all[sortK]
theorem fixed_cases (h:fixedM t=some n):(t=truT/\n=1)\/(t=flsT/\n=0)\/(t.op=20/\t.ks=[]/\t.s=nada/\vok t.a t.b=true/\n=t.b):=by
 grind [fixedM]
theorem fixed_good (he:envOk ds env=true) (h:fixedM t=some n):sortM ds t≠ -1/\evalM ds env t=n/\inS (sortM ds t) n:=by
 rcases fixed_cases h with⟨rfl,rfl⟩|⟨rfl,rfl⟩|⟨a,c,d,b,rfl⟩
 ·rw[W8,yJ0];exact⟨dC,rfl,.inl ⟨rfl,.inr rfl⟩⟩
 ·rw[Ub (env_ok he).1,ky0 he];exact⟨dC,rfl,.inl ⟨rfl,.inl rfl⟩⟩
 ·rw[vec_sort a c d b,eval_leaf (.inl a),if_pos a];have:=vok_lt b;exact⟨oM,rfl,.inr b⟩
theorem isM_iff:isM t n=true↔fixedM t=some n:=by unfold isM;grind
theorem const_fixed (h:inS w n):fixedM (constM w n)=some n:=by
 unfold constM;rcases h with⟨c,b⟩|h
 ·rw[if_neg oM];rcases b with e|e
  ·rw[e,if_neg dC];rfl
  ·rw[e,if_pos rfl];rfl
 ·have hw:=vok_lt h;rw[if_pos oM];have a: ¬Tm.mk 20 w n nada []=truT:=λe=>by
   have e:(20:Int)=24:=congrArg Tm.op e;omega
  have a2: ¬Tm.mk 20 w n nada []=flsT:=λe=>by
   have e:(20:Int)=25:=congrArg Tm.op e;omega
  unfold fixedM;rw[if_neg a,if_neg a2];exact if_pos ⟨rfl,rfl,rfl,h⟩
theorem const_sort (c:declOk ds=true) (h:inS w n):sortM ds (constM w n)=w:=by
 unfold constM;rcases h with⟨a,b⟩|h
 ·rw[if_neg oM]
  grind [W8,Ub]
 ·have hw:=vok_lt h;rw[if_pos oM];exact vec_sort rfl rfl rfl h
theorem kV (he:envOk ds env=true) (h:inS w n):evalM ds env (constM w n)=n:=(fixed_good he (const_fixed h)).2.1
def allFixed (t:Tm):Bool:=decide (t.ks≠[])&&t.ks.all λk=>(fixedM k).isSome
def ruleX (ds:List Dcl) (t:Tm):Option Tm:=if allFixed t=true then some (constM (sortM ds t) (evalM ds (zeroE ds) t)) else none
def ruleB (t:Tm):Option Tm:=
 if t.op=25/\(kid t 0).op=25 then some (kid (kid t 0) 0)
 else if t.op≠23 then none
 else if isM (kid t 0) 1=true then some (kid t 1)
 else if isM (kid t 0) 0=true then some (kid t 2)
 else if kid t 1=kid t 2 then some (kid t 1) else none
def neutral (o:Int):Int:=if o=26 then 1 else 0
def ruleT (t:Tm):Option Tm:=
 if t.op=26\/t.op=27 then
  if isM (kid t 0) (neutral t.op)=true\/kid t 0=kid t 1 then some (kid t 1)
  else if isM (kid t 1) (neutral t.op)=true then some (kid t 0)
  else if isM (kid t 0) (1-neutral t.op)=true\/isM (kid t 1) (1-neutral t.op)=true then some (constM 0 (1-neutral t.op)) else none
 else none
def ruleL (ds:List Dcl) (t:Tm):Option Tm:=
 if t.op=22 then(if t.b=0/\t.a=sortM ds (kid t 0)-1 then some (kid t 0) else none)
 else if(t.op=1\/t.op=2)/\(kid t 0).op=t.op then some (kid (kid t 0) 0) else none
def ruleW (ds:List Dcl) (t:Tm):Option Tm:=
 if t.ks.length=2/\kid t 0=kid t 1 then
  if t.op=3\/t.op=4 then some (kid t 0)
  else if t.op=5\/t.op=7 then some (constM (sortM ds t) 0)
  else if t.op=15 then some (constM 0 1)
  else if t.op=16\/t.op=17 then some (constM 0 0) else none
 else none
def ruleS (t:Tm):Option Tm:=
 if t.ks.length=2 then
  if isM (kid t 1) 0=true/\(t.op=4\/t.op=5\/t.op=6\/t.op=7\/t.op=11\/t.op=12\/t.op=13) then some (kid t 0)
  else if isM (kid t 1) 0=true/\(t.op=3\/t.op=8) then some (kid t 1)
  else if isM (kid t 1) 1=true/\t.op=8 then some (kid t 0) else none
 else none
def ruleF (t:Tm):Option Tm:=
 if t.ks.length=2 then
  if isM (kid t 0) 0=true/\(t.op=4\/t.op=5\/t.op=6) then some (kid t 1)
  else if isM (kid t 0) 0=true/\(t.op=3\/t.op=8) then some (kid t 0)
  else if isM (kid t 0) 1=true/\t.op=8 then some (kid t 1) else none
 else none
def ruleA (ds:List Dcl) (t:Tm):Option Tm:=ruleX ds t <|> ruleB t <|> ruleT t <|> ruleL ds t <|> ruleW ds t <|> ruleS t <|> ruleF t
def oneT (ds:List Dcl) (t:Tm):Tm:=(ruleA ds t).getD t
def foldT (ds:List Dcl):Tm->Tm:=Tm.fold λt us=>oneT ds (.mk t.op t.a t.b t.s us)
theorem kw0 (ds:List Dcl) (t:Tm):foldT ds t=oneT ds (.mk t.op t.a t.b t.s (t.ks.map (foldT ds))):=Tm.fold_eq _ t
inductive Src (t:Tm):Tm->Prop
 |kid (i:Nat) (h:i<t.ks.length):Src t (kid t i)
 |deep (i j:Nat) (h:i<t.ks.length) (h':j<(M.kid t i).ks.length):Src t (M.kid (M.kid t i) j)
 |const (w n:Int) (h:t.ks≠[]) (h':inS w n):Src t (constM w n)
structure Step (ds:List Dcl) (t u:Tm):Prop where
 src:Src t u
 sort:sortM ds u=sortM ds t
 eval:∀env,envOk ds env=true->evalM ds env u=evalM ds env t
theorem Qf {α:Type} {a b:Option α} {x:α} (h:(a <|> b)=some x):a=some x\/(a=none/\b=some x):=by
 simp_all
theorem ks_ne {i:Nat} (h:i<t.ks.length):t.ks≠[]:=by grind
theorem len_of (hs:sortM ds t≠ -1):arity t.op=t.ks.length:=(formed_iff.1 (sort_parts hs).1).1
theorem allFixed_eval (he:envOk ds env=true) (hs:sortM ds t≠ -1) (h:allFixed t=true):evalM ds (zeroE ds) t=evalM ds env t:=by
 have d:=zeroE_ok (env_ok he).1;unfold allFixed at h;simp only[K3,decide_eq_true_eq,gW] at h;have a:t.ks.map (vecM ds (zeroE ds))=t.ks.map (vecM ds env):=GH λk a=>by
  obtain⟨n,c⟩:=GL.1 (h.2 k a);simp_all[vecM_pair,fixed_good]
 have b:t.op≠21:=by grind [len_of,arity,List.eq_nil_of_length_eq_zero]
 rw[evalM_eq,evalM_eq,a];unfold valK;omega
theorem ruleX_step (a:declOk ds=true) (hs:sortM ds t≠ -1) (h:ruleX ds t=some u):Step ds t u:=by
 unfold ruleX at h;split at h
 ·rename_i b;obtain rfl:=(y2 h).symm;have hi:=eval_in (zeroE_ok a) t hs;refine⟨.const _ _ (by grind [allFixed]) hi,const_sort a hi,λenv he=>?_⟩
  grind [kV,allFixed_eval]
 ·cases h
theorem ruleB_step (f:declOk ds=true) (hs:sortM ds t≠ -1) (h:ruleB t=some u):Step ds t u:=by
 have g:=(sort_parts hs).1;have k:=len_of hs;unfold ruleB at h;split at h
 ·rename_i l;obtain rfl:=(y2 h).symm;have b:t.ks.length=1:=(by grind [arity]);have k0:=good_kid hs (i:=0) oM;have c:(kid t 0).ks.length=1:=(by grind [len_of]);have m:=good_kid k0 (i:=0) oM;refine⟨.deep 0 0 oM oM,?_,λenv he=>?_⟩
  ·have j:=sort_one f g b;have s1:=sort_one f (sort_parts k0).1 c
   grind [oneM]
  grind [eval_no]
 ·split at h
  ·cases h
  ·rename_i a;have a:t.op=23:=oM;have d:t.ks.length=3:=(by grind [arity]);have j:=sort_three (ds:=ds) g d;have e:=hs;rw[j] at e;have gs:sortM ds (kid t 1)=sortM ds (kid t 2):=by
    omega
   have st:sortM ds t=sortM ds (kid t 1):=by
    omega
   split at h
   ·rename_i hi;obtain rfl:=(y2 h).symm;refine⟨.kid 1 oM,st.symm,λenv he=>?_⟩;simp_all[eval_if,fixed_good,isM_iff]
   ·split at h
    ·rename_i hi;obtain rfl:=(y2 h).symm;refine⟨.kid 2 oM,by rw[st,gs],λenv he=>?_⟩;simp_all[eval_if,fixed_good,isM_iff]
    ·split at h
     ·rename_i hi;obtain rfl:=(y2 h).symm;refine⟨.kid 1 oM,st.symm,λenv he=>?_⟩;simp_all[eval_if]
     ·cases h
theorem ruleT_step (f:declOk ds=true) (hs:sortM ds t≠ -1) (h:ruleT t=some u):Step ds t u:=by
 have g:=(sort_parts hs).1;have m:=len_of hs;unfold ruleT at h;split at h
 ·rename_i k;have c:t.ks.length=2:=(by grind [arity]);have l:=sort_two f g c;have b:=hs;rw[l] at b;obtain⟨g0,g1⟩:=(both_good b).1 k;have st:sortM ds t=0:=(by simp_all[bothM]);have j:neutral t.op=1/\t.op=26\/neutral t.op=0/\t.op=27:=by
   grind [neutral]
  have ev:∀env,envOk ds env=true->inS 0 (evalM ds env (kid t 0))/\inS 0 (evalM ds env (kid t 1))/\evalM ds env t=if t.op=26 then evalM ds env (kid t 0)*evalM ds env (kid t 1) else max (evalM ds env (kid t 0)) (evalM ds env (kid t 1)):=by grind [eval_two]
  split at h
  ·rename_i hi;obtain rfl:=(y2 h).symm;refine⟨.kid 1 oM,by rw[st,g1],λenv he=>?_⟩;obtain⟨i0,i1,e⟩:=ev env he;rw[e];rcases hi with hi|hi
   ·have:=(fixed_good he (isM_iff.1 hi)).2.1
    grind [inS_zero]
   grind [inS_zero]
  ·split at h
   ·rename_i hi;obtain rfl:=(y2 h).symm;refine⟨.kid 0 oM,by rw[st,g0],λenv he=>?_⟩;obtain⟨i0,i1,e⟩:=ev env he;rw[e,(fixed_good he (isM_iff.1 hi)).2.1]
    grind [inS_zero]
   ·split at h
    ·rename_i hi;obtain rfl:=(y2 h).symm;have a:inS 0 (1-neutral t.op):=by
      rcases j with⟨d,_⟩|⟨d,_⟩<;>rw[d]
      ·exact .inl ⟨rfl,.inl rfl⟩
      ·exact .inl ⟨rfl,.inr rfl⟩
     refine⟨.const _ _ (ks_ne (i:=0) oM) a,by rw[st,const_sort f a],λenv he=>?_⟩;obtain⟨i0,i1,e⟩:=ev env he;rw[e,kV he a];rcases hi with hi|hi<;>rw[(fixed_good he (isM_iff.1 hi)).2.1]
     ·grind [inS_zero]
     grind [inS_zero]
    ·cases h
 ·cases h
theorem cut_all {w a:Int} (h:vok w a=true):cutM a (w-1) 0=a:=by
 obtain⟨b,c,d,e⟩:=vok_iff.1 h;unfold cutM
 grind [four]
theorem un_un {o w a:Int} (h:vok w a=true):unM o w (unM o w a)=a:=by
 obtain⟨b,c,d,e⟩:=vok_iff.1 h;unfold unM
 grind [four]
theorem ruleL_step (f:declOk ds=true) (hs:sortM ds t≠ -1) (h:ruleL ds t=some u):Step ds t u:=by
 have m:=(sort_parts hs).1;have r:=len_of hs;unfold ruleL at h;split at h
 ·rename_i b;split at h
  ·rename_i q;obtain rfl:=(y2 h).symm;have a:t.ks.length=1:=(by grind [arity]);have k:=sort_one f m a;have c:=hs;rw[k] at c;have g:=one_good oM c;have g2:=oM;have g3:=g.2.2 b;refine⟨.kid 0 oM,?_,λenv he=>?_⟩
   ·grind [oneM]
   ·obtain⟨_,j,e⟩:=eval_cut he hs b;rw[e];unfold vecCut;simp_all[cut_all]
  ·cases h
 ·split at h
  ·rename_i b;obtain rfl:=(y2 h).symm;have a:t.ks.length=1:=(by grind [arity]);have k0:=good_kid hs (i:=0) oM;have d:(kid t 0).op=1\/(kid t 0).op=2:=oM;have n:(kid t 0).ks.length=1:=(by grind [len_of]);have s:=good_kid k0 (i:=0) oM;have p:∀{t:Tm},sortM ds t≠ -1->(t.op=1\/t.op=2)->t.ks.length=1->sortM ds t=sortM ds (kid t 0):=λ{t} hs b a=>by
    have k:=sort_one f (sort_parts hs).1 a
    grind [oneM]
   refine⟨.deep 0 0 oM oM,?_,λenv he=>?_⟩
   ·grind
   ·obtain⟨_,j,e⟩:=eval_un he hs b.1;obtain⟨_,o,l⟩:=eval_un he k0 d;rw[e];unfold vecUn;rw[if_pos ⟨j,b.1⟩];show _=unM t.op (sortM ds (kid t 0)) (evalM ds env (kid t 0));rw[l];unfold vecUn
    grind [un_un]
  ·cases h
def binT (w n:Nat):Prop:=
 (binN 3 w n n=n/\binN 4 w n n=n/\binN 5 w n n=0/\binN 7 w n n=0)/\
 (binN 4 w n 0=n/\binN 5 w n 0=n/\binN 6 w n 0=n/\binN 7 w n 0=n/\binN 11 w n 0=n/\binN 12 w n 0=n/\binN 13 w n 0=n)/\
 (binN 3 w n 0=0/\binN 8 w n 0=0/\binN 8 w n 1=n)/\
 (binN 4 w 0 n=n/\binN 5 w 0 n=n/\binN 6 w 0 n=n/\binN 3 w 0 n=0/\binN 8 w 0 n=0/\binN 8 w 1 n=n)
instance (w n:Nat):Decidable (binT w n):=by unfold binT;infer_instance
theorem bin_tab {w n:Int} (h:vok w n=true):binT w.toNat n.toNat:=small1 (p:=binT) (by decide+kernel) h
theorem bin_parts (i:declOk ds=true) (hs:sortM ds t≠ -1) (h:t.ks.length=2) (d:3<=t.op) (c:t.op<=13):sortM ds (kid t 0)=sortM ds t/\sortM ds (kid t 1)=sortM ds t/\
  ∀env,envOk ds env=true->vok (sortM ds t) (evalM ds env (kid t 0))=true/\vok (sortM ds t) (evalM ds env (kid t 1))=true/\evalM ds env t=binN t.op.toNat (sortM ds t).toNat (evalM ds env (kid t 0)).toNat (evalM ds env (kid t 1)).toNat:=by
 have f:=sort_two i (sort_parts hs).1 h;have b:=hs;rw[f] at b;have g:=(both_good b).2 oM;have a:=g.2.2.2 oM;have st:sortM ds t=sortM ds (kid t 0):=by
  rw[f];unfold bothM;rw[if_neg oM,if_neg oM,if_neg oM,if_neg oM,if_neg oM]
 refine⟨st.symm,by rw[st,a],λenv he=>?_⟩;obtain⟨_,v0,v1,e⟩:=eval_bin he hs d oM;refine⟨by rw[st];exact v0,by rw[st,a];exact v1,?_⟩;rw[e];unfold vecBin;rw[if_pos (show vok _ _=true/\vok _ _=true from⟨v0,v1⟩),if_neg (show¬t.op=14 by omega),if_pos (show 3<=t.op/\t.op<=13/\_=_ from⟨d,c,a⟩),st];rfl
theorem nat_of {w n:Int} (h:vok w n=true):((n.toNat:Nat):Int)=n:=by have:=vok_lt h;omega
theorem ruleW_step (d:declOk ds=true) (hs:sortM ds t≠ -1) (h:ruleW ds t=some u):Step ds t u:=by
 have p:=(sort_parts hs).1;unfold ruleW at h;split at h
 ·rename_i m;obtain⟨l,m⟩:=m;split at h
  ·rename_i j;obtain rfl:=(y2 h).symm;obtain⟨k,s1,ev⟩:=bin_parts d hs l oM oM;refine⟨.kid 0 oM,k,λenv he=>?_⟩
   grind [binN,nat_of]
  ·split at h
   ·rename_i j;obtain rfl:=(y2 h).symm;obtain⟨k,s1,ev⟩:=bin_parts d hs l oM oM;have c:inS (sortM ds t) 0:=by
     have:=(ev _ (zeroE_ok d)).1;obtain⟨a,b,_,_⟩:=vok_iff.1 this;exact .inr (vok_iff.2 ⟨a,b,Pe _,Int.pow_pos dC⟩)
    refine⟨.const _ _ (ks_ne (i:=0) oM) c,const_sort d c,λenv he=>?_⟩;obtain⟨v0,v1,e⟩:=ev env he;have tb:=(bin_tab v0).1
    grind [kV]
   ·have cmp:15<=t.op->t.op<=17->sortM ds t=0/\∀env,envOk ds env=true->evalM ds env t=b2i (decide (t.op=15)):=λn o=>by
     have k:=sort_two d p l;have f:=hs;rw[k] at f;have g:=(both_good f).2 oM;refine⟨?_,λenv he=>?_⟩
     ·grind [bothM]
     simp_all[eval_cmp,vecCmp,cmpM]
    split at h
    ·rename_i j;obtain rfl:=(y2 h).symm;obtain⟨st,ev⟩:=cmp oM oM;have c:inS 0 1:= .inl ⟨rfl,.inr rfl⟩;exact⟨.const _ _ (ks_ne (i:=0) oM) c,by rw[const_sort d c,st],λenv he=>by rw[kV he c,ev env he,decide_eq_true j];rfl⟩
    ·split at h
     ·rename_i n15 j;obtain rfl:=(y2 h).symm;obtain⟨st,ev⟩:=cmp oM oM;have c:inS 0 0:= .inl ⟨rfl,.inl rfl⟩;exact⟨.const _ _ (ks_ne (i:=0) oM) c,by rw[const_sort d c,st],λenv he=>by rw[kV he c,ev env he,decide_eq_false n15];rfl⟩
     ·cases h
 ·cases h
theorem ruleS_step (d:declOk ds=true) (hs:sortM ds t≠ -1) (h:ruleS t=some u):Step ds t u:=by
 unfold ruleS at h;split at h
 ·rename_i c;split at h
  ·rename_i a;obtain rfl:=(y2 h).symm;obtain⟨b,s1,ev⟩:=bin_parts d hs c oM oM;refine⟨.kid 0 oM,b,λenv he=>?_⟩;obtain⟨v0,v1,e⟩:=ev env he;have tb:=(bin_tab v0).2.1;rw[e,(fixed_good he (isM_iff.1 a.1)).2.1];rcases a.2 with o|o|o|o|o|o|o<;>rw[o]
   ·grind [nat_of]
   ·grind [nat_of]
   ·grind [nat_of]
   ·grind [nat_of]
   ·grind [nat_of]
   ·grind [nat_of]
   grind [nat_of]
  ·split at h
   ·rename_i a;obtain rfl:=(y2 h).symm;obtain⟨b,s1,ev⟩:=bin_parts d hs c oM oM;refine⟨.kid 1 oM,s1,λenv he=>?_⟩;obtain⟨v0,v1,e⟩:=ev env he;have tb:=(bin_tab v0).2.2.1;rw[e,(fixed_good he (isM_iff.1 a.1)).2.1]
    grind
   ·split at h
    ·rename_i a;obtain rfl:=(y2 h).symm;obtain⟨b,s1,ev⟩:=bin_parts d hs c oM oM;refine⟨.kid 0 oM,b,λenv he=>?_⟩;obtain⟨v0,v1,e⟩:=ev env he;have tb:=(bin_tab v0).2.2.1;rw[e,(fixed_good he (isM_iff.1 a.1)).2.1,a.2]
     grind [nat_of]
    ·cases h
 ·cases h
theorem ruleF_step (c:declOk ds=true) (hs:sortM ds t≠ -1) (h:ruleF t=some u):Step ds t u:=by
 unfold ruleF at h;split at h
 ·rename_i b;split at h
  ·rename_i a;obtain rfl:=(y2 h).symm;obtain⟨d,s1,ev⟩:=bin_parts c hs b oM oM;refine⟨.kid 1 oM,s1,λenv he=>?_⟩;obtain⟨v0,v1,e⟩:=ev env he;have tb:=(bin_tab v1).2.2.2;rw[e,(fixed_good he (isM_iff.1 a.1)).2.1]
   grind [nat_of]
  ·split at h
   ·rename_i a;obtain rfl:=(y2 h).symm;obtain⟨d,s1,ev⟩:=bin_parts c hs b oM oM;refine⟨.kid 0 oM,d,λenv he=>?_⟩;obtain⟨v0,v1,e⟩:=ev env he;have tb:=(bin_tab v1).2.2.2;rw[e,(fixed_good he (isM_iff.1 a.1)).2.1]
    grind
   ·split at h
    ·rename_i a;obtain rfl:=(y2 h).symm;obtain⟨d,s1,ev⟩:=bin_parts c hs b oM oM;refine⟨.kid 1 oM,s1,λenv he=>?_⟩;obtain⟨v0,v1,e⟩:=ev env he;have tb:=(bin_tab v1).2.2.2;rw[e,(fixed_good he (isM_iff.1 a.1)).2.1,a.2]
     grind [nat_of]
    ·cases h
 ·cases h
theorem qo0 (a:declOk ds=true) (hs:sortM ds t≠ -1) (h:ruleA ds t=some u):Step ds t u:=by
 unfold ruleA at h;rcases Qf h with h|⟨_,h⟩
 ·exact ruleX_step a hs h
 rcases Qf h with h|⟨_,h⟩
 ·exact ruleB_step a hs h
 rcases Qf h with h|⟨_,h⟩
 ·exact ruleT_step a hs h
 rcases Qf h with h|⟨_,h⟩
 ·exact ruleL_step a hs h
 rcases Qf h with h|⟨_,h⟩
 ·exact ruleW_step a hs h
 rcases Qf h with h|⟨_,h⟩
 ·exact ruleS_step a hs h
 ·exact ruleF_step a hs h
theorem one_cases (a:declOk ds=true) (hs:sortM ds t≠ -1):(ruleA ds t=none/\oneT ds t=t)\/Step ds t (oneT ds t):=by
 unfold oneT;cases h:ruleA ds t with
 |none=>grind
 |some u=>exact .inr (qo0 a hs h)
end
end
section
section
variable {ds:List Dcl} {env:List Int} {t u:Tm} {w n:Int}
theorem kid_size {i:Nat} (h:i<t.ks.length):sizeM (kid t i)+1<=sizeM t/\deepM (kid t i)+1<=deepM t:=by
 have a:=szT_all t;have b:=dpT_all t;have c:=szT_mono (ks:=t.ks) (i:=i+1) (j:=t.ks.length) oM oM;have d:=dpT_mono (ks:=t.ks) (i:=i+1) (j:=t.ks.length) oM oM
 grind [szT_succ,dpT_succ,kid]
theorem size_pos:1<=sizeM t/\1<=deepM t:=by rw[sizeM_eq,Y9];omega
theorem const_size:sizeM (constM w n)<=2/\deepM (constM w n)<=2:=by
 have leaf:∀o a b s,sizeM (.mk o a b s [])=1/\deepM (.mk o a b s [])=1:=λo a b s=>by rw[sizeM_eq,Y9];exact⟨rfl,rfl⟩
 have c:sizeM truT=1/\deepM truT=1:=leaf _ _ _ _;have d:sizeM flsT=2/\deepM flsT=2:=by
  rw[sizeM_eq,Y9];show 1+(sizeM truT+0)=2/\1+max 0 (deepM truT)=2;omega
 grind [constM]
theorem src_size (h:Src t u):sizeM u<=sizeM t/\deepM u<=deepM t:=by
 cases h with
 |kid i h=>have:=kid_size h;omega
 |deep i j h a=>have:=kid_size h;have:=kid_size a;omega
 |const w n h a=>
  have b:0<t.ks.length:=(by grind);have:=kid_size (t:=t) (i:=0) b
  grind [size_pos,const_size]
theorem one_good' (a:declOk ds=true) (hs:sortM ds t≠ -1):sortM ds (oneT ds t)=sortM ds t/\(∀env,envOk ds env=true->evalM ds env (oneT ds t)=evalM ds env t)/\sizeM (oneT ds t)<=sizeM t/\deepM (oneT ds t)<=deepM t:=by
 rcases one_cases a hs with⟨_,e⟩|h
 ·grind
 ·exact⟨h.sort,h.eval,src_size h.src⟩
def remake (t:Tm) (us:List Tm):Tm:= .mk t.op t.a t.b t.s us
theorem yh0 {us:List Tm} (b:us.length=t.ks.length) (h:us.map (sortM ds)=t.ks.map (sortM ds)):sortM ds (remake t us)=sortM ds t:=by
 rw[sortM_eq ds (remake t us),sortM_eq ds t];show sortF ds (remake t us) (us.map (sortM ds))=_;rw[h];have a:formed (remake t us)=formed t:=by
  show(decide (arity t.op=(us.length:Int))&&plainM t)=_;rw[b];rfl
 unfold sortF;rw[a];rfl
theorem yi0 {us:List Tm} (a:us.length=t.ks.length) (h:us.map (vecM ds env)=t.ks.map (vecM ds env)):evalM ds env (remake t us)=evalM ds env t:=by
 rw[evalM_eq,evalM_eq];show valK ds env (remake t us) (us.map (vecM ds env))=_;rw[h];rfl
theorem sum_le {f g:Tm->Nat}:∀{ks:List Tm},(∀k,k∈ks->f k<=g k)->(ks.map f).sum<=(ks.map g).sum
 |[],_=>gp _
 |k::r,h=>by
  have b:=h k gd;have c:=sum_le (ks:=r) λx a=>h x (gh _ a)
  grind
theorem max_le {f g:Tm->Nat}:∀{ks:List Tm} {a b:Nat},a<=b->(∀k,k∈ks->f k<=g k)->(ks.map f).foldl max a<=(ks.map g).foldl max b
 |[],a,b,c,_=>c
 |k::r,a,b,c,h=>by
  have e:=h k gd;simp only[Gr,List.foldl_cons];exact max_le (ks:=r) oM λx d=>h x (gh _ d)
structure Good (ds:List Dcl) (t u:Tm):Prop where
 sort:sortM ds u=sortM ds t
 eval:∀env,envOk ds env=true->evalM ds env u=evalM ds env t
 size:sizeM u<=sizeM t
 deep:deepM u<=deepM t
theorem remake_good {f:Tm->Tm} (h:∀k,k∈t.ks->Good ds k (f k)):Good ds t (remake t (t.ks.map f)):=by
 have d:(t.ks.map f).length=t.ks.length:=by grind
 refine⟨yh0 d ?_,λenv he=>yi0 d ?_,?_,?_⟩
 ·rw[G7];exact GH λk c=>(h k c).sort
 ·rw[G7];exact GH λk c=>by show vecM ds env (f k)=_;rw[vecM_pair,vecM_pair,(h k c).sort,(h k c).eval env he]
 ·rw[sizeM_eq,sizeM_eq t];show 1+((t.ks.map f).map sizeM).sum<=_;rw[G7];have:=sum_le (f:=sizeM∘f) (g:=sizeM) (ks:=t.ks) λk c=>(h k c).size;omega
 ·rw[Y9,Y9 t];show 1+((t.ks.map f).map deepM).foldl max 0<=_;rw[G7];have:=max_le (f:=deepM∘f) (g:=deepM) (ks:=t.ks) (a:=0) (b:=0) (gp _) λk c=>(h k c).deep;omega
theorem foldT_rem (ds:List Dcl) (t:Tm):foldT ds t=oneT ds (remake t (t.ks.map (foldT ds))):=kw0 ds t
theorem fold_good (c:declOk ds=true):∀t,sortM ds t≠ -1->Good ds t (foldT ds t):=by
 refine Tm.ind λt e hs=>?_;have d:=(sort_parts hs).2.1;have a:Good ds t (remake t (t.ks.map (foldT ds))):=by grind [remake_good]
 have b:=one_good' c (t:=remake t (t.ks.map (foldT ds))) (by rw[a.sort];exact hs);rw[foldT_rem];exact⟨b.1.trans a.sort,λenv he=>(b.2.1 env he).trans (a.eval env he),gH b.2.2.1 a.size,gH b.2.2.2 a.deep⟩
theorem kids_good (a:declOk ds=true) (hs:sortM ds t≠ -1):Good ds t (remake t (t.ks.map (foldT ds))):=remake_good λk b=>fold_good a k ((sort_parts hs).2.1 k b)
theorem leaf_none (h:t.ks=[]) (e:t.op=20\/t.op=21\/t.op=24):ruleA ds t=none:=by
 have a:t.ks.length=0:=by rw[h];rfl
 have x:ruleX ds t=none:=by
  unfold ruleX allFixed;rw[h];rfl
 have b:ruleB t=none:=by unfold ruleB;grind
 have c:ruleT t=none:=by unfold ruleT;grind
 have d:ruleL ds t=none:=by unfold ruleL;grind
 simp_all[ruleW,ruleS,ruleF,ruleA]
theorem ko0 (h:t.ks=[]) (a:t.op=20\/t.op=21\/t.op=24):oneT ds t=t:=by unfold oneT;rw[leaf_none h a];rfl
end
end
section
theorem app_getD {α:Type} {l r:List α} {i:Nat} {e:α} (h:i<l.length):(l++r).getD i e=l.getD i e:=by
 grind
end
end Go.M
namespace Go.Proofs.YtolbhkcajhlllaaGreatDoor
open Go Go.Vc Go.Proofs
section
variable {w:World} {K:oK} {F F' D G:Nat->Prop}
@[push_cast] theorem bd_TZ:yz za [] w K=K (.agg ⟨W5⟩) w:=zV j0 (us:=[]) rfl rfl
theorem tms_op {kv:Value} {ks:List M.Tm} (h:TmsR F w kv ks) {i:Nat} (hi:i<ks.length):zu zC (.pointer (some ((eaddr kv 5 i).add 0))) w K=K (nI (ks.getD i default).op) w:=by
 obtain⟨css,hs,c,a⟩:=h;obtain⟨b,e,_⟩:=(a i hi).inv;exact hs.ldField Wf oM (by rw[e];rfl)
theorem tms_kids {kv:Value} {ks:List M.Tm} (h:TmsR F w kv ks) {i:Nat} (hi:i<ks.length) (c:∀a,TmsR F w a (ks.getD i default).ks->K a w):zu zl (.pointer (some ((eaddr kv 5 i).add 4))) w K:=by
 obtain⟨css,hs,f,d⟩:=h;obtain⟨a,e,b⟩:=(d i hi).inv;rw[hs.ldField QT oM (by rw[e];rfl)];exact c a b
theorem TermSame_spec:∀(t:M.Tm) {w:World} {K:oK} {F G:Nat->Prop} {va vb:Value} {u:M.Tm},TermR F w va t->TermR G w vb u->(∀w',Ext w w'->K (.bool (decide (t=u))) w')->vcall K9 #[va,vb] w K:=by
 refine M.Tm.ind λt ih w K F G va vb u ha hb T=>?_;refine zg {} Tryz.func175 ?_;obtain⟨kva,rfl,p⟩:=ha;obtain⟨kvb,rfl,D⟩:=hb;refine zj λb1 w1 a0 N a4 J=>?_;refine zj λb2 w2 a1 s a5 k=>?_;have I:=J.ext s;have f:=N.trans s;have no:∀w',Ext w w'->t≠u->K (.bool false) w':=λw' h hn=>by
  have:=T w' h;rwa[decide_eq_false hn] at this
 simp only[push_cast,I.ld0,k.ld0,I.ld1,k.ld1,I.ld2,k.ld2,I.ld3,k.ld3,I.ld4,k.ld4];refine zb (λV=>?_) (λe=>no _ f λh=>e (by rw[h]));refine zb (λW=>?_) (λe=>no _ f λh=>e (by rw[h]));refine zb (λX=>?_) (λe=>no _ f λh=>e (by rw[h]));refine zb (λY=>?_) (λe=>no _ f λh=>e (by rw[h]));refine zg {loops:=[(4,[17])]} Tryz.func211 ?_;have B:=p.ext f;have E:=D.ext f;have a8:=p.small;simp only[push_cast,B.len,E.len];refine zb (λe=>no _ f λh=>e (by rw[h])) (λel=>?_);have el:t.ks.length=u.ks.length:=oM
 refine vloop_up t.ks.length (λi x w'=>x=[nI i]/\Ext w w'/\∀j,j<i->t.ks.getD j default=u.ks.getD j default) ⟨rfl,f,λj U=>absurd U oM⟩ ?_;rintro i _ _ R C hi ⟨rfl,c,g⟩ hC;have l:=p.ext c;have L:=D.ext c;simp(disch:=first|(simp only[push_cast])|omega) only[push_cast,l.len];refine zb (λa=>?_) (λa=>?_)
 ·simp(disch:=first|(simp only[push_cast])|omega) only[push_cast,l.iaddr];refine l.load zc oM λx hx=>?_;obtain⟨cx,rfl,m⟩:=hx.cells;refine zi zr λb4 w4 a2 v a6 Z=>?_;refine stTerm Z rfl ((m.weaken (F':=λb=>b<R.heap.size) λb _ h=>h).ext v) λS O a9 h5=>?_;have o:Ext R S:=Ext.then v O λy H=>by subst H;omega
  have r:=L.ext o;simp(disch:=first|(simp only[push_cast])|omega) only[push_cast,r.iaddr];refine r.load zc oM λy H=>?_;obtain⟨cy,rfl,n⟩:=H.cells;refine zi zr λb6 w6 a3 z a7 h6=>?_;refine stTerm h6 rfl ((n.weaken (F':=λb=>b<S.heap.size) λb _ h=>h).ext z) λw7 Q aa h7=>?_;have d:Ext S w7:=Ext.then z Q λy H=>by subst H;omega
  rw[(h5.ext d).ldAgg (t:=za) (by rw[zW m];exact zc),h7.ldAgg (t:=za) (by rw[zW n];exact zc)];simp only[push_cast,gz,gX];have q:=c.trans (o.trans d);refine ih _ (M.getD_mem oM _) (m.ext (o.trans d)).term (n.ext d).term λw8 A=>?_;simp only[push_cast];refine zo (λb=>?_) (λb=>?_)
  ·rw[gK,decide_eq_false_iff_not] at b;exact no _ (q.trans A) λh=>b (by rw[h])
  ·rw[gJ,decide_eq_true_eq] at b;rw[inc64' oM];refine hC oM _ _ ⟨rfl,q.trans A,λj U=>?_⟩;by_cases e:j<i
   ·exact g j e
   ·have:j=i:=oM;subst this;exact b
 ·have:t=u:=M.tm_ext V W X Y (gC el λj J k=>by
   have:=g j oM;rwa[y0,y4 J,y0,y4 k] at this)
  have:=T R c;rwa[decide_eq_true ‹t=u›] at this
theorem falseTerm_spec (i:∀w' v,Ext w w'->TermR (λb=>w.heap.size<=b) w' v M.flsT->K v w'):vcall Ja #[] w K:=by
 refine zg {} Tryz.func210 ?_;refine zi zr λb1 w1 k d m g=>?_;simp only[push_cast];refine Yv0 (Xv (o:=24) (F:=λ_=>False)) λw2 a c n u=>?_;simp only[push_cast];have l:TmR (λb=>b≠b1/\w.heap.size<=b) w2 _ M.flsT:=(TmR.of (t:=M.flsT) u).weaken λz r _=>by
  rcases r with h|h
  ·exact h.elim
  ·exact⟨oM,oM⟩
 refine qb (g.ext c) rfl l (λx p=>p.1) λA f s e=>?_;exact i _ _ (Ext.then (d.trans c) f λy q=>by subst q;omega) (e.weaken λb j _=>j.2)
theorem constant_spec {s n:Int} (f:∀w' v,Ext w w'->TermR (λb=>w.heap.size<=b) w' v (M.constM s n)->K v w'):vcall K4 #[nI s,nI n] w K:=by
 refine zg {} Tryz.func170 ?_;refine zi zr λb1 w1 q e r l=>?_;unfold M.constM at f;simp only[push_cast];refine zb (λa=>?_) (λa=>?_)
 ·rw[if_pos a] at f;refine qb l rfl (zI0 20 s n _:TmR (λ_=>False) w1 _ _) (λx k=>k.elim) λp d i c=>?_;exact f _ _ (Ext.then e d λy h=>by subst h;omega) (c.weaken λb j _=>j.elim)
 ·rw[if_neg a] at f;refine zb (λb=>?_) (λb=>?_)
  ·rw[if_pos b] at f;refine qb l rfl (zI0 24 0 0 _:TmR (λ_=>False) w1 _ _) (λx k=>k.elim) λp d i c=>?_;exact f _ _ (Ext.then e d λy h=>by subst h;omega) (c.weaken λb j _=>j.elim)
  ·rw[if_neg b] at f;refine falseTerm_spec λw2 v g o=>?_;obtain⟨cs,rfl,m⟩:=o.cells;refine qb (l.ext g) rfl m (λx k=>oM) λp d i c=>?_;exact f _ _ (Ext.then (e.trans g) d λy h=>by subst h;omega) (c.weaken λb j _=>by have:=e.size;omega)
theorem zT0 {t:M.Tm} (h:t.op=20):M.fixedM t=if t.ks=[]/\t.s=M.nada/\M.vok t.a t.b=true then some t.b else none:=by
 unfold M.fixedM;rw[if_neg (λe=>by rw[e] at h;exact absurd h dC),if_neg (λe=>by rw[e] at h;exact absurd h dC)];by_cases c:t.ks=[]/\t.s=M.nada/\M.vok t.a t.b=true
 ·rw[if_pos c,if_pos ⟨h,c⟩]
 ·rw[if_neg c,if_neg (λx=>c x.2)]
theorem nil_len {ks:List M.Tm}:((ks.length:Int)=0)↔ks=[]:=by
 rw[<-pT];omega
theorem YK {v:Value} {t:M.Tm} (O:TermR F w v t) (R:∀w',Ext w w'->K (.tuple #[nI ((M.fixedM t).getD 0),.bool (M.fixedM t).isSome]) w'):vcall Jc #[v] w K:=by
 refine zg {ord:=[oz 7 (oR 9) [(4,[5])]],cuts:=[(16388,[8])]} Tryz.func169 ?_;have A:=O;obtain⟨kv,rfl,H⟩:=O;refine zj λb1 w1 S q T m=>?_;have out:∀w' o,Ext w w'->M.fixedM t=o->K (.tuple #[nI (o.getD 0),.bool o.isSome]) w':=λw' o h e=>by rw[<-e];exact R w' h
 have U:(M.truT).s=M.nada/\(M.flsT).s=M.nada:=⟨rfl,rfl⟩;simp only[push_cast,m.ld3];refine zb (λa=>?_) (λa=>?_)
 ·refine out w1 none q ?_;have I:t.s≠M.nada:=a;unfold M.fixedM;rw[if_neg (λe=>I (by rw[e];rfl)),if_neg (λe=>I (by rw[e];rfl)),if_neg (λe=>I e.2.2.1)]
 have hs:t.s=M.nada:=by
  by_cases h:t.s=M.nada
  ·exact h
  ·exact absurd h a
 refine zq (λu w'=> ∃b:Bool,u=[.bool b]/\Ext w1 w'/\(b=true↔t.op=20/\t.ks=[]/\M.vok t.a t.b=true)) (λC D=>?_) ?_
 ·simp only[push_cast,m.ld0];refine zb (λc=>?_) (λc=>?_)
  ·simp only[push_cast,m.ld4,H.len];refine zb (λd=>?_) (λd=>?_)
   ·try simp only[push_cast,m.ld1,m.ld2]
    refine VecOk_spec λw2 i=>?_;exact D _ _ ⟨_,rfl,i,⟨λh=>⟨c,nil_len.1 d,h⟩,λh=>h.2.2⟩⟩
   ·exact D _ _ ⟨false,rfl,Same.refl _ _,⟨λh=>(by cases h),λh=>absurd (nil_len.2 h.2.1) d⟩⟩
  ·exact D _ _ ⟨false,rfl,Same.refl _ _,⟨λh=>(by cases h),λh=>absurd h.1 c⟩⟩
 rintro u g w2 ⟨b,rfl,i,N⟩;have J:=m.ext i;have j:=q.trans i;simp only[push_cast];refine zo (λc=>?_) (λc=>?_)
 ·obtain⟨c1,c2,c3⟩:=N.1 c;simp only[push_cast,J.ld2];refine out w2 (some t.b) j ?_;rw[zT0 c1,if_pos ⟨c2,hs,c3⟩]
 have z: ¬(t.op=20/\t.ks=[]/\t.s=M.nada/\M.vok t.a t.b=true):=λh=>by
  have:=N.2 ⟨h.1,h.2.1,h.2.2.2⟩;rw[c] at this;cases this
 rw[J.ldAgg (t:=za) zc]
 try simp only[push_cast]
 refine TermSame_spec t (A.ext j) (Xv (o:=24) (F:=λ_=>False)) λW r=>?_;have n:=j.trans r;refine zb (λd=>?_) (λd=>?_)
 ·exact out W (some 1) n (if_pos d)
 have B: ¬t=M.truT:=d;refine zd λX y _=>?_;have k:=n.trans y;have L:=J.ext (r.trans y);simp only[push_cast,L.ld0,true_and];refine zb (λe=>?_) (λe=>?_)
 ·simp only[push_cast,L.ldAgg (t:=za) zc,true_and];refine falseTerm_spec λY fv l G=>?_;have V:=L.ext l;simp only[push_cast,V.ldAgg (t:=za) zc,true_and,and_self];refine TermSame_spec t (A.ext (k.trans l)) G λQ E=>?_;have p:=k.trans (l.trans E);refine zb (λf=>?_) (λf=>?_)
  ·refine out Q (some 0) p ?_;unfold M.fixedM;rw[if_neg B,if_pos f]
  ·refine out Q none p ?_;unfold M.fixedM;rw[if_neg B,if_neg f,if_neg z]
 ·refine out X none k ?_;unfold M.fixedM;rw[if_neg B,if_neg (λx=>e (by rw[x];rfl)),if_neg z]
theorem jn {v:Value} {t:M.Tm} {n:Int} (i:TermR F w v t) (f:∀w',Ext w w'->K (.bool (M.isM t n)) w'):vcall qu0 #[v,nI n] w K:=by
 refine zg {} Tryz.func173 ?_;obtain⟨cs,rfl,a⟩:=i.cells;refine zj λb1 w1 g b h d=>?_;rw[d.ldAgg (t:=za) (by rw[zW a];exact zc)];refine YK (a.ext b).term λw2 c=>?_;have:=f w2 (b.trans c);unfold M.isM at this;simp only[push_cast];cases e:M.fixedM t with
 |none=>rw[e] at this;exact this
 |some m=>
  rw[e] at this;simp only[Ge] at this;exact this
theorem among_spec {v av:Value} {t:M.Tm} {xs:List Int} (z:TermR F w v t) (n:Ints G w av xs) (y:xs.length<=100) (m:∀w',Ext w w'->K (.bool (decide (t.op∈xs))) w'):vcall zC0 #[v,av] w K:=by
 refine zg {} Tryz.func176 ?_;obtain⟨kv,rfl,s⟩:=z;refine zj λb1 w1 r f x p=>?_;simp only[push_cast,p.ld0];refine zg {} Tryz.func212 ?_;refine zg {loops:=[(2,[8])]} Tryz.func251 ?_;have l:=n.ext f;simp only[push_cast,l.len];refine vloop_up xs.length (λi u w'=>u=[nI i]/\Ext w w'/\∀j,j<i->t.op≠xs.getD j 0) ⟨rfl,f,λj k=>absurd k oM⟩ ?_;rintro i _ _ o C hi ⟨rfl,c,d⟩ q;have g:=n.ext c;simp only[push_cast];refine zb (λa=>?_) (λa=>?_)
 ·simp(disch:=first|(simp only[push_cast])|omega) only[push_cast,g.iaddr,g.load];refine zb (λb=>?_) (λb=>?_)
  ·have hm:t.op∈xs:=by rw[b];exact M.getD_mem oM _
   have:=m o c;rw[decide_eq_true hm] at this
   try simp only[push_cast]
   rw[decide_eq_true oM];exact this
  ·rw[inc64' oM];refine q oM _ _ ⟨rfl,c,λj k=>?_⟩;by_cases e:j<i
   ·exact d j e
   ·have:j=i:=oM;subst this;exact b
 ·have hm: ¬t.op∈xs:=λh=>by
   obtain⟨j,k,e⟩:=gj h;have:=d j oM;rw[y0,y4 k] at this;exact this e.symm
  have:=m o c;rw[decide_eq_false hm] at this;exact this
theorem chosen_spec {v:Value} {t:M.Tm} {b:Bool} (u:TermR F w v t) (k:∀w' v',Ext w w'->TermR F w' v' t->K (.tuple #[v',.bool b]) w'):vcall WT #[.bool b,v] w K:=by
 refine zg {} Tryz.func174 ?_;obtain⟨cs,rfl,a⟩:=u.cells;refine zj λb1 w1 m c q i=>?_;refine zi zr λb2 w2 n d s j=>?_;rw[(i.ext d).ldAgg (t:=za) (by rw[zW a];exact zc)];have g:=c.trans d;have o:TmR (λb=>F b/\b<w.heap.size) w2 cs t:=(a.weaken (F':=λb=>F b/\b<w.heap.size) λb h p=>⟨h,p⟩).ext g;have A:=c.size;refine qb (K:=λr w=>K (.tuple #[r,.bool b]) w) j rfl o (λx C=>oM) λD f B e=>?_;exact k _ _ (Ext.then g f λy z=>by subst z;omega) (e.weaken λb l _=>l.1)
end
end Go.Proofs.YtolbhkcajhlllaaGreatDoor
section
namespace Go.M
def allI (n:Nat) (p:Nat->Bool):Bool:=(List.range n).all p
theorem allI_iff {n:Nat} {p:Nat->Bool}:allI n p=true↔ ∀k,k<n->p k=true:=by
 grind [allI]
def litOk (m l:Int):Bool:=decide (l≠0/\ -m<=l/\l<=m)
def yX (m:Int) (xs:List Int):Bool:=allI xs.length λk=>litOk m (xs.getD k 0)&&(k==0||decide ((xs.getD (k-1) 0).natAbs<(xs.getD k 0).natAbs))
structure Cnf where
 many:Int
 list:List (List Int)
structure Sat where
 put:List Int
 why:List Int
 learned:List (List Int)
 code:Int
def cnfOk (c:Cnf):Bool:=decide (0<=c.many)&&decide (c.many<=700)&&decide (c.list.length<=2500)&&allI c.list.length λk=>yX c.many (c.list.getD k [])
def placeOf (put:List Int) (v:Nat):Nat:=match(List.range put.length).find? (λi=>(put.getD i 0).natAbs==v) with|some i=>i+1 |none=>0
theorem ZT {n i:Nat} {p:Nat->Bool} (hi:i<n) (b:p i=true) (a:∀j,j<i->p j=false):(List.range n).find? p=some i:=by
 simp_all
theorem placeOf_zero {put:List Int} {v:Nat} (h:∀l,l∈put->l.natAbs≠v):placeOf put v=0:=by
 grind [placeOf]
theorem placeOf_pos {put:List Int} {v:Nat} (h:placeOf put v≠0):placeOf put v<=put.length/\(put.getD (placeOf put v-1) 0).natAbs=v:=by
 grind [placeOf]
def Distinct (put:List Int):Prop:=(put.map Int.natAbs).Nodup
theorem getD_meS {put:List Int} {i:Nat} (hi:i<put.length):put.getD i 0∈put:=by
 grind
theorem placeOf_at {put:List Int} (a:Distinct put) {i:Nat} (hi:i<put.length):placeOf put (put.getD i 0).natAbs=i+1:=by
 unfold placeOf;rw[ZT hi (by simp) ?_];intro j b;have c:(put.map Int.natAbs)[j]'(by simp;omega)≠(put.map Int.natAbs)[i]'(by simp;omega):=Gh.1 a j i _ _ b
 grind
theorem placeOf_snoc {put:List Int} {l:Int} (h:∀x,x∈put->x.natAbs≠l.natAbs) (v:Nat):placeOf (put++[l]) v=if v=l.natAbs then put.length+1 else placeOf put v:=by
 by_cases b:v=l.natAbs
 ·rw[if_pos b];unfold placeOf;rw[ZT (i:=put.length) (by simp) (by simp[b]) ?_]
  grind
 ·rw[if_neg b];by_cases c:placeOf put v=0
  ·rw[c];refine placeOf_zero λx a=>?_;rw[gg,gk] at a;rcases a with a|rfl
   ·intro e;obtain⟨i,hi,rfl⟩:=gj a;unfold placeOf at c;cases d:(List.range put.length).find? (λi=>(put.getD i 0).natAbs==v) with
    |none=>
     simp_all
    |some k=>grind
   omega
  ·unfold placeOf at c⊢;cases d:(List.range put.length).find? (λi=>(put.getD i 0).natAbs==v) with
   |none=>grind
   |some k=>
    grind [List.find?_eq_some_iff_getElem]
end Go.M
namespace Go.M
def lookM (put:List Int):List Int->Nat->Int->Bool×Nat×Int
 |[],n,x=>(false,n,x)
 |l::r,n,x=>if l∈put then(true,0,0) else if placeOf put l.natAbs=0 then lookM put r (n+1) l else lookM put r n x
theorem qH0 (put:List Int) (n:Nat) (x:Int):lookM put [] n x=(false,n,x):=rfl
theorem Qv (put:List Int) (l:Int) (r:List Int) (n:Nat) (x:Int):lookM put (l::r) n x=if l∈put then(true,0,0) else if placeOf put l.natAbs=0 then lookM put r (n+1) l else lookM put r n x:=rfl
def findM (put:List Int):List (List Int)->Int->Int->Int->Int×Int×Int
 |[],_,u,x=>(-1,u,x)
 |c::r,k,u,x=>
  match lookM put c 0 0 with
  |(true,_,_)=>findM put r (k+1) u x
  |(false,0,_)=>(k,u,x)
  |(false,1,l)=>if u<0 then findM put r (k+1) k l else findM put r (k+1) u x
  |(false,_,_)=>findM put r (k+1) u x
theorem findM_cons (put:List Int) (c:List Int) (r:List (List Int)) (k u x:Int):findM put (c::r) k u x=
  if(lookM put c 0 0).1=true then findM put r (k+1) u x else if(lookM put c 0 0).2.1=0 then(k,u,x) else
  if(lookM put c 0 0).2.1=1 then(if u<0 then findM put r (k+1) k (lookM put c 0 0).2.2 else findM put r (k+1) u x) else findM put r (k+1) u x:=by
 grind [findM]
def places (many:Nat) (put:List Int):List Int:=(List.range (many+1)).map λv=>(placeOf put v:Int)
theorem kR (many:Nat) (put:List Int):(places many put).length=many+1:=by simp[places]
theorem places_get {many:Nat} {put:List Int} {v:Nat} (h:v<=many):(places many put).getD v 0=placeOf put v:=by
 grind [places]
theorem placeOf_le (put:List Int) (v:Nat):placeOf put v<=put.length:=by
 grind [placeOf_pos]
theorem placeOf_ne_zero {put:List Int} {l:Int} (h:l∈put):placeOf put l.natAbs≠0:=by
 obtain⟨i,hi,rfl⟩:=gj h;intro e;unfold placeOf at e;cases a:(List.range put.length).find? (λj=>(put.getD j 0).natAbs==(put[i]).natAbs) with
 |none=>
  rw[pM] at a;have:=a i (gF.2 hi);simp[y0,hi] at this
 |some k=>grind
theorem mem_iff_place {put:List Int} (a:Distinct put) {l:Int}:l∈put↔placeOf put l.natAbs≠0/\put.getD (placeOf put l.natAbs-1) 0=l:=by
 constructor
 ·intro h;refine⟨placeOf_ne_zero h,?_⟩;obtain⟨i,hi,rfl⟩:=gj h;have:=placeOf_at a hi
  grind
 grind [placeOf_pos]
theorem kU {α:Type} {d:α} {xs:List α} {i:Nat} (h:i<xs.length):xs.drop i=xs.getD i d::xs.drop (i+1):=by
 simp_all
theorem getD_app_l {α:Type} {a b:List α} {d:α} {k:Nat} (h:k<a.length):(a++b).getD k d=a.getD k d:=by
 grind
theorem getD_app_r {α:Type} {a b:List α} {d:α} {j:Nat}:(a++b).getD (a.length+j) d=b.getD j d:=by
 grind
theorem JF (v:Nat):placeOf [] v=0:=rfl
theorem xj0 (many:Nat):places many []=List.replicate (many+1) 0:=by
 refine gC (by simp[places]) λi a b=>?_;simp[places,JF]
theorem places_snoc {many:Nat} {put:List Int} {l:Int} (h:placeOf put l.natAbs=0):places many (put++[l])=(places many put).set l.natAbs (put.length+1:Nat):=by
 refine gC (by simp[places]) λi a c=>?_;simp only[places,y1,GG] at a;rw[G0];simp only[places,p5,G3];have b:∀x,x∈put->x.natAbs≠l.natAbs:=by grind [placeOf_ne_zero]
 grind [placeOf_snoc]
theorem distinct_snoc {put:List Int} {l:Int} (a:Distinct put) (h:placeOf put l.natAbs=0):Distinct (put++[l]):=by
 unfold Distinct;rw[gr,Gf];refine⟨a,by simp,?_⟩
 grind [placeOf_ne_zero]
theorem distinct_take {put:List Int} (a:Distinct put) (n:Nat):Distinct (put.take n):=by
 grind [Distinct]
theorem places_unsnoc {many:Nat} {put:List Int} {l:Int} (c:Distinct (put++[l])):(places many (put++[l])).set l.natAbs 0=places many put:=by
 have h:placeOf put l.natAbs=0:=by
  grind [placeOf_zero,Distinct]
 rw[places_snoc h,PD];refine gC (by grind) λi a b=>?_
 grind [places]
theorem clauseOk_lit {m:Int} {xs:List Int} (h:yX m xs=true) {x:Int} (b:x∈xs):x≠0/\ -m<=x/\x<=m:=by
 obtain⟨k,a,rfl⟩:=gj b;have:=allI_iff.1 h k a
 grind [litOk]
theorem clauseOk_up {m:Int} {xs:List Int} (h:yX m xs=true):∀k,k<xs.length->k+1<=(xs.getD k 0).natAbs
 |0,a=>by have:=(clauseOk_lit h (getD_meS a)).1;omega
 |k+1,a=>by
  have b:=clauseOk_up h k oM;have:=allI_iff.1 h (k+1) a
  grind
theorem clauseOk_len {m:Nat} {xs:List Int} (h:yX m xs=true):xs.length<=m:=by
 cases c:xs.length with
 |zero=>omega
 |succ n=>
  have a:=clauseOk_up h n oM;have b:=clauseOk_lit h (getD_meS (show n<xs.length by omega));omega
def lvl (ds:List Bool) (i:Nat):Nat:=(ds.take (i+1)).count true
def levels (ds:List Bool):List Int:=(List.range ds.length).map λi=>(lvl ds i:Int)
theorem Y7 (ds:List Bool):(levels ds).length=ds.length:=by simp[levels]
theorem Qx {ds:List Bool} {i:Nat} (h:i<ds.length):(levels ds).getD i 0=lvl ds i:=by simp[levels,y0,h]
theorem lvl_le (ds:List Bool) (i:Nat):lvl ds i<=ds.length:=gH (pE) (by simp;omega)
theorem qE0 {ds:List Bool} {i:Nat} (h:ds.length<=i+1):lvl ds i=ds.count true:=by unfold lvl;rw[gy h]
theorem levels_snoc (ds:List Bool) (d:Bool):levels (ds++[d])=levels ds++[((ds.count true+d.toNat:Nat):Int)]:=by
 refine gC (by simp[levels]) λi a b=>?_;simp only[levels,y1,GG,y3,gO] at a;by_cases hi:i<ds.length
 ·grind [levels,lvl]
 grind [levels,qE0]
theorem levels_take (ds:List Bool) (n:Nat):(levels ds).take n=levels (ds.take n):=by
 refine gC (by simp[levels]) λi a b=>?_;simp only[levels,y1,GG,V0] at a b
 grind [levels,lvl]
def yB (why:List Int):List Bool:=why.map λy=>decide (y= -1)
theorem kz (why:List Int):(yB why).length=why.length:=by simp[yB]
theorem j80 (why:List Int) (y:Int):yB (why++[y])=yB why++[decide (y= -1)]:=by simp[yB]
theorem zV0 (why:List Int) (n:Nat):(yB why).take n=yB (why.take n):=by simp[yB]
def backN (ds:List Bool) (L:Int):Nat->Nat
 |0=>0
 |n+1=>if L<lvl ds n then backN ds L n else n+1
theorem backN_le (ds:List Bool) (L:Int) (n:Nat):backN ds L n<=n:=by
 induction n with
 |zero=>exact gp _
 |succ n a=>unfold backN;grind
theorem lvl_take {ds:List Bool} {i n:Nat} (h:i<n):lvl (ds.take n) i=lvl ds i:=by grind [lvl]
def lvM (put:List Int) (ds:List Bool) (k:Int):Nat:=lvl ds (placeOf put k.natAbs-1)
structure TopOf (put:List Int) (ds:List Bool) (ks:List Int) (top:Nat) (xs:List Int):Prop where
 le:∀k,k∈ks->lvM put ds k<=top
 mem:∀k,k∈xs↔k∈ks/\lvM put ds k=top
 ne:top=0\/xs≠[]
 nd:xs.Nodup
def atM (c:Cnf) (s:Sat) (k:Nat):List Int:=(c.list++s.learned).getD k []
def marksOk (many:Nat) (put:List Int):Prop:=Distinct put/\∀x,x∈put->x≠0/\x.natAbs<=many
def badM (put:List Int) (k:Nat) (l:Int):Bool:=decide (l≠put.getD k 0)&&(decide (placeOf put l.natAbs=0)||(decide (l∈put)||decide ((k:Int)<=(placeOf put l.natAbs:Int)-1)))
def xr0 (put:List Int) (k:Nat) (cl:List Int):Bool:=decide (put.getD k 0∈cl)&& !((List.range cl.length).any λi=>badM put k (cl.getD i 0))
def q00 (c:Cnf) (s:Sat) (k:Nat):Prop:=s.why.getD k 0= -1\/(0<=s.why.getD k 0/\s.why.getD k 0<c.list.length+s.learned.length/\xr0 s.put k (atM c s (s.why.getD k 0).toNat)=true)
structure satOk (many:Nat) (c:Cnf) (s:Sat):Prop where
 cnf:cnfOk c=true
 few:s.learned.length<=300
 c0:0<=s.code
 c3:s.code<=3
 len:s.put.length=s.why.length
 lrn:∀x,x∈s.learned->yX c.many x=true
 mks:marksOk many s.put
 why:∀k,k<s.why.length->q00 c s k
end Go.M
namespace Go.M
def Srt (xs:List Int):Prop:=xs.Pairwise λa b=>a.natAbs<b.natAbs
theorem srt_ext:∀{xs ys:List Int},Srt xs->Srt ys->(∀k,k∈xs↔k∈ys)->xs=ys
 |[],[],_,_,_=>rfl
 |[],y::ys,_,_,h=>by grind [List.mem_cons_self]
 |x::xs,[],_,_,h=>by grind [List.mem_cons_self]
 |x::xs,y::ys,a,b,h=>by
  unfold Srt at a b;rw[pL] at a b;have e:x=y:=by
   grind
  subst e;rw[srt_ext (xs:=xs) (ys:=ys) a.2 b.2 λk=>?_]
  grind
theorem clauseOk_srt {m:Int} {xs:List Int} (h:yX m xs=true):Srt xs:=by
 have step:∀k,k+1<xs.length->(xs.getD k 0).natAbs<(xs.getD (k+1) 0).natAbs:=λk b=>by
  have:=allI_iff.1 h (k+1) b
  grind
 have far:∀d k,k+d+1<xs.length->(xs.getD k 0).natAbs<(xs.getD (k+d+1) 0).natAbs:=by
  intro d;induction d with
  |zero=>omega
  |succ d e=>
   grind
 unfold Srt;rw[Gh];intro i j hi c a;have:=far (j-i-1) i oM;rw[show i+(j-i-1)+1=j from by omega] at this
 grind
def Qy (many:Nat) (a b:List Int) (m:Nat):List Int:=(List.range many).filterMap λi=>
 if i+1=m then none else if((i+1:Nat):Int)∈a\/((i+1:Nat):Int)∈b then some ((i+1:Nat):Int) else if-((i+1:Nat):Int)∈a\/ -((i+1:Nat):Int)∈b then some (-((i+1:Nat):Int)) else none
theorem mem_joinM {many m:Nat} {a b:List Int} (f:∀k,k∈a++b->k.natAbs≠m-> -k∉a++b) (c:∀k,k∈a++b->k≠0/\k.natAbs<=many) (k:Int):k∈Qy many a b m↔(k∈a\/k∈b)/\k.natAbs≠m:=by
 unfold Qy;simp only[List.mem_filterMap,gF];constructor
 ·grind
 ·rintro⟨h,d⟩;have hm:k∈a++b:=(by grind);obtain⟨e,hle⟩:=c k hm;refine⟨k.natAbs-1,oM,?_⟩
  grind
theorem joinM_srt (many:Nat) (a b:List Int) (m:Nat):Srt (Qy many a b m):=by
 unfold Qy Srt;rw[List.pairwise_filterMap];refine List.Pairwise.imp ?_ List.pairwise_lt_range
 grind
theorem distinct_eq {put:List Int} (a:Distinct put) {x y:Int} (b:x∈put) (c:y∈put) (h:x.natAbs=y.natAbs):x=y:=by
 grind [mem_iff_place]
def Fls (put cl:List Int):Prop:=∀k,k∈cl-> -k∈put
def maxL (xs:List Nat):Nat:=xs.foldl max 0
theorem foldl_max_le {xs:List Nat} {a x:Nat} (h:x∈xs\/x<=a):x<=xs.foldl max a:=by
 induction xs generalizing a with
 |nil=>grind
 |cons y r b=>
  grind
theorem Zb {xs:List Nat} {x:Nat} (h:x∈xs):x<=maxL xs:=foldl_max_le (.inl h)
theorem foldl_max_mem (xs:List Nat) (a:Nat):xs.foldl max a=a\/xs.foldl max a∈xs:=by
 induction xs generalizing a with
 |nil=>grind
 |cons y r b=>
  grind
theorem j6 {xs:List Nat}:maxL xs=0\/maxL xs∈xs:=foldl_max_mem xs 0
theorem lvl_mono {ds:List Bool} {i j:Nat} (h:i<=j):lvl ds i<=lvl ds j:=by
 unfold lvl;refine List.Sublist.count_le true ?_;have:ds.take (i+1)=(ds.take (j+1)).take (i+1):=by grind
 grind
def lastPl (put cl:List Int):Nat:=maxL (cl.map λk=>placeOf put k.natAbs)
theorem lastPl_top {put cl xs:List Int} {ds:List Bool} {top:Nat} {m:Int} (h:TopOf put ds cl top xs) (hm:m∈xs) (a:∀x,x∈xs->placeOf put x.natAbs<=placeOf put m.natAbs):placeOf put m.natAbs=lastPl put cl:=by
 have b:=(h.mem m).1 hm;have d:placeOf put m.natAbs<=lastPl put cl:=Zb (gn.2 ⟨m,b.1,rfl⟩);rcases j6 (xs:=cl.map λk=>placeOf put k.natAbs) with e|e
 ·unfold lastPl at d⊢;omega
 ·obtain⟨q,c,e⟩:=gn.1 e;have i:placeOf put q.natAbs=lastPl put cl:=e;have j:lvM put ds m<=lvM put ds q:=lvl_mono oM;have f:=h.le q c;have g:=a q ((h.mem q).2 ⟨c,oM⟩);omega
theorem two_mem {xs:List Int} (d:xs.Nodup) (h:2<=xs.length) (p:Int):∃q,q∈xs/\q≠p:=by
 match xs,d,h with
 |a::b::r,d,_=>
  have c:a≠b:=(by grind);by_cases e:a=p
  ·exact⟨b,by simp,λf=>c (by rw[e,f])⟩
  simp_all
theorem impl_of {put cl:List Int} {k:Nat} (h:xr0 put k cl=true):put.getD k 0∈cl/\∀l,l∈cl->l≠put.getD k 0->placeOf put l.natAbs≠0/\l∉put/\placeOf put l.natAbs<=k:=by
 unfold xr0 at h;simp only[K3,decide_eq_true_eq,gK,pw] at h;refine⟨h.1,λl c a=>?_⟩;obtain⟨i,hi,rfl⟩:=gj c;have:=h.2 i (gF.2 hi);simp only[y0,y4 hi,GD,badM] at this a⊢;simp only[K3,Gi,decide_eq_true_eq,not_and,not_or] at this;have b:=this a;exact⟨b.1,b.2.1,by have:=b.2.2;omega⟩
theorem false_of {put:List Int} {l:Int} (a:placeOf put l.natAbs≠0) (b:l∉put): -l∈put:=by
 grind [placeOf]
theorem lvl_decided {ds:List Bool} {i k:Nat} (c:k<ds.length) (b:ds.getD k false=true) (h:i<k):lvl ds i<lvl ds k:=by
 have a:lvl ds i<=(ds.take k).count true:=by
  unfold lvl;refine List.Sublist.count_le true ?_;have:ds.take (i+1)=(ds.take k).take (i+1):=by grind
  grind
 grind [lvl,List.take_add_one]
theorem UA {why:List Int} {k:Nat} (a:k<why.length):(yB why).getD k false=decide (why.getD k 0= -1):=by
 simp[yB,y0,a]
theorem last_reason {many:Nat} {c:Cnf} {s:Sat} (h:satOk many c s) {cl xs:List Int} {top k:Nat} (hF:Fls s.put cl) (g:TopOf s.put (yB s.why) cl top xs) (t:2<=xs.length) (C:lastPl s.put cl=k+1):
  k<s.put.length/\ -(s.put.getD k 0)∈cl/\0<=s.why.getD k 0/\s.why.getD k 0<c.list.length+s.learned.length/\xr0 s.put k (atM c s (s.why.getD k 0).toNat)=true/\
  ∃q,q∈cl/\q≠ -(s.put.getD k 0)/\lvM s.put (yB s.why) q=top:=by
 have u:=h.mks.1;obtain⟨b,f,A⟩:∃q,q∈cl/\placeOf s.put q.natAbs=k+1:=by
  grind [j6,lastPl]
 have l:=placeOf_pos (put:=s.put) (v:=b.natAbs) oM;rw[A,GC] at l;have i:k<s.put.length:=oM
 have E:s.put.getD k 0= -b:=distinct_eq u (getD_meS i) (hF b f) oM;have hle:∀q,q∈cl->placeOf s.put q.natAbs<=k+1:=λq F=>by rw[<-C];exact Zb (gn.2 ⟨q,F,rfl⟩)
 have w:lvM s.put (yB s.why) b=top:=by
  obtain⟨x,H,-⟩:=two_mem g.nd t 0;have p:=(g.mem x).1 H;have r:=hle x p.1;have B:lvM s.put (yB s.why) x<=lvM s.put (yB s.why) b:=lvl_mono oM;have:=g.le b f;omega
 obtain⟨d,o,D⟩:=two_mem g.nd t b;have a:=(g.mem d).1 o;have z:=hle d a.1;have y:placeOf s.put d.natAbs≠k+1:=λe=>by
  have m:=placeOf_pos (put:=s.put) (v:=d.natAbs) oM;rw[e,GC] at m;have:=distinct_eq u (hF d a.1) (hF b f) oM;omega
 have n:placeOf s.put d.natAbs≠0:=by have:=placeOf_ne_zero (hF d a.1);grind
 have G:s.why.length=s.put.length:=h.len.symm;have j:s.why.getD k 0≠ -1:=λe=>by
  have r:(yB s.why).getD k false=true:=by rw[UA oM];grind
  have B:lvM s.put (yB s.why) d<lvl (yB s.why) k:=lvl_decided (by grind) r oM
  grind [lvM]
 rcases h.why k oM with e|⟨I,a2,a3⟩
 ·omega
 grind
theorem satOk.lit {many:Nat} {c:Cnf} {s:Sat} (h:satOk many c s) (e:c.many=many) {k:Nat} (j:k<c.list.length+s.learned.length) {l:Int} (f:l∈atM c s k):l≠0/\l.natAbs<=many:=by
 have a:atM c s k∈c.list++s.learned:=by
  grind [atM]
 have b:∀x,x∈c.list->yX c.many x=true:=λx g=>by
  have d:=h.cnf;unfold cnfOk at d;rw[K3] at d;obtain⟨i,hi,rfl⟩:=gj g
  grind [allI_iff]
 have:=(gg.1 a).elim (b _) (h.lrn _);have:=clauseOk_lit this f;omega
theorem learn_join {many:Nat} {c:Cnf} {s:Sat} (h:satOk many c s) (x:c.many=many) {cl xs:List Int} {top k:Nat} (hF:Fls s.put cl) (D:TopOf s.put (yB s.why) cl top xs) (E:2<=xs.length) (B:lastPl s.put cl=k+1):
  let r:=atM c s (s.why.getD k 0).toNat
  let a:=Qy many cl r (s.put.getD k 0).natAbs
  (∀l,l∈a↔(l∈cl/\l≠ -(s.put.getD k 0))\/(l∈r/\l≠s.put.getD k 0))/\Fls s.put a/\lastPl s.put a<=k/\(∀l,l∈a->lvM s.put (yB s.why) l<=top)/\∃q,q∈a/\lvM s.put (yB s.why) q=top:=by
 intro r a;obtain⟨m,z,L,M,himp,q,J,o,A⟩:=last_reason h hF D E B;have y:=h.mks.1;have N:(0:Int)∉s.put:=λe=>(h.mks.2 0 e).1 rfl;obtain⟨I,C⟩:=impl_of himp;have n:s.put.getD k 0∈s.put:=getD_meS m;have H:placeOf s.put (s.put.getD k 0).natAbs=k+1:=placeOf_at y m;generalize G:s.put.getD k 0=p at*;have t:(s.why.getD k 0).toNat<c.list.length+s.learned.length:=oM
 have F:∀l,l∈r->l≠p-> -l∈s.put:=by grind [false_of]
 have off:∀l,l∈cl++r->l.natAbs≠p.natAbs-> -l∈s.put:=λl b d=>by
  rcases gg.1 b with b|b
  ·exact hF l b
  grind
 have i:∀l,l∈cl++r->l.natAbs≠p.natAbs-> -l∉cl++r:=λl b d Q=>by
  grind [distinct_eq]
 have w:∀l,l∈cl++r->l≠0/\l.natAbs<=many:=λl b=>by
  rcases gg.1 b with b|b
  ·have:=h.mks.2 _ (hF l b);omega
  ·exact h.lit x t b
 have f:∀l,l∈a↔(l∈cl/\l≠ -p)\/(l∈r/\l≠p):=λl=>by
  have e:a=Qy many cl r p.natAbs:=(by grind);rw[e,mem_joinM i w];constructor
  ·grind
  ·rintro(⟨g,d⟩|⟨g,d⟩)
   ·refine⟨.inl g,λe=>d ?_⟩;have:=distinct_eq y (hF l g) n oM;omega
   grind
 have u:∀l,l∈a->placeOf s.put l.natAbs<=k:=λl b=>by
  rcases(f l).1 b with⟨g,d⟩|⟨g,d⟩
  ·have O:placeOf s.put l.natAbs<=k+1:=by rw[<-B];exact Zb (gn.2 ⟨l,g,rfl⟩)
   have P:placeOf s.put l.natAbs≠k+1:=λe=>by
    have:=placeOf_pos (put:=s.put) (v:=l.natAbs) oM;rw[e,GC,G] at this;have:=distinct_eq y (hF l g) n oM;omega
   omega
  grind
 have j:lvl (yB s.why) k=top:=by
  have R:=D.le _ z;have K:lvM s.put (yB s.why) q<=lvl (yB s.why) k:=lvl_mono (by
   grind)
  grind [lvM]
 refine⟨f,λl b=>?_,?_,λl b=>?_,q,(f q).2 (.inl ⟨J,o⟩),A⟩
 ·grind
 ·grind [lastPl,j6]
 ·rw[<-j];exact lvl_mono (by grind)
def kY (put:List Int) (ds:List Bool) (cl:List Int):Nat:=maxL (cl.map (lvM put ds))
def Jv (put:List Int) (ds:List Bool) (cl:List Int):List Int:=cl.filter λk=>lvM put ds k==kY put ds cl
theorem srt_nodup {cl:List Int} (h:Srt cl):cl.Nodup:=List.Pairwise.imp (λh e=>oM) h
theorem topOf_tops {put:List Int} {ds:List Bool} {cl:List Int} (h:cl.Nodup):TopOf put ds cl (kY put ds cl) (Jv put ds cl):=by
 refine⟨λk a=>Zb (gS a),λk=>by simp[Jv],?_,h.sublist List.filter_sublist⟩;rcases j6 (xs:=cl.map (lvM put ds)) with e|e
 ·exact .inl e
 ·obtain⟨q,b,e⟩:=gn.1 e;have:q∈Jv put ds cl:=by simp only[Jv,Pg,beq_iff_eq];exact⟨b,e⟩
  grind
theorem topOf_top {put:List Int} {ds:List Bool} {cl xs a:List Int} {t b:Nat} (h:TopOf put ds cl t xs) (c:TopOf put ds cl b a):t=b:=by
 have le:∀{t b:Nat} {xs a:List Int},TopOf put ds cl t xs->TopOf put ds cl b a->t<=b:=by
  intro t b xs a h c;rcases h.ne with e|e
  ·omega
  ·obtain⟨x,f⟩:=G6 _ e;have d:=(h.mem x).1 f;have:=c.le x d.1;omega
 grind
theorem qe0 {put:List Int} {ds:List Bool} {cl xs a:List Int} {t d:Nat} (h:TopOf put ds cl t xs) (b:TopOf put ds cl d a):xs.length=a.length:=by
 have e:=topOf_top h b;subst e;exact PH (h.nd.length_le_of_subset λx c=>(b.mem x).2 ((h.mem x).1 c)) (b.nd.length_le_of_subset λx c=>(h.mem x).2 ((b.mem x).1 c))
theorem Jw {put:List Int} {ds:List Bool} {cl a xs:List Int} {t:Nat} (b:∀k,k∈cl↔k∈a) (h:TopOf put ds cl t xs):TopOf put ds a t xs:=
 ⟨λk c=>h.le k ((b k).2 c),λk=>by rw[h.mem,b],h.ne,h.nd⟩
def jA (many:Nat) (c:Cnf) (s:Sat) (cl:List Int):List Int:=
 Qy many cl (atM c s (s.why.getD (lastPl s.put cl-1) 0).toNat) (s.put.getD (lastPl s.put cl-1) 0).natAbs
def learnM (many:Nat) (c:Cnf) (s:Sat):Nat->List Int->List Int
 |0,cl=>cl
 |f+1,cl=>if(Jv s.put (yB s.why) cl).length<=1 then cl else learnM many c s f (jA many c s cl)
theorem lastPl_pos {put cl:List Int} (hF:Fls put cl) (h:cl≠[]):lastPl put cl≠0:=by
 obtain⟨q,a⟩:=G6 _ h;have b:placeOf put q.natAbs<=lastPl put cl:=Zb (gn.2 ⟨q,a,rfl⟩);have:=placeOf_ne_zero (hF q a)
 grind
theorem learnS_ok {many:Nat} {c:Cnf} {s:Sat} (h:satOk many c s) (b:c.many=many) {cl:List Int} (hF:Fls s.put cl) (hs:Srt cl) (f:2<=(Jv s.put (yB s.why) cl).length):
  Fls s.put (jA many c s cl)/\Srt (jA many c s cl)/\lastPl s.put (jA many c s cl)<lastPl s.put cl/\kY s.put (yB s.why) (jA many c s cl)=kY s.put (yB s.why) cl:=by
 have m:=topOf_tops (put:=s.put) (ds:=yB s.why) (srt_nodup hs);have d:cl≠[]:=λe=>by subst e;simp[Jv] at f
 have u:=lastPl_pos hF d;obtain⟨k,i⟩:∃k,lastPl s.put cl=k+1:=⟨lastPl s.put cl-1,oM⟩;obtain⟨hm,g,r,t,q,j,l⟩:=learn_join h b hF m f i;have e:jA many c s cl=Qy many cl (atM c s (s.why.getD k 0).toNat) (s.put.getD k 0).natAbs:=by unfold jA;grind
 rw[e];refine⟨g,joinM_srt _ _ _ _,oM,?_⟩;have a:=topOf_tops (put:=s.put) (ds:=yB s.why) (srt_nodup (joinM_srt many cl (atM c s (s.why.getD k 0).toNat) (s.put.getD k 0).natAbs));have p:=a.le q j;rcases a.ne with e|e
 ·omega
 ·obtain⟨x,n⟩:=G6 _ e;have o:=(a.mem x).1 n
  grind
theorem learnM_ok {many:Nat} {c:Cnf} {s:Sat} (h:satOk many c s) (a:c.many=many):∀{f:Nat} {cl:List Int},Fls s.put cl->Srt cl->lastPl s.put cl<=f->
  Fls s.put (learnM many c s f cl)/\Srt (learnM many c s f cl)/\kY s.put (yB s.why) (learnM many c s f cl)=kY s.put (yB s.why) cl/\(Jv s.put (yB s.why) (learnM many c s f cl)).length<=1
 |0,cl,hF,hs,g=>by
  refine⟨hF,hs,rfl,?_⟩;have:cl=[]:=Gy λb=>lastPl_pos hF b oM;subst this;simp[learnM,Jv]
 |f+1,cl,hF,hs,g=>by
  unfold learnM;by_cases e:(Jv s.put (yB s.why) cl).length<=1
  ·grind
  ·rw[if_neg e];obtain⟨d,a2,a3,a4⟩:=learnS_ok h a hF hs oM;obtain⟨b1,b2,b3,b4⟩:=learnM_ok h a (f:=f) d a2 oM
   grind
end Go.M
namespace Go.M
def ZZ (put:List Int) (ds:List Bool) (cl:List Int):Nat:=maxL ((cl.filter λk=>decide (lvM put ds k<kY put ds cl)).map (lvM put ds))
def k7 (many:Nat) (c:Cnf) (s:Sat) (cl:List Int):Sat:=
 if kY s.put (yB s.why) cl=0 then{s with code:=2}
 else if s.learned.length=300 then{s with code:=3}
 else
  {s with
   put:=s.put.take (backN (yB s.why) (ZZ s.put (yB s.why) (learnM many c s s.put.length cl)) s.put.length)
   why:=s.why.take (backN (yB s.why) (ZZ s.put (yB s.why) (learnM many c s s.put.length cl)) s.put.length)
   learned:=s.learned++[learnM many c s s.put.length cl]}
def Zo (many:Nat) (put:List Int):Nat:=((List.range many).find? λi=>decide (placeOf put (i+1)=0)).getD 0+1
def goM (many:Nat) (c:Cnf) (s:Sat):Sat:=
 match findM s.put (c.list++s.learned) 0 (-1) 0 with
 |(k,u,x)=>if 0<=k then k7 many c s (atM c s k.toNat) else if 0<=u then{s with put:=s.put++[x],why:=s.why++[u]}
  else if s.put.length=many then{s with code:=1} else{s with put:=s.put++[-(Zo many s.put:Int)],why:=s.why++[-1]}
def stepM (many:Nat) (c:Cnf) (s:Sat):Sat:=if s.code=0 then goM many c s else s
def runM (many:Nat) (c:Cnf):Nat->Sat->Sat
 |0,s=>s
 |n+1,s=>runM many c n (stepM many c s)
def emptyS:Sat:=⟨[],[],[],0⟩
def kA (put cl:List Int):Prop:=∀l,l∈cl->l∉put/\placeOf put l.natAbs≠0
theorem lookM_spec (put:List Int):∀(cl:List Int) (n:Nat) (x:Int),((∃l,l∈cl/\l∈put)/\lookM put cl n x=(true,0,0))\/
  ((∀l,l∈cl->l∉put)/\∃y,lookM put cl n x=(false,n+(cl.filter λl=>decide (placeOf put l.natAbs=0)).length,y)/\(y=x/\(cl.filter λl=>decide (placeOf put l.natAbs=0))=[]\/y∈cl/\placeOf put y.natAbs=0))
 |[],n,x=> .inr ⟨by simp,x,by simp[qH0],.inl ⟨rfl,rfl⟩⟩
 |l::r,n,x=>by
  rw[Qv];by_cases b:l∈put
  ·grind
  rw[if_neg b];by_cases a:placeOf put l.natAbs=0
  ·rw[if_pos a];rcases lookM_spec put r (n+1) l with⟨⟨q,f,d⟩,e⟩|⟨c,y,e,g⟩
   ·grind
   grind
  ·rw[if_neg a];rcases lookM_spec put r n x with⟨⟨q,f,d⟩,e⟩|⟨c,y,e,g⟩
   ·grind
   grind
def unitC (put cl:List Int) (x:Int):Prop:=(∀l,l∈cl->l∉put)/\(cl.filter λl=>decide (placeOf put l.natAbs=0))=[x]
theorem look_clash {put cl:List Int}:kA put cl↔(lookM put cl 0 0).1=false/\(lookM put cl 0 0).2.1=0:=by
 rcases lookM_spec put cl 0 0 with⟨⟨l,a,c⟩,e⟩|⟨b,y,e,-⟩
 ·rw[e];exact⟨λh=>absurd c (h l a).1,λh=>by cases h.1⟩
 ·rw[e];simp only[gN,pT,true_and];rw[PE];exact⟨λh l a=>by have:=(h l a).2;grind,λh l a=>⟨b l a,by grind⟩⟩
theorem look_unit {put cl:List Int} {x:Int}:unitC put cl x↔lookM put cl 0 0=(false,1,x):=by
 rcases lookM_spec put cl 0 0 with⟨⟨l,f,i⟩,e⟩|⟨g,y,e,a⟩
 ·rw[e];exact⟨λh=>absurd i (h.1 l f),λh=>by cases h⟩
 ·rw[e];constructor
  ·rintro⟨_,h⟩;rw[h] at a;rcases a with⟨_,b⟩|⟨a,c⟩
   ·cases b
   ·have:y∈cl.filter λl=>decide (placeOf put l.natAbs=0):=by grind
    grind
  ·intro h;simp only[Gb,true_and,gN] at h;obtain⟨d,rfl⟩:=h;refine⟨g,?_⟩;obtain⟨z,c⟩:=PF.1 d;rw[c] at a⊢;rcases a with⟨_,b⟩|⟨a,j⟩
   ·cases b
   ·have:y∈cl.filter λl=>decide (placeOf put l.natAbs=0):=by grind
    grind
def FindP (put:List Int) (L:List (List Int)) (k0 u0 x0:Int) (r:Int×Int×Int):Prop:=
 (∃i,i<L.length/\r.1=k0+(i:Nat)/\kA put (L.getD i []))\/
  (r.1= -1/\(∀cl,cl∈L->¬kA put cl)/\((0<=u0/\r.2=(u0,x0))\/
   (u0<0/\((∃i,i<L.length/\r.2.1=k0+(i:Nat)/\unitC put (L.getD i []) r.2.2/\∀j,j<i->∀x,¬unitC put (L.getD j []) x)\/
    (r.2=(u0,x0)/\∀cl,cl∈L->∀x,¬unitC put cl x)))))
theorem FindP.skip {put cl:List Int} {L:List (List Int)} {k0 d k:Int} {r:Int×Int×Int} (o: ¬kA put cl) (hu:0<=d\/ ∀x,¬unitC put cl x) (h:FindP put L (k0+1) d k r):FindP put (cl::L) k0 d k r:=by
 rcases h with⟨i,hi,f,g⟩|⟨f,g,a⟩
 ·exact .inl ⟨i+1,by grind,oM,by grind⟩
 ·refine .inr ⟨f,λc b=>(X0.1 b).elim (λe=>e▸o) (g c),?_⟩;rcases a with a|⟨l,a⟩
  ·grind
  have hu:∀x,¬unitC put cl x:=(by grind);rcases a with⟨i,hi,m,n,p⟩|⟨m,n⟩
  ·refine .inr ⟨l,.inl ⟨i+1,by grind,oM,by grind,λj q x=>?_⟩⟩;cases j with
   |zero=>grind
   |succ j=>simp_all
  grind
theorem findM_spec (put:List Int):∀(L:List (List Int)) (k0 a d:Int),0<=k0->FindP put L k0 a d (findM put L k0 a d)
 |[],k0,a,d,_=>by
  refine .inr ⟨rfl,by simp,?_⟩;by_cases h:0<=a
  ·exact .inl ⟨h,rfl⟩
  ·exact .inr ⟨oM,.inr ⟨rfl,by simp⟩⟩
 |cl::L,k0,a,d,p=>by
  rw[findM_cons];by_cases f:(lookM put cl 0 0).1=true
  ·rw[if_pos f];refine FindP.skip (λh=>?_) (.inr λx h=>?_) (findM_spec put L (k0+1) a d oM)
   ·rw[(look_clash.1 h).1] at f;cases f
   ·rw[look_unit.1 h] at f;cases f
  rw[if_neg f];have m:(lookM put cl 0 0).1=false:=(by grind);by_cases g:(lookM put cl 0 0).2.1=0
  ·rw[if_pos g];exact .inl ⟨0,by simp,by simp,by simpa using look_clash.2 ⟨m,g⟩⟩
  rw[if_neg g];have b: ¬kA put cl:=λh=>g (look_clash.1 h).2;by_cases k:(lookM put cl 0 0).2.1=1
  ·rw[if_pos k];have q:unitC put cl (lookM put cl 0 0).2.2:=look_unit.2 (by grind);by_cases hu:a<0
   ·rw[if_pos hu];rcases findM_spec put L (k0+1) k0 (lookM put cl 0 0).2.2 oM with⟨i,hi,n,o⟩|⟨n,o,r⟩
    ·exact .inl ⟨i+1,by grind,oM,by grind⟩
    ·refine .inr ⟨n,λc l=>(X0.1 l).elim (λe=>e▸b) (o c),.inr ⟨hu,.inl ⟨0,by simp,?_,?_,λj s=>oM⟩⟩⟩
     ·grind
     grind
   ·rw[if_neg hu];exact FindP.skip b (.inl oM) (findM_spec put L (k0+1) a d oM)
  ·rw[if_neg k];refine FindP.skip b (.inr λx h=>k ?_) (findM_spec put L (k0+1) a d oM);rw[look_unit.1 h]
theorem find_cases (put:List Int) (L:List (List Int)):(∃(i:Nat) (u x:Int),i<L.length/\findM put L 0 (-1) 0=((i:Int),u,x)/\kA put (L.getD i []))\/
  ((∀cl,cl∈L->¬kA put cl)/\((∃(i:Nat) (x:Int),i<L.length/\findM put L 0 (-1) 0=(-1,(i:Int),x)/\unitC put (L.getD i []) x/\∀j,j<i->∀x,¬unitC put (L.getD j []) x)\/
   (findM put L 0 (-1) 0=(-1,-1,0)/\∀cl,cl∈L->∀x,¬unitC put cl x))):=by
 have h:=findM_spec put L 0 (-1) 0 oM;generalize findM put L 0 (-1) 0=z at h;obtain⟨k,u,x⟩:=z;rcases h with⟨i,hi,a,b⟩|⟨a,b,c⟩
 ·grind
 grind
end Go.M
namespace Go.M
theorem mem_take {put:List Int} (a:Distinct put) {l:Int} {k:Nat}:l∈put.take k↔l∈put/\placeOf put l.natAbs<=k:=by
 constructor
 ·intro h;refine⟨gU h,?_⟩;obtain⟨i,hi,rfl⟩:=gj h;simp only[V0] at hi;have:=placeOf_at a (i:=i) oM
  grind
 grind [mem_iff_place,placeOf]
theorem marksOk.zero {many:Nat} {put:List Int} (h:marksOk many put):(0:Int)∉put:=λe=>(h.2 0 e).1 rfl
theorem marksOk.neg {many:Nat} {put:List Int} (h:marksOk many put) {l:Int} (a:l∈put): -l∉put:=λb=>by
 have:=distinct_eq h.1 a b oM;have e:l=0:=oM
 subst e;exact h.zero a
theorem marksOk.take {many:Nat} {put:List Int} (h:marksOk many put) (n:Nat):marksOk many (put.take n):=⟨distinct_take h.1 n,λx a=>h.2 x (gU a)⟩
theorem marksOk.snoc {many:Nat} {put:List Int} (h:marksOk many put) {l:Int} (c:l≠0) (d:l.natAbs<=many) (b:placeOf put l.natAbs=0):marksOk many (put++[l]):=
 ⟨distinct_snoc h.1 b,λx a=>by
  rcases gg.1 a with a|a
  ·exact h.2 x a
  grind⟩
theorem marksOk.len {many:Nat} {put:List Int} (h:marksOk many put):put.length<=many:=by
 have:=h.1.length_le_of_subset (l₂:=List.range' 1 many) λx a=>by
  obtain⟨y,b,rfl⟩:=gn.1 a;have:=h.2 y b
  grind
 grind
theorem impl_iff {many:Nat} {put cl:List Int} (h:marksOk many put) {k:Nat}:xr0 put k cl=true↔put.getD k 0∈cl/\∀l,l∈cl->l≠put.getD k 0-> -l∈put.take k:=by
 constructor
 ·intro hi;obtain⟨e,f⟩:=impl_of hi;refine⟨e,λl m d=>?_⟩;obtain⟨a,b,c⟩:=f l m d;exact(mem_take h.1).2 ⟨false_of a b,by grind⟩
 ·rintro⟨e,f⟩;unfold xr0;simp only[K3,decide_eq_true_eq,gK,pw];refine⟨e,λi hi=>?_⟩;rw[gF] at hi;have hm:cl.getD i 0∈cl:=getD_meS hi;generalize cl.getD i 0=l at hm;simp only[badM,K3,Gi,decide_eq_true_eq,not_and,not_or];intro d;have g:=(mem_take h.1).1 (f l hm d);have j:=placeOf_ne_zero g.1;rw[GR] at g j;refine⟨j,λn=>h.neg n g.1,oM⟩
theorem clauseOk_of {m:Int} {xs:List Int} (hs:Srt xs) (h:∀l,l∈xs->l≠0/\(l.natAbs:Int)<=m):yX m xs=true:=by
 unfold yX;refine allI_iff.2 λk a=>?_;have c:=h _ (getD_meS a);rw[K3];refine⟨by simp only[litOk,decide_eq_true_eq];omega,?_⟩;simp only[Gi,beq_iff_eq,decide_eq_true_eq];by_cases b:k=0
 ·omega
 ·refine .inr ?_;have:=Gh.1 hs (k-1) k oM a oM
  grind
theorem cnfOk_clause {c:Cnf} (h:cnfOk c=true) {x:List Int} (a:x∈c.list):yX c.many x=true:=by
 unfold cnfOk at h;rw[K3] at h;obtain⟨i,hi,rfl⟩:=gj a
 grind [allI_iff]
theorem atM_mem {c:Cnf} {s:Sat} {k:Nat} (a:k<c.list.length+s.learned.length):atM c s k∈c.list++s.learned:=by
 grind [atM]
theorem satOk.cls {many:Nat} {c:Cnf} {s:Sat} (h:satOk many c s) {x:List Int} (a:x∈c.list++s.learned):yX c.many x=true:=
 (gg.1 a).elim (cnfOk_clause h.cnf) (h.lrn x)
theorem satOk.atOk {many:Nat} {c:Cnf} {s:Sat} (h:satOk many c s) {k:Nat} (a:k<c.list.length+s.learned.length):yX c.many (atM c s k)=true:=h.cls (atM_mem a)
theorem getD_take {put:List Int} {k n:Nat} (h:k<n):(put.take n).getD k 0=put.getD k 0:=by
 grind
theorem why_ext {many:Nat} {c:Cnf} {s a:Sat} {k:Nat} (hm:marksOk many s.put) (f:marksOk many a.put) (b:a.put.take (k+1)=s.put.take (k+1)) (hw:a.why.getD k 0=s.why.getD k 0) (e:∃t,a.learned=s.learned++t) (h:q00 c s k):q00 c a k:=by
 unfold q00 at h⊢;rw[hw];rcases h with h|⟨i,j,m⟩
 ·omega
 obtain⟨t,o⟩:=e;have d:atM c a (s.why.getD k 0).toNat=atM c s (s.why.getD k 0).toNat:=by
  grind [atM]
 have n:a.put.getD k 0=s.put.getD k 0:=by rw[<-getD_take (show k<k+1 by omega),b,getD_take oM]
 have g:a.put.take k=s.put.take k:=by
  have:=congrArg (λl=>l.take k) b;simpa[pd] using this
 grind [impl_iff]
theorem free_spec {many:Nat} {put:List Int} (h:marksOk many put) (k:put.length≠many):1<=Zo many put/\Zo many put<=many/\placeOf put (Zo many put)=0/\∀v,1<=v->v<Zo many put->placeOf put v≠0:=by
 have hlen:=h.len;unfold Zo;cases c:(List.range many).find? λi=>decide (placeOf put (i+1)=0) with
 |none=>
  rw[pM] at c;have:(List.range' 1 many).length<=(put.map Int.natAbs).length:=by
   refine(List.nodup_range' (step:=1)).length_le_of_subset λv g=>?_;rw[List.mem_range'_1] at g;have b:=c (v-1) (gF.2 oM);rw[show v-1+1=v by omega] at b;have d:=placeOf_pos (put:=put) (v:=v) (by simpa using b);exact gn.2 ⟨_,getD_meS (show placeOf put v-1<put.length by
    have:placeOf put v≠0:=(by simpa using b);omega),d.2⟩
  grind
 |some i=>
  rw[p4] at c;obtain⟨l,j,f,a,e⟩:=c;simp only[G3] at a;subst a;simp only[GG] at f;refine⟨by simp,by simp;omega,by grind,λv b d=>?_⟩;simp only[GD] at d;have:=e (v-1) oM;simp only[G3,show v-1+1=v by omega] at this;simpa using this
theorem XX {put cl:List Int} (h:kA put cl):Fls put cl:=λl a=>false_of (h l a).2 (h l a).1
theorem unit_mem {put cl:List Int} {x:Int} (h:unitC put cl x):x∈cl/\placeOf put x.natAbs=0:=by
 have:x∈cl.filter λl=>decide (placeOf put l.natAbs=0):=by rw[h.2];grind
 grind
theorem unit_rest {put cl:List Int} {x l:Int} (h:unitC put cl x) (b:l∈cl) (a:l≠x): -l∈put:=by
 refine false_of (λc=>a ?_) (h.1 l b);have:l∈cl.filter λl=>decide (placeOf put l.natAbs=0):=by grind
 rw[h.2,gk] at this;exact this
theorem maxL_le {xs ys:List Nat} (h:∀x,x∈xs->x∈ys):maxL xs<=maxL ys:=by
 rcases j6 (xs:=xs) with e|e
 ·omega
 ·exact Zb (h _ e)
theorem xp0 {xs ys:List Nat} (h:∀x,x∈xs↔x∈ys):maxL xs=maxL ys:=PH (maxL_le λx=>(h x).1) (maxL_le λx=>(h x).2)
theorem maxL_snoc (xs:List Nat) (f:List Nat) (x:Nat) (a:f=[x]):maxL (xs++f)=max (maxL xs) x:=by grind [maxL]
theorem lastPl_le {put cl:List Int}:lastPl put cl<=put.length:=by
 grind [lastPl,j6,placeOf_le]
theorem U1 {many:Nat} {c:Cnf} {s:Sat} (h:satOk many c s) (a:c.many=many) {k:Nat} (d:k<c.list.length+s.learned.length) (b:kA s.put (atM c s k)):
  Fls s.put (learnM many c s s.put.length (atM c s k))/\Srt (learnM many c s s.put.length (atM c s k))/\kY s.put (yB s.why) (learnM many c s s.put.length (atM c s k))=kY s.put (yB s.why) (atM c s k)/\(Jv s.put (yB s.why) (learnM many c s s.put.length (atM c s k))).length<=1:=
 learnM_ok h a (XX b) (clauseOk_srt (h.atOk d)) lastPl_le
theorem push_ok {many:Nat} {c:Cnf} {s:Sat} (h:satOk many c s) {l y:Int} (n:l≠0) (o:l.natAbs<=many) (p:placeOf s.put l.natAbs=0)
  (m:y= -1\/(0<=y/\y<c.list.length+s.learned.length/\l∈atM c s y.toNat/\∀q,q∈atM c s y.toNat->q≠l-> -q∈s.put)):satOk many c {s with put:=s.put++[l],why:=s.why++[y]}:=by
 have hm:=h.mks.snoc n o p;have hlen:=h.len;refine⟨h.cnf,h.few,h.c0,h.c3,by grind,h.lrn,hm,λk t=>?_⟩;simp only[y3,gO] at t;by_cases i:k<s.why.length
 ·refine why_ext h.mks hm ?_ ?_ ⟨[],by simp⟩ (h.why k i)
  ·grind
  grind
 ·have e:k=s.why.length:=oM;have r:(s.why++[y]).getD k 0=y:=(by grind);unfold q00;rw[r];rcases m with m|⟨a,b,d,f⟩
  ·omega
  ·refine .inr ⟨a,b,?_⟩;have g:(s.put++[l]).getD k 0=l:=(by grind);rw[impl_iff hm];simp only[g];refine⟨d,λq u j=>?_⟩;rw[e,<-hlen,Pf oM,gq];exact f q u j
theorem clash_ok {many:Nat} {c:Cnf} {s:Sat} (h:satOk many c s) (b:c.many=many) {k:Nat} (g:k<c.list.length+s.learned.length) (e:kA s.put (atM c s k)):satOk many c (k7 many c s (atM c s k)):=by
 unfold k7;split
 ·exact⟨h.cnf,h.few,by simp,by simp,h.len,h.lrn,h.mks,h.why⟩
 split
 ·exact⟨h.cnf,h.few,by simp,by simp,h.len,h.lrn,h.mks,h.why⟩
 ·rename_i p;obtain⟨m,o,q,r⟩:=U1 h b g e;generalize learnM many c s s.put.length (atM c s k)=cl at*;generalize backN (yB s.why) (ZZ s.put (yB s.why) cl) s.put.length=n;have d:=h.few;refine⟨h.cnf,by simp;omega,h.c0,h.c3,by simp[h.len],λx a=>?_,h.mks.take n,λj f=>?_⟩
  ·rcases gg.1 a with a|a
   ·exact h.lrn x a
   ·rw[gk] at a;subst a;refine clauseOk_of o λl i=>?_;have:=h.mks.2 _ (m l i);omega
  ·simp only[V0] at f;refine why_ext h.mks (h.mks.take n) ?_ ?_ ⟨[cl],rfl⟩ (h.why j oM)
   ·grind
   grind
theorem go_ok {many:Nat} {c:Cnf} {s:Sat} (h:satOk many c s) (f:c.many=many):satOk many c (goM many c s):=by
 unfold goM;rcases find_cases s.put (c.list++s.learned) with⟨i,u,x,hi,e,m⟩|⟨p,⟨i,x,hi,e,hu,-⟩|⟨e,-⟩⟩
 ·rw[e];simp only[Int.natCast_nonneg,if_true,gi];rw[y3] at hi;exact clash_ok h f hi m
 ·rw[e];rw[y3] at hi;simp only[Int.natCast_nonneg,if_true,show¬(0:Int)<= -1 by omega,if_false];obtain⟨l,n⟩:=unit_mem hu;have j:=h.lit f hi l;refine push_ok h j.1 j.2 n (.inr ⟨oM,oM,?_,λq k g=>?_⟩)
  ·rw[gi];exact l
  ·rw[gi] at k;exact unit_rest hu k g
 ·rw[e];simp only[show¬(0:Int)<= -1 by omega,if_false];split
  ·exact⟨h.cnf,h.few,by simp,by simp,h.len,h.lrn,h.mks,h.why⟩
  ·rename_i o;obtain⟨a,b,d,-⟩:=free_spec h.mks o
   grind [push_ok]
theorem step_ok {many:Nat} {c:Cnf} {s:Sat} (h:satOk many c s) (a:c.many=many):satOk many c (stepM many c s):=by
 grind [stepM,go_ok]
theorem run_ok {many:Nat} {c:Cnf} (a:c.many=many):∀{n:Nat} {s:Sat},satOk many c s->satOk many c (runM many c n s)
 |0,_,h=>h
 |n+1,_,h=>run_ok a (n:=n) (step_ok h a)
theorem empty_ok {many:Nat} {c:Cnf} (h:cnfOk c=true):satOk many c emptyS:=⟨h,by simp[emptyS],by simp[emptyS],by simp[emptyS],rfl,by simp[emptyS],⟨G1,by simp[emptyS]⟩,by simp[emptyS]⟩
theorem run_succ (many:Nat) (c:Cnf):∀(n:Nat) (s:Sat),runM many c (n+1) s=stepM many c (runM many c n s)
 |0,_=>rfl
 |n+1,s=>run_succ many c n (stepM many c s)
theorem qi0 {many:Nat} {c:Cnf} {s:Sat} (h:s.code≠0):stepM many c s=s:=if_neg h
theorem run_stop {many:Nat} {c:Cnf}:∀{n:Nat} {s:Sat},s.code≠0->runM many c n s=s
 |0,_,_=>rfl
 |n+1,s,h=>by rw[runM,qi0 h,run_stop (n:=n) h]
theorem run_add (many:Nat) (c:Cnf):∀(a b:Nat) (s:Sat),runM many c (a+b) s=runM many c b (runM many c a s)
 |0,b,s=>by rw[gN];rfl
 |a+1,b,s=>by rw[show a+1+b=(a+b)+1 by omega,runM,run_add many c a b];rfl
end Go.M
namespace Go.M
theorem take_snoc' {α:Type} {xs:List α} {d:α} {i:Nat} (h:i<xs.length):xs.take (i+1)=xs.take i++[xs.getD i d]:=by
 simp_all
def sgnV (put:List Int) (v:Nat):Int:=if(v:Int)∈put then 1 else if-(v:Int)∈put then-1 else 0
def signs (many:Nat) (put:List Int):List Int:=(List.range (many+1)).map (sgnV put)
theorem signs_len (many:Nat) (put:List Int):(signs many put).length=many+1:=by simp[signs]
theorem signs_get {many:Nat} {put:List Int} {v:Nat} (h:v<=many):(signs many put).getD v 0=sgnV put v:=by
 grind [signs]
theorem ql0 (many:Nat):signs many []=List.replicate (many+1) 0:=by
 refine gC (by simp[signs]) λi a b=>?_;simp[signs,sgnV]
theorem mem_place {put:List Int} {l:Int} (h:l∈put\/ -l∈put):placeOf put l.natAbs≠0:=by
 rcases h with h|h
 ·exact placeOf_ne_zero h
 ·have:=placeOf_ne_zero h;grind
theorem place_mem {put:List Int} {l:Int} (h:placeOf put l.natAbs≠0):l∈put\/ -l∈put:=by
 grind [false_of]
theorem signs_snoc {many:Nat} {put:List Int} {l:Int} (a:l≠0) (h:placeOf put l.natAbs=0):signs many (put++[l])=(signs many put).set l.natAbs (if 0<l then 1 else-1):=by
 refine gC (by simp[signs]) λi b c=>?_;rw[G0];simp only[signs,p5,G3,sgnV,gg,gk]
 grind [mem_place]
def Z10 (put:List Int) (m:Int):Int:=if m∈put then 1 else if placeOf put m.natAbs=0 then 0 else-1
theorem sgn_pos {many:Nat} {put:List Int} (hm:marksOk many put) {m:Int} (h:0<m):sgnV put m.natAbs=Z10 put m:=by
 unfold sgnV Z10;rw[show((m.natAbs:Nat):Int)=m from by omega];by_cases a:m∈put
 ·grind
 rw[if_neg a,if_neg a];by_cases b: -m∈put
 ·simp_all[mem_place]
 grind [place_mem]
theorem sgn_neg {many:Nat} {put:List Int} (hm:marksOk many put) {m:Int} (h:m<0): -(sgnV put m.natAbs)=Z10 put m:=by
 unfold sgnV Z10;rw[show((m.natAbs:Nat):Int)= -m from by omega,Int.neg_neg];by_cases a: -m∈put
 ·rw[if_pos a,if_neg (λb=>hm.neg b a),if_neg (mem_place (.inr a))]
 grind [place_mem]
theorem sgnV_range (put:List Int) (m:Nat): -1<=sgnV put m/\sgnV put m<=1:=by
 grind [sgnV]
end Go.M
namespace Go.M
def Y20 (put:List Int) (ds:List Bool) (v:Nat):Nat:=if placeOf put v=0 then 0 else lvl ds (placeOf put v-1)
def levs (many:Nat) (put:List Int) (ds:List Bool):List Int:=(List.range (many+1)).map λv=>(Y20 put ds v:Int)
theorem U0 (many:Nat) (put:List Int) (ds:List Bool):(levs many put ds).length=many+1:=by simp[levs]
theorem levs_get {many:Nat} {put:List Int} {ds:List Bool} {v:Nat} (h:v<=many):(levs many put ds).getD v 0=Y20 put ds v:=by
 grind [levs]
theorem kn0 (many:Nat) (ds:List Bool):levs many [] ds=List.replicate (many+1) 0:=by
 refine gC (by simp[levs]) λi a b=>?_;simp[levs,Y20,JF]
theorem levs_snoc {many:Nat} {put:List Int} {ds:List Bool} {l:Int} (h:placeOf put l.natAbs=0):levs many (put++[l]) ds=(levs many put ds).set l.natAbs (lvl ds put.length:Nat):=by
 refine gC (by simp[levs]) λi a c=>?_;simp only[levs,y1,GG] at a;rw[G0];simp only[levs,p5,G3,Y20];have b:∀x,x∈put->x.natAbs≠l.natAbs:=by grind [placeOf_ne_zero]
 grind [placeOf_snoc]
theorem levV_lit {put:List Int} {ds:List Bool} {l:Int} (h:placeOf put l.natAbs≠0):Y20 put ds l.natAbs=lvM put ds l:=by unfold Y20 lvM;grind
theorem top_step {put:List Int} {ds:List Bool} {cl:List Int} {i:Nat} (hi:i<cl.length) (k:Nat) (c:lvM put ds (cl.getD i 0)=k):
  kY put ds (cl.take (i+1))=(if kY put ds (cl.take i)<k then k else kY put ds (cl.take i))/\
  (Jv put ds (cl.take (i+1))).length=(if kY put ds (cl.take i)<k then 1 else if k=kY put ds (cl.take i) then(Jv put ds (cl.take i)).length+1 else(Jv put ds (cl.take i)).length):=by
 have e:=take_snoc' (d:=0) hi;have a:kY put ds (cl.take (i+1))=(if kY put ds (cl.take i)<k then k else kY put ds (cl.take i)):=by
  unfold kY;rw[e,gr,maxL_snoc _ _ k (by grind)]
  grind
 refine⟨a,?_⟩;have hle:∀q,q∈cl.take i->lvM put ds q<=kY put ds (cl.take i):=λq f=>Zb (gS f);have g:lvM put ds (cl.getD i 0)=k:=c;generalize cl.getD i 0=y at*;generalize b:kY put ds (cl.take i)=T at*;unfold Jv;rw[a,b,e,Ps,PA,List.filter_nil,g,y3]
 grind [List.filter_eq_nil_iff]
structure ArrP (many:Nat) (L arr:List Int):Prop where
 len:arr.length=many+1
 at_:∀v,v<=many->(arr.getD v 0=0/\∀k,k∈L->k.natAbs≠v)\/(arr.getD v 0∈L/\(arr.getD v 0).natAbs=v/\arr.getD v 0≠0)
theorem arr_nil (many:Nat):ArrP many [] (List.replicate (many+1) 0):=⟨by simp,λv a=> .inl ⟨by grind,by simp⟩⟩
theorem getD_set {xs:List Int} {i j:Nat} {x:Int}:(xs.set i x).getD j 0=if i=j/\j<xs.length then x else xs.getD j 0:=by
 grind
theorem arr_snoc {many:Nat} {L arr:List Int} {k:Int} (h:ArrP many L arr) (d:k≠0) (g:k.natAbs<=many):ArrP many (L++[k]) (arr.set k.natAbs k):=by
 refine⟨by simp[h.len],λv c=>?_⟩;rw[getD_set,h.len];by_cases he:k.natAbs=v
 ·grind
 ·rw[if_neg (λe=>he e.1)];rcases h.at_ v c with⟨a,b⟩|⟨a,b,f⟩
  ·grind
  grind
def zM0 (arr:List Int) (m n:Nat):List Int:=(List.range n).filterMap λi=>if i+1=m then none else if arr.getD (i+1) 0=0 then none else some (arr.getD (i+1) 0)
theorem joinA_succ (arr:List Int) (m n:Nat):zM0 arr m (n+1)=zM0 arr m n++(if n+1=m then[] else if arr.getD (n+1) 0=0 then[] else[arr.getD (n+1) 0]):=by
 unfold zM0
 grind [List.range_succ]
theorem joinA_eq {many m:Nat} {a b arr:List Int} (h:ArrP many (a++b) arr) (o:∀k,k∈a++b->k.natAbs≠m-> -k∉a++b):zM0 arr m many=Qy many a b m:=by
 unfold zM0 Qy;refine filterMap_congr' λi hi=>?_;rw[gF] at hi;by_cases hm:i+1=m
 ·grind
 rw[if_neg hm,if_neg hm];rcases h.at_ (i+1) oM with⟨d,c⟩|⟨d,c,n⟩
 ·rw[if_pos d,if_neg ?_,if_neg ?_]
  ·rintro(e|e)
   ·exact c _ (gL _ e) oM
   ·exact c _ (Gj _ e) oM
  ·rintro(e|e)
   ·exact c _ (gL _ e) oM
   ·exact c _ (Gj _ e) oM
 grind
where
 filterMap_congr' {α β:Type} {f g:α->Option β}:∀{l:List α},(∀x,x∈l->f x=g x)->l.filterMap f=l.filterMap g
  |[],_=>rfl
  |x::l,h=>by
   rw[List.filterMap_cons,List.filterMap_cons,h x gd,filterMap_congr' λy j=>h y (gh _ j)]
theorem backN_eq {ds:List Bool} {L:Int}:∀{len n:Nat},n<=len->(∀i,i<n->(lvl ds i:Int)<=L)->(n=len\/L<(lvl ds n:Int))->backN ds L len=n
 |0,n,b,a,c=>by simp[backN];omega
 |len+1,n,b,a,c=>by
  unfold backN;by_cases e:n=len+1
  ·grind
  ·have d:L<(lvl ds n:Int):=oM;have hm:lvl ds n<=lvl ds len:=lvl_mono oM;rw[if_pos oM];exact backN_eq oM a (.inr d)
theorem lastPl_eq {many:Nat} {put cl:List Int} (hm:marksOk many put) {i:Nat} (hi:i<put.length) (a:∃q,q∈cl/\q.natAbs=(put.getD i 0).natAbs) (d:∀j,i<j->j<put.length->∀q,q∈cl->q.natAbs≠(put.getD j 0).natAbs):lastPl put cl=i+1:=by
 obtain⟨q,c,e⟩:=a;have b:placeOf put q.natAbs=i+1:=by rw[e];exact placeOf_at hm.1 hi
 refine PH ?_ (by rw[<-b];exact Zb (gn.2 ⟨q,c,rfl⟩))
 grind [lastPl,j6,placeOf_pos]
theorem lastPl_none {put cl:List Int} (h:∀j,j<put.length->∀q,q∈cl->q.natAbs≠(put.getD j 0).natAbs):lastPl put cl=0:=by
 unfold lastPl;rcases j6 (xs:=cl.map λk=>placeOf put k.natAbs) with a|a
 ·exact a
 grind [placeOf_pos]
theorem lvl_succ {ds:List Bool} {i:Nat} (h:i<ds.length):lvl ds i=(ds.take i).count true+(ds.getD i false).toNat:=by
 grind [lvl,List.take_add_one]
theorem ZX {ds:List Bool} {i:Nat} (h:i<ds.length):(ds.take (i+1)).count true=(ds.take i).count true+(ds.getD i false).toNat:=lvl_succ h
end Go.M
end
section
namespace Go.M
def wayM (put:List Int) (u:Nat):Bool:=decide ((u:Int)∈put)
end Go.M
namespace Go.M
end Go.M
namespace Go.M
end Go.M
end
section
namespace Go.M
def gateC (k:Int) (g:Gt):List (List Int):=if g.x then[[g.a,g.b,-k],[-g.a,-g.b,-k],[-g.a,g.b,k],[g.a,-g.b,k]] else[[g.a,-k],[g.b,-k],[-g.a,-g.b,k]]
def gatesC (n:Nat):Gs->Nat->List (List Int)
 |[],_=>[]
 |g::gs,i=>gateC (2+n+i) g++gatesC n gs (i+1)
def netC (n:Nat) (gs:Gs) (xs:List (List Int)):Cnf:=⟨1+n+gs.length,[1]::(gatesC n gs 0++xs)⟩
theorem mem_gates {n:Nat} {cl:List Int}:∀{gs:Gs} {i0:Nat},cl∈gatesC n gs i0↔ ∃i,∃h:i<gs.length,cl∈gateC (2+n+(i0+i:Nat)) gs[i]
 |[],i0=>by simp[gatesC]
 |g::gs,i0=>by
  simp only[gatesC,gg,mem_gates (gs:=gs)];constructor
  ·rintro(h|⟨i,hi,h⟩)
   ·grind
   ·refine⟨i+1,by grind,?_⟩
    grind
  grind
theorem absI_nat (a:Int):absI a=(a.natAbs:Int):=by unfold absI;omega
def insV (v:Nat->Bool) (n:Nat):List Bool:=(List.range n).map λi=>v (i+2)
theorem insV_len (v:Nat->Bool) (n:Nat):(insV v n).length=n:=by unfold insV;grind
theorem insV_get {v:Nat->Bool} {n i:Nat} (h:i<n):(insV v n).getD i false=v (i+2):=by
 grind [insV]
theorem gatesC_len {n:Nat}:∀(gs:Gs) (i:Nat),(gatesC n gs i).length<=4*gs.length
 |[],_=>by simp[gatesC]
 |g::gs,i=>by
  have:=gatesC_len (n:=n) gs (i+1)
  grind [gatesC,gateC]
theorem QI {m:Int} {xs:List Int}:yX m xs=true↔ ∀k,k<xs.length->litOk m (xs.getD k 0)=true/\(k=0\/(xs.getD (k-1) 0).natAbs<(xs.getD k 0).natAbs):=by
 simp_all[yX,allI]
theorem gate_clause {n k:Nat} {g:Gt} {m:Int} (h:gateOk n k g) (hm:2+n+k<=m) {cl:List Int} (c:cl∈gateC (2+n+k) g):yX m cl=true:=by
 obtain⟨g1,g2,g3,_⟩:=h;rw[absI_nat] at g1 g2;rw[absI_nat] at g2 g3;have three:∀{p q r:Int},p.natAbs=g.a.natAbs->q.natAbs=g.b.natAbs->r.natAbs=2+n+k->yX m [p,q,r]=true:=λ{p q r} d i e=>by
  rw[QI];intro j f;rcases(by omega:j<3)|>(λh=>(by omega:j=0\/j=1\/j=2)) with rfl|rfl|rfl
  ·exact⟨by simp[litOk];omega,.inl rfl⟩
  ·grind [litOk]
  grind [litOk]
 have two:∀{p r:Int},(p.natAbs=g.a.natAbs\/p.natAbs=g.b.natAbs)->r.natAbs=2+n+k->yX m [p,r]=true:=λ{p r} d e=>by
  rw[QI];intro j f;rcases(by omega:j<2)|>(λh=>(by omega:j=0\/j=1)) with rfl|rfl
  ·exact⟨by simp[litOk];omega,.inl rfl⟩
  grind [litOk]
 unfold gateC at c;split at c
 ·grind
 ·simp only[X0,gm,or_false] at c;rcases c with rfl|rfl|rfl
  ·grind
  ·grind
  grind
theorem net_ok {n:Nat} {gs:Gs} {xs:List (List Int)} (d:n<=8) (a:NetG n gs) (c:xs.length<=90) (e:∀cl,cl∈xs->yX (1+n+gs.length:Nat) cl=true):cnfOk (netC n gs xs)=true:=by
 have:=a.few;have hlen:=gatesC_len (n:=n) gs 0;have b:∀cl,cl∈(netC n gs xs).list->yX (netC n gs xs).many cl=true:=λcl h=>by
  unfold netC at h⊢;rcases X0.1 h with rfl|h
  ·rw[QI]
   grind [litOk]
  ·rcases gg.1 h with h|h
   ·obtain⟨i,hi,hm⟩:=mem_gates.1 h;rw[gN] at hm;exact gate_clause (a.gate i hi) (by grind) hm
   grind
 unfold cnfOk allI;simp only[K3,decide_eq_true_eq,gW,gF]
 grind [netC]
end Go.M
end
end
