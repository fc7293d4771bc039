import Derived.Test.YtfnpmncplaibiaaGreatDoorWqaP15
import Derived.OpenVars
import Derived.MakeChecks
import Derived.Stop.LaidErr
import Derived.Stop.LaidTwo
/- A part of the proof. -/
set_option linter.all false
set_option maxRecDepth 9999
set_option maxHeartbeats 2000000
noncomputable section
namespace Go.Proofs.YtfnpmncplaibiaaGreatDoor
open Go Go.Vc Go.Proofs
section
variable {w w':World} {K:oK} {F D G H S:oA} {N n b k:Nat} {v lv tv dv ev bv fv:Value} {ls fls:List Value} {xs:oI} {W:List (oI)} {ts:List M.Tm} {ds:List M.Dcl} {c:M.Cnf} {most:Int} {at_ an am ar ab:Addr}
theorem solutions_1_spec {w0:World} {yv:Value} {bd bt m:Nat} {R:List (oI)->(oA)->World->Prop} {Z:World->Prop} {Q0:oA} (hd:DclsR F w0 dv ds) (ht:TmsR G w0 tv ts) (Y:ts.length<=2000000) (er:Er w0 at_ an am ar ab) (h8:all8 ds ts=true)
  (U:0<m) (hm:m<=80) (h0:R [] Q0 w)
  (E:∀W Q w',R W Q w'->Ext w0 w'/\Blk w' bd [dv] yF/\Blk w' bt [tv] zl/\∀x,Q x->x<w'.heap.size)
  (hR:∀W Q w' w'' (T:oA),R W Q w'->Same T w' w''->(∀x,T x->x<w'.heap.size->¬Q x/\w0.heap.size<=x)->R W Q w'')
  (hy:∀W Q w' v B,W.length<m->(∀e,e∈W->M.envOk ds e=true)->R W Q w'->OwnI ze w' v (yu ds ts W).1->(∀x,v.ownBlock=some x->¬Q x/\w0.heap.size<=x)->
   (W.length+1<m->(yu ds ts W).2=1->∀q w'',R (W++[(yu ds ts W).1]) q w''->Same Q w' w''->(∀x,q x->Q x\/w'.heap.size<=x)->B (.bool true) w'')->(∀w'',Z w''->B (.bool false) w'')->
   vcallv yv #[v,nI (yu ds ts W).2] w' B)
  (hZ:∀w',Z w'->K (.tuple #[]) w'):vcall qI #[yv,oP bd 0,oP bt 0] w K:=by
 refine zf {loops:=[(1,[4])]} Tryz.func93 ?_;refine qA (λn u w'=> ∃(W:List (oI)) (Q:oA) (fv:Value) (fls:List Value),u=[fv]/\n=m-W.length/\W.length<m/\(∀e,e∈W->M.envOk ds e=true)/\R W Q w'/\CnfO w0.heap.size w' fv fls ⟨0,W⟩/\∀x,xR0 fv fls W.length x->¬Q x) _
  ⟨[],Q0,_,[],rfl,rfl,U,λe he=>(by cases he),h0,CnfO.nil (E _ _ _ h0).1.size,λx a=>by
   rcases a with a|⟨i,hi,_⟩
   .cases a
   .exact absurd hi (pK _)⟩ ?_
 rintro _ _ _ w2 C ⟨W,Q,fv,fls,rfl,rfl,O,N,t,f,j⟩ hC;obtain⟨A,b1,b2,k⟩:=E _ _ _ t;rw[b1.ld0 ZY,b2.ld0 Jq];refine solvedN_spec (nots:=W) (hd.ext A) (ht.ext A) f.lists Y oM N (er.ext A) λw3 ev l o d=>?_;refine oZ ?_;have z2:=A.size;have z3:=l.size;have J:=hR _ _ _ _ _ t l λx a=>a.elim;have r:=f.ext l;refine hy W Q w3 ev _ O N J o (λx a=>⟨λe=>by have:=k x e;have:=d x a;omega,by have:=d x a;omega⟩) (λS h1 q w4 y p I=>?_) λw4 hz=>?_
 .simp only[push_cast,GI];refine zb (λc=>absurd h1 c) (λ_=>?_);have z4:=p.size;have s:=r.sameQ p λx a _=>j x a;have z:=o.same p λx a e=>by have:=k x e;have:=d x a;omega
  have g:∀x,xR0 fv fls W.length x->x<w2.heap.size:=λx a=>(f.inQ a).2;refine s.push z (λx a=>?_) (by rw[s.len];show W.length<=_;omega) λw5 D X H V=>?_
  .have:=d x a;exact⟨oM,λe=>by have:=g x (.inl e);omega,λi hi e=>by have:=g x (.inr ⟨i,hi,e⟩);omega⟩
  have b:∀x,x<w3.heap.size->¬Q x->¬q x:=λx a hn h=>by
   rcases I x h with e|e
   .exact hn e
   .omega
  have L:=hR _ _ _ _ _ y X λx a _=>by
   have h:=g x (.inl a);exact⟨b x oM (j x (.inl a)),f.dl x a⟩
  refine hC (m-(W.length+1)) _ _ oM ⟨_,q,D,fls++[ev],rfl,by rw[V1];rfl,by rw[V1];exact S,Kd h8 N oM h1,L,H,λx a=>?_⟩;rw[V1,gL] at a;have old:xR0 fv fls W.length x->¬q x:=λh=>b x (by have:=g x h;omega) (j x h);rcases a with a|a
  .rcases V x a with e|e
   .exact old (.inl e)
   .exact λh=>by have:=(E _ _ _ y).2.2.2 x h;omega
  .rcases owns_snoc r.len a with e|e
   .exact old (.inr e)
   .exact b x (by have:=o.lt e;omega) λh=>by have:=k x h;have:=d x e;omega
 .simp only[push_cast,Pe];exact hZ _ hz
theorem CnfO.app {b3 ty:Nat} {e:TypeId} (h:CnfO N w lv ls c) (n:OwnI ze w v xs) (l:∀x,v.ownBlock=some x->N<=x/\lv.ownBlock≠some x/\∀i,i<c.list.length->(ls.getD i undef).ownBlock≠some x) (y:ls.length<=100000) (r:Blk w b3 [v] e)
  (s:∀w' f,Same (λx=>lv.ownBlock=some x) w w'->CnfO N w' f (ls++[v]) ⟨c.many,c.list++[xs]⟩->(∀x,f.ownBlock=some x->lv.ownBlock=some x\/w.heap.size<=x)->K f w'):vbi .append [zn,zn] ty [lv,.slice (some ⟨b3,0,none⟩) 1 1] w K:=by
 have o:=h.rows.nle;refine OwnV.app1 h.lst jB r n.ints.one oM oM λv4 u m d b=>?_;refine s u v4 d (?_:CnfO _ _ _ _ _) b;refine⟨m,by rw[V1,V1,h.len];rfl,λx a=>?_,?_⟩
 .rcases b x a with e|e
  .exact h.dl x e
  .omega
 .have k:RowsR N (λx=>lv.ownBlock≠some x/\x<w.heap.size) w ls c.list:=h.rows.weaken λx p _ q=>⟨p,q⟩;refine RowsR.snoc ((k.same d λx a _ e=>a.1 e).weaken λx a _ _ e=>?_) h.len (n.same d λx a e=>(l x a).2.1 e) (λx a=>⟨λe=>?_,(l x a).1⟩) λj x t a e=>(l x e).2.2 j t a
  .rcases b x e with g|g
   .exact a.1 g
   .have:=a.2;omega
  .rcases b x e with g|g
   .exact(l x a).2.1 g
   .have:=n.lt a;omega
theorem qQ0:waysG ds ts 0 W=(W,1):=rfl
theorem cnfE_bad:(cnfE ds ts).2=2↔ ¬all8 ds ts=true:=by
 constructor
 .intro h a;rcases Vm a with e|e<;>omega
 .intro h;unfold cnfE;rw[Q1 h]
theorem SolveWays_spec (hd:DclsR F w dv ds) (ht:TmsR G w tv ts) (cl:ts.length<=2000000) (er:Er w at_ an am ar ab)
  (hK:∀w' v ls,Ext w w'->CnfO w.heap.size w' v ls ⟨0,(xG ds ts most).1⟩->K (.tuple #[v,nI (xG ds ts most).2]) w'):vcall ZH #[dv,tv,nI most] w K:=by
 apply JU;unfold jE;refine y4 λb5 w1 cv c0 d2 h5=>?_;replace h5:Blk w1 b5 [nI most] zE:=h5;refine yZ WG λs w2 cw c6 d3 h6=>?_;replace h6:Blk w2 s [oN] zn:=h6;refine yZ xp λu w3 cx bm d5 h7=>?_;replace h7:Blk w3 u [nI 0] zE:=h7;have bs:=c6.trans bm;have e3:=c0.trans bs;refine blastCnf_spec (hd.ext e3) (ht.ext e3) (er.ext e3).errs (er.ext e3).terms λw4 lv ls ci cg=>?_;refine oZ ?_;refine cnf_new cg λw5 b8 cy cj _ _=>?_;have a7:=ci.trans cj;have e5:=e3.trans a7;have z1:=c0.size;have z2:=c6.size;have z3:=bm.size;have z5:=a7.size;have p5:=h5.ext (bs.trans a7);have p6:=h6.ext (bm.trans a7);have p7:=h7.ext a7;have aq:=er.ext e5;have ret:∀{wk:World} {v x6 x7:Value} {k:Int} {ls:List Value},Ext w wk->Blk wk s [x6] zn->Blk wk u [x7] zE->CnfO w.heap.size wk v ls ⟨0,(xG ds ts most).1⟩->(∀x,xR0 v ls (xG ds ts most).1.length x->x≠s/\x≠u)->k=(xG ds ts most).2->
   zy zn (oP s 0) v wk λ_ X=>zy zE (oP u 0) (nI k) X λ_ n=>vlv zn (oP s 0) n λr6 bo=>vlv zE (oP u 0) bo λr7 bp=>K (.tuple #[r6,r7]) bp:=λ{wk v x6 x7 k ls} he q6 q7 hO ax hk=>by
  obtain⟨c1,c2⟩:=Yk hO.lst.vals;refine q6.st (i:=0) c1 c2 jx rfl λX al cb bi=>?_;refine(q7.same al oM).st (i:=0) rfl rfl yG rfl λn ao cc bj=>?_;replace bi:Blk X s [v] zn:=bi;replace bj:Blk n u [nI k] zE:=bj;rw[lv0 (bi.same ao oM) Zr,lv0 bj Jz,hk];refine hK n v ls (Ext.then (Ext.then he al λy E=>by subst E;omega) ao λy E=>by subst E;omega) ?_;exact(hO.sameQ al λx b _=>(ax x b).1).sameQ ao λx b _=>(ax x b).2
 have a4:∀{wk:World} {k:Int},Ext w wk->Blk wk s [oN] zn->Blk wk u [nI 0] zE->xG ds ts most=([],k)->
   zy zn (oP s 0) (oN) wk λ_ X=>zy zE (oP u 0) (nI k) X λ_ n=>vlv zn (oP s 0) n λr6 bo=>vlv zE (oP u 0) bo λr7 bp=>K (.tuple #[r6,r7]) bp:=λ{wk k} he q6 q7 h=>by
  refine ret he q6 q7 (ls:=[]) (by rw[h];exact CnfO.nil he.size) (λx b=>?_) (by rw[h]);rw[h] at b;rcases b with b|⟨i,hi,_⟩
  .cases b
  .exact absurd hi (pK _)
 simp only[push_cast,p5.ld0];refine zb (λa=>a4 e5 p6 p7 (j3 λh=>oM)) (λa=>?_);refine zb (λa2=>a4 e5 p6 p7 (j3 λh=>oM)) (λa2=>?_);rw[zZ xd aq.terms.cell];have step:∀{A B:World->Prop},(¬all8 ds ts=true->A w5)->(all8 ds ts=true->B w5)->vcall xC #[errV ar at_ (cnfE ds ts).2,erv at_] w5 λt28 bf=>vif t28 (A bf) (B bf):=λ{A B} hA hB=>by
  by_cases h8:all8 ds ts=true
  .rcases Vm h8 with e|e
   .rw[e];exact qg0 (zm (λh=>by cases h) λ_=>hB h8)
   .rw[e];exact V4 aq.d4 aq.rr aq.rt (zm (λh=>by cases h) λ_=>hB h8)
  .rw[cnfE_bad.2 h8];exact WB (zm (λ_=>hA h8) λh=>by cases h)
 refine step (λh8=>a4 e5 p6 p7 (j3 λh=>h8 h.1)) λh8=>?_;have ca:xG ds ts most=waysG ds ts most.toNat []:=V0 ⟨h8,oM,oM⟩;refine yZ WG λo w9 cp I d6 bh=>?_;replace bh:Blk w9 o [oN] zn:=bh;have e9:=e5.trans I;have z9:=I.size;simp only[push_cast,(p5.ext I).ld0];refine zb (λa3=>a4 e9 (p6.ext I) (p7.ext I) (by rw[ca,a3];rfl)) (λa3=>?_);have ck:0<most.toNat:=oM
 have d1:(most.toNat:Int)=most:=oM
 generalize hm:most.toNat=m at*;refine zf {} Tryz.func50 ?_;refine y4 λbd w10 cz b2 cr au=>?_;refine y4 λbt X d0 ae cb aw=>?_;replace au:Blk w10 bd [dv] yF:=by rw[DclsR.cellsV hd] at au;exact au
 replace aw:Blk X bt [tv] zl:=by rw[TmsR.cellsV ht] at aw;exact aw
 refine oZ ?_;refine⟨qI,⟨[oP bd 0,oP bt 0]⟩,rfl,λl D n RR hD hl a0 cc bw az c7 ay=>?_⟩;have bu:=b2.trans ae;have H:=bu.trans a0;have br:=e9.trans H;have d8:=b2.size;have d9:=ae.size;have z12:=a0.size;have q5:=(p5.ext I).ext H;have q6:=(p6.ext I).ext H;have q7:=(p7.ext I).ext H;have co:=bh.ext H;have qd:=(au.ext ae).ext a0;have qt:=aw.ext a0;show vcall qI #[.func (.yield l) #[] #[],oP bd 0,oP bt 0] n _
 let P0:oA:=λx=>x=l\/x=D\/x=bd\/x=bt\/x=b5\/x=s\/x=u\/x=o
 have bk:∀x,P0 x->w.heap.size<=x/\x<n.heap.size:=λx b=>by rcases b with h|h|h|h|h|h|h|h<;>omega
 refine solutions_1_spec (w0:=w) (m:=m) (ds:=ds) (ts:=ts) (Q0:=λx=>P0 x\/xR0 (oN) [] 0 x)
  (R:=λW Q w'=>RR .ready none w'/\Ext w w'/\n.heap.size<=w'.heap.size/\Blk w' bd [dv] yF/\Blk w' bt [tv] zl/\Blk w' b5 [nI most] zE/\Blk w' s [oN] zn/\Blk w' u [nI 0] zE/\w'.heap[D]?=some (.deferred (some []))/\
   ∃ov ols,Blk w' o [ov] zn/\CnfO w.heap.size w' ov ols ⟨0,W⟩/\(∀x,xR0 ov ols W.length x->n.heap.size<=x)/\waysG ds ts (m-W.length) W=xG ds ts most/\Q=λx=>P0 x\/xR0 ov ols W.length x)
  (Z:=λw'=>w'.heap[D]?=some (.deferred (some []))/\Ext w w'/\n.heap.size<=w'.heap.size/\∃v ls,CnfO w.heap.size w' v ls ⟨0,(xG ds ts most).1⟩/\(∀x,xR0 v ls (xG ds ts most).1.length x->n.heap.size<=x)/\
   ((RR .done (some .ret) w'/\Blk w' s [v] zn/\Blk w' u [nI (xG ds ts most).2] zE)\/(RR .done (some (.exit 0)) w'/\Blk w' o [v] zn/\Blk w' s [oN] zn/\Blk w' u [nI 0] zE/\(xG ds ts most).2=1)))
  hd ht cl er h8 ck oM ?_ ?_ ?_ ?_ ?_
 .refine⟨c7,br,gz _,qd,qt,q5,q6,q7,bw,_,[],co,CnfO.nil br.size,λx b=>?_,by rw[ca];rfl,rfl⟩;rcases b with b|⟨i,hi,_⟩
  .cases b
  .exact absurd hi (pK _)
 .rintro W Q w' ⟨_,g2,g3,g4,g5,_,_,_,_,ov,ols,_,gO,_,_,rfl⟩;refine⟨g2,g4,g5,λx b=>?_⟩;rcases b with b|b
  .have:=(bk x b).2;omega
  .exact(gO.inQ b).2
 .rintro W Q w' w'' T ⟨g1,g2,g3,g4,g5,g6,g7,g8,g9,ov,ols,gb,gO,gn,gw,rfl⟩ hT bl;have z:=hT.size;have av:∀{x},P0 x->¬T x:=λ{x} b h=>(bl x h (by have:=(bk x b).2;omega)).1 (.inl b);refine⟨az _ _ _ _ g1 (hT.block l oM (av (.inl rfl))),Ext.then g2 (hT.mono (S':=λx=>w.heap.size<=x) λx bn b=>(bl x b bn).2) λy E=>E,oM,g4.same hT (av (.inr (.inr (.inl rfl)))),g5.same hT (av (.inr (.inr (.inr (.inl rfl))))),g6.same hT (av (.inr (.inr (.inr (.inr (.inl rfl)))))),
   g7.same hT (av (.inr (.inr (.inr (.inr (.inr (.inl rfl))))))),g8.same hT (av (.inr (.inr (.inr (.inr (.inr (.inr (.inl rfl)))))))),(hT.block D oM (av (.inr (.inl rfl)))).trans g9,ov,ols,gb.same hT (av (.inr (.inr (.inr (.inr (.inr (.inr (.inr rfl)))))))),gO.sameQ hT λx b bn h=>(bl x h bn).1 (.inr b),gn,gw,rfl⟩
 .rintro W Q w' v K' cu bz ⟨g1,g2,g3,g4,g5,g6,g7,g8,g9,ov,ols,gb,gO,gn,gw,rfl⟩ hv cm hT hZ;have gsz:=g2.size;refine ay [v,nI (yu ds ts W).2] w' K' rfl g1 ⟨g1,λp d ba ad=>?_⟩;have inl:∀{x},x≠l->¬(x=l):=λh=>h;have k2:Ext w p:=Ext.then g2 d λy E=>by subst E;omega
  have k6:=g6.same d oM;have k7:=g7.same d oM;have k8:=g8.same d oM;have k9:p.heap[D]?=some (.deferred (some [])):=(d.block D oM oM).trans g9;have kb:=gb.same d oM;have kO:=gO.sameQ d λx b _ e=>by have:=gn x b;omega
  have kv:=hv.same d λx b e=>(cm x b).1 (.inl (.inl e));have vlt:∀x,v.ownBlock=some x->x<p.heap.size:=λx b=>kv.lt b;obtain⟨q,hq⟩:∃q,m-W.length=q+1:=⟨m-W.length-1,oM⟩;rw[hq,Ke] at gw;refine oZ ?_;refine zb (λc=>?_) (λc=>?_)
  .rw[Q1 c] at gw;have a9:(xG ds ts most).1=W:=(by rw[<-gw]);have bg:(xG ds ts most).2=(yu ds ts W).2:=(by rw[<-gw]);rw[kb.ld0 Zr];obtain⟨c1,c2⟩:=Yk kO.lst.vals;refine k7.st (i:=0) c1 c2 jx rfl λS J bb U=>?_;refine(k8.same J oM).st (i:=0) rfl rfl yG rfl λa6 L cd V=>?_;replace U:Blk S s [ov] zn:=U;replace V:Blk a6 u [nI (yu ds ts W).2] zE:=V;have aj:Same (λx=>x=s\/x=u) p a6:=(J.mono λ_ _ h=> .inl h).trans (L.mono λ_ _ h=> .inr h);refine⟨az _ _ _ _ ad (aj.block l oM oM),λY r bc c8=>hZ Y ?_⟩;have a5:Same (λx=>x=s\/x=u\/x=l) p Y:=(aj.mono λ_ _ h=>oM).trans (r.mono λ_ _ h=>oM);refine⟨(a5.block D oM oM).trans k9,Ext.then k2 a5 λy E=>oM,oM,ov,ols,by rw[a9];exact kO.sameQ a5 λx b _ e=>by have:=gn x b;omega,by rw[a9];exact gn,.inl ⟨c8,(U.same L oM).same r oM,by rw[bg];exact V.same r oM⟩⟩
  .have c1:(yu ds ts W).2=1:=P8.1 c;rw[V0 c1] at gw;refine zd λS a1 _=>?_;have be:=kb.ext a1;rw[be.ld0 Zr];refine⟨rfl,?_⟩;have z21:=a1.size;have vfew:(yu ds ts W).1.length<=100:=by
    have h1:=Kd h8 bz oM c1 _ (GC _ (gD.2 rfl));have:=(M.env_ok h1).2.1;have:=(M.decl_iff.1 (M.env_ok h1).1).1;omega
   refine Clone_Lint (kv.ext a1).ints oM λa6 ap af b4 ah=>?_;rw[(be.ext af).ld0 Zr];refine⟨⟨rfl,rfl⟩,?_⟩;refine zC kg qe ZS rfl b4.ints.cells1 λct Y cq ag bc bv=>?_;have z22:=af.size;have da:=ag.size;have C:=(a1.trans af).trans ag;rw[(kb.ext C).ld0 Zr];refine⟨⟨rfl,rfl⟩,?_⟩;have cf:=kO.ext C;refine cf.app (b4.ext ag) (λx b=>?_) (by rw[kO.len];show W.length<=_;omega) bv λd7 O ak b1 b3=>?_
   .have:=ah x b;exact⟨oM,λe=>by have:=kO.lst.lt e;omega,λi hi e=>by have:=(kO.rows.own i hi).lt e;omega⟩
   obtain⟨c3,c4⟩:=Yk b1.lst.vals;have ovn:∀x,ov.ownBlock=some x->n.heap.size<=x:=λx b=>gn x (.inl b);refine((kb.ext C).same ak λe=>by have:=ovn _ e;omega).st (i:=0) c3 c4 jx rfl λbq b9 cs aa=>?_;replace aa:Blk bq o [O] zn:=aa;have f:Same (λx=>x=o\/ov.ownBlock=some x) p bq:=(Same.of_ext C).trans ((ak.mono λ_ _ h=> .inr h).trans (b9.mono λ_ _ h=> .inl h));have z25:=f.size;have z24:=ak.size;have N:∀x,xR0 O (ols++[ap]) (W.length+1) x->n.heap.size<=x:=λx b=>by
    rcases b with b|b
    .rcases b3 x b with e|e
     .exact ovn x e
     .omega
    .rcases owns_snoc kO.len b with e|e
     .exact gn x (.inr e)
     .have:=ah x e;omega
   have ac:=b1.sameQ b9 λx b _ e=>by
    have:=N x (by rw[V1] at b;exact b);omega
   simp only[push_cast,aa.ld0,ac.lst.vals.len,(k6.same f (λe=>e.elim oM λe=>by have:=ovn _ e;omega)).ld0];have ch:(ols++[ap]).length=W.length+1:=by rw[V1,kO.len];rfl
   rw[ch];have hav:∀{x},P0 x->x≠o->¬(x=o\/ov.ownBlock=some x):=λ{x} b ax h=>h.elim ax λe=>by have:=ovn x e;have:=(bk x b).2;omega
   have a8:Ext w bq:=Ext.then k2 f λy E=>by
    rcases E with rfl|E
    .omega
    .have:=ovn y E;omega
   refine zb (λc5=>?_) (λc5=>?_)
   .have q0:q=0:=oM;rw[q0,qQ0] at gw;have a9:(xG ds ts most).1=W++[(yu ds ts W).1]:=(by rw[<-gw]);have bg:(xG ds ts most).2=1:=(by rw[<-gw]);refine⟨az _ _ _ _ ad (f.block l oM (hav (.inl rfl) oM)),λb0 g ce ai=>hZ b0 ?_⟩;refine⟨(g.block D oM oM).trans ((f.block D oM (hav (.inr (.inl rfl)) oM)).trans k9),Ext.then a8 g λy E=>by subst E;omega,oM,O,ols++[ap],by rw[a9];exact ac.sameQ g λx b _ e=>by have:=N x (by rw[V1] at b;exact b);omega,
     λx b=>N x (by rw[a9,V1] at b;exact b),.inr ⟨ai,aa.same g oM,(k7.same f (hav (.inr (.inr (.inr (.inr (.inr (.inl rfl)))))) oM)).same g oM,(k8.same f (hav (.inr (.inr (.inr (.inr (.inr (.inr (.inl rfl))))))) oM)).same g oM,bg⟩⟩
   .refine⟨az _ _ _ _ ad (f.block l oM (hav (.inl rfl) oM)),λb0 g ce ai=>hT oM c1 (λx=>P0 x\/xR0 O (ols++[ap]) (W.length+1) x) b0 ?_ ?_ λx b=>?_⟩
    .have j:Same (λx=>(x=o\/ov.ownBlock=some x)\/x=l) p b0:=(f.mono λ_ _ h=> .inl h).trans (g.mono λ_ _ h=> .inr h);have t:∀{x},P0 x->x≠o->x≠l->¬((x=o\/ov.ownBlock=some x)\/x=l):=λ{x} b h1 h2 h=>h.elim (hav b h1) h2;refine⟨ai,Ext.then a8 g λy E=>by subst E;omega,oM,(g4.same d oM).same j (t (.inr (.inr (.inl rfl))) oM oM),(g5.same d oM).same j (t (.inr (.inr (.inr (.inl rfl)))) oM oM),k6.same j (t (.inr (.inr (.inr (.inr (.inl rfl))))) oM oM),
      k7.same j (t (.inr (.inr (.inr (.inr (.inr (.inl rfl)))))) oM oM),k8.same j (t (.inr (.inr (.inr (.inr (.inr (.inr (.inl rfl))))))) oM oM),(j.block D oM (t (.inr (.inl rfl)) oM oM)).trans k9,O,ols++[ap],aa.same g oM,?_,?_,?_,?_⟩
     .exact ac.sameQ g λx b _ e=>by have:=N x (by rw[V1] at b;exact b);omega
     .intro x b;rw[V1] at b;exact N x b
     .rw[V1,show m-(W.length+[(yu ds ts W).1].length)=q by simp;omega];exact gw
     .rw[V1];rfl
    .refine(d.mono λx _ b=> .inl (.inl b)).trans ((f.mono λx _ b=>?_).trans (g.mono λx _ b=> .inl (.inl b)));rcases b with b|b
     .exact .inl (.inr (.inr (.inr (.inr (.inr (.inr (.inr b)))))))
     .exact .inr (.inl b)
    .rcases b with b|b
     .exact .inl (.inl b)
     .rcases b with b|b
      .rcases b3 x b with e|e
       .exact .inl (.inr (.inl e))
       .exact .inr oM
      .rcases owns_snoc kO.len b with e|e
       .exact .inl (.inr (.inr e))
       .exact .inr (by have:=ah x e;omega)
 .rintro w' ⟨g1,g2,g3,v,ls,gO,gn,hh⟩;rcases hh with⟨hr,g6,g7⟩|⟨hr,g10,g6,g7,gc⟩
  .refine⟨.done,some .ret,dC,hr,λp d ba=>?_⟩;refine⟨(d.block D oM oM).trans g1,λS c9 bb=>?_⟩;have hs:Same (λx=>x=l\/x=D) w' S:=(d.mono λ_ _ h=> .inl h).trans (c9.mono λ_ _ h=> .inr h);show vlv zn (oP s 0) S _;rw[lv0 (g6.same hs oM) Zr,lv0 (g7.same hs oM) Jz];exact hK S v ls (Ext.then g2 hs λy E=>oM) (gO.sameQ hs λx b _ e=>by have:=gn x b;omega)
  .refine⟨.done,some (.exit 0),dC,hr,λp d ba=>?_⟩;refine⟨rfl,?_⟩;have bx:p.heap[D]?=some (.deferred (some [])):=(d.block D oM oM).trans g1;have cn:=g10.same d oM;have j6:=g6.same d oM;have j7:=g7.same d oM;have jO:=gO.sameQ d λx b _ e=>by have:=gn x b;omega
   show zu zn (oP o 0) p _;rw[cn.ld0 Zr];obtain⟨c1,c2⟩:=Yk jO.lst.vals;refine j6.st (i:=0) c1 c2 jx rfl λS J bb U=>?_;refine(j7.same J oM).st (i:=0) rfl rfl yG rfl λa6 L cd V=>?_;replace U:Blk S s [v] zn:=U;replace V:Blk a6 u [nI 1] zE:=V;have aj:Same (λx=>x=s\/x=u) p a6:=(J.mono λ_ _ h=> .inl h).trans (L.mono λ_ _ h=> .inr h);refine⟨(aj.block D oM oM).trans bx,λY r bc=>?_⟩;show vlv zn (oP s 0) Y _;rw[lv0 ((U.same L oM).same r oM) Zr,lv0 (V.same r oM) Jz,<-gc];have a5:Same (λx=>x=l\/x=s\/x=u\/x=D) w' Y:=((d.mono λ_ _ h=> .inl h).trans (aj.mono λ_ _ h=>oM)).trans (r.mono λ_ _ h=>oM);exact hK Y v ls (Ext.then g2 a5 λy E=>oM) (gO.sameQ a5 λx b _ e=>by have:=gn x b;omega)
end
section
variable {w:World} {K:oK} {D F G H:oA} {dv tv v ev:Value} {ds:List M.Dcl} {ts:List M.Tm} {t:M.Tm} {env:oI} {xs:List Nat} {most:Int} {at_ an am ar ab:Addr}
theorem DrawSolveWays_spec (a:Bytes F w v xs) (hF:∀b,F b->b<w.heap.size)
  (C:∀w' dv lv ds ts m,Ext w w'->DclsR (λx=>w.heap.size<=x) w' dv ds->Dsn 9 ds->TmsR (λx=>w.heap.size<=x) w' lv ts->ts.length<=9->K (.tuple #[dv,lv,nI m]) w'):vcall YI #[v] w K:=by
 refine zf {} Tryz.func20 ?_;refine l12Open_spec a hF λw2 b v' ys g c E=>?_;have J:=g.size;have lb:=c.blk.lt;refine l8List_spec (F:=λx=>F x/\x<w2.heap.size) ⟨c.blk,⟨c.bytes.1.weaken λx a H=>⟨a,H⟩,c.bytes.2⟩,λh=>c.apart h.1,c.few⟩ (λx a=>a.2) oM λT W dv lv ds ts k l I p s z r=>?_;refine oZ ?_;have L:=k.size;refine pick_spec l oM oM λX R t M n i _=>?_;have i:=i dC;simp(disch:=omega) only[push_cast,zi];refine pick_spec n oM oM λY S u N o j _=>?_;have j:=j dC;simp(disch:=omega) only[push_cast,zi];refine ints_lit (ns:=[3,1,5,20,2,0,8,20+(R:Int),0-(S:Int)]) (by simp) λU Z G d q=>?_;have O:=d.size;refine num_spec (o.ext d) q (by simp) (by simp) oM (λx a e=>by subst a;omega) λA m y Q D hm=>?_;have f:Same (· =b) T A:=(t.trans u).trans ((Same.of_ext d).trans y);have B:Same (λx=>w.heap.size<=x) w A:=(Same.of_ext g).trans ((k.trans f).mono λx _ a=>by subst a;omega);exact C A dv lv ds ts m (B.mono λx a V=>oM) ((p.same f λx a _ e=>oM).weaken λx a _=>oM) s ((z.same f λx a _ e=>oM).weaken λx a _=>oM) r
theorem ways_cases (ds:List M.Dcl) (ts:List M.Tm) (most:Int):xG ds ts most=([],4)\/(all8 ds ts=true/\0<=most/\most<=20/\WaysP ds ts (xG ds ts most).1/\(xG ds ts most).1.length<=20/\
  (((xG ds ts most).2=1/\((xG ds ts most).1.length:Int)=most)\/((xG ds ts most).2=(yu ds ts (xG ds ts most).1).2/\((xG ds ts most).2=2\/(xG ds ts most).2=3)/\((xG ds ts most).1.length:Int)<most))):=by
 by_cases h:all8 ds ts=true/\0<=most/\most<=20
 .obtain⟨a,e,b⟩:=h;obtain⟨f,d⟩:=waysR_says a e b;refine .inr ⟨a,e,b,f,oM,?_⟩;rcases d with d|⟨c1,c2,c3⟩
  .exact .inl d
  .refine .inr ⟨c1,?_,c3⟩;have c:=ways_env a f oM _ (gz _);rw[gF] at c;obtain⟨p,q,r⟩:=jd a;have:=M.solve_code (n:=4000) p q c (nots_le a oM);rw[<-Wu a,<-c1] at this;omega
 .exact .inl (j3 h)
theorem FnSolveWays_spec (hx:Bytes F w v xs) (er:Er w at_ an am ar ab) (y:∀w',Ext w w'->K (.bool true) w'):vcall Q6 #[v] w K:=by
 refine zf {loops:=[(12,[10,11])],cuts:=[(28680,[])]} Tryz.func4 ?_;simp only[push_cast,hx.len];refine zb (λ_=>y w (Same.refl _ _)) (λ_=>?_);refine DrawSolveWays_spec hx.below (λb hb=>hb) λw1 dv tv ds ts most B A Z N aa=>?_;refine oZ ?_;refine SolveWays_spec A N oM (er.ext B) λw2 v2 a0 r U=>?_;refine oZ ?_;refine spec_SolveWays_spec (dsn_sized Z) (A.ext r) (N.ext r) λw3 v3 a1 D n=>?_;refine oZ ?_;have g:=r.trans D;have S:=B.trans g;have e:=U.ext D;have a5:=A.ext g;have a9:=N.ext g;have z:=ways_cases ds ts most;generalize hW:xG ds ts most=R at*;have d:∀(w':World) (K:oK),vbi .len [zn] zE [v2] w' K=K (nI R.1.length) w':=λw' K=>by
  simp only[push_cast,e.lst.vals.len,e.len]
 have Q:∀(w':World) (K:oK),vbi .len [zn] zE [v3] w' K=K (nI R.1.length) w':=λw' K=>by
  simp only[push_cast,n.lst.vals.len,n.len]
 refine zp (λu w'=>u=[]/\w'=w3) (λJ hJ=>?_) ?_
 .refine zb (λh=>absurd rfl h) (λ_=>?_);rw[d,Q];refine oZ ?_;exact zb (λh=>absurd rfl h) (λ_=>hJ _ _ ⟨rfl,rfl⟩)
 rintro _ _ w3 ⟨rfl,rfl⟩;refine zb (λc=>?_) (λc=>?_)
 .rw[d];refine oZ ?_;have:R.1=[]:=by
   rcases z with h|⟨_,_,_,_,_,h⟩
   .rw[h]
   .omega
  rw[this];exact y _ S
 .obtain⟨x,h0,a4,T,a3,q⟩:=z.resolve_left λh=>c (by rw[h]);obtain⟨q1,q2,q3⟩:=all8_iff.1 x;refine vloop_up R.1.length (λi u w'=>u=[nI (WU ds R.1 i),nI i]/\Ext w3 w') ⟨rfl,Same.refl _ _⟩ ?_;rintro i _ _ w4 C hi ⟨rfl,t⟩ hC;rw[d];refine oZ ?_;have k:=g.trans t;have L:=rankN_nat x T oM i oM;refine zb (λa=>?_) (λa=>?_)
  .have f:i<R.1.length:=oM;refine wpFirst_spec (A.ext k) (N.ext k) oM q3 q2 L λw5 ev env j s G W=>?_;obtain⟨Y,a6,H⟩:=ways_first x T oM f W;have I:=(ways_one x T oM f).1;have a8:=zN0 I;have a2:=manyE_le ds;have a7:j=M.rankE ds (R.1.getD i []):=by
    have:j+1=M.rankE ds (R.1.getD i [])+1:=H;omega
   refine oZ ?_;refine zd λw6 E _=>?_;have m:=t.trans (s.trans E);have o:=e.ext m;have p:=n.ext m;have i2:=o.lst.vals;have i3:=p.lst.vals;have r2:=(o.rows.own i f).ints;have r3:=(p.rows.own i f).ints;have l2:a0.length=R.1.length:=o.len;have l3:a1.length=R.1.length:=p.len;simp(disch:=exact oS) only[push_cast,i2.iaddr,i2.load,i3.iaddr,i3.load,gu,K3];refine wpInts_spec r2 r3 λw7 l=>?_;simp only[push_cast,decide_true,GI,K3];refine zb (λh=>oM) (λ_=>?_);have O:=i2.ext l;simp(disch:=exact oS) only[push_cast,O.iaddr,O.load,gu,K3];refine wpInts_spec (G.ext (E.trans l)) (r2.ext l) λw8 V=>?_;rw[gC Y];simp(disch:=omega) only[push_cast,GI,K3,zi];rw[H];exact hC f _ _ ⟨rfl,m.trans (l.trans V)⟩
  .have X:i=R.1.length:=oM;subst X;rcases q with⟨c1,c2⟩|⟨c1,c2,c3⟩
   .rw[c1];refine zb (λh=>oM) (λ_=>?_);refine zb (λ_=>?_) (λh=>absurd rfl h);rw[d];refine oZ ?_;exact zb (λ_=>y _ (S.trans t)) (λh=>absurd c2 h)
   .rcases c2 with c2|c2
    .rw[c2];refine zb (λ_=>?_) (λh=>absurd rfl h);refine wpFirst_spec (A.ext k) (N.ext k) oM q3 q2 L λw5 ev env j s G W=>?_;have hj:=ways_none x T oM (by rw[<-c1,c2]) W;refine oZ ?_;refine zb (λ_=>?_) (λh=>oM);rw[d];refine oZ ?_;rw[gC c3];exact y _ ((S.trans t).trans s)
    .rw[c2];refine zb (λh=>oM) (λ_=>?_);refine zb (λh=>oM) (λ_=>?_);refine zb (λ_=>?_) (λh=>absurd rfl h);rw[d];refine oZ ?_;rw[gC c3];exact y _ (S.trans t)
end
end Go.Proofs.YtfnpmncplaibiaaGreatDoor
section
namespace Go.Proofs.YtfnpmncplaibiaaGreatDoor
open Go Go.Vc Go.Proofs
open Go.RowKit
theorem laid_at {l:List (String×DataW Unit)} {W:World} (h:laidMet P l W):∀k,laidMet P (l.drop k) W
 |0=>h
 |k+1=>by
  have a:=laid_at h k;rw[<-List.tail_drop];cases b:l.drop k with
  |nil=>rw[b] at a;exact a
  |cons x r=>rw[b] at a;exact a.tail
theorem zL0: "*" ++ "errors.errorString" = "*errors.errorString" :=dC
theorem kG0 (u:TypeId) (h:P.typeName? 3 u=some "*errors.errorString"):u=yQ:=
 typeName_ptr_named (nm:= "errors.errorString") (by rw[zL0];kernel_rfl) rK dC u (by rw[zL0];exact h)
def ifaceB (t:TypeId):Bool:=match P.underlying t with
 |some (.interface _)=>true
 |_=>false
theorem Z00 {t:TypeId} (h:ifaceB t=true):∃ms,P.underlying t=some (.interface ms):=by
 unfold ifaceB at h;split at h
 .exact⟨_,by assumption⟩
 .cases h
theorem q20:∃ms,P.underlying xu=some (.interface ms):=Z00 rK
def fieldB (t u:TypeId):Bool:=match P.underlying t with
 |some (.struct fs)=>match fs.toList with
  |[f]=>decide (f.type=u)&&decide (f.offset=0)
  |_=>false
 |_=>false
theorem Z60 {t u:TypeId} (h:fieldB t u=true):∃f,P.underlying t=some (.struct #[f])/\f.type=u/\f.offset=0:=by
 unfold fieldB at h;split at h
 .rename_i fs a;split at h
  .rename_i f b;simp only[gl,gh] at h;refine⟨f,?_,h⟩;rw[a];congr 2;exact GY.1 (by simpa using b)
  .cases h
 .cases h
theorem kH0:P.underlying yQ=some (.pointer 471):=rK
theorem x00:∃f,P.underlying 471=some (.struct #[f])/\f.type=xe/\f.offset=0:=Z60 rK
theorem x10:P.underlying xe=some .string:=rK
theorem Yq0:P.cellsOf 471=1/\P.cellsOf xe=1:=⟨rK,rK⟩
theorem vars_len {H:Type} {enc:TypeId×Value->H} {w:World} {sp:Nat->Bool}:∀{ns:List String} {gs:List (DataW H)} {ps:List MemPlace},DataW.TrodVars enc P w sp ns gs ps->gs.length=ns.length
 |[],[],_,_=>rfl
 |[],_::_,_,h=>h.elim
 |_::_,[],_,h=>h.elim
 |_::_,_::_,_,⟨_,_,_,_,_,_,_,_,_,_,hs,_⟩=>by rw[gJ,gJ,vars_len hs]
theorem vlist5 {α:Type} {l:List α} (h:l.length=5):∃a b c d e,l=[a,b,c,d,e]:=by
 match l,h with
 |[a,b,c,d,e],_=>exact⟨a,b,c,d,e,rfl⟩
end Go.Proofs.YtfnpmncplaibiaaGreatDoor
end
section
namespace Go.Proofs.YtfnpmncplaibiaaGreatDoor
open Go Go.Vc Go.Proofs
open Go.RowKit
theorem Qm {x y:String×DataW Unit} {r:List (String×DataW Unit)} {w:World} (h:laidMet P (x::y::r) w):laidMet P (x::r) w:=by
 obtain⟨ps,u,j,c⟩:=h;obtain⟨n,d⟩:=x;obtain⟨m,e⟩:=y;obtain⟨g,t,cs,fuel,p,q,o,a2,a3,a4,s,rfl⟩:=u;obtain⟨g2,t2,f,i,p2,l,_,_,_,_,k,rfl⟩:=s;have a:=pN (pY (MemPlace.row ⟨g,0,none⟩ cs.size++p)) (List.sublist_append_right (MemPlace.row ⟨g2,0,none⟩ f.size++p2) l);exact⟨_,⟨g,t,cs,fuel,p,l,o,a2,a3,a4,k,rfl⟩,List.Nodup.sublist a j,λb off hm=>c b off (a.subset hm)⟩
theorem jS {W:World} {g:Nat} {a c:Addr} (h:Sent W g a) (b:Sent W g c):a=c:=by
 unfold Sent at h b;rw[h] at b
 injection b with b
 injection b with _ b
 injection b with b
 exact gg b
theorem Zp {j k:String} {t0 t1:List UInt8} {r:List (String×DataW Unit)} {W:World} {g0 g1:Nat} (h:laidMet P ((j,.iface "*errors.errorString" (.ptr (.agg [.lit (.string t0)])))::(k,.iface "*errors.errorString" (.ptr (.agg [.lit (.string t1)])))::r) W)
  (c:P.globalNamed j=some g0) (g:(P.globals[g0]?).map (·.type)=some xu) (d:P.globalNamed k=some g1) (i:(P.globals[g1]?).map (·.type)=some xu):∃a b,Sent W g0 a/\Sent W g1 b/\a≠b/\RowA W a/\RowA W b:=by
 obtain⟨ms,hi⟩:=q20;obtain⟨f,m,n,o⟩:=x00;obtain⟨a0,l,u,s1,c0,c1,s,t,v0,v1,_,_,_,_,_,_,e,p,q⟩:=laid_sentinels2 h c g d i hi kG0 kH0 m n o x10 Yq0.1 Yq0.2;exact⟨a0,l,by unfold Sent;simpa using World.var?_cell c v0 0,by unfold Sent;simpa using World.var?_cell d v1 0,e,⟨c0,s,p⟩,⟨c1,t,q⟩⟩
theorem er_of {nr nb nt nn nm:String} {tr tb tt tn tm:List UInt8} {r l:List (String×DataW Unit)} {W:World} (h:laidMet P l W) (k:Nat)
  (B:l.drop k=(nr,.iface "*errors.errorString" (.ptr (.agg [.lit (.string tr)])))::(nb,.iface "*errors.errorString" (.ptr (.agg [.lit (.string tb)])))::(nt,.iface "*errors.errorString" (.ptr (.agg [.lit (.string tt)])))::(nn,.iface "*errors.errorString" (.ptr (.agg [.lit (.string tn)])))::(nm,.iface "*errors.errorString" (.ptr (.agg [.lit (.string tm)])))::r)
  (er:P.globalNamed nr=some xV) (eb:P.globalNamed nb=some jk) (et:P.globalNamed nt=some yz) (en:P.globalNamed nn=some ju) (em:P.globalNamed nm=some qz)
  (fr:(P.globals[xV]?).map (·.type)=some xu) (fb:(P.globals[jk]?).map (·.type)=some xu) (ft:(P.globals[yz]?).map (·.type)=some xu) (fn:(P.globals[ju]?).map (·.type)=some xu) (fm:(P.globals[qz]?).map (·.type)=some xu):
  ∃at_ an am ar ab,Er W at_ an am ar ab:=by
 have a:=laid_at h k;rw[B] at a;obtain⟨ar,ab,sr,sb,_,rr,_⟩:=Zp a er fr eb fb;have b:=Qm a;obtain⟨w,at_,j,st,C,_,rt⟩:=Zp b er fr et ft;have q:=Qm b;obtain⟨x,an,m,sn,D,_,rn⟩:=Zp q er fr en fn;obtain⟨y,am,n,sm,E,_,rm⟩:=Zp (Qm q) er fr em fm;have c:=b.tail;obtain⟨z,u,o,g,F,_⟩:=Zp c et ft en fn;obtain⟨A,s,p,d,G,_⟩:=Zp (Qm c) et ft em fm;obtain⟨v,t,i,f,n6,_⟩:=Zp c.tail en fn em fm;obtain rfl:=jS j sr;obtain rfl:=jS m sr;obtain rfl:=jS n sr;obtain rfl:=jS o st;obtain rfl:=jS p st;obtain rfl:=jS g sn;obtain rfl:=jS i sn;obtain rfl:=jS d sm;obtain rfl:=jS f sm;exact⟨_,_,_,_,ab,st,sn,sm,⟨sr,sb,id,id⟩,rt,rn,rm,rr,λe=>F e.symm,λe=>G e.symm,λe=>n6 e.symm,C,D,E⟩
end Go.Proofs.YtfnpmncplaibiaaGreatDoor
end
end
