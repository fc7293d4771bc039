import Derived.Test.YtfnpmncplaibiaaGreatDoorWqaP13
/- A part of the proof. -/
set_option linter.all false
set_option maxRecDepth 9999
set_option maxHeartbeats 2000000
noncomputable section
namespace Go.Proofs.YtfnpmncplaibiaaGreatDoor
open Go Go.Vc Go.Proofs Go.M
section
variable {w:World} {K:oK} {F Fr:oA} {bt many:Nat} {put:oI} {ds:List Bool} {vp vpl vl:Value}
theorem next_spec {v:Value} {vs:List Value} {lls:List (List (oI))} (h:TrailR Fr w bt many put ds vp vpl vl) (J:Vals F w v vs) (hn:vs.length=lls.length) (hi:∀i,i<lls.length->Lists F w (vs.getD i undef) (lls.getD i []))
  (hl:∀c,c∈lls.flatten->∀l,l∈c->l.natAbs<=many) (a1:lls.flatten.length<=1000000)
  (M:∀w' k u x,Ext w w'->findM put lls.flatten 0 (-1) 0=(k,u,x)->K (.tuple #[nI k,nI u,nI x]) w'):
  vcall QS #[oP bt 0,v] w K:=by
 refine zf {loops:=[(4,[4,5,6,7,17]),(7,[4,5,6,7,23])]} Tryz.func293 ?_;simp(disch:=exact oS) only[push_cast,J.len];have hlen:vs.length<=9223372036854775807:=by obtain⟨_,_,_,A,R,_⟩:=J.shape;simp at A;omega
 refine vloop_up vs.length (λi u w'=> ∃(k:Nat) (b x:Int),u=[nI (-1),nI b,nI x,nI k,nI i]/\Ext w w'/\k+(lls.drop i).flatten.length=lls.flatten.length/\findM put (lls.drop i).flatten k b x=findM put lls.flatten 0 (-1) 0) ⟨0,-1,0,rfl,Same.refl _ _,by simp,rfl⟩ ?_;rintro i _ g w1 C Y ⟨k,b,x,rfl,he,O,a⟩ S;refine oZ ?_;refine zb (λa0=>?_) (λX=>?_)
 .have z:=J.ext he;obtain⟨cs,V,q,D⟩:=hi i oM;have s:=q.ext he;simp(disch:=exact oS) only[push_cast,z.iaddr,z.load,s.len];have G:cs.length<=9223372036854775807:=by obtain⟨_,_,_,A,R,_⟩:=q.shape;simp at A;omega
  have W:=Zi (d:=[]) (show i<lls.length by omega);rw[W,G0] at a O;have t:∀c,c∈lls.getD i []->c∈lls.flatten:=λc U=>List.mem_flatten.2 ⟨_,by rw[X0,gj oM];exact GZ _,U⟩;generalize lls.getD i []=L at*;generalize (lls.drop (i+1)).flatten=T at*;rw[V1] at O;refine vloop_up cs.length (λj u w'=> ∃(o:Nat) (b x:Int),u=[nI (-1),nI b,nI x,nI o,nI j]/\Ext w w'/\o=k+j/\findM put (L.drop j++T) o b x=findM put lls.flatten 0 (-1) 0) ⟨k,b,x,rfl,he,oM,a⟩ ?_;rintro j _ g2 w2 C2 hj ⟨o,b,x,rfl,f,Z,a⟩ m;refine oZ ?_;refine zb (λQ=>?_) (λN=>?_)
  .have p:=q.ext f;simp(disch:=exact oS) only[push_cast,p.iaddr,p.load];have hm:L.getD j []∈L:=by rw[X0,gj oM];exact GZ _
   rw[Zi (d:=[]) (show j<L.length by omega),GV,findM_cons] at a;refine look_spec (h.ext f) ((D j oM).ext f) (hl _ (t _ hm)) λw3 b' n y E r=>?_;rw[r] at a;dsimp only at a;simp(disch:=omega) only[push_cast,zi];have e:=f.trans E;refine zm (λB=>?_) (λB=>?_)
   .rw[V0 B] at a;exact m oM _ _ ⟨o+1,_,_,by simp<;>exact⟨rfl,rfl⟩,e,oM,a⟩
   rw[Q1 (by simp[B])] at a;refine zb (λH=>?_) (λH=>?_)
   .rw[V0 oM] at a;exact M w3 _ _ _ e a.symm
   rw[Q1 oM] at a;refine zb (λI=>?_) (λI=>?_)
   .rw[V0 oM] at a;refine zb (λhu=>?_) (λhu=>?_)
    .rw[V0 hu] at a;exact m oM _ _ ⟨o+1,_,_,by simp<;>exact⟨rfl,rfl⟩,e,oM,a⟩
    .rw[Q1 hu] at a;exact m oM _ _ ⟨o+1,_,_,by simp<;>exact⟨rfl,rfl⟩,e,oM,a⟩
   .rw[Q1 oM] at a;exact m oM _ _ ⟨o+1,_,_,by simp<;>exact⟨rfl,rfl⟩,e,oM,a⟩
  .rw[Gp (show L.length<=j by omega),Gr] at a;simp(disch:=omega) only[push_cast,zi];exact S oM _ _ ⟨o,_,_,by simp<;>exact⟨rfl,rfl⟩,f,oM,a⟩
 .rw[Gp oM] at a;exact M w1 _ _ _ he a.symm
theorem sep4 {a b c d:Option Nat}:Sep Fr [a,b,c,d]↔((∀x,a=some x->b≠some x)/\(∀x,a=some x->c≠some x)/\(∀x,a=some x->d≠some x)/\(∀x,b=some x->c≠some x)/\(∀x,b=some x->d≠some x)/\(∀x,c=some x->d≠some x))/\
  (∀x,a=some x->¬Fr x)/\(∀x,b=some x->¬Fr x)/\(∀x,c=some x->¬Fr x)/\(∀x,d=some x->¬Fr x):=by
 unfold Sep;simp only[Pl,gk,gE,Gn,forall_eq_or_imp,forall_eq];constructor
 .rintro⟨⟨⟨e,a2,a3⟩,⟨b1,b2⟩,c1,-⟩,f1,f2,f3,f4⟩;exact⟨⟨e,a2,a3,b1,b2,c1⟩,f1,f2,f3,f4⟩
 .rintro⟨⟨e,a2,a3,b1,b2,c1⟩,f1,f2,f3,f4⟩;exact⟨⟨⟨e,a2,a3⟩,⟨b1,b2⟩,c1,λ_ h=>h.elim,List.Pairwise.nil⟩,f1,f2,f3,f4⟩
theorem push_spec {l:Int} {d:Bool} (h:TrailR Fr w bt many put ds vp vpl vl) (a9:l≠0) (hl:l.natAbs<=many) (s:placeOf put l.natAbs=0) (a8:∀b,Fr b->b<w.heap.size)
  (hK:∀i k w',TrailR Fr w' bt many (put++[l]) (ds++[d]) i vpl k->Same (Zc bt vp vpl vl) w w'->(∀b,Zc bt i vpl k b->Zc bt vp vpl vl b\/w.heap.size<=b)->K (.tuple #[]) w'):
  vcall QR #[oP bt 0,nI l,.bool d] w K:=by
 refine zf {cuts:=[(8195,[6]),(16389,[6])]} Tryz.func324 ?_;have hf:=h.few;have ai:=h.few';have hlen:=h.len;have ah:=YD ds;have hc:=Pf (l:=ds) (a:=true);refine zp (λu w'=>u=[nI (ds.count true)]/\Ext w w') ?_ ?_
 .intro C V;have hv:=h.rl.ints;simp(disch:=exact oS) only[push_cast,h.blk.ld2,hv.len];refine zb (λa=>zd λw1 n _=>?_) (λa=>V _ _ ⟨?_,Same.refl _ _⟩)
  .have T:=h.ext n;have O:=T.rl.ints;obtain⟨q,hq⟩:∃q,ds.length=q+1:=⟨ds.length-1,oM⟩;simp(disch:=exact oS) only[push_cast,T.blk.ld2,O.len,K3];rw[ah,hq,show(((q+1:Nat):Int)-1)=(q:Int) from by omega];simp(disch:=exact oS) only[push_cast,zi,O.iaddr,O.load,K3];refine V _ _ ⟨?_,n⟩;rw[J4 oM,jo0 oM]
  .have:ds=[]:=gZ oM;subst this;rfl
 rintro _ g w1 ⟨rfl,n⟩;refine zp (λu w'=>u=[nI ((ds.count true+d.toNat:Nat):Int)]/\w'=w1) ?_ ?_
 .intro C V;cases d
  .exact V _ _ ⟨rfl,rfl⟩
  .simp(disch:=omega) only[push_cast,zi];exact V _ _ ⟨rfl,rfl⟩
 rintro _ g2 _ ⟨rfl,rfl⟩;have T:=h.ext n;have aj:=n.size;simp(disch:=exact oS) only[push_cast,T.blk.ld0];obtain⟨⟨s1,s2,s3,s4,s5,s6⟩,f1,f2,f3,f4⟩:=sep4.1 h.sep;refine zC x8 yG xp rfl rfl λb1 w2 aq L av a2=>?_;have h2:=T.ext L;refine h2.rp.app1 xx a2 oM oM λi w3 B y ad=>?_;have a3:Blk w3 bt [vp,vpl,vl] yw:=h2.blk.same y λe=>s1 bt rfl e;refine a3.st B.ints.cells1 B.ints.one qe rfl λQ D aw a4=>?_;have F:Blk Q bt [i,vpl,vl] yw:=a4;simp(disch:=exact oS) only[push_cast,F.ld2];have ak:=L.size;have al:=y.size;have m:∀x,i.ownBlock=some x->vp.ownBlock=some x\/w.heap.size<=x:=λx c=>(ad x c).imp id λh=>oM
 have l1:=h.blk.lt;have j:∀x,Zc bt vp vpl vl x->x<w.heap.size:=by
  rintro x (rfl|e|e|e)
  .exact l1
  .exact h.rp.lt e
  .exact h.rpl.lt e
  .exact h.rl.lt e
 have aa:OwnI ze Q vl (levels ds):=(h2.rl.same y λx c e=>s5 x e c).same D λx c e=>s3 x (by rw[e]) c;have Y:OwnI ze Q vpl (places many put):=(h2.rpl.same y λx c e=>s4 x e c).same D λx c e=>s2 x (by rw[e]) c;have af:OwnI ze Q i (put++[l]):=B.same D λx c e=>by
  rcases m x c with f|f
  .exact s1 x (by rw[e]) f
  .have:=j bt (.inl rfl);omega
 refine zC x8 yG xp rfl rfl λb2 w5 ar o ax a5=>?_;refine(aa.ext o).app1 xx a5 oM oM λk w6 M z ae=>?_;have a6:Blk w6 bt [i,vpl,vl] yw:=(F.ext o).same z λe=>s3 bt rfl e;refine a6.st M.ints.cells1 M.ints.one qe rfl λR A ay a7=>?_;have U:Blk R bt [i,vpl,k] yw:=a7;have am:=o.size;have an:=z.size;have t:∀x,k.ownBlock=some x->vl.ownBlock=some x\/w3.heap.size<=x:=λx c=>(ae x c).imp id λh=>oM
 have H:∀x,k.ownBlock=some x->vl.ownBlock=some x\/w.heap.size<=x:=λx c=>(t x c).imp id λh=>oM
 have ag:OwnI ze R i (put++[l]):=((af.ext o).same z λx c e=>by
  rcases m x c with f|f
  .exact s5 x f e
  .have:=j x (.inr (.inr (.inr e)));omega).same A λx c e=>by
  rcases m x c with f|f
  .exact s1 x (by rw[e]) f
  .have:=j bt (.inl rfl);omega
 have Z:OwnI ze R vpl (places many put):=((Y.ext o).same z λx c e=>s6 x c e).same A λx c e=>s2 x (by rw[e]) c;have ab:OwnI ze R k (levels (ds++[d])):=by
  rw[levels_snoc];refine M.same A λx c e=>?_;rcases t x c with f|f
  .exact s3 x (by rw[e]) f
  .have:=j bt (.inl rfl);omega
 refine zd λw8 p _=>?_;have r:=U.ext p;have W:=ag.ext p;have J:=Z.ext p;have ac:=ab.ext p;have X:=W.ints;have a1:=J.ints;have au:=Zf many put;simp(disch:=exact oS) only[push_cast,r.ld0,r.ld1,X.len,K3];refine variable_spec oM oM ?_;simp(disch:=exact oS) only[push_cast,r.ld0,r.ld1,X.len,a1.iaddr,K3,gm];refine J.st yG oM λw9 a0 E az=>?_;have N:OwnI ze w9 vpl (places many (put++[l])):=by
  rw[places_snoc s];simpa using a0
 have I:∀x,i.ownBlock=some x->vpl.ownBlock≠some x:=λx c e=>by
  rcases m x c with f|f
  .exact s4 x f e
  .have:=j x (.inr (.inr (.inl e)));omega
 have v:∀x,vpl.ownBlock=some x->k.ownBlock≠some x:=λx c e=>by
  rcases t x e with f|f
  .exact s6 x c f
  .have:=j x (.inr (.inr (.inl c)));omega
 have ao:=A.size;have ap:=p.size;have G:∀x,w.heap.size<=x->¬Fr x:=λx c hF=>by have:=a8 x hF;omega
 refine hK i k w9 ⟨r.same E λe=>s2 bt rfl e,W.same E I,N,ac.same E λx c e=>v x e c,?_,by simp[hlen],distinct_snoc h.dis s,?_,h.few⟩ ?_ ?_
 .rw[sep4];refine⟨⟨?_,s2,?_,I,?_,v⟩,f1,?_,f3,?_⟩
  .rintro x e S;cases e;rcases m _ S with f|f
   .exact s1 _ rfl f
   .have:=j _ (.inl rfl);omega
  .rintro x e S;cases e;rcases t _ S with f|f
   .exact s3 _ rfl f
   .have:=j _ (.inl rfl);omega
  .intro x e S;have c:=B.lt e;rcases t x S with e3|e3
   .rcases m x e with f|f
    .exact s5 x f e3
    .have:=j x (.inr (.inr (.inr e3)));omega
   .omega
  .intro x e;rcases m x e with f|f
   .exact f2 x f
   .exact G x f
  .intro x e;rcases H x e with f|f
   .exact f4 x f
   .exact G x f
 .intro x c;rw[gq,gD] at c;rcases c with c|rfl
  .exact h.bnd x c
  .exact⟨a9,hl⟩
 .have S0:Same (Zc bt vp vpl vl) w w2:=Same.of_ext (n.trans L);have S3:Same (Zc bt vp vpl vl) w2 w3:=y.mono λx _ e=> .inr (.inl e);have S4:Same (Zc bt vp vpl vl) w3 Q:=D.mono λx _ e=> .inl e;have S5:Same (Zc bt vp vpl vl) Q w5:=Same.of_ext o;have S6:Same (Zc bt vp vpl vl) w5 w6:=z.mono λx _ e=> .inr (.inr (.inr e));have S7:Same (Zc bt vp vpl vl) w6 R:=A.mono λx _ e=> .inl e;have S8:Same (Zc bt vp vpl vl) R w8:=Same.of_ext p;have S9:Same (Zc bt vp vpl vl) w8 w9:=E.mono λx _ e=> .inr (.inr (.inl e));exact S0.trans (S3.trans (S4.trans (S5.trans (S6.trans (S7.trans (S8.trans S9))))))
 .rintro x (e|e|e|e)
  .exact .inl (.inl e)
  .exact(m x e).imp (λe=> .inr (.inl e)) id
  .exact .inl (.inr (.inr (.inl e)))
  .exact(H x e).imp (λe=> .inr (.inr (.inr e))) id
end
theorem Ki {α:Type} {xs:List α} {d:α} {i:Nat} (h:i<xs.length):xs.take (i+1)=xs.take i++[xs.getD i d]:=by
 rw[pt];simp[X0,h]
end Go.Proofs.YtfnpmncplaibiaaGreatDoor
namespace Go.Proofs.YtfnpmncplaibiaaGreatDoor
open Go Go.Vc Go.Proofs
section
variable {w:World} {K:oK}
theorem unit_mem {put cl:oI} {x:Int} (h:M.unitC put cl x):x∈cl/\M.placeOf put x.natAbs=0:=by
 have:x∈cl.filter λl=>decide (M.placeOf put l.natAbs=0):=by rw[h.2];grind
 grind
theorem cnf_new {N:Nat} {lv:Value} {ls:List Value} {c:M.Cnf} {K:oK} (h:CnfO N w lv ls c) (g:∀w' b,w.heap.size<=b->Ext w w'->Blk w' b [nI c.many,lv] zq->CnfO N w' lv ls c->K (oP b 0) w'):
  xE zq w λt4 w1=>zy zq t4 (.agg ⟨[nI c.many,lv]⟩) w1 λ_ w2=>K t4 w2:=by
 obtain⟨o,cc,d,_⟩:=h.lst.vals.shape;generalize (ls.map λx=>[x]).length=l at d;subst d;refine zj xr λb w1 i j k e=>?_;refine e.stAgg (cs':=[nI c.many,.slice o l cc]) rfl zG net_one λw2 m n f=>?_;have a:Ext w w2:=by grind [Ext.then]
 exact g w2 b oM a f (h.ext a)
theorem push_int {pv:Value} {xs:oI} {x:Int} (h:OwnI ze w pv xs) (n:xs.length<=100000) (g:∀w' a,Same (λb=>pv.ownBlock=some b) w w'->OwnI ze w' a (xs++[x])->(∀b,a.ownBlock=some b->pv.ownBlock=some b\/w.heap.size<=b)->K a w'):
  vbuildS ze 1 [(0,nI x)] w λs w1=>vbi .append [ze,ze] ze [pv,s] w1 K:=by
 refine qH x8 yG xp rfl rfl dC λb3 o i c k d=>?_;refine OwnI.app1 (h.ext c) xx d oM oM λv4 l e f j=>?_;refine g l v4 ((Same.of_ext c).trans f) e λb m=>?_
 grind
end
end Go.Proofs.YtfnpmncplaibiaaGreatDoor
namespace Go.Vc
open Go
section
variable {t:TypeId} {w:World} {v:Value} {vs:List Value} {F:oA}
theorem Vals.part (h:Vals F w v vs) (j:vs≠[]) (m:elB t 1=true) {n:Nat} (q:n<=vs.length):∃v1,(∀(kd:IntKind) (w':World) (K:oK),xt t v none (some (.int kd n)) none w' K=K v1 w')/\Vals F w v1 (vs.take n):=by
 obtain⟨hu,hs⟩:=Xh m;obtain⟨a,c,rfl,l,g,d⟩:=h.shape;obtain⟨b,o,rfl,hF,k,f⟩:=d (by simpa using j);rw[gd] at l f;refine⟨.slice (some ⟨b,o,none⟩) n c,λkd w' K=>y6 ?_,⟨some ⟨b,o,none⟩,c,?_,?_,g,λ_=>⟨b,o,rfl,hF,k,λi hi=>?_⟩⟩,λx p=>by obtain⟨u,_,rfl⟩:=gB.1 p;rfl⟩
 .rw[run_sliceAt_slice w' t _ _ _ _ hu,run_slice_h w' t _ _ _ hu kd n oM oM,run_sizeOf hs];simp[Result.andThen,sliced];exact λ_=>rfl
 .simp;omega
 .simp;omega
 .simp only[gd,gi] at hi;have:=f i oM;have e:(List.map (λx=>[x]) (vs.take n)).getD i []=(List.map (λx=>[x]) vs).getD i []:=by
   simp[X0,PU,show i<n by omega]
  rw[e];exact this
theorem Vals.rest (h:Vals F w v vs) (j:vs≠[]) (r:elB t 1=true) {n:Nat} (y:n<=vs.length):∃v1,(∀(kd:IntKind) (w':World) (K:oK),xt t v (some (.int kd n)) none none w' K=K v1 w')/\Vals F w v1 (vs.drop n):=by
 obtain⟨hu,hs⟩:=Xh r;obtain⟨a,c,rfl,m,p,d⟩:=h.shape;obtain⟨b,o,rfl,hF,l,f⟩:=d (by simpa using j);rw[gd] at m f;refine⟨sliced (some ⟨b,o,none⟩) n vs.length c 1,λkd w' K=>y6 ?_,?_⟩
 .rw[run_sliceAt_slice w' t _ _ _ _ hu,run_slice_l w' t _ _ _ hu kd n oM (by simp;omega),run_sizeOf hs];simp[Result.andThen]
 .refine⟨⟨_,c-n,rfl|>λ(_:True=True)=>by simp[sliced];rfl,by simp;omega,oM,λg=>?_⟩,λx s=>by obtain⟨u,_,rfl⟩:=gB.1 s;rfl⟩;have q:n<vs.length:=by
   refine Nat.lt_of_not_le λk=>g ?_;rw[Pt k];rfl
  rw[Q1 oM];refine⟨b,o+n,by simp[ym],hF,l,λi hi=>?_⟩;simp only[gd,pB] at hi;have:=f (n+i) oM;have e:(List.map (λx=>[x]) (vs.drop n)).getD i []=(List.map (λx=>[x]) vs).getD (n+i) []:=by
   simp[X0,Pn]
  rw[e,show o+n+i*1=o+(n+i)*1 by omega];exact this
end
end Go.Vc
namespace Go.Proofs.YtfnpmncplaibiaaGreatDoor
open Go Go.Vc Go.Proofs
section
variable {w:World} {K:oK} {D F F' G:oA} {dv iv:Value} {ds:List M.Dcl} {ins:List Bool}
def Jy (ds:List M.Dcl) (i:Nat):Nat:=M.nIn (ds.take i)
theorem off_succ (a:M.declOk ds=true) {i:Nat} (hi:i<ds.length):Jy ds (i+1)=Jy ds i+(ds.getD i (M.nada,0)).2.toNat:=by
 have f:=M.bits_le a hi;have hw:=M.dcl_wide a hi;unfold Jy M.nIn;have e:M.bits (ds.take (i+1))=M.bits (ds.take i)+(ds.getD i (M.nada,0)).2:=by
  rw[M.take_add hi (M.nada,0)];unfold M.bits;rw[gG,PH];simp
 have c:0<=M.bits (ds.take i):=M.bits_pos' λd b=>M.dpos a d (gV b);rw[e];omega
theorem Y30:Jy ds ds.length=M.nIn ds:=by unfold Jy;rw[gF]
theorem off_le (hd : M.declOk ds = true) {i : Nat} (hi : i <= ds.length) : Jy ds i <= M.nIn ds := by
  induction h : ds.length - i generalizing i with
  | zero => have : i = ds.length := by omega
            subst this; exact Nat.le_of_eq Y30
  | succ n ih =>
    have h2 := off_succ hd (show i < ds.length by omega)
    have := ih (i := i + 1) (by omega) (by omega)
    omega
theorem envB_take:∀{ds:List M.Dcl} {ins:List Bool} {i:Nat},(∀d,d∈ds->0<=d.2)->i<ds.length->(M.envB ds ins).getD i 0=(M.msbN ((ins.drop (Jy ds i)).take (ds.getD i (M.nada,0)).2.toNat):Int)
 |[],_,_,_,h=>by simp at h
 |d::ds,ins,0,_,_=>by
  have:Jy (d::ds) 0=0:=rfl;rw[this];simp[M.envB]
 |d::ds,ins,i+1,c,h=>by
  have f:=c d gp;have a:∀x,x∈ds->0<=x.2:=λx b=>c x (gx _ b);have g:0<=M.bits (ds.take i):=M.bits_pos' λx b=>a x (gV b);have e:Jy (d::ds) (i+1)=d.2.toNat+Jy ds i:=by
   unfold Jy M.nIn;rw[List.take_succ_cons,M.bits_cons'];omega
  unfold M.envB;rw[G9,envB_take a (by simpa using h),e,G9,<-z0m]
theorem msb_snoc (bs:List Bool) (b:Bool):(M.msbN (bs++[b]):Int)=2*M.msbN bs+M.b2i b:=by
 rw[M.msb_app];cases b<;>simp[M.msbN,M.b2i]<;>omega
theorem BlastEnv_spec (Q:DclsR F w dv ds) (hi:Bools F' w iv ins) (d:M.declOk ds=true) (hl:ins.length=M.nIn ds)
  (hK:∀w' r,Ext w w'->OwnI ze w' r (M.envB ds ins)->(∀b,r.ownBlock=some b->w.heap.size<=b)->K r w'):vcall KR #[dv,iv] w K:=by
 refine zf {loops:=[(5,[1,5,23]),(9,[8,32])],cuts:=[(8195,[])]} Tryz.func216 ?_;obtain⟨ag,ah⟩:=M.nIn_eq d;have Z:Bools (λx=>x<w.heap.size) w iv ins:=Sl.weaken hi λx _ h=>h;refine zp (λu w'=>u=[]/\Ext w w') (λC S=>?_) ?_
 .refine DeclOk_spec Q λw1 f=>?_;rw[d];simp only[push_cast,GI,(hi.ext f).len];refine bitsOf_spec (Q.ext f) d λw2 W=>?_;refine oZ ?_;refine zb (λh=>absurd oM h) (λ_=>S _ _ ⟨rfl,f.trans W⟩)
 rintro _ _ w1 ⟨rfl,f⟩;simp only[push_cast,(Q.ext f).len];have h4:=(M.decl_iff.1 d).1;have V:=M.dpos d;have Y:=M.envB_len ds ins;refine vloop_up ds.length (λi u w'=> ∃v r,u=[v,r,nI i]/\Ext w w'/\Bools (λx=>x<w.heap.size) w' v (ins.drop (Jy ds i))/\OwnI ze w' r ((M.envB ds ins).take i)/\∀b,r.ownBlock=some b->w.heap.size<=b) ⟨iv,_,rfl,f,by simpa[Jy,M.nIn,M.bits] using Z.ext f,OwnI.nil,λb hb=>by cases hb⟩ ?_;rintro i _ _ w2 C ae ⟨v,r,rfl,E,a6,t,s⟩ S;refine oZ ?_;refine zb (λa=>?_) (λa=>?_)
 .have p:i<ds.length:=oM;have I:=Q.ext E;have aa:=M.dcl_wide d p;have z:=off_succ d p;have ab:=off_le d (i:=i+1) oM;have o:(ins.drop (Jy ds i)).length=M.nIn ds-Jy ds i:=(by rw[pB,hl]);simp(disch:=exact oS) only[push_cast,I.iaddr,I.load];refine zj yO λb3 w3 ad X aj R=>?_;refine stDecl R λw4 a5 ak G=>?_;have k:Ext w2 w4:=Ext.then X a5 λy hy=>by subst hy;omega
  have e4:=E.trans k;have O:=a6.ext k;have het:=envB_take (ins:=ins) V p;obtain⟨wd,l⟩:∃wd:Nat,(ds.getD i (M.nada,0)).2=wd:=⟨_,(PJ oM).symm⟩;rw[l] at aa z het;rw[gu] at z het;simp(disch:=exact oS) only[push_cast,G.ld1,l];have J:(ins.drop (Jy ds i)).map (λx=>Value.bool x)≠[]:=λh=>by
   have:=congrArg List.length h;rw[gd,o] at this;simp at this;omega
  obtain⟨v5,H,a7⟩:=Vals.part O J xi0 (n:=wd) (by rw[gd,o];omega);rw[H];have g:Bools (λx=>x<w.heap.size) w4 v5 ((ins.drop (Jy ds i)).take wd):=by unfold Bools;rw[GO];exact a7
  generalize U:(ins.drop (Jy ds i)).take wd=bs at g het;have m:bs.length=wd:=by rw[<-U,gi,o];omega
  simp only[push_cast,g.len,m];refine vloop_up wd (λj u w'=>u=[nI (M.msbN (bs.take j)),nI j]/\w'=w4) ⟨rfl,rfl⟩ ?_;rintro j _ _ _ C1 hj ⟨rfl,rfl⟩ T;refine oZ ?_;have af:=M.msb_lt (bs.take j);have ai:2^(bs.take j).length<=2^4:=gY oM (by rw[gi];omega);refine zb (λc=>?_) (λc=>?_)
  .have a1:j<wd:=oM;simp(disch:=exact oS) only[push_cast,g.iaddr,gu,g.load,zi];refine Xo ?_;have ac:0<=M.b2i (bs.getD j false)/\M.b2i (bs.getD j false)<=1:=by unfold M.b2i;split<;>omega
   have N:=msb_snoc (bs.take j) (bs.getD j false);rw[<-M.take_add (by omega:j<bs.length) false] at N;refine oZ ?_;rw[<-N,zi oM oM];exact T a1 _ _ ⟨rfl,rfl⟩
  .have a2:j=wd:=oM;subst a2;rw[<-m,gF];have a4:=t.ext k;refine push_int a4 (by rw[gi];omega) λw6 r6 B L a3=>?_;have lr:∀x,r.ownBlock=some x->x<w2.heap.size:=λx D=>(t.lt D);have q6:=G.same B λe=>by have:=lr _ e;omega
   have a8:=O.same B λx D _ e=>by have:=s x e;omega
   have z24:=k.size;have z2:=E.size;rw[<-het,<-M.take_add oM 0] at L;obtain⟨v7,A,a9⟩:=Vals.rest a8 J xi0 (n:=bs.length) (by rw[gd,o];omega);simp(disch:=exact oS) only[push_cast,q6.ld1,l,m.symm,A];rw[inc64' oM];refine S p _ _ ⟨v7,r6,rfl,Ext.then (E.trans k) B λx D=>s x D,?_,?_,λx D=>?_⟩
   .rw[z,<-m];have q:=a9;rw[<-Pk,z0m] at q;exact q
   .exact L
   .rcases a3 x D with e|e
    .exact s x e
    .omega
 .have a0:i=ds.length:=oM;subst a0;rw[<-Y,gF] at t;exact hK w2 r E t s
end
end Go.Proofs.YtfnpmncplaibiaaGreatDoor
section
namespace Go.Proofs.YtfnpmncplaibiaaGreatDoor
open Go Go.Vc Go.Proofs
section
open Go.RowKit Go.Extern.Stop Go.Stop Go.Extern
theorem Y70 (a b : Addr) (w : World) (hne : a ≠ b) {ca cb : Array Value} {ta tb : TypeId} (ha : w.heap[a.block]? = some (.cells ca ta (0, 0))) (hb : w.heap[b.block]? = some (.cells cb tb (0, 0))) :
    Calls Tryz.prog 49 #[.iface 443 (.pointer (some a)), .iface 443 (.pointer (some b))] w λe w' => e = .returned (.bool false) /\ w' = w := by
  obtain ⟨i, hi, hcmp⟩ := pU.1 jx0
  obtain ⟨j, hj, hjs⟩ := pU.1 jw0
  have h8 := @run_callFunc_extern Tryz.prog 91 _ Extern.ReflectliteType.typeOf Tryz.func91 (by kernel_rfl) (by kernel_rfl) (by kernel_rfl) (by kernel_rfl)
  have h32 : ∀ w : World, (callFunc 402 #[.agg #[.pointer (some ⟨11, 443, none⟩)]]).run Tryz.prog w = .ok (Next.value (.bool true)) w := Qp
  have tT := yx0
  have mR := yy0
  have heq := run_eql_iface_ptr_other (P := Tryz.prog) w Tryz.underlying86 Tryz.underlying443 hi hcmp hj (by rw [hjs]; decide) hne ha hb
  have n1 := noIsE
  have n2 := jd0
  have n3 := qa0
  go_enter Tryz.func49, Tryz.ntmps49
  go_wp2
  refine wp_loop_rounds 1 ?_
  rw [rounds_succ]
  go_wp2
  go_ret
  exact ⟨rfl, rfl⟩
end
variable {w:World} {K:oK}
theorem kX0 {a b:Addr} (c:a≠b) {ca cb:Array Value} {ta tb:TypeId} (f:w.heap[a.block]?=some (.cells ca ta (0,0))) (g:w.heap[b.block]?=some (.cells cb tb (0,0))) (d:K (.bool false) w):vcall xC #[erv a,erv b] w K:=
 ⟨rK,(Y70 a b w c f g).mono λe w' h=>by obtain⟨rfl,rfl⟩:=h;exact d⟩
end Go.Proofs.YtfnpmncplaibiaaGreatDoor
end
namespace Go.Proofs.YtfnpmncplaibiaaGreatDoor
open Go Go.Vc Go.Proofs Go.M
section
variable {w:World} {K:oK} {F Fr:oA} {many bs:Nat} {c:Cnf} {s:Sat} {N:Nat}
structure SV where
 (vc:Value) (bt:Nat) (vp vpl vl vw vr:Value) (ls:List Value)
def SV.tf (σ:SV):oA:=Zc σ.bt σ.vp σ.vpl σ.vl
def SV.f3 (σ:SV) (bs b:Nat):Prop:=b=bs\/σ.vw.ownBlock=some b\/σ.vr.ownBlock=some b
def SV.foot (σ:SV) (bs b:Nat):Prop:=σ.tf b\/σ.f3 bs b
structure SR (N:Nat) (Fr:oA) (w:World) (bs many:Nat) (c:Cnf) (s:Sat) (σ:SV):Prop where
 blk:Blk w bs [nI many,σ.vc,oP σ.bt 0,σ.vw,σ.vr,nI s.code] yr
 cm:c.many=many
 cl:Lists Fr w σ.vc c.list
 tr:TrailR Fr w σ.bt many s.put (yn s.why) σ.vp σ.vpl σ.vl
 rw:OwnI ze w σ.vw s.why
 rl:OwnV zn w σ.vr σ.ls
 lsl:σ.ls.length=s.learned.length
 ll:RowsR N Fr w σ.ls s.learned
 s1:∀x,σ.vw.ownBlock=some x->x≠bs
 s2:∀x,σ.vr.ownBlock=some x->x≠bs
 s3:∀x,σ.vw.ownBlock=some x->σ.vr.ownBlock≠some x
 st:∀x,σ.f3 bs x->¬σ.tf x
 sf:∀x,σ.f3 bs x->¬Fr x
section
variable {σ:SV} {w':World} {S:oA}
theorem SR.notF (h:SR N Fr w bs many c s σ) {x:Nat} (a:σ.foot bs x): ¬Fr x:=by
 obtain⟨_,f1,f2,f3,f4⟩:=sep4.1 h.tr.sep;rcases a with(rfl|e|e|e)|e
 .exact f1 _ rfl
 .exact f2 _ e
 .exact f3 _ e
 .exact f4 _ e
 .exact h.sf _ e
theorem SR.lt (h:SR N Fr w bs many c s σ) {x:Nat} (a:σ.foot bs x):x<w.heap.size:=by
 rcases a with(rfl|e|e|e)|rfl|e|e
 .exact h.tr.blk.lt
 .exact h.tr.rp.lt e
 .exact h.tr.rpl.lt e
 .exact h.tr.rl.lt e
 .exact h.blk.lt
 .exact h.rw.lt e
 .exact h.rl.lt e
theorem SR.same (h:SR N Fr w bs many c s σ) (hw:Same S w w') (hs:∀x,σ.foot bs x->¬S x) (hF:∀x,Fr x->x<w.heap.size->¬S x):SR N Fr w' bs many c s σ:=
 ⟨h.blk.same hw (hs _ (.inr (.inl rfl))),h.cm,h.cl.same hw hF,h.tr.same hw λb a=>hs _ (.inl a),h.rw.same hw λb a=>hs _ (.inr (.inr (.inl a))),h.rl.same hw λb a=>hs _ (.inr (.inr (.inr a))),h.lsl,h.ll.same hw hF,h.s1,h.s2,h.s3,h.st,h.sf⟩
theorem SR.ext (h:SR N Fr w bs many c s σ) (hw:Ext w w'):SR N Fr w' bs many c s σ:=h.same hw (λ_ _ h=>h) λ_ _ _ h=>h
theorem SR.lists (h:SR N Fr w bs many c s σ):Vals (λb=>σ.vr.ownBlock=some b) w σ.vr σ.ls:=h.rl.vals
theorem clause_spec {k:Nat} (h:SR N Fr w bs many c s σ) (q:k<c.list.length+s.learned.length) (p:c.list.length+s.learned.length<=1000000)
  (n:∀v w',Ext w w'->Ints Fr w' v (atM c s k)->K v w'):vcall YL #[oP bs 0,nI k] w K:=by
 refine zf {} Tryz.func295 ?_;obtain⟨cs,m,b,l⟩:=h.cl;simp(disch:=exact oS) only[push_cast,h.blk.ld1,b.len];refine zb (λa=>?_) (λa=>zd λw1 d _=>?_)
 .simp(disch:=exact oS) only[push_cast,h.blk.ld1,b.iaddr,b.load];refine n _ w (Same.refl _ _) ?_;have:=l k oM;rwa[atM,getD_app_l oM]
 .have g:=h.ext d;have e:=b.ext d;obtain⟨j,rfl⟩:∃j,k=cs.length+j:=⟨k-cs.length,oM⟩;have f:=g.lists;have o:=h.lsl;simp(disch:=exact oS) only[push_cast,g.blk.ld1,g.blk.ld4,e.len,K3];rw[show(cs.length:Int)+j-cs.length=(j:Int) from by omega];simp(disch:=exact oS) only[push_cast,zi,f.iaddr,f.load,K3];refine n _ w1 d ?_;have:=g.ll.int (i:=j) oM;rwa[atM,m,getD_app_r]
theorem assign_spec {l y:Int} (h:SR N Fr w bs many c s σ) (J:l≠0) (hl:l.natAbs<=many) (r:placeOf s.put l.natAbs=0) (C:∀b,Fr b->b<w.heap.size)
  (X:∀W w',SR N Fr w' bs many c {s with put:=s.put++[l],why:=s.why++[y]} W->Same (σ.foot bs) w w'->(∀b,W.foot bs b->σ.foot bs b\/w.heap.size<=b)->K (.tuple #[]) w'):
  vcall YM #[oP bs 0,nI l,nI y] w K:=by
 refine zf {} Tryz.func296 ?_;simp(disch:=exact oS) only[push_cast,h.blk.ld2];refine push_spec (d:=decide (y= -1)) h.tr J hl r C λn m w1 j f D=>?_;have S:=f.size;have t:∀x,σ.f3 bs x->¬Zc σ.bt σ.vp σ.vpl σ.vl x:=λx a=>h.st x a;have B:=h.blk.same f (t bs (.inl rfl));have Q:=h.rw.same f λx a=>t x (.inr (.inl a));have M:=h.rl.same f λx a=>t x (.inr (.inr a));have R:=h.tr.few';have a0:=h.tr.few;have hlen:=h.tr.len;rw[jX] at hlen;simp(disch:=exact oS) only[push_cast,B.ld3];refine zC x8 yG xp rfl rfl λb1 w2 Y i a1 I=>?_;have T:=i.size;refine(Q.ext i).app1 xx I oM oM λo w3 z k L=>?_;have U:=k.size;have G:=(B.ext i).same k λe=>h.s1 _ e rfl;have u:∀x,o.ownBlock=some x->σ.vw.ownBlock=some x\/w1.heap.size<=x:=λx a=>(L x a).imp id λh=>oM
 have Z:=h.lt (.inr (.inl rfl));have p:∀x,o.ownBlock=some x->x≠bs:=λx a e=>by
  rcases u x a with A|A
  .exact h.s1 x A e
  .omega
 refine G.st z.ints.cells1 z.ints.one qe rfl λV v a2 H=>?_;have O:∀x,Zc σ.bt n σ.vpl m x->x<w1.heap.size:=by
  rintro x (rfl|e|e|e)
  .exact j.blk.lt
  .exact j.rp.lt e
  .exact j.rpl.lt e
  .exact j.rl.lt e
 have E:∀x,σ.f3 bs x->¬Zc σ.bt n σ.vpl m x:=λx a g=>by
  rcases D x g with e|e
  .exact h.st x a e
  .have:=h.lt (.inr a);omega
 have F:Same (σ.f3 bs) w1 V:=(Same.of_ext i).trans ((k.mono λx _ e=> .inr (.inl e)).trans (v.mono λx _ e=> .inl e));have q:∀x,(SV.mk σ.vc σ.bt n σ.vpl m o σ.vr σ.ls).f3 bs x->σ.f3 bs x\/w1.heap.size<=x:=by
  rintro x (e|e|e)
  .exact .inl (.inl e)
  .exact(u x e).imp (λe=> .inr (.inl e)) id
  .exact .inl (.inr (.inr e))
 refine X ⟨σ.vc,σ.bt,n,σ.vpl,m,o,σ.vr,σ.ls⟩ V ⟨H,h.cm,(h.cl.same f ?_).same F ?_,?_,z.same v p,?_,h.lsl,?_,p,h.s2,?_,?_,?_⟩ ?_ ?_
 .exact λx hF _ g=>h.notF (.inl g) hF
 .exact λx hF _ g=>h.notF (.inr g) hF
 .have:=j.same F λx a e=>E x e a;rwa[<-jO0] at this
 .exact((M.ext i).same k λx a e=>h.s3 x e a).same v λx a e=>h.s2 x a e
 .exact(h.ll.same f λx hF _ g=>h.notF (.inl g) hF).same F λx hF _ g=>h.notF (.inr g) hF
 .intro x a e;rcases u x a with A|A
  .exact h.s3 x A e
  .have:=h.lt (.inr (.inr (.inr e)));omega
 .intro x a g;rcases q x a with e|e
  .exact E x e g
  .have:=O x g;omega
 .intro x a hF;rcases q x a with e|e
  .exact h.sf x e hF
  .have:=C x hF;omega
 .exact(f.mono λx _ e=> .inl e).trans (F.mono λx _ e=> .inr e)
 .rintro x (e|e)
  .exact(D x e).imp (λe=> .inl e) id
  .exact(q x e).imp (λe=> .inr e) λh=>oM
theorem pop_take {α:Type} {d:α} {xs:List α} {n:Nat} (h:xs.length=n+1):xs=xs.take n++[xs.getD n d]:=by
 have:=pd n xs;rw[Zi (d:=d) (show n<xs.length by omega),Gp (show xs.length<=n+1 by omega)] at this;exact this.symm
theorem goBack_spec {L:Int} (h:SR N Fr w bs many c s σ)
  (hK:∀f w' n,n=backN (yn s.why) L s.put.length->SR N Fr w' bs many c {s with put:=s.put.take n,why:=s.why.take n} f->Same (σ.foot bs) w w'->(∀b,f.foot bs b->σ.foot bs b)->K (.tuple #[]) w'):
  vcall YK #[oP bs 0,nI L] w K:=by
 refine zf {loops:=[(1,[])],cuts:=[(8194,[])]} Tryz.func323 ?_;simp(disch:=exact oS) only[push_cast,h.blk.ld2];have aq:=h.tr.few';have ai:=h.tr.few;have hlen:=h.tr.len;rw[jX] at hlen;refine vloop_up s.put.length (λi u w'=> ∃f,SR N Fr w' bs many c {s with put:=s.put.take (s.put.length-i),why:=s.why.take (s.put.length-i)} f/\f.bt=σ.bt/\Same (σ.foot bs) w w'/\(∀b,f.foot bs b->σ.foot bs b)/\backN (yn s.why) L (s.put.length-i)=backN (yn s.why) L s.put.length) ⟨σ,?_,rfl,Same.refl _ _,λ_ h=>h,by simp⟩ ?_
 .rw[Nat.sub_zero,gF,<-hlen,gF];exact h
 rintro i u g w1 C hi ⟨f,h1,a4,T,z,U⟩ hC;generalize hn:s.put.length-i=n at*;have W:(s.put.take n).length=n:=by simp;omega
 have ap:(s.why.take n).length=n:=by simp;omega
 have au:(yn (s.why.take n)).length=n:=by rw[jX];exact ap
 have ah:n=backN (yn s.why) L s.put.length->K (.tuple #[]) w1:=λe=>hK f w1 n e h1 T z;rw[<-a4];refine zp (λu w'=>Ext w1 w'/\∃m,n=m+1/\L<lvl (yn s.why) m) ?_ ?_
 .intro J hJ;refine zd λw2 t _=>?_;have G:=h1.ext t;have H:Ints _ w2 f.vp (s.put.take n):=G.tr.rp.ints;have a6:Ints _ w2 f.vl (levels (yn (s.why.take n))):=G.tr.rl.ints;have a7:=YD (yn (s.why.take n));simp(disch:=exact oS) only[push_cast,G.tr.blk.ld0,H.len,K3];have r:n=backN (yn s.why) L s.put.length->K (.tuple #[]) w2:=λe=>hK f w2 n e G (T.trans (Same.of_ext t)) z;refine zb (λa=>?_) (λa=>?_)
  .obtain⟨m,rfl⟩:∃m,n=m+1:=⟨n-1,oM⟩;simp(disch:=exact oS) only[push_cast,G.tr.blk.ld0,G.tr.blk.ld2,H.len,K3];rw[W,show(((m+1:Nat):Int)-1)=(m:Int) from by omega];simp(disch:=exact oS) only[push_cast,zi,a6.iaddr,a6.load,K3];rw[J4 oM,<-yF0,lvl_take oM];refine zb (λb=>hJ _ _ ⟨t,m,rfl,b⟩) (λb=>r ?_);rw[<-U,backN,Q1 b]
  .refine r ?_;rw[<-U,show n=0 from by omega];rfl
 rintro _ g2 w2 ⟨t,m,rfl,hL⟩;have G:=h1.ext t;have H:OwnI ze w2 f.vp (s.put.take (m+1)):=G.tr.rp;have a8:=H.ints;simp(disch:=exact oS) only[push_cast,G.tr.blk.ld0,a8.len];rw[W,show(((m+1:Nat):Int)-1)=(m:Int) from by omega];simp(disch:=omega) only[push_cast,zi];refine zd λZ a5 _=>?_;have j:=G.ext a5;have a9:OwnI ze Z f.vp (s.put.take (m+1)):=j.tr.rp;have R:OwnI ze Z f.vpl (places many (s.put.take (m+1))):=j.tr.rpl;have aj:OwnI ze Z f.vl (levels (yn (s.why.take (m+1)))):=j.tr.rl;have an:OwnI ze Z f.vw (s.why.take (m+1)):=j.rw;have Q:=a9.ints;have X:=R.ints;have av:=Zf many (s.put.take (m+1));have hm:(s.put.take (m+1)).getD m 0∈s.put.take (m+1):=getD_meS oM;have ar:=j.tr.bnd _ hm;simp(disch:=exact oS) only[push_cast,j.tr.blk.ld0,j.tr.blk.ld1,Q.iaddr,Q.load,K3];refine variable_spec oM oM ?_;simp(disch:=exact oS) only[push_cast,j.tr.blk.ld1,X.iaddr,K3,gm];refine R.st yG oM λw4 aa p aw=>?_;have l:=pop_take (d:=0) W;rw[pF,GG (by omega:m<=m+1)] at l;generalize hx:(s.put.take (m+1)).getD m 0=x at*;have Y:OwnI ze w4 f.vpl (places many (s.put.take m)):=by
  have hd:Distinct (s.put.take m++[x]):=by rw[<-l];exact j.tr.dis
  rw[<-places_unsnoc (many:=many) hd,<-l];simpa using aa
 obtain⟨⟨t1,t2,t3,t4,t5,t6⟩,f1,f2,f3,f4⟩:=sep4.1 j.tr.sep;have k1:∀y,f.f3 bs y->f.vpl.ownBlock≠some y:=λy k e=>j.st y k (.inr (.inr (.inl e)));have ad:Blk w4 f.bt [f.vp,f.vpl,f.vl] yw:=j.tr.blk.same p λe=>t2 _ rfl e;have a2:Blk w4 bs [nI many,f.vc,oP f.bt 0,f.vw,f.vr,nI s.code] yr:=j.blk.same p λe=>k1 _ (.inl rfl) e;have al:=a9.same p λy k e=>t4 y k e;have ak:=aj.same p λy k e=>t6 y e k;have ao:=an.same p λy k e=>k1 y (.inr (.inl k)) e;have am:=j.rl.same p λy k e=>k1 y (.inr (.inr k)) e;refine zd λw5 o _=>?_;have S:=ad.ext o;have M:=a2.ext o;have I:=al.ext o;have E:=ak.ext o;have A:=ao.ext o;have a7:=YD (yn (s.why.take (m+1)));simp(disch:=exact oS) only[push_cast,S.ld0,S.ld2,M.ld3,I.cut,E.cut,A.cut,K3];refine S.st (I.taken (n:=m) oM).ints.cells1 (I.taken (n:=m) oM).ints.one qe rfl λw6 ab ax ae=>?_
 try simp(disch:=exact oS) only[push_cast,E.cut,A.cut,K3,gm]
 refine ae.st (E.taken (n:=m) oM).ints.cells1 (E.taken (n:=m) oM).ints.one qe rfl λw7 ac ay af=>?_
 try simp(disch:=exact oS) only[push_cast,A.cut,K3,gm]
 have V:bs≠f.bt:=λe=>j.st bs (.inl rfl) (.inl e);have a3:=(M.same ab V).same ac V;refine a3.st (A.taken (n:=m) oM).ints.cells1 (A.taken (n:=m) oM).ints.one qe rfl λw8 F az ag=>?_;have q:Same (· =f.bt) w5 w7:=ab.trans ac;have mv:∀{xs:oI} {v:Value},OwnI ze w5 v xs->(∀y,v.ownBlock=some y->y≠f.bt/\y≠bs)->OwnI ze w8 v xs:=λhv k=>(hv.same q λy e=>(k y e).1).same F λy e=>(k y e).2;have nbt:∀y,f.tf y->y≠bs:=λy k e=>j.st bs (.inl rfl) (e▸k);have hP:=I.taken (n:=m) oM;have a0:=E.taken (n:=m) (by rw[a7];omega);have hW:=A.taken (n:=m) oM;rw[pF,GG (by omega:m<=m+1)] at hP hW;rw[levels_take,yF0,pF,GG (by omega:m<=m+1)] at a0;have a1:Same (σ.foot bs) Z w8:=(p.mono λy _ e=>z _ (.inl (.inr (.inr (.inl e))))).trans ((Same.of_ext o).trans ((q.mono λy _ e=>z _ (.inl (.inl e))).trans (F.mono λy _ e=>z _ (.inr (.inl e)))));have D:Same (f.foot bs) Z w8:=(p.mono λy _ e=>(.inl (.inr (.inr (.inl e))))).trans ((Same.of_ext o).trans ((q.mono λy _ e=>(.inl (.inl e))).trans (F.mono λy _ e=>(.inr (.inl e)))));have O:s.put.length-(i+1)=m:=oM
 refine hC oM _ _ ⟨⟨f.vc,f.bt,cutV f.vp m,f.vpl,cutV f.vl m,cutV f.vw m,f.vr,f.ls⟩,?_,a4,?_,?_,?_⟩
 .rw[O];refine⟨ag,j.cm,j.cl.same D λy k _ ht=>j.notF ht k,?_,?_,?_,j.lsl,j.ll.same D λy k _ ht=>j.notF ht k,?_,j.s2,?_,?_,?_⟩
  .refine⟨(show Blk w7 f.bt [cutV f.vp m,f.vpl,cutV f.vl m] yw from af).same F λe=>V e.symm,mv hP λy e=>?_,mv (Y.ext o) λy e=>?_,mv a0 λy e=>?_,?_,?_,?_,?_,ai⟩
   .rw[xO] at e;exact⟨λB=>t1 _ rfl (B▸e),nbt y (.inr (.inl e))⟩
   .exact⟨λB=>t2 _ rfl (B▸e),nbt y (.inr (.inr (.inl e)))⟩
   .rw[xO] at e;exact⟨λB=>t3 _ rfl (B▸e),nbt y (.inr (.inr (.inr e)))⟩
   .rw[xO,xO];exact j.tr.sep
   .show(yn (s.why.take m)).length=(s.put.take m).length;rw[jX,gi,gi];omega
   .have:=distinct_take j.tr.dis m;rwa[pF,GG (by omega:m<=m+1)] at this
   .intro y k;refine j.tr.bnd y ?_;show y∈s.put.take (m+1);rw[l];exact Gk _ k
  .refine mv hW λy e=>?_;rw[xO] at e;exact⟨λB=>j.st y (.inr (.inl e)) (.inl B),j.s1 y e⟩
  .exact((am.ext o).same q λy e B=>j.st y (.inr (.inr e)) (.inl B)).same F λy e B=>j.s2 y e B
  .intro y e;rw[xO] at e;exact j.s1 y e
  .intro y e;rw[xO] at e;exact j.s3 y e
  .intro y k ht;refine j.st y ?_ ?_
   .rcases k with e|e|e
    .exact .inl e
    .exact .inr (.inl (by rwa[xO] at e))
    .exact .inr (.inr e)
   .rcases ht with e|e|e|e
    .exact .inl e
    .exact .inr (.inl (by rwa[xO] at e))
    .exact .inr (.inr (.inl e))
    .exact .inr (.inr (.inr (by rwa[xO] at e)))
  .intro y k;refine j.sf y ?_;rcases k with e|e|e
   .exact .inl e
   .exact .inr (.inl (by rwa[xO] at e))
   .exact .inr (.inr e)
 .exact T.trans ((Same.of_ext (t.trans a5)).trans a1)
 .intro y k;refine z y ?_;rcases k with(e|e|e|e)|e|e|e
  .exact .inl (.inl e)
  .exact .inl (.inr (.inl (by rwa[xO] at e)))
  .exact .inl (.inr (.inr (.inl e)))
  .exact .inl (.inr (.inr (.inr (by rwa[xO] at e))))
  .exact .inr (.inl e)
  .exact .inr (.inr (.inl (by rwa[xO] at e)))
  .exact .inr (.inr (.inr e))
 .rw[O,<-U,backN,V0 hL]
end
end
section
variable {w:World} {K:oK} {F Fr:oA} {many:Nat}
theorem few_ints {ks:oI} (g:ks.Nodup) (b:∀k,k∈ks->k.natAbs<=700):ks.length<=1401:=by
 have d:(ks.map λk=>(k+701).toNat).Nodup:=by
  unfold List.Nodup;rw[pr];refine(Pv.2 λ{a c} hs=>?_);have e:a∈ks:=hs.subset (by simp);have f:c∈ks:=hs.subset (by simp);have:=b a e;have:=b c f;have i:a≠c:=by
   have:=g.sublist hs;simpa using this
  omega
 have:=nodup_le (m:=1401) d λx j=>by
  obtain⟨k,h,rfl⟩:=gB.1 j;have:=b k h;omega
 simpa using this
theorem greatest_spec {bt b:Nat} {put ks:oI} {ds:List Bool} {vp vpl vl:Value} (h:TrailR Fr w bt many put ds vp vpl vl) (hm:ISet w b ks) (N:∀k,k∈ks->k.natAbs<=many/\placeOf put k.natAbs≠0)
  (hK:∀w' top v xs,Ext w w'->TopOf put ds ks top xs->OwnI ze w' v xs->(∀x,v.ownBlock=some x->w.heap.size<=x)->K (.tuple #[nI (top:Nat),v]) w'):
  vcall Y2 #[oP bt 0,.map (some b)] w K:=by
 refine zf {loops:=[(4,[6,7])]} Tryz.func343 ?_;have ad:=h.few;have a8:=h.few';have hlen:=h.len;have a0:=hm.nodup;have af:ks.length<=1401:=few_ints a0 λk M=>by have:=(N k M).1;omega
 refine Ws xB hm λr w1 hr J W=>?_;refine vloop_up ks.length (λi u w'=> ∃dn top v xs,dn.length=i/\u=[nI (top:Nat),v]/\IterR w' r b ks dn/\OwnI ze w' v xs/\TopOf put ds dn top xs/\Ext w w'/\r<w'.heap.size/\top<=700/\(∀x,v.ownBlock=some x->w.heap.size<=x/\x≠r))
  ⟨[],0,oN,[],rfl,rfl,J,OwnI.nil,⟨by simp,by simp,.inl rfl,pC⟩,W,?_,oM,λx z=>by cases z⟩ ?_
 .exact J.lt
 rintro i _ g w2 C hi ⟨dn,top,v,xs,F,rfl,hit,hv,l,he,ae,D,j⟩ U;refine vnext_set hit (λA=>?_) λk x w3 M Z p S ah=>?_
 .refine oZ ?_;refine hK w2 top v xs he ⟨λk M=>l.le k (A k M),λk=>?_,l.ne,l.nd⟩ hv λx z=>(j x z).1;rw[l.mem];obtain⟨_,_,_,_,_,_,_,_,s,_⟩:=hit;exact⟨λ⟨a,b⟩=>⟨s k a,b⟩,λ⟨a,b⟩=>⟨A k a,b⟩⟩
 have o:Ext w w3:=he.then S λy d=>by subst d;omega
 have a4:=hv.same S λy d=>(j y d).2;refine oZ ?_;refine Wt p λx'=>?_;refine oZ ?_;obtain⟨X,Y⟩:=N k M;refine level_spec (h.ext o) X Y λw4 n=>?_;have T:=a4.ext n;have m:=p.ext n;have Q:lvl ds (placeOf put k.natAbs-1)=lvM put ds k:=rfl;have O:lvM put ds k<=700:=by have:=lvl_le ds (placeOf put k.natAbs-1);rw[Q] at this;omega
 rw[Q];refine oZ ?_;have G:i<ks.length:=by have:=p.len;simp at this;omega
 have B:∀y,y∈xs->y∈dn:=λy d=>((l.mem y).1 d).1;have ag:xs.length<=i:=by have:=PE l.nd B;omega
 have a9:=o.size;have aa:=n.size;have R:=m.lt;have a1:k∉xs:=λh=>Z (B k h);have memd:∀y,y∈dn++[k]↔y∈dn\/y=k:=λy=>by simp
 refine zb (λa=>?_) (λa=>?_)
 .refine zC x8 yG xp rfl rfl λb1 w5 V f a7 E=>?_;refine U G _ _ ⟨dn++[k],lvM put ds k,_,[k],by simp[F],rfl,m.ext f,Blk.own1 (t:=ze) (cs:=[nI k]) (by rw[qD];exact E) (gW _) rfl rfl oM,⟨λy d=>?_,λy=>?_,.inr (by simp),by simp⟩,o.trans (n.trans f),oM,O,?_⟩
  .rcases(memd y).1 d with d|rfl
   .have:=l.le y d;omega
   .exact gz _
  .rw[memd,gD];constructor
   .rintro rfl;exact⟨.inr rfl,rfl⟩
   .rintro⟨d|rfl,e⟩
    .have:=l.le y d;omega
    .rfl
  .intro x z;have e:b1=x:=gg z;omega
 .refine zb (λa2=>?_) (λa2=>?_)
  .refine zC x8 yG xp rfl rfl λb1 w5 V f a7 E=>?_;have a5:=T.ext f;refine a5.app1 xx E oM oM λv' w6 a6 H a3=>?_;have ab:=f.size;have ac:=H.size;have I:∀x,v'.ownBlock=some x->w.heap.size<=x/\x≠r:=λx z=>by
    rcases a3 x z with e|e
    .exact j x e
    .have:=he.size;constructor<;>omega
   have L:=(m.ext f).same H (λe=>by have:=(j b e).1;have:=hm.lt;omega) λe=>(j r e).2 rfl;have hE:Ext w w6:=Ext.then (o.trans (n.trans f)) H λx z=>(j x z).1;refine U G _ _ ⟨dn++[k],top,v',xs++[k],by simp[F],rfl,L,a6,⟨λy d=>?_,λy=>?_,.inr (by simp),?_⟩,hE,oM,D,I⟩
   .rcases(memd y).1 d with d|rfl
    .exact l.le y d
    .omega
   .rw[memd,gq,gD,l.mem];constructor
    .rintro(⟨q,s⟩|rfl)
     .exact⟨.inl q,s⟩
     .exact⟨.inr rfl,oM⟩
    .rintro⟨q|q,s⟩
     .exact .inl ⟨q,s⟩
     .exact .inr q
   .rw[GB];exact⟨l.nd,by simp,λa ha c hc e=>by simp at hc;subst hc;subst e;exact a1 ha⟩
  .refine U G _ _ ⟨dn++[k],top,v,xs,by simp[F],rfl,m,T,⟨λy d=>?_,λy=>?_,l.ne,l.nd⟩,o.trans n,R,D,j⟩
   .rcases(memd y).1 d with d|rfl
    .exact l.le y d
    .omega
   .rw[memd,l.mem];constructor
    .rintro⟨q,s⟩;exact⟨.inl q,s⟩
    .rintro⟨q|rfl,s⟩
     .exact⟨q,s⟩
     .omega
end
section
variable {w:World} {K:oK} {F:oA}
def Zm0 (a b:Int):Int:=if a<b then-1 else if b<a then 1 else 0
theorem cmpI_pos {a b:Int}:0<Zm0 a b↔b<a:=by unfold Zm0;split<;>(try split)<;>omega
theorem yz0 {a:Int} (b:K (.bool false) w):vcall KT #[nI a] w K:=by
 refine zf {} Tryz.func360 ?_;simp only[push_cast,z0h,not_true_eq_false,decide_false];exact b
theorem Vu {a b:Int} (c:K (nI (Zm0 a b)) w):vcall QY #[nI a,nI b] w K:=by
 refine zf {} Tryz.func346 ?_;refine yz0 (yz0 ?_);simp only[push_cast];unfold Zm0 at c;refine zb (λh=>?_) (λh=>zb (λd=>?_) (λd=>?_))
 .rwa[V0 h] at c
 .rwa[Q1 h,V0 d] at c
 .rwa[Q1 h,Q1 d] at c
def FnI (w0:World) (f:Value) (args:Array Value) (b:Int):Prop:=
 ∀(w':World) (K:oK),Ext w0 w'->(∀w'',Ext w' w''->K (nI b) w'')->vcallv f args w' K
theorem MaxFunc_Lint {v f:Value} {xs:oI} {g:Int->Int} (p:Ints F w v xs) (t:xs≠[]) (B:∀a b,a∈xs->b∈xs->FnI w f #[nI a,nI b] (Zm0 (g a) (g b)))
  (A:∀w' m,Ext w w'->m∈xs->(∀x,x∈xs->g x<=g m)->K (nI m) w'):vcall Z4 #[v,f] w K:=by
 refine zf {loops:=[(5,[5,6])],cuts:=[(8195,[])]} Tryz.func344 ?_;have o:0<xs.length:=GW.2 t;have hlen:xs.length<=9223372036854775807:=by obtain⟨_,_,_,z,E,_⟩:=p.shape;simp at z;omega
 refine zp (λu w'=>Ext w w'/\w'=w) ?_ ?_
 .intro C r;simp(disch:=exact oS) only[push_cast,p.len];exact zb (λa=>oM) (λa=>r _ _ ⟨Same.refl _ _,rfl⟩)
 rintro _ _ _ ⟨-,rfl⟩;simp(disch:=exact oS) only[p.iaddr,PX,p.load];refine vloop_up (xs.length-1) (λi u w'=> ∃m,u=[nI m,nI (i+1:Nat)]/\Ext w' w'/\Ext _ w'/\m∈xs/\∀j,j<=i->g (xs.getD j 0)<=g m) ⟨xs.getD 0 0,rfl,Same.refl _ _,Same.refl _ _,getD_meS o,λj n=>by
  have:j=0:=oM;subst this;exact pn _⟩ ?_
 rintro i _ _ w1 C hi ⟨m,rfl,-,he,hm,c⟩ r;have d:=p.ext he;simp(disch:=exact oS) only[sl0,sl1,d.len,xt0];refine zb (λa=>?_) (λa=>?_)
 .simp(disch:=exact oS) only[d.iaddr,gu,d.load];have n:xs.getD (i+1) 0∈xs:=getD_meS oM;refine B _ _ n hm w1 _ he λw2 l=>?_;have q:=d.ext l;have k:IntKind.i64.wrap (((i+1:Nat):Int)+1)=((i+1+1:Nat):Int):=by rw[zi oM oM];omega
  simp only[xu0];refine zb (λb=>?_) (λb=>?_)
  .simp(disch:=exact oS) only[q.iaddr,gu,q.load,XT,k];refine r oM _ _ ⟨_,rfl,Same.refl _ _,he.trans l,n,λj s=>?_⟩;have D:g m<g (xs.getD (i+1) 0):=cmpI_pos.1 b;by_cases e:j=i+1
   .subst e;exact pn _
   .have:=c j oM;omega
  .simp only[XT,k];refine r oM _ _ ⟨_,rfl,Same.refl _ _,he.trans l,hm,λj s=>?_⟩;have hle:g (xs.getD (i+1) 0)<=g m:=Int.not_lt.1 λh=>b (cmpI_pos.2 h);by_cases e:j=i+1
   .subst e;exact hle
   .exact c j oM
 .refine A w1 m he hm λx y=>?_;obtain⟨j,n,rfl⟩:=gy y;have:=c j oM;simpa[X0,n] using this
end
section
variable {w:World} {K:oK} {Fr:oA} {many bs:Nat} {c:Cnf} {s:Sat} {σ:SV} {N:Nat}
theorem learn_2_spec {a b:Int} (d:a.natAbs<=700) (e:b.natAbs<=700) (c:K (nI (Zm0 a.natAbs b.natAbs)) w):vcall yD #[nI a,nI b] w K:=by
 refine zf {} Tryz.func348 ?_;exact variable_spec oM oM (variable_spec oM oM (Vu c))
def plM (put:oI) (a:Int):Int:=(placeOf put a.natAbs:Int)-1
theorem yt0 {a b:Int} {p:Nat} {t:TypeId} {r:List Value} (h:SR N Fr w bs many c s σ) (o:Blk w p (oP bs 0::r) t) (m:a.natAbs<=many) (n:b.natAbs<=many)
  (l:∀w',Ext w w'->K (nI (Zm0 (plM s.put a) (plM s.put b))) w'):vcall Y5 #[nI a,nI b,oP p 0] w K:=by
 refine zf {} Tryz.func345 ?_;refine zd λw1 d _=>?_;have g:=h.ext d;have f:=o.ext d;simp only[push_cast,f.ld0,g.blk.ld2,K3];refine place_spec g.tr m λw2 e=>?_;have k:=g.ext e;have j:=f.ext e;simp only[push_cast,j.ld0,k.blk.ld2,K3,gm];exact place_spec k.tr n λq i=>Vu (l q (d.trans (e.trans i)))
theorem resolve_1_spec {a:Int} {p:Nat} {t:TypeId} {r:List Value} (h:SR N Fr w bs many c s σ) (g:Blk w p (oP bs 0::r) t) (f:a.natAbs<=many) (b:placeOf s.put a.natAbs≠0)
  (e:∀w',Ext w w'->K (.bool (decide (0<lvM s.put (yn s.why) a))) w'):vcall Zv #[nI a,oP p 0] w K:=by
 refine zf {} Tryz.func320 ?_;simp only[push_cast,g.ld0,h.blk.ld2];refine level_spec h.tr f b λw1 d=>?_;have:=e w1 d;simp only[push_cast];rwa[show decide ((0:Int)<(lvl (yn s.why) (placeOf s.put a.natAbs-1):Nat))=decide (0<lvM s.put (yn s.why) a) from decide_eq_decide.2 (by unfold lvM;omega)]
end
section
variable {w:World} {K:oK}
abbrev YB0:={x:Int//x.natAbs<=700}
instance:Inhabited YB0:=⟨⟨0,dC⟩⟩
def litV (x:YB0):Value:= nI x.1
def Yr0 (x y:YB0):Int:=Zm0 x.1.natAbs y.1.natAbs
theorem litC_lt (x y:YB0):ltOf Yr0 x y=decide (x.1.natAbs<y.1.natAbs):=by
 unfold ltOf Yr0 Zm0;refine decide_eq_decide.2 ?_;split<;>(try split)<;>omega
theorem litC_swo:Go.Sort.SWO (ltOf Yr0) where
 irrefl x:=by rw[litC_lt];simp
 trans x y z a b:=by rw[litC_lt] at*;simp at*;omega
 ntrans x y z a b:=by rw[litC_lt] at*;simp at*;omega
theorem W1 (args:Array Value) (w:World):(callFunc yD args).run P w= .ok (.enter yD args) w:=callFunc_run rK
theorem UM (blk off size:Nat) (w:World):CmpReads P yD #[] litV Yr0 blk off size w:=by
 intro m os dk _ x y;have h:=learn_2_spec (K:=λv w'=>v= nI (Yr0 x y)/\∃q,w'=(sortWorld litV w blk off m dk os).drewN q) (w:=sortWorld litV w blk off m dk os) x.2 y.2 ⟨rfl,0,rfl⟩;refine Calls.mono h.2 λe w' he=>?_;cases e with
 |returned v=>exact⟨by rw[he.1],he.2⟩
 |panicked c=>exact he.elim
 |outgrown=>exact he.elim
theorem SortFunc_learn {v : Value} {xs : oI} (hv : OwnI ze w v xs) (hne : xs ≠ []) (hb : ∀ x, x ∈ xs -> x.natAbs <= 700) (hnd : (xs.map Int.natAbs).Nodup)
    (hK : ∀ w' ys, OwnI ze w' v ys -> Srt ys -> (∀ k, k ∈ ys ↔ k ∈ xs) -> Same (λb => v.ownBlock = some b) w w' -> K (.tuple #[]) w') :
    vcall kL #[v, .func (.func yD) #[] #[]] w K := by
  refine ⟨by kernel_rfl, ?_⟩
  have hsm := hv.small
  have hlen : xs.length <= 1401 := few_ints (by
    unfold List.Nodup at hnd ⊢
    rw [pr] at hnd
    exact hnd.imp λh e => h (by rw [e])) hb
  have hrow := Own.row hv
  rcases hrow.2 with ⟨rfl, hn⟩ | ⟨g, cap, cur, rfl, hbg, hg, hnc, hcm, hcs, htake⟩
  · simp at hn; exact absurd hn hne
  let L : List YB0 := xs.attach.map λx => ⟨x.1, hb x.1 x.2⟩
  have hL : L.map (·.1) = xs := by
    simp [L]
  let d : Array YB0 := L.toArray
  have hds : d.size = xs.length := by simp [d, L]
  have hdj : ∀ j, j < xs.length -> litV d[j]! = .int .i64 (xs.getD j 0) := λj hj => by
    have h1 : (L.map (·.1)).getD j 0 = xs.getD j 0 := by rw [hL]
    simp only [litV]
    rw [<- h1, getElem!_pos d j (by omega)]
    have : j < L.length := by simp [L]; exact hj
    simp [d, X0, this]
  have hH : Go.Sort.Holds litV w g 0 d := by
    intro j hj
    rw [hds] at hj
    have hi' : j < ((xs.map λx => Value.int .i64 x).map λx => [x]).length * 1 := by simpa using hj
    have hc := World.ownsRow.cellAt hrow j hi'
    have hf := World.ownsRow.frozenAt hrow j
    rw [Gg]
    refine ⟨?_, hf⟩
    rw [hc, flat1, hdj j hj]
    simp [X0, hj]
  have hcon := Any.slices_SortFunc YtfnpmncplaibiaaGreatDoor.sortL litV (λ_ => rfl) Yr0 litC_swo yD #[] g 0 cap d w W1 (UM g 0 d.size w).lays hH (gM.1 hg).1 (by omega)
  have hsz : ((xs.map λx => Value.int .i64 x).map λx => [x]).length = d.size := by simp [hds]
  rw [hsz]
  refine Calls.mono hcon ?_
  rintro e w' ⟨rfl, d', n, os, hp, hs, rfl⟩
  show K _ _
  obtain ⟨hp1, hp2, hp3⟩ := hp
  have hex : d'.toList.Perm L := by
    have e1 : d'.extract 0 d.size = d' := by rw [<- hp1]; simp
    have e2 : d.extract 0 d.size = d := by simp
    rw [e1, e2] at hp3
    exact hp3
  have hmap : (d'.toList.map (·.1)).Perm xs := by rw [<- hL]; exact hex.map _
  have hgl := (gM.1 hg).1
  have hcells : (sortWorld litV w g 0 n d' os).heap[g]? = some (.cells (Go.Sort.putCells litV 0 d' cur) (X9 ze) (0, 0)) := by
    unfold sortWorld Go.Sort.grow Go.Sort.putRow Go.Sort.mapBlock Go.Sort.ahead
    simp only
    rw [PY (by simpa using hgl)]
    simp [pb, hg, Go.Sort.onCells]
  have hlen' : d'.toList.length = xs.length := by simpa [L] using hex.length_eq
  refine hK _ (d'.toList.map (·.1)) ⟨⟨by rw [flat1]; simp only [gd, pS], .inr ⟨g, cap, _, by simp only [gd, hds, hlen'], hbg, hcells, ?_, hcm, ?_, ?_⟩⟩, λy hy => by obtain ⟨u, _, rfl⟩ := gB.1 hy; rfl⟩ ?_ (λk => hmap.mem_iff) ?_
  · simp only [gd] at hnc ⊢; simp at hlen' ⊢; omega
  · simpa [Go.Sort.putCells] using hcs
  · rw [flat1]
    simp only [gd, pS, hlen']
    refine List.ext_getElem? λi => ?_
    rw [PU]
    split
    · rename_i hi
      have hic : i < cur.size := by simp at hnc; omega
      have hid : i < d'.size := by omega
      simp [Go.Sort.putCells, Array.getElem?_mapIdx, hic, hid, litV]
    · rename_i hi
      symm
      rw [Px]
      simp at hlen' ⊢; omega
  · unfold Srt
    rw [pr, GL]
    intro i j hi hj hij
    have h1 := hs i j (gW _) hij (by simp at hj; omega)
    rw [litC_lt] at h1
    simp only [decide_eq_false_iff_not, Nat.not_lt] at h1
    simp only [pO] at hi hj
    rw [getElem!_pos d' i hi, getElem!_pos d' j hj] at h1
    simp only [Array.getElem_toList]
    refine Nat.lt_of_le_of_ne h1 λe => ?_
    have hnd2 : ((d'.toList.map (·.1)).map Int.natAbs).Nodup := (hmap.map _).nodup_iff.2 hnd
    unfold List.Nodup at hnd2
    rw [G3, pr, GL] at hnd2
    have := hnd2 i j (by simpa using hi) (by simpa using hj) hij
    simp at this
    exact this e
  · refine ⟨rfl, rfl, rfl, by simp [sortWorld, Go.Sort.grow, Go.Sort.putRow, Go.Sort.mapBlock, Go.Sort.ahead], λb hb' hne' => ?_⟩
    have hbg' : g ≠ b := λe => hne' (by rw [e]; rfl)
    unfold sortWorld Go.Sort.grow Go.Sort.putRow Go.Sort.mapBlock Go.Sort.ahead
    simp only
    rw [PY (by simpa using hb'), pb, Q1 hbg']
end
section
variable {w:World} {F:oA} {c:Cnf} {s:Sat}
def SatR (F:oA) (w:World) (v:Value) (s:Sat):Prop:=
 ∃vp vw vl,v= .agg #[vp,vw,vl,nI s.code]/\Ints F w vp s.put/\Ints F w vw s.why/\Lists F w vl s.learned
theorem SatR.ext {v:Value} {w':World} (h:SatR F w v s) (hw:Ext w w'):SatR F w' v s:=by
 obtain⟨vp,vw,vl,d,a,b,c⟩:=h;exact⟨vp,vw,vl,d,a.ext hw,b.ext hw,c.ext hw⟩
end
section
variable {w:World} {K:oK} {F Fr:oA} {many bs:Nat} {c:Cnf} {s:Sat} {σ:SV} {N:Nat}
theorem satOk.many' (h:satOk many c s) (a:c.many=many):many<=700/\c.list.length<=2500:=by
 have:=h.cnf;unfold cnfOk at this;simp only[gl,gh] at this;omega
theorem learn_spec {v:Value} {k:Nat} (h:SR N Fr w bs many c s σ) (D:satOk many c s) (a0:c.many=many) (hk:k<c.list.length+s.learned.length) (o:Ints F w v (atM c s k)) (hc:qY s.put (atM c s k)) (d5:Za s.put (yn s.why) (atM c s k)≠0) (c4:∀b,Fr b->b<w.heap.size)
  (hK:∀w' v',Ext w w'->OwnI ze w' v' (learnM many c s s.put.length (atM c s k))->(∀x,v'.ownBlock=some x->w.heap.size<=x)->K (.tuple #[v',nI (ZJ s.put (yn s.why) (learnM many c s s.put.length (atM c s k)))]) w'):
  vcall Xt #[oP bs 0,v] w K:=by
 refine zf {loops:=[(3,[20]),(8,[10]),(12,[59]),(21,[14,15])],cuts:=[(102425,[98])]} Tryz.func322 ?_;obtain⟨cm,db⟩:=satOk.many' D a0;have d1:=D.few;have au:=D.mks;obtain⟨z1,z2,z3,z4⟩:=UL D a0 hk hc;have b2:=Zk hc;have c9:=clauseOk_srt (D.atOk hk);generalize atM c s k=cl at*;refine y4 λp w1 hp ce dm c6=>?_;refine ks0 λbm w2 da bg ac=>?_;have dp:=ac.size;have hlen:cl.length<=9223372036854775807:=by obtain⟨_,_,_,h1,h2,_⟩:=o.shape;simp at h1;omega
 simp(disch:=exact oS) only[push_cast,o.len];have c7:Blk w2 p [oP bs 0] yL:=c6.ext ac;have keep:∀{w3 w4:World} {S:oA},(Ext w w3/\Blk w3 p [oP bs 0] yL)->Same S w3 w4->(∀x,S x->w1.heap.size<=x)->(Ext w w4/\Blk w4 p [oP bs 0] yL):=by
  rintro w3 w4 S ⟨a,b⟩ hs hS;exact⟨a.then hs λx o=>by have:=hS x o;omega,b.same hs λe=>by have:=hS p e;omega⟩
 refine vloop_up cl.length (λi u w'=> ∃ks,u=[nI i]/\(Ext w w'/\Blk w' p [oP bs 0] yL)/\ISet w' bm ks/\∀x,x∈ks↔x∈cl.take i) ⟨[],rfl,⟨ce.trans ac,c7⟩,bg,by simp⟩ ?_;rintro i _ _ w3 C hi ⟨ks,rfl,M,B,z⟩ hC;refine oZ ?_;refine zb (λa=>?_) (λa=>?_)
 .have bw:=o.ext M.1;simp(disch:=exact oS) only[push_cast,bw.iaddr,bw.load];refine zD0 xB B λw4 ci cs dr=>?_;simp(disch:=omega) only[push_cast,zi];refine hC oM _ _ ⟨_,by simp,keep M cs (λx o=>oM),ci,λx=>?_⟩;rw[Ki (d:=0) oM,gq,gD,<-z];split
  .rename_i ap;exact⟨.inl,λe=>e.elim id λe=>e▸ap⟩
  .rw[gq,gD]
 clear hC;rw[gI oM] at z;clear bg hi a;have bounds:∀{j:oI},Fls s.put j->∀x,x∈j->x≠0/\x.natAbs<=many/\placeOf s.put x.natAbs≠0:=λhF x o=>by
  have h1:=au.2 _ (hF x o);have h2:=placeOf_ne_zero (hF x o);rw[G8] at h2;exact⟨oM,oM,h2⟩
 have Z:=h.ext M.1;simp only[push_cast,M.2.ld0,Z.blk.ld2];refine greatest_spec Z.tr B (λx o=>(bounds b2 x ((z x).1 o)).2) λw4 top v4 xs A bq bu bl=>?_;refine oZ ?_;have al:TopOf s.put (yn s.why) cl top xs:=Kh z bq;refine qA (λn u w'=> ∃ks j f top v xs,n=lastPl s.put j/\u=[v]/\(Ext w w'/\Blk w' p [oP bs 0] yL)/\ISet w' bm ks/\(∀x,x∈ks↔x∈j)/\
   Fls s.put j/\Srt j/\TopOf s.put (yn s.why) j top xs/\OwnI ze w' v xs/\(∀x,v.ownBlock=some x->w.heap.size<=x/\x≠bm/\x≠p)/\lastPl s.put j<=f/\learnM many c s f j=learnM many c s s.put.length cl) _
  ⟨ks,cl,s.put.length,top,v4,xs,rfl,rfl,keep M (S:=λ_=>False) A (λ_ h=>h.elim),B.ext A,z,b2,c9,al,bu,λx o=>?_,lastPl_le,rfl⟩ ?_
 .have:=bl x o;have:=B.lt;have:=M.2.lt;have:=M.1.size;exact⟨oM,oM,oM⟩
 clear B z bq al bu bl A Z ks top v4 xs M;clear w3 w4;rintro _ _ _ w3 C ⟨ks,j,f,top,v3,xs,rfl,rfl,M,B,z,hF,hS,ht,a7,bk,df,ar⟩ hC;have Z:=h.ext M.1;have bx:=a7.ints;have Q:=bounds hF;have t:∀x,x∈xs->x∈j:=λx o=>((ht.mem x).1 o).1;have cy:xs.length<=1401:=few_ints ht.nd λx o=>by have:=Q x (t x o);omega
 have bt:=topOf_tops (put:=s.put) (ds:=yn s.why) (srt_nodup hS);have dl:xs.length=(Jo s.put (yn s.why) j).length:=j30 ht bt;have ay:top=Za s.put (yn s.why) j:=topOf_top ht bt;simp only[push_cast,bx.len];refine zb (λa=>?_) (λa=>?_)
 ·
  have h2:2<=xs.length:=oM;have hf:f≠0:=λe=>by
   subst e;have:xs≠[]:=λe=>by subst e;simp at h2
   obtain⟨q,hq⟩:=pJ _ this;exact lastPl_pos hF (λe=>by have:=t q hq;rw[e] at this;cases this) oM
  obtain⟨f,rfl⟩:∃f',f=f'+1:=⟨f-1,oM⟩;rw[learnM,Q1 oM] at ar;obtain⟨k1,k2,k3,k4⟩:=learnS_ok D a0 hF hS oM;refine MaxFunc_Lint (g:=plM s.put) bx (λe=>by rw[e] at h2;simp at h2) (λa b ha hb w' K' bb c5=>?_) λw4 m A hm a4=>?_
  .exact yt0 (Z.ext bb) (M.2.ext bb) (Q a (t a ha)).2.1 (Q b (t b hb)).2.1 c5
  have bi:=Q m (t m hm);have cq:placeOf s.put m.natAbs=lastPl s.put j:=lastPl_top ht hm λx o=>by have:=a4 x o;unfold plM at this;omega
  refine yT0 xB (B.ext A) λw5 cj bo dt=>?_;have c3:=keep M (S:=λ_=>False) A (λ_ h=>h.elim);have W:=keep c3 bo (λx o=>oM);refine zd λw6 an _=>?_;have X:=keep W (S:=λ_=>False) an (λ_ h=>h.elim);have aa:=h.ext X.1;have dk:=aa.rw.ints;simp only[push_cast,X.2.ld0,aa.blk.ld2,aa.blk.ld3,K3];refine place_spec aa.tr bi.2.1 λw7 H=>?_;have Y:=keep X (S:=λ_=>False) H (λ_ h=>h.elim);have ab:=h.ext Y.1;have am:=ab.rw.ints;obtain⟨q,hq⟩:∃q,lastPl s.put j=q+1:=⟨lastPl s.put j-1,oM⟩;have cr:(placeOf s.put m.natAbs:Int)-1=(q:Int):=oM;have dh:=D.len;have d2:=placeOf_le s.put m.natAbs;obtain⟨r1,r2,r3,r4,r5,-⟩:=last_reason D hF ht h2 hq;have bn:s.put.getD q 0= -m:=by
   refine distinct_eq au.1 (getD_meS r1) (hF m (t m hm)) ?_;have:=(placeOf_pos bi.2.2).2;rw[cq,hq,G5] at this;rw[this,G8]
  rw[cr];simp(disch:=exact oS) only[push_cast,Y.2.ld0,ab.blk.ld2,ab.blk.ld3,K3,gm,am.iaddr,am.load];obtain⟨y,hy⟩:∃y:Nat,s.why.getD q 0=y:=⟨(s.why.getD q 0).toNat,oM⟩;have az:s.why.getD q 0=(y:Int):=hy;rw[az];refine clause_spec ab oM oM λv8 w8 ao a8=>?_;have V:=keep Y (S:=λ_=>False) ao (λ_ h=>h.elim);have d3:=clauseOk_len (m:=many) (by have:=D.atOk (k:=y) oM;rwa[a0] at this);simp(disch:=exact oS) only[push_cast,a8.len,K3];have ck:ISet w8 bm (ks.erase m):=((cj.ext an).ext H).ext ao;have co:ks.Nodup:=B.nodup;have d6:OwnI ze w8 v3 xs:=((((a7.ext A).same bo λx o=>(bk x o).2.1).ext an).ext H).ext ao;have hj:qN many c s j=Qo many j (atM c s y) (s.put.getD q 0).natAbs:=by
   unfold qN;rw[hq,G5,az,gu]
  have cg:∀l,l∈qN many c s j↔(l∈j/\l≠m)\/(l∈atM c s y/\l≠ -m):=λl=>by
   have:=(learn_join D a0 hF ht h2 hq).1 l;rw[az,gu,<-hj,bn,Int.neg_neg] at this;exact this
  refine vloop_up (atM c s y).length (λi u w'=> ∃bz,u=[nI i]/\(Ext w w'/\Blk w' p [oP bs 0] yL)/\Ints Fr w' v8 (atM c s y)/\ISet w' bm bz/\(∀x,x∈bz↔(x∈j/\x≠m)\/(x∈(atM c s y).take i/\x≠ -m)))
   ⟨ks.erase m,rfl,V,a8,ck,λx=>by rw[co.mem_erase_iff,z];simp[and_comm]⟩ ?_
  rintro i _ _ w9 C9 hi ⟨c0,rfl,O,ae,a3,E⟩ b1;refine oZ ?_;refine zb (λa9=>?_) (λa9=>?_)
  .simp(disch:=exact oS) only[push_cast,ae.iaddr,ae.load];have br:=Ki (d:=0) (xs:=atM c s y) (show i<(atM c s y).length by omega);have d8:∀x,Fr x->x<w.heap.size->¬(x=bm):=λx _ o e=>oM;have G:IntKind.i64.wrap (0-m)= -m:=by rw[zi oM oM];omega
   have T:IntKind.i64.wrap ((i:Int)+1)=((i+1:Nat):Int):=by rw[zi oM oM];omega
   simp only[G,T];refine zb (λb9=>?_) (λb9=>?_)
   .refine zD0 xB a3 λw10 bf ak d7=>?_;simp(disch:=omega) only[push_cast,zi];have a6:Ints Fr w10 v8 (atM c s y):=ae.same ak λx o _ e=>by have:=c4 x o;omega
    refine b1 oM _ _ ⟨_,rfl,keep O ak (λx o=>oM),a6,bf,λx=>?_⟩;rw[br,gq,gD];split
    .rename_i ap;rw[E];constructor
     .rintro(e|⟨G,T⟩)
      .exact .inl e
      .exact .inr ⟨.inl G,T⟩
     .rintro(e|⟨G|G,T⟩)
      .exact .inl e
      .exact .inr ⟨G,T⟩
      .rw[G];exact(E _).1 ap
    .rw[gq,gD,E];constructor
     .rintro((e|⟨G,T⟩)|e)
      .exact .inl e
      .exact .inr ⟨.inl G,T⟩
      .exact .inr ⟨.inr e,by rw[e];exact b9⟩
     .rintro(e|⟨G|G,T⟩)
      .exact .inl (.inl e)
      .exact .inl (.inr ⟨G,T⟩)
      .exact .inr G
   .refine b1 oM _ _ ⟨_,rfl,O,ae,a3,λx=>?_⟩;rw[br,gq,gD,E];constructor
    .rintro(e|⟨G,T⟩)
     .exact .inl e
     .exact .inr ⟨.inl G,T⟩
    .rintro(e|⟨G|G,T⟩)
     .exact .inl e
     .exact .inr ⟨G,T⟩
     .exact absurd (by rw[<-G];exact T) b9
  .rw[gI oM] at E;have R:∀x,x∈c0↔x∈qN many c s j:=λx=>(by rw[E,cg]);have b4:=h.ext O.1;have cb:=bounds k1;simp only[push_cast,O.2.ld0,b4.blk.ld2];refine greatest_spec b4.tr a3 (λx o=>(cb x ((R x).1 o)).2) λw10 c1 v10 d0 ag bp a6 bj=>?_;refine oZ ?_;have dw:=O.1.size;have:=a3.lt;have:=O.2.lt;refine hC (lastPl s.put (qN many c s j)) _ _ k3 ⟨c0,qN many c s j,f,c1,v10,d0,rfl,rfl,keep O (S:=λ_=>False) ag (λ_ h=>h.elim),a3.ext ag,R,k1,k2,Kh R bp,a6,λx o=>?_,oM,ar⟩;have:=bj x o;exact⟨oM,oM,oM⟩
 ·
  have bc:learnM many c s s.put.length cl=j:=by
   rw[<-ar];cases f with
   |zero=>rfl
   |succ f=>rw[learnM,V0 oM]
  rw[bc] at hK z1 z2 z3 z4;rw[z3] at ay;have cx:xs.length=1:=by
   have:=ht.ne;rcases this with e|e
   .omega
   .have:=GW.2 e;omega
  obtain⟨t0,rfl⟩:=z0g.1 cx;have af:∀x,x∈j->(x≠t0↔lvM s.put (yn s.why) x<Za s.put (yn s.why) j):=λx o=>by
   have h1:=ht.mem x;have h2:=ht.le x o;rw[gD] at h1;rw[z3];constructor
   .intro cp;have: ¬lvM s.put (yn s.why) x=top:=λe=>cp (h1.2 ⟨o,e⟩);omega
   .intro dg e;have:=(h1.1 e).2;omega
  refine Ws xB B λr w4 hr cf A=>?_;have de:=few_ints B.nodup λx o=>by have:=Q x ((z x).1 o);omega
  have dq:=M.1.size;have di:=B.lt;have dj:=M.2.lt;refine vloop_up ks.length (λi u w'=> ∃dn v,dn.length=i/\u=[nI (maxL ((dn.filter λk=>decide (lvM s.put (yn s.why) k<Za s.put (yn s.why) j)).map (lvM s.put (yn s.why))):Nat),v]/\(Ext w w'/\Blk w' p [oP bs 0] yL)/\IterR w' r bm ks dn/\OwnI ze w' v dn/\OwnI ze w' v3 [t0]/\(∀x,v.ownBlock=some x->w3.heap.size<x))
   ⟨[],oN,rfl,rfl,keep M (S:=λ_=>False) A (λ_ h=>h.elim),cf,OwnI.nil,a7.ext A,λx o=>by cases o⟩ ?_
  rintro i _ _ w5 C5 hi ⟨dn,v5,b8,rfl,W,I,bv,ct,L⟩ b0;refine vnext_set I (λb5=>?_) λU x' w6 ch dd a2 a5 du=>?_
  ·
   refine oZ ?_;have a1:∀x,x∈dn↔x∈j:=λx=>⟨λh=>(z x).1 (I.sub h),λh=>b5 x ((z x).2 h)⟩;have ba:dn≠[]:=λe=>by
    have:=(ht.mem t0).1 (by simp);have:=(a1 t0).2 this.1;rw[e] at this;cases this
   have cd:(dn.map Int.natAbs).Nodup:=by
    have h1:=I.nd;unfold List.Nodup at h1⊢;rw[pr];refine Pv.2 λ{a c} hs=>?_;have ca:a≠c:=by
     have:=h1.sublist hs;simpa using this
    have ha:=(a1 a).1 (hs.subset (by simp));have cc:=(a1 c).1 (hs.subset (by simp));intro e;exact ca (by have:=distinct_eq au.1 (hF a ha) (hF c cc) oM;omega)
   refine SortFunc_learn bv ba (λx o=>by have:=Q x ((a1 x).1 o);omega) cd λw6 zs cv c8 bh a5=>?_;have cz:zs=j:=srt_ext c8 hS λx=>(by rw[bh,a1]);subst cz;have a4:maxL ((dn.filter λk=>decide (lvM s.put (yn s.why) k<Za s.put (yn s.why) zs)).map (lvM s.put (yn s.why)))=ZJ s.put (yn s.why) zs:=by
    unfold ZJ;exact qe0 λx=>by simp only[gB,z0i,bh]
   simp only[push_cast,a4];exact hK w6 v5 (W.1.then a5 λx o=>by have:=L x o;omega) cv λx o=>by have:=L x o;omega
  .refine oZ ?_;refine Wt a2 λdx=>?_;refine oZ ?_;refine zC x8 yG xp rfl rfl λb7 w7 d9 H dv c2=>?_;have dc:=I.lt;have X:=keep W a5 (λx o=>by have:=ac.size;have:=M.1.size;omega);have Y:=keep X (S:=λ_=>False) H (λ_ h=>h.elim);have d4:=W.1.size;have cw:=(bv.same a5 λx o e=>by have:=L x o;omega).ext H;have cu:=(ct.same a5 λx o e=>by have:=bk x o;have:=a7.lt o;omega).ext H;have bd:=a2.ext H;have b6:i<ks.length:=by have:=a2.len;simp at this;omega
   refine cw.app1 xx c2 oM oM λv8 w8 a8 av cn=>?_;have aj:∀x,v8.ownBlock=some x->w3.heap.size<x:=λx o=>by
    rcases cn x o with e|e
    .exact L x e
    .have:=A.size;have:=I.lt;omega
   have V:=keep Y av (λx o=>by have:=L x o;omega);have aw:=cu.same av λx o e=>by have:=L x e;have:=a7.lt o;omega
   have ai:=bd.same av (λe=>by have:=L _ e;omega) (λe=>by have:=L _ e;omega);have ax:=aw.ints;have aq:U∈j:=(z U).1 ch;have be:=Q U aq;refine zp (λu w'=>u=[.bool (decide (U≠t0))]/\w'=w8) ?_ ?_
   .intro J hJ;simp(disch:=exact oS) only[push_cast,ax.len,ax.iaddr,ax.load];exact hJ _ _ ⟨rfl,rfl⟩
   rintro _ _ _ ⟨rfl,rfl⟩;refine oZ ?_;have ah:(dn++[U]).filter (λk=>decide (lvM s.put (yn s.why) k<Za s.put (yn s.why) j))=dn.filter (λk=>decide (lvM s.put (yn s.why) k<Za s.put (yn s.why) j))++(if lvM s.put (yn s.why) U<Za s.put (yn s.why) j then[U] else[]):=by
    rw[PW];simp[z0c]
   refine zb (λb=>?_) (λb=>?_)
   .have b3:=h.ext V.1;simp only[push_cast,V.2.ld0,b3.blk.ld2];refine level_spec b3.tr be.2.1 be.2.2 λw9 ad=>?_;refine oZ ?_;refine b0 b6 _ _ ⟨dn++[U],v8,by simp[b8],?_,keep V (S:=λ_=>False) ad (λ_ h=>h.elim),ai.ext ad,a8.ext ad,aw.ext ad,aj⟩;rw[ah,V0 ((af U aq).1 b),gG,maxL_snoc _ ([U].map (lvM s.put (yn s.why))) (lvM s.put (yn s.why) U) rfl];simp only[Gu,Value.int.injEq,K3,Gq];show(max _ ((lvM s.put (yn s.why) U:Nat):Int))=_;omega
   .refine b0 b6 _ _ ⟨dn++[U],v8,by simp[b8],?_,V,ai,a8,aw,aj⟩;rw[ah,Q1 λe=>b ((af U aq).2 e),gS]
end
section
variable {w:World} {Fr:oA} {many:Nat}
theorem TrailR.reframe {a:oA} {bt:Nat} {put:oI} {ds:List Bool} {vp vpl vl:Value} (h:TrailR Fr w bt many put ds vp vpl vl) (b:∀x,Zc bt vp vpl vl x->¬a x):TrailR a w bt many put ds vp vpl vl:=by
 obtain⟨hs,_⟩:=sep4.1 h.sep;exact⟨h.blk,h.rp,h.rpl,h.rl,sep4.2 ⟨hs,λx e=>b x (.inl (gg e).symm),λx e=>b x (.inr (.inl e)),λx e=>b x (.inr (.inr (.inl e))),λx e=>b x (.inr (.inr (.inr e)))⟩,h.len,h.dis,h.bnd,h.few⟩
end
section
variable {w:World} {K:oK} {F Fr:oA} {many bs:Nat} {c:Cnf} {s:Sat} {σ:SV} {N:Nat}
theorem topL_pos {put:oI} {ds:List Bool} {cl:oI}:(Za put ds cl≠0)↔((List.range cl.length).any λi=>decide (0<lvM put ds (cl.getD i 0)))=true:=by
 rw[pA];constructor
 .intro h;rcases jj (xs:=cl.map (lvM put ds)) with e|e
  .exact absurd e h
  .obtain⟨q,a,e⟩:=gB.1 e;obtain⟨i,hi,rfl⟩:=gy a;refine⟨i,gN.2 hi,?_⟩;have:cl.getD i 0=cl[i]:=(by simp[X0,hi]);rw[this,gh,e];unfold Za at h;omega
 .rintro⟨i,hi,h⟩;rw[gN] at hi;rw[gh] at h;have:lvM put ds (cl.getD i 0)<=Za put ds cl:=Z6 (Gm (getD_meS hi));omega
theorem SR.setCode (h:SR N Fr w bs many c s σ) {k:Int} (g:∀w',SR N Fr w' bs many c {s with code:=k} σ->Same (σ.foot bs) w w'->w'.heap.size=w.heap.size->K undef w'):
  zy zE (oP bs 5) (nI k) w K:=by
 refine h.blk.st rfl rfl yG rfl λw1 hs i f=>?_;have b:Same (σ.foot bs) w w1:=hs.mono λx _ e=> .inr (.inl e);have d:∀x,σ.tf x->x≠bs:=λx a e=>h.st x (.inl e) a;refine g w1 ⟨f,h.cm,h.cl.same b λx hF _ a=>h.notF a hF,h.tr.same hs λx a e=>d x a e,h.rw.same hs λx a e=>h.s1 x a e,h.rl.same hs λx a e=>h.s2 x a e,h.lsl,h.ll.same b λx hF _ a=>h.notF a hF,h.s1,h.s2,h.s3,h.st,h.sf⟩ b i
def StepTo (N:Nat) (Fr:oA) (w:World) (bs many:Nat) (c:Cnf) (s':Sat) (σ:SV) (w':World):Prop:=
 ∃Fr' σ',SR N Fr' w' bs many c s' σ'/\Same (σ.foot bs) w w'/\(∀b,σ'.foot bs b->σ.foot bs b\/w.heap.size<=b)/\(∀b,Fr' b->Fr b\/w.heap.size<=b)/\(∀b,Fr' b->b<w'.heap.size)
theorem StepTo.trans {s2:Sat} {w1 w2:World} {d:oA} {g:SV} (a2:Same (σ.foot bs) w w1) (a3:∀b,g.foot bs b->σ.foot bs b\/w.heap.size<=b) (a4:∀b,d b->Fr b\/w.heap.size<=b) (i:StepTo N d w1 bs many c s2 g w2):StepTo N Fr w bs many c s2 σ w2:=by
 obtain⟨F2,l,b1,b2,b3,b4,h⟩:=i;have k:=a2.size;refine⟨F2,l,b1,⟨b2.os.trans a2.os,b2.tape.trans a2.tape,b2.output.trans a2.output,gU k b2.size,λb a f=>?_⟩,λb a=>?_,λb a=>?_,h⟩
 .rw[b2.block b oM λj=>?_,a2.block b a f];rcases a3 b j with e|e
  .exact f e
  .omega
 .rcases b3 b a with e|e
  .exact a3 b e
  .exact .inr oM
 .rcases b4 b a with e|e
  .exact a4 b e
  .exact .inr oM
theorem StepTo.refl (h:SR N Fr w bs many c s σ) (hF:∀b,Fr b->b<w.heap.size):StepTo N Fr w bs many c s σ w:=⟨Fr,σ,h,Same.refl _ _,λ_ h=> .inl h,λ_ h=> .inl h,hF⟩
theorem StepTo.ext {w1 w':World} (h:StepTo N Fr w1 bs many c s σ w') (he:Ext w w1):StepTo N Fr w bs many c s σ w':=by
 obtain⟨d,f,e,a2,a3,a4,a5⟩:=h;have g:=he.size;exact⟨d,f,e,(Same.of_ext he).trans a2,λb a=>(a3 b a).imp id λh=>oM,λb a=>(a4 b a).imp id λh=>oM,a5⟩
theorem resolve_spec {v:Value} {k:Nat} (h:SR N Fr w bs many c s σ) (t:satOk many c s) (M:c.many=many) (hk:k<c.list.length+s.learned.length) (d:Ints F w v (atM c s k)) (hc:qY s.put (atM c s k)) (q:∀b,Fr b->b<w.heap.size)
  (hK:∀w',StepTo N Fr w bs many c (jv many c s (atM c s k)) σ w'->K (.tuple #[]) w'):
  vcall Y4 #[oP bs 0,v] w K:=by
 refine zf {} Tryz.func294 ?_;obtain⟨af,ap⟩:=satOk.many' t M;have ak:=t.few;have aq:=t.mks;refine y4 λp w1 hp O ar a8=>?_;have G:Blk w1 p [oP bs 0] yL:=a8;refine oZ ?_;have bounds:∀x,x∈atM c s k->x.natAbs<=many/\placeOf s.put x.natAbs≠0:=λx d=>⟨(t.lit M hk d).2,(hc x d).2⟩;refine jw (p:=λi=>decide (0<lvM s.put (yn s.why) ((atM c s k).getD i 0))) (d.ext O) (λi hi w' K' he a7=>?_) λw2 Z=>?_
 .rw[gd] at hi;rw[V5 hi];obtain⟨b1,b2⟩:=bounds _ (getD_meS hi);exact resolve_1_spec (h.ext (O.trans he)) (G.ext he) b1 b2 λw'' Y=>a7 w'' Y
 have A:=O.trans Z;have I:=h.ext A;have L:=G.ext Z;rw[gd];refine oZ ?_;refine zm (λa=>?_) (λa=>?_)
 ·
  have g:Za s.put (yn s.why) (atM c s k)=0:=GS λai=>by
   have:=topL_pos.1 ai;rw[this] at a;cases a
  simp only[push_cast,L.ld0];refine I.setCode λw3 h3 R a4=>hK w3 ⟨Fr,σ,?_,(Same.of_ext A).trans R,λb l=> .inl l,λb l=> .inl l,λb l=>?_⟩
  .unfold jv;rw[V0 g];exact h3
  .have:=q b l;have:=A.size;omega
 have g:Za s.put (yn s.why) (atM c s k)≠0:=topL_pos.2 (by simpa using a);have ae:=I.lists;have al:=I.lsl;simp only[push_cast,L.ld0,I.blk.ld4,ae.len];refine zb (λb=>?_) (λb=>?_)
 .refine I.setCode λw3 h3 R a4=>hK w3 ⟨Fr,σ,?_,(Same.of_ext A).trans R,λb l=> .inl l,λb l=> .inl l,λb l=>?_⟩
  .unfold jv;rw[Q1 g,V0 oM];exact h3
  .have:=q b l;have:=A.size;omega
 refine learn_spec I t M hk (d.ext A) hc g (λb l=>by have:=q b l;have:=A.size;omega) λw3 v3 B aj ag=>?_;have E3:=A.trans B;have a4:=B.size;have au:=A.size;refine oZ ?_;refine zd λw4 r _=>?_;have h4:=I.ext (B.trans r);have U:=(L.ext B).ext r;have a2:=aj.ext r;have av:=r.size;simp only[push_cast,U.ld0,h4.blk.ld4,K3];refine zC kg qe ZS rfl a2.ints.cells1 λb5 T ao C aw a5=>?_;have J:=h4.ext C;have V:=U.ext C;have S:=a2.ext C;simp only[push_cast,V.ld0,J.blk.ld4,K3,gm];refine OwnV.app1 J.rl jB a5 S.ints.one oM oM λE w6 Q y ah=>?_;have a1:∀x,σ.foot bs x->x≠p:=λx d e=>by have:=h.lt d;omega
 have W:=V.same y λe=>a1 p (.inr (.inr (.inr e))) rfl;have X:=J.blk.same y λe=>h.s2 _ e rfl;have aa:Same (σ.foot bs) T w6:=y.mono λx _ e=> .inr (.inr (.inr e));simp only[push_cast,W.ld0,K3];have j:∀x,v3.ownBlock=some x->w.heap.size<=x/\x<T.heap.size:=λx d=>⟨by have:=ag x d;omega,S.lt d⟩;have u:∀x,E.ownBlock=some x->σ.vr.ownBlock=some x\/T.heap.size<=x:=ah;refine X.st Q.vals.cells1 Q.vals.one jx rfl λw7 D ay a6=>?_;have f:Same (σ.foot bs) T w7:=aa.trans (D.mono λx _ e=> .inr (.inl e));have H:Same (λx=>x=bs\/σ.vr.ownBlock=some x) T w7:=(y.mono λx _ e=> .inr e).trans (D.mono λx _ e=> .inl e);have a9:=W.same D λe=>a1 bs (.inr (.inl rfl)) e.symm;have ax:=y.size;have a3:∀x,E.ownBlock=some x->x≠bs:=λx d e=>by
  rcases u x d with m|m
  .exact h.s2 x m e
  .have:=h.lt (.inr (.inl (rfl:bs=bs)));omega
 have ac:SR N (λb=>Fr b\/v3.ownBlock=some b) w7 bs many c {s with learned:=s.learned++[learnM many c s s.put.length (atM c s k)]} {σ with vr:=E,ls:=σ.ls++[v3]}:=by
  have fr:∀{x},σ.foot bs x->¬(Fr x\/v3.ownBlock=some x):=λ{x} d e=>by
   rcases e with e|e
   .exact h.notF d e
   .have:=h.lt d;have:=(j x e).1;omega
  refine⟨a6,h.cm,(J.cl.same f λx hF _ d=>h.notF d hF).weaken λx d _=> .inl d,?_,?_,?_,by simp[h.lsl],?_,h.s1,a3,?_,?_,?_⟩
  .refine(J.tr.same H λx d e=>?_).reframe λx d=>fr (.inl d);rcases e with e|e
   .exact h.st x (.inl e) d
   .exact h.st x (.inr (.inr e)) d
  .refine J.rw.same H λx d e=>?_;rcases e with e|e
   .exact h.s1 x d e
   .exact h.s3 x d e
  .exact Q.same D λx d e=>a3 x d e
  .refine RowsR.snoc ((J.ll.same f λx hF _ d=>h.notF d hF).weaken λx d _ _=> .inl d) h.lsl (S.same f λx d hf=>?_) (λx d=>⟨.inr d,?_⟩) λi x hi d e=>?_
   .have:=h.lt hf;have:=(j x d).1;omega
   .have:=h.ll.nle;have:=(j x d).1;omega
   .have:=(h.ll.own i hi).lt d;have:=(j x e).1;omega
  .intro x d e;rcases u x e with m|m
   .exact h.s3 x d m
   .have:=h.lt (.inr (.inr (.inl d)));omega
  .rintro x (e|e|e) ht
   .exact h.st x (.inl e) ht
   .exact h.st x (.inr (.inl e)) ht
   .rcases u x e with m|m
    .exact h.st x (.inr (.inr m)) ht
    .have:=h.lt (.inl ht);omega
  .rintro x (e|e|e) hF
   .exact fr (.inr (.inl e)) hF
   .exact fr (.inr (.inr (.inl e))) hF
   .rcases u x e with m|m
    .exact fr (.inr (.inr (.inr m))) hF
    .rcases hF with hF|hF
     .have:=q x hF;omega
     .have:=(j x hF).2;omega
 simp only[push_cast,a9.ld0];have an:=f.size;refine goBack_spec ac λσ8 w8 n hn ab z ad=>?_;subst hn;have a0:∀x,(SV.foot {σ with vr:=E,ls:=σ.ls++[v3]} bs) x->σ.foot bs x\/T.heap.size<=x:=by
  rintro x (e|e|e|e)
  .exact .inl (.inl e)
  .exact .inl (.inr (.inl e))
  .exact .inl (.inr (.inr (.inl e)))
  .exact(u x e).imp (λe=> .inr (.inr (.inr e))) id
 have az:=z.size;refine hK w8 ⟨λb=>Fr b\/v3.ownBlock=some b,σ8,?_,?_,λx d=>?_,λx d=>?_,λx d=>?_⟩
 .unfold jv;rw[Q1 g,Q1 oM];exact ab
 .have o:Ext w T:=E3.trans (r.trans C);have am:=o.size;refine⟨(z.os.trans f.os).trans o.os,(z.tape.trans f.tape).trans o.tape,(z.output.trans f.output).trans o.output,oM,λx d hn=>?_⟩;rw[z.block x oM λhf=>?_,f.block x oM hn,o.block x d id];rcases a0 x hf with e|e
  .exact hn e
  .omega
 .rcases a0 x (ad x d) with e|e
  .exact .inl e
  .exact .inr oM
 .rcases d with e|e
  .exact .inl e
  .exact .inr (j x e).1
 .rcases d with e|e
  .have:=q x e;omega
  .have:=(j x e).2;omega
theorem neg_ne {n:Nat} (h:1<=n): -(n:Int)≠0:=oM
theorem satOk.bnd (h:satOk many c s) (b:c.many=many) {cl:oI} (a:cl∈c.list++s.learned) {l:Int} (d:l∈cl):l≠0/\l.natAbs<=many:=by
 have:=clauseOk_lit (satOk.cls h a) d;omega
theorem step_spec (h:SR N Fr w bs many c s σ) (g:satOk many c s) (r:c.many=many) (q:∀b,Fr b->b<w.heap.size)
  (o:∀w',StepTo N Fr w bs many c (stepM many c s) σ w'->K (.tuple #[]) w'):
  vcall Qc #[oP bs 0] w K:=by
 refine zf {loops:=[(3,[5])]} Tryz.func263 ?_;obtain⟨a3,z⟩:=satOk.many' g r;have a9:=g.few;simp only[push_cast,h.blk.ld5];refine zb (λa=>o w (by unfold stepM;rw[Q1 (by simpa using a)];exact StepTo.refl h q)) (λa=>?_);have O:stepM many c s=goM many c s:=V0 (by simpa using a);rw[O] at o;clear O;refine zd λw1 H _=>?_;have E:=h.ext H;simp only[push_cast,E.blk.ld1,E.blk.ld2,E.blk.ld4,K3];obtain⟨cs,ad,X,ac⟩:=E.cl;refine vbuildS_row1 (xs:=[σ.vc,σ.vr]) kA0 jx WG (λx hx=>?_) (by simp) λb2 w2 ab Y ah W=>?_
 .simp only[gk,gE,Gn] at hx;rcases hx with rfl|rfl
  .exact X.cells1
  .exact E.lists.cells1
 have E2:=H.trans Y;have B:=h.ext E2;simp only[push_cast,B.blk.ld2,K3];have J:Lists (λ_=>True) w2 σ.vr s.learned:=⟨σ.ls,B.lsl,B.lists.weaken λ_ _ _=>trivial,λi hi=>(B.ll.int hi).weaken λ_ _ _=>trivial⟩;have G:Lists (λ_=>True) w2 σ.vc c.list:=B.cl.weaken λ_ _ _=>trivial;have A:([c.list,s.learned]:List (List (oI))).flatten=c.list++s.learned:=by simp
 refine next_spec (F:=λ_=>True) (vs:=[σ.vc,σ.vr]) (lls:=[c.list,s.learned]) B.tr (Sl.weaken (W.sl1 rfl (by simp)) λ_ _ _=>trivial) rfl (λi hi=>?_) (λcl z l hl=>?_) ?_ λw3 k u x Z I=>?_
 .match i,hi with
  |0,_=>exact G
  |1,_=>exact J
  |n+2,hi=>exact absurd hi (by simp)
 .rw[A] at z;exact(satOk.bnd g r z hl).2
 .rw[A,V1];omega
 rw[A] at I;have D:=E2.trans Z;have R:=h.ext D;have ai:=D.size;have m:∀b,Fr b->b<w3.heap.size:=λb d=>by have:=q b d;omega
 simp only[push_cast,K3];have f:goM many c s=(if 0<=k then jv many c s (atM c s k.toNat) else if 0<=u then{s with put:=s.put++[x],why:=s.why++[u]}
  else if s.put.length=many then{s with code:=1} else{s with put:=s.put++[-(ZQ many s.put:Int)],why:=s.why++[-1]}):=by
  unfold goM;rw[I]
 have hlen:=g.len;have ag:=(satOk.mks g).len;rcases find_cases s.put (c.list++s.learned) with⟨i,u',x',hi,e,hc⟩|⟨hn,⟨i,x',hi,e,hu,-⟩|⟨e,-⟩⟩
 .rw[I,GD,GD] at e;obtain⟨rfl,rfl,rfl⟩:=e;rw[V1] at hi;rw[V0 oM,gu] at f;refine zb (λ_=>?_) (λb=>absurd oM b);refine clause_spec R oM oM λv4 T j a6=>?_;have p:=R.ext j;refine resolve_spec p g r hi a6 hc (λb d=>by have:=m b d;have:=j.size;omega) λU y=>?_;rw[f] at o;exact o U (y.ext (D.trans j))
 .rw[I,GD,GD] at e;obtain⟨rfl,rfl,rfl⟩:=e;rw[V1] at hi;rw[Q1 oM,V0 oM] at f;refine zb (λb=>absurd b oM) (λ_=>zb (λ_=>?_) (λb=>absurd oM b));obtain⟨a7,a8⟩:=unit_mem hu;have d:=satOk.bnd g r (atM_mem (s:=s) hi) a7;refine assign_spec R d.1 d.2 a8 m λσ' T p L a0=>?_;rw[f] at o;refine o T (StepTo.ext ⟨Fr,σ',p,L,a0,λb d=> .inl d,λb d=>?_⟩ D);have:=m b d;have:=L.size;omega
 .rw[I,GD,GD] at e;obtain⟨rfl,rfl,rfl⟩:=e;rw[Q1 oM,Q1 oM] at f;refine zb (λb=>absurd b oM) (λ_=>zb (λb=>absurd b oM) (λ_=>?_));refine zd λT j _=>?_;have p:=R.ext j;have V:=D.trans j;have a4:Ints _ T σ.vp s.put:=p.tr.rp.ints;simp only[push_cast,p.blk.ld0,p.blk.ld2,p.tr.blk.ld0,a4.len,K3];refine zb (λb=>?_) (λb=>?_)
  .rw[V0 oM] at f;refine p.setCode λU y a5 aj=>?_;rw[f] at o;refine o U (StepTo.ext ⟨Fr,σ,y,a5,λb d=> .inl d,λb d=> .inl d,λb d=>?_⟩ V);have:=q b d;have:=V.size;omega
  .rw[Q1 oM] at f;obtain⟨f1,f2,f3,f4⟩:=free_spec g.mks oM;refine vloop_up (ZQ many s.put-1) (λi u w'=>u=[nI (i+1:Nat)]/\Ext w w') ⟨rfl,V⟩ ?_;rintro i _ _ U C hi ⟨rfl,S⟩ hC;have y:=h.ext S;simp only[push_cast,y.blk.ld2];refine assigned_spec y.tr oM λw6 t=>?_;rw[show((i:Int)+1).natAbs=i+1 from by omega];refine zb (λQ=>?_) (λQ=>?_)
   .have a2:i<ZQ many s.put-1:=by
     refine GS λae=>?_;have:i+1=ZQ many s.put:=oM;rw[this] at Q;exact Q f3
    simp(disch:=omega) only[push_cast,zi];exact hC a2 _ _ ⟨by simp,S.trans t⟩
   .have aa:i+1=ZQ many s.put:=by
     refine GS λaf=>Q (f4 _ oM oM)
    have e1:IntKind.i64.wrap (0-((i:Int)+1))= -(ZQ many s.put:Int):=by rw[zi oM oM];omega
    rw[e1];have h6:=y.ext t;have v:∀b,Fr b->b<w6.heap.size:=λb d=>by have:=q b d;have:=(S.trans t).size;omega
    refine assign_spec h6 (neg_ne f1) (by rw[G8,pV];exact f2) (by rw[G8,pV];exact f3) v λσ' w7 h7 M a1=>?_;rw[f] at o;refine o w7 (StepTo.ext ⟨Fr,σ',h7,M,a1,λb d=> .inl d,λb d=>?_⟩ (S.trans t));have:=v b d;have:=M.size;omega
end
section
variable {w:World} {K:oK} {F Fr:oA} {many bs:Nat} {c:Cnf} {s:Sat} {σ:SV} {N:Nat}
theorem run_spec {v:Value} {n:Nat} (hc:CnfR F w v c) (z:cnfOk c=true) (d:c.many=many) (hn:n<=4000)
  (X:∀Fr bs σ w',Ext w w'->SR w.heap.size Fr w' bs many c (runM many c n emptyS) σ->(∀b,σ.foot bs b->w.heap.size<=b)->(∀b,Fr b->F b\/w.heap.size<=b)->(∀b,Fr b->b<w'.heap.size)->K (oP bs 0) w'):
  vcall qc0 #[v,nI n] w K:=by
 refine zf {loops:=[(3,[13])]} Tryz.func215 ?_;obtain⟨lv,rfl,R⟩:=hc;have s:many<=700:=by
  have:=z;unfold cnfOk at this;simp only[gl,gh] at this;omega
 refine y4 λb1 w1 Y J a6 G=>?_;refine zd λw2 m _=>?_;have D:Blk w2 b1 [nI c.many,lv] zq:=G.ext m;rw[D.ldAgg zG];simp only[push_cast,D.ld0,K3];rw[d];have a7:=m.size;refine newTrail_spec (Fr:=λb=>F b/\b<w.heap.size) s (λb l=>by have:=l.2;omega) λbt vp vpl vl w3 o g L=>?_;have S:=D.ext o;rw[S.ldAgg zG,d];simp only[K3];refine Yx zs0 (us:=[[nI many,lv],[oP bt 0]]) rfl rfl ?_;refine⟨rfl,?_⟩;refine y4 λbs A Z t a9 H=>?_;have B:Ext w A:=J.trans (m.trans (o.trans t));have a8:=o.size;have M:=g.ext t;have a0:=(R.ext B).weaken (F':=λb=>F b) λb h _=>h;have y:Lists (λb=>F b/\b<w.heap.size) A lv c.list:=(R.weaken (F':=λb=>F b/\b<w.heap.size) λb T U=>⟨T,U⟩).ext B;have N:∀x,Zc bt vp vpl vl x->x<w3.heap.size:=by
  rintro x (rfl|e|e|e)
  .exact g.blk.lt
  .exact g.rp.lt e
  .exact g.rpl.lt e
  .exact g.rl.lt e
 have p:∀x,(SV.mk lv bt vp vpl vl (oN) (oN) []).f3 bs x->x=bs:=by
  rintro x (e|e|e)
  .exact e
  .cases e
  .cases e
 have I:SR w.heap.size (λb=>F b/\b<w.heap.size) A bs many c emptyS (SV.mk lv bt vp vpl vl (oN) (oN) []):=
  ⟨H,d,y,M,OwnI.nil,OwnV.nil,rfl,RowsR.nil B.size,λx j=>(by cases j),λx j=>(by cases j),λx j=>(by cases j),
   λx j ht=>by have:=p x j;have:=N x ht;omega,λx j hF=>by have:=p x j;have:=hF.2;omega⟩
 have f:∀x,(SV.mk lv bt vp vpl vl (oN) (oN) []).foot bs x->w.heap.size<=x:=by
  rintro x (e|e)
  .have:=L x e;omega
  .have:=p x e;omega
 have k:∀q,StepTo w.heap.size (λb=>F b/\b<w.heap.size) A bs many c (runM many c n emptyS) (SV.mk lv bt vp vpl vl (oN) (oN) []) q->K (oP bs 0) q:=by
  rintro q ⟨E,O,r,a2,a3,a4,a5⟩;refine X E bs O q (B.then a2 f) r (λb l=>?_) (λb l=>?_) a5
  .rcases a3 b l with e|e
   .exact f b e
   .omega
  .rcases a4 b l with e|e
   .exact .inl e.1
   .exact .inr oM
 refine vloop_up n (λi u w'=>u=[nI i]/\StepTo w.heap.size (λb=>F b/\b<w.heap.size) A bs many c (runM many c i emptyS) (SV.mk lv bt vp vpl vl (oN) (oN) []) w') ⟨rfl,StepTo.refl I λb l=>by have:=l.2;omega⟩ ?_;rintro i _ _ q C hi ⟨rfl,Q⟩ W;refine oZ ?_;refine zb (λa=>?_) (λa=>?_)
 .obtain⟨E,O,r,a2,a3,a4,a5⟩:=Q;simp only[push_cast,r.blk.ld5];refine zb (λb=>?_) (λb=>?_)
  .refine k q ⟨E,O,?_,a2,a3,a4,a5⟩;have e:n=i+(n-i):=oM;rw[e,run_add,run_stop b];exact r
  .refine step_spec r (run_ok d (empty_ok z)) d a5 λw6 V=>?_;simp(disch:=omega) only[push_cast,zi];refine W oM _ _ ⟨by simp,StepTo.trans a2 a3 a4 (by rw[run_succ];exact V)⟩
 .have:n=i:=oM;subst this;exact k q Q
theorem Zr0:Vals F w (oN) []:=(OwnV.nil (t:=0)).vals.weaken λx a _=>by cases a
theorem k40:Lists F w (oN) []:=⟨[],rfl,Zr0,λi hi=>absurd hi (by simp)⟩
theorem SatR.fields {v:Value} (h:SatR F w v s):∃p y l,v= .agg #[p,y,l,nI s.code]/\∀x,x∈[p,y,l,nI s.code]->x.oneCell'=true:=by
 obtain⟨p,y,l,rfl,c,d,ls,_,a,_⟩:=h;refine⟨p,y,l,rfl,λx b=>?_⟩;simp only[gk,gE,Gn] at b;rcases b with rfl|rfl|rfl|rfl
 .exact c.one
 .exact d.one
 .exact a.one
 .rfl
theorem CnfR.below {v:Value} (h:CnfR F w v c):CnfR (λb=>F b/\b<w.heap.size) w v c:=by
 obtain⟨lv,e,h⟩:=h;exact⟨lv,e,h.weaken λb a d=>⟨a,d⟩⟩
end
section
variable {w:World} {K:oK} {F Fr:oA} {many bs:Nat} {c:Cnf} {s:Sat} {σ:SV} {N:Nat}
def ZM (many:Nat) (put:oI):List Bool:=(List.range many).map λj=>decide (((j+1:Nat):Int)∈put)
theorem valsM_snoc {many:Nat} {put:oI} {l:Int} (a:Distinct (put++[l])) (g:l≠0):(ZM many put).set (l.natAbs-1) (decide (0<l))=ZM many (put++[l]):=by
 refine Gi (by simp[ZM]) λi d f=>?_;rw[pQ];simp only[ZM,PD,pH];have b:∀x,x∈put->x.natAbs≠l.natAbs:=by
  unfold Distinct at a;rw[gG,GB] at a;exact λx c e=>a.2.2 _ (Gm c) _ (by simp) e
 by_cases hi:l.natAbs-1=i
 .rw[V0 hi];refine decide_eq_decide.2 ⟨λh=>GC _ (by rw[gD];omega),λh=>?_⟩;rcases gq.1 h with h|h
  .exact absurd oM (b _ h)
  .rw[gD] at h;omega
 .rw[Q1 hi];refine decide_eq_decide.2 ⟨λh=>Gk _ h,λh=>?_⟩;rcases gq.1 h with h|h
  .exact h
  .rw[gD] at h;omega
theorem vals_spec (h:SR N Fr w bs many c s σ) (B:∀w' v,Ext w w'->OwnB xw w' v (ZM many s.put)->(∀x,v.ownBlock=some x->w.heap.size<=x)->K v w'):vcall Qa #[oP bs 0] w K:=by
 refine zf {loops:=[(3,[20])]} Tryz.func217 ?_;have E:=h.tr.few;have z:=h.tr.few';simp only[push_cast,h.blk.ld0];refine vmkS_own (bs:=1) UN K5 yR0 rfl oM oM λv1 w1 t e f=>?_;have m:=h.ext e;have o:Ints _ w1 σ.vp s.put:=m.tr.rp.ints;simp only[push_cast,m.blk.ld2,m.tr.blk.ld0,o.len];have r:OwnB xw w1 v1 (ZM many []):=by
  have:ZM many []=List.replicate many false:=Gi (by simp[ZM]) λi a b=>(by simp[ZM]);rw[this];unfold OwnB;rw[GU];exact t
 refine vloop_up s.put.length (λi u w'=>u=[nI i]/\Ext w w'/\OwnB xw w' v1 (ZM many (s.put.take i))) ⟨rfl,e,r⟩ ?_;rintro i _ _ w2 C hi ⟨rfl,he,l⟩ A;refine oZ ?_;refine zb (λa=>?_) (λa=>?_)
 .have g:Ints _ w2 σ.vp s.put:=(h.ext he).tr.rp.ints;simp(disch:=exact oS) only[push_cast,g.iaddr,g.load];have D:=h.tr.bnd _ (getD_meS (show i<s.put.length by omega));have G:(ZM many (s.put.take i)).length=many:=(by simp[ZM]);refine variable_spec oM oM ?_;obtain⟨q,F⟩:∃q,(s.put.getD i 0).natAbs=q+1:=⟨(s.put.getD i 0).natAbs-1,oM⟩;rw[F,show(((q+1:Nat):Int))=(q:Int)+1 from rfl];have n:=l.bools;simp(disch:=exact oS) only[Zm,Int.add_sub_cancel,push_cast,zi,n.iaddr];refine l.st zB0 oM λJ k p I=>?_;have j:(ZM many (s.put.take i)).set q (decide (0<s.put.getD i 0))=ZM many (s.put.take (i+1)):=by
   have y:=distinct_take h.tr.dis (i+1);rw[Ki (d:=0) oM] at y⊢;rw[<-valsM_snoc y D.1,show q=(s.put.getD i 0).natAbs-1 from by omega]
  rw[j] at k;exact A oM _ _ ⟨by simp,Ext.then he p λx H=>by have:=f x H;omega,k⟩
 .rw[gI oM] at l;exact B w2 v1 he l f
end
end Go.Proofs.YtfnpmncplaibiaaGreatDoor
namespace Go.Vc
open Go Go.M
section
variable {w w':World} {K:oK} {F:oA} {k:Nat} {v tv dv:Value} {xs:List (List Value)} {t:TypeId} {ts:List Tm} {ds:List Dcl}
theorem Sl.mid (h:Sl F w k v xs) (z:elB t k=true) {a b:Nat} (r:a<=b) (q:b<=xs.length):
  ∃v1,(∀(n p:IntKind) (w':World) (K:oK),xt t v (some (.int n a)) (some (.int p b)) none w' K=K v1 w')/\Sl F w k v1 ((xs.drop a).take (b-a)):=by
 obtain⟨hu,hs⟩:=Xh z;obtain⟨o,c,rfl,B,s,d⟩:=h.shape;refine⟨sliced o a b c k,λn p w' K=>y6 ?_,?_⟩
 .rw[run_sliceAt_slice w' t _ _ _ _ hu,run_slice_lh w' t _ _ _ hu n p a b oM oM oM,Go.Vc.run_sizeOf hs];simp[Result.andThen]
 .have f:((xs.drop a).take (b-a)).length=b-a:=by rw[gi,pB];omega
  refine⟨⟨_,c-a,by rw[f];rfl,by rw[f];omega,oM,λm=>?_⟩,λx A=>h.wide x (GX (gV A))⟩;have y:a<b:=Nat.lt_of_not_le λe=>m (gZ (by rw[f];omega));obtain⟨g,j,rfl,hF,u,l⟩:=d (λe=>by rw[e] at q;simp at q;omega);rw[Q1 oM];refine⟨g,j+a*k,by simp[ym],hF,u,λi hi=>?_⟩;rw[f] at hi;have:=l (a+i) oM;have e:((xs.drop a).take (b-a)).getD i []=xs.getD (a+i) []:=by
   rw[take_getD hi,X0,Pn,<-X0]
  rw[e,show j+a*k+i*k=j+(a+i)*k by rw[pk];omega];exact this
theorem DclsR.cellsV (h:DclsR F w dv ds):dv.cells= #[dv]:=by
 obtain⟨a,c,rfl,_⟩:=h.shape;rfl
theorem TmsR.one (h:TmsR F w tv ts):tv.oneCell'=true:=by
 obtain⟨_,h,_⟩:=h;obtain⟨a,c,rfl,_⟩:=h.shape;rfl
theorem TmsR.cellsV (h:TmsR F w tv ts):tv.cells= #[tv]:=by
 obtain⟨_,h,_⟩:=h;obtain⟨a,c,rfl,_⟩:=h.shape;rfl
end
end Go.Vc
namespace Go.M
open Go.Vc
abbrev Lay:=List Dcl×List Tm
end Go.M
namespace Go.Proofs.YtfnpmncplaibiaaGreatDoor
open Go Go.Vc Go.Proofs
section
variable {w w':World} {K:oK} {F F' F2 H H2 S:oA} {k:Nat} {v uv tv:Value} {t:TypeId} {ts us:List M.Tm}
def LstH (H:oA) (w:World) (tv:Value) (ts:List M.Tm):Prop:= ∃css,Own 0 5 zl w tv css/\css.length=ts.length/\∀i,i<ts.length->TmR H w (css.getD i []) (ts.getD i default)
theorem LstH.nil:LstH H w (oN) []:=⟨[],Own.nil 0 5 _ w,rfl,λi hi=>absurd hi (pK _)⟩
theorem LstH.lt (h:LstH H w tv ts) {b:Nat} (a:tv.ownBlock=some b):b<w.heap.size:=by obtain⟨_,c,_⟩:=h;exact(c.lt a).2
theorem LstH.same (h:LstH H w tv ts) (hw:Same S w w') (b:∀x,tv.ownBlock=some x->¬S x) (c:∀x,H x->x<w.heap.size->¬S x):LstH H w' tv ts:=by
 obtain⟨css,e,d,hi⟩:=h;exact⟨css,e.same hw b,d,λi a=>(hi i a).same hw c⟩
theorem LstH.ext (h:LstH H w tv ts) (hw:Ext w w'):LstH H w' tv ts:=h.same hw (λ_ _ h=>h) λ_ _ _ h=>h
theorem LstH.weaken (h:LstH H w tv ts) (c:∀b,H b->b<w.heap.size->F b):LstH F w tv ts:=by
 obtain⟨css,e,d,hi⟩:=h;exact⟨css,e,d,λi a=>(hi i a).weaken c⟩
theorem LstH.tms (h:LstH H w tv ts):TmsR (λx=>H x\/tv.ownBlock=some x) w tv ts:=by
 obtain⟨css,d,c,hi⟩:=h;exact⟨css,d.sl.weaken λx b _=> .inr b,c,λi a=>(hi i a).weaken λx b _=> .inl b⟩
theorem Vs {α:Type} {l r:List α} {i:Nat} {e:α} (h:l.length<=i):(l++r).getD i e=r.getD (i-l.length) e:=by
 rw[X0,gX h,<-X0]
theorem LstH.app {ty:Nat} {c:List (List Value)} (h:LstH H w tv ts) (o:∀x,tv.ownBlock=some x->¬H x/\¬H2 x) (hu:Sl F2 w 5 uv c) (j:c.length=us.length) (g:∀i,i<us.length->TmR H2 w (c.getD i []) (us.getD i default))
  (r:ts.length+us.length<=1000000000)
  (p:∀w' b,Same (λx=>tv.ownBlock=some x) w w'->(∀x,b.ownBlock=some x->tv.ownBlock=some x\/w.heap.size<=x)->LstH (λx=>(H x\/H2 x)/\x<w.heap.size) w' b (ts++us)->K b w'):
  vbi .append [zl,zl] ty [tv,uv] w K:=by
 obtain⟨css,q,f,hi⟩:=h;refine vappend qm dC q hu (one_tms j g) (gW _) oM oM λb w2 m d l=>p w2 b d l ⟨css++c,m,by simp[f,j],λi k=>?_⟩;rw[V1] at k;by_cases n:i<ts.length
 .rw[M.app_getD oM,M.app_getD n];exact((hi i n).weaken (F':=λx=>(H x\/H2 x)/\x<w.heap.size/\H x) λx a f=>⟨.inl a,f,a⟩).same d (λx a _ e=>(o x e).1 a.2.2)|>.weaken λx a _=>⟨a.1,a.2.1⟩
 .rw[Vs oM,Vs oM,f];exact((g _ oM).weaken (F':=λx=>(H x\/H2 x)/\x<w.heap.size/\H2 x) λx a f=>⟨.inr a,f,a⟩).same d (λx a _ e=>(o x e).2 a.2.2)|>.weaken λx a _=>⟨a.1,a.2.1⟩
theorem LstH.push {ty:Nat} {t:M.Tm} (h:LstH H w tv ts) (m:∀x,tv.ownBlock=some x->¬H x/\¬H2 x) (q:TermR H2 w uv t) (p:ts.length<=2000000)
  (o:∀w' a,Same (λx=>tv.ownBlock=some x) w w'->(∀x,a.ownBlock=some x->tv.ownBlock=some x\/w.heap.size<=x)->LstH (λx=>(H x\/H2 x)/\x<w.heap.size) w' a (ts++[t])->K a w'):
  vbuildS zl 1 [(0,uv)] w λs w1=>vbi .append [zl,zl] ty [tv,s] w1 K:=by
 obtain⟨cs,rfl,f⟩:=q.cells;refine qH xJ qc zr rfl (zS f) dC λb w1 u d r g=>?_;have v:=d.size;refine LstH.app (H2:=λx=>H2 x/\x<w.heap.size) (us:=[t]) ((h.weaken (F:=λx=>H x/\x<w.heap.size) λx c j=>⟨c,j⟩).ext d) (λx c=>⟨λe=>(m x c).1 e.1,λe=>(m x c).2 e.1⟩) (g.sl1k (zS f)) rfl (λi hi=>?_) (by simp;omega) λw2 a l k n=>?_
 .have:i=0:=(by simpa using hi);subst this;exact(f.weaken λx c j=>⟨c,j⟩).ext d
 .refine o w2 a ((Same.of_ext d).trans l) (λx c=>(k x c).imp id λh=>oM) (n.weaken λx c _=>?_);rcases c.1 with h|h
  .exact⟨.inl h.1,h.2⟩
  .exact⟨.inr h.1,h.2⟩
end
section
variable {b:Nat} {c:List M.Lay}
theorem two_one {a b:Value} (d:a.oneCell'=true) (e:b.oneCell'=true):∀x,x∈[a,b]->x.oneCell'=true:=λx c=>by
 simp only[gk,gE,Gn] at c;rcases c with rfl|rfl<;>assumption
end
section
variable {w w' w1 w2:World} {K:oK} {F D G H S:oA} {n b k p many:Nat} {v lv tv dv nv ev x3 x4 x5 f:Value} {t:M.Tm} {ts:List M.Tm} {ds:List M.Dcl} {c:M.Cnf} {ar ab at_ an am:Addr}
theorem Zt0 {o:Nat} {cs cs':List Value} {t0 t:TypeId} (h:Blk w b cs t0) (e:o+cs'.length<=cs.length) (g:aggB t cs'.length=true) (a:∀v,v∈cs'->v.oneCell'=true)
  (c:∀w',Same (· =b) w w'->w'.heap.size=w.heap.size->Blk w' b (cs.take o++cs'++cs.drop (o+cs'.length)) t0->K undef w'):zy t (oP b o) (.agg ⟨cs'⟩) w K:=by
 have f:=run_storeCells_at (P:=P) b o t0 cs' 0 ⟨cs⟩ w h (by simpa using e) a;refine⟨(),_,?_,c (w.setRow b (cs.take o++cs'++cs.drop (o+cs'.length)).toArray) ⟨rfl,rfl,rfl,by simp,λk _ d=>setRow_other w b k _ d⟩ (by simp) (setRow_heap w b _ _ t0 _ h)⟩;simp only[Instr.storeAt,Instr.sureAddr,Sem.run_bind,Sem.run_pure,Result.andThen_ok,storeVar,jg g,Value.cells];simp only[po,z0h,not_true_eq_false,if_false];exact f
theorem jobFold_spec (r:Blk w b [dv,tv,nv,x3,x4,x5] zW) (hd:DclsR F w dv ds) (N:TmsR F w tv ts) (a6:∀x,F x->x≠b) (hs:ts.length<=2000000) (Z:Sent w yz at_)
  (U:∀t,t∈ts->M.tsort ds t≠0->∀w',Ext w w'->K (erv at_) w')
  (V:(∀t,t∈ts->M.tsort ds t=0)->∀w' L,Same (· =b) w w'->Blk w' b [dv,L,nv,x3,x4,x5] zW->TmsR (λx=>w.heap.size<=x) w' L (ts.map (J6 ds))->K .nilIface w'):
  vcall ku #[oP b 0] w K:=by
 refine zf {loops:=[(3,[3,11])]} Tryz.func150 ?_;have lb:=r.lt;simp only[push_cast,r.ld1,N.len];refine vloop_up ts.length (λi u w'=> ∃lv H,u=[lv,nI i]/\Ext w w'/\LstH H w' lv ((ts.take i).map (J6 ds))/\(∀x,H x->w.heap.size<=x)/\(∀x,lv.ownBlock=some x->w.heap.size<=x/\¬H x)/\∀j,j<i->M.tsort ds (ts.getD j default)=0)
  ⟨_,λ_=>False,rfl,Same.refl _ _,LstH.nil,λx d=>d.elim,λx d=>(by cases d),λj D=>absurd D oM⟩ ?_
 rintro i _ _ w2 C hi ⟨lv,H,rfl,c,f,hH,hO,n⟩ hC;refine oZ ?_;refine zb (λa=>?_) (λa=>?_)
 .have m:i<ts.length:=oM;have G:=N.ext c;simp(disch:=exact oS) only[push_cast,G.iaddr];refine G.load zc m λx d=>?_;obtain⟨cs,rfl,l⟩:=d.cells;have hg:aggB za cs.length=true:=by rw[zS l];exact zc
  refine zj zr λb3 w3 a7 s a3 o=>?_;refine stTerm o rfl (l.ext s) λw4 a0 a8 R=>?_;refine zd λw5 v _=>?_;have k:Ext w2 w5:=(Ext.then s a0 λy hy=>by subst hy;omega).trans v;have S:=r.ext (c.trans k);have q5:=R.ext v;simp only[push_cast,S.ld0,K3];rw[q5.ldAgg (t:=za) hg];refine⟨rfl,?_⟩;refine TermSort_spec (hd.ext (c.trans k)) (l.ext k).term λw6 z=>?_;have p:=k.trans z;have e6:=c.trans p;simp only[push_cast,K3];refine zb (λO=>?_) (λO=>?_)
  .have I:=Z.same e6 id;rw[zZ xd I.cell];exact U _ (M.getD_mem m _) O _ e6
  .refine zd λw7 A _=>?_;have g:=p.trans A;have T:=r.ext (c.trans g);have q7:=q5.ext (z.trans A);simp only[push_cast,T.ld0,K3];rw[q7.ldAgg (t:=za) hg];refine⟨rfl,?_⟩;refine TermFold_spec (hd.ext (c.trans g)) (l.ext g).term λw8 a5 B Y=>?_;have q:=g.trans B;have a9:=g.size;have z2:=c.size;have z8:=B.size;have llt:∀x,lv.ownBlock=some x->x<w2.heap.size:=λx d=>f.lt d;refine LstH.push (f.ext q) (λx d=>⟨(hO x d).2,λe=>by have:=llt x d;omega⟩) (kE0 _ Y).term (by rw[gd,gi];omega) λw9 a4 a2 X E=>?_
   try simp only[push_cast]
   rw[inc64' oM];rw[show(ts.take i).map (J6 ds)++[J6 ds (ts.getD i default)]=(ts.take (i+1)).map (J6 ds) by rw[<-XX m,gG];rfl] at E;refine hC m _ _ ⟨a4,_,rfl,Ext.then (c.trans q) a2 λx d=>(hO x d).1,E,λx d=>?_,λx d=>?_,λj D=>?_⟩
   .rcases d.1 with h|h
    .exact hH x h
    .have:=h.1;omega
   .rcases X x d with e|e
    .refine⟨(hO x e).1,λh=>?_⟩;have:=llt x e;rcases h.1 with h|h
     .exact(hO x e).2 h
     .have:=h.1;omega
    .exact⟨oM,λh=>by have:=h.2;omega⟩
   .by_cases e:j<i
    .exact n j e
    .have:j=i:=oM;subst this;exact P8.1 O
 .have W:i=ts.length:=oM;subst W;rw[gF] at f;have Q:=r.ext c;refine Q.st (i:=1) f.tms.cellsV f.tms.one qf rfl λw3 J a3 o=>?_;refine V (λt N=>?_) w3 lv ((Same.of_ext c).trans J) o ?_
  .obtain⟨j,D,rfl⟩:=gy N;have:=n j D;rwa[X0,gj D] at this
  .exact(f.tms.same J λx d _ e=>by
    have:w.heap.size<=x:=d.elim (hH x) λh=>(hO x h).1;omega).weaken λx d _=>d.elim (hH x) λh=>(hO x h).1
theorem jobBlast_spec (z:Blk w b [dv,tv,nv,x3,x4,x5] zW) (I:DclsR F w dv ds) (M:TmsR G w tv ts) (he:Errs (λ_=>False) w ar ab) (D:Sent w yz at_)
  (O:∀w' lv ls,Same (· =b) w w'->Blk w' b [dv,tv,nv,nI (cnfE ds ts).1.many,lv,x5] zW->CnfO w.heap.size w' lv ls (cnfE ds ts).1->K (errV ar at_ (cnfE ds ts).2) w'):vcall jy #[oP b 0] w K:=by
 refine zf {cuts:=[(8194,[3,4])]} Tryz.func151 ?_;have lb:=z.lt;refine zp (λu w'=> ∃b3 lv ls,u=[oP b3 0,errV ar at_ (cnfE ds ts).2]/\Ext w w'/\w.heap.size<=b3/\Blk w' b3 [nI (cnfE ds ts).1.many,lv] zq/\CnfO w.heap.size w' lv ls (cnfE ds ts).1) (λJ H=>?_) ?_
 .refine zd λw1 c _=>?_;have k:=z.ext c;have V:=c.size;have j:=D.same c id;have i:=he.ext0 c;simp only[push_cast,k.ld0,k.ld1,K3,Gq];refine⟨?_,?_⟩
  .refine blastCnf_spec (I.ext c) (M.ext c) i j λw2 lv ls g f=>?_;have z2:=g.size;simp only[push_cast,K3,Gq];refine zj xr λb3 E m a s d=>?_;have C:=f.ext a
   try simp only[push_cast,K3,Gq,gm]
   refine d.stAgg (cs':=[nI (cnfE ds ts).1.many,lv]) rfl zG (two_one rfl C.lst.vals.one) λT q R A=>?_
   try simp only[push_cast,K3,Gq,gm]
   refine H _ _ ⟨b3,lv,ls,rfl,Ext.then ((c.trans g).trans a) q λy Q=>oM,oM,A,(f.same ((Same.of_ext a).trans q) λx N L e=>oM).down oM⟩
  .refine zj xr λb3 E m a s d=>?_;have h:=k.ext a;have v:=c.trans a;have z3:=a.size;simp only[push_cast,h.ld0,h.ld1,K3,gm];refine blastCnf_spec (I.ext v) (M.ext v) (i.ext0 a) (j.same a id) λT lv ls n l=>?_;simp only[push_cast,K3,Gq];refine(d.ext n).stAgg (cs':=[nI (cnfE ds ts).1.many,lv]) rfl zG (two_one rfl l.lst.vals.one) λU r S B=>?_
   try simp only[push_cast,K3,Gq,gm]
   exact H _ _ ⟨b3,lv,ls,rfl,Ext.then (v.trans n) r λy Q=>oM,oM,B,(l.same r λx N L e=>oM).down oM⟩
 .rintro _ _ w2 ⟨b3,lv,ls,rfl,g,m,d,f⟩;refine oZ ?_;rw[d.ldAgg (t:=zq) zG]
  try simp only[push_cast]
  refine Zt0 (o:=3) (z.ext g) (by simp) zG (two_one rfl f.lst.vals.one) λE p s d=>?_;exact O E lv ls ((Same.of_ext g).trans p) d (f.same p λx N L e=>oM)
theorem vals_ins {put:oI} (h:1+n<=many):((ZM many put).drop 1).take n=M.insV (M.wayM put) n:=by
 refine Gi (by simp[ZM,M.insV];omega) λi a b=>?_;simp[ZM,M.insV,M.wayM,Nat.add_comm 1 i,P9];rw[show(i:Int)+1+1=i+2 by omega]
theorem jobSearch_spec (g:Blk w b [dv,tv,nv,nI c.many,lv,x5] zW) (hd:DclsR F w dv ds) (a1:∀x,F x->x≠b) (l:M.declOk ds=true) (hc:CnfR G w (.agg #[nI c.many,lv]) c) (u:M.cnfOk c=true) (hn:1+M.nIn ds<=c.many.toNat) (W:Sent w ju an) (U:Sent w qz am)
  (m:(M.searchM 4000 ds c).2=1->∀w' ev,Same (· =b) w w'->Blk w' b [dv,tv,nv,nI c.many,lv,ev] zW->OwnI ze w' ev (M.searchM 4000 ds c).1->(∀x,ev.ownBlock=some x->w.heap.size<=x)->K .nilIface w')
  (o:M.searchM 4000 ds c=([],2)->∀w',Ext w w'->K (erv an) w') (p:M.searchM 4000 ds c=([],3)->∀w',Ext w w'->K (erv am) w'):vcall ja #[oP b 0] w K:=by
 refine zf {} Tryz.func153 ?_;have lb:=g.lt;obtain⟨V,a5⟩:=M.nIn_eq l;have R:zu zq (oP b 3) w=λK=>K (.agg #[nI c.many,lv]) w:=by
  funext K
  refine XR (cs:=[nI c.many,lv]) zG λi v C=>?_;rw[ym]
  match i,C with
  |0,C=>exact g.cell (by simpa using C)
  |1,C=>exact g.cell (by simpa using C)
 simp only[push_cast];rw[R];have a3:0<=c.many:=oM
 refine run_spec (many:=c.many.toNat) (n:=4000) hc u oM (gz _) λFr bs σ w2 f h _ _ _=>?_;have a0:=g.ext f;have z2:=f.size;simp only[push_cast,h.blk.ld5];have d:M.searchM 4000 ds c=if(M.runM c.many.toNat c 4000 M.emptyS).code=1 then(M.envB ds (M.insV (M.wayM (M.runM c.many.toNat c 4000 M.emptyS).put) (M.nIn ds)),1) else if(M.runM c.many.toNat c 4000 M.emptyS).code=2 then([],2) else([],3):=rfl
 generalize M.searchM 4000 ds c=sr at d m o p;generalize hs:M.runM c.many.toNat c 4000 M.emptyS=s at h d;refine zb (λa=>?_) (λa=>?_)
 .rw[V0 a] at d;refine zd λw3 z _=>?_;have e3:=f.trans z;have J:=g.ext e3;simp only[push_cast,J.ld0,K3];refine vals_spec (h.ext z) λw4 vv S X a4=>?_;have I:=e3.trans S;have L:=g.ext I;simp only[push_cast,L.ld0,K3,gm];refine bitsOf_spec (hd.ext I) l λw5 A=>?_;have H:=I.trans A;have N:=g.ext H;simp only[push_cast,N.ld0,K3,gm];rw[zi oM oM,<-V,show(1:Int)+(M.nIn ds:Int)=((1+M.nIn ds:Nat):Int) by omega];obtain⟨v6,y,Y⟩:=Sl.mid (X.ext A).bools (t:=xw) (k:=1) xi0 (a:=1) (b:=1+M.nIn ds) oM (by simp[ZM];omega);rw[show(1:Int)=((1:Nat):Int) from rfl,y]
  try simp only[push_cast,K3]
  have D:Bools (λx=>vv.ownBlock=some x) w5 v6 (M.insV (M.wayM s.put) (M.nIn ds)):=by
   have q:=Y;rw[show 1+M.nIn ds-1=M.nIn ds by omega,<-Pk,<-GO,<-Pk,<-GO,vals_ins hn] at q;exact q
  refine BlastEnv_spec (hd.ext H) D l (by rw[M.insV_len]) λw7 r T j B=>?_;have e7:=H.trans T;have O:=g.ext e7
  try simp only[push_cast,K3]
  refine O.st (i:=5) j.ints.cells1 j.ints.one qe rfl λw8 E a6 Q=>?_;have z5:=H.size;subst d;exact m rfl w8 r ((Same.of_ext e7).trans E) Q (j.same E λx Z e=>by have:=B x Z;omega) λx Z=>by have:=B x Z;omega
 .rw[Q1 a] at d;refine zb (λa2=>?_) (λa2=>?_)
  .rw[V0 a2] at d;rw[zZ xd (W.same f id).cell];exact o d w2 f
  .rw[Q1 a2] at d;rw[zZ xd (U.same f id).cell];exact p d w2 f
end
section
variable {w w' w1:World} {K:oK} {n b k p:Nat} {f:Value} {xs:List Nat} {t:M.Tm} {us:List M.Tm} {ds:List M.Dcl} {c:M.Cnf} {ar ab at_ an am:Addr}
def RowA (w:World) (a:Addr):Prop:= ∃(c:Array Value) (t:TypeId),w.heap[a.block]?=some (.cells c t (0,0))
theorem RowA.ext {a:Addr} (h:RowA w a) (he:Ext w w'):RowA w' a:=by
 obtain⟨c,t,h⟩:=h;refine⟨c,t,?_⟩;rw[he.block _ (gM.1 h).1 id];exact h
structure Er (w:World) (at_ an am ar ab:Addr):Prop where
 terms:Sent w yz at_
 no:Sent w ju an
 much:Sent w qz am
 errs:Errs (λ_=>False) w ar ab
 rt:RowA w at_
 rn:RowA w an
 rm:RowA w am
 rr:RowA w ar
 d1:an≠at_
 d2:am≠at_
 d3:am≠an
 d4:ar≠at_
 d5:ar≠an
 d6:ar≠am
theorem Er.ext (h:Er w at_ an am ar ab) (he:Ext w w'):Er w' at_ an am ar ab:=
 ⟨h.terms.same he id,h.no.same he id,h.much.same he id,h.errs.ext0 he,h.rt.ext he,h.rn.ext he,h.rm.ext he,h.rr.ext he,h.d1,h.d2,h.d3,h.d4,h.d5,h.d6⟩
def errE (at_ an am ar:Addr):Nat->Value
 |0=> .nilIface
 |1=>erv ar
 |2=>erv at_
 |3=>erv an
 |_=>erv am
theorem V4 {a c:Addr} (h:a≠c) (f:RowA w a) (g:RowA w c) (e:K (.bool false) w):vcall xC #[erv a,erv c] w K:=by
 obtain⟨_,_,b⟩:=f;obtain⟨_,_,d⟩:=g;exact kX0 h b d e
theorem switch_spec {r q j X:World->Prop} (er:Er w at_ an am ar ab) (k:Nat) (l:k=0->X w) (m:k=1->j w) (n:k=2->r w) (o:k=3->q w) (p:4<=k->j w):
  zu xu (oP yz 0) w λt28 e=>vcall xC #[errE at_ an am ar k,t28] e λt29 b=>vif t29 (r b) (
   zu xu (oP ju 0) b λt32 f=>vcall xC #[errE at_ an am ar k,t32] f λt33 c=>vif t33 (q c) (
    zu xu (oP qz 0) c λt36 g=>vcall xC #[errE at_ an am ar k,t36] g λt37 a=>vif t37 (vif t37 (j a) (X a)) (
     zu xu (oP xV 0) a λt39 i=>vcall xC #[errE at_ an am ar k,t39] i λt40 d=>vif t40 (j d) (X d)))):=by
 rw[zZ xd er.terms.cell]
 match k,l,m,n,o,p with
 |0,l,_,_,_,_=>
  refine qg0 (zm (λh=>by cases h) λ_=>?_);rw[zZ xd er.no.cell];refine qg0 (zm (λh=>by cases h) λ_=>?_);rw[zZ xd er.much.cell];refine qg0 (zm (λh=>by cases h) λ_=>?_);rw[zZ xd er.errs.room.cell];exact qg0 (zm (λh=>by cases h) λ_=>l rfl)
 |1,_,m,_,_,_=>
  refine V4 er.d4 er.rr er.rt (zm (λh=>by cases h) λ_=>?_);rw[zZ xd er.no.cell];refine V4 er.d5 er.rr er.rn (zm (λh=>by cases h) λ_=>?_);rw[zZ xd er.much.cell];refine V4 er.d6 er.rr er.rm (zm (λh=>by cases h) λ_=>?_);rw[zZ xd er.errs.room.cell];exact WB (zm (λ_=>m rfl) λh=>by cases h)
 |2,_,_,n,_,_=>exact WB (zm (λ_=>n rfl) λh=>by cases h)
 |3,_,_,_,o,_=>
  refine V4 er.d1 er.rn er.rt (zm (λh=>by cases h) λ_=>?_);rw[zZ xd er.no.cell];exact WB (zm (λ_=>o rfl) λh=>by cases h)
 |k+4,_,_,_,_,p=>
  refine V4 er.d2 er.rm er.rt (zm (λh=>by cases h) λ_=>?_);rw[zZ xd er.no.cell];refine V4 er.d3 er.rm er.rn (zm (λh=>by cases h) λ_=>?_);rw[zZ xd er.much.cell];exact WB (zm (λ_=>zm (λ_=>p oM) λh=>by cases h) λh=>by cases h)
theorem X10 {d e f:Option Addr} {a c1 b c2 c c3:Nat}:yi zW [(0,.slice d a c1),(1,.slice e b c2),(2,.slice f c c3)] w K=K (.agg ⟨[.slice d a c1,.slice e b c2,.slice f c c3,nI 0,oN,oN]⟩) w:=
 zT qx0 (us:=[[.slice d a c1],[.slice e b c2],[.slice f c c3]]) rfl rfl
def xx0:List Value:=[.func (.func ku) #[] #[],.func (.func jy) #[] #[],.func (.func qJ) #[] #[],.func (.func ja) #[] #[]]
theorem stages_spec (d:∀w' b,b=w.heap.size->Ext w w'->Vals (· =b) w' (.slice (some ⟨b,0,none⟩) 4 4) xx0->K (.slice (some ⟨b,0,none⟩) 4 4) w'):vcall Uz #[] w K:=by
 refine zf {} Tryz.func109 ?_;exact vbuildS_row1 (xs:=xx0) Z9 Z0 kK (λx a=>by
  simp only[xx0,gk,gE,Gn] at a;rcases a with rfl|rfl|rfl|rfl<;>rfl) dC λb w1 e he f c=>d w1 b e he (c.sl1 rfl dC)
theorem Zk0:qV c ds []=c:=by unfold qV;simp
end
end Go.Proofs.YtfnpmncplaibiaaGreatDoor
namespace Go.Proofs.YtfnpmncplaibiaaGreatDoor
open Go Go.Vc Go.Proofs Go.M
section
variable {w:World} {K:oK} {F Fr:oA} {many:Nat} {c:Cnf} {s:Sat}
theorem l4Abs_spec {x:Int} (h:x.natAbs<=9223372036854775807) (b:K (nI x.natAbs) w):vcall Js #[nI x] w K:=by
 refine zf {} Tryz.func266 ?_;refine oZ ?_;refine zb (λa=>?_) (λa=>?_)
 .rw[zi oM oM,show 0-x=(x.natAbs:Int) from by omega];exact b
 .rwa[show(x.natAbs:Int)=x from by omega] at b
theorem l5Vals_spec {vc v:Value} {put:oI} (R:CnfR F w vc c) (A:c.many=many) (G:many<=700) (j:Ints Fr w v put) (hm:marksOk many put)
  (Q:∀w' v',Ext w w'->OwnI ze w' v' (signs many put)->(∀x,v'.ownBlock=some x->w.heap.size<=x)->K v' w'):vcall U7 #[vc,v] w K:=by
 refine zf {loops:=[(3,[6])]} Tryz.func80 ?_;obtain⟨lv,rfl,-⟩:=R;have hlen:=hm.len;refine y4 λb w1 I p T O=>?_;have z:Blk w1 b [nI c.many,lv] zq:=O;simp only[push_cast,z.ld0];rw[A,zi oM oM,show((many:Int)+1)=((many+1:Nat):Int) from by omega];refine vmkS_own (bs:=8) xx qD xp rfl oM oM λv1 w2 N B l=>?_;have y:OwnI ze w2 v1 (signs many []):=by rw[j60];unfold OwnI;rw[GU];exact N
 have J:=p.size;refine vloop_up put.length (λi u w'=>u=[nI i]/\Ext w w'/\OwnI ze w' v1 (signs many (put.take i))) ⟨rfl,p.trans B,by simpa using y⟩ ?_;rintro i _ _ U C hi ⟨rfl,g,r⟩ H;have o:=j.ext g;have S:=signs_len many (put.take i);simp only[push_cast,o.len];refine zb (λa=>?_) (λa=>?_)
 .have h:i<put.length:=oM;simp(disch:=exact oS) only[push_cast,o.iaddr,o.load];have I:=hm.2 _ (getD_meS h);have q:=M.take_snoc' (d:=0) h;have t:=distinct_take hm.1 (i+1);have k:placeOf (put.take i) (put.getD i 0).natAbs=0:=by
   refine placeOf_zero λx j e=>?_;rw[q] at t;unfold Distinct at t;rw[gG,GB] at t;exact t.2.2 _ (Gm j) _ (by simp) e
  have f:=signs_snoc (many:=many) I.1 k;rw[<-q] at f;have s:=r.ints;have E:IntKind.i64.wrap ((i:Int)+1)=((i+1:Nat):Int):=by rw[zi oM oM];omega
  generalize W:put.getD i 0=x at*;refine zb (λb3=>?_) (λb3=>?_)
  .simp(disch:=exact oS) only[push_cast,s.iaddr];rw[show x.toNat=x.natAbs from by omega];refine r.st yG oM λV n m D=>?_;rw[V0 b3] at f;simp only[push_cast,E];exact H h _ _ ⟨rfl,Ext.then g m λx j=>by have:=l x j;omega,by rw[f];exact n⟩
  .have L:IntKind.i64.wrap (0-x)=(x.natAbs:Int):=by rw[zi oM oM];omega
   rw[L];simp(disch:=exact oS) only[push_cast,s.iaddr];refine r.st yG oM λV n m D=>?_;rw[Q1 b3] at f;simp only[push_cast,E];exact H h _ _ ⟨rfl,Ext.then g m λx j=>by have:=l x j;omega,by rw[f];exact n⟩
 .rw[gI oM] at r;exact Q U v1 g r λx j=>by have:=l x j;omega
theorem l5Sign_spec {v:Value} {put:oI} {m:Int} (b:Ints F w v (signs many put)) (hm:marksOk many put) (c:many<=700) (h:m≠0) (e:m.natAbs<=many) (d:K (nI (Zy0 put m)) w):vcall U8 #[v,nI m] w K:=by
 refine zf {} Tryz.func275 ?_;have g:=signs_len many put;refine oZ ?_;refine zb (λa=>?_) (λa=>?_)
 .simp(disch:=exact oS) only[push_cast,b.iaddr,b.load];rw[show m.toNat=m.natAbs from by omega,signs_get e,sgn_pos hm a];exact d
 .have f:IntKind.i64.wrap (0-m)=(m.natAbs:Int):=by rw[zi oM oM];omega
  rw[f];simp(disch:=exact oS) only[push_cast,b.iaddr,b.load];have:=sgnV_range put m.natAbs;rw[signs_get e,zi oM oM,Gh,sgn_neg hm oM];exact d
theorem l5Look_spec {v v':Value} {put cl:oI} (t:Ints F w v (signs many put)) (hm:marksOk many put) (g:many<=700) (c:Ints Fr w v' cl) (r:∀l,l∈cl->l≠0/\l.natAbs<=many)
  (p:∀b n x,lookM put cl 0 0=(b,n,x)->K (.tuple #[nI (if b then-1 else(n:Int)),nI (if b then 0 else x)]) w):vcall U9 #[v,v'] w K:=by
 refine zf {loops:=[(4,[6,7,8])]} Tryz.func229 ?_;have hlen:cl.length<=9223372036854775807:=by obtain⟨_,_,_,j,k,_⟩:=c.shape;simp at j;omega
 refine vloop_up cl.length (λi u w'=>w'=w/\∃(n:Nat) (x:Int),u=[nI n,nI x,nI i]/\n<=i/\lookM put (cl.drop i) n x=lookM put cl 0 0) ⟨rfl,0,0,rfl,oM,rfl⟩ ?_;rintro i _ _ _ C hi ⟨rfl,n,x,rfl,y,e⟩ o;simp only[push_cast,c.len];refine zb (λa=>?_) (λa=>?_)
 .have f:i<cl.length:=oM;simp(disch:=exact oS) only[push_cast,c.iaddr,c.load];have h:=r _ (getD_meS f);rw[Zi (d:=0) f,J0] at e;refine l5Sign_spec t hm g h.1 h.2 ?_;have m:IntKind.i64.wrap ((i:Int)+1)=((i+1:Nat):Int):=by rw[zi oM oM];omega
  have q:IntKind.i64.wrap ((n:Int)+1)=((n+1:Nat):Int):=by rw[zi oM oM];omega
  generalize s:cl.getD i 0=l at*;simp only[xu0,xv0];unfold Zy0;by_cases j:l∈put
  .rw[V0 j] at e⊢;have:=p true 0 0 e.symm;exact zb (λ_=>by simpa using this) (λb=>absurd (by decide:(0:Int)<1) b)
  rw[Q1 j] at e⊢;by_cases k:placeOf put l.natAbs=0
  .rw[V0 k] at e⊢;refine zb (λb=>absurd b oM) (λ_=>zb (λ_=>?_) (λb=>absurd rfl b));simp(disch:=exact oS) only[push_cast,c.load];rw[m,q,s];exact o f _ _ ⟨rfl,n+1,l,rfl,oM,e⟩
  .rw[Q1 k] at e⊢;refine zb (λb=>absurd b oM) (λ_=>zb (λb=>absurd b oM) (λ_=>?_));rw[m];exact o f _ _ ⟨rfl,n,x,rfl,oM,e⟩
 .rw[Gp oM] at e;have:=p false n x e.symm;simpa using this
end
end Go.Proofs.YtfnpmncplaibiaaGreatDoor
end
