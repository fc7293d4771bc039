import Derived.Test.YtfnpmncplaibiaaGreatDoorWqdP13
import Derived.Deep.Slices
import Derived.OpenVars
import Derived.MakeChecks
import Derived.Stop.LaidErr
import Derived.Stop.LaidTwo
/- A part of the proof. -/
set_option linter.all false
set_option maxRecDepth 9999
set_option maxHeartbeats 2000000
noncomputable section
namespace Go.Proofs.YtfnpmncplaibiaaGreatDoor
open Go Go.Vc Go.Proofs Go.M
section
variable {w:World} {K:oK} {F F':oA} {many:Nat} {c:Cnf} {s:Sat}
def SpR (Z:oA) (w:World) (v:Value) (s:Sat):Prop:=
 ∃vp vw vl,v= .agg #[vp,vw,vl,nI s.code]/\OwnI zh w vp s.put/\OwnI zh w vw s.why/\(∀b,vp.ownBlock=some b->Z b/\vw.ownBlock≠some b)/\(∀b,vw.ownBlock=some b->Z b)/\
  Lists (λb=>Z b/\vp.ownBlock≠some b/\vw.ownBlock≠some b) w vl s.learned
section
variable {Z Z':oA} {v:Value} {w':World}
theorem SpR.ext (h:SpR Z w v s) (he:Ext w w'):SpR Z w' v s:=by
 obtain⟨vp,vw,vl,e,a,b,c,d,f⟩:=h;exact⟨vp,vw,vl,e,a.ext he,b.ext he,c,d,f.ext he⟩
theorem SpR.same {S:oA} (h:SpR Z w v s) (hw:Same S w w') (c:∀b,Z b->b<w.heap.size->¬S b):SpR Z w' v s:=by
 obtain⟨vp,vw,vl,e,d,f,g,i,j⟩:=h;exact⟨vp,vw,vl,e,d.same hw λb a=>c b (g b a).1 (d.lt a),f.same hw λb a=>c b (i b a) (f.lt a),g,i,j.same hw λb a=>c b a.1⟩
theorem SpR.weaken (h:SpR Z w v s) (c:∀b,Z b->b<w.heap.size->Z' b):SpR Z' w v s:=by
 obtain⟨vp,vw,vl,e,d,f,g,i,j⟩:=h;exact⟨vp,vw,vl,e,d,f,λb a=>⟨c b (g b a).1 (d.lt a),(g b a).2⟩,λb a=>c b (i b a) (f.lt a),j.weaken λb a k=>⟨c b a.1 k,a.2⟩⟩
theorem SpR.below (h:SpR Z w v s):SpR (λb=>Z b/\b<w.heap.size) w v s:=h.weaken λ_ a c=>⟨a,c⟩
theorem SpR.sat (h:SpR Z w v s):SatR Z w v s:=by
 obtain⟨vp,vw,vl,e,c,d,f,g,i⟩:=h;exact⟨vp,vw,vl,e,c.ints.weaken λb a _=>(f b a).1,d.ints.weaken λb a _=>g b a,i.weaken λb a _=>a.1⟩
theorem SpR.empty:SpR Z w (.agg #[oN,oN,oN,nI 0]) emptyS:=
 ⟨_,_,_,rfl,OwnI.nil,OwnI.nil,λb a=>(by cases a),λb a=>(by cases a),kg0⟩
end
theorem copy_ints {v:Value} {xs:oI} {b:Nat} {t:TypeId} (f:Blk w b [] zV) (a:Ints F w v xs) (c:xs.length*8<=140737488355328)
  (g:∀v' w',OwnI zh w' v' xs->Same (· =b) w w'->(∀x,v'.ownBlock=some x->x=b\/w.heap.size<=x)->K v' w'):vbi .append [zh,zh] t [.slice (some ⟨b,0,none⟩) 0 0,v] w K:=by
 have d:OwnI zh w (.slice (some ⟨b,0,none⟩) 0 0) []:=Blk.own1 (t:=zh) (cs:=[]) (by rw[qQ];exact f) (gF _) rfl rfl oM;refine d.app (ys:=xs) xH a (by simp only[pH];omega) (by simpa using c) λv' w2 i hs h=>g v' w2 i (hs.mono λx _ a=>?_) λx a=>?_
 .exact(K3 a).symm
 .exact(h x a).imp (λe=>(K3 e).symm) id
theorem l5Back_spec {vp vw vl:Value} {L:Nat} (hp:OwnI zh w vp s.put) (hw:OwnI zh w vw s.why) (ac:vl.oneCell'=true) (hlen:s.put.length=s.why.length) (ag:s.put.length<=700) (hL:L<=700) (Y:∀k,k<s.why.length->s.why.getD k 0= -1\/0<=s.why.getD k 0)
  (hK:∀w' F y,Ext w w'->OwnI zh w' F (s.put.take (backN (yC s.why) L s.put.length))->OwnI zh w' y (s.why.take (backN (yC s.why) L s.put.length))->(∀b,F.ownBlock=some b->w.heap.size<=b/\y.ownBlock≠some b)->(∀b,y.ownBlock=some b->w.heap.size<=b)->K (.agg #[F,y,vl,nI s.code]) w'):
  vcall WR #[.agg #[vp,vw,vl,nI s.code],nI L] w K:=by
 refine ze {loops:=[(3,[5,6])],cuts:=[(16392,[5])]} Tryz.func233 ?_;refine yp λb2 w2 ak a8 av a2=>?_;refine qo qZ λb4 A al O aw a3=>?_;have B4:Blk A b2 [vp,vw,vl,nI s.code] zw:=a2.ext O;have R4:Blk A b4 [oN,oN,oN,nI 0] zw:=a3;have E4:=a8.trans O;have R:=hp.ext E4;have ad:=hw.ext E4;have aa:=R.ints;have Z:=ad.ints;have aq:=kI s.why;refine zo (λu w'=>w'=A/\u=[nI (backN (yC s.why) L s.put.length:Nat)]) ?_ ?_
 .intro J hJ;have done:∀n,n<=s.put.length->(∀i,i<n->(lvl (yC s.why) i:Int)<=L)->(n=s.put.length\/(L:Int)<(lvl (yC s.why) n:Int))->J [nI (n:Nat)] A:=λn h1 h2 h3=>hJ _ _ ⟨rfl,by rw[backN_eq h1 h2 h3]⟩;refine vloop_up s.put.length (λn u w'=>w'=A/\u=[nI n,nI (((yC s.why).take n).count true:Nat)]/\∀i,i<n->(lvl (yC s.why) i:Int)<=L) ⟨rfl,rfl,oM⟩ ?_;rintro n _ _ A C hn ⟨rfl,rfl,f⟩ hC;simp only[push_cast,B4.ld0,aa.len];refine zb (λa=>?_) (λa=>done n hn f (.inl oM));have a9:n<s.put.length:=oM;have a7:=Y4 (ds:=yC s.why) (i:=n) oM;have B:=lvl_succ (ds:=yC s.why) (i:=n) oM;have ap:((yC s.why).take n).count true<=700:=gH pS (by simp;omega);have N:=z00 (why:=s.why) (k:=n) oM;have au:=Y n oM;simp(disch:=exact oS) only[push_cast,B4.ld1,Z.iaddr,Z.load];have j:∀k:Nat,k=lvl (yC s.why) n->¬(L:Int)<k->(n<s.put.length->∀(u':List Value) (w'':World),(w''=A/\u'=[nI (n+1:Nat),nI (((yC s.why).take (n+1)).count true:Nat)]/\∀i,i<n+1->(lvl (yC s.why) i:Int)<=L)->C u' w'')->C [nI (n+1:Nat),nI k] A:=λk Q ar h=>by
   refine h a9 _ _ ⟨rfl,by rw[a7,<-B,Q],λi hi=>?_⟩;by_cases e:i=n
   .subst e;omega
   .exact f i oM
  refine zb (λb=>?_) (λb=>?_)
  .have Q:((yC s.why).take n).count true+1=lvl (yC s.why) n:=by rw[B,N,gu oM];rfl
   rw[inc64 oM];refine zb (λb2=>done n hn f (.inr oM)) (λb2=>?_);rw[inc64 oM];exact j _ Q b2 hC
  .have Q:((yC s.why).take n).count true=lvl (yC s.why) n:=by rw[B,N,gj oM];rfl
   refine zb (λb2=>done n hn f (.inr oM)) (λb2=>?_);rw[inc64 oM];exact j _ Q b2 hC
 rintro _ _ _ ⟨rfl,rfl⟩;have ao:=backN_le (yC s.why) L s.put.length;generalize backN (yC s.why) L s.put.length=n at*;have aj:=E4.size;refine yj xu yW λb5 w5 am o ax a4=>?_;have B5:=B4.ext o;have S:=R.ext o;simp(disch:=exact oS) only[push_cast,B5.ld0,S.cut];have ab:=S.taken (n:=n) oM;refine copy_ints a4 ab.ints (by simp;omega) λv6 w6 t D p=>?_;have B6:=B5.same D oM;refine B6.st t.ints.cells1 t.ints.one jg rfl λw7 T az a5=>?_;have B7:Blk w7 b2 [v6,vw,vl,nI s.code] zw:=a5;have ay:=D.size;have E:=t.same T λx c e=>by rcases p x c with d|d<;>omega
 have z:Same (λx=>x=b5\/x=b2) w5 w7:=(D.mono λx _ e=> .inl e).trans (T.mono λx _ e=> .inr e);have M:Ext w w7:=Ext.then (E4.trans o) z λx c=>oM
 refine yj xu yW λb8 w8 an g b0 a6=>?_;have B8:=B7.ext g;have X:=hw.ext (M.trans g);simp(disch:=exact oS) only[push_cast,B8.ld1,X.cut];have ae:=X.taken (n:=n) oM;refine copy_ints a6 ae.ints (by simp;omega) λv9 w9 v r q=>?_;have B9:=B8.same r oM;have V:=(E.ext g).same r λx c e=>by have:=E.lt c;omega
 refine B9.st v.ints.cells1 v.ints.one jg rfl λw10 l ah G=>?_;have a0:Blk w10 b2 [v6,v9,vl,nI s.code] zw:=G;have b1:=r.size;have U:=V.same l λx c e=>by rcases p x c with d|d<;>omega
 have W:=v.same l λx c e=>by rcases q x c with d|d<;>omega
 have hS:Same (λx=>x=b8\/x=b2) w8 w10:=(r.mono λx _ e=> .inl e).trans (l.mono λx _ e=> .inr e);have I:Ext w w10:=Ext.then (M.trans g) hS λx c=>oM
 have a1:Blk w10 b4 [oN,oN,oN,nI 0] zw:=((((R4.ext o).same z oM).ext g).same hS oM);rw[a0.ldAgg zP];refine a1.stAgg (cs':=[v6,v9,vl,nI s.code]) rfl zP (λx c=>?_) λaf m ai H=>?_
 .simp only[gg,gx,Ge] at c;rcases c with rfl|rfl|rfl|rfl
  .exact t.ints.one
  .exact v.ints.one
  .exact ac
  .rfl
 rw[H.lv zP];refine hK af v6 v9 (Ext.then I m λx c=>oM) (U.same m λx c e=>?_) (W.same m λx c e=>?_) (λx c=>⟨?_,λe=>?_⟩) (λx c=>?_)
 .rcases p x c with d|d<;>omega
 .rcases q x c with d|d<;>omega
 .rcases p x c with d|d<;>omega
 .have:=E.lt c;rcases q x e with d|d<;>omega
 .rcases q x c with d|d<;>omega
theorem Qt {vl:Value} {xss:List (oI)} (h:Lists F w vl xss):vl.oneCell'=true:=by
 obtain⟨vs,_,a,_⟩:=h;exact a.one
theorem l5Clash_spec {vc v v2:Value} {Z:oA} {k:Nat} (hc:CnfR F w vc c) (hs:SpR Z w v s) (d:Ints F' w v2 (atM c s k)) (A:satOk many c s) (Y:c.many=many) (hk:k<c.list.length+s.learned.length) (ac:kJ s.put (atM c s k))
  (hK:∀w' v',Ext w w'->SpR (λb=>Z b\/w.heap.size<=b) w' v' (kk many c s (atM c s k))->K v' w'):vcall V5 #[vc,v,v2] w K:=by
 refine ze {} Tryz.func174 ?_;have ax:=hc;have bc:=hs.sat;obtain⟨lv,rfl,cx⟩:=hc;obtain⟨vp,vw,vl,rfl,hp,hw,ay,bz,af⟩:=hs;have D:many<=700/\c.list.length<=2500:=by
  have:=A.cnf;unfold cnfOk at this;simp only[gd,X0] at this;omega
 have ch:=A.few;have ag:=A.mks;have cz:=ag.len;have hlen:=A.len;have az:(yC s.why).length<=700:=by rw[kI];omega
 have a8:∀k,k<s.why.length->s.why.getD k 0= -1\/0<=s.why.getD k 0:=λk hk=>(A.why k hk).imp id λh=>h.1;have bounds:∀{an:oI},Fls s.put an->∀x,x∈an->x.natAbs<=many/\placeOf s.put x.natAbs≠0:=λhF x d=>by
  have h1:=ag.2 _ (hF x d);have h2:=placeOf_ne_zero (hF x d);rw[G1] at h2;exact⟨oM,h2⟩
 have cc:=clauseOk_len (m:=many) (by have:=A.atOk hk;rwa[Y] at this);obtain⟨z1,z2,z3,z4⟩:=Uq A Y hk ac;refine yp λb3 w1 ct c0 d0 br=>?_;refine yp λb4 w2 cu b0 d1 bs=>?_;refine qo qZ λb6 w3 cv ad d2 bt=>?_;have A3:Blk w3 b3 [nI c.many,lv] zp:=(br.ext b0).ext ad;have B3:Blk w3 b4 [vp,vw,vl,nI s.code] zw:=bs.ext ad;have R3:Blk w3 b6 [oN,oN,oN,nI 0] zw:=bt;have E3:=c0.trans (b0.trans ad);rw[A3.ldAgg zD,B3.ldAgg zP];refine l5Levels_spec (ax.ext E3) (bc.ext E3) Y D.1 ag hlen a8 λw4 vlev O z ah=>?_;have E4:=E3.trans O;refine l5Top_spec z.ints D.1 az (d.ext E4) (bounds (XW ac)) ?_;have A4:=A3.ext O;have B4:=B3.ext O;have R4:=R3.ext O;have d3:=O.size;have ones:∀{U V bf:Value} {cd:Int},U.oneCell'=true->V.oneCell'=true->bf.oneCell'=true->∀x,x∈[U,V,bf,nI cd]->x.oneCell'=true:=λh1 h2 h3 x d=>by
  simp only[gg,gx,Ge] at d;rcases d with rfl|rfl|rfl|rfl
  .exact h1
  .exact h2
  .exact h3
  .rfl
 have code:∀(cd:Int),kk many c s (atM c s k)={s with code:=cd}->zT zV (oP b4 3) (nI cd) w4 λ_ bi=>zu zw (oP b4 0) bi λt22 bj=>zT zw (oP b6 0) t22 bj λ_ bk=>vlv zw (oP b6 0) bk λr6 bl=>K r6 bl:=λcd X=>by
  refine B4.st rfl rfl yW rfl λw5 bd c9 bu=>?_;have B5:Blk w5 b4 [vp,vw,vl,nI cd] zw:=bu;rw[B5.ldAgg zP];refine(R4.same bd oM).stAgg (cs':=[vp,vw,vl,nI cd]) rfl zP (ones hp.ints.one hw.ints.one (Qt af)) λw6 c4 d4 bv=>?_;rw[bv.lv zP];have W:Ext w w6:=Ext.then E4 ((bd.mono λx _ e=>(.inl e:x=b4\/x=b6)).trans (c4.mono λx _ e=> .inr e)) λx d=>oM;refine hK w6 _ W ?_;rw[X];exact⟨vp,vw,vl,rfl,hp.ext W,hw.ext W,λb hb=>⟨.inl (ay b hb).1,(ay b hb).2⟩,λb hb=> .inl (bz b hb),(af.ext W).weaken λb hb _=>⟨.inl hb.1,hb.2⟩⟩
 refine oZ ?_;refine zb (λa=>?_) (λa=>?_)
 .exact code 2 (by unfold kk;rw[y3 oM])
 obtain⟨es,c1,b5,b1⟩:=af;have b8:=b5.ext E4;simp only[push_cast,B4.ld2,b8.len];refine zb (λa2=>?_) (λa2=>?_)
 .exact code 3 (by unfold kk;rw[y0 oM,y3 oM])
 clear code;have X:kk many c s (atM c s k)={s with put:=s.put.take (backN (yC s.why) (Y6 s.put (yC s.why) (learnM many c s s.put.length (atM c s k))) s.put.length),why:=s.why.take (backN (yC s.why) (Y6 s.put (yC s.why) (learnM many c s s.put.length (atM c s k))) s.put.length),learned:=s.learned++[learnM many c s s.put.length (atM c s k)]}:=by
  unfold kk;rw[y0 oM,y0 oM]
 rw[X] at hK;clear X;refine zd λw5 J _=>?_;have A5:=A4.ext J;have B5:=B4.ext J;simp only[push_cast,A5.ldAgg zD,B5.ldAgg zP,y1];refine yj xu yW λb7 w7 cw L d5 bw=>?_;have E7:=E4.trans (J.trans L);have A7:=A5.ext L;have B7:=B5.ext L;simp only[push_cast,A7.ldAgg zD,B7.ldAgg zP,y1,V1];have c9:=J.size;have cq:=L.size;refine copy_ints bw (d.ext E7) oM λv8 w8 c5 M c2=>?_;have A8:=A7.same M oM;have B8:=B7.same M oM;have ab:Ext w w8:=Ext.then E7 M λx d=>by have:=E4.size;omega
 simp only[push_cast,A8.ldAgg zD,B8.ldAgg zP,y1,V1];have d6:=M.size;have R:=((z.ext J).ext L).same M λx d e=>by have:=z.lt d;omega
 refine l5Learn_spec (ax.ext ab) (bc.ext ab) R.ints c5 A Y hk ac λw9 v9 Q ai c3=>?_;have E9:=ab.trans Q;have d7:=Q.size;have S:∀x,v9.ownBlock=some x->w4.heap.size<=x:=λx d=>by
  rcases c3 x d with e|e
  .rcases c2 x e with e|e<;>omega
  .omega
 generalize cy:learnM many c s s.put.length (atM c s k)=lc at*;refine yj Q9 jg λa9 w10 ce n ci ao=>?_;have ak:=(B8.ext Q).ext n;have am:=E9.trans n;have ae:=b5.ext am;simp only[push_cast,ak.ld2];have bq:OwnV zI w10 (.slice (some ⟨a9,0,none⟩) 0 0) []:=Blk.own1 (t:=zI) (cs:=[]) (by rw[UY];exact ao) (gF _) rfl rfl oM;have b2:∀u,u∈es->u.oneCell'=true:=λu hu=>by
  obtain⟨i,hi,rfl⟩:=gn hu;have:=(b1 i oM).one;simpa[y2,hi] using this
 refine bq.app (us:=es) Y0 ae b2 (by simp;omega) (by simp;omega) λv11 bg a6 a5 ba=>?_;have f:∀x,v11.ownBlock=some x->w9.heap.size<=x:=λx d=>by
  rcases ba x d with e|e
  .have e:a9=x:=K3 e;omega
  .omega
 have r:Same (· =a9) w10 bg:=a5.mono λx _ e=>(K3 e).symm;have bm:=ak.same r oM;have c6:=n.size;have cj:=a5.size;have T:=(ai.ext n).same r λx d e=>by have:=ai.lt d;omega
 have au:Ext w bg:=Ext.then am r λx d=>by have:=E9.size;omega
 refine zC Q9 jg Wp rfl T.ints.cells1 λcr d8 cf g ck ap=>?_;rw[Gg] at a6;refine OwnV.app1 (a6.ext g) Y0 ap T.ints.one oM oM λa1 ca C o bb=>?_;have E:∀x,a1.ownBlock=some x->w9.heap.size<=x:=λx d=>by
  rcases bb x d with e|e
  .exact f x e
  .have:=g.size;omega
 have c7:=g.size;have cl:=o.size;have bn:=(bm.ext g).same o λe=>by have:=f _ e;have:=B8.lt;omega
 have av:Ext w ca:=Ext.then (au.trans g) o λx d=>by have:=f x d;have:=E9.size;omega
 have be:=(T.ext g).same o λx d e=>by have:=f x e;have:=ai.lt d;omega
 refine bn.st C.vals.cells1 C.vals.one Q6 rfl λaj p cm aq=>?_;have bo:Blk aj b4 [vp,vw,a1,nI s.code] zw:=aq;have aw:Ext w aj:=Ext.then av p λx d=>oM
 have G:=C.same p λx d e=>by have:=E x d;have:=B8.lt;omega
 have H:=be.same p λx d e=>by have:=S x d;have:=B4.lt;omega
 have a0:OwnI zh aj vlev (levs many s.put (yC s.why)):=((((R.ext Q).ext n).same r λx d e=>by have:=z.lt d;omega).ext g|>.same o λx d e=>by have:=f x e;have:=z.lt d;omega).same p λx d e=>by have:=ah x d;have:=B3.lt;omega
 refine zd λd9 j _=>?_;have al:=bo.ext j;simp only[push_cast,al.ldAgg zP,y1];have l:=aw.trans j;have c8:=p.size;have cn:=j.size;rw[<-z3];refine l5Below_spec (a0.ext j).ints D.1 (H.ext j).ints (bounds z1) ?_;simp only[push_cast,al.ldAgg zP,y1,V1];have bx:Y6 s.put (yC s.why) lc<=700:=by
  unfold Y6;rcases jd (xs:=(lc.filter λk=>decide (lvM s.put (yC s.why) k<Z4 s.put (yC s.why) lc)).map (lvM s.put (yC s.why))) with e|e
  .omega
  .obtain⟨q,_,e⟩:=gr.1 e;rw[<-e];exact gH (lvl_le _ _) az
 refine l5Back_spec (s:={s with code:=s.code}) (hp.ext l) (hw.ext l) C.vals.one hlen oM bx a8 λcb U V y a4 a7 I N=>?_;have bp:Blk cb b6 [oN,oN,oN,nI 0] zw:=by
  have h6:=R3.lt;exact(((((((((R4.ext J).ext L).same M oM).ext Q).ext n).same r oM).ext g).same o λe=>by have:=f _ e;omega).same p oM|>.ext j).ext y
 refine bp.stAgg (cs':=[U,V,a1,nI s.code]) rfl zP (ones a4.ints.one a7.ints.one C.vals.one) λbh B cp ar=>?_;rw[ar.lv zP];have a3:Ext w bh:=Ext.then (l.trans y) B λx d=>oM
 have cg:=R3.lt;have co:=y.size;refine hK bh _ a3 ⟨U,V,a1,rfl,a4.same B λx d e=>by have:=(I x d).1;omega,a7.same B λx d e=>by have:=N x d;omega,λx d=>⟨.inr (by have:=(I x d).1;have:=l.size;omega),(I x d).2⟩,λx d=> .inr (by have:=N x d;have:=l.size;omega),es++[v9],by simp[c1],?_,λi hi=>?_⟩
 .have aa:=((G.ext j).ext y).same B λx d e=>by have:=E x d;omega
  refine aa.vals.weaken λx d _=>⟨.inr (by have:=E x d;have:=E9.size;omega),λe=>?_,λe=>?_⟩
  .have:=(I x e).1;have:=G.lt d;omega
  .have:=N x e;have:=G.lt d;omega
 .simp only[q0,Gd] at hi;by_cases b9:i<s.learned.length
  .rw[getD_app_l oM,getD_app_l b9];refine(((b1 i b9).weaken (F':=λx=>(Z x/\vp.ownBlock≠some x/\vw.ownBlock≠some x)/\x<w.heap.size) λx h1 h2=>⟨h1,h2⟩).ext a3).weaken λx d _=>⟨.inl d.1.1,λe=>?_,λe=>?_⟩
   .have:=(I x e).1;have:=l.size;omega
   .have:=N x e;have:=l.size;omega
  .have e1:i=s.learned.length:=oM;have e2:i=es.length:=oM;have g1:(es++[v9]).getD i undef=v9:=by rw[e2];simp
   have g2:(s.learned++[lc]).getD i []=lc:=by rw[e1];simp
   rw[g1,g2];have aa:=((H.ext j).ext y).same B λx d e=>by have:=S x d;omega
   refine aa.ints.weaken λx d _=>⟨.inr (by have:=S x d;have:=E4.size;omega),λe=>?_,λe=>?_⟩
   .have:=(I x e).1;have:=H.lt d;omega
   .have:=N x e;have:=H.lt d;omega
end
section
variable {w:World} {K:oK} {F F':oA} {many:Nat} {c:Cnf} {s:Sat}
theorem l5Do_spec {vc v:Value} {Z:oA} (hc:CnfR F w vc c) (hs:SpR Z w v s) (B:satOk many c s) (a3:c.many=many)
  (hK:∀w' v',Same Z w w'->SpR (λb=>Z b\/w.heap.size<=b) w' v' (goM many c s)->K v' w'):vcall yX0 #[vc,v] w K:=by
 refine ze {loops:=[(13,[9])]} Tryz.func117 ?_;have S:=hc;have bj:=hs.sat;have bk:=hs;obtain⟨lv,rfl,ad⟩:=hc;obtain⟨vp,vw,vl,rfl,hp,hw,p,a4,J⟩:=hs;have L:many<=700/\c.list.length<=2500:=by
  have:=B.cnf;unfold cnfOk at this;simp only[gd,X0] at this;omega
 have bu:=B.few;have M:=B.mks;have c9:=M.len;have hlen:=B.len;have ac:∀cl,cl∈c.list++s.learned->∀l,l∈cl->l≠0/\l.natAbs<=many:=λcl ad l hl=>satOk.bnd B a3 ad hl;refine yp λb2 w1 c2 bf cb ba=>?_;refine yp λb3 w2 c3 ae cc bb=>?_;refine qo qZ λb4 w3 c4 a5 ce bc=>?_;have A3:Blk w3 b2 [nI c.many,lv] zp:=(ba.ext ae).ext a5;have B3:Blk w3 b3 [vp,vw,vl,nI s.code] zw:=bb.ext a5;have R3:Blk w3 b4 [oN,oN,oN,nI 0] zw:=bc;have E3:=bf.trans (ae.trans a5);rw[A3.ldAgg zD];simp only[push_cast,B3.ld0];refine l5Vals_spec (S.ext E3) a3 L.1 (hp.ext E3).ints M λw4 v4 G ak c7=>?_;have E4:=E3.trans G;have A4:=A3.ext G;have B4:=B3.ext G;simp only[push_cast,A4.ldAgg zD,B4.ld2];refine l5Find_spec (S.ext E4) (J.ext E4) ak.ints M L.1 oM ac λw5 k u x H hf=>?_;have E5:=E4.trans H;have A5:=A4.ext H;have X:=B4.ext H;have R5:=(R3.ext G).ext H;have bm:=ak.ext H;have l3:=X.lt;have l4:=R5.lt;have cg:=E5.size;have cf:=G.size;refine oZ ?_;have ones:∀{q E ao:Value} {cd:Int},q.oneCell'=true->E.oneCell'=true->ao.oneCell'=true->∀x,x∈[q,E,ao,nI cd]->x.oneCell'=true:=λh1 h2 h3 x a=>by
  simp only[gg,gx,Ge] at a;rcases a with rfl|rfl|rfl|rfl
  .exact h1
  .exact h2
  .exact h3
  .rfl
 have n:goM many c s=(if 0<=k then kk many c s (atM c s k.toNat) else if 0<=u then{s with put:=s.put++[x],why:=s.why++[u]}
  else if s.put.length=many then{s with code:=1} else{s with put:=s.put++[-(Zw many s.put:Int)],why:=s.why++[-1]}):=by
  unfold goM;rw[hf]
 have push:∀(W:World) (l y:Int),Ext w W->Blk W b3 [vp,vw,vl,nI s.code] zw->Blk W b4 [oN,oN,oN,nI 0] zw->w5.heap.size<=W.heap.size->goM many c s={s with put:=s.put++[l],why:=s.why++[y]}->
   vbuildS zh 1 [(0,nI l)] W λt39 aq=>vbi .append [zh,zh] zh [vp,t39] aq λt40 ar=>zT zh (oP b3 0) t40 ar λ_ au=>zu zh (oP b3 1) au λt43 av=>
   vbuildS zh 1 [(0,nI y)] av λt45 aw=>vbi .append [zh,zh] zh [t43,t45] aw λt46 ax=>zT zh (oP b3 1) t46 ax λ_ ay=>zu zw (oP b3 0) ay λt48 az=>
   zT zw (oP b4 0) t48 az λ_ b0=>vlv zw (oP b4 0) b0 λan b1=>K an b1:=by
  intro W l y E6 B6 R6 bq ag;have ci:=E6.size;refine zC xu yW xK rfl rfl λb7 w7 c5 j br a1=>?_;have r:=E6.trans j;refine(hp.ext r).app1 xH a1 oM oM λq w8 U V A=>?_;have nb:∀x,vp.ownBlock=some x->x<w.heap.size:=λx a=>hp.lt a;have nw:∀x,vw.ownBlock=some x->x<w.heap.size:=λx a=>hw.lt a;have B8:=(B6.ext j).same V λe=>by have:=nb _ e;omega
  refine B8.st U.ints.cells1 U.ints.one jg rfl λw9 D bs a2=>?_;have B9:Blk w9 b3 [q,vw,vl,nI s.code] zw:=a2;have bh:=U.same D λx a e=>by rcases A x a with d|d;(have:=nb _ d;omega);omega
  have bo:=((hw.ext r).same V λx a e=>(p x e).2 a).same D λx a e=>by have:=nw _ a;omega
  simp only[push_cast,B9.ld1];have ch:=V.size;refine zC xu yW xK rfl rfl λc1 w10 bt t bw a8=>?_;refine(bo.ext t).app1 xH a8 oM oM λE cj Q z g=>?_;have b5:=(B9.ext t).same z λe=>by have:=nw _ e;omega
  have ah:=(bh.ext t).same z λx a e=>by
   rcases A x a with d|d
   .exact(p x d).2 e
   .have:=nw _ e;omega
  refine b5.st Q.ints.cells1 Q.ints.one jg rfl λap N bz a9=>?_;have b8:Blk ap b3 [q,E,vl,nI s.code] zw:=a9;have hS:Same (λx=>vp.ownBlock=some x\/vw.ownBlock=some x\/x=b3) w7 ap:=(V.mono λx _ e=> .inl e).trans ((D.mono λx _ e=> .inr (.inr e)).trans ((Same.of_ext t).trans ((z.mono λx _ e=> .inr (.inl e)).trans (N.mono λx _ e=> .inr (.inr e)))));have b9:=(R6.ext j).same hS (by rintro(e|e|e);exact absurd (nb _ e) oM;exact absurd (nw _ e) oM;omega);have Y:=ah.same N λx a e=>by rcases A x a with d|d;(have:=nb _ d;omega);omega
  have bx:=z.size;have a0:=Q.same N λx a e=>by rcases g x a with d|d;(have:=nw _ d;omega);omega
  rw[b8.ldAgg zP];refine b9.stAgg (cs':=[q,E,vl,nI s.code]) rfl zP (ones Y.ints.one a0.ints.one (Qt J)) λa7 O c0 aa=>?_;rw[aa.lv zP];have o:Same (λx=>vp.ownBlock=some x\/vw.ownBlock=some x\/x=b3\/x=b4) w7 a7:=(hS.mono λx _ e=>e.imp id λe=>e.imp id .inl).trans (O.mono λx _ e=> .inr (.inr (.inr e)));have ab:Same (λb=>vp.ownBlock=some b\/vw.ownBlock=some b) w a7:=by
   refine⟨o.os.trans r.os,o.tape.trans r.tape,o.output.trans r.output,gH r.size o.size,λb f hn=>?_⟩;rw[o.block b (by have:=r.size;omega) (by rintro(e|e|e|e);exact hn (.inl e);exact hn (.inr e);omega;omega),r.block b f id]
  have bp:=hS.size;refine hK a7 _ (ab.mono λb _ e=>e.elim (λe=>(p b e).1) (a4 b)) ?_;rw[ag];refine⟨q,E,vl,rfl,Y.same O λx a e=>by rcases A x a with d|d;(have:=nb _ d;omega);omega,a0.same O λx a e=>by rcases g x a with d|d;(have:=nw _ d;omega);omega,λx a=>?_,λx a=>?_,?_⟩
  .rcases A x a with e|e
   .refine⟨.inl (p x e).1,λe2=>?_⟩;rcases g x e2 with e3|e3
    .exact(p x e).2 e3
    .have:=nb _ e;omega
   .refine⟨.inr oM,λe2=>?_⟩;rcases g x e2 with e3|e3
    .have:=nw _ e3;omega
    .have:=U.lt a;omega
  .rcases g x a with e|e
   .exact .inl (a4 x e)
   .exact .inr oM
  .refine(((J.weaken (F':=λb=>(Z b/\vp.ownBlock≠some b/\vw.ownBlock≠some b)/\b<w.heap.size) λb h1 h2=>⟨h1,h2⟩).same ab λb f _ e=>e.elim f.1.2.1 f.1.2.2).weaken λx a _=>⟨.inl a.1.1,λe=>?_,λe=>?_⟩)
   .rcases A x e with d|d
    .exact a.1.2.1 d
    .have:=a.2;omega
   .rcases g x e with d|d
    .exact a.1.2.2 d
    .have:=a.2;omega
 rcases find_cases s.put (c.list++s.learned) with⟨i,u',x',hi,e,be⟩|⟨hn,⟨i,x',hi,e,hu,-⟩|⟨e,-⟩⟩
 .rw[hf,Gm,Gm] at e;obtain⟨rfl,rfl,rfl⟩:=e;rw[q0] at hi;rw[y3 oM,gl] at n;refine zb (λ_=>?_) (λb=>absurd oM b);refine zd λW I _=>?_;have E6:=E5.trans I;have A6:=A5.ext I;have B6:=X.ext I;simp only[push_cast,A6.ldAgg zD,B6.ldAgg zP,y1];refine l5At_spec (S.ext E6) (bj.ext E6) hi oM λw7 v7 j bn=>?_;have r:=E6.trans j;have A7:=A6.ext j;have B7:=B6.ext j;simp only[push_cast,A7.ldAgg zD,B7.ldAgg zP,y1,V1];refine l5Clash_spec (S.ext r) (bk.below.ext r) bn B a3 hi be λw8 v8 af a6=>?_;have R8:=((R5.ext I).ext j).ext af;have E8:=r.trans af;rw[<-n] at a6;obtain⟨p8,y8,l8,rfl,h8⟩:=a6.sat.fields;refine R8.stAgg (cs':=[p8,y8,l8,nI (goM many c s).code]) rfl zP h8 λw9 D bs a2=>?_;rw[a2.lv zP];refine hK w9 _ (Same.of_ext (Ext.then E8 D λx a=>oM)) ((a6.same D λb f _ e=>?_).weaken λb f _=>?_)
  .have:=r.size;have:=R5.lt;have:=I.size;have:=j.size;rcases f with f|f
   .have:=f.2;omega
   .omega
  .rcases f with f|f
   .exact .inl f.1
   .exact .inr (by have:=r.size;omega)
 .rw[hf,Gm,Gm] at e;obtain⟨rfl,rfl,rfl⟩:=e;rw[y0 oM,y3 oM] at n;refine zb (λb=>absurd b oM) (λ_=>zb (λ_=>?_) (λb=>absurd oM b));simp only[push_cast,X.ld0];exact push w5 _ _ E5 X R5 (gp _) n
 .rw[hf,Gm,Gm] at e;obtain⟨rfl,rfl,rfl⟩:=e;rw[y0 oM,y0 oM] at n;refine zb (λb=>absurd b oM) (λ_=>zb (λb=>absurd b oM) (λ_=>?_));have bi:=(hp.ext E5).ints;simp only[push_cast,X.ld0,A5.ld0,bi.len];refine zb (λb=>?_) (λb=>?_)
  .rw[y3 oM] at n;refine X.st rfl rfl yW rfl λW ai bq bd=>?_;have B6:Blk W b3 [vp,vw,vl,nI 1] zw:=bd;rw[B6.ldAgg zP];refine(R5.same ai oM).stAgg (cs':=[vp,vw,vl,nI 1]) rfl zP (ones hp.ints.one hw.ints.one (Qt J)) λw7 bl br a1=>?_;rw[a1.lv zP];have R:Ext w w7:=Ext.then E5 ((ai.mono λx _ e=>(.inl e:x=b3\/x=b4)).trans (bl.mono λx _ e=> .inr e)) λx a=>oM;refine hK w7 _ (Same.of_ext R) ?_;rw[n];exact⟨vp,vw,vl,rfl,hp.ext R,hw.ext R,λb f=>⟨.inl (p b f).1,(p b f).2⟩,λb f=> .inl (a4 b f),(J.ext R).weaken λb f _=>⟨.inl f.1,f.2⟩⟩
  .rw[y0 oM] at n;obtain⟨f1,f2,f3,f4⟩:=free_spec M oM;have al:=bm.ints;have ca:=signs_len many s.put;refine vloop_up (Zw many s.put-1) (λi u w'=>u=[nI (i+1:Nat)]/\w'=w5) ⟨rfl,rfl⟩ ?_;rintro i _ _ w5 C hi ⟨rfl,rfl⟩ hC;have aj:=sgn_pos M (m:=((i+1:Nat):Int)) oM;rw[pG] at aj;simp(disch:=exact oS) only[sl0,al.iaddr,gl,al.load];rw[signs_get oM,aj];have am:Y30 s.put ((i+1:Nat):Int)=0↔placeOf s.put (i+1)=0:=by
    unfold Y30;rw[pG];by_cases hm:((i+1:Nat):Int)∈s.put
    .rw[y3 hm];have:=placeOf_ne_zero hm;rw[pG] at this;exact⟨λh=>oM,λh=>absurd h this⟩
    .rw[y0 hm];by_cases T:placeOf s.put (i+1)=0
     .rw[y3 T];simp[T]
     .rw[y0 T];simp[T]
   simp only[xj0];refine zb (λb6=>?_) (λb6=>?_)
   .have bg:i<Zw many s.put-1:=by
     refine GK λc6=>b6 (am.2 ?_);have:i+1=Zw many s.put:=oM;rw[this];exact f3
    simp only[Xr];rw[inc64 oM];exact hC bg _ _ ⟨rfl,rfl⟩
   .have bv:i+1=Zw many s.put:=by
     refine GK λc8=>f4 (i+1) oM oM (am.1 (by simpa using b6))
    have e1:IntKind.i64.wrap (0-((i+1:Nat):Int))= -(Zw many s.put:Int):=by rw[zk oM oM];omega
    simp(disch:=(simp only[push_cast])) only[UU,UT,yx,gX,X.ld0,Yr0,e1];exact push w5 _ _ E5 X R5 (gp _) n
theorem l5Run_spec {vc:Value} {n:Nat} (hc:CnfR F w vc c) (Z:cnfOk c=true) (D:c.many=many) (hn:n<=4000)
  (hK:∀w' v',Ext w w'->SpR (λb=>w.heap.size<=b) w' v' (runM many c n emptyS)->K v' w'):vcall zN0 #[vc,nI n] w K:=by
 refine ze {loops:=[(3,[6])]} Tryz.func79 ?_;have Y:=hc.below;obtain⟨lv,rfl,a4⟩:=hc;refine yp λb2 w1 a1 h a5 T=>?_;refine qo qZ λb4 w2 a2 E a6 U=>?_;refine Q8 ql0 (us:=[]) rfl rfl ?_;refine qo qZ λM w3 a3 o a7 V=>?_;have B3:Blk w3 M [oN,oN,oN,nI 0] zw:=V;have A3:Blk w3 b2 [nI c.many,lv] zp:=(T.ext E).ext o;have R3:Blk w3 b4 [oN,oN,oN,nI 0] zw:=U.ext o;refine B3.stAgg (cs':=[oN,oN,oN,nI 0]) rfl zP (λx z=>by simp only[gg,gx,Ge] at z;rcases z with rfl|rfl|rfl|rfl<;>rfl) λH q a8 B=>?_;have E4:Ext w H:=Ext.then (h.trans (E.trans o)) q λx z=>by have:=h.size;omega
 have A4:=A3.same q oM;have R:=R3.same q oM;have aa:=E4.size;have fin:∀(f:World) (p y l:Value),Ext w f->H.heap.size<=f.heap.size->Blk f b4 [oN,oN,oN,nI 0] zw->Blk f M [p,y,l,nI (runM many c n emptyS).code] zw->SpR (λb=>H.heap.size<=b) f (.agg #[p,y,l,nI (runM many c n emptyS).code]) (runM many c n emptyS)->
   zu zw (oP M 0) f λt21 I=>zT zw (oP b4 0) t21 I λ_ J=>vlv zw (oP b4 0) J λr4 L=>K r4 L:=by
  intro f p y l v t A k m;rw[k.ldAgg zP];obtain⟨O,Q,N,e,S⟩:=m.sat.fields;obtain⟨rfl,rfl,rfl⟩:p=O/\y=Q/\l=N:=(by simpa using e);refine A.stAgg (cs':=[p,y,l,nI (runM many c n emptyS).code]) rfl zP S λw6 d a0 W=>?_;rw[W.lv zP];exact hK w6 _ (Ext.then v d λx z=>by have:=h.size;omega) ((m.same d λb g _ e=>by have:=R.lt;omega).weaken λb g _=>oM)
 refine vloop_up n (λi u w'=> ∃p y l,u=[nI i]/\Ext w w'/\H.heap.size<=w'.heap.size/\Blk w' b2 [nI c.many,lv] zp/\Blk w' b4 [oN,oN,oN,nI 0] zw/\Blk w' M [p,y,l,nI (runM many c i emptyS).code] zw/\SpR (λb=>H.heap.size<=b) w' (.agg #[p,y,l,nI (runM many c i emptyS).code]) (runM many c i emptyS))
  ⟨_,_,_,rfl,E4,gp _,A4,R,B,SpR.empty⟩ ?_
 rintro i _ _ f C hi ⟨p,y,l,rfl,v,t,A5,A,k,m⟩ hC;refine oZ ?_;refine zb (λa=>?_) (λa=>?_)
 .simp only[push_cast,k.ld3];refine zb (λb=>?_) (λb=>?_)
  .rw[A5.ldAgg zD,k.ldAgg zP];have G:=run_ok (n:=i) D (empty_ok (many:=many) Z);refine l5Do_spec (Y.ext v) m G D λw6 v6 d s=>?_;have r:goM many c (runM many c i emptyS)=runM many c (i+1) emptyS:=by rw[run_succ];unfold stepM;rw[y3 b]
   rw[r] at s;have l2:=A4.lt;have l4:=R.lt;have l5:=B.lt;have a0:=d.size;have A6:=A5.same d oM;have R6:=A.same d oM;have B6:=k.same d oM;obtain⟨O,Q,N,rfl,S⟩:=s.sat.fields;refine B6.stAgg (cs':=[O,Q,N,nI (runM many c (i+1) emptyS).code]) rfl zP S λw7 j a9 X=>?_;rw[inc64 oM];have E6:Ext w w6:=Ext.then v d λx z=>oM;refine hC oM _ _ ⟨O,Q,N,rfl,Ext.then E6 j λx z=>by have:=h.size;omega,oM,A6.same j oM,R6.same j oM,X,(s.same j λb g _ e=>?_).weaken λb g _=>?_⟩
   .rcases g with g|g<;>omega
   .rcases g with g|g<;>omega
  .have e:runM many c n emptyS=runM many c i emptyS:=by
    rw[show n=i+(n-i) from by omega,run_add,run_stop b]
   rw[<-e] at k m;exact fin f p y l v t A k m
 .have:n=i:=oM;subst this;exact fin f p y l v t A k m
end
end Go.Proofs.YtfnpmncplaibiaaGreatDoor
namespace Go.Proofs.YtfnpmncplaibiaaGreatDoor
open Go Go.Vc Go.Proofs
section
variable {w:World} {K:oK} {F F' D G:oA} {dv tv iv lv:Value} {ds:List M.Dcl} {ts:List M.Tm} {ins:List Bool} {c:M.Cnf}
theorem l9Folds_spec (E:DclsR F w dv ds) (J:TmsR G w tv ts) (s:M.declOk ds=true) (m:∀t,t∈ts->M.sortM ds t≠ -1) (hs:ts.length<=2000000)
  (B:∀w' lv,Ext w w'->TmsR (λ_=>True) w' lv (ts.map (M.foldT ds))->K lv w'):vcall KX #[dv,tv] w K:=by
 refine ze {loops:=[(3,[5,6])]} Tryz.func42 ?_;refine vbuildS_row (xs:=[]) (us:=[]) (k:=5) qf qz zq rfl (by simp) dC λb1 w1 D p L o=>?_;have z:LstH (λ_=>False) w1 (.slice (some ⟨b1,0,none⟩) 0 0) []:=⟨[],Blk.ownk (css:=[]) (by rw[jP];exact o) (by simp) rfl dC,rfl,λi hi=>absurd hi (pI _)⟩;refine vloop_up ts.length (λi u w'=> ∃lv H,u=[lv,nI i]/\Ext w w'/\LstH H w' lv ((ts.take i).map (M.foldT ds))/\∀x,lv.ownBlock=some x->w.heap.size<=x/\¬H x)
  ⟨_,_,rfl,p,z,λx c=>⟨by have e:b1=x:=K3 c;omega,id⟩⟩ ?_
 rintro i _ _ w2 C hi ⟨lv,H,rfl,d,g,hO⟩ A;have l:=(J.weaken (F':=λx=>G x/\x<w.heap.size) λx a b=>⟨a,b⟩).ext d;simp only[push_cast,l.len];refine zb (λa=>?_) (λa=>?_)
 .have f:i<ts.length:=oM;simp(disch:=exact oS) only[push_cast,l.iaddr];refine l.load zc f λx c=>?_;refine l3Fold_spec _ (E.ext d) s c (m _ (M.getD_mem f _)) λN rv j I=>?_;have z2:=d.size;have z3:=j.size;have llt:∀x,lv.ownBlock=some x->x<w2.heap.size:=λx c=>g.lt c;refine LstH.push (g.ext j) (λx c=>⟨(hO x c).2,λe=>?_⟩) I (by rw[y4,gh];omega) λO y v r n=>?_
  .have:=llt x c;have:=(hO x c).1;rcases e with e|e<;>omega
  try simp only[push_cast]
  rw[inc64' oM];rw[show(ts.take i).map (M.foldT ds)++[M.foldT ds (ts.getD i default)]=(ts.take (i+1)).map (M.foldT ds) by rw[<-Jz f,gz];rfl] at n;refine A f _ _ ⟨y,_,rfl,Ext.then (d.trans j) v λx c=>(hO x c).1,n,λx c=>?_⟩;rcases r x c with e|e
  .refine⟨(hO x e).1,λh=>?_⟩;have:=llt x e;have:=(hO x e).1;rcases h.1 with h|h
   .exact(hO x e).2 h
   .rcases h with h|h<;>omega
  .exact⟨oM,λh=>by have:=h.2;omega⟩
 .have q:i=ts.length:=oM;subst q;rw[gy] at g;exact B w2 lv d (g.tms.weaken λ_ _ _=>trivial)
theorem spec_BlastEnv_spec (T:kq ds) (H:DclsR F w dv ds) (hi:Bools F' w iv ins) (d:M.declOk ds=true) (hl:ins.length=M.nIn ds)
  (Y:∀w' r,Ext w w'->OwnI zh w' r (M.envB ds ins)->(∀b,r.ownBlock=some b->w.heap.size<=b)->K r w'):vcall JW #[dv,iv] w K:=by
 refine ze {loops:=[(6,[5,6,7]),(10,[6,8,9])],cuts:=[(12292,[])]} Tryz.func81 ?_;obtain⟨a2,a3⟩:=M.nIn_eq d;refine spec_nil λv1 w1 R g A=>?_;refine zo (λu w'=>u=[]/\Ext w1 w') (λC E=>?_) ?_
 .refine spec_DeclOk_spec (H.ext g) T λw2 f=>?_;rw[d];simp only[push_cast,Gh,((hi.ext g).ext f).len];refine sbits8_spec (k:=ds.length) d (gp _) (by rw[gy];exact(H.ext g).ext f) λW J=>?_;rw[M.bitT_all];refine oZ ?_;refine zb (λh=>absurd oM h) (λ_=>E _ _ ⟨rfl,f.trans J⟩)
 rintro _ _ w2 ⟨rfl,f⟩;have h4:=(M.decl_iff.1 d).1;have I:=M.dpos d;have L:=M.envB_len ds ins;refine vloop_up ds.length (λi u w'=> ∃r,u=[r,nI (J5 ds i),nI i]/\Ext w w'/\OwnI zh w' r ((M.envB ds ins).take i)/\∀b,r.ownBlock=some b->w.heap.size<=b) ⟨v1,rfl,g.trans f,R.ext f,A⟩ ?_;rintro i _ _ W C a0 ⟨r,rfl,s,p,o⟩ E;have n:=H.ext s;have y:=hi.ext s;simp only[push_cast,n.len];refine zb (λa=>?_) (λa=>?_)
 .have l:i<ds.length:=oM;have U:=M.dcl_wide d l;have q:=off_succ d l;have X:=off_le d (i:=i+1) oM;have het:=envB_take (ins:=ins) I l;obtain⟨wd,m⟩:∃wd:Nat,(ds.getD i (M.nada,0)).2=wd:=⟨_,(Int.toNat_of_nonneg oM).symm⟩;rw[m] at U q het;rw[gl] at q het;generalize v:(ins.drop (J5 ds i)).take wd=bs at het;have t:bs.length=wd:=by rw[<-v,gh,GU,hl];omega
  refine vloop_up wd (λj u w'=>u=[nI (J5 ds i+j:Nat),nI (M.msbN (bs.take j)),nI j]/\w'=W) ⟨rfl,rfl⟩ ?_;rintro j _ _ _ C1 hj ⟨rfl,rfl⟩ G;have a1:=M.msb_lt (bs.take j);have a4:2^(bs.take j).length<=2^4:=Gi oM (by rw[gh];omega);simp(disch:=exact oS) only[push_cast,n.iaddr,gl,n.load1,m];refine zb (λc=>?_) (λc=>?_)
  .have z:j<wd:=oM;have hg:ins.getD (J5 ds i+j) false=bs.getD j false:=by
    rw[<-v,M.take_getD z,y2,y2,pc]
   simp(disch:=exact oS) only[push_cast,y.iaddr,gl,y.load,zk];refine Xe ?_;have Z:0<=M.b2i (bs.getD j false)/\M.b2i (bs.getD j false)<=1:=by unfold M.b2i;split<;>omega
   have D:=msb_snoc (bs.take j) (bs.getD j false);rw[<-M.take_add (by omega:j<bs.length) false] at D;rw[show((J5 ds i:Int)+(j:Int)).toNat=J5 ds i+j by omega,hg];simp(disch:=exact oS) only[push_cast,zk];refine G z _ _ ⟨?_,rfl⟩;rw[D,Int.mul_comm 2];simp[Int.add_assoc]
  .have O:j=wd:=oM;subst O;rw[<-t,gy,t];refine push_int p (by rw[gh];omega) λw6 r6 S B Q=>?_;rw[<-het,<-M.take_add oM 0] at B;have z3:=s.size;rw[inc64' oM];refine E l _ _ ⟨r6,by rw[q,Int.natCast_add (J5 ds i)],Ext.then s S λx V=>o x V,B,λx V=>?_⟩;rcases Q x V with e|e
   .exact o x e
   .omega
 .have N:i=ds.length:=oM;subst N;rw[<-L,gy] at p;exact Y W r s p o
theorem Yq0 {put:oI} {i n:Nat} (h:i<n):decide (M.sgnV put (2+i)=1)=(M.insV (M.wayM put) n).getD i false:=by
 rw[M.insV_get h];unfold M.sgnV M.wayM;rw[Nat.add_comm 2 i];by_cases c:((i+2:Nat):Int)∈put
 .rw[y3 c,gu c];rfl
 .rw[y0 c,gj c];split<;>rfl
theorem l9Search_spec (aa:kq ds) (hd:DclsR F w dv ds) (I:M.declOk ds=true) (hc:CnfR G w (.agg #[nI c.many,lv]) c) (f:M.cnfOk c=true) (hn:1+M.nIn ds<=c.many.toNat)
  (hK:∀w' ev,Ext w w'->OwnI zh w' ev (M.searchM 4000 ds c).1->(∀x,ev.ownBlock=some x->w.heap.size<=x)->K (.tuple #[ev,nI (M.searchM 4000 ds c).2]) w'):
  vcall JN #[dv,.agg #[nI c.many,lv]] w K:=by
 refine ze {loops:=[(7,[8,9])]} Tryz.func43 ?_;obtain⟨ah,ai⟩:=M.nIn_eq I;obtain⟨many,hm⟩:∃many:Nat,c.many=many:=⟨c.many.toNat,oM⟩;have a4:c.many.toNat=many:=oM
 have B:many<=700:=by
  have:=f;unfold M.cnfOk at this;simp only[gd,X0] at this;omega
 refine yp λb1 w1 ac z al a0=>?_;have A1:Blk w1 b1 [nI c.many,lv] zp:=a0;rw[A1.ldAgg zD];refine l5Run_spec (many:=many) (n:=4000) (hc.ext z) f hm (gp _) λw2 v2 A v=>?_;have z1:=z.size;have z2:=A.size;have T:=(M.run_ok (n:=4000) hm (M.empty_ok (many:=many) f)).mks;refine qo qZ λb4 w3 ad a5 am a1=>?_;have d:M.searchM 4000 ds c=if(M.runM many c 4000 M.emptyS).code=1 then(M.envB ds (M.insV (M.wayM (M.runM many c 4000 M.emptyS).put) (M.nIn ds)),1) else if(M.runM many c 4000 M.emptyS).code=2 then([],2) else([],3):=by rw[<-a4];rfl
 generalize M.searchM 4000 ds c=sr at d hK;generalize M.runM many c 4000 M.emptyS=s at v d T;obtain⟨p,y,l,rfl,h8⟩:=v.sat.fields;obtain⟨p',y',l',e',hp,_,aj,_,_⟩:=v;obtain⟨rfl,rfl,rfl⟩:p=p'/\y=y'/\l=l':=by simpa using e'
 have R3:Blk w3 b4 [oN,oN,oN,nI 0] zw:=a1;refine R3.stAgg (cs':=[p,y,l,nI s.code]) rfl zP h8 λw4 a9 an Q=>?_;have q:Ext w2 w4:=Ext.then a5 a9 λx J=>oM
 have N:=(z.trans A).trans q;have A4:=A1.ext (A.trans q);simp only[push_cast,Q.ld3];refine zb (λa=>?_) (λa=>?_)
 .rw[y3 a] at d;subst d;rw[A4.ldAgg zD];simp only[push_cast,Q.ld0];refine l5Vals_spec (hc.ext N) hm B (hp.ext q).ints T λL v5 g ab o=>?_;have Z:=N.trans g;have z5:=Z.size;refine yj qT0 qD0 λb6 w6 ae a6 ao a3=>?_;have a8:OwnB qB w6 (.slice (some ⟨b6,0,none⟩) 0 0) []:=Blk.own1 (t:=qB) (cs:=[]) (by rw[UX];exact a3) (gF _) rfl rfl oM;refine vloop_up (M.nIn ds) (λi u w'=> ∃r,u=[r,nI i]/\Ext L w'/\OwnB qB w' r ((M.insV (M.wayM s.put) (M.nIn ds)).take i)/\∀b,r.ownBlock=some b->L.heap.size<=b) ⟨_,rfl,a6,a8,λb R=>by have e:b6=b:=K3 R;omega⟩ ?_;rintro i _ _ w7 C hi ⟨r,rfl,e7,E,V⟩ hC;refine sbits8_spec (k:=ds.length) I (gp _) (by rw[gy];exact hd.ext (Z.trans e7)) λw8 m=>?_;rw[M.bitT_all];refine oZ ?_;have O:=e7.trans m;have hlen:=M.insV_len (M.wayM s.put) (M.nIn ds);refine zb (λa=>?_) (λa=>?_)
  .have S:i<M.nIn ds:=oM;have Y:=(ab.ext O).ints;have ak:=M.signs_len many s.put;simp(disch:=exact oS) only[push_cast,zk,Y.iaddr,Y.load];rw[show((2:Int)+(i:Int)).toNat=2+i by omega,M.signs_get oM,Yq0 S];refine one_bool λw9 b9 af j H=>?_;refine OwnV.app (us:=[.bool ((M.insV (M.wayM s.put) (M.nIn ds)).getD i false)]) ((E.ext m).ext j) jr0 H.bools (by simp[Value.oneCell']) (by simp only[y4,Gd,gh];omega) (by simp only[y4,Gd,gh];omega) λv10 w10 W X U=>?_;have z8:=m.size;have z9:=j.size;have z7:=e7.size;refine hC S _ _ ⟨v10,rfl,Ext.then (O.trans j) X λb R=>V b R,?_,λb R=>?_⟩
   .rw[M.take_add oM false];unfold OwnB;rw[gz];exact W
   .rcases U b R with h|h
    .exact V b h
    .omega
  .have ag:i=M.nIn ds:=oM;rw[gC oM] at E;refine spec_BlastEnv_spec aa (hd.ext (Z.trans O)) (E.ext m).bools I hlen λw9 r9 j H a7=>?_;have z8:=O.size;exact hK w9 r9 (Z.trans (O.trans j)) H λx J=>by have:=a7 x J;omega
 .rw[y0 a] at d;have z4:=N.size;refine zb (λa2=>?_) (λa2=>?_)
  .rw[y3 a2] at d;subst d;exact spec_nil λv5 L D g o=>hK L v5 (N.trans g) D λx J=>by have:=o x J;omega
  .rw[y0 a2] at d;subst d;exact spec_nil λv5 L D g o=>hK L v5 (N.trans g) D λx J=>by have:=o x J;omega
theorem l9Solve_spec (u:kq ds) (c:zd0 ds ts=true) (j:DclsR F w dv ds) (v:TmsR G w tv ts)
  (f:∀w' ev,Ext w w'->OwnI zh w' ev (qW ds ts []).1->(∀x,ev.ownBlock=some x->w.heap.size<=x)->K (.tuple #[ev,nI (qW ds ts []).2]) w'):vcall KW #[dv,tv] w K:=by
 refine ze {} Tryz.func65 ?_;obtain⟨L,a2,a3⟩:=all8_iff.1 c;refine l9Folds_spec j v a2 (λt v=>by rw[(JD (a3 t v)).1];decide) oM λw1 lv a o=>?_;refine l8Cnf_spec (Q1 c) (j.ext a) o λw2 cv ls k g=>?_;have B:=a.trans k;refine oZ ?_;refine cnf_new g λN b4 D l d i=>?_;have b:=B.trans l;have z4:=b.size;refine zn (λh=>?_) (λh=>?_)
 .have E:=JB (nots:=[]) c (by simpa using h);refine spec_nil λv5 I r m p=>?_;have:=f I v5 (b.trans m);rw[E] at this;exact this r λx y=>by have:=p x y;omega
 .have C:(cnfE ds (ts.map (M.foldT ds))).2=0:=(by simpa using h);obtain⟨z,A,H⟩:=solveR_run (nots:=[]) c C (λe he=>by cases he) (by simp);rw[xz0] at z A;rw[d.ldAgg zD];refine l9Search_spec u (j.ext b) a2 i.cnf A H λJ ev n s q=>?_;refine oZ ?_;rw[z] at f;exact f J ev (b.trans n) s λx y=>by have:=q x y;omega
theorem qm0 {at_ an am ar ab:Addr} (e:DclsR F w dv ds) (f:TmsR G w tv ts) (hs:ts.length<=2000000) (er:Er w at_ an am ar ab)
  (d:∀w' ev,Ext w w'->OwnI zh w' ev (qW ds ts []).1->(∀x,ev.ownBlock=some x->w.heap.size<=x)->K (.tuple #[ev,nI (qW ds ts []).2]) w'):vcall y80 #[dv,tv] w K:=by
 refine ze {} Tryz.func29 ?_;refine solved_spec e f hs er λg ev a c b=>?_;refine oZ ?_;exact d g ev a c b
end
section
variable {w:World} {K:oK} {F:oA} {v dv tv:Value} {c:List M.Lay}
theorem spec_CtxSolve_spec (o:LaysR F w v c) (g:CtxB c) (f:kq (M.decL c))
  (s:∀w' ev,Ext w w'->OwnI zh w' ev (kJ0 c).1->(∀x,ev.ownBlock=some x->w.heap.size<=x)->K (.tuple #[ev,nI (kJ0 c).2]) w'):vcall JV #[v] w K:=by
 refine ze {} Tryz.func25 ?_;refine spec_CtxOk_spec o g f λw1 b=>?_;refine oZ ?_;have C:=b.size;refine zn (λa=>?_) (λa=>?_)
 .have u: ¬M.ctxOk c=true:=(by simpa using a);refine spec_nil λv5 A n j l=>?_;have:=s A v5 (b.trans j);unfold kJ0 at this;rw[y0 u] at this;exact this n λx p=>by have:=l x p;omega
 .have e:M.ctxOk c=true:=(by simpa using a);refine l10Decls_spec (o.ext b) g λw2 dv h t=>?_;have q:=b.trans h;refine l10Terms_spec (o.ext q) g λB tv d y=>?_;have r:=q.trans d;have z3:=r.size;refine l9Solve_spec f (ZQ0 e) (t.ext d) y λz ev i m k=>?_;refine oZ ?_;have:=s z ev (r.trans i);unfold kJ0 at this;rw[y3 e] at this;exact this m λx p=>by have:=k x p;omega
end
end Go.Proofs.YtfnpmncplaibiaaGreatDoor
section
namespace Go.Proofs.YtfnpmncplaibiaaGreatDoor
open Go Go.Vc Go.Proofs
open Go.ChangeShapes Go.WideShapes Go.ChangeAt Go.RowKit
variable {w:World} {K:oK} {F D G:oA}
theorem list2 {α:Type} {l:List α} (h:l.length=2):∃a b,l=[a,b]:=by
 match l,h with
 |[a,b],_=>exact⟨a,b,rfl⟩
theorem list5 {α:Type} {l:List α} (h:l.length=5):∃a b c d e,l=[a,b,c,d,e]:=by
 match l,h with
 |[a,b,c,d,e],_=>exact⟨a,b,c,d,e,rfl⟩
theorem sl_of {w:World} {x:Addr} {k len cap:Nat} {css:List (List Value)} (n:0<k) (o:len<=cap) (hm:cap<=maxLen) (p:css.length=len) (hw:∀c,c∈css->c.length=k)
  (a:∀i,i<len->∀j,j<k->w.cell? (x.add (i*k+j))=(css.getD i [])[j]?):Sl (λ_=>True) w k (.slice (some x) len cap) css:=by
 subst p;refine⟨⟨some x,cap,rfl,o,by unfold maxLen at hm;exact hm,λf=>?_⟩,hw⟩;have hlen:0<css.length:=GB.2 f;obtain⟨b,off,spot⟩:=x;have q:(css.getD 0 []).length=k:=hw _ (M.getD_mem hlen _);have d:=a 0 hlen 0 n;rw[V0 (by omega:0<(css.getD 0 []).length)] at d;have e:spot=none:=by simpa[Addr.add] using World.cell?_spot d
 subst e;rw[yx] at d;refine⟨b,off,rfl,trivial,World.block_lt_of_cell? w _ d,λi hi j v l=>?_⟩;have g:(css.getD i []).length=k:=hw _ (M.getD_mem hi _);have m:j<k:=by rw[<-g];exact(Gk.1 l).1
 have h:=a i hi j m;rw[yx] at h;rw[yx,<-l,<-h,Pn]
section
variable {H:Type} {enc:TypeId×Value->H} {W:World} {cs:List Value} {x:DataW H×List MemPlace} {held:Bool} {fuel:Nat}
theorem ZD:P.underlying yy=some .string:=rK
theorem Xp0:P.underlying xQ=some (.struct #[⟨"Name",yy,0,false,"","",0⟩,⟨"Wide",zV,1,false,"","",16⟩]):=rK
theorem Xo0:P.underlying yI=some (.struct #[⟨"Op",zV,0,false,"","",0⟩,⟨"A",zV,1,false,"","",8⟩,⟨"B",zV,2,false,"","",16⟩,⟨"Name",yy,3,false,"","",24⟩,⟨"Kids",xg,4,false,"","",40⟩]):=rK
theorem Yl0:P.cellsOf zV=1:=rK
theorem ys0:P.cellsOf yy=1:=rK
theorem XH0:P.cellsOf xg=1:=rK
theorem k40:P.cellsOf xQ=2:=rK
theorem xb0:P.cellsOf yI=5:=rK
def Z7:M.Tm->Bool:=M.Tm.fold λt xs=>decide (t.s.size<=9223372036854775807)&&xs.all id
theorem Z40 (t:M.Tm):Z7 t=(decide (t.s.size<=9223372036854775807)&&(t.ks.map Z7).all id):=M.Tm.fold_eq _ t
theorem Xn0 {t:M.Tm}:Z7 t=true↔t.s.size<=9223372036854775807/\∀k,k∈t.ks->Z7 k=true:=by
 rw[Z40,gd,X0,Gb];refine PW λ_=>⟨λh k a=>h _ (Ga a),λh y b=>?_⟩;obtain⟨k,a,rfl⟩:=gr.1 b;exact h k a
theorem YS0 (h:DataW.trod enc P W 0 (λ_=>true) held fuel xQ cs=some x):∃d:M.Dcl,cs=[.string d.1,nI d.2]/\d.1.size<=9223372036854775807:=by
 obtain⟨xs,n,_,_,g,hlen,f⟩:=DataW.trod_struct Xp0 h;rw[k40] at g;obtain⟨c0,c1,rfl⟩:=list2 g;obtain⟨i,j,rfl⟩:=list2 (α:=DataW H×List MemPlace) hlen
 .have c:=f 0 ⟨"Name",yy,0,false,"","",0⟩ rfl;have e:=f 1 ⟨"Wide",zV,1,false,"","",16⟩ rfl;simp only[Yl0,ys0,PC,pW,pt,Pw,pz,pA] at c e;obtain⟨s,a,_,hs⟩:=DataW.trod_string ZD c;obtain⟨n,b,_,_⟩:=DataW.trod_int J0 e;simp only[gP,gQ] at a b;subst a b;exact⟨(s,n),rfl,by simpa[maxLen] using hs⟩
theorem each_in {α:Type} [Inhabited α] {e k:Nat} {R:List Value->α->Prop} {a:Addr} {len cap n:Nat} {elems:List (DataW H×List MemPlace)} (ce:P.cellsOf e=k) (p:0<k) (r:len<=cap) (hm:cap<=maxLen) (t:elems.length=len)
  (f:∀i,i<len->(W.cells? 0 (a.add (i*P.cellsOf e)) (P.cellsOf e)).bind (DataW.trod enc P W 0 (λ_=>true) held n e)=elems[i]?)
  (b:∀cs x,DataW.trod enc P W 0 (λ_=>true) held n e cs=some x->∃y,R cs y):
  ∃(css:List (List Value)) (ys:List α),Sl (λ_=>True) W k (.slice (some a) len cap) css/\css.length=len/\ys.length=len/\∀i,i<len->R (css.getD i []) (ys.getD i default):=by
 have each:∀i,i<len->∃q:List Value×α,W.cells? 0 (a.add (i*k)) k=some q.1/\R q.1 q.2:=λi hi=>by
  have h:=f i hi;rw[V0 oM,ce] at h;obtain⟨cs',l,m⟩:=Option.bind_eq_some_iff.1 h;obtain⟨y,s⟩:=b _ _ m;exact⟨(cs',y),l,s⟩
 obtain⟨q,g⟩:=Go.Deep.choose_lt each;refine⟨(List.range len).map λi=>(q i).1,(List.range len).map λi=>(q i).2,?_,by simp,by simp,λi hi=>?_⟩
 .refine sl_of p r hm (by simp) (λc d=>?_) λi hi j o=>?_
  .obtain⟨i,hi,rfl⟩:=gr.1 d;exact(World.cells?_some (g i (gJ.1 hi)).1).2.1
  .have d:=(World.cells?_some (g i hi).1).2.2 j o;rw[Go.Deep.add_add] at d;rw[d];simp[y2,hi]
 .have:=(g i hi).2;simpa[y2,hi] using this
theorem decls_in (h:DataW.trod enc P W 0 (λ_=>true) held fuel xM cs=some x):∃v ds,cs=[v]/\DclsR (λ_=>True) W v ds/\kq ds:=by
 rcases DataW.trod_slice zo0 h with⟨rfl,_⟩|⟨a,len,cap,elems,rest,n,_,rfl,_,_,f,hm,g,b,_,_⟩
 .exact⟨_,[],rfl,⟨⟨none,0,rfl,by simp,by simp,λh=>absurd rfl h⟩,by simp⟩,λi hi=>absurd hi (by simp)⟩
 .obtain⟨css,ys,hs,k,l,c⟩:=each_in (α:=M.Dcl) (R:=λcs d=>cs=[.string d.1,nI d.2]/\d.1.size<=9223372036854775807) k40 dC f hm g b λcs x j=>YS0 j;refine⟨_,ys,rfl,?_,λi hi=>?_⟩
  .have e:css=ys.map λd=>[Value.string d.1,nI d.2]:=by
    refine gL (by simp;omega) λi g1 g2=>?_;have:=(c i oM).1;rw[y2,V0 g1,y2,V0 oM] at this;simpa using this
   rw[e] at hs;exact hs
  .have:=(c i oM).2;rw[y2,V0 hi] at this⊢;simpa using this
theorem term_in:∀(fuel:Nat) {cs:List Value} {x:DataW H×List MemPlace},DataW.trod enc P W 0 (λ_=>true) held fuel yI cs=some x->∃t:M.Tm,TmR (λ_=>True) W cs t/\Z7 t=true:=by
 intro fuel;induction fuel using Nat.strongRecOn with
 |_ fuel I=>
 intro cs x h;obtain⟨xs,n,D,_,e,hlen,c⟩:=DataW.trod_struct Xo0 h;rw[xb0] at e;obtain⟨c0,c1,c2,c3,J,rfl⟩:=list5 e;clear e;obtain⟨K,L,N,O,Q,rfl⟩:=list5 (α:=DataW H×List MemPlace) hlen
 .have y:=c 0 ⟨"Op",zV,0,false,"","",0⟩ rfl;have z:=c 1 ⟨"A",zV,1,false,"","",8⟩ rfl;have A:=c 2 ⟨"B",zV,2,false,"","",16⟩ rfl;have B:=c 3 ⟨"Name",yy,3,false,"","",24⟩ rfl;have C:=c 4 ⟨"Kids",xg,4,false,"","",40⟩ rfl;simp only[Yl0,ys0,XH0,PC,pW,pt,Pw,pz,pA] at y z A B C;obtain⟨o,r,_,_⟩:=DataW.trod_int J0 y;obtain⟨p,u,_,_⟩:=DataW.trod_int J0 z;obtain⟨q,v,_,_⟩:=DataW.trod_int J0 A;obtain⟨s,w,_,hs⟩:=DataW.trod_string ZD B;simp only[gP,gQ] at r u v w;subst r u v w;have f:s.size<=9223372036854775807:=(by simpa[maxLen] using hs);rcases DataW.trod_slice QR C with⟨b,_⟩|⟨a,len,cap,elems,rest,m,E,b,_,_,e,hm,F,g,_,_⟩
  .simp only[gP,gQ] at b;subst b;exact⟨.mk o p q s [],yb0 o p q s,Xn0.2 ⟨f,λk j=>by cases j⟩⟩
  .simp only[gP,gQ] at b;subst b;obtain⟨css,ys,l,g1,g2,g3⟩:=each_in (α:=M.Tm) (R:=λcs t=>TmR (λ_=>True) W cs t/\Z7 t=true) xb0 dC e hm F g λcs x G=>I m oM G;refine⟨.mk o p q s ys,TmR.of (t:= .mk o p q s ys) ⟨css,l,by show css.length=ys.length;omega,λi hi=>?_⟩,Xn0.2 ⟨f,λk j=>?_⟩⟩
   .have d:i<ys.length:=hi;exact(g3 i oM).1
   .obtain⟨i,hi,rfl⟩:=gn j;have d:i<ys.length:=hi;have:=(g3 i oM).2;rwa[y2,V0 d] at this
end
end Go.Proofs.YtfnpmncplaibiaaGreatDoor
end
namespace Go.Proofs.YtfnpmncplaibiaaGreatDoor
open Go Go.Vc Go.Proofs
section
variable {w:World} {K:oK} {F F' D G:oA}
theorem eqIntS_same {va vb:Value} {a:oI} (f:Ints F w va a) (k:Ints F' w vb a) (n:∀w',Ext w w'->K (.bool true) w'):vcall Uc #[va,vb] w K:=by
 refine ze {loops:=[(4,[5])]} Tryz.func33 ?_;have o:=ints_small f;simp only[push_cast,f.len,k.len];refine zb (λh=>absurd rfl h) (λh=>?_);refine vloop_up a.length (λi u w'=>u=[nI i]/\Ext w w') ⟨rfl,Same.refl _ _⟩ ?_;rintro i _ _ w1 C hi ⟨rfl,he⟩ m;have c:=f.ext he;have g:=k.ext he;simp only[push_cast,c.len];refine zb (λl=>?_) (λl=>?_)
 .refine zd λw2 b _=>?_;have d:=c.ext b;have e:=g.ext b;simp(disch:=exact oS) only[push_cast,d.iaddr,d.load,e.iaddr,e.load,y1];refine zb (λj=>absurd rfl j) (λj=>?_);rw[inc64' oM];exact m oM _ _ ⟨rfl,he.trans b⟩
 .exact n w1 he
theorem szDecl_spec {s:ByteArray} {n left:Int} (g:0<=left) (h:left<=1048576) (hs:s.size<=9223372036854775807) (c:∀w' r,Ext w w'->(r= -1\/0<=r/\r<=left/\(s.size:Int)<=left)->K (nI r) w'):vcall Ua #[.agg ⟨[.string s,nI n]⟩,nI left] w K:=by
 refine ze {} Tryz.func38 ?_;refine zj λb1 w1 d b e f=>?_;simp(disch:=first|(simp only[push_cast])|exact ZD) only[push_cast,f.ld0,Xp];rw[show IntKind.i64.wrap (left-(s.size:Int))=left-s.size from zk oM oM];refine zb (λa=>?_) (λa=>?_)
 .exact c _ _ b (.inl rfl)
 .exact c _ _ b (.inr oM)
theorem szDeclS_sum {v:Value} {ds:List M.Dcl} {left:Int} (o:0<=left) (p:left<=1048576) (l:kq ds) (g:DclsR F w v ds) (f:∀w' r,Ext w w'->(r= -1\/0<=r/\r+(ds.length:Int)<=left)->K (nI r) w'):vcall Vj #[v,nI left] w K:=by
 refine ze {loops:=[(5,[1,5])]} Tryz.func7 ?_;have k:=g.small;simp only[push_cast,g.len];rw[show IntKind.i64.wrap (left-(ds.length:Int))=left-ds.length from zk oM oM];refine zb (λa=>f _ _ (Same.refl _ _) (.inl rfl)) (λa=>?_);refine vloop_up ds.length (λi u w'=> ∃r:Int,u=[nI r,nI i]/\Ext w w'/\0<=r/\r+(ds.length:Int)<=left) ⟨_,rfl,Same.refl _ _,oM,oM⟩ ?_;rintro i _ _ w1 C hi ⟨r,rfl,he,m,q⟩ h;have b:=g.ext he;simp(disch:=exact oS) only[push_cast,b.len];refine zb (λc=>?_) (λc=>?_)
 .simp(disch:=exact oS) only[push_cast,b.iaddr,b.load];refine szDecl_spec m oM (l i oM) λw2 n e j=>?_;refine oZ ?_;refine zb (λd=>f _ _ (he.trans e) (.inl rfl)) (λd=>?_);rw[inc64' oM];exact h oM _ _ ⟨n,rfl,he.trans e,oM,oM⟩
 .exact f _ _ he (.inr oM)
abbrev SzT (t:M.Tm):Prop:=∀{w:World} {K:oK} {F:oA} {v:Value} {left:Int},TermR F w v t->Z7 t=true->0<=left->left<=1048576->(∀w' r,Ext w w'->(r= -1\/0<=r/\r+M.sizeM t<=left+1/\x60 t=true)->K (nI r) w')->vcall U9 #[v,nI left] w K
theorem szTermS_of {ks:List M.Tm} (B:∀k,k∈ks->SzT k) {v:Value} {left:Int} (l:TmsR F w v ks) (hs:∀k,k∈ks->Z7 k=true) (E:0<=left) (G:left<=1048576)
  (n:∀w' r,Ext w w'->(r= -1\/0<=r/\r+M.szT ks ks.length<=left/\(ks.length:Int)<=left/\∀k,k∈ks->x60 k=true)->K (nI r) w'):vcall Vh #[v,nI left] w K:=by
 refine ze {loops:=[(5,[1,5])]} Tryz.func8 ?_;have y:=l.small;simp only[push_cast,l.len];rw[show IntKind.i64.wrap (left-(ks.length:Int))=left-ks.length from zk oM oM];refine zb (λa=>n _ _ (Same.refl _ _) (.inl rfl)) (λa=>?_);refine vloop_up ks.length (λi u w'=> ∃r:Int,u=[nI r,nI i]/\Ext w w'/\0<=r/\r+M.szT ks i<=left-ks.length+i/\∀j,j<i->x60 (ks.getD j default)=true) ⟨_,rfl,Same.refl _ _,oM,by show _+((0:Nat):Int)<=_;omega,λj m=>absurd m oM⟩ ?_;rintro i _ _ w1 C hi ⟨r,rfl,he,s,H,q⟩ t;have f:=l.ext he;simp(disch:=exact oS) only[push_cast,f.len];refine zb (λc=>?_) (λc=>?_)
 .have b:ks.getD i default∈ks:=M.getD_mem oM _;simp(disch:=exact oS) only[push_cast,f.iaddr];refine f.load Ku oM λx A=>?_;refine B _ b A (hs _ b) s oM λw2 D g p=>?_;refine oZ ?_;refine zb (λd=>n _ _ (he.trans g) (.inl rfl)) (λd=>?_);rw[inc64' oM];rcases p with h|⟨g0,g1,g2⟩
  .omega
  have z:=M.szT_succ (ks:=ks) (i:=i) oM;refine t oM _ _ ⟨D,rfl,he.trans g,g0,oM,λj m=>?_⟩;by_cases e:j<i
  .exact q j e
  .have:j=i:=oM;subst this;exact g2
 .have o:i=ks.length:=oM;subst o;refine n _ _ he (.inr ⟨s,oM,oM,λk l=>?_⟩);obtain⟨j,m,rfl⟩:=gn l;have:=q j oM;rwa[y2,V0 m] at this
theorem szTerm_spec:∀t:M.Tm,SzT t:=by
 refine M.Tm.ind λt n=>?_;intro w K F v left m hs o p e;refine ze {} Tryz.func39 ?_;obtain⟨kv,rfl,f⟩:=m;obtain⟨s1,s2⟩:=Xn0.1 hs;refine zj λb1 w1 i b k g=>?_;simp(disch:=first|(simp only[push_cast])|exact ZD) only[push_cast,g.ld3,g.ld4,Xp];rw[show IntKind.i64.wrap (left-(t.s.size:Int))=left-t.s.size from zk oM oM];refine zb (λa=>e _ _ b (.inl rfl)) (λa=>?_);refine szTermS_of n (f.ext b) s2 oM oM λw2 r c j=>?_;refine oZ ?_;refine zb (λd=>e _ _ (b.trans c) (.inl rfl)) (λd=>?_);rcases j with h|⟨g0,g1,g2,g3⟩
 .omega
 have l:=M.szT_all t;exact e _ _ (b.trans c) (.inr ⟨g0,oM,fitB_iff.2 ⟨oM,g3⟩⟩)
theorem toDecl_spec {s:ByteArray} {n:Int} (x:∀w',Ext w w'->K (.agg ⟨[.string s,nI n]⟩) w'):vcall U8 #[.agg ⟨[.string s,nI n]⟩] w K:=by
 refine ze {} Tryz.func46 ?_;refine zj λb1 w1 z h C p=>?_;refine zi qe λb2 w2 A d D q=>?_;refine zi qe λb3 J B a E r=>?_;have m:=(p.ext d).ext a;simp only[push_cast,m.ld0];refine r.st (i:=0) rfl rfl Xl rfl λL e F u=>?_;have I:=m.same e oM;simp only[push_cast,I.ld1];refine u.st (i:=1) rfl rfl yW rfl λo j G g=>?_;replace g:Blk o b3 [.string s,nI n] yV:=g;rw[g.ldAgg (t:=yV) Xg];have c:Same (λb=>b=b3) J o:=e.trans j;have f:=(q.ext a).same c oM;refine stDecl f λM k H v=>?_;rw[v.lv (t:=yV) Xg];refine x _ (Ext.then (Ext.then ((h.trans d).trans a) c λy l=>by subst l;omega) k λy l=>by subst l;omega)
theorem toDeclS_own {v:Value} {ds:List M.Dcl} (s:DclsR F w v ds) (B:ds.length<=1048576) (z:∀w' v',Ext w w'->Own 0 2 yo w' v' (ds.map λd=>[Value.string d.1,nI d.2])->(∀b,v'.ownBlock=some b->w.heap.size<=b)->K v' w'):vcall Vg #[v] w K:=by
 refine ze {loops:=[(3,[4])]} Tryz.func10 ?_;simp only[push_cast,s.len];refine vmkS_agg (cs:=[.string ⟨#[]⟩,nI 0]) QZ dC (by rw[XT];exact qe) oM oM λv1 w1 o n h=>?_;refine vloop_up ds.length (λi u w'=>u=[nI i]/\Ext w w'/\∃css,css.length=ds.length/\Own 0 2 yo w' v1 css/\∀j,j<i->css.getD j []=[.string (ds.getD j xC0).1,nI (ds.getD j xC0).2]) ⟨rfl,n,_,by simp,o,oM⟩ ?_;rintro i _ _ w2 C hi ⟨rfl,f,css,A,k,t⟩ y;have c:=s.ext f;simp only[push_cast,c.len];refine zb (λa=>?_) (λa=>?_)
 .simp(disch:=exact oS) only[push_cast,c.iaddr,c.load];refine toDecl_spec λG g=>?_;have l:=k.ext g;have q:=l.sl;simp(disch:=exact oS) only[push_cast,q.iaddr];refine own_stEl l dC rfl (by intro v x;simp only[gg,gx,Ge] at x;rcases x with rfl|rfl<;>rfl) Xg oM λH p r D=>?_;rw[inc64' oM];refine y oM _ _ ⟨rfl,Ext.then (f.trans g) r λb m=>h b m,_,by rw[gK];exact A,p,λj E=>?_⟩;rw[getD_set oM];by_cases e:i=j
  .subst e;rw[y3 rfl]
  .rw[y0 e];exact t j oM
 .have e:css=ds.map λd=>[Value.string d.1,nI d.2]:=by
   refine gL (by simp;omega) λj g1 g2=>?_;have:=t j oM;rw[y2,V0 g1,y2,V0 oM] at this;simpa using this
  subst e;exact z w2 v1 f k λb m=>h b m
theorem x90 {s:ByteArray} {n:Int} (f:∀w',Ext w w'->K (.bool true) w'):vcall Ud #[.agg ⟨[.string s,nI n]⟩,.agg ⟨[.string s,nI n]⟩] w K:=by
 refine ze {} Tryz.func52 ?_;refine zj λb1 w1 g d j e=>?_;refine zj λb2 w2 i a k b=>?_;have c:=e.ext a;simp only[push_cast,c.ld0,b.ld0,c.ld1,b.ld1];refine zb (λh=>absurd rfl h) (λ_=>?_)
 try simp only[push_cast,c.ld0,b.ld0,c.ld1,b.ld1]
 refine zb (λh=>absurd rfl h) (λ_=>?_);exact f _ (d.trans a)
theorem eqDeclS_same {va vb:Value} {ds:List M.Dcl} (e:DclsR F w va ds) (j:DclsR F' w vb ds) (m:∀w',Ext w w'->K (.bool true) w'):vcall Vm #[va,vb] w K:=by
 refine ze {loops:=[(4,[5])]} Tryz.func14 ?_;have n:=e.small;simp only[push_cast,e.len,j.len];refine zb (λh=>absurd rfl h) (λh=>?_);refine vloop_up ds.length (λi u w'=>u=[nI i]/\Ext w w') ⟨rfl,Same.refl _ _⟩ ?_;rintro i _ _ w1 C hi ⟨rfl,he⟩ l;have b:=e.ext he;have f:=j.ext he;simp only[push_cast,b.len];refine zb (λk=>?_) (λk=>?_)
 .refine zd λw2 a _=>?_;have c:=b.ext a;have d:=f.ext a;simp(disch:=exact oS) only[push_cast,c.iaddr,c.load,d.iaddr,d.load,y1];refine x90 λo g=>?_;simp only[push_cast,Gh,y1];rw[inc64' oM];exact l oM _ _ ⟨rfl,he.trans (a.trans g)⟩
 .exact m w1 he
abbrev EqT (t:M.Tm):Prop:=∀{w:World} {K:oK} {F G:oA} {va vb:Value},TermR F w va t->TermR G w vb t->(∀w',Ext w w'->K (.bool true) w')->vcall Ub #[va,vb] w K
theorem eqTermS_of {ks:List M.Tm} (o:∀k,k∈ks->EqT k) {va vb:Value} (d:TmsR F w va ks) (g:TmsR F' w vb ks) (m:∀w',Ext w w'->K (.bool true) w'):vcall Vk #[va,vb] w K:=by
 refine ze {loops:=[(4,[5])]} Tryz.func15 ?_;have n:=d.small;simp only[push_cast,d.len,g.len];refine zb (λh=>absurd rfl h) (λh=>?_);refine vloop_up ks.length (λi u w'=>u=[nI i]/\Ext w w') ⟨rfl,Same.refl _ _⟩ ?_;rintro i _ _ w1 C hi ⟨rfl,he⟩ l;have b:=d.ext he;have e:=g.ext he;simp only[push_cast,b.len];refine zb (λj=>?_) (λj=>?_)
 .refine zd λw2 a _=>?_;obtain⟨cssa,sa,la,ka⟩:=b.ext a;obtain⟨cssb,sb,lb,kb⟩:=e.ext a;have c:ks.getD i default∈ks:=M.getD_mem oM _;have ga:aggB za 5=true:=zc;simp(disch:=exact oS) only[push_cast,sa.iaddr,sa.ldAgg,sb.iaddr,sb.ldAgg,y1];refine o _ c (ka i oM).term (kb i oM).term λp f=>?_;simp only[push_cast,Gh,y1];rw[inc64' oM];exact l oM _ _ ⟨rfl,he.trans (a.trans f)⟩
 .exact m w1 he
theorem x80:∀t:M.Tm,EqT t:=by
 refine M.Tm.ind λt r=>?_;intro w K F G va vb l m k;refine ze {} Tryz.func53 ?_;obtain⟨kva,rfl,g⟩:=l;obtain⟨kvb,rfl,i⟩:=m;refine zj λb1 w1 n e p j=>?_;refine zj λb2 w2 o b q a=>?_;have c:=j.ext b;simp only[push_cast,c.ld0,a.ld0,c.ld1,a.ld1,c.ld2,a.ld2,c.ld3,a.ld3,c.ld4,a.ld4];refine zb (λh=>absurd rfl h) (λ_=>?_);refine zb (λh=>absurd rfl h) (λ_=>?_);refine zb (λh=>absurd rfl h) (λ_=>?_);refine zb (λh=>absurd rfl h) (λ_=>?_);have d:=e.trans b;refine eqTermS_of r (g.ext d) (i.ext d) λs f=>?_;simp only[push_cast,Gh];exact k _ (d.trans f)
end
section
variable {w:World} {K:oK} {F D G:oA}
def qB0 (w:World) (D:oA) (kv:Value) (us:List M.Tm) (css:List (List Value)) (Ds:Nat->Nat->Prop):Prop:=
 Own 0 5 zl w kv css/\css.length=us.length/\(∀b,kv.ownBlock=some b->D b/\∀i,i<us.length->¬Ds i b)/\(∀i j b,i<j->j<us.length->Ds i b->¬Ds j b)/\(∀i b,i<us.length->Ds i b->D b)/\
 ∀i,i<us.length->TmO w (Ds i) (css.getD i []) (us.getD i default)
theorem Y20 {kv:Value} {t:M.Tm} {css:List (List Value)} {Ds:Nat->Nat->Prop} (h:qB0 w D kv t.ks css Ds):TmO w D [nI t.op,nI t.a,nI t.b,.string t.s,kv] t:=by
 obtain⟨c,d,e,f,g,i⟩:=h;exact .mk css Ds c d e f g i
theorem qV0 {cs:List Value} {t:M.Tm} (h:TmO w D cs t):∃kv css Ds,cs=[nI t.op,nI t.a,nI t.b,.string t.s,kv]/\qB0 w D kv t.ks css Ds:=by
 obtain⟨kv,css,Ds,c,d,e,f,g,i,j⟩:=Wu h;exact⟨kv,css,Ds,c,d,e,f,g,i,j⟩
theorem xn0 {kv:Value} {us:List M.Tm} {css:List (List Value)} {Ds:Nat->Nat->Prop} (h:qB0 w D kv us css Ds):TmsR D w kv us:=by
 obtain⟨c,d,e,j,f,g⟩:=h;exact⟨css,c.sl.weaken λb a _=>(e b a).1,d,λi hi=>(xO0 _ (g i hi)).weaken λb a _=>f i b hi a⟩
theorem qJ {S:oA} {w':World} {kv:Value} {us:List M.Tm} {css:List (List Value)} {Ds:Nat->Nat->Prop} (h:qB0 w D kv us css Ds) (hw:Same S w w') (hs:∀b,D b->¬S b):qB0 w' D kv us css Ds:=by
 obtain⟨e,f,c,g,d,j⟩:=h;exact⟨e.same hw λb a=>hs b (c b a).1,f,c,g,d,λi hi=>jK hw _ (j i hi) λb a=>hs b (d i b hi a)⟩
abbrev CpO (t:M.Tm):Prop:=∀{w:World} {K:oK} {F:oA} {v:Value},TermR F w v t->x60 t=true->(∀w' cs,Ext w w'->TmO w' (λb=>w.heap.size<=b/\b<w'.heap.size) cs t->K (.agg ⟨cs⟩) w')->vcall U7 #[v] w K
theorem toTermS_own {ks:List M.Tm} (ih:∀k,k∈ks->CpO k) {v:Value} (I:TmsR F w v ks) (W:ks.length<=1048576) (V:∀k,k∈ks->x60 k=true)
  (T:∀w' v' css Ds,Ext w w'->qB0 w' (λb=>w.heap.size<=b/\b<w'.heap.size) v' ks css Ds->K v' w'):vcall Ve #[v] w K:=by
 refine ze {loops:=[(3,[4])]} Tryz.func11 ?_;simp only[push_cast,I.len];refine vmkS_agg (cs:=zj0) jo dC (by rw[jP];exact zq) oM oM λv1 w1 z r t=>?_;have Y:=r.size;have f:∀b,v1.ownBlock=some b->b<w1.heap.size:=λb c=>(z.lt c).2;refine vloop_up ks.length (λi u w'=>u=[nI i]/\Ext w w'/\w1.heap.size<=w'.heap.size/\∃(css:List (List Value)) (Ds:Nat->Nat->Prop),css.length=ks.length/\Own 0 5 zl w' v1 css/\
   (∀j b,j<i->Ds j b->w1.heap.size<=b/\b<w'.heap.size)/\(∀j k b,j<k->k<i->Ds j b->¬Ds k b)/\∀j,j<i->TmO w' (Ds j) (css.getD j []) (ks.getD j default))
  ⟨rfl,r,gp _,_,λ_ _=>False,by simp,z,oM,oM,oM⟩ ?_
 rintro i _ _ w2 C hi ⟨rfl,n,Z,css,Ds,Q,A,d,h,R⟩ S;have o:=I.ext n;simp only[push_cast,o.len];refine zb (λa=>?_) (λa=>?_)
 .have l:ks.getD i default∈ks:=M.getD_mem oM _;simp(disch:=exact oS) only[push_cast,o.iaddr];refine o.load Ku oM λx X=>?_;refine ih _ l X (V _ l) λw3 c3 g q=>?_;have y:=xO0 _ q;have B:=A.ext g;have L:=B.sl;have a0:=g.size;simp(disch:=exact oS) only[push_cast,L.iaddr];refine own_stEl B dC (zU y) (tmR_one y) zc oM λw4 J p a1=>?_;rw[inc64' oM];refine S oM _ _ ⟨rfl,Ext.then (n.trans g) p λb c=>t b c,oM,css.set i c3,λj b=>(j<i/\Ds j b)\/(j=i/\w2.heap.size<=b/\b<w3.heap.size),by rw[gK];exact Q,J,λj b s c=>?_,λj k b H I m D=>?_,λj s=>?_⟩
  .rcases c with⟨m,D⟩|⟨m,D,E⟩
   .have:=d j b m D;omega
   .omega
  .rcases m with⟨m,E⟩|⟨m,E,h4⟩
   .rcases D with⟨N,O⟩|⟨N,O,h7⟩
    .exact h j k b H N E O
    .have:=d j b m E;omega
   .omega
  .rw[getD_set oM];by_cases e:i=j
   .subst e;rw[y3 rfl];exact qC (jK p _ q λb c e=>by have:=f b e;omega) λb c=> .inr ⟨rfl,c⟩
   .rw[y0 e];exact qC (jK p _ (qW0 (R j oM) g) λb c e=>by have:=f b e;have:=d j b oM c;omega) λb c=> .inl ⟨oM,c⟩
 .have G:i=ks.length:=oM;subst G;refine T w2 v1 css Ds n ⟨A,Q,λb c=>⟨⟨t b c,by have:=f b c;omega⟩,λj s U=>by have:=f b c;have:=d j b s U;omega⟩,h,λj b s c=>by have:=d j b s c;omega,R⟩
theorem toTerm_own:∀t:M.Tm,CpO t:=by
 refine M.Tm.ind λt ih=>?_;intro w K F v ht hf Z;refine ze {} Tryz.func47 ?_;obtain⟨kv,rfl,H⟩:=ht;obtain⟨f1,f2⟩:=fitB_iff.1 hf;refine zj λb1 w1 a0 E a3 R=>?_;refine zi zq λb2 w2 a1 m a4 S=>?_;refine zi zq λb3 w3 a2 h a5 T=>?_;have L:=(R.ext m).ext h;simp only[push_cast,L.ld0];refine T.st (i:=0) rfl rfl yW rfl λw4 r a6 U=>?_;have N:=L.same r oM;simp only[push_cast,N.ld1];refine U.st (i:=1) rfl rfl yW rfl λw5 u a7 V=>?_;have O:=N.same u oM;simp only[push_cast,O.ld2];refine V.st (i:=2) rfl rfl yW rfl λw6 z a8 W=>?_;have P:=O.same z oM;simp only[push_cast,P.ld3];refine W.st (i:=3) rfl rfl Xl rfl λQ A a9 X=>?_;have q7:=P.same A oM;simp only[push_cast,q7.ld4];have g:Same (λb=>b=b3) w3 Q:=r.trans (u.trans (z.trans A));have l:=(E.trans m).trans h;have j:Ext w Q:=Ext.then l g λy B=>by subst B;omega
 refine toTermS_own ih (H.ext j) f1 f2 λw8 f css Ds d n=>?_;have Y:=X.ext d;have o:f.cells= #[f]/\f.oneCell'=true:=by
  obtain⟨a,c,rfl,_⟩:=n.1.sl.shape;exact⟨rfl,rfl⟩
 have aa:=d.size;have J:=g.size
 try simp only[push_cast]
 refine Y.st (i:=4) o.1 o.2 xy rfl λw9 k ab D=>?_;replace D:Blk w9 b3 [nI t.op,nI t.a,nI t.b,.string t.s,f] za:=D;rw[D.ldAgg (t:=za) zc];have G:=qJ n k λb hb e=>oM
 have C:=(((S.ext h).same g oM).ext d).same k oM;refine retO C rfl (Y20 (t:=t) G) (λx hx=>oM) λw10 q I p=>?_;exact Z _ _ (Ext.then (Ext.then (j.trans d) k λy B=>by subst B;omega) q λy B=>by subst B;omega) (qC p λb hb=>by have:=j.size;omega)
def digs:Nat->Nat->ByteArray->ByteArray
 |0,_,acc=>acc
 |f+1,k,acc=>if 0<k then digs f (k/10) (strOfNums [((48+k%10:Nat):Int)]++acc) else acc
def Qr (k:Nat):ByteArray:=if k=0 then⟨#[109,48]⟩ else⟨#[109]⟩++digs (k+1) k ⟨#[]⟩
theorem markText_spec {k:Nat} (h:k<4611686018427387904) (b:∀w',Ext w w'->K (.string (Qr k)) w'):vcall ZI #[nI k] w K:=by
 refine ze {loops:=[(4,[0,3])]} Tryz.func54 ?_;refine oZ ?_;refine zb (λa=>?_) (λa=>?_)
 .have e:Qr k=⟨#[109,48]⟩:=by unfold Qr;rw[y3 oM]
  rw[e] at b;exact b _ (Same.refl _ _)
 have e:Qr k=⟨#[109]⟩++digs (k+1) k ⟨#[]⟩:=by unfold Qr;rw[y0 oM]
 rw[e] at b;refine jJ (λn u w'=> ∃(j:Nat) (acc:ByteArray) (f:Nat),u=[nI j,.string acc]/\n=j/\j<=k/\j<f/\acc.size+j<=k/\Ext w w'/\digs f j acc=digs (k+1) k ⟨#[]⟩) k
  ⟨k,_,k+1,rfl,rfl,gp _,oM,by simp[ByteArray.size],Same.refl _ _,rfl⟩ ?_
 rintro n _ _ w1 C ⟨j,acc,f,rfl,rfl,v,t,z,he,m⟩ q;refine oZ ?_;refine zb (λc=>?_) (λc=>?_)
 .rw[Z3 dC,show(n:Int).tmod 10=((n%10:Nat):Int) from by rw[pR oM];omega,Xr];rw[show IntKind.i64.wrap (48+((n%10:Nat):Int))=((48+n%10:Nat):Int) from by rw[zk oM oM];omega];rw[jh zs0 Zt0,show IntKind.u8.wrap ((48+n%10:Nat):Int)=((48+n%10:Nat):Int) from by show((48+n%10:Nat):Int)%256=_;omega];refine qx (k:=1) (y:=[.int .u8 ((48+n%10:Nat):Int)]) Xs Yo0 kL0 rfl rfl dC λb2 w2 r l x p=>?_;have s:∀d:oK,yE0 xD yy (.slice (some ⟨b2,0,none⟩) 1 1) w2 d=d (.string (strOfNums [((48+n%10:Nat):Int)])) w2:=λd=>
   ya (run_convert_bytes_arg w2 xD Zm Xs rK b2 0 1 1 [((48+n%10:Nat):Int)] rfl (λi hi=>by
    have:i=0:=oM;subst this;exact p.cell (i:=0) rfl) yy ZD)
  rw[s,Z2 (by rw[strOfNums_size];show 1+_<=_;omega),kz dC,show(n:Int).tdiv 10=((n/10:Nat):Int) from by rw[Int.tdiv_eq_ediv_of_nonneg oM];omega,zk oM oM];obtain⟨f,rfl⟩:∃g,f=g+1:=⟨f-1,oM⟩;refine q (n/10) _ _ oM ⟨n/10,_,f,rfl,rfl,oM,oM,?_,he.trans l,?_⟩
  .rw[ByteArray.size_append,strOfNums_size];show 1+acc.size+n/10<=k;omega
  .rw[<-m];show _=if 0<n then _ else _
   rw[y3 oM]
 .have o:n=0:=oM;subst o;obtain⟨f,rfl⟩:∃g,f=g+1:=⟨f-1,oM⟩;have:acc=digs (k+1) k ⟨#[]⟩:=by
   rw[<-m];show _=if 0<0 then _ else acc
   rw[y0 oM]
  subst this;rw[Z2 (by show 1+_<=_;omega)];exact b _ he
theorem markText_int {k:Int} (b:0<=k) (h:k<4611686018427387904) (a:∀w',Ext w w'->K (.string (Qr k.toNat)) w'):vcall ZI #[nI k] w K:=by
 obtain⟨n,rfl⟩:∃n:Nat,k=n:=⟨k.toNat,oM⟩;exact markText_spec oM a
theorem inc_wrap {k:Int} (a:0<=k) (h:k<4611686018427387904):IntKind.i64.wrap (k+1)=k+1:=zk oM oM
theorem markDeclS_spec {v:Value} {css:List (List Value)} {k:Int} (x:Own 0 2 yo w v css) (A:0<=k) (B:k+2*css.length<4611686018427387904)
  (t:∀w',Same (λb=>v.ownBlock=some b) w w'->K (nI (k+2*css.length)) w'):vcall J8 #[v,nI k] w K:=by
 refine ze {loops:=[(2,[1,5])]} Tryz.func16 ?_;refine vloop_up css.length (λi u w'=>u=[nI (k+2*i),nI i]/\Same (λb=>v.ownBlock=some b) w w'/\∃c,c.length=css.length/\Own 0 2 yo w' v c) ⟨by simp,Same.refl _ _,css,rfl,x⟩ ?_;rintro i _ _ w1 C hi ⟨rfl,h,r,e,f⟩ s;have o:=f.sl;simp only[push_cast,o.len,e];refine zb (λa=>?_) (λa=>?_)
 .refine markText_int oM oM λw2 d=>?_;have g:=f.ext d;have n:=g.sl;simp(disch:=exact oS) only[push_cast,n.iaddr];refine Own.stCell g rfl rfl Xl (i:=i) (j:=0) oM dC λD l p y=>?_;rw[inc_wrap oM oM];refine Own.stCell l rfl rfl yW (i:=i) (j:=1) (by rw[gK];omega) dC λE m q z=>?_;rw[inc_wrap oM oM,inc64' oM];refine s oM _ _ ⟨by rw[show k+2*(i:Int)+1+1=k+2*((i+1:Nat):Int) by omega],h.trans ((Same.of_ext d).trans (p.trans q)),_,by rw[gK,gK];exact e,m⟩
 .have:i=css.length:=oM;subst this;exact t _ h
end
section
variable {w:World} {K:oK} {F D G:oA}
inductive Held:List M.Tm->Int->Int->Prop
 |nil (k:Int):Held [] k k
 |cons {t:M.Tm} {us:List M.Tm} {k m n:Int}:t.op=k->t.a=k+1->t.b=k+2->t.s=Qr (k+3).toNat->Held t.ks (k+4) m->Held us m n->Held (t::us) k n
theorem jA0 {us:List M.Tm} {k m n:Int} {t:M.Tm} (h:Held us k m) (f:t.op=m) (g:t.a=m+1) (i:t.b=m+2) (j:t.s=Qr (m+3).toNat) (l:Held t.ks (m+4) n):Held (us++[t]) k n:=by
 induction h with
 |nil k=>exact .cons f g i j l (.nil _)
 |cons a b c d e _ _ o=>exact .cons a b c d e (o f g i j l)
abbrev MarkT (t:M.Tm):Prop:=∀{w:World} {K:oK} {D:oA} {kv:Value} {css:List (List Value)} {Ds:Nat->Nat->Prop} {k:Int},qB0 w D kv t.ks css Ds->0<=k->k+4*M.szT t.ks t.ks.length<4611686018427387904->
 (∀w' us css',Same D w w'->qB0 w' D kv us css' Ds->us.length=t.ks.length->Held us k (k+4*M.szT t.ks t.ks.length)->K (nI (k+4*M.szT t.ks t.ks.length)) w')->vcall J7 #[kv,nI k] w K
theorem Z30 {us:List M.Tm} {i:Nat} {u:M.Tm} (h:i<us.length):(us.set i u).take (i+1)=us.take i++[u]:=by
 rw[M.take_add (by rw[gK];exact h) default,List.take_set_of_le (gp _),getD_set h,y3 rfl]
theorem markTermS_spec:∀t:M.Tm,MarkT t:=by
 refine M.Tm.ind λt ih=>?_;intro w K D kv css Ds k h h0 hk hK;refine ze {loops:=[(2,[1,5])]} Tryz.func17 ?_;refine vloop_up t.ks.length (λi u w'=>u=[nI (k+4*M.szT t.ks i),nI i]/\Same D w w'/\∃us F,us.length=t.ks.length/\qB0 w' D kv us F Ds/\Held (us.take i) k (k+4*M.szT t.ks i)/\∀j,i<=j->us.getD j default=t.ks.getD j default)
  ⟨by show _=[nI (k+4*((0:Nat):Int)),_];simp,Same.refl _ _,t.ks,css,rfl,h,by rw[pt];show Held [] k (k+4*((0:Nat):Int));simpa using Held.nil k,λj _=>rfl⟩ ?_
 rintro i _ _ w1 C hi ⟨rfl,O,us,d,l,hT,hH,n⟩ hC;have U:=hT;obtain⟨own1,L,f,A,p,g⟩:=U;have o:=own1.sl;have a4:=o.small;simp only[push_cast,o.len,L,l];refine zb (λa=>?_) (λa=>?_)
 .have q:i<t.ks.length:=oM;have a8:=M.szT_succ q;have W:=M.szT_mono (ks:=t.ks) (i:=i+1) (j:=t.ks.length) oM (gp _);have a7:=M.szT_all (t.ks.getD i default);obtain⟨m,hm⟩:∃m:Int,m=k+4*M.szT t.ks i:=⟨_,rfl⟩;have a5:0<=m:=oM;have a6:m+10+4*M.szT (t.ks.getD i default).ks (t.ks.getD i default).ks.length<4611686018427387914:=oM;have B:m+4+4*M.szT (t.ks.getD i default).ks (t.ks.getD i default).ks.length=k+4*M.szT t.ks (i+1):=oM;simp only[<-hm];simp(disch:=exact oS) only[push_cast,o.iaddr];have I:=g i oM;rw[n i (gp _)] at I;obtain⟨kvi,cssi,Dsi,ei,hp⟩:=qV0 I;refine Own.stCell own1 rfl rfl yW (i:=i) (j:=0) oM dC λw2 r Z a9=>?_;rw[ei] at r;rw[inc_wrap oM oM];refine Own.stCell r rfl rfl yW (i:=i) (j:=1) (by rw[gK];omega) dC λw3 s a0 aa=>?_;rw[getD_set oM,y3 rfl,PQ] at s;rw[inc_wrap oM oM];refine Own.stCell s rfl rfl yW (i:=i) (j:=2) (by rw[gK];omega) dC λw4 v a1 ab=>?_;rw[getD_set oM,y3 rfl,PQ] at v;rw[inc_wrap oM oM,show m+1+1=m+2 by omega,show m+2+1=m+3 by omega];refine markText_int oM oM λw5 H=>?_;have Q:=v.ext H;refine Own.stCell Q rfl rfl Xl (i:=i) (j:=3) (by rw[gK];omega) dC λw6 c a2 ac=>?_;rw[getD_set oM,y3 rfl,PQ] at c;rw[inc_wrap oM oM,show m+3+1=m+4 by omega];rw[show m+1+1=m+2 by omega] at c;replace c:Own 0 5 zl w6 kv (d.set i [nI m,nI (m+1),nI (m+2),.string (Qr (m+3).toNat),kvi]):=c;have V:i<(d.set i [nI m,nI (m+1),nI (m+2),.string (Qr (m+3).toNat),kvi]).length:=by rw[gK];omega
  rw[Sl.ldField c.sl qD V (x:=kvi) (j:=4) (by rw[getD_set oM,y3 rfl];rfl)];have y:Same (λb=>kv.ownBlock=some b) w1 w6:=Z.trans (a0.trans (a1.trans ((Same.of_ext H).trans a2)));have X:=qJ hp y λb z e=>(f b e).2 i oM z;have N:t.ks.getD i default∈t.ks:=M.getD_mem q _;refine ih _ N X oM oM λw7 ui R E Y a3 G=>?_;rw[B] at G⊢;rw[inc64' oM];have T:Same D w1 w7:=(y.mono λb _ e=>(f b e).1).trans (E.mono λb _ e=>p i b oM e);have S:Same (λb=>kv.ownBlock=some b\/Ds i b) w1 w7:=(y.mono λb _ e=> .inl e).trans (E.mono λb _ e=> .inr e);refine hC oM _ _ ⟨rfl,O.trans T,us.set i (.mk m (m+1) (m+2) (Qr (m+3).toNat) ui),d.set i [nI m,nI (m+1),nI (m+2),.string (Qr (m+3).toNat),kvi],by rw[gK];exact l,⟨c.same E λb z e=>(f b z).2 i oM e,by rw[gK,gK];exact L,?_,?_,?_,λj J=>?_⟩,?_,λj J=>?_⟩
  .rw[gK];exact f
  .rw[gK];exact A
  .rw[gK];exact p
  .rw[gK] at J;rw[getD_set oM,getD_set oM];by_cases e:i=j
   .subst e;rw[y3 rfl,y3 rfl];exact Y20 (t:= .mk m (m+1) (m+2) (Qr (m+3).toNat) ui) Y
   .rw[y0 e,y0 e];refine jK S _ (g j J) λb z hs=>?_;rcases hs with hs|hs
    .exact(f b hs).2 j J z
    .rcases Nat.lt_or_gt_of_ne e with h|h
     .exact A i j b h J hs z
     .exact A j i b h oM z hs
  .rw[Z30 oM];rw[<-hm] at hH;exact jA0 hH rfl rfl rfl rfl G
  .rw[getD_set oM,y0 oM];exact n j oM
 .have q:i=t.ks.length:=oM;subst q;rw[<-l,gy,l] at hH;exact hK _ us d O hT l hH
end
end Go.Proofs.YtfnpmncplaibiaaGreatDoor
namespace Go.Proofs.YtfnpmncplaibiaaGreatDoor
open Go Go.Vc Go.Proofs Go.M
section
variable {w:World} {K:oK} {F:oA} {c:Cnf}
theorem jS0 {xs ys:oI} (c:xs.length=ys.length) (h:∀j,j<xs.length->xs.getD j 0=ys.getD j 0):xs=ys:=
 gL c λj a b=>by have:=h j a;simpa[y2,a,b] using this
theorem jE0 {α:Type} {xs:List α} {i j:Nat} {x d:α} (hi:i<xs.length):(xs.set i x).getD j d=if i=j then x else xs.getD j d:=by
 simp only[y2,Pb];by_cases e:i=j
 .subst e;simp[hi]
 .simp[e]
def YE0 (k n:Nat):oI:=(List.range n).map λj=>((k+j:Nat):Int)
theorem xr0 (k n:Nat):(YE0 k n).length=n:=by simp[YE0]
theorem xs0 {k n j:Nat} (h:j<n):(YE0 k n).getD j 0=((k+j:Nat):Int):=by
 simp[YE0,y2,h]
section
variable {w':World}
end
theorem markIntS_specX {v:Value} {xs:oI} {k:Nat} (x:OwnI zh w v xs) (z:k<=4611686018427387904) (t:xs.length<=1048576)
  (n:∀w',Same (λb=>v.ownBlock=some b) w w'->w'.heap.size=w.heap.size->OwnI zh w' v (YE0 k xs.length)->K (nI (k+xs.length:Nat)) w'):vcall JZ #[v,nI k] w K:=by
 refine ze {loops:=[(2,[1,5])]} Tryz.func36 ?_;refine vloop_up xs.length (λi u w'=>u=[nI (k+i:Nat),nI i]/\Same (λb=>v.ownBlock=some b) w w'/\w'.heap.size=w.heap.size/\∃ys:oI,ys.length=xs.length/\OwnI zh w' v ys/\∀j,j<i->ys.getD j 0=((k+j:Nat):Int)) ⟨by simp,Same.refl _ _,rfl,xs,rfl,x,oM⟩ ?_;rintro i _ _ w2 C hi ⟨rfl,d,m,ys,o,c,p⟩ r;have f:=c.ints;simp only[push_cast,f.len];refine zb (λa=>?_) (λa=>?_)
 .simp(disch:=exact oS) only[push_cast,f.iaddr];refine c.st yW oM λA l h y=>?_;have q:IntKind.i64.wrap (((k+i:Nat):Int)+1)=((k+(i+1):Nat):Int):=by rw[zk oM oM];omega
  rw[inc64' oM];refine r oM _ _ ⟨by rw[<-q];simp,d.trans h,oM,_,by rw[gK];exact o,l,λj s=>?_⟩;rw[jE0 oM];by_cases e:i=j
  .subst e;rw[y3 rfl];simp
  .rw[y0 e];exact p j oM
 .have g:i=xs.length:=oM;subst g;have:ys=YE0 k xs.length:=jS0 (by rw[xr0];exact o) λj s=>by rw[xs0 oM];exact p j oM
  rw[<-this] at n;exact n w2 d m c
theorem heldIntS_specX {v:Value} {k n:Nat} (m:Ints F w v (YE0 k n)) (o:k<=4611686018427387904) (l:n<=1048576) (h:∀w',Ext w w'->K (nI (k+n:Nat)) w'):vcall K2 #[v,nI k] w K:=by
 refine ze {loops:=[(2,[1,5])]} Tryz.func37 ?_;have j:=xr0 k n;refine vloop_up n (λi u w'=>u=[nI (k+i:Nat),nI i]/\Ext w w') ⟨by simp,Same.refl _ _⟩ ?_;rintro i _ _ w2 C hi ⟨rfl,c⟩ g;have d:=m.ext c;simp only[push_cast,d.len];refine zb (λa=>?_) (λa=>?_)
 .simp(disch:=exact oS) only[push_cast,d.iaddr,d.load];refine zb (λb=>absurd (by rw[xs0 oM];simp) b) (λb=>?_);have f:IntKind.i64.wrap (((k+i:Nat):Int)+1)=((k+(i+1):Nat):Int):=by rw[zk oM oM];omega
  rw[inc64' oM];exact g oM _ _ ⟨by rw[<-f];simp,c⟩
 .have e:i=n:=oM;subst e;exact h w2 c
end
end Go.Proofs.YtfnpmncplaibiaaGreatDoor
section
namespace Go.Proofs.YtfnpmncplaibiaaGreatDoor
open Go Go.Vc Go.Proofs
open Go.ChangeShapes Go.WideShapes Go.ChangeAt Go.RowKit
section
variable {H:Type} {enc:TypeId×Value->H} {W:World} {cs:List Value} {x:DataW H×List MemPlace} {held:Bool} {fuel:Nat}
theorem terms_in (h:DataW.trod enc P W 0 (λ_=>true) held fuel xg cs=some x):∃v ks,cs=[v]/\TmsR (λ_=>True) W v ks/\∀k,k∈ks->Z7 k=true:=by
 rcases DataW.trod_slice QR h with⟨rfl,_⟩|⟨a,len,cap,elems,rest,n,_,rfl,_,_,e,hm,f,b,_,_⟩
 .exact⟨_,[],rfl,TmsR.nil,λk c=>by cases c⟩
 .obtain⟨css,ys,hs,j,l,d⟩:=each_in (α:=M.Tm) (R:=λcs t=>TmR (λ_=>True) W cs t/\Z7 t=true) xb0 dC e hm f b λcs x g=>term_in _ g;refine⟨_,ys,rfl,⟨css,hs,oM,λi hi=>(d i oM).1⟩,λk c=>?_⟩;obtain⟨i,hi,rfl⟩:=gn c;have:=(d i oM).2;rwa[y2,V0 hi] at this
end
abbrev kidsT (ts:List M.Tm):M.Tm:= .mk 0 0 0 ⟨#[]⟩ ts
end Go.Proofs.YtfnpmncplaibiaaGreatDoor
end
namespace Go.Proofs.YtfnpmncplaibiaaGreatDoor
open Go Go.Vc Go.Proofs
section
variable {ds:List M.Dcl} {ts:List M.Tm}
theorem yM0 {n:Nat} {ds:List M.Dcl} {c:M.Cnf} (h:ds.length<=4):(M.searchM n ds c).1.length<=4:=by
 unfold M.searchM;dsimp only;split
 .rw[M.envB_len];exact h
 .split<;>simp
theorem xP0 {n:Nat} {ds:List M.Dcl} {ts:List M.Tm} {ns:List (oI)} (h:ds.length<=4):(M.solveM n ds ts ns).1.length<=4:=by
 unfold M.solveM;split
 .simp
 .exact yM0 h
theorem j10 (ds:List M.Dcl) (ts:List M.Tm):(qW ds ts []).1.length<=4:=by
 by_cases h:zd0 ds ts=true
 .have a:=(M.decl_iff.1 (all8_iff.1 h).2.1).1;unfold qW;rw[y3 h];exact xP0 a
 .rw[Wd h];decide
end
end Go.Proofs.YtfnpmncplaibiaaGreatDoor
section
namespace Go.Proofs.YtfnpmncplaibiaaGreatDoor
open Go Go.Vc Go.Proofs
variable {w w':World} {K:oK} {F D G S:oA} {n k:Nat} {v lv va vb dv tv:Value} {ds:List M.Dcl} {ts:List M.Tm} {c:List M.Lay}
structure FitL (c:List M.Lay):Prop where
 b:CtxB c
 fit:∀i,i<c.length->∀t,t∈(c.getD i ([],[])).2->x60 t=true
 sz:∀i,i<c.length->M.szT (c.getD i ([],[])).2 (c.getD i ([],[])).2.length<=1048576
theorem sz_le (ks:List M.Tm):∀i:Nat,i<=ks.length->i<=M.szT ks i
 |0,_=>gF _
 |i+1,h=>by
  have:=sz_le ks i oM;have e:=M.szT_succ (ks:=ks) (i:=i) oM;have:=M.szT_all (ks.getD i default);omega
theorem jZ0 {i:Nat} (hi:i<c.length):(M.decL (c.take (i+1))).length=(M.decL (c.take i)).length+(c.getD i ([],[])).1.length:=by rw[M.decL_take hi,q0]
theorem qX0 {i:Nat} (hi:i<c.length):(M.terL (c.take (i+1))).length=(M.terL (c.take i)).length+(c.getD i ([],[])).2.length:=by rw[M.terL_take hi,q0]
theorem lay_decs {i:Nat} (hi:i<c.length) (h:CtxB c):(c.getD i ([],[])).1.length<=1048576:=by
 have:=(ctxB_take h (i+1)).dec;rw[jZ0 hi] at this;omega
theorem lay_ters {i:Nat} (hi:i<c.length) (h:CtxB c):(c.getD i ([],[])).2.length<=1048576:=by
 have:=(ctxB_take h (i+1)).ter;rw[qX0 hi] at this;omega
theorem szLayer_spec {left:Int} {l:M.Lay} (s:DclsR F w dv l.1) (v:kq l.1) (u:TmsR F w tv l.2) (hs:∀k,k∈l.2->Z7 k=true) (n:0<=left) (o:left<=1048576)
  (g:∀w' r,Ext w w'->(r= -1\/0<=r/\r+l.1.length+M.szT l.2 l.2.length<=left/\∀k,k∈l.2->x60 k=true)->K (nI r) w'):vcall Vi #[.agg ⟨[dv,tv]⟩,nI left] w K:=by
 refine ze {} Tryz.func72 ?_;refine zj λb1 w1 q c t b=>?_;simp only[push_cast,b.ld0];refine szDeclS_sum n o v (s.ext c) λw2 r d z=>?_;have f:=c.trans d;refine oZ ?_;refine zb (λ_=>g _ _ f (.inl rfl)) (λa=>?_);have p:=b.ext d;simp only[push_cast,p.ld1];refine szTermS_of (λk _=>szTerm_spec k) (u.ext f) hs oM oM λD A i j=>?_;have m:=f.trans i;refine oZ ?_;refine zb (λ_=>g _ _ m (.inl rfl)) (λy=>?_);rcases j with h|⟨x,B,C,e⟩
 .omega
 .exact g _ _ m (.inr ⟨x,oM,e⟩)
theorem szLayerS_spec {left:Int} (s:LaysR F w v c) (E:∀l,l∈c->kq l.1) (hs:∀l,l∈c->∀k,k∈l.2->Z7 k=true) (I:0<=left) (x:left<=1048576)
  (n:∀w' r,Ext w w'->(r= -1\/0<=r/\FitL c)->K (nI r) w'):vcall JY #[v,nI left] w K:=by
 refine ze {loops:=[(5,[1,5])]} Tryz.func31 ?_;have B:c.length<=9223372036854775807:=by
  obtain⟨css,x,J,_⟩:=s;have:=Sl.small x;rw[y4] at this;omega
 simp only[push_cast,s.len];rw[show IntKind.i64.wrap (left-(c.length:Int))=left-c.length from zk oM oM];refine zb (λa=>n _ _ (Same.refl _ _) (.inl rfl)) (λa=>?_);refine vloop_up c.length (λi u w'=> ∃r:Int,u=[nI r,nI i]/\Ext w w'/\0<=r/\r+(M.decL (c.take i)).length+(M.terL (c.take i)).length<=left-c.length/\∀j,j<i->(∀t,t∈(c.getD j ([],[])).2->x60 t=true)/\M.szT (c.getD j ([],[])).2 (c.getD j ([],[])).2.length<=1048576)
  ⟨_,rfl,Same.refl _ _,oM,by simp[M.decL,M.terL],λj g=>absurd g oM⟩ ?_
 rintro i _ _ w1 C hi ⟨r,rfl,he,y,G,p⟩ z;have f:=s.ext he;simp(disch:=exact oS) only[push_cast,f.len];refine zb (λd=>?_) (λd=>?_)
 .have b:i<c.length:=oM;have hm:=M.getD_mem b ([],[]);have L:=jZ0 b;have N:=qX0 b;have O:=sz_le (c.getD i ([],[])).2 _ (gp _);simp(disch:=exact oS) only[push_cast,f.iaddr,gl];refine f.load J3 b λdv tv A D=>?_;refine szLayer_spec A (E _ hm) D (hs _ hm) y oM λw2 H m q=>?_;refine oZ ?_;refine zb (λd=>n _ _ (he.trans m) (.inl rfl)) (λd=>?_);rw[inc64' oM];rcases q with h|⟨g0,g1,g2⟩
  .omega
  refine z oM _ _ ⟨H,rfl,he.trans m,g0,oM,λj g=>?_⟩;by_cases e:j<i
  .exact p j e
  .have:j=i:=oM;subst this;exact⟨g2,oM⟩
 .have o:i=c.length:=oM;subst o;rw[gy] at G;exact n _ _ he (.inr ⟨y,⟨oM,oM,oM⟩,λj g=>(p j g).1,λj g=>(p j g).2⟩)
structure LaysO (w:World) (n:Nat) (lv:Value) (c:List M.Lay) (m:Nat) (css:List (Value×Value)) (H Q:Nat->Nat):Prop where
 row:Own 0 2 qq w lv (css.map λp=>[p.1,p.2])
 len:css.length=c.length
 low:∀b,lv.ownBlock=some b->n<=b/\b<H 0
 base:n<=H 0
 up:∀i,i<m->H i<=Q i/\Q i<=H (i+1)
 top:H m<=w.heap.size
 dec:∀i,i<m->OwnD w (css.getD i (undef,undef)).1 (c.getD i ([],[])).1/\∀b,(css.getD i (undef,undef)).1.ownBlock=some b->H i<=b/\b<Q i
 ter:∀i,i<m->∃cs Ds,qB0 w (λb=>Q i<=b/\b<H (i+1)) (css.getD i (undef,undef)).2 (c.getD i ([],[])).2 cs Ds
theorem LaysO.mono {m:Nat} {css:List (Value×Value)} {H Q:Nat->Nat} (h:LaysO w n lv c m css H Q):∀{i j:Nat},i<=j->j<=m->H i<=H j:=by
 intro i j a;induction a with
 |refl=>intro _;exact gp _
 |step _ d=>intro hm;have b:=h.up _ (Nat.lt_of_succ_le hm);exact gH (d (Nat.le_of_succ_le hm)) (gH b.1 b.2)
theorem LaysO.same {m:Nat} {css:List (Value×Value)} {H Q:Nat->Nat} (h:LaysO w n lv c m css H Q) (hw:Same S w w') (d:∀b,n<=b->b<w.heap.size->¬S b):LaysO w' n lv c m css H Q:=by
 refine⟨h.row.same hw λb a=>d b (h.low b a).1 (h.row.lt a).2,h.len,h.low,h.base,h.up,gH h.top hw.size,λi hi=>⟨(h.dec i hi).1.same hw λb a=>?_,(h.dec i hi).2⟩,λi hi=>?_⟩
 .have:=(h.dec i hi).2 b a;have:=h.base;have:=h.mono (gF i) oM;exact d b oM (Own.lt (h.dec i hi).1 a).2
 .obtain⟨cs,Ds,e⟩:=h.ter i hi;refine⟨cs,Ds,qJ e hw λb a=>?_⟩;have:=h.base;have:=h.up i hi;have:=h.mono (gF i) oM;have:=h.mono (show i+1<=m by omega) (gp _);have:=h.top;exact d b oM oM
theorem LaysO.ext {m:Nat} {css:List (Value×Value)} {H Q:Nat->Nat} (h:LaysO w n lv c m css H Q) (hw:Ext w w'):LaysO w' n lv c m css H Q:=h.same hw λ_ _ _ h=>h
theorem LaysO.lays {css:List (Value×Value)} {H Q:Nat->Nat} (h:LaysO w n lv c c.length css H Q):LaysR (λb=>n<=b) w lv c:=by
 refine⟨css,h.row.sl.weaken λb a _=>(h.low b a).1,h.len,λi hi=>⟨(h.dec i hi).1.dcls.weaken λb a _=>?_,?_⟩⟩
 .have:=(h.dec i hi).2 b a;have:=h.base;have:=h.mono (gF i) oM;omega
 .obtain⟨cs,Ds,d⟩:=h.ter i hi;refine(xn0 d).weaken λb a _=>?_;have:=h.base;have:=h.up i hi;have:=h.mono (gF i) oM;omega
theorem toLayer_own {l:M.Lay} (hd:DclsR F w dv l.1) (H:l.1.length<=1048576) (ht:TmsR F w tv l.2) (L:l.2.length<=1048576) (hf:∀k,k∈l.2->x60 k=true)
  (Z:∀w' o C q cs Ds,Ext w w'->w.heap.size<=q->q<=w'.heap.size->OwnD w' o l.1->(∀b,o.ownBlock=some b->w.heap.size<=b/\b<q)->qB0 w' (λb=>q<=b/\b<w'.heap.size) C l.2 cs Ds->K (.agg ⟨[o,C]⟩) w'):
  vcall Vf #[.agg ⟨[dv,tv]⟩] w K:=by
 refine ze {} Tryz.func73 ?_;refine zj λb1 w1 a0 A a3 U=>?_;refine zi jI λb2 w2 a1 p a4 V=>?_;refine zi jI λb3 w3 a2 g a5 W=>?_;have O:=(U.ext p).ext g;have z1:=A.size;have z2:=p.size;have z3:=g.size;have D:=(A.trans p).trans g;simp only[push_cast,O.ld0];refine toDeclS_own (hd.ext D) H λQ f c I j=>?_;have z4:=c.size;have a:OwnD Q f l.1:=I;refine(W.ext c).st (i:=0) a.dcls.cellsV a.dcls.one QQ rfl λR m a6 X=>?_;have q5:=(O.ext c).same m oM;simp only[push_cast,q5.ld1];have T:Ext w R:=Ext.then (D.trans c) m λy B=>by subst B;omega
 refine toTermS_own (λk _=>toTerm_own k) (ht.ext T) L hf λw6 u cs Ds h v=>?_;have z6:=h.size;have n:=xn0 v;refine(X.ext h).st (i:=1) n.cellsV n.one xy rfl λN r a7 G=>?_;replace G:Blk N b3 [f,u] xb:=G;rw[G.ldAgg (t:=xb) xL];have z:=((a.same m λb d e=>by have:=j b d;omega).ext h).same r λb d e=>by have:=j b d;omega
 have x:=qJ v r λb d e=>oM
 have s2:Same (· =b3) Q N:=(m.trans (Same.of_ext h)).trans r;have E:=((V.ext g).ext c).same s2 oM;refine E.stAgg (cs':=[f,u]) rfl xL (two_one (OwnD.dcls (w:=N) (ds:=l.1) z).one (xn0 x).one) λS s a8 Y=>?_;rw[Y.lv (t:=xb) xL];have J:=λb d=>(Own.lt a (b:=b) d).2;refine Z S f u R.heap.size cs Ds (Ext.then (Ext.then (D.trans c) s2 λy B=>by subst B;omega) s λy B=>by subst B;omega) oM oM (z.same s λb d e=>by have:=j b d;omega) (λb d=>?_) ?_
 .have:=j b d;have:=J b d;omega
 .have:=qJ x s λb d e=>oM;rwa[show S.heap.size=w6.heap.size by omega]
theorem toLayerS_own (R:LaysR F w v c) (E:FitL c) (U:∀w' v' css H Q,Ext w w'->LaysO w' w.heap.size v' c c.length css H Q->K v' w'):vcall ZH #[v] w K:=by
 refine ze {loops:=[(3,[4])]} Tryz.func32 ?_;have hlen:=E.b.len;simp only[push_cast,R.len];refine vmkS_agg (cs:=[oN,oN]) Us dC (by rw[VY];exact jI) oM oM λv1 w1 D z A=>?_;have z1:=z.size;have J:∀b,v1.ownBlock=some b->b<w1.heap.size:=λb d=>(D.lt d).2;refine vloop_up c.length (λi u w'=>u=[nI i]/\Ext w w'/\∃css H Q,LaysO w' w.heap.size v1 c i css H Q)
  ⟨rfl,z,List.replicate c.length (oN,oN),λ_=>w1.heap.size,λ_=>w1.heap.size,⟨by rw[GF];exact D,by simp,λb d=>⟨A b d,J b d⟩,z1,λi hi=>absurd hi (pI _),gp _,λi hi=>absurd hi (pI _),λi hi=>absurd hi (pI _)⟩⟩ ?_
 rintro i _ _ w2 C hi ⟨rfl,o,css,H,Q,hO⟩ T;have s:=R.ext o;simp only[push_cast,s.len];refine zb (λa=>?_) (λa=>?_)
 .have h:i<c.length:=oM;simp(disch:=exact oS) only[push_cast,s.iaddr,gl];refine s.load J3 h λdv tv W Z=>?_;refine toLayer_own W (lay_decs h E.b) Z (lay_ters h E.b) (E.fit i h) λw3 l n q cs Ds r X Y y B x=>?_;have g:=hO.ext r;have z3:=r.size;have N:=g.row.sl;have V:(css.map λp=>[p.1,p.2]).length=c.length:=(by rw[y4,hO.len]);simp(disch:=exact oS) only[push_cast,N.iaddr,gl];refine own_stEl g.row dC rfl (two_one y.dcls.one (xn0 x).one) xL oM λw4 M k a0=>?_;rw[inc64' oM];have f:∀{j:Nat},j<=i->H 0<=H j:=λt=>hO.mono (gF _) t;have m:∀b,H 0<=b->¬v1.ownBlock=some b:=λb d e=>by have:=(hO.low b e).2;omega
  have O:=hO.top;have S:=f (gp i);have gS:∀j,j≠i->(css.set i (l,n)).getD j (undef,undef)=css.getD j (undef,undef):=λj t=>by
   rw[y2,Pb,y0 (λe=>t e.symm),<-y2]
  have gI:(css.set i (l,n)).getD i (undef,undef)=(l,n):=by
   rw[y2,Pb,y3 rfl,y3 (by rw[hO.len];exact h)];rfl
  refine T h _ _ ⟨rfl,Ext.then (o.trans r) k λb d=>A b d,css.set i (l,n),λj=>if j<=i then H j else w3.heap.size,λj=>if j<i then Q j else q,?_⟩;refine⟨by rw[List.map_set];exact M,by rw[gK];exact hO.len,λb d=>by rw[y3 (gF _)];exact hO.low b d,by rw[y3 (gF _)];exact hO.base,λj t=>?_,?_,λj t=>?_,λj t=>?_⟩
  .by_cases e:j<i
   .rw[y3 oM,y3 e,y3 oM];exact hO.up j e
   .have:j=i:=oM;subst this;rw[y3 (gp _),y0 e,y0 oM];omega
  .rw[y0 oM];omega
  .by_cases e:j<i
   .rw[gS j oM,y3 oM,y3 e];refine⟨(g.dec j e).1.same k λb d=>m b ?_,(g.dec j e).2⟩;have:=(g.dec j e).2 b d;have:=f (Nat.le_of_lt e);omega
   .have:j=i:=oM;subst this;rw[gI,y3 (gp _),y0 e];exact⟨y.same k λb d=>m b (by have:=B b d;omega),λb d=>by have:=B b d;omega⟩
  .by_cases e:j<i
   .obtain⟨cs',G,L⟩:=g.ter j e;rw[gS j oM,y3 e,y3 oM];refine⟨cs',G,qJ L k λb d=>m b ?_⟩;have:=f (Nat.le_of_lt e);have:=hO.up j e;omega
   .have:j=i:=oM;subst this;rw[gI,y0 e,y0 oM];exact⟨cs,Ds,qJ x k λb d=>m b oM⟩
 .have I:i=c.length:=oM;subst I;exact U w2 v1 css H Q o hO
theorem Z5 (e:LaysR F w v c) (d:FitL c) (a:∀w' v',Ext w w'->LaysR (λb=>w.heap.size<=b) w' v' c->K v' w'):vcall ZH #[v] w K:=
 toLayerS_own e d λw' v' _ _ _ he hO=>a w' v' he hO.lays
theorem ym0 {l:M.Lay} {d2 t2:Value} (n:DclsR F w dv l.1) (o:TmsR F w tv l.2) (p:DclsR G w d2 l.1) (q:TmsR G w t2 l.2) (r:∀w',Ext w w'->K (.bool true) w'):vcall Vl #[.agg ⟨[dv,tv]⟩,.agg ⟨[d2,t2]⟩] w K:=by
 refine ze {} Tryz.func74 ?_;refine zj λb1 w1 s g u f=>?_;refine zj λb2 w2 t c v b=>?_;have d:=g.trans c;have m:=f.ext c;simp only[push_cast,m.ld0,b.ld0];refine eqDeclS_same (n.ext d) (p.ext d) λy a=>?_;have e:=d.trans a;simp only[push_cast,Gh];have i:=m.ext a;have j:=b.ext a;simp only[push_cast,i.ld1,j.ld1];refine eqTermS_of (λk _=>x80 k) (o.ext e) (q.ext e) λx h=>?_;simp only[push_cast,Gh];exact r x (e.trans h)
theorem eqLayerS_same (g:LaysR F w va c) (p:LaysR G w vb c) (s:∀w',Ext w w'->K (.bool true) w'):vcall K4 #[va,vb] w K:=by
 refine ze {loops:=[(4,[5])]} Tryz.func34 ?_;have t:c.length<=9223372036854775807:=by
  obtain⟨css,q,o,_⟩:=g;have:=Sl.small q;rw[y4] at this;omega
 simp only[push_cast,g.len,p.len];refine zb (λh=>absurd rfl h) (λh=>?_);refine vloop_up c.length (λi u w'=>u=[nI i]/\Ext w w') ⟨rfl,Same.refl _ _⟩ ?_;rintro i _ _ w1 C hi ⟨rfl,he⟩ r;have d:=g.ext he;simp only[push_cast,d.len];refine zb (λo=>?_) (λo=>?_)
 .have b:i<c.length:=oM;refine zd λw2 a _=>?_;have e:=d.ext a;have f:=(p.ext he).ext a;simp(disch:=exact oS) only[push_cast,e.iaddr,f.iaddr,gl,y1];refine e.load xL b λd1 t1 j m=>?_;simp only[push_cast,y1];refine f.load xL b λd2 t2 k n=>?_;simp only[push_cast,y1];refine ym0 j m k n λv l=>?_;simp only[push_cast,Gh,y1];rw[inc64' oM];exact r b _ _ ⟨rfl,(he.trans a).trans l⟩
 .exact s w1 he
theorem markLayerS_spec {css:List (Value×Value)} {H Q:Nat->Nat} {k:Int} (hO:LaysO w n v c c.length css H Q) (F:FitL c) (W:0<=k) (R:k<=1048576)
  (hK:∀w' r,Same (λb=>n<=b/\b<H c.length) w w'->0<=r->K (nI r) w'):vcall Qg #[v,nI k] w K:=by
 refine ze {loops:=[(2,[1,5])]} Tryz.func35 ?_;have hlen:=F.b.len;have D:=hO.base;have T:=hO.top;refine vloop_up c.length (λi u w'=> ∃r,u=[nI r,nI i]/\Same (λb=>n<=b/\b<H c.length) w w'/\0<=r/\r<=1048576+8388608*(i:Int)/\Own 0 2 qq w' v (css.map λp=>[p.1,p.2])/\
   (∀j,i<=j->j<c.length->OwnD w' (css.getD j (undef,undef)).1 (c.getD j ([],[])).1)/\∀j,i<=j->j<c.length->∃cs Ds,qB0 w' (λb=>Q j<=b/\b<H (j+1)) (css.getD j (undef,undef)).2 (c.getD j ([],[])).2 cs Ds)
  ⟨k,rfl,Same.refl _ _,W,oM,hO.row,λj _ G=>(hO.dec j G).1,λj _ G=>hO.ter j G⟩ ?_
 rintro i _ _ w2 C hi ⟨U,rfl,A,k0,k1,m,t,y⟩ X;have q:=m.sl;have E:(css.map λp=>[p.1,p.2]).length=c.length:=by rw[y4,hO.len]
 simp only[push_cast,Sl.len q,E];refine zb (λa=>?_) (λa=>?_)
 .have d:i<c.length:=oM;have S:(css.map λp=>[p.1,p.2]).getD i []=[(css.getD i (undef,undef)).1,(css.getD i (undef,undef)).2]:=M.getD_map _ (by rw[hO.len];exact d) _ (undef,undef);have a2:=hO.up i d;have Y:=hO.mono (gF i) (Nat.le_of_lt d);have Z:=hO.mono (show i+1<=c.length by omega) (gp _);simp(disch:=exact oS) only[push_cast,q.iaddr,gl];rw[Sl.ldField q QS (i:=i) (j:=0) (x:=(css.getD i (undef,undef)).1) oM (by rw[S];rfl)];have a0:=lay_decs d F.b;have l:=(hO.dec i d).2;have hd:=t i (gp _) d;refine markDeclS_spec hd k0 (by rw[y4];omega) λw3 o=>?_;rw[y4];have z:∀b,H 0<=b->¬v.ownBlock=some b:=λb f e=>by have:=(hO.low b e).2;omega
  have I:=m.same o λb f e=>z b (by have:=l b e;omega) f;have h:=I.sl
  try simp(disch:=exact oS) only[push_cast,h.iaddr,gl]
  rw[Sl.ldField h qD (i:=i) (j:=1) (x:=(css.getD i (undef,undef)).2) oM (by rw[S];rfl)];obtain⟨cs,Ds,ht⟩:=y i (gp _) d;have N:=qJ ht o λb f e=>by have:=l b e;omega
  have a1:=F.sz i d;refine markTermS_spec (kidsT (c.getD i ([],[])).2) N oM (by show _+4*(M.szT (c.getD i ([],[])).2 (c.getD i ([],[])).2.length:Int)<_;omega) λV a3 O J _ _ _=>?_;show C [nI (U+2*((c.getD i ([],[])).1.length:Int)+4*(M.szT (c.getD i ([],[])).2 (c.getD i ([],[])).2.length:Int)),_] V;rw[inc64' oM];have lo:∀b,(H i<=b/\b<Q i)\/(Q i<=b/\b<H (i+1))->H i<=b/\b<H (i+1):=λb f=>oM;have g:Same (λb=>H i<=b/\b<H (i+1)) w2 V:=(o.mono λb _ f=>lo b (.inl (l b f))).trans (J.mono λb _ f=>lo b (.inr f));refine X d _ _ ⟨_,rfl,A.trans (g.mono λb _ f=>oM),oM,oM,m.same g λb f e=>z b oM f,λj R s=>(t j oM s).same g λb f e=>?_,λj R s=>?_⟩
  .have:=(hO.dec j s).2 b f;have:=hO.mono (show i+1<=j by omega) oM;omega
  .obtain⟨cs',B,L⟩:=y j oM s;refine⟨cs',B,qJ L g λb f e=>?_⟩;have:=hO.mono (show i+1<=j by omega) oM;have:=hO.up j s;omega
 .exact hK w2 U A k0
section
open Go.ChangeShapes Go.WideShapes Go.ChangeAt Go.RowKit
variable {H:Type} {enc:TypeId×Value->H} {W:World} {cs:List Value} {x:DataW H×List MemPlace} {held:Bool} {fuel:Nat}
theorem YA0:P.underlying xC=some (.struct #[⟨"Decls",xM,0,false,"","",0⟩,⟨"Terms",xg,1,false,"","",24⟩]):=rK
theorem c1_Ld:P.cellsOf xM=1:=rK
theorem xF0:P.cellsOf xC=2:=rK
theorem Zo0 (h:DataW.trod enc P W 0 (λ_=>true) held fuel xC cs=some x):∃l:M.Lay,(∃dv tv,cs=[dv,tv]/\DclsR (λ_=>True) W dv l.1/\TmsR (λ_=>True) W tv l.2)/\kq l.1/\∀k,k∈l.2->Z7 k=true:=by
 obtain⟨xs,n,_,_,f,hlen,e⟩:=DataW.trod_struct YA0 h;rw[xF0] at f;obtain⟨c0,c1,rfl⟩:=list2 f;obtain⟨m,o,rfl⟩:=list2 (α:=DataW H×List MemPlace) hlen
 .have c:=e 0 ⟨"Decls",xM,0,false,"","",0⟩ rfl;have d:=e 1 ⟨"Terms",xg,1,false,"","",24⟩ rfl;simp only[c1_Ld,XH0,PC,pW,pt,Pw,pz,pA] at c d;obtain⟨dv,ds,a,g,j⟩:=decls_in c;obtain⟨tv,ts,b,i,hs⟩:=terms_in d;simp only[gP,gQ] at a b;subst a b;exact⟨(ds,ts),⟨_,_,rfl,g,i⟩,j,hs⟩
theorem layers_in (h:DataW.trod enc P W 0 (λ_=>true) held fuel xR cs=some x):∃v c,cs=[v]/\LaysR (λ_=>True) W v c/\(∀l,l∈c->kq l.1)/\∀l,l∈c->∀k,k∈l.2->Z7 k=true:=by
 rcases DataW.trod_slice Xu h with⟨rfl,_⟩|⟨a,len,cap,elems,rest,n,_,rfl,_,_,b,hm,o,f,_,_⟩
 .exact⟨_,[],rfl,LaysR.nil,λl b=>(by cases b),λl b=>(by cases b)⟩
 .obtain⟨css,ys,hs,t,u,d⟩:=each_in (α:=M.Lay) (R:=λcs l=>(∃dv tv,cs=[dv,tv]/\DclsR (λ_=>True) W dv l.1/\TmsR (λ_=>True) W tv l.2)/\kq l.1/\∀k,k∈l.2->Z7 k=true) xF0 dC b hm o f λcs x s=>Zo0 s;have m:∀{i:Nat},i<ys.length->ys.getD i default=ys.getD i ([],[]):=λ{i} hi=>by rw[y2,V0 hi,y2,V0 hi];rfl
  have mem:∀l,l∈ys->kq l.1/\∀k,k∈l.2->Z7 k=true:=λl b=>by
   obtain⟨i,hi,rfl⟩:=gn b;have:=(d i oM).2;rwa[y2,V0 hi] at this
  refine⟨_,ys,rfl,⟨css.map λq=>(q.getD 0 undef,q.getD 1 undef),?_,by rw[y4];omega,λi hi=>?_⟩,λl b=>(mem l b).1,λl b=>(mem l b).2⟩
  .have e:(css.map λq=>(q.getD 0 undef,q.getD 1 undef)).map (λp=>[p.1,p.2])=css:=by
    rw[G7];refine(GC λq r=>?_).trans (List.map_id _);obtain⟨i,hi,rfl⟩:=gn r;obtain⟨⟨dv,tv,e,_⟩,_⟩:=d i oM;rw[y2,V0 hi] at e;simp only[GO] at e;rw[e];rfl
   rw[e];exact hs
  .obtain⟨⟨dv,tv,e,g,j⟩,_⟩:=d i oM;rw[m hi] at g j;rw[M.getD_map _ oM _ [],e];exact⟨g,j⟩
end
end Go.Proofs.YtfnpmncplaibiaaGreatDoor
end
namespace Go.Proofs.YtfnpmncplaibiaaGreatDoor
open Go Go.Vc Go.Proofs
section
variable {w:World} {K:oK} {F G:oA} {v dv tv:Value} {ds:List M.Dcl} {c:List M.Lay} {ar ab at_ an am:Addr}
theorem CtxSolve_own (t:LaysR F w v c) (q:CtxB c) (er:Er w at_ an am ar ab) (p:∀w' ev,Ext w w'->OwnI zh w' ev (kJ0 c).1->(∀x,ev.ownBlock=some x->w.heap.size<=x)->K (.tuple #[ev,nI (kJ0 c).2]) w'):vcall Kh #[v] w K:=by
 refine ze {} Tryz.func24 ?_;refine flat_spec t q λw1 b dv tv mv i o=>?_;refine ok_spec o q λw2 d=>?_;have n:=i.trans d;refine oZ ?_;refine zn (λa=>?_) (λa=>?_)
 .have:=p w2 (oN) n;have s: ¬M.ctxOk c=true:=(by simpa using a);unfold kJ0 at this;rw[y0 s] at this;exact this OwnI.nil λx m=>by cases m
 .have f:M.ctxOk c=true:=(by simpa using a);refine zd λy e _=>?_;have h:=n.trans e;have z3:=h.size;have g:=(o.ext d).ext e;simp only[push_cast,g.blk.ld0,g.blk.ld1,y1];have r:=(M.ctx_iff.1 f).2.2.2.1;refine qm0 g.dec.dcls g.ter.tms oM (er.ext h) λu ev j k l=>?_
  try simp only[push_cast,y1]
  have:=p u ev (h.trans j);unfold kJ0 at this;rw[y3 f] at this;exact this k λx m=>by have:=l x m;omega
theorem ZP0 (c:List M.Lay):(kJ0 c).1.length<=4:=by
 unfold kJ0;split
 .exact j10 _ _
 .simp
theorem j20 (h:∀d,d∈ds->d.1.size<=9223372036854775807):kq ds:=λi hi=>h _ (M.getD_mem hi _)
theorem j30 (h:∀l,l∈c->kq l.1):kq (M.decL c):=j20 λd a=>by
 unfold M.decL at a;obtain⟨_,b,a⟩:=Ph.1 a;obtain⟨l,e,rfl⟩:=gr.1 b;obtain⟨i,hi,rfl⟩:=gn a;have:=h l e i hi;rwa[y2,V0 hi] at this
theorem FnExactCtxSolve_spec (hv:LaysR F w v c) (hz:∀l,l∈c->kq l.1) (hs:∀l,l∈c->∀k,k∈l.2->Z7 k=true) (er:Er w at_ an am ar ab) (hK:∀w',Ext w w'->K (.bool true) w'):vcall Zs #[v] w K:=by
 have b7:=ZP0 c;have ao:=j30 hz;refine ze {cuts:=[(36874,[]),(61456,[])]} Tryz.func6 ?_;refine szLayerS_spec hv hz hs dC dC λw1 r V hr=>?_;refine oZ ?_;refine zb (λ_=>hK _ V) (λc0=>?_);rcases hr with h|⟨r0,M⟩
 .omega
 refine Z5 (hv.ext V) M λw4 xv al ap=>?_;have ak:=V.trans al;refine spec_CtxSolve_spec ap M.b ao λw6 aj aa X b6=>?_;have S:=ak.trans aa;have b8:=aa.size;have ac:∀b,aj.ownBlock=some b->b<w6.heap.size:=λb U=>X.lt U;refine oZ ?_;refine toLayerS_own (hv.ext S) M λw8 x0 css H Q W B=>?_;have T:=S.trans W;have b9:=W.size;refine CtxSolve_own B.lays M.b (er.ext T) λw10 ev i N z=>?_;have a0:=T.trans i;have b1:=i.size;have s:Ext w6 w10:=W.trans i;refine oZ ?_;refine zo (λu w'=>u=[]/\Ext w10 w') (λC hC=>?_) ?_
 .refine eqIntS_same N.ints (X.ext s).ints λau g=>?_;simp only[push_cast,Gh];exact zb (λh=>absurd rfl h) (λ_=>hC _ _ ⟨rfl,g⟩)
 rintro _ _ au ⟨rfl,g⟩;have D:=a0.trans g;refine Z5 (hv.ext D) M λav b4 o ae=>?_;have a1:=D.trans o;have t:Ext w8 av:=i.trans (g.trans o);refine eqLayerS_same (B.lays.ext t) ae λaw p=>?_;simp only[push_cast,Gh];have a2:=a1.trans p;have x:=t.trans p;have d:Ext w10 aw:=g.trans (o.trans p);have aq:=x.size;have ah:=d.size;have a6:=B.ext x;have b0:=B.top;refine markLayerS_spec (n:=w6.heap.size) (k:=1) a6 M dC dC λZ ba m az=>?_;have b2:=m.size;have a3:Ext w Z:=Ext.then a2 m λy hy=>by have:=S.size;omega
 have A:=X.same ((Same.of_ext (s.trans d)).trans m) λb U e=>by have:=ac b U;omega
 have j:=N.same ((Same.of_ext d).trans m) λb U e=>by have:=z b U;omega
 have ai:w10.heap.size<=Z.heap.size:=oM
 refine zo (λu w'=>u=[]/\Ext Z w') (λC hC=>?_) ?_
 .refine oZ ?_;refine zb (λa=>oM) (λ_=>?_);refine eqIntS_same j.ints A.ints λbb a7=>?_;simp only[push_cast,Gh];exact zb (λh=>absurd rfl h) (λ_=>hC _ _ ⟨rfl,a7⟩)
 rintro _ _ bc ⟨rfl,q⟩;have a4:=a3.trans q;refine markIntS_specX (k:=1) (j.ext q) oM oM λag R b3 O=>?_;have E:Ext w ag:=Ext.then a4 R λy hy=>by have:=z y hy;have:=T.size;omega
 have Y:=(A.ext q).same R λb U e=>by have:=ac b U;have:=z b e;omega
 refine heldIntS_specX (k:=1) O.ints oM oM λbd I=>?_;refine oZ ?_;refine zb (λa=>absurd a oM) (λ_=>?_);refine zb (λa=>absurd rfl a) (λ_=>?_);have G:=E.trans I;refine Z5 (hv.ext G) M λbe b5 J af=>?_;have a5:=G.trans J;refine CtxSolve_own af M.b (er.ext a5) λax ay a8 ad _=>?_;have f:Ext ag ax:=I.trans (J.trans a8);refine oZ ?_;refine eqIntS_same ad.ints (Y.ext f).ints λbf L=>?_;simp only[push_cast,Gh];refine zb (λh=>absurd rfl h) (λ_=>?_);refine heldIntS_specX (k:=1) (O.ext (f.trans L)).ints oM oM λbg a9=>?_;refine oZ ?_;refine zb (λa=>absurd a oM) (λ_=>?_);refine zb (λa=>absurd rfl a) (λ_=>?_);exact hK _ (E.trans (f.trans (L.trans a9)))
end
end Go.Proofs.YtfnpmncplaibiaaGreatDoor
section
namespace Go.Proofs.YtfnpmncplaibiaaGreatDoor
open Go Go.Vc Go.Proofs
open Go.RowKit
theorem laid_at {l:List (String×DataW Unit)} {W:World} (h:laidMet P l W):∀k,laidMet P (l.drop k) W
 |0=>h
 |k+1=>by
  have a:=laid_at h k;rw[<-List.tail_drop];cases b:l.drop k with
  |nil=>rw[b] at a;exact a
  |cons x r=>rw[b] at a;exact a.tail
theorem zu0: "*" ++ "errors.errorString" = "*errors.errorString" :=dC
theorem Z60 (u:TypeId) (h:P.typeName? 3 u=some "*errors.errorString"):u=yT:=
 typeName_ptr_named (nm:= "errors.errorString") (by rw[zu0];kernel_rfl) rK dC u (by rw[zu0];exact h)
def ifaceB (t:TypeId):Bool:=match P.underlying t with
 |some (.interface _)=>true
 |_=>false
theorem Zu0 {t:TypeId} (h:ifaceB t=true):∃ms,P.underlying t=some (.interface ms):=by
 unfold ifaceB at h;split at h
 .exact⟨_,by assumption⟩
 .cases h
theorem xQ0:∃ms,P.underlying xw=some (.interface ms):=Zu0 rK
def fieldB (t u:TypeId):Bool:=match P.underlying t with
 |some (.struct fs)=>match fs.toList with
  |[f]=>decide (f.type=u)&&decide (f.offset=0)
  |_=>false
 |_=>false
theorem Zz0 {t u:TypeId} (h:fieldB t u=true):∃f,P.underlying t=some (.struct #[f])/\f.type=u/\f.offset=0:=by
 unfold fieldB at h;split at h
 .rename_i fs a;split at h
  .rename_i f b;simp only[gd,X0] at h;refine⟨f,?_,h⟩;rw[a];congr 2;exact GI.1 (by simpa using b)
  .cases h
 .cases h
theorem Z70:P.underlying yT=some (.pointer 471):=rK
theorem yK0:∃f,P.underlying 471=some (.struct #[f])/\f.type=yy/\f.offset=0:=Zz0 rK
theorem yL0:P.underlying yy=some .string:=rK
theorem X60:P.cellsOf 471=1/\P.cellsOf yy=1:=⟨rK,rK⟩
theorem vars_len {H:Type} {enc:TypeId×Value->H} {w:World} {sp:Nat->Bool}:∀{ns:List String} {gs:List (DataW H)} {ps:List MemPlace},DataW.TrodVars enc P w sp ns gs ps->gs.length=ns.length
 |[],[],_,_=>rfl
 |[],_::_,_,h=>h.elim
 |_::_,[],_,h=>h.elim
 |_::_,_::_,_,⟨_,_,_,_,_,_,_,_,_,_,hs,_⟩=>by rw[gB,gB,vars_len hs]
theorem vlist5 {α:Type} {l:List α} (h:l.length=5):∃a b c d e,l=[a,b,c,d,e]:=by
 match l,h with
 |[a,b,c,d,e],_=>exact⟨a,b,c,d,e,rfl⟩
end Go.Proofs.YtfnpmncplaibiaaGreatDoor
end
section
namespace Go.Proofs.YtfnpmncplaibiaaGreatDoor
open Go Go.Vc Go.Proofs
open Go.RowKit
theorem XL {x y:String×DataW Unit} {r:List (String×DataW Unit)} {w:World} (h:laidMet P (x::y::r) w):laidMet P (x::r) w:=by
 obtain⟨ps,u,j,c⟩:=h;obtain⟨n,d⟩:=x;obtain⟨m,e⟩:=y;obtain⟨g,t,cs,fuel,p,q,o,a2,a3,a4,s,rfl⟩:=u;obtain⟨g2,t2,f,i,p2,l,_,_,_,_,k,rfl⟩:=s;have a:=pn (pL (MemPlace.row ⟨g,0,none⟩ cs.size++p)) (List.sublist_append_right (MemPlace.row ⟨g2,0,none⟩ f.size++p2) l);exact⟨_,⟨g,t,cs,fuel,p,l,o,a2,a3,a4,k,rfl⟩,List.Nodup.sublist a j,λb off hm=>c b off (a.subset hm)⟩
theorem jM {W:World} {g:Nat} {a c:Addr} (h:Sent W g a) (b:Sent W g c):a=c:=by
 unfold Sent at h b;rw[h] at b
 injection b with b
 injection b with _ b
 injection b with b
 exact K3 b
theorem Z9 {j k:String} {t0 t1:List UInt8} {r:List (String×DataW Unit)} {W:World} {g0 g1:Nat} (h:laidMet P ((j,.iface "*errors.errorString" (.ptr (.agg [.lit (.string t0)])))::(k,.iface "*errors.errorString" (.ptr (.agg [.lit (.string t1)])))::r) W)
  (c:P.globalNamed j=some g0) (g:(P.globals[g0]?).map (·.type)=some xw) (d:P.globalNamed k=some g1) (i:(P.globals[g1]?).map (·.type)=some xw):∃a b,Sent W g0 a/\Sent W g1 b/\a≠b/\RowA W a/\RowA W b:=by
 obtain⟨ms,hi⟩:=xQ0;obtain⟨f,m,n,o⟩:=yK0;obtain⟨a0,l,u,s1,c0,c1,s,t,v0,v1,_,_,_,_,_,_,e,p,q⟩:=laid_sentinels2 h c g d i hi Z60 Z70 m n o yL0 X60.1 X60.2;exact⟨a0,l,by unfold Sent;simpa using World.var?_cell c v0 0,by unfold Sent;simpa using World.var?_cell d v1 0,e,⟨c0,s,p⟩,⟨c1,t,q⟩⟩
theorem er_of {nr nb nt nn nm:String} {tr tb tt tn tm:List UInt8} {r l:List (String×DataW Unit)} {W:World} (h:laidMet P l W) (k:Nat)
  (B:l.drop k=(nr,.iface "*errors.errorString" (.ptr (.agg [.lit (.string tr)])))::(nb,.iface "*errors.errorString" (.ptr (.agg [.lit (.string tb)])))::(nt,.iface "*errors.errorString" (.ptr (.agg [.lit (.string tt)])))::(nn,.iface "*errors.errorString" (.ptr (.agg [.lit (.string tn)])))::(nm,.iface "*errors.errorString" (.ptr (.agg [.lit (.string tm)])))::r)
  (er:P.globalNamed nr=some xX) (eb:P.globalNamed nb=some je) (et:P.globalNamed nt=some yN) (en:P.globalNamed nn=some jp) (em:P.globalNamed nm=some qw)
  (fr:(P.globals[xX]?).map (·.type)=some xw) (fb:(P.globals[je]?).map (·.type)=some xw) (ft:(P.globals[yN]?).map (·.type)=some xw) (fn:(P.globals[jp]?).map (·.type)=some xw) (fm:(P.globals[qw]?).map (·.type)=some xw):
  ∃at_ an am ar ab,Er W at_ an am ar ab:=by
 have a:=laid_at h k;rw[B] at a;obtain⟨ar,ab,sr,sb,_,rr,_⟩:=Z9 a er fr eb fb;have b:=XL a;obtain⟨w,at_,j,st,C,_,rt⟩:=Z9 b er fr et ft;have q:=XL b;obtain⟨x,an,m,sn,D,_,rn⟩:=Z9 q er fr en fn;obtain⟨y,am,n,sm,E,_,rm⟩:=Z9 (XL q) er fr em fm;have c:=b.tail;obtain⟨z,u,o,g,F,_⟩:=Z9 c et ft en fn;obtain⟨A,s,p,d,G,_⟩:=Z9 (XL c) et ft em fm;obtain⟨v,t,i,f,n6,_⟩:=Z9 c.tail en fn em fm;obtain rfl:=jM j sr;obtain rfl:=jM m sr;obtain rfl:=jM n sr;obtain rfl:=jM o st;obtain rfl:=jM p st;obtain rfl:=jM g sn;obtain rfl:=jM i sn;obtain rfl:=jM d sm;obtain rfl:=jM f sm;exact⟨_,_,_,_,ab,st,sn,sm,⟨sr,sb,id,id⟩,rt,rn,rm,rr,λe=>F e.symm,λe=>G e.symm,λe=>n6 e.symm,C,D,E⟩
end Go.Proofs.YtfnpmncplaibiaaGreatDoor
end
end
