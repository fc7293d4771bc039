import Derived.Test.YtolbhkcajhlllaaGreatDoorWwbP13
import Derived.Deep.Slices
import Derived.OpenVars
import Derived.MakeChecks
import Derived.Stop.LaidErr
import Derived.Stop.LaidTwo
/- A part of the proof. -/
set_option linter.all false
set_option maxRecDepth 9999
set_option maxHeartbeats 2000000
noncomputable section
namespace Go.Proofs.YtolbhkcajhlllaaGreatDoor
open Go Go.Vc Go.Proofs Go.M
section
variable {w:World} {K:oK} {F F':Nat->Prop} {many:Nat} {c:Cnf} {s:Sat}
def SpR (Z:Nat->Prop) (w:World) (v:Value) (s:Sat):Prop:=
 ∃vp vw vl,v= .agg #[vp,vw,vl,nI s.code]/\OwnI zh w vp s.put/\OwnI zh w vw s.why/\(∀b,vp.ownBlock=some b->Z b/\vw.ownBlock≠some b)/\(∀b,vw.ownBlock=some b->Z b)/\
  Lists (λb=>Z b/\vp.ownBlock≠some b/\vw.ownBlock≠some b) w vl s.learned
section
variable {Z Z':Nat->Prop} {v:Value} {w':World}
theorem SpR.ext (h:SpR Z w v s) (he:Ext w w'):SpR Z w' v s:=by
 obtain⟨vp,vw,vl,e,a,b,c,d,f⟩:=h;exact⟨vp,vw,vl,e,a.ext he,b.ext he,c,d,f.ext he⟩
theorem SpR.same {S:Nat->Prop} (h:SpR Z w v s) (hw:Same S w w') (c:∀b,Z b->b<w.heap.size->¬S b):SpR Z w' v s:=by
 obtain⟨vp,vw,vl,e,d,f,g,i,j⟩:=h;exact⟨vp,vw,vl,e,d.same hw λb a=>c b (g b a).1 (d.lt a),f.same hw λb a=>c b (i b a) (f.lt a),g,i,j.same hw λb a=>c b a.1⟩
theorem SpR.weaken (h:SpR Z w v s) (c:∀b,Z b->b<w.heap.size->Z' b):SpR Z' w v s:=by
 obtain⟨vp,vw,vl,e,d,f,g,i,j⟩:=h;exact⟨vp,vw,vl,e,d,f,λb a=>⟨c b (g b a).1 (d.lt a),(g b a).2⟩,λb a=>c b (i b a) (f.lt a),j.weaken λb a k=>⟨c b a.1 k,a.2⟩⟩
theorem SpR.below (h:SpR Z w v s):SpR (λb=>Z b/\b<w.heap.size) w v s:=h.weaken λ_ a c=>⟨a,c⟩
theorem SpR.sat (h:SpR Z w v s):SatR Z w v s:=by
 obtain⟨vp,vw,vl,e,c,d,f,g,i⟩:=h;exact⟨vp,vw,vl,e,c.ints.weaken λb a _=>(f b a).1,d.ints.weaken λb a _=>g b a,i.weaken λb a _=>a.1⟩
theorem SpR.empty:SpR Z w (.agg #[.slice none 0 0,.slice none 0 0,.slice none 0 0,nI 0]) emptyS:=
 ⟨_,_,_,rfl,OwnI.nil,OwnI.nil,λb a=>(by cases a),λb a=>(by cases a),js0⟩
end
theorem copy_ints {v:Value} {xs:List Int} {b:Nat} {t:TypeId} (f:Blk w b [] zV) (a:Ints F w v xs) (c:xs.length*8<=140737488355328)
  (g:∀v' w',OwnI zh w' v' xs->Same (· =b) w w'->(∀x,v'.ownBlock=some x->x=b\/w.heap.size<=x)->K v' w'):vbi .append [zh,zh] t [.slice (some ⟨b,0,none⟩) 0 0,v] w K:=by
 have d:OwnI zh w (.slice (some ⟨b,0,none⟩) 0 0) []:=Blk.own1 (t:=zh) (cs:=[]) (by rw[qL];exact f) (gP _) rfl rfl oM;refine d.app (ys:=xs) xE a (by simp only[pN];omega) (by simpa using c) λv' w2 i hs h=>g v' w2 i (hs.mono λx _ a=>?_) λx a=>?_
 ·exact(X0 a).symm
 ·exact(h x a).imp (λe=>(X0 e).symm) id
theorem l5Back_spec {vp vw vl:Value} {L:Nat} (hp:OwnI zh w vp s.put) (hw:OwnI zh w vw s.why) (ac:vl.oneCell'=true) (hlen:s.put.length=s.why.length) (ag:s.put.length<=700) (hL:L<=700) (Y:∀k,k<s.why.length->s.why.getD k 0= -1\/0<=s.why.getD k 0)
  (hK:∀w' F y,Ext w w'->OwnI zh w' F (s.put.take (backN (yE s.why) L s.put.length))->OwnI zh w' y (s.why.take (backN (yE s.why) L s.put.length))->(∀b,F.ownBlock=some b->w.heap.size<=b/\y.ownBlock≠some b)->(∀b,y.ownBlock=some b->w.heap.size<=b)->K (.agg #[F,y,vl,nI s.code]) w'):
  vcall Ws #[.agg #[vp,vw,vl,nI s.code],nI L] w K:=by
 refine ze {loops:=[(3,[5,6])],cuts:=[(16392,[5])]} Tryz.func193 ?_;refine yq λb2 w2 ak a8 av a2=>?_;refine qk qT λb4 A al O aw a3=>?_;have B4:Blk A b2 [vp,vw,vl,nI s.code] zu:=a2.ext O;have R4:Blk A b4 [.slice none 0 0,.slice none 0 0,.slice none 0 0,nI 0] zu:=a3;have E4:=a8.trans O;have R:=hp.ext E4;have ad:=hw.ext E4;have aa:=R.ints;have Z:=ad.ints;have aq:=ky s.why;refine zp (λu w'=>w'=A/\u=[nI (backN (yE s.why) L s.put.length:Nat)]) ?_ ?_
 ·intro J hJ;have done:∀n,n<=s.put.length->(∀i,i<n->(lvl (yE s.why) i:Int)<=L)->(n=s.put.length\/(L:Int)<(lvl (yE s.why) n:Int))->J [nI (n:Nat)] A:=λn h1 h2 h3=>hJ _ _ ⟨rfl,by rw[backN_eq h1 h2 h3]⟩;refine vloop_up s.put.length (λn u w'=>w'=A/\u=[nI n,nI (((yE s.why).take n).count true:Nat)]/\∀i,i<n->(lvl (yE s.why) i:Int)<=L) ⟨rfl,rfl,oM⟩ ?_;rintro n _ _ A C hn ⟨rfl,rfl,f⟩ hC;simp only[push_cast,B4.ld0,aa.len];refine zb (λa=>?_) (λa=>done n hn f (.inl oM));have a9:n<s.put.length:=oM;have a7:=ZX (ds:=yE s.why) (i:=n) oM;have B:=lvl_succ (ds:=yE s.why) (i:=n) oM;have ap:((yE s.why).take n).count true<=700:=gK pI (by simp;omega);have N:=Uz (why:=s.why) (k:=n) oM;have au:=Y n oM;simp(disch:=first|omega|simp only[push_cast]) only[push_cast,B4.ld1,Z.iaddr,Z.load];have j:∀k:Nat,k=lvl (yE s.why) n->¬(L:Int)<k->(n<s.put.length->∀(u':List Value) (w'':World),(w''=A/\u'=[nI (n+1:Nat),nI (((yE s.why).take (n+1)).count true:Nat)]/\∀i,i<n+1->(lvl (yE s.why) i:Int)<=L)->C u' w'')->C [nI (n+1:Nat),nI k] A:=λk Q ar h=>by
   refine h a9 _ _ ⟨rfl,by rw[a7,<-B,Q],λi hi=>?_⟩;by_cases e:i=n
   ·subst e;omega
   ·exact f i oM
  refine zb (λb=>?_) (λb=>?_)
  ·have Q:((yE s.why).take n).count true+1=lvl (yE s.why) n:=by rw[B,N,decide_eq_true oM];rfl
   rw[inc64 oM];refine zb (λb2=>done n hn f (.inr oM)) (λb2=>?_);rw[inc64 oM];exact j _ Q b2 hC
  ·have Q:((yE s.why).take n).count true=lvl (yE s.why) n:=by rw[B,N,decide_eq_false oM];rfl
   refine zb (λb2=>done n hn f (.inr oM)) (λb2=>?_);rw[inc64 oM];exact j _ Q b2 hC
 rintro _ _ _ ⟨rfl,rfl⟩;have ao:=backN_le (yE s.why) L s.put.length;generalize backN (yE s.why) L s.put.length=n at*;have aj:=E4.size;refine yg xw yT λb5 w5 am o ax a4=>?_;have B5:=B4.ext o;have S:=R.ext o;simp(disch:=first|omega|simp only[push_cast]) only[push_cast,B5.ld0,S.cut];have ab:=S.taken (n:=n) oM;refine copy_ints a4 ab.ints (by simp;omega) λv6 w6 t D p=>?_;have B6:=B5.same D oM;refine B6.st t.ints.cells1 t.ints.one ja rfl λw7 T az a5=>?_;have B7:Blk w7 b2 [v6,vw,vl,nI s.code] zu:=a5;have ay:=D.size;have E:=t.same T λx c e=>by rcases p x c with d|d<;>omega
 have z:Same (λx=>x=b5\/x=b2) w5 w7:=(D.mono λx _ e=> .inl e).trans (T.mono λx _ e=> .inr e);have M:Ext w w7:=Ext.then (E4.trans o) z λx c=>oM
 refine yg xw yT λb8 w8 an g b0 a6=>?_;have B8:=B7.ext g;have X:=hw.ext (M.trans g);simp(disch:=first|omega|simp only[push_cast]) only[push_cast,B8.ld1,X.cut];have ae:=X.taken (n:=n) oM;refine copy_ints a6 ae.ints (by simp;omega) λv9 w9 v r q=>?_;have B9:=B8.same r oM;have V:=(E.ext g).same r λx c e=>by have:=E.lt c;omega
 refine B9.st v.ints.cells1 v.ints.one ja rfl λw10 l ah G=>?_;have a0:Blk w10 b2 [v6,v9,vl,nI s.code] zu:=G;have b1:=r.size;have U:=V.same l λx c e=>by rcases p x c with d|d<;>omega
 have W:=v.same l λx c e=>by rcases q x c with d|d<;>omega
 have hS:Same (λx=>x=b8\/x=b2) w8 w10:=(r.mono λx _ e=> .inl e).trans (l.mono λx _ e=> .inr e);have I:Ext w w10:=Ext.then (M.trans g) hS λx c=>oM
 have a1:Blk w10 b4 [.slice none 0 0,.slice none 0 0,.slice none 0 0,nI 0] zu:=((((R4.ext o).same z oM).ext g).same hS oM);rw[a0.ldAgg zP];refine a1.stAgg (cs':=[v6,v9,vl,nI s.code]) rfl zP (λx c=>?_) λaf m ai H=>?_
 ·simp only[gd,gq,or_false] at c;rcases c with rfl|rfl|rfl|rfl
  ·exact t.ints.one
  ·exact v.ints.one
  ·exact ac
  ·rfl
 rw[H.lv zP];refine hK af v6 v9 (Ext.then I m λx c=>oM) (U.same m λx c e=>?_) (W.same m λx c e=>?_) (λx c=>⟨?_,λe=>?_⟩) (λx c=>?_)
 ·rcases p x c with d|d<;>omega
 ·rcases q x c with d|d<;>omega
 ·rcases p x c with d|d<;>omega
 ·have:=E.lt c;rcases q x e with d|d<;>omega
 ·rcases q x c with d|d<;>omega
theorem Qr {vl:Value} {xss:List (List Int)} (h:Lists F w vl xss):vl.oneCell'=true:=by
 obtain⟨vs,_,a,_⟩:=h;exact a.one
theorem l5Clash_spec {vc v v2:Value} {Z:Nat->Prop} {k:Nat} (hc:CnfR F w vc c) (hs:SpR Z w v s) (d:Ints F' w v2 (atM c s k)) (A:satOk many c s) (Y:c.many=many) (hk:k<c.list.length+s.learned.length) (ac:kz s.put (atM c s k))
  (hK:∀w' v',Ext w w'->SpR (λb=>Z b\/w.heap.size<=b) w' v' (k7 many c s (atM c s k))->K v' w'):vcall KJ #[vc,v,v2] w K:=by
 refine ze {ord:=[oz 9 [0,1,2,4,3,5,6,7] [(0,[1,2,4,3,5]),(1,[2,4,3,5]),(2,[4,3,5]),(4,[3])],oz 11 (oR 7) [(0,[1,2,3,4]),(1,[2,3]),(2,[3])]]} Tryz.func151 ?_;have ax:=hc;have bc:=hs.sat;obtain⟨lv,rfl,cx⟩:=hc;obtain⟨vp,vw,vl,rfl,hp,hw,ay,bz,af⟩:=hs;have D:many<=700/\c.list.length<=2500:=by
  have:=A.cnf;unfold cnfOk at this;simp only[gg,decide_eq_true_eq] at this;omega
 have ch:=A.few;have ag:=A.mks;have cz:=ag.len;have hlen:=A.len;have az:(yE s.why).length<=700:=by rw[ky];omega
 have a8:∀k,k<s.why.length->s.why.getD k 0= -1\/0<=s.why.getD k 0:=λk hk=>(A.why k hk).imp id λh=>h.1;have bounds:∀{an:List Int},Fls s.put an->∀x,x∈an->x.natAbs<=many/\placeOf s.put x.natAbs≠0:=λhF x d=>by
  have h1:=ag.2 _ (hF x d);have h2:=placeOf_ne_zero (hF x d);rw[GV] at h2;exact⟨oM,h2⟩
 have cc:=clauseOk_len (m:=many) (by have:=A.atOk hk;rwa[Y] at this);obtain⟨z1,z2,z3,z4⟩:=U0 A Y hk ac;refine yq λb3 w1 ct c0 d0 br=>?_;refine yq λb4 w2 cu b0 d1 bs=>?_;refine qk qT λb6 w3 cv ad d2 bt=>?_;have A3:Blk w3 b3 [nI c.many,lv] zq:=(br.ext b0).ext ad;have B3:Blk w3 b4 [vp,vw,vl,nI s.code] zu:=bs.ext ad;have R3:Blk w3 b6 [.slice none 0 0,.slice none 0 0,.slice none 0 0,nI 0] zu:=bt;have E3:=c0.trans (b0.trans ad);rw[A3.ldAgg zD,B3.ldAgg zP];refine l5Levels_spec (ax.ext E3) (bc.ext E3) Y D.1 ag hlen a8 λw4 vlev O z ah=>?_;have E4:=E3.trans O;refine l5Top_spec z.ints D.1 az (d.ext E4) (bounds (XR ac)) ?_;have A4:=A3.ext O;have B4:=B3.ext O;have R4:=R3.ext O;have d3:=O.size;have ones:∀{U V bf:Value} {cd:Int},U.oneCell'=true->V.oneCell'=true->bf.oneCell'=true->∀x,x∈[U,V,bf,nI cd]->x.oneCell'=true:=λh1 h2 h3 x d=>by
  simp only[gd,gq,or_false] at d;rcases d with rfl|rfl|rfl|rfl
  ·exact h1
  ·exact h2
  ·exact h3
  ·rfl
 have code:∀(cd:Int),k7 many c s (atM c s k)={s with code:=cd}->zU zV (oP b4 3) (nI cd) w4 λ_ bi=>zt zu (oP b4 0) bi λt22 bj=>zU zu (oP b6 0) t22 bj λ_ bk=>vlv zu (oP b6 0) bk λr6 bl=>K r6 bl:=λcd X=>by
  refine B4.st rfl rfl yT rfl λw5 bd c9 bu=>?_;have B5:Blk w5 b4 [vp,vw,vl,nI cd] zu:=bu;rw[B5.ldAgg zP];refine(R4.same bd oM).stAgg (cs':=[vp,vw,vl,nI cd]) rfl zP (ones hp.ints.one hw.ints.one (Qr af)) λw6 c4 d4 bv=>?_;rw[bv.lv zP];have W:Ext w w6:=Ext.then E4 ((bd.mono λx _ e=>(.inl e:x=b4\/x=b6)).trans (c4.mono λx _ e=> .inr e)) λx d=>oM;refine hK w6 _ W ?_;rw[X];exact⟨vp,vw,vl,rfl,hp.ext W,hw.ext W,λb hb=>⟨.inl (ay b hb).1,(ay b hb).2⟩,λb hb=> .inl (bz b hb),(af.ext W).weaken λb hb _=>⟨.inl hb.1,hb.2⟩⟩
 simp only[push_cast];refine zb (λa=>?_) (λa=>?_)
 ·exact code 2 (by unfold k7;rw[if_pos oM])
 obtain⟨es,c1,b5,b1⟩:=af;have b8:=b5.ext E4;simp only[push_cast,B4.ld2,b8.len];refine zb (λa2=>?_) (λa2=>?_)
 ·exact code 3 (by unfold k7;rw[if_neg oM,if_pos oM])
 clear code;have X:k7 many c s (atM c s k)={s with put:=s.put.take (backN (yE s.why) (ZZ s.put (yE s.why) (learnM many c s s.put.length (atM c s k))) s.put.length),why:=s.why.take (backN (yE s.why) (ZZ s.put (yE s.why) (learnM many c s s.put.length (atM c s k))) s.put.length),learned:=s.learned++[learnM many c s s.put.length (atM c s k)]}:=by
  unfold k7;rw[if_neg oM,if_neg oM]
 rw[X] at hK;clear X;refine zd λw5 J _=>?_;have A5:=A4.ext J;have B5:=B4.ext J;simp only[push_cast,A5.ldAgg zD,B5.ldAgg zP,true_and];refine yg xw yT λb7 w7 cw L d5 bw=>?_;have E7:=E4.trans (J.trans L);have A7:=A5.ext L;have B7:=B5.ext L;simp only[push_cast,A7.ldAgg zD,B7.ldAgg zP,true_and,and_self];have c9:=J.size;have cq:=L.size;refine copy_ints bw (d.ext E7) oM λv8 w8 c5 M c2=>?_;have A8:=A7.same M oM;have B8:=B7.same M oM;have ab:Ext w w8:=Ext.then E7 M λx d=>by have:=E4.size;omega
 simp only[push_cast,A8.ldAgg zD,B8.ldAgg zP,true_and,and_self];have d6:=M.size;have R:=((z.ext J).ext L).same M λx d e=>by have:=z.lt d;omega
 refine l5Learn_spec (ax.ext ab) (bc.ext ab) R.ints c5 A Y hk ac λw9 v9 Q ai c3=>?_;have E9:=ab.trans Q;have d7:=Q.size;have S:∀x,v9.ownBlock=some x->w4.heap.size<=x:=λx d=>by
  rcases c3 x d with e|e
  ·rcases c2 x e with e|e<;>omega
  ·omega
 generalize cy:learnM many c s s.put.length (atM c s k)=lc at*;refine yg Q6 ja λa9 w10 ce n ci ao=>?_;have ak:=(B8.ext Q).ext n;have am:=E9.trans n;have ae:=b5.ext am;simp only[push_cast,ak.ld2];have bq:OwnV zI w10 (.slice (some ⟨a9,0,none⟩) 0 0) []:=Blk.own1 (t:=zI) (cs:=[]) (by rw[Uy];exact ao) (gP _) rfl rfl oM;have b2:∀u,u∈es->u.oneCell'=true:=λu hu=>by
  obtain⟨i,hi,rfl⟩:=gm hu;have:=(b1 i oM).one;simpa[y3,hi] using this
 refine bq.app (us:=es) ZR ae b2 (by simp;omega) (by simp;omega) λv11 bg a6 a5 ba=>?_;have f:∀x,v11.ownBlock=some x->w9.heap.size<=x:=λx d=>by
  rcases ba x d with e|e
  ·have e:a9=x:=X0 e;omega
  ·omega
 have r:Same (· =a9) w10 bg:=a5.mono λx _ e=>(X0 e).symm;have bm:=ak.same r oM;have c6:=n.size;have cj:=a5.size;have T:=(ai.ext n).same r λx d e=>by have:=ai.lt d;omega
 have au:Ext w bg:=Ext.then am r λx d=>by have:=E9.size;omega
 refine zC Q6 ja VY rfl T.ints.cells1 λcr d8 cf g ck ap=>?_;rw[Ga] at a6;refine OwnV.app1 (a6.ext g) ZR ap T.ints.one oM oM λa1 ca C o bb=>?_;have E:∀x,a1.ownBlock=some x->w9.heap.size<=x:=λx d=>by
  rcases bb x d with e|e
  ·exact f x e
  ·have:=g.size;omega
 have c7:=g.size;have cl:=o.size;have bn:=(bm.ext g).same o λe=>by have:=f _ e;have:=B8.lt;omega
 have av:Ext w ca:=Ext.then (au.trans g) o λx d=>by have:=f x d;have:=E9.size;omega
 have be:=(T.ext g).same o λx d e=>by have:=f x e;have:=ai.lt d;omega
 refine bn.st C.vals.cells1 C.vals.one Q2 rfl λaj p cm aq=>?_;have bo:Blk aj b4 [vp,vw,a1,nI s.code] zu:=aq;have aw:Ext w aj:=Ext.then av p λx d=>oM
 have G:=C.same p λx d e=>by have:=E x d;have:=B8.lt;omega
 have H:=be.same p λx d e=>by have:=S x d;have:=B4.lt;omega
 have a0:OwnI zh aj vlev (levs many s.put (yE s.why)):=((((R.ext Q).ext n).same r λx d e=>by have:=z.lt d;omega).ext g|>.same o λx d e=>by have:=f x e;have:=z.lt d;omega).same p λx d e=>by have:=ah x d;have:=B3.lt;omega
 refine zd λd9 j _=>?_;have al:=bo.ext j;simp only[push_cast,al.ldAgg zP,true_and];have l:=aw.trans j;have c8:=p.size;have cn:=j.size;rw[<-z3];refine l5Below_spec (a0.ext j).ints D.1 (H.ext j).ints (bounds z1) ?_;simp only[push_cast,al.ldAgg zP,true_and,and_self];have bx:ZZ s.put (yE s.why) lc<=700:=by
  unfold ZZ;rcases j7 (xs:=(lc.filter λk=>decide (lvM s.put (yE s.why) k<kW s.put (yE s.why) lc)).map (lvM s.put (yE s.why))) with e|e
  ·omega
  ·obtain⟨q,_,e⟩:=gr.1 e;rw[<-e];exact gK (lvl_le _ _) az
 refine l5Back_spec (s:={s with code:=s.code}) (hp.ext l) (hw.ext l) C.vals.one hlen oM bx a8 λcb U V y a4 a7 I N=>?_;have bp:Blk cb b6 [.slice none 0 0,.slice none 0 0,.slice none 0 0,nI 0] zu:=by
  have h6:=R3.lt;exact(((((((((R4.ext J).ext L).same M oM).ext Q).ext n).same r oM).ext g).same o λe=>by have:=f _ e;omega).same p oM|>.ext j).ext y
 refine bp.stAgg (cs':=[U,V,a1,nI s.code]) rfl zP (ones a4.ints.one a7.ints.one C.vals.one) λbh B cp ar=>?_;rw[ar.lv zP];have a3:Ext w bh:=Ext.then (l.trans y) B λx d=>oM
 have cg:=R3.lt;have co:=y.size;refine hK bh _ a3 ⟨U,V,a1,rfl,a4.same B λx d e=>by have:=(I x d).1;omega,a7.same B λx d e=>by have:=N x d;omega,λx d=>⟨.inr (by have:=(I x d).1;have:=l.size;omega),(I x d).2⟩,λx d=> .inr (by have:=N x d;have:=l.size;omega),es++[v9],by simp[c1],?_,λi hi=>?_⟩
 ·have aa:=((G.ext j).ext y).same B λx d e=>by have:=E x d;omega
  refine aa.vals.weaken λx d _=>⟨.inr (by have:=E x d;have:=E9.size;omega),λe=>?_,λe=>?_⟩
  ·have:=(I x e).1;have:=G.lt d;omega
  ·have:=N x e;have:=G.lt d;omega
 ·simp only[K3,gS] at hi;by_cases b9:i<s.learned.length
  ·rw[getD_app_l oM,getD_app_l b9];refine(((b1 i b9).weaken (F':=λx=>(Z x/\vp.ownBlock≠some x/\vw.ownBlock≠some x)/\x<w.heap.size) λx h1 h2=>⟨h1,h2⟩).ext a3).weaken λx d _=>⟨.inl d.1.1,λe=>?_,λe=>?_⟩
   ·have:=(I x e).1;have:=l.size;omega
   ·have:=N x e;have:=l.size;omega
  ·have e1:i=s.learned.length:=oM;have e2:i=es.length:=oM;have g1:(es++[v9]).getD i undef=v9:=by rw[e2];simp
   have g2:(s.learned++[lc]).getD i []=lc:=by rw[e1];simp
   rw[g1,g2];have aa:=((H.ext j).ext y).same B λx d e=>by have:=S x d;omega
   refine aa.ints.weaken λx d _=>⟨.inr (by have:=S x d;have:=E4.size;omega),λe=>?_,λe=>?_⟩
   ·have:=(I x e).1;have:=H.lt d;omega
   ·have:=N x e;have:=H.lt d;omega
end
section
variable {w:World} {K:oK} {F F':Nat->Prop} {many:Nat} {c:Cnf} {s:Sat}
theorem l5Do_spec {vc v:Value} {Z:Nat->Prop} (hc:CnfR F w vc c) (hs:SpR Z w v s) (B:satOk many c s) (a3:c.many=many)
  (hK:∀w' v',Same Z w w'->SpR (λb=>Z b\/w.heap.size<=b) w' v' (goM many c s)->K v' w'):vcall ys0 #[vc,v] w K:=by
 refine ze {ord:=[oz 4 (oR 8) [(0,[1,2,3,4,5]),(1,[2,3,4,5]),(2,[3,4]),(3,[4])]],loops:=[(13,[9])]} Tryz.func105 ?_;have S:=hc;have bj:=hs.sat;have bk:=hs;obtain⟨lv,rfl,ad⟩:=hc;obtain⟨vp,vw,vl,rfl,hp,hw,p,a4,J⟩:=hs;have L:many<=700/\c.list.length<=2500:=by
  have:=B.cnf;unfold cnfOk at this;simp only[gg,decide_eq_true_eq] at this;omega
 have bu:=B.few;have M:=B.mks;have c9:=M.len;have hlen:=B.len;have ac:∀cl,cl∈c.list++s.learned->∀l,l∈cl->l≠0/\l.natAbs<=many:=λcl ad l hl=>satOk.bnd B a3 ad hl;refine yq λb2 w1 c2 bf cb ba=>?_;refine yq λb3 w2 c3 ae cc bb=>?_;refine qk qT λb4 w3 c4 a5 ce bc=>?_;have A3:Blk w3 b2 [nI c.many,lv] zq:=(ba.ext ae).ext a5;have B3:Blk w3 b3 [vp,vw,vl,nI s.code] zu:=bb.ext a5;have R3:Blk w3 b4 [.slice none 0 0,.slice none 0 0,.slice none 0 0,nI 0] zu:=bc;have E3:=bf.trans (ae.trans a5);rw[A3.ldAgg zD];simp only[push_cast,B3.ld0];refine l5Vals_spec (S.ext E3) a3 L.1 (hp.ext E3).ints M λw4 v4 G ak c7=>?_;have E4:=E3.trans G;have A4:=A3.ext G;have B4:=B3.ext G;simp only[push_cast,A4.ldAgg zD,B4.ld2];refine l5Find_spec (S.ext E4) (J.ext E4) ak.ints M L.1 oM ac λw5 k u x H hf=>?_;have E5:=E4.trans H;have A5:=A4.ext H;have X:=B4.ext H;have R5:=(R3.ext G).ext H;have bm:=ak.ext H;have l3:=X.lt;have l4:=R5.lt;have cg:=E5.size;have cf:=G.size;simp only[push_cast];have ones:∀{q E ao:Value} {cd:Int},q.oneCell'=true->E.oneCell'=true->ao.oneCell'=true->∀x,x∈[q,E,ao,nI cd]->x.oneCell'=true:=λh1 h2 h3 x a=>by
  simp only[gd,gq,or_false] at a;rcases a with rfl|rfl|rfl|rfl
  ·exact h1
  ·exact h2
  ·exact h3
  ·rfl
 have n:goM many c s=(if 0<=k then k7 many c s (atM c s k.toNat) else if 0<=u then{s with put:=s.put++[x],why:=s.why++[u]}
  else if s.put.length=many then{s with code:=1} else{s with put:=s.put++[-(Zm many s.put:Int)],why:=s.why++[-1]}):=by
  unfold goM;rw[hf]
 have push:∀(W:World) (l y:Int),Ext w W->Blk W b3 [vp,vw,vl,nI s.code] zu->Blk W b4 [.slice none 0 0,.slice none 0 0,.slice none 0 0,nI 0] zu->w5.heap.size<=W.heap.size->goM many c s={s with put:=s.put++[l],why:=s.why++[y]}->
   vbuildS zh 1 [(0,nI l)] W λt39 aq=>vbi .append [zh,zh] zh [vp,t39] aq λt40 ar=>zU zh (oP b3 0) t40 ar λ_ au=>zt zh (oP b3 1) au λt43 av=>
   vbuildS zh 1 [(0,nI y)] av λt45 aw=>vbi .append [zh,zh] zh [t43,t45] aw λt46 ax=>zU zh (oP b3 1) t46 ax λ_ ay=>zt zu (oP b3 0) ay λt48 az=>
   zU zu (oP b4 0) t48 az λ_ b0=>vlv zu (oP b4 0) b0 λan b1=>K an b1:=by
  intro W l y E6 B6 R6 bq ag;have ci:=E6.size;refine zC xw yT xH rfl rfl λb7 w7 c5 j br a1=>?_;have r:=E6.trans j;refine(hp.ext r).app1 xE a1 oM oM λq w8 U V A=>?_;have nb:∀x,vp.ownBlock=some x->x<w.heap.size:=λx a=>hp.lt a;have nw:∀x,vw.ownBlock=some x->x<w.heap.size:=λx a=>hw.lt a;have B8:=(B6.ext j).same V λe=>by have:=nb _ e;omega
  refine B8.st U.ints.cells1 U.ints.one ja rfl λw9 D bs a2=>?_;have B9:Blk w9 b3 [q,vw,vl,nI s.code] zu:=a2;have bh:=U.same D λx a e=>by rcases A x a with d|d;(have:=nb _ d;omega);omega
  have bo:=((hw.ext r).same V λx a e=>(p x e).2 a).same D λx a e=>by have:=nw _ a;omega
  simp only[push_cast,B9.ld1];have ch:=V.size;refine zC xw yT xH rfl rfl λc1 w10 bt t bw a8=>?_;refine(bo.ext t).app1 xE a8 oM oM λE cj Q z g=>?_;have b5:=(B9.ext t).same z λe=>by have:=nw _ e;omega
  have ah:=(bh.ext t).same z λx a e=>by
   rcases A x a with d|d
   ·exact(p x d).2 e
   ·have:=nw _ e;omega
  refine b5.st Q.ints.cells1 Q.ints.one ja rfl λap N bz a9=>?_;have b8:Blk ap b3 [q,E,vl,nI s.code] zu:=a9;have hS:Same (λx=>vp.ownBlock=some x\/vw.ownBlock=some x\/x=b3) w7 ap:=(V.mono λx _ e=> .inl e).trans ((D.mono λx _ e=> .inr (.inr e)).trans ((Same.of_ext t).trans ((z.mono λx _ e=> .inr (.inl e)).trans (N.mono λx _ e=> .inr (.inr e)))));have b9:=(R6.ext j).same hS (by rintro(e|e|e);exact absurd (nb _ e) oM;exact absurd (nw _ e) oM;omega);have Y:=ah.same N λx a e=>by rcases A x a with d|d;(have:=nb _ d;omega);omega
  have bx:=z.size;have a0:=Q.same N λx a e=>by rcases g x a with d|d;(have:=nw _ d;omega);omega
  rw[b8.ldAgg zP];refine b9.stAgg (cs':=[q,E,vl,nI s.code]) rfl zP (ones Y.ints.one a0.ints.one (Qr J)) λa7 O c0 aa=>?_;rw[aa.lv zP];have o:Same (λx=>vp.ownBlock=some x\/vw.ownBlock=some x\/x=b3\/x=b4) w7 a7:=(hS.mono λx _ e=>e.imp id λe=>e.imp id .inl).trans (O.mono λx _ e=> .inr (.inr (.inr e)));have ab:Same (λb=>vp.ownBlock=some b\/vw.ownBlock=some b) w a7:=by
   refine⟨o.os.trans r.os,o.tape.trans r.tape,o.output.trans r.output,gK r.size o.size,λb f hn=>?_⟩;rw[o.block b (by have:=r.size;omega) (by rintro(e|e|e|e);exact hn (.inl e);exact hn (.inr e);omega;omega),r.block b f id]
  have bp:=hS.size;refine hK a7 _ (ab.mono λb _ e=>e.elim (λe=>(p b e).1) (a4 b)) ?_;rw[ag];refine⟨q,E,vl,rfl,Y.same O λx a e=>by rcases A x a with d|d;(have:=nb _ d;omega);omega,a0.same O λx a e=>by rcases g x a with d|d;(have:=nw _ d;omega);omega,λx a=>?_,λx a=>?_,?_⟩
  ·rcases A x a with e|e
   ·refine⟨.inl (p x e).1,λe2=>?_⟩;rcases g x e2 with e3|e3
    ·exact(p x e).2 e3
    ·have:=nb _ e;omega
   ·refine⟨.inr oM,λe2=>?_⟩;rcases g x e2 with e3|e3
    ·have:=nw _ e3;omega
    ·have:=U.lt a;omega
  ·rcases g x a with e|e
   ·exact .inl (a4 x e)
   ·exact .inr oM
  ·refine(((J.weaken (F':=λb=>(Z b/\vp.ownBlock≠some b/\vw.ownBlock≠some b)/\b<w.heap.size) λb h1 h2=>⟨h1,h2⟩).same ab λb f _ e=>e.elim f.1.2.1 f.1.2.2).weaken λx a _=>⟨.inl a.1.1,λe=>?_,λe=>?_⟩)
   ·rcases A x e with d|d
    ·exact a.1.2.1 d
    ·have:=a.2;omega
   ·rcases g x e with d|d
    ·exact a.1.2.2 d
    ·have:=a.2;omega
 rcases find_cases s.put (c.list++s.learned) with⟨i,u',x',hi,e,be⟩|⟨hn,⟨i,x',hi,e,hu,-⟩|⟨e,-⟩⟩
 ·rw[hf,Gf,Gf] at e;obtain⟨rfl,rfl,rfl⟩:=e;rw[K3] at hi;rw[if_pos oM,gl] at n;refine zb (λ_=>?_) (λb=>absurd oM b);refine zd λW I _=>?_;have E6:=E5.trans I;have A6:=A5.ext I;have B6:=X.ext I;simp only[push_cast,A6.ldAgg zD,B6.ldAgg zP,true_and];refine l5At_spec (S.ext E6) (bj.ext E6) hi oM λw7 v7 j bn=>?_;have r:=E6.trans j;have A7:=A6.ext j;have B7:=B6.ext j;simp only[push_cast,A7.ldAgg zD,B7.ldAgg zP,true_and,and_self];refine l5Clash_spec (S.ext r) (bk.below.ext r) bn B a3 hi be λw8 v8 af a6=>?_;have R8:=((R5.ext I).ext j).ext af;have E8:=r.trans af;rw[<-n] at a6;obtain⟨p8,y8,l8,rfl,h8⟩:=a6.sat.fields;refine R8.stAgg (cs':=[p8,y8,l8,nI (goM many c s).code]) rfl zP h8 λw9 D bs a2=>?_;rw[a2.lv zP];refine hK w9 _ (Same.of_ext (Ext.then E8 D λx a=>oM)) ((a6.same D λb f _ e=>?_).weaken λb f _=>?_)
  ·have:=r.size;have:=R5.lt;have:=I.size;have:=j.size;rcases f with f|f
   ·have:=f.2;omega
   ·omega
  ·rcases f with f|f
   ·exact .inl f.1
   ·exact .inr (by have:=r.size;omega)
 ·rw[hf,Gf,Gf] at e;obtain⟨rfl,rfl,rfl⟩:=e;rw[if_neg oM,if_pos oM] at n;refine zb (λb=>absurd b oM) (λ_=>zb (λ_=>?_) (λb=>absurd oM b));simp only[push_cast,X.ld0];exact push w5 _ _ E5 X R5 (gu _) n
 ·rw[hf,Gf,Gf] at e;obtain⟨rfl,rfl,rfl⟩:=e;rw[if_neg oM,if_neg oM] at n;refine zb (λb=>absurd b oM) (λ_=>zb (λb=>absurd b oM) (λ_=>?_));have bi:=(hp.ext E5).ints;simp only[push_cast,X.ld0,A5.ld0,bi.len];refine zb (λb=>?_) (λb=>?_)
  ·rw[if_pos oM] at n;refine X.st rfl rfl yT rfl λW ai bq bd=>?_;have B6:Blk W b3 [vp,vw,vl,nI 1] zu:=bd;rw[B6.ldAgg zP];refine(R5.same ai oM).stAgg (cs':=[vp,vw,vl,nI 1]) rfl zP (ones hp.ints.one hw.ints.one (Qr J)) λw7 bl br a1=>?_;rw[a1.lv zP];have R:Ext w w7:=Ext.then E5 ((ai.mono λx _ e=>(.inl e:x=b3\/x=b4)).trans (bl.mono λx _ e=> .inr e)) λx a=>oM;refine hK w7 _ (Same.of_ext R) ?_;rw[n];exact⟨vp,vw,vl,rfl,hp.ext R,hw.ext R,λb f=>⟨.inl (p b f).1,(p b f).2⟩,λb f=> .inl (a4 b f),(J.ext R).weaken λb f _=>⟨.inl f.1,f.2⟩⟩
  ·rw[if_neg oM] at n;obtain⟨f1,f2,f3,f4⟩:=free_spec M oM;have al:=bm.ints;have ca:=signs_len many s.put;refine vloop_up (Zm many s.put-1) (λi u w'=>u=[nI (i+1:Nat)]/\w'=w5) ⟨rfl,rfl⟩ ?_;rintro i _ _ w5 C hi ⟨rfl,rfl⟩ hC;have aj:=sgn_pos M (m:=((i+1:Nat):Int)) oM;rw[pt] at aj;simp(disch:=first|omega|simp only[push_cast]) only[sl0,al.iaddr,gl,al.load];rw[signs_get oM,aj];have am:Z40 s.put ((i+1:Nat):Int)=0↔placeOf s.put (i+1)=0:=by
    unfold Z40;rw[pt];by_cases hm:((i+1:Nat):Int)∈s.put
    ·rw[if_pos hm];have:=placeOf_ne_zero hm;rw[pt] at this;exact⟨λh=>oM,λh=>absurd h this⟩
    ·rw[if_neg hm];by_cases T:placeOf s.put (i+1)=0
     ·rw[if_pos T];simp[T]
     ·rw[if_neg T];simp[T]
   simp only[yK0];refine zb (λb6=>?_) (λb6=>?_)
   ·have bg:i<Zm many s.put-1:=by
     refine GB λc6=>b6 (am.2 ?_);have:i+1=Zm many s.put:=oM;rw[this];exact f3
    simp only[Xm];rw[inc64 oM];exact hC bg _ _ ⟨rfl,rfl⟩
   ·have bv:i+1=Zm many s.put:=by
     refine GB λc8=>f4 (i+1) oM oM (am.1 (by simpa using b6))
    have e1:IntKind.i64.wrap (0-((i+1:Nat):Int))= -(Zm many s.put:Int):=by rw[zl oM oM];omega
    simp(disch:=(simp only[push_cast])) only[Ut,Us,yx,gQ,X.ld0,Zq0,e1];exact push w5 _ _ E5 X R5 (gu _) n
theorem l5Run_spec {vc:Value} {n:Nat} (hc:CnfR F w vc c) (Z:cnfOk c=true) (D:c.many=many) (hn:n<=4000)
  (hK:∀w' v',Ext w w'->SpR (λb=>w.heap.size<=b) w' v' (runM many c n emptyS)->K v' w'):vcall zk0 #[vc,nI n] w K:=by
 refine ze {loops:=[(3,[6])]} Tryz.func74 ?_;have Y:=hc.below;obtain⟨lv,rfl,a4⟩:=hc;refine yq λb2 w1 a1 h a5 T=>?_;refine qk qT λb4 w2 a2 E a6 U=>?_;refine Q4 xJ0 (us:=[]) rfl rfl ?_;refine qk qT λM w3 a3 o a7 V=>?_;have B3:Blk w3 M [.slice none 0 0,.slice none 0 0,.slice none 0 0,nI 0] zu:=V;have A3:Blk w3 b2 [nI c.many,lv] zq:=(T.ext E).ext o;have R3:Blk w3 b4 [.slice none 0 0,.slice none 0 0,.slice none 0 0,nI 0] zu:=U.ext o;refine B3.stAgg (cs':=[.slice none 0 0,.slice none 0 0,.slice none 0 0,nI 0]) rfl zP (λx z=>by simp only[gd,gq,or_false] at z;rcases z with rfl|rfl|rfl|rfl<;>rfl) λH q a8 B=>?_;have E4:Ext w H:=Ext.then (h.trans (E.trans o)) q λx z=>by have:=h.size;omega
 have A4:=A3.same q oM;have R:=R3.same q oM;have aa:=E4.size;have fin:∀(f:World) (p y l:Value),Ext w f->H.heap.size<=f.heap.size->Blk f b4 [.slice none 0 0,.slice none 0 0,.slice none 0 0,nI 0] zu->Blk f M [p,y,l,nI (runM many c n emptyS).code] zu->SpR (λb=>H.heap.size<=b) f (.agg #[p,y,l,nI (runM many c n emptyS).code]) (runM many c n emptyS)->
   zt zu (oP M 0) f λt21 I=>zU zu (oP b4 0) t21 I λ_ J=>vlv zu (oP b4 0) J λr4 L=>K r4 L:=by
  intro f p y l v t A k m;rw[k.ldAgg zP];obtain⟨O,Q,N,e,S⟩:=m.sat.fields;obtain⟨rfl,rfl,rfl⟩:p=O/\y=Q/\l=N:=(by simpa using e);refine A.stAgg (cs':=[p,y,l,nI (runM many c n emptyS).code]) rfl zP S λw6 d a0 W=>?_;rw[W.lv zP];exact hK w6 _ (Ext.then v d λx z=>by have:=h.size;omega) ((m.same d λb g _ e=>by have:=R.lt;omega).weaken λb g _=>oM)
 refine vloop_up n (λi u w'=> ∃p y l,u=[nI i]/\Ext w w'/\H.heap.size<=w'.heap.size/\Blk w' b2 [nI c.many,lv] zq/\Blk w' b4 [.slice none 0 0,.slice none 0 0,.slice none 0 0,nI 0] zu/\Blk w' M [p,y,l,nI (runM many c i emptyS).code] zu/\SpR (λb=>H.heap.size<=b) w' (.agg #[p,y,l,nI (runM many c i emptyS).code]) (runM many c i emptyS))
  ⟨_,_,_,rfl,E4,gu _,A4,R,B,SpR.empty⟩ ?_
 rintro i _ _ f C hi ⟨p,y,l,rfl,v,t,A5,A,k,m⟩ hC;simp only[push_cast];refine zb (λa=>?_) (λa=>?_)
 ·simp only[push_cast,k.ld3];refine zb (λb=>?_) (λb=>?_)
  ·rw[A5.ldAgg zD,k.ldAgg zP];have G:=run_ok (n:=i) D (empty_ok (many:=many) Z);refine l5Do_spec (Y.ext v) m G D λw6 v6 d s=>?_;have r:goM many c (runM many c i emptyS)=runM many c (i+1) emptyS:=by rw[run_succ];unfold stepM;rw[if_pos b]
   rw[r] at s;have l2:=A4.lt;have l4:=R.lt;have l5:=B.lt;have a0:=d.size;have A6:=A5.same d oM;have R6:=A.same d oM;have B6:=k.same d oM;obtain⟨O,Q,N,rfl,S⟩:=s.sat.fields;refine B6.stAgg (cs':=[O,Q,N,nI (runM many c (i+1) emptyS).code]) rfl zP S λw7 j a9 X=>?_;rw[inc64 oM];have E6:Ext w w6:=Ext.then v d λx z=>oM;refine hC oM _ _ ⟨O,Q,N,rfl,Ext.then E6 j λx z=>by have:=h.size;omega,oM,A6.same j oM,R6.same j oM,X,(s.same j λb g _ e=>?_).weaken λb g _=>?_⟩
   ·rcases g with g|g<;>omega
   ·rcases g with g|g<;>omega
  ·have e:runM many c n emptyS=runM many c i emptyS:=by
    rw[show n=i+(n-i) from by omega,run_add,run_stop b]
   rw[<-e] at k m;exact fin f p y l v t A k m
 ·have:n=i:=oM;subst this;exact fin f p y l v t A k m
end
end Go.Proofs.YtolbhkcajhlllaaGreatDoor
namespace Go.Proofs.YtolbhkcajhlllaaGreatDoor
open Go Go.Vc Go.Proofs
section
variable {w:World} {K:oK} {F F' D G:Nat->Prop} {dv tv iv lv:Value} {ds:List M.Dcl} {ts:List M.Tm} {ins:List Bool} {c:M.Cnf}
theorem l9Folds_spec (E:DclsR F w dv ds) (J:TmsR G w tv ts) (s:M.declOk ds=true) (m:∀t,t∈ts->M.sortM ds t≠ -1) (hs:ts.length<=2000000)
  (B:∀w' lv,Ext w w'->TmsR (λ_=>True) w' lv (ts.map (M.foldT ds))->K lv w'):vcall KE #[dv,tv] w K:=by
 refine ze {loops:=[(3,[5,6])]} Tryz.func46 ?_;refine vbuildS_row (xs:=[]) (us:=[]) (k:=5) yp yB zn rfl (by simp) dC λb1 w1 D p L o=>?_;have z:LstH (λ_=>False) w1 (.slice (some ⟨b1,0,none⟩) 0 0) []:=⟨[],Blk.ownk (css:=[]) (by rw[qm];exact o) (by simp) rfl dC,rfl,λi hi=>absurd hi (Pl _)⟩;refine vloop_up ts.length (λi u w'=> ∃lv H,u=[lv,nI i]/\Ext w w'/\LstH H w' lv ((ts.take i).map (M.foldT ds))/\∀x,lv.ownBlock=some x->w.heap.size<=x/\¬H x)
  ⟨_,_,rfl,p,z,λx c=>⟨by have e:b1=x:=X0 c;omega,id⟩⟩ ?_
 rintro i _ _ w2 C hi ⟨lv,H,rfl,d,g,hO⟩ A;have l:=(J.weaken (F':=λx=>G x/\x<w.heap.size) λx a b=>⟨a,b⟩).ext d;simp only[push_cast,l.len];refine zb (λa=>?_) (λa=>?_)
 ·have f:i<ts.length:=oM;simp(disch:=first|omega|simp only[push_cast]) only[push_cast,l.iaddr];refine l.load zc f λx c=>?_;refine l3Fold_spec _ (E.ext d) s c (m _ (M.getD_mem f _)) λw3 rv j I=>?_;have z2:=d.size;have z3:=j.size;have llt:∀x,lv.ownBlock=some x->x<w2.heap.size:=λx c=>g.lt c;refine LstH.push (g.ext j) (λx c=>⟨(hO x c).2,λe=>?_⟩) I (by rw[y4,gh];omega) λN y v r n=>?_
  ·have:=llt x c;have:=(hO x c).1;rcases e with e|e<;>omega
  try simp only[push_cast]
  rw[inc64' oM];rw[show(ts.take i).map (M.foldT ds)++[M.foldT ds (ts.getD i default)]=(ts.take (i+1)).map (M.foldT ds) by rw[<-Ju f,gx];rfl] at n;refine A f _ _ ⟨y,_,rfl,Ext.then (d.trans j) v λx c=>(hO x c).1,n,λx c=>?_⟩;rcases r x c with e|e
  ·refine⟨(hO x e).1,λh=>?_⟩;have:=llt x e;have:=(hO x e).1;rcases h.1 with h|h
   ·exact(hO x e).2 h
   ·rcases h with h|h<;>omega
  ·exact⟨oM,λh=>by have:=h.2;omega⟩
 ·have q:i=ts.length:=oM;subst q;rw[gw] at g;exact B w2 lv d (g.tms.weaken λ_ _ _=>trivial)
theorem spec_BlastEnv_spec (T:Ji ds) (H:DclsR F w dv ds) (hi:Bools F' w iv ins) (d:M.declOk ds=true) (hl:ins.length=M.nIn ds)
  (X:∀w' r,Ext w w'->OwnI zh w' r (M.envB ds ins)->(∀b,r.ownBlock=some b->w.heap.size<=b)->K r w'):vcall JP #[dv,iv] w K:=by
 refine ze {loops:=[(6,[5,6,7]),(10,[6,8,9])],cuts:=[(12292,[])]} Tryz.func76 ?_;obtain⟨a2,a3⟩:=M.nIn_eq d;refine spec_nil λv1 w1 R g A=>?_;refine zp (λu w'=>u=[]/\Ext w1 w') (λC E=>?_) ?_
 ·refine spec_DeclOk_spec (H.ext g) T λw2 f=>?_;rw[d];simp only[push_cast,Gc,((hi.ext g).ext f).len];refine sbits8_spec (k:=ds.length) d (gu _) (by rw[gw];exact(H.ext g).ext f) λw3 J=>?_;rw[M.bitT_all];simp only[push_cast];refine zb (λh=>absurd oM h) (λ_=>E _ _ ⟨rfl,f.trans J⟩)
 rintro _ _ w2 ⟨rfl,f⟩;have h4:=(M.decl_iff.1 d).1;have I:=M.dpos d;have L:=M.envB_len ds ins;refine vloop_up ds.length (λi u w'=> ∃r,u=[r,nI (QX ds i),nI i]/\Ext w w'/\OwnI zh w' r ((M.envB ds ins).take i)/\∀b,r.ownBlock=some b->w.heap.size<=b) ⟨v1,rfl,g.trans f,R.ext f,A⟩ ?_;rintro i _ _ w3 C a0 ⟨r,rfl,s,p,o⟩ E;have n:=H.ext s;have y:=hi.ext s;simp only[push_cast,n.len];refine zb (λa=>?_) (λa=>?_)
 ·have l:i<ds.length:=oM;have U:=M.dcl_wide d l;have q:=off_succ d l;have W:=off_le d (i:=i+1) oM;have het:=envB_take (ins:=ins) I l;obtain⟨wd,m⟩:∃wd:Nat,(ds.getD i (M.nada,0)).2=wd:=⟨_,(Int.toNat_of_nonneg oM).symm⟩;rw[m] at U q het;rw[gl] at q het;generalize v:(ins.drop (QX ds i)).take wd=bs at het;have t:bs.length=wd:=by rw[<-v,gh,GN,hl];omega
  refine vloop_up wd (λj u w'=>u=[nI (QX ds i+j:Nat),nI (M.msbN (bs.take j)),nI j]/\w'=w3) ⟨rfl,rfl⟩ ?_;rintro j _ _ _ C1 hj ⟨rfl,rfl⟩ G;have a1:=M.msb_lt (bs.take j);have a4:2^(bs.take j).length<=2^4:=Gb oM (by rw[gh];omega);simp(disch:=first|omega|simp only[push_cast]) only[push_cast,n.iaddr,gl,n.load1,m];refine zb (λc=>?_) (λc=>?_)
  ·have z:j<wd:=oM;have Z:ins.getD (QX ds i+j) false=bs.getD j false:=by
    rw[<-v,M.take_getD z,y3,y3,pS]
   simp(disch:=first|omega|simp only[push_cast]) only[push_cast,y.iaddr,gl,y.load,zl];refine Xa ?_;have Y:0<=M.b2i (bs.getD j false)/\M.b2i (bs.getD j false)<=1:=by unfold M.b2i;split<;>omega
   have D:=msb_snoc (bs.take j) (bs.getD j false);rw[<-M.take_add (by omega:j<bs.length) false] at D;rw[show((QX ds i:Int)+(j:Int)).toNat=QX ds i+j by omega,Z];simp(disch:=first|omega|simp only[push_cast]) only[push_cast,zl];refine G z _ _ ⟨?_,rfl⟩;rw[D,Int.mul_comm 2];simp[Int.add_assoc]
  ·have O:j=wd:=oM;subst O;rw[<-t,gw,t];refine push_int p (by rw[gh];omega) λw6 r6 S B Q=>?_;rw[<-het,<-M.take_add oM 0] at B;have z3:=s.size;rw[inc64' oM];refine E l _ _ ⟨r6,by rw[q,Int.natCast_add (QX ds i)],Ext.then s S λx V=>o x V,B,λx V=>?_⟩;rcases Q x V with e|e
   ·exact o x e
   ·omega
 ·have N:i=ds.length:=oM;subst N;rw[<-L,gw] at p;exact X w3 r s p o
theorem Zp0 {put:List Int} {i n:Nat} (h:i<n):decide (M.sgnV put (2+i)=1)=(M.insV (M.wayM put) n).getD i false:=by
 rw[M.insV_get h];unfold M.sgnV M.wayM;rw[Nat.add_comm 2 i];by_cases c:((i+2:Nat):Int)∈put
 ·rw[if_pos c,decide_eq_true c];rfl
 ·rw[if_neg c,decide_eq_false c];split<;>rfl
theorem l9Search_spec (aa:Ji ds) (hd:DclsR F w dv ds) (I:M.declOk ds=true) (hc:CnfR G w (.agg #[nI c.many,lv]) c) (f:M.cnfOk c=true) (hn:1+M.nIn ds<=c.many.toNat)
  (hK:∀w' ev,Ext w w'->OwnI zh w' ev (M.searchM 4000 ds c).1->(∀x,ev.ownBlock=some x->w.heap.size<=x)->K (.tuple #[ev,nI (M.searchM 4000 ds c).2]) w'):
  vcall JJ #[dv,.agg #[nI c.many,lv]] w K:=by
 refine ze {loops:=[(7,[8,9])]} Tryz.func47 ?_;obtain⟨ah,ai⟩:=M.nIn_eq I;obtain⟨many,hm⟩:∃many:Nat,c.many=many:=⟨c.many.toNat,oM⟩;have a4:c.many.toNat=many:=oM
 have B:many<=700:=by
  have:=f;unfold M.cnfOk at this;simp only[gg,decide_eq_true_eq] at this;omega
 refine yq λb1 w1 ac z al a0=>?_;have A1:Blk w1 b1 [nI c.many,lv] zq:=a0;rw[A1.ldAgg zD];refine l5Run_spec (many:=many) (n:=4000) (hc.ext z) f hm (gu _) λw2 v2 A v=>?_;have z1:=z.size;have z2:=A.size;have T:=(M.run_ok (n:=4000) hm (M.empty_ok (many:=many) f)).mks;refine qk qT λb4 w3 ad a5 am a1=>?_;have d:M.searchM 4000 ds c=if(M.runM many c 4000 M.emptyS).code=1 then(M.envB ds (M.insV (M.wayM (M.runM many c 4000 M.emptyS).put) (M.nIn ds)),1) else if(M.runM many c 4000 M.emptyS).code=2 then([],2) else([],3):=by rw[<-a4];rfl
 generalize M.searchM 4000 ds c=sr at d hK;generalize M.runM many c 4000 M.emptyS=s at v d T;obtain⟨p,y,l,rfl,h8⟩:=v.sat.fields;obtain⟨p',y',l',e',hp,_,aj,_,_⟩:=v;obtain⟨rfl,rfl,rfl⟩:p=p'/\y=y'/\l=l':=by simpa using e'
 have R3:Blk w3 b4 [.slice none 0 0,.slice none 0 0,.slice none 0 0,nI 0] zu:=a1;refine R3.stAgg (cs':=[p,y,l,nI s.code]) rfl zP h8 λw4 a9 an Q=>?_;have q:Ext w2 w4:=Ext.then a5 a9 λx J=>oM
 have N:=(z.trans A).trans q;have A4:=A1.ext (A.trans q);simp only[push_cast,Q.ld3];refine zb (λa=>?_) (λa=>?_)
 ·rw[if_pos a] at d;subst d;rw[A4.ldAgg zD];simp only[push_cast,Q.ld0];refine l5Vals_spec (hc.ext N) hm B (hp.ext q).ints T λL v5 g ab o=>?_;have Z:=N.trans g;have z5:=Z.size;refine yg qh0 q00 λb6 w6 ae a6 ao a3=>?_;have a8:OwnB qw w6 (.slice (some ⟨b6,0,none⟩) 0 0) []:=Blk.own1 (t:=qw) (cs:=[]) (by rw[Ux];exact a3) (gP _) rfl rfl oM;refine vloop_up (M.nIn ds) (λi u w'=> ∃r,u=[r,nI i]/\Ext L w'/\OwnB qw w' r ((M.insV (M.wayM s.put) (M.nIn ds)).take i)/\∀b,r.ownBlock=some b->L.heap.size<=b) ⟨_,rfl,a6,a8,λb R=>by have e:b6=b:=X0 R;omega⟩ ?_;rintro i _ _ w7 C hi ⟨r,rfl,e7,E,V⟩ hC;refine sbits8_spec (k:=ds.length) I (gu _) (by rw[gw];exact hd.ext (Z.trans e7)) λw8 m=>?_;rw[M.bitT_all];simp only[push_cast];have O:=e7.trans m;have hlen:=M.insV_len (M.wayM s.put) (M.nIn ds);refine zb (λa=>?_) (λa=>?_)
  ·have S:i<M.nIn ds:=oM;have Y:=(ab.ext O).ints;have ak:=M.signs_len many s.put;simp(disch:=first|omega|simp only[push_cast]) only[push_cast,zl,Y.iaddr,Y.load];rw[show((2:Int)+(i:Int)).toNat=2+i by omega,M.signs_get oM,Zp0 S];refine one_bool λw9 b9 af j H=>?_;refine OwnV.app (us:=[.bool ((M.insV (M.wayM s.put) (M.nIn ds)).getD i false)]) ((E.ext m).ext j) qM0 H.bools (by simp[Value.oneCell']) (by simp only[y4,gS,gh];omega) (by simp only[y4,gS,gh];omega) λv10 w10 W X U=>?_;have z8:=m.size;have z9:=j.size;have z7:=e7.size;refine hC S _ _ ⟨v10,rfl,Ext.then (O.trans j) X λb R=>V b R,?_,λb R=>?_⟩
   ·rw[M.take_add oM false];unfold OwnB;rw[gx];exact W
   ·rcases U b R with h|h
    ·exact V b h
    ·omega
  ·have ag:i=M.nIn ds:=oM;rw[gB oM] at E;refine spec_BlastEnv_spec aa (hd.ext (Z.trans O)) (E.ext m).bools I hlen λw9 r9 j H a7=>?_;have z8:=O.size;exact hK w9 r9 (Z.trans (O.trans j)) H λx J=>by have:=a7 x J;omega
 ·rw[if_neg a] at d;have z4:=N.size;refine zb (λa2=>?_) (λa2=>?_)
  ·rw[if_pos a2] at d;subst d;exact spec_nil λv5 L D g o=>hK L v5 (N.trans g) D λx J=>by have:=o x J;omega
  ·rw[if_neg a2] at d;subst d;exact spec_nil λv5 L D g o=>hK L v5 (N.trans g) D λx J=>by have:=o x J;omega
theorem l9Solve_spec (u:Ji ds) (c:VW ds ts=true) (j:DclsR F w dv ds) (v:TmsR G w tv ts)
  (f:∀w' ev,Ext w w'->OwnI zh w' ev (qy ds ts []).1->(∀x,ev.ownBlock=some x->w.heap.size<=x)->K (.tuple #[ev,nI (qy ds ts []).2]) w'):vcall KD #[dv,tv] w K:=by
 refine ze {} Tryz.func30 ?_;obtain⟨L,a2,a3⟩:=all8_iff.1 c;refine l9Folds_spec j v a2 (λt v=>by rw[(Jy (a3 t v)).1];decide) oM λw1 lv a o=>?_;refine l8Cnf_spec (XX c) (j.ext a) o λw2 cv ls k g=>?_;have B:=a.trans k;simp only[push_cast];refine cnf_new g λN b4 D l d i=>?_;have b:=B.trans l;have z4:=b.size;refine zo (λh=>?_) (λh=>?_)
 ·have E:=Jw (nots:=[]) c (by simpa using h);refine spec_nil λv5 I r m p=>?_;have:=f I v5 (b.trans m);rw[E] at this;exact this r λx y=>by have:=p x y;omega
 ·have C:(cnfE ds (ts.map (M.foldT ds))).2=0:=(by simpa using h);obtain⟨z,A,H⟩:=solveR_run (nots:=[]) c C (λe he=>by cases he) (by simp);rw[yZ0] at z A;rw[d.ldAgg zD];refine l9Search_spec u (j.ext b) a2 i.cnf A H λJ ev n s q=>?_;simp only[push_cast];rw[z] at f;exact f J ev (b.trans n) s λx y=>by have:=q x y;omega
theorem spec_Solve_spec (b:Ji ds) (l:DclsR F w dv ds) (m:TmsR G w tv ts)
  (k:∀w' ev,Ext w w'->OwnI zh w' ev (qy ds ts []).1->(∀x,ev.ownBlock=some x->w.heap.size<=x)->K (.tuple #[ev,nI (qy ds ts []).2]) w'):vcall zz0 #[dv,tv] w K:=by
 refine ze {} Tryz.func8 ?_;refine l8All_spec b l m λw1 a=>?_;simp only[push_cast];have q:=a.size;refine zo (λh=>?_) (λh=>?_)
 ·have n:=Q8 (ds:=ds) (ts:=ts) (nots:=[]) (by simpa using h);refine spec_nil λv5 o g c e=>?_;have:=k o v5 (a.trans c);rw[n] at this;exact this g λx j=>by have:=e x j;omega
 ·refine l9Solve_spec b (by simpa using h) (l.ext a) (m.ext a) λp ev d i f=>?_;simp only[push_cast];exact k p ev (a.trans d) i λx j=>by have:=f x j;omega
theorem xK0 {at_ an am ar ab:Addr} (e:DclsR F w dv ds) (f:TmsR G w tv ts) (hs:ts.length<=2000000) (er:Er w at_ an am ar ab)
  (d:∀w' ev,Ext w w'->OwnI zh w' ev (qy ds ts []).1->(∀x,ev.ownBlock=some x->w.heap.size<=x)->K (.tuple #[ev,nI (qy ds ts []).2]) w'):vcall zF0 #[dv,tv] w K:=by
 refine ze {} Tryz.func11 ?_;refine solved_spec e f hs er λg ev a c b=>?_;simp only[push_cast];exact d g ev a c b
end
end Go.Proofs.YtolbhkcajhlllaaGreatDoor
section
namespace Go.Proofs.YtolbhkcajhlllaaGreatDoor
open Go Go.Vc Go.Proofs
open Go.ChangeShapes Go.WideShapes Go.ChangeAt Go.RowKit
variable {w:World} {K:oK} {F D G:Nat->Prop}
theorem list2 {α:Type} {l:List α} (h:l.length=2):∃a b,l=[a,b]:=by
 match l,h with
 |[a,b],_=>exact⟨a,b,rfl⟩
theorem list5 {α:Type} {l:List α} (h:l.length=5):∃a b c d e,l=[a,b,c,d,e]:=by
 match l,h with
 |[a,b,c,d,e],_=>exact⟨a,b,c,d,e,rfl⟩
theorem sl_of {w:World} {x:Addr} {k len cap:Nat} {css:List (List Value)} (n:0<k) (o:len<=cap) (hm:cap<=maxLen) (p:css.length=len) (hw:∀c,c∈css->c.length=k)
  (a:∀i,i<len->∀j,j<k->w.cell? (x.add (i*k+j))=(css.getD i [])[j]?):Sl (λ_=>True) w k (.slice (some x) len cap) css:=by
 subst p;refine⟨⟨some x,cap,rfl,o,by unfold maxLen at hm;exact hm,λf=>?_⟩,hw⟩;have hlen:0<css.length:=Gx.2 f;obtain⟨b,off,spot⟩:=x;have q:(css.getD 0 []).length=k:=hw _ (M.getD_mem hlen _);have d:=a 0 hlen 0 n;rw[V0 (by omega:0<(css.getD 0 []).length)] at d;have e:spot=none:=by simpa[Addr.add] using World.cell?_spot d
 subst e;rw[yx] at d;refine⟨b,off,rfl,trivial,World.block_lt_of_cell? w _ d,λi hi j v l=>?_⟩;have g:(css.getD i []).length=k:=hw _ (M.getD_mem hi _);have m:j<k:=by rw[<-g];exact(Ge.1 l).1
 have h:=a i hi j m;rw[yx] at h;rw[yx,<-l,<-h,Pd]
section
variable {H:Type} {enc:TypeId×Value->H} {W:World} {cs:List Value} {x:DataW H×List MemPlace} {held:Bool} {fuel:Nat}
theorem Zs:P.underlying yy=some .string:=rK
theorem Yl0:P.underlying xM=some (.struct #[⟨"Name",yy,0,false,"","",0⟩,⟨"Wide",zV,1,false,"","",16⟩]):=rK
theorem Z50:P.underlying yi=some (.struct #[⟨"Op",zV,0,false,"","",0⟩,⟨"A",zV,1,false,"","",8⟩,⟨"B",zV,2,false,"","",16⟩,⟨"Name",yy,3,false,"","",24⟩,⟨"Kids",xa,4,false,"","",40⟩]):=rK
theorem Zk0:P.cellsOf zV=1:=rK
theorem zY0:P.cellsOf yy=1:=rK
theorem c1_Ls:P.cellsOf xa=1:=rK
theorem jh0:P.cellsOf xM=2:=rK
theorem yD0:P.cellsOf yi=5:=rK
def Yb:M.Tm->Bool:=M.Tm.fold λt xs=>decide (t.s.size<=9223372036854775807)&&xs.all id
theorem kb0 (t:M.Tm):Yb t=(decide (t.s.size<=9223372036854775807)&&(t.ks.map Yb).all id):=M.Tm.fold_eq _ t
theorem Yk0 {t:M.Tm}:Yb t=true↔t.s.size<=9223372036854775807/\∀k,k∈t.ks->Yb k=true:=by
 rw[kb0,gg,decide_eq_true_eq,gZ];refine and_congr_right λ_=>⟨λh k a=>h _ (gW a),λh y b=>?_⟩;obtain⟨k,a,rfl⟩:=gr.1 b;exact h k a
theorem ZP0 (h:DataW.trod enc P W 0 (λ_=>true) held fuel xM cs=some x):∃d:M.Dcl,cs=[.string d.1,nI d.2]/\d.1.size<=9223372036854775807:=by
 obtain⟨xs,n,_,_,g,hlen,f⟩:=DataW.trod_struct Yl0 h;rw[jh0] at g;obtain⟨c0,c1,rfl⟩:=list2 g;obtain⟨i,j,rfl⟩:=list2 (α:=DataW H×List MemPlace) hlen
 ·have c:=f 0 ⟨"Name",yy,0,false,"","",0⟩ rfl;have e:=f 1 ⟨"Wide",zV,1,false,"","",16⟩ rfl;simp only[Zk0,zY0,PQ,Pq,pG,List.drop_succ_cons,pU,pV] at c e;obtain⟨s,a,_,hs⟩:=DataW.trod_string Zs c;obtain⟨n,b,_,_⟩:=DataW.trod_int QV e;simp only[gL,and_true] at a b;subst a b;exact⟨(s,n),rfl,by simpa[maxLen] using hs⟩
theorem each_in {α:Type} [Inhabited α] {e k:Nat} {R:List Value->α->Prop} {a:Addr} {len cap n:Nat} {elems:List (DataW H×List MemPlace)} (ce:P.cellsOf e=k) (p:0<k) (r:len<=cap) (hm:cap<=maxLen) (t:elems.length=len)
  (f:∀i,i<len->(W.cells? 0 (a.add (i*P.cellsOf e)) (P.cellsOf e)).bind (DataW.trod enc P W 0 (λ_=>true) held n e)=elems[i]?)
  (b:∀cs x,DataW.trod enc P W 0 (λ_=>true) held n e cs=some x->∃y,R cs y):
  ∃(css:List (List Value)) (ys:List α),Sl (λ_=>True) W k (.slice (some a) len cap) css/\css.length=len/\ys.length=len/\∀i,i<len->R (css.getD i []) (ys.getD i default):=by
 have each:∀i,i<len->∃q:List Value×α,W.cells? 0 (a.add (i*k)) k=some q.1/\R q.1 q.2:=λi hi=>by
  have h:=f i hi;rw[V0 oM,ce] at h;obtain⟨cs',l,m⟩:=Option.bind_eq_some_iff.1 h;obtain⟨y,s⟩:=b _ _ m;exact⟨(cs',y),l,s⟩
 obtain⟨q,g⟩:=Go.Deep.choose_lt each;refine⟨(List.range len).map λi=>(q i).1,(List.range len).map λi=>(q i).2,?_,by simp,by simp,λi hi=>?_⟩
 ·refine sl_of p r hm (by simp) (λc d=>?_) λi hi j o=>?_
  ·obtain⟨i,hi,rfl⟩:=gr.1 d;exact(World.cells?_some (g i (gI.1 hi)).1).2.1
  ·have d:=(World.cells?_some (g i hi).1).2.2 j o;rw[Go.Deep.add_add] at d;rw[d];simp[y3,hi]
 ·have:=(g i hi).2;simpa[y3,hi] using this
theorem decls_in (h:DataW.trod enc P W 0 (λ_=>true) held fuel qj cs=some x):∃v ds,cs=[v]/\DclsR (λ_=>True) W v ds/\Ji ds:=by
 rcases DataW.trod_slice QN h with⟨rfl,_⟩|⟨a,len,cap,elems,rest,n,_,rfl,_,_,f,hm,g,b,_,_⟩
 ·exact⟨_,[],rfl,⟨⟨none,0,rfl,by simp,by simp,λh=>absurd rfl h⟩,by simp⟩,λi hi=>absurd hi (by simp)⟩
 ·obtain⟨css,ys,hs,k,l,c⟩:=each_in (α:=M.Dcl) (R:=λcs d=>cs=[.string d.1,nI d.2]/\d.1.size<=9223372036854775807) jh0 dC f hm g b λcs x j=>ZP0 j;refine⟨_,ys,rfl,?_,λi hi=>?_⟩
  ·have e:css=ys.map λd=>[Value.string d.1,nI d.2]:=by
    refine gF (by simp;omega) λi g1 g2=>?_;have:=(c i oM).1;rw[y3,V0 g1,y3,V0 oM] at this;simpa using this
   rw[e] at hs;exact hs
  ·have:=(c i oM).2;rw[y3,V0 hi] at this⊢;simpa using this
theorem term_in:∀(fuel:Nat) {cs:List Value} {x:DataW H×List MemPlace},DataW.trod enc P W 0 (λ_=>true) held fuel yi cs=some x->∃t:M.Tm,TmR (λ_=>True) W cs t/\Yb t=true:=by
 intro fuel;induction fuel using Nat.strongRecOn with
 |_ fuel I=>
 intro cs x h;obtain⟨xs,n,D,_,e,hlen,c⟩:=DataW.trod_struct Z50 h;rw[yD0] at e;obtain⟨c0,c1,c2,c3,J,rfl⟩:=list5 e;clear e;obtain⟨K,L,N,O,Q,rfl⟩:=list5 (α:=DataW H×List MemPlace) hlen
 ·have y:=c 0 ⟨"Op",zV,0,false,"","",0⟩ rfl;have z:=c 1 ⟨"A",zV,1,false,"","",8⟩ rfl;have A:=c 2 ⟨"B",zV,2,false,"","",16⟩ rfl;have B:=c 3 ⟨"Name",yy,3,false,"","",24⟩ rfl;have C:=c 4 ⟨"Kids",xa,4,false,"","",40⟩ rfl;simp only[Zk0,zY0,c1_Ls,PQ,Pq,pG,List.drop_succ_cons,pU,pV] at y z A B C;obtain⟨o,r,_,_⟩:=DataW.trod_int QV y;obtain⟨p,u,_,_⟩:=DataW.trod_int QV z;obtain⟨q,v,_,_⟩:=DataW.trod_int QV A;obtain⟨s,w,_,hs⟩:=DataW.trod_string Zs B;simp only[gL,and_true] at r u v w;subst r u v w;have f:s.size<=9223372036854775807:=(by simpa[maxLen] using hs);rcases DataW.trod_slice Zt C with⟨b,_⟩|⟨a,len,cap,elems,rest,m,E,b,_,_,e,hm,F,g,_,_⟩
  ·simp only[gL,and_true] at b;subst b;exact⟨.mk o p q s [],zI0 o p q s,Yk0.2 ⟨f,λk j=>by cases j⟩⟩
  ·simp only[gL,and_true] at b;subst b;obtain⟨css,ys,l,g1,g2,g3⟩:=each_in (α:=M.Tm) (R:=λcs t=>TmR (λ_=>True) W cs t/\Yb t=true) yD0 dC e hm F g λcs x G=>I m oM G;refine⟨.mk o p q s ys,TmR.of (t:= .mk o p q s ys) ⟨css,l,by show css.length=ys.length;omega,λi hi=>?_⟩,Yk0.2 ⟨f,λk j=>?_⟩⟩
   ·have d:i<ys.length:=hi;exact(g3 i oM).1
   ·obtain⟨i,hi,rfl⟩:=gm j;have d:i<ys.length:=hi;have:=(g3 i oM).2;rwa[y3,V0 d] at this
end
end Go.Proofs.YtolbhkcajhlllaaGreatDoor
end
namespace Go.Proofs.YtolbhkcajhlllaaGreatDoor
open Go Go.Vc Go.Proofs
section
variable {w:World} {K:oK} {F F' D G:Nat->Prop}
theorem eqIntS_same {va vb:Value} {a:List Int} (f:Ints F w va a) (k:Ints F' w vb a) (n:∀w',Ext w w'->K (.bool true) w'):vcall WM #[va,vb] w K:=by
 refine ze {ord:=[oz 6 (oR 9) [(0,[1,4,5,6,7]),(1,[4,5,6,7]),(2,[4,5,6,7]),(3,[4,5,6,7]),(4,[5])]],loops:=[(4,[5])]} Tryz.func12 ?_;have o:=ints_small f;simp only[push_cast,f.len,k.len];refine zb (λh=>absurd rfl h) (λh=>?_);refine vloop_up a.length (λi u w'=>u=[nI i]/\Ext w w') ⟨rfl,Same.refl _ _⟩ ?_;rintro i _ _ w1 C hi ⟨rfl,he⟩ m;have c:=f.ext he;have g:=k.ext he;simp only[push_cast,c.len];refine zb (λl=>?_) (λl=>?_)
 ·refine zd λw2 b _=>?_;have d:=c.ext b;have e:=g.ext b;simp(disch:=first|omega|simp only[push_cast]) only[push_cast,d.iaddr,d.load,e.iaddr,e.load,true_and];refine zb (λj=>absurd rfl j) (λj=>?_);rw[inc64' oM];exact m oM _ _ ⟨rfl,he.trans b⟩
 ·exact n w1 he
theorem szDecl_spec {s:ByteArray} {n left:Int} (g:0<=left) (h:left<=1048576) (hs:s.size<=9223372036854775807) (c:∀w' r,Ext w w'->(r= -1\/0<=r/\r<=left/\(s.size:Int)<=left)->K (nI r) w'):vcall WK #[.agg ⟨[.string s,nI n]⟩,nI left] w K:=by
 refine ze {} Tryz.func28 ?_;refine zi λb1 w1 d b e f=>?_;simp(disch:=first|(simp only[push_cast])|exact Zs) only[push_cast,f.ld0,Xk];rw[show IntKind.i64.wrap (left-(s.size:Int))=left-s.size from zl oM oM];refine zb (λa=>?_) (λa=>?_)
 ·exact c _ _ b (.inl rfl)
 ·exact c _ _ b (.inr oM)
theorem szDeclS_spec {v:Value} {ds:List M.Dcl} {left:Int} (o:0<=left) (p:left<=1048576) (l:Ji ds) (g:DclsR F w v ds) (f:∀w' r,Ext w w'->(r= -1\/0<=r/\r<=left/\(ds.length:Int)<=left)->K (nI r) w'):vcall KT #[v,nI left] w K:=by
 refine ze {loops:=[(5,[1,5])]} Tryz.func6 ?_;have k:=g.small;simp only[push_cast,g.len];rw[show IntKind.i64.wrap (left-(ds.length:Int))=left-ds.length from zl oM oM];refine zb (λa=>f _ _ (Same.refl _ _) (.inl rfl)) (λa=>?_);refine vloop_up ds.length (λi u w'=> ∃r:Int,u=[nI r,nI i]/\Ext w w'/\0<=r/\r<=left) ⟨_,rfl,Same.refl _ _,oM,oM⟩ ?_;rintro i _ _ w1 C hi ⟨r,rfl,he,m,q⟩ h;have b:=g.ext he;simp(disch:=first|omega|simp only[push_cast]) only[push_cast,b.len];refine zb (λc=>?_) (λc=>?_)
 ·simp(disch:=first|omega|simp only[push_cast]) only[push_cast,b.iaddr,b.load];refine szDecl_spec m oM (l i oM) λw2 n e j=>?_;simp only[push_cast];refine zb (λd=>f _ _ (he.trans e) (.inl rfl)) (λd=>?_);rw[inc64' oM];exact h oM _ _ ⟨n,rfl,he.trans e,oM,oM⟩
 ·exact f _ _ he (.inr oM)
abbrev SzT (t:M.Tm):Prop:=∀{w:World} {K:oK} {F:Nat->Prop} {v:Value} {left:Int},TermR F w v t->Yb t=true->0<=left->left<=1048576->(∀w' r,Ext w w'->(r= -1\/0<=r/\r+M.sizeM t<=left+1/\xt0 t=true)->K (nI r) w')->vcall WJ #[v,nI left] w K
theorem szTermS_of {ks:List M.Tm} (B:∀k,k∈ks->SzT k) {v:Value} {left:Int} (l:TmsR F w v ks) (hs:∀k,k∈ks->Yb k=true) (E:0<=left) (G:left<=1048576)
  (n:∀w' r,Ext w w'->(r= -1\/0<=r/\r+M.szT ks ks.length<=left/\(ks.length:Int)<=left/\∀k,k∈ks->xt0 k=true)->K (nI r) w'):vcall KR #[v,nI left] w K:=by
 refine ze {loops:=[(5,[1,5])]} Tryz.func7 ?_;have y:=l.small;simp only[push_cast,l.len];rw[show IntKind.i64.wrap (left-(ks.length:Int))=left-ks.length from zl oM oM];refine zb (λa=>n _ _ (Same.refl _ _) (.inl rfl)) (λa=>?_);refine vloop_up ks.length (λi u w'=> ∃r:Int,u=[nI r,nI i]/\Ext w w'/\0<=r/\r+M.szT ks i<=left-ks.length+i/\∀j,j<i->xt0 (ks.getD j default)=true) ⟨_,rfl,Same.refl _ _,oM,by show _+((0:Nat):Int)<=_;omega,λj m=>absurd m oM⟩ ?_;rintro i _ _ w1 C hi ⟨r,rfl,he,s,H,q⟩ t;have f:=l.ext he;simp(disch:=first|omega|simp only[push_cast]) only[push_cast,f.len];refine zb (λc=>?_) (λc=>?_)
 ·have b:ks.getD i default∈ks:=M.getD_mem oM _;simp(disch:=first|omega|simp only[push_cast]) only[push_cast,f.iaddr];refine f.load Za oM λx A=>?_;refine B _ b A (hs _ b) s oM λw2 D g p=>?_;simp only[push_cast];refine zb (λd=>n _ _ (he.trans g) (.inl rfl)) (λd=>?_);rw[inc64' oM];rcases p with h|⟨g0,g1,g2⟩
  ·omega
  have z:=M.szT_succ (ks:=ks) (i:=i) oM;refine t oM _ _ ⟨D,rfl,he.trans g,g0,oM,λj m=>?_⟩;by_cases e:j<i
  ·exact q j e
  ·have:j=i:=oM;subst this;exact g2
 ·have o:i=ks.length:=oM;subst o;refine n _ _ he (.inr ⟨s,oM,oM,λk l=>?_⟩);obtain⟨j,m,rfl⟩:=gm l;have:=q j oM;rwa[y3,V0 m] at this
theorem szTerm_spec:∀t:M.Tm,SzT t:=by
 refine M.Tm.ind λt n=>?_;intro w K F v left m hs o p e;refine ze {} Tryz.func19 ?_;obtain⟨kv,rfl,f⟩:=m;obtain⟨s1,s2⟩:=Yk0.1 hs;refine zi λb1 w1 i b k g=>?_;simp(disch:=first|(simp only[push_cast])|exact Zs) only[push_cast,g.ld3,g.ld4,Xk];rw[show IntKind.i64.wrap (left-(t.s.size:Int))=left-t.s.size from zl oM oM];refine zb (λa=>e _ _ b (.inl rfl)) (λa=>?_);refine szTermS_of n (f.ext b) s2 oM oM λw2 r c j=>?_;simp only[push_cast];refine zb (λd=>e _ _ (b.trans c) (.inl rfl)) (λd=>?_);rcases j with h|⟨g0,g1,g2,g3⟩
 ·omega
 have l:=M.szT_all t;exact e _ _ (b.trans c) (.inr ⟨g0,oM,fitB_iff.2 ⟨oM,g3⟩⟩)
theorem toDecl_spec {s:ByteArray} {n:Int} (x:∀w',Ext w w'->K (.agg ⟨[.string s,nI n]⟩) w'):vcall WI #[.agg ⟨[.string s,nI n]⟩] w K:=by
 refine ze {} Tryz.func31 ?_;refine zi λb1 w1 z h C p=>?_;refine zj xZ λb2 w2 A d D q=>?_;refine zj xZ λb3 w3 B a E r=>?_;have m:=(p.ext d).ext a;simp only[push_cast,m.ld0];refine r.st (i:=0) rfl rfl Y1 rfl λJ e F u=>?_;have I:=m.same e oM;simp only[push_cast,I.ld1];refine u.st (i:=1) rfl rfl yT rfl λo j G g=>?_;replace g:Blk o b3 [.string s,nI n] xr:=g;rw[g.ldAgg (t:=xr) Xc];have c:Same (λb=>b=b3) w3 o:=e.trans j;have f:=(q.ext a).same c oM;refine stDecl f λL k H v=>?_;rw[v.lv (t:=xr) Xc];refine x _ (Ext.then (Ext.then ((h.trans d).trans a) c λy l=>by subst l;omega) k λy l=>by subst l;omega)
theorem toDeclS_own {v:Value} {ds:List M.Dcl} (s:DclsR F w v ds) (B:ds.length<=1048576) (z:∀w' v',Ext w w'->Own 0 2 xb w' v' (ds.map λd=>[Value.string d.1,nI d.2])->(∀b,v'.ownBlock=some b->w.heap.size<=b)->K v' w'):vcall YG #[v] w K:=by
 refine ze {loops:=[(3,[4])]} Tryz.func9 ?_;simp only[push_cast,s.len];refine vmkS_agg (cs:=[.string ⟨#[]⟩,nI 0]) zK0 dC (by rw[Uw];exact xZ) oM oM λv1 w1 o n h=>?_;refine vloop_up ds.length (λi u w'=>u=[nI i]/\Ext w w'/\∃css,css.length=ds.length/\Own 0 2 xb w' v1 css/\∀j,j<i->css.getD j []=[.string (ds.getD j x20).1,nI (ds.getD j x20).2]) ⟨rfl,n,_,by simp,o,oM⟩ ?_;rintro i _ _ w2 C hi ⟨rfl,f,css,A,k,t⟩ y;have c:=s.ext f;simp only[push_cast,c.len];refine zb (λa=>?_) (λa=>?_)
 ·simp(disch:=first|omega|simp only[push_cast]) only[push_cast,c.iaddr,c.load];refine toDecl_spec λw3 g=>?_;have l:=k.ext g;have q:=l.sl;simp(disch:=first|omega|simp only[push_cast]) only[push_cast,q.iaddr];refine own_stEl l dC rfl (by intro v x;simp only[gd,gq,or_false] at x;rcases x with rfl|rfl<;>rfl) Xc oM λG p r D=>?_;rw[inc64' oM];refine y oM _ _ ⟨rfl,Ext.then (f.trans g) r λb m=>h b m,_,by rw[gE];exact A,p,λj E=>?_⟩;rw[getD_set oM];by_cases e:i=j
  ·subst e;rw[if_pos rfl]
  ·rw[if_neg e];exact t j oM
 ·have e:css=ds.map λd=>[Value.string d.1,nI d.2]:=by
   refine gF (by simp;omega) λj g1 g2=>?_;have:=t j oM;rw[y3,V0 g1,y3,V0 oM] at this;simpa using this
  subst e;exact z w2 v1 f k λb m=>h b m
theorem Zv {v:Value} {ds:List M.Dcl} (e:DclsR F w v ds) (a:ds.length<=1048576) (c:∀w' v',Ext w w'->DclsR (λb=>w.heap.size<=b) w' v' ds->K v' w'):vcall YG #[v] w K:=
 toDeclS_own e a λw' v' he f d=>c w' v' he (f.sl.weaken λb h _=>d b h)
abbrev CpT (t:M.Tm):Prop:=∀{w:World} {K:oK} {F:Nat->Prop} {v:Value},TermR F w v t->xt0 t=true->(∀w' v',Ext w w'->TermR (λb=>w.heap.size<=b) w' v' t->K v' w')->vcall Xt #[v] w K
theorem toTermS_of {ks:List M.Tm} (R:∀k,k∈ks->CpT k) {v:Value} (A:TmsR F w v ks) (J:ks.length<=1048576) (H:∀k,k∈ks->xt0 k=true)
  (G:∀w' v',Ext w w'->TmsR (λb=>w.heap.size<=b) w' v' ks->K v' w'):vcall YF #[v] w K:=by
 refine ze {loops:=[(3,[4])]} Tryz.func10 ?_;simp only[push_cast,A.len];refine vmkS_agg (cs:=VZ) qz dC (by rw[qm];exact zn) oM oM λv1 w1 t o p=>?_;have N:=o.size;refine vloop_up ks.length (λi u w'=>u=[nI i]/\Ext w w'/\∃css,css.length=ks.length/\Own 0 5 zk w' v1 css/\∀j,j<i->TmR (λb=>w.heap.size<=b/\v1.ownBlock≠some b) w' (css.getD j []) (ks.getD j default)) ⟨rfl,o,_,by simp,t,oM⟩ ?_;rintro i _ _ w2 C hi ⟨rfl,d,css,B,m,D⟩ E;have l:=A.ext d;have O:=d.size;simp only[push_cast,l.len];refine zb (λa=>?_) (λa=>?_)
 ·have f:ks.getD i default∈ks:=M.getD_mem oM _;simp(disch:=first|omega|simp only[push_cast]) only[push_cast,l.iaddr];refine l.load Za oM λx L=>?_;refine R _ f L (H _ f) λw3 v3 h s=>?_;obtain⟨c3,rfl,g⟩:=s.cells;have q:=m.ext h;have z:=q.sl;simp(disch:=first|omega|simp only[push_cast]) only[push_cast,z.iaddr];have r:∀b,v1.ownBlock=some b->b<w2.heap.size:=λb c=>(m.lt c).2;refine own_stEl q dC (zQ g) (tmR_one g) zc oM λS y n Q=>?_;rw[inc64' oM];refine E oM _ _ ⟨rfl,Ext.then (d.trans h) n λb c=>p b c,_,by rw[gE];exact B,y,λj I=>?_⟩;rw[getD_set oM];by_cases e:i=j
  ·subst e;rw[if_pos rfl];refine(g.weaken (F':=λb=>w.heap.size<=b/\v1.ownBlock≠some b) λb c _=>⟨oM,λe=>by have:=r b e;omega⟩).same n λb c _ e=>c.2 e
  ·rw[if_neg e];exact((D j oM).ext h).same n λb c _ e=>c.2 e
 ·exact G w2 v1 d ⟨css,m.sl.weaken λb c _=>p b c,B,λj I=>(D j oM).weaken λb c _=>c.1⟩
theorem toTerm_spec:∀t:M.Tm,CpT t:=by
 refine M.Tm.ind λt ih=>?_;intro w K F v ht hf hK;refine ze {} Tryz.func21 ?_;obtain⟨kv,rfl,H⟩:=ht;obtain⟨f1,f2⟩:=fitB_iff.1 hf;refine zi λb1 w1 a0 E a3 S=>?_;refine zj zn λb2 w2 a1 m a4 T=>?_;refine zj zn λb3 w3 a2 h a5 U=>?_;have N:=(S.ext m).ext h;simp only[push_cast,N.ld0];refine U.st (i:=0) rfl rfl yT rfl λw4 r a6 V=>?_;have O:=N.same r oM;simp only[push_cast,O.ld1];refine V.st (i:=1) rfl rfl yT rfl λw5 u a7 W=>?_;have P:=O.same u oM;simp only[push_cast,P.ld2];refine W.st (i:=2) rfl rfl yT rfl λw6 z a8 X=>?_;have Q:=P.same z oM;simp only[push_cast,Q.ld3];refine X.st (i:=3) rfl rfl Y1 rfl λI A a9 Y=>?_;have q7:=Q.same A oM;simp only[push_cast,q7.ld4];have g:Same (λb=>b=b3) w3 I:=r.trans (u.trans (z.trans A));have l:=(E.trans m).trans h;have j:Ext w I:=Ext.then l g λy B=>by subst B;omega
 refine toTermS_of ih (H.ext j) f1 f2 λw8 d f n=>?_;have Z:=Y.ext f;have o:d.cells= #[d]/\d.oneCell'=true:=by
  obtain⟨css,hs,_⟩:=n;obtain⟨a,c,rfl,_⟩:=hs.shape;exact⟨rfl,rfl⟩
 have aa:=f.size;have L:=g.size
 try simp only[push_cast]
 refine Z.st (i:=4) o.1 o.2 xI rfl λR k ab D=>?_;replace D:Blk R b3 [nI t.op,nI t.a,nI t.b,.string t.s,d] za:=D;rw[D.ldAgg (t:=za) zc];have G:TmsR (λb=>I.heap.size<=b) R d t.ks:=n.same k λb hb _ e=>oM
 have C:=(((T.ext h).same g oM).ext f).same k oM;refine qc C rfl (TmR.of (t:=t) G) (λx hx=>oM) λw10 q J p=>?_;exact hK _ _ (Ext.then (Ext.then (j.trans f) k λy B=>by subst B;omega) q λy B=>by subst B;omega) (p.weaken λb hb _=>by have:=j.size;omega)
theorem yB0 {s:ByteArray} {n:Int} (f:∀w',Ext w w'->K (.bool true) w'):vcall WN #[.agg ⟨[.string s,nI n]⟩,.agg ⟨[.string s,nI n]⟩] w K:=by
 refine ze {} Tryz.func33 ?_;refine zi λb1 w1 g d j e=>?_;refine zi λb2 w2 i a k b=>?_;have c:=e.ext a;simp only[push_cast,c.ld0,b.ld0,c.ld1,b.ld1];refine zb (λh=>absurd rfl h) (λ_=>?_)
 try simp only[push_cast,c.ld0,b.ld0,c.ld1,b.ld1]
 refine zb (λh=>absurd rfl h) (λ_=>?_);exact f _ (d.trans a)
theorem eqDeclS_same {va vb:Value} {ds:List M.Dcl} (e:DclsR F w va ds) (j:DclsR F' w vb ds) (m:∀w',Ext w w'->K (.bool true) w'):vcall KW #[va,vb] w K:=by
 refine ze {ord:=[oz 6 (oR 10) [(0,[1,4,5,6,7]),(1,[4,5,6,7]),(2,[4,5,6,7]),(3,[4,5,6,7]),(4,[5])]],loops:=[(4,[5])]} Tryz.func13 ?_;have n:=e.small;simp only[push_cast,e.len,j.len];refine zb (λh=>absurd rfl h) (λh=>?_);refine vloop_up ds.length (λi u w'=>u=[nI i]/\Ext w w') ⟨rfl,Same.refl _ _⟩ ?_;rintro i _ _ w1 C hi ⟨rfl,he⟩ l;have b:=e.ext he;have f:=j.ext he;simp only[push_cast,b.len];refine zb (λk=>?_) (λk=>?_)
 ·refine zd λw2 a _=>?_;have c:=b.ext a;have d:=f.ext a;simp(disch:=first|omega|simp only[push_cast]) only[push_cast,c.iaddr,c.load,d.iaddr,d.load,true_and];refine yB0 λw3 g=>?_;simp only[push_cast,Gc,true_and];rw[inc64' oM];exact l oM _ _ ⟨rfl,he.trans (a.trans g)⟩
 ·exact m w1 he
abbrev EqT (t:M.Tm):Prop:=∀{w:World} {K:oK} {F G:Nat->Prop} {va vb:Value},TermR F w va t->TermR G w vb t->(∀w',Ext w w'->K (.bool true) w')->vcall WL #[va,vb] w K
theorem eqTermS_of {ks:List M.Tm} (o:∀k,k∈ks->EqT k) {va vb:Value} (d:TmsR F w va ks) (g:TmsR F' w vb ks) (m:∀w',Ext w w'->K (.bool true) w'):vcall KU #[va,vb] w K:=by
 refine ze {ord:=[oz 6 (oR 10) [(0,[1,4,5,6,7]),(1,[4,5,6,7]),(2,[4,5,6,7]),(3,[4,5,6,7]),(4,[5])]],loops:=[(4,[5])]} Tryz.func14 ?_;have n:=d.small;simp only[push_cast,d.len,g.len];refine zb (λh=>absurd rfl h) (λh=>?_);refine vloop_up ks.length (λi u w'=>u=[nI i]/\Ext w w') ⟨rfl,Same.refl _ _⟩ ?_;rintro i _ _ w1 C hi ⟨rfl,he⟩ l;have b:=d.ext he;have e:=g.ext he;simp only[push_cast,b.len];refine zb (λj=>?_) (λj=>?_)
 ·refine zd λw2 a _=>?_;obtain⟨cssa,sa,la,ka⟩:=b.ext a;obtain⟨cssb,sb,lb,kb⟩:=e.ext a;have c:ks.getD i default∈ks:=M.getD_mem oM _;have ga:aggB za 5=true:=zc;simp(disch:=first|omega|simp only[push_cast]) only[push_cast,sa.iaddr,sa.ldAgg,sb.iaddr,sb.ldAgg,true_and];refine o _ c (ka i oM).term (kb i oM).term λw3 f=>?_;simp only[push_cast,Gc,true_and];rw[inc64' oM];exact l oM _ _ ⟨rfl,he.trans (a.trans f)⟩
 ·exact m w1 he
theorem Ks:∀t:M.Tm,EqT t:=by
 refine M.Tm.ind λt r=>?_;intro w K F G va vb l m k;refine ze {} Tryz.func23 ?_;obtain⟨kva,rfl,g⟩:=l;obtain⟨kvb,rfl,i⟩:=m;refine zi λb1 w1 n e p j=>?_;refine zi λb2 w2 o b q a=>?_;have c:=j.ext b;simp only[push_cast,c.ld0,a.ld0,c.ld1,a.ld1,c.ld2,a.ld2,c.ld3,a.ld3,c.ld4,a.ld4];refine zb (λh=>absurd rfl h) (λ_=>?_);refine zb (λh=>absurd rfl h) (λ_=>?_);refine zb (λh=>absurd rfl h) (λ_=>?_);refine zb (λh=>absurd rfl h) (λ_=>?_);have d:=e.trans b;refine eqTermS_of r (g.ext d) (i.ext d) λw3 f=>?_;simp only[push_cast,Gc];exact k _ (d.trans f)
end
section
variable {w:World} {K:oK} {F D G:Nat->Prop}
def kX0 (w:World) (D:Nat->Prop) (kv:Value) (us:List M.Tm) (css:List (List Value)) (Ds:Nat->Nat->Prop):Prop:=
 Own 0 5 zk w kv css/\css.length=us.length/\(∀b,kv.ownBlock=some b->D b/\∀i,i<us.length->¬Ds i b)/\(∀i j b,i<j->j<us.length->Ds i b->¬Ds j b)/\(∀i b,i<us.length->Ds i b->D b)/\
 ∀i,i<us.length->TmO w (Ds i) (css.getD i []) (us.getD i default)
theorem qj0 {kv:Value} {t:M.Tm} {css:List (List Value)} {Ds:Nat->Nat->Prop} (h:kX0 w D kv t.ks css Ds):TmO w D [nI t.op,nI t.a,nI t.b,.string t.s,kv] t:=by
 obtain⟨c,d,e,f,g,i⟩:=h;exact .mk css Ds c d e f g i
theorem UR {cs:List Value} {t:M.Tm} (h:TmO w D cs t):∃kv css Ds,cs=[nI t.op,nI t.a,nI t.b,.string t.s,kv]/\kX0 w D kv t.ks css Ds:=by
 obtain⟨kv,css,Ds,c,d,e,f,g,i,j⟩:=W4 h;exact⟨kv,css,Ds,c,d,e,f,g,i,j⟩
theorem Z30 {kv:Value} {us:List M.Tm} {css:List (List Value)} {Ds:Nat->Nat->Prop} (h:kX0 w D kv us css Ds):TmsR D w kv us:=by
 obtain⟨c,d,e,j,f,g⟩:=h;exact⟨css,c.sl.weaken λb a _=>(e b a).1,d,λi hi=>(ye0 _ (g i hi)).weaken λb a _=>f i b hi a⟩
theorem Zw {S:Nat->Prop} {w':World} {kv:Value} {us:List M.Tm} {css:List (List Value)} {Ds:Nat->Nat->Prop} (h:kX0 w D kv us css Ds) (hw:Same S w w') (hs:∀b,D b->¬S b):kX0 w' D kv us css Ds:=by
 obtain⟨e,f,c,g,d,j⟩:=h;exact⟨e.same hw λb a=>hs b (c b a).1,f,c,g,d,λi hi=>j4 hw _ (j i hi) λb a=>hs b (d i b hi a)⟩
abbrev CpO (t:M.Tm):Prop:=∀{w:World} {K:oK} {F:Nat->Prop} {v:Value},TermR F w v t->xt0 t=true->(∀w' cs,Ext w w'->TmO w' (λb=>w.heap.size<=b/\b<w'.heap.size) cs t->K (.agg ⟨cs⟩) w')->vcall Xt #[v] w K
theorem toTermS_own {ks:List M.Tm} (ih:∀k,k∈ks->CpO k) {v:Value} (I:TmsR F w v ks) (W:ks.length<=1048576) (V:∀k,k∈ks->xt0 k=true)
  (T:∀w' v' css Ds,Ext w w'->kX0 w' (λb=>w.heap.size<=b/\b<w'.heap.size) v' ks css Ds->K v' w'):vcall YF #[v] w K:=by
 refine ze {loops:=[(3,[4])]} Tryz.func10 ?_;simp only[push_cast,I.len];refine vmkS_agg (cs:=VZ) qz dC (by rw[qm];exact zn) oM oM λv1 w1 z r t=>?_;have Y:=r.size;have f:∀b,v1.ownBlock=some b->b<w1.heap.size:=λb c=>(z.lt c).2;refine vloop_up ks.length (λi u w'=>u=[nI i]/\Ext w w'/\w1.heap.size<=w'.heap.size/\∃(css:List (List Value)) (Ds:Nat->Nat->Prop),css.length=ks.length/\Own 0 5 zk w' v1 css/\
   (∀j b,j<i->Ds j b->w1.heap.size<=b/\b<w'.heap.size)/\(∀j k b,j<k->k<i->Ds j b->¬Ds k b)/\∀j,j<i->TmO w' (Ds j) (css.getD j []) (ks.getD j default))
  ⟨rfl,r,gu _,_,λ_ _=>False,by simp,z,oM,oM,oM⟩ ?_
 rintro i _ _ w2 C hi ⟨rfl,n,Z,css,Ds,Q,A,d,h,R⟩ S;have o:=I.ext n;simp only[push_cast,o.len];refine zb (λa=>?_) (λa=>?_)
 ·have l:ks.getD i default∈ks:=M.getD_mem oM _;simp(disch:=first|omega|simp only[push_cast]) only[push_cast,o.iaddr];refine o.load Za oM λx X=>?_;refine ih _ l X (V _ l) λw3 c3 g q=>?_;have y:=ye0 _ q;have B:=A.ext g;have L:=B.sl;have a0:=g.size;simp(disch:=first|omega|simp only[push_cast]) only[push_cast,L.iaddr];refine own_stEl B dC (zQ y) (tmR_one y) zc oM λw4 J p a1=>?_;rw[inc64' oM];refine S oM _ _ ⟨rfl,Ext.then (n.trans g) p λb c=>t b c,oM,css.set i c3,λj b=>(j<i/\Ds j b)\/(j=i/\w2.heap.size<=b/\b<w3.heap.size),by rw[gE];exact Q,J,λj b s c=>?_,λj k b H I m D=>?_,λj s=>?_⟩
  ·rcases c with⟨m,D⟩|⟨m,D,E⟩
   ·have:=d j b m D;omega
   ·omega
  ·rcases m with⟨m,E⟩|⟨m,E,h4⟩
   ·rcases D with⟨N,O⟩|⟨N,O,h7⟩
    ·exact h j k b H N E O
    ·have:=d j b m E;omega
   ·omega
  ·rw[getD_set oM];by_cases e:i=j
   ·subst e;rw[if_pos rfl];exact qx (j4 p _ q λb c e=>by have:=f b e;omega) λb c=> .inr ⟨rfl,c⟩
   ·rw[if_neg e];exact qx (j4 p _ (yd0 (R j oM) g) λb c e=>by have:=f b e;have:=d j b oM c;omega) λb c=> .inl ⟨oM,c⟩
 ·have G:i=ks.length:=oM;subst G;refine T w2 v1 css Ds n ⟨A,Q,λb c=>⟨⟨t b c,by have:=f b c;omega⟩,λj s U=>by have:=f b c;have:=d j b s U;omega⟩,h,λj b s c=>by have:=d j b s c;omega,R⟩
theorem toTerm_own:∀t:M.Tm,CpO t:=by
 refine M.Tm.ind λt ih=>?_;intro w K F v ht hf Z;refine ze {} Tryz.func21 ?_;obtain⟨kv,rfl,H⟩:=ht;obtain⟨f1,f2⟩:=fitB_iff.1 hf;refine zi λb1 w1 a0 E a3 R=>?_;refine zj zn λb2 w2 a1 m a4 S=>?_;refine zj zn λb3 w3 a2 h a5 T=>?_;have L:=(R.ext m).ext h;simp only[push_cast,L.ld0];refine T.st (i:=0) rfl rfl yT rfl λw4 r a6 U=>?_;have N:=L.same r oM;simp only[push_cast,N.ld1];refine U.st (i:=1) rfl rfl yT rfl λw5 u a7 V=>?_;have O:=N.same u oM;simp only[push_cast,O.ld2];refine V.st (i:=2) rfl rfl yT rfl λw6 z a8 W=>?_;have P:=O.same z oM;simp only[push_cast,P.ld3];refine W.st (i:=3) rfl rfl Y1 rfl λQ A a9 X=>?_;have q7:=P.same A oM;simp only[push_cast,q7.ld4];have g:Same (λb=>b=b3) w3 Q:=r.trans (u.trans (z.trans A));have l:=(E.trans m).trans h;have j:Ext w Q:=Ext.then l g λy B=>by subst B;omega
 refine toTermS_own ih (H.ext j) f1 f2 λw8 f css Ds d n=>?_;have Y:=X.ext d;have o:f.cells= #[f]/\f.oneCell'=true:=by
  obtain⟨a,c,rfl,_⟩:=n.1.sl.shape;exact⟨rfl,rfl⟩
 have aa:=d.size;have J:=g.size
 try simp only[push_cast]
 refine Y.st (i:=4) o.1 o.2 xI rfl λw9 k ab D=>?_;replace D:Blk w9 b3 [nI t.op,nI t.a,nI t.b,.string t.s,f] za:=D;rw[D.ldAgg (t:=za) zc];have G:=Zw n k λb hb e=>oM
 have C:=(((S.ext h).same g oM).ext d).same k oM;refine retO C rfl (qj0 (t:=t) G) (λx hx=>oM) λw10 q I p=>?_;exact Z _ _ (Ext.then (Ext.then (j.trans d) k λy B=>by subst B;omega) q λy B=>by subst B;omega) (qx p λb hb=>by have:=j.size;omega)
def digs:Nat->Nat->ByteArray->ByteArray
 |0,_,acc=>acc
 |f+1,k,acc=>if 0<k then digs f (k/10) (strOfNums [((48+k%10:Nat):Int)]++acc) else acc
def Qp (k:Nat):ByteArray:=if k=0 then⟨#[109,48]⟩ else⟨#[109]⟩++digs (k+1) k ⟨#[]⟩
theorem markText_spec {k:Nat} (h:k<4611686018427387904) (b:∀w',Ext w w'->K (.string (Qp k)) w'):vcall Zz #[nI k] w K:=by
 refine ze {loops:=[(4,[0,3])]} Tryz.func34 ?_;simp only[push_cast];refine zb (λa=>?_) (λa=>?_)
 ·have e:Qp k=⟨#[109,48]⟩:=by unfold Qp;rw[if_pos oM]
  rw[e] at b;exact b _ (Same.refl _ _)
 have e:Qp k=⟨#[109]⟩++digs (k+1) k ⟨#[]⟩:=by unfold Qp;rw[if_neg oM]
 rw[e] at b;refine jC (λn u w'=> ∃(j:Nat) (acc:ByteArray) (f:Nat),u=[nI j,.string acc]/\n=j/\j<=k/\j<f/\acc.size+j<=k/\Ext w w'/\digs f j acc=digs (k+1) k ⟨#[]⟩) k
  ⟨k,_,k+1,rfl,rfl,gu _,oM,by simp[ByteArray.size],Same.refl _ _,rfl⟩ ?_
 rintro n _ _ w1 C ⟨j,acc,f,rfl,rfl,v,t,z,he,m⟩ q;simp only[push_cast];refine zb (λc=>?_) (λc=>?_)
 ·rw[kV dC,show(n:Int).tmod 10=((n%10:Nat):Int) from by rw[pH oM];omega,Xm];rw[show IntKind.i64.wrap (48+((n%10:Nat):Int))=((48+n%10:Nat):Int) from by rw[zl oM oM];omega];rw[jc US kx0,show IntKind.u8.wrap ((48+n%10:Nat):Int)=((48+n%10:Nat):Int) from by show((48+n%10:Nat):Int)%256=_;omega];refine xt (k:=1) (y:=[.int .u8 ((48+n%10:Nat):Int)]) Xn Zn0 jT0 rfl rfl dC λb2 w2 r l x p=>?_;have s:∀d:oK,y70 xC yy (.slice (some ⟨b2,0,none⟩) 1 1) w2 d=d (.string (strOfNums [((48+n%10:Nat):Int)])) w2:=λd=>
   y9 (run_convert_bytes_arg w2 xC Zd Xn rK b2 0 1 1 [((48+n%10:Nat):Int)] rfl (λi hi=>by
    have:i=0:=oM;subst this;exact p.cell (i:=0) rfl) yy Zs)
  rw[s,kU (by rw[strOfNums_size];show 1+_<=_;omega),ki dC,show(n:Int).tdiv 10=((n/10:Nat):Int) from by rw[Int.tdiv_eq_ediv_of_nonneg oM];omega,zl oM oM];obtain⟨f,rfl⟩:∃g,f=g+1:=⟨f-1,oM⟩;refine q (n/10) _ _ oM ⟨n/10,_,f,rfl,rfl,oM,oM,?_,he.trans l,?_⟩
  ·rw[ByteArray.size_append,strOfNums_size];show 1+acc.size+n/10<=k;omega
  ·rw[<-m];show _=if 0<n then _ else _
   rw[if_pos oM]
 ·have o:n=0:=oM;subst o;obtain⟨f,rfl⟩:∃g,f=g+1:=⟨f-1,oM⟩;have:acc=digs (k+1) k ⟨#[]⟩:=by
   rw[<-m];show _=if 0<0 then _ else acc
   rw[if_neg oM]
  subst this;rw[kU (by show 1+_<=_;omega)];exact b _ he
theorem markText_int {k:Int} (b:0<=k) (h:k<4611686018427387904) (a:∀w',Ext w w'->K (.string (Qp k.toNat)) w'):vcall Zz #[nI k] w K:=by
 obtain⟨n,rfl⟩:∃n:Nat,k=n:=⟨k.toNat,oM⟩;exact markText_spec oM a
theorem inc_wrap {k:Int} (a:0<=k) (h:k<4611686018427387904):IntKind.i64.wrap (k+1)=k+1:=zl oM oM
theorem markDeclS_spec {v:Value} {css:List (List Value)} {k:Int} (x:Own 0 2 xb w v css) (A:0<=k) (B:k+2*css.length<4611686018427387904)
  (t:∀w',Same (λb=>v.ownBlock=some b) w w'->K (nI (k+2*css.length)) w'):vcall J0 #[v,nI k] w K:=by
 refine ze {loops:=[(2,[1,5])]} Tryz.func15 ?_;refine vloop_up css.length (λi u w'=>u=[nI (k+2*i),nI i]/\Same (λb=>v.ownBlock=some b) w w'/\∃c,c.length=css.length/\Own 0 2 xb w' v c) ⟨by simp,Same.refl _ _,css,rfl,x⟩ ?_;rintro i _ _ w1 C hi ⟨rfl,h,r,e,f⟩ s;have o:=f.sl;simp only[push_cast,o.len,e];refine zb (λa=>?_) (λa=>?_)
 ·refine markText_int oM oM λw2 d=>?_;have g:=f.ext d;have n:=g.sl;simp(disch:=first|omega|simp only[push_cast]) only[push_cast,n.iaddr];refine Own.stCell g rfl rfl Y1 (i:=i) (j:=0) oM dC λw3 l p y=>?_;rw[inc_wrap oM oM];refine Own.stCell l rfl rfl yT (i:=i) (j:=1) (by rw[gE];omega) dC λD m q z=>?_;rw[inc_wrap oM oM,inc64' oM];refine s oM _ _ ⟨by rw[show k+2*(i:Int)+1+1=k+2*((i+1:Nat):Int) by omega],h.trans ((Same.of_ext d).trans (p.trans q)),_,by rw[gE,gE];exact e,m⟩
 ·have:i=css.length:=oM;subst this;exact t _ h
end
section
variable {w:World} {K:oK} {F D G:Nat->Prop}
inductive Held:List M.Tm->Int->Int->Prop
 |nil (k:Int):Held [] k k
 |cons {t:M.Tm} {us:List M.Tm} {k m n:Int}:t.op=k->t.a=k+1->t.b=k+2->t.s=Qp (k+3).toNat->Held t.ks (k+4) m->Held us m n->Held (t::us) k n
theorem qV0 {us:List M.Tm} {k m n:Int} {t:M.Tm} (h:Held us k m) (f:t.op=m) (g:t.a=m+1) (i:t.b=m+2) (j:t.s=Qp (m+3).toNat) (l:Held t.ks (m+4) n):Held (us++[t]) k n:=by
 induction h with
 |nil k=>exact .cons f g i j l (.nil _)
 |cons a b c d e _ _ o=>exact .cons a b c d e (o f g i j l)
abbrev MarkT (t:M.Tm):Prop:=∀{w:World} {K:oK} {D:Nat->Prop} {kv:Value} {css:List (List Value)} {Ds:Nat->Nat->Prop} {k:Int},kX0 w D kv t.ks css Ds->0<=k->k+4*M.szT t.ks t.ks.length<4611686018427387904->
 (∀w' us css',Same D w w'->kX0 w' D kv us css' Ds->us.length=t.ks.length->Held us k (k+4*M.szT t.ks t.ks.length)->K (nI (k+4*M.szT t.ks t.ks.length)) w')->vcall QZ #[kv,nI k] w K
theorem ka0 {us:List M.Tm} {i:Nat} {u:M.Tm} (h:i<us.length):(us.set i u).take (i+1)=us.take i++[u]:=by
 rw[M.take_add (by rw[gE];exact h) default,List.take_set_of_le (gu _),getD_set h,if_pos rfl]
theorem markTermS_spec:∀t:M.Tm,MarkT t:=by
 refine M.Tm.ind λt ih=>?_;intro w K D kv css Ds k h h0 hk hK;refine ze {loops:=[(2,[1,5])]} Tryz.func16 ?_;refine vloop_up t.ks.length (λi u w'=>u=[nI (k+4*M.szT t.ks i),nI i]/\Same D w w'/\∃us F,us.length=t.ks.length/\kX0 w' D kv us F Ds/\Held (us.take i) k (k+4*M.szT t.ks i)/\∀j,i<=j->us.getD j default=t.ks.getD j default)
  ⟨by show _=[nI (k+4*((0:Nat):Int)),_];simp,Same.refl _ _,t.ks,css,rfl,h,by rw[pG];show Held [] k (k+4*((0:Nat):Int));simpa using Held.nil k,λj _=>rfl⟩ ?_
 rintro i _ _ w1 C hi ⟨rfl,O,us,d,l,hT,hH,n⟩ hC;have U:=hT;obtain⟨own1,L,f,A,p,g⟩:=U;have o:=own1.sl;have a4:=o.small;simp only[push_cast,o.len,L,l];refine zb (λa=>?_) (λa=>?_)
 ·have q:i<t.ks.length:=oM;have a8:=M.szT_succ q;have W:=M.szT_mono (ks:=t.ks) (i:=i+1) (j:=t.ks.length) oM (gu _);have a7:=M.szT_all (t.ks.getD i default);obtain⟨m,hm⟩:∃m:Int,m=k+4*M.szT t.ks i:=⟨_,rfl⟩;have a5:0<=m:=oM;have a6:m+10+4*M.szT (t.ks.getD i default).ks (t.ks.getD i default).ks.length<4611686018427387914:=oM;have B:m+4+4*M.szT (t.ks.getD i default).ks (t.ks.getD i default).ks.length=k+4*M.szT t.ks (i+1):=oM;simp only[<-hm];simp(disch:=first|omega|simp only[push_cast]) only[push_cast,o.iaddr];have I:=g i oM;rw[n i (gu _)] at I;obtain⟨kvi,cssi,Dsi,ei,hp⟩:=UR I;refine Own.stCell own1 rfl rfl yT (i:=i) (j:=0) oM dC λw2 r Z a9=>?_;rw[ei] at r;rw[inc_wrap oM oM];refine Own.stCell r rfl rfl yT (i:=i) (j:=1) (by rw[gE];omega) dC λw3 s a0 aa=>?_;rw[getD_set oM,if_pos rfl,PH] at s;rw[inc_wrap oM oM];refine Own.stCell s rfl rfl yT (i:=i) (j:=2) (by rw[gE];omega) dC λw4 v a1 ab=>?_;rw[getD_set oM,if_pos rfl,PH] at v;rw[inc_wrap oM oM,show m+1+1=m+2 by omega,show m+2+1=m+3 by omega];refine markText_int oM oM λw5 H=>?_;have Q:=v.ext H;refine Own.stCell Q rfl rfl Y1 (i:=i) (j:=3) (by rw[gE];omega) dC λw6 c a2 ac=>?_;rw[getD_set oM,if_pos rfl,PH] at c;rw[inc_wrap oM oM,show m+3+1=m+4 by omega];rw[show m+1+1=m+2 by omega] at c;replace c:Own 0 5 zk w6 kv (d.set i [nI m,nI (m+1),nI (m+2),.string (Qp (m+3).toNat),kvi]):=c;have V:i<(d.set i [nI m,nI (m+1),nI (m+2),.string (Qp (m+3).toNat),kvi]).length:=by rw[gE];omega
  rw[Sl.ldField c.sl QO V (x:=kvi) (j:=4) (by rw[getD_set oM,if_pos rfl];rfl)];have y:Same (λb=>kv.ownBlock=some b) w1 w6:=Z.trans (a0.trans (a1.trans ((Same.of_ext H).trans a2)));have X:=Zw hp y λb z e=>(f b e).2 i oM z;have N:t.ks.getD i default∈t.ks:=M.getD_mem q _;refine ih _ N X oM oM λw7 ui R E Y a3 G=>?_;rw[B] at G⊢;rw[inc64' oM];have T:Same D w1 w7:=(y.mono λb _ e=>(f b e).1).trans (E.mono λb _ e=>p i b oM e);have S:Same (λb=>kv.ownBlock=some b\/Ds i b) w1 w7:=(y.mono λb _ e=> .inl e).trans (E.mono λb _ e=> .inr e);refine hC oM _ _ ⟨rfl,O.trans T,us.set i (.mk m (m+1) (m+2) (Qp (m+3).toNat) ui),d.set i [nI m,nI (m+1),nI (m+2),.string (Qp (m+3).toNat),kvi],by rw[gE];exact l,⟨c.same E λb z e=>(f b z).2 i oM e,by rw[gE,gE];exact L,?_,?_,?_,λj J=>?_⟩,?_,λj J=>?_⟩
  ·rw[gE];exact f
  ·rw[gE];exact A
  ·rw[gE];exact p
  ·rw[gE] at J;rw[getD_set oM,getD_set oM];by_cases e:i=j
   ·subst e;rw[if_pos rfl,if_pos rfl];exact qj0 (t:= .mk m (m+1) (m+2) (Qp (m+3).toNat) ui) Y
   ·rw[if_neg e,if_neg e];refine j4 S _ (g j J) λb z hs=>?_;rcases hs with hs|hs
    ·exact(f b hs).2 j J z
    ·rcases Nat.lt_or_gt_of_ne e with h|h
     ·exact A i j b h J hs z
     ·exact A j i b h oM z hs
  ·rw[ka0 oM];rw[<-hm] at hH;exact qV0 hH rfl rfl rfl rfl G
  ·rw[getD_set oM,if_neg oM];exact n j oM
 ·have q:i=t.ks.length:=oM;subst q;rw[<-l,gw,l] at hH;exact hK _ us d O hT l hH
theorem markTerm_spec {t:M.Tm} {cs:List Value} {k:Int} (h:TmO w D cs t) (i:0<=k) (r:k+4*M.sizeM t<4611686018427387904) (hD:∀b,D b->b<w.heap.size)
  (l:∀w' u,Same D w w'->TmO w' D cs u->Held u.ks k (k+4*(M.sizeM t-1))->K (nI (k+4*(M.sizeM t-1))) w'):vcall JR #[.agg ⟨cs⟩,nI k] w K:=by
 refine ze {} Tryz.func24 ?_;obtain⟨kv,css,Ds,rfl,o⟩:=UR h;refine zi λb1 w1 m c p j=>?_;simp only[push_cast,j.ld4];have q:=M.szT_all t;have e:(k+4*M.szT t.ks t.ks.length:Int)=k+4*(M.sizeM t-1):=oM
 refine markTermS_spec t (Zw o c λb _ h=>h) i oM λw2 us g f d n hH=>?_;rw[e] at hH⊢;exact l _ (.mk t.op t.a t.b t.s us) ((Same.of_ext c).trans f) (qj0 (t:= .mk t.op t.a t.b t.s us) d) hH
end
end Go.Proofs.YtolbhkcajhlllaaGreatDoor
namespace Go.Proofs.YtolbhkcajhlllaaGreatDoor
open Go Go.Vc Go.Proofs Go.M
section
variable {w:World} {K:oK} {F:Nat->Prop} {c:Cnf}
theorem j60 {xs ys:List Int} (c:xs.length=ys.length) (h:∀j,j<xs.length->xs.getD j 0=ys.getD j 0):xs=ys:=
 gF c λj a b=>by have:=h j a;simpa[y3,a,b] using this
theorem qZ0 {α:Type} {xs:List α} {i j:Nat} {x d:α} (hi:i<xs.length):(xs.set i x).getD j d=if i=j then x else xs.getD j d:=by
 simp only[y3,List.getElem?_set];by_cases e:i=j
 ·subst e;simp[hi]
 ·simp[e]
def ZC0 (k n:Nat):List Int:=(List.range n).map λj=>((k+j:Nat):Int)
theorem yR0 (k n:Nat):(ZC0 k n).length=n:=by simp[ZC0]
theorem yS0 {k n j:Nat} (h:j<n):(ZC0 k n).getD j 0=((k+j:Nat):Int):=by
 simp[ZC0,y3,h]
section
variable {w':World}
end
theorem markIntS_specX {v:Value} {xs:List Int} {k:Nat} (x:OwnI zh w v xs) (z:k<=4611686018427387904) (t:xs.length<=1048576)
  (n:∀w',Same (λb=>v.ownBlock=some b) w w'->w'.heap.size=w.heap.size->OwnI zh w' v (ZC0 k xs.length)->K (nI (k+xs.length:Nat)) w'):vcall JS #[v,nI k] w K:=by
 refine ze {loops:=[(2,[1,5])]} Tryz.func17 ?_;refine vloop_up xs.length (λi u w'=>u=[nI (k+i:Nat),nI i]/\Same (λb=>v.ownBlock=some b) w w'/\w'.heap.size=w.heap.size/\∃ys:List Int,ys.length=xs.length/\OwnI zh w' v ys/\∀j,j<i->ys.getD j 0=((k+j:Nat):Int)) ⟨by simp,Same.refl _ _,rfl,xs,rfl,x,oM⟩ ?_;rintro i _ _ w2 C hi ⟨rfl,d,m,ys,o,c,p⟩ r;have f:=c.ints;simp only[push_cast,f.len];refine zb (λa=>?_) (λa=>?_)
 ·simp(disch:=first|omega|simp only[push_cast]) only[push_cast,f.iaddr];refine c.st yT oM λw3 l h y=>?_;have q:IntKind.i64.wrap (((k+i:Nat):Int)+1)=((k+(i+1):Nat):Int):=by rw[zl oM oM];omega
  rw[inc64' oM];refine r oM _ _ ⟨by rw[<-q];simp,d.trans h,oM,_,by rw[gE];exact o,l,λj s=>?_⟩;rw[qZ0 oM];by_cases e:i=j
  ·subst e;rw[if_pos rfl];simp
  ·rw[if_neg e];exact p j oM
 ·have g:i=xs.length:=oM;subst g;have:ys=ZC0 k xs.length:=j60 (by rw[yR0];exact o) λj s=>by rw[yS0 oM];exact p j oM
  rw[<-this] at n;exact n w2 d m c
theorem heldIntS_specX {v:Value} {k n:Nat} (m:Ints F w v (ZC0 k n)) (o:k<=4611686018427387904) (l:n<=1048576) (h:∀w',Ext w w'->K (nI (k+n:Nat)) w'):vcall JT #[v,nI k] w K:=by
 refine ze {loops:=[(2,[1,5])]} Tryz.func18 ?_;have j:=yR0 k n;refine vloop_up n (λi u w'=>u=[nI (k+i:Nat),nI i]/\Ext w w') ⟨by simp,Same.refl _ _⟩ ?_;rintro i _ _ w2 C hi ⟨rfl,c⟩ g;have d:=m.ext c;simp only[push_cast,d.len];refine zb (λa=>?_) (λa=>?_)
 ·simp(disch:=first|omega|simp only[push_cast]) only[push_cast,d.iaddr,d.load];refine zb (λb=>absurd (by rw[yS0 oM];simp) b) (λb=>?_);have f:IntKind.i64.wrap (((k+i:Nat):Int)+1)=((k+(i+1):Nat):Int):=by rw[zl oM oM];omega
  rw[inc64' oM];exact g oM _ _ ⟨by rw[<-f];simp,c⟩
 ·have e:i=n:=oM;subst e;exact h w2 c
end
end Go.Proofs.YtolbhkcajhlllaaGreatDoor
section
namespace Go.Proofs.YtolbhkcajhlllaaGreatDoor
open Go Go.Vc Go.Proofs
open Go.ChangeShapes Go.WideShapes Go.ChangeAt Go.RowKit
section
variable {H:Type} {enc:TypeId×Value->H} {W:World} {cs:List Value} {x:DataW H×List MemPlace} {held:Bool} {fuel:Nat}
theorem terms_in (h:DataW.trod enc P W 0 (λ_=>true) held fuel xa cs=some x):∃v ks,cs=[v]/\TmsR (λ_=>True) W v ks/\∀k,k∈ks->Yb k=true:=by
 rcases DataW.trod_slice Zt h with⟨rfl,_⟩|⟨a,len,cap,elems,rest,n,_,rfl,_,_,e,hm,f,b,_,_⟩
 ·exact⟨_,[],rfl,TmsR.nil,λk c=>by cases c⟩
 ·obtain⟨css,ys,hs,j,l,d⟩:=each_in (α:=M.Tm) (R:=λcs t=>TmR (λ_=>True) W cs t/\Yb t=true) yD0 dC e hm f b λcs x g=>term_in _ g;refine⟨_,ys,rfl,⟨css,hs,oM,λi hi=>(d i oM).1⟩,λk c=>?_⟩;obtain⟨i,hi,rfl⟩:=gm c;have:=(d i oM).2;rwa[y3,V0 hi] at this
end
abbrev kidsT (ts:List M.Tm):M.Tm:= .mk 0 0 0 ⟨#[]⟩ ts
end Go.Proofs.YtolbhkcajhlllaaGreatDoor
end
namespace Go.Proofs.YtolbhkcajhlllaaGreatDoor
open Go Go.Vc Go.Proofs
section
variable {ds:List M.Dcl} {ts:List M.Tm}
theorem yh0 {n:Nat} {ds:List M.Dcl} {c:M.Cnf} (h:ds.length<=4):(M.searchM n ds c).1.length<=4:=by
 unfold M.searchM;dsimp only;split
 ·rw[M.envB_len];exact h
 ·split<;>simp
theorem xd0 {n:Nat} {ds:List M.Dcl} {ts:List M.Tm} {ns:List (List Int)} (h:ds.length<=4):(M.solveM n ds ts ns).1.length<=4:=by
 unfold M.solveM;split
 ·simp
 ·exact yh0 h
theorem qn0 (ds:List M.Dcl) (ts:List M.Tm):(qy ds ts []).1.length<=4:=by
 by_cases h:VW ds ts=true
 ·have a:=(M.decl_iff.1 (all8_iff.1 h).2.1).1;unfold qy;rw[if_pos h];exact xd0 a
 ·rw[Q8 h];decide
end
section
variable {w:World} {K:oK} {D F F' G:Nat->Prop} {dv tv uv:Value} {ds:List M.Dcl} {ts:List M.Tm} {t:M.Tm} {at_ an am ar ab:Addr}
theorem Clone_Term (d:TmsR F w tv ts) (v:ts.length<=2000000) (n:∀w' v',Ext w w'->LstH (λx=>F x/\x<w.heap.size) w' v' ts->(∀x,v'.ownBlock=some x->w.heap.size<=x)->K v' w'):
  vcall qt #[tv] w K:=by
 refine ze {} Tryz.func50 ?_;obtain⟨css,j,k,hi⟩:=d;obtain⟨a,c,rfl,A,u,g⟩:=j.shape;rw[Q5 UV];refine zo (λp=>?_) (λp=>?_)
 ·cases a with
  |some a=>cases p
  |none=>
   have m:css=[]:=Gm λh=>by
    obtain⟨b,o,r,_⟩:=g h;cases r
   subst m;have:ts=[]:=pk.1 k.symm;subst this;exact n w _ (Same.refl _ _) LstH.nil λx d=>by cases d
 ·refine yg yp yB λb w1 z he B t=>?_;have q:LstH (λ_=>False) w1 (.slice (some ⟨b,0,none⟩) 0 0) []:=⟨[],Blk.ownk (css:=[]) (by rw[qm];exact t) (by simp) rfl dC,rfl,λi hi=>absurd hi (Pl _)⟩;have f:∀x,(Value.slice (some ⟨b,0,none⟩) 0 0).ownBlock=some x->w.heap.size<=x:=λx d=>by have e:b=x:=X0 d;omega
  refine LstH.app (H2:=λx=>F x/\x<w.heap.size) (us:=ts) q (λx d=>⟨id,λe=>by have:=f x d;omega⟩) (j.ext he) k (λi h=>((hi i h).weaken λx d k=>⟨d,k⟩).ext he) (by simp;omega) λw2 v' hw l s=>?_;have y:=he.size;refine n w2 v' (Ext.then he hw f) (s.weaken λx d _=>(d.1.resolve_left id)) λx d=>?_;rcases l x d with h|h
  ·exact f x h
  ·omega
theorem push_blk {n b:Nat} {cs:List Value} {e:TypeId} (h:LstH (λx=>F x/\x<n) w tv ts) (d:∀x,tv.ownBlock=some x->n<=x) (j:Blk w b cs e) (g:TmR (λx=>G x/\x<n) w cs t) (hs:ts.length<=2000000)
  (k:∀w' r,Same (λx=>n<=x) w w'->TmsR (λ_=>True) w' r (ts++[t])->K r w'):vbi .append [zk,zk] zk [tv,.slice (some ⟨b,0,none⟩) 1 1] w K:=by
 refine LstH.app (H2:=λx=>G x/\x<n) (us:=[t]) h (λx a=>⟨λe=>by have:=d x a;omega,λe=>by have:=d x a;omega⟩) (j.sl1k (zQ g)) rfl (λi hi=>?_) (by simp;omega) λl v5 f _ c=>k l v5 (f.mono λx _ a=>d x a) (c.tms.weaken λ_ _ _=>trivial);have:i=0:=by simpa using hi
 subst this;exact g
theorem with_spec (I:TmsR F w tv ts) (hu:TermR G w uv t) (hs:ts.length<=2000000) (z:∀w' r,Ext w w'->TmsR (λ_=>True) w' r (ts++[t])->K r w'):vcall yw0 #[tv,uv] w K:=by
 refine ze {trees:=[(1,(.st 0 (.st 2 (.alt 1 (.alt 3 (.alt 4 (.st 5 .nil) .no) .no) (.alt 3 (.alt 1 (.alt 4 (.st 5 .nil) .no) .no) .no)))),[(0,[1,4,5]),(1,[4,5]),(2,[3,4,5]),(3,[4,5]),(4,[5])])]} Tryz.func36 ?_;obtain⟨cs,rfl,g⟩:=hu.cells;have l:=zQ g;refine zi λb w1 N p J m=>?_;refine zd λw2 i _=>?_;have e:=p.trans i;have ld:∀{w':World} (_:Ext w2 w') (K:oK),zt za (oP b 0) w' K=K (.agg ⟨cs⟩) w':=λh K=>(m.ext (i.trans h)).ldAgg (by rw[l];exact zc);have Q:=e.size;have j:=I.ext e;have f:∀{w':World},Ext w2 w'->TmR (λx=>G x/\x<w2.heap.size) w' cs t:=λh=>((g.weaken (F':=λx=>G x/\x<w2.heap.size) λx k O=>⟨k,oM⟩).ext e).ext h;rw[ld (Same.refl _ _)];refine⟨rfl,?_,?_,trivial⟩
 ·refine Clone_Term j hs λw3 v3 a C q=>?_;have v:=a.size;rw[ld a];refine⟨⟨rfl,rfl⟩,?_,trivial⟩;refine xt yp yB zn rfl l dC λb4 M H c L o=>?_;refine⟨?_,trivial⟩;have B:=c.size;exact push_blk (C.ext c) q o (f ((a.trans c))) hs λy r d u=>z y r (Ext.then (e.trans (a.trans c)) d λx k=>oM) u
 ·refine xt yp yB zn rfl l dC λb3 w3 E a v n=>?_;refine⟨?_,trivial⟩;have A:=a.size;refine Clone_Term (j.ext a) hs λM v4 c D s=>?_;refine⟨?_,trivial⟩;exact push_blk D s (n.ext c) ((f (a.trans c)).weaken λx k _=>⟨k.1,oM⟩) hs λy r d u=>z y r (Ext.then (e.trans (a.trans c)) d λx k=>oM) u
theorem l9With_spec (ht:TmsR F w tv ts) (hu:TermR G w uv t) (hs:ts.length<=2000000) (Z:∀w' r,Ext w w'->TmsR (λ_=>True) w' r (ts++[t])->K r w'):vcall Wc #[tv,uv] w K:=by
 refine ze {trees:=[(1,(.st 1 (.st 3 (.alt 0 (.alt 2 (.alt 4 (.alt 5 (.st 6 .nil) .no) .no) (.alt 4 (.alt 2 (.alt 5 (.st 6 .nil) .no) .no) .no)) (.alt 4 (.alt 0 (.alt 2 (.alt 5 (.st 6 .nil) .no) .no) .no) .no)))),[(0,[2,5,6]),(1,[2,5,6]),(2,[5,6]),(3,[4,5,6]),(4,[5,6]),(5,[6])])]} Tryz.func35 ?_;obtain⟨cs,rfl,A⟩:=hu.cells;have y:=zQ A;refine zi λb w1 hb L a1 I=>?_;refine zd λw2 B _=>?_;have C:=L.trans B;have ld:∀{w':World} (_:Ext w2 w') (K:oK),zt za (oP b 0) w' K=K (.agg ⟨cs⟩) w':=λh K=>(I.ext (B.trans h)).ldAgg (by rw[y];exact zc);have hz:=C.size;have O:=ht.ext C;have q:∀{w':World} {S:Nat->Prop},Same S w2 w'->(∀x,S x->w2.heap.size<=x)->TmR (λx=>G x/\x<w2.heap.size) w' cs t:=λh hS=>((A.weaken (F':=λx=>G x/\x<w2.heap.size) λx f D=>⟨f,oM⟩).ext C).same h λx f _ e=>by have:=hS x e;omega
 have fin:∀{w' w'':World} {r:Value},Ext w2 w'->Same (λx=>w2.heap.size<=x) w' w''->TmsR (λ_=>True) w'' r (ts++[t])->K r w'':=λh W s=>Z _ _ (Ext.then (C.trans h) W λx f=>oM) s;have cp:∀{w3 n:World} {b3:Nat} {K:oK},Ext w2 w3->b3=w3.heap.size->Ext w3 n->Blk n b3 [] za->(∀w' v,Ext w3 w'->Same (λx=>x=b3) n w'->LstH (λx=>F x/\x<w2.heap.size) w' v ts->(∀x,v.ownBlock=some x->w3.heap.size<=x)->K v w')->
   vbi .append [zk,zk] zk [.slice (some ⟨b3,0,none⟩) 0 0,tv] n K:=λ{w3 n b3 K} T l H Y hk=>by
  have V:LstH (λ_=>False) n (.slice (some ⟨b3,0,none⟩) 0 0) []:=⟨[],Blk.ownk (css:=[]) (by rw[qm];exact Y) (by simp) rfl dC,rfl,λi hi=>absurd hi (Pl _)⟩;have m:∀x,(Value.slice (some ⟨b3,0,none⟩) 0 0).ownBlock=some x->x=b3:=λx f=>(X0 f).symm;have z3:=T.size;have z4:=H.size;obtain⟨css,N,D,hi⟩:=(O.weaken (F':=λx=>F x/\x<w2.heap.size) λx f D=>⟨f,D⟩).ext (T.trans H);refine LstH.app (H2:=λx=>F x/\x<w2.heap.size) (us:=ts) V (λx f=>⟨id,λe=>by have:=m x f;omega⟩) N D hi (by simp;omega) λE v5 hw g y=>?_;refine hk E v5 (Ext.then H hw λx f=>by have:=m x f;omega) (hw.mono λx _ f=>m x f) (y.weaken λx f _=>f.1.resolve_left id) λx f=>?_;rcases g x f with h|h
  ·have:=m x h;omega
  ·omega
 rw[ld (Same.refl _ _)];refine⟨rfl,?_,?_,trivial⟩
 ·refine yg yp yB λb3 w3 l c Q k=>?_;rw[ld c];refine⟨⟨rfl,rfl⟩,?_,?_,trivial⟩
  ·refine cp (Same.refl _ _) l c k λn v4 a _ X M=>?_;rw[ld a];refine⟨⟨rfl,rfl⟩,?_,trivial⟩;refine xt yp yB zn rfl y dC λb5 E a0 d a2 J=>?_;refine⟨?_,trivial⟩;exact push_blk (X.ext d) M J (q (a.trans d) λ_ h=>h.elim) hs λU r j s=>fin (a.trans d) j s
  ·refine xt yp yB zn rfl y dC λb4 n z a R p=>?_;refine⟨?_,trivial⟩;have z3:=c.size;have z4:=a.size;refine cp (w3:=w2) (Same.refl _ _) l (c.trans a) (k.ext a) λE v5 d u o g=>?_;refine⟨?_,trivial⟩;exact push_blk o g (p.same u (λe=>oM)) (q d λ_ h=>h.elim) hs λU r j s=>fin d j s
 ·refine xt yp yB zn rfl y dC λb3 w3 l c Q k=>?_;refine⟨?_,trivial⟩;refine yg yp yB λb4 n z a R p=>?_;refine⟨?_,trivial⟩;have z3:=c.size;refine cp c z a p λE v5 d u o g=>?_;refine⟨?_,trivial⟩;exact push_blk o (λx f=>by have:=g x f;omega) ((k.ext a).same u (λe=>oM)) (q (c.trans d) λ_ h=>h.elim) hs λU r j s=>fin (c.trans d) j s
theorem no_term {b:Nat} {cs:List Value} {e:TypeId} (c:Blk w b cs e) (a:TmR G w cs t):TermR (λ_=>True) w (.agg ⟨[nI 25,nI 0,nI 0,.string ⟨#[]⟩,.slice (some ⟨b,0,none⟩) 1 1]⟩) (.mk 25 0 0 M.nada [t]):=
 ⟨_,rfl,[cs],(c.sl1k (zQ a)).weaken λ_ _ _=>trivial,rfl,λi hi=>by
  have:i=0:=by have:i<1:=hi;omega
  subst this;exact a.weaken λ_ _ _=>trivial⟩
def UX (ds:List M.Dcl) (ts:List M.Tm) (t:M.Tm):List Int×Int:=qy ds (ts++[.mk 25 0 0 M.nada [t]]) []
theorem SolveProve_spec (p:DclsR F w dv ds) (s:TmsR F' w tv ts) (hu:TermR G w uv t) (hs:ts.length<=1048576) (er:Er w at_ an am ar ab)
  (n:∀w' ev,Ext w w'->OwnI zh w' ev (UX ds ts t).1->(∀x,ev.ownBlock=some x->w.heap.size<=x)->K (.tuple #[ev,nI (UX ds ts t).2]) w'):vcall Qn #[dv,tv,uv] w K:=by
 refine ze {} Tryz.func22 ?_;obtain⟨cs,rfl,d⟩:=hu.cells;have m:=zQ d;refine zi λb w1 A g v e=>?_;rw[e.ldAgg (by rw[m];exact zc)];refine xt yp yB zn rfl m dC λb2 w2 o h y f=>?_;have c:=g.trans h;simp only[push_cast];refine with_spec (s.ext c) (no_term f (d.ext c)) oM λw3 r i q=>?_;have a:=c.trans i;refine xK0 (p.ext a) q (by simp;omega) (er.ext a) λz ev j l k=>?_;simp only[push_cast];exact n z ev (a.trans j) l λx u=>by have:=k x u;have:=a.size;omega
theorem spec_SolveProve_spec (v:Ji ds) (p:DclsR F w dv ds) (s:TmsR F' w tv ts) (hu:TermR G w uv t) (hs:ts.length<=1048576)
  (n:∀w' ev,Ext w w'->OwnI zh w' ev (UX ds ts t).1->(∀x,ev.ownBlock=some x->w.heap.size<=x)->K (.tuple #[ev,nI (UX ds ts t).2]) w'):vcall Qe #[dv,tv,uv] w K:=by
 refine ze {} Tryz.func20 ?_;obtain⟨cs,rfl,d⟩:=hu.cells;have m:=zQ d;refine zi λb w1 B g y e=>?_;rw[e.ldAgg (by rw[m];exact zc)];refine xt yp yB zn rfl m dC λb2 w2 o h z f=>?_;have a:=g.trans h;simp only[push_cast];refine l9With_spec (s.ext a) (no_term f (d.ext a)) oM λw3 r i q=>?_;have c:=a.trans i;refine spec_Solve_spec v (p.ext c) q λA ev j l k=>?_;simp only[push_cast];exact n A ev (c.trans j) l λx u=>by have:=k x u;have:=c.size;omega
theorem qt0 (ds:List M.Dcl) (ts:List M.Tm) (t:M.Tm):(UX ds ts t).1.length<=4:=qn0 ds _
end
section
set_option maxRecDepth 4000
variable {w:World} {K:oK} {D F F' G:Nat->Prop} {dv tv uv:Value} {ds:List M.Dcl} {ts:List M.Tm} {t:M.Tm} {at_ an am ar ab:Addr}
theorem FnExactSolveProve_spec (hd:DclsR F w dv ds) (hz:Ji ds) (ht:TmsR F' w tv ts) (hs:∀k,k∈ts->Yb k=true) (hu:TermR G w uv t) (cx:Yb t=true) (er:Er w at_ an am ar ab) (hK:∀w',Ext w w'->K (.bool true) w'):vcall kP #[dv,tv,uv] w K:=by
 have e2:=qt0 ds ts t;refine ze {ord:=[oz 11 [0,2,4,1,3,5,6,7,8,9,10,11] [(0,[2,4]),(2,[4,1]),(4,[1,3]),(8,[9]),(9,[10])],oz 22 (oR 5) [(0,[1,2])],oz 38 [0,2,4,1,3,5,6,7,8,9,10,11] [(0,[2,4]),(2,[4,1]),(4,[1,3]),(8,[9]),(9,[10])]],cuts:=[(69650,[]),(118814,[])]} Tryz.func4 ?_;obtain⟨cs,rfl,ct⟩:=hu.cells;have h5:=zQ ct;have hg:aggB yi cs.length=true:=by rw[h5];exact Za
 refine zi λb0 w0 dz x e5 co=>?_;have ld0:∀{w':World} (_:Ext w0 w') (K:oK),zt yi (oP b0 0) w' K=K (.agg ⟨cs⟩) w':=λh K=>(co.ext h).ldAgg hg;refine szDeclS_spec dC dC hz (hd.ext x) λw1 r U hr=>?_;have be:=x.trans U;simp only[push_cast];refine zb (λ_=>hK _ be) (λc=>?_);rcases hr with h|⟨r0,r1,r2⟩
 ·omega
 refine szTermS_of (λk _=>szTerm_spec k) (ht.ext be) hs r0 r1 λwa r' bj cw=>?_;have bb:=be.trans bj;simp only[push_cast];refine zb (λ_=>hK _ bb) (λc'=>?_);rcases cw with h|⟨d3,ec,ed,L⟩
 ·omega
 rw[ld0 (U.trans bj)];refine szTerm_spec t (hu.ext bb) cx d3 oM λw2 eb c8 cc=>?_;have br:=bb.trans c8;simp only[push_cast];refine zb (λ_=>hK _ br) (λdx=>?_);rcases cc with h|⟨dj,dk,o⟩
 ·omega
 have c3:=U.trans (bj.trans c8);have ai:ds.length<=1048576:=oM
 have ao:ts.length<=1048576:=oM
 refine zd λeq b1 _=>?_;have j:=c3.trans b1;have aw:=br.trans b1;rw[ld0 j];refine⟨rfl,?_⟩;refine Zv (hd.ext aw) ai λw3 dy aj cu=>?_;have b9:=aw.trans aj;rw[ld0 (j.trans aj)];refine⟨⟨rfl,rfl⟩,?_⟩;refine toTermS_of (λk _=>toTerm_spec k) (ht.ext b9) ao L λes ee a5 cy=>?_;rw[ld0 (j.trans (aj.trans a5))];refine⟨⟨rfl,rfl⟩,?_⟩;refine toTerm_spec t (hu.ext (b9.trans a5)) o λw4 ef b2 cz=>?_;have bh:=a5.trans b2;have cq:=b9.trans bh;have V:=j.trans (aj.trans bh);refine spec_SolveProve_spec hz (cu.ext bh) (cy.ext b2) cz oM λw6 cn a6 bk e1=>?_;have bu:=cq.trans a6;have e6:=a6.size;have ca:∀b,cn.ownBlock=some b->b<w6.heap.size:=λb D=>bk.lt D;simp only[push_cast,true_and];refine toDeclS_own (hd.ext bu) ai λw7 x0 a8 ap b7=>?_;have bv:=bu.trans a8;have e7:=a8.size;have af:∀b,x0.ownBlock=some b->b<w7.heap.size:=λb D=>(ap.lt D).2;refine toTermS_own (λk _=>toTerm_own k) (ht.ext bv) ao L λw8 x1 d8 dw q bc=>?_;have ba:=bv.trans q;have e8:=q.size;have W:=V.trans (a6.trans (a8.trans q));rw[ld0 W];refine toTerm_own t (hu.ext ba) o λw9 c9 c7 c0=>?_;have e9:=c7.size;have al:=ye0 _ c0;have ak:aggB za c9.length=true:=by rw[zQ al];exact zc
 refine zj zn λbx wx e0 hex e4 cp=>?_;refine stTerm cp rfl (al.ext hex) λwy d0 ea ah=>?_;have s:Ext w9 wy:=Ext.then hex d0 λy hy=>by subst hy;omega
 have di:=s.size;have i:=c7.trans s;have cr:=ba.trans i;rw[ah.ldAgg ak];refine SolveProve_spec (ap.sl.ext (q.trans i)) ((Z30 bc).ext i) ((al.ext s).term) oM (er.ext cr) λw10 ev T b3 aa=>?_;have B:=i.trans T;have bn:=ba.trans B;have de:=T.size;have a7:Ext w6 w10:=a8.trans (q.trans B);simp only[push_cast];refine zp (λu w'=>u=[]/\Ext w10 w') (λC hC=>?_) ?_
 ·refine eqIntS_same b3.ints (bk.ext a7).ints λd4 g=>?_;simp only[push_cast,Gc];exact zb (λh=>absurd rfl h) (λ_=>hC _ _ ⟨rfl,g⟩)
 rintro _ _ d4 ⟨rfl,g⟩;have au:=bn.trans g;refine Zv (hd.ext au) ai λd5 d9 p c1=>?_;have bo:=au.trans p;have bi:Ext w7 d5:=q.trans (B.trans (g.trans p));refine eqDeclS_same (ds:=ds) (ap.sl.ext bi) c1 λeh E=>?_;simp only[push_cast,Gc];have av:=bo.trans E;refine toTermS_of (λk _=>toTerm_spec k) (ht.ext av) ao L λd6 dl H cd=>?_;have bp:=av.trans H;have a9:Ext w8 d6:=B.trans (g.trans (p.trans (E.trans H)));refine eqTermS_of (λk _=>Ks k) ((Z30 bc).ext a9) cd λch a0=>?_;simp only[push_cast,Gc];have Y:Ext w10 ch:=g.trans (p.trans (E.trans (H.trans a0)));have bw:=T.trans Y;refine zd λdq a1 _=>?_;have S:=bw.trans a1;have X:=W.trans (i.trans S);simp only[ah.ext S|>.ldAgg (t:=za) ak,ld0 X,true_and];refine toTerm_spec t (hu.ext (x.trans X)) o λdr eg a2 ce=>?_;have ax:=S.trans a2;simp only[ah.ext ax|>.ldAgg (t:=za) ak,true_and,and_self];refine Ks t ((al.ext s).ext ax).term ce λbm bf=>?_;simp only[push_cast,Gc,true_and];have Z:=a0.trans (a1.trans (a2.trans bf));have dc:=bp.trans Z;have n:=a9.trans Z;have d:Ext w10 bm:=g.trans (p.trans (E.trans (H.trans Z)));have b8:=ah.ext (T.trans d);have bd:=yd0 c0 (s.trans (T.trans d));have d2:=n.size;have ck:=d.size;refine markDeclS_spec ((ap.ext q).ext n) dC (by rw[y4];omega) λei ad=>?_;rw[y4];have df:=ad.size;have bz:=Zw (Zw bc n λ_ _ h=>h) ad λb D e=>by have:=af _ e;omega
 refine markTermS_spec (kidsT ts) bz oM (by show _+4*(M.szT ts ts.length:Int)<_;omega) λci dn cm ae _ _ _=>?_;have d1:=ae.size;have v:Same (λb=>x0.ownBlock=some b\/(w7.heap.size<=b/\b<w8.heap.size)) bm ci:=(ad.mono λ_ _ h=> .inl h).trans (ae.mono λ_ _ h=> .inr h);have ag:∀b,w8.heap.size<=b->¬(x0.ownBlock=some b\/(w7.heap.size<=b/\b<w8.heap.size)):=λb D e=>by
  rcases e with e|e
  ·have:=af _ e;omega
  ·omega
 rw[(b8.same v (ag _ oM)).ldAgg ak];refine markTerm_spec (j4 v _ bd λb D=>ag b D.1) (by show(0:Int)<=_+4*(M.szT ts ts.length:Int);omega) (by show _+4*(M.szT ts ts.length:Int)+_<_;omega) (λb D=>oM) λaq u9 b6 _ _=>?_;have dg:=b6.size;have A:Same (λb=>x0.ownBlock=some b\/(w7.heap.size<=b/\b<w9.heap.size)) bm aq:=(v.mono λ_ _ h=>h.imp id λh=>⟨h.1,oM⟩).trans (b6.mono λ_ _ h=> .inr ⟨oM,h.2⟩);have O:Ext w0 aq:=Ext.then ((V.trans a6).trans (a8.trans (q.trans n))) A λy hy=>by
  have:=(V.trans a6).size;rcases hy with hy|hy
  ·have:=b7 y hy;omega
  ·omega
 have bq:=x.trans O;have e3:=(M.size_pos (t:=t)).1;have ac:=bk.same ((Same.of_ext (a7.trans d)).trans A) λb D e=>by
  have:=ca b D;rcases e with e|e
  ·have:=b7 _ e;omega
  ·omega
 have N:=b3.same ((Same.of_ext d).trans A) λb D e=>by
  have:=aa b D;rcases e with e|e
  ·have:=af _ e;omega
  ·omega
 have cl:w10.heap.size<=aq.heap.size:=by have:=A.size;omega
 refine zp (λu w'=>u=[]/\Ext aq w') (λC hC=>?_) ?_
 ·simp only[push_cast];refine zb (λa=>oM) (λ_=>?_);refine eqIntS_same N.ints ac.ints λej c4=>?_;simp only[push_cast,Gc];exact zb (λh=>absurd rfl h) (λ_=>hC _ _ ⟨rfl,c4⟩)
 rintro _ _ ek ⟨rfl,I⟩;have dd:=bq.trans I;refine markIntS_specX (k:=1) (N.ext I) oM oM λcj b5 dh b4=>?_;have Q:Ext w0 cj:=Ext.then (O.trans I) b5 λy hy=>by have:=aa y hy;have:=(W.trans i).size;omega
 have bs:=x.trans Q;have bl:=(ac.ext I).same b5 λb D e=>by have:=ca b D;have:=aa b e;omega
 refine heldIntS_specX (k:=1) b4.ints oM oM λel ay=>?_;simp only[push_cast];refine zb (λa=>absurd a oM) (λ_=>?_);refine zb (λa=>absurd rfl a) (λ_=>?_);have f:=Q.trans ay;refine zd λdt m _=>?_;rw[ld0 (f.trans m)];refine⟨rfl,?_⟩;have cv:=m;refine Zv (hd.ext (x.trans (f.trans m))) ai λem da bg c2=>?_;have J:=m.trans bg;rw[ld0 (f.trans J)];refine⟨⟨rfl,rfl⟩,?_⟩;have R:=x.trans (f.trans J);refine toTermS_of (λk _=>toTerm_spec k) (ht.ext R) ao L λdu dm z cf=>?_;rw[ld0 (f.trans (J.trans z))];refine⟨⟨rfl,rfl⟩,?_⟩;refine toTerm_spec t (hu.ext (R.trans z)) o λen dp a4 cg=>?_;have a3:=z.trans a4;have bt:=R.trans a3;refine SolveProve_spec (c2.ext a3) (cf.ext a4) cg oM (er.ext bt) λd7 db c5 cb _=>?_;have l:Ext cj d7:=ay.trans (J.trans (a3.trans c5));simp only[push_cast,true_and];refine eqIntS_same cb.ints (bl.ext l).ints λeo az=>?_;simp only[push_cast,Gc];refine zb (λh=>absurd rfl h) (λ_=>?_);refine heldIntS_specX (k:=1) (b4.ext (l.trans az)).ints oM oM λep c6=>?_;simp only[push_cast];refine zb (λa=>absurd a oM) (λ_=>?_);refine zb (λa=>absurd rfl a) (λ_=>?_);exact hK _ (bs.trans (l.trans (az.trans c6)))
end
end Go.Proofs.YtolbhkcajhlllaaGreatDoor
section
namespace Go.Proofs.YtolbhkcajhlllaaGreatDoor
open Go Go.Vc Go.Proofs
open Go.RowKit
theorem laid_at {l:List (String×DataW Unit)} {W:World} (h:laidMet P l W):∀k,laidMet P (l.drop k) W
 |0=>h
 |k+1=>by
  have a:=laid_at h k;rw[<-List.tail_drop];cases b:l.drop k with
  |nil=>rw[b] at a;exact a
  |cons x r=>rw[b] at a;exact a.tail
theorem UU: "*" ++ "errors.errorString" = "*errors.errorString" :=dC
theorem kd0 (u:TypeId) (h:P.typeName? 3 u=some "*errors.errorString"):u=yV:=
 typeName_ptr_named (nm:= "errors.errorString") (by rw[UU];kernel_rfl) rK dC u (by rw[UU];exact h)
def ifaceB (t:TypeId):Bool:=match P.underlying t with
 |some (.interface _)=>true
 |_=>false
theorem ky0 {t:TypeId} (h:ifaceB t=true):∃ms,P.underlying t=some (.interface ms):=by
 unfold ifaceB at h;split at h
 ·exact⟨_,by assumption⟩
 ·cases h
theorem xe0:∃ms,P.underlying xx=some (.interface ms):=ky0 rK
def fieldB (t u:TypeId):Bool:=match P.underlying t with
 |some (.struct fs)=>match fs.toList with
  |[f]=>decide (f.type=u)&&decide (f.offset=0)
  |_=>false
 |_=>false
theorem kD0 {t u:TypeId} (h:fieldB t u=true):∃f,P.underlying t=some (.struct #[f])/\f.type=u/\f.offset=0:=by
 unfold fieldB at h;split at h
 ·rename_i fs a;split at h
  ·rename_i f b;simp only[gg,decide_eq_true_eq] at h;refine⟨f,?_,h⟩;rw[a];congr 2;exact GA.1 (by simpa using b)
  ·cases h
 ·cases h
theorem ke0:P.underlying yV=some (.pointer 420):=rK
theorem yf0:∃f,P.underlying 420=some (.struct #[f])/\f.type=yy/\f.offset=0:=kD0 rK
theorem yg0:P.underlying yy=some .string:=rK
theorem Y30:P.cellsOf 420=1/\P.cellsOf yy=1:=⟨rK,rK⟩
theorem vars_len {H:Type} {enc:TypeId×Value->H} {w:World} {sp:Nat->Bool}:∀{ns:List String} {gs:List (DataW H)} {ps:List MemPlace},DataW.TrodVars enc P w sp ns gs ps->gs.length=ns.length
 |[],[],_,_=>rfl
 |[],_::_,_,h=>h.elim
 |_::_,[],_,h=>h.elim
 |_::_,_::_,_,⟨_,_,_,_,_,_,_,_,_,_,hs,_⟩=>by rw[gz,gz,vars_len hs]
theorem vlist5 {α:Type} {l:List α} (h:l.length=5):∃a b c d e,l=[a,b,c,d,e]:=by
 match l,h with
 |[a,b,c,d,e],_=>exact⟨a,b,c,d,e,rfl⟩
end Go.Proofs.YtolbhkcajhlllaaGreatDoor
end
section
namespace Go.Proofs.YtolbhkcajhlllaaGreatDoor
open Go Go.Vc Go.Proofs
open Go.RowKit
theorem XG {x y:String×DataW Unit} {r:List (String×DataW Unit)} {w:World} (h:laidMet P (x::y::r) w):laidMet P (x::r) w:=by
 obtain⟨ps,u,j,c⟩:=h;obtain⟨n,d⟩:=x;obtain⟨m,e⟩:=y;obtain⟨g,t,cs,fuel,p,q,o,a2,a3,a4,s,rfl⟩:=u;obtain⟨g2,t2,f,i,p2,l,_,_,_,_,k,rfl⟩:=s;have a:=pd (pB (MemPlace.row ⟨g,0,none⟩ cs.size++p)) (List.sublist_append_right (MemPlace.row ⟨g2,0,none⟩ f.size++p2) l);exact⟨_,⟨g,t,cs,fuel,p,l,o,a2,a3,a4,k,rfl⟩,List.Nodup.sublist a j,λb off hm=>c b off (a.subset hm)⟩
theorem jE {W:World} {g:Nat} {a c:Addr} (h:Sent W g a) (b:Sent W g c):a=c:=by
 unfold Sent at h b;rw[h] at b
 injection b with b
 injection b with _ b
 injection b with b
 exact X0 b
theorem kZ {j k:String} {t0 t1:List UInt8} {r:List (String×DataW Unit)} {W:World} {g0 g1:Nat} (h:laidMet P ((j,.iface "*errors.errorString" (.ptr (.agg [.lit (.string t0)])))::(k,.iface "*errors.errorString" (.ptr (.agg [.lit (.string t1)])))::r) W)
  (c:P.globalNamed j=some g0) (g:(P.globals[g0]?).map (·.type)=some xx) (d:P.globalNamed k=some g1) (i:(P.globals[g1]?).map (·.type)=some xx):∃a b,Sent W g0 a/\Sent W g1 b/\a≠b/\RowA W a/\RowA W b:=by
 obtain⟨ms,hi⟩:=xe0;obtain⟨f,m,n,o⟩:=yf0;obtain⟨a0,l,u,s1,c0,c1,s,t,v0,v1,_,_,_,_,_,_,e,p,q⟩:=laid_sentinels2 h c g d i hi kd0 ke0 m n o yg0 Y30.1 Y30.2;exact⟨a0,l,by unfold Sent;simpa using World.var?_cell c v0 0,by unfold Sent;simpa using World.var?_cell d v1 0,e,⟨c0,s,p⟩,⟨c1,t,q⟩⟩
theorem er_of {nr nb nt nn nm:String} {tr tb tt tn tm:List UInt8} {r l:List (String×DataW Unit)} {W:World} (h:laidMet P l W) (k:Nat)
  (B:l.drop k=(nr,.iface "*errors.errorString" (.ptr (.agg [.lit (.string tr)])))::(nb,.iface "*errors.errorString" (.ptr (.agg [.lit (.string tb)])))::(nt,.iface "*errors.errorString" (.ptr (.agg [.lit (.string tt)])))::(nn,.iface "*errors.errorString" (.ptr (.agg [.lit (.string tn)])))::(nm,.iface "*errors.errorString" (.ptr (.agg [.lit (.string tm)])))::r)
  (er:P.globalNamed nr=some xR) (eb:P.globalNamed nb=some j8) (et:P.globalNamed nt=some yO) (en:P.globalNamed nn=some jj) (em:P.globalNamed nm=some qr)
  (fr:(P.globals[xR]?).map (·.type)=some xx) (fb:(P.globals[j8]?).map (·.type)=some xx) (ft:(P.globals[yO]?).map (·.type)=some xx) (fn:(P.globals[jj]?).map (·.type)=some xx) (fm:(P.globals[qr]?).map (·.type)=some xx):
  ∃at_ an am ar ab,Er W at_ an am ar ab:=by
 have a:=laid_at h k;rw[B] at a;obtain⟨ar,ab,sr,sb,_,rr,_⟩:=kZ a er fr eb fb;have b:=XG a;obtain⟨w,at_,j,st,C,_,rt⟩:=kZ b er fr et ft;have q:=XG b;obtain⟨x,an,m,sn,D,_,rn⟩:=kZ q er fr en fn;obtain⟨y,am,n,sm,E,_,rm⟩:=kZ (XG q) er fr em fm;have c:=b.tail;obtain⟨z,u,o,g,F,_⟩:=kZ c et ft en fn;obtain⟨A,s,p,d,G,_⟩:=kZ (XG c) et ft em fm;obtain⟨v,t,i,f,n6,_⟩:=kZ c.tail en fn em fm;obtain rfl:=jE j sr;obtain rfl:=jE m sr;obtain rfl:=jE n sr;obtain rfl:=jE o st;obtain rfl:=jE p st;obtain rfl:=jE g sn;obtain rfl:=jE i sn;obtain rfl:=jE d sm;obtain rfl:=jE f sm;exact⟨_,_,_,_,ab,st,sn,sm,⟨sr,sb,id,id⟩,rt,rn,rm,rr,λe=>F e.symm,λe=>G e.symm,λe=>n6 e.symm,C,D,E⟩
end Go.Proofs.YtolbhkcajhlllaaGreatDoor
end
end
