import Derived.Test.YtaekfnbnhjgboaaGreatDoorWueP8
import Derived.Test.YtaekfnbnhjgboaaGreatDoorWueP2
import Derived.WalkKit
import Derived.ProofKit
import Derived.OpenShut
import Derived.ShutString
import Derived.ChangeOld
import Derived.Below
import Derived.JoinedOf
import Derived.Test.YtaekfnbnhjgboaaGreatDoorWueP7
import Derived.Deep.Slices
/- A part of the proof. -/
set_option linter.unusedVariables false
set_option linter.unusedSimpArgs false
set_option linter.unnecessarySimpa false
set_option linter.unusedSectionVars false
section
namespace Go.Proofs.YtaekfnbnhjgboaaGreatDoor
open Go Go.Vc Go.Proofs
variable {w:World} {K:Value→World→Prop} {F F' Fx Fy X Q:Nat→Prop} {n bc mb bb:Nat} {gs:M.Gs} {v:Value} {ar ab:Addr} {st:Option M.Gs}
theorem kE0 {s:Int} {xs:List Int} {j:Nat} (h:xs.length≤j):M.rowB s (xs.drop j)= .ret []:=by rw[List.drop_eq_nil_of_le h];rfl
theorem ZR0 {s:Int} {xs:List Int} {j:Nat} (h:j<xs.length):M.rowB s (xs.drop j)= .and (xs.getD j 0) s fun v=>(M.rowB s (xs.drop (j+1))).map (v:: ·):=by rw[xE h];rfl
theorem kJ0 {xs ys s:List Int} {i j:Nat} (h:ys.length≤j):M.mulB xs (ys.drop j) i s= .ret s:=by rw[List.drop_eq_nil_of_le h];rfl
def P2 (l t:Nat) (F:Nat→Prop) (b:Nat):Prop:=F b∨b=l∨b=t
theorem Mv.p2 {w':World} {l t:Nat} (h:Mv F w F' w'):Mv (P2 l t F) w (P2 l t F') w':=
 ⟨h.same.mono fun _ _ h=> .inl h,fun b a=>a.elim (fun a=>(h.new b a).imp .inl id) fun a=> .inl (.inr a)⟩
theorem Mv.sub {w' w'':World} {S:Nat→Prop} (h:Mv F w F' w') (hs:Same S w' w'') (a:∀b,S b→F' b):Mv F w F' w'':=h.to hs fun b c=> .inl (a b c)
theorem Ints.notD {xs:List Int} {D:Nat} {ds:Option (List Deferred)} (h:Ints F w v xs) (q:w.heap[D]?=some (.deferred ds)):Ints (fun b=>F b∧b≠D) w v xs:=by
 obtain⟨⟨a,c,r,p,hm,n⟩,k⟩:=h
 refine⟨⟨a,c,r,p,hm,fun g=>?_⟩,k⟩
 obtain⟨b,o,m,l,i,d⟩:=n g
 refine⟨b,o,m,⟨l,fun e=>?_⟩,i,d⟩
 subst e
 have j:=List.length_pos_iff.2 g
 have hw:=k _ (M.getD_mem j [])
 have f:=d 0 j 0 _ (List.getElem?_eq_getElem (by omega))
 rw[xm] at f
 simp[World.cell?,q] at f
theorem mul_spec {xv yv:Value} {xs ys:List Int} (h:BdR n bb ar ab X F w st) (hx:Ints (Off X F) w xv xs) (hy:Ints (Off X F) w yv ys) (hl:xs.length=ys.length) (h8:xs.length≤900) (cw:SmL xs) (cx:SmL ys)
  (hK:∀w' F' st' r zs,BdR n bb ar ab X F' w' st'→Mv F w F' w'→Ints (Off X F') w' r zs→SmL zs→M.Bd.Out n (M.mulB xs ys 0 (M.offsL xs.length)) st st' zs→K r w'):
  vcall PP ko #[.pointer (some ⟨bb,0,none⟩),xv,yv] w K:=by
 apply Wn;unfold kH
 have cm:=h.lt
 refine qq fun b3 w1 de aw dr aq=>?_
 replace aq:Blk w1 b3 [.pointer (some ⟨bb,0,none⟩)] zS:=aq
 have cu:Ints (Off X F) w1 xv xs:=hx.ext aw
 simp(disch:=first|(simp only[push_cast];done)|omega) only[push_cast,cu.len]
 refine offs_spec (by omega) fun w2 ba ax a9 co=>?_
 refine Xm jZ fun d w3 df a4 ds au=>?_
 replace au:Blk w3 d [.slice none 0 0] zc:=au
 refine Blk.st (i:=0) au (Sl.cells1 (a9.ext a4).ints) (Sl.one (a9.ext a4).ints) Z2 rfl fun w4 bu cy a1=>?_
 replace a1:Blk w4 d [ba] zc:=a1
 have z2:=ax.size
 have e2:=aw.trans ax
 have an:Ext w1 w4:=Ext.then (ax.trans a4) bu fun b a=>by omega
 have e4:=aw.trans an
 have ag:=aq.ext an
 have bv:=(a9.ext a4).same bu fun b a hx=>by have:=a9.lt a;omega
 simp(disch:=first|(simp only[push_cast];done)|omega) only[push_cast,ag.ld0]
 apply VH
 refine qq fun bq w5 dg bh dt av=>?_
 replace av:Blk w5 bq [.pointer (some ⟨bb,0,none⟩)] zS:=av
 refine qq fun bx w6 dh bi du ci=>?_
 refine qq fun by_ w7 di ay dv cj=>?_
 have be:Blk w6 bx [xv] zc:=by have:=ci;rwa[Sl.cells1 hx] at this
 have bf:Blk w7 by_ [yv] zc:=by have:=cj;rwa[Sl.cells1 hy] at this
 simp only[push_cast]
 refine⟨qh,⟨[.pointer (some ⟨by_,0,none⟩),.pointer (some ⟨bx,0,none⟩),.pointer (some ⟨bq,0,none⟩)]⟩,rfl,fun l D N RR hD dk az dn cl b9 cr af=>?_⟩
 have bd:=bi.trans (ay.trans az)
 have a0:=bh.trans bd
 have e8:=e4.trans a0
 have z4:=e4.size
 have e1:=a0.size
 have dx:=an.size
 have pq:=av.ext bd
 have px:=be.ext (ay.trans az)
 have py:=bf.ext az
 have p3:=ag.ext a0
 have p7:=a1.ext a0
 have ch:=h.ext e8
 have ae:∀b,w.heap.size≤b→¬F b:=fun b a hf=>by have:=cm b (.inl hf);omega
 have sz:w1.heap.size=b3+1∧w3.heap.size=d+1∧w5.heap.size=bq+1∧w6.heap.size=bx+1∧w7.heap.size=by_+1∧D=w7.heap.size∧l=D+1:=⟨by omega,by omega,by omega,by omega,by omega,hD,by omega⟩
 have dz:w4.heap.size=w3.heap.size:=cy
 have dy:=a4.size
 have e0:=bh.size;have e3:=bi.size;have e5:=ay.size
 have cv:Ints (Off X (P2 l d F)) N xv xs:=by
  have v:Ints (fun b=>(¬F b∧¬X b)∧b<w.heap.size) w xv xs:=Ints.weaken hx fun _ v T=>⟨v,T⟩
  exact Ints.weaken (v.ext e8) fun b a _=>⟨fun o=>o.elim a.1.1 fun o=>by have:=a.2;omega,a.1.2⟩
 have c1:Ints (Off X (P2 l d F)) N yv ys:=by
  have v:Ints (fun b=>(¬F b∧¬X b)∧b<w.heap.size) w yv ys:=Ints.weaken hy fun _ v T=>⟨v,T⟩
  exact Ints.weaken (v.ext e8) fun b a _=>⟨fun o=>o.elim a.1.1 fun o=>by have:=a.2;omega,a.1.2⟩
 have ct:Ints (Off X (P2 l d F)) N ba (M.offsL xs.length):=Ints.weaken (bv.ext a0).ints fun b a _=>by
  have v:=a9.lt a
  have T:=co b a
  refine⟨fun o=>?_,fun hx=>by have:=h.lt b (.inr hx);omega⟩
  rcases o with o|o|o
  ·exact ae b (by omega) o
  ·omega
  ·omega
 have off:∀(m:Nat→Prop),(∀b,m b→F b∨N.heap.size≤b)→∀b,w.heap.size≤b→b<N.heap.size→¬m b:=fun m hN b v T hf=>(hN b hf).elim (ae b v) fun h=>by omega
 show vcall PP qh #[.func (.yield l) #[] #[],.pointer (some ⟨by_,0,none⟩),.pointer (some ⟨bx,0,none⟩),.pointer (some ⟨bq,0,none⟩)] N _
 apply Ju
 simp(disch:=first|(simp only[push_cast];done)|omega) only[push_cast,py.ld0,c1.len]
 refine vloop_up ys.length (fun i u w'=> ∃m J sv s,u=[.int .i64 i]∧RR .ready none w'∧BdR n bb ar ab X m w' J∧Mv (P2 l d F) N (P2 l d m) w'∧(∀b,m b→F b∨N.heap.size≤b)∧Blk w' d [sv] zc∧Ints (Off X (P2 l d m)) w' sv s∧s.length=xs.length∧SmL s∧
  ∀st2 res,M.Bd.Out n (M.mulB xs (ys.drop i) i s) J st2 res→M.Bd.Out n (M.mulB xs ys 0 (M.offsL xs.length)) st st2 res)
  ⟨F,st,ba,_,rfl,cr,ch,Mv.refl,fun b a=> .inl a,p7,ct,M.offsL_len _,SmL.offs _,fun _ _ h=>h⟩ ?_
 rintro i _ g w9 C hi ⟨m,J,sv,s,rfl,br,h9,V,U,c8,bw,dp,bz,aj⟩ hC
 simp only[push_cast]
 have z9:=V.same.size
 have keep:∀{b:Nat} {cs:List Value} {t:TypeId},Blk N b cs t→w.heap.size≤b→b≠l→b≠d→Blk w9 b cs t:=fun a v T h3=>a.same V.same fun o=>o.elim (ae _ v) fun o=>o.elim T h3
 have q9:=keep pq (by omega) (by omega) (by omega)
 have x9:=keep px (by omega) (by omega) (by omega)
 have k9:=keep p3 (by omega) (by omega) (by omega)
 have d9:w9.heap[D]?=some (.deferred (some [])):=(V.same.block D (by omega) fun o=>o.elim (ae _ (by omega)) fun o=>by omega).trans cl
 refine zh (fun dl=>?_) (fun d6=>?_)
 ·have b0:i<ys.length:=by omega
  have c0:=Ints.mv c1 V
  simp(disch:=first|(simp only[push_cast];done)|omega) only[push_cast,c0.iaddr,c0.load]
  refine offs_spec (by omega) fun w10 cc ah bo bn=>?_
  have cf:=h9.ext ah
  have bs:NewI X w9 m w10 cc (M.offsL i):=NewI.of bo bn h9.lt
  have dq:(xs.take (xs.length-i)).length=xs.length-i:=by rw[List.length_take];omega
  refine vloop_up (xs.length-i) (fun j u w'=> ∃L st2 rv zs,u=[rv,.int .i64 ((i+j:Nat):Int)]∧BdR n bb ar ab X L w' st2∧Mv m w9 L w'∧NewI X w9 L w' rv (M.offsL i++zs)∧SmL zs∧zs.length=j∧
   ∀W rs,M.Bd.Out n (M.rowB (ys.getD i 0) ((xs.take (xs.length-i)).drop j)) st2 W rs→M.Bd.Out n (M.rowB (ys.getD i 0) (xs.take (xs.length-i))) J W (zs++rs))
   ⟨m,J,cc,[],rfl,cf,Mv.refl.ext ah,by rw[List.append_nil];exact bs,SmL.nil,rfl,fun _ _ h=>h⟩ ?_
  rintro j _ g2 x C2 hj ⟨L,st2,rv,zs,rfl,ac,f,G,aa,c3,a6⟩ ck
  have a5:Mv (P2 l d F) N (P2 l d L) x:=V.trans f.p2
  have P:∀b,L b→F b∨N.heap.size≤b:=fun b a=>(f.new b a).elim (U b) fun h=> .inr (by omega)
  have B:∀{b:Nat} {cs:List Value} {t:TypeId},Blk w9 b cs t→w.heap.size≤b→b<N.heap.size→Blk x b cs t:=fun a v T=>a.same f.same (off m U _ v T)
  have d1:=B q9 (by omega) (by omega)
  have ce:=B x9 (by omega) (by omega)
  have cz:=B k9 (by omega) (by omega)
  have c5:=B c8 (by omega) (by omega)
  have d11:x.heap[D]?=some (.deferred (some [])):=(f.same.block D (by omega) (off m U D (by omega) (by omega))).trans d9
  have c9:RR .ready none x:=b9 _ _ _ _ br (f.same.block l (by omega) (off m U l (by omega) (by omega)))
  have dw:=f.same.size
  have ak:=Ints.mv cv a5
  simp(disch:=first|(simp only[push_cast];done)|omega) only[push_cast,ce.ld0,ak.len]
  refine zh (fun d8=>?_) (fun d7=>?_)
  ·have bj:j<xs.length-i:=by omega
   refine zx fun O y _=>?_
   have al:Ints (Off X (P2 l d L)) O xv xs:=Ints.ext ak y
   have d2:=d1.ext y
   have d4:=ce.ext y
   have ei:((i:Int)+j)-i=(j:Int):=by omega
   simp(disch:=first|(simp only[push_cast];done)|omega) only[push_cast,d2.ld0,d4.ld0,zy,ei,al.iaddr,al.load,true_and]
   refine kB (ac.ext y) (cw.get (by omega)) (cx.get b0) fun bc c A cd ao k bt Q=>?_
   refine yg yU yo yB rfl rfl fun dd Y d5 a3 c2 E=>?_
   have ai:Mv m w9 c Y:=((f.ext y).trans k).ext a3
   have ad:=ao.ext a3
   have R:NewI X w9 c Y rv (M.offsL i++zs):=((G.mv (Mv.refl.ext y)).mv k).mv (Mv.refl.ext a3)
   have dm:(M.offsL i++zs).length=i+j:=by rw[List.length_append,M.offsL_len,c3]
   refine R.app1 E ai.same.size ad.lt (by omega) fun d3 Z a7 q=>?_
   have ap:BdR n bb ar ab X c Z A:=ad.upd h.err q fun b a=>⟨by have:=(R.off b a).1;omega,(R.off b a).2⟩
   have bm:Mv m w9 c Z:=ai.to q fun b a=> .inr (R.off b a).1
   try simp(disch:=omega) only[push_cast,zy]
   refine ck bj _ _ ⟨c,A,d3,zs++[cd],by simp<;>omega,ap,bm,by rw[←List.append_assoc];exact a7,aa.app (SmL.one bt),by simp[c3],fun W rs ho=>?_⟩
   have:=a6 W (cd::rs) ?_
   ·simpa using this
   rw[ZR0 (by omega),VY bj]
   exact qr Q (M.Bd.Out.map _ ho)
  ·have dj:j=xs.length-i:=by omega
   have a8:=a6 st2 [] (by rw[kE0 (by omega)];exact M.Bd.Out.ret _ _)
   rw[List.append_nil] at a8
   refine af [rv] x _ rfl c9 ⟨c9,fun O p db bg=>?_⟩
   have bk:∀b,(b=l)→w.heap.size≤b∧¬L b:=fun b a=>⟨by omega,off L P b (by omega) (by omega)⟩
   have cg:BdR n bb ar ab X L O st2:=ac.upd h.err p bk
   have d0:=cz.same p (show¬b3=l by omega)
   have am:=c5.same p (show¬d=l by omega)
   have I:=Ints.mv bw f.p2
   have b6:Ints (Off X (P2 l d L)) O sv s:=Ints.same I p fun b a _ e=>a.1 (.inr (.inl e))
   have bp:NewI X w9 L O rv (M.offsL i++zs):=⟨G.own.same p fun b a e=>by have:=(G.off b a).1;omega,G.off,G.out⟩
   simp(disch:=first|(simp only[push_cast];done)|omega) only[push_cast,d0.ld0,am.ld0]
   have b8:Ints (Off X L) O sv s:=Ints.weaken b6 fun b a _=>⟨fun hf=>a.1 (.inl hf),a.2⟩
   refine bsum_spec cg b8 bp.ints (by rw[List.length_append,M.offsL_len];omega) (by omega) bz ((SmL.offs i).app aa) (by decide) fun bc c A nv ns ao k z cq Q=>?_
   have a2:∀b,c b→F b∨N.heap.size≤b:=fun b a=>(k.new b a).elim (P b) fun h=> .inr (by omega)
   have c6:=am.same k.same (off L P d (by omega) (by omega))
   refine Blk.st (i:=0) c6 (Sl.cells1 z.own.ints) (Sl.one z.own.ints) Z2 rfl fun Y S c2 E=>?_
   replace E:Blk Y d [nv] zc:=E
   have ca:RR .busy none bc:=b9 _ _ _ _ bg (k.same.block l (by omega) (off L P l (by omega) (by omega)))
   have cb:RR .busy none Y:=b9 _ _ _ _ ca (S.block l (by have:=k.same.size;omega) (by omega))
   refine⟨cb,fun Z q dc a7=>?_⟩
   have ad:BdR n bb ar ab X c Y A:=ao.upd h.err S fun b a=>⟨by omega,off c a2 b (by omega) (by omega)⟩
   have ap:BdR n bb ar ab X c Z A:=ad.upd h.err q fun b a=>⟨by omega,off c a2 b (by omega) (by omega)⟩
   have z12:=p.size
   have b1:Mv (P2 l d F) N (P2 l d L) O:=a5.sub p fun b a=> .inr (.inl a)
   have b2:Mv (P2 l d F) N (P2 l d c) Z:=(((b1.trans k.p2).sub S fun b a=> .inr (.inr a))).sub q fun b a=> .inr (.inl a)
   have c7:=E.same q (show¬d=l by omega)
   have b4:Ints (Off X (P2 l d c)) Z nv ns:=by
    have v:Ints (Off X (P2 l d c)) bc nv ns:=Ints.weaken z.own.ints fun b a _=>⟨fun o=>by
     have:=(z.off b a).1
     rcases o with o|o|o
     ·exact(z.off b a).2 o
     ·omega
     ·omega,z.out b a⟩
    exact Ints.same (Ints.same v S fun b a _ e=>a.1 (.inr (.inr e))) q fun b a _ e=>a.1 (.inr (.inl e))
   have cp:ns.length=xs.length:=by
    have:=M.sum_len Q.reach
    rw[List.length_append,M.offsL_len] at this
    omega
   simp(disch:=omega) only[push_cast,Bool.not_true,zy]
   refine hC b0 _ _ ⟨c,A,nv,ns,by simp,a7,ap,b2,a2,c7,b4,cp,cq,fun W res ho=>aj W res ?_⟩
   rw[xE b0]
   exact M.Bd.Out.bind a8 (M.Bd.Out.bind Q ho)
 ·refine⟨.ready,none,by decide,br,fun w10 H da=>?_⟩
  show zf PP zc _ w10 _
  have c4:=c8.same H (show¬d=l by omega)
  have d10:w10.heap[D]?=some (.deferred (some [])):=(H.block D (by omega) (by omega)).trans d9
  simp(disch:=first|(simp only[push_cast];done)|omega) only[push_cast,c4.ld0]
  refine⟨d10,fun x I aa=>?_⟩
  have bl:∀b,w.heap.size≤b→b<N.heap.size→w.heap.size≤b∧¬m b:=fun b v T=>⟨v,off m U b v T⟩
  have ac:BdR n bb ar ab X m x J:=(h9.upd h.err H fun b a=>bl b (by omega) (by omega)).upd h.err I fun b a=>bl b (by omega) (by omega)
  have cn:Mv F w m x:=by
   refine⟨Same.thn (Same.thn (Same.thn (Same.of_ext e8) V.same fun b a=>a.elim .inl fun a=> .inr (by omega)) H fun b a=> .inr (by omega)) I fun b a=> .inr (by omega),fun b a=>(U b a).imp id fun h=>?_⟩
   have:=e8.size;omega
  have b5:Ints (Off X m) x sv s:=by
   have v:Ints (Off X (P2 l d m)) w10 sv s:=Ints.same bw H fun b a _ e=>a.1 (.inr (.inl e))
   have T:=Ints.notD v d10
   exact Ints.weaken (Ints.same T I fun b a _ e=>a.2 e) fun b a _=>⟨fun hf=>a.1.1 (.inl hf),a.1.2⟩
  exact hK x m J sv s ac cn b5 bz (aj J s (by rw[kJ0 (by omega)];exact M.Bd.Out.ret _ _))
end Go.Proofs.YtaekfnbnhjgboaaGreatDoor
end
section
namespace Go.Proofs.YtaekfnbnhjgboaaGreatDoor
open Go Go.Vc Go.Proofs
variable {w:World} {K:Value→World→Prop} {F F' Fx Fy X Q:Nat→Prop} {n bc mb bb:Nat} {gs:M.Gs} {v:Value} {ar ab:Addr} {st:Option M.Gs}
theorem ZI0 {t ty:TypeId} {a:Option Addr} {l c:Nat} (b:isSl PP t=true):vbi PP .cap [t] ty [.slice a l c] w K=K (.int .i64 c) w:=by
 obtain⟨e,he⟩:=qb0 b
 exact yC (by simp[biSem,Builtin.cap_,qf he,goInt])
theorem Grow_nil {m:Nat} (hm:m≤1000) (d:∀w' r,Ext w w'→OwnI PP zc w' r []→(∀b,r.ownBlock=some b→w.heap.size≤b)→K r w'):vcall PP yQ #[.slice none 0 0,.int .i64 m] w K:=by
 apply jj
 refine zV (fun u w'=>w'=w) ?_ ?_
 ·intro J f
  simp only[push_cast]
  refine zh (fun h=>?_) (fun h=>f _ _ rfl)
  omega
 rintro _ _ w' hw
 rw[hw,ZI0 xC,xS0 xC]
 simp(disch:=omega) only[push_cast,zy,Int.sub_zero]
 refine zh (fun h=>?_) (fun h=>?_)
 ·rw[ZI0 xC]
  have c0:∀K:Value→World→Prop,yy PP zc (.slice none 0 0) none (some (.int .i64 (0:Nat))) none w K=K (.slice none 0 0) w:=fun K=>OwnV.cut (P:=PP) (t:=zc) (w:=w) OwnV.nil xg (n:=0) (by simp)
  rw[c0]
  refine vappend_make (bs:=8) yV xl yB rfl y20 (by omega) (by omega) (by omega) fun v' i e he g=>?_
  rw[xS0 xC,OwnV.cut e xg (n:=0) (by omega)]
  have c:=OwnV.taken e (n:=0) (by omega)
  exact d i _ he (by rw[List.take_zero] at c;exact c) fun b a=>g b (by rw[←XL0 v' 0];exact a)
 ·exact d w _ (Same.refl _ _) OwnI.nil fun b a=>by cases a
theorem W7 {zss:List (List Int)} {i:Nat} (hi:i<zss.length):(zss.take (i+1)).flatten=(zss.take i).flatten++zss.getD i []:=by
 rw[M.take_add hi [],List.flatten_append];simp
theorem flat_le {zss:List (List Int)} (i:Nat):(zss.take i).flatten.length≤zss.flatten.length:=by
 have:zss.flatten=(zss.take i).flatten++(zss.drop i).flatten:=by rw[←List.flatten_append,List.take_append_drop]
 rw[this,List.length_append];omega
theorem Concat_spec {vs:List Value} {zss:List (List Int)} (j:Vals Fx w v vs) (L:vs.length=zss.length) (hi:∀i,i<zss.length→Ints Fy w (vs.getD i undef) (zss.getD i [])) (A:zss.flatten.length≤1000) (E:zss.length≤1000)
  (F:∀w' r,Ext w w'→OwnI PP zc w' r zss.flatten→(∀b,r.ownBlock=some b→w.heap.size≤b)→K r w'):vcall PP yO #[v] w K:=by
 apply qQ
 simp(disch:=first|(simp only[push_cast];done)|omega) only[push_cast,j.len]
 refine vloop_up zss.length (fun i u w'=>u=[.int .i64 ((zss.take i).flatten.length:Nat),.int .i64 i]∧w'=w) ⟨rfl,rfl⟩ ?_
 rintro i _ g M C p ⟨rfl,B⟩ k
 rw[B]
 simp only[push_cast]
 refine zh (fun q=>?_) (fun n=>?_)
 ·have a:i<zss.length:=by omega
  have D:=hi i a
  have hle:=flat_le (zss:=zss) (i+1)
  rw[W7 a,List.length_append] at hle
  simp(disch:=first|(simp only[push_cast];done)|omega) only[push_cast,j.iaddr,j.load,D.len,zy]
  refine zh (fun J=>by omega) (fun _=>?_)
  exact k a _ _ ⟨by rw[W7 a,List.length_append];simp,rfl⟩
 have o:i=zss.length:=by omega
 subst o
 rw[List.take_length]
 refine Grow_nil A fun N G m x s=>?_
 refine vloop_up zss.length (fun i u w'=> ∃r,u=[r,.int .i64 i]∧Ext w w'∧OwnI PP zc w' r (zss.take i).flatten∧∀b,r.ownBlock=some b→w.heap.size≤b) ⟨G,rfl,m,x,s⟩ ?_
 rintro i _ g I C p ⟨r,rfl,c,e,d⟩ k
 simp only[push_cast]
 refine zh (fun q=>?_) (fun n=>?_)
 ·have a:i<zss.length:=by omega
  have D:=(hi i a).ext c
  have f:=j.ext c
  have hle:=flat_le (zss:=zss) (i+1)
  rw[W7 a,List.length_append] at hle
  simp(disch:=first|(simp only[push_cast];done)|omega) only[push_cast,f.iaddr,f.load]
  refine e.app yV D (by omega) (by omega) fun H O y z t=>?_
  have:=c.size
  try simp(disch:=omega) only[push_cast,zy]
  exact k a _ _ ⟨H,by simp<;>exact⟨rfl,rfl⟩,Ext.then c z fun b l=>d b l,by rw[W7 a];exact y,fun b l=>(t b l).elim (d b) fun h=>by omega⟩
 ·rw[show i=zss.length by omega,List.take_length] at e
  exact F I r c e d
theorem un_spec {op:Int} {xv:Value} {xs:List Int} (h:BdR n bb ar ab X F w st) (G:op=1∨op=2) (s:Ints (Off X F) w xv xs) (I:xs.length≤900) (d:SmL xs)
  (e:∀w' F' st' r zs,BdR n bb ar ab X F' w' st'→Mv F w F' w'→Ints (Off X F') w' r zs→SmL zs→M.Bd.Out n (M.unB op xs) st st' zs→K r w'):
  vcall PP Z0 #[.pointer (some ⟨bb,0,none⟩),.int .i64 op,xv] w K:=by
 apply Ut
 simp only[push_cast]
 unfold M.unB at e
 refine zh (fun c=>?_) (fun c=>?_)
 ·rw[if_pos c] at e
  refine negated_spec s (by omega) d fun x r a p j=>?_
  exact e x F st r _ (h.ext a) (Mv.refl.ext a) (NewI.of p j h.lt).ints d.neg (M.Bd.Out.ret _ _)
 rw[if_neg c] at e
 simp(disch:=first|(simp only[push_cast];done)|omega) only[push_cast,s.len]
 refine zh (fun A=>?_) (fun A=>by omega)
 refine offs_spec (by omega) fun x ov a m l=>?_
 refine negated_spec (s.ext a) (by omega) d fun y nv f k g=>?_
 have v:=a.trans f
 have J:=a.size
 have D:Ints (Off X F) y ov (M.offsL xs.length):=(NewI.of (m.ext f) l h.lt).ints
 have C:Ints (Off X F) y nv (M.negL xs):=(NewI.of k (fun b E=>by have:=g b E;omega) h.lt).ints
 refine bsum_spec (h.ext v) D C (by rw[M.offsL_len,M.negL_len];exact Nat.le_refl _) (by rw[M.offsL_len];omega) (SmL.offs _) d.neg (by decide) fun H z u r zs B i q t o=>?_
 exact e H z u r zs B ((Mv.refl.ext v).trans i) q.ints t o
theorem bin_spec {op:Int} {xv yv:Value} {xs ys:List Int} (h:BdR n bb ar ab X F w st) (U:∃gs,st=some gs) (u:3≤op) (a0:op≤14) (o:Ints (Off X F) w xv xs) (t:Ints (Off X F) w yv ys) (E:op≠14→xs.length=ys.length) (hc:op=14→xs.length+ys.length≤4) (D:1≤xs.length) (h8:xs.length≤8) (g:SmL xs) (j:SmL ys)
  (d:∀w' F' st' r zs,BdR n bb ar ab X F' w' st'→Mv F w F' w'→Ints (Off X F') w' r zs→SmL zs→M.Bd.Out n (M.binB op xs ys) st st' zs→K r w'):
  vcall PP qM #[.pointer (some ⟨bb,0,none⟩),.int .i64 op,xv,yv] w K:=by
 apply Wo
 obtain⟨gs,rfl⟩:=U
 obtain⟨bc,Z,hC⟩:=h.blk
 simp only at Z
 unfold M.binB at d
 simp only[push_cast,xG X3 h.err.bits.cell]
 refine zh (fun c=>?_) (fun c=>?_)
 ·rw[if_pos c] at d
  have:=hc c
  simp(disch:=first|(simp only[push_cast];done)|omega) only[push_cast,o.len,t.len,zy,xG X3 h.err.bits.cell]
  rw[decide_eq_false (by omega)]
  refine yc0 ?_
  refine vbuildS_row1 (xs:=[yv,xv]) QO Z2 jZ (fun x L=>by
   simp only[List.mem_cons,List.not_mem_nil,or_false] at L
   rcases L with rfl|rfl
   ·exact Sl.cells1 t
   ·exact Sl.cells1 o) (by simp) fun b1 O a1 s a2 P=>?_
  have hv:Vals (· =b1) O (.slice (some ⟨b1,0,none⟩) [yv,xv].length [yv,xv].length) [yv,xv]:=P.sl1 rfl (by simp)
  refine Concat_spec (zss:=[ys,xs]) hv rfl (Fy:=Off X F) (fun i hi=>?_) (by simp;omega) (by simp) fun w2 r Q T S=>?_
  ·match i,hi with
   |0,_=>exact t.ext s
   |1,_=>exact o.ext s
  ·have Y:=s.trans Q
   have z1:=s.size
   refine d w2 F (some gs) r (ys++xs) (h.ext Y) (Mv.refl.ext Y) (NewI.of (w:=w) (by simpa using T) (fun b hb=>by have:=S b hb;omega) h.lt).ints (j.app g) (M.Bd.Out.ret _ _)
 rw[if_neg c] at d
 have E:=E c
 simp(disch:=first|(simp only[push_cast];done)|omega) only[push_cast,o.len,t.len,xG X3 h.err.bits.cell]
 rw[decide_eq_false (by omega)]
 refine yc0 ?_
 simp(disch:=first|(simp only[push_cast];done)|omega) only[push_cast,Z.ld1,Vj]
 refine zh (fun c=>?_) (fun c=>?_)
 ·rw[if_pos c] at d
  exact each_spec (p:=fun a b=> .and a b .ret) h o t (by omega) (by omega) g j (fun O V N x y W D _ B C A=>kB D B C A) fun z v k r zs u e l m f=>d z v k r zs u e l.ints m f
 rw[if_neg c] at d
 refine zh (fun c=>?_) (fun c=>?_)
 ·rw[if_pos c] at d
  exact each_spec (p:=M.orB) h o t (by omega) (by omega) g j (fun O V N x y W D _ B C A=>bor_spec D B C A) fun z v k r zs u e l m f=>d z v k r zs u e l.ints m f
 rw[if_neg c] at d
 refine zh (fun c=>?_) (fun c=>?_)
 ·rw[if_pos c] at d
  exact each_spec (p:=fun a b=> .xor a b .ret) h o t (by omega) (by omega) g j (fun O V N x y W D _ B C A=>Jz D B C A) fun z v k r zs u e l m f=>d z v k r zs u e l.ints m f
 rw[if_neg c] at d
 refine zh (fun c=>?_) (fun c=>?_)
 ·rw[if_pos c] at d
  exact bsum_spec h o t (by omega) (by omega) g j (by decide) fun z v k r zs u e l m f=>d z v k r zs u e l.ints m f
 rw[if_neg c] at d
 refine zh (fun c=>?_) (fun c=>?_)
 ·rw[if_pos c] at d
  refine negated_spec t (by omega) j fun O nv s R G=>?_
  exact bsum_spec (h.ext s) (o.ext s) (NewI.of R G h.lt).ints (by rw[M.negL_len];omega) (by omega) g j.neg (by decide) fun z v k r zs u e l m f=>d z v k r zs u ((Mv.refl.ext s).trans e) l.ints m f
 rw[if_neg c] at d
 refine zh (fun c=>?_) (fun c=>?_)
 ·rw[if_pos c] at d
  exact mul_spec h o t E (by omega) g j d
 rw[if_neg c] at d
 refine zh (fun c=>?_) (fun c=>?_)
 ·rw[if_pos c] at d
  refine divide_spec h o t E (by omega) g j fun z v k qv rv q r u e H l I J f=>?_
  simp only[push_cast]
  exact d z v k qv q u e H I (M.Bd.Out.map _ f)
 rw[if_neg c] at d
 refine zh (fun c=>?_) (fun c=>?_)
 ·rw[if_pos c] at d
  refine divide_spec h o t E (by omega) g j fun z v k qv rv q r u e H l I J f=>?_
  simp only[push_cast]
  exact d z v k rv r u e l J (M.Bd.Out.map _ f)
 rw[if_neg c] at d
 refine zh (fun c=>?_) (fun c=>?_)
 ·rw[if_pos c] at d
  exact shift_spec h o t (by omega) (by omega) g j (by decide) d
 rw[if_neg c] at d
 refine zh (fun c=>?_) (fun c=>?_)
 ·rw[if_pos c] at d
  exact shift_spec h o t (by omega) (by omega) g j (by decide) d
 rw[if_neg c] at d
 refine zh (fun c=>?_) (fun c=>by omega)
 simp(disch:=first|(simp only[push_cast];done)|omega) only[push_cast,o.len,zy,o.iaddr,o.load]
 rw[show((xs.length:Int)-1).toNat=xs.length-1 by omega]
 exact shift_spec h o t (by omega) (by omega) g j (g.get (by omega)) d
theorem compare_spec {op:Int} {xv yv:Value} {xs ys:List Int} (h:BdR n bb ar ab X F w st) (g:∃gs,st=some gs) (m:15≤op) (k:op≤17) (e:Ints (Off X F) w xv xs) (f:Ints (Off X F) w yv ys) (l:xs.length=ys.length) (j:1≤xs.length) (o:xs.length≤8) (b:SmL xs) (d:SmL ys)
  (a:∀w' F' st' r,BdR n bb ar ab X F' w' st'→Mv F w F' w'→Sm r→M.Bd.Out n (M.cmpB op xs ys) st st' r→K (.int .i64 r) w'):
  vcall PP qJ #[.pointer (some ⟨bb,0,none⟩),.int .i64 op,xv,yv] w K:=by
 apply QF
 obtain⟨gs,rfl⟩:=g
 obtain⟨bc,i,p⟩:=h.blk
 simp only at i
 unfold M.cmpB at a
 simp(disch:=first|(simp only[push_cast];done)|omega) only[push_cast,e.len,f.len,xG X3 h.err.bits.cell]
 rw[decide_eq_false (by omega)]
 refine yc0 ?_
 simp(disch:=first|(simp only[push_cast];done)|omega) only[push_cast,i.ld1,Vj]
 refine zh (fun c=>?_) (fun c=>?_)
 ·rw[if_pos c] at a
  exact bsame_spec h e f (by omega) (by omega) b d a
 rw[if_neg c] at a
 refine zh (fun c=>?_) (fun c=>?_)
 ·rw[if_pos c] at a
  exact bless_spec h e f (by omega) (by omega) b d a
 rw[if_neg c] at a
 refine zh (fun c=>?_) (fun c=>by omega)
 exact under_spec h e f l j (by omega) b d a
end Go.Proofs.YtaekfnbnhjgboaaGreatDoor
end
section
namespace Go.Proofs.YtaekfnbnhjgboaaGreatDoor
open Go Go.Vc Go.Proofs
open Go.ChangeShapes Go.WideShapes Go.ChangeAt Go.RowKit
theorem Qq0:ownKnob PP.godebug=none:=by kernel_rfl
theorem XX:laidOutB PP=true:=by kernel_rfl
def restFacts (P:Program) (f:FuncId) (fn:Func) (s:ChangeSpec) (c:OpenClaim):Bool:=
 c.wf (OpenSpec.ofChange s)&&
 fn.params.all (P.readableRec ·)&&namedTie P c.named s.vars&&
 (c.stops==[])&&(P.stops==[])&&(c.knobs==[])&&(P.stopKnobs==[])&&
 (c.maps==(fn.params.toList++s.plain.varTypes P).any (P.mapsRec ·))&&(c.ifaces==(fn.params.toList++s.plain.varTypes P).any (P.ifacesRec ·))&&(c.mapsOut==P.mapsAmong fn.resultTypes.toList)&&
 (c.loops==(fn.params.toList++s.plain.varTypes P).any (P.loopsFrom ·))&&(c.wideKeys==(fn.params.toList++s.plain.varTypes P++fn.resultTypes.toList).any (P.wideKeysFrom ·))&&
 s.vars.all (P.varReadable ·)&&fn.resultTypes.all (fun t=>P.readableRec t&&decide (t<P.types.size))&&(c.ifacesOut==fn.resultTypes.toList.any (P.ifacesRec ·))&&(c.loopsOut==fn.resultTypes.toList.any (P.loopsFrom ·))&&(c.plainKeys==P.plainKeys)&&c.shortTexts.isNone&&P.stopsHeard&&P.mayEnter&&(c.lifted==P.liftsFinal)&&(P.make==some c.make)&&(c.kinds==(if c.domain.isEmpty then[] else fn.params.toList.map fun t=>match P.underlying t with|some (.int k)=>some k|_=>none))&&(c.pinned==c.pinnedBy)&&
 (c.veiled==(fn.params.toList++s.plain.varTypes P++fn.resultTypes.toList).any (P.veiledRec ·))&&c.veiledFits P fn.params.toList (fn.params.toList++s.plain.varTypes P++fn.resultTypes.toList)
theorem Y60 {P:Program} {f:FuncId} {fn:Func} {s:ChangeSpec} {c:OpenClaim} (b:laidOutB P=true) (d:mapsRowed P=true) (e:(c.inPlace==P.inPlace f)=true) (g:(c.unfollowed==P.unfollowed f)=true)
  (h:(c.recurses==P.recurses f)=true) (i:(c.named==P.varsNamed f)=true) (a:restFacts P f fn s c=true):joinedFacts P f fn s c=true:=by
 unfold restFacts at a
 unfold joinedFacts
 rw[b,d,e,g,h,i]
 simp only[Bool.and_true]
 exact a
theorem Xh0:mapsRowed PP=true:=by kernel_rfl
theorem Yj0 {w w':World} (h:Ext w w'):Below w.heap.size w w':=⟨h.os,h.tape,h.output,h.size,fun k a=>h.block k a id⟩
theorem u8_wf {n:Int} (h:(Lit.int .u8 n).wf=true):0≤n∧n<256:=by
 simp only[Lit.wf,Bool.and_eq_true,decide_eq_true_eq] at h
 have a:IntKind.u8.min=0:=by decide
 have b:IntKind.u8.max=255:=by decide
 omega
def xL0 (w:World) (v:Value) (xs:List Nat):Prop:=Vals (fun _=>True) w v (xs.map fun x=>Value.int .u8 (x:Nat))∧∀x,x∈xs→x<256
theorem jT0 (w:World):xL0 w (.slice none 0 0) []:=⟨⟨⟨none,0,rfl,by simp,by simp,fun h=>absurd rfl h⟩,by simp⟩,by simp⟩
theorem bytes_of {w:World} {x:Addr} {len cap:Nat} {zs:List Int} (z:len≤cap) (hm:cap≤maxLen) (A:zs.length=cap) (a:∀i,i<zs.length→w.cell? (x.add i)=some (.int .u8 (zs.getD i 0))) (o:∀n,n∈zs→(Lit.int .u8 n).wf=true):
  xL0 w (.slice (some x) len cap) ((zs.take len).map Int.toNat):=by
 have c:∀n,n∈zs.take len→0≤n∧n<256:=fun n l=>u8_wf (o n (List.mem_of_mem_take l))
 refine⟨⟨⟨some x,cap,?_,?_,by unfold maxLen at hm;exact hm,fun m=>?_⟩,fun y p=>by obtain⟨u,_,rfl⟩:=List.mem_map.1 p;rfl⟩,fun y p=>?_⟩
 ·simp only[List.length_map,List.length_take];rw[Nat.min_eq_left (by omega)]
 ·simp only[List.length_map,List.length_take];omega
 ·have hlen:0<len:=by
   refine Nat.pos_of_ne_zero fun e=>m ?_
   subst e;simp
  obtain⟨b,off,spot⟩:=x
  have f:=a 0 (by omega)
  have d:spot=none:=by simpa[Addr.add] using World.cell?_spot f
  subst d
  refine⟨b,off,rfl,trivial,World.block_lt_of_cell? w _ f,fun i hi=>?_⟩
  simp only[List.length_map,List.length_take] at hi
  intro j v h
  have hit:i<(zs.take len).length:=by simp only[List.length_take];omega
  have s:((((zs.take len).map Int.toNat).map fun x=>Value.int .u8 (x:Nat)).map fun x=>[x]).getD i []=[Value.int .u8 (((zs.take len)[i].toNat:Nat):Int)]:=by
   simp[List.getD_eq_getElem?_getD,hi]
  rw[s] at h
  have t:j=0:=by
   cases j with
   |zero=>rfl
   |succ j=>simp at h
  subst t
  simp only[List.getElem?_cons_zero,Option.some.injEq] at h
  subst h
  have g:i<zs.length:=by omega
  have q:=a i g
  have k:=c _ (List.getElem_mem hit)
  have r:zs.getD i 0=(zs.take len)[i]:=by simp[List.getD_eq_getElem?_getD,g]
  rw[r,xm] at q
  rw[Int.toNat_of_nonneg k.1,xm,Nat.add_zero,Nat.mul_one]
  exact q
 ·obtain⟨n,l,rfl⟩:=List.mem_map.1 p
  have:=c n l
  omega
end Go.Proofs.YtaekfnbnhjgboaaGreatDoor
end
section
namespace Go.Proofs.YtaekfnbnhjgboaaGreatDoor
open Go Go.Vc Go.Proofs
variable {w:World} {K:Value→World→Prop} {F F' D G:Nat→Prop}
theorem Xx0 {α:Type} {xs:List α} {i j:Nat} {x d:α} (hi:i<xs.length):(xs.set i x).getD j d=if i=j then x else xs.getD j d:=by
 simp only[List.getD_eq_getElem?_getD,List.getElem?_set]
 by_cases e:i=j
 ·subst e;simp[hi]
 ·simp[e]
end Go.Proofs.YtaekfnbnhjgboaaGreatDoor
end
section
namespace Go.M
def vecL (w n:Nat):List UInt8:=35::(List.range w).reverse.map fun i=>if n/2^i%2=1 then 49 else 48
def digL (n:Int):List UInt8:=[UInt8.ofNat (48+n.toNat)]
def textF (t:Tm) (xs:List (List UInt8)):List UInt8:=
 if t.op=20 then vecL t.a.toNat t.b.toNat else if t.op=21 then t.s.data.toList else if t.op=24 then[116,114,117,101]
 else 40::(wordL t.op++((if t.op=22 then 32::(digL t.a++32::digL t.b) else[])++(xs.flatMap (fun x=>32::x)++[41])))
def textL:Tm→List UInt8:=Tm.fold textF
theorem textL_eq (t:Tm):textL t=textF t (t.ks.map textL):=Tm.fold_eq _ t
def Stop (r:List UInt8):Prop:=∀c,r.head?=some c→c=32∨c=41
def YS0 (a:List UInt8):Prop:=∀c,c∈a→c≠32∧c≠41
theorem atom_cancel:∀{a b r s:List UInt8},YS0 a→YS0 b→Stop r→Stop s→a++r=b++s→a=b∧r=s
 |[],[],r,s,_,_,_,_,h=>⟨rfl,h⟩
 |[],y::b,r,s,_,i,k,_,h=>by
  have d:r=y::(b++s):=h
  have f:=i y List.mem_cons_self
  rcases k y (by rw[d];rfl) with e|e
  ·exact absurd e f.1
  ·exact absurd e f.2
 |x::a,[],r,s,g,_,_,hs,h=>by
  have d:s=x::(a++r):=h.symm
  have f:=g x List.mem_cons_self
  rcases hs x (by rw[d];rfl) with e|e
  ·exact absurd e f.1
  ·exact absurd e f.2
 |x::a,y::b,r,s,g,i,k,hs,h=>by
  have d:x::(a++r)=y::(b++s):=h
  simp only[List.cons.injEq] at d
  obtain⟨rfl,d⟩:=d
  obtain⟨rfl,e⟩:=atom_cancel (fun c j=>g c (List.mem_cons_of_mem _ j)) (fun c j=>i c (List.mem_cons_of_mem _ j)) k hs d
  exact⟨rfl,e⟩
theorem Za {c:UInt8} {r:List UInt8} (h:c=32∨c=41):Stop (c::r):=fun d a=>by
 have:d=c:=by simpa using a.symm
 subst this;exact h
theorem word_free:∀o:Fin 28,YS0 (wordL o):=by unfold YS0;decide+kernel
theorem word_inj:∀o p:Fin 28,wordL o=wordL p→wordL o≠[]→o=p:=by decide+kernel
theorem word_ne:∀o:Fin 28,1≤o.1→(o.1≤17∨o.1=22∨o.1=23∨25≤o.1)→wordL o≠[]:=by decide+kernel
theorem vec_inj:∀w:Fin 5,∀a:Fin 16,∀v:Fin 5,∀b:Fin 16,a.1<2^w.1→b.1<2^v.1→vecL w a=vecL v b→w=v∧a=b:=by decide+kernel
theorem X30 (w n:Nat):YS0 (vecL w n):=fun c a=>by
 unfold vecL at a
 rcases List.mem_cons.1 a with rfl|a
 ·decide
 ·obtain⟨i,_,rfl⟩:=List.mem_map.1 a
  split<;>decide
theorem dig_inj:∀a b:Fin 4,digL a=digL b→a=b:=by decide+kernel
theorem dig_free:∀a:Fin 4,YS0 (digL a):=by unfold YS0;decide+kernel
section
variable {ds:List Dcl} {t u:Tm}
theorem name_ok (g:declOk ds=true) (hs:sortM ds t≠ -1) (k:t.op=21):t.s.data.toList≠[]∧t.s≠tru∧∀c,c∈t.s.data.toList→97≤c.toNat∧c.toNat≤122:=by
 have h:=name_found hs k
 have j:(findD ds t.s).toNat<ds.length:=by have:=(findD_lt ds t.s).2;omega
 have i:=findD_get h
 have a:=(decl_iff.1 g).2.1 _ j
 unfold dclOk at a
 rw[i] at a
 simp only[Bool.and_eq_true,decide_eq_true_eq,nameOk] at a
 obtain⟨⟨⟨⟨⟨⟨l,m⟩,b⟩,d⟩,_⟩,_⟩,_⟩:=a
 refine⟨fun e=>?_,b,fun c f=>?_⟩
 ·have:t.s.size=0:=by show t.s.data.size=0;rw[←Array.length_toList,e];rfl
  omega
 ·have:=Array.all_eq_true'.1 d c (Array.mem_toList_iff.1 f)
  simpa using this
theorem right_op (hs:sortM ds t≠ -1):arity t.op=t.ks.length∧plainM t=true∧((1≤t.op∧t.op≤17)∨(20≤t.op∧t.op≤27)):=by
 obtain⟨c,_,_⟩:=sort_parts hs
 obtain⟨a,b⟩:=formed_iff.1 c
 exact⟨a,b,arity_ops (by omega)⟩
theorem U9 {o:Int} (h:o=20∨o=21∨o=24):arity o=0:=by unfold arity;rw[if_pos h]
theorem node_arity {o:Int} (h:(1≤o∧o≤17)∨(20≤o∧o≤27)) (a: ¬(o=20∨o=21∨o=24)):1≤arity o:=by
 unfold arity;rw[if_neg a];repeat' split
 all_goals omega
theorem vec_ok (hs:sortM ds t≠ -1) (c:t.op=20):vok t.a t.b=true:=by
 have h:=(sort_parts hs).2.2
 rw[h] at hs
 unfold sortK at hs
 rw[if_pos c] at hs
 split at hs
 ·assumption
 ·exact absurd rfl hs
theorem cut_ab (c:declOk ds=true) (hs:sortM ds t≠ -1) (d:t.op=22):0≤t.b∧t.b≤t.a∧t.a<4:=by
 have h:=(sort_parts hs).2.2
 have e:(t.ks.map (sortM ds)).getD 0 0≤4:=by
  by_cases hi:0<t.ks.length
  ·rw[getD_map _ hi 0 default];exact(sort_range c _).2
  ·rw[List.getD_eq_getElem?_getD,List.getElem?_eq_none (by simpa using hi)];simp
 rw[h] at hs
 unfold sortK at hs
 rw[if_neg (by omega),if_neg (by omega),if_neg (by omega),if_neg (by omega),if_pos d] at hs
 split at hs
 ·next h=>omega
 ·exact absurd rfl hs
theorem atom_text (g:declOk ds=true) (hs:sortM ds t≠ -1) (d:t.op=20∨t.op=21∨t.op=24):textL t=textF t []∧YS0 (textL t)∧textL t≠[]∧∀c,(textL t).head?=some c→c≠40:=by
 have h:t.ks=[]:=List.eq_nil_of_length_eq_zero (by have:=(right_op hs).1;rw[U9 d] at this;omega)
 have e:textL t=textF t []:=by rw[textL_eq,h];rfl
 refine⟨e,?_⟩
 rw[e]
 unfold textF
 rcases d with o|o|o
 ·rw[if_pos o]
  exact⟨X30 _ _,by simp[vecL],fun c a=>by
   have:c=35:=by simpa[vecL] using a.symm
   subst this;decide⟩
 ·rw[if_neg (by omega),if_pos o]
  obtain⟨f,i,b⟩:=name_ok g hs o
  refine⟨fun c a=>?_,f,fun c a=>?_⟩
  ·have:=b c a
   exact⟨fun e=>by subst e;exact absurd this.1 (by decide),fun e=>by subst e;exact absurd this.1 (by decide)⟩
  ·have:=b c (List.mem_of_mem_head? a)
   intro e;subst e;exact absurd this.1 (by decide)
 ·rw[if_neg (by omega),if_neg (by omega),if_pos o]
  exact⟨by unfold YS0;decide,by decide,fun c a=>by
   have:c=116:=by simpa using a.symm
   subst this;decide⟩
theorem xW0 {t u:Tm} (c:t.op=u.op) (d:t.a=u.a) (e:t.b=u.b) (f:t.s=u.s) (g:t.ks=u.ks):t=u:=by
 cases t;cases u
 simp only[Tm.op,Tm.a,Tm.b,Tm.s,Tm.ks] at c d e f g
 subst c;subst d;subst e;subst f;subst g;rfl
theorem JV (h:plainM t=true) (c:t.op≠20∧t.op≠22):t.a=0∧t.b=0:=by
 simp only[plainM,Bool.and_eq_true,Bool.or_eq_true,decide_eq_true_eq] at h
 rcases h.1 with(h|h)|h
 ·exact absurd h c.1
 ·exact absurd h c.2
 ·exact h
theorem U7 (h:plainM t=true) (a:t.op≠21):t.s=nada:=by
 simp only[plainM,Bool.and_eq_true,Bool.or_eq_true,decide_eq_true_eq] at h
 exact h.2.resolve_left a
theorem atom_inj (k:declOk ds=true) (hs:sortM ds t≠ -1) (hu:sortM ds u≠ -1) (m:t.op=20∨t.op=21∨t.op=24) (n:u.op=20∨u.op=21∨u.op=24) (h:textL t=textL u):t=u:=by
 have l:t.ks=[]:=List.eq_nil_of_length_eq_zero (by have:=(right_op hs).1;rw[U9 m] at this;omega)
 have g:u.ks=[]:=List.eq_nil_of_length_eq_zero (by have:=(right_op hu).1;rw[U9 n] at this;omega)
 have f:=(right_op hs).2.1
 have d:=(right_op hu).2.1
 rw[(atom_text k hs m).1,(atom_text k hu n).1] at h
 unfold textF at h
 have letter:∀{v:Tm},sortM ds v≠ -1→v.op=21→∀c r,v.s.data.toList=c::r→97≤c.toNat:=fun{v} q i c r e=>((name_ok k q i).2.2 c (by rw[e];exact List.mem_cons_self)).1
 have notrue:∀{v:Tm},sortM ds v≠ -1→v.op=21→v.s.data.toList=[116,114,117,101]→False:=fun{v} q i e=>(name_ok k q i).2.1 (by
  have:v.s.data= #[116,114,117,101]:=Array.toList_inj.1 e
  show v.s=tru
  have j:v.s=⟨v.s.data⟩:=rfl
  rw[j,this];rfl)
 rcases m with o|o|o<;>rcases n with p|p|p
 ·rw[if_pos o,if_pos p] at h
  have v1:=vok_lt (vec_ok hs o)
  have v2:=vok_lt (vec_ok hu p)
  have y:=vok_iff.1 (vec_ok hs o)
  have z:=vok_iff.1 (vec_ok hu p)
  have w:((2^t.a.toNat:Nat):Int)=2^t.a.toNat:=by simp
  have j:((2^u.a.toNat:Nat):Int)=2^u.a.toNat:=by simp
  have:=vec_inj ⟨t.a.toNat,by omega⟩ ⟨t.b.toNat,by omega⟩ ⟨u.a.toNat,by omega⟩ ⟨u.b.toNat,by omega⟩ (by show t.b.toNat<2^t.a.toNat;omega) (by show u.b.toNat<2^u.a.toNat;omega) h
  simp only[Fin.mk.injEq] at this
  exact xW0 (by omega) (by omega) (by omega) (by rw[U7 f (by omega),U7 d (by omega)]) (by rw[l,g])
 ·rw[if_pos o,if_neg (by omega),if_pos p] at h
  exact absurd (letter hu p 35 _ h.symm) (by decide)
 ·rw[if_pos o,if_neg (by omega),if_neg (by omega),if_pos p] at h
  simp[vecL] at h
 ·rw[if_neg (by omega),if_pos o,if_pos p] at h
  exact absurd (letter hs o 35 _ h) (by decide)
 ·rw[if_neg (by omega),if_pos o,if_neg (by omega),if_pos p] at h
  obtain⟨x,b1⟩:=JV f (by omega)
  obtain⟨a2,b2⟩:=JV d (by omega)
  refine xW0 (by omega) (by omega) (by omega) ?_ (by rw[l,g])
  have:=Array.toList_inj.1 h
  have w:t.s=⟨t.s.data⟩:=rfl
  have j:u.s=⟨u.s.data⟩:=rfl
  rw[w,j,this]
 ·rw[if_neg (by omega),if_pos o,if_neg (by omega),if_neg (by omega),if_pos p] at h
  exact(notrue hs o h).elim
 ·rw[if_neg (by omega),if_neg (by omega),if_pos o,if_pos p] at h
  simp[vecL] at h
 ·rw[if_neg (by omega),if_neg (by omega),if_pos o,if_neg (by omega),if_pos p] at h
  exact(notrue hu p h.symm).elim
 ·obtain⟨x,b1⟩:=JV f (by omega)
  obtain⟨a2,b2⟩:=JV d (by omega)
  exact xW0 (by omega) (by omega) (by omega) (by rw[U7 f (by omega),U7 d (by omega)]) (by rw[l,g])
theorem kids_inj:∀{ks us:List Tm} {r s:List UInt8},ks.length=us.length→(∀k,k∈ks→∀u,u∈us→∀r s,Stop r→Stop s→textL k++r=textL u++s→k=u∧r=s)→
  (ks.map textL).flatMap (fun x=>32::x)++41::r=(us.map textL).flatMap (fun x=>32::x)++41::s→ks=us∧r=s
 |[],[],r,s,_,_,h=>by
  have:(41:UInt8)::r=41::s:=h
  simp only[List.cons.injEq,true_and] at this
  exact⟨rfl,this⟩
 |[],_::_,_,_,b,_,_=>by simp at b
 |_::_,[],_,_,b,_,_=>by simp at b
 |k::ks,u::us,r,s,b,c,h=>by
  simp only[List.map_cons,List.flatMap_cons,List.cons_append,List.append_assoc,List.cons.injEq,true_and] at h
  have st:∀(l:List Tm) (r:List UInt8),Stop ((l.map textL).flatMap (fun x=>32::x)++41::r):=fun l r=>by
   cases l with
   |nil=>exact Za (.inr rfl)
   |cons a l=>exact Za (.inl rfl)
  obtain⟨he,h⟩:=c k List.mem_cons_self u List.mem_cons_self _ _ (st _ _) (st _ _) h
  obtain⟨rfl,e⟩:=kids_inj (by simpa using b) (fun k d u hu=>c k (List.mem_cons_of_mem _ d) u (List.mem_cons_of_mem _ hu)) h
  subst he
  exact⟨rfl,e⟩
theorem text_inj' (g:declOk ds=true):∀t:Tm,sortM ds t≠ -1→∀u:Tm,sortM ds u≠ -1→∀r s,Stop r→Stop s→textL t++r=textL u++s→t=u∧r=s:=by
 refine Tm.ind fun t S hs u hu r s R C h=>?_
 obtain⟨ar,pl,op⟩:=right_op hs
 obtain⟨H,m,D⟩:=right_op hu
 have comp:∀{v:Tm},¬(v.op=20∨v.op=21∨v.op=24)→textL v=40::(wordL v.op++((if v.op=22 then 32::(digL v.a++32::digL v.b) else[])++((v.ks.map textL).flatMap (fun x=>32::x)++[41]))):=fun{v} j=>by
  rw[textL_eq];unfold textF;rw[if_neg (fun e=>j (.inl e)),if_neg (fun e=>j (.inr (.inl e))),if_neg (fun e=>j (.inr (.inr e)))]
 by_cases lt:t.op=20∨t.op=21∨t.op=24
 ·obtain⟨_,f1,f2,f3⟩:=atom_text g hs lt
  by_cases lu:u.op=20∨u.op=21∨u.op=24
  ·obtain⟨_,g1,g2,g3⟩:=atom_text g hu lu
   obtain⟨e,I⟩:=atom_cancel f1 g1 R C h
   exact⟨atom_inj g hs hu lt lu e,I⟩
  ·exfalso
   rw[comp lu] at h
   match i:textL t,f2 with
   |c::q,_=>
    rw[i] at h
    simp only[List.cons_append,List.cons.injEq] at h
    exact f3 c (by rw[i];rfl) h.1
 ·by_cases lu:u.op=20∨u.op=21∨u.op=24
  ·exfalso
   obtain⟨_,g1,g2,g3⟩:=atom_text g hu lu
   rw[comp lt] at h
   match i:textL u,g2 with
   |c::q,_=>
    rw[i] at h
    simp only[List.cons_append,List.cons.injEq] at h
    exact g3 c (by rw[i];rfl) h.1.symm
  ·rw[comp lt,comp lu] at h
   simp only[List.cons_append,List.append_assoc,List.cons.injEq,true_and,List.nil_append] at h
   have na:=node_arity op lt
   have V:=node_arity D lu
   have kst:∀{l:List Tm} {q:List UInt8},1≤l.length→∃G,(l.map textL).flatMap (fun x=>32::x)++41::q=32::G:=fun{l q} z=>by
    cases l with
    |nil=>simp at z
    |cons a l=>exact⟨_,rfl⟩
   have st:∀{v:Tm} {q:List UInt8},1≤v.ks.length→Stop ((if v.op=22 then 32::(digL v.a++32::digL v.b) else[])++((v.ks.map textL).flatMap (fun x=>32::x)++41::q)):=fun{v q} z=>by
    split
    ·exact Za (.inl rfl)
    ·obtain⟨G,e⟩:=kst (q:=q) z
     rw[List.nil_append,e]
     exact Za (.inl rfl)
   have E:(((⟨t.op.toNat,by omega⟩:Fin 28):Nat):Int)=t.op:=by show((t.op.toNat:Nat):Int)=_;omega
   have F:(((⟨u.op.toNat,by omega⟩:Fin 28):Nat):Int)=u.op:=by show((u.op.toNat:Nat):Int)=_;omega
   have n:=word_free ⟨t.op.toNat,by omega⟩
   have o:=word_free ⟨u.op.toNat,by omega⟩
   rw[E] at n
   rw[F] at o
   obtain⟨hw,h⟩:=atom_cancel n o (st (v:=t) (by omega)) (st (v:=u) (by omega)) h
   have A:=word_ne ⟨t.op.toNat,by omega⟩ (by show 1≤t.op.toNat;omega) (by show t.op.toNat≤17∨t.op.toNat=22∨t.op.toNat=23∨25≤t.op.toNat;omega)
   have B:=word_inj ⟨t.op.toNat,by omega⟩ ⟨u.op.toNat,by omega⟩ (by rw[E,F];exact hw) A
   have f:t.op=u.op:=by
    have:t.op.toNat=u.op.toNat:=congrArg Fin.val B
    omega
   have w:t.a=u.a∧t.b=u.b∧(t.ks.map textL).flatMap (fun x=>32::x)++41::r=(u.ks.map textL).flatMap (fun x=>32::x)++41::s:=by
    by_cases d:t.op=22
    ·rw[if_pos d,if_pos (by omega)] at h
     simp only[List.cons_append,List.append_assoc,List.cons.injEq,true_and] at h
     have X:=cut_ab g hs d
     have Y:=cut_ab g hu (by omega)
     have da:∀{x:Int},0≤x→x<4→YS0 (digL x):=fun{x} L N=>by
      have:=dig_free ⟨x.toNat,by omega⟩
      rwa[show(((⟨x.toNat,by omega⟩:Fin 4):Nat):Int)=x by show((x.toNat:Nat):Int)=_;omega] at this
     have di:∀{x y:Int},0≤x→x<4→0≤y→y<4→digL x=digL y→x=y:=fun{x y} L N M O he=>by
      have:=dig_inj ⟨x.toNat,by omega⟩ ⟨y.toNat,by omega⟩ (by
       rw[show(((⟨x.toNat,by omega⟩:Fin 4):Nat):Int)=x by show((x.toNat:Nat):Int)=_;omega,show(((⟨y.toNat,by omega⟩:Fin 4):Nat):Int)=y by show((y.toNat:Nat):Int)=_;omega];exact he)
      have:x.toNat=y.toNat:=congrArg Fin.val this
      omega
     obtain⟨J,h⟩:=atom_cancel (da (by omega) (by omega)) (da (by omega) (by omega)) (Za (.inl rfl)) (Za (.inl rfl)) h
     simp only[List.cons.injEq,true_and] at h
     obtain⟨Z,T⟩:=kst (l:=t.ks) (q:=r) (by omega)
     obtain⟨q2,U⟩:=kst (l:=u.ks) (q:=s) (by omega)
     obtain⟨K,h⟩:=atom_cancel (da (by omega) (by omega)) (da (by omega) (by omega)) (by rw[T];exact Za (.inl rfl)) (by rw[U];exact Za (.inl rfl)) h
     exact⟨di (by omega) (by omega) (by omega) (by omega) J,di (by omega) (by omega) (by omega) (by omega) K,h⟩
    ·rw[if_neg d,if_neg (by omega)] at h
     obtain⟨W,b1⟩:=JV pl ⟨fun e=>lt (.inl e),d⟩
     obtain⟨a2,b2⟩:=JV m ⟨fun e=>lu (.inl e),by omega⟩
     exact⟨by omega,by omega,h⟩
   obtain⟨P,Q,h⟩:=w
   obtain⟨p,e⟩:=kids_inj (by
    have:arity t.op=arity u.op:=by rw[f]
    omega) (fun k p v j=>S k p ((sort_parts hs).2.1 k p) v ((sort_parts hu).2.1 v j)) h
   exact⟨xW0 f P Q (by rw[U7 pl (fun e=>lt (.inr (.inl e))),U7 m (fun e=>lu (.inr (.inl e)))]) p,e⟩
theorem text_inj (b:declOk ds=true) (hs:sortM ds t≠ -1) (hu:sortM ds u≠ -1) (h:textL t=textL u):t=u:=
 (text_inj' b t hs u hu [] [] (fun c a=>by cases a) (fun c a=>by cases a) (by rw[List.append_nil,List.append_nil];exact h)).1
end
end Go.M
end
section
namespace Go.Proofs.YtaekfnbnhjgboaaGreatDoor
open Go Go.Vc Go.Proofs
variable {w:World} {K:Value→World→Prop} {F F' Fx Fy X Q:Nat→Prop} {n bc mb bb:Nat} {gs:M.Gs} {v:Value} {ar ab:Addr} {st:Option M.Gs}
theorem dcl_small {ds:List M.Dcl} (a:M.declOk ds=true) {i:Nat} (hi:i≤ds.length):0≤M.bitT ds i∧M.bitT ds i≤16:=by
 have c:=(M.decl_iff.1 a).1
 induction i with
 |zero=>exact⟨Int.le_refl _,show(0:Int)≤16 by decide⟩
 |succ i b=>
  have:=b (by omega)
  have hw:=M.dcl_wide a (i:=i) (by omega)
  rw[M.bitT_succ (by omega)]
  have key:M.bitT ds i≤4*(i:Int):=by
   clear b this
   induction i with
   |zero=>exact Int.le_refl _
   |succ j ihj=>
    have hw:=M.dcl_wide a (i:=j) (by omega)
    have:=ihj (by omega) (M.dcl_wide a (by omega))
    rw[M.bitT_succ (by omega)];omega
  omega
theorem bitsOf_spec {dv:Value} {ds:List M.Dcl} (l:DclsR Fx w dv ds) (d:M.declOk ds=true) (p:∀w',Ext w w'→K (.int .i64 (M.bits ds)) w'):vcall PP Qc #[dv] w K:=by
 apply qR0
 simp(disch:=(simp only[push_cast];done)) only[push_cast,l.len]
 have k:=(M.decl_iff.1 d).1
 refine vloop_up ds.length (fun i u w'=>u=[.int .i64 (M.bitT ds i),.int .i64 i]∧Ext w w') ⟨rfl,Same.refl _ _⟩ ?_
 rintro i _ _ m C hi ⟨rfl,c⟩ o
 have e:=l.ext c
 simp only[push_cast]
 refine zh (fun a=>?_) (fun a=>?_)
 ·have b:i<ds.length:=by omega
  simp(disch:=first|(simp only[push_cast];done)|omega) only[push_cast,e.iaddr,e.load]
  refine zF xF fun b1 x q f s n=>?_
  refine stDecl n fun v j _ k=>?_
  have g:Ext m v:=Ext.then f j fun y t=>by subst t;omega
  have r:=dcl_small d hi
  have h:=dcl_small d (i:=i+1) b
  rw[M.bitT_succ b] at h
  simp(disch:=first|(simp only[push_cast];done)|omega) only[push_cast,k.ld1,zy]
  refine o b _ _ ⟨?_,c.trans g⟩
  rw[M.bitT_succ b]
  simp
 ·have:i=ds.length:=by omega
  subst this
  rw[M.bitT_all]
  exact p m c
theorem nameB_take {ds:List M.Dcl} {k j:Nat} {wd top:Int} (c:(j:Int)<wd) (hw:wd=(ds.getD k (M.nada,0)).2) (b:top=2+M.bits (ds.take k)):(M.nameB ds k).take (j+1)=(M.nameB ds k).take j++[top+(wd-1-j)]:=by
 have a:j<(M.nameB ds k).length:=by rw[M.nameB_len];omega
 rw[M.take_add a 0]
 congr 1
 unfold M.nameB
 rw[List.getD_eq_getElem?_getD,List.getElem?_map,List.getElem?_range (by omega)]
 show[2+M.bits (ds.take k)+(ds.getD k (M.nada,0)).2-1-(j:Int)]=[top+(wd-1-(j:Int))]
 rw[b,hw]
 congr 1
 omega
theorem inputs_spec {bl:Nat} {r:List Value} {dv:Value} {ds:List M.Dcl} {s:ByteArray} {x0:Value} (S:Blk w bl (x0::dv::r) zP) (N:DclsR Fx w dv ds) (f:M.declOk ds=true) (hs:0≤M.findD ds s)
  (L:∀w' r,Ext w w'→OwnI PP zc w' r (M.nameB ds (M.findD ds s).toNat)→(∀b,r.ownBlock=some b→w.heap.size≤b)→K r w'):vcall PP j5 #[.pointer (some ⟨bl,0,none⟩),.string s] w K:=by
 apply Jy
 simp(disch:=(simp only[push_cast];done)) only[push_cast,S.ld1,N.len]
 have h4:=(M.decl_iff.1 f).1
 have Z:=M.findD_lt ds s
 refine vloop_up ds.length (fun i u w'=>u=[.int .i64 (2+M.bitT ds i),.int .i64 i]∧Ext w w'∧i≤(M.findD ds s).toNat) ⟨rfl,Same.refl _ _,Nat.zero_le _⟩ ?_
 rintro i _ _ w2 C hi ⟨rfl,k,Y⟩ T
 have q:=N.ext k
 simp only[push_cast]
 have d:i<ds.length:=by omega
 refine zh (fun a=>?_) (fun a=>by omega)
 simp(disch:=first|(simp only[push_cast];done)|omega) only[push_cast,q.iaddr,q.load]
 refine zF xF fun b1 w3 V D a2 R=>?_
 refine stDecl R fun w4 J _ o=>?_
 have t:Ext w2 w4:=Ext.then D J fun y hy=>by subst hy;omega
 have a1:=dcl_small f hi
 have H:=dcl_small f (i:=i+1) d
 rw[M.bitT_succ d] at H
 have P:=M.dcl_wide f d
 simp(disch:=first|(simp only[push_cast];done)|omega) only[push_cast,o.ld0,o.ld1,zy]
 refine zh (fun e=>?_) (fun e=>?_)
 ·have E:i=(M.findD ds s).toNat:=by
   by_cases c:i=(M.findD ds s).toNat
   ·exact c
   ·have Q:=M.dcl_apart f (i:=(M.findD ds s).toNat) (j:=i) (by omega) (by omega)
    exact absurd (e.trans (M.findD_get hs).symm) Q
  rw[←E] at L
  have B:M.bitT ds i=M.bits (ds.take i):=rfl
  generalize U:(ds.getD i (M.nada,0)).2=wd at*
  refine YC (fun m u w'=> ∃j r,u=[r,.int .i64 ((m:Int)-1)]∧(m:Int)+(j:Nat)=wd∧Ext w w'∧OwnI PP zc w' r ((M.nameB ds i).take j)∧∀b,r.ownBlock=some b→w.heap.size≤b) wd.toNat
   ⟨0,_,by rw[show((wd.toNat:Nat):Int)=wd by omega],by omega,k.trans t,OwnI.nil,fun b p=>by cases p⟩ ?_
  rintro m _ _ w5 C5 ⟨j,r,rfl,a0,v,n,l⟩ A
  simp only[push_cast]
  refine zh (fun X=>?_) (fun O=>?_)
  ·simp(disch:=omega) only[push_cast,zy]
   refine yg yU yo yB rfl rfl fun b6 w6 W x a3 z=>?_
   have g:=v.trans x
   have hz:=g.size
   have hle:((M.nameB ds i).take j).length≤16:=by rw[List.length_take,M.nameB_len];omega
   refine(n.ext x).app1 yV z (by omega) (by omega) fun r7 w7 G I F=>?_
   try simp(disch:=omega) only[push_cast,zy]
   refine A (m-1) _ _ (by omega) ⟨j+1,r7,?_,by omega,Ext.then g I fun b p=>l b p,?_,fun b p=>(F b p).elim (l b) fun h=>by omega⟩
   ·rw[show((m-1:Nat):Int)=(m:Int)-1 by omega]
   ·rw[nameB_take (wd:=wd) (top:=2+M.bits (ds.take i)) (by omega) U.symm rfl,←B]
    rw[show(2+M.bitT ds i+(wd-1-j))=2+M.bitT ds i+((m:Int)-1) by omega]
    exact G
  ·rw[List.take_of_length_le (by rw[M.nameB_len];omega)] at n
   exact L w5 r v n l
 ·refine T d _ _ ⟨?_,k.trans t,?_⟩
  ·rw[M.bitT_succ d];simp;omega
  ·have:i≠(M.findD ds s).toNat:=fun h=>e (by rw[h];exact M.findD_get hs)
   omega
end Go.Proofs.YtaekfnbnhjgboaaGreatDoor
end
section
namespace Go.Proofs.YtaekfnbnhjgboaaGreatDoor
open Go Go.Vc Go.Proofs Go.Shelf
variable {w:World} {K:Value→World→Prop} {F F' Fx Fy X Q:Nat→Prop}
def QD0:ByteArray:=⟨#[48,49,50,51,52,53,54,55,56,57,97,98,99,100,101,102,103,104,105,106,107,108,109,110,111,112,113,114,115,116,117,118,119,120,121,122]⟩
theorem digit_text:∀k:Fin 10,(QD0.extract k.1 (k.1+1)).data.toList=M.digL (k.1:Int):=by decide+kernel
theorem Itoa_spec {k:Nat} (c:k<10) (b:∀s:ByteArray,s.data.toList=M.digL (k:Int)→K (.string s) w):vcall PP jw #[.int .i64 k] w K:=by
 apply yZ0
 apply Qn
 apply ZP
 simp only[push_cast]
 refine zh (fun _=>?_) (fun h=>absurd trivial h)
 refine zV (fun _ _=>False) ?_ (fun _ _ _ h=>h.elim)
 intro J d
 refine zh (fun _=>?_) (fun h=>by omega)
 refine zh (fun _=>?_) (fun h=>by omega)
 apply Xv
 simp(disch:=omega) only[push_cast,zy]
 refine zh (fun _=>?_) (fun h=>by omega)
 have a:QD0.size=36:=by decide+kernel
 show yy PP zN (.string QD0) _ _ _ w _
 rw[kY0 (by kernel_rfl) (by omega) (by omega) (by rw[a];omega)]
 rw[show((k:Int)).toNat=k by omega,show((k:Int)+1).toNat=k+1 by omega]
 exact b _ (digit_text ⟨k,c⟩)
def byV (c:UInt8):Value:= .int .u8 c.toNat
theorem Zm0 {v:Value} {l:List UInt8} (h:OwnV PP y3 w v (l.map byV)) (g:l≠[]):ZV PP y3 zN v w K=K (.string ⟨l.toArray⟩) w:=by
 obtain⟨a,c,k,p,n,d⟩:=(OwnV.vals h).shape
 have f:(l.map byV).map (fun x=>[x])≠[]:=by simpa using g
 obtain⟨b,o,m,_,_,e⟩:=d f
 simp only[List.length_map] at k e
 subst m;subst k
 refine yC (run_convert_bytes_back w y3 zN qC ⟨b,o,none⟩ c l XU (by kernel_rfl) (by kernel_rfl) fun j i=>?_)
 have:=e j i 0 (byV l[j]) (by
  rw[List.getD_eq_getElem?_getD,List.getElem?_map,List.getElem?_map,List.getElem?_eq_getElem i];rfl)
 rw[xm] at this⊢
 rw[Nat.mul_one,Nat.add_zero] at this
 exact this
def Yr0 (n:Nat) (i:Nat):UInt8:=if n/2^i%2=1 then 49 else 48
theorem bitC_take {wd n j:Nat} (a:j<wd):((List.range wd).reverse.map (Yr0 n)).take (j+1)=((List.range wd).reverse.map (Yr0 n)).take j++[Yr0 n (wd-1-j)]:=by
 have b:j<((List.range wd).reverse.map (Yr0 n)).length:=by simpa using a
 rw[M.take_add b 0]
 congr 1
 rw[List.getD_eq_getElem?_getD,List.getElem?_map,List.getElem?_reverse (by simpa using a),List.length_range,List.getElem?_range (by omega)]
 rfl
theorem VecText_spec {wd n:Int} (C:M.vok wd n=true) (hK:∀w' s,Ext w w'→s.data.toList=M.vecL wd.toNat n.toNat→K (.string s) w'):vcall PP Xh #[kK wd n] w K:=by
 apply xl0
 obtain⟨V,W,X,Y⟩:=M.vok_iff.1 C
 have hp:(2:Int)^wd.toNat≤16:=by
  have:=pow4 (k:=wd.toNat) (by omega) (by omega)
  have e:=xF0 wd.toNat
  omega
 refine zD fun b1 G a0 z aa g=>?_
 have y:∀w':World,Blk w' b1 [.int .i64 wd,.int .i64 n] zd→∀K:Value→World→Prop,zf PP zd (.pointer (some ⟨b1,0,none⟩)) w' K=K (kK wd n) w':=fun w' hB K=>Blk.ldAgg hB (by exact zW)
 rw[y G g]
 refine VecOk_spec fun w2 o=>?_
 rw[C]
 simp only[push_cast,Bool.not_true]
 refine yg XU (by kernel_rfl) (show yP PP qC (.int .u8 0) by unfold yP;kernel_rfl) rfl rfl fun b3 w3 a5 A ab J=>?_
 have D:=g.ext (o.trans A)
 have e3:=z.trans (o.trans A)
 have s1:=z.size;have s2:=o.size
 have T:OwnV PP y3 w3 (.slice (some ⟨b3,0,none⟩) 1 1) ([(35:UInt8)].map byV):=Blk.own1 (P:=PP) (t:=y3) (cs:=[byV 35]) (by rw[Yk0];exact J) (Nat.zero_le _) rfl rfl (by omega)
 simp(disch:=first|(simp only[push_cast];done)|omega) only[push_cast,D.ld0,zy]
 refine YC (fun m u w'=> ∃j r,u=[r,.int .i64 ((m:Int)-1)]∧(m:Int)+(j:Nat)=wd∧Ext w w'∧Blk w' b1 [.int .i64 wd,.int .i64 n] zd∧OwnV PP y3 w' r ((35::((List.range wd.toNat).reverse.map (Yr0 n.toNat)).take j).map byV)∧∀b,r.ownBlock=some b→G.heap.size≤b) wd.toNat
  ⟨0,_,by rw[show((wd.toNat:Nat):Int)=wd by omega],by omega,e3,D,T,fun b l=>by have e:b3=b:=Option.some.inj l;omega⟩ ?_
 rintro m _ _ Z C5 ⟨j,r,rfl,a9,p,i,v,q⟩ N
 simp only[push_cast]
 refine zh (fun a7=>?_) (fun a8=>?_)
 ·rw[y Z i]
  rw[show n=((n.toNat:Nat):Int) by omega]
  refine raw_spec (by omega) fun w6 Q=>?_
  rw[show(m:Int)-1=((m-1:Nat):Int) by omega]
  refine bit_spec (by omega) (by omega) ?_
  have step:∀(x:UInt8) (H:Value→World→Prop),x=Yr0 n.toNat (wd.toNat-1-j)→(∀d a,Ext w a→Blk a b1 [.int .i64 wd,.int .i64 n] zd→OwnV PP y3 a d ((35::((List.range wd.toNat).reverse.map (Yr0 n.toNat)).take (j+1)).map byV)→(∀b,d.ownBlock=some b→G.heap.size≤b)→H d a)→
    vbuildS PP y3 1 [(0,.int .u8 x.toNat)] w6 fun t21 F=>vbi PP .append [y3,y3] y3 [r,t21] F H:=by
   intro x H hx O
   refine yg XU (by kernel_rfl) (show yP PP qC (.int .u8 0) by unfold yP;kernel_rfl) rfl rfl fun b7 a a6 R ad L=>?_
   have f:=Q.trans R
   have hl:((35::((List.range wd.toNat).reverse.map (Yr0 n.toNat)).take j).map byV).length≤20:=by
    simp only[List.length_map,List.length_cons,List.length_take,List.length_reverse,List.length_range];omega
   refine(v.ext f).app1 Xu0 L rfl (by omega) (by omega) fun r8 w8 U E S=>?_
   have ac:=p.size
   have ae:=f.size
   refine O r8 w8 (Ext.then (p.trans f) E fun b l=>by have:=q b l;omega) ((i.ext f).same E fun l=>by have:=q b1 l;have:=g.lt;omega) ?_ fun b l=>(S b l).elim (q b) fun h=>by have:=i.lt;omega
   rw[bitC_take (by omega),←hx,←List.cons_append,List.map_append]
   exact U
  have B:wd.toNat-1-j=m-1:=by omega
  have fin:∀d a,Ext w a→Blk a b1 [.int .i64 wd,.int .i64 n] zd→OwnV PP y3 a d ((35::((List.range wd.toNat).reverse.map (Yr0 n.toNat)).take (j+1)).map byV)→(∀b,d.ownBlock=some b→G.heap.size≤b)→C5 [d,.int .i64 (((m-1:Nat):Int)-1)] a:=fun d a V W X Y=>
   N (m-1) _ _ (by omega) ⟨j+1,d,rfl,by omega,V,W,X,Y⟩
  refine zh (fun c=>?_) (fun c=>?_)
  ·refine step 49 _ (by rw[B];unfold Yr0;rw[if_pos c]) fun d a I a2 a3 a4=>?_
   rw[zy (by omega) (by omega)]
   exact fin d a I a2 a3 a4
  ·refine step 48 _ (by rw[B];unfold Yr0;rw[if_neg c]) fun d a I a2 a3 a4=>?_
   rw[zy (by omega) (by omega)]
   exact fin d a I a2 a3 a4
 ·rw[List.take_of_length_le (by simp;omega)] at v
  rw[Zm0 v (by simp)]
  exact hK Z _ p rfl
theorem joinX:Builder.Extra PP YtaekfnbnhjgboaaGreatDoor.joinL_ren where
 sizeBuilder:=by kernel_rfl
 liesBuilder:=by kernel_rfl
 t5:=by kernel_rfl
 a5:=fun w=>by kernel_rfl
 z5:=fun w=>by kernel_rfl
 v5:=fun w=>by kernel_rfl
 infoByte:=by kernel_rfl
 cellsByte:=by kernel_rfl
 sizeByte:=by kernel_rfl
 neB5:=by decide+kernel
def joinB:List (List UInt8)→List UInt8
 |[]=>[]
 |x::xs=>x++xs.flatMap fun y=>32::y
theorem Y70 (xs:List (List UInt8)):Lib.join xs [32]=joinB xs:=by
 unfold Lib.join joinB
 induction xs with
 |nil=>rfl
 |cons x xs a=>
  cases xs with
  |nil=>simp[List.intercalate,List.intersperse]
  |cons y ys=>
   simp only[List.intercalate,List.intersperse_cons_cons,List.flatten_cons] at a⊢
   rw[a]
   simp
theorem Join_spec {v:Value} {xs:List ByteArray} (h:OwnV PP yw w v (xs.map .string)) (n:2≤xs.length) (y:xs.length≤1000) (g:(joinB (xs.map (·.data.toList))).length≤1000000)
  (q:∀w' s,Ext w w'→s.data.toList=joinB (xs.map (·.data.toList))→K (.string s) w'):vcall PP KE #[v,.string ⟨#[32]⟩] w K:=by
 obtain⟨a,c,m,l,u,d⟩:=(OwnV.vals h).shape
 have k:(xs.map Value.string).map (fun x=>[x])≠[]:=by intro e;have:=congrArg List.length e;simp only[List.length_map,List.length_nil] at this;omega
 obtain⟨b,o,r,_,t,f⟩:=d k
 simp only[List.length_map] at m f l
 subst r;subst m
 refine⟨by kernel_rfl,?_⟩
 refine(Any.strings_Join_many YtaekfnbnhjgboaaGreatDoor.joinL joinX b o c xs ⟨#[32]⟩ w (fun j x g=>?_) t n (by omega) l (by rw[show(⟨#[32]⟩:ByteArray).data.toList=[32] from rfl,Y70];omega)).mono ?_
 ·have i:j<xs.length:=(List.getElem?_eq_some_iff.1 g).1
  have:=f j i 0 (.string x) (by
   rw[List.getD_eq_getElem?_getD,List.getElem?_map,List.getElem?_map,g];rfl)
  rw[xm,Nat.mul_one,Nat.add_zero] at this
  exact this
 ·rintro e w' ⟨rfl,p⟩
  refine q w' _ (jX0 p) ?_
  rw[show(⟨#[32]⟩:ByteArray).data.toList=[32] from rfl,Y70]
end Go.Proofs.YtaekfnbnhjgboaaGreatDoor
end
section
namespace Go.Proofs.YtaekfnbnhjgboaaGreatDoor
open Go Go.Vc Go.Proofs
variable {w:World} {K:Value→World→Prop} {F F' Fx Fy X Q:Nat→Prop}
theorem zV0 {s:ByteArray} {m:Value} (c:∀w',Ext w w'→K (.string s) w'):vcall PP yK #[.agg ⟨[.string s,m]⟩] w K:=by
 apply Uq
 refine zD fun b d e he f a=>?_
 simp(disch:=first|(simp only[push_cast];done)|omega) only[push_cast,a.ld0]
 exact c d he
theorem word_spec {o:Int} {v:Value} (n:KindR o v) (p:(1≤o∧o≤17)∨(22≤o∧o≤27)) (a:o≠24) (l:∀w' s,Ext w w'→s.data.toList=M.wordL o→K (.string s) w'):vinvoke PP v Qe #[] w K:=by
 obtain⟨s,m,r,rfl,i,j,k⟩:=n.word
 have hs:s.data.toList=M.wordL o:=by
  rcases k with h|h|h|h
  ·omega
  ·omega
  ·exact absurd h a
  ·exact h
 have fin:vcall PP yK #[.agg ⟨[.string s,.int .i64 m]⟩] w K:=zV0 fun w' he=>l w' s he hs
 unfold kTy
 by_cases c:24≤o
 ·obtain⟨f,rfl,_⟩:=j c
  repeat rw[if_neg (by omega)]
  exact y7 (Jf _ _ _) fin
 ·have:=i (by omega)
  subst this
  by_cases b:o≤2
  ·rw[if_pos b];exact y7 (Vn _ _) fin
  rw[if_neg b]
  by_cases d:o≤13
  ·rw[if_pos d];exact y7 (Ki _ _) fin
  rw[if_neg d]
  by_cases c3:o=14
  ·rw[if_pos c3];exact y7 (Kf _ _) fin
  rw[if_neg c3]
  by_cases e:o≤17
  ·rw[if_pos e];exact y7 (Kc _ _) fin
  rw[if_neg e,if_neg (by omega),if_neg (by omega)]
  by_cases g:o=22
  ·rw[if_pos g];exact y7 (K9 _ _) fin
  rw[if_neg g,if_pos (by omega)]
  exact y7 (Vq _ _) fin
theorem wordL_len (o:Int):(M.wordL o).length≤5:=by
 by_cases h:0≤o∧o<28
 ·have a:∀k:Fin 28,(M.wordL (k.1:Int)).length≤5:=by decide+kernel
  have:=a ⟨o.toNat,by omega⟩
  rwa[show((o.toNat:Nat):Int)=o by omega] at this
 ·unfold M.wordL
  repeat rw[if_neg (by omega)]
  decide
theorem X40 (wd n:Nat):(M.vecL wd n).length=wd+1:=by unfold M.vecL;simp
theorem kids_sum {f:M.Tm→Nat} {ks:List M.Tm} {g:M.Tm→List UInt8} (h:∀k,k∈ks→(g k).length+1≤f k):((ks.map g).flatMap (fun x=>32::x)).length≤(ks.map f).sum:=by
 induction ks with
 |nil=>simp
 |cons k ks b=>
  have:=h k List.mem_cons_self
  have:=b fun y a=>h y (List.mem_cons_of_mem _ a)
  simp only[List.map_cons,List.flatMap_cons,List.length_append,List.length_cons,List.sum_cons]
  omega
theorem text_len {ds:List M.Dcl} (i:M.declOk ds=true):∀t,M.sortM ds t≠ -1→(M.textL t).length+1≤20*M.sizeM t:=by
 refine M.Tm.ind fun t n hs=>?_
 obtain⟨h,v,u⟩:=M.right_op hs
 rw[M.sizeM_eq,M.textL_eq]
 have e:((t.ks.map M.textL).flatMap (fun x=>32::x)).length≤(t.ks.map fun k=>20*M.sizeM k).sum:=kids_sum fun k e=>n k e ((M.sort_parts hs).2.1 k e)
 have g:(t.ks.map fun k=>20*M.sizeM k).sum=20*(t.ks.map M.sizeM).sum:=by
  generalize t.ks=l
  induction l with
  |nil=>rfl
  |cons k l ihl=>simp only[List.map_cons,List.sum_cons,ihl];omega
 unfold M.textF
 by_cases c:t.op=20
 ·rw[if_pos c,X40]
  have:=M.vok_iff.1 (M.vec_ok hs c);omega
 rw[if_neg c]
 by_cases c:t.op=21
 ·rw[if_pos c]
  have j:=M.name_found hs c
  have m:(M.findD ds t.s).toNat<ds.length:=by have:=(M.findD_lt ds t.s).2;omega
  have d:=(M.decl_iff.1 i).2.1 _ m
  unfold M.dclOk at d
  rw[M.findD_get j] at d
  simp only[Bool.and_eq_true,decide_eq_true_eq,M.nameOk] at d
  obtain⟨⟨⟨⟨⟨⟨o,p⟩,q⟩,r⟩,_⟩,_⟩,_⟩:=d
  have:t.s.data.toList.length=t.s.size:=by rw[Array.length_toList];rfl
  omega
 rw[if_neg c]
 by_cases c:t.op=24
 ·rw[if_pos c];simp;omega
 rw[if_neg c]
 have:=wordL_len t.op
 have f:(if t.op=22 then(32:UInt8)::(M.digL t.a++32::M.digL t.b) else[]).length≤4:=by
  split
  ·simp[M.digL]
  ·simp
 simp only[List.length_cons,List.length_append,List.length_nil]
 omega
theorem Itoa_int {k:Int} (b:0≤k) (c:k<10) (a:∀s:ByteArray,s.data.toList=M.digL k→K (.string s) w):vcall PP jw #[.int .i64 k] w K:=by
 obtain⟨j,rfl⟩:∃j:Nat,k=j:=⟨k.toNat,by omega⟩
 exact Itoa_spec (by omega) a
theorem textOf_spec {ds:List M.Dcl} (hd:M.declOk ds=true) {kb:Nat}:∀(t:M.Tm),M.sortM ds t≠ -1→M.sizeM t≤1000→∀{w:World} {K:Value→World→Prop} {F:Nat→Prop} {tv:Value},KindsR w kb→TermR F w tv t→
  (∀w' s,Ext w w'→s.data.toList=M.textL t→K (.string s) w')→vcall PP ZL #[.map (some kb),tv] w K:=by
 refine M.Tm.ind fun t ih hs bg w K F tv hk ht n=>?_
 obtain⟨ad,hp,ho⟩:=M.right_op hs
 have hlen:=text_len hd t hs
 obtain⟨kv,rfl,af⟩:=ht
 apply qM0
 refine zD fun b1 O b6 f bi m=>?_
 have Z:=hk.ext f
 have H:=af.ext f
 rw[M.textL_eq] at n hlen
 unfold M.textF at n hlen
 simp(disch:=first|(simp only[push_cast];done)|omega) only[push_cast,m.ld0,m.ld1,m.ld2,m.ld3]
 refine zh (fun c=>?_) (fun c=>?_)
 ·rw[if_pos c] at n
  have hv:=M.vec_ok hs c
  have e:zH PP zd [(0,.int .i64 t.a),(1,.int .i64 t.b)] O=fun K=>K (kK t.a t.b) O:=by
   funext K;exact yh UF (us:=[[.int .i64 t.a],[.int .i64 t.b]]) rfl rfl
  try rw[e]
  exact VecText_spec hv fun w2 s B al=>n w2 s (f.trans B) al
 rw[if_neg c] at n hlen
 refine zh (fun c=>?_) (fun c=>?_)
 ·rw[if_pos c] at n
  exact n O _ f rfl
 rw[if_neg c] at n hlen
 refine zh (fun c=>?_) (fun c=>?_)
 ·rw[if_pos c] at n
  exact n O _ f rfl
 rw[if_neg c] at n hlen
 have aj:(1≤t.op∧t.op≤17)∨(22≤t.op∧t.op≤27):=by omega
 refine zY0 (ok:=false) Z (by rw[ad];omega) fun bn ag=>?_
 simp only[Bool.false_eq_true,if_false]
 refine word_spec ag aj (by omega) fun w2 ws B a7=>?_
 refine yg Xn (by kernel_rfl) Xk rfl rfl fun b3 w3 b8 X bj aa=>?_
 have Q:=B.trans X
 have s1:=f.size;have s2:=B.size
 have k:=m.ext Q
 have a3:OwnV PP yw w3 (.slice (some ⟨b3,0,none⟩) 1 1) ([ws].map .string):=Blk.own1 (P:=PP) (t:=yw) (cs:=[Value.string ws]) (by rw[Zk0];exact aa) (Nat.zero_le _) rfl rfl (by omega)
 have bf:1≤t.ks.length:=by
  have:=M.node_arity ho (by omega)
  omega
 have bd:t.ks.length≤3:=by
  have h:M.arity t.op≤3:=by
   unfold M.arity;repeat' split
   all_goals omega
  omega
 refine zV (fun u w'=> ∃(wv:Value) (wl:List ByteArray),u=[wv]∧Ext O w'∧OwnV PP yw w' wv (wl.map .string)∧(∀b,wv.ownBlock=some b→O.heap.size≤b)∧wl.length≤3∧wl.map (·.data.toList)=M.wordL t.op::(if t.op=22 then[M.digL t.a,M.digL t.b] else[])) ?_ ?_
 ·intro J hJ
  simp(disch:=first|(simp only[push_cast];done)|omega) only[push_cast,k.ld0,k.ld1,k.ld2]
  refine zh (fun z=>?_) (fun z=>?_)
  ·obtain⟨b4,bb,b2⟩:=M.cut_ab hd hs z
   refine zx fun w4 Y _=>?_
   have p:=k.ext Y
   simp(disch:=first|(simp only[push_cast];done)|omega) only[push_cast,p.ld1,p.ld2,true_and]
   refine Itoa_int (by omega) (by omega) fun sa an=>?_
   simp(disch:=first|(simp only[push_cast];done)|omega) only[push_cast,p.ld2,true_and,and_self]
   refine Itoa_int (by omega) (by omega) fun sb ao=>?_
   refine vbuildS_row1 (xs:=[.string sa,.string sb]) Xn xN0 Xk (fun x a9=>by
    simp only[List.mem_cons,List.not_mem_nil,or_false] at a9
    rcases a9 with rfl|rfl<;>rfl) (by simp) fun b5 w5 b9 q bk T=>?_
   have aq:Vals (· =b5) w5 (.slice (some ⟨b5,0,none⟩) 2 2) [.string sa,.string sb]:=T.sl1 rfl (by simp)
   have R:=Y.trans q
   refine(a3.ext R).app jg0 aq (fun u hu=>by
    simp only[List.mem_cons,List.not_mem_nil,or_false] at hu
    rcases hu with rfl|rfl<;>rfl) (by simp) (by simp) fun r6 w6 G am E=>?_
   have bp:=R.size;have z3:=X.size
   refine hJ _ _ ⟨r6,[ws,sa,sb],rfl,Ext.then (Q.trans R) am fun b A=>by have e:b3=b:=Option.some.inj A;omega,by simpa using G,fun b A=>(E b A).elim (fun h=>by have e:b3=b:=Option.some.inj h;omega) fun h=>by omega,by simp,?_⟩
   rw[if_pos z]
   simp[a7,an,ao]
  ·exact hJ _ _ ⟨_,[ws],rfl,Q,a3,fun b A=>by have e:b3=b:=Option.some.inj A;omega,by simp,by rw[if_neg z];simp[a7]⟩
 rintro _ _ w5 ⟨wv,wl,rfl,q,ak,ai,bh,a8⟩
 have T:=m.ext q
 have a0:=H.ext q
 simp(disch:=first|(simp only[push_cast];done)|omega) only[push_cast,T.ld4,a0.len]
 refine vloop_up t.ks.length (fun i u w'=> ∃(r:Value) (kl:List ByteArray),u=[r,.int .i64 i]∧Ext O w'∧OwnV PP yw w' r ((wl++kl).map .string)∧(∀b,r.ownBlock=some b→O.heap.size≤b)∧kl.map (·.data.toList)=(t.ks.take i).map M.textL) ⟨wv,[],rfl,q,by simpa using ak,ai,rfl⟩ ?_
 rintro i _ g w6 C hi ⟨r,kl,rfl,v,G,E,l⟩ hC
 have I:=H.ext v
 have aw:kl.length=i:=by
  have:=congrArg List.length l
  simp only[List.length_map,List.length_take] at this
  omega
 simp only[push_cast]
 refine zh (fun a=>?_) (fun a=>?_)
 ·have d:i<t.ks.length:=by omega
  simp(disch:=first|(simp only[push_cast];done)|omega) only[push_cast,I.iaddr]
  refine I.load zI d fun x hx=>?_
  obtain⟨cx,rfl,U⟩:=hx.cells
  refine zF yR fun b7 w7 ba D bl ab=>?_
  refine stTerm ab rfl (U.ext D) fun w8 ar bm ac=>?_
  have S:Ext w6 w8:=Ext.then D ar fun y hy=>by subst hy;omega
  have v8:=U.ext S
  simp(disch:=(simp only[push_cast];done)) only[push_cast,ac.ldAgg (t:=za) (by rw[xX U];exact zI)]
  have L:t.ks.getD i default∈t.ks:=M.getD_mem d _
  have ap:M.sizeM (t.ks.getD i default)≤1000:=by
   have h1:=M.szT_succ d
   have h2:=M.szT_mono (ks:=t.ks) (i:=i+1) (j:=t.ks.length) d (Nat.le_refl _)
   have h3:=M.szT_all t
   omega
  refine ih _ L ((M.sort_parts hs).2.1 _ L) ap (Z.ext (v.trans S)) v8.term fun w9 sk ae a6=>?_
  refine yg Xn (by kernel_rfl) Xk rfl rfl fun b0 w10 av W ay V=>?_
  have o:=S.trans (ae.trans W)
  have be:((wl++kl).map Value.string).length≤6:=by rw[List.length_map,List.length_append];omega
  refine(G.ext o).app1 jg0 V rfl (by omega) (by omega) fun au bo a2 a4 a1=>?_
  have z6:=v.size;have az:=o.size
  try simp(disch:=omega) only[push_cast,zy]
  refine hC d _ _ ⟨au,kl++[sk],by simp<;>exact⟨rfl,rfl⟩,Ext.then (v.trans o) a4 fun b A=>E b A,?_,fun b A=>(a1 b A).elim (E b) fun h=>by omega,?_⟩
  ·rw[←List.append_assoc,List.map_append];exact a2
  ·rw[M.take_add d default,List.map_append,List.map_append,l]
   simp[a6]
 ·have d:i=t.ks.length:=by omega
  subst d
  rw[List.take_length] at l
  have N:joinB ((wl++kl).map (·.data.toList))=M.wordL t.op++((if t.op=22 then(32:UInt8)::(M.digL t.a++32::M.digL t.b) else[])++(t.ks.map M.textL).flatMap fun x=>32::x):=by
   rw[List.map_append,a8,l]
   show joinB (M.wordL t.op::((if t.op=22 then[M.digL t.a,M.digL t.b] else[])++t.ks.map M.textL))=_
   rw[show ∀(x:List UInt8) xs,joinB (x::xs)=x++xs.flatMap (fun y=>32::y) from fun _ _=>rfl,List.flatMap_append]
   split<;>simp
  have ah:2≤(wl++kl).length:=by
   have h1:1≤wl.length:=by
    have:=congrArg List.length a8
    simp only[List.length_map,List.length_cons] at this
    omega
   rw[List.length_append];omega
  simp only[List.length_cons,List.length_append,List.length_nil] at hlen
  have bc:(joinB ((wl++kl).map (·.data.toList))).length≤20000:=by
   rw[N]
   simp only[List.length_append]
   omega
  refine Join_spec G ah (by rw[List.length_append];omega) (by omega) fun w7 sj D a5=>?_
  have ax:sj.size≤20000:=by
   have:sj.data.toList.length=sj.size:=by rw[Array.length_toList];rfl
   rw[a5] at this;omega
  have h1:(⟨#[40]⟩:ByteArray).size=1:=by decide+kernel
  have h3:(⟨#[41]⟩:ByteArray).size=1:=by decide+kernel
  have h2:((⟨#[40]⟩:ByteArray)++sj).size=1+sj.size:=by rw[ByteArray.size_append,h1]
  rw[zJ0 (by omega),zJ0 (by omega)]
  refine n w7 _ (f.trans (v.trans D)) ?_
  rw[ByteArray.data_append,ByteArray.data_append,Array.toList_append,Array.toList_append,a5,N]
  simp
end Go.Proofs.YtaekfnbnhjgboaaGreatDoor
end
section
namespace Go.M
theorem node_right {ds:List Dcl} {t:Tm} (r:declOk ds=true) (hs:sortM ds t≠ -1) {L:Nat→Nat} (f:∀i,i<t.ks.length→L i=lenS (sortM ds (kid t i))):
  (1≤t.op→t.op≤2→t.ks.length=1∧1≤L 0∧L 0≤4)∧(3≤t.op→t.op≤13→t.ks.length=2∧L 0=L 1∧1≤L 0∧L 0≤4)∧(t.op=14→t.ks.length=2∧1≤L 0∧1≤L 1∧L 0+L 1≤4)∧
  (15≤t.op→t.op≤17→t.ks.length=2∧L 0=L 1∧1≤L 0∧L 0≤4)∧(t.op=22→t.ks.length=1∧0≤t.b∧t.b≤t.a∧t.a<L 0∧L 0≤4)∧(t.op=23→t.ks.length=3∧L 0=1∧L 1=L 2∧1≤L 1∧L 1≤4)∧
  (25≤t.op→(t.ks.length=if t.op=25 then 1 else 2)∧∀i,i<t.ks.length→L i=1):=by
 obtain⟨n,s,m⟩:=sort_parts hs
 simp only[formed,Bool.and_eq_true,decide_eq_true_eq] at n
 obtain⟨d,u⟩:=n
 have p:=arity_ops (o:=t.op) (by omega)
 have g:∀i,i<t.ks.length→(t.ks.map (sortM ds)).getD i 0=sortM ds (kid t i):=fun i hi=>getD_map _ hi _ _
 have k:∀i,-1≤sortM ds (kid t i)∧sortM ds (kid t i)≤4:=fun i=>sort_range r _
 rw[m] at hs
 unfold sortK at hs
 unfold arity at d
 have w:=k 0;have y:=k 1;have z:=k 2
 refine⟨fun a b=>?_,fun a b=>?_,fun a=>?_,fun a b=>?_,fun a=>?_,fun a=>?_,fun a=>?_⟩
 ·have j:t.ks.length=1:=by rw[if_neg (by omega),if_pos (by omega)] at d;omega
  rw[if_neg (by omega),if_neg (by omega),if_neg (by omega),if_neg (by omega),if_neg (by omega),if_pos (by omega),g 0 (by omega)] at hs
  have e:=f 0 (by omega)
  by_cases c:0<sortM ds (kid t 0)
  ·unfold lenS at e;omega
  ·rw[if_neg c] at hs;exact absurd rfl hs
 ·have j:t.ks.length=2:=by rw[if_neg (by omega),if_neg (by omega),if_neg (by omega),if_neg (by omega),if_pos (by omega)] at d;omega
  rw[if_neg (by omega),if_neg (by omega),if_neg (by omega),if_neg (by omega),if_neg (by omega),if_neg (by omega),if_neg (by omega),if_neg (by omega),g 0 (by omega),g 1 (by omega)] at hs
  have e:=f 0 (by omega);have h:=f 1 (by omega)
  by_cases c:0<sortM ds (kid t 0)∧sortM ds (kid t 0)=sortM ds (kid t 1)
  ·unfold lenS at e h;omega
  ·rw[if_neg c] at hs;exact absurd rfl hs
 ·have j:t.ks.length=2:=by rw[if_neg (by omega),if_neg (by omega),if_neg (by omega),if_neg (by omega),if_pos (by omega)] at d;omega
  rw[if_neg (by omega),if_neg (by omega),if_neg (by omega),if_neg (by omega),if_neg (by omega),if_neg (by omega),if_pos (by omega),g 0 (by omega),g 1 (by omega)] at hs
  have e:=f 0 (by omega);have h:=f 1 (by omega)
  by_cases c:0<sortM ds (kid t 0)∧0<sortM ds (kid t 1)∧sortM ds (kid t 0)+sortM ds (kid t 1)≤4
  ·unfold lenS at e h;omega
  ·rw[if_neg c] at hs;exact absurd rfl hs
 ·have j:t.ks.length=2:=by rw[if_neg (by omega),if_neg (by omega),if_neg (by omega),if_neg (by omega),if_pos (by omega)] at d;omega
  rw[if_neg (by omega),if_neg (by omega),if_neg (by omega),if_neg (by omega),if_neg (by omega),if_neg (by omega),if_neg (by omega),if_pos (by omega),g 0 (by omega),g 1 (by omega)] at hs
  have e:=f 0 (by omega);have h:=f 1 (by omega)
  by_cases c:0<sortM ds (kid t 0)∧sortM ds (kid t 0)=sortM ds (kid t 1)
  ·unfold lenS at e h;omega
  ·rw[if_neg c] at hs;exact absurd rfl hs
 ·have j:t.ks.length=1:=by rw[if_neg (by omega),if_pos (by omega)] at d;omega
  rw[if_neg (by omega),if_neg (by omega),if_neg (by omega),if_neg (by omega),if_pos (by omega),g 0 (by omega)] at hs
  have e:=f 0 (by omega)
  by_cases c:0≤t.b∧t.b≤t.a∧t.a<sortM ds (kid t 0)
  ·unfold lenS at e;omega
  ·rw[if_neg c] at hs;exact absurd rfl hs
 ·have j:t.ks.length=3:=by rw[if_neg (by omega),if_neg (by omega),if_pos (by omega)] at d;omega
  rw[if_neg (by omega),if_neg (by omega),if_neg (by omega),if_pos (by omega),g 0 (by omega),g 1 (by omega),g 2 (by omega)] at hs
  have e:=f 0 (by omega);have h:=f 1 (by omega);have q:=f 2 (by omega)
  by_cases c:sortM ds (kid t 0)=0∧sortM ds (kid t 1)=sortM ds (kid t 2)
  ·unfold lenS at e h q;omega
  ·rw[if_neg c] at hs;exact absurd rfl hs
 ·have j:t.ks.length=if t.op=25 then 1 else 2:=by
   by_cases c:t.op=25
   ·rw[if_neg (by omega),if_pos (by omega)] at d;rw[if_pos c];omega
   ·rw[if_neg (by omega),if_neg (by omega),if_neg (by omega),if_pos (by omega)] at d;rw[if_neg c];omega
  rw[if_neg (by omega),if_neg (by omega),if_pos (by omega)] at hs
  by_cases c:(t.ks.map (sortM ds)).any (fun x=>decide (x≠0))=true
  ·rw[if_pos c] at hs;exact absurd rfl hs
  ·refine⟨j,fun i hi=>?_⟩
   have e:=f i hi
   have v:sortM ds (kid t i)=0:=Classical.byContradiction fun l=>c (List.any_eq_true.2 ⟨sortM ds (kid t i),List.mem_map.2 ⟨_,getD_mem hi default,rfl⟩,by simpa using l⟩)
   rw[v] at e
   exact e
end Go.M
end
section
namespace Go.Proofs.YtaekfnbnhjgboaaGreatDoor
open Go Go.Vc Go.Proofs
variable {w:World} {K:Value→World→Prop} {F F' Fx Fy X Fk Q:Nat→Prop} {n bc mb bb:Nat} {gs:M.Gs} {v:Value} {ar ab:Addr} {st:Option M.Gs}
theorem Wu {a:TypeId} {v:Value} (b:concB PP a=true) {xT:TypeId}:Zo PP (.iface a v) xT a true w K=K (.tuple #[v,.bool true]) w:=by
 refine yC ?_
 unfold concB at b
 cases hu:PP.underlying a with
 |none=>rw[hu] at b;cases b
 |some d=>
  rw[hu] at b
  cases d<;>first|(cases b;done)|simp[Instr.typeAssert,run_underlying hu]
theorem qK {a t:TypeId} {v z:Value} (b:concB PP a=true) (e:yP PP a z) (c:t≠a) {xT:TypeId}:Zo PP (.iface t v) xT a true w K=K (.tuple #[z,.bool false]) w:=by
 refine yC ?_
 unfold concB at b
 cases hu:PP.underlying a with
 |none=>rw[hu] at b;cases b
 |some d=>
  rw[hu] at b
  cases d<;>first|(cases b;done)|simp[Instr.typeAssert,run_underlying hu,c,JU e,Result.andThen]
structure KidsR (Fk X F:Nat→Prop) (w:World) (kv:Value) (rs:List (List Int)):Prop where
 at_:∃vs:List Value,Vals Fk w kv vs∧vs.length=rs.length∧∀i,i<rs.length→Ints (Off X F) w (vs.getD i undef) (rs.getD i [])
 sm:∀r,r∈rs→SmL r
theorem KidsR.ext {w':World} {kv:Value} {rs:List (List Int)} (h:KidsR Fk X F w kv rs) (he:Ext w w'):KidsR Fk X F w' kv rs:=by
 obtain⟨vs,a,b,c⟩:=h.at_
 exact⟨⟨vs,a.ext he,b,fun i hi=>(c i hi).ext he⟩,h.sm⟩
theorem KidsR.sml {kv:Value} {rs:List (List Int)} (h:KidsR Fk X F w kv rs) {i:Nat} (hi:i<rs.length):SmL (rs.getD i []):=h.sm _ (M.getD_mem hi [])
theorem KidsR.vals {kv:Value} {rs:List (List Int)} (h:KidsR Fk X F w kv rs):∃vs:List Value,(∀(w':World),Ext w w'→∀i,i<rs.length→∀K:Value→World→Prop,zp PP zB kv (.int .i64 i) w' K=K (.pointer (some (eaddr kv 1 i))) w'∧zf PP zc (.pointer (some (eaddr kv 1 i))) w' K=K (vs.getD i undef) w')∧
  ∀i,i<rs.length→Ints (Off X F) w (vs.getD i undef) (rs.getD i []):=by
 obtain⟨vs,b,d,c⟩:=h.at_
 refine⟨vs,fun w' he i hi K=>?_,c⟩
 have a:=b.ext he
 refine⟨?_,a.load yJ0 (by omega)⟩
 rw[a.iaddr yg0 (by omega) (by omega),Int.toNat_natCast]
theorem stKind {b:Nat} {x y:Value} {t0 tk:TypeId} {s:ByteArray} {m:Int} (h:Blk w b [x,y] t0) (e:aggB PP tk 2=true) (d:∀w',Same (· =b) w w'→K undef w'):zt PP tk (.pointer (some ⟨b,0,none⟩)) (.agg ⟨[.string s,.int .i64 m]⟩) w K:=
 h.stAgg rfl e (by intro v a;simp only[List.mem_cons,List.not_mem_nil,or_false] at a;rcases a with rfl|rfl<;>rfl) fun w' c _ _=>d w' c
theorem fixB_at {wd nn:Int} {j:Nat} (a:(j:Int)<wd):(M.fixB wd nn).getD j 0=if nn.toNat/2^j%2=1 then 1 else-1:=by
 unfold M.fixB
 rw[List.getD_eq_getElem?_getD,List.getElem?_map,List.getElem?_range (by omega)];rfl
theorem fix_step {wd nn:Int} {j:Nat} (a:(j:Int)<wd):((M.fixB wd nn).take j++List.replicate (wd.toNat-j) (-1)).set j (if nn.toNat/2^j%2=1 then 1 else-1)=(M.fixB wd nn).take (j+1)++List.replicate (wd.toNat-(j+1)) (-1):=by
 have b:((M.fixB wd nn).take j).length=j:=by rw[List.length_take,M.fixB_len];omega
 rw[List.set_append_right _ _ (by omega),b,Nat.sub_self,show wd.toNat-j=(wd.toNat-(j+1))+1 by omega,List.replicate_succ,List.set_cons_zero,M.take_add (by rw[M.fixB_len];omega) 0,fixB_at a,List.append_assoc]
 rfl
theorem SmL.fix {wd nn:Int}:SmL (M.fixB wd nn):=fun x a=>by
 unfold M.fixB at a
 obtain⟨j,_,rfl⟩:=List.mem_map.1 a
 split<;>decide
theorem SmL.name {ds:List M.Dcl} {k:Nat} (a:M.declOk ds=true) (b:k<ds.length):SmL (M.nameB ds k):=fun x c=>by
 have:=M.name_has (m:=9) a b (by have:=(M.decl_iff.1 a).2.2;omega) x c
 obtain⟨d,e,f⟩:=this
 unfold Sm;omega
def QM0 (n bb:Nat) (ar ab:Addr) (X F:Nat→Prop) (w:World) (gs:M.Gs) (ds:List M.Dcl) (t:M.Tm) (rs:List (List Int)) (K:Value→World→Prop):Prop:=
 ∀w' F' st' r zs,BdR n bb ar ab X F' w' st'→Mv F w F' w'→Ints (Off X F') w' r zs→SmL zs→M.Bd.Out n (M.nodeB ds t rs) (some gs) st' zs→K r w'
section
variable {bl kb m:Nat} {dv tv kv:Value} {ds:List M.Dcl} {t:M.Tm} {rs:List (List Int)} {G Gt:Nat→Prop}
theorem root_spec (hb:BdR n bb ar ab X F w (some gs)) (hd:M.declOk ds=true) (hs:M.sortM ds t≠ -1) (hB:Blk w bl [.pointer (some ⟨bb,0,none⟩),dv,.map (some kb),.map (some m)] zP) (bv:DclsR G w dv ds) (c0:KindsR w kb) (ht:TermR Gt w tv t)
  (o:KidsR Fk X F w kv rs) (cr:rs.length=t.ks.length) (hlen:∀i,i<t.ks.length→(rs.getD i []).length=M.lenS (M.sortM ds (M.kid t i)))
  (hK:QM0 n bb ar ab X F w gs ds t rs K):vcall PP jN #[.pointer (some ⟨bl,0,none⟩),tv,kv] w K:=by
 obtain⟨tk,rfl,cq⟩:=ht
 apply VL
 obtain⟨bs,hp,cf⟩:=M.right_op hs
 obtain⟨q1,q2,q3,q4,q5,q6,q7⟩:=M.node_right hd hs (L:=fun i=>(rs.getD i []).length) hlen
 refine zD fun b1 w1 ck bw ct bo=>?_
 refine zx fun w2 ba _=>?_
 have e2:=bw.trans ba
 have Z:=hB.ext e2
 have U:=bo.ext ba
 have z:=hb.ext e2
 have b8:=bv.ext e2
 simp(disch:=first|(simp only[push_cast];done)|omega) only[push_cast,Z.ld2,U.ld0,true_and]
 refine zY0 (ok:=false) (c0.ext e2) (by rw[bs];omega) fun cu c1=>⟨rfl,?_⟩
 obtain⟨s,mm,r,bd,a7,c9,_⟩:=c1.word
 simp only[Bool.false_eq_true,if_false]
 rw[bd]
 have q:∀w3,Ext w2 w3→QM0 n bb ar ab X F w3 gs ds t rs K:=fun w3 I w' F' st' r' zs h1 h2 h3 h4 h5=>hK w' F' st' r' zs h1 ((Mv.refl.ext (e2.trans I)).trans h2) h3 h4 h5
 obtain⟨vs,T,S⟩:=(o.ext e2).vals
 unfold QM0 M.nodeB at q
 by_cases ae:t.op=20
 ·have D:kTy t.op=zT:=by rw[ae];rfl
  have:=a7 (by omega)
  subst this
  rw[D,Wu yX]
  simp only[push_cast]
  rw[if_pos ae] at q
  refine zF xh fun b3 w3 a9 I ac N=>?_
  refine stKind N yK0 fun w4 O=>?_
  have p:Ext w2 w4:=Ext.then I O fun y hy=>by subst hy;omega
  have ah:=U.ext p
  have hv:=M.vec_ok hs ae
  obtain⟨v1,v2,v3,v4⟩:=M.vok_iff.1 hv
  have cg:(2:Int)^t.a.toNat≤16:=by
   have:=pow4 (k:=t.a.toNat) (by omega) (by omega)
   have e:=xF0 t.a.toNat
   omega
  simp(disch:=first|(simp only[push_cast];done)|omega) only[push_cast,ah.ld1]
  rw[show t.a=((t.a.toNat:Nat):Int) by omega]
  refine offs_spec (by omega) fun l ov J ao an=>?_
  have d:=p.trans J
  have ax:∀(w':World) (K:Value→World→Prop),vbi PP .len [zc] zb [ov] w' K=K (.int .i64 t.a.toNat) w':=fun w' K=>by rw[ao.ints.len xC,M.offsL_len]
  rw[ax]
  refine vloop_up t.a.toNat (fun j u w'=>u=[.int .i64 j]∧Ext w2 w'∧OwnI PP zc w' ov ((M.fixB t.a t.b).take j++List.replicate (t.a.toNat-j) (-1))) ⟨rfl,d,ao⟩ ?_
  rintro j _ g w6 C hj ⟨rfl,V,E⟩ hC
  have cw:=d.size;have z24:=p.size
  simp only[push_cast]
  refine zh (fun c4=>?_) (fun cn=>?_)
  ·have br:=U.ext V
   simp(disch:=first|(simp only[push_cast];done)|omega) only[push_cast,br.ld2]
   rw[qS j60 (show Zv0 PP yc .u64 by unfold Zv0;kernel_rfl),show t.b=((t.b.toNat:Nat):Int) by omega,wrapU (by omega)]
   refine bit_spec (by omega) (by omega) ?_
   have be:((M.fixB t.a t.b).take j++List.replicate (t.a.toNat-j) (-1)).length=t.a.toNat:=by
    rw[List.length_append,List.length_take,M.fixB_len,List.length_replicate];omega
   refine zh (fun c=>?_) (fun c=>?_)
   ·rw[E.ints.iaddr xg (by omega) (by rw[be];omega),Int.toNat_natCast]
    refine E.st yo (by rw[be];omega) fun w7 bf ca cd=>?_
    have aa:=fix_step (wd:=t.a) (nn:=t.b) (j:=j) (by omega)
    rw[if_pos c] at aa
    rw[aa] at bf
    try simp(disch:=omega) only[push_cast,zy]
    exact hC (by omega) _ _ ⟨by simp,Ext.then V ca fun b hb=>by have:=an b hb;omega,bf⟩
   ·have aa:=fix_step (wd:=t.a) (nn:=t.b) (j:=j) (by omega)
    rw[if_neg c] at aa
    have az:((M.fixB t.a t.b).take j++List.replicate (t.a.toNat-j) (-1)).set j (-1)=(M.fixB t.a t.b).take j++List.replicate (t.a.toNat-j) (-1):=by
     have hl:((M.fixB t.a t.b).take j).length=j:=by rw[List.length_take,M.fixB_len];omega
     rw[List.set_append_right _ _ (by omega),hl,Nat.sub_self,show t.a.toNat-j=(t.a.toNat-(j+1))+1 by omega,List.replicate_succ,List.set_cons_zero]
    rw[az] at aa
    rw[aa] at E
    try simp(disch:=omega) only[push_cast,zy]
    exact hC (by omega) _ _ ⟨by simp,V,E⟩
  ·have bz:j=t.a.toNat:=by omega
   rw[bz,Nat.sub_self,List.replicate_zero,List.append_nil,List.take_of_length_le (by rw[M.fixB_len];exact Nat.le_refl _)] at E
   exact q w6 V w6 F (some gs) ov _ (z.ext V) Mv.refl (NewI.of (w:=w2) E (fun b hb=>by have:=an b hb;omega) z.lt).ints SmL.fix (M.Bd.Out.ret _ _)
 rw[if_neg ae] at q
 by_cases af:t.op=21
 ·have D:kTy t.op=zO:=by rw[af];rfl
  have:=a7 (by omega)
  subst this
  rw[D]
  simp only[qK yX xh (show zO≠zT by decide),Wu yY,push_cast]
  rw[if_pos af] at q
  refine zF xo fun b3 w3 a9 I ac N=>?_
  refine stKind N y40 fun w4 O=>?_
  have p:Ext w2 w4:=Ext.then I O fun y hy=>by subst hy;omega
  have ah:=U.ext p
  have hf:=M.name_found hs af
  have c4:=M.findD_lt ds t.s
  simp(disch:=first|(simp only[push_cast];done)|omega) only[push_cast,ah.ld3]
  refine inputs_spec (Z.ext p) (b8.ext p) hd hf fun l r5 J ao an=>?_
  have z24:=p.size
  exact q l (p.trans J) l F (some gs) r5 _ (z.ext (p.trans J)) Mv.refl (NewI.of (w:=w2) ao (fun b hb=>by have:=an b hb;omega) z.lt).ints (SmL.name hd (by omega)) (M.Bd.Out.ret _ _)
 rw[if_neg af] at q
 by_cases bn:24≤t.op
 ·have D:kTy t.op=zE:=by
   unfold kTy
   repeat rw[if_neg (by omega)]
  obtain⟨f,rfl,c8⟩:=c9 bn
  rw[D]
  simp only[qK yX xh (show zE≠zT by decide),qK yY xo (show zE≠zO by decide),qK xN qa (show zE≠zR by decide),qK qn qG (show zE≠zY by decide),qK qI jt (show zE≠zQ by decide),qK j7 ZT (show zE≠zU by decide),qK j6 ZS (show zE≠zX by decide),qK Ye QH (show zE≠zL by decide),Wu Qv,push_cast]
  refine zF zp0 fun b3 w3 a9 I ac N=>?_
  refine N.stAgg (cs':=[.string s,.int .i64 mm,f]) rfl Jn (by intro v hv;simp only[List.mem_cons,List.not_mem_nil,or_false] at hv;rcases hv with rfl|rfl|rfl<;>first|rfl|exact c8) fun w4 O _ bp=>?_
  have p:Ext w2 w4:=Ext.then I O fun y hy=>by subst hy;omega
  have ah:=U.ext p
  rw[bp.ldAgg (t:=zE) Jn,ah.ldAgg (t:=za) zI]
  apply Kz
  refine zD fun b6 w6 cl V ad ch=>?_
  refine zD fun b7 w7 cm bx cd bq=>?_
  have W:Ext w2 w7:=p.trans (V.trans bx)
  simp(disch:=first|(simp only[push_cast];done)|omega) only[push_cast,bq.ld0]
  have fin:∀(Q:World) (F8:Nat→Prop) (ap:Option M.Gs) (x:Int),BdR n bb ar ab X F8 Q ap→Mv F w2 F8 Q→Sm x→M.Bd.Out n (M.nodeB ds t rs) (some gs) ap [x]→vbuildS PP zc 1 [(0,.int .i64 x)] Q K:=fun Q F8 ap x h8 c5 cc c7=>by
   refine yg yU yo yB rfl rfl fun b9 w9 bt ai ce au=>?_
   have a6:OwnI PP zc w9 (.slice (some ⟨b9,0,none⟩) 1 1) [x]:=Blk.own1 (P:=PP) (t:=zc) (cs:=[Value.int .i64 x]) (by rw[xl];exact au) (Nat.zero_le _) rfl rfl (by omega)
   exact hK w9 F8 ap _ [x] (h8.ext ai) (((Mv.refl.ext e2).trans c5).ext ai) (NewI.of (w:=Q) a6 (fun b hb=>by have e:b9=b:=Option.some.inj hb;omega) h8.lt).ints (SmL.one cc) c7
  unfold M.nodeB at fin
  rw[if_neg ae,if_neg af] at fin
  by_cases c:t.op=24
  ·rw[if_pos c] at fin
   rw[decide_eq_false (by omega),decide_eq_false (by omega),decide_eq_false (by omega)]
   simp only[push_cast]
   exact fin w7 F (some gs) 1 (z.ext W) (Mv.refl.ext W) (by decide) (M.Bd.Out.ret _ _)
  rw[if_neg c] at fin
  obtain⟨aw,b5⟩:=q7 (by omega)
  have co:1≤t.ks.length:=by split at aw<;>omega
  have ci:=b5 0 (by omega)
  by_cases ag:t.op=25
  ·rw[if_pos ag] at fin
   rw[decide_eq_true ag]
   simp only[push_cast]
   have A0:∀K:Value→World→Prop,zp PP zB kv (.int .i64 0) w7 K=K (.pointer (some (eaddr kv 1 0))) w7:=fun K=>(T w7 W 0 (by omega) K).1
   have B0:∀K:Value→World→Prop,zf PP zc (.pointer (some (eaddr kv 1 0))) w7 K=K (vs.getD 0 undef) w7:=fun K=>(T w7 W 0 (by omega) K).2
   have R:Ints (Off X F) w7 (vs.getD 0 undef) (rs.getD 0 []):=(S 0 (by omega)).ext W
   have S0:=(o.sml (i:=0) (by omega)).get (i:=0) (by omega)
   unfold Sm at S0
   simp(disch:=first|(simp only[push_cast];done)|omega) only[A0,B0,R.iaddr,R.load,push_cast,zy,Int.zero_sub]
   exact fin w7 F (some gs) _ (z.ext W) (Mv.refl.ext W) (by unfold Sm;rw[Int.natAbs_neg];exact S0) (M.Bd.Out.ret _ _)
  rw[if_neg ag] at fin
  rw[decide_eq_false ag]
  have cp:t.ks.length=2:=by rw[if_neg ag] at aw;exact aw
  have cj:=b5 1 (by omega)
  simp only[push_cast]
  have two:∀(Q:World),Ext w2 Q→(∀K:Value→World→Prop,zp PP zB kv (.int .i64 0) Q K=K (.pointer (some (eaddr kv 1 0))) Q)∧(∀K:Value→World→Prop,zf PP zc (.pointer (some (eaddr kv 1 0))) Q K=K (vs.getD 0 undef) Q)∧(∀K:Value→World→Prop,zp PP zB kv (.int .i64 1) Q K=K (.pointer (some (eaddr kv 1 1))) Q)∧(∀K:Value→World→Prop,zf PP zc (.pointer (some (eaddr kv 1 1))) Q K=K (vs.getD 1 undef) Q)∧Ints (Off X F) Q (vs.getD 0 undef) (rs.getD 0 [])∧Ints (Off X F) Q (vs.getD 1 undef) (rs.getD 1 []):=fun Q e8=>
   ⟨fun K=>(T Q e8 0 (by omega) K).1,fun K=>(T Q e8 0 (by omega) K).2,fun K=>(T Q e8 1 (by omega) K).1,fun K=>(T Q e8 1 (by omega) K).2,(S 0 (by omega)).ext e8,(S 1 (by omega)).ext e8⟩
  have S0:=(o.sml (i:=0) (by omega)).get (i:=0) (by omega)
  have S1:=(o.sml (i:=1) (by omega)).get (i:=0) (by omega)
  by_cases am:t.op=26
  ·rw[if_pos am] at fin
   rw[decide_eq_true am]
   simp only[push_cast]
   refine zx fun Q av _=>?_
   have Y:=W.trans av
   have aq:=Z.ext Y
   obtain⟨A0,B0,A1,B1,R,V1⟩:=two Q Y
   simp(disch:=first|(simp only[push_cast];done)|omega) only[aq.ld0,A0,B0,A1,B1,R.iaddr,R.load,V1.iaddr,V1.load,push_cast,true_and]
   refine kB (z.ext Y) S0 S1 fun w9 F9 b2 x h9 ay b0 a6=>fin w9 F9 b2 x h9 ((Mv.refl.ext Y).trans ay) b0 ?_
   exact qr a6 (M.Bd.Out.ret _ _)
  rw[if_neg am,if_pos (by omega)] at fin
  rw[decide_eq_false am,decide_eq_true (show t.op=27 by omega)]
  simp only[push_cast]
  refine zx fun Q av _=>?_
  have Y:=W.trans av
  have aq:=Z.ext Y
  obtain⟨A0,B0,A1,B1,R,V1⟩:=two Q Y
  simp(disch:=first|(simp only[push_cast];done)|omega) only[aq.ld0,A0,B0,A1,B1,R.iaddr,R.load,V1.iaddr,V1.load,push_cast,true_and]
  exact bor_spec (z.ext Y) S0 S1 fun w9 F9 b2 x h9 ay b0 a6=>fin w9 F9 b2 x h9 ((Mv.refl.ext Y).trans ay) b0 (M.Bd.Out.map _ a6)
 rw[if_neg (by omega),if_neg (by omega),if_neg (by omega),if_neg (by omega)] at q
 by_cases al:t.op=23
 ·have D:kTy t.op=zY:=by rw[al];rfl
  have:=a7 (by omega)
  subst this
  obtain⟨k1,l0,l1,l2,l3⟩:=q6 al
  rw[D]
  simp only[qK yX xh (show zY≠zT by decide),qK yY xo (show zY≠zO by decide),qK xN qa (show zY≠zR by decide),Wu qn,push_cast]
  rw[if_pos al] at q
  refine zF qG fun b3 w3 a9 I ac N=>?_
  refine stKind N qf0 fun w4 O=>?_
  have p:Ext w2 w4:=Ext.then I O fun y hy=>by subst hy;omega
  refine zx fun l J _=>?_
  have d:=p.trans J
  have B:=U.ext d
  have a0:=Z.ext d
  have H:=z.ext d
  have A0:∀K:Value→World→Prop,zp PP zB kv (.int .i64 0) l K=K (.pointer (some (eaddr kv 1 0))) l:=fun K=>(T l d 0 (by omega) K).1
  have B0:∀K:Value→World→Prop,zf PP zc (.pointer (some (eaddr kv 1 0))) l K=K (vs.getD 0 undef) l:=fun K=>(T l d 0 (by omega) K).2
  have R:Ints (Off X F) l (vs.getD 0 undef) (rs.getD 0 []):=(S 0 (by omega)).ext d
  have S0:=o.sml (i:=0) (by omega)
  have A1:∀K:Value→World→Prop,zp PP zB kv (.int .i64 1) l K=K (.pointer (some (eaddr kv 1 1))) l:=fun K=>(T l d 1 (by omega) K).1
  have B1:∀K:Value→World→Prop,zf PP zc (.pointer (some (eaddr kv 1 1))) l K=K (vs.getD 1 undef) l:=fun K=>(T l d 1 (by omega) K).2
  have V1:Ints (Off X F) l (vs.getD 1 undef) (rs.getD 1 []):=(S 1 (by omega)).ext d
  have S1:=o.sml (i:=1) (by omega)
  have A2:∀K:Value→World→Prop,zp PP zB kv (.int .i64 2) l K=K (.pointer (some (eaddr kv 1 2))) l:=fun K=>(T l d 2 (by omega) K).1
  have B2:∀K:Value→World→Prop,zf PP zc (.pointer (some (eaddr kv 1 2))) l K=K (vs.getD 2 undef) l:=fun K=>(T l d 2 (by omega) K).2
  have V2:Ints (Off X F) l (vs.getD 2 undef) (rs.getD 2 []):=(S 2 (by omega)).ext d
  have S2:=o.sml (i:=2) (by omega)
  simp(disch:=first|(simp only[push_cast];done)|omega) only[a0.ld0,B.ld0,B.ld1,B.ld2,A0,B0,R.iaddr,R.load,A1,B1,V1.iaddr,V1.load,A2,B2,V2.iaddr,V2.load,push_cast,zy,true_and]
  exact choose_spec H ⟨gs,rfl⟩ V1 V2 l1 (by omega) S1 S2 (S0.get (by omega)) fun w6 F6 a8 r6 zs h6 a5 aj ad E=>q l d w6 F6 a8 r6 zs h6 a5 aj ad E
 rw[if_neg al] at q
 by_cases ak:t.op=22
 ·have D:kTy t.op=zR:=by rw[ak];rfl
  have:=a7 (by omega)
  subst this
  obtain⟨k1,l0,l1,l2,l3⟩:=q5 ak
  rw[D]
  simp only[qK yX xh (show zR≠zT by decide),qK yY xo (show zR≠zO by decide),Wu xN,push_cast]
  rw[if_pos ak] at q
  refine zF qa fun b3 w3 a9 I ac N=>?_
  refine stKind N yL0 fun w4 O=>?_
  have p:Ext w2 w4:=Ext.then I O fun y hy=>by subst hy;omega
  refine zx fun l J _=>?_
  have d:=p.trans J
  have B:=U.ext d
  have a0:=Z.ext d
  have H:=z.ext d
  have A0:∀K:Value→World→Prop,zp PP zB kv (.int .i64 0) l K=K (.pointer (some (eaddr kv 1 0))) l:=fun K=>(T l d 0 (by omega) K).1
  have B0:∀K:Value→World→Prop,zf PP zc (.pointer (some (eaddr kv 1 0))) l K=K (vs.getD 0 undef) l:=fun K=>(T l d 0 (by omega) K).2
  have R:Ints (Off X F) l (vs.getD 0 undef) (rs.getD 0 []):=(S 0 (by omega)).ext d
  have S0:=o.sml (i:=0) (by omega)
  simp(disch:=first|(simp only[push_cast];done)|omega) only[a0.ld0,B.ld0,B.ld1,B.ld2,A0,B0,R.iaddr,R.load,push_cast,zy,true_and]
  rw[show t.b=((t.b.toNat:Nat):Int) by omega,show t.a+1=((t.a.toNat+1:Nat):Int) by omega]
  refine Ints.cutLH R xg (by omega) (by omega) fun cv bu=>⟨rfl,?_⟩
  refine Clone_signal bu (by rw[List.length_take,List.length_drop];omega) fun w6 r6 V E c6=>?_
  refine q l d w6 F (some gs) r6 _ (H.ext V) (Mv.refl.ext V) (NewI.of (w:=l) E c6 H.lt).ints (fun x hx=>S0 x (List.mem_of_mem_drop (List.mem_of_mem_take hx))) ?_
  rw[show t.a.toNat+1-t.b.toNat=(t.a-t.b+1).toNat by omega]
  exact M.Bd.Out.ret _ _
 rw[if_neg ak] at q
 by_cases c2:t.op≤2
 ·have D:kTy t.op=zQ:=by unfold kTy;rw[if_pos c2]
  have:=a7 (by omega)
  subst this
  obtain⟨k1,l0,l1⟩:=q1 (by omega) c2
  rw[D]
  simp only[qK yX xh (show zQ≠zT by decide),qK yY xo (show zQ≠zO by decide),qK xN qa (show zQ≠zR by decide),qK qn qG (show zQ≠zY by decide),Wu qI,push_cast]
  rw[if_pos c2] at q
  refine zF jt fun b3 w3 a9 I ac N=>?_
  refine stKind N qe0 fun w4 O=>?_
  have p:Ext w2 w4:=Ext.then I O fun y hy=>by subst hy;omega
  refine zx fun l J _=>?_
  have d:=p.trans J
  have B:=U.ext d
  have a0:=Z.ext d
  have H:=z.ext d
  have A0:∀K:Value→World→Prop,zp PP zB kv (.int .i64 0) l K=K (.pointer (some (eaddr kv 1 0))) l:=fun K=>(T l d 0 (by omega) K).1
  have B0:∀K:Value→World→Prop,zf PP zc (.pointer (some (eaddr kv 1 0))) l K=K (vs.getD 0 undef) l:=fun K=>(T l d 0 (by omega) K).2
  have R:Ints (Off X F) l (vs.getD 0 undef) (rs.getD 0 []):=(S 0 (by omega)).ext d
  have S0:=o.sml (i:=0) (by omega)
  simp(disch:=first|(simp only[push_cast];done)|omega) only[a0.ld0,B.ld0,B.ld1,B.ld2,A0,B0,R.iaddr,R.load,push_cast,zy,true_and]
  exact un_spec H (by omega) R (by omega) S0 fun w6 F6 a8 r6 zs h6 a5 aj ad E=>q l d w6 F6 a8 r6 zs h6 a5 aj ad E
 rw[if_neg c2] at q
 by_cases b4:15≤t.op
 ·have D:kTy t.op=zL:=by unfold kTy;rw[if_neg (by omega),if_neg (by omega),if_neg (by omega),if_pos (by omega)]
  have:=a7 (by omega)
  subst this
  obtain⟨k1,l0,l1,l2⟩:=q4 b4 (by omega)
  rw[D]
  simp only[qK yX xh (show zL≠zT by decide),qK yY xo (show zL≠zO by decide),qK xN qa (show zL≠zR by decide),qK qn qG (show zL≠zY by decide),qK qI jt (show zL≠zQ by decide),qK j7 ZT (show zL≠zU by decide),qK j6 ZS (show zL≠zX by decide),Wu Ye,push_cast]
  rw[if_pos (by omega)] at q
  refine zF QH fun b3 w3 a9 I ac N=>?_
  refine stKind N yM0 fun w4 O=>?_
  have p:Ext w2 w4:=Ext.then I O fun y hy=>by subst hy;omega
  refine zx fun l J _=>?_
  have d:=p.trans J
  have B:=U.ext d
  have a0:=Z.ext d
  have H:=z.ext d
  have A0:∀K:Value→World→Prop,zp PP zB kv (.int .i64 0) l K=K (.pointer (some (eaddr kv 1 0))) l:=fun K=>(T l d 0 (by omega) K).1
  have B0:∀K:Value→World→Prop,zf PP zc (.pointer (some (eaddr kv 1 0))) l K=K (vs.getD 0 undef) l:=fun K=>(T l d 0 (by omega) K).2
  have R:Ints (Off X F) l (vs.getD 0 undef) (rs.getD 0 []):=(S 0 (by omega)).ext d
  have S0:=o.sml (i:=0) (by omega)
  have A1:∀K:Value→World→Prop,zp PP zB kv (.int .i64 1) l K=K (.pointer (some (eaddr kv 1 1))) l:=fun K=>(T l d 1 (by omega) K).1
  have B1:∀K:Value→World→Prop,zf PP zc (.pointer (some (eaddr kv 1 1))) l K=K (vs.getD 1 undef) l:=fun K=>(T l d 1 (by omega) K).2
  have V1:Ints (Off X F) l (vs.getD 1 undef) (rs.getD 1 []):=(S 1 (by omega)).ext d
  have S1:=o.sml (i:=1) (by omega)
  simp(disch:=first|(simp only[push_cast];done)|omega) only[a0.ld0,B.ld0,B.ld1,B.ld2,A0,B0,R.iaddr,R.load,A1,B1,V1.iaddr,V1.load,push_cast,zy,true_and]
  refine compare_spec H ⟨gs,rfl⟩ b4 (by omega) R V1 l0 l1 (by omega) S0 S1 fun w6 F6 a8 x h6 a5 cb E=>?_
  refine yg yU yo yB rfl rfl fun b9 w9 bt ai ce au=>?_
  have a6:OwnI PP zc w9 (.slice (some ⟨b9,0,none⟩) 1 1) [x]:=Blk.own1 (P:=PP) (t:=zc) (cs:=[Value.int .i64 x]) (by rw[xl];exact au) (Nat.zero_le _) rfl rfl (by omega)
  exact q l d w9 F6 a8 _ [x] (h6.ext ai) (a5.ext ai) (NewI.of (w:=w6) a6 (fun b hb=>by have e:b9=b:=Option.some.inj hb;omega) h6.lt).ints (SmL.one cb) (M.Bd.Out.map _ E)
 rw[if_neg (by omega)] at q
 have bc:kTy t.op=zU∨kTy t.op=zX:=by
  unfold kTy
  rw[if_neg c2]
  by_cases c:t.op≤13
  ·rw[if_pos c];exact .inl rfl
  ·rw[if_neg c,if_pos (by omega)];exact .inr rfl
 have:=a7 (by omega)
 subst this
 have c3:t.ks.length=2∧(t.op≠14→(rs.getD 0 []).length=(rs.getD 1 []).length)∧(t.op=14→(rs.getD 0 []).length+(rs.getD 1 []).length≤4)∧1≤(rs.getD 0 []).length∧(rs.getD 0 []).length≤4:=by
  by_cases c:t.op=14
  ·obtain⟨a1,a2,a3,a4⟩:=q3 c
   exact⟨a1,fun h=>absurd c h,fun _=>a4,a2,by omega⟩
  ·obtain⟨a1,a2,a3,a4⟩:=q2 (by omega) (by omega)
   exact⟨a1,fun _=>a2,fun h=>absurd h c,a3,a4⟩
 obtain⟨k1,l0,l1,l2,l3⟩:=c3
 have go:y4 w2 fun A=>zf PP zS (.pointer (some ⟨bl,0,none⟩)) A fun t107 bg=>bg=A∧zf PP zb (.pointer (some ⟨b1,0,none⟩)) A fun t109 bh=>bh=A∧
   zp PP zB kv (.int .i64 0) A fun t111 bi=>bi=A∧zf PP zc t111 A fun t112 bj=>bj=A∧zp PP zB kv (.int .i64 1) A fun t114 bk=>bk=A∧
   zf PP zc t114 A fun t115 bm=>bm=A∧vcall PP qM #[t107,t109,t112,t115] A K:=by
  refine zx fun l J _=>?_
  have d:=J
  have B:=U.ext d
  have a0:=Z.ext d
  have H:=z.ext d
  have A0:∀K:Value→World→Prop,zp PP zB kv (.int .i64 0) l K=K (.pointer (some (eaddr kv 1 0))) l:=fun K=>(T l d 0 (by omega) K).1
  have B0:∀K:Value→World→Prop,zf PP zc (.pointer (some (eaddr kv 1 0))) l K=K (vs.getD 0 undef) l:=fun K=>(T l d 0 (by omega) K).2
  have R:Ints (Off X F) l (vs.getD 0 undef) (rs.getD 0 []):=(S 0 (by omega)).ext d
  have S0:=o.sml (i:=0) (by omega)
  have A1:∀K:Value→World→Prop,zp PP zB kv (.int .i64 1) l K=K (.pointer (some (eaddr kv 1 1))) l:=fun K=>(T l d 1 (by omega) K).1
  have B1:∀K:Value→World→Prop,zf PP zc (.pointer (some (eaddr kv 1 1))) l K=K (vs.getD 1 undef) l:=fun K=>(T l d 1 (by omega) K).2
  have V1:Ints (Off X F) l (vs.getD 1 undef) (rs.getD 1 []):=(S 1 (by omega)).ext d
  have S1:=o.sml (i:=1) (by omega)
  simp(disch:=first|(simp only[push_cast];done)|omega) only[a0.ld0,B.ld0,A0,B0,A1,B1,push_cast,true_and]
  exact bin_spec H ⟨gs,rfl⟩ (by omega) (by omega) R V1 l0 l1 l2 (by omega) S0 S1 fun w6 F6 a8 r6 zs h6 a5 aj ad E=>q l d w6 F6 a8 r6 zs h6 a5 aj ad E
 rcases bc with D|D
 ·rw[D]
  simp only[qK yX xh (show zU≠zT by decide),qK yY xo (show zU≠zO by decide),qK xN qa (show zU≠zR by decide),qK qn qG (show zU≠zY by decide),qK qI jt (show zU≠zQ by decide),qK j6 ZS (show zU≠zX by decide),Wu j7,push_cast]
  exact go
 ·rw[D]
  simp only[qK yX xh (show zX≠zT by decide),qK yY xo (show zX≠zO by decide),qK xN qa (show zX≠zR by decide),qK qn qG (show zX≠zY by decide),qK qI jt (show zX≠zQ by decide),qK j7 ZT (show zX≠zU by decide),Wu j6,push_cast]
  exact go
end
end Go.Proofs.YtaekfnbnhjgboaaGreatDoor
end
