import Derived.Test.YtaekfnbnhjgboaaGreatDoorWueP9
import Derived.LaidEql
import Derived.Stop.Asserts
/- A part of the proof. -/
set_option linter.unusedVariables false
set_option linter.unusedSimpArgs false
set_option linter.unnecessarySimpa false
set_option linter.unusedSectionVars false
section
namespace Go.Proofs.YtaekfnbnhjgboaaGreatDoor
open Go Go.Vc Go.Proofs
variable {w:World} {K:Value→World→Prop} {F F' Fx Fy Fk Q X:Nat→Prop} {n bl bc mb bb kb m:Nat} {gs:M.Gs} {v dv:Value} {ar ab:Addr} {st:Option M.Gs} {ds:List M.Dcl}
def TOut {α:Type} (n:Nat) (p:M.Bd α) (st st':Option M.Gs) (a:α):Prop:=
 (∃gs gs',st=some gs∧st'=some gs'∧p.run n gs=some (gs',a))∨(st'=none∧∀gs,st=some gs→p.run n gs=none)
theorem Out.pre' {α:Type} {p:M.Bd α} {st st':Option M.Gs} {a:α} (h:M.Bd.Out n p st st' a):∀gs',st'=some gs'→∃gs,st=some gs∧gs<+:gs':=fun gs' e=>by
 cases st with
 |none=>rw[h.1] at e;cases e
 |some gs=>
  rcases h with⟨g2,c,b⟩|⟨_,b,_⟩
  ·rw[b] at e;cases e;exact⟨gs,rfl,M.Bd.run_pre c⟩
  ·rw[b] at e;cases e
theorem q00 (ps:List (M.Bd (List Int))) (p:M.Bd (List Int)):∀(gs:M.Gs),(M.seqB (ps++[p])).run n gs=((M.seqB ps).run n gs).bind fun r=>(p.run n r.1).map fun q=>(q.1,r.2++[q.2]):=by
 induction ps with
 |nil=>
  intro gs
  show((p.bind fun r=>(M.Bd.ret []:M.Bd (List (List Int))).map (r:: ·))).run n gs=_
  rw[M.Bd.run_bind]
  show _=(p.run n gs).map _
  cases p.run n gs<;>rfl
 |cons q ps c=>
  intro gs
  show(q.bind fun r=>(M.seqB (ps++[p])).map (r:: ·)).run n gs=((q.bind fun r=>(M.seqB ps).map (r:: ·)).run n gs).bind _
  rw[M.Bd.run_bind,M.Bd.run_bind]
  cases q.run n gs with
  |none=>rfl
  |some a=>
   show((M.seqB (ps++[p])).bind fun x=>M.Bd.ret (a.2::x)).run n a.1=(((M.seqB ps).bind fun x=>M.Bd.ret (a.2::x)).run n a.1).bind _
   rw[M.Bd.run_bind,M.Bd.run_bind,c]
   cases (M.seqB ps).run n a.1 with
   |none=>rfl
   |some b=>
    show((p.run n b.1).map _).bind _=(p.run n b.1).map _
    cases p.run n b.1<;>rfl
theorem TOut.snoc {ps:List (M.Bd (List Int))} {p:M.Bd (List Int)} {st a st2:Option M.Gs} {rs:List (List Int)} {r:List Int} (h:TOut n (M.seqB ps) st a rs) (d:TOut n p a st2 r):TOut n (M.seqB (ps++[p])) st st2 (rs++[r]):=by
 rcases h with⟨g0,g1,b,a2,a3⟩|⟨b,a2⟩
 ·rcases d with⟨c,g2,b1,b2,b3⟩|⟨b1,b2⟩
  ·rw[a2] at b1;cases b1
   exact .inl ⟨g0,g2,b,b2,by rw[q00,a3];show(p.run n g1).map _=_;rw[b3];rfl⟩
  ·refine .inr ⟨b1,fun gs e=>?_⟩
   rw[b] at e;cases e
   rw[q00,a3];show(p.run n g1).map _=_;rw[b2 g1 a2];rfl
 ·rcases d with⟨c,g2,b1,b2,b3⟩|⟨b1,b2⟩
  ·rw[b] at b1;cases b1
  ·exact .inr ⟨b1,fun gs e=>by rw[q00,a2 gs e];rfl⟩
theorem TOut.root {t:M.Tm} {st a st2:Option M.Gs} {rs:List (List Int)} {zs:List Int} (h:TOut n (M.seqB (t.ks.map (M.termB ds))) st a rs):(∀b,a=some b→M.Bd.Out n (M.nodeB ds t rs) (some b) st2 zs)→(a=none→st2=none)→TOut n (M.termB ds t) st st2 zs:=fun d f=>by
 rcases h with⟨g0,g1,c,a2,a3⟩|⟨c,a2⟩
 ·rcases d g1 a2 with⟨g2,b1,b2⟩|⟨b1,b2,_⟩
  ·exact .inl ⟨g0,g2,c,b2,by rw[M.termB_eq,M.Bd.run_bind,a3];exact b1⟩
  ·refine .inr ⟨b2,fun gs e=>?_⟩
   rw[c] at e;cases e
   rw[M.termB_eq,M.Bd.run_bind,a3];exact b1
 ·exact .inr ⟨f c,fun gs e=>by rw[M.termB_eq,M.Bd.run_bind,a2 gs e];rfl⟩
def P1 (m:Nat) (F:Nat→Prop) (b:Nat):Prop:=F b∨b=m
theorem Mv.p1 {w':World} (h:Mv F w F' w'):Mv (P1 m F) w (P1 m F') w':=
 ⟨h.same.mono fun _ _ h=> .inl h,fun b a=>a.elim (fun a=>(h.new b a).imp .inl id) fun a=> .inl (.inr a)⟩
theorem Sl.mvX {k:Nat} {v:Value} {xs:List (List Value)} {w':World} (h:Sl (Off X F) w k v xs) (d:X m) (hm:Mv (P1 m F) w (P1 m F') w'):Sl (Off X F') w' k v xs:=by
 have f:Sl (fun b=>Off X F b∧b<w.heap.size) w k v xs:=h.weaken fun b a j=>⟨a,j⟩
 have g:=f.same hm.same fun b a _ c=>c.elim a.1.1 fun e=>a.1.2 (e▸d)
 exact g.weaken fun b a _=>⟨fun i=>hm.off (fun c=>c.elim a.1.1 fun e=>a.1.2 (e▸d)) a.2 (.inl i),a.1.2⟩
def MetR (n:Nat) (ds:List M.Dcl) (m:Nat) (X F:Nat→Prop) (w:World) (st:Option M.Gs):Prop:=
 ∃f,MapF .string w m f∧∀p,p∈f→∃(u:M.Tm) (s:ByteArray) (v:Value) (zs:List Int),p=(.string s,v)∧s.data.toList=M.textL u∧M.sortM ds u≠ -1∧Ints (Off X F) w v zs∧SmL zs∧∀gs,st=some gs→(M.termB ds u).run n gs=some (gs,zs)
structure BlR (n bl bb kb m:Nat) (ar ab:Addr) (ds:List M.Dcl) (dv:Value) (X F:Nat→Prop) (w:World) (st:Option M.Gs):Prop where
 bd:BdR n bb ar ab X F w st
 blk:Blk w bl [.pointer (some ⟨bb,0,none⟩),dv,.map (some kb),.map (some m)] zP
 off: ¬F bl∧¬F m∧¬F kb∧bl≠m∧kb≠m
 ext:X m
 dcl:DclsR (Off X F) w dv ds
 kin:KindsR w kb
 met:MetR n ds m X F w st
theorem KindsR.same {w':World} {S:Nat→Prop} (h:KindsR w kb) (hs:Same S w w') (c: ¬S kb):KindsR w' kb:=by
 obtain⟨f,a,b⟩:=h;exact⟨f,a.same hs c,b⟩
theorem KindsR.lt (h:KindsR w kb):kb<w.heap.size:=by obtain⟨f,a,b⟩:=h;exact a.lt
theorem MetR.lt (h:MetR n ds m X F w st):m<w.heap.size:=by obtain⟨f,a,b⟩:=h;exact a.lt
theorem BlR.step {w':World} {st':Option M.Gs} (h:BlR n bl bb kb m ar ab ds dv X F w st) (o:BdR n bb ar ab X F' w' st') (hm:Mv F w F' w') (r:∀gs',st'=some gs'→∃gs,st=some gs∧gs<+:gs'):BlR n bl bb kb m ar ab ds dv X F' w' st':=by
 obtain⟨c,d,g,t,x⟩:=h.off
 refine⟨o,h.blk.same hm.same c,⟨hm.off c h.blk.lt,hm.off d h.met.lt,hm.off g h.kin.lt,t,x⟩,h.ext,Sl.mvX h.dcl h.ext hm.p1,h.kin.same hm.same g,?_⟩
 obtain⟨f,q,a⟩:=h.met
 refine⟨f,q.same hm.same d,fun p b=>?_⟩
 obtain⟨u,s,v,zs,i,a2,a3,a4,a5,j⟩:=a p b
 refine⟨u,s,v,zs,i,a2,a3,Sl.mvX a4 h.ext hm.p1,a5,fun gs' e=>?_⟩
 obtain⟨gs,k,l⟩:=r gs' e
 exact M.Bd.run_again (j gs k) l
theorem BlR.grow {w':World} (h:BlR n bl bb kb m ar ab ds dv X F w st) (he:Ext w w'):BlR n bl bb kb m ar ab ds dv X F w' st:=h.step (h.bd.ext he) (Mv.refl.ext he) fun gs e=>⟨gs,e,List.prefix_refl _⟩
theorem BlR.swap {w0 w':World} {t r S Y:Nat→Prop} {o:Option M.Gs} (h:BlR n bl bb kb m ar ab ds dv X F w st) (e:BlR n bl bb kb m ar ab ds dv t r w0 o) (hw:Same S w w') (i:∀b,S b→X b∧w0.heap.size≤b∧¬F b)
  (q:∀b,Y b→b<w'.heap.size∧(b<w.heap.size→X b)) (hm:Y m):BlR n bl bb kb m ar ab ds dv Y F w' st:=by
 have key:∀b,b<w0.heap.size→¬S b:=fun b a hs=>by have:=(i b hs).2.1;omega
 have a:=h.bd.upd e.bd.err hw fun b a=>(i b a).2
 have d:∀b,Off X F b→b<w.heap.size→¬S b:=fun b a _ hs=>a.2 (i b hs).1
 have cut:∀b,(Off X F b∧b<w.heap.size)→Off Y F b:=fun b a=>⟨a.1.1,fun A=>a.1.2 ((q b A).2 a.2)⟩
 refine⟨⟨a.err,a.blk,a.foot,fun b j=>j.elim (fun h=>a.lt b (.inl h)) fun h=>(q b h).1⟩,h.blk.same hw (key _ e.blk.lt),h.off,hm,?_,h.kin.same hw (key _ e.kin.lt),?_⟩
 ·have g:DclsR (fun b=>Off X F b∧b<w.heap.size) w dv ds:=Sl.weaken h.dcl fun b a c=>⟨a,c⟩
  exact Sl.weaken (Sl.same g hw fun b a c=>d b a.1 c) fun b a _=>cut b a
 ·obtain⟨f,z,k⟩:=h.met
  refine⟨f,z.same hw (key _ e.met.lt),fun p l=>?_⟩
  obtain⟨u,s,v,zs,x,a2,a3,a4,a5,y⟩:=k p l
  have g:Ints (fun b=>Off X F b∧b<w.heap.size) w v zs:=Ints.weaken a4 fun b a c=>⟨a,c⟩
  exact⟨u,s,v,zs,x,a2,a3,Ints.weaken (Ints.same g hw fun b a c=>d b a.1 c) fun b a _=>cut b a,a5,y⟩
theorem Ints.swap {w':World} {S Y:Nat→Prop} {r:Value} {zs:List Int} (h:Ints (Off X F) w r zs) (hw:Same S w w') (d:∀b,S b→X b) (e:∀b,Y b→b<w.heap.size→X b):Ints (Off Y F) w' r zs:=by
 have c:Ints (fun b=>Off X F b∧b<w.heap.size) w r zs:=Ints.weaken h fun b a f=>⟨a,f⟩
 exact Ints.weaken (Ints.same c hw fun b a _ hs=>a.1.2 (d b hs)) fun b a _=>⟨a.1.1,fun g=>a.1.2 (e b g a.2)⟩
theorem W2:Xr0 PP ya .string zc:=⟨_,Zr,by kernel_rfl⟩
theorem BlR.put {s:ByteArray} {t:M.Tm} {r:Value} {zs:List Int} (h:BlR n bl bb kb m ar ab ds dv X F w st) (hs:s.data.toList=M.textL t) (R:M.sortM ds t≠ -1) (hi:Ints (Off X F) w r zs) (z:SmL zs)
  (l:∀gs,st=some gs→(M.termB ds t).run n gs=some (gs,zs)) (N:∀w',BlR n bl bb kb m ar ab ds dv X F w' st→Same (· =m) w w'→K undef w'):Z7 PP ya (.map (some m)) (.string s) r w K:=by
 obtain⟨Z,D,o3,T,U⟩:=h.off
 obtain⟨f,C,Q⟩:=h.met
 refine ZB0 W2 C (Jl s) fun w' H q o hw S=>N w' ?_ hw
 obtain⟨es,cl,x,_⟩:=C
 have i:∀(a:Addr),(∃v,w.cell? a=some v)→a.block≠m:=fun a ⟨v,O⟩ e=>by
  simp[World.cell?,e,x] at O
 have d:∀{g:Nat} {a:Addr},Sent w g a→g≠m:=fun y=>i _ ⟨_,y.cell⟩
 have he:=h.bd.err
 have V:=d he.room
 have W:=d he.bits
 have c:∀b,Off X F b→b<w.heap.size→¬(b=m):=fun b k _ e=>k.2 (e▸h.ext)
 obtain⟨bc,J,L⟩:=h.bd.blk
 refine⟨⟨⟨he.room.same hw V,he.bits.same hw W,he.off⟩,⟨bc,J.same hw fun e=>D (e▸h.bd.foot),fun gs e=>?_⟩,h.bd.foot,fun b k=>by rw[S];exact h.bd.lt b k⟩,h.blk.same hw T,h.off,h.ext,Sl.same h.dcl hw c,h.kin.same hw U,H,q,fun p j=>?_⟩
 ·obtain⟨v,mb,P,I,B⟩:=L gs e
  exact⟨v,mb,P.same hw fun b k e=>D (e▸B b k),I,B⟩
 ·rcases o p j with rfl|j
  ·exact⟨t,s,r,zs,rfl,hs,R,Ints.same hi hw c,z,l⟩
  ·obtain⟨u,Y,v,A,E,a2,a3,a4,a5,G⟩:=Q p j
   exact⟨u,Y,v,A,E,a2,a3,Ints.same a4 hw c,a5,G⟩
structure KidsB (n bl bb kb m:Nat) (ar ab:Addr) (ds:List M.Dcl) (dv:Value) (t:M.Tm) (X F:Nat→Prop) (w:World) (st:Option M.Gs) (i:Nat) (v:Value) (w':World):Prop where
 ex:∃(F1:Nat→Prop) (st1:Option M.Gs) (vs:List Value) (rs:List (List Int)),BlR n bl bb kb m ar ab ds dv (fun b=>X b∨v.ownBlock=some b) F1 w' st1∧Mv (P1 m F) w (P1 m F1) w'∧OwnV PP zB w' v vs∧(∀b,v.ownBlock=some b→w.heap.size≤b∧¬F1 b)∧
  vs.length=i∧rs.length=i∧(∀j,j<i→Ints (Off (fun b=>X b∨v.ownBlock=some b) F1) w' (vs.getD j undef) (rs.getD j []))∧(∀r,r∈rs→SmL r)∧TOut n (M.seqB ((t.ks.take i).map (M.termB ds))) st st1 rs
theorem zD0 {α:Type} {l r:List α} {d:α} {i:Nat} (h:i<l.length):(l++r).getD i d=l.getD i d:=by
 rw[List.getD_eq_getElem?_getD,List.getElem?_append_left h,←List.getD_eq_getElem?_getD]
theorem zE0 {α:Type} {l:List α} {x d:α} {i:Nat} (h:l.length=i):(l++[x]).getD i d=x:=by
 subst h;simp[List.getD_eq_getElem?_getD]
theorem TOut.nil:TOut n (M.seqB []) st st []:=by
 cases st with
 |none=>exact .inr ⟨rfl,fun gs e=>by cases e⟩
 |some gs=>exact .inl ⟨gs,gs,rfl,rfl,rfl⟩
theorem term_spec (hd:M.declOk ds=true):∀(t:M.Tm),M.sortM ds t≠ -1→M.sizeM t≤1000→∀{w:World} {K:Value→World→Prop} {X F:Nat→Prop} {st:Option M.Gs} {tv:Value},BlR n bl bb kb m ar ab ds dv X F w st→TermR (Off X F) w tv t→
  (∀w' F' st' r zs,BlR n bl bb kb m ar ab ds dv X F' w' st'→Mv (P1 m F) w (P1 m F') w'→Ints (Off X F') w' r zs→SmL zs→TOut n (M.termB ds t) st st' zs→K r w')→
  vcall PP qA #[.pointer (some ⟨bl,0,none⟩),tv] w K:=by
 refine M.Tm.ind fun t ih hs br w K X F st tv d ht hK=>?_
 obtain⟨kv,rfl,bn⟩:=ht
 apply VK
 refine zD fun b1 w1 c5 bk c8 b8=>?_
 refine zx fun w2 an _=>?_
 have e2:=bk.trans an
 have ad:=d.grow e2
 have ai:=b8.ext an
 have Z:=bn.ext e2
 simp(disch:=first|(simp only[push_cast];done)|omega) only[push_cast,ad.blk.ld2,ai.ldAgg (t:=za) zI,true_and]
 refine textOf_spec hd t hs br ad.kin ⟨kv,rfl,Z⟩ fun Q s R b0=>?_
 have e3:=e2.trans R
 have k:=ad.grow R
 have aj:=ai.ext R
 have a0:=Z.ext R
 simp(disch:=first|(simp only[push_cast];done)|omega) only[push_cast,k.blk.ld3]
 obtain⟨f,O,bm⟩:=k.met
 by_cases H:∃v,(Value.string s,v)∈f
 ·obtain⟨v,H⟩:=H
  rw[VU W2 O (Jl s) H]
  simp only[push_cast,if_true]
  obtain⟨u,s',v',zs,e,a2,a3,a4,a5,a6⟩:=bm _ H
  cases e
  have:=M.text_inj hd hs a3 (b0.symm.trans a2)
  subst this
  refine hK Q F st v zs k (Mv.refl.ext e3) a4 a5 ?_
  cases st with
  |none=>exact .inr ⟨rfl,fun gs e=>by cases e⟩
  |some gs=>exact .inl ⟨gs,gs,rfl,rfl,a6 gs rfl⟩
 rw[j40 W2 jZ O (Jl s) fun v hv=>H ⟨v,hv⟩]
 simp(disch:=first|(simp only[push_cast];done)|omega) only[push_cast,if_true,aj.ld4,a0.len]
 have c7:t.ks.length≤3:=by
  obtain⟨c4,hp,ho⟩:=M.right_op hs
  have h:M.arity t.op≤3:=by
   unfold M.arity;repeat' split
   all_goals omega
  omega
 have S:∀b,(X b∨(Value.slice none 0 0).ownBlock=some b)→b<Q.heap.size∧(b<Q.heap.size→X b):=fun b d=>d.elim (fun h=>⟨k.bd.lt b (.inr h),fun _=>h⟩) fun h=>by cases h
 have ak:=k.swap (Y:=fun b=>X b∨(Value.slice none 0 0).ownBlock=some b) k (Same.refl (fun _=>False) Q) (fun b d=>d.elim) S (.inl k.ext)
 have be:TmsR (fun b=>Off X F b∧b<Q.heap.size) Q kv t.ks:=a0.weaken fun b d hl=>⟨d,hl⟩
 refine vloop_up t.ks.length (fun i u w'=> ∃v,u=[v,.int .i64 i]∧KidsB n bl bb kb m ar ab ds dv t X F Q st i v w') ⟨_,rfl,⟨F,st,[],[],ak,Mv.refl,OwnV.nil,(fun b d=>by cases d),rfl,rfl,fun j W=>absurd W (by omega),(fun r hr=>by cases hr),TOut.nil⟩⟩ ?_
 rintro i _ g w4 C hi ⟨v,rfl,⟨F4,bv,vs,rs,l,A,af,E,b3,ax,hint,az,L⟩⟩ hC
 simp only[push_cast]
 have l4:=A.same.size
 have I:TmsR (fun b=>Off X F b∧b<Q.heap.size) w4 kv t.ks:=be.same A.same fun b d _ hp=>hp.elim d.1.1 fun e=>d.1.2 (e▸k.ext)
 have bf:∀b,(Off X F b∧b<Q.heap.size)→Off (fun b=>X b∨v.ownBlock=some b) F4 b:=fun b d=>⟨fun O=>A.off (fun hp=>hp.elim d.1.1 fun e=>d.1.2 (e▸k.ext)) d.2 (.inl O),fun hx=>hx.elim d.1.2 fun ho=>by have:=(E b ho).1;omega⟩
 refine zh (fun a=>?_) (fun a=>?_)
 ·have p:i<t.ks.length:=by omega
  simp(disch:=first|(simp only[push_cast];done)|omega) only[push_cast,I.iaddr]
  refine I.load zI p fun x hx=>?_
  obtain⟨cx,rfl,ae⟩:=hx.cells
  refine zF yR fun b7 w7 c6 ao c9 b9=>?_
  refine stTerm b9 rfl (ae.ext ao) fun w8 bt ca ba=>?_
  have D:Ext w4 w8:=Ext.then ao bt fun y hy=>by subst hy;omega
  have v8:=ae.ext D
  simp(disch:=(simp only[push_cast];done)) only[push_cast,ba.ldAgg (t:=za) (by rw[xX ae];exact zI)]
  have B:t.ks.getD i default∈t.ks:=M.getD_mem p _
  have bq:M.sizeM (t.ks.getD i default)≤1000:=by
   have h1:=M.szT_succ p
   have h2:=M.szT_mono (ks:=t.ks) (i:=i+1) (j:=t.ks.length) p (Nat.le_refl _)
   have h3:=M.szT_all t
   omega
  have bj:=l.grow D
  refine ih _ B ((M.sort_parts hs).2.1 _ B) bq bj (v8.term.weaken fun b d _=>bf b d) fun w9 F9 bw r zs am J ag bu bs=>?_
  refine yg QO Z2 jZ rfl (Sl.cells1 ag) fun c0 w10 bx o bz ah=>?_
  have cb:=D.size;have l9:=J.same.size
  have b2:∀b,v.ownBlock=some b→¬P1 m F4 b:=fun b d hp=>hp.elim (E b d).2 fun e=>by have:=(E b d).1;have:=k.met.lt;omega
  have av:OwnV PP zB w10 v vs:=((af.ext D).same J.same b2).ext o
  refine av.app1 y10 ah (Sl.one ag) (by omega) (by omega) fun v11 cc a9 z a7=>?_
  try simp(disch:=omega) only[push_cast,zy]
  have a8:∀b,v.ownBlock=some b→¬F9 b:=fun b d O=>J.off (b2 b d) (by have:=af.lt d;omega) (.inl O)
  have G:∀b,(X b∨v11.ownBlock=some b)→b<w10.heap.size→(X b∨v.ownBlock=some b):=fun b d hl=>d.elim .inl fun h=>(a7 b h).elim .inr fun h2=>by omega
  have T:∀j,j<i→Ints (Off (fun b=>X b∨v.ownBlock=some b) F9) w10 (vs.getD j undef) (rs.getD j []):=fun j W=>Ints.ext (Sl.mvX (Ints.ext (hint j W) D) (.inl d.ext) J) o
  refine hC p _ _ ⟨v11,by simp,⟨F9,bw,vs++[r],rs++[zs],(am.grow o).swap k z (fun b d=>⟨.inr d,(E b d).1,a8 b d⟩) (fun b d=>⟨?_,G b d⟩) (.inl d.ext),(((A.ext D).trans J).ext o).to z fun b d=> .inr (E b d).1,a9,fun b d=>?_,by simp[b3],by simp[ax],fun j W=>?_,fun q hq=>?_,?_⟩⟩
  ·rcases d with h|h
   ·have:=l.bd.lt b (.inr (.inl h));have:=o.size;have:=z.size;omega
   ·exact a9.lt h
  ·rcases a7 b d with h|h
   ·exact⟨(E b h).1,a8 b h⟩
   ·have:=o.size
    exact⟨by omega,fun O=>by have:=am.bd.lt b (.inl O);omega⟩
  ·by_cases c:j<i
   ·rw[zD0 (by omega),zD0 (by omega)]
    exact Ints.swap (T j c) z (fun b d=> .inr d) G
   ·have:j=i:=by omega
    subst this
    rw[zE0 b3,zE0 ax]
    exact Ints.swap (Ints.ext ag o) z (fun b d=> .inr d) G
  ·rcases List.mem_append.1 hq with h|h
   ·exact az q h
   ·rw[List.mem_singleton.1 h];exact bu
  ·rw[M.take_add p default,List.map_append]
   exact L.snoc bs
 ·have p:i=t.ks.length:=by omega
  subst p
  rw[List.take_length] at L
  obtain⟨bc,hB,c3⟩:=l.bd.blk
  have back:∀{F5:Nat→Prop} {w5:World} {N:Option M.Gs},BlR n bl bb kb m ar ab ds dv (fun b=>X b∨v.ownBlock=some b) F5 w5 N→BlR n bl bb kb m ar ab ds dv X F5 w5 N:=fun h=>h.swap h (Same.refl (fun _=>False) _) (fun b d=>d.elim) (fun b d=>⟨h.bd.lt b (.inr (.inl d)),fun _=> .inl d⟩) k.ext
  have m3:Mv (P1 m F) w (P1 m F) Q:=Mv.refl.ext e3
  cases bv with
  |none=>
   simp only at hB
   simp(disch:=first|(simp only[push_cast];done)|omega) only[push_cast,l.blk.ld0,hB.ld1,qo0]
   have au:Ints (Off X F4) w4 (.slice none 0 0) []:=Ints.weaken (OwnI.nil (P:=PP) (t:=zc)).ints fun b d _=>by cases d
   exact hK w4 F4 none _ [] (back l) (m3.trans A) au SmL.nil (TOut.root (st2:=none) L (fun b6 e=>by cases e) fun _=>rfl)
  |some c2=>
   simp only at hB
   simp(disch:=first|(simp only[push_cast];done)|omega) only[push_cast,l.blk.ld0,hB.ld1,Vj]
   have bg:=aj.same A.same fun hp=>hp.elim (fun O=>by have:=d.bd.lt _ (.inl O);omega) fun e=>by have:=d.met.lt;omega
   simp(disch:=first|(simp only[push_cast];done)|omega) only[push_cast,bg.ldAgg (t:=za) zI]
   have U:(M.seqB (t.ks.map (M.termB ds))).Reach rs:=by
    rcases L with⟨c1,g1,a1,a2,a3⟩|⟨a1,_⟩
    ·exact M.Bd.reach_of_run a3
    ·cases a1
   obtain⟨ay,bp⟩:=M.seq_reach U
   refine root_spec l.bd hd hs l.blk l.dcl l.kin ⟨kv,rfl,I⟩ ⟨⟨vs,af.vals,by omega,fun j W=>hint j (by omega)⟩,az⟩ ay (fun j W=>?_) fun w5 F5 N r zs bh ap bo b5 aw=>?_
   ·have B:t.ks.getD j default∈t.ks:=M.getD_mem W _
    have:=M.term_len hd _ ((M.sort_parts hs).2.1 _ B) (bp j W)
    rw[this];rfl
   have al:=l.step bh ap (Out.pre' aw)
   have ac:TOut n (M.termB ds t) st N zs:=L.root (fun b6 e=>by cases e;exact aw) fun e=>by cases e
   have aq:Mv (P1 m F) w (P1 m F5) w5:=(m3.trans A).trans ap.p1
   have aa:Ints (Off X F5) w5 r zs:=Ints.weaken bo fun b d _=>⟨d.1,fun hx=>d.2 (.inl hx)⟩
   have V:=back al
   simp(disch:=first|(simp only[push_cast];done)|omega) only[push_cast,V.blk.ld3]
   refine V.put b0 hs aa b5 (fun gs e=>?_) fun w6 bi b4=>?_
   ·rcases ac with⟨g0,g1,a1,a2,a3⟩|⟨a1,_⟩
    ·rw[a2] at e;cases e
     exact M.Bd.run_again a3 (List.prefix_refl _)
    ·rw[a1] at e;cases e
   ·refine hK w6 F5 N r zs bi (aq.to b4 fun b d=> .inl (.inr d)) ?_ b5 ac
    exact Ints.same aa b4 fun b d _ e=>d.2 (e▸k.ext)
end Go.Proofs.YtaekfnbnhjgboaaGreatDoor
end
section
namespace Go.Proofs.YtaekfnbnhjgboaaGreatDoor
open Go Go.Vc Go.Proofs
section
open Go.RowKit Go.Extern.Stop Go.Stop Go.Extern
theorem Y80 (v:Value) (w:World):(Extern.ReflectliteType.typeOf #[.iface 358 v]).run Tryz.prog w= .ok (.iface 249 (.agg #[.pointer (some ⟨9,358,none⟩)])) w:=by kernel_rfl
theorem qa0 (w:World):(callFunc 362 #[.agg #[.pointer (some ⟨9,358,none⟩)]]).run Tryz.prog w= .ok (Next.value (.bool true)) w:=by
 rw[@run_callFunc_extern Tryz.prog 362 _ (Extern.ReflectliteType.method fun t=>do Extern.Rtype.noPackHeld "Comparable" t;pure (.bool (←typeInfo t).comparable)) Tryz.func362 (by kernel_rfl) (by kernel_rfl) (by kernel_rfl) (by kernel_rfl)]
 kernel_rfl
theorem Y90 (v:Value) (w:World):(Go.method 507 249 v "Comparable").run Tryz.prog w= .ok (362,v) w:=by kernel_rfl
theorem Qx0:(Tryz.prog.info? 358).map (·.comparable)=some true:=by kernel_rfl
theorem Qv0:(Tryz.prog.info? 396).map (·.size)=some 1:=by kernel_rfl
theorem Qw0 (a : Addr) (w : World) :
    Calls Tryz.prog 59 #[.iface 358 (.pointer (some a)), .iface 358 (.pointer (some a))] w fun e w' => e = .returned (.bool true) ∧ w' = w := by
  obtain ⟨i, hi, hcmp⟩ := Option.map_eq_some_iff.1 Qx0
  obtain ⟨j, hj, hjs⟩ := Option.map_eq_some_iff.1 Qv0
  have h8 := @run_callFunc_extern Tryz.prog 116 _ Extern.ReflectliteType.typeOf Tryz.func116 (by kernel_rfl) (by kernel_rfl) (by kernel_rfl) (by kernel_rfl)
  have h32 : ∀ w : World, (callFunc 362 #[.agg #[.pointer (some ⟨9, 358, none⟩)]]).run Tryz.prog w = .ok (Next.value (.bool true)) w := qa0
  have tT := Y80
  have mR := Y90
  have heq := run_eql_iface_ptr_same (P := Tryz.prog) w a Tryz.underlying102 Tryz.underlying358 hi hcmp hj
  go_enter Tryz.func59, Tryz.ntmps59
  go_wp2
  refine wp_loop_rounds 1 ?_
  rw [rounds_succ]
  go_wp2
  go_ret
  exact ⟨rfl, rfl⟩
theorem Jd0 (b : Addr) (w : World) :
    Calls Tryz.prog 59 #[.nilIface, .iface 358 (.pointer (some b))] w fun e w' => e = .returned (.bool false) ∧ w' = w := by
  have hn := run_eql_iface_nil_left (P := Tryz.prog) w 358 (.pointer (some b)) Tryz.underlying102
  go_enter Tryz.func59, Tryz.ntmps59
  go_wp2
  go_ret
  exact ⟨rfl, rfl⟩
end
variable {w:World} {K:Value→World→Prop}
theorem Jc0 {a:Addr} (b:K (.bool true) w):vcall PP Vm #[erv a,erv a] w K:=
 ⟨by kernel_rfl,(Qw0 a w).mono fun e w' h=>by obtain⟨rfl,rfl⟩:=h;exact b⟩
theorem is_no {a:Addr} (b:K (.bool false) w):vcall PP Vm #[.nilIface,erv a] w K:=
 ⟨by kernel_rfl,(Jd0 a w).mono fun e w' h=>by obtain⟨rfl,rfl⟩:=h;exact b⟩
end Go.Proofs.YtaekfnbnhjgboaaGreatDoor
end
section
namespace Go.Proofs.YtaekfnbnhjgboaaGreatDoor
open Go Go.Vc Go.Proofs
variable {w:World} {K:Value→World→Prop} {F F' Fx Fy Fk Q X:Nat→Prop} {n bl bc mb bb kb m:Nat} {gs:M.Gs} {v dv:Value} {ar ab:Addr} {st:Option M.Gs} {ds:List M.Dcl}
theorem gone (gs:M.Gs):∀y,y∈gs.map yF→∀c,c∈y→c.oneCell'=true:=fun y b c a=>by
 obtain⟨g,_,rfl⟩:=List.mem_map.1 b
 simp only[yF,List.mem_cons,List.not_mem_nil,or_false] at a
 rcases a with rfl|rfl|rfl<;>rfl
theorem OwnG.nil:OwnG w (.slice none 0 0) []:=Own.nil PP 0 3 zn w
theorem Clone_gate (d:GatesR Fx w v gs) (y:gs.length≤1000000) (l:∀w' v',Ext w w'→OwnG w' v' gs→(∀x,v'.ownBlock=some x→w.heap.size≤x)→K v' w'):
  vcall PP yD #[v] w K:=by
 apply jQ
 obtain⟨a,c,rfl,s,t,f⟩:=d.shape
 rw[List.length_map] at d s⊢
 rw[U4 qT]
 refine y9 (fun m=>?_) (fun m=>?_)
 ·cases a with
  |some a=>cases m
  |none=>
   have k:gs=[]:=by
    have p:gs.map yF=[]:=Classical.byContradiction fun h=>by
     obtain⟨b,o,q,_⟩:=f h;cases q
    simpa using p
   subst k
   exact l w _ (Same.refl _ _) OwnG.nil fun x d=>by cases d
 ·refine qk Z8 Ve fun b n B he C r=>?_
  have g:Own PP 0 3 zn n (.slice (some ⟨b,0,none⟩) 0 0) []:=Blk.ownk (css:=[]) (by rw[W9];exact r) (fun x d=>by cases d) rfl (by omega)
  have j:Sl Fx n 3 (.slice a gs.length c) (gs.map yF):=Sl.ext d he
  refine vappend (bs:=24) jX (by decide) g j (gone gs) (by omega) (by rw[List.length_map];simp;omega) (by rw[List.length_map];simp;omega) fun v' A u hs i=>?_
  have z:=he.size
  refine l A v' (Ext.then he hs fun x d=>by have e:b=x:=Option.some.inj d;omega) u fun x d=>?_
  rcases i x d with h|h
  ·have e:b=x:=Option.some.inj h;omega
  ·omega
theorem sigof_spec {a m:Int} (hm:m.natAbs≤1000000) (b:K (.bool (decide (a≠0∧ -m≤a∧a≤m))) w):vcall PP jA #[.int .i64 a,.int .i64 m] w K:=by
 apply zs0
 simp only[push_cast]
 refine zh (fun c=>?_) (fun c=>?_)
 ·simp(disch:=omega) only[push_cast,zy,Int.zero_sub]
  refine zh (fun d=>?_) (fun d=>?_)
  ·try simp only[push_cast]
   rwa[show decide (a≠0∧ -m≤a∧a≤m)=decide (a≤m) from decide_eq_decide.2 ⟨fun h=>h.2.2,fun h=>⟨c,d,h⟩⟩] at b
  ·rwa[decide_eq_false (fun h=>d h.2.1)] at b
 ·rwa[decide_eq_false (fun h=>c h.1)] at b
theorem xJ0 {a:Int} {o:Option Addr} {l c mb:Nat}:zH PP zM [(0,.agg ⟨[.int .i64 a,.slice o l c]⟩),(1,.map (some mb))] w K=K (.agg ⟨[.int .i64 a,.slice o l c,.map (some mb)]⟩) w:=yh xt0 (us:=[[.int .i64 a,.slice o l c],[.map (some mb)]]) rfl rfl
theorem Yt0 {a:Int} {o:Option Addr} {l c:Nat}:zH PP zk [(0,.int .i64 a),(1,.slice o l c)] w K=K (.agg ⟨[.int .i64 a,.slice o l c]⟩) w:=yh UG (us:=[[.int .i64 a],[.slice o l c]]) rfl rfl
structure Rd (n:Nat) (w:World) (bc:Nat) (v':Value) (mb:Nat) (gs:M.Gs) (i:Nat) (w':World):Prop where
 ext:Ext w w'
 blk:Blk w' bc [.int .i64 n,v',.map (some mb)] zM
 own:OwnG w' v' gs
 map:∃f,GMap w' mb f∧∀g,Km g f=if g∈gs.take i then some (2+n+gs.idxOf g:Int) else none
 sep:bc≠mb∧v'.ownBlock≠some bc∧v'.ownBlock≠some mb
 new:∀b,Ko bc mb v' b→w.heap.size≤b
theorem readNet_spec (hv:GatesR Fx w v gs) (hg:M.NetG n gs) (hn:n≤8) (hK:∀w' bc v' mb,CktR n bc w' gs v' mb→Ext w w'→(∀b,Ko bc mb v' b→w.heap.size≤b)→K (.tuple #[.pointer (some ⟨bc,0,none⟩),.bool true]) w'):
  vcall PP Xc #[.agg ⟨[.int .i64 n,v]⟩] w K:=by
 apply xb0
 refine zD fun b1 w1 ap F au x=>?_
 have ar:GatesR Fx w1 v gs:=Sl.ext hv F
 have ad:=hg.few
 have hlen:∀(w':World) (K:Value→World→Prop),vbi PP .len [zn] zb [v] w' K=K (.int .i64 gs.length) w':=fun w' K=>by rw[Sl.len hv qT,kP0]
 refine zV (fun u w'=>u=[]∧w'=w1) ?_ ?_
 ·intro J O
  simp(disch:=first|(simp only[push_cast];done)|omega) only[push_cast,x.ld0]
  refine zh (fun c=>absurd c (by omega)) (fun _=>?_)
  try simp(disch:=first|(simp only[push_cast];done)|omega) only[push_cast,x.ld0]
  refine zh (fun c=>absurd c (by omega)) (fun _=>?_)
  try simp(disch:=first|(simp only[push_cast];done)|omega) only[push_cast,x.ld1,hlen]
  refine zh (fun c=>absurd c (by omega)) (fun _=>?_)
  exact O _ _ ⟨rfl,rfl⟩
 rintro _ _ w2 ⟨rfl,rfl⟩
 refine zV (fun u w'=> ∃bc v' mb,u=[.pointer (some ⟨bc,0,none⟩)]∧Rd n w2 bc v' mb gs 0 w') ?_ ?_
 ·intro J O
  refine zx fun w3 B _=>?_
  have z:=x.ext B
  have e3:=F.trans B
  simp(disch:=first|(simp only[push_cast];done)|omega) only[push_cast,z.ld0,z.ld1,true_and,and_true]
  refine⟨?_,?_⟩
  ·refine Clone_gate (Sl.ext hv e3) (by omega) fun w4 v' p k S=>?_
   have A:=z.ext p
   obtain⟨o,c,rfl,_⟩:=(Own.sl k).shape
   simp(disch:=first|(simp only[push_cast];done)|omega) only[push_cast,A.ld0,true_and,and_true,and_self,Yt0]
   refine Jg0 rfl fun mb w5 al a1 l af=>?_
   have q:=A.ext l
   simp(disch:=first|(simp only[push_cast];done)|omega) only[push_cast,q.ld0,true_and,and_true,and_self,Yt0,xJ0]
   refine zD fun bc w6 aj r ag E=>?_
   have z3:=B.size;have z4:=p.size
   have R:=(fun b P=>(Own.lt k (b:=b) P).2)
   refine O _ _ ⟨bc,_,mb,rfl,B.trans (p.trans (l.trans r)),E,Own.ext k (l.trans r),⟨[],a1.ext r,fun g=>rfl⟩,⟨by omega,fun h=>by have:=R _ h;omega,fun h=>by have:=R _ h;omega⟩,?_⟩
   rintro b (rfl|rfl|h)
   ·omega
   ·omega
   ·have:=S b h;omega
  ·refine Jg0 rfl fun mb w5 al a1 l af=>?_
   have q:=z.ext l
   simp(disch:=first|(simp only[push_cast];done)|omega) only[push_cast,q.ld0,q.ld1,true_and,and_true,and_self]
   refine Clone_gate (Sl.ext hv (e3.trans l)) (by omega) fun w4 v' p k S=>?_
   have A:=q.ext p
   obtain⟨o,c,rfl,_⟩:=(Own.sl k).shape
   simp(disch:=first|(simp only[push_cast];done)|omega) only[push_cast,A.ld0,true_and,and_true,and_self,Yt0,xJ0]
   refine zD fun bc w6 aj r ag E=>?_
   have z3:=B.size;have z4:=p.size
   have R:=(fun b P=>(Own.lt k (b:=b) P).2)
   refine O _ _ ⟨bc,_,mb,rfl,B.trans (l.trans (p.trans r)),E,Own.ext k r,⟨[],a1.ext (p.trans r),fun g=>rfl⟩,⟨by omega,fun h=>by have:=R _ h;omega,fun h=>by have:=S _ h;omega⟩,?_⟩
   rintro b (rfl|rfl|h)
   ·omega
   ·omega
   ·have:=S b h;omega
 rintro _ _ w3 ⟨bc,v',mb,rfl,h3⟩
 have z:=x.ext h3.ext
 simp(disch:=first|(simp only[push_cast];done)|omega) only[push_cast,z.ld1,hlen]
 refine vloop_up gs.length (fun i u w'=>u=[.int .i64 i]∧Rd n w2 bc v' mb gs i w') ⟨rfl,h3⟩ ?_
 rintro i _ _ w4 C hi ⟨rfl,d⟩ hC
 have A:=x.ext d.ext
 simp only[push_cast]
 refine zh (fun a=>?_) (fun a=>?_)
 ·have m:i<gs.length:=by omega
  have k:Sl Fx w4 3 v (gs.map yF):=Sl.ext hv (F.trans d.ext)
  have ak:(gs.map yF).getD i []=yF gs[i]:=by simp[List.getD_eq_getElem?_getD,m]
  rw[Sl.iaddr k Jp (by omega) (by rw[kP0];omega),Int.toNat_natCast,Sl.ldAgg k qB (by rw[kP0];exact m),ak]
  obtain⟨g1,g2,g3,g4⟩:=hg.gate i m
  have X:gs[i]∉gs.take i:=fun h=>by
   obtain⟨j,hj,e⟩:=List.getElem_of_mem h
   rw[List.length_take] at hj
   rw[List.getElem_take] at e
   exact List.pairwise_iff_getElem.1 hg.once j i (by omega) m (by omega) e
  have an:gs.take (i+1)=gs.take i++[gs[i]]:=by rw[List.take_add_one,List.getElem?_eq_getElem m];rfl
  have ae:gs.idxOf gs[i]=i:=List.Nodup.idxOf_getElem hg.once i m
  generalize gs[i]=g at*
  have absN:∀a:Int,M.absI a=(a.natAbs:Int):=fun a=>by unfold M.absI;split<;>omega
  have ga:=absN g.a
  have gb:=absN g.b
  refine zF YA fun b5 w5 aq l af q=>?_
  refine q.stAgg (cs':=yF g) rfl qB (fun c hc=>by simp only[yF,List.mem_cons,List.not_mem_nil,or_false] at hc;rcases hc with rfl|rfl|rfl<;>rfl) fun w6 am ag E=>?_
  have ah:Ext w4 w6:=Ext.then l am fun y hy=>by subst hy;omega
  refine zx fun w7 a9 _=>?_
  have N:=E.ext a9
  have a3:=ah.trans a9
  have Y:=A.ext a3
  have a0:∀w':World,Blk w' b5 (yF g) zo→∀K:Value→World→Prop,zf PP zo (.pointer (some ⟨b5,0,none⟩)) w' K=K (gv g) w':=fun w' hB K=>Blk.ldAgg hB (by exact qB)
  simp(disch:=first|(simp only[push_cast];done)|omega) only[push_cast,N.ld1,N.ld2,true_and]
  refine zV (fun u w'=>u=[]∧Ext w7 w') ?_ ?_
  ·intro J O
   rw[Y.ldAgg (t:=zk) yl]
   refine nodes_spec (by omega) (by omega) fun w8 aa=>?_
   refine sigof_spec (by omega) ?_
   rw[decide_eq_true ⟨by omega,by omega,by omega⟩]
   have ai:=Y.ext aa
   simp(disch:=first|(simp only[push_cast];done)|omega) only[push_cast,Bool.not_true,ai.ldAgg (t:=zk) yl]
   refine nodes_spec (by omega) (by omega) fun w9 D=>?_
   refine sigof_spec (by omega) ?_
   rw[decide_eq_true ⟨by omega,by omega,by omega⟩]
   simp only[push_cast,Bool.not_true]
   refine node_spec (by omega) ?_
   simp only[push_cast]
   refine zh (fun c=>absurd c (by omega)) (fun _=>?_)
   refine node_spec (by omega) ?_
   simp only[push_cast]
   refine zh (fun c=>absurd c (by omega)) (fun _=>?_)
   refine node_spec (by omega) (node_spec (by omega) ?_)
   simp only[push_cast]
   refine zh (fun c=>absurd c (by omega)) (fun _=>?_)
   exact O _ _ ⟨rfl,aa.trans D⟩
  rintro _ _ w9 ⟨rfl,D⟩
  have a4:=a3.trans D
  refine zV (fun u w'=>u=[]∧Ext w9 w') ?_ ?_
  ·intro J O
   refine zx fun w10 s _=>?_
   have e:=a4.trans s
   have a5:=d.blk.ext e
   have U:=(N.ext D).ext s
   obtain⟨f,hf,hl⟩:=d.map
   have ab:=hf.ext e
   have a2:Km g f=none:=by rw[hl,if_neg X]
   simp(disch:=first|(simp only[push_cast];done)|omega) only[push_cast,a5.ld2,a0 _ U,Q40 ab,a2,true_and]
   simp(disch:=first|(simp only[push_cast];done)|omega) only[push_cast,U.ld0]
   refine y9 (fun hx=>?_) (fun hx=>?_)
   ·obtain⟨p1,p2⟩:=g4 hx
    try simp only[push_cast]
    refine zh (fun c=>absurd c (by omega)) (fun _=>?_)
    try simp only[push_cast]
    refine zh (fun c=>absurd c (by omega)) (fun _=>?_)
    exact O _ _ ⟨rfl,s⟩
   ·exact O _ _ ⟨rfl,s⟩
  rintro _ _ av ⟨rfl,G⟩
  refine zx fun aw H _=>?_
  have e:=(a4.trans G).trans H
  have a6:=d.blk.ext e
  have V:=((N.ext D).ext G).ext H
  have a8:=((Y.ext D).ext G).ext H
  simp(disch:=first|(simp only[push_cast];done)|omega) only[push_cast,a6.ld2,a0 _ V,a8.ldAgg (t:=zk) yl,true_and]
  refine nodes_spec (by omega) (by omega) fun ax W=>?_
  have L:=e.trans W
  have T:=d.blk.ext L
  have a7:=V.ext W
  obtain⟨f,hf,hl⟩:=d.map
  have a2:Km g f=none:=by rw[hl,if_neg X]
  simp(disch:=first|(simp only[push_cast];done)|omega) only[push_cast,T.ld2,a0 _ a7,true_and,and_self,and_true,zy]
  refine gset (hf.ext L) a2 fun ay ac I ao=>?_
  try simp(disch:=omega) only[push_cast,zy]
  have l4:=d.ext.size
  refine hC m _ _ ⟨by simp,Ext.then (d.ext.trans L) I (fun b P=>by have:=d.new b (.inr (.inl P));omega),T.same I d.sep.1,Own.same (Own.ext d.own L) I (fun b P e=>d.sep.2.2 (e▸P)),⟨_,ac,fun g'=>?_⟩,d.sep,d.new⟩
  have e1:=look_app (g:=g') (h:=g) (n:=1+(n:Int)+i+1) (f:=f) (i:=0)
  have e2:=hl g'
  unfold Km at e2⊢
  rw[e1,e2,an]
  by_cases Q:g'∈gs.take i
  ·rw[if_pos Q,if_pos (List.mem_append.2 (.inl Q))]
  ·rw[if_neg Q]
   by_cases Z:g'=g
   ·subst Z
    simp only
    rw[if_pos trivial,if_pos (by simp),ae]
    congr 1;omega
   ·simp only
    rw[if_neg Z,if_neg (by simp[Q,Z])]
 ·have m:i=gs.length:=by omega
  subst m
  obtain⟨f,hf,hl⟩:=d.map
  rw[List.take_length] at hl
  have z1:=F.size
  exact hK w4 bc v' mb ⟨d.blk,d.own,⟨f,hf,hl⟩,d.sep,ad,hn⟩ (F.trans d.ext) fun b P=>by have:=d.new b P;omega
end Go.Proofs.YtaekfnbnhjgboaaGreatDoor
end
section
namespace Go.Proofs.YtaekfnbnhjgboaaGreatDoor
open Go Go.Vc Go.Proofs
variable {w:World} {K:Value→World→Prop} {F F' Fx Fy Fk Q X:Nat→Prop} {n bl bc mb bb kb m:Nat} {gs:M.Gs} {v dv:Value} {ar ab:Addr} {st:Option M.Gs} {ds:List M.Dcl}
theorem Ys0 {a:Int}:zH PP zk [(0,.int .i64 a)] w K=K (.agg ⟨[.int .i64 a,.slice none 0 0]⟩) w:=yh UG (us:=[[.int .i64 a]]) rfl rfl
theorem QH0:zH PP zk [] w K=K (.agg ⟨[.int .i64 0,.slice none 0 0]⟩) w:=yh UG (us:=[]) rfl rfl
theorem Zn0 {a:Addr}:zH PP y0 [(0,.pointer (some a))] w K=K (.agg ⟨[.pointer (some a),.nilIface]⟩) w:=yh xv0 (us:=[[.pointer (some a)]]) rfl rfl
theorem Zo0 {a:Addr} {o:Option Addr} {l c k m:Nat}:zH PP zP [(0,.pointer (some a)),(1,.slice o l c),(2,.map (some k)),(3,.map (some m))] w K=K (.agg ⟨[.pointer (some a),.slice o l c,.map (some k),.map (some m)]⟩) w:=yh xw0 (us:=[[.pointer (some a)],[.slice o l c],[.map (some k)],[.map (some m)]]) rfl rfl
theorem GatesR.nil:GatesR Fx w (.slice none 0 0) []:=Sl.weaken (Own.sl (OwnG.nil (w:=w))) fun b a _=>by cases a
theorem NetG.nil (n:Nat):M.NetG n []:=⟨by simp,fun k h=>absurd h (by simp),List.nodup_nil⟩
theorem newBlaster_spec (A:M.declOk ds=true) (n:DclsR Fx w dv ds) (he:Errs (fun _=>False) w ar ab)
  (I:∀w' bl bb kb m F,BlR (M.bits ds).toNat bl bb kb m ar ab ds dv (· =m) F w' (some [])→Ext w w'→(∀b,F b∨b=m∨b=bl→w.heap.size≤b)→K (.pointer (some ⟨bl,0,none⟩)) w'):vcall PP kZ #[dv] w K:=by
 apply Up
 have Y:=(M.decl_iff.1 A).2.2
 have X:=M.bits_pos' (ds:=ds) fun d B=>by
  obtain⟨i,hi,e⟩:=List.getElem_of_mem B
  have:=(M.dcl_wide A hi).1
  rw[List.getD_eq_getElem?_getD,List.getElem?_eq_getElem hi] at this
  simp only[Option.getD_some,e] at this
  omega
 refine bitsOf_spec n A fun w1 s=>?_
 rw[Ys0,show M.bits ds=(((M.bits ds).toNat:Nat):Int) by omega]
 refine readNet_spec (Fx:=Fx) (gs:=[]) GatesR.nil (NetG.nil _) (by omega) fun U bc v' mb G t E=>?_
 simp only[push_cast,Zn0]
 refine zD fun bb w3 J u R y=>?_
 refine kinds_new fun V kb q v P=>?_
 refine xP0 W2 fun m w5 hm D l S=>?_
 obtain⟨o,c,rfl,_⟩:=n.shape
 rw[Zo0]
 refine zD fun bl W L g T z=>?_
 have s1:=s.size;have s2:=t.size;have s3:=u.size;have s4:=q.size;have s5:=l.size;have s6:=g.size
 have r:=u.trans (q.trans (l.trans g))
 have x:=t.trans r
 have k:=s.trans x
 have j:∀b,Ko bc mb v' b→b<U.heap.size:=fun b f=>G.lt f
 have C:=v.ext (l.trans g)
 have N:=v.lt
 have a:∀b,(Ko bc mb v' b∨b=bb)→w.heap.size≤b∧b<V.heap.size:=fun b f=>f.elim (fun h=>by have:=E b h;have:=j b h;omega) fun h=>by omega
 refine I W bl bb kb m (fun b=>Ko bc mb v' b∨b=bb) ⟨⟨⟨?_,?_,?_⟩,⟨bc,y.ext (q.trans (l.trans g)),fun gs e=>?_⟩,.inr rfl,fun b f=>?_⟩,z,⟨fun h=>by have:=(a _ h).2;omega,fun h=>by have:=(a _ h).2;omega,?_,by omega,by omega⟩,rfl,?_,C,?_⟩ k fun b f=>?_
 ·exact he.room.same k id
 ·exact he.bits.same k id
 ·have Z:=he.room.lt;have l2:=he.bits.lt
  exact⟨fun h=>by have:=(a _ h).1;omega,fun h=>by have:=(a _ h).1;omega⟩
 ·cases e
  exact⟨v',mb,G.ext r,fun h=>by have:=j _ h;omega,fun b f=> .inl f⟩
 ·rcases f with h|h
  ·have:=(a _ h).2;omega
  ·omega
 ·rintro(h|h)
  ·have:=j _ h;omega
  ·omega
 ·have H:DclsR (fun b=>Fx b∧b<w.heap.size) w _ ds:=Sl.weaken n fun b f O=>⟨f,O⟩
  exact Sl.weaken (Sl.ext H k) fun b f _=>⟨fun h=>by have:=(a _ h).1;omega,fun h=>by omega⟩
 ·exact⟨[],D.ext g,fun p Q=>by cases Q⟩
 ·rcases f with h|h|h
  ·exact(a _ h).1
  ·omega
  ·omega
theorem Xa0 {t:M.Tm} (h:M.tsort ds t≠ -1):M.fits t=true∧M.declOk ds=true∧M.sortM ds t≠ -1∧M.sizeM t≤20:=by
 unfold M.tsort at h
 split at h
 ·next a=>exact⟨a.1,a.2,h,(M.fits_iff.1 a.1).1⟩
 ·exact absurd rfl h
end Go.Proofs.YtaekfnbnhjgboaaGreatDoor
end
section
namespace Go.Proofs.YtaekfnbnhjgboaaGreatDoor
open Go Go.Vc Go.Proofs
variable {w:World} {K:Value→World→Prop} {D F Fx Fy Y S:Nat→Prop} {n b4 b8:Nat} {gs:M.Gs} {v nv:Value} {cs cs':List Value} {st:Option M.Gs}
theorem Yb0 {op:BinOp} (a:op= .eql∨op= .neq) (c:Bool) (x y:Array Value):(eqG op zo c (.agg x) (.agg y)).run PP w= .ok () w:=by
 rcases a with rfl|rfl<;>cases c<;>kernel_rfl
theorem k60 {c:Bool} (g h:M.Gt):zr PP .eql zo c (gv g) (gv h) w K=K (.bool (decide (g=h))) w:=by
 have a:(Op.equal zo (gv g) (gv h)).run PP w= .ok (decide (g=h)) w:=eqGate g h w
 refine yJ (Yb0 (.inl rfl) c _ _) ?_
 have e:∀xs ys:Array Value,binOp .eql zo (.agg xs) (.agg ys)=(do let b ←Op.equal zo (.agg xs) (.agg ys);pure (Value.bool b)):=fun _ _=>rfl
 unfold gv at a⊢
 rw[e,Sem.run_bind,a];rfl
abbrev GOff (D:Nat→Prop) (w:World) (v:Value) (gs:M.Gs):Prop:=GatesR (fun b=> ¬D b) w v gs
theorem GOff.swap {w':World} (h:GOff D w v gs) (hw:Same S w w') (d:∀b,S b→D b) (e:∀b,Y b→b<w.heap.size→D b):GOff Y w' v gs:=by
 have c:GatesR (fun b=> ¬D b∧b<w.heap.size) w v gs:=Sl.weaken h fun b a f=>⟨a,f⟩
 exact Sl.weaken (Sl.same c hw fun b a _ hs=>a.1 (d b hs)) fun b a _ g=>a.1 (e b g a.2)
theorem net_one {a:Int} {o:Option Addr} {l c:Nat}:∀u,u∈[Value.int .i64 a,.slice o l c]→u.oneCell'=true:=fun u hu=>by
 simp only[List.mem_cons,List.not_mem_nil,or_false] at hu
 rcases hu with rfl|rfl<;>rfl
theorem gates_app {x:Value} {b1:Nat} {t0:TypeId} {g:M.Gt} (q:GatesR Fx w x gs) (l:Blk w b1 (yF g) t0) (u:gs.length≤1000) (o:OwnG w v []) (p:∀b,v.ownBlock=some b→b≠b1)
  (m:∀w' v',OwnG w' v' (gs++[g])→Same (fun b=>v.ownBlock=some b∨w.heap.size≤b) w w'→(∀b,v'.ownBlock=some b→v.ownBlock=some b∨w.heap.size≤b)→K v' w'):
  vbi PP .append [zn,zn] zn [v,x] w fun t r=>vbi PP .append [zn,zn] zn [t,.slice (some ⟨b1,0,none⟩) 1 1] r K:=by
 refine vappend (bs:=24) jX (by decide) o q (gone gs) (by omega) (by rw[List.length_map];simp;omega) (by rw[List.length_map];simp;omega) fun v' y i a c=>?_
 have n:=l.lt
 refine Own.app1k (bs:=24) i jX (by decide) (l.same a fun e=>p _ e rfl) rfl (gone [g] _ (by simp)) (by simp;omega) (by simp;omega) fun v3 s j k f=>?_
 have s2:=a.size
 refine m s v3 (by unfold OwnG;rw[List.map_append];exact j) (Same.thn (a.mono fun b _ h=> .inl h) (k.mono fun b _ h=>h) fun b d=> .inl ((c b d).imp id id)) fun b d=>?_
 rcases f b d with h|h
 ·exact c b h
 ·exact .inr (by omega)
theorem sput_spec {g:M.Gt} (hn:n≤8) (hg:GOff D w nv gs) (hl:gs.length≤600) (hD:∀b,D b→b<w.heap.size)
  (hK:∀w' n' gv',Ext w w'→GOff D w' gv' (if(M.putG n gs g).2=0 then[] else(M.putG n gs g).1)→(n'=if(M.putG n gs g).2=0 then 0 else n)→((M.putG n gs g).2=0→gv'= .slice none 0 0)→K (.tuple #[.agg ⟨[.int .i64 (n':Nat),gv']⟩,.int .i64 (M.putG n gs g).2]) w'):
  vcall PP jT #[.agg ⟨[.int .i64 n,nv]⟩,.agg ⟨yF g⟩] w K:=by
 apply jB0
 refine zD fun b1 w1 av V az ad=>?_
 refine zD fun b2 w2 aw P b0 ae=>?_
 refine zF kQ fun b3 w3 ax a1 b4 a0=>?_
 have e3:=V.trans (P.trans a1)
 have a5:=ad.ext (P.trans a1)
 have a6:=ae.ext a1
 have W:∀w':World,Blk w' b2 (yF g) zo→∀K:Value→World→Prop,zf PP zo (.pointer (some ⟨b2,0,none⟩)) w' K=K (.agg ⟨yF g⟩) w':=fun w' hB K=>Blk.ldAgg hB (by exact qB)
 have hlen:∀(w':World) (K:Value→World→Prop),vbi PP .len [zn] zb [nv] w' K=K (.int .i64 gs.length) w':=fun w' K=>by rw[Sl.len hg qT,kP0]
 obtain⟨go,gc,al,_⟩:=hg.shape
 have a9:∀i,i<gs.length→gs.getD i ⟨false,0,0⟩=g→g∉gs.take i→(M.putG n gs g)=(gs,(2+n+i:Int)):=fun i hi h1 h2=>by
  have hm:g∈gs:=h1▸M.getD_mem hi _
  unfold M.putG
  rw[if_pos hm]
  have:gs.idxOf g=i:=by
   have e:=List.take_append_drop i gs
   have h3:gs.drop i=gs.getD i ⟨false,0,0⟩::gs.drop (i+1):=by
    rw[List.drop_eq_getElem_cons hi,List.getD_eq_getElem?_getD,List.getElem?_eq_getElem hi];rfl
   rw[←e,List.idxOf_append,if_neg h2,h3,h1,List.idxOf_cons_self,List.length_take];omega
  rw[this]
 refine vloop_up gs.length (fun i u w'=>u=[.int .i64 i]∧Ext w3 w'∧g∉gs.take i) ⟨rfl,Same.refl _ _,by simp⟩ ?_
 rintro i _ _ w4 C hi ⟨rfl,r,Q⟩ hC
 have B:=a5.ext r
 have Y:=a6.ext r
 have e4:=e3.trans r
 simp(disch:=first|(simp only[push_cast];done)|omega) only[push_cast,B.ld1,hlen]
 refine zh (fun a=>?_) (fun a=>?_)
 ·have z:i<gs.length:=by omega
  refine zx fun H l _=>?_
  have j:=B.ext l
  have E:=Y.ext l
  have a8:GOff D H nv gs:=Sl.ext hg (e4.trans l)
  have ak:(gs.map yF).getD i []=yF (gs.getD i ⟨false,0,0⟩):=M.getD_map _ z _ _
  simp(disch:=first|(simp only[push_cast];done)|omega) only[push_cast,j.ld1,true_and]
  rw[Sl.iaddr a8 Jp (by omega) (by rw[kP0];omega),Int.toNat_natCast]
  simp(disch:=first|(simp only[push_cast];done)|omega) only[push_cast,true_and]
  rw[Sl.ldAgg a8 qB (by rw[kP0];exact z),ak]
  simp(disch:=first|(simp only[push_cast];done)|omega) only[push_cast,true_and,W _ E]
  rw[show(Value.agg ⟨yF (gs.getD i ⟨false,0,0⟩)⟩)=gv (gs.getD i ⟨false,0,0⟩) from rfl,show(Value.agg ⟨yF g⟩)=gv g from rfl,k60]
  refine⟨rfl,?_⟩
  refine zh (fun c=>?_) (fun c=>?_)
  ·have hp:=a9 i z c Q
   rw[hp] at hK
   refine zx fun I f _=>?_
   have d:=j.ext f
   have O:=(a0.ext (r.trans l)).ext f
   subst al
   simp(disch:=first|(simp only[push_cast];done)|omega) only[push_cast,d.ld0,d.ldAgg (t:=zk) yl,true_and,zy]
   refine O.stAgg (cs':=[.int .i64 n,.slice go (gs.map yF).length gc]) rfl yl net_one fun v m X q=>?_
   have e7:Ext w v:=Ext.then ((e4.trans l).trans f) m fun b p=>by have:=V.size;have:=P.size;omega
   have k:=d.same m (show¬b1=b3 by omega)
   simp(disch:=first|(simp only[push_cast];done)|omega) only[push_cast,k.ld0,true_and,and_self,zy]
   rw[q.lv (t:=zk) yl]
   refine hK v n _ e7 ?_ ?_ ?_
   ·rw[if_neg (by show(2+(n:Int)+i)≠0;omega)];exact Sl.ext hg e7
   ·rw[if_neg (by show(2+(n:Int)+i)≠0;omega)]
   ·intro h;exfalso;revert h;show(2+(n:Int)+i)=0→False;omega
  ·simp(disch:=omega) only[push_cast,zy]
   refine hC z _ _ ⟨by simp,r.trans l,?_⟩
   rw[M.take_add z ⟨false,0,0⟩]
   intro h
   rcases List.mem_append.1 h with h|h
   ·exact Q h
   ·exact c (List.mem_singleton.1 h).symm
 ·have z:i=gs.length:=by omega
  subst z
  rw[List.take_length] at Q
  try simp(disch:=first|(simp only[push_cast];done)|omega) only[push_cast,B.ld1,hlen]
  refine zh (fun c=>?_) (fun c=>?_)
  ·have hp:M.putG n gs g=(gs,0):=by unfold M.putG;rw[if_neg Q,if_pos (by omega)]
   rw[hp] at hK
   rw[QH0]
   refine(a0.ext r).stAgg (cs':=[.int .i64 0,.slice none 0 0]) rfl yl net_one fun v m X q=>?_
   rw[q.lv (t:=zk) yl]
   have e7:Ext w v:=Ext.then e4 m fun b p=>by have:=V.size;have:=P.size;omega
   exact hK v 0 _ e7 (by rw[if_pos rfl];exact GatesR.nil) (by rw[if_pos rfl]) fun _=>rfl
  ·have hp:M.putG n gs g=(gs++[g],(2+n+gs.length:Int)):=by unfold M.putG;rw[if_neg Q,if_neg (by omega)]
   rw[hp] at hK
   have s1:=V.size;have s2:=P.size;have s4:=e4.size;have ba:=r.size
   refine zV (fun u w'=>u=[]∧Ext w w'∧∃v',Blk w' b1 [.int .i64 n,v'] zk∧Blk w' b3 [.int .i64 0,.slice none 0 0] zk∧OwnG w' v' (gs++[g])∧∀b,v'.ownBlock=some b→w.heap.size≤b∧b≠b1∧b≠b3) ?_ ?_
   ·intro J hJ
    refine zx fun H l _=>?_
    have e5:=e4.trans l
    have j:=B.ext l
    have E:=Y.ext l
    have N:=(a0.ext r).ext l
    have s5:=l.size
    have fin:∀(T:World) (v':Value),Same (fun b=>H.heap.size≤b) H T→OwnG T v' (gs++[g])→(∀b,v'.ownBlock=some b→H.heap.size≤b)→zt PP zn (.pointer (some (Addr.add ⟨b1,0,none⟩ 1))) v' T fun _ ac=>J [] ac:=fun T v' L A G=>by
     have e8:Ext H T:=⟨L.os,L.tape,L.output,L.size,fun i hi _=>L.block i hi (by omega)⟩
     refine Blk.st (i:=1) (j.ext e8) (Sl.cells1 (Own.sl A)) (Sl.one (Own.sl A)) UK rfl fun w9 S b9 ag=>?_
     refine hJ _ _ ⟨rfl,Ext.then (e5.trans e8) S fun b p=>by omega,v',ag,(N.ext e8).same S (show¬b3=b1 by omega),Own.same A S (fun b p e=>by have:=G b p;omega),fun b p=>by have:=G b p;omega⟩
    simp(disch:=first|(simp only[push_cast];done)|omega) only[push_cast,j.ld1,W _ E,true_and,and_true]
    have mk:∀(I:World) (K:Value→World→Prop),(∀b7 v,b7=I.heap.size→Ext I v→v.heap.size=I.heap.size+1→Blk v b7 (yF g) zo→K (.slice (some ⟨b7,0,none⟩) 1 1) v)→vbuildS PP zn 1 [(0,.agg ⟨yF g⟩)] I K:=fun I K h=>
     XT Z8 (by kernel_rfl) YA (y:=yF g) rfl rfl (show 3≤16777216 by decide) h
    have nil:∀{I:World} {F:Nat},Blk I F [] zo→OwnG I (.slice (some ⟨F,0,none⟩) 0 0) []:=fun h=>Blk.ownk (css:=[]) (by rw[W9];exact h) (fun x hx=>by cases hx) rfl (by omega)
    refine⟨?_,?_⟩
    ·refine qk Z8 Ve fun F I ai f au U=>?_
     have d:=j.ext f
     have Z:=E.ext f
     simp(disch:=first|(simp only[push_cast];done)|omega) only[push_cast,d.ld1,W _ Z,true_and,and_true,and_self]
     refine⟨?_,?_⟩
     ·refine vappend (bs:=24) jX (by decide) (nil U) (Sl.ext hg (e5.trans f)) (gone gs) (by omega) (by rw[List.length_map];simp;omega) (by rw[List.length_map];simp;omega) fun v7 v ap m am=>?_
      have s7:=m.size
      have a7:=Z.same m fun e=>by have e:F=b2:=Option.some.inj e;omega
      simp(disch:=first|(simp only[push_cast];done)|omega) only[push_cast,W _ a7,true_and,and_true,and_self]
      refine mk v _ fun b8 T ay a2 b5 af=>?_
      have n7:∀b,v7.ownBlock=some b→H.heap.size≤b:=fun b p=>(am b p).elim (fun e=>by have e:F=b:=Option.some.inj e;omega) fun h=>by omega
      refine Own.app1k (bs:=24) (Own.ext ap a2) jX (by decide) af rfl (gone [g] _ (by simp)) (by simp;omega) (by simp;omega) fun v9 w9 aq S an=>?_
      try simp(disch:=first|(simp only[push_cast];done)|omega) only[push_cast,true_and,and_true,and_self]
      have s8:=a2.size
      refine fin w9 v9 (Same.thn (((Same.of_ext f).trans (m.mono (S':=fun b=>H.heap.size≤b) fun b _ e=>by have e:F=b:=Option.some.inj e;omega)).trans (Same.of_ext a2)) (S.mono (S':=fun b=>H.heap.size≤b) fun b _ e=>n7 b e) fun b p=> .inl p) (by unfold OwnG;rw[List.map_append];exact aq) fun b p=>(an b p).elim (n7 b) fun h=>by omega
     ·refine mk I _ fun b7 v aj s X q=>?_
      have k:=d.ext s
      simp(disch:=first|(simp only[push_cast];done)|omega) only[push_cast,k.ld1,true_and,and_true,and_self]
      refine gates_app (Sl.ext hg ((e5.trans f).trans s)) q (by omega) (nil (U.ext s)) (fun b e=>by have e:F=b:=Option.some.inj e;omega) fun T v8 A a4 G=>?_
      try simp(disch:=first|(simp only[push_cast];done)|omega) only[push_cast,true_and,and_true,and_self]
      refine fin T v8 (((Same.of_ext (f.trans s))).trans (a4.mono (S':=fun b=>H.heap.size≤b) fun b _ e=>e.elim (fun e=>by have e:F=b:=Option.some.inj e;omega) fun h=>by omega)) A fun b p=>(G b p).elim (fun e=>by have e:F=b:=Option.some.inj e;omega) fun h=>by omega
    ·refine mk H _ fun b7 v aj s X q=>?_
     have k:=j.ext s
     simp(disch:=first|(simp only[push_cast];done)|omega) only[push_cast,k.ld1,true_and,and_true,and_self]
     refine qk Z8 Ve fun F I ai f au U=>?_
     have d:=k.ext f
     simp(disch:=first|(simp only[push_cast];done)|omega) only[push_cast,d.ld1,true_and,and_true,and_self]
     refine gates_app (Sl.ext hg ((e5.trans s).trans f)) (q.ext f) (by omega) (nil U) (fun b e=>by have e:F=b:=Option.some.inj e;omega) fun T v8 A a4 G=>?_
     try simp(disch:=first|(simp only[push_cast];done)|omega) only[push_cast,true_and,and_true,and_self]
     refine fin T v8 (((Same.of_ext (s.trans f))).trans (a4.mono (S':=fun b=>H.heap.size≤b) fun b _ e=>e.elim (fun e=>by have e:F=b:=Option.some.inj e;omega) fun h=>by omega)) A fun b p=>(G b p).elim (fun e=>by have e:F=b:=Option.some.inj e;omega) fun h=>by omega
   rintro _ _ H ⟨rfl,e5,v',j,N,a3,ab⟩
   refine zx fun I f _=>?_
   have d:=j.ext f
   have ao:=Own.ext a3 f
   have O:=N.ext f
   have aa:∀(w':World) (K:Value→World→Prop),vbi PP .len [zn] zb [v'] w' K=K (.int .i64 ((gs.length+1:Nat):Int)) w':=fun w' K=>by
    rw[Sl.len (Own.sl a3) qT,List.length_map,List.length_append];rfl
   obtain⟨o,c',ar,_⟩:=(Own.sl a3).shape
   simp(disch:=first|(simp only[push_cast];done)|omega) only[push_cast,d.ld0,d.ld1,aa,d.ldAgg (t:=zk) yl,true_and,zy]
   subst ar
   refine O.stAgg (cs':=[.int .i64 n,.slice o (List.map yF (gs++[g])).length c']) rfl yl net_one fun v m X q=>?_
   have k:=d.same m (show¬b1=b3 by omega)
   simp(disch:=first|(simp only[push_cast];done)|omega) only[push_cast,k.ld0,k.ld1,aa,true_and,and_self,zy]
   rw[q.lv (t:=zk) yl]
   have e7:Ext w v:=Ext.then (e5.trans f) m fun b p=>by omega
   have R:(2+(n:Int)+gs.length)≠0:=by omega
   have ah:=hK v n (.slice o (List.map yF (gs++[g])).length c') e7 (by rw[if_neg R];exact Sl.weaken (Own.sl (Own.same ao m fun b p e=>(ab b p).2.2 e)) fun b p _ hd=>by have:=hD b hd;have:=(ab b p).1;omega) (by rw[if_neg R]) fun h=>absurd h R
   rwa[show(2+(n:Int)+gs.length)=1+n+((gs.length+1:Nat):Int) by omega] at ah
end Go.Proofs.YtaekfnbnhjgboaaGreatDoor
end
section
namespace Go.Proofs.YtaekfnbnhjgboaaGreatDoor
open Go Go.Vc Go.Proofs
variable {w:World} {K:Value→World→Prop} {D F Fx Fy Y S:Nat→Prop} {n b4 b8:Nat} {gs gs':M.Gs} {v nv:Value} {cs cs':List Value} {st:Option M.Gs} {a b m:Int}
def NetO (n:Nat) (D:Nat→Prop) (w:World) (gs:M.Gs) (m:Int) (cs:List Value):Prop:=
 if m=0 then cs=[.int .i64 0,.slice none 0 0] else ∃o l c,cs=[.int .i64 n,.slice o l c]∧GOff D w (.slice o l c) gs∧gs.length≤600
theorem NetO.form (h:NetO n D w gs m cs):∃(x:Int) (o:Option Addr) (l c:Nat),cs=[.int .i64 x,.slice o l c]:=by
 unfold NetO at h
 split at h
 ·exact⟨_,_,_,_,h⟩
 ·obtain⟨o,l,c,e,_⟩:=h;exact⟨_,_,_,_,e⟩
theorem NetO.len (h:NetO n D w gs m cs):cs.length=2:=by obtain⟨x,o,l,c,rfl⟩:=h.form;rfl
theorem NetO.one (h:NetO n D w gs m cs):∀u,u∈cs→u.oneCell'=true:=by obtain⟨x,o,l,c,rfl⟩:=h.form;exact net_one
theorem NetO.same {w':World} (h:NetO n D w gs m cs) (hw:Same S w w') (f:∀b,S b→D b):NetO n D w' gs m cs:=by
 unfold NetO at h⊢
 by_cases hm:m=0
 ·rw[if_pos hm] at h⊢;exact h
 ·rw[if_neg hm] at h⊢
  obtain⟨o,l,c,e,a,d⟩:=h
  exact⟨o,l,c,e,a.swap hw f fun b g _=>g,d⟩
theorem NetO.weak {Y:Nat→Prop} (h:NetO n D w gs m cs) (f:∀b,Y b→D b):NetO n Y w gs m cs:=by
 unfold NetO at h⊢
 by_cases hm:m=0
 ·rw[if_pos hm] at h⊢;exact h
 ·rw[if_neg hm] at h⊢
  obtain⟨o,l,c,e,a,d⟩:=h
  exact⟨o,l,c,e,Sl.weaken a fun b g _ i=>g (f b i),d⟩
theorem NetO.put {f:Nat} {a:Value} (d:GOff D w a (if m=0 then[] else gs)) (b:f=if m=0 then 0 else n) (g:m=0→a= .slice none 0 0) (h:gs.length≤600):NetO n D w gs m [.int .i64 (f:Nat),a]:=by
 unfold NetO
 by_cases c:m=0
 ·rw[if_pos c] at b⊢;rw[b,g c];rfl
 ·rw[if_neg c] at d b⊢
  obtain⟨o,c',e,_⟩:=d.shape
  exact⟨o,_,c',by rw[b,e],by rw[←e];exact d,h⟩
theorem NetO.of {o:Option Addr} {l c:Nat} (h:GOff D w (.slice o l c) gs) (a:gs.length≤600) (hm:m≠0):NetO n D w gs m [.int .i64 n,.slice o l c]:=by
 unfold NetO;rw[if_neg hm];exact⟨o,l,c,rfl,h,a⟩
theorem put_len {g:M.Gt} (h:gs.length≤600):(M.putG n gs g).1.length≤600:=by
 unfold M.putG
 split
 ·exact h
 ·split
  ·exact h
  ·rw[List.length_append,List.length_singleton];omega
theorem l4Abs_sm (c:Sm a) (b:K (.int .i64 (M.absI a)) w):vcall PP qs #[.int .i64 a] w K:=by
 apply jE0
 unfold M.absI at b
 simp only[push_cast]
 refine zh (fun h=>?_) (fun h=>?_)
 ·rw[if_pos h] at b
  simp(disch:=omega) only[push_cast,zy,Int.zero_sub]
  exact b
 ·rw[if_neg h] at b
  exact b
theorem kW0 (x y:Int):zH PP zo [(1,.int .i64 x),(2,.int .i64 y)] w K=K (.agg ⟨yF ⟨false,x,y⟩⟩) w:=yh Qq (us:=[[.int .i64 x],[.int .i64 y]]) rfl rfl
theorem XO0 (x y:Int):zH PP zo [(0,.bool true),(1,.int .i64 x),(2,.int .i64 y)] w K=K (.agg ⟨yF ⟨true,x,y⟩⟩) w:=yh Qq (us:=[[.bool true],[.int .i64 x],[.int .i64 y]]) rfl rfl
theorem net_out {b2:Nat} {a:List Value} (f:Blk w b2 a zk) (h:a.length=2) (d:cs.length=2) (e:∀u,u∈cs→u.oneCell'=true) (g:∀w',Same (· =b2) w w'→K (.agg ⟨cs⟩) w'):
  zt PP zk (.pointer (some ⟨b2,0,none⟩)) (.agg ⟨cs⟩) w fun _ c=>vlv PP zk (.pointer (some ⟨b2,0,none⟩)) c K:=by
 refine f.stAgg (cs':=cs) (by omega) (by rw[d];exact yl) e fun c hs i b=>?_
 rw[b.lv (t:=zk) (by rw[d];exact yl)]
 exact g c hs
theorem sand6_spec (hn:n≤8) (P:GOff D w nv gs) (o:gs.length≤600) (hD:∀b,D b→b<w.heap.size) (ha:Sm a) (f:Sm b) (T:a≠0) (U:b≠0)
  (O:∀w' cs,Ext w w'→NetO n D w' (M.andG n gs a b).1 (M.andG n gs a b).2 cs→K (.tuple #[.agg ⟨cs⟩,.int .i64 (M.andG n gs a b).2]) w'):
  vcall PP QZ #[.agg ⟨[.int .i64 n,nv]⟩,.int .i64 a,.int .i64 b] w K:=by
 apply jD0
 obtain⟨go,gc,W,_⟩:=P.shape
 rw[W] at P⊢
 refine zD fun b1 w1 a1 z a3 R=>?_
 refine zF kQ fun b2 p a2 l a4 s=>?_
 have Q:=z.trans l
 have r:=R.ext l
 have i:∀K:Value→World→Prop,zf PP zk (.pointer (some ⟨b1,0,none⟩)) p K=K (.agg ⟨[.int .i64 n,.slice go (gs.map yF).length gc]⟩) p:=fun K=>r.ldAgg (t:=zk) yl
 have z1:=z.size;have z2:=l.size
 have same:∀(x:Int),x≠0→(M.andG n gs a b)=(gs,x)→∀w':World,w'=p→zt PP zk (.pointer (some ⟨b2,0,none⟩)) (.agg ⟨[.int .i64 n,.slice go (gs.map yF).length gc]⟩) w' fun _ E=>vlv PP zk (.pointer (some ⟨b2,0,none⟩)) E fun r6 F=>K (.tuple #[r6,(.int .i64 x)]) F:=fun x hx e w' ew=>by
  subst ew
  rw[e] at O
  refine net_out s rfl rfl net_one fun q Z=>?_
  have e3:Ext w q:=Ext.then Q Z fun y hy=>by subst hy;omega
  exact O q _ e3 (NetO.of (Sl.ext P e3) o hx)
 have X:GatesR (fun b=> ¬D b∧b<w.heap.size) w (.slice go (gs.map yF).length gc) gs:=Sl.weaken P fun b f o=>⟨f,o⟩
 have put:∀g:M.Gt,(M.andG n gs a b)=M.putG n gs g→vcall PP jT #[.agg ⟨[.int .i64 n,.slice go (gs.map yF).length gc]⟩,.agg ⟨yF g⟩] p fun t47 G=>zj PP t47 0 G fun t48 H=>zj PP t47 1 H fun t49 I=>
   zt PP zk (.pointer (some ⟨b2,0,none⟩)) t48 I fun _ L=>vlv PP zk (.pointer (some ⟨b2,0,none⟩)) L fun C N=>K (.tuple #[C,t49]) N:=fun g e=>by
  rw[e] at O
  refine sput_spec (D:=fun b=>D b∨b=b2) hn (Sl.weaken (Sl.ext X Q) fun b f o hd=>hd.elim f.1 fun e=>by have:=f.2;omega) o (fun b f=>f.elim (fun h=>by have:=hD b h;omega) fun h=>by omega) fun q n' a5 A V Y a0=>?_
  simp only[push_cast]
  have S:=NetO.put V Y a0 (put_len o)
  refine net_out (s.ext A) rfl S.len S.one fun w4 B=>?_
  exact O w4 _ (Ext.then (Q.trans A) B fun y hy=>by subst hy;omega) ((S.same B fun b f=> .inr f).weak fun b f=> .inl f)
 unfold Sm at ha f
 refine zV (fun u w'=>u=[]∧w'=p∧M.andG n gs a b=M.putG n gs ⟨false,a,b⟩) ?_ ?_
 ·intro J hJ
  refine zV (fun u w'=>u=[.bool (decide (a= -1∨b= -1∨a= -b))]∧w'=p) ?_ ?_
  ·intro J1 k
   simp only[push_cast]
   refine zh (fun c=>k _ _ ⟨by rw[decide_eq_true (.inl c)],rfl⟩) (fun c=>?_)
   try simp only[push_cast]
   refine zh (fun d=>k _ _ ⟨by rw[decide_eq_true (.inr (.inl d))],rfl⟩) (fun d=>?_)
   simp(disch:=omega) only[push_cast,zy,Int.zero_sub]
   refine k _ _ ⟨?_,rfl⟩
   rw[decide_eq_decide.2 (show(a= -1∨b= -1∨a= -b)↔a= -b from⟨fun h=>h.elim (fun h=>absurd h c) fun h=>h.elim (fun h=>absurd h d) id,fun h=> .inr (.inr h)⟩)]
  rintro _ _ q ⟨rfl,rfl⟩
  simp only[push_cast]
  refine zh (fun c=>?_) (fun c=>?_)
  ·rw[i]
   refine same (-1) (by decide) ?_ _ rfl
   unfold M.andG
   by_cases j:a= -1∨b= -1
   ·rw[if_pos j]
   ·rw[if_neg j]
    have d:a= -b:=c.elim (fun h=>absurd (.inl h) j) fun h=>h.elim (fun h=>absurd (.inr h) j) id
    rw[if_neg (by omega),if_neg (by omega)]
    by_cases c3:a=b
    ·exfalso;omega
    ·rw[if_neg c3,if_pos d]
  refine zV (fun u w'=>u=[.bool (decide (a=1∨a=b))]∧w'=q) ?_ ?_
  ·intro J2 v
   try simp only[push_cast]
   refine zh (fun c=>v _ _ ⟨by rw[decide_eq_true (.inl c)],rfl⟩) (fun d=>?_)
   try simp only[push_cast]
   refine v _ _ ⟨?_,rfl⟩
   rw[decide_eq_decide.2 (show(a=1∨a=b)↔a=b from⟨fun h=>h.elim (fun h=>absurd h d) id,.inr⟩)]
  rintro _ _ w4 ⟨rfl,rfl⟩
  have j: ¬(a= -1∨b= -1):=fun h=>c (h.elim .inl fun h=> .inr (.inl h))
  simp only[push_cast]
  refine zh (fun d=>?_) (fun d=>?_)
  ·rw[i]
   refine same b U ?_ _ rfl
   unfold M.andG
   rw[if_neg j]
   by_cases c3:a=1
   ·rw[if_pos c3]
   ·have m:a=b:=d.elim (fun h=>absurd h c3) id
    rw[if_neg c3]
    by_cases c5:b=1
    ·omega
    ·rw[if_neg c5,if_pos m,m]
  try simp only[push_cast]
  refine zh (fun c3=>?_) (fun c3=>?_)
  ·rw[i]
   refine same a T ?_ _ rfl
   unfold M.andG
   rw[if_neg j,if_neg (fun h=>d (.inl h)),if_pos c3]
  have hand:M.andG n gs a b=M.putG n gs (M.gateA a b):=by
   unfold M.andG
   rw[if_neg j,if_neg (fun h=>d (.inl h)),if_neg c3,if_neg (fun h=>d (.inr h)),if_neg (fun h=>c (.inr (.inr h)))]
  refine l4Abs_sm ha (l4Abs_sm f ?_)
  try simp only[push_cast]
  unfold M.gateA at hand
  refine zh (fun m=>?_) (fun m=>?_)
  ·rw[if_pos m] at hand
   rw[i,kW0]
   exact put _ hand
  ·rw[if_neg m] at hand
   exact hJ _ _ ⟨rfl,rfl,hand⟩
 rintro _ _ q ⟨rfl,rfl,hp⟩
 rw[i,kW0]
 exact put _ hp
theorem sxor6_spec (hn:n≤8) (R:GOff D w nv gs) (z:gs.length≤600) (hD:∀b,D b→b<w.heap.size) (Z:Sm a) (j:Sm b) (a8:a≠0) (a9:b≠0)
  (Q:∀w' cs,Ext w w'→NetO n D w' (M.xorG n gs a b).1 (M.xorG n gs a b).2 cs→K (.tuple #[.agg ⟨cs⟩,.int .i64 (M.xorG n gs a b).2]) w'):
  vcall PP QX #[.agg ⟨[.int .i64 n,nv]⟩,.int .i64 a,.int .i64 b] w K:=by
 apply jA0
 obtain⟨go,gc,a1,_⟩:=R.shape
 rw[a1] at R⊢
 refine zD fun b1 w1 aa H af V=>?_
 refine zF kQ fun b2 I ab s ag F=>?_
 have U:=H.trans s
 have E:=V.ext s
 have o:∀K:Value→World→Prop,zf PP zk (.pointer (some ⟨b1,0,none⟩)) I K=K (.agg ⟨[.int .i64 n,.slice go (gs.map yF).length gc]⟩) I:=fun K=>E.ldAgg (t:=zk) yl
 have z1:=H.size;have z2:=s.size
 have same:∀(x:Int),x≠0→(M.xorG n gs a b)=(gs,x)→∀w':World,w'=I→zt PP zk (.pointer (some ⟨b2,0,none⟩)) (.agg ⟨[.int .i64 n,.slice go (gs.map yF).length gc]⟩) w' fun _ L=>vlv PP zk (.pointer (some ⟨b2,0,none⟩)) L fun r6 N=>K (.tuple #[r6,(.int .i64 x)]) N:=fun x hx e w' ew=>by
  subst ew
  rw[e] at Q
  refine net_out F rfl rfl net_one fun C a4=>?_
  have e3:Ext w C:=Ext.then U a4 fun y B=>by subst B;omega
  exact Q C _ e3 (NetO.of (Sl.ext R e3) z hx)
 have a2:GatesR (fun b=> ¬D b∧b<w.heap.size) w (.slice go (gs.map yF).length gc) gs:=Sl.weaken R fun b j z=>⟨j,z⟩
 have absN:∀a:Int,M.absI a=(a.natAbs:Int):=fun a=>by unfold M.absI;split<;>omega
 have na:=absN a
 have nb:=absN b
 unfold Sm at Z j
 refine zV (fun u w'=>u=[]∧w'=I∧M.xorG n gs a b=((M.putG n gs (M.gateX a b)).1,M.turnI (decide (a<0) != decide (b<0)) (M.putG n gs (M.gateX a b)).2)) ?_ ?_
 ·intro J hJ
  refine zV (fun u w'=>u=[.bool (decide (a=1∨a= -1))]∧w'=I) ?_ ?_
  ·intro O i
   simp only[push_cast]
   refine zh (fun c=>i _ _ ⟨by rw[decide_eq_true (.inl c)],rfl⟩) (fun c=>?_)
   try simp only[push_cast]
   refine i _ _ ⟨?_,rfl⟩
   rw[decide_eq_decide.2 (show(a=1∨a= -1)↔a= -1 from⟨fun h=>h.elim (fun h=>absurd h c) id,.inr⟩)]
  rintro _ _ C ⟨rfl,rfl⟩
  simp only[push_cast]
  refine zh (fun c=>?_) (fun c=>?_)
  ·rw[o]
   have e:M.xorG n gs a b=(gs,-a*b):=by
    unfold M.xorG
    rcases c with rfl|rfl
    ·rw[if_pos (by decide)];simp[M.turnI]
    ·rw[if_pos (by decide)];simp[M.turnI]
   have hm:(-a*b).natAbs=b.natAbs:=by rcases c with rfl|rfl<;>simp
   have k: -a*b≠0:=by omega
   simp(disch:=omega) only[push_cast,zy,Int.zero_sub]
   exact same (-a*b) k e _ rfl
  refine zV (fun u w'=>u=[.bool (decide (b=1∨b= -1))]∧w'=C) ?_ ?_
  ·intro O i
   try simp only[push_cast]
   refine zh (fun c=>i _ _ ⟨by rw[decide_eq_true (.inl c)],rfl⟩) (fun c=>?_)
   try simp only[push_cast]
   refine i _ _ ⟨?_,rfl⟩
   rw[decide_eq_decide.2 (show(b=1∨b= -1)↔b= -1 from⟨fun h=>h.elim (fun h=>absurd h c) id,.inr⟩)]
  rintro _ _ w4 ⟨rfl,rfl⟩
  simp only[push_cast]
  have P: ¬M.absI a=1:=by omega
  refine zh (fun d=>?_) (fun d=>?_)
  ·rw[o]
   have e:M.xorG n gs a b=(gs,-b*a):=by
    unfold M.xorG
    rw[if_neg P]
    rcases d with rfl|rfl
    ·rw[if_pos (by decide)];simp[M.turnI]
    ·rw[if_pos (by decide)];simp[M.turnI]
   have hm:(-b*a).natAbs=a.natAbs:=by rcases d with rfl|rfl<;>simp
   have k: -b*a≠0:=by omega
   simp(disch:=omega) only[push_cast,zy,Int.zero_sub]
   exact same (-b*a) k e _ rfl
  have T: ¬M.absI b=1:=by omega
  try simp only[push_cast]
  refine zh (fun f=>?_) (fun f=>?_)
  ·rw[o]
   exact same (-1) (by decide) (by unfold M.xorG;rw[if_neg P,if_neg T,if_pos f]) _ rfl
  try simp(disch:=omega) only[push_cast,zy,Int.zero_sub]
  refine zh (fun f2=>?_) (fun f2=>?_)
  ·rw[o]
   exact same 1 (by decide) (by unfold M.xorG;rw[if_neg P,if_neg T,if_neg f,if_pos f2]) _ rfl
  exact hJ _ _ ⟨rfl,rfl,by unfold M.xorG;rw[if_neg P,if_neg T,if_neg f,if_neg f2]⟩
 rintro _ _ C ⟨rfl,rfl,hx⟩
 rw[hx] at Q
 have ae:=put_abs (g:=M.gateX a b) z hn
 refine zV (fun u w'=>u=[.int .i64 (if a<0 then-1 else 1)]∧w'=C) ?_ ?_
 ·intro O i
  simp only[push_cast]
  refine zh (fun c=>?_) (fun c=>?_)
  ·simp(disch:=omega) only[push_cast,zy,Int.zero_sub]
   exact i _ _ ⟨by rw[if_pos c],rfl⟩
  ·exact i _ _ ⟨by rw[if_neg c],rfl⟩
 rintro _ _ w4 ⟨rfl,rfl⟩
 refine zV (fun u w'=>u=[.int .i64 (if(decide (a<0) != decide (b<0)) then-1 else 1)]∧w'=w4) ?_ ?_
 ·intro O i
  simp only[push_cast]
  refine zh (fun c=>?_) (fun c=>?_)
  ·by_cases d:a<0
   ·rw[if_pos d]
    simp(disch:=omega) only[push_cast,zy,Int.zero_sub]
    exact i _ _ ⟨by simp[c,d],rfl⟩
   ·rw[if_neg d]
    simp(disch:=omega) only[push_cast,zy,Int.zero_sub]
    exact i _ _ ⟨by simp[c,d],rfl⟩
  ·refine i _ _ ⟨?_,rfl⟩
   by_cases d:a<0<;>simp[c,d]
 rintro _ _ w5 ⟨rfl,rfl⟩
 refine l4Abs_sm Z (l4Abs_sm j ?_)
 refine zV (fun u w'=>u=[.int .i64 (M.gateX a b).a,.int .i64 (M.gateX a b).b]∧w'=w5) ?_ ?_
 ·intro O i
  try simp only[push_cast]
  unfold M.gateX at i
  refine zh (fun c=>?_) (fun c=>?_)
  ·rw[if_pos c] at i
   exact l4Abs_sm j (l4Abs_sm Z (i _ _ ⟨rfl,rfl⟩))
  ·rw[if_neg c] at i
   exact i _ _ ⟨rfl,rfl⟩
 rintro _ _ w6 ⟨rfl,rfl⟩
 try simp only[push_cast]
 rw[o,XO0,show(⟨true,(M.gateX a b).a,(M.gateX a b).b⟩:M.Gt)=M.gateX a b from by unfold M.gateX;split<;>rfl]
 refine sput_spec (D:=fun b=>D b∨b=b2) hn (Sl.weaken (Sl.ext a2 U) fun b j z hd=>hd.elim j.1 fun e=>by have:=j.2;omega) z (fun b j=>j.elim (fun h=>by have:=hD b h;omega) fun h=>by omega) fun w7 n' a6 v a0 a3 a5=>?_
 simp only[push_cast]
 have q:=NetO.put a0 a3 a5 (put_len z)
 generalize [Value.int .i64 (n':Nat),a6]=cs at q⊢
 generalize ad:(M.putG n gs (M.gateX a b)).2=pm at*
 have r:=q.len
 refine zF kQ fun b8 w8 ac m ah W=>?_
 have a7:=q.same (Same.of_ext m (S:=fun _=>False)) fun b j=>j.elim
 refine W.stAgg (cs':=cs) (by rw[r];rfl) (by rw[r];exact yl) q.one fun w9 A ai X=>?_
 rw[X.ldAgg (t:=zk) (by rw[r];exact yl)]
 have hmul:(if(decide (a<0) != decide (b<0))=true then(-1:Int) else 1)*pm=M.turnI (decide (a<0) != decide (b<0)) pm:=by
  unfold M.turnI;split<;>omega
 try simp only[push_cast]
 rw[hmul,zy (by have:=zK0 (c:=decide (a<0) != decide (b<0)) (a:=pm);omega) (by have:=zK0 (c:=decide (a<0) != decide (b<0)) (a:=pm);omega)]
 have l7:=v.size;have l8:=m.size
 have G:=((F.ext v).ext m).same A (show¬b2=b8 by omega)
 refine net_out G rfl q.len q.one fun w10 p=>?_
 have e9:Ext w w9:=Ext.then ((U.trans v).trans m) A fun y B=>by subst B;omega
 refine Q w10 _ (Ext.then e9 p fun y B=>by subst B;omega) ?_
 have h9:Ext w7 w9:=Ext.then m A fun y B=>by subst B;omega
 have l:=((q.same (Same.of_ext h9 (S:=fun _=>False)) fun b j=>j.elim).same p fun b j=> .inr j).weak (Y:=D) fun b j=> .inl j
 unfold NetO at l⊢
 by_cases k:pm=0
 ·rw[if_pos k] at l;rw[if_pos (M.turn_zero.2 k)];exact l
 ·rw[if_neg k] at l;rw[if_neg (fun h=>k (M.turn_zero.1 h))];exact l
end Go.Proofs.YtaekfnbnhjgboaaGreatDoor
end
section
namespace Go.Proofs.YtaekfnbnhjgboaaGreatDoor
open Go Go.Vc Go.Proofs
variable {w:World} {K:Value→World→Prop} {D F Fx Fy Y S:Nat→Prop} {n b4 b8:Nat} {gs gs':M.Gs} {v nv:Value} {cs cs':List Value} {st st':Option M.Gs} {a b c m x y r:Int}
def MkR (n:Nat) (D:Nat→Prop) (w:World) (cs:List Value) (st:Option M.Gs):Prop:=
 match st with
 |some gs=> ∃o l c,cs=[.int .i64 n,.slice o l c,.bool true]∧GOff D w (.slice o l c) gs∧gs.length≤600
 |none=>cs=[.int .i64 0,.slice none 0 0,.bool false]
theorem MkR.form (h:MkR n D w cs st):∃(x:Int) (o:Option Addr) (l c:Nat) (b:Bool),cs=[.int .i64 x,.slice o l c,.bool b]:=by
 cases st with
 |none=>exact⟨_,_,_,_,_,h⟩
 |some gs=>obtain⟨o,l,c,e,_⟩:=h;exact⟨_,_,_,_,_,e⟩
theorem MkR.len (h:MkR n D w cs st):cs.length=3:=by obtain⟨x,o,l,c,b,rfl⟩:=h.form;rfl
theorem MkR.one (h:MkR n D w cs st):∀u,u∈cs→u.oneCell'=true:=by
 obtain⟨x,o,l,c,b,rfl⟩:=h.form
 intro u hu
 simp only[List.mem_cons,List.not_mem_nil,or_false] at hu
 rcases hu with rfl|rfl|rfl<;>rfl
theorem MkR.swap {w':World} (h:MkR n D w cs st) (hw:Same S w w') (f:∀b,S b→D b) (g:∀b,Y b→b<w.heap.size→D b):MkR n Y w' cs st:=by
 cases st with
 |none=>exact h
 |some gs=>
  obtain⟨o,l,c,e,a,d⟩:=h
  exact⟨o,l,c,e,a.swap hw f g,d⟩
theorem MkR.ext {w':World} (h:MkR n D w cs st) (hw:Ext w w') (a:∀b,Y b→b<w.heap.size→D b):MkR n Y w' cs st:=h.swap hw (fun _ h=>h.elim) a
theorem MkR.same {w':World} (h:MkR n D w cs st) (hw:Same S w w') (a:∀b,S b→D b):MkR n D w' cs st:=h.swap hw a fun _ h _=>h
def Sn (st:Option M.Gs) (x:Int):Prop:=Sm x∧(x=0→st=none)
def SnL (st:Option M.Gs) (xs:List Int):Prop:=∀x,x∈xs→Sn st x
theorem Xm0 {α:Type} {p:M.Bd α} {a:α} (h:M.Bd.Out n p st st' a):st=none→st'=none:=fun e=>by subst e;exact h.1
theorem Sn.out {α:Type} {p:M.Bd α} {a:α} (h:Sn st x) (b:M.Bd.Out n p st st' a):Sn st' x:=⟨h.1,fun e=>Xm0 b (h.2 e)⟩
theorem SnL.out {α:Type} {p:M.Bd α} {a:α} {xs:List Int} (h:SnL st xs) (b:M.Bd.Out n p st st' a):SnL st' xs:=fun x c=>(h x c).out b
theorem Sn.neg (h:Sn st x):Sn st (-x):=⟨by have:=h.1;unfold Sm at*;omega,fun e=>h.2 (by omega)⟩
theorem Sn.nz (h:Sn (some gs) x):x≠0:=fun e=>by have:=h.2 e;cases this
theorem Sn.of (h:Sm x) (a:x≠0):Sn st x:=⟨h,fun e=>absurd e a⟩
theorem SnL.get {xs:List Int} (h:SnL st xs) {i:Nat} (hi:i<xs.length):Sn st (xs.getD i 0):=h _ (M.getD_mem hi 0)
theorem SnL.app {xs ys:List Int} (h:SnL st xs) (a:SnL st ys):SnL st (xs++ys):=fun x b=>(List.mem_append.1 b).elim (h x) (a x)
theorem SnL.one (h:Sn st x):SnL st [x]:=fun y a=>by rw[List.mem_singleton.1 a];exact h
theorem SnL.nil:SnL st []:=fun x a=>by cases a
theorem SnL.sm {xs:List Int} (h:SnL st xs):SmL xs:=fun x a=>(h x a).1
theorem SnL.fill (m:Nat):SnL st (M.offsL m):=fun x a=>by rw[List.eq_of_mem_replicate a];exact Sn.of (by decide) (by decide)
theorem SnL.neg {xs:List Int} (h:SnL st xs):SnL st (M.negL xs):=fun x a=>by
 obtain⟨y,b,rfl⟩:=List.mem_map.1 a;exact(h y b).neg
theorem QJ0 {x:Int} {o:Option Addr} {l c:Nat} {b:Bool}:zH PP ze [(0,.agg ⟨[.int .i64 x,.slice o l c]⟩),(1,.bool b)] w K=K (.agg ⟨[.int .i64 x,.slice o l c,.bool b]⟩) w:=yh kt0 (us:=[[.int .i64 x,.slice o l c],[.bool b]]) rfl rfl
theorem zW0 {b4:Nat} (a:Blk w b4 cs ze) (h:cs.length=3):zf PP ze (.pointer (some ⟨b4,0,none⟩)) w K=K (.agg ⟨cs⟩) w:=a.ldAgg (t:=ze) (by rw[h];exact Z1)
theorem mk_put {b4:Nat} {a:List Value} (c:Blk w b4 a ze) (f:a.length=3) (e:cs.length=3) (b:∀u,u∈cs→u.oneCell'=true) (d:∀w',Same (· =b4) w w'→w'.heap.size=w.heap.size→Blk w' b4 cs ze→K undef w'):zt PP ze (.pointer (some ⟨b4,0,none⟩)) (.agg ⟨cs⟩) w K:=
 c.stAgg (cs':=cs) (by omega) (by rw[e];exact Z1) b d
theorem UN {b8:Nat} {a:List Value} (g:Blk w b8 a ze) (e:a.length=3) (d:cs.length=3) (f:∀u,u∈cs→u.oneCell'=true) (h:∀w',Same (· =b8) w w'→K (.agg ⟨cs⟩) w'):
  zt PP ze (.pointer (some ⟨b8,0,none⟩)) (.agg ⟨cs⟩) w fun _ c=>vlv PP ze (.pointer (some ⟨b8,0,none⟩)) c K:=
 mk_put g e d f fun c hs i b=>by
  rw[b.lv (t:=ze) (by rw[d];exact Z1)]
  exact h c hs
theorem sand7_spec (hn:n≤8) (X:MkR n D w cs st) (hD:∀b,D b→b<w.heap.size) (hx:Sn st x) (H:Sn st y)
  (T:∀w' cs' st' r,Ext w w'→MkR n D w' cs' st'→Sn st' r→M.Bd.Out n (.and x y .ret) st st' r→K (.tuple #[.agg ⟨cs'⟩,.int .i64 r]) w'):
  vcall PP xI #[.agg ⟨cs⟩,.int .i64 x,.int .i64 y] w K:=by
 apply jy0
 refine zD fun b3 w1 a2 E a6 P=>?_
 refine zF qe fun b6 w2 a3 p a7 z=>?_
 have N:=E.trans p
 have d:=P.ext p
 have z1:=E.size;have z2:=p.size
 cases st with
 |none=>
  have U:cs=[.int .i64 0,.slice none 0 0,.bool false]:=X
  subst U
  simp(disch:=first|(simp only[push_cast];done)|omega) only[push_cast,d.ld2,Bool.not_false,zW0 d rfl]
  refine UN z rfl rfl X.one fun w3 a0=>?_
  exact T w3 _ none 1 (Ext.then N a0 fun b e=>by omega) rfl (Sn.of (by decide) (by decide)) ⟨rfl,1,rfl⟩
 |some gs=>
  obtain⟨o,l,c,rfl,hg,I⟩:=X
  have G:zf PP zk (.pointer (some ⟨b3,0,none⟩)) w2=fun K=>K (.agg ⟨[.int .i64 n,.slice o l c]⟩) w2:=by
   funext K;exact Blk.ldTake (us:=[.int .i64 n,.slice o l c]) (r:=[.bool true]) d yl
  simp(disch:=first|(simp only[push_cast];done)|omega) only[push_cast,d.ld2,Bool.not_true,xm,Nat.add_zero,G]
  have V:GOff (fun b=>D b∨b=b3∨b=b6) w2 (.slice o l c) gs:=hg.swap N (fun _ h=>h.elim) fun b e I=>e.elim id fun h=>by omega
  refine sand6_spec hn V I (fun b e=>e.elim (fun h=>by have:=hD b h;omega) fun h=>by omega) hx.1 H.1 hx.nz H.nz fun w3 J q j=>?_
  have hlen:gs.length≤600:=I
  have C:=Yx0 (gs:=gs) (n:=n) I hn hx.1 H.1
  have f:(M.Bd.and x y .ret:M.Bd Int).run n gs=if(M.andG n gs x y).2=0 then none else some ((M.andG n gs x y).1,(M.andG n gs x y).2):=rfl
  generalize a5:(M.andG n gs x y).1=v at*
  generalize (M.andG n gs x y).2=m at*
  simp only[push_cast]
  have k:=j.len
  refine zF kQ fun b8 w8 a4 F a8 Q=>?_
  refine Q.stAgg (cs':=J) (by rw[k];rfl) (by rw[k];exact yl) j.one fun w9 a1 a9 R=>?_
  have z3:=q.size;have z8:=F.size
  have O:Ext w3 w9:=Ext.then F a1 fun y H=>by subst H;omega
  have B:=j.same (Same.of_ext O (S:=fun _=>False)) fun b e=>e.elim
  rw[R.ldAgg (t:=zk) (by rw[k];exact yl)]
  obtain⟨x3,o3,l3,c3,rfl⟩:=B.form
  simp only[push_cast,QJ0]
  have A:=(z.ext (q.trans O))
  refine UN A rfl rfl (fun u hu=>by simp only[List.mem_cons,List.not_mem_nil,or_false] at hu;rcases hu with rfl|rfl|rfl<;>rfl) fun w10 g=>?_
  have s:Ext w w10:=Ext.then (N.trans (q.trans O)) g fun b e=>by omega
  have a:=(B.same g fun b e=> .inr (.inr e)).weak (Y:=D) fun b e=> .inl e
  by_cases hm:m=0
  ·subst hm
   unfold NetO at a
   rw[if_pos rfl] at a
   simp only[List.cons.injEq,and_true] at a
   obtain⟨L,i⟩:=a
   rw[L,i]
   refine T w10 _ none 0 s rfl ⟨by decide,fun _=>rfl⟩ (.inr ⟨by rw[f,if_pos rfl],rfl,0,rfl⟩)
  ·unfold NetO at a
   rw[if_neg hm] at a
   obtain⟨o4,l4,c4,e4,W,Z⟩:=a
   simp only[List.cons.injEq,and_true] at e4
   obtain⟨L,i⟩:=e4
   rw[L,i,decide_eq_true hm]
   refine T w10 _ (some v) m s ⟨o4,l4,c4,rfl,W,Z⟩ (Sn.of C hm) (.inl ⟨v,by rw[f,if_neg hm],rfl⟩)
theorem sxor7_spec (hn:n≤8) (X:MkR n D w cs st) (hD:∀b,D b→b<w.heap.size) (hx:Sn st x) (H:Sn st y)
  (T:∀w' cs' st' r,Ext w w'→MkR n D w' cs' st'→Sn st' r→M.Bd.Out n (.xor x y .ret) st st' r→K (.tuple #[.agg ⟨cs'⟩,.int .i64 r]) w'):
  vcall PP qU #[.agg ⟨cs⟩,.int .i64 x,.int .i64 y] w K:=by
 apply jr0
 refine zD fun b3 w1 a2 E a6 P=>?_
 refine zF qe fun b6 w2 a3 p a7 z=>?_
 have N:=E.trans p
 have d:=P.ext p
 have z1:=E.size;have z2:=p.size
 cases st with
 |none=>
  have U:cs=[.int .i64 0,.slice none 0 0,.bool false]:=X
  subst U
  simp(disch:=first|(simp only[push_cast];done)|omega) only[push_cast,d.ld2,Bool.not_false,zW0 d rfl]
  refine UN z rfl rfl X.one fun w3 a0=>?_
  exact T w3 _ none 1 (Ext.then N a0 fun b e=>by omega) rfl (Sn.of (by decide) (by decide)) ⟨rfl,1,rfl⟩
 |some gs=>
  obtain⟨o,l,c,rfl,hg,I⟩:=X
  have G:zf PP zk (.pointer (some ⟨b3,0,none⟩)) w2=fun K=>K (.agg ⟨[.int .i64 n,.slice o l c]⟩) w2:=by
   funext K;exact Blk.ldTake (us:=[.int .i64 n,.slice o l c]) (r:=[.bool true]) d yl
  simp(disch:=first|(simp only[push_cast];done)|omega) only[push_cast,d.ld2,Bool.not_true,xm,Nat.add_zero,G]
  have V:GOff (fun b=>D b∨b=b3∨b=b6) w2 (.slice o l c) gs:=hg.swap N (fun _ h=>h.elim) fun b e I=>e.elim id fun h=>by omega
  refine sxor6_spec hn V I (fun b e=>e.elim (fun h=>by have:=hD b h;omega) fun h=>by omega) hx.1 H.1 hx.nz H.nz fun w3 J q j=>?_
  have hlen:gs.length≤600:=I
  have C:=Zz0 (gs:=gs) (n:=n) I hn hx.1 H.1
  have f:(M.Bd.xor x y .ret:M.Bd Int).run n gs=if(M.xorG n gs x y).2=0 then none else some ((M.xorG n gs x y).1,(M.xorG n gs x y).2):=rfl
  generalize a5:(M.xorG n gs x y).1=v at*
  generalize (M.xorG n gs x y).2=m at*
  simp only[push_cast]
  have k:=j.len
  refine zF kQ fun b8 w8 a4 F a8 Q=>?_
  refine Q.stAgg (cs':=J) (by rw[k];rfl) (by rw[k];exact yl) j.one fun w9 a1 a9 R=>?_
  have z3:=q.size;have z8:=F.size
  have O:Ext w3 w9:=Ext.then F a1 fun y H=>by subst H;omega
  have B:=j.same (Same.of_ext O (S:=fun _=>False)) fun b e=>e.elim
  rw[R.ldAgg (t:=zk) (by rw[k];exact yl)]
  obtain⟨x3,o3,l3,c3,rfl⟩:=B.form
  simp only[push_cast,QJ0]
  have A:=(z.ext (q.trans O))
  refine UN A rfl rfl (fun u hu=>by simp only[List.mem_cons,List.not_mem_nil,or_false] at hu;rcases hu with rfl|rfl|rfl<;>rfl) fun w10 g=>?_
  have s:Ext w w10:=Ext.then (N.trans (q.trans O)) g fun b e=>by omega
  have a:=(B.same g fun b e=> .inr (.inr e)).weak (Y:=D) fun b e=> .inl e
  by_cases hm:m=0
  ·subst hm
   unfold NetO at a
   rw[if_pos rfl] at a
   simp only[List.cons.injEq,and_true] at a
   obtain⟨L,i⟩:=a
   rw[L,i]
   refine T w10 _ none 0 s rfl ⟨by decide,fun _=>rfl⟩ (.inr ⟨by rw[f,if_pos rfl],rfl,0,rfl⟩)
  ·unfold NetO at a
   rw[if_neg hm] at a
   obtain⟨o4,l4,c4,e4,W,Z⟩:=a
   simp only[List.cons.injEq,and_true] at e4
   obtain⟨L,i⟩:=e4
   rw[L,i,decide_eq_true hm]
   refine T w10 _ (some v) m s ⟨o4,l4,c4,rfl,W,Z⟩ (Sn.of C hm) (.inl ⟨v,by rw[f,if_neg hm],rfl⟩)
theorem sor7_spec (O:n≤8) (s:MkR n D w cs st) (hD:∀b,D b→b<w.heap.size) (F:Sn st x) (G:Sn st y)
  (J:∀w' cs' st' r,Ext w w'→MkR n D w' cs' st'→Sn st' r→M.Bd.Out n (M.orB x y) st st' r→K (.tuple #[.agg ⟨cs'⟩,.int .i64 r]) w'):
  vcall PP kU #[.agg ⟨cs⟩,.int .i64 x,.int .i64 y] w K:=by
 apply kr0
 refine zD fun b3 U L j P o=>?_
 refine zF qe fun C S N e Q p=>?_
 have E:=j.trans e
 have d:=o.ext e
 have X:=j.size;have z2:=e.size
 have z:=F.1;have A:=G.1
 unfold Sm at z A
 simp(disch:=omega) only[push_cast,zW0 d s.len,zy,Int.zero_sub]
 have t:MkR n (fun b=>D b∨b=b3∨b=C) S cs st:=s.ext E fun b c T=>c.elim id fun h=>by omega
 refine sand7_spec O t (fun b c=>c.elim (fun h=>by have:=hD b h;omega) fun h=>by omega) F.neg G.neg fun V m B r f a k u=>?_
 have v:=k.1
 unfold Sm at v
 simp only[push_cast]
 refine mk_put (d.ext f) s.len a.len a.one fun W g R q=>?_
 have i:=(p.ext f).same g (show¬C=b3 by omega)
 simp(disch:=omega) only[push_cast,zW0 q a.len,zy,Int.zero_sub]
 refine UN i rfl a.len a.one fun H l=>?_
 have I:Ext w H:=Ext.then (Ext.then (E.trans f) g fun b c=>by omega) l fun b c=>by omega
 exact J H m B (-r) I ((a.same g fun b c=> .inr (.inl c)).swap l (fun b c=> .inr (.inr c)) fun b c _=> .inl c) k.neg (qr u (M.Bd.Out.ret _ _))
theorem sone7_spec (R:n≤8) (N:MkR n D w cs st) (hD:∀b,D b→b<w.heap.size) (J:Sn st c) (hx:Sn st x) (hy:Sn st y)
  (hK:∀w' cs' st' r,Ext w w'→MkR n D w' cs' st'→Sn st' r→M.Bd.Out n (M.muxB c x y) st st' r→K (.tuple #[.agg ⟨cs'⟩,.int .i64 r]) w'):
  vcall PP Zc #[.agg ⟨cs⟩,.int .i64 c,.int .i64 x,.int .i64 y] w K:=by
 apply js0
 refine zD fun b3 w1 a2 z a4 G=>?_
 refine zF qe fun E Y a3 k a5 H=>?_
 have X:=z.trans k
 have i:=G.ext k
 have z1:=z.size;have z2:=k.size
 have L:=J.1
 unfold Sm at L
 rw[zW0 i N.len]
 have O:MkR n (fun b=>D b∨b=b3∨b=E) Y cs st:=N.ext X fun b a hl=>a.elim id fun h=>by omega
 have j:∀b,(D b∨b=b3∨b=E)→b<Y.heap.size:=fun b a=>a.elim (fun h=>by have:=hD b h;omega) fun h=>by omega
 refine sand7_spec R O j J hx fun w3 a0 a8 p e d T m=>?_
 simp only[push_cast]
 refine mk_put (i.ext e) N.len d.len d.one fun w4 o a6 v=>?_
 have z3:=e.size
 have t:=(H.ext e).same o (show¬E=b3 by omega)
 have P:=d.same o fun b a=> .inr (.inl a)
 simp(disch:=omega) only[push_cast,zW0 v d.len,zy,Int.zero_sub]
 refine sand7_spec R P (fun b a=>by have:=j b a;omega) (J.out m).neg (hy.out m) fun w5 a1 a9 q f g U B=>?_
 simp only[push_cast]
 refine mk_put (v.ext f) d.len g.len g.one fun w6 s a7 I=>?_
 have z5:=f.size
 have u:=(t.ext f).same s (show¬E=b3 by omega)
 have Q:=g.same s fun b a=> .inr (.inl a)
 rw[zW0 I g.len]
 refine sor7_spec R Q (fun b a=>by have:=j b a;omega) (T.out B) U fun w7 F W r A l V S=>?_
 simp only[push_cast]
 refine UN (u.ext A) rfl l.len l.one fun Z C=>?_
 have e6:Ext w w6:=Ext.then ((Ext.then (X.trans e) o fun b a=>by omega).trans f) s fun b a=>by omega
 have e8:Ext w Z:=Ext.then (e6.trans A) C fun b a=>by omega
 exact hK Z F W r e8 (l.swap C (fun b a=> .inr (.inr a)) fun b a _=> .inl a) V (qr m (qr B S))
end Go.Proofs.YtaekfnbnhjgboaaGreatDoor
end
section
namespace Go.Proofs.YtaekfnbnhjgboaaGreatDoor
open Go Go.Vc Go.Proofs
variable {w:World} {K:Value→World→Prop} {D F Fx Fy Y S O:Nat→Prop} {n b4 b8:Nat} {gs gs':M.Gs} {v nv xv yv:Value} {cs cs':List Value} {st st':Option M.Gs} {a b c m x y r:Int} {xs ys:List Int}
abbrev QY0 (D O:Nat→Prop) (b4 b8:Nat):Nat→Prop:=fun b=>D b∨b=b4∨b=b8∨O b
structure Fm (n:Nat) (D O:Nat→Prop) (w0:World) (b4 b8:Nat) (w:World) (st:Option M.Gs):Prop where
 ext:Ext w0 w
 k:∃cs,Blk w b4 cs ze∧MkR n (QY0 D O b4 b8) w cs st
 r:∃cs,Blk w b8 cs ze∧cs.length=3
 lo:w0.heap.size≤b4∧w0.heap.size≤b8∧b4≠b8
 off:∀b,O b→b<w.heap.size∧w0.heap.size≤b∧b≠b4∧b≠b8
 dlt:∀b,D b→b<w0.heap.size
theorem Fm.start (m:MkR n D w cs st) (hD:∀b,D b→b<w.heap.size) {K:Value→Value→World→Prop} (i:∀b4 b8 w',Fm n D (fun _=>False) w b4 b8 w' st→K (.pointer (some ⟨b4,0,none⟩)) (.pointer (some ⟨b8,0,none⟩)) w'):
  yG PP ze (.agg ⟨cs⟩) w fun t g=>y1 PP ze g fun t8 f=>K t t8 f:=by
 refine zD fun b4 g k c o d=>?_
 refine zF qe fun b8 f l a p e=>?_
 refine i b4 b8 f ⟨c.trans a,⟨cs,d.ext a,m.ext (c.trans a) fun b j q=>j.elim id fun h=>?_⟩,⟨_,e,rfl⟩,by omega,fun b h=>h.elim,hD⟩
 rcases h with h|h|h
 ·omega
 ·omega
 ·exact h.elim
section
variable {w0 w':World}
theorem Fm.lt4 (h:Fm n D O w0 b4 b8 w st):b4<w.heap.size∧b8<w.heap.size:=by
 obtain⟨_,a,_⟩:=h.k;obtain⟨_,b,_⟩:=h.r;exact⟨a.lt,b.lt⟩
theorem Fm.dl (h:Fm n D O w0 b4 b8 w st):∀b,QY0 D O b4 b8 b→b<w.heap.size:=fun b c=>by
 have l:=h.lt4;have s:=h.ext.size
 rcases c with a|a|a|a
 ·have:=h.dlt b a;omega
 ·omega
 ·omega
 ·exact(h.off b a).1
theorem Fm.grow (h:Fm n D O w0 b4 b8 w st) (he:Ext w w'):Fm n D O w0 b4 b8 w' st:=by
 obtain⟨cs,c,d⟩:=h.k;obtain⟨a,e,f⟩:=h.r
 exact⟨h.ext.trans he,⟨cs,c.ext he,d.ext he fun _ h _=>h⟩,⟨a,e.ext he,f⟩,h.lo,fun b i=>by have g:=h.off b i;have:=he.size;exact⟨by omega,g.2⟩,h.dlt⟩
theorem Fm.call (h:Fm n D O w0 b4 b8 w st):∃cs,MkR n (QY0 D O b4 b8) w cs st∧∀w',Ext w w'→∀K:Value→World→Prop,zf PP ze (.pointer (some ⟨b4,0,none⟩)) w' K=K (.agg ⟨cs⟩) w':=by
 obtain⟨cs,b,a⟩:=h.k
 exact⟨cs,a,fun w' he K=>zW0 (b.ext he) a.len⟩
theorem Fm.put (h:Fm n D O w0 b4 b8 w st) (he:Ext w w') (c:MkR n (QY0 D O b4 b8) w' cs' st') (o:∀w'',Fm n D O w0 b4 b8 w'' st'→Same (· =b4) w' w''→w''.heap.size=w'.heap.size→K undef w''):
  zt PP ze (.pointer (some ⟨b4,0,none⟩)) (.agg ⟨cs'⟩) w' K:=by
 obtain⟨cs,f,g⟩:=h.k;obtain⟨d,i,j⟩:=h.r
 refine mk_put (f.ext he) g.len c.len c.one fun w'' hs p m=>o w'' ⟨Ext.then (h.ext.trans he) hs fun b a=>by have:=h.lo;omega,⟨cs',m,c.same hs fun b a=> .inr (.inl a)⟩,⟨d,(i.ext he).same hs fun e=>h.lo.2.2 e.symm,j⟩,h.lo,fun b a=>?_,h.dlt⟩ hs p
 have l:=h.off b a;have:=he.size;exact⟨by omega,l.2⟩
theorem Fm.own {O':Nat→Prop} (h:Fm n D O w0 b4 b8 w st) (hw:Same S w w') (e:∀b,S b→O b) (g:∀b,O' b→b<w'.heap.size∧(O b∨w.heap.size≤b)):Fm n D O' w0 b4 b8 w' st:=by
 obtain⟨cs,a,j⟩:=h.k;obtain⟨i,m,o⟩:=h.r
 have l:=h.lt4;have s:=h.ext.size
 refine⟨Ext.then h.ext hw fun b c=>(h.off b (e b c)).2.1,⟨cs,a.same hw fun hs=>(h.off _ (e _ hs)).2.2.1 rfl,j.swap hw (fun b c=> .inr (.inr (.inr (e b c)))) fun b c p=>?_⟩,⟨i,m.same hw fun hs=>(h.off _ (e _ hs)).2.2.2 rfl,o⟩,h.lo,fun b c=>?_,h.dlt⟩
 ·rcases c with a|a|a|a
  ·exact .inl a
  ·exact .inr (.inl a)
  ·exact .inr (.inr (.inl a))
  ·exact(g b a).2.elim (fun h=> .inr (.inr (.inr h))) fun h=>by omega
 ·obtain⟨f,d⟩:=g b c
  rcases d with d|d
  ·have:=h.off b d;exact⟨f,this.2⟩
  ·exact⟨f,by omega,by omega,by omega⟩
theorem Fm.fin (h:Fm n D O w0 b4 b8 w st) (g:∀w' cs,Ext w0 w'→MkR n D w' cs st→Same (· =b8) w w'→K (.agg ⟨cs⟩) w'):
  zf PP ze (.pointer (some ⟨b4,0,none⟩)) w fun t i=>zt PP ze (.pointer (some ⟨b8,0,none⟩)) t i fun _ j=>vlv PP ze (.pointer (some ⟨b8,0,none⟩)) j K:=by
 obtain⟨cs,d,a⟩:=h.k;obtain⟨l,e,f⟩:=h.r
 rw[zW0 d a.len]
 exact UN e f a.len a.one fun w' hs=>g w' cs (Ext.then h.ext hs fun b c=>by have:=h.lo;omega) (a.swap hs (fun b c=> .inr (.inr (.inl c))) fun b c _=> .inl c) hs
theorem Fm.out (h:Fm n D O w0 b4 b8 w st) (he:Ext w w') (c:MkR n (QY0 D O b4 b8) w' cs' st') (f:∀w'',Ext w0 w''→MkR n D w'' cs' st'→Same (· =b8) w' w''→K (.agg ⟨cs'⟩) w''):
  zt PP ze (.pointer (some ⟨b8,0,none⟩)) (.agg ⟨cs'⟩) w' fun _ g=>vlv PP ze (.pointer (some ⟨b8,0,none⟩)) g K:=by
 obtain⟨i,d,e⟩:=h.r
 exact UN (d.ext he) e c.len c.one fun w'' hs=>f w'' (Ext.then (h.ext.trans he) hs fun b a=>by have:=h.lo;omega) (c.swap hs (fun b a=> .inr (.inr (.inl a))) fun b a _=> .inl a) hs
end
abbrev O1 (v:Value):Nat→Prop:=fun b=>v.ownBlock=some b
abbrev Low (w:World):Nat→Prop:=fun b=>b<w.heap.size
theorem Ints.under (h:Ints Fx w xv xs):Ints (Low w) w xv xs:=Ints.weaken h fun _ _ a=>a
theorem Ints.ext0 {w0 w:World} (h:Ints (Low w0) w0 xv xs) (he:Ext w0 w):Ints (Low w0) w xv xs:=Ints.ext h he
theorem Fm.app {w0:World} {zs:List Int} {x:Int} {ty:Nat} (h:Fm n D (O1 v) w0 b4 b8 w st) (l:OwnI PP zg w v zs) (r:zs.length≤1000000)
  (j:∀v' w',Fm n D (O1 v') w0 b4 b8 w' st→OwnI PP zg w' v' (zs++[x])→Ext w0 w'→K v' w'):
  vbuildS PP zg 1 [(0,.int .i64 x)] w fun t o=>vbi PP .append [zg,zg] ty [v,t] o K:=by
 refine yg ju qR jS rfl rfl fun q s k a m e=>?_
 refine(l.ext a).app1 jW e (by omega) (by omega) fun v6 p c g f=>?_
 have i:=(h.grow a).own (O':=O1 v6) g (fun b d=>d) fun b d=>⟨c.lt d,f b d⟩
 exact j v6 p i c i.ext
theorem Fm.nil {w0:World} (h:Fm n D (fun _=>False) w0 b4 b8 w st) (j:∀v' w',Fm n D (O1 v') w0 b4 b8 w' st→OwnI PP zg w' v' []→Ext w0 w'→K v' w'):vbuildS PP zg 0 [] w K:=by
 refine qk ju qR fun a i k f m c=>?_
 have l:OwnI PP zg i (.slice (some ⟨a,0,none⟩) 0 0) []:=Blk.own1 (P:=PP) (t:=zg) (cs:=[]) (by rw[Qj];exact c) (Nat.zero_le _) rfl rfl (by omega)
 have g:=h.own (O':=O1 (.slice (some ⟨a,0,none⟩) 0 0)) (S:=fun _=>False) f (fun b d=>d) fun b d=>by
  have e:a=b:=Option.some.inj d
  exact⟨by omega,.inr (by omega)⟩
 exact j _ i g l g.ext
theorem sadd7_spec (hn:n≤8) (hk:MkR n D w cs st) (hD:∀b,D b→b<w.heap.size) (O:Ints Fx w xv xs) (hy:Ints Fy w yv ys) (hl:xs.length≤ys.length) (h8:xs.length≤1000) (b0:SnL st xs) (b1:SnL st ys) (hc:Sn st c)
  (hK:∀w' cs' st' r zs,Ext w w'→MkR n D w' cs' st'→OwnI PP zg w' r zs→(∀b,r.ownBlock=some b→w.heap.size≤b)→SnL st' zs→M.Bd.Out n (M.sumB xs ys c) st st' zs→K (.tuple #[.agg ⟨cs'⟩,r]) w'):
  vcall PP qV #[.agg ⟨cs⟩,xv,yv,.int .i64 c] w K:=by
 apply jz0
 refine Fm.start hk hD fun b4 b8 w1 h1=>?_
 refine h1.nil fun v2 w2 h2 av e2=>?_
 have P:=Ints.under O;have af:=Ints.under hy
 refine vloop_up xs.length (fun i u w'=> ∃k r zs c1,u=[.int .i64 c1,r,.int .i64 i]∧Fm n D (O1 r) w b4 b8 w' k∧OwnI PP zg w' r zs∧zs.length=i∧SnL k zs∧SnL k xs∧SnL k ys∧Sn k c1∧
  ∀st2 rs,M.Bd.Out n (M.sumB (xs.drop i) (ys.drop i) c1) k st2 rs→M.Bd.Out n (M.sumB xs ys c) st st2 (zs++rs)) ⟨st,_,[],c,rfl,h2,av,rfl,SnL.nil,b0,b1,hc,fun _ _ h=>h⟩ ?_
 rintro i _ g w3 C hi ⟨aj,r3,zs,c3,rfl,Q,a9,b2,ai,A,E,U,z⟩ hC
 have az:=Ints.ext0 P Q.ext
 simp(disch:=first|(simp only[push_cast];done)|omega) only[push_cast,az.len]
 refine zh (fun bo=>?_) (fun bn=>?_)
 ·have m:i<xs.length:=by omega
  refine zx fun w4 V _=>?_
  have R:=Q.grow V
  have ad:=Ints.ext0 P R.ext
  have ag:=Ints.ext0 af R.ext
  obtain⟨c4,J,a4⟩:=R.call
  simp(disch:=first|(simp only[push_cast];done)|omega) only[push_cast,ad.iaddr,ad.load,ag.iaddr,ag.load,true_and,a4 w4 (Same.refl _ _)]
  refine sxor7_spec hn J R.dl (A.get m) (E.get (by omega)) fun w5 bk br d W ap hd f=>?_
  simp only[push_cast,true_and]
  refine R.put W ap fun w6 h6 ax bp=>?_
  obtain⟨c6,aq,a5⟩:=h6.call
  simp only[push_cast,true_and,and_self,a5 w6 (Same.refl _ _)]
  refine sxor7_spec hn aq h6.dl hd (U.out f) fun w7 bl b5 s X ar hs j=>?_
  simp only[push_cast,true_and]
  refine h6.put X ar fun w8 an ay bq=>?_
  refine zx fun w9 Y _=>?_
  have S:=an.grow Y
  have ae:=Ints.ext0 P S.ext
  have ah:=Ints.ext0 af S.ext
  obtain⟨c9,au,a6⟩:=S.call
  simp(disch:=first|(simp only[push_cast];done)|omega) only[push_cast,ae.iaddr,ae.load,ah.iaddr,ah.load,true_and,a6 w9 (Same.refl _ _)]
  have B:=(A.out f).out j
  have F:=(E.out f).out j
  refine sand7_spec hn au S.dl (B.get m) (F.get (by omega)) fun w10 ba bg p o Z hp a=>?_
  simp only[push_cast,true_and]
  refine S.put o Z fun b6 H aa bd=>?_
  obtain⟨bi,a0,L⟩:=H.call
  simp only[push_cast,true_and,and_self,L b6 (Same.refl _ _)]
  refine sand7_spec hn a0 H.dl ((hd.out j).out a) (((U.out f).out j).out a) fun bs bb bh q t a1 hq l=>?_
  simp only[push_cast,true_and]
  refine H.put t a1 fun b7 I ab be=>?_
  obtain⟨bj,a2,N⟩:=I.call
  simp only[push_cast,true_and,and_self,N b7 (Same.refl _ _)]
  refine sor7_spec hn a2 I.dl (hp.out l) hq fun bt bc G c2 v a3 ao y=>?_
  simp only[push_cast,true_and]
  refine I.put v a3 fun b9 al ac bf=>?_
  have a7:OwnI PP zg b9 r3 zs:=by
   have off:∀b,r3.ownBlock=some b→¬b=b4:=fun b T=>(Q.off b T).2.2.1
   exact((((((((((a9.ext V).ext W).same ax off).ext X).same ay off).ext Y).ext o).same aa off).ext t).same ab off|>.ext v).same ac off
  refine al.app a7 (by omega) fun b3 bu am a8 bm=>?_
  simp(disch:=omega) only[push_cast,zy]
  have up:∀{x},Sn b5 x→Sn G x:=fun h=>((h.out a).out l).out y
  refine hC m _ _ ⟨G,b3,zs++[s],c2,by simp<;>exact⟨rfl,rfl⟩,am,a8,by simp[b2],SnL.app (fun x O=>up (((ai x O).out f).out j)) (SnL.one (up hs)),fun x O=>up (B x O),fun x O=>up (F x O),ao,fun st2 rs ho=>?_⟩
  have:=z st2 (s::rs) ?_
  ·simpa using this
  rw[xE m,xE (show i<ys.length by omega)]
  exact YB f (YB j (qr a (qr l (M.Bd.Out.bind y (M.Bd.Out.map _ ho)))))
 ·have:=z aj [] (by rw[ZL0 (by omega)];exact M.Bd.Out.ret _ _)
  rw[List.append_nil] at this
  refine Q.fin fun w4 ak e4 J aw=>?_
  exact hK w4 ak aj r3 zs e4 J (a9.same aw fun b T e=>(Q.off b T).2.2.2 e) (fun b T=>(Q.off b T).2.1) ai this
end Go.Proofs.YtaekfnbnhjgboaaGreatDoor
end
section
namespace Go.Proofs.YtaekfnbnhjgboaaGreatDoor
open Go Go.Vc Go.Proofs
variable {w:World} {K:Value→World→Prop} {D F Fx Fy Y S O:Nat→Prop} {n b4 b8:Nat} {gs gs':M.Gs} {v nv xv yv:Value} {cs cs':List Value} {st st':Option M.Gs} {a b c m x y r:Int} {xs ys:List Int}
theorem spec_nil (f:∀v' w',OwnI PP zg w' v' []→Ext w w'→(∀b,v'.ownBlock=some b→w.heap.size≤b)→K v' w'):vbuildS PP zg 0 [] w K:=by
 refine qk ju qR fun d j h c i a=>?_
 exact f _ j (Blk.own1 (P:=PP) (t:=zg) (cs:=[]) (by rw[Qj];exact a) (Nat.zero_le _) rfl rfl (by omega)) c fun b g=>by have e:d=b:=Option.some.inj g;omega
theorem spec_app {w0:World} {zs:List Int} {x:Int} {ty:Nat} (he:Ext w0 w) (l:OwnI PP zg w v zs) (i:∀b,v.ownBlock=some b→w0.heap.size≤b) (q:zs.length≤1000000)
  (j:∀v' w',OwnI PP zg w' v' (zs++[x])→Ext w0 w'→(∀b,v'.ownBlock=some b→w0.heap.size≤b)→K v' w'):
  vbuildS PP zg 1 [(0,.int .i64 x)] w fun t n=>vbi PP .append [zg,zg] ty [v,t] n K:=by
 refine yg ju qR jS rfl rfl fun p r k a m c=>?_
 refine(l.ext a).app1 jW c (by omega) (by omega) fun v6 o f g e=>?_
 have s:=he.size
 exact j v6 o f (Ext.then (he.trans a) g fun b d=>i b d) fun b d=>(e b d).elim (i b) fun h=>by omega
theorem sturn7_spec (t:Ints Fx w xv xs) (x:xs.length≤100000) (n:SmL xs) (s:∀w' r,Ext w w'→OwnI PP zg w' r (M.negL xs)→(∀b,r.ownBlock=some b→w.heap.size≤b)→K r w'):vcall PP qu #[xv] w K:=by
 apply qw0
 refine spec_nil fun v1 y m o k=>?_
 refine vloop_up xs.length (fun i u w'=> ∃r,u=[r,.int .i64 i]∧Ext w w'∧OwnI PP zg w' r (M.negL (xs.take i))∧∀b,r.ownBlock=some b→w.heap.size≤b) ⟨_,rfl,o,m,k⟩ ?_
 rintro i _ g v C hi ⟨r,rfl,j,d,f⟩ q
 have e:=Ints.ext t j
 simp(disch:=first|(simp only[push_cast];done)|omega) only[push_cast,e.len]
 refine zh (fun a=>?_) (fun a=>?_)
 ·have c:i<xs.length:=by omega
  have hs:=n.get c
  unfold Sm at hs
  simp(disch:=first|(simp only[push_cast];done)|omega) only[push_cast,e.iaddr,e.load,zy,Int.zero_sub]
  refine spec_app j d f (by rw[M.negL_len,List.length_take];omega) fun v3 z h p l=>?_
  try simp(disch:=omega) only[push_cast,zy]
  refine q c _ _ ⟨v3,by simp,p,?_,l⟩
  rw[M.take_add c 0];unfold M.negL at h⊢;rw[List.map_append];exact h
 ·have c:i=xs.length:=by omega
  subst c
  rw[List.take_length] at d
  exact s v r j d f
theorem sfill7_spec {m:Nat} {x:Int} (t:m≤100000) (q:∀w' r,Ext w w'→OwnI PP zg w' r (List.replicate m x)→(∀b,r.ownBlock=some b→w.heap.size≤b)→K r w'):vcall PP qw #[.int .i64 x,.int .i64 m] w K:=by
 apply qA0
 refine spec_nil fun v1 v j n f=>?_
 refine vloop_up m (fun i u w'=> ∃r,u=[r,.int .i64 i]∧Ext w w'∧OwnI PP zg w' r (List.replicate i x)∧∀b,r.ownBlock=some b→w.heap.size≤b) ⟨_,rfl,n,j,f⟩ ?_
 rintro i _ g s C hi ⟨r,rfl,l,e,d⟩ p
 simp only[push_cast]
 refine zh (fun a=>?_) (fun a=>?_)
 ·have c:i<m:=by omega
  refine spec_app l e d (by rw[List.length_replicate];omega) fun v3 y k o h=>?_
  try simp(disch:=omega) only[push_cast,zy]
  refine p c _ _ ⟨v3,by simp,o,?_,h⟩
  rw[List.replicate_succ'];exact k
 ·have c:i=m:=by omega
  subst c
  exact q s r l e d
theorem sless7_spec (W:n≤8) (hk:MkR n D w cs st) (hD:∀b,D b→b<w.heap.size) (hx:Ints Fx w xv xs) (hy:Ints Fy w yv ys) (hl:xs.length≤ys.length) (h8:xs.length≤1000) (S:SnL st xs) (T:SnL st ys)
  (hK:∀w' cs' st' r,Ext w w'→MkR n D w' cs' st'→Sn st' r→M.Bd.Out n (M.lessB xs ys (-1)) st st' r→K (.tuple #[.agg ⟨cs'⟩,.int .i64 r]) w'):
  vcall PP k8 #[.agg ⟨cs⟩,xv,yv] w K:=by
 apply qy0
 refine Fm.start hk hD fun b4 b8 w1 h1=>?_
 have v:=Ints.under hx;have y:=Ints.under hy
 refine vloop_up xs.length (fun i u w'=> ∃e r,u=[.int .i64 r,.int .i64 i]∧Fm n D (fun _=>False) w b4 b8 w' e∧SnL e xs∧SnL e ys∧Sn e r∧
  ∀st2 q,M.Bd.Out n (M.lessB (xs.drop i) (ys.drop i) r) e st2 q→M.Bd.Out n (M.lessB xs ys (-1)) st st2 q) ⟨st,-1,rfl,h1,S,T,Sn.of (by decide) (by decide),fun _ _ h=>h⟩ ?_
 rintro i _ g w3 C hi ⟨E,X,rfl,H,j,c,t,f⟩ hC
 have R:=Ints.ext0 v H.ext
 simp(disch:=first|(simp only[push_cast];done)|omega) only[push_cast,R.len]
 refine zh (fun a1=>?_) (fun a0=>?_)
 ·have k:i<xs.length:=by omega
  refine zx fun V I _=>?_
  have o:=H.grow I
  have x:=Ints.ext0 v o.ext
  have A:=Ints.ext0 y o.ext
  obtain⟨c4,l,p⟩:=o.call
  simp(disch:=first|(simp only[push_cast];done)|omega) only[push_cast,x.iaddr,x.load,A.iaddr,A.load,true_and,p V (Same.refl _ _)]
  refine sxor7_spec W l o.dl (j.get k) (c.get (by omega)) fun w5 Y a7 d J O hd a=>?_
  simp only[push_cast,true_and]
  refine o.put J O fun w6 h6 a3 a5=>?_
  try simp only[push_cast,true_and,and_self]
  refine zx fun w7 L _=>?_
  have F:=h6.grow L
  have B:=Ints.ext0 y F.ext
  obtain⟨c7,P,s⟩:=F.call
  simp(disch:=first|(simp only[push_cast];done)|omega) only[push_cast,B.iaddr,B.load,true_and,s w7 (Same.refl _ _)]
  refine sone7_spec W P F.dl hd ((c.out a).get (by omega)) (t.out a) fun w8 Z U q N Q hq m=>?_
  simp only[push_cast,true_and]
  refine F.put N Q fun w9 h9 a4 a6=>?_
  try simp(disch:=omega) only[push_cast,zy,true_and,and_self]
  refine hC k _ _ ⟨U,q,by simp<;>exact⟨rfl,rfl⟩,h9,(j.out a).out m,(c.out a).out m,hq,fun st2 z ho=>f st2 z ?_⟩
  rw[xE k,xE (show i<ys.length by omega)]
  exact YB a (M.Bd.Out.bind m ho)
 ·refine H.fin fun V G e4 l a2=>?_
  exact hK V G E X e4 l t (f E X (by rw[kL0 (by omega)];exact M.Bd.Out.ret _ _))
theorem ssame7_spec (W:n≤8) (hk:MkR n D w cs st) (hD:∀b,D b→b<w.heap.size) (hx:Ints Fx w xv xs) (hy:Ints Fy w yv ys) (hl:xs.length≤ys.length) (h8:xs.length≤1000) (Q:SnL st xs) (S:SnL st ys)
  (hK:∀w' cs' st' r,Ext w w'→MkR n D w' cs' st'→Sn st' r→M.Bd.Out n (M.sameB xs ys 1) st st' r→K (.tuple #[.agg ⟨cs'⟩,.int .i64 r]) w'):
  vcall PP Q4 #[.agg ⟨cs⟩,xv,yv] w K:=by
 apply qx0
 refine Fm.start hk hD fun b4 b8 w1 h1=>?_
 have v:=Ints.under hx;have R:=Ints.under hy
 refine vloop_up xs.length (fun i u w'=> ∃a r,u=[.int .i64 r,.int .i64 i]∧Fm n D (fun _=>False) w b4 b8 w' a∧SnL a xs∧SnL a ys∧Sn a r∧
  ∀st2 q,M.Bd.Out n (M.sameB (xs.drop i) (ys.drop i) r) a st2 q→M.Bd.Out n (M.sameB xs ys 1) st st2 q) ⟨st,1,rfl,h1,Q,S,Sn.of (by decide) (by decide),fun _ _ h=>h⟩ ?_
 rintro i _ g w3 C hi ⟨A,X,rfl,E,f,j,t,e⟩ hC
 have P:=Ints.ext0 v E.ext
 simp(disch:=first|(simp only[push_cast];done)|omega) only[push_cast,P.len]
 refine zh (fun a1=>?_) (fun a0=>?_)
 ·have k:i<xs.length:=by omega
  refine zx fun U H _=>?_
  have o:=E.grow H
  have x:=Ints.ext0 v o.ext
  have y:=Ints.ext0 R o.ext
  obtain⟨c4,l,p⟩:=o.call
  simp(disch:=first|(simp only[push_cast];done)|omega) only[push_cast,x.iaddr,x.load,y.iaddr,y.load,true_and,p U (Same.refl _ _)]
  refine sxor7_spec W l o.dl (f.get k) (j.get (by omega)) fun w5 Y a7 d I L V c=>?_
  simp only[push_cast,true_and]
  refine o.put I L fun w6 F a3 a5=>?_
  obtain⟨c6,N,s⟩:=F.call
  have G:=V.1
  unfold Sm at G
  simp(disch:=omega) only[push_cast,true_and,and_self,s w6 (Same.refl _ _),zy,Int.zero_sub]
  refine sand7_spec W N F.dl (t.out c) V.neg fun w8 Z T q J O hq m=>?_
  simp only[push_cast,true_and]
  refine F.put J O fun w9 h9 a4 a6=>?_
  try simp(disch:=omega) only[push_cast,zy,true_and,and_self]
  refine hC k _ _ ⟨T,q,by simp<;>exact⟨rfl,rfl⟩,h9,(f.out c).out m,(j.out c).out m,hq,fun st2 z ho=>e st2 z ?_⟩
  rw[xE k,xE (show i<ys.length by omega)]
  exact YB c (qr m ho)
 ·refine E.fin fun U B e4 l a2=>?_
  exact hK U B A X e4 l t (e A X (by rw[kD0 (by omega)];exact M.Bd.Out.ret _ _))
theorem sifs7_spec (hn:n≤8) (hk:MkR n D w cs st) (hD:∀b,D b→b<w.heap.size) (hx:Ints Fx w xv xs) (hy:Ints Fy w yv ys) (hl:xs.length≤ys.length) (h8:xs.length≤1000) (R:SnL st xs) (T:SnL st ys) (hc:Sn st c)
  (hK:∀w' cs' st' r zs,Ext w w'→MkR n D w' cs' st'→OwnI PP zg w' r zs→(∀b,r.ownBlock=some b→w.heap.size≤b)→SnL st' zs→M.Bd.Out n (M.eachB (M.muxB c) xs ys) st st' zs→K (.tuple #[.agg ⟨cs'⟩,r]) w'):
  vcall PP YE #[.agg ⟨cs⟩,.int .i64 c,xv,yv] w K:=by
 apply ju0
 refine Fm.start hk hD fun b4 b8 w1 h1=>?_
 refine h1.nil fun v2 w2 h2 J e2=>?_
 have A:=Ints.under hx;have S:=Ints.under hy
 refine vloop_up xs.length (fun i u w'=> ∃a r zs,u=[r,.int .i64 i]∧Fm n D (O1 r) w b4 b8 w' a∧OwnI PP zg w' r zs∧zs.length=i∧SnL a zs∧SnL a xs∧SnL a ys∧Sn a c∧
  ∀st2 rs,M.Bd.Out n (M.eachB (M.muxB c) (xs.drop i) (ys.drop i)) a st2 rs→M.Bd.Out n (M.eachB (M.muxB c) xs ys) st st2 (zs++rs)) ⟨st,_,[],rfl,h2,J,rfl,SnL.nil,R,T,hc,fun _ _ h=>h⟩ ?_
 rintro i _ g w3 C hi ⟨G,X,zs,rfl,o,z,U,F,j,k,t,f⟩ hC
 have Q:=Ints.ext0 A o.ext
 simp(disch:=first|(simp only[push_cast];done)|omega) only[push_cast,Q.len]
 refine zh (fun a1=>?_) (fun a0=>?_)
 ·have l:i<xs.length:=by omega
  refine zx fun W v _=>?_
  have p:=o.grow v
  have B:=Ints.ext0 A p.ext
  have E:=Ints.ext0 S p.ext
  obtain⟨c4,m,y⟩:=p.call
  simp(disch:=first|(simp only[push_cast];done)|omega) only[push_cast,B.iaddr,B.load,E.iaddr,E.load,true_and,y W (Same.refl _ _)]
  refine sone7_spec hn m p.dl t (j.get l) (k.get (by omega)) fun w5 Y V s x I hs d=>?_
  simp only[push_cast,true_and]
  refine p.put x I fun w6 h6 P a2=>?_
  try simp only[push_cast,true_and,and_self]
  have L:OwnI PP zg w6 X zs:=((z.ext v).ext x).same P fun b q=>(o.off b q).2.2.1
  refine h6.app L (by omega) fun r7 w7 h7 N e7=>?_
  simp(disch:=omega) only[push_cast,zy]
  refine hC l _ _ ⟨V,r7,zs++[s],by simp,h7,N,by simp[U],SnL.app (F.out d) (SnL.one hs),j.out d,k.out d,t.out d,fun st2 rs ho=>?_⟩
  have:=f st2 (s::rs) ?_
  ·simpa using this
  rw[Wb l (show i<ys.length by omega)]
  exact M.Bd.Out.bind d (M.Bd.Out.map _ ho)
 ·have:=f G [] (by rw[JZ (by omega)];exact M.Bd.Out.ret _ _)
  rw[List.append_nil] at this
  refine o.fin fun W H Z m O=>?_
  exact hK W H G X zs Z m (z.same O fun b q e=>(o.off b q).2.2.2 e) (fun b q=>(o.off b q).2.1) F this
def Xq (op:Int):Int→Int→M.Bd Int:=if op=3 then fun a b=> .and a b .ret else if op=4 then M.orB else fun a b=> .xor a b .ret
theorem splain7_spec {op:Int} (hn:n≤8) (hk:MkR n D w cs st) (hD:∀b,D b→b<w.heap.size) (hx:Ints Fx w xv xs) (hy:Ints Fy w yv ys) (hl:xs.length≤ys.length) (h8:xs.length≤1000) (a4:SnL st xs) (a5:SnL st ys)
  (hK:∀w' cs' st' r zs,Ext w w'→MkR n D w' cs' st'→OwnI PP zg w' r zs→(∀b,r.ownBlock=some b→w.heap.size≤b)→SnL st' zs→M.Bd.Out n (M.eachB (Xq op) xs ys) st st' zs→K (.tuple #[.agg ⟨cs'⟩,r]) w'):
  vcall PP X6 #[.agg ⟨cs⟩,.int .i64 op,xv,yv] w K:=by
 apply x20
 refine Fm.start hk hD fun b4 b8 w1 h1=>?_
 refine h1.nil fun v2 w2 h2 a1 e2=>?_
 have H:=Ints.under hx;have N:=Ints.under hy
 refine vloop_up xs.length (fun i u w'=> ∃B r zs,u=[r,.int .i64 i]∧Fm n D (O1 r) w b4 b8 w' B∧OwnI PP zg w' r zs∧zs.length=i∧SnL B zs∧SnL B xs∧SnL B ys∧
  ∀st2 rs,M.Bd.Out n (M.eachB (Xq op) (xs.drop i) (ys.drop i)) B st2 rs→M.Bd.Out n (M.eachB (Xq op) xs ys) st st2 (zs++rs)) ⟨st,_,[],rfl,h2,a1,rfl,SnL.nil,a4,a5,fun _ _ h=>h⟩ ?_
 rintro i _ g w3 C hi ⟨P,Z,zs,rfl,E,G,O,I,f,j,J⟩ hC
 have a3:=Ints.ext0 H E.ext
 simp(disch:=first|(simp only[push_cast];done)|omega) only[push_cast,a3.len]
 refine zh (fun a7=>?_) (fun a6=>?_)
 ·have t:i<xs.length:=by omega
  have L:∀d s,M.Bd.Out n (Xq op (xs.getD i 0) (ys.getD i 0)) P d s→∀st2 rs,M.Bd.Out n (M.eachB (Xq op) (xs.drop (i+1)) (ys.drop (i+1))) d st2 rs→M.Bd.Out n (M.eachB (Xq op) xs ys) st st2 ((zs++[s])++rs):=fun d s c st2 rs ho=>by
   have:=J st2 (s::rs) ?_
   ·simpa using this
   rw[Wb t (show i<ys.length by omega)]
   exact M.Bd.Out.bind c (M.Bd.Out.map _ ho)
  try simp only[push_cast]
  refine zh (fun c3=>?_) (fun c3=>?_)
  ·have V:Xq op=(fun a b=> .and a b .ret):=by unfold Xq;rw[if_pos c3]
   refine zx fun Q l _=>?_
   have k:=E.grow l
   have p:=Ints.ext0 H k.ext
   have q:=Ints.ext0 N k.ext
   obtain⟨R,v,o⟩:=k.call
   simp(disch:=first|(simp only[push_cast];done)|omega) only[push_cast,p.iaddr,p.load,q.iaddr,q.load,true_and,o Q (Same.refl _ _)]
   refine sand7_spec hn v k.dl (f.get t) (j.get (by omega)) fun w5 S d s m x hs c=>?_
   simp only[push_cast,true_and]
   refine k.put m x fun Y T A W=>?_
   try simp only[push_cast,true_and,and_self]
   have y:OwnI PP zg Y Z zs:=((G.ext l).ext m).same A fun b F=>(E.off b F).2.2.1
   refine T.app y (by omega) fun X w7 U z e7=>?_
   simp(disch:=omega) only[push_cast,zy]
   exact hC t _ _ ⟨d,X,zs++[s],by simp,U,z,by simp[O],SnL.app (I.out c) (SnL.one hs),f.out c,j.out c,L d s (by rw[V];exact c)⟩
  try simp only[push_cast]
  refine zh (fun R=>?_) (fun R=>?_)
  ·have V:Xq op=M.orB:=by unfold Xq;rw[if_neg c3,if_pos R]
   refine zx fun Q l _=>?_
   have k:=E.grow l
   have p:=Ints.ext0 H k.ext
   have q:=Ints.ext0 N k.ext
   obtain⟨R,v,o⟩:=k.call
   simp(disch:=first|(simp only[push_cast];done)|omega) only[push_cast,p.iaddr,p.load,q.iaddr,q.load,true_and,o Q (Same.refl _ _)]
   refine sor7_spec hn v k.dl (f.get t) (j.get (by omega)) fun w5 S d s m x hs c=>?_
   simp only[push_cast,true_and]
   refine k.put m x fun Y T A W=>?_
   try simp only[push_cast,true_and,and_self]
   have y:OwnI PP zg Y Z zs:=((G.ext l).ext m).same A fun b F=>(E.off b F).2.2.1
   refine T.app y (by omega) fun X w7 U z e7=>?_
   simp(disch:=omega) only[push_cast,zy]
   exact hC t _ _ ⟨d,X,zs++[s],by simp,U,z,by simp[O],SnL.app (I.out c) (SnL.one hs),f.out c,j.out c,L d s (by rw[V];exact c)⟩
  have V:Xq op=(fun a b=> .xor a b .ret):=by unfold Xq;rw[if_neg c3,if_neg R]
  refine zx fun Q l _=>?_
  have k:=E.grow l
  have p:=Ints.ext0 H k.ext
  have q:=Ints.ext0 N k.ext
  obtain⟨R,v,o⟩:=k.call
  simp(disch:=first|(simp only[push_cast];done)|omega) only[push_cast,p.iaddr,p.load,q.iaddr,q.load,true_and,o Q (Same.refl _ _)]
  refine sxor7_spec hn v k.dl (f.get t) (j.get (by omega)) fun w5 S d s m x hs c=>?_
  simp only[push_cast,true_and]
  refine k.put m x fun Y T A W=>?_
  try simp only[push_cast,true_and,and_self]
  have y:OwnI PP zg Y Z zs:=((G.ext l).ext m).same A fun b F=>(E.off b F).2.2.1
  refine T.app y (by omega) fun X w7 U z e7=>?_
  simp(disch:=omega) only[push_cast,zy]
  exact hC t _ _ ⟨d,X,zs++[s],by simp,U,z,by simp[O],SnL.app (I.out c) (SnL.one hs),f.out c,j.out c,L d s (by rw[V];exact c)⟩
 ·have:=J P [] (by rw[JZ (by omega)];exact M.Bd.Out.ret _ _)
  rw[List.append_nil] at this
  refine E.fin fun Q a0 e4 v a2=>?_
  exact hK Q a0 P Z zs e4 v (G.same a2 fun b F e=>(E.off b F).2.2.2 e) (fun b F=>(E.off b F).2.1) I this
end Go.Proofs.YtaekfnbnhjgboaaGreatDoor
end
