import Derived.Test.YtaekfnbnhjgboaaGreatDoorWuaP9
/- A part of the proof. -/
set_option linter.unusedVariables false
set_option linter.unusedSimpArgs false
set_option linter.unnecessarySimpa false
set_option linter.unusedSectionVars false
section
namespace Go.Proofs.YtaekfnbnhjgboaaGreatDoor
open Go Go.Vc Go.Proofs
variable {w:World} {K:Value→World→Prop} {F F' Fx Fy Fk Q X:Nat→Prop} {n bl bc mb bb kb m:Nat} {gs:M.Gs} {v dv:Value} {ar ab:Addr} {st:Option M.Gs} {ds:List M.Dcl}
theorem jg0 {a:Int}:zE PP zf [(0,.int .i64 a)] w K=K (.agg ⟨[.int .i64 a,.slice none 0 0]⟩) w:=yf VB (us:=[[.int .i64 a]]) rfl rfl
theorem yh0:zE PP zf [] w K=K (.agg ⟨[.int .i64 0,.slice none 0 0]⟩) w:=yf VB (us:=[]) rfl rfl
theorem qf0 {a:Addr}:zE PP zV [(0,.pointer (some a))] w K=K (.agg ⟨[.pointer (some a),.nilIface]⟩) w:=yf z40 (us:=[[.pointer (some a)]]) rfl rfl
theorem qg0 {a:Addr} {o:Option Addr} {l c k m:Nat}:zE PP zL [(0,.pointer (some a)),(1,.slice o l c),(2,.map (some k)),(3,.map (some m))] w K=K (.agg ⟨[.pointer (some a),.slice o l c,.map (some k),.map (some m)]⟩) w:=yf z50 (us:=[[.pointer (some a)],[.slice o l c],[.map (some k)],[.map (some m)]]) rfl rfl
theorem GatesR.nil:GatesR Fx w (.slice none 0 0) []:=Sl.weaken (Own.sl (OwnG.nil (w:=w))) fun b hb _=>by cases hb
theorem NetG.nil (n:Nat):M.NetG n []:=⟨by simp,fun k h=>absurd h (by simp),List.nodup_nil⟩
theorem newBlaster_spec (hd:M.declOk ds=true) (hdv:DclsR Fx w dv ds) (he:Errs (fun _=>False) w ar ab)
  (hK:∀w' bl bb kb m F,BlR (M.bits ds).toNat bl bb kb m ar ab ds dv (· =m) F w' (some [])→Ext w w'→(∀b,F b∨b=m∨b=bl→w.heap.size≤b)→K (.pointer (some ⟨bl,0,none⟩)) w'):vcall PP jR #[dv] w K:=by
 apply Vm;unfold Yj
 have h8:=(M.decl_iff.1 hd).2.2
 have h0:=M.bits_pos' (ds:=ds) fun d hd'=>by
  obtain⟨i,hi,e⟩:=List.getElem_of_mem hd'
  have:=(M.dcl_wide hd hi).1
  rw[List.getD_eq_getElem?_getD,List.getElem?_eq_getElem hi] at this
  simp only[Option.getD_some,e] at this
  omega
 refine bitsOf_spec hdv hd fun w1 he1=>?_
 rw[jg0,show M.bits ds=(((M.bits ds).toNat:Nat):Int) by omega]
 refine readNet_spec (Fx:=Fx) (gs:=[]) GatesR.nil (NetG.nil _) (by omega) fun w2 bc v' mb hc he2 hn2=>?_
 simp only[push_cast,qf0]
 refine zx fun bb w3 hb3 he3 hz3 hB3=>?_
 refine kinds_new fun w4 kb he4 hk4 hn4=>?_
 refine xu0 JZ fun m w5 hm hm5 he5 hz5=>?_
 obtain⟨o,c,rfl,_⟩:=hdv.shape
 rw[qg0]
 refine zx fun bl w6 hbl he6 hz6 hB6=>?_
 have s1:=he1.size;have s2:=he2.size;have s3:=he3.size;have s4:=he4.size;have s5:=he5.size;have s6:=he6.size
 have e26:=he3.trans (he4.trans (he5.trans he6))
 have e16:=he2.trans e26
 have e06:=he1.trans e16
 have hlt2:∀b,Qx bc mb v' b→b<w2.heap.size:=fun b hb=>hc.lt hb
 have hk6:=hk4.ext (he5.trans he6)
 have hkl:=hk4.lt
 have hsize:∀b,(Qx bc mb v' b∨b=bb)→w.heap.size≤b∧b<w4.heap.size:=fun b hb=>hb.elim (fun h=>by have:=hn2 b h;have:=hlt2 b h;omega) fun h=>by omega
 refine hK w6 bl bb kb m (fun b=>Qx bc mb v' b∨b=bb) ⟨⟨⟨?_,?_,?_⟩,⟨bc,hB3.ext (he4.trans (he5.trans he6)),fun gs e=>?_⟩,.inr rfl,fun b hb=>?_⟩,hB6,⟨fun h=>by have:=(hsize _ h).2;omega,fun h=>by have:=(hsize _ h).2;omega,?_,by omega,by omega⟩,rfl,?_,hk6,?_⟩ e06 fun b hb=>?_
 ·exact he.room.same e06 id
 ·exact he.bits.same e06 id
 ·have l1:=he.room.lt;have l2:=he.bits.lt
  exact⟨fun h=>by have:=(hsize _ h).1;omega,fun h=>by have:=(hsize _ h).1;omega⟩
 ·cases e
  exact⟨v',mb,hc.ext e26,fun h=>by have:=hlt2 _ h;omega,fun b hb=> .inl hb⟩
 ·rcases hb with h|h
  ·have:=(hsize _ h).2;omega
  ·omega
 ·rintro(h|h)
  ·have:=hlt2 _ h;omega
  ·omega
 ·have h1:DclsR (fun b=>Fx b∧b<w.heap.size) w _ ds:=Sl.weaken hdv fun b hb hl=>⟨hb,hl⟩
  exact Sl.weaken (Sl.ext h1 e06) fun b hb _=>⟨fun h=>by have:=(hsize _ h).1;omega,fun h=>by omega⟩
 ·exact⟨[],hm5.ext he6,fun p hp=>by cases hp⟩
 ·rcases hb with h|h|h
  ·exact(hsize _ h).1
  ·omega
  ·omega
def blastR (ds:List M.Dcl) (t:M.Tm):Nat×M.Gs×List Int:=
 if M.tsort ds t= -1 then(0,[],[]) else match(M.termB ds t).run (M.bits ds).toNat [] with
  |some (gs,zs)=>((M.bits ds).toNat,gs,zs)
  |none=>(0,[],[])
theorem zo0 {t:M.Tm} (h:M.tsort ds t≠ -1):M.fits t=true∧M.declOk ds=true∧M.sortM ds t≠ -1∧M.sizeM t≤20:=by
 unfold M.tsort at h
 split at h
 ·next hh=>exact⟨hh.1,hh.2,h,(M.fits_iff.1 hh.1).1⟩
 ·exact absurd rfl h
theorem TOut.lens {t:M.Tm} {gs:M.Gs} {zs:List Int} (h:TOut n (M.termB ds t) (some gs) st zs) (hd:M.declOk ds=true) (hs:M.sortM ds t≠ -1):(∃gs',st=some gs'∧(M.termB ds t).run n gs=some (gs',zs)∧zs.length≤4)∨(st=none∧(M.termB ds t).run n gs=none):=by
 rcases h with⟨g0,g1,e1,e2,e3⟩|⟨e1,e2⟩
 ·cases e1
  refine .inl ⟨g1,e2,e3,?_⟩
  have h1:=M.term_len hd t hs (M.Bd.reach_of_run e3)
  have h2:=M.sort_range hd t
  rw[h1];unfold M.lenS;omega
 ·exact .inr ⟨e1,e2 gs rfl⟩
theorem Mv.fresh {w0 w':World} (h:Mv F w F' w') (he:Ext w0 w) (hF:∀b,F b→w0.heap.size≤b):Ext w0 w':=Ext.then he h.same hF
theorem Blast_spec {t:M.Tm} {tv:Value} (hdv:DclsR Fx w dv ds) (ht:TermR Fy w tv t) (he:Errs (fun _=>False) w ar ab)
  (hK:∀w' gv lv,Ext w w'→OwnG w' gv (blastR ds t).2.1→OwnI PP zh w' lv (blastR ds t).2.2→(∀b,gv.ownBlock=some b→w.heap.size≤b)→(∀b,lv.ownBlock=some b→w.heap.size≤b∧gv.ownBlock≠some b)→K (.tuple #[.agg ⟨[.int .i64 (blastR ds t).1,gv]⟩,lv]) w'):
  vcall PP ZA #[dv,tv] w K:=by
 apply x50;unfold Wc
 obtain⟨cs,rfl,hcs⟩:=ht.cells
 refine zx fun b1 w1 hb1 he1 hz1 hB1=>?_
 refine zD xE fun b2 w2 hb2 he2 hz2 hB2=>?_
 have e2:=he1.trans he2
 have hB12:=hB1.ext he2
 have hld:∀w':World,Blk w' b1 cs z7→∀K:Value→World→Prop,ze PP z7 (.pointer (some ⟨b1,0,none⟩)) w' K=K (.agg ⟨cs⟩) w':=fun w' h K=>h.ldAgg (t:=z7) (by rw[xG hcs];exact zJ)
 have hag:∀{a:Int} {o:Option Addr} {l c:Nat},∀u,u∈[Value.int .i64 a,.slice o l c]→u.oneCell'=true:=fun u hu=>by
  simp only[List.mem_cons,List.not_mem_nil,or_false] at hu
  rcases hu with rfl|rfl<;>rfl
 rw[hld w2 hB12]
 refine TermSort_spec (hdv.ext e2) (hcs.ext e2).term fun w3 he3=>?_
 have e3:=e2.trans he3
 have hB13:=hB12.ext he3
 have hB23:=hB2.ext he3
 simp only[push_cast]
 have z1:=he1.size;have z2:=he2.size
 unfold blastR at hK
 have zero:∀w4:World,Ext w w4→Blk w4 b2 [.int .i64 0,.slice none 0 0] zf→(∀w' gv lv,Ext w w'→OwnG w' gv []→OwnI PP zh w' lv []→(∀b,gv.ownBlock=some b→w.heap.size≤b)→(∀b,lv.ownBlock=some b→w.heap.size≤b∧gv.ownBlock≠some b)→K (.tuple #[.agg ⟨[.int .i64 ((0:Nat):Int),gv]⟩,lv]) w')→
   zE PP zf [] w4 fun t27 w_21=>zr PP zf (.pointer (some ⟨b2,0,none⟩)) t27 w_21 fun _ w_22=>vlv PP zf (.pointer (some ⟨b2,0,none⟩)) w_22 fun r4_1 w_23=>K (.tuple #[r4_1,(.slice none 0 0)]) w_23:=fun w4 e4 hB4 hK=>by
  rw[yh0]
  refine hB4.stAgg (cs':=[.int .i64 0,.slice none 0 0]) rfl y5 hag fun w5 hs5 hz5 hB5=>?_
  rw[hB5.lv (t:=zf) y5]
  exact hK w5 _ _ (Ext.then e4 hs5 fun y hy=>by subst hy;omega) OwnG.nil OwnI.nil (fun b hb=>by cases hb) fun b hb=>by cases hb
 refine zg (fun c=>?_) (fun c=>?_)
 ·rw[if_pos c] at hK
  exact zero w3 e3 hB23 hK
 rw[if_neg c] at hK
 obtain⟨hfit,hd,hs,h20⟩:=zo0 c
 have he3':Errs (fun _=>False) w3 ar ab:=⟨he.room.same e3 id,he.bits.same e3 id,id,id⟩
 refine newBlaster_spec hd (hdv.ext e3) he3' fun w4 bl bb kb m F4 hb4 he4 hn4=>?_
 have hB14:=hB13.ext he4
 have hB24:=hB23.ext he4
 have s3:=he3.size
 have hlt2:b2<w3.heap.size:=by omega
 have ht3:TermR (fun b=>Fy b∧b<w.heap.size) w4 (.agg ⟨cs⟩) t:=((hcs.term.weaken fun b hb hl=>⟨hb,hl⟩).ext e3).ext he4
 rw[hld w4 hB14]
 refine term_spec hd t hs (by omega) hb4 (ht3.weaken fun b hb _=>⟨fun h=>by have:=hn4 b (.inl h);have:=e3.size;omega,fun h=>by have:=hn4 b (.inr (.inl h));have:=e3.size;omega⟩) fun w5 F5 st5 lv zs hb5 hm5 hl5 hz5 ho5=>?_
 have hn4':∀b,P1 m F4 b→w3.heap.size≤b:=fun b hb=>hb.elim (fun h=>hn4 b (.inl h)) fun h=>hn4 b (.inr (.inl h))
 have e35:Ext w3 w5:=hm5.fresh he4 hn4'
 have hB25:=hB23.ext e35
 refine zt fun w6 he6 _=>?_
 have hb6:=hb5.grow he6
 have hB26:=hB25.ext he6
 have e6:=e3.trans (e35.trans he6)
 obtain⟨bc,hBb,hCk⟩:=hb6.bd.blk
 have hn5:∀b,F5 b→w3.heap.size≤b:=fun b hb=>(hm5.new b (.inl hb)).elim (hn4' b) fun h=>by have:=he4.size;omega
 rcases ho5.lens hd hs with⟨gs5,rfl,hrun,hl4⟩|⟨rfl,hrun⟩
 ·rw[hrun] at hK
  simp only at hBb hK
  simp(disch:=first|(simp only[push_cast];done)|omega) only[push_cast,hb6.blk.ld0,hBb.ld1,xF Xj hb6.bd.err.room.cell,true_and]
  refine is_no ?_
  simp only[push_cast]
  refine zt fun w7 he7 _=>?_
  have hb7:=hb6.grow he7
  obtain⟨bc,hBb,hCk⟩:=hb7.bd.blk
  obtain⟨gvv,mb,hck,hcb,hcF⟩:=hCk gs5 rfl
  simp only at hBb
  have hnet:∀w':World,Ext w7 w'→∀K:Value→World→Prop,ze PP zf (.pointer (some ⟨bc,0,none⟩)) w' K=K (.agg ⟨[.int .i64 ((M.bits ds).toNat:Nat),gvv]⟩) w':=fun w' h K=>Blk.ldTake (us:=[.int .i64 ((M.bits ds).toNat:Nat),gvv]) (r:=[.map (some mb)]) (hck.blk.ext h) y5
  simp(disch:=first|(simp only[push_cast];done)|omega) only[push_cast,hb7.blk.ld0,hBb.ld0,hnet w7 (Same.refl _ _),true_and]
  refine numbers_spec (Ints.ext (Ints.ext hl5 he6) he7) (by omega) fun w8 lv8 he8 hl8 hn8=>?_
  have hb8:=hb7.grow he8
  have hBb8:=hBb.ext he8
  simp(disch:=first|(simp only[push_cast];done)|omega) only[push_cast,hb8.blk.ld0,hBb8.ld0,hnet w8 he8,true_and,and_self,and_true]
  have hB28:=(hB26.ext he7).ext he8
  obtain⟨o,c,hgo,_⟩:=(Own.sl hck.own).shape
  rw[hgo] at hck hcF⊢
  refine hB28.stAgg (cs':=[.int .i64 _,.slice o (gs5.map yH).length c]) rfl y5 hag fun w9 hs9 hz9 hB9=>?_
  rw[hB9.lv (t:=zf) y5]
  have s6:=e6.size;have s7:=he7.size;have s8:=he8.size
  have z35:=e35.size;have z6:=he6.size
  have hglt:∀b,(Value.slice o (gs5.map yH).length c).ownBlock=some b→w3.heap.size≤b∧b<w7.heap.size:=fun b hb=>⟨hn5 b (hcF b (.inr (.inr hb))),(Own.lt hck.own hb).2⟩
  refine hK w9 _ _ (Ext.then (e6.trans (he7.trans he8)) hs9 fun y hy=>by subst hy;omega) ((Own.ext hck.own he8).same hs9 fun b hb e=>by have:=(hglt b hb).1;omega) (hl8.same hs9 fun b hb e=>by have:=hn8 b hb;omega) (fun b hb=>by have:=(hglt b hb).1;omega) fun b hb=>⟨by have:=hn8 b hb;omega,fun h=>by have:=(hglt b h).2;have:=hn8 b hb;omega⟩
 ·rw[hrun] at hK
  simp only at hBb hK
  simp(disch:=first|(simp only[push_cast];done)|omega) only[push_cast,hb6.blk.ld0,hBb.ld1,xF Xj hb6.bd.err.room.cell,true_and]
  refine ZL0 ?_
  simp only[push_cast]
  exact zero w6 e6 hB26 hK
end Go.Proofs.YtaekfnbnhjgboaaGreatDoor
end
section
namespace Go.Proofs.YtaekfnbnhjgboaaGreatDoor
open Go Go.Vc Go.Proofs
variable {w:World} {K:Value→World→Prop} {D F Fx Fy Y S:Nat→Prop} {n b4 b8:Nat} {gs:M.Gs} {v nv:Value} {cs cs':List Value} {st:Option M.Gs}
theorem j10 {op:BinOp} (ho:op= .eql∨op= .neq) (c:Bool) (x y:Array Value):(eqG op zm c (.agg x) (.agg y)).run PP w= .ok () w:=by
 rcases ho with rfl|rfl<;>cases c<;>kernel_rfl
theorem xb0 {c:Bool} (g h:M.Gt):zq PP .eql zm c (gv g) (gv h) w K=K (.bool (decide (g=h))) w:=by
 have h1:(Op.equal zm (gv g) (gv h)).run PP w= .ok (decide (g=h)) w:=eqGate g h w
 refine yB (j10 (.inl rfl) c _ _) ?_
 have e:∀xs ys:Array Value,binOp .eql zm (.agg xs) (.agg ys)=(do let b ←Op.equal zm (.agg xs) (.agg ys);pure (Value.bool b)):=fun _ _=>rfl
 unfold gv at h1⊢
 rw[e,Sem.run_bind,h1];rfl
abbrev GOff (D:Nat→Prop) (w:World) (v:Value) (gs:M.Gs):Prop:=GatesR (fun b=> ¬D b) w v gs
theorem GOff.swap {w':World} (h:GOff D w v gs) (hw:Same S w w') (hS:∀b,S b→D b) (hY:∀b,Y b→b<w.heap.size→D b):GOff Y w' v gs:=by
 have h1:GatesR (fun b=> ¬D b∧b<w.heap.size) w v gs:=Sl.weaken h fun b hb hl=>⟨hb,hl⟩
 exact Sl.weaken (Sl.same h1 hw fun b hb _ hs=>hb.1 (hS b hs)) fun b hb _ hy=>hb.1 (hY b hy hb.2)
theorem net_one {a:Int} {o:Option Addr} {l c:Nat}:∀u,u∈[Value.int .i64 a,.slice o l c]→u.oneCell'=true:=fun u hu=>by
 simp only[List.mem_cons,List.not_mem_nil,or_false] at hu
 rcases hu with rfl|rfl<;>rfl
theorem gates_app {x:Value} {b1:Nat} {t0:TypeId} {g:M.Gt} (hx:GatesR Fx w x gs) (hB:Blk w b1 (yH g) t0) (hl:gs.length≤1000) (ho:OwnG w v []) (hv:∀b,v.ownBlock=some b→b≠b1)
  (hK:∀w' v',OwnG w' v' (gs++[g])→Same (fun b=>v.ownBlock=some b∨w.heap.size≤b) w w'→(∀b,v'.ownBlock=some b→v.ownBlock=some b∨w.heap.size≤b)→K v' w'):
  vbi PP .append [zk,zk] zk [v,x] w fun t w1=>vbi PP .append [zk,zk] zk [t,.slice (some ⟨b1,0,none⟩) 1 1] w1 K:=by
 refine vappend (bs:=24) qD (by decide) ho hx (gone gs) (by omega) (by rw[List.length_map];simp;omega) (by rw[List.length_map];simp;omega) fun v' w2 ho2 hs2 hn2=>?_
 have hl1:=hB.lt
 refine Own.app1k (bs:=24) ho2 qD (by decide) (hB.same hs2 fun e=>hv _ e rfl) rfl (gone [g] _ (by simp)) (by simp;omega) (by simp;omega) fun v3 w3 ho3 hs3 hn3=>?_
 have s2:=hs2.size
 refine hK w3 v3 (by unfold OwnG;rw[List.map_append];exact ho3) (Same.thn (hs2.mono fun b _ h=> .inl h) (hs3.mono fun b _ h=>h) fun b hb=> .inl ((hn2 b hb).imp id id)) fun b hb=>?_
 rcases hn3 b hb with h|h
 ·exact hn2 b h
 ·exact .inr (by omega)
theorem sput_spec {g:M.Gt} (hn:n≤8) (hg:GOff D w nv gs) (hl:gs.length≤600) (hD:∀b,D b→b<w.heap.size)
  (hK:∀w' n' gv',Ext w w'→GOff D w' gv' (if(M.putG n gs g).2=0 then[] else(M.putG n gs g).1)→(n'=if(M.putG n gs g).2=0 then 0 else n)→((M.putG n gs g).2=0→gv'= .slice none 0 0)→K (.tuple #[.agg ⟨[.int .i64 (n':Nat),gv']⟩,.int .i64 (M.putG n gs g).2]) w'):
  vcall PP jf #[.agg ⟨[.int .i64 n,nv]⟩,.agg ⟨yH g⟩] w K:=by
 apply yQ0;unfold VX
 refine zx fun b1 w1 hb1 he1 hz1 hB1=>?_
 refine zx fun b2 w2 hb2 he2 hz2 hB2=>?_
 refine zD xE fun b3 w3 hb3 he3 hz3 hB3=>?_
 have e3:=he1.trans (he2.trans he3)
 have hB13:=hB1.ext (he2.trans he3)
 have hB23:=hB2.ext he3
 have hla:∀w':World,Blk w' b2 (yH g) zm→∀K:Value→World→Prop,ze PP zm (.pointer (some ⟨b2,0,none⟩)) w' K=K (.agg ⟨yH g⟩) w':=fun w' hB K=>Blk.ldAgg hB (by exact jT)
 have hlen:∀(w':World) (K:Value→World→Prop),vbi PP .len [zk] zc [nv] w' K=K (.int .i64 gs.length) w':=fun w' K=>by rw[Sl.len hg k7,jp0]
 obtain⟨go,gc,hgo,_⟩:=hg.shape
 have hidx:∀i,i<gs.length→gs.getD i ⟨false,0,0⟩=g→g∉gs.take i→(M.putG n gs g)=(gs,(2+n+i:Int)):=fun i hi h1 h2=>by
  have hm:g∈gs:=h1▸M.getD_mem hi _
  unfold M.putG
  rw[if_pos hm]
  have:gs.idxOf g=i:=by
   have e:=List.take_append_drop i gs
   have h3:gs.drop i=gs.getD i ⟨false,0,0⟩::gs.drop (i+1):=by
    rw[List.drop_eq_getElem_cons hi,List.getD_eq_getElem?_getD,List.getElem?_eq_getElem hi];rfl
   rw[←e,List.idxOf_append,if_neg h2,h3,h1,List.idxOf_cons_self,List.length_take];omega
  rw[this]
 refine vloop_up gs.length (fun i u w'=>u=[.int .i64 i]∧Ext w3 w'∧g∉gs.take i) ⟨rfl,Same.refl _ _,by simp⟩ ?_
 rintro i _ _ w4 C hi ⟨rfl,he4,hni⟩ hC
 have hB14:=hB13.ext he4
 have hB24:=hB23.ext he4
 have e4:=e3.trans he4
 simp(disch:=first|(simp only[push_cast];done)|omega) only[push_cast,hB14.ld1,hlen]
 refine zg (fun a=>?_) (fun a=>?_)
 ·have hi':i<gs.length:=by omega
  refine zt fun w5 he5 _=>?_
  have hB15:=hB14.ext he5
  have hB25:=hB24.ext he5
  have hg5:GOff D w5 nv gs:=Sl.ext hg (e4.trans he5)
  have hgi:(gs.map yH).getD i []=yH (gs.getD i ⟨false,0,0⟩):=M.getD_map _ hi' _ _
  simp(disch:=first|(simp only[push_cast];done)|omega) only[push_cast,hB15.ld1,true_and]
  rw[Sl.iaddr hg5 VJ (by omega) (by rw[jp0];omega),Int.toNat_natCast]
  simp(disch:=first|(simp only[push_cast];done)|omega) only[push_cast,true_and]
  rw[Sl.ldAgg hg5 jT (by rw[jp0];exact hi'),hgi]
  simp(disch:=first|(simp only[push_cast];done)|omega) only[push_cast,true_and,hla _ hB25]
  rw[show(Value.agg ⟨yH (gs.getD i ⟨false,0,0⟩)⟩)=gv (gs.getD i ⟨false,0,0⟩) from rfl,show(Value.agg ⟨yH g⟩)=gv g from rfl,xb0]
  refine⟨rfl,?_⟩
  refine zg (fun c=>?_) (fun c=>?_)
  ·have hp:=hidx i hi' c hni
   rw[hp] at hK
   refine zt fun w6 he6 _=>?_
   have hB16:=hB15.ext he6
   have hB36:=(hB3.ext (he4.trans he5)).ext he6
   subst hgo
   simp(disch:=first|(simp only[push_cast];done)|omega) only[push_cast,hB16.ld0,hB16.ldAgg (t:=zf) y5,true_and,zA]
   refine hB36.stAgg (cs':=[.int .i64 n,.slice go (gs.map yH).length gc]) rfl y5 net_one fun w7 hs7 hz7 hB7=>?_
   have e7:Ext w w7:=Ext.then ((e4.trans he5).trans he6) hs7 fun b hb=>by have:=he1.size;have:=he2.size;omega
   have hB17:=hB16.same hs7 (show¬b1=b3 by omega)
   simp(disch:=first|(simp only[push_cast];done)|omega) only[push_cast,hB17.ld0,true_and,and_self,zA]
   rw[hB7.lv (t:=zf) y5]
   refine hK w7 n _ e7 ?_ ?_ ?_
   ·rw[if_neg (by show(2+(n:Int)+i)≠0;omega)];exact Sl.ext hg e7
   ·rw[if_neg (by show(2+(n:Int)+i)≠0;omega)]
   ·intro h;exfalso;revert h;show(2+(n:Int)+i)=0→False;omega
  ·simp(disch:=omega) only[push_cast,zA]
   refine hC hi' _ _ ⟨by simp,he4.trans he5,?_⟩
   rw[M.take_add hi' ⟨false,0,0⟩]
   intro h
   rcases List.mem_append.1 h with h|h
   ·exact hni h
   ·exact c (List.mem_singleton.1 h).symm
 ·have hi':i=gs.length:=by omega
  subst hi'
  rw[List.take_length] at hni
  try simp(disch:=first|(simp only[push_cast];done)|omega) only[push_cast,hB14.ld1,hlen]
  refine zg (fun c=>?_) (fun c=>?_)
  ·have hp:M.putG n gs g=(gs,0):=by unfold M.putG;rw[if_neg hni,if_pos (by omega)]
   rw[hp] at hK
   rw[yh0]
   refine(hB3.ext he4).stAgg (cs':=[.int .i64 0,.slice none 0 0]) rfl y5 net_one fun w7 hs7 hz7 hB7=>?_
   rw[hB7.lv (t:=zf) y5]
   have e7:Ext w w7:=Ext.then e4 hs7 fun b hb=>by have:=he1.size;have:=he2.size;omega
   exact hK w7 0 _ e7 (by rw[if_pos rfl];exact GatesR.nil) (by rw[if_pos rfl]) fun _=>rfl
  ·have hp:M.putG n gs g=(gs++[g],(2+n+gs.length:Int)):=by unfold M.putG;rw[if_neg hni,if_neg (by omega)]
   rw[hp] at hK
   have s1:=he1.size;have s2:=he2.size;have s4:=e4.size;have s34:=he4.size
   refine zW (fun u w'=>u=[]∧Ext w w'∧∃v',Blk w' b1 [.int .i64 n,v'] zf∧Blk w' b3 [.int .i64 0,.slice none 0 0] zf∧OwnG w' v' (gs++[g])∧∀b,v'.ownBlock=some b→w.heap.size≤b∧b≠b1∧b≠b3) ?_ ?_
   ·intro J hJ
    refine zt fun w5 he5 _=>?_
    have e5:=e4.trans he5
    have hB15:=hB14.ext he5
    have hB25:=hB24.ext he5
    have hB35:=(hB3.ext he4).ext he5
    have s5:=he5.size
    have fin:∀(w8:World) (v':Value),Same (fun b=>w5.heap.size≤b) w5 w8→OwnG w8 v' (gs++[g])→(∀b,v'.ownBlock=some b→w5.heap.size≤b)→zr PP zk (.pointer (some (Addr.add ⟨b1,0,none⟩ 1))) v' w8 fun _ w_42=>J [] w_42:=fun w8 v' h58 ho8 hn8=>by
     have e8:Ext w5 w8:=⟨h58.os,h58.tape,h58.output,h58.size,fun i hi _=>h58.block i hi (by omega)⟩
     refine Blk.st (i:=1) (hB15.ext e8) (Sl.cells1 (Own.sl ho8)) (Sl.one (Own.sl ho8)) VF rfl fun w9 hs9 hz9 hB9=>?_
     refine hJ _ _ ⟨rfl,Ext.then (e5.trans e8) hs9 fun b hb=>by omega,v',hB9,(hB35.ext e8).same hs9 (show¬b3=b1 by omega),Own.same ho8 hs9 (fun b hb e=>by have:=hn8 b hb;omega),fun b hb=>by have:=hn8 b hb;omega⟩
    simp(disch:=first|(simp only[push_cast];done)|omega) only[push_cast,hB15.ld1,hla _ hB25,true_and,and_true]
    have mk:∀(w6:World) (K:Value→World→Prop),(∀b7 w7,b7=w6.heap.size→Ext w6 w7→w7.heap.size=w6.heap.size+1→Blk w7 b7 (yH g) zm→K (.slice (some ⟨b7,0,none⟩) 1 1) w7)→vbuildS PP zk 1 [(0,.agg ⟨yH g⟩)] w6 K:=fun w6 K h=>
     JR je (by kernel_rfl) Xe (y:=yH g) rfl rfl (show 3≤16777216 by decide) h
    have nil:∀{w6:World} {b6:Nat},Blk w6 b6 [] zm→OwnG w6 (.slice (some ⟨b6,0,none⟩) 0 0) []:=fun h=>Blk.ownk (css:=[]) (by rw[YR];exact h) (fun x hx=>by cases hx) rfl (by omega)
    refine⟨?_,?_⟩
    ·refine qs je Yx fun b6 w6 hb6 he6 hz6 hB6=>?_
     have hB16:=hB15.ext he6
     have hB26:=hB25.ext he6
     simp(disch:=first|(simp only[push_cast];done)|omega) only[push_cast,hB16.ld1,hla _ hB26,true_and,and_true,and_self]
     refine⟨?_,?_⟩
     ·refine vappend (bs:=24) qD (by decide) (nil hB6) (Sl.ext hg (e5.trans he6)) (gone gs) (by omega) (by rw[List.length_map];simp;omega) (by rw[List.length_map];simp;omega) fun v7 w7 ho7 hs7 hn7=>?_
      have s7:=hs7.size
      have hB27:=hB26.same hs7 fun e=>by have e:b6=b2:=Option.some.inj e;omega
      simp(disch:=first|(simp only[push_cast];done)|omega) only[push_cast,hla _ hB27,true_and,and_true,and_self]
      refine mk w7 _ fun b8 w8 hb8 he8 hz8 hB8=>?_
      have n7:∀b,v7.ownBlock=some b→w5.heap.size≤b:=fun b hb=>(hn7 b hb).elim (fun e=>by have e:b6=b:=Option.some.inj e;omega) fun h=>by omega
      refine Own.app1k (bs:=24) (Own.ext ho7 he8) qD (by decide) hB8 rfl (gone [g] _ (by simp)) (by simp;omega) (by simp;omega) fun v9 w9 ho9 hs9 hn9=>?_
      try simp(disch:=first|(simp only[push_cast];done)|omega) only[push_cast,true_and,and_true,and_self]
      have s8:=he8.size
      refine fin w9 v9 (Same.thn (((Same.of_ext he6).trans (hs7.mono (S':=fun b=>w5.heap.size≤b) fun b _ e=>by have e:b6=b:=Option.some.inj e;omega)).trans (Same.of_ext he8)) (hs9.mono (S':=fun b=>w5.heap.size≤b) fun b _ e=>n7 b e) fun b hb=> .inl hb) (by unfold OwnG;rw[List.map_append];exact ho9) fun b hb=>(hn9 b hb).elim (n7 b) fun h=>by omega
     ·refine mk w6 _ fun b7 w7 hb7 he7 hz7 hB7=>?_
      have hB17:=hB16.ext he7
      simp(disch:=first|(simp only[push_cast];done)|omega) only[push_cast,hB17.ld1,true_and,and_true,and_self]
      refine gates_app (Sl.ext hg ((e5.trans he6).trans he7)) hB7 (by omega) (nil (hB6.ext he7)) (fun b e=>by have e:b6=b:=Option.some.inj e;omega) fun w8 v8 ho8 hs8 hn8=>?_
      try simp(disch:=first|(simp only[push_cast];done)|omega) only[push_cast,true_and,and_true,and_self]
      refine fin w8 v8 (((Same.of_ext (he6.trans he7))).trans (hs8.mono (S':=fun b=>w5.heap.size≤b) fun b _ e=>e.elim (fun e=>by have e:b6=b:=Option.some.inj e;omega) fun h=>by omega)) ho8 fun b hb=>(hn8 b hb).elim (fun e=>by have e:b6=b:=Option.some.inj e;omega) fun h=>by omega
    ·refine mk w5 _ fun b7 w7 hb7 he7 hz7 hB7=>?_
     have hB17:=hB15.ext he7
     simp(disch:=first|(simp only[push_cast];done)|omega) only[push_cast,hB17.ld1,true_and,and_true,and_self]
     refine qs je Yx fun b6 w6 hb6 he6 hz6 hB6=>?_
     have hB16:=hB17.ext he6
     simp(disch:=first|(simp only[push_cast];done)|omega) only[push_cast,hB16.ld1,true_and,and_true,and_self]
     refine gates_app (Sl.ext hg ((e5.trans he7).trans he6)) (hB7.ext he6) (by omega) (nil hB6) (fun b e=>by have e:b6=b:=Option.some.inj e;omega) fun w8 v8 ho8 hs8 hn8=>?_
     try simp(disch:=first|(simp only[push_cast];done)|omega) only[push_cast,true_and,and_true,and_self]
     refine fin w8 v8 (((Same.of_ext (he7.trans he6))).trans (hs8.mono (S':=fun b=>w5.heap.size≤b) fun b _ e=>e.elim (fun e=>by have e:b6=b:=Option.some.inj e;omega) fun h=>by omega)) ho8 fun b hb=>(hn8 b hb).elim (fun e=>by have e:b6=b:=Option.some.inj e;omega) fun h=>by omega
   rintro _ _ w5 ⟨rfl,e5,v',hB15,hB35,ho5,hn5⟩
   refine zt fun w6 he6 _=>?_
   have hB16:=hB15.ext he6
   have ho6:=Own.ext ho5 he6
   have hB36:=hB35.ext he6
   have hl6:∀(w':World) (K:Value→World→Prop),vbi PP .len [zk] zc [v'] w' K=K (.int .i64 ((gs.length+1:Nat):Int)) w':=fun w' K=>by
    rw[Sl.len (Own.sl ho5) k7,List.length_map,List.length_append];rfl
   obtain⟨o,c',hvo,_⟩:=(Own.sl ho5).shape
   simp(disch:=first|(simp only[push_cast];done)|omega) only[push_cast,hB16.ld0,hB16.ld1,hl6,hB16.ldAgg (t:=zf) y5,true_and,zA]
   subst hvo
   refine hB36.stAgg (cs':=[.int .i64 n,.slice o (List.map yH (gs++[g])).length c']) rfl y5 net_one fun w7 hs7 hz7 hB7=>?_
   have hB17:=hB16.same hs7 (show¬b1=b3 by omega)
   simp(disch:=first|(simp only[push_cast];done)|omega) only[push_cast,hB17.ld0,hB17.ld1,hl6,true_and,and_self,zA]
   rw[hB7.lv (t:=zf) y5]
   have e7:Ext w w7:=Ext.then (e5.trans he6) hs7 fun b hb=>by omega
   have hpos:(2+(n:Int)+gs.length)≠0:=by omega
   have hK':=hK w7 n (.slice o (List.map yH (gs++[g])).length c') e7 (by rw[if_neg hpos];exact Sl.weaken (Own.sl (Own.same ho6 hs7 fun b hb e=>(hn5 b hb).2.2 e)) fun b hb _ hd=>by have:=hD b hd;have:=(hn5 b hb).1;omega) (by rw[if_neg hpos]) fun h=>absurd h hpos
   rwa[show(2+(n:Int)+gs.length)=1+n+((gs.length+1:Nat):Int) by omega] at hK'
end Go.Proofs.YtaekfnbnhjgboaaGreatDoor
end
section
namespace Go.Proofs.YtaekfnbnhjgboaaGreatDoor
open Go Go.Vc Go.Proofs
variable {w:World} {K:Value→World→Prop} {D F Fx Fy Y S:Nat→Prop} {n b4 b8:Nat} {gs gs':M.Gs} {v nv:Value} {cs cs':List Value} {st:Option M.Gs} {a b m:Int}
def NetO (n:Nat) (D:Nat→Prop) (w:World) (gs:M.Gs) (m:Int) (cs:List Value):Prop:=
 if m=0 then cs=[.int .i64 0,.slice none 0 0] else ∃o l c,cs=[.int .i64 n,.slice o l c]∧GOff D w (.slice o l c) gs∧gs.length≤600
theorem NetO.form (h:NetO n D w gs m cs):∃(x:Int) (o:Option Addr) (l c:Nat),cs=[.int .i64 x,.slice o l c]:=by
 unfold NetO at h
 split at h
 ·exact⟨_,_,_,_,h⟩
 ·obtain⟨o,l,c,e,_⟩:=h;exact⟨_,_,_,_,e⟩
theorem NetO.len (h:NetO n D w gs m cs):cs.length=2:=by obtain⟨x,o,l,c,rfl⟩:=h.form;rfl
theorem NetO.one (h:NetO n D w gs m cs):∀u,u∈cs→u.oneCell'=true:=by obtain⟨x,o,l,c,rfl⟩:=h.form;exact net_one
theorem NetO.same {w':World} (h:NetO n D w gs m cs) (hw:Same S w w') (hS:∀b,S b→D b):NetO n D w' gs m cs:=by
 unfold NetO at h⊢
 by_cases hm:m=0
 ·rw[if_pos hm] at h⊢;exact h
 ·rw[if_neg hm] at h⊢
  obtain⟨o,l,c,e,h1,h2⟩:=h
  exact⟨o,l,c,e,h1.swap hw hS fun b hb _=>hb,h2⟩
theorem NetO.weak {Y:Nat→Prop} (h:NetO n D w gs m cs) (hY:∀b,Y b→D b):NetO n Y w gs m cs:=by
 unfold NetO at h⊢
 by_cases hm:m=0
 ·rw[if_pos hm] at h⊢;exact h
 ·rw[if_neg hm] at h⊢
  obtain⟨o,l,c,e,h1,h2⟩:=h
  exact⟨o,l,c,e,Sl.weaken h1 fun b hb _ hy=>hb (hY b hy),h2⟩
theorem NetO.put {n':Nat} {nv':Value} (h1:GOff D w nv' (if m=0 then[] else gs)) (h2:n'=if m=0 then 0 else n) (h3:m=0→nv'= .slice none 0 0) (h4:gs.length≤600):NetO n D w gs m [.int .i64 (n':Nat),nv']:=by
 unfold NetO
 by_cases c:m=0
 ·rw[if_pos c] at h2⊢;rw[h2,h3 c];rfl
 ·rw[if_neg c] at h1 h2⊢
  obtain⟨o,c',e,_⟩:=h1.shape
  exact⟨o,_,c',by rw[h2,e],by rw[←e];exact h1,h4⟩
theorem NetO.of {o:Option Addr} {l c:Nat} (h:GOff D w (.slice o l c) gs) (hl:gs.length≤600) (hm:m≠0):NetO n D w gs m [.int .i64 n,.slice o l c]:=by
 unfold NetO;rw[if_neg hm];exact⟨o,l,c,rfl,h,hl⟩
theorem put_len {g:M.Gt} (h:gs.length≤600):(M.putG n gs g).1.length≤600:=by
 unfold M.putG
 split
 ·exact h
 ·split
  ·exact h
  ·rw[List.length_append,List.length_singleton];omega
theorem l4Abs_sm (ha:Sm a) (hK:K (.int .i64 (M.absI a)) w):vcall PP xV #[.int .i64 a] w K:=by
 apply yS0;unfold VZ
 unfold M.absI at hK
 simp only[push_cast]
 refine zg (fun h=>?_) (fun h=>?_)
 ·rw[if_pos h] at hK
  simp(disch:=omega) only[push_cast,zA,Int.zero_sub]
  exact hK
 ·rw[if_neg h] at hK
  exact hK
theorem xN0 (x y:Int):zE PP zm [(1,.int .i64 x),(2,.int .i64 y)] w K=K (.agg ⟨yH ⟨false,x,y⟩⟩) w:=yf YU (us:=[[.int .i64 x],[.int .i64 y]]) rfl rfl
theorem kp0 (x y:Int):zE PP zm [(0,.bool true),(1,.int .i64 x),(2,.int .i64 y)] w K=K (.agg ⟨yH ⟨true,x,y⟩⟩) w:=yf YU (us:=[[.bool true],[.int .i64 x],[.int .i64 y]]) rfl rfl
theorem net_out {b2:Nat} {cs0:List Value} (hB:Blk w b2 cs0 zf) (h0:cs0.length=2) (hl:cs.length=2) (h1:∀u,u∈cs→u.oneCell'=true) (hK:∀w',Same (· =b2) w w'→K (.agg ⟨cs⟩) w'):
  zr PP zf (.pointer (some ⟨b2,0,none⟩)) (.agg ⟨cs⟩) w fun _ w1=>vlv PP zf (.pointer (some ⟨b2,0,none⟩)) w1 K:=by
 refine hB.stAgg (cs':=cs) (by omega) (by rw[hl];exact y5) h1 fun w1 hs hz hB1=>?_
 rw[hB1.lv (t:=zf) (by rw[hl];exact y5)]
 exact hK w1 hs
theorem sand6_spec (hn:n≤8) (hg:GOff D w nv gs) (hl:gs.length≤600) (hD:∀b,D b→b<w.heap.size) (ha:Sm a) (hb:Sm b) (ha0:a≠0) (hb0:b≠0)
  (hK:∀w' cs,Ext w w'→NetO n D w' (M.andG n gs a b).1 (M.andG n gs a b).2 cs→K (.tuple #[.agg ⟨cs⟩,.int .i64 (M.andG n gs a b).2]) w'):
  vcall PP Xq #[.agg ⟨[.int .i64 n,nv]⟩,.int .i64 a,.int .i64 b] w K:=by
 apply yR0;unfold VY
 obtain⟨go,gc,hgo,_⟩:=hg.shape
 rw[hgo] at hg⊢
 refine zx fun b1 w1 hb1 he1 hz1 hB1=>?_
 refine zD xE fun b2 w2 hb2 he2 hz2 hB2=>?_
 have e2:=he1.trans he2
 have hB12:=hB1.ext he2
 have hl1:∀K:Value→World→Prop,ze PP zf (.pointer (some ⟨b1,0,none⟩)) w2 K=K (.agg ⟨[.int .i64 n,.slice go (gs.map yH).length gc]⟩) w2:=fun K=>hB12.ldAgg (t:=zf) y5
 have z1:=he1.size;have z2:=he2.size
 have same:∀(x:Int),x≠0→(M.andG n gs a b)=(gs,x)→∀w':World,w'=w2→zr PP zf (.pointer (some ⟨b2,0,none⟩)) (.agg ⟨[.int .i64 n,.slice go (gs.map yH).length gc]⟩) w' fun _ w_10=>vlv PP zf (.pointer (some ⟨b2,0,none⟩)) w_10 fun r6 w_11=>K (.tuple #[r6,(.int .i64 x)]) w_11:=fun x hx e w' ew=>by
  subst ew
  rw[e] at hK
  refine net_out hB2 rfl rfl net_one fun w3 hs3=>?_
  have e3:Ext w w3:=Ext.then e2 hs3 fun y hy=>by subst hy;omega
  exact hK w3 _ e3 (NetO.of (Sl.ext hg e3) hl hx)
 have hgw:GatesR (fun b=> ¬D b∧b<w.heap.size) w (.slice go (gs.map yH).length gc) gs:=Sl.weaken hg fun b hb hl=>⟨hb,hl⟩
 have put:∀g:M.Gt,(M.andG n gs a b)=M.putG n gs g→vcall PP jf #[.agg ⟨[.int .i64 n,.slice go (gs.map yH).length gc]⟩,.agg ⟨yH g⟩] w2 fun t47 w_27=>zj PP t47 0 w_27 fun t48 w_28=>zj PP t47 1 w_28 fun t49 w_29=>
   zr PP zf (.pointer (some ⟨b2,0,none⟩)) t48 w_29 fun _ w_30=>vlv PP zf (.pointer (some ⟨b2,0,none⟩)) w_30 fun r6_3 w_31=>K (.tuple #[r6_3,t49]) w_31:=fun g e=>by
  rw[e] at hK
  refine sput_spec (D:=fun b=>D b∨b=b2) hn (Sl.weaken (Sl.ext hgw e2) fun b hb hl hd=>hd.elim hb.1 fun e=>by have:=hb.2;omega) hl (fun b hb=>hb.elim (fun h=>by have:=hD b h;omega) fun h=>by omega) fun w3 n' nv' he3 hg3 hn3 hz3=>?_
  simp only[push_cast]
  have hN:=NetO.put hg3 hn3 hz3 (put_len hl)
  refine net_out (hB2.ext he3) rfl hN.len hN.one fun w4 hs4=>?_
  exact hK w4 _ (Ext.then (e2.trans he3) hs4 fun y hy=>by subst hy;omega) ((hN.same hs4 fun b hb=> .inr hb).weak fun b hb=> .inl hb)
 unfold Sm at ha hb
 refine zW (fun u w'=>u=[]∧w'=w2∧M.andG n gs a b=M.putG n gs ⟨false,a,b⟩) ?_ ?_
 ·intro J hJ
  refine zW (fun u w'=>u=[.bool (decide (a= -1∨b= -1∨a= -b))]∧w'=w2) ?_ ?_
  ·intro J1 hJ1
   simp only[push_cast]
   refine zg (fun c=>hJ1 _ _ ⟨by rw[decide_eq_true (.inl c)],rfl⟩) (fun c=>?_)
   try simp only[push_cast]
   refine zg (fun c2=>hJ1 _ _ ⟨by rw[decide_eq_true (.inr (.inl c2))],rfl⟩) (fun c2=>?_)
   simp(disch:=omega) only[push_cast,zA,Int.zero_sub]
   refine hJ1 _ _ ⟨?_,rfl⟩
   rw[decide_eq_decide.2 (show(a= -1∨b= -1∨a= -b)↔a= -b from⟨fun h=>h.elim (fun h=>absurd h c) fun h=>h.elim (fun h=>absurd h c2) id,fun h=> .inr (.inr h)⟩)]
  rintro _ _ w3 ⟨rfl,rfl⟩
  simp only[push_cast]
  refine zg (fun c=>?_) (fun c=>?_)
  ·rw[hl1]
   refine same (-1) (by decide) ?_ _ rfl
   unfold M.andG
   by_cases c1:a= -1∨b= -1
   ·rw[if_pos c1]
   ·rw[if_neg c1]
    have c2:a= -b:=c.elim (fun h=>absurd (.inl h) c1) fun h=>h.elim (fun h=>absurd (.inr h) c1) id
    rw[if_neg (by omega),if_neg (by omega)]
    by_cases c3:a=b
    ·exfalso;omega
    ·rw[if_neg c3,if_pos c2]
  refine zW (fun u w'=>u=[.bool (decide (a=1∨a=b))]∧w'=w3) ?_ ?_
  ·intro J2 hJ2
   try simp only[push_cast]
   refine zg (fun c=>hJ2 _ _ ⟨by rw[decide_eq_true (.inl c)],rfl⟩) (fun c2=>?_)
   try simp only[push_cast]
   refine hJ2 _ _ ⟨?_,rfl⟩
   rw[decide_eq_decide.2 (show(a=1∨a=b)↔a=b from⟨fun h=>h.elim (fun h=>absurd h c2) id,.inr⟩)]
  rintro _ _ w4 ⟨rfl,rfl⟩
  have c1: ¬(a= -1∨b= -1):=fun h=>c (h.elim .inl fun h=> .inr (.inl h))
  simp only[push_cast]
  refine zg (fun c2=>?_) (fun c2=>?_)
  ·rw[hl1]
   refine same b hb0 ?_ _ rfl
   unfold M.andG
   rw[if_neg c1]
   by_cases c3:a=1
   ·rw[if_pos c3]
   ·have c4:a=b:=c2.elim (fun h=>absurd h c3) id
    rw[if_neg c3]
    by_cases c5:b=1
    ·omega
    ·rw[if_neg c5,if_pos c4,c4]
  try simp only[push_cast]
  refine zg (fun c3=>?_) (fun c3=>?_)
  ·rw[hl1]
   refine same a ha0 ?_ _ rfl
   unfold M.andG
   rw[if_neg c1,if_neg (fun h=>c2 (.inl h)),if_pos c3]
  have hand:M.andG n gs a b=M.putG n gs (M.gateA a b):=by
   unfold M.andG
   rw[if_neg c1,if_neg (fun h=>c2 (.inl h)),if_neg c3,if_neg (fun h=>c2 (.inr h)),if_neg (fun h=>c (.inr (.inr h)))]
  refine l4Abs_sm ha (l4Abs_sm hb ?_)
  try simp only[push_cast]
  unfold M.gateA at hand
  refine zg (fun c4=>?_) (fun c4=>?_)
  ·rw[if_pos c4] at hand
   rw[hl1,xN0]
   exact put _ hand
  ·rw[if_neg c4] at hand
   exact hJ _ _ ⟨rfl,rfl,hand⟩
 rintro _ _ w3 ⟨rfl,rfl,hp⟩
 rw[hl1,xN0]
 exact put _ hp
theorem sxor6_spec (hn:n≤8) (hg:GOff D w nv gs) (hl:gs.length≤600) (hD:∀b,D b→b<w.heap.size) (ha:Sm a) (hb:Sm b) (ha0:a≠0) (hb0:b≠0)
  (hK:∀w' cs,Ext w w'→NetO n D w' (M.xorG n gs a b).1 (M.xorG n gs a b).2 cs→K (.tuple #[.agg ⟨cs⟩,.int .i64 (M.xorG n gs a b).2]) w'):
  vcall PP Xp #[.agg ⟨[.int .i64 n,nv]⟩,.int .i64 a,.int .i64 b] w K:=by
 apply yP0;unfold VW
 obtain⟨go,gc,hgo,_⟩:=hg.shape
 rw[hgo] at hg⊢
 refine zx fun b1 w1 hb1 he1 hz1 hB1=>?_
 refine zD xE fun b2 w2 hb2 he2 hz2 hB2=>?_
 have e2:=he1.trans he2
 have hB12:=hB1.ext he2
 have hl1:∀K:Value→World→Prop,ze PP zf (.pointer (some ⟨b1,0,none⟩)) w2 K=K (.agg ⟨[.int .i64 n,.slice go (gs.map yH).length gc]⟩) w2:=fun K=>hB12.ldAgg (t:=zf) y5
 have z1:=he1.size;have z2:=he2.size
 have same:∀(x:Int),x≠0→(M.xorG n gs a b)=(gs,x)→∀w':World,w'=w2→zr PP zf (.pointer (some ⟨b2,0,none⟩)) (.agg ⟨[.int .i64 n,.slice go (gs.map yH).length gc]⟩) w' fun _ w_10=>vlv PP zf (.pointer (some ⟨b2,0,none⟩)) w_10 fun r6 w_11=>K (.tuple #[r6,(.int .i64 x)]) w_11:=fun x hx e w' ew=>by
  subst ew
  rw[e] at hK
  refine net_out hB2 rfl rfl net_one fun w3 hs3=>?_
  have e3:Ext w w3:=Ext.then e2 hs3 fun y hy=>by subst hy;omega
  exact hK w3 _ e3 (NetO.of (Sl.ext hg e3) hl hx)
 have hgw:GatesR (fun b=> ¬D b∧b<w.heap.size) w (.slice go (gs.map yH).length gc) gs:=Sl.weaken hg fun b hb hl=>⟨hb,hl⟩
 have absN:∀a:Int,M.absI a=(a.natAbs:Int):=fun a=>by unfold M.absI;split<;>omega
 have na:=absN a
 have nb:=absN b
 unfold Sm at ha hb
 refine zW (fun u w'=>u=[]∧w'=w2∧M.xorG n gs a b=((M.putG n gs (M.gateX a b)).1,M.turnI (decide (a<0) != decide (b<0)) (M.putG n gs (M.gateX a b)).2)) ?_ ?_
 ·intro J hJ
  refine zW (fun u w'=>u=[.bool (decide (a=1∨a= -1))]∧w'=w2) ?_ ?_
  ·intro J1 hJ1
   simp only[push_cast]
   refine zg (fun c=>hJ1 _ _ ⟨by rw[decide_eq_true (.inl c)],rfl⟩) (fun c=>?_)
   try simp only[push_cast]
   refine hJ1 _ _ ⟨?_,rfl⟩
   rw[decide_eq_decide.2 (show(a=1∨a= -1)↔a= -1 from⟨fun h=>h.elim (fun h=>absurd h c) id,.inr⟩)]
  rintro _ _ w3 ⟨rfl,rfl⟩
  simp only[push_cast]
  refine zg (fun c=>?_) (fun c=>?_)
  ·rw[hl1]
   have e:M.xorG n gs a b=(gs,-a*b):=by
    unfold M.xorG
    rcases c with rfl|rfl
    ·rw[if_pos (by decide)];simp[M.turnI]
    ·rw[if_pos (by decide)];simp[M.turnI]
   have hm:(-a*b).natAbs=b.natAbs:=by rcases c with rfl|rfl<;>simp
   have hm0: -a*b≠0:=by omega
   simp(disch:=omega) only[push_cast,zA,Int.zero_sub]
   exact same (-a*b) hm0 e _ rfl
  refine zW (fun u w'=>u=[.bool (decide (b=1∨b= -1))]∧w'=w3) ?_ ?_
  ·intro J1 hJ1
   try simp only[push_cast]
   refine zg (fun c=>hJ1 _ _ ⟨by rw[decide_eq_true (.inl c)],rfl⟩) (fun c=>?_)
   try simp only[push_cast]
   refine hJ1 _ _ ⟨?_,rfl⟩
   rw[decide_eq_decide.2 (show(b=1∨b= -1)↔b= -1 from⟨fun h=>h.elim (fun h=>absurd h c) id,.inr⟩)]
  rintro _ _ w4 ⟨rfl,rfl⟩
  simp only[push_cast]
  have c1: ¬M.absI a=1:=by omega
  refine zg (fun d=>?_) (fun d=>?_)
  ·rw[hl1]
   have e:M.xorG n gs a b=(gs,-b*a):=by
    unfold M.xorG
    rw[if_neg c1]
    rcases d with rfl|rfl
    ·rw[if_pos (by decide)];simp[M.turnI]
    ·rw[if_pos (by decide)];simp[M.turnI]
   have hm:(-b*a).natAbs=a.natAbs:=by rcases d with rfl|rfl<;>simp
   have hm0: -b*a≠0:=by omega
   simp(disch:=omega) only[push_cast,zA,Int.zero_sub]
   exact same (-b*a) hm0 e _ rfl
  have c2: ¬M.absI b=1:=by omega
  try simp only[push_cast]
  refine zg (fun f=>?_) (fun f=>?_)
  ·rw[hl1]
   exact same (-1) (by decide) (by unfold M.xorG;rw[if_neg c1,if_neg c2,if_pos f]) _ rfl
  try simp(disch:=omega) only[push_cast,zA,Int.zero_sub]
  refine zg (fun f2=>?_) (fun f2=>?_)
  ·rw[hl1]
   exact same 1 (by decide) (by unfold M.xorG;rw[if_neg c1,if_neg c2,if_neg f,if_pos f2]) _ rfl
  exact hJ _ _ ⟨rfl,rfl,by unfold M.xorG;rw[if_neg c1,if_neg c2,if_neg f,if_neg f2]⟩
 rintro _ _ w3 ⟨rfl,rfl,hx⟩
 rw[hx] at hK
 have hpm:=put_abs (g:=M.gateX a b) hl hn
 refine zW (fun u w'=>u=[.int .i64 (if a<0 then-1 else 1)]∧w'=w3) ?_ ?_
 ·intro J1 hJ1
  simp only[push_cast]
  refine zg (fun c=>?_) (fun c=>?_)
  ·simp(disch:=omega) only[push_cast,zA,Int.zero_sub]
   exact hJ1 _ _ ⟨by rw[if_pos c],rfl⟩
  ·exact hJ1 _ _ ⟨by rw[if_neg c],rfl⟩
 rintro _ _ w4 ⟨rfl,rfl⟩
 refine zW (fun u w'=>u=[.int .i64 (if(decide (a<0) != decide (b<0)) then-1 else 1)]∧w'=w4) ?_ ?_
 ·intro J1 hJ1
  simp only[push_cast]
  refine zg (fun c=>?_) (fun c=>?_)
  ·by_cases d:a<0
   ·rw[if_pos d]
    simp(disch:=omega) only[push_cast,zA,Int.zero_sub]
    exact hJ1 _ _ ⟨by simp[c,d],rfl⟩
   ·rw[if_neg d]
    simp(disch:=omega) only[push_cast,zA,Int.zero_sub]
    exact hJ1 _ _ ⟨by simp[c,d],rfl⟩
  ·refine hJ1 _ _ ⟨?_,rfl⟩
   by_cases d:a<0<;>simp[c,d]
 rintro _ _ w5 ⟨rfl,rfl⟩
 refine l4Abs_sm ha (l4Abs_sm hb ?_)
 refine zW (fun u w'=>u=[.int .i64 (M.gateX a b).a,.int .i64 (M.gateX a b).b]∧w'=w5) ?_ ?_
 ·intro J1 hJ1
  try simp only[push_cast]
  unfold M.gateX at hJ1
  refine zg (fun c=>?_) (fun c=>?_)
  ·rw[if_pos c] at hJ1
   exact l4Abs_sm hb (l4Abs_sm ha (hJ1 _ _ ⟨rfl,rfl⟩))
  ·rw[if_neg c] at hJ1
   exact hJ1 _ _ ⟨rfl,rfl⟩
 rintro _ _ w6 ⟨rfl,rfl⟩
 try simp only[push_cast]
 rw[hl1,kp0,show(⟨true,(M.gateX a b).a,(M.gateX a b).b⟩:M.Gt)=M.gateX a b from by unfold M.gateX;split<;>rfl]
 refine sput_spec (D:=fun b=>D b∨b=b2) hn (Sl.weaken (Sl.ext hgw e2) fun b hb hl hd=>hd.elim hb.1 fun e=>by have:=hb.2;omega) hl (fun b hb=>hb.elim (fun h=>by have:=hD b h;omega) fun h=>by omega) fun w7 n' nv' he7 hg7 hn7 hz7=>?_
 simp only[push_cast]
 have hN:=NetO.put hg7 hn7 hz7 (put_len hl)
 generalize [Value.int .i64 (n':Nat),nv']=cs at hN⊢
 generalize hp2:(M.putG n gs (M.gateX a b)).2=pm at*
 have hcl:=hN.len
 refine zD xE fun b8 w8 hb8 he8 hz8 hB8=>?_
 have hN8:=hN.same (Same.of_ext he8 (S:=fun _=>False)) fun b hb=>hb.elim
 refine hB8.stAgg (cs':=cs) (by rw[hcl];rfl) (by rw[hcl];exact y5) hN.one fun w9 hs9 hz9 hB9=>?_
 rw[hB9.ldAgg (t:=zf) (by rw[hcl];exact y5)]
 have hmul:(if(decide (a<0) != decide (b<0))=true then(-1:Int) else 1)*pm=M.turnI (decide (a<0) != decide (b<0)) pm:=by
  unfold M.turnI;split<;>omega
 try simp only[push_cast]
 rw[hmul,zA (by have:=Wy (c:=decide (a<0) != decide (b<0)) (a:=pm);omega) (by have:=Wy (c:=decide (a<0) != decide (b<0)) (a:=pm);omega)]
 have l7:=he7.size;have l8:=he8.size
 have hB29:=((hB2.ext he7).ext he8).same hs9 (show¬b2=b8 by omega)
 refine net_out hB29 rfl hN.len hN.one fun w10 hs10=>?_
 have e9:Ext w w9:=Ext.then ((e2.trans he7).trans he8) hs9 fun y hy=>by subst hy;omega
 refine hK w10 _ (Ext.then e9 hs10 fun y hy=>by subst hy;omega) ?_
 have h9:Ext w7 w9:=Ext.then he8 hs9 fun y hy=>by subst hy;omega
 have h10:=((hN.same (Same.of_ext h9 (S:=fun _=>False)) fun b hb=>hb.elim).same hs10 fun b hb=> .inr hb).weak (Y:=D) fun b hb=> .inl hb
 unfold NetO at h10⊢
 by_cases hm0:pm=0
 ·rw[if_pos hm0] at h10;rw[if_pos (M.turn_zero.2 hm0)];exact h10
 ·rw[if_neg hm0] at h10;rw[if_neg (fun h=>hm0 (M.turn_zero.1 h))];exact h10
end Go.Proofs.YtaekfnbnhjgboaaGreatDoor
end
section
namespace Go.Proofs.YtaekfnbnhjgboaaGreatDoor
open Go Go.Vc Go.Proofs
variable {w:World} {K:Value→World→Prop} {D F Fx Fy Y S:Nat→Prop} {n b4 b8:Nat} {gs gs':M.Gs} {v nv:Value} {cs cs':List Value} {st st':Option M.Gs} {a b c m x y r:Int}
def MkR (n:Nat) (D:Nat→Prop) (w:World) (cs:List Value) (st:Option M.Gs):Prop:=
 match st with
 |some gs=> ∃o l c,cs=[.int .i64 n,.slice o l c,.bool true]∧GOff D w (.slice o l c) gs∧gs.length≤600
 |none=>cs=[.int .i64 0,.slice none 0 0,.bool false]
theorem MkR.form (h:MkR n D w cs st):∃(x:Int) (o:Option Addr) (l c:Nat) (b:Bool),cs=[.int .i64 x,.slice o l c,.bool b]:=by
 cases st with
 |none=>exact⟨_,_,_,_,_,h⟩
 |some gs=>obtain⟨o,l,c,e,_⟩:=h;exact⟨_,_,_,_,_,e⟩
theorem MkR.len (h:MkR n D w cs st):cs.length=3:=by obtain⟨x,o,l,c,b,rfl⟩:=h.form;rfl
theorem MkR.one (h:MkR n D w cs st):∀u,u∈cs→u.oneCell'=true:=by
 obtain⟨x,o,l,c,b,rfl⟩:=h.form
 intro u hu
 simp only[List.mem_cons,List.not_mem_nil,or_false] at hu
 rcases hu with rfl|rfl|rfl<;>rfl
theorem MkR.swap {w':World} (h:MkR n D w cs st) (hw:Same S w w') (hS:∀b,S b→D b) (hY:∀b,Y b→b<w.heap.size→D b):MkR n Y w' cs st:=by
 cases st with
 |none=>exact h
 |some gs=>
  obtain⟨o,l,c,e,h1,h2⟩:=h
  exact⟨o,l,c,e,h1.swap hw hS hY,h2⟩
theorem MkR.ext {w':World} (h:MkR n D w cs st) (hw:Ext w w') (hY:∀b,Y b→b<w.heap.size→D b):MkR n Y w' cs st:=h.swap hw (fun _ h=>h.elim) hY
theorem MkR.same {w':World} (h:MkR n D w cs st) (hw:Same S w w') (hS:∀b,S b→D b):MkR n D w' cs st:=h.swap hw hS fun _ h _=>h
def Sn (st:Option M.Gs) (x:Int):Prop:=Sm x∧(x=0→st=none)
def SnL (st:Option M.Gs) (xs:List Int):Prop:=∀x,x∈xs→Sn st x
theorem jY0 {α:Type} {p:M.Bd α} {a:α} (h:M.Bd.Out n p st st' a):st=none→st'=none:=fun e=>by subst e;exact h.1
theorem Sn.out {α:Type} {p:M.Bd α} {a:α} (h:Sn st x) (ho:M.Bd.Out n p st st' a):Sn st' x:=⟨h.1,fun e=>jY0 ho (h.2 e)⟩
theorem SnL.out {α:Type} {p:M.Bd α} {a:α} {xs:List Int} (h:SnL st xs) (ho:M.Bd.Out n p st st' a):SnL st' xs:=fun x hx=>(h x hx).out ho
theorem Sn.neg (h:Sn st x):Sn st (-x):=⟨by have:=h.1;unfold Sm at*;omega,fun e=>h.2 (by omega)⟩
theorem Sn.nz (h:Sn (some gs) x):x≠0:=fun e=>by have:=h.2 e;cases this
theorem Sn.of (h:Sm x) (h0:x≠0):Sn st x:=⟨h,fun e=>absurd e h0⟩
theorem SnL.get {xs:List Int} (h:SnL st xs) {i:Nat} (hi:i<xs.length):Sn st (xs.getD i 0):=h _ (M.getD_mem hi 0)
theorem SnL.app {xs ys:List Int} (h:SnL st xs) (h2:SnL st ys):SnL st (xs++ys):=fun x hx=>(List.mem_append.1 hx).elim (h x) (h2 x)
theorem SnL.one (h:Sn st x):SnL st [x]:=fun y hy=>by rw[List.mem_singleton.1 hy];exact h
theorem SnL.nil:SnL st []:=fun x hx=>by cases hx
theorem SnL.sm {xs:List Int} (h:SnL st xs):SmL xs:=fun x hx=>(h x hx).1
theorem SnL.fill (m:Nat):SnL st (M.offsL m):=fun x hx=>by rw[List.eq_of_mem_replicate hx];exact Sn.of (by decide) (by decide)
theorem SnL.neg {xs:List Int} (h:SnL st xs):SnL st (M.negL xs):=fun x hx=>by
 obtain⟨y,hy,rfl⟩:=List.mem_map.1 hx;exact(h y hy).neg
theorem Za0 {x:Int} {o:Option Addr} {l c:Nat} {b:Bool}:zE PP zd [(0,.agg ⟨[.int .i64 x,.slice o l c]⟩),(1,.bool b)] w K=K (.agg ⟨[.int .i64 x,.slice o l c,.bool b]⟩) w:=yf xr0 (us:=[[.int .i64 x,.slice o l c],[.bool b]]) rfl rfl
theorem WJ {b4:Nat} (hB:Blk w b4 cs zd) (h:cs.length=3):ze PP zd (.pointer (some ⟨b4,0,none⟩)) w K=K (.agg ⟨cs⟩) w:=hB.ldAgg (t:=zd) (by rw[h];exact Jw)
theorem mk_put {b4:Nat} {cs0:List Value} (hB:Blk w b4 cs0 zd) (h0:cs0.length=3) (hl:cs.length=3) (h1:∀u,u∈cs→u.oneCell'=true) (hK:∀w',Same (· =b4) w w'→w'.heap.size=w.heap.size→Blk w' b4 cs zd→K undef w'):zr PP zd (.pointer (some ⟨b4,0,none⟩)) (.agg ⟨cs⟩) w K:=
 hB.stAgg (cs':=cs) (by omega) (by rw[hl];exact Jw) h1 hK
theorem VH {b8:Nat} {cs0:List Value} (hB:Blk w b8 cs0 zd) (h0:cs0.length=3) (hl:cs.length=3) (h1:∀u,u∈cs→u.oneCell'=true) (hK:∀w',Same (· =b8) w w'→K (.agg ⟨cs⟩) w'):
  zr PP zd (.pointer (some ⟨b8,0,none⟩)) (.agg ⟨cs⟩) w fun _ w1=>vlv PP zd (.pointer (some ⟨b8,0,none⟩)) w1 K:=
 mk_put hB h0 hl h1 fun w1 hs hz hB1=>by
  rw[hB1.lv (t:=zd) (by rw[hl];exact Jw)]
  exact hK w1 hs
theorem sand7_spec (hn:n≤8) (hk:MkR n D w cs st) (hD:∀b,D b→b<w.heap.size) (hx:Sn st x) (hy:Sn st y)
  (hK:∀w' cs' st' r,Ext w w'→MkR n D w' cs' st'→Sn st' r→M.Bd.Out n (.and x y .ret) st st' r→K (.tuple #[.agg ⟨cs'⟩,.int .i64 r]) w'):
  vcall PP xt #[.agg ⟨cs⟩,.int .i64 x,.int .i64 y] w K:=by
 apply yN0;unfold VU
 refine zx fun b3 w1 hb1 he1 hz1 hB1=>?_
 refine zD xS fun b6 w2 hb2 he2 hz2 hB2=>?_
 have e2:=he1.trans he2
 have hB12:=hB1.ext he2
 have z1:=he1.size;have z2:=he2.size
 cases st with
 |none=>
  have hcs:cs=[.int .i64 0,.slice none 0 0,.bool false]:=hk
  subst hcs
  simp(disch:=first|(simp only[push_cast];done)|omega) only[push_cast,hB12.ld2,Bool.not_false,WJ hB12 rfl]
  refine VH hB2 rfl rfl hk.one fun w3 hs3=>?_
  exact hK w3 _ none 1 (Ext.then e2 hs3 fun b hb=>by omega) rfl (Sn.of (by decide) (by decide)) ⟨rfl,1,rfl⟩
 |some gs=>
  obtain⟨o,l,c,rfl,hg,hl⟩:=hk
  have hnet:ze PP zf (.pointer (some ⟨b3,0,none⟩)) w2=fun K=>K (.agg ⟨[.int .i64 n,.slice o l c]⟩) w2:=by
   funext K;exact Blk.ldTake (us:=[.int .i64 n,.slice o l c]) (r:=[.bool true]) hB12 y5
  simp(disch:=first|(simp only[push_cast];done)|omega) only[push_cast,hB12.ld2,Bool.not_true,x7,Nat.add_zero,hnet]
  have hg2:GOff (fun b=>D b∨b=b3∨b=b6) w2 (.slice o l c) gs:=hg.swap e2 (fun _ h=>h.elim) fun b hb hl=>hb.elim id fun h=>by omega
  refine sand6_spec hn hg2 hl (fun b hb=>hb.elim (fun h=>by have:=hD b h;omega) fun h=>by omega) hx.1 hy.1 hx.nz hy.nz fun w3 cs3 he3 hN3=>?_
  have hlen:gs.length≤600:=hl
  have habs:=jj0 (gs:=gs) (n:=n) hl hn hx.1 hy.1
  have hrun:(M.Bd.and x y .ret:M.Bd Int).run n gs=if(M.andG n gs x y).2=0 then none else some ((M.andG n gs x y).1,(M.andG n gs x y).2):=rfl
  generalize hgg:(M.andG n gs x y).1=gs3 at*
  generalize (M.andG n gs x y).2=m at*
  simp only[push_cast]
  have hcl:=hN3.len
  refine zD xE fun b8 w8 hb8 he8 hz8 hB8=>?_
  refine hB8.stAgg (cs':=cs3) (by rw[hcl];rfl) (by rw[hcl];exact y5) hN3.one fun w9 hs9 hz9 hB9=>?_
  have z3:=he3.size;have z8:=he8.size
  have h9:Ext w3 w9:=Ext.then he8 hs9 fun y hy=>by subst hy;omega
  have hN9:=hN3.same (Same.of_ext h9 (S:=fun _=>False)) fun b hb=>hb.elim
  rw[hB9.ldAgg (t:=zf) (by rw[hcl];exact y5)]
  obtain⟨x3,o3,l3,c3,rfl⟩:=hN9.form
  simp only[push_cast,Za0]
  have hB69:=(hB2.ext (he3.trans h9))
  refine VH hB69 rfl rfl (fun u hu=>by simp only[List.mem_cons,List.not_mem_nil,or_false] at hu;rcases hu with rfl|rfl|rfl<;>rfl) fun w10 hs10=>?_
  have e10:Ext w w10:=Ext.then (e2.trans (he3.trans h9)) hs10 fun b hb=>by omega
  have hN10:=(hN9.same hs10 fun b hb=> .inr (.inr hb)).weak (Y:=D) fun b hb=> .inl hb
  by_cases hm:m=0
  ·subst hm
   unfold NetO at hN10
   rw[if_pos rfl] at hN10
   simp only[List.cons.injEq,and_true] at hN10
   obtain⟨e1,e2'⟩:=hN10
   rw[e1,e2']
   refine hK w10 _ none 0 e10 rfl ⟨by decide,fun _=>rfl⟩ (.inr ⟨by rw[hrun,if_pos rfl],rfl,0,rfl⟩)
  ·unfold NetO at hN10
   rw[if_neg hm] at hN10
   obtain⟨o4,l4,c4,e4,hg4,hl4⟩:=hN10
   simp only[List.cons.injEq,and_true] at e4
   obtain⟨e1,e2'⟩:=e4
   rw[e1,e2',decide_eq_true hm]
   refine hK w10 _ (some gs3) m e10 ⟨o4,l4,c4,rfl,hg4,hl4⟩ (Sn.of habs hm) (.inl ⟨gs3,by rw[hrun,if_neg hm],rfl⟩)
theorem sxor7_spec (hn:n≤8) (hk:MkR n D w cs st) (hD:∀b,D b→b<w.heap.size) (hx:Sn st x) (hy:Sn st y)
  (hK:∀w' cs' st' r,Ext w w'→MkR n D w' cs' st'→Sn st' r→M.Bd.Out n (.xor x y .ret) st st' r→K (.tuple #[.agg ⟨cs'⟩,.int .i64 r]) w'):
  vcall PP qt #[.agg ⟨cs⟩,.int .i64 x,.int .i64 y] w K:=by
 apply yG0;unfold VL
 refine zx fun b3 w1 hb1 he1 hz1 hB1=>?_
 refine zD xS fun b6 w2 hb2 he2 hz2 hB2=>?_
 have e2:=he1.trans he2
 have hB12:=hB1.ext he2
 have z1:=he1.size;have z2:=he2.size
 cases st with
 |none=>
  have hcs:cs=[.int .i64 0,.slice none 0 0,.bool false]:=hk
  subst hcs
  simp(disch:=first|(simp only[push_cast];done)|omega) only[push_cast,hB12.ld2,Bool.not_false,WJ hB12 rfl]
  refine VH hB2 rfl rfl hk.one fun w3 hs3=>?_
  exact hK w3 _ none 1 (Ext.then e2 hs3 fun b hb=>by omega) rfl (Sn.of (by decide) (by decide)) ⟨rfl,1,rfl⟩
 |some gs=>
  obtain⟨o,l,c,rfl,hg,hl⟩:=hk
  have hnet:ze PP zf (.pointer (some ⟨b3,0,none⟩)) w2=fun K=>K (.agg ⟨[.int .i64 n,.slice o l c]⟩) w2:=by
   funext K;exact Blk.ldTake (us:=[.int .i64 n,.slice o l c]) (r:=[.bool true]) hB12 y5
  simp(disch:=first|(simp only[push_cast];done)|omega) only[push_cast,hB12.ld2,Bool.not_true,x7,Nat.add_zero,hnet]
  have hg2:GOff (fun b=>D b∨b=b3∨b=b6) w2 (.slice o l c) gs:=hg.swap e2 (fun _ h=>h.elim) fun b hb hl=>hb.elim id fun h=>by omega
  refine sxor6_spec hn hg2 hl (fun b hb=>hb.elim (fun h=>by have:=hD b h;omega) fun h=>by omega) hx.1 hy.1 hx.nz hy.nz fun w3 cs3 he3 hN3=>?_
  have hlen:gs.length≤600:=hl
  have habs:=qp0 (gs:=gs) (n:=n) hl hn hx.1 hy.1
  have hrun:(M.Bd.xor x y .ret:M.Bd Int).run n gs=if(M.xorG n gs x y).2=0 then none else some ((M.xorG n gs x y).1,(M.xorG n gs x y).2):=rfl
  generalize hgg:(M.xorG n gs x y).1=gs3 at*
  generalize (M.xorG n gs x y).2=m at*
  simp only[push_cast]
  have hcl:=hN3.len
  refine zD xE fun b8 w8 hb8 he8 hz8 hB8=>?_
  refine hB8.stAgg (cs':=cs3) (by rw[hcl];rfl) (by rw[hcl];exact y5) hN3.one fun w9 hs9 hz9 hB9=>?_
  have z3:=he3.size;have z8:=he8.size
  have h9:Ext w3 w9:=Ext.then he8 hs9 fun y hy=>by subst hy;omega
  have hN9:=hN3.same (Same.of_ext h9 (S:=fun _=>False)) fun b hb=>hb.elim
  rw[hB9.ldAgg (t:=zf) (by rw[hcl];exact y5)]
  obtain⟨x3,o3,l3,c3,rfl⟩:=hN9.form
  simp only[push_cast,Za0]
  have hB69:=(hB2.ext (he3.trans h9))
  refine VH hB69 rfl rfl (fun u hu=>by simp only[List.mem_cons,List.not_mem_nil,or_false] at hu;rcases hu with rfl|rfl|rfl<;>rfl) fun w10 hs10=>?_
  have e10:Ext w w10:=Ext.then (e2.trans (he3.trans h9)) hs10 fun b hb=>by omega
  have hN10:=(hN9.same hs10 fun b hb=> .inr (.inr hb)).weak (Y:=D) fun b hb=> .inl hb
  by_cases hm:m=0
  ·subst hm
   unfold NetO at hN10
   rw[if_pos rfl] at hN10
   simp only[List.cons.injEq,and_true] at hN10
   obtain⟨e1,e2'⟩:=hN10
   rw[e1,e2']
   refine hK w10 _ none 0 e10 rfl ⟨by decide,fun _=>rfl⟩ (.inr ⟨by rw[hrun,if_pos rfl],rfl,0,rfl⟩)
  ·unfold NetO at hN10
   rw[if_neg hm] at hN10
   obtain⟨o4,l4,c4,e4,hg4,hl4⟩:=hN10
   simp only[List.cons.injEq,and_true] at e4
   obtain⟨e1,e2'⟩:=e4
   rw[e1,e2',decide_eq_true hm]
   refine hK w10 _ (some gs3) m e10 ⟨o4,l4,c4,rfl,hg4,hl4⟩ (Sn.of habs hm) (.inl ⟨gs3,by rw[hrun,if_neg hm],rfl⟩)
theorem sor7_spec (hn:n≤8) (hk:MkR n D w cs st) (hD:∀b,D b→b<w.heap.size) (hx:Sn st x) (hy:Sn st y)
  (hK:∀w' cs' st' r,Ext w w'→MkR n D w' cs' st'→Sn st' r→M.Bd.Out n (M.orB x y) st st' r→K (.tuple #[.agg ⟨cs'⟩,.int .i64 r]) w'):
  vcall PP jP #[.agg ⟨cs⟩,.int .i64 x,.int .i64 y] w K:=by
 apply xp0;unfold Ui
 refine zx fun b3 w1 hb1 he1 hz1 hB1=>?_
 refine zD xS fun b6 w2 hb2 he2 hz2 hB2=>?_
 have e2:=he1.trans he2
 have hB12:=hB1.ext he2
 have z1:=he1.size;have z2:=he2.size
 have hx1:=hx.1;have hy1:=hy.1
 unfold Sm at hx1 hy1
 simp(disch:=omega) only[push_cast,WJ hB12 hk.len,zA,Int.zero_sub]
 have hk2:MkR n (fun b=>D b∨b=b3∨b=b6) w2 cs st:=hk.ext e2 fun b hb hl=>hb.elim id fun h=>by omega
 refine sand7_spec hn hk2 (fun b hb=>hb.elim (fun h=>by have:=hD b h;omega) fun h=>by omega) hx.neg hy.neg fun w3 cs3 st3 r he3 hk3 hr3 ho3=>?_
 have hr1:=hr3.1
 unfold Sm at hr1
 simp only[push_cast]
 refine mk_put (hB12.ext he3) hk.len hk3.len hk3.one fun w4 hs4 hz4 hB4=>?_
 have hB24:=(hB2.ext he3).same hs4 (show¬b6=b3 by omega)
 simp(disch:=omega) only[push_cast,WJ hB4 hk3.len,zA,Int.zero_sub]
 refine VH hB24 rfl hk3.len hk3.one fun w5 hs5=>?_
 have e5:Ext w w5:=Ext.then (Ext.then (e2.trans he3) hs4 fun b hb=>by omega) hs5 fun b hb=>by omega
 exact hK w5 cs3 st3 (-r) e5 ((hk3.same hs4 fun b hb=> .inr (.inl hb)).swap hs5 (fun b hb=> .inr (.inr hb)) fun b hb _=> .inl hb) hr3.neg (xR ho3 (M.Bd.Out.ret _ _))
theorem sone7_spec (hn:n≤8) (hk:MkR n D w cs st) (hD:∀b,D b→b<w.heap.size) (hc:Sn st c) (hx:Sn st x) (hy:Sn st y)
  (hK:∀w' cs' st' r,Ext w w'→MkR n D w' cs' st'→Sn st' r→M.Bd.Out n (M.muxB c x y) st st' r→K (.tuple #[.agg ⟨cs'⟩,.int .i64 r]) w'):
  vcall PP k8 #[.agg ⟨cs⟩,.int .i64 c,.int .i64 x,.int .i64 y] w K:=by
 apply yH0;unfold VM
 refine zx fun b3 w1 hb1 he1 hz1 hB1=>?_
 refine zD xS fun b6 w2 hb2 he2 hz2 hB2=>?_
 have e2:=he1.trans he2
 have hB12:=hB1.ext he2
 have z1:=he1.size;have z2:=he2.size
 have hc1:=hc.1
 unfold Sm at hc1
 rw[WJ hB12 hk.len]
 have hk2:MkR n (fun b=>D b∨b=b3∨b=b6) w2 cs st:=hk.ext e2 fun b hb hl=>hb.elim id fun h=>by omega
 have hD2:∀b,(D b∨b=b3∨b=b6)→b<w2.heap.size:=fun b hb=>hb.elim (fun h=>by have:=hD b h;omega) fun h=>by omega
 refine sand7_spec hn hk2 hD2 hc hx fun w3 cs3 st3 p he3 hk3 hp3 ho3=>?_
 simp only[push_cast]
 refine mk_put (hB12.ext he3) hk.len hk3.len hk3.one fun w4 hs4 hz4 hB4=>?_
 have z3:=he3.size
 have hB24:=(hB2.ext he3).same hs4 (show¬b6=b3 by omega)
 have hk4:=hk3.same hs4 fun b hb=> .inr (.inl hb)
 simp(disch:=omega) only[push_cast,WJ hB4 hk3.len,zA,Int.zero_sub]
 refine sand7_spec hn hk4 (fun b hb=>by have:=hD2 b hb;omega) (hc.out ho3).neg (hy.out ho3) fun w5 cs5 st5 q he5 hk5 hq5 ho5=>?_
 simp only[push_cast]
 refine mk_put (hB4.ext he5) hk3.len hk5.len hk5.one fun w6 hs6 hz6 hB6=>?_
 have z5:=he5.size
 have hB26:=(hB24.ext he5).same hs6 (show¬b6=b3 by omega)
 have hk6:=hk5.same hs6 fun b hb=> .inr (.inl hb)
 rw[WJ hB6 hk5.len]
 refine sor7_spec hn hk6 (fun b hb=>by have:=hD2 b hb;omega) (hp3.out ho5) hq5 fun w7 cs7 st7 r he7 hk7 hr7 ho7=>?_
 simp only[push_cast]
 refine VH (hB26.ext he7) rfl hk7.len hk7.one fun w8 hs8=>?_
 have e6:Ext w w6:=Ext.then ((Ext.then (e2.trans he3) hs4 fun b hb=>by omega).trans he5) hs6 fun b hb=>by omega
 have e8:Ext w w8:=Ext.then (e6.trans he7) hs8 fun b hb=>by omega
 exact hK w8 cs7 st7 r e8 (hk7.swap hs8 (fun b hb=> .inr (.inr hb)) fun b hb _=> .inl hb) hr7 (xR ho3 (xR ho5 ho7))
end Go.Proofs.YtaekfnbnhjgboaaGreatDoor
end
section
namespace Go.Proofs.YtaekfnbnhjgboaaGreatDoor
open Go Go.Vc Go.Proofs
variable {w:World} {K:Value→World→Prop} {D F Fx Fy Y S O:Nat→Prop} {n b4 b8:Nat} {gs gs':M.Gs} {v nv xv yv:Value} {cs cs':List Value} {st st':Option M.Gs} {a b c m x y r:Int} {xs ys:List Int}
abbrev Zr0 (D O:Nat→Prop) (b4 b8:Nat):Nat→Prop:=fun b=>D b∨b=b4∨b=b8∨O b
structure Fm (n:Nat) (D O:Nat→Prop) (w0:World) (b4 b8:Nat) (w:World) (st:Option M.Gs):Prop where
 ext:Ext w0 w
 k:∃cs,Blk w b4 cs zd∧MkR n (Zr0 D O b4 b8) w cs st
 r:∃cs,Blk w b8 cs zd∧cs.length=3
 lo:w0.heap.size≤b4∧w0.heap.size≤b8∧b4≠b8
 off:∀b,O b→b<w.heap.size∧w0.heap.size≤b∧b≠b4∧b≠b8
 dlt:∀b,D b→b<w0.heap.size
theorem Fm.start (hk:MkR n D w cs st) (hD:∀b,D b→b<w.heap.size) {K:Value→Value→World→Prop} (hK:∀b4 b8 w',Fm n D (fun _=>False) w b4 b8 w' st→K (.pointer (some ⟨b4,0,none⟩)) (.pointer (some ⟨b8,0,none⟩)) w'):
  yD PP zd (.agg ⟨cs⟩) w fun t w1=>zY PP zd w1 fun t8 w2=>K t t8 w2:=by
 refine zx fun b4 w1 hb1 he1 hz1 hB1=>?_
 refine zD xS fun b8 w2 hb2 he2 hz2 hB2=>?_
 refine hK b4 b8 w2 ⟨he1.trans he2,⟨cs,hB1.ext he2,hk.ext (he1.trans he2) fun b hb hl=>hb.elim id fun h=>?_⟩,⟨_,hB2,rfl⟩,by omega,fun b h=>h.elim,hD⟩
 rcases h with h|h|h
 ·omega
 ·omega
 ·exact h.elim
section
variable {w0 w':World}
theorem Fm.lt4 (h:Fm n D O w0 b4 b8 w st):b4<w.heap.size∧b8<w.heap.size:=by
 obtain⟨_,h1,_⟩:=h.k;obtain⟨_,h2,_⟩:=h.r;exact⟨h1.lt,h2.lt⟩
theorem Fm.dl (h:Fm n D O w0 b4 b8 w st):∀b,Zr0 D O b4 b8 b→b<w.heap.size:=fun b hb=>by
 have l:=h.lt4;have s:=h.ext.size
 rcases hb with h1|h1|h1|h1
 ·have:=h.dlt b h1;omega
 ·omega
 ·omega
 ·exact(h.off b h1).1
theorem Fm.grow (h:Fm n D O w0 b4 b8 w st) (he:Ext w w'):Fm n D O w0 b4 b8 w' st:=by
 obtain⟨cs,h1,h2⟩:=h.k;obtain⟨c8,h3,h4⟩:=h.r
 exact⟨h.ext.trans he,⟨cs,h1.ext he,h2.ext he fun _ h _=>h⟩,⟨c8,h3.ext he,h4⟩,h.lo,fun b hb=>by have h7:=h.off b hb;have:=he.size;exact⟨by omega,h7.2⟩,h.dlt⟩
theorem Fm.call (h:Fm n D O w0 b4 b8 w st):∃cs,MkR n (Zr0 D O b4 b8) w cs st∧∀w',Ext w w'→∀K:Value→World→Prop,ze PP zd (.pointer (some ⟨b4,0,none⟩)) w' K=K (.agg ⟨cs⟩) w':=by
 obtain⟨cs,h1,h2⟩:=h.k
 exact⟨cs,h2,fun w' he K=>WJ (h1.ext he) h2.len⟩
theorem Fm.put (h:Fm n D O w0 b4 b8 w st) (he:Ext w w') (hk:MkR n (Zr0 D O b4 b8) w' cs' st') (hK:∀w'',Fm n D O w0 b4 b8 w'' st'→Same (· =b4) w' w''→w''.heap.size=w'.heap.size→K undef w''):
  zr PP zd (.pointer (some ⟨b4,0,none⟩)) (.agg ⟨cs'⟩) w' K:=by
 obtain⟨cs,h1,h2⟩:=h.k;obtain⟨c8,h3,h4⟩:=h.r
 refine mk_put (h1.ext he) h2.len hk.len hk.one fun w'' hs hz hB=>hK w'' ⟨Ext.then (h.ext.trans he) hs fun b hb=>by have:=h.lo;omega,⟨cs',hB,hk.same hs fun b hb=> .inr (.inl hb)⟩,⟨c8,(h3.ext he).same hs fun e=>h.lo.2.2 e.symm,h4⟩,h.lo,fun b hb=>?_,h.dlt⟩ hs hz
 have h7:=h.off b hb;have:=he.size;exact⟨by omega,h7.2⟩
theorem Fm.own {O':Nat→Prop} (h:Fm n D O w0 b4 b8 w st) (hw:Same S w w') (hS:∀b,S b→O b) (hO:∀b,O' b→b<w'.heap.size∧(O b∨w.heap.size≤b)):Fm n D O' w0 b4 b8 w' st:=by
 obtain⟨cs,h1,h2⟩:=h.k;obtain⟨c8,h3,h4⟩:=h.r
 have l:=h.lt4;have s:=h.ext.size
 refine⟨Ext.then h.ext hw fun b hb=>(h.off b (hS b hb)).2.1,⟨cs,h1.same hw fun hs=>(h.off _ (hS _ hs)).2.2.1 rfl,h2.swap hw (fun b hb=> .inr (.inr (.inr (hS b hb)))) fun b hb hl=>?_⟩,⟨c8,h3.same hw fun hs=>(h.off _ (hS _ hs)).2.2.2 rfl,h4⟩,h.lo,fun b hb=>?_,h.dlt⟩
 ·rcases hb with h1|h1|h1|h1
  ·exact .inl h1
  ·exact .inr (.inl h1)
  ·exact .inr (.inr (.inl h1))
  ·exact(hO b h1).2.elim (fun h=> .inr (.inr (.inr h))) fun h=>by omega
 ·obtain⟨h5,h6⟩:=hO b hb
  rcases h6 with h6|h6
  ·have:=h.off b h6;exact⟨h5,this.2⟩
  ·exact⟨h5,by omega,by omega,by omega⟩
theorem Fm.fin (h:Fm n D O w0 b4 b8 w st) (hK:∀w' cs,Ext w0 w'→MkR n D w' cs st→Same (· =b8) w w'→K (.agg ⟨cs⟩) w'):
  ze PP zd (.pointer (some ⟨b4,0,none⟩)) w fun t w1=>zr PP zd (.pointer (some ⟨b8,0,none⟩)) t w1 fun _ w2=>vlv PP zd (.pointer (some ⟨b8,0,none⟩)) w2 K:=by
 obtain⟨cs,h1,h2⟩:=h.k;obtain⟨c8,h3,h4⟩:=h.r
 rw[WJ h1 h2.len]
 exact VH h3 h4 h2.len h2.one fun w' hs=>hK w' cs (Ext.then h.ext hs fun b hb=>by have:=h.lo;omega) (h2.swap hs (fun b hb=> .inr (.inr (.inl hb))) fun b hb _=> .inl hb) hs
theorem Fm.out (h:Fm n D O w0 b4 b8 w st) (he:Ext w w') (hk:MkR n (Zr0 D O b4 b8) w' cs' st') (hK:∀w'',Ext w0 w''→MkR n D w'' cs' st'→Same (· =b8) w' w''→K (.agg ⟨cs'⟩) w''):
  zr PP zd (.pointer (some ⟨b8,0,none⟩)) (.agg ⟨cs'⟩) w' fun _ w2=>vlv PP zd (.pointer (some ⟨b8,0,none⟩)) w2 K:=by
 obtain⟨c8,h3,h4⟩:=h.r
 exact VH (h3.ext he) h4 hk.len hk.one fun w'' hs=>hK w'' (Ext.then (h.ext.trans he) hs fun b hb=>by have:=h.lo;omega) (hk.swap hs (fun b hb=> .inr (.inr (.inl hb))) fun b hb _=> .inl hb) hs
end
abbrev O1 (v:Value):Nat→Prop:=fun b=>v.ownBlock=some b
abbrev Low (w:World):Nat→Prop:=fun b=>b<w.heap.size
theorem Ints.under (h:Ints Fx w xv xs):Ints (Low w) w xv xs:=Ints.weaken h fun _ _ hl=>hl
theorem Ints.ext0 {w0 w:World} (h:Ints (Low w0) w0 xv xs) (he:Ext w0 w):Ints (Low w0) w xv xs:=Ints.ext h he
theorem Fm.app {w0:World} {zs:List Int} {x:Int} {ty:Nat} (h:Fm n D (O1 v) w0 b4 b8 w st) (ho:OwnI PP zh w v zs) (hl:zs.length≤1000000)
  (hK:∀v' w',Fm n D (O1 v') w0 b4 b8 w' st→OwnI PP zh w' v' (zs++[x])→Ext w0 w'→K v' w'):
  vbuildS PP zh 1 [(0,.int .i64 x)] w fun t w1=>vbi PP .append [zh,zh] ty [v,t] w1 K:=by
 refine ya Zu kO Zr rfl rfl fun b5 w5 hb5 he5 hz5 hB5=>?_
 refine(ho.ext he5).app1 Z8 hB5 (by omega) (by omega) fun v6 w6 ho6 hs6 hn6=>?_
 have h6:=(h.grow he5).own (O':=O1 v6) hs6 (fun b hb=>hb) fun b hb=>⟨ho6.lt hb,hn6 b hb⟩
 exact hK v6 w6 h6 ho6 h6.ext
theorem Fm.nil {w0:World} (h:Fm n D (fun _=>False) w0 b4 b8 w st) (hK:∀v' w',Fm n D (O1 v') w0 b4 b8 w' st→OwnI PP zh w' v' []→Ext w0 w'→K v' w'):vbuildS PP zh 0 [] w K:=by
 refine qs Zu kO fun b5 w5 hb5 he5 hz5 hB5=>?_
 have ho:OwnI PP zh w5 (.slice (some ⟨b5,0,none⟩) 0 0) []:=Blk.own1 (P:=PP) (t:=zh) (cs:=[]) (by rw[zK0];exact hB5) (Nat.zero_le _) rfl rfl (by omega)
 have h5:=h.own (O':=O1 (.slice (some ⟨b5,0,none⟩) 0 0)) (S:=fun _=>False) he5 (fun b hb=>hb) fun b hb=>by
  have e:b5=b:=Option.some.inj hb
  exact⟨by omega,.inr (by omega)⟩
 exact hK _ w5 h5 ho h5.ext
theorem sadd7_spec (hn:n≤8) (hk:MkR n D w cs st) (hD:∀b,D b→b<w.heap.size) (hx:Ints Fx w xv xs) (hy:Ints Fy w yv ys) (hl:xs.length≤ys.length) (h8:xs.length≤1000) (hxs:SnL st xs) (hys:SnL st ys) (hc:Sn st c)
  (hK:∀w' cs' st' r zs,Ext w w'→MkR n D w' cs' st'→OwnI PP zh w' r zs→(∀b,r.ownBlock=some b→w.heap.size≤b)→SnL st' zs→M.Bd.Out n (M.sumB xs ys c) st st' zs→K (.tuple #[.agg ⟨cs'⟩,r]) w'):
  vcall PP qu #[.agg ⟨cs⟩,xv,yv,.int .i64 c] w K:=by
 apply yO0;unfold VV
 refine Fm.start hk hD fun b4 b8 w1 h1=>?_
 refine h1.nil fun v2 w2 h2 ho2 e2=>?_
 have hx0:=Ints.under hx;have hy0:=Ints.under hy
 refine vloop_up xs.length (fun i u w'=> ∃st1 r zs c1,u=[.int .i64 c1,r,.int .i64 i]∧Fm n D (O1 r) w b4 b8 w' st1∧OwnI PP zh w' r zs∧zs.length=i∧SnL st1 zs∧SnL st1 xs∧SnL st1 ys∧Sn st1 c1∧
  ∀st2 rs,M.Bd.Out n (M.sumB (xs.drop i) (ys.drop i) c1) st1 st2 rs→M.Bd.Out n (M.sumB xs ys c) st st2 (zs++rs)) ⟨st,_,[],c,rfl,h2,ho2,rfl,SnL.nil,hxs,hys,hc,fun _ _ h=>h⟩ ?_
 rintro i _ g w3 C hi ⟨st3,r3,zs,c3,rfl,h3,ho3,hzl,hz3,hxs3,hys3,hc3,hout⟩ hC
 have hx3:=Ints.ext0 hx0 h3.ext
 simp(disch:=first|(simp only[push_cast];done)|omega) only[push_cast,hx3.len]
 refine zg (fun hlt=>?_) (fun hge=>?_)
 ·have hi':i<xs.length:=by omega
  refine zt fun w4 he4 _=>?_
  have h4:=h3.grow he4
  have hx4:=Ints.ext0 hx0 h4.ext
  have hy4:=Ints.ext0 hy0 h4.ext
  obtain⟨c4,hk4,hld4⟩:=h4.call
  simp(disch:=first|(simp only[push_cast];done)|omega) only[push_cast,hx4.iaddr,hx4.load,hy4.iaddr,hy4.load,true_and,hld4 w4 (Same.refl _ _)]
  refine sxor7_spec hn hk4 h4.dl (hxs3.get hi') (hys3.get (by omega)) fun w5 cs5 st5 d he5 hk5 hd ho5=>?_
  simp only[push_cast,true_and]
  refine h4.put he5 hk5 fun w6 h6 hs6 hz6=>?_
  obtain⟨c6,hk6,hld6⟩:=h6.call
  simp only[push_cast,true_and,and_self,hld6 w6 (Same.refl _ _)]
  refine sxor7_spec hn hk6 h6.dl hd (hc3.out ho5) fun w7 cs7 st7 s he7 hk7 hs ho7=>?_
  simp only[push_cast,true_and]
  refine h6.put he7 hk7 fun w8 h8' hs8 hz8=>?_
  refine zt fun w9 he9 _=>?_
  have h9:=h8'.grow he9
  have hx9:=Ints.ext0 hx0 h9.ext
  have hy9:=Ints.ext0 hy0 h9.ext
  obtain⟨c9,hk9,hld9⟩:=h9.call
  simp(disch:=first|(simp only[push_cast];done)|omega) only[push_cast,hx9.iaddr,hx9.load,hy9.iaddr,hy9.load,true_and,hld9 w9 (Same.refl _ _)]
  have hxs7:=(hxs3.out ho5).out ho7
  have hys7:=(hys3.out ho5).out ho7
  refine sand7_spec hn hk9 h9.dl (hxs7.get hi') (hys7.get (by omega)) fun w10 cs10 st10 p he10 hk10 hp ho10=>?_
  simp only[push_cast,true_and]
  refine h9.put he10 hk10 fun w11 h11 hs11 hz11=>?_
  obtain⟨c11,hk11,hld11⟩:=h11.call
  simp only[push_cast,true_and,and_self,hld11 w11 (Same.refl _ _)]
  refine sand7_spec hn hk11 h11.dl ((hd.out ho7).out ho10) (((hc3.out ho5).out ho7).out ho10) fun w12 cs12 st12 q he12 hk12 hq ho12=>?_
  simp only[push_cast,true_and]
  refine h11.put he12 hk12 fun w13 h13 hs13 hz13=>?_
  obtain⟨c13,hk13,hld13⟩:=h13.call
  simp only[push_cast,true_and,and_self,hld13 w13 (Same.refl _ _)]
  refine sor7_spec hn hk13 h13.dl (hp.out ho12) hq fun w14 cs14 st14 c2 he14 hk14 hc2 ho14=>?_
  simp only[push_cast,true_and]
  refine h13.put he14 hk14 fun w15 h15 hs15 hz15=>?_
  have ho15:OwnI PP zh w15 r3 zs:=by
   have off:∀b,r3.ownBlock=some b→¬b=b4:=fun b hb=>(h3.off b hb).2.2.1
   exact((((((((((ho3.ext he4).ext he5).same hs6 off).ext he7).same hs8 off).ext he9).ext he10).same hs11 off).ext he12).same hs13 off|>.ext he14).same hs15 off
  refine h15.app ho15 (by omega) fun r16 w16 h16 ho16 e16=>?_
  simp(disch:=omega) only[push_cast,zA]
  have up:∀{x},Sn st7 x→Sn st14 x:=fun h=>((h.out ho10).out ho12).out ho14
  refine hC hi' _ _ ⟨st14,r16,zs++[s],c2,by simp<;>exact⟨rfl,rfl⟩,h16,ho16,by simp[hzl],SnL.app (fun x hx=>up (((hz3 x hx).out ho5).out ho7)) (SnL.one (up hs)),fun x hx=>up (hxs7 x hx),fun x hx=>up (hys7 x hx),hc2,fun st2 rs ho=>?_⟩
  have:=hout st2 (s::rs) ?_
  ·simpa using this
  rw[xq hi',xq (show i<ys.length by omega)]
  exact Zs ho5 (Zs ho7 (xR ho10 (xR ho12 (M.Bd.Out.bind ho14 (M.Bd.Out.map _ ho)))))
 ·have:=hout st3 [] (by rw[qC0 (by omega)];exact M.Bd.Out.ret _ _)
  rw[List.append_nil] at this
  refine h3.fin fun w4 cs4 e4 hk4 hs4=>?_
  exact hK w4 cs4 st3 r3 zs e4 hk4 (ho3.same hs4 fun b hb e=>(h3.off b hb).2.2.2 e) (fun b hb=>(h3.off b hb).2.1) hz3 this
end Go.Proofs.YtaekfnbnhjgboaaGreatDoor
end
section
namespace Go.Proofs.YtaekfnbnhjgboaaGreatDoor
open Go Go.Vc Go.Proofs
variable {w:World} {K:Value→World→Prop} {D F Fx Fy Y S O:Nat→Prop} {n b4 b8:Nat} {gs gs':M.Gs} {v nv xv yv:Value} {cs cs':List Value} {st st':Option M.Gs} {a b c m x y r:Int} {xs ys:List Int}
theorem spec_nil (hK:∀v' w',OwnI PP zh w' v' []→Ext w w'→(∀b,v'.ownBlock=some b→w.heap.size≤b)→K v' w'):vbuildS PP zh 0 [] w K:=by
 refine qs Zu kO fun b5 w5 hb5 he5 hz5 hB5=>?_
 exact hK _ w5 (Blk.own1 (P:=PP) (t:=zh) (cs:=[]) (by rw[zK0];exact hB5) (Nat.zero_le _) rfl rfl (by omega)) he5 fun b hb=>by have e:b5=b:=Option.some.inj hb;omega
theorem spec_app {w0:World} {zs:List Int} {x:Int} {ty:Nat} (he:Ext w0 w) (ho:OwnI PP zh w v zs) (hn:∀b,v.ownBlock=some b→w0.heap.size≤b) (hl:zs.length≤1000000)
  (hK:∀v' w',OwnI PP zh w' v' (zs++[x])→Ext w0 w'→(∀b,v'.ownBlock=some b→w0.heap.size≤b)→K v' w'):
  vbuildS PP zh 1 [(0,.int .i64 x)] w fun t w1=>vbi PP .append [zh,zh] ty [v,t] w1 K:=by
 refine ya Zu kO Zr rfl rfl fun b5 w5 hb5 he5 hz5 hB5=>?_
 refine(ho.ext he5).app1 Z8 hB5 (by omega) (by omega) fun v6 w6 ho6 hs6 hn6=>?_
 have s:=he.size
 exact hK v6 w6 ho6 (Ext.then (he.trans he5) hs6 fun b hb=>hn b hb) fun b hb=>(hn6 b hb).elim (hn b) fun h=>by omega
theorem sturn7_spec (hx:Ints Fx w xv xs) (hl:xs.length≤100000) (hxs:SmL xs) (hK:∀w' r,Ext w w'→OwnI PP zh w' r (M.negL xs)→(∀b,r.ownBlock=some b→w.heap.size≤b)→K r w'):vcall PP xX #[xv] w K:=by
 apply zQ0;unfold Kz
 refine spec_nil fun v1 w1 ho1 e1 hn1=>?_
 refine vloop_up xs.length (fun i u w'=> ∃r,u=[r,.int .i64 i]∧Ext w w'∧OwnI PP zh w' r (M.negL (xs.take i))∧∀b,r.ownBlock=some b→w.heap.size≤b) ⟨_,rfl,e1,ho1,hn1⟩ ?_
 rintro i _ g w2 C hi ⟨r,rfl,e2,ho2,hn2⟩ hC
 have hx2:=Ints.ext hx e2
 simp(disch:=first|(simp only[push_cast];done)|omega) only[push_cast,hx2.len]
 refine zg (fun a=>?_) (fun a=>?_)
 ·have hi':i<xs.length:=by omega
  have hs:=hxs.get hi'
  unfold Sm at hs
  simp(disch:=first|(simp only[push_cast];done)|omega) only[push_cast,hx2.iaddr,hx2.load,zA,Int.zero_sub]
  refine spec_app e2 ho2 hn2 (by rw[M.negL_len,List.length_take];omega) fun v3 w3 ho3 e3 hn3=>?_
  try simp(disch:=omega) only[push_cast,zA]
  refine hC hi' _ _ ⟨v3,by simp,e3,?_,hn3⟩
  rw[M.take_add hi' 0];unfold M.negL at ho3⊢;rw[List.map_append];exact ho3
 ·have hi':i=xs.length:=by omega
  subst hi'
  rw[List.take_length] at ho2
  exact hK w2 r e2 ho2 hn2
theorem sfill7_spec {m:Nat} {x:Int} (hl:m≤100000) (hK:∀w' r,Ext w w'→OwnI PP zh w' r (List.replicate m x)→(∀b,r.ownBlock=some b→w.heap.size≤b)→K r w'):vcall PP xY #[.int .i64 x,.int .i64 m] w K:=by
 apply zV0;unfold KE
 refine spec_nil fun v1 w1 ho1 e1 hn1=>?_
 refine vloop_up m (fun i u w'=> ∃r,u=[r,.int .i64 i]∧Ext w w'∧OwnI PP zh w' r (List.replicate i x)∧∀b,r.ownBlock=some b→w.heap.size≤b) ⟨_,rfl,e1,ho1,hn1⟩ ?_
 rintro i _ g w2 C hi ⟨r,rfl,e2,ho2,hn2⟩ hC
 simp only[push_cast]
 refine zg (fun a=>?_) (fun a=>?_)
 ·have hi':i<m:=by omega
  refine spec_app e2 ho2 hn2 (by rw[List.length_replicate];omega) fun v3 w3 ho3 e3 hn3=>?_
  try simp(disch:=omega) only[push_cast,zA]
  refine hC hi' _ _ ⟨v3,by simp,e3,?_,hn3⟩
  rw[List.replicate_succ'];exact ho3
 ·have hi':i=m:=by omega
  subst hi'
  exact hK w2 r e2 ho2 hn2
theorem sless7_spec (hn:n≤8) (hk:MkR n D w cs st) (hD:∀b,D b→b<w.heap.size) (hx:Ints Fx w xv xs) (hy:Ints Fy w yv ys) (hl:xs.length≤ys.length) (h8:xs.length≤1000) (hxs:SnL st xs) (hys:SnL st ys)
  (hK:∀w' cs' st' r,Ext w w'→MkR n D w' cs' st'→Sn st' r→M.Bd.Out n (M.lessB xs ys (-1)) st st' r→K (.tuple #[.agg ⟨cs'⟩,.int .i64 r]) w'):
  vcall PP jl #[.agg ⟨cs⟩,xv,yv] w K:=by
 apply zT0;unfold KC
 refine Fm.start hk hD fun b4 b8 w1 h1=>?_
 have hx0:=Ints.under hx;have hy0:=Ints.under hy
 refine vloop_up xs.length (fun i u w'=> ∃st1 r,u=[.int .i64 r,.int .i64 i]∧Fm n D (fun _=>False) w b4 b8 w' st1∧SnL st1 xs∧SnL st1 ys∧Sn st1 r∧
  ∀st2 q,M.Bd.Out n (M.lessB (xs.drop i) (ys.drop i) r) st1 st2 q→M.Bd.Out n (M.lessB xs ys (-1)) st st2 q) ⟨st,-1,rfl,h1,hxs,hys,Sn.of (by decide) (by decide),fun _ _ h=>h⟩ ?_
 rintro i _ g w3 C hi ⟨st3,r3,rfl,h3,hxs3,hys3,hr3,hout⟩ hC
 have hx3:=Ints.ext0 hx0 h3.ext
 simp(disch:=first|(simp only[push_cast];done)|omega) only[push_cast,hx3.len]
 refine zg (fun hlt=>?_) (fun hge=>?_)
 ·have hi':i<xs.length:=by omega
  refine zt fun w4 he4 _=>?_
  have h4:=h3.grow he4
  have hx4:=Ints.ext0 hx0 h4.ext
  have hy4:=Ints.ext0 hy0 h4.ext
  obtain⟨c4,hk4,hld4⟩:=h4.call
  simp(disch:=first|(simp only[push_cast];done)|omega) only[push_cast,hx4.iaddr,hx4.load,hy4.iaddr,hy4.load,true_and,hld4 w4 (Same.refl _ _)]
  refine sxor7_spec hn hk4 h4.dl (hxs3.get hi') (hys3.get (by omega)) fun w5 cs5 st5 d he5 hk5 hd ho5=>?_
  simp only[push_cast,true_and]
  refine h4.put he5 hk5 fun w6 h6 hs6 hz6=>?_
  try simp only[push_cast,true_and,and_self]
  refine zt fun w7 he7 _=>?_
  have h7:=h6.grow he7
  have hy7:=Ints.ext0 hy0 h7.ext
  obtain⟨c7,hk7,hld7⟩:=h7.call
  simp(disch:=first|(simp only[push_cast];done)|omega) only[push_cast,hy7.iaddr,hy7.load,true_and,hld7 w7 (Same.refl _ _)]
  refine sone7_spec hn hk7 h7.dl hd ((hys3.out ho5).get (by omega)) (hr3.out ho5) fun w8 cs8 st8 q he8 hk8 hq ho8=>?_
  simp only[push_cast,true_and]
  refine h7.put he8 hk8 fun w9 h9 hs9 hz9=>?_
  try simp(disch:=omega) only[push_cast,zA,true_and,and_self]
  refine hC hi' _ _ ⟨st8,q,by simp<;>exact⟨rfl,rfl⟩,h9,(hxs3.out ho5).out ho8,(hys3.out ho5).out ho8,hq,fun st2 z ho=>hout st2 z ?_⟩
  rw[xq hi',xq (show i<ys.length by omega)]
  exact Zs ho5 (M.Bd.Out.bind ho8 ho)
 ·refine h3.fin fun w4 cs4 e4 hk4 hs4=>?_
  exact hK w4 cs4 st3 r3 e4 hk4 hr3 (hout st3 r3 (by rw[xG0 (by omega)];exact M.Bd.Out.ret _ _))
theorem ssame7_spec (hn:n≤8) (hk:MkR n D w cs st) (hD:∀b,D b→b<w.heap.size) (hx:Ints Fx w xv xs) (hy:Ints Fy w yv ys) (hl:xs.length≤ys.length) (h8:xs.length≤1000) (hxs:SnL st xs) (hys:SnL st ys)
  (hK:∀w' cs' st' r,Ext w w'→MkR n D w' cs' st'→Sn st' r→M.Bd.Out n (M.sameB xs ys 1) st st' r→K (.tuple #[.agg ⟨cs'⟩,.int .i64 r]) w'):
  vcall PP YD #[.agg ⟨cs⟩,xv,yv] w K:=by
 apply zS0;unfold KB
 refine Fm.start hk hD fun b4 b8 w1 h1=>?_
 have hx0:=Ints.under hx;have hy0:=Ints.under hy
 refine vloop_up xs.length (fun i u w'=> ∃st1 r,u=[.int .i64 r,.int .i64 i]∧Fm n D (fun _=>False) w b4 b8 w' st1∧SnL st1 xs∧SnL st1 ys∧Sn st1 r∧
  ∀st2 q,M.Bd.Out n (M.sameB (xs.drop i) (ys.drop i) r) st1 st2 q→M.Bd.Out n (M.sameB xs ys 1) st st2 q) ⟨st,1,rfl,h1,hxs,hys,Sn.of (by decide) (by decide),fun _ _ h=>h⟩ ?_
 rintro i _ g w3 C hi ⟨st3,r3,rfl,h3,hxs3,hys3,hr3,hout⟩ hC
 have hx3:=Ints.ext0 hx0 h3.ext
 simp(disch:=first|(simp only[push_cast];done)|omega) only[push_cast,hx3.len]
 refine zg (fun hlt=>?_) (fun hge=>?_)
 ·have hi':i<xs.length:=by omega
  refine zt fun w4 he4 _=>?_
  have h4:=h3.grow he4
  have hx4:=Ints.ext0 hx0 h4.ext
  have hy4:=Ints.ext0 hy0 h4.ext
  obtain⟨c4,hk4,hld4⟩:=h4.call
  simp(disch:=first|(simp only[push_cast];done)|omega) only[push_cast,hx4.iaddr,hx4.load,hy4.iaddr,hy4.load,true_and,hld4 w4 (Same.refl _ _)]
  refine sxor7_spec hn hk4 h4.dl (hxs3.get hi') (hys3.get (by omega)) fun w5 cs5 st5 d he5 hk5 hd ho5=>?_
  simp only[push_cast,true_and]
  refine h4.put he5 hk5 fun w6 h6 hs6 hz6=>?_
  obtain⟨c6,hk6,hld6⟩:=h6.call
  have hd1:=hd.1
  unfold Sm at hd1
  simp(disch:=omega) only[push_cast,true_and,and_self,hld6 w6 (Same.refl _ _),zA,Int.zero_sub]
  refine sand7_spec hn hk6 h6.dl (hr3.out ho5) hd.neg fun w8 cs8 st8 q he8 hk8 hq ho8=>?_
  simp only[push_cast,true_and]
  refine h6.put he8 hk8 fun w9 h9 hs9 hz9=>?_
  try simp(disch:=omega) only[push_cast,zA,true_and,and_self]
  refine hC hi' _ _ ⟨st8,q,by simp<;>exact⟨rfl,rfl⟩,h9,(hxs3.out ho5).out ho8,(hys3.out ho5).out ho8,hq,fun st2 z ho=>hout st2 z ?_⟩
  rw[xq hi',xq (show i<ys.length by omega)]
  exact Zs ho5 (xR ho8 ho)
 ·refine h3.fin fun w4 cs4 e4 hk4 hs4=>?_
  exact hK w4 cs4 st3 r3 e4 hk4 hr3 (hout st3 r3 (by rw[xC0 (by omega)];exact M.Bd.Out.ret _ _))
theorem sifs7_spec (hn:n≤8) (hk:MkR n D w cs st) (hD:∀b,D b→b<w.heap.size) (hx:Ints Fx w xv xs) (hy:Ints Fy w yv ys) (hl:xs.length≤ys.length) (h8:xs.length≤1000) (hxs:SnL st xs) (hys:SnL st ys) (hc:Sn st c)
  (hK:∀w' cs' st' r zs,Ext w w'→MkR n D w' cs' st'→OwnI PP zh w' r zs→(∀b,r.ownBlock=some b→w.heap.size≤b)→SnL st' zs→M.Bd.Out n (M.eachB (M.muxB c) xs ys) st st' zs→K (.tuple #[.agg ⟨cs'⟩,r]) w'):
  vcall PP Zv #[.agg ⟨cs⟩,.int .i64 c,xv,yv] w K:=by
 apply yJ0;unfold VO
 refine Fm.start hk hD fun b4 b8 w1 h1=>?_
 refine h1.nil fun v2 w2 h2 ho2 e2=>?_
 have hx0:=Ints.under hx;have hy0:=Ints.under hy
 refine vloop_up xs.length (fun i u w'=> ∃st1 r zs,u=[r,.int .i64 i]∧Fm n D (O1 r) w b4 b8 w' st1∧OwnI PP zh w' r zs∧zs.length=i∧SnL st1 zs∧SnL st1 xs∧SnL st1 ys∧Sn st1 c∧
  ∀st2 rs,M.Bd.Out n (M.eachB (M.muxB c) (xs.drop i) (ys.drop i)) st1 st2 rs→M.Bd.Out n (M.eachB (M.muxB c) xs ys) st st2 (zs++rs)) ⟨st,_,[],rfl,h2,ho2,rfl,SnL.nil,hxs,hys,hc,fun _ _ h=>h⟩ ?_
 rintro i _ g w3 C hi ⟨st3,r3,zs,rfl,h3,ho3,hzl,hz3,hxs3,hys3,hc3,hout⟩ hC
 have hx3:=Ints.ext0 hx0 h3.ext
 simp(disch:=first|(simp only[push_cast];done)|omega) only[push_cast,hx3.len]
 refine zg (fun hlt=>?_) (fun hge=>?_)
 ·have hi':i<xs.length:=by omega
  refine zt fun w4 he4 _=>?_
  have h4:=h3.grow he4
  have hx4:=Ints.ext0 hx0 h4.ext
  have hy4:=Ints.ext0 hy0 h4.ext
  obtain⟨c4,hk4,hld4⟩:=h4.call
  simp(disch:=first|(simp only[push_cast];done)|omega) only[push_cast,hx4.iaddr,hx4.load,hy4.iaddr,hy4.load,true_and,hld4 w4 (Same.refl _ _)]
  refine sone7_spec hn hk4 h4.dl hc3 (hxs3.get hi') (hys3.get (by omega)) fun w5 cs5 st5 s he5 hk5 hs ho5=>?_
  simp only[push_cast,true_and]
  refine h4.put he5 hk5 fun w6 h6 hs6 hz6=>?_
  try simp only[push_cast,true_and,and_self]
  have ho6:OwnI PP zh w6 r3 zs:=((ho3.ext he4).ext he5).same hs6 fun b hb=>(h3.off b hb).2.2.1
  refine h6.app ho6 (by omega) fun r7 w7 h7 ho7 e7=>?_
  simp(disch:=omega) only[push_cast,zA]
  refine hC hi' _ _ ⟨st5,r7,zs++[s],by simp,h7,ho7,by simp[hzl],SnL.app (hz3.out ho5) (SnL.one hs),hxs3.out ho5,hys3.out ho5,hc3.out ho5,fun st2 rs ho=>?_⟩
  have:=hout st2 (s::rs) ?_
  ·simpa using this
  rw[K9 hi' (show i<ys.length by omega)]
  exact M.Bd.Out.bind ho5 (M.Bd.Out.map _ ho)
 ·have:=hout st3 [] (by rw[Qd (by omega)];exact M.Bd.Out.ret _ _)
  rw[List.append_nil] at this
  refine h3.fin fun w4 cs4 e4 hk4 hs4=>?_
  exact hK w4 cs4 st3 r3 zs e4 hk4 (ho3.same hs4 fun b hb e=>(h3.off b hb).2.2.2 e) (fun b hb=>(h3.off b hb).2.1) hz3 this
def Yd (op:Int):Int→Int→M.Bd Int:=if op=3 then fun a b=> .and a b .ret else if op=4 then M.orB else fun a b=> .xor a b .ret
theorem splain7_spec {op:Int} (hn:n≤8) (hk:MkR n D w cs st) (hD:∀b,D b→b<w.heap.size) (hx:Ints Fx w xv xs) (hy:Ints Fy w yv ys) (hl:xs.length≤ys.length) (h8:xs.length≤1000) (hxs:SnL st xs) (hys:SnL st ys)
  (hK:∀w' cs' st' r zs,Ext w w'→MkR n D w' cs' st'→OwnI PP zh w' r zs→(∀b,r.ownBlock=some b→w.heap.size≤b)→SnL st' zs→M.Bd.Out n (M.eachB (Yd op) xs ys) st st' zs→K (.tuple #[.agg ⟨cs'⟩,r]) w'):
  vcall PP ZU #[.agg ⟨cs⟩,.int .i64 op,xv,yv] w K:=by
 apply UD;unfold QT
 refine Fm.start hk hD fun b4 b8 w1 h1=>?_
 refine h1.nil fun v2 w2 h2 ho2 e2=>?_
 have hx0:=Ints.under hx;have hy0:=Ints.under hy
 refine vloop_up xs.length (fun i u w'=> ∃st1 r zs,u=[r,.int .i64 i]∧Fm n D (O1 r) w b4 b8 w' st1∧OwnI PP zh w' r zs∧zs.length=i∧SnL st1 zs∧SnL st1 xs∧SnL st1 ys∧
  ∀st2 rs,M.Bd.Out n (M.eachB (Yd op) (xs.drop i) (ys.drop i)) st1 st2 rs→M.Bd.Out n (M.eachB (Yd op) xs ys) st st2 (zs++rs)) ⟨st,_,[],rfl,h2,ho2,rfl,SnL.nil,hxs,hys,fun _ _ h=>h⟩ ?_
 rintro i _ g w3 C hi ⟨st3,r3,zs,rfl,h3,ho3,hzl,hz3,hxs3,hys3,hout⟩ hC
 have hx3:=Ints.ext0 hx0 h3.ext
 simp(disch:=first|(simp only[push_cast];done)|omega) only[push_cast,hx3.len]
 refine zg (fun hlt=>?_) (fun hge=>?_)
 ·have hi':i<xs.length:=by omega
  have hpl:∀st5 s,M.Bd.Out n (Yd op (xs.getD i 0) (ys.getD i 0)) st3 st5 s→∀st2 rs,M.Bd.Out n (M.eachB (Yd op) (xs.drop (i+1)) (ys.drop (i+1))) st5 st2 rs→M.Bd.Out n (M.eachB (Yd op) xs ys) st st2 ((zs++[s])++rs):=fun st5 s ho5 st2 rs ho=>by
   have:=hout st2 (s::rs) ?_
   ·simpa using this
   rw[K9 hi' (show i<ys.length by omega)]
   exact M.Bd.Out.bind ho5 (M.Bd.Out.map _ ho)
  try simp only[push_cast]
  refine zg (fun c3=>?_) (fun c3=>?_)
  ·have hp:Yd op=(fun a b=> .and a b .ret):=by unfold Yd;rw[if_pos c3]
   refine zt fun w4 he4 _=>?_
   have h4:=h3.grow he4
   have hx4:=Ints.ext0 hx0 h4.ext
   have hy4:=Ints.ext0 hy0 h4.ext
   obtain⟨c4,hk4,hld4⟩:=h4.call
   simp(disch:=first|(simp only[push_cast];done)|omega) only[push_cast,hx4.iaddr,hx4.load,hy4.iaddr,hy4.load,true_and,hld4 w4 (Same.refl _ _)]
   refine sand7_spec hn hk4 h4.dl (hxs3.get hi') (hys3.get (by omega)) fun w5 cs5 st5 s he5 hk5 hs ho5=>?_
   simp only[push_cast,true_and]
   refine h4.put he5 hk5 fun w6 h6 hs6 hz6=>?_
   try simp only[push_cast,true_and,and_self]
   have ho6:OwnI PP zh w6 r3 zs:=((ho3.ext he4).ext he5).same hs6 fun b hb=>(h3.off b hb).2.2.1
   refine h6.app ho6 (by omega) fun r7 w7 h7 ho7 e7=>?_
   simp(disch:=omega) only[push_cast,zA]
   exact hC hi' _ _ ⟨st5,r7,zs++[s],by simp,h7,ho7,by simp[hzl],SnL.app (hz3.out ho5) (SnL.one hs),hxs3.out ho5,hys3.out ho5,hpl st5 s (by rw[hp];exact ho5)⟩
  try simp only[push_cast]
  refine zg (fun c4=>?_) (fun c4=>?_)
  ·have hp:Yd op=M.orB:=by unfold Yd;rw[if_neg c3,if_pos c4]
   refine zt fun w4 he4 _=>?_
   have h4:=h3.grow he4
   have hx4:=Ints.ext0 hx0 h4.ext
   have hy4:=Ints.ext0 hy0 h4.ext
   obtain⟨c4,hk4,hld4⟩:=h4.call
   simp(disch:=first|(simp only[push_cast];done)|omega) only[push_cast,hx4.iaddr,hx4.load,hy4.iaddr,hy4.load,true_and,hld4 w4 (Same.refl _ _)]
   refine sor7_spec hn hk4 h4.dl (hxs3.get hi') (hys3.get (by omega)) fun w5 cs5 st5 s he5 hk5 hs ho5=>?_
   simp only[push_cast,true_and]
   refine h4.put he5 hk5 fun w6 h6 hs6 hz6=>?_
   try simp only[push_cast,true_and,and_self]
   have ho6:OwnI PP zh w6 r3 zs:=((ho3.ext he4).ext he5).same hs6 fun b hb=>(h3.off b hb).2.2.1
   refine h6.app ho6 (by omega) fun r7 w7 h7 ho7 e7=>?_
   simp(disch:=omega) only[push_cast,zA]
   exact hC hi' _ _ ⟨st5,r7,zs++[s],by simp,h7,ho7,by simp[hzl],SnL.app (hz3.out ho5) (SnL.one hs),hxs3.out ho5,hys3.out ho5,hpl st5 s (by rw[hp];exact ho5)⟩
  have hp:Yd op=(fun a b=> .xor a b .ret):=by unfold Yd;rw[if_neg c3,if_neg c4]
  refine zt fun w4 he4 _=>?_
  have h4:=h3.grow he4
  have hx4:=Ints.ext0 hx0 h4.ext
  have hy4:=Ints.ext0 hy0 h4.ext
  obtain⟨c4,hk4,hld4⟩:=h4.call
  simp(disch:=first|(simp only[push_cast];done)|omega) only[push_cast,hx4.iaddr,hx4.load,hy4.iaddr,hy4.load,true_and,hld4 w4 (Same.refl _ _)]
  refine sxor7_spec hn hk4 h4.dl (hxs3.get hi') (hys3.get (by omega)) fun w5 cs5 st5 s he5 hk5 hs ho5=>?_
  simp only[push_cast,true_and]
  refine h4.put he5 hk5 fun w6 h6 hs6 hz6=>?_
  try simp only[push_cast,true_and,and_self]
  have ho6:OwnI PP zh w6 r3 zs:=((ho3.ext he4).ext he5).same hs6 fun b hb=>(h3.off b hb).2.2.1
  refine h6.app ho6 (by omega) fun r7 w7 h7 ho7 e7=>?_
  simp(disch:=omega) only[push_cast,zA]
  exact hC hi' _ _ ⟨st5,r7,zs++[s],by simp,h7,ho7,by simp[hzl],SnL.app (hz3.out ho5) (SnL.one hs),hxs3.out ho5,hys3.out ho5,hpl st5 s (by rw[hp];exact ho5)⟩
 ·have:=hout st3 [] (by rw[Qd (by omega)];exact M.Bd.Out.ret _ _)
  rw[List.append_nil] at this
  refine h3.fin fun w4 cs4 e4 hk4 hs4=>?_
  exact hK w4 cs4 st3 r3 zs e4 hk4 (ho3.same hs4 fun b hb e=>(h3.off b hb).2.2.2 e) (fun b hb=>(h3.off b hb).2.1) hz3 this
end Go.Proofs.YtaekfnbnhjgboaaGreatDoor
end
section
namespace Go.Proofs.YtaekfnbnhjgboaaGreatDoor
open Go Go.Vc Go.Proofs
variable {w:World} {K:Value→World→Prop} {D F Fx Fy Y S O O':Nat→Prop} {n b4 b8:Nat} {gs gs':M.Gs} {v v' nv xv yv sv:Value} {cs cs':List Value} {st st':Option M.Gs} {a b c m x y r:Int} {xs ys:List Int}
abbrev Kp (b4 b8:Nat) (O:Nat→Prop):Nat→Prop:=fun b=>b≠b4∧b≠b8∧¬O b
section
variable {w0 w':World}
theorem Ints.kp4 (h:Ints (Kp b4 b8 O) w xv xs) (hs:Same (· =b4) w w'):Ints (Kp b4 b8 O) w' xv xs:=Ints.same h hs fun b hb _ e=>hb.1 e
theorem Ints.kpO (h:Ints (Kp b4 b8 O) w xv xs) (hs:Same S w w') (hS:∀b,S b→O b) (hO:∀b,O' b→O b∨w.heap.size≤b):Ints (Kp b4 b8 O') w' xv xs:=by
 have h1:Ints (fun b=>Kp b4 b8 O b∧b<w.heap.size) w xv xs:=Ints.weaken h fun b hb hl=>⟨hb,hl⟩
 exact Ints.weaken (Ints.same h1 hs fun b hb _ e=>hb.1.2.2 (hS b e)) fun b hb _=>⟨hb.1.1,hb.1.2.1,fun ho=>(hO b ho).elim hb.1.2.2 fun h=>by have:=hb.2;omega⟩
theorem Fm.new {zs:List Int} (h:Fm n D O w0 b4 b8 w st) (ho:OwnI PP zh w' v zs) (hn:∀b,v.ownBlock=some b→w.heap.size≤b):Ints (Kp b4 b8 O) w' v zs:=Ints.weaken ho.ints fun b hb _=>by
 have h1:=hn b hb;have h2:=h.lt4
 exact⟨by omega,by omega,fun hO=>by have:=(h.off b hO).1;omega⟩
theorem Fm.app' {zs:List Int} {x:Int} {ty:Nat} (h:Fm n D (O1 v) w0 b4 b8 w st) (ho:OwnI PP zh w v zs) (hl:zs.length≤1000000)
  (hK:∀v' w',Fm n D (O1 v') w0 b4 b8 w' st→OwnI PP zh w' v' (zs++[x])→(∀xv xs,Ints (Kp b4 b8 (O1 v)) w xv xs→Ints (Kp b4 b8 (O1 v')) w' xv xs)→K v' w'):
  vbuildS PP zh 1 [(0,.int .i64 x)] w fun t w1=>vbi PP .append [zh,zh] ty [v,t] w1 K:=by
 refine ya Zu kO Zr rfl rfl fun b5 w5 hb5 he5 hz5 hB5=>?_
 refine(ho.ext he5).app1 Z8 hB5 (by omega) (by omega) fun v6 w6 ho6 hs6 hn6=>?_
 have h6:=(h.grow he5).own (O':=O1 v6) hs6 (fun b hb=>hb) fun b hb=>⟨ho6.lt hb,hn6 b hb⟩
 exact hK v6 w6 h6 ho6 fun xv xs hx=>Ints.kpO (Ints.ext hx he5) hs6 (fun b hb=>hb) fun b hb=>hn6 b hb
theorem Fm.take {zs:List Int} (h:Fm n D (fun _=>False) w0 b4 b8 w st) (he:Ext w w') (ho:OwnI PP zh w' v zs) (hn:∀b,v.ownBlock=some b→w.heap.size≤b):Fm n D (O1 v) w0 b4 b8 w' st:=
 h.own (S:=fun _=>False) he (fun b hb=>hb) fun b hb=>⟨ho.lt hb,.inr (hn b hb)⟩
theorem Fm.drop (h:Fm n D O w0 b4 b8 w st):Fm n D (fun _=>False) w0 b4 b8 w st:=h.own (S:=fun _=>False) (Same.refl _ _) (fun b hb=>hb.elim) fun b hb=>hb.elim
end
theorem smul7_spec (hn:n≤8) (hk:MkR n D w cs st) (hD:∀b,D b→b<w.heap.size) (hx:Ints Fx w xv xs) (hy:Ints Fy w yv ys) (hl:xs.length=ys.length) (h8:xs.length≤900) (hxs:SnL st xs) (hys:SnL st ys)
  (hK:∀w' cs' st' r zs,Ext w w'→MkR n D w' cs' st'→Ints (fun b=>w.heap.size≤b) w' r zs→SnL st' zs→M.Bd.Out n (M.mulB xs ys 0 (M.offsL xs.length)) st st' zs→K (.tuple #[.agg ⟨cs'⟩,r]) w'):
  vcall PP Xm #[.agg ⟨cs⟩,xv,yv] w K:=by
 apply yI0;unfold VN
 refine Fm.start hk hD fun b4 b8 w1 h1=>?_
 have hx0:=Ints.under hx;have hy0:=Ints.under hy
 have hx1:=Ints.ext0 hx0 h1.ext
 simp(disch:=first|(simp only[push_cast];done)|omega) only[push_cast,hx1.len]
 refine sfill7_spec (by omega) fun w2 sv0 he2 hs2 hn2=>?_
 have lo:=h1.lo;have s1:=h1.ext.size
 have new0:Ints (fun b=>Kp b4 b8 (fun _=>False) b∧w.heap.size≤b) w2 sv0 (M.offsL xs.length):=Ints.weaken hs2.ints fun b hb _=>by
  have h1':=hn2 b hb;have h2:=h1.lt4
  exact⟨⟨by omega,by omega,id⟩,by omega⟩
 refine vloop_up ys.length (fun i u w'=> ∃st1 sv s,u=[sv,.int .i64 i]∧Fm n D (fun _=>False) w b4 b8 w' st1∧Ints (fun b=>Kp b4 b8 (fun _=>False) b∧w.heap.size≤b) w' sv s∧s.length=xs.length∧SnL st1 s∧SnL st1 xs∧SnL st1 ys∧
  ∀st2 res,M.Bd.Out n (M.mulB xs (ys.drop i) i s) st1 st2 res→M.Bd.Out n (M.mulB xs ys 0 (M.offsL xs.length)) st st2 res) ⟨st,sv0,_,rfl,h1.grow he2,new0,M.offsL_len _,SnL.fill _,hxs,hys,fun _ _ h=>h⟩ ?_
 rintro i _ g w3 C hi ⟨st3,sv,s,rfl,h3,hs3,hsl,hss3,hxs3,hys3,hout⟩ hC
 have hy3:=Ints.ext0 hy0 h3.ext
 simp(disch:=first|(simp only[push_cast];done)|omega) only[push_cast,hy3.len]
 refine zg (fun hlt=>?_) (fun hge=>?_)
 ·have hi':i<ys.length:=by omega
  refine sfill7_spec (by omega) fun w4 rv he4 hr4 hn4=>?_
  have h4:=h3.take he4 hr4 hn4
  have hs4:Ints (Kp b4 b8 (O1 rv)) w4 sv s:=Ints.kpO (O:=fun _=>False) (Ints.weaken hs3 fun b hb _=>hb.1) he4 (fun b hb=>hb.elim) fun b hb=> .inr (hn4 b hb)
  have hxsl:(xs.take (xs.length-i)).length=xs.length-i:=by rw[List.length_take];omega
  refine vloop_up (xs.length-i) (fun j u w'=> ∃st5 rv zs,u=[rv,.int .i64 ((i+j:Nat):Int)]∧Fm n D (O1 rv) w b4 b8 w' st5∧OwnI PP zh w' rv (M.offsL i++zs)∧zs.length=j∧Ints (Kp b4 b8 (O1 rv)) w' sv s∧SnL st5 zs∧SnL st5 s∧SnL st5 xs∧SnL st5 ys∧
   ∀st2 rs,M.Bd.Out n (M.rowB (ys.getD i 0) ((xs.take (xs.length-i)).drop j)) st5 st2 rs→M.Bd.Out n (M.rowB (ys.getD i 0) (xs.take (xs.length-i))) st3 st2 (zs++rs)) ⟨st3,rv,[],rfl,h4,by rw[List.append_nil];exact hr4,rfl,hs4,SnL.nil,hss3,hxs3,hys3,fun _ _ h=>h⟩ ?_
  rintro j _ g5 w5 C5 hj ⟨st5,rv5,zs,rfl,h5,hr5,hzl,hs5,hz5,hss5,hxs5,hys5,hout5⟩ hC5
  have hx5:=Ints.ext0 hx0 h5.ext
  simp(disch:=first|(simp only[push_cast];done)|omega) only[push_cast,hx5.len]
  refine zg (fun hlt2=>?_) (fun hge2=>?_)
  ·have hj':j<xs.length-i:=by omega
   refine zt fun w6 he6 _=>?_
   have h6:=h5.grow he6
   have hx6:=Ints.ext0 hx0 h6.ext
   have hy6:=Ints.ext0 hy0 h6.ext
   obtain⟨c6,hk6,hld6⟩:=h6.call
   have ei:((i:Int)+j)-i=(j:Int):=by omega
   simp(disch:=first|(simp only[push_cast];done)|omega) only[push_cast,zA,ei,hx6.iaddr,hx6.load,hy6.iaddr,hy6.load,true_and,hld6 w6 (Same.refl _ _)]
   refine sand7_spec hn hk6 h6.dl (hxs5.get (by omega)) (hys5.get hi') fun w7 cs7 st7 d he7 hk7 hd ho7=>?_
   simp only[push_cast,true_and]
   refine h6.put he7 hk7 fun w8 h8' hs8 hz8=>?_
   try simp only[push_cast,true_and,and_self]
   have hr8:OwnI PP zh w8 rv5 (M.offsL i++zs):=((hr5.ext he6).ext he7).same hs8 fun b hb=>(h5.off b hb).2.2.1
   have hs8':Ints (Kp b4 b8 (O1 rv5)) w8 sv s:=Ints.kp4 (Ints.ext (Ints.ext hs5 he6) he7) hs8
   refine h8'.app' hr8 (by rw[List.length_append,M.offsL_len];omega) fun rv9 w9 h9 hr9 hkeep=>?_
   try simp(disch:=omega) only[push_cast,zA]
   refine hC5 hj' _ _ ⟨st7,rv9,zs++[d],by simp<;>omega,h9,by rw[←List.append_assoc];exact hr9,by simp[hzl],hkeep _ _ hs8',SnL.app (hz5.out ho7) (SnL.one hd),hss5.out ho7,hxs5.out ho7,hys5.out ho7,fun st2 rs ho=>?_⟩
   have:=hout5 st2 (d::rs) ?_
   ·simpa using this
   rw[qI0 (by omega),JV hj']
   exact xR ho7 (M.Bd.Out.map _ ho)
  ·have hj0:j=xs.length-i:=by omega
   have hrowo:=hout5 st5 [] (by rw[xD0 (by omega)];exact M.Bd.Out.ret _ _)
   rw[List.append_nil] at hrowo
   obtain⟨c6,hk6,hld6⟩:=h5.call
   simp only[hld6 w5 (Same.refl _ _)]
   refine sadd7_spec hn hk6 h5.dl hs5 hr5.ints (by rw[List.length_append,M.offsL_len];omega) (by omega) hss5 (SnL.app (SnL.fill i) hz5) (Sn.of (by decide) (by decide)) fun w7 cs7 st7 nv ns he7 hk7 ho7 hn7 hns ho7'=>?_
   simp only[push_cast,true_and]
   refine h5.put he7 hk7 fun w8 h8' hs8 hz8=>?_
   try simp(disch:=omega) only[push_cast,zA]
   have hnl:ns.length=xs.length:=by
    have:=M.sum_len ho7'.reach
    rw[List.length_append,M.offsL_len] at this
    omega
   have l5:=h5.lt4;have s5:=h5.ext.size
   refine hC hi' _ _ ⟨st7,nv,ns,by simp,h8'.drop,Ints.same (Ints.weaken (F':=fun b=>Kp b4 b8 (fun _=>False) b∧w.heap.size≤b) ho7.ints fun b hb _=>by have:=hn7 b hb;exact⟨⟨by omega,by omega,id⟩,by omega⟩) hs8 (fun b hb _ e=>hb.1.1 e),hnl,hns,hxs5.out ho7',hys5.out ho7',fun st2 res ho=>hout st2 res ?_⟩
   rw[xq hi']
   exact M.Bd.Out.bind hrowo (M.Bd.Out.bind ho7' ho)
 ·refine h3.fin fun w4 cs4 e4 hk4 hs4=>?_
  exact hK w4 cs4 st3 sv s e4 hk4 (Ints.weaken (Ints.same hs3 hs4 fun b hb _ e=>hb.1.2.1 e) fun b hb _=>hb.2) hss3 (hout st3 s (by rw[xF0 (by omega)];exact M.Bd.Out.ret _ _))
theorem sfrom7_spec {op fill:Int} {j b:Nat} (hs:Ints Fx w sv xs) (hj:j<xs.length) (hl:xs.length≤1000) (hb:b≤1000) (hK:K (.int .i64 (M.fromL (decide (op=11)) fill xs b j)) w):
  vcall PP YE #[.int .i64 op,sv,.int .i64 j,.int .i64 b,.int .i64 fill] w K:=by
 apply zU0;unfold KD
 obtain⟨f1,f2,f3⟩:=from_at (up:=decide (op=11)) (fill:=fill) (s:=xs) (b:=b) hj
 simp(disch:=omega) only[push_cast,zA]
 refine zg (fun c=>?_) (fun c=>?_)
 ·rw[decide_eq_true c] at f1 f2 f3 hK
  simp only[if_true] at f1 f2 f3
  rw[show(j:Int)-b=j+ -(b:Int) by omega]
  try simp(disch:=omega) only[push_cast,zA]
  refine zg (fun d=>?_) (fun d=>?_)
  ·rw[f2 d] at hK;exact hK
  try simp(disch:=first|(simp only[push_cast];done)|omega) only[push_cast,hs.len]
  refine zg (fun e=>?_) (fun e=>?_)
  ·rw[f3 e] at hK;exact hK
  simp(disch:=first|(simp only[push_cast];done)|omega) only[push_cast,hs.iaddr,hs.load]
  rw[f1 (by omega) (by omega)] at hK;exact hK
 ·rw[decide_eq_false c] at f1 f2 f3 hK
  simp only[Bool.false_eq_true,if_false] at f1 f2 f3
  refine zg (fun d=>absurd d (by omega)) (fun d=>?_)
  try simp(disch:=first|(simp only[push_cast];done)|omega) only[push_cast,hs.len]
  refine zg (fun e=>?_) (fun e=>?_)
  ·rw[f3 e] at hK;exact hK
  simp(disch:=first|(simp only[push_cast];done)|omega) only[push_cast,hs.iaddr,hs.load]
  rw[f1 (by omega) (by omega)] at hK;exact hK
theorem from_sn {up:Bool} {fill:Int} {s:List Int} {b k:Nat} (hf:Sn st fill) (hs:SnL st s) (hk:k<s.length):Sn st (M.fromL up fill s b k):=by
 unfold M.fromL
 repeat' split
 all_goals first|exact hf|exact hs.get (by omega)
theorem sshift7_spec {op:Int} (hn:n≤8) (hk:MkR n D w cs st) (hD:∀b,D b→b<w.heap.size) (hx:Ints Fx w xv xs) (hy:Ints Fy w yv ys) (h1:1≤xs.length) (h8:xs.length≤1000) (hy8:ys.length≤8) (hxs:SnL st xs) (hys:SnL st ys)
  (hK:∀w' cs' st' r zs,Ext w w'→MkR n D w' cs' st'→Ints (fun b=>w.heap.size≤b) w' r zs→SnL st' zs→M.Bd.Out n (M.shiftB (decide (op=11)) (if op=13 then xs.getD (xs.length-1) 0 else-1) ys 0 xs) st st' zs→K (.tuple #[.agg ⟨cs'⟩,r]) w'):
  vcall PP ZT #[.agg ⟨cs⟩,.int .i64 op,xv,yv] w K:=by
 apply UC;unfold QS
 refine Fm.start hk hD fun b4 b8 w1 h1'=>?_
 have hx0:=Ints.under hx;have hy0:=Ints.under hy
 have lo:=h1'.lo;have s1:=h1'.ext.size
 refine spec_nil fun v2 w2 ho2 e2 hn2=>?_
 refine ho2.app Z8 (Ints.ext0 hx0 (h1'.ext.trans e2)) (by simp;omega) (by simp;omega) fun v3 w3 ho3 hs3 hn3=>?_
 have l1:=h1'.lt4;have z2:=e2.size
 have e13:Ext w1 w3:=Ext.then e2 hs3 fun b hb=>hn2 b hb
 have hnv3:∀b,v3.ownBlock=some b→w1.heap.size≤b:=fun b hb=>(hn3 b hb).elim (hn2 b) fun h=>by omega
 have h3:=h1'.grow e13
 have new3:Ints (fun b=>Kp b4 b8 (fun _=>False) b∧w.heap.size≤b) w3 v3 xs:=Ints.weaken ho3.ints fun b hb _=>by
  have:=hnv3 b hb
  exact⟨⟨by omega,by omega,id⟩,by omega⟩
 have hfs:Sn st (if op=13 then xs.getD (xs.length-1) 0 else-1):=by
  split
  ·exact hxs.get (by omega)
  ·exact Sn.of (by decide) (by decide)
 refine zW (fun u w'=>u=[.int .i64 (if op=13 then xs.getD (xs.length-1) 0 else-1)]∧w'=w3) ?_ ?_
 ·intro J hJ
  have hx3:=Ints.ext0 hx0 h3.ext
  simp only[push_cast]
  refine zg (fun c=>?_) (fun c=>?_)
  ·rw[if_pos c] at hJ
   simp(disch:=first|(simp only[push_cast];done)|omega) only[push_cast,hx3.len,zA]
   rw[show((xs.length:Int)-1)=((xs.length-1:Nat):Int) by omega]
   rw[hx3.iaddr Ka (by omega) (by omega),Int.toNat_natCast,hx3.load q00 (by omega)]
   exact hJ _ _ ⟨rfl,rfl⟩
  ·rw[if_neg c] at hJ
   exact hJ _ _ ⟨rfl,rfl⟩
 rintro _ _ w4 ⟨rfl,rfl⟩
 generalize (if op=13 then xs.getD (xs.length-1) 0 else-1)=fill at*
 refine vloop_up ys.length (fun i u w'=> ∃st1 sv s,u=[sv,.int .i64 i]∧Fm n D (fun _=>False) w b4 b8 w' st1∧Ints (fun b=>Kp b4 b8 (fun _=>False) b∧w.heap.size≤b) w' sv s∧s.length=xs.length∧SnL st1 s∧SnL st1 ys∧Sn st1 fill∧
  ∀st2 res,M.Bd.Out n (M.shiftB (decide (op=11)) fill (ys.drop i) i s) st1 st2 res→M.Bd.Out n (M.shiftB (decide (op=11)) fill ys 0 xs) st st2 res) ⟨st,v3,_,rfl,h3,new3,rfl,hxs,hys,hfs,fun _ _ h=>h⟩ ?_
 rintro i _ g w5 C hi ⟨st5,sv,s,rfl,h5,hs5,hsl,hss5,hys5,hf5,hout⟩ hC
 have hy5:=Ints.ext0 hy0 h5.ext
 simp(disch:=first|(simp only[push_cast];done)|omega) only[push_cast,hy5.len]
 refine zg (fun hlt=>?_) (fun hge=>?_)
 ·have hi':i<ys.length:=by omega
  have hp:=pow_le4 (i:=i) (by omega)
  obtain⟨B,hB⟩:∃B,2^i=B:=⟨_,rfl⟩
  refine spec_nil fun rv w6 hr6 he6 hn6=>?_
  have h6:=h5.take he6 hr6 hn6
  have hs6:Ints (Kp b4 b8 (O1 rv)) w6 sv s:=Ints.kpO (O:=fun _=>False) (Ints.weaken hs5 fun b hb _=>hb.1) he6 (fun b hb=>hb.elim) fun b hb=> .inr (hn6 b hb)
  refine vloop_up s.length (fun j u w'=> ∃st7 rv zs,u=[rv,.int .i64 j]∧Fm n D (O1 rv) w b4 b8 w' st7∧OwnI PP zh w' rv zs∧zs.length=j∧Ints (Kp b4 b8 (O1 rv)) w' sv s∧SnL st7 zs∧SnL st7 s∧SnL st7 ys∧Sn st7 fill∧
   ∀st2 rs,M.Bd.Out n (M.eachB (M.muxB (ys.getD i 0)) (((List.range s.length).map (M.fromL (decide (op=11)) fill s B)).drop j) (s.drop j)) st7 st2 rs→M.Bd.Out n (M.eachB (M.muxB (ys.getD i 0)) ((List.range s.length).map (M.fromL (decide (op=11)) fill s B)) s) st5 st2 (zs++rs)) ⟨st5,rv,[],rfl,h6,hr6,rfl,hs6,SnL.nil,hss5,hys5,hf5,fun _ _ h=>h⟩ ?_
  rintro j _ g7 w7 C7 hj ⟨st7,rv7,zs,rfl,h7,hr7,hzl,hs7,hz7,hss7,hys7,hf7,hout7⟩ hC7
  simp(disch:=first|(simp only[push_cast];done)|omega) only[push_cast,hs7.len]
  refine zg (fun hlt2=>?_) (fun hge2=>?_)
  ·have hj':j<s.length:=by omega
   refine zt fun w8 he8 _=>?_
   have h8':=h7.grow he8
   have hs8:=Ints.ext hs7 he8
   have hy8':=Ints.ext0 hy0 h8'.ext
   obtain⟨c8,hk8,hld8⟩:=h8'.call
   simp(disch:=first|(simp only[push_cast];done)|omega) only[push_cast,hs8.iaddr,hs8.load,hy8'.iaddr,hy8'.load,true_and,hld8 w8 (Same.refl _ _)]
   refine l1Two_nat (by omega) ?_
   rw[hB]
   simp(disch:=first|(simp only[push_cast];done)|omega) only[push_cast,hs8.iaddr,hs8.load,hy8'.iaddr,hy8'.load,true_and,and_self,hld8 w8 (Same.refl _ _)]
   refine sfrom7_spec hs8 hj' (by omega) (by omega) ?_
   simp(disch:=first|(simp only[push_cast];done)|omega) only[push_cast,hs8.iaddr,hs8.load,hy8'.iaddr,hy8'.load,true_and,and_self,hld8 w8 (Same.refl _ _)]
   refine sone7_spec hn hk8 h8'.dl (hys7.get hi') (from_sn hf7 hss7 hj') (hss7.get hj') fun w9 cs9 st9 d he9 hk9 hd ho9=>?_
   simp only[push_cast,true_and]
   refine h8'.put he9 hk9 fun w10 h10 hs10 hz10=>?_
   try simp only[push_cast,true_and,and_self]
   have hr10:OwnI PP zh w10 rv7 zs:=((hr7.ext he8).ext he9).same hs10 fun b hb=>(h7.off b hb).2.2.1
   have hs10':Ints (Kp b4 b8 (O1 rv7)) w10 sv s:=Ints.kp4 (Ints.ext hs8 he9) hs10
   refine h10.app' hr10 (by omega) fun rv11 w11 h11 hr11 hkeep=>?_
   try simp(disch:=omega) only[push_cast,zA]
   refine hC7 hj' _ _ ⟨st9,rv11,zs++[d],by simp,h11,hr11,by simp[hzl],hkeep _ _ hs10',SnL.app (hz7.out ho9) (SnL.one hd),hss7.out ho9,hys7.out ho9,hf7.out ho9,fun st2 rs ho=>?_⟩
   have:=hout7 st2 (d::rs) ?_
   ·simpa using this
   rw[K9 (by simpa using hj') hj',WC hj']
   exact M.Bd.Out.bind ho9 (M.Bd.Out.map _ ho)
  ·have hj0:j=s.length:=by omega
   have hrowo:=hout7 st7 [] (by rw[Qd (by simp;omega)];exact M.Bd.Out.ret _ _)
   rw[List.append_nil] at hrowo
   try simp(disch:=omega) only[push_cast,zA]
   refine hC hi' _ _ ⟨st7,rv7,zs,by simp,h7.drop,Ints.weaken hr7.ints (fun b hb _=>by have h9:=h7.off b hb;exact⟨⟨h9.2.2.1,h9.2.2.2,id⟩,h9.2.1⟩),by omega,hz7,hys7,hf7,fun st2 res ho=>hout st2 res ?_⟩
   rw[xq hi']
   rw[←hB] at hrowo
   exact M.Bd.Out.bind hrowo ho
 ·refine h5.fin fun w6 cs6 e6 hk6 hs6=>?_
  exact hK w6 cs6 st5 sv s e6 hk6 (Ints.weaken (Ints.same hs5 hs6 fun b hb _ e=>hb.1.2.1 e) fun b hb _=>hb.2) hss5 (hout st5 s (by rw[ym0 (by omega)];exact M.Bd.Out.ret _ _))
end Go.Proofs.YtaekfnbnhjgboaaGreatDoor
end
section
namespace Go.Proofs.YtaekfnbnhjgboaaGreatDoor
open Go Go.Vc Go.Proofs
variable {w:World} {K:Value→World→Prop} {D F Fx Fy Y S O O':Nat→Prop} {n b4 b8:Nat} {gs gs':M.Gs} {v v' nv xv yv sv:Value} {cs cs':List Value} {st st':Option M.Gs} {a b c m x y r:Int} {xs ys:List Int}
theorem SnL.set {xs:List Int} (h:SnL st xs) {i:Nat} {x:Int} (hx:Sn st x):SnL st (xs.set i x):=fun y hy=>by
 rcases List.mem_or_eq_of_mem_set hy with h1|h1
 ·exact h y h1
 ·rw[h1];exact hx
theorem SnL.take (h:SnL st xs) (m:Nat):SnL st (xs.take m):=fun x hx=>h x (List.mem_of_mem_take hx)
theorem sdiv7_spec (hn:n≤8) (hk:MkR n D w cs st) (hD:∀b,D b→b<w.heap.size) (hx:Ints Fx w xv xs) (hy:Ints Fy w yv ys) (hl:xs.length=ys.length) (h8:xs.length≤900) (hxs:SnL st xs) (hys:SnL st ys)
  (hK:∀w' cs' st' qv rv q r,Ext w w'→MkR n D w' cs' st'→Ints (fun b=>w.heap.size≤b) w' qv q→Ints (fun b=>w.heap.size≤b) w' rv r→SnL st' q→SnL st' r→M.Bd.Out n (M.divB xs (ys++[-1]) xs.length (M.offsL xs.length) (M.offsL xs.length)) st st' (q,r)→K (.tuple #[.agg ⟨cs'⟩,qv,rv]) w'):
  vcall PP Zw #[.agg ⟨cs⟩,xv,yv] w K:=by
 apply yK0;unfold VQ
 refine Fm.start hk hD fun b4 b8 w1 h1=>?_
 have hx0:=Ints.under hx;have hy0:=Ints.under hy
 have lo:=h1.lo;have s1:=h1.ext.size;have l1:=h1.lt4
 have hx1:=Ints.ext0 hx0 h1.ext
 simp(disch:=first|(simp only[push_cast];done)|omega) only[push_cast,hx1.len]
 refine sfill7_spec (by omega) fun w2 rv0 he2 hr2 hnr2=>?_
 refine sfill7_spec (by omega) fun w3 qv he3 hq3 hnq3=>?_
 refine spec_nil fun v4 w4 ho4 e4 hn4=>?_
 refine ho4.app Z8 (Ints.ext0 hy0 (h1.ext.trans (he2.trans (he3.trans e4)))) (by simp;omega) (by simp;omega) fun v5 w5 ho5 hs5 hn5=>?_
 have z2:=he2.size;have z3:=he3.size;have z4:=e4.size;have z5:=hs5.size
 have hv5:∀b,v5.ownBlock=some b→w3.heap.size≤b:=fun b hb=>(hn5 b hb).elim (hn4 b) fun h=>by omega
 have e35:Ext w3 w5:=Ext.then e4 hs5 fun b hb=>hn4 b hb
 refine spec_app (w0:=w3) e35 ho5 hv5 (by simp;omega) fun wv w6 hw6 e36 hnw6=>?_
 rw[List.nil_append] at hw6
 simp(disch:=omega) only[push_cast,zA]
 have hq6:=hq3.ext e36
 have h2:=h1.grow he2
 have h3:=h2.take he3 hq3 hnq3
 have h6:Fm n D (O1 qv) w b4 b8 w6 st:=h3.grow e36
 have hR6:Ints (fun b=>Kp b4 b8 (O1 qv) b∧w.heap.size≤b) w6 rv0 (M.offsL xs.length):=Ints.weaken (hr2.ext (he3.trans e36)).ints fun b hb _=>by
  have h5':=hnr2 b hb;have hlt:=hr2.lt hb
  exact⟨⟨by omega,by omega,fun hq=>by have:=hnq3 b hq;omega⟩,by omega⟩
 have hW6:Ints (Kp b4 b8 (O1 qv)) w6 wv (ys++[-1]):=Ints.weaken hw6.ints fun b hb _=>by
  have h5':=hnw6 b hb
  exact⟨by omega,by omega,fun hq=>by have:=hq3.lt hq;omega⟩
 have hwl:(ys++[(-1:Int)]).length=xs.length+1:=by rw[List.length_append,hl];rfl
 have hws:SnL st (ys++[(-1:Int)]):=hys.app (SnL.one (Sn.of (by decide) (by decide)))
 generalize ys++[(-1:Int)]=wide at*
 refine Q5 (fun m u w'=> ∃st1 rv r q,u=[rv,.int .i64 ((m:Int)-1)]∧m≤xs.length∧Fm n D (O1 qv) w b4 b8 w' st1∧Ints (fun b=>Kp b4 b8 (O1 qv) b∧w.heap.size≤b) w' rv r∧r.length=xs.length∧SnL st1 r∧OwnI PP zh w' qv q∧q.length=xs.length∧SnL st1 q∧Ints (Kp b4 b8 (O1 qv)) w' wv wide∧SnL st1 wide∧SnL st1 xs∧
  ∀st2 res,M.Bd.Out n (M.divB xs wide m r q) st1 st2 res→M.Bd.Out n (M.divB xs wide xs.length (M.offsL xs.length) (M.offsL xs.length)) st st2 res) xs.length
  ⟨st,rv0,_,_,rfl,Nat.le_refl _,h6,hR6,M.offsL_len _,SnL.fill _,hq6,M.offsL_len _,SnL.fill _,hW6,hws,hxs,fun _ _ h=>h⟩ ?_
 rintro m _ g w7 C ⟨st7,rv,r,q,rfl,hm,h7,hr7,hrl,hrs,hq7,hql,hqs,hw7,hws7,hxs7,hout⟩ hC
 simp only[push_cast]
 refine zg (fun hge=>?_) (fun hlt=>?_)
 ·obtain⟨m,rfl⟩:∃j,m=j+1:=⟨m-1,by omega⟩
  have hmx:m<xs.length:=by omega
  rw[show((m+1:Nat):Int)-1=(m:Int) by omega]
  have hx7:=Ints.ext0 hx0 h7.ext
  rw[hx7.iaddr Ka (by omega) (by omega),Int.toNat_natCast,hx7.load q00 (by omega)]
  refine ya Zu kO Zr rfl rfl fun b8' w8 hb8 he8 hz8 hB8=>?_
  have ht8:OwnI PP zh w8 (.slice (some ⟨b8',0,none⟩) 1 1) [xs.getD m 0]:=Blk.own1 (P:=PP) (t:=zh) (cs:=[Value.int .i64 (xs.getD m 0)]) (by rw[zK0];exact hB8) (Nat.zero_le _) rfl rfl (by omega)
  refine ht8.app Z8 (Ints.ext hr7 he8) (by simp;omega) (by simp;omega) fun tv w9 ht9 hs9 hn9=>?_
  have e79:Ext w7 w9:=Ext.then he8 hs9 fun b hb=>by have e:b8'=b:=Option.some.inj hb;omega
  have htn:∀b,tv.ownBlock=some b→w7.heap.size≤b:=fun b hb=>(hn9 b hb).elim (fun h=>by have e:b8'=b:=Option.some.inj h;omega) fun h=>by omega
  have h9:=h7.grow e79
  have hT9:Ints (Kp b4 b8 (O1 qv)) w9 tv (xs.getD m 0::r):=h7.new ht9 htn
  have hts:SnL st7 (xs.getD m 0::r):=(SnL.one (hxs7.get hmx)).app hrs
  have htl:(xs.getD m 0::r).length=xs.length+1:=by rw[List.length_cons,hrl]
  refine spec_nil fun vz w10 hz10 e10 hnz10=>?_
  have h10:=h9.grow e10
  have e710:=e79.trans e10
  have hT10:Ints (Kp b4 b8 (O1 qv)) w10 tv (xs.getD m 0::r):=Ints.ext hT9 e10
  have hw10:Ints (Kp b4 b8 (O1 qv)) w10 wv wide:=Ints.ext hw7 e710
  have hq10:=hq7.ext e710
  generalize ht:xs.getD m 0::r=t at*
  obtain⟨c10,hk10,hld10⟩:=h10.call
  simp only[hld10 w10 (Same.refl _ _)]
  refine sless7_spec hn hk10 h10.dl hT10 hw10 (by omega) (by omega) hts hws7 fun w11 cs11 st11 l he11 hk11 hl11 ho11=>?_
  simp only[push_cast,true_and]
  refine h10.put he11 hk11 fun w12 h12 hs12 hz12=>?_
  have hq12:OwnI PP zh w12 qv q:=(hq10.ext he11).same hs12 fun b hb=>(h10.off b hb).2.2.1
  have hT12:Ints (Kp b4 b8 (O1 qv)) w12 tv t:=Ints.kp4 (Ints.ext hT10 he11) hs12
  have hw12:Ints (Kp b4 b8 (O1 qv)) w12 wv wide:=Ints.kp4 (Ints.ext hw10 he11) hs12
  have hl1:=hl11.1
  unfold Sm at hl1
  simp(disch:=omega) only[push_cast,zA,Int.zero_sub]
  rw[hq12.ints.iaddr Ka (by omega) (by omega),Int.toNat_natCast]
  refine hq12.st kO (by omega) fun w13 hq13 hs13 hz13=>?_
  have h13:Fm n D (O1 qv) w b4 b8 w13 st11:=h12.own hs13 (fun b hb=>hb) fun b hb=>⟨by have:=(h12.off b hb).1;omega,.inl hb⟩
  have hT13:Ints (Kp b4 b8 (O1 qv)) w13 tv t:=Ints.same hT12 hs13 fun b hb _ e=>hb.2.2 e
  have hw13:Ints (Kp b4 b8 (O1 qv)) w13 wv wide:=Ints.same hw12 hs13 fun b hb _ e=>hb.2.2 e
  refine zt fun w14 he14 _=>?_
  have h14:=h13.grow he14
  obtain⟨c14,hk14,hld14⟩:=h14.call
  simp only[push_cast,true_and,hld14 w14 (Same.refl _ _)]
  refine sturn7_spec (Ints.ext hw13 he14) (by omega) (hws7.sm) fun w15 nv he15 hn15 hnn15=>?_
  have h15:=h14.grow he15
  have hN15:Ints (Kp b4 b8 (O1 qv)) w15 nv (M.negL wide):=h14.new hn15 hnn15
  have hT15:Ints (Kp b4 b8 (O1 qv)) w15 tv t:=Ints.ext (Ints.ext hT13 he14) he15
  simp only[push_cast,true_and,and_self,hld14 w15 he15]
  refine sadd7_spec hn (hk14.ext he15 fun _ h _=>h) h15.dl hT15 hN15 (by rw[M.negL_len];omega) (by omega) (hts.out ho11) ((hws7.out ho11).neg) (Sn.of (by decide) (by decide)) fun w16 cs16 st16 uv us he16 hk16 hu16 hnu16 hus ho16=>?_
  simp only[push_cast,true_and]
  refine h15.put he16 hk16 fun w17 h17 hs17 hz17=>?_
  have hul:us.length=xs.length+1:=by
   have:=M.sum_len ho16.reach
   rw[M.negL_len] at this
   omega
  have hU17:Ints (Kp b4 b8 (O1 qv)) w17 uv us:=Ints.kp4 (h15.new hu16 hnu16) hs17
  have hT17:Ints (Kp b4 b8 (O1 qv)) w17 tv t:=Ints.kp4 (Ints.ext hT15 he16) hs17
  try simp only[push_cast,true_and,and_self]
  refine zt fun w18 he18 _=>?_
  have h18:=h17.grow he18
  obtain⟨c18,hk18,hld18⟩:=h18.call
  have hT18:=Ints.ext hT17 he18
  have hU18:=Ints.ext hU17 he18
  have eT:yq PP zh tv none (some (.int .i64 xs.length)) none w18=fun K=>K (cutV tv xs.length) w18:=by
   funext K
   by_cases c:xs.length≤t.length
   ·exact Sl.cut hT18 (Sl.base hT18 (by simp;intro h;rw[h] at htl;simp at htl)) Ka (by simpa using c)
   ·omega
  have eU:yq PP zh uv none (some (.int .i64 xs.length)) none w18=fun K=>K (cutV uv xs.length) w18:=by
   funext K
   exact Sl.cut hU18 (Sl.base hU18 (by simp;intro h;rw[h] at hul;simp at hul)) Ka (by simpa using(show xs.length≤us.length by omega))
  have hTc:Ints (Kp b4 b8 (O1 qv)) w18 (cutV tv xs.length) (t.take xs.length):=by
   have:=Sl.taken hT18 (n:=xs.length) (by simpa using(show xs.length≤t.length by omega))
   unfold Ints Vals;rw[List.map_take,List.map_take];exact this
  have hUc:Ints (Kp b4 b8 (O1 qv)) w18 (cutV uv xs.length) (us.take xs.length):=by
   have:=Sl.taken hU18 (n:=xs.length) (by simpa using(show xs.length≤us.length by omega))
   unfold Ints Vals;rw[List.map_take,List.map_take];exact this
  simp only[push_cast,true_and,hld18 w18 (Same.refl _ _),eT,eU]
  refine sifs7_spec hn hk18 h18.dl hTc hUc (by rw[List.length_take,List.length_take];omega) (by rw[List.length_take];omega) (((hts.out ho11).out ho16).take _) (hus.take _) (hl11.out ho16) fun w19 cs19 st19 zv zs he19 hk19 hz19 hnz19 hzs ho19=>?_
  simp only[push_cast,true_and]
  refine h18.put he19 hk19 fun w20 h20 hs20 hz20=>?_
  try simp(disch:=omega) only[push_cast,true_and,and_self,zA]
  have hzl:zs.length=xs.length:=by
   have:=M.each_len ho19.reach
   rw[List.length_take,List.length_take] at this
   omega
  have hq20:OwnI PP zh w20 qv (q.set m (-l)):=by
   have off:∀b,qv.ownBlock=some b→¬b=b4:=fun b hb=>(h10.off b hb).2.2.1
   exact((((((hq13.ext he14).ext he15).ext he16).same hs17 off).ext he18).ext he19).same hs20 off
  have hw20:Ints (Kp b4 b8 (O1 qv)) w20 wv wide:=Ints.kp4 (Ints.ext (Ints.ext (Ints.kp4 (Ints.ext (Ints.ext (Ints.ext hw13 he14) he15) he16) hs17) he18) he19) hs20
  have s18:=h18.ext.size
  refine hC m _ _ (by omega) ⟨st19,zv,zs,q.set m (-l),by simp<;>exact⟨rfl,rfl⟩,by omega,h20,Ints.same (Ints.weaken (F':=fun b=>Kp b4 b8 (O1 qv) b∧w.heap.size≤b) hz19.ints fun b hb _=>by
   have h9':=hnz19 b hb;have hl4:=h18.lt4
   exact⟨⟨by omega,by omega,fun hO=>by have:=(h18.off b hO).1;omega⟩,by omega⟩) hs20 (fun b hb _ e=>hb.1.1 e),hzl,hzs,hq20,by rw[List.length_set];exact hql,(((hqs.out ho11).set hl11.neg).out ho16).out ho19,hw20,((hws7.out ho11).out ho16).out ho19,((hxs7.out ho11).out ho16).out ho19,fun st2 res ho=>hout st2 res ?_⟩
  subst ht
  exact xK0 ho11 ho16 ho19 ho
 ·have hm0:m=0:=by omega
  subst hm0
  refine h7.fin fun w8 cs8 e8 hk8 hs8=>?_
  exact hK w8 cs8 st7 qv rv q r e8 hk8 (Ints.weaken (hq7.same hs8 fun b hb e=>(h7.off b hb).2.2.2 e).ints fun b hb _=>(h7.off b hb).2.1) (Ints.weaken (Ints.same hr7 hs8 fun b hb _ e=>hb.1.2.1 e) fun b hb _=>hb.2) hqs hrs (hout st7 (q,r) (by unfold M.divB;exact M.Bd.Out.ret _ _))
end Go.Proofs.YtaekfnbnhjgboaaGreatDoor
end
