import Derived.Test.YtaekfnbnhjgboaaGreatDoorWucP11
import Derived.Test.YtaekfnbnhjgboaaGreatDoorWucP5
import Derived.Test.YtaekfnbnhjgboaaGreatDoorWucP9
import Derived.Test.YtaekfnbnhjgboaaGreatDoorWucP6
/- A part of the proof. -/
set_option linter.unusedVariables false
set_option linter.unusedSimpArgs false
set_option linter.unnecessarySimpa false
set_option linter.unusedSectionVars false
section
namespace Go.Proofs.YtaekfnbnhjgboaaGreatDoor
open Go Go.Vc Go.Proofs
variable {w:World} {K:Value→World→Prop} {D F Fx Fy Y S O O':Nat→Prop} {n b4 b8:Nat} {gs gs':M.Gs} {v v' nv xv yv sv dv tv:Value} {cs cs':List Value} {st st':Option M.Gs} {a b c m x y r:Int} {xs ys:List Int} {ds:List M.Dcl} {t:M.Tm}
theorem spec_one {x:Int} (hK:∀w' r,Ext w w'→OwnI PP zg w' r [x]→(∀b,r.ownBlock=some b→w.heap.size≤b)→K r w'):vbuildS PP zg 1 [(0,.int .i64 x)] w K:=by
 refine yb Zj jT Ze rfl rfl fun b5 w5 hb5 he5 hz5 hB5=>?_
 exact hK w5 _ he5 (Blk.own1 (P:=PP) (t:=zg) (cs:=[Value.int .i64 x]) (by rw[UO];exact hB5) (Nat.zero_le _) rfl rfl (by omega)) fun b hb=>by have e:b5=b:=Option.some.inj hb;omega
theorem sbits8_spec {k:Nat} (hok:M.declOk ds=true) (hk:k≤ds.length) (hd:DclsR F w v (ds.take k)) (hK:∀w',Ext w w'→K (.int .i64 (M.bitT ds k)) w'):vcall PP Z4 #[v] w K:=by
 apply yT0;unfold Vh
 have hlen:(ds.take k).length=k:=by rw[List.length_take];omega
 have h4:=(M.decl_iff.1 hok).1
 refine vloop_up k (fun i u w'=>u=[.int .i64 (M.bitT ds i),.int .i64 i]∧Ext w w') ⟨rfl,Same.refl _ _⟩ ?_
 rintro i _ _ w2 C hi ⟨rfl,he2⟩ hC
 have hd2:=hd.ext he2
 simp(disch:=first|(simp only[push_cast];done)|omega) only[push_cast,hd2.len]
 refine zh (fun a=>?_) (fun a=>?_)
 ·have hi':i<k:=by omega
  have hs1:=dcl_small hok (i:=i) (by omega)
  have hs2:=dcl_small hok (i:=i+1) (by omega)
  rw[M.bitT_succ (by omega)] at hs2
  have hg:(ds.take k).getD i (M.nada,0)=ds.getD i (M.nada,0):=M.take_getD hi'
  simp(disch:=first|(simp only[push_cast];done)|omega) only[push_cast,hd2.iaddr,hd2.load1,hg,zA]
  refine hC hi' _ _ ⟨?_,he2⟩
  rw[M.bitT_succ (by omega)]
  simp
 ·have:i=k:=by omega
  subst this
  exact hK w2 he2
theorem fix_val {nn:Int} {j:Nat}:2*((nn.toNat/2^j%2:Nat):Int)-1=if nn.toNat/2^j%2=1 then 1 else-1:=by
 have h:nn.toNat/2^j%2=0∨nn.toNat/2^j%2=1:=by omega
 rcases h with h|h<;>rw[h]<;>rfl
theorem sfix8_spec {wd nn:Int} (hv:M.vok wd nn=true) (hK:∀w' r,Ext w w'→OwnI PP zg w' r (M.fixB wd nn)→(∀b,r.ownBlock=some b→w.heap.size≤b)→K r w'):vcall PP XK #[.int .i64 wd,.int .i64 nn] w K:=by
 apply xN0;unfold Wv
 obtain⟨v1,v2,v3,v4⟩:=M.vok_lt hv
 refine spec_nil fun v1' w1 ho1 e1 hn1=>?_
 refine vloop_up wd.toNat (fun i u w'=> ∃r,u=[r,.int .i64 i]∧Ext w w'∧OwnI PP zg w' r ((M.fixB wd nn).take i)∧∀b,r.ownBlock=some b→w.heap.size≤b) ⟨_,rfl,e1,ho1,hn1⟩ ?_
 rintro i _ g w2 C hi ⟨r,rfl,e2,ho2,hn2⟩ hC
 simp only[push_cast]
 refine zh (fun a=>?_) (fun a=>?_)
 ·have hi':i<wd.toNat:=by omega
  rw[show nn=((nn.toNat:Nat):Int) by omega]
  refine l1Bit_spec (by omega) (by omega) ?_
  have hb:nn.toNat/2^i%2<2:=Nat.mod_lt _ (by decide)
  have hval:=fix_val (nn:=nn) (j:=i)
  generalize hbt:nn.toNat/2^i%2=bt at hval hb
  simp(disch:=omega) only[push_cast,zA]
  rw[hval]
  refine spec_app e2 ho2 hn2 (by rw[List.length_take,M.fixB_len];omega) fun v3 w3 ho3 e3 hn3=>?_
  try simp(disch:=omega) only[push_cast,zA]
  refine hC hi' _ _ ⟨v3,by simp,e3,?_,hn3⟩
  rw[M.take_add (by rw[M.fixB_len];omega) 0,fixB_at (by omega),hbt]
  exact ho3
 ·have hi':i=wd.toNat:=by omega
  rw[List.take_of_length_le (by rw[M.fixB_len];omega)] at ho2
  exact hK w2 r e2 ho2 hn2
theorem sname8_spec {k:Nat} (hok:M.declOk ds=true) (hk:k<ds.length) (hd:DclsR F w v ds) (hK:∀w' r,Ext w w'→OwnI PP zg w' r (M.nameB ds k)→(∀b,r.ownBlock=some b→w.heap.size≤b)→K r w'):vcall PP YX #[v,.int .i64 k] w K:=by
 apply yR0;unfold Vf
 have h4:=(M.decl_iff.1 hok).1
 rw[hd.cut (by intro h;rw[h] at hk;simp at hk) Qf (by omega)]
 refine sbits8_spec hok (by omega) (hd.taken (by omega)) fun w1 e1=>?_
 have hs1:=dcl_small hok (i:=k) (by omega)
 have hwd:=M.dcl_wide hok hk
 simp(disch:=omega) only[push_cast,zA]
 refine spec_nil fun v2 w2 ho2 e2 hn2=>?_
 have z1:=e1.size
 refine vloop_up (ds.getD k (M.nada,0)).2.toNat (fun i u w'=> ∃r,u=[r,.int .i64 i]∧Ext w w'∧OwnI PP zg w' r ((M.nameB ds k).take i)∧∀b,r.ownBlock=some b→w.heap.size≤b) ⟨_,rfl,e1.trans e2,ho2,fun b hb=>by have:=hn2 b hb;omega⟩ ?_
 rintro i _ g w3 C hi ⟨r,rfl,e3,ho3,hn3⟩ hC
 have hd3:=hd.ext e3
 have hget:∀hi':i<(ds.getD k (M.nada,0)).2.toNat,(M.nameB ds k).getD i 0=2+M.bitT ds k+(ds.getD k (M.nada,0)).2-1-(i:Int):=fun hi'=>by unfold M.nameB;rw[Uo hi'];rfl
 rw[hd3.iaddr Qf (by omega) (by omega),Int.toNat_natCast]
 simp only[push_cast]
 rw[hd3.load1 jj0 hk]
 generalize hW:(ds.getD k (M.nada,0)).2=wd at*
 simp only[push_cast]
 refine zh (fun a=>?_) (fun a=>?_)
 ·have hi':i<wd.toNat:=by omega
  rw[hd3.iaddr Qf (by omega) (by omega),Int.toNat_natCast]
  simp only[push_cast]
  rw[hd3.load1 jj0 hk,hW]
  simp(disch:=omega) only[push_cast,zA]
  refine spec_app e3 ho3 hn3 (by rw[List.length_take,M.nameB_len];omega) fun v5 w5 ho5 e5 hn5=>?_
  try simp(disch:=omega) only[push_cast,zA]
  refine hC hi' _ _ ⟨v5,by simp,e5,?_,hn5⟩
  rw[M.take_add (by rw[M.nameB_len,hW];omega) 0,hget hi']
  exact ho5
 ·rw[List.take_of_length_le (by rw[M.nameB_len,hW];omega)] at ho3
  exact hK w3 r e3 ho3 hn3
theorem sleaf8_spec (hok:M.declOk ds=true) (hs:M.sortM ds t≠ -1) (h0:t.ks.length=0) (hd:DclsR F w dv ds) (ht:TermR Fx w tv t)
  (hK:∀w' r zs,Ext w w'→OwnI PP zg w' r zs→(∀b,r.ownBlock=some b→w.heap.size≤b)→SnL st zs→M.Bd.Out n (M.nodeB ds t []) st st zs→K r w'):vcall PP YY #[dv,tv] w K:=by
 apply yS0;unfold Vg
 obtain⟨kv,rfl,hks⟩:=ht
 obtain⟨har,hp,ho⟩:=M.right_op hs
 have hop:t.op=20∨t.op=21∨t.op=24:=Classical.byContradiction fun h=>by have:=M.node_arity ho h;omega
 refine zy fun b1 w1 hb1 he1 hz1 hB1=>?_
 simp(disch:=first|(simp only[push_cast];done)|omega) only[push_cast,hB1.ld0]
 unfold M.nodeB at hK
 refine zh (fun c=>?_) (fun c=>?_)
 ·rw[if_pos c] at hK
  have hv:=M.vec_ok hs c
  simp(disch:=first|(simp only[push_cast];done)|omega) only[push_cast,hB1.ld1,hB1.ld2]
  refine sfix8_spec hv fun w2 r he2 ho2 hn2=>?_
  exact hK w2 r _ (he1.trans he2) ho2 (fun b hb=>by have:=hn2 b hb;omega) (fun x hx=>by
   unfold M.fixB at hx
   obtain⟨j,_,rfl⟩:=List.mem_map.1 hx
   split<;>exact Sn.of (by decide) (by decide)) (M.Bd.Out.ret _ _)
 rw[if_neg c] at hK
 try simp only[push_cast]
 refine zh (fun c2=>?_) (fun c2=>?_)
 ·rw[if_pos c2] at hK
  have hf:=M.name_found hs c2
  have hlt:=M.findD_lt ds t.s
  simp(disch:=first|(simp only[push_cast];done)|omega) only[push_cast,hB1.ld3]
  refine l2Find_spec (hd.ext he1) ?_
  rw[show M.findD ds t.s=(((M.findD ds t.s).toNat:Nat):Int) by omega]
  refine sname8_spec hok (by omega) (hd.ext he1) fun w2 r he2 ho2 hn2=>?_
  refine hK w2 r _ (he1.trans he2) ho2 (fun b hb=>by have:=hn2 b hb;omega) (fun x hx=>?_) (M.Bd.Out.ret _ _)
  obtain⟨p1,p2,p3⟩:=M.name_has (m:=9) hok (k:=(M.findD ds t.s).toNat) (by omega) (by have:=(M.decl_iff.1 hok).2.2;omega) x hx
  exact Sn.of (by unfold Sm;omega) p1
 ·rw[if_neg c2,if_pos (by omega)] at hK
  refine spec_one fun w2 r he2 ho2 hn2=>?_
  exact hK w2 r _ (he1.trans he2) ho2 (fun b hb=>by have:=hn2 b hb;omega) (SnL.one (Sn.of (by decide) (by decide))) (M.Bd.Out.ret _ _)
end Go.Proofs.YtaekfnbnhjgboaaGreatDoor
end
section
namespace Go.Proofs.YtaekfnbnhjgboaaGreatDoor
open Go Go.Vc Go.Proofs
variable {w:World} {K:Value→World→Prop} {D F Fx Fy Y S O O':Nat→Prop} {n b4 b8:Nat} {gs gs':M.Gs} {v v' nv xv yv sv dv tv kv:Value} {cs cs' ts:List Value} {st st':Option M.Gs} {a b c m x y r:Int} {xs ys:List Int} {ds:List M.Dcl} {t:M.Tm} {rs:List (List Int)}
theorem Fm.start2 (hk:MkR n D w cs st) (hD:∀b,D b→b<w.heap.size) {K:Value→Value→Value→World→Prop} (hK:∀b4 b5 b8 w',Fm n D (fun _=>False) w b4 b8 w' st→Blk w' b5 ts z7→w.heap.size≤b5∧b5≠b4∧b5≠b8→K (.pointer (some ⟨b4,0,none⟩)) (.pointer (some ⟨b5,0,none⟩)) (.pointer (some ⟨b8,0,none⟩)) w'):
  yB PP zd (.agg ⟨cs⟩) w fun t w1=>yB PP z7 (.agg ⟨ts⟩) w1 fun t5 w2=>zZ PP zd w2 fun t8 w3=>K t t5 t8 w3:=by
 refine zy fun b4 w1 hb1 he1 hz1 hB1=>?_
 refine zy fun b5 w2 hb2 he2 hz2 hB2=>?_
 refine zC qa fun b8 w3 hb3 he3 hz3 hB3=>?_
 have e13:=he2.trans he3
 have e3:=he1.trans e13
 refine hK b4 b5 b8 w3 ⟨e3,⟨cs,hB1.ext e13,hk.ext e3 fun b hb hl=>hb.elim id fun h=>?_⟩,⟨_,hB3,rfl⟩,by omega,fun b h=>h.elim,hD⟩ (hB2.ext he3) (by omega)
 rcases h with h|h|h
 ·omega
 ·omega
 ·exact h.elim
def KidsS (w:World) (kv:Value) (rs:List (List Int)):Prop:= ∃(vs:List Value) (Fk:Nat→Prop),Vals Fk w kv vs∧vs.length=rs.length∧∀i,i<rs.length→Ints (fun _=>True) w (vs.getD i undef) (rs.getD i [])
theorem KidsS.vals (h:KidsS w kv rs):∃vs:List Value,(∀(w':World),Ext w w'→∀i:Nat,i<rs.length→∀K:Value→World→Prop,zm PP ye kv (.int .i64 i) w' K=K (.pointer (some (eaddr kv 1 i))) w'∧ze PP zg (.pointer (some (eaddr kv 1 i))) w' K=K (vs.getD i undef) w')∧
  ∀i,i<rs.length→Ints (fun _=>True) w (vs.getD i undef) (rs.getD i []):=by
 obtain⟨vs,Fk,h1,h2,h3⟩:=h
 refine⟨vs,fun w' he i hi K=>?_,h3⟩
 have h1':=h1.ext he
 refine⟨?_,h1'.load Y70 (by omega)⟩
 rw[h1'.iaddr YJ0 (by omega) (by omega),Int.toNat_natCast]
theorem KidsS.ext {w':World} (h:KidsS w kv rs) (he:Ext w w'):KidsS w' kv rs:=by
 obtain⟨vs,Fk,h1,h2,h3⟩:=h
 exact⟨vs,Fk,h1.ext he,h2,fun i hi=>Ints.ext (h3 i hi) he⟩
theorem len_one {l:List Int} (h:l.length=1):l=[l.getD 0 0]:=by
 match l,h with
 |[x],_=>rfl
theorem slogic8_spec (hok:M.declOk ds=true) (hs:M.sortM ds t≠ -1) (h22:22<t.op) (h24:t.op≠24) (hn:n≤8) (hk:MkR n D w cs st) (hD:∀b,D b→b<w.heap.size) (ht:TermR Fx w tv t) (hkids:KidsS w kv rs) (hrl:rs.length=t.ks.length) (hlen:∀i,i<t.ks.length→(rs.getD i []).length=M.lenS (M.sortM ds (M.kid t i))) (hrs:∀r,r∈rs→SnL st r)
  (hK:∀w' cs' st' r zs,Ext w w'→MkR n D w' cs' st'→Ints (New w) w' r zs→SnL st' zs→M.Bd.Out n (M.nodeB ds t rs) st st' zs→K (.tuple #[.agg ⟨cs'⟩,r]) w'):
  vcall PP Yc #[.agg ⟨cs⟩,tv,kv] w K:=by
 apply zy0;unfold Js
 obtain⟨kw,rfl,hks⟩:=ht
 obtain⟨har,hp,ho⟩:=M.right_op hs
 obtain⟨q1,q2,q3,q4,q5,q6,q7⟩:=M.node_right hok hs (L:=fun i=>(rs.getD i []).length) hlen
 refine Fm.start2 hk hD fun b4 b5 b8 w1 h1 hB1 hne=>?_
 obtain⟨c1,hk1,hld1⟩:=h1.call
 obtain⟨vs,hA,hvs⟩:=(hkids.ext h1.ext).vals
 have get:∀i,i<rs.length→SnL st (rs.getD i []):=fun i hi=>hrs _ (M.getD_mem hi [])
 simp(disch:=first|(simp only[push_cast];done)|omega) only[push_cast,hB1.ld0]
 unfold M.nodeB at hK
 rw[if_neg (by omega),if_neg (by omega),if_neg h24] at hK
 refine zh (fun c=>?_) (fun c25=>?_)
 ·rw[if_pos c] at hK
  obtain⟨hk7,hL7⟩:=q7 (by omega)
  rw[if_pos c] at hk7
  have hL0:=hL7 0 (by omega)
  refine zu fun w2 he2 _=>?_
  have A0:∀K:Value→World→Prop,zm PP ye kv (.int .i64 0) w2 K=K (.pointer (some (eaddr kv 1 0))) w2:=fun K=>(hA w2 he2 0 (by omega) K).1
  have B0:∀K:Value→World→Prop,ze PP zg (.pointer (some (eaddr kv 1 0))) w2 K=K (vs.getD 0 undef) w2:=fun K=>(hA w2 he2 0 (by omega) K).2
  simp only[hld1 w2 he2,A0,B0,true_and]
  refine sturn7_spec (Ints.ext (hvs 0 (by omega)) he2) (by omega) (get 0 (by omega)).sm fun w3 r3 he3 ho3 hn3=>?_
  simp only[hld1 w3 (he2.trans he3),true_and,and_self]
  have z2:=he2.size
  refine h1.res (he2.trans he3) (hk1.ext (he2.trans he3) fun _ h _=>h) (kc ho3 fun b hb=>by have:=hn3 b hb;omega) fun w4 e4 hk4 hz4=>hK w4 c1 st r3 _ e4 hk4 hz4 (get 0 (by omega)).neg ?_
  rw[len_one hL0]
  exact M.Bd.Out.ret _ _
 rw[if_neg c25] at hK
 try simp only[push_cast]
 refine zh (fun c=>?_) (fun c26=>?_)
 ·rw[if_pos c] at hK
  obtain⟨hk7,hL7⟩:=q7 (by omega)
  rw[if_neg c25] at hk7
  have hL0:=hL7 0 (by omega)
  have hL1:=hL7 1 (by omega)
  refine zu fun w2 he2 _=>?_
  have A0:∀K:Value→World→Prop,zm PP ye kv (.int .i64 0) w2 K=K (.pointer (some (eaddr kv 1 0))) w2:=fun K=>(hA w2 he2 0 (by omega) K).1
  have B0:∀K:Value→World→Prop,ze PP zg (.pointer (some (eaddr kv 1 0))) w2 K=K (vs.getD 0 undef) w2:=fun K=>(hA w2 he2 0 (by omega) K).2
  have A1:∀K:Value→World→Prop,zm PP ye kv (.int .i64 1) w2 K=K (.pointer (some (eaddr kv 1 1))) w2:=fun K=>(hA w2 he2 1 (by omega) K).1
  have B1:∀K:Value→World→Prop,ze PP zg (.pointer (some (eaddr kv 1 1))) w2 K=K (vs.getD 1 undef) w2:=fun K=>(hA w2 he2 1 (by omega) K).2
  have V0:=Ints.ext (hvs 0 (by omega)) he2
  have V1:=Ints.ext (hvs 1 (by omega)) he2
  simp(disch:=first|(simp only[push_cast];done)|omega) only[hld1 w2 he2,A0,B0,A1,B1,V0.iaddr,V0.load,V1.iaddr,V1.load,push_cast,true_and]
  have h2:=h1.grow he2
  refine sand7_spec hn (hk1.ext he2 fun _ h _=>h) h2.dl ((get 0 (by omega)).get (by omega)) ((get 1 (by omega)).get (by omega)) fun w3 cs3 st3 r he3 hk3 hr3 ho3=>?_
  simp only[push_cast,true_and]
  refine h2.put he3 hk3 fun w4 h4 hs4 hz4=>?_
  try simp only[push_cast,true_and,and_self]
  obtain⟨c4,hk4,hld4⟩:=h4.call
  simp only[hld4 w4 (Same.refl _ _)]
  refine spec_one fun w5 rv he5 ho5 hn5=>?_
  refine h4.res he5 (hk4.ext he5 fun _ h _=>h) (kc ho5 hn5) fun w6 e6 hk6 hz6=>hK w6 c4 st3 rv [r] e6 hk6 hz6 (SnL.one hr3) (xZ ho3 (M.Bd.Out.ret _ _))
 rw[if_neg c26] at hK
 try simp only[push_cast]
 refine zh (fun c=>?_) (fun c27=>?_)
 ·rw[if_pos c] at hK
  obtain⟨hk7,hL7⟩:=q7 (by omega)
  rw[if_neg c25] at hk7
  have hL0:=hL7 0 (by omega)
  have hL1:=hL7 1 (by omega)
  refine zu fun w2 he2 _=>?_
  have A0:∀K:Value→World→Prop,zm PP ye kv (.int .i64 0) w2 K=K (.pointer (some (eaddr kv 1 0))) w2:=fun K=>(hA w2 he2 0 (by omega) K).1
  have B0:∀K:Value→World→Prop,ze PP zg (.pointer (some (eaddr kv 1 0))) w2 K=K (vs.getD 0 undef) w2:=fun K=>(hA w2 he2 0 (by omega) K).2
  have A1:∀K:Value→World→Prop,zm PP ye kv (.int .i64 1) w2 K=K (.pointer (some (eaddr kv 1 1))) w2:=fun K=>(hA w2 he2 1 (by omega) K).1
  have B1:∀K:Value→World→Prop,ze PP zg (.pointer (some (eaddr kv 1 1))) w2 K=K (vs.getD 1 undef) w2:=fun K=>(hA w2 he2 1 (by omega) K).2
  have V0:=Ints.ext (hvs 0 (by omega)) he2
  have V1:=Ints.ext (hvs 1 (by omega)) he2
  simp(disch:=first|(simp only[push_cast];done)|omega) only[hld1 w2 he2,A0,B0,A1,B1,V0.iaddr,V0.load,V1.iaddr,V1.load,push_cast,true_and]
  have h2:=h1.grow he2
  refine sor7_spec hn (hk1.ext he2 fun _ h _=>h) h2.dl ((get 0 (by omega)).get (by omega)) ((get 1 (by omega)).get (by omega)) fun w3 cs3 st3 r he3 hk3 hr3 ho3=>?_
  simp only[push_cast,true_and]
  refine h2.put he3 hk3 fun w4 h4 hs4 hz4=>?_
  try simp only[push_cast,true_and,and_self]
  obtain⟨c4,hk4,hld4⟩:=h4.call
  simp only[hld4 w4 (Same.refl _ _)]
  refine spec_one fun w5 rv he5 ho5 hn5=>?_
  refine h4.res he5 (hk4.ext he5 fun _ h _=>h) (kc ho5 hn5) fun w6 e6 hk6 hz6=>hK w6 c4 st3 rv [r] e6 hk6 hz6 (SnL.one hr3) (M.Bd.Out.map _ ho3)
 have c23:t.op=23:=by omega
 rw[if_neg c27,if_pos c23] at hK
 obtain⟨k1,l0,l1,l2,l3⟩:=q6 c23
 refine zu fun w2 he2 _=>?_
 have A0:∀K:Value→World→Prop,zm PP ye kv (.int .i64 0) w2 K=K (.pointer (some (eaddr kv 1 0))) w2:=fun K=>(hA w2 he2 0 (by omega) K).1
 have B0:∀K:Value→World→Prop,ze PP zg (.pointer (some (eaddr kv 1 0))) w2 K=K (vs.getD 0 undef) w2:=fun K=>(hA w2 he2 0 (by omega) K).2
 have A1:∀K:Value→World→Prop,zm PP ye kv (.int .i64 1) w2 K=K (.pointer (some (eaddr kv 1 1))) w2:=fun K=>(hA w2 he2 1 (by omega) K).1
 have B1:∀K:Value→World→Prop,ze PP zg (.pointer (some (eaddr kv 1 1))) w2 K=K (vs.getD 1 undef) w2:=fun K=>(hA w2 he2 1 (by omega) K).2
 have A2:∀K:Value→World→Prop,zm PP ye kv (.int .i64 2) w2 K=K (.pointer (some (eaddr kv 1 2))) w2:=fun K=>(hA w2 he2 2 (by omega) K).1
 have B2:∀K:Value→World→Prop,ze PP zg (.pointer (some (eaddr kv 1 2))) w2 K=K (vs.getD 2 undef) w2:=fun K=>(hA w2 he2 2 (by omega) K).2
 have V0:=Ints.ext (hvs 0 (by omega)) he2
 have V1:=Ints.ext (hvs 1 (by omega)) he2
 have V2:=Ints.ext (hvs 2 (by omega)) he2
 simp(disch:=first|(simp only[push_cast];done)|omega) only[hld1 w2 he2,A0,B0,A1,B1,A2,B2,V0.iaddr,V0.load,push_cast,true_and]
 have h2:=h1.grow he2
 refine sifs7_spec hn (hk1.ext he2 fun _ h _=>h) h2.dl V1 V2 (by omega) (by omega) (get 1 (by omega)) (get 2 (by omega)) ((get 0 (by omega)).get (by omega)) fun w3 cs3 st3 r zs he3 hk3 hr3 hnr3 hz3 ho3=>?_
 simp only[push_cast,true_and]
 exact h2.res he3 hk3 (kc hr3 hnr3) fun w4 e4 hk4 hz4=>hK w4 cs3 st3 r zs e4 hk4 hz4 hz3 ho3
end Go.Proofs.YtaekfnbnhjgboaaGreatDoor
end
section
namespace Go.Proofs.YtaekfnbnhjgboaaGreatDoor
open Go Go.Vc Go.Proofs
variable {w:World} {K:Value→World→Prop} {D F Fx Fy Y S O O':Nat→Prop} {n b4 b8:Nat} {gs gs':M.Gs} {v v' nv xv yv sv dv tv kv:Value} {cs cs' ts:List Value} {st st':Option M.Gs} {a b c m x y r:Int} {xs ys:List Int} {ds:List M.Dcl} {t:M.Tm} {rs:List (List Int)}
theorem cutEq {lo hi:Nat} {kl kh:IntKind} (h:Ints F w v xs) (hl:lo≤hi) (hh:hi≤xs.length):∃v',(∀(w':World) (K:Value→World→Prop),yp PP zg v (some (.int kl lo)) (some (.int kh hi)) none w' K=K v' w')∧Ints F w v' ((xs.drop lo).take (hi-lo)):=by
 have ht:elB PP zg 1=true:=KQ
 obtain⟨hu,hs⟩:=UP ht
 have hlen:((xs.drop lo).take (hi-lo)).length=hi-lo:=by rw[List.length_take,List.length_drop];omega
 obtain⟨a,c,rfl,hc,hcm,hcell⟩:=h.shape
 rw[List.length_map,List.length_map] at hc
 refine⟨sliced a lo hi c 1,fun w' K=>yw ?_,?_⟩
 ·rw[List.length_map,List.length_map,run_sliceAt_slice w' zg _ _ _ _ hu,run_slice_lh w' zg _ _ _ hu kl kh lo hi (by omega) (by omega) (by omega),Go.Vc.run_sizeOf hs]
  simp[Result.andThen]
 ·have key:=Ints.cutLH (P:=PP) (t:=zg) (kl:=kl) (kh:=kh) (w':=w) (K:=fun v' w'=>v'=sliced a lo hi c 1→Ints F w v' ((xs.drop lo).take (hi-lo))) h ht hl hh fun v' h' _=>h'
  rw[List.length_map,List.length_map] at key
  have e:yp PP zg (.slice a xs.length c) (some (.int kl lo)) (some (.int kh hi)) none w (fun v' w'=>v'=sliced a lo hi c 1→Ints F w v' ((xs.drop lo).take (hi-lo)))=(sliced a lo hi c 1=sliced a lo hi c 1→Ints F w (sliced a lo hi c 1) ((xs.drop lo).take (hi-lo))):=yw (by
   rw[run_sliceAt_slice w zg _ _ _ _ hu,run_slice_lh w zg _ _ _ hu kl kh lo hi (by omega) (by omega) (by omega),Go.Vc.run_sizeOf hs]
   simp[Result.andThen]
   rfl)
  rw[e] at key
  exact key rfl
theorem k40 (ps:List (M.Bd (List Int))) (p:M.Bd (List Int)):M.seqB (ps++[p])=(M.seqB ps).bind fun rs=>p.map fun r=>rs++[r]:=by
 induction ps with
 |nil=>rfl
 |cons q ps ih=>
  show(q.bind fun r=>(M.seqB (ps++[p])).map (r:: ·))=((q.bind fun r=>(M.seqB ps).map (r:: ·)).bind fun rs=>p.map fun r=>rs++[r])
  rw[M.Bd.bind_assoc]
  congr 1
  funext r
  rw[ih]
  unfold M.Bd.map
  rw[M.Bd.bind_assoc,M.Bd.bind_assoc]
  congr 1
  funext rs
  rw[M.Bd.bind_assoc]
  rfl
theorem Zq0 {ps:List (M.Bd (List Int))} {p:M.Bd (List Int)} {st st1 st2:Option M.Gs} {rs:List (List Int)} {r:List Int} (h:M.Bd.Out n (M.seqB ps) st st1 rs) (h2:M.Bd.Out n p st1 st2 r):M.Bd.Out n (M.seqB (ps++[p])) st st2 (rs++[r]):=by
 rw[k40]
 exact M.Bd.Out.bind h (M.Bd.Out.map _ h2)
theorem ks_few (hs:M.sortM ds t≠ -1):t.ks.length≤3:=by
 obtain⟨har,hp,ho⟩:=M.right_op hs
 have h:M.arity t.op≤3:=by
  unfold M.arity;repeat' split
  all_goals omega
 omega
theorem sdo8_spec (hok:M.declOk ds=true) (hn:n≤8):∀(t:M.Tm),M.sortM ds t≠ -1→∀{w:World} {K:Value→World→Prop} {D:Nat→Prop} {cs:List Value} {st:Option M.Gs} {tv:Value} {Fd Ft:Nat→Prop},MkR n D w cs st→(∀b,D b→b<w.heap.size)→DclsR Fd w dv ds→TermR Ft w tv t→
  (∀w' cs' st' r zs,Ext w w'→MkR n D w' cs' st'→Ints (New w) w' r zs→SnL st' zs→M.Bd.Out n (M.termB ds t) st st' zs→K (.tuple #[.agg ⟨cs'⟩,r]) w')→
  vcall PP YZ #[.agg ⟨cs⟩,dv,tv] w K:=by
 refine M.Tm.ind fun t ih hs w K D cs st tv Fd Ft hk hD hdv ht hK=>?_
 obtain⟨kw,rfl,hks⟩:=ht
 apply qE0;unfold zd0
 have hfew:=ks_few hs
 refine Fm.start2 hk hD fun b4 b5 b8 w1 h1 hB1 hne=>?_
 refine qd k00 jK0 fun b6 w2 hb6 he2 hz2 hB6=>?_
 have ho2:OwnV PP ye w2 (.slice (some ⟨b6,0,none⟩) 0 0) []:=Blk.own1 (P:=PP) (t:=ye) (cs:=[]) (by rw[ZO0];exact hB6) (Nat.zero_le _) rfl rfl (by omega)
 have h2:Fm n D (O1 (.slice (some ⟨b6,0,none⟩) 0 0)) w b4 b8 w2 st:=h1.own (S:=fun _=>False) he2 (fun b hb=>hb) fun b hb=>by
  have e:b6=b:=Option.some.inj hb
  exact⟨by omega,.inr (by omega)⟩
 have hl5:=hB1.lt
 have hT0:TmsR (Low w) w kw t.ks:=hks.weaken fun b _ hl=>hl
 refine vloop_up t.ks.length (fun i u w'=> ∃kv st3 vs rs,u=[kv,.int .i64 i]∧Fm n D (O1 kv) w b4 b8 w' st3∧Blk w' b5 [.int .i64 t.op,.int .i64 t.a,.int .i64 t.b,.string t.s,kw] z7∧(∀b,kv.ownBlock=some b→b≠b5)∧OwnV PP ye w' kv vs∧vs.length=i∧rs.length=i∧
  (∀j,j<i→Ints (Kp b4 b8 (O1 kv)) w' (vs.getD j undef) (rs.getD j []))∧(∀r,r∈rs→SnL st3 r)∧M.Bd.Out n (M.seqB ((t.ks.take i).map (M.termB ds))) st st3 rs)
  ⟨_,st,[],[],rfl,h2,hB1.ext he2,fun b hb=>by have e:b6=b:=Option.some.inj hb;omega,ho2,rfl,rfl,fun j hj=>absurd hj (by omega),(fun r hr=>by cases hr),M.Bd.Out.ret _ _⟩ ?_
 rintro i _ g w3 C hi ⟨kv,st3,vs,rs,rfl,h3,hB3,hn5,ho3,hvl,hrl,hint,hsn,hto⟩ hC
 have hT3:TmsR (Low w) w3 kw t.ks:=hT0.ext h3.ext
 simp(disch:=first|(simp only[push_cast];done)|omega) only[push_cast,hB3.ld4,hT3.len]
 refine zh (fun a=>?_) (fun a=>?_)
 ·have hi':i<t.ks.length:=by omega
  refine spec_nil fun vz w4 hz4 e4 hnz4=>?_
  refine zu fun w5 he5 _=>?_
  have e35:=e4.trans he5
  have h5:=h3.grow e35
  have hB5:=hB3.ext e35
  have hT5:=hT3.ext e35
  obtain⟨c5,hk5,hld5⟩:=h5.call
  simp(disch:=first|(simp only[push_cast];done)|omega) only[push_cast,hB5.ld4,hT5.iaddr,hld5 w5 (Same.refl _ _),true_and]
  refine hT5.load zH hi' fun x hx=>?_
  simp only[push_cast,true_and]
  have hmem:t.ks.getD i default∈t.ks:=M.getD_mem hi' _
  refine ih _ hmem ((M.sort_parts hs).2.1 _ hmem) hk5 h5.dl (hdv.ext h5.ext) hx fun w6 cs6 st6 r zs he6 hk6 hz6 hsn6 ho6=>?_
  simp only[push_cast,true_and]
  refine h5.put he6 hk6 fun w7 h7 hs7 hz7=>?_
  try simp only[push_cast,true_and,and_self]
  have l5:=h5.lt4
  have hr7:Ints (Kp b4 b8 (O1 kv)) w7 r zs:=Ints.same (Ints.weaken (F':=Kp b4 b8 (O1 kv)) hz6 fun b hb _=>by
   have hb':w5.heap.size≤b:=hb
   exact⟨by omega,by omega,fun hO=>by have:=(h5.off b hO).1;omega⟩) hs7 fun b hb _ e=>hb.1 e
  have ho7:OwnV PP ye w7 kv vs:=((ho3.ext e35).ext he6).same hs7 fun b hb=>(h3.off b hb).2.2.1
  have hB7:=(hB5.ext he6).same hs7 (fun e=>hne.2.1 e)
  have hint7:∀j,j<i→Ints (Kp b4 b8 (O1 kv)) w7 (vs.getD j undef) (rs.getD j []):=fun j hj=>Ints.kp4 (Ints.ext (Ints.ext (hint j hj) e35) he6) hs7
  refine yb k00 jK0 jJ0 rfl (Sl.cells1 hr7) fun b9 w9 hb9 he9 hz9 hB9=>?_
  refine(ho7.ext he9).app1 YA0 hB9 (Sl.one hr7) (by omega) (by omega) fun v10 w10 ho10 hs10 hn10=>?_
  try simp(disch:=omega) only[push_cast,zA]
  have h10:Fm n D (O1 v10) w b4 b8 w10 st6:=(h7.grow he9).own hs10 (fun b hb=>hb) fun b hb=>⟨ho10.lt hb,hn10 b hb⟩
  have hkp:∀{xv:Value} {xs:List Int},Ints (Kp b4 b8 (O1 kv)) w7 xv xs→Ints (Kp b4 b8 (O1 v10)) w10 xv xs:=fun h=>Ints.kpO (Ints.ext h he9) hs10 (fun b hb=>hb) fun b hb=>hn10 b hb
  have hB9':=hB7.ext he9
  have hl9:=hB9'.lt
  refine hC hi' _ _ ⟨v10,st6,vs++[r],rs++[zs],by simp,h10,hB9'.same hs10 (fun e=>hn5 _ e rfl),fun b hb=>(hn10 b hb).elim (hn5 b) fun h=>by omega,ho10,by simp[hvl],by simp[hrl],fun j hj=>?_,fun q hq=>?_,?_⟩
  ·by_cases c:j<i
   ·rw[Uc (by omega),Uc (by omega)]
    exact hkp (hint7 j c)
   ·have:j=i:=by omega
    subst this
    rw[Ud hvl,Ud hrl]
    exact hkp hr7
  ·rcases List.mem_append.1 hq with h|h
   ·exact(hsn q h).out ho6
   ·rw[List.mem_singleton.1 h];exact hsn6
  ·rw[M.take_add hi' default,List.map_append]
   exact Zq0 hto ho6
 have hi':i=t.ks.length:=by omega
 subst hi'
 rw[List.take_length] at hto
 obtain⟨hrl',hre⟩:=M.seq_reach hto.reach
 have hlen:∀j,j<t.ks.length→(rs.getD j []).length=M.lenS (M.sortM ds (M.kid t j)):=fun j hj=>by
  have hmem:t.ks.getD j default∈t.ks:=M.getD_mem hj _
  have:=M.term_len hok _ ((M.sort_parts hs).2.1 _ hmem) (hre j hj)
  rw[this];rfl
 have hkids:KidsS w3 kv rs:=⟨vs,_,ho3.vals,by omega,fun j hj=>Ints.weaken (hint j (by omega)) fun _ _ _=>trivial⟩
 have fin:∀{st4:Option M.Gs} {zs:List Int},M.Bd.Out n (M.nodeB ds t rs) st3 st4 zs→M.Bd.Out n (M.termB ds t) st st4 zs:=fun h=>by
  rw[M.termB_eq];exact M.Bd.Out.bind hto h
 have hterm:∀w',Ext w3 w'→TermR (Low w) w' (.agg ⟨[.int .i64 t.op,.int .i64 t.a,.int .i64 t.b,.string t.s,kw]⟩) t:=fun w' he=>⟨kw,rfl,hT3.ext he⟩
 obtain⟨c3,hk3,hld3⟩:=h3.call
 have hllen:∀(w':World) (K:Value→World→Prop),vbi PP .len [ye] zc [kv] w' K=K (.int .i64 t.ks.length) w':=fun w' K=>by rw[ho3.vals.len Yu0,hvl]
 rw[hllen]
 simp only[push_cast]
 obtain⟨har,hp,hop⟩:=M.right_op hs
 obtain⟨q1,q2,q3,q4,q5,q6,q7⟩:=M.node_right hok hs (L:=fun i=>(rs.getD i []).length) hlen
 have get:∀i,i<rs.length→SnL st3 (rs.getD i []):=fun i hi=>hsn _ (M.getD_mem hi [])
 refine zh (fun c0=>?_) (fun c0=>?_)
 ·have h0:t.ks.length=0:=by omega
  refine zu fun w4 he4 _=>?_
  have hB4:=hB3.ext he4
  simp(disch:=first|(simp only[push_cast];done)|omega) only[push_cast,hld3 w4 he4,hB4.ldAgg (t:=z7) zH,true_and]
  refine sleaf8_spec (n:=n) (st:=st3) hok hs h0 (hdv.ext (h3.ext.trans he4)) (hterm w4 he4) fun w5 r zs he5 ho5 hn5' hz5 hout5=>?_
  simp only[hld3 w5 (he4.trans he5),true_and,and_self]
  have z4:=he4.size
  refine h3.res (he4.trans he5) (hk3.ext (he4.trans he5) fun _ h _=>h) (kc ho5 fun b hb=>by have:=hn5' b hb;omega) fun w6 e6 hk6 hz6=>hK w6 c3 st3 r zs e6 hk6 hz6 hz5 (fin ?_)
  have:rs=[]:=List.length_eq_zero_iff.1 (by omega)
  rw[this];exact hout5
 have hop2: ¬(t.op=20∨t.op=21∨t.op=24):=fun h=>by
  have:M.arity t.op=0:=by rcases h with h|h|h<;>rw[h]<;>decide
  omega
 obtain⟨vs',hA,hvs⟩:=hkids.vals
 simp(disch:=first|(simp only[push_cast];done)|omega) only[push_cast,hB3.ld0]
 refine zh (fun c=>?_) (fun c22=>?_)
 ·obtain⟨k1,b0,ba,aL,L4⟩:=q5 c
  have aL':t.a<((rs.getD 0 []).length:Int):=aL
  have L4':(rs.getD 0 []).length≤4:=L4
  refine zu fun w4 he4 _=>?_
  have hB4:=hB3.ext he4
  have A0:∀w',Ext w3 w'→∀K:Value→World→Prop,zm PP ye kv (.int .i64 0) w' K=K (.pointer (some (eaddr kv 1 0))) w':=fun w' he K=>(hA w' he 0 (by omega) K).1
  have B0:∀w',Ext w3 w'→∀K:Value→World→Prop,ze PP zg (.pointer (some (eaddr kv 1 0))) w' K=K (vs'.getD 0 undef) w':=fun w' he K=>(hA w' he 0 (by omega) K).2
  obtain⟨cv,hcv,hci⟩:=cutEq (kl:= .i64) (kh:= .i64) (lo:=t.b.toNat) (hi:=(t.a+1).toNat) (hvs 0 (by omega)) (by omega) (by omega)
  have hcv':∀(w':World) (K:Value→World→Prop),yp PP zg (vs'.getD 0 undef) (some (.int .i64 t.b)) (some (.int .i64 (t.a+1))) none w' K=K cv w':=fun w' K=>by
   have:=hcv w' K
   rwa[show((t.b.toNat:Nat):Int)=t.b by omega,show(((t.a+1).toNat:Nat):Int)=t.a+1 by omega] at this
  simp(disch:=first|(simp only[push_cast];done)|omega) only[push_cast,hld3 w4 he4,A0 w4 he4,B0 w4 he4,hB4.ld1,hB4.ld2,zA,hcv',true_and]
  refine spec_nil fun v5 w5 ho5 e5 hn5'=>?_
  have e35:=he4.trans e5
  have hB5:=hB4.ext e5
  simp(disch:=first|(simp only[push_cast];done)|omega) only[push_cast,hld3 w5 e35,A0 w5 e35,B0 w5 e35,hB5.ld1,hB5.ld2,zA,hcv',true_and,and_self]
  refine ho5.app kB (Ints.ext hci e35) (by simp;omega) (by simp;omega) fun v6 w6 ho6 hs6 hn6=>?_
  have z4:=he4.size;have z5:=e5.size
  have e46:Ext w4 w6:=Ext.then e5 hs6 fun b hb=>hn5' b hb
  simp(disch:=first|(simp only[push_cast];done)|omega) only[push_cast,hld3 w6 (he4.trans e46),true_and,and_self]
  refine h3.res (he4.trans e46) (hk3.ext (he4.trans e46) fun _ h _=>h) (kc ho6 fun b hb=>(hn6 b hb).elim (fun h=>by have:=hn5' b h;omega) fun h=>by omega) fun w7 e7 hk7 hz7=>hK w7 c3 st3 v6 _ e7 hk7 hz7 (fun x hx=>?_) (fin ?_)
  ·rw[List.nil_append] at hx
   exact get 0 (by omega) x (List.mem_of_mem_drop (List.mem_of_mem_take hx))
  ·rw[List.nil_append]
   unfold M.nodeB
   rw[if_neg (by omega),if_neg (by omega),if_neg (by omega),if_neg (by omega),if_neg (by omega),if_neg (by omega),if_neg (by omega),if_pos c,show(t.a-t.b+1).toNat=(t.a+1).toNat-t.b.toNat by omega]
   exact M.Bd.Out.ret _ _
 try simp(disch:=first|(simp only[push_cast];done)|omega) only[push_cast,hB3.ld0]
 refine zh (fun c=>?_) (fun cg=>?_)
 ·simp(disch:=first|(simp only[push_cast];done)|omega) only[push_cast,hld3 w3 (Same.refl _ _),hB3.ldAgg (t:=z7) zH]
  refine slogic8_spec hok hs (by omega) (fun h=>hop2 (.inr (.inr h))) hn hk3 h3.dl (hterm w3 (Same.refl _ _)) hkids hrl' hlen hsn fun w4 cs4 st4 r zs he4 hk4 hz4 hsn4 ho4=>?_
  simp only[push_cast]
  exact h3.res he4 hk4 hz4 fun w5 e5 hk5 hz5=>hK w5 cs4 st4 r zs e5 hk5 hz5 hsn4 (fin ho4)
 have hnode:M.nodeB ds t rs=if t.op≤2 then M.unB t.op (rs.getD 0 []) else if 15≤t.op∧t.op≤17 then(M.cmpB t.op (rs.getD 0 []) (rs.getD 1 [])).map fun v=>[v] else M.binB t.op (rs.getD 0 []) (rs.getD 1 []):=by
  unfold M.nodeB
  rw[if_neg (by omega),if_neg (by omega),if_neg (by omega),if_neg (by omega),if_neg (by omega),if_neg (by omega),if_neg (by omega),if_neg (by omega)]
 rw[hnode] at fin
 rw[hllen]
 simp only[push_cast]
 refine zh (fun c1=>?_) (fun c1=>?_)
 ·have hop12:t.op≤2:=Classical.byContradiction fun h=>by
   by_cases c15:15≤t.op
   ·have:=(q4 c15 (by omega)).1;omega
   ·by_cases c14:t.op=14
    ·have:=(q3 c14).1;omega
    ·have:=(q2 (by omega) (by omega)).1;omega
  rw[if_pos hop12] at fin
  obtain⟨k1,l1,l4⟩:=q1 (by omega) hop12
  have l4':(rs.getD 0 []).length≤4:=l4
  refine zu fun w4 he4 _=>?_
  have hB4:=hB3.ext he4
  have A0:∀K:Value→World→Prop,zm PP ye kv (.int .i64 0) w4 K=K (.pointer (some (eaddr kv 1 0))) w4:=fun K=>(hA w4 he4 0 (by omega) K).1
  have B0:∀K:Value→World→Prop,ze PP zg (.pointer (some (eaddr kv 1 0))) w4 K=K (vs'.getD 0 undef) w4:=fun K=>(hA w4 he4 0 (by omega) K).2
  simp(disch:=first|(simp only[push_cast];done)|omega) only[push_cast,hld3 w4 he4,A0,B0,hB4.ld0,true_and]
  have h4:=h3.grow he4
  refine sun7_spec (by omega) hn (hk3.ext he4 fun _ h _=>h) h4.dl (Ints.ext (hvs 0 (by omega)) he4) (by omega) (get 0 (by omega)) fun w5 cs5 st5 r zs he5 hk5 hz5 hsn5 ho5=>?_
  simp only[push_cast,true_and]
  exact h4.res he5 hk5 hz5 fun w6 e6 hk6 hz6=>hK w6 cs5 st5 r zs e6 hk6 hz6 hsn5 (fin ho5)
 have hop3:3≤t.op:=Classical.byContradiction fun h=>by have:=(q1 (by omega) (by omega)).1;omega
 rw[if_neg (by omega)] at fin
 try simp(disch:=first|(simp only[push_cast];done)|omega) only[push_cast,hB3.ld0]
 refine zh (fun c15=>?_) (fun c15=>?_)
 ·rw[if_pos (by omega)] at fin
  obtain⟨k1,l0,l1,l4⟩:=q4 (by omega) (by omega)
  have l0':(rs.getD 0 []).length=(rs.getD 1 []).length:=l0
  have l1':1≤(rs.getD 0 []).length:=l1
  have l4':(rs.getD 0 []).length≤4:=l4
  refine zu fun w4 he4 _=>?_
  have hB4:=hB3.ext he4
  have A0:∀K:Value→World→Prop,zm PP ye kv (.int .i64 0) w4 K=K (.pointer (some (eaddr kv 1 0))) w4:=fun K=>(hA w4 he4 0 (by omega) K).1
  have B0:∀K:Value→World→Prop,ze PP zg (.pointer (some (eaddr kv 1 0))) w4 K=K (vs'.getD 0 undef) w4:=fun K=>(hA w4 he4 0 (by omega) K).2
  have A1:∀K:Value→World→Prop,zm PP ye kv (.int .i64 1) w4 K=K (.pointer (some (eaddr kv 1 1))) w4:=fun K=>(hA w4 he4 1 (by omega) K).1
  have B1:∀K:Value→World→Prop,ze PP zg (.pointer (some (eaddr kv 1 1))) w4 K=K (vs'.getD 1 undef) w4:=fun K=>(hA w4 he4 1 (by omega) K).2
  simp(disch:=first|(simp only[push_cast];done)|omega) only[push_cast,hld3 w4 he4,A0,B0,A1,B1,hB4.ld0,true_and]
  have h4:=h3.grow he4
  refine scmp7_spec (by omega) (by omega) hn (hk3.ext he4 fun _ h _=>h) h4.dl (Ints.ext (hvs 0 (by omega)) he4) (Ints.ext (hvs 1 (by omega)) he4) l0' l1' (by omega) (get 0 (by omega)) (get 1 (by omega)) fun w5 cs5 st5 r he5 hk5 hr5 ho5=>?_
  simp only[push_cast,true_and]
  refine h4.put he5 hk5 fun w6 h6 hs6 hz6=>?_
  try simp only[push_cast,true_and,and_self]
  obtain⟨c6,hk6,hld6⟩:=h6.call
  simp only[hld6 w6 (Same.refl _ _)]
  refine spec_one fun w7 rv he7 ho7 hn7=>?_
  exact h6.res he7 (hk6.ext he7 fun _ h _=>h) (kc ho7 hn7) fun w8 e8 hk8 hz8=>hK w8 c6 st5 rv [r] e8 hk8 hz8 (SnL.one hr5) (fin (M.Bd.Out.map _ ho5))
 rw[if_neg (by omega)] at fin
 have hlr:t.ks.length=2∧(t.op≠14→(rs.getD 0 []).length=(rs.getD 1 []).length)∧1≤(rs.getD 0 []).length∧(rs.getD 0 []).length≤8∧(rs.getD 1 []).length≤8:=by
  by_cases c:t.op=14
  ·obtain⟨a1,a2,a3,a4⟩:=q3 c
   exact⟨a1,fun h=>absurd c h,a2,by omega,by omega⟩
  ·obtain⟨a1,a2,a3,a4⟩:=q2 (by omega) (by omega)
   exact⟨a1,fun _=>a2,a3,by omega,by omega⟩
 obtain⟨k1,l0,l1,l2,l3⟩:=hlr
 refine zu fun w4 he4 _=>?_
 have hB4:=hB3.ext he4
 have A0:∀K:Value→World→Prop,zm PP ye kv (.int .i64 0) w4 K=K (.pointer (some (eaddr kv 1 0))) w4:=fun K=>(hA w4 he4 0 (by omega) K).1
 have B0:∀K:Value→World→Prop,ze PP zg (.pointer (some (eaddr kv 1 0))) w4 K=K (vs'.getD 0 undef) w4:=fun K=>(hA w4 he4 0 (by omega) K).2
 have A1:∀K:Value→World→Prop,zm PP ye kv (.int .i64 1) w4 K=K (.pointer (some (eaddr kv 1 1))) w4:=fun K=>(hA w4 he4 1 (by omega) K).1
 have B1:∀K:Value→World→Prop,ze PP zg (.pointer (some (eaddr kv 1 1))) w4 K=K (vs'.getD 1 undef) w4:=fun K=>(hA w4 he4 1 (by omega) K).2
 simp(disch:=first|(simp only[push_cast];done)|omega) only[push_cast,hld3 w4 he4,A0,B0,A1,B1,hB4.ld0,true_and]
 have h4:=h3.grow he4
 refine sbin7_spec hop3 (by omega) hn (hk3.ext he4 fun _ h _=>h) h4.dl (Ints.ext (hvs 0 (by omega)) he4) (Ints.ext (hvs 1 (by omega)) he4) l0 l1 l2 l3 (get 0 (by omega)) (get 1 (by omega)) fun w5 cs5 st5 r zs he5 hk5 hz5 hsn5 ho5=>?_
 simp only[push_cast,true_and]
 exact h4.res he5 hk5 hz5 fun w6 e6 hk6 hz6=>hK w6 cs5 st5 r zs e6 hk6 hz6 hsn5 (fin ho5)
end Go.Proofs.YtaekfnbnhjgboaaGreatDoor
end
section
namespace Go.Proofs.YtaekfnbnhjgboaaGreatDoor
open Go Go.Vc Go.Proofs
variable {w:World} {K:Value→World→Prop} {D F Fx Fy Y S O O':Nat→Prop} {n b4 b8:Nat} {gs gs':M.Gs} {v v' nv xv yv sv dv tv kv:Value} {cs cs' ts:List Value} {st st':Option M.Gs} {a b c m x y r:Int} {xs ys:List Int} {ds:List M.Dcl} {t:M.Tm} {rs:List (List Int)}
theorem bits_nat (hd:M.declOk ds=true):M.bits ds=(((M.bits ds).toNat:Nat):Int)∧(M.bits ds).toNat≤8:=by
 have h8:=(M.decl_iff.1 hd).2.2
 have h0:=(dcl_small hd (i:=ds.length) (Nat.le_refl _)).1
 rw[M.bitT_all] at h0
 exact⟨by omega,by omega⟩
theorem jd0 {zs:List Int} (ht:M.tsort ds t≠ -1) (ho:M.Bd.Out (M.bits ds).toNat (M.termB ds t) (some []) st zs):toldR (M.bits ds).toNat st zs=blastR ds t:=by
 unfold blastR
 rw[if_neg ht]
 rcases ho with⟨gs,h1,rfl⟩|⟨h1,rfl,_⟩
 ·rw[h1];rfl
 ·rw[h1];rfl
theorem out_lens {zs:List Int} (hd:M.declOk ds=true) (hs:M.sortM ds t≠ -1) (ho:M.Bd.Out n (M.termB ds t) st st' zs):zs.length=M.lenS (M.sortM ds t)∧zs.length≤4:=by
 have h1:=M.term_len hd t hs ho.reach
 have h2:=M.sort_range hd t
 refine⟨h1,?_⟩
 rw[h1];unfold M.lenS;omega
theorem spec_Blast_spec (hsz:ZX0 ds) (hdv:DclsR Fx w dv ds) (ht:TermR Fy w tv t)
  (hK:∀w' gv lv,Ext w w'→OwnG w' gv (blastR ds t).2.1→OwnI PP zg w' lv (blastR ds t).2.2→(∀b,gv.ownBlock=some b→w.heap.size≤b)→(∀b,lv.ownBlock=some b→w.heap.size≤b∧gv.ownBlock≠some b)→K (.tuple #[.agg ⟨[.int .i64 (blastR ds t).1,gv]⟩,lv]) w'):
  vcall PP XV #[dv,tv] w K:=by
 apply q70;unfold WP
 obtain⟨cs,rfl,hcs⟩:=ht.cells
 refine zy fun b1 w1 hb1 he1 hz1 hB1=>?_
 refine zC xH fun b2 w2 hb2 he2 hz2 hB2=>?_
 have e2:=he1.trans he2
 have hB12:=hB1.ext he2
 have hld:∀w':World,Blk w' b1 cs z7→∀K:Value→World→Prop,ze PP z7 (.pointer (some ⟨b1,0,none⟩)) w' K=K (.agg ⟨cs⟩) w':=fun w' h K=>h.ldAgg (t:=z7) (by rw[xt hcs];exact zH)
 rw[hld w2 hB12]
 refine spec_TermSort_spec hsz (hdv.ext e2) (hcs.ext e2).term fun w3 he3=>?_
 have e3:=e2.trans he3
 have hB13:=hB12.ext he3
 have hB23:=hB2.ext he3
 have z1:=he1.size;have z2:=he2.size;have z3:=he3.size
 simp only[push_cast]
 have hge: -1≤M.tsort ds t:=by
  unfold M.tsort;split
  ·next h=>exact(M.sort_range h.2 t).1
  ·exact Int.le_refl _
 refine zh (fun c=>?_) (fun c=>?_)
 ·have c':M.tsort ds t= -1:=by omega
  unfold blastR at hK
  rw[if_pos c'] at hK
  rw[za0]
  refine spec_nil fun v4 w4 ho4 e4 hn4=>?_
  refine net_out (hB23.ext e4) rfl rfl net_one fun w5 hs5=>?_
  have s4:=e4.size
  exact hK w5 _ v4 (Ext.then (e3.trans e4) hs5 fun b hb=>by omega) OwnG.nil (ho4.same hs5 fun b hb e=>by have:=hn4 b hb;omega) (fun b hb=>by cases hb) fun b hb=>⟨by have:=hn4 b hb;omega,fun h=>by cases h⟩
 ·have c':M.tsort ds t≠ -1:=by omega
  obtain⟨hfit,hd,hs,h20⟩:=QC c'
  obtain⟨hbn,hb8⟩:=bits_nat hd
  refine zu fun w4 he4 _=>?_
  have hB14:=hB13.ext he4
  simp only[push_cast,hld w4 hB14,true_and]
  refine sbits8_spec (k:=ds.length) hd (Nat.le_refl _) (by rw[List.take_length];exact hdv.ext (e3.trans he4)) fun w5 he5=>?_
  rw[M.bitT_all,hbn]
  have hB15:=hB14.ext he5
  have e5:=(e3.trans he4).trans he5
  simp only[push_cast,hld w5 hB15,true_and,and_self,kF0,YO0]
  refine sdo8_spec hd hb8 t hs (D:=fun _=>False) (st:=some []) ⟨none,0,0,rfl,GatesR.nil,by simp⟩ (fun b hb=>hb.elim) (hdv.ext e5) (hcs.ext e5).term fun w6 cs6 st6 r zs he6 hk6 hz6 hsn6 ho6=>?_
  simp only[push_cast,true_and]
  have hzl:=out_lens hd hs ho6
  refine told7_spec hk6 hz6 (by omega) fun w7 o c7 lv he7 hog hol hno hnl=>?_
  rw[jd0 c' ho6] at hog hol hno hnl⊢
  simp only[push_cast,true_and]
  have z4:=he4.size;have z5:=he5.size;have z6:=he6.size
  have hB27:=(((hB23.ext he4).ext he5).ext he6).ext he7
  refine net_out hB27 rfl rfl net_one fun w8 hs8=>?_
  refine hK w8 _ lv (Ext.then (e5.trans (he6.trans he7)) hs8 fun b hb=>by omega) (Own.same hog hs8 fun b hb e=>by have:=hno b hb;omega) (hol.same hs8 fun b hb e=>by have:=(hnl b hb).1;omega) (fun b hb=>by have:=hno b hb;omega) fun b hb=>⟨by have:=(hnl b hb).1;omega,(hnl b hb).2⟩
end Go.Proofs.YtaekfnbnhjgboaaGreatDoor
end
section
namespace Go.M
open Go.Vc
mutual
def sameT:Tm→Tm→Bool
 | .mk o a b s ks,.mk o' a' b' s' ks'=>decide (o=o')&&decide (a=a')&&decide (b=b')&&decide (s=s')&&sameL ks ks'
def sameL:List Tm→List Tm→Bool
 |[],[]=>true
 |x::xs,y::ys=>sameT x y&&sameL xs ys
 |[],_::_=>false
 |_::_,[]=>false
end
theorem Zm0 {xs:List Tm} (ih:∀k,k∈xs→∀y,sameT k y=true↔k=y):∀ys,sameL xs ys=true↔xs=ys:=by
 induction xs with
 |nil=>intro ys;cases ys<;>simp[sameL]
 |cons x xs ihx=>
  intro ys
  cases ys with
  |nil=>simp[sameL]
  |cons y ys=>
   rw[sameL,Bool.and_eq_true,ih x List.mem_cons_self,ihx (fun k hk=>ih k (List.mem_cons_of_mem _ hk)),List.cons.injEq]
theorem k60:∀t u:Tm,sameT t u=true↔t=u:=by
 refine Tm.ind fun t ih u=>?_
 cases t with
 |mk o a b s ks=>
  cases u with
  |mk o' a' b' s' ks'=>
   rw[sameT,Bool.and_eq_true,Zm0 (xs:=ks) ih]
   simp only[Bool.and_eq_true,decide_eq_true_eq,Tm.mk.injEq,and_assoc]
instance:DecidableEq Tm:=fun t u=>decidable_of_iff _ (k60 t u)
def truT:Tm:= .mk 24 0 0 nada []
def flsT:Tm:= .mk 25 0 0 nada [truT]
def Yc0 (t:Tm):Option Int:=if t=truT then some 1 else if t=flsT then some 0 else if t.op=20∧t.ks=[]∧t.s=nada∧vok t.a t.b=true then some t.b else none
def isM (t:Tm) (n:Int):Bool:=decide (Yc0 t=some n)
def xK0 (w n:Int):Tm:=if 0<w then .mk 20 w n nada [] else if n=1 then truT else flsT
def Yh0 (ds:List Dcl):List Int:=List.replicate ds.length 0
theorem zeroE_ok {ds:List Dcl} (h:declOk ds=true):envOk ds (Yh0 ds)=true:=by
 unfold envOk Yh0
 rw[h,List.length_replicate]
 simp only[decide_true,Bool.true_and,List.all_eq_true,List.mem_range]
 intro i hi
 have hw:=dcl_wide h hi
 have:(List.replicate ds.length (0:Int)).getD i 0=0:=by simp[List.getD_eq_getElem?_getD,List.getElem?_replicate,hi]
 rw[this,vok_iff]
 exact⟨hw.1,hw.2,Int.le_refl _,Int.pow_pos (by decide)⟩
section
variable {ds:List Dcl} {env:List Int} {t u:Tm} {w n:Int}
def ZW0 (t:Tm):Bool:=decide (t.ks≠[])&&t.ks.all fun k=>(Yc0 k).isSome
def ruleX (ds:List Dcl) (t:Tm):Option Tm:=if ZW0 t=true then some (xK0 (sortM ds t) (evalM ds (Yh0 ds) t)) else none
def ruleB (t:Tm):Option Tm:=
 if t.op=25∧(kid t 0).op=25 then some (kid (kid t 0) 0)
 else if t.op≠23 then none
 else if isM (kid t 0) 1=true then some (kid t 1)
 else if isM (kid t 0) 0=true then some (kid t 2)
 else if kid t 1=kid t 2 then some (kid t 1) else none
def Uu (o:Int):Int:=if o=26 then 1 else 0
def ruleT (t:Tm):Option Tm:=
 if t.op=26∨t.op=27 then
  if isM (kid t 0) (Uu t.op)=true∨kid t 0=kid t 1 then some (kid t 1)
  else if isM (kid t 1) (Uu t.op)=true then some (kid t 0)
  else if isM (kid t 0) (1-Uu t.op)=true∨isM (kid t 1) (1-Uu t.op)=true then some (xK0 0 (1-Uu t.op)) else none
 else none
def ruleL (ds:List Dcl) (t:Tm):Option Tm:=
 if t.op=22 then(if t.b=0∧t.a=sortM ds (kid t 0)-1 then some (kid t 0) else none)
 else if(t.op=1∨t.op=2)∧(kid t 0).op=t.op then some (kid (kid t 0) 0) else none
def ruleW (ds:List Dcl) (t:Tm):Option Tm:=
 if t.ks.length=2∧kid t 0=kid t 1 then
  if t.op=3∨t.op=4 then some (kid t 0)
  else if t.op=5∨t.op=7 then some (xK0 (sortM ds t) 0)
  else if t.op=15 then some (xK0 0 1)
  else if t.op=16∨t.op=17 then some (xK0 0 0) else none
 else none
def ruleS (t:Tm):Option Tm:=
 if t.ks.length=2 then
  if isM (kid t 1) 0=true∧(t.op=4∨t.op=5∨t.op=6∨t.op=7∨t.op=11∨t.op=12∨t.op=13) then some (kid t 0)
  else if isM (kid t 1) 0=true∧(t.op=3∨t.op=8) then some (kid t 1)
  else if isM (kid t 1) 1=true∧t.op=8 then some (kid t 0) else none
 else none
def ruleF (t:Tm):Option Tm:=
 if t.ks.length=2 then
  if isM (kid t 0) 0=true∧(t.op=4∨t.op=5∨t.op=6) then some (kid t 1)
  else if isM (kid t 0) 0=true∧(t.op=3∨t.op=8) then some (kid t 0)
  else if isM (kid t 0) 1=true∧t.op=8 then some (kid t 1) else none
 else none
def binT (w n:Nat):Prop:=
 (binN 3 w n n=n∧binN 4 w n n=n∧binN 5 w n n=0∧binN 7 w n n=0)∧
 (binN 4 w n 0=n∧binN 5 w n 0=n∧binN 6 w n 0=n∧binN 7 w n 0=n∧binN 11 w n 0=n∧binN 12 w n 0=n∧binN 13 w n 0=n)∧
 (binN 3 w n 0=0∧binN 8 w n 0=0∧binN 8 w n 1=n)∧
 (binN 4 w 0 n=n∧binN 5 w 0 n=n∧binN 6 w 0 n=n∧binN 3 w 0 n=0∧binN 8 w 0 n=0∧binN 8 w 1 n=n)
instance (w n:Nat):Decidable (binT w n):=by unfold binT;infer_instance
end
end Go.M
end
section
namespace Go.M
open Go.Vc
section
variable {ds:List Dcl} {env:List Int} {t u:Tm} {d:Dcl} {x:Int}
theorem app_getD {α:Type} {l r:List α} {i:Nat} {e:α} (h:i<l.length):(l++r).getD i e=l.getD i e:=by
 rw[List.getD_eq_getElem?_getD,List.getElem?_append_left h,←List.getD_eq_getElem?_getD]
def rankE:List Dcl→List Int→Int
 |d::ds,n::env=>n*2^(bits ds).toNat+rankE ds env
 |[],_=>0
 |_::_,[]=>0
theorem qj0 (d:Dcl) (ds:List Dcl):bits (d::ds)=d.2+bits ds:=by unfold bits;rw[List.map_cons,List.sum_cons]
theorem bits_nonneg:∀{ds:List Dcl},(∀d,d∈ds→0≤d.2)→0≤bits ds
 |[],_=>Int.le_refl _
 |d::ds,h=>by
  have:=h d List.mem_cons_self
  have:=bits_nonneg (ds:=ds) fun x hx=>h x (List.mem_cons_of_mem _ hx)
  rw[qj0];omega
theorem rank_zero:∀(ds:List Dcl) (n:Nat),rankE ds (List.replicate n 0)=0
 |[],n=>by cases n<;>rfl
 |d::ds,0=>rfl
 |d::ds,n+1=>by
  show(0:Int)*2^(bits ds).toNat+rankE ds (List.replicate n 0)=0
  rw[rank_zero ds n];simp
def Tops (ds:List Dcl) (env:List Int) (i:Nat):Prop:=∀j,i≤j→j<ds.length→env.getD j 0=2^((ds.getD j (nada,0)).2).toNat-1
theorem rank_top:∀{ds:List Dcl} {env:List Int},env.length=ds.length→(∀d,d∈ds→0≤d.2)→Tops ds env 0→rankE ds env=2^(bits ds).toNat-1
 |[],[],_,_,_=>rfl
 |d::ds,n::env,hl,hd,h=>by
  have h0:n=2^(d.2).toNat-1:=h 0 (Nat.le_refl _) (by simp)
  have hd':∀x,x∈ds→0≤x.2:=fun x hx=>hd x (List.mem_cons_of_mem _ hx)
  have ih:=rank_top (ds:=ds) (env:=env) (by simpa using hl) hd' fun j _ hj=>by
   have:=h (j+1) (Nat.zero_le _) (by simpa using hj)
   simpa using this
  have hb:=bits_nonneg hd'
  have hd0:=hd d List.mem_cons_self
  show n*2^(bits ds).toNat+rankE ds env=_
  have e:(bits (d::ds)).toNat=d.2.toNat+(bits ds).toNat:=by rw[qj0];omega
  rw[ih,h0,e,Int.pow_add,Int.sub_mul]
  omega
 |[],_::_,hl,_,_=>by simp at hl
 |_::_,[],hl,_,_=>by simp at hl
def bump (env:List Int) (i:Nat):List Int:=env.take i++(env.getD i 0+1)::List.replicate (env.length-i-1) 0
theorem rank_bump:∀{ds:List Dcl} {env:List Int} {i:Nat},env.length=ds.length→(∀d,d∈ds→0≤d.2)→i<ds.length→Tops ds env (i+1)→rankE ds (bump env i)=rankE ds env+1
 |d::ds,n::env,0,hl,hd,_,h=>by
  have hd':∀x,x∈ds→0≤x.2:=fun x hx=>hd x (List.mem_cons_of_mem _ hx)
  have ht:=rank_top (ds:=ds) (env:=env) (by simpa using hl) hd' fun j _ hj=>by
   have:=h (j+1) (by omega) (by simpa using hj)
   simpa using this
  show(n+1)*2^(bits ds).toNat+rankE ds (List.replicate _ 0)=n*2^(bits ds).toNat+rankE ds env+1
  rw[rank_zero,ht,Int.add_mul]
  omega
 |d::ds,n::env,i+1,hl,hd,hi,h=>by
  have ih:=rank_bump (ds:=ds) (env:=env) (i:=i) (by simpa using hl) (fun x hx=>hd x (List.mem_cons_of_mem _ hx)) (by simpa using hi) fun j hj hj'=>by
   have:=h (j+1) (by omega) (by simpa using hj')
   simpa using this
  have e:bump (n::env) (i+1)=n::bump env i:=by
   unfold bump
   simp only[List.take_succ_cons,List.getD_cons_succ,List.length_cons,List.cons_append]
   rw[show env.length+1-(i+1)-1=env.length-i-1 by omega]
  rw[e]
  show n*2^(bits ds).toNat+rankE ds (bump env i)=n*2^(bits ds).toNat+rankE ds env+1
  rw[ih];omega
 |[],_,_,_,_,hi,_=>by simp at hi
 |_::_,[],_,hl,_,_,_=>by simp at hl
end
end Go.M
end
section
namespace Go.Proofs.YtaekfnbnhjgboaaGreatDoor
open Go Go.Vc Go.Proofs
variable {w:World} {K:Value→World→Prop} {F F' D G:Nat→Prop}
theorem lv0 {b:Nat} {x:Value} {t0 t:TypeId} (h:Blk w b [x] t0) (ho:oneB PP t=true):vlv PP t (.pointer (some ⟨b,0,none⟩)) w K=K x w:=Y00 (by rw[h.ld0 ho];exact⟨rfl,rfl⟩)
def yA0 (ds:List M.Dcl):Int:=if M.declOk ds=true then 2^(M.bits ds).toNat else 0
theorem qi0 {ds:List M.Dcl}:∀{i:Nat},i<ds.length→M.bits (ds.take (i+1))=M.bits (ds.take i)+(ds.getD i (M.nada,0)).2:=fun{i} h=>by
 unfold M.bits
 rw[List.take_succ_eq_append_getElem h,List.map_append,List.sum_append,List.getD_eq_getElem?_getD,List.getElem?_eq_getElem h]
 simp
theorem bits_all {ds:List M.Dcl} (h:M.declOk ds=true) (i:Nat):0≤M.bits (ds.take i)∧M.bits (ds.take i)≤M.bits ds∧M.bits ds≤8:=by
 have hw:=fun i (hi:i<ds.length)=>M.dcl_wide h hi
 have hb:=(M.decl_iff.1 h).2.2
 have pos:∀d,d∈ds→0≤d.2:=fun d hd=>by
  obtain⟨j,hj,rfl⟩:=List.getElem_of_mem hd
  have:=hw j hj
  rw[List.getD_eq_getElem?_getD,List.getElem?_eq_getElem hj] at this
  simp at this;omega
 refine⟨M.bits_nonneg fun d hd=>pos d (List.mem_of_mem_take hd),?_,hb⟩
 have e:M.bits ds=M.bits (ds.take i)+M.bits (ds.drop i):=by
  unfold M.bits
  rw[←List.sum_append,←List.map_append,List.take_append_drop]
 have:=M.bits_nonneg (ds:=ds.drop i) fun d hd=>pos d (List.mem_of_mem_drop hd)
 omega
theorem pow8 {b:Int} (h0:0≤b) (h8:b≤8):1≤(2:Int)^b.toNat∧(2:Int)^b.toNat≤256:=by
 obtain⟨n,rfl⟩:∃n:Nat,b=n:=⟨b.toNat,by omega⟩
 have:n≤8:=by omega
 have e:n=0∨n=1∨n=2∨n=3∨n=4∨n=5∨n=6∨n=7∨n=8:=by omega
 rcases e with rfl|rfl|rfl|rfl|rfl|rfl|rfl|rfl|rfl<;>decide
theorem shl1 {c:Bool} {t:TypeId} {yk:IntKind} {y:Int} (h0:0≤y) (h8:y≤8):zo PP .shl t c (.int .i64 1) (.int yk y) w K=K (.int .i64 (2^y.toNat)) w:=by
 rw[U5 h0]
 have hp:=pow8 h0 h8
 have e:min y.toNat IntKind.i64.bits=y.toNat:=Nat.min_eq_left (by show y.toNat≤64;omega)
 rw[e,Int.one_mul,zA (by omega) (by omega)]
theorem EnvMany_spec {v:Value} {ds:List M.Dcl} (hd:DclsR F w v ds) (hK:∀w',Ext w w'→K (.int .i64 (yA0 ds)) w'):vcall PP kq #[v] w K:=by
 apply zY0;unfold JS
 refine DeclOk_spec hd fun w1 he1=>?_
 simp only[push_cast]
 unfold yA0 at hK
 have hd1:=hd.ext he1
 refine yx (fun a=>?_) (fun a=>?_)
 ·rw[if_neg (by simpa using a)] at hK
  exact hK _ he1
 have hok:M.declOk ds=true:=by simpa using a
 rw[if_pos hok] at hK
 have hsm:=hd.small
 simp(disch:=(simp only[push_cast];done)) only[push_cast,hd1.len]
 refine vloop_up ds.length (fun i u w'=>u=[.int .i64 (M.bits (ds.take i)),.int .i64 i]∧Ext w w') ⟨rfl,he1⟩ ?_
 rintro i _ _ w2 C hi ⟨rfl,he2⟩ hC
 have hd2:=hd.ext he2
 simp only[push_cast]
 refine zh (fun a=>?_) (fun a=>?_)
 ·simp(disch:=first|(simp only[push_cast];done)|omega) only[push_cast,hd2.iaddr,hd2.load]
  refine zC xr fun b3 w3 hb3 he3 hs3 h3=>?_
  refine stDecl h3 fun w4 hw4 hz4 h4=>?_
  simp(disch:=(simp only[push_cast];done)) only[push_cast,h4.ld1]
  have b1:=bits_all hok i
  have b2:=bits_all hok (i+1)
  rw[qi0 (by omega)] at b2
  rw[zA (by omega) (by omega),inc64' (by omega)]
  exact hC (by omega) _ _ ⟨by rw[qi0 (by omega)],Ext.then (he2.trans he3) hw4 fun y hy=>by subst hy;have:=he2.size;omega⟩
 ·have:i=ds.length:=by omega
  subst this
  rw[List.take_length]
  have b1:=bits_all hok 0
  have b2:=bits_all hok ds.length
  rw[List.take_length] at b2
  rw[shl1 b2.1 b2.2.2]
  exact hK _ he2
def kC0 (env:List Int) (i n:Nat):List Int:=env.take i++(env.getD i 0+1)::List.replicate n 0
theorem set_cut {env:List Int} {i m:Nat} {x:Int} (hi:i<env.length) (hm:m=m):(env.take (i+1)++List.replicate m 0).set i x=env.take i++x::List.replicate m 0:=by
 rw[List.set_append_left _ _ (by rw[List.length_take];omega),List.take_succ_eq_append_getElem hi,List.set_append_right _ _ (by rw[List.length_take];omega)]
 have:i-(env.take i).length=0:=by rw[List.length_take];omega
 rw[this,List.append_assoc]
 rfl
theorem bump_zero {env:List Int} {i n:Nat} (hi:i<env.length) (hn:i<n):(kC0 env i (n-i-1)).set i 0=env.take i++List.replicate (n-i) 0:=by
 unfold kC0
 rw[List.set_append_right _ _ (by rw[List.length_take];omega)]
 have:i-(env.take i).length=0:=by rw[List.length_take];omega
 rw[this,show n-i=(n-i-1)+1 by omega,List.replicate_succ]
 rfl
theorem qn0 {α:Type} {l r:List α} {i:Nat} {e:α} (h:l.length≤i):(l++r).getD i e=r.getD (i-l.length) e:=by
 rw[List.getD_eq_getElem?_getD,List.getElem?_append_right h,←List.getD_eq_getElem?_getD]
theorem bump_ok {ds:List M.Dcl} {env:List Int} {i:Nat} (h:M.envOk ds env=true) (hi:i<ds.length) (hx:env.getD i 0+1<2^((ds.getD i (M.nada,0)).2).toNat):M.envOk ds (M.bump env i)=true:=by
 obtain⟨h1,h2,h3⟩:=M.env_ok h
 have hl:(M.bump env i).length=ds.length:=by unfold M.bump;rw[List.length_append,List.length_take,List.length_cons,List.length_replicate];omega
 unfold M.envOk
 rw[h1,hl]
 simp only[Bool.true_and,decide_true,List.all_eq_true,List.mem_range]
 intro q hq
 have hw:=M.dcl_wide h1 hq
 obtain⟨_,_,q3,_⟩:=M.vok_iff.1 (h3 q hq)
 unfold M.bump
 rcases Nat.lt_trichotomy q i with e|e|e
 ·rw[M.app_getD (by rw[List.length_take];omega),M.take_getD e]
  exact h3 q hq
 ·subst e
  rw[qn0 (l:=env.take q) (by rw[List.length_take];omega)]
  have:q-(env.take q).length=0:=by rw[List.length_take];omega
  rw[this]
  exact M.vok_iff.2 ⟨hw.1,hw.2,by show 0≤env.getD q 0+1;omega,hx⟩
 ·rw[qn0 (l:=env.take i) (by rw[List.length_take];omega)]
  obtain⟨r,hr⟩:∃r,q-(env.take i).length=r+1:=⟨q-(env.take i).length-1,by rw[List.length_take];omega⟩
  rw[hr,List.getD_cons_succ]
  have e0:(List.replicate (env.length-i-1) (0:Int)).getD r 0=0:=by
   rw[List.getD_eq_getElem?_getD,List.getElem?_replicate];split<;>rfl
  rw[e0]
  have:=pow8 (b:=(ds.getD q (M.nada,0)).2) (by omega) (by omega)
  exact M.vok_iff.2 ⟨hw.1,hw.2,Int.le_refl _,by omega⟩
theorem environments_1_spec {yv:Value} {bd:Nat} {dv:Value} {t0:TypeId} {ds:List M.Dcl} {k:Int} {S:Nat→Prop} {R:Int→World→Prop} {Z:World→Prop} (hok:M.declOk ds=true) (hk0:0≤k) (hk:k<2^(M.bits ds).toNat)
  (hb:Blk w bd [dv] t0) (hd:DclsR F w dv ds) (hSb: ¬S bd) (hSF:∀b,F b→¬S b) (hSl:∀b,S b→b<w.heap.size) (h0:R 0 w)
  (hR:∀j w' w'',R j w'→Same (fun b=>w.heap.size≤b) w' w''→R j w'')
  (hy:∀(j:Int) (w':World) (v:Value) (env:List Int) (K':Value→World→Prop),0≤j→j≤k→R j w'→OwnI PP zg w' v env→(∀b,v.ownBlock=some b→w.heap.size≤b)→M.envOk ds env=true→M.rankE ds env=j→
   (j<k→∀w'',R (j+1) w''→Same S w' w''→K' (.bool true) w'')→(j=k→∀w'',Z w''→K' (.bool false) w'')→vcallv PP yv #[v] w' K')
  (hZ:∀w',Z w'→K (.tuple #[]) w'):vcall PP xy #[yv,.pointer (some ⟨bd,0,none⟩)] w K:=by
 apply Qh;unfold kG
 have hsm:=hd.small
 have hdl:=(M.decl_iff.1 hok).1
 rw[hb.ld0 Wq]
 simp(disch:=(simp only[push_cast];done)) only[push_cast,hd.len]
 refine vmkS_own (z:= .int .i64 0) kB (by kernel_rfl) Ze rfl (by omega) (by omega) fun v w1 hv he1 hn1=>?_
 have hv1:OwnI PP zg w1 v (List.replicate ds.length 0):=by unfold OwnI;rw[List.map_replicate];exact hv
 have hlt1:∀b,v.ownBlock=some b→b<w1.heap.size:=fun b hb=>hv1.lt hb
 have hz1:=he1.size
 have hpos:∀d,d∈ds→0≤d.2:=fun d hd=>by
  obtain⟨j,hj,rfl⟩:=List.getElem_of_mem hd
  have:=M.dcl_wide hok hj
  rw[List.getD_eq_getElem?_getD,List.getElem?_eq_getElem hj] at this
  simp at this;omega
 have henv0:M.envOk ds (List.replicate ds.length 0)=true:=by
  unfold M.envOk
  rw[hok,List.length_replicate]
  simp only[Bool.true_and,decide_true,List.all_eq_true,List.mem_range]
  intro i hi
  have:=M.dcl_wide hok hi
  have e:(List.replicate ds.length (0:Int)).getD i 0=0:=by simp[List.getD_eq_getElem?_getD,hi]
  rw[e]
  refine M.vok_iff.2 ⟨this.1,this.2,Int.le_refl _,?_⟩
  have:=pow8 (b:=(ds.getD i (M.nada,0)).2) (by omega) (by omega)
  omega
 let S':Nat→Prop:=fun b=>S b∨v.ownBlock=some b
 refine ZP (fun n u w'=> ∃(j:Int) (env:List Int),u=[]∧n=(k-j).toNat∧0≤j∧j≤k∧R j w'∧OwnI PP zg w' v env∧M.envOk ds env=true∧M.rankE ds env=j∧Same S' w1 w') (k-0).toNat
  ⟨0,_,rfl,rfl,Int.le_refl _,hk0,hR 0 w w1 h0 (he1.mono fun _ _ h=>h.elim),hv1,henv0,M.rank_zero _ _,Same.refl _ _⟩ ?_
 rintro _ _ _ w2 C ⟨j,env,rfl,rfl,hj0,hjk,hRj,hv2,henv,hrank,hs2⟩ hC
 have hSb': ¬S' bd:=fun h=>h.elim hSb fun h=>by have:=hn1 _ h;have:=hb.lt;omega
 have hSF':∀b,F b→b<w.heap.size→¬S' b:=fun b hF hlt h=>h.elim (hSF b hF) fun h=>by have:=hn1 _ h;omega
 have dcl:∀w',Same S' w1 w'→Blk w' bd [dv] t0∧DclsR (fun b=>F b∧b<w.heap.size) w' dv ds:=fun w' h=>
  ⟨(hb.ext he1).same h hSb',((hd.weaken (F':=fun b=>F b∧b<w.heap.size) fun b h1 h2=>⟨h1,h2⟩).ext he1).same h fun b hF _=>hSF' b hF.1 hF.2⟩
 obtain⟨_,hlen,hvoks⟩:=M.env_ok henv
 refine hy j w2 v env _ hj0 hjk hRj hv2 hn1 henv hrank (fun hlt w3 hR3 hs3=>?_) (fun _ w3 hz=>?_)
 ·simp only[push_cast,Bool.not_true]
  have hs13:Same S' w1 w3:=hs2.trans (hs3.mono fun _ _ h=> .inl h)
  have hnS:∀b,v.ownBlock=some b→¬S b:=fun b hb h=>by have:=hSl b h;have:=hn1 b hb;omega
  have hv3:=hv2.same hs3 hnS
  obtain⟨hb3,hd3⟩:=dcl w3 hs13
  rw[hb3.ld0 Wq]
  simp(disch:=(simp only[push_cast];done)) only[push_cast,hd3.len]
  rw[show IntKind.i64.wrap ((ds.length:Int)-1)=(ds.length:Int)-1 from zA (by omega) (by omega)]
  refine ZP (fun n u w'=> ∃cur:List Int,u=[.int .i64 ((n:Int)-1)]∧n≤ds.length∧cur=env.take n++List.replicate (ds.length-n) 0∧M.Tops ds env n∧OwnI PP zg w' v cur∧Same (fun b=>v.ownBlock=some b) w3 w') ds.length
   ⟨env,rfl,Nat.le_refl _,by rw[Nat.sub_self,←hlen,List.take_length];simp,fun i h1 h2=>absurd h2 (by omega),hv3,Same.refl _ _⟩ ?_
  rintro n _ _ w4 C1 ⟨cur,rfl,hn,hcur,htop,hv4,hs4⟩ hC1
  have hs14:Same S' w1 w4:=hs13.trans (hs4.mono fun _ _ h=> .inr h)
  have hR4:R (j+1) w4:=hR _ _ _ hR3 (hs4.mono fun b _ h=>hn1 b h)
  have hclen:cur.length=ds.length:=by rw[hcur,List.length_append,List.length_take,List.length_replicate];omega
  simp only[push_cast]
  refine zh (fun a=>?_) (fun a=>?_)
  ·obtain⟨i,rfl⟩:∃i,n=i+1:=⟨n-1,by omega⟩
   have hin:i<ds.length:=by omega
   have ei:((i+1:Nat):Int)-1=i:=by omega
   have hcuri:cur.getD i 0=env.getD i 0:=by
    rw[hcur,M.app_getD (by rw[List.length_take];omega),M.take_getD (by omega)]
   obtain⟨hw1,hw2,hw3,hw4⟩:=M.vok_iff.1 (hvoks i hin)
   have hp4:=pow8 (b:=(ds.getD i (M.nada,0)).2) (by omega) (by omega)
   rw[ei]
   have hvi:=hv4.ints
   simp(disch:=first|(simp only[push_cast];done)|omega) only[push_cast,hvi.iaddr,hvi.load,hcuri]
   rw[zA (by omega) (by omega)]
   refine hv4.st jT (by omega) fun w5 hv5 hs5 hz5=>?_
   refine zu fun w6 he6 _=>?_
   have hv6:=hv5.ext he6
   have hs16:Same S' w1 w6:=hs14.trans ((hs5.mono fun _ _ h=> .inr h).trans (Same.of_ext he6))
   have hs36:Same (fun b=>v.ownBlock=some b) w3 w6:=hs4.trans (hs5.trans (Same.of_ext he6))
   obtain⟨hb6,hd6⟩:=dcl w6 hs16
   have hvi6:=hv6.ints
   have hl6:i<(cur.set i (env.getD i 0+1)).length:=by rw[List.length_set];omega
   simp(disch:=first|(simp only[push_cast];done)|(rw[List.length_set];omega)|omega) only[push_cast,hvi6.iaddr,hvi6.load,hb6.ld0,hd6.iaddr,hd6.load1,true_and]
   rw[shl1 (y:=(ds.getD i (M.nada,0)).2) (by omega) (by omega)]
   rw[ZD0 (by omega)]
   simp only[push_cast,true_and,if_true]
   have hset:cur.set i (env.getD i 0+1)=kC0 env i (ds.length-i-1):=by
    rw[hcur];exact set_cut (by omega) (by omega)
   refine zh (fun a2=>?_) (fun a2=>?_)
   ·refine zh (fun a3=>by omega) (fun _=>?_)
    have eb:kC0 env i (ds.length-i-1)=M.bump env i:=by unfold M.bump kC0;rw[hlen]
    rw[hset,eb] at hv6
    have hrb:=M.rank_bump (ds:=ds) (env:=env) (i:=i) hlen hpos hin htop
    refine hC (k-(j+1)).toNat _ _ (by omega) ⟨j+1,_,rfl,rfl,by omega,by omega,hR _ _ _ hR4 ((hs5.trans (Same.of_ext he6)).mono fun b _ h=>hn1 b h),hv6,bump_ok henv hin a2,by rw[hrb,hrank],hs16⟩
   ·refine hv6.st jT (by omega) fun w7 hv7 hs7 hz7=>?_
    rw[show IntKind.i64.wrap ((i:Int)-1)=(i:Int)-1 from zA (by omega) (by omega)]
    refine hC1 i _ _ (by omega) ⟨_,rfl,by omega,?_,fun q h1 h2=>?_,hv7,hs36.trans hs7⟩
    ·rw[hset];exact bump_zero (by omega) (by omega)
    ·by_cases e:q=i
     ·subst e;omega
     ·exact htop q (by omega) h2
  ·exfalso
   have hn0:n=0:=by omega
   subst hn0
   have:=M.rank_top hlen hpos htop
   omega
 ·simp only[push_cast,Bool.not_false]
  exact hZ _ hz
theorem _root_.Go.Vc.Same.trans' {a b c:Nat} {w0 w1 w2 w3:World} (h1:Same (· =a) w0 w1) (h2:Same (· =b) w1 w2) (h3:Same (· =c) w2 w3):Same (fun x=>x=a∨x=b∨x=c) w0 w3:=
 (h1.mono fun _ _ h=> .inl h).trans ((h2.mono fun _ _ h=> .inr (.inl h)).trans (h3.mono fun _ _ h=> .inr (.inr h)))
theorem Zc {S T:Nat→Prop} {w0 w1 w2:World} (h1:Same S w0 w1) (h2:Same T w1 w2) (h:∀b,b<w0.heap.size→T b→S b):Same S w0 w2:=
 ⟨h2.os.trans h1.os,h2.tape.trans h1.tape,h2.output.trans h1.output,Nat.le_trans h1.size h2.size,fun b hb hn=>(h2.block b (Nat.lt_of_lt_of_le hb h1.size) fun e=>hn (h b hb e)).trans (h1.block b hb hn)⟩
theorem EnvAll_spec {dv:Value} {ds:List M.Dcl} {k:Int} (hd:DclsR F w dv ds) (hok:M.declOk ds=true) (hk0:0≤k) (hk:k<2^(M.bits ds).toNat)
  (hK:∀w' v env,Ext w w'→OwnI PP zg w' v env→(∀b,v.ownBlock=some b→w.heap.size≤b)→M.envOk ds env=true→M.rankE ds env=k→K (.tuple #[v,.bool true]) w'):vcall PP Za #[dv,.int .i64 k] w K:=by
 apply xm0;unfold Xn
 have hbk:=bits_all hok 0
 have hp:=pow8 (b:=M.bits ds) (by omega) hbk.2.2
 refine kk fun b1 w1 hb1 he1 hs1 h1=>?_
 replace h1:Blk w1 b1 [.int .i64 k] zc:=h1
 refine Yu jJ0 fun b2 w2 hb2 he2 hs2 h2=>?_
 replace h2:Blk w2 b2 [.slice none 0 0] zg:=h2
 refine Yu jI0 fun b3 w3 hb3 he3 hs3 h3=>?_
 replace h3:Blk w3 b3 [.bool false] xm:=h3
 refine zu fun w4 he4 _=>?_
 have e14:=(he2.trans he3).trans he4
 have hE4:=he1.trans e14
 have q1:=h1.ext e14
 simp(disch:=(simp only[push_cast];done)) only[push_cast,q1.ld0,true_and]
 refine zh (fun a=>by omega) (fun _=>?_)
 refine EnvMany_spec (hd.ext hE4) fun w5 he5=>?_
 have q5:=q1.ext he5
 have hmany:yA0 ds=2^(M.bits ds).toNat:=by unfold yA0;rw[if_pos hok]
 simp(disch:=(simp only[push_cast];done)) only[push_cast,q5.ld0,true_and,and_self]
 refine zh (fun a=>by omega) (fun _=>?_)
 apply Kg;unfold ZB
 obtain⟨da,dc,rfl,_⟩:=hd.shape
 rw[List.length_map] at*
 refine kk fun b6 w6 hb6 he6 hs6 h6=>?_
 replace h6:Blk w6 b6 [.slice da ds.length dc] zt:=h6
 simp only[push_cast]
 have hE6:=hE4.trans (he5.trans he6)
 refine⟨xy,⟨[.pointer (some ⟨b6,0,none⟩)]⟩,rfl,fun l D w7 RR hD hl he7 hs7 hD7 hst hr7 hround=>?_⟩
 have hE7:=hE6.trans he7
 have z1:=he1.size
 have z4:=he4.size
 have z5:=he5.size
 have z6:=he6.size
 have e37:Ext w3 w7:=he4.trans (he5.trans (he6.trans he7))
 have p1:Blk w7 b1 [.int .i64 k] zc:=q5.ext (he6.trans he7)
 have p2:Blk w7 b2 [.slice none 0 0] zg:=(h2.ext he3).ext e37
 have p3:Blk w7 b3 [.bool false] xm:=h3.ext e37
 have z37:=e37.size
 show vcall PP xy #[.func (.yield l) #[] #[],.pointer (some ⟨b6,0,none⟩)] w7 _
 let S:Nat→Prop:=fun b=>b=l∨b=b1∨b=b2∨b=b3
 have hRs:∀{st pe} {T:Nat→Prop} {w' w'':World},RR st pe w'→Same T w' w''→w7.heap.size≤w'.heap.size→¬T l→RR st pe w'':=fun h hT hz hn=>hst _ _ _ _ h (hT.block l (by omega) hn)
 have hDs:∀{T:Nat→Prop} {w' w'':World},w'.heap[D]?=some (.deferred (some []))→Same T w' w''→w7.heap.size≤w'.heap.size→¬T D→w''.heap[D]?=some (.deferred (some [])):=fun h hT hz hn=>(hT.block D (by omega) hn).trans h
 refine environments_1_spec (F:=fun b=>F b∧b<w.heap.size) (S:=S) (ds:=ds) (k:=k)
  (R:=fun j w'=>RR .ready none w'∧Blk w' b1 [.int .i64 (k-j)] zc∧Blk w' b2 [.slice none 0 0] zg∧Blk w' b3 [.bool false] xm∧w'.heap[D]?=some (.deferred (some []))∧Same S w7 w')
  (Z:=fun w'=>RR .done (some .ret) w'∧w'.heap[D]?=some (.deferred (some []))∧Same S w7 w'∧∃v env,Blk w' b2 [v] zg∧Blk w' b3 [.bool true] xm∧OwnI PP zg w' v env∧(∀b,v.ownBlock=some b→w7.heap.size≤b)∧M.envOk ds env=true∧M.rankE ds env=k)
  hok hk0 hk (h6.ext he7) ((hd.weaken fun b h1 h2=>⟨h1,h2⟩).ext hE7) (fun h=>by rcases h with h|h|h|h<;>omega) (fun b hb h=>by rcases h with h|h|h|h<;>omega) (fun b h=>by rcases h with h|h|h|h<;>omega)
  ⟨hr7,by rw[Int.sub_zero];exact p1,p2,p3,hD7,Same.refl _ _⟩ ?_ ?_ ?_
 ·rintro j w8 w9 ⟨g1,g2,g3,g4,g5,g6⟩ hs
  have z:=g6.size
  exact⟨hRs g1 hs z (by omega),g2.same hs (by omega),g3.same hs (by omega),g4.same hs (by omega),hDs g5 hs z (by omega),Zc g6 hs fun b hb h=>by omega⟩
 ·rintro j w8 v env K' hr0 hjk ⟨g1,g2,g3,g4,g5,g6⟩ hv hvn henv hrank hT hZ
  have z78:=g6.size
  refine hround [v] w8 K' rfl g1 ⟨g1,fun w9 hs9 hz9 hb9=>?_⟩
  have k1:=g2.same hs9 (by omega)
  have k2:=g3.same hs9 (by omega)
  have k3:=g4.same hs9 (by omega)
  have k5:=hDs g5 hs9 z78 (by omega)
  have k6:Same S w7 w9:=Zc g6 hs9 fun b _ h=> .inl h
  simp(disch:=(simp only[push_cast];done)) only[push_cast,k1.ld0]
  refine zh (fun a=>?_) (fun a=>?_)
  ·have hin:=(hv.same hs9 fun b hb e=>by have:=hvn b hb;omega).ints
   have hel:=(M.env_ok henv).2.1
   have hdl:=(M.decl_iff.1 hok).1
   refine Clone_Lint hin (by omega) fun w10 v2 he10 hv2 hn2=>?_
   have hc:v2.cells= #[v2]∧v2.oneCell'=true:=by
    obtain⟨a',c',e,_⟩:=hv2.ints.shape
    subst e;exact⟨rfl,rfl⟩
   have z10:=he10.size
   refine(k2.ext he10).st (i:=0) hc.1 hc.2 jK0 rfl fun w11 hw11 hz11 h11=>?_
   replace h11:Blk w11 b2 [v2] zg:=h11
   refine((k3.ext he10).same hw11 (by omega)).st (i:=0) rfl rfl ZZ0 rfl fun w12 hw12 hz12 h12=>?_
   replace h12:Blk w12 b3 [.bool true] xm:=h12
   have hs912:Same (fun b=>b=b2∨b=b3) w9 w12:=(Same.of_ext he10).trans ((hw11.mono fun _ _ h=> .inl h).trans (hw12.mono fun _ _ h=> .inr h))
   have k7:Same S w7 w12:=Zc k6 hs912 fun b _ h=> .inr (.inr h)
   refine⟨hRs hb9 hs912 (by omega) (by omega),fun w13 hs13 hz13 hr13=>hZ (by omega) w13 ⟨hr13,hDs (hDs k5 hs912 (by omega) (by omega)) hs13 (by omega) (by omega),Zc k7 hs13 fun b _ h=> .inl h,v2,env,(h11.same hw12 (by omega)).same hs13 (by omega),h12.same hs13 (by omega),?_,fun b hb=>by have:=hn2 b hb;omega,henv,by omega⟩⟩
   exact hv2.same (hw11.trans' hw12 hs13) fun b hb e=>by have:=hn2 b hb;omega
  ·try simp(disch:=(simp only[push_cast];done)) only[push_cast,k1.ld0]
   rw[zA (by omega) (by omega)]
   refine k1.st (i:=0) rfl rfl jT rfl fun w10 hw10 hz10 h10=>?_
   replace h10:Blk w10 b1 [.int .i64 (k-(j+1))] zc:=by rw[show k-(j+1)=k-j-1 by omega];exact h10
   refine⟨hRs hb9 hw10 (by omega) (by omega),fun w11 hs11 hz11 hr11=>hT (by omega) w11 ⟨hr11,h10.same hs11 (by omega),(k2.same hw10 (by omega)).same hs11 (by omega),(k3.same hw10 (by omega)).same hs11 (by omega),hDs (hDs k5 hw10 (by omega) (by omega)) hs11 (by omega) (by omega),?_⟩ ?_⟩
   ·exact Zc (Zc k6 hw10 fun b _ h=> .inr (.inl h)) hs11 fun b _ h=> .inl h
   ·exact(hs9.mono fun b _ h=> .inl h).trans ((hw10.mono fun b _ h=> .inr (.inl h)).trans (hs11.mono fun b _ h=> .inl h))
 ·rintro w8 ⟨g1,g2,g3,v,env,g4,g5,g6,g7,g8,g9⟩
  have z78:=g3.size
  refine⟨.done,some .ret,by decide,g1,fun w9 hs9 hz9=>?_⟩
  refine⟨hDs g2 hs9 z78 (by omega),fun w10 hs10 hz10=>?_⟩
  have hs:Same (fun b=>b=l∨b=D) w8 w10:=(hs9.mono fun _ _ h=> .inl h).trans (hs10.mono fun _ _ h=> .inr h)
  show vlv PP zg (.pointer (some ⟨b2,0,none⟩)) w10 _
  rw[lv0 (g4.same hs (by omega)) Y70,lv0 (g5.same hs (by omega)) Y60]
  refine hK _ v env (Ext.then (Ext.then hE7 g3 fun y hy=>by rcases hy with h|h|h|h<;>omega) hs fun y hy=>by omega) (g6.same hs fun b hb h=>by have:=g7 b hb;omega) (fun b hb=>by have:=g7 b hb;omega) g8 g9
end Go.Proofs.YtaekfnbnhjgboaaGreatDoor
end
section
namespace Go.M
def allI (n:Nat) (p:Nat→Bool):Bool:=(List.range n).all p
theorem allI_iff {n:Nat} {p:Nat→Bool}:allI n p=true↔ ∀k,k<n→p k=true:=by
 unfold allI;rw[List.all_eq_true];simp only[List.mem_range]
def Xf0 (m l:Int):Bool:=decide (l≠0∧ -m≤l∧l≤m)
def Uf (m:Int) (xs:List Int):Bool:=allI xs.length fun k=>Xf0 m (xs.getD k 0)&&(k==0||decide ((xs.getD (k-1) 0).natAbs<(xs.getD k 0).natAbs))
structure Cnf where
 many:Int
 list:List (List Int)
structure Sat where
 put:List Int
 why:List Int
 learned:List (List Int)
 code:Int
def Xq0 (c:Cnf):Bool:=decide (0≤c.many)&&decide (c.many≤700)&&decide (c.list.length≤2500)&&allI c.list.length fun k=>Uf c.many (c.list.getD k [])
def jv (put:List Int) (v:Nat):Nat:=match(List.range put.length).find? (fun i=>(put.getD i 0).natAbs==v) with|some i=>i+1 |none=>0
theorem UG {n i:Nat} {p:Nat→Bool} (hi:i<n) (hp:p i=true) (hl:∀j,j<i→p j=false):(List.range n).find? p=some i:=by
 rw[List.find?_eq_some_iff_append]
 refine⟨hp,List.range i,(List.range' (i+1) (n-(i+1))),?_,fun j hj=>by simp[hl j (List.mem_range.1 hj)]⟩
 rw[List.range_eq_range',List.range_eq_range',show n=i+(n-(i+1)+1) from by omega,←List.range'_append_1,List.range'_succ]
 simp
 omega
theorem qA0 {put:List Int} {v:Nat} (h:jv put v≠0):jv put v≤put.length∧(put.getD (jv put v-1) 0).natAbs=v:=by
 unfold jv at*
 cases hf:(List.range put.length).find? (fun i=>(put.getD i 0).natAbs==v) with
 |none=>rw[hf] at h;exact absurd rfl h
 |some i=>
  have h1:=List.find?_some hf
  have h2:=List.mem_range.1 (List.mem_of_find?_eq_some hf)
  simp only[Nat.add_sub_cancel]
  exact⟨h2,by simpa using h1⟩
def Xo (put:List Int):Prop:=(put.map Int.natAbs).Nodup
theorem ZE0 {put:List Int} {i:Nat} (hi:i<put.length):put.getD i 0∈put:=by
 rw[List.getD_eq_getElem?_getD,List.getElem?_eq_getElem hi];exact List.getElem_mem hi
theorem ji0 {put:List Int} (hd:Xo put) {i:Nat} (hi:i<put.length):jv put (put.getD i 0).natAbs=i+1:=by
 unfold jv
 rw[UG hi (by simp) ?_]
 intro j hj
 have hne:(put.map Int.natAbs)[j]'(by simp;omega)≠(put.map Int.natAbs)[i]'(by simp;omega):=List.pairwise_iff_getElem.1 hd j i _ _ hj
 have hj':j<put.length:=by omega
 simp only[List.getElem_map] at hne
 simp[List.getD_eq_getElem?_getD,hi,hj',hne]
end Go.M
namespace Go.M
theorem Up {put:List Int} {l:Int} (h:l∈put):jv put l.natAbs≠0:=by
 obtain⟨i,hi,rfl⟩:=List.getElem_of_mem h
 intro e
 unfold jv at e
 cases hf:(List.range put.length).find? (fun j=>(put.getD j 0).natAbs==(put[i]).natAbs) with
 |none=>
  rw[List.find?_eq_none] at hf
  have:=hf i (List.mem_range.2 hi)
  simp[List.getD_eq_getElem?_getD,hi] at this
 |some k=>rw[hf] at e;cases e
theorem KG {put:List Int} (hd:Xo put) {l:Int}:l∈put↔jv put l.natAbs≠0∧put.getD (jv put l.natAbs-1) 0=l:=by
 constructor
 ·intro h
  refine⟨Up h,?_⟩
  obtain⟨i,hi,rfl⟩:=List.getElem_of_mem h
  have:=ji0 hd hi
  simp only[List.getD_eq_getElem?_getD,List.getElem?_eq_getElem hi,Option.getD_some] at this⊢
  rw[this];simp[hi]
 ·rintro⟨h1,h2⟩
  rw[←h2]
  have:=(qA0 h1).1
  exact ZE0 (by omega)
theorem yP0 {put:List Int} (hd:Xo put) (n:Nat):Xo (put.take n):=by
 unfold Xo at*
 rw[List.map_take]
 exact hd.sublist (List.take_sublist _ _)
theorem xL0 {m:Int} {xs:List Int} (h:Uf m xs=true) {x:Int} (hx:x∈xs):x≠0∧ -m≤x∧x≤m:=by
 obtain⟨k,hk,rfl⟩:=List.getElem_of_mem hx
 have:=allI_iff.1 h k hk
 rw[Bool.and_eq_true] at this
 have h1:=this.1
 simp only[Xf0,decide_eq_true_eq,List.getD_eq_getElem?_getD,List.getElem?_eq_getElem hk,Option.getD_some] at h1
 exact h1
def atM (c:Cnf) (s:Sat) (k:Nat):List Int:=(c.list++s.learned).getD k []
def marksOk (many:Nat) (put:List Int):Prop:=Xo put∧∀x,x∈put→x≠0∧x.natAbs≤many
def badM (put:List Int) (k:Nat) (l:Int):Bool:=decide (l≠put.getD k 0)&&(decide (jv put l.natAbs=0)||(decide (l∈put)||decide ((k:Int)≤(jv put l.natAbs:Int)-1)))
def implM (put:List Int) (k:Nat) (cl:List Int):Bool:=decide (put.getD k 0∈cl)&& !((List.range cl.length).any fun i=>badM put k (cl.getD i 0))
def whyOk (c:Cnf) (s:Sat) (k:Nat):Prop:=s.why.getD k 0= -1∨(0≤s.why.getD k 0∧s.why.getD k 0<c.list.length+s.learned.length∧implM s.put k (atM c s (s.why.getD k 0).toNat)=true)
structure satOk (many:Nat) (c:Cnf) (s:Sat):Prop where
 cnf:Xq0 c=true
 few:s.learned.length≤300
 c0:0≤s.code
 c3:s.code≤3
 len:s.put.length=s.why.length
 lrn:∀x,x∈s.learned→Uf c.many x=true
 mks:marksOk many s.put
 why:∀k,k<s.why.length→whyOk c s k
end Go.M
namespace Go.M
theorem qD0 {put:List Int} (hd:Xo put) {x y:Int} (hx:x∈put) (hy:y∈put) (h:x.natAbs=y.natAbs):x=y:=by
 have h1:=(KG hd).1 hx
 have h2:=(KG hd).1 hy
 rw[h] at h1
 rw[←h1.2,h2.2]
theorem satOk.lit {many:Nat} {c:Cnf} {s:Sat} (h:satOk many c s) (hcm:c.many=many) {k:Nat} (hk:k<c.list.length+s.learned.length) {l:Int} (hl:l∈atM c s k):l≠0∧l.natAbs≤many:=by
 have hm':atM c s k∈c.list++s.learned:=by
  unfold atM;rw[List.getD_eq_getElem?_getD,List.getElem?_eq_getElem (by rw[List.length_append];omega)];exact List.getElem_mem _
 have hok:∀x,x∈c.list→Uf c.many x=true:=fun x hx=>by
  have hc:=h.cnf
  unfold Xq0 at hc
  rw[Bool.and_eq_true] at hc
  obtain⟨i,hi,rfl⟩:=List.getElem_of_mem hx
  have:=allI_iff.1 hc.2 i hi
  simpa[List.getD_eq_getElem?_getD,hi] using this
 have:=(List.mem_append.1 hm').elim (hok _) (h.lrn _)
 have:=xL0 this hl
 omega
end Go.M
namespace Go.M
def kz0 (put cl:List Int):Prop:=∀l,l∈cl→l∉put∧jv put l.natAbs≠0
def jZ0 (put cl:List Int) (x:Int):Prop:=(∀l,l∈cl→l∉put)∧(cl.filter fun l=>decide (jv put l.natAbs=0))=[x]
def FindP (put:List Int) (L:List (List Int)) (k0 u0 x0:Int) (r:Int×Int×Int):Prop:=
 (∃i,i<L.length∧r.1=k0+(i:Nat)∧kz0 put (L.getD i []))∨
  (r.1= -1∧(∀cl,cl∈L→¬kz0 put cl)∧((0≤u0∧r.2=(u0,x0))∨
   (u0<0∧((∃i,i<L.length∧r.2.1=k0+(i:Nat)∧jZ0 put (L.getD i []) r.2.2∧∀j,j<i→∀x,¬jZ0 put (L.getD j []) x)∨
    (r.2=(u0,x0)∧∀cl,cl∈L→∀x,¬jZ0 put cl x)))))
theorem FindP.skip {put cl:List Int} {L:List (List Int)} {k0 u0 x0:Int} {r:Int×Int×Int} (hc: ¬kz0 put cl) (hu:0≤u0∨ ∀x,¬jZ0 put cl x) (h:FindP put L (k0+1) u0 x0 r):FindP put (cl::L) k0 u0 x0 r:=by
 rcases h with⟨i,hi,h1,h2⟩|⟨h1,h2,h3⟩
 ·exact .inl ⟨i+1,by simpa using hi,by rw[h1];omega,by simpa using h2⟩
 ·refine .inr ⟨h1,fun c hc'=>(List.mem_cons.1 hc').elim (fun e=>e▸hc) (h2 c),?_⟩
  rcases h3 with h3|⟨h0,h3⟩
  ·exact .inl h3
  have hu:∀x,¬jZ0 put cl x:=hu.elim (fun h=>absurd h (by omega)) id
  rcases h3 with⟨i,hi,h4,h5,h6⟩|⟨h4,h5⟩
  ·refine .inr ⟨h0,.inl ⟨i+1,by simpa using hi,by rw[h4];omega,by simpa using h5,fun j hj x=>?_⟩⟩
   cases j with
   |zero=>simpa using hu x
   |succ j=>simpa using h6 j (by omega) x
  ·exact .inr ⟨h0,.inr ⟨h4,fun c hc'=>(List.mem_cons.1 hc').elim (fun e=>e▸hu) (h5 c)⟩⟩
end Go.M
namespace Go.M
theorem marksOk.zero {many:Nat} {put:List Int} (h:marksOk many put):(0:Int)∉put:=fun e=>(h.2 0 e).1 rfl
theorem marksOk.neg {many:Nat} {put:List Int} (h:marksOk many put) {l:Int} (h1:l∈put): -l∉put:=fun h2=>by
 have:=qD0 h.1 h1 h2 (by omega)
 have e:l=0:=by omega
 subst e;exact h.zero h1
theorem marksOk.take {many:Nat} {put:List Int} (h:marksOk many put) (n:Nat):marksOk many (put.take n):=⟨yP0 h.1 n,fun x hx=>h.2 x (List.mem_of_mem_take hx)⟩
theorem marksOk.len {many:Nat} {put:List Int} (h:marksOk many put):put.length≤many:=by
 have:=h.1.length_le_of_subset (l₂:=List.range' 1 many) fun x hx=>by
  obtain⟨y,hy,rfl⟩:=List.mem_map.1 hx
  have:=h.2 y hy
  rw[List.mem_range'_1];omega
 simpa using this
end Go.M
namespace Go.M
end Go.M
namespace Go.M
end Go.M
end
section
namespace Go.M
def litT (v:Nat→Bool) (l:Int):Bool:=if 0<l then v l.natAbs else !v l.natAbs
variable {many:Nat} {c:Cnf} {s:Sat} {v:Nat→Bool}
end Go.M
namespace Go.M
variable {many n:Nat} {c:Cnf} {s:Sat} {cl:List Int} {p:Int}
end Go.M
namespace Go.M
variable {many:Nat} {c:Cnf} {a b v:Nat→Bool}
end Go.M
end
section
namespace Go.M
theorem Xe0 {v:Nat→Bool} {vals:List Bool} {m:Int} (h0:m≠0) (h:v m.natAbs=vals.getD (m.natAbs-1) false):litT v m=litV vals m:=by
 unfold litT litV
 rw[h]
 by_cases hp:0<m
 ·rw[if_pos hp,if_pos hp,show m.natAbs-1=(m-1).toNat by omega]
 ·rw[if_neg hp,if_neg hp,show m.natAbs-1=(-m-1).toNat by omega]
def insV (v:Nat→Bool) (n:Nat):List Bool:=(List.range n).map fun i=>v (i+2)
theorem qT0 {α:Type} {a b:List α} {i:Nat} {d:α} (h:a<+:b) (hi:i<a.length):b.getD i d=a.getD i d:=by
 obtain⟨t,rfl⟩:=h
 rw[List.getD_eq_getElem?_getD,List.getElem?_append_left hi,←List.getD_eq_getElem?_getD]
theorem Zg0 {ins:List Bool} {gs:Gs} {i:Nat} (hi:i<ins.length):(valsG (true::ins) gs).getD (i+1) false=ins.getD i false:=by
 rw[qT0 (valsG_pre gs (true::ins)) (by simpa using hi),List.getD_cons_succ]
theorem jY0 {ins:List Bool} {gs:Gs}:(valsG (true::ins) gs).getD 0 false=true:=by
 rw[qT0 (valsG_pre gs (true::ins)) (by simp)];rfl
def Follows (v:Nat→Bool) (n:Nat) (gs:Gs):Prop:=∀k,k<1+n+gs.length→v (k+1)=(valsG (true::insV v n) gs).getD k false
theorem Follows.lit {v:Nat→Bool} {n:Nat} {gs:Gs} (h:Follows v n gs) {m:Int} (hm:has (1+n+gs.length) m):litT v m=litV (valsG (true::insV v n) gs) m:=by
 obtain⟨h0,h1,h2⟩:=hm
 refine Xe0 h0 ?_
 have:=h (m.natAbs-1) (by omega)
 rwa[show m.natAbs-1+1=m.natAbs by omega] at this
end Go.M
end
section
namespace Go.M
variable {ds:List Dcl} {env:List Int}
def numB:List Bool→Int
 |b::bs=>b2i b+2*numB bs
 |[]=>0
theorem num_bits:∀w:Fin 5,∀a:Fin 16,a.1<2^w.1→numB (bitsN w a)=(a.1:Int):=by decide+kernel
theorem num_val {w n:Int} (h:inS w n):numB (QB w n)=n:=by
 rcases h with⟨rfl,rfl|rfl⟩|h
 ·decide
 ·decide
 ·obtain⟨h1,h2,h3,h4⟩:=vok_iff.1 h
  have e:((2^w.toNat:Nat):Int)=2^w.toNat:=by simp
  have h16:2^w.toNat≤2^4:=Nat.pow_le_pow_right (by omega) (by omega)
  have:=num_bits ⟨w.toNat,by omega⟩ ⟨n.toNat,by omega⟩ (by show n.toNat<2^w.toNat;omega)
  unfold QB
  rw[if_neg (by omega)]
  simp only at this
  rw[this];omega
theorem Yw0 (ins:List Bool) (F:Gs):Rho (litV (valsG (true::ins) F)):=⟨fun m h=>lit_neg _ h,by
 unfold litV
 rw[if_pos (by decide)]
 exact jY0⟩
theorem ins_lit (F:Gs):Ins (litV (valsG (true::insM ds env) F)) ds env:=fun i hi=>by
 unfold litV
 rw[if_pos (by omega),show((2:Int)+i-1).toNat=i+1 by omega]
 exact Zg0 hi
def nIn (ds:List Dcl):Nat:=(bits ds).toNat
theorem nIn_eq (h:declOk ds=true):(nIn ds:Int)=bits ds∧nIn ds≤8:=by
 have:=bits_pos' (dpos h)
 have:=(decl_iff.1 h).2.2
 unfold nIn;omega
theorem insM_n (he:envOk ds env=true):(insM ds env).length=nIn ds:=by
 have hd:=(env_ok he).1
 have:=insM_len (env_ok he).2.1 (dpos hd)
 have:=(nIn_eq hd).1
 omega
def Zx0 (ds:List Dcl) (ts:List Tm):Option (Gs×List (List Int)):=(seqB (ts.map (termB ds))).run (nIn ds) []
def blastB (ds:List Dcl) (t:Tm):Option (Gs×List Int):=(termB ds t).run (nIn ds) []
theorem Zw0 (t:Tm):Zx0 ds [t]=(blastB ds t).map fun r=>(r.1,[r.2]):=by
 unfold Zx0 blastB
 show((termB ds t).bind fun r=>(Bd.ret []:Bd (List (List Int))).map (r:: ·)).run _ _=_
 rw[Bd.run_bind]
 cases (termB ds t).run (nIn ds) [] with
 |none=>rfl
 |some r=>rfl
structure ListSays (ds:List Dcl) (ts:List Tm) (gs:Gs) (rs:List (List Int)):Prop where
 net:NetG (nIn ds) gs
 many:rs.length=ts.length
 has:∀r,r∈rs→hasL (1+nIn ds+gs.length) r
 len:∀i,i<ts.length→(rs.getD i []).length=lenS (sortM ds (ts.getD i default))
 says:∀env,envOk ds env=true→rs.map (fun r=>r.map (litV (valsG (true::insM ds env) gs)))=ts.map fun u=>QB (sortM ds u) (evalM ds env u)
theorem nilG (n:Nat):NetG n []:=⟨by simp,fun k h=>absurd h (by simp),List.nodup_nil⟩
theorem list_says {ts:List Tm} {gs:Gs} {rs:List (List Int)} (hd:declOk ds=true) (hs:∀t,t∈ts→sortM ds t≠ -1) (h:Zx0 ds ts=some (gs,rs)):ListSays ds ts gs rs:=by
 have key:∀env,envOk ds env=true→NetG (nIn ds) gs∧(∀r,r∈rs→hasL (1+nIn ds+gs.length) r)∧rs.map (fun r=>r.map (litV (valsG (true::insM ds env) gs)))=ts.map fun u=>QB (sortM ds u) (evalM ds env u):=fun env he=>by
  have hn:=nIn_eq hd
  refine Says.sound (insM_n he) (nilG _) h (List.prefix_refl _) (Q:=fun k rs=>(∀r,r∈rs→hasL k r)∧rs.map (fun r=>r.map (litV (valsG (true::insM ds env) gs)))=ts.map fun u=>QB (sortM ds u) (evalM ds env u)) ?_
  refine seq_sat (k0:=1+nIn ds) (by simp) (fun t ht {k Q} hk hq=>?_) (fun k' rs _ h1 h2=>⟨h1,h2⟩)
  exact term_sat (Yw0 _ _) he (ins_lit _) t (hs t ht) (by omega) hq
 obtain⟨h1,h2⟩:=seq_reach (Bd.reach_of_run h)
 have hz:=key _ (zeroE_ok hd)
 exact⟨hz.1,h1,hz.2.1,fun i hi=>term_len hd _ (hs _ (getD_mem hi _)) (h2 i hi),fun env he=>(key env he).2.2⟩
theorem jy0 {t:Tm} {gs:Gs} {r:List Int} (h:blastB ds t=some (gs,r)):Zx0 ds [t]=some (gs,[r]):=by rw[Zw0,h];rfl
theorem blast_says {t:Tm} {gs:Gs} {r:List Int} (hd:declOk ds=true) (hs:sortM ds t≠ -1) (h:blastB ds t=some (gs,r)):
  NetG (nIn ds) gs∧hasL (1+nIn ds+gs.length) r∧r.length=lenS (sortM ds t)∧∀env,envOk ds env=true→r.map (litV (valsG (true::insM ds env) gs))=QB (sortM ds t) (evalM ds env t):=by
 have:=list_says hd (ts:=[t]) (fun u hu=>by rw[List.mem_singleton.1 hu];exact hs) (jy0 h)
 refine⟨this.net,this.has r (by simp),this.len 0 (by simp),fun env he=>?_⟩
 have:=this.says env he
 simpa using this
theorem blast_num {t:Tm} {gs:Gs} {r:List Int} (hs:sortM ds t≠ -1) (h:blastB ds t=some (gs,r)) (he:envOk ds env=true):numB (r.map (litV (valsG (true::insM ds env) gs)))=evalM ds env t:=by
 rw[(blast_says (env_ok he).1 hs h).2.2.2 env he]
 exact num_val (eval_in he t hs)
section
variable {ts:List Tm} {gs:Gs} {rs:List (List Int)}
end
end Go.M
end
section
namespace Go.Proofs.YtaekfnbnhjgboaaGreatDoor
open Go Go.Vc Go.Proofs
variable {w:World} {K:Value→World→Prop} {D F F' G Fx Fy:Nat→Prop} {n:Nat} {gs:M.Gs} {v xv yv dv tv:Value} {xs ys:List Int} {bs:List Bool} {ds:List M.Dcl} {t:M.Tm} {ar ab:Addr}
theorem wpInts_spec {va vb:Value} {a b:List Int} (ha:Ints F w va a) (hb:Ints F' w vb b) (hK:∀w',Ext w w'→K (.bool (decide (a=b))) w'):vcall PP Xb #[va,vb] w K:=by
 apply xa0;unfold Vy
 have hla:a.length≤9223372036854775807:=by obtain⟨_,_,_,h1,h2,_⟩:=ha.shape;simp at h1;omega
 simp(disch:=(simp only[push_cast];done)) only[push_cast,ha.len,hb.len]
 refine zh (fun h=>?_) (fun h=>?_)
 ·have:=hK w (Same.refl _ _)
  rwa[decide_eq_false (fun e=>h (by rw[e]))] at this
 refine vloop_up a.length (fun i u w'=>u=[.int .i64 i]∧Ext w w'∧∀j,j<i→a.getD j 0=b.getD j 0) ⟨rfl,Same.refl _ _,by omega⟩ ?_
 rintro i _ _ w1 C hi ⟨rfl,he,hp⟩ hC
 have ha1:=ha.ext he
 have hb1:=hb.ext he
 simp(disch:=(simp only[push_cast];done)) only[push_cast,ha1.len]
 refine zh (fun h2=>?_) (fun h2=>?_)
 ·refine zu fun w2 he2 _=>?_
  have ha2:=ha1.ext he2
  have hb2:=hb1.ext he2
  simp(disch:=first|(simp only[push_cast];done)|omega) only[push_cast,ha2.iaddr,ha2.load,hb2.iaddr,hb2.load,true_and]
  refine zh (fun h3=>?_) (fun h3=>?_)
  ·have:=hK w2 (he.trans he2)
   rwa[decide_eq_false (fun e=>h3 (by rw[e]))] at this
  ·simp(disch:=omega) only[push_cast,zA]
   refine hC (by omega) _ _ ⟨rfl,he.trans he2,fun j hj=>?_⟩
   by_cases e:j=i
   ·subst e;simpa using h3
   ·exact hp j (by omega)
 ·have:=hK w1 he
  rwa[decide_eq_true (List.ext_getElem (by omega) fun j h1 h2=>by have:=hp j (by omega);simpa[List.getD_eq_getElem?_getD,h1,h2] using this)] at this
theorem DrawBlast_spec {v:Value} {xs:List Nat} (hx:Bytes F w v xs) (hF:∀b,F b→b<w.heap.size)
  (hK:∀w' dv tv ds t,Ext w w'→DclsR (fun x=>w.heap.size≤x) w' dv ds→Dsm ds→TermR (fun x=>w.heap.size≤x) w' tv t→K (.tuple #[dv,tv]) w'):vcall PP kN #[v] w K:=by
 apply U0;unfold Xt
 refine zC yH fun b1 w1 hb1 he1 hs1 h1=>?_
 have hz1:=he1.size
 refine l12Open_spec (hx.ext he1) (fun b hb=>by have:=hF b hb;omega) fun w2 b v' ys he2 hR2 hb2=>?_
 have hz2:=he2.size
 have lb:=hR2.blk.lt
 refine l2Draw_spec (F:=fun x=>F x∧x<w2.heap.size) ⟨hR2.blk,⟨hR2.bytes.1.weaken fun x hx hl=>⟨hx,hl⟩,hR2.bytes.2⟩,fun h=>hR2.apart h.1,hR2.few⟩ (fun x hx=>hx.2) (by omega) fun w3 p3 dv tv ds t hs3 hR3 hp3 hd3 hok ht3=>?_
 have hz3:=hs3.size
 have q3:=(h1.ext he2).same hs3 (by omega)
 obtain⟨cs,rfl,hcs3⟩:=ht3.cells
 simp only[push_cast]
 refine stTerm q3 rfl hcs3 fun w8 hw8 hz8 h8=>?_
 rw[h8.lv (by rw[xt hcs3];exact zH)]
 have hX:Ext w w8:=by
  have hE:Same (fun x=>w.heap.size≤x) w w8:=(((Same.of_ext he1).trans (Same.of_ext he2)).trans (hs3.mono fun x _ hx=>by subst hx;omega)).trans (hw8.mono fun x _ hx=>by subst hx;omega)
  exact hE.mono fun x hx hh=>by omega
 exact hK w8 dv _ ds t hX ((hd3.same hw8 fun x hx _ e=>by omega).weaken fun x hx _=>by omega) hok ((hcs3.same hw8 fun x hx _ e=>by omega).term.weaken fun x hx _=>by omega)
theorem Errs.ext0 {w':World} (h:Errs (fun _=>False) w ar ab) (he:Ext w w'):Errs (fun _=>False) w' ar ab:=⟨h.room.same he id,h.bits.same he id,id,id⟩
theorem NetLit_spec {m:Int} (hv:Bools F w v bs) (hl:bs.length≤1000) (hm:M.has bs.length m) (hK:K (.bool (M.litV bs m)) w):vcall PP jI #[v,.int .i64 m] w K:=by
 apply xl0;unfold VK
 obtain⟨h0,h1,h2⟩:=hm
 simp(disch:=first|(simp only[push_cast];done)|omega) only[push_cast,hv.len]
 refine sigof_spec (by omega) ?_
 rw[decide_eq_true ⟨h0,h1,h2⟩]
 simp only[push_cast]
 refine node_spec (by omega) ?_
 have ha:M.absI m=(m.natAbs:Int):=by unfold M.absI;split<;>omega
 simp(disch:=omega) only[push_cast,zA,ha]
 rw[show((m.natAbs:Int)-1)=((m.natAbs-1:Nat):Int) by omega]
 rw[hv.iaddr YI0 (by omega) (by omega),Int.toNat_natCast,hv.load Y60 (by omega)]
 simp only[push_cast]
 unfold M.litV at hK
 by_cases c:0<m
 ·rw[if_pos c,show(m-1).toNat=m.natAbs-1 by omega] at hK
  rw[decide_eq_true (show(m:Int)>0 from c)]
  simpa using hK
 ·rw[if_neg c,show(-m-1).toNat=m.natAbs-1 by omega] at hK
  rw[decide_eq_false (show¬(m:Int)>0 from c)]
  simpa using hK
def numN:List Bool→Nat
 |b::bs=>b.toNat+2*numN bs
 |[]=>0
theorem num_nat:∀bs:List Bool,M.numB bs=(numN bs:Int)
 |[]=>rfl
 |b::bs=>by
  have:=num_nat bs
  simp only[M.numB,numN,this,M.b2i]
  cases b<;>simp
theorem num_snoc:∀(bs:List Bool) (b:Bool),numN (bs++[b])=numN bs+2^bs.length*b.toNat
 |[],b=>by cases b<;>rfl
 |c::bs,b=>by
  rw[List.cons_append]
  simp only[numN,num_snoc bs b,List.length_cons,Nat.pow_succ]
  cases b<;>simp<;>omega
theorem num_lt:∀bs:List Bool,numN bs<2^bs.length
 |[]=>by decide
 |b::bs=>by
  have:=num_lt bs
  have hb:b.toNat≤1:=Bool.toNat_le b
  simp only[numN,List.length_cons,Nat.pow_succ]
  omega
theorem BitsVal_spec (hv:Bools F w v bs) (hx:Ints G w xv xs) (hl:bs.length≤1000) (h4:xs.length≤4) (hh:∀x,x∈xs→M.has bs.length x) (hK:K (.int .i64 (M.numB (xs.map (M.litV bs)))) w):vcall PP Yr #[v,xv] w K:=by
 apply zZ0;unfold JT
 simp(disch:=first|(simp only[push_cast];done)|omega) only[push_cast,hx.len]
 refine zh (fun c=>absurd c (by omega)) (fun _=>?_)
 try simp(disch:=first|(simp only[push_cast];done)|omega) only[push_cast,hx.len]
 refine vloop_up xs.length (fun i u w'=>u=[.int .i64 (numN ((xs.take i).map (M.litV bs)):Nat),.int .i64 i]∧w'=w) ⟨rfl,rfl⟩ ?_
 rintro i _ g w1 C hi ⟨rfl,rfl⟩ hC
 simp only[push_cast]
 refine zh (fun a=>?_) (fun a=>?_)
 ·have hi':i<xs.length:=by omega
  simp(disch:=first|(simp only[push_cast];done)|omega) only[push_cast,hx.iaddr,hx.load]
  refine NetLit_spec hv hl (hh _ (M.getD_mem hi' _)) ?_
  have htk:(xs.take (i+1)).map (M.litV bs)=(xs.take i).map (M.litV bs)++[M.litV bs (xs.getD i 0)]:=by rw[M.take_add hi' 0,List.map_append];rfl
  have hlen:((xs.take i).map (M.litV bs)).length=i:=by rw[List.length_map,List.length_take];omega
  have hsn:=num_snoc ((xs.take i).map (M.litV bs)) (M.litV bs (xs.getD i 0))
  have hlt:=num_lt ((xs.take i).map (M.litV bs))
  rw[←htk,hlen] at hsn
  rw[hlen] at hlt
  generalize hA:numN ((xs.take i).map (M.litV bs))=A at hsn hlt⊢
  have h16:2^i≤2^3:=Nat.pow_le_pow_right (by omega) (by omega)
  refine yx (fun hb=>?_) (fun hb=>?_)
  ·rw[hb] at hsn
   have hsh:∀(K:Value→World→Prop),zo PP .shl zc true (.int .i64 1) (.int .i64 i) w1 K=K (.int .i64 ((2^i:Nat):Int)) w1:=fun K=>by
    rw[U5 (by omega)]
    rcases(by omega:i=0∨i=1∨i=2∨i=3) with rfl|rfl|rfl|rfl<;>rfl
   rw[hsh,vbin_orI (by omega) (by omega)]
   have hor:A|||2^i=A+2^i:=by
    have:=Nat.two_pow_add_eq_or_of_lt hlt 1
    rw[Nat.mul_one] at this
    rw[Nat.or_comm,←this,Nat.add_comm]
   simp(disch:=omega) only[push_cast,zA]
   refine hC hi' _ _ ⟨?_,rfl⟩
   rw[hsn,hor]
   simp
  ·rw[hb] at hsn
   simp(disch:=omega) only[push_cast,zA]
   refine hC hi' _ _ ⟨?_,rfl⟩
   rw[hsn]
   simp
 ·have hi':i=xs.length:=by omega
  subst hi'
  rw[List.take_length]
  rw[num_nat] at hK
  exact hK
end Go.Proofs.YtaekfnbnhjgboaaGreatDoor
end
section
namespace Go.Proofs.YtaekfnbnhjgboaaGreatDoor
open Go Go.Vc Go.Proofs
variable {w:World} {K:Value→World→Prop} {D F F' G Fx Fy:Nat→Prop} {n:Nat} {gs:M.Gs} {v xv yv dv tv gv:Value} {xs ys:List Int} {bs:List Bool} {ds:List M.Dcl} {t:M.Tm} {ar ab:Addr}
theorem term_new {cs:List Value} {K:Value→World→Prop} (hc:TmR F w cs t) (hK:∀w' b,w.heap.size≤b→Ext w w'→Blk w' b cs z7→TmR F w' cs t→K (.pointer (some ⟨b,0,none⟩)) w'):
  zZ PP z7 w fun t4 w1=>zp PP z7 t4 (.agg ⟨cs⟩) w1 fun _ w2=>K t4 w2:=by
 refine zC yH fun b w1 hb1 he1 hs1 h1=>?_
 have hc1:TmR (fun x=>F x∧x<w.heap.size) w1 cs t:=(hc.weaken fun x hx hl=>⟨hx,hl⟩).ext he1
 refine stTerm h1 rfl hc1 fun w2 hw2 hz2 h2=>?_
 exact hK w2 b (by omega) (Ext.then he1 hw2 fun y hy=>by subst hy;omega) h2 ((hc1.same hw2 fun x hx _ e=>by have:=hx.2;omega).weaken fun x hx _=>hx.1)
theorem net_new {a:Int} {gs:M.Gs} {K:Value→World→Prop} (hg:OwnG w gv gs) (hK:∀w' b,w.heap.size≤b→Ext w w'→Blk w' b [.int .i64 a,gv] zf→OwnG w' gv gs→K (.pointer (some ⟨b,0,none⟩)) w'):
  zZ PP zf w fun t4 w1=>zp PP zf t4 (.agg ⟨[.int .i64 a,gv]⟩) w1 fun _ w2=>K t4 w2:=by
 obtain⟨o,c,rfl,_⟩:=(Own.sl hg).shape
 refine zC xH fun b w1 hb1 he1 hs1 h1=>?_
 refine h1.stAgg (cs':=[.int .i64 a,.slice o (gs.map yu).length c]) rfl y4 net_one fun w2 hw2 hz2 h2=>?_
 have he2:Ext w w2:=Ext.then he1 hw2 fun y hy=>by subst hy;omega
 exact hK w2 b (by omega) he2 h2 (Own.ext hg he2)
theorem one_bool {c:Bool} {K:Value→World→Prop} (hK:∀w' b,b=w.heap.size→Ext w w'→OwnB PP ym w' (.slice (some ⟨b,0,none⟩) 1 1) [c]→K (.slice (some ⟨b,0,none⟩) 1 1) w'):vbuildS PP ym 1 [(0,.bool c)] w K:=
 QA (y:=[.bool c]) Yp0 ZZ0 jI0 rfl rfl (by decide) fun b w' hb he _ hB=>hK w' b hb he (Blk.own1 (P:=PP) (t:=ym) (cs:=[.bool c]) (by rw[ZN0];exact hB) (Nat.zero_le _) rfl rfl (by omega))
end Go.Proofs.YtaekfnbnhjgboaaGreatDoor
end
section
namespace Go.Proofs.YtaekfnbnhjgboaaGreatDoor
open Go Go.Vc Go.Proofs
variable {w:World} {K:Value→World→Prop} {D F F' G Fx Fy:Nat→Prop} {n m:Nat} {gs hs:M.Gs} {v xv yv dv tv gv' hv':Value} {xs ys env:List Int} {bs ins:List Bool} {ds:List M.Dcl} {t:M.Tm}
theorem qp0 {c:Bool} (g h:M.Gt):zo PP .neq zl c (gv g) (gv h) w K=K (.bool (!decide (g=h))) w:=by
 have h1:(Op.equal zl (gv g) (gv h)).run PP w= .ok (decide (g=h)) w:=eqGate g h w
 refine yA (xI0 (.inr rfl) c _ _) ?_
 have e:∀xs ys:Array Value,binOp .neq zl (.agg xs) (.agg ys)=(do let b ←Op.equal zl (.agg xs) (.agg ys);pure (Value.bool (!b))):=fun _ _=>rfl
 unfold gv at h1⊢
 rw[e,Sem.run_bind,h1];rfl
theorem UE {i:Nat} (hi:i<gs.length):(gs.map yu).getD i []=yu gs[i]:=by simp[List.getD_eq_getElem?_getD,hi]
theorem EqualG {v v':Value} (hx:GatesR F w v gs) (hy:GatesR F' w v' hs) (hl:gs.length≤1000000) (hK:∀w',Ext w w'→K (.bool (decide (gs=hs))) w'):vcall PP yT #[v,v'] w K:=by
 apply jm;unfold xL
 rw[Sl.len hx xO,Sl.len hy xO,ye0,ye0]
 simp only[push_cast]
 refine zh (fun hne=>?_) (fun heq=>?_)
 ·have:=hK w (Same.refl _ _)
  rwa[decide_eq_false (fun e=>hne (by rw[e]))] at this
 ·rw[Sl.len hx xO,ye0]
  refine vloop_up gs.length (fun i u w'=>u=[.int .i64 i]∧Ext w w'∧∀j (h1:j<gs.length) (h2:j<hs.length),j<i→gs[j]=hs[j]) ⟨rfl,Same.refl _ _,by omega⟩ ?_
  rintro i _ g w1 C hi ⟨rfl,he,hp⟩ hC
  simp only[push_cast]
  refine zh (fun hlt=>zu fun w2 he2 _=>?_) (fun hge=>?_)
  ·have hx1:GatesR F w2 v gs:=Sl.ext hx (he.trans he2)
   have hy1:GatesR F' w2 v' hs:=Sl.ext hy (he.trans he2)
   have h1:i<gs.length:=by omega
   have h2:i<hs.length:=by omega
   rw[Sl.iaddr hx1 kC (by omega) (by rw[ye0];omega),Int.toNat_natCast]
   refine⟨rfl,?_⟩
   rw[Sl.ldAgg hx1 xW (by rw[ye0];exact h1),UE h1]
   refine⟨rfl,?_⟩
   rw[Sl.iaddr hy1 kC (by omega) (by rw[ye0];omega),Int.toNat_natCast]
   refine⟨rfl,?_⟩
   rw[Sl.ldAgg hy1 xW (by rw[ye0];exact h2),UE h2]
   refine⟨rfl,?_⟩
   rw[show(Value.agg ⟨yu gs[i]⟩)=gv gs[i] from rfl,show(Value.agg ⟨yu hs[i]⟩)=gv hs[i] from rfl,qp0]
   refine⟨rfl,?_⟩
   refine yx (fun hb=>?_) (fun hb=>?_)
   ·have:=hK w2 (he.trans he2)
    have hne:gs[i]≠hs[i]:=by simpa using hb
    rwa[decide_eq_false (fun e=>hne (by subst e;rfl))] at this
   ·simp(disch:=omega) only[push_cast,zA]
    refine hC (by omega) _ _ ⟨by simp,he.trans he2,fun j a1 a2 hj=>?_⟩
    by_cases h:j=i
    ·subst h;simpa using hb
    ·exact hp j a1 a2 (by omega)
  ·have:=hK w1 he
   rwa[decide_eq_true (List.ext_getElem (by omega) fun j h1 h2=>hp j h1 h2 (by omega))] at this
theorem Wu {a b:Int} {x y:Value} (hx:GatesR F w x gs) (hy:GatesR F' w y hs) (hl:gs.length≤1000000) (hK:∀w',Ext w w'→K (.bool (decide (a=b∧gs=hs))) w'):
  vcall PP qr #[.agg ⟨[.int .i64 a,x]⟩,.agg ⟨[.int .i64 b,y]⟩] w K:=by
 apply zX0;unfold JR
 obtain⟨o,c,rfl,_⟩:=hx.shape
 obtain⟨o2,c2,rfl,_⟩:=hy.shape
 refine zy fun b1 w1 hb1 he1 hz1 hB1=>?_
 refine zy fun b2 w2 hb2 he2 hz2 hB2=>?_
 have hB12:=hB1.ext he2
 simp(disch:=first|(simp only[push_cast];done)|omega) only[push_cast,hB12.ld0,hB2.ld0,hB12.ld1,hB2.ld1]
 refine zh (fun h=>?_) (fun h=>?_)
 ·refine EqualG (Sl.ext hx (he1.trans he2)) (Sl.ext hy (he1.trans he2)) hl fun w3 he3=>?_
  have:=hK w3 ((he1.trans he2).trans he3)
  simpa only[h,true_and] using this
 ·have:=hK w2 (he1.trans he2)
  rwa[decide_eq_false (fun e=>h e.1)] at this
theorem yh0 {x:Value} (hx:GatesR F w x gs) (hg:M.NetG n gs) (hn:n≤8) (hK:∀w',Ext w w'→K (.bool true) w'):vcall PP ZV #[.agg ⟨[.int .i64 n,x]⟩] w K:=by
 apply qd0;unfold WV
 obtain⟨o,c,rfl,_⟩:=hx.shape
 refine zy fun b1 w1 hb1 he1 hz1 hB1=>?_
 rw[hB1.ldAgg (t:=zf) y4]
 refine readNet_spec (Sl.ext hx he1) hg hn fun w2 bc v' mb hc he2 hn2=>?_
 simp only[push_cast]
 exact hK w2 (he1.trans he2)
theorem gate_hasV {k:Nat} (hg:M.NetG n gs) (hk:k<gs.length):M.has (1+n+k) gs[k].a∧M.has (1+n+k) gs[k].b:=by
 obtain⟨h1,h2,h3,h4⟩:=hg.gate k hk
 exact⟨M.has_abs.2 ⟨by omega,by omega⟩,M.has_abs.2 ⟨by omega,by omega⟩⟩
theorem NetVals_spec {x y:Value} (hx:GatesR F w x gs) (hg:M.NetG n gs) (hn:n≤8) (hy:Bools F' w y ins) (hi:ins.length=n)
  (hK:∀w' r,Ext w w'→OwnB PP ym w' r (M.valsG (true::ins) gs)→(∀b,r.ownBlock=some b→w.heap.size≤b)→K r w'):vcall PP Yq #[.agg ⟨[.int .i64 n,x]⟩,y] w K:=by
 apply zW0;unfold JQ
 obtain⟨o,c,hv,_⟩:=hx.shape
 generalize (gs.map yu).length=l at hv
 subst hv
 refine zy fun b1 w1 hb1 he1 hz1 hB1=>?_
 have hz:=he1.size
 refine zU (fun u w'=>u=[]∧Ext w1 w') (fun J hJ=>?_) ?_
 ·rw[hB1.ldAgg (t:=zf) y4]
  refine yh0 (Sl.ext hx he1) hg hn fun w2 he2=>?_
  have hB2:=hB1.ext he2
  simp(disch:=first|(simp only[push_cast];done)|omega) only[push_cast,(hy.ext (he1.trans he2)).len,hB2.ld0,Bool.not_true]
  refine zh (fun h=>absurd hi (by omega)) (fun _=>hJ _ _ ⟨rfl,he2⟩)
 rintro _ _ w2 ⟨rfl,he2⟩
 have hB2:=hB1.ext he2
 refine one_bool fun w3 b3 hb3 he3 ho3=>?_
 have e3:=(he1.trans he2).trans he3
 refine OwnV.app (us:=ins.map fun b=> .bool b) ho3 qC0 (hy.ext e3) (fun u hu=>by obtain⟨b,_,rfl⟩:=List.mem_map.1 hu;rfl) (by simp;omega) (by simp;omega) fun v4 w4 ho4 hs4 hn4=>?_
 have hz2:=he2.size;have hz3:=he3.size
 have hn4':∀b,v4.ownBlock=some b→w.heap.size≤b:=fun b hb=>by
  rcases hn4 b hb with h|h
  ·have:b=b3:=(Option.some.inj h).symm
   omega
  ·omega
 have e4:Ext w w4:=Ext.then e3 hs4 fun b hb=>by
  have:b=b3:=(Option.some.inj hb).symm
  omega
 have ho4':OwnB PP ym w4 v4 (true::ins):=ho4
 have hs4z:=hs4.size
 have hB4:=(hB2.ext he3).same hs4 fun e=>by
  have h1:b1=b3:=(Option.some.inj e).symm
  have h2:=hB1.lt
  omega
 simp(disch:=first|(simp only[push_cast];done)|omega) only[push_cast,hB4.ld1]
 have hx4:GatesR F w4 _ gs:=Sl.ext hx e4
 rw[Sl.len hx4 xO,ye0]
 have hfew:=hg.few
 refine vloop_up gs.length (fun i u w'=> ∃r,u=[r,.int .i64 i]∧Ext w w'∧OwnB PP ym w' r (M.valsG (true::ins) (gs.take i))∧∀b,r.ownBlock=some b→w.heap.size≤b) ⟨v4,rfl,e4,ho4',hn4'⟩ ?_
 rintro i _ _ w5 C hi5 ⟨r,rfl,e5,ho5,hn5⟩ hC
 simp only[push_cast]
 refine zh (fun a=>?_) (fun a=>?_)
 ·have hil:i<gs.length:=by omega
  have hx5:GatesR F w5 _ gs:=Sl.ext hx e5
  rw[Sl.iaddr hx5 kC (by omega) (by rw[ye0];omega),Int.toNat_natCast,Sl.ldAgg hx5 xW (by rw[ye0];exact hil),UE hil]
  have hh:=gate_hasV hg hil
  have htk:gs.take (i+1)=gs.take i++[gs[i]]:=by rw[List.take_add_one,List.getElem?_eq_getElem hil];rfl
  have hvs:M.valsG (true::ins) (gs.take (i+1))=M.valsG (true::ins) (gs.take i)++[M.gateV (M.valsG (true::ins) (gs.take i)) gs[i]]:=by rw[htk,M.valsG_app];rfl
  have hlen:(M.valsG (true::ins) (gs.take i)).length=1+n+i:=by rw[M.valsG_len,List.length_cons,List.length_take];omega
  generalize M.valsG (true::ins) (gs.take i)=vs at ho5 hvs hlen
  generalize gs[i]=g at hh hvs
  rw[←hlen] at hh
  refine zC ZN fun b6 w6 hb6 he6 hz6 hB6=>?_
  refine hB6.stAgg (cs':=yu g) rfl xW (gone [g] _ (by simp)) fun w7 hs7 hz7 hB7=>?_
  have e57:Ext w5 w7:=Ext.then he6 hs7 fun y hy=>by subst hy;omega
  refine zu fun w8 he8 _=>?_
  have e58:=e57.trans he8
  have hB8:=hB7.ext he8
  have ho8:=ho5.ext e58
  simp(disch:=first|(simp only[push_cast];done)|omega) only[push_cast,hB8.ld1,hB8.ld2,true_and,and_self]
  refine NetLit_spec ho8.bools (by omega) hh.1 ?_
  simp(disch:=first|(simp only[push_cast];done)|omega) only[push_cast,hB8.ld2,true_and,and_self]
  refine NetLit_spec ho8.bools (by omega) hh.2 ?_
  simp(disch:=first|(simp only[push_cast];done)|omega) only[push_cast,hB8.ld0]
  have fin:∀{w9:World} {b9:Nat} {x:Bool},x=M.gateV vs g→Ext w8 w9→b9=w8.heap.size→OwnB PP ym w9 (.slice (some ⟨b9,0,none⟩) 1 1) [x]→vbi PP .append [ym,ym] ym [r,.slice (some ⟨b9,0,none⟩) 1 1] w9 fun t45 w_32=>C [t45,.int .i64 ((i+1:Nat):Int)] w_32:=fun{w9 b9 x} hx he9 hb9 ho9=>by
   refine OwnV.app (us:=[.bool x]) (ho8.ext he9) qC0 ho9.bools (by simp[Value.oneCell']) (by simp;omega) (by simp;omega) fun v10 w10 ho10 hs10 hn10=>?_
   have z8:=e58.size;have z9:=he9.size;have z5:=e5.size
   refine hC hil _ _ ⟨v10,rfl,Ext.then (e5.trans (e58.trans he9)) hs10 fun b hb=>hn5 b hb,?_,fun b hb=>?_⟩
   ·have:OwnB PP ym w10 v10 (vs++[x]):=by unfold OwnB;rw[List.map_append];exact ho10
    rwa[hx,←hvs] at this
   ·rcases hn10 b hb with h|h
    ·exact hn5 b h
    ·omega
  have hgv:M.gateV vs g=if g.x then M.litV vs g.a != M.litV vs g.b else M.litV vs g.a&&M.litV vs g.b:=rfl
  have h64:(IntKind.i64.wrap ((i:Int)+1))=((i+1:Nat):Int):=inc64' (by omega)
  refine yx (fun hgx=>?_) (fun hgx=>?_)
  ·rw[hgx,if_pos rfl] at hgv
   refine one_bool fun w9 b9 hb9 he9 ho9=>?_
   try simp only[push_cast,h64]
   exact fin hgv.symm he9 hb9 ho9
  ·rw[hgx,if_neg (by simp)] at hgv
   refine yx (fun ha=>?_) (fun ha=>?_)
   ·refine one_bool fun w9 b9 hb9 he9 ho9=>?_
    simp only[push_cast,h64]
    rw[ha,Bool.true_and] at hgv
    exact fin hgv.symm he9 hb9 ho9
   ·refine one_bool fun w9 b9 hb9 he9 ho9=>?_
    simp only[push_cast,h64]
    rw[ha,Bool.false_and] at hgv
    exact fin hgv.symm he9 hb9 ho9
 ·have hi':i=gs.length:=by omega
  subst hi'
  rw[List.take_length] at ho5
  exact hK w5 r e5 ho5 hn5
theorem insM_app:∀{d1 d2:List M.Dcl} {e1 e2:List Int},d1.length=e1.length→M.insM (d1++d2) (e1++e2)=M.insM d1 e1++M.insM d2 e2
 |[],d2,[],e2,_=>by cases d2<;>cases e2<;>rfl
 |d::d1,d2,e::e1,e2,h=>by
  show(M.bitsN d.2.toNat e.toNat).reverse++M.insM (d1++d2) (e1++e2)=((M.bitsN d.2.toNat e.toNat).reverse++M.insM d1 e1)++M.insM d2 e2
  rw[insM_app (by simpa using h),List.append_assoc]
theorem insM_take {i:Nat} (hl:env.length=ds.length) (hi:i<ds.length):M.insM (ds.take (i+1)) (env.take (i+1))=M.insM (ds.take i) (env.take i)++(M.bitsN ((ds.getD i (M.nada,0)).2).toNat (env.getD i 0).toNat).reverse:=by
 have h1:ds.take (i+1)=ds.take i++[ds.getD i (M.nada,0)]:=M.take_add hi _
 have h2:env.take (i+1)=env.take i++[env.getD i 0]:=M.take_add (by omega) _
 rw[h1,h2,insM_app (by rw[List.length_take,List.length_take];omega)]
 simp[M.insM]
theorem BlastIns_spec {dv ev:Value} (hd:DclsR F w dv ds) (he:Ints F' w ev env) (hok:M.envOk ds env=true)
  (hK:∀w' r,Ext w w'→OwnB PP ym w' r (M.insM ds env)→(∀b,r.ownBlock=some b→w.heap.size≤b)→K r w'):vcall PP Zr #[dv,ev] w K:=by
 apply z90;unfold Qy
 obtain⟨hdk,hlen,henv⟩:=M.env_ok hok
 refine EnvOk_spec hd he fun w1 he1=>?_
 rw[hok]
 simp(disch:=(simp only[push_cast];done)) only[push_cast,(hd.ext he1).len,Bool.not_true]
 have h4:=(M.decl_iff.1 hdk).1
 refine vloop_up ds.length (fun i u w'=> ∃r,u=[r,.int .i64 i]∧Ext w w'∧OwnB PP ym w' r (M.insM (ds.take i) (env.take i))∧∀b,r.ownBlock=some b→w.heap.size≤b) ⟨_,rfl,he1,OwnB.nil,fun b hb=>by cases hb⟩ ?_
 rintro i _ _ w2 C hi ⟨r,rfl,e2,ho2,hn2⟩ hC
 simp only[push_cast]
 refine zh (fun a=>?_) (fun a=>?_)
 ·have hil:i<ds.length:=by omega
  have hd2:=hd.ext e2
  have hwd:=M.dcl_wide hdk hil
  obtain⟨n1,n2,n3,n4⟩:=M.vok_iff.1 (henv i hil)
  have hbl:=M.bits_le hdk hil
  have hb8:=(M.decl_iff.1 hdk).2.2
  have hins:(M.insM (ds.take i) (env.take i)).length≤8:=by
   have:=M.insM_len (ds:=ds.take i) (env:=env.take i) (by rw[List.length_take,List.length_take];omega) fun d hd'=>M.dpos hdk d (List.mem_of_mem_take hd')
   omega
  have hp16:(2:Int)^((ds.getD i (M.nada,0)).2).toNat≤16:=by
   have h1:(2:Nat)^((ds.getD i (M.nada,0)).2).toNat≤2^4:=Nat.pow_le_pow_right (by omega) (by omega)
   have h2:(((2:Nat)^((ds.getD i (M.nada,0)).2).toNat:Nat):Int)≤16:=by omega
   simpa using h2
  simp(disch:=first|(simp only[push_cast];done)|omega) only[push_cast,hd2.iaddr,hd2.load]
  refine zC xr fun b3 w3 hb3 he3 hz3 hB3=>?_
  refine stDecl hB3 fun w4 hs4 hz4 hB4=>?_
  have e24:Ext w2 w4:=Ext.then he3 hs4 fun y hy=>by subst hy;omega
  have htk:=insM_take hlen hil
  generalize hp:M.insM (ds.take i) (env.take i)=ps at ho2 hins htk
  obtain⟨k,hk⟩:=Int.eq_ofNat_of_zero_le n3
  have hget:env.getD i 0=(k:Int):=hk
  rw[hget] at htk n4
  rw[Int.toNat_natCast] at htk
  have hmem:=he.ext e2
  generalize hwv:(ds.getD i (M.nada,0)).2=wd at*
  simp(disch:=first|(simp only[push_cast];done)|omega) only[push_cast,hB4.ld1,zA]
  have hbl2:(M.bitsN wd.toNat k).reverse.length=wd.toNat:=by rw[List.length_reverse,M.bitsN_len]
  have z2:=e2.size;have z24:=e24.size
  refine vloop_up wd.toNat (fun j u w'=> ∃r,u=[r,.int .i64 (wd-1-j)]∧Ext w w'∧OwnB PP ym w' r (ps++(M.bitsN wd.toNat k).reverse.take j)∧∀b,r.ownBlock=some b→w.heap.size≤b) ⟨r,by simp,e2.trans e24,by simpa using ho2.ext e24,hn2⟩ ?_
  rintro j _ _ w5 C1 hj ⟨r2,rfl,e05,ho5,hn5⟩ hC1
  simp only[push_cast]
  refine zh (fun c=>?_) (fun c=>?_)
  ·have hjl:j<wd.toNat:=by omega
   have he5:=he.ext e05
   simp(disch:=first|(simp only[push_cast];done)|omega) only[push_cast,he5.iaddr,he5.load,hget]
   rw[qC xv0 UC,wrapU (by omega),show(wd-1-(j:Int))=((wd.toNat-1-j:Nat):Int) by omega]
   refine bit_spec (by omega) (by omega) ?_
   have hx:(M.bitsN wd.toNat k).reverse.take (j+1)=(M.bitsN wd.toNat k).reverse.take j++[decide (k/2^(wd.toNat-1-j)%2=1)]:=by
    rw[M.take_add (by omega) false]
    congr 2
    rw[List.getD_eq_getElem?_getD,List.getElem?_reverse (by rw[M.bitsN_len];exact hjl),M.bitsN_len,←List.getD_eq_getElem?_getD,M.bitsN_get (by omega)]
   generalize decide (k/2^(wd.toNat-1-j)%2=1)=x at hx⊢
   have hpl:(ps++(M.bitsN wd.toNat k).reverse.take j).length≤100:=by rw[List.length_append,List.length_take];omega
   refine one_bool fun w6 b6 hb6 he6 ho6=>?_
   refine OwnV.app (us:=[.bool x]) (ho5.ext he6) qC0 ho6.bools (by simp[Value.oneCell']) (by simp only[List.length_map,List.length_singleton];omega) (by simp only[List.length_map,List.length_singleton];omega) fun v7 w7 ho7 hs7 hn7=>?_
   have z45:=e05.size;have z6:=he6.size
   simp(disch:=omega) only[push_cast,zA]
   refine hC1 hjl _ _ ⟨v7,by rw[show((wd.toNat:Int)-(0+1)-(j:Int)-1)=wd-1-((j+1:Nat):Int) by omega],Ext.then (e05.trans he6) hs7 fun b hb=>hn5 b hb,?_,fun b hb=>?_⟩
   ·rw[hx,←List.append_assoc]
    unfold OwnB
    rw[List.map_append];exact ho7
   ·rcases hn7 b hb with h|h
    ·exact hn5 b h
    ·omega
  ·have hj':j=wd.toNat:=by omega
   subst hj'
   rw[List.take_of_length_le (by omega),←htk] at ho5
   try simp(disch:=omega) only[push_cast,zA]
   exact hC hil _ _ ⟨r2,rfl,e05,ho5,hn5⟩
 ·have hi':i=ds.length:=by omega
  subst hi'
  rw[List.take_length,←hlen,List.take_length] at ho2
  exact hK w2 r e2 ho2 hn2
theorem jx0 (h:M.tsort ds t= -1):blastR ds t=(0,[],[]):=by unfold blastR;rw[if_pos h]
theorem Xl (ds:List M.Dcl) (t:M.Tm):((blastR ds t).2.2=[]∧(blastR ds t).1=0∧(blastR ds t).2.1=[])∨(M.tsort ds t≠ -1∧(blastR ds t).1=M.nIn ds∧M.blastB ds t=some ((blastR ds t).2.1,(blastR ds t).2.2)):=by
 unfold blastR M.blastB M.nIn
 by_cases h:M.tsort ds t= -1
 ·rw[if_pos h];exact .inl ⟨rfl,rfl,rfl⟩
 ·rw[if_neg h]
  cases hr:(M.termB ds t).run (M.bits ds).toNat [] with
  |none=>exact .inl ⟨rfl,rfl,rfl⟩
  |some r=>exact .inr ⟨h,rfl,rfl⟩
theorem ks0 (ds:List M.Dcl) (t:M.Tm):(blastR ds t).2.1.length≤600:=by
 rcases Xl ds t with⟨_,_,h⟩|⟨h,h1,h2⟩
 ·rw[h];simp
 ·obtain⟨_,hd,hs,_⟩:=QC h
  exact(M.blast_says hd hs h2).1.few
theorem sigs_few (ds:List M.Dcl) (t:M.Tm):(blastR ds t).2.2.length≤4:=by
 rcases Xl ds t with⟨h,_⟩|⟨h,h1,h2⟩
 ·rw[h];simp
 ·obtain⟨_,hdk,hs,_⟩:=QC h
  have h3:=(M.blast_says hdk hs h2).2.2.1
  have h4:=M.sort_range hdk t
  rw[h3];unfold M.lenS;omega
end Go.Proofs.YtaekfnbnhjgboaaGreatDoor
end
section
namespace Go.Proofs.YtaekfnbnhjgboaaGreatDoor
open Go Go.Vc Go.Proofs
variable {w:World} {K:Value→World→Prop} {F F' D G:Nat→Prop}
abbrev ptr (b:Nat):Value:= .pointer (some ⟨b,0,none⟩)
section
variable {w0 w':World} {b2 b3 b4 mb:Nat} {dv kv:Value} {ds:List M.Dcl} {t:M.Tm}
end
end Go.Proofs.YtaekfnbnhjgboaaGreatDoor
end
section
namespace Go.Proofs.YtaekfnbnhjgboaaGreatDoor
open Go Go.Vc Go.Proofs
variable {w:World} {K:Value→World→Prop} {F F' D G:Nat→Prop}
def rl (ds:List M.Dcl) (t:M.Tm) (i:Nat):Option M.Tm:=[M.ruleX ds t,M.ruleB t,M.ruleT t,M.ruleL ds t,M.ruleW ds t,M.ruleS t,M.ruleF t].getD i none
end Go.Proofs.YtaekfnbnhjgboaaGreatDoor
end
section
namespace Go.M
open Go.Vc
section
variable {ds:List Dcl} {t:Tm}
def Y40 (t v:Tm):Prop:=v.ks.length≠2∨kid v 0≠kid t 1∨kid v 1≠kid t 0∨v.op≠t.op
instance (t v:Tm):Decidable (Y40 t v):=by unfold Y40;infer_instance
end
end Go.M
end
section
namespace Go.Proofs.YtaekfnbnhjgboaaGreatDoor
open Go Go.Vc Go.Proofs
variable {w:World} {K:Value→World→Prop} {F F' D G:Nat→Prop}
theorem k10 {ds:List M.Dcl} {t:M.Tm} (hd:M.declOk ds=true) (hf:M.fits t=true):M.tsort ds t=M.sortM ds t:=by unfold M.tsort;rw[if_pos ⟨hf,hd⟩]
end Go.Proofs.YtaekfnbnhjgboaaGreatDoor
end
section
namespace Go.Proofs.YtaekfnbnhjgboaaGreatDoor
open Go Go.Vc Go.Proofs
variable {w:World} {K:Value→World→Prop} {F F' D G:Nat→Prop}
theorem Zh0 (ds:List M.Dcl) (t:M.Tm): -1≤M.tsort ds t:=by
 unfold M.tsort
 split
 ·next h=>exact(M.sort_range h.2 t).1
 ·exact Int.le_refl _
end Go.Proofs.YtaekfnbnhjgboaaGreatDoor
end
