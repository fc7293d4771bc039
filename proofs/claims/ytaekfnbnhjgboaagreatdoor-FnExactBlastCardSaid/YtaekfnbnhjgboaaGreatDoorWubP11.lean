import Derived.Test.YtaekfnbnhjgboaaGreatDoorWubP10
import Derived.Test.YtaekfnbnhjgboaaGreatDoorWubP5
import Derived.Test.YtaekfnbnhjgboaaGreatDoorWubP8
import Derived.OpenVars
import Derived.MakeChecks
import Derived.Stop.LaidErr
import Derived.Stop.LaidTwo
/- A part of the proof. -/
set_option linter.unusedVariables false
set_option linter.unusedSimpArgs false
set_option linter.unnecessarySimpa false
set_option linter.unusedSectionVars false
section
namespace Go.Proofs.YtaekfnbnhjgboaaGreatDoor
open Go Go.Vc Go.Proofs
variable {w:World} {K:Value→World→Prop} {D F Fx Fy Y S O O':Nat→Prop} {n b4 b8:Nat} {gs gs':M.Gs} {v v' nv xv yv sv dv tv:Value} {cs cs':List Value} {st st':Option M.Gs} {a b c m x y r:Int} {xs ys:List Int} {ds:List M.Dcl} {t:M.Tm}
theorem spec_one {x:Int} (hK:∀w' r,Ext w w'→OwnI PP zg w' r [x]→(∀b,r.ownBlock=some b→w.heap.size≤b)→K r w'):vbuildS PP zg 1 [(0,.int .i64 x)] w K:=by
 refine yc XC jp Xv rfl rfl fun b5 w5 hb5 he5 hz5 hB5=>?_
 exact hK w5 _ he5 (Blk.own1 (P:=PP) (t:=zg) (cs:=[Value.int .i64 x]) (by rw[yx0];exact hB5) (Nat.zero_le _) rfl rfl (by omega)) fun b hb=>by have e:b5=b:=Option.some.inj hb;omega
theorem sbits8_spec {k:Nat} (hok:M.declOk ds=true) (hk:k≤ds.length) (hd:DclsR F w v (ds.take k)) (hK:∀w',Ext w w'→K (.int .i64 (M.bitT ds k)) w'):vcall PP Z0 #[v] w K:=by
 apply yD0;unfold Vf
 have hlen:(ds.take k).length=k:=by rw[List.length_take];omega
 have h4:=(M.decl_iff.1 hok).1
 refine vloop_up k (fun i u w'=>u=[.int .i64 (M.bitT ds i),.int .i64 i]∧Ext w w') ⟨rfl,Same.refl _ _⟩ ?_
 rintro i _ _ w2 C hi ⟨rfl,he2⟩ hC
 have hd2:=hd.ext he2
 simp(disch:=first|(simp only[push_cast];done)|omega) only[push_cast,hd2.len]
 refine zh (fun a=>?_) (fun a=>?_)
 ·have hi':i<k:=by omega
  have hs1:=dcl_small hok (i:=i) (by omega)
  have hs2:=dcl_small hok (i:=i+1) (by omega)
  rw[M.bitT_succ (by omega)] at hs2
  have hg:(ds.take k).getD i (M.nada,0)=ds.getD i (M.nada,0):=M.take_getD hi'
  simp(disch:=first|(simp only[push_cast];done)|omega) only[push_cast,hd2.iaddr,hd2.load1,hg,zF]
  refine hC hi' _ _ ⟨?_,he2⟩
  rw[M.bitT_succ (by omega)]
  simp
 ·have:i=k:=by omega
  subst this
  exact hK w2 he2
theorem fix_val {nn:Int} {j:Nat}:2*((nn.toNat/2^j%2:Nat):Int)-1=if nn.toNat/2^j%2=1 then 1 else-1:=by
 have h:nn.toNat/2^j%2=0∨nn.toNat/2^j%2=1:=by omega
 rcases h with h|h<;>rw[h]<;>rfl
theorem sfix8_spec {wd nn:Int} (hv:M.vok wd nn=true) (hK:∀w' r,Ext w w'→OwnI PP zg w' r (M.fixB wd nn)→(∀b,r.ownBlock=some b→w.heap.size≤b)→K r w'):vcall PP XH #[.int .i64 wd,.int .i64 nn] w K:=by
 apply xA0;unfold Wq
 obtain⟨v1,v2,v3,v4⟩:=M.vok_lt hv
 refine spec_nil fun v1' w1 ho1 e1 hn1=>?_
 refine vloop_up wd.toNat (fun i u w'=> ∃r,u=[r,.int .i64 i]∧Ext w w'∧OwnI PP zg w' r ((M.fixB wd nn).take i)∧∀b,r.ownBlock=some b→w.heap.size≤b) ⟨_,rfl,e1,ho1,hn1⟩ ?_
 rintro i _ g w2 C hi ⟨r,rfl,e2,ho2,hn2⟩ hC
 simp only[push_cast]
 refine zh (fun a=>?_) (fun a=>?_)
 ·have hi':i<wd.toNat:=by omega
  rw[show nn=((nn.toNat:Nat):Int) by omega]
  refine l1Bit_spec (by omega) (by omega) ?_
  have hb:nn.toNat/2^i%2<2:=Nat.mod_lt _ (by decide)
  have hval:=fix_val (nn:=nn) (j:=i)
  generalize hbt:nn.toNat/2^i%2=bt at hval hb
  simp(disch:=omega) only[push_cast,zF]
  rw[hval]
  refine spec_app e2 ho2 hn2 (by rw[List.length_take,M.fixB_len];omega) fun v3 w3 ho3 e3 hn3=>?_
  try simp(disch:=omega) only[push_cast,zF]
  refine hC hi' _ _ ⟨v3,by simp,e3,?_,hn3⟩
  rw[M.take_add (by rw[M.fixB_len];omega) 0,fixB_at (by omega),hbt]
  exact ho3
 ·have hi':i=wd.toNat:=by omega
  rw[List.take_of_length_le (by rw[M.fixB_len];omega)] at ho2
  exact hK w2 r e2 ho2 hn2
theorem sname8_spec {k:Nat} (hok:M.declOk ds=true) (hk:k<ds.length) (hd:DclsR F w v ds) (hK:∀w' r,Ext w w'→OwnI PP zg w' r (M.nameB ds k)→(∀b,r.ownBlock=some b→w.heap.size≤b)→K r w'):vcall PP YR #[v,.int .i64 k] w K:=by
 apply yB0;unfold Vd
 have h4:=(M.decl_iff.1 hok).1
 rw[hd.cut (by intro h;rw[h] at hk;simp at hk) Q6 (by omega)]
 refine sbits8_spec hok (by omega) (hd.taken (by omega)) fun w1 e1=>?_
 have hs1:=dcl_small hok (i:=k) (by omega)
 have hwd:=M.dcl_wide hok hk
 simp(disch:=omega) only[push_cast,zF]
 refine spec_nil fun v2 w2 ho2 e2 hn2=>?_
 have z1:=e1.size
 refine vloop_up (ds.getD k (M.nada,0)).2.toNat (fun i u w'=> ∃r,u=[r,.int .i64 i]∧Ext w w'∧OwnI PP zg w' r ((M.nameB ds k).take i)∧∀b,r.ownBlock=some b→w.heap.size≤b) ⟨_,rfl,e1.trans e2,ho2,fun b hb=>by have:=hn2 b hb;omega⟩ ?_
 rintro i _ g w3 C hi ⟨r,rfl,e3,ho3,hn3⟩ hC
 have hd3:=hd.ext e3
 have hget:∀hi':i<(ds.getD k (M.nada,0)).2.toNat,(M.nameB ds k).getD i 0=2+M.bitT ds k+(ds.getD k (M.nada,0)).2-1-(i:Int):=fun hi'=>by unfold M.nameB;rw[Ui hi'];rfl
 rw[hd3.iaddr Q6 (by omega) (by omega),Int.toNat_natCast]
 simp only[push_cast]
 rw[hd3.load1 xh0 hk]
 generalize hW:(ds.getD k (M.nada,0)).2=wd at*
 simp only[push_cast]
 refine zh (fun a=>?_) (fun a=>?_)
 ·have hi':i<wd.toNat:=by omega
  rw[hd3.iaddr Q6 (by omega) (by omega),Int.toNat_natCast]
  simp only[push_cast]
  rw[hd3.load1 xh0 hk,hW]
  simp(disch:=omega) only[push_cast,zF]
  refine spec_app e3 ho3 hn3 (by rw[List.length_take,M.nameB_len];omega) fun v5 w5 ho5 e5 hn5=>?_
  try simp(disch:=omega) only[push_cast,zF]
  refine hC hi' _ _ ⟨v5,by simp,e5,?_,hn5⟩
  rw[M.take_add (by rw[M.nameB_len,hW];omega) 0,hget hi']
  exact ho5
 ·rw[List.take_of_length_le (by rw[M.nameB_len,hW];omega)] at ho3
  exact hK w3 r e3 ho3 hn3
theorem sleaf8_spec (hok:M.declOk ds=true) (hs:M.sortM ds t≠ -1) (h0:t.ks.length=0) (hd:DclsR F w dv ds) (ht:TermR Fx w tv t)
  (hK:∀w' r zs,Ext w w'→OwnI PP zg w' r zs→(∀b,r.ownBlock=some b→w.heap.size≤b)→SnL st zs→M.Bd.Out n (M.nodeB ds t []) st st zs→K r w'):vcall PP YS #[dv,tv] w K:=by
 apply yC0;unfold Ve
 obtain⟨kv,rfl,hks⟩:=ht
 obtain⟨har,hp,ho⟩:=M.right_op hs
 have hop:t.op=20∨t.op=21∨t.op=24:=Classical.byContradiction fun h=>by have:=M.node_arity ho h;omega
 refine zu fun b1 w1 hb1 he1 hz1 hB1=>?_
 simp(disch:=first|(simp only[push_cast];done)|omega) only[push_cast,hB1.ld0]
 unfold M.nodeB at hK
 refine zh (fun c=>?_) (fun c=>?_)
 ·rw[if_pos c] at hK
  have hv:=M.vec_ok hs c
  simp(disch:=first|(simp only[push_cast];done)|omega) only[push_cast,hB1.ld1,hB1.ld2]
  refine sfix8_spec hv fun w2 r he2 ho2 hn2=>?_
  exact hK w2 r _ (he1.trans he2) ho2 (fun b hb=>by have:=hn2 b hb;omega) (fun x hx=>by
   unfold M.fixB at hx
   obtain⟨j,_,rfl⟩:=List.mem_map.1 hx
   split<;>exact Sn.of (by decide) (by decide)) (M.Bd.Out.ret _ _)
 rw[if_neg c] at hK
 try simp only[push_cast]
 refine zh (fun c2=>?_) (fun c2=>?_)
 ·rw[if_pos c2] at hK
  have hf:=M.name_found hs c2
  have hlt:=M.findD_lt ds t.s
  simp(disch:=first|(simp only[push_cast];done)|omega) only[push_cast,hB1.ld3]
  refine l2Find_spec (hd.ext he1) ?_
  rw[show M.findD ds t.s=(((M.findD ds t.s).toNat:Nat):Int) by omega]
  refine sname8_spec hok (by omega) (hd.ext he1) fun w2 r he2 ho2 hn2=>?_
  refine hK w2 r _ (he1.trans he2) ho2 (fun b hb=>by have:=hn2 b hb;omega) (fun x hx=>?_) (M.Bd.Out.ret _ _)
  obtain⟨p1,p2,p3⟩:=M.name_has (m:=9) hok (k:=(M.findD ds t.s).toNat) (by omega) (by have:=(M.decl_iff.1 hok).2.2;omega) x hx
  exact Sn.of (by unfold Sm;omega) p1
 ·rw[if_neg c2,if_pos (by omega)] at hK
  refine spec_one fun w2 r he2 ho2 hn2=>?_
  exact hK w2 r _ (he1.trans he2) ho2 (fun b hb=>by have:=hn2 b hb;omega) (SnL.one (Sn.of (by decide) (by decide))) (M.Bd.Out.ret _ _)
end Go.Proofs.YtaekfnbnhjgboaaGreatDoor
end
section
namespace Go.Proofs.YtaekfnbnhjgboaaGreatDoor
open Go Go.Vc Go.Proofs
variable {w:World} {K:Value→World→Prop} {D F Fx Fy Y S O O':Nat→Prop} {n b4 b8:Nat} {gs gs':M.Gs} {v v' nv xv yv sv dv tv kv:Value} {cs cs' ts:List Value} {st st':Option M.Gs} {a b c m x y r:Int} {xs ys:List Int} {ds:List M.Dcl} {t:M.Tm} {rs:List (List Int)}
theorem Fm.start2 (hk:MkR n D w cs st) (hD:∀b,D b→b<w.heap.size) {K:Value→Value→Value→World→Prop} (hK:∀b4 b5 b8 w',Fm n D (fun _=>False) w b4 b8 w' st→Blk w' b5 ts zb→w.heap.size≤b5∧b5≠b4∧b5≠b8→K (.pointer (some ⟨b4,0,none⟩)) (.pointer (some ⟨b5,0,none⟩)) (.pointer (some ⟨b8,0,none⟩)) w'):
  yy PP zc (.agg ⟨cs⟩) w fun t w1=>yy PP zb (.agg ⟨ts⟩) w1 fun t5 w2=>zY PP zc w2 fun t8 w3=>K t t5 t8 w3:=by
 refine zu fun b4 w1 hb1 he1 hz1 hB1=>?_
 refine zu fun b5 w2 hb2 he2 hz2 hB2=>?_
 refine zE xW fun b8 w3 hb3 he3 hz3 hB3=>?_
 have e13:=he2.trans he3
 have e3:=he1.trans e13
 refine hK b4 b5 b8 w3 ⟨e3,⟨cs,hB1.ext e13,hk.ext e3 fun b hb hl=>hb.elim id fun h=>?_⟩,⟨_,hB3,rfl⟩,by omega,fun b h=>h.elim,hD⟩ (hB2.ext he3) (by omega)
 rcases h with h|h|h
 ·omega
 ·omega
 ·exact h.elim
def KidsS (w:World) (kv:Value) (rs:List (List Int)):Prop:= ∃(vs:List Value) (Fk:Nat→Prop),Vals Fk w kv vs∧vs.length=rs.length∧∀i,i<rs.length→Ints (fun _=>True) w (vs.getD i undef) (rs.getD i [])
theorem KidsS.vals (h:KidsS w kv rs):∃vs:List Value,(∀(w':World),Ext w w'→∀i:Nat,i<rs.length→∀K:Value→World→Prop,zm PP yh kv (.int .i64 i) w' K=K (.pointer (some (eaddr kv 1 i))) w'∧ze PP zg (.pointer (some (eaddr kv 1 i))) w' K=K (vs.getD i undef) w')∧
  ∀i,i<rs.length→Ints (fun _=>True) w (vs.getD i undef) (rs.getD i []):=by
 obtain⟨vs,Fk,h1,h2,h3⟩:=h
 refine⟨vs,fun w' he i hi K=>?_,h3⟩
 have h1':=h1.ext he
 refine⟨?_,h1'.load X40 (by omega)⟩
 rw[h1'.iaddr Yt0 (by omega) (by omega),Int.toNat_natCast]
theorem KidsS.ext {w':World} (h:KidsS w kv rs) (he:Ext w w'):KidsS w' kv rs:=by
 obtain⟨vs,Fk,h1,h2,h3⟩:=h
 exact⟨vs,Fk,h1.ext he,h2,fun i hi=>Ints.ext (h3 i hi) he⟩
theorem len_one {l:List Int} (h:l.length=1):l=[l.getD 0 0]:=by
 match l,h with
 |[x],_=>rfl
theorem slogic8_spec (hok:M.declOk ds=true) (hs:M.sortM ds t≠ -1) (h22:22<t.op) (h24:t.op≠24) (hn:n≤8) (hk:MkR n D w cs st) (hD:∀b,D b→b<w.heap.size) (ht:TermR Fx w tv t) (hkids:KidsS w kv rs) (hrl:rs.length=t.ks.length) (hlen:∀i,i<t.ks.length→(rs.getD i []).length=M.lenS (M.sortM ds (M.kid t i))) (hrs:∀r,r∈rs→SnL st r)
  (hK:∀w' cs' st' r zs,Ext w w'→MkR n D w' cs' st'→Ints (New w) w' r zs→SnL st' zs→M.Bd.Out n (M.nodeB ds t rs) st st' zs→K (.tuple #[.agg ⟨cs'⟩,r]) w'):
  vcall PP Y5 #[.agg ⟨cs⟩,tv,kv] w K:=by
 apply zp0;unfold Jl
 obtain⟨kw,rfl,hks⟩:=ht
 obtain⟨har,hp,ho⟩:=M.right_op hs
 obtain⟨q1,q2,q3,q4,q5,q6,q7⟩:=M.node_right hok hs (L:=fun i=>(rs.getD i []).length) hlen
 refine Fm.start2 hk hD fun b4 b5 b8 w1 h1 hB1 hne=>?_
 obtain⟨c1,hk1,hld1⟩:=h1.call
 obtain⟨vs,hA,hvs⟩:=(hkids.ext h1.ext).vals
 have get:∀i,i<rs.length→SnL st (rs.getD i []):=fun i hi=>hrs _ (M.getD_mem hi [])
 simp(disch:=first|(simp only[push_cast];done)|omega) only[push_cast,hB1.ld0]
 unfold M.nodeB at hK
 rw[if_neg (by omega),if_neg (by omega),if_neg h24] at hK
 refine zh (fun c=>?_) (fun c25=>?_)
 ·rw[if_pos c] at hK
  obtain⟨hk7,hL7⟩:=q7 (by omega)
  rw[if_pos c] at hk7
  have hL0:=hL7 0 (by omega)
  refine zr fun w2 he2 _=>?_
  have A0:∀K:Value→World→Prop,zm PP yh kv (.int .i64 0) w2 K=K (.pointer (some (eaddr kv 1 0))) w2:=fun K=>(hA w2 he2 0 (by omega) K).1
  have B0:∀K:Value→World→Prop,ze PP zg (.pointer (some (eaddr kv 1 0))) w2 K=K (vs.getD 0 undef) w2:=fun K=>(hA w2 he2 0 (by omega) K).2
  simp only[hld1 w2 he2,A0,B0,true_and]
  refine sturn7_spec (Ints.ext (hvs 0 (by omega)) he2) (by omega) (get 0 (by omega)).sm fun w3 r3 he3 ho3 hn3=>?_
  simp only[hld1 w3 (he2.trans he3),true_and,and_self]
  have z2:=he2.size
  refine h1.res (he2.trans he3) (hk1.ext (he2.trans he3) fun _ h _=>h) (jV ho3 fun b hb=>by have:=hn3 b hb;omega) fun w4 e4 hk4 hz4=>hK w4 c1 st r3 _ e4 hk4 hz4 (get 0 (by omega)).neg ?_
  rw[len_one hL0]
  exact M.Bd.Out.ret _ _
 rw[if_neg c25] at hK
 try simp only[push_cast]
 refine zh (fun c=>?_) (fun c26=>?_)
 ·rw[if_pos c] at hK
  obtain⟨hk7,hL7⟩:=q7 (by omega)
  rw[if_neg c25] at hk7
  have hL0:=hL7 0 (by omega)
  have hL1:=hL7 1 (by omega)
  refine zr fun w2 he2 _=>?_
  have A0:∀K:Value→World→Prop,zm PP yh kv (.int .i64 0) w2 K=K (.pointer (some (eaddr kv 1 0))) w2:=fun K=>(hA w2 he2 0 (by omega) K).1
  have B0:∀K:Value→World→Prop,ze PP zg (.pointer (some (eaddr kv 1 0))) w2 K=K (vs.getD 0 undef) w2:=fun K=>(hA w2 he2 0 (by omega) K).2
  have A1:∀K:Value→World→Prop,zm PP yh kv (.int .i64 1) w2 K=K (.pointer (some (eaddr kv 1 1))) w2:=fun K=>(hA w2 he2 1 (by omega) K).1
  have B1:∀K:Value→World→Prop,ze PP zg (.pointer (some (eaddr kv 1 1))) w2 K=K (vs.getD 1 undef) w2:=fun K=>(hA w2 he2 1 (by omega) K).2
  have V0:=Ints.ext (hvs 0 (by omega)) he2
  have V1:=Ints.ext (hvs 1 (by omega)) he2
  simp(disch:=first|(simp only[push_cast];done)|omega) only[hld1 w2 he2,A0,B0,A1,B1,V0.iaddr,V0.load,V1.iaddr,V1.load,push_cast,true_and]
  have h2:=h1.grow he2
  refine sand7_spec hn (hk1.ext he2 fun _ h _=>h) h2.dl ((get 0 (by omega)).get (by omega)) ((get 1 (by omega)).get (by omega)) fun w3 cs3 st3 r he3 hk3 hr3 ho3=>?_
  simp only[push_cast,true_and]
  refine h2.put he3 hk3 fun w4 h4 hs4 hz4=>?_
  try simp only[push_cast,true_and,and_self]
  obtain⟨c4,hk4,hld4⟩:=h4.call
  simp only[hld4 w4 (Same.refl _ _)]
  refine spec_one fun w5 rv he5 ho5 hn5=>?_
  refine h4.res he5 (hk4.ext he5 fun _ h _=>h) (jV ho5 hn5) fun w6 e6 hk6 hz6=>hK w6 c4 st3 rv [r] e6 hk6 hz6 (SnL.one hr3) (xV ho3 (M.Bd.Out.ret _ _))
 rw[if_neg c26] at hK
 try simp only[push_cast]
 refine zh (fun c=>?_) (fun c27=>?_)
 ·rw[if_pos c] at hK
  obtain⟨hk7,hL7⟩:=q7 (by omega)
  rw[if_neg c25] at hk7
  have hL0:=hL7 0 (by omega)
  have hL1:=hL7 1 (by omega)
  refine zr fun w2 he2 _=>?_
  have A0:∀K:Value→World→Prop,zm PP yh kv (.int .i64 0) w2 K=K (.pointer (some (eaddr kv 1 0))) w2:=fun K=>(hA w2 he2 0 (by omega) K).1
  have B0:∀K:Value→World→Prop,ze PP zg (.pointer (some (eaddr kv 1 0))) w2 K=K (vs.getD 0 undef) w2:=fun K=>(hA w2 he2 0 (by omega) K).2
  have A1:∀K:Value→World→Prop,zm PP yh kv (.int .i64 1) w2 K=K (.pointer (some (eaddr kv 1 1))) w2:=fun K=>(hA w2 he2 1 (by omega) K).1
  have B1:∀K:Value→World→Prop,ze PP zg (.pointer (some (eaddr kv 1 1))) w2 K=K (vs.getD 1 undef) w2:=fun K=>(hA w2 he2 1 (by omega) K).2
  have V0:=Ints.ext (hvs 0 (by omega)) he2
  have V1:=Ints.ext (hvs 1 (by omega)) he2
  simp(disch:=first|(simp only[push_cast];done)|omega) only[hld1 w2 he2,A0,B0,A1,B1,V0.iaddr,V0.load,V1.iaddr,V1.load,push_cast,true_and]
  have h2:=h1.grow he2
  refine sor7_spec hn (hk1.ext he2 fun _ h _=>h) h2.dl ((get 0 (by omega)).get (by omega)) ((get 1 (by omega)).get (by omega)) fun w3 cs3 st3 r he3 hk3 hr3 ho3=>?_
  simp only[push_cast,true_and]
  refine h2.put he3 hk3 fun w4 h4 hs4 hz4=>?_
  try simp only[push_cast,true_and,and_self]
  obtain⟨c4,hk4,hld4⟩:=h4.call
  simp only[hld4 w4 (Same.refl _ _)]
  refine spec_one fun w5 rv he5 ho5 hn5=>?_
  refine h4.res he5 (hk4.ext he5 fun _ h _=>h) (jV ho5 hn5) fun w6 e6 hk6 hz6=>hK w6 c4 st3 rv [r] e6 hk6 hz6 (SnL.one hr3) (M.Bd.Out.map _ ho3)
 have c23:t.op=23:=by omega
 rw[if_neg c27,if_pos c23] at hK
 obtain⟨k1,l0,l1,l2,l3⟩:=q6 c23
 refine zr fun w2 he2 _=>?_
 have A0:∀K:Value→World→Prop,zm PP yh kv (.int .i64 0) w2 K=K (.pointer (some (eaddr kv 1 0))) w2:=fun K=>(hA w2 he2 0 (by omega) K).1
 have B0:∀K:Value→World→Prop,ze PP zg (.pointer (some (eaddr kv 1 0))) w2 K=K (vs.getD 0 undef) w2:=fun K=>(hA w2 he2 0 (by omega) K).2
 have A1:∀K:Value→World→Prop,zm PP yh kv (.int .i64 1) w2 K=K (.pointer (some (eaddr kv 1 1))) w2:=fun K=>(hA w2 he2 1 (by omega) K).1
 have B1:∀K:Value→World→Prop,ze PP zg (.pointer (some (eaddr kv 1 1))) w2 K=K (vs.getD 1 undef) w2:=fun K=>(hA w2 he2 1 (by omega) K).2
 have A2:∀K:Value→World→Prop,zm PP yh kv (.int .i64 2) w2 K=K (.pointer (some (eaddr kv 1 2))) w2:=fun K=>(hA w2 he2 2 (by omega) K).1
 have B2:∀K:Value→World→Prop,ze PP zg (.pointer (some (eaddr kv 1 2))) w2 K=K (vs.getD 2 undef) w2:=fun K=>(hA w2 he2 2 (by omega) K).2
 have V0:=Ints.ext (hvs 0 (by omega)) he2
 have V1:=Ints.ext (hvs 1 (by omega)) he2
 have V2:=Ints.ext (hvs 2 (by omega)) he2
 simp(disch:=first|(simp only[push_cast];done)|omega) only[hld1 w2 he2,A0,B0,A1,B1,A2,B2,V0.iaddr,V0.load,push_cast,true_and]
 have h2:=h1.grow he2
 refine sifs7_spec hn (hk1.ext he2 fun _ h _=>h) h2.dl V1 V2 (by omega) (by omega) (get 1 (by omega)) (get 2 (by omega)) ((get 0 (by omega)).get (by omega)) fun w3 cs3 st3 r zs he3 hk3 hr3 hnr3 hz3 ho3=>?_
 simp only[push_cast,true_and]
 exact h2.res he3 hk3 (jV hr3 hnr3) fun w4 e4 hk4 hz4=>hK w4 cs3 st3 r zs e4 hk4 hz4 hz3 ho3
end Go.Proofs.YtaekfnbnhjgboaaGreatDoor
end
section
namespace Go.Proofs.YtaekfnbnhjgboaaGreatDoor
open Go Go.Vc Go.Proofs
variable {w:World} {K:Value→World→Prop} {D F Fx Fy Y S O O':Nat→Prop} {n b4 b8:Nat} {gs gs':M.Gs} {v v' nv xv yv sv dv tv kv:Value} {cs cs' ts:List Value} {st st':Option M.Gs} {a b c m x y r:Int} {xs ys:List Int} {ds:List M.Dcl} {t:M.Tm} {rs:List (List Int)}
theorem cutEq {lo hi:Nat} {kl kh:IntKind} (h:Ints F w v xs) (hl:lo≤hi) (hh:hi≤xs.length):∃v',(∀(w':World) (K:Value→World→Prop),yq PP zg v (some (.int kl lo)) (some (.int kh hi)) none w' K=K v' w')∧Ints F w v' ((xs.drop lo).take (hi-lo)):=by
 have ht:elB PP zg 1=true:=KO
 obtain⟨hu,hs⟩:=UB ht
 have hlen:((xs.drop lo).take (hi-lo)).length=hi-lo:=by rw[List.length_take,List.length_drop];omega
 obtain⟨a,c,rfl,hc,hcm,hcell⟩:=h.shape
 rw[List.length_map,List.length_map] at hc
 refine⟨sliced a lo hi c 1,fun w' K=>yr ?_,?_⟩
 ·rw[List.length_map,List.length_map,run_sliceAt_slice w' zg _ _ _ _ hu,run_slice_lh w' zg _ _ _ hu kl kh lo hi (by omega) (by omega) (by omega),Go.Vc.run_sizeOf hs]
  simp[Result.andThen]
 ·have key:=Ints.cutLH (P:=PP) (t:=zg) (kl:=kl) (kh:=kh) (w':=w) (K:=fun v' w'=>v'=sliced a lo hi c 1→Ints F w v' ((xs.drop lo).take (hi-lo))) h ht hl hh fun v' h' _=>h'
  rw[List.length_map,List.length_map] at key
  have e:yq PP zg (.slice a xs.length c) (some (.int kl lo)) (some (.int kh hi)) none w (fun v' w'=>v'=sliced a lo hi c 1→Ints F w v' ((xs.drop lo).take (hi-lo)))=(sliced a lo hi c 1=sliced a lo hi c 1→Ints F w (sliced a lo hi c 1) ((xs.drop lo).take (hi-lo))):=yr (by
   rw[run_sliceAt_slice w zg _ _ _ _ hu,run_slice_lh w zg _ _ _ hu kl kh lo hi (by omega) (by omega) (by omega),Go.Vc.run_sizeOf hs]
   simp[Result.andThen]
   rfl)
  rw[e] at key
  exact key rfl
theorem jD0 (ps:List (M.Bd (List Int))) (p:M.Bd (List Int)):M.seqB (ps++[p])=(M.seqB ps).bind fun rs=>p.map fun r=>rs++[r]:=by
 induction ps with
 |nil=>rfl
 |cons q ps ih=>
  show(q.bind fun r=>(M.seqB (ps++[p])).map (r:: ·))=((q.bind fun r=>(M.seqB ps).map (r:: ·)).bind fun rs=>p.map fun r=>rs++[r])
  rw[M.Bd.bind_assoc]
  congr 1
  funext r
  rw[ih]
  unfold M.Bd.map
  rw[M.Bd.bind_assoc,M.Bd.bind_assoc]
  congr 1
  funext rs
  rw[M.Bd.bind_assoc]
  rfl
theorem Z80 {ps:List (M.Bd (List Int))} {p:M.Bd (List Int)} {st st1 st2:Option M.Gs} {rs:List (List Int)} {r:List Int} (h:M.Bd.Out n (M.seqB ps) st st1 rs) (h2:M.Bd.Out n p st1 st2 r):M.Bd.Out n (M.seqB (ps++[p])) st st2 (rs++[r]):=by
 rw[jD0]
 exact M.Bd.Out.bind h (M.Bd.Out.map _ h2)
theorem ks_few (hs:M.sortM ds t≠ -1):t.ks.length≤3:=by
 obtain⟨har,hp,ho⟩:=M.right_op hs
 have h:M.arity t.op≤3:=by
  unfold M.arity;repeat' split
  all_goals omega
 omega
theorem sdo8_spec (hok:M.declOk ds=true) (hn:n≤8):∀(t:M.Tm),M.sortM ds t≠ -1→∀{w:World} {K:Value→World→Prop} {D:Nat→Prop} {cs:List Value} {st:Option M.Gs} {tv:Value} {Fd Ft:Nat→Prop},MkR n D w cs st→(∀b,D b→b<w.heap.size)→DclsR Fd w dv ds→TermR Ft w tv t→
  (∀w' cs' st' r zs,Ext w w'→MkR n D w' cs' st'→Ints (New w) w' r zs→SnL st' zs→M.Bd.Out n (M.termB ds t) st st' zs→K (.tuple #[.agg ⟨cs'⟩,r]) w')→
  vcall PP YT #[.agg ⟨cs⟩,dv,tv] w K:=by
 refine M.Tm.ind fun t ih hs w K D cs st tv Fd Ft hk hD hdv ht hK=>?_
 obtain⟨kw,rfl,hks⟩:=ht
 apply qj0;unfold UV
 have hfew:=ks_few hs
 refine Fm.start2 hk hD fun b4 b5 b8 w1 h1 hB1 hne=>?_
 refine qt jA0 ZD0 fun b6 w2 hb6 he2 hz2 hB6=>?_
 have ho2:OwnV PP yh w2 (.slice (some ⟨b6,0,none⟩) 0 0) []:=Blk.own1 (P:=PP) (t:=yh) (cs:=[]) (by rw[Zu0];exact hB6) (Nat.zero_le _) rfl rfl (by omega)
 have h2:Fm n D (O1 (.slice (some ⟨b6,0,none⟩) 0 0)) w b4 b8 w2 st:=h1.own (S:=fun _=>False) he2 (fun b hb=>hb) fun b hb=>by
  have e:b6=b:=Option.some.inj hb
  exact⟨by omega,.inr (by omega)⟩
 have hl5:=hB1.lt
 have hT0:TmsR (Low w) w kw t.ks:=hks.weaken fun b _ hl=>hl
 refine vloop_up t.ks.length (fun i u w'=> ∃kv st3 vs rs,u=[kv,.int .i64 i]∧Fm n D (O1 kv) w b4 b8 w' st3∧Blk w' b5 [.int .i64 t.op,.int .i64 t.a,.int .i64 t.b,.string t.s,kw] zb∧(∀b,kv.ownBlock=some b→b≠b5)∧OwnV PP yh w' kv vs∧vs.length=i∧rs.length=i∧
  (∀j,j<i→Ints (Kp b4 b8 (O1 kv)) w' (vs.getD j undef) (rs.getD j []))∧(∀r,r∈rs→SnL st3 r)∧M.Bd.Out n (M.seqB ((t.ks.take i).map (M.termB ds))) st st3 rs)
  ⟨_,st,[],[],rfl,h2,hB1.ext he2,fun b hb=>by have e:b6=b:=Option.some.inj hb;omega,ho2,rfl,rfl,fun j hj=>absurd hj (by omega),(fun r hr=>by cases hr),M.Bd.Out.ret _ _⟩ ?_
 rintro i _ g w3 C hi ⟨kv,st3,vs,rs,rfl,h3,hB3,hn5,ho3,hvl,hrl,hint,hsn,hto⟩ hC
 have hT3:TmsR (Low w) w3 kw t.ks:=hT0.ext h3.ext
 simp(disch:=first|(simp only[push_cast];done)|omega) only[push_cast,hB3.ld4,hT3.len]
 refine zh (fun a=>?_) (fun a=>?_)
 ·have hi':i<t.ks.length:=by omega
  refine spec_nil fun vz w4 hz4 e4 hnz4=>?_
  refine zr fun w5 he5 _=>?_
  have e35:=e4.trans he5
  have h5:=h3.grow e35
  have hB5:=hB3.ext e35
  have hT5:=hT3.ext e35
  obtain⟨c5,hk5,hld5⟩:=h5.call
  simp(disch:=first|(simp only[push_cast];done)|omega) only[push_cast,hB5.ld4,hT5.iaddr,hld5 w5 (Same.refl _ _),true_and]
  refine hT5.load zQ hi' fun x hx=>?_
  simp only[push_cast,true_and]
  have hmem:t.ks.getD i default∈t.ks:=M.getD_mem hi' _
  refine ih _ hmem ((M.sort_parts hs).2.1 _ hmem) hk5 h5.dl (hdv.ext h5.ext) hx fun w6 cs6 st6 r zs he6 hk6 hz6 hsn6 ho6=>?_
  simp only[push_cast,true_and]
  refine h5.put he6 hk6 fun w7 h7 hs7 hz7=>?_
  try simp only[push_cast,true_and,and_self]
  have l5:=h5.lt4
  have hr7:Ints (Kp b4 b8 (O1 kv)) w7 r zs:=Ints.same (Ints.weaken (F':=Kp b4 b8 (O1 kv)) hz6 fun b hb _=>by
   have hb':w5.heap.size≤b:=hb
   exact⟨by omega,by omega,fun hO=>by have:=(h5.off b hO).1;omega⟩) hs7 fun b hb _ e=>hb.1 e
  have ho7:OwnV PP yh w7 kv vs:=((ho3.ext e35).ext he6).same hs7 fun b hb=>(h3.off b hb).2.2.1
  have hB7:=(hB5.ext he6).same hs7 (fun e=>hne.2.1 e)
  have hint7:∀j,j<i→Ints (Kp b4 b8 (O1 kv)) w7 (vs.getD j undef) (rs.getD j []):=fun j hj=>Ints.kp4 (Ints.ext (Ints.ext (hint j hj) e35) he6) hs7
  refine yc jA0 ZD0 Y10 rfl (Sl.cells1 hr7) fun b9 w9 hb9 he9 hz9 hB9=>?_
  refine(ho7.ext he9).app1 Yk0 hB9 (Sl.one hr7) (by omega) (by omega) fun v10 w10 ho10 hs10 hn10=>?_
  try simp(disch:=omega) only[push_cast,zF]
  have h10:Fm n D (O1 v10) w b4 b8 w10 st6:=(h7.grow he9).own hs10 (fun b hb=>hb) fun b hb=>⟨ho10.lt hb,hn10 b hb⟩
  have hkp:∀{xv:Value} {xs:List Int},Ints (Kp b4 b8 (O1 kv)) w7 xv xs→Ints (Kp b4 b8 (O1 v10)) w10 xv xs:=fun h=>Ints.kpO (Ints.ext h he9) hs10 (fun b hb=>hb) fun b hb=>hn10 b hb
  have hB9':=hB7.ext he9
  have hl9:=hB9'.lt
  refine hC hi' _ _ ⟨v10,st6,vs++[r],rs++[zs],by simp,h10,hB9'.same hs10 (fun e=>hn5 _ e rfl),fun b hb=>(hn10 b hb).elim (hn5 b) fun h=>by omega,ho10,by simp[hvl],by simp[hrl],fun j hj=>?_,fun q hq=>?_,?_⟩
  ·by_cases c:j<i
   ·rw[U8 (by omega),U8 (by omega)]
    exact hkp (hint7 j c)
   ·have:j=i:=by omega
    subst this
    rw[U9 hvl,U9 hrl]
    exact hkp hr7
  ·rcases List.mem_append.1 hq with h|h
   ·exact(hsn q h).out ho6
   ·rw[List.mem_singleton.1 h];exact hsn6
  ·rw[M.take_add hi' default,List.map_append]
   exact Z80 hto ho6
 have hi':i=t.ks.length:=by omega
 subst hi'
 rw[List.take_length] at hto
 obtain⟨hrl',hre⟩:=M.seq_reach hto.reach
 have hlen:∀j,j<t.ks.length→(rs.getD j []).length=M.lenS (M.sortM ds (M.kid t j)):=fun j hj=>by
  have hmem:t.ks.getD j default∈t.ks:=M.getD_mem hj _
  have:=M.term_len hok _ ((M.sort_parts hs).2.1 _ hmem) (hre j hj)
  rw[this];rfl
 have hkids:KidsS w3 kv rs:=⟨vs,_,ho3.vals,by omega,fun j hj=>Ints.weaken (hint j (by omega)) fun _ _ _=>trivial⟩
 have fin:∀{st4:Option M.Gs} {zs:List Int},M.Bd.Out n (M.nodeB ds t rs) st3 st4 zs→M.Bd.Out n (M.termB ds t) st st4 zs:=fun h=>by
  rw[M.termB_eq];exact M.Bd.Out.bind hto h
 have hterm:∀w',Ext w3 w'→TermR (Low w) w' (.agg ⟨[.int .i64 t.op,.int .i64 t.a,.int .i64 t.b,.string t.s,kw]⟩) t:=fun w' he=>⟨kw,rfl,hT3.ext he⟩
 obtain⟨c3,hk3,hld3⟩:=h3.call
 have hllen:∀(w':World) (K:Value→World→Prop),vbi PP .len [yh] zd [kv] w' K=K (.int .i64 t.ks.length) w':=fun w' K=>by rw[ho3.vals.len Yd0,hvl]
 rw[hllen]
 simp only[push_cast]
 obtain⟨har,hp,hop⟩:=M.right_op hs
 obtain⟨q1,q2,q3,q4,q5,q6,q7⟩:=M.node_right hok hs (L:=fun i=>(rs.getD i []).length) hlen
 have get:∀i,i<rs.length→SnL st3 (rs.getD i []):=fun i hi=>hsn _ (M.getD_mem hi [])
 refine zh (fun c0=>?_) (fun c0=>?_)
 ·have h0:t.ks.length=0:=by omega
  refine zr fun w4 he4 _=>?_
  have hB4:=hB3.ext he4
  simp(disch:=first|(simp only[push_cast];done)|omega) only[push_cast,hld3 w4 he4,hB4.ldAgg (t:=zb) zQ,true_and]
  refine sleaf8_spec (n:=n) (st:=st3) hok hs h0 (hdv.ext (h3.ext.trans he4)) (hterm w4 he4) fun w5 r zs he5 ho5 hn5' hz5 hout5=>?_
  simp only[hld3 w5 (he4.trans he5),true_and,and_self]
  have z4:=he4.size
  refine h3.res (he4.trans he5) (hk3.ext (he4.trans he5) fun _ h _=>h) (jV ho5 fun b hb=>by have:=hn5' b hb;omega) fun w6 e6 hk6 hz6=>hK w6 c3 st3 r zs e6 hk6 hz6 hz5 (fin ?_)
  have:rs=[]:=List.length_eq_zero_iff.1 (by omega)
  rw[this];exact hout5
 have hop2: ¬(t.op=20∨t.op=21∨t.op=24):=fun h=>by
  have:M.arity t.op=0:=by rcases h with h|h|h<;>rw[h]<;>decide
  omega
 obtain⟨vs',hA,hvs⟩:=hkids.vals
 simp(disch:=first|(simp only[push_cast];done)|omega) only[push_cast,hB3.ld0]
 refine zh (fun c=>?_) (fun c22=>?_)
 ·obtain⟨k1,b0,ba,aL,L4⟩:=q5 c
  have aL':t.a<((rs.getD 0 []).length:Int):=aL
  have L4':(rs.getD 0 []).length≤4:=L4
  refine zr fun w4 he4 _=>?_
  have hB4:=hB3.ext he4
  have A0:∀w',Ext w3 w'→∀K:Value→World→Prop,zm PP yh kv (.int .i64 0) w' K=K (.pointer (some (eaddr kv 1 0))) w':=fun w' he K=>(hA w' he 0 (by omega) K).1
  have B0:∀w',Ext w3 w'→∀K:Value→World→Prop,ze PP zg (.pointer (some (eaddr kv 1 0))) w' K=K (vs'.getD 0 undef) w':=fun w' he K=>(hA w' he 0 (by omega) K).2
  obtain⟨cv,hcv,hci⟩:=cutEq (kl:= .i64) (kh:= .i64) (lo:=t.b.toNat) (hi:=(t.a+1).toNat) (hvs 0 (by omega)) (by omega) (by omega)
  have hcv':∀(w':World) (K:Value→World→Prop),yq PP zg (vs'.getD 0 undef) (some (.int .i64 t.b)) (some (.int .i64 (t.a+1))) none w' K=K cv w':=fun w' K=>by
   have:=hcv w' K
   rwa[show((t.b.toNat:Nat):Int)=t.b by omega,show(((t.a+1).toNat:Nat):Int)=t.a+1 by omega] at this
  simp(disch:=first|(simp only[push_cast];done)|omega) only[push_cast,hld3 w4 he4,A0 w4 he4,B0 w4 he4,hB4.ld1,hB4.ld2,zF,hcv',true_and]
  refine spec_nil fun v5 w5 ho5 e5 hn5'=>?_
  have e35:=he4.trans e5
  have hB5:=hB4.ext e5
  simp(disch:=first|(simp only[push_cast];done)|omega) only[push_cast,hld3 w5 e35,A0 w5 e35,B0 w5 e35,hB5.ld1,hB5.ld2,zF,hcv',true_and,and_self]
  refine ho5.app Zn (Ints.ext hci e35) (by simp;omega) (by simp;omega) fun v6 w6 ho6 hs6 hn6=>?_
  have z4:=he4.size;have z5:=e5.size
  have e46:Ext w4 w6:=Ext.then e5 hs6 fun b hb=>hn5' b hb
  simp(disch:=first|(simp only[push_cast];done)|omega) only[push_cast,hld3 w6 (he4.trans e46),true_and,and_self]
  refine h3.res (he4.trans e46) (hk3.ext (he4.trans e46) fun _ h _=>h) (jV ho6 fun b hb=>(hn6 b hb).elim (fun h=>by have:=hn5' b h;omega) fun h=>by omega) fun w7 e7 hk7 hz7=>hK w7 c3 st3 v6 _ e7 hk7 hz7 (fun x hx=>?_) (fin ?_)
  ·rw[List.nil_append] at hx
   exact get 0 (by omega) x (List.mem_of_mem_drop (List.mem_of_mem_take hx))
  ·rw[List.nil_append]
   unfold M.nodeB
   rw[if_neg (by omega),if_neg (by omega),if_neg (by omega),if_neg (by omega),if_neg (by omega),if_neg (by omega),if_neg (by omega),if_pos c,show(t.a-t.b+1).toNat=(t.a+1).toNat-t.b.toNat by omega]
   exact M.Bd.Out.ret _ _
 try simp(disch:=first|(simp only[push_cast];done)|omega) only[push_cast,hB3.ld0]
 refine zh (fun c=>?_) (fun cg=>?_)
 ·simp(disch:=first|(simp only[push_cast];done)|omega) only[push_cast,hld3 w3 (Same.refl _ _),hB3.ldAgg (t:=zb) zQ]
  refine slogic8_spec hok hs (by omega) (fun h=>hop2 (.inr (.inr h))) hn hk3 h3.dl (hterm w3 (Same.refl _ _)) hkids hrl' hlen hsn fun w4 cs4 st4 r zs he4 hk4 hz4 hsn4 ho4=>?_
  simp only[push_cast]
  exact h3.res he4 hk4 hz4 fun w5 e5 hk5 hz5=>hK w5 cs4 st4 r zs e5 hk5 hz5 hsn4 (fin ho4)
 have hnode:M.nodeB ds t rs=if t.op≤2 then M.unB t.op (rs.getD 0 []) else if 15≤t.op∧t.op≤17 then(M.cmpB t.op (rs.getD 0 []) (rs.getD 1 [])).map fun v=>[v] else M.binB t.op (rs.getD 0 []) (rs.getD 1 []):=by
  unfold M.nodeB
  rw[if_neg (by omega),if_neg (by omega),if_neg (by omega),if_neg (by omega),if_neg (by omega),if_neg (by omega),if_neg (by omega),if_neg (by omega)]
 rw[hnode] at fin
 rw[hllen]
 simp only[push_cast]
 refine zh (fun c1=>?_) (fun c1=>?_)
 ·have hop12:t.op≤2:=Classical.byContradiction fun h=>by
   by_cases c15:15≤t.op
   ·have:=(q4 c15 (by omega)).1;omega
   ·by_cases c14:t.op=14
    ·have:=(q3 c14).1;omega
    ·have:=(q2 (by omega) (by omega)).1;omega
  rw[if_pos hop12] at fin
  obtain⟨k1,l1,l4⟩:=q1 (by omega) hop12
  have l4':(rs.getD 0 []).length≤4:=l4
  refine zr fun w4 he4 _=>?_
  have hB4:=hB3.ext he4
  have A0:∀K:Value→World→Prop,zm PP yh kv (.int .i64 0) w4 K=K (.pointer (some (eaddr kv 1 0))) w4:=fun K=>(hA w4 he4 0 (by omega) K).1
  have B0:∀K:Value→World→Prop,ze PP zg (.pointer (some (eaddr kv 1 0))) w4 K=K (vs'.getD 0 undef) w4:=fun K=>(hA w4 he4 0 (by omega) K).2
  simp(disch:=first|(simp only[push_cast];done)|omega) only[push_cast,hld3 w4 he4,A0,B0,hB4.ld0,true_and]
  have h4:=h3.grow he4
  refine sun7_spec (by omega) hn (hk3.ext he4 fun _ h _=>h) h4.dl (Ints.ext (hvs 0 (by omega)) he4) (by omega) (get 0 (by omega)) fun w5 cs5 st5 r zs he5 hk5 hz5 hsn5 ho5=>?_
  simp only[push_cast,true_and]
  exact h4.res he5 hk5 hz5 fun w6 e6 hk6 hz6=>hK w6 cs5 st5 r zs e6 hk6 hz6 hsn5 (fin ho5)
 have hop3:3≤t.op:=Classical.byContradiction fun h=>by have:=(q1 (by omega) (by omega)).1;omega
 rw[if_neg (by omega)] at fin
 try simp(disch:=first|(simp only[push_cast];done)|omega) only[push_cast,hB3.ld0]
 refine zh (fun c15=>?_) (fun c15=>?_)
 ·rw[if_pos (by omega)] at fin
  obtain⟨k1,l0,l1,l4⟩:=q4 (by omega) (by omega)
  have l0':(rs.getD 0 []).length=(rs.getD 1 []).length:=l0
  have l1':1≤(rs.getD 0 []).length:=l1
  have l4':(rs.getD 0 []).length≤4:=l4
  refine zr fun w4 he4 _=>?_
  have hB4:=hB3.ext he4
  have A0:∀K:Value→World→Prop,zm PP yh kv (.int .i64 0) w4 K=K (.pointer (some (eaddr kv 1 0))) w4:=fun K=>(hA w4 he4 0 (by omega) K).1
  have B0:∀K:Value→World→Prop,ze PP zg (.pointer (some (eaddr kv 1 0))) w4 K=K (vs'.getD 0 undef) w4:=fun K=>(hA w4 he4 0 (by omega) K).2
  have A1:∀K:Value→World→Prop,zm PP yh kv (.int .i64 1) w4 K=K (.pointer (some (eaddr kv 1 1))) w4:=fun K=>(hA w4 he4 1 (by omega) K).1
  have B1:∀K:Value→World→Prop,ze PP zg (.pointer (some (eaddr kv 1 1))) w4 K=K (vs'.getD 1 undef) w4:=fun K=>(hA w4 he4 1 (by omega) K).2
  simp(disch:=first|(simp only[push_cast];done)|omega) only[push_cast,hld3 w4 he4,A0,B0,A1,B1,hB4.ld0,true_and]
  have h4:=h3.grow he4
  refine scmp7_spec (by omega) (by omega) hn (hk3.ext he4 fun _ h _=>h) h4.dl (Ints.ext (hvs 0 (by omega)) he4) (Ints.ext (hvs 1 (by omega)) he4) l0' l1' (by omega) (get 0 (by omega)) (get 1 (by omega)) fun w5 cs5 st5 r he5 hk5 hr5 ho5=>?_
  simp only[push_cast,true_and]
  refine h4.put he5 hk5 fun w6 h6 hs6 hz6=>?_
  try simp only[push_cast,true_and,and_self]
  obtain⟨c6,hk6,hld6⟩:=h6.call
  simp only[hld6 w6 (Same.refl _ _)]
  refine spec_one fun w7 rv he7 ho7 hn7=>?_
  exact h6.res he7 (hk6.ext he7 fun _ h _=>h) (jV ho7 hn7) fun w8 e8 hk8 hz8=>hK w8 c6 st5 rv [r] e8 hk8 hz8 (SnL.one hr5) (fin (M.Bd.Out.map _ ho5))
 rw[if_neg (by omega)] at fin
 have hlr:t.ks.length=2∧(t.op≠14→(rs.getD 0 []).length=(rs.getD 1 []).length)∧1≤(rs.getD 0 []).length∧(rs.getD 0 []).length≤8∧(rs.getD 1 []).length≤8:=by
  by_cases c:t.op=14
  ·obtain⟨a1,a2,a3,a4⟩:=q3 c
   exact⟨a1,fun h=>absurd c h,a2,by omega,by omega⟩
  ·obtain⟨a1,a2,a3,a4⟩:=q2 (by omega) (by omega)
   exact⟨a1,fun _=>a2,a3,by omega,by omega⟩
 obtain⟨k1,l0,l1,l2,l3⟩:=hlr
 refine zr fun w4 he4 _=>?_
 have hB4:=hB3.ext he4
 have A0:∀K:Value→World→Prop,zm PP yh kv (.int .i64 0) w4 K=K (.pointer (some (eaddr kv 1 0))) w4:=fun K=>(hA w4 he4 0 (by omega) K).1
 have B0:∀K:Value→World→Prop,ze PP zg (.pointer (some (eaddr kv 1 0))) w4 K=K (vs'.getD 0 undef) w4:=fun K=>(hA w4 he4 0 (by omega) K).2
 have A1:∀K:Value→World→Prop,zm PP yh kv (.int .i64 1) w4 K=K (.pointer (some (eaddr kv 1 1))) w4:=fun K=>(hA w4 he4 1 (by omega) K).1
 have B1:∀K:Value→World→Prop,ze PP zg (.pointer (some (eaddr kv 1 1))) w4 K=K (vs'.getD 1 undef) w4:=fun K=>(hA w4 he4 1 (by omega) K).2
 simp(disch:=first|(simp only[push_cast];done)|omega) only[push_cast,hld3 w4 he4,A0,B0,A1,B1,hB4.ld0,true_and]
 have h4:=h3.grow he4
 refine sbin7_spec hop3 (by omega) hn (hk3.ext he4 fun _ h _=>h) h4.dl (Ints.ext (hvs 0 (by omega)) he4) (Ints.ext (hvs 1 (by omega)) he4) l0 l1 l2 l3 (get 0 (by omega)) (get 1 (by omega)) fun w5 cs5 st5 r zs he5 hk5 hz5 hsn5 ho5=>?_
 simp only[push_cast,true_and]
 exact h4.res he5 hk5 hz5 fun w6 e6 hk6 hz6=>hK w6 cs5 st5 r zs e6 hk6 hz6 hsn5 (fin ho5)
end Go.Proofs.YtaekfnbnhjgboaaGreatDoor
end
section
namespace Go.Proofs.YtaekfnbnhjgboaaGreatDoor
open Go Go.Vc Go.Proofs
variable {w:World} {K:Value→World→Prop} {D F Fx Fy Y S O O':Nat→Prop} {n b4 b8:Nat} {gs gs':M.Gs} {v v' nv xv yv sv dv tv kv:Value} {cs cs' ts:List Value} {st st':Option M.Gs} {a b c m x y r:Int} {xs ys:List Int} {ds:List M.Dcl} {t:M.Tm} {rs:List (List Int)}
theorem bits_nat (hd:M.declOk ds=true):M.bits ds=(((M.bits ds).toNat:Nat):Int)∧(M.bits ds).toNat≤8:=by
 have h8:=(M.decl_iff.1 hd).2.2
 have h0:=(dcl_small hd (i:=ds.length) (Nat.le_refl _)).1
 rw[M.bitT_all] at h0
 exact⟨by omega,by omega⟩
theorem qR0 {zs:List Int} (ht:M.tsort ds t≠ -1) (ho:M.Bd.Out (M.bits ds).toNat (M.termB ds t) (some []) st zs):toldR (M.bits ds).toNat st zs=blastR ds t:=by
 unfold blastR
 rw[if_neg ht]
 rcases ho with⟨gs,h1,rfl⟩|⟨h1,rfl,_⟩
 ·rw[h1];rfl
 ·rw[h1];rfl
theorem out_lens {zs:List Int} (hd:M.declOk ds=true) (hs:M.sortM ds t≠ -1) (ho:M.Bd.Out n (M.termB ds t) st st' zs):zs.length=M.lenS (M.sortM ds t)∧zs.length≤4:=by
 have h1:=M.term_len hd t hs ho.reach
 have h2:=M.sort_range hd t
 refine⟨h1,?_⟩
 rw[h1];unfold M.lenS;omega
theorem spec_Blast_spec (hsz:qo0 ds) (hdv:DclsR Fx w dv ds) (ht:TermR Fy w tv t)
  (hK:∀w' gv lv,Ext w w'→OwnG w' gv (blastR ds t).2.1→OwnI PP zg w' lv (blastR ds t).2.2→(∀b,gv.ownBlock=some b→w.heap.size≤b)→(∀b,lv.ownBlock=some b→w.heap.size≤b∧gv.ownBlock≠some b)→K (.tuple #[.agg ⟨[.int .i64 (blastR ds t).1,gv]⟩,lv]) w'):
  vcall PP qy #[dv,tv] w K:=by
 apply xT0;unfold WJ
 obtain⟨cs,rfl,hcs⟩:=ht.cells
 refine zu fun b1 w1 hb1 he1 hz1 hB1=>?_
 refine zE yV fun b2 w2 hb2 he2 hz2 hB2=>?_
 have e2:=he1.trans he2
 have hB12:=hB1.ext he2
 have hld:∀w':World,Blk w' b1 cs zb→∀K:Value→World→Prop,ze PP zb (.pointer (some ⟨b1,0,none⟩)) w' K=K (.agg ⟨cs⟩) w':=fun w' h K=>h.ldAgg (t:=zb) (by rw[qu hcs];exact zQ)
 rw[hld w2 hB12]
 refine spec_TermSort_spec hsz (hdv.ext e2) (hcs.ext e2).term fun w3 he3=>?_
 have e3:=e2.trans he3
 have hB13:=hB12.ext he3
 have hB23:=hB2.ext he3
 have z1:=he1.size;have z2:=he2.size;have z3:=he3.size
 simp only[push_cast]
 have hge: -1≤M.tsort ds t:=by
  unfold M.tsort;split
  ·next h=>exact(M.sort_range h.2 t).1
  ·exact Int.le_refl _
 refine zh (fun c=>?_) (fun c=>?_)
 ·have c':M.tsort ds t= -1:=by omega
  unfold blastR at hK
  rw[if_pos c'] at hK
  rw[x50]
  refine spec_nil fun v4 w4 ho4 e4 hn4=>?_
  refine net_out (hB23.ext e4) rfl rfl net_one fun w5 hs5=>?_
  have s4:=e4.size
  exact hK w5 _ v4 (Ext.then (e3.trans e4) hs5 fun b hb=>by omega) OwnG.nil (ho4.same hs5 fun b hb e=>by have:=hn4 b hb;omega) (fun b hb=>by cases hb) fun b hb=>⟨by have:=hn4 b hb;omega,fun h=>by cases h⟩
 ·have c':M.tsort ds t≠ -1:=by omega
  obtain⟨hfit,hd,hs,h20⟩:=U2 c'
  obtain⟨hbn,hb8⟩:=bits_nat hd
  refine zr fun w4 he4 _=>?_
  have hB14:=hB13.ext he4
  simp only[push_cast,hld w4 hB14,true_and]
  refine sbits8_spec (k:=ds.length) hd (Nat.le_refl _) (by rw[List.take_length];exact hdv.ext (e3.trans he4)) fun w5 he5=>?_
  rw[M.bitT_all,hbn]
  have hB15:=hB14.ext he5
  have e5:=(e3.trans he4).trans he5
  simp only[push_cast,hld w5 hB15,true_and,and_self,kg0,Yz0]
  refine sdo8_spec hd hb8 t hs (D:=fun _=>False) (st:=some []) ⟨none,0,0,rfl,GatesR.nil,by simp⟩ (fun b hb=>hb.elim) (hdv.ext e5) (hcs.ext e5).term fun w6 cs6 st6 r zs he6 hk6 hz6 hsn6 ho6=>?_
  simp only[push_cast,true_and]
  have hzl:=out_lens hd hs ho6
  refine told7_spec hk6 hz6 (by omega) fun w7 o c7 lv he7 hog hol hno hnl=>?_
  rw[qR0 c' ho6] at hog hol hno hnl⊢
  simp only[push_cast,true_and]
  have z4:=he4.size;have z5:=he5.size;have z6:=he6.size
  have hB27:=(((hB23.ext he4).ext he5).ext he6).ext he7
  refine net_out hB27 rfl rfl net_one fun w8 hs8=>?_
  refine hK w8 _ lv (Ext.then (e5.trans (he6.trans he7)) hs8 fun b hb=>by omega) (Own.same hog hs8 fun b hb e=>by have:=hno b hb;omega) (hol.same hs8 fun b hb e=>by have:=(hnl b hb).1;omega) (fun b hb=>by have:=hno b hb;omega) fun b hb=>⟨by have:=(hnl b hb).1;omega,(hnl b hb).2⟩
end Go.Proofs.YtaekfnbnhjgboaaGreatDoor
end
section
namespace Go.M
open Go.Vc
mutual
def sameT:Tm→Tm→Bool
 | .mk o a b s ks,.mk o' a' b' s' ks'=>decide (o=o')&&decide (a=a')&&decide (b=b')&&decide (s=s')&&sameL ks ks'
def sameL:List Tm→List Tm→Bool
 |[],[]=>true
 |x::xs,y::ys=>sameT x y&&sameL xs ys
 |[],_::_=>false
 |_::_,[]=>false
end
theorem Z40 {xs:List Tm} (ih:∀k,k∈xs→∀y,sameT k y=true↔k=y):∀ys,sameL xs ys=true↔xs=ys:=by
 induction xs with
 |nil=>intro ys;cases ys<;>simp[sameL]
 |cons x xs ihx=>
  intro ys
  cases ys with
  |nil=>simp[sameL]
  |cons y ys=>
   rw[sameL,Bool.and_eq_true,ih x List.mem_cons_self,ihx (fun k hk=>ih k (List.mem_cons_of_mem _ hk)),List.cons.injEq]
theorem jF0:∀t u:Tm,sameT t u=true↔t=u:=by
 refine Tm.ind fun t ih u=>?_
 cases t with
 |mk o a b s ks=>
  cases u with
  |mk o' a' b' s' ks'=>
   rw[sameT,Bool.and_eq_true,Z40 (xs:=ks) ih]
   simp only[Bool.and_eq_true,decide_eq_true_eq,Tm.mk.injEq,and_assoc]
instance:DecidableEq Tm:=fun t u=>decidable_of_iff _ (jF0 t u)
def truT:Tm:= .mk 24 0 0 nada []
def flsT:Tm:= .mk 25 0 0 nada [truT]
def ZS0 (t:Tm):Option Int:=if t=truT then some 1 else if t=flsT then some 0 else if t.op=20∧t.ks=[]∧t.s=nada∧vok t.a t.b=true then some t.b else none
def isM (t:Tm) (n:Int):Bool:=decide (ZS0 t=some n)
def xx0 (w n:Int):Tm:=if 0<w then .mk 20 w n nada [] else if n=1 then truT else flsT
def Y20 (ds:List Dcl):List Int:=List.replicate ds.length 0
theorem zeroE_ok {ds:List Dcl} (h:declOk ds=true):W0 ds (Y20 ds)=true:=by
 unfold W0 Y20
 rw[h,List.length_replicate]
 simp only[decide_true,Bool.true_and,List.all_eq_true,List.mem_range]
 intro i hi
 have hw:=dcl_wide h hi
 have:(List.replicate ds.length (0:Int)).getD i 0=0:=by simp[List.getD_eq_getElem?_getD,List.getElem?_replicate,hi]
 rw[this,vok_iff]
 exact⟨hw.1,hw.2,Int.le_refl _,Int.pow_pos (by decide)⟩
section
variable {ds:List Dcl} {env:List Int} {t u:Tm} {w n:Int}
def ZA0 (t:Tm):Bool:=decide (t.ks≠[])&&t.ks.all fun k=>(ZS0 k).isSome
def ruleX (ds:List Dcl) (t:Tm):Option Tm:=if ZA0 t=true then some (xx0 (sortM ds t) (k7 ds (Y20 ds) t)) else none
def ruleB (t:Tm):Option Tm:=
 if t.op=25∧(kid t 0).op=25 then some (kid (kid t 0) 0)
 else if t.op≠23 then none
 else if isM (kid t 0) 1=true then some (kid t 1)
 else if isM (kid t 0) 0=true then some (kid t 2)
 else if kid t 1=kid t 2 then some (kid t 1) else none
def Un (o:Int):Int:=if o=26 then 1 else 0
def ruleT (t:Tm):Option Tm:=
 if t.op=26∨t.op=27 then
  if isM (kid t 0) (Un t.op)=true∨kid t 0=kid t 1 then some (kid t 1)
  else if isM (kid t 1) (Un t.op)=true then some (kid t 0)
  else if isM (kid t 0) (1-Un t.op)=true∨isM (kid t 1) (1-Un t.op)=true then some (xx0 0 (1-Un t.op)) else none
 else none
def ruleL (ds:List Dcl) (t:Tm):Option Tm:=
 if t.op=22 then(if t.b=0∧t.a=sortM ds (kid t 0)-1 then some (kid t 0) else none)
 else if(t.op=1∨t.op=2)∧(kid t 0).op=t.op then some (kid (kid t 0) 0) else none
def ruleW (ds:List Dcl) (t:Tm):Option Tm:=
 if t.ks.length=2∧kid t 0=kid t 1 then
  if t.op=3∨t.op=4 then some (kid t 0)
  else if t.op=5∨t.op=7 then some (xx0 (sortM ds t) 0)
  else if t.op=15 then some (xx0 0 1)
  else if t.op=16∨t.op=17 then some (xx0 0 0) else none
 else none
def ruleS (t:Tm):Option Tm:=
 if t.ks.length=2 then
  if isM (kid t 1) 0=true∧(t.op=4∨t.op=5∨t.op=6∨t.op=7∨t.op=11∨t.op=12∨t.op=13) then some (kid t 0)
  else if isM (kid t 1) 0=true∧(t.op=3∨t.op=8) then some (kid t 1)
  else if isM (kid t 1) 1=true∧t.op=8 then some (kid t 0) else none
 else none
def ruleF (t:Tm):Option Tm:=
 if t.ks.length=2 then
  if isM (kid t 0) 0=true∧(t.op=4∨t.op=5∨t.op=6) then some (kid t 1)
  else if isM (kid t 0) 0=true∧(t.op=3∨t.op=8) then some (kid t 0)
  else if isM (kid t 0) 1=true∧t.op=8 then some (kid t 1) else none
 else none
def binT (w n:Nat):Prop:=
 (binN 3 w n n=n∧binN 4 w n n=n∧binN 5 w n n=0∧binN 7 w n n=0)∧
 (binN 4 w n 0=n∧binN 5 w n 0=n∧binN 6 w n 0=n∧binN 7 w n 0=n∧binN 11 w n 0=n∧binN 12 w n 0=n∧binN 13 w n 0=n)∧
 (binN 3 w n 0=0∧binN 8 w n 0=0∧binN 8 w n 1=n)∧
 (binN 4 w 0 n=n∧binN 5 w 0 n=n∧binN 6 w 0 n=n∧binN 3 w 0 n=0∧binN 8 w 0 n=0∧binN 8 w 1 n=n)
instance (w n:Nat):Decidable (binT w n):=by unfold binT;infer_instance
end
end Go.M
end
section
namespace Go.M
open Go.Vc
section
variable {ds:List Dcl} {env:List Int} {t u:Tm} {w n:Int}
theorem size_pos:1≤sizeM t∧1≤deepM t:=by rw[sizeM_eq,qJ0];omega
end
end Go.M
end
section
namespace Go.M
structure Cnf where
 many:Int
 list:List (List Int)
structure Sat where
 put:List Int
 why:List Int
 learned:List (List Int)
 code:Int
end Go.M
namespace Go.M
end Go.M
namespace Go.M
end Go.M
namespace Go.M
end Go.M
namespace Go.M
end Go.M
namespace Go.M
end Go.M
namespace Go.M
end Go.M
end
section
namespace Go.M
theorem qy0 {α:Type} {a b:List α} {i:Nat} {d:α} (h:a<+:b) (hi:i<a.length):b.getD i d=a.getD i d:=by
 obtain⟨t,rfl⟩:=h
 rw[List.getD_eq_getElem?_getD,List.getElem?_append_left hi,←List.getD_eq_getElem?_getD]
theorem kX0 {ins:List Bool} {gs:Gs} {i:Nat} (hi:i<ins.length):(valsG (true::ins) gs).getD (i+1) false=ins.getD i false:=by
 rw[qy0 (valsG_pre gs (true::ins)) (by simpa using hi),List.getD_cons_succ]
theorem jz0 {ins:List Bool} {gs:Gs}:(valsG (true::ins) gs).getD 0 false=true:=by
 rw[qy0 (valsG_pre gs (true::ins)) (by simp)];rfl
end Go.M
end
section
namespace Go.M
variable {ds:List Dcl} {env:List Int}
theorem Yg0 (ins:List Bool) (F:Gs):Rho (Zm (valsG (true::ins) F)):=⟨fun m h=>lit_neg _ h,by
 unfold Zm
 rw[if_pos (by decide)]
 exact jz0⟩
theorem ins_lit (F:Gs):Ins (Zm (valsG (true::insM ds env) F)) ds env:=fun i hi=>by
 unfold Zm
 rw[if_pos (by omega),show((2:Int)+i-1).toNat=i+1 by omega]
 exact kX0 hi
def nIn (ds:List Dcl):Nat:=(bits ds).toNat
theorem nIn_eq (h:declOk ds=true):(nIn ds:Int)=bits ds∧nIn ds≤8:=by
 have:=bits_pos' (dpos h)
 have:=(decl_iff.1 h).2.2
 unfold nIn;omega
theorem insM_n (he:W0 ds env=true):(insM ds env).length=nIn ds:=by
 have hd:=(env_ok he).1
 have:=insM_len (env_ok he).2.1 (dpos hd)
 have:=(nIn_eq hd).1
 omega
def Zf0 (ds:List Dcl) (ts:List Tm):Option (Gs×List (List Int)):=(seqB (ts.map (termB ds))).run (nIn ds) []
def blastB (ds:List Dcl) (t:Tm):Option (Gs×List Int):=(termB ds t).run (nIn ds) []
theorem Ze0 (t:Tm):Zf0 ds [t]=(blastB ds t).map fun r=>(r.1,[r.2]):=by
 unfold Zf0 blastB
 show((termB ds t).bind fun r=>(Bd.ret []:Bd (List (List Int))).map (r:: ·)).run _ _=_
 rw[Bd.run_bind]
 cases (termB ds t).run (nIn ds) [] with
 |none=>rfl
 |some r=>rfl
structure ListSays (ds:List Dcl) (ts:List Tm) (gs:Gs) (rs:List (List Int)):Prop where
 net:NetG (nIn ds) gs
 many:rs.length=ts.length
 has:∀r,r∈rs→hasL (1+nIn ds+gs.length) r
 len:∀i,i<ts.length→(rs.getD i []).length=lenS (sortM ds (ts.getD i default))
 says:∀env,W0 ds env=true→rs.map (fun r=>r.map (Zm (valsG (true::insM ds env) gs)))=ts.map fun u=>Je (sortM ds u) (k7 ds env u)
theorem nilG (n:Nat):NetG n []:=⟨by simp,fun k h=>absurd h (by simp),List.nodup_nil⟩
theorem list_says {ts:List Tm} {gs:Gs} {rs:List (List Int)} (hd:declOk ds=true) (hs:∀t,t∈ts→sortM ds t≠ -1) (h:Zf0 ds ts=some (gs,rs)):ListSays ds ts gs rs:=by
 have key:∀env,W0 ds env=true→NetG (nIn ds) gs∧(∀r,r∈rs→hasL (1+nIn ds+gs.length) r)∧rs.map (fun r=>r.map (Zm (valsG (true::insM ds env) gs)))=ts.map fun u=>Je (sortM ds u) (k7 ds env u):=fun env he=>by
  have hn:=nIn_eq hd
  refine Says.sound (insM_n he) (nilG _) h (List.prefix_refl _) (Q:=fun k rs=>(∀r,r∈rs→hasL k r)∧rs.map (fun r=>r.map (Zm (valsG (true::insM ds env) gs)))=ts.map fun u=>Je (sortM ds u) (k7 ds env u)) ?_
  refine seq_sat (k0:=1+nIn ds) (by simp) (fun t ht {k Q} hk hq=>?_) (fun k' rs _ h1 h2=>⟨h1,h2⟩)
  exact term_sat (Yg0 _ _) he (ins_lit _) t (hs t ht) (by omega) hq
 obtain⟨h1,h2⟩:=seq_reach (Bd.reach_of_run h)
 have hz:=key _ (zeroE_ok hd)
 exact⟨hz.1,h1,hz.2.1,fun i hi=>term_len hd _ (hs _ (getD_mem hi _)) (h2 i hi),fun env he=>(key env he).2.2⟩
theorem jb0 {t:Tm} {gs:Gs} {r:List Int} (h:blastB ds t=some (gs,r)):Zf0 ds [t]=some (gs,[r]):=by rw[Ze0,h];rfl
theorem blast_says {t:Tm} {gs:Gs} {r:List Int} (hd:declOk ds=true) (hs:sortM ds t≠ -1) (h:blastB ds t=some (gs,r)):
  NetG (nIn ds) gs∧hasL (1+nIn ds+gs.length) r∧r.length=lenS (sortM ds t)∧∀env,W0 ds env=true→r.map (Zm (valsG (true::insM ds env) gs))=Je (sortM ds t) (k7 ds env t):=by
 have:=list_says hd (ts:=[t]) (fun u hu=>by rw[List.mem_singleton.1 hu];exact hs) (jb0 h)
 refine⟨this.net,this.has r (by simp),this.len 0 (by simp),fun env he=>?_⟩
 have:=this.says env he
 simpa using this
section
variable {ts:List Tm} {gs:Gs} {rs:List (List Int)}
end
end Go.M
end
section
namespace Go.Proofs.YtaekfnbnhjgboaaGreatDoor
open Go Go.Vc Go.Proofs
variable {w:World} {K:Value→World→Prop} {D F F' G Fx Fy:Nat→Prop} {n:Nat} {gs:M.Gs} {v xv yv dv tv:Value} {xs ys:List Int} {bs:List Bool} {ds:List M.Dcl} {t:M.Tm} {ar ab:Addr}
theorem Errs.ext0 {w':World} (h:Errs (fun _=>False) w ar ab) (he:Ext w w'):Errs (fun _=>False) w' ar ab:=⟨h.room.same he id,h.bits.same he id,id,id⟩
end Go.Proofs.YtaekfnbnhjgboaaGreatDoor
end
section
namespace Go.Proofs.YtaekfnbnhjgboaaGreatDoor
open Go Go.Vc Go.Proofs
variable {w:World} {K:Value→World→Prop} {D F F' G Fx Fy:Nat→Prop} {n:Nat} {gs:M.Gs} {v xv yv dv tv gv:Value} {xs ys:List Int} {bs:List Bool} {ds:List M.Dcl} {t:M.Tm} {ar ab:Addr}
theorem net_new {a:Int} {gs:M.Gs} {K:Value→World→Prop} (hg:OwnG w gv gs) (hK:∀w' b,w.heap.size≤b→Ext w w'→Blk w' b [.int .i64 a,gv] zf→OwnG w' gv gs→K (.pointer (some ⟨b,0,none⟩)) w'):
  zY PP zf w fun t4 w1=>zq PP zf t4 (.agg ⟨[.int .i64 a,gv]⟩) w1 fun _ w2=>K t4 w2:=by
 obtain⟨o,c,rfl,_⟩:=(Own.sl hg).shape
 refine zE yV fun b w1 hb1 he1 hs1 h1=>?_
 refine h1.stAgg (cs':=[.int .i64 a,.slice o (gs.map yi).length c]) rfl y8 net_one fun w2 hw2 hz2 h2=>?_
 have he2:Ext w w2:=Ext.then he1 hw2 fun y hy=>by subst hy;omega
 exact hK w2 b (by omega) he2 h2 (Own.ext hg he2)
theorem k20 {w':World} (hg:OwnG w gv gs):vbi PP .len [zk] zd [gv] w' K=K (.int .i64 gs.length) w':=by
 have h:=Own.sl hg
 simp(disch:=(simp only[push_cast];done)) only[h.len,List.length_map]
end Go.Proofs.YtaekfnbnhjgboaaGreatDoor
end
section
namespace Go.Proofs.YtaekfnbnhjgboaaGreatDoor
open Go Go.Vc Go.Proofs
variable {w:World} {K:Value→World→Prop} {D F F' G Fx Fy:Nat→Prop} {n m:Nat} {gs hs:M.Gs} {v xv yv dv tv gv' hv':Value} {xs ys env:List Int} {bs ins:List Bool} {ds:List M.Dcl} {t:M.Tm}
theorem KJ {i:Nat} (hi:i<gs.length):(gs.map yi).getD i []=yi gs[i]:=by simp[List.getD_eq_getElem?_getD,hi]
theorem US (ds:List M.Dcl) (t:M.Tm):((blastR ds t).2.2=[]∧(blastR ds t).1=0∧(blastR ds t).2.1=[])∨(M.tsort ds t≠ -1∧(blastR ds t).1=M.nIn ds∧M.blastB ds t=some ((blastR ds t).2.1,(blastR ds t).2.2)):=by
 unfold blastR M.blastB M.nIn
 by_cases h:M.tsort ds t= -1
 ·rw[if_pos h];exact .inl ⟨rfl,rfl,rfl⟩
 ·rw[if_neg h]
  cases hr:(M.termB ds t).run (M.bits ds).toNat [] with
  |none=>exact .inl ⟨rfl,rfl,rfl⟩
  |some r=>exact .inr ⟨h,rfl,rfl⟩
theorem k30 (ds:List M.Dcl) (t:M.Tm):(blastR ds t).2.1.length≤600:=by
 rcases US ds t with⟨_,_,h⟩|⟨h,h1,h2⟩
 ·rw[h];simp
 ·obtain⟨_,hd,hs,_⟩:=U2 h
  exact(M.blast_says hd hs h2).1.few
theorem sigs_few (ds:List M.Dcl) (t:M.Tm):(blastR ds t).2.2.length≤4:=by
 rcases US ds t with⟨h,_⟩|⟨h,h1,h2⟩
 ·rw[h];simp
 ·obtain⟨_,hdk,hs,_⟩:=U2 h
  have h3:=(M.blast_says hdk hs h2).2.2.1
  have h4:=M.sort_range hdk t
  rw[h3];unfold M.lenS;omega
end Go.Proofs.YtaekfnbnhjgboaaGreatDoor
end
section
namespace Go.Proofs.YtaekfnbnhjgboaaGreatDoor
open Go Go.Vc Go.Proofs
variable {w:World} {K:Value→World→Prop} {F F' D G:Nat→Prop}
def rl (ds:List M.Dcl) (t:M.Tm) (i:Nat):Option M.Tm:=[M.ruleX ds t,M.ruleB t,M.ruleT t,M.ruleL ds t,M.ruleW ds t,M.ruleS t,M.ruleF t].getD i none
end Go.Proofs.YtaekfnbnhjgboaaGreatDoor
end
section
namespace Go.Proofs.YtaekfnbnhjgboaaGreatDoor
open Go Go.Vc Go.Proofs
variable {w:World} {K:Value→World→Prop} {F F' D G:Nat→Prop}
inductive TmO (w:World):(Nat→Prop)→List Value→M.Tm→Prop
 |mk {D:Nat→Prop} {kv:Value} {t:M.Tm} (css:List (List Value)) (Ds:Nat→Nat→Prop) (own:Own PP 0 5 zt w kv css) (hl:css.length=t.ks.length)
   (hb:∀b,kv.ownBlock=some b→D b∧∀i,i<t.ks.length→¬Ds i b) (hd:∀i j b,i<j→j<t.ks.length→Ds i b→¬Ds j b) (hs:∀i b,i<t.ks.length→Ds i b→D b)
   (hk:∀i,i<t.ks.length→TmO w (Ds i) (css.getD i []) (t.ks.getD i default)):TmO w D [.int .i64 t.op,.int .i64 t.a,.int .i64 t.b,.string t.s,kv] t
theorem yb0 {cs:List Value} {t:M.Tm} (h:TmO w D cs t):∃(kv:Value) (css:List (List Value)) (Ds:Nat→Nat→Prop),cs=[.int .i64 t.op,.int .i64 t.a,.int .i64 t.b,.string t.s,kv]∧Own PP 0 5 zt w kv css∧css.length=t.ks.length∧
  (∀b,kv.ownBlock=some b→D b∧∀i,i<t.ks.length→¬Ds i b)∧(∀i j b,i<j→j<t.ks.length→Ds i b→¬Ds j b)∧(∀i b,i<t.ks.length→Ds i b→D b)∧∀i,i<t.ks.length→TmO w (Ds i) (css.getD i []) (t.ks.getD i default):=by
 cases h with
 |mk css Ds own hl hb hd hs hk=>exact⟨_,css,Ds,rfl,own,hl,hb,hd,hs,hk⟩
theorem qS0:∀(t:M.Tm) {D:Nat→Prop} {cs:List Value},TmO w D cs t→TmR D w cs t:=by
 refine M.Tm.ind fun t ih D cs h=>?_
 obtain⟨kv,css,Ds,rfl,own,hl,hb,hd,hs,hk⟩:=yb0 h
 exact TmR.of ⟨css,own.sl.weaken fun b hb' _=>(hb b hb').1,hl,fun i hi=>(ih _ (M.getD_mem hi _) (hk i hi)).weaken fun b hb' _=>hs i b hi hb'⟩
theorem YO {S:Nat→Prop} {w w':World} (hw:Same S w w'):∀(t:M.Tm) {D:Nat→Prop} {cs:List Value},TmO w D cs t→(∀b,D b→¬S b)→TmO w' D cs t:=by
 refine M.Tm.ind fun t ih D cs h hn=>?_
 obtain⟨kv,css,Ds,rfl,own,hl,hb,hd,hs,hk⟩:=yb0 h
 exact .mk css Ds (own.same hw fun b h'=>hn b (hb b h').1) hl hb hd hs fun i hi=>ih _ (M.getD_mem hi _) (hk i hi) fun b hb'=>hn b (hs i b hi hb')
theorem q70 {w':World} {cs:List Value} {t:M.Tm} (h:TmO w D cs t) (hw:Ext w w'):TmO w' D cs t:=YO hw t h fun _ _ h=>h
theorem VK {cs:List Value} {t:M.Tm} (h:TmO w D cs t) (hd':∀b,D b→F b):TmO w F cs t:=by
 obtain⟨kv,css,Ds,rfl,own,hl,hb,hd,hs,hk⟩:=yb0 h
 exact .mk css Ds own hl (fun b h=>⟨hd' b (hb b h).1,(hb b h).2⟩) hd (fun i b hi h=>hd' b (hs i b hi h)) hk
theorem retO {b:Nat} {cs cs':List Value} {t:TypeId} {t':M.Tm} {K:Value→World→Prop} (h:Blk w b cs t) (hl:cs.length=5) (hc:TmO w G cs' t') (hG:∀x,G x→x≠b) (hK:∀w',Same (· =b) w w'→w'.heap.size=w.heap.size→TmO w' G cs' t'→K (.agg ⟨cs'⟩) w'):
  zq PP zb (.pointer (some ⟨b,0,none⟩)) (.agg ⟨cs'⟩) w fun _ w1=>vlv PP zb (.pointer (some ⟨b,0,none⟩)) w1 fun r w2=>K r w2:=
 jI0 h hl (qS0 _ hc) hG fun w' hw hz _=>hK w' hw hz (YO hw _ hc fun b' hb' e=>hG b' hb' e)
end Go.Proofs.YtaekfnbnhjgboaaGreatDoor
end
section
namespace Go.Proofs.YtaekfnbnhjgboaaGreatDoor
open Go Go.Vc Go.Proofs
variable {w:World} {K:Value→World→Prop} {F F' D G:Nat→Prop}
def Y00 (w:World) (D:Nat→Prop) (kv:Value) (us:List M.Tm) (css:List (List Value)) (Ds:Nat→Nat→Prop):Prop:=
 Own PP 0 5 zt w kv css∧css.length=us.length∧(∀b,kv.ownBlock=some b→D b∧∀i,i<us.length→¬Ds i b)∧(∀i j b,i<j→j<us.length→Ds i b→¬Ds j b)∧(∀i b,i<us.length→Ds i b→D b)∧
 ∀i,i<us.length→TmO w (Ds i) (css.getD i []) (us.getD i default)
theorem jB0 {kv:Value} {t:M.Tm} {css:List (List Value)} {Ds:Nat→Nat→Prop} (h:Y00 w D kv t.ks css Ds):TmO w D [.int .i64 t.op,.int .i64 t.a,.int .i64 t.b,.string t.s,kv] t:=by
 obtain⟨h1,h2,h3,h4,h5,h6⟩:=h
 exact .mk css Ds h1 h2 h3 h4 h5 h6
theorem xb0 {cs:List Value} {t:M.Tm} (h:TmO w D cs t):∃kv css Ds,cs=[.int .i64 t.op,.int .i64 t.a,.int .i64 t.b,.string t.s,kv]∧Y00 w D kv t.ks css Ds:=by
 obtain⟨kv,css,Ds,h0,h1,h2,h3,h4,h5,h6⟩:=yb0 h
 exact⟨kv,css,Ds,h0,h1,h2,h3,h4,h5,h6⟩
theorem Ud {S:Nat→Prop} {w':World} {kv:Value} {us:List M.Tm} {css:List (List Value)} {Ds:Nat→Nat→Prop} (h:Y00 w D kv us css Ds) (hw:Same S w w') (hs:∀b,D b→¬S b):Y00 w' D kv us css Ds:=by
 obtain⟨h1,h2,h3,h4,h5,h6⟩:=h
 exact⟨h1.same hw fun b hb=>hs b (h3 b hb).1,h2,h3,h4,h5,fun i hi=>YO hw _ (h6 i hi) fun b hb=>hs b (h5 i b hi hb)⟩
abbrev CpO (t:M.Tm):Prop:=∀{w:World} {K:Value→World→Prop} {F:Nat→Prop} {v:Value},TermR F w v t→jk0 t=true→(∀w' cs,Ext w w'→TmO w' (fun b=>w.heap.size≤b∧b<w'.heap.size) cs t→K (.agg ⟨cs⟩) w')→vcall PP yw #[v] w K
theorem toTermS_own {ks:List M.Tm} (ih:∀k,k∈ks→CpO k) {v:Value} (hk:TmsR F w v ks) (hsm:ks.length≤1048576) (hf:∀k,k∈ks→jk0 k=true)
  (hK:∀w' v' css Ds,Ext w w'→Y00 w' (fun b=>w.heap.size≤b∧b<w'.heap.size) v' ks css Ds→K v' w'):vcall PP kf #[v] w K:=by
 apply Ji;unfold Yo
 simp(disch:=(simp only[push_cast];done)) only[push_cast,hk.len]
 refine vmkS_agg (cs:=YP0) Wo (by decide) (by rw[KM];exact xu) (by omega) (by omega) fun v1 w1 hv1 he1 hn1=>?_
 have hz1:=he1.size
 have hlt1:∀b,v1.ownBlock=some b→b<w1.heap.size:=fun b hb=>(hv1.lt hb).2
 refine vloop_up ks.length (fun i u w'=>u=[.int .i64 i]∧Ext w w'∧w1.heap.size≤w'.heap.size∧∃(css:List (List Value)) (Ds:Nat→Nat→Prop),css.length=ks.length∧Own PP 0 5 zt w' v1 css∧
   (∀j b,j<i→Ds j b→w1.heap.size≤b∧b<w'.heap.size)∧(∀j k b,j<k→k<i→Ds j b→¬Ds k b)∧∀j,j<i→TmO w' (Ds j) (css.getD j []) (ks.getD j default))
  ⟨rfl,he1,Nat.le_refl _,_,fun _ _=>False,by simp,hv1,by omega,by omega,by omega⟩ ?_
 rintro i _ _ w2 C hi ⟨rfl,he2,hz2,css,Ds,hl,hv2,hsub,hdis,hp⟩ hC
 have hk2:=hk.ext he2
 simp(disch:=(simp only[push_cast];done)) only[push_cast,hk2.len]
 refine zh (fun a=>?_) (fun a=>?_)
 ·have hmem:ks.getD i default∈ks:=M.getD_mem (by omega) _
  simp(disch:=first|(simp only[push_cast];done)|omega) only[push_cast,hk2.iaddr]
  refine hk2.load Zp (by omega) fun x hx=>?_
  refine ih _ hmem hx (hf _ hmem) fun w3 c3 he3 hc3=>?_
  have hr3:=qS0 _ hc3
  have hv3:=hv2.ext he3
  have hvi:=hv3.sl
  have hz3:=he3.size
  simp(disch:=first|(simp only[push_cast];done)|omega) only[push_cast,hvi.iaddr]
  refine own_stEl hv3 (by decide) (qu hr3) (tmR_one hr3) zQ (by omega) fun w4 hv4 hw4 hz4=>?_
  rw[inc64' (by omega)]
  refine hC (by omega) _ _ ⟨rfl,Ext.then (he2.trans he3) hw4 fun b hb=>hn1 b hb,by omega,css.set i c3,fun j b=>(j<i∧Ds j b)∨(j=i∧w2.heap.size≤b∧b<w3.heap.size),by rw[List.length_set];exact hl,hv4,fun j b hj hb=>?_,fun j k b hjk hk h1 h2=>?_,fun j hj=>?_⟩
  ·rcases hb with⟨h1,h2⟩|⟨h1,h2,h3⟩
   ·have:=hsub j b h1 h2;omega
   ·omega
  ·rcases h1 with⟨h1,h3⟩|⟨h1,h3,h4⟩
   ·rcases h2 with⟨h5,h6⟩|⟨h5,h6,h7⟩
    ·exact hdis j k b hjk h5 h3 h6
    ·have:=hsub j b h1 h3;omega
   ·omega
  ·rw[qp (by omega)]
   by_cases e:i=j
   ·subst e;rw[if_pos rfl]
    exact VK (YO hw4 _ hc3 fun b hb e=>by have:=hlt1 b e;omega) fun b hb=> .inr ⟨rfl,hb⟩
   ·rw[if_neg e]
    exact VK (YO hw4 _ (q70 (hp j (by omega)) he3) fun b hb e=>by have:=hlt1 b e;have:=hsub j b (by omega) hb;omega) fun b hb=> .inl ⟨by omega,hb⟩
 ·have hi':i=ks.length:=by omega
  subst hi'
  refine hK w2 v1 css Ds he2 ⟨hv2,hl,fun b hb=>⟨⟨hn1 b hb,by have:=hlt1 b hb;omega⟩,fun j hj hd=>by have:=hlt1 b hb;have:=hsub j b hj hd;omega⟩,hdis,fun j b hj hb=>by have:=hsub j b hj hb;omega,hp⟩
theorem toTerm_own:∀t:M.Tm,CpO t:=by
 refine M.Tm.ind fun t ih=>?_
 intro w K F v ht hf hK
 apply KP;unfold Xe
 obtain⟨kv,rfl,hks⟩:=ht
 obtain⟨f1,f2⟩:=fitB_iff.1 hf
 refine zu fun b1 w1 hb1 he1 hs1 h1=>?_
 refine zE xu fun b2 w2 hb2 he2 hs2 h2=>?_
 refine zE xu fun b3 w3 hb3 he3 hs3 h3=>?_
 have q3:=(h1.ext he2).ext he3
 simp(disch:=(simp only[push_cast];done)) only[push_cast,q3.ld0]
 refine h3.st (i:=0) rfl rfl jp rfl fun w4 hw4 hz4 h4=>?_
 have q4:=q3.same hw4 (by omega)
 simp(disch:=(simp only[push_cast];done)) only[push_cast,q4.ld1]
 refine h4.st (i:=1) rfl rfl jp rfl fun w5 hw5 hz5 h5=>?_
 have q5:=q4.same hw5 (by omega)
 simp(disch:=(simp only[push_cast];done)) only[push_cast,q5.ld2]
 refine h5.st (i:=2) rfl rfl jp rfl fun w6 hw6 hz6 h6=>?_
 have q6:=q5.same hw6 (by omega)
 simp(disch:=(simp only[push_cast];done)) only[push_cast,q6.ld3]
 refine h6.st (i:=3) rfl rfl Qr rfl fun w7 hw7 hz7 h7=>?_
 have q7:=q6.same hw7 (by omega)
 simp(disch:=(simp only[push_cast];done)) only[push_cast,q7.ld4]
 have h37:Same (fun b=>b=b3) w3 w7:=hw4.trans (hw5.trans (hw6.trans hw7))
 have he13:=(he1.trans he2).trans he3
 have he7:Ext w w7:=Ext.then he13 h37 fun y hy=>by subst hy;omega
 refine toTermS_own ih (hks.ext he7) f1 f2 fun w8 kv' css Ds he8 hk8=>?_
 have h8:=h7.ext he8
 have hkc:kv'.cells= #[kv']∧kv'.oneCell'=true:=by
  obtain⟨a,c,rfl,_⟩:=hk8.1.sl.shape
  exact⟨rfl,rfl⟩
 have hz8:=he8.size
 have hz37:=h37.size
 try simp only[push_cast]
 refine h8.st (i:=4) hkc.1 hkc.2 Wk rfl fun w9 hw9 hz9 h9=>?_
 replace h9:Blk w9 b3 [.int .i64 t.op,.int .i64 t.a,.int .i64 t.b,.string t.s,kv'] zb:=h9
 rw[h9.ldAgg (t:=zb) zQ]
 have hk9:=Ud hk8 hw9 fun b hb e=>by omega
 have h2':=(((h2.ext he3).same h37 (by omega)).ext he8).same hw9 (by omega)
 refine retO h2' rfl (jB0 (t:=t) hk9) (fun x hx=>by omega) fun w10 hw10 hz10 ht10=>?_
 exact hK _ _ (Ext.then (Ext.then (he7.trans he8) hw9 fun y hy=>by subst hy;omega) hw10 fun y hy=>by subst hy;omega) (VK ht10 fun b hb=>by have:=he7.size;omega)
def digs:Nat→Nat→ByteArray→ByteArray
 |0,_,acc=>acc
 |f+1,k,acc=>if 0<k then digs f (k/10) (strOfNums [((48+k%10:Nat):Int)]++acc) else acc
def VO (k:Nat):ByteArray:=if k=0 then⟨#[109,48]⟩ else⟨#[109]⟩++digs (k+1) k ⟨#[]⟩
theorem markText_spec {k:Nat} (h:k<4611686018427387904) (hK:∀w',Ext w w'→K (.string (VO k)) w'):vcall PP qz #[.int .i64 k] w K:=by
 apply UI;unfold Qh
 simp only[push_cast]
 refine zh (fun a=>?_) (fun a=>?_)
 ·have e:VO k=⟨#[109,48]⟩:=by unfold VO;rw[if_pos (by omega)]
  rw[e] at hK
  exact hK _ (Same.refl _ _)
 have e:VO k=⟨#[109]⟩++digs (k+1) k ⟨#[]⟩:=by unfold VO;rw[if_neg (by omega)]
 rw[e] at hK
 refine YL (fun n u w'=> ∃(j:Nat) (acc:ByteArray) (f:Nat),u=[.int .i64 j,.string acc]∧n=j∧j≤k∧j<f∧acc.size+j≤k∧Ext w w'∧digs f j acc=digs (k+1) k ⟨#[]⟩) k
  ⟨k,_,k+1,rfl,rfl,Nat.le_refl _,by omega,by simp[ByteArray.size],Same.refl _ _,rfl⟩ ?_
 rintro n _ _ w1 C ⟨j,acc,f,rfl,rfl,hjk,hjf,hsz,he,hd⟩ hC
 simp only[push_cast]
 refine zh (fun c=>?_) (fun c=>?_)
 ·rw[Kw (by decide),show(n:Int).tmod 10=((n%10:Nat):Int) from by rw[Int.tmod_eq_emod_of_nonneg (by omega)];omega,qt0]
  rw[show IntKind.i64.wrap (48+((n%10:Nat):Int))=((48+n%10:Nat):Int) from by rw[zF (by omega) (by omega)];omega]
  rw[kk xc0 Zj0,show IntKind.u8.wrap ((48+n%10:Nat):Int)=((48+n%10:Nat):Int) from by show((48+n%10:Nat):Int)%256=_;omega]
  refine U0 (k:=1) (y:=[.int .u8 ((48+n%10:Nat):Int)]) Ky Y30 kK0 rfl rfl (by decide) fun b2 w2 hb2 he2 hs2 h2=>?_
  have hc:∀K':Value→World→Prop,Y3 PP yx zB (.slice (some ⟨b2,0,none⟩) 1 1) w2 K'=K' (.string (strOfNums [((48+n%10:Nat):Int)])) w2:=fun K'=>
   yr (run_convert_bytes_arg w2 yx kc Ky (by kernel_rfl) b2 0 1 1 [((48+n%10:Nat):Int)] rfl (fun i hi=>by
    have:i=0:=by omega
    subst this
    exact h2.cell (i:=0) rfl) zB XB)
  rw[hc,YN (by rw[strOfNums_size];show 1+_≤_;omega),y80 (by decide),show(n:Int).tdiv 10=((n/10:Nat):Int) from by rw[Int.tdiv_eq_ediv_of_nonneg (by omega)];omega,zF (by omega) (by omega)]
  obtain⟨f,rfl⟩:∃f',f=f'+1:=⟨f-1,by omega⟩
  refine hC (n/10) _ _ (by omega) ⟨n/10,_,f,rfl,rfl,by omega,by omega,?_,he.trans he2,?_⟩
  ·rw[ByteArray.size_append,strOfNums_size]
   show 1+acc.size+n/10≤k
   omega
  ·rw[←hd]
   show _=if 0<n then _ else _
   rw[if_pos (by omega)]
 ·have h0:n=0:=by omega
  subst h0
  obtain⟨f,rfl⟩:∃f',f=f'+1:=⟨f-1,by omega⟩
  have:acc=digs (k+1) k ⟨#[]⟩:=by
   rw[←hd]
   show _=if 0<0 then _ else acc
   rw[if_neg (by omega)]
  subst this
  rw[YN (by show 1+_≤_;omega)]
  exact hK _ he
theorem markText_int {k:Int} (h0:0≤k) (h:k<4611686018427387904) (hK:∀w',Ext w w'→K (.string (VO k.toNat)) w'):vcall PP qz #[.int .i64 k] w K:=by
 obtain⟨n,rfl⟩:∃n:Nat,k=n:=⟨k.toNat,by omega⟩
 exact markText_spec (by omega) hK
theorem inc_wrap {k:Int} (h0:0≤k) (h:k<4611686018427387904):IntKind.i64.wrap (k+1)=k+1:=zF (by omega) (by omega)
theorem markDeclS_spec {v:Value} {css:List (List Value)} {k:Int} (ho:Own PP 0 2 zC w v css) (h0:0≤k) (hk:k+2*css.length<4611686018427387904)
  (hK:∀w',Same (fun b=>v.ownBlock=some b) w w'→K (.int .i64 (k+2*css.length)) w'):vcall PP kI #[v,.int .i64 k] w K:=by
 apply WU;unfold Xk
 refine vloop_up css.length (fun i u w'=>u=[.int .i64 (k+2*i),.int .i64 i]∧Same (fun b=>v.ownBlock=some b) w w'∧∃css',css'.length=css.length∧Own PP 0 2 zC w' v css') ⟨by simp,Same.refl _ _,css,rfl,ho⟩ ?_
 rintro i _ _ w1 C hi ⟨rfl,hs1,css1,hl1,ho1⟩ hC
 have hsl:=ho1.sl
 simp(disch:=(simp only[push_cast];done)) only[push_cast,hsl.len,hl1]
 refine zh (fun a=>?_) (fun a=>?_)
 ·refine markText_int (by omega) (by omega) fun w2 he2=>?_
  have ho2:=ho1.ext he2
  have hs2:=ho2.sl
  simp(disch:=first|(simp only[push_cast];done)|omega) only[push_cast,hs2.iaddr]
  refine Own.stCell ho2 rfl rfl Qr (i:=i) (j:=0) (by omega) (by decide) fun w3 ho3 hw3 hz3=>?_
  rw[inc_wrap (by omega) (by omega)]
  refine Own.stCell ho3 rfl rfl jp (i:=i) (j:=1) (by rw[List.length_set];omega) (by decide) fun w4 ho4 hw4 hz4=>?_
  rw[inc_wrap (by omega) (by omega),inc64' (by omega)]
  refine hC (by omega) _ _ ⟨by rw[show k+2*(i:Int)+1+1=k+2*((i+1:Nat):Int) by omega],hs1.trans ((Same.of_ext he2).trans (hw3.trans hw4)),_,by rw[List.length_set,List.length_set];exact hl1,ho4⟩
 ·have:i=css.length:=by omega
  subst this
  exact hK _ hs1
end Go.Proofs.YtaekfnbnhjgboaaGreatDoor
end
section
namespace Go.Proofs.YtaekfnbnhjgboaaGreatDoor
open Go Go.Vc Go.Proofs
variable {w:World} {K:Value→World→Prop} {F F' D G:Nat→Prop}
inductive Held:List M.Tm→Int→Int→Prop
 |nil (k:Int):Held [] k k
 |cons {t:M.Tm} {us:List M.Tm} {k m n:Int}:t.op=k→t.a=k+1→t.b=k+2→t.s=VO (k+3).toNat→Held t.ks (k+4) m→Held us m n→Held (t::us) k n
theorem k00 {us:List M.Tm} {k m n:Int} {t:M.Tm} (h:Held us k m) (h1:t.op=m) (h2:t.a=m+1) (h3:t.b=m+2) (h4:t.s=VO (m+3).toNat) (h5:Held t.ks (m+4) n):Held (us++[t]) k n:=by
 induction h with
 |nil k=>exact .cons h1 h2 h3 h4 h5 (.nil _)
 |cons a b c d e _ _ ih=>exact .cons a b c d e (ih h1 h2 h3 h4 h5)
abbrev MarkT (t:M.Tm):Prop:=∀{w:World} {K:Value→World→Prop} {D:Nat→Prop} {kv:Value} {css:List (List Value)} {Ds:Nat→Nat→Prop} {k:Int},Y00 w D kv t.ks css Ds→0≤k→k+4*M.szT t.ks t.ks.length<4611686018427387904→
 (∀w' us css',Same D w w'→Y00 w' D kv us css' Ds→us.length=t.ks.length→Held us k (k+4*M.szT t.ks t.ks.length)→K (.int .i64 (k+4*M.szT t.ks t.ks.length)) w')→vcall PP j2 #[kv,.int .i64 k] w K
theorem kZ0 {us:List M.Tm} {i:Nat} {u:M.Tm} (h:i<us.length):(us.set i u).take (i+1)=us.take i++[u]:=by
 rw[M.take_add (by rw[List.length_set];exact h) default,List.take_set_of_le (Nat.le_refl _),qp h,if_pos rfl]
theorem markTermS_spec:∀t:M.Tm,MarkT t:=by
 refine M.Tm.ind fun t ih=>?_
 intro w K D kv css Ds k h h0 hk hK
 apply WS;unfold Xi
 refine vloop_up t.ks.length (fun i u w'=>u=[.int .i64 (k+4*M.szT t.ks i),.int .i64 i]∧Same D w w'∧∃us css',us.length=t.ks.length∧Y00 w' D kv us css' Ds∧Held (us.take i) k (k+4*M.szT t.ks i)∧∀j,i≤j→us.getD j default=t.ks.getD j default)
  ⟨by show _=[Value.int .i64 (k+4*((0:Nat):Int)),_];simp,Same.refl _ _,t.ks,css,rfl,h,by rw[List.take_zero];show Held [] k (k+4*((0:Nat):Int));simpa using Held.nil k,fun j _=>rfl⟩ ?_
 rintro i _ _ w1 C hi ⟨rfl,hs1,us,css1,hlu,hT,hH,hrest⟩ hC
 have hT':=hT
 obtain⟨own1,hl1,hb1,hd1,hsub1,hkid1⟩:=hT'
 have hsl1:=own1.sl
 have hsm1:=hsl1.small
 simp(disch:=(simp only[push_cast];done)) only[push_cast,hsl1.len,hl1,hlu]
 refine zh (fun a=>?_) (fun a=>?_)
 ·have hi':i<t.ks.length:=by omega
  have hsz:=M.szT_succ hi'
  have hmono:=M.szT_mono (ks:=t.ks) (i:=i+1) (j:=t.ks.length) (by omega) (Nat.le_refl _)
  have hsx:=M.szT_all (t.ks.getD i default)
  obtain⟨m,hm⟩:∃m:Int,m=k+4*M.szT t.ks i:=⟨_,rfl⟩
  have hm0:0≤m:=by omega
  have hm1:m+10+4*M.szT (t.ks.getD i default).ks (t.ks.getD i default).ks.length<4611686018427387914:=by omega
  have hnext:m+4+4*M.szT (t.ks.getD i default).ks (t.ks.getD i default).ks.length=k+4*M.szT t.ks (i+1):=by omega
  simp only[←hm]
  simp(disch:=first|(simp only[push_cast];done)|omega) only[push_cast,hsl1.iaddr]
  have hix:=hkid1 i (by omega)
  rw[hrest i (Nat.le_refl _)] at hix
  obtain⟨kvi,cssi,Dsi,ei,hp⟩:=xb0 hix
  refine Own.stCell own1 rfl rfl jp (i:=i) (j:=0) (by omega) (by decide) fun w2 own2 hw2 hz2=>?_
  rw[ei] at own2
  rw[inc_wrap (by omega) (by omega)]
  refine Own.stCell own2 rfl rfl jp (i:=i) (j:=1) (by rw[List.length_set];omega) (by decide) fun w3 own3 hw3 hz3=>?_
  rw[qp (by omega),if_pos rfl,List.set_set] at own3
  rw[inc_wrap (by omega) (by omega)]
  refine Own.stCell own3 rfl rfl jp (i:=i) (j:=2) (by rw[List.length_set];omega) (by decide) fun w4 own4 hw4 hz4=>?_
  rw[qp (by omega),if_pos rfl,List.set_set] at own4
  rw[inc_wrap (by omega) (by omega),show m+1+1=m+2 by omega,show m+2+1=m+3 by omega]
  refine markText_int (by omega) (by omega) fun w5 he5=>?_
  have own5:=own4.ext he5
  refine Own.stCell own5 rfl rfl Qr (i:=i) (j:=3) (by rw[List.length_set];omega) (by decide) fun w6 own6 hw6 hz6=>?_
  rw[qp (by omega),if_pos rfl,List.set_set] at own6
  rw[inc_wrap (by omega) (by omega),show m+3+1=m+4 by omega]
  rw[show m+1+1=m+2 by omega] at own6
  replace own6:Own PP 0 5 zt w6 kv (css1.set i [.int .i64 m,.int .i64 (m+1),.int .i64 (m+2),.string (VO (m+3).toNat),kvi]):=own6
  have hl6:i<(css1.set i [Value.int .i64 m,.int .i64 (m+1),.int .i64 (m+2),.string (VO (m+3).toNat),kvi]).length:=by rw[List.length_set];omega
  rw[Sl.ldField own6.sl xk0 hl6 (x:=kvi) (j:=4) (by rw[qp (by omega),if_pos rfl];rfl)]
  have h16:Same (fun b=>kv.ownBlock=some b) w1 w6:=hw2.trans (hw3.trans (hw4.trans ((Same.of_ext he5).trans hw6)))
  have hp6:=Ud hp h16 fun b hb e=>(hb1 b e).2 i (by omega) hb
  have hmem:t.ks.getD i default∈t.ks:=M.getD_mem hi' _
  refine ih _ hmem hp6 (by omega) (by omega) fun w7 ui cssi' hs7 hp7 hlu7 hH7=>?_
  rw[hnext] at hH7⊢
  rw[inc64' (by omega)]
  have hD7:Same D w1 w7:=(h16.mono fun b _ e=>(hb1 b e).1).trans (hs7.mono fun b _ e=>hsub1 i b (by omega) e)
  have h17:Same (fun b=>kv.ownBlock=some b∨Ds i b) w1 w7:=(h16.mono fun b _ e=> .inl e).trans (hs7.mono fun b _ e=> .inr e)
  refine hC (by omega) _ _ ⟨rfl,hs1.trans hD7,us.set i (.mk m (m+1) (m+2) (VO (m+3).toNat) ui),css1.set i [.int .i64 m,.int .i64 (m+1),.int .i64 (m+2),.string (VO (m+3).toNat),kvi],by rw[List.length_set];exact hlu,⟨own6.same hs7 fun b hb e=>(hb1 b hb).2 i (by omega) e,by rw[List.length_set,List.length_set];exact hl1,?_,?_,?_,fun j hj=>?_⟩,?_,fun j hj=>?_⟩
  ·rw[List.length_set];exact hb1
  ·rw[List.length_set];exact hd1
  ·rw[List.length_set];exact hsub1
  ·rw[List.length_set] at hj
   rw[qp (by omega),qp (by omega)]
   by_cases e:i=j
   ·subst e
    rw[if_pos rfl,if_pos rfl]
    exact jB0 (t:= .mk m (m+1) (m+2) (VO (m+3).toNat) ui) hp7
   ·rw[if_neg e,if_neg e]
    refine YO h17 _ (hkid1 j hj) fun b hb hs=>?_
    rcases hs with hs|hs
    ·exact(hb1 b hs).2 j hj hb
    ·rcases Nat.lt_or_gt_of_ne e with h|h
     ·exact hd1 i j b h hj hs hb
     ·exact hd1 j i b h (by omega) hb hs
  ·rw[kZ0 (by omega)]
   rw[←hm] at hH
   exact k00 hH rfl rfl rfl rfl hH7
  ·rw[qp (by omega),if_neg (by omega)]
   exact hrest j (by omega)
 ·have hi':i=t.ks.length:=by omega
  subst hi'
  rw[←hlu,List.take_length,hlu] at hH
  exact hK _ us css1 hs1 hT hlu hH
theorem markTerm_spec {t:M.Tm} {cs:List Value} {k:Int} (h:TmO w D cs t) (h0:0≤k) (hk:k+4*M.sizeM t<4611686018427387904) (hD:∀b,D b→b<w.heap.size)
  (hK:∀w' u,Same D w w'→TmO w' D cs u→Held u.ks k (k+4*(M.sizeM t-1))→K (.int .i64 (k+4*(M.sizeM t-1))) w'):vcall PP Ze #[.agg ⟨cs⟩,.int .i64 k] w K:=by
 apply UJ;unfold Qi
 obtain⟨kv,css,Ds,rfl,hp⟩:=xb0 h
 refine zu fun b1 w1 hb1 he1 hs1 h1=>?_
 simp(disch:=(simp only[push_cast];done)) only[push_cast,h1.ld4]
 have hsz:=M.szT_all t
 have e:(k+4*M.szT t.ks t.ks.length:Int)=k+4*(M.sizeM t-1):=by omega
 refine markTermS_spec t (Ud hp he1 fun b _ h=>h) h0 (by omega) fun w2 us css' hw2 hp2 hlu hH=>?_
 rw[e] at hH⊢
 exact hK _ (.mk t.op t.a t.b t.s us) ((Same.of_ext he1).trans hw2) (jB0 (t:= .mk t.op t.a t.b t.s us) hp2) hH
end Go.Proofs.YtaekfnbnhjgboaaGreatDoor
end
section
namespace Go.M
open Go.Vc
section
variable {ds:List Dcl} {t:Tm}
def ZL0 (t v:Tm):Prop:=v.ks.length≠2∨kid v 0≠kid t 1∨kid v 1≠kid t 0∨v.op≠t.op
instance (t v:Tm):Decidable (ZL0 t v):=by unfold ZL0;infer_instance
end
end Go.M
end
section
namespace Go.Proofs.YtaekfnbnhjgboaaGreatDoor
open Go Go.Vc Go.Proofs
variable {w:World} {K:Value→World→Prop} {D F F' G Fx Fy:Nat→Prop} {n m:Nat} {gs hs:M.Gs} {v xv yv dv tv:Value} {xs ys env:List Int} {bs ins:List Bool} {ds:List M.Dcl} {t:M.Tm} {ar ab:Addr} {k:Int}
def mkG (k:Int) (i:Nat):M.Gt:=⟨decide ((k+3*i).tmod 3=0),k+3*i+1,k+3*i+2⟩
def K2 (k:Int) (n:Nat):M.Gs:=(List.range n).map (mkG k)
theorem Q4:(K2 k n).length=n:=by unfold K2;rw[List.length_map,List.length_range]
theorem xu0 {i:Nat} (h:i<(K2 k n).length):(K2 k n)[i]=mkG k i:=by simp[K2]
def xt0 (k:Int) (n:Nat):List Int:=(List.range n).map fun i=>k+(i:Nat)
theorem Uv:(xt0 k n).length=n:=by unfold xt0;rw[List.length_map,List.length_range]
theorem xs0 {i:Nat} (h:i<n):(xt0 k n).getD i 0=k+i:=by simp[xt0,List.getD_eq_getElem?_getD,h]
theorem markGateS_spec (ho:OwnG w v gs) (hl:gs.length≤1000000) (h0:0≤k) (hk:k<1000000000)
  (hK:∀w',Same (fun b=>v.ownBlock=some b) w w'→OwnG w' v (K2 k gs.length)→K (.int .i64 (k+3*gs.length)) w'):vcall PP kH #[v,.int .i64 k] w K:=by
 apply WT;unfold Xj
 refine vloop_up gs.length (fun i u w'=>u=[.int .i64 (k+3*i),.int .i64 i]∧Same (fun b=>v.ownBlock=some b) w w'∧∃hs:M.Gs,hs.length=gs.length∧OwnG w' v hs∧∀j (h:j<hs.length),j<i→hs[j]=mkG k j) ⟨by simp,Same.refl _ _,gs,rfl,ho,fun j _ h=>by omega⟩ ?_
 rintro i _ _ w1 C hi ⟨rfl,hs1,hs,hl1,ho1,hm⟩ hC
 rw[k20 ho1,hl1]
 simp only[push_cast]
 refine zh (fun a=>?_) (fun a=>?_)
 ·have hil:i<hs.length:=by omega
  have hsl:=Own.sl ho1
  rw[Kw (by decide)]
  simp(disch:=first|(simp only[push_cast];done)|(simp only[List.length_map];omega)|omega) only[push_cast,hsl.iaddr]
  have hg0:(hs.map yi).getD i []=yi hs[i]:=KJ hil
  refine Own.stCell ho1 rfl rfl YQ0 (i:=i) (j:=0) (by rw[List.length_map];exact hil) (by decide) fun w2 ho2 hw2 hz2=>?_
  rw[hg0] at ho2
  rw[inc_wrap (by omega) (by omega)]
  refine Own.stCell ho2 rfl rfl jp (i:=i) (j:=1) (by rw[List.length_set,List.length_map];exact hil) (by decide) fun w3 ho3 hw3 hz3=>?_
  rw[qp (by rw[List.length_map];exact hil),if_pos rfl,List.set_set] at ho3
  rw[inc_wrap (by omega) (by omega)]
  refine Own.stCell ho3 rfl rfl jp (i:=i) (j:=2) (by rw[List.length_set,List.length_map];exact hil) (by decide) fun w4 ho4 hw4 hz4=>?_
  rw[qp (by rw[List.length_map];exact hil),if_pos rfl,List.set_set] at ho4
  rw[inc_wrap (by omega) (by omega),inc64' (by omega)]
  have hfin:(hs.map yi).set i ((((yi hs[i]).set 0 (.bool (decide ((k+3*(i:Int)).tmod 3=0)))).set 1 (.int .i64 (k+3*i+1))).set 2 (.int .i64 (k+3*i+1+1)))=(hs.set i (mkG k i)).map yi:=by
   rw[List.map_set]
   congr 1
   show[_,_,_]=[_,_,_]
   unfold mkG
   simp only[show k+3*(i:Int)+1+1=k+3*i+2 by omega]
  rw[hfin] at ho4
  refine hC (by omega) _ _ ⟨by rw[show k+3*(i:Int)+1+1+1=k+3*((i+1:Nat):Int) by omega],hs1.trans (hw2.trans (hw3.trans hw4)),_,by rw[List.length_set];exact hl1,ho4,fun j h1 h2=>?_⟩
  rw[List.getElem_set]
  split
  ·next e=>rw[e]
  ·next e=>exact hm j (by rw[List.length_set] at h1;exact h1) (by omega)
 ·have hi':i=gs.length:=by omega
  subst hi'
  have e:hs=K2 k gs.length:=List.ext_getElem (by rw[Q4];exact hl1) fun j h1 h2=>by rw[xu0,hm j h1 (by omega)]
  rw[e] at ho1
  exact hK _ hs1 ho1
theorem heldGateS_spec (hx:GatesR F w v (K2 k n)) (hl:n≤1000000) (h0:0≤k) (hk:k<1000000000) (hK:K (.int .i64 (k+3*n)) w):vcall PP kJ #[v,.int .i64 k] w K:=by
 apply WV;unfold Xl
 refine vloop_up n (fun i u w'=>u=[.int .i64 (k+3*i),.int .i64 i]∧w'=w) ⟨by simp,rfl⟩ ?_
 rintro i _ _ _ C hi ⟨rfl,rfl⟩ hC
 rename_i w
 rw[Sl.len hx xO,xv0,Q4]
 simp only[push_cast]
 refine zh (fun a=>?_) (fun a=>?_)
 ·have hil:i<(K2 k n).length:=by rw[Q4];omega
  have hg0:((K2 k n).map yi).getD i []=yi (mkG k i):=by rw[KJ hil,xu0]
  have hlm:i<((K2 k n).map yi).length:=by rw[List.length_map];exact hil
  have l0:∀K:Value→World→Prop,ze PP jH (.pointer (some ((eaddr v 3 i).add 0))) w K=K (.bool (mkG k i).x) w:=fun K=>by
   exact Sl.ldField hx X30 hlm (by rw[hg0];rfl)
  have l1:∀K:Value→World→Prop,ze PP zd (.pointer (some ((eaddr v 3 i).add 1))) w K=K (.int .i64 (mkG k i).a) w:=fun K=>by
   exact Sl.ldField hx xh0 hlm (by rw[hg0];rfl)
  have l2:∀K:Value→World→Prop,ze PP zd (.pointer (some ((eaddr v 3 i).add 2))) w K=K (.int .i64 (mkG k i).b) w:=fun K=>by
   exact Sl.ldField hx xh0 hlm (by rw[hg0];rfl)
  simp(disch:=first|(simp only[push_cast];done)|(simp only[List.length_map,Q4];omega)|omega) only[push_cast,hx.iaddr,l0,l1,l2]
  rw[Kw (by decide)]
  simp(disch:=first|(simp only[push_cast];done)|(simp only[List.length_map,Q4];omega)|omega) only[push_cast,hx.iaddr,l1,l2,mkG,bne_self_eq_false]
  rw[inc_wrap (by omega) (by omega)]
  refine zh (fun h=>absurd rfl h) (fun _=>?_)
  rw[inc_wrap (by omega) (by omega)]
  refine zh (fun h=>absurd (by omega) h) (fun _=>?_)
  rw[inc_wrap (by omega) (by omega),inc64' (by omega)]
  exact hC (by omega) _ _ ⟨by rw[show k+3*(i:Int)+1+1+1=k+3*((i+1:Nat):Int) by omega],rfl⟩
 ·have hi':i=n:=by omega
  subst hi'
  exact hK
theorem xl0 {x:Int} (ho:OwnG w v gs) (hl:gs.length≤1000000) (h0:0≤k) (hk:k<1000000000)
  (hK:∀w',Same (fun b=>v.ownBlock=some b) w w'→OwnG w' v (K2 k gs.length)→K (.int .i64 (k+3*gs.length)) w'):vcall PP Yd #[.agg ⟨[.int .i64 x,v]⟩,.int .i64 k] w K:=by
 apply zy0;unfold Ju
 obtain⟨o,c,hv,_⟩:=(Own.sl ho).shape
 generalize (gs.map yi).length=l at hv
 subst hv
 refine zu fun b1 w1 hb1 he1 hz1 hB1=>?_
 simp(disch:=first|(simp only[push_cast];done)|omega) only[push_cast,hB1.ld1]
 have hz:=he1.size
 refine markGateS_spec (Own.ext ho he1) hl h0 hk fun w2 hs2 ho2=>?_
 try simp only[push_cast]
 exact hK w2 ((Same.of_ext he1).trans hs2) ho2
theorem heldNet_spec {x:Int} (hx:GatesR F w v (K2 k n)) (hl:n≤1000000) (h0:0≤k) (hk:k<1000000000) (hK:∀w',Ext w w'→K (.int .i64 (k+3*n)) w'):vcall PP kg #[.agg ⟨[.int .i64 x,v]⟩,.int .i64 k] w K:=by
 apply zz0;unfold Jv
 obtain⟨o,c,hv,_⟩:=hx.shape
 generalize ((K2 k n).map yi).length=l at hv
 subst hv
 refine zu fun b1 w1 hb1 he1 hz1 hB1=>?_
 simp(disch:=first|(simp only[push_cast];done)|omega) only[push_cast,hB1.ld1]
 refine heldGateS_spec (Sl.ext hx he1) hl h0 hk ?_
 simp only[push_cast]
 exact zh (fun a=>by omega) (fun _=>hK _ he1)
theorem markIntS_spec (ho:OwnI PP zg w v xs) (hl:xs.length≤1000000) (h0:0≤k) (hk:k<1000000000)
  (hK:∀w',Same (fun b=>v.ownBlock=some b) w w'→OwnI PP zg w' v (xt0 k xs.length)→K (.int .i64 (k+xs.length)) w'):vcall PP Zf #[v,.int .i64 k] w K:=by
 apply UK;unfold Qj
 refine vloop_up xs.length (fun i u w'=>u=[.int .i64 (k+i),.int .i64 i]∧Same (fun b=>v.ownBlock=some b) w w'∧∃ys:List Int,ys.length=xs.length∧OwnI PP zg w' v ys∧∀j,j<i→ys.getD j 0=k+j) ⟨by simp,Same.refl _ _,xs,rfl,ho,fun j h=>by omega⟩ ?_
 rintro i _ _ w1 C hi ⟨rfl,hs1,ys,hl1,ho1,hm⟩ hC
 have hsl:=ho1.ints
 simp(disch:=(simp only[push_cast];done)) only[push_cast,hsl.len,hl1]
 refine zh (fun a=>?_) (fun a=>?_)
 ·have hil:i<ys.length:=by omega
  simp(disch:=first|(simp only[push_cast];done)|omega) only[push_cast,hsl.iaddr]
  refine ho1.st jp hil fun w2 ho2 hs2 hz2=>?_
  rw[inc_wrap (by omega) (by omega),inc64' (by omega)]
  refine hC (by omega) _ _ ⟨by rw[show k+(i:Int)+1=k+((i+1:Nat):Int) by omega],hs1.trans hs2,_,by rw[List.length_set];exact hl1,ho2,fun j hj=>?_⟩
  rw[qp hil]
  split
  ·next e=>rw[e]
  ·next e=>exact hm j (by omega)
 ·have hi':i=xs.length:=by omega
  subst hi'
  have e:ys=xt0 k xs.length:=Zs0 (by rw[Uv];exact hl1) fun j h1=>by rw[xs0 (by omega),hm j (by omega)]
  rw[e] at ho1
  exact hK _ hs1 ho1
theorem heldIntS_spec (hx:Ints F w v (xt0 k n)) (hl:n≤1000000) (h0:0≤k) (hk:k<1000000000) (hK:K (.int .i64 (k+n)) w):vcall PP jv #[v,.int .i64 k] w K:=by
 apply UL;unfold Qk
 refine vloop_up n (fun i u w'=>u=[.int .i64 (k+i),.int .i64 i]∧w'=w) ⟨by simp,rfl⟩ ?_
 rintro i _ _ _ C hi ⟨rfl,rfl⟩ hC
 rename_i w
 simp(disch:=(simp only[push_cast];done)) only[push_cast,hx.len,Uv]
 refine zh (fun a=>?_) (fun a=>?_)
 ·have hil:i<(xt0 k n).length:=by rw[Uv];omega
  simp(disch:=first|(simp only[push_cast];done)|omega) only[push_cast,hx.iaddr,hx.load]
  rw[xs0 (by omega)]
  refine zh (fun h=>absurd rfl h) (fun _=>?_)
  rw[inc_wrap (by omega) (by omega),inc64' (by omega)]
  exact hC (by omega) _ _ ⟨by rw[show k+(i:Int)+1=k+((i+1:Nat):Int) by omega],rfl⟩
 ·have hi':i=n:=by omega
  subst hi'
  exact hK
theorem qh0 {g:M.Gt} (hK:∀w',Ext w w'→K (.bool true) w'):vcall PP X3 #[gv g,gv g] w K:=by
 apply yU0;unfold Vw gv
 refine zu fun b1 w1 hb1 he1 hz1 hB1=>?_
 refine zu fun b2 w2 hb2 he2 hz2 hB2=>?_
 have hB12:=hB1.ext he2
 simp(disch:=first|(simp only[push_cast];done)|omega) only[push_cast,yi,hB12.ld0,hB2.ld0,hB12.ld1,hB2.ld1,hB12.ld2,hB2.ld2,bne_self_eq_false]
 refine zh (fun h=>absurd rfl h) (fun _=>?_)
 exact zh (fun h=>absurd rfl h) (fun _=>hK _ (he1.trans he2))
theorem eqGateS_spec {v v':Value} (hx:GatesR F w v gs) (hy:GatesR F' w v' gs) (hl:gs.length≤1000000) (hK:∀w',Ext w w'→K (.bool true) w'):vcall PP Yf #[v,v'] w K:=by
 apply zB0;unfold Jx
 rw[Sl.len hx xO,Sl.len hy xO,xv0]
 simp only[push_cast]
 refine zh (fun h=>absurd rfl h) (fun _=>?_)
 refine vloop_up gs.length (fun i u w'=>u=[.int .i64 i]∧Ext w w') ⟨rfl,Same.refl _ _⟩ ?_
 rintro i _ g w1 C hi ⟨rfl,he⟩ hC
 have hx0:GatesR F w1 v gs:=Sl.ext hx he
 rw[Sl.len hx0 xO,xv0]
 simp only[push_cast]
 refine zh (fun hlt=>zr fun w2 he2 _=>?_) (fun _=>hK _ he)
 have hx1:GatesR F w2 v gs:=Sl.ext hx (he.trans he2)
 have hy1:GatesR F' w2 v' gs:=Sl.ext hy (he.trans he2)
 have h1:i<gs.length:=by omega
 rw[Sl.iaddr hx1 ZO (by omega) (by rw[xv0];omega),Int.toNat_natCast]
 refine⟨rfl,?_⟩
 rw[Sl.ldAgg hx1 qG (by rw[xv0];exact h1),KJ h1]
 refine⟨rfl,?_⟩
 rw[Sl.iaddr hy1 ZO (by omega) (by rw[xv0];omega),Int.toNat_natCast]
 refine⟨rfl,?_⟩
 rw[Sl.ldAgg hy1 qG (by rw[xv0];exact h1),KJ h1]
 refine⟨rfl,?_⟩
 refine qh0 (g:=gs[i]) fun w3 he3=>?_
 simp(disch:=omega) only[push_cast,zF,Bool.not_true,true_and]
 exact hC (by omega) _ _ ⟨rfl,he.trans (he2.trans he3)⟩
theorem j60 {a:Int} {x y:Value} (hx:GatesR F w x gs) (hy:GatesR F' w y gs) (hl:gs.length≤1000000) (hK:∀w',Ext w w'→K (.bool true) w'):
  vcall PP jm #[.agg ⟨[.int .i64 a,x]⟩,.agg ⟨[.int .i64 a,y]⟩] w K:=by
 apply xU0;unfold WK
 obtain⟨o,c,rfl,_⟩:=hx.shape
 obtain⟨o2,c2,rfl,_⟩:=hy.shape
 refine zu fun b1 w1 hb1 he1 hz1 hB1=>?_
 refine zu fun b2 w2 hb2 he2 hz2 hB2=>?_
 have hB12:=hB1.ext he2
 simp(disch:=first|(simp only[push_cast];done)|omega) only[push_cast,hB12.ld0,hB2.ld0,hB12.ld1,hB2.ld1]
 refine zh (fun h=>absurd rfl h) (fun _=>?_)
 refine eqGateS_spec (Sl.ext hx (he1.trans he2)) (Sl.ext hy (he1.trans he2)) hl fun w3 he3=>?_
 simp only[push_cast,Bool.not_true]
 exact hK _ ((he1.trans he2).trans he3)
abbrev ForB (n:Nat) (ds:List M.Dcl) (t:M.Tm):Prop:=∀{w:World} {K:Value→World→Prop} {F G:Nat→Prop} {dv tv:Value} {ar ab:Addr},DclsR F w dv ds→TermR G w tv t→Errs (fun _=>False) w ar ab→
 (∀w' gv lv,Ext w w'→OwnG w' gv (blastR ds t).2.1→OwnI PP zg w' lv (blastR ds t).2.2→(∀b,gv.ownBlock=some b→w.heap.size≤b)→(∀b,lv.ownBlock=some b→w.heap.size≤b∧gv.ownBlock≠some b)→K (.tuple #[.agg ⟨[.int .i64 (blastR ds t).1,gv]⟩,lv]) w')→vcall PP n #[dv,tv] w K
def ZC0 (w:World) (ds:List M.Dcl) (t:M.Tm) (u:List Value) (w':World):Prop:= ∃b gv lv,u=[.pointer (some ⟨b,0,none⟩),lv]∧Ext w w'∧Blk w' b [.int .i64 (blastR ds t).1,gv] zf∧OwnG w' gv (blastR ds t).2.1∧OwnI PP zg w' lv (blastR ds t).2.2∧
 w.heap.size≤b∧(∀x,gv.ownBlock=some x→w.heap.size≤x∧x≠b)∧(∀x,lv.ownBlock=some x→w.heap.size≤x∧x≠b∧gv.ownBlock≠some x)
theorem Qz {b:Nat} {gv lv:Value} {w0 w1 w2:World} {C:List Value→World→Prop} {Q:World→Prop} {a0:Value} {c0:Value} (he:Ext w0 w1) (hb:w0.heap.size≤b) (hb1:b<w2.heap.size) (h2:Blk w2 b [a0,c0] zf) (he2:Ext w1 w2)
  (hg:OwnG w2 gv (blastR ds t).2.1) (hl:OwnI PP zg w2 lv (blastR ds t).2.2) (h1:∀x,gv.ownBlock=some x→w0.heap.size≤x∧x≠b) (h3:∀x,lv.ownBlock=some x→w0.heap.size≤x∧x≠b∧gv.ownBlock≠some x)
  (hC:∀u w,ZC0 w0 ds t u w→C u w):zq PP zf (.pointer (some ⟨b,0,none⟩)) (.agg ⟨[.int .i64 (blastR ds t).1,gv]⟩) w2 fun _ w=>C [.pointer (some ⟨b,0,none⟩),lv] w:=by
 obtain⟨o,c,hv,_⟩:=(Own.sl hg).shape
 generalize ((blastR ds t).2.1.map yi).length=l at hv
 subst hv
 refine h2.stAgg (cs':=[.int .i64 (blastR ds t).1,.slice o l c]) rfl y8 net_one fun w3 hw3 hz3 h3'=>?_
 exact hC _ _ ⟨b,_,lv,rfl,Ext.then (he.trans he2) hw3 fun y hy=>by subst hy;exact hb,h3',Own.same hg hw3 fun x hx e=>(h1 x hx).2 e,hl.same hw3 fun x hx e=>(h3 x hx).2.1 e,hb,h1,h3⟩
theorem regionB {n b3:Nat} {cs:List Value} {dv:Value} {ds:List M.Dcl} {t:M.Tm} {C:List Value→World→Prop} (hS:ForB n ds t) (he0:Errs (fun _=>False) w ar ab) (h3:Blk w b3 cs zA) (hd:DclsR F w dv ds) (hdl:ds.length≤1048576) (ht:TermR F' w (.agg ⟨cs⟩) t) (hf:jk0 t=true)
  (hC:∀u w',ZC0 w ds t u w'→C u w'):
  y6 w fun w_8=>
    ze PP zA (.pointer (some ⟨b3,0,none⟩)) w_8 fun t30 w_9=>w_9=w_8∧
    (vcall PP yP #[dv] w_8 fun t29 w_10=>(ze PP zA (.pointer (some ⟨b3,0,none⟩)) w_10 fun v x=>v=t30∧x=w_10)∧
     (vcall PP yw #[t30] w_10 fun t31 w_11=>
      (vcall PP n #[t29,t31] w_11 fun t32 w_12=>
       zi PP t32 0 w_12 fun t33 w_13=>w_13=w_12∧
       zi PP t32 1 w_12 fun t34 w_14=>w_14=w_12∧
       (zY PP zf w_12 fun t6 w_15=>(zi PP t32 1 w_15 fun v x=>v=t34∧x=w_15)∧(zi PP t32 0 w_15 fun v x=>v=t33∧x=w_15)∧
        (zq PP zf t6 t33 w_15 fun _ w_16=>(zi PP t32 1 w_16 fun v x=>v=t34∧x=w_16)∧
         C [t6,t34] w_16)∧
        True)∧
       True)∧
      (zY PP zf w_11 fun t6_1 w_17=>
       (vcall PP n #[t29,t31] w_17 fun t32_1 w_18=>
        zi PP t32_1 0 w_18 fun t33_1 w_19=>w_19=w_18∧
        zi PP t32_1 1 w_18 fun t34_1 w_20=>w_20=w_18∧
        (zq PP zf t6_1 t33_1 w_18 fun _ w_21=>(zi PP t32_1 1 w_21 fun v x=>v=t34_1∧x=w_21)∧
         C [t6_1,t34_1] w_21)∧
        True)∧
       True)∧
      True)∧
     (zY PP zf w_10 fun t6_2 w_22=>(ze PP zA (.pointer (some ⟨b3,0,none⟩)) w_22 fun v x=>v=t30∧x=w_22)∧
      (vcall PP yw #[t30] w_22 fun t31_1 w_23=>
       (vcall PP n #[t29,t31_1] w_23 fun t32_2 w_24=>
        zi PP t32_2 0 w_24 fun t33_2 w_25=>w_25=w_24∧
        zi PP t32_2 1 w_24 fun t34_2 w_26=>w_26=w_24∧
        (zq PP zf t6_2 t33_2 w_24 fun _ w_27=>(zi PP t32_2 1 w_27 fun v x=>v=t34_2∧x=w_27)∧
         C [t6_2,t34_2] w_27)∧
        True)∧
       True)∧
      True)∧
     True)∧
    (zY PP zf w_8 fun t6_3 w_28=>(ze PP zA (.pointer (some ⟨b3,0,none⟩)) w_28 fun v x=>v=t30∧x=w_28)∧
     (vcall PP yP #[dv] w_28 fun t29_1 w_29=>(ze PP zA (.pointer (some ⟨b3,0,none⟩)) w_29 fun v x=>v=t30∧x=w_29)∧
      (vcall PP yw #[t30] w_29 fun t31_2 w_30=>
       (vcall PP n #[t29_1,t31_2] w_30 fun t32_3 w_31=>
        zi PP t32_3 0 w_31 fun t33_3 w_32=>w_32=w_31∧
        zi PP t32_3 1 w_31 fun t34_3 w_33=>w_33=w_31∧
        (zq PP zf t6_3 t33_3 w_31 fun _ w_34=>(zi PP t32_3 1 w_34 fun v x=>v=t34_3∧x=w_34)∧
         C [t6_3,t34_3] w_34)∧
        True)∧
       True)∧
      True)∧
     True)∧
    True:=by
 have hg:aggB PP zA cs.length=true:=by
  obtain⟨c',e,hc⟩:=ht.cells
  simp only[Value.agg.injEq,Array.mk.injEq] at e
  subst e
  rw[qu hc];exact Zp
 refine zr fun w1 he1 _=>?_
 have q1:=h3.ext he1
 have hz1:=he1.size
 simp only[q1.ldAgg (t:=zA) hg,true_and]
 refine⟨?_,?_,trivial⟩
 ·refine XE (hd.ext he1) hdl fun w2 dv2 he2 hd2=>?_
  have q2:=q1.ext he2
  have hz2:=he2.size
  simp only[q2.ldAgg (t:=zA) hg,true_and,and_self]
  refine⟨?_,?_,trivial⟩
  ·refine toTerm_own t (ht.ext (he1.trans he2)) hf fun w3 c3 he3 hc3=>?_
   have ht3:=(qS0 _ hc3).term
   have hz3:=he3.size
   have hE3:=he1.trans (he2.trans he3)
   refine⟨?_,?_,trivial⟩
   ·refine hS (hd2.ext he3) ht3 (he0.ext0 hE3) fun w4 gv lv he4 hg4 hl4 hgn hln=>?_
    have hz4:=he4.size
    simp only[push_cast,true_and]
    refine⟨?_,trivial⟩
    refine zE yV fun b5 w5 hb5 he5 hs5 h5=>?_
    simp only[push_cast,true_and,and_self,and_true]
    have hgl:∀x,gv.ownBlock=some x→x<w4.heap.size:=fun x hx=>(Own.lt hg4 hx).2
    have hll:∀x,lv.ownBlock=some x→x<w4.heap.size:=fun x hx=>hl4.lt hx
    exact Qz (Q:=fun _=>True) (hE3.trans he4) (by omega) (by omega) h5 he5 (Own.ext hg4 he5) (hl4.ext he5) (fun x hx=>⟨by have:=hgn x hx;omega,by have:=hgl x hx;omega⟩) (fun x hx=>⟨by have:=(hln x hx).1;omega,by have:=hll x hx;omega,(hln x hx).2⟩) hC
   ·refine zE yV fun b5 w5 hb5 he5 hs5 h5=>?_
    refine⟨?_,trivial⟩
    have hz5:=he5.size
    refine hS (hd2.ext (he3.trans he5)) (ht3.ext he5) (he0.ext0 (hE3.trans he5)) fun w4 gv lv he4 hg4 hl4 hgn hln=>?_
    have hz4:=he4.size
    simp only[push_cast,true_and,and_self,and_true]
    exact Qz (Q:=fun _=>True) (hE3.trans he5) (by omega) (by omega) (h5.ext he4) he4 hg4 hl4 (fun x hx=>⟨by have:=hgn x hx;omega,by have:=hgn x hx;omega⟩) (fun x hx=>⟨by have:=(hln x hx).1;omega,by have:=(hln x hx).1;omega,(hln x hx).2⟩) hC
  ·refine zE yV fun b5 w5 hb5 he5 hs5 h5=>?_
   have q5:=q2.ext he5
   have hz5:=he5.size
   simp only[q5.ldAgg (t:=zA) hg,true_and,and_self,and_true]
   refine toTerm_own t (ht.ext (he1.trans (he2.trans he5))) hf fun w3 c3 he3 hc3=>?_
   have hz3:=he3.size
   have ht3:=(qS0 _ hc3).term
   have hE3:=he1.trans (he2.trans (he5.trans he3))
   refine hS (hd2.ext (he5.trans he3)) ht3 (he0.ext0 hE3) fun w4 gv lv he4 hg4 hl4 hgn hln=>?_
   have hz4:=he4.size
   simp only[push_cast,true_and,and_self,and_true]
   exact Qz (Q:=fun _=>True) hE3 (by omega) (by omega) ((h5.ext he3).ext he4) he4 hg4 hl4 (fun x hx=>⟨by have:=hgn x hx;omega,by have:=hgn x hx;omega⟩) (fun x hx=>⟨by have:=(hln x hx).1;omega,by have:=(hln x hx).1;omega,(hln x hx).2⟩) hC
 ·refine zE yV fun b5 w5 hb5 he5 hs5 h5=>?_
  have q5:=q1.ext he5
  have hz5:=he5.size
  simp only[q5.ldAgg (t:=zA) hg,true_and,and_self,and_true]
  refine XE (hd.ext (he1.trans he5)) hdl fun w2 dv2 he2 hd2=>?_
  have q2:=q5.ext he2
  have hz2:=he2.size
  simp only[q2.ldAgg (t:=zA) hg,true_and,and_self,and_true]
  refine toTerm_own t (ht.ext (he1.trans (he5.trans he2))) hf fun w3 c3 he3 hc3=>?_
  have hz3:=he3.size
  have ht3:=(qS0 _ hc3).term
  have hE3:=he1.trans (he5.trans (he2.trans he3))
  refine hS (hd2.ext he3) ht3 (he0.ext0 hE3) fun w4 gv lv he4 hg4 hl4 hgn hln=>?_
  have hz4:=he4.size
  simp only[push_cast,true_and,and_self,and_true]
  exact Qz (Q:=fun _=>True) hE3 (by omega) (by omega) (((h5.ext he2).ext he3).ext he4) he4 hg4 hl4 (fun x hx=>⟨by have:=hgn x hx;omega,by have:=hgn x hx;omega⟩) (fun x hx=>⟨by have:=(hln x hx).1;omega,by have:=(hln x hx).1;omega,(hln x hx).2⟩) hC
theorem FnExactBlast_spec {dv tv:Value} {ds:List M.Dcl} {t:M.Tm} (hd:DclsR F w dv ds) (hz:qo0 ds) (ht:TermR F' w tv t) (hs:Ue t=true) (he0:Errs (fun _=>False) w ar ab) (hK:∀w',Ext w w'→K (.bool true) w'):vcall PP Zg #[dv,tv] w K:=by
 have hSpec:ForB qy ds t:=fun h1 h2 _ h3=>spec_Blast_spec hz h1 h2 h3
 have hImpl:ForB xY ds t:=fun h1 h2 h3 h4=>Blast_spec h1 h2 h3 h4
 have hfew:(blastR ds t).2.1.length≤600:=k30 ds t
 have hlen4:=sigs_few ds t
 generalize hR:blastR ds t=R at*
 obtain⟨N,gs,zs⟩:=R
 simp only at hfew hlen4
 have hpos':=(M.size_pos (t:=t)).1
 apply K7;unfold Zt
 obtain⟨cs,rfl,hcs⟩:=ht.cells
 have hg:aggB PP zA cs.length=true:=by rw[qu hcs];exact Zp
 have hnet:∀{w':World} {b:Nat} {gv:Value} {K:Value→World→Prop},Blk w' b [.int .i64 N,gv] zf→ze PP zf (.pointer (some ⟨b,0,none⟩)) w' K=K (.agg ⟨[.int .i64 N,gv]⟩) w':=fun h=>h.ldAgg (t:=zf) y8
 refine zu fun b1 w1 hb1 he1 hs1 h1=>?_
 refine szDeclS_spec (by decide) (by decide) hz (hd.ext he1) fun w2 r he2 hr=>?_
 simp only[push_cast]
 have hE2:=he1.trans he2
 refine zh (fun _=>hK _ hE2) (fun c=>?_)
 rcases hr with h|⟨r0,r1,r2⟩
 ·omega
 rw[(h1.ext he2).ldAgg (t:=zA) hg]
 refine szTerm_spec t (ht.ext hE2) hs r0 r1 fun w3 r' he3 hr'=>?_
 simp only[push_cast]
 have hE3:=hE2.trans he3
 refine zh (fun _=>hK _ hE3) (fun c'=>?_)
 rcases hr' with h|⟨r0',r1',hfit⟩
 ·omega
 have hdl:ds.length≤1048576:=by omega
 have q3:=h1.ext (he2.trans he3)
 have hz2:=he2.size
 have hz3:=he3.size
 refine zX (ZC0 w3 ds t) (fun C hC=>regionB hSpec (he0.ext0 hE3) q3 (hd.ext hE3) hdl (ht.ext hE3) hfit hC) ?_
 rintro _ _ w4 ⟨bu,gu,lu,rfl,he4,hBu,hgu,hlu,hbu,hgun,hlun⟩
 rw[hR] at hBu hgu hlu
 simp only at hBu hgu hlu
 simp only[push_cast]
 have hE4:=hE3.trans he4
 have hz4:=he4.size
 have hbul:=hBu.lt
 have hgul:∀x,gu.ownBlock=some x→x<w4.heap.size:=fun x hx=>(Own.lt hgu hx).2
 have hlul:∀x,lu.ownBlock=some x→x<w4.heap.size:=fun x hx=>hlu.lt hx
 refine toDeclS_own (hd.ext hE4) hdl fun w5 x0 he5 hx0 hx0b=>?_
 have hE5:=hE4.trans he5
 have q5:=(q3.ext he4).ext he5
 have hz5:=he5.size
 have hx0l:∀b,x0.ownBlock=some b→b<w5.heap.size:=fun b hb=>(hx0.lt hb).2
 rw[q5.ldAgg (t:=zA) hg]
 refine toTerm_own t (ht.ext hE5) hfit fun w6 c6 he6 ho6=>?_
 have hE6:=hE5.trans he6
 have hz6:=he6.size
 have hr6:=qS0 _ ho6
 have hg6:aggB PP zb c6.length=true:=by rw[qu hr6];exact zQ
 refine zE xu fun b7 w7 hb7 he7 hs7 h7=>?_
 refine stTerm h7 rfl (hr6.ext he7) fun w8 hw8 hz8 h8=>?_
 have he68:Ext w6 w8:=Ext.then he7 hw8 fun y hy=>by subst hy;omega
 have hE8:=hE6.trans he68
 have hz68:=he68.size
 have ho68:=q70 ho6 he68
 rw[h8.ldAgg (t:=zb) hg6]
 refine hImpl (hx0.sl.ext (he6.trans he68)) (hr6.ext he68).term (he0.ext0 hE8) fun w9 gw lw he9 hgw hlw hgwn hlwn=>?_
 rw[hR] at hgw hlw⊢
 simp only at hgw hlw
 simp only[push_cast]
 have hE9:=hE8.trans he9
 have hz9:=he9.size
 have hgwl:∀x,gw.ownBlock=some x→x<w9.heap.size:=fun x hx=>(Own.lt hgw hx).2
 have hlwl:∀x,lw.ownBlock=some x→x<w9.heap.size:=fun x hx=>hlw.lt hx
 refine net_new hgw fun w11 b10 hb10 he911 h11 hg11=>?_
 have hE11:=hE9.trans he911
 have hz911:=he911.size
 have hl10:=h11.lt
 have he411:Ext w4 w11:=he5.trans (he6.trans (he68.trans (he9.trans he911)))
 have eq2:∀{w':World} {Kc A B:World→Prop} {va vb la lb:Value} {Fa Fb Ga Gb:Nat→Prop},GatesR Fa w' va gs→GatesR Fb w' vb gs→Ints Ga w' la zs→Ints Gb w' lb zs→(∀w'',Ext w' w''→Kc w'')→vcall PP jm #[.agg ⟨[.int .i64 N,va]⟩,.agg ⟨[.int .i64 N,vb]⟩] w' fun t47 w_49=>
     vun PP .not t47 w_49 fun t48 w_50=>vif t48 (A w_50) (vcall PP qN #[la,lb] w_50 fun t52 w_51=>vun PP .not t52 w_51 fun t53 w_52=>vif t53 (B w_52) (Kc w_52)):=fun{w'} {Kc} {A} {B} {va} {vb} {la} {lb} {_} {_} {_} {_} h1 h2 h3 h4 hKc=>by
  refine j60 h1 h2 (by omega) fun w1 he1=>?_
  simp only[push_cast,Bool.not_true]
  refine eqIntS_same (h3.ext he1) (h4.ext he1) fun w2 he2=>?_
  simp only[push_cast,Bool.not_true]
  exact hKc _ (he1.trans he2)
 refine zX (fun u w'=>u=[]∧Ext w11 w') (fun C hC=>?_) ?_
 ·rw[hnet h11,hnet (hBu.ext he411)]
  exact eq2 (Own.sl hg11) (Sl.ext (Own.sl hgu) he411) (hlw.ints.ext he911) (hlu.ints.ext he411) fun w' he=>hC _ _ ⟨rfl,he⟩
 rintro _ _ w12 ⟨rfl,he12⟩
 have hE12:=hE11.trans he12
 refine XE (hd.ext hE12) hdl fun w13 dv13 he13 hd13=>?_
 have hE13:=hE12.trans he13
 have he513:Ext w5 w13:=he6.trans (he68.trans (he9.trans (he911.trans (he12.trans he13))))
 refine eqDeclS_same (ds:=ds) (hx0.sl.ext he513) hd13 fun w14 he14=>?_
 simp only[push_cast,Bool.not_true]
 have hE14:=hE13.trans he14
 refine zr fun w15 he15 _=>?_
 have hE15:=hE14.trans he15
 have he815:Ext w8 w15:=he9.trans (he911.trans (he12.trans (he13.trans (he14.trans he15))))
 have he515:Ext w5 w15:=he513.trans (he14.trans he15)
 simp only[(h8.ext he815).ldAgg (t:=zb) hg6,(q5.ext he515).ldAgg (t:=zA) hg,true_and]
 refine toTerm_spec t (ht.ext hE15) hfit fun w16 v16 he16 ht16=>?_
 simp only[(h8.ext (he815.trans he16)).ldAgg (t:=zb) hg6,true_and,and_self]
 have hE16:=hE15.trans he16
 refine qg0 t (hr6.ext (he68.trans (he815.trans he16))).term ht16 fun w17 he17=>?_
 simp only[push_cast,Bool.not_true,true_and]
 have hE17:=hE16.trans he17
 have he517:Ext w5 w17:=he515.trans (he16.trans he17)
 have he817:Ext w8 w17:=he815.trans (he16.trans he17)
 have he1117:Ext w11 w17:=he12.trans (he13.trans (he14.trans (he15.trans (he16.trans he17))))
 have hz817:=he817.size
 have hz1117:=he1117.size
 refine markDeclS_spec (hx0.ext he517) (by decide) (by rw[List.length_map];omega) fun w18 hw18=>?_
 rw[List.length_map]
 have hz18:=hw18.size
 have h8':=(h8.ext he817).same hw18 (fun e=>by have:=hx0l _ e;omega)
 have ho6':=YO hw18 _ (q70 ho68 he817) fun b hb e=>by have:=hx0l _ e;omega
 rw[h8'.ldAgg (t:=zb) hg6]
 refine markTerm_spec ho6' (by omega) (by omega) (fun b hb=>by omega) fun w19 u6 hw19 ho19 hH19=>?_
 have hz19:=hw19.size
 have hS19:Same (fun b=>x0.ownBlock=some b∨(w5.heap.size≤b∧b<w6.heap.size)) w17 w19:=(hw18.mono fun _ _ h=> .inl h).trans (hw19.mono fun _ _ h=> .inr h)
 have hE19:Ext w w19:=Ext.then hE17 hS19 fun y hy=>by
  rcases hy with hy|hy
  ·have:=hx0b y hy;omega
  ·omega
 have old:∀{b:Nat},b<w4.heap.size→¬(x0.ownBlock=some b∨(w5.heap.size≤b∧b<w6.heap.size)):=fun hb e=>by
  rcases e with e|e
  ·have:=hx0b _ e;omega
  ·omega
 have new:∀{b:Nat},w8.heap.size≤b→¬(x0.ownBlock=some b∨(w5.heap.size≤b∧b<w6.heap.size)):=fun hb e=>by
  rcases e with e|e
  ·have:=hx0l _ e;omega
  ·omega
 have he417:=he411.trans he1117
 have hBu':=(hBu.ext he417).same hS19 (old hbul)
 have hgu':OwnG w19 gu gs:=Own.same (Own.ext hgu he417) hS19 fun b hb=>old (hgul b hb)
 have hlu':=(hlu.ext he417).same hS19 fun b hb=>old (hlul b hb)
 have h11':=(h11.ext he1117).same hS19 (new (by omega))
 have hgw':OwnG w19 gw gs:=Own.same (Own.ext hg11 he1117) hS19 fun b hb=>new (by have:=hgwn b hb;omega)
 have hlw':=(hlw.ext (he911.trans he1117)).same hS19 fun b hb=>new (by have:=(hlwn b hb).1;omega)
 have q1':=(q5.ext he517).same hS19 (old (by have:=q3.lt;omega))
 refine zX (fun u w'=>u=[]∧Ext w19 w') (fun C hC=>?_) ?_
 ·simp only[push_cast]
  refine zh (fun a=>by omega) (fun _=>?_)
  rw[hnet h11',hnet hBu']
  exact eq2 (Own.sl hgw') (Own.sl hgu') hlw'.ints hlu'.ints fun w' he=>hC _ _ ⟨rfl,he⟩
 rintro _ _ w20 ⟨rfl,he20⟩
 have hE20:=hE19.trans he20
 have hz20:=he20.size
 rw[hnet (h11'.ext he20)]
 refine xl0 (k:=1) (Own.ext hgw' he20) (by omega) (by decide) (by decide) fun w21 hw21 hg21=>?_
 have hz21:=hw21.size
 refine markIntS_spec ((hlw'.ext he20).same hw21 fun b hb e=>(hlwn b hb).2 e) (by omega) (by omega) (by omega) fun w22 hw22 hl22=>?_
 have hz22:=hw22.size
 have hg22:OwnG w22 gw (K2 1 gs.length):=Own.same hg21 hw22 fun b hb e=>(hlwn b e).2 hb
 have hS22:Same (fun b=>gw.ownBlock=some b∨lw.ownBlock=some b) w20 w22:=(hw21.mono fun _ _ h=> .inl h).trans (hw22.mono fun _ _ h=> .inr h)
 have gwlw:∀{b:Nat},(gw.ownBlock=some b∨lw.ownBlock=some b)→w8.heap.size≤b∧b<w9.heap.size:=fun h=>by
  rcases h with h|h
  ·exact⟨hgwn _ h,hgwl _ h⟩
  ·exact⟨(hlwn _ h).1,hlwl _ h⟩
 have hE22:Ext w w22:=Ext.then hE20 hS22 fun y hy=>by have:=gwlw hy;omega
 have h22:=(h11'.ext he20).same hS22 (fun e=>by have:=gwlw e;omega)
 have hBu'':=(hBu'.ext he20).same hS22 (fun e=>by have:=gwlw e;omega)
 have hgu'':OwnG w22 gu gs:=Own.same (Own.ext hgu' he20) hS22 fun b hb e=>by have:=gwlw e;have:=hgul b hb;omega
 have hlu'':=(hlu'.ext he20).same hS22 fun b hb e=>by have:=gwlw e;have:=hlul b hb;omega
 have q1'':=(q1'.ext he20).same hS22 (fun e=>by have:=gwlw e;have:=q3.lt;omega)
 rw[hnet h22]
 refine heldNet_spec (Own.sl hg22) (by omega) (by decide) (by decide) fun w23 he23=>?_
 simp only[push_cast]
 refine zh (fun a=>by omega) (fun _=>?_)
 refine heldIntS_spec (hl22.ints.ext he23) (by omega) (by omega) (by omega) ?_
 simp only[push_cast]
 refine zh (fun a=>by omega) (fun _=>?_)
 refine zh (fun a=>absurd rfl a) (fun _=>?_)
 have hE23:=hE22.trans he23
 refine zX (ZC0 w23 ds t) (fun C hC=>regionB hImpl (he0.ext0 hE23) (q1''.ext he23) (hd.ext hE23) hdl (ht.ext hE23) hfit hC) ?_
 rintro _ _ w24 ⟨bq,gq,lq,rfl,he24,hBq,hgq,hlq,_,_,_⟩
 rw[hR] at hBq hgq hlq
 simp only at hBq hgq hlq
 simp only[push_cast]
 have he224:=he23.trans he24
 refine zX (fun u w'=>u=[]∧Ext w24 w') (fun C hC=>?_) ?_
 ·rw[hnet hBq,hnet (hBu''.ext he224)]
  exact eq2 (Own.sl hgq) (Sl.ext (Own.sl hgu'') he224) hlq.ints (hlu''.ints.ext he224) fun w' he=>hC _ _ ⟨rfl,he⟩
 rintro _ _ w25 ⟨rfl,he25⟩
 have he225:=he224.trans he25
 rw[hnet (h22.ext he225)]
 refine heldNet_spec (Sl.ext (Own.sl hg22) he225) (by omega) (by decide) (by decide) fun w26 he26=>?_
 simp only[push_cast]
 refine zh (fun a=>by omega) (fun _=>?_)
 refine heldIntS_spec (hl22.ints.ext (he225.trans he26)) (by omega) (by omega) (by omega) ?_
 simp only[push_cast]
 refine zh (fun a=>by omega) (fun _=>?_)
 refine zh (fun a=>absurd rfl a) (fun _=>?_)
 exact hK _ (hE22.trans (he225.trans he26))
end Go.Proofs.YtaekfnbnhjgboaaGreatDoor
end
section
namespace Go.Proofs.YtaekfnbnhjgboaaGreatDoor
open Go Go.Vc Go.Proofs
open Go.RowKit
theorem laid_at {l:List (String×DataW Unit)} {W:World} (h:laidMet PP l W):∀k,laidMet PP (l.drop k) W
 |0=>h
 |k+1=>by
  have h':=laid_at h k
  rw[←List.tail_drop]
  cases hd:l.drop k with
  |nil=>rw[hd] at h';exact h'
  |cons x r=>rw[hd] at h';exact h'.tail
theorem xe0: "*" ++ "errors.errorString" = "*errors.errorString" :=by decide
theorem Z20 (u:TypeId) (h:PP.typeName? 3 u=some "*errors.errorString"):u=xn:=
 typeName_ptr_named (nm:= "errors.errorString") (by rw[xe0];kernel_rfl) (by kernel_rfl) (by decide) u (by rw[xe0];exact h)
def ifaceB (P:Program) (t:TypeId):Bool:=match P.underlying t with
 |some (.interface _)=>true
 |_=>false
theorem Zk0 {P:Program} {t:TypeId} (h:ifaceB P t=true):∃ms,P.underlying t=some (.interface ms):=by
 unfold ifaceB at h
 split at h
 ·exact⟨_,by assumption⟩
 ·cases h
theorem qT0:∃ms,PP.underlying yJ=some (.interface ms):=Zk0 (by kernel_rfl)
def fieldB (P:Program) (t u:TypeId):Bool:=match P.underlying t with
 |some (.struct fs)=>match fs.toList with
  |[f]=>decide (f.type=u)&&decide (f.offset=0)
  |_=>false
 |_=>false
theorem Zm0 {P:Program} {t u:TypeId} (h:fieldB P t u=true):∃f,P.underlying t=some (.struct #[f])∧f.type=u∧f.offset=0:=by
 unfold fieldB at h
 split at h
 ·rename_i fs hfs
  split at h
  ·rename_i f hf
   simp only[Bool.and_eq_true,decide_eq_true_eq] at h
   refine⟨f,?_,h⟩
   rw[hfs]
   congr 2
   exact Array.toList_inj.1 (by simpa using hf)
  ·cases h
 ·cases h
theorem Z30:PP.underlying xn=some (.pointer 396):=by kernel_rfl
theorem q80:∃f,PP.underlying 396=some (.struct #[f])∧f.type=zB∧f.offset=0:=Zm0 (by kernel_rfl)
theorem q90:PP.underlying zB=some .string:=by kernel_rfl
theorem YH0:PP.cellsOf 396=1∧PP.cellsOf zB=1:=⟨by kernel_rfl,by kernel_rfl⟩
theorem jE0 {n:String} {text:List UInt8} {r l:List (String×DataW Unit)} {W:World} {g:Nat} (h:laidMet PP l W) (k:Nat) (hl:l.drop k=(n,.iface "*errors.errorString" (.ptr (.agg [.lit (.string text)])))::r)
  (hg:PP.globalNamed n=some g) (ht:(PP.globals[g]?).map (·.type)=some yJ):∃a,Sent W g a:=by
 have h':=laid_at h k
 rw[hl] at h'
 obtain⟨ms,hi⟩:=qT0
 obtain⟨f,h1,h2,h3⟩:=q80
 obtain⟨a,s,hv,_⟩:=laid_sentinel h' hg ht hi Z20 Z30 h1 h2 h3 q90 YH0.1 YH0.2
 exact⟨a,by unfold Sent;simpa using World.var?_cell hg hv 0⟩
theorem vars_len {H:Type} {enc:TypeId×Value→H} {P:Program} {w:World} {sp:Nat→Bool}:∀{ns:List String} {gs:List (DataW H)} {ps:List MemPlace},DataW.TrodVars enc P w sp ns gs ps→gs.length=ns.length
 |[],[],_,_=>rfl
 |[],_::_,_,h=>h.elim
 |_::_,[],_,h=>h.elim
 |_::_,_::_,_,⟨_,_,_,_,_,_,_,_,_,_,hs,_⟩=>by rw[List.length_cons,List.length_cons,vars_len hs]
theorem vlist2 {α:Type} {l:List α} (h:l.length=2):∃a b,l=[a,b]:=by
 match l,h with
 |[a,b],_=>exact⟨a,b,rfl⟩
end Go.Proofs.YtaekfnbnhjgboaaGreatDoor
end
