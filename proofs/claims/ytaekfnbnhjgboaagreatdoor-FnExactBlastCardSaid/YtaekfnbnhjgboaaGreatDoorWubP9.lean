import Derived.Test.YtaekfnbnhjgboaaGreatDoorWubP8
import Derived.Test.YtaekfnbnhjgboaaGreatDoorWubP5
import Derived.LaidEql
import Derived.Stop.Asserts
/- A part of the proof. -/
set_option linter.unusedVariables false
set_option linter.unusedSimpArgs false
set_option linter.unnecessarySimpa false
set_option linter.unusedSectionVars false
section
namespace Go.Proofs.YtaekfnbnhjgboaaGreatDoor
open Go Go.Vc Go.Proofs
variable {w:World} {K:Value→World→Prop} {F F' Fx Fy X Q:Nat→Prop}
theorem Uo {s:ByteArray} {m:Value} (hK:∀w',Ext w w'→K (.string s) w'):vcall PP yA #[.agg ⟨[.string s,m]⟩] w K:=by
 apply W3;unfold Yx
 refine zu fun b w1 hb he hz hB=>?_
 simp(disch:=first|(simp only[push_cast];done)|omega) only[push_cast,hB.ld0]
 exact hK w1 he
theorem word_spec {o:Int} {v:Value} (hv:KindR o v) (ho:(1≤o∧o≤17)∨(22≤o∧o≤27)) (h24:o≠24) (hK:∀w' s,Ext w w'→s.data.toList=M.wordL o→K (.string s) w'):vinvoke PP v X8 #[] w K:=by
 obtain⟨s,m,r,rfl,h1,h2,h3⟩:=hv.word
 have hs:s.data.toList=M.wordL o:=by
  rcases h3 with h|h|h|h
  ·omega
  ·omega
  ·exact absurd h h24
  ·exact h
 have fin:vcall PP yA #[.agg ⟨[.string s,.int .i64 m]⟩] w K:=Uo fun w' he=>hK w' s he hs
 unfold kTy
 by_cases c:24≤o
 ·obtain⟨f,rfl,_⟩:=h2 c
  repeat rw[if_neg (by omega)]
  exact y5 (XZ _ _ _) fin
 ·have:=h1 (by omega)
  subst this
  by_cases c1:o≤2
  ·rw[if_pos c1];exact y5 (JT _ _) fin
  rw[if_neg c1]
  by_cases c2:o≤13
  ·rw[if_pos c2];exact y5 (QT _ _) fin
  rw[if_neg c2]
  by_cases c3:o=14
  ·rw[if_pos c3];exact y5 (QQ _ _) fin
  rw[if_neg c3]
  by_cases c4:o≤17
  ·rw[if_pos c4];exact y5 (QM _ _) fin
  rw[if_neg c4,if_neg (by omega),if_neg (by omega)]
  by_cases c5:o=22
  ·rw[if_pos c5];exact y5 (QI _ _) fin
  rw[if_neg c5,if_pos (by omega)]
  exact y5 (JW _ _) fin
theorem wordL_len (o:Int):(M.wordL o).length≤5:=by
 by_cases h:0≤o∧o<28
 ·have hall:∀k:Fin 28,(M.wordL (k.1:Int)).length≤5:=by decide+kernel
  have:=hall ⟨o.toNat,by omega⟩
  rwa[show((o.toNat:Nat):Int)=o by omega] at this
 ·unfold M.wordL
  repeat rw[if_neg (by omega)]
  decide
theorem kU0 (wd n:Nat):(M.vecL wd n).length=wd+1:=by unfold M.vecL;simp
theorem kids_sum {f:M.Tm→Nat} {ks:List M.Tm} {g:M.Tm→List UInt8} (h:∀k,k∈ks→(g k).length+1≤f k):((ks.map g).flatMap (fun x=>32::x)).length≤(ks.map f).sum:=by
 induction ks with
 |nil=>simp
 |cons k ks ih=>
  have:=h k List.mem_cons_self
  have:=ih fun y hy=>h y (List.mem_cons_of_mem _ hy)
  simp only[List.map_cons,List.flatMap_cons,List.length_append,List.length_cons,List.sum_cons]
  omega
theorem text_len {ds:List M.Dcl} (hd:M.declOk ds=true):∀t,M.sortM ds t≠ -1→(M.textL t).length+1≤20*M.sizeM t:=by
 refine M.Tm.ind fun t ih hs=>?_
 obtain⟨har,hp,ho⟩:=M.right_op hs
 rw[M.sizeM_eq,M.textL_eq]
 have hk:((t.ks.map M.textL).flatMap (fun x=>32::x)).length≤(t.ks.map fun k=>20*M.sizeM k).sum:=kids_sum fun k hk=>ih k hk ((M.sort_parts hs).2.1 k hk)
 have hsum:(t.ks.map fun k=>20*M.sizeM k).sum=20*(t.ks.map M.sizeM).sum:=by
  generalize t.ks=l
  induction l with
  |nil=>rfl
  |cons k l ihl=>simp only[List.map_cons,List.sum_cons,ihl];omega
 unfold M.textF
 by_cases c:t.op=20
 ·rw[if_pos c,kU0]
  have:=M.vok_iff.1 (M.vec_ok hs c);omega
 rw[if_neg c]
 by_cases c:t.op=21
 ·rw[if_pos c]
  have hf:=M.name_found hs c
  have hj:(M.findD ds t.s).toNat<ds.length:=by have:=(M.findD_lt ds t.s).2;omega
  have hok:=(M.decl_iff.1 hd).2.1 _ hj
  unfold M.dclOk at hok
  rw[M.findD_get hf] at hok
  simp only[Bool.and_eq_true,decide_eq_true_eq,M.nameOk] at hok
  obtain⟨⟨⟨⟨⟨⟨h1,h2⟩,h3⟩,h4⟩,_⟩,_⟩,_⟩:=hok
  have:t.s.data.toList.length=t.s.size:=by rw[Array.length_toList];rfl
  omega
 rw[if_neg c]
 by_cases c:t.op=24
 ·rw[if_pos c];simp;omega
 rw[if_neg c]
 have:=wordL_len t.op
 have hcut:(if t.op=22 then(32:UInt8)::(M.digL t.a++32::M.digL t.b) else[]).length≤4:=by
  split
  ·simp[M.digL]
  ·simp
 simp only[List.length_cons,List.length_append,List.length_nil]
 omega
theorem Itoa_int {k:Int} (h0:0≤k) (hk:k<10) (hK:∀s:ByteArray,s.data.toList=M.digL k→K (.string s) w):vcall PP j0 #[.int .i64 k] w K:=by
 obtain⟨j,rfl⟩:∃j:Nat,k=j:=⟨k.toNat,by omega⟩
 exact Itoa_spec (by omega) hK
theorem textOf_spec {ds:List M.Dcl} (hd:M.declOk ds=true) {kb:Nat}:∀(t:M.Tm),M.sortM ds t≠ -1→M.sizeM t≤1000→∀{w:World} {K:Value→World→Prop} {F:Nat→Prop} {tv:Value},KindsR w kb→TermR F w tv t→
  (∀w' s,Ext w w'→s.data.toList=M.textL t→K (.string s) w')→vcall PP Z4 #[.map (some kb),tv] w K:=by
 refine M.Tm.ind fun t ih hs hsz w K F tv hk ht hK=>?_
 obtain⟨har,hp,ho⟩:=M.right_op hs
 have hlen:=text_len hd t hs
 obtain⟨kv,rfl,hks⟩:=ht
 apply yW0;unfold Vy
 refine zu fun b1 w1 hb1 he1 hz1 hB1=>?_
 have hk1:=hk.ext he1
 have hks1:=hks.ext he1
 rw[M.textL_eq] at hK hlen
 unfold M.textF at hK hlen
 simp(disch:=first|(simp only[push_cast];done)|omega) only[push_cast,hB1.ld0,hB1.ld1,hB1.ld2,hB1.ld3]
 refine zh (fun c=>?_) (fun c=>?_)
 ·rw[if_pos c] at hK
  have hv:=M.vec_ok hs c
  have e:zU PP za [(0,.int .i64 t.a),(1,.int .i64 t.b)] w1=fun K=>K (k8 t.a t.b) w1:=by
   funext K;exact yB Wg (us:=[[.int .i64 t.a],[.int .i64 t.b]]) rfl rfl
  try rw[e]
  exact VecText_spec hv fun w2 s he2 hs2=>hK w2 s (he1.trans he2) hs2
 rw[if_neg c] at hK hlen
 refine zh (fun c=>?_) (fun c=>?_)
 ·rw[if_pos c] at hK
  exact hK w1 _ he1 rfl
 rw[if_neg c] at hK hlen
 refine zh (fun c=>?_) (fun c=>?_)
 ·rw[if_pos c] at hK
  exact hK w1 _ he1 rfl
 rw[if_neg c] at hK hlen
 have ho':(1≤t.op∧t.op≤17)∨(22≤t.op∧t.op≤27):=by omega
 refine Uq (ok:=false) hk1 (by rw[har];omega) fun kv2 hkv=>?_
 simp only[Bool.false_eq_true,if_false]
 refine word_spec hkv ho' (by omega) fun w2 ws he2 hws=>?_
 refine yc Kz (by kernel_rfl) Kt rfl rfl fun b3 w3 hb3 he3 hz3 hB3=>?_
 have e13:=he2.trans he3
 have s1:=he1.size;have s2:=he2.size
 have hB13:=hB1.ext e13
 have ho3:OwnV PP yT w3 (.slice (some ⟨b3,0,none⟩) 1 1) ([ws].map .string):=Blk.own1 (P:=PP) (t:=yT) (cs:=[Value.string ws]) (by rw[j80];exact hB3) (Nat.zero_le _) rfl rfl (by omega)
 have hn1:1≤t.ks.length:=by
  have:=M.node_arity ho (by omega)
  omega
 have hkl:t.ks.length≤3:=by
  have h:M.arity t.op≤3:=by
   unfold M.arity;repeat' split
   all_goals omega
  omega
 refine zX (fun u w'=> ∃(wv:Value) (wl:List ByteArray),u=[wv]∧Ext w1 w'∧OwnV PP yT w' wv (wl.map .string)∧(∀b,wv.ownBlock=some b→w1.heap.size≤b)∧wl.length≤3∧wl.map (·.data.toList)=M.wordL t.op::(if t.op=22 then[M.digL t.a,M.digL t.b] else[])) ?_ ?_
 ·intro J hJ
  simp(disch:=first|(simp only[push_cast];done)|omega) only[push_cast,hB13.ld0,hB13.ld1,hB13.ld2]
  refine zh (fun c22=>?_) (fun c22=>?_)
  ·obtain⟨hb0,hba,ha4⟩:=M.cut_ab hd hs c22
   refine zr fun w4 he4 _=>?_
   have hB14:=hB13.ext he4
   simp(disch:=first|(simp only[push_cast];done)|omega) only[push_cast,hB14.ld1,hB14.ld2,true_and]
   refine Itoa_int (by omega) (by omega) fun sa hsa=>?_
   simp(disch:=first|(simp only[push_cast];done)|omega) only[push_cast,hB14.ld2,true_and,and_self]
   refine Itoa_int (by omega) (by omega) fun sb hsb=>?_
   refine vbuildS_row1 (xs:=[.string sa,.string sb]) Kz Qr Kt (fun x hx'=>by
    simp only[List.mem_cons,List.not_mem_nil,or_false] at hx'
    rcases hx' with rfl|rfl<;>rfl) (by simp) fun b5 w5 hb5 he5 hz5 hB5=>?_
   have hv5:Vals (· =b5) w5 (.slice (some ⟨b5,0,none⟩) 2 2) [.string sa,.string sb]:=hB5.sl1 rfl (by simp)
   have e35:=he4.trans he5
   refine(ho3.ext e35).app xn0 hv5 (fun u hu=>by
    simp only[List.mem_cons,List.not_mem_nil,or_false] at hu
    rcases hu with rfl|rfl<;>rfl) (by simp) (by simp) fun r6 w6 ho6 hs6 hn6=>?_
   have z35:=e35.size;have z3:=he3.size
   refine hJ _ _ ⟨r6,[ws,sa,sb],rfl,Ext.then (e13.trans e35) hs6 fun b hb=>by have e:b3=b:=Option.some.inj hb;omega,by simpa using ho6,fun b hb=>(hn6 b hb).elim (fun h=>by have e:b3=b:=Option.some.inj h;omega) fun h=>by omega,by simp,?_⟩
   rw[if_pos c22]
   simp[hws,hsa,hsb]
  ·exact hJ _ _ ⟨_,[ws],rfl,e13,ho3,fun b hb=>by have e:b3=b:=Option.some.inj hb;omega,by simp,by rw[if_neg c22];simp[hws]⟩
 rintro _ _ w5 ⟨wv,wl,rfl,he5,ho5,hn5,hwl,hwt⟩
 have hB5:=hB1.ext he5
 have hks5:=hks1.ext he5
 simp(disch:=first|(simp only[push_cast];done)|omega) only[push_cast,hB5.ld4,hks5.len]
 refine vloop_up t.ks.length (fun i u w'=> ∃(r:Value) (kl:List ByteArray),u=[r,.int .i64 i]∧Ext w1 w'∧OwnV PP yT w' r ((wl++kl).map .string)∧(∀b,r.ownBlock=some b→w1.heap.size≤b)∧kl.map (·.data.toList)=(t.ks.take i).map M.textL) ⟨wv,[],rfl,he5,by simpa using ho5,hn5,rfl⟩ ?_
 rintro i _ g w6 C hi ⟨r,kl,rfl,he6,ho6,hn6,hkl6⟩ hC
 have hks6:=hks1.ext he6
 have hkll:kl.length=i:=by
  have:=congrArg List.length hkl6
  simp only[List.length_map,List.length_take] at this
  omega
 simp only[push_cast]
 refine zh (fun a=>?_) (fun a=>?_)
 ·have hi':i<t.ks.length:=by omega
  simp(disch:=first|(simp only[push_cast];done)|omega) only[push_cast,hks6.iaddr]
  refine hks6.load zQ hi' fun x hx=>?_
  obtain⟨cx,rfl,hcx⟩:=hx.cells
  refine zE xu fun b7 w7 hb7 he7 hz7 hB7=>?_
  refine stTerm hB7 rfl (hcx.ext he7) fun w8 hw8 hz8 hB8=>?_
  have e68:Ext w6 w8:=Ext.then he7 hw8 fun y hy=>by subst hy;omega
  have v8:=hcx.ext e68
  simp(disch:=(simp only[push_cast];done)) only[push_cast,hB8.ldAgg (t:=zb) (by rw[qu hcx];exact zQ)]
  have hmem:t.ks.getD i default∈t.ks:=M.getD_mem hi' _
  have hsk:M.sizeM (t.ks.getD i default)≤1000:=by
   have h1:=M.szT_succ hi'
   have h2:=M.szT_mono (ks:=t.ks) (i:=i+1) (j:=t.ks.length) hi' (Nat.le_refl _)
   have h3:=M.szT_all t
   omega
  refine ih _ hmem ((M.sort_parts hs).2.1 _ hmem) hsk (hk1.ext (he6.trans e68)) v8.term fun w9 sk he9 hsk'=>?_
  refine yc Kz (by kernel_rfl) Kt rfl rfl fun b10 w10 hb10 he10 hz10 hB10=>?_
  have e610:=e68.trans (he9.trans he10)
  have hl6:((wl++kl).map Value.string).length≤6:=by rw[List.length_map,List.length_append];omega
  refine(ho6.ext e610).app1 xn0 hB10 rfl (by omega) (by omega) fun r11 w11 ho11 hs11 hn11=>?_
  have z6:=he6.size;have z610:=e610.size
  try simp(disch:=omega) only[push_cast,zF]
  refine hC hi' _ _ ⟨r11,kl++[sk],by simp<;>exact⟨rfl,rfl⟩,Ext.then (he6.trans e610) hs11 fun b hb=>hn6 b hb,?_,fun b hb=>(hn11 b hb).elim (hn6 b) fun h=>by omega,?_⟩
  ·rw[←List.append_assoc,List.map_append];exact ho11
  ·rw[M.take_add hi' default,List.map_append,List.map_append,hkl6]
   simp[hsk']
 ·have hi':i=t.ks.length:=by omega
  subst hi'
  rw[List.take_length] at hkl6
  have htxt:joinB ((wl++kl).map (·.data.toList))=M.wordL t.op++((if t.op=22 then(32:UInt8)::(M.digL t.a++32::M.digL t.b) else[])++(t.ks.map M.textL).flatMap fun x=>32::x):=by
   rw[List.map_append,hwt,hkl6]
   show joinB (M.wordL t.op::((if t.op=22 then[M.digL t.a,M.digL t.b] else[])++t.ks.map M.textL))=_
   rw[show ∀(x:List UInt8) xs,joinB (x::xs)=x++xs.flatMap (fun y=>32::y) from fun _ _=>rfl,List.flatMap_append]
   split<;>simp
  have hl2:2≤(wl++kl).length:=by
   have h1:1≤wl.length:=by
    have:=congrArg List.length hwt
    simp only[List.length_map,List.length_cons] at this
    omega
   rw[List.length_append];omega
  simp only[List.length_cons,List.length_append,List.length_nil] at hlen
  have hjl:(joinB ((wl++kl).map (·.data.toList))).length≤20000:=by
   rw[htxt]
   simp only[List.length_append]
   omega
  refine Join_spec ho6 hl2 (by rw[List.length_append];omega) (by omega) fun w7 sj he7 hsj=>?_
  have hsz7:sj.size≤20000:=by
   have:sj.data.toList.length=sj.size:=by rw[Array.length_toList];rfl
   rw[hsj] at this;omega
  have h1:(⟨#[40]⟩:ByteArray).size=1:=by decide+kernel
  have h3:(⟨#[41]⟩:ByteArray).size=1:=by decide+kernel
  have h2:((⟨#[40]⟩:ByteArray)++sj).size=1+sj.size:=by rw[ByteArray.size_append,h1]
  rw[YN (by omega),YN (by omega)]
  refine hK w7 _ (he1.trans (he6.trans he7)) ?_
  rw[ByteArray.data_append,ByteArray.data_append,Array.toList_append,Array.toList_append,hsj,htxt]
  simp
end Go.Proofs.YtaekfnbnhjgboaaGreatDoor
end
section
namespace Go.M
theorem node_right {ds:List Dcl} {t:Tm} (hd:declOk ds=true) (hs:sortM ds t≠ -1) {L:Nat→Nat} (hl:∀i,i<t.ks.length→L i=lenS (sortM ds (kid t i))):
  (1≤t.op→t.op≤2→t.ks.length=1∧1≤L 0∧L 0≤4)∧(3≤t.op→t.op≤13→t.ks.length=2∧L 0=L 1∧1≤L 0∧L 0≤4)∧(t.op=14→t.ks.length=2∧1≤L 0∧1≤L 1∧L 0+L 1≤4)∧
  (15≤t.op→t.op≤17→t.ks.length=2∧L 0=L 1∧1≤L 0∧L 0≤4)∧(t.op=22→t.ks.length=1∧0≤t.b∧t.b≤t.a∧t.a<L 0∧L 0≤4)∧(t.op=23→t.ks.length=3∧L 0=1∧L 1=L 2∧1≤L 1∧L 1≤4)∧
  (25≤t.op→(t.ks.length=if t.op=25 then 1 else 2)∧∀i,i<t.ks.length→L i=1):=by
 obtain⟨hf,hkd,hsk⟩:=sort_parts hs
 simp only[formed,Bool.and_eq_true,decide_eq_true_eq] at hf
 obtain⟨har,hpl⟩:=hf
 have hops:=arity_ops (o:=t.op) (by omega)
 have hx:∀i,i<t.ks.length→(t.ks.map (sortM ds)).getD i 0=sortM ds (kid t i):=fun i hi=>getD_map _ hi _ _
 have hrg:∀i,-1≤sortM ds (kid t i)∧sortM ds (kid t i)≤4:=fun i=>sort_range hd _
 rw[hsk] at hs
 unfold sortK at hs
 unfold arity at har
 have r0:=hrg 0;have r1:=hrg 1;have r2:=hrg 2
 refine⟨fun a b=>?_,fun a b=>?_,fun a=>?_,fun a b=>?_,fun a=>?_,fun a=>?_,fun a=>?_⟩
 ·have hk:t.ks.length=1:=by rw[if_neg (by omega),if_pos (by omega)] at har;omega
  rw[if_neg (by omega),if_neg (by omega),if_neg (by omega),if_neg (by omega),if_neg (by omega),if_pos (by omega),hx 0 (by omega)] at hs
  have h0:=hl 0 (by omega)
  by_cases c:0<sortM ds (kid t 0)
  ·unfold lenS at h0;omega
  ·rw[if_neg c] at hs;exact absurd rfl hs
 ·have hk:t.ks.length=2:=by rw[if_neg (by omega),if_neg (by omega),if_neg (by omega),if_neg (by omega),if_pos (by omega)] at har;omega
  rw[if_neg (by omega),if_neg (by omega),if_neg (by omega),if_neg (by omega),if_neg (by omega),if_neg (by omega),if_neg (by omega),if_neg (by omega),hx 0 (by omega),hx 1 (by omega)] at hs
  have h0:=hl 0 (by omega);have h1:=hl 1 (by omega)
  by_cases c:0<sortM ds (kid t 0)∧sortM ds (kid t 0)=sortM ds (kid t 1)
  ·unfold lenS at h0 h1;omega
  ·rw[if_neg c] at hs;exact absurd rfl hs
 ·have hk:t.ks.length=2:=by rw[if_neg (by omega),if_neg (by omega),if_neg (by omega),if_neg (by omega),if_pos (by omega)] at har;omega
  rw[if_neg (by omega),if_neg (by omega),if_neg (by omega),if_neg (by omega),if_neg (by omega),if_neg (by omega),if_pos (by omega),hx 0 (by omega),hx 1 (by omega)] at hs
  have h0:=hl 0 (by omega);have h1:=hl 1 (by omega)
  by_cases c:0<sortM ds (kid t 0)∧0<sortM ds (kid t 1)∧sortM ds (kid t 0)+sortM ds (kid t 1)≤4
  ·unfold lenS at h0 h1;omega
  ·rw[if_neg c] at hs;exact absurd rfl hs
 ·have hk:t.ks.length=2:=by rw[if_neg (by omega),if_neg (by omega),if_neg (by omega),if_neg (by omega),if_pos (by omega)] at har;omega
  rw[if_neg (by omega),if_neg (by omega),if_neg (by omega),if_neg (by omega),if_neg (by omega),if_neg (by omega),if_neg (by omega),if_pos (by omega),hx 0 (by omega),hx 1 (by omega)] at hs
  have h0:=hl 0 (by omega);have h1:=hl 1 (by omega)
  by_cases c:0<sortM ds (kid t 0)∧sortM ds (kid t 0)=sortM ds (kid t 1)
  ·unfold lenS at h0 h1;omega
  ·rw[if_neg c] at hs;exact absurd rfl hs
 ·have hk:t.ks.length=1:=by rw[if_neg (by omega),if_pos (by omega)] at har;omega
  rw[if_neg (by omega),if_neg (by omega),if_neg (by omega),if_neg (by omega),if_pos (by omega),hx 0 (by omega)] at hs
  have h0:=hl 0 (by omega)
  by_cases c:0≤t.b∧t.b≤t.a∧t.a<sortM ds (kid t 0)
  ·unfold lenS at h0;omega
  ·rw[if_neg c] at hs;exact absurd rfl hs
 ·have hk:t.ks.length=3:=by rw[if_neg (by omega),if_neg (by omega),if_pos (by omega)] at har;omega
  rw[if_neg (by omega),if_neg (by omega),if_neg (by omega),if_pos (by omega),hx 0 (by omega),hx 1 (by omega),hx 2 (by omega)] at hs
  have h0:=hl 0 (by omega);have h1:=hl 1 (by omega);have h2:=hl 2 (by omega)
  by_cases c:sortM ds (kid t 0)=0∧sortM ds (kid t 1)=sortM ds (kid t 2)
  ·unfold lenS at h0 h1 h2;omega
  ·rw[if_neg c] at hs;exact absurd rfl hs
 ·have hk:t.ks.length=if t.op=25 then 1 else 2:=by
   by_cases c:t.op=25
   ·rw[if_neg (by omega),if_pos (by omega)] at har;rw[if_pos c];omega
   ·rw[if_neg (by omega),if_neg (by omega),if_neg (by omega),if_pos (by omega)] at har;rw[if_neg c];omega
  rw[if_neg (by omega),if_neg (by omega),if_pos (by omega)] at hs
  by_cases c:(t.ks.map (sortM ds)).any (fun x=>decide (x≠0))=true
  ·rw[if_pos c] at hs;exact absurd rfl hs
  ·refine⟨hk,fun i hi=>?_⟩
   have h0:=hl i hi
   have hz:sortM ds (kid t i)=0:=Classical.byContradiction fun hne=>c (List.any_eq_true.2 ⟨sortM ds (kid t i),List.mem_map.2 ⟨_,getD_mem hi default,rfl⟩,by simpa using hne⟩)
   rw[hz] at h0
   exact h0
end Go.M
end
section
namespace Go.Proofs.YtaekfnbnhjgboaaGreatDoor
open Go Go.Vc Go.Proofs
variable {w:World} {K:Value→World→Prop} {F F' Fx Fy X Fk Q:Nat→Prop} {n bc mb bb:Nat} {gs:M.Gs} {v:Value} {ar ab:Addr} {st:Option M.Gs}
theorem Va {a:TypeId} {v:Value} (hc:concB PP a=true) {xT:TypeId}:kG PP (.iface a v) xT a true w K=K (.tuple #[v,.bool true]) w:=by
 refine yr ?_
 unfold concB at hc
 cases hu:PP.underlying a with
 |none=>rw[hu] at hc;cases hc
 |some d=>
  rw[hu] at hc
  cases d<;>first|(cases hc;done)|simp[Instr.typeAssert,run_underlying hu]
theorem qm {a t:TypeId} {v z:Value} (hc:concB PP a=true) (hz:yK PP a z) (hne:t≠a) {xT:TypeId}:kG PP (.iface t v) xT a true w K=K (.tuple #[z,.bool false]) w:=by
 refine yr ?_
 unfold concB at hc
 cases hu:PP.underlying a with
 |none=>rw[hu] at hc;cases hc
 |some d=>
  rw[hu] at hc
  cases d<;>first|(cases hc;done)|simp[Instr.typeAssert,run_underlying hu,hne,Qu hz,Result.andThen]
structure KidsR (Fk X F:Nat→Prop) (w:World) (kv:Value) (rs:List (List Int)):Prop where
 at_:∃vs:List Value,Vals Fk w kv vs∧vs.length=rs.length∧∀i,i<rs.length→Ints (Off X F) w (vs.getD i undef) (rs.getD i [])
 sm:∀r,r∈rs→SmL r
theorem KidsR.ext {w':World} {kv:Value} {rs:List (List Int)} (h:KidsR Fk X F w kv rs) (he:Ext w w'):KidsR Fk X F w' kv rs:=by
 obtain⟨vs,h1,h2,h3⟩:=h.at_
 exact⟨⟨vs,h1.ext he,h2,fun i hi=>(h3 i hi).ext he⟩,h.sm⟩
theorem KidsR.sml {kv:Value} {rs:List (List Int)} (h:KidsR Fk X F w kv rs) {i:Nat} (hi:i<rs.length):SmL (rs.getD i []):=h.sm _ (M.getD_mem hi [])
theorem KidsR.vals {kv:Value} {rs:List (List Int)} (h:KidsR Fk X F w kv rs):∃vs:List Value,(∀(w':World),Ext w w'→∀i,i<rs.length→∀K:Value→World→Prop,zm PP zw kv (.int .i64 i) w' K=K (.pointer (some (eaddr kv 1 i))) w'∧ze PP z7 (.pointer (some (eaddr kv 1 i))) w' K=K (vs.getD i undef) w')∧
  ∀i,i<rs.length→Ints (Off X F) w (vs.getD i undef) (rs.getD i []):=by
 obtain⟨vs,h1,h2,h3⟩:=h.at_
 refine⟨vs,fun w' he i hi K=>?_,h3⟩
 have h1':=h1.ext he
 refine⟨?_,h1'.load UZ (by omega)⟩
 rw[h1'.iaddr UC (by omega) (by omega),Int.toNat_natCast]
theorem stKind {b:Nat} {x y:Value} {t0 tk:TypeId} {s:ByteArray} {m:Int} (h:Blk w b [x,y] t0) (hg:aggB PP tk 2=true) (hK:∀w',Same (· =b) w w'→K undef w'):zq PP tk (.pointer (some ⟨b,0,none⟩)) (.agg ⟨[.string s,.int .i64 m]⟩) w K:=
 h.stAgg rfl hg (by intro v hv;simp only[List.mem_cons,List.not_mem_nil,or_false] at hv;rcases hv with rfl|rfl<;>rfl) fun w' h1 _ _=>hK w' h1
theorem fixB_at {wd nn:Int} {j:Nat} (hj:(j:Int)<wd):(M.fixB wd nn).getD j 0=if nn.toNat/2^j%2=1 then 1 else-1:=by
 unfold M.fixB
 rw[List.getD_eq_getElem?_getD,List.getElem?_map,List.getElem?_range (by omega)];rfl
theorem fix_step {wd nn:Int} {j:Nat} (hj:(j:Int)<wd):((M.fixB wd nn).take j++List.replicate (wd.toNat-j) (-1)).set j (if nn.toNat/2^j%2=1 then 1 else-1)=(M.fixB wd nn).take (j+1)++List.replicate (wd.toNat-(j+1)) (-1):=by
 have hl:((M.fixB wd nn).take j).length=j:=by rw[List.length_take,M.fixB_len];omega
 rw[List.set_append_right _ _ (by omega),hl,Nat.sub_self,show wd.toNat-j=(wd.toNat-(j+1))+1 by omega,List.replicate_succ,List.set_cons_zero,M.take_add (by rw[M.fixB_len];omega) 0,fixB_at hj,List.append_assoc]
 rfl
theorem SmL.fix {wd nn:Int}:SmL (M.fixB wd nn):=fun x hx=>by
 unfold M.fixB at hx
 obtain⟨j,_,rfl⟩:=List.mem_map.1 hx
 split<;>decide
theorem SmL.name {ds:List M.Dcl} {k:Nat} (hd:M.declOk ds=true) (hk:k<ds.length):SmL (M.nameB ds k):=fun x hx=>by
 have:=M.name_has (m:=9) hd hk (by have:=(M.decl_iff.1 hd).2.2;omega) x hx
 obtain⟨h1,h2,h3⟩:=this
 unfold Sm;omega
def YC0 (n bb:Nat) (ar ab:Addr) (X F:Nat→Prop) (w:World) (gs:M.Gs) (ds:List M.Dcl) (t:M.Tm) (rs:List (List Int)) (K:Value→World→Prop):Prop:=
 ∀w' F' st' r zs,BdR n bb ar ab X F' w' st'→Mv F w F' w'→Ints (Off X F') w' r zs→SmL zs→M.Bd.Out n (M.nodeB ds t rs) (some gs) st' zs→K r w'
section
variable {bl kb m:Nat} {dv tv kv:Value} {ds:List M.Dcl} {t:M.Tm} {rs:List (List Int)} {G Gt:Nat→Prop}
theorem root_spec (hb:BdR n bb ar ab X F w (some gs)) (hd:M.declOk ds=true) (hs:M.sortM ds t≠ -1) (hB:Blk w bl [.pointer (some ⟨bb,0,none⟩),dv,.map (some kb),.map (some m)] zJ) (hdv:DclsR G w dv ds) (hkb:KindsR w kb) (ht:TermR Gt w tv t)
  (hkids:KidsR Fk X F w kv rs) (hrl:rs.length=t.ks.length) (hlen:∀i,i<t.ks.length→(rs.getD i []).length=M.lenS (M.sortM ds (M.kid t i)))
  (hK:YC0 n bb ar ab X F w gs ds t rs K):vcall PP je #[.pointer (some ⟨bl,0,none⟩),tv,kv] w K:=by
 obtain⟨tk,rfl,hks⟩:=ht
 apply Kl;unfold ZG
 obtain⟨har,hp,hops⟩:=M.right_op hs
 obtain⟨q1,q2,q3,q4,q5,q6,q7⟩:=M.node_right hd hs (L:=fun i=>(rs.getD i []).length) hlen
 refine zu fun b1 w1 hb1 he1 hz1 hB1=>?_
 refine zr fun w2 he2 _=>?_
 have e2:=he1.trans he2
 have hB2:=hB.ext e2
 have hT2:=hB1.ext he2
 have hbd2:=hb.ext e2
 have hdv2:=hdv.ext e2
 simp(disch:=first|(simp only[push_cast];done)|omega) only[push_cast,hB2.ld2,hT2.ld0,true_and]
 refine Uq (ok:=false) (hkb.ext e2) (by rw[har];omega) fun kv2 hkv=>⟨rfl,?_⟩
 obtain⟨s,mm,r,hkv2,hr1,hr2,_⟩:=hkv.word
 simp only[Bool.false_eq_true,if_false]
 rw[hkv2]
 have hKe:∀w3,Ext w2 w3→YC0 n bb ar ab X F w3 gs ds t rs K:=fun w3 he3 w' F' st' r' zs h1 h2 h3 h4 h5=>hK w' F' st' r' zs h1 ((Mv.refl.ext (e2.trans he3)).trans h2) h3 h4 h5
 obtain⟨vs,hA,hvs⟩:=(hkids.ext e2).vals
 unfold YC0 M.nodeB at hKe
 by_cases c20:t.op=20
 ·have hkt:kTy t.op=zN:=by rw[c20];rfl
  have:=hr1 (by omega)
  subst this
  rw[hkt,Va yS]
  simp only[push_cast]
  rw[if_pos c20] at hKe
  refine zE xd fun b3 w3 hb3 he3 hz3 hB3=>?_
  refine stKind hB3 z00 fun w4 hs4=>?_
  have e24:Ext w2 w4:=Ext.then he3 hs4 fun y hy=>by subst hy;omega
  have hT4:=hT2.ext e24
  have hv:=M.vec_ok hs c20
  obtain⟨v1,v2,v3,v4⟩:=M.vok_iff.1 hv
  have hp16:(2:Int)^t.a.toNat≤16:=by
   have:=pow4 (k:=t.a.toNat) (by omega) (by omega)
   have e:=y20 t.a.toNat
   omega
  simp(disch:=first|(simp only[push_cast];done)|omega) only[push_cast,hT4.ld1]
  rw[show t.a=((t.a.toNat:Nat):Int) by omega]
  refine offs_spec (by omega) fun w5 ov he5 ho5 hn5=>?_
  have e25:=e24.trans he5
  have hlen5:∀(w':World) (K:Value→World→Prop),vbi PP .len [z7] zd [ov] w' K=K (.int .i64 t.a.toNat) w':=fun w' K=>by rw[ho5.ints.len xr,M.offsL_len]
  rw[hlen5]
  refine vloop_up t.a.toNat (fun j u w'=>u=[.int .i64 j]∧Ext w2 w'∧OwnI PP z7 w' ov ((M.fixB t.a t.b).take j++List.replicate (t.a.toNat-j) (-1))) ⟨rfl,e25,ho5⟩ ?_
  rintro j _ g w6 C hj ⟨rfl,he6,ho6⟩ hC
  have z25:=e25.size;have z24:=e24.size
  simp only[push_cast]
  refine zh (fun hlt=>?_) (fun hge=>?_)
  ·have hT6:=hT2.ext he6
   simp(disch:=first|(simp only[push_cast];done)|omega) only[push_cast,hT6.ld2]
   rw[kk xc0 (show jj0 PP yb .u64 by unfold jj0;kernel_rfl),show t.b=((t.b.toNat:Nat):Int) by omega,wrapU (by omega)]
   refine bit_spec (by omega) (by omega) ?_
   have hll:((M.fixB t.a t.b).take j++List.replicate (t.a.toNat-j) (-1)).length=t.a.toNat:=by
    rw[List.length_append,List.length_take,M.fixB_len,List.length_replicate];omega
   refine zh (fun c=>?_) (fun c=>?_)
   ·rw[ho6.ints.iaddr xc (by omega) (by rw[hll];omega),Int.toNat_natCast]
    refine ho6.st yj (by rw[hll];omega) fun w7 ho7 hs7 hz7=>?_
    have hst:=fix_step (wd:=t.a) (nn:=t.b) (j:=j) (by omega)
    rw[if_pos c] at hst
    rw[hst] at ho7
    try simp(disch:=omega) only[push_cast,zF]
    exact hC (by omega) _ _ ⟨by simp,Ext.then he6 hs7 fun b hb=>by have:=hn5 b hb;omega,ho7⟩
   ·have hst:=fix_step (wd:=t.a) (nn:=t.b) (j:=j) (by omega)
    rw[if_neg c] at hst
    have hsame:((M.fixB t.a t.b).take j++List.replicate (t.a.toNat-j) (-1)).set j (-1)=(M.fixB t.a t.b).take j++List.replicate (t.a.toNat-j) (-1):=by
     have hl:((M.fixB t.a t.b).take j).length=j:=by rw[List.length_take,M.fixB_len];omega
     rw[List.set_append_right _ _ (by omega),hl,Nat.sub_self,show t.a.toNat-j=(t.a.toNat-(j+1))+1 by omega,List.replicate_succ,List.set_cons_zero]
    rw[hsame] at hst
    rw[hst] at ho6
    try simp(disch:=omega) only[push_cast,zF]
    exact hC (by omega) _ _ ⟨by simp,he6,ho6⟩
  ·have hje:j=t.a.toNat:=by omega
   rw[hje,Nat.sub_self,List.replicate_zero,List.append_nil,List.take_of_length_le (by rw[M.fixB_len];exact Nat.le_refl _)] at ho6
   exact hKe w6 he6 w6 F (some gs) ov _ (hbd2.ext he6) Mv.refl (NewI.of (w:=w2) ho6 (fun b hb=>by have:=hn5 b hb;omega) hbd2.lt).ints SmL.fix (M.Bd.Out.ret _ _)
 rw[if_neg c20] at hKe
 by_cases c21:t.op=21
 ·have hkt:kTy t.op=zI:=by rw[c21];rfl
  have:=hr1 (by omega)
  subst this
  rw[hkt]
  simp only[qm yS xd (show zI≠zN by decide),Va yU,push_cast]
  rw[if_pos c21] at hKe
  refine zE xj fun b3 w3 hb3 he3 hz3 hB3=>?_
  refine stKind hB3 Uw fun w4 hs4=>?_
  have e24:Ext w2 w4:=Ext.then he3 hs4 fun y hy=>by subst hy;omega
  have hT4:=hT2.ext e24
  have hf:=M.name_found hs c21
  have hlt:=M.findD_lt ds t.s
  simp(disch:=first|(simp only[push_cast];done)|omega) only[push_cast,hT4.ld3]
  refine inputs_spec (hB2.ext e24) (hdv2.ext e24) hd hf fun w5 r5 he5 ho5 hn5=>?_
  have z24:=e24.size
  exact hKe w5 (e24.trans he5) w5 F (some gs) r5 _ (hbd2.ext (e24.trans he5)) Mv.refl (NewI.of (w:=w2) ho5 (fun b hb=>by have:=hn5 b hb;omega) hbd2.lt).ints (SmL.name hd (by omega)) (M.Bd.Out.ret _ _)
 rw[if_neg c21] at hKe
 by_cases c24:24≤t.op
 ·have hkt:kTy t.op=zy:=by
   unfold kTy
   repeat rw[if_neg (by omega)]
  obtain⟨f,rfl,hof⟩:=hr2 c24
  rw[hkt]
  simp only[qm yS xd (show zy≠zN by decide),qm yU xj (show zy≠zI by decide),qm xB xI (show zy≠zL by decide),qm xS qg (show zy≠zT by decide),qm qk qZ (show zy≠zK by decide),qm qI Za (show zy≠zP by decide),qm qH Z9 (show zy≠zS by decide),qm Zq Xw (show zy≠zH by decide),Va Xh,push_cast]
  refine zE WR fun b3 w3 hb3 he3 hz3 hB3=>?_
  refine hB3.stAgg (cs':=[.string s,.int .i64 mm,f]) rfl Q5 (by intro v hv;simp only[List.mem_cons,List.not_mem_nil,or_false] at hv;rcases hv with rfl|rfl|rfl<;>first|rfl|exact hof) fun w4 hs4 _ hB4=>?_
  have e24:Ext w2 w4:=Ext.then he3 hs4 fun y hy=>by subst hy;omega
  have hT4:=hT2.ext e24
  rw[hB4.ldAgg (t:=zy) Q5,hT4.ldAgg (t:=zb) zQ]
  apply Ja;unfold kW
  refine zu fun b6 w6 hb6 he6 hz6 hB6=>?_
  refine zu fun b7 w7 hb7 he7 hz7 hB7=>?_
  have e27:Ext w2 w7:=e24.trans (he6.trans he7)
  simp(disch:=first|(simp only[push_cast];done)|omega) only[push_cast,hB7.ld0]
  have fin:∀(w8:World) (F8:Nat→Prop) (st8:Option M.Gs) (x:Int),BdR n bb ar ab X F8 w8 st8→Mv F w2 F8 w8→Sm x→M.Bd.Out n (M.nodeB ds t rs) (some gs) st8 [x]→vbuildS PP z7 1 [(0,.int .i64 x)] w8 K:=fun w8 F8 st8 x h8 hm8 hx8 ho8=>by
   refine yc yO yj yp rfl rfl fun b9 w9 hb9 he9 hz9 hB9=>?_
   have ho9:OwnI PP z7 w9 (.slice (some ⟨b9,0,none⟩) 1 1) [x]:=Blk.own1 (P:=PP) (t:=z7) (cs:=[Value.int .i64 x]) (by rw[xg];exact hB9) (Nat.zero_le _) rfl rfl (by omega)
   exact hK w9 F8 st8 _ [x] (h8.ext he9) (((Mv.refl.ext e2).trans hm8).ext he9) (NewI.of (w:=w8) ho9 (fun b hb=>by have e:b9=b:=Option.some.inj hb;omega) h8.lt).ints (SmL.one hx8) ho8
  unfold M.nodeB at fin
  rw[if_neg c20,if_neg c21] at fin
  by_cases c:t.op=24
  ·rw[if_pos c] at fin
   rw[decide_eq_false (by omega),decide_eq_false (by omega),decide_eq_false (by omega)]
   simp only[push_cast]
   exact fin w7 F (some gs) 1 (hbd2.ext e27) (Mv.refl.ext e27) (by decide) (M.Bd.Out.ret _ _)
  rw[if_neg c] at fin
  obtain⟨hk7,hL7⟩:=q7 (by omega)
  have hk0:1≤t.ks.length:=by split at hk7<;>omega
  have hL0:=hL7 0 (by omega)
  by_cases c25:t.op=25
  ·rw[if_pos c25] at fin
   rw[decide_eq_true c25]
   simp only[push_cast]
   have A0:∀K:Value→World→Prop,zm PP zw kv (.int .i64 0) w7 K=K (.pointer (some (eaddr kv 1 0))) w7:=fun K=>(hA w7 e27 0 (by omega) K).1
   have B0:∀K:Value→World→Prop,ze PP z7 (.pointer (some (eaddr kv 1 0))) w7 K=K (vs.getD 0 undef) w7:=fun K=>(hA w7 e27 0 (by omega) K).2
   have V0:Ints (Off X F) w7 (vs.getD 0 undef) (rs.getD 0 []):=(hvs 0 (by omega)).ext e27
   have S0:=(hkids.sml (i:=0) (by omega)).get (i:=0) (by omega)
   unfold Sm at S0
   simp(disch:=first|(simp only[push_cast];done)|omega) only[A0,B0,V0.iaddr,V0.load,push_cast,zF,Int.zero_sub]
   exact fin w7 F (some gs) _ (hbd2.ext e27) (Mv.refl.ext e27) (by unfold Sm;rw[Int.natAbs_neg];exact S0) (M.Bd.Out.ret _ _)
  rw[if_neg c25] at fin
  rw[decide_eq_false c25]
  have hk2:t.ks.length=2:=by rw[if_neg c25] at hk7;exact hk7
  have hL1:=hL7 1 (by omega)
  simp only[push_cast]
  have two:∀(w8:World),Ext w2 w8→(∀K:Value→World→Prop,zm PP zw kv (.int .i64 0) w8 K=K (.pointer (some (eaddr kv 1 0))) w8)∧(∀K:Value→World→Prop,ze PP z7 (.pointer (some (eaddr kv 1 0))) w8 K=K (vs.getD 0 undef) w8)∧(∀K:Value→World→Prop,zm PP zw kv (.int .i64 1) w8 K=K (.pointer (some (eaddr kv 1 1))) w8)∧(∀K:Value→World→Prop,ze PP z7 (.pointer (some (eaddr kv 1 1))) w8 K=K (vs.getD 1 undef) w8)∧Ints (Off X F) w8 (vs.getD 0 undef) (rs.getD 0 [])∧Ints (Off X F) w8 (vs.getD 1 undef) (rs.getD 1 []):=fun w8 e8=>
   ⟨fun K=>(hA w8 e8 0 (by omega) K).1,fun K=>(hA w8 e8 0 (by omega) K).2,fun K=>(hA w8 e8 1 (by omega) K).1,fun K=>(hA w8 e8 1 (by omega) K).2,(hvs 0 (by omega)).ext e8,(hvs 1 (by omega)).ext e8⟩
  have S0:=(hkids.sml (i:=0) (by omega)).get (i:=0) (by omega)
  have S1:=(hkids.sml (i:=1) (by omega)).get (i:=0) (by omega)
  by_cases c26:t.op=26
  ·rw[if_pos c26] at fin
   rw[decide_eq_true c26]
   simp only[push_cast]
   refine zr fun w8 he8 _=>?_
   have e28:=e27.trans he8
   have hB8:=hB2.ext e28
   obtain⟨A0,B0,A1,B1,V0,V1⟩:=two w8 e28
   simp(disch:=first|(simp only[push_cast];done)|omega) only[hB8.ld0,A0,B0,A1,B1,V0.iaddr,V0.load,V1.iaddr,V1.load,push_cast,true_and]
   refine jG (hbd2.ext e28) S0 S1 fun w9 F9 st9 x h9 hm9 hx9 ho9=>fin w9 F9 st9 x h9 ((Mv.refl.ext e28).trans hm9) hx9 ?_
   exact xV ho9 (M.Bd.Out.ret _ _)
  rw[if_neg c26,if_pos (by omega)] at fin
  rw[decide_eq_false c26,decide_eq_true (show t.op=27 by omega)]
  simp only[push_cast]
  refine zr fun w8 he8 _=>?_
  have e28:=e27.trans he8
  have hB8:=hB2.ext e28
  obtain⟨A0,B0,A1,B1,V0,V1⟩:=two w8 e28
  simp(disch:=first|(simp only[push_cast];done)|omega) only[hB8.ld0,A0,B0,A1,B1,V0.iaddr,V0.load,V1.iaddr,V1.load,push_cast,true_and]
  exact bor_spec (hbd2.ext e28) S0 S1 fun w9 F9 st9 x h9 hm9 hx9 ho9=>fin w9 F9 st9 x h9 ((Mv.refl.ext e28).trans hm9) hx9 (M.Bd.Out.map _ ho9)
 rw[if_neg (by omega),if_neg (by omega),if_neg (by omega),if_neg (by omega)] at hKe
 by_cases c23:t.op=23
 ·have hkt:kTy t.op=zT:=by rw[c23];rfl
  have:=hr1 (by omega)
  subst this
  obtain⟨k1,l0,l1,l2,l3⟩:=q6 c23
  rw[hkt]
  simp only[qm yS xd (show zT≠zN by decide),qm yU xj (show zT≠zI by decide),qm xB xI (show zT≠zL by decide),Va xS,push_cast]
  rw[if_pos c23] at hKe
  refine zE qg fun b3 w3 hb3 he3 hz3 hB3=>?_
  refine stKind hB3 yp0 fun w4 hs4=>?_
  have e24:Ext w2 w4:=Ext.then he3 hs4 fun y hy=>by subst hy;omega
  refine zr fun w5 he5 _=>?_
  have e25:=e24.trans he5
  have hT5:=hT2.ext e25
  have hB5:=hB2.ext e25
  have hbd5:=hbd2.ext e25
  have A0:∀K:Value→World→Prop,zm PP zw kv (.int .i64 0) w5 K=K (.pointer (some (eaddr kv 1 0))) w5:=fun K=>(hA w5 e25 0 (by omega) K).1
  have B0:∀K:Value→World→Prop,ze PP z7 (.pointer (some (eaddr kv 1 0))) w5 K=K (vs.getD 0 undef) w5:=fun K=>(hA w5 e25 0 (by omega) K).2
  have V0:Ints (Off X F) w5 (vs.getD 0 undef) (rs.getD 0 []):=(hvs 0 (by omega)).ext e25
  have S0:=hkids.sml (i:=0) (by omega)
  have A1:∀K:Value→World→Prop,zm PP zw kv (.int .i64 1) w5 K=K (.pointer (some (eaddr kv 1 1))) w5:=fun K=>(hA w5 e25 1 (by omega) K).1
  have B1:∀K:Value→World→Prop,ze PP z7 (.pointer (some (eaddr kv 1 1))) w5 K=K (vs.getD 1 undef) w5:=fun K=>(hA w5 e25 1 (by omega) K).2
  have V1:Ints (Off X F) w5 (vs.getD 1 undef) (rs.getD 1 []):=(hvs 1 (by omega)).ext e25
  have S1:=hkids.sml (i:=1) (by omega)
  have A2:∀K:Value→World→Prop,zm PP zw kv (.int .i64 2) w5 K=K (.pointer (some (eaddr kv 1 2))) w5:=fun K=>(hA w5 e25 2 (by omega) K).1
  have B2:∀K:Value→World→Prop,ze PP z7 (.pointer (some (eaddr kv 1 2))) w5 K=K (vs.getD 2 undef) w5:=fun K=>(hA w5 e25 2 (by omega) K).2
  have V2:Ints (Off X F) w5 (vs.getD 2 undef) (rs.getD 2 []):=(hvs 2 (by omega)).ext e25
  have S2:=hkids.sml (i:=2) (by omega)
  simp(disch:=first|(simp only[push_cast];done)|omega) only[hB5.ld0,hT5.ld0,hT5.ld1,hT5.ld2,A0,B0,V0.iaddr,V0.load,A1,B1,V1.iaddr,V1.load,A2,B2,V2.iaddr,V2.load,push_cast,zF,true_and]
  exact choose_spec hbd5 ⟨gs,rfl⟩ V1 V2 l1 (by omega) S1 S2 (S0.get (by omega)) fun w6 F6 st6 r6 zs h6 hm6 hr6 hz6 ho6=>hKe w5 e25 w6 F6 st6 r6 zs h6 hm6 hr6 hz6 ho6
 rw[if_neg c23] at hKe
 by_cases c22:t.op=22
 ·have hkt:kTy t.op=zL:=by rw[c22];rfl
  have:=hr1 (by omega)
  subst this
  obtain⟨k1,l0,l1,l2,l3⟩:=q5 c22
  rw[hkt]
  simp only[qm yS xd (show zL≠zN by decide),qm yU xj (show zL≠zI by decide),Va xB,push_cast]
  rw[if_pos c22] at hKe
  refine zE xI fun b3 w3 hb3 he3 hz3 hB3=>?_
  refine stKind hB3 z10 fun w4 hs4=>?_
  have e24:Ext w2 w4:=Ext.then he3 hs4 fun y hy=>by subst hy;omega
  refine zr fun w5 he5 _=>?_
  have e25:=e24.trans he5
  have hT5:=hT2.ext e25
  have hB5:=hB2.ext e25
  have hbd5:=hbd2.ext e25
  have A0:∀K:Value→World→Prop,zm PP zw kv (.int .i64 0) w5 K=K (.pointer (some (eaddr kv 1 0))) w5:=fun K=>(hA w5 e25 0 (by omega) K).1
  have B0:∀K:Value→World→Prop,ze PP z7 (.pointer (some (eaddr kv 1 0))) w5 K=K (vs.getD 0 undef) w5:=fun K=>(hA w5 e25 0 (by omega) K).2
  have V0:Ints (Off X F) w5 (vs.getD 0 undef) (rs.getD 0 []):=(hvs 0 (by omega)).ext e25
  have S0:=hkids.sml (i:=0) (by omega)
  simp(disch:=first|(simp only[push_cast];done)|omega) only[hB5.ld0,hT5.ld0,hT5.ld1,hT5.ld2,A0,B0,V0.iaddr,V0.load,push_cast,zF,true_and]
  rw[show t.b=((t.b.toNat:Nat):Int) by omega,show t.a+1=((t.a.toNat+1:Nat):Int) by omega]
  refine Ints.cutLH V0 xc (by omega) (by omega) fun cv hcv=>⟨rfl,?_⟩
  refine Clone_signal hcv (by rw[List.length_take,List.length_drop];omega) fun w6 r6 he6 ho6 hn6=>?_
  refine hKe w5 e25 w6 F (some gs) r6 _ (hbd5.ext he6) (Mv.refl.ext he6) (NewI.of (w:=w5) ho6 hn6 hbd5.lt).ints (fun x hx=>S0 x (List.mem_of_mem_drop (List.mem_of_mem_take hx))) ?_
  rw[show t.a.toNat+1-t.b.toNat=(t.a-t.b+1).toNat by omega]
  exact M.Bd.Out.ret _ _
 rw[if_neg c22] at hKe
 by_cases c2:t.op≤2
 ·have hkt:kTy t.op=zK:=by unfold kTy;rw[if_pos c2]
  have:=hr1 (by omega)
  subst this
  obtain⟨k1,l0,l1⟩:=q1 (by omega) c2
  rw[hkt]
  simp only[qm yS xd (show zK≠zN by decide),qm yU xj (show zK≠zI by decide),qm xB xI (show zK≠zL by decide),qm xS qg (show zK≠zT by decide),Va qk,push_cast]
  rw[if_pos c2] at hKe
  refine zE qZ fun b3 w3 hb3 he3 hz3 hB3=>?_
  refine stKind hB3 yo0 fun w4 hs4=>?_
  have e24:Ext w2 w4:=Ext.then he3 hs4 fun y hy=>by subst hy;omega
  refine zr fun w5 he5 _=>?_
  have e25:=e24.trans he5
  have hT5:=hT2.ext e25
  have hB5:=hB2.ext e25
  have hbd5:=hbd2.ext e25
  have A0:∀K:Value→World→Prop,zm PP zw kv (.int .i64 0) w5 K=K (.pointer (some (eaddr kv 1 0))) w5:=fun K=>(hA w5 e25 0 (by omega) K).1
  have B0:∀K:Value→World→Prop,ze PP z7 (.pointer (some (eaddr kv 1 0))) w5 K=K (vs.getD 0 undef) w5:=fun K=>(hA w5 e25 0 (by omega) K).2
  have V0:Ints (Off X F) w5 (vs.getD 0 undef) (rs.getD 0 []):=(hvs 0 (by omega)).ext e25
  have S0:=hkids.sml (i:=0) (by omega)
  simp(disch:=first|(simp only[push_cast];done)|omega) only[hB5.ld0,hT5.ld0,hT5.ld1,hT5.ld2,A0,B0,V0.iaddr,V0.load,push_cast,zF,true_and]
  exact un_spec hbd5 (by omega) V0 (by omega) S0 fun w6 F6 st6 r6 zs h6 hm6 hr6 hz6 ho6=>hKe w5 e25 w6 F6 st6 r6 zs h6 hm6 hr6 hz6 ho6
 rw[if_neg c2] at hKe
 by_cases c15:15≤t.op
 ·have hkt:kTy t.op=zH:=by unfold kTy;rw[if_neg (by omega),if_neg (by omega),if_neg (by omega),if_pos (by omega)]
  have:=hr1 (by omega)
  subst this
  obtain⟨k1,l0,l1,l2⟩:=q4 c15 (by omega)
  rw[hkt]
  simp only[qm yS xd (show zH≠zN by decide),qm yU xj (show zH≠zI by decide),qm xB xI (show zH≠zL by decide),qm xS qg (show zH≠zT by decide),qm qk qZ (show zH≠zK by decide),qm qI Za (show zH≠zP by decide),qm qH Z9 (show zH≠zS by decide),Va Zq,push_cast]
  rw[if_pos (by omega)] at hKe
  refine zE Xw fun b3 w3 hb3 he3 hz3 hB3=>?_
  refine stKind hB3 z30 fun w4 hs4=>?_
  have e24:Ext w2 w4:=Ext.then he3 hs4 fun y hy=>by subst hy;omega
  refine zr fun w5 he5 _=>?_
  have e25:=e24.trans he5
  have hT5:=hT2.ext e25
  have hB5:=hB2.ext e25
  have hbd5:=hbd2.ext e25
  have A0:∀K:Value→World→Prop,zm PP zw kv (.int .i64 0) w5 K=K (.pointer (some (eaddr kv 1 0))) w5:=fun K=>(hA w5 e25 0 (by omega) K).1
  have B0:∀K:Value→World→Prop,ze PP z7 (.pointer (some (eaddr kv 1 0))) w5 K=K (vs.getD 0 undef) w5:=fun K=>(hA w5 e25 0 (by omega) K).2
  have V0:Ints (Off X F) w5 (vs.getD 0 undef) (rs.getD 0 []):=(hvs 0 (by omega)).ext e25
  have S0:=hkids.sml (i:=0) (by omega)
  have A1:∀K:Value→World→Prop,zm PP zw kv (.int .i64 1) w5 K=K (.pointer (some (eaddr kv 1 1))) w5:=fun K=>(hA w5 e25 1 (by omega) K).1
  have B1:∀K:Value→World→Prop,ze PP z7 (.pointer (some (eaddr kv 1 1))) w5 K=K (vs.getD 1 undef) w5:=fun K=>(hA w5 e25 1 (by omega) K).2
  have V1:Ints (Off X F) w5 (vs.getD 1 undef) (rs.getD 1 []):=(hvs 1 (by omega)).ext e25
  have S1:=hkids.sml (i:=1) (by omega)
  simp(disch:=first|(simp only[push_cast];done)|omega) only[hB5.ld0,hT5.ld0,hT5.ld1,hT5.ld2,A0,B0,V0.iaddr,V0.load,A1,B1,V1.iaddr,V1.load,push_cast,zF,true_and]
  refine compare_spec hbd5 ⟨gs,rfl⟩ c15 (by omega) V0 V1 l0 l1 (by omega) S0 S1 fun w6 F6 st6 x h6 hm6 hx6 ho6=>?_
  refine yc yO yj yp rfl rfl fun b9 w9 hb9 he9 hz9 hB9=>?_
  have ho9:OwnI PP z7 w9 (.slice (some ⟨b9,0,none⟩) 1 1) [x]:=Blk.own1 (P:=PP) (t:=z7) (cs:=[Value.int .i64 x]) (by rw[xg];exact hB9) (Nat.zero_le _) rfl rfl (by omega)
  exact hKe w5 e25 w9 F6 st6 _ [x] (h6.ext he9) (hm6.ext he9) (NewI.of (w:=w6) ho9 (fun b hb=>by have e:b9=b:=Option.some.inj hb;omega) h6.lt).ints (SmL.one hx6) (M.Bd.Out.map _ ho6)
 rw[if_neg (by omega)] at hKe
 have hkt2:kTy t.op=zP∨kTy t.op=zS:=by
  unfold kTy
  rw[if_neg c2]
  by_cases c:t.op≤13
  ·rw[if_pos c];exact .inl rfl
  ·rw[if_neg c,if_pos (by omega)];exact .inr rfl
 have:=hr1 (by omega)
 subst this
 have hlr:t.ks.length=2∧(t.op≠14→(rs.getD 0 []).length=(rs.getD 1 []).length)∧(t.op=14→(rs.getD 0 []).length+(rs.getD 1 []).length≤4)∧1≤(rs.getD 0 []).length∧(rs.getD 0 []).length≤4:=by
  by_cases c:t.op=14
  ·obtain⟨a1,a2,a3,a4⟩:=q3 c
   exact⟨a1,fun h=>absurd c h,fun _=>a4,a2,by omega⟩
  ·obtain⟨a1,a2,a3,a4⟩:=q2 (by omega) (by omega)
   exact⟨a1,fun _=>a2,fun h=>absurd h c,a3,a4⟩
 obtain⟨k1,l0,l1,l2,l3⟩:=hlr
 have go:y6 w2 fun w_90=>ze PP zM (.pointer (some ⟨bl,0,none⟩)) w_90 fun t107 w_93=>w_93=w_90∧ze PP zd (.pointer (some ⟨b1,0,none⟩)) w_90 fun t109 w_95=>w_95=w_90∧
   zm PP zw kv (.int .i64 0) w_90 fun t111 w_96=>w_96=w_90∧ze PP z7 t111 w_90 fun t112 w_97=>w_97=w_90∧zm PP zw kv (.int .i64 1) w_90 fun t114 w_98=>w_98=w_90∧
   ze PP z7 t114 w_90 fun t115 w_99=>w_99=w_90∧vcall PP qo #[t107,t109,t112,t115] w_90 K:=by
  refine zr fun w5 he5 _=>?_
  have e25:=he5
  have hT5:=hT2.ext e25
  have hB5:=hB2.ext e25
  have hbd5:=hbd2.ext e25
  have A0:∀K:Value→World→Prop,zm PP zw kv (.int .i64 0) w5 K=K (.pointer (some (eaddr kv 1 0))) w5:=fun K=>(hA w5 e25 0 (by omega) K).1
  have B0:∀K:Value→World→Prop,ze PP z7 (.pointer (some (eaddr kv 1 0))) w5 K=K (vs.getD 0 undef) w5:=fun K=>(hA w5 e25 0 (by omega) K).2
  have V0:Ints (Off X F) w5 (vs.getD 0 undef) (rs.getD 0 []):=(hvs 0 (by omega)).ext e25
  have S0:=hkids.sml (i:=0) (by omega)
  have A1:∀K:Value→World→Prop,zm PP zw kv (.int .i64 1) w5 K=K (.pointer (some (eaddr kv 1 1))) w5:=fun K=>(hA w5 e25 1 (by omega) K).1
  have B1:∀K:Value→World→Prop,ze PP z7 (.pointer (some (eaddr kv 1 1))) w5 K=K (vs.getD 1 undef) w5:=fun K=>(hA w5 e25 1 (by omega) K).2
  have V1:Ints (Off X F) w5 (vs.getD 1 undef) (rs.getD 1 []):=(hvs 1 (by omega)).ext e25
  have S1:=hkids.sml (i:=1) (by omega)
  simp(disch:=first|(simp only[push_cast];done)|omega) only[hB5.ld0,hT5.ld0,A0,B0,A1,B1,push_cast,true_and]
  exact bin_spec hbd5 ⟨gs,rfl⟩ (by omega) (by omega) V0 V1 l0 l1 l2 (by omega) S0 S1 fun w6 F6 st6 r6 zs h6 hm6 hr6 hz6 ho6=>hKe w5 e25 w6 F6 st6 r6 zs h6 hm6 hr6 hz6 ho6
 rcases hkt2 with hkt|hkt
 ·rw[hkt]
  simp only[qm yS xd (show zP≠zN by decide),qm yU xj (show zP≠zI by decide),qm xB xI (show zP≠zL by decide),qm xS qg (show zP≠zT by decide),qm qk qZ (show zP≠zK by decide),qm qH Z9 (show zP≠zS by decide),Va qI,push_cast]
  exact go
 ·rw[hkt]
  simp only[qm yS xd (show zS≠zN by decide),qm yU xj (show zS≠zI by decide),qm xB xI (show zS≠zL by decide),qm xS qg (show zS≠zT by decide),qm qk qZ (show zS≠zK by decide),qm qI Za (show zS≠zP by decide),Va qH,push_cast]
  exact go
end
end Go.Proofs.YtaekfnbnhjgboaaGreatDoor
end
section
namespace Go.Proofs.YtaekfnbnhjgboaaGreatDoor
open Go Go.Vc Go.Proofs
variable {w:World} {K:Value→World→Prop} {F F' Fx Fy Fk Q X:Nat→Prop} {n bl bc mb bb kb m:Nat} {gs:M.Gs} {v dv:Value} {ar ab:Addr} {st:Option M.Gs} {ds:List M.Dcl}
def TOut {α:Type} (n:Nat) (p:M.Bd α) (st st':Option M.Gs) (a:α):Prop:=
 (∃gs gs',st=some gs∧st'=some gs'∧p.run n gs=some (gs',a))∨(st'=none∧∀gs,st=some gs→p.run n gs=none)
theorem Out.pre' {α:Type} {p:M.Bd α} {st st':Option M.Gs} {a:α} (h:M.Bd.Out n p st st' a):∀gs',st'=some gs'→∃gs,st=some gs∧gs<+:gs':=fun gs' e=>by
 cases st with
 |none=>rw[h.1] at e;cases e
 |some gs=>
  rcases h with⟨g2,h1,h2⟩|⟨_,h2,_⟩
  ·rw[h2] at e;cases e;exact⟨gs,rfl,M.Bd.run_pre h1⟩
  ·rw[h2] at e;cases e
theorem ye0 (ps:List (M.Bd (List Int))) (p:M.Bd (List Int)):∀(gs:M.Gs),(M.seqB (ps++[p])).run n gs=((M.seqB ps).run n gs).bind fun r=>(p.run n r.1).map fun q=>(q.1,r.2++[q.2]):=by
 induction ps with
 |nil=>
  intro gs
  show((p.bind fun r=>(M.Bd.ret []:M.Bd (List (List Int))).map (r:: ·))).run n gs=_
  rw[M.Bd.run_bind]
  show _=(p.run n gs).map _
  cases p.run n gs<;>rfl
 |cons q ps ih=>
  intro gs
  show(q.bind fun r=>(M.seqB (ps++[p])).map (r:: ·)).run n gs=((q.bind fun r=>(M.seqB ps).map (r:: ·)).run n gs).bind _
  rw[M.Bd.run_bind,M.Bd.run_bind]
  cases q.run n gs with
  |none=>rfl
  |some a=>
   show((M.seqB (ps++[p])).bind fun x=>M.Bd.ret (a.2::x)).run n a.1=(((M.seqB ps).bind fun x=>M.Bd.ret (a.2::x)).run n a.1).bind _
   rw[M.Bd.run_bind,M.Bd.run_bind,ih]
   cases (M.seqB ps).run n a.1 with
   |none=>rfl
   |some b=>
    show((p.run n b.1).map _).bind _=(p.run n b.1).map _
    cases p.run n b.1<;>rfl
theorem TOut.snoc {ps:List (M.Bd (List Int))} {p:M.Bd (List Int)} {st st1 st2:Option M.Gs} {rs:List (List Int)} {r:List Int} (h:TOut n (M.seqB ps) st st1 rs) (h2:TOut n p st1 st2 r):TOut n (M.seqB (ps++[p])) st st2 (rs++[r]):=by
 rcases h with⟨g0,g1,a1,a2,a3⟩|⟨a1,a2⟩
 ·rcases h2 with⟨g1',g2,b1,b2,b3⟩|⟨b1,b2⟩
  ·rw[a2] at b1;cases b1
   exact .inl ⟨g0,g2,a1,b2,by rw[ye0,a3];show(p.run n g1).map _=_;rw[b3];rfl⟩
  ·refine .inr ⟨b1,fun gs e=>?_⟩
   rw[a1] at e;cases e
   rw[ye0,a3];show(p.run n g1).map _=_;rw[b2 g1 a2];rfl
 ·rcases h2 with⟨g1',g2,b1,b2,b3⟩|⟨b1,b2⟩
  ·rw[a1] at b1;cases b1
  ·exact .inr ⟨b1,fun gs e=>by rw[ye0,a2 gs e];rfl⟩
theorem TOut.root {t:M.Tm} {st st1 st2:Option M.Gs} {rs:List (List Int)} {zs:List Int} (h:TOut n (M.seqB (t.ks.map (M.termB ds))) st st1 rs):(∀gs1,st1=some gs1→M.Bd.Out n (M.nodeB ds t rs) (some gs1) st2 zs)→(st1=none→st2=none)→TOut n (M.termB ds t) st st2 zs:=fun h2 h3=>by
 rcases h with⟨g0,g1,a1,a2,a3⟩|⟨a1,a2⟩
 ·rcases h2 g1 a2 with⟨g2,b1,b2⟩|⟨b1,b2,_⟩
  ·exact .inl ⟨g0,g2,a1,b2,by rw[M.termB_eq,M.Bd.run_bind,a3];exact b1⟩
  ·refine .inr ⟨b2,fun gs e=>?_⟩
   rw[a1] at e;cases e
   rw[M.termB_eq,M.Bd.run_bind,a3];exact b1
 ·exact .inr ⟨h3 a1,fun gs e=>by rw[M.termB_eq,M.Bd.run_bind,a2 gs e];rfl⟩
def P1 (m:Nat) (F:Nat→Prop) (b:Nat):Prop:=F b∨b=m
theorem Mv.p1 {w':World} (h:Mv F w F' w'):Mv (P1 m F) w (P1 m F') w':=
 ⟨h.same.mono fun _ _ h=> .inl h,fun b hb=>hb.elim (fun hb=>(h.new b hb).imp .inl id) fun hb=> .inl (.inr hb)⟩
theorem Sl.mvX {k:Nat} {v:Value} {xs:List (List Value)} {w':World} (h:Sl (Off X F) w k v xs) (hX:X m) (hm:Mv (P1 m F) w (P1 m F') w'):Sl (Off X F') w' k v xs:=by
 have h1:Sl (fun b=>Off X F b∧b<w.heap.size) w k v xs:=h.weaken fun b hb hl=>⟨hb,hl⟩
 have h2:=h1.same hm.same fun b hb _ hp=>hp.elim hb.1.1 fun e=>hb.1.2 (e▸hX)
 exact h2.weaken fun b hb _=>⟨fun hf=>hm.off (fun hp=>hp.elim hb.1.1 fun e=>hb.1.2 (e▸hX)) hb.2 (.inl hf),hb.1.2⟩
def MetR (n:Nat) (ds:List M.Dcl) (m:Nat) (X F:Nat→Prop) (w:World) (st:Option M.Gs):Prop:=
 ∃f,MapF .string w m f∧∀p,p∈f→∃(u:M.Tm) (s:ByteArray) (v:Value) (zs:List Int),p=(.string s,v)∧s.data.toList=M.textL u∧M.sortM ds u≠ -1∧Ints (Off X F) w v zs∧SmL zs∧∀gs,st=some gs→(M.termB ds u).run n gs=some (gs,zs)
structure BlR (n bl bb kb m:Nat) (ar ab:Addr) (ds:List M.Dcl) (dv:Value) (X F:Nat→Prop) (w:World) (st:Option M.Gs):Prop where
 bd:BdR n bb ar ab X F w st
 blk:Blk w bl [.pointer (some ⟨bb,0,none⟩),dv,.map (some kb),.map (some m)] zJ
 off: ¬F bl∧¬F m∧¬F kb∧bl≠m∧kb≠m
 ext:X m
 dcl:DclsR (Off X F) w dv ds
 kin:KindsR w kb
 met:MetR n ds m X F w st
theorem KindsR.same {w':World} {S:Nat→Prop} (h:KindsR w kb) (hs:Same S w w') (hn: ¬S kb):KindsR w' kb:=by
 obtain⟨f,h1,h2⟩:=h;exact⟨f,h1.same hs hn,h2⟩
theorem KindsR.lt (h:KindsR w kb):kb<w.heap.size:=by obtain⟨f,h1,h2⟩:=h;exact h1.lt
theorem MetR.lt (h:MetR n ds m X F w st):m<w.heap.size:=by obtain⟨f,h1,h2⟩:=h;exact h1.lt
theorem BlR.step {w':World} {st':Option M.Gs} (h:BlR n bl bb kb m ar ab ds dv X F w st) (hb:BdR n bb ar ab X F' w' st') (hm:Mv F w F' w') (hp:∀gs',st'=some gs'→∃gs,st=some gs∧gs<+:gs'):BlR n bl bb kb m ar ab ds dv X F' w' st':=by
 obtain⟨o1,o2,o3,o4,o5⟩:=h.off
 refine⟨hb,h.blk.same hm.same o1,⟨hm.off o1 h.blk.lt,hm.off o2 h.met.lt,hm.off o3 h.kin.lt,o4,o5⟩,h.ext,Sl.mvX h.dcl h.ext hm.p1,h.kin.same hm.same o3,?_⟩
 obtain⟨f,hf,hp2⟩:=h.met
 refine⟨f,hf.same hm.same o2,fun p hpf=>?_⟩
 obtain⟨u,s,v,zs,a1,a2,a3,a4,a5,a6⟩:=hp2 p hpf
 refine⟨u,s,v,zs,a1,a2,a3,Sl.mvX a4 h.ext hm.p1,a5,fun gs' e=>?_⟩
 obtain⟨gs,e1,e2⟩:=hp gs' e
 exact M.Bd.run_again (a6 gs e1) e2
theorem BlR.grow {w':World} (h:BlR n bl bb kb m ar ab ds dv X F w st) (he:Ext w w'):BlR n bl bb kb m ar ab ds dv X F w' st:=h.step (h.bd.ext he) (Mv.refl.ext he) fun gs e=>⟨gs,e,List.prefix_refl _⟩
theorem BlR.swap {w0 w':World} {X0 F0 S Y:Nat→Prop} {st0:Option M.Gs} (h:BlR n bl bb kb m ar ab ds dv X F w st) (h0:BlR n bl bb kb m ar ab ds dv X0 F0 w0 st0) (hw:Same S w w') (hS:∀b,S b→X b∧w0.heap.size≤b∧¬F b)
  (hY:∀b,Y b→b<w'.heap.size∧(b<w.heap.size→X b)) (hm:Y m):BlR n bl bb kb m ar ab ds dv Y F w' st:=by
 have key:∀b,b<w0.heap.size→¬S b:=fun b hb hs=>by have:=(hS b hs).2.1;omega
 have hb:=h.bd.upd h0.bd.err hw fun b hb=>(hS b hb).2
 have hS':∀b,Off X F b→b<w.heap.size→¬S b:=fun b hb _ hs=>hb.2 (hS b hs).1
 have cut:∀b,(Off X F b∧b<w.heap.size)→Off Y F b:=fun b hb=>⟨hb.1.1,fun hy=>hb.1.2 ((hY b hy).2 hb.2)⟩
 refine⟨⟨hb.err,hb.blk,hb.foot,fun b hb'=>hb'.elim (fun h=>hb.lt b (.inl h)) fun h=>(hY b h).1⟩,h.blk.same hw (key _ h0.blk.lt),h.off,hm,?_,h.kin.same hw (key _ h0.kin.lt),?_⟩
 ·have h1:DclsR (fun b=>Off X F b∧b<w.heap.size) w dv ds:=Sl.weaken h.dcl fun b hb hl=>⟨hb,hl⟩
  exact Sl.weaken (Sl.same h1 hw fun b hb hl=>hS' b hb.1 hl) fun b hb _=>cut b hb
 ·obtain⟨f,hf,hp2⟩:=h.met
  refine⟨f,hf.same hw (key _ h0.met.lt),fun p hpf=>?_⟩
  obtain⟨u,s,v,zs,a1,a2,a3,a4,a5,a6⟩:=hp2 p hpf
  have h1:Ints (fun b=>Off X F b∧b<w.heap.size) w v zs:=Ints.weaken a4 fun b hb hl=>⟨hb,hl⟩
  exact⟨u,s,v,zs,a1,a2,a3,Ints.weaken (Ints.same h1 hw fun b hb hl=>hS' b hb.1 hl) fun b hb _=>cut b hb,a5,a6⟩
theorem Ints.swap {w':World} {S Y:Nat→Prop} {r:Value} {zs:List Int} (h:Ints (Off X F) w r zs) (hw:Same S w w') (hS:∀b,S b→X b) (hY:∀b,Y b→b<w.heap.size→X b):Ints (Off Y F) w' r zs:=by
 have h1:Ints (fun b=>Off X F b∧b<w.heap.size) w r zs:=Ints.weaken h fun b hb hl=>⟨hb,hl⟩
 exact Ints.weaken (Ints.same h1 hw fun b hb _ hs=>hb.1.2 (hS b hs)) fun b hb _=>⟨hb.1.1,fun hy=>hb.1.2 (hY b hy hb.2)⟩
theorem KF:Zc0 PP y7 .string z7:=⟨_,kL,by kernel_rfl⟩
theorem BlR.put {s:ByteArray} {t:M.Tm} {r:Value} {zs:List Int} (h:BlR n bl bb kb m ar ab ds dv X F w st) (hs:s.data.toList=M.textL t) (hr:M.sortM ds t≠ -1) (hi:Ints (Off X F) w r zs) (hzs:SmL zs)
  (hrun:∀gs,st=some gs→(M.termB ds t).run n gs=some (gs,zs)) (hK:∀w',BlR n bl bb kb m ar ab ds dv X F w' st→Same (· =m) w w'→K undef w'):kF PP y7 (.map (some m)) (.string s) r w K:=by
 obtain⟨o1,o2,o3,o4,o5⟩:=h.off
 obtain⟨f,hf,hp⟩:=h.met
 refine jq0 KF hf (KH s) fun w' f' hf' hsub hw hz=>hK w' ?_ hw
 obtain⟨es,cl,hm0,_⟩:=hf
 have hcell:∀(a:Addr),(∃v,w.cell? a=some v)→a.block≠m:=fun a ⟨v,ha⟩ e=>by
  simp[World.cell?,e,hm0] at ha
 have hrow:∀{g:Nat} {a:Addr},Sent w g a→g≠m:=fun hse=>hcell _ ⟨_,hse.cell⟩
 have he:=h.bd.err
 have r1:=hrow he.room
 have r2:=hrow he.bits
 have hoff:∀b,Off X F b→b<w.heap.size→¬(b=m):=fun b hb _ e=>hb.2 (e▸h.ext)
 obtain⟨bc,hB,hC⟩:=h.bd.blk
 refine⟨⟨⟨he.room.same hw r1,he.bits.same hw r2,he.off⟩,⟨bc,hB.same hw fun e=>o2 (e▸h.bd.foot),fun gs e=>?_⟩,h.bd.foot,fun b hb=>by rw[hz];exact h.bd.lt b hb⟩,h.blk.same hw o4,h.off,h.ext,Sl.same h.dcl hw hoff,h.kin.same hw o5,f',hf',fun p hpf=>?_⟩
 ·obtain⟨v,mb,hc,h1,h2⟩:=hC gs e
  exact⟨v,mb,hc.same hw fun b hb e=>o2 (e▸h2 b hb),h1,h2⟩
 ·rcases hsub p hpf with rfl|hpf
  ·exact⟨t,s,r,zs,rfl,hs,hr,Ints.same hi hw hoff,hzs,hrun⟩
  ·obtain⟨u,s',v,zs',a1,a2,a3,a4,a5,a6⟩:=hp p hpf
   exact⟨u,s',v,zs',a1,a2,a3,Ints.same a4 hw hoff,a5,a6⟩
structure KidsB (n bl bb kb m:Nat) (ar ab:Addr) (ds:List M.Dcl) (dv:Value) (t:M.Tm) (X F:Nat→Prop) (w:World) (st:Option M.Gs) (i:Nat) (v:Value) (w':World):Prop where
 ex:∃(F1:Nat→Prop) (st1:Option M.Gs) (vs:List Value) (rs:List (List Int)),BlR n bl bb kb m ar ab ds dv (fun b=>X b∨v.ownBlock=some b) F1 w' st1∧Mv (P1 m F) w (P1 m F1) w'∧OwnV PP zw w' v vs∧(∀b,v.ownBlock=some b→w.heap.size≤b∧¬F1 b)∧
  vs.length=i∧rs.length=i∧(∀j,j<i→Ints (Off (fun b=>X b∨v.ownBlock=some b) F1) w' (vs.getD j undef) (rs.getD j []))∧(∀r,r∈rs→SmL r)∧TOut n (M.seqB ((t.ks.take i).map (M.termB ds))) st st1 rs
theorem U8 {α:Type} {l r:List α} {d:α} {i:Nat} (h:i<l.length):(l++r).getD i d=l.getD i d:=by
 rw[List.getD_eq_getElem?_getD,List.getElem?_append_left h,←List.getD_eq_getElem?_getD]
theorem U9 {α:Type} {l:List α} {x d:α} {i:Nat} (h:l.length=i):(l++[x]).getD i d=x:=by
 subst h;simp[List.getD_eq_getElem?_getD]
theorem TOut.nil:TOut n (M.seqB []) st st []:=by
 cases st with
 |none=>exact .inr ⟨rfl,fun gs e=>by cases e⟩
 |some gs=>exact .inl ⟨gs,gs,rfl,rfl,rfl⟩
theorem term_spec (hd:M.declOk ds=true):∀(t:M.Tm),M.sortM ds t≠ -1→M.sizeM t≤1000→∀{w:World} {K:Value→World→Prop} {X F:Nat→Prop} {st:Option M.Gs} {tv:Value},BlR n bl bb kb m ar ab ds dv X F w st→TermR (Off X F) w tv t→
  (∀w' F' st' r zs,BlR n bl bb kb m ar ab ds dv X F' w' st'→Mv (P1 m F) w (P1 m F') w'→Ints (Off X F') w' r zs→SmL zs→TOut n (M.termB ds t) st st' zs→K r w')→
  vcall PP qd #[.pointer (some ⟨bl,0,none⟩),tv] w K:=by
 refine M.Tm.ind fun t ih hs hsz w K X F st tv hb ht hK=>?_
 obtain⟨kv,rfl,hks⟩:=ht
 apply Kk;unfold ZF
 refine zu fun b1 w1 hb1 he1 hz1 hB1=>?_
 refine zr fun w2 he2 _=>?_
 have e2:=he1.trans he2
 have hb2:=hb.grow e2
 have hT2:=hB1.ext he2
 have hks2:=hks.ext e2
 simp(disch:=first|(simp only[push_cast];done)|omega) only[push_cast,hb2.blk.ld2,hT2.ldAgg (t:=zb) zQ,true_and]
 refine textOf_spec hd t hs hsz hb2.kin ⟨kv,rfl,hks2⟩ fun w3 s he3 hst=>?_
 have e3:=e2.trans he3
 have hb3:=hb2.grow he3
 have hT3:=hT2.ext he3
 have hks3:=hks2.ext he3
 simp(disch:=first|(simp only[push_cast];done)|omega) only[push_cast,hb3.blk.ld3]
 obtain⟨f,hf,hfp⟩:=hb3.met
 by_cases hin:∃v,(Value.string s,v)∈f
 ·obtain⟨v,hin⟩:=hin
  rw[y60 KF hf (KH s) hin]
  simp only[push_cast,if_true]
  obtain⟨u,s',v',zs,e,a2,a3,a4,a5,a6⟩:=hfp _ hin
  cases e
  have:=M.text_inj hd hs a3 (hst.symm.trans a2)
  subst this
  refine hK w3 F st v zs hb3 (Mv.refl.ext e3) a4 a5 ?_
  cases st with
  |none=>exact .inr ⟨rfl,fun gs e=>by cases e⟩
  |some gs=>exact .inl ⟨gs,gs,rfl,rfl,a6 gs rfl⟩
 rw[x80 KF jr hf (KH s) fun v hv=>hin ⟨v,hv⟩]
 simp(disch:=first|(simp only[push_cast];done)|omega) only[push_cast,if_true,hT3.ld4,hks3.len]
 have hkl:t.ks.length≤3:=by
  obtain⟨har,hp,ho⟩:=M.right_op hs
  have h:M.arity t.op≤3:=by
   unfold M.arity;repeat' split
   all_goals omega
  omega
 have hgrow0:∀b,(X b∨(Value.slice none 0 0).ownBlock=some b)→b<w3.heap.size∧(b<w3.heap.size→X b):=fun b hb=>hb.elim (fun h=>⟨hb3.bd.lt b (.inr h),fun _=>h⟩) fun h=>by cases h
 have hb30:=hb3.swap (Y:=fun b=>X b∨(Value.slice none 0 0).ownBlock=some b) hb3 (Same.refl (fun _=>False) w3) (fun b hb=>hb.elim) hgrow0 (.inl hb3.ext)
 have hG3:TmsR (fun b=>Off X F b∧b<w3.heap.size) w3 kv t.ks:=hks3.weaken fun b hb hl=>⟨hb,hl⟩
 refine vloop_up t.ks.length (fun i u w'=> ∃v,u=[v,.int .i64 i]∧KidsB n bl bb kb m ar ab ds dv t X F w3 st i v w') ⟨_,rfl,⟨F,st,[],[],hb30,Mv.refl,OwnV.nil,(fun b hb=>by cases hb),rfl,rfl,fun j hj=>absurd hj (by omega),(fun r hr=>by cases hr),TOut.nil⟩⟩ ?_
 rintro i _ g w4 C hi ⟨v,rfl,⟨F4,st4,vs,rs,hb4,hm4,ho4,hn4,hvl,hrl,hint,hsm,hto⟩⟩ hC
 simp only[push_cast]
 have l4:=hm4.same.size
 have hks4:TmsR (fun b=>Off X F b∧b<w3.heap.size) w4 kv t.ks:=hG3.same hm4.same fun b hb _ hp=>hp.elim hb.1.1 fun e=>hb.1.2 (e▸hb3.ext)
 have hG4:∀b,(Off X F b∧b<w3.heap.size)→Off (fun b=>X b∨v.ownBlock=some b) F4 b:=fun b hb=>⟨fun hf=>hm4.off (fun hp=>hp.elim hb.1.1 fun e=>hb.1.2 (e▸hb3.ext)) hb.2 (.inl hf),fun hx=>hx.elim hb.1.2 fun ho=>by have:=(hn4 b ho).1;omega⟩
 refine zh (fun a=>?_) (fun a=>?_)
 ·have hi':i<t.ks.length:=by omega
  simp(disch:=first|(simp only[push_cast];done)|omega) only[push_cast,hks4.iaddr]
  refine hks4.load zQ hi' fun x hx=>?_
  obtain⟨cx,rfl,hcx⟩:=hx.cells
  refine zE xu fun b7 w7 hb7 he7 hz7 hB7=>?_
  refine stTerm hB7 rfl (hcx.ext he7) fun w8 hw8 hz8 hB8=>?_
  have e48:Ext w4 w8:=Ext.then he7 hw8 fun y hy=>by subst hy;omega
  have v8:=hcx.ext e48
  simp(disch:=(simp only[push_cast];done)) only[push_cast,hB8.ldAgg (t:=zb) (by rw[qu hcx];exact zQ)]
  have hmem:t.ks.getD i default∈t.ks:=M.getD_mem hi' _
  have hsk:M.sizeM (t.ks.getD i default)≤1000:=by
   have h1:=M.szT_succ hi'
   have h2:=M.szT_mono (ks:=t.ks) (i:=i+1) (j:=t.ks.length) hi' (Nat.le_refl _)
   have h3:=M.szT_all t
   omega
  have hb8:=hb4.grow e48
  refine ih _ hmem ((M.sort_parts hs).2.1 _ hmem) hsk hb8 (v8.term.weaken fun b hb _=>hG4 b hb) fun w9 F9 st9 r zs hb9 hm9 hr9 hz9 ht9=>?_
  refine yc XD ke jr rfl (Sl.cells1 hr9) fun b10 w10 hb10 he10 hz10 hB10=>?_
  have l48:=e48.size;have l9:=hm9.same.size
  have hvP:∀b,v.ownBlock=some b→¬P1 m F4 b:=fun b hb hp=>hp.elim (hn4 b hb).2 fun e=>by have:=(hn4 b hb).1;have:=hb3.met.lt;omega
  have ho10:OwnV PP zw w10 v vs:=((ho4.ext e48).same hm9.same hvP).ext he10
  refine ho10.app1 Us hB10 (Sl.one hr9) (by omega) (by omega) fun v11 w11 ho11 hs11 hn11=>?_
  try simp(disch:=omega) only[push_cast,zF]
  have hnF9:∀b,v.ownBlock=some b→¬F9 b:=fun b hb hf=>hm9.off (hvP b hb) (by have:=ho4.lt hb;omega) (.inl hf)
  have hX11:∀b,(X b∨v11.ownBlock=some b)→b<w10.heap.size→(X b∨v.ownBlock=some b):=fun b hb hl=>hb.elim .inl fun h=>(hn11 b h).elim .inr fun h2=>by omega
  have hint10:∀j,j<i→Ints (Off (fun b=>X b∨v.ownBlock=some b) F9) w10 (vs.getD j undef) (rs.getD j []):=fun j hj=>Ints.ext (Sl.mvX (Ints.ext (hint j hj) e48) (.inl hb.ext) hm9) he10
  refine hC hi' _ _ ⟨v11,by simp,⟨F9,st9,vs++[r],rs++[zs],(hb9.grow he10).swap hb3 hs11 (fun b hb=>⟨.inr hb,(hn4 b hb).1,hnF9 b hb⟩) (fun b hb=>⟨?_,hX11 b hb⟩) (.inl hb.ext),(((hm4.ext e48).trans hm9).ext he10).to hs11 fun b hb=> .inr (hn4 b hb).1,ho11,fun b hb=>?_,by simp[hvl],by simp[hrl],fun j hj=>?_,fun q hq=>?_,?_⟩⟩
  ·rcases hb with h|h
   ·have:=hb4.bd.lt b (.inr (.inl h));have:=he10.size;have:=hs11.size;omega
   ·exact ho11.lt h
  ·rcases hn11 b hb with h|h
   ·exact⟨(hn4 b h).1,hnF9 b h⟩
   ·have:=he10.size
    exact⟨by omega,fun hf=>by have:=hb9.bd.lt b (.inl hf);omega⟩
  ·by_cases c:j<i
   ·rw[U8 (by omega),U8 (by omega)]
    exact Ints.swap (hint10 j c) hs11 (fun b hb=> .inr hb) hX11
   ·have:j=i:=by omega
    subst this
    rw[U9 hvl,U9 hrl]
    exact Ints.swap (Ints.ext hr9 he10) hs11 (fun b hb=> .inr hb) hX11
  ·rcases List.mem_append.1 hq with h|h
   ·exact hsm q h
   ·rw[List.mem_singleton.1 h];exact hz9
  ·rw[M.take_add hi' default,List.map_append]
   exact hto.snoc ht9
 ·have hi':i=t.ks.length:=by omega
  subst hi'
  rw[List.take_length] at hto
  obtain⟨bc,hB,hC4⟩:=hb4.bd.blk
  have back:∀{F5:Nat→Prop} {w5:World} {st5:Option M.Gs},BlR n bl bb kb m ar ab ds dv (fun b=>X b∨v.ownBlock=some b) F5 w5 st5→BlR n bl bb kb m ar ab ds dv X F5 w5 st5:=fun h=>h.swap h (Same.refl (fun _=>False) _) (fun b hb=>hb.elim) (fun b hb=>⟨h.bd.lt b (.inr (.inl hb)),fun _=> .inl hb⟩) hb3.ext
  have m3:Mv (P1 m F) w (P1 m F) w3:=Mv.refl.ext e3
  cases st4 with
  |none=>
   simp only at hB
   simp(disch:=first|(simp only[push_cast];done)|omega) only[push_cast,hb4.blk.ld0,hB.ld1,yw0]
   have hnil:Ints (Off X F4) w4 (.slice none 0 0) []:=Ints.weaken (OwnI.nil (P:=PP) (t:=z7)).ints fun b hb _=>by cases hb
   exact hK w4 F4 none _ [] (back hb4) (m3.trans hm4) hnil SmL.nil (TOut.root (st2:=none) hto (fun gs1 e=>by cases e) fun _=>rfl)
  |some gs4=>
   simp only at hB
   simp(disch:=first|(simp only[push_cast];done)|omega) only[push_cast,hb4.blk.ld0,hB.ld1,JP]
   have hT4:=hT3.same hm4.same fun hp=>hp.elim (fun hf=>by have:=hb.bd.lt _ (.inl hf);omega) fun e=>by have:=hb.met.lt;omega
   simp(disch:=first|(simp only[push_cast];done)|omega) only[push_cast,hT4.ldAgg (t:=zb) zQ]
   have hreach:(M.seqB (t.ks.map (M.termB ds))).Reach rs:=by
    rcases hto with⟨gs0,g1,a1,a2,a3⟩|⟨a1,_⟩
    ·exact M.Bd.reach_of_run a3
    ·cases a1
   obtain⟨hrl',hre⟩:=M.seq_reach hreach
   refine root_spec hb4.bd hd hs hb4.blk hb4.dcl hb4.kin ⟨kv,rfl,hks4⟩ ⟨⟨vs,ho4.vals,by omega,fun j hj=>hint j (by omega)⟩,hsm⟩ hrl' (fun j hj=>?_) fun w5 F5 st5 r zs hb5 hm5 hr5 hz5 ho5=>?_
   ·have hmem:t.ks.getD j default∈t.ks:=M.getD_mem hj _
    have:=M.term_len hd _ ((M.sort_parts hs).2.1 _ hmem) (hre j hj)
    rw[this];rfl
   have hb5':=hb4.step hb5 hm5 (Out.pre' ho5)
   have hto5:TOut n (M.termB ds t) st st5 zs:=hto.root (fun gs1 e=>by cases e;exact ho5) fun e=>by cases e
   have hm5':Mv (P1 m F) w (P1 m F5) w5:=(m3.trans hm4).trans hm5.p1
   have hr5':Ints (Off X F5) w5 r zs:=Ints.weaken hr5 fun b hb _=>⟨hb.1,fun hx=>hb.2 (.inl hx)⟩
   have hb5X:=back hb5'
   simp(disch:=first|(simp only[push_cast];done)|omega) only[push_cast,hb5X.blk.ld3]
   refine hb5X.put hst hs hr5' hz5 (fun gs e=>?_) fun w6 hb6 hw6=>?_
   ·rcases hto5 with⟨g0,g1,a1,a2,a3⟩|⟨a1,_⟩
    ·rw[a2] at e;cases e
     exact M.Bd.run_again a3 (List.prefix_refl _)
    ·rw[a1] at e;cases e
   ·refine hK w6 F5 st5 r zs hb6 (hm5'.to hw6 fun b hb=> .inl (.inr hb)) ?_ hz5 hto5
    exact Ints.same hr5' hw6 fun b hb _ e=>hb.2 (e▸hb3.ext)
end Go.Proofs.YtaekfnbnhjgboaaGreatDoor
end
section
namespace Go.Proofs.YtaekfnbnhjgboaaGreatDoor
open Go Go.Vc Go.Proofs
section
open Go.RowKit Go.Extern.Stop Go.Stop Go.Extern
theorem jX0 (v:Value) (w:World):(Extern.ReflectliteType.typeOf #[.iface 358 v]).run Tryz.prog w= .ok (.iface 249 (.agg #[.pointer (some ⟨9,358,none⟩)])) w:=by kernel_rfl
theorem yk0 (w:World):(callFunc 362 #[.agg #[.pointer (some ⟨9,358,none⟩)]]).run Tryz.prog w= .ok (Next.value (.bool true)) w:=by
 rw[@run_callFunc_extern Tryz.prog 362 _ (Extern.ReflectliteType.method fun t=>do Extern.Rtype.noPackHeld "Comparable" t;pure (.bool (←typeInfo t).comparable)) Tryz.func362 (by kernel_rfl) (by kernel_rfl) (by kernel_rfl) (by kernel_rfl)]
 kernel_rfl
theorem jY0 (v:Value) (w:World):(Go.method 507 249 v "Comparable").run Tryz.prog w= .ok (362,v) w:=by kernel_rfl
theorem Yn0:(Tryz.prog.info? 358).map (·.comparable)=some true:=by kernel_rfl
theorem Yl0:(Tryz.prog.info? 396).map (·.size)=some 1:=by kernel_rfl
theorem Ym0 (a:Addr) (w:World):
  Calls Tryz.prog 59 #[.iface 358 (.pointer (some a)),.iface 358 (.pointer (some a))] w fun e w'=>e= .returned (.bool true)∧w'=w:=by
 obtain⟨i,hi,hcmp⟩:=Option.map_eq_some_iff.1 Yn0
 obtain⟨j,hj,hjs⟩:=Option.map_eq_some_iff.1 Yl0
 have h8:= @run_callFunc_extern Tryz.prog 116 _ Extern.ReflectliteType.typeOf Tryz.func116 (by kernel_rfl) (by kernel_rfl) (by kernel_rfl) (by kernel_rfl)
 have h32:∀w:World,(callFunc 362 #[.agg #[.pointer (some ⟨9,358,none⟩)]]).run Tryz.prog w= .ok (Next.value (.bool true)) w:=yk0
 have tT:=jX0
 have mR:=jY0
 have heq:=run_eql_iface_ptr_same (P:=Tryz.prog) w a Tryz.underlying102 Tryz.underlying358 hi hcmp hj
 go_enter Tryz.func59,Tryz.ntmps59
 go_wp2
 refine wp_loop_rounds 1 ?_
 rw[rounds_succ]
 go_wp2
 go_ret
 exact⟨rfl,rfl⟩
theorem X90 (b:Addr) (w:World):
  Calls Tryz.prog 59 #[.nilIface,.iface 358 (.pointer (some b))] w fun e w'=>e= .returned (.bool false)∧w'=w:=by
 have hn:=run_eql_iface_nil_left (P:=Tryz.prog) w 358 (.pointer (some b)) Tryz.underlying102
 go_enter Tryz.func59,Tryz.ntmps59
 go_wp2
 go_ret
 exact⟨rfl,rfl⟩
end
variable {w:World} {K:Value→World→Prop}
theorem X80 {a:Addr} (hK:K (.bool true) w):vcall PP JS #[erv a,erv a] w K:=
 ⟨by kernel_rfl,(Ym0 a w).mono fun e w' h=>by obtain⟨rfl,rfl⟩:=h;exact hK⟩
theorem is_no {a:Addr} (hK:K (.bool false) w):vcall PP JS #[.nilIface,erv a] w K:=
 ⟨by kernel_rfl,(X90 a w).mono fun e w' h=>by obtain⟨rfl,rfl⟩:=h;exact hK⟩
end Go.Proofs.YtaekfnbnhjgboaaGreatDoor
end
section
namespace Go.Proofs.YtaekfnbnhjgboaaGreatDoor
open Go Go.Vc Go.Proofs
variable {w:World} {K:Value→World→Prop} {F F' Fx Fy Fk Q X:Nat→Prop} {n bl bc mb bb kb m:Nat} {gs:M.Gs} {v dv:Value} {ar ab:Addr} {st:Option M.Gs} {ds:List M.Dcl}
theorem gone (gs:M.Gs):∀y,y∈gs.map yi→∀c,c∈y→c.oneCell'=true:=fun y hy c hc=>by
 obtain⟨g,_,rfl⟩:=List.mem_map.1 hy
 simp only[yi,List.mem_cons,List.not_mem_nil,or_false] at hc
 rcases hc with rfl|rfl|rfl<;>rfl
theorem OwnG.nil:OwnG w (.slice none 0 0) []:=Own.nil PP 0 3 zk w
theorem Clone_gate (hx:GatesR Fx w v gs) (hsm:gs.length≤1000000) (hK:∀w' v',Ext w w'→OwnG w' v' gs→(∀x,v'.ownBlock=some x→w.heap.size≤x)→K v' w'):
  vcall PP yu #[v] w K:=by
 apply jg;unfold xM
 obtain⟨a,c,rfl,hc,hcm,hcell⟩:=hx.shape
 rw[List.length_map] at hx hc⊢
 rw[zY0 xO]
 refine xl (fun hn=>?_) (fun hn=>?_)
 ·cases a with
  |some a=>cases hn
  |none=>
   have hxs:gs=[]:=by
    have h0:gs.map yi=[]:=Classical.byContradiction fun h=>by
     obtain⟨b,o,h1,_⟩:=hcell h;cases h1
    simpa using h0
   subst hxs
   exact hK w _ (Same.refl _ _) OwnG.nil fun x hx=>by cases hx
 ·refine qt jj YK fun b w1 hb he hz hB=>?_
  have hown:Own PP 0 3 zk w1 (.slice (some ⟨b,0,none⟩) 0 0) []:=Blk.ownk (css:=[]) (by rw[Xa];exact hB) (fun x hx=>by cases hx) rfl (by omega)
  have hx1:Sl Fx w1 3 (.slice a gs.length c) (gs.map yi):=Sl.ext hx he
  refine vappend (bs:=24) qF (by decide) hown hx1 (gone gs) (by omega) (by rw[List.length_map];simp;omega) (by rw[List.length_map];simp;omega) fun v' w2 ho hs hn2=>?_
  have hsz:=he.size
  refine hK w2 v' (Ext.then he hs fun x hx=>by have e:b=x:=Option.some.inj hx;omega) ho fun x hx=>?_
  rcases hn2 x hx with h|h
  ·have e:b=x:=Option.some.inj h;omega
  ·omega
theorem sigof_spec {a m:Int} (hm:m.natAbs≤1000000) (hK:K (.bool (decide (a≠0∧ -m≤a∧a≤m))) w):vcall PP j3 #[.int .i64 a,.int .i64 m] w K:=by
 apply WW;unfold Xm
 simp only[push_cast]
 refine zh (fun c=>?_) (fun c=>?_)
 ·simp(disch:=omega) only[push_cast,zF,Int.zero_sub]
  refine zh (fun d=>?_) (fun d=>?_)
  ·try simp only[push_cast]
   rwa[show decide (a≠0∧ -m≤a∧a≤m)=decide (a≤m) from decide_eq_decide.2 ⟨fun h=>h.2.2,fun h=>⟨c,d,h⟩⟩] at hK
  ·rwa[decide_eq_false (fun h=>d h.2.1)] at hK
 ·rwa[decide_eq_false (fun h=>c h.1)] at hK
theorem y40 {a:Int} {o:Option Addr} {l c mb:Nat}:zU PP zO [(0,.agg ⟨[.int .i64 a,.slice o l c]⟩),(1,.map (some mb))] w K=K (.agg ⟨[.int .i64 a,.slice o l c,.map (some mb)]⟩) w:=yB zS0 (us:=[[.int .i64 a,.slice o l c],[.map (some mb)]]) rfl rfl
theorem qM0 {a:Int} {o:Option Addr} {l c:Nat}:zU PP zf [(0,.int .i64 a),(1,.slice o l c)] w K=K (.agg ⟨[.int .i64 a,.slice o l c]⟩) w:=yB Wh (us:=[[.int .i64 a],[.slice o l c]]) rfl rfl
structure Rd (n:Nat) (w:World) (bc:Nat) (v':Value) (mb:Nat) (gs:M.Gs) (i:Nat) (w':World):Prop where
 ext:Ext w w'
 blk:Blk w' bc [.int .i64 n,v',.map (some mb)] zO
 own:OwnG w' v' gs
 map:∃f,GMap w' mb f∧∀g,QX g f=if g∈gs.take i then some (2+n+gs.idxOf g:Int) else none
 sep:bc≠mb∧v'.ownBlock≠some bc∧v'.ownBlock≠some mb
 new:∀b,QY bc mb v' b→w.heap.size≤b
theorem readNet_spec (hv:GatesR Fx w v gs) (hg:M.NetG n gs) (hn:n≤8) (hK:∀w' bc v' mb,CktR n bc w' gs v' mb→Ext w w'→(∀b,QY bc mb v' b→w.heap.size≤b)→K (.tuple #[.pointer (some ⟨bc,0,none⟩),.bool true]) w'):
  vcall PP Yh #[.agg ⟨[.int .i64 n,v]⟩] w K:=by
 apply zD0;unfold Jz
 refine zu fun b1 w1 hb1 he1 hz1 hB1=>?_
 have hv1:GatesR Fx w1 v gs:=Sl.ext hv he1
 have hfew:=hg.few
 have hlen:∀(w':World) (K:Value→World→Prop),vbi PP .len [zk] zd [v] w' K=K (.int .i64 gs.length) w':=fun w' K=>by rw[Sl.len hv xO,xv0]
 refine zX (fun u w'=>u=[]∧w'=w1) ?_ ?_
 ·intro J hJ
  simp(disch:=first|(simp only[push_cast];done)|omega) only[push_cast,hB1.ld0]
  refine zh (fun c=>absurd c (by omega)) (fun _=>?_)
  try simp(disch:=first|(simp only[push_cast];done)|omega) only[push_cast,hB1.ld0]
  refine zh (fun c=>absurd c (by omega)) (fun _=>?_)
  try simp(disch:=first|(simp only[push_cast];done)|omega) only[push_cast,hB1.ld1,hlen]
  refine zh (fun c=>absurd c (by omega)) (fun _=>?_)
  exact hJ _ _ ⟨rfl,rfl⟩
 rintro _ _ w2 ⟨rfl,rfl⟩
 refine zX (fun u w'=> ∃bc v' mb,u=[.pointer (some ⟨bc,0,none⟩)]∧Rd n w2 bc v' mb gs 0 w') ?_ ?_
 ·intro J hJ
  refine zr fun w3 he3 _=>?_
  have hB3:=hB1.ext he3
  have e3:=he1.trans he3
  simp(disch:=first|(simp only[push_cast];done)|omega) only[push_cast,hB3.ld0,hB3.ld1,true_and,and_true]
  refine⟨?_,?_⟩
  ·refine Clone_gate (Sl.ext hv e3) (by omega) fun w4 v' he4 hv4 hn4=>?_
   have hB4:=hB3.ext he4
   obtain⟨o,c,rfl,_⟩:=(Own.sl hv4).shape
   simp(disch:=first|(simp only[push_cast];done)|omega) only[push_cast,hB4.ld0,true_and,and_true,and_self,qM0]
   refine Xc0 rfl fun mb w5 hmb hm5 he5 hz5=>?_
   have hB5:=hB4.ext he5
   simp(disch:=first|(simp only[push_cast];done)|omega) only[push_cast,hB5.ld0,true_and,and_true,and_self,qM0,y40]
   refine zu fun bc w6 hbc he6 hz6 hB6=>?_
   have z3:=he3.size;have z4:=he4.size
   have hlt:=(fun b hb=>(Own.lt hv4 (b:=b) hb).2)
   refine hJ _ _ ⟨bc,_,mb,rfl,he3.trans (he4.trans (he5.trans he6)),hB6,Own.ext hv4 (he5.trans he6),⟨[],hm5.ext he6,fun g=>rfl⟩,⟨by omega,fun h=>by have:=hlt _ h;omega,fun h=>by have:=hlt _ h;omega⟩,?_⟩
   rintro b (rfl|rfl|h)
   ·omega
   ·omega
   ·have:=hn4 b h;omega
  ·refine Xc0 rfl fun mb w5 hmb hm5 he5 hz5=>?_
   have hB5:=hB3.ext he5
   simp(disch:=first|(simp only[push_cast];done)|omega) only[push_cast,hB5.ld0,hB5.ld1,true_and,and_true,and_self]
   refine Clone_gate (Sl.ext hv (e3.trans he5)) (by omega) fun w4 v' he4 hv4 hn4=>?_
   have hB4:=hB5.ext he4
   obtain⟨o,c,rfl,_⟩:=(Own.sl hv4).shape
   simp(disch:=first|(simp only[push_cast];done)|omega) only[push_cast,hB4.ld0,true_and,and_true,and_self,qM0,y40]
   refine zu fun bc w6 hbc he6 hz6 hB6=>?_
   have z3:=he3.size;have z4:=he4.size
   have hlt:=(fun b hb=>(Own.lt hv4 (b:=b) hb).2)
   refine hJ _ _ ⟨bc,_,mb,rfl,he3.trans (he5.trans (he4.trans he6)),hB6,Own.ext hv4 he6,⟨[],hm5.ext (he4.trans he6),fun g=>rfl⟩,⟨by omega,fun h=>by have:=hlt _ h;omega,fun h=>by have:=hn4 _ h;omega⟩,?_⟩
   rintro b (rfl|rfl|h)
   ·omega
   ·omega
   ·have:=hn4 b h;omega
 rintro _ _ w3 ⟨bc,v',mb,rfl,h3⟩
 have hB3:=hB1.ext h3.ext
 simp(disch:=first|(simp only[push_cast];done)|omega) only[push_cast,hB3.ld1,hlen]
 refine vloop_up gs.length (fun i u w'=>u=[.int .i64 i]∧Rd n w2 bc v' mb gs i w') ⟨rfl,h3⟩ ?_
 rintro i _ _ w4 C hi ⟨rfl,h4⟩ hC
 have hB4:=hB1.ext h4.ext
 simp only[push_cast]
 refine zh (fun a=>?_) (fun a=>?_)
 ·have hi':i<gs.length:=by omega
  have hv4:Sl Fx w4 3 v (gs.map yi):=Sl.ext hv (he1.trans h4.ext)
  have hgi:(gs.map yi).getD i []=yi gs[i]:=by simp[List.getD_eq_getElem?_getD,hi']
  rw[Sl.iaddr hv4 ZO (by omega) (by rw[xv0];omega),Int.toNat_natCast,Sl.ldAgg hv4 qG (by rw[xv0];exact hi'),hgi]
  obtain⟨g1,g2,g3,g4⟩:=hg.gate i hi'
  have hnin:gs[i]∉gs.take i:=fun h=>by
   obtain⟨j,hj,e⟩:=List.getElem_of_mem h
   rw[List.length_take] at hj
   rw[List.getElem_take] at e
   exact List.pairwise_iff_getElem.1 hg.once j i (by omega) hi' (by omega) e
  have htk:gs.take (i+1)=gs.take i++[gs[i]]:=by rw[List.take_add_one,List.getElem?_eq_getElem hi'];rfl
  have hidx:gs.idxOf gs[i]=i:=List.Nodup.idxOf_getElem hg.once i hi'
  generalize gs[i]=g at*
  have absN:∀a:Int,M.absI a=(a.natAbs:Int):=fun a=>by unfold M.absI;split<;>omega
  have ga:=absN g.a
  have gb:=absN g.b
  refine zE Xx fun b5 w5 hb5 he5 hz5 hB5=>?_
  refine hB5.stAgg (cs':=yi g) rfl qG (fun c hc=>by simp only[yi,List.mem_cons,List.not_mem_nil,or_false] at hc;rcases hc with rfl|rfl|rfl<;>rfl) fun w6 hs6 hz6 hB6=>?_
  have e46:Ext w4 w6:=Ext.then he5 hs6 fun y hy=>by subst hy;omega
  refine zr fun w7 he7 _=>?_
  have hB7:=hB6.ext he7
  have e47:=e46.trans he7
  have hN7:=hB4.ext e47
  have hla:∀w':World,Blk w' b5 (yi g) zl→∀K:Value→World→Prop,ze PP zl (.pointer (some ⟨b5,0,none⟩)) w' K=K (gv g) w':=fun w' hB K=>Blk.ldAgg hB (by exact qG)
  simp(disch:=first|(simp only[push_cast];done)|omega) only[push_cast,hB7.ld1,hB7.ld2,true_and]
  refine zX (fun u w'=>u=[]∧Ext w7 w') ?_ ?_
  ·intro J hJ
   rw[hN7.ldAgg (t:=zf) y8]
   refine nodes_spec (by omega) (by omega) fun w8 he8=>?_
   refine sigof_spec (by omega) ?_
   rw[decide_eq_true ⟨by omega,by omega,by omega⟩]
   have hN8:=hN7.ext he8
   simp(disch:=first|(simp only[push_cast];done)|omega) only[push_cast,Bool.not_true,hN8.ldAgg (t:=zf) y8]
   refine nodes_spec (by omega) (by omega) fun w9 he9=>?_
   refine sigof_spec (by omega) ?_
   rw[decide_eq_true ⟨by omega,by omega,by omega⟩]
   simp only[push_cast,Bool.not_true]
   refine node_spec (by omega) ?_
   simp only[push_cast]
   refine zh (fun c=>absurd c (by omega)) (fun _=>?_)
   refine node_spec (by omega) ?_
   simp only[push_cast]
   refine zh (fun c=>absurd c (by omega)) (fun _=>?_)
   refine node_spec (by omega) (node_spec (by omega) ?_)
   simp only[push_cast]
   refine zh (fun c=>absurd c (by omega)) (fun _=>?_)
   exact hJ _ _ ⟨rfl,he8.trans he9⟩
  rintro _ _ w9 ⟨rfl,he9⟩
  have e49:=e47.trans he9
  refine zX (fun u w'=>u=[]∧Ext w9 w') ?_ ?_
  ·intro J hJ
   refine zr fun w10 he10 _=>?_
   have e:=e49.trans he10
   have hC10:=h4.blk.ext e
   have hG10:=(hB7.ext he9).ext he10
   obtain⟨f,hf,hl⟩:=h4.map
   have hf10:=hf.ext e
   have hno:QX g f=none:=by rw[hl,if_neg hnin]
   simp(disch:=first|(simp only[push_cast];done)|omega) only[push_cast,hC10.ld2,hla _ hG10,ZR0 hf10,hno,true_and]
   simp(disch:=first|(simp only[push_cast];done)|omega) only[push_cast,hG10.ld0]
   refine xl (fun hx=>?_) (fun hx=>?_)
   ·obtain⟨p1,p2⟩:=g4 hx
    try simp only[push_cast]
    refine zh (fun c=>absurd c (by omega)) (fun _=>?_)
    try simp only[push_cast]
    refine zh (fun c=>absurd c (by omega)) (fun _=>?_)
    exact hJ _ _ ⟨rfl,he10⟩
   ·exact hJ _ _ ⟨rfl,he10⟩
  rintro _ _ w11 ⟨rfl,he11⟩
  refine zr fun w12 he12 _=>?_
  have e:=(e49.trans he11).trans he12
  have hC12:=h4.blk.ext e
  have hG12:=((hB7.ext he9).ext he11).ext he12
  have hN12:=((hN7.ext he9).ext he11).ext he12
  simp(disch:=first|(simp only[push_cast];done)|omega) only[push_cast,hC12.ld2,hla _ hG12,hN12.ldAgg (t:=zf) y8,true_and]
  refine nodes_spec (by omega) (by omega) fun w13 he13=>?_
  have e13:=e.trans he13
  have hC13:=h4.blk.ext e13
  have hG13:=hG12.ext he13
  obtain⟨f,hf,hl⟩:=h4.map
  have hno:QX g f=none:=by rw[hl,if_neg hnin]
  simp(disch:=first|(simp only[push_cast];done)|omega) only[push_cast,hC13.ld2,hla _ hG13,true_and,and_self,and_true,zF]
  refine gset (hf.ext e13) hno fun w14 hf14 hs14 hz14=>?_
  try simp(disch:=omega) only[push_cast,zF]
  have l4:=h4.ext.size
  refine hC hi' _ _ ⟨by simp,Ext.then (h4.ext.trans e13) hs14 (fun b hb=>by have:=h4.new b (.inr (.inl hb));omega),hC13.same hs14 h4.sep.1,Own.same (Own.ext h4.own e13) hs14 (fun b hb e=>h4.sep.2.2 (e▸hb)),⟨_,hf14,fun g'=>?_⟩,h4.sep,h4.new⟩
  have e1:=look_app (g:=g') (h:=g) (n:=1+(n:Int)+i+1) (f:=f) (i:=0)
  have e2:=hl g'
  unfold QX at e2⊢
  rw[e1,e2,htk]
  by_cases hg':g'∈gs.take i
  ·rw[if_pos hg',if_pos (List.mem_append.2 (.inl hg'))]
  ·rw[if_neg hg']
   by_cases hgg:g'=g
   ·subst hgg
    simp only
    rw[if_pos trivial,if_pos (by simp),hidx]
    congr 1;omega
   ·simp only
    rw[if_neg hgg,if_neg (by simp[hg',hgg])]
 ·have hi':i=gs.length:=by omega
  subst hi'
  obtain⟨f,hf,hl⟩:=h4.map
  rw[List.take_length] at hl
  have z1:=he1.size
  exact hK w4 bc v' mb ⟨h4.blk,h4.own,⟨f,hf,hl⟩,h4.sep,hfew,hn⟩ (he1.trans h4.ext) fun b hb=>by have:=h4.new b hb;omega
end Go.Proofs.YtaekfnbnhjgboaaGreatDoor
end
section
namespace Go.Proofs.YtaekfnbnhjgboaaGreatDoor
open Go Go.Vc Go.Proofs
variable {w:World} {K:Value→World→Prop} {F F' Fx Fy Fk Q X:Nat→Prop} {n bl bc mb bb kb m:Nat} {gs:M.Gs} {v dv:Value} {ar ab:Addr} {st:Option M.Gs} {ds:List M.Dcl}
theorem kg0 {a:Int}:zU PP zf [(0,.int .i64 a)] w K=K (.agg ⟨[.int .i64 a,.slice none 0 0]⟩) w:=yB Wh (us:=[[.int .i64 a]]) rfl rfl
theorem x50:zU PP zf [] w K=K (.agg ⟨[.int .i64 0,.slice none 0 0]⟩) w:=yB Wh (us:=[]) rfl rfl
theorem jc0 {a:Addr}:zU PP zV [(0,.pointer (some a))] w K=K (.agg ⟨[.pointer (some a),.nilIface]⟩) w:=yB zU0 (us:=[[.pointer (some a)]]) rfl rfl
theorem jd0 {a:Addr} {o:Option Addr} {l c k m:Nat}:zU PP zJ [(0,.pointer (some a)),(1,.slice o l c),(2,.map (some k)),(3,.map (some m))] w K=K (.agg ⟨[.pointer (some a),.slice o l c,.map (some k),.map (some m)]⟩) w:=yB zV0 (us:=[[.pointer (some a)],[.slice o l c],[.map (some k)],[.map (some m)]]) rfl rfl
theorem GatesR.nil:GatesR Fx w (.slice none 0 0) []:=Sl.weaken (Own.sl (OwnG.nil (w:=w))) fun b hb _=>by cases hb
theorem NetG.nil (n:Nat):M.NetG n []:=⟨by simp,fun k h=>absurd h (by simp),List.nodup_nil⟩
theorem newBlaster_spec (hd:M.declOk ds=true) (hdv:DclsR Fx w dv ds) (he:Errs (fun _=>False) w ar ab)
  (hK:∀w' bl bb kb m F,BlR (M.bits ds).toNat bl bb kb m ar ab ds dv (· =m) F w' (some [])→Ext w w'→(∀b,F b∨b=m∨b=bl→w.heap.size≤b)→K (.pointer (some ⟨bl,0,none⟩)) w'):vcall PP jY #[dv] w K:=by
 apply W2;unfold Yw
 have h8:=(M.decl_iff.1 hd).2.2
 have h0:=M.bits_pos' (ds:=ds) fun d hd'=>by
  obtain⟨i,hi,e⟩:=List.getElem_of_mem hd'
  have:=(M.dcl_wide hd hi).1
  rw[List.getD_eq_getElem?_getD,List.getElem?_eq_getElem hi] at this
  simp only[Option.getD_some,e] at this
  omega
 refine bitsOf_spec hdv hd fun w1 he1=>?_
 rw[kg0,show M.bits ds=(((M.bits ds).toNat:Nat):Int) by omega]
 refine readNet_spec (Fx:=Fx) (gs:=[]) GatesR.nil (NetG.nil _) (by omega) fun w2 bc v' mb hc he2 hn2=>?_
 simp only[push_cast,jc0]
 refine zu fun bb w3 hb3 he3 hz3 hB3=>?_
 refine kinds_new fun w4 kb he4 hk4 hn4=>?_
 refine qp0 KF fun m w5 hm hm5 he5 hz5=>?_
 obtain⟨o,c,rfl,_⟩:=hdv.shape
 rw[jd0]
 refine zu fun bl w6 hbl he6 hz6 hB6=>?_
 have s1:=he1.size;have s2:=he2.size;have s3:=he3.size;have s4:=he4.size;have s5:=he5.size;have s6:=he6.size
 have e26:=he3.trans (he4.trans (he5.trans he6))
 have e16:=he2.trans e26
 have e06:=he1.trans e16
 have hlt2:∀b,QY bc mb v' b→b<w2.heap.size:=fun b hb=>hc.lt hb
 have hk6:=hk4.ext (he5.trans he6)
 have hkl:=hk4.lt
 have hsize:∀b,(QY bc mb v' b∨b=bb)→w.heap.size≤b∧b<w4.heap.size:=fun b hb=>hb.elim (fun h=>by have:=hn2 b h;have:=hlt2 b h;omega) fun h=>by omega
 refine hK w6 bl bb kb m (fun b=>QY bc mb v' b∨b=bb) ⟨⟨⟨?_,?_,?_⟩,⟨bc,hB3.ext (he4.trans (he5.trans he6)),fun gs e=>?_⟩,.inr rfl,fun b hb=>?_⟩,hB6,⟨fun h=>by have:=(hsize _ h).2;omega,fun h=>by have:=(hsize _ h).2;omega,?_,by omega,by omega⟩,rfl,?_,hk6,?_⟩ e06 fun b hb=>?_
 ·exact he.room.same e06 id
 ·exact he.bits.same e06 id
 ·have l1:=he.room.lt;have l2:=he.bits.lt
  exact⟨fun h=>by have:=(hsize _ h).1;omega,fun h=>by have:=(hsize _ h).1;omega⟩
 ·cases e
  exact⟨v',mb,hc.ext e26,fun h=>by have:=hlt2 _ h;omega,fun b hb=> .inl hb⟩
 ·rcases hb with h|h
  ·have:=(hsize _ h).2;omega
  ·omega
 ·rintro(h|h)
  ·have:=hlt2 _ h;omega
  ·omega
 ·have h1:DclsR (fun b=>Fx b∧b<w.heap.size) w _ ds:=Sl.weaken hdv fun b hb hl=>⟨hb,hl⟩
  exact Sl.weaken (Sl.ext h1 e06) fun b hb _=>⟨fun h=>by have:=(hsize _ h).1;omega,fun h=>by omega⟩
 ·exact⟨[],hm5.ext he6,fun p hp=>by cases hp⟩
 ·rcases hb with h|h|h
  ·exact(hsize _ h).1
  ·omega
  ·omega
def blastR (ds:List M.Dcl) (t:M.Tm):Nat×M.Gs×List Int:=
 if M.tsort ds t= -1 then(0,[],[]) else match(M.termB ds t).run (M.bits ds).toNat [] with
  |some (gs,zs)=>((M.bits ds).toNat,gs,zs)
  |none=>(0,[],[])
theorem U2 {t:M.Tm} (h:M.tsort ds t≠ -1):M.fits t=true∧M.declOk ds=true∧M.sortM ds t≠ -1∧M.sizeM t≤20:=by
 unfold M.tsort at h
 split at h
 ·next hh=>exact⟨hh.1,hh.2,h,(M.fits_iff.1 hh.1).1⟩
 ·exact absurd rfl h
theorem TOut.lens {t:M.Tm} {gs:M.Gs} {zs:List Int} (h:TOut n (M.termB ds t) (some gs) st zs) (hd:M.declOk ds=true) (hs:M.sortM ds t≠ -1):(∃gs',st=some gs'∧(M.termB ds t).run n gs=some (gs',zs)∧zs.length≤4)∨(st=none∧(M.termB ds t).run n gs=none):=by
 rcases h with⟨g0,g1,e1,e2,e3⟩|⟨e1,e2⟩
 ·cases e1
  refine .inl ⟨g1,e2,e3,?_⟩
  have h1:=M.term_len hd t hs (M.Bd.reach_of_run e3)
  have h2:=M.sort_range hd t
  rw[h1];unfold M.lenS;omega
 ·exact .inr ⟨e1,e2 gs rfl⟩
theorem Mv.fresh {w0 w':World} (h:Mv F w F' w') (he:Ext w0 w) (hF:∀b,F b→w0.heap.size≤b):Ext w0 w':=Ext.then he h.same hF
theorem Blast_spec {t:M.Tm} {tv:Value} (hdv:DclsR Fx w dv ds) (ht:TermR Fy w tv t) (he:Errs (fun _=>False) w ar ab)
  (hK:∀w' gv lv,Ext w w'→OwnG w' gv (blastR ds t).2.1→OwnI PP zg w' lv (blastR ds t).2.2→(∀b,gv.ownBlock=some b→w.heap.size≤b)→(∀b,lv.ownBlock=some b→w.heap.size≤b∧gv.ownBlock≠some b)→K (.tuple #[.agg ⟨[.int .i64 (blastR ds t).1,gv]⟩,lv]) w'):
  vcall PP xY #[dv,tv] w K:=by
 apply q00;unfold WQ
 obtain⟨cs,rfl,hcs⟩:=ht.cells
 refine zu fun b1 w1 hb1 he1 hz1 hB1=>?_
 refine zE yV fun b2 w2 hb2 he2 hz2 hB2=>?_
 have e2:=he1.trans he2
 have hB12:=hB1.ext he2
 have hld:∀w':World,Blk w' b1 cs zb→∀K:Value→World→Prop,ze PP zb (.pointer (some ⟨b1,0,none⟩)) w' K=K (.agg ⟨cs⟩) w':=fun w' h K=>h.ldAgg (t:=zb) (by rw[qu hcs];exact zQ)
 have hag:∀{a:Int} {o:Option Addr} {l c:Nat},∀u,u∈[Value.int .i64 a,.slice o l c]→u.oneCell'=true:=fun u hu=>by
  simp only[List.mem_cons,List.not_mem_nil,or_false] at hu
  rcases hu with rfl|rfl<;>rfl
 rw[hld w2 hB12]
 refine TermSort_spec (hdv.ext e2) (hcs.ext e2).term fun w3 he3=>?_
 have e3:=e2.trans he3
 have hB13:=hB12.ext he3
 have hB23:=hB2.ext he3
 simp only[push_cast]
 have z1:=he1.size;have z2:=he2.size
 unfold blastR at hK
 have zero:∀w4:World,Ext w w4→Blk w4 b2 [.int .i64 0,.slice none 0 0] zf→(∀w' gv lv,Ext w w'→OwnG w' gv []→OwnI PP zg w' lv []→(∀b,gv.ownBlock=some b→w.heap.size≤b)→(∀b,lv.ownBlock=some b→w.heap.size≤b∧gv.ownBlock≠some b)→K (.tuple #[.agg ⟨[.int .i64 ((0:Nat):Int),gv]⟩,lv]) w')→
   zU PP zf [] w4 fun t27 w_21=>zq PP zf (.pointer (some ⟨b2,0,none⟩)) t27 w_21 fun _ w_22=>vlv PP zf (.pointer (some ⟨b2,0,none⟩)) w_22 fun r4_1 w_23=>K (.tuple #[r4_1,(.slice none 0 0)]) w_23:=fun w4 e4 hB4 hK=>by
  rw[x50]
  refine hB4.stAgg (cs':=[.int .i64 0,.slice none 0 0]) rfl y8 hag fun w5 hs5 hz5 hB5=>?_
  rw[hB5.lv (t:=zf) y8]
  exact hK w5 _ _ (Ext.then e4 hs5 fun y hy=>by subst hy;omega) OwnG.nil OwnI.nil (fun b hb=>by cases hb) fun b hb=>by cases hb
 refine zh (fun c=>?_) (fun c=>?_)
 ·rw[if_pos c] at hK
  exact zero w3 e3 hB23 hK
 rw[if_neg c] at hK
 obtain⟨hfit,hd,hs,h20⟩:=U2 c
 have he3':Errs (fun _=>False) w3 ar ab:=⟨he.room.same e3 id,he.bits.same e3 id,id,id⟩
 refine newBlaster_spec hd (hdv.ext e3) he3' fun w4 bl bb kb m F4 hb4 he4 hn4=>?_
 have hB14:=hB13.ext he4
 have hB24:=hB23.ext he4
 have s3:=he3.size
 have hlt2:b2<w3.heap.size:=by omega
 have ht3:TermR (fun b=>Fy b∧b<w.heap.size) w4 (.agg ⟨cs⟩) t:=((hcs.term.weaken fun b hb hl=>⟨hb,hl⟩).ext e3).ext he4
 rw[hld w4 hB14]
 refine term_spec hd t hs (by omega) hb4 (ht3.weaken fun b hb _=>⟨fun h=>by have:=hn4 b (.inl h);have:=e3.size;omega,fun h=>by have:=hn4 b (.inr (.inl h));have:=e3.size;omega⟩) fun w5 F5 st5 lv zs hb5 hm5 hl5 hz5 ho5=>?_
 have hn4':∀b,P1 m F4 b→w3.heap.size≤b:=fun b hb=>hb.elim (fun h=>hn4 b (.inl h)) fun h=>hn4 b (.inr (.inl h))
 have e35:Ext w3 w5:=hm5.fresh he4 hn4'
 have hB25:=hB23.ext e35
 refine zr fun w6 he6 _=>?_
 have hb6:=hb5.grow he6
 have hB26:=hB25.ext he6
 have e6:=e3.trans (e35.trans he6)
 obtain⟨bc,hBb,hCk⟩:=hb6.bd.blk
 have hn5:∀b,F5 b→w3.heap.size≤b:=fun b hb=>(hm5.new b (.inl hb)).elim (hn4' b) fun h=>by have:=he4.size;omega
 rcases ho5.lens hd hs with⟨gs5,rfl,hrun,hl4⟩|⟨rfl,hrun⟩
 ·rw[hrun] at hK
  simp only at hBb hK
  simp(disch:=first|(simp only[push_cast];done)|omega) only[push_cast,hb6.blk.ld0,hBb.ld1,xJ XF hb6.bd.err.room.cell,true_and]
  refine is_no ?_
  simp only[push_cast]
  refine zr fun w7 he7 _=>?_
  have hb7:=hb6.grow he7
  obtain⟨bc,hBb,hCk⟩:=hb7.bd.blk
  obtain⟨gvv,mb,hck,hcb,hcF⟩:=hCk gs5 rfl
  simp only at hBb
  have hnet:∀w':World,Ext w7 w'→∀K:Value→World→Prop,ze PP zf (.pointer (some ⟨bc,0,none⟩)) w' K=K (.agg ⟨[.int .i64 ((M.bits ds).toNat:Nat),gvv]⟩) w':=fun w' h K=>Blk.ldTake (us:=[.int .i64 ((M.bits ds).toNat:Nat),gvv]) (r:=[.map (some mb)]) (hck.blk.ext h) y8
  simp(disch:=first|(simp only[push_cast];done)|omega) only[push_cast,hb7.blk.ld0,hBb.ld0,hnet w7 (Same.refl _ _),true_and]
  refine numbers_spec (Ints.ext (Ints.ext hl5 he6) he7) (by omega) fun w8 lv8 he8 hl8 hn8=>?_
  have hb8:=hb7.grow he8
  have hBb8:=hBb.ext he8
  simp(disch:=first|(simp only[push_cast];done)|omega) only[push_cast,hb8.blk.ld0,hBb8.ld0,hnet w8 he8,true_and,and_self,and_true]
  have hB28:=(hB26.ext he7).ext he8
  obtain⟨o,c,hgo,_⟩:=(Own.sl hck.own).shape
  rw[hgo] at hck hcF⊢
  refine hB28.stAgg (cs':=[.int .i64 _,.slice o (gs5.map yi).length c]) rfl y8 hag fun w9 hs9 hz9 hB9=>?_
  rw[hB9.lv (t:=zf) y8]
  have s6:=e6.size;have s7:=he7.size;have s8:=he8.size
  have z35:=e35.size;have z6:=he6.size
  have hglt:∀b,(Value.slice o (gs5.map yi).length c).ownBlock=some b→w3.heap.size≤b∧b<w7.heap.size:=fun b hb=>⟨hn5 b (hcF b (.inr (.inr hb))),(Own.lt hck.own hb).2⟩
  refine hK w9 _ _ (Ext.then (e6.trans (he7.trans he8)) hs9 fun y hy=>by subst hy;omega) ((Own.ext hck.own he8).same hs9 fun b hb e=>by have:=(hglt b hb).1;omega) (hl8.same hs9 fun b hb e=>by have:=hn8 b hb;omega) (fun b hb=>by have:=(hglt b hb).1;omega) fun b hb=>⟨by have:=hn8 b hb;omega,fun h=>by have:=(hglt b h).2;have:=hn8 b hb;omega⟩
 ·rw[hrun] at hK
  simp only at hBb hK
  simp(disch:=first|(simp only[push_cast];done)|omega) only[push_cast,hb6.blk.ld0,hBb.ld1,xJ XF hb6.bd.err.room.cell,true_and]
  refine X80 ?_
  simp only[push_cast]
  exact zero w6 e6 hB26 hK
end Go.Proofs.YtaekfnbnhjgboaaGreatDoor
end
section
namespace Go.Proofs.YtaekfnbnhjgboaaGreatDoor
open Go Go.Vc Go.Proofs
variable {w:World} {K:Value→World→Prop} {D F Fx Fy Y S:Nat→Prop} {n b4 b8:Nat} {gs:M.Gs} {v nv:Value} {cs cs':List Value} {st:Option M.Gs}
theorem k10 {op:BinOp} (ho:op= .eql∨op= .neq) (c:Bool) (x y:Array Value):(eqG op zl c (.agg x) (.agg y)).run PP w= .ok () w:=by
 rcases ho with rfl|rfl<;>cases c<;>kernel_rfl
theorem q60 {c:Bool} (g h:M.Gt):zp PP .eql zl c (gv g) (gv h) w K=K (.bool (decide (g=h))) w:=by
 have h1:(Op.equal zl (gv g) (gv h)).run PP w= .ok (decide (g=h)) w:=eqGate g h w
 refine yH (k10 (.inl rfl) c _ _) ?_
 have e:∀xs ys:Array Value,binOp .eql zl (.agg xs) (.agg ys)=(do let b ←Op.equal zl (.agg xs) (.agg ys);pure (Value.bool b)):=fun _ _=>rfl
 unfold gv at h1⊢
 rw[e,Sem.run_bind,h1];rfl
abbrev GOff (D:Nat→Prop) (w:World) (v:Value) (gs:M.Gs):Prop:=GatesR (fun b=> ¬D b) w v gs
theorem GOff.swap {w':World} (h:GOff D w v gs) (hw:Same S w w') (hS:∀b,S b→D b) (hY:∀b,Y b→b<w.heap.size→D b):GOff Y w' v gs:=by
 have h1:GatesR (fun b=> ¬D b∧b<w.heap.size) w v gs:=Sl.weaken h fun b hb hl=>⟨hb,hl⟩
 exact Sl.weaken (Sl.same h1 hw fun b hb _ hs=>hb.1 (hS b hs)) fun b hb _ hy=>hb.1 (hY b hy hb.2)
theorem net_one {a:Int} {o:Option Addr} {l c:Nat}:∀u,u∈[Value.int .i64 a,.slice o l c]→u.oneCell'=true:=fun u hu=>by
 simp only[List.mem_cons,List.not_mem_nil,or_false] at hu
 rcases hu with rfl|rfl<;>rfl
theorem gates_app {x:Value} {b1:Nat} {t0:TypeId} {g:M.Gt} (hx:GatesR Fx w x gs) (hB:Blk w b1 (yi g) t0) (hl:gs.length≤1000) (ho:OwnG w v []) (hv:∀b,v.ownBlock=some b→b≠b1)
  (hK:∀w' v',OwnG w' v' (gs++[g])→Same (fun b=>v.ownBlock=some b∨w.heap.size≤b) w w'→(∀b,v'.ownBlock=some b→v.ownBlock=some b∨w.heap.size≤b)→K v' w'):
  vbi PP .append [zk,zk] zk [v,x] w fun t w1=>vbi PP .append [zk,zk] zk [t,.slice (some ⟨b1,0,none⟩) 1 1] w1 K:=by
 refine vappend (bs:=24) qF (by decide) ho hx (gone gs) (by omega) (by rw[List.length_map];simp;omega) (by rw[List.length_map];simp;omega) fun v' w2 ho2 hs2 hn2=>?_
 have hl1:=hB.lt
 refine Own.app1k (bs:=24) ho2 qF (by decide) (hB.same hs2 fun e=>hv _ e rfl) rfl (gone [g] _ (by simp)) (by simp;omega) (by simp;omega) fun v3 w3 ho3 hs3 hn3=>?_
 have s2:=hs2.size
 refine hK w3 v3 (by unfold OwnG;rw[List.map_append];exact ho3) (Same.thn (hs2.mono fun b _ h=> .inl h) (hs3.mono fun b _ h=>h) fun b hb=> .inl ((hn2 b hb).imp id id)) fun b hb=>?_
 rcases hn3 b hb with h|h
 ·exact hn2 b h
 ·exact .inr (by omega)
theorem sput_spec {g:M.Gt} (hn:n≤8) (hg:GOff D w nv gs) (hl:gs.length≤600) (hD:∀b,D b→b<w.heap.size)
  (hK:∀w' n' gv',Ext w w'→GOff D w' gv' (if(M.putG n gs g).2=0 then[] else(M.putG n gs g).1)→(n'=if(M.putG n gs g).2=0 then 0 else n)→((M.putG n gs g).2=0→gv'= .slice none 0 0)→K (.tuple #[.agg ⟨[.int .i64 (n':Nat),gv']⟩,.int .i64 (M.putG n gs g).2]) w'):
  vcall PP jk #[.agg ⟨[.int .i64 n,nv]⟩,.agg ⟨yi g⟩] w K:=by
 apply xL0;unfold WB
 refine zu fun b1 w1 hb1 he1 hz1 hB1=>?_
 refine zu fun b2 w2 hb2 he2 hz2 hB2=>?_
 refine zE yV fun b3 w3 hb3 he3 hz3 hB3=>?_
 have e3:=he1.trans (he2.trans he3)
 have hB13:=hB1.ext (he2.trans he3)
 have hB23:=hB2.ext he3
 have hla:∀w':World,Blk w' b2 (yi g) zl→∀K:Value→World→Prop,ze PP zl (.pointer (some ⟨b2,0,none⟩)) w' K=K (.agg ⟨yi g⟩) w':=fun w' hB K=>Blk.ldAgg hB (by exact qG)
 have hlen:∀(w':World) (K:Value→World→Prop),vbi PP .len [zk] zd [nv] w' K=K (.int .i64 gs.length) w':=fun w' K=>by rw[Sl.len hg xO,xv0]
 obtain⟨go,gc,hgo,_⟩:=hg.shape
 have hidx:∀i,i<gs.length→gs.getD i ⟨false,0,0⟩=g→g∉gs.take i→(M.putG n gs g)=(gs,(2+n+i:Int)):=fun i hi h1 h2=>by
  have hm:g∈gs:=h1▸M.getD_mem hi _
  unfold M.putG
  rw[if_pos hm]
  have:gs.idxOf g=i:=by
   have e:=List.take_append_drop i gs
   have h3:gs.drop i=gs.getD i ⟨false,0,0⟩::gs.drop (i+1):=by
    rw[List.drop_eq_getElem_cons hi,List.getD_eq_getElem?_getD,List.getElem?_eq_getElem hi];rfl
   rw[←e,List.idxOf_append,if_neg h2,h3,h1,List.idxOf_cons_self,List.length_take];omega
  rw[this]
 refine vloop_up gs.length (fun i u w'=>u=[.int .i64 i]∧Ext w3 w'∧g∉gs.take i) ⟨rfl,Same.refl _ _,by simp⟩ ?_
 rintro i _ _ w4 C hi ⟨rfl,he4,hni⟩ hC
 have hB14:=hB13.ext he4
 have hB24:=hB23.ext he4
 have e4:=e3.trans he4
 simp(disch:=first|(simp only[push_cast];done)|omega) only[push_cast,hB14.ld1,hlen]
 refine zh (fun a=>?_) (fun a=>?_)
 ·have hi':i<gs.length:=by omega
  refine zr fun w5 he5 _=>?_
  have hB15:=hB14.ext he5
  have hB25:=hB24.ext he5
  have hg5:GOff D w5 nv gs:=Sl.ext hg (e4.trans he5)
  have hgi:(gs.map yi).getD i []=yi (gs.getD i ⟨false,0,0⟩):=M.getD_map _ hi' _ _
  simp(disch:=first|(simp only[push_cast];done)|omega) only[push_cast,hB15.ld1,true_and]
  rw[Sl.iaddr hg5 ZO (by omega) (by rw[xv0];omega),Int.toNat_natCast]
  simp(disch:=first|(simp only[push_cast];done)|omega) only[push_cast,true_and]
  rw[Sl.ldAgg hg5 qG (by rw[xv0];exact hi'),hgi]
  simp(disch:=first|(simp only[push_cast];done)|omega) only[push_cast,true_and,hla _ hB25]
  rw[show(Value.agg ⟨yi (gs.getD i ⟨false,0,0⟩)⟩)=gv (gs.getD i ⟨false,0,0⟩) from rfl,show(Value.agg ⟨yi g⟩)=gv g from rfl,q60]
  refine⟨rfl,?_⟩
  refine zh (fun c=>?_) (fun c=>?_)
  ·have hp:=hidx i hi' c hni
   rw[hp] at hK
   refine zr fun w6 he6 _=>?_
   have hB16:=hB15.ext he6
   have hB36:=(hB3.ext (he4.trans he5)).ext he6
   subst hgo
   simp(disch:=first|(simp only[push_cast];done)|omega) only[push_cast,hB16.ld0,hB16.ldAgg (t:=zf) y8,true_and,zF]
   refine hB36.stAgg (cs':=[.int .i64 n,.slice go (gs.map yi).length gc]) rfl y8 net_one fun w7 hs7 hz7 hB7=>?_
   have e7:Ext w w7:=Ext.then ((e4.trans he5).trans he6) hs7 fun b hb=>by have:=he1.size;have:=he2.size;omega
   have hB17:=hB16.same hs7 (show¬b1=b3 by omega)
   simp(disch:=first|(simp only[push_cast];done)|omega) only[push_cast,hB17.ld0,true_and,and_self,zF]
   rw[hB7.lv (t:=zf) y8]
   refine hK w7 n _ e7 ?_ ?_ ?_
   ·rw[if_neg (by show(2+(n:Int)+i)≠0;omega)];exact Sl.ext hg e7
   ·rw[if_neg (by show(2+(n:Int)+i)≠0;omega)]
   ·intro h;exfalso;revert h;show(2+(n:Int)+i)=0→False;omega
  ·simp(disch:=omega) only[push_cast,zF]
   refine hC hi' _ _ ⟨by simp,he4.trans he5,?_⟩
   rw[M.take_add hi' ⟨false,0,0⟩]
   intro h
   rcases List.mem_append.1 h with h|h
   ·exact hni h
   ·exact c (List.mem_singleton.1 h).symm
 ·have hi':i=gs.length:=by omega
  subst hi'
  rw[List.take_length] at hni
  try simp(disch:=first|(simp only[push_cast];done)|omega) only[push_cast,hB14.ld1,hlen]
  refine zh (fun c=>?_) (fun c=>?_)
  ·have hp:M.putG n gs g=(gs,0):=by unfold M.putG;rw[if_neg hni,if_pos (by omega)]
   rw[hp] at hK
   rw[x50]
   refine(hB3.ext he4).stAgg (cs':=[.int .i64 0,.slice none 0 0]) rfl y8 net_one fun w7 hs7 hz7 hB7=>?_
   rw[hB7.lv (t:=zf) y8]
   have e7:Ext w w7:=Ext.then e4 hs7 fun b hb=>by have:=he1.size;have:=he2.size;omega
   exact hK w7 0 _ e7 (by rw[if_pos rfl];exact GatesR.nil) (by rw[if_pos rfl]) fun _=>rfl
  ·have hp:M.putG n gs g=(gs++[g],(2+n+gs.length:Int)):=by unfold M.putG;rw[if_neg hni,if_neg (by omega)]
   rw[hp] at hK
   have s1:=he1.size;have s2:=he2.size;have s4:=e4.size;have s34:=he4.size
   refine zX (fun u w'=>u=[]∧Ext w w'∧∃v',Blk w' b1 [.int .i64 n,v'] zf∧Blk w' b3 [.int .i64 0,.slice none 0 0] zf∧OwnG w' v' (gs++[g])∧∀b,v'.ownBlock=some b→w.heap.size≤b∧b≠b1∧b≠b3) ?_ ?_
   ·intro J hJ
    refine zr fun w5 he5 _=>?_
    have e5:=e4.trans he5
    have hB15:=hB14.ext he5
    have hB25:=hB24.ext he5
    have hB35:=(hB3.ext he4).ext he5
    have s5:=he5.size
    have fin:∀(w8:World) (v':Value),Same (fun b=>w5.heap.size≤b) w5 w8→OwnG w8 v' (gs++[g])→(∀b,v'.ownBlock=some b→w5.heap.size≤b)→zq PP zk (.pointer (some (Addr.add ⟨b1,0,none⟩ 1))) v' w8 fun _ w_42=>J [] w_42:=fun w8 v' h58 ho8 hn8=>by
     have e8:Ext w5 w8:=⟨h58.os,h58.tape,h58.output,h58.size,fun i hi _=>h58.block i hi (by omega)⟩
     refine Blk.st (i:=1) (hB15.ext e8) (Sl.cells1 (Own.sl ho8)) (Sl.one (Own.sl ho8)) Wl rfl fun w9 hs9 hz9 hB9=>?_
     refine hJ _ _ ⟨rfl,Ext.then (e5.trans e8) hs9 fun b hb=>by omega,v',hB9,(hB35.ext e8).same hs9 (show¬b3=b1 by omega),Own.same ho8 hs9 (fun b hb e=>by have:=hn8 b hb;omega),fun b hb=>by have:=hn8 b hb;omega⟩
    simp(disch:=first|(simp only[push_cast];done)|omega) only[push_cast,hB15.ld1,hla _ hB25,true_and,and_true]
    have mk:∀(w6:World) (K:Value→World→Prop),(∀b7 w7,b7=w6.heap.size→Ext w6 w7→w7.heap.size=w6.heap.size+1→Blk w7 b7 (yi g) zl→K (.slice (some ⟨b7,0,none⟩) 1 1) w7)→vbuildS PP zk 1 [(0,.agg ⟨yi g⟩)] w6 K:=fun w6 K h=>
     U0 jj (by kernel_rfl) Xx (y:=yi g) rfl rfl (show 3≤16777216 by decide) h
    have nil:∀{w6:World} {b6:Nat},Blk w6 b6 [] zl→OwnG w6 (.slice (some ⟨b6,0,none⟩) 0 0) []:=fun h=>Blk.ownk (css:=[]) (by rw[Xa];exact h) (fun x hx=>by cases hx) rfl (by omega)
    refine⟨?_,?_⟩
    ·refine qt jj YK fun b6 w6 hb6 he6 hz6 hB6=>?_
     have hB16:=hB15.ext he6
     have hB26:=hB25.ext he6
     simp(disch:=first|(simp only[push_cast];done)|omega) only[push_cast,hB16.ld1,hla _ hB26,true_and,and_true,and_self]
     refine⟨?_,?_⟩
     ·refine vappend (bs:=24) qF (by decide) (nil hB6) (Sl.ext hg (e5.trans he6)) (gone gs) (by omega) (by rw[List.length_map];simp;omega) (by rw[List.length_map];simp;omega) fun v7 w7 ho7 hs7 hn7=>?_
      have s7:=hs7.size
      have hB27:=hB26.same hs7 fun e=>by have e:b6=b2:=Option.some.inj e;omega
      simp(disch:=first|(simp only[push_cast];done)|omega) only[push_cast,hla _ hB27,true_and,and_true,and_self]
      refine mk w7 _ fun b8 w8 hb8 he8 hz8 hB8=>?_
      have n7:∀b,v7.ownBlock=some b→w5.heap.size≤b:=fun b hb=>(hn7 b hb).elim (fun e=>by have e:b6=b:=Option.some.inj e;omega) fun h=>by omega
      refine Own.app1k (bs:=24) (Own.ext ho7 he8) qF (by decide) hB8 rfl (gone [g] _ (by simp)) (by simp;omega) (by simp;omega) fun v9 w9 ho9 hs9 hn9=>?_
      try simp(disch:=first|(simp only[push_cast];done)|omega) only[push_cast,true_and,and_true,and_self]
      have s8:=he8.size
      refine fin w9 v9 (Same.thn (((Same.of_ext he6).trans (hs7.mono (S':=fun b=>w5.heap.size≤b) fun b _ e=>by have e:b6=b:=Option.some.inj e;omega)).trans (Same.of_ext he8)) (hs9.mono (S':=fun b=>w5.heap.size≤b) fun b _ e=>n7 b e) fun b hb=> .inl hb) (by unfold OwnG;rw[List.map_append];exact ho9) fun b hb=>(hn9 b hb).elim (n7 b) fun h=>by omega
     ·refine mk w6 _ fun b7 w7 hb7 he7 hz7 hB7=>?_
      have hB17:=hB16.ext he7
      simp(disch:=first|(simp only[push_cast];done)|omega) only[push_cast,hB17.ld1,true_and,and_true,and_self]
      refine gates_app (Sl.ext hg ((e5.trans he6).trans he7)) hB7 (by omega) (nil (hB6.ext he7)) (fun b e=>by have e:b6=b:=Option.some.inj e;omega) fun w8 v8 ho8 hs8 hn8=>?_
      try simp(disch:=first|(simp only[push_cast];done)|omega) only[push_cast,true_and,and_true,and_self]
      refine fin w8 v8 (((Same.of_ext (he6.trans he7))).trans (hs8.mono (S':=fun b=>w5.heap.size≤b) fun b _ e=>e.elim (fun e=>by have e:b6=b:=Option.some.inj e;omega) fun h=>by omega)) ho8 fun b hb=>(hn8 b hb).elim (fun e=>by have e:b6=b:=Option.some.inj e;omega) fun h=>by omega
    ·refine mk w5 _ fun b7 w7 hb7 he7 hz7 hB7=>?_
     have hB17:=hB15.ext he7
     simp(disch:=first|(simp only[push_cast];done)|omega) only[push_cast,hB17.ld1,true_and,and_true,and_self]
     refine qt jj YK fun b6 w6 hb6 he6 hz6 hB6=>?_
     have hB16:=hB17.ext he6
     simp(disch:=first|(simp only[push_cast];done)|omega) only[push_cast,hB16.ld1,true_and,and_true,and_self]
     refine gates_app (Sl.ext hg ((e5.trans he7).trans he6)) (hB7.ext he6) (by omega) (nil hB6) (fun b e=>by have e:b6=b:=Option.some.inj e;omega) fun w8 v8 ho8 hs8 hn8=>?_
     try simp(disch:=first|(simp only[push_cast];done)|omega) only[push_cast,true_and,and_true,and_self]
     refine fin w8 v8 (((Same.of_ext (he7.trans he6))).trans (hs8.mono (S':=fun b=>w5.heap.size≤b) fun b _ e=>e.elim (fun e=>by have e:b6=b:=Option.some.inj e;omega) fun h=>by omega)) ho8 fun b hb=>(hn8 b hb).elim (fun e=>by have e:b6=b:=Option.some.inj e;omega) fun h=>by omega
   rintro _ _ w5 ⟨rfl,e5,v',hB15,hB35,ho5,hn5⟩
   refine zr fun w6 he6 _=>?_
   have hB16:=hB15.ext he6
   have ho6:=Own.ext ho5 he6
   have hB36:=hB35.ext he6
   have hl6:∀(w':World) (K:Value→World→Prop),vbi PP .len [zk] zd [v'] w' K=K (.int .i64 ((gs.length+1:Nat):Int)) w':=fun w' K=>by
    rw[Sl.len (Own.sl ho5) xO,List.length_map,List.length_append];rfl
   obtain⟨o,c',hvo,_⟩:=(Own.sl ho5).shape
   simp(disch:=first|(simp only[push_cast];done)|omega) only[push_cast,hB16.ld0,hB16.ld1,hl6,hB16.ldAgg (t:=zf) y8,true_and,zF]
   subst hvo
   refine hB36.stAgg (cs':=[.int .i64 n,.slice o (List.map yi (gs++[g])).length c']) rfl y8 net_one fun w7 hs7 hz7 hB7=>?_
   have hB17:=hB16.same hs7 (show¬b1=b3 by omega)
   simp(disch:=first|(simp only[push_cast];done)|omega) only[push_cast,hB17.ld0,hB17.ld1,hl6,true_and,and_self,zF]
   rw[hB7.lv (t:=zf) y8]
   have e7:Ext w w7:=Ext.then (e5.trans he6) hs7 fun b hb=>by omega
   have hpos:(2+(n:Int)+gs.length)≠0:=by omega
   have hK':=hK w7 n (.slice o (List.map yi (gs++[g])).length c') e7 (by rw[if_neg hpos];exact Sl.weaken (Own.sl (Own.same ho6 hs7 fun b hb e=>(hn5 b hb).2.2 e)) fun b hb _ hd=>by have:=hD b hd;have:=(hn5 b hb).1;omega) (by rw[if_neg hpos]) fun h=>absurd h hpos
   rwa[show(2+(n:Int)+gs.length)=1+n+((gs.length+1:Nat):Int) by omega] at hK'
end Go.Proofs.YtaekfnbnhjgboaaGreatDoor
end
