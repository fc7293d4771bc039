import Derived.Test.YtaekfnbnhjgboaaGreatDoorWuaP2
import Derived.WalkKit
import Derived.ProofKit
import Derived.OpenShut
import Derived.ShutString
import Derived.ChangeOld
import Derived.Below
import Derived.JoinedOf
import Derived.Test.YtaekfnbnhjgboaaGreatDoorWuaP5
import Derived.Test.YtaekfnbnhjgboaaGreatDoorWuaP6
import Derived.Test.YtaekfnbnhjgboaaGreatDoorWuaP8
import Derived.Deep.Slices
import Derived.LaidEql
import Derived.Stop.Asserts
/- A part of the proof. -/
set_option linter.unusedVariables false
set_option linter.unusedSimpArgs false
set_option linter.unnecessarySimpa false
set_option linter.unusedSectionVars false
section
namespace Go.Proofs.YtaekfnbnhjgboaaGreatDoor
open Go Go.Vc Go.Proofs
open Go.ChangeShapes Go.WideShapes Go.ChangeAt Go.RowKit
theorem kV0:ownKnob PP.godebug=none:=by kernel_rfl
theorem Ji:laidOutB PP=true:=by kernel_rfl
def restFacts (P:Program) (f:FuncId) (fn:Func) (s:ChangeSpec) (c:OpenClaim):Bool:=
 c.wf (OpenSpec.ofChange s)&&
 fn.params.all (P.readableRec ·)&&namedTie P c.named s.vars&&
 (c.stops==[])&&(P.stops==[])&&(c.knobs==[])&&(P.stopKnobs==[])&&
 (c.maps==(fn.params.toList++s.plain.varTypes P).any (P.mapsRec ·))&&(c.ifaces==(fn.params.toList++s.plain.varTypes P).any (P.ifacesRec ·))&&(c.mapsOut==P.mapsAmong fn.resultTypes.toList)&&
 (c.loops==(fn.params.toList++s.plain.varTypes P).any (P.loopsFrom ·))&&(c.wideKeys==(fn.params.toList++s.plain.varTypes P++fn.resultTypes.toList).any (P.wideKeysFrom ·))&&
 s.vars.all (P.varReadable ·)&&fn.resultTypes.all (fun t=>P.readableRec t&&decide (t<P.types.size))&&(c.ifacesOut==fn.resultTypes.toList.any (P.ifacesRec ·))&&(c.loopsOut==fn.resultTypes.toList.any (P.loopsFrom ·))&&(c.plainKeys==P.plainKeys)&&c.shortTexts.isNone&&P.stopsHeard&&P.mayEnter&&(c.lifted==P.liftsFinal)&&(P.make==some c.make)&&(c.kinds==(if c.domain.isEmpty then[] else fn.params.toList.map fun t=>match P.underlying t with|some (.int k)=>some k|_=>none))&&(c.pinned==c.pinnedBy)&&
 (c.veiled==(fn.params.toList++s.plain.varTypes P++fn.resultTypes.toList).any (P.veiledRec ·))&&c.veiledFits P fn.params.toList (fn.params.toList++s.plain.varTypes P++fn.resultTypes.toList)
theorem qW0 {P:Program} {f:FuncId} {fn:Func} {s:ChangeSpec} {c:OpenClaim} (h1:laidOutB P=true) (h2:mapsRowed P=true) (h3:(c.inPlace==P.inPlace f)=true) (h4:(c.unfollowed==P.unfollowed f)=true)
  (h5:(c.recurses==P.recurses f)=true) (h6:(c.named==P.varsNamed f)=true) (h7:restFacts P f fn s c=true):joinedFacts P f fn s c=true:=by
 unfold restFacts at h7
 unfold joinedFacts
 rw[h1,h2,h3,h4,h5,h6]
 simp only[Bool.and_true]
 exact h7
theorem jT0:mapsRowed PP=true:=by kernel_rfl
theorem j70 {w w':World} (h:Ext w w'):Below w.heap.size w w':=⟨h.os,h.tape,h.output,h.size,fun k hk=>h.block k hk id⟩
theorem u8_wf {n:Int} (h:(Lit.int .u8 n).wf=true):0≤n∧n<256:=by
 simp only[Lit.wf,Bool.and_eq_true,decide_eq_true_eq] at h
 have h1:IntKind.u8.min=0:=by decide
 have h2:IntKind.u8.max=255:=by decide
 omega
def xO0 (w:World) (v:Value) (xs:List Nat):Prop:=Vals (fun _=>True) w v (xs.map fun x=>Value.int .u8 (x:Nat))∧∀x,x∈xs→x<256
theorem jd0 (w:World):xO0 w (.slice none 0 0) []:=⟨⟨⟨none,0,rfl,by simp,by simp,fun h=>absurd rfl h⟩,by simp⟩,by simp⟩
theorem bytes_of {w:World} {x:Addr} {len cap:Nat} {zs:List Int} (hl:len≤cap) (hm:cap≤maxLen) (hz:zs.length=cap) (hcell:∀i,i<zs.length→w.cell? (x.add i)=some (.int .u8 (zs.getD i 0))) (hwz:∀n,n∈zs→(Lit.int .u8 n).wf=true):
  xO0 w (.slice (some x) len cap) ((zs.take len).map Int.toNat):=by
 have hmem:∀n,n∈zs.take len→0≤n∧n<256:=fun n hn=>u8_wf (hwz n (List.mem_of_mem_take hn))
 refine⟨⟨⟨some x,cap,?_,?_,by unfold maxLen at hm;exact hm,fun hne=>?_⟩,fun y hy=>by obtain⟨u,_,rfl⟩:=List.mem_map.1 hy;rfl⟩,fun y hy=>?_⟩
 ·simp only[List.length_map,List.length_take];rw[Nat.min_eq_left (by omega)]
 ·simp only[List.length_map,List.length_take];omega
 ·have hlen:0<len:=by
   refine Nat.pos_of_ne_zero fun e=>hne ?_
   subst e;simp
  obtain⟨b,off,spot⟩:=x
  have hc0:=hcell 0 (by omega)
  have hspot:spot=none:=by simpa[Addr.add] using World.cell?_spot hc0
  subst hspot
  refine⟨b,off,rfl,trivial,World.block_lt_of_cell? w _ hc0,fun i hi=>?_⟩
  simp only[List.length_map,List.length_take] at hi
  intro j v hv
  have hit:i<(zs.take len).length:=by simp only[List.length_take];omega
  have hg:((((zs.take len).map Int.toNat).map fun x=>Value.int .u8 (x:Nat)).map fun x=>[x]).getD i []=[Value.int .u8 (((zs.take len)[i].toNat:Nat):Int)]:=by
   simp[List.getD_eq_getElem?_getD,hi]
  rw[hg] at hv
  have hj:j=0:=by
   cases j with
   |zero=>rfl
   |succ j=>simp at hv
  subst hj
  simp only[List.getElem?_cons_zero,Option.some.injEq] at hv
  subst hv
  have hi2:i<zs.length:=by omega
  have hc:=hcell i hi2
  have hmi:=hmem _ (List.getElem_mem hit)
  have e1:zs.getD i 0=(zs.take len)[i]:=by simp[List.getD_eq_getElem?_getD,hi2]
  rw[e1,x7] at hc
  rw[Int.toNat_of_nonneg hmi.1,x7,Nat.add_zero,Nat.mul_one]
  exact hc
 ·obtain⟨n,hn,rfl⟩:=List.mem_map.1 hy
  have:=hmem n hn
  omega
end Go.Proofs.YtaekfnbnhjgboaaGreatDoor
end
section
namespace Go.M
def vecL (w n:Nat):List UInt8:=35::(List.range w).reverse.map fun i=>if n/2^i%2=1 then 49 else 48
def digL (n:Int):List UInt8:=[UInt8.ofNat (48+n.toNat)]
def textF (t:Tm) (xs:List (List UInt8)):List UInt8:=
 if t.op=20 then vecL t.a.toNat t.b.toNat else if t.op=21 then t.s.data.toList else if t.op=24 then[116,114,117,101]
 else 40::(wordL t.op++((if t.op=22 then 32::(digL t.a++32::digL t.b) else[])++(xs.flatMap (fun x=>32::x)++[41])))
def textL:Tm→List UInt8:=Tm.fold textF
theorem textL_eq (t:Tm):textL t=textF t (t.ks.map textL):=Tm.fold_eq _ t
def Stop (r:List UInt8):Prop:=∀c,r.head?=some c→c=32∨c=41
def jC0 (a:List UInt8):Prop:=∀c,c∈a→c≠32∧c≠41
theorem atom_cancel:∀{a b r s:List UInt8},jC0 a→jC0 b→Stop r→Stop s→a++r=b++s→a=b∧r=s
 |[],[],r,s,_,_,_,_,h=>⟨rfl,h⟩
 |[],y::b,r,s,_,hb,hr,_,h=>by
  have h1:r=y::(b++s):=h
  have h2:=hb y List.mem_cons_self
  rcases hr y (by rw[h1];rfl) with e|e
  ·exact absurd e h2.1
  ·exact absurd e h2.2
 |x::a,[],r,s,ha,_,_,hs,h=>by
  have h1:s=x::(a++r):=h.symm
  have h2:=ha x List.mem_cons_self
  rcases hs x (by rw[h1];rfl) with e|e
  ·exact absurd e h2.1
  ·exact absurd e h2.2
 |x::a,y::b,r,s,ha,hb,hr,hs,h=>by
  have h1:x::(a++r)=y::(b++s):=h
  simp only[List.cons.injEq] at h1
  obtain⟨rfl,h1⟩:=h1
  obtain⟨rfl,e⟩:=atom_cancel (fun c hc=>ha c (List.mem_cons_of_mem _ hc)) (fun c hc=>hb c (List.mem_cons_of_mem _ hc)) hr hs h1
  exact⟨rfl,e⟩
theorem k6 {c:UInt8} {r:List UInt8} (h:c=32∨c=41):Stop (c::r):=fun d hd=>by
 have:d=c:=by simpa using hd.symm
 subst this;exact h
theorem word_free:∀o:Fin 28,jC0 (wordL o):=by unfold jC0;decide+kernel
theorem word_inj:∀o p:Fin 28,wordL o=wordL p→wordL o≠[]→o=p:=by decide+kernel
theorem word_ne:∀o:Fin 28,1≤o.1→(o.1≤17∨o.1=22∨o.1=23∨25≤o.1)→wordL o≠[]:=by decide+kernel
theorem vec_inj:∀w:Fin 5,∀a:Fin 16,∀v:Fin 5,∀b:Fin 16,a.1<2^w.1→b.1<2^v.1→vecL w a=vecL v b→w=v∧a=b:=by decide+kernel
theorem jL0 (w n:Nat):jC0 (vecL w n):=fun c hc=>by
 unfold vecL at hc
 rcases List.mem_cons.1 hc with rfl|hc
 ·decide
 ·obtain⟨i,_,rfl⟩:=List.mem_map.1 hc
  split<;>decide
theorem dig_inj:∀a b:Fin 4,digL a=digL b→a=b:=by decide+kernel
theorem dig_free:∀a:Fin 4,jC0 (digL a):=by unfold jC0;decide+kernel
section
variable {ds:List Dcl} {t u:Tm}
theorem name_ok (hd:declOk ds=true) (hs:sortM ds t≠ -1) (ho:t.op=21):t.s.data.toList≠[]∧t.s≠tru∧∀c,c∈t.s.data.toList→97≤c.toNat∧c.toNat≤122:=by
 have hf:=name_found hs ho
 have hj:(findD ds t.s).toNat<ds.length:=by have:=(findD_lt ds t.s).2;omega
 have hg:=findD_get hf
 have hok:=(decl_iff.1 hd).2.1 _ hj
 unfold dclOk at hok
 rw[hg] at hok
 simp only[Bool.and_eq_true,decide_eq_true_eq,nameOk] at hok
 obtain⟨⟨⟨⟨⟨⟨h1,h2⟩,h3⟩,h4⟩,_⟩,_⟩,_⟩:=hok
 refine⟨fun e=>?_,h3,fun c hc=>?_⟩
 ·have:t.s.size=0:=by show t.s.data.size=0;rw[←Array.length_toList,e];rfl
  omega
 ·have:=Array.all_eq_true'.1 h4 c (Array.mem_toList_iff.1 hc)
  simpa using this
theorem right_op (hs:sortM ds t≠ -1):arity t.op=t.ks.length∧plainM t=true∧((1≤t.op∧t.op≤17)∨(20≤t.op∧t.op≤27)):=by
 obtain⟨hf,_,_⟩:=sort_parts hs
 obtain⟨h1,h2⟩:=formed_iff.1 hf
 exact⟨h1,h2,arity_ops (by omega)⟩
theorem Va {o:Int} (h:o=20∨o=21∨o=24):arity o=0:=by unfold arity;rw[if_pos h]
theorem node_arity {o:Int} (h:(1≤o∧o≤17)∨(20≤o∧o≤27)) (hn: ¬(o=20∨o=21∨o=24)):1≤arity o:=by
 unfold arity;rw[if_neg hn];repeat' split
 all_goals omega
theorem vec_ok (hs:sortM ds t≠ -1) (ho:t.op=20):vok t.a t.b=true:=by
 have h:=(sort_parts hs).2.2
 rw[h] at hs
 unfold sortK at hs
 rw[if_pos ho] at hs
 split at hs
 ·assumption
 ·exact absurd rfl hs
theorem cut_ab (hd:declOk ds=true) (hs:sortM ds t≠ -1) (ho:t.op=22):0≤t.b∧t.b≤t.a∧t.a<4:=by
 have h:=(sort_parts hs).2.2
 have hr:(t.ks.map (sortM ds)).getD 0 0≤4:=by
  by_cases hi:0<t.ks.length
  ·rw[getD_map _ hi 0 default];exact(sort_range hd _).2
  ·rw[List.getD_eq_getElem?_getD,List.getElem?_eq_none (by simpa using hi)];simp
 rw[h] at hs
 unfold sortK at hs
 rw[if_neg (by omega),if_neg (by omega),if_neg (by omega),if_neg (by omega),if_pos ho] at hs
 split at hs
 ·next h=>omega
 ·exact absurd rfl hs
theorem atom_text (hd:declOk ds=true) (hs:sortM ds t≠ -1) (ho:t.op=20∨t.op=21∨t.op=24):textL t=textF t []∧jC0 (textL t)∧textL t≠[]∧∀c,(textL t).head?=some c→c≠40:=by
 have hk:t.ks=[]:=List.eq_nil_of_length_eq_zero (by have:=(right_op hs).1;rw[Va ho] at this;omega)
 have e:textL t=textF t []:=by rw[textL_eq,hk];rfl
 refine⟨e,?_⟩
 rw[e]
 unfold textF
 rcases ho with o|o|o
 ·rw[if_pos o]
  exact⟨jL0 _ _,by simp[vecL],fun c hc=>by
   have:c=35:=by simpa[vecL] using hc.symm
   subst this;decide⟩
 ·rw[if_neg (by omega),if_pos o]
  obtain⟨h1,h2,h3⟩:=name_ok hd hs o
  refine⟨fun c hc=>?_,h1,fun c hc=>?_⟩
  ·have:=h3 c hc
   exact⟨fun e=>by subst e;exact absurd this.1 (by decide),fun e=>by subst e;exact absurd this.1 (by decide)⟩
  ·have:=h3 c (List.mem_of_mem_head? hc)
   intro e;subst e;exact absurd this.1 (by decide)
 ·rw[if_neg (by omega),if_neg (by omega),if_pos o]
  exact⟨by unfold jC0;decide,by decide,fun c hc=>by
   have:c=116:=by simpa using hc.symm
   subst this;decide⟩
theorem zp0 {t u:Tm} (h1:t.op=u.op) (h2:t.a=u.a) (h3:t.b=u.b) (h4:t.s=u.s) (h5:t.ks=u.ks):t=u:=by
 cases t;cases u
 simp only[Tm.op,Tm.a,Tm.b,Tm.s,Tm.ks] at h1 h2 h3 h4 h5
 subst h1;subst h2;subst h3;subst h4;subst h5;rfl
theorem Qa (h:plainM t=true) (ho:t.op≠20∧t.op≠22):t.a=0∧t.b=0:=by
 simp only[plainM,Bool.and_eq_true,Bool.or_eq_true,decide_eq_true_eq] at h
 rcases h.1 with(h|h)|h
 ·exact absurd h ho.1
 ·exact absurd h ho.2
 ·exact h
theorem V9 (h:plainM t=true) (ho:t.op≠21):t.s=nada:=by
 simp only[plainM,Bool.and_eq_true,Bool.or_eq_true,decide_eq_true_eq] at h
 exact h.2.resolve_left ho
theorem atom_inj (hd:declOk ds=true) (hs:sortM ds t≠ -1) (hu:sortM ds u≠ -1) (ho:t.op=20∨t.op=21∨t.op=24) (hp:u.op=20∨u.op=21∨u.op=24) (h:textL t=textL u):t=u:=by
 have hk:t.ks=[]:=List.eq_nil_of_length_eq_zero (by have:=(right_op hs).1;rw[Va ho] at this;omega)
 have hk':u.ks=[]:=List.eq_nil_of_length_eq_zero (by have:=(right_op hu).1;rw[Va hp] at this;omega)
 have hpl:=(right_op hs).2.1
 have hpl':=(right_op hu).2.1
 rw[(atom_text hd hs ho).1,(atom_text hd hu hp).1] at h
 unfold textF at h
 have letter:∀{v:Tm},sortM ds v≠ -1→v.op=21→∀c r,v.s.data.toList=c::r→97≤c.toNat:=fun{v} hv hov c r e=>((name_ok hd hv hov).2.2 c (by rw[e];exact List.mem_cons_self)).1
 have notrue:∀{v:Tm},sortM ds v≠ -1→v.op=21→v.s.data.toList=[116,114,117,101]→False:=fun{v} hv hov e=>(name_ok hd hv hov).2.1 (by
  have:v.s.data= #[116,114,117,101]:=Array.toList_inj.1 e
  show v.s=tru
  have e2:v.s=⟨v.s.data⟩:=rfl
  rw[e2,this];rfl)
 rcases ho with o|o|o<;>rcases hp with p|p|p
 ·rw[if_pos o,if_pos p] at h
  have v1:=vok_lt (vec_ok hs o)
  have v2:=vok_lt (vec_ok hu p)
  have w1:=vok_iff.1 (vec_ok hs o)
  have w2:=vok_iff.1 (vec_ok hu p)
  have e1:((2^t.a.toNat:Nat):Int)=2^t.a.toNat:=by simp
  have e2:((2^u.a.toNat:Nat):Int)=2^u.a.toNat:=by simp
  have:=vec_inj ⟨t.a.toNat,by omega⟩ ⟨t.b.toNat,by omega⟩ ⟨u.a.toNat,by omega⟩ ⟨u.b.toNat,by omega⟩ (by show t.b.toNat<2^t.a.toNat;omega) (by show u.b.toNat<2^u.a.toNat;omega) h
  simp only[Fin.mk.injEq] at this
  exact zp0 (by omega) (by omega) (by omega) (by rw[V9 hpl (by omega),V9 hpl' (by omega)]) (by rw[hk,hk'])
 ·rw[if_pos o,if_neg (by omega),if_pos p] at h
  exact absurd (letter hu p 35 _ h.symm) (by decide)
 ·rw[if_pos o,if_neg (by omega),if_neg (by omega),if_pos p] at h
  simp[vecL] at h
 ·rw[if_neg (by omega),if_pos o,if_pos p] at h
  exact absurd (letter hs o 35 _ h) (by decide)
 ·rw[if_neg (by omega),if_pos o,if_neg (by omega),if_pos p] at h
  obtain⟨a1,b1⟩:=Qa hpl (by omega)
  obtain⟨a2,b2⟩:=Qa hpl' (by omega)
  refine zp0 (by omega) (by omega) (by omega) ?_ (by rw[hk,hk'])
  have:=Array.toList_inj.1 h
  have e1:t.s=⟨t.s.data⟩:=rfl
  have e2:u.s=⟨u.s.data⟩:=rfl
  rw[e1,e2,this]
 ·rw[if_neg (by omega),if_pos o,if_neg (by omega),if_neg (by omega),if_pos p] at h
  exact(notrue hs o h).elim
 ·rw[if_neg (by omega),if_neg (by omega),if_pos o,if_pos p] at h
  simp[vecL] at h
 ·rw[if_neg (by omega),if_neg (by omega),if_pos o,if_neg (by omega),if_pos p] at h
  exact(notrue hu p h.symm).elim
 ·obtain⟨a1,b1⟩:=Qa hpl (by omega)
  obtain⟨a2,b2⟩:=Qa hpl' (by omega)
  exact zp0 (by omega) (by omega) (by omega) (by rw[V9 hpl (by omega),V9 hpl' (by omega)]) (by rw[hk,hk'])
theorem kids_inj:∀{ks us:List Tm} {r s:List UInt8},ks.length=us.length→(∀k,k∈ks→∀u,u∈us→∀r s,Stop r→Stop s→textL k++r=textL u++s→k=u∧r=s)→
  (ks.map textL).flatMap (fun x=>32::x)++41::r=(us.map textL).flatMap (fun x=>32::x)++41::s→ks=us∧r=s
 |[],[],r,s,_,_,h=>by
  have:(41:UInt8)::r=41::s:=h
  simp only[List.cons.injEq,true_and] at this
  exact⟨rfl,this⟩
 |[],_::_,_,_,hl,_,_=>by simp at hl
 |_::_,[],_,_,hl,_,_=>by simp at hl
 |k::ks,u::us,r,s,hl,ih,h=>by
  simp only[List.map_cons,List.flatMap_cons,List.cons_append,List.append_assoc,List.cons.injEq,true_and] at h
  have st:∀(l:List Tm) (r:List UInt8),Stop ((l.map textL).flatMap (fun x=>32::x)++41::r):=fun l r=>by
   cases l with
   |nil=>exact k6 (.inr rfl)
   |cons a l=>exact k6 (.inl rfl)
  obtain⟨he,h⟩:=ih k List.mem_cons_self u List.mem_cons_self _ _ (st _ _) (st _ _) h
  obtain⟨rfl,e⟩:=kids_inj (by simpa using hl) (fun k hk u hu=>ih k (List.mem_cons_of_mem _ hk) u (List.mem_cons_of_mem _ hu)) h
  subst he
  exact⟨rfl,e⟩
theorem text_inj' (hd:declOk ds=true):∀t:Tm,sortM ds t≠ -1→∀u:Tm,sortM ds u≠ -1→∀r s,Stop r→Stop s→textL t++r=textL u++s→t=u∧r=s:=by
 refine Tm.ind fun t ih hs u hu r s hr hst h=>?_
 obtain⟨ar,pl,op⟩:=right_op hs
 obtain⟨ar',pl',op'⟩:=right_op hu
 have comp:∀{v:Tm},¬(v.op=20∨v.op=21∨v.op=24)→textL v=40::(wordL v.op++((if v.op=22 then 32::(digL v.a++32::digL v.b) else[])++((v.ks.map textL).flatMap (fun x=>32::x)++[41]))):=fun{v} hv=>by
  rw[textL_eq];unfold textF;rw[if_neg (fun e=>hv (.inl e)),if_neg (fun e=>hv (.inr (.inl e))),if_neg (fun e=>hv (.inr (.inr e)))]
 by_cases lt:t.op=20∨t.op=21∨t.op=24
 ·obtain⟨_,f1,f2,f3⟩:=atom_text hd hs lt
  by_cases lu:u.op=20∨u.op=21∨u.op=24
  ·obtain⟨_,g1,g2,g3⟩:=atom_text hd hu lu
   obtain⟨e,e'⟩:=atom_cancel f1 g1 hr hst h
   exact⟨atom_inj hd hs hu lt lu e,e'⟩
  ·exfalso
   rw[comp lu] at h
   match hq:textL t,f2 with
   |c::q,_=>
    rw[hq] at h
    simp only[List.cons_append,List.cons.injEq] at h
    exact f3 c (by rw[hq];rfl) h.1
 ·by_cases lu:u.op=20∨u.op=21∨u.op=24
  ·exfalso
   obtain⟨_,g1,g2,g3⟩:=atom_text hd hu lu
   rw[comp lt] at h
   match hq:textL u,g2 with
   |c::q,_=>
    rw[hq] at h
    simp only[List.cons_append,List.cons.injEq] at h
    exact g3 c (by rw[hq];rfl) h.1.symm
  ·rw[comp lt,comp lu] at h
   simp only[List.cons_append,List.append_assoc,List.cons.injEq,true_and,List.nil_append] at h
   have na:=node_arity op lt
   have na':=node_arity op' lu
   have kst:∀{l:List Tm} {q:List UInt8},1≤l.length→∃q',(l.map textL).flatMap (fun x=>32::x)++41::q=32::q':=fun{l q} hl=>by
    cases l with
    |nil=>simp at hl
    |cons a l=>exact⟨_,rfl⟩
   have st:∀{v:Tm} {q:List UInt8},1≤v.ks.length→Stop ((if v.op=22 then 32::(digL v.a++32::digL v.b) else[])++((v.ks.map textL).flatMap (fun x=>32::x)++41::q)):=fun{v q} hl=>by
    split
    ·exact k6 (.inl rfl)
    ·obtain⟨q',e⟩:=kst (q:=q) hl
     rw[List.nil_append,e]
     exact k6 (.inl rfl)
   have o1:(((⟨t.op.toNat,by omega⟩:Fin 28):Nat):Int)=t.op:=by show((t.op.toNat:Nat):Int)=_;omega
   have o2:(((⟨u.op.toNat,by omega⟩:Fin 28):Nat):Int)=u.op:=by show((u.op.toNat:Nat):Int)=_;omega
   have wf1:=word_free ⟨t.op.toNat,by omega⟩
   have wf2:=word_free ⟨u.op.toNat,by omega⟩
   rw[o1] at wf1
   rw[o2] at wf2
   obtain⟨hw,h⟩:=atom_cancel wf1 wf2 (st (v:=t) (by omega)) (st (v:=u) (by omega)) h
   have hne:=word_ne ⟨t.op.toNat,by omega⟩ (by show 1≤t.op.toNat;omega) (by show t.op.toNat≤17∨t.op.toNat=22∨t.op.toNat=23∨25≤t.op.toNat;omega)
   have hop:=word_inj ⟨t.op.toNat,by omega⟩ ⟨u.op.toNat,by omega⟩ (by rw[o1,o2];exact hw) hne
   have hop':t.op=u.op:=by
    have:t.op.toNat=u.op.toNat:=congrArg Fin.val hop
    omega
   have hab:t.a=u.a∧t.b=u.b∧(t.ks.map textL).flatMap (fun x=>32::x)++41::r=(u.ks.map textL).flatMap (fun x=>32::x)++41::s:=by
    by_cases c22:t.op=22
    ·rw[if_pos c22,if_pos (by omega)] at h
     simp only[List.cons_append,List.append_assoc,List.cons.injEq,true_and] at h
     have c1:=cut_ab hd hs c22
     have c2:=cut_ab hd hu (by omega)
     have da:∀{x:Int},0≤x→x<4→jC0 (digL x):=fun{x} h0 h4=>by
      have:=dig_free ⟨x.toNat,by omega⟩
      rwa[show(((⟨x.toNat,by omega⟩:Fin 4):Nat):Int)=x by show((x.toNat:Nat):Int)=_;omega] at this
     have di:∀{x y:Int},0≤x→x<4→0≤y→y<4→digL x=digL y→x=y:=fun{x y} h0 h4 h0' h4' he=>by
      have:=dig_inj ⟨x.toNat,by omega⟩ ⟨y.toNat,by omega⟩ (by
       rw[show(((⟨x.toNat,by omega⟩:Fin 4):Nat):Int)=x by show((x.toNat:Nat):Int)=_;omega,show(((⟨y.toNat,by omega⟩:Fin 4):Nat):Int)=y by show((y.toNat:Nat):Int)=_;omega];exact he)
      have:x.toNat=y.toNat:=congrArg Fin.val this
      omega
     obtain⟨e1,h⟩:=atom_cancel (da (by omega) (by omega)) (da (by omega) (by omega)) (k6 (.inl rfl)) (k6 (.inl rfl)) h
     simp only[List.cons.injEq,true_and] at h
     obtain⟨q1,k1⟩:=kst (l:=t.ks) (q:=r) (by omega)
     obtain⟨q2,k2⟩:=kst (l:=u.ks) (q:=s) (by omega)
     obtain⟨e2,h⟩:=atom_cancel (da (by omega) (by omega)) (da (by omega) (by omega)) (by rw[k1];exact k6 (.inl rfl)) (by rw[k2];exact k6 (.inl rfl)) h
     exact⟨di (by omega) (by omega) (by omega) (by omega) e1,di (by omega) (by omega) (by omega) (by omega) e2,h⟩
    ·rw[if_neg c22,if_neg (by omega)] at h
     obtain⟨a1,b1⟩:=Qa pl ⟨fun e=>lt (.inl e),c22⟩
     obtain⟨a2,b2⟩:=Qa pl' ⟨fun e=>lu (.inl e),by omega⟩
     exact⟨by omega,by omega,h⟩
   obtain⟨ha,hb,h⟩:=hab
   obtain⟨hk,e⟩:=kids_inj (by
    have:arity t.op=arity u.op:=by rw[hop']
    omega) (fun k hk v hv=>ih k hk ((sort_parts hs).2.1 k hk) v ((sort_parts hu).2.1 v hv)) h
   exact⟨zp0 hop' ha hb (by rw[V9 pl (fun e=>lt (.inr (.inl e))),V9 pl' (fun e=>lu (.inr (.inl e)))]) hk,e⟩
theorem text_inj (hd:declOk ds=true) (hs:sortM ds t≠ -1) (hu:sortM ds u≠ -1) (h:textL t=textL u):t=u:=
 (text_inj' hd t hs u hu [] [] (fun c hc=>by cases hc) (fun c hc=>by cases hc) (by rw[List.append_nil,List.append_nil];exact h)).1
end
end Go.M
end
section
namespace Go.Proofs.YtaekfnbnhjgboaaGreatDoor
open Go Go.Vc Go.Proofs
variable {w:World} {K:Value→World→Prop} {F F' Fx Fy X Q:Nat→Prop} {n bc mb bb:Nat} {gs:M.Gs} {v:Value} {ar ab:Addr} {st:Option M.Gs}
theorem dcl_small {ds:List M.Dcl} (hok:M.declOk ds=true) {i:Nat} (hi:i≤ds.length):0≤M.bitT ds i∧M.bitT ds i≤16:=by
 have h4:=(M.decl_iff.1 hok).1
 induction i with
 |zero=>exact⟨Int.le_refl _,show(0:Int)≤16 by decide⟩
 |succ i ih=>
  have:=ih (by omega)
  have hw:=M.dcl_wide hok (i:=i) (by omega)
  rw[M.bitT_succ (by omega)]
  have key:M.bitT ds i≤4*(i:Int):=by
   clear ih this
   induction i with
   |zero=>exact Int.le_refl _
   |succ j ihj=>
    have hw:=M.dcl_wide hok (i:=j) (by omega)
    have:=ihj (by omega) (M.dcl_wide hok (by omega))
    rw[M.bitT_succ (by omega)];omega
  omega
theorem bitsOf_spec {dv:Value} {ds:List M.Dcl} (hd:DclsR Fx w dv ds) (hok:M.declOk ds=true) (hK:∀w',Ext w w'→K (.int .i64 (M.bits ds)) w'):vcall PP YL #[dv] w K:=by
 apply yb0;unfold KW
 simp(disch:=(simp only[push_cast];done)) only[push_cast,hd.len]
 have h4:=(M.decl_iff.1 hok).1
 refine vloop_up ds.length (fun i u w'=>u=[.int .i64 (M.bitT ds i),.int .i64 i]∧Ext w w') ⟨rfl,Same.refl _ _⟩ ?_
 rintro i _ _ w2 C hi ⟨rfl,he2⟩ hC
 have hd2:=hd.ext he2
 simp only[push_cast]
 refine zg (fun a=>?_) (fun a=>?_)
 ·have hi':i<ds.length:=by omega
  simp(disch:=first|(simp only[push_cast];done)|omega) only[push_cast,hd2.iaddr,hd2.load]
  refine zD xU fun b1 w3 hb3 he3 hs3 h3=>?_
  refine stDecl h3 fun w4 hw4 _ h4=>?_
  have he4:Ext w2 w4:=Ext.then he3 hw4 fun y hy=>by subst hy;omega
  have hs1:=dcl_small hok hi
  have hs2:=dcl_small hok (i:=i+1) hi'
  rw[M.bitT_succ hi'] at hs2
  simp(disch:=first|(simp only[push_cast];done)|omega) only[push_cast,h4.ld1,zA]
  refine hC hi' _ _ ⟨?_,he2.trans he4⟩
  rw[M.bitT_succ hi']
  simp
 ·have:i=ds.length:=by omega
  subst this
  rw[M.bitT_all]
  exact hK w2 he2
theorem nameB_take {ds:List M.Dcl} {k j:Nat} {wd top:Int} (hj:(j:Int)<wd) (hw:wd=(ds.getD k (M.nada,0)).2) (ht:top=2+M.bits (ds.take k)):(M.nameB ds k).take (j+1)=(M.nameB ds k).take j++[top+(wd-1-j)]:=by
 have hl:j<(M.nameB ds k).length:=by rw[M.nameB_len];omega
 rw[M.take_add hl 0]
 congr 1
 unfold M.nameB
 rw[List.getD_eq_getElem?_getD,List.getElem?_map,List.getElem?_range (by omega)]
 show[2+M.bits (ds.take k)+(ds.getD k (M.nada,0)).2-1-(j:Int)]=[top+(wd-1-(j:Int))]
 rw[ht,hw]
 congr 1
 omega
theorem inputs_spec {bl:Nat} {r:List Value} {dv:Value} {ds:List M.Dcl} {s:ByteArray} {x0:Value} (hB:Blk w bl (x0::dv::r) zL) (hd:DclsR Fx w dv ds) (hok:M.declOk ds=true) (hs:0≤M.findD ds s)
  (hK:∀w' r,Ext w w'→OwnI PP za w' r (M.nameB ds (M.findD ds s).toNat)→(∀b,r.ownBlock=some b→w.heap.size≤b)→K r w'):vcall PP qB #[.pointer (some ⟨bl,0,none⟩),.string s] w K:=by
 apply XS;unfold km
 simp(disch:=(simp only[push_cast];done)) only[push_cast,hB.ld1,hd.len]
 have h4:=(M.decl_iff.1 hok).1
 have hlt:=M.findD_lt ds s
 refine vloop_up ds.length (fun i u w'=>u=[.int .i64 (2+M.bitT ds i),.int .i64 i]∧Ext w w'∧i≤(M.findD ds s).toNat) ⟨rfl,Same.refl _ _,Nat.zero_le _⟩ ?_
 rintro i _ _ w2 C hi ⟨rfl,he2,hif⟩ hC
 have hd2:=hd.ext he2
 simp only[push_cast]
 have hi':i<ds.length:=by omega
 refine zg (fun a=>?_) (fun a=>by omega)
 simp(disch:=first|(simp only[push_cast];done)|omega) only[push_cast,hd2.iaddr,hd2.load]
 refine zD xU fun b1 w3 hb3 he3 hs3 h3=>?_
 refine stDecl h3 fun w4 hw4 _ h4'=>?_
 have he4:Ext w2 w4:=Ext.then he3 hw4 fun y hy=>by subst hy;omega
 have hs1:=dcl_small hok hi
 have hs2:=dcl_small hok (i:=i+1) hi'
 rw[M.bitT_succ hi'] at hs2
 have hw4':=M.dcl_wide hok hi'
 simp(disch:=first|(simp only[push_cast];done)|omega) only[push_cast,h4'.ld0,h4'.ld1,zA]
 refine zg (fun e=>?_) (fun e=>?_)
 ·have hik:i=(M.findD ds s).toNat:=by
   by_cases c:i=(M.findD ds s).toNat
   ·exact c
   ·have h1:=M.dcl_apart hok (i:=(M.findD ds s).toNat) (j:=i) (by omega) (by omega)
    exact absurd (e.trans (M.findD_get hs).symm) h1
  rw[←hik] at hK
  have hbt:M.bitT ds i=M.bits (ds.take i):=rfl
  generalize hW:(ds.getD i (M.nada,0)).2=wd at*
  refine Q5 (fun m u w'=> ∃j r,u=[r,.int .i64 ((m:Int)-1)]∧(m:Int)+(j:Nat)=wd∧Ext w w'∧OwnI PP za w' r ((M.nameB ds i).take j)∧∀b,r.ownBlock=some b→w.heap.size≤b) wd.toNat
   ⟨0,_,by rw[show((wd.toNat:Nat):Int)=wd by omega],by omega,he2.trans he4,OwnI.nil,fun b hb=>by cases hb⟩ ?_
  rintro m _ _ w5 C5 ⟨j,r,rfl,hmj,he5,ho5,hn5⟩ hC5
  simp only[push_cast]
  refine zg (fun hge=>?_) (fun hlt2=>?_)
  ·simp(disch:=omega) only[push_cast,zA]
   refine ya yN yg yu rfl rfl fun b6 w6 hb6 he6 hz6 hB6=>?_
   have he56:=he5.trans he6
   have hz:=he56.size
   have hle:((M.nameB ds i).take j).length≤16:=by rw[List.length_take,M.nameB_len];omega
   refine(ho5.ext he6).app1 yO hB6 (by omega) (by omega) fun r7 w7 ho7 hs7 hn7=>?_
   try simp(disch:=omega) only[push_cast,zA]
   refine hC5 (m-1) _ _ (by omega) ⟨j+1,r7,?_,by omega,Ext.then he56 hs7 fun b hb=>hn5 b hb,?_,fun b hb=>(hn7 b hb).elim (hn5 b) fun h=>by omega⟩
   ·rw[show((m-1:Nat):Int)=(m:Int)-1 by omega]
   ·rw[nameB_take (wd:=wd) (top:=2+M.bits (ds.take i)) (by omega) hW.symm rfl,←hbt]
    rw[show(2+M.bitT ds i+(wd-1-j))=2+M.bitT ds i+((m:Int)-1) by omega]
    exact ho7
  ·rw[List.take_of_length_le (by rw[M.nameB_len];omega)] at ho5
   exact hK w5 r he5 ho5 hn5
 ·refine hC hi' _ _ ⟨?_,he2.trans he4,?_⟩
  ·rw[M.bitT_succ hi'];simp;omega
  ·have:i≠(M.findD ds s).toNat:=fun h=>e (by rw[h];exact M.findD_get hs)
   omega
end Go.Proofs.YtaekfnbnhjgboaaGreatDoor
end
section
namespace Go.Proofs.YtaekfnbnhjgboaaGreatDoor
open Go Go.Vc Go.Proofs Go.Shelf
variable {w:World} {K:Value→World→Prop} {F F' Fx Fy X Q:Nat→Prop}
def Z80:ByteArray:=⟨#[48,49,50,51,52,53,54,55,56,57,97,98,99,100,101,102,103,104,105,106,107,108,109,110,111,112,113,114,115,116,117,118,119,120,121,122]⟩
theorem digit_text:∀k:Fin 10,(Z80.extract k.1 (k.1+1)).data.toList=M.digL (k.1:Int):=by decide+kernel
theorem Itoa_spec {k:Nat} (hk:k<10) (hK:∀s:ByteArray,s.data.toList=M.digL (k:Int)→K (.string s) w):vcall PP qX #[.int .i64 k] w K:=by
 apply UA;unfold QQ
 apply YS;unfold jD
 apply kX;unfold qp
 simp only[push_cast]
 refine zg (fun _=>?_) (fun h=>absurd trivial h)
 refine zW (fun _ _=>False) ?_ (fun _ _ _ h=>h.elim)
 intro J hJ
 refine zg (fun _=>?_) (fun h=>by omega)
 refine zg (fun _=>?_) (fun h=>by omega)
 apply Yg;unfold jh
 simp(disch:=omega) only[push_cast,zA]
 refine zg (fun _=>?_) (fun h=>by omega)
 have hsz:Z80.size=36:=by decide+kernel
 show yq PP zG (.string Z80) _ _ _ w _
 rw[xP0 (by kernel_rfl) (by omega) (by omega) (by rw[hsz];omega)]
 rw[show((k:Int)).toNat=k by omega,show((k:Int)+1).toNat=k+1 by omega]
 exact hK _ (digit_text ⟨k,hk⟩)
def byV (c:UInt8):Value:= .int .u8 c.toNat
theorem qe0 {v:Value} {l:List UInt8} (h:OwnV PP zZ w v (l.map byV)) (hne:l≠[]):ZR PP zZ zG v w K=K (.string ⟨l.toArray⟩) w:=by
 obtain⟨a,c,hv,hc,hcm,hcell⟩:=(OwnV.vals h).shape
 have hne':(l.map byV).map (fun x=>[x])≠[]:=by simpa using hne
 obtain⟨b,o,ha,_,_,hcc⟩:=hcell hne'
 simp only[List.length_map] at hv hcc
 subst ha;subst hv
 refine yy (run_convert_bytes_back w zZ zG qI ⟨b,o,none⟩ c l JT (by kernel_rfl) (by kernel_rfl) fun j hj=>?_)
 have:=hcc j hj 0 (byV l[j]) (by
  rw[List.getD_eq_getElem?_getD,List.getElem?_map,List.getElem?_map,List.getElem?_eq_getElem hj];rfl)
 rw[x7] at this⊢
 rw[Nat.mul_one,Nat.add_zero] at this
 exact this
def jf0 (n:Nat) (i:Nat):UInt8:=if n/2^i%2=1 then 49 else 48
theorem bitC_take {wd n j:Nat} (hj:j<wd):((List.range wd).reverse.map (jf0 n)).take (j+1)=((List.range wd).reverse.map (jf0 n)).take j++[jf0 n (wd-1-j)]:=by
 have hl:j<((List.range wd).reverse.map (jf0 n)).length:=by simpa using hj
 rw[M.take_add hl 0]
 congr 1
 rw[List.getD_eq_getElem?_getD,List.getElem?_map,List.getElem?_reverse (by simpa using hj),List.length_range,List.getElem?_range (by omega)]
 rfl
theorem VecText_spec {wd n:Int} (hok:M.vok wd n=true) (hK:∀w' s,Ext w w'→s.data.toList=M.vecL wd.toNat n.toNat→K (.string s) w'):vcall PP Y6 #[jU wd n] w K:=by
 apply UW;unfold Je
 obtain⟨h1,h2,h3,h4⟩:=M.vok_iff.1 hok
 have hp:(2:Int)^wd.toNat≤16:=by
  have:=pow4 (k:=wd.toNat) (by omega) (by omega)
  have e:=ze0 wd.toNat
  omega
 refine zx fun b1 w1 hb1 he1 hz1 hB1=>?_
 have hag:∀w':World,Blk w' b1 [.int .i64 wd,.int .i64 n] zb→∀K:Value→World→Prop,ze PP zb (.pointer (some ⟨b1,0,none⟩)) w' K=K (jU wd n) w':=fun w' hB K=>Blk.ldAgg hB (by exact zS)
 rw[hag w1 hB1]
 refine VecOk_spec fun w2 he2=>?_
 rw[hok]
 simp only[push_cast,Bool.not_true]
 refine ya JT (by kernel_rfl) (show yM PP qI (.int .u8 0) by unfold yM;kernel_rfl) rfl rfl fun b3 w3 hb3 he3 hz3 hB3=>?_
 have hq3:=hB1.ext (he2.trans he3)
 have e3:=he1.trans (he2.trans he3)
 have s1:=he1.size;have s2:=he2.size
 have ho3:OwnV PP zZ w3 (.slice (some ⟨b3,0,none⟩) 1 1) ([(35:UInt8)].map byV):=Blk.own1 (P:=PP) (t:=zZ) (cs:=[byV 35]) (by rw[j80];exact hB3) (Nat.zero_le _) rfl rfl (by omega)
 simp(disch:=first|(simp only[push_cast];done)|omega) only[push_cast,hq3.ld0,zA]
 refine Q5 (fun m u w'=> ∃j r,u=[r,.int .i64 ((m:Int)-1)]∧(m:Int)+(j:Nat)=wd∧Ext w w'∧Blk w' b1 [.int .i64 wd,.int .i64 n] zb∧OwnV PP zZ w' r ((35::((List.range wd.toNat).reverse.map (jf0 n.toNat)).take j).map byV)∧∀b,r.ownBlock=some b→w1.heap.size≤b) wd.toNat
  ⟨0,_,by rw[show((wd.toNat:Nat):Int)=wd by omega],by omega,e3,hq3,ho3,fun b hb=>by have e:b3=b:=Option.some.inj hb;omega⟩ ?_
 rintro m _ _ w5 C5 ⟨j,r,rfl,hmj,he5,hB5,ho5,hn5⟩ hC5
 simp only[push_cast]
 refine zg (fun hge=>?_) (fun hlt=>?_)
 ·rw[hag w5 hB5]
  rw[show n=((n.toNat:Nat):Int) by omega]
  refine raw_spec (by omega) fun w6 he6=>?_
  rw[show(m:Int)-1=((m-1:Nat):Int) by omega]
  refine bit_spec (by omega) (by omega) ?_
  have step:∀(x:UInt8) (C6:Value→World→Prop),x=jf0 n.toNat (wd.toNat-1-j)→(∀r' w7,Ext w w7→Blk w7 b1 [.int .i64 wd,.int .i64 n] zb→OwnV PP zZ w7 r' ((35::((List.range wd.toNat).reverse.map (jf0 n.toNat)).take (j+1)).map byV)→(∀b,r'.ownBlock=some b→w1.heap.size≤b)→C6 r' w7)→
    vbuildS PP zZ 1 [(0,.int .u8 x.toNat)] w6 fun t21 w_14=>vbi PP .append [zZ,zZ] zZ [r,t21] w_14 C6:=by
   intro x C6 hx hC6
   refine ya JT (by kernel_rfl) (show yM PP qI (.int .u8 0) by unfold yM;kernel_rfl) rfl rfl fun b7 w7 hb7 he7 hz7 hB7=>?_
   have e67:=he6.trans he7
   have hl:((35::((List.range wd.toNat).reverse.map (jf0 n.toNat)).take j).map byV).length≤20:=by
    simp only[List.length_map,List.length_cons,List.length_take,List.length_reverse,List.length_range];omega
   refine(ho5.ext e67).app1 k40 hB7 rfl (by omega) (by omega) fun r8 w8 ho8 hs8 hn8=>?_
   have hz5:=he5.size
   have z67:=e67.size
   refine hC6 r8 w8 (Ext.then (he5.trans e67) hs8 fun b hb=>by have:=hn5 b hb;omega) ((hB5.ext e67).same hs8 fun hb=>by have:=hn5 b1 hb;have:=hB1.lt;omega) ?_ fun b hb=>(hn8 b hb).elim (hn5 b) fun h=>by have:=hB5.lt;omega
   rw[bitC_take (by omega),←hx,←List.cons_append,List.map_append]
   exact ho8
  have hmi:wd.toNat-1-j=m-1:=by omega
  have fin:∀r' w7,Ext w w7→Blk w7 b1 [.int .i64 wd,.int .i64 n] zb→OwnV PP zZ w7 r' ((35::((List.range wd.toNat).reverse.map (jf0 n.toNat)).take (j+1)).map byV)→(∀b,r'.ownBlock=some b→w1.heap.size≤b)→C5 [r',.int .i64 (((m-1:Nat):Int)-1)] w7:=fun r' w7 h1 h2 h3 h4=>
   hC5 (m-1) _ _ (by omega) ⟨j+1,r',rfl,by omega,h1,h2,h3,h4⟩
  refine zg (fun c=>?_) (fun c=>?_)
  ·refine step 49 _ (by rw[hmi];unfold jf0;rw[if_pos c]) fun r' w7 a1 a2 a3 a4=>?_
   rw[zA (by omega) (by omega)]
   exact fin r' w7 a1 a2 a3 a4
  ·refine step 48 _ (by rw[hmi];unfold jf0;rw[if_neg c]) fun r' w7 a1 a2 a3 a4=>?_
   rw[zA (by omega) (by omega)]
   exact fin r' w7 a1 a2 a3 a4
 ·rw[List.take_of_length_le (by simp;omega)] at ho5
  rw[qe0 ho5 (by simp)]
  exact hK w5 _ he5 rfl
theorem joinX:Builder.Extra PP YtaekfnbnhjgboaaGreatDoor.joinL_ren where
 sizeBuilder:=by kernel_rfl
 liesBuilder:=by kernel_rfl
 t5:=by kernel_rfl
 a5:=fun w=>by kernel_rfl
 z5:=fun w=>by kernel_rfl
 v5:=fun w=>by kernel_rfl
 infoByte:=by kernel_rfl
 cellsByte:=by kernel_rfl
 sizeByte:=by kernel_rfl
 neB5:=by decide+kernel
def joinB:List (List UInt8)→List UInt8
 |[]=>[]
 |x::xs=>x++xs.flatMap fun y=>32::y
theorem qX0 (xs:List (List UInt8)):Lib.join xs [32]=joinB xs:=by
 unfold Lib.join joinB
 induction xs with
 |nil=>rfl
 |cons x xs ih=>
  cases xs with
  |nil=>simp[List.intercalate,List.intersperse]
  |cons y ys=>
   simp only[List.intercalate,List.intersperse_cons_cons,List.flatten_cons] at ih⊢
   rw[ih]
   simp
theorem Join_spec {v:Value} {xs:List ByteArray} (h:OwnV PP ym w v (xs.map .string)) (h2:2≤xs.length) (hl:xs.length≤1000) (hj:(joinB (xs.map (·.data.toList))).length≤1000000)
  (hK:∀w' s,Ext w w'→s.data.toList=joinB (xs.map (·.data.toList))→K (.string s) w'):vcall PP QO #[v,.string ⟨#[32]⟩] w K:=by
 obtain⟨a,c,hv,hc,hcm,hcell⟩:=(OwnV.vals h).shape
 have hne:(xs.map Value.string).map (fun x=>[x])≠[]:=by intro e;have:=congrArg List.length e;simp only[List.length_map,List.length_nil] at this;omega
 obtain⟨b,o,ha,_,hb,hcc⟩:=hcell hne
 simp only[List.length_map] at hv hcc hc
 subst ha;subst hv
 refine⟨by kernel_rfl,?_⟩
 refine(Any.strings_Join_many YtaekfnbnhjgboaaGreatDoor.joinL joinX b o c xs ⟨#[32]⟩ w (fun j x hj=>?_) hb h2 (by omega) hc (by rw[show(⟨#[32]⟩:ByteArray).data.toList=[32] from rfl,qX0];omega)).mono ?_
 ·have hjl:j<xs.length:=(List.getElem?_eq_some_iff.1 hj).1
  have:=hcc j hjl 0 (.string x) (by
   rw[List.getD_eq_getElem?_getD,List.getElem?_map,List.getElem?_map,hj];rfl)
  rw[x7,Nat.mul_one,Nat.add_zero] at this
  exact this
 ·rintro e w' ⟨rfl,hB⟩
  refine hK w' _ (x70 hB) ?_
  rw[show(⟨#[32]⟩:ByteArray).data.toList=[32] from rfl,qX0]
end Go.Proofs.YtaekfnbnhjgboaaGreatDoor
end
section
namespace Go.Proofs.YtaekfnbnhjgboaaGreatDoor
open Go Go.Vc Go.Proofs
variable {w:World} {K:Value→World→Prop} {F F' Fx Fy X Q:Nat→Prop}
theorem WI {s:ByteArray} {m:Value} (hK:∀w',Ext w w'→K (.string s) w'):vcall PP yA #[.agg ⟨[.string s,m]⟩] w K:=by
 apply Vn;unfold Yk
 refine zx fun b w1 hb he hz hB=>?_
 simp(disch:=first|(simp only[push_cast];done)|omega) only[push_cast,hB.ld0]
 exact hK w1 he
theorem word_spec {o:Int} {v:Value} (hv:KindR o v) (ho:(1≤o∧o≤17)∨(22≤o∧o≤27)) (h24:o≠24) (hK:∀w' s,Ext w w'→s.data.toList=M.wordL o→K (.string s) w'):vinvoke PP v YP #[] w K:=by
 obtain⟨s,m,r,rfl,h1,h2,h3⟩:=hv.word
 have hs:s.data.toList=M.wordL o:=by
  rcases h3 with h|h|h|h
  ·omega
  ·omega
  ·exact absurd h h24
  ·exact h
 have fin:vcall PP yA #[.agg ⟨[.string s,.int .i64 m]⟩] w K:=WI fun w' he=>hK w' s he hs
 unfold kTy
 by_cases c:24≤o
 ·obtain⟨f,rfl,_⟩:=h2 c
  repeat rw[if_neg (by omega)]
  exact y1 (XF _ _ _) fin
 ·have:=h1 (by omega)
  subst this
  by_cases c1:o≤2
  ·rw[if_pos c1];exact y1 (Jp _ _) fin
  rw[if_neg c1]
  by_cases c2:o≤13
  ·rw[if_pos c2];exact y1 (Qs _ _) fin
  rw[if_neg c2]
  by_cases c3:o=14
  ·rw[if_pos c3];exact y1 (Qp _ _) fin
  rw[if_neg c3]
  by_cases c4:o≤17
  ·rw[if_pos c4];exact y1 (Qm _ _) fin
  rw[if_neg c4,if_neg (by omega),if_neg (by omega)]
  by_cases c5:o=22
  ·rw[if_pos c5];exact y1 (Qj _ _) fin
  rw[if_neg c5,if_pos (by omega)]
  exact y1 (Js _ _) fin
theorem wordL_len (o:Int):(M.wordL o).length≤5:=by
 by_cases h:0≤o∧o<28
 ·have hall:∀k:Fin 28,(M.wordL (k.1:Int)).length≤5:=by decide+kernel
  have:=hall ⟨o.toNat,by omega⟩
  rwa[show((o.toNat:Nat):Int)=o by omega] at this
 ·unfold M.wordL
  repeat rw[if_neg (by omega)]
  decide
theorem jM0 (wd n:Nat):(M.vecL wd n).length=wd+1:=by unfold M.vecL;simp
theorem kids_sum {f:M.Tm→Nat} {ks:List M.Tm} {g:M.Tm→List UInt8} (h:∀k,k∈ks→(g k).length+1≤f k):((ks.map g).flatMap (fun x=>32::x)).length≤(ks.map f).sum:=by
 induction ks with
 |nil=>simp
 |cons k ks ih=>
  have:=h k List.mem_cons_self
  have:=ih fun y hy=>h y (List.mem_cons_of_mem _ hy)
  simp only[List.map_cons,List.flatMap_cons,List.length_append,List.length_cons,List.sum_cons]
  omega
theorem text_len {ds:List M.Dcl} (hd:M.declOk ds=true):∀t,M.sortM ds t≠ -1→(M.textL t).length+1≤20*M.sizeM t:=by
 refine M.Tm.ind fun t ih hs=>?_
 obtain⟨har,hp,ho⟩:=M.right_op hs
 rw[M.sizeM_eq,M.textL_eq]
 have hk:((t.ks.map M.textL).flatMap (fun x=>32::x)).length≤(t.ks.map fun k=>20*M.sizeM k).sum:=kids_sum fun k hk=>ih k hk ((M.sort_parts hs).2.1 k hk)
 have hsum:(t.ks.map fun k=>20*M.sizeM k).sum=20*(t.ks.map M.sizeM).sum:=by
  generalize t.ks=l
  induction l with
  |nil=>rfl
  |cons k l ihl=>simp only[List.map_cons,List.sum_cons,ihl];omega
 unfold M.textF
 by_cases c:t.op=20
 ·rw[if_pos c,jM0]
  have:=M.vok_iff.1 (M.vec_ok hs c);omega
 rw[if_neg c]
 by_cases c:t.op=21
 ·rw[if_pos c]
  have hf:=M.name_found hs c
  have hj:(M.findD ds t.s).toNat<ds.length:=by have:=(M.findD_lt ds t.s).2;omega
  have hok:=(M.decl_iff.1 hd).2.1 _ hj
  unfold M.dclOk at hok
  rw[M.findD_get hf] at hok
  simp only[Bool.and_eq_true,decide_eq_true_eq,M.nameOk] at hok
  obtain⟨⟨⟨⟨⟨⟨h1,h2⟩,h3⟩,h4⟩,_⟩,_⟩,_⟩:=hok
  have:t.s.data.toList.length=t.s.size:=by rw[Array.length_toList];rfl
  omega
 rw[if_neg c]
 by_cases c:t.op=24
 ·rw[if_pos c];simp;omega
 rw[if_neg c]
 have:=wordL_len t.op
 have hcut:(if t.op=22 then(32:UInt8)::(M.digL t.a++32::M.digL t.b) else[]).length≤4:=by
  split
  ·simp[M.digL]
  ·simp
 simp only[List.length_cons,List.length_append,List.length_nil]
 omega
theorem Itoa_int {k:Int} (h0:0≤k) (hk:k<10) (hK:∀s:ByteArray,s.data.toList=M.digL k→K (.string s) w):vcall PP qX #[.int .i64 k] w K:=by
 obtain⟨j,rfl⟩:∃j:Nat,k=j:=⟨k.toNat,by omega⟩
 exact Itoa_spec (by omega) hK
theorem textOf_spec {ds:List M.Dcl} (hd:M.declOk ds=true) {kb:Nat}:∀(t:M.Tm),M.sortM ds t≠ -1→M.sizeM t≤1000→∀{w:World} {K:Value→World→Prop} {F:Nat→Prop} {tv:Value},KindsR w kb→TermR F w tv t→
  (∀w' s,Ext w w'→s.data.toList=M.textL t→K (.string s) w')→vcall PP kT #[.map (some kb),tv] w K:=by
 refine M.Tm.ind fun t ih hs hsz w K F tv hk ht hK=>?_
 obtain⟨har,hp,ho⟩:=M.right_op hs
 have hlen:=text_len hd t hs
 obtain⟨kv,rfl,hks⟩:=ht
 apply y70;unfold KQ
 refine zx fun b1 w1 hb1 he1 hz1 hB1=>?_
 have hk1:=hk.ext he1
 have hks1:=hks.ext he1
 rw[M.textL_eq] at hK hlen
 unfold M.textF at hK hlen
 simp(disch:=first|(simp only[push_cast];done)|omega) only[push_cast,hB1.ld0,hB1.ld1,hB1.ld2,hB1.ld3]
 refine zg (fun c=>?_) (fun c=>?_)
 ·rw[if_pos c] at hK
  have hv:=M.vec_ok hs c
  have e:zE PP zb [(0,.int .i64 t.a),(1,.int .i64 t.b)] w1=fun K=>K (jU t.a t.b) w1:=by
   funext K;exact yf VA (us:=[[.int .i64 t.a],[.int .i64 t.b]]) rfl rfl
  try rw[e]
  exact VecText_spec hv fun w2 s he2 hs2=>hK w2 s (he1.trans he2) hs2
 rw[if_neg c] at hK hlen
 refine zg (fun c=>?_) (fun c=>?_)
 ·rw[if_pos c] at hK
  exact hK w1 _ he1 rfl
 rw[if_neg c] at hK hlen
 refine zg (fun c=>?_) (fun c=>?_)
 ·rw[if_pos c] at hK
  exact hK w1 _ he1 rfl
 rw[if_neg c] at hK hlen
 have ho':(1≤t.op∧t.op≤17)∨(22≤t.op∧t.op≤27):=by omega
 refine WK (ok:=false) hk1 (by rw[har];omega) fun kv2 hkv=>?_
 simp only[Bool.false_eq_true,if_false]
 refine word_spec hkv ho' (by omega) fun w2 ws he2 hws=>?_
 refine ya Ya (by kernel_rfl) Y9 rfl rfl fun b3 w3 hb3 he3 hz3 hB3=>?_
 have e13:=he2.trans he3
 have s1:=he1.size;have s2:=he2.size
 have hB13:=hB1.ext e13
 have ho3:OwnV PP ym w3 (.slice (some ⟨b3,0,none⟩) 1 1) ([ws].map .string):=Blk.own1 (P:=PP) (t:=ym) (cs:=[Value.string ws]) (by rw[qc0];exact hB3) (Nat.zero_le _) rfl rfl (by omega)
 have hn1:1≤t.ks.length:=by
  have:=M.node_arity ho (by omega)
  omega
 have hkl:t.ks.length≤3:=by
  have h:M.arity t.op≤3:=by
   unfold M.arity;repeat' split
   all_goals omega
  omega
 refine zW (fun u w'=> ∃(wv:Value) (wl:List ByteArray),u=[wv]∧Ext w1 w'∧OwnV PP ym w' wv (wl.map .string)∧(∀b,wv.ownBlock=some b→w1.heap.size≤b)∧wl.length≤3∧wl.map (·.data.toList)=M.wordL t.op::(if t.op=22 then[M.digL t.a,M.digL t.b] else[])) ?_ ?_
 ·intro J hJ
  simp(disch:=first|(simp only[push_cast];done)|omega) only[push_cast,hB13.ld0,hB13.ld1,hB13.ld2]
  refine zg (fun c22=>?_) (fun c22=>?_)
  ·obtain⟨hb0,hba,ha4⟩:=M.cut_ab hd hs c22
   refine zt fun w4 he4 _=>?_
   have hB14:=hB13.ext he4
   simp(disch:=first|(simp only[push_cast];done)|omega) only[push_cast,hB14.ld1,hB14.ld2,true_and]
   refine Itoa_int (by omega) (by omega) fun sa hsa=>?_
   simp(disch:=first|(simp only[push_cast];done)|omega) only[push_cast,hB14.ld2,true_and,and_self]
   refine Itoa_int (by omega) (by omega) fun sb hsb=>?_
   refine vbuildS_row1 (xs:=[.string sa,.string sb]) Ya zj0 Y9 (fun x hx'=>by
    simp only[List.mem_cons,List.not_mem_nil,or_false] at hx'
    rcases hx' with rfl|rfl<;>rfl) (by simp) fun b5 w5 hb5 he5 hz5 hB5=>?_
   have hv5:Vals (· =b5) w5 (.slice (some ⟨b5,0,none⟩) 2 2) [.string sa,.string sb]:=hB5.sl1 rfl (by simp)
   have e35:=he4.trans he5
   refine(ho3.ext e35).app yv0 hv5 (fun u hu=>by
    simp only[List.mem_cons,List.not_mem_nil,or_false] at hu
    rcases hu with rfl|rfl<;>rfl) (by simp) (by simp) fun r6 w6 ho6 hs6 hn6=>?_
   have z35:=e35.size;have z3:=he3.size
   refine hJ _ _ ⟨r6,[ws,sa,sb],rfl,Ext.then (e13.trans e35) hs6 fun b hb=>by have e:b3=b:=Option.some.inj hb;omega,by simpa using ho6,fun b hb=>(hn6 b hb).elim (fun h=>by have e:b3=b:=Option.some.inj h;omega) fun h=>by omega,by simp,?_⟩
   rw[if_pos c22]
   simp[hws,hsa,hsb]
  ·exact hJ _ _ ⟨_,[ws],rfl,e13,ho3,fun b hb=>by have e:b3=b:=Option.some.inj hb;omega,by simp,by rw[if_neg c22];simp[hws]⟩
 rintro _ _ w5 ⟨wv,wl,rfl,he5,ho5,hn5,hwl,hwt⟩
 have hB5:=hB1.ext he5
 have hks5:=hks1.ext he5
 simp(disch:=first|(simp only[push_cast];done)|omega) only[push_cast,hB5.ld4,hks5.len]
 refine vloop_up t.ks.length (fun i u w'=> ∃(r:Value) (kl:List ByteArray),u=[r,.int .i64 i]∧Ext w1 w'∧OwnV PP ym w' r ((wl++kl).map .string)∧(∀b,r.ownBlock=some b→w1.heap.size≤b)∧kl.map (·.data.toList)=(t.ks.take i).map M.textL) ⟨wv,[],rfl,he5,by simpa using ho5,hn5,rfl⟩ ?_
 rintro i _ g w6 C hi ⟨r,kl,rfl,he6,ho6,hn6,hkl6⟩ hC
 have hks6:=hks1.ext he6
 have hkll:kl.length=i:=by
  have:=congrArg List.length hkl6
  simp only[List.length_map,List.length_take] at this
  omega
 simp only[push_cast]
 refine zg (fun a=>?_) (fun a=>?_)
 ·have hi':i<t.ks.length:=by omega
  simp(disch:=first|(simp only[push_cast];done)|omega) only[push_cast,hks6.iaddr]
  refine hks6.load zJ hi' fun x hx=>?_
  obtain⟨cx,rfl,hcx⟩:=hx.cells
  refine zD yw fun b7 w7 hb7 he7 hz7 hB7=>?_
  refine stTerm hB7 rfl (hcx.ext he7) fun w8 hw8 hz8 hB8=>?_
  have e68:Ext w6 w8:=Ext.then he7 hw8 fun y hy=>by subst hy;omega
  have v8:=hcx.ext e68
  simp(disch:=(simp only[push_cast];done)) only[push_cast,hB8.ldAgg (t:=z7) (by rw[xG hcx];exact zJ)]
  have hmem:t.ks.getD i default∈t.ks:=M.getD_mem hi' _
  have hsk:M.sizeM (t.ks.getD i default)≤1000:=by
   have h1:=M.szT_succ hi'
   have h2:=M.szT_mono (ks:=t.ks) (i:=i+1) (j:=t.ks.length) hi' (Nat.le_refl _)
   have h3:=M.szT_all t
   omega
  refine ih _ hmem ((M.sort_parts hs).2.1 _ hmem) hsk (hk1.ext (he6.trans e68)) v8.term fun w9 sk he9 hsk'=>?_
  refine ya Ya (by kernel_rfl) Y9 rfl rfl fun b10 w10 hb10 he10 hz10 hB10=>?_
  have e610:=e68.trans (he9.trans he10)
  have hl6:((wl++kl).map Value.string).length≤6:=by rw[List.length_map,List.length_append];omega
  refine(ho6.ext e610).app1 yv0 hB10 rfl (by omega) (by omega) fun r11 w11 ho11 hs11 hn11=>?_
  have z6:=he6.size;have z610:=e610.size
  try simp(disch:=omega) only[push_cast,zA]
  refine hC hi' _ _ ⟨r11,kl++[sk],by simp<;>exact⟨rfl,rfl⟩,Ext.then (he6.trans e610) hs11 fun b hb=>hn6 b hb,?_,fun b hb=>(hn11 b hb).elim (hn6 b) fun h=>by omega,?_⟩
  ·rw[←List.append_assoc,List.map_append];exact ho11
  ·rw[M.take_add hi' default,List.map_append,List.map_append,hkl6]
   simp[hsk']
 ·have hi':i=t.ks.length:=by omega
  subst hi'
  rw[List.take_length] at hkl6
  have htxt:joinB ((wl++kl).map (·.data.toList))=M.wordL t.op++((if t.op=22 then(32:UInt8)::(M.digL t.a++32::M.digL t.b) else[])++(t.ks.map M.textL).flatMap fun x=>32::x):=by
   rw[List.map_append,hwt,hkl6]
   show joinB (M.wordL t.op::((if t.op=22 then[M.digL t.a,M.digL t.b] else[])++t.ks.map M.textL))=_
   rw[show ∀(x:List UInt8) xs,joinB (x::xs)=x++xs.flatMap (fun y=>32::y) from fun _ _=>rfl,List.flatMap_append]
   split<;>simp
  have hl2:2≤(wl++kl).length:=by
   have h1:1≤wl.length:=by
    have:=congrArg List.length hwt
    simp only[List.length_map,List.length_cons] at this
    omega
   rw[List.length_append];omega
  simp only[List.length_cons,List.length_append,List.length_nil] at hlen
  have hjl:(joinB ((wl++kl).map (·.data.toList))).length≤20000:=by
   rw[htxt]
   simp only[List.length_append]
   omega
  refine Join_spec ho6 hl2 (by rw[List.length_append];omega) (by omega) fun w7 sj he7 hsj=>?_
  have hsz7:sj.size≤20000:=by
   have:sj.data.toList.length=sj.size:=by rw[Array.length_toList];rfl
   rw[hsj] at this;omega
  have h1:(⟨#[40]⟩:ByteArray).size=1:=by decide+kernel
  have h3:(⟨#[41]⟩:ByteArray).size=1:=by decide+kernel
  have h2:((⟨#[40]⟩:ByteArray)++sj).size=1+sj.size:=by rw[ByteArray.size_append,h1]
  rw[Wx (by omega),Wx (by omega)]
  refine hK w7 _ (he1.trans (he6.trans he7)) ?_
  rw[ByteArray.data_append,ByteArray.data_append,Array.toList_append,Array.toList_append,hsj,htxt]
  simp
end Go.Proofs.YtaekfnbnhjgboaaGreatDoor
end
section
namespace Go.M
theorem node_right {ds:List Dcl} {t:Tm} (hd:declOk ds=true) (hs:sortM ds t≠ -1) {L:Nat→Nat} (hl:∀i,i<t.ks.length→L i=lenS (sortM ds (kid t i))):
  (1≤t.op→t.op≤2→t.ks.length=1∧1≤L 0∧L 0≤4)∧(3≤t.op→t.op≤13→t.ks.length=2∧L 0=L 1∧1≤L 0∧L 0≤4)∧(t.op=14→t.ks.length=2∧1≤L 0∧1≤L 1∧L 0+L 1≤4)∧
  (15≤t.op→t.op≤17→t.ks.length=2∧L 0=L 1∧1≤L 0∧L 0≤4)∧(t.op=22→t.ks.length=1∧0≤t.b∧t.b≤t.a∧t.a<L 0∧L 0≤4)∧(t.op=23→t.ks.length=3∧L 0=1∧L 1=L 2∧1≤L 1∧L 1≤4)∧
  (25≤t.op→(t.ks.length=if t.op=25 then 1 else 2)∧∀i,i<t.ks.length→L i=1):=by
 obtain⟨hf,hkd,hsk⟩:=sort_parts hs
 simp only[formed,Bool.and_eq_true,decide_eq_true_eq] at hf
 obtain⟨har,hpl⟩:=hf
 have hops:=arity_ops (o:=t.op) (by omega)
 have hx:∀i,i<t.ks.length→(t.ks.map (sortM ds)).getD i 0=sortM ds (kid t i):=fun i hi=>getD_map _ hi _ _
 have hrg:∀i,-1≤sortM ds (kid t i)∧sortM ds (kid t i)≤4:=fun i=>sort_range hd _
 rw[hsk] at hs
 unfold sortK at hs
 unfold arity at har
 have r0:=hrg 0;have r1:=hrg 1;have r2:=hrg 2
 refine⟨fun a b=>?_,fun a b=>?_,fun a=>?_,fun a b=>?_,fun a=>?_,fun a=>?_,fun a=>?_⟩
 ·have hk:t.ks.length=1:=by rw[if_neg (by omega),if_pos (by omega)] at har;omega
  rw[if_neg (by omega),if_neg (by omega),if_neg (by omega),if_neg (by omega),if_neg (by omega),if_pos (by omega),hx 0 (by omega)] at hs
  have h0:=hl 0 (by omega)
  by_cases c:0<sortM ds (kid t 0)
  ·unfold lenS at h0;omega
  ·rw[if_neg c] at hs;exact absurd rfl hs
 ·have hk:t.ks.length=2:=by rw[if_neg (by omega),if_neg (by omega),if_neg (by omega),if_neg (by omega),if_pos (by omega)] at har;omega
  rw[if_neg (by omega),if_neg (by omega),if_neg (by omega),if_neg (by omega),if_neg (by omega),if_neg (by omega),if_neg (by omega),if_neg (by omega),hx 0 (by omega),hx 1 (by omega)] at hs
  have h0:=hl 0 (by omega);have h1:=hl 1 (by omega)
  by_cases c:0<sortM ds (kid t 0)∧sortM ds (kid t 0)=sortM ds (kid t 1)
  ·unfold lenS at h0 h1;omega
  ·rw[if_neg c] at hs;exact absurd rfl hs
 ·have hk:t.ks.length=2:=by rw[if_neg (by omega),if_neg (by omega),if_neg (by omega),if_neg (by omega),if_pos (by omega)] at har;omega
  rw[if_neg (by omega),if_neg (by omega),if_neg (by omega),if_neg (by omega),if_neg (by omega),if_neg (by omega),if_pos (by omega),hx 0 (by omega),hx 1 (by omega)] at hs
  have h0:=hl 0 (by omega);have h1:=hl 1 (by omega)
  by_cases c:0<sortM ds (kid t 0)∧0<sortM ds (kid t 1)∧sortM ds (kid t 0)+sortM ds (kid t 1)≤4
  ·unfold lenS at h0 h1;omega
  ·rw[if_neg c] at hs;exact absurd rfl hs
 ·have hk:t.ks.length=2:=by rw[if_neg (by omega),if_neg (by omega),if_neg (by omega),if_neg (by omega),if_pos (by omega)] at har;omega
  rw[if_neg (by omega),if_neg (by omega),if_neg (by omega),if_neg (by omega),if_neg (by omega),if_neg (by omega),if_neg (by omega),if_pos (by omega),hx 0 (by omega),hx 1 (by omega)] at hs
  have h0:=hl 0 (by omega);have h1:=hl 1 (by omega)
  by_cases c:0<sortM ds (kid t 0)∧sortM ds (kid t 0)=sortM ds (kid t 1)
  ·unfold lenS at h0 h1;omega
  ·rw[if_neg c] at hs;exact absurd rfl hs
 ·have hk:t.ks.length=1:=by rw[if_neg (by omega),if_pos (by omega)] at har;omega
  rw[if_neg (by omega),if_neg (by omega),if_neg (by omega),if_neg (by omega),if_pos (by omega),hx 0 (by omega)] at hs
  have h0:=hl 0 (by omega)
  by_cases c:0≤t.b∧t.b≤t.a∧t.a<sortM ds (kid t 0)
  ·unfold lenS at h0;omega
  ·rw[if_neg c] at hs;exact absurd rfl hs
 ·have hk:t.ks.length=3:=by rw[if_neg (by omega),if_neg (by omega),if_pos (by omega)] at har;omega
  rw[if_neg (by omega),if_neg (by omega),if_neg (by omega),if_pos (by omega),hx 0 (by omega),hx 1 (by omega),hx 2 (by omega)] at hs
  have h0:=hl 0 (by omega);have h1:=hl 1 (by omega);have h2:=hl 2 (by omega)
  by_cases c:sortM ds (kid t 0)=0∧sortM ds (kid t 1)=sortM ds (kid t 2)
  ·unfold lenS at h0 h1 h2;omega
  ·rw[if_neg c] at hs;exact absurd rfl hs
 ·have hk:t.ks.length=if t.op=25 then 1 else 2:=by
   by_cases c:t.op=25
   ·rw[if_neg (by omega),if_pos (by omega)] at har;rw[if_pos c];omega
   ·rw[if_neg (by omega),if_neg (by omega),if_neg (by omega),if_pos (by omega)] at har;rw[if_neg c];omega
  rw[if_neg (by omega),if_neg (by omega),if_pos (by omega)] at hs
  by_cases c:(t.ks.map (sortM ds)).any (fun x=>decide (x≠0))=true
  ·rw[if_pos c] at hs;exact absurd rfl hs
  ·refine⟨hk,fun i hi=>?_⟩
   have h0:=hl i hi
   have hz:sortM ds (kid t i)=0:=Classical.byContradiction fun hne=>c (List.any_eq_true.2 ⟨sortM ds (kid t i),List.mem_map.2 ⟨_,getD_mem hi default,rfl⟩,by simpa using hne⟩)
   rw[hz] at h0
   exact h0
end Go.M
end
section
namespace Go.Proofs.YtaekfnbnhjgboaaGreatDoor
open Go Go.Vc Go.Proofs
variable {w:World} {K:Value→World→Prop} {F F' Fx Fy X Fk Q:Nat→Prop} {n bc mb bb:Nat} {gs:M.Gs} {v:Value} {ar ab:Addr} {st:Option M.Gs}
theorem Kt {a:TypeId} {v:Value} (hc:concB PP a=true) {xT:TypeId}:kp PP (.iface a v) xT a true w K=K (.tuple #[v,.bool true]) w:=by
 refine yy ?_
 unfold concB at hc
 cases hu:PP.underlying a with
 |none=>rw[hu] at hc;cases hc
 |some d=>
  rw[hu] at hc
  cases d<;>first|(cases hc;done)|simp[Instr.typeAssert,run_underlying hu]
theorem qm {a t:TypeId} {v z:Value} (hc:concB PP a=true) (hz:yM PP a z) (hne:t≠a) {xT:TypeId}:kp PP (.iface t v) xT a true w K=K (.tuple #[z,.bool false]) w:=by
 refine yy ?_
 unfold concB at hc
 cases hu:PP.underlying a with
 |none=>rw[hu] at hc;cases hc
 |some d=>
  rw[hu] at hc
  cases d<;>first|(cases hc;done)|simp[Instr.typeAssert,run_underlying hu,hne,Q9 hz,Result.andThen]
structure KidsR (Fk X F:Nat→Prop) (w:World) (kv:Value) (rs:List (List Int)):Prop where
 at_:∃vs:List Value,Vals Fk w kv vs∧vs.length=rs.length∧∀i,i<rs.length→Ints (Off X F) w (vs.getD i undef) (rs.getD i [])
 sm:∀r,r∈rs→SmL r
theorem KidsR.ext {w':World} {kv:Value} {rs:List (List Int)} (h:KidsR Fk X F w kv rs) (he:Ext w w'):KidsR Fk X F w' kv rs:=by
 obtain⟨vs,h1,h2,h3⟩:=h.at_
 exact⟨⟨vs,h1.ext he,h2,fun i hi=>(h3 i hi).ext he⟩,h.sm⟩
theorem KidsR.sml {kv:Value} {rs:List (List Int)} (h:KidsR Fk X F w kv rs) {i:Nat} (hi:i<rs.length):SmL (rs.getD i []):=h.sm _ (M.getD_mem hi [])
theorem KidsR.vals {kv:Value} {rs:List (List Int)} (h:KidsR Fk X F w kv rs):∃vs:List Value,(∀(w':World),Ext w w'→∀i,i<rs.length→∀K:Value→World→Prop,zl PP zw kv (.int .i64 i) w' K=K (.pointer (some (eaddr kv 1 i))) w'∧ze PP za (.pointer (some (eaddr kv 1 i))) w' K=K (vs.getD i undef) w')∧
  ∀i,i<rs.length→Ints (Off X F) w (vs.getD i undef) (rs.getD i []):=by
 obtain⟨vs,h1,h2,h3⟩:=h.at_
 refine⟨vs,fun w' he i hi K=>?_,h3⟩
 have h1':=h1.ext he
 refine⟨?_,h1'.load Uk (by omega)⟩
 rw[h1'.iaddr WY (by omega) (by omega),Int.toNat_natCast]
theorem stKind {b:Nat} {x y:Value} {t0 tk:TypeId} {s:ByteArray} {m:Int} (h:Blk w b [x,y] t0) (hg:aggB PP tk 2=true) (hK:∀w',Same (· =b) w w'→K undef w'):zr PP tk (.pointer (some ⟨b,0,none⟩)) (.agg ⟨[.string s,.int .i64 m]⟩) w K:=
 h.stAgg rfl hg (by intro v hv;simp only[List.mem_cons,List.not_mem_nil,or_false] at hv;rcases hv with rfl|rfl<;>rfl) fun w' h1 _ _=>hK w' h1
theorem fixB_at {wd nn:Int} {j:Nat} (hj:(j:Int)<wd):(M.fixB wd nn).getD j 0=if nn.toNat/2^j%2=1 then 1 else-1:=by
 unfold M.fixB
 rw[List.getD_eq_getElem?_getD,List.getElem?_map,List.getElem?_range (by omega)];rfl
theorem fix_step {wd nn:Int} {j:Nat} (hj:(j:Int)<wd):((M.fixB wd nn).take j++List.replicate (wd.toNat-j) (-1)).set j (if nn.toNat/2^j%2=1 then 1 else-1)=(M.fixB wd nn).take (j+1)++List.replicate (wd.toNat-(j+1)) (-1):=by
 have hl:((M.fixB wd nn).take j).length=j:=by rw[List.length_take,M.fixB_len];omega
 rw[List.set_append_right _ _ (by omega),hl,Nat.sub_self,show wd.toNat-j=(wd.toNat-(j+1))+1 by omega,List.replicate_succ,List.set_cons_zero,M.take_add (by rw[M.fixB_len];omega) 0,fixB_at hj,List.append_assoc]
 rfl
theorem SmL.fix {wd nn:Int}:SmL (M.fixB wd nn):=fun x hx=>by
 unfold M.fixB at hx
 obtain⟨j,_,rfl⟩:=List.mem_map.1 hx
 split<;>decide
theorem SmL.name {ds:List M.Dcl} {k:Nat} (hd:M.declOk ds=true) (hk:k<ds.length):SmL (M.nameB ds k):=fun x hx=>by
 have:=M.name_has (m:=9) hd hk (by have:=(M.decl_iff.1 hd).2.2;omega) x hx
 obtain⟨h1,h2,h3⟩:=this
 unfold Sm;omega
def Ze0 (n bb:Nat) (ar ab:Addr) (X F:Nat→Prop) (w:World) (gs:M.Gs) (ds:List M.Dcl) (t:M.Tm) (rs:List (List Int)) (K:Value→World→Prop):Prop:=
 ∀w' F' st' r zs,BdR n bb ar ab X F' w' st'→Mv F w F' w'→Ints (Off X F') w' r zs→SmL zs→M.Bd.Out n (M.nodeB ds t rs) (some gs) st' zs→K r w'
section
variable {bl kb m:Nat} {dv tv kv:Value} {ds:List M.Dcl} {t:M.Tm} {rs:List (List Int)} {G Gt:Nat→Prop}
theorem root_spec (hb:BdR n bb ar ab X F w (some gs)) (hd:M.declOk ds=true) (hs:M.sortM ds t≠ -1) (hB:Blk w bl [.pointer (some ⟨bb,0,none⟩),dv,.map (some kb),.map (some m)] zL) (hdv:DclsR G w dv ds) (hkb:KindsR w kb) (ht:TermR Gt w tv t)
  (hkids:KidsR Fk X F w kv rs) (hrl:rs.length=t.ks.length) (hlen:∀i,i<t.ks.length→(rs.getD i []).length=M.lenS (M.sortM ds (M.kid t i)))
  (hK:Ze0 n bb ar ab X F w gs ds t rs K):vcall PP j9 #[.pointer (some ⟨bl,0,none⟩),tv,kv] w K:=by
 obtain⟨tk,rfl,hks⟩:=ht
 apply JJ;unfold Zp
 obtain⟨har,hp,hops⟩:=M.right_op hs
 obtain⟨q1,q2,q3,q4,q5,q6,q7⟩:=M.node_right hd hs (L:=fun i=>(rs.getD i []).length) hlen
 refine zx fun b1 w1 hb1 he1 hz1 hB1=>?_
 refine zt fun w2 he2 _=>?_
 have e2:=he1.trans he2
 have hB2:=hB.ext e2
 have hT2:=hB1.ext he2
 have hbd2:=hb.ext e2
 have hdv2:=hdv.ext e2
 simp(disch:=first|(simp only[push_cast];done)|omega) only[push_cast,hB2.ld2,hT2.ld0,true_and]
 refine WK (ok:=false) (hkb.ext e2) (by rw[har];omega) fun kv2 hkv=>⟨rfl,?_⟩
 obtain⟨s,mm,r,hkv2,hr1,hr2,_⟩:=hkv.word
 simp only[Bool.false_eq_true,if_false]
 rw[hkv2]
 have hKe:∀w3,Ext w2 w3→Ze0 n bb ar ab X F w3 gs ds t rs K:=fun w3 he3 w' F' st' r' zs h1 h2 h3 h4 h5=>hK w' F' st' r' zs h1 ((Mv.refl.ext (e2.trans he3)).trans h2) h3 h4 h5
 obtain⟨vs,hA,hvs⟩:=(hkids.ext e2).vals
 unfold Ze0 M.nodeB at hKe
 by_cases c20:t.op=20
 ·have hkt:kTy t.op=zP:=by rw[c20];rfl
  have:=hr1 (by omega)
  subst this
  rw[hkt,Kt yQ]
  simp only[push_cast]
  rw[if_pos c20] at hKe
  refine zD xa fun b3 w3 hb3 he3 hz3 hB3=>?_
  refine stKind hB3 Ul fun w4 hs4=>?_
  have e24:Ext w2 w4:=Ext.then he3 hs4 fun y hy=>by subst hy;omega
  have hT4:=hT2.ext e24
  have hv:=M.vec_ok hs c20
  obtain⟨v1,v2,v3,v4⟩:=M.vok_iff.1 hv
  have hp16:(2:Int)^t.a.toNat≤16:=by
   have:=pow4 (k:=t.a.toNat) (by omega) (by omega)
   have e:=ze0 t.a.toNat
   omega
  simp(disch:=first|(simp only[push_cast];done)|omega) only[push_cast,hT4.ld1]
  rw[show t.a=((t.a.toNat:Nat):Int) by omega]
  refine offs_spec (by omega) fun w5 ov he5 ho5 hn5=>?_
  have e25:=e24.trans he5
  have hlen5:∀(w':World) (K:Value→World→Prop),vbi PP .len [za] zc [ov] w' K=K (.int .i64 t.a.toNat) w':=fun w' K=>by rw[ho5.ints.len xp,M.offsL_len]
  rw[hlen5]
  refine vloop_up t.a.toNat (fun j u w'=>u=[.int .i64 j]∧Ext w2 w'∧OwnI PP za w' ov ((M.fixB t.a t.b).take j++List.replicate (t.a.toNat-j) (-1))) ⟨rfl,e25,ho5⟩ ?_
  rintro j _ g w6 C hj ⟨rfl,he6,ho6⟩ hC
  have z25:=e25.size;have z24:=e24.size
  simp only[push_cast]
  refine zg (fun hlt=>?_) (fun hge=>?_)
  ·have hT6:=hT2.ext he6
   simp(disch:=first|(simp only[push_cast];done)|omega) only[push_cast,hT6.ld2]
   rw[jj xA0 (show qn0 PP y9 .u64 by unfold qn0;kernel_rfl),show t.b=((t.b.toNat:Nat):Int) by omega,wrapU (by omega)]
   refine bit_spec (by omega) (by omega) ?_
   have hll:((M.fixB t.a t.b).take j++List.replicate (t.a.toNat-j) (-1)).length=t.a.toNat:=by
    rw[List.length_append,List.length_take,M.fixB_len,List.length_replicate];omega
   refine zg (fun c=>?_) (fun c=>?_)
   ·rw[ho6.ints.iaddr x8 (by omega) (by rw[hll];omega),Int.toNat_natCast]
    refine ho6.st yg (by rw[hll];omega) fun w7 ho7 hs7 hz7=>?_
    have hst:=fix_step (wd:=t.a) (nn:=t.b) (j:=j) (by omega)
    rw[if_pos c] at hst
    rw[hst] at ho7
    try simp(disch:=omega) only[push_cast,zA]
    exact hC (by omega) _ _ ⟨by simp,Ext.then he6 hs7 fun b hb=>by have:=hn5 b hb;omega,ho7⟩
   ·have hst:=fix_step (wd:=t.a) (nn:=t.b) (j:=j) (by omega)
    rw[if_neg c] at hst
    have hsame:((M.fixB t.a t.b).take j++List.replicate (t.a.toNat-j) (-1)).set j (-1)=(M.fixB t.a t.b).take j++List.replicate (t.a.toNat-j) (-1):=by
     have hl:((M.fixB t.a t.b).take j).length=j:=by rw[List.length_take,M.fixB_len];omega
     rw[List.set_append_right _ _ (by omega),hl,Nat.sub_self,show t.a.toNat-j=(t.a.toNat-(j+1))+1 by omega,List.replicate_succ,List.set_cons_zero]
    rw[hsame] at hst
    rw[hst] at ho6
    try simp(disch:=omega) only[push_cast,zA]
    exact hC (by omega) _ _ ⟨by simp,he6,ho6⟩
  ·have hje:j=t.a.toNat:=by omega
   rw[hje,Nat.sub_self,List.replicate_zero,List.append_nil,List.take_of_length_le (by rw[M.fixB_len];exact Nat.le_refl _)] at ho6
   exact hKe w6 he6 w6 F (some gs) ov _ (hbd2.ext he6) Mv.refl (NewI.of (w:=w2) ho6 (fun b hb=>by have:=hn5 b hb;omega) hbd2.lt).ints SmL.fix (M.Bd.Out.ret _ _)
 rw[if_neg c20] at hKe
 by_cases c21:t.op=21
 ·have hkt:kTy t.op=zK:=by rw[c21];rfl
  have:=hr1 (by omega)
  subst this
  rw[hkt]
  simp only[qm yQ xa (show zK≠zP by decide),Kt yR,push_cast]
  rw[if_pos c21] at hKe
  refine zD xg fun b3 w3 hb3 he3 hz3 hB3=>?_
  refine stKind hB3 WO fun w4 hs4=>?_
  have e24:Ext w2 w4:=Ext.then he3 hs4 fun y hy=>by subst hy;omega
  have hT4:=hT2.ext e24
  have hf:=M.name_found hs c21
  have hlt:=M.findD_lt ds t.s
  simp(disch:=first|(simp only[push_cast];done)|omega) only[push_cast,hT4.ld3]
  refine inputs_spec (hB2.ext e24) (hdv2.ext e24) hd hf fun w5 r5 he5 ho5 hn5=>?_
  have z24:=e24.size
  exact hKe w5 (e24.trans he5) w5 F (some gs) r5 _ (hbd2.ext (e24.trans he5)) Mv.refl (NewI.of (w:=w2) ho5 (fun b hb=>by have:=hn5 b hb;omega) hbd2.lt).ints (SmL.name hd (by omega)) (M.Bd.Out.ret _ _)
 rw[if_neg c21] at hKe
 by_cases c24:24≤t.op
 ·have hkt:kTy t.op=zy:=by
   unfold kTy
   repeat rw[if_neg (by omega)]
  obtain⟨f,rfl,hof⟩:=hr2 c24
  rw[hkt]
  simp only[qm yQ xa (show zy≠zP by decide),qm yR xg (show zy≠zK by decide),qm xw xD (show zy≠zN by decide),qm xP qf (show zy≠zU by decide),qm qk qW (show zy≠zM by decide),qm qF kZ (show zy≠zR by decide),qm qE kY (show zy≠zT by decide),qm Z9 Xd (show zy≠zH by decide),Kt YY,push_cast]
  refine zD Wd fun b3 w3 hb3 he3 hz3 hB3=>?_
  refine hB3.stAgg (cs':=[.string s,.int .i64 mm,f]) rfl XK (by intro v hv;simp only[List.mem_cons,List.not_mem_nil,or_false] at hv;rcases hv with rfl|rfl|rfl<;>first|rfl|exact hof) fun w4 hs4 _ hB4=>?_
  have e24:Ext w2 w4:=Ext.then he3 hs4 fun y hy=>by subst hy;omega
  have hT4:=hT2.ext e24
  rw[hB4.ldAgg (t:=zy) XK,hT4.ldAgg (t:=z7) zJ]
  apply QH;unfold kL
  refine zx fun b6 w6 hb6 he6 hz6 hB6=>?_
  refine zx fun b7 w7 hb7 he7 hz7 hB7=>?_
  have e27:Ext w2 w7:=e24.trans (he6.trans he7)
  simp(disch:=first|(simp only[push_cast];done)|omega) only[push_cast,hB7.ld0]
  have fin:∀(w8:World) (F8:Nat→Prop) (st8:Option M.Gs) (x:Int),BdR n bb ar ab X F8 w8 st8→Mv F w2 F8 w8→Sm x→M.Bd.Out n (M.nodeB ds t rs) (some gs) st8 [x]→vbuildS PP za 1 [(0,.int .i64 x)] w8 K:=fun w8 F8 st8 x h8 hm8 hx8 ho8=>by
   refine ya yN yg yu rfl rfl fun b9 w9 hb9 he9 hz9 hB9=>?_
   have ho9:OwnI PP za w9 (.slice (some ⟨b9,0,none⟩) 1 1) [x]:=Blk.own1 (P:=PP) (t:=za) (cs:=[Value.int .i64 x]) (by rw[xd];exact hB9) (Nat.zero_le _) rfl rfl (by omega)
   exact hK w9 F8 st8 _ [x] (h8.ext he9) (((Mv.refl.ext e2).trans hm8).ext he9) (NewI.of (w:=w8) ho9 (fun b hb=>by have e:b9=b:=Option.some.inj hb;omega) h8.lt).ints (SmL.one hx8) ho8
  unfold M.nodeB at fin
  rw[if_neg c20,if_neg c21] at fin
  by_cases c:t.op=24
  ·rw[if_pos c] at fin
   rw[decide_eq_false (by omega),decide_eq_false (by omega),decide_eq_false (by omega)]
   simp only[push_cast]
   exact fin w7 F (some gs) 1 (hbd2.ext e27) (Mv.refl.ext e27) (by decide) (M.Bd.Out.ret _ _)
  rw[if_neg c] at fin
  obtain⟨hk7,hL7⟩:=q7 (by omega)
  have hk0:1≤t.ks.length:=by split at hk7<;>omega
  have hL0:=hL7 0 (by omega)
  by_cases c25:t.op=25
  ·rw[if_pos c25] at fin
   rw[decide_eq_true c25]
   simp only[push_cast]
   have A0:∀K:Value→World→Prop,zl PP zw kv (.int .i64 0) w7 K=K (.pointer (some (eaddr kv 1 0))) w7:=fun K=>(hA w7 e27 0 (by omega) K).1
   have B0:∀K:Value→World→Prop,ze PP za (.pointer (some (eaddr kv 1 0))) w7 K=K (vs.getD 0 undef) w7:=fun K=>(hA w7 e27 0 (by omega) K).2
   have V0:Ints (Off X F) w7 (vs.getD 0 undef) (rs.getD 0 []):=(hvs 0 (by omega)).ext e27
   have S0:=(hkids.sml (i:=0) (by omega)).get (i:=0) (by omega)
   unfold Sm at S0
   simp(disch:=first|(simp only[push_cast];done)|omega) only[A0,B0,V0.iaddr,V0.load,push_cast,zA,Int.zero_sub]
   exact fin w7 F (some gs) _ (hbd2.ext e27) (Mv.refl.ext e27) (by unfold Sm;rw[Int.natAbs_neg];exact S0) (M.Bd.Out.ret _ _)
  rw[if_neg c25] at fin
  rw[decide_eq_false c25]
  have hk2:t.ks.length=2:=by rw[if_neg c25] at hk7;exact hk7
  have hL1:=hL7 1 (by omega)
  simp only[push_cast]
  have two:∀(w8:World),Ext w2 w8→(∀K:Value→World→Prop,zl PP zw kv (.int .i64 0) w8 K=K (.pointer (some (eaddr kv 1 0))) w8)∧(∀K:Value→World→Prop,ze PP za (.pointer (some (eaddr kv 1 0))) w8 K=K (vs.getD 0 undef) w8)∧(∀K:Value→World→Prop,zl PP zw kv (.int .i64 1) w8 K=K (.pointer (some (eaddr kv 1 1))) w8)∧(∀K:Value→World→Prop,ze PP za (.pointer (some (eaddr kv 1 1))) w8 K=K (vs.getD 1 undef) w8)∧Ints (Off X F) w8 (vs.getD 0 undef) (rs.getD 0 [])∧Ints (Off X F) w8 (vs.getD 1 undef) (rs.getD 1 []):=fun w8 e8=>
   ⟨fun K=>(hA w8 e8 0 (by omega) K).1,fun K=>(hA w8 e8 0 (by omega) K).2,fun K=>(hA w8 e8 1 (by omega) K).1,fun K=>(hA w8 e8 1 (by omega) K).2,(hvs 0 (by omega)).ext e8,(hvs 1 (by omega)).ext e8⟩
  have S0:=(hkids.sml (i:=0) (by omega)).get (i:=0) (by omega)
  have S1:=(hkids.sml (i:=1) (by omega)).get (i:=0) (by omega)
  by_cases c26:t.op=26
  ·rw[if_pos c26] at fin
   rw[decide_eq_true c26]
   simp only[push_cast]
   refine zt fun w8 he8 _=>?_
   have e28:=e27.trans he8
   have hB8:=hB2.ext e28
   obtain⟨A0,B0,A1,B1,V0,V1⟩:=two w8 e28
   simp(disch:=first|(simp only[push_cast];done)|omega) only[hB8.ld0,A0,B0,A1,B1,V0.iaddr,V0.load,V1.iaddr,V1.load,push_cast,true_and]
   refine jA (hbd2.ext e28) S0 S1 fun w9 F9 st9 x h9 hm9 hx9 ho9=>fin w9 F9 st9 x h9 ((Mv.refl.ext e28).trans hm9) hx9 ?_
   exact xR ho9 (M.Bd.Out.ret _ _)
  rw[if_neg c26,if_pos (by omega)] at fin
  rw[decide_eq_false c26,decide_eq_true (show t.op=27 by omega)]
  simp only[push_cast]
  refine zt fun w8 he8 _=>?_
  have e28:=e27.trans he8
  have hB8:=hB2.ext e28
  obtain⟨A0,B0,A1,B1,V0,V1⟩:=two w8 e28
  simp(disch:=first|(simp only[push_cast];done)|omega) only[hB8.ld0,A0,B0,A1,B1,V0.iaddr,V0.load,V1.iaddr,V1.load,push_cast,true_and]
  exact bor_spec (hbd2.ext e28) S0 S1 fun w9 F9 st9 x h9 hm9 hx9 ho9=>fin w9 F9 st9 x h9 ((Mv.refl.ext e28).trans hm9) hx9 (M.Bd.Out.map _ ho9)
 rw[if_neg (by omega),if_neg (by omega),if_neg (by omega),if_neg (by omega)] at hKe
 by_cases c23:t.op=23
 ·have hkt:kTy t.op=zU:=by rw[c23];rfl
  have:=hr1 (by omega)
  subst this
  obtain⟨k1,l0,l1,l2,l3⟩:=q6 c23
  rw[hkt]
  simp only[qm yQ xa (show zU≠zP by decide),qm yR xg (show zU≠zK by decide),qm xw xD (show zU≠zN by decide),Kt xP,push_cast]
  rw[if_pos c23] at hKe
  refine zD qf fun b3 w3 hb3 he3 hz3 hB3=>?_
  refine stKind hB3 zC0 fun w4 hs4=>?_
  have e24:Ext w2 w4:=Ext.then he3 hs4 fun y hy=>by subst hy;omega
  refine zt fun w5 he5 _=>?_
  have e25:=e24.trans he5
  have hT5:=hT2.ext e25
  have hB5:=hB2.ext e25
  have hbd5:=hbd2.ext e25
  have A0:∀K:Value→World→Prop,zl PP zw kv (.int .i64 0) w5 K=K (.pointer (some (eaddr kv 1 0))) w5:=fun K=>(hA w5 e25 0 (by omega) K).1
  have B0:∀K:Value→World→Prop,ze PP za (.pointer (some (eaddr kv 1 0))) w5 K=K (vs.getD 0 undef) w5:=fun K=>(hA w5 e25 0 (by omega) K).2
  have V0:Ints (Off X F) w5 (vs.getD 0 undef) (rs.getD 0 []):=(hvs 0 (by omega)).ext e25
  have S0:=hkids.sml (i:=0) (by omega)
  have A1:∀K:Value→World→Prop,zl PP zw kv (.int .i64 1) w5 K=K (.pointer (some (eaddr kv 1 1))) w5:=fun K=>(hA w5 e25 1 (by omega) K).1
  have B1:∀K:Value→World→Prop,ze PP za (.pointer (some (eaddr kv 1 1))) w5 K=K (vs.getD 1 undef) w5:=fun K=>(hA w5 e25 1 (by omega) K).2
  have V1:Ints (Off X F) w5 (vs.getD 1 undef) (rs.getD 1 []):=(hvs 1 (by omega)).ext e25
  have S1:=hkids.sml (i:=1) (by omega)
  have A2:∀K:Value→World→Prop,zl PP zw kv (.int .i64 2) w5 K=K (.pointer (some (eaddr kv 1 2))) w5:=fun K=>(hA w5 e25 2 (by omega) K).1
  have B2:∀K:Value→World→Prop,ze PP za (.pointer (some (eaddr kv 1 2))) w5 K=K (vs.getD 2 undef) w5:=fun K=>(hA w5 e25 2 (by omega) K).2
  have V2:Ints (Off X F) w5 (vs.getD 2 undef) (rs.getD 2 []):=(hvs 2 (by omega)).ext e25
  have S2:=hkids.sml (i:=2) (by omega)
  simp(disch:=first|(simp only[push_cast];done)|omega) only[hB5.ld0,hT5.ld0,hT5.ld1,hT5.ld2,A0,B0,V0.iaddr,V0.load,A1,B1,V1.iaddr,V1.load,A2,B2,V2.iaddr,V2.load,push_cast,zA,true_and]
  exact choose_spec hbd5 ⟨gs,rfl⟩ V1 V2 l1 (by omega) S1 S2 (S0.get (by omega)) fun w6 F6 st6 r6 zs h6 hm6 hr6 hz6 ho6=>hKe w5 e25 w6 F6 st6 r6 zs h6 hm6 hr6 hz6 ho6
 rw[if_neg c23] at hKe
 by_cases c22:t.op=22
 ·have hkt:kTy t.op=zN:=by rw[c22];rfl
  have:=hr1 (by omega)
  subst this
  obtain⟨k1,l0,l1,l2,l3⟩:=q5 c22
  rw[hkt]
  simp only[qm yQ xa (show zN≠zP by decide),qm yR xg (show zN≠zK by decide),Kt xw,push_cast]
  rw[if_pos c22] at hKe
  refine zD xD fun b3 w3 hb3 he3 hz3 hB3=>?_
  refine stKind hB3 Um fun w4 hs4=>?_
  have e24:Ext w2 w4:=Ext.then he3 hs4 fun y hy=>by subst hy;omega
  refine zt fun w5 he5 _=>?_
  have e25:=e24.trans he5
  have hT5:=hT2.ext e25
  have hB5:=hB2.ext e25
  have hbd5:=hbd2.ext e25
  have A0:∀K:Value→World→Prop,zl PP zw kv (.int .i64 0) w5 K=K (.pointer (some (eaddr kv 1 0))) w5:=fun K=>(hA w5 e25 0 (by omega) K).1
  have B0:∀K:Value→World→Prop,ze PP za (.pointer (some (eaddr kv 1 0))) w5 K=K (vs.getD 0 undef) w5:=fun K=>(hA w5 e25 0 (by omega) K).2
  have V0:Ints (Off X F) w5 (vs.getD 0 undef) (rs.getD 0 []):=(hvs 0 (by omega)).ext e25
  have S0:=hkids.sml (i:=0) (by omega)
  simp(disch:=first|(simp only[push_cast];done)|omega) only[hB5.ld0,hT5.ld0,hT5.ld1,hT5.ld2,A0,B0,V0.iaddr,V0.load,push_cast,zA,true_and]
  rw[show t.b=((t.b.toNat:Nat):Int) by omega,show t.a+1=((t.a.toNat+1:Nat):Int) by omega]
  refine Ints.cutLH V0 x8 (by omega) (by omega) fun cv hcv=>⟨rfl,?_⟩
  refine Clone_signal hcv (by rw[List.length_take,List.length_drop];omega) fun w6 r6 he6 ho6 hn6=>?_
  refine hKe w5 e25 w6 F (some gs) r6 _ (hbd5.ext he6) (Mv.refl.ext he6) (NewI.of (w:=w5) ho6 hn6 hbd5.lt).ints (fun x hx=>S0 x (List.mem_of_mem_drop (List.mem_of_mem_take hx))) ?_
  rw[show t.a.toNat+1-t.b.toNat=(t.a-t.b+1).toNat by omega]
  exact M.Bd.Out.ret _ _
 rw[if_neg c22] at hKe
 by_cases c2:t.op≤2
 ·have hkt:kTy t.op=zM:=by unfold kTy;rw[if_pos c2]
  have:=hr1 (by omega)
  subst this
  obtain⟨k1,l0,l1⟩:=q1 (by omega) c2
  rw[hkt]
  simp only[qm yQ xa (show zM≠zP by decide),qm yR xg (show zM≠zK by decide),qm xw xD (show zM≠zN by decide),qm xP qf (show zM≠zU by decide),Kt qk,push_cast]
  rw[if_pos c2] at hKe
  refine zD qW fun b3 w3 hb3 he3 hz3 hB3=>?_
  refine stKind hB3 zB0 fun w4 hs4=>?_
  have e24:Ext w2 w4:=Ext.then he3 hs4 fun y hy=>by subst hy;omega
  refine zt fun w5 he5 _=>?_
  have e25:=e24.trans he5
  have hT5:=hT2.ext e25
  have hB5:=hB2.ext e25
  have hbd5:=hbd2.ext e25
  have A0:∀K:Value→World→Prop,zl PP zw kv (.int .i64 0) w5 K=K (.pointer (some (eaddr kv 1 0))) w5:=fun K=>(hA w5 e25 0 (by omega) K).1
  have B0:∀K:Value→World→Prop,ze PP za (.pointer (some (eaddr kv 1 0))) w5 K=K (vs.getD 0 undef) w5:=fun K=>(hA w5 e25 0 (by omega) K).2
  have V0:Ints (Off X F) w5 (vs.getD 0 undef) (rs.getD 0 []):=(hvs 0 (by omega)).ext e25
  have S0:=hkids.sml (i:=0) (by omega)
  simp(disch:=first|(simp only[push_cast];done)|omega) only[hB5.ld0,hT5.ld0,hT5.ld1,hT5.ld2,A0,B0,V0.iaddr,V0.load,push_cast,zA,true_and]
  exact un_spec hbd5 (by omega) V0 (by omega) S0 fun w6 F6 st6 r6 zs h6 hm6 hr6 hz6 ho6=>hKe w5 e25 w6 F6 st6 r6 zs h6 hm6 hr6 hz6 ho6
 rw[if_neg c2] at hKe
 by_cases c15:15≤t.op
 ·have hkt:kTy t.op=zH:=by unfold kTy;rw[if_neg (by omega),if_neg (by omega),if_neg (by omega),if_pos (by omega)]
  have:=hr1 (by omega)
  subst this
  obtain⟨k1,l0,l1,l2⟩:=q4 c15 (by omega)
  rw[hkt]
  simp only[qm yQ xa (show zH≠zP by decide),qm yR xg (show zH≠zK by decide),qm xw xD (show zH≠zN by decide),qm xP qf (show zH≠zU by decide),qm qk qW (show zH≠zM by decide),qm qF kZ (show zH≠zR by decide),qm qE kY (show zH≠zT by decide),Kt Z9,push_cast]
  rw[if_pos (by omega)] at hKe
  refine zD Xd fun b3 w3 hb3 he3 hz3 hB3=>?_
  refine stKind hB3 Un fun w4 hs4=>?_
  have e24:Ext w2 w4:=Ext.then he3 hs4 fun y hy=>by subst hy;omega
  refine zt fun w5 he5 _=>?_
  have e25:=e24.trans he5
  have hT5:=hT2.ext e25
  have hB5:=hB2.ext e25
  have hbd5:=hbd2.ext e25
  have A0:∀K:Value→World→Prop,zl PP zw kv (.int .i64 0) w5 K=K (.pointer (some (eaddr kv 1 0))) w5:=fun K=>(hA w5 e25 0 (by omega) K).1
  have B0:∀K:Value→World→Prop,ze PP za (.pointer (some (eaddr kv 1 0))) w5 K=K (vs.getD 0 undef) w5:=fun K=>(hA w5 e25 0 (by omega) K).2
  have V0:Ints (Off X F) w5 (vs.getD 0 undef) (rs.getD 0 []):=(hvs 0 (by omega)).ext e25
  have S0:=hkids.sml (i:=0) (by omega)
  have A1:∀K:Value→World→Prop,zl PP zw kv (.int .i64 1) w5 K=K (.pointer (some (eaddr kv 1 1))) w5:=fun K=>(hA w5 e25 1 (by omega) K).1
  have B1:∀K:Value→World→Prop,ze PP za (.pointer (some (eaddr kv 1 1))) w5 K=K (vs.getD 1 undef) w5:=fun K=>(hA w5 e25 1 (by omega) K).2
  have V1:Ints (Off X F) w5 (vs.getD 1 undef) (rs.getD 1 []):=(hvs 1 (by omega)).ext e25
  have S1:=hkids.sml (i:=1) (by omega)
  simp(disch:=first|(simp only[push_cast];done)|omega) only[hB5.ld0,hT5.ld0,hT5.ld1,hT5.ld2,A0,B0,V0.iaddr,V0.load,A1,B1,V1.iaddr,V1.load,push_cast,zA,true_and]
  refine compare_spec hbd5 ⟨gs,rfl⟩ c15 (by omega) V0 V1 l0 l1 (by omega) S0 S1 fun w6 F6 st6 x h6 hm6 hx6 ho6=>?_
  refine ya yN yg yu rfl rfl fun b9 w9 hb9 he9 hz9 hB9=>?_
  have ho9:OwnI PP za w9 (.slice (some ⟨b9,0,none⟩) 1 1) [x]:=Blk.own1 (P:=PP) (t:=za) (cs:=[Value.int .i64 x]) (by rw[xd];exact hB9) (Nat.zero_le _) rfl rfl (by omega)
  exact hKe w5 e25 w9 F6 st6 _ [x] (h6.ext he9) (hm6.ext he9) (NewI.of (w:=w6) ho9 (fun b hb=>by have e:b9=b:=Option.some.inj hb;omega) h6.lt).ints (SmL.one hx6) (M.Bd.Out.map _ ho6)
 rw[if_neg (by omega)] at hKe
 have hkt2:kTy t.op=zR∨kTy t.op=zT:=by
  unfold kTy
  rw[if_neg c2]
  by_cases c:t.op≤13
  ·rw[if_pos c];exact .inl rfl
  ·rw[if_neg c,if_pos (by omega)];exact .inr rfl
 have:=hr1 (by omega)
 subst this
 have hlr:t.ks.length=2∧(t.op≠14→(rs.getD 0 []).length=(rs.getD 1 []).length)∧(t.op=14→(rs.getD 0 []).length+(rs.getD 1 []).length≤4)∧1≤(rs.getD 0 []).length∧(rs.getD 0 []).length≤4:=by
  by_cases c:t.op=14
  ·obtain⟨a1,a2,a3,a4⟩:=q3 c
   exact⟨a1,fun h=>absurd c h,fun _=>a4,a2,by omega⟩
  ·obtain⟨a1,a2,a3,a4⟩:=q2 (by omega) (by omega)
   exact⟨a1,fun _=>a2,fun h=>absurd h c,a3,a4⟩
 obtain⟨k1,l0,l1,l2,l3⟩:=hlr
 have go:y3 w2 fun w_90=>ze PP zO (.pointer (some ⟨bl,0,none⟩)) w_90 fun t107 w_93=>w_93=w_90∧ze PP zc (.pointer (some ⟨b1,0,none⟩)) w_90 fun t109 w_95=>w_95=w_90∧
   zl PP zw kv (.int .i64 0) w_90 fun t111 w_96=>w_96=w_90∧ze PP za t111 w_90 fun t112 w_97=>w_97=w_90∧zl PP zw kv (.int .i64 1) w_90 fun t114 w_98=>w_98=w_90∧
   ze PP za t114 w_90 fun t115 w_99=>w_99=w_90∧vcall PP qo #[t107,t109,t112,t115] w_90 K:=by
  refine zt fun w5 he5 _=>?_
  have e25:=he5
  have hT5:=hT2.ext e25
  have hB5:=hB2.ext e25
  have hbd5:=hbd2.ext e25
  have A0:∀K:Value→World→Prop,zl PP zw kv (.int .i64 0) w5 K=K (.pointer (some (eaddr kv 1 0))) w5:=fun K=>(hA w5 e25 0 (by omega) K).1
  have B0:∀K:Value→World→Prop,ze PP za (.pointer (some (eaddr kv 1 0))) w5 K=K (vs.getD 0 undef) w5:=fun K=>(hA w5 e25 0 (by omega) K).2
  have V0:Ints (Off X F) w5 (vs.getD 0 undef) (rs.getD 0 []):=(hvs 0 (by omega)).ext e25
  have S0:=hkids.sml (i:=0) (by omega)
  have A1:∀K:Value→World→Prop,zl PP zw kv (.int .i64 1) w5 K=K (.pointer (some (eaddr kv 1 1))) w5:=fun K=>(hA w5 e25 1 (by omega) K).1
  have B1:∀K:Value→World→Prop,ze PP za (.pointer (some (eaddr kv 1 1))) w5 K=K (vs.getD 1 undef) w5:=fun K=>(hA w5 e25 1 (by omega) K).2
  have V1:Ints (Off X F) w5 (vs.getD 1 undef) (rs.getD 1 []):=(hvs 1 (by omega)).ext e25
  have S1:=hkids.sml (i:=1) (by omega)
  simp(disch:=first|(simp only[push_cast];done)|omega) only[hB5.ld0,hT5.ld0,A0,B0,A1,B1,push_cast,true_and]
  exact bin_spec hbd5 ⟨gs,rfl⟩ (by omega) (by omega) V0 V1 l0 l1 l2 (by omega) S0 S1 fun w6 F6 st6 r6 zs h6 hm6 hr6 hz6 ho6=>hKe w5 e25 w6 F6 st6 r6 zs h6 hm6 hr6 hz6 ho6
 rcases hkt2 with hkt|hkt
 ·rw[hkt]
  simp only[qm yQ xa (show zR≠zP by decide),qm yR xg (show zR≠zK by decide),qm xw xD (show zR≠zN by decide),qm xP qf (show zR≠zU by decide),qm qk qW (show zR≠zM by decide),qm qE kY (show zR≠zT by decide),Kt qF,push_cast]
  exact go
 ·rw[hkt]
  simp only[qm yQ xa (show zT≠zP by decide),qm yR xg (show zT≠zK by decide),qm xw xD (show zT≠zN by decide),qm xP qf (show zT≠zU by decide),qm qk qW (show zT≠zM by decide),qm qF kZ (show zT≠zR by decide),Kt qE,push_cast]
  exact go
end
end Go.Proofs.YtaekfnbnhjgboaaGreatDoor
end
section
namespace Go.Proofs.YtaekfnbnhjgboaaGreatDoor
open Go Go.Vc Go.Proofs
variable {w:World} {K:Value→World→Prop} {F F' Fx Fy Fk Q X:Nat→Prop} {n bl bc mb bb kb m:Nat} {gs:M.Gs} {v dv:Value} {ar ab:Addr} {st:Option M.Gs} {ds:List M.Dcl}
def TOut {α:Type} (n:Nat) (p:M.Bd α) (st st':Option M.Gs) (a:α):Prop:=
 (∃gs gs',st=some gs∧st'=some gs'∧p.run n gs=some (gs',a))∨(st'=none∧∀gs,st=some gs→p.run n gs=none)
theorem TOut.pre {α:Type} {p:M.Bd α} {st st':Option M.Gs} {a:α} (h:TOut n p st st' a):∀gs',st'=some gs'→∃gs,st=some gs∧gs<+:gs':=fun gs' e=>by
 rcases h with⟨gs,g2,h1,h2,h3⟩|⟨h1,_⟩
 ·rw[h2] at e;cases e
  exact⟨gs,h1,M.Bd.run_pre h3⟩
 ·rw[h1] at e;cases e
theorem Out.pre' {α:Type} {p:M.Bd α} {st st':Option M.Gs} {a:α} (h:M.Bd.Out n p st st' a):∀gs',st'=some gs'→∃gs,st=some gs∧gs<+:gs':=fun gs' e=>by
 cases st with
 |none=>rw[h.1] at e;cases e
 |some gs=>
  rcases h with⟨g2,h1,h2⟩|⟨_,h2,_⟩
  ·rw[h2] at e;cases e;exact⟨gs,rfl,M.Bd.run_pre h1⟩
  ·rw[h2] at e;cases e
theorem zs0 (ps:List (M.Bd (List Int))) (p:M.Bd (List Int)):∀(gs:M.Gs),(M.seqB (ps++[p])).run n gs=((M.seqB ps).run n gs).bind fun r=>(p.run n r.1).map fun q=>(q.1,r.2++[q.2]):=by
 induction ps with
 |nil=>
  intro gs
  show((p.bind fun r=>(M.Bd.ret []:M.Bd (List (List Int))).map (r:: ·))).run n gs=_
  rw[M.Bd.run_bind]
  show _=(p.run n gs).map _
  cases p.run n gs<;>rfl
 |cons q ps ih=>
  intro gs
  show(q.bind fun r=>(M.seqB (ps++[p])).map (r:: ·)).run n gs=((q.bind fun r=>(M.seqB ps).map (r:: ·)).run n gs).bind _
  rw[M.Bd.run_bind,M.Bd.run_bind]
  cases q.run n gs with
  |none=>rfl
  |some a=>
   show((M.seqB (ps++[p])).bind fun x=>M.Bd.ret (a.2::x)).run n a.1=(((M.seqB ps).bind fun x=>M.Bd.ret (a.2::x)).run n a.1).bind _
   rw[M.Bd.run_bind,M.Bd.run_bind,ih]
   cases (M.seqB ps).run n a.1 with
   |none=>rfl
   |some b=>
    show((p.run n b.1).map _).bind _=(p.run n b.1).map _
    cases p.run n b.1<;>rfl
theorem TOut.snoc {ps:List (M.Bd (List Int))} {p:M.Bd (List Int)} {st st1 st2:Option M.Gs} {rs:List (List Int)} {r:List Int} (h:TOut n (M.seqB ps) st st1 rs) (h2:TOut n p st1 st2 r):TOut n (M.seqB (ps++[p])) st st2 (rs++[r]):=by
 rcases h with⟨g0,g1,a1,a2,a3⟩|⟨a1,a2⟩
 ·rcases h2 with⟨g1',g2,b1,b2,b3⟩|⟨b1,b2⟩
  ·rw[a2] at b1;cases b1
   exact .inl ⟨g0,g2,a1,b2,by rw[zs0,a3];show(p.run n g1).map _=_;rw[b3];rfl⟩
  ·refine .inr ⟨b1,fun gs e=>?_⟩
   rw[a1] at e;cases e
   rw[zs0,a3];show(p.run n g1).map _=_;rw[b2 g1 a2];rfl
 ·rcases h2 with⟨g1',g2,b1,b2,b3⟩|⟨b1,b2⟩
  ·rw[a1] at b1;cases b1
  ·exact .inr ⟨b1,fun gs e=>by rw[zs0,a2 gs e];rfl⟩
theorem TOut.root {t:M.Tm} {st st1 st2:Option M.Gs} {rs:List (List Int)} {zs:List Int} (h:TOut n (M.seqB (t.ks.map (M.termB ds))) st st1 rs):(∀gs1,st1=some gs1→M.Bd.Out n (M.nodeB ds t rs) (some gs1) st2 zs)→(st1=none→st2=none)→TOut n (M.termB ds t) st st2 zs:=fun h2 h3=>by
 rcases h with⟨g0,g1,a1,a2,a3⟩|⟨a1,a2⟩
 ·rcases h2 g1 a2 with⟨g2,b1,b2⟩|⟨b1,b2,_⟩
  ·exact .inl ⟨g0,g2,a1,b2,by rw[M.termB_eq,M.Bd.run_bind,a3];exact b1⟩
  ·refine .inr ⟨b2,fun gs e=>?_⟩
   rw[a1] at e;cases e
   rw[M.termB_eq,M.Bd.run_bind,a3];exact b1
 ·exact .inr ⟨h3 a1,fun gs e=>by rw[M.termB_eq,M.Bd.run_bind,a2 gs e];rfl⟩
def P1 (m:Nat) (F:Nat→Prop) (b:Nat):Prop:=F b∨b=m
theorem Mv.p1 {w':World} (h:Mv F w F' w'):Mv (P1 m F) w (P1 m F') w':=
 ⟨h.same.mono fun _ _ h=> .inl h,fun b hb=>hb.elim (fun hb=>(h.new b hb).imp .inl id) fun hb=> .inl (.inr hb)⟩
theorem Sl.mvX {k:Nat} {v:Value} {xs:List (List Value)} {w':World} (h:Sl (Off X F) w k v xs) (hX:X m) (hm:Mv (P1 m F) w (P1 m F') w'):Sl (Off X F') w' k v xs:=by
 have h1:Sl (fun b=>Off X F b∧b<w.heap.size) w k v xs:=h.weaken fun b hb hl=>⟨hb,hl⟩
 have h2:=h1.same hm.same fun b hb _ hp=>hp.elim hb.1.1 fun e=>hb.1.2 (e▸hX)
 exact h2.weaken fun b hb _=>⟨fun hf=>hm.off (fun hp=>hp.elim hb.1.1 fun e=>hb.1.2 (e▸hX)) hb.2 (.inl hf),hb.1.2⟩
def MetR (n:Nat) (ds:List M.Dcl) (m:Nat) (X F:Nat→Prop) (w:World) (st:Option M.Gs):Prop:=
 ∃f,MapF .string w m f∧∀p,p∈f→∃(u:M.Tm) (s:ByteArray) (v:Value) (zs:List Int),p=(.string s,v)∧s.data.toList=M.textL u∧M.sortM ds u≠ -1∧Ints (Off X F) w v zs∧SmL zs∧∀gs,st=some gs→(M.termB ds u).run n gs=some (gs,zs)
structure BlR (n bl bb kb m:Nat) (ar ab:Addr) (ds:List M.Dcl) (dv:Value) (X F:Nat→Prop) (w:World) (st:Option M.Gs):Prop where
 bd:BdR n bb ar ab X F w st
 blk:Blk w bl [.pointer (some ⟨bb,0,none⟩),dv,.map (some kb),.map (some m)] zL
 off: ¬F bl∧¬F m∧¬F kb∧bl≠m∧kb≠m
 ext:X m
 dcl:DclsR (Off X F) w dv ds
 kin:KindsR w kb
 met:MetR n ds m X F w st
theorem KindsR.same {w':World} {S:Nat→Prop} (h:KindsR w kb) (hs:Same S w w') (hn: ¬S kb):KindsR w' kb:=by
 obtain⟨f,h1,h2⟩:=h;exact⟨f,h1.same hs hn,h2⟩
theorem KindsR.lt (h:KindsR w kb):kb<w.heap.size:=by obtain⟨f,h1,h2⟩:=h;exact h1.lt
theorem MetR.lt (h:MetR n ds m X F w st):m<w.heap.size:=by obtain⟨f,h1,h2⟩:=h;exact h1.lt
theorem BlR.step {w':World} {st':Option M.Gs} (h:BlR n bl bb kb m ar ab ds dv X F w st) (hb:BdR n bb ar ab X F' w' st') (hm:Mv F w F' w') (hp:∀gs',st'=some gs'→∃gs,st=some gs∧gs<+:gs'):BlR n bl bb kb m ar ab ds dv X F' w' st':=by
 obtain⟨o1,o2,o3,o4,o5⟩:=h.off
 refine⟨hb,h.blk.same hm.same o1,⟨hm.off o1 h.blk.lt,hm.off o2 h.met.lt,hm.off o3 h.kin.lt,o4,o5⟩,h.ext,Sl.mvX h.dcl h.ext hm.p1,h.kin.same hm.same o3,?_⟩
 obtain⟨f,hf,hp2⟩:=h.met
 refine⟨f,hf.same hm.same o2,fun p hpf=>?_⟩
 obtain⟨u,s,v,zs,a1,a2,a3,a4,a5,a6⟩:=hp2 p hpf
 refine⟨u,s,v,zs,a1,a2,a3,Sl.mvX a4 h.ext hm.p1,a5,fun gs' e=>?_⟩
 obtain⟨gs,e1,e2⟩:=hp gs' e
 exact M.Bd.run_again (a6 gs e1) e2
theorem BlR.grow {w':World} (h:BlR n bl bb kb m ar ab ds dv X F w st) (he:Ext w w'):BlR n bl bb kb m ar ab ds dv X F w' st:=h.step (h.bd.ext he) (Mv.refl.ext he) fun gs e=>⟨gs,e,List.prefix_refl _⟩
theorem BlR.swap {w0 w':World} {X0 F0 S Y:Nat→Prop} {st0:Option M.Gs} (h:BlR n bl bb kb m ar ab ds dv X F w st) (h0:BlR n bl bb kb m ar ab ds dv X0 F0 w0 st0) (hw:Same S w w') (hS:∀b,S b→X b∧w0.heap.size≤b∧¬F b)
  (hY:∀b,Y b→b<w'.heap.size∧(b<w.heap.size→X b)) (hm:Y m):BlR n bl bb kb m ar ab ds dv Y F w' st:=by
 have key:∀b,b<w0.heap.size→¬S b:=fun b hb hs=>by have:=(hS b hs).2.1;omega
 have hb:=h.bd.upd h0.bd.err hw fun b hb=>(hS b hb).2
 have hS':∀b,Off X F b→b<w.heap.size→¬S b:=fun b hb _ hs=>hb.2 (hS b hs).1
 have cut:∀b,(Off X F b∧b<w.heap.size)→Off Y F b:=fun b hb=>⟨hb.1.1,fun hy=>hb.1.2 ((hY b hy).2 hb.2)⟩
 refine⟨⟨hb.err,hb.blk,hb.foot,fun b hb'=>hb'.elim (fun h=>hb.lt b (.inl h)) fun h=>(hY b h).1⟩,h.blk.same hw (key _ h0.blk.lt),h.off,hm,?_,h.kin.same hw (key _ h0.kin.lt),?_⟩
 ·have h1:DclsR (fun b=>Off X F b∧b<w.heap.size) w dv ds:=Sl.weaken h.dcl fun b hb hl=>⟨hb,hl⟩
  exact Sl.weaken (Sl.same h1 hw fun b hb hl=>hS' b hb.1 hl) fun b hb _=>cut b hb
 ·obtain⟨f,hf,hp2⟩:=h.met
  refine⟨f,hf.same hw (key _ h0.met.lt),fun p hpf=>?_⟩
  obtain⟨u,s,v,zs,a1,a2,a3,a4,a5,a6⟩:=hp2 p hpf
  have h1:Ints (fun b=>Off X F b∧b<w.heap.size) w v zs:=Ints.weaken a4 fun b hb hl=>⟨hb,hl⟩
  exact⟨u,s,v,zs,a1,a2,a3,Ints.weaken (Ints.same h1 hw fun b hb hl=>hS' b hb.1 hl) fun b hb _=>cut b hb,a5,a6⟩
theorem Ints.swap {w':World} {S Y:Nat→Prop} {r:Value} {zs:List Int} (h:Ints (Off X F) w r zs) (hw:Same S w w') (hS:∀b,S b→X b) (hY:∀b,Y b→b<w.heap.size→X b):Ints (Off Y F) w' r zs:=by
 have h1:Ints (fun b=>Off X F b∧b<w.heap.size) w r zs:=Ints.weaken h fun b hb hl=>⟨hb,hl⟩
 exact Ints.weaken (Ints.same h1 hw fun b hb _ hs=>hb.1.2 (hS b hs)) fun b hb _=>⟨hb.1.1,fun hy=>hb.1.2 (hY b hy hb.2)⟩
theorem JZ:k10 PP y4 .string za:=⟨_,kA,by kernel_rfl⟩
theorem BlR.put {s:ByteArray} {t:M.Tm} {r:Value} {zs:List Int} (h:BlR n bl bb kb m ar ab ds dv X F w st) (hs:s.data.toList=M.textL t) (hr:M.sortM ds t≠ -1) (hi:Ints (Off X F) w r zs) (hzs:SmL zs)
  (hrun:∀gs,st=some gs→(M.termB ds t).run n gs=some (gs,zs)) (hK:∀w',BlR n bl bb kb m ar ab ds dv X F w' st→Same (· =m) w w'→K undef w'):ko PP y4 (.map (some m)) (.string s) r w K:=by
 obtain⟨o1,o2,o3,o4,o5⟩:=h.off
 obtain⟨f,hf,hp⟩:=h.met
 refine qs0 JZ hf (K4 s) fun w' f' hf' hsub hw hz=>hK w' ?_ hw
 obtain⟨es,cl,hm0,_⟩:=hf
 have hcell:∀(a:Addr),(∃v,w.cell? a=some v)→a.block≠m:=fun a ⟨v,ha⟩ e=>by
  simp[World.cell?,e,hm0] at ha
 have hrow:∀{g:Nat} {a:Addr},Sent w g a→g≠m:=fun hse=>hcell _ ⟨_,hse.cell⟩
 have he:=h.bd.err
 have r1:=hrow he.room
 have r2:=hrow he.bits
 have hoff:∀b,Off X F b→b<w.heap.size→¬(b=m):=fun b hb _ e=>hb.2 (e▸h.ext)
 obtain⟨bc,hB,hC⟩:=h.bd.blk
 refine⟨⟨⟨he.room.same hw r1,he.bits.same hw r2,he.off⟩,⟨bc,hB.same hw fun e=>o2 (e▸h.bd.foot),fun gs e=>?_⟩,h.bd.foot,fun b hb=>by rw[hz];exact h.bd.lt b hb⟩,h.blk.same hw o4,h.off,h.ext,Sl.same h.dcl hw hoff,h.kin.same hw o5,f',hf',fun p hpf=>?_⟩
 ·obtain⟨v,mb,hc,h1,h2⟩:=hC gs e
  exact⟨v,mb,hc.same hw fun b hb e=>o2 (e▸h2 b hb),h1,h2⟩
 ·rcases hsub p hpf with rfl|hpf
  ·exact⟨t,s,r,zs,rfl,hs,hr,Ints.same hi hw hoff,hzs,hrun⟩
  ·obtain⟨u,s',v,zs',a1,a2,a3,a4,a5,a6⟩:=hp p hpf
   exact⟨u,s',v,zs',a1,a2,a3,Ints.same a4 hw hoff,a5,a6⟩
structure KidsB (n bl bb kb m:Nat) (ar ab:Addr) (ds:List M.Dcl) (dv:Value) (t:M.Tm) (X F:Nat→Prop) (w:World) (st:Option M.Gs) (i:Nat) (v:Value) (w':World):Prop where
 ex:∃(F1:Nat→Prop) (st1:Option M.Gs) (vs:List Value) (rs:List (List Int)),BlR n bl bb kb m ar ab ds dv (fun b=>X b∨v.ownBlock=some b) F1 w' st1∧Mv (P1 m F) w (P1 m F1) w'∧OwnV PP zw w' v vs∧(∀b,v.ownBlock=some b→w.heap.size≤b∧¬F1 b)∧
  vs.length=i∧rs.length=i∧(∀j,j<i→Ints (Off (fun b=>X b∨v.ownBlock=some b) F1) w' (vs.getD j undef) (rs.getD j []))∧(∀r,r∈rs→SmL r)∧TOut n (M.seqB ((t.ks.take i).map (M.termB ds))) st st1 rs
theorem Wq {α:Type} {l r:List α} {d:α} {i:Nat} (h:i<l.length):(l++r).getD i d=l.getD i d:=by
 rw[List.getD_eq_getElem?_getD,List.getElem?_append_left h,←List.getD_eq_getElem?_getD]
theorem Wr {α:Type} {l:List α} {x d:α} {i:Nat} (h:l.length=i):(l++[x]).getD i d=x:=by
 subst h;simp[List.getD_eq_getElem?_getD]
theorem TOut.nil:TOut n (M.seqB []) st st []:=by
 cases st with
 |none=>exact .inr ⟨rfl,fun gs e=>by cases e⟩
 |some gs=>exact .inl ⟨gs,gs,rfl,rfl,rfl⟩
theorem term_spec (hd:M.declOk ds=true):∀(t:M.Tm),M.sortM ds t≠ -1→M.sizeM t≤1000→∀{w:World} {K:Value→World→Prop} {X F:Nat→Prop} {st:Option M.Gs} {tv:Value},BlR n bl bb kb m ar ab ds dv X F w st→TermR (Off X F) w tv t→
  (∀w' F' st' r zs,BlR n bl bb kb m ar ab ds dv X F' w' st'→Mv (P1 m F) w (P1 m F') w'→Ints (Off X F') w' r zs→SmL zs→TOut n (M.termB ds t) st st' zs→K r w')→
  vcall PP qb #[.pointer (some ⟨bl,0,none⟩),tv] w K:=by
 refine M.Tm.ind fun t ih hs hsz w K X F st tv hb ht hK=>?_
 obtain⟨kv,rfl,hks⟩:=ht
 apply JI;unfold Zo
 refine zx fun b1 w1 hb1 he1 hz1 hB1=>?_
 refine zt fun w2 he2 _=>?_
 have e2:=he1.trans he2
 have hb2:=hb.grow e2
 have hT2:=hB1.ext he2
 have hks2:=hks.ext e2
 simp(disch:=first|(simp only[push_cast];done)|omega) only[push_cast,hb2.blk.ld2,hT2.ldAgg (t:=z7) zJ,true_and]
 refine textOf_spec hd t hs hsz hb2.kin ⟨kv,rfl,hks2⟩ fun w3 s he3 hst=>?_
 have e3:=e2.trans he3
 have hb3:=hb2.grow he3
 have hT3:=hT2.ext he3
 have hks3:=hks2.ext he3
 simp(disch:=first|(simp only[push_cast];done)|omega) only[push_cast,hb3.blk.ld3]
 obtain⟨f,hf,hfp⟩:=hb3.met
 by_cases hin:∃v,(Value.string s,v)∈f
 ·obtain⟨v,hin⟩:=hin
  rw[zk0 JZ hf (K4 s) hin]
  simp only[push_cast,if_true]
  obtain⟨u,s',v',zs,e,a2,a3,a4,a5,a6⟩:=hfp _ hin
  cases e
  have:=M.text_inj hd hs a3 (hst.symm.trans a2)
  subst this
  refine hK w3 F st v zs hb3 (Mv.refl.ext e3) a4 a5 ?_
  cases st with
  |none=>exact .inr ⟨rfl,fun gs e=>by cases e⟩
  |some gs=>exact .inl ⟨gs,gs,rfl,rfl,a6 gs rfl⟩
 rw[yl0 JZ ji hf (K4 s) fun v hv=>hin ⟨v,hv⟩]
 simp(disch:=first|(simp only[push_cast];done)|omega) only[push_cast,if_true,hT3.ld4,hks3.len]
 have hkl:t.ks.length≤3:=by
  obtain⟨har,hp,ho⟩:=M.right_op hs
  have h:M.arity t.op≤3:=by
   unfold M.arity;repeat' split
   all_goals omega
  omega
 have hgrow0:∀b,(X b∨(Value.slice none 0 0).ownBlock=some b)→b<w3.heap.size∧(b<w3.heap.size→X b):=fun b hb=>hb.elim (fun h=>⟨hb3.bd.lt b (.inr h),fun _=>h⟩) fun h=>by cases h
 have hb30:=hb3.swap (Y:=fun b=>X b∨(Value.slice none 0 0).ownBlock=some b) hb3 (Same.refl (fun _=>False) w3) (fun b hb=>hb.elim) hgrow0 (.inl hb3.ext)
 have hG3:TmsR (fun b=>Off X F b∧b<w3.heap.size) w3 kv t.ks:=hks3.weaken fun b hb hl=>⟨hb,hl⟩
 refine vloop_up t.ks.length (fun i u w'=> ∃v,u=[v,.int .i64 i]∧KidsB n bl bb kb m ar ab ds dv t X F w3 st i v w') ⟨_,rfl,⟨F,st,[],[],hb30,Mv.refl,OwnV.nil,(fun b hb=>by cases hb),rfl,rfl,fun j hj=>absurd hj (by omega),(fun r hr=>by cases hr),TOut.nil⟩⟩ ?_
 rintro i _ g w4 C hi ⟨v,rfl,⟨F4,st4,vs,rs,hb4,hm4,ho4,hn4,hvl,hrl,hint,hsm,hto⟩⟩ hC
 simp only[push_cast]
 have l4:=hm4.same.size
 have hks4:TmsR (fun b=>Off X F b∧b<w3.heap.size) w4 kv t.ks:=hG3.same hm4.same fun b hb _ hp=>hp.elim hb.1.1 fun e=>hb.1.2 (e▸hb3.ext)
 have hG4:∀b,(Off X F b∧b<w3.heap.size)→Off (fun b=>X b∨v.ownBlock=some b) F4 b:=fun b hb=>⟨fun hf=>hm4.off (fun hp=>hp.elim hb.1.1 fun e=>hb.1.2 (e▸hb3.ext)) hb.2 (.inl hf),fun hx=>hx.elim hb.1.2 fun ho=>by have:=(hn4 b ho).1;omega⟩
 refine zg (fun a=>?_) (fun a=>?_)
 ·have hi':i<t.ks.length:=by omega
  simp(disch:=first|(simp only[push_cast];done)|omega) only[push_cast,hks4.iaddr]
  refine hks4.load zJ hi' fun x hx=>?_
  obtain⟨cx,rfl,hcx⟩:=hx.cells
  refine zD yw fun b7 w7 hb7 he7 hz7 hB7=>?_
  refine stTerm hB7 rfl (hcx.ext he7) fun w8 hw8 hz8 hB8=>?_
  have e48:Ext w4 w8:=Ext.then he7 hw8 fun y hy=>by subst hy;omega
  have v8:=hcx.ext e48
  simp(disch:=(simp only[push_cast];done)) only[push_cast,hB8.ldAgg (t:=z7) (by rw[xG hcx];exact zJ)]
  have hmem:t.ks.getD i default∈t.ks:=M.getD_mem hi' _
  have hsk:M.sizeM (t.ks.getD i default)≤1000:=by
   have h1:=M.szT_succ hi'
   have h2:=M.szT_mono (ks:=t.ks) (i:=i+1) (j:=t.ks.length) hi' (Nat.le_refl _)
   have h3:=M.szT_all t
   omega
  have hb8:=hb4.grow e48
  refine ih _ hmem ((M.sort_parts hs).2.1 _ hmem) hsk hb8 (v8.term.weaken fun b hb _=>hG4 b hb) fun w9 F9 st9 r zs hb9 hm9 hr9 hz9 ht9=>?_
  refine ya Xi jV ji rfl (Sl.cells1 hr9) fun b10 w10 hb10 he10 hz10 hB10=>?_
  have l48:=e48.size;have l9:=hm9.same.size
  have hvP:∀b,v.ownBlock=some b→¬P1 m F4 b:=fun b hb hp=>hp.elim (hn4 b hb).2 fun e=>by have:=(hn4 b hb).1;have:=hb3.met.lt;omega
  have ho10:OwnV PP zw w10 v vs:=((ho4.ext e48).same hm9.same hvP).ext he10
  refine ho10.app1 WL hB10 (Sl.one hr9) (by omega) (by omega) fun v11 w11 ho11 hs11 hn11=>?_
  try simp(disch:=omega) only[push_cast,zA]
  have hnF9:∀b,v.ownBlock=some b→¬F9 b:=fun b hb hf=>hm9.off (hvP b hb) (by have:=ho4.lt hb;omega) (.inl hf)
  have hX11:∀b,(X b∨v11.ownBlock=some b)→b<w10.heap.size→(X b∨v.ownBlock=some b):=fun b hb hl=>hb.elim .inl fun h=>(hn11 b h).elim .inr fun h2=>by omega
  have hint10:∀j,j<i→Ints (Off (fun b=>X b∨v.ownBlock=some b) F9) w10 (vs.getD j undef) (rs.getD j []):=fun j hj=>Ints.ext (Sl.mvX (Ints.ext (hint j hj) e48) (.inl hb.ext) hm9) he10
  refine hC hi' _ _ ⟨v11,by simp,⟨F9,st9,vs++[r],rs++[zs],(hb9.grow he10).swap hb3 hs11 (fun b hb=>⟨.inr hb,(hn4 b hb).1,hnF9 b hb⟩) (fun b hb=>⟨?_,hX11 b hb⟩) (.inl hb.ext),(((hm4.ext e48).trans hm9).ext he10).to hs11 fun b hb=> .inr (hn4 b hb).1,ho11,fun b hb=>?_,by simp[hvl],by simp[hrl],fun j hj=>?_,fun q hq=>?_,?_⟩⟩
  ·rcases hb with h|h
   ·have:=hb4.bd.lt b (.inr (.inl h));have:=he10.size;have:=hs11.size;omega
   ·exact ho11.lt h
  ·rcases hn11 b hb with h|h
   ·exact⟨(hn4 b h).1,hnF9 b h⟩
   ·have:=he10.size
    exact⟨by omega,fun hf=>by have:=hb9.bd.lt b (.inl hf);omega⟩
  ·by_cases c:j<i
   ·rw[Wq (by omega),Wq (by omega)]
    exact Ints.swap (hint10 j c) hs11 (fun b hb=> .inr hb) hX11
   ·have:j=i:=by omega
    subst this
    rw[Wr hvl,Wr hrl]
    exact Ints.swap (Ints.ext hr9 he10) hs11 (fun b hb=> .inr hb) hX11
  ·rcases List.mem_append.1 hq with h|h
   ·exact hsm q h
   ·rw[List.mem_singleton.1 h];exact hz9
  ·rw[M.take_add hi' default,List.map_append]
   exact hto.snoc ht9
 ·have hi':i=t.ks.length:=by omega
  subst hi'
  rw[List.take_length] at hto
  obtain⟨bc,hB,hC4⟩:=hb4.bd.blk
  have back:∀{F5:Nat→Prop} {w5:World} {st5:Option M.Gs},BlR n bl bb kb m ar ab ds dv (fun b=>X b∨v.ownBlock=some b) F5 w5 st5→BlR n bl bb kb m ar ab ds dv X F5 w5 st5:=fun h=>h.swap h (Same.refl (fun _=>False) _) (fun b hb=>hb.elim) (fun b hb=>⟨h.bd.lt b (.inr (.inl hb)),fun _=> .inl hb⟩) hb3.ext
  have m3:Mv (P1 m F) w (P1 m F) w3:=Mv.refl.ext e3
  cases st4 with
  |none=>
   simp only at hB
   simp(disch:=first|(simp only[push_cast];done)|omega) only[push_cast,hb4.blk.ld0,hB.ld1,zJ0]
   have hnil:Ints (Off X F4) w4 (.slice none 0 0) []:=Ints.weaken (OwnI.nil (P:=PP) (t:=za)).ints fun b hb _=>by cases hb
   exact hK w4 F4 none _ [] (back hb4) (m3.trans hm4) hnil SmL.nil (TOut.root (st2:=none) hto (fun gs1 e=>by cases e) fun _=>rfl)
  |some gs4=>
   simp only at hB
   simp(disch:=first|(simp only[push_cast];done)|omega) only[push_cast,hb4.blk.ld0,hB.ld1,Jl]
   have hT4:=hT3.same hm4.same fun hp=>hp.elim (fun hf=>by have:=hb.bd.lt _ (.inl hf);omega) fun e=>by have:=hb.met.lt;omega
   simp(disch:=first|(simp only[push_cast];done)|omega) only[push_cast,hT4.ldAgg (t:=z7) zJ]
   have hreach:(M.seqB (t.ks.map (M.termB ds))).Reach rs:=by
    rcases hto with⟨gs0,g1,a1,a2,a3⟩|⟨a1,_⟩
    ·exact M.Bd.reach_of_run a3
    ·cases a1
   obtain⟨hrl',hre⟩:=M.seq_reach hreach
   refine root_spec hb4.bd hd hs hb4.blk hb4.dcl hb4.kin ⟨kv,rfl,hks4⟩ ⟨⟨vs,ho4.vals,by omega,fun j hj=>hint j (by omega)⟩,hsm⟩ hrl' (fun j hj=>?_) fun w5 F5 st5 r zs hb5 hm5 hr5 hz5 ho5=>?_
   ·have hmem:t.ks.getD j default∈t.ks:=M.getD_mem hj _
    have:=M.term_len hd _ ((M.sort_parts hs).2.1 _ hmem) (hre j hj)
    rw[this];rfl
   have hb5':=hb4.step hb5 hm5 (Out.pre' ho5)
   have hto5:TOut n (M.termB ds t) st st5 zs:=hto.root (fun gs1 e=>by cases e;exact ho5) fun e=>by cases e
   have hm5':Mv (P1 m F) w (P1 m F5) w5:=(m3.trans hm4).trans hm5.p1
   have hr5':Ints (Off X F5) w5 r zs:=Ints.weaken hr5 fun b hb _=>⟨hb.1,fun hx=>hb.2 (.inl hx)⟩
   have hb5X:=back hb5'
   simp(disch:=first|(simp only[push_cast];done)|omega) only[push_cast,hb5X.blk.ld3]
   refine hb5X.put hst hs hr5' hz5 (fun gs e=>?_) fun w6 hb6 hw6=>?_
   ·rcases hto5 with⟨g0,g1,a1,a2,a3⟩|⟨a1,_⟩
    ·rw[a2] at e;cases e
     exact M.Bd.run_again a3 (List.prefix_refl _)
    ·rw[a1] at e;cases e
   ·refine hK w6 F5 st5 r zs hb6 (hm5'.to hw6 fun b hb=> .inl (.inr hb)) ?_ hz5 hto5
    exact Ints.same hr5' hw6 fun b hb _ e=>hb.2 (e▸hb3.ext)
end Go.Proofs.YtaekfnbnhjgboaaGreatDoor
end
section
namespace Go.Proofs.YtaekfnbnhjgboaaGreatDoor
open Go Go.Vc Go.Proofs
section
open Go.RowKit Go.Extern.Stop Go.Stop Go.Extern
theorem qY0 (v:Value) (w:World):(Extern.ReflectliteType.typeOf #[.iface 358 v]).run Tryz.prog w= .ok (.iface 249 (.agg #[.pointer (some ⟨9,358,none⟩)])) w:=by kernel_rfl
theorem zx0 (w:World):(callFunc 362 #[.agg #[.pointer (some ⟨9,358,none⟩)]]).run Tryz.prog w= .ok (Next.value (.bool true)) w:=by
 rw[@run_callFunc_extern Tryz.prog 362 _ (Extern.ReflectliteType.method fun t=>do Extern.Rtype.noPackHeld "Comparable" t;pure (.bool (←typeInfo t).comparable)) Tryz.func362 (by kernel_rfl) (by kernel_rfl) (by kernel_rfl) (by kernel_rfl)]
 kernel_rfl
theorem qZ0 (v:Value) (w:World):(Go.method 507 249 v "Comparable").run Tryz.prog w= .ok (362,v) w:=by kernel_rfl
theorem Z30:(Tryz.prog.info? 358).map (·.comparable)=some true:=by kernel_rfl
theorem Z10:(Tryz.prog.info? 396).map (·.size)=some 1:=by kernel_rfl
theorem Z20 (a:Addr) (w:World):
  Calls Tryz.prog 59 #[.iface 358 (.pointer (some a)),.iface 358 (.pointer (some a))] w fun e w'=>e= .returned (.bool true)∧w'=w:=by
 obtain⟨i,hi,hcmp⟩:=Option.map_eq_some_iff.1 Z30
 obtain⟨j,hj,hjs⟩:=Option.map_eq_some_iff.1 Z10
 have h8:= @run_callFunc_extern Tryz.prog 116 _ Extern.ReflectliteType.typeOf Tryz.func116 (by kernel_rfl) (by kernel_rfl) (by kernel_rfl) (by kernel_rfl)
 have h32:∀w:World,(callFunc 362 #[.agg #[.pointer (some ⟨9,358,none⟩)]]).run Tryz.prog w= .ok (Next.value (.bool true)) w:=zx0
 have tT:=qY0
 have mR:=qZ0
 have heq:=run_eql_iface_ptr_same (P:=Tryz.prog) w a Tryz.underlying102 Tryz.underlying358 hi hcmp hj
 go_enter Tryz.func59,Tryz.ntmps59
 go_wp2
 refine wp_loop_rounds 1 ?_
 rw[rounds_succ]
 go_wp2
 go_ret
 exact⟨rfl,rfl⟩
theorem ZM0 (b:Addr) (w:World):
  Calls Tryz.prog 59 #[.nilIface,.iface 358 (.pointer (some b))] w fun e w'=>e= .returned (.bool false)∧w'=w:=by
 have hn:=run_eql_iface_nil_left (P:=Tryz.prog) w 358 (.pointer (some b)) Tryz.underlying102
 go_enter Tryz.func59,Tryz.ntmps59
 go_wp2
 go_ret
 exact⟨rfl,rfl⟩
end
variable {w:World} {K:Value→World→Prop}
theorem ZL0 {a:Addr} (hK:K (.bool true) w):vcall PP Jo #[erv a,erv a] w K:=
 ⟨by kernel_rfl,(Z20 a w).mono fun e w' h=>by obtain⟨rfl,rfl⟩:=h;exact hK⟩
theorem is_no {a:Addr} (hK:K (.bool false) w):vcall PP Jo #[.nilIface,erv a] w K:=
 ⟨by kernel_rfl,(ZM0 a w).mono fun e w' h=>by obtain⟨rfl,rfl⟩:=h;exact hK⟩
end Go.Proofs.YtaekfnbnhjgboaaGreatDoor
end
section
namespace Go.Proofs.YtaekfnbnhjgboaaGreatDoor
open Go Go.Vc Go.Proofs
variable {w:World} {K:Value→World→Prop} {F F' Fx Fy Fk Q X:Nat→Prop} {n bl bc mb bb kb m:Nat} {gs:M.Gs} {v dv:Value} {ar ab:Addr} {st:Option M.Gs} {ds:List M.Dcl}
theorem gone (gs:M.Gs):∀y,y∈gs.map yH→∀c,c∈y→c.oneCell'=true:=fun y hy c hc=>by
 obtain⟨g,_,rfl⟩:=List.mem_map.1 hy
 simp only[yH,List.mem_cons,List.not_mem_nil,or_false] at hc
 rcases hc with rfl|rfl|rfl<;>rfl
theorem OwnG.nil:OwnG w (.slice none 0 0) []:=Own.nil PP 0 3 zk w
theorem Clone_gate (hx:GatesR Fx w v gs) (hsm:gs.length≤1000000) (hK:∀w' v',Ext w w'→OwnG w' v' gs→(∀x,v'.ownBlock=some x→w.heap.size≤x)→K v' w'):
  vcall PP yx #[v] w K:=by
 apply jc;unfold xJ
 obtain⟨a,c,rfl,hc,hcm,hcell⟩:=hx.shape
 rw[List.length_map] at hx hc⊢
 rw[za0 k7]
 refine yG (fun hn=>?_) (fun hn=>?_)
 ·cases a with
  |some a=>cases hn
  |none=>
   have hxs:gs=[]:=by
    have h0:gs.map yH=[]:=Classical.byContradiction fun h=>by
     obtain⟨b,o,h1,_⟩:=hcell h;cases h1
    simpa using h0
   subst hxs
   exact hK w _ (Same.refl _ _) OwnG.nil fun x hx=>by cases hx
 ·refine qs je Yx fun b w1 hb he hz hB=>?_
  have hown:Own PP 0 3 zk w1 (.slice (some ⟨b,0,none⟩) 0 0) []:=Blk.ownk (css:=[]) (by rw[YR];exact hB) (fun x hx=>by cases hx) rfl (by omega)
  have hx1:Sl Fx w1 3 (.slice a gs.length c) (gs.map yH):=Sl.ext hx he
  refine vappend (bs:=24) qD (by decide) hown hx1 (gone gs) (by omega) (by rw[List.length_map];simp;omega) (by rw[List.length_map];simp;omega) fun v' w2 ho hs hn2=>?_
  have hsz:=he.size
  refine hK w2 v' (Ext.then he hs fun x hx=>by have e:b=x:=Option.some.inj hx;omega) ho fun x hx=>?_
  rcases hn2 x hx with h|h
  ·have e:b=x:=Option.some.inj h;omega
  ·omega
theorem sigof_spec {a m:Int} (hm:m.natAbs≤1000000) (hK:K (.bool (decide (a≠0∧ -m≤a∧a≤m))) w):vcall PP qc #[.int .i64 a,.int .i64 m] w K:=by
 apply Wh;unfold X2
 simp only[push_cast]
 refine zg (fun c=>?_) (fun c=>?_)
 ·simp(disch:=omega) only[push_cast,zA,Int.zero_sub]
  refine zg (fun d=>?_) (fun d=>?_)
  ·try simp only[push_cast]
   rwa[show decide (a≠0∧ -m≤a∧a≤m)=decide (a≤m) from decide_eq_decide.2 ⟨fun h=>h.2.2,fun h=>⟨c,d,h⟩⟩] at hK
  ·rwa[decide_eq_false (fun h=>d h.2.1)] at hK
 ·rwa[decide_eq_false (fun h=>c h.1)] at hK
theorem zh0 {a:Int} {o:Option Addr} {l c mb:Nat}:zE PP zQ [(0,.agg ⟨[.int .i64 a,.slice o l c]⟩),(1,.map (some mb))] w K=K (.agg ⟨[.int .i64 a,.slice o l c,.map (some mb)]⟩) w:=yf z10 (us:=[[.int .i64 a,.slice o l c],[.map (some mb)]]) rfl rfl
theorem xM0 {a:Int} {o:Option Addr} {l c:Nat}:zE PP zf [(0,.int .i64 a),(1,.slice o l c)] w K=K (.agg ⟨[.int .i64 a,.slice o l c]⟩) w:=yf VB (us:=[[.int .i64 a],[.slice o l c]]) rfl rfl
structure Rd (n:Nat) (w:World) (bc:Nat) (v':Value) (mb:Nat) (gs:M.Gs) (i:Nat) (w':World):Prop where
 ext:Ext w w'
 blk:Blk w' bc [.int .i64 n,v',.map (some mb)] zQ
 own:OwnG w' v' gs
 map:∃f,GMap w' mb f∧∀g,Qw g f=if g∈gs.take i then some (2+n+gs.idxOf g:Int) else none
 sep:bc≠mb∧v'.ownBlock≠some bc∧v'.ownBlock≠some mb
 new:∀b,Qx bc mb v' b→w.heap.size≤b
theorem readNet_spec (hv:GatesR Fx w v gs) (hg:M.NetG n gs) (hn:n≤8) (hK:∀w' bc v' mb,CktR n bc w' gs v' mb→Ext w w'→(∀b,Qx bc mb v' b→w.heap.size≤b)→K (.tuple #[.pointer (some ⟨bc,0,none⟩),.bool true]) w'):
  vcall PP Y0 #[.agg ⟨[.int .i64 n,v]⟩] w K:=by
 apply UL;unfold J3
 refine zx fun b1 w1 hb1 he1 hz1 hB1=>?_
 have hv1:GatesR Fx w1 v gs:=Sl.ext hv he1
 have hfew:=hg.few
 have hlen:∀(w':World) (K:Value→World→Prop),vbi PP .len [zk] zc [v] w' K=K (.int .i64 gs.length) w':=fun w' K=>by rw[Sl.len hv k7,jp0]
 refine zW (fun u w'=>u=[]∧w'=w1) ?_ ?_
 ·intro J hJ
  simp(disch:=first|(simp only[push_cast];done)|omega) only[push_cast,hB1.ld0]
  refine zg (fun c=>absurd c (by omega)) (fun _=>?_)
  try simp(disch:=first|(simp only[push_cast];done)|omega) only[push_cast,hB1.ld0]
  refine zg (fun c=>absurd c (by omega)) (fun _=>?_)
  try simp(disch:=first|(simp only[push_cast];done)|omega) only[push_cast,hB1.ld1,hlen]
  refine zg (fun c=>absurd c (by omega)) (fun _=>?_)
  exact hJ _ _ ⟨rfl,rfl⟩
 rintro _ _ w2 ⟨rfl,rfl⟩
 refine zW (fun u w'=> ∃bc v' mb,u=[.pointer (some ⟨bc,0,none⟩)]∧Rd n w2 bc v' mb gs 0 w') ?_ ?_
 ·intro J hJ
  refine zt fun w3 he3 _=>?_
  have hB3:=hB1.ext he3
  have e3:=he1.trans he3
  simp(disch:=first|(simp only[push_cast];done)|omega) only[push_cast,hB3.ld0,hB3.ld1,true_and,and_true]
  refine⟨?_,?_⟩
  ·refine Clone_gate (Sl.ext hv e3) (by omega) fun w4 v' he4 hv4 hn4=>?_
   have hB4:=hB3.ext he4
   obtain⟨o,c,rfl,_⟩:=(Own.sl hv4).shape
   simp(disch:=first|(simp only[push_cast];done)|omega) only[push_cast,hB4.ld0,true_and,and_true,and_self,xM0]
   refine ZO0 rfl fun mb w5 hmb hm5 he5 hz5=>?_
   have hB5:=hB4.ext he5
   simp(disch:=first|(simp only[push_cast];done)|omega) only[push_cast,hB5.ld0,true_and,and_true,and_self,xM0,zh0]
   refine zx fun bc w6 hbc he6 hz6 hB6=>?_
   have z3:=he3.size;have z4:=he4.size
   have hlt:=(fun b hb=>(Own.lt hv4 (b:=b) hb).2)
   refine hJ _ _ ⟨bc,_,mb,rfl,he3.trans (he4.trans (he5.trans he6)),hB6,Own.ext hv4 (he5.trans he6),⟨[],hm5.ext he6,fun g=>rfl⟩,⟨by omega,fun h=>by have:=hlt _ h;omega,fun h=>by have:=hlt _ h;omega⟩,?_⟩
   rintro b (rfl|rfl|h)
   ·omega
   ·omega
   ·have:=hn4 b h;omega
  ·refine ZO0 rfl fun mb w5 hmb hm5 he5 hz5=>?_
   have hB5:=hB3.ext he5
   simp(disch:=first|(simp only[push_cast];done)|omega) only[push_cast,hB5.ld0,hB5.ld1,true_and,and_true,and_self]
   refine Clone_gate (Sl.ext hv (e3.trans he5)) (by omega) fun w4 v' he4 hv4 hn4=>?_
   have hB4:=hB5.ext he4
   obtain⟨o,c,rfl,_⟩:=(Own.sl hv4).shape
   simp(disch:=first|(simp only[push_cast];done)|omega) only[push_cast,hB4.ld0,true_and,and_true,and_self,xM0,zh0]
   refine zx fun bc w6 hbc he6 hz6 hB6=>?_
   have z3:=he3.size;have z4:=he4.size
   have hlt:=(fun b hb=>(Own.lt hv4 (b:=b) hb).2)
   refine hJ _ _ ⟨bc,_,mb,rfl,he3.trans (he5.trans (he4.trans he6)),hB6,Own.ext hv4 he6,⟨[],hm5.ext (he4.trans he6),fun g=>rfl⟩,⟨by omega,fun h=>by have:=hlt _ h;omega,fun h=>by have:=hn4 _ h;omega⟩,?_⟩
   rintro b (rfl|rfl|h)
   ·omega
   ·omega
   ·have:=hn4 b h;omega
 rintro _ _ w3 ⟨bc,v',mb,rfl,h3⟩
 have hB3:=hB1.ext h3.ext
 simp(disch:=first|(simp only[push_cast];done)|omega) only[push_cast,hB3.ld1,hlen]
 refine vloop_up gs.length (fun i u w'=>u=[.int .i64 i]∧Rd n w2 bc v' mb gs i w') ⟨rfl,h3⟩ ?_
 rintro i _ _ w4 C hi ⟨rfl,h4⟩ hC
 have hB4:=hB1.ext h4.ext
 simp only[push_cast]
 refine zg (fun a=>?_) (fun a=>?_)
 ·have hi':i<gs.length:=by omega
  have hv4:Sl Fx w4 3 v (gs.map yH):=Sl.ext hv (he1.trans h4.ext)
  have hgi:(gs.map yH).getD i []=yH gs[i]:=by simp[List.getD_eq_getElem?_getD,hi']
  rw[Sl.iaddr hv4 VJ (by omega) (by rw[jp0];omega),Int.toNat_natCast,Sl.ldAgg hv4 jT (by rw[jp0];exact hi'),hgi]
  obtain⟨g1,g2,g3,g4⟩:=hg.gate i hi'
  have hnin:gs[i]∉gs.take i:=fun h=>by
   obtain⟨j,hj,e⟩:=List.getElem_of_mem h
   rw[List.length_take] at hj
   rw[List.getElem_take] at e
   exact List.pairwise_iff_getElem.1 hg.once j i (by omega) hi' (by omega) e
  have htk:gs.take (i+1)=gs.take i++[gs[i]]:=by rw[List.take_add_one,List.getElem?_eq_getElem hi'];rfl
  have hidx:gs.idxOf gs[i]=i:=List.Nodup.idxOf_getElem hg.once i hi'
  generalize gs[i]=g at*
  have absN:∀a:Int,M.absI a=(a.natAbs:Int):=fun a=>by unfold M.absI;split<;>omega
  have ga:=absN g.a
  have gb:=absN g.b
  refine zD Xe fun b5 w5 hb5 he5 hz5 hB5=>?_
  refine hB5.stAgg (cs':=yH g) rfl jT (fun c hc=>by simp only[yH,List.mem_cons,List.not_mem_nil,or_false] at hc;rcases hc with rfl|rfl|rfl<;>rfl) fun w6 hs6 hz6 hB6=>?_
  have e46:Ext w4 w6:=Ext.then he5 hs6 fun y hy=>by subst hy;omega
  refine zt fun w7 he7 _=>?_
  have hB7:=hB6.ext he7
  have e47:=e46.trans he7
  have hN7:=hB4.ext e47
  have hla:∀w':World,Blk w' b5 (yH g) zm→∀K:Value→World→Prop,ze PP zm (.pointer (some ⟨b5,0,none⟩)) w' K=K (gv g) w':=fun w' hB K=>Blk.ldAgg hB (by exact jT)
  simp(disch:=first|(simp only[push_cast];done)|omega) only[push_cast,hB7.ld1,hB7.ld2,true_and]
  refine zW (fun u w'=>u=[]∧Ext w7 w') ?_ ?_
  ·intro J hJ
   rw[hN7.ldAgg (t:=zf) y5]
   refine nodes_spec (by omega) (by omega) fun w8 he8=>?_
   refine sigof_spec (by omega) ?_
   rw[decide_eq_true ⟨by omega,by omega,by omega⟩]
   have hN8:=hN7.ext he8
   simp(disch:=first|(simp only[push_cast];done)|omega) only[push_cast,Bool.not_true,hN8.ldAgg (t:=zf) y5]
   refine nodes_spec (by omega) (by omega) fun w9 he9=>?_
   refine sigof_spec (by omega) ?_
   rw[decide_eq_true ⟨by omega,by omega,by omega⟩]
   simp only[push_cast,Bool.not_true]
   refine node_spec (by omega) ?_
   simp only[push_cast]
   refine zg (fun c=>absurd c (by omega)) (fun _=>?_)
   refine node_spec (by omega) ?_
   simp only[push_cast]
   refine zg (fun c=>absurd c (by omega)) (fun _=>?_)
   refine node_spec (by omega) (node_spec (by omega) ?_)
   simp only[push_cast]
   refine zg (fun c=>absurd c (by omega)) (fun _=>?_)
   exact hJ _ _ ⟨rfl,he8.trans he9⟩
  rintro _ _ w9 ⟨rfl,he9⟩
  have e49:=e47.trans he9
  refine zW (fun u w'=>u=[]∧Ext w9 w') ?_ ?_
  ·intro J hJ
   refine zt fun w10 he10 _=>?_
   have e:=e49.trans he10
   have hC10:=h4.blk.ext e
   have hG10:=(hB7.ext he9).ext he10
   obtain⟨f,hf,hl⟩:=h4.map
   have hf10:=hf.ext e
   have hno:Qw g f=none:=by rw[hl,if_neg hnin]
   simp(disch:=first|(simp only[push_cast];done)|omega) only[push_cast,hC10.ld2,hla _ hG10,kD0 hf10,hno,true_and]
   simp(disch:=first|(simp only[push_cast];done)|omega) only[push_cast,hG10.ld0]
   refine yG (fun hx=>?_) (fun hx=>?_)
   ·obtain⟨p1,p2⟩:=g4 hx
    try simp only[push_cast]
    refine zg (fun c=>absurd c (by omega)) (fun _=>?_)
    try simp only[push_cast]
    refine zg (fun c=>absurd c (by omega)) (fun _=>?_)
    exact hJ _ _ ⟨rfl,he10⟩
   ·exact hJ _ _ ⟨rfl,he10⟩
  rintro _ _ w11 ⟨rfl,he11⟩
  refine zt fun w12 he12 _=>?_
  have e:=(e49.trans he11).trans he12
  have hC12:=h4.blk.ext e
  have hG12:=((hB7.ext he9).ext he11).ext he12
  have hN12:=((hN7.ext he9).ext he11).ext he12
  simp(disch:=first|(simp only[push_cast];done)|omega) only[push_cast,hC12.ld2,hla _ hG12,hN12.ldAgg (t:=zf) y5,true_and]
  refine nodes_spec (by omega) (by omega) fun w13 he13=>?_
  have e13:=e.trans he13
  have hC13:=h4.blk.ext e13
  have hG13:=hG12.ext he13
  obtain⟨f,hf,hl⟩:=h4.map
  have hno:Qw g f=none:=by rw[hl,if_neg hnin]
  simp(disch:=first|(simp only[push_cast];done)|omega) only[push_cast,hC13.ld2,hla _ hG13,true_and,and_self,and_true,zA]
  refine gset (hf.ext e13) hno fun w14 hf14 hs14 hz14=>?_
  try simp(disch:=omega) only[push_cast,zA]
  have l4:=h4.ext.size
  refine hC hi' _ _ ⟨by simp,Ext.then (h4.ext.trans e13) hs14 (fun b hb=>by have:=h4.new b (.inr (.inl hb));omega),hC13.same hs14 h4.sep.1,Own.same (Own.ext h4.own e13) hs14 (fun b hb e=>h4.sep.2.2 (e▸hb)),⟨_,hf14,fun g'=>?_⟩,h4.sep,h4.new⟩
  have e1:=look_app (g:=g') (h:=g) (n:=1+(n:Int)+i+1) (f:=f) (i:=0)
  have e2:=hl g'
  unfold Qw at e2⊢
  rw[e1,e2,htk]
  by_cases hg':g'∈gs.take i
  ·rw[if_pos hg',if_pos (List.mem_append.2 (.inl hg'))]
  ·rw[if_neg hg']
   by_cases hgg:g'=g
   ·subst hgg
    simp only
    rw[if_pos trivial,if_pos (by simp),hidx]
    congr 1;omega
   ·simp only
    rw[if_neg hgg,if_neg (by simp[hg',hgg])]
 ·have hi':i=gs.length:=by omega
  subst hi'
  obtain⟨f,hf,hl⟩:=h4.map
  rw[List.take_length] at hl
  have z1:=he1.size
  exact hK w4 bc v' mb ⟨h4.blk,h4.own,⟨f,hf,hl⟩,h4.sep,hfew,hn⟩ (he1.trans h4.ext) fun b hb=>by have:=h4.new b hb;omega
end Go.Proofs.YtaekfnbnhjgboaaGreatDoor
end
