import Derived.Test.YtaekfnbnhjgboaaGreatDoorWudP9
import Derived.LaidEql
import Derived.Stop.Asserts
/- A part of the proof. -/
set_option linter.unusedVariables false
set_option linter.unusedSimpArgs false
set_option linter.unnecessarySimpa false
set_option linter.unusedSectionVars false
section
namespace Go.Proofs.YtaekfnbnhjgboaaGreatDoor
open Go Go.Vc Go.Proofs
variable {w:World} {K:Value→World→Prop} {F F' Fx Fy X Fk Q:Nat→Prop} {n bc mb bb:Nat} {gs:M.Gs} {v:Value} {ar ab:Addr} {st:Option M.Gs}
theorem WR {a:TypeId} {v:Value} (b:concB PP a=true) {xT:TypeId}:ZJ PP (.iface a v) xT a true w K=K (.tuple #[v,.bool true]) w:=by
 refine yH ?_
 unfold concB at b
 cases hu:PP.underlying a with
 |none=>rw[hu] at b;cases b
 |some d=>
  rw[hu] at b
  cases d<;>first|(cases b;done)|simp[Instr.typeAssert,run_underlying hu]
theorem qZ {a t:TypeId} {v z:Value} (b:concB PP a=true) (e:yT PP a z) (c:t≠a) {xT:TypeId}:ZJ PP (.iface t v) xT a true w K=K (.tuple #[z,.bool false]) w:=by
 refine yH ?_
 unfold concB at b
 cases hu:PP.underlying a with
 |none=>rw[hu] at b;cases b
 |some d=>
  rw[hu] at b
  cases d<;>first|(cases b;done)|simp[Instr.typeAssert,run_underlying hu,c,Ka e,Result.andThen]
structure KidsR (Fk X F:Nat→Prop) (w:World) (kv:Value) (rs:List (List Int)):Prop where
 at_:∃vs:List Value,Vals Fk w kv vs∧vs.length=rs.length∧∀i,i<rs.length→Ints (Off X F) w (vs.getD i undef) (rs.getD i [])
 sm:∀r,r∈rs→SmL r
theorem KidsR.ext {w':World} {kv:Value} {rs:List (List Int)} (h:KidsR Fk X F w kv rs) (he:Ext w w'):KidsR Fk X F w' kv rs:=by
 obtain⟨vs,a,b,c⟩:=h.at_
 exact⟨⟨vs,a.ext he,b,fun i hi=>(c i hi).ext he⟩,h.sm⟩
theorem KidsR.sml {kv:Value} {rs:List (List Int)} (h:KidsR Fk X F w kv rs) {i:Nat} (hi:i<rs.length):SmL (rs.getD i []):=h.sm _ (M.getD_mem hi [])
theorem KidsR.vals {kv:Value} {rs:List (List Int)} (h:KidsR Fk X F w kv rs):∃vs:List Value,(∀(w':World),Ext w w'→∀i,i<rs.length→∀K:Value→World→Prop,zm PP zD kv (.int .i64 i) w' K=K (.pointer (some (eaddr kv 1 i))) w'∧ze PP zb (.pointer (some (eaddr kv 1 i))) w' K=K (vs.getD i undef) w')∧
  ∀i,i<rs.length→Ints (Off X F) w (vs.getD i undef) (rs.getD i []):=by
 obtain⟨vs,b,d,c⟩:=h.at_
 refine⟨vs,fun w' he i hi K=>?_,c⟩
 have a:=b.ext he
 refine⟨?_,a.load x00 (by omega)⟩
 rw[a.iaddr yz0 (by omega) (by omega),Int.toNat_natCast]
theorem stKind {b:Nat} {x y:Value} {t0 tk:TypeId} {s:ByteArray} {m:Int} (h:Blk w b [x,y] t0) (e:aggB PP tk 2=true) (d:∀w',Same (· =b) w w'→K undef w'):zl PP tk (.pointer (some ⟨b,0,none⟩)) (.agg ⟨[.string s,.int .i64 m]⟩) w K:=
 h.stAgg rfl e (by intro v a;simp only[List.mem_cons,List.not_mem_nil,or_false] at a;rcases a with rfl|rfl<;>rfl) fun w' c _ _=>d w' c
theorem fixB_at {wd nn:Int} {j:Nat} (a:(j:Int)<wd):(M.fixB wd nn).getD j 0=if nn.toNat/2^j%2=1 then 1 else-1:=by
 unfold M.fixB
 rw[List.getD_eq_getElem?_getD,List.getElem?_map,List.getElem?_range (by omega)];rfl
theorem fix_step {wd nn:Int} {j:Nat} (a:(j:Int)<wd):((M.fixB wd nn).take j++List.replicate (wd.toNat-j) (-1)).set j (if nn.toNat/2^j%2=1 then 1 else-1)=(M.fixB wd nn).take (j+1)++List.replicate (wd.toNat-(j+1)) (-1):=by
 have b:((M.fixB wd nn).take j).length=j:=by rw[List.length_take,M.fixB_len];omega
 rw[List.set_append_right _ _ (by omega),b,Nat.sub_self,show wd.toNat-j=(wd.toNat-(j+1))+1 by omega,List.replicate_succ,List.set_cons_zero,M.take_add (by rw[M.fixB_len];omega) 0,fixB_at a,List.append_assoc]
 rfl
theorem SmL.fix {wd nn:Int}:SmL (M.fixB wd nn):=fun x a=>by
 unfold M.fixB at a
 obtain⟨j,_,rfl⟩:=List.mem_map.1 a
 split<;>decide
theorem SmL.name {ds:List M.Dcl} {k:Nat} (a:M.declOk ds=true) (b:k<ds.length):SmL (M.nameB ds k):=fun x c=>by
 have:=M.name_has (m:=9) a b (by have:=(M.decl_iff.1 a).2.2;omega) x c
 obtain⟨d,e,f⟩:=this
 unfold Sm;omega
def QR0 (n bb:Nat) (ar ab:Addr) (X F:Nat→Prop) (w:World) (gs:M.Gs) (ds:List M.Dcl) (t:M.Tm) (rs:List (List Int)) (K:Value→World→Prop):Prop:=
 ∀w' F' st' r zs,BdR n bb ar ab X F' w' st'→Mv F w F' w'→Ints (Off X F') w' r zs→SmL zs→M.Bd.Out n (M.nodeB ds t rs) (some gs) st' zs→K r w'
section
variable {bl kb m:Nat} {dv tv kv:Value} {ds:List M.Dcl} {t:M.Tm} {rs:List (List Int)} {G Gt:Nat→Prop}
theorem root_spec (hb:BdR n bb ar ab X F w (some gs)) (hd:M.declOk ds=true) (hs:M.sortM ds t≠ -1) (hB:Blk w bl [.pointer (some ⟨bb,0,none⟩),dv,.map (some kb),.map (some m)] zP) (bv:DclsR G w dv ds) (c0:KindsR w kb) (ht:TermR Gt w tv t)
  (o:KidsR Fk X F w kv rs) (cr:rs.length=t.ks.length) (hlen:∀i,i<t.ks.length→(rs.getD i []).length=M.lenS (M.sortM ds (M.kid t i)))
  (hK:QR0 n bb ar ab X F w gs ds t rs K):vcall PP jX #[.pointer (some ⟨bl,0,none⟩),tv,kv] w K:=by
 obtain⟨tk,rfl,cq⟩:=ht
 apply Wa
 obtain⟨bs,hp,cf⟩:=M.right_op hs
 obtain⟨q1,q2,q3,q4,q5,q6,q7⟩:=M.node_right hd hs (L:=fun i=>(rs.getD i []).length) hlen
 refine zy fun b1 w1 ck bw ct bo=>?_
 refine zr fun w2 ba _=>?_
 have e2:=bw.trans ba
 have Z:=hB.ext e2
 have U:=bo.ext ba
 have z:=hb.ext e2
 have b8:=bv.ext e2
 simp(disch:=first|(simp only[push_cast];done)|omega) only[push_cast,Z.ld2,U.ld0,true_and]
 refine yj0 (ok:=false) (c0.ext e2) (by rw[bs];omega) fun cu c1=>⟨rfl,?_⟩
 obtain⟨s,mm,r,bd,a7,c9,_⟩:=c1.word
 simp only[Bool.false_eq_true,if_false]
 rw[bd]
 have q:∀w3,Ext w2 w3→QR0 n bb ar ab X F w3 gs ds t rs K:=fun w3 I w' F' st' r' zs h1 h2 h3 h4 h5=>hK w' F' st' r' zs h1 ((Mv.refl.ext (e2.trans I)).trans h2) h3 h4 h5
 obtain⟨vs,T,S⟩:=(o.ext e2).vals
 unfold QR0 M.nodeB at q
 by_cases ae:t.op=20
 ·have D:kTy t.op=zT:=by rw[ae];rfl
  have:=a7 (by omega)
  subst this
  rw[D,WR yZ]
  simp only[push_cast]
  rw[if_pos ae] at q
  refine zz xl fun b3 w3 a9 I ac N=>?_
  refine stKind N x10 fun w4 O=>?_
  have p:Ext w2 w4:=Ext.then I O fun y hy=>by subst hy;omega
  have ah:=U.ext p
  have hv:=M.vec_ok hs ae
  obtain⟨v1,v2,v3,v4⟩:=M.vok_iff.1 hv
  have cg:(2:Int)^t.a.toNat≤16:=by
   have:=pow4 (k:=t.a.toNat) (by omega) (by omega)
   have e:=xV0 t.a.toNat
   omega
  simp(disch:=first|(simp only[push_cast];done)|omega) only[push_cast,ah.ld1]
  rw[show t.a=((t.a.toNat:Nat):Int) by omega]
  refine offs_spec (by omega) fun l ov J ao an=>?_
  have d:=p.trans J
  have ax:∀(w':World) (K:Value→World→Prop),vbi PP .len [zb] zd [ov] w' K=K (.int .i64 t.a.toNat) w':=fun w' K=>by rw[ao.ints.len xE,M.offsL_len]
  rw[ax]
  refine vloop_up t.a.toNat (fun j u w'=>u=[.int .i64 j]∧Ext w2 w'∧OwnI PP zb w' ov ((M.fixB t.a t.b).take j++List.replicate (t.a.toNat-j) (-1))) ⟨rfl,d,ao⟩ ?_
  rintro j _ g w6 C hj ⟨rfl,V,E⟩ hC
  have cw:=d.size;have z24:=p.size
  simp only[push_cast]
  refine zh (fun c4=>?_) (fun cn=>?_)
  ·have br:=U.ext V
   simp(disch:=first|(simp only[push_cast];done)|omega) only[push_cast,br.ld2]
   rw[j6 jg0 (show ZC0 PP yc .u64 by unfold ZC0;kernel_rfl),show t.b=((t.b.toNat:Nat):Int) by omega,wrapU (by omega)]
   refine bit_spec (by omega) (by omega) ?_
   have be:((M.fixB t.a t.b).take j++List.replicate (t.a.toNat-j) (-1)).length=t.a.toNat:=by
    rw[List.length_append,List.length_take,M.fixB_len,List.length_replicate];omega
   refine zh (fun c=>?_) (fun c=>?_)
   ·rw[E.ints.iaddr xk (by omega) (by rw[be];omega),Int.toNat_natCast]
    refine E.st yq (by rw[be];omega) fun w7 bf ca cd=>?_
    have aa:=fix_step (wd:=t.a) (nn:=t.b) (j:=j) (by omega)
    rw[if_pos c] at aa
    rw[aa] at bf
    try simp(disch:=omega) only[push_cast,zE]
    exact hC (by omega) _ _ ⟨by simp,Ext.then V ca fun b hb=>by have:=an b hb;omega,bf⟩
   ·have aa:=fix_step (wd:=t.a) (nn:=t.b) (j:=j) (by omega)
    rw[if_neg c] at aa
    have az:((M.fixB t.a t.b).take j++List.replicate (t.a.toNat-j) (-1)).set j (-1)=(M.fixB t.a t.b).take j++List.replicate (t.a.toNat-j) (-1):=by
     have hl:((M.fixB t.a t.b).take j).length=j:=by rw[List.length_take,M.fixB_len];omega
     rw[List.set_append_right _ _ (by omega),hl,Nat.sub_self,show t.a.toNat-j=(t.a.toNat-(j+1))+1 by omega,List.replicate_succ,List.set_cons_zero]
    rw[az] at aa
    rw[aa] at E
    try simp(disch:=omega) only[push_cast,zE]
    exact hC (by omega) _ _ ⟨by simp,V,E⟩
  ·have bz:j=t.a.toNat:=by omega
   rw[bz,Nat.sub_self,List.replicate_zero,List.append_nil,List.take_of_length_le (by rw[M.fixB_len];exact Nat.le_refl _)] at E
   exact q w6 V w6 F (some gs) ov _ (z.ext V) Mv.refl (NewI.of (w:=w2) E (fun b hb=>by have:=an b hb;omega) z.lt).ints SmL.fix (M.Bd.Out.ret _ _)
 rw[if_neg ae] at q
 by_cases af:t.op=21
 ·have D:kTy t.op=zN:=by rw[af];rfl
  have:=a7 (by omega)
  subst this
  rw[D]
  simp only[qZ yZ xl (show zN≠zT by decide),WR x5,push_cast]
  rw[if_pos af] at q
  refine zz xt fun b3 w3 a9 I ac N=>?_
  refine stKind N yq0 fun w4 O=>?_
  have p:Ext w2 w4:=Ext.then I O fun y hy=>by subst hy;omega
  have ah:=U.ext p
  have hf:=M.name_found hs af
  have c4:=M.findD_lt ds t.s
  simp(disch:=first|(simp only[push_cast];done)|omega) only[push_cast,ah.ld3]
  refine inputs_spec (Z.ext p) (b8.ext p) hd hf fun l r5 J ao an=>?_
  have z24:=p.size
  exact q l (p.trans J) l F (some gs) r5 _ (z.ext (p.trans J)) Mv.refl (NewI.of (w:=w2) ao (fun b hb=>by have:=an b hb;omega) z.lt).ints (SmL.name hd (by omega)) (M.Bd.Out.ret _ _)
 rw[if_neg af] at q
 by_cases bn:24≤t.op
 ·have D:kTy t.op=zF:=by
   unfold kTy
   repeat rw[if_neg (by omega)]
  obtain⟨f,rfl,c8⟩:=c9 bn
  rw[D]
  simp only[qZ yZ xl (show zF≠zT by decide),qZ x5 xt (show zF≠zN by decide),qZ xM xW (show zF≠zR by decide),qZ qr qT (show zF≠zY by decide),qZ qX jG (show zF≠zQ by decide),qZ jl Yj (show zF≠zV by decide),qZ jk Yi (show zF≠zX by decide),qZ Yx QZ (show zF≠zL by decide),WR QJ,push_cast]
  refine zz zK0 fun b3 w3 a9 I ac N=>?_
  refine N.stAgg (cs':=[.string s,.int .i64 mm,f]) rfl JC (by intro v hv;simp only[List.mem_cons,List.not_mem_nil,or_false] at hv;rcases hv with rfl|rfl|rfl<;>first|rfl|exact c8) fun w4 O _ bp=>?_
  have p:Ext w2 w4:=Ext.then I O fun y hy=>by subst hy;omega
  have ah:=U.ext p
  rw[bp.ldAgg (t:=zF) JC,ah.ldAgg (t:=z7) zu]
  apply KR
  refine zy fun b6 w6 cl V ad ch=>?_
  refine zy fun b7 w7 cm bx cd bq=>?_
  have W:Ext w2 w7:=p.trans (V.trans bx)
  simp(disch:=first|(simp only[push_cast];done)|omega) only[push_cast,bq.ld0]
  have fin:∀(Q:World) (F8:Nat→Prop) (ap:Option M.Gs) (x:Int),BdR n bb ar ab X F8 Q ap→Mv F w2 F8 Q→Sm x→M.Bd.Out n (M.nodeB ds t rs) (some gs) ap [x]→vbuildS PP zb 1 [(0,.int .i64 x)] Q K:=fun Q F8 ap x h8 c5 cc c7=>by
   refine yh yW yq yE rfl rfl fun b9 w9 bt ai ce au=>?_
   have a6:OwnI PP zb w9 (.slice (some ⟨b9,0,none⟩) 1 1) [x]:=Blk.own1 (P:=PP) (t:=zb) (cs:=[Value.int .i64 x]) (by rw[xq];exact au) (Nat.zero_le _) rfl rfl (by omega)
   exact hK w9 F8 ap _ [x] (h8.ext ai) (((Mv.refl.ext e2).trans c5).ext ai) (NewI.of (w:=Q) a6 (fun b hb=>by have e:b9=b:=Option.some.inj hb;omega) h8.lt).ints (SmL.one cc) c7
  unfold M.nodeB at fin
  rw[if_neg ae,if_neg af] at fin
  by_cases c:t.op=24
  ·rw[if_pos c] at fin
   rw[decide_eq_false (by omega),decide_eq_false (by omega),decide_eq_false (by omega)]
   simp only[push_cast]
   exact fin w7 F (some gs) 1 (z.ext W) (Mv.refl.ext W) (by decide) (M.Bd.Out.ret _ _)
  rw[if_neg c] at fin
  obtain⟨aw,b5⟩:=q7 (by omega)
  have co:1≤t.ks.length:=by split at aw<;>omega
  have ci:=b5 0 (by omega)
  by_cases ag:t.op=25
  ·rw[if_pos ag] at fin
   rw[decide_eq_true ag]
   simp only[push_cast]
   have A0:∀K:Value→World→Prop,zm PP zD kv (.int .i64 0) w7 K=K (.pointer (some (eaddr kv 1 0))) w7:=fun K=>(T w7 W 0 (by omega) K).1
   have B0:∀K:Value→World→Prop,ze PP zb (.pointer (some (eaddr kv 1 0))) w7 K=K (vs.getD 0 undef) w7:=fun K=>(T w7 W 0 (by omega) K).2
   have R:Ints (Off X F) w7 (vs.getD 0 undef) (rs.getD 0 []):=(S 0 (by omega)).ext W
   have S0:=(o.sml (i:=0) (by omega)).get (i:=0) (by omega)
   unfold Sm at S0
   simp(disch:=first|(simp only[push_cast];done)|omega) only[A0,B0,R.iaddr,R.load,push_cast,zE,Int.zero_sub]
   exact fin w7 F (some gs) _ (z.ext W) (Mv.refl.ext W) (by unfold Sm;rw[Int.natAbs_neg];exact S0) (M.Bd.Out.ret _ _)
  rw[if_neg ag] at fin
  rw[decide_eq_false ag]
  have cp:t.ks.length=2:=by rw[if_neg ag] at aw;exact aw
  have cj:=b5 1 (by omega)
  simp only[push_cast]
  have two:∀(Q:World),Ext w2 Q→(∀K:Value→World→Prop,zm PP zD kv (.int .i64 0) Q K=K (.pointer (some (eaddr kv 1 0))) Q)∧(∀K:Value→World→Prop,ze PP zb (.pointer (some (eaddr kv 1 0))) Q K=K (vs.getD 0 undef) Q)∧(∀K:Value→World→Prop,zm PP zD kv (.int .i64 1) Q K=K (.pointer (some (eaddr kv 1 1))) Q)∧(∀K:Value→World→Prop,ze PP zb (.pointer (some (eaddr kv 1 1))) Q K=K (vs.getD 1 undef) Q)∧Ints (Off X F) Q (vs.getD 0 undef) (rs.getD 0 [])∧Ints (Off X F) Q (vs.getD 1 undef) (rs.getD 1 []):=fun Q e8=>
   ⟨fun K=>(T Q e8 0 (by omega) K).1,fun K=>(T Q e8 0 (by omega) K).2,fun K=>(T Q e8 1 (by omega) K).1,fun K=>(T Q e8 1 (by omega) K).2,(S 0 (by omega)).ext e8,(S 1 (by omega)).ext e8⟩
  have S0:=(o.sml (i:=0) (by omega)).get (i:=0) (by omega)
  have S1:=(o.sml (i:=1) (by omega)).get (i:=0) (by omega)
  by_cases am:t.op=26
  ·rw[if_pos am] at fin
   rw[decide_eq_true am]
   simp only[push_cast]
   refine zr fun Q av _=>?_
   have Y:=W.trans av
   have aq:=Z.ext Y
   obtain⟨A0,B0,A1,B1,R,V1⟩:=two Q Y
   simp(disch:=first|(simp only[push_cast];done)|omega) only[aq.ld0,A0,B0,A1,B1,R.iaddr,R.load,V1.iaddr,V1.load,push_cast,true_and]
   refine kQ (z.ext Y) S0 S1 fun w9 F9 b2 x h9 ay b0 a6=>fin w9 F9 b2 x h9 ((Mv.refl.ext Y).trans ay) b0 ?_
   exact qx a6 (M.Bd.Out.ret _ _)
  rw[if_neg am,if_pos (by omega)] at fin
  rw[decide_eq_false am,decide_eq_true (show t.op=27 by omega)]
  simp only[push_cast]
  refine zr fun Q av _=>?_
  have Y:=W.trans av
  have aq:=Z.ext Y
  obtain⟨A0,B0,A1,B1,R,V1⟩:=two Q Y
  simp(disch:=first|(simp only[push_cast];done)|omega) only[aq.ld0,A0,B0,A1,B1,R.iaddr,R.load,V1.iaddr,V1.load,push_cast,true_and]
  exact bor_spec (z.ext Y) S0 S1 fun w9 F9 b2 x h9 ay b0 a6=>fin w9 F9 b2 x h9 ((Mv.refl.ext Y).trans ay) b0 (M.Bd.Out.map _ a6)
 rw[if_neg (by omega),if_neg (by omega),if_neg (by omega),if_neg (by omega)] at q
 by_cases al:t.op=23
 ·have D:kTy t.op=zY:=by rw[al];rfl
  have:=a7 (by omega)
  subst this
  obtain⟨k1,l0,l1,l2,l3⟩:=q6 al
  rw[D]
  simp only[qZ yZ xl (show zY≠zT by decide),qZ x5 xt (show zY≠zN by decide),qZ xM xW (show zY≠zR by decide),WR qr,push_cast]
  rw[if_pos al] at q
  refine zz qT fun b3 w3 a9 I ac N=>?_
  refine stKind N qr0 fun w4 O=>?_
  have p:Ext w2 w4:=Ext.then I O fun y hy=>by subst hy;omega
  refine zr fun l J _=>?_
  have d:=p.trans J
  have B:=U.ext d
  have a0:=Z.ext d
  have H:=z.ext d
  have A0:∀K:Value→World→Prop,zm PP zD kv (.int .i64 0) l K=K (.pointer (some (eaddr kv 1 0))) l:=fun K=>(T l d 0 (by omega) K).1
  have B0:∀K:Value→World→Prop,ze PP zb (.pointer (some (eaddr kv 1 0))) l K=K (vs.getD 0 undef) l:=fun K=>(T l d 0 (by omega) K).2
  have R:Ints (Off X F) l (vs.getD 0 undef) (rs.getD 0 []):=(S 0 (by omega)).ext d
  have S0:=o.sml (i:=0) (by omega)
  have A1:∀K:Value→World→Prop,zm PP zD kv (.int .i64 1) l K=K (.pointer (some (eaddr kv 1 1))) l:=fun K=>(T l d 1 (by omega) K).1
  have B1:∀K:Value→World→Prop,ze PP zb (.pointer (some (eaddr kv 1 1))) l K=K (vs.getD 1 undef) l:=fun K=>(T l d 1 (by omega) K).2
  have V1:Ints (Off X F) l (vs.getD 1 undef) (rs.getD 1 []):=(S 1 (by omega)).ext d
  have S1:=o.sml (i:=1) (by omega)
  have A2:∀K:Value→World→Prop,zm PP zD kv (.int .i64 2) l K=K (.pointer (some (eaddr kv 1 2))) l:=fun K=>(T l d 2 (by omega) K).1
  have B2:∀K:Value→World→Prop,ze PP zb (.pointer (some (eaddr kv 1 2))) l K=K (vs.getD 2 undef) l:=fun K=>(T l d 2 (by omega) K).2
  have V2:Ints (Off X F) l (vs.getD 2 undef) (rs.getD 2 []):=(S 2 (by omega)).ext d
  have S2:=o.sml (i:=2) (by omega)
  simp(disch:=first|(simp only[push_cast];done)|omega) only[a0.ld0,B.ld0,B.ld1,B.ld2,A0,B0,R.iaddr,R.load,A1,B1,V1.iaddr,V1.load,A2,B2,V2.iaddr,V2.load,push_cast,zE,true_and]
  exact choose_spec H ⟨gs,rfl⟩ V1 V2 l1 (by omega) S1 S2 (S0.get (by omega)) fun w6 F6 a8 r6 zs h6 a5 aj ad E=>q l d w6 F6 a8 r6 zs h6 a5 aj ad E
 rw[if_neg al] at q
 by_cases ak:t.op=22
 ·have D:kTy t.op=zR:=by rw[ak];rfl
  have:=a7 (by omega)
  subst this
  obtain⟨k1,l0,l1,l2,l3⟩:=q5 ak
  rw[D]
  simp only[qZ yZ xl (show zR≠zT by decide),qZ x5 xt (show zR≠zN by decide),WR xM,push_cast]
  rw[if_pos ak] at q
  refine zz xW fun b3 w3 a9 I ac N=>?_
  refine stKind N x20 fun w4 O=>?_
  have p:Ext w2 w4:=Ext.then I O fun y hy=>by subst hy;omega
  refine zr fun l J _=>?_
  have d:=p.trans J
  have B:=U.ext d
  have a0:=Z.ext d
  have H:=z.ext d
  have A0:∀K:Value→World→Prop,zm PP zD kv (.int .i64 0) l K=K (.pointer (some (eaddr kv 1 0))) l:=fun K=>(T l d 0 (by omega) K).1
  have B0:∀K:Value→World→Prop,ze PP zb (.pointer (some (eaddr kv 1 0))) l K=K (vs.getD 0 undef) l:=fun K=>(T l d 0 (by omega) K).2
  have R:Ints (Off X F) l (vs.getD 0 undef) (rs.getD 0 []):=(S 0 (by omega)).ext d
  have S0:=o.sml (i:=0) (by omega)
  simp(disch:=first|(simp only[push_cast];done)|omega) only[a0.ld0,B.ld0,B.ld1,B.ld2,A0,B0,R.iaddr,R.load,push_cast,zE,true_and]
  rw[show t.b=((t.b.toNat:Nat):Int) by omega,show t.a+1=((t.a.toNat+1:Nat):Int) by omega]
  refine Ints.cutLH R xk (by omega) (by omega) fun cv bu=>⟨rfl,?_⟩
  refine Clone_signal bu (by rw[List.length_take,List.length_drop];omega) fun w6 r6 V E c6=>?_
  refine q l d w6 F (some gs) r6 _ (H.ext V) (Mv.refl.ext V) (NewI.of (w:=l) E c6 H.lt).ints (fun x hx=>S0 x (List.mem_of_mem_drop (List.mem_of_mem_take hx))) ?_
  rw[show t.a.toNat+1-t.b.toNat=(t.a-t.b+1).toNat by omega]
  exact M.Bd.Out.ret _ _
 rw[if_neg ak] at q
 by_cases c2:t.op≤2
 ·have D:kTy t.op=zQ:=by unfold kTy;rw[if_pos c2]
  have:=a7 (by omega)
  subst this
  obtain⟨k1,l0,l1⟩:=q1 (by omega) c2
  rw[D]
  simp only[qZ yZ xl (show zQ≠zT by decide),qZ x5 xt (show zQ≠zN by decide),qZ xM xW (show zQ≠zR by decide),qZ qr qT (show zQ≠zY by decide),WR qX,push_cast]
  rw[if_pos c2] at q
  refine zz jG fun b3 w3 a9 I ac N=>?_
  refine stKind N qq0 fun w4 O=>?_
  have p:Ext w2 w4:=Ext.then I O fun y hy=>by subst hy;omega
  refine zr fun l J _=>?_
  have d:=p.trans J
  have B:=U.ext d
  have a0:=Z.ext d
  have H:=z.ext d
  have A0:∀K:Value→World→Prop,zm PP zD kv (.int .i64 0) l K=K (.pointer (some (eaddr kv 1 0))) l:=fun K=>(T l d 0 (by omega) K).1
  have B0:∀K:Value→World→Prop,ze PP zb (.pointer (some (eaddr kv 1 0))) l K=K (vs.getD 0 undef) l:=fun K=>(T l d 0 (by omega) K).2
  have R:Ints (Off X F) l (vs.getD 0 undef) (rs.getD 0 []):=(S 0 (by omega)).ext d
  have S0:=o.sml (i:=0) (by omega)
  simp(disch:=first|(simp only[push_cast];done)|omega) only[a0.ld0,B.ld0,B.ld1,B.ld2,A0,B0,R.iaddr,R.load,push_cast,zE,true_and]
  exact un_spec H (by omega) R (by omega) S0 fun w6 F6 a8 r6 zs h6 a5 aj ad E=>q l d w6 F6 a8 r6 zs h6 a5 aj ad E
 rw[if_neg c2] at q
 by_cases b4:15≤t.op
 ·have D:kTy t.op=zL:=by unfold kTy;rw[if_neg (by omega),if_neg (by omega),if_neg (by omega),if_pos (by omega)]
  have:=a7 (by omega)
  subst this
  obtain⟨k1,l0,l1,l2⟩:=q4 b4 (by omega)
  rw[D]
  simp only[qZ yZ xl (show zL≠zT by decide),qZ x5 xt (show zL≠zN by decide),qZ xM xW (show zL≠zR by decide),qZ qr qT (show zL≠zY by decide),qZ qX jG (show zL≠zQ by decide),qZ jl Yj (show zL≠zV by decide),qZ jk Yi (show zL≠zX by decide),WR Yx,push_cast]
  rw[if_pos (by omega)] at q
  refine zz QZ fun b3 w3 a9 I ac N=>?_
  refine stKind N x30 fun w4 O=>?_
  have p:Ext w2 w4:=Ext.then I O fun y hy=>by subst hy;omega
  refine zr fun l J _=>?_
  have d:=p.trans J
  have B:=U.ext d
  have a0:=Z.ext d
  have H:=z.ext d
  have A0:∀K:Value→World→Prop,zm PP zD kv (.int .i64 0) l K=K (.pointer (some (eaddr kv 1 0))) l:=fun K=>(T l d 0 (by omega) K).1
  have B0:∀K:Value→World→Prop,ze PP zb (.pointer (some (eaddr kv 1 0))) l K=K (vs.getD 0 undef) l:=fun K=>(T l d 0 (by omega) K).2
  have R:Ints (Off X F) l (vs.getD 0 undef) (rs.getD 0 []):=(S 0 (by omega)).ext d
  have S0:=o.sml (i:=0) (by omega)
  have A1:∀K:Value→World→Prop,zm PP zD kv (.int .i64 1) l K=K (.pointer (some (eaddr kv 1 1))) l:=fun K=>(T l d 1 (by omega) K).1
  have B1:∀K:Value→World→Prop,ze PP zb (.pointer (some (eaddr kv 1 1))) l K=K (vs.getD 1 undef) l:=fun K=>(T l d 1 (by omega) K).2
  have V1:Ints (Off X F) l (vs.getD 1 undef) (rs.getD 1 []):=(S 1 (by omega)).ext d
  have S1:=o.sml (i:=1) (by omega)
  simp(disch:=first|(simp only[push_cast];done)|omega) only[a0.ld0,B.ld0,B.ld1,B.ld2,A0,B0,R.iaddr,R.load,A1,B1,V1.iaddr,V1.load,push_cast,zE,true_and]
  refine compare_spec H ⟨gs,rfl⟩ b4 (by omega) R V1 l0 l1 (by omega) S0 S1 fun w6 F6 a8 x h6 a5 cb E=>?_
  refine yh yW yq yE rfl rfl fun b9 w9 bt ai ce au=>?_
  have a6:OwnI PP zb w9 (.slice (some ⟨b9,0,none⟩) 1 1) [x]:=Blk.own1 (P:=PP) (t:=zb) (cs:=[Value.int .i64 x]) (by rw[xq];exact au) (Nat.zero_le _) rfl rfl (by omega)
  exact q l d w9 F6 a8 _ [x] (h6.ext ai) (a5.ext ai) (NewI.of (w:=w6) a6 (fun b hb=>by have e:b9=b:=Option.some.inj hb;omega) h6.lt).ints (SmL.one cb) (M.Bd.Out.map _ E)
 rw[if_neg (by omega)] at q
 have bc:kTy t.op=zV∨kTy t.op=zX:=by
  unfold kTy
  rw[if_neg c2]
  by_cases c:t.op≤13
  ·rw[if_pos c];exact .inl rfl
  ·rw[if_neg c,if_pos (by omega)];exact .inr rfl
 have:=a7 (by omega)
 subst this
 have c3:t.ks.length=2∧(t.op≠14→(rs.getD 0 []).length=(rs.getD 1 []).length)∧(t.op=14→(rs.getD 0 []).length+(rs.getD 1 []).length≤4)∧1≤(rs.getD 0 []).length∧(rs.getD 0 []).length≤4:=by
  by_cases c:t.op=14
  ·obtain⟨a1,a2,a3,a4⟩:=q3 c
   exact⟨a1,fun h=>absurd c h,fun _=>a4,a2,by omega⟩
  ·obtain⟨a1,a2,a3,a4⟩:=q2 (by omega) (by omega)
   exact⟨a1,fun _=>a2,fun h=>absurd h c,a3,a4⟩
 obtain⟨k1,l0,l1,l2,l3⟩:=c3
 have go:y0 w2 fun A=>ze PP zS (.pointer (some ⟨bl,0,none⟩)) A fun t107 bg=>bg=A∧ze PP zd (.pointer (some ⟨b1,0,none⟩)) A fun t109 bh=>bh=A∧
   zm PP zD kv (.int .i64 0) A fun t111 bi=>bi=A∧ze PP zb t111 A fun t112 bj=>bj=A∧zm PP zD kv (.int .i64 1) A fun t114 bk=>bk=A∧
   ze PP zb t114 A fun t115 bm=>bm=A∧vcall PP j2 #[t107,t109,t112,t115] A K:=by
  refine zr fun l J _=>?_
  have d:=J
  have B:=U.ext d
  have a0:=Z.ext d
  have H:=z.ext d
  have A0:∀K:Value→World→Prop,zm PP zD kv (.int .i64 0) l K=K (.pointer (some (eaddr kv 1 0))) l:=fun K=>(T l d 0 (by omega) K).1
  have B0:∀K:Value→World→Prop,ze PP zb (.pointer (some (eaddr kv 1 0))) l K=K (vs.getD 0 undef) l:=fun K=>(T l d 0 (by omega) K).2
  have R:Ints (Off X F) l (vs.getD 0 undef) (rs.getD 0 []):=(S 0 (by omega)).ext d
  have S0:=o.sml (i:=0) (by omega)
  have A1:∀K:Value→World→Prop,zm PP zD kv (.int .i64 1) l K=K (.pointer (some (eaddr kv 1 1))) l:=fun K=>(T l d 1 (by omega) K).1
  have B1:∀K:Value→World→Prop,ze PP zb (.pointer (some (eaddr kv 1 1))) l K=K (vs.getD 1 undef) l:=fun K=>(T l d 1 (by omega) K).2
  have V1:Ints (Off X F) l (vs.getD 1 undef) (rs.getD 1 []):=(S 1 (by omega)).ext d
  have S1:=o.sml (i:=1) (by omega)
  simp(disch:=first|(simp only[push_cast];done)|omega) only[a0.ld0,B.ld0,A0,B0,A1,B1,push_cast,true_and]
  exact bin_spec H ⟨gs,rfl⟩ (by omega) (by omega) R V1 l0 l1 l2 (by omega) S0 S1 fun w6 F6 a8 r6 zs h6 a5 aj ad E=>q l d w6 F6 a8 r6 zs h6 a5 aj ad E
 rcases bc with D|D
 ·rw[D]
  simp only[qZ yZ xl (show zV≠zT by decide),qZ x5 xt (show zV≠zN by decide),qZ xM xW (show zV≠zR by decide),qZ qr qT (show zV≠zY by decide),qZ qX jG (show zV≠zQ by decide),qZ jk Yi (show zV≠zX by decide),WR jl,push_cast]
  exact go
 ·rw[D]
  simp only[qZ yZ xl (show zX≠zT by decide),qZ x5 xt (show zX≠zN by decide),qZ xM xW (show zX≠zR by decide),qZ qr qT (show zX≠zY by decide),qZ qX jG (show zX≠zQ by decide),qZ jl Yj (show zX≠zV by decide),WR jk,push_cast]
  exact go
end
end Go.Proofs.YtaekfnbnhjgboaaGreatDoor
end
section
namespace Go.Proofs.YtaekfnbnhjgboaaGreatDoor
open Go Go.Vc Go.Proofs
variable {w:World} {K:Value→World→Prop} {F F' Fx Fy Fk Q X:Nat→Prop} {n bl bc mb bb kb m:Nat} {gs:M.Gs} {v dv:Value} {ar ab:Addr} {st:Option M.Gs} {ds:List M.Dcl}
def TOut {α:Type} (n:Nat) (p:M.Bd α) (st st':Option M.Gs) (a:α):Prop:=
 (∃gs gs',st=some gs∧st'=some gs'∧p.run n gs=some (gs',a))∨(st'=none∧∀gs,st=some gs→p.run n gs=none)
theorem Out.pre' {α:Type} {p:M.Bd α} {st st':Option M.Gs} {a:α} (h:M.Bd.Out n p st st' a):∀gs',st'=some gs'→∃gs,st=some gs∧gs<+:gs':=fun gs' e=>by
 cases st with
 |none=>rw[h.1] at e;cases e
 |some gs=>
  rcases h with⟨g2,c,b⟩|⟨_,b,_⟩
  ·rw[b] at e;cases e;exact⟨gs,rfl,M.Bd.run_pre c⟩
  ·rw[b] at e;cases e
theorem qd0 (ps:List (M.Bd (List Int))) (p:M.Bd (List Int)):∀(gs:M.Gs),(M.seqB (ps++[p])).run n gs=((M.seqB ps).run n gs).bind fun r=>(p.run n r.1).map fun q=>(q.1,r.2++[q.2]):=by
 induction ps with
 |nil=>
  intro gs
  show((p.bind fun r=>(M.Bd.ret []:M.Bd (List (List Int))).map (r:: ·))).run n gs=_
  rw[M.Bd.run_bind]
  show _=(p.run n gs).map _
  cases p.run n gs<;>rfl
 |cons q ps c=>
  intro gs
  show(q.bind fun r=>(M.seqB (ps++[p])).map (r:: ·)).run n gs=((q.bind fun r=>(M.seqB ps).map (r:: ·)).run n gs).bind _
  rw[M.Bd.run_bind,M.Bd.run_bind]
  cases q.run n gs with
  |none=>rfl
  |some a=>
   show((M.seqB (ps++[p])).bind fun x=>M.Bd.ret (a.2::x)).run n a.1=(((M.seqB ps).bind fun x=>M.Bd.ret (a.2::x)).run n a.1).bind _
   rw[M.Bd.run_bind,M.Bd.run_bind,c]
   cases (M.seqB ps).run n a.1 with
   |none=>rfl
   |some b=>
    show((p.run n b.1).map _).bind _=(p.run n b.1).map _
    cases p.run n b.1<;>rfl
theorem TOut.snoc {ps:List (M.Bd (List Int))} {p:M.Bd (List Int)} {st a st2:Option M.Gs} {rs:List (List Int)} {r:List Int} (h:TOut n (M.seqB ps) st a rs) (d:TOut n p a st2 r):TOut n (M.seqB (ps++[p])) st st2 (rs++[r]):=by
 rcases h with⟨g0,g1,b,a2,a3⟩|⟨b,a2⟩
 ·rcases d with⟨c,g2,b1,b2,b3⟩|⟨b1,b2⟩
  ·rw[a2] at b1;cases b1
   exact .inl ⟨g0,g2,b,b2,by rw[qd0,a3];show(p.run n g1).map _=_;rw[b3];rfl⟩
  ·refine .inr ⟨b1,fun gs e=>?_⟩
   rw[b] at e;cases e
   rw[qd0,a3];show(p.run n g1).map _=_;rw[b2 g1 a2];rfl
 ·rcases d with⟨c,g2,b1,b2,b3⟩|⟨b1,b2⟩
  ·rw[b] at b1;cases b1
  ·exact .inr ⟨b1,fun gs e=>by rw[qd0,a2 gs e];rfl⟩
theorem TOut.root {t:M.Tm} {st a st2:Option M.Gs} {rs:List (List Int)} {zs:List Int} (h:TOut n (M.seqB (t.ks.map (M.termB ds))) st a rs):(∀b,a=some b→M.Bd.Out n (M.nodeB ds t rs) (some b) st2 zs)→(a=none→st2=none)→TOut n (M.termB ds t) st st2 zs:=fun d f=>by
 rcases h with⟨g0,g1,c,a2,a3⟩|⟨c,a2⟩
 ·rcases d g1 a2 with⟨g2,b1,b2⟩|⟨b1,b2,_⟩
  ·exact .inl ⟨g0,g2,c,b2,by rw[M.termB_eq,M.Bd.run_bind,a3];exact b1⟩
  ·refine .inr ⟨b2,fun gs e=>?_⟩
   rw[c] at e;cases e
   rw[M.termB_eq,M.Bd.run_bind,a3];exact b1
 ·exact .inr ⟨f c,fun gs e=>by rw[M.termB_eq,M.Bd.run_bind,a2 gs e];rfl⟩
def P1 (m:Nat) (F:Nat→Prop) (b:Nat):Prop:=F b∨b=m
theorem Mv.p1 {w':World} (h:Mv F w F' w'):Mv (P1 m F) w (P1 m F') w':=
 ⟨h.same.mono fun _ _ h=> .inl h,fun b a=>a.elim (fun a=>(h.new b a).imp .inl id) fun a=> .inl (.inr a)⟩
theorem Sl.mvX {k:Nat} {v:Value} {xs:List (List Value)} {w':World} (h:Sl (Off X F) w k v xs) (d:X m) (hm:Mv (P1 m F) w (P1 m F') w'):Sl (Off X F') w' k v xs:=by
 have f:Sl (fun b=>Off X F b∧b<w.heap.size) w k v xs:=h.weaken fun b a j=>⟨a,j⟩
 have g:=f.same hm.same fun b a _ c=>c.elim a.1.1 fun e=>a.1.2 (e▸d)
 exact g.weaken fun b a _=>⟨fun i=>hm.off (fun c=>c.elim a.1.1 fun e=>a.1.2 (e▸d)) a.2 (.inl i),a.1.2⟩
def MetR (n:Nat) (ds:List M.Dcl) (m:Nat) (X F:Nat→Prop) (w:World) (st:Option M.Gs):Prop:=
 ∃f,MapF .string w m f∧∀p,p∈f→∃(u:M.Tm) (s:ByteArray) (v:Value) (zs:List Int),p=(.string s,v)∧s.data.toList=M.textL u∧M.sortM ds u≠ -1∧Ints (Off X F) w v zs∧SmL zs∧∀gs,st=some gs→(M.termB ds u).run n gs=some (gs,zs)
structure BlR (n bl bb kb m:Nat) (ar ab:Addr) (ds:List M.Dcl) (dv:Value) (X F:Nat→Prop) (w:World) (st:Option M.Gs):Prop where
 bd:BdR n bb ar ab X F w st
 blk:Blk w bl [.pointer (some ⟨bb,0,none⟩),dv,.map (some kb),.map (some m)] zP
 off: ¬F bl∧¬F m∧¬F kb∧bl≠m∧kb≠m
 ext:X m
 dcl:DclsR (Off X F) w dv ds
 kin:KindsR w kb
 met:MetR n ds m X F w st
theorem KindsR.same {w':World} {S:Nat→Prop} (h:KindsR w kb) (hs:Same S w w') (c: ¬S kb):KindsR w' kb:=by
 obtain⟨f,a,b⟩:=h;exact⟨f,a.same hs c,b⟩
theorem KindsR.lt (h:KindsR w kb):kb<w.heap.size:=by obtain⟨f,a,b⟩:=h;exact a.lt
theorem MetR.lt (h:MetR n ds m X F w st):m<w.heap.size:=by obtain⟨f,a,b⟩:=h;exact a.lt
theorem BlR.step {w':World} {st':Option M.Gs} (h:BlR n bl bb kb m ar ab ds dv X F w st) (o:BdR n bb ar ab X F' w' st') (hm:Mv F w F' w') (r:∀gs',st'=some gs'→∃gs,st=some gs∧gs<+:gs'):BlR n bl bb kb m ar ab ds dv X F' w' st':=by
 obtain⟨c,d,g,t,x⟩:=h.off
 refine⟨o,h.blk.same hm.same c,⟨hm.off c h.blk.lt,hm.off d h.met.lt,hm.off g h.kin.lt,t,x⟩,h.ext,Sl.mvX h.dcl h.ext hm.p1,h.kin.same hm.same g,?_⟩
 obtain⟨f,q,a⟩:=h.met
 refine⟨f,q.same hm.same d,fun p b=>?_⟩
 obtain⟨u,s,v,zs,i,a2,a3,a4,a5,j⟩:=a p b
 refine⟨u,s,v,zs,i,a2,a3,Sl.mvX a4 h.ext hm.p1,a5,fun gs' e=>?_⟩
 obtain⟨gs,k,l⟩:=r gs' e
 exact M.Bd.run_again (j gs k) l
theorem BlR.grow {w':World} (h:BlR n bl bb kb m ar ab ds dv X F w st) (he:Ext w w'):BlR n bl bb kb m ar ab ds dv X F w' st:=h.step (h.bd.ext he) (Mv.refl.ext he) fun gs e=>⟨gs,e,List.prefix_refl _⟩
theorem BlR.swap {w0 w':World} {t r S Y:Nat→Prop} {o:Option M.Gs} (h:BlR n bl bb kb m ar ab ds dv X F w st) (e:BlR n bl bb kb m ar ab ds dv t r w0 o) (hw:Same S w w') (i:∀b,S b→X b∧w0.heap.size≤b∧¬F b)
  (q:∀b,Y b→b<w'.heap.size∧(b<w.heap.size→X b)) (hm:Y m):BlR n bl bb kb m ar ab ds dv Y F w' st:=by
 have key:∀b,b<w0.heap.size→¬S b:=fun b a hs=>by have:=(i b hs).2.1;omega
 have a:=h.bd.upd e.bd.err hw fun b a=>(i b a).2
 have d:∀b,Off X F b→b<w.heap.size→¬S b:=fun b a _ hs=>a.2 (i b hs).1
 have cut:∀b,(Off X F b∧b<w.heap.size)→Off Y F b:=fun b a=>⟨a.1.1,fun A=>a.1.2 ((q b A).2 a.2)⟩
 refine⟨⟨a.err,a.blk,a.foot,fun b j=>j.elim (fun h=>a.lt b (.inl h)) fun h=>(q b h).1⟩,h.blk.same hw (key _ e.blk.lt),h.off,hm,?_,h.kin.same hw (key _ e.kin.lt),?_⟩
 ·have g:DclsR (fun b=>Off X F b∧b<w.heap.size) w dv ds:=Sl.weaken h.dcl fun b a c=>⟨a,c⟩
  exact Sl.weaken (Sl.same g hw fun b a c=>d b a.1 c) fun b a _=>cut b a
 ·obtain⟨f,z,k⟩:=h.met
  refine⟨f,z.same hw (key _ e.met.lt),fun p l=>?_⟩
  obtain⟨u,s,v,zs,x,a2,a3,a4,a5,y⟩:=k p l
  have g:Ints (fun b=>Off X F b∧b<w.heap.size) w v zs:=Ints.weaken a4 fun b a c=>⟨a,c⟩
  exact⟨u,s,v,zs,x,a2,a3,Ints.weaken (Ints.same g hw fun b a c=>d b a.1 c) fun b a _=>cut b a,a5,y⟩
theorem Ints.swap {w':World} {S Y:Nat→Prop} {r:Value} {zs:List Int} (h:Ints (Off X F) w r zs) (hw:Same S w w') (d:∀b,S b→X b) (e:∀b,Y b→b<w.heap.size→X b):Ints (Off Y F) w' r zs:=by
 have c:Ints (fun b=>Off X F b∧b<w.heap.size) w r zs:=Ints.weaken h fun b a f=>⟨a,f⟩
 exact Ints.weaken (Ints.same c hw fun b a _ hs=>a.1.2 (d b hs)) fun b a _=>⟨a.1.1,fun g=>a.1.2 (e b g a.2)⟩
theorem Wp:Xs0 PP ya .string zb:=⟨_,ZL,by kernel_rfl⟩
theorem BlR.put {s:ByteArray} {t:M.Tm} {r:Value} {zs:List Int} (h:BlR n bl bb kb m ar ab ds dv X F w st) (hs:s.data.toList=M.textL t) (R:M.sortM ds t≠ -1) (hi:Ints (Off X F) w r zs) (z:SmL zs)
  (l:∀gs,st=some gs→(M.termB ds t).run n gs=some (gs,zs)) (N:∀w',BlR n bl bb kb m ar ab ds dv X F w' st→Same (· =m) w w'→K undef w'):ZH PP ya (.map (some m)) (.string s) r w K:=by
 obtain⟨Z,D,o3,T,U⟩:=h.off
 obtain⟨f,C,Q⟩:=h.met
 refine ZN0 Wp C (Wr s) fun w' H q o hw S=>N w' ?_ hw
 obtain⟨es,cl,x,_⟩:=C
 have i:∀(a:Addr),(∃v,w.cell? a=some v)→a.block≠m:=fun a ⟨v,O⟩ e=>by
  simp[World.cell?,e,x] at O
 have d:∀{g:Nat} {a:Addr},Sent w g a→g≠m:=fun y=>i _ ⟨_,y.cell⟩
 have he:=h.bd.err
 have V:=d he.room
 have W:=d he.bits
 have c:∀b,Off X F b→b<w.heap.size→¬(b=m):=fun b k _ e=>k.2 (e▸h.ext)
 obtain⟨bc,J,L⟩:=h.bd.blk
 refine⟨⟨⟨he.room.same hw V,he.bits.same hw W,he.off⟩,⟨bc,J.same hw fun e=>D (e▸h.bd.foot),fun gs e=>?_⟩,h.bd.foot,fun b k=>by rw[S];exact h.bd.lt b k⟩,h.blk.same hw T,h.off,h.ext,Sl.same h.dcl hw c,h.kin.same hw U,H,q,fun p j=>?_⟩
 ·obtain⟨v,mb,P,I,B⟩:=L gs e
  exact⟨v,mb,P.same hw fun b k e=>D (e▸B b k),I,B⟩
 ·rcases o p j with rfl|j
  ·exact⟨t,s,r,zs,rfl,hs,R,Ints.same hi hw c,z,l⟩
  ·obtain⟨u,Y,v,A,E,a2,a3,a4,a5,G⟩:=Q p j
   exact⟨u,Y,v,A,E,a2,a3,Ints.same a4 hw c,a5,G⟩
structure KidsB (n bl bb kb m:Nat) (ar ab:Addr) (ds:List M.Dcl) (dv:Value) (t:M.Tm) (X F:Nat→Prop) (w:World) (st:Option M.Gs) (i:Nat) (v:Value) (w':World):Prop where
 ex:∃(F1:Nat→Prop) (st1:Option M.Gs) (vs:List Value) (rs:List (List Int)),BlR n bl bb kb m ar ab ds dv (fun b=>X b∨v.ownBlock=some b) F1 w' st1∧Mv (P1 m F) w (P1 m F1) w'∧OwnV PP zD w' v vs∧(∀b,v.ownBlock=some b→w.heap.size≤b∧¬F1 b)∧
  vs.length=i∧rs.length=i∧(∀j,j<i→Ints (Off (fun b=>X b∨v.ownBlock=some b) F1) w' (vs.getD j undef) (rs.getD j []))∧(∀r,r∈rs→SmL r)∧TOut n (M.seqB ((t.ks.take i).map (M.termB ds))) st st1 rs
theorem y20 {α:Type} {l r:List α} {d:α} {i:Nat} (h:i<l.length):(l++r).getD i d=l.getD i d:=by
 rw[List.getD_eq_getElem?_getD,List.getElem?_append_left h,←List.getD_eq_getElem?_getD]
theorem y30 {α:Type} {l:List α} {x d:α} {i:Nat} (h:l.length=i):(l++[x]).getD i d=x:=by
 subst h;simp[List.getD_eq_getElem?_getD]
theorem TOut.nil:TOut n (M.seqB []) st st []:=by
 cases st with
 |none=>exact .inr ⟨rfl,fun gs e=>by cases e⟩
 |some gs=>exact .inl ⟨gs,gs,rfl,rfl,rfl⟩
theorem term_spec (hd:M.declOk ds=true):∀(t:M.Tm),M.sortM ds t≠ -1→M.sizeM t≤1000→∀{w:World} {K:Value→World→Prop} {X F:Nat→Prop} {st:Option M.Gs} {tv:Value},BlR n bl bb kb m ar ab ds dv X F w st→TermR (Off X F) w tv t→
  (∀w' F' st' r zs,BlR n bl bb kb m ar ab ds dv X F' w' st'→Mv (P1 m F) w (P1 m F') w'→Ints (Off X F') w' r zs→SmL zs→TOut n (M.termB ds t) st st' zs→K r w')→
  vcall PP qM #[.pointer (some ⟨bl,0,none⟩),tv] w K:=by
 refine M.Tm.ind fun t ih hs bs w K X F st tv d ht hK=>?_
 obtain⟨kv,rfl,bo⟩:=ht
 apply W9
 refine zy fun b1 w1 c6 bm c9 b9=>?_
 refine zr fun w2 ao _=>?_
 have e2:=bm.trans ao
 have ad:=d.grow e2
 have aj:=b9.ext ao
 have Z:=bo.ext e2
 simp(disch:=first|(simp only[push_cast];done)|omega) only[push_cast,ad.blk.ld2,aj.ldAgg (t:=z7) zu,true_and]
 refine textOf_spec hd t hs bs ad.kin ⟨kv,rfl,Z⟩ fun Q s R b2=>?_
 have e3:=e2.trans R
 have k:=ad.grow R
 have ak:=aj.ext R
 have a0:=Z.ext R
 simp(disch:=first|(simp only[push_cast];done)|omega) only[push_cast,k.blk.ld3]
 obtain⟨f,O,bn⟩:=k.met
 by_cases H:∃v,(Value.string s,v)∈f
 ·obtain⟨v,H⟩:=H
  rw[Wg Wp O (Wr s) H]
  simp only[push_cast,if_true]
  obtain⟨u,s',v',zs,e,a2,a3,a4,a5,a6⟩:=bn _ H
  cases e
  have:=M.text_inj hd hs a3 (b2.symm.trans a2)
  subst this
  refine hK Q F st v zs k (Mv.refl.ext e3) a4 a5 ?_
  cases st with
  |none=>exact .inr ⟨rfl,fun gs e=>by cases e⟩
  |some gs=>exact .inl ⟨gs,gs,rfl,rfl,a6 gs rfl⟩
 rw[jf0 Wp kk O (Wr s) fun v hv=>H ⟨v,hv⟩]
 simp(disch:=first|(simp only[push_cast];done)|omega) only[push_cast,if_true,ak.ld4,a0.len]
 have c8:t.ks.length≤3:=by
  obtain⟨c5,hp,ho⟩:=M.right_op hs
  have h:M.arity t.op≤3:=by
   unfold M.arity;repeat' split
   all_goals omega
  omega
 have S:∀b,(X b∨(Value.slice none 0 0).ownBlock=some b)→b<Q.heap.size∧(b<Q.heap.size→X b):=fun b d=>d.elim (fun h=>⟨k.bd.lt b (.inr h),fun _=>h⟩) fun h=>by cases h
 have al:=k.swap (Y:=fun b=>X b∨(Value.slice none 0 0).ownBlock=some b) k (Same.refl (fun _=>False) Q) (fun b d=>d.elim) S (.inl k.ext)
 have bf:TmsR (fun b=>Off X F b∧b<Q.heap.size) Q kv t.ks:=a0.weaken fun b d hl=>⟨d,hl⟩
 refine vloop_up t.ks.length (fun i u w'=> ∃v,u=[v,.int .i64 i]∧KidsB n bl bb kb m ar ab ds dv t X F Q st i v w') ⟨_,rfl,⟨F,st,[],[],al,Mv.refl,OwnV.nil,(fun b d=>by cases d),rfl,rfl,fun j W=>absurd W (by omega),(fun r hr=>by cases hr),TOut.nil⟩⟩ ?_
 rintro i _ g w4 C hi ⟨v,rfl,⟨F4,bw,vs,rs,l,A,af,E,b4,ay,hint,b0,L⟩⟩ hC
 simp only[push_cast]
 have l4:=A.same.size
 have I:TmsR (fun b=>Off X F b∧b<Q.heap.size) w4 kv t.ks:=bf.same A.same fun b d _ hp=>hp.elim d.1.1 fun e=>d.1.2 (e▸k.ext)
 have bg:∀b,(Off X F b∧b<Q.heap.size)→Off (fun b=>X b∨v.ownBlock=some b) F4 b:=fun b d=>⟨fun O=>A.off (fun hp=>hp.elim d.1.1 fun e=>d.1.2 (e▸k.ext)) d.2 (.inl O),fun hx=>hx.elim d.1.2 fun ho=>by have:=(E b ho).1;omega⟩
 refine zh (fun a=>?_) (fun a=>?_)
 ·have p:i<t.ks.length:=by omega
  simp(disch:=first|(simp only[push_cast];done)|omega) only[push_cast,I.iaddr]
  refine I.load zu p fun x hx=>?_
  obtain⟨cx,rfl,ae⟩:=hx.cells
  refine zz zO fun b7 w7 c7 ap ca ba=>?_
  refine stTerm ba rfl (ae.ext ap) fun w8 bu cb be=>?_
  have D:Ext w4 w8:=Ext.then ap bu fun y hy=>by subst hy;omega
  have v8:=ae.ext D
  simp(disch:=(simp only[push_cast];done)) only[push_cast,be.ldAgg (t:=z7) (by rw[yp ae];exact zu)]
  have B:t.ks.getD i default∈t.ks:=M.getD_mem p _
  have br:M.sizeM (t.ks.getD i default)≤1000:=by
   have h1:=M.szT_succ p
   have h2:=M.szT_mono (ks:=t.ks) (i:=i+1) (j:=t.ks.length) p (Nat.le_refl _)
   have h3:=M.szT_all t
   omega
  have bk:=l.grow D
  refine ih _ B ((M.sort_parts hs).2.1 _ B) br bk (v8.term.weaken fun b d _=>bg b d) fun w9 F9 bx r zs an J ag bv bt=>?_
  refine yh J5 Zf kk rfl (Sl.cells1 ag) fun c1 ah bz o c0 ai=>?_
  have cc:=D.size;have l9:=J.same.size
  have b3:∀b,v.ownBlock=some b→¬P1 m F4 b:=fun b d hp=>hp.elim (E b d).2 fun e=>by have:=(E b d).1;have:=k.met.lt;omega
  have aw:OwnV PP zD ah v vs:=((af.ext D).same J.same b3).ext o
  refine aw.app1 yl0 ai (Sl.one ag) (by omega) (by omega) fun v11 cd a9 z a7=>?_
  try simp(disch:=omega) only[push_cast,zE]
  have a8:∀b,v.ownBlock=some b→¬F9 b:=fun b d O=>J.off (b3 b d) (by have:=af.lt d;omega) (.inl O)
  have G:∀b,(X b∨v11.ownBlock=some b)→b<ah.heap.size→(X b∨v.ownBlock=some b):=fun b d hl=>d.elim .inl fun h=>(a7 b h).elim .inr fun h2=>by omega
  have T:∀j,j<i→Ints (Off (fun b=>X b∨v.ownBlock=some b) F9) ah (vs.getD j undef) (rs.getD j []):=fun j W=>Ints.ext (Sl.mvX (Ints.ext (hint j W) D) (.inl d.ext) J) o
  refine hC p _ _ ⟨v11,by simp,⟨F9,bx,vs++[r],rs++[zs],(an.grow o).swap k z (fun b d=>⟨.inr d,(E b d).1,a8 b d⟩) (fun b d=>⟨?_,G b d⟩) (.inl d.ext),(((A.ext D).trans J).ext o).to z fun b d=> .inr (E b d).1,a9,fun b d=>?_,by simp[b4],by simp[ay],fun j W=>?_,fun q hq=>?_,?_⟩⟩
  ·rcases d with h|h
   ·have:=l.bd.lt b (.inr (.inl h));have:=o.size;have:=z.size;omega
   ·exact a9.lt h
  ·rcases a7 b d with h|h
   ·exact⟨(E b h).1,a8 b h⟩
   ·have:=o.size
    exact⟨by omega,fun O=>by have:=an.bd.lt b (.inl O);omega⟩
  ·by_cases c:j<i
   ·rw[y20 (by omega),y20 (by omega)]
    exact Ints.swap (T j c) z (fun b d=> .inr d) G
   ·have:j=i:=by omega
    subst this
    rw[y30 b4,y30 ay]
    exact Ints.swap (Ints.ext ag o) z (fun b d=> .inr d) G
  ·rcases List.mem_append.1 hq with h|h
   ·exact b0 q h
   ·rw[List.mem_singleton.1 h];exact bv
  ·rw[M.take_add p default,List.map_append]
   exact L.snoc bt
 ·have p:i=t.ks.length:=by omega
  subst p
  rw[List.take_length] at L
  obtain⟨bc,hB,c4⟩:=l.bd.blk
  have back:∀{F5:Nat→Prop} {w5:World} {N:Option M.Gs},BlR n bl bb kb m ar ab ds dv (fun b=>X b∨v.ownBlock=some b) F5 w5 N→BlR n bl bb kb m ar ab ds dv X F5 w5 N:=fun h=>h.swap h (Same.refl (fun _=>False) _) (fun b d=>d.elim) (fun b d=>⟨h.bd.lt b (.inr (.inl d)),fun _=> .inl d⟩) k.ext
  have m3:Mv (P1 m F) w (P1 m F) Q:=Mv.refl.ext e3
  cases bw with
  |none=>
   simp only at hB
   simp(disch:=first|(simp only[push_cast];done)|omega) only[push_cast,l.blk.ld0,hB.ld1,qz0]
   have av:Ints (Off X F4) w4 (.slice none 0 0) []:=Ints.weaken (OwnI.nil (P:=PP) (t:=zb)).ints fun b d _=>by cases d
   exact hK w4 F4 none _ [] (back l) (m3.trans A) av SmL.nil (TOut.root (st2:=none) L (fun b8 e=>by cases e) fun _=>rfl)
  |some c3=>
   simp only at hB
   simp(disch:=first|(simp only[push_cast];done)|omega) only[push_cast,l.blk.ld0,hB.ld1,VE]
   have bh:=ak.same A.same fun hp=>hp.elim (fun O=>by have:=d.bd.lt _ (.inl O);omega) fun e=>by have:=d.met.lt;omega
   simp(disch:=first|(simp only[push_cast];done)|omega) only[push_cast,bh.ldAgg (t:=z7) zu]
   have U:(M.seqB (t.ks.map (M.termB ds))).Reach rs:=by
    rcases L with⟨c2,g1,a1,a2,a3⟩|⟨a1,_⟩
    ·exact M.Bd.reach_of_run a3
    ·cases a1
   obtain⟨az,bq⟩:=M.seq_reach U
   refine root_spec l.bd hd hs l.blk l.dcl l.kin ⟨kv,rfl,I⟩ ⟨⟨vs,af.vals,by omega,fun j W=>hint j (by omega)⟩,b0⟩ az (fun j W=>?_) fun w5 F5 N r zs bi aq bp b6 ax=>?_
   ·have B:t.ks.getD j default∈t.ks:=M.getD_mem W _
    have:=M.term_len hd _ ((M.sort_parts hs).2.1 _ B) (bq j W)
    rw[this];rfl
   have am:=l.step bi aq (Out.pre' ax)
   have ac:TOut n (M.termB ds t) st N zs:=L.root (fun b8 e=>by cases e;exact ax) fun e=>by cases e
   have au:Mv (P1 m F) w (P1 m F5) w5:=(m3.trans A).trans aq.p1
   have aa:Ints (Off X F5) w5 r zs:=Ints.weaken bp fun b d _=>⟨d.1,fun hx=>d.2 (.inl hx)⟩
   have V:=back am
   simp(disch:=first|(simp only[push_cast];done)|omega) only[push_cast,V.blk.ld3]
   refine V.put b2 hs aa b6 (fun gs e=>?_) fun w6 bj b5=>?_
   ·rcases ac with⟨g0,g1,a1,a2,a3⟩|⟨a1,_⟩
    ·rw[a2] at e;cases e
     exact M.Bd.run_again a3 (List.prefix_refl _)
    ·rw[a1] at e;cases e
   ·refine hK w6 F5 N r zs bj (au.to b5 fun b d=> .inl (.inr d)) ?_ b6 ac
    exact Ints.same aa b5 fun b d _ e=>d.2 (e▸k.ext)
end Go.Proofs.YtaekfnbnhjgboaaGreatDoor
end
section
namespace Go.Proofs.YtaekfnbnhjgboaaGreatDoor
open Go Go.Vc Go.Proofs
section
open Go.RowKit Go.Extern.Stop Go.Stop Go.Extern
theorem Yo0 (v:Value) (w:World):(Extern.ReflectliteType.typeOf #[.iface 358 v]).run Tryz.prog w= .ok (.iface 249 (.agg #[.pointer (some ⟨9,358,none⟩)])) w:=by kernel_rfl
theorem qm0 (w:World):(callFunc 362 #[.agg #[.pointer (some ⟨9,358,none⟩)]]).run Tryz.prog w= .ok (Next.value (.bool true)) w:=by
 rw[@run_callFunc_extern Tryz.prog 362 _ (Extern.ReflectliteType.method fun t=>do Extern.Rtype.noPackHeld "Comparable" t;pure (.bool (←typeInfo t).comparable)) Tryz.func362 (by kernel_rfl) (by kernel_rfl) (by kernel_rfl) (by kernel_rfl)]
 kernel_rfl
theorem Yp0 (v:Value) (w:World):(Go.method 507 249 v "Comparable").run Tryz.prog w= .ok (362,v) w:=by kernel_rfl
theorem QC0:(Tryz.prog.info? 358).map (·.comparable)=some true:=by kernel_rfl
theorem QA0:(Tryz.prog.info? 396).map (·.size)=some 1:=by kernel_rfl
theorem QB0 (a : Addr) (w : World) :
    Calls Tryz.prog 59 #[.iface 358 (.pointer (some a)), .iface 358 (.pointer (some a))] w fun e w' => e = .returned (.bool true) ∧ w' = w := by
  obtain ⟨i, hi, hcmp⟩ := Option.map_eq_some_iff.1 QC0
  obtain ⟨j, hj, hjs⟩ := Option.map_eq_some_iff.1 QA0
  have h8 := @run_callFunc_extern Tryz.prog 116 _ Extern.ReflectliteType.typeOf Tryz.func116 (by kernel_rfl) (by kernel_rfl) (by kernel_rfl) (by kernel_rfl)
  have h32 : ∀ w : World, (callFunc 362 #[.agg #[.pointer (some ⟨9, 358, none⟩)]]).run Tryz.prog w = .ok (Next.value (.bool true)) w := qm0
  have tT := Yo0
  have mR := Yp0
  have heq := run_eql_iface_ptr_same (P := Tryz.prog) w a Tryz.underlying102 Tryz.underlying358 hi hcmp hj
  go_enter Tryz.func59, Tryz.ntmps59
  go_wp2
  refine wp_loop_rounds 1 ?_
  rw [rounds_succ]
  go_wp2
  go_ret
  exact ⟨rfl, rfl⟩
theorem Jl0 (b : Addr) (w : World) :
    Calls Tryz.prog 59 #[.nilIface, .iface 358 (.pointer (some b))] w fun e w' => e = .returned (.bool false) ∧ w' = w := by
  have hn := run_eql_iface_nil_left (P := Tryz.prog) w 358 (.pointer (some b)) Tryz.underlying102
  go_enter Tryz.func59, Tryz.ntmps59
  go_wp2
  go_ret
  exact ⟨rfl, rfl⟩
end
variable {w:World} {K:Value→World→Prop}
theorem Jk0 {a:Addr} (b:K (.bool true) w):vcall PP VH #[erv a,erv a] w K:=
 ⟨by kernel_rfl,(QB0 a w).mono fun e w' h=>by obtain⟨rfl,rfl⟩:=h;exact b⟩
theorem is_no {a:Addr} (b:K (.bool false) w):vcall PP VH #[.nilIface,erv a] w K:=
 ⟨by kernel_rfl,(Jl0 a w).mono fun e w' h=>by obtain⟨rfl,rfl⟩:=h;exact b⟩
end Go.Proofs.YtaekfnbnhjgboaaGreatDoor
end
section
namespace Go.Proofs.YtaekfnbnhjgboaaGreatDoor
open Go Go.Vc Go.Proofs
variable {w:World} {K:Value→World→Prop} {F F' Fx Fy Fk Q X:Nat→Prop} {n bl bc mb bb kb m:Nat} {gs:M.Gs} {v dv:Value} {ar ab:Addr} {st:Option M.Gs} {ds:List M.Dcl}
theorem gone (gs:M.Gs):∀y,y∈gs.map yG→∀c,c∈y→c.oneCell'=true:=fun y b c a=>by
 obtain⟨g,_,rfl⟩:=List.mem_map.1 b
 simp only[yG,List.mem_cons,List.not_mem_nil,or_false] at a
 rcases a with rfl|rfl|rfl<;>rfl
theorem OwnG.nil:OwnG w (.slice none 0 0) []:=Own.nil PP 0 3 zn w
theorem Clone_gate (d:GatesR Fx w v gs) (y:gs.length≤1000000) (l:∀w' v',Ext w w'→OwnG w' v' gs→(∀x,v'.ownBlock=some x→w.heap.size≤x)→K v' w'):
  vcall PP yI #[v] w K:=by
 apply ka
 obtain⟨a,c,rfl,s,t,f⟩:=d.shape
 rw[List.length_map] at d s⊢
 rw[Uw qg]
 refine y3 (fun m=>?_) (fun m=>?_)
 ·cases a with
  |some a=>cases m
  |none=>
   have k:gs=[]:=by
    have p:gs.map yG=[]:=Classical.byContradiction fun h=>by
     obtain⟨b,o,q,_⟩:=f h;cases q
    simpa using p
   subst k
   exact l w _ (Same.refl _ _) OwnG.nil fun x d=>by cases d
 ·refine qC ke Qa fun b n B he C r=>?_
  have g:Own PP 0 3 zn n (.slice (some ⟨b,0,none⟩) 0 0) []:=Blk.ownk (css:=[]) (by rw[QA];exact r) (fun x d=>by cases d) rfl (by omega)
  have j:Sl Fx n 3 (.slice a gs.length c) (gs.map yG):=Sl.ext d he
  refine vappend (bs:=24) jj (by decide) g j (gone gs) (by omega) (by rw[List.length_map];simp;omega) (by rw[List.length_map];simp;omega) fun v' A u hs i=>?_
  have z:=he.size
  refine l A v' (Ext.then he hs fun x d=>by have e:b=x:=Option.some.inj d;omega) u fun x d=>?_
  rcases i x d with h|h
  ·have e:b=x:=Option.some.inj h;omega
  ·omega
theorem sigof_spec {a m:Int} (hm:m.natAbs≤1000000) (b:K (.bool (decide (a≠0∧ -m≤a∧a≤m))) w):vcall PP qP #[.int .i64 a,.int .i64 m] w K:=by
 apply zP0
 simp only[push_cast]
 refine zh (fun c=>?_) (fun c=>?_)
 ·simp(disch:=omega) only[push_cast,zE,Int.zero_sub]
  refine zh (fun d=>?_) (fun d=>?_)
  ·try simp only[push_cast]
   rwa[show decide (a≠0∧ -m≤a∧a≤m)=decide (a≤m) from decide_eq_decide.2 ⟨fun h=>h.2.2,fun h=>⟨c,d,h⟩⟩] at b
  ·rwa[decide_eq_false (fun h=>d h.2.1)] at b
 ·rwa[decide_eq_false (fun h=>c h.1)] at b
theorem xZ0 {a:Int} {o:Option Addr} {l c mb:Nat}:zC PP zU [(0,.agg ⟨[.int .i64 a,.slice o l c]⟩),(1,.map (some mb))] w K=K (.agg ⟨[.int .i64 a,.slice o l c,.map (some mb)]⟩) w:=ye xM0 (us:=[[.int .i64 a,.slice o l c],[.map (some mb)]]) rfl rfl
theorem Z00 {a:Int} {o:Option Addr} {l c:Nat}:zC PP zg [(0,.int .i64 a),(1,.slice o l c)] w K=K (.agg ⟨[.int .i64 a,.slice o l c]⟩) w:=ye z80 (us:=[[.int .i64 a],[.slice o l c]]) rfl rfl
structure Rd (n:Nat) (w:World) (bc:Nat) (v':Value) (mb:Nat) (gs:M.Gs) (i:Nat) (w':World):Prop where
 ext:Ext w w'
 blk:Blk w' bc [.int .i64 n,v',.map (some mb)] zU
 own:OwnG w' v' gs
 map:∃f,GMap w' mb f∧∀g,KD g f=if g∈gs.take i then some (2+n+gs.idxOf g:Int) else none
 sep:bc≠mb∧v'.ownBlock≠some bc∧v'.ownBlock≠some mb
 new:∀b,KE bc mb v' b→w.heap.size≤b
theorem readNet_spec (hv:GatesR Fx w v gs) (hg:M.NetG n gs) (hn:n≤8) (hK:∀w' bc v' mb,CktR n bc w' gs v' mb→Ext w w'→(∀b,KE bc mb v' b→w.heap.size≤b)→K (.tuple #[.pointer (some ⟨bc,0,none⟩),.bool true]) w'):
  vcall PP Zk #[.agg ⟨[.int .i64 n,v]⟩] w K:=by
 apply xt0
 refine zy fun b1 w1 ap F au x=>?_
 have ar:GatesR Fx w1 v gs:=Sl.ext hv F
 have ad:=hg.few
 have hlen:∀(w':World) (K:Value→World→Prop),vbi PP .len [zn] zd [v] w' K=K (.int .i64 gs.length) w':=fun w' K=>by rw[Sl.len hv qg,xX0]
 refine zI (fun u w'=>u=[]∧w'=w1) ?_ ?_
 ·intro J O
  simp(disch:=first|(simp only[push_cast];done)|omega) only[push_cast,x.ld0]
  refine zh (fun c=>absurd c (by omega)) (fun _=>?_)
  try simp(disch:=first|(simp only[push_cast];done)|omega) only[push_cast,x.ld0]
  refine zh (fun c=>absurd c (by omega)) (fun _=>?_)
  try simp(disch:=first|(simp only[push_cast];done)|omega) only[push_cast,x.ld1,hlen]
  refine zh (fun c=>absurd c (by omega)) (fun _=>?_)
  exact O _ _ ⟨rfl,rfl⟩
 rintro _ _ w2 ⟨rfl,rfl⟩
 refine zI (fun u w'=> ∃bc v' mb,u=[.pointer (some ⟨bc,0,none⟩)]∧Rd n w2 bc v' mb gs 0 w') ?_ ?_
 ·intro J O
  refine zr fun w3 B _=>?_
  have z:=x.ext B
  have e3:=F.trans B
  simp(disch:=first|(simp only[push_cast];done)|omega) only[push_cast,z.ld0,z.ld1,true_and,and_true]
  refine⟨?_,?_⟩
  ·refine Clone_gate (Sl.ext hv e3) (by omega) fun w4 v' p k S=>?_
   have A:=z.ext p
   obtain⟨o,c,rfl,_⟩:=(Own.sl k).shape
   simp(disch:=first|(simp only[push_cast];done)|omega) only[push_cast,A.ld0,true_and,and_true,and_self,Z00]
   refine Jn0 rfl fun mb w5 al a1 l af=>?_
   have q:=A.ext l
   simp(disch:=first|(simp only[push_cast];done)|omega) only[push_cast,q.ld0,true_and,and_true,and_self,Z00,xZ0]
   refine zy fun bc w6 aj r ag E=>?_
   have z3:=B.size;have z4:=p.size
   have R:=(fun b P=>(Own.lt k (b:=b) P).2)
   refine O _ _ ⟨bc,_,mb,rfl,B.trans (p.trans (l.trans r)),E,Own.ext k (l.trans r),⟨[],a1.ext r,fun g=>rfl⟩,⟨by omega,fun h=>by have:=R _ h;omega,fun h=>by have:=R _ h;omega⟩,?_⟩
   rintro b (rfl|rfl|h)
   ·omega
   ·omega
   ·have:=S b h;omega
  ·refine Jn0 rfl fun mb w5 al a1 l af=>?_
   have q:=z.ext l
   simp(disch:=first|(simp only[push_cast];done)|omega) only[push_cast,q.ld0,q.ld1,true_and,and_true,and_self]
   refine Clone_gate (Sl.ext hv (e3.trans l)) (by omega) fun w4 v' p k S=>?_
   have A:=q.ext p
   obtain⟨o,c,rfl,_⟩:=(Own.sl k).shape
   simp(disch:=first|(simp only[push_cast];done)|omega) only[push_cast,A.ld0,true_and,and_true,and_self,Z00,xZ0]
   refine zy fun bc w6 aj r ag E=>?_
   have z3:=B.size;have z4:=p.size
   have R:=(fun b P=>(Own.lt k (b:=b) P).2)
   refine O _ _ ⟨bc,_,mb,rfl,B.trans (l.trans (p.trans r)),E,Own.ext k r,⟨[],a1.ext (p.trans r),fun g=>rfl⟩,⟨by omega,fun h=>by have:=R _ h;omega,fun h=>by have:=S _ h;omega⟩,?_⟩
   rintro b (rfl|rfl|h)
   ·omega
   ·omega
   ·have:=S b h;omega
 rintro _ _ w3 ⟨bc,v',mb,rfl,h3⟩
 have z:=x.ext h3.ext
 simp(disch:=first|(simp only[push_cast];done)|omega) only[push_cast,z.ld1,hlen]
 refine vloop_up gs.length (fun i u w'=>u=[.int .i64 i]∧Rd n w2 bc v' mb gs i w') ⟨rfl,h3⟩ ?_
 rintro i _ _ w4 C hi ⟨rfl,d⟩ hC
 have A:=x.ext d.ext
 simp only[push_cast]
 refine zh (fun a=>?_) (fun a=>?_)
 ·have m:i<gs.length:=by omega
  have k:Sl Fx w4 3 v (gs.map yG):=Sl.ext hv (F.trans d.ext)
  have ak:(gs.map yG).getD i []=yG gs[i]:=by simp[List.getD_eq_getElem?_getD,m]
  rw[Sl.iaddr k Zv (by omega) (by rw[xX0];omega),Int.toNat_natCast,Sl.ldAgg k qq (by rw[xX0];exact m),ak]
  obtain⟨g1,g2,g3,g4⟩:=hg.gate i m
  have X:gs[i]∉gs.take i:=fun h=>by
   obtain⟨j,hj,e⟩:=List.getElem_of_mem h
   rw[List.length_take] at hj
   rw[List.getElem_take] at e
   exact List.pairwise_iff_getElem.1 hg.once j i (by omega) m (by omega) e
  have an:gs.take (i+1)=gs.take i++[gs[i]]:=by rw[List.take_add_one,List.getElem?_eq_getElem m];rfl
  have ae:gs.idxOf gs[i]=i:=List.Nodup.idxOf_getElem hg.once i m
  generalize gs[i]=g at*
  have absN:∀a:Int,M.absI a=(a.natAbs:Int):=fun a=>by unfold M.absI;split<;>omega
  have ga:=absN g.a
  have gb:=absN g.b
  refine zz YV fun b5 w5 aq l af q=>?_
  refine q.stAgg (cs':=yG g) rfl qq (fun c hc=>by simp only[yG,List.mem_cons,List.not_mem_nil,or_false] at hc;rcases hc with rfl|rfl|rfl<;>rfl) fun w6 am ag E=>?_
  have ah:Ext w4 w6:=Ext.then l am fun y hy=>by subst hy;omega
  refine zr fun w7 a9 _=>?_
  have N:=E.ext a9
  have a3:=ah.trans a9
  have Y:=A.ext a3
  have a0:∀w':World,Blk w' b5 (yG g) zp→∀K:Value→World→Prop,ze PP zp (.pointer (some ⟨b5,0,none⟩)) w' K=K (gv g) w':=fun w' hB K=>Blk.ldAgg hB (by exact qq)
  simp(disch:=first|(simp only[push_cast];done)|omega) only[push_cast,N.ld1,N.ld2,true_and]
  refine zI (fun u w'=>u=[]∧Ext w7 w') ?_ ?_
  ·intro J O
   rw[Y.ldAgg (t:=zg) y5]
   refine nodes_spec (by omega) (by omega) fun w8 aa=>?_
   refine sigof_spec (by omega) ?_
   rw[decide_eq_true ⟨by omega,by omega,by omega⟩]
   have ai:=Y.ext aa
   simp(disch:=first|(simp only[push_cast];done)|omega) only[push_cast,Bool.not_true,ai.ldAgg (t:=zg) y5]
   refine nodes_spec (by omega) (by omega) fun w9 D=>?_
   refine sigof_spec (by omega) ?_
   rw[decide_eq_true ⟨by omega,by omega,by omega⟩]
   simp only[push_cast,Bool.not_true]
   refine node_spec (by omega) ?_
   simp only[push_cast]
   refine zh (fun c=>absurd c (by omega)) (fun _=>?_)
   refine node_spec (by omega) ?_
   simp only[push_cast]
   refine zh (fun c=>absurd c (by omega)) (fun _=>?_)
   refine node_spec (by omega) (node_spec (by omega) ?_)
   simp only[push_cast]
   refine zh (fun c=>absurd c (by omega)) (fun _=>?_)
   exact O _ _ ⟨rfl,aa.trans D⟩
  rintro _ _ w9 ⟨rfl,D⟩
  have a4:=a3.trans D
  refine zI (fun u w'=>u=[]∧Ext w9 w') ?_ ?_
  ·intro J O
   refine zr fun av s _=>?_
   have e:=a4.trans s
   have a5:=d.blk.ext e
   have U:=(N.ext D).ext s
   obtain⟨f,hf,hl⟩:=d.map
   have ab:=hf.ext e
   have a2:KD g f=none:=by rw[hl,if_neg X]
   simp(disch:=first|(simp only[push_cast];done)|omega) only[push_cast,a5.ld2,a0 _ U,Qb0 ab,a2,true_and]
   simp(disch:=first|(simp only[push_cast];done)|omega) only[push_cast,U.ld0]
   refine y3 (fun hx=>?_) (fun hx=>?_)
   ·obtain⟨p1,p2⟩:=g4 hx
    try simp only[push_cast]
    refine zh (fun c=>absurd c (by omega)) (fun _=>?_)
    try simp only[push_cast]
    refine zh (fun c=>absurd c (by omega)) (fun _=>?_)
    exact O _ _ ⟨rfl,s⟩
   ·exact O _ _ ⟨rfl,s⟩
  rintro _ _ aw ⟨rfl,G⟩
  refine zr fun ax H _=>?_
  have e:=(a4.trans G).trans H
  have a6:=d.blk.ext e
  have V:=((N.ext D).ext G).ext H
  have a8:=((Y.ext D).ext G).ext H
  simp(disch:=first|(simp only[push_cast];done)|omega) only[push_cast,a6.ld2,a0 _ V,a8.ldAgg (t:=zg) y5,true_and]
  refine nodes_spec (by omega) (by omega) fun ay W=>?_
  have L:=e.trans W
  have T:=d.blk.ext L
  have a7:=V.ext W
  obtain⟨f,hf,hl⟩:=d.map
  have a2:KD g f=none:=by rw[hl,if_neg X]
  simp(disch:=first|(simp only[push_cast];done)|omega) only[push_cast,T.ld2,a0 _ a7,true_and,and_self,and_true,zE]
  refine gset (hf.ext L) a2 fun az ac I ao=>?_
  try simp(disch:=omega) only[push_cast,zE]
  have l4:=d.ext.size
  refine hC m _ _ ⟨by simp,Ext.then (d.ext.trans L) I (fun b P=>by have:=d.new b (.inr (.inl P));omega),T.same I d.sep.1,Own.same (Own.ext d.own L) I (fun b P e=>d.sep.2.2 (e▸P)),⟨_,ac,fun g'=>?_⟩,d.sep,d.new⟩
  have e1:=look_app (g:=g') (h:=g) (n:=1+(n:Int)+i+1) (f:=f) (i:=0)
  have e2:=hl g'
  unfold KD at e2⊢
  rw[e1,e2,an]
  by_cases Q:g'∈gs.take i
  ·rw[if_pos Q,if_pos (List.mem_append.2 (.inl Q))]
  ·rw[if_neg Q]
   by_cases Z:g'=g
   ·subst Z
    simp only
    rw[if_pos trivial,if_pos (by simp),ae]
    congr 1;omega
   ·simp only
    rw[if_neg Z,if_neg (by simp[Q,Z])]
 ·have m:i=gs.length:=by omega
  subst m
  obtain⟨f,hf,hl⟩:=d.map
  rw[List.take_length] at hl
  have z1:=F.size
  exact hK w4 bc v' mb ⟨d.blk,d.own,⟨f,hf,hl⟩,d.sep,ad,hn⟩ (F.trans d.ext) fun b P=>by have:=d.new b P;omega
end Go.Proofs.YtaekfnbnhjgboaaGreatDoor
end
section
namespace Go.Proofs.YtaekfnbnhjgboaaGreatDoor
open Go Go.Vc Go.Proofs
variable {w:World} {K:Value→World→Prop} {F F' Fx Fy Fk Q X:Nat→Prop} {n bl bc mb bb kb m:Nat} {gs:M.Gs} {v dv:Value} {ar ab:Addr} {st:Option M.Gs} {ds:List M.Dcl}
theorem YF0 {a:Int}:zC PP zg [(0,.int .i64 a)] w K=K (.agg ⟨[.int .i64 a,.slice none 0 0]⟩) w:=ye z80 (us:=[[.int .i64 a]]) rfl rfl
theorem ja0:zC PP zg [] w K=K (.agg ⟨[.int .i64 0,.slice none 0 0]⟩) w:=ye z80 (us:=[]) rfl rfl
theorem Zt0 {a:Addr}:zC PP zZ [(0,.pointer (some a))] w K=K (.agg ⟨[.pointer (some a),.nilIface]⟩) w:=ye xO0 (us:=[[.pointer (some a)]]) rfl rfl
theorem Zu0 {a:Addr} {o:Option Addr} {l c k m:Nat}:zC PP zP [(0,.pointer (some a)),(1,.slice o l c),(2,.map (some k)),(3,.map (some m))] w K=K (.agg ⟨[.pointer (some a),.slice o l c,.map (some k),.map (some m)]⟩) w:=ye xP0 (us:=[[.pointer (some a)],[.slice o l c],[.map (some k)],[.map (some m)]]) rfl rfl
theorem GatesR.nil:GatesR Fx w (.slice none 0 0) []:=Sl.weaken (Own.sl (OwnG.nil (w:=w))) fun b a _=>by cases a
theorem NetG.nil (n:Nat):M.NetG n []:=⟨by simp,fun k h=>absurd h (by simp),List.nodup_nil⟩
theorem newBlaster_spec (A:M.declOk ds=true) (n:DclsR Fx w dv ds) (he:Errs (fun _=>False) w ar ab)
  (I:∀w' bl bb kb m F,BlR (M.bits ds).toNat bl bb kb m ar ab ds dv (· =m) F w' (some [])→Ext w w'→(∀b,F b∨b=m∨b=bl→w.heap.size≤b)→K (.pointer (some ⟨bl,0,none⟩)) w'):vcall PP Zc #[dv] w K:=by
 apply UP
 have Y:=(M.decl_iff.1 A).2.2
 have X:=M.bits_pos' (ds:=ds) fun d B=>by
  obtain⟨i,hi,e⟩:=List.getElem_of_mem B
  have:=(M.dcl_wide A hi).1
  rw[List.getD_eq_getElem?_getD,List.getElem?_eq_getElem hi] at this
  simp only[Option.getD_some,e] at this
  omega
 refine bitsOf_spec n A fun w1 s=>?_
 rw[YF0,show M.bits ds=(((M.bits ds).toNat:Nat):Int) by omega]
 refine readNet_spec (Fx:=Fx) (gs:=[]) GatesR.nil (NetG.nil _) (by omega) fun U bc v' mb G t E=>?_
 simp only[push_cast,Zt0]
 refine zy fun bb w3 J u R y=>?_
 refine kinds_new fun V kb q v P=>?_
 refine kD0 Wp fun m w5 hm D l S=>?_
 obtain⟨o,c,rfl,_⟩:=n.shape
 rw[Zu0]
 refine zy fun bl W L g T z=>?_
 have s1:=s.size;have s2:=t.size;have s3:=u.size;have s4:=q.size;have s5:=l.size;have s6:=g.size
 have r:=u.trans (q.trans (l.trans g))
 have x:=t.trans r
 have k:=s.trans x
 have j:∀b,KE bc mb v' b→b<U.heap.size:=fun b f=>G.lt f
 have C:=v.ext (l.trans g)
 have N:=v.lt
 have a:∀b,(KE bc mb v' b∨b=bb)→w.heap.size≤b∧b<V.heap.size:=fun b f=>f.elim (fun h=>by have:=E b h;have:=j b h;omega) fun h=>by omega
 refine I W bl bb kb m (fun b=>KE bc mb v' b∨b=bb) ⟨⟨⟨?_,?_,?_⟩,⟨bc,y.ext (q.trans (l.trans g)),fun gs e=>?_⟩,.inr rfl,fun b f=>?_⟩,z,⟨fun h=>by have:=(a _ h).2;omega,fun h=>by have:=(a _ h).2;omega,?_,by omega,by omega⟩,rfl,?_,C,?_⟩ k fun b f=>?_
 ·exact he.room.same k id
 ·exact he.bits.same k id
 ·have Z:=he.room.lt;have l2:=he.bits.lt
  exact⟨fun h=>by have:=(a _ h).1;omega,fun h=>by have:=(a _ h).1;omega⟩
 ·cases e
  exact⟨v',mb,G.ext r,fun h=>by have:=j _ h;omega,fun b f=> .inl f⟩
 ·rcases f with h|h
  ·have:=(a _ h).2;omega
  ·omega
 ·rintro(h|h)
  ·have:=j _ h;omega
  ·omega
 ·have H:DclsR (fun b=>Fx b∧b<w.heap.size) w _ ds:=Sl.weaken n fun b f O=>⟨f,O⟩
  exact Sl.weaken (Sl.ext H k) fun b f _=>⟨fun h=>by have:=(a _ h).1;omega,fun h=>by omega⟩
 ·exact⟨[],D.ext g,fun p Q=>by cases Q⟩
 ·rcases f with h|h|h
  ·exact(a _ h).1
  ·omega
  ·omega
def blastR (ds:List M.Dcl) (t:M.Tm):Nat×M.Gs×List Int:=
 if M.tsort ds t= -1 then(0,[],[]) else match(M.termB ds t).run (M.bits ds).toNat [] with
  |some (gs,zs)=>((M.bits ds).toNat,gs,zs)
  |none=>(0,[],[])
theorem Qc {t:M.Tm} (h:M.tsort ds t≠ -1):M.fits t=true∧M.declOk ds=true∧M.sortM ds t≠ -1∧M.sizeM t≤20:=by
 unfold M.tsort at h
 split at h
 ·next a=>exact⟨a.1,a.2,h,(M.fits_iff.1 a.1).1⟩
 ·exact absurd rfl h
theorem TOut.lens {t:M.Tm} {gs:M.Gs} {zs:List Int} (h:TOut n (M.termB ds t) (some gs) st zs) (d:M.declOk ds=true) (hs:M.sortM ds t≠ -1):(∃gs',st=some gs'∧(M.termB ds t).run n gs=some (gs',zs)∧zs.length≤4)∨(st=none∧(M.termB ds t).run n gs=none):=by
 rcases h with⟨g0,g1,a,b,c⟩|⟨a,b⟩
 ·cases a
  refine .inl ⟨g1,b,c,?_⟩
  have e:=M.term_len d t hs (M.Bd.reach_of_run c)
  have f:=M.sort_range d t
  rw[e];unfold M.lenS;omega
 ·exact .inr ⟨a,b gs rfl⟩
theorem Mv.fresh {w0 w':World} (h:Mv F w F' w') (he:Ext w0 w) (hF:∀b,F b→w0.heap.size≤b):Ext w0 w':=Ext.then he h.same hF
theorem Blast_spec {t:M.Tm} {tv:Value} (Z:DclsR Fx w dv ds) (ht:TermR Fy w tv t) (he:Errs (fun _=>False) w ar ab)
  (j:∀w' gv lv,Ext w w'→OwnG w' gv (blastR ds t).2.1→OwnI PP zj w' lv (blastR ds t).2.2→(∀b,gv.ownBlock=some b→w.heap.size≤b)→(∀b,lv.ownBlock=some b→w.heap.size≤b∧gv.ownBlock≠some b)→K (.tuple #[.agg ⟨[.int .i64 (blastR ds t).1,gv]⟩,lv]) w'):
  vcall PP X7 #[dv,tv] w K:=by
 apply k30
 obtain⟨cs,rfl,J⟩:=ht.cells
 refine zy fun b1 w1 aw a0 b0 a8=>?_
 refine zz xX fun b2 w2 ax L b3 a9=>?_
 have e2:=a0.trans L
 have C:=a8.ext L
 have a2:∀w':World,Blk w' b1 cs z7→∀K:Value→World→Prop,ze PP z7 (.pointer (some ⟨b1,0,none⟩)) w' K=K (.agg ⟨cs⟩) w':=fun w' h K=>h.ldAgg (t:=z7) (by rw[yp J];exact zu)
 have X:∀{a:Int} {o:Option Addr} {l c:Nat},∀u,u∈[Value.int .i64 a,.slice o l c]→u.oneCell'=true:=fun u hu=>by
  simp only[List.mem_cons,List.not_mem_nil,or_false] at hu
  rcases hu with rfl|rfl<;>rfl
 rw[a2 w2 C]
 refine TermSort_spec (Z.ext e2) (J.ext e2).term fun P z=>?_
 have B:=e2.trans z
 have R:=C.ext z
 have k:=a9.ext z
 simp only[push_cast]
 have z1:=a0.size;have z2:=L.size
 unfold blastR at j
 have zero:∀Q:World,Ext w Q→Blk Q b2 [.int .i64 0,.slice none 0 0] zg→(∀w' gv lv,Ext w w'→OwnG w' gv []→OwnI PP zj w' lv []→(∀b,gv.ownBlock=some b→w.heap.size≤b)→(∀b,lv.ownBlock=some b→w.heap.size≤b∧gv.ownBlock≠some b)→K (.tuple #[.agg ⟨[.int .i64 ((0:Nat):Int),gv]⟩,lv]) w')→
   zC PP zg [] Q fun t27 a5=>zl PP zg (.pointer (some ⟨b2,0,none⟩)) t27 a5 fun _ a6=>vlv PP zg (.pointer (some ⟨b2,0,none⟩)) a6 fun a4 a7=>K (.tuple #[a4,(.slice none 0 0)]) a7:=fun Q e4 aa j=>by
  rw[ja0]
  refine aa.stAgg (cs':=[.int .i64 0,.slice none 0 0]) rfl y5 X fun w5 am ao ac=>?_
  rw[ac.lv (t:=zg) y5]
  exact j w5 _ _ (Ext.then e4 am fun y hy=>by subst hy;omega) OwnG.nil OwnI.nil (fun b d=>by cases d) fun b d=>by cases d
 refine zh (fun c=>?_) (fun c=>?_)
 ·rw[if_pos c] at j
  exact zero P B k j
 rw[if_neg c] at j
 obtain⟨aq,hd,hs,av⟩:=Qc c
 have a1:Errs (fun _=>False) P ar ab:=⟨he.room.same B id,he.bits.same B id,id,id⟩
 refine newBlaster_spec hd (Z.ext B) a1 fun Q bl bb kb m F4 ae p A=>?_
 have S:=R.ext p
 have ap:=k.ext p
 have s3:=z.size
 have au:b2<P.heap.size:=by omega
 have an:TermR (fun b=>Fy b∧b<w.heap.size) Q (.agg ⟨cs⟩) t:=((J.term.weaken fun b d hl=>⟨d,hl⟩).ext B).ext p
 rw[a2 Q S]
 refine term_spec hd t hs (by omega) ae (an.weaken fun b d _=>⟨fun h=>by have:=A b (.inl h);have:=B.size;omega,fun h=>by have:=A b (.inr (.inl h));have:=B.size;omega⟩) fun w5 F5 b6 lv zs af a3 ai ao al=>?_
 have E:∀b,P1 m F4 b→P.heap.size≤b:=fun b d=>d.elim (fun h=>A b (.inl h)) fun h=>A b (.inr (.inl h))
 have G:Ext P w5:=a3.fresh p E
 have T:=k.ext G
 refine zr fun w6 q _=>?_
 have i:=af.grow q
 have D:=T.ext q
 have e6:=B.trans (G.trans q)
 obtain⟨bc,f,W⟩:=i.bd.blk
 have ak:∀b,F5 b→P.heap.size≤b:=fun b d=>(a3.new b (.inl d)).elim (E b) fun h=>by have:=p.size;omega
 rcases al.lens hd hs with⟨H,rfl,x,az⟩|⟨rfl,x⟩
 ·rw[x] at j
  simp only at f j
  simp(disch:=first|(simp only[push_cast];done)|omega) only[push_cast,i.blk.ld0,f.ld1,xY J6 i.bd.err.room.cell,true_and]
  refine is_no ?_
  simp only[push_cast]
  refine zr fun w7 s _=>?_
  have I:=i.grow s
  obtain⟨bc,f,W⟩:=I.bd.blk
  obtain⟨gvv,mb,n,ay,Y⟩:=W H rfl
  simp only at f
  have F:∀w':World,Ext w7 w'→∀K:Value→World→Prop,ze PP zg (.pointer (some ⟨bc,0,none⟩)) w' K=K (.agg ⟨[.int .i64 ((M.bits ds).toNat:Nat),gvv]⟩) w':=fun w' h K=>Blk.ldTake (us:=[.int .i64 ((M.bits ds).toNat:Nat),gvv]) (r:=[.map (some mb)]) (n.blk.ext h) y5
  simp(disch:=first|(simp only[push_cast];done)|omega) only[push_cast,I.blk.ld0,f.ld0,F w7 (Same.refl _ _),true_and]
  refine numbers_spec (Ints.ext (Ints.ext ai q) s) (by omega) fun w8 b5 g aj N=>?_
  have ag:=I.grow g
  have V:=f.ext g
  simp(disch:=first|(simp only[push_cast];done)|omega) only[push_cast,ag.blk.ld0,V.ld0,F w8 g,true_and,and_self,and_true]
  have U:=(D.ext s).ext g
  obtain⟨o,c,ah,_⟩:=(Own.sl n.own).shape
  rw[ah] at n Y⊢
  refine U.stAgg (cs':=[.int .i64 _,.slice o (H.map yG).length c]) rfl y5 X fun w9 O b4 ad=>?_
  rw[ad.lv (t:=zg) y5]
  have s6:=e6.size;have s7:=s.size;have s8:=g.size
  have b7:=G.size;have z6:=q.size
  have v:∀b,(Value.slice o (H.map yG).length c).ownBlock=some b→P.heap.size≤b∧b<w7.heap.size:=fun b d=>⟨ak b (Y b (.inr (.inr d))),(Own.lt n.own d).2⟩
  refine j w9 _ _ (Ext.then (e6.trans (s.trans g)) O fun y hy=>by subst hy;omega) ((Own.ext n.own g).same O fun b d e=>by have:=(v b d).1;omega) (aj.same O fun b d e=>by have:=N b d;omega) (fun b d=>by have:=(v b d).1;omega) fun b d=>⟨by have:=N b d;omega,fun h=>by have:=(v b h).2;have:=N b d;omega⟩
 ·rw[x] at j
  simp only at f j
  simp(disch:=first|(simp only[push_cast];done)|omega) only[push_cast,i.blk.ld0,f.ld1,xY J6 i.bd.err.room.cell,true_and]
  refine Jk0 ?_
  simp only[push_cast]
  exact zero w6 e6 D j
end Go.Proofs.YtaekfnbnhjgboaaGreatDoor
end
section
namespace Go.Proofs.YtaekfnbnhjgboaaGreatDoor
open Go Go.Vc Go.Proofs
variable {w:World} {K:Value→World→Prop} {D F Fx Fy Y S:Nat→Prop} {n b4 b8:Nat} {gs:M.Gs} {v nv:Value} {cs cs':List Value} {st:Option M.Gs}
theorem jv0 {op:BinOp} (a:op= .eql∨op= .neq) (c:Bool) (x y:Array Value):(eqG op zp c (.agg x) (.agg y)).run PP w= .ok () w:=by
 rcases a with rfl|rfl<;>cases c<;>kernel_rfl
theorem kf0 {c:Bool} (g h:M.Gt):zq PP .eql zp c (gv g) (gv h) w K=K (.bool (decide (g=h))) w:=by
 have a:(Op.equal zp (gv g) (gv h)).run PP w= .ok (decide (g=h)) w:=eqGate g h w
 refine yL (jv0 (.inl rfl) c _ _) ?_
 have e:∀xs ys:Array Value,binOp .eql zp (.agg xs) (.agg ys)=(do let b ←Op.equal zp (.agg xs) (.agg ys);pure (Value.bool b)):=fun _ _=>rfl
 unfold gv at a⊢
 rw[e,Sem.run_bind,a];rfl
abbrev GOff (D:Nat→Prop) (w:World) (v:Value) (gs:M.Gs):Prop:=GatesR (fun b=> ¬D b) w v gs
theorem GOff.swap {w':World} (h:GOff D w v gs) (hw:Same S w w') (d:∀b,S b→D b) (e:∀b,Y b→b<w.heap.size→D b):GOff Y w' v gs:=by
 have c:GatesR (fun b=> ¬D b∧b<w.heap.size) w v gs:=Sl.weaken h fun b a f=>⟨a,f⟩
 exact Sl.weaken (Sl.same c hw fun b a _ hs=>a.1 (d b hs)) fun b a _ g=>a.1 (e b g a.2)
theorem net_one {a:Int} {o:Option Addr} {l c:Nat}:∀u,u∈[Value.int .i64 a,.slice o l c]→u.oneCell'=true:=fun u hu=>by
 simp only[List.mem_cons,List.not_mem_nil,or_false] at hu
 rcases hu with rfl|rfl<;>rfl
theorem gates_app {x:Value} {b1:Nat} {t0:TypeId} {g:M.Gt} (q:GatesR Fx w x gs) (l:Blk w b1 (yG g) t0) (u:gs.length≤1000) (o:OwnG w v []) (p:∀b,v.ownBlock=some b→b≠b1)
  (m:∀w' v',OwnG w' v' (gs++[g])→Same (fun b=>v.ownBlock=some b∨w.heap.size≤b) w w'→(∀b,v'.ownBlock=some b→v.ownBlock=some b∨w.heap.size≤b)→K v' w'):
  vbi PP .append [zn,zn] zn [v,x] w fun t r=>vbi PP .append [zn,zn] zn [t,.slice (some ⟨b1,0,none⟩) 1 1] r K:=by
 refine vappend (bs:=24) jj (by decide) o q (gone gs) (by omega) (by rw[List.length_map];simp;omega) (by rw[List.length_map];simp;omega) fun v' y i a c=>?_
 have n:=l.lt
 refine Own.app1k (bs:=24) i jj (by decide) (l.same a fun e=>p _ e rfl) rfl (gone [g] _ (by simp)) (by simp;omega) (by simp;omega) fun v3 s j k f=>?_
 have s2:=a.size
 refine m s v3 (by unfold OwnG;rw[List.map_append];exact j) (Same.thn (a.mono fun b _ h=> .inl h) (k.mono fun b _ h=>h) fun b d=> .inl ((c b d).imp id id)) fun b d=>?_
 rcases f b d with h|h
 ·exact c b h
 ·exact .inr (by omega)
theorem sput_spec {g:M.Gt} (hn:n≤8) (hg:GOff D w nv gs) (hl:gs.length≤600) (hD:∀b,D b→b<w.heap.size)
  (hK:∀w' n' gv',Ext w w'→GOff D w' gv' (if(M.putG n gs g).2=0 then[] else(M.putG n gs g).1)→(n'=if(M.putG n gs g).2=0 then 0 else n)→((M.putG n gs g).2=0→gv'= .slice none 0 0)→K (.tuple #[.agg ⟨[.int .i64 (n':Nat),gv']⟩,.int .i64 (M.putG n gs g).2]) w'):
  vcall PP kf #[.agg ⟨[.int .i64 n,nv]⟩,.agg ⟨yG g⟩] w K:=by
 apply jL0
 refine zy fun b1 w1 av V az ad=>?_
 refine zy fun b2 w2 aw P b0 ae=>?_
 refine zz xX fun b3 w3 ax a1 b4 a0=>?_
 have e3:=V.trans (P.trans a1)
 have a5:=ad.ext (P.trans a1)
 have a6:=ae.ext a1
 have W:∀w':World,Blk w' b2 (yG g) zp→∀K:Value→World→Prop,ze PP zp (.pointer (some ⟨b2,0,none⟩)) w' K=K (.agg ⟨yG g⟩) w':=fun w' hB K=>Blk.ldAgg hB (by exact qq)
 have hlen:∀(w':World) (K:Value→World→Prop),vbi PP .len [zn] zd [nv] w' K=K (.int .i64 gs.length) w':=fun w' K=>by rw[Sl.len hg qg,xX0]
 obtain⟨go,gc,al,_⟩:=hg.shape
 have a9:∀i,i<gs.length→gs.getD i ⟨false,0,0⟩=g→g∉gs.take i→(M.putG n gs g)=(gs,(2+n+i:Int)):=fun i hi h1 h2=>by
  have hm:g∈gs:=h1▸M.getD_mem hi _
  unfold M.putG
  rw[if_pos hm]
  have:gs.idxOf g=i:=by
   have e:=List.take_append_drop i gs
   have h3:gs.drop i=gs.getD i ⟨false,0,0⟩::gs.drop (i+1):=by
    rw[List.drop_eq_getElem_cons hi,List.getD_eq_getElem?_getD,List.getElem?_eq_getElem hi];rfl
   rw[←e,List.idxOf_append,if_neg h2,h3,h1,List.idxOf_cons_self,List.length_take];omega
  rw[this]
 refine vloop_up gs.length (fun i u w'=>u=[.int .i64 i]∧Ext w3 w'∧g∉gs.take i) ⟨rfl,Same.refl _ _,by simp⟩ ?_
 rintro i _ _ w4 C hi ⟨rfl,r,Q⟩ hC
 have B:=a5.ext r
 have Y:=a6.ext r
 have e4:=e3.trans r
 simp(disch:=first|(simp only[push_cast];done)|omega) only[push_cast,B.ld1,hlen]
 refine zh (fun a=>?_) (fun a=>?_)
 ·have z:i<gs.length:=by omega
  refine zr fun H l _=>?_
  have j:=B.ext l
  have E:=Y.ext l
  have a8:GOff D H nv gs:=Sl.ext hg (e4.trans l)
  have ak:(gs.map yG).getD i []=yG (gs.getD i ⟨false,0,0⟩):=M.getD_map _ z _ _
  simp(disch:=first|(simp only[push_cast];done)|omega) only[push_cast,j.ld1,true_and]
  rw[Sl.iaddr a8 Zv (by omega) (by rw[xX0];omega),Int.toNat_natCast]
  simp(disch:=first|(simp only[push_cast];done)|omega) only[push_cast,true_and]
  rw[Sl.ldAgg a8 qq (by rw[xX0];exact z),ak]
  simp(disch:=first|(simp only[push_cast];done)|omega) only[push_cast,true_and,W _ E]
  rw[show(Value.agg ⟨yG (gs.getD i ⟨false,0,0⟩)⟩)=gv (gs.getD i ⟨false,0,0⟩) from rfl,show(Value.agg ⟨yG g⟩)=gv g from rfl,kf0]
  refine⟨rfl,?_⟩
  refine zh (fun c=>?_) (fun c=>?_)
  ·have hp:=a9 i z c Q
   rw[hp] at hK
   refine zr fun I f _=>?_
   have d:=j.ext f
   have O:=(a0.ext (r.trans l)).ext f
   subst al
   simp(disch:=first|(simp only[push_cast];done)|omega) only[push_cast,d.ld0,d.ldAgg (t:=zg) y5,true_and,zE]
   refine O.stAgg (cs':=[.int .i64 n,.slice go (gs.map yG).length gc]) rfl y5 net_one fun v m X q=>?_
   have e7:Ext w v:=Ext.then ((e4.trans l).trans f) m fun b p=>by have:=V.size;have:=P.size;omega
   have k:=d.same m (show¬b1=b3 by omega)
   simp(disch:=first|(simp only[push_cast];done)|omega) only[push_cast,k.ld0,true_and,and_self,zE]
   rw[q.lv (t:=zg) y5]
   refine hK v n _ e7 ?_ ?_ ?_
   ·rw[if_neg (by show(2+(n:Int)+i)≠0;omega)];exact Sl.ext hg e7
   ·rw[if_neg (by show(2+(n:Int)+i)≠0;omega)]
   ·intro h;exfalso;revert h;show(2+(n:Int)+i)=0→False;omega
  ·simp(disch:=omega) only[push_cast,zE]
   refine hC z _ _ ⟨by simp,r.trans l,?_⟩
   rw[M.take_add z ⟨false,0,0⟩]
   intro h
   rcases List.mem_append.1 h with h|h
   ·exact Q h
   ·exact c (List.mem_singleton.1 h).symm
 ·have z:i=gs.length:=by omega
  subst z
  rw[List.take_length] at Q
  try simp(disch:=first|(simp only[push_cast];done)|omega) only[push_cast,B.ld1,hlen]
  refine zh (fun c=>?_) (fun c=>?_)
  ·have hp:M.putG n gs g=(gs,0):=by unfold M.putG;rw[if_neg Q,if_pos (by omega)]
   rw[hp] at hK
   rw[ja0]
   refine(a0.ext r).stAgg (cs':=[.int .i64 0,.slice none 0 0]) rfl y5 net_one fun v m X q=>?_
   rw[q.lv (t:=zg) y5]
   have e7:Ext w v:=Ext.then e4 m fun b p=>by have:=V.size;have:=P.size;omega
   exact hK v 0 _ e7 (by rw[if_pos rfl];exact GatesR.nil) (by rw[if_pos rfl]) fun _=>rfl
  ·have hp:M.putG n gs g=(gs++[g],(2+n+gs.length:Int)):=by unfold M.putG;rw[if_neg Q,if_neg (by omega)]
   rw[hp] at hK
   have s1:=V.size;have s2:=P.size;have s4:=e4.size;have ba:=r.size
   refine zI (fun u w'=>u=[]∧Ext w w'∧∃v',Blk w' b1 [.int .i64 n,v'] zg∧Blk w' b3 [.int .i64 0,.slice none 0 0] zg∧OwnG w' v' (gs++[g])∧∀b,v'.ownBlock=some b→w.heap.size≤b∧b≠b1∧b≠b3) ?_ ?_
   ·intro J hJ
    refine zr fun H l _=>?_
    have e5:=e4.trans l
    have j:=B.ext l
    have E:=Y.ext l
    have N:=(a0.ext r).ext l
    have s5:=l.size
    have fin:∀(T:World) (v':Value),Same (fun b=>H.heap.size≤b) H T→OwnG T v' (gs++[g])→(∀b,v'.ownBlock=some b→H.heap.size≤b)→zl PP zn (.pointer (some (Addr.add ⟨b1,0,none⟩ 1))) v' T fun _ ac=>J [] ac:=fun T v' L A G=>by
     have e8:Ext H T:=⟨L.os,L.tape,L.output,L.size,fun i hi _=>L.block i hi (by omega)⟩
     refine Blk.st (i:=1) (j.ext e8) (Sl.cells1 (Own.sl A)) (Sl.one (Own.sl A)) zb0 rfl fun w9 S b9 ag=>?_
     refine hJ _ _ ⟨rfl,Ext.then (e5.trans e8) S fun b p=>by omega,v',ag,(N.ext e8).same S (show¬b3=b1 by omega),Own.same A S (fun b p e=>by have:=G b p;omega),fun b p=>by have:=G b p;omega⟩
    simp(disch:=first|(simp only[push_cast];done)|omega) only[push_cast,j.ld1,W _ E,true_and,and_true]
    have mk:∀(I:World) (K:Value→World→Prop),(∀b7 v,b7=I.heap.size→Ext I v→v.heap.size=I.heap.size+1→Blk v b7 (yG g) zp→K (.slice (some ⟨b7,0,none⟩) 1 1) v)→vbuildS PP zn 1 [(0,.agg ⟨yG g⟩)] I K:=fun I K h=>
     YY ke (by kernel_rfl) YV (y:=yG g) rfl rfl (show 3≤16777216 by decide) h
    have nil:∀{I:World} {F:Nat},Blk I F [] zp→OwnG I (.slice (some ⟨F,0,none⟩) 0 0) []:=fun h=>Blk.ownk (css:=[]) (by rw[QA];exact h) (fun x hx=>by cases hx) rfl (by omega)
    refine⟨?_,?_⟩
    ·refine qC ke Qa fun F I ai f au U=>?_
     have d:=j.ext f
     have Z:=E.ext f
     simp(disch:=first|(simp only[push_cast];done)|omega) only[push_cast,d.ld1,W _ Z,true_and,and_true,and_self]
     refine⟨?_,?_⟩
     ·refine vappend (bs:=24) jj (by decide) (nil U) (Sl.ext hg (e5.trans f)) (gone gs) (by omega) (by rw[List.length_map];simp;omega) (by rw[List.length_map];simp;omega) fun v7 v ap m am=>?_
      have s7:=m.size
      have a7:=Z.same m fun e=>by have e:F=b2:=Option.some.inj e;omega
      simp(disch:=first|(simp only[push_cast];done)|omega) only[push_cast,W _ a7,true_and,and_true,and_self]
      refine mk v _ fun b8 T ay a2 b5 af=>?_
      have n7:∀b,v7.ownBlock=some b→H.heap.size≤b:=fun b p=>(am b p).elim (fun e=>by have e:F=b:=Option.some.inj e;omega) fun h=>by omega
      refine Own.app1k (bs:=24) (Own.ext ap a2) jj (by decide) af rfl (gone [g] _ (by simp)) (by simp;omega) (by simp;omega) fun v9 w9 aq S an=>?_
      try simp(disch:=first|(simp only[push_cast];done)|omega) only[push_cast,true_and,and_true,and_self]
      have s8:=a2.size
      refine fin w9 v9 (Same.thn (((Same.of_ext f).trans (m.mono (S':=fun b=>H.heap.size≤b) fun b _ e=>by have e:F=b:=Option.some.inj e;omega)).trans (Same.of_ext a2)) (S.mono (S':=fun b=>H.heap.size≤b) fun b _ e=>n7 b e) fun b p=> .inl p) (by unfold OwnG;rw[List.map_append];exact aq) fun b p=>(an b p).elim (n7 b) fun h=>by omega
     ·refine mk I _ fun b7 v aj s X q=>?_
      have k:=d.ext s
      simp(disch:=first|(simp only[push_cast];done)|omega) only[push_cast,k.ld1,true_and,and_true,and_self]
      refine gates_app (Sl.ext hg ((e5.trans f).trans s)) q (by omega) (nil (U.ext s)) (fun b e=>by have e:F=b:=Option.some.inj e;omega) fun T v8 A a4 G=>?_
      try simp(disch:=first|(simp only[push_cast];done)|omega) only[push_cast,true_and,and_true,and_self]
      refine fin T v8 (((Same.of_ext (f.trans s))).trans (a4.mono (S':=fun b=>H.heap.size≤b) fun b _ e=>e.elim (fun e=>by have e:F=b:=Option.some.inj e;omega) fun h=>by omega)) A fun b p=>(G b p).elim (fun e=>by have e:F=b:=Option.some.inj e;omega) fun h=>by omega
    ·refine mk H _ fun b7 v aj s X q=>?_
     have k:=j.ext s
     simp(disch:=first|(simp only[push_cast];done)|omega) only[push_cast,k.ld1,true_and,and_true,and_self]
     refine qC ke Qa fun F I ai f au U=>?_
     have d:=k.ext f
     simp(disch:=first|(simp only[push_cast];done)|omega) only[push_cast,d.ld1,true_and,and_true,and_self]
     refine gates_app (Sl.ext hg ((e5.trans s).trans f)) (q.ext f) (by omega) (nil U) (fun b e=>by have e:F=b:=Option.some.inj e;omega) fun T v8 A a4 G=>?_
     try simp(disch:=first|(simp only[push_cast];done)|omega) only[push_cast,true_and,and_true,and_self]
     refine fin T v8 (((Same.of_ext (s.trans f))).trans (a4.mono (S':=fun b=>H.heap.size≤b) fun b _ e=>e.elim (fun e=>by have e:F=b:=Option.some.inj e;omega) fun h=>by omega)) A fun b p=>(G b p).elim (fun e=>by have e:F=b:=Option.some.inj e;omega) fun h=>by omega
   rintro _ _ H ⟨rfl,e5,v',j,N,a3,ab⟩
   refine zr fun I f _=>?_
   have d:=j.ext f
   have ao:=Own.ext a3 f
   have O:=N.ext f
   have aa:∀(w':World) (K:Value→World→Prop),vbi PP .len [zn] zd [v'] w' K=K (.int .i64 ((gs.length+1:Nat):Int)) w':=fun w' K=>by
    rw[Sl.len (Own.sl a3) qg,List.length_map,List.length_append];rfl
   obtain⟨o,c',ar,_⟩:=(Own.sl a3).shape
   simp(disch:=first|(simp only[push_cast];done)|omega) only[push_cast,d.ld0,d.ld1,aa,d.ldAgg (t:=zg) y5,true_and,zE]
   subst ar
   refine O.stAgg (cs':=[.int .i64 n,.slice o (List.map yG (gs++[g])).length c']) rfl y5 net_one fun v m X q=>?_
   have k:=d.same m (show¬b1=b3 by omega)
   simp(disch:=first|(simp only[push_cast];done)|omega) only[push_cast,k.ld0,k.ld1,aa,true_and,and_self,zE]
   rw[q.lv (t:=zg) y5]
   have e7:Ext w v:=Ext.then (e5.trans f) m fun b p=>by omega
   have R:(2+(n:Int)+gs.length)≠0:=by omega
   have ah:=hK v n (.slice o (List.map yG (gs++[g])).length c') e7 (by rw[if_neg R];exact Sl.weaken (Own.sl (Own.same ao m fun b p e=>(ab b p).2.2 e)) fun b p _ hd=>by have:=hD b hd;have:=(ab b p).1;omega) (by rw[if_neg R]) fun h=>absurd h R
   rwa[show(2+(n:Int)+gs.length)=1+n+((gs.length+1:Nat):Int) by omega] at ah
end Go.Proofs.YtaekfnbnhjgboaaGreatDoor
end
section
namespace Go.Proofs.YtaekfnbnhjgboaaGreatDoor
open Go Go.Vc Go.Proofs
variable {w:World} {K:Value→World→Prop} {D F Fx Fy Y S:Nat→Prop} {n b4 b8:Nat} {gs gs':M.Gs} {v nv:Value} {cs cs':List Value} {st:Option M.Gs} {a b m:Int}
def NetO (n:Nat) (D:Nat→Prop) (w:World) (gs:M.Gs) (m:Int) (cs:List Value):Prop:=
 if m=0 then cs=[.int .i64 0,.slice none 0 0] else ∃o l c,cs=[.int .i64 n,.slice o l c]∧GOff D w (.slice o l c) gs∧gs.length≤600
theorem NetO.form (h:NetO n D w gs m cs):∃(x:Int) (o:Option Addr) (l c:Nat),cs=[.int .i64 x,.slice o l c]:=by
 unfold NetO at h
 split at h
 ·exact⟨_,_,_,_,h⟩
 ·obtain⟨o,l,c,e,_⟩:=h;exact⟨_,_,_,_,e⟩
theorem NetO.len (h:NetO n D w gs m cs):cs.length=2:=by obtain⟨x,o,l,c,rfl⟩:=h.form;rfl
theorem NetO.one (h:NetO n D w gs m cs):∀u,u∈cs→u.oneCell'=true:=by obtain⟨x,o,l,c,rfl⟩:=h.form;exact net_one
theorem NetO.same {w':World} (h:NetO n D w gs m cs) (hw:Same S w w') (f:∀b,S b→D b):NetO n D w' gs m cs:=by
 unfold NetO at h⊢
 by_cases hm:m=0
 ·rw[if_pos hm] at h⊢;exact h
 ·rw[if_neg hm] at h⊢
  obtain⟨o,l,c,e,a,d⟩:=h
  exact⟨o,l,c,e,a.swap hw f fun b g _=>g,d⟩
theorem NetO.weak {Y:Nat→Prop} (h:NetO n D w gs m cs) (f:∀b,Y b→D b):NetO n Y w gs m cs:=by
 unfold NetO at h⊢
 by_cases hm:m=0
 ·rw[if_pos hm] at h⊢;exact h
 ·rw[if_neg hm] at h⊢
  obtain⟨o,l,c,e,a,d⟩:=h
  exact⟨o,l,c,e,Sl.weaken a fun b g _ i=>g (f b i),d⟩
theorem NetO.put {f:Nat} {a:Value} (d:GOff D w a (if m=0 then[] else gs)) (b:f=if m=0 then 0 else n) (h:m=0→a= .slice none 0 0) (i:gs.length≤600):NetO n D w gs m [.int .i64 (f:Nat),a]:=by
 unfold NetO
 by_cases c:m=0
 ·rw[if_pos c] at b⊢;rw[b,h c];rfl
 ·rw[if_neg c] at d b⊢
  obtain⟨o,g,e,_⟩:=d.shape
  exact⟨o,_,g,by rw[b,e],by rw[←e];exact d,i⟩
theorem NetO.of {o:Option Addr} {l c:Nat} (h:GOff D w (.slice o l c) gs) (a:gs.length≤600) (hm:m≠0):NetO n D w gs m [.int .i64 n,.slice o l c]:=by
 unfold NetO;rw[if_neg hm];exact⟨o,l,c,rfl,h,a⟩
theorem put_len {g:M.Gt} (h:gs.length≤600):(M.putG n gs g).1.length≤600:=by
 unfold M.putG
 split
 ·exact h
 ·split
  ·exact h
  ·rw[List.length_append,List.length_singleton];omega
theorem l4Abs_sm (c:Sm a) (b:K (.int .i64 (M.absI a)) w):vcall PP qA #[.int .i64 a] w K:=by
 apply jN0
 unfold M.absI at b
 simp only[push_cast]
 refine zh (fun h=>?_) (fun h=>?_)
 ·rw[if_pos h] at b
  simp(disch:=omega) only[push_cast,zE,Int.zero_sub]
  exact b
 ·rw[if_neg h] at b
  exact b
theorem Z10 (x y:Int):zC PP zp [(1,.int .i64 x),(2,.int .i64 y)] w K=K (.agg ⟨yG ⟨false,x,y⟩⟩) w:=ye QF (us:=[[.int .i64 x],[.int .i64 y]]) rfl rfl
theorem XV0 (x y:Int):zC PP zp [(0,.bool true),(1,.int .i64 x),(2,.int .i64 y)] w K=K (.agg ⟨yG ⟨true,x,y⟩⟩) w:=ye QF (us:=[[.bool true],[.int .i64 x],[.int .i64 y]]) rfl rfl
theorem net_out {b2:Nat} {a:List Value} (f:Blk w b2 a zg) (h:a.length=2) (d:cs.length=2) (e:∀u,u∈cs→u.oneCell'=true) (g:∀w',Same (· =b2) w w'→K (.agg ⟨cs⟩) w'):
  zl PP zg (.pointer (some ⟨b2,0,none⟩)) (.agg ⟨cs⟩) w fun _ c=>vlv PP zg (.pointer (some ⟨b2,0,none⟩)) c K:=by
 refine f.stAgg (cs':=cs) (by omega) (by rw[d];exact y5) e fun c hs i b=>?_
 rw[b.lv (t:=zg) (by rw[d];exact y5)]
 exact g c hs
theorem sand6_spec (hn:n≤8) (P:GOff D w nv gs) (o:gs.length≤600) (hD:∀b,D b→b<w.heap.size) (ha:Sm a) (f:Sm b) (T:a≠0) (U:b≠0)
  (O:∀w' cs,Ext w w'→NetO n D w' (M.andG n gs a b).1 (M.andG n gs a b).2 cs→K (.tuple #[.agg ⟨cs⟩,.int .i64 (M.andG n gs a b).2]) w'):
  vcall PP Je #[.agg ⟨[.int .i64 n,nv]⟩,.int .i64 a,.int .i64 b] w K:=by
 apply jM0
 obtain⟨go,gc,W,_⟩:=P.shape
 rw[W] at P⊢
 refine zy fun b1 w1 a1 z a3 R=>?_
 refine zz xX fun b2 p a2 l a4 s=>?_
 have Q:=z.trans l
 have r:=R.ext l
 have i:∀K:Value→World→Prop,ze PP zg (.pointer (some ⟨b1,0,none⟩)) p K=K (.agg ⟨[.int .i64 n,.slice go (gs.map yG).length gc]⟩) p:=fun K=>r.ldAgg (t:=zg) y5
 have z1:=z.size;have z2:=l.size
 have same:∀(x:Int),x≠0→(M.andG n gs a b)=(gs,x)→∀w':World,w'=p→zl PP zg (.pointer (some ⟨b2,0,none⟩)) (.agg ⟨[.int .i64 n,.slice go (gs.map yG).length gc]⟩) w' fun _ E=>vlv PP zg (.pointer (some ⟨b2,0,none⟩)) E fun r6 F=>K (.tuple #[r6,(.int .i64 x)]) F:=fun x hx e w' ew=>by
  subst ew
  rw[e] at O
  refine net_out s rfl rfl net_one fun q Z=>?_
  have e3:Ext w q:=Ext.then Q Z fun y hy=>by subst hy;omega
  exact O q _ e3 (NetO.of (Sl.ext P e3) o hx)
 have X:GatesR (fun b=> ¬D b∧b<w.heap.size) w (.slice go (gs.map yG).length gc) gs:=Sl.weaken P fun b f o=>⟨f,o⟩
 have put:∀g:M.Gt,(M.andG n gs a b)=M.putG n gs g→vcall PP kf #[.agg ⟨[.int .i64 n,.slice go (gs.map yG).length gc]⟩,.agg ⟨yG g⟩] p fun t47 G=>zk PP t47 0 G fun t48 H=>zk PP t47 1 H fun t49 I=>
   zl PP zg (.pointer (some ⟨b2,0,none⟩)) t48 I fun _ L=>vlv PP zg (.pointer (some ⟨b2,0,none⟩)) L fun C N=>K (.tuple #[C,t49]) N:=fun g e=>by
  rw[e] at O
  refine sput_spec (D:=fun b=>D b∨b=b2) hn (Sl.weaken (Sl.ext X Q) fun b f o hd=>hd.elim f.1 fun e=>by have:=f.2;omega) o (fun b f=>f.elim (fun h=>by have:=hD b h;omega) fun h=>by omega) fun q n' a5 A V Y a0=>?_
  simp only[push_cast]
  have S:=NetO.put V Y a0 (put_len o)
  refine net_out (s.ext A) rfl S.len S.one fun w4 B=>?_
  exact O w4 _ (Ext.then (Q.trans A) B fun y hy=>by subst hy;omega) ((S.same B fun b f=> .inr f).weak fun b f=> .inl f)
 unfold Sm at ha f
 refine zI (fun u w'=>u=[]∧w'=p∧M.andG n gs a b=M.putG n gs ⟨false,a,b⟩) ?_ ?_
 ·intro J hJ
  refine zI (fun u w'=>u=[.bool (decide (a= -1∨b= -1∨a= -b))]∧w'=p) ?_ ?_
  ·intro J1 k
   simp only[push_cast]
   refine zh (fun c=>k _ _ ⟨by rw[decide_eq_true (.inl c)],rfl⟩) (fun c=>?_)
   try simp only[push_cast]
   refine zh (fun d=>k _ _ ⟨by rw[decide_eq_true (.inr (.inl d))],rfl⟩) (fun d=>?_)
   simp(disch:=omega) only[push_cast,zE,Int.zero_sub]
   refine k _ _ ⟨?_,rfl⟩
   rw[decide_eq_decide.2 (show(a= -1∨b= -1∨a= -b)↔a= -b from⟨fun h=>h.elim (fun h=>absurd h c) fun h=>h.elim (fun h=>absurd h d) id,fun h=> .inr (.inr h)⟩)]
  rintro _ _ q ⟨rfl,rfl⟩
  simp only[push_cast]
  refine zh (fun c=>?_) (fun c=>?_)
  ·rw[i]
   refine same (-1) (by decide) ?_ _ rfl
   unfold M.andG
   by_cases j:a= -1∨b= -1
   ·rw[if_pos j]
   ·rw[if_neg j]
    have d:a= -b:=c.elim (fun h=>absurd (.inl h) j) fun h=>h.elim (fun h=>absurd (.inr h) j) id
    rw[if_neg (by omega),if_neg (by omega)]
    by_cases c3:a=b
    ·exfalso;omega
    ·rw[if_neg c3,if_pos d]
  refine zI (fun u w'=>u=[.bool (decide (a=1∨a=b))]∧w'=q) ?_ ?_
  ·intro J2 v
   try simp only[push_cast]
   refine zh (fun c=>v _ _ ⟨by rw[decide_eq_true (.inl c)],rfl⟩) (fun d=>?_)
   try simp only[push_cast]
   refine v _ _ ⟨?_,rfl⟩
   rw[decide_eq_decide.2 (show(a=1∨a=b)↔a=b from⟨fun h=>h.elim (fun h=>absurd h d) id,.inr⟩)]
  rintro _ _ w4 ⟨rfl,rfl⟩
  have j: ¬(a= -1∨b= -1):=fun h=>c (h.elim .inl fun h=> .inr (.inl h))
  simp only[push_cast]
  refine zh (fun d=>?_) (fun d=>?_)
  ·rw[i]
   refine same b U ?_ _ rfl
   unfold M.andG
   rw[if_neg j]
   by_cases c3:a=1
   ·rw[if_pos c3]
   ·have m:a=b:=d.elim (fun h=>absurd h c3) id
    rw[if_neg c3]
    by_cases c5:b=1
    ·omega
    ·rw[if_neg c5,if_pos m,m]
  try simp only[push_cast]
  refine zh (fun c3=>?_) (fun c3=>?_)
  ·rw[i]
   refine same a T ?_ _ rfl
   unfold M.andG
   rw[if_neg j,if_neg (fun h=>d (.inl h)),if_pos c3]
  have hand:M.andG n gs a b=M.putG n gs (M.gateA a b):=by
   unfold M.andG
   rw[if_neg j,if_neg (fun h=>d (.inl h)),if_neg c3,if_neg (fun h=>d (.inr h)),if_neg (fun h=>c (.inr (.inr h)))]
  refine l4Abs_sm ha (l4Abs_sm f ?_)
  try simp only[push_cast]
  unfold M.gateA at hand
  refine zh (fun m=>?_) (fun m=>?_)
  ·rw[if_pos m] at hand
   rw[i,Z10]
   exact put _ hand
  ·rw[if_neg m] at hand
   exact hJ _ _ ⟨rfl,rfl,hand⟩
 rintro _ _ q ⟨rfl,rfl,hp⟩
 rw[i,Z10]
 exact put _ hp
theorem sxor6_spec (hn:n≤8) (R:GOff D w nv gs) (z:gs.length≤600) (hD:∀b,D b→b<w.heap.size) (Z:Sm a) (j:Sm b) (a9:a≠0) (aa:b≠0)
  (Q:∀w' cs,Ext w w'→NetO n D w' (M.xorG n gs a b).1 (M.xorG n gs a b).2 cs→K (.tuple #[.agg ⟨cs⟩,.int .i64 (M.xorG n gs a b).2]) w'):
  vcall PP Jd #[.agg ⟨[.int .i64 n,nv]⟩,.int .i64 a,.int .i64 b] w K:=by
 apply jK0
 obtain⟨go,gc,a1,_⟩:=R.shape
 rw[a1] at R⊢
 refine zy fun b1 w1 ab H ag V=>?_
 refine zz xX fun b2 I ac s ah F=>?_
 have U:=H.trans s
 have E:=V.ext s
 have o:∀K:Value→World→Prop,ze PP zg (.pointer (some ⟨b1,0,none⟩)) I K=K (.agg ⟨[.int .i64 n,.slice go (gs.map yG).length gc]⟩) I:=fun K=>E.ldAgg (t:=zg) y5
 have z1:=H.size;have z2:=s.size
 have same:∀(x:Int),x≠0→(M.xorG n gs a b)=(gs,x)→∀w':World,w'=I→zl PP zg (.pointer (some ⟨b2,0,none⟩)) (.agg ⟨[.int .i64 n,.slice go (gs.map yG).length gc]⟩) w' fun _ L=>vlv PP zg (.pointer (some ⟨b2,0,none⟩)) L fun r6 N=>K (.tuple #[r6,(.int .i64 x)]) N:=fun x hx e w' ew=>by
  subst ew
  rw[e] at Q
  refine net_out F rfl rfl net_one fun C a4=>?_
  have e3:Ext w C:=Ext.then U a4 fun y B=>by subst B;omega
  exact Q C _ e3 (NetO.of (Sl.ext R e3) z hx)
 have a2:GatesR (fun b=> ¬D b∧b<w.heap.size) w (.slice go (gs.map yG).length gc) gs:=Sl.weaken R fun b j z=>⟨j,z⟩
 have absN:∀a:Int,M.absI a=(a.natAbs:Int):=fun a=>by unfold M.absI;split<;>omega
 have na:=absN a
 have nb:=absN b
 unfold Sm at Z j
 refine zI (fun u w'=>u=[]∧w'=I∧M.xorG n gs a b=((M.putG n gs (M.gateX a b)).1,M.turnI (decide (a<0) != decide (b<0)) (M.putG n gs (M.gateX a b)).2)) ?_ ?_
 ·intro J hJ
  refine zI (fun u w'=>u=[.bool (decide (a=1∨a= -1))]∧w'=I) ?_ ?_
  ·intro O i
   simp only[push_cast]
   refine zh (fun c=>i _ _ ⟨by rw[decide_eq_true (.inl c)],rfl⟩) (fun c=>?_)
   try simp only[push_cast]
   refine i _ _ ⟨?_,rfl⟩
   rw[decide_eq_decide.2 (show(a=1∨a= -1)↔a= -1 from⟨fun h=>h.elim (fun h=>absurd h c) id,.inr⟩)]
  rintro _ _ C ⟨rfl,rfl⟩
  simp only[push_cast]
  refine zh (fun c=>?_) (fun c=>?_)
  ·rw[o]
   have e:M.xorG n gs a b=(gs,-a*b):=by
    unfold M.xorG
    rcases c with rfl|rfl
    ·rw[if_pos (by decide)];simp[M.turnI]
    ·rw[if_pos (by decide)];simp[M.turnI]
   have hm:(-a*b).natAbs=b.natAbs:=by rcases c with rfl|rfl<;>simp
   have k: -a*b≠0:=by omega
   simp(disch:=omega) only[push_cast,zE,Int.zero_sub]
   exact same (-a*b) k e _ rfl
  refine zI (fun u w'=>u=[.bool (decide (b=1∨b= -1))]∧w'=C) ?_ ?_
  ·intro O i
   try simp only[push_cast]
   refine zh (fun c=>i _ _ ⟨by rw[decide_eq_true (.inl c)],rfl⟩) (fun c=>?_)
   try simp only[push_cast]
   refine i _ _ ⟨?_,rfl⟩
   rw[decide_eq_decide.2 (show(b=1∨b= -1)↔b= -1 from⟨fun h=>h.elim (fun h=>absurd h c) id,.inr⟩)]
  rintro _ _ w4 ⟨rfl,rfl⟩
  simp only[push_cast]
  have P: ¬M.absI a=1:=by omega
  refine zh (fun d=>?_) (fun d=>?_)
  ·rw[o]
   have e:M.xorG n gs a b=(gs,-b*a):=by
    unfold M.xorG
    rw[if_neg P]
    rcases d with rfl|rfl
    ·rw[if_pos (by decide)];simp[M.turnI]
    ·rw[if_pos (by decide)];simp[M.turnI]
   have hm:(-b*a).natAbs=a.natAbs:=by rcases d with rfl|rfl<;>simp
   have k: -b*a≠0:=by omega
   simp(disch:=omega) only[push_cast,zE,Int.zero_sub]
   exact same (-b*a) k e _ rfl
  have T: ¬M.absI b=1:=by omega
  try simp only[push_cast]
  refine zh (fun f=>?_) (fun f=>?_)
  ·rw[o]
   exact same (-1) (by decide) (by unfold M.xorG;rw[if_neg P,if_neg T,if_pos f]) _ rfl
  try simp(disch:=omega) only[push_cast,zE,Int.zero_sub]
  refine zh (fun f2=>?_) (fun f2=>?_)
  ·rw[o]
   exact same 1 (by decide) (by unfold M.xorG;rw[if_neg P,if_neg T,if_neg f,if_pos f2]) _ rfl
  exact hJ _ _ ⟨rfl,rfl,by unfold M.xorG;rw[if_neg P,if_neg T,if_neg f,if_neg f2]⟩
 rintro _ _ C ⟨rfl,rfl,hx⟩
 rw[hx] at Q
 have af:=put_abs (g:=M.gateX a b) z hn
 refine zI (fun u w'=>u=[.int .i64 (if a<0 then-1 else 1)]∧w'=C) ?_ ?_
 ·intro O i
  simp only[push_cast]
  refine zh (fun c=>?_) (fun c=>?_)
  ·simp(disch:=omega) only[push_cast,zE,Int.zero_sub]
   exact i _ _ ⟨by rw[if_pos c],rfl⟩
  ·exact i _ _ ⟨by rw[if_neg c],rfl⟩
 rintro _ _ w4 ⟨rfl,rfl⟩
 refine zI (fun u w'=>u=[.int .i64 (if(decide (a<0) != decide (b<0)) then-1 else 1)]∧w'=w4) ?_ ?_
 ·intro O i
  simp only[push_cast]
  refine zh (fun c=>?_) (fun c=>?_)
  ·by_cases d:a<0
   ·rw[if_pos d]
    simp(disch:=omega) only[push_cast,zE,Int.zero_sub]
    exact i _ _ ⟨by simp[c,d],rfl⟩
   ·rw[if_neg d]
    simp(disch:=omega) only[push_cast,zE,Int.zero_sub]
    exact i _ _ ⟨by simp[c,d],rfl⟩
  ·refine i _ _ ⟨?_,rfl⟩
   by_cases d:a<0<;>simp[c,d]
 rintro _ _ w5 ⟨rfl,rfl⟩
 refine l4Abs_sm Z (l4Abs_sm j ?_)
 refine zI (fun u w'=>u=[.int .i64 (M.gateX a b).a,.int .i64 (M.gateX a b).b]∧w'=w5) ?_ ?_
 ·intro O i
  try simp only[push_cast]
  unfold M.gateX at i
  refine zh (fun c=>?_) (fun c=>?_)
  ·rw[if_pos c] at i
   exact l4Abs_sm j (l4Abs_sm Z (i _ _ ⟨rfl,rfl⟩))
  ·rw[if_neg c] at i
   exact i _ _ ⟨rfl,rfl⟩
 rintro _ _ w6 ⟨rfl,rfl⟩
 try simp only[push_cast]
 rw[o,XV0,show(⟨true,(M.gateX a b).a,(M.gateX a b).b⟩:M.Gt)=M.gateX a b from by unfold M.gateX;split<;>rfl]
 refine sput_spec (D:=fun b=>D b∨b=b2) hn (Sl.weaken (Sl.ext a2 U) fun b j z hd=>hd.elim j.1 fun e=>by have:=j.2;omega) z (fun b j=>j.elim (fun h=>by have:=hD b h;omega) fun h=>by omega) fun w7 n' a6 v a0 a3 a5=>?_
 simp only[push_cast]
 have q:=NetO.put a0 a3 a5 (put_len z)
 generalize [Value.int .i64 (n':Nat),a6]=cs at q⊢
 generalize ae:(M.putG n gs (M.gateX a b)).2=pm at*
 have r:=q.len
 refine zz xX fun b8 w8 ad m ai W=>?_
 have a8:=q.same (Same.of_ext m (S:=fun _=>False)) fun b j=>j.elim
 refine W.stAgg (cs':=cs) (by rw[r];rfl) (by rw[r];exact y5) q.one fun w9 A aj X=>?_
 rw[X.ldAgg (t:=zg) (by rw[r];exact y5)]
 have hmul:(if(decide (a<0) != decide (b<0))=true then(-1:Int) else 1)*pm=M.turnI (decide (a<0) != decide (b<0)) pm:=by
  unfold M.turnI;split<;>omega
 try simp only[push_cast]
 rw[hmul,zE (by have:=y80 (c:=decide (a<0) != decide (b<0)) (a:=pm);omega) (by have:=y80 (c:=decide (a<0) != decide (b<0)) (a:=pm);omega)]
 have l7:=v.size;have l8:=m.size
 have G:=((F.ext v).ext m).same A (show¬b2=b8 by omega)
 refine net_out G rfl q.len q.one fun a7 p=>?_
 have e9:Ext w w9:=Ext.then ((U.trans v).trans m) A fun y B=>by subst B;omega
 refine Q a7 _ (Ext.then e9 p fun y B=>by subst B;omega) ?_
 have h9:Ext w7 w9:=Ext.then m A fun y B=>by subst B;omega
 have l:=((q.same (Same.of_ext h9 (S:=fun _=>False)) fun b j=>j.elim).same p fun b j=> .inr j).weak (Y:=D) fun b j=> .inl j
 unfold NetO at l⊢
 by_cases k:pm=0
 ·rw[if_pos k] at l;rw[if_pos (M.turn_zero.2 k)];exact l
 ·rw[if_neg k] at l;rw[if_neg (fun h=>k (M.turn_zero.1 h))];exact l
end Go.Proofs.YtaekfnbnhjgboaaGreatDoor
end
section
namespace Go.Proofs.YtaekfnbnhjgboaaGreatDoor
open Go Go.Vc Go.Proofs
variable {w:World} {K:Value→World→Prop} {D F Fx Fy Y S:Nat→Prop} {n b4 b8:Nat} {gs gs':M.Gs} {v nv:Value} {cs cs':List Value} {st st':Option M.Gs} {a b c m x y r:Int}
def MkR (n:Nat) (D:Nat→Prop) (w:World) (cs:List Value) (st:Option M.Gs):Prop:=
 match st with
 |some gs=> ∃o l c,cs=[.int .i64 n,.slice o l c,.bool true]∧GOff D w (.slice o l c) gs∧gs.length≤600
 |none=>cs=[.int .i64 0,.slice none 0 0,.bool false]
theorem MkR.form (h:MkR n D w cs st):∃(x:Int) (o:Option Addr) (l c:Nat) (b:Bool),cs=[.int .i64 x,.slice o l c,.bool b]:=by
 cases st with
 |none=>exact⟨_,_,_,_,_,h⟩
 |some gs=>obtain⟨o,l,c,e,_⟩:=h;exact⟨_,_,_,_,_,e⟩
theorem MkR.len (h:MkR n D w cs st):cs.length=3:=by obtain⟨x,o,l,c,b,rfl⟩:=h.form;rfl
theorem MkR.one (h:MkR n D w cs st):∀u,u∈cs→u.oneCell'=true:=by
 obtain⟨x,o,l,c,b,rfl⟩:=h.form
 intro u hu
 simp only[List.mem_cons,List.not_mem_nil,or_false] at hu
 rcases hu with rfl|rfl|rfl<;>rfl
theorem MkR.swap {w':World} (h:MkR n D w cs st) (hw:Same S w w') (f:∀b,S b→D b) (g:∀b,Y b→b<w.heap.size→D b):MkR n Y w' cs st:=by
 cases st with
 |none=>exact h
 |some gs=>
  obtain⟨o,l,c,e,a,d⟩:=h
  exact⟨o,l,c,e,a.swap hw f g,d⟩
theorem MkR.ext {w':World} (h:MkR n D w cs st) (hw:Ext w w') (a:∀b,Y b→b<w.heap.size→D b):MkR n Y w' cs st:=h.swap hw (fun _ h=>h.elim) a
theorem MkR.same {w':World} (h:MkR n D w cs st) (hw:Same S w w') (a:∀b,S b→D b):MkR n D w' cs st:=h.swap hw a fun _ h _=>h
def Sn (st:Option M.Gs) (x:Int):Prop:=Sm x∧(x=0→st=none)
def SnL (st:Option M.Gs) (xs:List Int):Prop:=∀x,x∈xs→Sn st x
theorem Xp0 {α:Type} {p:M.Bd α} {a:α} (h:M.Bd.Out n p st st' a):st=none→st'=none:=fun e=>by subst e;exact h.1
theorem Sn.out {α:Type} {p:M.Bd α} {a:α} (h:Sn st x) (b:M.Bd.Out n p st st' a):Sn st' x:=⟨h.1,fun e=>Xp0 b (h.2 e)⟩
theorem SnL.out {α:Type} {p:M.Bd α} {a:α} {xs:List Int} (h:SnL st xs) (b:M.Bd.Out n p st st' a):SnL st' xs:=fun x c=>(h x c).out b
theorem Sn.neg (h:Sn st x):Sn st (-x):=⟨by have:=h.1;unfold Sm at*;omega,fun e=>h.2 (by omega)⟩
theorem Sn.nz (h:Sn (some gs) x):x≠0:=fun e=>by have:=h.2 e;cases this
theorem Sn.of (h:Sm x) (a:x≠0):Sn st x:=⟨h,fun e=>absurd e a⟩
theorem SnL.get {xs:List Int} (h:SnL st xs) {i:Nat} (hi:i<xs.length):Sn st (xs.getD i 0):=h _ (M.getD_mem hi 0)
theorem SnL.app {xs ys:List Int} (h:SnL st xs) (a:SnL st ys):SnL st (xs++ys):=fun x b=>(List.mem_append.1 b).elim (h x) (a x)
theorem SnL.one (h:Sn st x):SnL st [x]:=fun y a=>by rw[List.mem_singleton.1 a];exact h
theorem SnL.nil:SnL st []:=fun x a=>by cases a
theorem SnL.sm {xs:List Int} (h:SnL st xs):SmL xs:=fun x a=>(h x a).1
theorem SnL.fill (m:Nat):SnL st (M.offsL m):=fun x a=>by rw[List.eq_of_mem_replicate a];exact Sn.of (by decide) (by decide)
theorem SnL.neg {xs:List Int} (h:SnL st xs):SnL st (M.negL xs):=fun x a=>by
 obtain⟨y,b,rfl⟩:=List.mem_map.1 a;exact(h y b).neg
theorem QO0 {x:Int} {o:Option Addr} {l c:Nat} {b:Bool}:zC PP zf [(0,.agg ⟨[.int .i64 x,.slice o l c]⟩),(1,.bool b)] w K=K (.agg ⟨[.int .i64 x,.slice o l c,.bool b]⟩) w:=ye kA0 (us:=[[.int .i64 x,.slice o l c],[.bool b]]) rfl rfl
theorem yi0 {b4:Nat} (a:Blk w b4 cs zf) (h:cs.length=3):ze PP zf (.pointer (some ⟨b4,0,none⟩)) w K=K (.agg ⟨cs⟩) w:=a.ldAgg (t:=zf) (by rw[h];exact VQ)
theorem mk_put {b4:Nat} {a:List Value} (c:Blk w b4 a zf) (f:a.length=3) (e:cs.length=3) (b:∀u,u∈cs→u.oneCell'=true) (d:∀w',Same (· =b4) w w'→w'.heap.size=w.heap.size→Blk w' b4 cs zf→K undef w'):zl PP zf (.pointer (some ⟨b4,0,none⟩)) (.agg ⟨cs⟩) w K:=
 c.stAgg (cs':=cs) (by omega) (by rw[e];exact VQ) b d
theorem zd0 {b8:Nat} {a:List Value} (g:Blk w b8 a zf) (e:a.length=3) (d:cs.length=3) (f:∀u,u∈cs→u.oneCell'=true) (h:∀w',Same (· =b8) w w'→K (.agg ⟨cs⟩) w'):
  zl PP zf (.pointer (some ⟨b8,0,none⟩)) (.agg ⟨cs⟩) w fun _ c=>vlv PP zf (.pointer (some ⟨b8,0,none⟩)) c K:=
 mk_put g e d f fun c hs i b=>by
  rw[b.lv (t:=zf) (by rw[d];exact VQ)]
  exact h c hs
theorem sand7_spec (hn:n≤8) (Z:MkR n D w cs st) (hD:∀b,D b→b<w.heap.size) (hx:Sn st x) (I:Sn st y)
  (U:∀w' cs' st' r,Ext w w'→MkR n D w' cs' st'→Sn st' r→M.Bd.Out n (.and x y .ret) st st' r→K (.tuple #[.agg ⟨cs'⟩,.int .i64 r]) w'):
  vcall PP xH #[.agg ⟨cs⟩,.int .i64 x,.int .i64 y] w K:=by
 apply jI0
 refine zy fun b3 w1 a3 F a7 Q=>?_
 refine zz qz fun b6 w2 a4 p a8 A=>?_
 have O:=F.trans p
 have d:=Q.ext p
 have z1:=F.size;have z2:=p.size
 cases st with
 |none=>
  have V:cs=[.int .i64 0,.slice none 0 0,.bool false]:=Z
  subst V
  simp(disch:=first|(simp only[push_cast];done)|omega) only[push_cast,d.ld2,Bool.not_false,yi0 d rfl]
  refine zd0 A rfl rfl Z.one fun w3 a1=>?_
  exact U w3 _ none 1 (Ext.then O a1 fun b e=>by omega) rfl (Sn.of (by decide) (by decide)) ⟨rfl,1,rfl⟩
 |some gs=>
  obtain⟨o,l,c,rfl,hg,J⟩:=Z
  have H:ze PP zg (.pointer (some ⟨b3,0,none⟩)) w2=fun K=>K (.agg ⟨[.int .i64 n,.slice o l c]⟩) w2:=by
   funext K;exact Blk.ldTake (us:=[.int .i64 n,.slice o l c]) (r:=[.bool true]) d y5
  simp(disch:=first|(simp only[push_cast];done)|omega) only[push_cast,d.ld2,Bool.not_true,xj,Nat.add_zero,H]
  have W:GOff (fun b=>D b∨b=b3∨b=b6) w2 (.slice o l c) gs:=hg.swap O (fun _ h=>h.elim) fun b e J=>e.elim id fun h=>by omega
  refine sand6_spec hn W J (fun b e=>e.elim (fun h=>by have:=hD b h;omega) fun h=>by omega) hx.1 I.1 hx.nz I.nz fun w3 L q j=>?_
  have hlen:gs.length≤600:=J
  have E:=YK0 (gs:=gs) (n:=n) J hn hx.1 I.1
  have f:(M.Bd.and x y .ret:M.Bd Int).run n gs=if(M.andG n gs x y).2=0 then none else some ((M.andG n gs x y).1,(M.andG n gs x y).2):=rfl
  generalize a6:(M.andG n gs x y).1=z at*
  generalize (M.andG n gs x y).2=m at*
  simp only[push_cast]
  have k:=j.len
  refine zz xX fun b8 w8 a5 G a9 R=>?_
  refine R.stAgg (cs':=L) (by rw[k];rfl) (by rw[k];exact y5) j.one fun w9 a2 aa T=>?_
  have z3:=q.size;have z8:=G.size
  have P:Ext w3 w9:=Ext.then G a2 fun y I=>by subst I;omega
  have C:=j.same (Same.of_ext P (S:=fun _=>False)) fun b e=>e.elim
  rw[T.ldAgg (t:=zg) (by rw[k];exact y5)]
  obtain⟨x3,o3,l3,c3,rfl⟩:=C.form
  simp only[push_cast,QO0]
  have B:=(A.ext (q.trans P))
  refine zd0 B rfl rfl (fun u hu=>by simp only[List.mem_cons,List.not_mem_nil,or_false] at hu;rcases hu with rfl|rfl|rfl<;>rfl) fun s g=>?_
  have v:Ext w s:=Ext.then (O.trans (q.trans P)) g fun b e=>by omega
  have a:=(C.same g fun b e=> .inr (.inr e)).weak (Y:=D) fun b e=> .inl e
  by_cases hm:m=0
  ·subst hm
   unfold NetO at a
   rw[if_pos rfl] at a
   simp only[List.cons.injEq,and_true] at a
   obtain⟨N,i⟩:=a
   rw[N,i]
   refine U s _ none 0 v rfl ⟨by decide,fun _=>rfl⟩ (.inr ⟨by rw[f,if_pos rfl],rfl,0,rfl⟩)
  ·unfold NetO at a
   rw[if_neg hm] at a
   obtain⟨o4,l4,c4,e4,X,a0⟩:=a
   simp only[List.cons.injEq,and_true] at e4
   obtain⟨N,i⟩:=e4
   rw[N,i,decide_eq_true hm]
   refine U s _ (some z) m v ⟨o4,l4,c4,rfl,X,a0⟩ (Sn.of E hm) (.inl ⟨z,by rw[f,if_neg hm],rfl⟩)
theorem sxor7_spec (hn:n≤8) (Z:MkR n D w cs st) (hD:∀b,D b→b<w.heap.size) (hx:Sn st x) (I:Sn st y)
  (U:∀w' cs' st' r,Ext w w'→MkR n D w' cs' st'→Sn st' r→M.Bd.Out n (.xor x y .ret) st st' r→K (.tuple #[.agg ⟨cs'⟩,.int .i64 r]) w'):
  vcall PP j8 #[.agg ⟨cs⟩,.int .i64 x,.int .i64 y] w K:=by
 apply jB0
 refine zy fun b3 w1 a3 F a7 Q=>?_
 refine zz qz fun b6 w2 a4 p a8 A=>?_
 have O:=F.trans p
 have d:=Q.ext p
 have z1:=F.size;have z2:=p.size
 cases st with
 |none=>
  have V:cs=[.int .i64 0,.slice none 0 0,.bool false]:=Z
  subst V
  simp(disch:=first|(simp only[push_cast];done)|omega) only[push_cast,d.ld2,Bool.not_false,yi0 d rfl]
  refine zd0 A rfl rfl Z.one fun w3 a1=>?_
  exact U w3 _ none 1 (Ext.then O a1 fun b e=>by omega) rfl (Sn.of (by decide) (by decide)) ⟨rfl,1,rfl⟩
 |some gs=>
  obtain⟨o,l,c,rfl,hg,J⟩:=Z
  have H:ze PP zg (.pointer (some ⟨b3,0,none⟩)) w2=fun K=>K (.agg ⟨[.int .i64 n,.slice o l c]⟩) w2:=by
   funext K;exact Blk.ldTake (us:=[.int .i64 n,.slice o l c]) (r:=[.bool true]) d y5
  simp(disch:=first|(simp only[push_cast];done)|omega) only[push_cast,d.ld2,Bool.not_true,xj,Nat.add_zero,H]
  have W:GOff (fun b=>D b∨b=b3∨b=b6) w2 (.slice o l c) gs:=hg.swap O (fun _ h=>h.elim) fun b e J=>e.elim id fun h=>by omega
  refine sxor6_spec hn W J (fun b e=>e.elim (fun h=>by have:=hD b h;omega) fun h=>by omega) hx.1 I.1 hx.nz I.nz fun w3 L q j=>?_
  have hlen:gs.length≤600:=J
  have E:=ZK0 (gs:=gs) (n:=n) J hn hx.1 I.1
  have f:(M.Bd.xor x y .ret:M.Bd Int).run n gs=if(M.xorG n gs x y).2=0 then none else some ((M.xorG n gs x y).1,(M.xorG n gs x y).2):=rfl
  generalize a6:(M.xorG n gs x y).1=z at*
  generalize (M.xorG n gs x y).2=m at*
  simp only[push_cast]
  have k:=j.len
  refine zz xX fun b8 w8 a5 G a9 R=>?_
  refine R.stAgg (cs':=L) (by rw[k];rfl) (by rw[k];exact y5) j.one fun w9 a2 aa T=>?_
  have z3:=q.size;have z8:=G.size
  have P:Ext w3 w9:=Ext.then G a2 fun y I=>by subst I;omega
  have C:=j.same (Same.of_ext P (S:=fun _=>False)) fun b e=>e.elim
  rw[T.ldAgg (t:=zg) (by rw[k];exact y5)]
  obtain⟨x3,o3,l3,c3,rfl⟩:=C.form
  simp only[push_cast,QO0]
  have B:=(A.ext (q.trans P))
  refine zd0 B rfl rfl (fun u hu=>by simp only[List.mem_cons,List.not_mem_nil,or_false] at hu;rcases hu with rfl|rfl|rfl<;>rfl) fun s g=>?_
  have v:Ext w s:=Ext.then (O.trans (q.trans P)) g fun b e=>by omega
  have a:=(C.same g fun b e=> .inr (.inr e)).weak (Y:=D) fun b e=> .inl e
  by_cases hm:m=0
  ·subst hm
   unfold NetO at a
   rw[if_pos rfl] at a
   simp only[List.cons.injEq,and_true] at a
   obtain⟨N,i⟩:=a
   rw[N,i]
   refine U s _ none 0 v rfl ⟨by decide,fun _=>rfl⟩ (.inr ⟨by rw[f,if_pos rfl],rfl,0,rfl⟩)
  ·unfold NetO at a
   rw[if_neg hm] at a
   obtain⟨o4,l4,c4,e4,X,a0⟩:=a
   simp only[List.cons.injEq,and_true] at e4
   obtain⟨N,i⟩:=e4
   rw[N,i,decide_eq_true hm]
   refine U s _ (some z) m v ⟨o4,l4,c4,rfl,X,a0⟩ (Sn.of E hm) (.inl ⟨z,by rw[f,if_neg hm],rfl⟩)
theorem sor7_spec (O:n≤8) (s:MkR n D w cs st) (hD:∀b,D b→b<w.heap.size) (F:Sn st x) (G:Sn st y)
  (J:∀w' cs' st' r,Ext w w'→MkR n D w' cs' st'→Sn st' r→M.Bd.Out n (M.orB x y) st st' r→K (.tuple #[.agg ⟨cs'⟩,.int .i64 r]) w'):
  vcall PP Za #[.agg ⟨cs⟩,.int .i64 x,.int .i64 y] w K:=by
 apply ky0
 refine zy fun b3 U L j P o=>?_
 refine zz qz fun C S N e Q p=>?_
 have E:=j.trans e
 have d:=o.ext e
 have X:=j.size;have z2:=e.size
 have z:=F.1;have A:=G.1
 unfold Sm at z A
 simp(disch:=omega) only[push_cast,yi0 d s.len,zE,Int.zero_sub]
 have t:MkR n (fun b=>D b∨b=b3∨b=C) S cs st:=s.ext E fun b c T=>c.elim id fun h=>by omega
 refine sand7_spec O t (fun b c=>c.elim (fun h=>by have:=hD b h;omega) fun h=>by omega) F.neg G.neg fun V m B r f a k u=>?_
 have v:=k.1
 unfold Sm at v
 simp only[push_cast]
 refine mk_put (d.ext f) s.len a.len a.one fun W g R q=>?_
 have i:=(p.ext f).same g (show¬C=b3 by omega)
 simp(disch:=omega) only[push_cast,yi0 q a.len,zE,Int.zero_sub]
 refine zd0 i rfl a.len a.one fun H l=>?_
 have I:Ext w H:=Ext.then (Ext.then (E.trans f) g fun b c=>by omega) l fun b c=>by omega
 exact J H m B (-r) I ((a.same g fun b c=> .inr (.inl c)).swap l (fun b c=> .inr (.inr c)) fun b c _=> .inl c) k.neg (qx u (M.Bd.Out.ret _ _))
theorem sone7_spec (R:n≤8) (N:MkR n D w cs st) (hD:∀b,D b→b<w.heap.size) (J:Sn st c) (hx:Sn st x) (hy:Sn st y)
  (hK:∀w' cs' st' r,Ext w w'→MkR n D w' cs' st'→Sn st' r→M.Bd.Out n (M.muxB c x y) st st' r→K (.tuple #[.agg ⟨cs'⟩,.int .i64 r]) w'):
  vcall PP Zs #[.agg ⟨cs⟩,.int .i64 c,.int .i64 x,.int .i64 y] w K:=by
 apply jC0
 refine zy fun b3 w1 a2 z a4 G=>?_
 refine zz qz fun E Y a3 k a5 H=>?_
 have X:=z.trans k
 have i:=G.ext k
 have z1:=z.size;have z2:=k.size
 have L:=J.1
 unfold Sm at L
 rw[yi0 i N.len]
 have O:MkR n (fun b=>D b∨b=b3∨b=E) Y cs st:=N.ext X fun b a hl=>a.elim id fun h=>by omega
 have j:∀b,(D b∨b=b3∨b=E)→b<Y.heap.size:=fun b a=>a.elim (fun h=>by have:=hD b h;omega) fun h=>by omega
 refine sand7_spec R O j J hx fun w3 a0 a8 p e d T m=>?_
 simp only[push_cast]
 refine mk_put (i.ext e) N.len d.len d.one fun w4 o a6 v=>?_
 have z3:=e.size
 have t:=(H.ext e).same o (show¬E=b3 by omega)
 have P:=d.same o fun b a=> .inr (.inl a)
 simp(disch:=omega) only[push_cast,yi0 v d.len,zE,Int.zero_sub]
 refine sand7_spec R P (fun b a=>by have:=j b a;omega) (J.out m).neg (hy.out m) fun w5 a1 a9 q f g U B=>?_
 simp only[push_cast]
 refine mk_put (v.ext f) d.len g.len g.one fun w6 s a7 I=>?_
 have z5:=f.size
 have u:=(t.ext f).same s (show¬E=b3 by omega)
 have Q:=g.same s fun b a=> .inr (.inl a)
 rw[yi0 I g.len]
 refine sor7_spec R Q (fun b a=>by have:=j b a;omega) (T.out B) U fun w7 F W r A l V S=>?_
 simp only[push_cast]
 refine zd0 (u.ext A) rfl l.len l.one fun Z C=>?_
 have e6:Ext w w6:=Ext.then ((Ext.then (X.trans e) o fun b a=>by omega).trans f) s fun b a=>by omega
 have e8:Ext w Z:=Ext.then (e6.trans A) C fun b a=>by omega
 exact hK Z F W r e8 (l.swap C (fun b a=> .inr (.inr a)) fun b a _=> .inl a) V (qx m (qx B S))
end Go.Proofs.YtaekfnbnhjgboaaGreatDoor
end
