import Derived.Test.YtfjlkobhagjdaaaGreatDoorWzaP7
import Derived.LaidEql
import Derived.Stop.Asserts
/- A part of the proof. -/
set_option linter.all false
set_option maxRecDepth 9999
set_option maxHeartbeats 2000000
noncomputable section
namespace Go.Proofs.YtfjlkobhagjdaaaGreatDoor
open Go Go.Vc Go.Proofs
section
variable {w:World} {K:oK} {F F' X Fk Q:Nat->Prop} {n bc bb:Nat} {gs:M.Gs} {v:Value} {ar ab:Addr}
theorem Q2 {a:TypeId} {v:Value} (b:concB a=true) {xT:TypeId}:yf0 (.iface a v) xT a true w K=K (.tuple #[v,.bool true]) w:=by
 refine y9 ?_;unfold concB at b;cases hu:P.underlying a with
 |none=>rw[hu] at b;cases b
 |some d=>
  rw[hu] at b;cases d<;>first|(cases b;done)|simp[Instr.typeAssert,run_underlying hu]
theorem xU {a t:TypeId} {v z:Value} (b:concB a=true) (e:ym a z) (c:t≠a) {xT:TypeId}:yf0 (.iface t v) xT a true w K=K (.tuple #[z,.bool false]) w:=by
 refine y9 ?_;unfold concB at b;cases hu:P.underlying a with
 |none=>rw[hu] at b;cases b
 |some d=>
  rw[hu] at b;cases d<;>first|(cases b;done)|simp[Instr.typeAssert,run_underlying hu,c,Yb e,Result.andThen]
structure KidsR (Fk X F:Nat->Prop) (w:World) (kv:Value) (rs:List (List Int)):Prop where
 at_:∃vs:List Value,Vals Fk w kv vs/\vs.length=rs.length/\∀i,i<rs.length->Ints (Off X F) w (vs.getD i undef) (rs.getD i [])
 sm:∀r,r∈rs->SmL r
theorem KidsR.ext {w':World} {kv:Value} {rs:List (List Int)} (h:KidsR Fk X F w kv rs) (he:Ext w w'):KidsR Fk X F w' kv rs:=by
 obtain⟨vs,a,b,c⟩:=h.at_;exact⟨⟨vs,a.ext he,b,λi hi=>(c i hi).ext he⟩,h.sm⟩
theorem KidsR.sml {kv:Value} {rs:List (List Int)} (h:KidsR Fk X F w kv rs) {i:Nat} (hi:i<rs.length):SmL (rs.getD i []):=h.sm _ (M.getD_mem hi [])
theorem KidsR.vals {kv:Value} {rs:List (List Int)} (h:KidsR Fk X F w kv rs):∃vs:List Value,(∀(w':World),Ext w w'->∀i,i<rs.length->∀K:oK,ya zH kv (nI i) w' K=K (.pointer (some (eaddr kv 1 i))) w'/\zt ze (.pointer (some (eaddr kv 1 i))) w' K=K (vs.getD i undef) w')/\
  ∀i,i<rs.length->Ints (Off X F) w (vs.getD i undef) (rs.getD i []):=by
 obtain⟨vs,b,d,c⟩:=h.at_;refine⟨vs,λw' he i hi K=>?_,c⟩;have a:=b.ext he;refine⟨?_,a.load KH oM⟩;rw[a.iaddr Kx oM oM,gq]
theorem stKind {b:Nat} {x y:Value} {t0 tk:TypeId} {s:ByteArray} {m:Int} (h:Blk w b [x,y] t0) (e:aggB tk 2=true) (d:∀w',Same (· =b) w w'->K undef w'):zW tk (oP b 0) (.agg ⟨[.string s,nI m]⟩) w K:=
 h.stAgg rfl e (by intro v a;simp only[gi,gz,Gh] at a;rcases a with rfl|rfl<;>rfl) λw' c _ _=>d w' c
theorem fixB_at {wd nn:Int} {j:Nat} (a:(j:Int)<wd):(M.fixB wd nn).getD j 0=if nn.toNat/2^j%2=1 then 1 else-1:=by
 unfold M.fixB;rw[k5,GG,pT oM];rfl
theorem fix_step {wd nn:Int} {j:Nat} (a:(j:Int)<wd):((M.fixB wd nn).take j++List.replicate (wd.toNat-j) (-1)).set j (if nn.toNat/2^j%2=1 then 1 else-1)=(M.fixB wd nn).take (j+1)++List.replicate (wd.toNat-(j+1)) (-1):=by
 have b:((M.fixB wd nn).take j).length=j:=by rw[gl,M.fixB_len];omega
 rw[Ph _ _ oM,b,pj,show wd.toNat-j=(wd.toNat-(j+1))+1 by omega,Py,pE,M.take_add (by rw[M.fixB_len];omega) 0,fixB_at a,Gf];rfl
theorem SmL.fix {wd nn:Int}:SmL (M.fixB wd nn):=λx a=>by
 unfold M.fixB at a;obtain⟨j,_,rfl⟩:=gw.1 a;split<;>decide
theorem SmL.name {ds:List M.Dcl} {k:Nat} (a:M.declOk ds=true) (b:k<ds.length):SmL (M.nameB ds k):=λx c=>by
 have:=M.name_has (m:=9) a b (by have:=(M.decl_iff.1 a).2.2;omega) x c;obtain⟨d,e,f⟩:=this;unfold Sm;omega
def ZZ0 (n bb:Nat) (ar ab:Addr) (X F:Nat->Prop) (w:World) (gs:M.Gs) (ds:List M.Dcl) (t:M.Tm) (rs:List (List Int)) (K:oK):Prop:=
 ∀w' F' st' r zs,BdR n bb ar ab X F' w' st'->Mv F w F' w'->Ints (Off X F') w' r zs->SmL zs->M.Bd.Out n (M.nodeB ds t rs) (some gs) st' zs->K r w'
section
variable {bl kb m:Nat} {dv tv kv:Value} {ds:List M.Dcl} {t:M.Tm} {rs:List (List Int)} {G Gt:Nat->Prop}
theorem root_spec (hb:BdR n bb ar ab X F w (some gs)) (hd:M.declOk ds=true) (hs:M.sortM ds t≠ -1) (hB:Blk w bl [oP bb 0,dv,.map (some kb),.map (some m)] yo) (bv:DclsR G w dv ds) (c0:KindsR w kb) (ht:TermR Gt w tv t)
  (o:KidsR Fk X F w kv rs) (cr:rs.length=t.ks.length) (hlen:∀i,i<t.ks.length->(rs.getD i []).length=M.lenS (M.sortM ds (M.kid t i)))
  (hK:ZZ0 n bb ar ab X F w gs ds t rs K):vcall X7 #[oP bl 0,tv,kv] w K:=by
 obtain⟨tk,rfl,cq⟩:=ht;refine zf {loops:=[(6,[32])]} Tryz.func204 ?_;obtain⟨bs,hp,cf⟩:=M.right_op hs;obtain⟨q1,q2,q3,q4,q5,q6,q7⟩:=M.node_right hd hs (L:=λi=>(rs.getD i []).length) hlen;refine zk λb1 w1 ck bw ct bo=>?_;refine zd λw2 ba _=>?_;have e2:=bw.trans ba;have Z:=hB.ext e2;have U:=bo.ext ba;have z:=hb.ext e2;have b8:=bv.ext e2;simp(disch:=exact oS) only[push_cast,Z.ld2,U.ld0,y4];refine Ke (ok:=false) (c0.ext e2) (by rw[bs];omega) λcu c1=>⟨rfl,?_⟩;obtain⟨s,mm,r,bd,a7,c9,_⟩:=c1.word;simp only[gV,if_false];rw[bd];have q:∀w3,Ext w2 w3->ZZ0 n bb ar ab X F w3 gs ds t rs K:=λw3 I w' F' st' r' zs h1 h2 h3 h4 h5=>hK w' F' st' r' zs h1 ((Mv.refl.ext (e2.trans I)).trans h2) h3 h4 h5;obtain⟨vs,T,S⟩:=(o.ext e2).vals;unfold ZZ0 M.nodeB at q;by_cases ae:t.op=20
 .have D:kTy t.op=zM:=by rw[ae];rfl
  have:=a7 oM;subst this;rw[D,Q2 yF];refine oZ ?_;rw[k6 ae] at q;refine zj yM λb3 w3 a9 I ac N=>?_;refine stKind N Vi λw4 O=>?_;have p:Ext w2 w4:=Ext.then I O λy hy=>by subst hy;omega
  have ah:=U.ext p;have hv:=M.vec_ok hs ae;obtain⟨v1,v2,v3,v4⟩:=M.vok_iff.1 hv;have cg:(2:Int)^t.a.toNat<=16:=by
   have:=pow4 (k:=t.a.toNat) oM oM;have e:=JN t.a.toNat;omega
  simp(disch:=exact oS) only[push_cast,ah.ld1];rw[show t.a=((t.a.toNat:Nat):Int) by omega];refine offs_spec oM λl ov J ao an=>?_;have d:=p.trans J;have ax:∀(w':World) (K:oK),vbi .len [ze] zU [ov] w' K=K (nI t.a.toNat) w':=λw' K=>(by rw[ao.ints.len yW,M.offsL_len]);rw[ax];refine vloop_up t.a.toNat (λj u w'=>u=[nI j]/\Ext w2 w'/\OwnI ze w' ov ((M.fixB t.a t.b).take j++List.replicate (t.a.toNat-j) (-1))) ⟨rfl,d,ao⟩ ?_;rintro j _ g w6 C hj ⟨rfl,V,E⟩ hC;have z25:=d.size;have z24:=p.size;refine oZ ?_;refine zb (λc4=>?_) (λcn=>?_)
  .have br:=U.ext V;simp(disch:=exact oS) only[push_cast,br.ld2];rw[jL yW0 (show jE0 QN .u64 by unfold jE0;kernel_rfl),show t.b=((t.b.toNat:Nat):Int) by omega,wrapU oM];refine bit_spec oM oM ?_;have be:((M.fixB t.a t.b).take j++List.replicate (t.a.toNat-j) (-1)).length=t.a.toNat:=by
    rw[V0,gl,M.fixB_len,gE];omega
   refine zb (λc=>?_) (λc=>?_)
   .rw[E.ints.iaddr yK oM (by rw[be];omega),gq];refine E.st y7 (by rw[be];omega) λw7 bf ca cd=>?_;have aa:=fix_step (wd:=t.a) (nn:=t.b) (j:=j) oM;rw[k6 c] at aa;rw[aa] at bf
    try simp(disch:=omega) only[push_cast,zl]
    exact hC oM _ _ ⟨by simp,Ext.then V ca λb hb=>by have:=an b hb;omega,bf⟩
   .have aa:=fix_step (wd:=t.a) (nn:=t.b) (j:=j) oM;rw[y3 c] at aa;have az:((M.fixB t.a t.b).take j++List.replicate (t.a.toNat-j) (-1)).set j (-1)=(M.fixB t.a t.b).take j++List.replicate (t.a.toNat-j) (-1):=by
     have hl:((M.fixB t.a t.b).take j).length=j:=by rw[gl,M.fixB_len];omega
     rw[Ph _ _ oM,hl,pj,show t.a.toNat-j=(t.a.toNat-(j+1))+1 by omega,Py,pE]
    rw[az] at aa;rw[aa] at E
    try simp(disch:=omega) only[push_cast,zl]
    exact hC oM _ _ ⟨by simp,V,E⟩
  .have bz:j=t.a.toNat:=oM;rw[bz,pj,pS,gG,gD (by rw[M.fixB_len];exact gu _)] at E;exact q w6 V w6 F (some gs) ov _ (z.ext V) Mv.refl (NewI.of (w:=w2) E (λb hb=>by have:=an b hb;omega) z.lt).ints SmL.fix (M.Bd.Out.ret _ _)
 rw[y3 ae] at q;by_cases af:t.op=21
 .have D:kTy t.op=zE:=by rw[af];rfl
  have:=a7 oM;subst this;rw[D];simp only[xU yF yM (show zE≠zM by decide),Q2 yG,push_cast];rw[k6 af] at q;refine zj yS λb3 w3 a9 I ac N=>?_;refine stKind N Km λw4 O=>?_;have p:Ext w2 w4:=Ext.then I O λy hy=>by subst hy;omega
  have ah:=U.ext p;have hf:=M.name_found hs af;have c4:=M.findD_lt ds t.s;simp(disch:=exact oS) only[push_cast,ah.ld3];refine inputs_spec (Z.ext p) (b8.ext p) hd hf λl r5 J ao an=>?_;have z24:=p.size;exact q l (p.trans J) l F (some gs) r5 _ (z.ext (p.trans J)) Mv.refl (NewI.of (w:=w2) ao (λb hb=>by have:=an b hb;omega) z.lt).ints (SmL.name hd oM) (M.Bd.Out.ret _ _)
 rw[y3 af] at q;by_cases bn:24<=t.op
 .have D:kTy t.op=zy:=by
   unfold kTy
   repeat rw[y3 oM]
  obtain⟨f,rfl,c8⟩:=c9 bn;rw[D];simp only[xU yF yM (show zy≠zM by decide),xU yG yS (show zy≠zE by decide),xU x7 xn (show zy≠zJ by decide),xU xB xP (show zy≠zR by decide),xU xR qn (show zy≠zO by decide),xU qj jK (show zy≠zG by decide),xU qi jJ (show zy≠zK by decide),xU kg Zu (show zy≠zF by decide),Q2 Zm,push_cast];refine zj J4 λb3 w3 a9 I ac N=>?_;refine N.stAgg (cs':=[.string s,nI mm,f]) rfl ZY (by intro v hv;simp only[gi,gz,Gh] at hv;rcases hv with rfl|rfl|rfl<;>first|rfl|exact c8) λw4 O _ bp=>?_;have p:Ext w2 w4:=Ext.then I O λy hy=>by subst hy;omega
  have ah:=U.ext p;rw[bp.ldAgg (t:=zy) ZY,ah.ldAgg (t:=za) zc];refine zf {} Tryz.func243 ?_;refine zk λb6 w6 cl V ad ch=>?_;refine zk λb7 w7 cm bx cd bq=>?_;have W:Ext w2 w7:=p.trans (V.trans bx);simp(disch:=exact oS) only[push_cast,bq.ld0];have fin:∀(Q:World) (F8:Nat->Prop) (ap:Option M.Gs) (x:Int),BdR n bb ar ab X F8 Q ap->Mv F w2 F8 Q->Sm x->M.Bd.Out n (M.nodeB ds t rs) (some gs) ap [x]->vbuildS ze 1 [(0,nI x)] Q K:=λQ F8 ap x h8 c5 cc c7=>by
   refine zC yD y7 yj rfl rfl λb9 w9 bt ai ce au=>?_;have a6:OwnI ze w9 (.slice (some ⟨b9,0,none⟩) 1 1) [x]:=Blk.own1 (t:=ze) (cs:=[nI x]) (by rw[yP];exact au) (Gc _) rfl rfl oM;exact hK w9 F8 ap _ [x] (h8.ext ai) (((Mv.refl.ext e2).trans c5).ext ai) (NewI.of (w:=Q) a6 (λb hb=>by have e:b9=b:=K3 hb;omega) h8.lt).ints (SmL.one cc) c7
  unfold M.nodeB at fin;rw[y3 ae,y3 af] at fin;by_cases c:t.op=24
  .rw[k6 c] at fin;rw[gg oM,gg oM,gg oM];refine oZ ?_;exact fin w7 F (some gs) 1 (z.ext W) (Mv.refl.ext W) dC (M.Bd.Out.ret _ _)
  rw[y3 c] at fin;obtain⟨aw,b5⟩:=q7 oM;have co:1<=t.ks.length:=(by split at aw<;>omega);have ci:=b5 0 oM;by_cases ag:t.op=25
  .rw[k6 ag] at fin;rw[gk ag];refine oZ ?_;have A0:∀K:oK,ya zH kv (nI 0) w7 K=K (.pointer (some (eaddr kv 1 0))) w7:=λK=>(T w7 W 0 oM K).1;have B0:∀K:oK,zt ze (.pointer (some (eaddr kv 1 0))) w7 K=K (vs.getD 0 undef) w7:=λK=>(T w7 W 0 oM K).2;have R:Ints (Off X F) w7 (vs.getD 0 undef) (rs.getD 0 []):=(S 0 oM).ext W;have S0:=(o.sml (i:=0) oM).get (i:=0) oM;unfold Sm at S0;simp(disch:=exact oS) only[A0,B0,R.iaddr,R.load,push_cast,zl,gQ];exact fin w7 F (some gs) _ (z.ext W) (Mv.refl.ext W) (by unfold Sm;rw[GS];exact S0) (M.Bd.Out.ret _ _)
  rw[y3 ag] at fin;rw[gg ag];have cp:t.ks.length=2:=by rw[y3 ag] at aw;exact aw
  have cj:=b5 1 oM;refine oZ ?_;have two:∀(Q:World),Ext w2 Q->(∀K:oK,ya zH kv (nI 0) Q K=K (.pointer (some (eaddr kv 1 0))) Q)/\(∀K:oK,zt ze (.pointer (some (eaddr kv 1 0))) Q K=K (vs.getD 0 undef) Q)/\(∀K:oK,ya zH kv (nI 1) Q K=K (.pointer (some (eaddr kv 1 1))) Q)/\(∀K:oK,zt ze (.pointer (some (eaddr kv 1 1))) Q K=K (vs.getD 1 undef) Q)/\Ints (Off X F) Q (vs.getD 0 undef) (rs.getD 0 [])/\Ints (Off X F) Q (vs.getD 1 undef) (rs.getD 1 []):=λQ e8=>
   ⟨λK=>(T Q e8 0 oM K).1,λK=>(T Q e8 0 oM K).2,λK=>(T Q e8 1 oM K).1,λK=>(T Q e8 1 oM K).2,(S 0 oM).ext e8,(S 1 oM).ext e8⟩
  have S0:=(o.sml (i:=0) oM).get (i:=0) oM;have S1:=(o.sml (i:=1) oM).get (i:=0) oM;by_cases am:t.op=26
  .rw[k6 am] at fin;rw[gk am];refine oZ ?_;refine zd λQ av _=>?_;have Y:=W.trans av;have aq:=Z.ext Y;obtain⟨A0,B0,A1,B1,R,V1⟩:=two Q Y;simp(disch:=exact oS) only[aq.ld0,A0,B0,A1,B1,R.iaddr,R.load,V1.iaddr,V1.load,push_cast,y4];refine qN (z.ext Y) S0 S1 λw9 F9 b2 x h9 ay b0 a6=>fin w9 F9 b2 x h9 ((Mv.refl.ext Y).trans ay) b0 ?_;exact xD a6 (M.Bd.Out.ret _ _)
  rw[y3 am,k6 oM] at fin;rw[gg am,gk (show t.op=27 by omega)];refine oZ ?_;refine zd λQ av _=>?_;have Y:=W.trans av;have aq:=Z.ext Y;obtain⟨A0,B0,A1,B1,R,V1⟩:=two Q Y;simp(disch:=exact oS) only[aq.ld0,A0,B0,A1,B1,R.iaddr,R.load,V1.iaddr,V1.load,push_cast,y4];exact bor_spec (z.ext Y) S0 S1 λw9 F9 b2 x h9 ay b0 a6=>fin w9 F9 b2 x h9 ((Mv.refl.ext Y).trans ay) b0 (M.Bd.Out.map _ a6)
 rw[y3 oM,y3 oM,y3 oM,y3 oM] at q;by_cases al:t.op=23
 .have D:kTy t.op=zR:=by rw[al];rfl
  have:=a7 oM;subst this;obtain⟨k1,l0,l1,l2,l3⟩:=q6 al;rw[D];simp only[xU yF yM (show zR≠zM by decide),xU yG yS (show zR≠zE by decide),xU x7 xn (show zR≠zJ by decide),Q2 xB,push_cast];rw[k6 al] at q;refine zj xP λb3 w3 a9 I ac N=>?_;refine stKind N Uf λw4 O=>?_;have p:Ext w2 w4:=Ext.then I O λy hy=>by subst hy;omega
  refine zd λl J _=>?_;have d:=p.trans J;have B:=U.ext d;have a0:=Z.ext d;have H:=z.ext d;have A0:∀K:oK,ya zH kv (nI 0) l K=K (.pointer (some (eaddr kv 1 0))) l:=λK=>(T l d 0 oM K).1;have B0:∀K:oK,zt ze (.pointer (some (eaddr kv 1 0))) l K=K (vs.getD 0 undef) l:=λK=>(T l d 0 oM K).2;have R:Ints (Off X F) l (vs.getD 0 undef) (rs.getD 0 []):=(S 0 oM).ext d;have S0:=o.sml (i:=0) oM;have A1:∀K:oK,ya zH kv (nI 1) l K=K (.pointer (some (eaddr kv 1 1))) l:=λK=>(T l d 1 oM K).1;have B1:∀K:oK,zt ze (.pointer (some (eaddr kv 1 1))) l K=K (vs.getD 1 undef) l:=λK=>(T l d 1 oM K).2;have V1:Ints (Off X F) l (vs.getD 1 undef) (rs.getD 1 []):=(S 1 oM).ext d;have S1:=o.sml (i:=1) oM;have A2:∀K:oK,ya zH kv (nI 2) l K=K (.pointer (some (eaddr kv 1 2))) l:=λK=>(T l d 2 oM K).1;have B2:∀K:oK,zt ze (.pointer (some (eaddr kv 1 2))) l K=K (vs.getD 2 undef) l:=λK=>(T l d 2 oM K).2;have V2:Ints (Off X F) l (vs.getD 2 undef) (rs.getD 2 []):=(S 2 oM).ext d;have S2:=o.sml (i:=2) oM;simp(disch:=exact oS) only[a0.ld0,B.ld0,B.ld1,B.ld2,A0,B0,R.iaddr,R.load,A1,B1,V1.iaddr,V1.load,A2,B2,V2.iaddr,V2.load,push_cast,zl,y4];exact choose_spec H ⟨gs,rfl⟩ V1 V2 l1 oM S1 S2 (S0.get oM) λw6 F6 a8 r6 zs h6 a5 aj ad E=>q l d w6 F6 a8 r6 zs h6 a5 aj ad E
 rw[y3 al] at q;by_cases ak:t.op=22
 .have D:kTy t.op=zJ:=by rw[ak];rfl
  have:=a7 oM;subst this;obtain⟨k1,l0,l1,l2,l3⟩:=q5 ak;rw[D];simp only[xU yF yM (show zJ≠zM by decide),xU yG yS (show zJ≠zE by decide),Q2 x7,push_cast];rw[k6 ak] at q;refine zj xn λb3 w3 a9 I ac N=>?_;refine stKind N Vj λw4 O=>?_;have p:Ext w2 w4:=Ext.then I O λy hy=>by subst hy;omega
  refine zd λl J _=>?_;have d:=p.trans J;have B:=U.ext d;have a0:=Z.ext d;have H:=z.ext d;have A0:∀K:oK,ya zH kv (nI 0) l K=K (.pointer (some (eaddr kv 1 0))) l:=λK=>(T l d 0 oM K).1;have B0:∀K:oK,zt ze (.pointer (some (eaddr kv 1 0))) l K=K (vs.getD 0 undef) l:=λK=>(T l d 0 oM K).2;have R:Ints (Off X F) l (vs.getD 0 undef) (rs.getD 0 []):=(S 0 oM).ext d;have S0:=o.sml (i:=0) oM;simp(disch:=exact oS) only[a0.ld0,B.ld0,B.ld1,B.ld2,A0,B0,R.iaddr,R.load,push_cast,zl,y4];rw[show t.b=((t.b.toNat:Nat):Int) by omega,show t.a+1=((t.a.toNat+1:Nat):Int) by omega];refine Ints.cutLH R yK oM oM λcv bu=>⟨rfl,?_⟩;refine Clone_signal bu (by rw[gl,GY];omega) λw6 r6 V E c6=>?_;refine q l d w6 F (some gs) r6 _ (H.ext V) (Mv.refl.ext V) (NewI.of (w:=l) E c6 H.lt).ints (λx hx=>S0 x (GP (gX hx))) ?_;rw[show t.a.toNat+1-t.b.toNat=(t.a-t.b+1).toNat by omega];exact M.Bd.Out.ret _ _
 rw[y3 ak] at q;by_cases c2:t.op<=2
 .have D:kTy t.op=zO:=by unfold kTy;rw[k6 c2]
  have:=a7 oM;subst this;obtain⟨k1,l0,l1⟩:=q1 oM c2;rw[D];simp only[xU yF yM (show zO≠zM by decide),xU yG yS (show zO≠zE by decide),xU x7 xn (show zO≠zJ by decide),xU xB xP (show zO≠zR by decide),Q2 xR,push_cast];rw[k6 c2] at q;refine zj qn λb3 w3 a9 I ac N=>?_;refine stKind N Ue λw4 O=>?_;have p:Ext w2 w4:=Ext.then I O λy hy=>by subst hy;omega
  refine zd λl J _=>?_;have d:=p.trans J;have B:=U.ext d;have a0:=Z.ext d;have H:=z.ext d;have A0:∀K:oK,ya zH kv (nI 0) l K=K (.pointer (some (eaddr kv 1 0))) l:=λK=>(T l d 0 oM K).1;have B0:∀K:oK,zt ze (.pointer (some (eaddr kv 1 0))) l K=K (vs.getD 0 undef) l:=λK=>(T l d 0 oM K).2;have R:Ints (Off X F) l (vs.getD 0 undef) (rs.getD 0 []):=(S 0 oM).ext d;have S0:=o.sml (i:=0) oM;simp(disch:=exact oS) only[a0.ld0,B.ld0,B.ld1,B.ld2,A0,B0,R.iaddr,R.load,push_cast,zl,y4];exact un_spec H oM R oM S0 λw6 F6 a8 r6 zs h6 a5 aj ad E=>q l d w6 F6 a8 r6 zs h6 a5 aj ad E
 rw[y3 c2] at q;by_cases b4:15<=t.op
 .have D:kTy t.op=zF:=by unfold kTy;rw[y3 oM,y3 oM,y3 oM,k6 oM]
  have:=a7 oM;subst this;obtain⟨k1,l0,l1,l2⟩:=q4 b4 oM;rw[D];simp only[xU yF yM (show zF≠zM by decide),xU yG yS (show zF≠zE by decide),xU x7 xn (show zF≠zJ by decide),xU xB xP (show zF≠zR by decide),xU xR qn (show zF≠zO by decide),xU qj jK (show zF≠zG by decide),xU qi jJ (show zF≠zK by decide),Q2 kg,push_cast];rw[k6 oM] at q;refine zj Zu λb3 w3 a9 I ac N=>?_;refine stKind N Vk λw4 O=>?_;have p:Ext w2 w4:=Ext.then I O λy hy=>by subst hy;omega
  refine zd λl J _=>?_;have d:=p.trans J;have B:=U.ext d;have a0:=Z.ext d;have H:=z.ext d;have A0:∀K:oK,ya zH kv (nI 0) l K=K (.pointer (some (eaddr kv 1 0))) l:=λK=>(T l d 0 oM K).1;have B0:∀K:oK,zt ze (.pointer (some (eaddr kv 1 0))) l K=K (vs.getD 0 undef) l:=λK=>(T l d 0 oM K).2;have R:Ints (Off X F) l (vs.getD 0 undef) (rs.getD 0 []):=(S 0 oM).ext d;have S0:=o.sml (i:=0) oM;have A1:∀K:oK,ya zH kv (nI 1) l K=K (.pointer (some (eaddr kv 1 1))) l:=λK=>(T l d 1 oM K).1;have B1:∀K:oK,zt ze (.pointer (some (eaddr kv 1 1))) l K=K (vs.getD 1 undef) l:=λK=>(T l d 1 oM K).2;have V1:Ints (Off X F) l (vs.getD 1 undef) (rs.getD 1 []):=(S 1 oM).ext d;have S1:=o.sml (i:=1) oM;simp(disch:=exact oS) only[a0.ld0,B.ld0,B.ld1,B.ld2,A0,B0,R.iaddr,R.load,A1,B1,V1.iaddr,V1.load,push_cast,zl,y4];refine compare_spec H ⟨gs,rfl⟩ b4 oM R V1 l0 l1 oM S0 S1 λw6 F6 a8 x h6 a5 cb E=>?_;refine zC yD y7 yj rfl rfl λb9 w9 bt ai ce au=>?_;have a6:OwnI ze w9 (.slice (some ⟨b9,0,none⟩) 1 1) [x]:=Blk.own1 (t:=ze) (cs:=[nI x]) (by rw[yP];exact au) (Gc _) rfl rfl oM;exact q l d w9 F6 a8 _ [x] (h6.ext ai) (a5.ext ai) (NewI.of (w:=w6) a6 (λb hb=>by have e:b9=b:=K3 hb;omega) h6.lt).ints (SmL.one cb) (M.Bd.Out.map _ E)
 rw[y3 oM] at q;have bc:kTy t.op=zG\/kTy t.op=zK:=by
  unfold kTy;rw[y3 c2];by_cases c:t.op<=13
  .rw[k6 c];exact .inl rfl
  .rw[y3 c,k6 oM];exact .inr rfl
 have:=a7 oM;subst this;have c3:t.ks.length=2/\(t.op≠14->(rs.getD 0 []).length=(rs.getD 1 []).length)/\(t.op=14->(rs.getD 0 []).length+(rs.getD 1 []).length<=4)/\1<=(rs.getD 0 []).length/\(rs.getD 0 []).length<=4:=by
  by_cases c:t.op=14
  .obtain⟨a1,a2,a3,a4⟩:=q3 c;exact⟨a1,λh=>absurd c h,λ_=>a4,a2,oM⟩
  .obtain⟨a1,a2,a3,a4⟩:=q2 oM oM;exact⟨a1,λ_=>a2,λh=>absurd h c,a3,a4⟩
 obtain⟨k1,l0,l1,l2,l3⟩:=c3;have go:Zx w2 λA=>zt yI (oP bl 0) A λt107 bg=>bg=A/\zt zU (oP b1 0) A λt109 bh=>bh=A/\
   ya zH kv (nI 0) A λt111 bi=>bi=A/\zt ze t111 A λt112 bj=>bj=A/\ya zH kv (nI 1) A λt114 bk=>bk=A/\
   zt ze t114 A λt115 bm=>bm=A/\vcall kA #[t107,t109,t112,t115] A K:=by
  refine zd λl J _=>?_;have d:=J;have B:=U.ext d;have a0:=Z.ext d;have H:=z.ext d;have A0:∀K:oK,ya zH kv (nI 0) l K=K (.pointer (some (eaddr kv 1 0))) l:=λK=>(T l d 0 oM K).1;have B0:∀K:oK,zt ze (.pointer (some (eaddr kv 1 0))) l K=K (vs.getD 0 undef) l:=λK=>(T l d 0 oM K).2;have R:Ints (Off X F) l (vs.getD 0 undef) (rs.getD 0 []):=(S 0 oM).ext d;have S0:=o.sml (i:=0) oM;have A1:∀K:oK,ya zH kv (nI 1) l K=K (.pointer (some (eaddr kv 1 1))) l:=λK=>(T l d 1 oM K).1;have B1:∀K:oK,zt ze (.pointer (some (eaddr kv 1 1))) l K=K (vs.getD 1 undef) l:=λK=>(T l d 1 oM K).2;have V1:Ints (Off X F) l (vs.getD 1 undef) (rs.getD 1 []):=(S 1 oM).ext d;have S1:=o.sml (i:=1) oM;simp(disch:=exact oS) only[a0.ld0,B.ld0,A0,B0,A1,B1,push_cast,y4];exact bin_spec H ⟨gs,rfl⟩ oM oM R V1 l0 l1 l2 oM S0 S1 λw6 F6 a8 r6 zs h6 a5 aj ad E=>q l d w6 F6 a8 r6 zs h6 a5 aj ad E
 rcases bc with D|D
 .rw[D];simp only[xU yF yM (show zG≠zM by decide),xU yG yS (show zG≠zE by decide),xU x7 xn (show zG≠zJ by decide),xU xB xP (show zG≠zR by decide),xU xR qn (show zG≠zO by decide),xU qi jJ (show zG≠zK by decide),Q2 qj,push_cast];exact go
 .rw[D];simp only[xU yF yM (show zK≠zM by decide),xU yG yS (show zK≠zE by decide),xU x7 xn (show zK≠zJ by decide),xU xB xP (show zK≠zR by decide),xU xR qn (show zK≠zO by decide),xU qj jK (show zK≠zG by decide),Q2 qi,push_cast];exact go
end
end
section
variable {w:World} {K:oK} {F F' Q X:Nat->Prop} {n bl bc mb bb kb m:Nat} {gs:M.Gs} {v dv:Value} {ar ab:Addr} {st:Option M.Gs} {ds:List M.Dcl}
def TOut {α:Type} (n:Nat) (p:M.Bd α) (st st':Option M.Gs) (a:α):Prop:=
 (∃gs gs',st=some gs/\st'=some gs'/\p.run n gs=some (gs',a))\/(st'=none/\∀gs,st=some gs->p.run n gs=none)
theorem Out.pre' {α:Type} {p:M.Bd α} {st st':Option M.Gs} {a:α} (h:M.Bd.Out n p st st' a):∀gs',st'=some gs'->∃gs,st=some gs/\gs<+:gs':=λgs' e=>by
 cases st with
 |none=>rw[h.1] at e;cases e
 |some gs=>
  rcases h with⟨g2,c,b⟩|⟨_,b,_⟩
  .rw[b] at e;cases e;exact⟨gs,rfl,M.Bd.run_pre c⟩
  .rw[b] at e;cases e
theorem Wc (ps:List (M.Bd (List Int))) (p:M.Bd (List Int)):∀(gs:M.Gs),(M.seqB (ps++[p])).run n gs=((M.seqB ps).run n gs).bind λr=>(p.run n r.1).map λq=>(q.1,r.2++[q.2]):=by
 induction ps with
 |nil=>
  intro gs;show((p.bind λr=>(M.Bd.ret []:M.Bd (List (List Int))).map (r:: ·))).run n gs=_;rw[M.Bd.run_bind];show _=(p.run n gs).map _;cases p.run n gs<;>rfl
 |cons q ps c=>
  intro gs;show(q.bind λr=>(M.seqB (ps++[p])).map (r:: ·)).run n gs=((q.bind λr=>(M.seqB ps).map (r:: ·)).run n gs).bind _;rw[M.Bd.run_bind,M.Bd.run_bind];cases q.run n gs with
  |none=>rfl
  |some a=>
   show((M.seqB (ps++[p])).bind λx=>M.Bd.ret (a.2::x)).run n a.1=(((M.seqB ps).bind λx=>M.Bd.ret (a.2::x)).run n a.1).bind _;rw[M.Bd.run_bind,M.Bd.run_bind,c];cases (M.seqB ps).run n a.1 with
   |none=>rfl
   |some b=>
    show((p.run n b.1).map _).bind _=(p.run n b.1).map _;cases p.run n b.1<;>rfl
theorem TOut.snoc {ps:List (M.Bd (List Int))} {p:M.Bd (List Int)} {st a st2:Option M.Gs} {rs:List (List Int)} {r:List Int} (h:TOut n (M.seqB ps) st a rs) (d:TOut n p a st2 r):TOut n (M.seqB (ps++[p])) st st2 (rs++[r]):=by
 rcases h with⟨g0,g1,b,a2,a3⟩|⟨b,a2⟩
 .rcases d with⟨c,g2,b1,b2,b3⟩|⟨b1,b2⟩
  .rw[a2] at b1;cases b1;exact .inl ⟨g0,g2,b,b2,by rw[Wc,a3];show(p.run n g1).map _=_;rw[b3];rfl⟩
  .refine .inr ⟨b1,λgs e=>?_⟩;rw[b] at e;cases e;rw[Wc,a3];show(p.run n g1).map _=_;rw[b2 g1 a2];rfl
 .rcases d with⟨c,g2,b1,b2,b3⟩|⟨b1,b2⟩
  .rw[b] at b1;cases b1
  .exact .inr ⟨b1,λgs e=>by rw[Wc,a2 gs e];rfl⟩
theorem TOut.root {t:M.Tm} {st a st2:Option M.Gs} {rs:List (List Int)} {zs:List Int} (h:TOut n (M.seqB (t.ks.map (M.termB ds))) st a rs):(∀b,a=some b->M.Bd.Out n (M.nodeB ds t rs) (some b) st2 zs)->(a=none->st2=none)->TOut n (M.termB ds t) st st2 zs:=λd f=>by
 rcases h with⟨g0,g1,c,a2,a3⟩|⟨c,a2⟩
 .rcases d g1 a2 with⟨g2,b1,b2⟩|⟨b1,b2,_⟩
  .exact .inl ⟨g0,g2,c,b2,by rw[M.termB_eq,M.Bd.run_bind,a3];exact b1⟩
  .refine .inr ⟨b2,λgs e=>?_⟩;rw[c] at e;cases e;rw[M.termB_eq,M.Bd.run_bind,a3];exact b1
 .exact .inr ⟨f c,λgs e=>by rw[M.termB_eq,M.Bd.run_bind,a2 gs e];rfl⟩
def P1 (m:Nat) (F:Nat->Prop) (b:Nat):Prop:=F b\/b=m
theorem Mv.p1 {w':World} (h:Mv F w F' w'):Mv (P1 m F) w (P1 m F') w':=
 ⟨h.same.mono λ_ _ h=> .inl h,λb a=>a.elim (λa=>(h.new b a).imp .inl id) λa=> .inl (.inr a)⟩
theorem Sl.mvX {k:Nat} {v:Value} {xs:List (List Value)} {w':World} (h:Sl (Off X F) w k v xs) (d:X m) (hm:Mv (P1 m F) w (P1 m F') w'):Sl (Off X F') w' k v xs:=by
 have f:Sl (λb=>Off X F b/\b<w.heap.size) w k v xs:=h.weaken λb a j=>⟨a,j⟩;have g:=f.same hm.same λb a _ c=>c.elim a.1.1 λe=>a.1.2 (e▸d);exact g.weaken λb a _=>⟨λi=>hm.off (λc=>c.elim a.1.1 λe=>a.1.2 (e▸d)) a.2 (.inl i),a.1.2⟩
def MetR (n:Nat) (ds:List M.Dcl) (m:Nat) (X F:Nat->Prop) (w:World) (st:Option M.Gs):Prop:=
 ∃f,MapF .string w m f/\∀p,p∈f->∃(u:M.Tm) (s:ByteArray) (v:Value) (zs:List Int),p=(.string s,v)/\s.data.toList=M.textL u/\M.sortM ds u≠ -1/\Ints (Off X F) w v zs/\SmL zs/\∀gs,st=some gs->(M.termB ds u).run n gs=some (gs,zs)
structure BlR (n bl bb kb m:Nat) (ar ab:Addr) (ds:List M.Dcl) (dv:Value) (X F:Nat->Prop) (w:World) (st:Option M.Gs):Prop where
 bd:BdR n bb ar ab X F w st
 blk:Blk w bl [oP bb 0,dv,.map (some kb),.map (some m)] yo
 off: ¬F bl/\¬F m/\¬F kb/\bl≠m/\kb≠m
 ext:X m
 dcl:DclsR (Off X F) w dv ds
 kin:KindsR w kb
 met:MetR n ds m X F w st
theorem KindsR.same {w':World} {S:Nat->Prop} (h:KindsR w kb) (hs:Same S w w') (c: ¬S kb):KindsR w' kb:=by
 obtain⟨f,a,b⟩:=h;exact⟨f,a.same hs c,b⟩
theorem KindsR.lt (h:KindsR w kb):kb<w.heap.size:=by obtain⟨f,a,b⟩:=h;exact a.lt
theorem MetR.lt (h:MetR n ds m X F w st):m<w.heap.size:=by obtain⟨f,a,b⟩:=h;exact a.lt
theorem BlR.step {w':World} {st':Option M.Gs} (h:BlR n bl bb kb m ar ab ds dv X F w st) (o:BdR n bb ar ab X F' w' st') (hm:Mv F w F' w') (r:∀gs',st'=some gs'->∃gs,st=some gs/\gs<+:gs'):BlR n bl bb kb m ar ab ds dv X F' w' st':=by
 obtain⟨c,d,g,t,x⟩:=h.off;refine⟨o,h.blk.same hm.same c,⟨hm.off c h.blk.lt,hm.off d h.met.lt,hm.off g h.kin.lt,t,x⟩,h.ext,Sl.mvX h.dcl h.ext hm.p1,h.kin.same hm.same g,?_⟩;obtain⟨f,q,a⟩:=h.met;refine⟨f,q.same hm.same d,λp b=>?_⟩;obtain⟨u,s,v,zs,i,a2,a3,a4,a5,j⟩:=a p b;refine⟨u,s,v,zs,i,a2,a3,Sl.mvX a4 h.ext hm.p1,a5,λgs' e=>?_⟩;obtain⟨gs,k,l⟩:=r gs' e;exact M.Bd.run_again (j gs k) l
theorem BlR.grow {w':World} (h:BlR n bl bb kb m ar ab ds dv X F w st) (he:Ext w w'):BlR n bl bb kb m ar ab ds dv X F w' st:=h.step (h.bd.ext he) (Mv.refl.ext he) λgs e=>⟨gs,e,Pj _⟩
theorem BlR.swap {w0 w':World} {t r S Y:Nat->Prop} {o:Option M.Gs} (h:BlR n bl bb kb m ar ab ds dv X F w st) (e:BlR n bl bb kb m ar ab ds dv t r w0 o) (hw:Same S w w') (i:∀b,S b->X b/\w0.heap.size<=b/\¬F b)
  (q:∀b,Y b->b<w'.heap.size/\(b<w.heap.size->X b)) (hm:Y m):BlR n bl bb kb m ar ab ds dv Y F w' st:=by
 have key:∀b,b<w0.heap.size->¬S b:=λb a hs=>by have:=(i b hs).2.1;omega
 have a:=h.bd.upd e.bd.err hw λb a=>(i b a).2;have d:∀b,Off X F b->b<w.heap.size->¬S b:=λb a _ hs=>a.2 (i b hs).1;have cut:∀b,(Off X F b/\b<w.heap.size)->Off Y F b:=λb a=>⟨a.1.1,λA=>a.1.2 ((q b A).2 a.2)⟩;refine⟨⟨a.err,a.blk,a.foot,λb j=>j.elim (λh=>a.lt b (.inl h)) λh=>(q b h).1⟩,h.blk.same hw (key _ e.blk.lt),h.off,hm,?_,h.kin.same hw (key _ e.kin.lt),?_⟩
 .have g:DclsR (λb=>Off X F b/\b<w.heap.size) w dv ds:=Sl.weaken h.dcl λb a c=>⟨a,c⟩;exact Sl.weaken (Sl.same g hw λb a c=>d b a.1 c) λb a _=>cut b a
 .obtain⟨f,z,k⟩:=h.met;refine⟨f,z.same hw (key _ e.met.lt),λp l=>?_⟩;obtain⟨u,s,v,zs,x,a2,a3,a4,a5,y⟩:=k p l;have g:Ints (λb=>Off X F b/\b<w.heap.size) w v zs:=Ints.weaken a4 λb a c=>⟨a,c⟩;exact⟨u,s,v,zs,x,a2,a3,Ints.weaken (Ints.same g hw λb a c=>d b a.1 c) λb a _=>cut b a,a5,y⟩
theorem Ints.swap {w':World} {S Y:Nat->Prop} {r:Value} {zs:List Int} (h:Ints (Off X F) w r zs) (hw:Same S w w') (d:∀b,S b->X b) (e:∀b,Y b->b<w.heap.size->X b):Ints (Off Y F) w' r zs:=by
 have c:Ints (λb=>Off X F b/\b<w.heap.size) w r zs:=Ints.weaken h λb a f=>⟨a,f⟩;exact Ints.weaken (Ints.same c hw λb a _ hs=>a.1.2 (d b hs)) λb a _=>⟨a.1.1,λg=>a.1.2 (e b g a.2)⟩
theorem XL:kt0 yR .string ze:=⟨_,jo,rK⟩
theorem BlR.put {s:ByteArray} {t:M.Tm} {r:Value} {zs:List Int} (h:BlR n bl bb kb m ar ab ds dv X F w st) (hs:s.data.toList=M.textL t) (S:M.sortM ds t≠ -1) (hi:Ints (Off X F) w r zs) (z:SmL zs)
  (l:∀gs,st=some gs->(M.termB ds t).run n gs=some (gs,zs)) (N:∀w',BlR n bl bb kb m ar ab ds dv X F w' st->Same (· =m) w w'->K undef w'):UW yR (.map (some m)) (.string s) r w K:=by
 obtain⟨o1,D,o3,U,V⟩:=h.off;obtain⟨f,C,R⟩:=h.met;refine qh0 XL C (XQ s) λw' H q o hw T=>N w' ?_ hw;obtain⟨es,cl,x,_⟩:=C;have i:∀(a:Addr),(∃v,w.cell? a=some v)->a.block≠m:=λa ⟨v,O⟩ e=>by
  simp[World.cell?,e,x] at O
 have d:∀{g:Nat} {a:Addr},Sent w g a->g≠m:=λy=>i _ ⟨_,y.cell⟩;have he:=h.bd.err;have W:=d he.room;have Y:=d he.bits;have c:∀b,Off X F b->b<w.heap.size->¬(b=m):=λb k _ e=>k.2 (e▸h.ext);obtain⟨bc,J,L⟩:=h.bd.blk;refine⟨⟨⟨he.room.same hw W,he.bits.same hw Y,he.off⟩,⟨bc,J.same hw λe=>D (e▸h.bd.foot),λgs e=>?_⟩,h.bd.foot,λb k=>by rw[T];exact h.bd.lt b k⟩,h.blk.same hw U,h.off,h.ext,Sl.same h.dcl hw c,h.kin.same hw V,H,q,λp j=>?_⟩
 .obtain⟨v,mb,Q,I,B⟩:=L gs e;exact⟨v,mb,Q.same hw λb k e=>D (e▸B b k),I,B⟩
 .rcases o p j with rfl|j
  .exact⟨t,s,r,zs,rfl,hs,S,Ints.same hi hw c,z,l⟩
  .obtain⟨u,Z,v,A,E,a2,a3,a4,a5,G⟩:=R p j;exact⟨u,Z,v,A,E,a2,a3,Ints.same a4 hw c,a5,G⟩
structure KidsB (n bl bb kb m:Nat) (ar ab:Addr) (ds:List M.Dcl) (dv:Value) (t:M.Tm) (X F:Nat->Prop) (w:World) (st:Option M.Gs) (i:Nat) (v:Value) (w':World):Prop where
 ex:∃(F1:Nat->Prop) (st1:Option M.Gs) (vs:List Value) (rs:List (List Int)),BlR n bl bb kb m ar ab ds dv (λb=>X b\/v.ownBlock=some b) F1 w' st1/\Mv (P1 m F) w (P1 m F1) w'/\OwnV zH w' v vs/\(∀b,v.ownBlock=some b->w.heap.size<=b/\¬F1 b)/\
  vs.length=i/\rs.length=i/\(∀j,j<i->Ints (Off (λb=>X b\/v.ownBlock=some b) F1) w' (vs.getD j undef) (rs.getD j []))/\(∀r,r∈rs->SmL r)/\TOut n (M.seqB ((t.ks.take i).map (M.termB ds))) st st1 rs
theorem Js {α:Type} {l r:List α} {d:α} {i:Nat} (h:i<l.length):(l++r).getD i d=l.getD i d:=by
 rw[k5,Ga h,<-k5]
theorem Jt {α:Type} {l:List α} {x d:α} {i:Nat} (h:l.length=i):(l++[x]).getD i d=x:=by
 subst h;simp[k5]
theorem TOut.nil:TOut n (M.seqB []) st st []:=by
 cases st with
 |none=>exact .inr ⟨rfl,λgs e=>by cases e⟩
 |some gs=>exact .inl ⟨gs,gs,rfl,rfl,rfl⟩
theorem term_spec (hd:M.declOk ds=true):∀(t:M.Tm),M.sortM ds t≠ -1->M.sizeM t<=1000->∀{w:World} {K:oK} {X F:Nat->Prop} {st:Option M.Gs} {tv:Value},BlR n bl bb kb m ar ab ds dv X F w st->TermR (Off X F) w tv t->
  (∀w' F' st' r zs,BlR n bl bb kb m ar ab ds dv X F' w' st'->Mv (P1 m F) w (P1 m F') w'->Ints (Off X F') w' r zs->SmL zs->TOut n (M.termB ds t) st st' zs->K r w')->
  vcall X6 #[oP bl 0,tv] w K:=by
 refine M.Tm.ind λt ih hs bq w K X F st tv d ht hK=>?_;obtain⟨kv,rfl,bm⟩:=ht;refine zf {loops:=[(7,[8,32])]} Tryz.func172 ?_;refine zk λb1 w1 c4 bj c7 b6=>?_;refine zd λw2 am _=>?_;have e2:=bj.trans am;have ac:=d.grow e2;have ah:=b6.ext am;have W:=bm.ext e2;simp(disch:=exact oS) only[push_cast,ac.blk.ld2,ah.ldAgg (t:=za) zc,y4];refine textOf_spec hd t hs bq ac.kin ⟨kv,rfl,W⟩ λw3 s Q az=>?_;have e3:=e2.trans Q;have k:=ac.grow Q;have ai:=ah.ext Q;have Z:=W.ext Q;simp(disch:=exact oS) only[push_cast,k.blk.ld3];obtain⟨f,O,bk⟩:=k.met;by_cases H:∃v,(Value.string s,v)∈f
 .obtain⟨v,H⟩:=H;rw[Xm XL O (XQ s) H];simp only[push_cast,if_true];obtain⟨u,s',v',zs,e,a2,a3,a4,a5,a6⟩:=bk _ H;cases e;have:=M.text_inj hd hs a3 (az.symm.trans a2);subst this;refine hK w3 F st v zs k (Mv.refl.ext e3) a4 a5 ?_;cases st with
  |none=>exact .inr ⟨rfl,λgs e=>by cases e⟩
  |some gs=>exact .inl ⟨gs,gs,rfl,rfl,a6 gs rfl⟩
 rw[UX XL qB O (XQ s) λv hv=>H ⟨v,hv⟩];simp(disch:=exact oS) only[push_cast,if_true,ai.ld4,Z.len];have c6:t.ks.length<=3:=by
  obtain⟨c3,hp,ho⟩:=M.right_op hs;have h:M.arity t.op<=3:=by
   unfold M.arity;repeat' split
   all_goals omega
  omega
 have R:∀b,(X b\/(Value.slice none 0 0).ownBlock=some b)->b<w3.heap.size/\(b<w3.heap.size->X b):=λb d=>d.elim (λh=>⟨k.bd.lt b (.inr h),λ_=>h⟩) λh=>by cases h
 have aj:=k.swap (Y:=λb=>X b\/(Value.slice none 0 0).ownBlock=some b) k (Same.refl (λ_=>False) w3) (λb d=>d.elim) R (.inl k.ext);have ba:TmsR (λb=>Off X F b/\b<w3.heap.size) w3 kv t.ks:=Z.weaken λb d hl=>⟨d,hl⟩;refine vloop_up t.ks.length (λi u w'=> ∃v,u=[v,nI i]/\KidsB n bl bb kb m ar ab ds dv t X F w3 st i v w') ⟨_,rfl,⟨F,st,[],[],aj,Mv.refl,OwnV.nil,(λb d=>by cases d),rfl,rfl,λj V=>absurd V oM,(λr hr=>by cases hr),TOut.nil⟩⟩ ?_;rintro i _ g w4 C hi ⟨v,rfl,⟨F4,bu,vs,rs,l,A,ae,E,b2,aw,hint,ay,L⟩⟩ hC;refine oZ ?_;have l4:=A.same.size;have I:TmsR (λb=>Off X F b/\b<w3.heap.size) w4 kv t.ks:=ba.same A.same λb d _ hp=>hp.elim d.1.1 λe=>d.1.2 (e▸k.ext);have be:∀b,(Off X F b/\b<w3.heap.size)->Off (λb=>X b\/v.ownBlock=some b) F4 b:=λb d=>⟨λO=>A.off (λhp=>hp.elim d.1.1 λe=>d.1.2 (e▸k.ext)) d.2 (.inl O),λhx=>hx.elim d.1.2 λho=>by have:=(E b ho).1;omega⟩;refine zb (λa=>?_) (λa=>?_)
 .have p:i<t.ks.length:=oM;simp(disch:=exact oS) only[push_cast,I.iaddr];refine I.load zc p λx hx=>?_;obtain⟨cx,rfl,ad⟩:=hx.cells;refine zj zo λb7 w7 c5 an c8 b8=>?_;refine stTerm b8 rfl (ad.ext an) λw8 bs c9 b9=>?_;have D:Ext w4 w8:=Ext.then an bs λy hy=>by subst hy;omega
  have v8:=ad.ext D;simp only[push_cast,b9.ldAgg (t:=za) (by rw[zS ad];exact zc)];have B:t.ks.getD i default∈t.ks:=M.getD_mem p _;have bp:M.sizeM (t.ks.getD i default)<=1000:=by
   have h1:=M.szT_succ p;have h2:=M.szT_mono (ks:=t.ks) (i:=i+1) (j:=t.ks.length) p (gu _);have h3:=M.szT_all t;omega
  have bi:=l.grow D;refine ih _ B ((M.sort_parts hs).2.1 _ B) bp bi (v8.term.weaken λb d _=>be b d) λw9 F9 bv r zs al J af bt br=>?_;refine zC ZB j4 qB rfl (Sl.cells1 af) λbz w10 bw o bx ag=>?_;have ca:=D.size;have l9:=J.same.size;have b0:∀b,v.ownBlock=some b->¬P1 m F4 b:=λb d hp=>hp.elim (E b d).2 λe=>by have:=(E b d).1;have:=k.met.lt;omega
  have au:OwnV zH w10 v vs:=((ae.ext D).same J.same b0).ext o;refine au.app1 Kh ag (Sl.one af) oM oM λv11 cb a8 z a0=>?_
  try simp(disch:=omega) only[push_cast,zl]
  have a7:∀b,v.ownBlock=some b->¬F9 b:=λb d O=>J.off (b0 b d) (by have:=ae.lt d;omega) (.inl O);have G:∀b,(X b\/v11.ownBlock=some b)->b<w10.heap.size->(X b\/v.ownBlock=some b):=λb d hl=>d.elim .inl λh=>(a0 b h).elim .inr λh2=>oM;have S:∀j,j<i->Ints (Off (λb=>X b\/v.ownBlock=some b) F9) w10 (vs.getD j undef) (rs.getD j []):=λj V=>Ints.ext (Sl.mvX (Ints.ext (hint j V) D) (.inl d.ext) J) o;refine hC p _ _ ⟨v11,by simp,⟨F9,bv,vs++[r],rs++[zs],(al.grow o).swap k z (λb d=>⟨.inr d,(E b d).1,a7 b d⟩) (λb d=>⟨?_,G b d⟩) (.inl d.ext),(((A.ext D).trans J).ext o).to z λb d=> .inr (E b d).1,a8,λb d=>?_,by simp[b2],by simp[aw],λj V=>?_,λq hq=>?_,?_⟩⟩
  .rcases d with h|h
   .have:=l.bd.lt b (.inr (.inl h));have:=o.size;have:=z.size;omega
   .exact a8.lt h
  .rcases a0 b d with h|h
   .exact⟨(E b h).1,a7 b h⟩
   .have:=o.size;exact⟨oM,λO=>by have:=al.bd.lt b (.inl O);omega⟩
  .by_cases c:j<i
   .rw[Js oM,Js oM];exact Ints.swap (S j c) z (λb d=> .inr d) G
   .have:j=i:=oM;subst this;rw[Jt b2,Jt aw];exact Ints.swap (Ints.ext af o) z (λb d=> .inr d) G
  .rcases gn.1 hq with h|h
   .exact ay q h
   .rw[gx.1 h];exact bt
  .rw[M.take_add p default,gA];exact L.snoc br
 .have p:i=t.ks.length:=oM;subst p;rw[gC] at L;obtain⟨bc,hB,c2⟩:=l.bd.blk;have back:∀{F5:Nat->Prop} {w5:World} {N:Option M.Gs},BlR n bl bb kb m ar ab ds dv (λb=>X b\/v.ownBlock=some b) F5 w5 N->BlR n bl bb kb m ar ab ds dv X F5 w5 N:=λh=>h.swap h (Same.refl (λ_=>False) _) (λb d=>d.elim) (λb d=>⟨h.bd.lt b (.inr (.inl d)),λ_=> .inl d⟩) k.ext;have m3:Mv (P1 m F) w (P1 m F) w3:=Mv.refl.ext e3;cases bu with
  |none=>
   simp only at hB;simp(disch:=exact oS) only[push_cast,l.blk.ld0,hB.ld1,UC];have aq:Ints (Off X F4) w4 (.slice none 0 0) []:=Ints.weaken (OwnI.nil (t:=ze)).ints λb d _=>(by cases d);exact hK w4 F4 none _ [] (back l) (m3.trans A) aq SmL.nil (TOut.root (st2:=none) L (λb5 e=>by cases e) λ_=>rfl)
  |some c1=>
   simp only at hB;simp(disch:=exact oS) only[push_cast,l.blk.ld0,hB.ld1,YV];have bf:=ai.same A.same λhp=>hp.elim (λO=>by have:=d.bd.lt _ (.inl O);omega) λe=>by have:=d.met.lt;omega
   simp(disch:=exact oS) only[push_cast,bf.ldAgg (t:=za) zc];have T:(M.seqB (t.ks.map (M.termB ds))).Reach rs:=by
    rcases L with⟨c0,g1,a1,a2,a3⟩|⟨a1,_⟩
    .exact M.Bd.reach_of_run a3
    .cases a1
   obtain⟨ax,bo⟩:=M.seq_reach T;refine root_spec l.bd hd hs l.blk l.dcl l.kin ⟨kv,rfl,I⟩ ⟨⟨vs,ae.vals,oM,λj V=>hint j oM⟩,ay⟩ ax (λj V=>?_) λw5 F5 N r zs bg ao bn b4 av=>?_
   .have B:t.ks.getD j default∈t.ks:=M.getD_mem V _;have:=M.term_len hd _ ((M.sort_parts hs).2.1 _ B) (bo j V);rw[this];rfl
   have ak:=l.step bg ao (Out.pre' av);have aa:TOut n (M.termB ds t) st N zs:=L.root (λb5 e=>by cases e;exact av) λe=>(by cases e);have ap:Mv (P1 m F) w (P1 m F5) w5:=(m3.trans A).trans ao.p1;have a9:Ints (Off X F5) w5 r zs:=Ints.weaken bn λb d _=>⟨d.1,λhx=>d.2 (.inl hx)⟩;have U:=back ak;simp(disch:=exact oS) only[push_cast,U.blk.ld3];refine U.put az hs a9 b4 (λgs e=>?_) λw6 bh b3=>?_
   .rcases aa with⟨g0,g1,a1,a2,a3⟩|⟨a1,_⟩
    .rw[a2] at e;cases e;exact M.Bd.run_again a3 (Pj _)
    .rw[a1] at e;cases e
   .refine hK w6 F5 N r zs bh (ap.to b3 λb d=> .inl (.inr d)) ?_ b4 aa;exact Ints.same a9 b3 λb d _ e=>d.2 (e▸k.ext)
end
end Go.Proofs.YtfjlkobhagjdaaaGreatDoor
section
namespace Go.Proofs.YtfjlkobhagjdaaaGreatDoor
open Go Go.Vc Go.Proofs
section
open Go.RowKit Go.Extern.Stop Go.Stop Go.Extern
theorem zT0 (v:Value) (w:World):(Extern.ReflectliteType.typeOf #[.iface 407 v]).run Tryz.prog w= .ok (.iface 209 (.agg #[oP 11 407])) w:=rK
theorem XP (w:World):(callFunc 417 #[.agg #[oP 11 407]]).run Tryz.prog w= .ok (Next.value (.bool true)) w:=by
 rw[@run_callFunc_extern Tryz.prog 417 _ (Extern.ReflectliteType.method λt=>do Extern.Rtype.noPackHeld "Comparable" t;pure (.bool (<-typeInfo t).comparable)) Tryz.func417 rK rK rK rK];kernel_rfl
theorem zU0 (v:Value) (w:World):(Go.method 546 209 v "Comparable").run Tryz.prog w= .ok (417,v) w:=rK
theorem j10:(Tryz.prog.info? 407).map (·.comparable)=some true:=rK
theorem qZ0:(Tryz.prog.info? 435).map (·.size)=some 1:=rK
theorem noIsE (v:Value) (xT:TypeId) (w:World):(Instr.typeAssert (.iface 407 v) xT 211 true).run Tryz.prog w= .ok (.tuple #[.nilIface,.bool false]) w:=run_typeAssert_lacksB Tryz.underlying211 rK rK v xT w
theorem qD0 (v:Value) (xT:TypeId) (w:World):(Instr.typeAssert (.iface 407 v) xT 214 true).run Tryz.prog w= .ok (.tuple #[.nilIface,.bool false]) w:=run_typeAssert_lacksB Tryz.underlying214 rK rK v xT w
theorem xw0 (v:Value) (xT:TypeId) (w:World):(Instr.typeAssert (.iface 407 v) xT 215 true).run Tryz.prog w= .ok (.tuple #[.nilIface,.bool false]) w:=run_typeAssert_lacksB Tryz.underlying215 rK rK v xT w
theorem ZL0 (a : Addr) (w : World) :
    Calls Tryz.prog 88 #[.iface 407 (.pointer (some a)), .iface 407 (.pointer (some a))] w λe w' => e = .returned (.bool true) /\ w' = w := by
  obtain ⟨i, hi, hcmp⟩ := pF.1 j10
  obtain ⟨j, hj, hjs⟩ := pF.1 qZ0
  have h8 := @run_callFunc_extern Tryz.prog 114 _ Extern.ReflectliteType.typeOf Tryz.func114 (by kernel_rfl) (by kernel_rfl) (by kernel_rfl) (by kernel_rfl)
  have h32 : ∀ w : World, (callFunc 417 #[.agg #[.pointer (some ⟨11, 407, none⟩)]]).run Tryz.prog w = .ok (Next.value (.bool true)) w := XP
  have tT := zT0
  have mR := zU0
  have heq := run_eql_iface_ptr_same (P := Tryz.prog) w a Tryz.underlying143 Tryz.underlying407 hi hcmp hj
  go_enter Tryz.func88, Tryz.ntmps88
  go_wp2
  refine wp_loop_rounds 1 ?_
  rw [rounds_succ]
  go_wp2
  go_ret
  exact ⟨rfl, rfl⟩
theorem YA0 (b : Addr) (w : World) :
    Calls Tryz.prog 88 #[.nilIface, .iface 407 (.pointer (some b))] w λe w' => e = .returned (.bool false) /\ w' = w := by
  have hn := run_eql_iface_nil_left (P := Tryz.prog) w 407 (.pointer (some b)) Tryz.underlying143
  go_enter Tryz.func88, Tryz.ntmps88
  go_wp2
  go_ret
  exact ⟨rfl, rfl⟩
end
variable {w:World} {K:oK}
theorem zS0 {a:Addr} (b:K (.bool true) w):vcall qg #[erv a,erv a] w K:=
 ⟨rK,(ZL0 a w).mono λe w' h=>by obtain⟨rfl,rfl⟩:=h;exact b⟩
theorem j00 {a:Addr} (b:K (.bool false) w):vcall qg #[.nilIface,erv a] w K:=
 ⟨rK,(YA0 a w).mono λe w' h=>by obtain⟨rfl,rfl⟩:=h;exact b⟩
end Go.Proofs.YtfjlkobhagjdaaaGreatDoor
end
namespace Go.Proofs.YtfjlkobhagjdaaaGreatDoor
open Go Go.Vc Go.Proofs
section
variable {w:World} {K:oK} {F Fx Q X:Nat->Prop} {n bc mb m:Nat} {gs:M.Gs} {v:Value} {ar ab:Addr}
theorem gone (gs:M.Gs):∀y,y∈gs.map yl->∀c,c∈y->c.oneCell'=true:=λy b c a=>by
 obtain⟨g,_,rfl⟩:=gw.1 b;simp only[yl,gi,gz,Gh] at a;rcases a with rfl|rfl|rfl<;>rfl
theorem OwnG.nil:OwnG w (.slice none 0 0) []:=Own.nil 0 3 zz w
theorem Clone_gate (d:GatesR Fx w v gs) (u:gs.length<=1000000) (l:∀w' v',Ext w w'->OwnG w' v' gs->(∀x,v'.ownBlock=some x->w.heap.size<=x)->K v' w'):
  vcall qw #[v] w K:=by
 refine zf {} Tryz.func230 ?_;obtain⟨a,c,rfl,r,s,f⟩:=d.shape;rw[Q1] at d r⊢;rw[Qc qb];refine zn (λm=>?_) (λm=>?_)
 .cases a with
  |some a=>cases m
  |none=>
   have k:gs=[]:=by
    have n:gs.map yl=[]:=Gg λh=>by
     obtain⟨b,o,p,_⟩:=f h;cases p
    simpa using n
   subst k;exact l w _ (Same.refl _ _) OwnG.nil λx d=>by cases d
 .refine yg jc YP λb w1 z he A q=>?_;have g:Own 0 3 zz w1 (.slice (some ⟨b,0,none⟩) 0 0) []:=Blk.ownk (css:=[]) (by rw[XU];exact q) (λx d=>by cases d) rfl oM;have j:Sl Fx w1 3 (.slice a gs.length c) (gs.map yl):=Sl.ext d he;refine vappend (bs:=24) qy dC g j (gone gs) oM (by rw[Q1];simp;omega) (by rw[Q1];simp;omega) λv' w2 t hs i=>?_;have y:=he.size;refine l w2 v' (Ext.then he hs λx d=>by have e:b=x:=K3 d;omega) t λx d=>?_;rcases i x d with h|h
  .have e:b=x:=K3 h;omega
  .omega
theorem sigof_spec {a m:Int} (hm:m.natAbs<=1000000) (b:K (.bool (decide (a≠0/\ -m<=a/\a<=m))) w):vcall J8 #[nI a,nI m] w K:=by
 refine zf {} Tryz.func231 ?_;refine oZ ?_;refine zb (λc=>?_) (λc=>?_)
 .simp(disch:=omega) only[push_cast,zl,gQ];refine zb (λd=>?_) (λd=>?_)
  .try simp only[push_cast]
   rwa[show decide (a≠0/\ -m<=a/\a<=m)=decide (a<=m) from decide_eq_decide.2 ⟨λh=>h.2.2,λh=>⟨c,d,h⟩⟩] at b
  .rwa[gg (λh=>d h.2.1)] at b
 .rwa[gg (λh=>c h.1)] at b
theorem W2 {a:Int} {o:Option Addr} {l c mb:Nat}:yz yd [(0,.agg ⟨[nI a,.slice o l c]⟩),(1,.map (some mb))] w K=K (.agg ⟨[nI a,.slice o l c,.map (some mb)]⟩) w:=zT VJ (us:=[[nI a,.slice o l c],[.map (some mb)]]) rfl rfl
theorem jq0 {a:Int} {o:Option Addr} {l c:Nat}:yz zw [(0,nI a),(1,.slice o l c)] w K=K (.agg ⟨[nI a,.slice o l c]⟩) w:=zT QJ (us:=[[nI a],[.slice o l c]]) rfl rfl
structure Rd (n:Nat) (w:World) (bc:Nat) (v':Value) (mb:Nat) (gs:M.Gs) (i:Nat) (w':World):Prop where
 ext:Ext w w'
 blk:Blk w' bc [nI n,v',.map (some mb)] yd
 own:OwnG w' v' gs
 map:∃f,GMap w' mb f/\∀g,YH g f=if g∈gs.take i then some (2+n+gs.idxOf g:Int) else none
 sep:bc≠mb/\v'.ownBlock≠some bc/\v'.ownBlock≠some mb
 new:∀b,YI bc mb v' b->w.heap.size<=b
theorem readNet_spec (hv:GatesR Fx w v gs) (hg:M.NetG n gs) (hn:n<=8) (hK:∀w' bc v' mb,CktR n bc w' gs v' mb->Ext w w'->(∀b,YI bc mb v' b->w.heap.size<=b)->K (.tuple #[oP bc 0,.bool true]) w'):
  vcall V7 #[.agg ⟨[nI n,v]⟩] w K:=by
 refine zf {loops:=[(5,[37])],cuts:=[(8195,[]),(16388,[4]),(36874,[]),(45069,[])]} Tryz.func202 ?_;refine zk λb1 w1 aq F av x=>?_;have au:GatesR Fx w1 v gs:=Sl.ext hv F;have ae:=hg.few;have hlen:∀(w':World) (K:oK),vbi .len [zz] zU [v] w' K=K (nI gs.length) w':=λw' K=>by rw[Sl.len hv qb,x60]
 refine zp (λu w'=>u=[]/\w'=w1) ?_ ?_
 .intro J O;simp(disch:=exact oS) only[push_cast,x.ld0];refine zb (λc=>absurd c oM) (λ_=>?_)
  try simp(disch:=exact oS) only[push_cast,x.ld0]
  refine zb (λc=>absurd c oM) (λ_=>?_)
  try simp(disch:=exact oS) only[push_cast,x.ld1,hlen]
  refine zb (λc=>absurd c oM) (λ_=>?_);exact O _ _ ⟨rfl,rfl⟩
 rintro _ _ w2 ⟨rfl,rfl⟩;refine zp (λu w'=> ∃bc v' mb,u=[oP bc 0]/\Rd n w2 bc v' mb gs 0 w') ?_ ?_
 .intro J O;refine zd λw3 B _=>?_;have z:=x.ext B;have e3:=F.trans B;simp(disch:=exact oS) only[push_cast,z.ld0,z.ld1,y4,gZ];refine⟨?_,?_⟩
  .refine Clone_gate (Sl.ext hv e3) oM λw4 v' p k T=>?_;have A:=z.ext p;obtain⟨o,c,rfl,_⟩:=(Own.sl k).shape;simp(disch:=exact oS) only[push_cast,A.ld0,y4,gZ,gh,jq0];refine YC0 rfl λmb w5 am a2 l ag=>?_;have q:=A.ext l;simp(disch:=exact oS) only[push_cast,q.ld0,y4,gZ,gh,jq0,W2];refine zk λbc w6 ak r ah E=>?_;have z3:=B.size;have z4:=p.size;have S:=(λb Q=>(Own.lt k (b:=b) Q).2);refine O _ _ ⟨bc,_,mb,rfl,B.trans (p.trans (l.trans r)),E,Own.ext k (l.trans r),⟨[],a2.ext r,λg=>rfl⟩,⟨oM,λh=>by have:=S _ h;omega,λh=>by have:=S _ h;omega⟩,?_⟩;rintro b (rfl|rfl|h)
   .omega
   .omega
   .have:=T b h;omega
  .refine YC0 rfl λmb w5 am a2 l ag=>?_;have q:=z.ext l;simp(disch:=exact oS) only[push_cast,q.ld0,q.ld1,y4,gZ,gh];refine Clone_gate (Sl.ext hv (e3.trans l)) oM λw4 v' p k T=>?_;have A:=q.ext p;obtain⟨o,c,rfl,_⟩:=(Own.sl k).shape;simp(disch:=exact oS) only[push_cast,A.ld0,y4,gZ,gh,jq0,W2];refine zk λbc w6 ak r ah E=>?_;have z3:=B.size;have z4:=p.size;have S:=(λb Q=>(Own.lt k (b:=b) Q).2);refine O _ _ ⟨bc,_,mb,rfl,B.trans (l.trans (p.trans r)),E,Own.ext k r,⟨[],a2.ext (p.trans r),λg=>rfl⟩,⟨oM,λh=>by have:=S _ h;omega,λh=>by have:=T _ h;omega⟩,?_⟩;rintro b (rfl|rfl|h)
   .omega
   .omega
   .have:=T b h;omega
 rintro _ _ w3 ⟨bc,v',mb,rfl,h3⟩;have z:=x.ext h3.ext;simp(disch:=exact oS) only[push_cast,z.ld1,hlen];refine vloop_up gs.length (λi u w'=>u=[nI i]/\Rd n w2 bc v' mb gs i w') ⟨rfl,h3⟩ ?_;rintro i _ _ w4 C hi ⟨rfl,d⟩ hC;have A:=x.ext d.ext;refine oZ ?_;refine zb (λa=>?_) (λa=>?_)
 .have m:i<gs.length:=oM;have k:Sl Fx w4 3 v (gs.map yl):=Sl.ext hv (F.trans d.ext);have al:(gs.map yl).getD i []=yl gs[i]:=(by simp[k5,m]);rw[Sl.iaddr k Y1 oM (by rw[x60];omega),gq,Sl.ldAgg k xI (by rw[x60];exact m),al];obtain⟨g1,g2,g3,g4⟩:=hg.gate i m;have Y:gs[i]∉gs.take i:=λh=>by
   obtain⟨j,hj,e⟩:=gr h;rw[gl] at hj;rw[PQ] at e;exact Gx.1 hg.once j i oM m oM e
  have ao:gs.take (i+1)=gs.take i++[gs[i]]:=by rw[G7,gd m];rfl
  have af:gs.idxOf gs[i]=i:=List.Nodup.idxOf_getElem hg.once i m;generalize gs[i]=g at*;have absN:∀a:Int,M.absI a=(a.natAbs:Int):=λa=>by unfold M.absI;split<;>omega
  have ga:=absN g.a;have gb:=absN g.b;refine zj kk λb5 w5 ar l ag q=>?_;refine q.stAgg (cs':=yl g) rfl xI (λc hc=>by simp only[yl,gi,gz,Gh] at hc;rcases hc with rfl|rfl|rfl<;>rfl) λw6 an ah E=>?_;have ai:Ext w4 w6:=Ext.then l an λy hy=>by subst hy;omega
  refine zd λw7 aa _=>?_;have N:=E.ext aa;have a4:=ai.trans aa;have Z:=A.ext a4;have a1:∀w':World,Blk w' b5 (yl g) zm->∀K:oK,zt zm (oP b5 0) w' K=K (gv g) w':=λw' hB K=>Blk.ldAgg hB (by exact xI);simp(disch:=exact oS) only[push_cast,N.ld1,N.ld2,y4];refine zp (λu w'=>u=[]/\Ext w7 w') ?_ ?_
  .intro J O;rw[Z.ldAgg (t:=zw) zY];refine nodes_spec oM oM λw8 ab=>?_;refine sigof_spec oM ?_;rw[gk ⟨oM,oM,oM⟩];have aj:=Z.ext ab;simp(disch:=exact oS) only[push_cast,Gz,aj.ldAgg (t:=zw) zY];refine nodes_spec oM oM λw9 D=>?_;refine sigof_spec oM ?_;rw[gk ⟨oM,oM,oM⟩];simp only[push_cast,Gz];refine node_spec oM ?_;refine oZ ?_;refine zb (λc=>absurd c oM) (λ_=>?_);refine node_spec oM ?_;refine oZ ?_;refine zb (λc=>absurd c oM) (λ_=>?_);refine node_spec oM (node_spec oM ?_);refine oZ ?_;refine zb (λc=>absurd c oM) (λ_=>?_);exact O _ _ ⟨rfl,ab.trans D⟩
  rintro _ _ w9 ⟨rfl,D⟩;have a5:=a4.trans D;refine zp (λu w'=>u=[]/\Ext w9 w') ?_ ?_
  .intro J O;refine zd λw10 s _=>?_;have e:=a5.trans s;have a6:=d.blk.ext e;have V:=(N.ext D).ext s;obtain⟨f,hf,hl⟩:=d.map;have ac:=hf.ext e;have a3:YH g f=none:=(by rw[hl,y3 Y]);simp(disch:=exact oS) only[push_cast,a6.ld2,a1 _ V,Zh0 ac,a3,y4];simp(disch:=exact oS) only[push_cast,V.ld0];refine zn (λhx=>?_) (λhx=>?_)
   .obtain⟨p1,p2⟩:=g4 hx
    try simp only[push_cast]
    refine zb (λc=>absurd c oM) (λ_=>?_)
    try simp only[push_cast]
    refine zb (λc=>absurd c oM) (λ_=>?_);exact O _ _ ⟨rfl,s⟩
   .exact O _ _ ⟨rfl,s⟩
  rintro _ _ aw ⟨rfl,G⟩;refine zd λax H _=>?_;have e:=(a5.trans G).trans H;have a7:=d.blk.ext e;have W:=((N.ext D).ext G).ext H;have a9:=((Z.ext D).ext G).ext H;simp(disch:=exact oS) only[push_cast,a7.ld2,a1 _ W,a9.ldAgg (t:=zw) zY,y4];refine nodes_spec oM oM λay X=>?_;have L:=e.trans X;have U:=d.blk.ext L;have a8:=W.ext X;obtain⟨f,hf,hl⟩:=d.map;have a3:YH g f=none:=(by rw[hl,y3 Y]);simp(disch:=exact oS) only[push_cast,U.ld2,a1 _ a8,y4,gh,gZ,zl];refine gset (hf.ext L) a3 λaz ad I ap=>?_
  try simp(disch:=omega) only[push_cast,zl]
  have l4:=d.ext.size;refine hC m _ _ ⟨by simp,Ext.then (d.ext.trans L) I (λb Q=>by have:=d.new b (.inr (.inl Q));omega),U.same I d.sep.1,Own.same (Own.ext d.own L) I (λb Q e=>d.sep.2.2 (e▸Q)),⟨_,ad,λg'=>?_⟩,d.sep,d.new⟩;have e1:=look_app (g:=g') (h:=g) (n:=1+(n:Int)+i+1) (f:=f) (i:=0);have e2:=hl g';unfold YH at e2⊢;rw[e1,e2,ao];by_cases R:g'∈gs.take i
  .rw[k6 R,k6 (gn.2 (.inl R))]
  .rw[y3 R];by_cases a0:g'=g
   .subst a0;simp only;rw[k6 trivial,k6 (by simp),af];congr 1;omega
   .simp only;rw[y3 a0,y3 (by simp[R,a0])]
 .have m:i=gs.length:=oM;subst m;obtain⟨f,hf,hl⟩:=d.map;rw[gC] at hl;have z1:=F.size;exact hK w4 bc v' mb ⟨d.blk,d.own,⟨f,hf,hl⟩,d.sep,ae,hn⟩ (F.trans d.ext) λb Q=>by have:=d.new b Q;omega
end
section
variable {w:World} {K:oK} {F Fx Q X:Nat->Prop} {n bl bc mb bb kb m:Nat} {gs:M.Gs} {v dv:Value} {ar ab:Addr} {ds:List M.Dcl}
theorem jp0 {a:Int}:yz zw [(0,nI a)] w K=K (.agg ⟨[nI a,.slice none 0 0]⟩) w:=zT QJ (us:=[[nI a]]) rfl rfl
theorem ZU0:yz zw [] w K=K (.agg ⟨[nI 0,.slice none 0 0]⟩) w:=zT QJ (us:=[]) rfl rfl
theorem xR0 {a:Addr}:yz yL [(0,.pointer (some a))] w K=K (.agg ⟨[.pointer (some a),.nilIface]⟩) w:=zT VL (us:=[[.pointer (some a)]]) rfl rfl
theorem xS0 {a:Addr} {o:Option Addr} {l c k m:Nat}:yz yo [(0,.pointer (some a)),(1,.slice o l c),(2,.map (some k)),(3,.map (some m))] w K=K (.agg ⟨[.pointer (some a),.slice o l c,.map (some k),.map (some m)]⟩) w:=zT VM (us:=[[.pointer (some a)],[.slice o l c],[.map (some k)],[.map (some m)]]) rfl rfl
theorem GatesR.nil:GatesR Fx w (.slice none 0 0) []:=Sl.weaken (Own.sl (OwnG.nil (w:=w))) λb a _=>by cases a
theorem NetG.nil (n:Nat):M.NetG n []:=⟨by simp,λk h=>absurd h (by simp),pa⟩
theorem newBlaster_spec (A:M.declOk ds=true) (n:DclsR Fx w dv ds) (he:Errs (λ_=>False) w ar ab)
  (I:∀w' bl bb kb m F,BlR (M.bits ds).toNat bl bb kb m ar ab ds dv (· =m) F w' (some [])->Ext w w'->(∀b,F b\/b=m\/b=bl->w.heap.size<=b)->K (oP bl 0) w'):vcall Qp #[dv] w K:=by
 refine zf {} Tryz.func171 ?_;have Y:=(M.decl_iff.1 A).2.2;have X:=M.bits_pos' (ds:=ds) λd B=>by
  obtain⟨i,hi,e⟩:=gr B;have:=(M.dcl_wide A hi).1;rw[k5,gd hi] at this;simp only[Gu,e] at this;omega
 refine bitsOf_spec n A λw1 s=>?_;rw[jp0,show M.bits ds=(((M.bits ds).toNat:Nat):Int) by omega];refine readNet_spec (Fx:=Fx) (gs:=[]) GatesR.nil (NetG.nil _) oM λw2 bc v' mb G t E=>?_;simp only[push_cast,xR0];refine zk λbb w3 J u S y=>?_;refine kinds_new λV kb q v Q=>?_;refine yN0 XL λm w5 hm D l T=>?_;obtain⟨o,c,rfl,_⟩:=n.shape;rw[xS0];refine zk λbl W L g U z=>?_;have s1:=s.size;have s2:=t.size;have s3:=u.size;have s4:=q.size;have s5:=l.size;have s6:=g.size;have r:=u.trans (q.trans (l.trans g));have x:=t.trans r;have k:=s.trans x;have j:∀b,YI bc mb v' b->b<w2.heap.size:=λb f=>G.lt f;have C:=v.ext (l.trans g);have N:=v.lt;have a:∀b,(YI bc mb v' b\/b=bb)->w.heap.size<=b/\b<V.heap.size:=λb f=>f.elim (λh=>by have:=E b h;have:=j b h;omega) λh=>oM
 refine I W bl bb kb m (λb=>YI bc mb v' b\/b=bb) ⟨⟨⟨?_,?_,?_⟩,⟨bc,y.ext (q.trans (l.trans g)),λgs e=>?_⟩,.inr rfl,λb f=>?_⟩,z,⟨λh=>by have:=(a _ h).2;omega,λh=>by have:=(a _ h).2;omega,?_,oM,oM⟩,rfl,?_,C,?_⟩ k λb f=>?_
 .exact he.room.same k id
 .exact he.bits.same k id
 .have Z:=he.room.lt;have l2:=he.bits.lt;exact⟨λh=>by have:=(a _ h).1;omega,λh=>by have:=(a _ h).1;omega⟩
 .cases e;exact⟨v',mb,G.ext r,λh=>by have:=j _ h;omega,λb f=> .inl f⟩
 .rcases f with h|h
  .have:=(a _ h).2;omega
  .omega
 .rintro(h|h)
  .have:=j _ h;omega
  .omega
 .have H:DclsR (λb=>Fx b/\b<w.heap.size) w _ ds:=Sl.weaken n λb f O=>⟨f,O⟩;exact Sl.weaken (Sl.ext H k) λb f _=>⟨λh=>by have:=(a _ h).1;omega,λh=>oM⟩
 .exact⟨[],D.ext g,λp R=>by cases R⟩
 .rcases f with h|h|h
  .exact(a _ h).1
  .omega
  .omega
theorem kd0 {t:M.Tm} (h:M.tsort ds t≠ -1):M.fits t=true/\M.declOk ds=true/\M.sortM ds t≠ -1/\M.sizeM t<=20:=by
 unfold M.tsort at h;split at h
 .next a=>exact⟨a.1,a.2,h,(M.fits_iff.1 a.1).1⟩
 .exact absurd rfl h
end
section
variable {w:World} {K:oK} {D F Fx Y S:Nat->Prop} {n b4 b8:Nat} {gs:M.Gs} {v nv:Value} {cs':List Value}
theorem net_one {a:Int} {o:Option Addr} {l c:Nat}:∀u,u∈[nI a,.slice o l c]->u.oneCell'=true:=λu hu=>by
 simp only[gi,gz,Gh] at hu;rcases hu with rfl|rfl<;>rfl
theorem j30 {op:BinOp} (a:op= .eql\/op= .neq) (c:Bool) (x y:Array Value):(eqG op zm c (.agg x) (.agg y)).run P w= .ok () w:=by
 rcases a with rfl|rfl<;>cases c<;>kernel_rfl
theorem ye0 {c:Bool} (g h:M.Gt):qA .eql zm c (gv g) (gv h) w K=K (.bool (decide (g=h))) w:=by
 have a:(Op.equal zm (gv g) (gv h)).run P w= .ok (decide (g=h)) w:=eqGate g h w;refine yq (j30 (.inl rfl) c _ _) ?_;have e:∀xs ys:Array Value,binOp .eql zm (.agg xs) (.agg ys)=(do let b <-Op.equal zm (.agg xs) (.agg ys);pure (Value.bool b)):=λ_ _=>rfl;unfold gv at a⊢;rw[e,Sem.run_bind,a];rfl
abbrev GOff (D:Nat->Prop) (w:World) (v:Value) (gs:M.Gs):Prop:=GatesR (λb=> ¬D b) w v gs
theorem GOff.swap {w':World} (h:GOff D w v gs) (hw:Same S w w') (d:∀b,S b->D b) (e:∀b,Y b->b<w.heap.size->D b):GOff Y w' v gs:=by
 have c:GatesR (λb=> ¬D b/\b<w.heap.size) w v gs:=Sl.weaken h λb a f=>⟨a,f⟩;exact Sl.weaken (Sl.same c hw λb a _ hs=>a.1 (d b hs)) λb a _ g=>a.1 (e b g a.2)
theorem gates_app {x:Value} {b1:Nat} {t0:TypeId} {g:M.Gt} (q:GatesR Fx w x gs) (l:Blk w b1 (yl g) t0) (r:gs.length<=1000) (o:OwnG w v []) (p:∀b,v.ownBlock=some b->b≠b1)
  (m:∀w' v',OwnG w' v' (gs++[g])->Same (λb=>v.ownBlock=some b\/w.heap.size<=b) w w'->(∀b,v'.ownBlock=some b->v.ownBlock=some b\/w.heap.size<=b)->K v' w'):
  vbi .append [zz,zz] zz [v,x] w λt w1=>vbi .append [zz,zz] zz [t,.slice (some ⟨b1,0,none⟩) 1 1] w1 K:=by
 refine vappend (bs:=24) qy dC o q (gone gs) oM (by rw[Q1];simp;omega) (by rw[Q1];simp;omega) λv' w2 i a c=>?_;have n:=l.lt;refine Own.app1k (bs:=24) i qy dC (l.same a λe=>p _ e rfl) rfl (gone [g] _ (by simp)) (by simp;omega) (by simp;omega) λv3 w3 j k f=>?_;have s2:=a.size;refine m w3 v3 (by unfold OwnG;rw[gA];exact j) (Same.thn (a.mono λb _ h=> .inl h) (k.mono λb _ h=>h) λb d=> .inl ((c b d).imp id id)) λb d=>?_;rcases f b d with h|h
 .exact c b h
 .exact .inr oM
theorem sput_spec {g:M.Gt} (hn:n<=8) (hg:GOff D w nv gs) (hl:gs.length<=600) (hD:∀b,D b->b<w.heap.size)
  (hK:∀w' n' gv',Ext w w'->GOff D w' gv' (if(M.putG n gs g).2=0 then[] else(M.putG n gs g).1)->(n'=if(M.putG n gs g).2=0 then 0 else n)->((M.putG n gs g).2=0->gv'= .slice none 0 0)->K (.tuple #[.agg ⟨[nI (n':Nat),gv']⟩,nI (M.putG n gs g).2]) w'):
  vcall QV #[.agg ⟨[nI n,nv]⟩,.agg ⟨yl g⟩] w K:=by
 refine zf {loops:=[(2,[6])],cuts:=[(36873,[])]} Tryz.func217 ?_;refine zk λb1 w1 aw W b0 ae=>?_;refine zk λb2 w2 ax Q b4 af=>?_;refine zj qV λb3 w3 ay a2 b5 a1=>?_;have e3:=W.trans (Q.trans a2);have a6:=ae.ext (Q.trans a2);have a7:=af.ext a2;have X:∀w':World,Blk w' b2 (yl g) zm->∀K:oK,zt zm (oP b2 0) w' K=K (.agg ⟨yl g⟩) w':=λw' hB K=>Blk.ldAgg hB (by exact xI);have hlen:∀(w':World) (K:oK),vbi .len [zz] zU [nv] w' K=K (nI gs.length) w':=λw' K=>by rw[Sl.len hg qb,x60]
 obtain⟨go,gc,am,_⟩:=hg.shape;have aa:∀i,i<gs.length->gs.getD i ⟨false,0,0⟩=g->g∉gs.take i->(M.putG n gs g)=(gs,(2+n+i:Int)):=λi hi h1 h2=>by
  have hm:g∈gs:=h1▸M.getD_mem hi _;unfold M.putG;rw[k6 hm];have:gs.idxOf g=i:=by
   have e:=pf i gs;have h3:gs.drop i=gs.getD i ⟨false,0,0⟩::gs.drop (i+1):=by
    rw[PM hi,k5,gd hi];rfl
   rw[<-e,pM,y3 h2,h3,h1,List.idxOf_cons_self,gl];omega
  rw[this]
 refine vloop_up gs.length (λi u w'=>u=[nI i]/\Ext w3 w'/\g∉gs.take i) ⟨rfl,Same.refl _ _,by simp⟩ ?_;rintro i _ _ w4 C hi ⟨rfl,r,R⟩ hC;have B:=a6.ext r;have Z:=a7.ext r;have e4:=e3.trans r;simp(disch:=first|omega|simp only[push_cast]) only[push_cast,B.ld1,hlen];refine zb (λa=>?_) (λa=>?_)
 .have z:i<gs.length:=oM;refine zd λH l _=>?_;have j:=B.ext l;have E:=Z.ext l;have a9:GOff D H nv gs:=Sl.ext hg (e4.trans l);have al:(gs.map yl).getD i []=yl (gs.getD i ⟨false,0,0⟩):=M.getD_map _ z _ _;simp(disch:=first|omega|simp only[push_cast]) only[push_cast,j.ld1,y4];rw[Sl.iaddr a9 Y1 oM (by rw[x60];omega),gq];simp(disch:=first|omega|simp only[push_cast]) only[push_cast,y4];rw[Sl.ldAgg a9 xI (by rw[x60];exact z),al];simp(disch:=first|omega|simp only[push_cast]) only[push_cast,y4,X _ E];rw[show(Value.agg ⟨yl (gs.getD i ⟨false,0,0⟩)⟩)=gv (gs.getD i ⟨false,0,0⟩) from rfl,show(Value.agg ⟨yl g⟩)=gv g from rfl,ye0];refine⟨rfl,?_⟩;refine zb (λc=>?_) (λc=>?_)
  .have hp:=aa i z c R;rw[hp] at hK;refine zd λI f _=>?_;have d:=j.ext f;have O:=(a1.ext (r.trans l)).ext f;subst am;simp(disch:=first|omega|simp only[push_cast]) only[push_cast,d.ld0,d.ldAgg (t:=zw) zY,y4,zl];refine O.stAgg (cs':=[nI n,.slice go (gs.map yl).length gc]) rfl zY net_one λv m Y q=>?_;have e7:Ext w v:=Ext.then ((e4.trans l).trans f) m λb p=>by have:=W.size;have:=Q.size;omega
   have k:=d.same m (show¬b1=b3 by omega);simp(disch:=first|omega|simp only[push_cast]) only[push_cast,k.ld0,y4,gh,zl];rw[q.lv (t:=zw) zY];refine hK v n _ e7 ?_ ?_ ?_
   .rw[y3 (by show(2+(n:Int)+i)≠0;omega)];exact Sl.ext hg e7
   .rw[y3 (by show(2+(n:Int)+i)≠0;omega)]
   .intro h;exfalso;revert h;show(2+(n:Int)+i)=0->False;omega
  .simp(disch:=omega) only[push_cast,zl];refine hC z _ _ ⟨by simp,r.trans l,?_⟩;rw[M.take_add z ⟨false,0,0⟩];intro h;rcases gn.1 h with h|h
   .exact R h
   .exact c (gx.1 h).symm
 .have z:i=gs.length:=oM;subst z;rw[gC] at R
  try simp(disch:=first|omega|simp only[push_cast]) only[push_cast,B.ld1,hlen]
  refine zb (λc=>?_) (λc=>?_)
  .have hp:M.putG n gs g=(gs,0):=by unfold M.putG;rw[y3 R,k6 oM]
   rw[hp] at hK;rw[ZU0];refine(a1.ext r).stAgg (cs':=[nI 0,.slice none 0 0]) rfl zY net_one λv m Y q=>?_;rw[q.lv (t:=zw) zY];have e7:Ext w v:=Ext.then e4 m λb p=>by have:=W.size;have:=Q.size;omega
   exact hK v 0 _ e7 (by rw[k6 rfl];exact GatesR.nil) (by rw[k6 rfl]) λ_=>rfl
  .have hp:M.putG n gs g=(gs++[g],(2+n+gs.length:Int)):=by unfold M.putG;rw[y3 R,y3 oM]
   rw[hp] at hK;have s1:=W.size;have s2:=Q.size;have s4:=e4.size;have bb:=r.size;refine zp (λu w'=>u=[]/\Ext w w'/\∃v',Blk w' b1 [nI n,v'] zw/\Blk w' b3 [nI 0,.slice none 0 0] zw/\OwnG w' v' (gs++[g])/\∀b,v'.ownBlock=some b->w.heap.size<=b/\b≠b1/\b≠b3) ?_ ?_
   .intro J hJ;refine zd λH l _=>?_;have e5:=e4.trans l;have j:=B.ext l;have E:=Z.ext l;have N:=(a1.ext r).ext l;have s5:=l.size;have fin:∀(U:World) (v':Value),Same (λb=>H.heap.size<=b) H U->OwnG U v' (gs++[g])->(∀b,v'.ownBlock=some b->H.heap.size<=b)->zW zz (.pointer (some (Addr.add ⟨b1,0,none⟩ 1))) v' U λ_ ad=>J [] ad:=λU v' L A G=>by
     have e8:Ext H U:=⟨L.os,L.tape,L.output,L.size,λi hi _=>L.block i hi oM⟩;refine Blk.st (i:=1) (j.ext e8) (Sl.cells1 (Own.sl A)) (Sl.one (Own.sl A)) QR rfl λw9 T ba ah=>?_;refine hJ _ _ ⟨rfl,Ext.then (e5.trans e8) T λb p=>oM,v',ah,(N.ext e8).same T (show¬b3=b1 by omega),Own.same A T (λb p e=>by have:=G b p;omega),λb p=>by have:=G b p;omega⟩
    simp(disch:=first|omega|simp only[push_cast]) only[push_cast,j.ld1,X _ E,y4,gZ];have mk:∀(I:World) (K:oK),(∀b7 v,b7=I.heap.size->Ext I v->v.heap.size=I.heap.size+1->Blk v b7 (yl g) zm->K (.slice (some ⟨b7,0,none⟩) 1 1) v)->vbuildS zz 1 [(0,.agg ⟨yl g⟩)] I K:=λI K h=>
     xG jc rK kk (y:=yl g) rfl rfl (show 3<=16777216 by decide) h
    have nil:∀{I:World} {F:Nat},Blk I F [] zm->OwnG I (.slice (some ⟨F,0,none⟩) 0 0) []:=λh=>Blk.ownk (css:=[]) (by rw[XU];exact h) (λx hx=>by cases hx) rfl oM;refine⟨?_,?_⟩
    .refine yg jc YP λF I aj f av V=>?_;have d:=j.ext f;have a0:=E.ext f;simp(disch:=first|omega|simp only[push_cast]) only[push_cast,d.ld1,X _ a0,y4,gZ,gh];refine⟨?_,?_⟩
     .refine vappend (bs:=24) qy dC (nil V) (Sl.ext hg (e5.trans f)) (gone gs) oM (by rw[Q1];simp;omega) (by rw[Q1];simp;omega) λv7 v aq m an=>?_;have s7:=m.size;have a8:=a0.same m λe=>by have e:F=b2:=K3 e;omega
      simp(disch:=first|omega|simp only[push_cast]) only[push_cast,X _ a8,y4,gZ,gh];refine mk v _ λb8 U az a3 b9 ag=>?_;have n7:∀b,v7.ownBlock=some b->H.heap.size<=b:=λb p=>(an b p).elim (λe=>by have e:F=b:=K3 e;omega) λh=>oM;refine Own.app1k (bs:=24) (Own.ext aq a3) qy dC ag rfl (gone [g] _ (by simp)) (by simp;omega) (by simp;omega) λv9 w9 ar T ao=>?_
      try simp(disch:=first|omega|simp only[push_cast]) only[push_cast,y4,gZ,gh]
      have s8:=a3.size;refine fin w9 v9 (Same.thn (((Same.of_ext f).trans (m.mono (S':=λb=>H.heap.size<=b) λb _ e=>by have e:F=b:=K3 e;omega)).trans (Same.of_ext a3)) (T.mono (S':=λb=>H.heap.size<=b) λb _ e=>n7 b e) λb p=> .inl p) (by unfold OwnG;rw[gA];exact ar) λb p=>(ao b p).elim (n7 b) λh=>oM
     .refine mk I _ λb7 v ak s Y q=>?_;have k:=d.ext s;simp(disch:=first|omega|simp only[push_cast]) only[push_cast,k.ld1,y4,gZ,gh];refine gates_app (Sl.ext hg ((e5.trans f).trans s)) q oM (nil (V.ext s)) (λb e=>by have e:F=b:=K3 e;omega) λU v8 A a5 G=>?_
      try simp(disch:=first|omega|simp only[push_cast]) only[push_cast,y4,gZ,gh]
      refine fin U v8 (((Same.of_ext (f.trans s))).trans (a5.mono (S':=λb=>H.heap.size<=b) λb _ e=>e.elim (λe=>by have e:F=b:=K3 e;omega) λh=>oM)) A λb p=>(G b p).elim (λe=>by have e:F=b:=K3 e;omega) λh=>oM
    .refine mk H _ λb7 v ak s Y q=>?_;have k:=j.ext s;simp(disch:=first|omega|simp only[push_cast]) only[push_cast,k.ld1,y4,gZ,gh];refine yg jc YP λF I aj f av V=>?_;have d:=k.ext f;simp(disch:=first|omega|simp only[push_cast]) only[push_cast,d.ld1,y4,gZ,gh];refine gates_app (Sl.ext hg ((e5.trans s).trans f)) (q.ext f) oM (nil V) (λb e=>by have e:F=b:=K3 e;omega) λU v8 A a5 G=>?_
     try simp(disch:=first|omega|simp only[push_cast]) only[push_cast,y4,gZ,gh]
     refine fin U v8 (((Same.of_ext (s.trans f))).trans (a5.mono (S':=λb=>H.heap.size<=b) λb _ e=>e.elim (λe=>by have e:F=b:=K3 e;omega) λh=>oM)) A λb p=>(G b p).elim (λe=>by have e:F=b:=K3 e;omega) λh=>oM
   rintro _ _ H ⟨rfl,e5,v',j,N,a4,ac⟩;refine zd λI f _=>?_;have d:=j.ext f;have ap:=Own.ext a4 f;have O:=N.ext f;have ab:∀(w':World) (K:oK),vbi .len [zz] zU [v'] w' K=K (nI ((gs.length+1:Nat):Int)) w':=λw' K=>by
    rw[Sl.len (Own.sl a4) qb,Q1,V0];rfl
   obtain⟨o,c',au,_⟩:=(Own.sl a4).shape;simp(disch:=first|omega|simp only[push_cast]) only[push_cast,d.ld0,d.ld1,ab,d.ldAgg (t:=zw) zY,y4,zl];subst au;refine O.stAgg (cs':=[nI n,.slice o (List.map yl (gs++[g])).length c']) rfl zY net_one λv m Y q=>?_;have k:=d.same m (show¬b1=b3 by omega);simp(disch:=first|omega|simp only[push_cast]) only[push_cast,k.ld0,k.ld1,ab,y4,gh,zl];rw[q.lv (t:=zw) zY];have e7:Ext w v:=Ext.then (e5.trans f) m λb p=>oM;have S:(2+(n:Int)+gs.length)≠0:=oM;have ai:=hK v n (.slice o (List.map yl (gs++[g])).length c') e7 (by rw[y3 S];exact Sl.weaken (Own.sl (Own.same ap m λb p e=>(ac b p).2.2 e)) λb p _ hd=>by have:=hD b hd;have:=(ac b p).1;omega) (by rw[y3 S]) λh=>absurd h S;rwa[show(2+(n:Int)+gs.length)=1+n+((gs.length+1:Nat):Int) by omega] at ai
end
section
variable {w:World} {K:oK} {D F Y S:Nat->Prop} {n b8:Nat} {gs:M.Gs} {v nv:Value} {cs cs':List Value} {a b m:Int}
def NetO (n:Nat) (D:Nat->Prop) (w:World) (gs:M.Gs) (m:Int) (cs:List Value):Prop:=
 if m=0 then cs=[nI 0,.slice none 0 0] else ∃o l c,cs=[nI n,.slice o l c]/\GOff D w (.slice o l c) gs/\gs.length<=600
theorem NetO.form (h:NetO n D w gs m cs):∃(x:Int) (o:Option Addr) (l c:Nat),cs=[nI x,.slice o l c]:=by
 unfold NetO at h;split at h
 .exact⟨_,_,_,_,h⟩
 .obtain⟨o,l,c,e,_⟩:=h;exact⟨_,_,_,_,e⟩
theorem NetO.len (h:NetO n D w gs m cs):cs.length=2:=by obtain⟨x,o,l,c,rfl⟩:=h.form;rfl
theorem NetO.one (h:NetO n D w gs m cs):∀u,u∈cs->u.oneCell'=true:=by obtain⟨x,o,l,c,rfl⟩:=h.form;exact net_one
theorem NetO.same {w':World} (h:NetO n D w gs m cs) (hw:Same S w w') (f:∀b,S b->D b):NetO n D w' gs m cs:=by
 unfold NetO at h⊢;by_cases hm:m=0
 .rw[k6 hm] at h⊢;exact h
 .rw[y3 hm] at h⊢;obtain⟨o,l,c,e,a,d⟩:=h;exact⟨o,l,c,e,a.swap hw f λb g _=>g,d⟩
theorem NetO.weak {Y:Nat->Prop} (h:NetO n D w gs m cs) (f:∀b,Y b->D b):NetO n Y w gs m cs:=by
 unfold NetO at h⊢;by_cases hm:m=0
 .rw[k6 hm] at h⊢;exact h
 .rw[y3 hm] at h⊢;obtain⟨o,l,c,e,a,d⟩:=h;exact⟨o,l,c,e,Sl.weaken a λb g _ i=>g (f b i),d⟩
theorem NetO.put {f:Nat} {a:Value} (d:GOff D w a (if m=0 then[] else gs)) (b:f=if m=0 then 0 else n) (g:m=0->a= .slice none 0 0) (h:gs.length<=600):NetO n D w gs m [nI (f:Nat),a]:=by
 unfold NetO;by_cases c:m=0
 .rw[k6 c] at b⊢;rw[b,g c];rfl
 .rw[y3 c] at d b⊢;obtain⟨o,c',e,_⟩:=d.shape;exact⟨o,_,c',by rw[b,e],by rw[<-e];exact d,h⟩
theorem NetO.of {o:Option Addr} {l c:Nat} (h:GOff D w (.slice o l c) gs) (a:gs.length<=600) (hm:m≠0):NetO n D w gs m [nI n,.slice o l c]:=by
 unfold NetO;rw[y3 hm];exact⟨o,l,c,rfl,h,a⟩
theorem put_len {g:M.Gt} (h:gs.length<=600):(M.putG n gs g).1.length<=600:=by
 unfold M.putG;split
 .exact h
 .split
  .exact h
  .rw[V0,gL];omega
theorem l4Abs_sm (c:Sm a) (b:K (nI (M.absI a)) w):vcall QW #[nI a] w K:=by
 refine zf {} Tryz.func216 ?_;unfold M.absI at b;refine oZ ?_;refine zb (λh=>?_) (λh=>?_)
 .rw[k6 h] at b;simp(disch:=omega) only[push_cast,zl,gQ];exact b
 .rw[y3 h] at b;exact b
theorem xf0 (x y:Int):yz zm [(1,nI x),(2,nI y)] w K=K (.agg ⟨yl ⟨false,x,y⟩⟩) w:=zT Zi (us:=[[nI x],[nI y]]) rfl rfl
theorem kZ0 (x y:Int):yz zm [(0,.bool true),(1,nI x),(2,nI y)] w K=K (.agg ⟨yl ⟨true,x,y⟩⟩) w:=zT Zi (us:=[[.bool true],[nI x],[nI y]]) rfl rfl
theorem net_out {b2:Nat} {a:List Value} (e:Blk w b2 a zw) (g:a.length=2) (c:cs.length=2) (d:∀u,u∈cs->u.oneCell'=true) (f:∀w',Same (· =b2) w w'->K (.agg ⟨cs⟩) w'):
  zW zw (oP b2 0) (.agg ⟨cs⟩) w λ_ w1=>vlv zw (oP b2 0) w1 K:=by
 refine e.stAgg (cs':=cs) oM (by rw[c];exact zY) d λw1 hs h b=>?_;rw[b.lv (t:=zw) (by rw[c];exact zY)];exact f w1 hs
theorem sand6_spec (hn:n<=8) (I:GOff D w nv gs) (l:gs.length<=600) (hD:∀b,D b->b<w.heap.size) (ha:Sm a) (d:Sm b) (Q:a≠0) (R:b≠0)
  (H:∀w' cs,Ext w w'->NetO n D w' (M.andG n gs a b).1 (M.andG n gs a b).2 cs->K (.tuple #[.agg ⟨cs⟩,nI (M.andG n gs a b).2]) w'):
  vcall zo0 #[.agg ⟨[nI n,nv]⟩,nI a,nI b] w K:=by
 refine zf {cuts:=[(8201,[]),(8194,[8]),(16388,[22])]} Tryz.func183 ?_;obtain⟨go,gc,T,_⟩:=I.shape;rw[T] at I⊢;refine zk λb1 w1 a0 q a2 N=>?_;refine zj qV λb2 w2 a1 j a3 o=>?_;have L:=q.trans j;have m:=N.ext j;have f:∀K:oK,zt zw (oP b1 0) w2 K=K (.agg ⟨[nI n,.slice go (gs.map yl).length gc]⟩) w2:=λK=>m.ldAgg (t:=zw) zY;have z1:=q.size;have z2:=j.size;have same:∀(x:Int),x≠0->(M.andG n gs a b)=(gs,x)->∀w':World,w'=w2->zW zw (oP b2 0) (.agg ⟨[nI n,.slice go (gs.map yl).length gc]⟩) w' λ_ z=>vlv zw (oP b2 0) z λr6 A=>K (.tuple #[r6,(nI x)]) A:=λx hx e w' ew=>by
  subst ew;rw[e] at H;refine net_out o rfl rfl net_one λw3 W=>?_;have Z:Ext w w3:=Ext.then L W λy X=>by subst X;omega
  exact H w3 _ Z (NetO.of (Sl.ext I Z) l hx)
 have U:GatesR (λb=> ¬D b/\b<w.heap.size) w (.slice go (gs.map yl).length gc) gs:=Sl.weaken I λb d l=>⟨d,l⟩;have put:∀g:M.Gt,(M.andG n gs a b)=M.putG n gs g->vcall QV #[.agg ⟨[nI n,.slice go (gs.map yl).length gc]⟩,.agg ⟨yl g⟩] w2 λt47 B=>qC t47 0 B λt48 C=>qC t47 1 C λt49 E=>
   zW zw (oP b2 0) t48 E λ_ F=>vlv zw (oP b2 0) F λv G=>K (.tuple #[v,t49]) G:=λg e=>by
  rw[e] at H;refine sput_spec (D:=λb=>D b\/b=b2) hn (Sl.weaken (Sl.ext U L) λb d l hd=>hd.elim d.1 λe=>by have:=d.2;omega) l (λb d=>d.elim (λh=>by have:=hD b h;omega) λh=>oM) λw3 n' a4 r S V Y=>?_;refine oZ ?_;have O:=NetO.put S V Y (put_len l);refine net_out (o.ext r) rfl O.len O.one λw4 s=>?_;exact H w4 _ (Ext.then (L.trans r) s λy X=>by subst X;omega) ((O.same s λb d=> .inr d).weak λb d=> .inl d)
 unfold Sm at ha d;refine zp (λu w'=>u=[]/\w'=w2/\M.andG n gs a b=M.putG n gs ⟨false,a,b⟩) ?_ ?_
 .intro J hJ;refine zp (λu w'=>u=[.bool (decide (a= -1\/b= -1\/a= -b))]/\w'=w2) ?_ ?_
  .intro J1 i;refine oZ ?_;refine zb (λc=>i _ _ ⟨by rw[gk (.inl c)],rfl⟩) (λc=>?_)
   try simp only[push_cast]
   refine zb (λc2=>i _ _ ⟨by rw[gk (.inr (.inl c2))],rfl⟩) (λc2=>?_);simp(disch:=omega) only[push_cast,zl,gQ];refine i _ _ ⟨?_,rfl⟩;rw[decide_eq_decide.2 (show(a= -1\/b= -1\/a= -b)↔a= -b from⟨λh=>h.elim (λh=>absurd h c) λh=>h.elim (λh=>absurd h c2) id,λh=> .inr (.inr h)⟩)]
  rintro _ _ w3 ⟨rfl,rfl⟩;refine oZ ?_;refine zb (λc=>?_) (λc=>?_)
  .rw[f];refine same (-1) dC ?_ _ rfl;unfold M.andG;by_cases c1:a= -1\/b= -1
   .rw[k6 c1]
   .rw[y3 c1];have c2:a= -b:=c.elim (λh=>absurd (.inl h) c1) λh=>h.elim (λh=>absurd (.inr h) c1) id;rw[y3 oM,y3 oM];by_cases c3:a=b
    .exfalso;omega
    .rw[y3 c3,k6 c2]
  refine zp (λu w'=>u=[.bool (decide (a=1\/a=b))]/\w'=w3) ?_ ?_
  .intro J2 p
   try simp only[push_cast]
   refine zb (λc=>p _ _ ⟨by rw[gk (.inl c)],rfl⟩) (λc2=>?_)
   try simp only[push_cast]
   refine p _ _ ⟨?_,rfl⟩;rw[decide_eq_decide.2 (show(a=1\/a=b)↔a=b from⟨λh=>h.elim (λh=>absurd h c2) id,.inr⟩)]
  rintro _ _ w4 ⟨rfl,rfl⟩;have c1: ¬(a= -1\/b= -1):=λh=>c (h.elim .inl λh=> .inr (.inl h));refine oZ ?_;refine zb (λc2=>?_) (λc2=>?_)
  .rw[f];refine same b R ?_ _ rfl;unfold M.andG;rw[y3 c1];by_cases c3:a=1
   .rw[k6 c3]
   .have k:a=b:=c2.elim (λh=>absurd h c3) id;rw[y3 c3];by_cases c5:b=1
    .omega
    .rw[y3 c5,k6 k,k]
  try simp only[push_cast]
  refine zb (λc3=>?_) (λc3=>?_)
  .rw[f];refine same a Q ?_ _ rfl;unfold M.andG;rw[y3 c1,y3 (λh=>c2 (.inl h)),k6 c3]
  have hand:M.andG n gs a b=M.putG n gs (M.gateA a b):=by
   unfold M.andG;rw[y3 c1,y3 (λh=>c2 (.inl h)),y3 c3,y3 (λh=>c2 (.inr h)),y3 (λh=>c (.inr (.inr h)))]
  refine l4Abs_sm ha (l4Abs_sm d ?_)
  try simp only[push_cast]
  unfold M.gateA at hand;refine zb (λk=>?_) (λk=>?_)
  .rw[k6 k] at hand;rw[f,xf0];exact put _ hand
  .rw[y3 k] at hand;exact hJ _ _ ⟨rfl,rfl,hand⟩
 rintro _ _ w3 ⟨rfl,rfl,hp⟩;rw[f,xf0];exact put _ hp
theorem sxor6_spec (hn:n<=8) (O:GOff D w nv gs) (z:gs.length<=600) (hD:∀b,D b->b<w.heap.size) (V:Sm a) (j:Sm b) (a5:a≠0) (a6:b≠0)
  (N:∀w' cs,Ext w w'->NetO n D w' (M.xorG n gs a b).1 (M.xorG n gs a b).2 cs->K (.tuple #[.agg ⟨cs⟩,nI (M.xorG n gs a b).2]) w'):
  vcall zm0 #[.agg ⟨[nI n,nv]⟩,nI a,nI b] w K:=by
 refine zf {cuts:=[(8201,[]),(8194,[13]),(16388,[25]),(45068,[8]),(53262,[8]),(69651,[9,10])]} Tryz.func218 ?_;obtain⟨go,gc,X,_⟩:=O.shape;rw[X] at O⊢;refine zk λb1 w1 a7 G ac R=>?_;refine zj qV λb2 w2 a8 s ad E=>?_;have Q:=G.trans s;have C:=R.ext s;have o:∀K:oK,zt zw (oP b1 0) w2 K=K (.agg ⟨[nI n,.slice go (gs.map yl).length gc]⟩) w2:=λK=>C.ldAgg (t:=zw) zY;have z1:=G.size;have z2:=s.size;have same:∀(x:Int),x≠0->(M.xorG n gs a b)=(gs,x)->∀w':World,w'=w2->zW zw (oP b2 0) (.agg ⟨[nI n,.slice go (gs.map yl).length gc]⟩) w' λ_ H=>vlv zw (oP b2 0) H λr6 I=>K (.tuple #[r6,(nI x)]) I:=λx hx e w' ew=>by
  subst ew;rw[e] at N;refine net_out E rfl rfl net_one λw3 a1=>?_;have e3:Ext w w3:=Ext.then Q a1 λy B=>by subst B;omega
  exact N w3 _ e3 (NetO.of (Sl.ext O e3) z hx)
 have Z:GatesR (λb=> ¬D b/\b<w.heap.size) w (.slice go (gs.map yl).length gc) gs:=Sl.weaken O λb j z=>⟨j,z⟩;have absN:∀a:Int,M.absI a=(a.natAbs:Int):=λa=>by unfold M.absI;split<;>omega
 have na:=absN a;have nb:=absN b;unfold Sm at V j;refine zp (λu w'=>u=[]/\w'=w2/\M.xorG n gs a b=((M.putG n gs (M.gateX a b)).1,M.turnI (decide (a<0) != decide (b<0)) (M.putG n gs (M.gateX a b)).2)) ?_ ?_
 .intro J hJ;refine zp (λu w'=>u=[.bool (decide (a=1\/a= -1))]/\w'=w2) ?_ ?_
  .intro L i;refine oZ ?_;refine zb (λc=>i _ _ ⟨by rw[gk (.inl c)],rfl⟩) (λc=>?_)
   try simp only[push_cast]
   refine i _ _ ⟨?_,rfl⟩;rw[decide_eq_decide.2 (show(a=1\/a= -1)↔a= -1 from⟨λh=>h.elim (λh=>absurd h c) id,.inr⟩)]
  rintro _ _ w3 ⟨rfl,rfl⟩;refine oZ ?_;refine zb (λc=>?_) (λc=>?_)
  .rw[o];have e:M.xorG n gs a b=(gs,-a*b):=by
    unfold M.xorG;rcases c with rfl|rfl
    .rw[k6 dC];simp[M.turnI]
    .rw[k6 dC];simp[M.turnI]
   have hm:(-a*b).natAbs=b.natAbs:=by rcases c with rfl|rfl<;>simp
   have k: -a*b≠0:=oM;simp(disch:=omega) only[push_cast,zl,gQ];exact same (-a*b) k e _ rfl
  refine zp (λu w'=>u=[.bool (decide (b=1\/b= -1))]/\w'=w3) ?_ ?_
  .intro L i
   try simp only[push_cast]
   refine zb (λc=>i _ _ ⟨by rw[gk (.inl c)],rfl⟩) (λc=>?_)
   try simp only[push_cast]
   refine i _ _ ⟨?_,rfl⟩;rw[decide_eq_decide.2 (show(b=1\/b= -1)↔b= -1 from⟨λh=>h.elim (λh=>absurd h c) id,.inr⟩)]
  rintro _ _ w4 ⟨rfl,rfl⟩;refine oZ ?_;have c1: ¬M.absI a=1:=oM;refine zb (λd=>?_) (λd=>?_)
  .rw[o];have e:M.xorG n gs a b=(gs,-b*a):=by
    unfold M.xorG;rw[y3 c1];rcases d with rfl|rfl
    .rw[k6 dC];simp[M.turnI]
    .rw[k6 dC];simp[M.turnI]
   have hm:(-b*a).natAbs=a.natAbs:=by rcases d with rfl|rfl<;>simp
   have k: -b*a≠0:=oM;simp(disch:=omega) only[push_cast,zl,gQ];exact same (-b*a) k e _ rfl
  have c2: ¬M.absI b=1:=oM
  try simp only[push_cast]
  refine zb (λf=>?_) (λf=>?_)
  .rw[o];exact same (-1) dC (by unfold M.xorG;rw[y3 c1,y3 c2,k6 f]) _ rfl
  try simp(disch:=omega) only[push_cast,zl,gQ]
  refine zb (λf2=>?_) (λf2=>?_)
  .rw[o];exact same 1 dC (by unfold M.xorG;rw[y3 c1,y3 c2,y3 f,k6 f2]) _ rfl
  exact hJ _ _ ⟨rfl,rfl,by unfold M.xorG;rw[y3 c1,y3 c2,y3 f,y3 f2]⟩
 rintro _ _ w3 ⟨rfl,rfl,hx⟩;rw[hx] at N;have ab:=put_abs (g:=M.gateX a b) z hn;refine zp (λu w'=>u=[nI (if a<0 then-1 else 1)]/\w'=w3) ?_ ?_
 .intro L i;refine oZ ?_;refine zb (λc=>?_) (λc=>?_)
  .simp(disch:=omega) only[push_cast,zl,gQ];exact i _ _ ⟨by rw[k6 c],rfl⟩
  .exact i _ _ ⟨by rw[y3 c],rfl⟩
 rintro _ _ w4 ⟨rfl,rfl⟩;refine zp (λu w'=>u=[nI (if(decide (a<0) != decide (b<0)) then-1 else 1)]/\w'=w4) ?_ ?_
 .intro L i;refine oZ ?_;refine zb (λc=>?_) (λc=>?_)
  .by_cases d:a<0
   .rw[k6 d];simp(disch:=omega) only[push_cast,zl,gQ];exact i _ _ ⟨by simp[c,d],rfl⟩
   .rw[y3 d];simp(disch:=omega) only[push_cast,zl,gQ];exact i _ _ ⟨by simp[c,d],rfl⟩
  .refine i _ _ ⟨?_,rfl⟩;by_cases d:a<0<;>simp[c,d]
 rintro _ _ w5 ⟨rfl,rfl⟩;refine l4Abs_sm V (l4Abs_sm j ?_);refine zp (λu w'=>u=[nI (M.gateX a b).a,nI (M.gateX a b).b]/\w'=w5) ?_ ?_
 .intro L i
  try simp only[push_cast]
  unfold M.gateX at i;refine zb (λc=>?_) (λc=>?_)
  .rw[k6 c] at i;exact l4Abs_sm j (l4Abs_sm V (i _ _ ⟨rfl,rfl⟩))
  .rw[y3 c] at i;exact i _ _ ⟨rfl,rfl⟩
 rintro _ _ w6 ⟨rfl,rfl⟩
 try simp only[push_cast]
 rw[o,kZ0,show(⟨true,(M.gateX a b).a,(M.gateX a b).b⟩:M.Gt)=M.gateX a b from by unfold M.gateX;split<;>rfl];refine sput_spec (D:=λb=>D b\/b=b2) hn (Sl.weaken (Sl.ext Z Q) λb j z hd=>hd.elim j.1 λe=>by have:=j.2;omega) z (λb j=>j.elim (λh=>by have:=hD b h;omega) λh=>oM) λw7 n' a3 v W a0 a2=>?_;refine oZ ?_;have q:=NetO.put W a0 a2 (put_len z);generalize [nI (n':Nat),a3]=cs at q⊢;generalize aa:(M.putG n gs (M.gateX a b)).2=pm at*;have r:=q.len;refine zj qV λb8 w8 a9 m ae T=>?_;have a4:=q.same (Same.of_ext m (S:=λ_=>False)) λb j=>j.elim;refine T.stAgg (cs':=cs) (by rw[r];rfl) (by rw[r];exact zY) q.one λw9 A af U=>?_;rw[U.ldAgg (t:=zw) (by rw[r];exact zY)];have hmul:(if(decide (a<0) != decide (b<0))=true then(-1:Int) else 1)*pm=M.turnI (decide (a<0) != decide (b<0)) pm:=by
  unfold M.turnI;split<;>omega
 try simp only[push_cast]
 rw[hmul,zl (by have:=Jz (c:=decide (a<0) != decide (b<0)) (a:=pm);omega) (by have:=Jz (c:=decide (a<0) != decide (b<0)) (a:=pm);omega)];have l7:=v.size;have l8:=m.size;have F:=((E.ext v).ext m).same A (show¬b2=b8 by omega);refine net_out F rfl q.len q.one λw10 p=>?_;have e9:Ext w w9:=Ext.then ((Q.trans v).trans m) A λy B=>by subst B;omega
 refine N w10 _ (Ext.then e9 p λy B=>by subst B;omega) ?_;have h9:Ext w7 w9:=Ext.then m A λy B=>by subst B;omega
 have l:=((q.same (Same.of_ext h9 (S:=λ_=>False)) λb j=>j.elim).same p λb j=> .inr j).weak (Y:=D) λb j=> .inl j;unfold NetO at l⊢;by_cases k:pm=0
 .rw[k6 k] at l;rw[k6 (M.turn_zero.2 k)];exact l
 .rw[y3 k] at l;rw[y3 (λh=>k (M.turn_zero.1 h))];exact l
end
section
variable {w:World} {K:oK} {D F Y S:Nat->Prop} {n b4 b8:Nat} {gs:M.Gs} {v:Value} {cs cs':List Value} {st st':Option M.Gs} {a b c m x y r:Int}
def MkR (n:Nat) (D:Nat->Prop) (w:World) (cs:List Value) (st:Option M.Gs):Prop:=
 match st with
 |some gs=> ∃o l c,cs=[nI n,.slice o l c,.bool true]/\GOff D w (.slice o l c) gs/\gs.length<=600
 |none=>cs=[nI 0,.slice none 0 0,.bool false]
theorem MkR.form (h:MkR n D w cs st):∃(x:Int) (o:Option Addr) (l c:Nat) (b:Bool),cs=[nI x,.slice o l c,.bool b]:=by
 cases st with
 |none=>exact⟨_,_,_,_,_,h⟩
 |some gs=>obtain⟨o,l,c,e,_⟩:=h;exact⟨_,_,_,_,_,e⟩
theorem MkR.len (h:MkR n D w cs st):cs.length=3:=by obtain⟨x,o,l,c,b,rfl⟩:=h.form;rfl
theorem MkR.one (h:MkR n D w cs st):∀u,u∈cs->u.oneCell'=true:=by
 obtain⟨x,o,l,c,b,rfl⟩:=h.form;intro u hu;simp only[gi,gz,Gh] at hu;rcases hu with rfl|rfl|rfl<;>rfl
theorem MkR.swap {w':World} (h:MkR n D w cs st) (hw:Same S w w') (f:∀b,S b->D b) (g:∀b,Y b->b<w.heap.size->D b):MkR n Y w' cs st:=by
 cases st with
 |none=>exact h
 |some gs=>
  obtain⟨o,l,c,e,a,d⟩:=h;exact⟨o,l,c,e,a.swap hw f g,d⟩
theorem MkR.ext {w':World} (h:MkR n D w cs st) (hw:Ext w w') (a:∀b,Y b->b<w.heap.size->D b):MkR n Y w' cs st:=h.swap hw (λ_ h=>h.elim) a
theorem MkR.same {w':World} (h:MkR n D w cs st) (hw:Same S w w') (a:∀b,S b->D b):MkR n D w' cs st:=h.swap hw a λ_ h _=>h
def Sn (st:Option M.Gs) (x:Int):Prop:=Sm x/\(x=0->st=none)
def SnL (st:Option M.Gs) (xs:List Int):Prop:=∀x,x∈xs->Sn st x
theorem ko0 {α:Type} {p:M.Bd α} {a:α} (h:M.Bd.Out n p st st' a):st=none->st'=none:=λe=>by subst e;exact h.1
theorem Sn.out {α:Type} {p:M.Bd α} {a:α} (h:Sn st x) (b:M.Bd.Out n p st st' a):Sn st' x:=⟨h.1,λe=>ko0 b (h.2 e)⟩
theorem SnL.out {α:Type} {p:M.Bd α} {a:α} {xs:List Int} (h:SnL st xs) (b:M.Bd.Out n p st st' a):SnL st' xs:=λx c=>(h x c).out b
theorem Sn.neg (h:Sn st x):Sn st (-x):=⟨by have:=h.1;unfold Sm at*;omega,λe=>h.2 oM⟩
theorem Sn.nz (h:Sn (some gs) x):x≠0:=λe=>by have:=h.2 e;cases this
theorem Sn.of (h:Sm x) (a:x≠0):Sn st x:=⟨h,λe=>absurd e a⟩
theorem SnL.get {xs:List Int} (h:SnL st xs) {i:Nat} (hi:i<xs.length):Sn st (xs.getD i 0):=h _ (M.getD_mem hi 0)
theorem SnL.app {xs ys:List Int} (h:SnL st xs) (a:SnL st ys):SnL st (xs++ys):=λx b=>(gn.1 b).elim (h x) (a x)
theorem SnL.one (h:Sn st x):SnL st [x]:=λy a=>by rw[gx.1 a];exact h
theorem SnL.nil:SnL st []:=λx a=>by cases a
theorem SnL.sm {xs:List Int} (h:SnL st xs):SmL xs:=λx a=>(h x a).1
theorem SnL.fill (m:Nat):SnL st (M.offsL m):=λx a=>by rw[G1 a];exact Sn.of dC dC
theorem SnL.neg {xs:List Int} (h:SnL st xs):SnL st (M.negL xs):=λx a=>by
 obtain⟨y,b,rfl⟩:=gw.1 a;exact(h y b).neg
theorem ZW0 {x:Int} {o:Option Addr} {l c:Nat} {b:Bool}:yz zA [(0,.agg ⟨[nI x,.slice o l c]⟩),(1,.bool b)] w K=K (.agg ⟨[nI x,.slice o l c,.bool b]⟩) w:=zT yK0 (us:=[[nI x,.slice o l c],[.bool b]]) rfl rfl
theorem Kd {b4:Nat} (a:Blk w b4 cs zA) (h:cs.length=3):zt zA (oP b4 0) w K=K (.agg ⟨cs⟩) w:=a.ldAgg (t:=zA) (by rw[h];exact j0)
theorem mk_put {b4:Nat} {a:List Value} (c:Blk w b4 a zA) (f:a.length=3) (e:cs.length=3) (b:∀u,u∈cs->u.oneCell'=true) (d:∀w',Same (· =b4) w w'->w'.heap.size=w.heap.size->Blk w' b4 cs zA->K undef w'):zW zA (oP b4 0) (.agg ⟨cs⟩) w K:=
 c.stAgg (cs':=cs) oM (by rw[e];exact j0) b d
theorem J0 {b8:Nat} {a:List Value} (f:Blk w b8 a zA) (d:a.length=3) (c:cs.length=3) (e:∀u,u∈cs->u.oneCell'=true) (g:∀w',Same (· =b8) w w'->K (.agg ⟨cs⟩) w'):
  zW zA (oP b8 0) (.agg ⟨cs⟩) w λ_ w1=>vlv zA (oP b8 0) w1 K:=
 mk_put f d c e λw1 hs h b=>by
  rw[b.lv (t:=zA) (by rw[c];exact j0)];exact g w1 hs
theorem sand7_spec (hn:n<=8) (Z:MkR n D w cs st) (hD:∀b,D b->b<w.heap.size) (hx:Sn st x) (H:Sn st y)
  (U:∀w' cs' st' r,Ext w w'->MkR n D w' cs' st'->Sn st' r->M.Bd.Out n (.and x y .ret) st st' r->K (.tuple #[.agg ⟨cs'⟩,nI r]) w'):
  vcall zk0 #[.agg ⟨cs⟩,nI x,nI y] w K:=by
 refine zf {} Tryz.func148 ?_;refine zk λb3 w1 a3 E a7 Q=>?_;refine zj xw λb6 w2 a4 p a8 z=>?_;have N:=E.trans p;have d:=Q.ext p;have z1:=E.size;have z2:=p.size;cases st with
 |none=>
  have V:cs=[nI 0,.slice none 0 0,.bool false]:=Z;subst V;simp(disch:=exact oS) only[push_cast,d.ld2,PH,Kd d rfl];refine J0 z rfl rfl Z.one λw3 a1=>?_;exact U w3 _ none 1 (Ext.then N a1 λb e=>oM) rfl (Sn.of dC dC) ⟨rfl,1,rfl⟩
 |some gs=>
  obtain⟨o,l,c,rfl,hg,I⟩:=Z;have G:zt zw (oP b3 0) w2=λK=>K (.agg ⟨[nI n,.slice o l c]⟩) w2:=by
   funext K;exact Blk.ldTake (us:=[nI n,.slice o l c]) (r:=[.bool true]) d zY
  simp(disch:=exact oS) only[push_cast,d.ld2,Gz,yB,G0,G];have W:GOff (λb=>D b\/b=b3\/b=b6) w2 (.slice o l c) gs:=hg.swap N (λ_ h=>h.elim) λb e I=>e.elim id λh=>oM;refine sand6_spec hn W I (λb e=>e.elim (λh=>by have:=hD b h;omega) λh=>oM) hx.1 H.1 hx.nz H.nz λw3 J q j=>?_;have hlen:gs.length<=600:=I;have C:=jv0 (gs:=gs) (n:=n) I hn hx.1 H.1;have f:(M.Bd.and x y .ret:M.Bd Int).run n gs=if(M.andG n gs x y).2=0 then none else some ((M.andG n gs x y).1,(M.andG n gs x y).2):=rfl
  generalize a6:(M.andG n gs x y).1=v at*;generalize (M.andG n gs x y).2=m at*;refine oZ ?_;have k:=j.len;refine zj qV λb8 w8 a5 F a9 R=>?_;refine R.stAgg (cs':=J) (by rw[k];rfl) (by rw[k];exact zY) j.one λw9 a2 aa T=>?_;have z3:=q.size;have z8:=F.size;have O:Ext w3 w9:=Ext.then F a2 λy H=>by subst H;omega
  have B:=j.same (Same.of_ext O (S:=λ_=>False)) λb e=>e.elim;rw[T.ldAgg (t:=zw) (by rw[k];exact zY)];obtain⟨x3,o3,l3,c3,rfl⟩:=B.form;simp only[push_cast,ZW0];have A:=(z.ext (q.trans O));refine J0 A rfl rfl (λu hu=>by simp only[gi,gz,Gh] at hu;rcases hu with rfl|rfl|rfl<;>rfl) λw10 g=>?_;have s:Ext w w10:=Ext.then (N.trans (q.trans O)) g λb e=>oM;have a:=(B.same g λb e=> .inr (.inr e)).weak (Y:=D) λb e=> .inl e;by_cases hm:m=0
  .subst hm;unfold NetO at a;rw[k6 rfl] at a;simp only[gY,gZ] at a;obtain⟨L,i⟩:=a;rw[L,i];refine U w10 _ none 0 s rfl ⟨dC,λ_=>rfl⟩ (.inr ⟨by rw[f,k6 rfl],rfl,0,rfl⟩)
  .unfold NetO at a;rw[y3 hm] at a;obtain⟨o4,l4,c4,e4,X,a0⟩:=a;simp only[gY,gZ] at e4;obtain⟨L,i⟩:=e4;rw[L,i,gk hm];refine U w10 _ (some v) m s ⟨o4,l4,c4,rfl,X,a0⟩ (Sn.of C hm) (.inl ⟨v,by rw[f,y3 hm],rfl⟩)
theorem sxor7_spec (hn:n<=8) (Z:MkR n D w cs st) (hD:∀b,D b->b<w.heap.size) (hx:Sn st x) (H:Sn st y)
  (U:∀w' cs' st' r,Ext w w'->MkR n D w' cs' st'->Sn st' r->M.Bd.Out n (.xor x y .ret) st st' r->K (.tuple #[.agg ⟨cs'⟩,nI r]) w'):
  vcall zd0 #[.agg ⟨cs⟩,nI x,nI y] w K:=by
 refine zf {} Tryz.func185 ?_;refine zk λb3 w1 a3 E a7 Q=>?_;refine zj xw λb6 w2 a4 p a8 z=>?_;have N:=E.trans p;have d:=Q.ext p;have z1:=E.size;have z2:=p.size;cases st with
 |none=>
  have V:cs=[nI 0,.slice none 0 0,.bool false]:=Z;subst V;simp(disch:=exact oS) only[push_cast,d.ld2,PH,Kd d rfl];refine J0 z rfl rfl Z.one λw3 a1=>?_;exact U w3 _ none 1 (Ext.then N a1 λb e=>oM) rfl (Sn.of dC dC) ⟨rfl,1,rfl⟩
 |some gs=>
  obtain⟨o,l,c,rfl,hg,I⟩:=Z;have G:zt zw (oP b3 0) w2=λK=>K (.agg ⟨[nI n,.slice o l c]⟩) w2:=by
   funext K;exact Blk.ldTake (us:=[nI n,.slice o l c]) (r:=[.bool true]) d zY
  simp(disch:=exact oS) only[push_cast,d.ld2,Gz,yB,G0,G];have W:GOff (λb=>D b\/b=b3\/b=b6) w2 (.slice o l c) gs:=hg.swap N (λ_ h=>h.elim) λb e I=>e.elim id λh=>oM;refine sxor6_spec hn W I (λb e=>e.elim (λh=>by have:=hD b h;omega) λh=>oM) hx.1 H.1 hx.nz H.nz λw3 J q j=>?_;have hlen:gs.length<=600:=I;have C:=qd0 (gs:=gs) (n:=n) I hn hx.1 H.1;have f:(M.Bd.xor x y .ret:M.Bd Int).run n gs=if(M.xorG n gs x y).2=0 then none else some ((M.xorG n gs x y).1,(M.xorG n gs x y).2):=rfl
  generalize a6:(M.xorG n gs x y).1=v at*;generalize (M.xorG n gs x y).2=m at*;refine oZ ?_;have k:=j.len;refine zj qV λb8 w8 a5 F a9 R=>?_;refine R.stAgg (cs':=J) (by rw[k];rfl) (by rw[k];exact zY) j.one λw9 a2 aa T=>?_;have z3:=q.size;have z8:=F.size;have O:Ext w3 w9:=Ext.then F a2 λy H=>by subst H;omega
  have B:=j.same (Same.of_ext O (S:=λ_=>False)) λb e=>e.elim;rw[T.ldAgg (t:=zw) (by rw[k];exact zY)];obtain⟨x3,o3,l3,c3,rfl⟩:=B.form;simp only[push_cast,ZW0];have A:=(z.ext (q.trans O));refine J0 A rfl rfl (λu hu=>by simp only[gi,gz,Gh] at hu;rcases hu with rfl|rfl|rfl<;>rfl) λw10 g=>?_;have s:Ext w w10:=Ext.then (N.trans (q.trans O)) g λb e=>oM;have a:=(B.same g λb e=> .inr (.inr e)).weak (Y:=D) λb e=> .inl e;by_cases hm:m=0
  .subst hm;unfold NetO at a;rw[k6 rfl] at a;simp only[gY,gZ] at a;obtain⟨L,i⟩:=a;rw[L,i];refine U w10 _ none 0 s rfl ⟨dC,λ_=>rfl⟩ (.inr ⟨by rw[f,k6 rfl],rfl,0,rfl⟩)
  .unfold NetO at a;rw[y3 hm] at a;obtain⟨o4,l4,c4,e4,X,a0⟩:=a;simp only[gY,gZ] at e4;obtain⟨L,i⟩:=e4;rw[L,i,gk hm];refine U w10 _ (some v) m s ⟨o4,l4,c4,rfl,X,a0⟩ (Sn.of C hm) (.inl ⟨v,by rw[f,y3 hm],rfl⟩)
theorem sor7_spec (O:n<=8) (s:MkR n D w cs st) (hD:∀b,D b->b<w.heap.size) (F:Sn st x) (G:Sn st y)
  (J:∀w' cs' st' r,Ext w w'->MkR n D w' cs' st'->Sn st' r->M.Bd.Out n (M.orB x y) st st' r->K (.tuple #[.agg ⟨cs'⟩,nI r]) w'):
  vcall yv0 #[.agg ⟨cs⟩,nI x,nI y] w K:=by
 refine zf {} Tryz.func149 ?_;refine zk λb3 w1 L j Q o=>?_;refine zj xw λC w2 N e R p=>?_;have E:=j.trans e;have d:=o.ext e;have V:=j.size;have z2:=e.size;have z:=F.1;have A:=G.1;unfold Sm at z A;simp(disch:=omega) only[push_cast,Kd d s.len,zl,gQ];have t:MkR n (λb=>D b\/b=b3\/b=C) w2 cs st:=s.ext E λb c T=>c.elim id λh=>oM
 refine sand7_spec O t (λb c=>c.elim (λh=>by have:=hD b h;omega) λh=>oM) F.neg G.neg λw3 m B r f a k u=>?_;have v:=k.1;unfold Sm at v;refine oZ ?_;refine mk_put (d.ext f) s.len a.len a.one λU g S q=>?_;have i:=(p.ext f).same g (show¬C=b3 by omega);simp(disch:=omega) only[push_cast,Kd q a.len,zl,gQ];refine J0 i rfl a.len a.one λH l=>?_;have I:Ext w H:=Ext.then (Ext.then (E.trans f) g λb c=>oM) l λb c=>oM
 exact J H m B (-r) I ((a.same g λb c=> .inr (.inl c)).swap l (λb c=> .inr (.inr c)) λb c _=> .inl c) k.neg (xD u (M.Bd.Out.ret _ _))
theorem sone7_spec (S:n<=8) (N:MkR n D w cs st) (hD:∀b,D b->b<w.heap.size) (J:Sn st c) (hx:Sn st x) (hy:Sn st y)
  (hK:∀w' cs' st' r,Ext w w'->MkR n D w' cs' st'->Sn st' r->M.Bd.Out n (M.muxB c x y) st st' r->K (.tuple #[.agg ⟨cs'⟩,nI r]) w'):
  vcall ze0 #[.agg ⟨cs⟩,nI c,nI x,nI y] w K:=by
 refine zf {} Tryz.func184 ?_;refine zk λb3 w1 a2 z a4 G=>?_;refine zj xw λE w2 a3 k a5 H=>?_;have Y:=z.trans k;have i:=G.ext k;have z1:=z.size;have z2:=k.size;have L:=J.1;unfold Sm at L;rw[Kd i N.len];have O:MkR n (λb=>D b\/b=b3\/b=E) w2 cs st:=N.ext Y λb a hl=>a.elim id λh=>oM
 have j:∀b,(D b\/b=b3\/b=E)->b<w2.heap.size:=λb a=>a.elim (λh=>by have:=hD b h;omega) λh=>oM
 refine sand7_spec S O j J hx λw3 a0 a8 p e d U m=>?_;refine oZ ?_;refine mk_put (i.ext e) N.len d.len d.one λw4 o a6 v=>?_;have z3:=e.size;have t:=(H.ext e).same o (show¬E=b3 by omega);have Q:=d.same o λb a=> .inr (.inl a);simp(disch:=omega) only[push_cast,Kd v d.len,zl,gQ];refine sand7_spec S Q (λb a=>by have:=j b a;omega) (J.out m).neg (hy.out m) λw5 a1 a9 q f g V B=>?_;refine oZ ?_;refine mk_put (v.ext f) d.len g.len g.one λw6 s a7 I=>?_;have z5:=f.size;have u:=(t.ext f).same s (show¬E=b3 by omega);have R:=g.same s λb a=> .inr (.inl a);rw[Kd I g.len];refine sor7_spec S R (λb a=>by have:=j b a;omega) (U.out B) V λw7 F X r A l W T=>?_;refine oZ ?_;refine J0 (u.ext A) rfl l.len l.one λZ C=>?_;have e6:Ext w w6:=Ext.then ((Ext.then (Y.trans e) o λb a=>oM).trans f) s λb a=>oM
 have e8:Ext w Z:=Ext.then (e6.trans A) C λb a=>oM
 exact hK Z F X r e8 (l.swap C (λb a=> .inr (.inr a)) λb a _=> .inl a) W (xD m (xD B T))
end
section
variable {w:World} {K:oK} {D F Fx Fy Y S O:Nat->Prop} {n b4 b8:Nat} {v xv yv:Value} {cs cs':List Value} {st st':Option M.Gs} {a b c m x y r:Int} {xs ys:List Int}
abbrev Yf0 (D O:Nat->Prop) (b4 b8:Nat):Nat->Prop:=λb=>D b\/b=b4\/b=b8\/O b
structure Fm (n:Nat) (D O:Nat->Prop) (w0:World) (b4 b8:Nat) (w:World) (st:Option M.Gs):Prop where
 ext:Ext w0 w
 k:∃cs,Blk w b4 cs zA/\MkR n (Yf0 D O b4 b8) w cs st
 r:∃cs,Blk w b8 cs zA/\cs.length=3
 lo:w0.heap.size<=b4/\w0.heap.size<=b8/\b4≠b8
 off:∀b,O b->b<w.heap.size/\w0.heap.size<=b/\b≠b4/\b≠b8
 dlt:∀b,D b->b<w0.heap.size
theorem Fm.start (k:MkR n D w cs st) (hD:∀b,D b->b<w.heap.size) {K:Value->oK} (f:∀b4 b8 w',Fm n D (λ_=>False) w b4 b8 w' st->K (oP b4 0) (oP b8 0) w'):
  yd0 zA (.agg ⟨cs⟩) w λt w1=>qo zA w1 λt8 w2=>K t t8 w2:=by
 refine zk λb4 w1 i c l d=>?_;refine zj xw λb8 w2 j a m e=>?_;refine f b4 b8 w2 ⟨c.trans a,⟨cs,d.ext a,k.ext (c.trans a) λb g o=>g.elim id λh=>?_⟩,⟨_,e,rfl⟩,oM,λb h=>h.elim,hD⟩;rcases h with h|h|h
 .omega
 .omega
 .exact h.elim
section
variable {w0 w':World}
theorem Fm.lt4 (h:Fm n D O w0 b4 b8 w st):b4<w.heap.size/\b8<w.heap.size:=by
 obtain⟨_,a,_⟩:=h.k;obtain⟨_,b,_⟩:=h.r;exact⟨a.lt,b.lt⟩
theorem Fm.dl (h:Fm n D O w0 b4 b8 w st):∀b,Yf0 D O b4 b8 b->b<w.heap.size:=λb c=>by
 have l:=h.lt4;have s:=h.ext.size;rcases c with a|a|a|a
 .have:=h.dlt b a;omega
 .omega
 .omega
 .exact(h.off b a).1
theorem Fm.grow (h:Fm n D O w0 b4 b8 w st) (he:Ext w w'):Fm n D O w0 b4 b8 w' st:=by
 obtain⟨cs,c,d⟩:=h.k;obtain⟨a,e,f⟩:=h.r;exact⟨h.ext.trans he,⟨cs,c.ext he,d.ext he λ_ h _=>h⟩,⟨a,e.ext he,f⟩,h.lo,λb i=>by have g:=h.off b i;have:=he.size;exact⟨oM,g.2⟩,h.dlt⟩
theorem Fm.call (h:Fm n D O w0 b4 b8 w st):∃cs,MkR n (Yf0 D O b4 b8) w cs st/\∀w',Ext w w'->∀K:oK,zt zA (oP b4 0) w' K=K (.agg ⟨cs⟩) w':=by
 obtain⟨cs,b,a⟩:=h.k;exact⟨cs,a,λw' he K=>Kd (b.ext he) a.len⟩
theorem Fm.put (h:Fm n D O w0 b4 b8 w st) (he:Ext w w') (c:MkR n (Yf0 D O b4 b8) w' cs' st') (o:∀w'',Fm n D O w0 b4 b8 w'' st'->Same (· =b4) w' w''->w''.heap.size=w'.heap.size->K undef w''):
  zW zA (oP b4 0) (.agg ⟨cs'⟩) w' K:=by
 obtain⟨cs,f,g⟩:=h.k;obtain⟨d,i,j⟩:=h.r;refine mk_put (f.ext he) g.len c.len c.one λw'' hs p m=>o w'' ⟨Ext.then (h.ext.trans he) hs λb a=>by have:=h.lo;omega,⟨cs',m,c.same hs λb a=> .inr (.inl a)⟩,⟨d,(i.ext he).same hs λe=>h.lo.2.2 e.symm,j⟩,h.lo,λb a=>?_,h.dlt⟩ hs p;have l:=h.off b a;have:=he.size;exact⟨oM,l.2⟩
theorem Fm.own {O':Nat->Prop} (h:Fm n D O w0 b4 b8 w st) (hw:Same S w w') (e:∀b,S b->O b) (hO:∀b,O' b->b<w'.heap.size/\(O b\/w.heap.size<=b)):Fm n D O' w0 b4 b8 w' st:=by
 obtain⟨cs,a,i⟩:=h.k;obtain⟨g,j,m⟩:=h.r;have l:=h.lt4;have s:=h.ext.size;refine⟨Ext.then h.ext hw λb c=>(h.off b (e b c)).2.1,⟨cs,a.same hw λhs=>(h.off _ (e _ hs)).2.2.1 rfl,i.swap hw (λb c=> .inr (.inr (.inr (e b c)))) λb c o=>?_⟩,⟨g,j.same hw λhs=>(h.off _ (e _ hs)).2.2.2 rfl,m⟩,h.lo,λb c=>?_,h.dlt⟩
 .rcases c with a|a|a|a
  .exact .inl a
  .exact .inr (.inl a)
  .exact .inr (.inr (.inl a))
  .exact(hO b a).2.elim (λh=> .inr (.inr (.inr h))) λh=>oM
 .obtain⟨f,d⟩:=hO b c;rcases d with d|d
  .have:=h.off b d;exact⟨f,this.2⟩
  .exact⟨f,oM,oM,oM⟩
theorem Fm.fin (h:Fm n D O w0 b4 b8 w st) (g:∀w' cs,Ext w0 w'->MkR n D w' cs st->Same (· =b8) w w'->K (.agg ⟨cs⟩) w'):
  zt zA (oP b4 0) w λt w1=>zW zA (oP b8 0) t w1 λ_ w2=>vlv zA (oP b8 0) w2 K:=by
 obtain⟨cs,d,a⟩:=h.k;obtain⟨i,e,f⟩:=h.r;rw[Kd d a.len];exact J0 e f a.len a.one λw' hs=>g w' cs (Ext.then h.ext hs λb c=>by have:=h.lo;omega) (a.swap hs (λb c=> .inr (.inr (.inl c))) λb c _=> .inl c) hs
theorem Fm.out (h:Fm n D O w0 b4 b8 w st) (he:Ext w w') (c:MkR n (Yf0 D O b4 b8) w' cs' st') (f:∀w'',Ext w0 w''->MkR n D w'' cs' st'->Same (· =b8) w' w''->K (.agg ⟨cs'⟩) w''):
  zW zA (oP b8 0) (.agg ⟨cs'⟩) w' λ_ w2=>vlv zA (oP b8 0) w2 K:=by
 obtain⟨g,d,e⟩:=h.r;exact J0 (d.ext he) e c.len c.one λw'' hs=>f w'' (Ext.then (h.ext.trans he) hs λb a=>by have:=h.lo;omega) (c.swap hs (λb a=> .inr (.inr (.inl a))) λb a _=> .inl a) hs
end
abbrev O1 (v:Value):Nat->Prop:=λb=>v.ownBlock=some b
abbrev Low (w:World):Nat->Prop:=λb=>b<w.heap.size
theorem Ints.under (h:Ints Fx w xv xs):Ints (Low w) w xv xs:=Ints.weaken h λ_ _ a=>a
theorem Ints.ext0 {w0 w:World} (h:Ints (Low w0) w0 xv xs) (he:Ext w0 w):Ints (Low w0) w xv xs:=Ints.ext h he
theorem Fm.app {w0:World} {zs:List Int} {x:Int} {ty:Nat} (h:Fm n D (O1 v) w0 b4 b8 w st) (l:OwnI zi w v zs) (q:zs.length<=1000000)
  (j:∀v' w',Fm n D (O1 v') w0 b4 b8 w' st->OwnI zi w' v' (zs++[x])->Ext w0 w'->K v' w'):
  vbuildS zi 1 [(0,nI x)] w λt w1=>vbi .append [zi,zi] ty [v,t] w1 K:=by
 refine zC xt xd xF rfl rfl λp r k a m e=>?_;refine(l.ext a).app1 xC e oM oM λv6 o c g f=>?_;have i:=(h.grow a).own (O':=O1 v6) g (λb d=>d) λb d=>⟨c.lt d,f b d⟩;exact j v6 o i c i.ext
theorem Fm.nil {w0:World} (h:Fm n D (λ_=>False) w0 b4 b8 w st) (j:∀v' w',Fm n D (O1 v') w0 b4 b8 w' st->OwnI zi w' v' []->Ext w0 w'->K v' w'):vbuildS zi 0 [] w K:=by
 refine yg xt xd λa i k f m c=>?_;have l:OwnI zi i (.slice (some ⟨a,0,none⟩) 0 0) []:=Blk.own1 (t:=zi) (cs:=[]) (by rw[qK];exact c) (Gc _) rfl rfl oM;have g:=h.own (O':=O1 (.slice (some ⟨a,0,none⟩) 0 0)) (S:=λ_=>False) f (λb d=>d) λb d=>by
  have e:a=b:=K3 d;exact⟨oM,.inr oM⟩
 exact j _ i g l g.ext
theorem sadd7_spec (hn:n<=8) (hk:MkR n D w cs st) (hD:∀b,D b->b<w.heap.size) (O:Ints Fx w xv xs) (hy:Ints Fy w yv ys) (hl:xs.length<=ys.length) (h8:xs.length<=1000) (b1:SnL st xs) (b2:SnL st ys) (hc:Sn st c)
  (hK:∀w' cs' st' r zs,Ext w w'->MkR n D w' cs' st'->OwnI zi w' r zs->(∀b,r.ownBlock=some b->w.heap.size<=b)->SnL st' zs->M.Bd.Out n (M.sumB xs ys c) st st' zs->K (.tuple #[.agg ⟨cs'⟩,r]) w'):
  vcall zl0 #[.agg ⟨cs⟩,xv,yv,nI c] w K:=by
 refine zf {loops:=[(3,[3,10,11])]} Tryz.func151 ?_;refine Fm.start hk hD λb4 b8 w1 h1=>?_;refine h1.nil λv2 w2 h2 aw e2=>?_;have Q:=Ints.under O;have ag:=Ints.under hy;refine vloop_up xs.length (λi u w'=> ∃k r zs c1,u=[nI c1,r,nI i]/\Fm n D (O1 r) w b4 b8 w' k/\OwnI zi w' r zs/\zs.length=i/\SnL k zs/\SnL k xs/\SnL k ys/\Sn k c1/\
  ∀st2 rs,M.Bd.Out n (M.sumB (xs.drop i) (ys.drop i) c1) k st2 rs->M.Bd.Out n (M.sumB xs ys c) st st2 (zs++rs)) ⟨st,_,[],c,rfl,h2,aw,rfl,SnL.nil,b1,b2,hc,λ_ _ h=>h⟩ ?_
 rintro i _ g w3 C hi ⟨ak,r3,zs,c3,rfl,R,aa,b3,aj,A,E,V,z⟩ hC;have b0:=Ints.ext0 Q R.ext;simp(disch:=exact oS) only[push_cast,b0.len];refine zb (λbp=>?_) (λbo=>?_)
 .have m:i<xs.length:=oM;refine zd λw4 W _=>?_;have S:=R.grow W;have ae:=Ints.ext0 Q S.ext;have ah:=Ints.ext0 ag S.ext;obtain⟨c4,J,a5⟩:=S.call;simp(disch:=exact oS) only[push_cast,ae.iaddr,ae.load,ah.iaddr,ah.load,y4,a5 w4 (Same.refl _ _)];refine sxor7_spec hn J S.dl (A.get m) (E.get oM) λw5 bl bs d X aq hd f=>?_;simp only[push_cast,y4];refine S.put X aq λw6 h6 ay bq=>?_;obtain⟨c6,ar,a6⟩:=h6.call;simp only[push_cast,y4,gh,a6 w6 (Same.refl _ _)];refine sxor7_spec hn ar h6.dl hd (V.out f) λw7 bm b6 s Y au hs j=>?_;simp only[push_cast,y4];refine h6.put Y au λw8 ao az br=>?_;refine zd λw9 Z _=>?_;have T:=ao.grow Z;have af:=Ints.ext0 Q T.ext;have ai:=Ints.ext0 ag T.ext;obtain⟨c9,av,a7⟩:=T.call;simp(disch:=exact oS) only[push_cast,af.iaddr,af.load,ai.iaddr,ai.load,y4,a7 w9 (Same.refl _ _)];have B:=(A.out f).out j;have F:=(E.out f).out j;refine sand7_spec hn av T.dl (B.get m) (F.get oM) λw10 bb bh p o a0 hp a=>?_;simp only[push_cast,y4];refine T.put o a0 λb7 H ab be=>?_;obtain⟨bj,a1,L⟩:=H.call;simp only[push_cast,y4,gh,L b7 (Same.refl _ _)];refine sand7_spec hn a1 H.dl ((hd.out j).out a) (((V.out f).out j).out a) λbt bc bi q t a2 hq l=>?_;simp only[push_cast,y4];refine H.put t a2 λb9 I ac bf=>?_;obtain⟨bk,a3,N⟩:=I.call;simp only[push_cast,y4,gh,N b9 (Same.refl _ _)];refine sor7_spec hn a3 I.dl (hp.out l) hq λbu bd G c2 v a4 ap y=>?_;simp only[push_cast,y4];refine I.put v a4 λba am ad bg=>?_;have a8:OwnI zi ba r3 zs:=by
   have off:∀b,r3.ownBlock=some b->¬b=b4:=λb U=>(R.off b U).2.2.1;exact((((((((((aa.ext W).ext X).same ay off).ext Y).same az off).ext Z).ext o).same ab off).ext t).same ac off|>.ext v).same ad off
  refine am.app a8 oM λb5 bv an a9 bn=>?_;simp(disch:=omega) only[push_cast,zl];have up:∀{x},Sn b6 x->Sn G x:=λh=>((h.out a).out l).out y;refine hC m _ _ ⟨G,b5,zs++[s],c2,by simp<;>exact⟨rfl,rfl⟩,an,a9,by simp[b3],SnL.app (λx O=>up (((aj x O).out f).out j)) (SnL.one (up hs)),λx O=>up (B x O),λx O=>up (F x O),ap,λst2 rs ho=>?_⟩;have:=z st2 (s::rs) ?_
  .simpa using this
  rw[yX m,yX (show i<ys.length by omega)];exact km f (km j (xD a (xD l (M.Bd.Out.bind y (M.Bd.Out.map _ ho)))))
 .have:=z ak [] (by rw[qt0 oM];exact M.Bd.Out.ret _ _);rw[gG] at this;refine R.fin λw4 al e4 J ax=>?_;exact hK w4 al ak r3 zs e4 J (aa.same ax λb U e=>(R.off b U).2.2.2 e) (λb U=>(R.off b U).2.1) aj this
end
end Go.Proofs.YtfjlkobhagjdaaaGreatDoor
end
