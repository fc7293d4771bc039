import Derived.Test.YtfnpmncplaibiaaGreatDoorWqbP7
import Derived.LaidEql
import Derived.Stop.Asserts
/- A part of the proof. -/
set_option linter.all false
set_option maxRecDepth 9999
set_option maxHeartbeats 2000000
noncomputable section
namespace Go.Proofs.YtfnpmncplaibiaaGreatDoor
open Go Go.Vc Go.Proofs
section
variable {w:World} {K:oK} {F F' X Fk Q:oA} {n bc bb:Nat} {gs:M.Gs} {v:Value} {ar ab:Addr}
theorem as_yes {a:TypeId} {v:Value} (b:concB a=true) {xT:TypeId}:yU0 (.iface a v) xT a true w K=K (.tuple #[v,.bool true]) w:=by
 refine y9 ?_;unfold concB at b;cases hu:P.underlying a with
 |none=>grind
 |some d=>
  rw[hu] at b;cases d<;>first|(cases b;done)|simp[Instr.typeAssert,run_underlying hu]
theorem as_no {a t:TypeId} {v z:Value} (b:concB a=true) (e:yl a z) (c:t≠a) {xT:TypeId}:yU0 (.iface t v) xT a true w K=K (.tuple #[z,.bool false]) w:=by
 refine y9 ?_;unfold concB at b;cases hu:P.underlying a with
 |none=>grind
 |some d=>
  rw[hu] at b;cases d<;>first|(cases b;done)|simp[Instr.typeAssert,run_underlying hu,c,YA e,Result.andThen]
structure KidsR (Fk X F:oA) (w:World) (kv:Value) (rs:List (oI)):Prop where
 at_:∃vs:List Value,Vals Fk w kv vs/\vs.length=rs.length/\∀i,i<rs.length->Ints (Off X F) w (vs.getD i undef) (rs.getD i [])
 sm:∀r,r∈rs->SmL r
theorem KidsR.ext {w':World} {kv:Value} {rs:List (oI)} (h:KidsR Fk X F w kv rs) (he:Ext w w'):KidsR Fk X F w' kv rs:=by
 obtain⟨vs,a,b,c⟩:=h.at_;exact⟨⟨vs,a.ext he,b,λi hi=>(c i hi).ext he⟩,h.sm⟩
theorem KidsR.sml {kv:Value} {rs:List (oI)} (h:KidsR Fk X F w kv rs) {i:Nat} (hi:i<rs.length):SmL (rs.getD i []):=h.sm _ (M.getD_mem hi [])
theorem KidsR.vals {kv:Value} {rs:List (oI)} (h:KidsR Fk X F w kv rs):∃vs:List Value,(∀(w':World),Ext w w'->∀i,i<rs.length->∀K:oK,ya zK kv (nI i) w' K=K (oE (eaddr kv 1 i)) w'/\zu zf (oE (eaddr kv 1 i)) w' K=K (vs.getD i undef) w')/\
  ∀i,i<rs.length->Ints (Off X F) w (vs.getD i undef) (rs.getD i []):=by
 obtain⟨vs,b,d,c⟩:=h.at_;refine⟨vs,λw' he i hi K=>?_,c⟩;have a:=b.ext he;refine⟨?_,a.load Vt oM⟩;rw[a.iaddr Vi oM oM,gu]
theorem stKind {b:Nat} {x y:Value} {t0 tk:TypeId} {s:ByteArray} {m:Int} (h:Blk w b [x,y] t0) (e:aggB tk 2=true) (d:∀w',Same (· =b) w w'->K undef w'):zG tk (oP b 0) (.agg ⟨[.string s,nI m]⟩) w K:=
 h.stAgg rfl e (by intro v a;simp only[gj,gC,Gn] at a;rcases a with rfl|rfl<;>rfl) λw' c _ _=>d w' c
theorem fixB_at {wd nn:Int} {j:Nat} (a:(j:Int)<wd):(M.fixB wd nn).getD j 0=if nn.toNat/2^j%2=1 then 1 else-1:=by
 grind [M.fixB]
theorem fix_step {wd nn:Int} {j:Nat} (a:(j:Int)<wd):((M.fixB wd nn).take j++List.replicate (wd.toNat-j) (-1)).set j (if nn.toNat/2^j%2=1 then 1 else-1)=(M.fixB wd nn).take (j+1)++List.replicate (wd.toNat-(j+1)) (-1):=by
 have b:((M.fixB wd nn).take j).length=j:=by rw[gh,M.fixB_len];omega
 rw[pM _ _ oM,b,GW,show wd.toNat-j=(wd.toNat-(j+1))+1 by omega,PB,po,M.take_add (by rw[M.fixB_len];omega) 0,fixB_at a,gZ];rfl
theorem SmL.fix {wd nn:Int}:SmL (M.fixB wd nn):=λx a=>by
 grind [M.fixB]
theorem SmL.name {ds:List M.Dcl} {k:Nat} (a:M.declOk ds=true) (b:k<ds.length):SmL (M.nameB ds k):=λx c=>by
 have:=M.name_has (m:=9) a b (by have:=(M.decl_iff.1 a).2.2;omega) x c;obtain⟨d,e,f⟩:=this;omega
def YE0 (n bb:Nat) (ar ab:Addr) (X F:oA) (w:World) (gs:M.Gs) (ds:List M.Dcl) (t:M.Tm) (rs:List (oI)) (K:oK):Prop:=
 ∀w' F' st' r zs,BdR n bb ar ab X F' w' st'->Mv F w F' w'->Ints (Off X F') w' r zs->SmL zs->M.Bd.Out n (M.nodeB ds t rs) (some gs) st' zs->K r w'
section
variable {bl kb m:Nat} {dv tv kv:Value} {ds:List M.Dcl} {t:M.Tm} {rs:List (oI)} {G Gt:oA}
theorem root_spec (hb:BdR n bb ar ab X F w (some gs)) (hd:M.declOk ds=true) (hs:M.sortM ds t≠ -1) (hB:Blk w bl [oP bb 0,dv,.map (some kb),.map (some m)] yo) (bn:DclsR G w dv ds) (br:KindsR w kb) (ht:TermR Gt w tv t)
  (l:KidsR Fk X F w kv rs) (cn:rs.length=t.ks.length) (hlen:∀i,i<t.ks.length->(rs.getD i []).length=M.lenS (M.sortM ds (M.kid t i)))
  (hK:YE0 n bb ar ab X F w gs ds t rs K):vcall Xy #[oP bl 0,tv,kv] w K:=by
 obtain⟨tk,rfl,cl⟩:=ht;refine ze {loops:=[(6,[32])]} Tryz.func131 ?_;obtain⟨cd,hp,c8⟩:=M.right_op hs;obtain⟨q1,q2,q3,q4,q5,q6,q7⟩:=M.node_right hd hs (L:=λi=>(rs.getD i []).length) hlen;refine zj λb1 w1 ce bo cp bg=>?_;refine zd λw2 b0 _=>?_;have e2:=bo.trans b0;have S:=hB.ext e2;have Q:=bg.ext b0;have q:=hb.ext e2;have az:=bn.ext e2;simp(disch:=exact oS) only[push_cast,S.ld2,Q.ld0,k5];refine KX (ok:=false) (br.ext e2) oM λcq bs=>⟨rfl,?_⟩;obtain⟨s,mm,r,b4,a2,c3,_⟩:=bs.word;simp only[Gd,if_false];rw[b4];have p:∀w3,Ext w2 w3->YE0 n bb ar ab X F w3 gs ds t rs K:=λw3 U w' F' st' r' zs h1 h2 h3 h4 h5=>hK w' F' st' r' zs h1 ((Mv.refl.ext (e2.trans U)).trans h2) h3 h4 h5;obtain⟨vs,hA,N⟩:=(l.ext e2).vals;unfold YE0 M.nodeB at p;by_cases a7:t.op=20
 .have B:kTy t.op=zP:=by rw[a7];rfl
  have:=a2 oM;subst this;rw[B,as_yes yH];refine oZ ?_;rw[X0 a7] at p;refine zi yP λb3 w3 a4 U a6 H=>?_;refine stKind H W0 λw4 a3=>?_;have o:Ext w2 w4:=(by grind [Ext.then]);have a9:=Q.ext o;have hv:=M.vec_ok hs a7;obtain⟨v1,v2,v3,v4⟩:=M.vok_iff.1 hv;have c9:(2:Int)^t.a.toNat<=16:=by
   have:=pow4 (k:=t.a.toNat) oM oM
   grind
  simp(disch:=exact oS) only[push_cast,a9.ld1];rw[show t.a=((t.a.toNat:Nat):Int) by omega];refine offs_spec oM λh ov E ai bw=>?_;have d:=o.trans E;have ao:∀(w':World) (K:oK),vbi .len [zf] zE [ov] w' K=K (nI t.a.toNat) w':=λw' K=>(by rw[ai.ints.len yX,M.offsL_len]);rw[ao];refine vloop_up t.a.toNat (λj u w'=>u=[nI j]/\Ext w2 w'/\OwnI zf w' ov ((M.fixB t.a t.b).take j++List.replicate (t.a.toNat-j) (-1))) ⟨rfl,d,ai⟩ ?_;rintro j _ g w6 C hj ⟨rfl,V,I⟩ hC;have z25:=d.size;have z24:=o.size;refine oZ ?_;refine zb (λbu=>?_) (λch=>?_)
  .have bj:=Q.ext V;simp(disch:=exact oS) only[push_cast,bj.ld2];rw[qI Wz (show qG0 Ji .u64 by unfold qG0;kernel_rfl),show t.b=((t.b.toNat:Nat):Int) by omega,wrapU oM];refine bit_spec oM oM ?_;have cm:((M.fixB t.a t.b).take j++List.replicate (t.a.toNat-j) (-1)).length=t.a.toNat:=by
    grind [M.fixB_len]
   refine zb (λc=>?_) (λc=>?_)
   .rw[I.ints.iaddr yN oM oM,gu];refine I.st y7 oM λw7 bz co c6=>?_;have a5:=fix_step (wd:=t.a) (nn:=t.b) (j:=j) oM;rw[X0 c] at a5;rw[a5] at bz
    try simp(disch:=omega) only[push_cast,zk]
    grind [Ext.then]
   .have a5:=fix_step (wd:=t.a) (nn:=t.b) (j:=j) oM;rw[y3 c] at a5;have au:((M.fixB t.a t.b).take j++List.replicate (t.a.toNat-j) (-1)).set j (-1)=(M.fixB t.a t.b).take j++List.replicate (t.a.toNat-j) (-1):=by
     have hl:((M.fixB t.a t.b).take j).length=j:=(by grind);rw[pM _ _ oM,hl,GW,show t.a.toNat-j=(t.a.toNat-(j+1))+1 by omega,PB,po]
    rw[au] at a5;rw[a5] at I
    try simp(disch:=omega) only[push_cast,zk]
    grind
  .have bq:j=t.a.toNat:=oM;rw[bq,GW,p0,gK,gD (by rw[M.fixB_len];omega)] at I;exact p w6 V w6 F (some gs) ov _ (q.ext V) Mv.refl (NewI.of (w:=w2) I (λb hb=>by grind) q.lt).ints SmL.fix (M.Bd.Out.ret _ _)
 rw[y3 a7] at p;by_cases a8:t.op=21
 .have B:kTy t.op=zH:=by rw[a8];rfl
  have:=a2 oM;subst this;rw[B];simp only[as_no yH yP (show zH≠zP by decide),as_yes yI,push_cast];rw[X0 a8] at p;refine zi yT λb3 w3 a4 U a6 H=>?_;refine stKind H V9 λw4 a3=>?_;have o:Ext w2 w4:=(by grind [Ext.then]);have a9:=Q.ext o;have hf:=M.name_found hs a8;have bu:=M.findD_lt ds t.s;simp(disch:=exact oS) only[push_cast,a9.ld3];refine inputs_spec (S.ext o) (az.ext o) hd hf λh r5 E ai bw=>?_;have z24:=o.size;exact p h (o.trans E) h F (some gs) r5 _ (q.ext (o.trans E)) Mv.refl (NewI.of (w:=w2) ai (λb hb=>by grind) q.lt).ints (SmL.name hd oM) (M.Bd.Out.ret _ _)
 rw[y3 a8] at p;by_cases bf:24<=t.op
 .have B:kTy t.op=zz:=by
   unfold kTy
   grind
  obtain⟨f,rfl,c1⟩:=c3 bf;rw[B];simp only[as_no yH yP (show zz≠zP by decide),as_no yI yT (show zz≠zH by decide),as_no xb xq (show zz≠zL by decide),as_no xH xW (show zz≠zT by decide),as_no xY qs (show zz≠zQ by decide),as_no qm ke (show zz≠zJ by decide),as_no ql kc (show zz≠zM by decide),as_no kI ZQ (show zz≠zI by decide),as_yes ZG,push_cast];refine zi Jw λb3 w3 a4 U a6 H=>?_;refine H.stAgg (cs':=[.string s,nI mm,f]) rfl Yn (by intro v hv;simp only[gj,gC,Gn] at hv;rcases hv with rfl|rfl|rfl<;>first|rfl|exact c1) λw4 a3 _ bh=>?_;have o:Ext w2 w4:=(by grind [Ext.then]);have a9:=Q.ext o;rw[bh.ldAgg (t:=zz) Yn,a9.ldAgg (t:=za) zc];refine ze {} Tryz.func204 ?_;refine zj λb6 w6 cf V aj ca=>?_;refine zj λb7 w7 cg bp c6 bi=>?_;have a0:Ext w2 w7:=o.trans (V.trans bp);simp(disch:=exact oS) only[push_cast,bi.ld0];have fin:∀(J:World) (F8:oA) (ak:Option M.Gs) (x:Int),BdR n bb ar ab X F8 J ak->Mv F w2 F8 J->Sm x->M.Bd.Out n (M.nodeB ds t rs) (some gs) ak [x]->vbuildS zf 1 [(0,nI x)] J K:=λJ F8 ak x h8 bv c5 c0=>by
   refine zB yD y7 yi rfl rfl λb9 w9 bk aa c7 am=>?_;have a1:OwnI zf w9 (.slice (some ⟨b9,0,none⟩) 1 1) [x]:=Blk.own1 (t:=zf) (cs:=[nI x]) (by rw[yQ];exact am) (Gf _) rfl rfl oM;exact hK w9 F8 ak _ [x] (h8.ext aa) (((Mv.refl.ext e2).trans bv).ext aa) (NewI.of (w:=J) a1 (λb hb=>by have e:b9=b:=V1 hb;omega) h8.lt).ints (SmL.one c5) c0
  unfold M.nodeB at fin;rw[y3 a7,y3 a8] at fin;by_cases c:t.op=24
  .rw[X0 c] at fin;rw[gm oM,gm oM,gm oM];refine oZ ?_;exact fin w7 F (some gs) 1 (q.ext a0) (Mv.refl.ext a0) dC (M.Bd.Out.ret _ _)
  rw[y3 c] at fin;obtain⟨ck,ay⟩:=q7 oM;have ci:1<=t.ks.length:=(by grind);have cb:=ay 0 oM;by_cases ag:t.op=25
  .rw[X0 ag] at fin;rw[gz ag];refine oZ ?_;have W:∀K:oK,ya zK kv (nI 0) w7 K=K (oE (eaddr kv 1 0)) w7:=(by grind);have Y:∀K:oK,zu zf (oE (eaddr kv 1 0)) w7 K=K (vs.getD 0 undef) w7:=(by grind);have O:Ints (Off X F) w7 (vs.getD 0 undef) (rs.getD 0 []):=(N 0 oM).ext a0;have S0:=(l.sml (i:=0) oM).get (i:=0) oM;unfold Sm at S0;simp(disch:=exact oS) only[W,Y,O.iaddr,O.load,push_cast,zk,Ga];exact fin w7 F (some gs) _ (q.ext a0) (Mv.refl.ext a0) (by unfold Sm;rw[G0];exact S0) (M.Bd.Out.ret _ _)
  rw[y3 ag] at fin;rw[gm ag];have cj:t.ks.length=2:=(by grind);have cc:=ay 1 oM;refine oZ ?_;have two:∀(J:World),Ext w2 J->(∀K:oK,ya zK kv (nI 0) J K=K (oE (eaddr kv 1 0)) J)/\(∀K:oK,zu zf (oE (eaddr kv 1 0)) J K=K (vs.getD 0 undef) J)/\(∀K:oK,ya zK kv (nI 1) J K=K (oE (eaddr kv 1 1)) J)/\(∀K:oK,zu zf (oE (eaddr kv 1 1)) J K=K (vs.getD 1 undef) J)/\Ints (Off X F) J (vs.getD 0 undef) (rs.getD 0 [])/\Ints (Off X F) J (vs.getD 1 undef) (rs.getD 1 []):=λJ e8=>
   ⟨λK=>(hA J e8 0 oM K).1,λK=>(hA J e8 0 oM K).2,λK=>(hA J e8 1 oM K).1,λK=>(hA J e8 1 oM K).2,(N 0 oM).ext e8,(N 1 oM).ext e8⟩
  have S0:=(l.sml (i:=0) oM).get (i:=0) oM;have S1:=(l.sml (i:=1) oM).get (i:=0) oM;by_cases ah:t.op=26
  .rw[X0 ah] at fin;rw[gz ah];refine oZ ?_;refine zd λJ an _=>?_;have R:=a0.trans an;have al:=S.ext R;obtain⟨W,Y,A1,B1,O,Z⟩:=two J R;simp(disch:=exact oS) only[al.ld0,W,Y,A1,B1,O.iaddr,O.load,Z.iaddr,Z.load,push_cast,k5];refine qU (q.ext R) S0 S1 λw9 F9 aw x h9 ap av a1=>fin w9 F9 aw x h9 ((Mv.refl.ext R).trans ap) av ?_;exact xI a1 (M.Bd.Out.ret _ _)
  rw[y3 ah,X0 oM] at fin;rw[gm ah,gz (show t.op=27 by omega)];refine oZ ?_;refine zd λJ an _=>?_;have R:=a0.trans an;have al:=S.ext R;obtain⟨W,Y,A1,B1,O,Z⟩:=two J R;simp(disch:=exact oS) only[al.ld0,W,Y,A1,B1,O.iaddr,O.load,Z.iaddr,Z.load,push_cast,k5];exact bor_spec (q.ext R) S0 S1 λw9 F9 aw x h9 ap av a1=>fin w9 F9 aw x h9 ((Mv.refl.ext R).trans ap) av (M.Bd.Out.map _ a1)
 rw[y3 oM,y3 oM,y3 oM,y3 oM] at p;by_cases af:t.op=23
 .have B:kTy t.op=zT:=by rw[af];rfl
  have:=a2 oM;subst this;obtain⟨k1,l0,l1,l2,l3⟩:=q6 af;rw[B];simp only[as_no yH yP (show zT≠zP by decide),as_no yI yT (show zT≠zH by decide),as_no xb xq (show zT≠zL by decide),as_yes xH,push_cast];rw[X0 af] at p;refine zi xW λb3 w3 a4 U a6 H=>?_;refine stKind H UU λw4 a3=>?_;have o:Ext w2 w4:=(by grind [Ext.then]);refine zd λh E _=>?_;have d:=o.trans E;have A:=Q.ext d;have T:=S.ext d;have D:=q.ext d;have W:∀K:oK,ya zK kv (nI 0) h K=K (oE (eaddr kv 1 0)) h:=(by grind);have Y:∀K:oK,zu zf (oE (eaddr kv 1 0)) h K=K (vs.getD 0 undef) h:=(by grind);have O:Ints (Off X F) h (vs.getD 0 undef) (rs.getD 0 []):=(N 0 oM).ext d;have S0:=l.sml (i:=0) oM;have A1:∀K:oK,ya zK kv (nI 1) h K=K (oE (eaddr kv 1 1)) h:=(by grind);have B1:∀K:oK,zu zf (oE (eaddr kv 1 1)) h K=K (vs.getD 1 undef) h:=(by grind);have Z:Ints (Off X F) h (vs.getD 1 undef) (rs.getD 1 []):=(N 1 oM).ext d;have S1:=l.sml (i:=1) oM;have A2:∀K:oK,ya zK kv (nI 2) h K=K (oE (eaddr kv 1 2)) h:=(by grind);have B2:∀K:oK,zu zf (oE (eaddr kv 1 2)) h K=K (vs.getD 2 undef) h:=(by grind);have V2:Ints (Off X F) h (vs.getD 2 undef) (rs.getD 2 []):=(N 2 oM).ext d;have S2:=l.sml (i:=2) oM;simp(disch:=exact oS) only[T.ld0,A.ld0,A.ld1,A.ld2,W,Y,O.iaddr,O.load,A1,B1,Z.iaddr,Z.load,A2,B2,V2.iaddr,V2.load,push_cast,zk,k5];exact choose_spec D ⟨gs,rfl⟩ Z V2 l1 oM S1 S2 (S0.get oM) λw6 F6 ad r6 zs h6 ac aq aj I=>p h d w6 F6 ad r6 zs h6 ac aq aj I
 rw[y3 af] at p;by_cases ae:t.op=22
 .have B:kTy t.op=zL:=by rw[ae];rfl
  have:=a2 oM;subst this;obtain⟨k1,l0,l1,l2,l3⟩:=q5 ae;rw[B];simp only[as_no yH yP (show zL≠zP by decide),as_no yI yT (show zL≠zH by decide),as_yes xb,push_cast];rw[X0 ae] at p;refine zi xq λb3 w3 a4 U a6 H=>?_;refine stKind H W1 λw4 a3=>?_;have o:Ext w2 w4:=(by grind [Ext.then]);refine zd λh E _=>?_;have d:=o.trans E;have A:=Q.ext d;have T:=S.ext d;have D:=q.ext d;have W:∀K:oK,ya zK kv (nI 0) h K=K (oE (eaddr kv 1 0)) h:=(by grind);have Y:∀K:oK,zu zf (oE (eaddr kv 1 0)) h K=K (vs.getD 0 undef) h:=(by grind);have O:Ints (Off X F) h (vs.getD 0 undef) (rs.getD 0 []):=(N 0 oM).ext d;have S0:=l.sml (i:=0) oM;simp(disch:=exact oS) only[T.ld0,A.ld0,A.ld1,A.ld2,W,Y,O.iaddr,O.load,push_cast,zk,k5];rw[show t.b=((t.b.toNat:Nat):Int) by omega,show t.a+1=((t.a.toNat+1:Nat):Int) by omega];refine Ints.cutLH O yN oM oM λcv bm=>⟨rfl,?_⟩;refine Clone_signal bm (by grind) λw6 r6 V I bx=>?_;refine p h d w6 F (some gs) r6 _ (D.ext V) (Mv.refl.ext V) (NewI.of (w:=h) I bx D.lt).ints (λx hx=>S0 x (GY (gU hx))) ?_;rw[show t.a.toNat+1-t.b.toNat=(t.a-t.b+1).toNat by omega];exact M.Bd.Out.ret _ _
 rw[y3 ae] at p;by_cases c2:t.op<=2
 .have B:kTy t.op=zQ:=by unfold kTy;grind
  have:=a2 oM;subst this;obtain⟨k1,l0,l1⟩:=q1 oM c2;rw[B];simp only[as_no yH yP (show zQ≠zP by decide),as_no yI yT (show zQ≠zH by decide),as_no xb xq (show zQ≠zL by decide),as_no xH xW (show zQ≠zT by decide),as_yes xY,push_cast];rw[X0 c2] at p;refine zi qs λb3 w3 a4 U a6 H=>?_;refine stKind H UT λw4 a3=>?_;have o:Ext w2 w4:=Ext.then U a3 λy hy=>by subst hy;omega
  refine zd λh E _=>?_;have d:=o.trans E;have A:=Q.ext d;have T:=S.ext d;have D:=q.ext d;have W:∀K:oK,ya zK kv (nI 0) h K=K (oE (eaddr kv 1 0)) h:=(by grind);have Y:∀K:oK,zu zf (oE (eaddr kv 1 0)) h K=K (vs.getD 0 undef) h:=(by grind);have O:Ints (Off X F) h (vs.getD 0 undef) (rs.getD 0 []):=(N 0 oM).ext d;have S0:=l.sml (i:=0) oM;simp(disch:=exact oS) only[T.ld0,A.ld0,A.ld1,A.ld2,W,Y,O.iaddr,O.load,push_cast,zk,k5]
  grind [un_spec]
 rw[y3 c2] at p;by_cases ax:15<=t.op
 .have B:kTy t.op=zI:=(by grind [kTy]);have:=a2 oM;subst this;obtain⟨k1,l0,l1,l2⟩:=q4 ax oM;rw[B];simp only[as_no yH yP (show zI≠zP by decide),as_no yI yT (show zI≠zH by decide),as_no xb xq (show zI≠zL by decide),as_no xH xW (show zI≠zT by decide),as_no xY qs (show zI≠zQ by decide),as_no qm ke (show zI≠zJ by decide),as_no ql kc (show zI≠zM by decide),as_yes kI,push_cast];rw[X0 oM] at p;refine zi ZQ λb3 w3 a4 U a6 H=>?_;refine stKind H W2 λw4 a3=>?_;have o:Ext w2 w4:=(by grind [Ext.then]);refine zd λh E _=>?_;have d:=o.trans E;have A:=Q.ext d;have T:=S.ext d;have D:=q.ext d;have W:∀K:oK,ya zK kv (nI 0) h K=K (oE (eaddr kv 1 0)) h:=(by grind);have Y:∀K:oK,zu zf (oE (eaddr kv 1 0)) h K=K (vs.getD 0 undef) h:=(by grind);have O:Ints (Off X F) h (vs.getD 0 undef) (rs.getD 0 []):=(N 0 oM).ext d;have S0:=l.sml (i:=0) oM;have A1:∀K:oK,ya zK kv (nI 1) h K=K (oE (eaddr kv 1 1)) h:=(by grind);have B1:∀K:oK,zu zf (oE (eaddr kv 1 1)) h K=K (vs.getD 1 undef) h:=(by grind);have Z:Ints (Off X F) h (vs.getD 1 undef) (rs.getD 1 []):=(N 1 oM).ext d;have S1:=l.sml (i:=1) oM;simp(disch:=exact oS) only[T.ld0,A.ld0,A.ld1,A.ld2,W,Y,O.iaddr,O.load,A1,B1,Z.iaddr,Z.load,push_cast,zk,k5];refine compare_spec D ⟨gs,rfl⟩ ax oM O Z l0 l1 oM S0 S1 λw6 F6 ad x h6 ac c4 I=>?_;refine zB yD y7 yi rfl rfl λb9 w9 bk aa c7 am=>?_;have a1:OwnI zf w9 (.slice (some ⟨b9,0,none⟩) 1 1) [x]:=Blk.own1 (t:=zf) (cs:=[nI x]) (by rw[yQ];exact am) (Gf _) rfl rfl oM;exact p h d w9 F6 ad _ [x] (h6.ext aa) (ac.ext aa) (NewI.of (w:=w6) a1 (λb hb=>by have e:b9=b:=V1 hb;omega) h6.lt).ints (SmL.one c4) (M.Bd.Out.map _ I)
 rw[y3 oM] at p;have b2:kTy t.op=zJ\/kTy t.op=zM:=by
  grind [kTy]
 have:=a2 oM;subst this;have bt:t.ks.length=2/\(t.op≠14->(rs.getD 0 []).length=(rs.getD 1 []).length)/\(t.op=14->(rs.getD 0 []).length+(rs.getD 1 []).length<=4)/\1<=(rs.getD 0 []).length/\(rs.getD 0 []).length<=4:=by
  grind
 obtain⟨k1,l0,l1,l2,l3⟩:=bt;have go:ZK w2 λz=>zu yJ (oP bl 0) z λt107 b5=>b5=z/\zu zE (oP b1 0) z λt109 b8=>b8=z/\
   ya zK kv (nI 0) z λt111 ba=>ba=z/\zu zf t111 z λt112 bc=>bc=z/\ya zK kv (nI 1) z λt114 bd=>bd=z/\
   zu zf t114 z λt115 be=>be=z/\vcall kU #[t107,t109,t112,t115] z K:=by
  refine zd λh E _=>?_;have d:=E;have A:=Q.ext d;have T:=S.ext d;have D:=q.ext d;have W:∀K:oK,ya zK kv (nI 0) h K=K (oE (eaddr kv 1 0)) h:=(by grind);have Y:∀K:oK,zu zf (oE (eaddr kv 1 0)) h K=K (vs.getD 0 undef) h:=(by grind);have O:Ints (Off X F) h (vs.getD 0 undef) (rs.getD 0 []):=(N 0 oM).ext d;have S0:=l.sml (i:=0) oM;have A1:∀K:oK,ya zK kv (nI 1) h K=K (oE (eaddr kv 1 1)) h:=(by grind);have B1:∀K:oK,zu zf (oE (eaddr kv 1 1)) h K=K (vs.getD 1 undef) h:=(by grind);have Z:Ints (Off X F) h (vs.getD 1 undef) (rs.getD 1 []):=(N 1 oM).ext d;have S1:=l.sml (i:=1) oM;simp(disch:=exact oS) only[T.ld0,A.ld0,W,Y,A1,B1,push_cast,k5];exact bin_spec D ⟨gs,rfl⟩ oM oM O Z l0 l1 l2 oM S0 S1 λw6 F6 ad r6 zs h6 ac aq aj I=>p h d w6 F6 ad r6 zs h6 ac aq aj I
 rcases b2 with B|B
 .rw[B];simp only[as_no yH yP (show zJ≠zP by decide),as_no yI yT (show zJ≠zH by decide),as_no xb xq (show zJ≠zL by decide),as_no xH xW (show zJ≠zT by decide),as_no xY qs (show zJ≠zQ by decide),as_no ql kc (show zJ≠zM by decide),as_yes qm,push_cast];exact go
 .rw[B];simp only[as_no yH yP (show zM≠zP by decide),as_no yI yT (show zM≠zH by decide),as_no xb xq (show zM≠zL by decide),as_no xH xW (show zM≠zT by decide),as_no xY qs (show zM≠zQ by decide),as_no qm ke (show zM≠zJ by decide),as_yes ql,push_cast];exact go
end
end
section
variable {w:World} {K:oK} {F F' Q X:oA} {n bl bc mb bb kb m:Nat} {gs:M.Gs} {v dv:Value} {ar ab:Addr} {st:Option M.Gs} {ds:List M.Dcl}
def TOut {α:Type} (n:Nat) (p:M.Bd α) (st st':Option M.Gs) (a:α):Prop:=
 (∃gs gs',st=some gs/\st'=some gs'/\p.run n gs=some (gs',a))\/(st'=none/\∀gs,st=some gs->p.run n gs=none)
theorem Out.pre' {α:Type} {p:M.Bd α} {st st':Option M.Gs} {a:α} (h:M.Bd.Out n p st st' a):∀gs',st'=some gs'->∃gs,st=some gs/\gs<+:gs':=λgs' e=>by
 cases st with
 |none=>rw[h.1] at e;cases e
 |some gs=>
  rcases h with⟨g2,c,b⟩|⟨_,b,_⟩
  .rw[b] at e;cases e;exact⟨gs,rfl,M.Bd.run_pre c⟩
  .rw[b] at e;cases e
theorem WU (ps:List (M.Bd (oI))) (p:M.Bd (oI)):∀(gs:M.Gs),(M.seqB (ps++[p])).run n gs=((M.seqB ps).run n gs).bind λr=>(p.run n r.1).map λq=>(q.1,r.2++[q.2]):=by
 induction ps with
 |nil=>
  intro gs;show((p.bind λr=>(M.Bd.ret []:M.Bd (List (oI))).map (r:: ·))).run n gs=_;rw[M.Bd.run_bind];show _=(p.run n gs).map _;cases p.run n gs<;>rfl
 |cons q ps c=>
  intro gs;show(q.bind λr=>(M.seqB (ps++[p])).map (r:: ·)).run n gs=((q.bind λr=>(M.seqB ps).map (r:: ·)).run n gs).bind _;rw[M.Bd.run_bind,M.Bd.run_bind];cases q.run n gs with
  |none=>rfl
  |some a=>
   show((M.seqB (ps++[p])).bind λx=>M.Bd.ret (a.2::x)).run n a.1=(((M.seqB ps).bind λx=>M.Bd.ret (a.2::x)).run n a.1).bind _;rw[M.Bd.run_bind,M.Bd.run_bind,c];cases (M.seqB ps).run n a.1 with
   |none=>rfl
   |some b=>
    show((p.run n b.1).map _).bind _=(p.run n b.1).map _;cases p.run n b.1<;>rfl
theorem TOut.snoc {ps:List (M.Bd (oI))} {p:M.Bd (oI)} {st a st2:Option M.Gs} {rs:List (oI)} {r:oI} (h:TOut n (M.seqB ps) st a rs) (d:TOut n p a st2 r):TOut n (M.seqB (ps++[p])) st st2 (rs++[r]):=by
 rcases h with⟨g0,g1,b,a2,a3⟩|⟨b,a2⟩
 .rcases d with⟨c,g2,b1,b2,b3⟩|⟨b1,b2⟩
  .rw[a2] at b1;cases b1;exact .inl ⟨g0,g2,b,b2,by rw[WU,a3];show(p.run n g1).map _=_;rw[b3];rfl⟩
  .refine .inr ⟨b1,λgs e=>?_⟩;rw[b] at e;cases e;rw[WU,a3];show(p.run n g1).map _=_;rw[b2 g1 a2];rfl
 .rcases d with⟨c,g2,b1,b2,b3⟩|⟨b1,b2⟩
  .rw[b] at b1;cases b1
  .exact .inr ⟨b1,λgs e=>by rw[WU,a2 gs e];rfl⟩
theorem TOut.root {t:M.Tm} {st a st2:Option M.Gs} {rs:List (oI)} {zs:oI} (h:TOut n (M.seqB (t.ks.map (M.termB ds))) st a rs):(∀b,a=some b->M.Bd.Out n (M.nodeB ds t rs) (some b) st2 zs)->(a=none->st2=none)->TOut n (M.termB ds t) st st2 zs:=λd f=>by
 rcases h with⟨g0,g1,c,a2,a3⟩|⟨c,a2⟩
 .rcases d g1 a2 with⟨g2,b1,b2⟩|⟨b1,b2,_⟩
  .exact .inl ⟨g0,g2,c,b2,by rw[M.termB_eq,M.Bd.run_bind,a3];exact b1⟩
  .refine .inr ⟨b2,λgs e=>?_⟩;rw[c] at e;cases e;rw[M.termB_eq,M.Bd.run_bind,a3];exact b1
 .exact .inr ⟨f c,λgs e=>by rw[M.termB_eq,M.Bd.run_bind,a2 gs e];rfl⟩
def P1 (m:Nat) (F:oA) (b:Nat):Prop:=F b\/b=m
theorem Mv.p1 {w':World} (h:Mv F w F' w'):Mv (P1 m F) w (P1 m F') w':=
 ⟨h.same.mono λ_ _ h=> .inl h,λb a=>a.elim (λa=>(h.new b a).imp .inl id) λa=> .inl (.inr a)⟩
theorem Sl.mvX {k:Nat} {v:Value} {xs:List (List Value)} {w':World} (h:Sl (Off X F) w k v xs) (d:X m) (hm:Mv (P1 m F) w (P1 m F') w'):Sl (Off X F') w' k v xs:=by
 have f:Sl (λb=>Off X F b/\b<w.heap.size) w k v xs:=h.weaken λb a j=>⟨a,j⟩;have g:=f.same hm.same λb a _ c=>c.elim a.1.1 λe=>a.1.2 (e▸d);exact g.weaken λb a _=>⟨λi=>hm.off (λc=>c.elim a.1.1 λe=>a.1.2 (e▸d)) a.2 (.inl i),a.1.2⟩
def MetR (n:Nat) (ds:List M.Dcl) (m:Nat) (X F:oA) (w:World) (st:Option M.Gs):Prop:=
 ∃f,MapF .string w m f/\∀p,p∈f->∃(u:M.Tm) (s:ByteArray) (v:Value) (zs:oI),p=(.string s,v)/\s.data.toList=M.textL u/\M.sortM ds u≠ -1/\Ints (Off X F) w v zs/\SmL zs/\∀gs,st=some gs->(M.termB ds u).run n gs=some (gs,zs)
structure BlR (n bl bb kb m:Nat) (ar ab:Addr) (ds:List M.Dcl) (dv:Value) (X F:oA) (w:World) (st:Option M.Gs):Prop where
 bd:BdR n bb ar ab X F w st
 blk:Blk w bl [oP bb 0,dv,.map (some kb),.map (some m)] yo
 off: ¬F bl/\¬F m/\¬F kb/\bl≠m/\kb≠m
 ext:X m
 dcl:DclsR (Off X F) w dv ds
 kin:KindsR w kb
 met:MetR n ds m X F w st
theorem KindsR.same {w':World} {S:oA} (h:KindsR w kb) (hs:Same S w w') (c: ¬S kb):KindsR w' kb:=by
 obtain⟨f,a,b⟩:=h;exact⟨f,a.same hs c,b⟩
theorem KindsR.lt (h:KindsR w kb):kb<w.heap.size:=by obtain⟨f,a,b⟩:=h;exact a.lt
theorem MetR.lt (h:MetR n ds m X F w st):m<w.heap.size:=by obtain⟨f,a,b⟩:=h;exact a.lt
theorem BlR.step {w':World} {st':Option M.Gs} (h:BlR n bl bb kb m ar ab ds dv X F w st) (o:BdR n bb ar ab X F' w' st') (hm:Mv F w F' w') (r:∀gs',st'=some gs'->∃gs,st=some gs/\gs<+:gs'):BlR n bl bb kb m ar ab ds dv X F' w' st':=by
 obtain⟨c,d,g,t,x⟩:=h.off;refine⟨o,h.blk.same hm.same c,⟨hm.off c h.blk.lt,hm.off d h.met.lt,hm.off g h.kin.lt,t,x⟩,h.ext,Sl.mvX h.dcl h.ext hm.p1,h.kin.same hm.same g,?_⟩;obtain⟨f,q,a⟩:=h.met;refine⟨f,q.same hm.same d,λp b=>?_⟩;obtain⟨u,s,v,zs,i,a2,a3,a4,a5,j⟩:=a p b;refine⟨u,s,v,zs,i,a2,a3,Sl.mvX a4 h.ext hm.p1,a5,λgs' e=>?_⟩;obtain⟨gs,k,l⟩:=r gs' e;exact M.Bd.run_again (j gs k) l
theorem BlR.grow {w':World} (h:BlR n bl bb kb m ar ab ds dv X F w st) (he:Ext w w'):BlR n bl bb kb m ar ab ds dv X F w' st:=h.step (h.bd.ext he) (Mv.refl.ext he) λgs e=>⟨gs,e,Pq _⟩
theorem BlR.swap {w0 w':World} {t r S Y:oA} {o:Option M.Gs} (h:BlR n bl bb kb m ar ab ds dv X F w st) (e:BlR n bl bb kb m ar ab ds dv t r w0 o) (hw:Same S w w') (i:∀b,S b->X b/\w0.heap.size<=b/\¬F b)
  (q:∀b,Y b->b<w'.heap.size/\(b<w.heap.size->X b)) (hm:Y m):BlR n bl bb kb m ar ab ds dv Y F w' st:=by
 have key:∀b,b<w0.heap.size->¬S b:=λb a hs=>by have:=(i b hs).2.1;omega
 have a:=h.bd.upd e.bd.err hw λb a=>(i b a).2;have d:∀b,Off X F b->b<w.heap.size->¬S b:=λb a _ hs=>a.2 (i b hs).1;have cut:∀b,(Off X F b/\b<w.heap.size)->Off Y F b:=λb a=>⟨a.1.1,λA=>a.1.2 ((q b A).2 a.2)⟩;refine⟨⟨a.err,a.blk,a.foot,λb j=>j.elim (λh=>a.lt b (.inl h)) λh=>(q b h).1⟩,h.blk.same hw (key _ e.blk.lt),h.off,hm,?_,h.kin.same hw (key _ e.kin.lt),?_⟩
 .have g:DclsR (λb=>Off X F b/\b<w.heap.size) w dv ds:=Sl.weaken h.dcl λb a c=>⟨a,c⟩;exact Sl.weaken (Sl.same g hw λb a c=>d b a.1 c) λb a _=>cut b a
 .obtain⟨f,z,k⟩:=h.met;refine⟨f,z.same hw (key _ e.met.lt),λp l=>?_⟩;obtain⟨u,s,v,zs,x,a2,a3,a4,a5,y⟩:=k p l;have g:Ints (λb=>Off X F b/\b<w.heap.size) w v zs:=Ints.weaken a4 λb a c=>⟨a,c⟩;exact⟨u,s,v,zs,x,a2,a3,Ints.weaken (Ints.same g hw λb a c=>d b a.1 c) λb a _=>cut b a,a5,y⟩
theorem Ints.swap {w':World} {S Y:oA} {r:Value} {zs:oI} (h:Ints (Off X F) w r zs) (hw:Same S w w') (d:∀b,S b->X b) (e:∀b,Y b->b<w.heap.size->X b):Ints (Off Y F) w' r zs:=by
 have c:Ints (λb=>Off X F b/\b<w.heap.size) w r zs:=Ints.weaken h λb a f=>⟨a,f⟩;exact Ints.weaken (Ints.same c hw λb a _ hs=>a.1.2 (d b hs)) λb a _=>⟨a.1.1,λg=>a.1.2 (e b g a.2)⟩
theorem Qi:Z20 yS .string zf:=⟨_,jB,rK⟩
theorem BlR.put {s:ByteArray} {t:M.Tm} {r:Value} {zs:oI} (h:BlR n bl bb kb m ar ab ds dv X F w st) (hs:s.data.toList=M.textL t) (S:M.sortM ds t≠ -1) (hi:Ints (Off X F) w r zs) (z:SmL zs)
  (l:∀gs,st=some gs->(M.termB ds t).run n gs=some (gs,zs)) (N:∀w',BlR n bl bb kb m ar ab ds dv X F w' st->Same (· =m) w w'->K undef w'):zC0 yS (.map (some m)) (.string s) r w K:=by
 obtain⟨o1,D,o3,U,V⟩:=h.off;obtain⟨f,C,R⟩:=h.met;refine qV0 Qi C (Qn s) λw' H q o hw T=>N w' ?_ hw;obtain⟨es,cl,x,_⟩:=C;have i:∀(a:Addr),(∃v,w.cell? a=some v)->a.block≠m:=λa ⟨v,O⟩ e=>by
  simp[World.cell?,e,x] at O
 have d:∀{g:Nat} {a:Addr},Sent w g a->g≠m:=λy=>i _ ⟨_,y.cell⟩;have he:=h.bd.err;have W:=d he.room;have Y:=d he.bits;have c:∀b,Off X F b->b<w.heap.size->¬(b=m):=λb k _ e=>k.2 (e▸h.ext);obtain⟨bc,J,L⟩:=h.bd.blk;refine⟨⟨⟨he.room.same hw W,he.bits.same hw Y,he.off⟩,⟨bc,J.same hw λe=>D (e▸h.bd.foot),λgs e=>?_⟩,h.bd.foot,λb k=>by rw[T];exact h.bd.lt b k⟩,h.blk.same hw U,h.off,h.ext,Sl.same h.dcl hw c,h.kin.same hw V,H,q,λp j=>?_⟩
 .obtain⟨v,mb,Q,I,B⟩:=L gs e;exact⟨v,mb,Q.same hw λb k e=>D (e▸B b k),I,B⟩
 .rcases o p j with rfl|j
  .exact⟨t,s,r,zs,rfl,hs,S,Ints.same hi hw c,z,l⟩
  .obtain⟨u,Z,v,A,E,a2,a3,a4,a5,G⟩:=R p j;exact⟨u,Z,v,A,E,a2,a3,Ints.same a4 hw c,a5,G⟩
structure KidsB (n bl bb kb m:Nat) (ar ab:Addr) (ds:List M.Dcl) (dv:Value) (t:M.Tm) (X F:oA) (w:World) (st:Option M.Gs) (i:Nat) (v:Value) (w':World):Prop where
 ex:∃(F1:oA) (st1:Option M.Gs) (vs:List Value) (rs:List (oI)),BlR n bl bb kb m ar ab ds dv (λb=>X b\/v.ownBlock=some b) F1 w' st1/\Mv (P1 m F) w (P1 m F1) w'/\OwnV zK w' v vs/\(∀b,v.ownBlock=some b->w.heap.size<=b/\¬F1 b)/\
  vs.length=i/\rs.length=i/\(∀j,j<i->Ints (Off (λb=>X b\/v.ownBlock=some b) F1) w' (vs.getD j undef) (rs.getD j []))/\(∀r,r∈rs->SmL r)/\TOut n (M.seqB ((t.ks.take i).map (M.termB ds))) st st1 rs
theorem K5 {α:Type} {l r:List α} {d:α} {i:Nat} (h:i<l.length):(l++r).getD i d=l.getD i d:=by
 rw[y4,Gb h,<-y4]
theorem K6 {α:Type} {l:List α} {x d:α} {i:Nat} (h:l.length=i):(l++[x]).getD i d=x:=by
 subst h;simp[y4]
theorem TOut.nil:TOut n (M.seqB []) st st []:=by
 cases st with
 |none=>exact .inr ⟨rfl,λgs e=>by cases e⟩
 |some gs=>exact .inl ⟨gs,gs,rfl,rfl,rfl⟩
theorem term_spec (hd:M.declOk ds=true):∀(t:M.Tm),M.sortM ds t≠ -1->M.sizeM t<=1000->∀{w:World} {K:oK} {X F:oA} {st:Option M.Gs} {tv:Value},BlR n bl bb kb m ar ab ds dv X F w st->TermR (Off X F) w tv t->
  (∀w' F' st' r zs,BlR n bl bb kb m ar ab ds dv X F' w' st'->Mv (P1 m F) w (P1 m F') w'->Ints (Off X F') w' r zs->SmL zs->TOut n (M.termB ds t) st st' zs->K r w')->
  vcall Xx #[oP bl 0,tv] w K:=by
 refine M.Tm.ind λt ih hs br w K X F st tv d ht hK=>?_;obtain⟨kv,rfl,bn⟩:=ht;refine ze {loops:=[(7,[8,32])]} Tryz.func89 ?_;refine zj λb1 w1 c5 bk c8 b8=>?_;refine zd λw2 an _=>?_;have e2:=bk.trans an;have ad:=d.grow e2;have ai:=b8.ext an;have Z:=bn.ext e2;simp(disch:=exact oS) only[push_cast,ad.blk.ld2,ai.ldAgg (t:=za) zc,k5];refine textOf_spec hd t hs br ad.kin ⟨kv,rfl,Z⟩ λQ s R b0=>?_;have e3:=e2.trans R;have k:=ad.grow R;have aj:=ai.ext R;have a0:=Z.ext R;simp(disch:=exact oS) only[push_cast,k.blk.ld3];obtain⟨f,O,bm⟩:=k.met;by_cases H:∃v,(Value.string s,v)∈f
 .obtain⟨v,H⟩:=H;rw[XN Qi O (Qn s) H];simp only[push_cast,if_true];obtain⟨u,s',v',zs,e,a2,a3,a4,a5,a6⟩:=bm _ H;cases e;have:=M.text_inj hd hs a3 (b0.symm.trans a2);subst this;refine hK Q F st v zs k (Mv.refl.ext e3) a4 a5 ?_;cases st with
  |none=>exact .inr ⟨rfl,λgs e=>by cases e⟩
  |some gs=>exact .inl ⟨gs,gs,rfl,rfl,a6 gs rfl⟩
 rw[zD0 Qi qH O (Qn s) λv hv=>H ⟨v,hv⟩];simp(disch:=exact oS) only[push_cast,if_true,aj.ld4,a0.len];have c7:t.ks.length<=3:=by
  obtain⟨c4,hp,ho⟩:=M.right_op hs;have h:M.arity t.op<=3:=by
   unfold M.arity;repeat' split
   all_goals omega
  omega
 have S:∀b,(X b\/(oN).ownBlock=some b)->b<Q.heap.size/\(b<Q.heap.size->X b):=λb d=>d.elim (λh=>⟨k.bd.lt b (.inr h),λ_=>h⟩) λh=>by cases h
 have ak:=k.swap (Y:=λb=>X b\/(oN).ownBlock=some b) k (Same.refl (λ_=>False) Q) (λb d=>d.elim) S (.inl k.ext);have be:TmsR (λb=>Off X F b/\b<Q.heap.size) Q kv t.ks:=a0.weaken λb d hl=>⟨d,hl⟩;refine vloop_up t.ks.length (λi u w'=> ∃v,u=[v,nI i]/\KidsB n bl bb kb m ar ab ds dv t X F Q st i v w') ⟨_,rfl,⟨F,st,[],[],ak,Mv.refl,OwnV.nil,(λb d=>by cases d),rfl,rfl,λj W=>absurd W oM,(λr hr=>by cases hr),TOut.nil⟩⟩ ?_;rintro i _ g w4 C hi ⟨v,rfl,⟨F4,bv,vs,rs,l,A,af,E,b3,ax,hint,az,L⟩⟩ hC;refine oZ ?_;have l4:=A.same.size;have I:TmsR (λb=>Off X F b/\b<Q.heap.size) w4 kv t.ks:=be.same A.same λb d _ hp=>hp.elim d.1.1 λe=>d.1.2 (e▸k.ext);have bf:∀b,(Off X F b/\b<Q.heap.size)->Off (λb=>X b\/v.ownBlock=some b) F4 b:=λb d=>⟨λO=>A.off (λhp=>hp.elim d.1.1 λe=>d.1.2 (e▸k.ext)) d.2 (.inl O),λhx=>hx.elim d.1.2 λho=>by have:=(E b ho).1;omega⟩;refine zb (λa=>?_) (λa=>?_)
 .have p:i<t.ks.length:=oM;simp(disch:=exact oS) only[push_cast,I.iaddr];refine I.load zc p λx hx=>?_;obtain⟨cx,rfl,ae⟩:=hx.cells;refine zi zr λb7 w7 c6 ao c9 b9=>?_;refine stTerm b9 rfl (ae.ext ao) λw8 bt ca ba=>?_;have D:Ext w4 w8:=Ext.then ao bt λy hy=>by subst hy;omega
  have v8:=ae.ext D;simp only[push_cast,ba.ldAgg (t:=za) (by rw[zV ae];exact zc)];have B:t.ks.getD i default∈t.ks:=M.getD_mem p _;have bq:M.sizeM (t.ks.getD i default)<=1000:=by
   have h1:=M.szT_succ p;have h2:=M.szT_mono (ks:=t.ks) (i:=i+1) (j:=t.ks.length) p (gr _);have h3:=M.szT_all t;omega
  have bj:=l.grow D;refine ih _ B ((M.sort_parts hs).2.1 _ B) bq bj (v8.term.weaken λb d _=>bf b d) λw9 F9 bw r zs am J ag bu bs=>?_;refine zB ZX jh qH rfl (Sl.cells1 ag) λc0 w10 bx o bz ah=>?_;have cb:=D.size;have l9:=J.same.size;have b2:∀b,v.ownBlock=some b->¬P1 m F4 b:=λb d hp=>hp.elim (E b d).2 λe=>by have:=(E b d).1;have:=k.met.lt;omega
  have av:OwnV zK w10 v vs:=((af.ext D).same J.same b2).ext o;refine av.app1 KZ ah (Sl.one ag) oM oM λv11 cc a9 z a7=>?_
  try simp(disch:=omega) only[push_cast,zk]
  have a8:∀b,v.ownBlock=some b->¬F9 b:=λb d O=>J.off (b2 b d) (by have:=af.lt d;omega) (.inl O);have G:∀b,(X b\/v11.ownBlock=some b)->b<w10.heap.size->(X b\/v.ownBlock=some b):=λb d hl=>d.elim .inl λh=>(a7 b h).elim .inr λh2=>oM;have T:∀j,j<i->Ints (Off (λb=>X b\/v.ownBlock=some b) F9) w10 (vs.getD j undef) (rs.getD j []):=λj W=>Ints.ext (Sl.mvX (Ints.ext (hint j W) D) (.inl d.ext) J) o;refine hC p _ _ ⟨v11,by simp,⟨F9,bw,vs++[r],rs++[zs],(am.grow o).swap k z (λb d=>⟨.inr d,(E b d).1,a8 b d⟩) (λb d=>⟨?_,G b d⟩) (.inl d.ext),(((A.ext D).trans J).ext o).to z λb d=> .inr (E b d).1,a9,λb d=>?_,by simp[b3],by simp[ax],λj W=>?_,λq hq=>?_,?_⟩⟩
  .rcases d with h|h
   .have:=l.bd.lt b (.inr (.inl h));have:=o.size;have:=z.size;omega
   .exact a9.lt h
  .rcases a7 b d with h|h
   .exact⟨(E b h).1,a8 b h⟩
   .have:=o.size;exact⟨oM,λO=>by have:=am.bd.lt b (.inl O);omega⟩
  .by_cases c:j<i
   .rw[K5 oM,K5 oM];exact Ints.swap (T j c) z (λb d=> .inr d) G
   .have:j=i:=oM;subst this;rw[K6 b3,K6 ax];exact Ints.swap (Ints.ext ag o) z (λb d=> .inr d) G
  .rcases gl.1 hq with h|h
   .exact az q h
   .rw[gx.1 h];exact bu
  .rw[M.take_add p default,gE];exact L.snoc bs
 .have p:i=t.ks.length:=oM;subst p;rw[gA] at L;obtain⟨bc,hB,c3⟩:=l.bd.blk;have back:∀{F5:oA} {w5:World} {N:Option M.Gs},BlR n bl bb kb m ar ab ds dv (λb=>X b\/v.ownBlock=some b) F5 w5 N->BlR n bl bb kb m ar ab ds dv X F5 w5 N:=λh=>h.swap h (Same.refl (λ_=>False) _) (λb d=>d.elim) (λb d=>⟨h.bd.lt b (.inr (.inl d)),λ_=> .inl d⟩) k.ext;have m3:Mv (P1 m F) w (P1 m F) Q:=Mv.refl.ext e3;cases bv with
  |none=>
   simp only at hB;simp(disch:=exact oS) only[push_cast,l.blk.ld0,hB.ld1,zl0];have au:Ints (Off X F4) w4 (oN) []:=Ints.weaken (OwnI.nil (t:=zf)).ints λb d _=>(by cases d);exact hK w4 F4 none _ [] (back l) (m3.trans A) au SmL.nil (TOut.root (st2:=none) L (λb6 e=>by cases e) λ_=>rfl)
  |some c2=>
   simp only at hB;simp(disch:=exact oS) only[push_cast,l.blk.ld0,hB.ld1,Xn];have bg:=aj.same A.same λhp=>hp.elim (λO=>by have:=d.bd.lt _ (.inl O);omega) λe=>by have:=d.met.lt;omega
   simp(disch:=exact oS) only[push_cast,bg.ldAgg (t:=za) zc];have U:(M.seqB (t.ks.map (M.termB ds))).Reach rs:=by
    rcases L with⟨c1,g1,a1,a2,a3⟩|⟨a1,_⟩
    .exact M.Bd.reach_of_run a3
    .cases a1
   obtain⟨ay,bp⟩:=M.seq_reach U;refine root_spec l.bd hd hs l.blk l.dcl l.kin ⟨kv,rfl,I⟩ ⟨⟨vs,af.vals,oM,λj W=>hint j oM⟩,az⟩ ay (λj W=>?_) λw5 F5 N r zs bh ap bo b5 aw=>?_
   .have B:t.ks.getD j default∈t.ks:=M.getD_mem W _;have:=M.term_len hd _ ((M.sort_parts hs).2.1 _ B) (bp j W);rw[this];rfl
   have al:=l.step bh ap (Out.pre' aw);have ac:TOut n (M.termB ds t) st N zs:=L.root (λb6 e=>by cases e;exact aw) λe=>(by cases e);have aq:Mv (P1 m F) w (P1 m F5) w5:=(m3.trans A).trans ap.p1;have aa:Ints (Off X F5) w5 r zs:=Ints.weaken bo λb d _=>⟨d.1,λhx=>d.2 (.inl hx)⟩;have V:=back al;simp(disch:=exact oS) only[push_cast,V.blk.ld3];refine V.put b0 hs aa b5 (λgs e=>?_) λw6 bi b4=>?_
   .rcases ac with⟨g0,g1,a1,a2,a3⟩|⟨a1,_⟩
    .rw[a2] at e;cases e;exact M.Bd.run_again a3 (Pq _)
    .rw[a1] at e;cases e
   .refine hK w6 F5 N r zs bi (aq.to b4 λb d=> .inl (.inr d)) ?_ b5 ac;exact Ints.same aa b4 λb d _ e=>d.2 (e▸k.ext)
end
end Go.Proofs.YtfnpmncplaibiaaGreatDoor
section
namespace Go.Proofs.YtfnpmncplaibiaaGreatDoor
open Go Go.Vc Go.Proofs
section
open Go.RowKit Go.Extern.Stop Go.Stop Go.Extern
theorem yv0 (v:Value) (w:World):(Extern.ReflectliteType.typeOf #[.iface 443 v]).run Tryz.prog w= .ok (.iface 216 (.agg #[oP 11 443])) w:=rK
theorem Qm (w:World):(callFunc 402 #[.agg #[oP 11 443]]).run Tryz.prog w= .ok (Next.value (.bool true)) w:=by
 rw[@run_callFunc_extern Tryz.prog 402 _ (Extern.ReflectliteType.method λt=>do Extern.Rtype.noPackHeld "Comparable" t;pure (.bool (<-typeInfo t).comparable)) Tryz.func402 rK rK rK rK];kernel_rfl
theorem yw0 (v:Value) (w:World):(Go.method 582 216 v "Comparable").run Tryz.prog w= .ok (402,v) w:=rK
theorem jD0:(Tryz.prog.info? 443).map (·.comparable)=some true:=rK
theorem jC0:(Tryz.prog.info? 471).map (·.size)=some 1:=rK
theorem noIsE (v:Value) (xT:TypeId) (w:World):(Instr.typeAssert (.iface 443 v) xT 218 true).run Tryz.prog w= .ok (.tuple #[.nilIface,.bool false]) w:=run_typeAssert_lacksB Tryz.underlying218 rK rK v xT w
theorem ji0 (v:Value) (xT:TypeId) (w:World):(Instr.typeAssert (.iface 443 v) xT 221 true).run Tryz.prog w= .ok (.tuple #[.nilIface,.bool false]) w:=run_typeAssert_lacksB Tryz.underlying221 rK rK v xT w
theorem qa0 (v:Value) (xT:TypeId) (w:World):(Instr.typeAssert (.iface 443 v) xT 223 true).run Tryz.prog w= .ok (.tuple #[.nilIface,.bool false]) w:=run_typeAssert_lacksB Tryz.underlying223 rK rK v xT w
theorem Yq0 (a : Addr) (w : World) :
    Calls Tryz.prog 49 #[.iface 443 (.pointer (some a)), .iface 443 (.pointer (some a))] w λe w' => e = .returned (.bool true) /\ w' = w := by
  obtain ⟨i, hi, hcmp⟩ := pI.1 jD0
  obtain ⟨j, hj, hjs⟩ := pI.1 jC0
  have h8 := @run_callFunc_extern Tryz.prog 91 _ Extern.ReflectliteType.typeOf Tryz.func91 (by kernel_rfl) (by kernel_rfl) (by kernel_rfl) (by kernel_rfl)
  have h32 : ∀ w : World, (callFunc 402 #[.agg #[.pointer (some ⟨11, 443, none⟩)]]).run Tryz.prog w = .ok (Next.value (.bool true)) w := Qm
  have tT := yv0
  have mR := yw0
  have heq := run_eql_iface_ptr_same (P := Tryz.prog) w a Tryz.underlying86 Tryz.underlying443 hi hcmp hj
  go_enter Tryz.func49, Tryz.ntmps49
  go_wp2
  refine wp_loop_rounds 1 ?_
  rw [rounds_succ]
  go_wp2
  go_ret
  exact ⟨rfl, rfl⟩
theorem Xd0 (b : Addr) (w : World) :
    Calls Tryz.prog 49 #[.nilIface, .iface 443 (.pointer (some b))] w λe w' => e = .returned (.bool false) /\ w' = w := by
  have hn := run_eql_iface_nil_left (P := Tryz.prog) w 443 (.pointer (some b)) Tryz.underlying86
  go_enter Tryz.func49, Tryz.ntmps49
  go_wp2
  go_ret
  exact ⟨rfl, rfl⟩
end
variable {w:World} {K:oK}
theorem WH {a:Addr} (b:K (.bool true) w):vcall xG #[erv a,erv a] w K:=
 ⟨rK,(Yq0 a w).mono λe w' h=>by obtain⟨rfl,rfl⟩:=h;exact b⟩
theorem qg0 {a:Addr} (b:K (.bool false) w):vcall xG #[.nilIface,erv a] w K:=
 ⟨rK,(Xd0 a w).mono λe w' h=>by obtain⟨rfl,rfl⟩:=h;exact b⟩
end Go.Proofs.YtfnpmncplaibiaaGreatDoor
end
namespace Go.Proofs.YtfnpmncplaibiaaGreatDoor
open Go Go.Vc Go.Proofs
section
variable {w:World} {K:oK} {F Fx Q X:oA} {n bc mb m:Nat} {gs:M.Gs} {v:Value} {ar ab:Addr}
theorem gone (gs:M.Gs):∀y,y∈gs.map ym->∀c,c∈y->c.oneCell'=true:=λy b c a=>by
 obtain⟨g,_,rfl⟩:=gy.1 b;simp only[ym,gj,gC,Gn] at a;rcases a with rfl|rfl|rfl<;>rfl
theorem OwnG.nil:OwnG w (oN) []:=Own.nil 0 3 zA w
theorem Clone_gate (d:GatesR Fx w v gs) (u:gs.length<=1000000) (l:∀w' v',Ext w w'->OwnG w' v' gs->(∀x,v'.ownBlock=some x->w.heap.size<=x)->K v' w'):
  vcall qA #[v] w K:=by
 refine ze {} Tryz.func190 ?_;obtain⟨a,c,rfl,r,s,f⟩:=d.shape;rw[K3] at d r⊢;rw[QG qf];refine zm (λm=>?_) (λm=>?_)
 .cases a with
  |some a=>cases m
  |none=>
   have k:gs=[]:=by
    have n:gs.map ym=[]:=Gy λh=>by
     obtain⟨b,o,p,_⟩:=f h;cases p
    simpa using n
   subst k;exact l w _ (Same.refl _ _) OwnG.nil λx d=>by cases d
 .refine yc jo Xh λb w1 z he A q=>?_;have g:Own 0 3 zA w1 (.slice (some ⟨b,0,none⟩) 0 0) []:=Blk.ownk (css:=[]) (by rw[Qs];exact q) (λx d=>by cases d) rfl oM;have j:Sl Fx w1 3 (.slice a gs.length c) (gs.map ym):=Sl.ext d he;refine vappend (bs:=24) qF dC g j (gone gs) oM (by rw[K3];simp;omega) (by rw[K3];simp;omega) λv' w2 t hs i=>?_;have y:=he.size;refine l w2 v' (Ext.then he hs λx d=>by have e:b=x:=V1 d;omega) t λx d=>?_;rcases i x d with h|h
  .have e:b=x:=V1 h;omega
  .omega
theorem sigof_spec {a m:Int} (hm:m.natAbs<=1000000) (b:K (.bool (decide (a≠0/\ -m<=a/\a<=m))) w):vcall JH #[nI a,nI m] w K:=by
 refine ze {} Tryz.func191 ?_;refine oZ ?_;refine zb (λc=>?_) (λc=>?_)
 .simp(disch:=omega) only[push_cast,zk,Ga];refine zb (λd=>?_) (λd=>?_)
  .try simp only[push_cast]
   rwa[show decide (a≠0/\ -m<=a/\a<=m)=decide (a<=m) from decide_eq_decide.2 ⟨λh=>h.2.2,λh=>⟨c,d,h⟩⟩] at b
  .rwa[gm (λh=>d h.2.1)] at b
 .rwa[gm (λh=>c h.1)] at b
theorem WJ {a:Int} {o:Option Addr} {l c mb:Nat}:yA ye [(0,.agg ⟨[nI a,.slice o l c]⟩),(1,.map (some mb))] w K=K (.agg ⟨[nI a,.slice o l c,.map (some mb)]⟩) w:=zU Wq (us:=[[nI a,.slice o l c],[.map (some mb)]]) rfl rfl
theorem k10 {a:Int} {o:Option Addr} {l c:Nat}:yA zx [(0,nI a),(1,.slice o l c)] w K=K (.agg ⟨[nI a,.slice o l c]⟩) w:=zU Jf (us:=[[nI a],[.slice o l c]]) rfl rfl
structure Rd (n:Nat) (w:World) (bc:Nat) (v':Value) (mb:Nat) (gs:M.Gs) (i:Nat) (w':World):Prop where
 ext:Ext w w'
 blk:Blk w' bc [nI n,v',.map (some mb)] ye
 own:OwnG w' v' gs
 map:∃f,GMap w' mb f/\∀g,X6 g f=if g∈gs.take i then some (2+n+gs.idxOf g:Int) else none
 sep:bc≠mb/\v'.ownBlock≠some bc/\v'.ownBlock≠some mb
 new:∀b,X7 bc mb v' b->w.heap.size<=b
theorem readNet_spec (hv:GatesR Fx w v gs) (hg:M.NetG n gs) (hn:n<=8) (hK:∀w' bc v' mb,CktR n bc w' gs v' mb->Ext w w'->(∀b,X7 bc mb v' b->w.heap.size<=b)->K (.tuple #[oP bc 0,.bool true]) w'):
  vcall VO #[.agg ⟨[nI n,v]⟩] w K:=by
 refine ze {loops:=[(5,[37])],cuts:=[(8195,[]),(16388,[4]),(36874,[]),(45069,[])]} Tryz.func128 ?_;refine zj λb1 w1 aq F av x=>?_;have au:GatesR Fx w1 v gs:=Sl.ext hv F;have ae:=hg.few;have hlen:∀(w':World) (K:oK),vbi .len [zA] zE [v] w' K=K (nI gs.length) w':=λw' K=>by rw[Sl.len hv qf,xJ0]
 refine zp (λu w'=>u=[]/\w'=w1) ?_ ?_
 .intro J O;simp(disch:=exact oS) only[push_cast,x.ld0];refine zb (λc=>absurd c oM) (λ_=>?_)
  try simp(disch:=exact oS) only[push_cast,x.ld0]
  refine zb (λc=>absurd c oM) (λ_=>?_)
  try simp(disch:=exact oS) only[push_cast,x.ld1,hlen]
  refine zb (λc=>absurd c oM) (λ_=>?_);exact O _ _ ⟨rfl,rfl⟩
 rintro _ _ w2 ⟨rfl,rfl⟩;refine zp (λu w'=> ∃bc v' mb,u=[oP bc 0]/\Rd n w2 bc v' mb gs 0 w') ?_ ?_
 .intro J O;refine zd λw3 B _=>?_;have z:=x.ext B;have e3:=F.trans B;simp(disch:=exact oS) only[push_cast,z.ld0,z.ld1,k5,Gh];refine⟨?_,?_⟩
  .refine Clone_gate (Sl.ext hv e3) oM λw4 v' p k T=>?_;have A:=z.ext p;obtain⟨o,c,rfl,_⟩:=(Own.sl k).shape;simp(disch:=exact oS) only[push_cast,A.ld0,k5,Gh,gi,k10];refine Xf0 rfl λmb w5 am a2 l ag=>?_;have q:=A.ext l;simp(disch:=exact oS) only[push_cast,q.ld0,k5,Gh,gi,k10,WJ];refine zj λbc w6 ak r ah E=>?_;have z3:=B.size;have z4:=p.size;have S:=(λb Q=>(Own.lt k (b:=b) Q).2);refine O _ _ ⟨bc,_,mb,rfl,B.trans (p.trans (l.trans r)),E,Own.ext k (l.trans r),⟨[],a2.ext r,λg=>rfl⟩,⟨oM,λh=>by have:=S _ h;omega,λh=>by have:=S _ h;omega⟩,?_⟩;rintro b (rfl|rfl|h)
   .omega
   .omega
   .have:=T b h;omega
  .refine Xf0 rfl λmb w5 am a2 l ag=>?_;have q:=z.ext l;simp(disch:=exact oS) only[push_cast,q.ld0,q.ld1,k5,Gh,gi];refine Clone_gate (Sl.ext hv (e3.trans l)) oM λw4 v' p k T=>?_;have A:=q.ext p;obtain⟨o,c,rfl,_⟩:=(Own.sl k).shape;simp(disch:=exact oS) only[push_cast,A.ld0,k5,Gh,gi,k10,WJ];refine zj λbc w6 ak r ah E=>?_;have z3:=B.size;have z4:=p.size;have S:=(λb Q=>(Own.lt k (b:=b) Q).2);refine O _ _ ⟨bc,_,mb,rfl,B.trans (l.trans (p.trans r)),E,Own.ext k r,⟨[],a2.ext (p.trans r),λg=>rfl⟩,⟨oM,λh=>by have:=S _ h;omega,λh=>by have:=T _ h;omega⟩,?_⟩;rintro b (rfl|rfl|h)
   .omega
   .omega
   .have:=T b h;omega
 rintro _ _ w3 ⟨bc,v',mb,rfl,h3⟩;have z:=x.ext h3.ext;simp(disch:=exact oS) only[push_cast,z.ld1,hlen];refine vloop_up gs.length (λi u w'=>u=[nI i]/\Rd n w2 bc v' mb gs i w') ⟨rfl,h3⟩ ?_;rintro i _ _ w4 C hi ⟨rfl,d⟩ hC;have A:=x.ext d.ext;refine oZ ?_;refine zb (λa=>?_) (λa=>?_)
 .have m:i<gs.length:=oM;have k:Sl Fx w4 3 v (gs.map ym):=Sl.ext hv (F.trans d.ext);have al:(gs.map ym).getD i []=ym gs[i]:=(by simp[y4,m]);rw[Sl.iaddr k Yq oM (by rw[xJ0];omega),gu,Sl.ldAgg k xO (by rw[xJ0];exact m),al];obtain⟨g1,g2,g3,g4⟩:=hg.gate i m;have Y:gs[i]∉gs.take i:=λh=>by
   obtain⟨j,hj,e⟩:=gq h;rw[gh] at hj;rw[List.getElem_take] at e;exact GC.1 hg.once j i oM m oM e
  have ao:gs.take (i+1)=gs.take i++[gs[i]]:=by rw[pd,gd m];rfl
  have af:gs.idxOf gs[i]=i:=List.Nodup.idxOf_getElem hg.once i m;generalize gs[i]=g at*;have absN:∀a:Int,M.absI a=(a.natAbs:Int):=λa=>by unfold M.absI;split<;>omega
  have ga:=absN g.a;have gb:=absN g.b;refine zi kL λb5 w5 ar l ag q=>?_;refine q.stAgg (cs':=ym g) rfl xO (λc hc=>by simp only[ym,gj,gC,Gn] at hc;rcases hc with rfl|rfl|rfl<;>rfl) λw6 an ah E=>?_;have ai:Ext w4 w6:=Ext.then l an λy hy=>by subst hy;omega
  refine zd λw7 aa _=>?_;have N:=E.ext aa;have a4:=ai.trans aa;have Z:=A.ext a4;have a1:∀w':World,Blk w' b5 (ym g) zo->∀K:oK,zu zo (oP b5 0) w' K=K (gv g) w':=λw' hB K=>Blk.ldAgg hB (by exact xO);simp(disch:=exact oS) only[push_cast,N.ld1,N.ld2,k5];refine zp (λu w'=>u=[]/\Ext w7 w') ?_ ?_
  .intro J O;rw[Z.ldAgg (t:=zx) y5];refine nodes_spec oM oM λw8 ab=>?_;refine sigof_spec oM ?_;rw[gz ⟨oM,oM,oM⟩];have aj:=Z.ext ab;simp(disch:=exact oS) only[push_cast,Gp,aj.ldAgg (t:=zx) y5];refine nodes_spec oM oM λw9 D=>?_;refine sigof_spec oM ?_;rw[gz ⟨oM,oM,oM⟩];simp only[push_cast,Gp];refine node_spec oM ?_;refine oZ ?_;refine zb (λc=>absurd c oM) (λ_=>?_);refine node_spec oM ?_;refine oZ ?_;refine zb (λc=>absurd c oM) (λ_=>?_);refine node_spec oM (node_spec oM ?_);refine oZ ?_;refine zb (λc=>absurd c oM) (λ_=>?_);exact O _ _ ⟨rfl,ab.trans D⟩
  rintro _ _ w9 ⟨rfl,D⟩;have a5:=a4.trans D;refine zp (λu w'=>u=[]/\Ext w9 w') ?_ ?_
  .intro J O;refine zd λw10 s _=>?_;have e:=a5.trans s;have a6:=d.blk.ext e;have V:=(N.ext D).ext s;obtain⟨f,hf,hl⟩:=d.map;have ac:=hf.ext e;have a3:X6 g f=none:=(by rw[hl,y3 Y]);simp(disch:=exact oS) only[push_cast,a6.ld2,a1 _ V,ZW0 ac,a3,k5];simp(disch:=exact oS) only[push_cast,V.ld0];refine zm (λhx=>?_) (λhx=>?_)
   .obtain⟨p1,p2⟩:=g4 hx
    try simp only[push_cast]
    refine zb (λc=>absurd c oM) (λ_=>?_)
    try simp only[push_cast]
    refine zb (λc=>absurd c oM) (λ_=>?_);exact O _ _ ⟨rfl,s⟩
   .exact O _ _ ⟨rfl,s⟩
  rintro _ _ aw ⟨rfl,G⟩;refine zd λax H _=>?_;have e:=(a5.trans G).trans H;have a7:=d.blk.ext e;have W:=((N.ext D).ext G).ext H;have a9:=((Z.ext D).ext G).ext H;simp(disch:=exact oS) only[push_cast,a7.ld2,a1 _ W,a9.ldAgg (t:=zx) y5,k5];refine nodes_spec oM oM λay X=>?_;have L:=e.trans X;have U:=d.blk.ext L;have a8:=W.ext X;obtain⟨f,hf,hl⟩:=d.map;have a3:X6 g f=none:=(by rw[hl,y3 Y]);simp(disch:=exact oS) only[push_cast,U.ld2,a1 _ a8,k5,gi,Gh,zk];refine gset (hf.ext L) a3 λaz ad I ap=>?_
  try simp(disch:=omega) only[push_cast,zk]
  have l4:=d.ext.size;refine hC m _ _ ⟨by simp,Ext.then (d.ext.trans L) I (λb Q=>by have:=d.new b (.inr (.inl Q));omega),U.same I d.sep.1,Own.same (Own.ext d.own L) I (λb Q e=>d.sep.2.2 (e▸Q)),⟨_,ad,λg'=>?_⟩,d.sep,d.new⟩;have e1:=look_app (g:=g') (h:=g) (n:=1+(n:Int)+i+1) (f:=f) (i:=0);have e2:=hl g';unfold X6 at e2⊢;rw[e1,e2,ao];by_cases R:g'∈gs.take i
  .rw[X0 R,X0 (gl.2 (.inl R))]
  .rw[y3 R];by_cases a0:g'=g
   .subst a0;simp only;rw[X0 trivial,X0 (by simp),af];congr 1;omega
   .simp only;rw[y3 a0,y3 (by simp[R,a0])]
 .have m:i=gs.length:=oM;subst m;obtain⟨f,hf,hl⟩:=d.map;rw[gA] at hl;have z1:=F.size;exact hK w4 bc v' mb ⟨d.blk,d.own,⟨f,hf,hl⟩,d.sep,ae,hn⟩ (F.trans d.ext) λb Q=>by have:=d.new b Q;omega
end
section
variable {w:World} {K:oK} {F Fx Q X:oA} {n bl bc mb bb kb m:Nat} {gs:M.Gs} {v dv:Value} {ar ab:Addr} {ds:List M.Dcl}
theorem k00 {a:Int}:yA zx [(0,nI a)] w K=K (.agg ⟨[nI a,oN]⟩) w:=zU Jf (us:=[[nI a]]) rfl rfl
theorem Yz0:yA zx [] w K=K (.agg ⟨[nI 0,oN]⟩) w:=zU Jf (us:=[]) rfl rfl
theorem qw0 {a:Addr}:yA yO [(0,.pointer (some a))] w K=K (.agg ⟨[.pointer (some a),.nilIface]⟩) w:=zU Ws (us:=[[.pointer (some a)]]) rfl rfl
theorem qx0 {a:Addr} {o:Option Addr} {l c k m:Nat}:yA yo [(0,.pointer (some a)),(1,.slice o l c),(2,.map (some k)),(3,.map (some m))] w K=K (.agg ⟨[.pointer (some a),.slice o l c,.map (some k),.map (some m)]⟩) w:=zU Wt (us:=[[.pointer (some a)],[.slice o l c],[.map (some k)],[.map (some m)]]) rfl rfl
theorem GatesR.nil:GatesR Fx w (oN) []:=Sl.weaken (Own.sl (OwnG.nil (w:=w))) λb a _=>by cases a
theorem NetG.nil (n:Nat):M.NetG n []:=⟨by simp,λk h=>absurd h (by simp),pn⟩
theorem newBlaster_spec (A:M.declOk ds=true) (n:DclsR Fx w dv ds) (he:Errs (λ_=>False) w ar ab)
  (I:∀w' bl bb kb m F,BlR (M.bits ds).toNat bl bb kb m ar ab ds dv (· =m) F w' (some [])->Ext w w'->(∀b,F b\/b=m\/b=bl->w.heap.size<=b)->K (oP bl 0) w'):vcall QT #[dv] w K:=by
 refine ze {} Tryz.func88 ?_;have Y:=(M.decl_iff.1 A).2.2;have X:=M.bits_pos' (ds:=ds) λd B=>by
  obtain⟨i,hi,e⟩:=gq B;have:=(M.dcl_wide A hi).1;rw[y4,gd hi] at this;simp only[GD,e] at this;omega
 refine bitsOf_spec n A λw1 s=>?_;rw[k00,show M.bits ds=(((M.bits ds).toNat:Nat):Int) by omega];refine readNet_spec (Fx:=Fx) (gs:=[]) GatesR.nil (NetG.nil _) oM λw2 bc v' mb G t E=>?_;simp only[push_cast,qw0];refine zj λbb w3 J u S y=>?_;refine kinds_new λV kb q v Q=>?_;refine xo0 Qi λm w5 hm D l T=>?_;obtain⟨o,c,rfl,_⟩:=n.shape;rw[qx0];refine zj λbl W L g U z=>?_;have s1:=s.size;have s2:=t.size;have s3:=u.size;have s4:=q.size;have s5:=l.size;have s6:=g.size;have r:=u.trans (q.trans (l.trans g));have x:=t.trans r;have k:=s.trans x;have j:∀b,X7 bc mb v' b->b<w2.heap.size:=λb f=>G.lt f;have C:=v.ext (l.trans g);have N:=v.lt;have a:∀b,(X7 bc mb v' b\/b=bb)->w.heap.size<=b/\b<V.heap.size:=λb f=>f.elim (λh=>by have:=E b h;have:=j b h;omega) λh=>oM
 refine I W bl bb kb m (λb=>X7 bc mb v' b\/b=bb) ⟨⟨⟨?_,?_,?_⟩,⟨bc,y.ext (q.trans (l.trans g)),λgs e=>?_⟩,.inr rfl,λb f=>?_⟩,z,⟨λh=>by have:=(a _ h).2;omega,λh=>by have:=(a _ h).2;omega,?_,oM,oM⟩,rfl,?_,C,?_⟩ k λb f=>?_
 .exact he.room.same k id
 .exact he.bits.same k id
 .have Z:=he.room.lt;have l2:=he.bits.lt;exact⟨λh=>by have:=(a _ h).1;omega,λh=>by have:=(a _ h).1;omega⟩
 .cases e;exact⟨v',mb,G.ext r,λh=>by have:=j _ h;omega,λb f=> .inl f⟩
 .rcases f with h|h
  .have:=(a _ h).2;omega
  .omega
 .rintro(h|h)
  .have:=j _ h;omega
  .omega
 .have H:DclsR (λb=>Fx b/\b<w.heap.size) w _ ds:=Sl.weaken n λb f O=>⟨f,O⟩;exact Sl.weaken (Sl.ext H k) λb f _=>⟨λh=>by have:=(a _ h).1;omega,λh=>oM⟩
 .exact⟨[],D.ext g,λp R=>by cases R⟩
 .rcases f with h|h|h
  .exact(a _ h).1
  .omega
  .omega
theorem kN0 {t:M.Tm} (h:M.tsort ds t≠ -1):M.fits t=true/\M.declOk ds=true/\M.sortM ds t≠ -1/\M.sizeM t<=20:=by
 unfold M.tsort at h;split at h
 .next a=>exact⟨a.1,a.2,h,(M.fits_iff.1 a.1).1⟩
 .exact absurd rfl h
end
section
variable {w:World} {K:oK} {D F Fx Y S:oA} {n b4 b8:Nat} {gs:M.Gs} {v nv:Value} {cs':List Value}
theorem net_one {a:Int} {o:Option Addr} {l c:Nat}:∀u,u∈[nI a,.slice o l c]->u.oneCell'=true:=λu hu=>by
 simp only[gj,gC,Gn] at hu;rcases hu with rfl|rfl<;>rfl
theorem jG0 {op:BinOp} (a:op= .eql\/op= .neq) (c:Bool) (x y:Array Value):(eqG op zo c (.agg x) (.agg y)).run P w= .ok () w:=by
 rcases a with rfl|rfl<;>cases c<;>kernel_rfl
theorem yT0 {c:Bool} (g h:M.Gt):qu .eql zo c (gv g) (gv h) w K=K (.bool (decide (g=h))) w:=by
 have a:(Op.equal zo (gv g) (gv h)).run P w= .ok (decide (g=h)) w:=eqGate g h w;refine yp (jG0 (.inl rfl) c _ _) ?_;have e:∀xs ys:Array Value,binOp .eql zo (.agg xs) (.agg ys)=(do let b <-Op.equal zo (.agg xs) (.agg ys);pure (Value.bool b)):=λ_ _=>rfl;unfold gv at a⊢;rw[e,Sem.run_bind,a];rfl
abbrev GOff (D:oA) (w:World) (v:Value) (gs:M.Gs):Prop:=GatesR (λb=> ¬D b) w v gs
theorem GOff.swap {w':World} (h:GOff D w v gs) (hw:Same S w w') (d:∀b,S b->D b) (e:∀b,Y b->b<w.heap.size->D b):GOff Y w' v gs:=by
 have c:GatesR (λb=> ¬D b/\b<w.heap.size) w v gs:=Sl.weaken h λb a f=>⟨a,f⟩;exact Sl.weaken (Sl.same c hw λb a _ hs=>a.1 (d b hs)) λb a _ g=>a.1 (e b g a.2)
theorem gates_app {x:Value} {b1:Nat} {t0:TypeId} {g:M.Gt} (q:GatesR Fx w x gs) (l:Blk w b1 (ym g) t0) (s:gs.length<=1000) (o:OwnG w v []) (p:∀b,v.ownBlock=some b->b≠b1)
  (m:∀w' v',OwnG w' v' (gs++[g])->Same (λb=>v.ownBlock=some b\/w.heap.size<=b) w w'->(∀b,v'.ownBlock=some b->v.ownBlock=some b\/w.heap.size<=b)->K v' w'):
  vbi .append [zA,zA] zA [v,x] w λt w1=>vbi .append [zA,zA] zA [t,.slice (some ⟨b1,0,none⟩) 1 1] w1 K:=by
 refine vappend (bs:=24) qF dC o q (gone gs) oM (by rw[K3];simp;omega) (by rw[K3];simp;omega) λv' w2 i a c=>?_;have n:=l.lt;refine Own.app1k (bs:=24) i qF dC (l.same a λe=>p _ e rfl) rfl (gone [g] _ (by simp)) (by simp;omega) (by simp;omega) λv3 r j k f=>?_;have s2:=a.size;refine m r v3 (by unfold OwnG;rw[gE];exact j) (Same.thn (a.mono λb _ h=> .inl h) (k.mono λb _ h=>h) λb d=> .inl ((c b d).imp id id)) λb d=>?_;rcases f b d with h|h
 .exact c b h
 .exact .inr oM
theorem sput_spec {g:M.Gt} (hn:n<=8) (hg:GOff D w nv gs) (hl:gs.length<=600) (hD:∀b,D b->b<w.heap.size)
  (hK:∀w' n' gv',Ext w w'->GOff D w' gv' (if(M.putG n gs g).2=0 then[] else(M.putG n gs g).1)->(n'=if(M.putG n gs g).2=0 then 0 else n)->((M.putG n gs g).2=0->gv'= oN)->K (.tuple #[.agg ⟨[nI (n':Nat),gv']⟩,nI (M.putG n gs g).2]) w'):
  vcall Jp #[.agg ⟨[nI n,nv]⟩,.agg ⟨ym g⟩] w K:=by
 refine ze {loops:=[(2,[6])],cuts:=[(36873,[])]} Tryz.func267 ?_;refine zj λb1 w1 aw W b0 ae=>?_;refine zj λb2 w2 ax Q b4 af=>?_;refine zi j5 λb3 w3 ay a2 b5 a1=>?_;have e3:=W.trans (Q.trans a2);have a6:=ae.ext (Q.trans a2);have a7:=af.ext a2;have X:∀w':World,Blk w' b2 (ym g) zo->∀K:oK,zu zo (oP b2 0) w' K=K (.agg ⟨ym g⟩) w':=λw' hB K=>Blk.ldAgg hB (by exact xO);have hlen:∀(w':World) (K:oK),vbi .len [zA] zE [nv] w' K=K (nI gs.length) w':=λw' K=>by rw[Sl.len hg qf,xJ0]
 obtain⟨go,gc,am,_⟩:=hg.shape;have aa:∀i,i<gs.length->gs.getD i ⟨false,0,0⟩=g->g∉gs.take i->(M.putG n gs g)=(gs,(2+n+i:Int)):=λi hi h1 h2=>by
  have hm:g∈gs:=h1▸M.getD_mem hi _;unfold M.putG;rw[X0 hm];have:gs.idxOf g=i:=by
   have e:=G3 i gs;have h3:gs.drop i=gs.getD i ⟨false,0,0⟩::gs.drop (i+1):=by
    rw[PO hi,y4,gd hi];rfl
   rw[<-e,pQ,y3 h2,h3,h1,List.idxOf_cons_self,gh];omega
  rw[this]
 refine vloop_up gs.length (λi u w'=>u=[nI i]/\Ext w3 w'/\g∉gs.take i) ⟨rfl,Same.refl _ _,by simp⟩ ?_;rintro i _ _ w4 C hi ⟨rfl,r,R⟩ hC;have B:=a6.ext r;have Z:=a7.ext r;have e4:=e3.trans r;simp(disch:=first|omega|simp only[push_cast]) only[push_cast,B.ld1,hlen];refine zb (λa=>?_) (λa=>?_)
 .have z:i<gs.length:=oM;refine zd λH l _=>?_;have j:=B.ext l;have E:=Z.ext l;have a9:GOff D H nv gs:=Sl.ext hg (e4.trans l);have al:(gs.map ym).getD i []=ym (gs.getD i ⟨false,0,0⟩):=M.getD_map _ z _ _;simp(disch:=first|omega|simp only[push_cast]) only[push_cast,j.ld1,k5];rw[Sl.iaddr a9 Yq oM (by rw[xJ0];omega),gu];simp(disch:=first|omega|simp only[push_cast]) only[push_cast,k5];rw[Sl.ldAgg a9 xO (by rw[xJ0];exact z),al];simp(disch:=first|omega|simp only[push_cast]) only[push_cast,k5,X _ E];rw[show(Value.agg ⟨ym (gs.getD i ⟨false,0,0⟩)⟩)=gv (gs.getD i ⟨false,0,0⟩) from rfl,show(Value.agg ⟨ym g⟩)=gv g from rfl,yT0];refine⟨rfl,?_⟩;refine zb (λc=>?_) (λc=>?_)
  .have hp:=aa i z c R;rw[hp] at hK;refine zd λI f _=>?_;have d:=j.ext f;have O:=(a1.ext (r.trans l)).ext f;subst am;simp(disch:=first|omega|simp only[push_cast]) only[push_cast,d.ld0,d.ldAgg (t:=zx) y5,k5,zk];refine O.stAgg (cs':=[nI n,.slice go (gs.map ym).length gc]) rfl y5 net_one λv m Y q=>?_;have e7:Ext w v:=Ext.then ((e4.trans l).trans f) m λb p=>by have:=W.size;have:=Q.size;omega
   have k:=d.same m (show¬b1=b3 by omega);simp(disch:=first|omega|simp only[push_cast]) only[push_cast,k.ld0,k5,gi,zk];rw[q.lv (t:=zx) y5];refine hK v n _ e7 ?_ ?_ ?_
   .rw[y3 (by show(2+(n:Int)+i)≠0;omega)];exact Sl.ext hg e7
   .rw[y3 (by show(2+(n:Int)+i)≠0;omega)]
   .intro h;exfalso;revert h;show(2+(n:Int)+i)=0->False;omega
  .simp(disch:=omega) only[push_cast,zk];refine hC z _ _ ⟨by simp,r.trans l,?_⟩;rw[M.take_add z ⟨false,0,0⟩];intro h;rcases gl.1 h with h|h
   .exact R h
   .exact c (gx.1 h).symm
 .have z:i=gs.length:=oM;subst z;rw[gA] at R
  try simp(disch:=first|omega|simp only[push_cast]) only[push_cast,B.ld1,hlen]
  refine zb (λc=>?_) (λc=>?_)
  .have hp:M.putG n gs g=(gs,0):=by unfold M.putG;rw[y3 R,X0 oM]
   rw[hp] at hK;rw[Yz0];refine(a1.ext r).stAgg (cs':=[nI 0,oN]) rfl y5 net_one λv m Y q=>?_;rw[q.lv (t:=zx) y5];have e7:Ext w v:=Ext.then e4 m λb p=>by have:=W.size;have:=Q.size;omega
   exact hK v 0 _ e7 (by rw[X0 rfl];exact GatesR.nil) (by rw[X0 rfl]) λ_=>rfl
  .have hp:M.putG n gs g=(gs++[g],(2+n+gs.length:Int)):=by unfold M.putG;rw[y3 R,y3 oM]
   rw[hp] at hK;have s1:=W.size;have s2:=Q.size;have s4:=e4.size;have bb:=r.size;refine zp (λu w'=>u=[]/\Ext w w'/\∃v',Blk w' b1 [nI n,v'] zx/\Blk w' b3 [nI 0,oN] zx/\OwnG w' v' (gs++[g])/\∀b,v'.ownBlock=some b->w.heap.size<=b/\b≠b1/\b≠b3) ?_ ?_
   .intro J hJ;refine zd λH l _=>?_;have e5:=e4.trans l;have j:=B.ext l;have E:=Z.ext l;have N:=(a1.ext r).ext l;have s5:=l.size;have fin:∀(U:World) (v':Value),Same (λb=>H.heap.size<=b) H U->OwnG U v' (gs++[g])->(∀b,v'.ownBlock=some b->H.heap.size<=b)->zG zA (oE (Addr.add ⟨b1,0,none⟩ 1)) v' U λ_ ad=>J [] ad:=λU v' L A G=>by
     have e8:Ext H U:=⟨L.os,L.tape,L.output,L.size,λi hi _=>L.block i hi oM⟩;refine Blk.st (i:=1) (j.ext e8) (Sl.cells1 (Own.sl A)) (Sl.one (Own.sl A)) Jl rfl λw9 T ba ah=>?_;refine hJ _ _ ⟨rfl,Ext.then (e5.trans e8) T λb p=>oM,v',ah,(N.ext e8).same T (show¬b3=b1 by omega),Own.same A T (λb p e=>by have:=G b p;omega),λb p=>by have:=G b p;omega⟩
    simp(disch:=first|omega|simp only[push_cast]) only[push_cast,j.ld1,X _ E,k5,Gh];have mk:∀(I:World) (K:oK),(∀b7 v,b7=I.heap.size->Ext I v->v.heap.size=I.heap.size+1->Blk v b7 (ym g) zo->K (.slice (some ⟨b7,0,none⟩) 1 1) v)->vbuildS zA 1 [(0,.agg ⟨ym g⟩)] I K:=λI K h=>
     qJ jo rK kL (y:=ym g) rfl rfl (show 3<=16777216 by decide) h
    have nil:∀{I:World} {F:Nat},Blk I F [] zo->OwnG I (.slice (some ⟨F,0,none⟩) 0 0) []:=λh=>Blk.ownk (css:=[]) (by rw[Qs];exact h) (λx hx=>by cases hx) rfl oM;refine⟨?_,?_⟩
    .refine yc jo Xh λF I aj f av V=>?_;have d:=j.ext f;have a0:=E.ext f;simp(disch:=first|omega|simp only[push_cast]) only[push_cast,d.ld1,X _ a0,k5,Gh,gi];refine⟨?_,?_⟩
     .refine vappend (bs:=24) qF dC (nil V) (Sl.ext hg (e5.trans f)) (gone gs) oM (by rw[K3];simp;omega) (by rw[K3];simp;omega) λv7 v aq m an=>?_;have s7:=m.size;have a8:=a0.same m λe=>by have e:F=b2:=V1 e;omega
      simp(disch:=first|omega|simp only[push_cast]) only[push_cast,X _ a8,k5,Gh,gi];refine mk v _ λb8 U az a3 b9 ag=>?_;have n7:∀b,v7.ownBlock=some b->H.heap.size<=b:=λb p=>(an b p).elim (λe=>by have e:F=b:=V1 e;omega) λh=>oM;refine Own.app1k (bs:=24) (Own.ext aq a3) qF dC ag rfl (gone [g] _ (by simp)) (by simp;omega) (by simp;omega) λv9 w9 ar T ao=>?_
      try simp(disch:=first|omega|simp only[push_cast]) only[push_cast,k5,Gh,gi]
      have s8:=a3.size;refine fin w9 v9 (Same.thn (((Same.of_ext f).trans (m.mono (S':=λb=>H.heap.size<=b) λb _ e=>by have e:F=b:=V1 e;omega)).trans (Same.of_ext a3)) (T.mono (S':=λb=>H.heap.size<=b) λb _ e=>n7 b e) λb p=> .inl p) (by unfold OwnG;rw[gE];exact ar) λb p=>(ao b p).elim (n7 b) λh=>oM
     .refine mk I _ λb7 v ak s Y q=>?_;have k:=d.ext s;simp(disch:=first|omega|simp only[push_cast]) only[push_cast,k.ld1,k5,Gh,gi];refine gates_app (Sl.ext hg ((e5.trans f).trans s)) q oM (nil (V.ext s)) (λb e=>by have e:F=b:=V1 e;omega) λU v8 A a5 G=>?_
      try simp(disch:=first|omega|simp only[push_cast]) only[push_cast,k5,Gh,gi]
      refine fin U v8 (((Same.of_ext (f.trans s))).trans (a5.mono (S':=λb=>H.heap.size<=b) λb _ e=>e.elim (λe=>by have e:F=b:=V1 e;omega) λh=>oM)) A λb p=>(G b p).elim (λe=>by have e:F=b:=V1 e;omega) λh=>oM
    .refine mk H _ λb7 v ak s Y q=>?_;have k:=j.ext s;simp(disch:=first|omega|simp only[push_cast]) only[push_cast,k.ld1,k5,Gh,gi];refine yc jo Xh λF I aj f av V=>?_;have d:=k.ext f;simp(disch:=first|omega|simp only[push_cast]) only[push_cast,d.ld1,k5,Gh,gi];refine gates_app (Sl.ext hg ((e5.trans s).trans f)) (q.ext f) oM (nil V) (λb e=>by have e:F=b:=V1 e;omega) λU v8 A a5 G=>?_
     try simp(disch:=first|omega|simp only[push_cast]) only[push_cast,k5,Gh,gi]
     refine fin U v8 (((Same.of_ext (s.trans f))).trans (a5.mono (S':=λb=>H.heap.size<=b) λb _ e=>e.elim (λe=>by have e:F=b:=V1 e;omega) λh=>oM)) A λb p=>(G b p).elim (λe=>by have e:F=b:=V1 e;omega) λh=>oM
   rintro _ _ H ⟨rfl,e5,v',j,N,a4,ac⟩;refine zd λI f _=>?_;have d:=j.ext f;have ap:=Own.ext a4 f;have O:=N.ext f;have ab:∀(w':World) (K:oK),vbi .len [zA] zE [v'] w' K=K (nI ((gs.length+1:Nat):Int)) w':=λw' K=>by
    rw[Sl.len (Own.sl a4) qf,K3,Q1];rfl
   obtain⟨o,c',au,_⟩:=(Own.sl a4).shape;simp(disch:=first|omega|simp only[push_cast]) only[push_cast,d.ld0,d.ld1,ab,d.ldAgg (t:=zx) y5,k5,zk];subst au;refine O.stAgg (cs':=[nI n,.slice o (List.map ym (gs++[g])).length c']) rfl y5 net_one λv m Y q=>?_;have k:=d.same m (show¬b1=b3 by omega);simp(disch:=first|omega|simp only[push_cast]) only[push_cast,k.ld0,k.ld1,ab,k5,gi,zk];rw[q.lv (t:=zx) y5];have e7:Ext w v:=Ext.then (e5.trans f) m λb p=>oM;have S:(2+(n:Int)+gs.length)≠0:=oM;have ai:=hK v n (.slice o (List.map ym (gs++[g])).length c') e7 (by rw[y3 S];exact Sl.weaken (Own.sl (Own.same ap m λb p e=>(ac b p).2.2 e)) λb p _ hd=>by have:=hD b hd;have:=(ac b p).1;omega) (by rw[y3 S]) λh=>absurd h S;rwa[show(2+(n:Int)+gs.length)=1+n+((gs.length+1:Nat):Int) by omega] at ai
end
section
variable {w:World} {K:oK} {D F Y S:oA} {n b8:Nat} {gs:M.Gs} {v nv:Value} {cs cs':List Value} {a b m:Int}
def NetO (n:Nat) (D:oA) (w:World) (gs:M.Gs) (m:Int) (cs:List Value):Prop:=
 if m=0 then cs=[nI 0,.slice none 0 0] else ∃o l c,cs=[nI n,.slice o l c]/\GOff D w (.slice o l c) gs/\gs.length<=600
theorem NetO.form (h:NetO n D w gs m cs):∃(x:Int) (o:Option Addr) (l c:Nat),cs=[nI x,.slice o l c]:=by
 unfold NetO at h;split at h
 .exact⟨_,_,_,_,h⟩
 .obtain⟨o,l,c,e,_⟩:=h;exact⟨_,_,_,_,e⟩
theorem NetO.len (h:NetO n D w gs m cs):cs.length=2:=by obtain⟨x,o,l,c,rfl⟩:=h.form;rfl
theorem NetO.one (h:NetO n D w gs m cs):∀u,u∈cs->u.oneCell'=true:=by obtain⟨x,o,l,c,rfl⟩:=h.form;exact net_one
theorem NetO.same {w':World} (h:NetO n D w gs m cs) (hw:Same S w w') (f:∀b,S b->D b):NetO n D w' gs m cs:=by
 unfold NetO at h⊢;by_cases hm:m=0
 .rw[X0 hm] at h⊢;exact h
 .rw[y3 hm] at h⊢;obtain⟨o,l,c,e,a,d⟩:=h;exact⟨o,l,c,e,a.swap hw f λb g _=>g,d⟩
theorem NetO.weak {Y:oA} (h:NetO n D w gs m cs) (f:∀b,Y b->D b):NetO n Y w gs m cs:=by
 unfold NetO at h⊢;by_cases hm:m=0
 .rw[X0 hm] at h⊢;exact h
 .rw[y3 hm] at h⊢;obtain⟨o,l,c,e,a,d⟩:=h;exact⟨o,l,c,e,Sl.weaken a λb g _ i=>g (f b i),d⟩
theorem NetO.put {f:Nat} {a:Value} (d:GOff D w a (if m=0 then[] else gs)) (b:f=if m=0 then 0 else n) (g:m=0->a= oN) (h:gs.length<=600):NetO n D w gs m [nI (f:Nat),a]:=by
 unfold NetO;by_cases c:m=0
 .rw[X0 c] at b⊢;rw[b,g c];rfl
 .rw[y3 c] at d b⊢;obtain⟨o,c',e,_⟩:=d.shape;exact⟨o,_,c',by rw[b,e],by rw[<-e];exact d,h⟩
theorem NetO.of {o:Option Addr} {l c:Nat} (h:GOff D w (.slice o l c) gs) (a:gs.length<=600) (hm:m≠0):NetO n D w gs m [nI n,.slice o l c]:=by
 unfold NetO;rw[y3 hm];exact⟨o,l,c,rfl,h,a⟩
theorem put_len {g:M.Gt} (h:gs.length<=600):(M.putG n gs g).1.length<=600:=by
 unfold M.putG;split
 .exact h
 .split
  .exact h
  .rw[Q1,gG];omega
theorem l4Abs_sm (c:Sm a) (b:K (nI (M.absI a)) w):vcall Jq #[nI a] w K:=by
 refine ze {} Tryz.func266 ?_;unfold M.absI at b;refine oZ ?_;refine zb (λh=>?_) (λh=>?_)
 .rw[X0 h] at b;simp(disch:=omega) only[push_cast,zk,Ga];exact b
 .rw[y3 h] at b;exact b
theorem xR0 (x y:Int):yA zo [(1,nI x),(2,nI y)] w K=K (.agg ⟨ym ⟨false,x,y⟩⟩) w:=zU ZB (us:=[[nI x],[nI y]]) rfl rfl
theorem Zz0 (x y:Int):yA zo [(0,.bool true),(1,nI x),(2,nI y)] w K=K (.agg ⟨ym ⟨true,x,y⟩⟩) w:=zU ZB (us:=[[.bool true],[nI x],[nI y]]) rfl rfl
theorem net_out {b2:Nat} {a:List Value} (e:Blk w b2 a zx) (g:a.length=2) (c:cs.length=2) (d:∀u,u∈cs->u.oneCell'=true) (f:∀w',Same (· =b2) w w'->K (.agg ⟨cs⟩) w'):
  zG zx (oP b2 0) (.agg ⟨cs⟩) w λ_ w1=>vlv zx (oP b2 0) w1 K:=by
 refine e.stAgg (cs':=cs) oM (by rw[c];exact y5) d λw1 hs h b=>?_;rw[b.lv (t:=zx) (by rw[c];exact y5)];exact f w1 hs
theorem sand6_spec (hn:n<=8) (L:GOff D w nv gs) (l:gs.length<=600) (hD:∀b,D b->b<w.heap.size) (ha:Sm a) (d:Sm b) (R:a≠0) (S:b≠0)
  (I:∀w' cs,Ext w w'->NetO n D w' (M.andG n gs a b).1 (M.andG n gs a b).2 cs->K (.tuple #[.agg ⟨cs⟩,nI (M.andG n gs a b).2]) w'):
  vcall y10 #[.agg ⟨[nI n,nv]⟩,nI a,nI b] w K:=by
 refine ze {cuts:=[(8201,[]),(8194,[8]),(16388,[22])]} Tryz.func218 ?_;obtain⟨go,gc,U,_⟩:=L.shape;rw[U] at L⊢;refine zj λb1 w1 a0 r a2 O=>?_;refine zi j5 λb2 w2 a1 j a3 p=>?_;have N:=r.trans j;have o:=O.ext j;have f:∀K:oK,zu zx (oP b1 0) w2 K=K (.agg ⟨[nI n,.slice go (gs.map ym).length gc]⟩) w2:=λK=>o.ldAgg (t:=zx) y5;have z1:=r.size;have z2:=j.size;have same:∀(x:Int),x≠0->(M.andG n gs a b)=(gs,x)->∀w':World,w'=w2->zG zx (oP b2 0) (.agg ⟨[nI n,.slice go (gs.map ym).length gc]⟩) w' λ_ A=>vlv zx (oP b2 0) A λr6 B=>K (.tuple #[r6,(nI x)]) B:=λx hx e w' ew=>by
  subst ew;rw[e] at I;refine net_out p rfl rfl net_one λm X=>?_;have e3:Ext w m:=Ext.then N X λy Y=>by subst Y;omega
  exact I m _ e3 (NetO.of (Sl.ext L e3) l hx)
 have V:GatesR (λb=> ¬D b/\b<w.heap.size) w (.slice go (gs.map ym).length gc) gs:=Sl.weaken L λb d l=>⟨d,l⟩;have put:∀g:M.Gt,(M.andG n gs a b)=M.putG n gs g->vcall Jp #[.agg ⟨[nI n,.slice go (gs.map ym).length gc]⟩,.agg ⟨ym g⟩] w2 λt47 C=>qo t47 0 C λt48 E=>qo t47 1 E λt49 F=>
   zG zx (oP b2 0) t48 F λ_ G=>vlv zx (oP b2 0) G λz H=>K (.tuple #[z,t49]) H:=λg e=>by
  rw[e] at I;refine sput_spec (D:=λb=>D b\/b=b2) hn (Sl.weaken (Sl.ext V N) λb d l hd=>hd.elim d.1 λe=>by have:=d.2;omega) l (λb d=>d.elim (λh=>by have:=hD b h;omega) λh=>oM) λm n' a4 s T W Z=>?_;refine oZ ?_;have Q:=NetO.put T W Z (put_len l);refine net_out (p.ext s) rfl Q.len Q.one λw4 v=>?_;exact I w4 _ (Ext.then (N.trans s) v λy Y=>by subst Y;omega) ((Q.same v λb d=> .inr d).weak λb d=> .inl d)
 unfold Sm at ha d;refine zp (λu w'=>u=[]/\w'=w2/\M.andG n gs a b=M.putG n gs ⟨false,a,b⟩) ?_ ?_
 .intro J hJ;refine zp (λu w'=>u=[.bool (decide (a= -1\/b= -1\/a= -b))]/\w'=w2) ?_ ?_
  .intro J1 i;refine oZ ?_;refine zb (λc=>i _ _ ⟨by rw[gz (.inl c)],rfl⟩) (λc=>?_)
   try simp only[push_cast]
   refine zb (λc2=>i _ _ ⟨by rw[gz (.inr (.inl c2))],rfl⟩) (λc2=>?_);simp(disch:=omega) only[push_cast,zk,Ga];refine i _ _ ⟨?_,rfl⟩;rw[decide_eq_decide.2 (show(a= -1\/b= -1\/a= -b)↔a= -b from⟨λh=>h.elim (λh=>absurd h c) λh=>h.elim (λh=>absurd h c2) id,λh=> .inr (.inr h)⟩)]
  rintro _ _ m ⟨rfl,rfl⟩;refine oZ ?_;refine zb (λc=>?_) (λc=>?_)
  .rw[f];refine same (-1) dC ?_ _ rfl;unfold M.andG;by_cases c1:a= -1\/b= -1
   .rw[X0 c1]
   .rw[y3 c1];have c2:a= -b:=c.elim (λh=>absurd (.inl h) c1) λh=>h.elim (λh=>absurd (.inr h) c1) id;rw[y3 oM,y3 oM];by_cases c3:a=b
    .exfalso;omega
    .rw[y3 c3,X0 c2]
  refine zp (λu w'=>u=[.bool (decide (a=1\/a=b))]/\w'=m) ?_ ?_
  .intro J2 q
   try simp only[push_cast]
   refine zb (λc=>q _ _ ⟨by rw[gz (.inl c)],rfl⟩) (λc2=>?_)
   try simp only[push_cast]
   refine q _ _ ⟨?_,rfl⟩;rw[decide_eq_decide.2 (show(a=1\/a=b)↔a=b from⟨λh=>h.elim (λh=>absurd h c2) id,.inr⟩)]
  rintro _ _ w4 ⟨rfl,rfl⟩;have c1: ¬(a= -1\/b= -1):=λh=>c (h.elim .inl λh=> .inr (.inl h));refine oZ ?_;refine zb (λc2=>?_) (λc2=>?_)
  .rw[f];refine same b S ?_ _ rfl;unfold M.andG;rw[y3 c1];by_cases c3:a=1
   .rw[X0 c3]
   .have k:a=b:=c2.elim (λh=>absurd h c3) id;rw[y3 c3];by_cases c5:b=1
    .omega
    .rw[y3 c5,X0 k,k]
  try simp only[push_cast]
  refine zb (λc3=>?_) (λc3=>?_)
  .rw[f];refine same a R ?_ _ rfl;unfold M.andG;rw[y3 c1,y3 (λh=>c2 (.inl h)),X0 c3]
  have hand:M.andG n gs a b=M.putG n gs (M.gateA a b):=by
   unfold M.andG;rw[y3 c1,y3 (λh=>c2 (.inl h)),y3 c3,y3 (λh=>c2 (.inr h)),y3 (λh=>c (.inr (.inr h)))]
  refine l4Abs_sm ha (l4Abs_sm d ?_)
  try simp only[push_cast]
  unfold M.gateA at hand;refine zb (λk=>?_) (λk=>?_)
  .rw[X0 k] at hand;rw[f,xR0];exact put _ hand
  .rw[y3 k] at hand;exact hJ _ _ ⟨rfl,rfl,hand⟩
 rintro _ _ m ⟨rfl,rfl,hp⟩;rw[f,xR0];exact put _ hp
theorem sxor6_spec (hn:n<=8) (Q:GOff D w nv gs) (z:gs.length<=600) (hD:∀b,D b->b<w.heap.size) (W:Sm a) (j:Sm b) (a6:a≠0) (a7:b≠0)
  (O:∀w' cs,Ext w w'->NetO n D w' (M.xorG n gs a b).1 (M.xorG n gs a b).2 cs->K (.tuple #[.agg ⟨cs⟩,nI (M.xorG n gs a b).2]) w'):
  vcall zZ0 #[.agg ⟨[nI n,nv]⟩,nI a,nI b] w K:=by
 refine ze {cuts:=[(8201,[]),(8194,[13]),(16388,[25]),(45068,[8]),(53262,[8]),(69651,[9,10])]} Tryz.func268 ?_;obtain⟨go,gc,Z,_⟩:=Q.shape;rw[Z] at Q⊢;refine zj λb1 w1 a8 H ad T=>?_;refine zi j5 λb2 w2 a9 s ae F=>?_;have R:=H.trans s;have E:=T.ext s;have o:∀K:oK,zu zx (oP b1 0) w2 K=K (.agg ⟨[nI n,.slice go (gs.map ym).length gc]⟩) w2:=λK=>E.ldAgg (t:=zx) y5;have z1:=H.size;have z2:=s.size;have same:∀(x:Int),x≠0->(M.xorG n gs a b)=(gs,x)->∀w':World,w'=w2->zG zx (oP b2 0) (.agg ⟨[nI n,.slice go (gs.map ym).length gc]⟩) w' λ_ I=>vlv zx (oP b2 0) I λr6 L=>K (.tuple #[r6,(nI x)]) L:=λx hx e w' ew=>by
  subst ew;rw[e] at O;refine net_out F rfl rfl net_one λC a2=>?_;have e3:Ext w C:=Ext.then R a2 λy B=>by subst B;omega
  exact O C _ e3 (NetO.of (Sl.ext Q e3) z hx)
 have a0:GatesR (λb=> ¬D b/\b<w.heap.size) w (.slice go (gs.map ym).length gc) gs:=Sl.weaken Q λb j z=>⟨j,z⟩;have absN:∀a:Int,M.absI a=(a.natAbs:Int):=λa=>by unfold M.absI;split<;>omega
 have na:=absN a;have nb:=absN b;unfold Sm at W j;refine zp (λu w'=>u=[]/\w'=w2/\M.xorG n gs a b=((M.putG n gs (M.gateX a b)).1,M.turnI (decide (a<0) != decide (b<0)) (M.putG n gs (M.gateX a b)).2)) ?_ ?_
 .intro J hJ;refine zp (λu w'=>u=[.bool (decide (a=1\/a= -1))]/\w'=w2) ?_ ?_
  .intro N i;refine oZ ?_;refine zb (λc=>i _ _ ⟨by rw[gz (.inl c)],rfl⟩) (λc=>?_)
   try simp only[push_cast]
   refine i _ _ ⟨?_,rfl⟩;rw[decide_eq_decide.2 (show(a=1\/a= -1)↔a= -1 from⟨λh=>h.elim (λh=>absurd h c) id,.inr⟩)]
  rintro _ _ C ⟨rfl,rfl⟩;refine oZ ?_;refine zb (λc=>?_) (λc=>?_)
  .rw[o];have e:M.xorG n gs a b=(gs,-a*b):=by
    unfold M.xorG;rcases c with rfl|rfl
    .rw[X0 dC];simp[M.turnI]
    .rw[X0 dC];simp[M.turnI]
   have hm:(-a*b).natAbs=b.natAbs:=by rcases c with rfl|rfl<;>simp
   have k: -a*b≠0:=oM;simp(disch:=omega) only[push_cast,zk,Ga];exact same (-a*b) k e _ rfl
  refine zp (λu w'=>u=[.bool (decide (b=1\/b= -1))]/\w'=C) ?_ ?_
  .intro N i
   try simp only[push_cast]
   refine zb (λc=>i _ _ ⟨by rw[gz (.inl c)],rfl⟩) (λc=>?_)
   try simp only[push_cast]
   refine i _ _ ⟨?_,rfl⟩;rw[decide_eq_decide.2 (show(b=1\/b= -1)↔b= -1 from⟨λh=>h.elim (λh=>absurd h c) id,.inr⟩)]
  rintro _ _ w4 ⟨rfl,rfl⟩;refine oZ ?_;have c1: ¬M.absI a=1:=oM;refine zb (λd=>?_) (λd=>?_)
  .rw[o];have e:M.xorG n gs a b=(gs,-b*a):=by
    unfold M.xorG;rw[y3 c1];rcases d with rfl|rfl
    .rw[X0 dC];simp[M.turnI]
    .rw[X0 dC];simp[M.turnI]
   have hm:(-b*a).natAbs=a.natAbs:=by rcases d with rfl|rfl<;>simp
   have k: -b*a≠0:=oM;simp(disch:=omega) only[push_cast,zk,Ga];exact same (-b*a) k e _ rfl
  have c2: ¬M.absI b=1:=oM
  try simp only[push_cast]
  refine zb (λf=>?_) (λf=>?_)
  .rw[o];exact same (-1) dC (by unfold M.xorG;rw[y3 c1,y3 c2,X0 f]) _ rfl
  try simp(disch:=omega) only[push_cast,zk,Ga]
  refine zb (λf2=>?_) (λf2=>?_)
  .rw[o];exact same 1 dC (by unfold M.xorG;rw[y3 c1,y3 c2,y3 f,X0 f2]) _ rfl
  exact hJ _ _ ⟨rfl,rfl,by unfold M.xorG;rw[y3 c1,y3 c2,y3 f,y3 f2]⟩
 rintro _ _ C ⟨rfl,rfl,hx⟩;rw[hx] at O;have ac:=put_abs (g:=M.gateX a b) z hn;refine zp (λu w'=>u=[nI (if a<0 then-1 else 1)]/\w'=C) ?_ ?_
 .intro N i;refine oZ ?_;refine zb (λc=>?_) (λc=>?_)
  .simp(disch:=omega) only[push_cast,zk,Ga];exact i _ _ ⟨by rw[X0 c],rfl⟩
  .exact i _ _ ⟨by rw[y3 c],rfl⟩
 rintro _ _ w4 ⟨rfl,rfl⟩;refine zp (λu w'=>u=[nI (if(decide (a<0) != decide (b<0)) then-1 else 1)]/\w'=w4) ?_ ?_
 .intro N i;refine oZ ?_;refine zb (λc=>?_) (λc=>?_)
  .by_cases d:a<0
   .rw[X0 d];simp(disch:=omega) only[push_cast,zk,Ga];exact i _ _ ⟨by simp[c,d],rfl⟩
   .rw[y3 d];simp(disch:=omega) only[push_cast,zk,Ga];exact i _ _ ⟨by simp[c,d],rfl⟩
  .refine i _ _ ⟨?_,rfl⟩;by_cases d:a<0<;>simp[c,d]
 rintro _ _ w5 ⟨rfl,rfl⟩;refine l4Abs_sm W (l4Abs_sm j ?_);refine zp (λu w'=>u=[nI (M.gateX a b).a,nI (M.gateX a b).b]/\w'=w5) ?_ ?_
 .intro N i
  try simp only[push_cast]
  unfold M.gateX at i;refine zb (λc=>?_) (λc=>?_)
  .rw[X0 c] at i;exact l4Abs_sm j (l4Abs_sm W (i _ _ ⟨rfl,rfl⟩))
  .rw[y3 c] at i;exact i _ _ ⟨rfl,rfl⟩
 rintro _ _ w6 ⟨rfl,rfl⟩
 try simp only[push_cast]
 rw[o,Zz0,show(⟨true,(M.gateX a b).a,(M.gateX a b).b⟩:M.Gt)=M.gateX a b from by unfold M.gateX;split<;>rfl];refine sput_spec (D:=λb=>D b\/b=b2) hn (Sl.weaken (Sl.ext a0 R) λb j z hd=>hd.elim j.1 λe=>by have:=j.2;omega) z (λb j=>j.elim (λh=>by have:=hD b h;omega) λh=>oM) λw7 n' a4 v X a1 a3=>?_;refine oZ ?_;have q:=NetO.put X a1 a3 (put_len z);generalize [nI (n':Nat),a4]=cs at q⊢;generalize ab:(M.putG n gs (M.gateX a b)).2=pm at*;have r:=q.len;refine zi j5 λb8 w8 aa m af U=>?_;have a5:=q.same (Same.of_ext m (S:=λ_=>False)) λb j=>j.elim;refine U.stAgg (cs':=cs) (by rw[r];rfl) (by rw[r];exact y5) q.one λw9 A ag V=>?_;rw[V.ldAgg (t:=zx) (by rw[r];exact y5)];have hmul:(if(decide (a<0) != decide (b<0))=true then(-1:Int) else 1)*pm=M.turnI (decide (a<0) != decide (b<0)) pm:=by
  unfold M.turnI;split<;>omega
 try simp only[push_cast]
 rw[hmul,zk (by have:=Kf (c:=decide (a<0) != decide (b<0)) (a:=pm);omega) (by have:=Kf (c:=decide (a<0) != decide (b<0)) (a:=pm);omega)];have l7:=v.size;have l8:=m.size;have G:=((F.ext v).ext m).same A (show¬b2=b8 by omega);refine net_out G rfl q.len q.one λw10 p=>?_;have e9:Ext w w9:=Ext.then ((R.trans v).trans m) A λy B=>by subst B;omega
 refine O w10 _ (Ext.then e9 p λy B=>by subst B;omega) ?_;have h9:Ext w7 w9:=Ext.then m A λy B=>by subst B;omega
 have l:=((q.same (Same.of_ext h9 (S:=λ_=>False)) λb j=>j.elim).same p λb j=> .inr j).weak (Y:=D) λb j=> .inl j;unfold NetO at l⊢;by_cases k:pm=0
 .rw[X0 k] at l;rw[X0 (M.turn_zero.2 k)];exact l
 .rw[y3 k] at l;rw[y3 (λh=>k (M.turn_zero.1 h))];exact l
end
section
variable {w:World} {K:oK} {D F Y S:oA} {n b4 b8:Nat} {gs:M.Gs} {v:Value} {cs cs':List Value} {st st':Option M.Gs} {a b c m x y r:Int}
def MkR (n:Nat) (D:oA) (w:World) (cs:List Value) (st:Option M.Gs):Prop:=
 match st with
 |some gs=> ∃o l c,cs=[nI n,.slice o l c,.bool true]/\GOff D w (.slice o l c) gs/\gs.length<=600
 |none=>cs=[nI 0,.slice none 0 0,.bool false]
theorem MkR.form (h:MkR n D w cs st):∃(x:Int) (o:Option Addr) (l c:Nat) (b:Bool),cs=[nI x,.slice o l c,.bool b]:=by
 cases st with
 |none=>exact⟨_,_,_,_,_,h⟩
 |some gs=>obtain⟨o,l,c,e,_⟩:=h;exact⟨_,_,_,_,_,e⟩
theorem MkR.len (h:MkR n D w cs st):cs.length=3:=by obtain⟨x,o,l,c,b,rfl⟩:=h.form;rfl
theorem MkR.one (h:MkR n D w cs st):∀u,u∈cs->u.oneCell'=true:=by
 obtain⟨x,o,l,c,b,rfl⟩:=h.form;intro u hu;simp only[gj,gC,Gn] at hu;rcases hu with rfl|rfl|rfl<;>rfl
theorem MkR.swap {w':World} (h:MkR n D w cs st) (hw:Same S w w') (f:∀b,S b->D b) (g:∀b,Y b->b<w.heap.size->D b):MkR n Y w' cs st:=by
 cases st with
 |none=>exact h
 |some gs=>
  obtain⟨o,l,c,e,a,d⟩:=h;exact⟨o,l,c,e,a.swap hw f g,d⟩
theorem MkR.ext {w':World} (h:MkR n D w cs st) (hw:Ext w w') (a:∀b,Y b->b<w.heap.size->D b):MkR n Y w' cs st:=h.swap hw (λ_ h=>h.elim) a
theorem MkR.same {w':World} (h:MkR n D w cs st) (hw:Same S w w') (a:∀b,S b->D b):MkR n D w' cs st:=h.swap hw a λ_ h _=>h
def Sn (st:Option M.Gs) (x:Int):Prop:=Sm x/\(x=0->st=none)
def SnL (st:Option M.Gs) (xs:oI):Prop:=∀x,x∈xs->Sn st x
theorem kX0 {α:Type} {p:M.Bd α} {a:α} (h:M.Bd.Out n p st st' a):st=none->st'=none:=λe=>by subst e;exact h.1
theorem Sn.out {α:Type} {p:M.Bd α} {a:α} (h:Sn st x) (b:M.Bd.Out n p st st' a):Sn st' x:=⟨h.1,λe=>kX0 b (h.2 e)⟩
theorem SnL.out {α:Type} {p:M.Bd α} {a:α} {xs:oI} (h:SnL st xs) (b:M.Bd.Out n p st st' a):SnL st' xs:=λx c=>(h x c).out b
theorem Sn.neg (h:Sn st x):Sn st (-x):=⟨by have:=h.1;unfold Sm at*;omega,λe=>h.2 oM⟩
theorem Sn.nz (h:Sn (some gs) x):x≠0:=λe=>by have:=h.2 e;cases this
theorem Sn.of (h:Sm x) (a:x≠0):Sn st x:=⟨h,λe=>absurd e a⟩
theorem SnL.get {xs:oI} (h:SnL st xs) {i:Nat} (hi:i<xs.length):Sn st (xs.getD i 0):=h _ (M.getD_mem hi 0)
theorem SnL.app {xs ys:oI} (h:SnL st xs) (a:SnL st ys):SnL st (xs++ys):=λx b=>(gl.1 b).elim (h x) (a x)
theorem SnL.one (h:Sn st x):SnL st [x]:=λy a=>by rw[gx.1 a];exact h
theorem SnL.nil:SnL st []:=λx a=>by cases a
theorem SnL.sm {xs:oI} (h:SnL st xs):SmL xs:=λx a=>(h x a).1
theorem SnL.fill (m:Nat):SnL st (M.offsL m):=λx a=>by rw[G8 a];exact Sn.of dC dC
theorem SnL.neg {xs:oI} (h:SnL st xs):SnL st (M.negL xs):=λx a=>by
 obtain⟨y,b,rfl⟩:=gy.1 a;exact(h y b).neg
theorem YB0 {x:Int} {o:Option Addr} {l c:Nat} {b:Bool}:yA zC [(0,.agg ⟨[nI x,.slice o l c]⟩),(1,.bool b)] w K=K (.agg ⟨[nI x,.slice o l c,.bool b]⟩) w:=zU xl0 (us:=[[nI x,.slice o l c],[.bool b]]) rfl rfl
theorem KW {b4:Nat} (a:Blk w b4 cs zC) (h:cs.length=3):zu zC (oP b4 0) w K=K (.agg ⟨cs⟩) w:=a.ldAgg (t:=zC) (by rw[h];exact jf)
theorem mk_put {b4:Nat} {a:List Value} (c:Blk w b4 a zC) (f:a.length=3) (e:cs.length=3) (b:∀u,u∈cs->u.oneCell'=true) (d:∀w',Same (· =b4) w w'->w'.heap.size=w.heap.size->Blk w' b4 cs zC->K undef w'):zG zC (oP b4 0) (.agg ⟨cs⟩) w K:=
 c.stAgg (cs':=cs) oM (by rw[e];exact jf) b d
theorem Ju {b8:Nat} {a:List Value} (f:Blk w b8 a zC) (d:a.length=3) (c:cs.length=3) (e:∀u,u∈cs->u.oneCell'=true) (g:∀w',Same (· =b8) w w'->K (.agg ⟨cs⟩) w'):
  zG zC (oP b8 0) (.agg ⟨cs⟩) w λ_ w1=>vlv zC (oP b8 0) w1 K:=
 mk_put f d c e λw1 hs h b=>by
  rw[b.lv (t:=zC) (by rw[c];exact jf)];exact g w1 hs
theorem sand7_spec (hn:n<=8) (Z:MkR n D w cs st) (hD:∀b,D b->b<w.heap.size) (hx:Sn st x) (H:Sn st y)
  (U:∀w' cs' st' r,Ext w w'->MkR n D w' cs' st'->Sn st' r->M.Bd.Out n (.and x y .ret) st st' r->K (.tuple #[.agg ⟨cs'⟩,nI r]) w'):
  vcall zX0 #[.agg ⟨cs⟩,nI x,nI y] w K:=by
 refine ze {} Tryz.func157 ?_;refine zj λb3 w1 a3 E a7 Q=>?_;refine zi xA λb6 w2 a4 p a8 z=>?_;have N:=E.trans p;have d:=Q.ext p;have z1:=E.size;have z2:=p.size;cases st with
 |none=>
  have V:cs=[nI 0,oN,.bool false]:=Z;subst V;simp(disch:=exact oS) only[push_cast,d.ld2,Pj,KW d rfl];refine Ju z rfl rfl Z.one λw3 a1=>?_;exact U w3 _ none 1 (Ext.then N a1 λb e=>oM) rfl (Sn.of dC dC) ⟨rfl,1,rfl⟩
 |some gs=>
  obtain⟨o,l,c,rfl,hg,I⟩:=Z;have G:zu zx (oP b3 0) w2=λK=>K (.agg ⟨[nI n,.slice o l c]⟩) w2:=by
   funext K;exact Blk.ldTake (us:=[nI n,.slice o l c]) (r:=[.bool true]) d y5
  simp(disch:=exact oS) only[push_cast,d.ld2,Gp,yw,G7,G];have W:GOff (λb=>D b\/b=b3\/b=b6) w2 (.slice o l c) gs:=hg.swap N (λ_ h=>h.elim) λb e I=>e.elim id λh=>oM;refine sand6_spec hn W I (λb e=>e.elim (λh=>by have:=hD b h;omega) λh=>oM) hx.1 H.1 hx.nz H.nz λw3 J q j=>?_;have hlen:gs.length<=600:=I;have C:=k50 (gs:=gs) (n:=n) I hn hx.1 H.1;have f:(M.Bd.and x y .ret:M.Bd Int).run n gs=if(M.andG n gs x y).2=0 then none else some ((M.andG n gs x y).1,(M.andG n gs x y).2):=rfl
  generalize a6:(M.andG n gs x y).1=v at*;generalize (M.andG n gs x y).2=m at*;refine oZ ?_;have k:=j.len;refine zi j5 λb8 w8 a5 F a9 R=>?_;refine R.stAgg (cs':=J) (by rw[k];rfl) (by rw[k];exact y5) j.one λw9 a2 aa T=>?_;have z3:=q.size;have z8:=F.size;have O:Ext w3 w9:=Ext.then F a2 λy H=>by subst H;omega
  have B:=j.same (Same.of_ext O (S:=λ_=>False)) λb e=>e.elim;rw[T.ldAgg (t:=zx) (by rw[k];exact y5)];obtain⟨x3,o3,l3,c3,rfl⟩:=B.form;simp only[push_cast,YB0];have A:=(z.ext (q.trans O));refine Ju A rfl rfl (λu hu=>by simp only[gj,gC,Gn] at hu;rcases hu with rfl|rfl|rfl<;>rfl) λw10 g=>?_;have s:Ext w w10:=Ext.then (N.trans (q.trans O)) g λb e=>oM;have a:=(B.same g λb e=> .inr (.inr e)).weak (Y:=D) λb e=> .inl e;by_cases hm:m=0
  .subst hm;unfold NetO at a;rw[X0 rfl] at a;simp only[Gg,Gh] at a;obtain⟨L,i⟩:=a;rw[L,i];refine U w10 _ none 0 s rfl ⟨dC,λ_=>rfl⟩ (.inr ⟨by rw[f,X0 rfl],rfl,0,rfl⟩)
  .unfold NetO at a;rw[y3 hm] at a;obtain⟨o4,l4,c4,e4,X,a0⟩:=a;simp only[Gg,Gh] at e4;obtain⟨L,i⟩:=e4;rw[L,i,gz hm];refine U w10 _ (some v) m s ⟨o4,l4,c4,rfl,X,a0⟩ (Sn.of C hm) (.inl ⟨v,by rw[f,y3 hm],rfl⟩)
theorem sxor7_spec (hn:n<=8) (Z:MkR n D w cs st) (hD:∀b,D b->b<w.heap.size) (hx:Sn st x) (H:Sn st y)
  (U:∀w' cs' st' r,Ext w w'->MkR n D w' cs' st'->Sn st' r->M.Bd.Out n (.xor x y .ret) st st' r->K (.tuple #[.agg ⟨cs'⟩,nI r]) w'):
  vcall zQ0 #[.agg ⟨cs⟩,nI x,nI y] w K:=by
 refine ze {} Tryz.func220 ?_;refine zj λb3 w1 a3 E a7 Q=>?_;refine zi xA λb6 w2 a4 p a8 z=>?_;have N:=E.trans p;have d:=Q.ext p;have z1:=E.size;have z2:=p.size;cases st with
 |none=>
  have V:cs=[nI 0,oN,.bool false]:=Z;subst V;simp(disch:=exact oS) only[push_cast,d.ld2,Pj,KW d rfl];refine Ju z rfl rfl Z.one λw3 a1=>?_;exact U w3 _ none 1 (Ext.then N a1 λb e=>oM) rfl (Sn.of dC dC) ⟨rfl,1,rfl⟩
 |some gs=>
  obtain⟨o,l,c,rfl,hg,I⟩:=Z;have G:zu zx (oP b3 0) w2=λK=>K (.agg ⟨[nI n,.slice o l c]⟩) w2:=by
   funext K;exact Blk.ldTake (us:=[nI n,.slice o l c]) (r:=[.bool true]) d y5
  simp(disch:=exact oS) only[push_cast,d.ld2,Gp,yw,G7,G];have W:GOff (λb=>D b\/b=b3\/b=b6) w2 (.slice o l c) gs:=hg.swap N (λ_ h=>h.elim) λb e I=>e.elim id λh=>oM;refine sxor6_spec hn W I (λb e=>e.elim (λh=>by have:=hD b h;omega) λh=>oM) hx.1 H.1 hx.nz H.nz λw3 J q j=>?_;have hlen:gs.length<=600:=I;have C:=qQ0 (gs:=gs) (n:=n) I hn hx.1 H.1;have f:(M.Bd.xor x y .ret:M.Bd Int).run n gs=if(M.xorG n gs x y).2=0 then none else some ((M.xorG n gs x y).1,(M.xorG n gs x y).2):=rfl
  generalize a6:(M.xorG n gs x y).1=v at*;generalize (M.xorG n gs x y).2=m at*;refine oZ ?_;have k:=j.len;refine zi j5 λb8 w8 a5 F a9 R=>?_;refine R.stAgg (cs':=J) (by rw[k];rfl) (by rw[k];exact y5) j.one λw9 a2 aa T=>?_;have z3:=q.size;have z8:=F.size;have O:Ext w3 w9:=Ext.then F a2 λy H=>by subst H;omega
  have B:=j.same (Same.of_ext O (S:=λ_=>False)) λb e=>e.elim;rw[T.ldAgg (t:=zx) (by rw[k];exact y5)];obtain⟨x3,o3,l3,c3,rfl⟩:=B.form;simp only[push_cast,YB0];have A:=(z.ext (q.trans O));refine Ju A rfl rfl (λu hu=>by simp only[gj,gC,Gn] at hu;rcases hu with rfl|rfl|rfl<;>rfl) λw10 g=>?_;have s:Ext w w10:=Ext.then (N.trans (q.trans O)) g λb e=>oM;have a:=(B.same g λb e=> .inr (.inr e)).weak (Y:=D) λb e=> .inl e;by_cases hm:m=0
  .subst hm;unfold NetO at a;rw[X0 rfl] at a;simp only[Gg,Gh] at a;obtain⟨L,i⟩:=a;rw[L,i];refine U w10 _ none 0 s rfl ⟨dC,λ_=>rfl⟩ (.inr ⟨by rw[f,X0 rfl],rfl,0,rfl⟩)
  .unfold NetO at a;rw[y3 hm] at a;obtain⟨o4,l4,c4,e4,X,a0⟩:=a;simp only[Gg,Gh] at e4;obtain⟨L,i⟩:=e4;rw[L,i,gz hm];refine U w10 _ (some v) m s ⟨o4,l4,c4,rfl,X,a0⟩ (Sn.of C hm) (.inl ⟨v,by rw[f,y3 hm],rfl⟩)
theorem sor7_spec (O:n<=8) (s:MkR n D w cs st) (hD:∀b,D b->b<w.heap.size) (F:Sn st x) (G:Sn st y)
  (J:∀w' cs' st' r,Ext w w'->MkR n D w' cs' st'->Sn st' r->M.Bd.Out n (M.orB x y) st st' r->K (.tuple #[.agg ⟨cs'⟩,nI r]) w'):
  vcall x90 #[.agg ⟨cs⟩,nI x,nI y] w K:=by
 refine ze {} Tryz.func158 ?_;refine zj λb3 w1 L j Q o=>?_;refine zi xA λC w2 N e R p=>?_;have E:=j.trans e;have d:=o.ext e;have W:=j.size;have z2:=e.size;have z:=F.1;have A:=G.1;unfold Sm at z A;simp(disch:=omega) only[push_cast,KW d s.len,zk,Ga];have t:MkR n (λb=>D b\/b=b3\/b=C) w2 cs st:=s.ext E λb c T=>c.elim id λh=>oM
 refine sand7_spec O t (λb c=>c.elim (λh=>by have:=hD b h;omega) λh=>oM) F.neg G.neg λU m B r f a k u=>?_;have v:=k.1;unfold Sm at v;refine oZ ?_;refine mk_put (d.ext f) s.len a.len a.one λV g S q=>?_;have i:=(p.ext f).same g (show¬C=b3 by omega);simp(disch:=omega) only[push_cast,KW q a.len,zk,Ga];refine Ju i rfl a.len a.one λH l=>?_;have I:Ext w H:=Ext.then (Ext.then (E.trans f) g λb c=>oM) l λb c=>oM
 exact J H m B (-r) I ((a.same g λb c=> .inr (.inl c)).swap l (λb c=> .inr (.inr c)) λb c _=> .inl c) k.neg (xI u (M.Bd.Out.ret _ _))
theorem sone7_spec (S:n<=8) (N:MkR n D w cs st) (hD:∀b,D b->b<w.heap.size) (J:Sn st c) (hx:Sn st x) (hy:Sn st y)
  (hK:∀w' cs' st' r,Ext w w'->MkR n D w' cs' st'->Sn st' r->M.Bd.Out n (M.muxB c x y) st st' r->K (.tuple #[.agg ⟨cs'⟩,nI r]) w'):
  vcall zR0 #[.agg ⟨cs⟩,nI c,nI x,nI y] w K:=by
 refine ze {} Tryz.func219 ?_;refine zj λb3 w1 a2 z a4 G=>?_;refine zi xA λE w2 a3 k a5 H=>?_;have Y:=z.trans k;have i:=G.ext k;have z1:=z.size;have z2:=k.size;have L:=J.1;unfold Sm at L;rw[KW i N.len];have O:MkR n (λb=>D b\/b=b3\/b=E) w2 cs st:=N.ext Y λb a hl=>a.elim id λh=>oM
 have j:∀b,(D b\/b=b3\/b=E)->b<w2.heap.size:=λb a=>a.elim (λh=>by have:=hD b h;omega) λh=>oM
 refine sand7_spec S O j J hx λw3 a0 a8 p e d U m=>?_;refine oZ ?_;refine mk_put (i.ext e) N.len d.len d.one λw4 o a6 v=>?_;have z3:=e.size;have t:=(H.ext e).same o (show¬E=b3 by omega);have Q:=d.same o λb a=> .inr (.inl a);simp(disch:=omega) only[push_cast,KW v d.len,zk,Ga];refine sand7_spec S Q (λb a=>by have:=j b a;omega) (J.out m).neg (hy.out m) λw5 a1 a9 q f g V B=>?_;refine oZ ?_;refine mk_put (v.ext f) d.len g.len g.one λw6 s a7 I=>?_;have z5:=f.size;have u:=(t.ext f).same s (show¬E=b3 by omega);have R:=g.same s λb a=> .inr (.inl a);rw[KW I g.len];refine sor7_spec S R (λb a=>by have:=j b a;omega) (U.out B) V λw7 F X r A l W T=>?_;refine oZ ?_;refine Ju (u.ext A) rfl l.len l.one λZ C=>?_;have e6:Ext w w6:=Ext.then ((Ext.then (Y.trans e) o λb a=>oM).trans f) s λb a=>oM
 have e8:Ext w Z:=Ext.then (e6.trans A) C λb a=>oM
 exact hK Z F X r e8 (l.swap C (λb a=> .inr (.inr a)) λb a _=> .inl a) W (xI m (xI B T))
end
section
variable {w:World} {K:oK} {D F Fx Fy Y S O:oA} {n b4 b8:Nat} {v xv yv:Value} {cs cs':List Value} {st st':Option M.Gs} {a b c m x y r:Int} {xs ys:oI}
abbrev YU0 (D O:oA) (b4 b8:Nat):oA:=λb=>D b\/b=b4\/b=b8\/O b
structure Fm (n:Nat) (D O:oA) (w0:World) (b4 b8:Nat) (w:World) (st:Option M.Gs):Prop where
 ext:Ext w0 w
 k:∃cs,Blk w b4 cs zC/\MkR n (YU0 D O b4 b8) w cs st
 r:∃cs,Blk w b8 cs zC/\cs.length=3
 lo:w0.heap.size<=b4/\w0.heap.size<=b8/\b4≠b8
 off:∀b,O b->b<w.heap.size/\w0.heap.size<=b/\b≠b4/\b≠b8
 dlt:∀b,D b->b<w0.heap.size
theorem Fm.start (k:MkR n D w cs st) (hD:∀b,D b->b<w.heap.size) {K:Value->oK} (f:∀b4 b8 w',Fm n D (λ_=>False) w b4 b8 w' st->K (oP b4 0) (oP b8 0) w'):
  yO0 zC (.agg ⟨cs⟩) w λt w1=>xS zC w1 λt8 w2=>K t t8 w2:=by
 refine zj λb4 w1 i c l d=>?_;refine zi xA λb8 w2 j a m e=>?_;refine f b4 b8 w2 ⟨c.trans a,⟨cs,d.ext a,k.ext (c.trans a) λb g o=>g.elim id λh=>?_⟩,⟨_,e,rfl⟩,oM,λb h=>h.elim,hD⟩;rcases h with h|h|h
 .omega
 .omega
 .exact h.elim
section
variable {w0 w':World}
theorem Fm.lt4 (h:Fm n D O w0 b4 b8 w st):b4<w.heap.size/\b8<w.heap.size:=by
 obtain⟨_,a,_⟩:=h.k;obtain⟨_,b,_⟩:=h.r;exact⟨a.lt,b.lt⟩
theorem Fm.dl (h:Fm n D O w0 b4 b8 w st):∀b,YU0 D O b4 b8 b->b<w.heap.size:=λb c=>by
 have l:=h.lt4;have s:=h.ext.size;rcases c with a|a|a|a
 .have:=h.dlt b a;omega
 .omega
 .omega
 .exact(h.off b a).1
theorem Fm.grow (h:Fm n D O w0 b4 b8 w st) (he:Ext w w'):Fm n D O w0 b4 b8 w' st:=by
 obtain⟨cs,c,d⟩:=h.k;obtain⟨a,e,f⟩:=h.r;exact⟨h.ext.trans he,⟨cs,c.ext he,d.ext he λ_ h _=>h⟩,⟨a,e.ext he,f⟩,h.lo,λb i=>by have g:=h.off b i;have:=he.size;exact⟨oM,g.2⟩,h.dlt⟩
theorem Fm.call (h:Fm n D O w0 b4 b8 w st):∃cs,MkR n (YU0 D O b4 b8) w cs st/\∀w',Ext w w'->∀K:oK,zu zC (oP b4 0) w' K=K (.agg ⟨cs⟩) w':=by
 obtain⟨cs,b,a⟩:=h.k;exact⟨cs,a,λw' he K=>KW (b.ext he) a.len⟩
theorem Fm.put (h:Fm n D O w0 b4 b8 w st) (he:Ext w w') (c:MkR n (YU0 D O b4 b8) w' cs' st') (o:∀w'',Fm n D O w0 b4 b8 w'' st'->Same (· =b4) w' w''->w''.heap.size=w'.heap.size->K undef w''):
  zG zC (oP b4 0) (.agg ⟨cs'⟩) w' K:=by
 obtain⟨cs,f,g⟩:=h.k;obtain⟨d,i,j⟩:=h.r;refine mk_put (f.ext he) g.len c.len c.one λw'' hs p m=>o w'' ⟨Ext.then (h.ext.trans he) hs λb a=>by have:=h.lo;omega,⟨cs',m,c.same hs λb a=> .inr (.inl a)⟩,⟨d,(i.ext he).same hs λe=>h.lo.2.2 e.symm,j⟩,h.lo,λb a=>?_,h.dlt⟩ hs p;have l:=h.off b a;have:=he.size;exact⟨oM,l.2⟩
theorem Fm.own {O':oA} (h:Fm n D O w0 b4 b8 w st) (hw:Same S w w') (e:∀b,S b->O b) (hO:∀b,O' b->b<w'.heap.size/\(O b\/w.heap.size<=b)):Fm n D O' w0 b4 b8 w' st:=by
 obtain⟨cs,a,i⟩:=h.k;obtain⟨g,j,m⟩:=h.r;have l:=h.lt4;have s:=h.ext.size;refine⟨Ext.then h.ext hw λb c=>(h.off b (e b c)).2.1,⟨cs,a.same hw λhs=>(h.off _ (e _ hs)).2.2.1 rfl,i.swap hw (λb c=> .inr (.inr (.inr (e b c)))) λb c o=>?_⟩,⟨g,j.same hw λhs=>(h.off _ (e _ hs)).2.2.2 rfl,m⟩,h.lo,λb c=>?_,h.dlt⟩
 .rcases c with a|a|a|a
  .exact .inl a
  .exact .inr (.inl a)
  .exact .inr (.inr (.inl a))
  .exact(hO b a).2.elim (λh=> .inr (.inr (.inr h))) λh=>oM
 .obtain⟨f,d⟩:=hO b c;rcases d with d|d
  .have:=h.off b d;exact⟨f,this.2⟩
  .exact⟨f,oM,oM,oM⟩
theorem Fm.fin (h:Fm n D O w0 b4 b8 w st) (g:∀w' cs,Ext w0 w'->MkR n D w' cs st->Same (· =b8) w w'->K (.agg ⟨cs⟩) w'):
  zu zC (oP b4 0) w λt w1=>zG zC (oP b8 0) t w1 λ_ w2=>vlv zC (oP b8 0) w2 K:=by
 obtain⟨cs,d,a⟩:=h.k;obtain⟨i,e,f⟩:=h.r;rw[KW d a.len];exact Ju e f a.len a.one λw' hs=>g w' cs (Ext.then h.ext hs λb c=>by have:=h.lo;omega) (a.swap hs (λb c=> .inr (.inr (.inl c))) λb c _=> .inl c) hs
theorem Fm.out (h:Fm n D O w0 b4 b8 w st) (he:Ext w w') (c:MkR n (YU0 D O b4 b8) w' cs' st') (f:∀w'',Ext w0 w''->MkR n D w'' cs' st'->Same (· =b8) w' w''->K (.agg ⟨cs'⟩) w''):
  zG zC (oP b8 0) (.agg ⟨cs'⟩) w' λ_ w2=>vlv zC (oP b8 0) w2 K:=by
 obtain⟨g,d,e⟩:=h.r;exact Ju (d.ext he) e c.len c.one λw'' hs=>f w'' (Ext.then (h.ext.trans he) hs λb a=>by have:=h.lo;omega) (c.swap hs (λb a=> .inr (.inr (.inl a))) λb a _=> .inl a) hs
end
abbrev O1 (v:Value):oA:=λb=>v.ownBlock=some b
abbrev Low (w:World):oA:=λb=>b<w.heap.size
theorem Ints.under (h:Ints Fx w xv xs):Ints (Low w) w xv xs:=Ints.weaken h λ_ _ a=>a
theorem Ints.ext0 {w0 w:World} (h:Ints (Low w0) w0 xv xs) (he:Ext w0 w):Ints (Low w0) w xv xs:=Ints.ext h he
theorem Fm.app {w0:World} {zs:oI} {x:Int} {ty:Nat} (h:Fm n D (O1 v) w0 b4 b8 w st) (l:OwnI zh w v zs) (q:zs.length<=1000000)
  (j:∀v' w',Fm n D (O1 v') w0 b4 b8 w' st->OwnI zh w' v' (zs++[x])->Ext w0 w'->K v' w'):
  vbuildS zh 1 [(0,nI x)] w λt w1=>vbi .append [zh,zh] ty [v,t] w1 K:=by
 refine zB xt yM xJ rfl rfl λp r k a m e=>?_;refine(l.ext a).app1 xC e oM oM λv6 o c g f=>?_;have i:=(h.grow a).own (O':=O1 v6) g (λb d=>d) λb d=>⟨c.lt d,f b d⟩;exact j v6 o i c i.ext
theorem Fm.nil {w0:World} (h:Fm n D (λ_=>False) w0 b4 b8 w st) (j:∀v' w',Fm n D (O1 v') w0 b4 b8 w' st->OwnI zh w' v' []->Ext w0 w'->K v' w'):vbuildS zh 0 [] w K:=by
 refine yc xt yM λa i k f m c=>?_;have l:OwnI zh i (.slice (some ⟨a,0,none⟩) 0 0) []:=Blk.own1 (t:=zh) (cs:=[]) (by rw[qB];exact c) (Gf _) rfl rfl oM;have g:=h.own (O':=O1 (.slice (some ⟨a,0,none⟩) 0 0)) (S:=λ_=>False) f (λb d=>d) λb d=>by
  have e:a=b:=V1 d;exact⟨oM,.inr oM⟩
 exact j _ i g l g.ext
theorem sadd7_spec (hn:n<=8) (hk:MkR n D w cs st) (hD:∀b,D b->b<w.heap.size) (O:Ints Fx w xv xs) (hy:Ints Fy w yv ys) (hl:xs.length<=ys.length) (h8:xs.length<=1000) (b1:SnL st xs) (b2:SnL st ys) (hc:Sn st c)
  (hK:∀w' cs' st' r zs,Ext w w'->MkR n D w' cs' st'->OwnI zh w' r zs->(∀b,r.ownBlock=some b->w.heap.size<=b)->SnL st' zs->M.Bd.Out n (M.sumB xs ys c) st st' zs->K (.tuple #[.agg ⟨cs'⟩,r]) w'):
  vcall zY0 #[.agg ⟨cs⟩,xv,yv,nI c] w K:=by
 refine ze {loops:=[(3,[3,10,11])]} Tryz.func160 ?_;refine Fm.start hk hD λb4 b8 w1 h1=>?_;refine h1.nil λv2 w2 h2 aw e2=>?_;have Q:=Ints.under O;have ag:=Ints.under hy;refine vloop_up xs.length (λi u w'=> ∃k r zs c1,u=[nI c1,r,nI i]/\Fm n D (O1 r) w b4 b8 w' k/\OwnI zh w' r zs/\zs.length=i/\SnL k zs/\SnL k xs/\SnL k ys/\Sn k c1/\
  ∀st2 rs,M.Bd.Out n (M.sumB (xs.drop i) (ys.drop i) c1) k st2 rs->M.Bd.Out n (M.sumB xs ys c) st st2 (zs++rs)) ⟨st,_,[],c,rfl,h2,aw,rfl,SnL.nil,b1,b2,hc,λ_ _ h=>h⟩ ?_
 rintro i _ g w3 C hi ⟨ak,r3,zs,c3,rfl,R,aa,b3,aj,A,E,V,z⟩ hC;have b0:=Ints.ext0 Q R.ext;simp(disch:=exact oS) only[push_cast,b0.len];refine zb (λbp=>?_) (λbo=>?_)
 .have m:i<xs.length:=oM;refine zd λw4 W _=>?_;have S:=R.grow W;have ae:=Ints.ext0 Q S.ext;have ah:=Ints.ext0 ag S.ext;obtain⟨c4,J,a5⟩:=S.call;simp(disch:=exact oS) only[push_cast,ae.iaddr,ae.load,ah.iaddr,ah.load,k5,a5 w4 (Same.refl _ _)];refine sxor7_spec hn J S.dl (A.get m) (E.get oM) λw5 bl bs d X aq hd f=>?_;simp only[push_cast,k5];refine S.put X aq λw6 h6 ay bq=>?_;obtain⟨c6,ar,a6⟩:=h6.call;simp only[push_cast,k5,gi,a6 w6 (Same.refl _ _)];refine sxor7_spec hn ar h6.dl hd (V.out f) λw7 bm b6 s Y au hs j=>?_;simp only[push_cast,k5];refine h6.put Y au λw8 ao az br=>?_;refine zd λw9 Z _=>?_;have T:=ao.grow Z;have af:=Ints.ext0 Q T.ext;have ai:=Ints.ext0 ag T.ext;obtain⟨c9,av,a7⟩:=T.call;simp(disch:=exact oS) only[push_cast,af.iaddr,af.load,ai.iaddr,ai.load,k5,a7 w9 (Same.refl _ _)];have B:=(A.out f).out j;have F:=(E.out f).out j;refine sand7_spec hn av T.dl (B.get m) (F.get oM) λw10 bb bh p o a0 hp a=>?_;simp only[push_cast,k5];refine T.put o a0 λb7 H ab be=>?_;obtain⟨bj,a1,L⟩:=H.call;simp only[push_cast,k5,gi,L b7 (Same.refl _ _)];refine sand7_spec hn a1 H.dl ((hd.out j).out a) (((V.out f).out j).out a) λbt bc bi q t a2 hq l=>?_;simp only[push_cast,k5];refine H.put t a2 λb9 I ac bf=>?_;obtain⟨bk,a3,N⟩:=I.call;simp only[push_cast,k5,gi,N b9 (Same.refl _ _)];refine sor7_spec hn a3 I.dl (hp.out l) hq λbu bd G c2 v a4 ap y=>?_;simp only[push_cast,k5];refine I.put v a4 λba am ad bg=>?_;have a8:OwnI zh ba r3 zs:=by
   have off:∀b,r3.ownBlock=some b->¬b=b4:=λb U=>(R.off b U).2.2.1;exact((((((((((aa.ext W).ext X).same ay off).ext Y).same az off).ext Z).ext o).same ab off).ext t).same ac off|>.ext v).same ad off
  refine am.app a8 oM λb5 bv an a9 bn=>?_;simp(disch:=omega) only[push_cast,zk];have up:∀{x},Sn b6 x->Sn G x:=λh=>((h.out a).out l).out y;refine hC m _ _ ⟨G,b5,zs++[s],c2,by simp<;>exact⟨rfl,rfl⟩,an,a9,by simp[b3],SnL.app (λx O=>up (((aj x O).out f).out j)) (SnL.one (up hs)),λx O=>up (B x O),λx O=>up (F x O),ap,λst2 rs ho=>?_⟩;have:=z st2 (s::rs) ?_
  .simpa using this
  rw[yY m,yY (show i<ys.length by omega)];exact kM f (kM j (xI a (xI l (M.Bd.Out.bind y (M.Bd.Out.map _ ho)))))
 .have:=z ak [] (by rw[j90 oM];exact M.Bd.Out.ret _ _);rw[gK] at this;refine R.fin λw4 al e4 J ax=>?_;exact hK w4 al ak r3 zs e4 J (aa.same ax λb U e=>(R.off b U).2.2.2 e) (λb U=>(R.off b U).2.1) aj this
end
end Go.Proofs.YtfnpmncplaibiaaGreatDoor
end
