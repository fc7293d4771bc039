import Derived.Test.YtfjlkobhagjdaaaGreatDoorWzaP5
/- A part of the proof. -/
set_option linter.all false
set_option maxRecDepth 9999
set_option maxHeartbeats 2000000
noncomputable section
namespace Go.Proofs.YtfjlkobhagjdaaaGreatDoor
open Go Go.Vc Go.Proofs
section
variable {w:World} {K:oK} {F:Nat->Prop}
theorem VecSigned_spec {wd n:Int} (h:∀w',Ext w w'->K (nI (if M.vok wd n=true then M.sgn wd n else 0)) w'):vcall Jb #[xY wd n] w K:=by
 refine zf {} Tryz.func398 ?_;refine zk λb1 w1 x c y m=>?_;simp only[push_cast,m.ldAgg (t:=zh) zr];refine VecOk_spec λw2 b=>?_;have u:=m.ext b;refine oZ ?_;refine zn (λg=>?_) (λg=>?_)
 .have:=h w2 (c.trans b);rwa[y3 (by simpa using g)] at this
 .rw[Gb] at g;rw[k6 g] at h;obtain⟨k,a,rfl,rfl,q,r,v⟩:=M.vok_nat g;have C:=pow4 q r;refine zd λw3 d _=>?_;have i:=u.ext d;have l:IntKind.i64.wrap ((k:Int)-1)=((k-1:Nat):Int):=by rw[zl oM oM];omega
  simp only[push_cast,i.ldAgg (t:=zh) zr,i.ld0,y4,l];refine raw_spec oM λA e=>?_;have j:=i.ext e;simp only[push_cast,j.ld0,y4,l,gh];refine bit_spec oM oM ?_;rw[top_bit q r v];have z:=(JN k).symm;have p:(2:Int)^((k:Int).toNat-1)=((2^(k-1):Nat):Int):=(by simp);have D:2^(k-1)<2^k:=Nat.pow_lt_pow_right oM oM;refine zb (λs=>?_) (λs=>?_)
  .refine zd λB f _=>?_;have o:=j.ext f;simp only[push_cast,o.ld0,o.ld1,y4];rw[show(1:Int)=((1:Nat):Int) from rfl,vbin_shlI oM oM,p5];refine⟨rfl,?_⟩;rw[Y6,zl oM oM];refine⟨rfl,?_⟩;have:=h B ((((c.trans b).trans d).trans e).trans f);unfold M.sgn at this;rw[y3 (by rw[p];omega),gq,z] at this;exact this
  .simp only[push_cast,j.ld1];have:=h A (((c.trans b).trans d).trans e);unfold M.sgn at this;rw[k6 (by rw[p];omega)] at this;exact this
theorem VecUn_spec {op wd n:Int} (p:∀w',Ext w w'->K (.tuple #[xY (M.vecUn op wd n).1.1 (M.vecUn op wd n).1.2,.bool (M.vecUn op wd n).2]) w'):vcall zJ0 #[nI op,xY wd n] w K:=by
 refine zf {} Tryz.func376 ?_;refine zk λb1 w1 H q J F=>?_;refine zj zX λb2 w2 I r L g2=>?_;have B:=F.ext r;simp only[push_cast,B.ldAgg (t:=zh) zr];refine VecOk_spec λw3 i=>?_;have C:=B.ext i;have g3:=g2.ext i;have G:=(q.trans r).trans i;have d:∀g v,Ext w3 g->Same (· =b2) g v->Ext w v:=λg v h E=>Ext.then (G.trans h) E λy N=>by subst N;have:=q.size;omega
 simp only[push_cast];unfold M.vecUn at p;refine zn (λj=>?_) (λj=>?_)
 .refine stVec g3 λg l _ g4=>?_;rw[g4.lv rK];have:=p g (d _ _ (Same.refl _ _) l);rwa[y3 (by simp at j;simp[j])] at this
 .rw[Gb] at j;obtain⟨k,a,rfl,rfl,s,u,D⟩:=M.vok_nat j;have Q:=pow4 s u;refine zb (λx=>?_) (λx=>?_)
  .subst x;refine zd λg b _=>?_;have o:=C.ext b;simp only[push_cast,o.ldAgg (t:=zh) zr,y4];refine raw_spec oM λv c=>?_;have z:=o.ext c;have g5:=(g3.ext b).ext c;simp only[push_cast,z.ldAgg (t:=zh) zr,y4,gh];rw[vun_xorU oM];refine⟨rfl,vec_spec oM s u λO f=>?_⟩;refine stVec (g5.ext f) λA m _ g7=>?_;rw[g7.lv rK];have:=p A (d _ _ ((b.trans c).trans f) m);rw[k6 ⟨j,.inl rfl⟩,M.unM_not s u D] at this;exact this
  refine zb (λa2=>?_) (λa2=>?_)
  .subst a2;refine zd λg b _=>?_;have o:=C.ext b;simp only[push_cast,o.ldAgg (t:=zh) zr,y4];refine raw_spec oM λv c=>?_;have z:=o.ext c;have g5:=(g3.ext b).ext c;have e:IntKind.u64.wrap (0-(a:Int))=((if a=0 then 0 else 18446744073709551616-a:Nat):Int):=by
    simp only[IntKind.wrap,IntKind.bits,IntKind.signed,GM,gV,if_false];split<;>omega
   simp only[push_cast,z.ldAgg (t:=zh) zr,y4,gh];rw[e];refine vec_spec (by split<;>omega) s u λO f=>?_;refine stVec (g5.ext f) λA m _ g7=>?_;rw[g7.lv rK];have:=p A (d _ _ ((b.trans c).trans f) m);rw[k6 ⟨j,.inr rfl⟩,M.unM_neg s u D] at this;exact this
  .refine stVec g3 λg l _ g4=>?_;rw[g4.lv rK];have:=p g (d _ _ (Same.refl _ _) l);rwa[y3 (λh=>h.2.elim x a2)] at this
theorem binaries_spec (f:∀w',Ext w w'->K (.agg ⟨[.nilFunc,.nilFunc,.nilFunc,.func (.func xm) #[] #[],.func (.func xl) #[] #[],.func (.func xk) #[] #[],.func (.func xj) #[] #[],.func (.func xi) #[] #[],.func (.func xh) #[] #[],.func (.func xg) #[] #[],.func (.func xf) #[] #[],.func (.func xe) #[] #[],.func (.func xb) #[] #[],.func (.func xa) #[] #[]]⟩) w'):vcall K5 #[] w K:=by
 refine zf {} Tryz.func382 ?_;have j:ym xc (.agg ⟨[.nilFunc,.nilFunc,.nilFunc,.nilFunc,.nilFunc,.nilFunc,.nilFunc,.nilFunc,.nilFunc,.nilFunc,.nilFunc,.nilFunc,.nilFunc,.nilFunc]⟩):=by unfold ym;kernel_rfl
 refine zj j λb1 w1 g a h d=>?_;refine⟨_,w1,run_build (P:=P) w1 _ _ ⟨[.nilFunc,.nilFunc,.nilFunc,.func (.func xm) #[] #[],.func (.func xl) #[] #[],.func (.func xk) #[] #[],.func (.func xj) #[] #[],.func (.func xi) #[] #[],.func (.func xh) #[] #[],.func (.func xg) #[] #[],.func (.func xf) #[] #[],.func (.func xe) #[] #[],.func (.func xb) #[] #[],.func (.func xa) #[] #[]]⟩ rK,?_⟩;refine d.stAgg rfl rK (by intro v c;simp only[gi,gz,Gh] at c;rcases c with rfl|rfl|rfl|rfl|rfl|rfl|rfl|rfl|rfl|rfl|rfl|rfl|rfl|rfl<;>rfl) λw2 b _ e=>?_;rw[e.lv rK];exact f _ (Ext.then a b λy i=>by subst i;omega)
theorem bin_all {op k a b:Nat} (j:3<=op) (i:op<=13) (g:1<=k) (h:k<=4) (e:a<2^k) (f:b<2^k) {K:oK} {w w0:World} (hw:w0=w) (c:OpR K w op k a b) {N:oK}
  (d:∀x,vcallv x #[xY k a,xY k b] w K->N x w):
  qk0 xc (.agg ⟨[.nilFunc,.nilFunc,.nilFunc,.func (.func xm) #[] #[],.func (.func xl) #[] #[],.func (.func xk) #[] #[],.func (.func xj) #[] #[],.func (.func xi) #[] #[],.func (.func xh) #[] #[],.func (.func xg) #[] #[],.func (.func xf) #[] #[],.func (.func xe) #[] #[],.func (.func xb) #[] #[],.func (.func xa) #[] #[]]⟩) (nI op) w N:=by
 rcases(by omega:op=3\/op=4\/op=5\/op=6\/op=7\/op=8\/op=9\/op=10\/op=11\/op=12\/op=13) with rfl|rfl|rfl|rfl|rfl|rfl|rfl|rfl|rfl|rfl|rfl
 .exact⟨.func (.func xm) #[] #[],w,rK,d (.func (.func xm) #[] #[]) (binaries_1_spec g h e f c)⟩
 .exact⟨.func (.func xl) #[] #[],w,rK,d (.func (.func xl) #[] #[]) (binaries_2_spec g h e f c)⟩
 .exact⟨.func (.func xk) #[] #[],w,rK,d (.func (.func xk) #[] #[]) (binaries_3_spec g h e f c)⟩
 .exact⟨.func (.func xj) #[] #[],w,rK,d (.func (.func xj) #[] #[]) (binaries_4_spec g h e f c)⟩
 .exact⟨.func (.func xi) #[] #[],w,rK,d (.func (.func xi) #[] #[]) (binaries_5_spec g h e f c)⟩
 .exact⟨.func (.func xh) #[] #[],w,rK,d (.func (.func xh) #[] #[]) (binaries_6_spec g h e f c)⟩
 .exact⟨.func (.func xg) #[] #[],w,rK,d (.func (.func xg) #[] #[]) (binaries_7_spec g h e f c)⟩
 .exact⟨.func (.func xf) #[] #[],w,rK,d (.func (.func xf) #[] #[]) (binaries_8_spec g h e f c)⟩
 .exact⟨.func (.func xe) #[] #[],w,rK,d (.func (.func xe) #[] #[]) (binaries_9_spec g h e f c)⟩
 .exact⟨.func (.func xb) #[] #[],w,rK,d (.func (.func xb) #[] #[]) (binaries_10_spec g h e f c)⟩
 .exact⟨.func (.func xa) #[] #[],w,rK,d (.func (.func xa) #[] #[]) (binaries_11_spec g h e f c)⟩
theorem VecBin_spec {op wd n v m:Int} (D:∀w',Ext w w'->K (.tuple #[xY (M.vecBin op wd n v m).1.1 (M.vecBin op wd n v m).1.2,.bool (M.vecBin op wd n v m).2]) w'):vcall U3 #[nI op,xY wd n,xY v m] w K:=by
 refine zf {cuts:=[(8195,[]),(36874,[])]} Tryz.func381 ?_;refine zk λb1 w1 a9 L ad h1=>?_;refine zk λb2 w2 aa E ae g2=>?_;refine zj zX λb3 w3 ab F af r3=>?_;have hE:=(L.trans E).trans F;have ah:=L.size;have ai:=E.size;have h3:=(h1.ext E).ext F;have g3:=g2.ext F;have B:∀s A,Ext w3 s->Same (· =b3) s A->Ext w A:=λs A h h'=>Ext.then (hE.trans h) h' λy hy=>by subst hy;omega
 have d:(M.vecBin op wd n v m)=((0,0),false)->∀s,Ext w3 s->zW zh (oP b3 0) (xY 0 0) s λ_ A=>vlv zh (oP b3 0) A λr w6=>K (.tuple #[r,.bool false]) w6:=by
  intro e s c;refine stVec (r3.ext c) λA a5 _ U=>?_;rw[U.lv rK];have:=D A (B _ _ c a5);rwa[e] at this
 refine zp (λu s=>u=[]/\Ext w3 s/\M.vok wd n=true/\M.vok v m=true) (λC Z=>?_) ?_
 .simp only[push_cast,h3.ldAgg (t:=zh) zr];refine VecOk_spec λs c=>?_;have g4:=g3.ext c;refine oZ ?_;refine zn (λS=>d ?_ _ c) (λS=>?_)
  .unfold M.vecBin;rw[y3 (by simp at S;simp[S])]
  .simp only[push_cast,g4.ldAgg (t:=zh) zr];refine VecOk_spec λA i=>?_;refine oZ ?_;refine zn (λp=>d ?_ _ (c.trans i)) (λp=>?_)
   .unfold M.vecBin;rw[y3 (by simp at p;simp[p])]
   .exact Z _ _ ⟨rfl,c.trans i,by simpa using S,by simpa using p⟩
 .rintro u g s ⟨rfl,c,O,p⟩;have X:=h3.ext c;have g4:=g3.ext c;have r4:=r3.ext c;obtain⟨k,a,rfl,rfl,k1,k4,ha⟩:=M.vok_nat O;obtain⟨l,b,rfl,rfl,l1,T,hb⟩:=M.vok_nat p;have I:=pow16 k4 ha;have a8:=pow16 T hb;unfold M.vecBin at D d;rw[k6 ⟨O,p⟩] at D d;refine oZ ?_;refine zb (λV=>?_) (λV=>?_)
  .rw[k6 V] at D d;refine zd λA i _=>?_;have Y:=X.ext i;have g5:=g4.ext i;have U:=r4.ext i;have hm:a*2^l<=524288:=shl_small I oM;have e1:IntKind.i64.wrap ((k:Int)+(l:Int))=((k+l:Nat):Int):=by rw[zl oM oM];omega
   have eS:∀(w:World) (K:oK),qA .shl zU false (nI (a:Int)) (nI (l:Int)) w K=K (nI (a*2^l:Nat)) w:=λw K=>vbin_shlI oM oM;have eO:∀(w:World) (K:oK),qA .or zU false (nI ((a*2^l:Nat):Int)) (nI (b:Int)) w K=K (nI (a*2^l|||b:Nat)) w:=λw K=>vbin_orI oM oM;have eC:=M.cat_or T k4 ha hb;obtain⟨q,hq⟩:∃q,q=a*2^l:=⟨_,rfl⟩;obtain⟨z,hz⟩:∃z,z=q|||b:=⟨_,rfl⟩;rw[<-hq] at eS eO eC;rw[<-hz] at eO eC;simp only[push_cast,Y.ld0,Y.ld1,g5.ld0,g5.ld1,y4,e1,eS,eO];refine zj zX λb4 w6 ac f ag p6=>?_;have H:=Y.ext f;have g6:=g5.ext f;have r6:=U.ext f;simp only[push_cast,H.ld0,H.ld1,g6.ld0,g6.ld1,y4,e1,eS,eO,gh];refine stVec p6 λw7 R _ p7=>?_;have J:b3≠b4:=by have:=U.lt;omega
   have r7:=r6.same R J;have j:Ext w3 w7:=Ext.then ((c.trans i).trans f) R λy hy=>by subst hy;have:=(c.trans i).size;omega
   simp only[push_cast,p7.ld0];refine zb (λa2=>d ?_ _ j) (λa2=>?_)
   .rw[y3 oM]
   .simp only[push_cast,p7.ldAgg (t:=zh) zr];refine stVec r7 λw8 a6 _ r8=>?_;rw[r8.lv rK];have:=D w8 (B _ _ j a6);rw[k6 oM,<-eC] at this;exact this
  .rw[y3 V] at D d;refine zp (λu A=>u=[]/\A=s/\3<=op/\op<=13/\(k:Int)=l) (λC Z=>?_) ?_
   .refine zb (λa2=>d (by rw[y3 oM]) _ c) (λa2=>?_);refine zb (λa3=>d (by rw[y3 oM]) _ c) (λa3=>?_);simp only[push_cast,X.ld0,g4.ld0];refine zb (λa4=>d (by rw[y3 oM]) _ c) (λa4=>?_);exact Z _ _ ⟨rfl,rfl,oM,oM,oM⟩
   .rintro u g A ⟨rfl,rfl,c3,W,ckl⟩;have:l=k:=oM;subst this;refine zd λw6 f _=>?_;have H:=X.ext f;have g6:=g4.ext f;simp only[push_cast,H.ldAgg (t:=zh) zr,g6.ldAgg (t:=zh) zr,y4];refine binaries_spec λw7 j=>?_;have h7:=H.ext j;have g7:=g6.ext j;simp only[push_cast,h7.ldAgg (t:=zh) zr,g7.ldAgg (t:=zh) zr,y4,gh];obtain⟨o,rfl⟩:∃o:Nat,op=o:=⟨op.toNat,oM⟩;refine bin_all oM oM l1 T ha hb rfl ?_ λx hx=>⟨rfl,hx⟩;intro w8 r G hr a0;have h8:=h7.ext G;simp only[push_cast,h8.ldAgg (t:=zh) zr,y4,gh];refine vec_spec hr l1 T λw9 N=>?_;have r9:=(((r4.ext f).ext j).ext G).ext N;refine stVec r9 λw10 Q _ a7=>?_;rw[a7.lv rK];have:=D w10 (B _ _ ((((c.trans f).trans j).trans G).trans N) Q);rw[k6 ⟨c3,W,rfl⟩] at this;rw[a0];exact this
theorem eqVec {a b c d:Int} {t:Bool}:qA .eql zh t (xY a b) (xY c d) w K=K (.bool (decide (a=c/\b=d))) w:=by
 refine yq (run_eqGuard_agg w _ _ _ _ _ _ rK) ?_;have j:(P.fieldsOf zh).toList=[(P.fieldsOf zh).getD 0 default,(P.fieldsOf zh).getD 1 default]:=rK
 have g:((P.fieldsOf zh).getD 0 default).name≠ "_" :=by decide+kernel
 have h:((P.fieldsOf zh).getD 1 default).name≠ "_" :=by decide+kernel
 have i0:P.underlying ((P.fieldsOf zh).getD 0 default).type=some (.int .i64):=rK
 have i1:P.underlying ((P.fieldsOf zh).getD 1 default).type=some (.int .i64):=rK
 have i:∀x y:Value,(part ((P.fieldsOf zh).getD 0 default).type ⟨[x,y]⟩ ((P.fieldsOf zh).getD 0 default).offset).run P w= .ok x w:=λx y=>rK
 have p1:∀x y:Value,(part ((P.fieldsOf zh).getD 1 default).type ⟨[x,y]⟩ ((P.fieldsOf zh).getD 1 default).offset).run P w= .ok y w:=λx y=>rK
 have k:(Op.equalIn 10000 zh (xY a b) (xY c d)).run P w= .ok (decide (a=c/\b=d)) w:=by
  rw[run_equalIn_struct w 9999 zh _ _ rK rK,j];generalize (P.fieldsOf zh).getD 0 default=f0 at g i0 i⊢;generalize (P.fieldsOf zh).getD 1 default=f1 at h i1 p1⊢;simp only[Op.eqFields,k6 g,k6 h,Sem.run_bind,i,p1,Result.andThen_ok,run_equalIn_int w 9998 _ _ _ _ _ i0,run_equalIn_int w 9998 _ _ _ _ _ i1];by_cases e:a=c
  .by_cases f:b=d
   .subst e;subst f;simp[run_equalIn_int w 9998 _ _ _ _ _ i1,p1]
   .subst e;simp[run_equalIn_int w 9998 _ _ _ _ _ i1,p1,f]
  .simp[e]
 rw[run_eql_struct,k];rfl
theorem VecCmp_spec {op wd n v m:Int} (k:∀w',Ext w w'->K (.tuple #[.bool (M.vecCmp op wd n v m).1,.bool (M.vecCmp op wd n v m).2]) w'):vcall U2 #[nI op,xY wd n,xY v m] w K:=by
 refine zf {cuts:=[(8195,[])]} Tryz.func397 ?_;refine zk λb1 w1 D y F A=>?_;refine zk λb2 w2 E l G g2=>?_;have p:=y.trans l;have r:=A.ext l;have d:(M.vecCmp op wd n v m)=(false,false)->∀f,Ext w2 f->K (.tuple #[.bool false,.bool false]) f:=by
  intro e f a;have:=k f (p.trans a);rwa[e] at this
 refine zp (λu f=>u=[]/\Ext w2 f/\M.vok wd n=true/\M.vok v m=true/\wd=v) (λC B=>?_) ?_
 .simp only[push_cast,r.ldAgg (t:=zh) zr];refine VecOk_spec λf a=>?_;have g4:=g2.ext a;refine oZ ?_;refine zn (λq=>d ?_ _ a) (λq=>?_)
  .unfold M.vecCmp;rw[y3 (by simp at q;simp[q])]
  .simp only[push_cast,g4.ldAgg (t:=zh) zr];refine VecOk_spec λH b=>?_;have g5:=g4.ext b;have x:=(r.ext a).ext b;refine oZ ?_;refine zn (λc=>d ?_ _ (a.trans b)) (λc=>?_)
   .unfold M.vecCmp;rw[y3 (by simp at c;simp[c])]
   .simp only[push_cast,x.ld0,g5.ld0];refine zb (λj=>d ?_ _ (a.trans b)) (λj=>?_)
    .unfold M.vecCmp;rw[y3 (λh=>j h.2.2.1)]
    .exact B _ _ ⟨rfl,a.trans b,by simpa using q,by simpa using c,oM⟩
 .rintro u g f ⟨rfl,a,i,c,rfl⟩;have s:=r.ext a;have g4:=g2.ext a;unfold M.vecCmp at k d;refine oZ ?_;refine zb (λj=>?_) (λj=>?_)
  .subst j;simp only[push_cast,s.ldAgg (t:=zh) zr,g4.ldAgg (t:=zh) zr];rw[eqVec];have:=k f (p.trans a);rw[k6 ⟨i,c,rfl,oM,oM⟩] at this;simp only[M.cmpM,if_true] at this;simp only[y4];exact this
  refine zb (λa2=>?_) (λa2=>?_)
  .subst a2;simp only[push_cast,s.ld1,g4.ld1];have:=k f (p.trans a);rw[k6 ⟨i,c,rfl,oM,oM⟩] at this;exact this
  refine zb (λa3=>?_) (λa3=>?_)
  .subst a3;refine zd λH b _=>?_;have x:=s.ext b;have g5:=g4.ext b;simp only[push_cast,x.ldAgg (t:=zh) zr,g5.ldAgg (t:=zh) zr,y4];refine VecSigned_spec λJ o=>?_;have g6:=g5.ext o;simp only[push_cast,g6.ldAgg (t:=zh) zr,y4,gh];refine VecSigned_spec λI z=>?_;simp only[push_cast,k6 i,k6 c,y4];have:=k I (((p.trans a).trans b).trans (o.trans z));rw[k6 ⟨i,c,rfl,oM,oM⟩] at this;exact this
  .exact d (by rw[y3 (λh=>oM)]) _ a
theorem VecCut_spec {wd n hi lo:Int} (m:∀w',Ext w w'->K (.tuple #[xY (M.vecCut wd n hi lo).1.1 (M.vecCut wd n hi lo).1.2,.bool (M.vecCut wd n hi lo).2]) w'):vcall U1 #[xY wd n,nI hi,nI lo] w K:=by
 refine zf {cuts:=[(8195,[])]} Tryz.func406 ?_;refine zk λb1 w1 S o U N=>?_;refine zj zX λb3 w3 T p V H=>?_;have Q:=o.trans p;have Y:=o.size;have v:=N.ext p;have f:∀d i,Ext w3 d->Same (· =b3) d i->Ext w i:=λd i h L=>Ext.then (Q.trans h) L λy W=>by subst W;omega
 have c:(M.vecCut wd n hi lo)=((0,0),false)->∀d,Ext w3 d->zW zh (oP b3 0) (xY 0 0) d λ_ i=>vlv zh (oP b3 0) i λr E=>K (.tuple #[r,.bool false]) E:=by
  intro e d b;refine stVec (H.ext b) λi B _ r5=>?_;rw[r5.lv rK];have:=m i (f _ _ b B);rwa[e] at this
 unfold M.vecCut at m c;refine zp (λu d=>u=[]/\Ext w3 d/\M.vok wd n=true/\0<=lo/\lo<=hi/\hi<wd) (λC O=>?_) ?_
 .simp only[push_cast,v.ldAgg (t:=zh) zr];refine VecOk_spec λd b=>?_;have A:=v.ext b;refine oZ ?_;refine zn (λj=>c ?_ _ b) (λj=>?_)
  .rw[y3 (by simp at j;simp[j])]
  refine zb (λI=>c (y3 oM) _ b) (λI=>?_);refine zb (λa2=>c (y3 oM) _ b) (λa2=>?_);simp only[push_cast,A.ld0];refine zb (λa3=>c (y3 oM) _ b) (λa3=>?_);exact O _ _ ⟨rfl,b,by simpa using j,oM,oM,oM⟩
 .rintro u g d ⟨rfl,b,j,c1,c2,c3⟩;have A:=v.ext b;have r4:=H.ext b;obtain⟨k,a,rfl,rfl,k1,Z,R⟩:=M.vok_nat j;obtain⟨l,rfl⟩:∃l:Nat,lo=l:=⟨lo.toNat,oM⟩;obtain⟨t,G⟩:∃t:Nat,hi-(l:Int)+1=t:=⟨(hi-l+1).toNat,oM⟩;have F:=pow16 Z R;have J:IntKind.i64.wrap (IntKind.i64.wrap (hi-(l:Int))+1)=(t:Int):=by rw[zl (x:=hi-l) oM oM,zl oM oM];omega
  simp only[push_cast,A.ldAgg (t:=zh) zr,J];refine raw_spec oM λi q=>?_;have hd:=GD a (2^l);rw[vbin_shrU oM];refine cut_spec oM oM oM ?_;have hm:=Nat.mod_le (a/2^l) (2^t);have s:M.cutM (a:Int) hi (l:Int)=((a/2^l%2^t:Nat):Int):=by
   unfold M.cutM;rw[G];simp
  rw[k6 ⟨j,c1,c2,c3⟩] at m;simp only[s,G] at m;obtain⟨z,X⟩:∃z,z=a/2^l%2^t:=⟨_,rfl⟩;rw[<-X] at hm m⊢;rw[jL JE J3,wrapN oM];refine oZ ?_;refine stVec (r4.ext q) λE D _ r6=>?_;rw[r6.lv rK];exact m E (f _ _ (b.trans q) D)
end
section
variable {w:World} {K:oK} {F G:Nat->Prop}
@[push_cast] theorem tn0:(0:Int).toNat=0:=rfl
@[push_cast] theorem tn1:(1:Int).toNat=1:=rfl
@[push_cast] theorem tn2:(2:Int).toNat=2:=rfl
theorem ju0 {α:Type} (xs:List α) (d:α) (p:α->Bool):(List.range xs.length).any (λi=>p (xs.getD i d))=xs.any p:=by
 rw[PY,G9,G9];constructor
 .rintro⟨i,hi,a⟩;exact⟨_,M.getD_mem (gI.1 hi) d,a⟩
 .rintro⟨x,b,a⟩;obtain⟨i,hi,rfl⟩:=gr b;exact⟨i,gI.2 hi,by rw[k5,gd hi];exact a⟩
abbrev DclV (d:M.Dcl):Value:= .agg ⟨[.string d.1,nI d.2]⟩
abbrev xc0:M.Dcl:=(M.nada,0)
theorem IndexFunc_Decl {v f:Value} {ds:List M.Dcl} {p:Nat->Bool} (e:DclsR F w v ds) (m:∀i,i<ds.length->FnB w f #[DclV (ds.getD i xc0)] (p i))
  (k:∀w',Ext w w'->K (nI (idxI ds.length p)) w'):vcall qe #[v,f] w K:=by
 refine zf {loops:=[(2,[8])]} Tryz.func124 ?_;simp(disch:=exact oS) only[push_cast,e.len];have hlen:=e.small;refine vloop_up ds.length (λi u w'=>u=[nI i]/\Ext w w'/\∀j,j<i->p j=false) ⟨rfl,Same.refl _ _,oM⟩ ?_;rintro i _ g w1 C hi ⟨rfl,he,d⟩ l;refine oZ ?_;refine zb (λq=>?_) (λn=>?_)
 .have b:=e.ext he;simp(disch:=exact oS) only[push_cast,b.iaddr,b.load];refine m i oM w1 _ he λw2 a=>zn (λc=>?_) (λc=>?_)
  .have:=k w2 (he.trans a);rwa[idxI_some oM c d] at this
  .rw[inc64' oM];exact l oM _ _ ⟨rfl,he.trans a,λj o=>by
    by_cases h:j=i
    .subst h;exact c
    .exact d j oM⟩
 .have:=k w1 he;rwa[Kk (λj o=>d j oM)] at this
theorem QQ {v f:Value} {ds:List M.Dcl} {p:Nat->Bool} (c:DclsR F w v ds) (b:∀i,i<ds.length->FnB w f #[DclV (ds.getD i xc0)] (p i))
  (a:∀w',Ext w w'->K (.bool ((List.range ds.length).any p)) w'):vcall xO #[v,f] w K:=by
 refine zf {} Tryz.func96 ?_;refine IndexFunc_Decl c b λw' he=>?_;simp only[push_cast,Xf];exact a w' he
theorem YT {b:Bool} (a:K (nI (M.b2i b)) w):vcall WY #[.bool b] w K:=by
 refine zf {} Tryz.func177 ?_;refine zn (λh=>?_) (λh=>?_)<;>subst h<;>exact a
theorem Z5 {b:Bool} {s:Int} (a:K (nI (if b=true then s else-1)) w):vcall Z9 #[.bool b,nI s] w K:=by
 refine zf {} Tryz.func375 ?_;refine zn (λh=>?_) (λh=>?_)<;>subst h<;>exact a
theorem qX {p:Prop} [Decidable p] {s:Int} (a:K (nI (if p then s else-1)) w):vcall Z9 #[.bool (decide p),nI s] w K:=
 Z5 (by simpa using a)
theorem jN {s:Int} (a:K (nI (-1)) w):vcall Z9 #[.bool false,nI s] w K:=Z5 a
theorem qI {s:ByteArray} {n:Int} (c:∀w',Ext w w'->K (nI n) w'):vcall yn #[.agg ⟨[.string s,nI n]⟩] w K:=by
 refine zf {} Tryz.func371 ?_;refine zk λb1 w1 d a e b=>?_;simp only[push_cast,b.ld1];exact c _ a
abbrev KV (s:ByteArray) (n:Int):Value:= .agg ⟨[.string s,nI n]⟩
theorem unKind_sort_spec {s:ByteArray} {n:Int} {dv tv kv:Value} {t:M.Tm} {xs:List Int} (k:TermR F w tv t) (l:Ints G w kv xs) (p:xs.length=1)
  (e:∀w',Ext w w'->K (nI (if 0<xs.getD 0 0 then xs.getD 0 0 else-1)) w'):vcall kp #[KV s n,dv,tv,kv] w K:=by
 refine zf {} Tryz.func373 ?_;obtain⟨ksv,rfl,h⟩:=k;refine zk λb1 w1 f a i m=>?_;refine zk λb2 w2 g b j o=>?_;refine zd λw3 c _=>?_;have d:=l.ext ((a.trans b).trans c);simp(disch:=exact oS) only[push_cast,d.iaddr,d.load,y4];exact qX (e _ ((a.trans b).trans c))
theorem binKind_sort_spec {s:ByteArray} {n:Int} {dv tv kv:Value} {t:M.Tm} {xs:List Int} (m:TermR F w tv t) (o:Ints G w kv xs) (r:xs.length=2)
  (g:∀w',Ext w w'->K (nI (if 0<xs.getD 0 0/\xs.getD 0 0=xs.getD 1 0 then xs.getD 0 0 else-1)) w'):vcall k8 #[KV s n,dv,tv,kv] w K:=by
 refine zf {} Tryz.func412 ?_;obtain⟨ksv,rfl,j⟩:=m;refine zk λb1 w1 h b k p=>?_;refine zk λb2 w2 i c l q=>?_;refine zd λw3 d _=>?_;have e:=o.ext ((b.trans c).trans d);have f:=g _ ((b.trans c).trans d);simp(disch:=exact oS) only[push_cast,e.iaddr,e.load,y4];refine zb (λa=>?_) (λa=>?_)
 .refine qX ?_;simpa only[a,y4] using f
 .refine jN ?_;simpa only[a,false_and,if_false] using f
theorem cmpKind_sort_spec {s:ByteArray} {n:Int} {dv tv kv:Value} {t:M.Tm} {xs:List Int} (m:TermR F w tv t) (o:Ints G w kv xs) (r:xs.length=2)
  (g:∀w',Ext w w'->K (nI (if 0<xs.getD 0 0/\xs.getD 0 0=xs.getD 1 0 then 0 else-1)) w'):vcall jY #[KV s n,dv,tv,kv] w K:=by
 refine zf {} Tryz.func395 ?_;obtain⟨ksv,rfl,j⟩:=m;refine zk λb1 w1 h b k p=>?_;refine zk λb2 w2 i c l q=>?_;refine zd λw3 d _=>?_;have e:=o.ext ((b.trans c).trans d);have f:=g _ ((b.trans c).trans d);simp(disch:=exact oS) only[push_cast,e.iaddr,e.load,y4];refine zb (λa=>?_) (λa=>?_)
 .refine qX ?_;simpa only[a,y4] using f
 .refine jN ?_;simpa only[a,false_and,if_false] using f
theorem catKind_sort_spec {s:ByteArray} {n:Int} {dv tv kv:Value} {t:M.Tm} {xs:List Int} (r:TermR F w tv t) (u:Ints G w kv xs) (y:xs.length=2) (h:∀i,-1<=xs.getD i 0/\xs.getD i 0<=4)
  (k:∀w',Ext w w'->K (nI (if 0<xs.getD 0 0/\0<xs.getD 1 0/\xs.getD 0 0+xs.getD 1 0<=4 then xs.getD 0 0+xs.getD 1 0 else-1)) w'):vcall jZ #[KV s n,dv,tv,kv] w K:=by
 refine zf {} Tryz.func379 ?_;obtain⟨ksv,rfl,o⟩:=r;refine zk λb1 w1 l c p v=>?_;refine zk λb2 w2 m d q x=>?_;refine zd λw3 e _=>?_;have f:=u.ext ((c.trans d).trans e);have g:=k _ ((c.trans d).trans e);have z:=h 0;have A:=h 1;have j:IntKind.i64.wrap (xs.getD 0 0+xs.getD 1 0)=xs.getD 0 0+xs.getD 1 0:=zl oM oM;simp(disch:=exact oS) only[push_cast,f.iaddr,f.load,y4,j];refine zb (λa=>?_) (λa=>?_)
 .refine zb (λb=>?_) (λb=>?_)
  .refine qX ?_;simpa only[a,b,y4] using g
  .refine jN ?_;simpa only[b,false_and,and_false,if_false] using g
 .refine jN ?_;simpa only[a,false_and,if_false] using g
theorem ifKind_sort_spec {s:ByteArray} {n:Int} {dv tv kv:Value} {t:M.Tm} {xs:List Int} (m:TermR F w tv t) (o:Ints G w kv xs) (r:xs.length=3)
  (g:∀w',Ext w w'->K (nI (if xs.getD 0 0=0/\xs.getD 1 0=xs.getD 2 0 then xs.getD 1 0 else-1)) w'):vcall kq #[KV s n,dv,tv,kv] w K:=by
 refine zf {} Tryz.func407 ?_;obtain⟨ksv,rfl,j⟩:=m;refine zk λb1 w1 h b k p=>?_;refine zk λb2 w2 i c l q=>?_;refine zd λw3 d _=>?_;have e:=o.ext ((b.trans c).trans d);have f:=g _ ((b.trans c).trans d);simp(disch:=exact oS) only[push_cast,e.iaddr,e.load,y4];refine zb (λa=>?_) (λa=>?_)
 .refine qX ?_;simpa only[a,y4] using f
 .refine jN ?_;simpa only[a,false_and,if_false] using f
theorem Q9 {s:ByteArray} {n:Int} {dv tv kv:Value} {t:M.Tm} (q:TermR F w tv t)
  (j:∀w',Ext w w'->K (nI (if M.vok t.a t.b=true then t.a else-1)) w'):vcall jR #[KV s n,dv,tv,kv] w K:=by
 refine zf {} Tryz.func399 ?_;obtain⟨ksv,rfl,m⟩:=q;refine zk λb1 w1 k f o r=>?_;refine zk λb2 w2 l g p h=>?_;refine zd λw3 c _=>?_;have e:=h.ext c;simp(disch:=exact oS) only[push_cast,e.ld1,e.ld2,y4];refine VecOk_spec λu d=>?_;have i:=e.ext d;simp(disch:=exact oS) only[push_cast,i.ld1,y4,gh];exact Z5 (j _ (((f.trans g).trans c).trans d))
theorem cutKind_sort_spec {s:ByteArray} {n:Int} {dv tv kv:Value} {t:M.Tm} {xs:List Int} (y:TermR F w tv t) (z:Ints G w kv xs) (B:xs.length=1) (r:∀i,-1<=xs.getD i 0/\xs.getD i 0<=4)
  (m:∀w',Ext w w'->K (nI (if 0<=t.b/\t.b<=t.a/\t.a<xs.getD 0 0 then t.a-t.b+1 else-1)) w'):vcall jX #[KV s n,dv,tv,kv] w K:=by
 refine zf {} Tryz.func404 ?_;obtain⟨ksv,rfl,q⟩:=y;refine zk λb1 w1 o e u A=>?_;refine zk λb2 w2 p f v l=>?_;refine zd λw3 d _=>?_;have g:=z.ext ((e.trans f).trans d);have j:=l.ext d;have h:=m _ ((e.trans f).trans d);have C:=r 0;simp(disch:=exact oS) only[push_cast,j.ld1,j.ld2,g.iaddr,g.load,y4];refine zb (λa=>?_) (λa=>?_)
 .refine zb (λb=>?_) (λb=>?_)
  .by_cases c:t.a<xs.getD 0 0
   .have k:IntKind.i64.wrap (IntKind.i64.wrap (t.a-t.b)+1)=t.a-t.b+1:=(by rw[zl (x:=t.a-t.b) oM oM,zl oM oM]);rw[k];refine qX ?_;simpa only[a,b,c,y4] using h
   .refine qX ?_;simpa only[c,and_false,if_false] using h
  .refine jN ?_;simpa only[b,false_and,and_false,if_false] using h
 .refine jN ?_;simpa only[a,false_and,if_false] using h
theorem XZ {s:ByteArray} {n:Int} {f dv tv kv:Value} {t:M.Tm} {xs:List Int} (q:TermR F w tv t) (r:Ints G w kv xs)
  (c:∀w',Ext w w'->K (nI (if xs.any (λx=>decide (x≠0)) then-1 else 0)) w'):vcall jA #[.agg ⟨[.string s,nI n,f]⟩,dv,tv,kv] w K:=by
 refine zf {} Tryz.func409 ?_;obtain⟨ksv,rfl,l⟩:=q;refine zk λb1 w1 j a m u=>?_;refine zk λb2 w2 k b o v=>?_;have e:=r.ext (a.trans b);refine jl (p:=λi=>decide (xs.getD i 0≠0)) e (λi hi=>?_) λw3 d=>?_
 .rw[Kj (by simpa using hi)];intro w' K he c;refine oZ ?_;refine zf {} Tryz.func411 ?_;refine oZ ?_;have:=c _ (Same.refl _ _);simpa using this
 .have g:=c _ ((a.trans b).trans d);rw[Q1,ju0 xs 0 (λx=>decide (x≠0))];refine oZ ?_;refine Z5 ?_;cases h:xs.any λx=>decide (x≠0)<;>rw[h] at g<;>exact g
theorem nameKind_sort_spec {s:ByteArray} {n:Int} {dv tv kv:Value} {t:M.Tm} {ds:List M.Dcl} (B:TermR F w tv t) (u:DclsR G w dv ds)
  (h:∀w',Ext w w'->K (nI (if M.findD ds t.s<0 then-1 else(ds.getD (M.findD ds t.s).toNat xc0).2)) w'):vcall jt #[KV s n,dv,tv,kv] w K:=by
 refine zf {} Tryz.func401 ?_;obtain⟨ksv,rfl,x⟩:=B;refine zk λb1 w1 o d y C=>?_;refine zk λb2 w2 q e z k=>?_;refine oZ ?_;have b:=u.ext (d.trans e);refine IndexFunc_Decl (p:=λi=>decide ((ds.getD i xc0).1=t.s)) b (λi hi=>?_) λw3 f=>?_
 .intro w' K he h;refine oZ ?_;refine zf {} Tryz.func403 ?_;refine zk λb3 D r g A l=>?_;have m:=(k.ext he).ext g;simp(disch:=exact oS) only[push_cast,l.ld0,m.ld3];exact h _ g
 .have v:=M.findD_lt ds t.s;have j:=h _ ((d.trans e).trans f);have c:=b.ext f;have efd:idxI ds.length (λi=>decide ((ds.getD i xc0).1=t.s))=M.findD ds t.s:=rfl;rw[efd];refine oZ ?_;refine zb (λa=>?_) (λa=>?_)
  .rwa[k6 a] at j
  .rw[y3 a] at j;simp(disch:=exact oS) only[push_cast,c.iaddr];simp(disch:=exact oS) only[push_cast,c.load1];exact j
end
section
variable {w:World} {K:oK} {F:Nat->Prop}
theorem l1Max_spec {a b:Int} (c:K (nI (max a b)) w):vcall zA0 #[nI a,nI b] w K:=by
 refine zf {} Tryz.func89 ?_;refine oZ ?_;refine zb (λh=>?_) (λh=>?_)
 .rwa[show max a b=a by omega] at c
 .rwa[show max a b=b by omega] at c
theorem l1Min_spec {a b:Int} (c:K (nI (min a b)) w):vcall zz0 #[nI a,nI b] w K:=by
 refine zf {} Tryz.func99 ?_;refine oZ ?_;refine zb (λh=>?_) (λh=>?_)
 .rwa[show min a b=a by omega] at c
 .rwa[show min a b=b by omega] at c
theorem pow62 {k:Nat} (h:k<=62):2^k<=4611686018427387904:=gS (gJ oM h) dC
theorem l1Two_spec {n:Int} (h:n<=62) (l:K (nI ((2^n.toNat:Nat):Int)) w):vcall QX #[nI n] w K:=by
 refine zf {loops:=[(3,[3,4])]} Tryz.func33 ?_;refine vloop_up n.toNat (λi u w'=>u=[nI (2^i:Nat),nI i]/\w'=w) ⟨rfl,rfl⟩ ?_;rintro i _ _ w1 C hi ⟨rfl,rfl⟩ e;have m:=pow62 (k:=i) oM;have c:((2^i:Nat):Int)*2=((2^(i+1):Nat):Int):=by rw[Nat.pow_succ];omega
 have b:i<n.toNat->2^(i+1)<=4611686018427387904:=λh=>pow62 oM;obtain⟨q,g⟩:∃q,q=2^i:=⟨_,rfl⟩;obtain⟨j,d⟩:∃j,j=2^(i+1):=⟨_,rfl⟩;rw[<-g] at c m⊢;rw[<-d] at c e b;refine oZ ?_;refine zb (λa=>?_) (λa=>?_)
 .have f:=b oM;rw[c,zl oM oM,inc64' oM];exact e oM _ _ ⟨rfl,rfl⟩
 .have:i=n.toNat:=oM;subst this;rw[g];exact l
theorem l1Two_nat {n:Nat} (h:n<=62) (a:K (nI ((2^n:Nat):Int)) w):vcall QX #[nI (n:Int)] w K:=
 l1Two_spec oM (by rwa[gq])
theorem spec_VecOk_spec {wd n:Int} (j:∀w',Ext w w'->K (.bool (M.vok wd n)) w'):vcall zE0 #[xY wd n] w K:=by
 refine zf {} Tryz.func91 ?_;refine zk λb1 w1 k f l h=>?_;refine zd λw2 c _=>?_;have e:=h.ext c;have i:=f.trans c;simp only[push_cast,e.ld0,e.ld1,y4];have a:=j w2 i;refine zb (λd=>?_) (λd=>?_)
 .refine zb (λa2=>?_) (λa2=>?_)
  .refine zb (λa3=>?_) (λa3=>?_)
   .refine l1Two_spec oM ?_;obtain⟨q,g⟩:∃q,q=2^wd.toNat:=⟨_,rfl⟩;have b:M.vok wd n=decide (n<(q:Nat)):=by
     simp only[M.vok,gk d,gk a2,gk a3,pJ];rw[g,JN]
    rw[<-g];simp only[push_cast,e.ld1,y4,gh];rw[b] at a;exact a
   .have b:M.vok wd n=false:=(by simp only[M.vok,gg a3,pz,GM]);rw[b] at a;exact a
  .have b:M.vok wd n=false:=(by simp only[M.vok,gg a2,pz,GM]);rw[b] at a;exact a
 .have b:M.vok wd n=false:=(by simp only[M.vok,gg d,GM]);rw[b] at a;exact a
theorem l1Bit_spec {n k:Nat} (d:n<9223372036854775808) (b:k<=62) (a:K (nI ((n/2^k%2:Nat):Int)) w):vcall zB0 #[nI (n:Int),nI (k:Int)] w K:=by
 refine zf {} Tryz.func182 ?_;refine l1Two_nat b ?_;have e:0<2^k:=P6 oM;have c:n/2^k<=n:=GD _ _;rw[Z3 oM,show(n:Int).tdiv ((2^k:Nat):Int)=((n/2^k:Nat):Int) from rfl,wrapN oM,Y7 oM,show((n/2^k:Nat):Int).tmod 2=((n/2^k%2:Nat):Int) from rfl];exact a
theorem l1Mod_spec {n:Int} {k:Nat} (h:1<=k) (j:k<=4) (q: -4611686018427387904<=n) (p:n<=4611686018427387904) (f:K (nI (n%(2^k:Nat))) w):vcall zy0 #[nI n,nI (k:Int)] w K:=by
 refine zf {} Tryz.func252 ?_;refine l1Two_nat oM ?_;have o:=pow4 h j;obtain⟨m,hm⟩:∃m,m=2^k:=⟨_,rfl⟩;rw[<-hm] at o f⊢;rw[Y7 oM];have g:m=2\/m=4\/m=8\/m=16:=by
  rcases(by omega:k=1\/k=2\/k=3\/k=4) with rfl|rfl|rfl|rfl<;>simp at hm<;>omega
 simp only[push_cast];by_cases l:0<=n
 .rw[PG l];have i:0<=n%(m:Int):=Int.emod_nonneg _ oM;refine zb (λa=>absurd a oM) (λa=>f)
 .obtain⟨b,rfl⟩:∃b:Nat,n= -(b:Int):=⟨(-n).toNat,oM⟩;rw[Int.neg_tmod,PG oM];have i:0<=(b:Int)%(m:Int):=Int.emod_nonneg _ oM;have h:(b:Int)%(m:Int)<m:=Int.emod_lt_of_pos _ oM;have e:(b:Int)%(m:Int)=0/\ -(b:Int)%(m:Int)=0\/0<(b:Int)%(m:Int)/\ -(b:Int)%(m:Int)= -((b:Int)%(m:Int))+m:=by
   rcases g with rfl|rfl|rfl|rfl<;>omega
  refine zb (λa=>?_) (λa=>?_)
  .rcases e with⟨d,c⟩|⟨d,c⟩
   .omega
   .rw[zl oM oM,<-c];exact f
  .rcases e with⟨d,c⟩|⟨d,c⟩
   .rw[d,show-(0:Int)=0 from rfl,<-c];exact f
   .omega
theorem l1Signed_spec {k a:Nat} (l:1<=k) (m:k<=4) (o:a<2^k) (i:∀w',Ext w w'->K (nI (M.sgn k a)) w'):vcall JR #[xY k a] w K:=by
 refine zf {} Tryz.func253 ?_;have s:=pow4 l m;refine zk λb1 w1 p d u f=>?_;have n:IntKind.i64.wrap ((k:Int)-1)=((k-1:Nat):Int):=by rw[zl oM oM];omega
 simp only[push_cast,f.ld0,f.ld1,n];refine l1Bit_spec oM oM ?_;have b:=top_bit l m o;have v:=(JN k).symm;have j:(2:Int)^((k:Int).toNat-1)=((2^(k-1):Nat):Int):=by simp
 have h:a/2^(k-1)%2<2:=pO _ oM;obtain⟨z,x⟩:∃z,z=a/2^(k-1)%2:=⟨_,rfl⟩;rw[<-x] at b h⊢;refine oZ ?_;refine zb (λc=>?_) (λc=>?_)
 .refine zd λw2 e _=>?_;have g:=f.ext e;simp only[push_cast,g.ld0,g.ld1,y4];refine l1Two_nat oM ?_;have r: ¬a<2^(k-1):=by
   have:decide (z=1)=true:=gk oM;rw[this] at b;exact of_decide_eq_true b.symm
  have:=i w2 (d.trans e);unfold M.sgn at this;rw[y3 (by rw[j];omega),gq,v] at this;obtain⟨q,t⟩:∃q,q=2^k:=⟨_,rfl⟩;rw[<-t] at s this⊢;have hw:IntKind.i64.wrap ((a:Int)-(q:Int))=(a:Int)-(q:Int):=zl oM oM;simp only[push_cast,g.ld1,y4,hw];exact this
 .have r:a<2^(k-1):=by
   have:decide (z=1)=false:=gg oM;rw[this] at b;have:=of_decide_eq_false b.symm;omega
  have:=i w1 d;unfold M.sgn at this;rw[k6 (by rw[j];omega)] at this;simp only[push_cast,f.ld1];exact this
def zN (op x y:Nat):Nat:=if op=4 then x+y-x*y else if op=5 then(x+y)%2 else x*y
theorem zN_ck {op a b i:Nat} (d:3<=op) (g:op<=5) (e:a<16) (f:b<16) (hi:i<4):M.binN op 4 a b/2^(i+1)*2+zN op (a/2^i%2) (b/2^i%2)=M.binN op 4 a b/2^i:=by
 have c:∀o:Fin 6,∀i:Fin 4,3<=o.1->(List.range 16).all (λa=>(List.range 16).all λb=>decide (M.binN o.1 4 a b/2^(i.1+1)*2+zN o.1 (a/2^i.1%2) (b/2^i.1%2)=M.binN o.1 4 a b/2^i.1))=true:=by decide+kernel
 have:=c ⟨op,oM⟩ ⟨i,hi⟩ d;simp only[gN,gI,X0] at this;exact this a e b f
theorem zN_16 {op a b:Nat} (d:3<=op) (g:op<=5) (e:a<16) (f:b<16):M.binN op 4 a b<16:=by
 have c:∀o:Fin 6,3<=o.1->(List.range 16).all (λa=>(List.range 16).all λb=>decide (M.binN o.1 4 a b<16))=true:=by decide+kernel
 have:=c ⟨op,oM⟩ d;simp only[gN,gI,X0] at this;exact this a e b f
theorem l1Bits_spec {op a b:Nat} (D:3<=op) (E:op<=5) (H:a<16) (I:b<16) (G:K (nI ((M.binN op 4 a b:Nat):Int)) w):vcall WJ #[nI (op:Int),nI (a:Int),nI (b:Int)] w K:=by
 refine zf {loops:=[(3,[7,8])]} Tryz.func294 ?_;have k:=zN_16 D E H I;refine vloop_up 4 (λj u w'=>u=[nI ((M.binN op 4 a b/2^(4-j):Nat):Int),nI (3-(j:Int))]/\w'=w) ⟨by rw[show M.binN op 4 a b/2^(4-0)=0 from Nat.div_eq_of_lt k];rfl,rfl⟩ ?_;rintro j _ _ w1 C hj ⟨rfl,rfl⟩ F;obtain⟨f,J⟩:∃f,f=M.binN op 4 a b:=⟨_,rfl⟩;have m:∀i,i<4->f/2^(i+1)*2+zN op (a/2^i%2) (b/2^i%2)=f/2^i:=λi hi=>by rw[J];exact zN_ck D E H I hi
 rw[<-J] at F G k⊢;by_cases U:j<=3
 .obtain⟨i,hi⟩:∃i,i+j=3:=⟨3-j,oM⟩;have Q:4-j=i+1:=oM;have R:3-(j:Int)=(i:Int):=oM;have S:4-(j+1)=i:=oM;have T:3-((j+1:Nat):Int)=(i:Int)-1:=oM;have g:=F oM;rw[S,T] at g;rw[Q,R];have d:=m i oM;obtain⟨p,n⟩:∃p,p=f/2^(i+1):=⟨_,rfl⟩;obtain⟨q,o⟩:∃q,q=f/2^i:=⟨_,rfl⟩;have W:q<=f:=by rw[o];exact GD _ _
  have V:p<=f:=by rw[n];exact GD _ _
  rw[<-n,<-o] at d;rw[<-o] at g;rw[<-n];have ei:IntKind.i64.wrap ((i:Int)-1)=(i:Int)-1:=zl oM oM;refine oZ ?_;refine zb (λc=>?_) (λc=>absurd oM c);refine l1Bit_spec oM oM ?_;refine l1Bit_spec oM oM ?_;have Y:a/2^i%2<2:=pO _ oM;have Z:b/2^i%2<2:=pO _ oM;obtain⟨x,r⟩:∃x,x=a/2^i%2:=⟨_,rfl⟩;obtain⟨y,v⟩:∃y,y=b/2^i%2:=⟨_,rfl⟩;rw[<-r] at Y d⊢;rw[<-v] at Z d⊢;have t:x*y<=1:=by
   have:=P5 (show x<=1 by omega) (show y<=1 by omega);omega
  obtain⟨z,l⟩:∃z,z=x*y:=⟨_,rfl⟩;have A:(x:Int)*(y:Int)=(z:Int):=by rw[l];simp
  have L:z<=x/\z<=y:=by
   rcases(by omega:x=0\/x=1) with h|h<;>rcases(by omega:y=0\/y=1) with B|B<;>subst h<;>subst B<;>simp at l<;>omega
  rw[<-l] at t;unfold zN at d;rw[<-l] at d;simp only[push_cast,A];refine zb (λN=>?_) (λN=>?_)
  .rw[k6 oM] at d;rw[zl (x:=z) oM oM,zl (x:=(x:Int)+y) oM oM,zl (x:=(x:Int)+y-z) oM oM,zl (x:=(p:Int)*2) oM oM,zl (x:=(p:Int)*2+((x:Int)+y-z)) oM oM,ei,show(p:Int)*2+((x:Int)+y-z)=(q:Int) by omega];exact g _ _ ⟨rfl,rfl⟩
  rw[y3 oM] at d;refine zb (λO=>?_) (λO=>?_)
  .rw[k6 oM] at d;rw[zl (x:=(x:Int)+y) oM oM,Y7 oM,show(x:Int)+(y:Int)=((x+y:Nat):Int) by omega,show((x+y:Nat):Int).tmod 2=(((x+y)%2:Nat):Int) from rfl];obtain⟨s,hs⟩:∃s,s=(x+y)%2:=⟨_,rfl⟩;have X:s<2:=oM;rw[<-hs] at d⊢;refine oZ ?_;rw[zl (x:=(p:Int)*2) oM oM,zl (x:=(p:Int)*2+s) oM oM,ei,show(p:Int)*2+(s:Int)=(q:Int) by omega];exact g _ _ ⟨rfl,rfl⟩
  .rw[y3 oM] at d;rw[zl (x:=z) oM oM,zl (x:=(p:Int)*2) oM oM,zl (x:=(p:Int)*2+z) oM oM,ei,show(p:Int)*2+(z:Int)=(q:Int) by omega];exact g _ _ ⟨rfl,rfl⟩
 .have:j=4:=oM;subst this;have e:f/2^(4-4)=f:=Nat.div_one _;rw[e];refine oZ ?_;exact G
end
section
variable {w:World} {K:oK} {F:Nat->Prop}
theorem nat_ck {p:Nat->Nat->Nat->Bool} (h:∀v:Fin 5,(List.range 16).all (λa=>(List.range 16).all λb=> !(decide (1<=v.1)&&decide (a<2^v.1))||p v.1 a b)=true) {k a b:Nat} (d:1<=k) (e:k<=4) (c:a<2^k) (f:b<16):p k a b=true:=by
 have:=h ⟨k,oM⟩;simp only[gN,gI,Gj,gK,GB,decide_eq_false_iff_not] at this;rcases this a (pow16 e c) b f with(h|h)|h
 .exact absurd d h
 .exact absurd c h
 .exact h
theorem shl_ck {k a b:Nat} (c:1<=k) (d:k<=4) (e:a<2^k) (f:b<16):a*2^min b k%2^k=M.binN 11 k a b:=
 of_decide_eq_true (nat_ck (p:=λk a b=>decide (a*2^min b k%2^k=M.binN 11 k a b)) (by decide+kernel) c d e f)
theorem shr_ck {k a b:Nat} (c:1<=k) (d:k<=4) (e:a<2^k) (f:b<16):a/2^min b k=M.binN 12 k a b:=
 of_decide_eq_true (nat_ck (p:=λk a b=>decide (a/2^min b k=M.binN 12 k a b)) (by decide+kernel) c d e f)
theorem sar_ck {k a b:Nat} (c:1<=k) (d:k<=4) (e:a<2^k) (f:b<16):(if a/2^(k-1)%2=0 then a/2^min b k else 2^k-1-(2^k-1-a)/2^min b k)=M.binN 13 k a b:=
 of_decide_eq_true (nat_ck (p:=λk a b=>decide ((if a/2^(k-1)%2=0 then a/2^min b k else 2^k-1-(2^k-1-a)/2^min b k)=M.binN 13 k a b)) (by decide+kernel) c d e f)
theorem l1Shift_spec {op k a b:Nat} (I:11<=op) (J:op<=13) (u:1<=k) (p:k<=4) (r:a<2^k) (A:b<16) (y:∀w',Ext w w'->K (nI ((M.binN op k a b:Nat):Int)) w'):vcall YK #[nI (op:Int),xY k a,nI (b:Int)] w K:=by
 refine zf {} Tryz.func295 ?_;have O:=pow4 u p;have s:=pow16 p r;refine zk λb1 w1 L i Q l=>?_;simp only[push_cast,l.ld0];refine l1Min_spec ?_;obtain⟨n,E⟩:∃n,n=min b k:=⟨_,rfl⟩;have N:n<=k:=oM
 rw[show min (b:Int) (k:Int)=(n:Int) by omega];have j:1<=2^n/\2^n<=16:=⟨P6 oM,gS (gJ oM (show n<=4 by omega)) dC⟩
 try simp only[push_cast]
 refine zb (λc=>?_) (λc=>?_)
 .have:op=11:=oM;subst this;have f:=shl_ck u p r A;rw[<-E] at f;refine zd λw2 g _=>?_;have h:=l.ext g;simp only[push_cast,h.ld0,h.ld1,y4];refine l1Two_nat oM ?_;obtain⟨q,o⟩:∃q,q=2^n:=⟨_,rfl⟩;rw[<-o] at f j⊢;have hm:=mul225 s (show q-1<16 by omega);have t:a*q=a*(q-1)+a:=by rw[<-Nat.mul_succ];congr 1;omega
  obtain⟨x,G⟩:∃x,x=a*q:=⟨_,rfl⟩;have e:IntKind.i64.wrap ((a:Int)*(q:Int))=(x:Int):=by
   rw[show(a:Int)*(q:Int)=(x:Int) by rw[G];simp];exact wrapN oM
  rw[<-G] at f;simp only[push_cast,h.ld0,h.ld1,y4,gh,e];refine l1Mod_spec u p oM oM ?_;rw[show(x:Int)%((2^k:Nat):Int)=((x%2^k:Nat):Int) from rfl,f];exact y _ (i.trans g)
 refine zb (λc2=>?_) (λc2=>?_)
 .have:op=12:=oM;subst this;have f:=shr_ck u p r A;rw[<-E] at f;refine zd λw2 g _=>?_;have h:=l.ext g;simp only[push_cast,h.ld1,y4];refine l1Two_nat oM ?_;obtain⟨q,o⟩:∃q,q=2^n:=⟨_,rfl⟩;rw[<-o] at f j⊢;have B:=GD a q;simp only[push_cast,h.ld1,y4,gh];rw[Z3 oM,show(a:Int).tdiv (q:Int)=((a/q:Nat):Int) from rfl,wrapN oM,f];exact⟨rfl,y _ (i.trans g)⟩
 .have:op=13:=oM;subst this;have f:=sar_ck u p r A;rw[<-E] at f;have H:IntKind.i64.wrap ((k:Int)-1)=((k-1:Nat):Int):=by rw[zl oM oM];omega
  simp only[push_cast,l.ld0,l.ld1,H];refine l1Bit_spec oM oM ?_;obtain⟨z,R⟩:∃z,z=a/2^(k-1)%2:=⟨_,rfl⟩;rw[<-R] at f⊢;refine oZ ?_;refine zb (λc3=>?_) (λc3=>?_)
  .rw[k6 oM] at f;refine zd λw2 g _=>?_;have h:=l.ext g;simp only[push_cast,h.ld1,y4];refine l1Two_nat oM ?_;obtain⟨q,o⟩:∃q,q=2^n:=⟨_,rfl⟩;rw[<-o] at f j⊢;have B:=GD a q;simp only[push_cast,h.ld1,y4,gh];rw[Z3 oM,show(a:Int).tdiv (q:Int)=((a/q:Nat):Int) from rfl,wrapN oM,f];exact⟨rfl,y _ (i.trans g)⟩
  .rw[y3 oM] at f;simp only[push_cast,l.ld0];refine l1Two_nat oM ?_;obtain⟨m,hm⟩:∃m,m=2^k:=⟨_,rfl⟩;rw[<-hm] at f O r⊢;have F:IntKind.i64.wrap ((m:Int)-1)=((m-1:Nat):Int):=by rw[zl oM oM];omega
   have v:IntKind.i64.wrap (((m-1:Nat):Int)-(a:Int))=((m-1-a:Nat):Int):=by rw[zl oM oM];omega
   obtain⟨m1,D⟩:∃m1,m1=m-1:=⟨_,rfl⟩;rw[<-D] at F v f;obtain⟨m2,t⟩:∃m2,m2=m1-a:=⟨_,rfl⟩;rw[<-t] at v f;simp only[push_cast,F];refine zd λw2 g _=>?_;have h:=l.ext g;simp only[push_cast,h.ld1,y4,v];refine l1Two_nat oM ?_;obtain⟨q,o⟩:∃q,q=2^n:=⟨_,rfl⟩;rw[<-o] at f j⊢;have B:=GD m2 q;simp only[push_cast,h.ld1,y4,gh,v];rw[Z3 oM,show(m2:Int).tdiv (q:Int)=((m2/q:Nat):Int) from rfl,wrapN oM];refine⟨rfl,?_⟩;obtain⟨d,C⟩:∃d,d=m2/q:=⟨_,rfl⟩;rw[<-C] at f B⊢;refine oZ ?_;rw[zl oM oM,show(m1:Int)-(d:Int)=((m1-d:Nat):Int) by omega,f];exact⟨trivial,y _ (i.trans g)⟩
theorem bin4 {op k a b:Nat} (d:3<=op) (e:op<=5):M.binN op 4 a b=M.binN op k a b:=by
 unfold M.binN;by_cases h:op=3
 .rw[k6 h,k6 h]
 by_cases c:op=4
 .rw[y3 h,y3 h,k6 c,k6 c]
 .rw[y3 h,y3 h,y3 c,y3 c,k6 oM,k6 oM]
theorem l1Bin_spec {k a l b:Nat} {op:Int} (D:1<=k) (y:k<=4) (S:a<2^k) (l4:l<=4) (T:b<2^l) (j:∀w' (r:Int),Ext w w'->3<=op->op<=13->(k=l->r=((M.binN op.toNat k a b:Nat):Int))->K (.tuple #[nI r,.bool true]) w')
  (L:∀w',Ext w w'->¬(3<=op/\op<=13)->K (.tuple #[nI 0,.bool false]) w'):vcall zC0 #[nI op,xY k a,xY l b] w K:=by
 refine zf {cuts:=[(12293,[9])]} Tryz.func254 ?_;have X:=pow4 D y;have n:=pow16 y S;have h:=pow16 l4 T;refine zk λb1 w1 V I Y U=>?_;refine zk λb2 w2 W B Z g2=>?_;have f:=U.ext B;have i:=I.trans B;refine zp (λu w'=>u=[.bool (decide (3<=op/\op<=5))]/\w'=w2) (λC H=>?_) ?_
 .refine oZ ?_;refine zb (λc=>?_) (λc=>?_)
  .exact H _ _ ⟨by rw[gk (show 3<=op/\op<=5 by omega),gk c],rfl⟩
  refine zb (λc2=>?_) (λc2=>?_)
  .exact H _ _ ⟨by rw[gk (show 3<=op/\op<=5 by omega),gk c2],rfl⟩
  .refine H _ _ ⟨?_,rfl⟩;by_cases c3:op=5
   .rw[gk (show 3<=op/\op<=5 by omega),gk c3]
   .rw[gg (show¬(3<=op/\op<=5) by omega),gg c3]
 .rintro u g w3 ⟨rfl,rfl⟩;refine oZ ?_;refine zb (λc=>?_) (λc=>?_)
  .simp only[push_cast,f.ld1,g2.ld1];obtain⟨o,rfl⟩:∃o:Nat,op=o:=⟨op.toNat,oM⟩;refine l1Bits_spec oM oM n h ?_;refine j _ _ i oM oM λe=>?_;rw[gq,bin4 (k:=k) oM oM]
  refine zb (λN=>?_) (λN=>?_)
  .subst N;simp only[push_cast,f.ld0,f.ld1,g2.ld1];rw[zl (x:=(a:Int)+b) oM oM];refine l1Mod_spec D y oM oM ?_;refine j _ _ i oM oM λe=>?_;show _=(((a+b)%2^k:Nat):Int);rw[show(a:Int)+(b:Int)=((a+b:Nat):Int) by omega];rfl
  refine zb (λO=>?_) (λO=>?_)
  .subst O;simp only[push_cast,f.ld0,f.ld1,g2.ld1];rw[zl (x:=(a:Int)-b) oM oM];refine l1Mod_spec D y oM oM ?_;refine j _ _ i oM oM λe=>?_;subst e;show _=(((a+2^k-b)%2^k:Nat):Int);rcases(by omega:k=1\/k=2\/k=3\/k=4) with rfl|rfl|rfl|rfl<;>simp at T⊢ <;>omega
  refine zb (λQ=>?_) (λQ=>?_)
  .subst Q;have hm:=mul225 n h;simp only[push_cast,f.ld0,f.ld1,g2.ld1];rw[show(a:Int)*(b:Int)=((a*b:Nat):Int) by simp,wrapN oM];refine l1Mod_spec D y oM oM ?_;exact j _ _ i oM oM λe=>rfl
  refine zb (λR=>?_) (λR=>?_)
  .subst R;simp only[push_cast,g2.ld1];refine zb (λd=>?_) (λd=>?_)
   .have s:b=0:=oM;subst s;simp only[push_cast,f.ld0];refine l1Two_nat oM ?_;obtain⟨m,hm⟩:∃m,m=2^k:=⟨_,rfl⟩;rw[<-hm] at X⊢;refine oZ ?_;rw[zl oM oM];refine j _ _ i oM oM λe=>?_;have:M.binN (9:Int).toNat k a 0=2^k-1:=(by simp[M.binN]);rw[this,<-hm];omega
   .simp only[push_cast,f.ld1,g2.ld1];have hd:=GD a b;rw[Z3 oM,show(a:Int).tdiv (b:Int)=((a/b:Nat):Int) from rfl,wrapN oM];refine j _ _ i oM oM λe=>?_;have:M.binN (9:Int).toNat k a b=a/b:=(by simp[M.binN,show b≠0 by omega]);rw[this]
  refine zb (λz=>?_) (λz=>?_)
  .subst z;simp only[push_cast,g2.ld1];refine zb (λd=>?_) (λd=>?_)
   .have s:b=0:=oM;subst s;simp only[push_cast,f.ld1];refine j _ _ i oM oM λe=>?_;have:M.binN (10:Int).toNat k a 0=a:=(by simp[M.binN]);rw[this]
   .simp only[push_cast,f.ld1,g2.ld1];rw[Y7 oM,show(a:Int).tmod (b:Int)=((a%b:Nat):Int) from rfl];refine j _ _ i oM oM λe=>?_;have:M.binN (10:Int).toNat k a b=a%b:=(by simp[M.binN,show b≠0 by omega]);rw[this]
  have v:∀o:Nat,11<=o->o<=13->op=o->zt zh (oP b1 0) w3 λt80 E=>zt zU (oP b2 1) E λt82 F=>vcall YK #[nI op,t80,t82] F λt83 G=>K (.tuple #[t83,.bool true]) G:=by
   intro o o1 o2 e;subst e;simp only[push_cast,f.ldAgg (t:=zh) zr,g2.ld1];refine l1Shift_spec o1 o2 D y S h λw4 J=>?_;exact j _ _ (i.trans J) oM oM λe=>rfl
  refine zb (λp=>?_) (λp=>?_)
  .simp only[gk p,Yl0];exact v 11 oM oM p
  refine zb (λq=>?_) (λq=>?_)
  .simp only[gk q,Yl0];exact v 12 oM oM q
  refine zb (λA=>?_) (λA=>?_)
  .exact v 13 oM oM A
  .exact L _ i oM
theorem spec_VecUn_spec {op wd n:Int} (l:∀w',Ext w w'->K (.tuple #[xY (M.vecUn op wd n).1.1 (M.vecUn op wd n).1.2,.bool (M.vecUn op wd n).2]) w'):vcall zD0 #[nI op,xY wd n] w K:=by
 refine zf {} Tryz.func221 ?_;refine zk λb1 w1 H o L E=>?_;refine zj zX λb2 w2 I p N g2=>?_;have u:=E.ext p;simp only[push_cast,u.ldAgg (t:=zh) zr];refine spec_VecOk_spec λw3 f=>?_;have v:=u.ext f;have g3:=g2.ext f;have F:=(o.trans p).trans f;have c:∀d r,Ext w3 d->Same (· =b2) d r->Ext w r:=λd r h D=>Ext.then (F.trans h) D λy O=>by subst O;have:=o.size;omega
 simp only[push_cast];unfold M.vecUn at l;refine zn (λg=>?_) (λg=>?_)
 .refine stVec g3 λd i _ g4=>?_;rw[g4.lv rK];have:=l d (c _ _ (Same.refl _ _) i);rwa[y3 (by simp at g;simp[g])] at this
 .rw[Gb] at g;obtain⟨k,a,rfl,rfl,x,z,G⟩:=M.vok_nat g;have J:=pow4 x z;refine zb (λq=>?_) (λq=>?_)
  .subst q;refine zd λd b _=>?_;have e:=v.ext b;simp only[push_cast,e.ld0,e.ld1,y4];refine l1Two_nat oM ?_;have hu:M.unM 1 (k:Int) (a:Int)=((2^k:Nat):Int)-1-a:=(by simp[M.unM]);obtain⟨m,hm⟩:∃m,m=2^k:=⟨_,rfl⟩;rw[<-hm] at J hu G⊢;have B:IntKind.i64.wrap ((m:Int)-1)=(m:Int)-1:=zl oM oM;have C:IntKind.i64.wrap ((m:Int)-1-(a:Int))=(m:Int)-1-a:=zl oM oM;simp only[push_cast,e.ld0,e.ld1,y4,gh,B,C];refine stVec (g3.ext b) λs j _ g7=>?_;rw[g7.lv rK];have:=l s (c _ _ b j);rw[k6 ⟨g,.inl rfl⟩,hu] at this;exact this
  refine zb (λa2=>?_) (λa2=>?_)
  .subst a2;refine zd λd b _=>?_;have e:=v.ext b;have A:IntKind.i64.wrap (0-(a:Int))=0-(a:Int):=zl oM oM;simp only[push_cast,e.ld0,e.ld1,y4,A];refine l1Mod_spec x z oM oM ?_;have hu:M.unM 2 (k:Int) (a:Int)=(0-(a:Int))%((2^k:Nat):Int):=by
    unfold M.unM;rw[y3 oM,gq];rcases(by omega:k=1\/k=2\/k=3\/k=4) with rfl|rfl|rfl|rfl<;>simp<;>omega
   obtain⟨m,hm⟩:∃m:Int,m=(0-(a:Int))%((2^k:Nat):Int):=⟨_,rfl⟩;rw[<-hm] at hu⊢;simp only[push_cast,e.ld0,y4,gh];refine stVec (g3.ext b) λs j _ g7=>?_;rw[g7.lv rK];have:=l s (c _ _ b j);rw[k6 ⟨g,.inr rfl⟩,hu] at this;exact this
  .refine stVec g3 λd i _ g4=>?_;rw[g4.lv rK];have:=l d (c _ _ (Same.refl _ _) i);rwa[y3 (λh=>h.2.elim q a2)] at this
theorem spec_VecBin_spec {op wd n v m:Int} (z:∀w',Ext w w'->K (.tuple #[xY (M.vecBin op wd n v m).1.1 (M.vecBin op wd n v m).1.2,.bool (M.vecBin op wd n v m).2]) w'):vcall WM #[nI op,xY wd n,xY v m] w K:=by
 refine zf {cuts:=[(8195,[])]} Tryz.func223 ?_;refine zk λb1 w1 a0 F a5 h1=>?_;refine zk λb2 w2 a3 A a6 g2=>?_;refine zj zX λb3 w3 a4 B a7 r3=>?_;have hE:=(F.trans A).trans B;have a8:=F.size;have a9:=A.size;have W:=(h1.ext A).ext B;have g3:=g2.ext B;have j:∀o p,Ext w3 o->Same (· =b3) o p->Ext w p:=λo p h h'=>Ext.then (hE.trans h) h' λy hy=>by subst hy;omega
 have f:(M.vecBin op wd n v m)=((0,0),false)->∀o,Ext w3 o->zW zh (oP b3 0) (xY 0 0) o λ_ p=>vlv zh (oP b3 0) p λr w6=>K (.tuple #[r,.bool false]) w6:=by
  intro e o c;refine stVec (r3.ext c) λp S _ r5=>?_;rw[r5.lv rK];have:=z p (j _ _ c S);rwa[e] at this
 refine zp (λu o=>u=[]/\Ext w3 o/\M.vok wd n=true/\M.vok v m=true) (λC hC=>?_) ?_
 .simp only[push_cast,W.ldAgg (t:=zh) zr];refine spec_VecOk_spec λo c=>?_;have g4:=g3.ext c;refine oZ ?_;refine zn (λI=>f ?_ _ c) (λI=>?_)
  .unfold M.vecBin;rw[y3 (by simp at I;simp[I])]
  .simp only[push_cast,g4.ldAgg (t:=zh) zr];refine spec_VecOk_spec λp d=>?_;refine oZ ?_;refine zn (λi=>f ?_ _ (c.trans d)) (λi=>?_)
   .unfold M.vecBin;rw[y3 (by simp at i;simp[i])]
   .exact hC _ _ ⟨rfl,c.trans d,by simpa using I,by simpa using i⟩
 .rintro u g o ⟨rfl,c,G,i⟩;have H:=W.ext c;have g4:=g3.ext c;have r4:=r3.ext c;obtain⟨k,a,rfl,rfl,k1,k4,X⟩:=M.vok_nat G;obtain⟨l,b,rfl,rfl,l1,T,Y⟩:=M.vok_nat i;have E:=pow16 k4 X;have Z:=pow16 T Y;unfold M.vecBin at z f;rw[k6 ⟨G,i⟩] at z f;refine oZ ?_;refine zb (λJ=>?_) (λJ=>?_)
  .rw[k6 J] at z f;have N:IntKind.i64.wrap ((k:Int)+(l:Int))=(k:Int)+(l:Int):=zl oM oM;simp only[push_cast,H.ld0,g4.ld0,N];refine zb (λa2=>f (y3 oM) _ c) (λa2=>?_);refine zd λp d _=>?_;have x:=H.ext d;have g5:=g4.ext d;simp only[push_cast,x.ld0,x.ld1,g5.ld0,g5.ld1,y4,N];refine l1Two_nat oM ?_;have Q:=pow4 l1 T;have s:M.catM (l:Int) (a:Int) (b:Int)=(a:Int)*((2^l:Nat):Int)+b:=(by simp[M.catM]);have hm:=mul225 E (show 2^l-1<16 by omega);have R:a*2^l=a*(2^l-1)+a:=by rw[<-Nat.mul_succ];congr 1;omega
   obtain⟨q,hq⟩:∃q,q=2^l:=⟨_,rfl⟩;rw[<-hq] at s hm R Q⊢;have hz:(a:Int)*(q:Int)=((a*q:Nat):Int):=(by simp);have e2:IntKind.i64.wrap ((a:Int)*(q:Int))=(a:Int)*(q:Int):=zl oM oM;have e3:IntKind.i64.wrap ((a:Int)*(q:Int)+(b:Int))=(a:Int)*(q:Int)+b:=zl oM oM;simp only[push_cast,x.ld0,x.ld1,g5.ld0,g5.ld1,y4,N,e2,e3,gh];refine stVec (r4.ext d) λV D _ U=>?_;rw[U.lv rK];have:=z V (j _ _ (c.trans d) D);rw[k6 oM,s] at this;exact this
  .rw[y3 J] at z f;simp only[push_cast,H.ldAgg (t:=zh) zr,g4.ldAgg (t:=zh) zr];refine l1Bin_spec k1 k4 X T Y (λp r d c3 L hr=>?_) λp d hn=>?_
   .have x:=H.ext d;have g5:=g4.ext d;simp only[push_cast,x.ld0,g5.ld0,Gz];refine zb (λa2=>f (y3 oM) _ (c.trans d)) (λa2=>?_);have O:k=l:=oM;subst O
    try simp only[push_cast,x.ld0]
    refine stVec (r4.ext d) λV D _ U=>?_;rw[U.lv rK];have:=z V (j _ _ (c.trans d) D);rw[k6 ⟨c3,L,rfl⟩] at this;rw[hr rfl];exact this
   .simp only[push_cast,PH];exact f (y3 (λh=>hn ⟨h.1,h.2.1⟩)) _ (c.trans d)
theorem spec_VecCmp_spec {op wd n v m:Int} (q:∀w',Ext w w'->K (.tuple #[.bool (M.vecCmp op wd n v m).1,.bool (M.vecCmp op wd n v m).2]) w'):vcall WL #[nI op,xY wd n,xY v m] w K:=by
 refine zf {cuts:=[(8195,[])]} Tryz.func222 ?_;refine zk λb1 w1 O D R I=>?_;refine zk λb2 w2 Q r S g2=>?_;have x:=D.trans r;have z:=I.ext r;have i:(M.vecCmp op wd n v m)=(false,false)->∀j,Ext w2 j->K (.tuple #[.bool false,.bool false]) j:=by
  intro e j c;have:=q j (x.trans c);rwa[e] at this
 refine zp (λu j=>u=[]/\Ext w2 j/\M.vok wd n=true/\M.vok v m=true/\wd=v) (λC J=>?_) ?_
 .simp only[push_cast,z.ldAgg (t:=zh) zr];refine spec_VecOk_spec λj c=>?_;have g4:=g2.ext c;refine oZ ?_;refine zn (λy=>i ?_ _ c) (λy=>?_)
  .unfold M.vecCmp;rw[y3 (by simp at y;simp[y])]
  .simp only[push_cast,g4.ldAgg (t:=zh) zr];refine spec_VecOk_spec λT d=>?_;have g5:=g4.ext d;have B:=(z.ext c).ext d;refine oZ ?_;refine zn (λf=>i ?_ _ (c.trans d)) (λf=>?_)
   .unfold M.vecCmp;rw[y3 (by simp at f;simp[f])]
   .simp only[push_cast,B.ld0,g5.ld0];refine zb (λp=>i ?_ _ (c.trans d)) (λp=>?_)
    .unfold M.vecCmp;rw[y3 (λh=>p h.2.2.1)]
    .exact J _ _ ⟨rfl,c.trans d,by simpa using y,by simpa using f,oM⟩
 .rintro u g j ⟨rfl,c,o,f,rfl⟩;have A:=z.ext c;have g4:=g2.ext c;unfold M.vecCmp at q i;refine oZ ?_;refine zb (λp=>?_) (λp=>?_)
  .subst p;simp only[push_cast,A.ld1,g4.ld1];have:=q j (x.trans c);rw[k6 ⟨o,f,rfl,oM,oM⟩] at this;exact this
  refine zb (λa2=>?_) (λa2=>?_)
  .subst a2;simp only[push_cast,A.ld1,g4.ld1];have:=q j (x.trans c);rw[k6 ⟨o,f,rfl,oM,oM⟩] at this;exact this
  refine zb (λa3=>?_) (λa3=>?_)
  .subst a3;obtain⟨k,a,rfl,rfl,G,H,L⟩:=M.vok_nat o;obtain⟨l,b,V,rfl,W,X,N⟩:=M.vok_nat f;have F:l=k:=oM;subst F;refine zd λT d _=>?_;have B:=A.ext d;have g5:=g4.ext d;simp only[push_cast,B.ldAgg (t:=zh) zr,g5.ldAgg (t:=zh) zr,y4];refine l1Signed_spec G H L λY s=>?_;have g6:=g5.ext s;simp only[push_cast,g6.ldAgg (t:=zh) zr,y4,gh];refine l1Signed_spec G H N λU E=>?_;simp only[push_cast,y4];have:=q U (((x.trans c).trans d).trans (s.trans E));rw[k6 ⟨o,f,rfl,oM,oM⟩] at this;exact this
  .exact i (by rw[y3 (λh=>oM)]) _ c
theorem spec_VecCut_spec {wd n hi lo:Int} (i:∀w',Ext w w'->K (.tuple #[xY (M.vecCut wd n hi lo).1.1 (M.vecCut wd n hi lo).1.2,.bool (M.vecCut wd n hi lo).2]) w'):vcall WK #[xY wd n,nI hi,nI lo] w K:=by
 refine zf {cuts:=[(8195,[])]} Tryz.func220 ?_;refine zk λb1 w1 a0 v a5 W=>?_;refine zj zX λb3 w3 a4 A a6 S=>?_;have Y:=v.trans A;have a7:=v.size;have D:=W.ext A;have j:∀f m,Ext w3 f->Same (· =b3) f m->Ext w m:=λf m h V=>Ext.then (Y.trans h) V λy hy=>by subst hy;omega
 have c:(M.vecCut wd n hi lo)=((0,0),false)->∀f,Ext w3 f->zW zh (oP b3 0) (xY 0 0) f λ_ m=>vlv zh (oP b3 0) m λr O=>K (.tuple #[r,.bool false]) O:=by
  intro e f b;refine stVec (S.ext b) λm L _ r5=>?_;rw[r5.lv rK];have:=i m (j _ _ b L);rwa[e] at this
 unfold M.vecCut at i c;refine zp (λu f=>u=[]/\Ext w3 f/\M.vok wd n=true/\0<=lo/\lo<=hi/\hi<wd) (λC X=>?_) ?_
 .simp only[push_cast,D.ldAgg (t:=zh) zr];refine spec_VecOk_spec λf b=>?_;have E:=D.ext b;refine oZ ?_;refine zn (λp=>c ?_ _ b) (λp=>?_)
  .rw[y3 (by simp at p;simp[p])]
  refine zb (λT=>c (y3 oM) _ b) (λT=>?_);refine zb (λa2=>c (y3 oM) _ b) (λa2=>?_);simp only[push_cast,E.ld0];refine zb (λa3=>c (y3 oM) _ b) (λa3=>?_);exact X _ _ ⟨rfl,b,by simpa using p,oM,oM,oM⟩
 .rintro u g f ⟨rfl,b,p,c1,c2,c3⟩;have E:=D.ext b;have r4:=S.ext b;obtain⟨k,a,rfl,rfl,k1,k4,Z⟩:=M.vok_nat p;obtain⟨l,rfl⟩:∃l:Nat,lo=l:=⟨lo.toNat,oM⟩;obtain⟨t,R⟩:∃t:Nat,hi-(l:Int)+1=t:=⟨(hi-l+1).toNat,oM⟩;have Q:=pow16 k4 Z;have U:IntKind.i64.wrap (IntKind.i64.wrap (hi-(l:Int))+1)=(t:Int):=by rw[zl (x:=hi-l) oM oM,zl oM oM];omega
  simp only[push_cast,U];refine zd λm o _=>?_;have F:=E.ext o;simp only[push_cast,F.ld1,y4];refine l1Two_nat oM ?_;have B:M.cutM (a:Int) hi (l:Int)=((a/2^l%2^t:Nat):Int):=by
   unfold M.cutM;rw[R];simp
  rw[k6 ⟨p,c1,c2,c3⟩] at i;simp only[B,R] at i;have H:0<2^l:=P6 oM;have I:0<2^t:=P6 oM;obtain⟨q,hq⟩:∃q,q=2^l:=⟨_,rfl⟩;rw[<-hq] at H i⊢;have hd:=GD a q;have eQ:∀(w:World) (K:oK),qA .quo zU false (nI (a:Int)) (nI (q:Int)) w K=K (nI ((a/q:Nat):Int)) w:=λw K=>by
   rw[Z3 oM,show(a:Int).tdiv (q:Int)=((a/q:Nat):Int) from rfl,wrapN oM]
  obtain⟨d,G⟩:∃d,d=a/q:=⟨_,rfl⟩;rw[<-G] at eQ hd i;simp only[push_cast,F.ld1,y4,gh,eQ];refine l1Two_nat oM ?_;obtain⟨s,J⟩:∃s,s=2^t:=⟨_,rfl⟩;rw[<-J] at I i⊢;have eR:∀(w:World) (K:oK),qA .rem zU false (nI (d:Int)) (nI (s:Int)) w K=K (nI ((d%s:Nat):Int)) w:=λw K=>by
   rw[Y7 oM,show(d:Int).tmod (s:Int)=((d%s:Nat):Int) from rfl]
  obtain⟨z,hz⟩:∃z,z=d%s:=⟨_,rfl⟩;rw[<-hz] at i eR;simp only[push_cast,F.ld1,y4,gh,eQ,eR];refine stVec (r4.ext o) λO N _ r6=>?_;rw[r6.lv rK];exact i O (j _ _ (b.trans o) N)
end
section
variable {w:World} {K:oK} {F G:Nat->Prop}
theorem unKind_value_spec {s:ByteArray} {n:Int} {ev tv kv:Value} {t:M.Tm} {xs:List (Int×Int)} (R:TermR F w tv t) (S:PairsR G w kv xs) (Y:xs.length=1)
  (I:∀w',Ext w w'->K (nI (M.vecUn t.op (xs.getD 0 (0,0)).1 (xs.getD 0 (0,0)).2).1.2) w'):vcall jS #[KV s n,ev,tv,kv] w K:=by
 refine zf {cuts:=[(8194,[9])]} Tryz.func374 ?_;obtain⟨ksv,rfl,N⟩:=R;refine zk λb1 w1 J m O X=>?_;refine zk λb2 w2 L o Q B=>?_;have z:=m.trans o;have Z:=z.size;refine zp (λu w'=> ∃b wd,u=[oP b 0]/\Ext w w'/\Blk w' b [nI wd,nI (M.vecUn t.op (xs.getD 0 (0,0)).1 (xs.getD 0 (0,0)).2).1.2] zh) (λC x=>?_) ?_
 .refine zd λw3 d _=>?_;have c:=z.trans d;have e:=S.ext c;have j:=B.ext d;have T:=c.size;simp(disch:=exact oS) only[push_cast,j.ld0,e.iaddr,e.load,y4,gZ];refine⟨?_,?_⟩
  .refine VecUn_spec λw4 f=>?_;have U:=f.size;simp only[push_cast,y4];refine zj zX λA V l a p k=>?_
   try simp only[push_cast,y4,gh]
   refine stVec k λW q _ E=>?_
   try simp only[push_cast,y4,gh]
   exact x _ _ ⟨_,_,rfl,Ext.then ((c.trans f).trans a) q λy v=>by subst v;omega,E⟩
  .refine zj zX λA V l a p k=>?_;have D:=j.ext a;have i:=e.ext a;simp(disch:=exact oS) only[push_cast,D.ld0,i.iaddr,i.load,y4,gh,gZ];refine VecUn_spec λW h=>?_;simp only[push_cast,y4];refine stVec (k.ext h) λw7 r _ H=>?_
   try simp only[push_cast,y4,gh]
   exact x _ _ ⟨_,_,rfl,Ext.then ((c.trans a).trans h) r λy v=>by subst v;omega,H⟩
 .rintro u g w3 ⟨b,wd,rfl,d,j⟩;simp only[push_cast,j.ld1];exact I _ d
theorem binKind_value_spec {s:ByteArray} {n:Int} {ev tv kv:Value} {t:M.Tm} {xs:List (Int×Int)} (R:TermR F w tv t) (S:PairsR G w kv xs) (Y:xs.length=2)
  (I:∀w',Ext w w'->K (nI (M.vecBin t.op (xs.getD 0 (0,0)).1 (xs.getD 0 (0,0)).2 (xs.getD 1 (0,0)).1 (xs.getD 1 (0,0)).2).1.2) w'):vcall jB #[KV s n,ev,tv,kv] w K:=by
 refine zf {cuts:=[(8194,[9])]} Tryz.func413 ?_;obtain⟨ksv,rfl,N⟩:=R;refine zk λb1 w1 J m O X=>?_;refine zk λb2 w2 L o Q B=>?_;have z:=m.trans o;have Z:=z.size;refine zp (λu w'=> ∃b wd,u=[oP b 0]/\Ext w w'/\Blk w' b [nI wd,nI (M.vecBin t.op (xs.getD 0 (0,0)).1 (xs.getD 0 (0,0)).2 (xs.getD 1 (0,0)).1 (xs.getD 1 (0,0)).2).1.2] zh) (λC x=>?_) ?_
 .refine zd λw3 d _=>?_;have c:=z.trans d;have e:=S.ext c;have j:=B.ext d;have T:=c.size;simp(disch:=exact oS) only[push_cast,j.ld0,e.iaddr,e.load,y4,gZ];refine⟨?_,?_⟩
  .refine VecBin_spec λw4 f=>?_;have U:=f.size;simp only[push_cast,y4];refine zj zX λA V l a p k=>?_
   try simp only[push_cast,y4,gh]
   refine stVec k λW q _ E=>?_
   try simp only[push_cast,y4,gh]
   exact x _ _ ⟨_,_,rfl,Ext.then ((c.trans f).trans a) q λy v=>by subst v;omega,E⟩
  .refine zj zX λA V l a p k=>?_;have D:=j.ext a;have i:=e.ext a;simp(disch:=exact oS) only[push_cast,D.ld0,i.iaddr,i.load,y4,gh,gZ];refine VecBin_spec λW h=>?_;simp only[push_cast,y4];refine stVec (k.ext h) λw7 r _ H=>?_
   try simp only[push_cast,y4,gh]
   exact x _ _ ⟨_,_,rfl,Ext.then ((c.trans a).trans h) r λy v=>by subst v;omega,H⟩
 .rintro u g w3 ⟨b,wd,rfl,d,j⟩;simp only[push_cast,j.ld1];exact I _ d
theorem catKind_value_spec {s:ByteArray} {n:Int} {ev tv kv:Value} {t:M.Tm} {xs:List (Int×Int)} (R:TermR F w tv t) (S:PairsR G w kv xs) (Y:xs.length=2)
  (I:∀w',Ext w w'->K (nI (M.vecBin t.op (xs.getD 0 (0,0)).1 (xs.getD 0 (0,0)).2 (xs.getD 1 (0,0)).1 (xs.getD 1 (0,0)).2).1.2) w'):vcall jz #[KV s n,ev,tv,kv] w K:=by
 refine zf {cuts:=[(8194,[9])]} Tryz.func380 ?_;obtain⟨ksv,rfl,N⟩:=R;refine zk λb1 w1 J m O X=>?_;refine zk λb2 w2 L o Q B=>?_;have z:=m.trans o;have Z:=z.size;refine zp (λu w'=> ∃b wd,u=[oP b 0]/\Ext w w'/\Blk w' b [nI wd,nI (M.vecBin t.op (xs.getD 0 (0,0)).1 (xs.getD 0 (0,0)).2 (xs.getD 1 (0,0)).1 (xs.getD 1 (0,0)).2).1.2] zh) (λC x=>?_) ?_
 .refine zd λw3 d _=>?_;have c:=z.trans d;have e:=S.ext c;have j:=B.ext d;have T:=c.size;simp(disch:=exact oS) only[push_cast,j.ld0,e.iaddr,e.load,y4,gZ];refine⟨?_,?_⟩
  .refine VecBin_spec λw4 f=>?_;have U:=f.size;simp only[push_cast,y4];refine zj zX λA V l a p k=>?_
   try simp only[push_cast,y4,gh]
   refine stVec k λW q _ E=>?_
   try simp only[push_cast,y4,gh]
   exact x _ _ ⟨_,_,rfl,Ext.then ((c.trans f).trans a) q λy v=>by subst v;omega,E⟩
  .refine zj zX λA V l a p k=>?_;have D:=j.ext a;have i:=e.ext a;simp(disch:=exact oS) only[push_cast,D.ld0,i.iaddr,i.load,y4,gh,gZ];refine VecBin_spec λW h=>?_;simp only[push_cast,y4];refine stVec (k.ext h) λw7 r _ H=>?_
   try simp only[push_cast,y4,gh]
   exact x _ _ ⟨_,_,rfl,Ext.then ((c.trans a).trans h) r λy v=>by subst v;omega,H⟩
 .rintro u g w3 ⟨b,wd,rfl,d,j⟩;simp only[push_cast,j.ld1];exact I _ d
theorem cutKind_value_spec {s:ByteArray} {n:Int} {ev tv kv:Value} {t:M.Tm} {xs:List (Int×Int)} (S:TermR F w tv t) (T:PairsR G w kv xs) (Z:xs.length=1)
  (J:∀w',Ext w w'->K (nI (M.vecCut (xs.getD 0 (0,0)).1 (xs.getD 0 (0,0)).2 t.a t.b).1.2) w'):vcall jx #[KV s n,ev,tv,kv] w K:=by
 refine zf {cuts:=[(8194,[9])]} Tryz.func405 ?_;obtain⟨ksv,rfl,O⟩:=S;refine zk λb1 w1 L o Q Y=>?_;refine zk λb2 w2 N p R E=>?_;have B:=o.trans p;have hz:=B.size;refine zp (λu w'=> ∃b wd,u=[oP b 0]/\Ext w w'/\Blk w' b [nI wd,nI (M.vecCut (xs.getD 0 (0,0)).1 (xs.getD 0 (0,0)).2 t.a t.b).1.2] zh) (λC A=>?_) ?_
 .refine zd λw3 e _=>?_;have d:=B.trans e;have f:=T.ext d;have h:=E.ext e;have U:=d.size;simp(disch:=exact oS) only[push_cast,h.ld1,h.ld2,f.iaddr,f.load,y4,gZ];refine⟨?_,?_⟩
  .refine VecCut_spec λw4 i=>?_;have V:=i.size;simp only[push_cast,y4];refine zj zX λD W m c q l=>?_
   try simp only[push_cast,y4,gh]
   refine stVec l λX r _ H=>?_
   try simp only[push_cast,y4,gh]
   exact A _ _ ⟨_,_,rfl,Ext.then ((d.trans i).trans c) r λy x=>by subst x;omega,H⟩
  .refine zj zX λD W m c q l=>?_;have z:=h.ext c;have k:=f.ext c;simp(disch:=exact oS) only[push_cast,z.ld1,z.ld2,k.iaddr,k.load,y4,gh,gZ];refine VecCut_spec λX j=>?_;simp only[push_cast,y4];refine stVec (l.ext j) λw7 v _ I=>?_
   try simp only[push_cast,y4,gh]
   exact A _ _ ⟨_,_,rfl,Ext.then ((d.trans c).trans j) v λy x=>by subst x;omega,I⟩
 .rintro u g w3 ⟨b,wd,rfl,e,h⟩;simp only[push_cast,h.ld1];exact J _ e
theorem cmpKind_value_spec {s:ByteArray} {n:Int} {ev tv kv:Value} {t:M.Tm} {xs:List (Int×Int)} (p:TermR F w tv t) (q:PairsR G w kv xs) (u:xs.length=2)
  (i:∀w',Ext w w'->K (nI (M.b2i (M.vecCmp t.op (xs.getD 0 (0,0)).1 (xs.getD 0 (0,0)).2 (xs.getD 1 (0,0)).1 (xs.getD 1 (0,0)).2).1)) w'):vcall jy #[KV s n,ev,tv,kv] w K:=by
 refine zf {} Tryz.func396 ?_;obtain⟨ksv,rfl,l⟩:=p;refine zk λb1 w1 j d m r=>?_;refine zk λb2 w2 k e o g=>?_;refine zd λw3 b _=>?_;have a:=(d.trans e).trans b;have c:=q.ext a;have h:=g.ext b;simp(disch:=exact oS) only[push_cast,h.ld0,c.iaddr,c.load,y4,gZ];refine VecCmp_spec λv f=>?_;simp only[push_cast,y4];exact YT (i _ (a.trans f))
theorem Xq {s:ByteArray} {n:Int} {ev tv kv:Value} {t:M.Tm} (k:TermR F w tv t)
  (e:∀w',Ext w w'->K (nI t.b) w'):vcall jr #[KV s n,ev,tv,kv] w K:=by
 refine zf {} Tryz.func400 ?_;obtain⟨ksv,rfl,h⟩:=k;refine zk λb1 w1 f a i l=>?_;refine zk λb2 w2 g c j d=>?_;simp only[push_cast,d.ld2];exact e _ (a.trans c)
theorem qP0:kt0 kF .string zU:=⟨_,YG,rK⟩
theorem YW {s:ByteArray} {n:Int} {tv kv:Value} {t:M.Tm} {mb:Nat} {f:List (Value×Value)} {x:Int} (l:TermR F w tv t) (hm:MapF .string w mb f) (c:(Value.string t.s,nI x)∈f)
  (e:∀w',Ext w w'->K (nI x) w'):vcall je #[KV s n,.map (some mb),tv,kv] w K:=by
 refine zf {} Tryz.func402 ?_;obtain⟨ksv,rfl,i⟩:=l;refine zk λb1 w1 g a j m=>?_;refine zk λb2 w2 h b k d=>?_;simp only[push_cast,d.ld3];rw[Xm qP0 (hm.ext (a.trans b)) (XQ _) c];exact e _ (a.trans b)
theorem ifKind_value_spec {s:ByteArray} {n:Int} {ev tv kv:Value} {t:M.Tm} {xs:List (Int×Int)} (l:TermR F w tv t) (m:PairsR G w kv xs) (q:xs.length=3)
  (f:∀w',Ext w w'->K (nI (if(xs.getD 0 (0,0)).2=1 then(xs.getD 1 (0,0)).2 else(xs.getD 2 (0,0)).2)) w'):vcall jU #[KV s n,ev,tv,kv] w K:=by
 refine zf {} Tryz.func408 ?_;obtain⟨ksv,rfl,i⟩:=l;refine zk λb1 w1 g c j o=>?_;refine zk λb2 w2 h d k p=>?_;have b:=m.ext (c.trans d);have e:=f _ (c.trans d)
 try simp(disch:=exact oS) only[push_cast,b.iaddr]
 try simp(disch:=exact oS) only[push_cast,b.load1]
 refine zb (λa=>?_) (λa=>?_)
 .rw[k6 a] at e
  try simp(disch:=exact oS) only[push_cast,b.iaddr]
  try simp(disch:=exact oS) only[push_cast,b.load1]
  exact e
 .rw[y3 a] at e
  try simp(disch:=exact oS) only[push_cast,b.iaddr]
  try simp(disch:=exact oS) only[push_cast,b.load1]
  exact e
def W3 (f:Value) (g:List (Int×Int)->Bool) (n:Nat):Prop:=∀(w:World) (G:Nat->Prop) (kv:Value) (xs:List (Int×Int)) (K:oK),PairsR G w kv xs->xs.length=n->K (.bool (g xs)) w->vcallv f #[kv] w K
theorem Xj {s:ByteArray} {n:Int} {f ev tv kv:Value} {t:M.Tm} {g:List (Int×Int)->Bool} {m:Nat} {xs:List (Int×Int)} (j:W3 f g m) (q:TermR F w tv t) (r:PairsR G w kv xs) (l:xs.length=m)
  (e:∀w',Ext w w'->K (nI (M.b2i (g xs))) w'):vcall jh #[.agg ⟨[.string s,nI n,f]⟩,ev,tv,kv] w K:=by
 refine zf {} Tryz.func410 ?_;obtain⟨ksv,rfl,k⟩:=q;refine zk λb1 w1 h b o c=>?_;refine zk λb2 w2 i a p u=>?_;have d:=c.ext a;simp only[push_cast,d.ld2];refine j _ _ _ _ _ (r.ext (b.trans a)) l ?_;exact YT (e _ (b.trans a))
theorem qV0:W3 (.func (.func Vf) #[] #[]) (λ_=>true) 0:=by
 intro w G kv xs K c b a;refine oZ ?_;refine zf {} Tryz.func79 ?_;exact a
theorem kinds2_fn:W3 (.func (.func Ve) #[] #[]) (λxs=>decide ((xs.getD 0 (0,0)).2=0)) 1:=by
 intro w G kv xs K a c b;refine oZ ?_;refine zf {} Tryz.func80 ?_
 try simp(disch:=exact oS) only[push_cast,a.iaddr]
 try simp(disch:=exact oS) only[push_cast,a.load1]
 exact b
theorem kinds3_fn:W3 (.func (.func Vd) #[] #[]) (λxs=>decide ((xs.getD 0 (0,0)).2=1)&&decide ((xs.getD 1 (0,0)).2=1)) 2:=by
 intro w G kv xs K b d c;refine oZ ?_;refine zf {} Tryz.func81 ?_
 try simp(disch:=exact oS) only[push_cast,b.iaddr]
 try simp(disch:=exact oS) only[push_cast,b.load1]
 refine zb (λa=>?_) (λa=>?_)
 .try simp(disch:=exact oS) only[push_cast,b.iaddr]
  try simp(disch:=exact oS) only[push_cast,b.load1]
  simpa only[gk a,pJ] using c
 .simpa only[gg a,GM] using c
theorem kinds4_fn:W3 (.func (.func Vb) #[] #[]) (λxs=>decide ((xs.getD 0 (0,0)).2=1)||decide ((xs.getD 1 (0,0)).2=1)) 2:=by
 intro w G kv xs K b d c;refine oZ ?_;refine zf {} Tryz.func82 ?_
 try simp(disch:=exact oS) only[push_cast,b.iaddr]
 try simp(disch:=exact oS) only[push_cast,b.load1]
 refine zb (λa=>?_) (λa=>?_)
 .simpa only[gk a,Bool.true_or] using c
 .try simp(disch:=exact oS) only[push_cast,b.iaddr]
  try simp(disch:=exact oS) only[push_cast,b.load1]
  simpa only[gg a,P8] using c
end
section
variable {w:World} {K:oK} {F G:Nat->Prop}
def EnvM (w:World) (mb:Nat) (ds:List M.Dcl) (env:List Int):Prop:= ∃f,MapF .string w mb f/\∀s,0<=M.findD ds s->(Value.string s,nI (env.getD (M.findD ds s).toNat 0))∈f
theorem EnvM.ext {mb:Nat} {ds:List M.Dcl} {env:List Int} {w':World} (h:EnvM w mb ds env) (he:Ext w w'):EnvM w' mb ds env:=by
 obtain⟨f,a,b⟩:=h;exact⟨f,a.ext he,b⟩
def kTy (o:Int):TypeId:=if o<=2 then zO else if o<=13 then zG else if o=14 then zK else if o<=17 then zF else if o=20 then zM else if o=21 then zE else if o=22 then zJ else if o=23 then zR else zy
structure KindR (o:Int) (v:Value):Prop where
 word:∃(s:ByteArray) (m:Int) (r:List Value),v= .iface (kTy o) (.agg ⟨.string s:: nI m::r⟩)/\(o<24->r=[])/\(24<=o->∃f,r=[f]/\f.oneCell'=true)/\(o=20\/o=21\/o=24\/s.data.toList=M.wordL o)
 iface:∃ty x,v= .iface ty x
 kids:∀(w:World) (K:oK),(∀w',Ext w w'->K (nI (M.arity o)) w')->vinvoke v mn_kids #[] w K
 sort:∀(w:World) (K:oK) (F G H:Nat->Prop) (dv tv kv:Value) (ds:List M.Dcl) (t:M.Tm) (xs:List Int),t.op=o->DclsR F w dv ds->TermR G w tv t->Ints H w kv xs->(xs.length:Int)=M.arity o->(∀i,-1<=xs.getD i 0/\xs.getD i 0<=4)->
  (∀w',Ext w w'->K (nI (M.sortK ds t xs)) w')->vinvoke v ke #[dv,tv,kv] w K
 value:∀(w:World) (K:oK) (G H:Nat->Prop) (ev tv kv:Value) (ds:List M.Dcl) (env:List Int) (t:M.Tm) (xs:List (Int×Int)),t.op=o->(t.op=21->∃mb,ev= .map (some mb)/\EnvM w mb ds env)->TermR G w tv t->PairsR H w kv xs->(xs.length:Int)=M.arity o->(∀i,i<xs.length->M.inS (xs.getD i (0,0)).1 (xs.getD i (0,0)).2)->
  M.sortK ds t (xs.map (·.1))≠ -1->(∀w',Ext w w'->K (nI (M.valK ds env t xs)) w')->vinvoke v qF #[ev,tv,kv] w K
section
variable {ds:List M.Dcl} {env:List Int} {t:M.Tm} {xs:List Int} {ys:List (Int×Int)}
theorem kE {i:Nat} (h:i<ys.length):(ys.map (·.1)).getD i 0=(ys.getD i (0,0)).1:=M.getD_map _ h _ _
theorem kind_un {o:Int} {s:ByteArray} (d:o=1\/o=2) (hw:s.data.toList=M.wordL o):KindR o (.iface zO (KV s 1)) where
 word:=⟨_,_,_,by(rw[show kTy o=zO by unfold kTy;rw[k6 oM]];try rfl),λ_=>rfl,λh=>oM,.inr (.inr (.inr hw))⟩
 iface:=⟨_,_,rfl⟩
 kids:=λw K b=>zL (Xa _ _) (qI λw' he=>by have:=b w' he;rcases d with rfl|rfl<;>exact this)
 sort:=λw K F G H dv tv kv ds t xs f l e g c i b=>by
  have a:xs.length=1:=by rcases d with rfl|rfl<;>simp[M.arity] at c<;>omega
  refine zL (X9 _ _) (unKind_sort_spec e g a λw' he=>?_);have:=b w' he;unfold M.sortK at this;rwa[y3 oM,y3 oM,y3 oM,y3 oM,y3 oM,k6 oM] at this
 value:=λw K G H mb tv kv ds env t ys f he e g c i hs b=>by
  have a:ys.length=1:=by rcases d with rfl|rfl<;>simp[M.arity] at c<;>omega
  refine zL (Ys _ _) (unKind_value_spec e g a λw' he=>?_);have:=b w' he;unfold M.sortK at hs;rw[y3 oM,y3 oM,y3 oM,y3 oM,y3 oM,k6 oM,kE oM] at hs;have j:0<(ys.getD 0 (0,0)).1:=by
   by_cases h:0<(ys.getD 0 (0,0)).1
   .exact h
   .rw[y3 h] at hs;exact absurd rfl hs
  have k:=M.inS_pos (i 0 oM) j;unfold M.valK at this;rw[y3 oM,y3 oM,y3 oM,y3 oM,y3 oM,y3 oM,y3 oM,y3 oM,k6 oM] at this;unfold M.vecUn;rw[k6 ⟨k,oM⟩];exact this
theorem kind_bin {o:Int} {s:ByteArray} (m:3<=o) (k:o<=13) (hw:s.data.toList=M.wordL o):KindR o (.iface zG (KV s 2)) where
 word:=⟨_,_,_,by(rw[show kTy o=zG by unfold kTy;rw[y3 oM,k6 oM]];try rfl),λ_=>rfl,λh=>oM,.inr (.inr (.inr hw))⟩
 iface:=⟨_,_,rfl⟩
 kids:=λw K b=>zL (YF _ _) (qI λw' he=>by
  have:=b w' he;unfold M.arity at this;rwa[y3 oM,y3 oM,y3 oM,y3 oM,k6 oM] at this)
 sort:=λw K F G H dv tv kv ds t xs f n e i c d b=>by
  have a:xs.length=2:=by
   unfold M.arity at c;rw[y3 oM,y3 oM,y3 oM,y3 oM,k6 oM] at c;omega
  refine zL (YE _ _) (binKind_sort_spec e i a λw' he=>?_);have:=b w' he;unfold M.sortK at this;rwa[y3 oM,y3 oM,y3 oM,y3 oM,y3 oM,y3 oM,y3 oM,y3 oM] at this
 value:=λw K G H mb tv kv ds env t ys f he e i c d hs b=>by
  have a:ys.length=2:=by
   unfold M.arity at c;rw[y3 oM,y3 oM,y3 oM,y3 oM,k6 oM] at c;omega
  refine zL (ZV _ _) (binKind_value_spec e i a λw' he=>?_);have:=b w' he;unfold M.sortK at hs;rw[y3 oM,y3 oM,y3 oM,y3 oM,y3 oM,y3 oM,y3 oM,y3 oM,kE oM,kE oM] at hs;have j:0<(ys.getD 0 (0,0)).1/\(ys.getD 0 (0,0)).1=(ys.getD 1 (0,0)).1:=by
   by_cases h:0<(ys.getD 0 (0,0)).1/\(ys.getD 0 (0,0)).1=(ys.getD 1 (0,0)).1
   .exact h
   .rw[y3 h] at hs;exact absurd rfl hs
  have l:=M.inS_pos (d 0 oM) j.1;have g:=M.inS_pos (d 1 oM) oM;unfold M.valK at this;rw[y3 oM,y3 oM,y3 oM,y3 oM,y3 oM,y3 oM,y3 oM,y3 oM,y3 oM,y3 oM,y3 oM] at this;unfold M.vecBin;rw[k6 ⟨l,g⟩,y3 oM,k6 ⟨oM,oM,j.2⟩];exact this
theorem kind_cat {s:ByteArray} (hw:s.data.toList=M.wordL 14):KindR 14 (.iface zK (KV s 2)) where
 word:=⟨_,_,_,rfl,λ_=>rfl,λh=>oM,.inr (.inr (.inr hw))⟩
 iface:=⟨_,_,rfl⟩
 kids:=λw K b=>zL (YC _ _) (qI λw' he=>b w' he)
 sort:=λw K F G H dv tv kv ds t xs c l g j e d b=>by
  have a:xs.length=2:=by simp[M.arity] at e;omega
  refine zL (YB _ _) (catKind_sort_spec g j a d λw' he=>?_);have:=b w' he;unfold M.sortK at this;rwa[y3 oM,y3 oM,y3 oM,y3 oM,y3 oM,y3 oM,k6 oM] at this
 value:=λw K G H mb tv kv ds env t ys c he g j e d hs b=>by
  have a:ys.length=2:=by simp[M.arity] at e;omega
  refine zL (ZR _ _) (catKind_value_spec g j a λw' he=>?_);have:=b w' he;unfold M.sortK at hs;rw[y3 oM,y3 oM,y3 oM,y3 oM,y3 oM,y3 oM,k6 oM,kE oM,kE oM] at hs;have f:0<(ys.getD 0 (0,0)).1/\0<(ys.getD 1 (0,0)).1/\(ys.getD 0 (0,0)).1+(ys.getD 1 (0,0)).1<=4:=by
   by_cases h:0<(ys.getD 0 (0,0)).1/\0<(ys.getD 1 (0,0)).1/\(ys.getD 0 (0,0)).1+(ys.getD 1 (0,0)).1<=4
   .exact h
   .rw[y3 h] at hs;exact absurd rfl hs
  have k:=M.inS_pos (d 0 oM) f.1;have i:=M.inS_pos (d 1 oM) f.2.1;unfold M.valK at this;rw[y3 oM,y3 oM,y3 oM,y3 oM,y3 oM,y3 oM,y3 oM,y3 oM,y3 oM,k6 oM] at this;unfold M.vecBin;rw[k6 ⟨k,i⟩,k6 c,k6 f.2.2];exact this
theorem kind_cmp {o:Int} {s:ByteArray} (m:15<=o) (k:o<=17) (hw:s.data.toList=M.wordL o):KindR o (.iface zF (KV s 2)) where
 word:=⟨_,_,_,by(rw[show kTy o=zF by unfold kTy;rw[y3 oM,y3 oM,y3 oM,k6 oM]];try rfl),λ_=>rfl,λh=>oM,.inr (.inr (.inr hw))⟩
 iface:=⟨_,_,rfl⟩
 kids:=λw K b=>zL (Yz _ _) (qI λw' he=>by
  have:=b w' he;unfold M.arity at this;rwa[y3 oM,y3 oM,y3 oM,y3 oM,k6 oM] at this)
 sort:=λw K F G H dv tv kv ds t xs f n e i c d b=>by
  have a:xs.length=2:=by
   unfold M.arity at c;rw[y3 oM,y3 oM,y3 oM,y3 oM,k6 oM] at c;omega
  refine zL (Yy _ _) (cmpKind_sort_spec e i a λw' he=>?_);have:=b w' he;unfold M.sortK at this;rwa[y3 oM,y3 oM,y3 oM,y3 oM,y3 oM,y3 oM,y3 oM,k6 oM] at this
 value:=λw K G H mb tv kv ds env t ys f he e i c d hs b=>by
  have a:ys.length=2:=by
   unfold M.arity at c;rw[y3 oM,y3 oM,y3 oM,y3 oM,k6 oM] at c;omega
  refine zL (ZQ _ _) (cmpKind_value_spec e i a λw' he=>?_);have:=b w' he;unfold M.sortK at hs;rw[y3 oM,y3 oM,y3 oM,y3 oM,y3 oM,y3 oM,y3 oM,k6 oM,kE oM,kE oM] at hs;have j:0<(ys.getD 0 (0,0)).1/\(ys.getD 0 (0,0)).1=(ys.getD 1 (0,0)).1:=by
   by_cases h:0<(ys.getD 0 (0,0)).1/\(ys.getD 0 (0,0)).1=(ys.getD 1 (0,0)).1
   .exact h
   .rw[y3 h] at hs;exact absurd rfl hs
  have l:=M.inS_pos (d 0 oM) j.1;have g:=M.inS_pos (d 1 oM) oM;unfold M.valK at this;rw[y3 oM,y3 oM,y3 oM,y3 oM,y3 oM,y3 oM,y3 oM,y3 oM,y3 oM,y3 oM,k6 oM] at this;unfold M.vecCmp;rw[k6 ⟨l,g,j.2,oM,oM⟩];exact this
theorem kind_vec {s:ByteArray}:KindR 20 (.iface zM (KV s 0)) where
 word:=⟨_,_,_,rfl,λ_=>rfl,λh=>oM,.inl rfl⟩
 iface:=⟨_,_,rfl⟩
 kids:=λw K b=>zL (Yr _ _) (qI λw' he=>b w' he)
 sort:=λw K F G H dv tv kv ds t xs a g c f d e b=>by
  refine zL (Yq _ _) (Q9 c λw' he=>?_);have:=b w' he;unfold M.sortK at this;rwa[k6 a] at this
 value:=λw K G H mb tv kv ds env t ys a he c f d e hs b=>by
  refine zL (ZM _ _) (Xq c λw' he=>?_);have:=b w' he;unfold M.valK at this;rwa[k6 a] at this
theorem kind_name {s:ByteArray}:KindR 21 (.iface zE (KV s 0)) where
 word:=⟨_,_,_,rfl,λ_=>rfl,λh=>oM,.inr (.inl rfl)⟩
 iface:=⟨_,_,rfl⟩
 kids:=λw K b=>zL (ZO _ _) (qI λw' he=>b w' he)
 sort:=λw K F G H dv tv kv ds t xs a g e k i j b=>by
  refine zL (ZN _ _) (nameKind_sort_spec e g λw' he=>?_);have:=b w' he;unfold M.sortK at this;rwa[y3 oM,k6 a] at this
 value:=λw K G H mb tv kv ds env t ys a he e k i j hs b=>by
  obtain⟨mb,rfl,f,hm,d⟩:=he a;unfold M.sortK at hs;rw[y3 oM,k6 a] at hs;have c:0<=M.findD ds t.s:=by
   by_cases h:M.findD ds t.s<0
   .rw[k6 h] at hs;exact absurd rfl hs
   .omega
  refine zL (Zr _ _) (YW e hm (d _ c) λw' he=>?_);have:=b w' he;unfold M.valK at this;rwa[y3 oM,k6 a] at this
theorem kind_cut {s:ByteArray} (hw:s.data.toList=M.wordL 22):KindR 22 (.iface zJ (KV s 1)) where
 word:=⟨_,_,_,rfl,λ_=>rfl,λh=>oM,.inr (.inr (.inr hw))⟩
 iface:=⟨_,_,rfl⟩
 kids:=λw K d=>zL (Yw _ _) (qI λw' he=>d w' he)
 sort:=λw K F G H dv tv kv ds t xs i m g j e f d=>by
  have c:xs.length=1:=by simp[M.arity] at e;omega
  refine zL (Yv _ _) (cutKind_sort_spec g j c f λw' he=>?_);have:=d w' he;unfold M.sortK at this;rwa[y3 oM,y3 oM,y3 oM,y3 oM,k6 oM] at this
 value:=λw K G H mb tv kv ds env t ys i he g j e f hs d=>by
  have c:ys.length=1:=by simp[M.arity] at e;omega
  refine zL (ZP _ _) (cutKind_value_spec g j c λw' he=>?_);have:=d w' he;unfold M.sortK at hs;rw[y3 oM,y3 oM,y3 oM,y3 oM,k6 oM,kE oM] at hs;have k:0<=t.b/\t.b<=t.a/\t.a<(ys.getD 0 (0,0)).1:=by
   by_cases h:0<=t.b/\t.b<=t.a/\t.a<(ys.getD 0 (0,0)).1
   .exact h
   .rw[y3 h] at hs;exact absurd rfl hs
  have l:=M.inS_pos (f 0 oM) oM;unfold M.valK at this;rw[y3 oM,y3 oM,y3 oM,y3 oM,y3 oM,y3 oM,y3 oM,k6 oM] at this;unfold M.vecCut;rw[k6 ⟨l,k⟩];exact this
theorem kind_if {s:ByteArray} (hw:s.data.toList=M.wordL 23):KindR 23 (.iface zR (KV s 3)) where
 word:=⟨_,_,_,rfl,λ_=>rfl,λh=>oM,.inr (.inr (.inr hw))⟩
 iface:=⟨_,_,rfl⟩
 kids:=λw K b=>zL (Xd _ _) (qI λw' he=>b w' he)
 sort:=λw K F G H dv tv kv ds t xs e i d f c g b=>by
  have a:xs.length=3:=by simp[M.arity] at c;omega
  refine zL (Xc _ _) (ifKind_sort_spec d f a λw' he=>?_);have:=b w' he;unfold M.sortK at this;rwa[y3 oM,y3 oM,y3 oM,k6 oM] at this
 value:=λw K G H mb tv kv ds env t ys e he d f c g hs b=>by
  have a:ys.length=3:=by simp[M.arity] at c;omega
  refine zL (Yt _ _) (ifKind_value_spec d f a λw' he=>?_);have:=b w' he;unfold M.valK at this;rwa[y3 oM,y3 oM,y3 oM,y3 oM,y3 oM,y3 oM,k6 oM] at this
theorem kind_bool {o:Int} {s:ByteArray} {f:Value} {g:List (Int×Int)->Bool} {m:Nat} (q:24<=o) (i:M.arity o=m) (j:W3 f g m) (c:f.oneCell'=true) (hw:o=24\/s.data.toList=M.wordL o) (k:∀ds env (t:M.Tm) ys,t.op=o->M.valK ds env t ys=M.b2i (g ys)):
  KindR o (.iface zy (.agg ⟨[.string s,nI m,f]⟩)) where
 word:=⟨_,_,_,by rw[show kTy o=zy by unfold kTy;rw[y3 oM,y3 oM,y3 oM,y3 oM,y3 oM,y3 oM,y3 oM,y3 oM]],λh=>oM,λ_=>⟨_,rfl,c⟩,.inr (.inr hw)⟩
 iface:=⟨_,_,rfl⟩
 kids:=λw K a=>zL (ZU _ _ _) (qI λw' he=>by have:=a w' he;rwa[i] at this)
 sort:=λw K F G H dv tv kv ds t xs b p d e l n a=>by
  refine zL (ZT _ _ _) (XZ d e λw' he=>?_);have:=a w' he;unfold M.sortK at this;rwa[y3 oM,y3 oM,k6 oM] at this
 value:=λw K G H mb tv kv ds env t ys b he d e l n hs a=>by
  refine zL (Zs _ _ _) (Xj j d e oM λw' he=>?_);have:=a w' he;rwa[k ds env t ys b] at this
end
def KindsR (w:World) (mb:Nat):Prop:= ∃f,MapF (.int .i64) w mb f/\(∀o,0<=M.arity o->∃v,(nI o,v)∈f/\KindR o v)/\∀p,p∈f->∃o,p.1= nI o/\0<=M.arity o
theorem KindsR.ext {mb:Nat} {w':World} (h:KindsR w mb) (he:Ext w w'):KindsR w' mb:=by
 obtain⟨f,a,b⟩:=h;exact⟨f,a.ext he,b⟩
end
section
variable {w:World} {K:oK} {F G:Nat->Prop}
theorem jI:kt0 zQ (.int .i64) yM0:=⟨_,Ze,rK⟩
def KS (w0 w:World) (b:Nat) (S:Int->Prop):Prop:=Ext w0 w/\w0.heap.size<=b/\∃f,MapF (.int .i64) w b f/\(∀o,S o->∃v,(nI o,v)∈f/\KindR o v)/\∀p,p∈f->∃o,p.1= nI o/\S o
theorem KS.set {w0 w:World} {b:Nat} {S:Int->Prop} {o:Int} {v:Value} (h:KS w0 w b S) (q: ¬S o) (r:KindR o v) (m:∀w',KS w0 w' b (λx=>x=o\/S x)->Same (· =b) w w'->K undef w'):
  UW zQ (.map (some b)) (nI o) v w K:=by
 obtain⟨he,k,f,hm,l,j⟩:=h;refine qg0 jI hm (xy o) (λx i=>?_) λw' g hs _=>m w' ⟨Ext.then he hs λy s=>by subst s;exact k,k,_,g,λx i=>?_,λp c=>?_⟩ hs
 .obtain⟨o',a,d⟩:=j _ i;cases a;exact q d
 .by_cases e:x=o
  .subst e;exact⟨v,gn.2 (.inr (gx.2 rfl)),r⟩
  .obtain⟨u,hu,n⟩:=l x (i.resolve_left e);exact⟨u,gn.2 (.inl hu),n⟩
 .rcases gn.1 c with c|c
  .obtain⟨o',a,d⟩:=j _ c;exact⟨o',a,.inr d⟩
  .rw[gx.1 c];exact⟨o,rfl,.inl rfl⟩
theorem KS.ext {w0 w w':World} {b:Nat} {S:Int->Prop} (h:KS w0 w b S) (he:Ext w w'):KS w0 w' b S:=by
 obtain⟨a,c,f,hm,r⟩:=h;exact⟨a.trans he,c,f,hm.ext he,r⟩
theorem KS.congr {w0 w:World} {b:Nat} {S S':Int->Prop} (h:KS w0 w b S) (a:∀x,S x↔S' x):KS w0 w b S':=by
 have:S=S':=funext λx=>propext (a x);subst this;exact h
theorem KS.kinds {w0 w:World} {b:Nat} {S:Int->Prop} (h:KS w0 w b S) (a:∀o,S o↔0<=M.arity o):KindsR w b:=by
 obtain⟨he,k,f,hm,c,d⟩:=h;refine⟨f,hm,λo i=>c o ((a o).2 i),λp j=>?_⟩;obtain⟨o,e,g⟩:=d p j;exact⟨o,e,(a o).1 g⟩
@[push_cast] theorem bd_named (s:ByteArray) (n:Int):yz qz [(0,.string s),(1,nI n)] w K=K (KV s n) w:=zT y80 (us:=[[.string s],[nI n]]) rfl rfl
@[push_cast] theorem YL0 (s:ByteArray) (n:Int):yz zO [(0,KV s n)] w K=K (KV s n) w:=zT UK (us:=[[.string s,nI n]]) rfl rfl
@[push_cast] theorem Yd0 (s:ByteArray) (n:Int):yz zG [(0,KV s n)] w K=K (KV s n) w:=zT VN (us:=[[.string s,nI n]]) rfl rfl
@[push_cast] theorem Yc0 (s:ByteArray) (n:Int):yz zK [(0,KV s n)] w K=K (KV s n) w:=zT VK (us:=[[.string s,nI n]]) rfl rfl
@[push_cast] theorem Yb0 (s:ByteArray) (n:Int):yz zF [(0,KV s n)] w K=K (KV s n) w:=zT VI (us:=[[.string s,nI n]]) rfl rfl
@[push_cast] theorem Ya0 (s:ByteArray) (n:Int):yz zJ [(0,KV s n)] w K=K (KV s n) w:=zT VH (us:=[[.string s,nI n]]) rfl rfl
@[push_cast] theorem YN0 (s:ByteArray) (n:Int):yz zR [(0,KV s n)] w K=K (KV s n) w:=zT UM (us:=[[.string s,nI n]]) rfl rfl
@[push_cast] theorem Y90:yz zM [] w K=K (KV ⟨#[]⟩ 0) w:=zT VG (us:=[]) rfl rfl
@[push_cast] theorem ZV0:yz zE [] w K=K (KV ⟨#[]⟩ 0) w:=zT KA (us:=[]) rfl rfl
@[push_cast] theorem ZY0 (s:ByteArray) (n:Int) (f:Fn) (a c:Array Value):yz zy [(0,KV s n),(1,.func f a c)] w K=K (.agg ⟨[.string s,nI n,.func f a c]⟩) w:=zT KB (us:=[[.string s,nI n],[.func f a c]]) rfl rfl
theorem val24 (ds:List M.Dcl) (env:List Int) (t:M.Tm) (ys:List (Int×Int)) (h:t.op=24):M.valK ds env t ys=M.b2i true:=by simp[M.valK,h,M.b2i]
theorem val25 (ds:List M.Dcl) (env:List Int) (t:M.Tm) (ys:List (Int×Int)) (h:t.op=25):M.valK ds env t ys=M.b2i (decide ((ys.getD 0 (0,0)).2=0)):=by unfold M.valK;simp only[h];rfl
theorem val26 (ds:List M.Dcl) (env:List Int) (t:M.Tm) (ys:List (Int×Int)) (h:t.op=26):M.valK ds env t ys=M.b2i (decide ((ys.getD 0 (0,0)).2=1)&&decide ((ys.getD 1 (0,0)).2=1)):=by unfold M.valK;simp only[h];rfl
theorem val27 (ds:List M.Dcl) (env:List Int) (t:M.Tm) (ys:List (Int×Int)) (h:t.op=27):M.valK ds env t ys=M.b2i (decide ((ys.getD 0 (0,0)).2=1)||decide ((ys.getD 1 (0,0)).2=1)):=by unfold M.valK;simp only[h];rfl
def binWords:List ByteArray:=[⟨#[97,110,100]⟩,⟨#[111,114]⟩,⟨#[120,111,114]⟩,⟨#[97,100,100]⟩,⟨#[115,117,98]⟩,⟨#[109,117,108]⟩,⟨#[100,105,118]⟩,⟨#[114,101,109]⟩,⟨#[115,104,108]⟩,⟨#[115,104,114]⟩,⟨#[115,97,114]⟩]
theorem kX0:∀i:Fin 11,(binWords.getD i.1 ⟨#[]⟩).data.toList=M.wordL (3+(i.1:Int)):=dC
theorem kinds_new (X:∀w' b,Ext w w'->KindsR w' b->w.heap.size<=b->K (.map (some b)) w'):vcall QZ #[] w K:=by
 refine zf {loops:=[(3,[48])]} Tryz.func52 ?_;refine yN0 jI λb w1 hb hm he hs=>?_;have J:KS w w1 b (λ_=>False):=⟨he,oM,[],hm,λ_ h=>h.elim,λ_ h=>by cases h⟩;refine oZ ?_;refine J.set dC (kind_un (.inl rfl) dC) λw2 L _=>?_;refine L.set dC (kind_un (.inr rfl) dC) λw3 N _=>?_;refine N.set dC (kind_cat dC) λw4 O _=>?_;refine O.set dC (kind_cmp dC dC dC) λw5 Q _=>?_;refine Q.set dC (kind_cmp dC dC dC) λw6 R _=>?_;refine R.set dC (kind_cmp dC dC dC) λw7 S _=>?_;refine S.set dC kind_vec λw8 T _=>?_;refine T.set dC kind_name λw9 U _=>?_;refine U.set dC (kind_cut dC) λw10 V _=>?_;refine V.set dC (kind_if dC) λY l _=>?_;refine l.set dC (kind_bool (m:=0) dC rfl qV0 rfl (.inl rfl) val24) λZ n _=>?_;refine n.set dC (kind_bool (m:=1) dC rfl kinds2_fn rfl (.inr dC) val25) λa0 p _=>?_;refine p.set dC (kind_bool (m:=2) dC rfl kinds3_fn rfl (.inr dC) val26) λa1 q _=>?_;refine q.set dC (kind_bool (m:=2) dC rfl kinds4_fn rfl (.inr dC) val27) λa2 g _=>?_;refine vbuildS_row1 (xs:=binWords.map .string) Xt rK Xl (λx B=>by obtain⟨s,_,rfl⟩:=gw.1 B;rfl) dC λbs D F j G t=>?_;have d:Vals (· =bs) D (.slice (some ⟨bs,0,none⟩) (binWords.map Value.string).length (binWords.map Value.string).length) (binWords.map Value.string):=t.sl1 rfl dC;have r:=g.ext j;have v:bs≠b:=by
  obtain⟨_,_,f,hm,_⟩:=g;have:=hm.lt;omega
 have hlen:(binWords.map Value.string).length=11:=rfl;simp only[push_cast,d.len];rw[hlen];rw[hlen] at d;refine vloop_up 11 (λi u w'=>u=[nI i]/\Vals (· =bs) w' (.slice (some ⟨bs,0,none⟩) 11 11) (binWords.map Value.string)/\KS w w' b λx=>(3<=x/\x<3+(i:Int))\/x=27\/x=26\/x=25\/x=24\/x=23\/x=22\/x=21\/x=20\/x=17\/x=16\/x=15\/x=14\/x=2\/x=1) ⟨rfl,d,r.congr λx=>by simp only[Gh];constructor<;>intro h<;>omega⟩ ?_;rintro i _ _ E C hi ⟨rfl,A,k⟩ W;refine oZ ?_;refine zb (λa=>?_) (λa=>?_)
 .have c:i<11:=oM;have H:(binWords.map Value.string).getD i undef= .string (binWords.getD i ⟨#[]⟩):=M.getD_map _ (show i<binWords.length from c) _ _;have I:IntKind.i64.wrap (3+(i:Int))=3+(i:Int):=zl oM oM;rw[A.iaddr rK oM (by rw[hlen];omega),gq,A.load rK (by rw[hlen];omega),H];simp only[push_cast,I];refine k.set oM (kind_bin oM oM (kX0 ⟨i,c⟩)) λa3 y z=>?_
  try simp only[push_cast]
  rw[inc64' oM];exact W c _ _ ⟨rfl,A.same z λx B _ e=>v (B.symm.trans e),y.congr λx=>by constructor<;>intro h<;>omega⟩
 .have:i=11:=oM;subst this;refine X E b k.1 (k.kinds λo=>?_) k.2.1;constructor
  .intro h;have:(1<=o/\o<=17)\/(20<=o/\o<=27):=oM;unfold M.arity
   repeat' split
   all_goals omega
  .intro h;have:=M.arity_ops h;omega
theorem VZ (d:∀w' b,Ext w w'->KindsR w' b->K (.map (some b)) w'):vcall QZ #[] w K:=kinds_new λw' b a c _=>d w' b a c
end
section
variable {w:World} {K:oK} {F G:Nat->Prop}
theorem stTerm {b:Nat} {cs cs':List Value} {t:TypeId} {g:M.Tm} (h:Blk w b cs t) (f:cs.length=5) (d:TmR F w cs' g) (c:∀w',Same (· =b) w w'->w'.heap.size=w.heap.size->Blk w' b cs' t->K undef w'):zW za (oP b 0) (.agg ⟨cs'⟩) w K:=by
 obtain⟨kv,rfl,e⟩:=d.inv;obtain⟨css,hs,_⟩:=e;refine h.stAgg (by simp[f]) zc ?_ c;intro v a;simp only[gi,gz,Gh] at a;rcases a with rfl|rfl|rfl|rfl|rfl
 .rfl
 .rfl
 .rfl
 .rfl
 .exact hs.one
theorem zS {cs:List Value} {t:M.Tm} (h:TmR F w cs t):cs.length=5:=by
 obtain⟨kv,rfl,_⟩:=h.inv;rfl
theorem xt0 {v:Value} {t:M.Tm} (m:TermR F w v t) (i:∀w',Ext w w'->K (.bool (M.plainM t)) w'):vcall QY #[v] w K:=by
 refine zf {cuts:=[(8194,[3])]} Tryz.func98 ?_;obtain⟨ksv,rfl,k⟩:=m;refine zk λb1 w1 j h l e=>?_;have d:=i _ h;unfold M.plainM at d;refine zp (λu w'=>u=[.bool (decide (t.op=20)||decide (t.op=22)||(decide (t.a=0)&&decide (t.b=0)))]/\w'=w1) (λC f=>?_) ?_
 .simp only[push_cast,e.ld0,e.ld1,e.ld2];refine zb (λa=>?_) (λa=>?_)
  .exact f _ _ ⟨by rw[gk a];rfl,rfl⟩
  refine zb (λb=>?_) (λb=>?_)
  .exact f _ _ ⟨by rw[gk b];simp,rfl⟩
  refine zb (λc=>?_) (λc=>?_)
  .exact f _ _ ⟨by rw[gg a,gg b,gk c];rfl,rfl⟩
  .exact f _ _ ⟨by rw[gg a,gg b,gg c];rfl,rfl⟩
 .rintro u g w2 ⟨rfl,rfl⟩;simp only[push_cast,e.ld0,e.ld3];refine zn (λa=>?_) (λa=>?_)
  .rw[a,pJ] at d;refine zb (λb=>?_) (λb=>?_)
   .rwa[gk b,Bool.true_or] at d
   .rw[gg b,P8] at d;exact d
  .rwa[a,GM] at d
theorem Ke {mb:Nat} {o:Int} {ok:Bool} (h:KindsR w mb) (d:0<=M.arity o) (b:∀v,KindR o v->K (if ok then .tuple #[v,.bool true] else v) w):Xn zQ (.map (some mb)) (nI o) ok w K:=by
 obtain⟨f,hm,a,g⟩:=h;obtain⟨v,e,c⟩:=a o d;rw[Xm jI hm (xy o) e];exact b v c
theorem qR0 {mb:Nat} {o:Int} (h:KindsR w mb) (d: ¬0<=M.arity o) (b:K (.tuple #[.nilIface,.bool false]) w):Xn zQ (.map (some mb)) (nI o) true w K:=by
 obtain⟨f,hm,i,a⟩:=h;rw[UX jI (z:= .nilIface) (by unfold ym;kernel_rfl) hm (xy o) λv g=>?_]
 .exact b
 .obtain⟨o',e,c⟩:=a _ g;cases e;exact d c
theorem xB0 {mb:Nat} {o:Int} {w w2:World} {N:oK} (h:KindsR w mb) (g:0<=M.arity o) (he:Ext w w2) (d:∀v,KindR o v->(∀w3,Ext w w3->Xn zQ (.map (some mb)) (nI o) false w3 λx y=>x=v/\y=w3)->N v w):Xn zQ (.map (some mb)) (nI o) false w N:=by
 obtain⟨f,hm,c,i⟩:=h;obtain⟨v,b,e⟩:=c o g;rw[Xm jI hm (xy o) b];refine d v e λw3 a=>?_;rw[Xm jI (hm.ext a) (xy o) b];exact⟨rfl,rfl⟩
theorem Z4 {α β:Type} (f:α->β) {l:List α} {i:Nat} (h:i<l.length) (d:α):(l.take i).map f++[f (l.getD i d)]=(l.take (i+1)).map f:=by
 rw[G7,gd h,gA,k5,gd h];rfl
theorem sortOf_spec:∀(t:M.Tm) {w:World} {K:oK} {F G:Nat->Prop} {mb:Nat} {dv v:Value} {ds:List M.Dcl},KindsR w mb->DclsR F w dv ds->M.declOk ds=true->TermR G w v t->
  (∀w',Ext w w'->K (nI (M.sortM ds t)) w')->vcall jF #[.map (some mb),dv,v] w K:=by
 refine M.Tm.ind λt ih w K F G mb dv v ds hm hd N ht U=>?_;apply UJ;obtain⟨ksv,rfl,m⟩:=ht;refine zk λb1 w1 a3 l a6 D=>?_;have J:=hm.ext l;simp only[push_cast,D.ld0];have A: ¬(M.formed t=true)->∀w',Ext w w'->K (nI (-1)) w':=λhn w' he=>by
  have:=U w' he;rw[M.sortM_eq] at this;unfold M.sortF at this;rwa[y3 (λh=>hn h.1)] at this
 by_cases Y: ¬0<=M.arity t.op
 .have T:=Y;refine qR0 J T ?_;refine oZ ?_;refine zp (λ_ _=>False) (λC S=>?_) (λ_ _ _ h=>h.elim);refine zd λw2 c _=>?_;simp only[push_cast,y4];refine A (λh=>T ?_) _ (l.trans c);simp only[M.formed,gj,X0] at h;omega
 have T:0<=M.arity t.op:=oM
 refine Ke J T λkv I=>?_;simp only[push_cast,if_true];have a9:=m.small;refine zp (λu w'=>u=[]/\Ext w1 w'/\M.formed t=true) (λC S=>?_) ?_
 .refine zd λw2 c _=>?_;have E:=D.ext c;simp only[push_cast,E.ld4,m.len,y4];refine I.kids _ _ λw3 d=>?_;have R:=E.ext d;simp only[push_cast,R.ld4,m.len,y4,gh];refine zb (λa=>?_) (λa=>?_)
  .refine A (λh=>?_) _ ((l.trans c).trans d);simp only[M.formed,gj,X0] at h;omega
  .simp only[push_cast,R.ldAgg (t:=za) zc,y4];refine xt0 (F:=G) (t:=t) ⟨ksv,rfl,m.ext ((l.trans c).trans d)⟩ λw4 e=>?_;simp only[push_cast,y4];refine zn (λb=>?_) (λb=>?_)
   .refine A (λh=>?_) _ (((l.trans c).trans d).trans e);simp only[M.formed,gj] at h;rw[h.2] at b;cases b
   .refine S _ _ ⟨rfl,(c.trans d).trans e,?_⟩;simp only[M.formed,gj,X0];exact⟨oM,by simpa using b⟩
 .rintro u g w2 ⟨rfl,c,hf⟩;have E:=D.ext c;have hE:=l.trans c;have ab:=hE.size;simp only[push_cast,E.ld4,m.len];have H:=hf;simp only[M.formed,gj,X0] at H;have a2:t.ks.length<=3:=by
   have D:=H.1;unfold M.arity at D
   repeat' split at D
   all_goals omega
  refine vloop_up t.ks.length (λi u w'=> ∃sv,u=[sv,nI i]/\Ext w2 w'/\OwnI zi w' sv ((t.ks.take i).map (M.sortM ds))/\(∀b,sv.ownBlock=some b->w2.heap.size<=b)/\(∀x,x∈(t.ks.take i).map (M.sortM ds)->x≠ -1)) ⟨_,rfl,Same.refl _ _,OwnI.nil,(λb h=>by cases h),by simp⟩ ?_;rintro i _ _ w3 C hi ⟨sv,rfl,d,B,L,n⟩ S;have k:=hE.trans d;have o:=m.ext k;refine oZ ?_;refine zb (λa=>?_) (λa=>?_)
  .simp(disch:=exact oS) only[push_cast,o.iaddr];refine o.load zc oM λx r=>?_;obtain⟨cs,rfl,s⟩:=r.cells;refine zj zo λb2 w4 a4 e a7 h4=>?_;refine stTerm h4 rfl (s.ext e) λw5 Z aa h5=>?_;have p:Ext w3 w5:=Ext.then e Z λy Q=>by subst Q;omega
   rw[h5.ldAgg (t:=za) (by rw[zS s];exact zc)];refine ih _ (M.getD_mem oM _) (hm.ext (k.trans p)) (hd.ext (k.trans p)) N (s.ext p).term λw6 V=>?_;refine oZ ?_;have f:=p.trans V;refine zb (λb=>?_) (λb=>?_)
   .have:=U _ (k.trans f);rw[M.sortM_eq] at this;unfold M.sortF at this;rwa[y3 (λh=>h.2 (b▸gU (M.getD_mem oM _)))] at this
   .refine xG xt xd xF rfl rfl dC λb3 w7 a5 z a8 h7=>?_;have O:=(B.ext f).ext z;have hlen:((t.ks.take i).map (M.sortM ds)).length=i:=by rw[Q1,gl];omega
    refine O.app1 xC h7 (by rw[hlen];omega) (by rw[hlen];omega) λa1 w8 q a0 X=>?_
    try simp only[push_cast]
    rw[inc64' oM];rw[Z4 _ oM] at q;refine S oM _ _ ⟨a1,rfl,Ext.then ((d.trans f).trans z) a0 λy Q=>L y Q,q,λy Q=>?_,λx r=>?_⟩
    .rcases X y Q with h|h
     .exact L y h
     .have:=(d.trans f).size;have:=z.size;omega
    .rw[<-Z4 _ oM default] at r;rcases gn.1 r with r|r
     .exact n x r
     .rw[gx.1 r];exact b
  .have W:i=t.ks.length:=oM;subst W;rw[gC] at B n;have R:=E.ext d;simp only[push_cast,R.ldAgg (t:=za) zc];refine I.sort _ _ F G _ _ _ _ ds t _ rfl (hd.ext k) ⟨ksv,rfl,o⟩ B.ints (by rw[Q1];omega) (λj=>?_) λw4 e=>?_
   .by_cases hj:j<t.ks.length
    .rw[M.getD_map _ hj 0 default];exact M.sort_range N _
    .rw[k5,Pe (by simpa using hj)];simp
   .have:=U _ (k.trans e);rw[M.sortM_eq] at this;unfold M.sortF at this;rwa[k6 ⟨hf,λh=>n _ h rfl⟩] at this
def nnB:M.Tm->Bool:=M.Tm.fold λt xs=>decide (t.op≠21)&&xs.all id
theorem Yu0 (t:M.Tm):nnB t=(decide (t.op≠21)&&(t.ks.map nnB).all id):=M.Tm.fold_eq _ t
theorem nnB_iff {t:M.Tm}:nnB t=true↔t.op≠21/\∀k,k∈t.ks->nnB k=true:=by
 rw[Yu0,gj,X0,gN];refine PZ λ_=>⟨λh k a=>h _ (gU a),λh y b=>?_⟩;obtain⟨k,a,rfl⟩:=gw.1 b;exact h k a
theorem valueOf_specG:∀(t:M.Tm) {w:World} {K:oK} {F G:Nat->Prop} {mb:Nat} {dv v ev:Value} {ds:List M.Dcl} {env:List Int},KindsR w mb->DclsR F w dv ds->M.envOk ds env=true->((∃eb,ev= .map (some eb)/\EnvM w eb ds env)\/nnB t=true)->TermR G w v t->M.sortM ds t≠ -1->
  (∀w',Ext w w'->K (xY (M.sortM ds t) (M.evalM ds env t)) w')->vcall kM #[.map (some mb),dv,v,ev] w K:=by
 refine M.Tm.ind λt ih w K F G mb dv v ev ds env hm hd B hE ht p hK=>?_;have a4:=(M.env_ok B).1;apply VF;obtain⟨ksv,rfl,o⟩:=ht;obtain⟨hf,n,a5⟩:=M.sort_parts p;have L:=hf;simp only[M.formed,gj,X0] at L;have a9:t.ks.length<=3:=by
  have Y:=L.1;unfold M.arity at Y
  repeat' split at Y
  all_goals omega
 have ho:0<=M.arity t.op:=oM
 refine zk λb1 w1 aa I ae Y=>?_;refine zj zX λb2 w2 ab J af h2=>?_;have q1:=Y.ext J;have H:=I.trans J;have aj:=H.size;have ai:=o.small;simp only[push_cast,q1.ld4,o.len];refine vloop_up t.ks.length (λi u w'=> ∃sv,u=[sv,nI i]/\Ext w2 w'/\OwnP xM w' sv ((t.ks.take i).map (M.vecM ds env))/\(∀b,sv.ownBlock=some b->w2.heap.size<=b)) ⟨_,rfl,Same.refl _ _,OwnP.nil _,λb h=>by cases h⟩ ?_;rintro i _ _ w3 C hi ⟨sv,rfl,l,D,T⟩ hC;have f:=H.trans l;have r:=o.ext f;have ak:=l.size;refine oZ ?_;refine zb (λa=>?_) (λa=>?_)
 .simp(disch:=exact oS) only[push_cast,r.iaddr];refine r.load zc oM λx hx=>?_;obtain⟨cs,rfl,z⟩:=hx.cells;refine zj zo λb3 w4 ac d ag h4=>?_;refine stTerm h4 rfl (z.ext d) λw5 a6 al h5=>?_;have c:Ext w3 w5:=Ext.then d a6 λy E=>by subst E;omega
  rw[h5.ldAgg (t:=za) (by rw[zS z];exact zc)];refine ih _ (M.getD_mem oM _) (hm.ext (f.trans c)) (hd.ext (f.trans c)) B (hE.imp (λ⟨eb,e,h⟩=>⟨eb,e,h.ext (f.trans c)⟩) λh=>(nnB_iff.1 h).2 _ (M.getD_mem oM _)) (z.ext c).term (n _ (M.getD_mem oM _)) λw6 q=>?_;have m:=c.trans q;refine xG yg0 xj0 zX rfl rfl dC λb4 w7 ad A ah h7=>?_;have W:=(D.ext m).ext A;have hlen:((t.ks.take i).map (M.vecM ds env)).length=i:=by rw[Q1,gl];omega
  refine Own.app1k W yC0 dC h7 rfl (by intro v hv;simp only[gi,gz,Gh] at hv;rcases hv with rfl|rfl<;>rfl) (by rw[Q1,hlen];omega) (by rw[Q1,hlen];omega) λX w8 U a8 a3=>?_;rw[inc64' oM];have V:OwnP xM w8 X ((t.ks.take (i+1)).map (M.vecM ds env)):=by
   unfold OwnP;rw[<-Z4 _ oM default,gA,M.vecM_pair ds env (t.ks.getD i default)];exact U
  refine hC oM _ _ ⟨X,rfl,Ext.then ((l.trans m).trans A) a8 λy E=>T y E,V,λy E=>?_⟩;rcases a3 y E with h|h
  .exact T y h
  .have:=m.size;have:=A.size;omega
 .have a0:i=t.ks.length:=oM;subst a0;rw[gC] at D;refine zd λw4 d _=>?_;have q4:=(q1.ext l).ext d;have g:=f.trans d;have R:=o.ext g;simp only[push_cast,q4.ld0,q4.ldAgg (t:=za) zc,y4];refine xB0 (hm.ext g) ho (Same.refl _ _) λkv a1 a2=>⟨rfl,?_⟩;refine sortOf_spec t (hm.ext g) (hd.ext g) a4 ⟨ksv,rfl,R⟩ λw5 c=>?_;have q5:=q4.ext c;simp only[push_cast,q5.ld0,q5.ldAgg (t:=za) zc,y4,gh];refine⟨a2 _ c,?_⟩;have s:=g.trans c;have S:(t.ks.map (M.vecM ds env)).length=t.ks.length:=Q1 _;have O:∀j,j<t.ks.length->(t.ks.map (M.vecM ds env)).getD j (0,0)=(M.sortM ds (t.ks.getD j default),M.evalM ds env (t.ks.getD j default)):=λj Q=>(by rw[M.getD_map _ Q _ default,M.vecM_pair]);have N:(t.ks.map (M.vecM ds env)).map (·.1)=t.ks.map (M.sortM ds):=by
   rw[GN];exact Gk λk _=>M.vecM_sort ds env k
  refine a1.value _ _ G _ _ _ _ ds env t _ rfl (λZ=>hE.elim (λ⟨eb,e,h⟩=>⟨eb,e,h.ext s⟩) λh=>absurd Z (nnB_iff.1 h).1) ⟨ksv,rfl,o.ext s⟩ ((D.ext (d.trans c)).pairs) (by rw[S];omega) (λj Q=>?_) (by rw[N,<-a5];exact p) λw6 q=>?_
  .rw[S] at Q;rw[O j Q];exact M.eval_in B _ (n _ (M.getD_mem Q _))
  .simp only[push_cast,y4];have h6:=(((h2.ext l).ext d).ext c).ext q;refine stVec h6 λw7 a7 _ h7=>?_;rw[h7.lv rK];have hX:Ext w w7:=Ext.then (s.trans q) a7 λy E=>by subst E;have:=I.size;omega
   have:=hK w7 hX;rw[M.evalM_eq] at this;exact this
theorem count_spec:∀(t:M.Tm) {w:World} {K:oK} {F:Nat->Prop} {v:Value} {m deep mb:Nat} {ty:TypeId},TermR F w v t->Blk w mb [nI m] ty->(∀b,F b->b≠mb)->m<=20->1<=deep->deep<=8->
  (∀w' (r B:Nat),Same (· =mb) w w'->Blk w' mb [nI B] ty->m<B->B<=21->deep<=r->r<=8->(m+M.sizeM t<=20/\deep-1+M.deepM t<=7->B=m+M.sizeM t/\r=deep-1+M.deepM t)->(¬(m+M.sizeM t<=20/\deep-1+M.deepM t<=7)->20<B\/7<r)->K (nI r) w')->
  vcall zH0 #[v,nI deep,oP mb 0] w K:=by
 refine M.Tm.ind λt ih w K F v m deep mb ty ht E hF hm a2 a3 I=>?_;refine zf {loops:=[(6,[7,22])]} Tryz.func94 ?_;obtain⟨ksv,rfl,n⟩:=ht;refine zk λb1 w1 a0 p a9 W=>?_;have o:=E.ext p;have U:=E.lt;have ab:=n.small;have hS:=M.szT_all t;have hD:=M.dpT_all t;simp only[push_cast,o.ld0];rw[inc64' oM];refine o.st (i:=0) rfl rfl xd rfl λw2 A ac D=>?_;have s:Same (· =mb) w w2:=(Same.of_ext p).trans A;have q2:=W.same A oM;replace D:Blk w2 mb [nI (m+1:Nat)] ty:=D;refine zb (λa=>?_) (λa=>?_)
 .exact I w2 deep (m+1) s D oM oM oM oM (λh=>oM) (λh=>oM)
 simp only[push_cast,q2.ld4,n.len];refine vloop_up t.ks.length (λi u w'=> ∃r mi:Nat,u=[nI r,nI i]/\Same (· =mb) w2 w'/\Blk w' mb [nI mi] ty/\m<mi/\mi<=21/\deep<=r/\r<=8/\(m+1+M.szT t.ks i<=20/\deep+M.dpT t.ks i<=7->mi=m+1+M.szT t.ks i/\r=deep+M.dpT t.ks i)/\(¬(m+1+M.szT t.ks i<=20/\deep+M.dpT t.ks i<=7)->20<mi\/7<r))
  ⟨deep,m+1,rfl,Same.refl _ _,D,oM,oM,oM,oM,λh=>by simp[M.szT,M.dpT],λh=>by
   have S:M.szT t.ks 0=0:=rfl;have e2:M.dpT t.ks 0=0:=rfl;omega⟩ ?_
 rintro i _ _ w3 C hi ⟨r,mi,rfl,z,H,c1,c2,c3,Q,G,R⟩ hC;have d:Same (· =mb) w w3:=s.trans z;have g:TmsR F w3 ksv t.ks:=n.same d λb E _ e=>hF b E e;have ad:=d.size;refine oZ ?_;refine zb (λb=>?_) (λb=>?_)
 .have a5:=M.szT_mono (ks:=t.ks) (i:=i) (j:=t.ks.length) oM (gu _);have a6:=M.dpT_mono (ks:=t.ks) (i:=i) (j:=t.ks.length) oM (gu _);have a7:=M.szT_succ (ks:=t.ks) (i:=i) oM;have a8:=M.dpT_succ (ks:=t.ks) (i:=i) oM;simp(disch:=exact oS) only[push_cast,g.iaddr];refine g.load zc oM λx hx=>?_;obtain⟨cs,rfl,l⟩:=hx.cells;refine zj zo λb2 w4 a1 q aa X=>?_;refine stTerm X rfl (l.ext q) λV N ae Y=>?_;have f:Ext w3 V:=Ext.then q N λy hy=>by subst hy;omega
  have k:=H.ext f;have a4:=H.lt;simp only[push_cast,k.ld0];refine zb (λc=>?_) (λc=>?_)
  .exact I V r mi (d.trans (Same.of_ext f)) k c1 c2 c3 Q (λh=>oM) (λh=>oM)
  .rw[Y.ldAgg (t:=za) (by rw[zS l];exact zc)];have S:IntKind.i64.wrap ((deep:Int)+1)=((deep+1:Nat):Int):=inc64' oM;rw[S];refine ih _ (M.getD_mem oM _) (l.ext f).term k hF oM oM oM λw6 O m2 L Z d1 d2 d3 d4 d5 d6=>?_;refine oZ ?_;rw[inc64' oM,show max (r:Int) (O:Int)=((max r O:Nat):Int) by omega];refine hC oM _ _ ⟨max r O,m2,rfl,(z.trans (Same.of_ext f)).trans L,Z,oM,d2,oM,oM,λh=>?_,λh=>?_⟩
   .have:=G oM;have:=d5 oM;omega
   .by_cases T:m+1+M.szT t.ks i<=20/\deep+M.dpT t.ks i<=7
    .have:=G T;have:=d6 oM;omega
    .have:=R T;omega
 .have J:i=t.ks.length:=oM;subst J;refine I w3 r mi d H c1 c2 c3 Q (λh=>?_) (λh=>?_)
  .have:=G oM;omega
  .exact R oM
theorem TermMany_spec {v:Value} {t:M.Tm} (A:TermR F w v t) (G:∀w',Ext w w'->K (.tuple #[nI (M.manyM t),nI (M.lvlM t)]) w'):vcall K9 #[v] w K:=by
 refine zf {} Tryz.func66 ?_;have s:=A.weaken (F':=λb=>b<w.heap.size) λb _ h=>h;obtain⟨ksv,rfl,J⟩:=A;refine zk λb1 w1 H o L D=>?_;refine ql xF λb2 w2 I g N l=>?_;replace l:Blk w2 b2 [nI 0] zU:=l;refine l.st (i:=0) rfl rfl xd rfl λw3 k O n=>?_;replace n:Blk w3 b2 [nI ((0:Nat):Int)] zU:=n;have R:=(D.ext g).same k oM;have j:Ext w w3:=Ext.then (o.trans g) k λy x=>by subst x;omega
 rw[R.ldAgg (t:=za) zc];refine count_spec t (m:=0) (deep:=1) (s.ext j) n (λb U e=>oM) oM oM oM λB r Q q E c1 c2 c3 S f C=>?_;have p:Ext w B:=Ext.then j q λy x=>by subst x;omega
 have d:=G B p;have c:M.fits t=true↔M.sizeM t<=20/\M.deepM t<=7:=M.fits_iff;unfold M.manyM M.lvlM at d;simp only[push_cast,E.ld0];refine zb (λa=>?_) (λa=>?_)
 .rw[y3 (λh=>by have u:=c.1 h;have:=f oM;omega),y3 (λh=>by have u:=c.1 h;have:=f oM;omega)] at d;exact d
 .refine zb (λb=>?_) (λb=>?_)
  .rw[y3 (λh=>by have u:=c.1 h;have:=f oM;omega),y3 (λh=>by have u:=c.1 h;have:=f oM;omega)] at d;exact d
  .have z:M.sizeM t<=20/\M.deepM t<=7:=by
    by_cases h:M.sizeM t<=20/\M.deepM t<=7
    .exact h
    .have:=C oM;omega
   have T:=f oM;rw[k6 (c.2 z),k6 (c.2 z)] at d;rw[show Q=M.sizeM t by omega,show r=M.deepM t by omega];exact d
end
end Go.Proofs.YtfjlkobhagjdaaaGreatDoor
end
