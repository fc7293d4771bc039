import Derived.Test.YtiglcianecnchaaGreatDoorWxbP5
/- A part of the proof. -/
set_option linter.all false
set_option maxRecDepth 9999
set_option maxHeartbeats 2000000
noncomputable section
namespace Go.Proofs.YtiglcianecnchaaGreatDoor
open Go Go.Vc Go.Proofs
section
variable {w:World} {K:oK} {F:Nat->Prop}
theorem VecSigned_spec {wd n:Int} (h:∀w',Ext w w'->K (nI (if M.vok wd n=true then M.sgn wd n else 0)) w'):vcall J7 #[xS wd n] w K:=by
 refine zf {ord:=[oz 3 [0,2,3,4,1,5] [(0,[2,3,4]),(2,[1]),(3,[1]),(4,[1])],oz 4 (oR 7) [(0,[2,3,4]),(1,[2,3,4])]]} Tryz.func381 ?_;refine zl λb1 w1 x c y m=>?_;simp only[push_cast,m.ldAgg (t:=zg) zr];refine VecOk_spec λw2 b=>?_;have u:=m.ext b;simp only[push_cast];refine zn (λg=>?_) (λg=>?_)
 ·have:=h w2 (c.trans b);rwa[if_neg (by simpa using g)] at this
 ·rw[gZ] at g;rw[if_pos g] at h;obtain⟨k,a,rfl,rfl,q,r,v⟩:=M.vok_nat g;have C:=pow4 q r;refine zd λE d _=>?_;have i:=u.ext d;have l:IntKind.i64.wrap ((k:Int)-1)=((k-1:Nat):Int):=by rw[zi oM oM];omega
  simp only[push_cast,i.ldAgg (t:=zg) zr,i.ld0,true_and,l];refine raw_spec oM λA e=>?_;have j:=i.ext e;simp only[push_cast,j.ld0,true_and,l,and_self];refine bit_spec oM oM ?_;rw[top_bit q r v];have z:=(JK k).symm;have p:(2:Int)^((k:Int).toNat-1)=((2^(k-1):Nat):Int):=(by simp);have D:2^(k-1)<2^k:=Nat.pow_lt_pow_right oM oM;refine zb (λs=>?_) (λs=>?_)
  ·refine zd λB f _=>?_;have o:=j.ext f;simp only[push_cast,o.ld0,o.ld1,true_and];rw[show(1:Int)=((1:Nat):Int) from rfl,vbin_shlI oM oM,pZ];refine⟨rfl,?_⟩;rw[Z0,zi oM oM];refine⟨rfl,?_⟩;have:=h B ((((c.trans b).trans d).trans e).trans f);unfold M.sgn at this;rw[if_neg (by rw[p];omega),gj,z] at this;exact this
  ·simp only[push_cast,j.ld1];have:=h A (((c.trans b).trans d).trans e);unfold M.sgn at this;rw[if_pos (by rw[p];omega)] at this;exact this
theorem VecUn_spec {op wd n:Int} (p:∀w',Ext w w'->K (.tuple #[xS (M.vecUn op wd n).1.1 (M.vecUn op wd n).1.2,.bool (M.vecUn op wd n).2]) w'):vcall zx0 #[nI op,xS wd n] w K:=by
 refine zf {ord:=[oz 4 (oR 7) [(0,[1,2,3])],oz 6 (oR 7) [(0,[1,2,3])]]} Tryz.func359 ?_;refine zl λb1 w1 H q J F=>?_;refine zj zW λb2 w2 I r L g2=>?_;have B:=F.ext r;simp only[push_cast,B.ldAgg (t:=zg) zr];refine VecOk_spec λO i=>?_;have C:=B.ext i;have g3:=g2.ext i;have G:=(q.trans r).trans i;have d:∀g v,Ext O g->Same (· =b2) g v->Ext w v:=λg v h E=>Ext.then (G.trans h) E λy N=>by subst N;have:=q.size;omega
 simp only[push_cast];unfold M.vecUn at p;refine zn (λj=>?_) (λj=>?_)
 ·refine stVec g3 λg l _ g4=>?_;rw[g4.lv rK];have:=p g (d _ _ (Same.refl _ _) l);rwa[if_neg (by simp at j;simp[j])] at this
 ·rw[gZ] at j;obtain⟨k,a,rfl,rfl,s,u,D⟩:=M.vok_nat j;have R:=pow4 s u;refine zb (λx=>?_) (λx=>?_)
  ·subst x;refine zd λg b _=>?_;have o:=C.ext b;simp only[push_cast,o.ldAgg (t:=zg) zr,true_and];refine raw_spec oM λv c=>?_;have z:=o.ext c;have g5:=(g3.ext b).ext c;simp only[push_cast,z.ldAgg (t:=zg) zr,true_and,and_self];rw[vun_xorU oM];refine⟨rfl,vec_spec oM s u λQ f=>?_⟩;refine stVec (g5.ext f) λA m _ g7=>?_;rw[g7.lv rK];have:=p A (d _ _ ((b.trans c).trans f) m);rw[if_pos ⟨j,.inl rfl⟩,M.unM_not s u D] at this;exact this
  refine zb (λa2=>?_) (λa2=>?_)
  ·subst a2;refine zd λg b _=>?_;have o:=C.ext b;simp only[push_cast,o.ldAgg (t:=zg) zr,true_and];refine raw_spec oM λv c=>?_;have z:=o.ext c;have g5:=(g3.ext b).ext c;have e:IntKind.u64.wrap (0-(a:Int))=((if a=0 then 0 else 18446744073709551616-a:Nat):Int):=by
    simp only[IntKind.wrap,IntKind.bits,IntKind.signed,GK,gW,if_false];split<;>omega
   simp only[push_cast,z.ldAgg (t:=zg) zr,true_and,and_self];rw[e];refine vec_spec (by split<;>omega) s u λQ f=>?_;refine stVec (g5.ext f) λA m _ g7=>?_;rw[g7.lv rK];have:=p A (d _ _ ((b.trans c).trans f) m);rw[if_pos ⟨j,.inr rfl⟩,M.unM_neg s u D] at this;exact this
  ·refine stVec g3 λg l _ g4=>?_;rw[g4.lv rK];have:=p g (d _ _ (Same.refl _ _) l);rwa[if_neg (λh=>h.2.elim x a2)] at this
theorem binaries_spec (f:∀w',Ext w w'->K (.agg ⟨[.nilFunc,.nilFunc,.nilFunc,.func (.func xh) #[] #[],.func (.func xg) #[] #[],.func (.func xf) #[] #[],.func (.func xe) #[] #[],.func (.func xd) #[] #[],.func (.func xc) #[] #[],.func (.func xb) #[] #[],.func (.func xa) #[] #[],.func (.func x8) #[] #[],.func (.func yX) #[] #[],.func (.func yW) #[] #[]]⟩) w'):vcall JZ #[] w K:=by
 refine zf {} Tryz.func365 ?_;have j:yi yY (.agg ⟨[.nilFunc,.nilFunc,.nilFunc,.nilFunc,.nilFunc,.nilFunc,.nilFunc,.nilFunc,.nilFunc,.nilFunc,.nilFunc,.nilFunc,.nilFunc,.nilFunc]⟩):=by unfold yi;kernel_rfl
 refine zj j λb1 w1 g a h d=>?_;refine⟨_,w1,run_build (P:=P) w1 _ _ ⟨[.nilFunc,.nilFunc,.nilFunc,.func (.func xh) #[] #[],.func (.func xg) #[] #[],.func (.func xf) #[] #[],.func (.func xe) #[] #[],.func (.func xd) #[] #[],.func (.func xc) #[] #[],.func (.func xb) #[] #[],.func (.func xa) #[] #[],.func (.func x8) #[] #[],.func (.func yX) #[] #[],.func (.func yW) #[] #[]]⟩ rK,?_⟩;refine d.stAgg rfl rK (by intro v c;simp only[K3,gp,or_false] at c;rcases c with rfl|rfl|rfl|rfl|rfl|rfl|rfl|rfl|rfl|rfl|rfl|rfl|rfl|rfl<;>rfl) λw2 b _ e=>?_;rw[e.lv rK];exact f _ (Ext.then a b λy i=>by subst i;omega)
theorem bin_all {op k a b:Nat} (j:3<=op) (i:op<=13) (g:1<=k) (h:k<=4) (e:a<2^k) (f:b<2^k) {K:oK} {w w0:World} (hw:w0=w) (c:OpR K w op k a b) {N:oK}
  (d:∀x,vcallv x #[xS k a,xS k b] w K->N x w):
  q80 yY (.agg ⟨[.nilFunc,.nilFunc,.nilFunc,.func (.func xh) #[] #[],.func (.func xg) #[] #[],.func (.func xf) #[] #[],.func (.func xe) #[] #[],.func (.func xd) #[] #[],.func (.func xc) #[] #[],.func (.func xb) #[] #[],.func (.func xa) #[] #[],.func (.func x8) #[] #[],.func (.func yX) #[] #[],.func (.func yW) #[] #[]]⟩) (nI op) w N:=by
 rcases(by omega:op=3\/op=4\/op=5\/op=6\/op=7\/op=8\/op=9\/op=10\/op=11\/op=12\/op=13) with rfl|rfl|rfl|rfl|rfl|rfl|rfl|rfl|rfl|rfl|rfl
 ·exact⟨.func (.func xh) #[] #[],w,rK,d (.func (.func xh) #[] #[]) (binaries_1_spec g h e f c)⟩
 ·exact⟨.func (.func xg) #[] #[],w,rK,d (.func (.func xg) #[] #[]) (binaries_2_spec g h e f c)⟩
 ·exact⟨.func (.func xf) #[] #[],w,rK,d (.func (.func xf) #[] #[]) (binaries_3_spec g h e f c)⟩
 ·exact⟨.func (.func xe) #[] #[],w,rK,d (.func (.func xe) #[] #[]) (binaries_4_spec g h e f c)⟩
 ·exact⟨.func (.func xd) #[] #[],w,rK,d (.func (.func xd) #[] #[]) (binaries_5_spec g h e f c)⟩
 ·exact⟨.func (.func xc) #[] #[],w,rK,d (.func (.func xc) #[] #[]) (binaries_6_spec g h e f c)⟩
 ·exact⟨.func (.func xb) #[] #[],w,rK,d (.func (.func xb) #[] #[]) (binaries_7_spec g h e f c)⟩
 ·exact⟨.func (.func xa) #[] #[],w,rK,d (.func (.func xa) #[] #[]) (binaries_8_spec g h e f c)⟩
 ·exact⟨.func (.func x8) #[] #[],w,rK,d (.func (.func x8) #[] #[]) (binaries_9_spec g h e f c)⟩
 ·exact⟨.func (.func yX) #[] #[],w,rK,d (.func (.func yX) #[] #[]) (binaries_10_spec g h e f c)⟩
 ·exact⟨.func (.func yW) #[] #[],w,rK,d (.func (.func yW) #[] #[]) (binaries_11_spec g h e f c)⟩
theorem VecBin_spec {op wd n v m:Int} (D:∀w',Ext w w'->K (.tuple #[xS (M.vecBin op wd n v m).1.1 (M.vecBin op wd n v m).1.2,.bool (M.vecBin op wd n v m).2]) w'):vcall WT #[nI op,xS wd n,xS v m] w K:=by
 refine zf {ord:=[(4,[0,1,2,3,4,5,6,7,8,9,10,11,12,13,14,15],[(0,[1,4,13,15]),(1,[4,13,15]),(2,[3,4,13,15]),(3,[4,13,15]),(4,[13,15]),(5,[6,9,12,13,15]),(6,[9,12,13,15]),(7,[8,9,12,13,15]),(8,[9,12,13,15]),(9,[12,13,15]),(10,[11,12,13,15]),(11,[12,13,15]),(12,[13,15]),(13,[15]),(14,[15])]),oz 10 [0,2,4,5,1,3,6,7,8,9] [(0,[2,4,5,1,3,6]),(2,[4,5,1]),(4,[5,1,3]),(5,[1,3])]],cuts:=[(8195,[]),(36874,[])]} Tryz.func364 ?_;refine zl λb1 w1 a9 L ad h1=>?_;refine zl λb2 w2 aa E ae g2=>?_;refine zj zW λb3 V ab F af r3=>?_;have hE:=(L.trans E).trans F;have ah:=L.size;have ai:=E.size;have h3:=(h1.ext E).ext F;have g3:=g2.ext F;have B:∀s A,Ext V s->Same (· =b3) s A->Ext w A:=λs A h h'=>Ext.then (hE.trans h) h' λy hy=>by subst hy;omega
 have d:(M.vecBin op wd n v m)=((0,0),false)->∀s,Ext V s->zT zg (oP b3 0) (xS 0 0) s λ_ A=>vlv zg (oP b3 0) A λr w6=>K (.tuple #[r,.bool false]) w6:=by
  intro e s c;refine stVec (r3.ext c) λA a5 _ U=>?_;rw[U.lv rK];have:=D A (B _ _ c a5);rwa[e] at this
 refine zo (λu s=>u=[]/\Ext V s/\M.vok wd n=true/\M.vok v m=true) (λC hC=>?_) ?_
 ·simp only[push_cast,h3.ldAgg (t:=zg) zr];refine VecOk_spec λs c=>?_;have g4:=g3.ext c;simp only[push_cast];refine zn (λS=>d ?_ _ c) (λS=>?_)
  ·unfold M.vecBin;rw[if_neg (by simp at S;simp[S])]
  ·simp only[push_cast,g4.ldAgg (t:=zg) zr];refine VecOk_spec λA i=>?_;simp only[push_cast];refine zn (λp=>d ?_ _ (c.trans i)) (λp=>?_)
   ·unfold M.vecBin;rw[if_neg (by simp at p;simp[p])]
   ·exact hC _ _ ⟨rfl,c.trans i,by simpa using S,by simpa using p⟩
 ·rintro u g s ⟨rfl,c,O,p⟩;have Y:=h3.ext c;have g4:=g3.ext c;have r4:=r3.ext c;obtain⟨k,a,rfl,rfl,k1,k4,ha⟩:=M.vok_nat O;obtain⟨l,b,rfl,rfl,l1,T,hb⟩:=M.vok_nat p;have I:=pow16 k4 ha;have a8:=pow16 T hb;unfold M.vecBin at D d;rw[if_pos ⟨O,p⟩] at D d;simp only[push_cast];refine zb (λW=>?_) (λW=>?_)
  ·rw[if_pos W] at D d;refine zd λA i _=>?_;have Z:=Y.ext i;have g5:=g4.ext i;have U:=r4.ext i;have hm:a*2^l<=524288:=shl_small I oM;have e1:IntKind.i64.wrap ((k:Int)+(l:Int))=((k+l:Nat):Int):=by rw[zi oM oM];omega
   have eS:∀(w:World) (K:oK),qq .shl y0 false (nI (a:Int)) (nI (l:Int)) w K=K (nI (a*2^l:Nat)) w:=λw K=>vbin_shlI oM oM;have eO:∀(w:World) (K:oK),qq .or y0 false (nI ((a*2^l:Nat):Int)) (nI (b:Int)) w K=K (nI (a*2^l|||b:Nat)) w:=λw K=>vbin_orI oM oM;have eC:=M.cat_or T k4 ha hb;obtain⟨q,hq⟩:∃q,q=a*2^l:=⟨_,rfl⟩;obtain⟨z,hz⟩:∃z,z=q|||b:=⟨_,rfl⟩;rw[<-hq] at eS eO eC;rw[<-hz] at eO eC;simp only[push_cast,Z.ld0,Z.ld1,g5.ld0,g5.ld1,true_and,e1,eS,eO];refine zj zW λb4 w6 ac f ag p6=>?_;have H:=Z.ext f;have g6:=g5.ext f;have r6:=U.ext f;simp only[push_cast,H.ld0,H.ld1,g6.ld0,g6.ld1,true_and,e1,eS,eO,and_self];refine stVec p6 λw7 R _ p7=>?_;have J:b3≠b4:=by have:=U.lt;omega
   have r7:=r6.same R J;have j:Ext V w7:=Ext.then ((c.trans i).trans f) R λy hy=>by subst hy;have:=(c.trans i).size;omega
   simp only[push_cast,p7.ld0];refine zb (λa2=>d ?_ _ j) (λa2=>?_)
   ·rw[if_neg oM]
   ·simp only[push_cast,p7.ldAgg (t:=zg) zr];refine stVec r7 λw8 a6 _ r8=>?_;rw[r8.lv rK];have:=D w8 (B _ _ j a6);rw[if_pos oM,<-eC] at this;exact this
  ·rw[if_neg W] at D d;refine zo (λu A=>u=[]/\A=s/\3<=op/\op<=13/\(k:Int)=l) (λC hC=>?_) ?_
   ·refine zb (λa2=>d (by rw[if_neg oM]) _ c) (λa2=>?_);refine zb (λa3=>d (by rw[if_neg oM]) _ c) (λa3=>?_);simp only[push_cast,Y.ld0,g4.ld0];refine zb (λa4=>d (by rw[if_neg oM]) _ c) (λa4=>?_);exact hC _ _ ⟨rfl,rfl,oM,oM,oM⟩
   ·rintro u g A ⟨rfl,rfl,c3,X,ckl⟩;have:l=k:=oM;subst this;refine zd λw6 f _=>?_;have H:=Y.ext f;have g6:=g4.ext f;simp only[push_cast,H.ldAgg (t:=zg) zr,g6.ldAgg (t:=zg) zr,true_and];refine binaries_spec λw7 j=>?_;have h7:=H.ext j;have g7:=g6.ext j;simp only[push_cast,h7.ldAgg (t:=zg) zr,g7.ldAgg (t:=zg) zr,true_and,and_self];obtain⟨o,rfl⟩:∃o:Nat,op=o:=⟨op.toNat,oM⟩;refine bin_all oM oM l1 T ha hb rfl ?_ λx hx=>⟨rfl,hx⟩;intro w8 r G hr a0;have h8:=h7.ext G;simp only[push_cast,h8.ldAgg (t:=zg) zr,true_and,and_self];refine vec_spec hr l1 T λw9 N=>?_;have r9:=(((r4.ext f).ext j).ext G).ext N;refine stVec r9 λw10 Q _ a7=>?_;rw[a7.lv rK];have:=D w10 (B _ _ ((((c.trans f).trans j).trans G).trans N) Q);rw[if_pos ⟨c3,X,rfl⟩] at this;rw[a0];exact this
theorem eqVec {a b c d:Int} {t:Bool}:qq .eql zg t (xS a b) (xS c d) w K=K (.bool (decide (a=c/\b=d))) w:=by
 refine yl (run_eqGuard_agg w _ _ _ _ _ _ rK) ?_;have i:(P.fieldsOf zg).toList=[(P.fieldsOf zg).getD 0 default,(P.fieldsOf zg).getD 1 default]:=rK
 have g:((P.fieldsOf zg).getD 0 default).name≠ "_" :=by decide+kernel
 have h:((P.fieldsOf zg).getD 1 default).name≠ "_" :=by decide+kernel
 have i0:P.underlying ((P.fieldsOf zg).getD 0 default).type=some (.int .i64):=rK
 have i1:P.underlying ((P.fieldsOf zg).getD 1 default).type=some (.int .i64):=rK
 have p0:∀x y:Value,(part ((P.fieldsOf zg).getD 0 default).type ⟨[x,y]⟩ ((P.fieldsOf zg).getD 0 default).offset).run P w= .ok x w:=λx y=>rK
 have p1:∀x y:Value,(part ((P.fieldsOf zg).getD 1 default).type ⟨[x,y]⟩ ((P.fieldsOf zg).getD 1 default).offset).run P w= .ok y w:=λx y=>rK
 have j:(Op.equalIn 10000 zg (xS a b) (xS c d)).run P w= .ok (decide (a=c/\b=d)) w:=by
  rw[run_equalIn_struct w 9999 zg _ _ rK rK,i];generalize (P.fieldsOf zg).getD 0 default=f0 at g i0 p0⊢;generalize (P.fieldsOf zg).getD 1 default=f1 at h i1 p1⊢;simp only[Op.eqFields,if_pos g,if_pos h,Sem.run_bind,p0,p1,Result.andThen_ok,run_equalIn_int w 9998 _ _ _ _ _ i0,run_equalIn_int w 9998 _ _ _ _ _ i1];by_cases e:a=c
  ·by_cases f:b=d
   ·subst e;subst f;simp[run_equalIn_int w 9998 _ _ _ _ _ i1,p1]
   ·subst e;simp[run_equalIn_int w 9998 _ _ _ _ _ i1,p1,f]
  ·simp[e]
 rw[run_eql_struct,j];rfl
theorem VecCmp_spec {op wd n v m:Int} (k:∀w',Ext w w'->K (.tuple #[.bool (M.vecCmp op wd n v m).1,.bool (M.vecCmp op wd n v m).2]) w'):vcall WS #[nI op,xS wd n,xS v m] w K:=by
 refine zf {ord:=[oz 9 [0,2,1,3,4,5,6] [(0,[2]),(2,[1])]],cuts:=[(8195,[])]} Tryz.func380 ?_;refine zl λb1 w1 D y F A=>?_;refine zl λb2 w2 E l G g2=>?_;have p:=y.trans l;have r:=A.ext l;have d:(M.vecCmp op wd n v m)=(false,false)->∀f,Ext w2 f->K (.tuple #[.bool false,.bool false]) f:=by
  intro e f a;have:=k f (p.trans a);rwa[e] at this
 refine zo (λu f=>u=[]/\Ext w2 f/\M.vok wd n=true/\M.vok v m=true/\wd=v) (λC B=>?_) ?_
 ·simp only[push_cast,r.ldAgg (t:=zg) zr];refine VecOk_spec λf a=>?_;have g4:=g2.ext a;simp only[push_cast];refine zn (λq=>d ?_ _ a) (λq=>?_)
  ·unfold M.vecCmp;rw[if_neg (by simp at q;simp[q])]
  ·simp only[push_cast,g4.ldAgg (t:=zg) zr];refine VecOk_spec λH b=>?_;have g5:=g4.ext b;have x:=(r.ext a).ext b;simp only[push_cast];refine zn (λc=>d ?_ _ (a.trans b)) (λc=>?_)
   ·unfold M.vecCmp;rw[if_neg (by simp at c;simp[c])]
   ·simp only[push_cast,x.ld0,g5.ld0];refine zb (λj=>d ?_ _ (a.trans b)) (λj=>?_)
    ·unfold M.vecCmp;rw[if_neg (λh=>j h.2.2.1)]
    ·exact B _ _ ⟨rfl,a.trans b,by simpa using q,by simpa using c,oM⟩
 ·rintro u g f ⟨rfl,a,i,c,rfl⟩;have s:=r.ext a;have g4:=g2.ext a;unfold M.vecCmp at k d;simp only[push_cast];refine zb (λj=>?_) (λj=>?_)
  ·subst j;simp only[push_cast,s.ldAgg (t:=zg) zr,g4.ldAgg (t:=zg) zr];rw[eqVec];have:=k f (p.trans a);rw[if_pos ⟨i,c,rfl,oM,oM⟩] at this;simp only[M.cmpM,if_true] at this;simp only[true_and];exact this
  refine zb (λa2=>?_) (λa2=>?_)
  ·subst a2;simp only[push_cast,s.ld1,g4.ld1];have:=k f (p.trans a);rw[if_pos ⟨i,c,rfl,oM,oM⟩] at this;exact this
  refine zb (λa3=>?_) (λa3=>?_)
  ·subst a3;refine zd λH b _=>?_;have x:=s.ext b;have g5:=g4.ext b;simp only[push_cast,x.ldAgg (t:=zg) zr,g5.ldAgg (t:=zg) zr,true_and];refine VecSigned_spec λJ o=>?_;have g6:=g5.ext o;simp only[push_cast,g6.ldAgg (t:=zg) zr,true_and,and_self];refine VecSigned_spec λI z=>?_;simp only[push_cast,if_pos i,if_pos c,true_and];have:=k I (((p.trans a).trans b).trans (o.trans z));rw[if_pos ⟨i,c,rfl,oM,oM⟩] at this;exact this
  ·exact d (by rw[if_neg (λh=>oM)]) _ a
theorem VecCut_spec {wd n hi lo:Int} (m:∀w',Ext w w'->K (.tuple #[xS (M.vecCut wd n hi lo).1.1 (M.vecCut wd n hi lo).1.2,.bool (M.vecCut wd n hi lo).2]) w'):vcall WR #[xS wd n,nI hi,nI lo] w K:=by
 refine zf {cuts:=[(8195,[])]} Tryz.func389 ?_;refine zl λb1 w1 T o V O=>?_;refine zj zW λb3 E U p W I=>?_;have R:=o.trans p;have Z:=o.size;have v:=O.ext p;have f:∀d i,Ext E d->Same (· =b3) d i->Ext w i:=λd i h N=>Ext.then (R.trans h) N λy X=>by subst X;omega
 have c:(M.vecCut wd n hi lo)=((0,0),false)->∀d,Ext E d->zT zg (oP b3 0) (xS 0 0) d λ_ i=>vlv zg (oP b3 0) i λr F=>K (.tuple #[r,.bool false]) F:=by
  intro e d b;refine stVec (I.ext b) λi B _ r5=>?_;rw[r5.lv rK];have:=m i (f _ _ b B);rwa[e] at this
 unfold M.vecCut at m c;refine zo (λu d=>u=[]/\Ext E d/\M.vok wd n=true/\0<=lo/\lo<=hi/\hi<wd) (λC Q=>?_) ?_
 ·simp only[push_cast,v.ldAgg (t:=zg) zr];refine VecOk_spec λd b=>?_;have A:=v.ext b;simp only[push_cast];refine zn (λj=>c ?_ _ b) (λj=>?_)
  ·rw[if_neg (by simp at j;simp[j])]
  refine zb (λJ=>c (if_neg oM) _ b) (λJ=>?_);refine zb (λa2=>c (if_neg oM) _ b) (λa2=>?_);simp only[push_cast,A.ld0];refine zb (λa3=>c (if_neg oM) _ b) (λa3=>?_);exact Q _ _ ⟨rfl,b,by simpa using j,oM,oM,oM⟩
 ·rintro u g d ⟨rfl,b,j,c1,c2,c3⟩;have A:=v.ext b;have r4:=I.ext b;obtain⟨k,a,rfl,rfl,k1,k4,S⟩:=M.vok_nat j;obtain⟨l,rfl⟩:∃l:Nat,lo=l:=⟨lo.toNat,oM⟩;obtain⟨t,H⟩:∃t:Nat,hi-(l:Int)+1=t:=⟨(hi-l+1).toNat,oM⟩;have G:=pow16 k4 S;have L:IntKind.i64.wrap (IntKind.i64.wrap (hi-(l:Int))+1)=(t:Int):=by rw[zi (x:=hi-l) oM oM,zi oM oM];omega
  simp only[push_cast,A.ldAgg (t:=zg) zr,L];refine raw_spec oM λi q=>?_;have hd:=Gx a (2^l);rw[vbin_shrU oM];refine cut_spec oM oM oM ?_;have hm:=Nat.mod_le (a/2^l) (2^t);have s:M.cutM (a:Int) hi (l:Int)=((a/2^l%2^t:Nat):Int):=by
   unfold M.cutM;rw[H];simp
  rw[if_pos ⟨j,c1,c2,c3⟩] at m;simp only[s,H] at m;obtain⟨z,Y⟩:∃z,z=a/2^l%2^t:=⟨_,rfl⟩;rw[<-Y] at hm m⊢;rw[qw JB VO,wrapN oM];simp only[push_cast];refine stVec (r4.ext q) λF D _ r6=>?_;rw[r6.lv rK];exact m F (f _ _ (b.trans q) D)
end
section
variable {w:World} {K:oK} {F G:Nat->Prop}
@[push_cast] theorem tn0:(0:Int).toNat=0:=rfl
@[push_cast] theorem tn1:(1:Int).toNat=1:=rfl
@[push_cast] theorem tn2:(2:Int).toNat=2:=rfl
theorem jk0 {α:Type} (xs:List α) (d:α) (p:α->Bool):(List.range xs.length).any (λi=>p (xs.getD i d))=xs.any p:=by
 rw[Ps,pb,pb];constructor
 ·rintro⟨i,hi,a⟩;exact⟨_,M.getD_mem (gH.1 hi) d,a⟩
 ·rintro⟨x,b,a⟩;obtain⟨i,hi,rfl⟩:=gl b;exact⟨i,gH.2 hi,by rw[q0,gd hi];exact a⟩
abbrev DclV (d:M.Dcl):Value:= .agg ⟨[.string d.1,nI d.2]⟩
abbrev QV:M.Dcl:=(M.nada,0)
theorem IndexFunc_Decl {v f:Value} {ds:List M.Dcl} {p:Nat->Bool} (e:DclsR F w v ds) (m:∀i,i<ds.length->FnB w f #[DclV (ds.getD i QV)] (p i))
  (k:∀w',Ext w w'->K (nI (idxI ds.length p)) w'):vcall xY #[v,f] w K:=by
 refine zf {loops:=[(2,[8])]} Tryz.func100 ?_;simp(disch:=first|omega|simp only[push_cast]) only[push_cast,e.len];have hlen:=e.small;refine vloop_up ds.length (λi u w'=>u=[nI i]/\Ext w w'/\∀j,j<i->p j=false) ⟨rfl,Same.refl _ _,oM⟩ ?_;rintro i _ g w1 C hi ⟨rfl,he,d⟩ l;simp only[push_cast];refine zb (λq=>?_) (λn=>?_)
 ·have b:=e.ext he;simp(disch:=first|omega|simp only[push_cast]) only[push_cast,b.iaddr,b.load];refine m i oM w1 _ he λw2 a=>zn (λc=>?_) (λc=>?_)
  ·have:=k w2 (he.trans a);rwa[idxI_some oM c d] at this
  ·rw[inc64' oM];exact l oM _ _ ⟨rfl,he.trans a,λj o=>by
    by_cases h:j=i
    ·subst h;exact c
    ·exact d j oM⟩
 ·have:=k w1 he;rwa[Kg (λj o=>d j oM)] at this
theorem QJ {v f:Value} {ds:List M.Dcl} {p:Nat->Bool} (c:DclsR F w v ds) (b:∀i,i<ds.length->FnB w f #[DclV (ds.getD i QV)] (p i))
  (a:∀w',Ext w w'->K (.bool ((List.range ds.length).any p)) w'):vcall xK #[v,f] w K:=by
 refine zf {} Tryz.func65 ?_;refine IndexFunc_Decl c b λw' he=>?_;simp only[push_cast,Xf];exact a w' he
theorem YT {b:Bool} (a:K (nI (M.b2i b)) w):vcall WO #[.bool b] w K:=by
 refine zf {} Tryz.func118 ?_;refine zn (λh=>?_) (λh=>?_)<;>subst h<;>exact a
theorem Z2 {b:Bool} {s:Int} (a:K (nI (if b=true then s else-1)) w):vcall Z7 #[.bool b,nI s] w K:=by
 refine zf {} Tryz.func358 ?_;refine zn (λh=>?_) (λh=>?_)<;>subst h<;>exact a
theorem qS {p:Prop} [Decidable p] {s:Int} (a:K (nI (if p then s else-1)) w):vcall Z7 #[.bool (decide p),nI s] w K:=
 Z2 (by simpa using a)
theorem jK {s:Int} (a:K (nI (-1)) w):vcall Z7 #[.bool false,nI s] w K:=Z2 a
theorem qD {s:ByteArray} {n:Int} (c:∀w',Ext w w'->K (nI n) w'):vcall yf #[.agg ⟨[.string s,nI n]⟩] w K:=by
 refine zf {} Tryz.func354 ?_;refine zl λb1 w1 d a e b=>?_;simp only[push_cast,b.ld1];exact c _ a
abbrev KV (s:ByteArray) (n:Int):Value:= .agg ⟨[.string s,nI n]⟩
theorem unKind_sort_spec {s:ByteArray} {n:Int} {dv tv kv:Value} {t:M.Tm} {xs:List Int} (k:TermR F w tv t) (l:Ints G w kv xs) (p:xs.length=1)
  (e:∀w',Ext w w'->K (nI (if 0<xs.getD 0 0 then xs.getD 0 0 else-1)) w'):vcall kk #[KV s n,dv,tv,kv] w K:=by
 refine zf {ord:=[oz 1 (oR 9) [(0,[4,5,6]),(1,[4,5,6]),(2,[4,5,6]),(3,[4,5,6])]]} Tryz.func356 ?_;obtain⟨ksv,rfl,h⟩:=k;refine zl λb1 w1 f a i m=>?_;refine zl λb2 w2 g b j o=>?_;refine zd λq c _=>?_;have d:=l.ext ((a.trans b).trans c);simp(disch:=first|omega|simp only[push_cast]) only[push_cast,d.iaddr,d.load,true_and];exact qS (e _ ((a.trans b).trans c))
theorem binKind_sort_spec {s:ByteArray} {n:Int} {dv tv kv:Value} {t:M.Tm} {xs:List Int} (m:TermR F w tv t) (o:Ints G w kv xs) (r:xs.length=2)
  (g:∀w',Ext w w'->K (nI (if 0<xs.getD 0 0/\xs.getD 0 0=xs.getD 1 0 then xs.getD 0 0 else-1)) w'):vcall jY #[KV s n,dv,tv,kv] w K:=by
 refine zf {ord:=[oz 1 (oR 18) [(0,[13,14,15]),(1,[13,14,15]),(2,[13,14,15]),(3,[13,14,15]),(4,[13,14,15]),(5,[8,9,10,13,14,15]),(6,[8,9,10,13,14,15]),(7,[8,9,10,13,14,15]),(8,[13,14,15]),(9,[13,14,15]),(10,[13,14,15]),(11,[13,14,15]),(12,[13,14,15])]]} Tryz.func395 ?_;obtain⟨ksv,rfl,j⟩:=m;refine zl λb1 w1 h b k p=>?_;refine zl λb2 w2 i c l q=>?_;refine zd λu d _=>?_;have e:=o.ext ((b.trans c).trans d);have f:=g _ ((b.trans c).trans d);simp(disch:=first|omega|simp only[push_cast]) only[push_cast,e.iaddr,e.load,true_and];refine zb (λa=>?_) (λa=>?_)
 ·refine qS ?_;simpa only[a,true_and] using f
 ·refine jK ?_;simpa only[a,false_and,if_false] using f
theorem cmpKind_sort_spec {s:ByteArray} {n:Int} {dv tv kv:Value} {t:M.Tm} {xs:List Int} (m:TermR F w tv t) (o:Ints G w kv xs) (r:xs.length=2)
  (g:∀w',Ext w w'->K (nI (if 0<xs.getD 0 0/\xs.getD 0 0=xs.getD 1 0 then 0 else-1)) w'):vcall jV #[KV s n,dv,tv,kv] w K:=by
 refine zf {ord:=[oz 1 (oR 15) [(5,[8,9,10]),(6,[8,9,10]),(7,[8,9,10])]]} Tryz.func378 ?_;obtain⟨ksv,rfl,j⟩:=m;refine zl λb1 w1 h b k p=>?_;refine zl λb2 w2 i c l q=>?_;refine zd λu d _=>?_;have e:=o.ext ((b.trans c).trans d);have f:=g _ ((b.trans c).trans d);simp(disch:=first|omega|simp only[push_cast]) only[push_cast,e.iaddr,e.load,true_and];refine zb (λa=>?_) (λa=>?_)
 ·refine qS ?_;simpa only[a,true_and] using f
 ·refine jK ?_;simpa only[a,false_and,if_false] using f
theorem catKind_sort_spec {s:ByteArray} {n:Int} {dv tv kv:Value} {t:M.Tm} {xs:List Int} (r:TermR F w tv t) (u:Ints G w kv xs) (y:xs.length=2) (h:∀i,-1<=xs.getD i 0/\xs.getD i 0<=4)
  (k:∀w',Ext w w'->K (nI (if 0<xs.getD 0 0/\0<xs.getD 1 0/\xs.getD 0 0+xs.getD 1 0<=4 then xs.getD 0 0+xs.getD 1 0 else-1)) w'):vcall jW #[KV s n,dv,tv,kv] w K:=by
 refine zf {ord:=[oz 1 (oR 29) [(0,[20,21,22,23,24,25,26]),(1,[20,21,22,23,24,25,26]),(2,[20,21,22,23,24,25,26]),(3,[20,21,22,23,24,25,26]),(4,[20,21,22,23,24,25,26]),(5,[20,21,22,23,24,25,26]),(6,[20,21,22,23,24,25,26]),(7,[20,21,22,23,24,25,26]),(8,[20,21,22,23,24,25,26]),(9,[20,21,22,23,24,25,26]),(10,[20,21,22,23,24,25,26]),(11,[14,15,16,20,21,22,23,24,25,26]),(12,[14,15,16,20,21,22,23,24,25,26]),(13,[14,15,16,20,21,22,23,24,25,26]),(14,[20,21,22,23,24,25,26]),(15,[20,21,22,23,24,25,26]),(16,[20,21,22,23,24,25,26]),(17,[20,21,22,23,24,25,26]),(18,[20,21,22,23,24,25,26]),(19,[20,21,22,23,24,25,26]),(20,[23,24,25]),(21,[23,24,25]),(22,[23,24,25])]]} Tryz.func362 ?_;obtain⟨ksv,rfl,o⟩:=r;refine zl λb1 w1 l c p v=>?_;refine zl λb2 w2 m d q x=>?_;refine zd λB e _=>?_;have f:=u.ext ((c.trans d).trans e);have g:=k _ ((c.trans d).trans e);have z:=h 0;have A:=h 1;have j:IntKind.i64.wrap (xs.getD 0 0+xs.getD 1 0)=xs.getD 0 0+xs.getD 1 0:=zi oM oM;simp(disch:=first|omega|simp only[push_cast]) only[push_cast,f.iaddr,f.load,true_and,j];refine zb (λa=>?_) (λa=>?_)
 ·refine zb (λb=>?_) (λb=>?_)
  ·refine qS ?_;simpa only[a,b,true_and] using g
  ·refine jK ?_;simpa only[b,false_and,and_false,if_false] using g
 ·refine jK ?_;simpa only[a,false_and,if_false] using g
theorem ifKind_sort_spec {s:ByteArray} {n:Int} {dv tv kv:Value} {t:M.Tm} {xs:List Int} (m:TermR F w tv t) (o:Ints G w kv xs) (r:xs.length=3)
  (g:∀w',Ext w w'->K (nI (if xs.getD 0 0=0/\xs.getD 1 0=xs.getD 2 0 then xs.getD 1 0 else-1)) w'):vcall km #[KV s n,dv,tv,kv] w K:=by
 refine zf {ord:=[oz 1 (oR 18) [(0,[13,14,15]),(1,[13,14,15]),(2,[13,14,15]),(3,[13,14,15]),(4,[13,14,15]),(5,[8,9,10,13,14,15]),(6,[8,9,10,13,14,15]),(7,[8,9,10,13,14,15]),(8,[13,14,15]),(9,[13,14,15]),(10,[13,14,15]),(11,[13,14,15]),(12,[13,14,15])]]} Tryz.func390 ?_;obtain⟨ksv,rfl,j⟩:=m;refine zl λb1 w1 h b k p=>?_;refine zl λb2 w2 i c l q=>?_;refine zd λu d _=>?_;have e:=o.ext ((b.trans c).trans d);have f:=g _ ((b.trans c).trans d);simp(disch:=first|omega|simp only[push_cast]) only[push_cast,e.iaddr,e.load,true_and];refine zb (λa=>?_) (λa=>?_)
 ·refine qS ?_;simpa only[a,true_and] using f
 ·refine jK ?_;simpa only[a,false_and,if_false] using f
theorem Q9 {s:ByteArray} {n:Int} {dv tv kv:Value} {t:M.Tm} (q:TermR F w tv t)
  (j:∀w',Ext w w'->K (nI (if M.vok t.a t.b=true then t.a else-1)) w'):vcall jO #[KV s n,dv,tv,kv] w K:=by
 refine zf {ord:=[oz 1 [0,1,2,3,4,6,7,5,8,9] [(0,[2,3,6,7]),(1,[2,3,6,7]),(2,[6,7]),(3,[6,7]),(4,[6,7]),(6,[5]),(7,[5])]]} Tryz.func382 ?_;obtain⟨ksv,rfl,m⟩:=q;refine zl λb1 w1 k f o r=>?_;refine zl λb2 w2 l g p h=>?_;refine zd λu c _=>?_;have e:=h.ext c;simp(disch:=first|omega|simp only[push_cast]) only[push_cast,e.ld1,e.ld2,true_and];refine VecOk_spec λv d=>?_;have i:=e.ext d;simp(disch:=first|omega|simp only[push_cast]) only[push_cast,i.ld1,true_and,and_self];exact Z2 (j _ (((f.trans g).trans c).trans d))
theorem cutKind_sort_spec {s:ByteArray} {n:Int} {dv tv kv:Value} {t:M.Tm} {xs:List Int} (y:TermR F w tv t) (z:Ints G w kv xs) (B:xs.length=1) (r:∀i,-1<=xs.getD i 0/\xs.getD i 0<=4)
  (m:∀w',Ext w w'->K (nI (if 0<=t.b/\t.b<=t.a/\t.a<xs.getD 0 0 then t.a-t.b+1 else-1)) w'):vcall jU #[KV s n,dv,tv,kv] w K:=by
 refine zf {ord:=[oz 1 (oR 26) [(0,[18,19,20,21,22,23]),(1,[18,19,20,21,22,23]),(2,[18,19,20,21,22,23]),(3,[18,19,20,21,22,23]),(4,[6,7,18,19,20,21,22,23]),(5,[6,7,18,19,20,21,22,23]),(6,[18,19,20,21,22,23]),(7,[18,19,20,21,22,23]),(8,[18,19,20,21,22,23]),(9,[18,19,20,21,22,23]),(10,[18,19,20,21,22,23]),(11,[13,14,15,18,19,20,21,22,23]),(12,[13,14,15,18,19,20,21,22,23]),(13,[18,19,20,21,22,23]),(14,[18,19,20,21,22,23]),(15,[18,19,20,21,22,23]),(16,[18,19,20,21,22,23]),(17,[18,19,20,21,22,23]),(18,[20,21]),(19,[20,21])]]} Tryz.func387 ?_;obtain⟨ksv,rfl,q⟩:=y;refine zl λb1 w1 o e u A=>?_;refine zl λb2 w2 p f v l=>?_;refine zd λD d _=>?_;have g:=z.ext ((e.trans f).trans d);have j:=l.ext d;have h:=m _ ((e.trans f).trans d);have C:=r 0;simp(disch:=first|omega|simp only[push_cast]) only[push_cast,j.ld1,j.ld2,g.iaddr,g.load,true_and];refine zb (λa=>?_) (λa=>?_)
 ·refine zb (λb=>?_) (λb=>?_)
  ·by_cases c:t.a<xs.getD 0 0
   ·have k:IntKind.i64.wrap (IntKind.i64.wrap (t.a-t.b)+1)=t.a-t.b+1:=(by rw[zi (x:=t.a-t.b) oM oM,zi oM oM]);rw[k];refine qS ?_;simpa only[a,b,c,true_and] using h
   ·refine qS ?_;simpa only[c,and_false,if_false] using h
  ·refine jK ?_;simpa only[b,false_and,and_false,if_false] using h
 ·refine jK ?_;simpa only[a,false_and,if_false] using h
theorem XY {s:ByteArray} {n:Int} {f dv tv kv:Value} {t:M.Tm} {xs:List Int} (q:TermR F w tv t) (r:Ints G w kv xs)
  (c:∀w',Ext w w'->K (nI (if xs.any (λx=>decide (x≠0)) then-1 else 0)) w'):vcall jw #[.agg ⟨[.string s,nI n,f]⟩,dv,tv,kv] w K:=by
 refine zf {} Tryz.func392 ?_;obtain⟨ksv,rfl,l⟩:=q;refine zl λb1 w1 j a m u=>?_;refine zl λb2 w2 k b o v=>?_;have e:=r.ext (a.trans b);refine jh (p:=λi=>decide (xs.getD i 0≠0)) e (λi hi=>?_) λy d=>?_
 ·rw[Kf (by simpa using hi)];intro w' K he c;simp only[push_cast];refine zf {} Tryz.func394 ?_;simp only[push_cast];have:=c _ (Same.refl _ _);simpa using this
 ·have g:=c _ ((a.trans b).trans d);rw[k6,jk0 xs 0 (λx=>decide (x≠0))];simp only[push_cast];refine Z2 ?_;cases h:xs.any λx=>decide (x≠0)<;>rw[h] at g<;>exact g
theorem nameKind_sort_spec {s:ByteArray} {n:Int} {dv tv kv:Value} {t:M.Tm} {ds:List M.Dcl} (B:TermR F w tv t) (u:DclsR G w dv ds)
  (h:∀w',Ext w w'->K (nI (if M.findD ds t.s<0 then-1 else(ds.getD (M.findD ds t.s).toNat QV).2)) w'):vcall jo #[KV s n,dv,tv,kv] w K:=by
 refine zf {} Tryz.func384 ?_;obtain⟨ksv,rfl,x⟩:=B;refine zl λb1 w1 o d y C=>?_;refine zl λb2 w2 q e z k=>?_;simp only[push_cast];have b:=u.ext (d.trans e);refine IndexFunc_Decl (p:=λi=>decide ((ds.getD i QV).1=t.s)) b (λi hi=>?_) λD f=>?_
 ·intro w' K he h;simp only[push_cast];refine zf {} Tryz.func386 ?_;refine zl λb3 E r g A l=>?_;have m:=(k.ext he).ext g;simp(disch:=first|omega|simp only[push_cast]) only[push_cast,l.ld0,m.ld3];exact h _ g
 ·have v:=M.findD_lt ds t.s;have j:=h _ ((d.trans e).trans f);have c:=b.ext f;have efd:idxI ds.length (λi=>decide ((ds.getD i QV).1=t.s))=M.findD ds t.s:=rfl;rw[efd];simp only[push_cast];refine zb (λa=>?_) (λa=>?_)
  ·rwa[if_pos a] at j
  ·rw[if_neg a] at j;simp(disch:=first|omega|simp only[push_cast]) only[push_cast,c.iaddr];simp(disch:=first|omega|simp only[push_cast]) only[push_cast,c.load1];exact j
end
section
variable {w:World} {K:oK} {F:Nat->Prop}
theorem l1Max_spec {a b:Int} (c:K (nI (max a b)) w):vcall zo0 #[nI a,nI b] w K:=by
 refine zf {} Tryz.func62 ?_;simp only[push_cast];refine zb (λh=>?_) (λh=>?_)
 ·rwa[show max a b=a by omega] at c
 ·rwa[show max a b=b by omega] at c
theorem l1Min_spec {a b:Int} (c:K (nI (min a b)) w):vcall zn0 #[nI a,nI b] w K:=by
 refine zf {} Tryz.func45 ?_;simp only[push_cast];refine zb (λh=>?_) (λh=>?_)
 ·rwa[show min a b=a by omega] at c
 ·rwa[show min a b=b by omega] at c
theorem pow62 {k:Nat} (h:k<=62):2^k<=4611686018427387904:=gG (gK oM h) dC
theorem l1Two_spec {n:Int} (h:n<=62) (l:K (nI ((2^n.toNat:Nat):Int)) w):vcall Zz #[nI n] w K:=by
 refine zf {loops:=[(3,[3,4])]} Tryz.func63 ?_;refine vloop_up n.toNat (λi u w'=>u=[nI (2^i:Nat),nI i]/\w'=w) ⟨rfl,rfl⟩ ?_;rintro i _ _ w1 C hi ⟨rfl,rfl⟩ e;have m:=pow62 (k:=i) oM;have c:((2^i:Nat):Int)*2=((2^(i+1):Nat):Int):=by rw[Nat.pow_succ];omega
 have b:i<n.toNat->2^(i+1)<=4611686018427387904:=λh=>pow62 oM;obtain⟨q,g⟩:∃q,q=2^i:=⟨_,rfl⟩;obtain⟨j,d⟩:∃j,j=2^(i+1):=⟨_,rfl⟩;rw[<-g] at c m⊢;rw[<-d] at c e b;simp only[push_cast];refine zb (λa=>?_) (λa=>?_)
 ·have f:=b oM;rw[c,zi oM oM,inc64' oM];exact e oM _ _ ⟨rfl,rfl⟩
 ·have:i=n.toNat:=oM;subst this;rw[g];exact l
theorem l1Two_nat {n:Nat} (h:n<=62) (a:K (nI ((2^n:Nat):Int)) w):vcall Zz #[nI (n:Int)] w K:=
 l1Two_spec oM (by rwa[gj])
theorem spec_VecOk_spec {wd n:Int} (j:∀w',Ext w w'->K (.bool (M.vok wd n)) w'):vcall zs0 #[xS wd n] w K:=by
 refine zf {ord:=[oz 1 (oR 22) [(14,[16,17,18]),(15,[16,17,18])]]} Tryz.func81 ?_;refine zl λb1 w1 k f l h=>?_;refine zd λw2 c _=>?_;have e:=h.ext c;have i:=f.trans c;simp only[push_cast,e.ld0,e.ld1,true_and];have a:=j w2 i;refine zb (λd=>?_) (λd=>?_)
 ·refine zb (λa2=>?_) (λa2=>?_)
  ·refine zb (λa3=>?_) (λa3=>?_)
   ·refine l1Two_spec oM ?_;obtain⟨q,g⟩:∃q,q=2^wd.toNat:=⟨_,rfl⟩;have b:M.vok wd n=decide (n<(q:Nat)):=by
     simp only[M.vok,decide_eq_true d,decide_eq_true a2,decide_eq_true a3,pH];rw[g,JK]
    rw[<-g];simp only[push_cast,e.ld1,true_and,and_self];rw[b] at a;exact a
   ·have b:M.vok wd n=false:=(by simp only[M.vok,decide_eq_false a3,pB,GK]);rw[b] at a;exact a
  ·have b:M.vok wd n=false:=(by simp only[M.vok,decide_eq_false a2,pB,GK]);rw[b] at a;exact a
 ·have b:M.vok wd n=false:=(by simp only[M.vok,decide_eq_false d,GK]);rw[b] at a;exact a
theorem l1Bit_spec {n k:Nat} (d:n<9223372036854775808) (b:k<=62) (a:K (nI ((n/2^k%2:Nat):Int)) w):vcall zp0 #[nI (n:Int),nI (k:Int)] w K:=by
 refine zf {} Tryz.func161 ?_;refine l1Two_nat b ?_;have e:0<2^k:=PO oM;have c:n/2^k<=n:=Gx _ _;rw[jy oM,show(n:Int).tdiv ((2^k:Nat):Int)=((n/2^k:Nat):Int) from rfl,wrapN oM,qY oM,show((n/2^k:Nat):Int).tmod 2=((n/2^k%2:Nat):Int) from rfl];exact a
theorem l1Mod_spec {n:Int} {k:Nat} (h:1<=k) (j:k<=4) (q: -4611686018427387904<=n) (p:n<=4611686018427387904) (f:K (nI (n%(2^k:Nat))) w):vcall zm0 #[nI n,nI (k:Int)] w K:=by
 refine zf {} Tryz.func259 ?_;refine l1Two_nat oM ?_;have o:=pow4 h j;obtain⟨m,hm⟩:∃m,m=2^k:=⟨_,rfl⟩;rw[<-hm] at o f⊢;rw[qY oM];have g:m=2\/m=4\/m=8\/m=16:=by
  rcases(by omega:k=1\/k=2\/k=3\/k=4) with rfl|rfl|rfl|rfl<;>simp at hm<;>omega
 simp only[push_cast];by_cases l:0<=n
 ·rw[pj l];have i:0<=n%(m:Int):=Int.emod_nonneg _ oM;refine zb (λa=>absurd a oM) (λa=>f)
 ·obtain⟨b,rfl⟩:∃b:Nat,n= -(b:Int):=⟨(-n).toNat,oM⟩;rw[Int.neg_tmod,pj oM];have i:0<=(b:Int)%(m:Int):=Int.emod_nonneg _ oM;have h:(b:Int)%(m:Int)<m:=Int.emod_lt_of_pos _ oM;have e:(b:Int)%(m:Int)=0/\ -(b:Int)%(m:Int)=0\/0<(b:Int)%(m:Int)/\ -(b:Int)%(m:Int)= -((b:Int)%(m:Int))+m:=by
   rcases g with rfl|rfl|rfl|rfl<;>omega
  refine zb (λa=>?_) (λa=>?_)
  ·rcases e with⟨d,c⟩|⟨d,c⟩
   ·omega
   ·rw[zi oM oM,<-c];exact f
  ·rcases e with⟨d,c⟩|⟨d,c⟩
   ·rw[d,show-(0:Int)=0 from rfl,<-c];exact f
   ·omega
theorem l1Signed_spec {k a:Nat} (l:1<=k) (m:k<=4) (o:a<2^k) (i:∀w',Ext w w'->K (nI (M.sgn k a)) w'):vcall JO #[xS k a] w K:=by
 refine zf {ord:=[oz 2 (oR 7) [(0,[2,3,4]),(1,[2,3,4])]]} Tryz.func260 ?_;have s:=pow4 l m;refine zl λb1 w1 p d u f=>?_;have n:IntKind.i64.wrap ((k:Int)-1)=((k-1:Nat):Int):=by rw[zi oM oM];omega
 simp only[push_cast,f.ld0,f.ld1,n];refine l1Bit_spec oM oM ?_;have b:=top_bit l m o;have v:=(JK k).symm;have j:(2:Int)^((k:Int).toNat-1)=((2^(k-1):Nat):Int):=by simp
 have h:a/2^(k-1)%2<2:=pg _ oM;obtain⟨z,x⟩:∃z,z=a/2^(k-1)%2:=⟨_,rfl⟩;rw[<-x] at b h⊢;simp only[push_cast];refine zb (λc=>?_) (λc=>?_)
 ·refine zd λw2 e _=>?_;have g:=f.ext e;simp only[push_cast,g.ld0,g.ld1,true_and];refine l1Two_nat oM ?_;have r: ¬a<2^(k-1):=by
   have:decide (z=1)=true:=decide_eq_true oM;rw[this] at b;exact of_decide_eq_true b.symm
  have:=i w2 (d.trans e);unfold M.sgn at this;rw[if_neg (by rw[j];omega),gj,v] at this;obtain⟨q,t⟩:∃q,q=2^k:=⟨_,rfl⟩;rw[<-t] at s this⊢;have hw:IntKind.i64.wrap ((a:Int)-(q:Int))=(a:Int)-(q:Int):=zi oM oM;simp only[push_cast,g.ld1,true_and,hw];exact this
 ·have r:a<2^(k-1):=by
   have:decide (z=1)=false:=decide_eq_false oM;rw[this] at b;have:=of_decide_eq_false b.symm;omega
  have:=i w1 d;unfold M.sgn at this;rw[if_pos (by rw[j];omega)] at this;simp only[push_cast,f.ld1];exact this
def zN (op x y:Nat):Nat:=if op=4 then x+y-x*y else if op=5 then(x+y)%2 else x*y
theorem zN_ck {op a b i:Nat} (d:3<=op) (g:op<=5) (e:a<16) (f:b<16) (hi:i<4):M.binN op 4 a b/2^(i+1)*2+zN op (a/2^i%2) (b/2^i%2)=M.binN op 4 a b/2^i:=by
 have c:∀o:Fin 6,∀i:Fin 4,3<=o.1->(List.range 16).all (λa=>(List.range 16).all λb=>decide (M.binN o.1 4 a b/2^(i.1+1)*2+zN o.1 (a/2^i.1%2) (b/2^i.1%2)=M.binN o.1 4 a b/2^i.1))=true:=by decide+kernel
 have:=c ⟨op,oM⟩ ⟨i,hi⟩ d;simp only[gU,gH,decide_eq_true_eq] at this;exact this a e b f
theorem zN_16 {op a b:Nat} (d:3<=op) (g:op<=5) (e:a<16) (f:b<16):M.binN op 4 a b<16:=by
 have c:∀o:Fin 6,3<=o.1->(List.range 16).all (λa=>(List.range 16).all λb=>decide (M.binN o.1 4 a b<16))=true:=by decide+kernel
 have:=c ⟨op,oM⟩ d;simp only[gU,gH,decide_eq_true_eq] at this;exact this a e b f
theorem l1Bits_spec {op a b:Nat} (D:3<=op) (E:op<=5) (H:a<16) (I:b<16) (G:K (nI ((M.binN op 4 a b:Nat):Int)) w):vcall WE #[nI (op:Int),nI (a:Int),nI (b:Int)] w K:=by
 refine zf {loops:=[(3,[7,8])]} Tryz.func285 ?_;have k:=zN_16 D E H I;refine vloop_up 4 (λj u w'=>u=[nI ((M.binN op 4 a b/2^(4-j):Nat):Int),nI (3-(j:Int))]/\w'=w) ⟨by rw[show M.binN op 4 a b/2^(4-0)=0 from Nat.div_eq_of_lt k];rfl,rfl⟩ ?_;rintro j _ _ w1 C hj ⟨rfl,rfl⟩ F;obtain⟨f,J⟩:∃f,f=M.binN op 4 a b:=⟨_,rfl⟩;have m:∀i,i<4->f/2^(i+1)*2+zN op (a/2^i%2) (b/2^i%2)=f/2^i:=λi hi=>by rw[J];exact zN_ck D E H I hi
 rw[<-J] at F G k⊢;by_cases U:j<=3
 ·obtain⟨i,hi⟩:∃i,i+j=3:=⟨3-j,oM⟩;have Q:4-j=i+1:=oM;have R:3-(j:Int)=(i:Int):=oM;have S:4-(j+1)=i:=oM;have T:3-((j+1:Nat):Int)=(i:Int)-1:=oM;have g:=F oM;rw[S,T] at g;rw[Q,R];have d:=m i oM;obtain⟨p,n⟩:∃p,p=f/2^(i+1):=⟨_,rfl⟩;obtain⟨q,o⟩:∃q,q=f/2^i:=⟨_,rfl⟩;have W:q<=f:=by rw[o];exact Gx _ _
  have V:p<=f:=by rw[n];exact Gx _ _
  rw[<-n,<-o] at d;rw[<-o] at g;rw[<-n];have ei:IntKind.i64.wrap ((i:Int)-1)=(i:Int)-1:=zi oM oM;simp only[push_cast];refine zb (λc=>?_) (λc=>absurd oM c);refine l1Bit_spec oM oM ?_;refine l1Bit_spec oM oM ?_;have Y:a/2^i%2<2:=pg _ oM;have Z:b/2^i%2<2:=pg _ oM;obtain⟨x,r⟩:∃x,x=a/2^i%2:=⟨_,rfl⟩;obtain⟨y,v⟩:∃y,y=b/2^i%2:=⟨_,rfl⟩;rw[<-r] at Y d⊢;rw[<-v] at Z d⊢;have t:x*y<=1:=by
   have:=P7 (show x<=1 by omega) (show y<=1 by omega);omega
  obtain⟨z,l⟩:∃z,z=x*y:=⟨_,rfl⟩;have A:(x:Int)*(y:Int)=(z:Int):=by rw[l];simp
  have L:z<=x/\z<=y:=by
   rcases(by omega:x=0\/x=1) with h|h<;>rcases(by omega:y=0\/y=1) with B|B<;>subst h<;>subst B<;>simp at l<;>omega
  rw[<-l] at t;unfold zN at d;rw[<-l] at d;simp only[push_cast,A];refine zb (λN=>?_) (λN=>?_)
  ·rw[if_pos oM] at d;rw[zi (x:=z) oM oM,zi (x:=(x:Int)+y) oM oM,zi (x:=(x:Int)+y-z) oM oM,zi (x:=(p:Int)*2) oM oM,zi (x:=(p:Int)*2+((x:Int)+y-z)) oM oM,ei,show(p:Int)*2+((x:Int)+y-z)=(q:Int) by omega];exact g _ _ ⟨rfl,rfl⟩
  rw[if_neg oM] at d;refine zb (λO=>?_) (λO=>?_)
  ·rw[if_pos oM] at d;rw[zi (x:=(x:Int)+y) oM oM,qY oM,show(x:Int)+(y:Int)=((x+y:Nat):Int) by omega,show((x+y:Nat):Int).tmod 2=(((x+y)%2:Nat):Int) from rfl];obtain⟨s,hs⟩:∃s,s=(x+y)%2:=⟨_,rfl⟩;have X:s<2:=oM;rw[<-hs] at d⊢;simp only[push_cast];rw[zi (x:=(p:Int)*2) oM oM,zi (x:=(p:Int)*2+s) oM oM,ei,show(p:Int)*2+(s:Int)=(q:Int) by omega];exact g _ _ ⟨rfl,rfl⟩
  ·rw[if_neg oM] at d;rw[zi (x:=z) oM oM,zi (x:=(p:Int)*2) oM oM,zi (x:=(p:Int)*2+z) oM oM,ei,show(p:Int)*2+(z:Int)=(q:Int) by omega];exact g _ _ ⟨rfl,rfl⟩
 ·have:j=4:=oM;subst this;have e:f/2^(4-4)=f:=Nat.div_one _;rw[e];simp only[push_cast];exact G
end
section
variable {w:World} {K:oK} {F:Nat->Prop}
theorem nat_ck {p:Nat->Nat->Nat->Bool} (h:∀v:Fin 5,(List.range 16).all (λa=>(List.range 16).all λb=> !(decide (1<=v.1)&&decide (a<2^v.1))||p v.1 a b)=true) {k a b:Nat} (d:1<=k) (e:k<=4) (c:a<2^k) (f:b<16):p k a b=true:=by
 have:=h ⟨k,oM⟩;simp only[gU,gH,Ge,gJ,GB,decide_eq_false_iff_not] at this;rcases this a (pow16 e c) b f with(h|h)|h
 ·exact absurd d h
 ·exact absurd c h
 ·exact h
theorem shl_ck {k a b:Nat} (c:1<=k) (d:k<=4) (e:a<2^k) (f:b<16):a*2^min b k%2^k=M.binN 11 k a b:=
 of_decide_eq_true (nat_ck (p:=λk a b=>decide (a*2^min b k%2^k=M.binN 11 k a b)) (by decide+kernel) c d e f)
theorem shr_ck {k a b:Nat} (c:1<=k) (d:k<=4) (e:a<2^k) (f:b<16):a/2^min b k=M.binN 12 k a b:=
 of_decide_eq_true (nat_ck (p:=λk a b=>decide (a/2^min b k=M.binN 12 k a b)) (by decide+kernel) c d e f)
theorem sar_ck {k a b:Nat} (c:1<=k) (d:k<=4) (e:a<2^k) (f:b<16):(if a/2^(k-1)%2=0 then a/2^min b k else 2^k-1-(2^k-1-a)/2^min b k)=M.binN 13 k a b:=
 of_decide_eq_true (nat_ck (p:=λk a b=>decide ((if a/2^(k-1)%2=0 then a/2^min b k else 2^k-1-(2^k-1-a)/2^min b k)=M.binN 13 k a b)) (by decide+kernel) c d e f)
theorem l1Shift_spec {op k a b:Nat} (I:11<=op) (J:op<=13) (u:1<=k) (p:k<=4) (r:a<2^k) (A:b<16) (y:∀w',Ext w w'->K (nI ((M.binN op k a b:Nat):Int)) w'):vcall YK #[nI (op:Int),xS k a,nI (b:Int)] w K:=by
 refine zf {ord:=[oz 4 [0,1,2,5,6,3,4,7,8] [(0,[2,5,6,3]),(1,[2,5,6,3]),(2,[5,6]),(5,[3,4]),(6,[3,4])],oz 6 (oR 6) [(0,[2,3]),(1,[2,3])],oz 8 (oR 6) [(0,[2,3]),(1,[2,3])],oz 10 (oR 10) [(0,[1,2,3,4,5,6,7]),(1,[2,3,5,6]),(2,[5,6]),(3,[5,6]),(4,[5,6])]]} Tryz.func286 ?_;have O:=pow4 u p;have s:=pow16 p r;refine zl λb1 w1 L i Q l=>?_;simp only[push_cast,l.ld0];refine l1Min_spec ?_;obtain⟨n,E⟩:∃n,n=min b k:=⟨_,rfl⟩;have N:n<=k:=oM
 rw[show min (b:Int) (k:Int)=(n:Int) by omega];have j:1<=2^n/\2^n<=16:=⟨PO oM,gG (gK oM (show n<=4 by omega)) dC⟩
 try simp only[push_cast]
 refine zb (λc=>?_) (λc=>?_)
 ·have:op=11:=oM;subst this;have f:=shl_ck u p r A;rw[<-E] at f;refine zd λw2 g _=>?_;have h:=l.ext g;simp only[push_cast,h.ld0,h.ld1,true_and];refine l1Two_nat oM ?_;obtain⟨q,o⟩:∃q,q=2^n:=⟨_,rfl⟩;rw[<-o] at f j⊢;have hm:=mul225 s (show q-1<16 by omega);have t:a*q=a*(q-1)+a:=by rw[<-Nat.mul_succ];congr 1;omega
  obtain⟨x,G⟩:∃x,x=a*q:=⟨_,rfl⟩;have e:IntKind.i64.wrap ((a:Int)*(q:Int))=(x:Int):=by
   rw[show(a:Int)*(q:Int)=(x:Int) by rw[G];simp];exact wrapN oM
  rw[<-G] at f;simp only[push_cast,h.ld0,h.ld1,true_and,and_self,e];refine l1Mod_spec u p oM oM ?_;rw[show(x:Int)%((2^k:Nat):Int)=((x%2^k:Nat):Int) from rfl,f];exact y _ (i.trans g)
 refine zb (λc2=>?_) (λc2=>?_)
 ·have:op=12:=oM;subst this;have f:=shr_ck u p r A;rw[<-E] at f;refine zd λw2 g _=>?_;have h:=l.ext g;simp only[push_cast,h.ld1,true_and];refine l1Two_nat oM ?_;obtain⟨q,o⟩:∃q,q=2^n:=⟨_,rfl⟩;rw[<-o] at f j⊢;have B:=Gx a q;simp only[push_cast,h.ld1,true_and,and_self];rw[jy oM,show(a:Int).tdiv (q:Int)=((a/q:Nat):Int) from rfl,wrapN oM,f];exact⟨rfl,y _ (i.trans g)⟩
 ·have:op=13:=oM;subst this;have f:=sar_ck u p r A;rw[<-E] at f;have H:IntKind.i64.wrap ((k:Int)-1)=((k-1:Nat):Int):=by rw[zi oM oM];omega
  simp only[push_cast,l.ld0,l.ld1,H];refine l1Bit_spec oM oM ?_;obtain⟨z,R⟩:∃z,z=a/2^(k-1)%2:=⟨_,rfl⟩;rw[<-R] at f⊢;simp only[push_cast];refine zb (λc3=>?_) (λc3=>?_)
  ·rw[if_pos oM] at f;refine zd λw2 g _=>?_;have h:=l.ext g;simp only[push_cast,h.ld1,true_and];refine l1Two_nat oM ?_;obtain⟨q,o⟩:∃q,q=2^n:=⟨_,rfl⟩;rw[<-o] at f j⊢;have B:=Gx a q;simp only[push_cast,h.ld1,true_and,and_self];rw[jy oM,show(a:Int).tdiv (q:Int)=((a/q:Nat):Int) from rfl,wrapN oM,f];exact⟨rfl,y _ (i.trans g)⟩
  ·rw[if_neg oM] at f;simp only[push_cast,l.ld0];refine l1Two_nat oM ?_;obtain⟨m,hm⟩:∃m,m=2^k:=⟨_,rfl⟩;rw[<-hm] at f O r⊢;have F:IntKind.i64.wrap ((m:Int)-1)=((m-1:Nat):Int):=by rw[zi oM oM];omega
   have v:IntKind.i64.wrap (((m-1:Nat):Int)-(a:Int))=((m-1-a:Nat):Int):=by rw[zi oM oM];omega
   obtain⟨m1,D⟩:∃m1,m1=m-1:=⟨_,rfl⟩;rw[<-D] at F v f;obtain⟨m2,t⟩:∃m2,m2=m1-a:=⟨_,rfl⟩;rw[<-t] at v f;simp only[push_cast,F];refine zd λw2 g _=>?_;have h:=l.ext g;simp only[push_cast,h.ld1,true_and,v];refine l1Two_nat oM ?_;obtain⟨q,o⟩:∃q,q=2^n:=⟨_,rfl⟩;rw[<-o] at f j⊢;have B:=Gx m2 q;simp only[push_cast,h.ld1,true_and,and_self,v];rw[jy oM,show(m2:Int).tdiv (q:Int)=((m2/q:Nat):Int) from rfl,wrapN oM];refine⟨rfl,?_⟩;obtain⟨d,C⟩:∃d,d=m2/q:=⟨_,rfl⟩;rw[<-C] at f B⊢;simp only[push_cast];rw[zi oM oM,show(m1:Int)-(d:Int)=((m1-d:Nat):Int) by omega,f];exact⟨trivial,y _ (i.trans g)⟩
theorem bin4 {op k a b:Nat} (d:3<=op) (e:op<=5):M.binN op 4 a b=M.binN op k a b:=by
 unfold M.binN;by_cases h:op=3
 ·rw[if_pos h,if_pos h]
 by_cases c:op=4
 ·rw[if_neg h,if_neg h,if_pos c,if_pos c]
 ·rw[if_neg h,if_neg h,if_neg c,if_neg c,if_pos oM,if_pos oM]
theorem l1Bin_spec {k a l b:Nat} {op:Int} (D:1<=k) (y:k<=4) (S:a<2^k) (l4:l<=4) (T:b<2^l) (j:∀w' (r:Int),Ext w w'->3<=op->op<=13->(k=l->r=((M.binN op.toNat k a b:Nat):Int))->K (.tuple #[nI r,.bool true]) w')
  (L:∀w',Ext w w'->¬(3<=op/\op<=13)->K (.tuple #[nI 0,.bool false]) w'):vcall zq0 #[nI op,xS k a,xS l b] w K:=by
 refine zf {cuts:=[(12293,[9])]} Tryz.func261 ?_;have X:=pow4 D y;have n:=pow16 y S;have h:=pow16 l4 T;refine zl λb1 w1 V I Y U=>?_;refine zl λb2 w2 W B Z g2=>?_;have f:=U.ext B;have i:=I.trans B;refine zo (λu w'=>u=[.bool (decide (3<=op/\op<=5))]/\w'=w2) (λC H=>?_) ?_
 ·simp only[push_cast];refine zb (λc=>?_) (λc=>?_)
  ·exact H _ _ ⟨by rw[decide_eq_true (show 3<=op/\op<=5 by omega),decide_eq_true c],rfl⟩
  refine zb (λc2=>?_) (λc2=>?_)
  ·exact H _ _ ⟨by rw[decide_eq_true (show 3<=op/\op<=5 by omega),decide_eq_true c2],rfl⟩
  ·refine H _ _ ⟨?_,rfl⟩;by_cases c3:op=5
   ·rw[decide_eq_true (show 3<=op/\op<=5 by omega),decide_eq_true c3]
   ·rw[decide_eq_false (show¬(3<=op/\op<=5) by omega),decide_eq_false c3]
 ·rintro u g w3 ⟨rfl,rfl⟩;simp only[push_cast];refine zb (λc=>?_) (λc=>?_)
  ·simp only[push_cast,f.ld1,g2.ld1];obtain⟨o,rfl⟩:∃o:Nat,op=o:=⟨op.toNat,oM⟩;refine l1Bits_spec oM oM n h ?_;refine j _ _ i oM oM λe=>?_;rw[gj,bin4 (k:=k) oM oM]
  refine zb (λN=>?_) (λN=>?_)
  ·subst N;simp only[push_cast,f.ld0,f.ld1,g2.ld1];rw[zi (x:=(a:Int)+b) oM oM];refine l1Mod_spec D y oM oM ?_;refine j _ _ i oM oM λe=>?_;show _=(((a+b)%2^k:Nat):Int);rw[show(a:Int)+(b:Int)=((a+b:Nat):Int) by omega];rfl
  refine zb (λO=>?_) (λO=>?_)
  ·subst O;simp only[push_cast,f.ld0,f.ld1,g2.ld1];rw[zi (x:=(a:Int)-b) oM oM];refine l1Mod_spec D y oM oM ?_;refine j _ _ i oM oM λe=>?_;subst e;show _=(((a+2^k-b)%2^k:Nat):Int);rcases(by omega:k=1\/k=2\/k=3\/k=4) with rfl|rfl|rfl|rfl<;>simp at T⊢ <;>omega
  refine zb (λQ=>?_) (λQ=>?_)
  ·subst Q;have hm:=mul225 n h;simp only[push_cast,f.ld0,f.ld1,g2.ld1];rw[show(a:Int)*(b:Int)=((a*b:Nat):Int) by simp,wrapN oM];refine l1Mod_spec D y oM oM ?_;exact j _ _ i oM oM λe=>rfl
  refine zb (λR=>?_) (λR=>?_)
  ·subst R;simp only[push_cast,g2.ld1];refine zb (λd=>?_) (λd=>?_)
   ·have s:b=0:=oM;subst s;simp only[push_cast,f.ld0];refine l1Two_nat oM ?_;obtain⟨m,hm⟩:∃m,m=2^k:=⟨_,rfl⟩;rw[<-hm] at X⊢;simp only[push_cast];rw[zi oM oM];refine j _ _ i oM oM λe=>?_;have:M.binN (9:Int).toNat k a 0=2^k-1:=(by simp[M.binN]);rw[this,<-hm];omega
   ·simp only[push_cast,f.ld1,g2.ld1];have hd:=Gx a b;rw[jy oM,show(a:Int).tdiv (b:Int)=((a/b:Nat):Int) from rfl,wrapN oM];refine j _ _ i oM oM λe=>?_;have:M.binN (9:Int).toNat k a b=a/b:=(by simp[M.binN,show b≠0 by omega]);rw[this]
  refine zb (λz=>?_) (λz=>?_)
  ·subst z;simp only[push_cast,g2.ld1];refine zb (λd=>?_) (λd=>?_)
   ·have s:b=0:=oM;subst s;simp only[push_cast,f.ld1];refine j _ _ i oM oM λe=>?_;have:M.binN (10:Int).toNat k a 0=a:=(by simp[M.binN]);rw[this]
   ·simp only[push_cast,f.ld1,g2.ld1];rw[qY oM,show(a:Int).tmod (b:Int)=((a%b:Nat):Int) from rfl];refine j _ _ i oM oM λe=>?_;have:M.binN (10:Int).toNat k a b=a%b:=(by simp[M.binN,show b≠0 by omega]);rw[this]
  have v:∀o:Nat,11<=o->o<=13->op=o->zt zg (oP b1 0) w3 λt80 E=>zt y0 (oP b2 1) E λt82 F=>vcall YK #[nI op,t80,t82] F λt83 G=>K (.tuple #[t83,.bool true]) G:=by
   intro o o1 o2 e;subst e;simp only[push_cast,f.ldAgg (t:=zg) zr,g2.ld1];refine l1Shift_spec o1 o2 D y S h λw4 J=>?_;exact j _ _ (i.trans J) oM oM λe=>rfl
  refine zb (λp=>?_) (λp=>?_)
  ·simp only[decide_eq_true p,ZW0];exact v 11 oM oM p
  refine zb (λq=>?_) (λq=>?_)
  ·simp only[decide_eq_true q,ZW0];exact v 12 oM oM q
  refine zb (λA=>?_) (λA=>?_)
  ·exact v 13 oM oM A
  ·exact L _ i oM
theorem spec_VecUn_spec {op wd n:Int} (l:∀w',Ext w w'->K (.tuple #[xS (M.vecUn op wd n).1.1 (M.vecUn op wd n).1.2,.bool (M.vecUn op wd n).2]) w'):vcall zr0 #[nI op,xS wd n] w K:=by
 refine zf {ord:=[oz 5 [0,1,2,3,6,7,4,5,8,9,10,11] [(0,[2,3,6,7,4,5,8]),(1,[2,3,6,7,4,5,8]),(2,[6,7]),(3,[6,7]),(6,[4,5]),(7,[4,5])],oz 7 (oR 11) [(0,[2,3,4,5,6,7]),(1,[2,3,4,5,6,7]),(2,[5,6]),(3,[5,6]),(4,[5,6])]]} Tryz.func209 ?_;refine zl λb1 w1 H o L E=>?_;refine zj zW λb2 w2 I p N g2=>?_;have u:=E.ext p;simp only[push_cast,u.ldAgg (t:=zg) zr];refine spec_VecOk_spec λQ f=>?_;have v:=u.ext f;have g3:=g2.ext f;have F:=(o.trans p).trans f;have c:∀d r,Ext Q d->Same (· =b2) d r->Ext w r:=λd r h D=>Ext.then (F.trans h) D λy O=>by subst O;have:=o.size;omega
 simp only[push_cast];unfold M.vecUn at l;refine zn (λg=>?_) (λg=>?_)
 ·refine stVec g3 λd i _ g4=>?_;rw[g4.lv rK];have:=l d (c _ _ (Same.refl _ _) i);rwa[if_neg (by simp at g;simp[g])] at this
 ·rw[gZ] at g;obtain⟨k,a,rfl,rfl,x,z,G⟩:=M.vok_nat g;have J:=pow4 x z;refine zb (λq=>?_) (λq=>?_)
  ·subst q;refine zd λd b _=>?_;have e:=v.ext b;simp only[push_cast,e.ld0,e.ld1,true_and];refine l1Two_nat oM ?_;have hu:M.unM 1 (k:Int) (a:Int)=((2^k:Nat):Int)-1-a:=(by simp[M.unM]);obtain⟨m,hm⟩:∃m,m=2^k:=⟨_,rfl⟩;rw[<-hm] at J hu G⊢;have B:IntKind.i64.wrap ((m:Int)-1)=(m:Int)-1:=zi oM oM;have C:IntKind.i64.wrap ((m:Int)-1-(a:Int))=(m:Int)-1-a:=zi oM oM;simp only[push_cast,e.ld0,e.ld1,true_and,and_self,B,C];refine stVec (g3.ext b) λs j _ g7=>?_;rw[g7.lv rK];have:=l s (c _ _ b j);rw[if_pos ⟨g,.inl rfl⟩,hu] at this;exact this
  refine zb (λa2=>?_) (λa2=>?_)
  ·subst a2;refine zd λd b _=>?_;have e:=v.ext b;have A:IntKind.i64.wrap (0-(a:Int))=0-(a:Int):=zi oM oM;simp only[push_cast,e.ld0,e.ld1,true_and,A];refine l1Mod_spec x z oM oM ?_;have hu:M.unM 2 (k:Int) (a:Int)=(0-(a:Int))%((2^k:Nat):Int):=by
    unfold M.unM;rw[if_neg oM,gj];rcases(by omega:k=1\/k=2\/k=3\/k=4) with rfl|rfl|rfl|rfl<;>simp<;>omega
   obtain⟨m,hm⟩:∃m:Int,m=(0-(a:Int))%((2^k:Nat):Int):=⟨_,rfl⟩;rw[<-hm] at hu⊢;simp only[push_cast,e.ld0,true_and,and_self];refine stVec (g3.ext b) λs j _ g7=>?_;rw[g7.lv rK];have:=l s (c _ _ b j);rw[if_pos ⟨g,.inr rfl⟩,hu] at this;exact this
  ·refine stVec g3 λd i _ g4=>?_;rw[g4.lv rK];have:=l d (c _ _ (Same.refl _ _) i);rwa[if_neg (λh=>h.2.elim q a2)] at this
theorem spec_VecBin_spec {op wd n v m:Int} (z:∀w',Ext w w'->K (.tuple #[xS (M.vecBin op wd n v m).1.1 (M.vecBin op wd n v m).1.2,.bool (M.vecBin op wd n v m).2]) w'):vcall WH #[nI op,xS wd n,xS v m] w K:=by
 refine zf {ord:=[oz 6 [0,1,2,3,4,5,6,7,8,11,12,9,10,13,14,15,16] [(0,[2,3,5,6,7,8,11,12,9,10,13]),(1,[2,3,5,6,7,8,11,12,9,10,13]),(2,[5,6,7,8,11,12,9,10,13]),(3,[5,6,7,8,11,12,9,10,13]),(4,[5,6,7,8,11,12,9,10,13]),(5,[7,8,11,12,9]),(6,[7,8,11,12,9]),(7,[11,12]),(8,[11,12]),(11,[9,10]),(12,[9,10])]],cuts:=[(8195,[])]} Tryz.func211 ?_;refine zl λb1 w1 a3 F a6 h1=>?_;refine zl λb2 w2 a4 A a7 g2=>?_;refine zj zW λb3 V a5 B a8 r3=>?_;have hE:=(F.trans A).trans B;have a9:=F.size;have aa:=A.size;have X:=(h1.ext A).ext B;have g3:=g2.ext B;have j:∀o p,Ext V o->Same (· =b3) o p->Ext w p:=λo p h h'=>Ext.then (hE.trans h) h' λy hy=>by subst hy;omega
 have f:(M.vecBin op wd n v m)=((0,0),false)->∀o,Ext V o->zT zg (oP b3 0) (xS 0 0) o λ_ p=>vlv zg (oP b3 0) p λr w6=>K (.tuple #[r,.bool false]) w6:=by
  intro e o c;refine stVec (r3.ext c) λp S _ r5=>?_;rw[r5.lv rK];have:=z p (j _ _ c S);rwa[e] at this
 refine zo (λu o=>u=[]/\Ext V o/\M.vok wd n=true/\M.vok v m=true) (λC hC=>?_) ?_
 ·simp only[push_cast,X.ldAgg (t:=zg) zr];refine spec_VecOk_spec λo c=>?_;have g4:=g3.ext c;simp only[push_cast];refine zn (λI=>f ?_ _ c) (λI=>?_)
  ·unfold M.vecBin;rw[if_neg (by simp at I;simp[I])]
  ·simp only[push_cast,g4.ldAgg (t:=zg) zr];refine spec_VecOk_spec λp d=>?_;simp only[push_cast];refine zn (λi=>f ?_ _ (c.trans d)) (λi=>?_)
   ·unfold M.vecBin;rw[if_neg (by simp at i;simp[i])]
   ·exact hC _ _ ⟨rfl,c.trans d,by simpa using I,by simpa using i⟩
 ·rintro u g o ⟨rfl,c,G,i⟩;have H:=X.ext c;have g4:=g3.ext c;have r4:=r3.ext c;obtain⟨k,a,rfl,rfl,k1,k4,Y⟩:=M.vok_nat G;obtain⟨l,b,rfl,rfl,l1,T,Z⟩:=M.vok_nat i;have E:=pow16 k4 Y;have a0:=pow16 T Z;unfold M.vecBin at z f;rw[if_pos ⟨G,i⟩] at z f;simp only[push_cast];refine zb (λJ=>?_) (λJ=>?_)
  ·rw[if_pos J] at z f;have N:IntKind.i64.wrap ((k:Int)+(l:Int))=(k:Int)+(l:Int):=zi oM oM;simp only[push_cast,H.ld0,g4.ld0,N];refine zb (λa2=>f (if_neg oM) _ c) (λa2=>?_);refine zd λp d _=>?_;have x:=H.ext d;have g5:=g4.ext d;simp only[push_cast,x.ld0,x.ld1,g5.ld0,g5.ld1,true_and,N];refine l1Two_nat oM ?_;have Q:=pow4 l1 T;have s:M.catM (l:Int) (a:Int) (b:Int)=(a:Int)*((2^l:Nat):Int)+b:=(by simp[M.catM]);have hm:=mul225 E (show 2^l-1<16 by omega);have R:a*2^l=a*(2^l-1)+a:=by rw[<-Nat.mul_succ];congr 1;omega
   obtain⟨q,hq⟩:∃q,q=2^l:=⟨_,rfl⟩;rw[<-hq] at s hm R Q⊢;have hz:(a:Int)*(q:Int)=((a*q:Nat):Int):=(by simp);have e2:IntKind.i64.wrap ((a:Int)*(q:Int))=(a:Int)*(q:Int):=zi oM oM;have e3:IntKind.i64.wrap ((a:Int)*(q:Int)+(b:Int))=(a:Int)*(q:Int)+b:=zi oM oM;simp only[push_cast,x.ld0,x.ld1,g5.ld0,g5.ld1,true_and,N,e2,e3,and_self];refine stVec (r4.ext d) λW D _ U=>?_;rw[U.lv rK];have:=z W (j _ _ (c.trans d) D);rw[if_pos oM,s] at this;exact this
  ·rw[if_neg J] at z f;simp only[push_cast,H.ldAgg (t:=zg) zr,g4.ldAgg (t:=zg) zr];refine l1Bin_spec k1 k4 Y T Z (λp r d c3 L hr=>?_) λp d hn=>?_
   ·have x:=H.ext d;have g5:=g4.ext d;simp only[push_cast,x.ld0,g5.ld0,GO];refine zb (λa2=>f (if_neg oM) _ (c.trans d)) (λa2=>?_);have O:k=l:=oM;subst O
    try simp only[push_cast,x.ld0]
    refine stVec (r4.ext d) λW D _ U=>?_;rw[U.lv rK];have:=z W (j _ _ (c.trans d) D);rw[if_pos ⟨c3,L,rfl⟩] at this;rw[hr rfl];exact this
   ·simp only[push_cast,PE];exact f (if_neg (λh=>hn ⟨h.1,h.2.1⟩)) _ (c.trans d)
theorem spec_VecCmp_spec {op wd n v m:Int} (q:∀w',Ext w w'->K (.tuple #[.bool (M.vecCmp op wd n v m).1,.bool (M.vecCmp op wd n v m).2]) w'):vcall WG #[nI op,xS wd n,xS v m] w K:=by
 refine zf {ord:=[oz 9 [0,2,1,3,4,5,6] [(0,[2]),(2,[1])]],cuts:=[(8195,[])]} Tryz.func210 ?_;refine zl λb1 w1 O D R I=>?_;refine zl λb2 w2 Q r S g2=>?_;have x:=D.trans r;have z:=I.ext r;have i:(M.vecCmp op wd n v m)=(false,false)->∀j,Ext w2 j->K (.tuple #[.bool false,.bool false]) j:=by
  intro e j c;have:=q j (x.trans c);rwa[e] at this
 refine zo (λu j=>u=[]/\Ext w2 j/\M.vok wd n=true/\M.vok v m=true/\wd=v) (λC J=>?_) ?_
 ·simp only[push_cast,z.ldAgg (t:=zg) zr];refine spec_VecOk_spec λj c=>?_;have g4:=g2.ext c;simp only[push_cast];refine zn (λy=>i ?_ _ c) (λy=>?_)
  ·unfold M.vecCmp;rw[if_neg (by simp at y;simp[y])]
  ·simp only[push_cast,g4.ldAgg (t:=zg) zr];refine spec_VecOk_spec λT d=>?_;have g5:=g4.ext d;have B:=(z.ext c).ext d;simp only[push_cast];refine zn (λf=>i ?_ _ (c.trans d)) (λf=>?_)
   ·unfold M.vecCmp;rw[if_neg (by simp at f;simp[f])]
   ·simp only[push_cast,B.ld0,g5.ld0];refine zb (λp=>i ?_ _ (c.trans d)) (λp=>?_)
    ·unfold M.vecCmp;rw[if_neg (λh=>p h.2.2.1)]
    ·exact J _ _ ⟨rfl,c.trans d,by simpa using y,by simpa using f,oM⟩
 ·rintro u g j ⟨rfl,c,o,f,rfl⟩;have A:=z.ext c;have g4:=g2.ext c;unfold M.vecCmp at q i;simp only[push_cast];refine zb (λp=>?_) (λp=>?_)
  ·subst p;simp only[push_cast,A.ld1,g4.ld1];have:=q j (x.trans c);rw[if_pos ⟨o,f,rfl,oM,oM⟩] at this;exact this
  refine zb (λa2=>?_) (λa2=>?_)
  ·subst a2;simp only[push_cast,A.ld1,g4.ld1];have:=q j (x.trans c);rw[if_pos ⟨o,f,rfl,oM,oM⟩] at this;exact this
  refine zb (λa3=>?_) (λa3=>?_)
  ·subst a3;obtain⟨k,a,rfl,rfl,G,H,L⟩:=M.vok_nat o;obtain⟨l,b,V,rfl,W,X,N⟩:=M.vok_nat f;have F:l=k:=oM;subst F;refine zd λT d _=>?_;have B:=A.ext d;have g5:=g4.ext d;simp only[push_cast,B.ldAgg (t:=zg) zr,g5.ldAgg (t:=zg) zr,true_and];refine l1Signed_spec G H L λY s=>?_;have g6:=g5.ext s;simp only[push_cast,g6.ldAgg (t:=zg) zr,true_and,and_self];refine l1Signed_spec G H N λU E=>?_;simp only[push_cast,true_and];have:=q U (((x.trans c).trans d).trans (s.trans E));rw[if_pos ⟨o,f,rfl,oM,oM⟩] at this;exact this
  ·exact i (by rw[if_neg (λh=>oM)]) _ c
theorem spec_VecCut_spec {wd n hi lo:Int} (i:∀w',Ext w w'->K (.tuple #[xS (M.vecCut wd n hi lo).1.1 (M.vecCut wd n hi lo).1.2,.bool (M.vecCut wd n hi lo).2]) w'):vcall WF #[xS wd n,nI hi,nI lo] w K:=by
 refine zf {ord:=[oz 4 [0,1,2,3,6,4,5,7,8,9,10,11] [(0,[1,2,3,6,4,5,7,8]),(1,[3,6,4,7]),(2,[3,6,4,7]),(3,[6]),(6,[4,5]),(5,[7])]],cuts:=[(8195,[])]} Tryz.func208 ?_;refine zl λb1 w1 a0 v a5 X=>?_;refine zj zW λb3 O a4 A a6 T=>?_;have Z:=v.trans A;have a7:=v.size;have D:=X.ext A;have j:∀f m,Ext O f->Same (· =b3) f m->Ext w m:=λf m h W=>Ext.then (Z.trans h) W λy hy=>by subst hy;omega
 have c:(M.vecCut wd n hi lo)=((0,0),false)->∀f,Ext O f->zT zg (oP b3 0) (xS 0 0) f λ_ m=>vlv zg (oP b3 0) m λr Q=>K (.tuple #[r,.bool false]) Q:=by
  intro e f b;refine stVec (T.ext b) λm L _ r5=>?_;rw[r5.lv rK];have:=i m (j _ _ b L);rwa[e] at this
 unfold M.vecCut at i c;refine zo (λu f=>u=[]/\Ext O f/\M.vok wd n=true/\0<=lo/\lo<=hi/\hi<wd) (λC Y=>?_) ?_
 ·simp only[push_cast,D.ldAgg (t:=zg) zr];refine spec_VecOk_spec λf b=>?_;have E:=D.ext b;simp only[push_cast];refine zn (λp=>c ?_ _ b) (λp=>?_)
  ·rw[if_neg (by simp at p;simp[p])]
  refine zb (λU=>c (if_neg oM) _ b) (λU=>?_);refine zb (λa2=>c (if_neg oM) _ b) (λa2=>?_);simp only[push_cast,E.ld0];refine zb (λa3=>c (if_neg oM) _ b) (λa3=>?_);exact Y _ _ ⟨rfl,b,by simpa using p,oM,oM,oM⟩
 ·rintro u g f ⟨rfl,b,p,c1,c2,c3⟩;have E:=D.ext b;have r4:=T.ext b;obtain⟨k,a,rfl,rfl,k1,k4,ha⟩:=M.vok_nat p;obtain⟨l,rfl⟩:∃l:Nat,lo=l:=⟨lo.toNat,oM⟩;obtain⟨t,S⟩:∃t:Nat,hi-(l:Int)+1=t:=⟨(hi-l+1).toNat,oM⟩;have R:=pow16 k4 ha;have V:IntKind.i64.wrap (IntKind.i64.wrap (hi-(l:Int))+1)=(t:Int):=by rw[zi (x:=hi-l) oM oM,zi oM oM];omega
  simp only[push_cast,V];refine zd λm o _=>?_;have F:=E.ext o;simp only[push_cast,F.ld1,true_and];refine l1Two_nat oM ?_;have B:M.cutM (a:Int) hi (l:Int)=((a/2^l%2^t:Nat):Int):=by
   unfold M.cutM;rw[S];simp
  rw[if_pos ⟨p,c1,c2,c3⟩] at i;simp only[B,S] at i;have H:0<2^l:=PO oM;have I:0<2^t:=PO oM;obtain⟨q,hq⟩:∃q,q=2^l:=⟨_,rfl⟩;rw[<-hq] at H i⊢;have hd:=Gx a q;have eQ:∀(w:World) (K:oK),qq .quo y0 false (nI (a:Int)) (nI (q:Int)) w K=K (nI ((a/q:Nat):Int)) w:=λw K=>by
   rw[jy oM,show(a:Int).tdiv (q:Int)=((a/q:Nat):Int) from rfl,wrapN oM]
  obtain⟨d,G⟩:∃d,d=a/q:=⟨_,rfl⟩;rw[<-G] at eQ hd i;simp only[push_cast,F.ld1,true_and,and_self,eQ];refine l1Two_nat oM ?_;obtain⟨s,J⟩:∃s,s=2^t:=⟨_,rfl⟩;rw[<-J] at I i⊢;have eR:∀(w:World) (K:oK),qq .rem y0 false (nI (d:Int)) (nI (s:Int)) w K=K (nI ((d%s:Nat):Int)) w:=λw K=>by
   rw[qY oM,show(d:Int).tmod (s:Int)=((d%s:Nat):Int) from rfl]
  obtain⟨z,hz⟩:∃z,z=d%s:=⟨_,rfl⟩;rw[<-hz] at i eR;simp only[push_cast,F.ld1,true_and,and_self,eQ,eR];refine stVec (r4.ext o) λQ N _ r6=>?_;rw[r6.lv rK];exact i Q (j _ _ (b.trans o) N)
end
section
variable {w:World} {K:oK} {F G:Nat->Prop}
theorem unKind_value_spec {s:ByteArray} {n:Int} {ev tv kv:Value} {t:M.Tm} {xs:List (Int×Int)} (R:TermR F w tv t) (S:PairsR G w kv xs) (Z:xs.length=1)
  (I:∀w',Ext w w'->K (nI (M.vecUn t.op (xs.getD 0 (0,0)).1 (xs.getD 0 (0,0)).2).1.2) w'):vcall jP #[KV s n,ev,tv,kv] w K:=by
 refine zf {cuts:=[(8194,[9])],trees:=[(1,(.st 0 (.st 1 (.st 2 (.st 3 (.st 4 (.alt 5 (.st 6 (.st 7 (.st 8 (.alt 9 (.alt 10 (.st 11 .nil) .no) .no)))) (.alt 9 (.alt 5 (.st 6 (.st 7 (.st 8 (.alt 10 (.st 11 .nil) .no)))) .no) .no))))))),[(0,[1,5,6,7,8,10,11]),(1,[5,6,7,8,10,11]),(2,[3,4,5,6,7,8,10,11]),(3,[4,5,6,7,8,10,11]),(4,[5,6,7,8,10,11]),(5,[6,7,8,10,11]),(6,[7,8,10,11]),(7,[10,11]),(8,[11]),(9,[10,11]),(10,[11])])]} Tryz.func357 ?_;obtain⟨ksv,rfl,N⟩:=R;refine zl λb1 w1 J m O Y=>?_;refine zl λb2 w2 L o Q B=>?_;have z:=m.trans o;have hz:=z.size;refine zo (λu w'=> ∃b wd,u=[oP b 0]/\Ext w w'/\Blk w' b [nI wd,nI (M.vecUn t.op (xs.getD 0 (0,0)).1 (xs.getD 0 (0,0)).2).1.2] zg) (λC x=>?_) ?_
 ·refine zd λV d _=>?_;have c:=z.trans d;have e:=S.ext c;have j:=B.ext d;have T:=c.size;simp(disch:=first|omega|simp only[push_cast]) only[push_cast,j.ld0,e.iaddr,e.load,true_and,and_true];refine⟨?_,?_⟩
  ·refine VecUn_spec λw4 f=>?_;have U:=f.size;simp only[push_cast,true_and];refine zj zW λA W l a p k=>?_
   try simp only[push_cast,true_and,and_self]
   refine stVec k λX q _ E=>?_
   try simp only[push_cast,true_and,and_self]
   exact x _ _ ⟨_,_,rfl,Ext.then ((c.trans f).trans a) q λy v=>by subst v;omega,E⟩
  ·refine zj zW λA W l a p k=>?_;have D:=j.ext a;have i:=e.ext a;simp(disch:=first|omega|simp only[push_cast]) only[push_cast,D.ld0,i.iaddr,i.load,true_and,and_self,and_true];refine VecUn_spec λX h=>?_;simp only[push_cast,true_and];refine stVec (k.ext h) λw7 r _ H=>?_
   try simp only[push_cast,true_and,and_self]
   exact x _ _ ⟨_,_,rfl,Ext.then ((c.trans a).trans h) r λy v=>by subst v;omega,H⟩
 ·rintro u g V ⟨b,wd,rfl,d,j⟩;simp only[push_cast,j.ld1];exact I _ d
theorem binKind_value_spec {s:ByteArray} {n:Int} {ev tv kv:Value} {t:M.Tm} {xs:List (Int×Int)} (R:TermR F w tv t) (S:PairsR G w kv xs) (Z:xs.length=2)
  (I:∀w',Ext w w'->K (nI (M.vecBin t.op (xs.getD 0 (0,0)).1 (xs.getD 0 (0,0)).2 (xs.getD 1 (0,0)).1 (xs.getD 1 (0,0)).2).1.2) w'):vcall jx #[KV s n,ev,tv,kv] w K:=by
 refine zf {cuts:=[(8194,[9])],trees:=[(1,(.st 0 (.st 1 (.st 2 (.st 3 (.st 4 (.st 5 (.st 6 (.st 7 (.alt 8 (.st 9 (.st 10 (.st 11 (.alt 12 (.alt 13 (.st 14 .nil) .no) .no)))) (.alt 12 (.alt 8 (.st 9 (.st 10 (.st 11 (.alt 13 (.st 14 .nil) .no)))) .no) .no)))))))))),[(0,[1,8,9,10,11,13,14]),(1,[8,9,10,11,13,14]),(2,[3,4,8,9,10,11,13,14]),(3,[4,8,9,10,11,13,14]),(4,[8,9,10,11,13,14]),(5,[6,7,8,9,10,11,13,14]),(6,[7,8,9,10,11,13,14]),(7,[8,9,10,11,13,14]),(8,[9,10,11,13,14]),(9,[10,11,13,14]),(10,[13,14]),(11,[14]),(12,[13,14]),(13,[14])])]} Tryz.func396 ?_;obtain⟨ksv,rfl,N⟩:=R;refine zl λb1 w1 J m O Y=>?_;refine zl λb2 w2 L o Q B=>?_;have z:=m.trans o;have hz:=z.size;refine zo (λu w'=> ∃b wd,u=[oP b 0]/\Ext w w'/\Blk w' b [nI wd,nI (M.vecBin t.op (xs.getD 0 (0,0)).1 (xs.getD 0 (0,0)).2 (xs.getD 1 (0,0)).1 (xs.getD 1 (0,0)).2).1.2] zg) (λC x=>?_) ?_
 ·refine zd λV d _=>?_;have c:=z.trans d;have e:=S.ext c;have j:=B.ext d;have T:=c.size;simp(disch:=first|omega|simp only[push_cast]) only[push_cast,j.ld0,e.iaddr,e.load,true_and,and_true];refine⟨?_,?_⟩
  ·refine VecBin_spec λw4 f=>?_;have U:=f.size;simp only[push_cast,true_and];refine zj zW λA W l a p k=>?_
   try simp only[push_cast,true_and,and_self]
   refine stVec k λX q _ E=>?_
   try simp only[push_cast,true_and,and_self]
   exact x _ _ ⟨_,_,rfl,Ext.then ((c.trans f).trans a) q λy v=>by subst v;omega,E⟩
  ·refine zj zW λA W l a p k=>?_;have D:=j.ext a;have i:=e.ext a;simp(disch:=first|omega|simp only[push_cast]) only[push_cast,D.ld0,i.iaddr,i.load,true_and,and_self,and_true];refine VecBin_spec λX h=>?_;simp only[push_cast,true_and];refine stVec (k.ext h) λw7 r _ H=>?_
   try simp only[push_cast,true_and,and_self]
   exact x _ _ ⟨_,_,rfl,Ext.then ((c.trans a).trans h) r λy v=>by subst v;omega,H⟩
 ·rintro u g V ⟨b,wd,rfl,d,j⟩;simp only[push_cast,j.ld1];exact I _ d
theorem catKind_value_spec {s:ByteArray} {n:Int} {ev tv kv:Value} {t:M.Tm} {xs:List (Int×Int)} (R:TermR F w tv t) (S:PairsR G w kv xs) (Z:xs.length=2)
  (I:∀w',Ext w w'->K (nI (M.vecBin t.op (xs.getD 0 (0,0)).1 (xs.getD 0 (0,0)).2 (xs.getD 1 (0,0)).1 (xs.getD 1 (0,0)).2).1.2) w'):vcall jv #[KV s n,ev,tv,kv] w K:=by
 refine zf {cuts:=[(8194,[9])],trees:=[(1,(.st 0 (.st 1 (.st 2 (.st 3 (.st 4 (.st 5 (.st 6 (.st 7 (.alt 8 (.st 9 (.st 10 (.st 11 (.alt 12 (.alt 13 (.st 14 .nil) .no) .no)))) (.alt 12 (.alt 8 (.st 9 (.st 10 (.st 11 (.alt 13 (.st 14 .nil) .no)))) .no) .no)))))))))),[(0,[1,8,9,10,11,13,14]),(1,[8,9,10,11,13,14]),(2,[3,4,8,9,10,11,13,14]),(3,[4,8,9,10,11,13,14]),(4,[8,9,10,11,13,14]),(5,[6,7,8,9,10,11,13,14]),(6,[7,8,9,10,11,13,14]),(7,[8,9,10,11,13,14]),(8,[9,10,11,13,14]),(9,[10,11,13,14]),(10,[13,14]),(11,[14]),(12,[13,14]),(13,[14])])]} Tryz.func363 ?_;obtain⟨ksv,rfl,N⟩:=R;refine zl λb1 w1 J m O Y=>?_;refine zl λb2 w2 L o Q B=>?_;have z:=m.trans o;have hz:=z.size;refine zo (λu w'=> ∃b wd,u=[oP b 0]/\Ext w w'/\Blk w' b [nI wd,nI (M.vecBin t.op (xs.getD 0 (0,0)).1 (xs.getD 0 (0,0)).2 (xs.getD 1 (0,0)).1 (xs.getD 1 (0,0)).2).1.2] zg) (λC x=>?_) ?_
 ·refine zd λV d _=>?_;have c:=z.trans d;have e:=S.ext c;have j:=B.ext d;have T:=c.size;simp(disch:=first|omega|simp only[push_cast]) only[push_cast,j.ld0,e.iaddr,e.load,true_and,and_true];refine⟨?_,?_⟩
  ·refine VecBin_spec λw4 f=>?_;have U:=f.size;simp only[push_cast,true_and];refine zj zW λA W l a p k=>?_
   try simp only[push_cast,true_and,and_self]
   refine stVec k λX q _ E=>?_
   try simp only[push_cast,true_and,and_self]
   exact x _ _ ⟨_,_,rfl,Ext.then ((c.trans f).trans a) q λy v=>by subst v;omega,E⟩
  ·refine zj zW λA W l a p k=>?_;have D:=j.ext a;have i:=e.ext a;simp(disch:=first|omega|simp only[push_cast]) only[push_cast,D.ld0,i.iaddr,i.load,true_and,and_self,and_true];refine VecBin_spec λX h=>?_;simp only[push_cast,true_and];refine stVec (k.ext h) λw7 r _ H=>?_
   try simp only[push_cast,true_and,and_self]
   exact x _ _ ⟨_,_,rfl,Ext.then ((c.trans a).trans h) r λy v=>by subst v;omega,H⟩
 ·rintro u g V ⟨b,wd,rfl,d,j⟩;simp only[push_cast,j.ld1];exact I _ d
theorem cutKind_value_spec {s:ByteArray} {n:Int} {ev tv kv:Value} {t:M.Tm} {xs:List (Int×Int)} (S:TermR F w tv t) (T:PairsR G w kv xs) (hl:xs.length=1)
  (J:∀w',Ext w w'->K (nI (M.vecCut (xs.getD 0 (0,0)).1 (xs.getD 0 (0,0)).2 t.a t.b).1.2) w'):vcall jt #[KV s n,ev,tv,kv] w K:=by
 refine zf {cuts:=[(8194,[9])],trees:=[(1,(.st 0 (.st 1 (.st 2 (.st 3 (.st 4 (.st 5 (.st 6 (.alt 7 (.st 8 (.st 9 (.st 10 (.alt 11 (.alt 12 (.st 13 .nil) .no) .no)))) (.alt 11 (.alt 7 (.st 8 (.st 9 (.st 10 (.alt 12 (.st 13 .nil) .no)))) .no) .no))))))))),[(0,[1,2,7,8,9,10,12,13]),(1,[2,7,8,9,10,12,13]),(2,[7,8,9,10,12,13]),(3,[4,7,8,9,10,12,13]),(4,[7,8,9,10,12,13]),(5,[6,7,8,9,10,12,13]),(6,[7,8,9,10,12,13]),(7,[8,9,10,12,13]),(8,[9,10,12,13]),(9,[12,13]),(10,[13]),(11,[12,13]),(12,[13])])]} Tryz.func388 ?_;obtain⟨ksv,rfl,O⟩:=S;refine zl λb1 w1 L o Q Z=>?_;refine zl λb2 w2 N p R E=>?_;have B:=o.trans p;have hz:=B.size;refine zo (λu w'=> ∃b wd,u=[oP b 0]/\Ext w w'/\Blk w' b [nI wd,nI (M.vecCut (xs.getD 0 (0,0)).1 (xs.getD 0 (0,0)).2 t.a t.b).1.2] zg) (λC A=>?_) ?_
 ·refine zd λW e _=>?_;have d:=B.trans e;have f:=T.ext d;have h:=E.ext e;have U:=d.size;simp(disch:=first|omega|simp only[push_cast]) only[push_cast,h.ld1,h.ld2,f.iaddr,f.load,true_and,and_true];refine⟨?_,?_⟩
  ·refine VecCut_spec λw4 i=>?_;have V:=i.size;simp only[push_cast,true_and];refine zj zW λD X m c q l=>?_
   try simp only[push_cast,true_and,and_self]
   refine stVec l λY r _ H=>?_
   try simp only[push_cast,true_and,and_self]
   exact A _ _ ⟨_,_,rfl,Ext.then ((d.trans i).trans c) r λy x=>by subst x;omega,H⟩
  ·refine zj zW λD X m c q l=>?_;have z:=h.ext c;have k:=f.ext c;simp(disch:=first|omega|simp only[push_cast]) only[push_cast,z.ld1,z.ld2,k.iaddr,k.load,true_and,and_self,and_true];refine VecCut_spec λY j=>?_;simp only[push_cast,true_and];refine stVec (l.ext j) λw7 v _ I=>?_
   try simp only[push_cast,true_and,and_self]
   exact A _ _ ⟨_,_,rfl,Ext.then ((d.trans c).trans j) v λy x=>by subst x;omega,I⟩
 ·rintro u g W ⟨b,wd,rfl,e,h⟩;simp only[push_cast,h.ld1];exact J _ e
theorem cmpKind_value_spec {s:ByteArray} {n:Int} {ev tv kv:Value} {t:M.Tm} {xs:List (Int×Int)} (p:TermR F w tv t) (q:PairsR G w kv xs) (u:xs.length=2)
  (i:∀w',Ext w w'->K (nI (M.b2i (M.vecCmp t.op (xs.getD 0 (0,0)).1 (xs.getD 0 (0,0)).2 (xs.getD 1 (0,0)).1 (xs.getD 1 (0,0)).2).1)) w'):vcall ju #[KV s n,ev,tv,kv] w K:=by
 refine zf {ord:=[oz 1 (oR 14) [(0,[2,3,4,5,6,7]),(1,[2,3,4,5,6,7]),(2,[5,6,7]),(3,[5,6,7]),(4,[5,6,7]),(10,[11]),(11,[12])]]} Tryz.func379 ?_;obtain⟨ksv,rfl,l⟩:=p;refine zl λb1 w1 j d m r=>?_;refine zl λb2 w2 k e o g=>?_;refine zd λv b _=>?_;have a:=(d.trans e).trans b;have c:=q.ext a;have h:=g.ext b;simp(disch:=first|omega|simp only[push_cast]) only[push_cast,h.ld0,c.iaddr,c.load,true_and,and_true];refine VecCmp_spec λx f=>?_;simp only[push_cast,true_and];exact YT (i _ (a.trans f))
theorem Xm {s:ByteArray} {n:Int} {ev tv kv:Value} {t:M.Tm} (k:TermR F w tv t)
  (e:∀w',Ext w w'->K (nI t.b) w'):vcall jn #[KV s n,ev,tv,kv] w K:=by
 refine zf {} Tryz.func383 ?_;obtain⟨ksv,rfl,h⟩:=k;refine zl λb1 w1 f a i l=>?_;refine zl λb2 w2 g c j d=>?_;simp only[push_cast,d.ld2];exact e _ (a.trans c)
theorem qE0:k80 kB .string y0:=⟨_,YD,rK⟩
theorem YW {s:ByteArray} {n:Int} {tv kv:Value} {t:M.Tm} {mb:Nat} {f:List (Value×Value)} {x:Int} (l:TermR F w tv t) (hm:MapF .string w mb f) (c:(Value.string t.s,nI x)∈f)
  (e:∀w',Ext w w'->K (nI x) w'):vcall ja #[KV s n,.map (some mb),tv,kv] w K:=by
 refine zf {} Tryz.func385 ?_;obtain⟨ksv,rfl,i⟩:=l;refine zl λb1 w1 g a j m=>?_;refine zl λb2 w2 h b k d=>?_;simp only[push_cast,d.ld3];rw[Xj qE0 (hm.ext (a.trans b)) (XO _) c];exact e _ (a.trans b)
theorem ifKind_value_spec {s:ByteArray} {n:Int} {ev tv kv:Value} {t:M.Tm} {xs:List (Int×Int)} (l:TermR F w tv t) (m:PairsR G w kv xs) (q:xs.length=3)
  (f:∀w',Ext w w'->K (nI (if(xs.getD 0 (0,0)).2=1 then(xs.getD 1 (0,0)).2 else(xs.getD 2 (0,0)).2)) w'):vcall jR #[KV s n,ev,tv,kv] w K:=by
 refine zf {} Tryz.func391 ?_;obtain⟨ksv,rfl,i⟩:=l;refine zl λb1 w1 g c j o=>?_;refine zl λb2 w2 h d k p=>?_;have b:=m.ext (c.trans d);have e:=f _ (c.trans d)
 try simp(disch:=first|omega|simp only[push_cast]) only[push_cast,b.iaddr]
 try simp(disch:=first|omega|simp only[push_cast]) only[push_cast,b.load1]
 refine zb (λa=>?_) (λa=>?_)
 ·rw[if_pos a] at e
  try simp(disch:=first|omega|simp only[push_cast]) only[push_cast,b.iaddr]
  try simp(disch:=first|omega|simp only[push_cast]) only[push_cast,b.load1]
  exact e
 ·rw[if_neg a] at e
  try simp(disch:=first|omega|simp only[push_cast]) only[push_cast,b.iaddr]
  try simp(disch:=first|omega|simp only[push_cast]) only[push_cast,b.load1]
  exact e
def VU (f:Value) (g:List (Int×Int)->Bool) (n:Nat):Prop:=∀(w:World) (G:Nat->Prop) (kv:Value) (xs:List (Int×Int)) (K:oK),PairsR G w kv xs->xs.length=n->K (.bool (g xs)) w->vcallv f #[kv] w K
theorem Xh {s:ByteArray} {n:Int} {f ev tv kv:Value} {t:M.Tm} {g:List (Int×Int)->Bool} {m:Nat} {xs:List (Int×Int)} (j:VU f g m) (q:TermR F w tv t) (r:PairsR G w kv xs) (l:xs.length=m)
  (e:∀w',Ext w w'->K (nI (M.b2i (g xs))) w'):vcall je #[.agg ⟨[.string s,nI n,f]⟩,ev,tv,kv] w K:=by
 refine zf {} Tryz.func393 ?_;obtain⟨ksv,rfl,k⟩:=q;refine zl λb1 w1 h b o c=>?_;refine zl λb2 w2 i a p u=>?_;have d:=c.ext a;simp only[push_cast,d.ld2];refine j _ _ _ _ _ (r.ext (b.trans a)) l ?_;exact YT (e _ (b.trans a))
theorem qK0:VU (.func (.func V9) #[] #[]) (λ_=>true) 0:=by
 intro w G kv xs K c b a;simp only[push_cast];refine zf {} Tryz.func104 ?_;exact a
theorem kinds2_fn:VU (.func (.func V8) #[] #[]) (λxs=>decide ((xs.getD 0 (0,0)).2=0)) 1:=by
 intro w G kv xs K a c b;simp only[push_cast];refine zf {} Tryz.func105 ?_
 try simp(disch:=first|omega|simp only[push_cast]) only[push_cast,a.iaddr]
 try simp(disch:=first|omega|simp only[push_cast]) only[push_cast,a.load1]
 exact b
theorem kinds3_fn:VU (.func (.func V7) #[] #[]) (λxs=>decide ((xs.getD 0 (0,0)).2=1)&&decide ((xs.getD 1 (0,0)).2=1)) 2:=by
 intro w G kv xs K b d c;simp only[push_cast];refine zf {} Tryz.func106 ?_
 try simp(disch:=first|omega|simp only[push_cast]) only[push_cast,b.iaddr]
 try simp(disch:=first|omega|simp only[push_cast]) only[push_cast,b.load1]
 refine zb (λa=>?_) (λa=>?_)
 ·try simp(disch:=first|omega|simp only[push_cast]) only[push_cast,b.iaddr]
  try simp(disch:=first|omega|simp only[push_cast]) only[push_cast,b.load1]
  simpa only[decide_eq_true a,pH] using c
 ·simpa only[decide_eq_false a,GK] using c
theorem kinds4_fn:VU (.func (.func V6) #[] #[]) (λxs=>decide ((xs.getD 0 (0,0)).2=1)||decide ((xs.getD 1 (0,0)).2=1)) 2:=by
 intro w G kv xs K b d c;simp only[push_cast];refine zf {} Tryz.func107 ?_
 try simp(disch:=first|omega|simp only[push_cast]) only[push_cast,b.iaddr]
 try simp(disch:=first|omega|simp only[push_cast]) only[push_cast,b.load1]
 refine zb (λa=>?_) (λa=>?_)
 ·simpa only[decide_eq_true a,Bool.true_or] using c
 ·try simp(disch:=first|omega|simp only[push_cast]) only[push_cast,b.iaddr]
  try simp(disch:=first|omega|simp only[push_cast]) only[push_cast,b.load1]
  simpa only[decide_eq_false a,P8] using c
end
section
variable {w:World} {K:oK} {F G:Nat->Prop}
def EnvM (w:World) (mb:Nat) (ds:List M.Dcl) (env:List Int):Prop:= ∃f,MapF .string w mb f/\∀s,0<=M.findD ds s->(Value.string s,nI (env.getD (M.findD ds s).toNat 0))∈f
theorem EnvM.ext {mb:Nat} {ds:List M.Dcl} {env:List Int} {w':World} (h:EnvM w mb ds env) (he:Ext w w'):EnvM w' mb ds env:=by
 obtain⟨f,a,b⟩:=h;exact⟨f,a.ext he,b⟩
def kTy (o:Int):TypeId:=if o<=2 then zO else if o<=13 then zG else if o=14 then zK else if o<=17 then zF else if o=20 then zM else if o=21 then zE else if o=22 then zJ else if o=23 then zS else zx
structure KindR (o:Int) (v:Value):Prop where
 word:∃(s:ByteArray) (m:Int) (r:List Value),v= .iface (kTy o) (.agg ⟨.string s:: nI m::r⟩)/\(o<24->r=[])/\(24<=o->∃f,r=[f]/\f.oneCell'=true)/\(o=20\/o=21\/o=24\/s.data.toList=M.wordL o)
 iface:∃ty x,v= .iface ty x
 kids:∀(w:World) (K:oK),(∀w',Ext w w'->K (nI (M.arity o)) w')->vinvoke v mn_kids #[] w K
 sort:∀(w:World) (K:oK) (F G H:Nat->Prop) (dv tv kv:Value) (ds:List M.Dcl) (t:M.Tm) (xs:List Int),t.op=o->DclsR F w dv ds->TermR G w tv t->Ints H w kv xs->(xs.length:Int)=M.arity o->(∀i,-1<=xs.getD i 0/\xs.getD i 0<=4)->
  (∀w',Ext w w'->K (nI (M.sortK ds t xs)) w')->vinvoke v k7 #[dv,tv,kv] w K
 value:∀(w:World) (K:oK) (G H:Nat->Prop) (ev tv kv:Value) (ds:List M.Dcl) (env:List Int) (t:M.Tm) (xs:List (Int×Int)),t.op=o->(t.op=21->∃mb,ev= .map (some mb)/\EnvM w mb ds env)->TermR G w tv t->PairsR H w kv xs->(xs.length:Int)=M.arity o->(∀i,i<xs.length->M.inS (xs.getD i (0,0)).1 (xs.getD i (0,0)).2)->
  M.sortK ds t (xs.map (·.1))≠ -1->(∀w',Ext w w'->K (nI (M.valK ds env t xs)) w')->vinvoke v qA #[ev,tv,kv] w K
section
variable {ds:List M.Dcl} {env:List Int} {t:M.Tm} {xs:List Int} {ys:List (Int×Int)}
theorem kA {i:Nat} (h:i<ys.length):(ys.map (·.1)).getD i 0=(ys.getD i (0,0)).1:=M.getD_map _ h _ _
theorem kind_un {o:Int} {s:ByteArray} (d:o=1\/o=2) (hw:s.data.toList=M.wordL o):KindR o (.iface zO (KV s 1)) where
 word:=⟨_,_,_,by(rw[show kTy o=zO by unfold kTy;rw[if_pos oM]];try rfl),λ_=>rfl,λh=>oM,.inr (.inr (.inr hw))⟩
 iface:=⟨_,_,rfl⟩
 kids:=λw K b=>zL (Xa _ _) (qD λw' he=>by have:=b w' he;rcases d with rfl|rfl<;>exact this)
 sort:=λw K F G H dv tv kv ds t xs f l e g c i b=>by
  have a:xs.length=1:=by rcases d with rfl|rfl<;>simp[M.arity] at c<;>omega
  refine zL (X9 _ _) (unKind_sort_spec e g a λw' he=>?_);have:=b w' he;unfold M.sortK at this;rwa[if_neg oM,if_neg oM,if_neg oM,if_neg oM,if_neg oM,if_pos oM] at this
 value:=λw K G H mb tv kv ds env t ys f he e g c i hs b=>by
  have a:ys.length=1:=by rcases d with rfl|rfl<;>simp[M.arity] at c<;>omega
  refine zL (Yp _ _) (unKind_value_spec e g a λw' he=>?_);have:=b w' he;unfold M.sortK at hs;rw[if_neg oM,if_neg oM,if_neg oM,if_neg oM,if_neg oM,if_pos oM,kA oM] at hs;have j:0<(ys.getD 0 (0,0)).1:=by
   by_cases h:0<(ys.getD 0 (0,0)).1
   ·exact h
   ·rw[if_neg h] at hs;exact absurd rfl hs
  have k:=M.inS_pos (i 0 oM) j;unfold M.valK at this;rw[if_neg oM,if_neg oM,if_neg oM,if_neg oM,if_neg oM,if_neg oM,if_neg oM,if_neg oM,if_pos oM] at this;unfold M.vecUn;rw[if_pos ⟨k,oM⟩];exact this
theorem kind_bin {o:Int} {s:ByteArray} (m:3<=o) (k:o<=13) (hw:s.data.toList=M.wordL o):KindR o (.iface zG (KV s 2)) where
 word:=⟨_,_,_,by(rw[show kTy o=zG by unfold kTy;rw[if_neg oM,if_pos oM]];try rfl),λ_=>rfl,λh=>oM,.inr (.inr (.inr hw))⟩
 iface:=⟨_,_,rfl⟩
 kids:=λw K b=>zL (YC _ _) (qD λw' he=>by
  have:=b w' he;unfold M.arity at this;rwa[if_neg oM,if_neg oM,if_neg oM,if_neg oM,if_pos oM] at this)
 sort:=λw K F G H dv tv kv ds t xs f n e i c d b=>by
  have a:xs.length=2:=by
   unfold M.arity at c;rw[if_neg oM,if_neg oM,if_neg oM,if_neg oM,if_pos oM] at c;omega
  refine zL (YB _ _) (binKind_sort_spec e i a λw' he=>?_);have:=b w' he;unfold M.sortK at this;rwa[if_neg oM,if_neg oM,if_neg oM,if_neg oM,if_neg oM,if_neg oM,if_neg oM,if_neg oM] at this
 value:=λw K G H mb tv kv ds env t ys f he e i c d hs b=>by
  have a:ys.length=2:=by
   unfold M.arity at c;rw[if_neg oM,if_neg oM,if_neg oM,if_neg oM,if_pos oM] at c;omega
  refine zL (ZR _ _) (binKind_value_spec e i a λw' he=>?_);have:=b w' he;unfold M.sortK at hs;rw[if_neg oM,if_neg oM,if_neg oM,if_neg oM,if_neg oM,if_neg oM,if_neg oM,if_neg oM,kA oM,kA oM] at hs;have j:0<(ys.getD 0 (0,0)).1/\(ys.getD 0 (0,0)).1=(ys.getD 1 (0,0)).1:=by
   by_cases h:0<(ys.getD 0 (0,0)).1/\(ys.getD 0 (0,0)).1=(ys.getD 1 (0,0)).1
   ·exact h
   ·rw[if_neg h] at hs;exact absurd rfl hs
  have l:=M.inS_pos (d 0 oM) j.1;have g:=M.inS_pos (d 1 oM) oM;unfold M.valK at this;rw[if_neg oM,if_neg oM,if_neg oM,if_neg oM,if_neg oM,if_neg oM,if_neg oM,if_neg oM,if_neg oM,if_neg oM,if_neg oM] at this;unfold M.vecBin;rw[if_pos ⟨l,g⟩,if_neg oM,if_pos ⟨oM,oM,j.2⟩];exact this
theorem kind_cat {s:ByteArray} (hw:s.data.toList=M.wordL 14):KindR 14 (.iface zK (KV s 2)) where
 word:=⟨_,_,_,rfl,λ_=>rfl,λh=>oM,.inr (.inr (.inr hw))⟩
 iface:=⟨_,_,rfl⟩
 kids:=λw K b=>zL (Yz _ _) (qD λw' he=>b w' he)
 sort:=λw K F G H dv tv kv ds t xs c l g j e d b=>by
  have a:xs.length=2:=by simp[M.arity] at e;omega
  refine zL (Yy _ _) (catKind_sort_spec g j a d λw' he=>?_);have:=b w' he;unfold M.sortK at this;rwa[if_neg oM,if_neg oM,if_neg oM,if_neg oM,if_neg oM,if_neg oM,if_pos oM] at this
 value:=λw K G H mb tv kv ds env t ys c he g j e d hs b=>by
  have a:ys.length=2:=by simp[M.arity] at e;omega
  refine zL (ZN _ _) (catKind_value_spec g j a λw' he=>?_);have:=b w' he;unfold M.sortK at hs;rw[if_neg oM,if_neg oM,if_neg oM,if_neg oM,if_neg oM,if_neg oM,if_pos oM,kA oM,kA oM] at hs;have f:0<(ys.getD 0 (0,0)).1/\0<(ys.getD 1 (0,0)).1/\(ys.getD 0 (0,0)).1+(ys.getD 1 (0,0)).1<=4:=by
   by_cases h:0<(ys.getD 0 (0,0)).1/\0<(ys.getD 1 (0,0)).1/\(ys.getD 0 (0,0)).1+(ys.getD 1 (0,0)).1<=4
   ·exact h
   ·rw[if_neg h] at hs;exact absurd rfl hs
  have k:=M.inS_pos (d 0 oM) f.1;have i:=M.inS_pos (d 1 oM) f.2.1;unfold M.valK at this;rw[if_neg oM,if_neg oM,if_neg oM,if_neg oM,if_neg oM,if_neg oM,if_neg oM,if_neg oM,if_neg oM,if_pos oM] at this;unfold M.vecBin;rw[if_pos ⟨k,i⟩,if_pos c,if_pos f.2.2];exact this
theorem kind_cmp {o:Int} {s:ByteArray} (m:15<=o) (k:o<=17) (hw:s.data.toList=M.wordL o):KindR o (.iface zF (KV s 2)) where
 word:=⟨_,_,_,by(rw[show kTy o=zF by unfold kTy;rw[if_neg oM,if_neg oM,if_neg oM,if_pos oM]];try rfl),λ_=>rfl,λh=>oM,.inr (.inr (.inr hw))⟩
 iface:=⟨_,_,rfl⟩
 kids:=λw K b=>zL (Yw _ _) (qD λw' he=>by
  have:=b w' he;unfold M.arity at this;rwa[if_neg oM,if_neg oM,if_neg oM,if_neg oM,if_pos oM] at this)
 sort:=λw K F G H dv tv kv ds t xs f n e i c d b=>by
  have a:xs.length=2:=by
   unfold M.arity at c;rw[if_neg oM,if_neg oM,if_neg oM,if_neg oM,if_pos oM] at c;omega
  refine zL (Yv _ _) (cmpKind_sort_spec e i a λw' he=>?_);have:=b w' he;unfold M.sortK at this;rwa[if_neg oM,if_neg oM,if_neg oM,if_neg oM,if_neg oM,if_neg oM,if_neg oM,if_pos oM] at this
 value:=λw K G H mb tv kv ds env t ys f he e i c d hs b=>by
  have a:ys.length=2:=by
   unfold M.arity at c;rw[if_neg oM,if_neg oM,if_neg oM,if_neg oM,if_pos oM] at c;omega
  refine zL (ZM _ _) (cmpKind_value_spec e i a λw' he=>?_);have:=b w' he;unfold M.sortK at hs;rw[if_neg oM,if_neg oM,if_neg oM,if_neg oM,if_neg oM,if_neg oM,if_neg oM,if_pos oM,kA oM,kA oM] at hs;have j:0<(ys.getD 0 (0,0)).1/\(ys.getD 0 (0,0)).1=(ys.getD 1 (0,0)).1:=by
   by_cases h:0<(ys.getD 0 (0,0)).1/\(ys.getD 0 (0,0)).1=(ys.getD 1 (0,0)).1
   ·exact h
   ·rw[if_neg h] at hs;exact absurd rfl hs
  have l:=M.inS_pos (d 0 oM) j.1;have g:=M.inS_pos (d 1 oM) oM;unfold M.valK at this;rw[if_neg oM,if_neg oM,if_neg oM,if_neg oM,if_neg oM,if_neg oM,if_neg oM,if_neg oM,if_neg oM,if_neg oM,if_pos oM] at this;unfold M.vecCmp;rw[if_pos ⟨l,g,j.2,oM,oM⟩];exact this
theorem kind_vec {s:ByteArray}:KindR 20 (.iface zM (KV s 0)) where
 word:=⟨_,_,_,rfl,λ_=>rfl,λh=>oM,.inl rfl⟩
 iface:=⟨_,_,rfl⟩
 kids:=λw K b=>zL (Yo _ _) (qD λw' he=>b w' he)
 sort:=λw K F G H dv tv kv ds t xs a g c f d e b=>by
  refine zL (Yn _ _) (Q9 c λw' he=>?_);have:=b w' he;unfold M.sortK at this;rwa[if_pos a] at this
 value:=λw K G H mb tv kv ds env t ys a he c f d e hs b=>by
  refine zL (ZI _ _) (Xm c λw' he=>?_);have:=b w' he;unfold M.valK at this;rwa[if_pos a] at this
theorem kind_name {s:ByteArray}:KindR 21 (.iface zE (KV s 0)) where
 word:=⟨_,_,_,rfl,λ_=>rfl,λh=>oM,.inr (.inl rfl)⟩
 iface:=⟨_,_,rfl⟩
 kids:=λw K b=>zL (ZK _ _) (qD λw' he=>b w' he)
 sort:=λw K F G H dv tv kv ds t xs a g e k i j b=>by
  refine zL (ZJ _ _) (nameKind_sort_spec e g λw' he=>?_);have:=b w' he;unfold M.sortK at this;rwa[if_neg oM,if_pos a] at this
 value:=λw K G H mb tv kv ds env t ys a he e k i j hs b=>by
  obtain⟨mb,rfl,f,hm,d⟩:=he a;unfold M.sortK at hs;rw[if_neg oM,if_pos a] at hs;have c:0<=M.findD ds t.s:=by
   by_cases h:M.findD ds t.s<0
   ·rw[if_pos h] at hs;exact absurd rfl hs
   ·omega
  refine zL (Zo _ _) (YW e hm (d _ c) λw' he=>?_);have:=b w' he;unfold M.valK at this;rwa[if_neg oM,if_pos a] at this
theorem kind_cut {s:ByteArray} (hw:s.data.toList=M.wordL 22):KindR 22 (.iface zJ (KV s 1)) where
 word:=⟨_,_,_,rfl,λ_=>rfl,λh=>oM,.inr (.inr (.inr hw))⟩
 iface:=⟨_,_,rfl⟩
 kids:=λw K d=>zL (Yt _ _) (qD λw' he=>d w' he)
 sort:=λw K F G H dv tv kv ds t xs i m g j e f d=>by
  have c:xs.length=1:=by simp[M.arity] at e;omega
  refine zL (Ys _ _) (cutKind_sort_spec g j c f λw' he=>?_);have:=d w' he;unfold M.sortK at this;rwa[if_neg oM,if_neg oM,if_neg oM,if_neg oM,if_pos oM] at this
 value:=λw K G H mb tv kv ds env t ys i he g j e f hs d=>by
  have c:ys.length=1:=by simp[M.arity] at e;omega
  refine zL (ZL _ _) (cutKind_value_spec g j c λw' he=>?_);have:=d w' he;unfold M.sortK at hs;rw[if_neg oM,if_neg oM,if_neg oM,if_neg oM,if_pos oM,kA oM] at hs;have k:0<=t.b/\t.b<=t.a/\t.a<(ys.getD 0 (0,0)).1:=by
   by_cases h:0<=t.b/\t.b<=t.a/\t.a<(ys.getD 0 (0,0)).1
   ·exact h
   ·rw[if_neg h] at hs;exact absurd rfl hs
  have l:=M.inS_pos (f 0 oM) oM;unfold M.valK at this;rw[if_neg oM,if_neg oM,if_neg oM,if_neg oM,if_neg oM,if_neg oM,if_neg oM,if_pos oM] at this;unfold M.vecCut;rw[if_pos ⟨l,k⟩];exact this
theorem kind_if {s:ByteArray} (hw:s.data.toList=M.wordL 23):KindR 23 (.iface zS (KV s 3)) where
 word:=⟨_,_,_,rfl,λ_=>rfl,λh=>oM,.inr (.inr (.inr hw))⟩
 iface:=⟨_,_,rfl⟩
 kids:=λw K b=>zL (Xd _ _) (qD λw' he=>b w' he)
 sort:=λw K F G H dv tv kv ds t xs e i d f c g b=>by
  have a:xs.length=3:=by simp[M.arity] at c;omega
  refine zL (Xc _ _) (ifKind_sort_spec d f a λw' he=>?_);have:=b w' he;unfold M.sortK at this;rwa[if_neg oM,if_neg oM,if_neg oM,if_pos oM] at this
 value:=λw K G H mb tv kv ds env t ys e he d f c g hs b=>by
  have a:ys.length=3:=by simp[M.arity] at c;omega
  refine zL (Yq _ _) (ifKind_value_spec d f a λw' he=>?_);have:=b w' he;unfold M.valK at this;rwa[if_neg oM,if_neg oM,if_neg oM,if_neg oM,if_neg oM,if_neg oM,if_pos oM] at this
theorem kind_bool {o:Int} {s:ByteArray} {f:Value} {g:List (Int×Int)->Bool} {m:Nat} (q:24<=o) (i:M.arity o=m) (j:VU f g m) (c:f.oneCell'=true) (hw:o=24\/s.data.toList=M.wordL o) (k:∀ds env (t:M.Tm) ys,t.op=o->M.valK ds env t ys=M.b2i (g ys)):
  KindR o (.iface zx (.agg ⟨[.string s,nI m,f]⟩)) where
 word:=⟨_,_,_,by rw[show kTy o=zx by unfold kTy;rw[if_neg oM,if_neg oM,if_neg oM,if_neg oM,if_neg oM,if_neg oM,if_neg oM,if_neg oM]],λh=>oM,λ_=>⟨_,rfl,c⟩,.inr (.inr hw)⟩
 iface:=⟨_,_,rfl⟩
 kids:=λw K a=>zL (ZQ _ _ _) (qD λw' he=>by have:=a w' he;rwa[i] at this)
 sort:=λw K F G H dv tv kv ds t xs b p d e l n a=>by
  refine zL (ZP _ _ _) (XY d e λw' he=>?_);have:=a w' he;unfold M.sortK at this;rwa[if_neg oM,if_neg oM,if_pos oM] at this
 value:=λw K G H mb tv kv ds env t ys b he d e l n hs a=>by
  refine zL (Zp _ _ _) (Xh j d e oM λw' he=>?_);have:=a w' he;rwa[k ds env t ys b] at this
end
def KindsR (w:World) (mb:Nat):Prop:= ∃f,MapF (.int .i64) w mb f/\(∀o,0<=M.arity o->∃v,(nI o,v)∈f/\KindR o v)/\∀p,p∈f->∃o,p.1= nI o/\0<=M.arity o
theorem KindsR.ext {mb:Nat} {w':World} (h:KindsR w mb) (he:Ext w w'):KindsR w' mb:=by
 obtain⟨f,a,b⟩:=h;exact⟨f,a.ext he,b⟩
end
section
variable {w:World} {K:oK} {F G:Nat->Prop}
theorem jF:k80 zR (.int .i64) yw0:=⟨_,Zc,rK⟩
def KS (w0 w:World) (b:Nat) (S:Int->Prop):Prop:=Ext w0 w/\w0.heap.size<=b/\∃f,MapF (.int .i64) w b f/\(∀o,S o->∃v,(nI o,v)∈f/\KindR o v)/\∀p,p∈f->∃o,p.1= nI o/\S o
theorem KS.set {w0 w:World} {b:Nat} {S:Int->Prop} {o:Int} {v:Value} (h:KS w0 w b S) (q: ¬S o) (r:KindR o v) (m:∀w',KS w0 w' b (λx=>x=o\/S x)->Same (· =b) w w'->K undef w'):
  UJ zR (.map (some b)) (nI o) v w K:=by
 obtain⟨he,k,f,hm,l,j⟩:=h;refine q40 jF hm (xt o) (λx i=>?_) λw' g hs _=>m w' ⟨Ext.then he hs λy s=>by subst s;exact k,k,_,g,λx i=>?_,λp c=>?_⟩ hs
 ·obtain⟨o',a,d⟩:=j _ i;cases a;exact q d
 ·by_cases e:x=o
  ·subst e;exact⟨v,gi.2 (.inr (gq.2 rfl)),r⟩
  ·obtain⟨u,hu,n⟩:=l x (i.resolve_left e);exact⟨u,gi.2 (.inl hu),n⟩
 ·rcases gi.1 c with c|c
  ·obtain⟨o',a,d⟩:=j _ c;exact⟨o',a,.inr d⟩
  ·rw[gq.1 c];exact⟨o,rfl,.inl rfl⟩
theorem KS.ext {w0 w w':World} {b:Nat} {S:Int->Prop} (h:KS w0 w b S) (he:Ext w w'):KS w0 w' b S:=by
 obtain⟨a,c,f,hm,r⟩:=h;exact⟨a.trans he,c,f,hm.ext he,r⟩
theorem KS.congr {w0 w:World} {b:Nat} {S S':Int->Prop} (h:KS w0 w b S) (a:∀x,S x↔S' x):KS w0 w b S':=by
 have:S=S':=funext λx=>propext (a x);subst this;exact h
theorem KS.kinds {w0 w:World} {b:Nat} {S:Int->Prop} (h:KS w0 w b S) (a:∀o,S o↔0<=M.arity o):KindsR w b:=by
 obtain⟨he,k,f,hm,c,d⟩:=h;refine⟨f,hm,λo i=>c o ((a o).2 i),λp j=>?_⟩;obtain⟨o,e,g⟩:=d p j;exact⟨o,e,(a o).1 g⟩
@[push_cast] theorem bd_named (s:ByteArray) (n:Int):yh qs [(0,.string s),(1,nI n)] w K=K (KV s n) w:=zQ zW0 (us:=[[.string s],[nI n]]) rfl rfl
@[push_cast] theorem Yk0 (s:ByteArray) (n:Int):yh zO [(0,KV s n)] w K=K (KV s n) w:=zQ Uy (us:=[[.string s,nI n]]) rfl rfl
@[push_cast] theorem ZO0 (s:ByteArray) (n:Int):yh zG [(0,KV s n)] w K=K (KV s n) w:=zQ VA (us:=[[.string s,nI n]]) rfl rfl
@[push_cast] theorem ZN0 (s:ByteArray) (n:Int):yh zK [(0,KV s n)] w K=K (KV s n) w:=zQ Vx (us:=[[.string s,nI n]]) rfl rfl
@[push_cast] theorem ZM0 (s:ByteArray) (n:Int):yh zF [(0,KV s n)] w K=K (KV s n) w:=zQ Vv (us:=[[.string s,nI n]]) rfl rfl
@[push_cast] theorem ZL0 (s:ByteArray) (n:Int):yh zJ [(0,KV s n)] w K=K (KV s n) w:=zQ Vu (us:=[[.string s,nI n]]) rfl rfl
@[push_cast] theorem Ym0 (s:ByteArray) (n:Int):yh zS [(0,KV s n)] w K=K (KV s n) w:=zQ UA (us:=[[.string s,nI n]]) rfl rfl
@[push_cast] theorem ZK0:yh zM [] w K=K (KV ⟨#[]⟩ 0) w:=zQ Vt (us:=[]) rfl rfl
@[push_cast] theorem Zv0:yh zE [] w K=K (KV ⟨#[]⟩ 0) w:=zQ Kz (us:=[]) rfl rfl
@[push_cast] theorem Zy0 (s:ByteArray) (n:Int) (f:Fn) (a c:Array Value):yh zx [(0,KV s n),(1,.func f a c)] w K=K (.agg ⟨[.string s,nI n,.func f a c]⟩) w:=zQ KA (us:=[[.string s,nI n],[.func f a c]]) rfl rfl
theorem val24 (ds:List M.Dcl) (env:List Int) (t:M.Tm) (ys:List (Int×Int)) (h:t.op=24):M.valK ds env t ys=M.b2i true:=by simp[M.valK,h,M.b2i]
theorem val25 (ds:List M.Dcl) (env:List Int) (t:M.Tm) (ys:List (Int×Int)) (h:t.op=25):M.valK ds env t ys=M.b2i (decide ((ys.getD 0 (0,0)).2=0)):=by unfold M.valK;simp only[h];rfl
theorem val26 (ds:List M.Dcl) (env:List Int) (t:M.Tm) (ys:List (Int×Int)) (h:t.op=26):M.valK ds env t ys=M.b2i (decide ((ys.getD 0 (0,0)).2=1)&&decide ((ys.getD 1 (0,0)).2=1)):=by unfold M.valK;simp only[h];rfl
theorem val27 (ds:List M.Dcl) (env:List Int) (t:M.Tm) (ys:List (Int×Int)) (h:t.op=27):M.valK ds env t ys=M.b2i (decide ((ys.getD 0 (0,0)).2=1)||decide ((ys.getD 1 (0,0)).2=1)):=by unfold M.valK;simp only[h];rfl
def binWords:List ByteArray:=[⟨#[97,110,100]⟩,⟨#[111,114]⟩,⟨#[120,111,114]⟩,⟨#[97,100,100]⟩,⟨#[115,117,98]⟩,⟨#[109,117,108]⟩,⟨#[100,105,118]⟩,⟨#[114,101,109]⟩,⟨#[115,104,108]⟩,⟨#[115,104,114]⟩,⟨#[115,97,114]⟩]
theorem kE0:∀i:Fin 11,(binWords.getD i.1 ⟨#[]⟩).data.toList=M.wordL (3+(i.1:Int)):=dC
theorem kinds_new (X:∀w' b,Ext w w'->KindsR w' b->w.heap.size<=b->K (.map (some b)) w'):vcall QT #[] w K:=by
 refine zf {loops:=[(3,[48])]} Tryz.func71 ?_;refine yz0 jF λb w1 hb hm he hs=>?_;have J:KS w w1 b (λ_=>False):=⟨he,oM,[],hm,λ_ h=>h.elim,λ_ h=>by cases h⟩;simp only[push_cast];refine J.set dC (kind_un (.inl rfl) dC) λw2 L _=>?_;refine L.set dC (kind_un (.inr rfl) dC) λw3 N _=>?_;refine N.set dC (kind_cat dC) λw4 O _=>?_;refine O.set dC (kind_cmp dC dC dC) λw5 Q _=>?_;refine Q.set dC (kind_cmp dC dC dC) λw6 R _=>?_;refine R.set dC (kind_cmp dC dC dC) λw7 S _=>?_;refine S.set dC kind_vec λw8 T _=>?_;refine T.set dC kind_name λw9 U _=>?_;refine U.set dC (kind_cut dC) λw10 V _=>?_;refine V.set dC (kind_if dC) λY l _=>?_;refine l.set dC (kind_bool (m:=0) dC rfl qK0 rfl (.inl rfl) val24) λZ n _=>?_;refine n.set dC (kind_bool (m:=1) dC rfl kinds2_fn rfl (.inr dC) val25) λa0 p _=>?_;refine p.set dC (kind_bool (m:=2) dC rfl kinds3_fn rfl (.inr dC) val26) λa1 q _=>?_;refine q.set dC (kind_bool (m:=2) dC rfl kinds4_fn rfl (.inr dC) val27) λa2 g _=>?_;refine vbuildS_row1 (xs:=binWords.map .string) kM rK kL (λx B=>by obtain⟨s,_,rfl⟩:=gm.1 B;rfl) dC λbs D F j G t=>?_;have d:Vals (· =bs) D (.slice (some ⟨bs,0,none⟩) (binWords.map Value.string).length (binWords.map Value.string).length) (binWords.map Value.string):=t.sl1 rfl dC;have r:=g.ext j;have v:bs≠b:=by
  obtain⟨_,_,f,hm,_⟩:=g;have:=hm.lt;omega
 have hlen:(binWords.map Value.string).length=11:=rfl;simp only[push_cast,d.len];rw[hlen];rw[hlen] at d;refine vloop_up 11 (λi u w'=>u=[nI i]/\Vals (· =bs) w' (.slice (some ⟨bs,0,none⟩) 11 11) (binWords.map Value.string)/\KS w w' b λx=>(3<=x/\x<3+(i:Int))\/x=27\/x=26\/x=25\/x=24\/x=23\/x=22\/x=21\/x=20\/x=17\/x=16\/x=15\/x=14\/x=2\/x=1) ⟨rfl,d,r.congr λx=>by simp only[or_false];constructor<;>intro h<;>omega⟩ ?_;rintro i _ _ E C hi ⟨rfl,A,k⟩ W;simp only[push_cast];refine zb (λa=>?_) (λa=>?_)
 ·have c:i<11:=oM;have H:(binWords.map Value.string).getD i undef= .string (binWords.getD i ⟨#[]⟩):=M.getD_map _ (show i<binWords.length from c) _ _;have I:IntKind.i64.wrap (3+(i:Int))=3+(i:Int):=zi oM oM;rw[A.iaddr rK oM (by rw[hlen];omega),gj,A.load rK (by rw[hlen];omega),H];simp only[push_cast,I];refine k.set oM (kind_bin oM oM (kE0 ⟨i,c⟩)) λa3 y z=>?_
  try simp only[push_cast]
  rw[inc64' oM];exact W c _ _ ⟨rfl,A.same z λx B _ e=>v (B.symm.trans e),y.congr λx=>by constructor<;>intro h<;>omega⟩
 ·have:i=11:=oM;subst this;refine X E b k.1 (k.kinds λo=>?_) k.2.1;constructor
  ·intro h;have:(1<=o/\o<=17)\/(20<=o/\o<=27):=oM;unfold M.arity
   repeat' split
   all_goals omega
  ·intro h;have:=M.arity_ops h;omega
theorem VM (d:∀w' b,Ext w w'->KindsR w' b->K (.map (some b)) w'):vcall QT #[] w K:=kinds_new λw' b a c _=>d w' b a c
end
end Go.Proofs.YtiglcianecnchaaGreatDoor
end
