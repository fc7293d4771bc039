import Derived.Test.YtfnpmncplaibiaaGreatDoorWqbP5
/- A part of the proof. -/
set_option linter.all false
set_option maxRecDepth 9999
set_option maxHeartbeats 2000000
noncomputable section
namespace Go.Proofs.YtfnpmncplaibiaaGreatDoor
open Go Go.Vc Go.Proofs
section
variable {w:World} {K:oK} {F:oA}
theorem VecSigned_spec {wd n:Int} (g:∀w',Ext w w'->K (nI (if M.vok wd n=true then M.sgn wd n else 0)) w'):vcall JK #[qe wd n] w K:=by
 refine ze {} Tryz.func438 ?_;refine zj λb1 w1 v c x m=>?_;simp only[push_cast,m.ldAgg (t:=zg) zt];refine VecOk_spec λw2 b=>?_;have s:=m.ext b;refine oZ ?_;refine zm (λh=>?_) (λh=>?_)
 .have:=g w2 (c.trans b)
  grind
 .rw[gW] at h;rw[X0 h] at g;obtain⟨k,a,rfl,rfl,p,q,u⟩:=M.vok_nat h;have A:=pow4 p q;refine zd λE d _=>?_;have i:=s.ext d;have l:IntKind.i64.wrap ((k:Int)-1)=((k-1:Nat):Int):=(by grind [zk]);simp only[push_cast,i.ldAgg (t:=zg) zt,i.ld0,k5,l];refine raw_spec oM λy e=>?_;have j:=i.ext e;simp only[push_cast,j.ld0,k5,l,gi];refine bit_spec oM oM ?_;rw[top_bit p q u];have C:=(WE k).symm;have D:(2:Int)^((k:Int).toNat-1)=((2^(k-1):Nat):Int):=(by simp);have B:2^(k-1)<2^k:=Nat.pow_lt_pow_right oM oM;refine zb (λr=>?_) (λr=>?_)
  .refine zd λz f _=>?_;have o:=j.ext f;simp only[push_cast,o.ld0,o.ld1,k5];rw[show(1:Int)=((1:Nat):Int) from rfl,vbin_shlI oM oM,Pg];refine⟨rfl,?_⟩;rw[Yw,zk oM oM];refine⟨rfl,?_⟩;have:=g z ((((c.trans b).trans d).trans e).trans f)
   grind [M.sgn]
  .simp only[push_cast,j.ld1];have:=g y (((c.trans b).trans d).trans e)
   grind [M.sgn]
theorem VecUn_spec {op wd n:Int} (q:∀w',Ext w w'->K (.tuple #[qe (M.vecUn op wd n).1.1 (M.vecUn op wd n).1.2,.bool (M.vecUn op wd n).2]) w'):vcall ym0 #[nI op,qe wd n] w K:=by
 refine ze {} Tryz.func416 ?_;refine zj λb1 w1 G r I E=>?_;refine zi zY λb2 w2 H m J g2=>?_;have B:=E.ext m;simp only[push_cast,B.ldAgg (t:=zg) zt];refine VecOk_spec λL g=>?_;have C:=B.ext g;have g3:=g2.ext g;have F:=(r.trans m).trans g;have f:∀j o,Ext L j->Same (· =b2) j o->Ext w o:=λj o h D=>Ext.then (F.trans h) D λy R=>oM
 simp only[push_cast];unfold M.vecUn at q;refine zm (λs=>?_) (λs=>?_)
 .refine stVec g3 λj u _ g4=>?_;rw[g4.lv rK]
  grind [Same.refl]
 .rw[gW] at s;obtain⟨k,a,rfl,rfl,v,x,O⟩:=M.vok_nat s;have Q:=pow4 v x;refine zb (λA=>?_) (λA=>?_)
  .subst A;refine zd λj b _=>?_;have l:=C.ext b;simp only[push_cast,l.ldAgg (t:=zg) zt,k5];refine raw_spec oM λo c=>?_;have p:=l.ext c;have g5:=(g3.ext b).ext c;simp only[push_cast,p.ldAgg (t:=zg) zt,k5,gi];rw[vun_xorU oM];refine⟨rfl,vec_spec oM v x λN d=>?_⟩;refine stVec (g5.ext d) λz i _ g7=>?_;rw[g7.lv rK];have:=q z (f _ _ ((b.trans c).trans d) i)
   grind [M.unM_not]
  refine zb (λa2=>?_) (λa2=>?_)
  .subst a2;refine zd λj b _=>?_;have l:=C.ext b;simp only[push_cast,l.ldAgg (t:=zg) zt,k5];refine raw_spec oM λo c=>?_;have p:=l.ext c;have g5:=(g3.ext b).ext c;have e:IntKind.u64.wrap (0-(a:Int))=((if a=0 then 0 else 18446744073709551616-a:Nat):Int):=by
    simp only[IntKind.wrap,IntKind.bits,IntKind.signed,GU,Gd,if_false]
    grind
   simp only[push_cast,p.ldAgg (t:=zg) zt,k5,gi];rw[e];refine vec_spec (by grind) v x λN d=>?_;refine stVec (g5.ext d) λz i _ g7=>?_;rw[g7.lv rK];have:=q z (f _ _ ((b.trans c).trans d) i)
   grind [M.unM_neg]
  .refine stVec g3 λj u _ g4=>?_;rw[g4.lv rK]
   grind [Same.refl]
theorem binaries_spec (i:∀w',Ext w w'->K (.agg ⟨[.nilFunc,.nilFunc,.nilFunc,.func (.func xp) #[] #[],.func (.func xo) #[] #[],.func (.func xn) #[] #[],.func (.func xm) #[] #[],.func (.func xl) #[] #[],.func (.func xk) #[] #[],.func (.func xj) #[] #[],.func (.func xi) #[] #[],.func (.func xh) #[] #[],.func (.func xe) #[] #[],.func (.func xd) #[] #[]]⟩) w'):vcall KL #[] w K:=by
 refine ze {} Tryz.func422 ?_;have h:yl xf (.agg ⟨[.nilFunc,.nilFunc,.nilFunc,.nilFunc,.nilFunc,.nilFunc,.nilFunc,.nilFunc,.nilFunc,.nilFunc,.nilFunc,.nilFunc,.nilFunc,.nilFunc]⟩):=by unfold yl;kernel_rfl
 refine zi h λb1 w1 d e f b=>?_;refine⟨_,w1,run_build (P:=P) w1 _ _ ⟨[.nilFunc,.nilFunc,.nilFunc,.func (.func xp) #[] #[],.func (.func xo) #[] #[],.func (.func xn) #[] #[],.func (.func xm) #[] #[],.func (.func xl) #[] #[],.func (.func xk) #[] #[],.func (.func xj) #[] #[],.func (.func xi) #[] #[],.func (.func xh) #[] #[],.func (.func xe) #[] #[],.func (.func xd) #[] #[]]⟩ rK,?_⟩;refine b.stAgg rfl rK (by intro v a;simp only[gj,gC,Gn] at a;rcases a with rfl|rfl|rfl|rfl|rfl|rfl|rfl|rfl|rfl|rfl|rfl|rfl|rfl|rfl<;>rfl) λw2 g _ c=>?_;rw[c.lv rK]
 grind [Ext.then]
theorem bin_all {op k a b:Nat} (j:3<=op) (i:op<=13) (g:1<=k) (h:k<=4) (e:a<2^k) (f:b<2^k) {K:oK} {w w0:World} (hw:w0=w) (c:OpR K w op k a b) {N:oK}
  (d:∀x,vcallv x #[qe k a,qe k b] w K->N x w):
  qY0 xf (.agg ⟨[.nilFunc,.nilFunc,.nilFunc,.func (.func xp) #[] #[],.func (.func xo) #[] #[],.func (.func xn) #[] #[],.func (.func xm) #[] #[],.func (.func xl) #[] #[],.func (.func xk) #[] #[],.func (.func xj) #[] #[],.func (.func xi) #[] #[],.func (.func xh) #[] #[],.func (.func xe) #[] #[],.func (.func xd) #[] #[]]⟩) (nI op) w N:=by
 rcases(by omega:op=3\/op=4\/op=5\/op=6\/op=7\/op=8\/op=9\/op=10\/op=11\/op=12\/op=13) with rfl|rfl|rfl|rfl|rfl|rfl|rfl|rfl|rfl|rfl|rfl
 .exact⟨.func (.func xp) #[] #[],w,rK,d (.func (.func xp) #[] #[]) (binaries_1_spec g h e f c)⟩
 .exact⟨.func (.func xo) #[] #[],w,rK,d (.func (.func xo) #[] #[]) (binaries_2_spec g h e f c)⟩
 .exact⟨.func (.func xn) #[] #[],w,rK,d (.func (.func xn) #[] #[]) (binaries_3_spec g h e f c)⟩
 .exact⟨.func (.func xm) #[] #[],w,rK,d (.func (.func xm) #[] #[]) (binaries_4_spec g h e f c)⟩
 .exact⟨.func (.func xl) #[] #[],w,rK,d (.func (.func xl) #[] #[]) (binaries_5_spec g h e f c)⟩
 .exact⟨.func (.func xk) #[] #[],w,rK,d (.func (.func xk) #[] #[]) (binaries_6_spec g h e f c)⟩
 .exact⟨.func (.func xj) #[] #[],w,rK,d (.func (.func xj) #[] #[]) (binaries_7_spec g h e f c)⟩
 .exact⟨.func (.func xi) #[] #[],w,rK,d (.func (.func xi) #[] #[]) (binaries_8_spec g h e f c)⟩
 .exact⟨.func (.func xh) #[] #[],w,rK,d (.func (.func xh) #[] #[]) (binaries_9_spec g h e f c)⟩
 .exact⟨.func (.func xe) #[] #[],w,rK,d (.func (.func xe) #[] #[]) (binaries_10_spec g h e f c)⟩
 .exact⟨.func (.func xd) #[] #[],w,rK,d (.func (.func xd) #[] #[]) (binaries_11_spec g h e f c)⟩
theorem VecBin_spec {op wd n v m:Int} (G:∀w',Ext w w'->K (.tuple #[qe (M.vecBin op wd n v m).1.1 (M.vecBin op wd n v m).1.2,.bool (M.vecBin op wd n v m).2]) w'):vcall UI #[nI op,qe wd n,qe v m] w K:=by
 refine ze {cuts:=[(8195,[]),(36874,[])]} Tryz.func421 ?_;refine zj λb1 w1 a7 J ab h1=>?_;refine zj λb2 w2 a8 B ac g2=>?_;refine zi zY λb3 U a9 D ad r3=>?_;have hE:=(J.trans B).trans D;have ah:=J.size;have ai:=B.size;have h3:=(h1.ext B).ext D;have g3:=g2.ext D;have N:∀p s,Ext U p->Same (· =b3) p s->Ext w s:=λp s h h'=>Ext.then (hE.trans h) h' λy hy=>oM
 have d:(M.vecBin op wd n v m)=((0,0),false)->∀p,Ext U p->zG zg (oP b3 0) (qe 0 0) p λ_ s=>vlv zg (oP b3 0) s λr w6=>K (.tuple #[r,.bool false]) w6:=by
  intro e p c;refine stVec (r3.ext c) λs af _ T=>?_;rw[T.lv rK]
  grind
 refine zp (λu p=>u=[]/\Ext U p/\M.vok wd n=true/\M.vok v m=true) (λC hC=>?_) ?_
 .simp only[push_cast,h3.ldAgg (t:=zg) zt];refine VecOk_spec λp c=>?_;have g4:=g3.ext c;refine oZ ?_;refine zm (λhv=>d ?_ _ c) (λhv=>?_)
  .simp_all[M.vecBin]
  .simp only[push_cast,g4.ldAgg (t:=zg) zt];refine VecOk_spec λs i=>?_;refine oZ ?_;refine zm (λA=>d ?_ _ (c.trans i)) (λA=>?_)
   .simp_all[M.vecBin]
   .exact hC _ _ ⟨rfl,c.trans i,by grind,by grind⟩
 .rintro u g p ⟨rfl,c,O,A⟩;have X:=h3.ext c;have g4:=g3.ext c;have r4:=r3.ext c;obtain⟨k,a,rfl,rfl,k1,k4,Z⟩:=M.vok_nat O;obtain⟨l,b,rfl,rfl,l1,S,hb⟩:=M.vok_nat A;have H:=pow16 k4 Z;have a6:=pow16 S hb;unfold M.vecBin at G d;rw[X0 ⟨O,A⟩] at G d;refine oZ ?_;refine zb (λV=>?_) (λV=>?_)
  .rw[X0 V] at G d;refine zd λs i _=>?_;have Y:=X.ext i;have g5:=g4.ext i;have T:=r4.ext i;have hm:a*2^l<=524288:=shl_small H oM;have e1:IntKind.i64.wrap ((k:Int)+(l:Int))=((k+l:Nat):Int):=(by grind [zk]);have eS:∀(w:World) (K:oK),qu .shl zE false (nI (a:Int)) (nI (l:Int)) w K=K (nI (a*2^l:Nat)) w:=λw K=>vbin_shlI oM oM;have eO:∀(w:World) (K:oK),qu .or zE false (nI ((a*2^l:Nat):Int)) (nI (b:Int)) w K=K (nI (a*2^l|||b:Nat)) w:=λw K=>vbin_orI oM oM;have eC:=M.cat_or S k4 Z hb;obtain⟨q,hq⟩:∃q,q=a*2^l:=⟨_,rfl⟩;obtain⟨z,hz⟩:∃z,z=q|||b:=⟨_,rfl⟩;rw[<-hq] at eS eO eC;rw[<-hz] at eO eC;simp only[push_cast,Y.ld0,Y.ld1,g5.ld0,g5.ld1,k5,e1,eS,eO];refine zi zY λb4 w6 aa f ae p6=>?_;have F:=Y.ext f;have g6:=g5.ext f;have r6:=T.ext f;simp only[push_cast,F.ld0,F.ld1,g6.ld0,g6.ld1,k5,e1,eS,eO,gi];refine stVec p6 λw7 R _ p7=>?_;have I:b3≠b4:=by have:=T.lt;omega
   have r7:=r6.same R I;have j:Ext U w7:=Ext.then ((c.trans i).trans f) R λy hy=>by subst hy;have:=(c.trans i).size;omega
   simp only[push_cast,p7.ld0];refine zb (λa2=>d ?_ _ j) (λa2=>?_)
   .grind
   .simp only[push_cast,p7.ldAgg (t:=zg) zt];refine stVec r7 λw8 ag _ r8=>?_;rw[r8.lv rK]
    grind
  .rw[y3 V] at G d;refine zp (λu s=>u=[]/\s=p/\3<=op/\op<=13/\(k:Int)=l) (λC hC=>?_) ?_
   .refine zb (λa2=>d (by grind) _ c) (λa2=>?_);refine zb (λa3=>d (by grind) _ c) (λa3=>?_);simp only[push_cast,X.ld0,g4.ld0];refine zb (λa4=>d (by grind) _ c) (λa4=>?_)
    grind
   .rintro u g s ⟨rfl,rfl,c3,W,ckl⟩;have:l=k:=oM;subst this;refine zd λw6 f _=>?_;have F:=X.ext f;have g6:=g4.ext f;simp only[push_cast,F.ldAgg (t:=zg) zt,g6.ldAgg (t:=zg) zt,k5];refine binaries_spec λw7 j=>?_;have h7:=F.ext j;have g7:=g6.ext j;simp only[push_cast,h7.ldAgg (t:=zg) zt,g7.ldAgg (t:=zg) zt,k5,gi];obtain⟨o,rfl⟩:∃o:Nat,op=o:=⟨op.toNat,oM⟩;refine bin_all oM oM l1 S Z hb rfl ?_ λx hx=>⟨rfl,hx⟩;intro w8 r E hr a0;have h8:=h7.ext E;simp only[push_cast,h8.ldAgg (t:=zg) zt,k5,gi];refine vec_spec hr l1 S λw9 L=>?_;have r9:=(((r4.ext f).ext j).ext E).ext L;refine stVec r9 λw10 Q _ a5=>?_;rw[a5.lv rK];have:=G w10 (N _ _ ((((c.trans f).trans j).trans E).trans L) Q);rw[X0 ⟨c3,W,rfl⟩] at this;rw[a0];exact this
theorem eqVec {a b c d:Int} {t:Bool}:qu .eql zg t (qe a b) (qe c d) w K=K (.bool (decide (a=c/\b=d))) w:=by
 refine yp (run_eqGuard_agg w _ _ _ _ _ _ rK) ?_;have h:(P.fieldsOf zg).toList=[(P.fieldsOf zg).getD 0 default,(P.fieldsOf zg).getD 1 default]:=rK
 have e:((P.fieldsOf zg).getD 0 default).name≠ "_" :=by decide+kernel
 have f:((P.fieldsOf zg).getD 1 default).name≠ "_" :=by decide+kernel
 have i0:P.underlying ((P.fieldsOf zg).getD 0 default).type=some (.int .i64):=rK
 have i1:P.underlying ((P.fieldsOf zg).getD 1 default).type=some (.int .i64):=rK
 have g:∀x y:Value,(part ((P.fieldsOf zg).getD 0 default).type ⟨[x,y]⟩ ((P.fieldsOf zg).getD 0 default).offset).run P w= .ok x w:=λx y=>rK
 have p1:∀x y:Value,(part ((P.fieldsOf zg).getD 1 default).type ⟨[x,y]⟩ ((P.fieldsOf zg).getD 1 default).offset).run P w= .ok y w:=λx y=>rK
 have i:(Op.equalIn 10000 zg (qe a b) (qe c d)).run P w= .ok (decide (a=c/\b=d)) w:=by
  rw[run_equalIn_struct w 9999 zg _ _ rK rK,h];generalize (P.fieldsOf zg).getD 0 default=f0 at e i0 g⊢;generalize (P.fieldsOf zg).getD 1 default=f1 at f i1 p1⊢;simp only[Op.eqFields,X0 e,X0 f,Sem.run_bind,g,p1,Result.andThen_ok,run_equalIn_int w 9998 _ _ _ _ _ i0,run_equalIn_int w 9998 _ _ _ _ _ i1];by_cases j:a=c
  .by_cases k:b=d
   .simp_all[run_equalIn_int]
   simp_all[run_equalIn_int]
  simp_all
 rw[run_eql_struct,i];rfl
theorem VecCmp_spec {op wd n v m:Int} (i:∀w',Ext w w'->K (.tuple #[.bool (M.vecCmp op wd n v m).1,.bool (M.vecCmp op wd n v m).2]) w'):vcall UH #[nI op,qe wd n,qe v m] w K:=by
 refine ze {cuts:=[(8195,[])]} Tryz.func437 ?_;refine zj λb1 w1 A s D y=>?_;refine zj λb2 w2 B j E g2=>?_;have o:=s.trans j;have p:=y.ext j;have f:(M.vecCmp op wd n v m)=(false,false)->∀d,Ext w2 d->K (.tuple #[.bool false,.bool false]) d:=by
  intro e d a;have:=i d (o.trans a)
  grind
 refine zp (λu d=>u=[]/\Ext w2 d/\M.vok wd n=true/\M.vok v m=true/\wd=v) (λC z=>?_) ?_
 .simp only[push_cast,p.ldAgg (t:=zg) zt];refine VecOk_spec λd a=>?_;have g4:=g2.ext a;refine oZ ?_;refine zm (λF=>f ?_ _ a) (λF=>?_)
  .simp_all[M.vecCmp]
  .simp only[push_cast,g4.ldAgg (t:=zg) zt];refine VecOk_spec λG b=>?_;have g5:=g4.ext b;have r:=(p.ext a).ext b;refine oZ ?_;refine zm (λc=>f ?_ _ (a.trans b)) (λc=>?_)
   .simp_all[M.vecCmp]
   .simp only[push_cast,r.ld0,g5.ld0];refine zb (λl=>f ?_ _ (a.trans b)) (λl=>?_)
    .simp_all[M.vecCmp]
    .exact z _ _ ⟨rfl,a.trans b,by grind,by grind,oM⟩
 .rintro u g d ⟨rfl,a,h,c,rfl⟩;have q:=p.ext a;have g4:=g2.ext a;unfold M.vecCmp at i f;refine oZ ?_;refine zb (λl=>?_) (λl=>?_)
  .subst l;simp only[push_cast,q.ldAgg (t:=zg) zt,g4.ldAgg (t:=zg) zt];rw[eqVec];have:=i d (o.trans a)
   grind [M.cmpM]
  refine zb (λa2=>?_) (λa2=>?_)
  .subst a2;simp only[push_cast,q.ld1,g4.ld1];have:=i d (o.trans a);rw[X0 ⟨h,c,rfl,oM,oM⟩] at this;exact this
  refine zb (λa3=>?_) (λa3=>?_)
  .subst a3;refine zd λG b _=>?_;have r:=q.ext b;have g5:=g4.ext b;simp only[push_cast,r.ldAgg (t:=zg) zt,g5.ldAgg (t:=zg) zt,k5];refine VecSigned_spec λI k=>?_;have g6:=g5.ext k;simp only[push_cast,g6.ldAgg (t:=zg) zt,k5,gi];refine VecSigned_spec λH x=>?_;simp only[push_cast,X0 h,X0 c,k5];have:=i H (((o.trans a).trans b).trans (k.trans x));rw[X0 ⟨h,c,rfl,oM,oM⟩] at this;exact this
  grind
theorem VecCut_spec {wd n hi lo:Int} (i:∀w',Ext w w'->K (.tuple #[qe (M.vecCut wd n hi lo).1.1 (M.vecCut wd n hi lo).1.2,.bool (M.vecCut wd n hi lo).2]) w'):vcall UG #[qe wd n,nI hi,nI lo] w K:=by
 refine ze {cuts:=[(8195,[])]} Tryz.func446 ?_;refine zj λb1 w1 O j R J=>?_;refine zi zY λb3 B Q m S F=>?_;have L:=j.trans m;have W:=j.size;have v:=J.ext m;have p:∀c f,Ext B c->Same (· =b3) c f->Ext w f:=λc f h I=>Ext.then (L.trans h) I λy hy=>oM
 have d:(M.vecCut wd n hi lo)=((0,0),false)->∀c,Ext B c->zG zg (oP b3 0) (qe 0 0) c λ_ f=>vlv zg (oP b3 0) f λr D=>K (.tuple #[r,.bool false]) D:=by
  intro e c b;refine stVec (F.ext b) λf U _ Z=>?_;rw[Z.lv rK]
  grind
 unfold M.vecCut at i d;refine zp (λu c=>u=[]/\Ext B c/\M.vok wd n=true/\0<=lo/\lo<=hi/\hi<wd) (λC hC=>?_) ?_
 .simp only[push_cast,v.ldAgg (t:=zg) zt];refine VecOk_spec λc b=>?_;have x:=v.ext b;refine oZ ?_;refine zm (λs=>d ?_ _ b) (λs=>?_)
  .grind
  refine zb (λG=>d (y3 oM) _ b) (λG=>?_);refine zb (λa2=>d (y3 oM) _ b) (λa2=>?_);simp only[push_cast,x.ld0]
  grind [zb]
 .rintro u g c ⟨rfl,b,s,c1,c2,c3⟩;have x:=v.ext b;have Y:=F.ext b;obtain⟨k,a,rfl,rfl,k1,X,N⟩:=M.vok_nat s;obtain⟨l,rfl⟩:∃l:Nat,lo=l:=⟨lo.toNat,oM⟩;obtain⟨t,T⟩:∃t:Nat,hi-(l:Int)+1=t:=⟨(hi-l+1).toNat,oM⟩;have E:=pow16 X N;have H:IntKind.i64.wrap (IntKind.i64.wrap (hi-(l:Int))+1)=(t:Int):=(by grind [zk]);simp only[push_cast,x.ldAgg (t:=zg) zt,H];refine raw_spec oM λf o=>?_;have hd:=GI a (2^l);rw[vbin_shrU oM];refine cut_spec oM oM oM ?_;have hm:=Nat.mod_le (a/2^l) (2^t);have q:M.cutM (a:Int) hi (l:Int)=((a/2^l%2^t:Nat):Int):=by
   unfold M.cutM
   grind
  rw[X0 ⟨s,c1,c2,c3⟩] at i;simp only[q,T] at i;obtain⟨z,V⟩:∃z,z=a/2^l%2^t:=⟨_,rfl⟩;rw[<-V] at hm i⊢;rw[qI Kk Qo,wrapN oM];refine oZ ?_;refine stVec (Y.ext o) λD A _ r6=>?_;rw[r6.lv rK];exact i D (p _ _ (b.trans o) A)
end
section
variable {w:World} {K:oK} {F G:oA}
@[push_cast] theorem tn0:(0:Int).toNat=0:=rfl
@[push_cast] theorem tn1:(1:Int).toNat=1:=rfl
@[push_cast] theorem tn2:(2:Int).toNat=2:=rfl
theorem k40 {α:Type} (xs:List α) (d:α) (p:α->Bool):(List.range xs.length).any (λi=>p (xs.getD i d))=xs.any p:=by
 rw[P9,ph,ph];constructor
 .rintro⟨i,hi,a⟩;exact⟨_,M.getD_mem (gJ.1 hi) d,a⟩
 .rintro⟨x,b,a⟩;obtain⟨i,hi,rfl⟩:=gq b;exact⟨i,gJ.2 hi,by rw[y4,gd hi];exact a⟩
abbrev DclV (d:M.Dcl):Value:= .agg ⟨[.string d.1,nI d.2]⟩
abbrev yG0:M.Dcl:=(M.nada,0)
theorem IndexFunc_Decl {v f:Value} {ds:List M.Dcl} {p:Nat->Bool} (e:DclsR F w v ds) (m:∀i,i<ds.length->FnB w f #[DclV (ds.getD i yG0)] (p i))
  (k:∀w',Ext w w'->K (nI (idxI ds.length p)) w'):vcall qi #[v,f] w K:=by
 refine ze {loops:=[(2,[8])]} Tryz.func183 ?_;simp(disch:=exact oS) only[push_cast,e.len];have hlen:=e.small;refine vloop_up ds.length (λi u w'=>u=[nI i]/\Ext w w'/\∀j,j<i->p j=false) ⟨rfl,Same.refl _ _,oM⟩ ?_;rintro i _ g w1 C hi ⟨rfl,he,d⟩ l;refine oZ ?_;refine zb (λq=>?_) (λn=>?_)
 .have b:=e.ext he;simp(disch:=exact oS) only[push_cast,b.iaddr,b.load];refine m i oM w1 _ he λw2 a=>zm (λc=>?_) (λc=>?_)
  .have:=k w2 (he.trans a);rwa[idxI_some oM c d] at this
  .rw[inc64' oM];exact l oM _ _ ⟨rfl,he.trans a,λj o=>by
    by_cases h:j=i
    .subst h;exact c
    .exact d j oM⟩
 .have:=k w1 he;rwa[V7 (λj o=>d j oM)] at this
theorem Jk {v f:Value} {ds:List M.Dcl} {p:Nat->Bool} (c:DclsR F w v ds) (b:∀i,i<ds.length->FnB w f #[DclV (ds.getD i yG0)] (p i))
  (a:∀w',Ext w w'->K (.bool ((List.range ds.length).any p)) w'):vcall xV #[v,f] w K:=by
 refine ze {} Tryz.func122 ?_;refine IndexFunc_Decl c b λw' he=>?_;simp only[push_cast,XG];exact a w' he
theorem Xl {b:Bool} (a:K (nI (M.b2i b)) w):vcall UD #[.bool b] w K:=by
 refine ze {} Tryz.func264 ?_;refine zm (λh=>?_) (λh=>?_)<;>subst h<;>exact a
theorem Zm {b:Bool} {s:Int} (a:K (nI (if b=true then s else-1)) w):vcall Zs #[.bool b,nI s] w K:=by
 refine ze {} Tryz.func415 ?_;refine zm (λh=>?_) (λh=>?_)<;>subst h<;>exact a
theorem jc {p:Prop} [Decidable p] {s:Int} (a:K (nI (if p then s else-1)) w):vcall Zs #[.bool (decide p),nI s] w K:=
 Zm (by simpa using a)
theorem ki {s:Int} (a:K (nI (-1)) w):vcall Zs #[.bool false,nI s] w K:=Zm a
theorem qR {s:ByteArray} {n:Int} (c:∀w',Ext w w'->K (nI n) w'):vcall yn #[.agg ⟨[.string s,nI n]⟩] w K:=by
 refine ze {} Tryz.func411 ?_;refine zj λb1 w1 d a e b=>?_;simp only[push_cast,b.ld1];exact c _ a
abbrev KV (s:ByteArray) (n:Int):Value:= .agg ⟨[.string s,nI n]⟩
theorem unKind_sort_spec {s:ByteArray} {n:Int} {dv tv kv:Value} {t:M.Tm} {xs:oI} (k:TermR F w tv t) (l:Ints G w kv xs) (p:xs.length=1)
  (e:∀w',Ext w w'->K (nI (if 0<xs.getD 0 0 then xs.getD 0 0 else-1)) w'):vcall kP #[KV s n,dv,tv,kv] w K:=by
 refine ze {} Tryz.func413 ?_;obtain⟨ksv,rfl,h⟩:=k;refine zj λb1 w1 f a i m=>?_;refine zj λb2 w2 g b j o=>?_;refine zd λq c _=>?_;have d:=l.ext ((a.trans b).trans c);simp(disch:=exact oS) only[push_cast,d.iaddr,d.load,k5];exact jc (e _ ((a.trans b).trans c))
theorem binKind_sort_spec {s:ByteArray} {n:Int} {dv tv kv:Value} {t:M.Tm} {xs:oI} (m:TermR F w tv t) (o:Ints G w kv xs) (r:xs.length=2)
  (g:∀w',Ext w w'->K (nI (if 0<xs.getD 0 0/\xs.getD 0 0=xs.getD 1 0 then xs.getD 0 0 else-1)) w'):vcall kE #[KV s n,dv,tv,kv] w K:=by
 refine ze {} Tryz.func452 ?_;obtain⟨ksv,rfl,j⟩:=m;refine zj λb1 w1 h b k p=>?_;refine zj λb2 w2 i c l q=>?_;refine zd λu d _=>?_;have e:=o.ext ((b.trans c).trans d);have f:=g _ ((b.trans c).trans d);simp(disch:=exact oS) only[push_cast,e.iaddr,e.load,k5];refine zb (λa=>?_) (λa=>?_)
 .refine jc ?_;simpa only[a,k5] using f
 .refine ki ?_;simpa only[a,false_and,if_false] using f
theorem cmpKind_sort_spec {s:ByteArray} {n:Int} {dv tv kv:Value} {t:M.Tm} {xs:oI} (m:TermR F w tv t) (o:Ints G w kv xs) (r:xs.length=2)
  (g:∀w',Ext w w'->K (nI (if 0<xs.getD 0 0/\xs.getD 0 0=xs.getD 1 0 then 0 else-1)) w'):vcall kB #[KV s n,dv,tv,kv] w K:=by
 refine ze {} Tryz.func435 ?_;obtain⟨ksv,rfl,j⟩:=m;refine zj λb1 w1 h b k p=>?_;refine zj λb2 w2 i c l q=>?_;refine zd λu d _=>?_;have e:=o.ext ((b.trans c).trans d);have f:=g _ ((b.trans c).trans d);simp(disch:=exact oS) only[push_cast,e.iaddr,e.load,k5];refine zb (λa=>?_) (λa=>?_)
 .refine jc ?_;simpa only[a,k5] using f
 .refine ki ?_;simpa only[a,false_and,if_false] using f
theorem catKind_sort_spec {s:ByteArray} {n:Int} {dv tv kv:Value} {t:M.Tm} {xs:oI} (r:TermR F w tv t) (u:Ints G w kv xs) (y:xs.length=2) (h:∀i,-1<=xs.getD i 0/\xs.getD i 0<=4)
  (k:∀w',Ext w w'->K (nI (if 0<xs.getD 0 0/\0<xs.getD 1 0/\xs.getD 0 0+xs.getD 1 0<=4 then xs.getD 0 0+xs.getD 1 0 else-1)) w'):vcall kC #[KV s n,dv,tv,kv] w K:=by
 refine ze {} Tryz.func419 ?_;obtain⟨ksv,rfl,o⟩:=r;refine zj λb1 w1 l c p v=>?_;refine zj λb2 w2 m d q x=>?_;refine zd λB e _=>?_;have f:=u.ext ((c.trans d).trans e);have g:=k _ ((c.trans d).trans e);have z:=h 0;have A:=h 1;have j:IntKind.i64.wrap (xs.getD 0 0+xs.getD 1 0)=xs.getD 0 0+xs.getD 1 0:=zk oM oM;simp(disch:=exact oS) only[push_cast,f.iaddr,f.load,k5,j];refine zb (λa=>?_) (λa=>?_)
 .refine zb (λb=>?_) (λb=>?_)
  .refine jc ?_;simpa only[a,b,k5] using g
  .refine ki ?_;simpa only[b,false_and,and_false,if_false] using g
 .refine ki ?_;simpa only[a,false_and,if_false] using g
theorem ifKind_sort_spec {s:ByteArray} {n:Int} {dv tv kv:Value} {t:M.Tm} {xs:oI} (m:TermR F w tv t) (o:Ints G w kv xs) (r:xs.length=3)
  (g:∀w',Ext w w'->K (nI (if xs.getD 0 0=0/\xs.getD 1 0=xs.getD 2 0 then xs.getD 1 0 else-1)) w'):vcall kQ #[KV s n,dv,tv,kv] w K:=by
 refine ze {} Tryz.func447 ?_;obtain⟨ksv,rfl,j⟩:=m;refine zj λb1 w1 h b k p=>?_;refine zj λb2 w2 i c l q=>?_;refine zd λu d _=>?_;have e:=o.ext ((b.trans c).trans d);have f:=g _ ((b.trans c).trans d);simp(disch:=exact oS) only[push_cast,e.iaddr,e.load,k5];refine zb (λa=>?_) (λa=>?_)
 .refine jc ?_;simpa only[a,k5] using f
 .refine ki ?_;simpa only[a,false_and,if_false] using f
theorem QE {s:ByteArray} {n:Int} {dv tv kv:Value} {t:M.Tm} (q:TermR F w tv t)
  (j:∀w',Ext w w'->K (nI (if M.vok t.a t.b=true then t.a else-1)) w'):vcall ko #[KV s n,dv,tv,kv] w K:=by
 refine ze {} Tryz.func439 ?_;obtain⟨ksv,rfl,m⟩:=q;refine zj λb1 w1 k f o r=>?_;refine zj λb2 w2 l g p h=>?_;refine zd λu c _=>?_;have e:=h.ext c;simp(disch:=exact oS) only[push_cast,e.ld1,e.ld2,k5];refine VecOk_spec λv d=>?_;have i:=e.ext d;simp(disch:=exact oS) only[push_cast,i.ld1,k5,gi];exact Zm (j _ (((f.trans g).trans c).trans d))
theorem cutKind_sort_spec {s:ByteArray} {n:Int} {dv tv kv:Value} {t:M.Tm} {xs:oI} (y:TermR F w tv t) (z:Ints G w kv xs) (B:xs.length=1) (r:∀i,-1<=xs.getD i 0/\xs.getD i 0<=4)
  (m:∀w',Ext w w'->K (nI (if 0<=t.b/\t.b<=t.a/\t.a<xs.getD 0 0 then t.a-t.b+1 else-1)) w'):vcall kA #[KV s n,dv,tv,kv] w K:=by
 refine ze {} Tryz.func444 ?_;obtain⟨ksv,rfl,q⟩:=y;refine zj λb1 w1 o e u A=>?_;refine zj λb2 w2 p f v l=>?_;refine zd λD d _=>?_;have g:=z.ext ((e.trans f).trans d);have j:=l.ext d;have h:=m _ ((e.trans f).trans d);have C:=r 0;simp(disch:=exact oS) only[push_cast,j.ld1,j.ld2,g.iaddr,g.load,k5];refine zb (λa=>?_) (λa=>?_)
 .refine zb (λb=>?_) (λb=>?_)
  .by_cases c:t.a<xs.getD 0 0
   .have k:IntKind.i64.wrap (IntKind.i64.wrap (t.a-t.b)+1)=t.a-t.b+1:=(by rw[zk (x:=t.a-t.b) oM oM,zk oM oM]);rw[k];refine jc ?_;simpa only[a,b,c,k5] using h
   .refine jc ?_;simpa only[c,and_false,if_false] using h
  .refine ki ?_;simpa only[b,false_and,and_false,if_false] using h
 .refine ki ?_;simpa only[a,false_and,if_false] using h
theorem Qx {s:ByteArray} {n:Int} {f dv tv kv:Value} {t:M.Tm} {xs:oI} (q:TermR F w tv t) (r:Ints G w kv xs)
  (c:∀w',Ext w w'->K (nI (if xs.any (λx=>decide (x≠0)) then-1 else 0)) w'):vcall jP #[.agg ⟨[.string s,nI n,f]⟩,dv,tv,kv] w K:=by
 refine ze {} Tryz.func449 ?_;obtain⟨ksv,rfl,l⟩:=q;refine zj λb1 w1 j a m u=>?_;refine zj λb2 w2 k b o v=>?_;have e:=r.ext (a.trans b);refine jx (p:=λi=>decide (xs.getD i 0≠0)) e (λi hi=>?_) λy d=>?_
 .rw[V5 (by simpa using hi)];intro w' K he c;refine oZ ?_;refine ze {} Tryz.func451 ?_;refine oZ ?_;have:=c _ (Same.refl _ _);simpa using this
 .have g:=c _ ((a.trans b).trans d);rw[K3,k40 xs 0 (λx=>decide (x≠0))];refine oZ ?_;refine Zm ?_;cases h:xs.any λx=>decide (x≠0)<;>rw[h] at g<;>exact g
theorem nameKind_sort_spec {s:ByteArray} {n:Int} {dv tv kv:Value} {t:M.Tm} {ds:List M.Dcl} (B:TermR F w tv t) (u:DclsR G w dv ds)
  (h:∀w',Ext w w'->K (nI (if M.findD ds t.s<0 then-1 else(ds.getD (M.findD ds t.s).toNat yG0).2)) w'):vcall jH #[KV s n,dv,tv,kv] w K:=by
 refine ze {} Tryz.func441 ?_;obtain⟨ksv,rfl,x⟩:=B;refine zj λb1 w1 o d y C=>?_;refine zj λb2 w2 q e z k=>?_;refine oZ ?_;have b:=u.ext (d.trans e);refine IndexFunc_Decl (p:=λi=>decide ((ds.getD i yG0).1=t.s)) b (λi hi=>?_) λD f=>?_
 .intro w' K he h;refine oZ ?_;refine ze {} Tryz.func443 ?_;refine zj λb3 E r g A l=>?_;have m:=(k.ext he).ext g;simp(disch:=exact oS) only[push_cast,l.ld0,m.ld3];exact h _ g
 .have v:=M.findD_lt ds t.s;have j:=h _ ((d.trans e).trans f);have c:=b.ext f;have efd:idxI ds.length (λi=>decide ((ds.getD i yG0).1=t.s))=M.findD ds t.s:=rfl;rw[efd];refine oZ ?_;refine zb (λa=>?_) (λa=>?_)
  .rwa[X0 a] at j
  .rw[y3 a] at j;simp(disch:=exact oS) only[push_cast,c.iaddr];simp(disch:=exact oS) only[push_cast,c.load1];exact j
end
section
variable {w:World} {K:oK} {F:oA}
theorem l1Max_spec {a b:Int} (c:K (nI (max a b)) w):vcall yd0 #[nI a,nI b] w K:=by
 refine ze {} Tryz.func146 ?_;refine oZ ?_;refine zb (λh=>?_) (λh=>?_)
 .rwa[show max a b=a by omega] at c
 .rwa[show max a b=b by omega] at c
theorem l1Min_spec {a b:Int} (c:K (nI (min a b)) w):vcall yc0 #[nI a,nI b] w K:=by
 refine ze {} Tryz.func134 ?_;refine oZ ?_;refine zb (λh=>?_) (λh=>?_)
 .rwa[show min a b=a by omega] at c
 .rwa[show min a b=b by omega] at c
theorem pow62 {k:Nat} (h:k<=62):2^k<=4611686018427387904:=gY (gN oM h) dC
theorem l1Two_spec {n:Int} (h:n<=62) (l:K (nI ((2^n.toNat:Nat):Int)) w):vcall Jr #[nI n] w K:=by
 refine ze {loops:=[(3,[3,4])]} Tryz.func120 ?_;refine vloop_up n.toNat (λi u w'=>u=[nI (2^i:Nat),nI i]/\w'=w) ⟨rfl,rfl⟩ ?_;rintro i _ _ w1 C hi ⟨rfl,rfl⟩ e;have m:=pow62 (k:=i) oM;have c:((2^i:Nat):Int)*2=((2^(i+1):Nat):Int):=by rw[Nat.pow_succ];omega
 have b:i<n.toNat->2^(i+1)<=4611686018427387904:=λh=>pow62 oM;obtain⟨q,g⟩:∃q,q=2^i:=⟨_,rfl⟩;obtain⟨j,d⟩:∃j,j=2^(i+1):=⟨_,rfl⟩;rw[<-g] at c m⊢;rw[<-d] at c e b;refine oZ ?_;refine zb (λa=>?_) (λa=>?_)
 .have f:=b oM;rw[c,zk oM oM,inc64' oM];exact e oM _ _ ⟨rfl,rfl⟩
 .have:i=n.toNat:=oM;subst this;rw[g];exact l
theorem l1Two_nat {n:Nat} (h:n<=62) (a:K (nI ((2^n:Nat):Int)) w):vcall Jr #[nI (n:Int)] w K:=
 l1Two_spec oM (by rwa[gu])
theorem spec_VecOk_spec {wd n:Int} (j:∀w',Ext w w'->K (.bool (M.vok wd n)) w'):vcall yh0 #[qe wd n] w K:=by
 refine ze {} Tryz.func119 ?_;refine zj λb1 w1 k f l h=>?_;refine zd λw2 c _=>?_;have e:=h.ext c;have i:=f.trans c;simp only[push_cast,e.ld0,e.ld1,k5];have a:=j w2 i;refine zb (λd=>?_) (λd=>?_)
 .refine zb (λa2=>?_) (λa2=>?_)
  .refine zb (λa3=>?_) (λa3=>?_)
   .refine l1Two_spec oM ?_;obtain⟨q,g⟩:∃q,q=2^wd.toNat:=⟨_,rfl⟩;have b:M.vok wd n=decide (n<(q:Nat)):=by
     simp only[M.vok,gz d,gz a2,gz a3,pL];rw[g,WE]
    rw[<-g];simp only[push_cast,e.ld1,k5,gi];rw[b] at a;exact a
   .have b:M.vok wd n=false:=(by simp only[M.vok,gm a3,pW,GU]);rw[b] at a;exact a
  .have b:M.vok wd n=false:=(by simp only[M.vok,gm a2,pW,GU]);rw[b] at a;exact a
 .have b:M.vok wd n=false:=(by simp only[M.vok,gm d,GU]);rw[b] at a;exact a
theorem l1Bit_spec {n k:Nat} (d:n<9223372036854775808) (b:k<=62) (a:K (nI ((n/2^k%2:Nat):Int)) w):vcall ye0 #[nI (n:Int),nI (k:Int)] w K:=by
 refine ze {} Tryz.func83 ?_;refine l1Two_nat b ?_;have e:0<2^k:=Nat.pow_pos oM;have c:n/2^k<=n:=GI _ _;rw[kN oM,show(n:Int).tdiv ((2^k:Nat):Int)=((n/2^k:Nat):Int) from rfl,wrapN oM,Zk oM,show((n/2^k:Nat):Int).tmod 2=((n/2^k%2:Nat):Int) from rfl];exact a
theorem l1Mod_spec {n:Int} {k:Nat} (h:1<=k) (j:k<=4) (q: -4611686018427387904<=n) (p:n<=4611686018427387904) (f:K (nI (n%(2^k:Nat))) w):vcall yb0 #[nI n,nI (k:Int)] w K:=by
 refine ze {} Tryz.func298 ?_;refine l1Two_nat oM ?_;have o:=pow4 h j;obtain⟨m,hm⟩:∃m,m=2^k:=⟨_,rfl⟩;rw[<-hm] at o f⊢;rw[Zk oM];have g:m=2\/m=4\/m=8\/m=16:=by
  rcases(by omega:k=1\/k=2\/k=3\/k=4) with rfl|rfl|rfl|rfl<;>simp at hm<;>omega
 simp only[push_cast];by_cases l:0<=n
 .rw[pX l];have i:0<=n%(m:Int):=Int.emod_nonneg _ oM;refine zb (λa=>absurd a oM) (λa=>f)
 .obtain⟨b,rfl⟩:∃b:Nat,n= -(b:Int):=⟨(-n).toNat,oM⟩;rw[Int.neg_tmod,pX oM];have i:0<=(b:Int)%(m:Int):=Int.emod_nonneg _ oM;have h:(b:Int)%(m:Int)<m:=Int.emod_lt_of_pos _ oM;have e:(b:Int)%(m:Int)=0/\ -(b:Int)%(m:Int)=0\/0<(b:Int)%(m:Int)/\ -(b:Int)%(m:Int)= -((b:Int)%(m:Int))+m:=by
   rcases g with rfl|rfl|rfl|rfl<;>omega
  refine zb (λa=>?_) (λa=>?_)
  .rcases e with⟨d,c⟩|⟨d,c⟩
   .omega
   .rw[zk oM oM,<-c];exact f
  .rcases e with⟨d,c⟩|⟨d,c⟩
   .rw[d,show-(0:Int)=0 from rfl,<-c];exact f
   .omega
theorem l1Signed_spec {k a:Nat} (l:1<=k) (m:k<=4) (o:a<2^k) (i:∀w',Ext w w'->K (nI (M.sgn k a)) w'):vcall Ky #[qe k a] w K:=by
 refine ze {} Tryz.func299 ?_;have s:=pow4 l m;refine zj λb1 w1 p d u f=>?_;have n:IntKind.i64.wrap ((k:Int)-1)=((k-1:Nat):Int):=by rw[zk oM oM];omega
 simp only[push_cast,f.ld0,f.ld1,n];refine l1Bit_spec oM oM ?_;have b:=top_bit l m o;have v:=(WE k).symm;have j:(2:Int)^((k:Int).toNat-1)=((2^(k-1):Nat):Int):=by simp
 have h:a/2^(k-1)%2<2:=pS _ oM;obtain⟨z,x⟩:∃z,z=a/2^(k-1)%2:=⟨_,rfl⟩;rw[<-x] at b h⊢;refine oZ ?_;refine zb (λc=>?_) (λc=>?_)
 .refine zd λw2 e _=>?_;have g:=f.ext e;simp only[push_cast,g.ld0,g.ld1,k5];refine l1Two_nat oM ?_;have r: ¬a<2^(k-1):=by
   have:decide (z=1)=true:=gz oM;rw[this] at b;exact of_decide_eq_true b.symm
  have:=i w2 (d.trans e);unfold M.sgn at this;rw[y3 (by rw[j];omega),gu,v] at this;obtain⟨q,t⟩:∃q,q=2^k:=⟨_,rfl⟩;rw[<-t] at s this⊢;have hw:IntKind.i64.wrap ((a:Int)-(q:Int))=(a:Int)-(q:Int):=zk oM oM;simp only[push_cast,g.ld1,k5,hw];exact this
 .have r:a<2^(k-1):=by
   have:decide (z=1)=false:=gm oM;rw[this] at b;have:=of_decide_eq_false b.symm;omega
  have:=i w1 d;unfold M.sgn at this;rw[X0 (by rw[j];omega)] at this;simp only[push_cast,f.ld1];exact this
def zN (op x y:Nat):Nat:=if op=4 then x+y-x*y else if op=5 then(x+y)%2 else x*y
theorem zN_ck {op a b i:Nat} (d:3<=op) (g:op<=5) (e:a<16) (f:b<16) (hi:i<4):M.binN op 4 a b/2^(i+1)*2+zN op (a/2^i%2) (b/2^i%2)=M.binN op 4 a b/2^i:=by
 have c:∀o:Fin 6,∀i:Fin 4,3<=o.1->(List.range 16).all (λa=>(List.range 16).all λb=>decide (M.binN o.1 4 a b/2^(i.1+1)*2+zN o.1 (a/2^i.1%2) (b/2^i.1%2)=M.binN o.1 4 a b/2^i.1))=true:=by decide+kernel
 have:=c ⟨op,oM⟩ ⟨i,hi⟩ d;simp only[gQ,gJ,V0] at this;exact this a e b f
theorem zN_16 {op a b:Nat} (d:3<=op) (g:op<=5) (e:a<16) (f:b<16):M.binN op 4 a b<16:=by
 have c:∀o:Fin 6,3<=o.1->(List.range 16).all (λa=>(List.range 16).all λb=>decide (M.binN o.1 4 a b<16))=true:=by decide+kernel
 have:=c ⟨op,oM⟩ d;simp only[gQ,gJ,V0] at this;exact this a e b f
theorem l1Bits_spec {op a b:Nat} (D:3<=op) (E:op<=5) (H:a<16) (I:b<16) (G:K (nI ((M.binN op 4 a b:Nat):Int)) w):vcall Uo #[nI (op:Int),nI (a:Int),nI (b:Int)] w K:=by
 refine ze {loops:=[(3,[7,8])]} Tryz.func325 ?_;have k:=zN_16 D E H I;refine vloop_up 4 (λj u w'=>u=[nI ((M.binN op 4 a b/2^(4-j):Nat):Int),nI (3-(j:Int))]/\w'=w) ⟨by rw[show M.binN op 4 a b/2^(4-0)=0 from Nat.div_eq_of_lt k];rfl,rfl⟩ ?_;rintro j _ _ w1 C hj ⟨rfl,rfl⟩ F;obtain⟨f,J⟩:∃f,f=M.binN op 4 a b:=⟨_,rfl⟩;have m:∀i,i<4->f/2^(i+1)*2+zN op (a/2^i%2) (b/2^i%2)=f/2^i:=λi hi=>by rw[J];exact zN_ck D E H I hi
 rw[<-J] at F G k⊢;by_cases U:j<=3
 .obtain⟨i,hi⟩:∃i,i+j=3:=⟨3-j,oM⟩;have Q:4-j=i+1:=oM;have R:3-(j:Int)=(i:Int):=oM;have S:4-(j+1)=i:=oM;have T:3-((j+1:Nat):Int)=(i:Int)-1:=oM;have g:=F oM;rw[S,T] at g;rw[Q,R];have d:=m i oM;obtain⟨p,n⟩:∃p,p=f/2^(i+1):=⟨_,rfl⟩;obtain⟨q,o⟩:∃q,q=f/2^i:=⟨_,rfl⟩;have W:q<=f:=by rw[o];exact GI _ _
  have V:p<=f:=by rw[n];exact GI _ _
  rw[<-n,<-o] at d;rw[<-o] at g;rw[<-n];have ei:IntKind.i64.wrap ((i:Int)-1)=(i:Int)-1:=zk oM oM;refine oZ ?_;refine zb (λc=>?_) (λc=>absurd oM c);refine l1Bit_spec oM oM ?_;refine l1Bit_spec oM oM ?_;have Y:a/2^i%2<2:=pS _ oM;have Z:b/2^i%2<2:=pS _ oM;obtain⟨x,r⟩:∃x,x=a/2^i%2:=⟨_,rfl⟩;obtain⟨y,v⟩:∃y,y=b/2^i%2:=⟨_,rfl⟩;rw[<-r] at Y d⊢;rw[<-v] at Z d⊢;have t:x*y<=1:=by
   have:=z0e (show x<=1 by omega) (show y<=1 by omega);omega
  obtain⟨z,l⟩:∃z,z=x*y:=⟨_,rfl⟩;have A:(x:Int)*(y:Int)=(z:Int):=by rw[l];simp
  have L:z<=x/\z<=y:=by
   rcases(by omega:x=0\/x=1) with h|h<;>rcases(by omega:y=0\/y=1) with B|B<;>subst h<;>subst B<;>simp at l<;>omega
  rw[<-l] at t;unfold zN at d;rw[<-l] at d;simp only[push_cast,A];refine zb (λN=>?_) (λN=>?_)
  .rw[X0 oM] at d;rw[zk (x:=z) oM oM,zk (x:=(x:Int)+y) oM oM,zk (x:=(x:Int)+y-z) oM oM,zk (x:=(p:Int)*2) oM oM,zk (x:=(p:Int)*2+((x:Int)+y-z)) oM oM,ei,show(p:Int)*2+((x:Int)+y-z)=(q:Int) by omega];exact g _ _ ⟨rfl,rfl⟩
  rw[y3 oM] at d;refine zb (λO=>?_) (λO=>?_)
  .rw[X0 oM] at d;rw[zk (x:=(x:Int)+y) oM oM,Zk oM,show(x:Int)+(y:Int)=((x+y:Nat):Int) by omega,show((x+y:Nat):Int).tmod 2=(((x+y)%2:Nat):Int) from rfl];obtain⟨s,hs⟩:∃s,s=(x+y)%2:=⟨_,rfl⟩;have X:s<2:=oM;rw[<-hs] at d⊢;refine oZ ?_;rw[zk (x:=(p:Int)*2) oM oM,zk (x:=(p:Int)*2+s) oM oM,ei,show(p:Int)*2+(s:Int)=(q:Int) by omega];exact g _ _ ⟨rfl,rfl⟩
  .rw[y3 oM] at d;rw[zk (x:=z) oM oM,zk (x:=(p:Int)*2) oM oM,zk (x:=(p:Int)*2+z) oM oM,ei,show(p:Int)*2+(z:Int)=(q:Int) by omega];exact g _ _ ⟨rfl,rfl⟩
 .have:j=4:=oM;subst this;have e:f/2^(4-4)=f:=Nat.div_one _;rw[e];refine oZ ?_;exact G
end
section
variable {w:World} {K:oK} {F:oA}
theorem nat_ck {p:Nat->Nat->Nat->Bool} (h:∀v:Fin 5,(List.range 16).all (λa=>(List.range 16).all λb=> !(decide (1<=v.1)&&decide (a<2^v.1))||p v.1 a b)=true) {k a b:Nat} (c:1<=k) (d:k<=4) (e:a<2^k) (f:b<16):p k a b=true:=by
 have:=h ⟨k,oM⟩;simp only[gQ,gJ,Gm,gS,GH,decide_eq_false_iff_not] at this
 grind [pow16]
theorem shl_ck {k a b:Nat} (c:1<=k) (d:k<=4) (e:a<2^k) (f:b<16):a*2^min b k%2^k=M.binN 11 k a b:=
 of_decide_eq_true (nat_ck (p:=λk a b=>decide (a*2^min b k%2^k=M.binN 11 k a b)) (by decide+kernel) c d e f)
theorem shr_ck {k a b:Nat} (c:1<=k) (d:k<=4) (e:a<2^k) (f:b<16):a/2^min b k=M.binN 12 k a b:=
 of_decide_eq_true (nat_ck (p:=λk a b=>decide (a/2^min b k=M.binN 12 k a b)) (by decide+kernel) c d e f)
theorem sar_ck {k a b:Nat} (c:1<=k) (d:k<=4) (e:a<2^k) (f:b<16):(if a/2^(k-1)%2=0 then a/2^min b k else 2^k-1-(2^k-1-a)/2^min b k)=M.binN 13 k a b:=
 of_decide_eq_true (nat_ck (p:=λk a b=>decide ((if a/2^(k-1)%2=0 then a/2^min b k else 2^k-1-(2^k-1-a)/2^min b k)=M.binN 13 k a b)) (by decide+kernel) c d e f)
theorem l1Shift_spec {op k a b:Nat} (H:11<=op) (I:op<=13) (u:1<=k) (p:k<=4) (r:a<2^k) (A:b<16) (y:∀w',Ext w w'->K (nI ((M.binN op k a b:Nat):Int)) w'):vcall X9 #[nI (op:Int),qe k a,nI (b:Int)] w K:=by
 refine ze {} Tryz.func326 ?_;have N:=pow4 u p;have s:=pow16 p r;refine zj λb1 w1 J i O l=>?_;simp only[push_cast,l.ld0];refine l1Min_spec ?_;obtain⟨n,E⟩:∃n,n=min b k:=⟨_,rfl⟩;have L:n<=k:=oM
 rw[show min (b:Int) (k:Int)=(n:Int) by omega];have j:1<=2^n/\2^n<=16:=by grind [Nat.pow_pos,Nat.le_trans,Nat.pow_le_pow_right]
 try simp only[push_cast]
 refine zb (λc=>?_) (λc=>?_)
 .have:op=11:=oM;subst this;have f:=shl_ck u p r A;rw[<-E] at f;refine zd λw2 g _=>?_;have h:=l.ext g;simp only[push_cast,h.ld0,h.ld1,k5];refine l1Two_nat oM ?_;obtain⟨q,o⟩:∃q,q=2^n:=⟨_,rfl⟩;rw[<-o] at f j⊢;have hm:=mul225 s (show q-1<16 by omega);have t:a*q=a*(q-1)+a:=by rw[<-Nat.mul_succ];grind
  obtain⟨x,Q⟩:∃x,x=a*q:=⟨_,rfl⟩;have e:IntKind.i64.wrap ((a:Int)*(q:Int))=(x:Int):=by
   grind [wrapN]
  rw[<-Q] at f;simp only[push_cast,h.ld0,h.ld1,k5,gi,e];refine l1Mod_spec u p oM oM ?_;rw[show(x:Int)%((2^k:Nat):Int)=((x%2^k:Nat):Int) from rfl,f];exact y _ (i.trans g)
 refine zb (λc2=>?_) (λc2=>?_)
 .have:op=12:=oM;subst this;have f:=shr_ck u p r A;rw[<-E] at f;refine zd λw2 g _=>?_;have h:=l.ext g;simp only[push_cast,h.ld1,k5];refine l1Two_nat oM ?_;obtain⟨q,o⟩:∃q,q=2^n:=⟨_,rfl⟩;rw[<-o] at f j⊢;have B:=GI a q;simp only[push_cast,h.ld1,k5,gi];rw[kN oM,show(a:Int).tdiv (q:Int)=((a/q:Nat):Int) from rfl,wrapN oM,f];exact⟨rfl,y _ (i.trans g)⟩
 .have:op=13:=oM;subst this;have f:=sar_ck u p r A;rw[<-E] at f;have G:IntKind.i64.wrap ((k:Int)-1)=((k-1:Nat):Int):=(by grind [zk]);simp only[push_cast,l.ld0,l.ld1,G];refine l1Bit_spec oM oM ?_;obtain⟨z,R⟩:∃z,z=a/2^(k-1)%2:=⟨_,rfl⟩;rw[<-R] at f⊢;refine oZ ?_;refine zb (λc3=>?_) (λc3=>?_)
  .rw[X0 oM] at f;refine zd λw2 g _=>?_;have h:=l.ext g;simp only[push_cast,h.ld1,k5];refine l1Two_nat oM ?_;obtain⟨q,o⟩:∃q,q=2^n:=⟨_,rfl⟩;rw[<-o] at f j⊢;have B:=GI a q;simp only[push_cast,h.ld1,k5,gi];rw[kN oM,show(a:Int).tdiv (q:Int)=((a/q:Nat):Int) from rfl,wrapN oM,f];exact⟨rfl,y _ (i.trans g)⟩
  .rw[y3 oM] at f;simp only[push_cast,l.ld0];refine l1Two_nat oM ?_;obtain⟨m,hm⟩:∃m,m=2^k:=⟨_,rfl⟩;rw[<-hm] at f N r⊢;have F:IntKind.i64.wrap ((m:Int)-1)=((m-1:Nat):Int):=(by grind [zk]);have v:IntKind.i64.wrap (((m-1:Nat):Int)-(a:Int))=((m-1-a:Nat):Int):=(by grind [zk]);obtain⟨m1,D⟩:∃m1,m1=m-1:=⟨_,rfl⟩;rw[<-D] at F v f;obtain⟨m2,t⟩:∃m2,m2=m1-a:=⟨_,rfl⟩;rw[<-t] at v f;simp only[push_cast,F];refine zd λw2 g _=>?_;have h:=l.ext g;simp only[push_cast,h.ld1,k5,v];refine l1Two_nat oM ?_;obtain⟨q,o⟩:∃q,q=2^n:=⟨_,rfl⟩;rw[<-o] at f j⊢;have B:=GI m2 q;simp only[push_cast,h.ld1,k5,gi,v];rw[kN oM,show(m2:Int).tdiv (q:Int)=((m2/q:Nat):Int) from rfl,wrapN oM];refine⟨rfl,?_⟩;obtain⟨d,C⟩:∃d,d=m2/q:=⟨_,rfl⟩;rw[<-C] at f B⊢;refine oZ ?_;rw[zk oM oM,show(m1:Int)-(d:Int)=((m1-d:Nat):Int) by omega,f];exact⟨trivial,y _ (i.trans g)⟩
theorem bin4 {op k a b:Nat} (c:3<=op) (d:op<=5):M.binN op 4 a b=M.binN op k a b:=by
 grind [M.binN]
theorem l1Bin_spec {k a l b:Nat} {op:Int} (s:1<=k) (n:k<=4) (N:a<2^k) (Y:l<=4) (O:b<2^l) (B:∀w' (r:Int),Ext w w'->3<=op->op<=13->(k=l->r=((M.binN op.toNat k a b:Nat):Int))->K (.tuple #[nI r,.bool true]) w')
  (T:∀w',Ext w w'->¬(3<=op/\op<=13)->K (.tuple #[nI 0,.bool false]) w'):vcall yf0 #[nI op,qe k a,qe l b] w K:=by
 refine ze {cuts:=[(12293,[9])]} Tryz.func300 ?_;have U:=pow4 s n;have i:=pow16 n N;have h:=pow16 Y O;refine zj λb1 w1 R F V Q=>?_;refine zj λb2 w2 S q W g2=>?_;have f:=Q.ext q;have A:=F.trans q;refine zp (λu w'=>u=[.bool (decide (3<=op/\op<=5))]/\w'=w2) (λC hC=>?_) ?_
 .refine oZ ?_;refine zb (λc=>?_) (λc=>?_)
  .grind
  refine zb (λc2=>?_) (λc2=>?_)
  .grind
  grind [decide_eq_false]
 .rintro u g w3 ⟨rfl,rfl⟩;refine oZ ?_;refine zb (λc=>?_) (λc=>?_)
  .simp only[push_cast,f.ld1,g2.ld1];obtain⟨o,rfl⟩:∃o:Nat,op=o:=⟨op.toNat,oM⟩;refine l1Bits_spec oM oM i h ?_
   grind [bin4]
  refine zb (λH=>?_) (λH=>?_)
  .subst H;simp only[push_cast,f.ld0,f.ld1,g2.ld1];rw[zk (x:=(a:Int)+b) oM oM];refine l1Mod_spec s n oM oM ?_;refine B _ _ A oM oM λe=>?_;show _=(((a+b)%2^k:Nat):Int)
   grind
  refine zb (λI=>?_) (λI=>?_)
  .subst I;simp only[push_cast,f.ld0,f.ld1,g2.ld1];rw[zk (x:=(a:Int)-b) oM oM];refine l1Mod_spec s n oM oM ?_;refine B _ _ A oM oM λe=>?_;subst e;show _=(((a+2^k-b)%2^k:Nat):Int);rcases(by omega:k=1\/k=2\/k=3\/k=4) with rfl|rfl|rfl|rfl<;>simp at O⊢ <;>omega
  refine zb (λJ=>?_) (λJ=>?_)
  .subst J;have hm:=mul225 i h;simp only[push_cast,f.ld0,f.ld1,g2.ld1];rw[show(a:Int)*(b:Int)=((a*b:Nat):Int) by simp,wrapN oM];refine l1Mod_spec s n oM oM ?_;exact B _ _ A oM oM λe=>rfl
  refine zb (λL=>?_) (λL=>?_)
  .subst L;simp only[push_cast,g2.ld1];refine zb (λd=>?_) (λd=>?_)
   .have j:b=0:=oM;subst j;simp only[push_cast,f.ld0];refine l1Two_nat oM ?_;obtain⟨m,hm⟩:∃m,m=2^k:=⟨_,rfl⟩;rw[<-hm] at U⊢;simp only[push_cast]
    grind [zk,M.binN]
   .simp only[push_cast,f.ld1,g2.ld1];have hd:=GI a b;rw[kN oM,show(a:Int).tdiv (b:Int)=((a/b:Nat):Int) from rfl,wrapN oM]
    grind [M.binN]
  refine zb (λp=>?_) (λp=>?_)
  .subst p;simp only[push_cast,g2.ld1];refine zb (λd=>?_) (λd=>?_)
   .have j:b=0:=oM;subst j;simp only[push_cast,f.ld1]
    grind [M.binN]
   .simp only[push_cast,f.ld1,g2.ld1];rw[Zk oM,show(a:Int).tmod (b:Int)=((a%b:Nat):Int) from rfl]
    grind [M.binN]
  have X:∀o:Nat,11<=o->o<=13->op=o->zu zg (oP b1 0) w3 λt80 v=>zu zE (oP b2 1) v λt82 y=>vcall X9 #[nI op,t80,t82] y λt83 z=>K (.tuple #[t83,.bool true]) z:=by
   intro o Z o2 e;subst e;simp only[push_cast,f.ldAgg (t:=zg) zt,g2.ld1];refine l1Shift_spec Z o2 s n N h λw4 G=>?_;exact B _ _ (A.trans G) oM oM λe=>rfl
  refine zb (λD=>?_) (λD=>?_)
  .grind [YZ0]
  refine zb (λE=>?_) (λE=>?_)
  .grind [YZ0]
  grind [zb]
theorem spec_VecUn_spec {op wd n:Int} (E:∀w',Ext w w'->K (.tuple #[qe (M.vecUn op wd n).1.1 (M.vecUn op wd n).1.2,.bool (M.vecUn op wd n).2]) w'):vcall yg0 #[nI op,qe wd n] w K:=by
 refine ze {} Tryz.func271 ?_;refine zj λb1 w1 G g J C=>?_;refine zi zY λb2 w2 H f L g2=>?_;have q:=C.ext f;simp only[push_cast,q.ldAgg (t:=zg) zt];refine spec_VecOk_spec λN d=>?_;have r:=q.ext d;have g3:=g2.ext d;have D:=(g.trans f).trans d;have s:∀e o,Ext N e->Same (· =b2) e o->Ext w o:=λe o h B=>Ext.then (D.trans h) B λy Q=>oM
 simp only[push_cast];unfold M.vecUn at E;refine zm (λi=>?_) (λi=>?_)
 .refine stVec g3 λe j _ g4=>?_;rw[g4.lv rK]
  grind [Same.refl]
 .rw[gW] at i;obtain⟨k,a,rfl,rfl,u,v,F⟩:=M.vok_nat i;have I:=pow4 u v;refine zb (λp=>?_) (λp=>?_)
  .subst p;refine zd λe b _=>?_;have c:=r.ext b;simp only[push_cast,c.ld0,c.ld1,k5];refine l1Two_nat oM ?_;have hu:M.unM 1 (k:Int) (a:Int)=((2^k:Nat):Int)-1-a:=(by simp[M.unM]);obtain⟨m,hm⟩:∃m,m=2^k:=⟨_,rfl⟩;rw[<-hm] at I hu F⊢;have z:IntKind.i64.wrap ((m:Int)-1)=(m:Int)-1:=zk oM oM;have A:IntKind.i64.wrap ((m:Int)-1-(a:Int))=(m:Int)-1-a:=zk oM oM;simp only[push_cast,c.ld0,c.ld1,k5,gi,z,A];refine stVec (g3.ext b) λO l _ g7=>?_;rw[g7.lv rK]
   grind
  refine zb (λa2=>?_) (λa2=>?_)
  .subst a2;refine zd λe b _=>?_;have c:=r.ext b;have x:IntKind.i64.wrap (0-(a:Int))=0-(a:Int):=zk oM oM;simp only[push_cast,c.ld0,c.ld1,k5,x];refine l1Mod_spec u v oM oM ?_;have hu:M.unM 2 (k:Int) (a:Int)=(0-(a:Int))%((2^k:Nat):Int):=by
    simp_all[M.unM]
   obtain⟨m,hm⟩:∃m:Int,m=(0-(a:Int))%((2^k:Nat):Int):=⟨_,rfl⟩;rw[<-hm] at hu⊢;simp only[push_cast,c.ld0,k5,gi];refine stVec (g3.ext b) λO l _ g7=>?_;rw[g7.lv rK]
   grind
  .refine stVec g3 λe j _ g4=>?_;rw[g4.lv rK]
   grind [Same.refl]
theorem spec_VecBin_spec {op wd n v m:Int} (B:∀w',Ext w w'->K (.tuple #[qe (M.vecBin op wd n v m).1.1 (M.vecBin op wd n v m).1.2,.bool (M.vecBin op wd n v m).2]) w'):vcall Ur #[nI op,qe wd n,qe v m] w K:=by
 refine ze {cuts:=[(8195,[])]} Tryz.func273 ?_;refine zj λb1 w1 a0 F a5 h1=>?_;refine zj λb2 w2 a3 x a6 g2=>?_;refine zi zY λb3 T a4 z a7 r3=>?_;have hE:=(F.trans x).trans z;have a9:=F.size;have aa:=x.size;have V:=(h1.ext x).ext z;have g3:=g2.ext z;have p:∀i j,Ext T i->Same (· =b3) i j->Ext w j:=λi j h h'=>Ext.then (hE.trans h) h' λy hy=>oM
 have f:(M.vecBin op wd n v m)=((0,0),false)->∀i,Ext T i->zG zg (oP b3 0) (qe 0 0) i λ_ j=>vlv zg (oP b3 0) j λr w6=>K (.tuple #[r,.bool false]) w6:=by
  intro e i c;refine stVec (r3.ext c) λj a8 _ r5=>?_;rw[r5.lv rK]
  grind
 refine zp (λu i=>u=[]/\Ext T i/\M.vok wd n=true/\M.vok v m=true) (λC hC=>?_) ?_
 .simp only[push_cast,V.ldAgg (t:=zg) zt];refine spec_VecOk_spec λi c=>?_;have g4:=g3.ext c;refine oZ ?_;refine zm (λhv=>f ?_ _ c) (λhv=>?_)
  .simp_all[M.vecBin]
  .simp only[push_cast,g4.ldAgg (t:=zg) zt];refine spec_VecOk_spec λj d=>?_;refine oZ ?_;refine zm (λo=>f ?_ _ (c.trans d)) (λo=>?_)
   .simp_all[M.vecBin]
   .exact hC _ _ ⟨rfl,c.trans d,by grind,by grind⟩
 .rintro u g i ⟨rfl,c,G,o⟩;have H:=V.ext c;have g4:=g3.ext c;have r4:=r3.ext c;obtain⟨k,a,rfl,rfl,k1,Z,W⟩:=M.vok_nat G;obtain⟨l,b,rfl,rfl,l1,R,X⟩:=M.vok_nat o;have D:=pow16 Z W;have Y:=pow16 R X;unfold M.vecBin at B f;rw[X0 ⟨G,o⟩] at B f;refine oZ ?_;refine zb (λI=>?_) (λI=>?_)
  .rw[X0 I] at B f;have L:IntKind.i64.wrap ((k:Int)+(l:Int))=(k:Int)+(l:Int):=zk oM oM;simp only[push_cast,H.ld0,g4.ld0,L];refine zb (λa2=>f (y3 oM) _ c) (λa2=>?_);refine zd λj d _=>?_;have s:=H.ext d;have g5:=g4.ext d;simp only[push_cast,s.ld0,s.ld1,g5.ld0,g5.ld1,k5,L];refine l1Two_nat oM ?_;have O:=pow4 l1 R;have E:M.catM (l:Int) (a:Int) (b:Int)=(a:Int)*((2^l:Nat):Int)+b:=(by simp[M.catM]);have hm:=mul225 D (show 2^l-1<16 by omega);have Q:a*2^l=a*(2^l-1)+a:=by rw[<-Nat.mul_succ];grind
   obtain⟨q,hq⟩:∃q,q=2^l:=⟨_,rfl⟩;rw[<-hq] at E hm Q O⊢;have hz:(a:Int)*(q:Int)=((a*q:Nat):Int):=(by simp);have e2:IntKind.i64.wrap ((a:Int)*(q:Int))=(a:Int)*(q:Int):=zk oM oM;have e3:IntKind.i64.wrap ((a:Int)*(q:Int)+(b:Int))=(a:Int)*(q:Int)+b:=zk oM oM;simp only[push_cast,s.ld0,s.ld1,g5.ld0,g5.ld1,k5,L,e2,e3,gi];refine stVec (r4.ext d) λU A _ S=>?_;rw[S.lv rK];have:=B U (p _ _ (c.trans d) A)
   grind
  .rw[y3 I] at B f;simp only[push_cast,H.ldAgg (t:=zg) zt,g4.ldAgg (t:=zg) zt];refine l1Bin_spec k1 Z W R X (λj r d c3 J hr=>?_) λj d hn=>?_
   .have s:=H.ext d;have g5:=g4.ext d;simp only[push_cast,s.ld0,g5.ld0,Gp];refine zb (λa2=>f (y3 oM) _ (c.trans d)) (λa2=>?_);have N:k=l:=oM;subst N
    try simp only[push_cast,s.ld0]
    refine stVec (r4.ext d) λU A _ S=>?_;rw[S.lv rK];have:=B U (p _ _ (c.trans d) A);rw[X0 ⟨c3,J,rfl⟩] at this;rw[hr rfl];exact this
   .simp only[push_cast,Pj];exact f (y3 (λh=>hn ⟨h.1,h.2.1⟩)) _ (c.trans d)
theorem spec_VecCmp_spec {op wd n v m:Int} (o:∀w',Ext w w'->K (.tuple #[.bool (M.vecCmp op wd n v m).1,.bool (M.vecCmp op wd n v m).2]) w'):vcall Uq #[nI op,qe wd n,qe v m] w K:=by
 refine ze {cuts:=[(8195,[])]} Tryz.func272 ?_;refine zj λb1 w1 L A O G=>?_;refine zj λb2 w2 N p Q g2=>?_;have s:=A.trans p;have x:=G.ext p;have i:(M.vecCmp op wd n v m)=(false,false)->∀h,Ext w2 h->K (.tuple #[.bool false,.bool false]) h:=by
  intro e h c;have:=o h (s.trans c)
  grind
 refine zp (λu h=>u=[]/\Ext w2 h/\M.vok wd n=true/\M.vok v m=true/\wd=v) (λC H=>?_) ?_
 .simp only[push_cast,x.ldAgg (t:=zg) zt];refine spec_VecOk_spec λh c=>?_;have g4:=g2.ext c;refine oZ ?_;refine zm (λR=>i ?_ _ c) (λR=>?_)
  .simp_all[M.vecCmp]
  .simp only[push_cast,g4.ldAgg (t:=zg) zt];refine spec_VecOk_spec λS d=>?_;have g5:=g4.ext d;have z:=(x.ext c).ext d;refine oZ ?_;refine zm (λf=>i ?_ _ (c.trans d)) (λf=>?_)
   .simp_all[M.vecCmp]
   .simp only[push_cast,z.ld0,g5.ld0];refine zb (λr=>i ?_ _ (c.trans d)) (λr=>?_)
    .simp_all[M.vecCmp]
    .exact H _ _ ⟨rfl,c.trans d,by grind,by grind,oM⟩
 .rintro u g h ⟨rfl,c,j,f,rfl⟩;have y:=x.ext c;have g4:=g2.ext c;unfold M.vecCmp at o i;refine oZ ?_;refine zb (λr=>?_) (λr=>?_)
  .subst r;simp only[push_cast,y.ld1,g4.ld1];have:=o h (s.trans c);rw[X0 ⟨j,f,rfl,oM,oM⟩] at this;exact this
  refine zb (λa2=>?_) (λa2=>?_)
  .subst a2;simp only[push_cast,y.ld1,g4.ld1];have:=o h (s.trans c);rw[X0 ⟨j,f,rfl,oM,oM⟩] at this;exact this
  refine zb (λa3=>?_) (λa3=>?_)
  .subst a3;obtain⟨k,a,rfl,rfl,E,F,I⟩:=M.vok_nat j;obtain⟨l,b,U,rfl,V,W,J⟩:=M.vok_nat f;have D:l=k:=oM;subst D;refine zd λS d _=>?_;have z:=y.ext d;have g5:=g4.ext d;simp only[push_cast,z.ldAgg (t:=zg) zt,g5.ldAgg (t:=zg) zt,k5];refine l1Signed_spec E F I λX q=>?_;have g6:=g5.ext q;simp only[push_cast,g6.ldAgg (t:=zg) zt,k5,gi];refine l1Signed_spec E F J λT B=>?_;simp only[push_cast,k5];have:=o T (((s.trans c).trans d).trans (q.trans B));rw[X0 ⟨j,f,rfl,oM,oM⟩] at this;exact this
  grind
theorem spec_VecCut_spec {wd n hi lo:Int} (i:∀w',Ext w w'->K (.tuple #[qe (M.vecCut wd n hi lo).1.1 (M.vecCut wd n hi lo).1.2,.bool (M.vecCut wd n hi lo).2]) w'):vcall Up #[qe wd n,nI hi,nI lo] w K:=by
 refine ze {cuts:=[(8195,[])]} Tryz.func270 ?_;refine zj λb1 w1 X o a0 U=>?_;refine zi zY λb3 L Y p a3 Q=>?_;have V:=o.trans p;have a5:=o.size;have B:=U.ext p;have s:∀c m,Ext L c->Same (· =b3) c m->Ext w m:=λc m h T=>Ext.then (V.trans h) T λy hy=>oM
 have f:(M.vecCut wd n hi lo)=((0,0),false)->∀c,Ext L c->zG zg (oP b3 0) (qe 0 0) c λ_ m=>vlv zg (oP b3 0) m λr N=>K (.tuple #[r,.bool false]) N:=by
  intro e c b;refine stVec (Q.ext b) λm a4 _ r5=>?_;rw[r5.lv rK]
  grind
 unfold M.vecCut at i f;refine zp (λu c=>u=[]/\Ext L c/\M.vok wd n=true/\0<=lo/\lo<=hi/\hi<wd) (λC hC=>?_) ?_
 .simp only[push_cast,B.ldAgg (t:=zg) zt];refine spec_VecOk_spec λc b=>?_;have D:=B.ext b;refine oZ ?_;refine zm (λA=>f ?_ _ b) (λA=>?_)
  .grind
  refine zb (λR=>f (y3 oM) _ b) (λR=>?_);refine zb (λa2=>f (y3 oM) _ b) (λa2=>?_);simp only[push_cast,D.ld0]
  grind [zb]
 .rintro u g c ⟨rfl,b,A,c1,c2,c3⟩;have D:=B.ext b;have r4:=Q.ext b;obtain⟨k,a,rfl,rfl,k1,k4,W⟩:=M.vok_nat A;obtain⟨l,rfl⟩:∃l:Nat,lo=l:=⟨lo.toNat,oM⟩;obtain⟨t,ht⟩:∃t:Nat,hi-(l:Int)+1=t:=⟨(hi-l+1).toNat,oM⟩;have O:=pow16 k4 W;have S:IntKind.i64.wrap (IntKind.i64.wrap (hi-(l:Int))+1)=(t:Int):=(by grind [zk]);simp only[push_cast,S];refine zd λm j _=>?_;have E:=D.ext j;simp only[push_cast,E.ld1,k5];refine l1Two_nat oM ?_;have v:M.cutM (a:Int) hi (l:Int)=((a/2^l%2^t:Nat):Int):=by
   unfold M.cutM
   grind
  rw[X0 ⟨A,c1,c2,c3⟩] at i;simp only[v,ht] at i;have G:0<2^l:=(by grind);have H:0<2^t:=oM;obtain⟨q,hq⟩:∃q,q=2^l:=⟨_,rfl⟩;rw[<-hq] at G i⊢;have Z:=GI a q;have eQ:∀(w:World) (K:oK),qu .quo zE false (nI (a:Int)) (nI (q:Int)) w K=K (nI ((a/q:Nat):Int)) w:=λw K=>by
   rw[kN oM,show(a:Int).tdiv (q:Int)=((a/q:Nat):Int) from rfl,wrapN oM]
  obtain⟨d,F⟩:∃d,d=a/q:=⟨_,rfl⟩;rw[<-F] at eQ Z i;simp only[push_cast,E.ld1,k5,gi,eQ];refine l1Two_nat oM ?_;obtain⟨x,I⟩:∃x,x=2^t:=⟨_,rfl⟩;rw[<-I] at H i⊢;have eR:∀(w:World) (K:oK),qu .rem zE false (nI (d:Int)) (nI (x:Int)) w K=K (nI ((d%x:Nat):Int)) w:=λw K=>by
   grind [Zk]
  obtain⟨z,hz⟩:∃z,z=d%x:=⟨_,rfl⟩;rw[<-hz] at i eR;simp only[push_cast,E.ld1,k5,gi,eQ,eR];refine stVec (r4.ext j) λN J _ r6=>?_;rw[r6.lv rK];exact i N (s _ _ (b.trans j) J)
end
section
variable {w:World} {K:oK} {F G:oA}
theorem unKind_value_spec {s:ByteArray} {n:Int} {ev tv kv:Value} {t:M.Tm} {xs:List (Int×Int)} (R:TermR F w tv t) (S:PairsR G w kv xs) (Z:xs.length=1)
  (I:∀w',Ext w w'->K (nI (M.vecUn t.op (xs.getD 0 (0,0)).1 (xs.getD 0 (0,0)).2).1.2) w'):vcall kp #[KV s n,ev,tv,kv] w K:=by
 refine ze {cuts:=[(8194,[9])]} Tryz.func414 ?_;obtain⟨ksv,rfl,N⟩:=R;refine zj λb1 w1 J m O Y=>?_;refine zj λb2 w2 L o Q B=>?_;have z:=m.trans o;have hz:=z.size;refine zp (λu w'=> ∃b wd,u=[oP b 0]/\Ext w w'/\Blk w' b [nI wd,nI (M.vecUn t.op (xs.getD 0 (0,0)).1 (xs.getD 0 (0,0)).2).1.2] zg) (λC x=>?_) ?_
 .refine zd λV d _=>?_;have c:=z.trans d;have e:=S.ext c;have j:=B.ext d;have T:=c.size;simp(disch:=exact oS) only[push_cast,j.ld0,e.iaddr,e.load,k5,Gh];refine⟨?_,?_⟩
  .refine VecUn_spec λw4 f=>?_;have U:=f.size;simp only[push_cast,k5];refine zi zY λA W l a p k=>?_
   try simp only[push_cast,k5,gi]
   refine stVec k λX q _ E=>?_
   try simp only[push_cast,k5,gi]
   exact x _ _ ⟨_,_,rfl,Ext.then ((c.trans f).trans a) q λy v=>by subst v;omega,E⟩
  .refine zi zY λA W l a p k=>?_;have D:=j.ext a;have i:=e.ext a;simp(disch:=exact oS) only[push_cast,D.ld0,i.iaddr,i.load,k5,gi,Gh];refine VecUn_spec λX h=>?_;simp only[push_cast,k5];refine stVec (k.ext h) λw7 r _ H=>?_
   try simp only[push_cast,k5,gi]
   exact x _ _ ⟨_,_,rfl,Ext.then ((c.trans a).trans h) r λy v=>by subst v;omega,H⟩
 .rintro u g V ⟨b,wd,rfl,d,j⟩;simp only[push_cast,j.ld1];exact I _ d
theorem binKind_value_spec {s:ByteArray} {n:Int} {ev tv kv:Value} {t:M.Tm} {xs:List (Int×Int)} (R:TermR F w tv t) (S:PairsR G w kv xs) (Z:xs.length=2)
  (I:∀w',Ext w w'->K (nI (M.vecBin t.op (xs.getD 0 (0,0)).1 (xs.getD 0 (0,0)).2 (xs.getD 1 (0,0)).1 (xs.getD 1 (0,0)).2).1.2) w'):vcall jQ #[KV s n,ev,tv,kv] w K:=by
 refine ze {cuts:=[(8194,[9])]} Tryz.func453 ?_;obtain⟨ksv,rfl,N⟩:=R;refine zj λb1 w1 J m O Y=>?_;refine zj λb2 w2 L o Q B=>?_;have z:=m.trans o;have hz:=z.size;refine zp (λu w'=> ∃b wd,u=[oP b 0]/\Ext w w'/\Blk w' b [nI wd,nI (M.vecBin t.op (xs.getD 0 (0,0)).1 (xs.getD 0 (0,0)).2 (xs.getD 1 (0,0)).1 (xs.getD 1 (0,0)).2).1.2] zg) (λC x=>?_) ?_
 .refine zd λV d _=>?_;have c:=z.trans d;have e:=S.ext c;have j:=B.ext d;have T:=c.size;simp(disch:=exact oS) only[push_cast,j.ld0,e.iaddr,e.load,k5,Gh];refine⟨?_,?_⟩
  .refine VecBin_spec λw4 f=>?_;have U:=f.size;simp only[push_cast,k5];refine zi zY λA W l a p k=>?_
   try simp only[push_cast,k5,gi]
   refine stVec k λX q _ E=>?_
   try simp only[push_cast,k5,gi]
   exact x _ _ ⟨_,_,rfl,Ext.then ((c.trans f).trans a) q λy v=>by subst v;omega,E⟩
  .refine zi zY λA W l a p k=>?_;have D:=j.ext a;have i:=e.ext a;simp(disch:=exact oS) only[push_cast,D.ld0,i.iaddr,i.load,k5,gi,Gh];refine VecBin_spec λX h=>?_;simp only[push_cast,k5];refine stVec (k.ext h) λw7 r _ H=>?_
   try simp only[push_cast,k5,gi]
   exact x _ _ ⟨_,_,rfl,Ext.then ((c.trans a).trans h) r λy v=>by subst v;omega,H⟩
 .rintro u g V ⟨b,wd,rfl,d,j⟩;simp only[push_cast,j.ld1];exact I _ d
theorem catKind_value_spec {s:ByteArray} {n:Int} {ev tv kv:Value} {t:M.Tm} {xs:List (Int×Int)} (R:TermR F w tv t) (S:PairsR G w kv xs) (Z:xs.length=2)
  (I:∀w',Ext w w'->K (nI (M.vecBin t.op (xs.getD 0 (0,0)).1 (xs.getD 0 (0,0)).2 (xs.getD 1 (0,0)).1 (xs.getD 1 (0,0)).2).1.2) w'):vcall jN #[KV s n,ev,tv,kv] w K:=by
 refine ze {cuts:=[(8194,[9])]} Tryz.func420 ?_;obtain⟨ksv,rfl,N⟩:=R;refine zj λb1 w1 J m O Y=>?_;refine zj λb2 w2 L o Q B=>?_;have z:=m.trans o;have hz:=z.size;refine zp (λu w'=> ∃b wd,u=[oP b 0]/\Ext w w'/\Blk w' b [nI wd,nI (M.vecBin t.op (xs.getD 0 (0,0)).1 (xs.getD 0 (0,0)).2 (xs.getD 1 (0,0)).1 (xs.getD 1 (0,0)).2).1.2] zg) (λC x=>?_) ?_
 .refine zd λV d _=>?_;have c:=z.trans d;have e:=S.ext c;have j:=B.ext d;have T:=c.size;simp(disch:=exact oS) only[push_cast,j.ld0,e.iaddr,e.load,k5,Gh];refine⟨?_,?_⟩
  .refine VecBin_spec λw4 f=>?_;have U:=f.size;simp only[push_cast,k5];refine zi zY λA W l a p k=>?_
   try simp only[push_cast,k5,gi]
   refine stVec k λX q _ E=>?_
   try simp only[push_cast,k5,gi]
   exact x _ _ ⟨_,_,rfl,Ext.then ((c.trans f).trans a) q λy v=>by subst v;omega,E⟩
  .refine zi zY λA W l a p k=>?_;have D:=j.ext a;have i:=e.ext a;simp(disch:=exact oS) only[push_cast,D.ld0,i.iaddr,i.load,k5,gi,Gh];refine VecBin_spec λX h=>?_;simp only[push_cast,k5];refine stVec (k.ext h) λw7 r _ H=>?_
   try simp only[push_cast,k5,gi]
   exact x _ _ ⟨_,_,rfl,Ext.then ((c.trans a).trans h) r λy v=>by subst v;omega,H⟩
 .rintro u g V ⟨b,wd,rfl,d,j⟩;simp only[push_cast,j.ld1];exact I _ d
theorem cutKind_value_spec {s:ByteArray} {n:Int} {ev tv kv:Value} {t:M.Tm} {xs:List (Int×Int)} (S:TermR F w tv t) (T:PairsR G w kv xs) (hl:xs.length=1)
  (J:∀w',Ext w w'->K (nI (M.vecCut (xs.getD 0 (0,0)).1 (xs.getD 0 (0,0)).2 t.a t.b).1.2) w'):vcall jL #[KV s n,ev,tv,kv] w K:=by
 refine ze {cuts:=[(8194,[9])]} Tryz.func445 ?_;obtain⟨ksv,rfl,O⟩:=S;refine zj λb1 w1 L o Q Z=>?_;refine zj λb2 w2 N p R E=>?_;have B:=o.trans p;have hz:=B.size;refine zp (λu w'=> ∃b wd,u=[oP b 0]/\Ext w w'/\Blk w' b [nI wd,nI (M.vecCut (xs.getD 0 (0,0)).1 (xs.getD 0 (0,0)).2 t.a t.b).1.2] zg) (λC A=>?_) ?_
 .refine zd λW e _=>?_;have d:=B.trans e;have f:=T.ext d;have h:=E.ext e;have U:=d.size;simp(disch:=exact oS) only[push_cast,h.ld1,h.ld2,f.iaddr,f.load,k5,Gh];refine⟨?_,?_⟩
  .refine VecCut_spec λw4 i=>?_;have V:=i.size;simp only[push_cast,k5];refine zi zY λD X m c q l=>?_
   try simp only[push_cast,k5,gi]
   refine stVec l λY r _ H=>?_
   try simp only[push_cast,k5,gi]
   exact A _ _ ⟨_,_,rfl,Ext.then ((d.trans i).trans c) r λy x=>by subst x;omega,H⟩
  .refine zi zY λD X m c q l=>?_;have z:=h.ext c;have k:=f.ext c;simp(disch:=exact oS) only[push_cast,z.ld1,z.ld2,k.iaddr,k.load,k5,gi,Gh];refine VecCut_spec λY j=>?_;simp only[push_cast,k5];refine stVec (l.ext j) λw7 v _ I=>?_
   try simp only[push_cast,k5,gi]
   exact A _ _ ⟨_,_,rfl,Ext.then ((d.trans c).trans j) v λy x=>by subst x;omega,I⟩
 .rintro u g W ⟨b,wd,rfl,e,h⟩;simp only[push_cast,h.ld1];exact J _ e
theorem cmpKind_value_spec {s:ByteArray} {n:Int} {ev tv kv:Value} {t:M.Tm} {xs:List (Int×Int)} (p:TermR F w tv t) (q:PairsR G w kv xs) (u:xs.length=2)
  (i:∀w',Ext w w'->K (nI (M.b2i (M.vecCmp t.op (xs.getD 0 (0,0)).1 (xs.getD 0 (0,0)).2 (xs.getD 1 (0,0)).1 (xs.getD 1 (0,0)).2).1)) w'):vcall jM #[KV s n,ev,tv,kv] w K:=by
 refine ze {} Tryz.func436 ?_;obtain⟨ksv,rfl,l⟩:=p;refine zj λb1 w1 j d m r=>?_;refine zj λb2 w2 k e o g=>?_;refine zd λv b _=>?_;have a:=(d.trans e).trans b;have c:=q.ext a;have h:=g.ext b;simp(disch:=exact oS) only[push_cast,h.ld0,c.iaddr,c.load,k5,Gh];refine VecCmp_spec λx f=>?_;simp only[push_cast,k5];exact Xl (i _ (a.trans f))
theorem XR {s:ByteArray} {n:Int} {ev tv kv:Value} {t:M.Tm} (k:TermR F w tv t)
  (e:∀w',Ext w w'->K (nI t.b) w'):vcall jG #[KV s n,ev,tv,kv] w K:=by
 refine ze {} Tryz.func440 ?_;obtain⟨ksv,rfl,h⟩:=k;refine zj λb1 w1 f a i l=>?_;refine zj λb2 w2 g c j d=>?_;simp only[push_cast,d.ld2];exact e _ (a.trans c)
theorem jt0:Z20 kY .string zE:=⟨_,X5,rK⟩
theorem Xo {s:ByteArray} {n:Int} {tv kv:Value} {t:M.Tm} {mb:Nat} {f:List (Value×Value)} {x:Int} (l:TermR F w tv t) (hm:MapF .string w mb f) (c:(Value.string t.s,nI x)∈f)
  (e:∀w',Ext w w'->K (nI x) w'):vcall jq #[KV s n,.map (some mb),tv,kv] w K:=by
 refine ze {} Tryz.func442 ?_;obtain⟨ksv,rfl,i⟩:=l;refine zj λb1 w1 g a j m=>?_;refine zj λb2 w2 h b k d=>?_;simp only[push_cast,d.ld3];rw[XN jt0 (hm.ext (a.trans b)) (Qn _) c];exact e _ (a.trans b)
theorem ifKind_value_spec {s:ByteArray} {n:Int} {ev tv kv:Value} {t:M.Tm} {xs:List (Int×Int)} (l:TermR F w tv t) (m:PairsR G w kv xs) (q:xs.length=3)
  (f:∀w',Ext w w'->K (nI (if(xs.getD 0 (0,0)).2=1 then(xs.getD 1 (0,0)).2 else(xs.getD 2 (0,0)).2)) w'):vcall ku #[KV s n,ev,tv,kv] w K:=by
 refine ze {} Tryz.func448 ?_;obtain⟨ksv,rfl,i⟩:=l;refine zj λb1 w1 g c j o=>?_;refine zj λb2 w2 h d k p=>?_;have b:=m.ext (c.trans d);have e:=f _ (c.trans d)
 try simp(disch:=exact oS) only[push_cast,b.iaddr]
 try simp(disch:=exact oS) only[push_cast,b.load1]
 refine zb (λa=>?_) (λa=>?_)
 .rw[X0 a] at e
  try simp(disch:=exact oS) only[push_cast,b.iaddr]
  try simp(disch:=exact oS) only[push_cast,b.load1]
  exact e
 .rw[y3 a] at e
  try simp(disch:=exact oS) only[push_cast,b.iaddr]
  try simp(disch:=exact oS) only[push_cast,b.load1]
  exact e
def WK (f:Value) (g:List (Int×Int)->Bool) (n:Nat):Prop:=∀(w:World) (G:oA) (kv:Value) (xs:List (Int×Int)) (K:oK),PairsR G w kv xs->xs.length=n->K (.bool (g xs)) w->vcallv f #[kv] w K
theorem XK {s:ByteArray} {n:Int} {f ev tv kv:Value} {t:M.Tm} {g:List (Int×Int)->Bool} {m:Nat} {xs:List (Int×Int)} (j:WK f g m) (q:TermR F w tv t) (r:PairsR G w kv xs) (l:xs.length=m)
  (e:∀w',Ext w w'->K (nI (M.b2i (g xs))) w'):vcall ju #[.agg ⟨[.string s,nI n,f]⟩,ev,tv,kv] w K:=by
 refine ze {} Tryz.func450 ?_;obtain⟨ksv,rfl,k⟩:=q;refine zj λb1 w1 h b o c=>?_;refine zj λb2 w2 i a p u=>?_;have d:=c.ext a;simp only[push_cast,d.ld2];refine j _ _ _ _ _ (r.ext (b.trans a)) l ?_;exact Xl (e _ (b.trans a))
theorem jy0:WK (.func (.func VX) #[] #[]) (λ_=>true) 0:=by
 intro w G kv xs K c b a;refine oZ ?_;refine ze {} Tryz.func186 ?_;exact a
theorem kinds2_fn:WK (.func (.func VW) #[] #[]) (λxs=>decide ((xs.getD 0 (0,0)).2=0)) 1:=by
 intro w G kv xs K a c b;refine oZ ?_;refine ze {} Tryz.func187 ?_
 try simp(disch:=exact oS) only[push_cast,a.iaddr]
 try simp(disch:=exact oS) only[push_cast,a.load1]
 exact b
theorem kinds3_fn:WK (.func (.func VV) #[] #[]) (λxs=>decide ((xs.getD 0 (0,0)).2=1)&&decide ((xs.getD 1 (0,0)).2=1)) 2:=by
 intro w G kv xs K b d c;refine oZ ?_;refine ze {} Tryz.func188 ?_
 try simp(disch:=exact oS) only[push_cast,b.iaddr]
 try simp(disch:=exact oS) only[push_cast,b.load1]
 refine zb (λa=>?_) (λa=>?_)
 .try simp(disch:=exact oS) only[push_cast,b.iaddr]
  try simp(disch:=exact oS) only[push_cast,b.load1]
  simpa only[gz a,pL] using c
 .simpa only[gm a,GU] using c
theorem kinds4_fn:WK (.func (.func VU) #[] #[]) (λxs=>decide ((xs.getD 0 (0,0)).2=1)||decide ((xs.getD 1 (0,0)).2=1)) 2:=by
 intro w G kv xs K b d c;refine oZ ?_;refine ze {} Tryz.func189 ?_
 try simp(disch:=exact oS) only[push_cast,b.iaddr]
 try simp(disch:=exact oS) only[push_cast,b.load1]
 refine zb (λa=>?_) (λa=>?_)
 .simpa only[gz a,Bool.true_or] using c
 .try simp(disch:=exact oS) only[push_cast,b.iaddr]
  try simp(disch:=exact oS) only[push_cast,b.load1]
  simpa only[gm a,z0g] using c
end
section
variable {w:World} {K:oK} {F G:oA}
def EnvM (w:World) (mb:Nat) (ds:List M.Dcl) (env:oI):Prop:= ∃f,MapF .string w mb f/\∀s,0<=M.findD ds s->(Value.string s,nI (env.getD (M.findD ds s).toNat 0))∈f
theorem EnvM.ext {mb:Nat} {ds:List M.Dcl} {env:oI} {w':World} (h:EnvM w mb ds env) (he:Ext w w'):EnvM w' mb ds env:=by
 obtain⟨f,a,b⟩:=h;exact⟨f,a.ext he,b⟩
def kTy (o:Int):TypeId:=if o<=2 then zQ else if o<=13 then zJ else if o=14 then zM else if o<=17 then zI else if o=20 then zP else if o=21 then zH else if o=22 then zL else if o=23 then zT else zz
structure KindR (o:Int) (v:Value):Prop where
 word:∃(s:ByteArray) (m:Int) (r:List Value),v= .iface (kTy o) (.agg ⟨.string s:: nI m::r⟩)/\(o<24->r=[])/\(24<=o->∃f,r=[f]/\f.oneCell'=true)/\(o=20\/o=21\/o=24\/s.data.toList=M.wordL o)
 iface:∃ty x,v= .iface ty x
 kids:∀(w:World) (K:oK),(∀w',Ext w w'->K (nI (M.arity o)) w')->vinvoke v mn_kids #[] w K
 sort:∀(w:World) (K:oK) (F G H:oA) (dv tv kv:Value) (ds:List M.Dcl) (t:M.Tm) (xs:oI),t.op=o->DclsR F w dv ds->TermR G w tv t->Ints H w kv xs->(xs.length:Int)=M.arity o->(∀i,-1<=xs.getD i 0/\xs.getD i 0<=4)->
  (∀w',Ext w w'->K (nI (M.sortK ds t xs)) w')->vinvoke v kG #[dv,tv,kv] w K
 value:∀(w:World) (K:oK) (G H:oA) (ev tv kv:Value) (ds:List M.Dcl) (env:oI) (t:M.Tm) (xs:List (Int×Int)),t.op=o->(t.op=21->∃mb,ev= .map (some mb)/\EnvM w mb ds env)->TermR G w tv t->PairsR H w kv xs->(xs.length:Int)=M.arity o->(∀i,i<xs.length->M.inS (xs.getD i (0,0)).1 (xs.getD i (0,0)).2)->
  M.sortK ds t (xs.map (·.1))≠ -1->(∀w',Ext w w'->K (nI (M.valK ds env t xs)) w')->vinvoke v qO #[ev,tv,kv] w K
section
variable {ds:List M.Dcl} {env:oI} {t:M.Tm} {xs:oI} {ys:List (Int×Int)}
theorem kX {i:Nat} (h:i<ys.length):(ys.map (·.1)).getD i 0=(ys.getD i (0,0)).1:=M.getD_map _ h _ _
theorem kind_un {o:Int} {s:ByteArray} (d:o=1\/o=2) (hw:s.data.toList=M.wordL o):KindR o (.iface zQ (KV s 1)) where
 word:=⟨_,_,_,by(rw[show kTy o=zQ by unfold kTy;rw[X0 oM]];try rfl),λ_=>rfl,λh=>oM,.inr (.inr (.inr hw))⟩
 iface:=⟨_,_,rfl⟩
 kids:=λw K b=>zO (XB _ _) (qR λw' he=>by have:=b w' he;rcases d with rfl|rfl<;>exact this)
 sort:=λw K F G H dv tv kv ds t xs f l e g c i b=>by
  have a:xs.length=1:=by rcases d with rfl|rfl<;>simp[M.arity] at c<;>omega
  refine zO (XA _ _) (unKind_sort_spec e g a λw' he=>?_);have:=b w' he;unfold M.sortK at this;rwa[y3 oM,y3 oM,y3 oM,y3 oM,y3 oM,X0 oM] at this
 value:=λw K G H mb tv kv ds env t ys f he e g c i hs b=>by
  have a:ys.length=1:=by rcases d with rfl|rfl<;>simp[M.arity] at c<;>omega
  refine zO (YQ _ _) (unKind_value_spec e g a λw' he=>?_);have:=b w' he;unfold M.sortK at hs;rw[y3 oM,y3 oM,y3 oM,y3 oM,y3 oM,X0 oM,kX oM] at hs;have j:0<(ys.getD 0 (0,0)).1:=by
   by_cases h:0<(ys.getD 0 (0,0)).1
   .exact h
   .rw[y3 h] at hs;exact absurd rfl hs
  have k:=M.inS_pos (i 0 oM) j;unfold M.valK at this;rw[y3 oM,y3 oM,y3 oM,y3 oM,y3 oM,y3 oM,y3 oM,y3 oM,X0 oM] at this;unfold M.vecUn;rw[X0 ⟨k,oM⟩];exact this
theorem kind_bin {o:Int} {s:ByteArray} (m:3<=o) (k:o<=13) (hw:s.data.toList=M.wordL o):KindR o (.iface zJ (KV s 2)) where
 word:=⟨_,_,_,by(rw[show kTy o=zJ by unfold kTy;rw[y3 oM,X0 oM]];try rfl),λ_=>rfl,λh=>oM,.inr (.inr (.inr hw))⟩
 iface:=⟨_,_,rfl⟩
 kids:=λw K b=>zO (X4 _ _) (qR λw' he=>by
  have:=b w' he;unfold M.arity at this;rwa[y3 oM,y3 oM,y3 oM,y3 oM,X0 oM] at this)
 sort:=λw K F G H dv tv kv ds t xs f n e i c d b=>by
  have a:xs.length=2:=by
   unfold M.arity at c;rw[y3 oM,y3 oM,y3 oM,y3 oM,X0 oM] at c;omega
  refine zO (X3 _ _) (binKind_sort_spec e i a λw' he=>?_);have:=b w' he;unfold M.sortK at this;rwa[y3 oM,y3 oM,y3 oM,y3 oM,y3 oM,y3 oM,y3 oM,y3 oM] at this
 value:=λw K G H mb tv kv ds env t ys f he e i c d hs b=>by
  have a:ys.length=2:=by
   unfold M.arity at c;rw[y3 oM,y3 oM,y3 oM,y3 oM,X0 oM] at c;omega
  refine zO (Yk _ _) (binKind_value_spec e i a λw' he=>?_);have:=b w' he;unfold M.sortK at hs;rw[y3 oM,y3 oM,y3 oM,y3 oM,y3 oM,y3 oM,y3 oM,y3 oM,kX oM,kX oM] at hs;have j:0<(ys.getD 0 (0,0)).1/\(ys.getD 0 (0,0)).1=(ys.getD 1 (0,0)).1:=by
   by_cases h:0<(ys.getD 0 (0,0)).1/\(ys.getD 0 (0,0)).1=(ys.getD 1 (0,0)).1
   .exact h
   .rw[y3 h] at hs;exact absurd rfl hs
  have l:=M.inS_pos (d 0 oM) j.1;have g:=M.inS_pos (d 1 oM) oM;unfold M.valK at this;rw[y3 oM,y3 oM,y3 oM,y3 oM,y3 oM,y3 oM,y3 oM,y3 oM,y3 oM,y3 oM,y3 oM] at this;unfold M.vecBin;rw[X0 ⟨l,g⟩,y3 oM,X0 ⟨oM,oM,j.2⟩];exact this
theorem kind_cat {s:ByteArray} (hw:s.data.toList=M.wordL 14):KindR 14 (.iface zM (KV s 2)) where
 word:=⟨_,_,_,rfl,λ_=>rfl,λh=>oM,.inr (.inr (.inr hw))⟩
 iface:=⟨_,_,rfl⟩
 kids:=λw K b=>zO (X1 _ _) (qR λw' he=>b w' he)
 sort:=λw K F G H dv tv kv ds t xs c l g j e d b=>by
  have a:xs.length=2:=by simp[M.arity] at e;omega
  refine zO (YZ _ _) (catKind_sort_spec g j a d λw' he=>?_);have:=b w' he;unfold M.sortK at this;rwa[y3 oM,y3 oM,y3 oM,y3 oM,y3 oM,y3 oM,X0 oM] at this
 value:=λw K G H mb tv kv ds env t ys c he g j e d hs b=>by
  have a:ys.length=2:=by simp[M.arity] at e;omega
  refine zO (Yg _ _) (catKind_value_spec g j a λw' he=>?_);have:=b w' he;unfold M.sortK at hs;rw[y3 oM,y3 oM,y3 oM,y3 oM,y3 oM,y3 oM,X0 oM,kX oM,kX oM] at hs;have f:0<(ys.getD 0 (0,0)).1/\0<(ys.getD 1 (0,0)).1/\(ys.getD 0 (0,0)).1+(ys.getD 1 (0,0)).1<=4:=by
   by_cases h:0<(ys.getD 0 (0,0)).1/\0<(ys.getD 1 (0,0)).1/\(ys.getD 0 (0,0)).1+(ys.getD 1 (0,0)).1<=4
   .exact h
   .rw[y3 h] at hs;exact absurd rfl hs
  have k:=M.inS_pos (d 0 oM) f.1;have i:=M.inS_pos (d 1 oM) f.2.1;unfold M.valK at this;rw[y3 oM,y3 oM,y3 oM,y3 oM,y3 oM,y3 oM,y3 oM,y3 oM,y3 oM,X0 oM] at this;unfold M.vecBin;rw[X0 ⟨k,i⟩,X0 c,X0 f.2.2];exact this
theorem kind_cmp {o:Int} {s:ByteArray} (m:15<=o) (k:o<=17) (hw:s.data.toList=M.wordL o):KindR o (.iface zI (KV s 2)) where
 word:=⟨_,_,_,by(rw[show kTy o=zI by unfold kTy;rw[y3 oM,y3 oM,y3 oM,X0 oM]];try rfl),λ_=>rfl,λh=>oM,.inr (.inr (.inr hw))⟩
 iface:=⟨_,_,rfl⟩
 kids:=λw K b=>zO (YX _ _) (qR λw' he=>by
  have:=b w' he;unfold M.arity at this;rwa[y3 oM,y3 oM,y3 oM,y3 oM,X0 oM] at this)
 sort:=λw K F G H dv tv kv ds t xs f n e i c d b=>by
  have a:xs.length=2:=by
   unfold M.arity at c;rw[y3 oM,y3 oM,y3 oM,y3 oM,X0 oM] at c;omega
  refine zO (YW _ _) (cmpKind_sort_spec e i a λw' he=>?_);have:=b w' he;unfold M.sortK at this;rwa[y3 oM,y3 oM,y3 oM,y3 oM,y3 oM,y3 oM,y3 oM,X0 oM] at this
 value:=λw K G H mb tv kv ds env t ys f he e i c d hs b=>by
  have a:ys.length=2:=by
   unfold M.arity at c;rw[y3 oM,y3 oM,y3 oM,y3 oM,X0 oM] at c;omega
  refine zO (Yf _ _) (cmpKind_value_spec e i a λw' he=>?_);have:=b w' he;unfold M.sortK at hs;rw[y3 oM,y3 oM,y3 oM,y3 oM,y3 oM,y3 oM,y3 oM,X0 oM,kX oM,kX oM] at hs;have j:0<(ys.getD 0 (0,0)).1/\(ys.getD 0 (0,0)).1=(ys.getD 1 (0,0)).1:=by
   by_cases h:0<(ys.getD 0 (0,0)).1/\(ys.getD 0 (0,0)).1=(ys.getD 1 (0,0)).1
   .exact h
   .rw[y3 h] at hs;exact absurd rfl hs
  have l:=M.inS_pos (d 0 oM) j.1;have g:=M.inS_pos (d 1 oM) oM;unfold M.valK at this;rw[y3 oM,y3 oM,y3 oM,y3 oM,y3 oM,y3 oM,y3 oM,y3 oM,y3 oM,y3 oM,X0 oM] at this;unfold M.vecCmp;rw[X0 ⟨l,g,j.2,oM,oM⟩];exact this
theorem kind_vec {s:ByteArray}:KindR 20 (.iface zP (KV s 0)) where
 word:=⟨_,_,_,rfl,λ_=>rfl,λh=>oM,.inl rfl⟩
 iface:=⟨_,_,rfl⟩
 kids:=λw K b=>zO (YP _ _) (qR λw' he=>b w' he)
 sort:=λw K F G H dv tv kv ds t xs a g c f d e b=>by
  refine zO (YO _ _) (QE c λw' he=>?_);have:=b w' he;unfold M.sortK at this;rwa[X0 a] at this
 value:=λw K G H mb tv kv ds env t ys a he c f d e hs b=>by
  refine zO (Yb _ _) (XR c λw' he=>?_);have:=b w' he;unfold M.valK at this;rwa[X0 a] at this
theorem kind_name {s:ByteArray}:KindR 21 (.iface zH (KV s 0)) where
 word:=⟨_,_,_,rfl,λ_=>rfl,λh=>oM,.inr (.inl rfl)⟩
 iface:=⟨_,_,rfl⟩
 kids:=λw K b=>zO (Yd _ _) (qR λw' he=>b w' he)
 sort:=λw K F G H dv tv kv ds t xs a g e k i j b=>by
  refine zO (Yc _ _) (nameKind_sort_spec e g λw' he=>?_);have:=b w' he;unfold M.sortK at this;rwa[y3 oM,X0 a] at this
 value:=λw K G H mb tv kv ds env t ys a he e k i j hs b=>by
  obtain⟨mb,rfl,f,hm,d⟩:=he a;unfold M.sortK at hs;rw[y3 oM,X0 a] at hs;have c:0<=M.findD ds t.s:=by
   by_cases h:M.findD ds t.s<0
   .rw[X0 h] at hs;exact absurd rfl hs
   .omega
  refine zO (ZN _ _) (Xo e hm (d _ c) λw' he=>?_);have:=b w' he;unfold M.valK at this;rwa[y3 oM,X0 a] at this
theorem kind_cut {s:ByteArray} (hw:s.data.toList=M.wordL 22):KindR 22 (.iface zL (KV s 1)) where
 word:=⟨_,_,_,rfl,λ_=>rfl,λh=>oM,.inr (.inr (.inr hw))⟩
 iface:=⟨_,_,rfl⟩
 kids:=λw K d=>zO (YU _ _) (qR λw' he=>d w' he)
 sort:=λw K F G H dv tv kv ds t xs i m g j e f d=>by
  have c:xs.length=1:=by simp[M.arity] at e;omega
  refine zO (YT _ _) (cutKind_sort_spec g j c f λw' he=>?_);have:=d w' he;unfold M.sortK at this;rwa[y3 oM,y3 oM,y3 oM,y3 oM,X0 oM] at this
 value:=λw K G H mb tv kv ds env t ys i he g j e f hs d=>by
  have c:ys.length=1:=by simp[M.arity] at e;omega
  refine zO (Ye _ _) (cutKind_value_spec g j c λw' he=>?_);have:=d w' he;unfold M.sortK at hs;rw[y3 oM,y3 oM,y3 oM,y3 oM,X0 oM,kX oM] at hs;have k:0<=t.b/\t.b<=t.a/\t.a<(ys.getD 0 (0,0)).1:=by
   by_cases h:0<=t.b/\t.b<=t.a/\t.a<(ys.getD 0 (0,0)).1
   .exact h
   .rw[y3 h] at hs;exact absurd rfl hs
  have l:=M.inS_pos (f 0 oM) oM;unfold M.valK at this;rw[y3 oM,y3 oM,y3 oM,y3 oM,y3 oM,y3 oM,y3 oM,X0 oM] at this;unfold M.vecCut;rw[X0 ⟨l,k⟩];exact this
theorem kind_if {s:ByteArray} (hw:s.data.toList=M.wordL 23):KindR 23 (.iface zT (KV s 3)) where
 word:=⟨_,_,_,rfl,λ_=>rfl,λh=>oM,.inr (.inr (.inr hw))⟩
 iface:=⟨_,_,rfl⟩
 kids:=λw K b=>zO (XE _ _) (qR λw' he=>b w' he)
 sort:=λw K F G H dv tv kv ds t xs e i d f c g b=>by
  have a:xs.length=3:=by simp[M.arity] at c;omega
  refine zO (XD _ _) (ifKind_sort_spec d f a λw' he=>?_);have:=b w' he;unfold M.sortK at this;rwa[y3 oM,y3 oM,y3 oM,X0 oM] at this
 value:=λw K G H mb tv kv ds env t ys e he d f c g hs b=>by
  have a:ys.length=3:=by simp[M.arity] at c;omega
  refine zO (YR _ _) (ifKind_value_spec d f a λw' he=>?_);have:=b w' he;unfold M.valK at this;rwa[y3 oM,y3 oM,y3 oM,y3 oM,y3 oM,y3 oM,X0 oM] at this
theorem kind_bool {o:Int} {s:ByteArray} {f:Value} {g:List (Int×Int)->Bool} {m:Nat} (q:24<=o) (i:M.arity o=m) (j:WK f g m) (c:f.oneCell'=true) (hw:o=24\/s.data.toList=M.wordL o) (k:∀ds env (t:M.Tm) ys,t.op=o->M.valK ds env t ys=M.b2i (g ys)):
  KindR o (.iface zz (.agg ⟨[.string s,nI m,f]⟩)) where
 word:=⟨_,_,_,by rw[show kTy o=zz by unfold kTy;rw[y3 oM,y3 oM,y3 oM,y3 oM,y3 oM,y3 oM,y3 oM,y3 oM]],λh=>oM,λ_=>⟨_,rfl,c⟩,.inr (.inr hw)⟩
 iface:=⟨_,_,rfl⟩
 kids:=λw K a=>zO (Yj _ _ _) (qR λw' he=>by have:=a w' he;rwa[i] at this)
 sort:=λw K F G H dv tv kv ds t xs b p d e l n a=>by
  refine zO (Yi _ _ _) (Qx d e λw' he=>?_);have:=a w' he;unfold M.sortK at this;rwa[y3 oM,y3 oM,X0 oM] at this
 value:=λw K G H mb tv kv ds env t ys b he d e l n hs a=>by
  refine zO (ZO _ _ _) (XK j d e oM λw' he=>?_);have:=a w' he;rwa[k ds env t ys b] at this
end
def KindsR (w:World) (mb:Nat):Prop:= ∃f,MapF (.int .i64) w mb f/\(∀o,0<=M.arity o->∃v,(nI o,v)∈f/\KindR o v)/\∀p,p∈f->∃o,p.1= nI o/\0<=M.arity o
theorem KindsR.ext {mb:Nat} {w':World} (h:KindsR w mb) (he:Ext w w'):KindsR w' mb:=by
 obtain⟨f,a,b⟩:=h;exact⟨f,a.ext he,b⟩
end
section
variable {w:World} {K:oK} {F G:oA}
theorem jZ:Z20 zS (.int .i64) xm0:=⟨_,Zx,rK⟩
def KS (w0 w:World) (b:Nat) (S:Int->Prop):Prop:=Ext w0 w/\w0.heap.size<=b/\∃f,MapF (.int .i64) w b f/\(∀o,S o->∃v,(nI o,v)∈f/\KindR o v)/\∀p,p∈f->∃o,p.1= nI o/\S o
theorem KS.set {w0 w:World} {b:Nat} {S:Int->Prop} {o:Int} {v:Value} (h:KS w0 w b S) (q: ¬S o) (r:KindR o v) (m:∀w',KS w0 w' b (λx=>x=o\/S x)->Same (· =b) w w'->K undef w'):
  zC0 zS (.map (some b)) (nI o) v w K:=by
 obtain⟨he,k,f,hm,l,j⟩:=h;refine qU0 jZ hm (xD o) (λx i=>?_) λw' g hs _=>m w' ⟨Ext.then he hs λy s=>by subst s;exact k,k,_,g,λx i=>?_,λp c=>?_⟩ hs
 .obtain⟨o',a,d⟩:=j _ i;cases a;exact q d
 .by_cases e:x=o
  .subst e;exact⟨v,gl.2 (.inr (gx.2 rfl)),r⟩
  .obtain⟨u,hu,n⟩:=l x (i.resolve_left e);exact⟨u,gl.2 (.inl hu),n⟩
 .rcases gl.1 c with c|c
  .obtain⟨o',a,d⟩:=j _ c;exact⟨o',a,.inr d⟩
  .rw[gx.1 c];exact⟨o,rfl,.inl rfl⟩
theorem KS.ext {w0 w w':World} {b:Nat} {S:Int->Prop} (h:KS w0 w b S) (he:Ext w w'):KS w0 w' b S:=by
 obtain⟨a,c,f,hm,r⟩:=h;exact⟨a.trans he,c,f,hm.ext he,r⟩
theorem KS.congr {w0 w:World} {b:Nat} {S S':Int->Prop} (h:KS w0 w b S) (a:∀x,S x↔S' x):KS w0 w b S':=by
 have:S=S':=funext λx=>propext (a x);subst this;exact h
theorem KS.kinds {w0 w:World} {b:Nat} {S:Int->Prop} (h:KS w0 w b S) (a:∀o,S o↔0<=M.arity o):KindsR w b:=by
 obtain⟨he,k,f,hm,c,d⟩:=h;refine⟨f,hm,λo i=>c o ((a o).2 i),λp j=>?_⟩;obtain⟨o,e,g⟩:=d p j;exact⟨o,e,(a o).1 g⟩
@[push_cast] theorem bd_named (s:ByteArray) (n:Int):yA qG [(0,.string s),(1,nI n)] w K=K (KV s n) w:=zU yM0 (us:=[[.string s],[nI n]]) rfl rfl
@[push_cast] theorem Xo0 (s:ByteArray) (n:Int):yA zQ [(0,KV s n)] w K=K (KV s n) w:=zU zr0 (us:=[[.string s,nI n]]) rfl rfl
@[push_cast] theorem YS0 (s:ByteArray) (n:Int):yA zJ [(0,KV s n)] w K=K (KV s n) w:=zU Wu (us:=[[.string s,nI n]]) rfl rfl
@[push_cast] theorem YR0 (s:ByteArray) (n:Int):yA zM [(0,KV s n)] w K=K (KV s n) w:=zU Wr (us:=[[.string s,nI n]]) rfl rfl
@[push_cast] theorem YQ0 (s:ByteArray) (n:Int):yA zI [(0,KV s n)] w K=K (KV s n) w:=zU Wp (us:=[[.string s,nI n]]) rfl rfl
@[push_cast] theorem YP0 (s:ByteArray) (n:Int):yA zL [(0,KV s n)] w K=K (KV s n) w:=zU Wo (us:=[[.string s,nI n]]) rfl rfl
@[push_cast] theorem Xq0 (s:ByteArray) (n:Int):yA zT [(0,KV s n)] w K=K (KV s n) w:=zU zt0 (us:=[[.string s,nI n]]) rfl rfl
@[push_cast] theorem YO0:yA zP [] w K=K (KV ⟨#[]⟩ 0) w:=zU Wn (us:=[]) rfl rfl
@[push_cast] theorem YA0:yA zH [] w K=K (KV ⟨#[]⟩ 0) w:=zU Vm (us:=[]) rfl rfl
@[push_cast] theorem YD0 (s:ByteArray) (n:Int) (f:Fn) (a c:Array Value):yA zz [(0,KV s n),(1,.func f a c)] w K=K (.agg ⟨[.string s,nI n,.func f a c]⟩) w:=zU Vn (us:=[[.string s,nI n],[.func f a c]]) rfl rfl
theorem val24 (ds:List M.Dcl) (env:oI) (t:M.Tm) (ys:List (Int×Int)) (h:t.op=24):M.valK ds env t ys=M.b2i true:=by simp[M.valK,h,M.b2i]
theorem val25 (ds:List M.Dcl) (env:oI) (t:M.Tm) (ys:List (Int×Int)) (h:t.op=25):M.valK ds env t ys=M.b2i (decide ((ys.getD 0 (0,0)).2=0)):=by unfold M.valK;simp only[h];rfl
theorem val26 (ds:List M.Dcl) (env:oI) (t:M.Tm) (ys:List (Int×Int)) (h:t.op=26):M.valK ds env t ys=M.b2i (decide ((ys.getD 0 (0,0)).2=1)&&decide ((ys.getD 1 (0,0)).2=1)):=by unfold M.valK;simp only[h];rfl
theorem val27 (ds:List M.Dcl) (env:oI) (t:M.Tm) (ys:List (Int×Int)) (h:t.op=27):M.valK ds env t ys=M.b2i (decide ((ys.getD 0 (0,0)).2=1)||decide ((ys.getD 1 (0,0)).2=1)):=by unfold M.valK;simp only[h];rfl
def binWords:List ByteArray:=[⟨#[97,110,100]⟩,⟨#[111,114]⟩,⟨#[120,111,114]⟩,⟨#[97,100,100]⟩,⟨#[115,117,98]⟩,⟨#[109,117,108]⟩,⟨#[100,105,118]⟩,⟨#[114,101,109]⟩,⟨#[115,104,108]⟩,⟨#[115,104,114]⟩,⟨#[115,97,114]⟩]
theorem Zx0:∀i:Fin 11,(binWords.getD i.1 ⟨#[]⟩).data.toList=M.wordL (3+(i.1:Int)):=dC
theorem kinds_new (X:∀w' b,Ext w w'->KindsR w' b->w.heap.size<=b->K (.map (some b)) w'):vcall Jt #[] w K:=by
 refine ze {loops:=[(3,[48])]} Tryz.func127 ?_;refine xo0 jZ λb w1 hb hm he hs=>?_;have J:KS w w1 b (λ_=>False):=⟨he,oM,[],hm,λ_ h=>h.elim,λ_ h=>by cases h⟩;refine oZ ?_;refine J.set dC (kind_un (.inl rfl) dC) λw2 L _=>?_;refine L.set dC (kind_un (.inr rfl) dC) λw3 N _=>?_;refine N.set dC (kind_cat dC) λw4 O _=>?_;refine O.set dC (kind_cmp dC dC dC) λw5 Q _=>?_;refine Q.set dC (kind_cmp dC dC dC) λw6 R _=>?_;refine R.set dC (kind_cmp dC dC dC) λw7 S _=>?_;refine S.set dC kind_vec λw8 T _=>?_;refine T.set dC kind_name λw9 U _=>?_;refine U.set dC (kind_cut dC) λw10 V _=>?_;refine V.set dC (kind_if dC) λY l _=>?_;refine l.set dC (kind_bool (m:=0) dC rfl jy0 rfl (.inl rfl) val24) λZ n _=>?_;refine n.set dC (kind_bool (m:=1) dC rfl kinds2_fn rfl (.inr dC) val25) λa0 p _=>?_;refine p.set dC (kind_bool (m:=2) dC rfl kinds3_fn rfl (.inr dC) val26) λa1 q _=>?_;refine q.set dC (kind_bool (m:=2) dC rfl kinds4_fn rfl (.inr dC) val27) λa2 g _=>?_;refine vbuildS_row1 (xs:=binWords.map .string) XV rK XM (λx B=>by obtain⟨s,_,rfl⟩:=gy.1 B;rfl) dC λbs D F j G t=>?_;have d:Vals (· =bs) D (.slice (some ⟨bs,0,none⟩) (binWords.map Value.string).length (binWords.map Value.string).length) (binWords.map Value.string):=t.sl1 rfl dC;have r:=g.ext j;have v:bs≠b:=by
  obtain⟨_,_,f,hm,_⟩:=g;have:=hm.lt;omega
 have hlen:(binWords.map Value.string).length=11:=rfl;simp only[push_cast,d.len];rw[hlen];rw[hlen] at d;refine vloop_up 11 (λi u w'=>u=[nI i]/\Vals (· =bs) w' (.slice (some ⟨bs,0,none⟩) 11 11) (binWords.map Value.string)/\KS w w' b λx=>(3<=x/\x<3+(i:Int))\/x=27\/x=26\/x=25\/x=24\/x=23\/x=22\/x=21\/x=20\/x=17\/x=16\/x=15\/x=14\/x=2\/x=1) ⟨rfl,d,r.congr λx=>by simp only[Gn];constructor<;>intro h<;>omega⟩ ?_;rintro i _ _ E C hi ⟨rfl,A,k⟩ W;refine oZ ?_;refine zb (λa=>?_) (λa=>?_)
 .have c:i<11:=oM;have H:(binWords.map Value.string).getD i undef= .string (binWords.getD i ⟨#[]⟩):=M.getD_map _ (show i<binWords.length from c) _ _;have I:IntKind.i64.wrap (3+(i:Int))=3+(i:Int):=zk oM oM;rw[A.iaddr rK oM (by rw[hlen];omega),gu,A.load rK (by rw[hlen];omega),H];simp only[push_cast,I];refine k.set oM (kind_bin oM oM (Zx0 ⟨i,c⟩)) λa3 y z=>?_
  try simp only[push_cast]
  rw[inc64' oM];exact W c _ _ ⟨rfl,A.same z λx B _ e=>v (B.symm.trans e),y.congr λx=>by constructor<;>intro h<;>omega⟩
 .have:i=11:=oM;subst this;refine X E b k.1 (k.kinds λo=>?_) k.2.1;constructor
  .intro h;have:(1<=o/\o<=17)\/(20<=o/\o<=27):=oM;unfold M.arity
   repeat' split
   all_goals omega
  .intro h;have:=M.arity_ops h;omega
theorem WG (d:∀w' b,Ext w w'->KindsR w' b->K (.map (some b)) w'):vcall Jt #[] w K:=kinds_new λw' b a c _=>d w' b a c
end
section
variable {w:World} {K:oK} {F G:oA}
theorem stTerm {b:Nat} {cs cs':List Value} {t:TypeId} {g:M.Tm} (h:Blk w b cs t) (f:cs.length=5) (d:TmR F w cs' g) (c:∀w',Same (· =b) w w'->w'.heap.size=w.heap.size->Blk w' b cs' t->K undef w'):zG za (oP b 0) (.agg ⟨cs'⟩) w K:=by
 obtain⟨kv,rfl,e⟩:=d.inv;obtain⟨css,hs,_⟩:=e;refine h.stAgg (by simp[f]) zc ?_ c;intro v a;simp only[gj,gC,Gn] at a;rcases a with rfl|rfl|rfl|rfl|rfl
 .rfl
 .rfl
 .rfl
 .rfl
 .exact hs.one
theorem zV {cs:List Value} {t:M.Tm} (h:TmR F w cs t):cs.length=5:=by
 obtain⟨kv,rfl,_⟩:=h.inv;rfl
theorem q70 {v:Value} {t:M.Tm} (m:TermR F w v t) (i:∀w',Ext w w'->K (.bool (M.plainM t)) w'):vcall Js #[v] w K:=by
 refine ze {cuts:=[(8194,[3])]} Tryz.func185 ?_;obtain⟨ksv,rfl,k⟩:=m;refine zj λb1 w1 j h l e=>?_;have d:=i _ h;unfold M.plainM at d;refine zp (λu w'=>u=[.bool (decide (t.op=20)||decide (t.op=22)||(decide (t.a=0)&&decide (t.b=0)))]/\w'=w1) (λC f=>?_) ?_
 .simp only[push_cast,e.ld0,e.ld1,e.ld2];refine zb (λa=>?_) (λa=>?_)
  .exact f _ _ ⟨by rw[gz a];rfl,rfl⟩
  refine zb (λb=>?_) (λb=>?_)
  .exact f _ _ ⟨by rw[gz b];simp,rfl⟩
  refine zb (λc=>?_) (λc=>?_)
  .exact f _ _ ⟨by rw[gm a,gm b,gz c];rfl,rfl⟩
  .exact f _ _ ⟨by rw[gm a,gm b,gm c];rfl,rfl⟩
 .rintro u g w2 ⟨rfl,rfl⟩;simp only[push_cast,e.ld0,e.ld3];refine zm (λa=>?_) (λa=>?_)
  .rw[a,pL] at d;refine zb (λb=>?_) (λb=>?_)
   .rwa[gz b,Bool.true_or] at d
   .rw[gm b,z0g] at d;exact d
  .rwa[a,GU] at d
theorem KX {mb:Nat} {o:Int} {ok:Bool} (h:KindsR w mb) (d:0<=M.arity o) (b:∀v,KindR o v->K (if ok then .tuple #[v,.bool true] else v) w):XO zS (.map (some mb)) (nI o) ok w K:=by
 obtain⟨f,hm,a,g⟩:=h;obtain⟨v,e,c⟩:=a o d;rw[XN jZ hm (xD o) e];exact b v c
theorem jv0 {mb:Nat} {o:Int} (h:KindsR w mb) (d: ¬0<=M.arity o) (b:K (.tuple #[.nilIface,.bool false]) w):XO zS (.map (some mb)) (nI o) true w K:=by
 obtain⟨f,hm,i,a⟩:=h;rw[zD0 jZ (z:= .nilIface) (by unfold yl;kernel_rfl) hm (xD o) λv g=>?_]
 .exact b
 .obtain⟨o',e,c⟩:=a _ g;cases e;exact d c
theorem qf0 {mb:Nat} {o:Int} {w w2:World} {N:oK} (h:KindsR w mb) (i:0<=M.arity o) (he:Ext w w2) (e:∀v,KindR o v->(∀a,Ext w a->XO zS (.map (some mb)) (nI o) false a λx y=>x=v/\y=a)->N v w):XO zS (.map (some mb)) (nI o) false w N:=by
 obtain⟨f,hm,d,j⟩:=h;obtain⟨v,c,g⟩:=d o i;rw[XN jZ hm (xD o) c];refine e v g λa b=>?_;rw[XN jZ (hm.ext b) (xD o) c];exact⟨rfl,rfl⟩
theorem Zl {α β:Type} (f:α->β) {l:List α} {i:Nat} (h:i<l.length) (d:α):(l.take i).map f++[f (l.getD i d)]=(l.take (i+1)).map f:=by
 rw[pd,gd h,gE,y4,gd h];rfl
theorem sortOf_spec:∀(t:M.Tm) {w:World} {K:oK} {F G:oA} {mb:Nat} {dv v:Value} {ds:List M.Dcl},KindsR w mb->DclsR F w dv ds->M.declOk ds=true->TermR G w v t->
  (∀w',Ext w w'->K (nI (M.sortM ds t)) w')->vcall jV #[.map (some mb),dv,v] w K:=by
 refine M.Tm.ind λt ih w K F G mb dv v ds hm hd N ht U=>?_;apply zq0;obtain⟨ksv,rfl,m⟩:=ht;refine zj λb1 w1 a3 l a6 D=>?_;have J:=hm.ext l;simp only[push_cast,D.ld0];have A: ¬(M.formed t=true)->∀w',Ext w w'->K (nI (-1)) w':=λhn w' he=>by
  have:=U w' he;rw[M.sortM_eq] at this;unfold M.sortF at this;rwa[y3 (λh=>hn h.1)] at this
 by_cases Y: ¬0<=M.arity t.op
 .have T:=Y;refine jv0 J T ?_;refine oZ ?_;refine zp (λ_ _=>False) (λC S=>?_) (λ_ _ _ h=>h.elim);refine zd λw2 c _=>?_;simp only[push_cast,k5];refine A (λh=>T ?_) _ (l.trans c);simp only[M.formed,gg,V0] at h;omega
 have T:0<=M.arity t.op:=oM
 refine KX J T λkv I=>?_;simp only[push_cast,if_true];have a9:=m.small;refine zp (λu w'=>u=[]/\Ext w1 w'/\M.formed t=true) (λC S=>?_) ?_
 .refine zd λw2 c _=>?_;have E:=D.ext c;simp only[push_cast,E.ld4,m.len,k5];refine I.kids _ _ λw3 d=>?_;have R:=E.ext d;simp only[push_cast,R.ld4,m.len,k5,gi];refine zb (λa=>?_) (λa=>?_)
  .refine A (λh=>?_) _ ((l.trans c).trans d);simp only[M.formed,gg,V0] at h;omega
  .simp only[push_cast,R.ldAgg (t:=za) zc,k5];refine q70 (F:=G) (t:=t) ⟨ksv,rfl,m.ext ((l.trans c).trans d)⟩ λw4 e=>?_;simp only[push_cast,k5];refine zm (λb=>?_) (λb=>?_)
   .refine A (λh=>?_) _ (((l.trans c).trans d).trans e);simp only[M.formed,gg] at h;rw[h.2] at b;cases b
   .refine S _ _ ⟨rfl,(c.trans d).trans e,?_⟩;simp only[M.formed,gg,V0];exact⟨oM,by simpa using b⟩
 .rintro u g w2 ⟨rfl,c,hf⟩;have E:=D.ext c;have hE:=l.trans c;have ab:=hE.size;simp only[push_cast,E.ld4,m.len];have H:=hf;simp only[M.formed,gg,V0] at H;have a2:t.ks.length<=3:=by
   have D:=H.1;unfold M.arity at D
   repeat' split at D
   all_goals omega
  refine vloop_up t.ks.length (λi u w'=> ∃sv,u=[sv,nI i]/\Ext w2 w'/\OwnI zh w' sv ((t.ks.take i).map (M.sortM ds))/\(∀b,sv.ownBlock=some b->w2.heap.size<=b)/\(∀x,x∈(t.ks.take i).map (M.sortM ds)->x≠ -1)) ⟨_,rfl,Same.refl _ _,OwnI.nil,(λb h=>by cases h),by simp⟩ ?_;rintro i _ _ w3 C hi ⟨sv,rfl,d,B,L,n⟩ S;have k:=hE.trans d;have o:=m.ext k;refine oZ ?_;refine zb (λa=>?_) (λa=>?_)
  .simp(disch:=exact oS) only[push_cast,o.iaddr];refine o.load zc oM λx r=>?_;obtain⟨cs,rfl,s⟩:=r.cells;refine zi zr λb2 w4 a4 e a7 h4=>?_;refine stTerm h4 rfl (s.ext e) λw5 Z aa h5=>?_;have p:Ext w3 w5:=Ext.then e Z λy Q=>by subst Q;omega
   rw[h5.ldAgg (t:=za) (by rw[zV s];exact zc)];refine ih _ (M.getD_mem oM _) (hm.ext (k.trans p)) (hd.ext (k.trans p)) N (s.ext p).term λw6 V=>?_;refine oZ ?_;have f:=p.trans V;refine zb (λb=>?_) (λb=>?_)
   .have:=U _ (k.trans f);rw[M.sortM_eq] at this;unfold M.sortF at this;rwa[y3 (λh=>h.2 (b▸Gc (M.getD_mem oM _)))] at this
   .refine qJ xt yM xJ rfl rfl dC λb3 w7 a5 z a8 h7=>?_;have O:=(B.ext f).ext z;have hlen:((t.ks.take i).map (M.sortM ds)).length=i:=by rw[K3,gh];omega
    refine O.app1 xC h7 (by rw[hlen];omega) (by rw[hlen];omega) λa1 w8 q a0 X=>?_
    try simp only[push_cast]
    rw[inc64' oM];rw[Zl _ oM] at q;refine S oM _ _ ⟨a1,rfl,Ext.then ((d.trans f).trans z) a0 λy Q=>L y Q,q,λy Q=>?_,λx r=>?_⟩
    .rcases X y Q with h|h
     .exact L y h
     .have:=(d.trans f).size;have:=z.size;omega
    .rw[<-Zl _ oM default] at r;rcases gl.1 r with r|r
     .exact n x r
     .rw[gx.1 r];exact b
  .have W:i=t.ks.length:=oM;subst W;rw[gA] at B n;have R:=E.ext d;simp only[push_cast,R.ldAgg (t:=za) zc];refine I.sort _ _ F G _ _ _ _ ds t _ rfl (hd.ext k) ⟨ksv,rfl,o⟩ B.ints (by rw[K3];omega) (λj=>?_) λw4 e=>?_
   .by_cases hj:j<t.ks.length
    .rw[M.getD_map _ hj 0 default];exact M.sort_range N _
    .rw[y4,Pn (by simpa using hj)];simp
   .have:=U _ (k.trans e);rw[M.sortM_eq] at this;unfold M.sortF at this;rwa[X0 ⟨hf,λh=>n _ h rfl⟩] at this
def nnB:M.Tm->Bool:=M.Tm.fold λt xs=>decide (t.op≠21)&&xs.all id
theorem X70 (t:M.Tm):nnB t=(decide (t.op≠21)&&(t.ks.map nnB).all id):=M.Tm.fold_eq _ t
theorem nnB_iff {t:M.Tm}:nnB t=true↔t.op≠21/\∀k,k∈t.ks->nnB k=true:=by
 rw[X70,gg,V0,gQ];refine z0a λ_=>⟨λh k a=>h _ (Gc a),λh y b=>?_⟩;obtain⟨k,a,rfl⟩:=gy.1 b;exact h k a
theorem valueOf_specG:∀(t:M.Tm) {w:World} {K:oK} {F G:oA} {mb:Nat} {dv v ev:Value} {ds:List M.Dcl} {env:oI},KindsR w mb->DclsR F w dv ds->M.envOk ds env=true->((∃eb,ev= .map (some eb)/\EnvM w eb ds env)\/nnB t=true)->TermR G w v t->M.sortM ds t≠ -1->
  (∀w',Ext w w'->K (qe (M.sortM ds t) (M.evalM ds env t)) w')->vcall Z5 #[.map (some mb),dv,v,ev] w K:=by
 refine M.Tm.ind λt ih w K F G mb dv v ev ds env hm hd B hE ht p hK=>?_;have a4:=(M.env_ok B).1;apply Wm;obtain⟨ksv,rfl,o⟩:=ht;obtain⟨hf,n,a5⟩:=M.sort_parts p;have L:=hf;simp only[M.formed,gg,V0] at L;have a9:t.ks.length<=3:=by
  have Y:=L.1;unfold M.arity at Y
  repeat' split at Y
  all_goals omega
 have ho:0<=M.arity t.op:=oM
 refine zj λb1 w1 aa I ae Y=>?_;refine zi zY λb2 w2 ab J af h2=>?_;have q1:=Y.ext J;have H:=I.trans J;have aj:=H.size;have ai:=o.small;simp only[push_cast,q1.ld4,o.len];refine vloop_up t.ks.length (λi u w'=> ∃sv,u=[sv,nI i]/\Ext w2 w'/\OwnP xR w' sv ((t.ks.take i).map (M.vecM ds env))/\(∀b,sv.ownBlock=some b->w2.heap.size<=b)) ⟨_,rfl,Same.refl _ _,OwnP.nil _,λb h=>by cases h⟩ ?_;rintro i _ _ w3 C hi ⟨sv,rfl,l,D,T⟩ hC;have f:=H.trans l;have r:=o.ext f;have ak:=l.size;refine oZ ?_;refine zb (λa=>?_) (λa=>?_)
 .simp(disch:=exact oS) only[push_cast,r.iaddr];refine r.load zc oM λx hx=>?_;obtain⟨cs,rfl,z⟩:=hx.cells;refine zi zr λb3 w4 ac d ag h4=>?_;refine stTerm h4 rfl (z.ext d) λw5 a6 al h5=>?_;have c:Ext w3 w5:=Ext.then d a6 λy E=>by subst E;omega
  rw[h5.ldAgg (t:=za) (by rw[zV z];exact zc)];refine ih _ (M.getD_mem oM _) (hm.ext (f.trans c)) (hd.ext (f.trans c)) B (hE.imp (λ⟨eb,e,h⟩=>⟨eb,e,h.ext (f.trans c)⟩) λh=>(nnB_iff.1 h).2 _ (M.getD_mem oM _)) (z.ext c).term (n _ (M.getD_mem oM _)) λw6 q=>?_;have m:=c.trans q;refine qJ yV0 xW0 zY rfl rfl dC λb4 w7 ad A ah h7=>?_;have W:=(D.ext m).ext A;have hlen:((t.ks.take i).map (M.vecM ds env)).length=i:=by rw[K3,gh];omega
  refine Own.app1k W xf0 dC h7 rfl (by intro v hv;simp only[gj,gC,Gn] at hv;rcases hv with rfl|rfl<;>rfl) (by rw[K3,hlen];omega) (by rw[K3,hlen];omega) λX w8 U a8 a3=>?_;rw[inc64' oM];have V:OwnP xR w8 X ((t.ks.take (i+1)).map (M.vecM ds env)):=by
   unfold OwnP;rw[<-Zl _ oM default,gE,M.vecM_pair ds env (t.ks.getD i default)];exact U
  refine hC oM _ _ ⟨X,rfl,Ext.then ((l.trans m).trans A) a8 λy E=>T y E,V,λy E=>?_⟩;rcases a3 y E with h|h
  .exact T y h
  .have:=m.size;have:=A.size;omega
 .have a0:i=t.ks.length:=oM;subst a0;rw[gA] at D;refine zd λw4 d _=>?_;have q4:=(q1.ext l).ext d;have g:=f.trans d;have R:=o.ext g;simp only[push_cast,q4.ld0,q4.ldAgg (t:=za) zc,k5];refine qf0 (hm.ext g) ho (Same.refl _ _) λkv a1 a2=>⟨rfl,?_⟩;refine sortOf_spec t (hm.ext g) (hd.ext g) a4 ⟨ksv,rfl,R⟩ λw5 c=>?_;have q5:=q4.ext c;simp only[push_cast,q5.ld0,q5.ldAgg (t:=za) zc,k5,gi];refine⟨a2 _ c,?_⟩;have s:=g.trans c;have S:(t.ks.map (M.vecM ds env)).length=t.ks.length:=K3 _;have O:∀j,j<t.ks.length->(t.ks.map (M.vecM ds env)).getD j (0,0)=(M.sortM ds (t.ks.getD j default),M.evalM ds env (t.ks.getD j default)):=λj Q=>(by rw[M.getD_map _ Q _ default,M.vecM_pair]);have N:(t.ks.map (M.vecM ds env)).map (·.1)=t.ks.map (M.sortM ds):=by
   rw[GV];exact Gq λk _=>M.vecM_sort ds env k
  refine a1.value _ _ G _ _ _ _ ds env t _ rfl (λZ=>hE.elim (λ⟨eb,e,h⟩=>⟨eb,e,h.ext s⟩) λh=>absurd Z (nnB_iff.1 h).1) ⟨ksv,rfl,o.ext s⟩ ((D.ext (d.trans c)).pairs) (by rw[S];omega) (λj Q=>?_) (by rw[N,<-a5];exact p) λw6 q=>?_
  .rw[S] at Q;rw[O j Q];exact M.eval_in B _ (n _ (M.getD_mem Q _))
  .simp only[push_cast,k5];have h6:=(((h2.ext l).ext d).ext c).ext q;refine stVec h6 λw7 a7 _ h7=>?_;rw[h7.lv rK];have hX:Ext w w7:=Ext.then (s.trans q) a7 λy E=>by subst E;have:=I.size;omega
   have:=hK w7 hX;rw[M.evalM_eq] at this;exact this
theorem count_spec:∀(t:M.Tm) {w:World} {K:oK} {F:oA} {v:Value} {m deep mb:Nat} {ty:TypeId},TermR F w v t->Blk w mb [nI m] ty->(∀b,F b->b≠mb)->m<=20->1<=deep->deep<=8->
  (∀w' (r B:Nat),Same (· =mb) w w'->Blk w' mb [nI B] ty->m<B->B<=21->deep<=r->r<=8->(m+M.sizeM t<=20/\deep-1+M.deepM t<=7->B=m+M.sizeM t/\r=deep-1+M.deepM t)->(¬(m+M.sizeM t<=20/\deep-1+M.deepM t<=7)->20<B\/7<r)->K (nI r) w')->
  vcall yk0 #[v,nI deep,oP mb 0] w K:=by
 refine M.Tm.ind λt ih w K F v m deep mb ty ht E hF hm a2 a3 J=>?_;refine ze {loops:=[(6,[7,22])]} Tryz.func184 ?_;obtain⟨ksv,rfl,n⟩:=ht;refine zj λb1 w1 a0 p a9 X=>?_;have o:=E.ext p;have V:=E.lt;have ab:=n.small;have hS:=M.szT_all t;have hD:=M.dpT_all t;simp only[push_cast,o.ld0];rw[inc64' oM];refine o.st (i:=0) rfl rfl yM rfl λw2 A ac D=>?_;have s:Same (· =mb) w w2:=(Same.of_ext p).trans A;have q2:=X.same A oM;replace D:Blk w2 mb [nI (m+1:Nat)] ty:=D;refine zb (λa=>?_) (λa=>?_)
 .exact J w2 deep (m+1) s D oM oM oM oM (λh=>oM) (λh=>oM)
 simp only[push_cast,q2.ld4,n.len];refine vloop_up t.ks.length (λi u w'=> ∃r mi:Nat,u=[nI r,nI i]/\Same (· =mb) w2 w'/\Blk w' mb [nI mi] ty/\m<mi/\mi<=21/\deep<=r/\r<=8/\(m+1+M.szT t.ks i<=20/\deep+M.dpT t.ks i<=7->mi=m+1+M.szT t.ks i/\r=deep+M.dpT t.ks i)/\(¬(m+1+M.szT t.ks i<=20/\deep+M.dpT t.ks i<=7)->20<mi\/7<r))
  ⟨deep,m+1,rfl,Same.refl _ _,D,oM,oM,oM,oM,λh=>by simp[M.szT,M.dpT],λh=>by
   have T:M.szT t.ks 0=0:=rfl;have e2:M.dpT t.ks 0=0:=rfl;omega⟩ ?_
 rintro i _ _ G C hi ⟨r,mi,rfl,z,I,c1,c2,c3,R,H,S⟩ hC;have d:Same (· =mb) w G:=s.trans z;have g:TmsR F G ksv t.ks:=n.same d λb E _ e=>hF b E e;have ad:=d.size;refine oZ ?_;refine zb (λb=>?_) (λb=>?_)
 .have a5:=M.szT_mono (ks:=t.ks) (i:=i) (j:=t.ks.length) oM (gr _);have a6:=M.dpT_mono (ks:=t.ks) (i:=i) (j:=t.ks.length) oM (gr _);have a7:=M.szT_succ (ks:=t.ks) (i:=i) oM;have a8:=M.dpT_succ (ks:=t.ks) (i:=i) oM;simp(disch:=exact oS) only[push_cast,g.iaddr];refine g.load zc oM λx hx=>?_;obtain⟨cs,rfl,l⟩:=hx.cells;refine zi zr λb2 w4 a1 q aa Y=>?_;refine stTerm Y rfl (l.ext q) λW O ae Z=>?_;have f:Ext G W:=Ext.then q O λy hy=>by subst hy;omega
  have k:=I.ext f;have a4:=I.lt;simp only[push_cast,k.ld0];refine zb (λc=>?_) (λc=>?_)
  .exact J W r mi (d.trans (Same.of_ext f)) k c1 c2 c3 R (λh=>oM) (λh=>oM)
  .rw[Z.ldAgg (t:=za) (by rw[zV l];exact zc)];have T:IntKind.i64.wrap ((deep:Int)+1)=((deep+1:Nat):Int):=inc64' oM;rw[T];refine ih _ (M.getD_mem oM _) (l.ext f).term k hF oM oM oM λw6 Q m2 N h6 d1 d2 d3 d4 d5 d6=>?_;refine oZ ?_;rw[inc64' oM,show max (r:Int) (Q:Int)=((max r Q:Nat):Int) by omega];refine hC oM _ _ ⟨max r Q,m2,rfl,(z.trans (Same.of_ext f)).trans N,h6,oM,d2,oM,oM,λh=>?_,λh=>?_⟩
   .have:=H oM;have:=d5 oM;omega
   .by_cases U:m+1+M.szT t.ks i<=20/\deep+M.dpT t.ks i<=7
    .have:=H U;have:=d6 oM;omega
    .have:=S U;omega
 .have L:i=t.ks.length:=oM;subst L;refine J G r mi d I c1 c2 c3 R (λh=>?_) (λh=>?_)
  .have:=H oM;omega
  .exact S oM
theorem TermMany_spec {v:Value} {t:M.Tm} (A:TermR F w v t) (H:∀w',Ext w w'->K (.tuple #[nI (M.manyM t),nI (M.lvlM t)]) w'):vcall KP #[v] w K:=by
 refine ze {} Tryz.func125 ?_;have s:=A.weaken (F':=λb=>b<w.heap.size) λb _ h=>h;obtain⟨ksv,rfl,L⟩:=A;refine zj λb1 w1 I o N E=>?_;refine xz xJ λb2 w2 J g O l=>?_;replace l:Blk w2 b2 [nI 0] zE:=l;refine l.st (i:=0) rfl rfl yM rfl λB k Q n=>?_;replace n:Blk B b2 [nI ((0:Nat):Int)] zE:=n;have S:=(E.ext g).same k oM;have j:Ext w B:=Ext.then (o.trans g) k λy x=>by subst x;omega
 rw[S.ldAgg (t:=za) zc];refine count_spec t (m:=0) (deep:=1) (s.ext j) n (λb V e=>oM) oM oM oM λC r R q G c1 c2 c3 T f D=>?_;have p:Ext w C:=Ext.then j q λy x=>by subst x;omega
 have d:=H C p;have c:M.fits t=true↔M.sizeM t<=20/\M.deepM t<=7:=M.fits_iff;unfold M.manyM M.lvlM at d;simp only[push_cast,G.ld0];refine zb (λa=>?_) (λa=>?_)
 .rw[y3 (λh=>by have u:=c.1 h;have:=f oM;omega),y3 (λh=>by have u:=c.1 h;have:=f oM;omega)] at d;exact d
 .refine zb (λb=>?_) (λb=>?_)
  .rw[y3 (λh=>by have u:=c.1 h;have:=f oM;omega),y3 (λh=>by have u:=c.1 h;have:=f oM;omega)] at d;exact d
  .have z:M.sizeM t<=20/\M.deepM t<=7:=by
    by_cases h:M.sizeM t<=20/\M.deepM t<=7
    .exact h
    .have:=D oM;omega
   have U:=f oM;rw[X0 (c.2 z),X0 (c.2 z)] at d;rw[show R=M.sizeM t by omega,show r=M.deepM t by omega];exact d
end
end Go.Proofs.YtfnpmncplaibiaaGreatDoor
end
