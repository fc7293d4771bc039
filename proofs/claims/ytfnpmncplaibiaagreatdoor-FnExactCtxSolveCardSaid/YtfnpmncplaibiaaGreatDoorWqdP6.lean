import Derived.Test.YtfnpmncplaibiaaGreatDoorWqdP5
import Derived.Ground.NamesProg
import Derived.Ground.SlsfProg
import Derived.Shelf.SlSortCmp.Whole1
import Derived.Shelf.Strings.OnBuilder
import Derived.Shelf.Strings.SlTrimAscii
import Derived.Shelf.SlGeneric
/- A part of the proof. -/
set_option linter.all false
set_option maxRecDepth 9999
set_option maxHeartbeats 2000000
noncomputable section
namespace Go.Proofs.YtfnpmncplaibiaaGreatDoor
open Go Go.Vc Go.Proofs
section
variable {w:World} {K:oK} {F:oA}
theorem nat_ck {p:Nat->Nat->Nat->Bool} (h:∀v:Fin 5,(List.range 16).all (λa=>(List.range 16).all λb=> !(decide (1<=v.1)&&decide (a<2^v.1))||p v.1 a b)=true) {k a b:Nat} (c:1<=k) (d:k<=4) (e:a<2^k) (f:b<16):p k a b=true:=by
 have:=h ⟨k,oM⟩;simp only[Gb,gJ,Gv,gV,pg,decide_eq_false_iff_not] at this
 grind [pow16]
theorem shl_ck {k a b:Nat} (c:1<=k) (d:k<=4) (e:a<2^k) (f:b<16):a*2^min b k%2^k=M.binN 11 k a b:=
 of_decide_eq_true (nat_ck (p:=λk a b=>decide (a*2^min b k%2^k=M.binN 11 k a b)) (by decide+kernel) c d e f)
theorem shr_ck {k a b:Nat} (c:1<=k) (d:k<=4) (e:a<2^k) (f:b<16):a/2^min b k=M.binN 12 k a b:=
 of_decide_eq_true (nat_ck (p:=λk a b=>decide (a/2^min b k=M.binN 12 k a b)) (by decide+kernel) c d e f)
theorem sar_ck {k a b:Nat} (c:1<=k) (d:k<=4) (e:a<2^k) (f:b<16):(if a/2^(k-1)%2=0 then a/2^min b k else 2^k-1-(2^k-1-a)/2^min b k)=M.binN 13 k a b:=
 of_decide_eq_true (nat_ck (p:=λk a b=>decide ((if a/2^(k-1)%2=0 then a/2^min b k else 2^k-1-(2^k-1-a)/2^min b k)=M.binN 13 k a b)) (by decide+kernel) c d e f)
theorem l1Shift_spec {op k a b:Nat} (H:11<=op) (I:op<=13) (u:1<=k) (p:k<=4) (r:a<2^k) (A:b<16) (y:∀w',Ext w w'->K (nI ((M.binN op k a b:Nat):Int)) w'):vcall YJ #[nI (op:Int),qd k a,nI (b:Int)] w K:=by
 refine ze {} Tryz.func326 ?_;have N:=pow4 u p;have s:=pow16 p r;refine zj λb1 w1 J i O l=>?_;simp only[push_cast,l.ld0];refine l1Min_spec ?_;obtain⟨n,E⟩:∃n,n=min b k:=⟨_,rfl⟩;have L:n<=k:=oM
 rw[show min (b:Int) (k:Int)=(n:Int) by omega];have j:1<=2^n/\2^n<=16:=by grind [Nat.pow_pos,Nat.le_trans,Nat.pow_le_pow_right]
 try simp only[push_cast]
 refine zb (λc=>?_) (λc=>?_)
 .have:op=11:=oM;subst this;have f:=shl_ck u p r A;rw[<-E] at f;refine zd λw2 g _=>?_;have h:=l.ext g;simp only[push_cast,h.ld0,h.ld1,y1];refine l1Two_nat oM ?_;obtain⟨q,o⟩:∃q,q=2^n:=⟨_,rfl⟩;rw[<-o] at f j⊢;have hm:=mul225 s (show q-1<16 by omega);have t:a*q=a*(q-1)+a:=by rw[<-Nat.mul_succ];grind
  obtain⟨x,Q⟩:∃x,x=a*q:=⟨_,rfl⟩;have e:IntKind.i64.wrap ((a:Int)*(q:Int))=(x:Int):=by
   grind [wrapN]
  rw[<-Q] at f;simp only[push_cast,h.ld0,h.ld1,y1,V1,e];refine l1Mod_spec u p oM oM ?_;rw[show(x:Int)%((2^k:Nat):Int)=((x%2^k:Nat):Int) from rfl,f];exact y _ (i.trans g)
 refine zb (λc2=>?_) (λc2=>?_)
 .have:op=12:=oM;subst this;have f:=shr_ck u p r A;rw[<-E] at f;refine zd λw2 g _=>?_;have h:=l.ext g;simp only[push_cast,h.ld1,y1];refine l1Two_nat oM ?_;obtain⟨q,o⟩:∃q,q=2^n:=⟨_,rfl⟩;rw[<-o] at f j⊢;have B:=Gx a q;simp only[push_cast,h.ld1,y1,V1];rw[kz oM,show(a:Int).tdiv (q:Int)=((a/q:Nat):Int) from rfl,wrapN oM,f];exact⟨rfl,y _ (i.trans g)⟩
 .have:op=13:=oM;subst this;have f:=sar_ck u p r A;rw[<-E] at f;have G:IntKind.i64.wrap ((k:Int)-1)=((k-1:Nat):Int):=(by grind [zk]);simp only[push_cast,l.ld0,l.ld1,G];refine l1Bit_spec oM oM ?_;obtain⟨z,R⟩:∃z,z=a/2^(k-1)%2:=⟨_,rfl⟩;rw[<-R] at f⊢;refine oZ ?_;refine zb (λc3=>?_) (λc3=>?_)
  .rw[y3 oM] at f;refine zd λw2 g _=>?_;have h:=l.ext g;simp only[push_cast,h.ld1,y1];refine l1Two_nat oM ?_;obtain⟨q,o⟩:∃q,q=2^n:=⟨_,rfl⟩;rw[<-o] at f j⊢;have B:=Gx a q;simp only[push_cast,h.ld1,y1,V1];rw[kz oM,show(a:Int).tdiv (q:Int)=((a/q:Nat):Int) from rfl,wrapN oM,f];exact⟨rfl,y _ (i.trans g)⟩
  .rw[y0 oM] at f;simp only[push_cast,l.ld0];refine l1Two_nat oM ?_;obtain⟨m,hm⟩:∃m,m=2^k:=⟨_,rfl⟩;rw[<-hm] at f N r⊢;have F:IntKind.i64.wrap ((m:Int)-1)=((m-1:Nat):Int):=(by grind [zk]);have v:IntKind.i64.wrap (((m-1:Nat):Int)-(a:Int))=((m-1-a:Nat):Int):=(by grind [zk]);obtain⟨m1,D⟩:∃m1,m1=m-1:=⟨_,rfl⟩;rw[<-D] at F v f;obtain⟨m2,t⟩:∃m2,m2=m1-a:=⟨_,rfl⟩;rw[<-t] at v f;simp only[push_cast,F];refine zd λw2 g _=>?_;have h:=l.ext g;simp only[push_cast,h.ld1,y1,v];refine l1Two_nat oM ?_;obtain⟨q,o⟩:∃q,q=2^n:=⟨_,rfl⟩;rw[<-o] at f j⊢;have B:=Gx m2 q;simp only[push_cast,h.ld1,y1,V1,v];rw[kz oM,show(m2:Int).tdiv (q:Int)=((m2/q:Nat):Int) from rfl,wrapN oM];refine⟨rfl,?_⟩;obtain⟨d,C⟩:∃d,d=m2/q:=⟨_,rfl⟩;rw[<-C] at f B⊢;refine oZ ?_;rw[zk oM oM,show(m1:Int)-(d:Int)=((m1-d:Nat):Int) by omega,f];exact⟨trivial,y _ (i.trans g)⟩
theorem bin4 {op k a b:Nat} (c:3<=op) (d:op<=5):M.binN op 4 a b=M.binN op k a b:=by
 grind [M.binN]
theorem l1Bin_spec {k a l b:Nat} {op:Int} (s:1<=k) (n:k<=4) (N:a<2^k) (Y:l<=4) (O:b<2^l) (B:∀w' (r:Int),Ext w w'->3<=op->op<=13->(k=l->r=((M.binN op.toNat k a b:Nat):Int))->K (.tuple #[nI r,.bool true]) w')
  (T:∀w',Ext w w'->¬(3<=op/\op<=13)->K (.tuple #[nI 0,.bool false]) w'):vcall zZ0 #[nI op,qd k a,qd l b] w K:=by
 refine ze {cuts:=[(12293,[9])]} Tryz.func300 ?_;have U:=pow4 s n;have i:=pow16 n N;have h:=pow16 Y O;refine zj λb1 w1 R F V Q=>?_;refine zj λb2 w2 S q W g2=>?_;have f:=Q.ext q;have A:=F.trans q;refine zo (λu w'=>u=[.bool (decide (3<=op/\op<=5))]/\w'=w2) (λC hC=>?_) ?_
 .refine oZ ?_;refine zb (λc=>?_) (λc=>?_)
  .grind
  refine zb (λc2=>?_) (λc2=>?_)
  .grind
  grind [decide_eq_false]
 .rintro u g w3 ⟨rfl,rfl⟩;refine oZ ?_;refine zb (λc=>?_) (λc=>?_)
  .simp only[push_cast,f.ld1,g2.ld1];obtain⟨o,rfl⟩:∃o:Nat,op=o:=⟨op.toNat,oM⟩;refine l1Bits_spec oM oM i h ?_
   grind [bin4]
  refine zb (λH=>?_) (λH=>?_)
  .subst H;simp only[push_cast,f.ld0,f.ld1,g2.ld1];rw[zk (x:=(a:Int)+b) oM oM];refine l1Mod_spec s n oM oM ?_;refine B _ _ A oM oM λe=>?_;show _=(((a+b)%2^k:Nat):Int)
   grind
  refine zb (λI=>?_) (λI=>?_)
  .subst I;simp only[push_cast,f.ld0,f.ld1,g2.ld1];rw[zk (x:=(a:Int)-b) oM oM];refine l1Mod_spec s n oM oM ?_;refine B _ _ A oM oM λe=>?_;subst e;show _=(((a+2^k-b)%2^k:Nat):Int);rcases(by omega:k=1\/k=2\/k=3\/k=4) with rfl|rfl|rfl|rfl<;>simp at O⊢ <;>omega
  refine zb (λJ=>?_) (λJ=>?_)
  .subst J;have hm:=mul225 i h;simp only[push_cast,f.ld0,f.ld1,g2.ld1];rw[show(a:Int)*(b:Int)=((a*b:Nat):Int) by simp,wrapN oM];refine l1Mod_spec s n oM oM ?_;exact B _ _ A oM oM λe=>rfl
  refine zb (λL=>?_) (λL=>?_)
  .subst L;simp only[push_cast,g2.ld1];refine zb (λd=>?_) (λd=>?_)
   .have j:b=0:=oM;subst j;simp only[push_cast,f.ld0];refine l1Two_nat oM ?_;obtain⟨m,hm⟩:∃m,m=2^k:=⟨_,rfl⟩;rw[<-hm] at U⊢;simp only[push_cast]
    grind [zk,M.binN]
   .simp only[push_cast,f.ld1,g2.ld1];have hd:=Gx a b;rw[kz oM,show(a:Int).tdiv (b:Int)=((a/b:Nat):Int) from rfl,wrapN oM]
    grind [M.binN]
  refine zb (λp=>?_) (λp=>?_)
  .subst p;simp only[push_cast,g2.ld1];refine zb (λd=>?_) (λd=>?_)
   .have j:b=0:=oM;subst j;simp only[push_cast,f.ld1]
    grind [M.binN]
   .simp only[push_cast,f.ld1,g2.ld1];rw[Z3 oM,show(a:Int).tmod (b:Int)=((a%b:Nat):Int) from rfl]
    grind [M.binN]
  have X:∀o:Nat,11<=o->o<=13->op=o->zu zg (oP b1 0) w3 λt80 v=>zu zV (oP b2 1) v λt82 y=>vcall YJ #[nI op,t80,t82] y λt83 z=>K (.tuple #[t83,.bool true]) z:=by
   intro o Z o2 e;subst e;simp only[push_cast,f.ldAgg (t:=zg) zr,g2.ld1];refine l1Shift_spec Z o2 s n N h λw4 G=>?_;exact B _ _ (A.trans G) oM oM λe=>rfl
  refine zb (λD=>?_) (λD=>?_)
  .grind [Xl0]
  refine zb (λE=>?_) (λE=>?_)
  .grind [Xl0]
  grind [zb]
theorem spec_VecUn_spec {op wd n:Int} (E:∀w',Ext w w'->K (.tuple #[qd (M.vecUn op wd n).1.1 (M.vecUn op wd n).1.2,.bool (M.vecUn op wd n).2]) w'):vcall y00 #[nI op,qd wd n] w K:=by
 refine ze {} Tryz.func271 ?_;refine zj λb1 w1 G g J C=>?_;refine zi zX λb2 w2 H f L g2=>?_;have q:=C.ext f;simp only[push_cast,q.ldAgg (t:=zg) zr];refine spec_VecOk_spec λN d=>?_;have r:=q.ext d;have g3:=g2.ext d;have D:=(g.trans f).trans d;have s:∀e o,Ext N e->Same (· =b2) e o->Ext w o:=λe o h B=>Ext.then (D.trans h) B λy Q=>oM
 simp only[push_cast];unfold M.vecUn at E;refine zn (λi=>?_) (λi=>?_)
 .refine stVec g3 λe j _ g4=>?_;rw[g4.lv rK]
  grind [Same.refl]
 .rw[gU] at i;obtain⟨k,a,rfl,rfl,u,v,F⟩:=M.vok_nat i;have I:=pow4 u v;refine zb (λp=>?_) (λp=>?_)
  .subst p;refine zd λe b _=>?_;have c:=r.ext b;simp only[push_cast,c.ld0,c.ld1,y1];refine l1Two_nat oM ?_;have hu:M.unM 1 (k:Int) (a:Int)=((2^k:Nat):Int)-1-a:=(by simp[M.unM]);obtain⟨m,hm⟩:∃m,m=2^k:=⟨_,rfl⟩;rw[<-hm] at I hu F⊢;have z:IntKind.i64.wrap ((m:Int)-1)=(m:Int)-1:=zk oM oM;have A:IntKind.i64.wrap ((m:Int)-1-(a:Int))=(m:Int)-1-a:=zk oM oM;simp only[push_cast,c.ld0,c.ld1,y1,V1,z,A];refine stVec (g3.ext b) λO l _ g7=>?_;rw[g7.lv rK]
   grind
  refine zb (λa2=>?_) (λa2=>?_)
  .subst a2;refine zd λe b _=>?_;have c:=r.ext b;have x:IntKind.i64.wrap (0-(a:Int))=0-(a:Int):=zk oM oM;simp only[push_cast,c.ld0,c.ld1,y1,x];refine l1Mod_spec u v oM oM ?_;have hu:M.unM 2 (k:Int) (a:Int)=(0-(a:Int))%((2^k:Nat):Int):=by
    simp_all[M.unM]
   obtain⟨m,hm⟩:∃m:Int,m=(0-(a:Int))%((2^k:Nat):Int):=⟨_,rfl⟩;rw[<-hm] at hu⊢;simp only[push_cast,c.ld0,y1,V1];refine stVec (g3.ext b) λO l _ g7=>?_;rw[g7.lv rK]
   grind
  .refine stVec g3 λe j _ g4=>?_;rw[g4.lv rK]
   grind [Same.refl]
theorem spec_VecBin_spec {op wd n v m:Int} (B:∀w',Ext w w'->K (.tuple #[qd (M.vecBin op wd n v m).1.1 (M.vecBin op wd n v m).1.2,.bool (M.vecBin op wd n v m).2]) w'):vcall U4 #[nI op,qd wd n,qd v m] w K:=by
 refine ze {cuts:=[(8195,[])]} Tryz.func273 ?_;refine zj λb1 w1 a0 F a5 h1=>?_;refine zj λb2 w2 a3 x a6 g2=>?_;refine zi zX λb3 T a4 z a7 r3=>?_;have hE:=(F.trans x).trans z;have a9:=F.size;have aa:=x.size;have V:=(h1.ext x).ext z;have g3:=g2.ext z;have p:∀i j,Ext T i->Same (· =b3) i j->Ext w j:=λi j h h'=>Ext.then (hE.trans h) h' λy hy=>oM
 have f:(M.vecBin op wd n v m)=((0,0),false)->∀i,Ext T i->zT zg (oP b3 0) (qd 0 0) i λ_ j=>vlv zg (oP b3 0) j λr w6=>K (.tuple #[r,.bool false]) w6:=by
  intro e i c;refine stVec (r3.ext c) λj a8 _ r5=>?_;rw[r5.lv rK]
  grind
 refine zo (λu i=>u=[]/\Ext T i/\M.vok wd n=true/\M.vok v m=true) (λC hC=>?_) ?_
 .simp only[push_cast,V.ldAgg (t:=zg) zr];refine spec_VecOk_spec λi c=>?_;have g4:=g3.ext c;refine oZ ?_;refine zn (λhv=>f ?_ _ c) (λhv=>?_)
  .simp_all[M.vecBin]
  .simp only[push_cast,g4.ldAgg (t:=zg) zr];refine spec_VecOk_spec λj d=>?_;refine oZ ?_;refine zn (λo=>f ?_ _ (c.trans d)) (λo=>?_)
   .simp_all[M.vecBin]
   .exact hC _ _ ⟨rfl,c.trans d,by grind,by grind⟩
 .rintro u g i ⟨rfl,c,G,o⟩;have H:=V.ext c;have g4:=g3.ext c;have r4:=r3.ext c;obtain⟨k,a,rfl,rfl,k1,Z,W⟩:=M.vok_nat G;obtain⟨l,b,rfl,rfl,l1,R,X⟩:=M.vok_nat o;have D:=pow16 Z W;have Y:=pow16 R X;unfold M.vecBin at B f;rw[y3 ⟨G,o⟩] at B f;refine oZ ?_;refine zb (λI=>?_) (λI=>?_)
  .rw[y3 I] at B f;have L:IntKind.i64.wrap ((k:Int)+(l:Int))=(k:Int)+(l:Int):=zk oM oM;simp only[push_cast,H.ld0,g4.ld0,L];refine zb (λa2=>f (y0 oM) _ c) (λa2=>?_);refine zd λj d _=>?_;have s:=H.ext d;have g5:=g4.ext d;simp only[push_cast,s.ld0,s.ld1,g5.ld0,g5.ld1,y1,L];refine l1Two_nat oM ?_;have O:=pow4 l1 R;have E:M.catM (l:Int) (a:Int) (b:Int)=(a:Int)*((2^l:Nat):Int)+b:=(by simp[M.catM]);have hm:=mul225 D (show 2^l-1<16 by omega);have Q:a*2^l=a*(2^l-1)+a:=by rw[<-Nat.mul_succ];grind
   obtain⟨q,hq⟩:∃q,q=2^l:=⟨_,rfl⟩;rw[<-hq] at E hm Q O⊢;have hz:(a:Int)*(q:Int)=((a*q:Nat):Int):=(by simp);have e2:IntKind.i64.wrap ((a:Int)*(q:Int))=(a:Int)*(q:Int):=zk oM oM;have e3:IntKind.i64.wrap ((a:Int)*(q:Int)+(b:Int))=(a:Int)*(q:Int)+b:=zk oM oM;simp only[push_cast,s.ld0,s.ld1,g5.ld0,g5.ld1,y1,L,e2,e3,V1];refine stVec (r4.ext d) λU A _ S=>?_;rw[S.lv rK];have:=B U (p _ _ (c.trans d) A)
   grind
  .rw[y0 I] at B f;simp only[push_cast,H.ldAgg (t:=zg) zr,g4.ldAgg (t:=zg) zr];refine l1Bin_spec k1 Z W R X (λj r d c3 J hr=>?_) λj d hn=>?_
   .have s:=H.ext d;have g5:=g4.ext d;simp only[push_cast,s.ld0,g5.ld0,Gh];refine zb (λa2=>f (y0 oM) _ (c.trans d)) (λa2=>?_);have N:k=l:=oM;subst N
    try simp only[push_cast,s.ld0]
    refine stVec (r4.ext d) λU A _ S=>?_;rw[S.lv rK];have:=B U (p _ _ (c.trans d) A);rw[y3 ⟨c3,J,rfl⟩] at this;rw[hr rfl];exact this
   .simp only[push_cast,PB];exact f (y0 (λh=>hn ⟨h.1,h.2.1⟩)) _ (c.trans d)
theorem spec_VecCmp_spec {op wd n v m:Int} (o:∀w',Ext w w'->K (.tuple #[.bool (M.vecCmp op wd n v m).1,.bool (M.vecCmp op wd n v m).2]) w'):vcall U3 #[nI op,qd wd n,qd v m] w K:=by
 refine ze {cuts:=[(8195,[])]} Tryz.func272 ?_;refine zj λb1 w1 L A O G=>?_;refine zj λb2 w2 N p Q g2=>?_;have s:=A.trans p;have x:=G.ext p;have i:(M.vecCmp op wd n v m)=(false,false)->∀h,Ext w2 h->K (.tuple #[.bool false,.bool false]) h:=by
  intro e h c;have:=o h (s.trans c)
  grind
 refine zo (λu h=>u=[]/\Ext w2 h/\M.vok wd n=true/\M.vok v m=true/\wd=v) (λC H=>?_) ?_
 .simp only[push_cast,x.ldAgg (t:=zg) zr];refine spec_VecOk_spec λh c=>?_;have g4:=g2.ext c;refine oZ ?_;refine zn (λR=>i ?_ _ c) (λR=>?_)
  .simp_all[M.vecCmp]
  .simp only[push_cast,g4.ldAgg (t:=zg) zr];refine spec_VecOk_spec λS d=>?_;have g5:=g4.ext d;have z:=(x.ext c).ext d;refine oZ ?_;refine zn (λf=>i ?_ _ (c.trans d)) (λf=>?_)
   .simp_all[M.vecCmp]
   .simp only[push_cast,z.ld0,g5.ld0];refine zb (λr=>i ?_ _ (c.trans d)) (λr=>?_)
    .simp_all[M.vecCmp]
    .exact H _ _ ⟨rfl,c.trans d,by grind,by grind,oM⟩
 .rintro u g h ⟨rfl,c,j,f,rfl⟩;have y:=x.ext c;have g4:=g2.ext c;unfold M.vecCmp at o i;refine oZ ?_;refine zb (λr=>?_) (λr=>?_)
  .subst r;simp only[push_cast,y.ld1,g4.ld1];have:=o h (s.trans c);rw[y3 ⟨j,f,rfl,oM,oM⟩] at this;exact this
  refine zb (λa2=>?_) (λa2=>?_)
  .subst a2;simp only[push_cast,y.ld1,g4.ld1];have:=o h (s.trans c);rw[y3 ⟨j,f,rfl,oM,oM⟩] at this;exact this
  refine zb (λa3=>?_) (λa3=>?_)
  .subst a3;obtain⟨k,a,rfl,rfl,E,F,I⟩:=M.vok_nat j;obtain⟨l,b,U,rfl,V,W,J⟩:=M.vok_nat f;have D:l=k:=oM;subst D;refine zd λS d _=>?_;have z:=y.ext d;have g5:=g4.ext d;simp only[push_cast,z.ldAgg (t:=zg) zr,g5.ldAgg (t:=zg) zr,y1];refine l1Signed_spec E F I λX q=>?_;have g6:=g5.ext q;simp only[push_cast,g6.ldAgg (t:=zg) zr,y1,V1];refine l1Signed_spec E F J λT B=>?_;simp only[push_cast,y1];have:=o T (((s.trans c).trans d).trans (q.trans B));rw[y3 ⟨j,f,rfl,oM,oM⟩] at this;exact this
  grind
theorem spec_VecCut_spec {wd n hi lo:Int} (i:∀w',Ext w w'->K (.tuple #[qd (M.vecCut wd n hi lo).1.1 (M.vecCut wd n hi lo).1.2,.bool (M.vecCut wd n hi lo).2]) w'):vcall U2 #[qd wd n,nI hi,nI lo] w K:=by
 refine ze {cuts:=[(8195,[])]} Tryz.func270 ?_;refine zj λb1 w1 X o a0 U=>?_;refine zi zX λb3 L Y p a3 Q=>?_;have V:=o.trans p;have a5:=o.size;have B:=U.ext p;have s:∀c m,Ext L c->Same (· =b3) c m->Ext w m:=λc m h T=>Ext.then (V.trans h) T λy hy=>oM
 have f:(M.vecCut wd n hi lo)=((0,0),false)->∀c,Ext L c->zT zg (oP b3 0) (qd 0 0) c λ_ m=>vlv zg (oP b3 0) m λr N=>K (.tuple #[r,.bool false]) N:=by
  intro e c b;refine stVec (Q.ext b) λm a4 _ r5=>?_;rw[r5.lv rK]
  grind
 unfold M.vecCut at i f;refine zo (λu c=>u=[]/\Ext L c/\M.vok wd n=true/\0<=lo/\lo<=hi/\hi<wd) (λC hC=>?_) ?_
 .simp only[push_cast,B.ldAgg (t:=zg) zr];refine spec_VecOk_spec λc b=>?_;have D:=B.ext b;refine oZ ?_;refine zn (λA=>f ?_ _ b) (λA=>?_)
  .grind
  refine zb (λR=>f (y0 oM) _ b) (λR=>?_);refine zb (λa2=>f (y0 oM) _ b) (λa2=>?_);simp only[push_cast,D.ld0]
  grind [zb]
 .rintro u g c ⟨rfl,b,A,c1,c2,c3⟩;have D:=B.ext b;have r4:=Q.ext b;obtain⟨k,a,rfl,rfl,k1,k4,W⟩:=M.vok_nat A;obtain⟨l,rfl⟩:∃l:Nat,lo=l:=⟨lo.toNat,oM⟩;obtain⟨t,ht⟩:∃t:Nat,hi-(l:Int)+1=t:=⟨(hi-l+1).toNat,oM⟩;have O:=pow16 k4 W;have S:IntKind.i64.wrap (IntKind.i64.wrap (hi-(l:Int))+1)=(t:Int):=(by grind [zk]);simp only[push_cast,S];refine zd λm j _=>?_;have E:=D.ext j;simp only[push_cast,E.ld1,y1];refine l1Two_nat oM ?_;have v:M.cutM (a:Int) hi (l:Int)=((a/2^l%2^t:Nat):Int):=by
   unfold M.cutM
   grind
  rw[y3 ⟨A,c1,c2,c3⟩] at i;simp only[v,ht] at i;have G:0<2^l:=(by grind);have H:0<2^t:=oM;obtain⟨q,hq⟩:∃q,q=2^l:=⟨_,rfl⟩;rw[<-hq] at G i⊢;have Z:=Gx a q;have eQ:∀(w:World) (K:oK),qG .quo zV false (nI (a:Int)) (nI (q:Int)) w K=K (nI ((a/q:Nat):Int)) w:=λw K=>by
   rw[kz oM,show(a:Int).tdiv (q:Int)=((a/q:Nat):Int) from rfl,wrapN oM]
  obtain⟨d,F⟩:∃d,d=a/q:=⟨_,rfl⟩;rw[<-F] at eQ Z i;simp only[push_cast,E.ld1,y1,V1,eQ];refine l1Two_nat oM ?_;obtain⟨x,I⟩:∃x,x=2^t:=⟨_,rfl⟩;rw[<-I] at H i⊢;have eR:∀(w:World) (K:oK),qG .rem zV false (nI (d:Int)) (nI (x:Int)) w K=K (nI ((d%x:Nat):Int)) w:=λw K=>by
   grind [Z3]
  obtain⟨z,hz⟩:∃z,z=d%x:=⟨_,rfl⟩;rw[<-hz] at i eR;simp only[push_cast,E.ld1,y1,V1,eQ,eR];refine stVec (r4.ext j) λN J _ r6=>?_;rw[r6.lv rK];exact i N (s _ _ (b.trans j) J)
end
section
variable {w:World} {K:oK} {F G:oA}
theorem unKind_value_spec {s:ByteArray} {n:Int} {ev tv kv:Value} {t:M.Tm} {xs:List (Int×Int)} (R:TermR F w tv t) (S:PairsR G w kv xs) (Z:xs.length=1)
  (I:∀w',Ext w w'->K (nI (M.vecUn t.op (xs.getD 0 (0,0)).1 (xs.getD 0 (0,0)).2).1.2) w'):vcall jY #[KV s n,ev,tv,kv] w K:=by
 refine ze {cuts:=[(8194,[9])]} Tryz.func414 ?_;obtain⟨ksv,rfl,N⟩:=R;refine zj λb1 w1 J m O Y=>?_;refine zj λb2 w2 L o Q B=>?_;have z:=m.trans o;have hz:=z.size;refine zo (λu w'=> ∃b wd,u=[oP b 0]/\Ext w w'/\Blk w' b [nI wd,nI (M.vecUn t.op (xs.getD 0 (0,0)).1 (xs.getD 0 (0,0)).2).1.2] zg) (λC x=>?_) ?_
 .refine zd λV d _=>?_;have c:=z.trans d;have e:=S.ext c;have j:=B.ext d;have T:=c.size;simp(disch:=exact oS) only[push_cast,j.ld0,e.iaddr,e.load,y1,gQ];refine⟨?_,?_⟩
  .refine VecUn_spec λw4 f=>?_;have U:=f.size;simp only[push_cast,y1];refine zi zX λA W l a p k=>?_
   try simp only[push_cast,y1,V1]
   refine stVec k λX q _ E=>?_
   try simp only[push_cast,y1,V1]
   exact x _ _ ⟨_,_,rfl,Ext.then ((c.trans f).trans a) q λy v=>by subst v;omega,E⟩
  .refine zi zX λA W l a p k=>?_;have D:=j.ext a;have i:=e.ext a;simp(disch:=exact oS) only[push_cast,D.ld0,i.iaddr,i.load,y1,V1,gQ];refine VecUn_spec λX h=>?_;simp only[push_cast,y1];refine stVec (k.ext h) λw7 r _ H=>?_
   try simp only[push_cast,y1,V1]
   exact x _ _ ⟨_,_,rfl,Ext.then ((c.trans a).trans h) r λy v=>by subst v;omega,H⟩
 .rintro u g V ⟨b,wd,rfl,d,j⟩;simp only[push_cast,j.ld1];exact I _ d
theorem binKind_value_spec {s:ByteArray} {n:Int} {ev tv kv:Value} {t:M.Tm} {xs:List (Int×Int)} (R:TermR F w tv t) (S:PairsR G w kv xs) (Z:xs.length=2)
  (I:∀w',Ext w w'->K (nI (M.vecBin t.op (xs.getD 0 (0,0)).1 (xs.getD 0 (0,0)).2 (xs.getD 1 (0,0)).1 (xs.getD 1 (0,0)).2).1.2) w'):vcall jG #[KV s n,ev,tv,kv] w K:=by
 refine ze {cuts:=[(8194,[9])]} Tryz.func453 ?_;obtain⟨ksv,rfl,N⟩:=R;refine zj λb1 w1 J m O Y=>?_;refine zj λb2 w2 L o Q B=>?_;have z:=m.trans o;have hz:=z.size;refine zo (λu w'=> ∃b wd,u=[oP b 0]/\Ext w w'/\Blk w' b [nI wd,nI (M.vecBin t.op (xs.getD 0 (0,0)).1 (xs.getD 0 (0,0)).2 (xs.getD 1 (0,0)).1 (xs.getD 1 (0,0)).2).1.2] zg) (λC x=>?_) ?_
 .refine zd λV d _=>?_;have c:=z.trans d;have e:=S.ext c;have j:=B.ext d;have T:=c.size;simp(disch:=exact oS) only[push_cast,j.ld0,e.iaddr,e.load,y1,gQ];refine⟨?_,?_⟩
  .refine VecBin_spec λw4 f=>?_;have U:=f.size;simp only[push_cast,y1];refine zi zX λA W l a p k=>?_
   try simp only[push_cast,y1,V1]
   refine stVec k λX q _ E=>?_
   try simp only[push_cast,y1,V1]
   exact x _ _ ⟨_,_,rfl,Ext.then ((c.trans f).trans a) q λy v=>by subst v;omega,E⟩
  .refine zi zX λA W l a p k=>?_;have D:=j.ext a;have i:=e.ext a;simp(disch:=exact oS) only[push_cast,D.ld0,i.iaddr,i.load,y1,V1,gQ];refine VecBin_spec λX h=>?_;simp only[push_cast,y1];refine stVec (k.ext h) λw7 r _ H=>?_
   try simp only[push_cast,y1,V1]
   exact x _ _ ⟨_,_,rfl,Ext.then ((c.trans a).trans h) r λy v=>by subst v;omega,H⟩
 .rintro u g V ⟨b,wd,rfl,d,j⟩;simp only[push_cast,j.ld1];exact I _ d
theorem catKind_value_spec {s:ByteArray} {n:Int} {ev tv kv:Value} {t:M.Tm} {xs:List (Int×Int)} (R:TermR F w tv t) (S:PairsR G w kv xs) (Z:xs.length=2)
  (I:∀w',Ext w w'->K (nI (M.vecBin t.op (xs.getD 0 (0,0)).1 (xs.getD 0 (0,0)).2 (xs.getD 1 (0,0)).1 (xs.getD 1 (0,0)).2).1.2) w'):vcall jE #[KV s n,ev,tv,kv] w K:=by
 refine ze {cuts:=[(8194,[9])]} Tryz.func420 ?_;obtain⟨ksv,rfl,N⟩:=R;refine zj λb1 w1 J m O Y=>?_;refine zj λb2 w2 L o Q B=>?_;have z:=m.trans o;have hz:=z.size;refine zo (λu w'=> ∃b wd,u=[oP b 0]/\Ext w w'/\Blk w' b [nI wd,nI (M.vecBin t.op (xs.getD 0 (0,0)).1 (xs.getD 0 (0,0)).2 (xs.getD 1 (0,0)).1 (xs.getD 1 (0,0)).2).1.2] zg) (λC x=>?_) ?_
 .refine zd λV d _=>?_;have c:=z.trans d;have e:=S.ext c;have j:=B.ext d;have T:=c.size;simp(disch:=exact oS) only[push_cast,j.ld0,e.iaddr,e.load,y1,gQ];refine⟨?_,?_⟩
  .refine VecBin_spec λw4 f=>?_;have U:=f.size;simp only[push_cast,y1];refine zi zX λA W l a p k=>?_
   try simp only[push_cast,y1,V1]
   refine stVec k λX q _ E=>?_
   try simp only[push_cast,y1,V1]
   exact x _ _ ⟨_,_,rfl,Ext.then ((c.trans f).trans a) q λy v=>by subst v;omega,E⟩
  .refine zi zX λA W l a p k=>?_;have D:=j.ext a;have i:=e.ext a;simp(disch:=exact oS) only[push_cast,D.ld0,i.iaddr,i.load,y1,V1,gQ];refine VecBin_spec λX h=>?_;simp only[push_cast,y1];refine stVec (k.ext h) λw7 r _ H=>?_
   try simp only[push_cast,y1,V1]
   exact x _ _ ⟨_,_,rfl,Ext.then ((c.trans a).trans h) r λy v=>by subst v;omega,H⟩
 .rintro u g V ⟨b,wd,rfl,d,j⟩;simp only[push_cast,j.ld1];exact I _ d
theorem cutKind_value_spec {s:ByteArray} {n:Int} {ev tv kv:Value} {t:M.Tm} {xs:List (Int×Int)} (S:TermR F w tv t) (T:PairsR G w kv xs) (hl:xs.length=1)
  (J:∀w',Ext w w'->K (nI (M.vecCut (xs.getD 0 (0,0)).1 (xs.getD 0 (0,0)).2 t.a t.b).1.2) w'):vcall jC #[KV s n,ev,tv,kv] w K:=by
 refine ze {cuts:=[(8194,[9])]} Tryz.func445 ?_;obtain⟨ksv,rfl,O⟩:=S;refine zj λb1 w1 L o Q Z=>?_;refine zj λb2 w2 N p R E=>?_;have B:=o.trans p;have hz:=B.size;refine zo (λu w'=> ∃b wd,u=[oP b 0]/\Ext w w'/\Blk w' b [nI wd,nI (M.vecCut (xs.getD 0 (0,0)).1 (xs.getD 0 (0,0)).2 t.a t.b).1.2] zg) (λC A=>?_) ?_
 .refine zd λW e _=>?_;have d:=B.trans e;have f:=T.ext d;have h:=E.ext e;have U:=d.size;simp(disch:=exact oS) only[push_cast,h.ld1,h.ld2,f.iaddr,f.load,y1,gQ];refine⟨?_,?_⟩
  .refine VecCut_spec λw4 i=>?_;have V:=i.size;simp only[push_cast,y1];refine zi zX λD X m c q l=>?_
   try simp only[push_cast,y1,V1]
   refine stVec l λY r _ H=>?_
   try simp only[push_cast,y1,V1]
   exact A _ _ ⟨_,_,rfl,Ext.then ((d.trans i).trans c) r λy x=>by subst x;omega,H⟩
  .refine zi zX λD X m c q l=>?_;have z:=h.ext c;have k:=f.ext c;simp(disch:=exact oS) only[push_cast,z.ld1,z.ld2,k.iaddr,k.load,y1,V1,gQ];refine VecCut_spec λY j=>?_;simp only[push_cast,y1];refine stVec (l.ext j) λw7 v _ I=>?_
   try simp only[push_cast,y1,V1]
   exact A _ _ ⟨_,_,rfl,Ext.then ((d.trans c).trans j) v λy x=>by subst x;omega,I⟩
 .rintro u g W ⟨b,wd,rfl,e,h⟩;simp only[push_cast,h.ld1];exact J _ e
theorem cmpKind_value_spec {s:ByteArray} {n:Int} {ev tv kv:Value} {t:M.Tm} {xs:List (Int×Int)} (p:TermR F w tv t) (q:PairsR G w kv xs) (u:xs.length=2)
  (i:∀w',Ext w w'->K (nI (M.b2i (M.vecCmp t.op (xs.getD 0 (0,0)).1 (xs.getD 0 (0,0)).2 (xs.getD 1 (0,0)).1 (xs.getD 1 (0,0)).2).1)) w'):vcall jD #[KV s n,ev,tv,kv] w K:=by
 refine ze {} Tryz.func436 ?_;obtain⟨ksv,rfl,l⟩:=p;refine zj λb1 w1 j d m r=>?_;refine zj λb2 w2 k e o g=>?_;refine zd λv b _=>?_;have a:=(d.trans e).trans b;have c:=q.ext a;have h:=g.ext b;simp(disch:=exact oS) only[push_cast,h.ld0,c.iaddr,c.load,y1,gQ];refine VecCmp_spec λx f=>?_;simp only[push_cast,y1];exact YT (i _ (a.trans f))
theorem Xq {s:ByteArray} {n:Int} {ev tv kv:Value} {t:M.Tm} (k:TermR F w tv t)
  (e:∀w',Ext w w'->K (nI t.b) w'):vcall jx #[KV s n,ev,tv,kv] w K:=by
 refine ze {} Tryz.func440 ?_;obtain⟨ksv,rfl,h⟩:=k;refine zj λb1 w1 f a i l=>?_;refine zj λb2 w2 g c j d=>?_;simp only[push_cast,d.ld2];exact e _ (a.trans c)
theorem jm0:Zj0 kK .string zV:=⟨_,YF,rK⟩
theorem YW {s:ByteArray} {n:Int} {tv kv:Value} {t:M.Tm} {mb:Nat} {f:List (Value×Value)} {x:Int} (l:TermR F w tv t) (hm:MapF .string w mb f) (c:(Value.string t.s,nI x)∈f)
  (e:∀w',Ext w w'->K (nI x) w'):vcall jk #[KV s n,.map (some mb),tv,kv] w K:=by
 refine ze {} Tryz.func442 ?_;obtain⟨ksv,rfl,i⟩:=l;refine zj λb1 w1 g a j m=>?_;refine zj λb2 w2 h b k d=>?_;simp only[push_cast,d.ld3];rw[Xm jm0 (hm.ext (a.trans b)) (XO _) c];exact e _ (a.trans b)
theorem ifKind_value_spec {s:ByteArray} {n:Int} {ev tv kv:Value} {t:M.Tm} {xs:List (Int×Int)} (l:TermR F w tv t) (m:PairsR G w kv xs) (q:xs.length=3)
  (f:∀w',Ext w w'->K (nI (if(xs.getD 0 (0,0)).2=1 then(xs.getD 1 (0,0)).2 else(xs.getD 2 (0,0)).2)) w'):vcall k5 #[KV s n,ev,tv,kv] w K:=by
 refine ze {} Tryz.func448 ?_;obtain⟨ksv,rfl,i⟩:=l;refine zj λb1 w1 g c j o=>?_;refine zj λb2 w2 h d k p=>?_;have b:=m.ext (c.trans d);have e:=f _ (c.trans d)
 try simp(disch:=exact oS) only[push_cast,b.iaddr]
 try simp(disch:=exact oS) only[push_cast,b.load1]
 refine zb (λa=>?_) (λa=>?_)
 .rw[y3 a] at e
  try simp(disch:=exact oS) only[push_cast,b.iaddr]
  try simp(disch:=exact oS) only[push_cast,b.load1]
  exact e
 .rw[y0 a] at e
  try simp(disch:=exact oS) only[push_cast,b.iaddr]
  try simp(disch:=exact oS) only[push_cast,b.load1]
  exact e
def Wo (f:Value) (g:List (Int×Int)->Bool) (n:Nat):Prop:=∀(w:World) (G:oA) (kv:Value) (xs:List (Int×Int)) (K:oK),PairsR G w kv xs->xs.length=n->K (.bool (g xs)) w->vcallv f #[kv] w K
theorem Xi {s:ByteArray} {n:Int} {f ev tv kv:Value} {t:M.Tm} {g:List (Int×Int)->Bool} {m:Nat} {xs:List (Int×Int)} (j:Wo f g m) (q:TermR F w tv t) (r:PairsR G w kv xs) (l:xs.length=m)
  (e:∀w',Ext w w'->K (nI (M.b2i (g xs))) w'):vcall jn #[.agg ⟨[.string s,nI n,f]⟩,ev,tv,kv] w K:=by
 refine ze {} Tryz.func450 ?_;obtain⟨ksv,rfl,k⟩:=q;refine zj λb1 w1 h b o c=>?_;refine zj λb2 w2 i a p u=>?_;have d:=c.ext a;simp only[push_cast,d.ld2];refine j _ _ _ _ _ (r.ext (b.trans a)) l ?_;exact YT (e _ (b.trans a))
theorem js0:Wo (.func (.func Vu) #[] #[]) (λ_=>true) 0:=by
 intro w G kv xs K c b a;refine oZ ?_;refine ze {} Tryz.func186 ?_;exact a
theorem kinds2_fn:Wo (.func (.func Vt) #[] #[]) (λxs=>decide ((xs.getD 0 (0,0)).2=0)) 1:=by
 intro w G kv xs K a c b;refine oZ ?_;refine ze {} Tryz.func187 ?_
 try simp(disch:=exact oS) only[push_cast,a.iaddr]
 try simp(disch:=exact oS) only[push_cast,a.load1]
 exact b
theorem kinds3_fn:Wo (.func (.func Vs) #[] #[]) (λxs=>decide ((xs.getD 0 (0,0)).2=1)&&decide ((xs.getD 1 (0,0)).2=1)) 2:=by
 intro w G kv xs K b d c;refine oZ ?_;refine ze {} Tryz.func188 ?_
 try simp(disch:=exact oS) only[push_cast,b.iaddr]
 try simp(disch:=exact oS) only[push_cast,b.load1]
 refine zb (λa=>?_) (λa=>?_)
 .try simp(disch:=exact oS) only[push_cast,b.iaddr]
  try simp(disch:=exact oS) only[push_cast,b.load1]
  simpa only[gu a,pJ] using c
 .simpa only[gj a,GM] using c
theorem kinds4_fn:Wo (.func (.func Vr) #[] #[]) (λxs=>decide ((xs.getD 0 (0,0)).2=1)||decide ((xs.getD 1 (0,0)).2=1)) 2:=by
 intro w G kv xs K b d c;refine oZ ?_;refine ze {} Tryz.func189 ?_
 try simp(disch:=exact oS) only[push_cast,b.iaddr]
 try simp(disch:=exact oS) only[push_cast,b.load1]
 refine zb (λa=>?_) (λa=>?_)
 .simpa only[gu a,Bool.true_or] using c
 .try simp(disch:=exact oS) only[push_cast,b.iaddr]
  try simp(disch:=exact oS) only[push_cast,b.load1]
  simpa only[gj a,P3] using c
end
section
variable {w:World} {K:oK} {F G:oA}
def EnvM (w:World) (mb:Nat) (ds:List M.Dcl) (env:oI):Prop:= ∃f,MapF .string w mb f/\∀s,0<=M.findD ds s->(Value.string s,nI (env.getD (M.findD ds s).toNat 0))∈f
theorem EnvM.ext {mb:Nat} {ds:List M.Dcl} {env:oI} {w':World} (h:EnvM w mb ds env) (he:Ext w w'):EnvM w' mb ds env:=by
 obtain⟨f,a,b⟩:=h;exact⟨f,a.ext he,b⟩
def kTy (o:Int):TypeId:=if o<=2 then zO else if o<=13 then zG else if o=14 then zK else if o<=17 then zF else if o=20 then zM else if o=21 then zE else if o=22 then zJ else if o=23 then zR else zz
structure KindR (o:Int) (v:Value):Prop where
 word:∃(s:ByteArray) (m:Int) (r:List Value),v= .iface (kTy o) (.agg ⟨.string s:: nI m::r⟩)/\(o<24->r=[])/\(24<=o->∃f,r=[f]/\f.oneCell'=true)/\(o=20\/o=21\/o=24\/s.data.toList=M.wordL o)
 iface:∃ty x,v= .iface ty x
 kids:∀(w:World) (K:oK),(∀w',Ext w w'->K (nI (M.arity o)) w')->vinvoke v mn_kids #[] w K
 sort:∀(w:World) (K:oK) (F G H:oA) (dv tv kv:Value) (ds:List M.Dcl) (t:M.Tm) (xs:oI),t.op=o->DclsR F w dv ds->TermR G w tv t->Ints H w kv xs->(xs.length:Int)=M.arity o->(∀i,-1<=xs.getD i 0/\xs.getD i 0<=4)->
  (∀w',Ext w w'->K (nI (M.sortK ds t xs)) w')->vinvoke v kj #[dv,tv,kv] w K
 value:∀(w:World) (K:oK) (G H:oA) (ev tv kv:Value) (ds:List M.Dcl) (env:oI) (t:M.Tm) (xs:List (Int×Int)),t.op=o->(t.op=21->∃mb,ev= .map (some mb)/\EnvM w mb ds env)->TermR G w tv t->PairsR H w kv xs->(xs.length:Int)=M.arity o->(∀i,i<xs.length->M.inS (xs.getD i (0,0)).1 (xs.getD i (0,0)).2)->
  M.sortK ds t (xs.map (·.1))≠ -1->(∀w',Ext w w'->K (nI (M.valK ds env t xs)) w')->vinvoke v qM #[ev,tv,kv] w K
section
variable {ds:List M.Dcl} {env:oI} {t:M.Tm} {xs:oI} {ys:List (Int×Int)}
theorem kG {i:Nat} (h:i<ys.length):(ys.map (·.1)).getD i 0=(ys.getD i (0,0)).1:=M.getD_map _ h _ _
theorem kind_un {o:Int} {s:ByteArray} (d:o=1\/o=2) (hw:s.data.toList=M.wordL o):KindR o (.iface zO (KV s 1)) where
 word:=⟨_,_,_,by(rw[show kTy o=zO by unfold kTy;rw[y3 oM]];try rfl),λ_=>rfl,λh=>oM,.inr (.inr (.inr hw))⟩
 iface:=⟨_,_,rfl⟩
 kids:=λw K b=>zL (Xa _ _) (qO λw' he=>by have:=b w' he;rcases d with rfl|rfl<;>exact this)
 sort:=λw K F G H dv tv kv ds t xs f l e g c i b=>by
  have a:xs.length=1:=by rcases d with rfl|rfl<;>simp[M.arity] at c<;>omega
  refine zL (X9 _ _) (unKind_sort_spec e g a λw' he=>?_);have:=b w' he;unfold M.sortK at this;rwa[y0 oM,y0 oM,y0 oM,y0 oM,y0 oM,y3 oM] at this
 value:=λw K G H mb tv kv ds env t ys f he e g c i hs b=>by
  have a:ys.length=1:=by rcases d with rfl|rfl<;>simp[M.arity] at c<;>omega
  refine zL (Yr _ _) (unKind_value_spec e g a λw' he=>?_);have:=b w' he;unfold M.sortK at hs;rw[y0 oM,y0 oM,y0 oM,y0 oM,y0 oM,y3 oM,kG oM] at hs;have j:0<(ys.getD 0 (0,0)).1:=by
   by_cases h:0<(ys.getD 0 (0,0)).1
   .exact h
   .rw[y0 h] at hs;exact absurd rfl hs
  have k:=M.inS_pos (i 0 oM) j;unfold M.valK at this;rw[y0 oM,y0 oM,y0 oM,y0 oM,y0 oM,y0 oM,y0 oM,y0 oM,y3 oM] at this;unfold M.vecUn;rw[y3 ⟨k,oM⟩];exact this
theorem kind_bin {o:Int} {s:ByteArray} (m:3<=o) (k:o<=13) (hw:s.data.toList=M.wordL o):KindR o (.iface zG (KV s 2)) where
 word:=⟨_,_,_,by(rw[show kTy o=zG by unfold kTy;rw[y0 oM,y3 oM]];try rfl),λ_=>rfl,λh=>oM,.inr (.inr (.inr hw))⟩
 iface:=⟨_,_,rfl⟩
 kids:=λw K b=>zL (YE _ _) (qO λw' he=>by
  have:=b w' he;unfold M.arity at this;rwa[y0 oM,y0 oM,y0 oM,y0 oM,y3 oM] at this)
 sort:=λw K F G H dv tv kv ds t xs f n e i c d b=>by
  have a:xs.length=2:=by
   unfold M.arity at c;rw[y0 oM,y0 oM,y0 oM,y0 oM,y3 oM] at c;omega
  refine zL (YD _ _) (binKind_sort_spec e i a λw' he=>?_);have:=b w' he;unfold M.sortK at this;rwa[y0 oM,y0 oM,y0 oM,y0 oM,y0 oM,y0 oM,y0 oM,y0 oM] at this
 value:=λw K G H mb tv kv ds env t ys f he e i c d hs b=>by
  have a:ys.length=2:=by
   unfold M.arity at c;rw[y0 oM,y0 oM,y0 oM,y0 oM,y3 oM] at c;omega
  refine zL (ZZ _ _) (binKind_value_spec e i a λw' he=>?_);have:=b w' he;unfold M.sortK at hs;rw[y0 oM,y0 oM,y0 oM,y0 oM,y0 oM,y0 oM,y0 oM,y0 oM,kG oM,kG oM] at hs;have j:0<(ys.getD 0 (0,0)).1/\(ys.getD 0 (0,0)).1=(ys.getD 1 (0,0)).1:=by
   by_cases h:0<(ys.getD 0 (0,0)).1/\(ys.getD 0 (0,0)).1=(ys.getD 1 (0,0)).1
   .exact h
   .rw[y0 h] at hs;exact absurd rfl hs
  have l:=M.inS_pos (d 0 oM) j.1;have g:=M.inS_pos (d 1 oM) oM;unfold M.valK at this;rw[y0 oM,y0 oM,y0 oM,y0 oM,y0 oM,y0 oM,y0 oM,y0 oM,y0 oM,y0 oM,y0 oM] at this;unfold M.vecBin;rw[y3 ⟨l,g⟩,y0 oM,y3 ⟨oM,oM,j.2⟩];exact this
theorem kind_cat {s:ByteArray} (hw:s.data.toList=M.wordL 14):KindR 14 (.iface zK (KV s 2)) where
 word:=⟨_,_,_,rfl,λ_=>rfl,λh=>oM,.inr (.inr (.inr hw))⟩
 iface:=⟨_,_,rfl⟩
 kids:=λw K b=>zL (YB _ _) (qO λw' he=>b w' he)
 sort:=λw K F G H dv tv kv ds t xs c l g j e d b=>by
  have a:xs.length=2:=by simp[M.arity] at e;omega
  refine zL (YA _ _) (catKind_sort_spec g j a d λw' he=>?_);have:=b w' he;unfold M.sortK at this;rwa[y0 oM,y0 oM,y0 oM,y0 oM,y0 oM,y0 oM,y3 oM] at this
 value:=λw K G H mb tv kv ds env t ys c he g j e d hs b=>by
  have a:ys.length=2:=by simp[M.arity] at e;omega
  refine zL (ZV _ _) (catKind_value_spec g j a λw' he=>?_);have:=b w' he;unfold M.sortK at hs;rw[y0 oM,y0 oM,y0 oM,y0 oM,y0 oM,y0 oM,y3 oM,kG oM,kG oM] at hs;have f:0<(ys.getD 0 (0,0)).1/\0<(ys.getD 1 (0,0)).1/\(ys.getD 0 (0,0)).1+(ys.getD 1 (0,0)).1<=4:=by
   by_cases h:0<(ys.getD 0 (0,0)).1/\0<(ys.getD 1 (0,0)).1/\(ys.getD 0 (0,0)).1+(ys.getD 1 (0,0)).1<=4
   .exact h
   .rw[y0 h] at hs;exact absurd rfl hs
  have k:=M.inS_pos (d 0 oM) f.1;have i:=M.inS_pos (d 1 oM) f.2.1;unfold M.valK at this;rw[y0 oM,y0 oM,y0 oM,y0 oM,y0 oM,y0 oM,y0 oM,y0 oM,y0 oM,y3 oM] at this;unfold M.vecBin;rw[y3 ⟨k,i⟩,y3 c,y3 f.2.2];exact this
theorem kind_cmp {o:Int} {s:ByteArray} (m:15<=o) (k:o<=17) (hw:s.data.toList=M.wordL o):KindR o (.iface zF (KV s 2)) where
 word:=⟨_,_,_,by(rw[show kTy o=zF by unfold kTy;rw[y0 oM,y0 oM,y0 oM,y3 oM]];try rfl),λ_=>rfl,λh=>oM,.inr (.inr (.inr hw))⟩
 iface:=⟨_,_,rfl⟩
 kids:=λw K b=>zL (Yy _ _) (qO λw' he=>by
  have:=b w' he;unfold M.arity at this;rwa[y0 oM,y0 oM,y0 oM,y0 oM,y3 oM] at this)
 sort:=λw K F G H dv tv kv ds t xs f n e i c d b=>by
  have a:xs.length=2:=by
   unfold M.arity at c;rw[y0 oM,y0 oM,y0 oM,y0 oM,y3 oM] at c;omega
  refine zL (Yx _ _) (cmpKind_sort_spec e i a λw' he=>?_);have:=b w' he;unfold M.sortK at this;rwa[y0 oM,y0 oM,y0 oM,y0 oM,y0 oM,y0 oM,y0 oM,y3 oM] at this
 value:=λw K G H mb tv kv ds env t ys f he e i c d hs b=>by
  have a:ys.length=2:=by
   unfold M.arity at c;rw[y0 oM,y0 oM,y0 oM,y0 oM,y3 oM] at c;omega
  refine zL (ZU _ _) (cmpKind_value_spec e i a λw' he=>?_);have:=b w' he;unfold M.sortK at hs;rw[y0 oM,y0 oM,y0 oM,y0 oM,y0 oM,y0 oM,y0 oM,y3 oM,kG oM,kG oM] at hs;have j:0<(ys.getD 0 (0,0)).1/\(ys.getD 0 (0,0)).1=(ys.getD 1 (0,0)).1:=by
   by_cases h:0<(ys.getD 0 (0,0)).1/\(ys.getD 0 (0,0)).1=(ys.getD 1 (0,0)).1
   .exact h
   .rw[y0 h] at hs;exact absurd rfl hs
  have l:=M.inS_pos (d 0 oM) j.1;have g:=M.inS_pos (d 1 oM) oM;unfold M.valK at this;rw[y0 oM,y0 oM,y0 oM,y0 oM,y0 oM,y0 oM,y0 oM,y0 oM,y0 oM,y0 oM,y3 oM] at this;unfold M.vecCmp;rw[y3 ⟨l,g,j.2,oM,oM⟩];exact this
theorem kind_vec {s:ByteArray}:KindR 20 (.iface zM (KV s 0)) where
 word:=⟨_,_,_,rfl,λ_=>rfl,λh=>oM,.inl rfl⟩
 iface:=⟨_,_,rfl⟩
 kids:=λw K b=>zL (Yq _ _) (qO λw' he=>b w' he)
 sort:=λw K F G H dv tv kv ds t xs a g c f d e b=>by
  refine zL (Yp _ _) (Q7 c λw' he=>?_);have:=b w' he;unfold M.sortK at this;rwa[y3 a] at this
 value:=λw K G H mb tv kv ds env t ys a he c f d e hs b=>by
  refine zL (ZQ _ _) (Xq c λw' he=>?_);have:=b w' he;unfold M.valK at this;rwa[y3 a] at this
theorem kind_name {s:ByteArray}:KindR 21 (.iface zE (KV s 0)) where
 word:=⟨_,_,_,rfl,λ_=>rfl,λh=>oM,.inr (.inl rfl)⟩
 iface:=⟨_,_,rfl⟩
 kids:=λw K b=>zL (ZS _ _) (qO λw' he=>b w' he)
 sort:=λw K F G H dv tv kv ds t xs a g e k i j b=>by
  refine zL (ZR _ _) (nameKind_sort_spec e g λw' he=>?_);have:=b w' he;unfold M.sortK at this;rwa[y0 oM,y3 a] at this
 value:=λw K G H mb tv kv ds env t ys a he e k i j hs b=>by
  obtain⟨mb,rfl,f,hm,d⟩:=he a;unfold M.sortK at hs;rw[y0 oM,y3 a] at hs;have c:0<=M.findD ds t.s:=by
   by_cases h:M.findD ds t.s<0
   .rw[y3 h] at hs;exact absurd rfl hs
   .omega
  refine zL (Zu _ _) (YW e hm (d _ c) λw' he=>?_);have:=b w' he;unfold M.valK at this;rwa[y0 oM,y3 a] at this
theorem kind_cut {s:ByteArray} (hw:s.data.toList=M.wordL 22):KindR 22 (.iface zJ (KV s 1)) where
 word:=⟨_,_,_,rfl,λ_=>rfl,λh=>oM,.inr (.inr (.inr hw))⟩
 iface:=⟨_,_,rfl⟩
 kids:=λw K d=>zL (Yv _ _) (qO λw' he=>d w' he)
 sort:=λw K F G H dv tv kv ds t xs i m g j e f d=>by
  have c:xs.length=1:=by simp[M.arity] at e;omega
  refine zL (Yu _ _) (cutKind_sort_spec g j c f λw' he=>?_);have:=d w' he;unfold M.sortK at this;rwa[y0 oM,y0 oM,y0 oM,y0 oM,y3 oM] at this
 value:=λw K G H mb tv kv ds env t ys i he g j e f hs d=>by
  have c:ys.length=1:=by simp[M.arity] at e;omega
  refine zL (ZT _ _) (cutKind_value_spec g j c λw' he=>?_);have:=d w' he;unfold M.sortK at hs;rw[y0 oM,y0 oM,y0 oM,y0 oM,y3 oM,kG oM] at hs;have k:0<=t.b/\t.b<=t.a/\t.a<(ys.getD 0 (0,0)).1:=by
   by_cases h:0<=t.b/\t.b<=t.a/\t.a<(ys.getD 0 (0,0)).1
   .exact h
   .rw[y0 h] at hs;exact absurd rfl hs
  have l:=M.inS_pos (f 0 oM) oM;unfold M.valK at this;rw[y0 oM,y0 oM,y0 oM,y0 oM,y0 oM,y0 oM,y0 oM,y3 oM] at this;unfold M.vecCut;rw[y3 ⟨l,k⟩];exact this
theorem kind_if {s:ByteArray} (hw:s.data.toList=M.wordL 23):KindR 23 (.iface zR (KV s 3)) where
 word:=⟨_,_,_,rfl,λ_=>rfl,λh=>oM,.inr (.inr (.inr hw))⟩
 iface:=⟨_,_,rfl⟩
 kids:=λw K b=>zL (Xd _ _) (qO λw' he=>b w' he)
 sort:=λw K F G H dv tv kv ds t xs e i d f c g b=>by
  have a:xs.length=3:=by simp[M.arity] at c;omega
  refine zL (Xc _ _) (ifKind_sort_spec d f a λw' he=>?_);have:=b w' he;unfold M.sortK at this;rwa[y0 oM,y0 oM,y0 oM,y3 oM] at this
 value:=λw K G H mb tv kv ds env t ys e he d f c g hs b=>by
  have a:ys.length=3:=by simp[M.arity] at c;omega
  refine zL (Ys _ _) (ifKind_value_spec d f a λw' he=>?_);have:=b w' he;unfold M.valK at this;rwa[y0 oM,y0 oM,y0 oM,y0 oM,y0 oM,y0 oM,y3 oM] at this
theorem kind_bool {o:Int} {s:ByteArray} {f:Value} {g:List (Int×Int)->Bool} {m:Nat} (q:24<=o) (i:M.arity o=m) (j:Wo f g m) (c:f.oneCell'=true) (hw:o=24\/s.data.toList=M.wordL o) (k:∀ds env (t:M.Tm) ys,t.op=o->M.valK ds env t ys=M.b2i (g ys)):
  KindR o (.iface zz (.agg ⟨[.string s,nI m,f]⟩)) where
 word:=⟨_,_,_,by rw[show kTy o=zz by unfold kTy;rw[y0 oM,y0 oM,y0 oM,y0 oM,y0 oM,y0 oM,y0 oM,y0 oM]],λh=>oM,λ_=>⟨_,rfl,c⟩,.inr (.inr hw)⟩
 iface:=⟨_,_,rfl⟩
 kids:=λw K a=>zL (ZY _ _ _) (qO λw' he=>by have:=a w' he;rwa[i] at this)
 sort:=λw K F G H dv tv kv ds t xs b p d e l n a=>by
  refine zL (ZX _ _ _) (XZ d e λw' he=>?_);have:=a w' he;unfold M.sortK at this;rwa[y0 oM,y0 oM,y3 oM] at this
 value:=λw K G H mb tv kv ds env t ys b he d e l n hs a=>by
  refine zL (Zv _ _ _) (Xi j d e oM λw' he=>?_);have:=a w' he;rwa[k ds env t ys b] at this
end
def KindsR (w:World) (mb:Nat):Prop:= ∃f,MapF (.int .i64) w mb f/\(∀o,0<=M.arity o->∃v,(nI o,v)∈f/\KindR o v)/\∀p,p∈f->∃o,p.1= nI o/\0<=M.arity o
theorem KindsR.ext {mb:Nat} {w':World} (h:KindsR w mb) (he:Ext w w'):KindsR w' mb:=by
 obtain⟨f,a,b⟩:=h;exact⟨f,a.ext he,b⟩
end
section
variable {w:World} {K:oK} {F G:oA}
theorem jQ:Zj0 zQ (.int .i64) xe0:=⟨_,Zh,rK⟩
def KS (w0 w:World) (b:Nat) (S:Int->Prop):Prop:=Ext w0 w/\w0.heap.size<=b/\∃f,MapF (.int .i64) w b f/\(∀o,S o->∃v,(nI o,v)∈f/\KindR o v)/\∀p,p∈f->∃o,p.1= nI o/\S o
theorem KS.set {w0 w:World} {b:Nat} {S:Int->Prop} {o:Int} {v:Value} (h:KS w0 w b S) (q: ¬S o) (r:KindR o v) (m:∀w',KS w0 w' b (λx=>x=o\/S x)->Same (· =b) w w'->K undef w'):
  zm0 zQ (.map (some b)) (nI o) v w K:=by
 obtain⟨he,k,f,hm,l,j⟩:=h;refine qI0 jQ hm (xA o) (λx i=>?_) λw' g hs _=>m w' ⟨Ext.then he hs λy s=>by subst s;exact k,k,_,g,λx i=>?_,λp c=>?_⟩ hs
 .obtain⟨o',a,d⟩:=j _ i;cases a;exact q d
 .by_cases e:x=o
  .subst e;exact⟨v,gk.2 (.inr (gw.2 rfl)),r⟩
  .obtain⟨u,hu,n⟩:=l x (i.resolve_left e);exact⟨u,gk.2 (.inl hu),n⟩
 .rcases gk.1 c with c|c
  .obtain⟨o',a,d⟩:=j _ c;exact⟨o',a,.inr d⟩
  .rw[gw.1 c];exact⟨o,rfl,.inl rfl⟩
theorem KS.ext {w0 w w':World} {b:Nat} {S:Int->Prop} (h:KS w0 w b S) (he:Ext w w'):KS w0 w' b S:=by
 obtain⟨a,c,f,hm,r⟩:=h;exact⟨a.trans he,c,f,hm.ext he,r⟩
theorem KS.congr {w0 w:World} {b:Nat} {S S':Int->Prop} (h:KS w0 w b S) (a:∀x,S x↔S' x):KS w0 w b S':=by
 have:S=S':=funext λx=>propext (a x);subst this;exact h
theorem KS.kinds {w0 w:World} {b:Nat} {S:Int->Prop} (h:KS w0 w b S) (a:∀o,S o↔0<=M.arity o):KindsR w b:=by
 obtain⟨he,k,f,hm,c,d⟩:=h;refine⟨f,hm,λo i=>c o ((a o).2 i),λp j=>?_⟩;obtain⟨o,e,g⟩:=d p j;exact⟨o,e,(a o).1 g⟩
@[push_cast] theorem bd_named (s:ByteArray) (n:Int):yr qF [(0,.string s),(1,nI n)] w K=K (KV s n) w:=zS yx0 (us:=[[.string s],[nI n]]) rfl rfl
@[push_cast] theorem XJ0 (s:ByteArray) (n:Int):yr zO [(0,KV s n)] w K=K (KV s n) w:=zS z90 (us:=[[.string s,nI n]]) rfl rfl
@[push_cast] theorem Xd0 (s:ByteArray) (n:Int):yr zG [(0,KV s n)] w K=K (KV s n) w:=zS W7 (us:=[[.string s,nI n]]) rfl rfl
@[push_cast] theorem Xc0 (s:ByteArray) (n:Int):yr zK [(0,KV s n)] w K=K (KV s n) w:=zS W4 (us:=[[.string s,nI n]]) rfl rfl
@[push_cast] theorem Xb0 (s:ByteArray) (n:Int):yr zF [(0,KV s n)] w K=K (KV s n) w:=zS W2 (us:=[[.string s,nI n]]) rfl rfl
@[push_cast] theorem Xa0 (s:ByteArray) (n:Int):yr zJ [(0,KV s n)] w K=K (KV s n) w:=zS W1 (us:=[[.string s,nI n]]) rfl rfl
@[push_cast] theorem XL0 (s:ByteArray) (n:Int):yr zR [(0,KV s n)] w K=K (KV s n) w:=zS zb0 (us:=[[.string s,nI n]]) rfl rfl
@[push_cast] theorem X90:yr zM [] w K=K (KV ⟨#[]⟩ 0) w:=zS W0 (us:=[]) rfl rfl
@[push_cast] theorem YV0:yr zE [] w K=K (KV ⟨#[]⟩ 0) w:=zS KN (us:=[]) rfl rfl
@[push_cast] theorem YY0 (s:ByteArray) (n:Int) (f:Fn) (a c:Array Value):yr zz [(0,KV s n),(1,.func f a c)] w K=K (.agg ⟨[.string s,nI n,.func f a c]⟩) w:=zS KO (us:=[[.string s,nI n],[.func f a c]]) rfl rfl
theorem val24 (ds:List M.Dcl) (env:oI) (t:M.Tm) (ys:List (Int×Int)) (h:t.op=24):M.valK ds env t ys=M.b2i true:=by simp[M.valK,h,M.b2i]
theorem val25 (ds:List M.Dcl) (env:oI) (t:M.Tm) (ys:List (Int×Int)) (h:t.op=25):M.valK ds env t ys=M.b2i (decide ((ys.getD 0 (0,0)).2=0)):=by unfold M.valK;simp only[h];rfl
theorem val26 (ds:List M.Dcl) (env:oI) (t:M.Tm) (ys:List (Int×Int)) (h:t.op=26):M.valK ds env t ys=M.b2i (decide ((ys.getD 0 (0,0)).2=1)&&decide ((ys.getD 1 (0,0)).2=1)):=by unfold M.valK;simp only[h];rfl
theorem val27 (ds:List M.Dcl) (env:oI) (t:M.Tm) (ys:List (Int×Int)) (h:t.op=27):M.valK ds env t ys=M.b2i (decide ((ys.getD 0 (0,0)).2=1)||decide ((ys.getD 1 (0,0)).2=1)):=by unfold M.valK;simp only[h];rfl
def binWords:List ByteArray:=[⟨#[97,110,100]⟩,⟨#[111,114]⟩,⟨#[120,111,114]⟩,⟨#[97,100,100]⟩,⟨#[115,117,98]⟩,⟨#[109,117,108]⟩,⟨#[100,105,118]⟩,⟨#[114,101,109]⟩,⟨#[115,104,108]⟩,⟨#[115,104,114]⟩,⟨#[115,97,114]⟩]
theorem ZS0:∀i:Fin 11,(binWords.getD i.1 ⟨#[]⟩).data.toList=M.wordL (3+(i.1:Int)):=dC
theorem kinds_new (X:∀w' b,Ext w w'->KindsR w' b->w.heap.size<=b->K (.map (some b)) w'):vcall QX #[] w K:=by
 refine ze {loops:=[(3,[48])]} Tryz.func127 ?_;refine xf0 jQ λb w1 hb hm he hs=>?_;have J:KS w w1 b (λ_=>False):=⟨he,oM,[],hm,λ_ h=>h.elim,λ_ h=>by cases h⟩;refine oZ ?_;refine J.set dC (kind_un (.inl rfl) dC) λw2 L _=>?_;refine L.set dC (kind_un (.inr rfl) dC) λw3 N _=>?_;refine N.set dC (kind_cat dC) λw4 O _=>?_;refine O.set dC (kind_cmp dC dC dC) λw5 Q _=>?_;refine Q.set dC (kind_cmp dC dC dC) λw6 R _=>?_;refine R.set dC (kind_cmp dC dC dC) λw7 S _=>?_;refine S.set dC kind_vec λw8 T _=>?_;refine T.set dC kind_name λw9 U _=>?_;refine U.set dC (kind_cut dC) λw10 V _=>?_;refine V.set dC (kind_if dC) λY l _=>?_;refine l.set dC (kind_bool (m:=0) dC rfl js0 rfl (.inl rfl) val24) λZ n _=>?_;refine n.set dC (kind_bool (m:=1) dC rfl kinds2_fn rfl (.inr dC) val25) λa0 p _=>?_;refine p.set dC (kind_bool (m:=2) dC rfl kinds3_fn rfl (.inr dC) val26) λa1 q _=>?_;refine q.set dC (kind_bool (m:=2) dC rfl kinds4_fn rfl (.inr dC) val27) λa2 g _=>?_;refine vbuildS_row1 (xs:=binWords.map .string) Xt rK Xk (λx B=>by obtain⟨s,_,rfl⟩:=gr.1 B;rfl) dC λbs D F j G t=>?_;have d:Vals (· =bs) D (.slice (some ⟨bs,0,none⟩) (binWords.map Value.string).length (binWords.map Value.string).length) (binWords.map Value.string):=t.sl1 rfl dC;have r:=g.ext j;have v:bs≠b:=by
  obtain⟨_,_,f,hm,_⟩:=g;have:=hm.lt;omega
 have hlen:(binWords.map Value.string).length=11:=rfl;simp only[push_cast,d.len];rw[hlen];rw[hlen] at d;refine vloop_up 11 (λi u w'=>u=[nI i]/\Vals (· =bs) w' (.slice (some ⟨bs,0,none⟩) 11 11) (binWords.map Value.string)/\KS w w' b λx=>(3<=x/\x<3+(i:Int))\/x=27\/x=26\/x=25\/x=24\/x=23\/x=22\/x=21\/x=20\/x=17\/x=16\/x=15\/x=14\/x=2\/x=1) ⟨rfl,d,r.congr λx=>by simp only[Ge];constructor<;>intro h<;>omega⟩ ?_;rintro i _ _ E C hi ⟨rfl,A,k⟩ W;refine oZ ?_;refine zb (λa=>?_) (λa=>?_)
 .have c:i<11:=oM;have H:(binWords.map Value.string).getD i undef= .string (binWords.getD i ⟨#[]⟩):=M.getD_map _ (show i<binWords.length from c) _ _;have I:IntKind.i64.wrap (3+(i:Int))=3+(i:Int):=zk oM oM;rw[A.iaddr rK oM (by rw[hlen];omega),gl,A.load rK (by rw[hlen];omega),H];simp only[push_cast,I];refine k.set oM (kind_bin oM oM (ZS0 ⟨i,c⟩)) λa3 y z=>?_
  try simp only[push_cast]
  rw[inc64' oM];exact W c _ _ ⟨rfl,A.same z λx B _ e=>v (B.symm.trans e),y.congr λx=>by constructor<;>intro h<;>omega⟩
 .have:i=11:=oM;subst this;refine X E b k.1 (k.kinds λo=>?_) k.2.1;constructor
  .intro h;have:(1<=o/\o<=17)\/(20<=o/\o<=27):=oM;unfold M.arity
   repeat' split
   all_goals omega
  .intro h;have:=M.arity_ops h;omega
theorem Wk (d:∀w' b,Ext w w'->KindsR w' b->K (.map (some b)) w'):vcall QX #[] w K:=kinds_new λw' b a c _=>d w' b a c
end
section
variable {w:World} {K:oK} {F G:oA}
theorem stTerm {b:Nat} {cs cs':List Value} {t:TypeId} {g:M.Tm} (h:Blk w b cs t) (f:cs.length=5) (d:TmR F w cs' g) (c:∀w',Same (· =b) w w'->w'.heap.size=w.heap.size->Blk w' b cs' t->K undef w'):zT za (oP b 0) (.agg ⟨cs'⟩) w K:=by
 obtain⟨kv,rfl,e⟩:=d.inv;obtain⟨css,hs,_⟩:=e;refine h.stAgg (by simp[f]) zc ?_ c;intro v a;simp only[gg,gx,Ge] at a;rcases a with rfl|rfl|rfl|rfl|rfl
 .rfl
 .rfl
 .rfl
 .rfl
 .exact hs.one
theorem zU {cs:List Value} {t:M.Tm} (h:TmR F w cs t):cs.length=5:=by
 obtain⟨kv,rfl,_⟩:=h.inv;rfl
theorem xV0 {v:Value} {t:M.Tm} (m:TermR F w v t) (i:∀w',Ext w w'->K (.bool (M.plainM t)) w'):vcall QW #[v] w K:=by
 refine ze {cuts:=[(8194,[3])]} Tryz.func185 ?_;obtain⟨ksv,rfl,k⟩:=m;refine zj λb1 w1 j h l e=>?_;have d:=i _ h;unfold M.plainM at d;refine zo (λu w'=>u=[.bool (decide (t.op=20)||decide (t.op=22)||(decide (t.a=0)&&decide (t.b=0)))]/\w'=w1) (λC f=>?_) ?_
 .simp only[push_cast,e.ld0,e.ld1,e.ld2];refine zb (λa=>?_) (λa=>?_)
  .exact f _ _ ⟨by rw[gu a];rfl,rfl⟩
  refine zb (λb=>?_) (λb=>?_)
  .exact f _ _ ⟨by rw[gu b];simp,rfl⟩
  refine zb (λc=>?_) (λc=>?_)
  .exact f _ _ ⟨by rw[gj a,gj b,gu c];rfl,rfl⟩
  .exact f _ _ ⟨by rw[gj a,gj b,gj c];rfl,rfl⟩
 .rintro u g w2 ⟨rfl,rfl⟩;simp only[push_cast,e.ld0,e.ld3];refine zn (λa=>?_) (λa=>?_)
  .rw[a,pJ] at d;refine zb (λb=>?_) (λb=>?_)
   .rwa[gu b,Bool.true_or] at d
   .rw[gj b,P3] at d;exact d
  .rwa[a,GM] at d
theorem Kl {mb:Nat} {o:Int} {ok:Bool} (h:KindsR w mb) (d:0<=M.arity o) (b:∀v,KindR o v->K (if ok then .tuple #[v,.bool true] else v) w):Xn zQ (.map (some mb)) (nI o) ok w K:=by
 obtain⟨f,hm,a,g⟩:=h;obtain⟨v,e,c⟩:=a o d;rw[Xm jQ hm (xA o) e];exact b v c
theorem jo0 {mb:Nat} {o:Int} (h:KindsR w mb) (d: ¬0<=M.arity o) (b:K (.tuple #[.nilIface,.bool false]) w):Xn zQ (.map (some mb)) (nI o) true w K:=by
 obtain⟨f,hm,i,a⟩:=h;rw[zn0 jQ (z:= .nilIface) (by unfold yg;kernel_rfl) hm (xA o) λv g=>?_]
 .exact b
 .obtain⟨o',e,c⟩:=a _ g;cases e;exact d c
theorem q40 {mb:Nat} {o:Int} {w w2:World} {N:oK} (h:KindsR w mb) (i:0<=M.arity o) (he:Ext w w2) (e:∀v,KindR o v->(∀a,Ext w a->Xn zQ (.map (some mb)) (nI o) false a λx y=>x=v/\y=a)->N v w):Xn zQ (.map (some mb)) (nI o) false w N:=by
 obtain⟨f,hm,d,j⟩:=h;obtain⟨v,c,g⟩:=d o i;rw[Xm jQ hm (xA o) c];refine e v g λa b=>?_;rw[Xm jQ (hm.ext b) (xA o) c];exact⟨rfl,rfl⟩
theorem Z6 {α β:Type} (f:α->β) {l:List α} {i:Nat} (h:i<l.length) (d:α):(l.take i).map f++[f (l.getD i d)]=(l.take (i+1)).map f:=by
 rw[G5,V0 h,gz,y2,V0 h];rfl
theorem sortOf_spec:∀(t:M.Tm) {w:World} {K:oK} {F G:oA} {mb:Nat} {dv v:Value} {ds:List M.Dcl},KindsR w mb->DclsR F w dv ds->M.declOk ds=true->TermR G w v t->
  (∀w',Ext w w'->K (nI (M.sortM ds t)) w')->vcall jO #[.map (some mb),dv,v] w K:=by
 refine M.Tm.ind λt ih w K F G mb dv v ds hm hd N ht U=>?_;apply z80;obtain⟨ksv,rfl,m⟩:=ht;refine zj λb1 w1 a3 l a6 D=>?_;have J:=hm.ext l;simp only[push_cast,D.ld0];have A: ¬(M.formed t=true)->∀w',Ext w w'->K (nI (-1)) w':=λhn w' he=>by
  have:=U w' he;rw[M.sortM_eq] at this;unfold M.sortF at this;rwa[y0 (λh=>hn h.1)] at this
 by_cases Y: ¬0<=M.arity t.op
 .have T:=Y;refine jo0 J T ?_;refine oZ ?_;refine zo (λ_ _=>False) (λC S=>?_) (λ_ _ _ h=>h.elim);refine zd λw2 c _=>?_;simp only[push_cast,y1];refine A (λh=>T ?_) _ (l.trans c);simp only[M.formed,gd,X0] at h;omega
 have T:0<=M.arity t.op:=oM
 refine Kl J T λkv I=>?_;simp only[push_cast,if_true];have a9:=m.small;refine zo (λu w'=>u=[]/\Ext w1 w'/\M.formed t=true) (λC S=>?_) ?_
 .refine zd λw2 c _=>?_;have E:=D.ext c;simp only[push_cast,E.ld4,m.len,y1];refine I.kids _ _ λw3 d=>?_;have R:=E.ext d;simp only[push_cast,R.ld4,m.len,y1,V1];refine zb (λa=>?_) (λa=>?_)
  .refine A (λh=>?_) _ ((l.trans c).trans d);simp only[M.formed,gd,X0] at h;omega
  .simp only[push_cast,R.ldAgg (t:=za) zc,y1];refine xV0 (F:=G) (t:=t) ⟨ksv,rfl,m.ext ((l.trans c).trans d)⟩ λw4 e=>?_;simp only[push_cast,y1];refine zn (λb=>?_) (λb=>?_)
   .refine A (λh=>?_) _ (((l.trans c).trans d).trans e);simp only[M.formed,gd] at h;rw[h.2] at b;cases b
   .refine S _ _ ⟨rfl,(c.trans d).trans e,?_⟩;simp only[M.formed,gd,X0];exact⟨oM,by simpa using b⟩
 .rintro u g w2 ⟨rfl,c,hf⟩;have E:=D.ext c;have hE:=l.trans c;have ab:=hE.size;simp only[push_cast,E.ld4,m.len];have H:=hf;simp only[M.formed,gd,X0] at H;have a2:t.ks.length<=3:=by
   have D:=H.1;unfold M.arity at D
   repeat' split at D
   all_goals omega
  refine vloop_up t.ks.length (λi u w'=> ∃sv,u=[sv,nI i]/\Ext w2 w'/\OwnI zh w' sv ((t.ks.take i).map (M.sortM ds))/\(∀b,sv.ownBlock=some b->w2.heap.size<=b)/\(∀x,x∈(t.ks.take i).map (M.sortM ds)->x≠ -1)) ⟨_,rfl,Same.refl _ _,OwnI.nil,(λb h=>by cases h),by simp⟩ ?_;rintro i _ _ w3 C hi ⟨sv,rfl,d,B,L,n⟩ S;have k:=hE.trans d;have o:=m.ext k;refine oZ ?_;refine zb (λa=>?_) (λa=>?_)
  .simp(disch:=exact oS) only[push_cast,o.iaddr];refine o.load zc oM λx r=>?_;obtain⟨cs,rfl,s⟩:=r.cells;refine zi zq λb2 w4 a4 e a7 h4=>?_;refine stTerm h4 rfl (s.ext e) λw5 Z aa h5=>?_;have p:Ext w3 w5:=Ext.then e Z λy Q=>by subst Q;omega
   rw[h5.ldAgg (t:=za) (by rw[zU s];exact zc)];refine ih _ (M.getD_mem oM _) (hm.ext (k.trans p)) (hd.ext (k.trans p)) N (s.ext p).term λw6 V=>?_;refine oZ ?_;have f:=p.trans V;refine zb (λb=>?_) (λb=>?_)
   .have:=U _ (k.trans f);rw[M.sortM_eq] at this;unfold M.sortF at this;rwa[y0 (λh=>h.2 (b▸Ga (M.getD_mem oM _)))] at this
   .refine qx xu yW xK rfl rfl dC λb3 w7 a5 z a8 h7=>?_;have O:=(B.ext f).ext z;have hlen:((t.ks.take i).map (M.sortM ds)).length=i:=by rw[y4,gh];omega
    refine O.app1 xH h7 (by rw[hlen];omega) (by rw[hlen];omega) λa1 w8 q a0 X=>?_
    try simp only[push_cast]
    rw[inc64' oM];rw[Z6 _ oM] at q;refine S oM _ _ ⟨a1,rfl,Ext.then ((d.trans f).trans z) a0 λy Q=>L y Q,q,λy Q=>?_,λx r=>?_⟩
    .rcases X y Q with h|h
     .exact L y h
     .have:=(d.trans f).size;have:=z.size;omega
    .rw[<-Z6 _ oM default] at r;rcases gk.1 r with r|r
     .exact n x r
     .rw[gw.1 r];exact b
  .have W:i=t.ks.length:=oM;subst W;rw[gy] at B n;have R:=E.ext d;simp only[push_cast,R.ldAgg (t:=za) zc];refine I.sort _ _ F G _ _ _ _ ds t _ rfl (hd.ext k) ⟨ksv,rfl,o⟩ B.ints (by rw[y4];omega) (λj=>?_) λw4 e=>?_
   .by_cases hj:j<t.ks.length
    .rw[M.getD_map _ hj 0 default];exact M.sort_range N _
    .rw[y2,Pe (by simpa using hj)];simp
   .have:=U _ (k.trans e);rw[M.sortM_eq] at this;unfold M.sortF at this;rwa[y3 ⟨hf,λh=>n _ h rfl⟩] at this
def nnB:M.Tm->Bool:=M.Tm.fold λt xs=>decide (t.op≠21)&&xs.all id
theorem Xu0 (t:M.Tm):nnB t=(decide (t.op≠21)&&(t.ks.map nnB).all id):=M.Tm.fold_eq _ t
theorem nnB_iff {t:M.Tm}:nnB t=true↔t.op≠21/\∀k,k∈t.ks->nnB k=true:=by
 rw[Xu0,gd,X0,Gb];refine PW λ_=>⟨λh k a=>h _ (Ga a),λh y b=>?_⟩;obtain⟨k,a,rfl⟩:=gr.1 b;exact h k a
theorem valueOf_specG:∀(t:M.Tm) {w:World} {K:oK} {F G:oA} {mb:Nat} {dv v ev:Value} {ds:List M.Dcl} {env:oI},KindsR w mb->DclsR F w dv ds->M.envOk ds env=true->((∃eb,ev= .map (some eb)/\EnvM w eb ds env)\/nnB t=true)->TermR G w v t->M.sortM ds t≠ -1->
  (∀w',Ext w w'->K (qd (M.sortM ds t) (M.evalM ds env t)) w')->vcall kR #[.map (some mb),dv,v,ev] w K:=by
 refine M.Tm.ind λt ih w K F G mb dv v ev ds env hm hd B hE ht p hK=>?_;have a4:=(M.env_ok B).1;apply VZ;obtain⟨ksv,rfl,o⟩:=ht;obtain⟨hf,n,a5⟩:=M.sort_parts p;have L:=hf;simp only[M.formed,gd,X0] at L;have a9:t.ks.length<=3:=by
  have Y:=L.1;unfold M.arity at Y
  repeat' split at Y
  all_goals omega
 have ho:0<=M.arity t.op:=oM
 refine zj λb1 w1 aa I ae Y=>?_;refine zi zX λb2 w2 ab J af h2=>?_;have q1:=Y.ext J;have H:=I.trans J;have aj:=H.size;have ai:=o.small;simp only[push_cast,q1.ld4,o.len];refine vloop_up t.ks.length (λi u w'=> ∃sv,u=[sv,nI i]/\Ext w2 w'/\OwnP xS w' sv ((t.ks.take i).map (M.vecM ds env))/\(∀b,sv.ownBlock=some b->w2.heap.size<=b)) ⟨_,rfl,Same.refl _ _,OwnP.nil _,λb h=>by cases h⟩ ?_;rintro i _ _ w3 C hi ⟨sv,rfl,l,D,T⟩ hC;have f:=H.trans l;have r:=o.ext f;have ak:=l.size;refine oZ ?_;refine zb (λa=>?_) (λa=>?_)
 .simp(disch:=exact oS) only[push_cast,r.iaddr];refine r.load zc oM λx hx=>?_;obtain⟨cs,rfl,z⟩:=hx.cells;refine zi zq λb3 w4 ac d ag h4=>?_;refine stTerm h4 rfl (z.ext d) λw5 a6 al h5=>?_;have c:Ext w3 w5:=Ext.then d a6 λy E=>by subst E;omega
  rw[h5.ldAgg (t:=za) (by rw[zU z];exact zc)];refine ih _ (M.getD_mem oM _) (hm.ext (f.trans c)) (hd.ext (f.trans c)) B (hE.imp (λ⟨eb,e,h⟩=>⟨eb,e,h.ext (f.trans c)⟩) λh=>(nnB_iff.1 h).2 _ (M.getD_mem oM _)) (z.ext c).term (n _ (M.getD_mem oM _)) λw6 q=>?_;have m:=c.trans q;refine qx yI0 xK0 zX rfl rfl dC λb4 w7 ad A ah h7=>?_;have W:=(D.ext m).ext A;have hlen:((t.ks.take i).map (M.vecM ds env)).length=i:=by rw[y4,gh];omega
  refine Own.app1k W x30 dC h7 rfl (by intro v hv;simp only[gg,gx,Ge] at hv;rcases hv with rfl|rfl<;>rfl) (by rw[y4,hlen];omega) (by rw[y4,hlen];omega) λX w8 U a8 a3=>?_;rw[inc64' oM];have V:OwnP xS w8 X ((t.ks.take (i+1)).map (M.vecM ds env)):=by
   unfold OwnP;rw[<-Z6 _ oM default,gz,M.vecM_pair ds env (t.ks.getD i default)];exact U
  refine hC oM _ _ ⟨X,rfl,Ext.then ((l.trans m).trans A) a8 λy E=>T y E,V,λy E=>?_⟩;rcases a3 y E with h|h
  .exact T y h
  .have:=m.size;have:=A.size;omega
 .have a0:i=t.ks.length:=oM;subst a0;rw[gy] at D;refine zd λw4 d _=>?_;have q4:=(q1.ext l).ext d;have g:=f.trans d;have R:=o.ext g;simp only[push_cast,q4.ld0,q4.ldAgg (t:=za) zc,y1];refine q40 (hm.ext g) ho (Same.refl _ _) λkv a1 a2=>⟨rfl,?_⟩;refine sortOf_spec t (hm.ext g) (hd.ext g) a4 ⟨ksv,rfl,R⟩ λw5 c=>?_;have q5:=q4.ext c;simp only[push_cast,q5.ld0,q5.ldAgg (t:=za) zc,y1,V1];refine⟨a2 _ c,?_⟩;have s:=g.trans c;have S:(t.ks.map (M.vecM ds env)).length=t.ks.length:=y4 _;have O:∀j,j<t.ks.length->(t.ks.map (M.vecM ds env)).getD j (0,0)=(M.sortM ds (t.ks.getD j default),M.evalM ds env (t.ks.getD j default)):=λj Q=>(by rw[M.getD_map _ Q _ default,M.vecM_pair]);have N:(t.ks.map (M.vecM ds env)).map (·.1)=t.ks.map (M.sortM ds):=by
   rw[G7];exact GC λk _=>M.vecM_sort ds env k
  refine a1.value _ _ G _ _ _ _ ds env t _ rfl (λZ=>hE.elim (λ⟨eb,e,h⟩=>⟨eb,e,h.ext s⟩) λh=>absurd Z (nnB_iff.1 h).1) ⟨ksv,rfl,o.ext s⟩ ((D.ext (d.trans c)).pairs) (by rw[S];omega) (λj Q=>?_) (by rw[N,<-a5];exact p) λw6 q=>?_
  .rw[S] at Q;rw[O j Q];exact M.eval_in B _ (n _ (M.getD_mem Q _))
  .simp only[push_cast,y1];have h6:=(((h2.ext l).ext d).ext c).ext q;refine stVec h6 λw7 a7 _ h7=>?_;rw[h7.lv rK];have hX:Ext w w7:=Ext.then (s.trans q) a7 λy E=>by subst E;have:=I.size;omega
   have:=hK w7 hX;rw[M.evalM_eq] at this;exact this
theorem count_spec:∀(t:M.Tm) {w:World} {K:oK} {F:oA} {v:Value} {m deep mb:Nat} {ty:TypeId},TermR F w v t->Blk w mb [nI m] ty->(∀b,F b->b≠mb)->m<=20->1<=deep->deep<=8->
  (∀w' (r B:Nat),Same (· =mb) w w'->Blk w' mb [nI B] ty->m<B->B<=21->deep<=r->r<=8->(m+M.sizeM t<=20/\deep-1+M.deepM t<=7->B=m+M.sizeM t/\r=deep-1+M.deepM t)->(¬(m+M.sizeM t<=20/\deep-1+M.deepM t<=7)->20<B\/7<r)->K (nI r) w')->
  vcall y40 #[v,nI deep,oP mb 0] w K:=by
 refine M.Tm.ind λt ih w K F v m deep mb ty ht E hF hm a2 a3 J=>?_;refine ze {loops:=[(6,[7,22])]} Tryz.func184 ?_;obtain⟨ksv,rfl,n⟩:=ht;refine zj λb1 w1 a0 p a9 X=>?_;have o:=E.ext p;have V:=E.lt;have ab:=n.small;have hS:=M.szT_all t;have hD:=M.dpT_all t;simp only[push_cast,o.ld0];rw[inc64' oM];refine o.st (i:=0) rfl rfl yW rfl λw2 A ac D=>?_;have s:Same (· =mb) w w2:=(Same.of_ext p).trans A;have q2:=X.same A oM;replace D:Blk w2 mb [nI (m+1:Nat)] ty:=D;refine zb (λa=>?_) (λa=>?_)
 .exact J w2 deep (m+1) s D oM oM oM oM (λh=>oM) (λh=>oM)
 simp only[push_cast,q2.ld4,n.len];refine vloop_up t.ks.length (λi u w'=> ∃r mi:Nat,u=[nI r,nI i]/\Same (· =mb) w2 w'/\Blk w' mb [nI mi] ty/\m<mi/\mi<=21/\deep<=r/\r<=8/\(m+1+M.szT t.ks i<=20/\deep+M.dpT t.ks i<=7->mi=m+1+M.szT t.ks i/\r=deep+M.dpT t.ks i)/\(¬(m+1+M.szT t.ks i<=20/\deep+M.dpT t.ks i<=7)->20<mi\/7<r))
  ⟨deep,m+1,rfl,Same.refl _ _,D,oM,oM,oM,oM,λh=>by simp[M.szT,M.dpT],λh=>by
   have T:M.szT t.ks 0=0:=rfl;have e2:M.dpT t.ks 0=0:=rfl;omega⟩ ?_
 rintro i _ _ G C hi ⟨r,mi,rfl,z,I,c1,c2,c3,R,H,S⟩ hC;have d:Same (· =mb) w G:=s.trans z;have g:TmsR F G ksv t.ks:=n.same d λb E _ e=>hF b E e;have ad:=d.size;refine oZ ?_;refine zb (λb=>?_) (λb=>?_)
 .have a5:=M.szT_mono (ks:=t.ks) (i:=i) (j:=t.ks.length) oM (gp _);have a6:=M.dpT_mono (ks:=t.ks) (i:=i) (j:=t.ks.length) oM (gp _);have a7:=M.szT_succ (ks:=t.ks) (i:=i) oM;have a8:=M.dpT_succ (ks:=t.ks) (i:=i) oM;simp(disch:=exact oS) only[push_cast,g.iaddr];refine g.load zc oM λx hx=>?_;obtain⟨cs,rfl,l⟩:=hx.cells;refine zi zq λb2 w4 a1 q aa Y=>?_;refine stTerm Y rfl (l.ext q) λW O ae Z=>?_;have f:Ext G W:=Ext.then q O λy hy=>by subst hy;omega
  have k:=I.ext f;have a4:=I.lt;simp only[push_cast,k.ld0];refine zb (λc=>?_) (λc=>?_)
  .exact J W r mi (d.trans (Same.of_ext f)) k c1 c2 c3 R (λh=>oM) (λh=>oM)
  .rw[Z.ldAgg (t:=za) (by rw[zU l];exact zc)];have T:IntKind.i64.wrap ((deep:Int)+1)=((deep+1:Nat):Int):=inc64' oM;rw[T];refine ih _ (M.getD_mem oM _) (l.ext f).term k hF oM oM oM λw6 Q m2 N h6 d1 d2 d3 d4 d5 d6=>?_;refine oZ ?_;rw[inc64' oM,show max (r:Int) (Q:Int)=((max r Q:Nat):Int) by omega];refine hC oM _ _ ⟨max r Q,m2,rfl,(z.trans (Same.of_ext f)).trans N,h6,oM,d2,oM,oM,λh=>?_,λh=>?_⟩
   .have:=H oM;have:=d5 oM;omega
   .by_cases U:m+1+M.szT t.ks i<=20/\deep+M.dpT t.ks i<=7
    .have:=H U;have:=d6 oM;omega
    .have:=S U;omega
 .have L:i=t.ks.length:=oM;subst L;refine J G r mi d I c1 c2 c3 R (λh=>?_) (λh=>?_)
  .have:=H oM;omega
  .exact S oM
theorem TermMany_spec {v:Value} {t:M.Tm} (A:TermR F w v t) (H:∀w',Ext w w'->K (.tuple #[nI (M.manyM t),nI (M.lvlM t)]) w'):vcall Kf #[v] w K:=by
 refine ze {} Tryz.func125 ?_;have s:=A.weaken (F':=λb=>b<w.heap.size) λb _ h=>h;obtain⟨ksv,rfl,L⟩:=A;refine zj λb1 w1 I o N E=>?_;refine qo xK λb2 w2 J g O l=>?_;replace l:Blk w2 b2 [nI 0] zV:=l;refine l.st (i:=0) rfl rfl yW rfl λB k Q n=>?_;replace n:Blk B b2 [nI ((0:Nat):Int)] zV:=n;have S:=(E.ext g).same k oM;have j:Ext w B:=Ext.then (o.trans g) k λy x=>by subst x;omega
 rw[S.ldAgg (t:=za) zc];refine count_spec t (m:=0) (deep:=1) (s.ext j) n (λb V e=>oM) oM oM oM λC r R q G c1 c2 c3 T f D=>?_;have p:Ext w C:=Ext.then j q λy x=>by subst x;omega
 have d:=H C p;have c:M.fits t=true↔M.sizeM t<=20/\M.deepM t<=7:=M.fits_iff;unfold M.manyM M.lvlM at d;simp only[push_cast,G.ld0];refine zb (λa=>?_) (λa=>?_)
 .rw[y0 (λh=>by have u:=c.1 h;have:=f oM;omega),y0 (λh=>by have u:=c.1 h;have:=f oM;omega)] at d;exact d
 .refine zb (λb=>?_) (λb=>?_)
  .rw[y0 (λh=>by have u:=c.1 h;have:=f oM;omega),y0 (λh=>by have u:=c.1 h;have:=f oM;omega)] at d;exact d
  .have z:M.sizeM t<=20/\M.deepM t<=7:=by
    by_cases h:M.sizeM t<=20/\M.deepM t<=7
    .exact h
    .have:=D oM;omega
   have U:=f oM;rw[y3 (c.2 z),y3 (c.2 z)] at d;rw[show R=M.sizeM t by omega,show r=M.deepM t by omega];exact d
end
end Go.Proofs.YtfnpmncplaibiaaGreatDoor
namespace Go.Proofs
open Go.Shelf
def YtfnpmncplaibiaaGreatDoor.sortL_ren:Go.Shelf.Ren:=⟨λ|6=>347 |15=>362 |14=>361 |28=>374 |29=>329 |20=>366 |21=>367 |22=>368 |23=>369 |24=>370 |25=>371 |26=>372 |27=>373 |46=>376 |47=>377 |48=>378 |49=>379 |50=>380 |57=>381 |n=>n,λ|22=>43 |24=>3 |25=>138 |3=>3 |39=>363 |0=>0 |53=>391 |55=>289 |4=>4 |46=>431 |45=>430 |50=>169 |5=>5 |9=>9 |66=>436 |70=>263 |76=>441 |77=>176 |n=>n,λ|n=>n⟩
theorem YtfnpmncplaibiaaGreatDoor.sortL:Go.Proofs.SlLaysF.n6 Tryz.prog YtfnpmncplaibiaaGreatDoor.sortL_ren:={
 mixed:=rK
 f6:=⟨Tryz.f347.name,dC,Tryz.func347.trans (congrArg some rK)⟩
 f14:=⟨Tryz.f361.name,dC,Tryz.func361.trans (congrArg some rK)⟩
 f15:=Tryz.func362.trans (congrArg some rK)
 f20:=⟨Tryz.f366.name,dC,Tryz.func366.trans (congrArg some rK)⟩
 f21:=⟨Tryz.f367.name,dC,Tryz.func367.trans (congrArg some rK)⟩
 f22:=⟨Tryz.f368.name,dC,Tryz.func368.trans (congrArg some rK)⟩
 f23:=⟨Tryz.f369.name,dC,Tryz.func369.trans (congrArg some rK)⟩
 f24:=⟨Tryz.f370.name,dC,Tryz.func370.trans (congrArg some rK)⟩
 f25:=⟨Tryz.f371.name,dC,Tryz.func371.trans (congrArg some rK)⟩
 f26:=⟨Tryz.f372.name,dC,Tryz.func372.trans (congrArg some rK)⟩
 f27:=⟨Tryz.f373.name,dC,Tryz.func373.trans (congrArg some rK)⟩
 f28:=Tryz.func374.trans (congrArg some rK)
 f29:=Tryz.func329.trans (congrArg some rK)
 f46:=⟨Tryz.f376.name,dC,Tryz.func376.trans (congrArg some rK)⟩
 f47:=Tryz.func377.trans (congrArg some rK)
 f48:=Tryz.func378.trans (congrArg some rK)
 f49:=⟨Tryz.f379.name,dC,Tryz.func379.trans (congrArg some rK)⟩
 f50:=⟨Tryz.f380.name,dC,Tryz.func380.trans (congrArg some rK)⟩
 f57:=⟨Tryz.f381.name,dC,Tryz.func381.trans (congrArg some rK)⟩
 t0:=Tryz.underlying0
 a0:=Tryz.isAgg0
 z0:=Tryz.sizeOf0
 v0:=Tryz.zeroValue0
 t3:=Tryz.underlying3
 a3:=Tryz.isAgg3
 z3:=Tryz.sizeOf3
 v3:=Tryz.zeroValue3
 t4:=Tryz.underlying4
 a4:=Tryz.isAgg4
 z4:=Tryz.sizeOf4
 v4:=Tryz.zeroValue4
 t5:=Tryz.underlying5
 a5:=Tryz.isAgg5
 z5:=Tryz.sizeOf5
 v5:=Tryz.zeroValue5
 t9:=Tryz.underlying9
 a9:=Tryz.isAgg9
 z9:=Tryz.sizeOf9
 v9:=Tryz.zeroValue9
 t22:=Tryz.underlying43
 a22:=Tryz.isAgg43
 z22:=Tryz.sizeOf43
 v22:=Tryz.zeroValue43
 a24:=Tryz.isAgg3
 z24:=Tryz.sizeOf3
 t25:=Tryz.underlying138
 a25:=Tryz.isAgg138
 z25:=Tryz.sizeOf138
 v25:=Tryz.zeroValue138
 t39:=Tryz.underlying363
 a39:=Tryz.isAgg363
 z39:=Tryz.sizeOf363
 v39:=Tryz.zeroValue363
 t45:=Tryz.underlying430
 a45:=Tryz.isAgg430
 z45:=Tryz.sizeOf430
 v45:=Tryz.zeroValue430
 t46:=Tryz.underlying431
 a46:=Tryz.isAgg431
 z46:=Tryz.sizeOf431
 v46:=Tryz.zeroValue431
 t50:=Tryz.underlying169
 a50:=Tryz.isAgg169
 z50:=Tryz.sizeOf169
 v50:=Tryz.zeroValue169
 t53:=Tryz.underlying391
 a53:=Tryz.isAgg391
 z53:=Tryz.sizeOf391
 v53:=Tryz.zeroValue391
 t55:=Tryz.underlying289
 a55:=Tryz.isAgg289
 z55:=Tryz.sizeOf289
 v55:=Tryz.zeroValue289
 t66:=Tryz.underlying436
 a66:=Tryz.isAgg436
 z66:=Tryz.sizeOf436
 v66:=Tryz.zeroValue436
 t70:=Tryz.underlying263
 a70:=Tryz.isAgg263
 z70:=Tryz.sizeOf263
 v70:=Tryz.zeroValue263
 t76:=Tryz.underlying441
 a76:=Tryz.isAgg441
 z76:=Tryz.sizeOf441
 v76:=Tryz.zeroValue441
 t77:=Tryz.underlying176
 a77:=Tryz.isAgg176
 z77:=Tryz.sizeOf176
 v77:=Tryz.zeroValue176}
def YtfnpmncplaibiaaGreatDoor.trimL_ren:Go.Shelf.Ren:=⟨λ|160=>121 |232=>177 |231=>176 |227=>178 |234=>180 |233=>179 |236=>182 |235=>181 |228=>235 |271=>238 |151=>237 |197=>236 |120=>281 |152=>280 |260=>279 |137=>302 |119=>303 |224=>304 |225=>305 |217=>327 |266=>349 |n=>n,λ|9=>9 |4=>4 |3=>3 |5=>5 |117=>257 |116=>256 |0=>0 |124=>260 |21=>21 |105=>321 |46=>363 |119=>376 |139=>379 |138=>378 |n=>n,λ|3=>5 |4=>6 |n=>n⟩
theorem YtfnpmncplaibiaaGreatDoor.trimL:Go.Proofs.Lays.n160 Tryz.prog YtfnpmncplaibiaaGreatDoor.trimL_ren:={
 mixed:=rK
 f119:=Tryz.func303.trans (congrArg some rK)
 f120:=Tryz.func281.trans (congrArg some rK)
 f137:=Tryz.func302.trans (congrArg some rK)
 f151:=Tryz.func237.trans (congrArg some rK)
 f152:=Tryz.func280.trans (congrArg some rK)
 f160:=Tryz.func121.trans (congrArg some rK)
 f197:=Tryz.func236.trans (congrArg some rK)
 f217:=Tryz.func327.trans (congrArg some rK)
 f224:=Tryz.func304.trans (congrArg some rK)
 f225:=Tryz.func305.trans (congrArg some rK)
 f227:=Tryz.func178.trans (congrArg some rK)
 f228:=Tryz.func235.trans (congrArg some rK)
 f231:=Tryz.func176.trans (congrArg some rK)
 f232:=Tryz.func177.trans (congrArg some rK)
 f233:=Tryz.func179.trans (congrArg some rK)
 f234:=Tryz.func180.trans (congrArg some rK)
 f235:=Tryz.func181.trans (congrArg some rK)
 f236:=Tryz.func182.trans (congrArg some rK)
 f260:=Tryz.func279.trans (congrArg some rK)
 f266:=Tryz.func349.trans (congrArg some rK)
 f271:=Tryz.func238.trans (congrArg some rK)
 t0:=Tryz.underlying0
 a0:=Tryz.isAgg0
 z0:=Tryz.sizeOf0
 v0:=Tryz.zeroValue0
 t3:=Tryz.underlying3
 a3:=Tryz.isAgg3
 z3:=Tryz.sizeOf3
 v3:=Tryz.zeroValue3
 t4:=Tryz.underlying4
 a4:=Tryz.isAgg4
 z4:=Tryz.sizeOf4
 v4:=Tryz.zeroValue4
 t5:=Tryz.underlying5
 a5:=Tryz.isAgg5
 z5:=Tryz.sizeOf5
 v5:=Tryz.zeroValue5
 t9:=Tryz.underlying9
 a9:=Tryz.isAgg9
 z9:=Tryz.sizeOf9
 v9:=Tryz.zeroValue9
 t21:=Tryz.underlying21
 a21:=Tryz.isAgg21
 z21:=Tryz.sizeOf21
 v21:=Tryz.zeroValue21
 t46:=Tryz.underlying363
 a46:=Tryz.isAgg363
 z46:=Tryz.sizeOf363
 v46:=Tryz.zeroValue363
 t105:=Tryz.underlying321
 a105:=Tryz.isAgg321
 z105:=Tryz.sizeOf321
 v105:=Tryz.zeroValue321
 t116:=Tryz.underlying256
 a116:=Tryz.isAgg256
 z116:=Tryz.sizeOf256
 t117:=Tryz.underlying257
 a117:=Tryz.isAgg257
 z117:=Tryz.sizeOf257
 v117:=Tryz.zeroValue257
 t119:=Tryz.underlying376
 a119:=Tryz.isAgg376
 z119:=Tryz.sizeOf376
 t124:=Tryz.underlying260
 a124:=Tryz.isAgg260
 z124:=Tryz.sizeOf260
 v124:=Tryz.zeroValue260
 t138:=Tryz.underlying378
 a138:=Tryz.isAgg378
 z138:=Tryz.sizeOf378
 v138:=Tryz.zeroValue378
 t139:=Tryz.underlying379
 a139:=Tryz.isAgg379
 z139:=Tryz.sizeOf379
 v139:=Tryz.zeroValue379
 g3:=rK
 g4:=rK}
def YtfnpmncplaibiaaGreatDoor.joinL_ren:Go.Shelf.Ren:=⟨λ|156=>195 |165=>241 |166=>242 |169=>243 |240=>283 |241=>284 |276=>310 |277=>311 |n=>n,λ|31=>226 |9=>9 |3=>3 |4=>4 |0=>0 |20=>20 |72=>327 |76=>329 |70=>325 |37=>40 |75=>86 |127=>362 |164=>388 |5=>5 |80=>286 |n=>n,λ|n=>n⟩
theorem YtfnpmncplaibiaaGreatDoor.joinL:Go.Proofs.Lays.n156 Tryz.prog YtfnpmncplaibiaaGreatDoor.joinL_ren:={
 mixed:=rK
 f156:=Tryz.func195.trans (congrArg some rK)
 f165:=Tryz.func241.trans (congrArg some rK)
 f166:=Tryz.func242.trans (congrArg some rK)
 f169:=Tryz.func243.trans (congrArg some rK)
 f240:=Tryz.func283.trans (congrArg some rK)
 f241:=Tryz.func284.trans (congrArg some rK)
 f276:=Tryz.func310.trans (congrArg some rK)
 f277:=Tryz.func311.trans (congrArg some rK)
 t0:=Tryz.underlying0
 a0:=Tryz.isAgg0
 z0:=Tryz.sizeOf0
 v0:=Tryz.zeroValue0
 t3:=Tryz.underlying3
 a3:=Tryz.isAgg3
 z3:=Tryz.sizeOf3
 v3:=Tryz.zeroValue3
 t4:=Tryz.underlying4
 a4:=Tryz.isAgg4
 z4:=Tryz.sizeOf4
 v4:=Tryz.zeroValue4
 t9:=Tryz.underlying9
 a9:=Tryz.isAgg9
 z9:=Tryz.sizeOf9
 v9:=Tryz.zeroValue9
 t20:=Tryz.underlying20
 a20:=Tryz.isAgg20
 z20:=Tryz.sizeOf20
 v20:=Tryz.zeroValue20
 t31:=Tryz.underlying226
 a31:=Tryz.isAgg226
 z31:=Tryz.sizeOf226
 v31:=Tryz.zeroValue226
 t37:=Tryz.underlying40
 a37:=Tryz.isAgg40
 z37:=Tryz.sizeOf40
 v37:=Tryz.zeroValue40
 t70:=Tryz.underlying325
 a70:=Tryz.isAgg325
 z70:=Tryz.sizeOf325
 v70:=Tryz.zeroValue325
 t72:=Tryz.underlying327
 a72:=Tryz.isAgg327
 z72:=Tryz.sizeOf327
 v72:=Tryz.zeroValue327
 t75:=Tryz.underlying86
 a75:=Tryz.isAgg86
 z75:=Tryz.sizeOf86
 v75:=Tryz.zeroValue86
 t76:=Tryz.underlying329
 a76:=Tryz.isAgg329
 z76:=Tryz.sizeOf329
 v76:=Tryz.zeroValue329
 t127:=Tryz.underlying362
 a127:=Tryz.isAgg362
 z127:=Tryz.sizeOf362
 v127:=Tryz.zeroValue362
 t164:=Tryz.underlying388
 a164:=Tryz.isAgg388
 z164:=Tryz.sizeOf388
 v164:=Tryz.zeroValue388}
end Go.Proofs
namespace Go.Proofs.YtfnpmncplaibiaaGreatDoor
open Go Go.Vc Go.Proofs
section
variable {w:World} {K:oK} {F G:oA}
theorem dw_nil {α:Type} {p:α->Bool}:∀{l:List α},l.dropWhile p=[]↔ ∀x,x∈l->p x=true
 |[]=>by simp
 |a::l=>by
  rw[Pv];split
  .rename_i h;rw[dw_nil];constructor
   .intro b x c;rcases gg.1 c with rfl|c
    .exact h
    .exact b x c
   .intro b x c;exact b x (gm _ c)
  .rename_i h;constructor
   .intro b;cases b
   .intro b;exact absurd (b a gi) h
theorem dw_head {α:Type} {p:α->Bool}:∀{l:List α},l.dropWhile p≠[]->∃x,x∈l.dropWhile p/\p x=false
 |[],h=>absurd rfl h
 |a::l,h=>by
  rw[Pv] at h⊢;split
  .rename_i b;rw[y3 b] at h;exact dw_head h
  .rename_i b;exact⟨a,gi,by simpa using b⟩
theorem dw_sub {α:Type} {p:α->Bool}:∀{l:List α} {x:α},x∈l.dropWhile p->x∈l
 |[],_,h=>h
 |a::l,x,h=>by
  rw[Pv] at h;split at h
  .exact gm _ (dw_sub h)
  .exact h
theorem Z10 {l cs:List UInt8}:Lib.trimS l cs=[]↔ ∀x,x∈l->cs.contains x=true:=by
 unfold Lib.trimS Lib.trimLeftS Lib.trimRightS;rw[dw_nil];constructor
 .intro h;by_cases a:∀x,x∈l->cs.contains x=true
  .exact a
  .exfalso;have b:List.dropWhile (λx=>cs.contains x) l.reverse≠[]:=λe=>a λx c=>dw_nil.1 e x (Pk.2 c);obtain⟨y,g,f⟩:=dw_head b;have d:=h y (Pk.2 g);rw[f] at d;cases d
 .intro h x c;exact h x (Pk.1 (dw_sub (Pk.1 c)))
def abc:ByteArray:=⟨#[97,98,99,100,101,102,103,104,105,106,107,108,109,110,111,112,113,114,115,116,117,118,119,120,121,122]⟩
theorem abc_in (x:UInt8):abc.data.toList.contains x=(decide (97<=x.toNat)&&decide (x.toNat<=122)):=by
 have a:∀n:Fin 256,abc.data.toList.contains (UInt8.ofNat n.1)=(decide (97<=(UInt8.ofNat n.1).toNat)&&decide ((UInt8.ofNat n.1).toNat<=122)):=by decide+kernel
 have:=a ⟨x.toNat,x.toNat_lt⟩;simpa using this
theorem yu0 {w w':World} (h:Go.RowKit.Below w.heap.size w w'):Ext w w':=⟨h.os,h.tape,h.output,h.size,λb a _=>h.block b a⟩
def y90 (s:ByteArray):Bool:=s.data.all λc=>decide (97<=c.toNat)&&decide (c.toNat<=122)
theorem ke0 {s:ByteArray} (hs:s.size<=9223372036854775807) (f:∀w' r,Ext w w'->(r=⟨#[]⟩↔y90 s=true)->K (.string r) w'):vcall KU #[.string s,.string abc] w K:=by
 refine⟨rK,?_⟩;refine(Any.strings_Trim_laid YtfnpmncplaibiaaGreatDoor.trimL rK s abc w hs dC (ascii_of_all dC)).mono ?_;rintro e w' ⟨rfl,g⟩;refine f w' _ (yu0 g) ?_;have c:((⟨(Lib.trimS s.data.toList abc.data.toList).toArray⟩:ByteArray)=⟨#[]⟩)↔Lib.trimS s.data.toList abc.data.toList=[]:=by
  constructor
  .intro h;have d:=congrArg (λb:ByteArray=>b.data.toList) h;simpa using d
  .intro h;rw[h]
 rw[c,Z10];unfold y90;rw[pk];constructor
 .intro h x a;rw[<-abc_in];exact h x (pO.2 a)
 .intro h x a;rw[abc_in];exact h x (pO.1 a)
theorem stDecl {b:Nat} {x y:Value} {t:TypeId} {s:ByteArray} {n:Int} (h:Blk w b [x,y] t) (c:∀w',Same (· =b) w w'->w'.heap.size=w.heap.size->Blk w' b [.string s,nI n] t->K undef w'):zT yV (oP b 0) (.agg ⟨[.string s,nI n]⟩) w K:=
 h.stAgg rfl rK (by intro v a;simp only[gg,gx,Ge] at a;rcases a with rfl|rfl<;>rfl) c
theorem ZF (s:ByteArray):M.nameOk s=(decide (1<=s.size)&&decide (s.size<=4)&&decide (s≠M.tru)&&y90 s):=rfl
theorem DeclOk_spec {v:Value} {ds:List M.Dcl} (N:DclsR F w v ds) (D:∀w',Ext w w'->K (.bool (M.declOk ds)) w'):vcall Un #[v] w K:=by
 refine ze {loops:=[(5,[3,11])],cuts:=[(32777,[])]} Tryz.func84 ?_;simp only[push_cast,N.len];refine zb (λa=>?_) (λa=>?_)
 .have:=D w (Same.refl _ _);rwa[show M.declOk ds=false from by rw[G4];intro h;have:=(M.decl_iff.1 h).1;omega] at this
 refine vloop_up ds.length (λi u w'=>u=[nI (M.bitT ds i),nI i]/\Ext w w'/\(∀j,j<i->M.dclOk ds j=true)/\ -4*(i:Int)<=M.bitT ds i/\M.bitT ds i<=4*i) ⟨rfl,Same.refl _ _,oM,by simp[M.bitT],by simp[M.bitT]⟩ ?_;rintro i _ _ w1 C hi ⟨rfl,o,q,a0,a1⟩ hC;have E:=N.ext o;refine oZ ?_;refine zb (λb=>?_) (λb=>?_)
 .have z:i<ds.length:=oM;have d:M.dclOk ds i=false->∀w',Ext w w'->K (.bool false) w':=λe w' he=>by
   have:=D w' he;rwa[show M.declOk ds=false from by rw[G4];intro h;have:=(M.decl_iff.1 h).2.1 i z;rw[e] at this;cases this] at this
  unfold M.dclOk at d;rw[ZF] at d;simp(disch:=exact oS) only[push_cast,E.iaddr,E.load];obtain⟨s,n,B⟩:∃s n,ds.getD i xC0=(s,n):=⟨_,_,rfl⟩;simp only[B] at d⊢;refine zi qe λb1 w2 U O a4 X=>?_;refine stDecl X λW R _ S=>?_;have a6:=o.size;have k:Ext w W:=Ext.then (o.trans O) R λy hy=>by subst hy;omega
  refine zo (λu w'=>u=[]/\Ext W w'/\M.nameOk s=true) (λC' L=>?_) ?_
  .simp(disch:=exact oS) only[push_cast,S.ld0,Xp kV];refine zb (λc=>?_) (λc=>?_)
   .exact d (by rw[gj (show¬1<=s.size by omega)];simp) _ k
   refine zb (λc2=>?_) (λc2=>?_)
   .exact d (by rw[gj (show¬s.size<=4 by omega)];simp) _ k
   refine zb (λc3=>?_) (λc3=>?_)
   .exact d (by rw[show decide (s≠M.tru)=false from gj (λh=>h c3)];simp) _ k
   refine ke0 oM λw4 r l V=>?_;refine oZ ?_;refine zb (λI=>?_) (λI=>?_)
   .have:y90 s=false:=by
     rw[G4];exact λh=>I (V.2 h)
    exact d (by rw[this];simp) _ (k.trans l)
   .have J:r=⟨#[]⟩:=by
     by_cases h:r=⟨#[]⟩
     .exact h
     .exact absurd h I
    refine L _ _ ⟨rfl,l,?_⟩;rw[ZF,gu (show 1<=s.size by omega),gu (show s.size<=4 by omega),show decide (s≠M.tru)=true from gu c3,V.1 J];rfl
  .rintro u g w4 ⟨rfl,l,A⟩;have T:=S.ext l;have f:=k.trans l;have G:=N.ext f;rw[ZF] at A;rw[A] at d;rw[G.cut (by intro e;subst e;simp at z) rK oM];refine oZ ?_;have a3:(ds.take i).length=i:=by rw[gh];omega
   refine QN (p:=λj=>decide (((ds.take i).getD j xC0).1=s)) (G.taken oM) (λj hj=>?_) λw5 m=>?_
   .intro w' K he D;refine oZ ?_;refine ze {} Tryz.func123 ?_;refine zj λb3 w6 a2 H a5 Z=>?_;have h7:=(T.ext he).ext H;simp(disch:=exact oS) only[push_cast,Z.ld0,h7.ld0];exact D _ H
   .rw[<-Xf];have Y:=T.ext m;have efd:idxI (ds.take i).length (λj=>decide (((ds.take i).getD j xC0).1=s))=M.findD (ds.take i) s:=rfl;rw[efd];refine zb (λc=>?_) (λc=>?_)
    .exact d (by rw[gj (show¬M.findD (ds.take i) s<0 by omega)];simp) _ (f.trans m)
    simp(disch:=exact oS) only[push_cast,Y.ld1];refine zb (λc1=>?_) (λc1=>?_)
    .exact d (by rw[gj (show¬1<=n by omega)];simp) _ (f.trans m)
    refine zb (λc2=>?_) (λc2=>?_)
    .exact d (by rw[gj (show¬n<=4 by omega)];simp) _ (f.trans m)
    have t:=M.bitT_succ z;rw[show ds.getD i (M.nada,0)=(s,n) from B] at t;rw[zk (x:=M.bitT ds i+n) oM oM,inc64' oM,show M.bitT ds i+n=M.bitT ds (i+1) from t.symm];refine hC oM _ _ ⟨rfl,f.trans m,λj hj=>?_,oM,oM⟩;by_cases e:j=i
    .subst e;unfold M.dclOk;rw[show ds.getD j (M.nada,0)=(s,n) from B,ZF,A];simp only[pJ,gd,X0];exact⟨⟨oM,oM⟩,oM⟩
    .exact q j oM
 .have Q:i=ds.length:=oM;subst Q;have:=D w1 o;rw[M.bitT_all];have e:M.declOk ds=decide (M.bits ds<=8):=by
   rw[PV,M.decl_iff,X0];exact⟨λh=>h.2.2,λh=>⟨oM,q,h⟩⟩
  rwa[e] at this
theorem TermSort_spec {dv v:Value} {ds:List M.Dcl} {t:M.Tm} (r:DclsR F w dv ds) (z:TermR G w v t) (q:∀w',Ext w w'->K (nI (M.tsort ds t)) w'):vcall Kd #[dv,v] w K:=by
 refine ze {} Tryz.func87 ?_;obtain⟨cs,rfl,c⟩:=z.cells;refine zj λb1 w1 u g y n=>?_;rw[n.ldAgg (t:=za) (by rw[zU c];exact zc)];refine TermMany_spec (c.ext g).term λw2 i=>?_;refine oZ ?_;have e:=g.trans i;refine DeclOk_spec (r.ext e) λA j=>?_;have f:=e.trans j;have m:=q A f;unfold M.tsort at m;refine oZ ?_;refine zn (λa=>?_) (λa=>?_)
 .rwa[y0 (λh=>by rw[h.2] at a;cases a)] at m
 .rw[gU] at a;refine zb (λb=>?_) (λb=>?_)
  .rw[y0 (λh=>by
    have n:=M.fits_iff.1 h.1;unfold M.manyM at b;rw[y3 h.1] at b;omega)] at m
   exact m
  .have x:M.fits t=true:=by
    by_cases h:M.fits t=true
    .exact h
    .unfold M.manyM at b;rw[y0 h] at b;omega
   refine zd λC k _=>?_;have p:=((n.ext i).ext j).ext k;rw[p.ldAgg (t:=za) (by rw[zU c];exact zc)];refine⟨rfl,Wk λD mb l hm=>?_⟩;have s:=p.ext l;rw[s.ldAgg (t:=za) (by rw[zU c];exact zc)];have d:=(f.trans k).trans l;refine⟨⟨rfl,rfl⟩,sortOf_spec t hm (r.ext d) a (c.ext d).term λB o=>?_⟩;have:=q B (d.trans o);unfold M.tsort at this;rwa[y3 ⟨x,a⟩] at this
end
section
variable {w:World} {K:oK} {F G:oA}
theorem l2Name_spec {s:ByteArray} (hs:s.size<=9223372036854775807) (d:K (.bool (M.nameOk s)) w):vcall WW #[.string s] w K:=by
 refine ze {loops:=[(2,[3])]} Tryz.func104 ?_;rw[ZF] at d;refine vloop_up s.size (λi u w'=>u=[nI i]/\w'=w/\∀j,j<i->(decide (97<=(s.data.getD j 0).toNat)&&decide ((s.data.getD j 0).toNat<=122))=true) ⟨rfl,rfl,oM⟩ ?_;rintro i _ _ w1 C hi ⟨rfl,rfl,g⟩ o;simp(disch:=exact oS) only[push_cast,Xp kV];have l:i<s.size->(decide (97<=(s.data.getD i 0).toNat)&&decide ((s.data.getD i 0).toNat<=122))=false->y90 s=false:=λf h=>by
  rw[G4];intro k;unfold y90 at k;rw[pk] at k;have m:i<s.data.size:=f;have:=k (s.data.getD i 0) (by rw[gN,Gr m];exact Array.getElem_mem m);rw[h] at this;cases this
 refine zb (λa=>?_) (λa=>?_)
 .have f:i<s.size:=oM;rw[vindex_str kV oM oM,gl];refine oZ ?_;refine zb (λb=>?_) (λb=>?_)
  .rw[l f (by rw[gj (show¬97<=(s.data.getD i 0).toNat by omega)];rfl),pQ] at d;exact d
  rw[vindex_str kV oM oM,gl];refine oZ ?_;refine zb (λc=>?_) (λc=>?_)
  .rw[l f (by rw[gj (show¬(s.data.getD i 0).toNat<=122 by omega)];simp),pQ] at d;exact d
  rw[inc64' oM];refine o f _ _ ⟨rfl,rfl,λj n=>?_⟩;by_cases e:j=i
  .subst e;simp only[gd,X0];omega
  .exact g j oM
 .have p:i=s.size:=oM;have k:y90 s=true:=by
   unfold y90;rw[pk];intro x q;obtain⟨j,n,rfl⟩:=Array.getElem_of_mem q;have:=g j (by have:s.data.size=s.size:=rfl;omega);rwa[gN,Gr n] at this
  rw[k,PK] at d
  try simp(disch:=exact oS) only[push_cast,Xp kV]
  refine zb (λb=>?_) (λb=>?_)
  .refine zb (λc=>?_) (λc=>?_)
   .rw[gu (show 1<=s.size by omega),gu (show s.size<=4 by omega)] at d;exact d
   .rw[gj (show¬s.size<=4 by omega)] at d;simpa using d
  .rw[gj (show¬1<=s.size by omega)] at d;simpa using d
theorem l2Find_spec {v:Value} {ds:List M.Dcl} {s:ByteArray} (f:DclsR F w v ds) (d:K (nI (M.findD ds s)) w):vcall WX #[v,.string s] w K:=by
 refine ze {loops:=[(2,[5])]} Tryz.func105 ?_;have k:=f.small;refine vloop_up ds.length (λi u w'=>u=[nI i]/\w'=w/\∀j,j<i->(ds.getD j xC0).1≠s) ⟨rfl,rfl,oM⟩ ?_;rintro i _ _ w1 C hi ⟨rfl,rfl,c⟩ g;simp only[push_cast,f.len];refine zb (λa=>?_) (λa=>?_)
 .try simp(disch:=exact oS) only[push_cast,f.iaddr]
  try simp(disch:=exact oS) only[push_cast,f.load0]
  refine zb (λb=>?_) (λb=>?_)
  .rw[M.findD_of oM b c] at d;exact d
  .rw[inc64' oM];refine g oM _ _ ⟨rfl,rfl,λj h=>?_⟩;by_cases e:j=i
   .subst e;exact b
   .exact c j oM
 .rw[M.findD_none (λj h=>c j oM)] at d;exact d
theorem spec_DeclOk_spec {v:Value} {ds:List M.Dcl} (E:DclsR F w v ds) (D:∀i,i<ds.length->(ds.getD i xC0).1.size<=9223372036854775807) (A:∀w',Ext w w'->K (.bool (M.declOk ds)) w'):vcall U5 #[v] w K:=by
 refine ze {loops:=[(5,[3,4])]} Tryz.func68 ?_;simp only[push_cast,E.len];refine zb (λa=>?_) (λa=>?_)
 .have:=A w (Same.refl _ _);rwa[show M.declOk ds=false from by rw[G4];intro h;have:=(M.decl_iff.1 h).1;omega] at this
 refine vloop_up ds.length (λi u w'=>u=[nI (M.bitT ds i),nI i]/\Ext w w'/\(∀j,j<i->M.dclOk ds j=true)/\ -4*(i:Int)<=M.bitT ds i/\M.bitT ds i<=4*i) ⟨rfl,Same.refl _ _,oM,by simp[M.bitT],by simp[M.bitT]⟩ ?_;rintro i _ _ w1 C hi ⟨rfl,p,m,H,I⟩ G;have r:=E.ext p;simp only[push_cast,r.len];refine zb (λb=>?_) (λb=>?_)
 .have g:i<ds.length:=oM;have f:M.dclOk ds i=false->∀w',Ext w w'->K (.bool false) w':=λe w' he=>by
   have:=A w' he;rwa[show M.declOk ds=false from by rw[G4];intro h;have:=(M.decl_iff.1 h).2.1 i g;rw[e] at this;cases this] at this
  unfold M.dclOk at f;refine zd λw2 t _=>?_;have d:=r.ext t;have k:=p.trans t;simp(disch:=exact oS) only[push_cast,d.iaddr,y1];simp(disch:=exact oS) only[push_cast,d.load0,d.load1,y1];have y:=D i g;have o:=M.bitT_succ g;obtain⟨s,n,l⟩:∃s n,ds.getD i xC0=(s,n):=⟨_,_,rfl⟩;rw[show ds.getD i (M.nada,0)=(s,n) from l] at o;simp only[l] at f y⊢;refine l2Name_spec y ?_;simp only[push_cast,y1];refine zn (λc=>?_) (λc=>?_)
  .exact f (by rw[show M.nameOk s=false by simpa using c];simp) _ k
  rw[gU] at c;rw[c] at f;have ecut:∀(w:World) (K:oK),xf yo v none (some (nI (i:Int))) none w K=K (cutV v i) w:=λw K=>d.cut (by intro e;subst e;simp at g) rK oM;have z:∀(K:oK),zu yy (oE ((eaddr v 2 i).add 0)) w2 K=K (.string s) w2:=λK=>(by rw[d.load0 Zf0 g,l]);have q:∀(K:oK),zu zV (oE ((eaddr v 2 i).add 1)) w2 K=K (nI n) w2:=λK=>by rw[d.load1 WA g,l]
  try simp(disch:=exact oS) only[push_cast,d.iaddr,y1]
  try simp(disch:=exact oS) only[push_cast,d.iaddr,z,q,ecut,y1]
  refine zb (λc1=>?_) (λc1=>?_)
  .exact f (by rw[gj (show¬1<=n by omega)];simp) _ k
  refine zb (λc2=>?_) (λc2=>?_)
  .exact f (by rw[gj (show¬n<=4 by omega)];simp) _ k
  refine l2Find_spec (d.taken oM) ?_;simp only[push_cast,y1];refine zb (λc3=>?_) (λc3=>?_)
  .exact f (by rw[gj (show¬M.findD (ds.take i) s<0 by omega)];simp) _ k
  try simp(disch:=exact oS) only[push_cast,d.iaddr]
  try simp(disch:=exact oS) only[push_cast,q]
  rw[zk (x:=M.bitT ds i+n) oM oM,inc64' oM,show M.bitT ds i+n=M.bitT ds (i+1) from o.symm];refine G oM _ _ ⟨rfl,k,λj J=>?_,oM,oM⟩;by_cases e:j=i
  .subst e;unfold M.dclOk;rw[show ds.getD j (M.nada,0)=(s,n) from l,c];simp only[pJ,gd,X0];exact⟨⟨oM,oM⟩,oM⟩
  .exact m j oM
 .have B:i=ds.length:=oM;subst B;have:=A w1 p;rw[M.bitT_all];have e:M.declOk ds=decide (M.bits ds<=8):=by
   rw[PV,M.decl_iff,X0];exact⟨λh=>h.2.2,λh=>⟨oM,m,h⟩⟩
  rwa[e] at this
theorem spec_TermMany_spec:∀(t:M.Tm) {w:World} {K:oK} {F:oA} {v:Value},TermR F w v t->(∀w',Ext w w'->K (.tuple #[nI (M.manyM t),nI (M.lvlM t)]) w')->vcall JU #[v] w K:=by
 refine M.Tm.ind λt ih w K F v ht R=>?_;refine ze {loops:=[(4,[4,5,6])],cuts:=[(20486,[])]} Tryz.func106 ?_;obtain⟨ksv,rfl,y⟩:=ht;refine zj λb1 w1 S B a1 O=>?_;have a2:=y.small;have hS:=M.szT_all t;have hD:=M.dpT_all t;have k:M.fits t=true↔M.sizeM t<=20/\M.deepM t<=7:=M.fits_iff;refine vloop_up t.ks.length (λi u w'=> ∃n d:Nat,u=[nI n,nI d,nI i]/\Ext w1 w'/\n<=41/\d<=8/\(1+M.szT t.ks i<=20/\M.dpT t.ks i<=7->n=1+M.szT t.ks i/\d=M.dpT t.ks i)/\(¬(1+M.szT t.ks i<=20/\M.dpT t.ks i<=7)->20<n\/7<d))
  ⟨1,0,rfl,Same.refl _ _,oM,oM,λh=>⟨rfl,rfl⟩,λh=>by
   have I:M.szT t.ks 0=0:=rfl;have e2:M.dpT t.ks 0=0:=rfl;omega⟩ ?_
 rintro i _ _ w2 C hi ⟨n,d,rfl,o,c1,c2,c3,H⟩ Q;have J:=O.ext o;have L:=B.trans o;have l:=y.ext L;have V:=M.szT_mono (ks:=t.ks) (i:=i) (j:=t.ks.length) oM (gp _);have W:=M.dpT_mono (ks:=t.ks) (i:=i) (j:=t.ks.length) oM (gp _);have I:IntKind.i64.wrap ((d:Int)+1)=((d+1:Nat):Int):=inc64' oM;have m:(20<n\/i=t.ks.length)->∀q,(q=K)->vif (.bool (decide ((20:Int)<n))) (q (.tuple #[nI 21,nI 8]) w2) (vif (.bool (decide ((7:Int)<((d+1:Nat):Int)))) (q (.tuple #[nI 21,nI 8]) w2) (q (.tuple #[nI (n:Int),nI ((d+1:Nat):Int)]) w2)):=by
  rintro a0 q rfl;have p:=R w2 L;unfold M.manyM M.lvlM at p;have c:(20<n\/7<d+1)->¬(M.fits t=true):=λh T=>by
   have N:=k.1 T;have:=c3 oM;omega
  refine zb (λa=>?_) (λa=>?_)
  .rw[y0 (c oM),y0 (c oM)] at p;exact p
  refine zb (λb=>?_) (λb=>?_)
  .rw[y0 (c oM),y0 (c oM)] at p;exact p
  .have E:i=t.ks.length:=oM;subst E;have r:M.sizeM t<=20/\M.deepM t<=7:=by
    by_cases h:1+M.szT t.ks t.ks.length<=20/\M.dpT t.ks t.ks.length<=7
    .have:=c3 h;omega
    .have:=H h;omega
   have h3:=c3 oM;rw[y3 (k.2 r),y3 (k.2 r)] at p;rw[show n=M.sizeM t by omega,show d+1=M.deepM t by omega];exact p
 refine zo (λu w'=>u=[]/\w'=w2/\i<t.ks.length/\n<=20) (λC' z=>?_) ?_
 .simp only[push_cast,J.ld4,l.len,I];refine zb (λa=>?_) (λa=>?_)
  .refine zb (λb=>?_) (λb=>?_)
   .exact z _ _ ⟨rfl,rfl,oM,oM⟩
   .exact m (.inl oM) K rfl
  .exact m (.inr oM) K rfl
 .rintro u g w3 ⟨rfl,rfl,U,hn⟩;have X:=M.szT_succ (ks:=t.ks) (i:=i) oM;have Y:=M.dpT_succ (ks:=t.ks) (i:=i) oM;have Z:=M.szT_mono (ks:=t.ks) (i:=i+1) (j:=t.ks.length) oM (gp _);simp(disch:=exact oS) only[push_cast,J.ld4,l.iaddr];refine l.load zc oM λx N=>?_;refine ih _ (M.getD_mem oM _) N λw4 D=>?_;have f:=M.fits_iff (t:=t.ks.getD i default);have G:M.manyM (t.ks.getD i default)<=21:=by
   unfold M.manyM;split
   .have:=f.1 (by assumption);omega
   .omega
  have A:M.lvlM (t.ks.getD i default)<=8:=by
   unfold M.lvlM;split
   .have:=f.1 (by assumption);omega
   .omega
  have e:M.sizeM (t.ks.getD i default)<=20/\M.deepM (t.ks.getD i default)<=7->M.manyM (t.ks.getD i default)=M.sizeM (t.ks.getD i default)/\M.lvlM (t.ks.getD i default)=M.deepM (t.ks.getD i default):=λh=>by
   unfold M.manyM M.lvlM;rw[y3 (f.2 h),y3 (f.2 h)];exact⟨rfl,rfl⟩
  have c: ¬(M.sizeM (t.ks.getD i default)<=20/\M.deepM (t.ks.getD i default)<=7)->M.manyM (t.ks.getD i default)=21/\M.lvlM (t.ks.getD i default)=8:=λh=>by
   unfold M.manyM M.lvlM;rw[y0 (λx=>h (f.1 x)),y0 (λx=>h (f.1 x))];exact⟨rfl,rfl⟩
  generalize M.manyM (t.ks.getD i default)=nk at G e c⊢;generalize M.lvlM (t.ks.getD i default)=dk at A e c⊢;refine oZ ?_;refine l1Max_spec ?_
  try simp only[push_cast]
  rw[inc64' oM,zk (x:=(n:Int)+nk) oM oM,show(n:Int)+(nk:Int)=((n+nk:Nat):Int) by omega,show max (d:Int) (dk:Int)=((max d dk:Nat):Int) by omega];refine Q oM _ _ ⟨n+nk,max d dk,rfl,o.trans D,oM,oM,λh=>?_,λh=>?_⟩
  .have:=c3 oM;have:=e oM;omega
  .by_cases r:M.sizeM (t.ks.getD i default)<=20/\M.deepM (t.ks.getD i default)<=7
   .have h5:=e r;by_cases s:1+M.szT t.ks i<=20/\M.dpT t.ks i<=7
    .have:=c3 s;omega
    .have:=H s;omega
   .have:=c r;omega
end
end Go.Proofs.YtfnpmncplaibiaaGreatDoor
end
