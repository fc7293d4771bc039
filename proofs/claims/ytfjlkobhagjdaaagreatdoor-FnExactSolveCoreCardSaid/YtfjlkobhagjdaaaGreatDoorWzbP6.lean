import Derived.Test.YtfjlkobhagjdaaaGreatDoorWzbP5
import Derived.Ground.NamesProg
import Derived.Ground.SlsfProg
import Derived.Shelf.SlSortCmp.Whole1
import Derived.Shelf.Strings.OnBuilder
import Derived.Shelf.Strings.SlTrimAscii
import Derived.Shelf.SlGeneric
/- A part of the proof. -/
set_option linter.all false
set_option maxRecDepth 9999
set_option maxHeartbeats 2000000
noncomputable section
namespace Go.Proofs.YtfjlkobhagjdaaaGreatDoor
open Go Go.Vc Go.Proofs
section
variable {w:World} {K:oK} {F:Nat->Prop}
theorem nat_ck {p:Nat->Nat->Nat->Bool} (h:∀v:Fin 5,(List.range 16).all (λa=>(List.range 16).all λb=> !(decide (1<=v.1)&&decide (a<2^v.1))||p v.1 a b)=true) {k a b:Nat} (d:1<=k) (e:k<=4) (c:a<2^k) (f:b<16):p k a b=true:=by
 have:=h ⟨k,oM⟩;simp only[Gf,gJ,Gx,gV,ph,decide_eq_false_iff_not] at this;rcases this a (pow16 e c) b f with(h|h)|h
 .exact absurd d h
 .exact absurd c h
 .exact h
theorem shl_ck {k a b:Nat} (c:1<=k) (d:k<=4) (e:a<2^k) (f:b<16):a*2^min b k%2^k=M.binN 11 k a b:=
 of_decide_eq_true (nat_ck (p:=λk a b=>decide (a*2^min b k%2^k=M.binN 11 k a b)) (by decide+kernel) c d e f)
theorem shr_ck {k a b:Nat} (c:1<=k) (d:k<=4) (e:a<2^k) (f:b<16):a/2^min b k=M.binN 12 k a b:=
 of_decide_eq_true (nat_ck (p:=λk a b=>decide (a/2^min b k=M.binN 12 k a b)) (by decide+kernel) c d e f)
theorem sar_ck {k a b:Nat} (c:1<=k) (d:k<=4) (e:a<2^k) (f:b<16):(if a/2^(k-1)%2=0 then a/2^min b k else 2^k-1-(2^k-1-a)/2^min b k)=M.binN 13 k a b:=
 of_decide_eq_true (nat_ck (p:=λk a b=>decide ((if a/2^(k-1)%2=0 then a/2^min b k else 2^k-1-(2^k-1-a)/2^min b k)=M.binN 13 k a b)) (by decide+kernel) c d e f)
theorem l1Shift_spec {op k a b:Nat} (I:11<=op) (J:op<=13) (u:1<=k) (p:k<=4) (r:a<2^k) (A:b<16) (y:∀w',Ext w w'->K (nI ((M.binN op k a b:Nat):Int)) w'):vcall YE #[nI (op:Int),xX k a,nI (b:Int)] w K:=by
 refine ze {} Tryz.func295 ?_;have O:=pow4 u p;have s:=pow16 p r;refine zj λb1 w1 L i Q l=>?_;simp only[push_cast,l.ld0];refine l1Min_spec ?_;obtain⟨n,E⟩:∃n,n=min b k:=⟨_,rfl⟩;have N:n<=k:=oM
 rw[show min (b:Int) (k:Int)=(n:Int) by omega];have j:1<=2^n/\2^n<=16:=⟨P5 oM,gO (Gh oM (show n<=4 by omega)) dC⟩
 try simp only[push_cast]
 refine zb (λc=>?_) (λc=>?_)
 .have:op=11:=oM;subst this;have f:=shl_ck u p r A;rw[<-E] at f;refine zd λw2 g _=>?_;have h:=l.ext g;simp only[push_cast,h.ld0,h.ld1,y1];refine l1Two_nat oM ?_;obtain⟨q,o⟩:∃q,q=2^n:=⟨_,rfl⟩;rw[<-o] at f j⊢;have hm:=mul225 s (show q-1<16 by omega);have t:a*q=a*(q-1)+a:=by rw[<-Nat.mul_succ];congr 1;omega
  obtain⟨x,G⟩:∃x,x=a*q:=⟨_,rfl⟩;have e:IntKind.i64.wrap ((a:Int)*(q:Int))=(x:Int):=by
   rw[show(a:Int)*(q:Int)=(x:Int) by rw[G];simp];exact wrapN oM
  rw[<-G] at f;simp only[push_cast,h.ld0,h.ld1,y1,gh,e];refine l1Mod_spec u p oM oM ?_;rw[show(x:Int)%((2^k:Nat):Int)=((x%2^k:Nat):Int) from rfl,f];exact y _ (i.trans g)
 refine zb (λc2=>?_) (λc2=>?_)
 .have:op=12:=oM;subst this;have f:=shr_ck u p r A;rw[<-E] at f;refine zd λw2 g _=>?_;have h:=l.ext g;simp only[push_cast,h.ld1,y1];refine l1Two_nat oM ?_;obtain⟨q,o⟩:∃q,q=2^n:=⟨_,rfl⟩;rw[<-o] at f j⊢;have B:=GA a q;simp only[push_cast,h.ld1,y1,gh];rw[kg oM,show(a:Int).tdiv (q:Int)=((a/q:Nat):Int) from rfl,wrapN oM,f];exact⟨rfl,y _ (i.trans g)⟩
 .have:op=13:=oM;subst this;have f:=sar_ck u p r A;rw[<-E] at f;have H:IntKind.i64.wrap ((k:Int)-1)=((k-1:Nat):Int):=by rw[zk oM oM];omega
  simp only[push_cast,l.ld0,l.ld1,H];refine l1Bit_spec oM oM ?_;obtain⟨z,R⟩:∃z,z=a/2^(k-1)%2:=⟨_,rfl⟩;rw[<-R] at f⊢;refine oZ ?_;refine zb (λc3=>?_) (λc3=>?_)
  .rw[y3 oM] at f;refine zd λw2 g _=>?_;have h:=l.ext g;simp only[push_cast,h.ld1,y1];refine l1Two_nat oM ?_;obtain⟨q,o⟩:∃q,q=2^n:=⟨_,rfl⟩;rw[<-o] at f j⊢;have B:=GA a q;simp only[push_cast,h.ld1,y1,gh];rw[kg oM,show(a:Int).tdiv (q:Int)=((a/q:Nat):Int) from rfl,wrapN oM,f];exact⟨rfl,y _ (i.trans g)⟩
  .rw[y0 oM] at f;simp only[push_cast,l.ld0];refine l1Two_nat oM ?_;obtain⟨m,hm⟩:∃m,m=2^k:=⟨_,rfl⟩;rw[<-hm] at f O r⊢;have F:IntKind.i64.wrap ((m:Int)-1)=((m-1:Nat):Int):=by rw[zk oM oM];omega
   have v:IntKind.i64.wrap (((m-1:Nat):Int)-(a:Int))=((m-1-a:Nat):Int):=by rw[zk oM oM];omega
   obtain⟨m1,D⟩:∃m1,m1=m-1:=⟨_,rfl⟩;rw[<-D] at F v f;obtain⟨m2,t⟩:∃m2,m2=m1-a:=⟨_,rfl⟩;rw[<-t] at v f;simp only[push_cast,F];refine zd λw2 g _=>?_;have h:=l.ext g;simp only[push_cast,h.ld1,y1,v];refine l1Two_nat oM ?_;obtain⟨q,o⟩:∃q,q=2^n:=⟨_,rfl⟩;rw[<-o] at f j⊢;have B:=GA m2 q;simp only[push_cast,h.ld1,y1,gh,v];rw[kg oM,show(m2:Int).tdiv (q:Int)=((m2/q:Nat):Int) from rfl,wrapN oM];refine⟨rfl,?_⟩;obtain⟨d,C⟩:∃d,d=m2/q:=⟨_,rfl⟩;rw[<-C] at f B⊢;refine oZ ?_;rw[zk oM oM,show(m1:Int)-(d:Int)=((m1-d:Nat):Int) by omega,f];exact⟨trivial,y _ (i.trans g)⟩
theorem bin4 {op k a b:Nat} (d:3<=op) (e:op<=5):M.binN op 4 a b=M.binN op k a b:=by
 unfold M.binN;by_cases h:op=3
 .rw[y3 h,y3 h]
 by_cases c:op=4
 .rw[y0 h,y0 h,y3 c,y3 c]
 .rw[y0 h,y0 h,y0 c,y0 c,y3 oM,y3 oM]
theorem l1Bin_spec {k a l b:Nat} {op:Int} (D:1<=k) (y:k<=4) (S:a<2^k) (l4:l<=4) (T:b<2^l) (j:∀w' (r:Int),Ext w w'->3<=op->op<=13->(k=l->r=((M.binN op.toNat k a b:Nat):Int))->K (.tuple #[nI r,.bool true]) w')
  (L:∀w',Ext w w'->¬(3<=op/\op<=13)->K (.tuple #[nI 0,.bool false]) w'):vcall zF0 #[nI op,xX k a,xX l b] w K:=by
 refine ze {cuts:=[(12293,[9])]} Tryz.func254 ?_;have X:=pow4 D y;have n:=pow16 y S;have h:=pow16 l4 T;refine zj λb1 w1 V I Y U=>?_;refine zj λb2 w2 W B Z g2=>?_;have f:=U.ext B;have i:=I.trans B;refine zo (λu w'=>u=[.bool (decide (3<=op/\op<=5))]/\w'=w2) (λC H=>?_) ?_
 .refine oZ ?_;refine zb (λc=>?_) (λc=>?_)
  .exact H _ _ ⟨by rw[gi (show 3<=op/\op<=5 by omega),gi c],rfl⟩
  refine zb (λc2=>?_) (λc2=>?_)
  .exact H _ _ ⟨by rw[gi (show 3<=op/\op<=5 by omega),gi c2],rfl⟩
  .refine H _ _ ⟨?_,rfl⟩;by_cases c3:op=5
   .rw[gi (show 3<=op/\op<=5 by omega),gi c3]
   .rw[gg (show¬(3<=op/\op<=5) by omega),gg c3]
 .rintro u g w3 ⟨rfl,rfl⟩;refine oZ ?_;refine zb (λc=>?_) (λc=>?_)
  .simp only[push_cast,f.ld1,g2.ld1];obtain⟨o,rfl⟩:∃o:Nat,op=o:=⟨op.toNat,oM⟩;refine l1Bits_spec oM oM n h ?_;refine j _ _ i oM oM λe=>?_;rw[gq,bin4 (k:=k) oM oM]
  refine zb (λN=>?_) (λN=>?_)
  .subst N;simp only[push_cast,f.ld0,f.ld1,g2.ld1];rw[zk (x:=(a:Int)+b) oM oM];refine l1Mod_spec D y oM oM ?_;refine j _ _ i oM oM λe=>?_;show _=(((a+b)%2^k:Nat):Int);rw[show(a:Int)+(b:Int)=((a+b:Nat):Int) by omega];rfl
  refine zb (λO=>?_) (λO=>?_)
  .subst O;simp only[push_cast,f.ld0,f.ld1,g2.ld1];rw[zk (x:=(a:Int)-b) oM oM];refine l1Mod_spec D y oM oM ?_;refine j _ _ i oM oM λe=>?_;subst e;show _=(((a+2^k-b)%2^k:Nat):Int);rcases(by omega:k=1\/k=2\/k=3\/k=4) with rfl|rfl|rfl|rfl<;>simp at T⊢ <;>omega
  refine zb (λQ=>?_) (λQ=>?_)
  .subst Q;have hm:=mul225 n h;simp only[push_cast,f.ld0,f.ld1,g2.ld1];rw[show(a:Int)*(b:Int)=((a*b:Nat):Int) by simp,wrapN oM];refine l1Mod_spec D y oM oM ?_;exact j _ _ i oM oM λe=>rfl
  refine zb (λR=>?_) (λR=>?_)
  .subst R;simp only[push_cast,g2.ld1];refine zb (λd=>?_) (λd=>?_)
   .have s:b=0:=oM;subst s;simp only[push_cast,f.ld0];refine l1Two_nat oM ?_;obtain⟨m,hm⟩:∃m,m=2^k:=⟨_,rfl⟩;rw[<-hm] at X⊢;refine oZ ?_;rw[zk oM oM];refine j _ _ i oM oM λe=>?_;have:M.binN (9:Int).toNat k a 0=2^k-1:=(by simp[M.binN]);rw[this,<-hm];omega
   .simp only[push_cast,f.ld1,g2.ld1];have hd:=GA a b;rw[kg oM,show(a:Int).tdiv (b:Int)=((a/b:Nat):Int) from rfl,wrapN oM];refine j _ _ i oM oM λe=>?_;have:M.binN (9:Int).toNat k a b=a/b:=(by simp[M.binN,show b≠0 by omega]);rw[this]
  refine zb (λz=>?_) (λz=>?_)
  .subst z;simp only[push_cast,g2.ld1];refine zb (λd=>?_) (λd=>?_)
   .have s:b=0:=oM;subst s;simp only[push_cast,f.ld1];refine j _ _ i oM oM λe=>?_;have:M.binN (10:Int).toNat k a 0=a:=(by simp[M.binN]);rw[this]
   .simp only[push_cast,f.ld1,g2.ld1];rw[kT oM,show(a:Int).tmod (b:Int)=((a%b:Nat):Int) from rfl];refine j _ _ i oM oM λe=>?_;have:M.binN (10:Int).toNat k a b=a%b:=(by simp[M.binN,show b≠0 by omega]);rw[this]
  have v:∀o:Nat,11<=o->o<=13->op=o->zu zg (oP b1 0) w3 λt80 E=>zu zV (oP b2 1) E λt82 F=>vcall YE #[nI op,t80,t82] F λt83 G=>K (.tuple #[t83,.bool true]) G:=by
   intro o o1 o2 e;subst e;simp only[push_cast,f.ldAgg (t:=zg) zr,g2.ld1];refine l1Shift_spec o1 o2 D y S h λw4 J=>?_;exact j _ _ (i.trans J) oM oM λe=>rfl
  refine zb (λp=>?_) (λp=>?_)
  .simp only[gi p,Yu0];exact v 11 oM oM p
  refine zb (λq=>?_) (λq=>?_)
  .simp only[gi q,Yu0];exact v 12 oM oM q
  refine zb (λA=>?_) (λA=>?_)
  .exact v 13 oM oM A
  .exact L _ i oM
theorem spec_VecUn_spec {op wd n:Int} (l:∀w',Ext w w'->K (.tuple #[xX (M.vecUn op wd n).1.1 (M.vecUn op wd n).1.2,.bool (M.vecUn op wd n).2]) w'):vcall zG0 #[nI op,xX wd n] w K:=by
 refine ze {} Tryz.func221 ?_;refine zj λb1 w1 H o L E=>?_;refine zi zX λb2 w2 I p N g2=>?_;have u:=E.ext p;simp only[push_cast,u.ldAgg (t:=zg) zr];refine spec_VecOk_spec λQ f=>?_;have v:=u.ext f;have g3:=g2.ext f;have F:=(o.trans p).trans f;have c:∀d r,Ext Q d->Same (· =b2) d r->Ext w r:=λd r h D=>Ext.then (F.trans h) D λy O=>by subst O;have:=o.size;omega
 simp only[push_cast];unfold M.vecUn at l;refine zn (λg=>?_) (λg=>?_)
 .refine stVec g3 λd i _ g4=>?_;rw[g4.lv rK];have:=l d (c _ _ (Same.refl _ _) i);rwa[y0 (by simp at g;simp[g])] at this
 .rw[gU] at g;obtain⟨k,a,rfl,rfl,x,z,G⟩:=M.vok_nat g;have J:=pow4 x z;refine zb (λq=>?_) (λq=>?_)
  .subst q;refine zd λd b _=>?_;have e:=v.ext b;simp only[push_cast,e.ld0,e.ld1,y1];refine l1Two_nat oM ?_;have hu:M.unM 1 (k:Int) (a:Int)=((2^k:Nat):Int)-1-a:=(by simp[M.unM]);obtain⟨m,hm⟩:∃m,m=2^k:=⟨_,rfl⟩;rw[<-hm] at J hu G⊢;have B:IntKind.i64.wrap ((m:Int)-1)=(m:Int)-1:=zk oM oM;have C:IntKind.i64.wrap ((m:Int)-1-(a:Int))=(m:Int)-1-a:=zk oM oM;simp only[push_cast,e.ld0,e.ld1,y1,gh,B,C];refine stVec (g3.ext b) λs j _ g7=>?_;rw[g7.lv rK];have:=l s (c _ _ b j);rw[y3 ⟨g,.inl rfl⟩,hu] at this;exact this
  refine zb (λa2=>?_) (λa2=>?_)
  .subst a2;refine zd λd b _=>?_;have e:=v.ext b;have A:IntKind.i64.wrap (0-(a:Int))=0-(a:Int):=zk oM oM;simp only[push_cast,e.ld0,e.ld1,y1,A];refine l1Mod_spec x z oM oM ?_;have hu:M.unM 2 (k:Int) (a:Int)=(0-(a:Int))%((2^k:Nat):Int):=by
    unfold M.unM;rw[y0 oM,gq];rcases(by omega:k=1\/k=2\/k=3\/k=4) with rfl|rfl|rfl|rfl<;>simp<;>omega
   obtain⟨m,hm⟩:∃m:Int,m=(0-(a:Int))%((2^k:Nat):Int):=⟨_,rfl⟩;rw[<-hm] at hu⊢;simp only[push_cast,e.ld0,y1,gh];refine stVec (g3.ext b) λs j _ g7=>?_;rw[g7.lv rK];have:=l s (c _ _ b j);rw[y3 ⟨g,.inr rfl⟩,hu] at this;exact this
  .refine stVec g3 λd i _ g4=>?_;rw[g4.lv rK];have:=l d (c _ _ (Same.refl _ _) i);rwa[y0 (λh=>h.2.elim q a2)] at this
theorem spec_VecBin_spec {op wd n v m:Int} (z:∀w',Ext w w'->K (.tuple #[xX (M.vecBin op wd n v m).1.1 (M.vecBin op wd n v m).1.2,.bool (M.vecBin op wd n v m).2]) w'):vcall WP #[nI op,xX wd n,xX v m] w K:=by
 refine ze {cuts:=[(8195,[])]} Tryz.func223 ?_;refine zj λb1 w1 a3 F a6 h1=>?_;refine zj λb2 w2 a4 A a7 g2=>?_;refine zi zX λb3 V a5 B a8 r3=>?_;have hE:=(F.trans A).trans B;have a9:=F.size;have aa:=A.size;have X:=(h1.ext A).ext B;have g3:=g2.ext B;have j:∀o p,Ext V o->Same (· =b3) o p->Ext w p:=λo p h h'=>Ext.then (hE.trans h) h' λy hy=>by subst hy;omega
 have f:(M.vecBin op wd n v m)=((0,0),false)->∀o,Ext V o->zT zg (oP b3 0) (xX 0 0) o λ_ p=>vlv zg (oP b3 0) p λr w6=>K (.tuple #[r,.bool false]) w6:=by
  intro e o c;refine stVec (r3.ext c) λp S _ r5=>?_;rw[r5.lv rK];have:=z p (j _ _ c S);rwa[e] at this
 refine zo (λu o=>u=[]/\Ext V o/\M.vok wd n=true/\M.vok v m=true) (λC hC=>?_) ?_
 .simp only[push_cast,X.ldAgg (t:=zg) zr];refine spec_VecOk_spec λo c=>?_;have g4:=g3.ext c;refine oZ ?_;refine zn (λI=>f ?_ _ c) (λI=>?_)
  .unfold M.vecBin;rw[y0 (by simp at I;simp[I])]
  .simp only[push_cast,g4.ldAgg (t:=zg) zr];refine spec_VecOk_spec λp d=>?_;refine oZ ?_;refine zn (λi=>f ?_ _ (c.trans d)) (λi=>?_)
   .unfold M.vecBin;rw[y0 (by simp at i;simp[i])]
   .exact hC _ _ ⟨rfl,c.trans d,by simpa using I,by simpa using i⟩
 .rintro u g o ⟨rfl,c,G,i⟩;have H:=X.ext c;have g4:=g3.ext c;have r4:=r3.ext c;obtain⟨k,a,rfl,rfl,k1,k4,Y⟩:=M.vok_nat G;obtain⟨l,b,rfl,rfl,l1,T,Z⟩:=M.vok_nat i;have E:=pow16 k4 Y;have a0:=pow16 T Z;unfold M.vecBin at z f;rw[y3 ⟨G,i⟩] at z f;refine oZ ?_;refine zb (λJ=>?_) (λJ=>?_)
  .rw[y3 J] at z f;have N:IntKind.i64.wrap ((k:Int)+(l:Int))=(k:Int)+(l:Int):=zk oM oM;simp only[push_cast,H.ld0,g4.ld0,N];refine zb (λa2=>f (y0 oM) _ c) (λa2=>?_);refine zd λp d _=>?_;have x:=H.ext d;have g5:=g4.ext d;simp only[push_cast,x.ld0,x.ld1,g5.ld0,g5.ld1,y1,N];refine l1Two_nat oM ?_;have Q:=pow4 l1 T;have s:M.catM (l:Int) (a:Int) (b:Int)=(a:Int)*((2^l:Nat):Int)+b:=(by simp[M.catM]);have hm:=mul225 E (show 2^l-1<16 by omega);have R:a*2^l=a*(2^l-1)+a:=by rw[<-Nat.mul_succ];congr 1;omega
   obtain⟨q,hq⟩:∃q,q=2^l:=⟨_,rfl⟩;rw[<-hq] at s hm R Q⊢;have hz:(a:Int)*(q:Int)=((a*q:Nat):Int):=(by simp);have e2:IntKind.i64.wrap ((a:Int)*(q:Int))=(a:Int)*(q:Int):=zk oM oM;have e3:IntKind.i64.wrap ((a:Int)*(q:Int)+(b:Int))=(a:Int)*(q:Int)+b:=zk oM oM;simp only[push_cast,x.ld0,x.ld1,g5.ld0,g5.ld1,y1,N,e2,e3,gh];refine stVec (r4.ext d) λW D _ U=>?_;rw[U.lv rK];have:=z W (j _ _ (c.trans d) D);rw[y3 oM,s] at this;exact this
  .rw[y0 J] at z f;simp only[push_cast,H.ldAgg (t:=zg) zr,g4.ldAgg (t:=zg) zr];refine l1Bin_spec k1 k4 Y T Z (λp r d c3 L hr=>?_) λp d hn=>?_
   .have x:=H.ext d;have g5:=g4.ext d;simp only[push_cast,x.ld0,g5.ld0,Gn];refine zb (λa2=>f (y0 oM) _ (c.trans d)) (λa2=>?_);have O:k=l:=oM;subst O
    try simp only[push_cast,x.ld0]
    refine stVec (r4.ext d) λW D _ U=>?_;rw[U.lv rK];have:=z W (j _ _ (c.trans d) D);rw[y3 ⟨c3,L,rfl⟩] at this;rw[hr rfl];exact this
   .simp only[push_cast,PG];exact f (y0 (λh=>hn ⟨h.1,h.2.1⟩)) _ (c.trans d)
theorem spec_VecCmp_spec {op wd n v m:Int} (q:∀w',Ext w w'->K (.tuple #[.bool (M.vecCmp op wd n v m).1,.bool (M.vecCmp op wd n v m).2]) w'):vcall WO #[nI op,xX wd n,xX v m] w K:=by
 refine ze {cuts:=[(8195,[])]} Tryz.func222 ?_;refine zj λb1 w1 O D R I=>?_;refine zj λb2 w2 Q r S g2=>?_;have x:=D.trans r;have z:=I.ext r;have i:(M.vecCmp op wd n v m)=(false,false)->∀j,Ext w2 j->K (.tuple #[.bool false,.bool false]) j:=by
  intro e j c;have:=q j (x.trans c);rwa[e] at this
 refine zo (λu j=>u=[]/\Ext w2 j/\M.vok wd n=true/\M.vok v m=true/\wd=v) (λC J=>?_) ?_
 .simp only[push_cast,z.ldAgg (t:=zg) zr];refine spec_VecOk_spec λj c=>?_;have g4:=g2.ext c;refine oZ ?_;refine zn (λy=>i ?_ _ c) (λy=>?_)
  .unfold M.vecCmp;rw[y0 (by simp at y;simp[y])]
  .simp only[push_cast,g4.ldAgg (t:=zg) zr];refine spec_VecOk_spec λT d=>?_;have g5:=g4.ext d;have B:=(z.ext c).ext d;refine oZ ?_;refine zn (λf=>i ?_ _ (c.trans d)) (λf=>?_)
   .unfold M.vecCmp;rw[y0 (by simp at f;simp[f])]
   .simp only[push_cast,B.ld0,g5.ld0];refine zb (λp=>i ?_ _ (c.trans d)) (λp=>?_)
    .unfold M.vecCmp;rw[y0 (λh=>p h.2.2.1)]
    .exact J _ _ ⟨rfl,c.trans d,by simpa using y,by simpa using f,oM⟩
 .rintro u g j ⟨rfl,c,o,f,rfl⟩;have A:=z.ext c;have g4:=g2.ext c;unfold M.vecCmp at q i;refine oZ ?_;refine zb (λp=>?_) (λp=>?_)
  .subst p;simp only[push_cast,A.ld1,g4.ld1];have:=q j (x.trans c);rw[y3 ⟨o,f,rfl,oM,oM⟩] at this;exact this
  refine zb (λa2=>?_) (λa2=>?_)
  .subst a2;simp only[push_cast,A.ld1,g4.ld1];have:=q j (x.trans c);rw[y3 ⟨o,f,rfl,oM,oM⟩] at this;exact this
  refine zb (λa3=>?_) (λa3=>?_)
  .subst a3;obtain⟨k,a,rfl,rfl,G,H,L⟩:=M.vok_nat o;obtain⟨l,b,V,rfl,W,X,N⟩:=M.vok_nat f;have F:l=k:=oM;subst F;refine zd λT d _=>?_;have B:=A.ext d;have g5:=g4.ext d;simp only[push_cast,B.ldAgg (t:=zg) zr,g5.ldAgg (t:=zg) zr,y1];refine l1Signed_spec G H L λY s=>?_;have g6:=g5.ext s;simp only[push_cast,g6.ldAgg (t:=zg) zr,y1,gh];refine l1Signed_spec G H N λU E=>?_;simp only[push_cast,y1];have:=q U (((x.trans c).trans d).trans (s.trans E));rw[y3 ⟨o,f,rfl,oM,oM⟩] at this;exact this
  .exact i (by rw[y0 (λh=>oM)]) _ c
theorem spec_VecCut_spec {wd n hi lo:Int} (i:∀w',Ext w w'->K (.tuple #[xX (M.vecCut wd n hi lo).1.1 (M.vecCut wd n hi lo).1.2,.bool (M.vecCut wd n hi lo).2]) w'):vcall WN #[xX wd n,nI hi,nI lo] w K:=by
 refine ze {cuts:=[(8195,[])]} Tryz.func220 ?_;refine zj λb1 w1 a0 v a5 X=>?_;refine zi zX λb3 O a4 A a6 T=>?_;have Z:=v.trans A;have a7:=v.size;have D:=X.ext A;have j:∀f m,Ext O f->Same (· =b3) f m->Ext w m:=λf m h W=>Ext.then (Z.trans h) W λy hy=>by subst hy;omega
 have c:(M.vecCut wd n hi lo)=((0,0),false)->∀f,Ext O f->zT zg (oP b3 0) (xX 0 0) f λ_ m=>vlv zg (oP b3 0) m λr Q=>K (.tuple #[r,.bool false]) Q:=by
  intro e f b;refine stVec (T.ext b) λm L _ r5=>?_;rw[r5.lv rK];have:=i m (j _ _ b L);rwa[e] at this
 unfold M.vecCut at i c;refine zo (λu f=>u=[]/\Ext O f/\M.vok wd n=true/\0<=lo/\lo<=hi/\hi<wd) (λC Y=>?_) ?_
 .simp only[push_cast,D.ldAgg (t:=zg) zr];refine spec_VecOk_spec λf b=>?_;have E:=D.ext b;refine oZ ?_;refine zn (λp=>c ?_ _ b) (λp=>?_)
  .rw[y0 (by simp at p;simp[p])]
  refine zb (λU=>c (y0 oM) _ b) (λU=>?_);refine zb (λa2=>c (y0 oM) _ b) (λa2=>?_);simp only[push_cast,E.ld0];refine zb (λa3=>c (y0 oM) _ b) (λa3=>?_);exact Y _ _ ⟨rfl,b,by simpa using p,oM,oM,oM⟩
 .rintro u g f ⟨rfl,b,p,c1,c2,c3⟩;have E:=D.ext b;have r4:=T.ext b;obtain⟨k,a,rfl,rfl,k1,k4,ha⟩:=M.vok_nat p;obtain⟨l,rfl⟩:∃l:Nat,lo=l:=⟨lo.toNat,oM⟩;obtain⟨t,S⟩:∃t:Nat,hi-(l:Int)+1=t:=⟨(hi-l+1).toNat,oM⟩;have R:=pow16 k4 ha;have V:IntKind.i64.wrap (IntKind.i64.wrap (hi-(l:Int))+1)=(t:Int):=by rw[zk (x:=hi-l) oM oM,zk oM oM];omega
  simp only[push_cast,V];refine zd λm o _=>?_;have F:=E.ext o;simp only[push_cast,F.ld1,y1];refine l1Two_nat oM ?_;have B:M.cutM (a:Int) hi (l:Int)=((a/2^l%2^t:Nat):Int):=by
   unfold M.cutM;rw[S];simp
  rw[y3 ⟨p,c1,c2,c3⟩] at i;simp only[B,S] at i;have H:0<2^l:=P5 oM;have I:0<2^t:=P5 oM;obtain⟨q,hq⟩:∃q,q=2^l:=⟨_,rfl⟩;rw[<-hq] at H i⊢;have hd:=GA a q;have eQ:∀(w:World) (K:oK),qA .quo zV false (nI (a:Int)) (nI (q:Int)) w K=K (nI ((a/q:Nat):Int)) w:=λw K=>by
   rw[kg oM,show(a:Int).tdiv (q:Int)=((a/q:Nat):Int) from rfl,wrapN oM]
  obtain⟨d,G⟩:∃d,d=a/q:=⟨_,rfl⟩;rw[<-G] at eQ hd i;simp only[push_cast,F.ld1,y1,gh,eQ];refine l1Two_nat oM ?_;obtain⟨s,J⟩:∃s,s=2^t:=⟨_,rfl⟩;rw[<-J] at I i⊢;have eR:∀(w:World) (K:oK),qA .rem zV false (nI (d:Int)) (nI (s:Int)) w K=K (nI ((d%s:Nat):Int)) w:=λw K=>by
   rw[kT oM,show(d:Int).tmod (s:Int)=((d%s:Nat):Int) from rfl]
  obtain⟨z,hz⟩:∃z,z=d%s:=⟨_,rfl⟩;rw[<-hz] at i eR;simp only[push_cast,F.ld1,y1,gh,eQ,eR];refine stVec (r4.ext o) λQ N _ r6=>?_;rw[r6.lv rK];exact i Q (j _ _ (b.trans o) N)
end
section
variable {w:World} {K:oK} {F G:Nat->Prop}
theorem unKind_value_spec {s:ByteArray} {n:Int} {ev tv kv:Value} {t:M.Tm} {xs:List (Int×Int)} (R:TermR F w tv t) (S:PairsR G w kv xs) (Z:xs.length=1)
  (I:∀w',Ext w w'->K (nI (M.vecUn t.op (xs.getD 0 (0,0)).1 (xs.getD 0 (0,0)).2).1.2) w'):vcall jP #[KV s n,ev,tv,kv] w K:=by
 refine ze {cuts:=[(8194,[9])]} Tryz.func374 ?_;obtain⟨ksv,rfl,N⟩:=R;refine zj λb1 w1 J m O Y=>?_;refine zj λb2 w2 L o Q B=>?_;have z:=m.trans o;have hz:=z.size;refine zo (λu w'=> ∃b wd,u=[oP b 0]/\Ext w w'/\Blk w' b [nI wd,nI (M.vecUn t.op (xs.getD 0 (0,0)).1 (xs.getD 0 (0,0)).2).1.2] zg) (λC x=>?_) ?_
 .refine zd λV d _=>?_;have c:=z.trans d;have e:=S.ext c;have j:=B.ext d;have T:=c.size;simp(disch:=exact oS) only[push_cast,j.ld0,e.iaddr,e.load,y1,gQ];refine⟨?_,?_⟩
  .refine VecUn_spec λw4 f=>?_;have U:=f.size;simp only[push_cast,y1];refine zi zX λA W l a p k=>?_
   try simp only[push_cast,y1,gh]
   refine stVec k λX q _ E=>?_
   try simp only[push_cast,y1,gh]
   exact x _ _ ⟨_,_,rfl,Ext.then ((c.trans f).trans a) q λy v=>by subst v;omega,E⟩
  .refine zi zX λA W l a p k=>?_;have D:=j.ext a;have i:=e.ext a;simp(disch:=exact oS) only[push_cast,D.ld0,i.iaddr,i.load,y1,gh,gQ];refine VecUn_spec λX h=>?_;simp only[push_cast,y1];refine stVec (k.ext h) λw7 r _ H=>?_
   try simp only[push_cast,y1,gh]
   exact x _ _ ⟨_,_,rfl,Ext.then ((c.trans a).trans h) r λy v=>by subst v;omega,H⟩
 .rintro u g V ⟨b,wd,rfl,d,j⟩;simp only[push_cast,j.ld1];exact I _ d
theorem binKind_value_spec {s:ByteArray} {n:Int} {ev tv kv:Value} {t:M.Tm} {xs:List (Int×Int)} (R:TermR F w tv t) (S:PairsR G w kv xs) (Z:xs.length=2)
  (I:∀w',Ext w w'->K (nI (M.vecBin t.op (xs.getD 0 (0,0)).1 (xs.getD 0 (0,0)).2 (xs.getD 1 (0,0)).1 (xs.getD 1 (0,0)).2).1.2) w'):vcall jy #[KV s n,ev,tv,kv] w K:=by
 refine ze {cuts:=[(8194,[9])]} Tryz.func413 ?_;obtain⟨ksv,rfl,N⟩:=R;refine zj λb1 w1 J m O Y=>?_;refine zj λb2 w2 L o Q B=>?_;have z:=m.trans o;have hz:=z.size;refine zo (λu w'=> ∃b wd,u=[oP b 0]/\Ext w w'/\Blk w' b [nI wd,nI (M.vecBin t.op (xs.getD 0 (0,0)).1 (xs.getD 0 (0,0)).2 (xs.getD 1 (0,0)).1 (xs.getD 1 (0,0)).2).1.2] zg) (λC x=>?_) ?_
 .refine zd λV d _=>?_;have c:=z.trans d;have e:=S.ext c;have j:=B.ext d;have T:=c.size;simp(disch:=exact oS) only[push_cast,j.ld0,e.iaddr,e.load,y1,gQ];refine⟨?_,?_⟩
  .refine VecBin_spec λw4 f=>?_;have U:=f.size;simp only[push_cast,y1];refine zi zX λA W l a p k=>?_
   try simp only[push_cast,y1,gh]
   refine stVec k λX q _ E=>?_
   try simp only[push_cast,y1,gh]
   exact x _ _ ⟨_,_,rfl,Ext.then ((c.trans f).trans a) q λy v=>by subst v;omega,E⟩
  .refine zi zX λA W l a p k=>?_;have D:=j.ext a;have i:=e.ext a;simp(disch:=exact oS) only[push_cast,D.ld0,i.iaddr,i.load,y1,gh,gQ];refine VecBin_spec λX h=>?_;simp only[push_cast,y1];refine stVec (k.ext h) λw7 r _ H=>?_
   try simp only[push_cast,y1,gh]
   exact x _ _ ⟨_,_,rfl,Ext.then ((c.trans a).trans h) r λy v=>by subst v;omega,H⟩
 .rintro u g V ⟨b,wd,rfl,d,j⟩;simp only[push_cast,j.ld1];exact I _ d
theorem catKind_value_spec {s:ByteArray} {n:Int} {ev tv kv:Value} {t:M.Tm} {xs:List (Int×Int)} (R:TermR F w tv t) (S:PairsR G w kv xs) (Z:xs.length=2)
  (I:∀w',Ext w w'->K (nI (M.vecBin t.op (xs.getD 0 (0,0)).1 (xs.getD 0 (0,0)).2 (xs.getD 1 (0,0)).1 (xs.getD 1 (0,0)).2).1.2) w'):vcall jw #[KV s n,ev,tv,kv] w K:=by
 refine ze {cuts:=[(8194,[9])]} Tryz.func380 ?_;obtain⟨ksv,rfl,N⟩:=R;refine zj λb1 w1 J m O Y=>?_;refine zj λb2 w2 L o Q B=>?_;have z:=m.trans o;have hz:=z.size;refine zo (λu w'=> ∃b wd,u=[oP b 0]/\Ext w w'/\Blk w' b [nI wd,nI (M.vecBin t.op (xs.getD 0 (0,0)).1 (xs.getD 0 (0,0)).2 (xs.getD 1 (0,0)).1 (xs.getD 1 (0,0)).2).1.2] zg) (λC x=>?_) ?_
 .refine zd λV d _=>?_;have c:=z.trans d;have e:=S.ext c;have j:=B.ext d;have T:=c.size;simp(disch:=exact oS) only[push_cast,j.ld0,e.iaddr,e.load,y1,gQ];refine⟨?_,?_⟩
  .refine VecBin_spec λw4 f=>?_;have U:=f.size;simp only[push_cast,y1];refine zi zX λA W l a p k=>?_
   try simp only[push_cast,y1,gh]
   refine stVec k λX q _ E=>?_
   try simp only[push_cast,y1,gh]
   exact x _ _ ⟨_,_,rfl,Ext.then ((c.trans f).trans a) q λy v=>by subst v;omega,E⟩
  .refine zi zX λA W l a p k=>?_;have D:=j.ext a;have i:=e.ext a;simp(disch:=exact oS) only[push_cast,D.ld0,i.iaddr,i.load,y1,gh,gQ];refine VecBin_spec λX h=>?_;simp only[push_cast,y1];refine stVec (k.ext h) λw7 r _ H=>?_
   try simp only[push_cast,y1,gh]
   exact x _ _ ⟨_,_,rfl,Ext.then ((c.trans a).trans h) r λy v=>by subst v;omega,H⟩
 .rintro u g V ⟨b,wd,rfl,d,j⟩;simp only[push_cast,j.ld1];exact I _ d
theorem cutKind_value_spec {s:ByteArray} {n:Int} {ev tv kv:Value} {t:M.Tm} {xs:List (Int×Int)} (S:TermR F w tv t) (T:PairsR G w kv xs) (hl:xs.length=1)
  (J:∀w',Ext w w'->K (nI (M.vecCut (xs.getD 0 (0,0)).1 (xs.getD 0 (0,0)).2 t.a t.b).1.2) w'):vcall ju #[KV s n,ev,tv,kv] w K:=by
 refine ze {cuts:=[(8194,[9])]} Tryz.func405 ?_;obtain⟨ksv,rfl,O⟩:=S;refine zj λb1 w1 L o Q Z=>?_;refine zj λb2 w2 N p R E=>?_;have B:=o.trans p;have hz:=B.size;refine zo (λu w'=> ∃b wd,u=[oP b 0]/\Ext w w'/\Blk w' b [nI wd,nI (M.vecCut (xs.getD 0 (0,0)).1 (xs.getD 0 (0,0)).2 t.a t.b).1.2] zg) (λC A=>?_) ?_
 .refine zd λW e _=>?_;have d:=B.trans e;have f:=T.ext d;have h:=E.ext e;have U:=d.size;simp(disch:=exact oS) only[push_cast,h.ld1,h.ld2,f.iaddr,f.load,y1,gQ];refine⟨?_,?_⟩
  .refine VecCut_spec λw4 i=>?_;have V:=i.size;simp only[push_cast,y1];refine zi zX λD X m c q l=>?_
   try simp only[push_cast,y1,gh]
   refine stVec l λY r _ H=>?_
   try simp only[push_cast,y1,gh]
   exact A _ _ ⟨_,_,rfl,Ext.then ((d.trans i).trans c) r λy x=>by subst x;omega,H⟩
  .refine zi zX λD X m c q l=>?_;have z:=h.ext c;have k:=f.ext c;simp(disch:=exact oS) only[push_cast,z.ld1,z.ld2,k.iaddr,k.load,y1,gh,gQ];refine VecCut_spec λY j=>?_;simp only[push_cast,y1];refine stVec (l.ext j) λw7 v _ I=>?_
   try simp only[push_cast,y1,gh]
   exact A _ _ ⟨_,_,rfl,Ext.then ((d.trans c).trans j) v λy x=>by subst x;omega,I⟩
 .rintro u g W ⟨b,wd,rfl,e,h⟩;simp only[push_cast,h.ld1];exact J _ e
theorem cmpKind_value_spec {s:ByteArray} {n:Int} {ev tv kv:Value} {t:M.Tm} {xs:List (Int×Int)} (p:TermR F w tv t) (q:PairsR G w kv xs) (u:xs.length=2)
  (i:∀w',Ext w w'->K (nI (M.b2i (M.vecCmp t.op (xs.getD 0 (0,0)).1 (xs.getD 0 (0,0)).2 (xs.getD 1 (0,0)).1 (xs.getD 1 (0,0)).2).1)) w'):vcall jv #[KV s n,ev,tv,kv] w K:=by
 refine ze {} Tryz.func396 ?_;obtain⟨ksv,rfl,l⟩:=p;refine zj λb1 w1 j d m r=>?_;refine zj λb2 w2 k e o g=>?_;refine zd λv b _=>?_;have a:=(d.trans e).trans b;have c:=q.ext a;have h:=g.ext b;simp(disch:=exact oS) only[push_cast,h.ld0,c.iaddr,c.load,y1,gQ];refine VecCmp_spec λx f=>?_;simp only[push_cast,y1];exact YP (i _ (a.trans f))
theorem Xn {s:ByteArray} {n:Int} {ev tv kv:Value} {t:M.Tm} (k:TermR F w tv t)
  (e:∀w',Ext w w'->K (nI t.b) w'):vcall jo #[KV s n,ev,tv,kv] w K:=by
 refine ze {} Tryz.func400 ?_;obtain⟨ksv,rfl,h⟩:=k;refine zj λb1 w1 f a i l=>?_;refine zj λb2 w2 g c j d=>?_;simp only[push_cast,d.ld2];exact e _ (a.trans c)
theorem qR0:kz0 kz .string zV:=⟨_,YA,rK⟩
theorem YS {s:ByteArray} {n:Int} {tv kv:Value} {t:M.Tm} {mb:Nat} {f:List (Value×Value)} {x:Int} (l:TermR F w tv t) (hm:MapF .string w mb f) (c:(Value.string t.s,nI x)∈f)
  (e:∀w',Ext w w'->K (nI x) w'):vcall jd #[KV s n,.map (some mb),tv,kv] w K:=by
 refine ze {} Tryz.func402 ?_;obtain⟨ksv,rfl,i⟩:=l;refine zj λb1 w1 g a j m=>?_;refine zj λb2 w2 h b k d=>?_;simp only[push_cast,d.ld3];rw[Xj qR0 (hm.ext (a.trans b)) (XO _) c];exact e _ (a.trans b)
theorem ifKind_value_spec {s:ByteArray} {n:Int} {ev tv kv:Value} {t:M.Tm} {xs:List (Int×Int)} (l:TermR F w tv t) (m:PairsR G w kv xs) (q:xs.length=3)
  (f:∀w',Ext w w'->K (nI (if(xs.getD 0 (0,0)).2=1 then(xs.getD 1 (0,0)).2 else(xs.getD 2 (0,0)).2)) w'):vcall jR #[KV s n,ev,tv,kv] w K:=by
 refine ze {} Tryz.func408 ?_;obtain⟨ksv,rfl,i⟩:=l;refine zj λb1 w1 g c j o=>?_;refine zj λb2 w2 h d k p=>?_;have b:=m.ext (c.trans d);have e:=f _ (c.trans d)
 try simp(disch:=exact oS) only[push_cast,b.iaddr]
 try simp(disch:=exact oS) only[push_cast,b.load1]
 refine zb (λa=>?_) (λa=>?_)
 .rw[y3 a] at e
  try simp(disch:=exact oS) only[push_cast,b.iaddr]
  try simp(disch:=exact oS) only[push_cast,b.load1]
  exact e
 .rw[y0 a] at e
  try simp(disch:=exact oS) only[push_cast,b.iaddr]
  try simp(disch:=exact oS) only[push_cast,b.load1]
  exact e
def W7 (f:Value) (g:List (Int×Int)->Bool) (n:Nat):Prop:=∀(w:World) (G:Nat->Prop) (kv:Value) (xs:List (Int×Int)) (K:oK),PairsR G w kv xs->xs.length=n->K (.bool (g xs)) w->vcallv f #[kv] w K
theorem Xg {s:ByteArray} {n:Int} {f ev tv kv:Value} {t:M.Tm} {g:List (Int×Int)->Bool} {m:Nat} {xs:List (Int×Int)} (j:W7 f g m) (q:TermR F w tv t) (r:PairsR G w kv xs) (l:xs.length=m)
  (e:∀w',Ext w w'->K (nI (M.b2i (g xs))) w'):vcall jg #[.agg ⟨[.string s,nI n,f]⟩,ev,tv,kv] w K:=by
 refine ze {} Tryz.func410 ?_;obtain⟨ksv,rfl,k⟩:=q;refine zj λb1 w1 h b o c=>?_;refine zj λb2 w2 i a p u=>?_;have d:=c.ext a;simp only[push_cast,d.ld2];refine j _ _ _ _ _ (r.ext (b.trans a)) l ?_;exact YP (e _ (b.trans a))
theorem qX0:W7 (.func (.func Vf) #[] #[]) (λ_=>true) 0:=by
 intro w G kv xs K c b a;refine oZ ?_;refine ze {} Tryz.func79 ?_;exact a
theorem kinds2_fn:W7 (.func (.func Ve) #[] #[]) (λxs=>decide ((xs.getD 0 (0,0)).2=0)) 1:=by
 intro w G kv xs K a c b;refine oZ ?_;refine ze {} Tryz.func80 ?_
 try simp(disch:=exact oS) only[push_cast,a.iaddr]
 try simp(disch:=exact oS) only[push_cast,a.load1]
 exact b
theorem kinds3_fn:W7 (.func (.func Vd) #[] #[]) (λxs=>decide ((xs.getD 0 (0,0)).2=1)&&decide ((xs.getD 1 (0,0)).2=1)) 2:=by
 intro w G kv xs K b d c;refine oZ ?_;refine ze {} Tryz.func81 ?_
 try simp(disch:=exact oS) only[push_cast,b.iaddr]
 try simp(disch:=exact oS) only[push_cast,b.load1]
 refine zb (λa=>?_) (λa=>?_)
 .try simp(disch:=exact oS) only[push_cast,b.iaddr]
  try simp(disch:=exact oS) only[push_cast,b.load1]
  simpa only[gi a,pJ] using c
 .simpa only[gg a,GM] using c
theorem kinds4_fn:W7 (.func (.func Vb) #[] #[]) (λxs=>decide ((xs.getD 0 (0,0)).2=1)||decide ((xs.getD 1 (0,0)).2=1)) 2:=by
 intro w G kv xs K b d c;refine oZ ?_;refine ze {} Tryz.func82 ?_
 try simp(disch:=exact oS) only[push_cast,b.iaddr]
 try simp(disch:=exact oS) only[push_cast,b.load1]
 refine zb (λa=>?_) (λa=>?_)
 .simpa only[gi a,Bool.true_or] using c
 .try simp(disch:=exact oS) only[push_cast,b.iaddr]
  try simp(disch:=exact oS) only[push_cast,b.load1]
  simpa only[gg a,P7] using c
end
section
variable {w:World} {K:oK} {F G:Nat->Prop}
def EnvM (w:World) (mb:Nat) (ds:List M.Dcl) (env:List Int):Prop:= ∃f,MapF .string w mb f/\∀s,0<=M.findD ds s->(Value.string s,nI (env.getD (M.findD ds s).toNat 0))∈f
theorem EnvM.ext {mb:Nat} {ds:List M.Dcl} {env:List Int} {w':World} (h:EnvM w mb ds env) (he:Ext w w'):EnvM w' mb ds env:=by
 obtain⟨f,a,b⟩:=h;exact⟨f,a.ext he,b⟩
def kTy (o:Int):TypeId:=if o<=2 then zO else if o<=13 then zG else if o=14 then zK else if o<=17 then zF else if o=20 then zM else if o=21 then zE else if o=22 then zJ else if o=23 then zR else zy
structure KindR (o:Int) (v:Value):Prop where
 word:∃(s:ByteArray) (m:Int) (r:List Value),v= .iface (kTy o) (.agg ⟨.string s:: nI m::r⟩)/\(o<24->r=[])/\(24<=o->∃f,r=[f]/\f.oneCell'=true)/\(o=20\/o=21\/o=24\/s.data.toList=M.wordL o)
 iface:∃ty x,v= .iface ty x
 kids:∀(w:World) (K:oK),(∀w',Ext w w'->K (nI (M.arity o)) w')->vinvoke v mn_kids #[] w K
 sort:∀(w:World) (K:oK) (F G H:Nat->Prop) (dv tv kv:Value) (ds:List M.Dcl) (t:M.Tm) (xs:List Int),t.op=o->DclsR F w dv ds->TermR G w tv t->Ints H w kv xs->(xs.length:Int)=M.arity o->(∀i,-1<=xs.getD i 0/\xs.getD i 0<=4)->
  (∀w',Ext w w'->K (nI (M.sortK ds t xs)) w')->vinvoke v k5 #[dv,tv,kv] w K
 value:∀(w:World) (K:oK) (G H:Nat->Prop) (ev tv kv:Value) (ds:List M.Dcl) (env:List Int) (t:M.Tm) (xs:List (Int×Int)),t.op=o->(t.op=21->∃mb,ev= .map (some mb)/\EnvM w mb ds env)->TermR G w tv t->PairsR H w kv xs->(xs.length:Int)=M.arity o->(∀i,i<xs.length->M.inS (xs.getD i (0,0)).1 (xs.getD i (0,0)).2)->
  M.sortK ds t (xs.map (·.1))≠ -1->(∀w',Ext w w'->K (nI (M.valK ds env t xs)) w')->vinvoke v qG #[ev,tv,kv] w K
section
variable {ds:List M.Dcl} {env:List Int} {t:M.Tm} {xs:List Int} {ys:List (Int×Int)}
theorem kq {i:Nat} (h:i<ys.length):(ys.map (·.1)).getD i 0=(ys.getD i (0,0)).1:=M.getD_map _ h _ _
theorem kind_un {o:Int} {s:ByteArray} (d:o=1\/o=2) (hw:s.data.toList=M.wordL o):KindR o (.iface zO (KV s 1)) where
 word:=⟨_,_,_,by(rw[show kTy o=zO by unfold kTy;rw[y3 oM]];try rfl),λ_=>rfl,λh=>oM,.inr (.inr (.inr hw))⟩
 iface:=⟨_,_,rfl⟩
 kids:=λw K b=>zL (X6 _ _) (qI λw' he=>by have:=b w' he;rcases d with rfl|rfl<;>exact this)
 sort:=λw K F G H dv tv kv ds t xs f l e g c i b=>by
  have a:xs.length=1:=by rcases d with rfl|rfl<;>simp[M.arity] at c<;>omega
  refine zL (X5 _ _) (unKind_sort_spec e g a λw' he=>?_);have:=b w' he;unfold M.sortK at this;rwa[y0 oM,y0 oM,y0 oM,y0 oM,y0 oM,y3 oM] at this
 value:=λw K G H mb tv kv ds env t ys f he e g c i hs b=>by
  have a:ys.length=1:=by rcases d with rfl|rfl<;>simp[M.arity] at c<;>omega
  refine zL (Ym _ _) (unKind_value_spec e g a λw' he=>?_);have:=b w' he;unfold M.sortK at hs;rw[y0 oM,y0 oM,y0 oM,y0 oM,y0 oM,y3 oM,kq oM] at hs;have j:0<(ys.getD 0 (0,0)).1:=by
   by_cases h:0<(ys.getD 0 (0,0)).1
   .exact h
   .rw[y0 h] at hs;exact absurd rfl hs
  have k:=M.inS_pos (i 0 oM) j;unfold M.valK at this;rw[y0 oM,y0 oM,y0 oM,y0 oM,y0 oM,y0 oM,y0 oM,y0 oM,y3 oM] at this;unfold M.vecUn;rw[y3 ⟨k,oM⟩];exact this
theorem kind_bin {o:Int} {s:ByteArray} (m:3<=o) (k:o<=13) (hw:s.data.toList=M.wordL o):KindR o (.iface zG (KV s 2)) where
 word:=⟨_,_,_,by(rw[show kTy o=zG by unfold kTy;rw[y0 oM,y3 oM]];try rfl),λ_=>rfl,λh=>oM,.inr (.inr (.inr hw))⟩
 iface:=⟨_,_,rfl⟩
 kids:=λw K b=>zL (Yz _ _) (qI λw' he=>by
  have:=b w' he;unfold M.arity at this;rwa[y0 oM,y0 oM,y0 oM,y0 oM,y3 oM] at this)
 sort:=λw K F G H dv tv kv ds t xs f n e i c d b=>by
  have a:xs.length=2:=by
   unfold M.arity at c;rw[y0 oM,y0 oM,y0 oM,y0 oM,y3 oM] at c;omega
  refine zL (Yy _ _) (binKind_sort_spec e i a λw' he=>?_);have:=b w' he;unfold M.sortK at this;rwa[y0 oM,y0 oM,y0 oM,y0 oM,y0 oM,y0 oM,y0 oM,y0 oM] at this
 value:=λw K G H mb tv kv ds env t ys f he e i c d hs b=>by
  have a:ys.length=2:=by
   unfold M.arity at c;rw[y0 oM,y0 oM,y0 oM,y0 oM,y3 oM] at c;omega
  refine zL (ZR _ _) (binKind_value_spec e i a λw' he=>?_);have:=b w' he;unfold M.sortK at hs;rw[y0 oM,y0 oM,y0 oM,y0 oM,y0 oM,y0 oM,y0 oM,y0 oM,kq oM,kq oM] at hs;have j:0<(ys.getD 0 (0,0)).1/\(ys.getD 0 (0,0)).1=(ys.getD 1 (0,0)).1:=by
   by_cases h:0<(ys.getD 0 (0,0)).1/\(ys.getD 0 (0,0)).1=(ys.getD 1 (0,0)).1
   .exact h
   .rw[y0 h] at hs;exact absurd rfl hs
  have l:=M.inS_pos (d 0 oM) j.1;have g:=M.inS_pos (d 1 oM) oM;unfold M.valK at this;rw[y0 oM,y0 oM,y0 oM,y0 oM,y0 oM,y0 oM,y0 oM,y0 oM,y0 oM,y0 oM,y0 oM] at this;unfold M.vecBin;rw[y3 ⟨l,g⟩,y0 oM,y3 ⟨oM,oM,j.2⟩];exact this
theorem kind_cat {s:ByteArray} (hw:s.data.toList=M.wordL 14):KindR 14 (.iface zK (KV s 2)) where
 word:=⟨_,_,_,rfl,λ_=>rfl,λh=>oM,.inr (.inr (.inr hw))⟩
 iface:=⟨_,_,rfl⟩
 kids:=λw K b=>zL (Yw _ _) (qI λw' he=>b w' he)
 sort:=λw K F G H dv tv kv ds t xs c l g j e d b=>by
  have a:xs.length=2:=by simp[M.arity] at e;omega
  refine zL (Yv _ _) (catKind_sort_spec g j a d λw' he=>?_);have:=b w' he;unfold M.sortK at this;rwa[y0 oM,y0 oM,y0 oM,y0 oM,y0 oM,y0 oM,y3 oM] at this
 value:=λw K G H mb tv kv ds env t ys c he g j e d hs b=>by
  have a:ys.length=2:=by simp[M.arity] at e;omega
  refine zL (ZN _ _) (catKind_value_spec g j a λw' he=>?_);have:=b w' he;unfold M.sortK at hs;rw[y0 oM,y0 oM,y0 oM,y0 oM,y0 oM,y0 oM,y3 oM,kq oM,kq oM] at hs;have f:0<(ys.getD 0 (0,0)).1/\0<(ys.getD 1 (0,0)).1/\(ys.getD 0 (0,0)).1+(ys.getD 1 (0,0)).1<=4:=by
   by_cases h:0<(ys.getD 0 (0,0)).1/\0<(ys.getD 1 (0,0)).1/\(ys.getD 0 (0,0)).1+(ys.getD 1 (0,0)).1<=4
   .exact h
   .rw[y0 h] at hs;exact absurd rfl hs
  have k:=M.inS_pos (d 0 oM) f.1;have i:=M.inS_pos (d 1 oM) f.2.1;unfold M.valK at this;rw[y0 oM,y0 oM,y0 oM,y0 oM,y0 oM,y0 oM,y0 oM,y0 oM,y0 oM,y3 oM] at this;unfold M.vecBin;rw[y3 ⟨k,i⟩,y3 c,y3 f.2.2];exact this
theorem kind_cmp {o:Int} {s:ByteArray} (m:15<=o) (k:o<=17) (hw:s.data.toList=M.wordL o):KindR o (.iface zF (KV s 2)) where
 word:=⟨_,_,_,by(rw[show kTy o=zF by unfold kTy;rw[y0 oM,y0 oM,y0 oM,y3 oM]];try rfl),λ_=>rfl,λh=>oM,.inr (.inr (.inr hw))⟩
 iface:=⟨_,_,rfl⟩
 kids:=λw K b=>zL (Yt _ _) (qI λw' he=>by
  have:=b w' he;unfold M.arity at this;rwa[y0 oM,y0 oM,y0 oM,y0 oM,y3 oM] at this)
 sort:=λw K F G H dv tv kv ds t xs f n e i c d b=>by
  have a:xs.length=2:=by
   unfold M.arity at c;rw[y0 oM,y0 oM,y0 oM,y0 oM,y3 oM] at c;omega
  refine zL (Ys _ _) (cmpKind_sort_spec e i a λw' he=>?_);have:=b w' he;unfold M.sortK at this;rwa[y0 oM,y0 oM,y0 oM,y0 oM,y0 oM,y0 oM,y0 oM,y3 oM] at this
 value:=λw K G H mb tv kv ds env t ys f he e i c d hs b=>by
  have a:ys.length=2:=by
   unfold M.arity at c;rw[y0 oM,y0 oM,y0 oM,y0 oM,y3 oM] at c;omega
  refine zL (ZM _ _) (cmpKind_value_spec e i a λw' he=>?_);have:=b w' he;unfold M.sortK at hs;rw[y0 oM,y0 oM,y0 oM,y0 oM,y0 oM,y0 oM,y0 oM,y3 oM,kq oM,kq oM] at hs;have j:0<(ys.getD 0 (0,0)).1/\(ys.getD 0 (0,0)).1=(ys.getD 1 (0,0)).1:=by
   by_cases h:0<(ys.getD 0 (0,0)).1/\(ys.getD 0 (0,0)).1=(ys.getD 1 (0,0)).1
   .exact h
   .rw[y0 h] at hs;exact absurd rfl hs
  have l:=M.inS_pos (d 0 oM) j.1;have g:=M.inS_pos (d 1 oM) oM;unfold M.valK at this;rw[y0 oM,y0 oM,y0 oM,y0 oM,y0 oM,y0 oM,y0 oM,y0 oM,y0 oM,y0 oM,y3 oM] at this;unfold M.vecCmp;rw[y3 ⟨l,g,j.2,oM,oM⟩];exact this
theorem kind_vec {s:ByteArray}:KindR 20 (.iface zM (KV s 0)) where
 word:=⟨_,_,_,rfl,λ_=>rfl,λh=>oM,.inl rfl⟩
 iface:=⟨_,_,rfl⟩
 kids:=λw K b=>zL (Yl _ _) (qI λw' he=>b w' he)
 sort:=λw K F G H dv tv kv ds t xs a g c f d e b=>by
  refine zL (Yk _ _) (Q7 c λw' he=>?_);have:=b w' he;unfold M.sortK at this;rwa[y3 a] at this
 value:=λw K G H mb tv kv ds env t ys a he c f d e hs b=>by
  refine zL (ZI _ _) (Xn c λw' he=>?_);have:=b w' he;unfold M.valK at this;rwa[y3 a] at this
theorem kind_name {s:ByteArray}:KindR 21 (.iface zE (KV s 0)) where
 word:=⟨_,_,_,rfl,λ_=>rfl,λh=>oM,.inr (.inl rfl)⟩
 iface:=⟨_,_,rfl⟩
 kids:=λw K b=>zL (ZK _ _) (qI λw' he=>b w' he)
 sort:=λw K F G H dv tv kv ds t xs a g e k i j b=>by
  refine zL (ZJ _ _) (nameKind_sort_spec e g λw' he=>?_);have:=b w' he;unfold M.sortK at this;rwa[y0 oM,y3 a] at this
 value:=λw K G H mb tv kv ds env t ys a he e k i j hs b=>by
  obtain⟨mb,rfl,f,hm,d⟩:=he a;unfold M.sortK at hs;rw[y0 oM,y3 a] at hs;have c:0<=M.findD ds t.s:=by
   by_cases h:M.findD ds t.s<0
   .rw[y3 h] at hs;exact absurd rfl hs
   .omega
  refine zL (Zl _ _) (YS e hm (d _ c) λw' he=>?_);have:=b w' he;unfold M.valK at this;rwa[y0 oM,y3 a] at this
theorem kind_cut {s:ByteArray} (hw:s.data.toList=M.wordL 22):KindR 22 (.iface zJ (KV s 1)) where
 word:=⟨_,_,_,rfl,λ_=>rfl,λh=>oM,.inr (.inr (.inr hw))⟩
 iface:=⟨_,_,rfl⟩
 kids:=λw K d=>zL (Yq _ _) (qI λw' he=>d w' he)
 sort:=λw K F G H dv tv kv ds t xs i m g j e f d=>by
  have c:xs.length=1:=by simp[M.arity] at e;omega
  refine zL (Yp _ _) (cutKind_sort_spec g j c f λw' he=>?_);have:=d w' he;unfold M.sortK at this;rwa[y0 oM,y0 oM,y0 oM,y0 oM,y3 oM] at this
 value:=λw K G H mb tv kv ds env t ys i he g j e f hs d=>by
  have c:ys.length=1:=by simp[M.arity] at e;omega
  refine zL (ZL _ _) (cutKind_value_spec g j c λw' he=>?_);have:=d w' he;unfold M.sortK at hs;rw[y0 oM,y0 oM,y0 oM,y0 oM,y3 oM,kq oM] at hs;have k:0<=t.b/\t.b<=t.a/\t.a<(ys.getD 0 (0,0)).1:=by
   by_cases h:0<=t.b/\t.b<=t.a/\t.a<(ys.getD 0 (0,0)).1
   .exact h
   .rw[y0 h] at hs;exact absurd rfl hs
  have l:=M.inS_pos (f 0 oM) oM;unfold M.valK at this;rw[y0 oM,y0 oM,y0 oM,y0 oM,y0 oM,y0 oM,y0 oM,y3 oM] at this;unfold M.vecCut;rw[y3 ⟨l,k⟩];exact this
theorem kind_if {s:ByteArray} (hw:s.data.toList=M.wordL 23):KindR 23 (.iface zR (KV s 3)) where
 word:=⟨_,_,_,rfl,λ_=>rfl,λh=>oM,.inr (.inr (.inr hw))⟩
 iface:=⟨_,_,rfl⟩
 kids:=λw K b=>zL (X9 _ _) (qI λw' he=>b w' he)
 sort:=λw K F G H dv tv kv ds t xs e i d f c g b=>by
  have a:xs.length=3:=by simp[M.arity] at c;omega
  refine zL (X8 _ _) (ifKind_sort_spec d f a λw' he=>?_);have:=b w' he;unfold M.sortK at this;rwa[y0 oM,y0 oM,y0 oM,y3 oM] at this
 value:=λw K G H mb tv kv ds env t ys e he d f c g hs b=>by
  have a:ys.length=3:=by simp[M.arity] at c;omega
  refine zL (Yn _ _) (ifKind_value_spec d f a λw' he=>?_);have:=b w' he;unfold M.valK at this;rwa[y0 oM,y0 oM,y0 oM,y0 oM,y0 oM,y0 oM,y3 oM] at this
theorem kind_bool {o:Int} {s:ByteArray} {f:Value} {g:List (Int×Int)->Bool} {m:Nat} (q:24<=o) (i:M.arity o=m) (j:W7 f g m) (c:f.oneCell'=true) (hw:o=24\/s.data.toList=M.wordL o) (k:∀ds env (t:M.Tm) ys,t.op=o->M.valK ds env t ys=M.b2i (g ys)):
  KindR o (.iface zy (.agg ⟨[.string s,nI m,f]⟩)) where
 word:=⟨_,_,_,by rw[show kTy o=zy by unfold kTy;rw[y0 oM,y0 oM,y0 oM,y0 oM,y0 oM,y0 oM,y0 oM,y0 oM]],λh=>oM,λ_=>⟨_,rfl,c⟩,.inr (.inr hw)⟩
 iface:=⟨_,_,rfl⟩
 kids:=λw K a=>zL (ZQ _ _ _) (qI λw' he=>by have:=a w' he;rwa[i] at this)
 sort:=λw K F G H dv tv kv ds t xs b p d e l n a=>by
  refine zL (ZP _ _ _) (XY d e λw' he=>?_);have:=a w' he;unfold M.sortK at this;rwa[y0 oM,y0 oM,y3 oM] at this
 value:=λw K G H mb tv kv ds env t ys b he d e l n hs a=>by
  refine zL (Zm _ _ _) (Xg j d e oM λw' he=>?_);have:=a w' he;rwa[k ds env t ys b] at this
end
def KindsR (w:World) (mb:Nat):Prop:= ∃f,MapF (.int .i64) w mb f/\(∀o,0<=M.arity o->∃v,(nI o,v)∈f/\KindR o v)/\∀p,p∈f->∃o,p.1= nI o/\0<=M.arity o
theorem KindsR.ext {mb:Nat} {w':World} (h:KindsR w mb) (he:Ext w w'):KindsR w' mb:=by
 obtain⟨f,a,b⟩:=h;exact⟨f,a.ext he,b⟩
end
section
variable {w:World} {K:oK} {F G:Nat->Prop}
theorem jH:kz0 zQ (.int .i64) yN0:=⟨_,Z9,rK⟩
def KS (w0 w:World) (b:Nat) (S:Int->Prop):Prop:=Ext w0 w/\w0.heap.size<=b/\∃f,MapF (.int .i64) w b f/\(∀o,S o->∃v,(nI o,v)∈f/\KindR o v)/\∀p,p∈f->∃o,p.1= nI o/\S o
theorem KS.set {w0 w:World} {b:Nat} {S:Int->Prop} {o:Int} {v:Value} (h:KS w0 w b S) (q: ¬S o) (r:KindR o v) (m:∀w',KS w0 w' b (λx=>x=o\/S x)->Same (· =b) w w'->K undef w'):
  UY zQ (.map (some b)) (nI o) v w K:=by
 obtain⟨he,k,f,hm,l,j⟩:=h;refine qh0 jH hm (xy o) (λx i=>?_) λw' g hs _=>m w' ⟨Ext.then he hs λy s=>by subst s;exact k,k,_,g,λx i=>?_,λp c=>?_⟩ hs
 .obtain⟨o',a,d⟩:=j _ i;cases a;exact q d
 .by_cases e:x=o
  .subst e;exact⟨v,gn.2 (.inr (gu.2 rfl)),r⟩
  .obtain⟨u,hu,n⟩:=l x (i.resolve_left e);exact⟨u,gn.2 (.inl hu),n⟩
 .rcases gn.1 c with c|c
  .obtain⟨o',a,d⟩:=j _ c;exact⟨o',a,.inr d⟩
  .rw[gu.1 c];exact⟨o,rfl,.inl rfl⟩
theorem KS.ext {w0 w w':World} {b:Nat} {S:Int->Prop} (h:KS w0 w b S) (he:Ext w w'):KS w0 w' b S:=by
 obtain⟨a,c,f,hm,r⟩:=h;exact⟨a.trans he,c,f,hm.ext he,r⟩
theorem KS.congr {w0 w:World} {b:Nat} {S S':Int->Prop} (h:KS w0 w b S) (a:∀x,S x↔S' x):KS w0 w b S':=by
 have:S=S':=funext λx=>propext (a x);subst this;exact h
theorem KS.kinds {w0 w:World} {b:Nat} {S:Int->Prop} (h:KS w0 w b S) (a:∀o,S o↔0<=M.arity o):KindsR w b:=by
 obtain⟨he,k,f,hm,c,d⟩:=h;refine⟨f,hm,λo i=>c o ((a o).2 i),λp j=>?_⟩;obtain⟨o,e,g⟩:=d p j;exact⟨o,e,(a o).1 g⟩
@[push_cast] theorem bd_named (s:ByteArray) (n:Int):yz qz [(0,.string s),(1,nI n)] w K=K (KV s n) w:=zS yd0 (us:=[[.string s],[nI n]]) rfl rfl
@[push_cast] theorem YQ0 (s:ByteArray) (n:Int):yz zO [(0,KV s n)] w K=K (KV s n) w:=zS UO (us:=[[.string s,nI n]]) rfl rfl
@[push_cast] theorem Ym0 (s:ByteArray) (n:Int):yz zG [(0,KV s n)] w K=K (KV s n) w:=zS VQ (us:=[[.string s,nI n]]) rfl rfl
@[push_cast] theorem Yl0 (s:ByteArray) (n:Int):yz zK [(0,KV s n)] w K=K (KV s n) w:=zS VM (us:=[[.string s,nI n]]) rfl rfl
@[push_cast] theorem Yk0 (s:ByteArray) (n:Int):yz zF [(0,KV s n)] w K=K (KV s n) w:=zS VK (us:=[[.string s,nI n]]) rfl rfl
@[push_cast] theorem Yj0 (s:ByteArray) (n:Int):yz zJ [(0,KV s n)] w K=K (KV s n) w:=zS VJ (us:=[[.string s,nI n]]) rfl rfl
@[push_cast] theorem YS0 (s:ByteArray) (n:Int):yz zR [(0,KV s n)] w K=K (KV s n) w:=zS UQ (us:=[[.string s,nI n]]) rfl rfl
@[push_cast] theorem Yi0:yz zM [] w K=K (KV ⟨#[]⟩ 0) w:=zS VI (us:=[]) rfl rfl
@[push_cast] theorem Y40:yz zE [] w K=K (KV ⟨#[]⟩ 0) w:=zS KC (us:=[]) rfl rfl
@[push_cast] theorem Y70 (s:ByteArray) (n:Int) (f:Fn) (a c:Array Value):yz zy [(0,KV s n),(1,.func f a c)] w K=K (.agg ⟨[.string s,nI n,.func f a c]⟩) w:=zS KD (us:=[[.string s,nI n],[.func f a c]]) rfl rfl
theorem val24 (ds:List M.Dcl) (env:List Int) (t:M.Tm) (ys:List (Int×Int)) (h:t.op=24):M.valK ds env t ys=M.b2i true:=by simp[M.valK,h,M.b2i]
theorem val25 (ds:List M.Dcl) (env:List Int) (t:M.Tm) (ys:List (Int×Int)) (h:t.op=25):M.valK ds env t ys=M.b2i (decide ((ys.getD 0 (0,0)).2=0)):=by unfold M.valK;simp only[h];rfl
theorem val26 (ds:List M.Dcl) (env:List Int) (t:M.Tm) (ys:List (Int×Int)) (h:t.op=26):M.valK ds env t ys=M.b2i (decide ((ys.getD 0 (0,0)).2=1)&&decide ((ys.getD 1 (0,0)).2=1)):=by unfold M.valK;simp only[h];rfl
theorem val27 (ds:List M.Dcl) (env:List Int) (t:M.Tm) (ys:List (Int×Int)) (h:t.op=27):M.valK ds env t ys=M.b2i (decide ((ys.getD 0 (0,0)).2=1)||decide ((ys.getD 1 (0,0)).2=1)):=by unfold M.valK;simp only[h];rfl
def binWords:List ByteArray:=[⟨#[97,110,100]⟩,⟨#[111,114]⟩,⟨#[120,111,114]⟩,⟨#[97,100,100]⟩,⟨#[115,117,98]⟩,⟨#[109,117,108]⟩,⟨#[100,105,118]⟩,⟨#[114,101,109]⟩,⟨#[115,104,108]⟩,⟨#[115,104,114]⟩,⟨#[115,97,114]⟩]
theorem Z20:∀i:Fin 11,(binWords.getD i.1 ⟨#[]⟩).data.toList=M.wordL (3+(i.1:Int)):=dC
theorem kinds_new (X:∀w' b,Ext w w'->KindsR w' b->w.heap.size<=b->K (.map (some b)) w'):vcall QW #[] w K:=by
 refine ze {loops:=[(3,[48])]} Tryz.func52 ?_;refine yO0 jH λb w1 hb hm he hs=>?_;have J:KS w w1 b (λ_=>False):=⟨he,oM,[],hm,λ_ h=>h.elim,λ_ h=>by cases h⟩;refine oZ ?_;refine J.set dC (kind_un (.inl rfl) dC) λw2 L _=>?_;refine L.set dC (kind_un (.inr rfl) dC) λw3 N _=>?_;refine N.set dC (kind_cat dC) λw4 O _=>?_;refine O.set dC (kind_cmp dC dC dC) λw5 Q _=>?_;refine Q.set dC (kind_cmp dC dC dC) λw6 R _=>?_;refine R.set dC (kind_cmp dC dC dC) λw7 S _=>?_;refine S.set dC kind_vec λw8 T _=>?_;refine T.set dC kind_name λw9 U _=>?_;refine U.set dC (kind_cut dC) λw10 V _=>?_;refine V.set dC (kind_if dC) λY l _=>?_;refine l.set dC (kind_bool (m:=0) dC rfl qX0 rfl (.inl rfl) val24) λZ n _=>?_;refine n.set dC (kind_bool (m:=1) dC rfl kinds2_fn rfl (.inr dC) val25) λa0 p _=>?_;refine p.set dC (kind_bool (m:=2) dC rfl kinds3_fn rfl (.inr dC) val26) λa1 q _=>?_;refine q.set dC (kind_bool (m:=2) dC rfl kinds4_fn rfl (.inr dC) val27) λa2 g _=>?_;refine vbuildS_row1 (xs:=binWords.map .string) Xq rK Xi (λx B=>by obtain⟨s,_,rfl⟩:=gx.1 B;rfl) dC λbs D F j G t=>?_;have d:Vals (· =bs) D (.slice (some ⟨bs,0,none⟩) (binWords.map Value.string).length (binWords.map Value.string).length) (binWords.map Value.string):=t.sl1 rfl dC;have r:=g.ext j;have v:bs≠b:=by
  obtain⟨_,_,f,hm,_⟩:=g;have:=hm.lt;omega
 have hlen:(binWords.map Value.string).length=11:=rfl;simp only[push_cast,d.len];rw[hlen];rw[hlen] at d;refine vloop_up 11 (λi u w'=>u=[nI i]/\Vals (· =bs) w' (.slice (some ⟨bs,0,none⟩) 11 11) (binWords.map Value.string)/\KS w w' b λx=>(3<=x/\x<3+(i:Int))\/x=27\/x=26\/x=25\/x=24\/x=23\/x=22\/x=21\/x=20\/x=17\/x=16\/x=15\/x=14\/x=2\/x=1) ⟨rfl,d,r.congr λx=>by simp only[Ge];constructor<;>intro h<;>omega⟩ ?_;rintro i _ _ E C hi ⟨rfl,A,k⟩ W;refine oZ ?_;refine zb (λa=>?_) (λa=>?_)
 .have c:i<11:=oM;have H:(binWords.map Value.string).getD i undef= .string (binWords.getD i ⟨#[]⟩):=M.getD_map _ (show i<binWords.length from c) _ _;have I:IntKind.i64.wrap (3+(i:Int))=3+(i:Int):=zk oM oM;rw[A.iaddr rK oM (by rw[hlen];omega),gq,A.load rK (by rw[hlen];omega),H];simp only[push_cast,I];refine k.set oM (kind_bin oM oM (Z20 ⟨i,c⟩)) λa3 y z=>?_
  try simp only[push_cast]
  rw[inc64' oM];exact W c _ _ ⟨rfl,A.same z λx B _ e=>v (B.symm.trans e),y.congr λx=>by constructor<;>intro h<;>omega⟩
 .have:i=11:=oM;subst this;refine X E b k.1 (k.kinds λo=>?_) k.2.1;constructor
  .intro h;have:(1<=o/\o<=17)\/(20<=o/\o<=27):=oM;unfold M.arity
   repeat' split
   all_goals omega
  .intro h;have:=M.arity_ops h;omega
theorem W2 (d:∀w' b,Ext w w'->KindsR w' b->K (.map (some b)) w'):vcall QW #[] w K:=kinds_new λw' b a c _=>d w' b a c
end
section
variable {w:World} {K:oK} {F G:Nat->Prop}
theorem stTerm {b:Nat} {cs cs':List Value} {t:TypeId} {g:M.Tm} (h:Blk w b cs t) (f:cs.length=5) (d:TmR F w cs' g) (c:∀w',Same (· =b) w w'->w'.heap.size=w.heap.size->Blk w' b cs' t->K undef w'):zT za (oP b 0) (.agg ⟨cs'⟩) w K:=by
 obtain⟨kv,rfl,e⟩:=d.inv;obtain⟨css,hs,_⟩:=e;refine h.stAgg (by simp[f]) zc ?_ c;intro v a;simp only[gj,gy,Ge] at a;rcases a with rfl|rfl|rfl|rfl|rfl
 .rfl
 .rfl
 .rfl
 .rfl
 .exact hs.one
theorem zU {cs:List Value} {t:M.Tm} (h:TmR F w cs t):cs.length=5:=by
 obtain⟨kv,rfl,_⟩:=h.inv;rfl
theorem xs0 {v:Value} {t:M.Tm} (m:TermR F w v t) (i:∀w',Ext w w'->K (.bool (M.plainM t)) w'):vcall QV #[v] w K:=by
 refine ze {cuts:=[(8194,[3])]} Tryz.func98 ?_;obtain⟨ksv,rfl,k⟩:=m;refine zj λb1 w1 j h l e=>?_;have d:=i _ h;unfold M.plainM at d;refine zo (λu w'=>u=[.bool (decide (t.op=20)||decide (t.op=22)||(decide (t.a=0)&&decide (t.b=0)))]/\w'=w1) (λC f=>?_) ?_
 .simp only[push_cast,e.ld0,e.ld1,e.ld2];refine zb (λa=>?_) (λa=>?_)
  .exact f _ _ ⟨by rw[gi a];rfl,rfl⟩
  refine zb (λb=>?_) (λb=>?_)
  .exact f _ _ ⟨by rw[gi b];simp,rfl⟩
  refine zb (λc=>?_) (λc=>?_)
  .exact f _ _ ⟨by rw[gg a,gg b,gi c];rfl,rfl⟩
  .exact f _ _ ⟨by rw[gg a,gg b,gg c];rfl,rfl⟩
 .rintro u g w2 ⟨rfl,rfl⟩;simp only[push_cast,e.ld0,e.ld3];refine zn (λa=>?_) (λa=>?_)
  .rw[a,pJ] at d;refine zb (λb=>?_) (λb=>?_)
   .rwa[gi b,Bool.true_or] at d
   .rw[gg b,P7] at d;exact d
  .rwa[a,GM] at d
theorem Ki {mb:Nat} {o:Int} {ok:Bool} (h:KindsR w mb) (d:0<=M.arity o) (b:∀v,KindR o v->K (if ok then .tuple #[v,.bool true] else v) w):Xk zQ (.map (some mb)) (nI o) ok w K:=by
 obtain⟨f,hm,a,g⟩:=h;obtain⟨v,e,c⟩:=a o d;rw[Xj jH hm (xy o) e];exact b v c
theorem qT0 {mb:Nat} {o:Int} (h:KindsR w mb) (d: ¬0<=M.arity o) (b:K (.tuple #[.nilIface,.bool false]) w):Xk zQ (.map (some mb)) (nI o) true w K:=by
 obtain⟨f,hm,i,a⟩:=h;rw[UZ jH (z:= .nilIface) (by unfold yi;kernel_rfl) hm (xy o) λv g=>?_]
 .exact b
 .obtain⟨o',e,c⟩:=a _ g;cases e;exact d c
theorem xA0 {mb:Nat} {o:Int} {w w2:World} {N:oK} (h:KindsR w mb) (i:0<=M.arity o) (he:Ext w w2) (e:∀v,KindR o v->(∀a,Ext w a->Xk zQ (.map (some mb)) (nI o) false a λx y=>x=v/\y=a)->N v w):Xk zQ (.map (some mb)) (nI o) false w N:=by
 obtain⟨f,hm,d,j⟩:=h;obtain⟨v,c,g⟩:=d o i;rw[Xj jH hm (xy o) c];refine e v g λa b=>?_;rw[Xj jH (hm.ext b) (xy o) c];exact⟨rfl,rfl⟩
theorem kV {α β:Type} (f:α->β) {l:List α} {i:Nat} (h:i<l.length) (d:α):(l.take i).map f++[f (l.getD i d)]=(l.take (i+1)).map f:=by
 rw[G6,V0 h,gB,y2,V0 h];rfl
theorem sortOf_spec:∀(t:M.Tm) {w:World} {K:oK} {F G:Nat->Prop} {mb:Nat} {dv v:Value} {ds:List M.Dcl},KindsR w mb->DclsR F w dv ds->M.declOk ds=true->TermR G w v t->
  (∀w',Ext w w'->K (nI (M.sortM ds t)) w')->vcall jG #[.map (some mb),dv,v] w K:=by
 refine M.Tm.ind λt ih w K F G mb dv v ds hm hd N ht U=>?_;apply UN;obtain⟨ksv,rfl,m⟩:=ht;refine zj λb1 w1 a3 l a6 D=>?_;have J:=hm.ext l;simp only[push_cast,D.ld0];have A: ¬(M.formed t=true)->∀w',Ext w w'->K (nI (-1)) w':=λhn w' he=>by
  have:=U w' he;rw[M.sortM_eq] at this;unfold M.sortF at this;rwa[y0 (λh=>hn h.1)] at this
 by_cases Y: ¬0<=M.arity t.op
 .have T:=Y;refine qT0 J T ?_;refine oZ ?_;refine zo (λ_ _=>False) (λC S=>?_) (λ_ _ _ h=>h.elim);refine zd λw2 c _=>?_;simp only[push_cast,y1];refine A (λh=>T ?_) _ (l.trans c);simp only[M.formed,gk,X0] at h;omega
 have T:0<=M.arity t.op:=oM
 refine Ki J T λkv I=>?_;simp only[push_cast,if_true];have a9:=m.small;refine zo (λu w'=>u=[]/\Ext w1 w'/\M.formed t=true) (λC S=>?_) ?_
 .refine zd λw2 c _=>?_;have E:=D.ext c;simp only[push_cast,E.ld4,m.len,y1];refine I.kids _ _ λw3 d=>?_;have R:=E.ext d;simp only[push_cast,R.ld4,m.len,y1,gh];refine zb (λa=>?_) (λa=>?_)
  .refine A (λh=>?_) _ ((l.trans c).trans d);simp only[M.formed,gk,X0] at h;omega
  .simp only[push_cast,R.ldAgg (t:=za) zc,y1];refine xs0 (F:=G) (t:=t) ⟨ksv,rfl,m.ext ((l.trans c).trans d)⟩ λw4 e=>?_;simp only[push_cast,y1];refine zn (λb=>?_) (λb=>?_)
   .refine A (λh=>?_) _ (((l.trans c).trans d).trans e);simp only[M.formed,gk] at h;rw[h.2] at b;cases b
   .refine S _ _ ⟨rfl,(c.trans d).trans e,?_⟩;simp only[M.formed,gk,X0];exact⟨oM,by simpa using b⟩
 .rintro u g w2 ⟨rfl,c,hf⟩;have E:=D.ext c;have hE:=l.trans c;have ab:=hE.size;simp only[push_cast,E.ld4,m.len];have H:=hf;simp only[M.formed,gk,X0] at H;have a2:t.ks.length<=3:=by
   have D:=H.1;unfold M.arity at D
   repeat' split at D
   all_goals omega
  refine vloop_up t.ks.length (λi u w'=> ∃sv,u=[sv,nI i]/\Ext w2 w'/\OwnI zh w' sv ((t.ks.take i).map (M.sortM ds))/\(∀b,sv.ownBlock=some b->w2.heap.size<=b)/\(∀x,x∈(t.ks.take i).map (M.sortM ds)->x≠ -1)) ⟨_,rfl,Same.refl _ _,OwnI.nil,(λb h=>by cases h),by simp⟩ ?_;rintro i _ _ w3 C hi ⟨sv,rfl,d,B,L,n⟩ S;have k:=hE.trans d;have o:=m.ext k;refine oZ ?_;refine zb (λa=>?_) (λa=>?_)
  .simp(disch:=exact oS) only[push_cast,o.iaddr];refine o.load zc oM λx r=>?_;obtain⟨cs,rfl,s⟩:=r.cells;refine zi zq λb2 w4 a4 e a7 h4=>?_;refine stTerm h4 rfl (s.ext e) λw5 Z aa h5=>?_;have p:Ext w3 w5:=Ext.then e Z λy Q=>by subst Q;omega
   rw[h5.ldAgg (t:=za) (by rw[zU s];exact zc)];refine ih _ (M.getD_mem oM _) (hm.ext (k.trans p)) (hd.ext (k.trans p)) N (s.ext p).term λw6 V=>?_;refine oZ ?_;have f:=p.trans V;refine zb (λb=>?_) (λb=>?_)
   .have:=U _ (k.trans f);rw[M.sortM_eq] at this;unfold M.sortF at this;rwa[y0 (λh=>h.2 (b▸Gc (M.getD_mem oM _)))] at this
   .refine qD xp yJ xE rfl rfl dC λb3 w7 a5 z a8 h7=>?_;have O:=(B.ext f).ext z;have hlen:((t.ks.take i).map (M.sortM ds)).length=i:=by rw[y4,gl];omega
    refine O.app1 xx h7 (by rw[hlen];omega) (by rw[hlen];omega) λa1 w8 q a0 X=>?_
    try simp only[push_cast]
    rw[inc64' oM];rw[kV _ oM] at q;refine S oM _ _ ⟨a1,rfl,Ext.then ((d.trans f).trans z) a0 λy Q=>L y Q,q,λy Q=>?_,λx r=>?_⟩
    .rcases X y Q with h|h
     .exact L y h
     .have:=(d.trans f).size;have:=z.size;omega
    .rw[<-kV _ oM default] at r;rcases gn.1 r with r|r
     .exact n x r
     .rw[gu.1 r];exact b
  .have W:i=t.ks.length:=oM;subst W;rw[gA] at B n;have R:=E.ext d;simp only[push_cast,R.ldAgg (t:=za) zc];refine I.sort _ _ F G _ _ _ _ ds t _ rfl (hd.ext k) ⟨ksv,rfl,o⟩ B.ints (by rw[y4];omega) (λj=>?_) λw4 e=>?_
   .by_cases hj:j<t.ks.length
    .rw[M.getD_map _ hj 0 default];exact M.sort_range N _
    .rw[y2,Pj (by simpa using hj)];simp
   .have:=U _ (k.trans e);rw[M.sortM_eq] at this;unfold M.sortF at this;rwa[y3 ⟨hf,λh=>n _ h rfl⟩] at this
def nnB:M.Tm->Bool:=M.Tm.fold λt xs=>decide (t.op≠21)&&xs.all id
theorem YD0 (t:M.Tm):nnB t=(decide (t.op≠21)&&(t.ks.map nnB).all id):=M.Tm.fold_eq _ t
theorem nnB_iff {t:M.Tm}:nnB t=true↔t.op≠21/\∀k,k∈t.ks->nnB k=true:=by
 rw[YD0,gk,X0,Gf];refine PX λ_=>⟨λh k a=>h _ (Gc a),λh y b=>?_⟩;obtain⟨k,a,rfl⟩:=gx.1 b;exact h k a
theorem valueOf_specG:∀(t:M.Tm) {w:World} {K:oK} {F G:Nat->Prop} {mb:Nat} {dv v ev:Value} {ds:List M.Dcl} {env:List Int},KindsR w mb->DclsR F w dv ds->M.envOk ds env=true->((∃eb,ev= .map (some eb)/\EnvM w eb ds env)\/nnB t=true)->TermR G w v t->M.sortM ds t≠ -1->
  (∀w',Ext w w'->K (xX (M.sortM ds t) (M.evalM ds env t)) w')->vcall kG #[.map (some mb),dv,v,ev] w K:=by
 refine M.Tm.ind λt ih w K F G mb dv v ev ds env hm hd B hE ht p hK=>?_;have a4:=(M.env_ok B).1;apply VH;obtain⟨ksv,rfl,o⟩:=ht;obtain⟨hf,n,a5⟩:=M.sort_parts p;have L:=hf;simp only[M.formed,gk,X0] at L;have a9:t.ks.length<=3:=by
  have Y:=L.1;unfold M.arity at Y
  repeat' split at Y
  all_goals omega
 have ho:0<=M.arity t.op:=oM
 refine zj λb1 w1 aa I ae Y=>?_;refine zi zX λb2 w2 ab J af h2=>?_;have q1:=Y.ext J;have H:=I.trans J;have aj:=H.size;have ai:=o.small;simp only[push_cast,q1.ld4,o.len];refine vloop_up t.ks.length (λi u w'=> ∃sv,u=[sv,nI i]/\Ext w2 w'/\OwnP xK w' sv ((t.ks.take i).map (M.vecM ds env))/\(∀b,sv.ownBlock=some b->w2.heap.size<=b)) ⟨_,rfl,Same.refl _ _,OwnP.nil _,λb h=>by cases h⟩ ?_;rintro i _ _ w3 C hi ⟨sv,rfl,l,D,T⟩ hC;have f:=H.trans l;have r:=o.ext f;have ak:=l.size;refine oZ ?_;refine zb (λa=>?_) (λa=>?_)
 .simp(disch:=exact oS) only[push_cast,r.iaddr];refine r.load zc oM λx hx=>?_;obtain⟨cs,rfl,z⟩:=hx.cells;refine zi zq λb3 w4 ac d ag h4=>?_;refine stTerm h4 rfl (z.ext d) λw5 a6 al h5=>?_;have c:Ext w3 w5:=Ext.then d a6 λy E=>by subst E;omega
  rw[h5.ldAgg (t:=za) (by rw[zU z];exact zc)];refine ih _ (M.getD_mem oM _) (hm.ext (f.trans c)) (hd.ext (f.trans c)) B (hE.imp (λ⟨eb,e,h⟩=>⟨eb,e,h.ext (f.trans c)⟩) λh=>(nnB_iff.1 h).2 _ (M.getD_mem oM _)) (z.ext c).term (n _ (M.getD_mem oM _)) λw6 q=>?_;have m:=c.trans q;refine qD ym0 xi0 zX rfl rfl dC λb4 w7 ad A ah h7=>?_;have W:=(D.ext m).ext A;have hlen:((t.ks.take i).map (M.vecM ds env)).length=i:=by rw[y4,gl];omega
  refine Own.app1k W yF0 dC h7 rfl (by intro v hv;simp only[gj,gy,Ge] at hv;rcases hv with rfl|rfl<;>rfl) (by rw[y4,hlen];omega) (by rw[y4,hlen];omega) λX w8 U a8 a3=>?_;rw[inc64' oM];have V:OwnP xK w8 X ((t.ks.take (i+1)).map (M.vecM ds env)):=by
   unfold OwnP;rw[<-kV _ oM default,gB,M.vecM_pair ds env (t.ks.getD i default)];exact U
  refine hC oM _ _ ⟨X,rfl,Ext.then ((l.trans m).trans A) a8 λy E=>T y E,V,λy E=>?_⟩;rcases a3 y E with h|h
  .exact T y h
  .have:=m.size;have:=A.size;omega
 .have a0:i=t.ks.length:=oM;subst a0;rw[gA] at D;refine zd λw4 d _=>?_;have q4:=(q1.ext l).ext d;have g:=f.trans d;have R:=o.ext g;simp only[push_cast,q4.ld0,q4.ldAgg (t:=za) zc,y1];refine xA0 (hm.ext g) ho (Same.refl _ _) λkv a1 a2=>⟨rfl,?_⟩;refine sortOf_spec t (hm.ext g) (hd.ext g) a4 ⟨ksv,rfl,R⟩ λw5 c=>?_;have q5:=q4.ext c;simp only[push_cast,q5.ld0,q5.ldAgg (t:=za) zc,y1,gh];refine⟨a2 _ c,?_⟩;have s:=g.trans c;have S:(t.ks.map (M.vecM ds env)).length=t.ks.length:=y4 _;have O:∀j,j<t.ks.length->(t.ks.map (M.vecM ds env)).getD j (0,0)=(M.sortM ds (t.ks.getD j default),M.evalM ds env (t.ks.getD j default)):=λj Q=>(by rw[M.getD_map _ Q _ default,M.vecM_pair]);have N:(t.ks.map (M.vecM ds env)).map (·.1)=t.ks.map (M.sortM ds):=by
   rw[pk];exact GU λk _=>M.vecM_sort ds env k
  refine a1.value _ _ G _ _ _ _ ds env t _ rfl (λZ=>hE.elim (λ⟨eb,e,h⟩=>⟨eb,e,h.ext s⟩) λh=>absurd Z (nnB_iff.1 h).1) ⟨ksv,rfl,o.ext s⟩ ((D.ext (d.trans c)).pairs) (by rw[S];omega) (λj Q=>?_) (by rw[N,<-a5];exact p) λw6 q=>?_
  .rw[S] at Q;rw[O j Q];exact M.eval_in B _ (n _ (M.getD_mem Q _))
  .simp only[push_cast,y1];have h6:=(((h2.ext l).ext d).ext c).ext q;refine stVec h6 λw7 a7 _ h7=>?_;rw[h7.lv rK];have hX:Ext w w7:=Ext.then (s.trans q) a7 λy E=>by subst E;have:=I.size;omega
   have:=hK w7 hX;rw[M.evalM_eq] at this;exact this
theorem count_spec:∀(t:M.Tm) {w:World} {K:oK} {F:Nat->Prop} {v:Value} {m deep mb:Nat} {ty:TypeId},TermR F w v t->Blk w mb [nI m] ty->(∀b,F b->b≠mb)->m<=20->1<=deep->deep<=8->
  (∀w' (r B:Nat),Same (· =mb) w w'->Blk w' mb [nI B] ty->m<B->B<=21->deep<=r->r<=8->(m+M.sizeM t<=20/\deep-1+M.deepM t<=7->B=m+M.sizeM t/\r=deep-1+M.deepM t)->(¬(m+M.sizeM t<=20/\deep-1+M.deepM t<=7)->20<B\/7<r)->K (nI r) w')->
  vcall zK0 #[v,nI deep,oP mb 0] w K:=by
 refine M.Tm.ind λt ih w K F v m deep mb ty ht E hF hm a2 a3 J=>?_;refine ze {loops:=[(6,[7,22])]} Tryz.func94 ?_;obtain⟨ksv,rfl,n⟩:=ht;refine zj λb1 w1 a0 p a9 X=>?_;have o:=E.ext p;have V:=E.lt;have ab:=n.small;have hS:=M.szT_all t;have hD:=M.dpT_all t;simp only[push_cast,o.ld0];rw[inc64' oM];refine o.st (i:=0) rfl rfl yJ rfl λw2 A ac D=>?_;have s:Same (· =mb) w w2:=(Same.of_ext p).trans A;have q2:=X.same A oM;replace D:Blk w2 mb [nI (m+1:Nat)] ty:=D;refine zb (λa=>?_) (λa=>?_)
 .exact J w2 deep (m+1) s D oM oM oM oM (λh=>oM) (λh=>oM)
 simp only[push_cast,q2.ld4,n.len];refine vloop_up t.ks.length (λi u w'=> ∃r mi:Nat,u=[nI r,nI i]/\Same (· =mb) w2 w'/\Blk w' mb [nI mi] ty/\m<mi/\mi<=21/\deep<=r/\r<=8/\(m+1+M.szT t.ks i<=20/\deep+M.dpT t.ks i<=7->mi=m+1+M.szT t.ks i/\r=deep+M.dpT t.ks i)/\(¬(m+1+M.szT t.ks i<=20/\deep+M.dpT t.ks i<=7)->20<mi\/7<r))
  ⟨deep,m+1,rfl,Same.refl _ _,D,oM,oM,oM,oM,λh=>by simp[M.szT,M.dpT],λh=>by
   have T:M.szT t.ks 0=0:=rfl;have e2:M.dpT t.ks 0=0:=rfl;omega⟩ ?_
 rintro i _ _ G C hi ⟨r,mi,rfl,z,I,c1,c2,c3,R,H,S⟩ hC;have d:Same (· =mb) w G:=s.trans z;have g:TmsR F G ksv t.ks:=n.same d λb E _ e=>hF b E e;have ad:=d.size;refine oZ ?_;refine zb (λb=>?_) (λb=>?_)
 .have a5:=M.szT_mono (ks:=t.ks) (i:=i) (j:=t.ks.length) oM (gz _);have a6:=M.dpT_mono (ks:=t.ks) (i:=i) (j:=t.ks.length) oM (gz _);have a7:=M.szT_succ (ks:=t.ks) (i:=i) oM;have a8:=M.dpT_succ (ks:=t.ks) (i:=i) oM;simp(disch:=exact oS) only[push_cast,g.iaddr];refine g.load zc oM λx hx=>?_;obtain⟨cs,rfl,l⟩:=hx.cells;refine zi zq λb2 w4 a1 q aa Y=>?_;refine stTerm Y rfl (l.ext q) λW O ae Z=>?_;have f:Ext G W:=Ext.then q O λy hy=>by subst hy;omega
  have k:=I.ext f;have a4:=I.lt;simp only[push_cast,k.ld0];refine zb (λc=>?_) (λc=>?_)
  .exact J W r mi (d.trans (Same.of_ext f)) k c1 c2 c3 R (λh=>oM) (λh=>oM)
  .rw[Z.ldAgg (t:=za) (by rw[zU l];exact zc)];have T:IntKind.i64.wrap ((deep:Int)+1)=((deep+1:Nat):Int):=inc64' oM;rw[T];refine ih _ (M.getD_mem oM _) (l.ext f).term k hF oM oM oM λw6 Q m2 N h6 d1 d2 d3 d4 d5 d6=>?_;refine oZ ?_;rw[inc64' oM,show max (r:Int) (Q:Int)=((max r Q:Nat):Int) by omega];refine hC oM _ _ ⟨max r Q,m2,rfl,(z.trans (Same.of_ext f)).trans N,h6,oM,d2,oM,oM,λh=>?_,λh=>?_⟩
   .have:=H oM;have:=d5 oM;omega
   .by_cases U:m+1+M.szT t.ks i<=20/\deep+M.dpT t.ks i<=7
    .have:=H U;have:=d6 oM;omega
    .have:=S U;omega
 .have L:i=t.ks.length:=oM;subst L;refine J G r mi d I c1 c2 c3 R (λh=>?_) (λh=>?_)
  .have:=H oM;omega
  .exact S oM
theorem TermMany_spec {v:Value} {t:M.Tm} (A:TermR F w v t) (H:∀w',Ext w w'->K (.tuple #[nI (M.manyM t),nI (M.lvlM t)]) w'):vcall Kd #[v] w K:=by
 refine ze {} Tryz.func66 ?_;have s:=A.weaken (F':=λb=>b<w.heap.size) λb _ h=>h;obtain⟨ksv,rfl,L⟩:=A;refine zj λb1 w1 I o N E=>?_;refine xP xE λb2 w2 J g O l=>?_;replace l:Blk w2 b2 [nI 0] zV:=l;refine l.st (i:=0) rfl rfl yJ rfl λB k Q n=>?_;replace n:Blk B b2 [nI ((0:Nat):Int)] zV:=n;have S:=(E.ext g).same k oM;have j:Ext w B:=Ext.then (o.trans g) k λy x=>by subst x;omega
 rw[S.ldAgg (t:=za) zc];refine count_spec t (m:=0) (deep:=1) (s.ext j) n (λb V e=>oM) oM oM oM λC r R q G c1 c2 c3 T f D=>?_;have p:Ext w C:=Ext.then j q λy x=>by subst x;omega
 have d:=H C p;have c:M.fits t=true↔M.sizeM t<=20/\M.deepM t<=7:=M.fits_iff;unfold M.manyM M.lvlM at d;simp only[push_cast,G.ld0];refine zb (λa=>?_) (λa=>?_)
 .rw[y0 (λh=>by have u:=c.1 h;have:=f oM;omega),y0 (λh=>by have u:=c.1 h;have:=f oM;omega)] at d;exact d
 .refine zb (λb=>?_) (λb=>?_)
  .rw[y0 (λh=>by have u:=c.1 h;have:=f oM;omega),y0 (λh=>by have u:=c.1 h;have:=f oM;omega)] at d;exact d
  .have z:M.sizeM t<=20/\M.deepM t<=7:=by
    by_cases h:M.sizeM t<=20/\M.deepM t<=7
    .exact h
    .have:=D oM;omega
   have U:=f oM;rw[y3 (c.2 z),y3 (c.2 z)] at d;rw[show R=M.sizeM t by omega,show r=M.deepM t by omega];exact d
end
end Go.Proofs.YtfjlkobhagjdaaaGreatDoor
namespace Go.Proofs
open Go.Shelf
def YtfjlkobhagjdaaaGreatDoor.sortL_ren:Go.Shelf.Ren:=⟨λ|6=>291 |15=>316 |14=>315 |28=>339 |29=>340 |20=>331 |21=>332 |22=>333 |23=>334 |24=>335 |25=>336 |26=>337 |27=>338 |46=>346 |47=>347 |48=>348 |49=>349 |50=>350 |57=>353 |n=>n,λ|22=>45 |24=>3 |25=>145 |3=>3 |39=>288 |0=>0 |53=>380 |55=>253 |4=>4 |46=>390 |45=>389 |50=>48 |5=>5 |9=>9 |66=>398 |70=>150 |76=>403 |77=>29 |n=>n,λ|n=>n⟩
theorem YtfjlkobhagjdaaaGreatDoor.sortL:Go.Proofs.SlLaysF.n6 Tryz.prog YtfjlkobhagjdaaaGreatDoor.sortL_ren:={
 mixed:=rK
 f6:=⟨Tryz.f291.name,dC,Tryz.func291.trans (congrArg some rK)⟩
 f14:=⟨Tryz.f315.name,dC,Tryz.func315.trans (congrArg some rK)⟩
 f15:=Tryz.func316.trans (congrArg some rK)
 f20:=⟨Tryz.f331.name,dC,Tryz.func331.trans (congrArg some rK)⟩
 f21:=⟨Tryz.f332.name,dC,Tryz.func332.trans (congrArg some rK)⟩
 f22:=⟨Tryz.f333.name,dC,Tryz.func333.trans (congrArg some rK)⟩
 f23:=⟨Tryz.f334.name,dC,Tryz.func334.trans (congrArg some rK)⟩
 f24:=⟨Tryz.f335.name,dC,Tryz.func335.trans (congrArg some rK)⟩
 f25:=⟨Tryz.f336.name,dC,Tryz.func336.trans (congrArg some rK)⟩
 f26:=⟨Tryz.f337.name,dC,Tryz.func337.trans (congrArg some rK)⟩
 f27:=⟨Tryz.f338.name,dC,Tryz.func338.trans (congrArg some rK)⟩
 f28:=Tryz.func339.trans (congrArg some rK)
 f29:=Tryz.func340.trans (congrArg some rK)
 f46:=⟨Tryz.f346.name,dC,Tryz.func346.trans (congrArg some rK)⟩
 f47:=Tryz.func347.trans (congrArg some rK)
 f48:=Tryz.func348.trans (congrArg some rK)
 f49:=⟨Tryz.f349.name,dC,Tryz.func349.trans (congrArg some rK)⟩
 f50:=⟨Tryz.f350.name,dC,Tryz.func350.trans (congrArg some rK)⟩
 f57:=⟨Tryz.f353.name,dC,Tryz.func353.trans (congrArg some rK)⟩
 t0:=Tryz.underlying0
 a0:=Tryz.isAgg0
 z0:=Tryz.sizeOf0
 v0:=Tryz.zeroValue0
 t3:=Tryz.underlying3
 a3:=Tryz.isAgg3
 z3:=Tryz.sizeOf3
 v3:=Tryz.zeroValue3
 t4:=Tryz.underlying4
 a4:=Tryz.isAgg4
 z4:=Tryz.sizeOf4
 v4:=Tryz.zeroValue4
 t5:=Tryz.underlying5
 a5:=Tryz.isAgg5
 z5:=Tryz.sizeOf5
 v5:=Tryz.zeroValue5
 t9:=Tryz.underlying9
 a9:=Tryz.isAgg9
 z9:=Tryz.sizeOf9
 v9:=Tryz.zeroValue9
 t22:=Tryz.underlying45
 a22:=Tryz.isAgg45
 z22:=Tryz.sizeOf45
 v22:=Tryz.zeroValue45
 a24:=Tryz.isAgg3
 z24:=Tryz.sizeOf3
 t25:=Tryz.underlying145
 a25:=Tryz.isAgg145
 z25:=Tryz.sizeOf145
 v25:=Tryz.zeroValue145
 t39:=Tryz.underlying288
 a39:=Tryz.isAgg288
 z39:=Tryz.sizeOf288
 v39:=Tryz.zeroValue288
 t45:=Tryz.underlying389
 a45:=Tryz.isAgg389
 z45:=Tryz.sizeOf389
 v45:=Tryz.zeroValue389
 t46:=Tryz.underlying390
 a46:=Tryz.isAgg390
 z46:=Tryz.sizeOf390
 v46:=Tryz.zeroValue390
 t50:=Tryz.underlying48
 a50:=Tryz.isAgg48
 z50:=Tryz.sizeOf48
 v50:=Tryz.zeroValue48
 t53:=Tryz.underlying380
 a53:=Tryz.isAgg380
 z53:=Tryz.sizeOf380
 v53:=Tryz.zeroValue380
 t55:=Tryz.underlying253
 a55:=Tryz.isAgg253
 z55:=Tryz.sizeOf253
 v55:=Tryz.zeroValue253
 t66:=Tryz.underlying398
 a66:=Tryz.isAgg398
 z66:=Tryz.sizeOf398
 v66:=Tryz.zeroValue398
 t70:=Tryz.underlying150
 a70:=Tryz.isAgg150
 z70:=Tryz.sizeOf150
 v70:=Tryz.zeroValue150
 t76:=Tryz.underlying403
 a76:=Tryz.isAgg403
 z76:=Tryz.sizeOf403
 v76:=Tryz.zeroValue403
 t77:=Tryz.underlying29
 a77:=Tryz.isAgg29
 z77:=Tryz.sizeOf29
 v77:=Tryz.zeroValue29}
def YtfjlkobhagjdaaaGreatDoor.trimL_ren:Go.Shelf.Ren:=⟨λ|160=>95 |232=>118 |231=>117 |227=>119 |234=>121 |233=>120 |236=>123 |235=>122 |228=>141 |271=>144 |151=>143 |197=>142 |120=>181 |152=>180 |260=>179 |137=>212 |119=>213 |224=>214 |225=>215 |217=>251 |266=>293 |n=>n,λ|9=>9 |4=>4 |3=>3 |5=>5 |117=>183 |116=>182 |0=>0 |124=>186 |21=>21 |105=>219 |46=>288 |119=>287 |139=>291 |138=>290 |n=>n,λ|3=>4 |4=>5 |n=>n⟩
theorem YtfjlkobhagjdaaaGreatDoor.trimL:Go.Proofs.Lays.n160 Tryz.prog YtfjlkobhagjdaaaGreatDoor.trimL_ren:={
 mixed:=rK
 f119:=Tryz.func213.trans (congrArg some rK)
 f120:=Tryz.func181.trans (congrArg some rK)
 f137:=Tryz.func212.trans (congrArg some rK)
 f151:=Tryz.func143.trans (congrArg some rK)
 f152:=Tryz.func180.trans (congrArg some rK)
 f160:=Tryz.func95.trans (congrArg some rK)
 f197:=Tryz.func142.trans (congrArg some rK)
 f217:=Tryz.func251.trans (congrArg some rK)
 f224:=Tryz.func214.trans (congrArg some rK)
 f225:=Tryz.func215.trans (congrArg some rK)
 f227:=Tryz.func119.trans (congrArg some rK)
 f228:=Tryz.func141.trans (congrArg some rK)
 f231:=Tryz.func117.trans (congrArg some rK)
 f232:=Tryz.func118.trans (congrArg some rK)
 f233:=Tryz.func120.trans (congrArg some rK)
 f234:=Tryz.func121.trans (congrArg some rK)
 f235:=Tryz.func122.trans (congrArg some rK)
 f236:=Tryz.func123.trans (congrArg some rK)
 f260:=Tryz.func179.trans (congrArg some rK)
 f266:=Tryz.func293.trans (congrArg some rK)
 f271:=Tryz.func144.trans (congrArg some rK)
 t0:=Tryz.underlying0
 a0:=Tryz.isAgg0
 z0:=Tryz.sizeOf0
 v0:=Tryz.zeroValue0
 t3:=Tryz.underlying3
 a3:=Tryz.isAgg3
 z3:=Tryz.sizeOf3
 v3:=Tryz.zeroValue3
 t4:=Tryz.underlying4
 a4:=Tryz.isAgg4
 z4:=Tryz.sizeOf4
 v4:=Tryz.zeroValue4
 t5:=Tryz.underlying5
 a5:=Tryz.isAgg5
 z5:=Tryz.sizeOf5
 v5:=Tryz.zeroValue5
 t9:=Tryz.underlying9
 a9:=Tryz.isAgg9
 z9:=Tryz.sizeOf9
 v9:=Tryz.zeroValue9
 t21:=Tryz.underlying21
 a21:=Tryz.isAgg21
 z21:=Tryz.sizeOf21
 v21:=Tryz.zeroValue21
 t46:=Tryz.underlying288
 a46:=Tryz.isAgg288
 z46:=Tryz.sizeOf288
 v46:=Tryz.zeroValue288
 t105:=Tryz.underlying219
 a105:=Tryz.isAgg219
 z105:=Tryz.sizeOf219
 v105:=Tryz.zeroValue219
 t116:=Tryz.underlying182
 a116:=Tryz.isAgg182
 z116:=Tryz.sizeOf182
 t117:=Tryz.underlying183
 a117:=Tryz.isAgg183
 z117:=Tryz.sizeOf183
 v117:=Tryz.zeroValue183
 t119:=Tryz.underlying287
 a119:=Tryz.isAgg287
 z119:=Tryz.sizeOf287
 t124:=Tryz.underlying186
 a124:=Tryz.isAgg186
 z124:=Tryz.sizeOf186
 v124:=Tryz.zeroValue186
 t138:=Tryz.underlying290
 a138:=Tryz.isAgg290
 z138:=Tryz.sizeOf290
 v138:=Tryz.zeroValue290
 t139:=Tryz.underlying291
 a139:=Tryz.isAgg291
 z139:=Tryz.sizeOf291
 v139:=Tryz.zeroValue291
 g3:=rK
 g4:=rK}
def YtfjlkobhagjdaaaGreatDoor.joinL_ren:Go.Shelf.Ren:=⟨λ|156=>235 |165=>265 |166=>266 |169=>267 |240=>305 |241=>306 |276=>324 |277=>325 |n=>n,λ|31=>126 |9=>9 |3=>3 |4=>4 |0=>0 |20=>20 |72=>335 |76=>336 |70=>333 |37=>42 |75=>143 |127=>362 |164=>377 |5=>5 |80=>312 |n=>n,λ|n=>n⟩
theorem YtfjlkobhagjdaaaGreatDoor.joinL:Go.Proofs.Lays.n156 Tryz.prog YtfjlkobhagjdaaaGreatDoor.joinL_ren:={
 mixed:=rK
 f156:=Tryz.func235.trans (congrArg some rK)
 f165:=Tryz.func265.trans (congrArg some rK)
 f166:=Tryz.func266.trans (congrArg some rK)
 f169:=Tryz.func267.trans (congrArg some rK)
 f240:=Tryz.func305.trans (congrArg some rK)
 f241:=Tryz.func306.trans (congrArg some rK)
 f276:=Tryz.func324.trans (congrArg some rK)
 f277:=Tryz.func325.trans (congrArg some rK)
 t0:=Tryz.underlying0
 a0:=Tryz.isAgg0
 z0:=Tryz.sizeOf0
 v0:=Tryz.zeroValue0
 t3:=Tryz.underlying3
 a3:=Tryz.isAgg3
 z3:=Tryz.sizeOf3
 v3:=Tryz.zeroValue3
 t4:=Tryz.underlying4
 a4:=Tryz.isAgg4
 z4:=Tryz.sizeOf4
 v4:=Tryz.zeroValue4
 t9:=Tryz.underlying9
 a9:=Tryz.isAgg9
 z9:=Tryz.sizeOf9
 v9:=Tryz.zeroValue9
 t20:=Tryz.underlying20
 a20:=Tryz.isAgg20
 z20:=Tryz.sizeOf20
 v20:=Tryz.zeroValue20
 t31:=Tryz.underlying126
 a31:=Tryz.isAgg126
 z31:=Tryz.sizeOf126
 v31:=Tryz.zeroValue126
 t37:=Tryz.underlying42
 a37:=Tryz.isAgg42
 z37:=Tryz.sizeOf42
 v37:=Tryz.zeroValue42
 t70:=Tryz.underlying333
 a70:=Tryz.isAgg333
 z70:=Tryz.sizeOf333
 v70:=Tryz.zeroValue333
 t72:=Tryz.underlying335
 a72:=Tryz.isAgg335
 z72:=Tryz.sizeOf335
 v72:=Tryz.zeroValue335
 t75:=Tryz.underlying143
 a75:=Tryz.isAgg143
 z75:=Tryz.sizeOf143
 v75:=Tryz.zeroValue143
 t76:=Tryz.underlying336
 a76:=Tryz.isAgg336
 z76:=Tryz.sizeOf336
 v76:=Tryz.zeroValue336
 t127:=Tryz.underlying362
 a127:=Tryz.isAgg362
 z127:=Tryz.sizeOf362
 v127:=Tryz.zeroValue362
 t164:=Tryz.underlying377
 a164:=Tryz.isAgg377
 z164:=Tryz.sizeOf377
 v164:=Tryz.zeroValue377}
end Go.Proofs
namespace Go.Proofs.YtfjlkobhagjdaaaGreatDoor
open Go Go.Vc Go.Proofs
section
variable {w:World} {K:oK} {F G:Nat->Prop}
theorem dw_nil {α:Type} {p:α->Bool}:∀{l:List α},l.dropWhile p=[]↔ ∀x,x∈l->p x=true
 |[]=>by simp
 |a::l=>by
  rw[PA];split
  .rename_i h;rw[dw_nil];constructor
   .intro b x c;rcases gj.1 c with rfl|c
    .exact h
    .exact b x c
   .intro b x c;exact b x (gp _ c)
  .rename_i h;constructor
   .intro b;cases b
   .intro b;exact absurd (b a gm) h
theorem dw_head {α:Type} {p:α->Bool}:∀{l:List α},l.dropWhile p≠[]->∃x,x∈l.dropWhile p/\p x=false
 |[],h=>absurd rfl h
 |a::l,h=>by
  rw[PA] at h⊢;split
  .rename_i b;rw[y3 b] at h;exact dw_head h
  .rename_i b;exact⟨a,gm,by simpa using b⟩
theorem dw_sub {α:Type} {p:α->Bool}:∀{l:List α} {x:α},x∈l.dropWhile p->x∈l
 |[],_,h=>h
 |a::l,x,h=>by
  rw[PA] at h;split at h
  .exact gp _ (dw_sub h)
  .exact h
theorem kj0 {l cs:List UInt8}:Lib.trimS l cs=[]↔ ∀x,x∈l->cs.contains x=true:=by
 unfold Lib.trimS Lib.trimLeftS Lib.trimRightS;rw[dw_nil];constructor
 .intro h;by_cases a:∀x,x∈l->cs.contains x=true
  .exact a
  .exfalso;have b:List.dropWhile (λx=>cs.contains x) l.reverse≠[]:=λe=>a λx c=>dw_nil.1 e x (Pn.2 c);obtain⟨y,g,f⟩:=dw_head b;have d:=h y (Pn.2 g);rw[f] at d;cases d
 .intro h x c;exact h x (Pn.1 (dw_sub (Pn.1 c)))
def abc:ByteArray:=⟨#[97,98,99,100,101,102,103,104,105,106,107,108,109,110,111,112,113,114,115,116,117,118,119,120,121,122]⟩
theorem abc_in (x:UInt8):abc.data.toList.contains x=(decide (97<=x.toNat)&&decide (x.toNat<=122)):=by
 have a:∀n:Fin 256,abc.data.toList.contains (UInt8.ofNat n.1)=(decide (97<=(UInt8.ofNat n.1).toNat)&&decide ((UInt8.ofNat n.1).toNat<=122)):=by decide+kernel
 have:=a ⟨x.toNat,x.toNat_lt⟩;simpa using this
theorem yb0 {w w':World} (h:Go.RowKit.Below w.heap.size w w'):Ext w w':=⟨h.os,h.tape,h.output,h.size,λb a _=>h.block b a⟩
def zP0 (s:ByteArray):Bool:=s.data.all λc=>decide (97<=c.toNat)&&decide (c.toNat<=122)
theorem jA0 {s:ByteArray} (hs:s.size<=9223372036854775807) (f:∀w' r,Ext w w'->(r=⟨#[]⟩↔zP0 s=true)->K (.string r) w'):vcall KJ #[.string s,.string abc] w K:=by
 refine⟨rK,?_⟩;refine(Any.strings_Trim_laid YtfjlkobhagjdaaaGreatDoor.trimL rK s abc w hs dC (ascii_of_all dC)).mono ?_;rintro e w' ⟨rfl,g⟩;refine f w' _ (yb0 g) ?_;have c:((⟨(Lib.trimS s.data.toList abc.data.toList).toArray⟩:ByteArray)=⟨#[]⟩)↔Lib.trimS s.data.toList abc.data.toList=[]:=by
  constructor
  .intro h;have d:=congrArg (λb:ByteArray=>b.data.toList) h;simpa using d
  .intro h;rw[h]
 rw[c,kj0];unfold zP0;rw[po];constructor
 .intro h x a;rw[<-abc_in];exact h x (pP.2 a)
 .intro h x a;rw[abc_in];exact h x (pP.1 a)
theorem stDecl {b:Nat} {x y:Value} {t:TypeId} {s:ByteArray} {n:Int} (h:Blk w b [x,y] t) (c:∀w',Same (· =b) w w'->w'.heap.size=w.heap.size->Blk w' b [.string s,nI n] t->K undef w'):zT xr (oP b 0) (.agg ⟨[.string s,nI n]⟩) w K:=
 h.stAgg rfl rK (by intro v a;simp only[gj,gy,Ge] at a;rcases a with rfl|rfl<;>rfl) c
theorem Zy (s:ByteArray):M.nameOk s=(decide (1<=s.size)&&decide (s.size<=4)&&decide (s≠M.tru)&&zP0 s):=rfl
theorem DeclOk_spec {v:Value} {ds:List M.Dcl} (N:DclsR F w v ds) (D:∀w',Ext w w'->K (.bool (M.declOk ds)) w'):vcall U7 #[v] w K:=by
 refine ze {loops:=[(5,[3,11])],cuts:=[(32777,[])]} Tryz.func67 ?_;simp only[push_cast,N.len];refine zb (λa=>?_) (λa=>?_)
 .have:=D w (Same.refl _ _);rwa[show M.declOk ds=false from by rw[GR];intro h;have:=(M.decl_iff.1 h).1;omega] at this
 refine vloop_up ds.length (λi u w'=>u=[nI (M.bitT ds i),nI i]/\Ext w w'/\(∀j,j<i->M.dclOk ds j=true)/\ -4*(i:Int)<=M.bitT ds i/\M.bitT ds i<=4*i) ⟨rfl,Same.refl _ _,oM,by simp[M.bitT],by simp[M.bitT]⟩ ?_;rintro i _ _ w1 C hi ⟨rfl,o,q,a0,a1⟩ hC;have E:=N.ext o;refine oZ ?_;refine zb (λb=>?_) (λb=>?_)
 .have z:i<ds.length:=oM;have d:M.dclOk ds i=false->∀w',Ext w w'->K (.bool false) w':=λe w' he=>by
   have:=D w' he;rwa[show M.declOk ds=false from by rw[GR];intro h;have:=(M.decl_iff.1 h).2.1 i z;rw[e] at this;cases this] at this
  unfold M.dclOk at d;rw[Zy] at d;simp(disch:=exact oS) only[push_cast,E.iaddr,E.load];obtain⟨s,n,B⟩:∃s n,ds.getD i xb0=(s,n):=⟨_,_,rfl⟩;simp only[B] at d⊢;refine zi xY λb1 w2 U O a4 X=>?_;refine stDecl X λW R _ S=>?_;have a6:=o.size;have k:Ext w W:=Ext.then (o.trans O) R λy hy=>by subst hy;omega
  refine zo (λu w'=>u=[]/\Ext W w'/\M.nameOk s=true) (λC' L=>?_) ?_
  .simp(disch:=exact oS) only[push_cast,S.ld0,Xm kK];refine zb (λc=>?_) (λc=>?_)
   .exact d (by rw[gg (show¬1<=s.size by omega)];simp) _ k
   refine zb (λc2=>?_) (λc2=>?_)
   .exact d (by rw[gg (show¬s.size<=4 by omega)];simp) _ k
   refine zb (λc3=>?_) (λc3=>?_)
   .exact d (by rw[show decide (s≠M.tru)=false from gg (λh=>h c3)];simp) _ k
   refine jA0 oM λw4 r l V=>?_;refine oZ ?_;refine zb (λI=>?_) (λI=>?_)
   .have:zP0 s=false:=by
     rw[GR];exact λh=>I (V.2 h)
    exact d (by rw[this];simp) _ (k.trans l)
   .have J:r=⟨#[]⟩:=by
     by_cases h:r=⟨#[]⟩
     .exact h
     .exact absurd h I
    refine L _ _ ⟨rfl,l,?_⟩;rw[Zy,gi (show 1<=s.size by omega),gi (show s.size<=4 by omega),show decide (s≠M.tru)=true from gi c3,V.1 J];rfl
  .rintro u g w4 ⟨rfl,l,A⟩;have T:=S.ext l;have f:=k.trans l;have G:=N.ext f;rw[Zy] at A;rw[A] at d;rw[G.cut (by intro e;subst e;simp at z) rK oM];refine oZ ?_;have a3:(ds.take i).length=i:=by rw[gl];omega
   refine QO (p:=λj=>decide (((ds.take i).getD j xb0).1=s)) (G.taken oM) (λj hj=>?_) λw5 m=>?_
   .intro w' K he D;refine oZ ?_;refine ze {} Tryz.func97 ?_;refine zj λb3 w6 a2 H a5 Z=>?_;have h7:=(T.ext he).ext H;simp(disch:=exact oS) only[push_cast,Z.ld0,h7.ld0];exact D _ H
   .rw[<-Xb];have Y:=T.ext m;have efd:idxI (ds.take i).length (λj=>decide (((ds.take i).getD j xb0).1=s))=M.findD (ds.take i) s:=rfl;rw[efd];refine zb (λc=>?_) (λc=>?_)
    .exact d (by rw[gg (show¬M.findD (ds.take i) s<0 by omega)];simp) _ (f.trans m)
    simp(disch:=exact oS) only[push_cast,Y.ld1];refine zb (λc1=>?_) (λc1=>?_)
    .exact d (by rw[gg (show¬1<=n by omega)];simp) _ (f.trans m)
    refine zb (λc2=>?_) (λc2=>?_)
    .exact d (by rw[gg (show¬n<=4 by omega)];simp) _ (f.trans m)
    have t:=M.bitT_succ z;rw[show ds.getD i (M.nada,0)=(s,n) from B] at t;rw[zk (x:=M.bitT ds i+n) oM oM,inc64' oM,show M.bitT ds i+n=M.bitT ds (i+1) from t.symm];refine hC oM _ _ ⟨rfl,f.trans m,λj hj=>?_,oM,oM⟩;by_cases e:j=i
    .subst e;unfold M.dclOk;rw[show ds.getD j (M.nada,0)=(s,n) from B,Zy,A];simp only[pJ,gk,X0];exact⟨⟨oM,oM⟩,oM⟩
    .exact q j oM
 .have Q:i=ds.length:=oM;subst Q;have:=D w1 o;rw[M.bitT_all];have e:M.declOk ds=decide (M.bits ds<=8):=by
   rw[PW,M.decl_iff,X0];exact⟨λh=>h.2.2,λh=>⟨oM,q,h⟩⟩
  rwa[e] at this
theorem TermSort_spec {dv v:Value} {ds:List M.Dcl} {t:M.Tm} (r:DclsR F w dv ds) (z:TermR G w v t) (q:∀w',Ext w w'->K (nI (M.tsort ds t)) w'):vcall Kb #[dv,v] w K:=by
 refine ze {} Tryz.func37 ?_;obtain⟨cs,rfl,c⟩:=z.cells;refine zj λb1 w1 u g y n=>?_;rw[n.ldAgg (t:=za) (by rw[zU c];exact zc)];refine TermMany_spec (c.ext g).term λw2 i=>?_;refine oZ ?_;have e:=g.trans i;refine DeclOk_spec (r.ext e) λA j=>?_;have f:=e.trans j;have m:=q A f;unfold M.tsort at m;refine oZ ?_;refine zn (λa=>?_) (λa=>?_)
 .rwa[y0 (λh=>by rw[h.2] at a;cases a)] at m
 .rw[gU] at a;refine zb (λb=>?_) (λb=>?_)
  .rw[y0 (λh=>by
    have n:=M.fits_iff.1 h.1;unfold M.manyM at b;rw[y3 h.1] at b;omega)] at m
   exact m
  .have x:M.fits t=true:=by
    by_cases h:M.fits t=true
    .exact h
    .unfold M.manyM at b;rw[y0 h] at b;omega
   refine zd λC k _=>?_;have p:=((n.ext i).ext j).ext k;rw[p.ldAgg (t:=za) (by rw[zU c];exact zc)];refine⟨rfl,W2 λD mb l hm=>?_⟩;have s:=p.ext l;rw[s.ldAgg (t:=za) (by rw[zU c];exact zc)];have d:=(f.trans k).trans l;refine⟨⟨rfl,rfl⟩,sortOf_spec t hm (r.ext d) a (c.ext d).term λB o=>?_⟩;have:=q B (d.trans o);unfold M.tsort at this;rwa[y3 ⟨x,a⟩] at this
end
section
variable {w:World} {K:oK} {F G:Nat->Prop}
theorem l2Name_spec {s:ByteArray} (hs:s.size<=9223372036854775807) (d:K (.bool (M.nameOk s)) w):vcall WH #[.string s] w K:=by
 refine ze {loops:=[(2,[3])]} Tryz.func73 ?_;rw[Zy] at d;refine vloop_up s.size (λi u w'=>u=[nI i]/\w'=w/\∀j,j<i->(decide (97<=(s.data.getD j 0).toNat)&&decide ((s.data.getD j 0).toNat<=122))=true) ⟨rfl,rfl,oM⟩ ?_;rintro i _ _ w1 C hi ⟨rfl,rfl,g⟩ o;simp(disch:=exact oS) only[push_cast,Xm kK];have l:i<s.size->(decide (97<=(s.data.getD i 0).toNat)&&decide ((s.data.getD i 0).toNat<=122))=false->zP0 s=false:=λf h=>by
  rw[GR];intro k;unfold zP0 at k;rw[po] at k;have m:i<s.data.size:=f;have:=k (s.data.getD i 0) (by rw[gM,Gu m];exact Array.getElem_mem m);rw[h] at this;cases this
 refine zb (λa=>?_) (λa=>?_)
 .have f:i<s.size:=oM;rw[vindex_str kK oM oM,gq];refine oZ ?_;refine zb (λb=>?_) (λb=>?_)
  .rw[l f (by rw[gg (show¬97<=(s.data.getD i 0).toNat by omega)];rfl),pz] at d;exact d
  rw[vindex_str kK oM oM,gq];refine oZ ?_;refine zb (λc=>?_) (λc=>?_)
  .rw[l f (by rw[gg (show¬(s.data.getD i 0).toNat<=122 by omega)];simp),pz] at d;exact d
  rw[inc64' oM];refine o f _ _ ⟨rfl,rfl,λj n=>?_⟩;by_cases e:j=i
  .subst e;simp only[gk,X0];omega
  .exact g j oM
 .have p:i=s.size:=oM;have k:zP0 s=true:=by
   unfold zP0;rw[po];intro x q;obtain⟨j,n,rfl⟩:=Array.getElem_of_mem q;have:=g j (by have:s.data.size=s.size:=rfl;omega);rwa[gM,Gu n] at this
  rw[k,Ps] at d
  try simp(disch:=exact oS) only[push_cast,Xm kK]
  refine zb (λb=>?_) (λb=>?_)
  .refine zb (λc=>?_) (λc=>?_)
   .rw[gi (show 1<=s.size by omega),gi (show s.size<=4 by omega)] at d;exact d
   .rw[gg (show¬s.size<=4 by omega)] at d;simpa using d
  .rw[gg (show¬1<=s.size by omega)] at d;simpa using d
theorem l2Find_spec {v:Value} {ds:List M.Dcl} {s:ByteArray} (f:DclsR F w v ds) (d:K (nI (M.findD ds s)) w):vcall WI #[v,.string s] w K:=by
 refine ze {loops:=[(2,[5])]} Tryz.func74 ?_;have k:=f.small;refine vloop_up ds.length (λi u w'=>u=[nI i]/\w'=w/\∀j,j<i->(ds.getD j xb0).1≠s) ⟨rfl,rfl,oM⟩ ?_;rintro i _ _ w1 C hi ⟨rfl,rfl,c⟩ g;simp only[push_cast,f.len];refine zb (λa=>?_) (λa=>?_)
 .try simp(disch:=exact oS) only[push_cast,f.iaddr]
  try simp(disch:=exact oS) only[push_cast,f.load0]
  refine zb (λb=>?_) (λb=>?_)
  .rw[M.findD_of oM b c] at d;exact d
  .rw[inc64' oM];refine g oM _ _ ⟨rfl,rfl,λj h=>?_⟩;by_cases e:j=i
   .subst e;exact b
   .exact c j oM
 .rw[M.findD_none (λj h=>c j oM)] at d;exact d
theorem spec_DeclOk_spec {v:Value} {ds:List M.Dcl} (E:DclsR F w v ds) (D:∀i,i<ds.length->(ds.getD i xb0).1.size<=9223372036854775807) (A:∀w',Ext w w'->K (.bool (M.declOk ds)) w'):vcall WQ #[v] w K:=by
 refine ze {loops:=[(5,[3,4])]} Tryz.func42 ?_;simp only[push_cast,E.len];refine zb (λa=>?_) (λa=>?_)
 .have:=A w (Same.refl _ _);rwa[show M.declOk ds=false from by rw[GR];intro h;have:=(M.decl_iff.1 h).1;omega] at this
 refine vloop_up ds.length (λi u w'=>u=[nI (M.bitT ds i),nI i]/\Ext w w'/\(∀j,j<i->M.dclOk ds j=true)/\ -4*(i:Int)<=M.bitT ds i/\M.bitT ds i<=4*i) ⟨rfl,Same.refl _ _,oM,by simp[M.bitT],by simp[M.bitT]⟩ ?_;rintro i _ _ w1 C hi ⟨rfl,p,m,H,I⟩ G;have r:=E.ext p;simp only[push_cast,r.len];refine zb (λb=>?_) (λb=>?_)
 .have g:i<ds.length:=oM;have f:M.dclOk ds i=false->∀w',Ext w w'->K (.bool false) w':=λe w' he=>by
   have:=A w' he;rwa[show M.declOk ds=false from by rw[GR];intro h;have:=(M.decl_iff.1 h).2.1 i g;rw[e] at this;cases this] at this
  unfold M.dclOk at f;refine zd λw2 t _=>?_;have d:=r.ext t;have k:=p.trans t;simp(disch:=exact oS) only[push_cast,d.iaddr,y1];simp(disch:=exact oS) only[push_cast,d.load0,d.load1,y1];have y:=D i g;have o:=M.bitT_succ g;obtain⟨s,n,l⟩:∃s n,ds.getD i xb0=(s,n):=⟨_,_,rfl⟩;rw[show ds.getD i (M.nada,0)=(s,n) from l] at o;simp only[l] at f y⊢;refine l2Name_spec y ?_;simp only[push_cast,y1];refine zn (λc=>?_) (λc=>?_)
  .exact f (by rw[show M.nameOk s=false by simpa using c];simp) _ k
  rw[gU] at c;rw[c] at f;have ecut:∀(w:World) (K:oK),xd x8 v none (some (nI (i:Int))) none w K=K (cutV v i) w:=λw K=>d.cut (by intro e;subst e;simp at g) rK oM;have z:∀(K:oK),zu yw (.pointer (some ((eaddr v 2 i).add 0))) w2 K=K (.string s) w2:=λK=>(by rw[d.load0 ku0 g,l]);have q:∀(K:oK),zu zV (.pointer (some ((eaddr v 2 i).add 1))) w2 K=K (nI n) w2:=λK=>by rw[d.load1 Wk g,l]
  try simp(disch:=exact oS) only[push_cast,d.iaddr,y1]
  try simp(disch:=exact oS) only[push_cast,d.iaddr,z,q,ecut,y1]
  refine zb (λc1=>?_) (λc1=>?_)
  .exact f (by rw[gg (show¬1<=n by omega)];simp) _ k
  refine zb (λc2=>?_) (λc2=>?_)
  .exact f (by rw[gg (show¬n<=4 by omega)];simp) _ k
  refine l2Find_spec (d.taken oM) ?_;simp only[push_cast,y1];refine zb (λc3=>?_) (λc3=>?_)
  .exact f (by rw[gg (show¬M.findD (ds.take i) s<0 by omega)];simp) _ k
  try simp(disch:=exact oS) only[push_cast,d.iaddr]
  try simp(disch:=exact oS) only[push_cast,q]
  rw[zk (x:=M.bitT ds i+n) oM oM,inc64' oM,show M.bitT ds i+n=M.bitT ds (i+1) from o.symm];refine G oM _ _ ⟨rfl,k,λj J=>?_,oM,oM⟩;by_cases e:j=i
  .subst e;unfold M.dclOk;rw[show ds.getD j (M.nada,0)=(s,n) from l,c];simp only[pJ,gk,X0];exact⟨⟨oM,oM⟩,oM⟩
  .exact m j oM
 .have B:i=ds.length:=oM;subst B;have:=A w1 p;rw[M.bitT_all];have e:M.declOk ds=decide (M.bits ds<=8):=by
   rw[PW,M.decl_iff,X0];exact⟨λh=>h.2.2,λh=>⟨oM,m,h⟩⟩
  rwa[e] at this
theorem spec_TermMany_spec:∀(t:M.Tm) {w:World} {K:oK} {F:Nat->Prop} {v:Value},TermR F w v t->(∀w',Ext w w'->K (.tuple #[nI (M.manyM t),nI (M.lvlM t)]) w')->vcall JV #[v] w K:=by
 refine M.Tm.ind λt ih w K F v ht R=>?_;refine ze {loops:=[(4,[4,5,6])],cuts:=[(20486,[])]} Tryz.func63 ?_;obtain⟨ksv,rfl,y⟩:=ht;refine zj λb1 w1 S B a1 O=>?_;have a2:=y.small;have hS:=M.szT_all t;have hD:=M.dpT_all t;have k:M.fits t=true↔M.sizeM t<=20/\M.deepM t<=7:=M.fits_iff;refine vloop_up t.ks.length (λi u w'=> ∃n d:Nat,u=[nI n,nI d,nI i]/\Ext w1 w'/\n<=41/\d<=8/\(1+M.szT t.ks i<=20/\M.dpT t.ks i<=7->n=1+M.szT t.ks i/\d=M.dpT t.ks i)/\(¬(1+M.szT t.ks i<=20/\M.dpT t.ks i<=7)->20<n\/7<d))
  ⟨1,0,rfl,Same.refl _ _,oM,oM,λh=>⟨rfl,rfl⟩,λh=>by
   have I:M.szT t.ks 0=0:=rfl;have e2:M.dpT t.ks 0=0:=rfl;omega⟩ ?_
 rintro i _ _ w2 C hi ⟨n,d,rfl,o,c1,c2,c3,H⟩ Q;have J:=O.ext o;have L:=B.trans o;have l:=y.ext L;have V:=M.szT_mono (ks:=t.ks) (i:=i) (j:=t.ks.length) oM (gz _);have W:=M.dpT_mono (ks:=t.ks) (i:=i) (j:=t.ks.length) oM (gz _);have I:IntKind.i64.wrap ((d:Int)+1)=((d+1:Nat):Int):=inc64' oM;have m:(20<n\/i=t.ks.length)->∀q,(q=K)->vif (.bool (decide ((20:Int)<n))) (q (.tuple #[nI 21,nI 8]) w2) (vif (.bool (decide ((7:Int)<((d+1:Nat):Int)))) (q (.tuple #[nI 21,nI 8]) w2) (q (.tuple #[nI (n:Int),nI ((d+1:Nat):Int)]) w2)):=by
  rintro a0 q rfl;have p:=R w2 L;unfold M.manyM M.lvlM at p;have c:(20<n\/7<d+1)->¬(M.fits t=true):=λh T=>by
   have N:=k.1 T;have:=c3 oM;omega
  refine zb (λa=>?_) (λa=>?_)
  .rw[y0 (c oM),y0 (c oM)] at p;exact p
  refine zb (λb=>?_) (λb=>?_)
  .rw[y0 (c oM),y0 (c oM)] at p;exact p
  .have E:i=t.ks.length:=oM;subst E;have r:M.sizeM t<=20/\M.deepM t<=7:=by
    by_cases h:1+M.szT t.ks t.ks.length<=20/\M.dpT t.ks t.ks.length<=7
    .have:=c3 h;omega
    .have:=H h;omega
   have h3:=c3 oM;rw[y3 (k.2 r),y3 (k.2 r)] at p;rw[show n=M.sizeM t by omega,show d+1=M.deepM t by omega];exact p
 refine zo (λu w'=>u=[]/\w'=w2/\i<t.ks.length/\n<=20) (λC' z=>?_) ?_
 .simp only[push_cast,J.ld4,l.len,I];refine zb (λa=>?_) (λa=>?_)
  .refine zb (λb=>?_) (λb=>?_)
   .exact z _ _ ⟨rfl,rfl,oM,oM⟩
   .exact m (.inl oM) K rfl
  .exact m (.inr oM) K rfl
 .rintro u g w3 ⟨rfl,rfl,U,hn⟩;have X:=M.szT_succ (ks:=t.ks) (i:=i) oM;have Y:=M.dpT_succ (ks:=t.ks) (i:=i) oM;have Z:=M.szT_mono (ks:=t.ks) (i:=i+1) (j:=t.ks.length) oM (gz _);simp(disch:=exact oS) only[push_cast,J.ld4,l.iaddr];refine l.load zc oM λx N=>?_;refine ih _ (M.getD_mem oM _) N λw4 D=>?_;have f:=M.fits_iff (t:=t.ks.getD i default);have G:M.manyM (t.ks.getD i default)<=21:=by
   unfold M.manyM;split
   .have:=f.1 (by assumption);omega
   .omega
  have A:M.lvlM (t.ks.getD i default)<=8:=by
   unfold M.lvlM;split
   .have:=f.1 (by assumption);omega
   .omega
  have e:M.sizeM (t.ks.getD i default)<=20/\M.deepM (t.ks.getD i default)<=7->M.manyM (t.ks.getD i default)=M.sizeM (t.ks.getD i default)/\M.lvlM (t.ks.getD i default)=M.deepM (t.ks.getD i default):=λh=>by
   unfold M.manyM M.lvlM;rw[y3 (f.2 h),y3 (f.2 h)];exact⟨rfl,rfl⟩
  have c: ¬(M.sizeM (t.ks.getD i default)<=20/\M.deepM (t.ks.getD i default)<=7)->M.manyM (t.ks.getD i default)=21/\M.lvlM (t.ks.getD i default)=8:=λh=>by
   unfold M.manyM M.lvlM;rw[y0 (λx=>h (f.1 x)),y0 (λx=>h (f.1 x))];exact⟨rfl,rfl⟩
  generalize M.manyM (t.ks.getD i default)=nk at G e c⊢;generalize M.lvlM (t.ks.getD i default)=dk at A e c⊢;refine oZ ?_;refine l1Max_spec ?_
  try simp only[push_cast]
  rw[inc64' oM,zk (x:=(n:Int)+nk) oM oM,show(n:Int)+(nk:Int)=((n+nk:Nat):Int) by omega,show max (d:Int) (dk:Int)=((max d dk:Nat):Int) by omega];refine Q oM _ _ ⟨n+nk,max d dk,rfl,o.trans D,oM,oM,λh=>?_,λh=>?_⟩
  .have:=c3 oM;have:=e oM;omega
  .by_cases r:M.sizeM (t.ks.getD i default)<=20/\M.deepM (t.ks.getD i default)<=7
   .have h5:=e r;by_cases s:1+M.szT t.ks i<=20/\M.dpT t.ks i<=7
    .have:=c3 s;omega
    .have:=H s;omega
   .have:=c r;omega
end
end Go.Proofs.YtfjlkobhagjdaaaGreatDoor
end
