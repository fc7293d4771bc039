import Derived.Test.YtolbhkcajhlllaaGreatDoorWwbP5
import Derived.Ground.NamesProg
import Derived.Ground.SlsfProg
import Derived.Shelf.SlSortCmp.Whole1
import Derived.Shelf.Strings.OnBuilder
import Derived.Shelf.Strings.SlTrimAscii
import Derived.Shelf.SlGeneric
/- A part of the proof. -/
set_option linter.all false
set_option maxRecDepth 9999
set_option maxHeartbeats 2000000
noncomputable section
namespace Go.Proofs.YtolbhkcajhlllaaGreatDoor
open Go Go.Vc Go.Proofs
section
variable {w:World} {K:oK} {F:Nat->Prop}
theorem nat_ck {p:Nat->Nat->Nat->Bool} (h:∀v:Fin 5,(List.range 16).all (λa=>(List.range 16).all λb=> !(decide (1<=v.1)&&decide (a<2^v.1))||p v.1 a b)=true) {k a b:Nat} (d:1<=k) (e:k<=4) (c:a<2^k) (f:b<16):p k a b=true:=by
 have:=h ⟨k,oM⟩;simp only[gZ,gI,Gn,gN,G8,decide_eq_false_iff_not] at this;rcases this a (pow16 e c) b f with(h|h)|h
 ·exact absurd d h
 ·exact absurd c h
 ·exact h
theorem shl_ck {k a b:Nat} (c:1<=k) (d:k<=4) (e:a<2^k) (f:b<16):a*2^min b k%2^k=M.binN 11 k a b:=
 of_decide_eq_true (nat_ck (p:=λk a b=>decide (a*2^min b k%2^k=M.binN 11 k a b)) (by decide+kernel) c d e f)
theorem shr_ck {k a b:Nat} (c:1<=k) (d:k<=4) (e:a<2^k) (f:b<16):a/2^min b k=M.binN 12 k a b:=
 of_decide_eq_true (nat_ck (p:=λk a b=>decide (a/2^min b k=M.binN 12 k a b)) (by decide+kernel) c d e f)
theorem sar_ck {k a b:Nat} (c:1<=k) (d:k<=4) (e:a<2^k) (f:b<16):(if a/2^(k-1)%2=0 then a/2^min b k else 2^k-1-(2^k-1-a)/2^min b k)=M.binN 13 k a b:=
 of_decide_eq_true (nat_ck (p:=λk a b=>decide ((if a/2^(k-1)%2=0 then a/2^min b k else 2^k-1-(2^k-1-a)/2^min b k)=M.binN 13 k a b)) (by decide+kernel) c d e f)
theorem l1Shift_spec {op k a b:Nat} (I:11<=op) (J:op<=13) (u:1<=k) (p:k<=4) (r:a<2^k) (A:b<16) (y:∀w',Ext w w'->K (nI ((M.binN op k a b:Nat):Int)) w'):vcall YE #[nI (op:Int),xY k a,nI (b:Int)] w K:=by
 refine ze {ord:=[oz 4 [0,1,2,5,6,3,4,7,8] [(0,[2,5,6,3]),(1,[2,5,6,3]),(2,[5,6]),(5,[3,4]),(6,[3,4])],oz 6 (oR 6) [(0,[2,3]),(1,[2,3])],oz 8 (oR 6) [(0,[2,3]),(1,[2,3])],oz 10 (oR 10) [(0,[1,2,3,4,5,6,7]),(1,[2,3,5,6]),(2,[5,6]),(3,[5,6]),(4,[5,6])]]} Tryz.func289 ?_;have O:=pow4 u p;have s:=pow16 p r;refine zi λb1 w1 L i Q l=>?_;simp only[push_cast,l.ld0];refine l1Min_spec ?_;obtain⟨n,E⟩:∃n,n=min b k:=⟨_,rfl⟩;have N:n<=k:=oM
 rw[show min (b:Int) (k:Int)=(n:Int) by omega];have j:1<=2^n/\2^n<=16:=⟨PO oM,gK (Gb oM (show n<=4 by omega)) dC⟩
 try simp only[push_cast]
 refine zb (λc=>?_) (λc=>?_)
 ·have:op=11:=oM;subst this;have f:=shl_ck u p r A;rw[<-E] at f;refine zd λw2 g _=>?_;have h:=l.ext g;simp only[push_cast,h.ld0,h.ld1,true_and];refine l1Two_nat oM ?_;obtain⟨q,o⟩:∃q,q=2^n:=⟨_,rfl⟩;rw[<-o] at f j⊢;have hm:=mul225 s (show q-1<16 by omega);have t:a*q=a*(q-1)+a:=by rw[<-Nat.mul_succ];congr 1;omega
  obtain⟨x,G⟩:∃x,x=a*q:=⟨_,rfl⟩;have e:IntKind.i64.wrap ((a:Int)*(q:Int))=(x:Int):=by
   rw[show(a:Int)*(q:Int)=(x:Int) by rw[G];simp];exact wrapN oM
  rw[<-G] at f;simp only[push_cast,h.ld0,h.ld1,true_and,and_self,e];refine l1Mod_spec u p oM oM ?_;rw[show(x:Int)%((2^k:Nat):Int)=((x%2^k:Nat):Int) from rfl,f];exact y _ (i.trans g)
 refine zb (λc2=>?_) (λc2=>?_)
 ·have:op=12:=oM;subst this;have f:=shr_ck u p r A;rw[<-E] at f;refine zd λw2 g _=>?_;have h:=l.ext g;simp only[push_cast,h.ld1,true_and];refine l1Two_nat oM ?_;obtain⟨q,o⟩:∃q,q=2^n:=⟨_,rfl⟩;rw[<-o] at f j⊢;have B:=Gq a q;simp only[push_cast,h.ld1,true_and,and_self];rw[ki oM,show(a:Int).tdiv (q:Int)=((a/q:Nat):Int) from rfl,wrapN oM,f];exact⟨rfl,y _ (i.trans g)⟩
 ·have:op=13:=oM;subst this;have f:=sar_ck u p r A;rw[<-E] at f;have H:IntKind.i64.wrap ((k:Int)-1)=((k-1:Nat):Int):=by rw[zl oM oM];omega
  simp only[push_cast,l.ld0,l.ld1,H];refine l1Bit_spec oM oM ?_;obtain⟨z,R⟩:∃z,z=a/2^(k-1)%2:=⟨_,rfl⟩;rw[<-R] at f⊢;simp only[push_cast];refine zb (λc3=>?_) (λc3=>?_)
  ·rw[if_pos oM] at f;refine zd λw2 g _=>?_;have h:=l.ext g;simp only[push_cast,h.ld1,true_and];refine l1Two_nat oM ?_;obtain⟨q,o⟩:∃q,q=2^n:=⟨_,rfl⟩;rw[<-o] at f j⊢;have B:=Gq a q;simp only[push_cast,h.ld1,true_and,and_self];rw[ki oM,show(a:Int).tdiv (q:Int)=((a/q:Nat):Int) from rfl,wrapN oM,f];exact⟨rfl,y _ (i.trans g)⟩
  ·rw[if_neg oM] at f;simp only[push_cast,l.ld0];refine l1Two_nat oM ?_;obtain⟨m,hm⟩:∃m,m=2^k:=⟨_,rfl⟩;rw[<-hm] at f O r⊢;have F:IntKind.i64.wrap ((m:Int)-1)=((m-1:Nat):Int):=by rw[zl oM oM];omega
   have v:IntKind.i64.wrap (((m-1:Nat):Int)-(a:Int))=((m-1-a:Nat):Int):=by rw[zl oM oM];omega
   obtain⟨m1,D⟩:∃m1,m1=m-1:=⟨_,rfl⟩;rw[<-D] at F v f;obtain⟨m2,t⟩:∃m2,m2=m1-a:=⟨_,rfl⟩;rw[<-t] at v f;simp only[push_cast,F];refine zd λw2 g _=>?_;have h:=l.ext g;simp only[push_cast,h.ld1,true_and,v];refine l1Two_nat oM ?_;obtain⟨q,o⟩:∃q,q=2^n:=⟨_,rfl⟩;rw[<-o] at f j⊢;have B:=Gq m2 q;simp only[push_cast,h.ld1,true_and,and_self,v];rw[ki oM,show(m2:Int).tdiv (q:Int)=((m2/q:Nat):Int) from rfl,wrapN oM];refine⟨rfl,?_⟩;obtain⟨d,C⟩:∃d,d=m2/q:=⟨_,rfl⟩;rw[<-C] at f B⊢;simp only[push_cast];rw[zl oM oM,show(m1:Int)-(d:Int)=((m1-d:Nat):Int) by omega,f];exact⟨trivial,y _ (i.trans g)⟩
theorem bin4 {op k a b:Nat} (d:3<=op) (e:op<=5):M.binN op 4 a b=M.binN op k a b:=by
 unfold M.binN;by_cases h:op=3
 ·rw[if_pos h,if_pos h]
 by_cases c:op=4
 ·rw[if_neg h,if_neg h,if_pos c,if_pos c]
 ·rw[if_neg h,if_neg h,if_neg c,if_neg c,if_pos oM,if_pos oM]
theorem l1Bin_spec {k a l b:Nat} {op:Int} (D:1<=k) (y:k<=4) (S:a<2^k) (l4:l<=4) (T:b<2^l) (j:∀w' (r:Int),Ext w w'->3<=op->op<=13->(k=l->r=((M.binN op.toNat k a b:Nat):Int))->K (.tuple #[nI r,.bool true]) w')
  (L:∀w',Ext w w'->¬(3<=op/\op<=13)->K (.tuple #[nI 0,.bool false]) w'):vcall zw0 #[nI op,xY k a,xY l b] w K:=by
 refine ze {cuts:=[(12293,[9])]} Tryz.func254 ?_;have X:=pow4 D y;have n:=pow16 y S;have h:=pow16 l4 T;refine zi λb1 w1 V I Y U=>?_;refine zi λb2 w2 W B Z g2=>?_;have f:=U.ext B;have i:=I.trans B;refine zp (λu w'=>u=[.bool (decide (3<=op/\op<=5))]/\w'=w2) (λC H=>?_) ?_
 ·simp only[push_cast];refine zb (λc=>?_) (λc=>?_)
  ·exact H _ _ ⟨by rw[decide_eq_true (show 3<=op/\op<=5 by omega),decide_eq_true c],rfl⟩
  refine zb (λc2=>?_) (λc2=>?_)
  ·exact H _ _ ⟨by rw[decide_eq_true (show 3<=op/\op<=5 by omega),decide_eq_true c2],rfl⟩
  ·refine H _ _ ⟨?_,rfl⟩;by_cases c3:op=5
   ·rw[decide_eq_true (show 3<=op/\op<=5 by omega),decide_eq_true c3]
   ·rw[decide_eq_false (show¬(3<=op/\op<=5) by omega),decide_eq_false c3]
 ·rintro u g w3 ⟨rfl,rfl⟩;simp only[push_cast];refine zb (λc=>?_) (λc=>?_)
  ·simp only[push_cast,f.ld1,g2.ld1];obtain⟨o,rfl⟩:∃o:Nat,op=o:=⟨op.toNat,oM⟩;refine l1Bits_spec oM oM n h ?_;refine j _ _ i oM oM λe=>?_;rw[gl,bin4 (k:=k) oM oM]
  refine zb (λN=>?_) (λN=>?_)
  ·subst N;simp only[push_cast,f.ld0,f.ld1,g2.ld1];rw[zl (x:=(a:Int)+b) oM oM];refine l1Mod_spec D y oM oM ?_;refine j _ _ i oM oM λe=>?_;show _=(((a+b)%2^k:Nat):Int);rw[show(a:Int)+(b:Int)=((a+b:Nat):Int) by omega];rfl
  refine zb (λO=>?_) (λO=>?_)
  ·subst O;simp only[push_cast,f.ld0,f.ld1,g2.ld1];rw[zl (x:=(a:Int)-b) oM oM];refine l1Mod_spec D y oM oM ?_;refine j _ _ i oM oM λe=>?_;subst e;show _=(((a+2^k-b)%2^k:Nat):Int);rcases(by omega:k=1\/k=2\/k=3\/k=4) with rfl|rfl|rfl|rfl<;>simp at T⊢ <;>omega
  refine zb (λQ=>?_) (λQ=>?_)
  ·subst Q;have hm:=mul225 n h;simp only[push_cast,f.ld0,f.ld1,g2.ld1];rw[show(a:Int)*(b:Int)=((a*b:Nat):Int) by simp,wrapN oM];refine l1Mod_spec D y oM oM ?_;exact j _ _ i oM oM λe=>rfl
  refine zb (λR=>?_) (λR=>?_)
  ·subst R;simp only[push_cast,g2.ld1];refine zb (λd=>?_) (λd=>?_)
   ·have s:b=0:=oM;subst s;simp only[push_cast,f.ld0];refine l1Two_nat oM ?_;obtain⟨m,hm⟩:∃m,m=2^k:=⟨_,rfl⟩;rw[<-hm] at X⊢;simp only[push_cast];rw[zl oM oM];refine j _ _ i oM oM λe=>?_;have:M.binN (9:Int).toNat k a 0=2^k-1:=(by simp[M.binN]);rw[this,<-hm];omega
   ·simp only[push_cast,f.ld1,g2.ld1];have hd:=Gq a b;rw[ki oM,show(a:Int).tdiv (b:Int)=((a/b:Nat):Int) from rfl,wrapN oM];refine j _ _ i oM oM λe=>?_;have:M.binN (9:Int).toNat k a b=a/b:=(by simp[M.binN,show b≠0 by omega]);rw[this]
  refine zb (λz=>?_) (λz=>?_)
  ·subst z;simp only[push_cast,g2.ld1];refine zb (λd=>?_) (λd=>?_)
   ·have s:b=0:=oM;subst s;simp only[push_cast,f.ld1];refine j _ _ i oM oM λe=>?_;have:M.binN (10:Int).toNat k a 0=a:=(by simp[M.binN]);rw[this]
   ·simp only[push_cast,f.ld1,g2.ld1];rw[kV oM,show(a:Int).tmod (b:Int)=((a%b:Nat):Int) from rfl];refine j _ _ i oM oM λe=>?_;have:M.binN (10:Int).toNat k a b=a%b:=(by simp[M.binN,show b≠0 by omega]);rw[this]
  have v:∀o:Nat,11<=o->o<=13->op=o->zt zg (oP b1 0) w3 λt80 E=>zt zV (oP b2 1) E λt82 F=>vcall YE #[nI op,t80,t82] F λt83 G=>K (.tuple #[t83,.bool true]) G:=by
   intro o o1 o2 e;subst e;simp only[push_cast,f.ldAgg (t:=zg) zr,g2.ld1];refine l1Shift_spec o1 o2 D y S h λw4 J=>?_;exact j _ _ (i.trans J) oM oM λe=>rfl
  refine zb (λp=>?_) (λp=>?_)
  ·simp only[decide_eq_true p,Yi0];exact v 11 oM oM p
  refine zb (λq=>?_) (λq=>?_)
  ·simp only[decide_eq_true q,Yi0];exact v 12 oM oM q
  refine zb (λA=>?_) (λA=>?_)
  ·exact v 13 oM oM A
  ·exact L _ i oM
theorem spec_VecUn_spec {op wd n:Int} (l:∀w',Ext w w'->K (.tuple #[xY (M.vecUn op wd n).1.1 (M.vecUn op wd n).1.2,.bool (M.vecUn op wd n).2]) w'):vcall zx0 #[nI op,xY wd n] w K:=by
 refine ze {ord:=[oz 5 [0,1,2,3,6,7,4,5,8,9,10,11] [(0,[2,3,6,7,4,5,8]),(1,[2,3,6,7,4,5,8]),(2,[6,7]),(3,[6,7]),(6,[4,5]),(7,[4,5])],oz 7 (oR 11) [(0,[2,3,4,5,6,7]),(1,[2,3,4,5,6,7]),(2,[5,6]),(3,[5,6]),(4,[5,6])]]} Tryz.func218 ?_;refine zi λb1 w1 H o L E=>?_;refine zj zX λb2 w2 I p N g2=>?_;have u:=E.ext p;simp only[push_cast,u.ldAgg (t:=zg) zr];refine spec_VecOk_spec λw3 f=>?_;have v:=u.ext f;have g3:=g2.ext f;have F:=(o.trans p).trans f;have c:∀d r,Ext w3 d->Same (· =b2) d r->Ext w r:=λd r h D=>Ext.then (F.trans h) D λy O=>by subst O;have:=o.size;omega
 simp only[push_cast];unfold M.vecUn at l;refine zo (λg=>?_) (λg=>?_)
 ·refine stVec g3 λd i _ g4=>?_;rw[g4.lv rK];have:=l d (c _ _ (Same.refl _ _) i);rwa[if_neg (by simp at g;simp[g])] at this
 ·rw[gM] at g;obtain⟨k,a,rfl,rfl,x,z,G⟩:=M.vok_nat g;have J:=pow4 x z;refine zb (λq=>?_) (λq=>?_)
  ·subst q;refine zd λd b _=>?_;have e:=v.ext b;simp only[push_cast,e.ld0,e.ld1,true_and];refine l1Two_nat oM ?_;have hu:M.unM 1 (k:Int) (a:Int)=((2^k:Nat):Int)-1-a:=(by simp[M.unM]);obtain⟨m,hm⟩:∃m,m=2^k:=⟨_,rfl⟩;rw[<-hm] at J hu G⊢;have B:IntKind.i64.wrap ((m:Int)-1)=(m:Int)-1:=zl oM oM;have C:IntKind.i64.wrap ((m:Int)-1-(a:Int))=(m:Int)-1-a:=zl oM oM;simp only[push_cast,e.ld0,e.ld1,true_and,and_self,B,C];refine stVec (g3.ext b) λs j _ g7=>?_;rw[g7.lv rK];have:=l s (c _ _ b j);rw[if_pos ⟨g,.inl rfl⟩,hu] at this;exact this
  refine zb (λa2=>?_) (λa2=>?_)
  ·subst a2;refine zd λd b _=>?_;have e:=v.ext b;have A:IntKind.i64.wrap (0-(a:Int))=0-(a:Int):=zl oM oM;simp only[push_cast,e.ld0,e.ld1,true_and,A];refine l1Mod_spec x z oM oM ?_;have hu:M.unM 2 (k:Int) (a:Int)=(0-(a:Int))%((2^k:Nat):Int):=by
    unfold M.unM;rw[if_neg oM,gl];rcases(by omega:k=1\/k=2\/k=3\/k=4) with rfl|rfl|rfl|rfl<;>simp<;>omega
   obtain⟨m,hm⟩:∃m:Int,m=(0-(a:Int))%((2^k:Nat):Int):=⟨_,rfl⟩;rw[<-hm] at hu⊢;simp only[push_cast,e.ld0,true_and,and_self];refine stVec (g3.ext b) λs j _ g7=>?_;rw[g7.lv rK];have:=l s (c _ _ b j);rw[if_pos ⟨g,.inr rfl⟩,hu] at this;exact this
  ·refine stVec g3 λd i _ g4=>?_;rw[g4.lv rK];have:=l d (c _ _ (Same.refl _ _) i);rwa[if_neg (λh=>h.2.elim q a2)] at this
theorem spec_VecBin_spec {op wd n v m:Int} (z:∀w',Ext w w'->K (.tuple #[xY (M.vecBin op wd n v m).1.1 (M.vecBin op wd n v m).1.2,.bool (M.vecBin op wd n v m).2]) w'):vcall WF #[nI op,xY wd n,xY v m] w K:=by
 refine ze {ord:=[oz 6 [0,1,2,3,4,5,6,7,8,11,12,9,10,13,14,15,16] [(0,[2,3,5,6,7,8,11,12,9,10,13]),(1,[2,3,5,6,7,8,11,12,9,10,13]),(2,[5,6,7,8,11,12,9,10,13]),(3,[5,6,7,8,11,12,9,10,13]),(4,[5,6,7,8,11,12,9,10,13]),(5,[7,8,11,12,9]),(6,[7,8,11,12,9]),(7,[11,12]),(8,[11,12]),(11,[9,10]),(12,[9,10])]],cuts:=[(8195,[])]} Tryz.func220 ?_;refine zi λb1 w1 a0 F a5 h1=>?_;refine zi λb2 w2 a3 A a6 g2=>?_;refine zj zX λb3 w3 a4 B a7 r3=>?_;have hE:=(F.trans A).trans B;have a8:=F.size;have a9:=A.size;have W:=(h1.ext A).ext B;have g3:=g2.ext B;have j:∀o p,Ext w3 o->Same (· =b3) o p->Ext w p:=λo p h h'=>Ext.then (hE.trans h) h' λy hy=>by subst hy;omega
 have f:(M.vecBin op wd n v m)=((0,0),false)->∀o,Ext w3 o->zU zg (oP b3 0) (xY 0 0) o λ_ p=>vlv zg (oP b3 0) p λr w6=>K (.tuple #[r,.bool false]) w6:=by
  intro e o c;refine stVec (r3.ext c) λp S _ r5=>?_;rw[r5.lv rK];have:=z p (j _ _ c S);rwa[e] at this
 refine zp (λu o=>u=[]/\Ext w3 o/\M.vok wd n=true/\M.vok v m=true) (λC hC=>?_) ?_
 ·simp only[push_cast,W.ldAgg (t:=zg) zr];refine spec_VecOk_spec λo c=>?_;have g4:=g3.ext c;simp only[push_cast];refine zo (λI=>f ?_ _ c) (λI=>?_)
  ·unfold M.vecBin;rw[if_neg (by simp at I;simp[I])]
  ·simp only[push_cast,g4.ldAgg (t:=zg) zr];refine spec_VecOk_spec λp d=>?_;simp only[push_cast];refine zo (λi=>f ?_ _ (c.trans d)) (λi=>?_)
   ·unfold M.vecBin;rw[if_neg (by simp at i;simp[i])]
   ·exact hC _ _ ⟨rfl,c.trans d,by simpa using I,by simpa using i⟩
 ·rintro u g o ⟨rfl,c,G,i⟩;have H:=W.ext c;have g4:=g3.ext c;have r4:=r3.ext c;obtain⟨k,a,rfl,rfl,k1,k4,X⟩:=M.vok_nat G;obtain⟨l,b,rfl,rfl,l1,T,Y⟩:=M.vok_nat i;have E:=pow16 k4 X;have Z:=pow16 T Y;unfold M.vecBin at z f;rw[if_pos ⟨G,i⟩] at z f;simp only[push_cast];refine zb (λJ=>?_) (λJ=>?_)
  ·rw[if_pos J] at z f;have N:IntKind.i64.wrap ((k:Int)+(l:Int))=(k:Int)+(l:Int):=zl oM oM;simp only[push_cast,H.ld0,g4.ld0,N];refine zb (λa2=>f (if_neg oM) _ c) (λa2=>?_);refine zd λp d _=>?_;have x:=H.ext d;have g5:=g4.ext d;simp only[push_cast,x.ld0,x.ld1,g5.ld0,g5.ld1,true_and,N];refine l1Two_nat oM ?_;have Q:=pow4 l1 T;have s:M.catM (l:Int) (a:Int) (b:Int)=(a:Int)*((2^l:Nat):Int)+b:=(by simp[M.catM]);have hm:=mul225 E (show 2^l-1<16 by omega);have R:a*2^l=a*(2^l-1)+a:=by rw[<-Nat.mul_succ];congr 1;omega
   obtain⟨q,hq⟩:∃q,q=2^l:=⟨_,rfl⟩;rw[<-hq] at s hm R Q⊢;have hz:(a:Int)*(q:Int)=((a*q:Nat):Int):=(by simp);have e2:IntKind.i64.wrap ((a:Int)*(q:Int))=(a:Int)*(q:Int):=zl oM oM;have e3:IntKind.i64.wrap ((a:Int)*(q:Int)+(b:Int))=(a:Int)*(q:Int)+b:=zl oM oM;simp only[push_cast,x.ld0,x.ld1,g5.ld0,g5.ld1,true_and,N,e2,e3,and_self];refine stVec (r4.ext d) λV D _ U=>?_;rw[U.lv rK];have:=z V (j _ _ (c.trans d) D);rw[if_pos oM,s] at this;exact this
  ·rw[if_neg J] at z f;simp only[push_cast,H.ldAgg (t:=zg) zr,g4.ldAgg (t:=zg) zr];refine l1Bin_spec k1 k4 X T Y (λp r d c3 L hr=>?_) λp d hn=>?_
   ·have x:=H.ext d;have g5:=g4.ext d;simp only[push_cast,x.ld0,g5.ld0,Gc];refine zb (λa2=>f (if_neg oM) _ (c.trans d)) (λa2=>?_);have O:k=l:=oM;subst O
    try simp only[push_cast,x.ld0]
    refine stVec (r4.ext d) λV D _ U=>?_;rw[U.lv rK];have:=z V (j _ _ (c.trans d) D);rw[if_pos ⟨c3,L,rfl⟩] at this;rw[hr rfl];exact this
   ·simp only[push_cast,Pv];exact f (if_neg (λh=>hn ⟨h.1,h.2.1⟩)) _ (c.trans d)
theorem spec_VecCmp_spec {op wd n v m:Int} (q:∀w',Ext w w'->K (.tuple #[.bool (M.vecCmp op wd n v m).1,.bool (M.vecCmp op wd n v m).2]) w'):vcall WE #[nI op,xY wd n,xY v m] w K:=by
 refine ze {ord:=[oz 9 [0,2,1,3,4,5,6] [(0,[2]),(2,[1])]],cuts:=[(8195,[])]} Tryz.func219 ?_;refine zi λb1 w1 O D R I=>?_;refine zi λb2 w2 Q r S g2=>?_;have x:=D.trans r;have z:=I.ext r;have i:(M.vecCmp op wd n v m)=(false,false)->∀j,Ext w2 j->K (.tuple #[.bool false,.bool false]) j:=by
  intro e j c;have:=q j (x.trans c);rwa[e] at this
 refine zp (λu j=>u=[]/\Ext w2 j/\M.vok wd n=true/\M.vok v m=true/\wd=v) (λC J=>?_) ?_
 ·simp only[push_cast,z.ldAgg (t:=zg) zr];refine spec_VecOk_spec λj c=>?_;have g4:=g2.ext c;simp only[push_cast];refine zo (λy=>i ?_ _ c) (λy=>?_)
  ·unfold M.vecCmp;rw[if_neg (by simp at y;simp[y])]
  ·simp only[push_cast,g4.ldAgg (t:=zg) zr];refine spec_VecOk_spec λT d=>?_;have g5:=g4.ext d;have B:=(z.ext c).ext d;simp only[push_cast];refine zo (λf=>i ?_ _ (c.trans d)) (λf=>?_)
   ·unfold M.vecCmp;rw[if_neg (by simp at f;simp[f])]
   ·simp only[push_cast,B.ld0,g5.ld0];refine zb (λp=>i ?_ _ (c.trans d)) (λp=>?_)
    ·unfold M.vecCmp;rw[if_neg (λh=>p h.2.2.1)]
    ·exact J _ _ ⟨rfl,c.trans d,by simpa using y,by simpa using f,oM⟩
 ·rintro u g j ⟨rfl,c,o,f,rfl⟩;have A:=z.ext c;have g4:=g2.ext c;unfold M.vecCmp at q i;simp only[push_cast];refine zb (λp=>?_) (λp=>?_)
  ·subst p;simp only[push_cast,A.ld1,g4.ld1];have:=q j (x.trans c);rw[if_pos ⟨o,f,rfl,oM,oM⟩] at this;exact this
  refine zb (λa2=>?_) (λa2=>?_)
  ·subst a2;simp only[push_cast,A.ld1,g4.ld1];have:=q j (x.trans c);rw[if_pos ⟨o,f,rfl,oM,oM⟩] at this;exact this
  refine zb (λa3=>?_) (λa3=>?_)
  ·subst a3;obtain⟨k,a,rfl,rfl,G,H,L⟩:=M.vok_nat o;obtain⟨l,b,V,rfl,W,X,N⟩:=M.vok_nat f;have F:l=k:=oM;subst F;refine zd λT d _=>?_;have B:=A.ext d;have g5:=g4.ext d;simp only[push_cast,B.ldAgg (t:=zg) zr,g5.ldAgg (t:=zg) zr,true_and];refine l1Signed_spec G H L λY s=>?_;have g6:=g5.ext s;simp only[push_cast,g6.ldAgg (t:=zg) zr,true_and,and_self];refine l1Signed_spec G H N λU E=>?_;simp only[push_cast,true_and];have:=q U (((x.trans c).trans d).trans (s.trans E));rw[if_pos ⟨o,f,rfl,oM,oM⟩] at this;exact this
  ·exact i (by rw[if_neg (λh=>oM)]) _ c
theorem spec_VecCut_spec {wd n hi lo:Int} (i:∀w',Ext w w'->K (.tuple #[xY (M.vecCut wd n hi lo).1.1 (M.vecCut wd n hi lo).1.2,.bool (M.vecCut wd n hi lo).2]) w'):vcall WD #[xY wd n,nI hi,nI lo] w K:=by
 refine ze {ord:=[oz 4 [0,1,2,3,6,4,5,7,8,9,10,11] [(0,[1,2,3,6,4,5,7,8]),(1,[3,6,4,7]),(2,[3,6,4,7]),(3,[6]),(6,[4,5]),(5,[7])]],cuts:=[(8195,[])]} Tryz.func217 ?_;refine zi λb1 w1 a0 v a5 W=>?_;refine zj zX λb3 w3 a4 A a6 S=>?_;have Y:=v.trans A;have a7:=v.size;have D:=W.ext A;have j:∀f m,Ext w3 f->Same (· =b3) f m->Ext w m:=λf m h V=>Ext.then (Y.trans h) V λy hy=>by subst hy;omega
 have c:(M.vecCut wd n hi lo)=((0,0),false)->∀f,Ext w3 f->zU zg (oP b3 0) (xY 0 0) f λ_ m=>vlv zg (oP b3 0) m λr O=>K (.tuple #[r,.bool false]) O:=by
  intro e f b;refine stVec (S.ext b) λm L _ r5=>?_;rw[r5.lv rK];have:=i m (j _ _ b L);rwa[e] at this
 unfold M.vecCut at i c;refine zp (λu f=>u=[]/\Ext w3 f/\M.vok wd n=true/\0<=lo/\lo<=hi/\hi<wd) (λC X=>?_) ?_
 ·simp only[push_cast,D.ldAgg (t:=zg) zr];refine spec_VecOk_spec λf b=>?_;have E:=D.ext b;simp only[push_cast];refine zo (λp=>c ?_ _ b) (λp=>?_)
  ·rw[if_neg (by simp at p;simp[p])]
  refine zb (λT=>c (if_neg oM) _ b) (λT=>?_);refine zb (λa2=>c (if_neg oM) _ b) (λa2=>?_);simp only[push_cast,E.ld0];refine zb (λa3=>c (if_neg oM) _ b) (λa3=>?_);exact X _ _ ⟨rfl,b,by simpa using p,oM,oM,oM⟩
 ·rintro u g f ⟨rfl,b,p,c1,c2,c3⟩;have E:=D.ext b;have r4:=S.ext b;obtain⟨k,a,rfl,rfl,k1,k4,Z⟩:=M.vok_nat p;obtain⟨l,rfl⟩:∃l:Nat,lo=l:=⟨lo.toNat,oM⟩;obtain⟨t,R⟩:∃t:Nat,hi-(l:Int)+1=t:=⟨(hi-l+1).toNat,oM⟩;have Q:=pow16 k4 Z;have U:IntKind.i64.wrap (IntKind.i64.wrap (hi-(l:Int))+1)=(t:Int):=by rw[zl (x:=hi-l) oM oM,zl oM oM];omega
  simp only[push_cast,U];refine zd λm o _=>?_;have F:=E.ext o;simp only[push_cast,F.ld1,true_and];refine l1Two_nat oM ?_;have B:M.cutM (a:Int) hi (l:Int)=((a/2^l%2^t:Nat):Int):=by
   unfold M.cutM;rw[R];simp
  rw[if_pos ⟨p,c1,c2,c3⟩] at i;simp only[B,R] at i;have H:0<2^l:=PO oM;have I:0<2^t:=PO oM;obtain⟨q,hq⟩:∃q,q=2^l:=⟨_,rfl⟩;rw[<-hq] at H i⊢;have hd:=Gq a q;have eQ:∀(w:World) (K:oK),qC .quo zV false (nI (a:Int)) (nI (q:Int)) w K=K (nI ((a/q:Nat):Int)) w:=λw K=>by
   rw[ki oM,show(a:Int).tdiv (q:Int)=((a/q:Nat):Int) from rfl,wrapN oM]
  obtain⟨d,G⟩:∃d,d=a/q:=⟨_,rfl⟩;rw[<-G] at eQ hd i;simp only[push_cast,F.ld1,true_and,and_self,eQ];refine l1Two_nat oM ?_;obtain⟨s,J⟩:∃s,s=2^t:=⟨_,rfl⟩;rw[<-J] at I i⊢;have eR:∀(w:World) (K:oK),qC .rem zV false (nI (d:Int)) (nI (s:Int)) w K=K (nI ((d%s:Nat):Int)) w:=λw K=>by
   rw[kV oM,show(d:Int).tmod (s:Int)=((d%s:Nat):Int) from rfl]
  obtain⟨z,hz⟩:∃z,z=d%s:=⟨_,rfl⟩;rw[<-hz] at i eR;simp only[push_cast,F.ld1,true_and,and_self,eQ,eR];refine stVec (r4.ext o) λO N _ r6=>?_;rw[r6.lv rK];exact i O (j _ _ (b.trans o) N)
end
section
variable {w:World} {K:oK} {F G:Nat->Prop}
theorem unKind_value_spec {s:ByteArray} {n:Int} {ev tv kv:Value} {t:M.Tm} {xs:List (Int×Int)} (R:TermR F w tv t) (S:PairsR G w kv xs) (Y:xs.length=1)
  (I:∀w',Ext w w'->K (nI (M.vecUn t.op (xs.getD 0 (0,0)).1 (xs.getD 0 (0,0)).2).1.2) w'):vcall jQ #[KV s n,ev,tv,kv] w K:=by
 refine ze {cuts:=[(8194,[9])],trees:=[(1,(.st 0 (.st 1 (.st 2 (.st 3 (.st 4 (.alt 5 (.st 6 (.st 7 (.st 8 (.alt 9 (.alt 10 (.st 11 .nil) .no) .no)))) (.alt 9 (.alt 5 (.st 6 (.st 7 (.st 8 (.alt 10 (.st 11 .nil) .no)))) .no) .no))))))),[(0,[1,5,6,7,8,10,11]),(1,[5,6,7,8,10,11]),(2,[3,4,5,6,7,8,10,11]),(3,[4,5,6,7,8,10,11]),(4,[5,6,7,8,10,11]),(5,[6,7,8,10,11]),(6,[7,8,10,11]),(7,[10,11]),(8,[11]),(9,[10,11]),(10,[11])])]} Tryz.func356 ?_;obtain⟨ksv,rfl,N⟩:=R;refine zi λb1 w1 J m O X=>?_;refine zi λb2 w2 L o Q B=>?_;have z:=m.trans o;have Z:=z.size;refine zp (λu w'=> ∃b wd,u=[oP b 0]/\Ext w w'/\Blk w' b [nI wd,nI (M.vecUn t.op (xs.getD 0 (0,0)).1 (xs.getD 0 (0,0)).2).1.2] zg) (λC x=>?_) ?_
 ·refine zd λw3 d _=>?_;have c:=z.trans d;have e:=S.ext c;have j:=B.ext d;have T:=c.size;simp(disch:=first|omega|simp only[push_cast]) only[push_cast,j.ld0,e.iaddr,e.load,true_and,and_true];refine⟨?_,?_⟩
  ·refine VecUn_spec λw4 f=>?_;have U:=f.size;simp only[push_cast,true_and];refine zj zX λA V l a p k=>?_
   try simp only[push_cast,true_and,and_self]
   refine stVec k λW q _ E=>?_
   try simp only[push_cast,true_and,and_self]
   exact x _ _ ⟨_,_,rfl,Ext.then ((c.trans f).trans a) q λy v=>by subst v;omega,E⟩
  ·refine zj zX λA V l a p k=>?_;have D:=j.ext a;have i:=e.ext a;simp(disch:=first|omega|simp only[push_cast]) only[push_cast,D.ld0,i.iaddr,i.load,true_and,and_self,and_true];refine VecUn_spec λW h=>?_;simp only[push_cast,true_and];refine stVec (k.ext h) λw7 r _ H=>?_
   try simp only[push_cast,true_and,and_self]
   exact x _ _ ⟨_,_,rfl,Ext.then ((c.trans a).trans h) r λy v=>by subst v;omega,H⟩
 ·rintro u g w3 ⟨b,wd,rfl,d,j⟩;simp only[push_cast,j.ld1];exact I _ d
theorem binKind_value_spec {s:ByteArray} {n:Int} {ev tv kv:Value} {t:M.Tm} {xs:List (Int×Int)} (R:TermR F w tv t) (S:PairsR G w kv xs) (Y:xs.length=2)
  (I:∀w',Ext w w'->K (nI (M.vecBin t.op (xs.getD 0 (0,0)).1 (xs.getD 0 (0,0)).2 (xs.getD 1 (0,0)).1 (xs.getD 1 (0,0)).2).1.2) w'):vcall jA #[KV s n,ev,tv,kv] w K:=by
 refine ze {cuts:=[(8194,[9])],trees:=[(1,(.st 0 (.st 1 (.st 2 (.st 3 (.st 4 (.st 5 (.st 6 (.st 7 (.alt 8 (.st 9 (.st 10 (.st 11 (.alt 12 (.alt 13 (.st 14 .nil) .no) .no)))) (.alt 12 (.alt 8 (.st 9 (.st 10 (.st 11 (.alt 13 (.st 14 .nil) .no)))) .no) .no)))))))))),[(0,[1,8,9,10,11,13,14]),(1,[8,9,10,11,13,14]),(2,[3,4,8,9,10,11,13,14]),(3,[4,8,9,10,11,13,14]),(4,[8,9,10,11,13,14]),(5,[6,7,8,9,10,11,13,14]),(6,[7,8,9,10,11,13,14]),(7,[8,9,10,11,13,14]),(8,[9,10,11,13,14]),(9,[10,11,13,14]),(10,[13,14]),(11,[14]),(12,[13,14]),(13,[14])])]} Tryz.func396 ?_;obtain⟨ksv,rfl,N⟩:=R;refine zi λb1 w1 J m O X=>?_;refine zi λb2 w2 L o Q B=>?_;have z:=m.trans o;have Z:=z.size;refine zp (λu w'=> ∃b wd,u=[oP b 0]/\Ext w w'/\Blk w' b [nI wd,nI (M.vecBin t.op (xs.getD 0 (0,0)).1 (xs.getD 0 (0,0)).2 (xs.getD 1 (0,0)).1 (xs.getD 1 (0,0)).2).1.2] zg) (λC x=>?_) ?_
 ·refine zd λw3 d _=>?_;have c:=z.trans d;have e:=S.ext c;have j:=B.ext d;have T:=c.size;simp(disch:=first|omega|simp only[push_cast]) only[push_cast,j.ld0,e.iaddr,e.load,true_and,and_true];refine⟨?_,?_⟩
  ·refine VecBin_spec λw4 f=>?_;have U:=f.size;simp only[push_cast,true_and];refine zj zX λA V l a p k=>?_
   try simp only[push_cast,true_and,and_self]
   refine stVec k λW q _ E=>?_
   try simp only[push_cast,true_and,and_self]
   exact x _ _ ⟨_,_,rfl,Ext.then ((c.trans f).trans a) q λy v=>by subst v;omega,E⟩
  ·refine zj zX λA V l a p k=>?_;have D:=j.ext a;have i:=e.ext a;simp(disch:=first|omega|simp only[push_cast]) only[push_cast,D.ld0,i.iaddr,i.load,true_and,and_self,and_true];refine VecBin_spec λW h=>?_;simp only[push_cast,true_and];refine stVec (k.ext h) λw7 r _ H=>?_
   try simp only[push_cast,true_and,and_self]
   exact x _ _ ⟨_,_,rfl,Ext.then ((c.trans a).trans h) r λy v=>by subst v;omega,H⟩
 ·rintro u g w3 ⟨b,wd,rfl,d,j⟩;simp only[push_cast,j.ld1];exact I _ d
theorem catKind_value_spec {s:ByteArray} {n:Int} {ev tv kv:Value} {t:M.Tm} {xs:List (Int×Int)} (R:TermR F w tv t) (S:PairsR G w kv xs) (Y:xs.length=2)
  (I:∀w',Ext w w'->K (nI (M.vecBin t.op (xs.getD 0 (0,0)).1 (xs.getD 0 (0,0)).2 (xs.getD 1 (0,0)).1 (xs.getD 1 (0,0)).2).1.2) w'):vcall jy #[KV s n,ev,tv,kv] w K:=by
 refine ze {cuts:=[(8194,[9])],trees:=[(1,(.st 0 (.st 1 (.st 2 (.st 3 (.st 4 (.st 5 (.st 6 (.st 7 (.alt 8 (.st 9 (.st 10 (.st 11 (.alt 12 (.alt 13 (.st 14 .nil) .no) .no)))) (.alt 12 (.alt 8 (.st 9 (.st 10 (.st 11 (.alt 13 (.st 14 .nil) .no)))) .no) .no)))))))))),[(0,[1,8,9,10,11,13,14]),(1,[8,9,10,11,13,14]),(2,[3,4,8,9,10,11,13,14]),(3,[4,8,9,10,11,13,14]),(4,[8,9,10,11,13,14]),(5,[6,7,8,9,10,11,13,14]),(6,[7,8,9,10,11,13,14]),(7,[8,9,10,11,13,14]),(8,[9,10,11,13,14]),(9,[10,11,13,14]),(10,[13,14]),(11,[14]),(12,[13,14]),(13,[14])])]} Tryz.func362 ?_;obtain⟨ksv,rfl,N⟩:=R;refine zi λb1 w1 J m O X=>?_;refine zi λb2 w2 L o Q B=>?_;have z:=m.trans o;have Z:=z.size;refine zp (λu w'=> ∃b wd,u=[oP b 0]/\Ext w w'/\Blk w' b [nI wd,nI (M.vecBin t.op (xs.getD 0 (0,0)).1 (xs.getD 0 (0,0)).2 (xs.getD 1 (0,0)).1 (xs.getD 1 (0,0)).2).1.2] zg) (λC x=>?_) ?_
 ·refine zd λw3 d _=>?_;have c:=z.trans d;have e:=S.ext c;have j:=B.ext d;have T:=c.size;simp(disch:=first|omega|simp only[push_cast]) only[push_cast,j.ld0,e.iaddr,e.load,true_and,and_true];refine⟨?_,?_⟩
  ·refine VecBin_spec λw4 f=>?_;have U:=f.size;simp only[push_cast,true_and];refine zj zX λA V l a p k=>?_
   try simp only[push_cast,true_and,and_self]
   refine stVec k λW q _ E=>?_
   try simp only[push_cast,true_and,and_self]
   exact x _ _ ⟨_,_,rfl,Ext.then ((c.trans f).trans a) q λy v=>by subst v;omega,E⟩
  ·refine zj zX λA V l a p k=>?_;have D:=j.ext a;have i:=e.ext a;simp(disch:=first|omega|simp only[push_cast]) only[push_cast,D.ld0,i.iaddr,i.load,true_and,and_self,and_true];refine VecBin_spec λW h=>?_;simp only[push_cast,true_and];refine stVec (k.ext h) λw7 r _ H=>?_
   try simp only[push_cast,true_and,and_self]
   exact x _ _ ⟨_,_,rfl,Ext.then ((c.trans a).trans h) r λy v=>by subst v;omega,H⟩
 ·rintro u g w3 ⟨b,wd,rfl,d,j⟩;simp only[push_cast,j.ld1];exact I _ d
theorem cutKind_value_spec {s:ByteArray} {n:Int} {ev tv kv:Value} {t:M.Tm} {xs:List (Int×Int)} (S:TermR F w tv t) (T:PairsR G w kv xs) (Z:xs.length=1)
  (J:∀w',Ext w w'->K (nI (M.vecCut (xs.getD 0 (0,0)).1 (xs.getD 0 (0,0)).2 t.a t.b).1.2) w'):vcall jw #[KV s n,ev,tv,kv] w K:=by
 refine ze {cuts:=[(8194,[9])],trees:=[(1,(.st 0 (.st 1 (.st 2 (.st 3 (.st 4 (.st 5 (.st 6 (.alt 7 (.st 8 (.st 9 (.st 10 (.alt 11 (.alt 12 (.st 13 .nil) .no) .no)))) (.alt 11 (.alt 7 (.st 8 (.st 9 (.st 10 (.alt 12 (.st 13 .nil) .no)))) .no) .no))))))))),[(0,[1,2,7,8,9,10,12,13]),(1,[2,7,8,9,10,12,13]),(2,[7,8,9,10,12,13]),(3,[4,7,8,9,10,12,13]),(4,[7,8,9,10,12,13]),(5,[6,7,8,9,10,12,13]),(6,[7,8,9,10,12,13]),(7,[8,9,10,12,13]),(8,[9,10,12,13]),(9,[12,13]),(10,[13]),(11,[12,13]),(12,[13])])]} Tryz.func388 ?_;obtain⟨ksv,rfl,O⟩:=S;refine zi λb1 w1 L o Q Y=>?_;refine zi λb2 w2 N p R E=>?_;have B:=o.trans p;have hz:=B.size;refine zp (λu w'=> ∃b wd,u=[oP b 0]/\Ext w w'/\Blk w' b [nI wd,nI (M.vecCut (xs.getD 0 (0,0)).1 (xs.getD 0 (0,0)).2 t.a t.b).1.2] zg) (λC A=>?_) ?_
 ·refine zd λw3 e _=>?_;have d:=B.trans e;have f:=T.ext d;have h:=E.ext e;have U:=d.size;simp(disch:=first|omega|simp only[push_cast]) only[push_cast,h.ld1,h.ld2,f.iaddr,f.load,true_and,and_true];refine⟨?_,?_⟩
  ·refine VecCut_spec λw4 i=>?_;have V:=i.size;simp only[push_cast,true_and];refine zj zX λD W m c q l=>?_
   try simp only[push_cast,true_and,and_self]
   refine stVec l λX r _ H=>?_
   try simp only[push_cast,true_and,and_self]
   exact A _ _ ⟨_,_,rfl,Ext.then ((d.trans i).trans c) r λy x=>by subst x;omega,H⟩
  ·refine zj zX λD W m c q l=>?_;have z:=h.ext c;have k:=f.ext c;simp(disch:=first|omega|simp only[push_cast]) only[push_cast,z.ld1,z.ld2,k.iaddr,k.load,true_and,and_self,and_true];refine VecCut_spec λX j=>?_;simp only[push_cast,true_and];refine stVec (l.ext j) λw7 v _ I=>?_
   try simp only[push_cast,true_and,and_self]
   exact A _ _ ⟨_,_,rfl,Ext.then ((d.trans c).trans j) v λy x=>by subst x;omega,I⟩
 ·rintro u g w3 ⟨b,wd,rfl,e,h⟩;simp only[push_cast,h.ld1];exact J _ e
theorem cmpKind_value_spec {s:ByteArray} {n:Int} {ev tv kv:Value} {t:M.Tm} {xs:List (Int×Int)} (p:TermR F w tv t) (q:PairsR G w kv xs) (u:xs.length=2)
  (i:∀w',Ext w w'->K (nI (M.b2i (M.vecCmp t.op (xs.getD 0 (0,0)).1 (xs.getD 0 (0,0)).2 (xs.getD 1 (0,0)).1 (xs.getD 1 (0,0)).2).1)) w'):vcall jx #[KV s n,ev,tv,kv] w K:=by
 refine ze {ord:=[oz 1 (oR 14) [(0,[2,3,4,5,6,7]),(1,[2,3,4,5,6,7]),(2,[5,6,7]),(3,[5,6,7]),(4,[5,6,7]),(10,[11]),(11,[12])]]} Tryz.func379 ?_;obtain⟨ksv,rfl,l⟩:=p;refine zi λb1 w1 j d m r=>?_;refine zi λb2 w2 k e o g=>?_;refine zd λw3 b _=>?_;have a:=(d.trans e).trans b;have c:=q.ext a;have h:=g.ext b;simp(disch:=first|omega|simp only[push_cast]) only[push_cast,h.ld0,c.iaddr,c.load,true_and,and_true];refine VecCmp_spec λv f=>?_;simp only[push_cast,true_and];exact YP (i _ (a.trans f))
theorem Xl {s:ByteArray} {n:Int} {ev tv kv:Value} {t:M.Tm} (k:TermR F w tv t)
  (e:∀w',Ext w w'->K (nI t.b) w'):vcall jq #[KV s n,ev,tv,kv] w K:=by
 refine ze {} Tryz.func383 ?_;obtain⟨ksv,rfl,h⟩:=k;refine zi λb1 w1 f a i l=>?_;refine zi λb2 w2 g c j d=>?_;simp only[push_cast,d.ld2];exact e _ (a.trans c)
theorem qH0:ko0 kA .string zV:=⟨_,YA,rK⟩
theorem YS {s:ByteArray} {n:Int} {tv kv:Value} {t:M.Tm} {mb:Nat} {f:List (Value×Value)} {x:Int} (l:TermR F w tv t) (hm:MapF .string w mb f) (c:(Value.string t.s,nI x)∈f)
  (e:∀w',Ext w w'->K (nI x) w'):vcall jf #[KV s n,.map (some mb),tv,kv] w K:=by
 refine ze {} Tryz.func385 ?_;obtain⟨ksv,rfl,i⟩:=l;refine zi λb1 w1 g a j m=>?_;refine zi λb2 w2 h b k d=>?_;simp only[push_cast,d.ld3];rw[Xh qH0 (hm.ext (a.trans b)) (XJ _) c];exact e _ (a.trans b)
theorem ifKind_value_spec {s:ByteArray} {n:Int} {ev tv kv:Value} {t:M.Tm} {xs:List (Int×Int)} (l:TermR F w tv t) (m:PairsR G w kv xs) (q:xs.length=3)
  (f:∀w',Ext w w'->K (nI (if(xs.getD 0 (0,0)).2=1 then(xs.getD 1 (0,0)).2 else(xs.getD 2 (0,0)).2)) w'):vcall jS #[KV s n,ev,tv,kv] w K:=by
 refine ze {} Tryz.func391 ?_;obtain⟨ksv,rfl,i⟩:=l;refine zi λb1 w1 g c j o=>?_;refine zi λb2 w2 h d k p=>?_;have b:=m.ext (c.trans d);have e:=f _ (c.trans d)
 try simp(disch:=first|omega|simp only[push_cast]) only[push_cast,b.iaddr]
 try simp(disch:=first|omega|simp only[push_cast]) only[push_cast,b.load1]
 refine zb (λa=>?_) (λa=>?_)
 ·rw[if_pos a] at e
  try simp(disch:=first|omega|simp only[push_cast]) only[push_cast,b.iaddr]
  try simp(disch:=first|omega|simp only[push_cast]) only[push_cast,b.load1]
  exact e
 ·rw[if_neg a] at e
  try simp(disch:=first|omega|simp only[push_cast]) only[push_cast,b.iaddr]
  try simp(disch:=first|omega|simp only[push_cast]) only[push_cast,b.load1]
  exact e
def VX (f:Value) (g:List (Int×Int)->Bool) (n:Nat):Prop:=∀(w:World) (G:Nat->Prop) (kv:Value) (xs:List (Int×Int)) (K:oK),PairsR G w kv xs->xs.length=n->K (.bool (g xs)) w->vcallv f #[kv] w K
theorem Xe {s:ByteArray} {n:Int} {f ev tv kv:Value} {t:M.Tm} {g:List (Int×Int)->Bool} {m:Nat} {xs:List (Int×Int)} (j:VX f g m) (q:TermR F w tv t) (r:PairsR G w kv xs) (l:xs.length=m)
  (e:∀w',Ext w w'->K (nI (M.b2i (g xs))) w'):vcall ji #[.agg ⟨[.string s,nI n,f]⟩,ev,tv,kv] w K:=by
 refine ze {} Tryz.func393 ?_;obtain⟨ksv,rfl,k⟩:=q;refine zi λb1 w1 h b o c=>?_;refine zi λb2 w2 i a p u=>?_;have d:=c.ext a;simp only[push_cast,d.ld2];refine j _ _ _ _ _ (r.ext (b.trans a)) l ?_;exact YP (e _ (b.trans a))
theorem qN0:VX (.func (.func V7) #[] #[]) (λ_=>true) 0:=by
 intro w G kv xs K c b a;simp only[push_cast];refine ze {} Tryz.func61 ?_;exact a
theorem kinds2_fn:VX (.func (.func V6) #[] #[]) (λxs=>decide ((xs.getD 0 (0,0)).2=0)) 1:=by
 intro w G kv xs K a c b;simp only[push_cast];refine ze {} Tryz.func62 ?_
 try simp(disch:=first|omega|simp only[push_cast]) only[push_cast,a.iaddr]
 try simp(disch:=first|omega|simp only[push_cast]) only[push_cast,a.load1]
 exact b
theorem kinds3_fn:VX (.func (.func V5) #[] #[]) (λxs=>decide ((xs.getD 0 (0,0)).2=1)&&decide ((xs.getD 1 (0,0)).2=1)) 2:=by
 intro w G kv xs K b d c;simp only[push_cast];refine ze {} Tryz.func63 ?_
 try simp(disch:=first|omega|simp only[push_cast]) only[push_cast,b.iaddr]
 try simp(disch:=first|omega|simp only[push_cast]) only[push_cast,b.load1]
 refine zb (λa=>?_) (λa=>?_)
 ·try simp(disch:=first|omega|simp only[push_cast]) only[push_cast,b.iaddr]
  try simp(disch:=first|omega|simp only[push_cast]) only[push_cast,b.load1]
  simpa only[decide_eq_true a,pw] using c
 ·simpa only[decide_eq_false a,GD] using c
theorem kinds4_fn:VX (.func (.func V4) #[] #[]) (λxs=>decide ((xs.getD 0 (0,0)).2=1)||decide ((xs.getD 1 (0,0)).2=1)) 2:=by
 intro w G kv xs K b d c;simp only[push_cast];refine ze {} Tryz.func64 ?_
 try simp(disch:=first|omega|simp only[push_cast]) only[push_cast,b.iaddr]
 try simp(disch:=first|omega|simp only[push_cast]) only[push_cast,b.load1]
 refine zb (λa=>?_) (λa=>?_)
 ·simpa only[decide_eq_true a,Bool.true_or] using c
 ·try simp(disch:=first|omega|simp only[push_cast]) only[push_cast,b.iaddr]
  try simp(disch:=first|omega|simp only[push_cast]) only[push_cast,b.load1]
  simpa only[decide_eq_false a,PR] using c
end
section
variable {w:World} {K:oK} {F G:Nat->Prop}
def EnvM (w:World) (mb:Nat) (ds:List M.Dcl) (env:List Int):Prop:= ∃f,MapF .string w mb f/\∀s,0<=M.findD ds s->(Value.string s,nI (env.getD (M.findD ds s).toNat 0))∈f
theorem EnvM.ext {mb:Nat} {ds:List M.Dcl} {env:List Int} {w':World} (h:EnvM w mb ds env) (he:Ext w w'):EnvM w' mb ds env:=by
 obtain⟨f,a,b⟩:=h;exact⟨f,a.ext he,b⟩
def kTy (o:Int):TypeId:=if o<=2 then zO else if o<=13 then zG else if o=14 then zK else if o<=17 then zF else if o=20 then zM else if o=21 then zE else if o=22 then zJ else if o=23 then zS else zy
structure KindR (o:Int) (v:Value):Prop where
 word:∃(s:ByteArray) (m:Int) (r:List Value),v= .iface (kTy o) (.agg ⟨.string s:: nI m::r⟩)/\(o<24->r=[])/\(24<=o->∃f,r=[f]/\f.oneCell'=true)/\(o=20\/o=21\/o=24\/s.data.toList=M.wordL o)
 iface:∃ty x,v= .iface ty x
 kids:∀(w:World) (K:oK),(∀w',Ext w w'->K (nI (M.arity o)) w')->vinvoke v mn_kids #[] w K
 sort:∀(w:World) (K:oK) (F G H:Nat->Prop) (dv tv kv:Value) (ds:List M.Dcl) (t:M.Tm) (xs:List Int),t.op=o->DclsR F w dv ds->TermR G w tv t->Ints H w kv xs->(xs.length:Int)=M.arity o->(∀i,-1<=xs.getD i 0/\xs.getD i 0<=4)->
  (∀w',Ext w w'->K (nI (M.sortK ds t xs)) w')->vinvoke v k6 #[dv,tv,kv] w K
 value:∀(w:World) (K:oK) (G H:Nat->Prop) (ev tv kv:Value) (ds:List M.Dcl) (env:List Int) (t:M.Tm) (xs:List (Int×Int)),t.op=o->(t.op=21->∃mb,ev= .map (some mb)/\EnvM w mb ds env)->TermR G w tv t->PairsR H w kv xs->(xs.length:Int)=M.arity o->(∀i,i<xs.length->M.inS (xs.getD i (0,0)).1 (xs.getD i (0,0)).2)->
  M.sortK ds t (xs.map (·.1))≠ -1->(∀w',Ext w w'->K (nI (M.valK ds env t xs)) w')->vinvoke v qH #[ev,tv,kv] w K
section
variable {ds:List M.Dcl} {env:List Int} {t:M.Tm} {xs:List Int} {ys:List (Int×Int)}
theorem ku {i:Nat} (h:i<ys.length):(ys.map (·.1)).getD i 0=(ys.getD i (0,0)).1:=M.getD_map _ h _ _
theorem kind_un {o:Int} {s:ByteArray} (d:o=1\/o=2) (hw:s.data.toList=M.wordL o):KindR o (.iface zO (KV s 1)) where
 word:=⟨_,_,_,by(rw[show kTy o=zO by unfold kTy;rw[if_pos oM]];try rfl),λ_=>rfl,λh=>oM,.inr (.inr (.inr hw))⟩
 iface:=⟨_,_,rfl⟩
 kids:=λw K b=>zL (X6 _ _) (qJ λw' he=>by have:=b w' he;rcases d with rfl|rfl<;>exact this)
 sort:=λw K F G H dv tv kv ds t xs f l e g c i b=>by
  have a:xs.length=1:=by rcases d with rfl|rfl<;>simp[M.arity] at c<;>omega
  refine zL (X5 _ _) (unKind_sort_spec e g a λw' he=>?_);have:=b w' he;unfold M.sortK at this;rwa[if_neg oM,if_neg oM,if_neg oM,if_neg oM,if_neg oM,if_pos oM] at this
 value:=λw K G H mb tv kv ds env t ys f he e g c i hs b=>by
  have a:ys.length=1:=by rcases d with rfl|rfl<;>simp[M.arity] at c<;>omega
  refine zL (Ym _ _) (unKind_value_spec e g a λw' he=>?_);have:=b w' he;unfold M.sortK at hs;rw[if_neg oM,if_neg oM,if_neg oM,if_neg oM,if_neg oM,if_pos oM,ku oM] at hs;have j:0<(ys.getD 0 (0,0)).1:=by
   by_cases h:0<(ys.getD 0 (0,0)).1
   ·exact h
   ·rw[if_neg h] at hs;exact absurd rfl hs
  have k:=M.inS_pos (i 0 oM) j;unfold M.valK at this;rw[if_neg oM,if_neg oM,if_neg oM,if_neg oM,if_neg oM,if_neg oM,if_neg oM,if_neg oM,if_pos oM] at this;unfold M.vecUn;rw[if_pos ⟨k,oM⟩];exact this
theorem kind_bin {o:Int} {s:ByteArray} (m:3<=o) (k:o<=13) (hw:s.data.toList=M.wordL o):KindR o (.iface zG (KV s 2)) where
 word:=⟨_,_,_,by(rw[show kTy o=zG by unfold kTy;rw[if_neg oM,if_pos oM]];try rfl),λ_=>rfl,λh=>oM,.inr (.inr (.inr hw))⟩
 iface:=⟨_,_,rfl⟩
 kids:=λw K b=>zL (Yz _ _) (qJ λw' he=>by
  have:=b w' he;unfold M.arity at this;rwa[if_neg oM,if_neg oM,if_neg oM,if_neg oM,if_pos oM] at this)
 sort:=λw K F G H dv tv kv ds t xs f n e i c d b=>by
  have a:xs.length=2:=by
   unfold M.arity at c;rw[if_neg oM,if_neg oM,if_neg oM,if_neg oM,if_pos oM] at c;omega
  refine zL (Yy _ _) (binKind_sort_spec e i a λw' he=>?_);have:=b w' he;unfold M.sortK at this;rwa[if_neg oM,if_neg oM,if_neg oM,if_neg oM,if_neg oM,if_neg oM,if_neg oM,if_neg oM] at this
 value:=λw K G H mb tv kv ds env t ys f he e i c d hs b=>by
  have a:ys.length=2:=by
   unfold M.arity at c;rw[if_neg oM,if_neg oM,if_neg oM,if_neg oM,if_pos oM] at c;omega
  refine zL (ZQ _ _) (binKind_value_spec e i a λw' he=>?_);have:=b w' he;unfold M.sortK at hs;rw[if_neg oM,if_neg oM,if_neg oM,if_neg oM,if_neg oM,if_neg oM,if_neg oM,if_neg oM,ku oM,ku oM] at hs;have j:0<(ys.getD 0 (0,0)).1/\(ys.getD 0 (0,0)).1=(ys.getD 1 (0,0)).1:=by
   by_cases h:0<(ys.getD 0 (0,0)).1/\(ys.getD 0 (0,0)).1=(ys.getD 1 (0,0)).1
   ·exact h
   ·rw[if_neg h] at hs;exact absurd rfl hs
  have l:=M.inS_pos (d 0 oM) j.1;have g:=M.inS_pos (d 1 oM) oM;unfold M.valK at this;rw[if_neg oM,if_neg oM,if_neg oM,if_neg oM,if_neg oM,if_neg oM,if_neg oM,if_neg oM,if_neg oM,if_neg oM,if_neg oM] at this;unfold M.vecBin;rw[if_pos ⟨l,g⟩,if_neg oM,if_pos ⟨oM,oM,j.2⟩];exact this
theorem kind_cat {s:ByteArray} (hw:s.data.toList=M.wordL 14):KindR 14 (.iface zK (KV s 2)) where
 word:=⟨_,_,_,rfl,λ_=>rfl,λh=>oM,.inr (.inr (.inr hw))⟩
 iface:=⟨_,_,rfl⟩
 kids:=λw K b=>zL (Yw _ _) (qJ λw' he=>b w' he)
 sort:=λw K F G H dv tv kv ds t xs c l g j e d b=>by
  have a:xs.length=2:=by simp[M.arity] at e;omega
  refine zL (Yv _ _) (catKind_sort_spec g j a d λw' he=>?_);have:=b w' he;unfold M.sortK at this;rwa[if_neg oM,if_neg oM,if_neg oM,if_neg oM,if_neg oM,if_neg oM,if_pos oM] at this
 value:=λw K G H mb tv kv ds env t ys c he g j e d hs b=>by
  have a:ys.length=2:=by simp[M.arity] at e;omega
  refine zL (ZM _ _) (catKind_value_spec g j a λw' he=>?_);have:=b w' he;unfold M.sortK at hs;rw[if_neg oM,if_neg oM,if_neg oM,if_neg oM,if_neg oM,if_neg oM,if_pos oM,ku oM,ku oM] at hs;have f:0<(ys.getD 0 (0,0)).1/\0<(ys.getD 1 (0,0)).1/\(ys.getD 0 (0,0)).1+(ys.getD 1 (0,0)).1<=4:=by
   by_cases h:0<(ys.getD 0 (0,0)).1/\0<(ys.getD 1 (0,0)).1/\(ys.getD 0 (0,0)).1+(ys.getD 1 (0,0)).1<=4
   ·exact h
   ·rw[if_neg h] at hs;exact absurd rfl hs
  have k:=M.inS_pos (d 0 oM) f.1;have i:=M.inS_pos (d 1 oM) f.2.1;unfold M.valK at this;rw[if_neg oM,if_neg oM,if_neg oM,if_neg oM,if_neg oM,if_neg oM,if_neg oM,if_neg oM,if_neg oM,if_pos oM] at this;unfold M.vecBin;rw[if_pos ⟨k,i⟩,if_pos c,if_pos f.2.2];exact this
theorem kind_cmp {o:Int} {s:ByteArray} (m:15<=o) (k:o<=17) (hw:s.data.toList=M.wordL o):KindR o (.iface zF (KV s 2)) where
 word:=⟨_,_,_,by(rw[show kTy o=zF by unfold kTy;rw[if_neg oM,if_neg oM,if_neg oM,if_pos oM]];try rfl),λ_=>rfl,λh=>oM,.inr (.inr (.inr hw))⟩
 iface:=⟨_,_,rfl⟩
 kids:=λw K b=>zL (Yt _ _) (qJ λw' he=>by
  have:=b w' he;unfold M.arity at this;rwa[if_neg oM,if_neg oM,if_neg oM,if_neg oM,if_pos oM] at this)
 sort:=λw K F G H dv tv kv ds t xs f n e i c d b=>by
  have a:xs.length=2:=by
   unfold M.arity at c;rw[if_neg oM,if_neg oM,if_neg oM,if_neg oM,if_pos oM] at c;omega
  refine zL (Ys _ _) (cmpKind_sort_spec e i a λw' he=>?_);have:=b w' he;unfold M.sortK at this;rwa[if_neg oM,if_neg oM,if_neg oM,if_neg oM,if_neg oM,if_neg oM,if_neg oM,if_pos oM] at this
 value:=λw K G H mb tv kv ds env t ys f he e i c d hs b=>by
  have a:ys.length=2:=by
   unfold M.arity at c;rw[if_neg oM,if_neg oM,if_neg oM,if_neg oM,if_pos oM] at c;omega
  refine zL (ZL _ _) (cmpKind_value_spec e i a λw' he=>?_);have:=b w' he;unfold M.sortK at hs;rw[if_neg oM,if_neg oM,if_neg oM,if_neg oM,if_neg oM,if_neg oM,if_neg oM,if_pos oM,ku oM,ku oM] at hs;have j:0<(ys.getD 0 (0,0)).1/\(ys.getD 0 (0,0)).1=(ys.getD 1 (0,0)).1:=by
   by_cases h:0<(ys.getD 0 (0,0)).1/\(ys.getD 0 (0,0)).1=(ys.getD 1 (0,0)).1
   ·exact h
   ·rw[if_neg h] at hs;exact absurd rfl hs
  have l:=M.inS_pos (d 0 oM) j.1;have g:=M.inS_pos (d 1 oM) oM;unfold M.valK at this;rw[if_neg oM,if_neg oM,if_neg oM,if_neg oM,if_neg oM,if_neg oM,if_neg oM,if_neg oM,if_neg oM,if_neg oM,if_pos oM] at this;unfold M.vecCmp;rw[if_pos ⟨l,g,j.2,oM,oM⟩];exact this
theorem kind_vec {s:ByteArray}:KindR 20 (.iface zM (KV s 0)) where
 word:=⟨_,_,_,rfl,λ_=>rfl,λh=>oM,.inl rfl⟩
 iface:=⟨_,_,rfl⟩
 kids:=λw K b=>zL (Yl _ _) (qJ λw' he=>b w' he)
 sort:=λw K F G H dv tv kv ds t xs a g c f d e b=>by
  refine zL (Yk _ _) (Q3 c λw' he=>?_);have:=b w' he;unfold M.sortK at this;rwa[if_pos a] at this
 value:=λw K G H mb tv kv ds env t ys a he c f d e hs b=>by
  refine zL (ZH _ _) (Xl c λw' he=>?_);have:=b w' he;unfold M.valK at this;rwa[if_pos a] at this
theorem kind_name {s:ByteArray}:KindR 21 (.iface zE (KV s 0)) where
 word:=⟨_,_,_,rfl,λ_=>rfl,λh=>oM,.inr (.inl rfl)⟩
 iface:=⟨_,_,rfl⟩
 kids:=λw K b=>zL (ZJ _ _) (qJ λw' he=>b w' he)
 sort:=λw K F G H dv tv kv ds t xs a g e k i j b=>by
  refine zL (ZI _ _) (nameKind_sort_spec e g λw' he=>?_);have:=b w' he;unfold M.sortK at this;rwa[if_neg oM,if_pos a] at this
 value:=λw K G H mb tv kv ds env t ys a he e k i j hs b=>by
  obtain⟨mb,rfl,f,hm,d⟩:=he a;unfold M.sortK at hs;rw[if_neg oM,if_pos a] at hs;have c:0<=M.findD ds t.s:=by
   by_cases h:M.findD ds t.s<0
   ·rw[if_pos h] at hs;exact absurd rfl hs
   ·omega
  refine zL (Zk _ _) (YS e hm (d _ c) λw' he=>?_);have:=b w' he;unfold M.valK at this;rwa[if_neg oM,if_pos a] at this
theorem kind_cut {s:ByteArray} (hw:s.data.toList=M.wordL 22):KindR 22 (.iface zJ (KV s 1)) where
 word:=⟨_,_,_,rfl,λ_=>rfl,λh=>oM,.inr (.inr (.inr hw))⟩
 iface:=⟨_,_,rfl⟩
 kids:=λw K d=>zL (Yq _ _) (qJ λw' he=>d w' he)
 sort:=λw K F G H dv tv kv ds t xs i m g j e f d=>by
  have c:xs.length=1:=by simp[M.arity] at e;omega
  refine zL (Yp _ _) (cutKind_sort_spec g j c f λw' he=>?_);have:=d w' he;unfold M.sortK at this;rwa[if_neg oM,if_neg oM,if_neg oM,if_neg oM,if_pos oM] at this
 value:=λw K G H mb tv kv ds env t ys i he g j e f hs d=>by
  have c:ys.length=1:=by simp[M.arity] at e;omega
  refine zL (ZK _ _) (cutKind_value_spec g j c λw' he=>?_);have:=d w' he;unfold M.sortK at hs;rw[if_neg oM,if_neg oM,if_neg oM,if_neg oM,if_pos oM,ku oM] at hs;have k:0<=t.b/\t.b<=t.a/\t.a<(ys.getD 0 (0,0)).1:=by
   by_cases h:0<=t.b/\t.b<=t.a/\t.a<(ys.getD 0 (0,0)).1
   ·exact h
   ·rw[if_neg h] at hs;exact absurd rfl hs
  have l:=M.inS_pos (f 0 oM) oM;unfold M.valK at this;rw[if_neg oM,if_neg oM,if_neg oM,if_neg oM,if_neg oM,if_neg oM,if_neg oM,if_pos oM] at this;unfold M.vecCut;rw[if_pos ⟨l,k⟩];exact this
theorem kind_if {s:ByteArray} (hw:s.data.toList=M.wordL 23):KindR 23 (.iface zS (KV s 3)) where
 word:=⟨_,_,_,rfl,λ_=>rfl,λh=>oM,.inr (.inr (.inr hw))⟩
 iface:=⟨_,_,rfl⟩
 kids:=λw K b=>zL (X9 _ _) (qJ λw' he=>b w' he)
 sort:=λw K F G H dv tv kv ds t xs e i d f c g b=>by
  have a:xs.length=3:=by simp[M.arity] at c;omega
  refine zL (X8 _ _) (ifKind_sort_spec d f a λw' he=>?_);have:=b w' he;unfold M.sortK at this;rwa[if_neg oM,if_neg oM,if_neg oM,if_pos oM] at this
 value:=λw K G H mb tv kv ds env t ys e he d f c g hs b=>by
  have a:ys.length=3:=by simp[M.arity] at c;omega
  refine zL (Yn _ _) (ifKind_value_spec d f a λw' he=>?_);have:=b w' he;unfold M.valK at this;rwa[if_neg oM,if_neg oM,if_neg oM,if_neg oM,if_neg oM,if_neg oM,if_pos oM] at this
theorem kind_bool {o:Int} {s:ByteArray} {f:Value} {g:List (Int×Int)->Bool} {m:Nat} (q:24<=o) (i:M.arity o=m) (j:VX f g m) (c:f.oneCell'=true) (hw:o=24\/s.data.toList=M.wordL o) (k:∀ds env (t:M.Tm) ys,t.op=o->M.valK ds env t ys=M.b2i (g ys)):
  KindR o (.iface zy (.agg ⟨[.string s,nI m,f]⟩)) where
 word:=⟨_,_,_,by rw[show kTy o=zy by unfold kTy;rw[if_neg oM,if_neg oM,if_neg oM,if_neg oM,if_neg oM,if_neg oM,if_neg oM,if_neg oM]],λh=>oM,λ_=>⟨_,rfl,c⟩,.inr (.inr hw)⟩
 iface:=⟨_,_,rfl⟩
 kids:=λw K a=>zL (ZP _ _ _) (qJ λw' he=>by have:=a w' he;rwa[i] at this)
 sort:=λw K F G H dv tv kv ds t xs b p d e l n a=>by
  refine zL (ZO _ _ _) (XU d e λw' he=>?_);have:=a w' he;unfold M.sortK at this;rwa[if_neg oM,if_neg oM,if_pos oM] at this
 value:=λw K G H mb tv kv ds env t ys b he d e l n hs a=>by
  refine zL (Zl _ _ _) (Xe j d e oM λw' he=>?_);have:=a w' he;rwa[k ds env t ys b] at this
end
def KindsR (w:World) (mb:Nat):Prop:= ∃f,MapF (.int .i64) w mb f/\(∀o,0<=M.arity o->∃v,(nI o,v)∈f/\KindR o v)/\∀p,p∈f->∃o,p.1= nI o/\0<=M.arity o
theorem KindsR.ext {mb:Nat} {w':World} (h:KindsR w mb) (he:Ext w w'):KindsR w' mb:=by
 obtain⟨f,a,b⟩:=h;exact⟨f,a.ext he,b⟩
end
section
variable {w:World} {K:oK} {F G:Nat->Prop}
theorem jH:ko0 zR (.int .i64) yF0:=⟨_,Z7,rK⟩
def KS (w0 w:World) (b:Nat) (S:Int->Prop):Prop:=Ext w0 w/\w0.heap.size<=b/\∃f,MapF (.int .i64) w b f/\(∀o,S o->∃v,(nI o,v)∈f/\KindR o v)/\∀p,p∈f->∃o,p.1= nI o/\S o
theorem KS.set {w0 w:World} {b:Nat} {S:Int->Prop} {o:Int} {v:Value} (h:KS w0 w b S) (q: ¬S o) (r:KindR o v) (m:∀w',KS w0 w' b (λx=>x=o\/S x)->Same (· =b) w w'->K undef w'):
  UO zR (.map (some b)) (nI o) v w K:=by
 obtain⟨he,k,f,hm,l,j⟩:=h;refine q60 jH hm (xA o) (λx i=>?_) λw' g hs _=>m w' ⟨Ext.then he hs λy s=>by subst s;exact k,k,_,g,λx i=>?_,λp c=>?_⟩ hs
 ·obtain⟨o',a,d⟩:=j _ i;cases a;exact q d
 ·by_cases e:x=o
  ·subst e;exact⟨v,gj.2 (.inr (gn.2 rfl)),r⟩
  ·obtain⟨u,hu,n⟩:=l x (i.resolve_left e);exact⟨u,gj.2 (.inl hu),n⟩
 ·rcases gj.1 c with c|c
  ·obtain⟨o',a,d⟩:=j _ c;exact⟨o',a,.inr d⟩
  ·rw[gn.1 c];exact⟨o,rfl,.inl rfl⟩
theorem KS.ext {w0 w w':World} {b:Nat} {S:Int->Prop} (h:KS w0 w b S) (he:Ext w w'):KS w0 w' b S:=by
 obtain⟨a,c,f,hm,r⟩:=h;exact⟨a.trans he,c,f,hm.ext he,r⟩
theorem KS.congr {w0 w:World} {b:Nat} {S S':Int->Prop} (h:KS w0 w b S) (a:∀x,S x↔S' x):KS w0 w b S':=by
 have:S=S':=funext λx=>propext (a x);subst this;exact h
theorem KS.kinds {w0 w:World} {b:Nat} {S:Int->Prop} (h:KS w0 w b S) (a:∀o,S o↔0<=M.arity o):KindsR w b:=by
 obtain⟨he,k,f,hm,c,d⟩:=h;refine⟨f,hm,λo i=>c o ((a o).2 i),λp j=>?_⟩;obtain⟨o,e,g⟩:=d p j;exact⟨o,e,(a o).1 g⟩
@[push_cast] theorem bd_named (s:ByteArray) (n:Int):yC qB [(0,.string s),(1,nI n)] w K=K (KV s n) w:=zT y20 (us:=[[.string s],[nI n]]) rfl rfl
@[push_cast] theorem YD0 (s:ByteArray) (n:Int):yC zO [(0,KV s n)] w K=K (KV s n) w:=zT UE (us:=[[.string s,nI n]]) rfl rfl
@[push_cast] theorem Ya0 (s:ByteArray) (n:Int):yC zG [(0,KV s n)] w K=K (KV s n) w:=zT VG (us:=[[.string s,nI n]]) rfl rfl
@[push_cast] theorem Y90 (s:ByteArray) (n:Int):yC zK [(0,KV s n)] w K=K (KV s n) w:=zT VC (us:=[[.string s,nI n]]) rfl rfl
@[push_cast] theorem Y80 (s:ByteArray) (n:Int):yC zF [(0,KV s n)] w K=K (KV s n) w:=zT VA (us:=[[.string s,nI n]]) rfl rfl
@[push_cast] theorem Y70 (s:ByteArray) (n:Int):yC zJ [(0,KV s n)] w K=K (KV s n) w:=zT Vz (us:=[[.string s,nI n]]) rfl rfl
@[push_cast] theorem YF0 (s:ByteArray) (n:Int):yC zS [(0,KV s n)] w K=K (KV s n) w:=zT UG (us:=[[.string s,nI n]]) rfl rfl
@[push_cast] theorem Y60:yC zM [] w K=K (KV ⟨#[]⟩ 0) w:=zT Vy (us:=[]) rfl rfl
@[push_cast] theorem ZS0:yC zE [] w K=K (KV ⟨#[]⟩ 0) w:=zT Kw (us:=[]) rfl rfl
@[push_cast] theorem ZV0 (s:ByteArray) (n:Int) (f:Fn) (a c:Array Value):yC zy [(0,KV s n),(1,.func f a c)] w K=K (.agg ⟨[.string s,nI n,.func f a c]⟩) w:=zT Kx (us:=[[.string s,nI n],[.func f a c]]) rfl rfl
theorem val24 (ds:List M.Dcl) (env:List Int) (t:M.Tm) (ys:List (Int×Int)) (h:t.op=24):M.valK ds env t ys=M.b2i true:=by simp[M.valK,h,M.b2i]
theorem val25 (ds:List M.Dcl) (env:List Int) (t:M.Tm) (ys:List (Int×Int)) (h:t.op=25):M.valK ds env t ys=M.b2i (decide ((ys.getD 0 (0,0)).2=0)):=by unfold M.valK;simp only[h];rfl
theorem val26 (ds:List M.Dcl) (env:List Int) (t:M.Tm) (ys:List (Int×Int)) (h:t.op=26):M.valK ds env t ys=M.b2i (decide ((ys.getD 0 (0,0)).2=1)&&decide ((ys.getD 1 (0,0)).2=1)):=by unfold M.valK;simp only[h];rfl
theorem val27 (ds:List M.Dcl) (env:List Int) (t:M.Tm) (ys:List (Int×Int)) (h:t.op=27):M.valK ds env t ys=M.b2i (decide ((ys.getD 0 (0,0)).2=1)||decide ((ys.getD 1 (0,0)).2=1)):=by unfold M.valK;simp only[h];rfl
def binWords:List ByteArray:=[⟨#[97,110,100]⟩,⟨#[111,114]⟩,⟨#[120,111,114]⟩,⟨#[97,100,100]⟩,⟨#[115,117,98]⟩,⟨#[109,117,108]⟩,⟨#[100,105,118]⟩,⟨#[114,101,109]⟩,⟨#[115,104,108]⟩,⟨#[115,104,114]⟩,⟨#[115,97,114]⟩]
theorem kS0:∀i:Fin 11,(binWords.getD i.1 ⟨#[]⟩).data.toList=M.wordL (3+(i.1:Int)):=dC
theorem kinds_new (X:∀w' b,Ext w w'->KindsR w' b->w.heap.size<=b->K (.map (some b)) w'):vcall QT #[] w K:=by
 refine ze {loops:=[(3,[48])]} Tryz.func41 ?_;refine yG0 jH λb w1 hb hm he hs=>?_;have J:KS w w1 b (λ_=>False):=⟨he,oM,[],hm,λ_ h=>h.elim,λ_ h=>by cases h⟩;simp only[push_cast];refine J.set dC (kind_un (.inl rfl) dC) λw2 L _=>?_;refine L.set dC (kind_un (.inr rfl) dC) λw3 N _=>?_;refine N.set dC (kind_cat dC) λw4 O _=>?_;refine O.set dC (kind_cmp dC dC dC) λw5 Q _=>?_;refine Q.set dC (kind_cmp dC dC dC) λw6 R _=>?_;refine R.set dC (kind_cmp dC dC dC) λw7 S _=>?_;refine S.set dC kind_vec λw8 T _=>?_;refine T.set dC kind_name λw9 U _=>?_;refine U.set dC (kind_cut dC) λw10 V _=>?_;refine V.set dC (kind_if dC) λY l _=>?_;refine l.set dC (kind_bool (m:=0) dC rfl qN0 rfl (.inl rfl) val24) λZ n _=>?_;refine n.set dC (kind_bool (m:=1) dC rfl kinds2_fn rfl (.inr dC) val25) λa0 p _=>?_;refine p.set dC (kind_bool (m:=2) dC rfl kinds3_fn rfl (.inr dC) val26) λa1 q _=>?_;refine q.set dC (kind_bool (m:=2) dC rfl kinds4_fn rfl (.inr dC) val27) λa2 g _=>?_;refine vbuildS_row1 (xs:=binWords.map .string) Xo rK Xg (λx B=>by obtain⟨s,_,rfl⟩:=gr.1 B;rfl) dC λbs D F j G t=>?_;have d:Vals (· =bs) D (.slice (some ⟨bs,0,none⟩) (binWords.map Value.string).length (binWords.map Value.string).length) (binWords.map Value.string):=t.sl1 rfl dC;have r:=g.ext j;have v:bs≠b:=by
  obtain⟨_,_,f,hm,_⟩:=g;have:=hm.lt;omega
 have hlen:(binWords.map Value.string).length=11:=rfl;simp only[push_cast,d.len];rw[hlen];rw[hlen] at d;refine vloop_up 11 (λi u w'=>u=[nI i]/\Vals (· =bs) w' (.slice (some ⟨bs,0,none⟩) 11 11) (binWords.map Value.string)/\KS w w' b λx=>(3<=x/\x<3+(i:Int))\/x=27\/x=26\/x=25\/x=24\/x=23\/x=22\/x=21\/x=20\/x=17\/x=16\/x=15\/x=14\/x=2\/x=1) ⟨rfl,d,r.congr λx=>by simp only[or_false];constructor<;>intro h<;>omega⟩ ?_;rintro i _ _ E C hi ⟨rfl,A,k⟩ W;simp only[push_cast];refine zb (λa=>?_) (λa=>?_)
 ·have c:i<11:=oM;have H:(binWords.map Value.string).getD i undef= .string (binWords.getD i ⟨#[]⟩):=M.getD_map _ (show i<binWords.length from c) _ _;have I:IntKind.i64.wrap (3+(i:Int))=3+(i:Int):=zl oM oM;rw[A.iaddr rK oM (by rw[hlen];omega),gl,A.load rK (by rw[hlen];omega),H];simp only[push_cast,I];refine k.set oM (kind_bin oM oM (kS0 ⟨i,c⟩)) λa3 y z=>?_
  try simp only[push_cast]
  rw[inc64' oM];exact W c _ _ ⟨rfl,A.same z λx B _ e=>v (B.symm.trans e),y.congr λx=>by constructor<;>intro h<;>omega⟩
 ·have:i=11:=oM;subst this;refine X E b k.1 (k.kinds λo=>?_) k.2.1;constructor
  ·intro h;have:(1<=o/\o<=17)\/(20<=o/\o<=27):=oM;unfold M.arity
   repeat' split
   all_goals omega
  ·intro h;have:=M.arity_ops h;omega
theorem VR (d:∀w' b,Ext w w'->KindsR w' b->K (.map (some b)) w'):vcall QT #[] w K:=kinds_new λw' b a c _=>d w' b a c
end
section
variable {w:World} {K:oK} {F G:Nat->Prop}
theorem stTerm {b:Nat} {cs cs':List Value} {t:TypeId} {g:M.Tm} (h:Blk w b cs t) (f:cs.length=5) (d:TmR F w cs' g) (c:∀w',Same (· =b) w w'->w'.heap.size=w.heap.size->Blk w' b cs' t->K undef w'):zU za (oP b 0) (.agg ⟨cs'⟩) w K:=by
 obtain⟨kv,rfl,e⟩:=d.inv;obtain⟨css,hs,_⟩:=e;refine h.stAgg (by simp[f]) zc ?_ c;intro v a;simp only[gd,gq,or_false] at a;rcases a with rfl|rfl|rfl|rfl|rfl
 ·rfl
 ·rfl
 ·rfl
 ·rfl
 ·exact hs.one
theorem zQ {cs:List Value} {t:M.Tm} (h:TmR F w cs t):cs.length=5:=by
 obtain⟨kv,rfl,_⟩:=h.inv;rfl
theorem xj0 {v:Value} {t:M.Tm} (m:TermR F w v t) (i:∀w',Ext w w'->K (.bool (M.plainM t)) w'):vcall QS #[v] w K:=by
 refine ze {cuts:=[(8194,[3])]} Tryz.func91 ?_;obtain⟨ksv,rfl,k⟩:=m;refine zi λb1 w1 j h l e=>?_;have d:=i _ h;unfold M.plainM at d;refine zp (λu w'=>u=[.bool (decide (t.op=20)||decide (t.op=22)||(decide (t.a=0)&&decide (t.b=0)))]/\w'=w1) (λC f=>?_) ?_
 ·simp only[push_cast,e.ld0,e.ld1,e.ld2];refine zb (λa=>?_) (λa=>?_)
  ·exact f _ _ ⟨by rw[decide_eq_true a];rfl,rfl⟩
  refine zb (λb=>?_) (λb=>?_)
  ·exact f _ _ ⟨by rw[decide_eq_true b];simp,rfl⟩
  refine zb (λc=>?_) (λc=>?_)
  ·exact f _ _ ⟨by rw[decide_eq_false a,decide_eq_false b,decide_eq_true c];rfl,rfl⟩
  ·exact f _ _ ⟨by rw[decide_eq_false a,decide_eq_false b,decide_eq_false c];rfl,rfl⟩
 ·rintro u g w2 ⟨rfl,rfl⟩;simp only[push_cast,e.ld0,e.ld3];refine zo (λa=>?_) (λa=>?_)
  ·rw[a,pw] at d;refine zb (λb=>?_) (λb=>?_)
   ·rwa[decide_eq_true b,Bool.true_or] at d
   ·rw[decide_eq_false b,PR] at d;exact d
  ·rwa[a,GD] at d
theorem Kb {mb:Nat} {o:Int} {ok:Bool} (h:KindsR w mb) (d:0<=M.arity o) (b:∀v,KindR o v->K (if ok then .tuple #[v,.bool true] else v) w):Xi zR (.map (some mb)) (nI o) ok w K:=by
 obtain⟨f,hm,a,g⟩:=h;obtain⟨v,e,c⟩:=a o d;rw[Xh jH hm (xA o) e];exact b v c
theorem qJ0 {mb:Nat} {o:Int} (h:KindsR w mb) (d: ¬0<=M.arity o) (b:K (.tuple #[.nilIface,.bool false]) w):Xi zR (.map (some mb)) (nI o) true w K:=by
 obtain⟨f,hm,i,a⟩:=h;rw[UP jH (z:= .nilIface) (by unfold yl;kernel_rfl) hm (xA o) λv g=>?_]
 ·exact b
 ·obtain⟨o',e,c⟩:=a _ g;cases e;exact d c
theorem xr0 {mb:Nat} {o:Int} {w w2:World} {N:oK} (h:KindsR w mb) (g:0<=M.arity o) (he:Ext w w2) (d:∀v,KindR o v->(∀w3,Ext w w3->Xi zR (.map (some mb)) (nI o) false w3 λx y=>x=v/\y=w3)->N v w):Xi zR (.map (some mb)) (nI o) false w N:=by
 obtain⟨f,hm,c,i⟩:=h;obtain⟨v,b,e⟩:=c o g;rw[Xh jH hm (xA o) b];refine d v e λw3 a=>?_;rw[Xh jH (hm.ext a) (xA o) b];exact⟨rfl,rfl⟩
theorem kX {α β:Type} (f:α->β) {l:List α} {i:Nat} (h:i<l.length) (d:α):(l.take i).map f++[f (l.getD i d)]=(l.take (i+1)).map f:=by
 rw[GY,V0 h,gx,y3,V0 h];rfl
theorem sortOf_spec:∀(t:M.Tm) {w:World} {K:oK} {F G:Nat->Prop} {mb:Nat} {dv v:Value} {ds:List M.Dcl},KindsR w mb->DclsR F w dv ds->M.declOk ds=true->TermR G w v t->
  (∀w',Ext w w'->K (nI (M.sortM ds t)) w')->vcall jG #[.map (some mb),dv,v] w K:=by
 refine M.Tm.ind λt ih w K F G mb dv v ds hm hd N ht U=>?_;apply UD;obtain⟨ksv,rfl,m⟩:=ht;refine zi λb1 w1 a3 l a6 D=>?_;have J:=hm.ext l;simp only[push_cast,D.ld0];have A: ¬(M.formed t=true)->∀w',Ext w w'->K (nI (-1)) w':=λhn w' he=>by
  have:=U w' he;rw[M.sortM_eq] at this;unfold M.sortF at this;rwa[if_neg (λh=>hn h.1)] at this
 by_cases Y: ¬0<=M.arity t.op
 ·have T:=Y;refine qJ0 J T ?_;simp only[push_cast];refine zp (λ_ _=>False) (λC S=>?_) (λ_ _ _ h=>h.elim);refine zd λw2 c _=>?_;simp only[push_cast,true_and];refine A (λh=>T ?_) _ (l.trans c);simp only[M.formed,gg,decide_eq_true_eq] at h;omega
 have T:0<=M.arity t.op:=oM
 refine Kb J T λkv I=>?_;simp only[push_cast,if_true];have a9:=m.small;refine zp (λu w'=>u=[]/\Ext w1 w'/\M.formed t=true) (λC S=>?_) ?_
 ·refine zd λw2 c _=>?_;have E:=D.ext c;simp only[push_cast,E.ld4,m.len,true_and];refine I.kids _ _ λw3 d=>?_;have R:=E.ext d;simp only[push_cast,R.ld4,m.len,true_and,and_self];refine zb (λa=>?_) (λa=>?_)
  ·refine A (λh=>?_) _ ((l.trans c).trans d);simp only[M.formed,gg,decide_eq_true_eq] at h;omega
  ·simp only[push_cast,R.ldAgg (t:=za) zc,true_and];refine xj0 (F:=G) (t:=t) ⟨ksv,rfl,m.ext ((l.trans c).trans d)⟩ λw4 e=>?_;simp only[push_cast,true_and];refine zo (λb=>?_) (λb=>?_)
   ·refine A (λh=>?_) _ (((l.trans c).trans d).trans e);simp only[M.formed,gg] at h;rw[h.2] at b;cases b
   ·refine S _ _ ⟨rfl,(c.trans d).trans e,?_⟩;simp only[M.formed,gg,decide_eq_true_eq];exact⟨oM,by simpa using b⟩
 ·rintro u g w2 ⟨rfl,c,hf⟩;have E:=D.ext c;have hE:=l.trans c;have ab:=hE.size;simp only[push_cast,E.ld4,m.len];have H:=hf;simp only[M.formed,gg,decide_eq_true_eq] at H;have a2:t.ks.length<=3:=by
   have D:=H.1;unfold M.arity at D
   repeat' split at D
   all_goals omega
  refine vloop_up t.ks.length (λi u w'=> ∃sv,u=[sv,nI i]/\Ext w2 w'/\OwnI zh w' sv ((t.ks.take i).map (M.sortM ds))/\(∀b,sv.ownBlock=some b->w2.heap.size<=b)/\(∀x,x∈(t.ks.take i).map (M.sortM ds)->x≠ -1)) ⟨_,rfl,Same.refl _ _,OwnI.nil,(λb h=>by cases h),by simp⟩ ?_;rintro i _ _ w3 C hi ⟨sv,rfl,d,B,L,n⟩ S;have k:=hE.trans d;have o:=m.ext k;simp only[push_cast];refine zb (λa=>?_) (λa=>?_)
  ·simp(disch:=first|omega|simp only[push_cast]) only[push_cast,o.iaddr];refine o.load zc oM λx r=>?_;obtain⟨cs,rfl,s⟩:=r.cells;refine zj zn λb2 w4 a4 e a7 h4=>?_;refine stTerm h4 rfl (s.ext e) λw5 Z aa h5=>?_;have p:Ext w3 w5:=Ext.then e Z λy Q=>by subst Q;omega
   rw[h5.ldAgg (t:=za) (by rw[zQ s];exact zc)];refine ih _ (M.getD_mem oM _) (hm.ext (k.trans p)) (hd.ext (k.trans p)) N (s.ext p).term λw6 V=>?_;simp only[push_cast];have f:=p.trans V;refine zb (λb=>?_) (λb=>?_)
   ·have:=U _ (k.trans f);rw[M.sortM_eq] at this;unfold M.sortF at this;rwa[if_neg (λh=>h.2 (b▸gW (M.getD_mem oM _)))] at this
   ·refine xt xw yT xH rfl rfl dC λb3 w7 a5 z a8 h7=>?_;have O:=(B.ext f).ext z;have hlen:((t.ks.take i).map (M.sortM ds)).length=i:=by rw[y4,gh];omega
    refine O.app1 xE h7 (by rw[hlen];omega) (by rw[hlen];omega) λa1 w8 q a0 X=>?_
    try simp only[push_cast]
    rw[inc64' oM];rw[kX _ oM] at q;refine S oM _ _ ⟨a1,rfl,Ext.then ((d.trans f).trans z) a0 λy Q=>L y Q,q,λy Q=>?_,λx r=>?_⟩
    ·rcases X y Q with h|h
     ·exact L y h
     ·have:=(d.trans f).size;have:=z.size;omega
    ·rw[<-kX _ oM default] at r;rcases gj.1 r with r|r
     ·exact n x r
     ·rw[gn.1 r];exact b
  ·have W:i=t.ks.length:=oM;subst W;rw[gw] at B n;have R:=E.ext d;simp only[push_cast,R.ldAgg (t:=za) zc];refine I.sort _ _ F G _ _ _ _ ds t _ rfl (hd.ext k) ⟨ksv,rfl,o⟩ B.ints (by rw[y4];omega) (λj=>?_) λw4 e=>?_
   ·by_cases hj:j<t.ks.length
    ·rw[M.getD_map _ hj 0 default];exact M.sort_range N _
    ·rw[y3,pZ (by simpa using hj)];simp
   ·have:=U _ (k.trans e);rw[M.sortM_eq] at this;unfold M.sortF at this;rwa[if_pos ⟨hf,λh=>n _ h rfl⟩] at this
def nnB:M.Tm->Bool:=M.Tm.fold λt xs=>decide (t.op≠21)&&xs.all id
theorem Yq0 (t:M.Tm):nnB t=(decide (t.op≠21)&&(t.ks.map nnB).all id):=M.Tm.fold_eq _ t
theorem nnB_iff {t:M.Tm}:nnB t=true↔t.op≠21/\∀k,k∈t.ks->nnB k=true:=by
 rw[Yq0,gg,decide_eq_true_eq,gZ];refine and_congr_right λ_=>⟨λh k a=>h _ (gW a),λh y b=>?_⟩;obtain⟨k,a,rfl⟩:=gr.1 b;exact h k a
theorem valueOf_specG:∀(t:M.Tm) {w:World} {K:oK} {F G:Nat->Prop} {mb:Nat} {dv v ev:Value} {ds:List M.Dcl} {env:List Int},KindsR w mb->DclsR F w dv ds->M.envOk ds env=true->((∃eb,ev= .map (some eb)/\EnvM w eb ds env)\/nnB t=true)->TermR G w v t->M.sortM ds t≠ -1->
  (∀w',Ext w w'->K (xY (M.sortM ds t) (M.evalM ds env t)) w')->vcall kH #[.map (some mb),dv,v,ev] w K:=by
 refine M.Tm.ind λt ih w K F G mb dv v ev ds env hm hd B hE ht p hK=>?_;have a4:=(M.env_ok B).1;apply Vx;obtain⟨ksv,rfl,o⟩:=ht;obtain⟨hf,n,a5⟩:=M.sort_parts p;have L:=hf;simp only[M.formed,gg,decide_eq_true_eq] at L;have a9:t.ks.length<=3:=by
  have Y:=L.1;unfold M.arity at Y
  repeat' split at Y
  all_goals omega
 have ho:0<=M.arity t.op:=oM
 refine zi λb1 w1 aa I ae Y=>?_;refine zj zX λb2 w2 ab J af h2=>?_;have q1:=Y.ext J;have H:=I.trans J;have aj:=H.size;have ai:=o.small;simp only[push_cast,q1.ld4,o.len];refine vloop_up t.ks.length (λi u w'=> ∃sv,u=[sv,nI i]/\Ext w2 w'/\OwnP xN w' sv ((t.ks.take i).map (M.vecM ds env))/\(∀b,sv.ownBlock=some b->w2.heap.size<=b)) ⟨_,rfl,Same.refl _ _,OwnP.nil _,λb h=>by cases h⟩ ?_;rintro i _ _ w3 C hi ⟨sv,rfl,l,D,T⟩ hC;have f:=H.trans l;have r:=o.ext f;have ak:=l.size;simp only[push_cast];refine zb (λa=>?_) (λa=>?_)
 ·simp(disch:=first|omega|simp only[push_cast]) only[push_cast,r.iaddr];refine r.load zc oM λx hx=>?_;obtain⟨cs,rfl,z⟩:=hx.cells;refine zj zn λb3 w4 ac d ag h4=>?_;refine stTerm h4 rfl (z.ext d) λw5 a6 al h5=>?_;have c:Ext w3 w5:=Ext.then d a6 λy E=>by subst E;omega
  rw[h5.ldAgg (t:=za) (by rw[zQ z];exact zc)];refine ih _ (M.getD_mem oM _) (hm.ext (f.trans c)) (hd.ext (f.trans c)) B (hE.imp (λ⟨eb,e,h⟩=>⟨eb,e,h.ext (f.trans c)⟩) λh=>(nnB_iff.1 h).2 _ (M.getD_mem oM _)) (z.ext c).term (n _ (M.getD_mem oM _)) λw6 q=>?_;have m:=c.trans q;refine xt yb0 x90 zX rfl rfl dC λb4 w7 ad A ah h7=>?_;have W:=(D.ext m).ext A;have hlen:((t.ks.take i).map (M.vecM ds env)).length=i:=by rw[y4,gh];omega
  refine Own.app1k W yy0 dC h7 rfl (by intro v hv;simp only[gd,gq,or_false] at hv;rcases hv with rfl|rfl<;>rfl) (by rw[y4,hlen];omega) (by rw[y4,hlen];omega) λX w8 U a8 a3=>?_;rw[inc64' oM];have V:OwnP xN w8 X ((t.ks.take (i+1)).map (M.vecM ds env)):=by
   unfold OwnP;rw[<-kX _ oM default,gx,M.vecM_pair ds env (t.ks.getD i default)];exact U
  refine hC oM _ _ ⟨X,rfl,Ext.then ((l.trans m).trans A) a8 λy E=>T y E,V,λy E=>?_⟩;rcases a3 y E with h|h
  ·exact T y h
  ·have:=m.size;have:=A.size;omega
 ·have a0:i=t.ks.length:=oM;subst a0;rw[gw] at D;refine zd λw4 d _=>?_;have q4:=(q1.ext l).ext d;have g:=f.trans d;have R:=o.ext g;simp only[push_cast,q4.ld0,q4.ldAgg (t:=za) zc,true_and];refine xr0 (hm.ext g) ho (Same.refl _ _) λkv a1 a2=>⟨rfl,?_⟩;refine sortOf_spec t (hm.ext g) (hd.ext g) a4 ⟨ksv,rfl,R⟩ λw5 c=>?_;have q5:=q4.ext c;simp only[push_cast,q5.ld0,q5.ldAgg (t:=za) zc,true_and,and_self];refine⟨a2 _ c,?_⟩;have s:=g.trans c;have S:(t.ks.map (M.vecM ds env)).length=t.ks.length:=y4 _;have O:∀j,j<t.ks.length->(t.ks.map (M.vecM ds env)).getD j (0,0)=(M.sortM ds (t.ks.getD j default),M.evalM ds env (t.ks.getD j default)):=λj Q=>(by rw[M.getD_map _ Q _ default,M.vecM_pair]);have N:(t.ks.map (M.vecM ds env)).map (·.1)=t.ks.map (M.sortM ds):=by
   rw[pa];exact GK λk _=>M.vecM_sort ds env k
  refine a1.value _ _ G _ _ _ _ ds env t _ rfl (λZ=>hE.elim (λ⟨eb,e,h⟩=>⟨eb,e,h.ext s⟩) λh=>absurd Z (nnB_iff.1 h).1) ⟨ksv,rfl,o.ext s⟩ ((D.ext (d.trans c)).pairs) (by rw[S];omega) (λj Q=>?_) (by rw[N,<-a5];exact p) λw6 q=>?_
  ·rw[S] at Q;rw[O j Q];exact M.eval_in B _ (n _ (M.getD_mem Q _))
  ·simp only[push_cast,true_and];have h6:=(((h2.ext l).ext d).ext c).ext q;refine stVec h6 λw7 a7 _ h7=>?_;rw[h7.lv rK];have hX:Ext w w7:=Ext.then (s.trans q) a7 λy E=>by subst E;have:=I.size;omega
   have:=hK w7 hX;rw[M.evalM_eq] at this;exact this
theorem count_spec:∀(t:M.Tm) {w:World} {K:oK} {F:Nat->Prop} {v:Value} {m deep mb:Nat} {ty:TypeId},TermR F w v t->Blk w mb [nI m] ty->(∀b,F b->b≠mb)->m<=20->1<=deep->deep<=8->
  (∀w' (r B:Nat),Same (· =mb) w w'->Blk w' mb [nI B] ty->m<B->B<=21->deep<=r->r<=8->(m+M.sizeM t<=20/\deep-1+M.deepM t<=7->B=m+M.sizeM t/\r=deep-1+M.deepM t)->(¬(m+M.sizeM t<=20/\deep-1+M.deepM t<=7)->20<B\/7<r)->K (nI r) w')->
  vcall zB0 #[v,nI deep,oP mb 0] w K:=by
 refine M.Tm.ind λt ih w K F v m deep mb ty ht E hF hm a2 a3 I=>?_;refine ze {loops:=[(6,[7,22])]} Tryz.func87 ?_;obtain⟨ksv,rfl,n⟩:=ht;refine zi λb1 w1 a0 p a9 W=>?_;have o:=E.ext p;have U:=E.lt;have ab:=n.small;have hS:=M.szT_all t;have hD:=M.dpT_all t;simp only[push_cast,o.ld0];rw[inc64' oM];refine o.st (i:=0) rfl rfl yT rfl λw2 A ac D=>?_;have s:Same (· =mb) w w2:=(Same.of_ext p).trans A;have q2:=W.same A oM;replace D:Blk w2 mb [nI (m+1:Nat)] ty:=D;refine zb (λa=>?_) (λa=>?_)
 ·exact I w2 deep (m+1) s D oM oM oM oM (λh=>oM) (λh=>oM)
 simp only[push_cast,q2.ld4,n.len];refine vloop_up t.ks.length (λi u w'=> ∃r mi:Nat,u=[nI r,nI i]/\Same (· =mb) w2 w'/\Blk w' mb [nI mi] ty/\m<mi/\mi<=21/\deep<=r/\r<=8/\(m+1+M.szT t.ks i<=20/\deep+M.dpT t.ks i<=7->mi=m+1+M.szT t.ks i/\r=deep+M.dpT t.ks i)/\(¬(m+1+M.szT t.ks i<=20/\deep+M.dpT t.ks i<=7)->20<mi\/7<r))
  ⟨deep,m+1,rfl,Same.refl _ _,D,oM,oM,oM,oM,λh=>by simp[M.szT,M.dpT],λh=>by
   have S:M.szT t.ks 0=0:=rfl;have e2:M.dpT t.ks 0=0:=rfl;omega⟩ ?_
 rintro i _ _ w3 C hi ⟨r,mi,rfl,z,H,c1,c2,c3,Q,G,R⟩ hC;have d:Same (· =mb) w w3:=s.trans z;have g:TmsR F w3 ksv t.ks:=n.same d λb E _ e=>hF b E e;have ad:=d.size;simp only[push_cast];refine zb (λb=>?_) (λb=>?_)
 ·have a5:=M.szT_mono (ks:=t.ks) (i:=i) (j:=t.ks.length) oM (gu _);have a6:=M.dpT_mono (ks:=t.ks) (i:=i) (j:=t.ks.length) oM (gu _);have a7:=M.szT_succ (ks:=t.ks) (i:=i) oM;have a8:=M.dpT_succ (ks:=t.ks) (i:=i) oM;simp(disch:=first|omega|simp only[push_cast]) only[push_cast,g.iaddr];refine g.load zc oM λx hx=>?_;obtain⟨cs,rfl,l⟩:=hx.cells;refine zj zn λb2 w4 a1 q aa X=>?_;refine stTerm X rfl (l.ext q) λV N ae Y=>?_;have f:Ext w3 V:=Ext.then q N λy hy=>by subst hy;omega
  have k:=H.ext f;have a4:=H.lt;simp only[push_cast,k.ld0];refine zb (λc=>?_) (λc=>?_)
  ·exact I V r mi (d.trans (Same.of_ext f)) k c1 c2 c3 Q (λh=>oM) (λh=>oM)
  ·rw[Y.ldAgg (t:=za) (by rw[zQ l];exact zc)];have S:IntKind.i64.wrap ((deep:Int)+1)=((deep+1:Nat):Int):=inc64' oM;rw[S];refine ih _ (M.getD_mem oM _) (l.ext f).term k hF oM oM oM λw6 O m2 L Z d1 d2 d3 d4 d5 d6=>?_;simp only[push_cast];rw[inc64' oM,show max (r:Int) (O:Int)=((max r O:Nat):Int) by omega];refine hC oM _ _ ⟨max r O,m2,rfl,(z.trans (Same.of_ext f)).trans L,Z,oM,d2,oM,oM,λh=>?_,λh=>?_⟩
   ·have:=G oM;have:=d5 oM;omega
   ·by_cases T:m+1+M.szT t.ks i<=20/\deep+M.dpT t.ks i<=7
    ·have:=G T;have:=d6 oM;omega
    ·have:=R T;omega
 ·have J:i=t.ks.length:=oM;subst J;refine I w3 r mi d H c1 c2 c3 Q (λh=>?_) (λh=>?_)
  ·have:=G oM;omega
  ·exact R oM
theorem TermMany_spec {v:Value} {t:M.Tm} (A:TermR F w v t) (G:∀w',Ext w w'->K (.tuple #[nI (M.manyM t),nI (M.lvlM t)]) w'):vcall K6 #[v] w K:=by
 refine ze {} Tryz.func58 ?_;have s:=A.weaken (F':=λb=>b<w.heap.size) λb _ h=>h;obtain⟨ksv,rfl,J⟩:=A;refine zi λb1 w1 H o L D=>?_;refine qk xH λb2 w2 I g N l=>?_;replace l:Blk w2 b2 [nI 0] zV:=l;refine l.st (i:=0) rfl rfl yT rfl λw3 k O n=>?_;replace n:Blk w3 b2 [nI ((0:Nat):Int)] zV:=n;have R:=(D.ext g).same k oM;have j:Ext w w3:=Ext.then (o.trans g) k λy x=>by subst x;omega
 rw[R.ldAgg (t:=za) zc];refine count_spec t (m:=0) (deep:=1) (s.ext j) n (λb U e=>oM) oM oM oM λB r Q q E c1 c2 c3 S f C=>?_;have p:Ext w B:=Ext.then j q λy x=>by subst x;omega
 have d:=G B p;have c:M.fits t=true↔M.sizeM t<=20/\M.deepM t<=7:=M.fits_iff;unfold M.manyM M.lvlM at d;simp only[push_cast,E.ld0];refine zb (λa=>?_) (λa=>?_)
 ·rw[if_neg (λh=>by have u:=c.1 h;have:=f oM;omega),if_neg (λh=>by have u:=c.1 h;have:=f oM;omega)] at d;exact d
 ·refine zb (λb=>?_) (λb=>?_)
  ·rw[if_neg (λh=>by have u:=c.1 h;have:=f oM;omega),if_neg (λh=>by have u:=c.1 h;have:=f oM;omega)] at d;exact d
  ·have z:M.sizeM t<=20/\M.deepM t<=7:=by
    by_cases h:M.sizeM t<=20/\M.deepM t<=7
    ·exact h
    ·have:=C oM;omega
   have T:=f oM;rw[if_pos (c.2 z),if_pos (c.2 z)] at d;rw[show Q=M.sizeM t by omega,show r=M.deepM t by omega];exact d
end
end Go.Proofs.YtolbhkcajhlllaaGreatDoor
namespace Go.Proofs
open Go.Shelf
def YtolbhkcajhlllaaGreatDoor.sortL_ren:Go.Shelf.Ren:=⟨λ|6=>285 |15=>302 |14=>301 |28=>323 |29=>324 |20=>315 |21=>316 |22=>317 |23=>318 |24=>319 |25=>320 |26=>321 |27=>322 |46=>329 |47=>330 |48=>331 |49=>332 |50=>333 |57=>336 |n=>n,λ|22=>26 |24=>3 |25=>146 |3=>3 |39=>312 |0=>0 |53=>365 |55=>232 |4=>4 |46=>375 |45=>374 |50=>243 |5=>5 |9=>9 |66=>383 |70=>150 |76=>388 |77=>100 |n=>n,λ|n=>n⟩
theorem YtolbhkcajhlllaaGreatDoor.sortL:Go.Proofs.SlLaysF.n6 Tryz.prog YtolbhkcajhlllaaGreatDoor.sortL_ren:={
 mixed:=rK
 f6:=⟨Tryz.f285.name,dC,Tryz.func285.trans (congrArg some rK)⟩
 f14:=⟨Tryz.f301.name,dC,Tryz.func301.trans (congrArg some rK)⟩
 f15:=Tryz.func302.trans (congrArg some rK)
 f20:=⟨Tryz.f315.name,dC,Tryz.func315.trans (congrArg some rK)⟩
 f21:=⟨Tryz.f316.name,dC,Tryz.func316.trans (congrArg some rK)⟩
 f22:=⟨Tryz.f317.name,dC,Tryz.func317.trans (congrArg some rK)⟩
 f23:=⟨Tryz.f318.name,dC,Tryz.func318.trans (congrArg some rK)⟩
 f24:=⟨Tryz.f319.name,dC,Tryz.func319.trans (congrArg some rK)⟩
 f25:=⟨Tryz.f320.name,dC,Tryz.func320.trans (congrArg some rK)⟩
 f26:=⟨Tryz.f321.name,dC,Tryz.func321.trans (congrArg some rK)⟩
 f27:=⟨Tryz.f322.name,dC,Tryz.func322.trans (congrArg some rK)⟩
 f28:=Tryz.func323.trans (congrArg some rK)
 f29:=Tryz.func324.trans (congrArg some rK)
 f46:=⟨Tryz.f329.name,dC,Tryz.func329.trans (congrArg some rK)⟩
 f47:=Tryz.func330.trans (congrArg some rK)
 f48:=Tryz.func331.trans (congrArg some rK)
 f49:=⟨Tryz.f332.name,dC,Tryz.func332.trans (congrArg some rK)⟩
 f50:=⟨Tryz.f333.name,dC,Tryz.func333.trans (congrArg some rK)⟩
 f57:=⟨Tryz.f336.name,dC,Tryz.func336.trans (congrArg some rK)⟩
 t0:=Tryz.underlying0
 a0:=Tryz.isAgg0
 z0:=Tryz.sizeOf0
 v0:=Tryz.zeroValue0
 t3:=Tryz.underlying3
 a3:=Tryz.isAgg3
 z3:=Tryz.sizeOf3
 v3:=Tryz.zeroValue3
 t4:=Tryz.underlying4
 a4:=Tryz.isAgg4
 z4:=Tryz.sizeOf4
 v4:=Tryz.zeroValue4
 t5:=Tryz.underlying5
 a5:=Tryz.isAgg5
 z5:=Tryz.sizeOf5
 v5:=Tryz.zeroValue5
 t9:=Tryz.underlying9
 a9:=Tryz.isAgg9
 z9:=Tryz.sizeOf9
 v9:=Tryz.zeroValue9
 t22:=Tryz.underlying26
 a22:=Tryz.isAgg26
 z22:=Tryz.sizeOf26
 v22:=Tryz.zeroValue26
 a24:=Tryz.isAgg3
 z24:=Tryz.sizeOf3
 t25:=Tryz.underlying146
 a25:=Tryz.isAgg146
 z25:=Tryz.sizeOf146
 v25:=Tryz.zeroValue146
 t39:=Tryz.underlying312
 a39:=Tryz.isAgg312
 z39:=Tryz.sizeOf312
 v39:=Tryz.zeroValue312
 t45:=Tryz.underlying374
 a45:=Tryz.isAgg374
 z45:=Tryz.sizeOf374
 v45:=Tryz.zeroValue374
 t46:=Tryz.underlying375
 a46:=Tryz.isAgg375
 z46:=Tryz.sizeOf375
 v46:=Tryz.zeroValue375
 t50:=Tryz.underlying243
 a50:=Tryz.isAgg243
 z50:=Tryz.sizeOf243
 v50:=Tryz.zeroValue243
 t53:=Tryz.underlying365
 a53:=Tryz.isAgg365
 z53:=Tryz.sizeOf365
 v53:=Tryz.zeroValue365
 t55:=Tryz.underlying232
 a55:=Tryz.isAgg232
 z55:=Tryz.sizeOf232
 v55:=Tryz.zeroValue232
 t66:=Tryz.underlying383
 a66:=Tryz.isAgg383
 z66:=Tryz.sizeOf383
 v66:=Tryz.zeroValue383
 t70:=Tryz.underlying150
 a70:=Tryz.isAgg150
 z70:=Tryz.sizeOf150
 v70:=Tryz.zeroValue150
 t76:=Tryz.underlying388
 a76:=Tryz.isAgg388
 z76:=Tryz.sizeOf388
 v76:=Tryz.zeroValue388
 t77:=Tryz.underlying100
 a77:=Tryz.isAgg100
 z77:=Tryz.sizeOf100
 v77:=Tryz.zeroValue100}
def YtolbhkcajhlllaaGreatDoor.trimL_ren:Go.Shelf.Ren:=⟨λ|160=>88 |232=>116 |231=>115 |227=>117 |234=>119 |233=>118 |236=>121 |235=>120 |228=>164 |271=>167 |151=>166 |197=>165 |120=>209 |152=>208 |260=>207 |137=>247 |119=>248 |224=>249 |225=>250 |217=>287 |266=>303 |n=>n,λ|9=>9 |4=>4 |3=>3 |5=>5 |117=>197 |116=>196 |0=>0 |124=>200 |21=>21 |105=>240 |46=>312 |119=>311 |139=>315 |138=>314 |n=>n,λ|3=>4 |4=>5 |n=>n⟩
theorem YtolbhkcajhlllaaGreatDoor.trimL:Go.Proofs.Lays.n160 Tryz.prog YtolbhkcajhlllaaGreatDoor.trimL_ren:={
 mixed:=rK
 f119:=Tryz.func248.trans (congrArg some rK)
 f120:=Tryz.func209.trans (congrArg some rK)
 f137:=Tryz.func247.trans (congrArg some rK)
 f151:=Tryz.func166.trans (congrArg some rK)
 f152:=Tryz.func208.trans (congrArg some rK)
 f160:=Tryz.func88.trans (congrArg some rK)
 f197:=Tryz.func165.trans (congrArg some rK)
 f217:=Tryz.func287.trans (congrArg some rK)
 f224:=Tryz.func249.trans (congrArg some rK)
 f225:=Tryz.func250.trans (congrArg some rK)
 f227:=Tryz.func117.trans (congrArg some rK)
 f228:=Tryz.func164.trans (congrArg some rK)
 f231:=Tryz.func115.trans (congrArg some rK)
 f232:=Tryz.func116.trans (congrArg some rK)
 f233:=Tryz.func118.trans (congrArg some rK)
 f234:=Tryz.func119.trans (congrArg some rK)
 f235:=Tryz.func120.trans (congrArg some rK)
 f236:=Tryz.func121.trans (congrArg some rK)
 f260:=Tryz.func207.trans (congrArg some rK)
 f266:=Tryz.func303.trans (congrArg some rK)
 f271:=Tryz.func167.trans (congrArg some rK)
 t0:=Tryz.underlying0
 a0:=Tryz.isAgg0
 z0:=Tryz.sizeOf0
 v0:=Tryz.zeroValue0
 t3:=Tryz.underlying3
 a3:=Tryz.isAgg3
 z3:=Tryz.sizeOf3
 v3:=Tryz.zeroValue3
 t4:=Tryz.underlying4
 a4:=Tryz.isAgg4
 z4:=Tryz.sizeOf4
 v4:=Tryz.zeroValue4
 t5:=Tryz.underlying5
 a5:=Tryz.isAgg5
 z5:=Tryz.sizeOf5
 v5:=Tryz.zeroValue5
 t9:=Tryz.underlying9
 a9:=Tryz.isAgg9
 z9:=Tryz.sizeOf9
 v9:=Tryz.zeroValue9
 t21:=Tryz.underlying21
 a21:=Tryz.isAgg21
 z21:=Tryz.sizeOf21
 v21:=Tryz.zeroValue21
 t46:=Tryz.underlying312
 a46:=Tryz.isAgg312
 z46:=Tryz.sizeOf312
 v46:=Tryz.zeroValue312
 t105:=Tryz.underlying240
 a105:=Tryz.isAgg240
 z105:=Tryz.sizeOf240
 v105:=Tryz.zeroValue240
 t116:=Tryz.underlying196
 a116:=Tryz.isAgg196
 z116:=Tryz.sizeOf196
 t117:=Tryz.underlying197
 a117:=Tryz.isAgg197
 z117:=Tryz.sizeOf197
 v117:=Tryz.zeroValue197
 t119:=Tryz.underlying311
 a119:=Tryz.isAgg311
 z119:=Tryz.sizeOf311
 t124:=Tryz.underlying200
 a124:=Tryz.isAgg200
 z124:=Tryz.sizeOf200
 v124:=Tryz.zeroValue200
 t138:=Tryz.underlying314
 a138:=Tryz.isAgg314
 z138:=Tryz.sizeOf314
 v138:=Tryz.zeroValue314
 t139:=Tryz.underlying315
 a139:=Tryz.isAgg315
 z139:=Tryz.sizeOf315
 v139:=Tryz.zeroValue315
 g3:=rK
 g4:=rK}
def YtolbhkcajhlllaaGreatDoor.joinL_ren:Go.Shelf.Ren:=⟨λ|156=>231 |165=>258 |166=>259 |169=>260 |240=>291 |241=>292 |276=>308 |277=>309 |n=>n,λ|31=>119 |9=>9 |3=>3 |4=>4 |0=>0 |20=>20 |72=>324 |76=>325 |70=>322 |37=>50 |75=>89 |127=>348 |164=>362 |5=>5 |80=>294 |n=>n,λ|n=>n⟩
theorem YtolbhkcajhlllaaGreatDoor.joinL:Go.Proofs.Lays.n156 Tryz.prog YtolbhkcajhlllaaGreatDoor.joinL_ren:={
 mixed:=rK
 f156:=Tryz.func231.trans (congrArg some rK)
 f165:=Tryz.func258.trans (congrArg some rK)
 f166:=Tryz.func259.trans (congrArg some rK)
 f169:=Tryz.func260.trans (congrArg some rK)
 f240:=Tryz.func291.trans (congrArg some rK)
 f241:=Tryz.func292.trans (congrArg some rK)
 f276:=Tryz.func308.trans (congrArg some rK)
 f277:=Tryz.func309.trans (congrArg some rK)
 t0:=Tryz.underlying0
 a0:=Tryz.isAgg0
 z0:=Tryz.sizeOf0
 v0:=Tryz.zeroValue0
 t3:=Tryz.underlying3
 a3:=Tryz.isAgg3
 z3:=Tryz.sizeOf3
 v3:=Tryz.zeroValue3
 t4:=Tryz.underlying4
 a4:=Tryz.isAgg4
 z4:=Tryz.sizeOf4
 v4:=Tryz.zeroValue4
 t9:=Tryz.underlying9
 a9:=Tryz.isAgg9
 z9:=Tryz.sizeOf9
 v9:=Tryz.zeroValue9
 t20:=Tryz.underlying20
 a20:=Tryz.isAgg20
 z20:=Tryz.sizeOf20
 v20:=Tryz.zeroValue20
 t31:=Tryz.underlying119
 a31:=Tryz.isAgg119
 z31:=Tryz.sizeOf119
 v31:=Tryz.zeroValue119
 t37:=Tryz.underlying50
 a37:=Tryz.isAgg50
 z37:=Tryz.sizeOf50
 v37:=Tryz.zeroValue50
 t70:=Tryz.underlying322
 a70:=Tryz.isAgg322
 z70:=Tryz.sizeOf322
 v70:=Tryz.zeroValue322
 t72:=Tryz.underlying324
 a72:=Tryz.isAgg324
 z72:=Tryz.sizeOf324
 v72:=Tryz.zeroValue324
 t75:=Tryz.underlying89
 a75:=Tryz.isAgg89
 z75:=Tryz.sizeOf89
 v75:=Tryz.zeroValue89
 t76:=Tryz.underlying325
 a76:=Tryz.isAgg325
 z76:=Tryz.sizeOf325
 v76:=Tryz.zeroValue325
 t127:=Tryz.underlying348
 a127:=Tryz.isAgg348
 z127:=Tryz.sizeOf348
 v127:=Tryz.zeroValue348
 t164:=Tryz.underlying362
 a164:=Tryz.isAgg362
 z164:=Tryz.sizeOf362
 v164:=Tryz.zeroValue362}
end Go.Proofs
namespace Go.Proofs.YtolbhkcajhlllaaGreatDoor
open Go Go.Vc Go.Proofs
section
variable {w:World} {K:oK} {F G:Nat->Prop}
theorem dw_nil {α:Type} {p:α->Bool}:∀{l:List α},l.dropWhile p=[]↔ ∀x,x∈l->p x=true
 |[]=>by simp
 |a::l=>by
  rw[Pp];split
  ·rename_i h;rw[dw_nil];constructor
   ·intro b x c;rcases gd.1 c with rfl|c
    ·exact h
    ·exact b x c
   ·intro b x c;exact b x (gk _ c)
  ·rename_i h;constructor
   ·intro b;cases b
   ·intro b;exact absurd (b a gi) h
theorem dw_head {α:Type} {p:α->Bool}:∀{l:List α},l.dropWhile p≠[]->∃x,x∈l.dropWhile p/\p x=false
 |[],h=>absurd rfl h
 |a::l,h=>by
  rw[Pp] at h⊢;split
  ·rename_i b;rw[if_pos b] at h;exact dw_head h
  ·rename_i b;exact⟨a,gi,by simpa using b⟩
theorem dw_sub {α:Type} {p:α->Bool}:∀{l:List α} {x:α},x∈l.dropWhile p->x∈l
 |[],_,h=>h
 |a::l,x,h=>by
  rw[Pp] at h;split at h
  ·exact gk _ (dw_sub h)
  ·exact h
theorem k90 {l cs:List UInt8}:Lib.trimS l cs=[]↔ ∀x,x∈l->cs.contains x=true:=by
 unfold Lib.trimS Lib.trimLeftS Lib.trimRightS;rw[dw_nil];constructor
 ·intro h;by_cases a:∀x,x∈l->cs.contains x=true
  ·exact a
  ·exfalso;have b:List.dropWhile (λx=>cs.contains x) l.reverse≠[]:=λe=>a λx c=>dw_nil.1 e x (Pa.2 c);obtain⟨y,g,f⟩:=dw_head b;have d:=h y (Pa.2 g);rw[f] at d;cases d
 ·intro h x c;exact h x (Pa.1 (dw_sub (Pa.1 c)))
def abc:ByteArray:=⟨#[97,98,99,100,101,102,103,104,105,106,107,108,109,110,111,112,113,114,115,116,117,118,119,120,121,122]⟩
theorem abc_in (x:UInt8):abc.data.toList.contains x=(decide (97<=x.toNat)&&decide (x.toNat<=122)):=by
 have a:∀n:Fin 256,abc.data.toList.contains (UInt8.ofNat n.1)=(decide (97<=(UInt8.ofNat n.1).toNat)&&decide ((UInt8.ofNat n.1).toNat<=122)):=by decide+kernel
 have:=a ⟨x.toNat,x.toNat_lt⟩;simpa using this
theorem y00 {w w':World} (h:Go.RowKit.Below w.heap.size w w'):Ext w w':=⟨h.os,h.tape,h.output,h.size,λb a _=>h.block b a⟩
def zG0 (s:ByteArray):Bool:=s.data.all λc=>decide (97<=c.toNat)&&decide (c.toNat<=122)
theorem jq0 {s:ByteArray} (hs:s.size<=9223372036854775807) (f:∀w' r,Ext w w'->(r=⟨#[]⟩↔zG0 s=true)->K (.string r) w'):vcall KC #[.string s,.string abc] w K:=by
 refine⟨rK,?_⟩;refine(Any.strings_Trim_laid YtolbhkcajhlllaaGreatDoor.trimL rK s abc w hs dC (ascii_of_all dC)).mono ?_;rintro e w' ⟨rfl,g⟩;refine f w' _ (y00 g) ?_;have c:((⟨(Lib.trimS s.data.toList abc.data.toList).toArray⟩:ByteArray)=⟨#[]⟩)↔Lib.trimS s.data.toList abc.data.toList=[]:=by
  constructor
  ·intro h;have d:=congrArg (λb:ByteArray=>b.data.toList) h;simpa using d
  ·intro h;rw[h]
 rw[c,k90];unfold zG0;rw[pc];constructor
 ·intro h x a;rw[<-abc_in];exact h x (pE.2 a)
 ·intro h x a;rw[abc_in];exact h x (pE.1 a)
theorem stDecl {b:Nat} {x y:Value} {t:TypeId} {s:ByteArray} {n:Int} (h:Blk w b [x,y] t) (c:∀w',Same (· =b) w w'->w'.heap.size=w.heap.size->Blk w' b [.string s,nI n] t->K undef w'):zU xr (oP b 0) (.agg ⟨[.string s,nI n]⟩) w K:=
 h.stAgg rfl rK (by intro v a;simp only[gd,gq,or_false] at a;rcases a with rfl|rfl<;>rfl) c
theorem Zx (s:ByteArray):M.nameOk s=(decide (1<=s.size)&&decide (s.size<=4)&&decide (s≠M.tru)&&zG0 s):=rfl
theorem DeclOk_spec {v:Value} {ds:List M.Dcl} (N:DclsR F w v ds) (D:∀w',Ext w w'->K (.bool (M.declOk ds)) w'):vcall WX #[v] w K:=by
 refine ze {loops:=[(5,[3,11])],cuts:=[(32777,[])]} Tryz.func59 ?_;simp only[push_cast,N.len];refine zb (λa=>?_) (λa=>?_)
 ·have:=D w (Same.refl _ _);rwa[show M.declOk ds=false from by rw[GI];intro h;have:=(M.decl_iff.1 h).1;omega] at this
 refine vloop_up ds.length (λi u w'=>u=[nI (M.bitT ds i),nI i]/\Ext w w'/\(∀j,j<i->M.dclOk ds j=true)/\ -4*(i:Int)<=M.bitT ds i/\M.bitT ds i<=4*i) ⟨rfl,Same.refl _ _,oM,by simp[M.bitT],by simp[M.bitT]⟩ ?_;rintro i _ _ w1 C hi ⟨rfl,o,q,a0,a1⟩ hC;have E:=N.ext o;simp only[push_cast];refine zb (λb=>?_) (λb=>?_)
 ·have z:i<ds.length:=oM;have d:M.dclOk ds i=false->∀w',Ext w w'->K (.bool false) w':=λe w' he=>by
   have:=D w' he;rwa[show M.declOk ds=false from by rw[GI];intro h;have:=(M.decl_iff.1 h).2.1 i z;rw[e] at this;cases this] at this
  unfold M.dclOk at d;rw[Zx] at d;simp(disch:=first|omega|simp only[push_cast]) only[push_cast,E.iaddr,E.load];obtain⟨s,n,B⟩:∃s n,ds.getD i x20=(s,n):=⟨_,_,rfl⟩;simp only[B] at d⊢;refine zj xZ λb1 w2 U O a4 W=>?_;refine stDecl W λw3 R _ S=>?_;have a6:=o.size;have k:Ext w w3:=Ext.then (o.trans O) R λy hy=>by subst hy;omega
  refine zp (λu w'=>u=[]/\Ext w3 w'/\M.nameOk s=true) (λC' L=>?_) ?_
  ·simp(disch:=first|omega|simp only[push_cast]) only[push_cast,S.ld0,Xk kL];refine zb (λc=>?_) (λc=>?_)
   ·exact d (by rw[decide_eq_false (show¬1<=s.size by omega)];simp) _ k
   refine zb (λc2=>?_) (λc2=>?_)
   ·exact d (by rw[decide_eq_false (show¬s.size<=4 by omega)];simp) _ k
   refine zb (λc3=>?_) (λc3=>?_)
   ·exact d (by rw[show decide (s≠M.tru)=false from decide_eq_false (λh=>h c3)];simp) _ k
   refine jq0 oM λw4 r l V=>?_;simp only[push_cast];refine zb (λI=>?_) (λI=>?_)
   ·have:zG0 s=false:=by
     rw[GI];exact λh=>I (V.2 h)
    exact d (by rw[this];simp) _ (k.trans l)
   ·have J:r=⟨#[]⟩:=by
     by_cases h:r=⟨#[]⟩
     ·exact h
     ·exact absurd h I
    refine L _ _ ⟨rfl,l,?_⟩;rw[Zx,decide_eq_true (show 1<=s.size by omega),decide_eq_true (show s.size<=4 by omega),show decide (s≠M.tru)=true from decide_eq_true c3,V.1 J];rfl
  ·rintro u g w4 ⟨rfl,l,A⟩;have T:=S.ext l;have f:=k.trans l;have G:=N.ext f;rw[Zx] at A;rw[A] at d;rw[G.cut (by intro e;subst e;simp at z) rK oM];simp only[push_cast];have a3:(ds.take i).length=i:=by rw[gh];omega
   refine QK (p:=λj=>decide (((ds.take i).getD j x20).1=s)) (G.taken oM) (λj hj=>?_) λw5 m=>?_
   ·intro w' K he D;simp only[push_cast];refine ze {} Tryz.func90 ?_;refine zi λb3 w6 a2 H a5 Y=>?_;have Z:=(T.ext he).ext H;simp(disch:=first|omega|simp only[push_cast]) only[push_cast,Y.ld0,Z.ld0];exact D _ H
   ·rw[<-Xb];have X:=T.ext m;have efd:idxI (ds.take i).length (λj=>decide (((ds.take i).getD j x20).1=s))=M.findD (ds.take i) s:=rfl;rw[efd];refine zb (λc=>?_) (λc=>?_)
    ·exact d (by rw[decide_eq_false (show¬M.findD (ds.take i) s<0 by omega)];simp) _ (f.trans m)
    simp(disch:=first|omega|simp only[push_cast]) only[push_cast,X.ld1];refine zb (λc1=>?_) (λc1=>?_)
    ·exact d (by rw[decide_eq_false (show¬1<=n by omega)];simp) _ (f.trans m)
    refine zb (λc2=>?_) (λc2=>?_)
    ·exact d (by rw[decide_eq_false (show¬n<=4 by omega)];simp) _ (f.trans m)
    have t:=M.bitT_succ z;rw[show ds.getD i (M.nada,0)=(s,n) from B] at t;rw[zl (x:=M.bitT ds i+n) oM oM,inc64' oM,show M.bitT ds i+n=M.bitT ds (i+1) from t.symm];refine hC oM _ _ ⟨rfl,f.trans m,λj hj=>?_,oM,oM⟩;by_cases e:j=i
    ·subst e;unfold M.dclOk;rw[show ds.getD j (M.nada,0)=(s,n) from B,Zx,A];simp only[pw,gg,decide_eq_true_eq];exact⟨⟨oM,oM⟩,oM⟩
    ·exact q j oM
 ·have Q:i=ds.length:=oM;subst Q;have:=D w1 o;rw[M.bitT_all];have e:M.declOk ds=decide (M.bits ds<=8):=by
   rw[PK,M.decl_iff,decide_eq_true_eq];exact⟨λh=>h.2.2,λh=>⟨oM,q,h⟩⟩
  rwa[e] at this
theorem TermSort_spec {dv v:Value} {ds:List M.Dcl} {t:M.Tm} (r:DclsR F w dv ds) (z:TermR G w v t) (q:∀w',Ext w w'->K (nI (M.tsort ds t)) w'):vcall K4 #[dv,v] w K:=by
 refine ze {ord:=[oz 4 [1,2,0,3,4] [(1,[2,0]),(2,[0])]]} Tryz.func39 ?_;obtain⟨cs,rfl,c⟩:=z.cells;refine zi λb1 w1 u g y n=>?_;rw[n.ldAgg (t:=za) (by rw[zQ c];exact zc)];refine TermMany_spec (c.ext g).term λw2 i=>?_;simp only[push_cast];have e:=g.trans i;refine DeclOk_spec (r.ext e) λw3 j=>?_;have f:=e.trans j;have m:=q w3 f;unfold M.tsort at m;simp only[push_cast];refine zo (λa=>?_) (λa=>?_)
 ·rwa[if_neg (λh=>by rw[h.2] at a;cases a)] at m
 ·rw[gM] at a;refine zb (λb=>?_) (λb=>?_)
  ·rw[if_neg (λh=>by
    have n:=M.fits_iff.1 h.1;unfold M.manyM at b;rw[if_pos h.1] at b;omega)] at m
   exact m
  ·have x:M.fits t=true:=by
    by_cases h:M.fits t=true
    ·exact h
    ·unfold M.manyM at b;rw[if_neg h] at b;omega
   refine zd λB k _=>?_;have p:=((n.ext i).ext j).ext k;rw[p.ldAgg (t:=za) (by rw[zQ c];exact zc)];refine⟨rfl,VR λC mb l hm=>?_⟩;have s:=p.ext l;rw[s.ldAgg (t:=za) (by rw[zQ c];exact zc)];have d:=(f.trans k).trans l;refine⟨⟨rfl,rfl⟩,sortOf_spec t hm (r.ext d) a (c.ext d).term λA o=>?_⟩;have:=q A (d.trans o);unfold M.tsort at this;rwa[if_pos ⟨x,a⟩] at this
end
section
variable {w:World} {K:oK} {F G:Nat->Prop}
theorem l2Name_spec {s:ByteArray} (hs:s.size<=9223372036854775807) (d:K (.bool (M.nameOk s)) w):vcall Wx #[.string s] w K:=by
 refine ze {loops:=[(2,[3])]} Tryz.func66 ?_;rw[Zx] at d;refine vloop_up s.size (λi u w'=>u=[nI i]/\w'=w/\∀j,j<i->(decide (97<=(s.data.getD j 0).toNat)&&decide ((s.data.getD j 0).toNat<=122))=true) ⟨rfl,rfl,oM⟩ ?_;rintro i _ _ w1 C hi ⟨rfl,rfl,g⟩ o;simp(disch:=first|omega|simp only[push_cast]) only[push_cast,Xk kL];have l:i<s.size->(decide (97<=(s.data.getD i 0).toNat)&&decide ((s.data.getD i 0).toNat<=122))=false->zG0 s=false:=λf h=>by
  rw[GI];intro k;unfold zG0 at k;rw[pc] at k;have m:i<s.data.size:=f;have:=k (s.data.getD i 0) (by rw[gH,Gj m];exact Array.getElem_mem m);rw[h] at this;cases this
 refine zb (λa=>?_) (λa=>?_)
 ·have f:i<s.size:=oM;rw[vindex_str kL oM oM,gl];simp only[push_cast];refine zb (λb=>?_) (λb=>?_)
  ·rw[l f (by rw[decide_eq_false (show¬97<=(s.data.getD i 0).toNat by omega)];rfl),pj] at d;exact d
  rw[vindex_str kL oM oM,gl];simp only[push_cast];refine zb (λc=>?_) (λc=>?_)
  ·rw[l f (by rw[decide_eq_false (show¬(s.data.getD i 0).toNat<=122 by omega)];simp),pj] at d;exact d
  rw[inc64' oM];refine o f _ _ ⟨rfl,rfl,λj n=>?_⟩;by_cases e:j=i
  ·subst e;simp only[gg,decide_eq_true_eq];omega
  ·exact g j oM
 ·have p:i=s.size:=oM;have k:zG0 s=true:=by
   unfold zG0;rw[pc];intro x q;obtain⟨j,n,rfl⟩:=Array.getElem_of_mem q;have:=g j (by have:s.data.size=s.size:=rfl;omega);rwa[gH,Gj n] at this
  rw[k,Pe] at d
  try simp(disch:=first|omega|simp only[push_cast]) only[push_cast,Xk kL]
  refine zb (λb=>?_) (λb=>?_)
  ·refine zb (λc=>?_) (λc=>?_)
   ·rw[decide_eq_true (show 1<=s.size by omega),decide_eq_true (show s.size<=4 by omega)] at d;exact d
   ·rw[decide_eq_false (show¬s.size<=4 by omega)] at d;simpa using d
  ·rw[decide_eq_false (show¬1<=s.size by omega)] at d;simpa using d
theorem l2Find_spec {v:Value} {ds:List M.Dcl} {s:ByteArray} (f:DclsR F w v ds) (d:K (nI (M.findD ds s)) w):vcall Wy #[v,.string s] w K:=by
 refine ze {loops:=[(2,[5])]} Tryz.func67 ?_;have k:=f.small;refine vloop_up ds.length (λi u w'=>u=[nI i]/\w'=w/\∀j,j<i->(ds.getD j x20).1≠s) ⟨rfl,rfl,oM⟩ ?_;rintro i _ _ w1 C hi ⟨rfl,rfl,c⟩ g;simp only[push_cast,f.len];refine zb (λa=>?_) (λa=>?_)
 ·try simp(disch:=first|omega|simp only[push_cast]) only[push_cast,f.iaddr]
  try simp(disch:=first|omega|simp only[push_cast]) only[push_cast,f.load0]
  refine zb (λb=>?_) (λb=>?_)
  ·rw[M.findD_of oM b c] at d;exact d
  ·rw[inc64' oM];refine g oM _ _ ⟨rfl,rfl,λj h=>?_⟩;by_cases e:j=i
   ·subst e;exact b
   ·exact c j oM
 ·rw[M.findD_none (λj h=>c j oM)] at d;exact d
theorem spec_DeclOk_spec {v:Value} {ds:List M.Dcl} (E:DclsR F w v ds) (D:∀i,i<ds.length->(ds.getD i x20).1.size<=9223372036854775807) (A:∀w',Ext w w'->K (.bool (M.declOk ds)) w'):vcall WG #[v] w K:=by
 refine ze {ord:=[oz 7 (oR 35) [(0,[1]),(8,[9]),(16,[17]),(24,[25,27,28,29,30,31]),(25,[27,28,29,30,31]),(26,[27,28,29,30,31]),(27,[28])]],loops:=[(5,[3,4])]} Tryz.func43 ?_;simp only[push_cast,E.len];refine zb (λa=>?_) (λa=>?_)
 ·have:=A w (Same.refl _ _);rwa[show M.declOk ds=false from by rw[GI];intro h;have:=(M.decl_iff.1 h).1;omega] at this
 refine vloop_up ds.length (λi u w'=>u=[nI (M.bitT ds i),nI i]/\Ext w w'/\(∀j,j<i->M.dclOk ds j=true)/\ -4*(i:Int)<=M.bitT ds i/\M.bitT ds i<=4*i) ⟨rfl,Same.refl _ _,oM,by simp[M.bitT],by simp[M.bitT]⟩ ?_;rintro i _ _ w1 C hi ⟨rfl,p,m,H,I⟩ G;have r:=E.ext p;simp only[push_cast,r.len];refine zb (λb=>?_) (λb=>?_)
 ·have g:i<ds.length:=oM;have f:M.dclOk ds i=false->∀w',Ext w w'->K (.bool false) w':=λe w' he=>by
   have:=A w' he;rwa[show M.declOk ds=false from by rw[GI];intro h;have:=(M.decl_iff.1 h).2.1 i g;rw[e] at this;cases this] at this
  unfold M.dclOk at f;refine zd λw2 t _=>?_;have d:=r.ext t;have k:=p.trans t;simp(disch:=first|omega|simp only[push_cast]) only[push_cast,d.iaddr,true_and];simp(disch:=first|omega|simp only[push_cast]) only[push_cast,d.load0,d.load1,true_and];have y:=D i g;have o:=M.bitT_succ g;obtain⟨s,n,l⟩:∃s n,ds.getD i x20=(s,n):=⟨_,_,rfl⟩;rw[show ds.getD i (M.nada,0)=(s,n) from l] at o;simp only[l] at f y⊢;refine l2Name_spec y ?_;simp only[push_cast,true_and];refine zo (λc=>?_) (λc=>?_)
  ·exact f (by rw[show M.nameOk s=false by simpa using c];simp) _ k
  rw[gM] at c;rw[c] at f;have ecut:∀(w:World) (K:oK),xu xb v none (some (nI (i:Int))) none w K=K (cutV v i) w:=λw K=>d.cut (by intro e;subst e;simp at g) rK oM;have z:∀(K:oK),zt yy (.pointer (some ((eaddr v 2 i).add 0))) w2 K=K (.string s) w2:=λK=>(by rw[d.load0 kk0 g,l]);have q:∀(K:oK),zt zV (.pointer (some ((eaddr v 2 i).add 1))) w2 K=K (nI n) w2:=λK=>by rw[d.load1 Wa g,l]
  try simp(disch:=first|omega|simp only[push_cast]) only[push_cast,d.iaddr,true_and]
  try simp(disch:=first|omega|simp only[push_cast]) only[push_cast,d.iaddr,z,q,ecut,true_and]
  refine zb (λc1=>?_) (λc1=>?_)
  ·exact f (by rw[decide_eq_false (show¬1<=n by omega)];simp) _ k
  refine zb (λc2=>?_) (λc2=>?_)
  ·exact f (by rw[decide_eq_false (show¬n<=4 by omega)];simp) _ k
  refine l2Find_spec (d.taken oM) ?_;simp only[push_cast,true_and];refine zb (λc3=>?_) (λc3=>?_)
  ·exact f (by rw[decide_eq_false (show¬M.findD (ds.take i) s<0 by omega)];simp) _ k
  try simp(disch:=first|omega|simp only[push_cast]) only[push_cast,d.iaddr]
  try simp(disch:=first|omega|simp only[push_cast]) only[push_cast,q]
  rw[zl (x:=M.bitT ds i+n) oM oM,inc64' oM,show M.bitT ds i+n=M.bitT ds (i+1) from o.symm];refine G oM _ _ ⟨rfl,k,λj J=>?_,oM,oM⟩;by_cases e:j=i
  ·subst e;unfold M.dclOk;rw[show ds.getD j (M.nada,0)=(s,n) from l,c];simp only[pw,gg,decide_eq_true_eq];exact⟨⟨oM,oM⟩,oM⟩
  ·exact m j oM
 ·have B:i=ds.length:=oM;subst B;have:=A w1 p;rw[M.bitT_all];have e:M.declOk ds=decide (M.bits ds<=8):=by
   rw[PK,M.decl_iff,decide_eq_true_eq];exact⟨λh=>h.2.2,λh=>⟨oM,m,h⟩⟩
  rwa[e] at this
theorem spec_TermMany_spec:∀(t:M.Tm) {w:World} {K:oK} {F:Nat->Prop} {v:Value},TermR F w v t->(∀w',Ext w w'->K (.tuple #[nI (M.manyM t),nI (M.lvlM t)]) w')->vcall JO #[v] w K:=by
 refine M.Tm.ind λt ih w K F v ht R=>?_;refine ze {loops:=[(4,[4,5,6])],cuts:=[(20486,[])]} Tryz.func68 ?_;obtain⟨ksv,rfl,y⟩:=ht;refine zi λb1 w1 S B a1 O=>?_;have a2:=y.small;have hS:=M.szT_all t;have hD:=M.dpT_all t;have k:M.fits t=true↔M.sizeM t<=20/\M.deepM t<=7:=M.fits_iff;refine vloop_up t.ks.length (λi u w'=> ∃n d:Nat,u=[nI n,nI d,nI i]/\Ext w1 w'/\n<=41/\d<=8/\(1+M.szT t.ks i<=20/\M.dpT t.ks i<=7->n=1+M.szT t.ks i/\d=M.dpT t.ks i)/\(¬(1+M.szT t.ks i<=20/\M.dpT t.ks i<=7)->20<n\/7<d))
  ⟨1,0,rfl,Same.refl _ _,oM,oM,λh=>⟨rfl,rfl⟩,λh=>by
   have I:M.szT t.ks 0=0:=rfl;have e2:M.dpT t.ks 0=0:=rfl;omega⟩ ?_
 rintro i _ _ w2 C hi ⟨n,d,rfl,o,c1,c2,c3,H⟩ Q;have J:=O.ext o;have L:=B.trans o;have l:=y.ext L;have V:=M.szT_mono (ks:=t.ks) (i:=i) (j:=t.ks.length) oM (gu _);have W:=M.dpT_mono (ks:=t.ks) (i:=i) (j:=t.ks.length) oM (gu _);have I:IntKind.i64.wrap ((d:Int)+1)=((d+1:Nat):Int):=inc64' oM;have m:(20<n\/i=t.ks.length)->∀q,(q=K)->vif (.bool (decide ((20:Int)<n))) (q (.tuple #[nI 21,nI 8]) w2) (vif (.bool (decide ((7:Int)<((d+1:Nat):Int)))) (q (.tuple #[nI 21,nI 8]) w2) (q (.tuple #[nI (n:Int),nI ((d+1:Nat):Int)]) w2)):=by
  rintro a0 q rfl;have p:=R w2 L;unfold M.manyM M.lvlM at p;have c:(20<n\/7<d+1)->¬(M.fits t=true):=λh T=>by
   have N:=k.1 T;have:=c3 oM;omega
  refine zb (λa=>?_) (λa=>?_)
  ·rw[if_neg (c oM),if_neg (c oM)] at p;exact p
  refine zb (λb=>?_) (λb=>?_)
  ·rw[if_neg (c oM),if_neg (c oM)] at p;exact p
  ·have E:i=t.ks.length:=oM;subst E;have r:M.sizeM t<=20/\M.deepM t<=7:=by
    by_cases h:1+M.szT t.ks t.ks.length<=20/\M.dpT t.ks t.ks.length<=7
    ·have:=c3 h;omega
    ·have:=H h;omega
   have h3:=c3 oM;rw[if_pos (k.2 r),if_pos (k.2 r)] at p;rw[show n=M.sizeM t by omega,show d+1=M.deepM t by omega];exact p
 refine zp (λu w'=>u=[]/\w'=w2/\i<t.ks.length/\n<=20) (λC' z=>?_) ?_
 ·simp only[push_cast,J.ld4,l.len,I];refine zb (λa=>?_) (λa=>?_)
  ·refine zb (λb=>?_) (λb=>?_)
   ·exact z _ _ ⟨rfl,rfl,oM,oM⟩
   ·exact m (.inl oM) K rfl
  ·exact m (.inr oM) K rfl
 ·rintro u g w3 ⟨rfl,rfl,U,hn⟩;have X:=M.szT_succ (ks:=t.ks) (i:=i) oM;have Y:=M.dpT_succ (ks:=t.ks) (i:=i) oM;have Z:=M.szT_mono (ks:=t.ks) (i:=i+1) (j:=t.ks.length) oM (gu _);simp(disch:=first|omega|simp only[push_cast]) only[push_cast,J.ld4,l.iaddr];refine l.load zc oM λx N=>?_;refine ih _ (M.getD_mem oM _) N λw4 D=>?_;have f:=M.fits_iff (t:=t.ks.getD i default);have G:M.manyM (t.ks.getD i default)<=21:=by
   unfold M.manyM;split
   ·have:=f.1 (by assumption);omega
   ·omega
  have A:M.lvlM (t.ks.getD i default)<=8:=by
   unfold M.lvlM;split
   ·have:=f.1 (by assumption);omega
   ·omega
  have e:M.sizeM (t.ks.getD i default)<=20/\M.deepM (t.ks.getD i default)<=7->M.manyM (t.ks.getD i default)=M.sizeM (t.ks.getD i default)/\M.lvlM (t.ks.getD i default)=M.deepM (t.ks.getD i default):=λh=>by
   unfold M.manyM M.lvlM;rw[if_pos (f.2 h),if_pos (f.2 h)];exact⟨rfl,rfl⟩
  have c: ¬(M.sizeM (t.ks.getD i default)<=20/\M.deepM (t.ks.getD i default)<=7)->M.manyM (t.ks.getD i default)=21/\M.lvlM (t.ks.getD i default)=8:=λh=>by
   unfold M.manyM M.lvlM;rw[if_neg (λx=>h (f.1 x)),if_neg (λx=>h (f.1 x))];exact⟨rfl,rfl⟩
  generalize M.manyM (t.ks.getD i default)=nk at G e c⊢;generalize M.lvlM (t.ks.getD i default)=dk at A e c⊢;simp only[push_cast];refine l1Max_spec ?_
  try simp only[push_cast]
  rw[inc64' oM,zl (x:=(n:Int)+nk) oM oM,show(n:Int)+(nk:Int)=((n+nk:Nat):Int) by omega,show max (d:Int) (dk:Int)=((max d dk:Nat):Int) by omega];refine Q oM _ _ ⟨n+nk,max d dk,rfl,o.trans D,oM,oM,λh=>?_,λh=>?_⟩
  ·have:=c3 oM;have:=e oM;omega
  ·by_cases r:M.sizeM (t.ks.getD i default)<=20/\M.deepM (t.ks.getD i default)<=7
   ·have h5:=e r;by_cases s:1+M.szT t.ks i<=20/\M.dpT t.ks i<=7
    ·have:=c3 s;omega
    ·have:=H s;omega
   ·have:=c r;omega
end
end Go.Proofs.YtolbhkcajhlllaaGreatDoor
end
