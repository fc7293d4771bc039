import Derived.Test.YtokflbdfnbppjaaGreatDoorWvaP5
import Derived.Laws.IdiomCopy
/- A part of the proof. -/
set_option linter.all false
namespace Go.M
open Go.Vc
section
def oneM (t:Tm) (a:Int):Int:=
 if t.op=25 then(if a=0 then 0 else-1) else if a<1 then-1
 else if t.op=22 then(if 0<=t.b/\t.b<=t.a/\t.a<a then t.a-t.b+1 else-1) else a
def bothM (o a b:Int):Int:=
 if o=26\/o=27 then(if a=0/\b=0 then 0 else-1)
 else if a<1\/b<1 then-1
 else if o=14 then(if a+b<=4 then a+b else-1)
 else if a≠b then-1 else if 15<=o then 0 else a
section
variable {ds:List Dcl} {env:List Int} {t:Tm}
def kid (t:Tm) (i:Nat):Tm:=t.ks.getD i default
theorem formed_iff:formed t=true↔arity t.op=t.ks.length/\plainM t=true:=by simp[formed]
theorem arity_one {o:Int} (h:arity o=1):o=1\/o=2\/o=22\/o=25:=by
 unfold arity at h
 repeat' split at h
 all_goals omega
theorem arity_two {o:Int} (h:arity o=2):(3<=o/\o<=17)\/o=26\/o=27:=by
 unfold arity at h
 repeat' split at h
 all_goals omega
theorem arity_three {o:Int} (h:arity o=3):o=23:=by
 unfold arity at h
 repeat' split at h
 all_goals omega
theorem arity_zero {o:Int} (h:arity o=0):o=20\/o=21\/o=24:=by
 unfold arity at h
 repeat' split at h
 all_goals omega
theorem ks1 (h:t.ks.length=1):t.ks=[kid t 0]:=by
 unfold kid;generalize t.ks=ks at h⊢
 match ks,h with
 |[x],_=>rfl
theorem ks2 (h:t.ks.length=2):t.ks=[kid t 0,kid t 1]:=by
 unfold kid;generalize t.ks=ks at h⊢
 match ks,h with
 |[x,y],_=>rfl
theorem ks3 (h:t.ks.length=3):t.ks=[kid t 0,kid t 1,kid t 2]:=by
 unfold kid;generalize t.ks=ks at h⊢
 match ks,h with
 |[x,y,z],_=>rfl
theorem kid_mem {i:Nat} (h:i<t.ks.length):kid t i∈t.ks:=getD_mem h _
theorem sort_bad (h: ¬formed t=true):sortM ds t= -1:=by
 rw[sortM_eq];unfold sortF;rw[if_neg (λx=>h x.1)]
theorem sort_leaf (a:formed t=true) (h:t.ks.length=0):sortM ds t=sortK ds t []:=by
 have:t.ks=[]:=gE h;rw[sortM_eq,this];unfold sortF;rw[if_pos ⟨a,by simp⟩];rfl
theorem sort_one (g:declOk ds=true) (f:formed t=true) (h:t.ks.length=1):sortM ds t=oneM t (sortM ds (kid t 0)):=by
 have j:=arity_one (o:=t.op) (by have:=(formed_iff.1 f).1;omega);have i:=sort_range g (kid t 0);rw[sortM_eq,ks1 h];unfold sortF;simp only[gS,Pl,gn];generalize sortM ds (kid t 0)=s at i⊢;unfold oneM;by_cases hs:s= -1
 ·subst hs;rw[if_neg (by simp)];split
  ·split<;>omega
  ·rfl
 ·rw[if_pos ⟨f,λe=>hs e.symm⟩];unfold sortK;rw[if_neg (by omega),if_neg (by omega)];by_cases c:t.op=25
  ·rw[if_pos (by omega),if_pos c];by_cases d:s=0
   ·simp[d]
   ·simp[d]
  rw[if_neg (by omega),if_neg c,if_neg (by omega)];simp only[pJ];by_cases a:t.op=22
  ·rw[if_pos a,if_pos a];by_cases b:s<1
   ·rw[if_pos b,if_neg (by omega)]
   ·rw[if_neg b]
  ·rw[if_neg a,if_neg a,if_pos (by omega)];by_cases b:s<1
   ·rw[if_pos b,if_neg (by omega)]
   ·rw[if_neg b,if_pos (by omega)]
theorem sort_two (e:declOk ds=true) (f:formed t=true) (h:t.ks.length=2):sortM ds t=bothM t.op (sortM ds (kid t 0)) (sortM ds (kid t 1)):=by
 have i:=arity_two (o:=t.op) (by have:=(formed_iff.1 f).1;omega);have g:=sort_range e (kid t 0);have d:=sort_range e (kid t 1);rw[sortM_eq,ks2 h];unfold sortF;simp only[gS,Pl,gd,gw,or_false];generalize sortM ds (kid t 0)=a at g⊢;generalize sortM ds (kid t 1)=b at d⊢;unfold bothM;by_cases hs: -1=a\/ -1=b
 ·rw[if_neg (λx=>x.2 hs)]
  repeat' split
  all_goals omega
 ·rw[if_pos ⟨f,hs⟩];unfold sortK;have c:([a,b].any λx=>decide (x≠0))=decide (a≠0\/b≠0):=by
   simp only[List.any_cons,List.any_nil,Bool.or_false,Bool.decide_or]
  rw[c];simp only[pJ,GA,decide_eq_true_eq];rw[if_neg (show¬t.op=20 by omega),if_neg (show¬t.op=21 by omega),if_neg (show¬t.op=23 by omega),if_neg (show¬t.op=22 by omega)]
  repeat' split
  all_goals omega
theorem sort_three (e:formed t=true) (h:t.ks.length=3):sortM ds t=if sortM ds (kid t 0)≠0\/sortM ds (kid t 1)≠sortM ds (kid t 2) then-1 else sortM ds (kid t 1):=by
 have f:=arity_three (o:=t.op) (by have:=(formed_iff.1 e).1;omega);rw[sortM_eq,ks3 h];unfold sortF;simp only[gS,Pl,gd,gw,or_false];generalize sortM ds (kid t 0)=a;generalize sortM ds (kid t 1)=b;generalize sortM ds (kid t 2)=c;by_cases hs: -1=a\/ -1=b\/ -1=c
 ·rw[if_neg (λx=>x.2 hs)];split
  ·rfl
  ·omega
 ·rw[if_pos ⟨e,hs⟩];unfold sortK;rw[if_neg (by omega),if_neg (by omega),if_neg (by omega),if_pos f];simp only[pJ,GA];by_cases d:a=0/\b=c
  ·rw[if_pos d,if_neg (by omega)]
  ·rw[if_neg d,if_pos (by omega)]
theorem YX {i:Nat} (h:i<t.ks.length):(t.ks.map (vecM ds env)).getD i (0,0)=(sortM ds (kid t i),evalM ds env (kid t i)):=by
 rw[getD_map _ h _ default,vecM_pair];rfl
theorem good_kid (h:sortM ds t≠ -1) {i:Nat} (a:i<t.ks.length):sortM ds (kid t i)≠ -1:=(sort_parts h).2.1 _ (kid_mem a)
theorem Vu (he:envOk ds env=true) (h:sortM ds t≠ -1) {i:Nat} (a:i<t.ks.length):inS (sortM ds (kid t i)) (evalM ds env (kid t i)):=eval_in he _ (good_kid h a)
theorem one_good {a:Int} (c:t.op=1\/t.op=2\/t.op=22\/t.op=25) (h:oneM t a≠ -1):(t.op=25->a=0)/\(t.op≠25->1<=a)/\(t.op=22->0<=t.b/\t.b<=t.a/\t.a<a):=by
 unfold oneM at h
 repeat' split at h
 all_goals omega
theorem both_good {o a b:Int} (h:bothM o a b≠ -1):((o=26\/o=27)->a=0/\b=0)/\(¬(o=26\/o=27)->1<=a/\1<=b/\(o=14->a+b<=4)/\(o≠14->a=b)):=by
 unfold bothM at h
 repeat' split at h
 all_goals omega
theorem eval_un (he:envOk ds env=true) (h:sortM ds t≠ -1) (c:t.op=1\/t.op=2):t.ks.length=1/\vok (sortM ds (kid t 0)) (evalM ds env (kid t 0))=true/\evalM ds env t=(vecUn t.op (sortM ds (kid t 0)) (evalM ds env (kid t 0))).1.2:=by
 have a:=(sort_parts h).1;have b:t.ks.length=1:=by have:=(formed_iff.1 a).1;rcases c with e|e<;>rw[e] at this<;>simp[arity] at this<;>omega
 have hs:=sort_one (env_ok he).1 a b;rw[hs] at h;have f:=one_good (by omega) h;have d:=inS_pos (Vu he (by rw[hs];exact h) (i:=0) (by omega)) (by omega);refine⟨b,d,?_⟩;rw[evalM_eq];unfold valK vecUn;rw[if_neg (by omega),if_neg (by omega),if_neg (by omega),if_neg (by omega),if_neg (by omega),if_neg (by omega),if_neg (by omega),if_neg (by omega),if_pos (by omega),YX (by omega),if_pos ⟨d,c⟩]
theorem eval_cut (he:envOk ds env=true) (h:sortM ds t≠ -1) (e:t.op=22):t.ks.length=1/\vok (sortM ds (kid t 0)) (evalM ds env (kid t 0))=true/\evalM ds env t=(vecCut (sortM ds (kid t 0)) (evalM ds env (kid t 0)) t.a t.b).1.2:=by
 have c:=(sort_parts h).1;have d:t.ks.length=1:=by have:=(formed_iff.1 c).1;rw[e] at this;simp[arity] at this;omega
 have hs:=sort_one (env_ok he).1 c d;rw[hs] at h;have g:=one_good (by omega) h;have f:=inS_pos (Vu he (by rw[hs];exact h) (i:=0) (by omega)) (by omega);refine⟨d,f,?_⟩;rw[evalM_eq];unfold valK vecCut;rw[if_neg (by omega),if_neg (by omega),if_neg (by omega),if_neg (by omega),if_neg (by omega),if_neg (by omega),if_neg (by omega),if_pos (by omega),YX (by omega),if_pos ⟨f,g.2.2 e⟩]
theorem eval_bin (he:envOk ds env=true) (h:sortM ds t≠ -1) (g:3<=t.op) (j:t.op<=14):t.ks.length=2/\vok (sortM ds (kid t 0)) (evalM ds env (kid t 0))=true/\vok (sortM ds (kid t 1)) (evalM ds env (kid t 1))=true/\evalM ds env t=(vecBin t.op (sortM ds (kid t 0)) (evalM ds env (kid t 0)) (sortM ds (kid t 1)) (evalM ds env (kid t 1))).1.2:=by
 have c:=(sort_parts h).1;have e:t.ks.length=2:=by
  have:=(formed_iff.1 c).1;unfold arity at this;rw[if_neg (by omega),if_neg (by omega),if_neg (by omega),if_neg (by omega),if_pos (by omega)] at this;omega
 have hs:=sort_two (env_ok he).1 c e;rw[hs] at h;have d:=(both_good h).2 (by omega);have f:=inS_pos (Vu he (by rw[hs];exact h) (i:=0) (by omega)) (by omega);have b:=inS_pos (Vu he (by rw[hs];exact h) (i:=1) (by omega)) (by omega);refine⟨e,f,b,?_⟩;rw[evalM_eq];unfold valK vecBin;rw[if_neg (show¬t.op=20 by omega),if_neg (show¬t.op=21 by omega),if_neg (show¬t.op=24 by omega),if_neg (show¬t.op=25 by omega),if_neg (show¬t.op=26 by omega),if_neg (show¬t.op=27 by omega),if_neg (show¬t.op=23 by omega),if_neg (show¬t.op=22 by omega),if_neg (show¬t.op<=2 by omega),YX (by omega),YX (by omega),if_pos (show vok _ _=true/\vok _ _=true from⟨f,b⟩)];by_cases a:t.op=14
 ·rw[if_pos a,if_pos a,if_pos (d.2.2.1 a)]
 ·rw[if_neg a,if_neg a,if_neg (show¬15<=t.op by omega),if_pos (show 3<=t.op/\t.op<=13/\sortM ds (kid t 0)=sortM ds (kid t 1) from⟨g,by omega,d.2.2.2 a⟩)]
theorem eval_cmp (he:envOk ds env=true) (h:sortM ds t≠ -1) (g:15<=t.op) (b:t.op<=17):t.ks.length=2/\vok (sortM ds (kid t 0)) (evalM ds env (kid t 0))=true/\vok (sortM ds (kid t 1)) (evalM ds env (kid t 1))=true/\evalM ds env t=b2i (vecCmp t.op (sortM ds (kid t 0)) (evalM ds env (kid t 0)) (sortM ds (kid t 1)) (evalM ds env (kid t 1))).1:=by
 have c:=(sort_parts h).1;have d:t.ks.length=2:=by
  have:=(formed_iff.1 c).1;unfold arity at this;rw[if_neg (by omega),if_neg (by omega),if_neg (by omega),if_neg (by omega),if_pos (by omega)] at this;omega
 have hs:=sort_two (env_ok he).1 c d;rw[hs] at h;have f:=(both_good h).2 (by omega);have e:=inS_pos (Vu he (by rw[hs];exact h) (i:=0) (by omega)) (by omega);have a:=inS_pos (Vu he (by rw[hs];exact h) (i:=1) (by omega)) (by omega);refine⟨d,e,a,?_⟩;rw[evalM_eq];unfold valK vecCmp;rw[if_neg (by omega),if_neg (by omega),if_neg (by omega),if_neg (by omega),if_neg (by omega),if_neg (by omega),if_neg (by omega),if_neg (by omega),if_neg (by omega),YX (by omega),YX (by omega),if_neg (by omega),if_pos (by omega),if_pos ⟨e,a,f.2.2.2 (by omega),g,b⟩]
theorem eval_no (he:envOk ds env=true) (h:sortM ds t≠ -1) (d:t.op=25):t.ks.length=1/\inS 0 (evalM ds env (kid t 0))/\evalM ds env t=1-evalM ds env (kid t 0):=by
 have b:=(sort_parts h).1;have c:t.ks.length=1:=by have:=(formed_iff.1 b).1;rw[d] at this;simp[arity] at this;omega
 have hs:=sort_one (env_ok he).1 b c;rw[hs] at h;have f:=one_good (by omega) h;have a:=Vu he (by rw[hs];exact h) (i:=0) (by omega);rw[f.1 d] at a;refine⟨c,a,?_⟩;rw[evalM_eq];unfold valK;rw[if_neg (by omega),if_neg (by omega),if_neg (by omega),if_pos (by omega),YX (by omega)];simp only;rcases inS_zero a with e|e<;>rw[e]<;>rfl
theorem eval_two (he:envOk ds env=true) (h:sortM ds t≠ -1) (d:t.op=26\/t.op=27):t.ks.length=2/\inS 0 (evalM ds env (kid t 0))/\inS 0 (evalM ds env (kid t 1))/\evalM ds env t=if t.op=26 then evalM ds env (kid t 0)*evalM ds env (kid t 1) else max (evalM ds env (kid t 0)) (evalM ds env (kid t 1)):=by
 have f:=(sort_parts h).1;have j:t.ks.length=2:=by have:=(formed_iff.1 f).1;rcases d with e|e<;>rw[e] at this<;>simp[arity] at this<;>omega
 have hs:=sort_two (env_ok he).1 f j;rw[hs] at h;have g:=(both_good h).1 d;have c:=Vu he (by rw[hs];exact h) (i:=0) (by omega);have a:=Vu he (by rw[hs];exact h) (i:=1) (by omega);rw[g.1] at c;rw[g.2] at a;refine⟨j,c,a,?_⟩;rw[evalM_eq];unfold valK;rw[if_neg (by omega),if_neg (by omega),if_neg (by omega),if_neg (by omega),YX (by omega),YX (by omega)];simp only;rcases d with e|e
 ·rw[if_pos e,if_pos e];rcases inS_zero c with e|e<;>rcases inS_zero a with b|b<;>rw[e,b]<;>rfl
 ·rw[if_neg (by omega),if_pos e,if_neg (by omega)];rcases inS_zero c with e|e<;>rcases inS_zero a with b|b<;>rw[e,b]<;>rfl
theorem eval_if (he:envOk ds env=true) (h:sortM ds t≠ -1) (c:t.op=23):t.ks.length=3/\inS 0 (evalM ds env (kid t 0))/\evalM ds env t=if evalM ds env (kid t 0)=1 then evalM ds env (kid t 1) else evalM ds env (kid t 2):=by
 have a:=(sort_parts h).1;have b:t.ks.length=3:=by have:=(formed_iff.1 a).1;rw[c] at this;simp[arity] at this;omega
 have hs:=sort_three (ds:=ds) a b;have d:=Vu he h (i:=0) (by omega);rw[hs] at h;have e:sortM ds (kid t 0)=0:=by
  split at h
  ·exact absurd rfl h
  ·omega
 rw[e] at d;refine⟨b,d,?_⟩;rw[evalM_eq];unfold valK;rw[if_neg (by omega),if_neg (by omega),if_neg (by omega),if_neg (by omega),if_neg (by omega),if_neg (by omega),if_pos c,YX (by omega),YX (by omega),YX (by omega)]
theorem eval_leaf (h:t.op=20\/t.op=21\/t.op=24):evalM ds env t=if t.op=20 then t.b else if t.op=21 then env.getD (findD ds t.s).toNat 0 else 1:=by
 rw[evalM_eq];unfold valK;rcases h with h|h|h
 ·rw[if_pos h,if_pos h]
 ·rw[if_neg (by omega),if_pos h,if_neg (by omega),if_pos h]
 ·rw[if_neg (by omega),if_neg (by omega),if_pos h,if_neg (by omega),if_neg (by omega)]
theorem name_found (h:sortM ds t≠ -1) (a:t.op=21):0<=findD ds t.s:=by
 obtain⟨_,_,hs⟩:=sort_parts h;rw[hs] at h;unfold sortK at h;rw[if_neg (by omega),if_pos a] at h;split at h
 ·exact absurd rfl h
 ·omega
end
def wordL (o:Int):List UInt8:=
 if o=1 then[110,111,116] else if o=2 then[110,101,103] else if o=3 then[97,110,100] else if o=4 then[111,114] else if o=5 then[120,111,114]
 else if o=6 then[97,100,100] else if o=7 then[115,117,98] else if o=8 then[109,117,108] else if o=9 then[100,105,118] else if o=10 then[114,101,109]
 else if o=11 then[115,104,108] else if o=12 then[115,104,114] else if o=13 then[115,97,114] else if o=14 then[99,97,116] else if o=15 then[115,97,109,101]
 else if o=16 then[108,101,115,115] else if o=17 then[117,110,100,101,114] else if o=22 then[99,117,116] else if o=23 then[105,102] else if o=25 then[110,111]
 else if o=26 then[98,111,116,104] else if o=27 then[97,110,121] else[]
end
end Go.M
section
namespace Go.M
def Zy (w a:Nat):List Bool:=(List.range w).map λi=>decide (a/2^i%2=1)
theorem YH (w a:Nat):(Zy w a).length=w:=by unfold Zy;rw[X0,Gy]
theorem Kd0 {w a i:Nat} (h:i<w) (d:Bool):(Zy w a).getD i d=decide (a/2^i%2=1):=by
 unfold Zy;rw[k6,Gn,pc h];rfl
def UC (w n:Int):List Bool:=if w=0 then[decide (n=1)] else Zy w.toNat n.toNat
theorem valB_len {w n:Int} (h:0<=w):(UC w n).length=(max 1 w).toNat:=by
 unfold UC;split
 ·next e=>rw[e];rfl
 ·rw[YH];omega
theorem un_bits {op w a:Int} (c:op=1\/op=2) (h:vok w a=true):unV op (UC w a)=UC w (unM op w a):=by
 have hw:=vok_lt h;unfold UC;rw[if_neg (by omega),if_neg (by omega)];have b:∀w:Fin 5,∀n:Fin 16,1<=w.1->n.1<2^w.1->unV 1 (Zy w n)=Zy w (unM 1 w n).toNat/\unV 2 (Zy w n)=Zy w (unM 2 w n).toNat:=by decide+kernel
 have:=small1 (p:=λw n=>unV 1 (Zy w n)=Zy w (unM 1 w n).toNat/\unV 2 (Zy w n)=Zy w (unM 2 w n).toNat) b h;rw[show((w.toNat:Nat):Int)=w by omega,show((a.toNat:Nat):Int)=a by omega] at this;rcases c with rfl|rfl
 ·exact this.1
 ·exact this.2
def UA0 (op w:Nat):Bool:=(List.range 16).all λa=>(List.range 16).all λb=> !(decide (a<2^w)&&decide (b<2^w))||decide (Uy0 op (Zy w a) (Zy w b)=Zy w (binN op w a b))
theorem bin_bits {op w a b:Int} (n:3<=op) (d:op<=13) (j:vok w a=true) (k:vok w b=true):Uy0 op (UC w a) (UC w b)=UC w (WJ0 op w a b):=by
 obtain⟨l,m,p,q⟩:=vok_iff.1 j;obtain⟨_,_,g,i⟩:=vok_iff.1 k;have e:((2^w.toNat:Nat):Int)=2^w.toNat:=by simp
 have f:2^w.toNat<=2^4:=gO (by omega) (by omega);have c:∀o:Fin 14,∀v:Fin 5,3<=o.1->1<=v.1->UA0 o v=true:=by decide+kernel
 have:=c ⟨op.toNat,by omega⟩ ⟨w.toNat,by omega⟩ (by show 3<=op.toNat;omega) (by show 1<=w.toNat;omega);simp only[UA0,gN,gy,gP,gY,GO,decide_eq_false_iff_not,decide_eq_true_eq] at this;unfold UC;rw[if_neg (by omega),if_neg (by omega),if_neg (by omega)];rcases this a.toNat (by omega) b.toNat (by omega) with(h|h)|h
 ·exact absurd (by omega) h
 ·exact absurd (by omega) h
 ·rw[show((op.toNat:Nat):Int)=op by omega] at h;rw[h];unfold WJ0;rw[gl]
def Uw0 (op w:Nat):Bool:=(List.range 16).all λa=>(List.range 16).all λb=> !(decide (a<2^w)&&decide (b<2^w))||(cmpV op (Zy w a) (Zy w b)==cmpM op w a b)
theorem cmp_bits {op w a b:Int} (n:15<=op) (d:op<=17) (j:vok w a=true) (k:vok w b=true):cmpV op (UC w a) (UC w b)=cmpM op w a b:=by
 obtain⟨l,m,p,q⟩:=vok_iff.1 j;obtain⟨_,_,g,i⟩:=vok_iff.1 k;have e:((2^w.toNat:Nat):Int)=2^w.toNat:=by simp
 have f:2^w.toNat<=2^4:=gO (by omega) (by omega);have c:∀o:Fin 18,∀v:Fin 5,15<=o.1->1<=v.1->Uw0 o v=true:=by decide+kernel
 have:=c ⟨op.toNat,by omega⟩ ⟨w.toNat,by omega⟩ (by show 15<=op.toNat;omega) (by show 1<=w.toNat;omega);simp only[Uw0,gN,gy,gP,gY,GO,decide_eq_false_iff_not,beq_iff_eq] at this;unfold UC;rw[if_neg (by omega),if_neg (by omega)];rcases this a.toNat (by omega) b.toNat (by omega) with(h|h)|h
 ·exact absurd (by omega) h
 ·exact absurd (by omega) h
 ·rwa[show((op.toNat:Nat):Int)=op by omega,show((w.toNat:Nat):Int)=w by omega,show((a.toNat:Nat):Int)=a by omega,show((b.toNat:Nat):Int)=b by omega] at h
def Ux0 (w v:Nat):Bool:=(List.range 16).all λa=>(List.range 16).all λb=> !(decide (a<2^w)&&decide (b<2^v))||decide (Zy v b++Zy w a=Zy (w+v) (a*2^v+b))
theorem cat_bits {w v a b:Int} (k:vok w a=true) (l:vok v b=true) (hs:w+v<=4):UC v b++UC w a=UC (w+v) (W90 v a b):=by
 obtain⟨m,n,o,p⟩:=vok_iff.1 k;obtain⟨q,r,i,j⟩:=vok_iff.1 l;have e:((2^w.toNat:Nat):Int)=2^w.toNat:=by simp
 have f:((2^v.toNat:Nat):Int)=2^v.toNat:=by simp
 have g:2^w.toNat<=2^4:=gO (by omega) (by omega);have d:2^v.toNat<=2^4:=gO (by omega) (by omega);have c:∀w:Fin 5,∀v:Fin 5,1<=w.1->1<=v.1->w.1+v.1<=4->Ux0 w v=true:=by decide+kernel
 have:=c ⟨w.toNat,by omega⟩ ⟨v.toNat,by omega⟩ (by show 1<=w.toNat;omega) (by show 1<=v.toNat;omega) (by show w.toNat+v.toNat<=4;omega);simp only[Ux0,gN,gy,gP,gY,GO,decide_eq_false_iff_not,decide_eq_true_eq] at this;unfold UC;rw[if_neg (by omega),if_neg (by omega),if_neg (by omega)];rcases this a.toNat (by omega) b.toNat (by omega) with(h|h)|h
 ·exact absurd (by omega) h
 ·exact absurd (by omega) h
 ·rw[h,show(w+v).toNat=w.toNat+v.toNat by omega];congr 1;unfold W90;have:((a.toNat*2^v.toNat+b.toNat:Nat):Int)=a*2^v.toNat+b:=by
   rw[Int.natCast_add,Int.natCast_mul,f,show((a.toNat:Nat):Int)=a by omega,show((b.toNat:Nat):Int)=b by omega]
  omega
def Uv0 (w:Nat):Bool:=(List.range 16).all λa=>(List.range 4).all λhi=>(List.range 4).all λlo=> !(decide (a<2^w)&&decide (lo<=hi)&&decide (hi<w))||decide (((Zy w a).drop lo).take (hi-lo+1)=Zy (hi-lo+1) (a/2^lo%2^(hi-lo+1)))
theorem cut_bits {w a b lo:Int} (f:vok w a=true) (g:0<=lo) (m:lo<=b) (hw:b<w):((UC w a).drop lo.toNat).take (b-lo+1).toNat=UC (b-lo+1) (cutM a b lo):=by
 obtain⟨i,j,k,l⟩:=vok_iff.1 f;have e:((2^w.toNat:Nat):Int)=2^w.toNat:=by simp
 have d:2^w.toNat<=2^4:=gO (by omega) (by omega);have c:∀w:Fin 5,1<=w.1->Uv0 w=true:=by decide+kernel
 have:=c ⟨w.toNat,by omega⟩ (by show 1<=w.toNat;omega);simp only[Uv0,gN,gy,gP,gY,GO,decide_eq_false_iff_not,decide_eq_true_eq] at this;unfold UC;rw[if_neg (by omega),if_neg (by omega)];rcases this a.toNat (by omega) b.toNat (by omega) lo.toNat (by omega) with((h|h)|h)|h
 ·exact absurd (by omega) h
 ·exact absurd (by omega) h
 ·exact absurd (by omega) h
 ·rw[show(b-lo+1).toNat=b.toNat-lo.toNat+1 by omega,h];congr 1;unfold cutM;rw[show(b-lo+1).toNat=b.toNat-lo.toNat+1 by omega];have:((a.toNat/2^lo.toNat%2^(b.toNat-lo.toNat+1):Nat):Int)=a/2^lo.toNat%2^(b.toNat-lo.toNat+1):=by
   rw[Int.natCast_emod,Int.natCast_ediv,show((a.toNat:Nat):Int)=a by omega];simp
  omega
def insM:List Dcl->List Int->List Bool
 |d::ds,n::env=>(Zy d.2.toNat n.toNat).reverse++insM ds env
 |_,_=>[]
def nameB (ds:List Dcl) (k:Nat):List Int:=(List.range ((ds.getD k (nada,0)).2).toNat).map λ(j:Nat)=>2+bits (ds.take k)+(ds.getD k (nada,0)).2-1-j
def fixB (w n:Int):List Int:=(List.range w.toNat).map λ(j:Nat)=>if n.toNat/2^j%2=1 then 1 else-1
def nodeB (ds:List Dcl) (t:Tm) (rs:List (List Int)):Bd (List Int):=
 if t.op=20 then .ret (fixB t.a t.b)
 else if t.op=21 then .ret (nameB ds (findD ds t.s).toNat)
 else if t.op=24 then .ret [1]
 else if t.op=25 then .ret [-((rs.getD 0 []).getD 0 0)]
 else if t.op=26 then .and ((rs.getD 0 []).getD 0 0) ((rs.getD 1 []).getD 0 0) λv=> .ret [v]
 else if t.op=27 then(orB ((rs.getD 0 []).getD 0 0) ((rs.getD 1 []).getD 0 0)).map λv=>[v]
 else if t.op=23 then eachB (muxB ((rs.getD 0 []).getD 0 0)) (rs.getD 1 []) (rs.getD 2 [])
 else if t.op=22 then .ret (((rs.getD 0 []).drop t.b.toNat).take (t.a-t.b+1).toNat)
 else if t.op<=2 then unB t.op (rs.getD 0 [])
 else if 15<=t.op/\t.op<=17 then(cmpB t.op (rs.getD 0 []) (rs.getD 1 [])).map λv=>[v]
 else binB t.op (rs.getD 0 []) (rs.getD 1 [])
def seqB:List (Bd (List Int))->Bd (List (List Int))
 |p::ps=>p.bind λr=>(seqB ps).map (r:: ·)
 |[]=> .ret []
def termB (ds:List Dcl):Tm->Bd (List Int):=Tm.fold λt ps=>(seqB ps).bind (nodeB ds t)
theorem termB_eq (ds:List Dcl) (t:Tm):termB ds t=(seqB (t.ks.map (termB ds))).bind (nodeB ds t):=Tm.fold_eq _ t
theorem bits_cons' (d:Dcl) (ds:List Dcl):bits (d::ds)=d.2+bits ds:=by unfold bits;rw[gS,PX]
theorem insM_len:∀{ds:List Dcl} {env:List Int},env.length=ds.length->(∀d,d∈ds->0<=d.2)->((insM ds env).length:Int)=bits ds
 |[],env,_,_=>by cases env<;>rfl
 |d::ds,[],a,_=>by simp at a
 |d::ds,n::env,a,b=>by
  have f:=insM_len (ds:=ds) (env:=env) (by simpa using a) λx c=>b x (gj _ c);have e:=b d gg;simp only[insM,Q1,pK,YH,bits_cons'];omega
theorem bits_pos' {ds:List Dcl}:(∀d,d∈ds->0<=d.2)->0<=bits ds:=by
 induction ds with
 |nil=>intro _;exact Pj _
 |cons d ds b=>
  intro h;have:=h d gg;have:=b λx a=>h x (gj _ a);rw[bits_cons'];omega
theorem insM_get:∀{ds:List Dcl} {env:List Int} {k i:Nat},env.length=ds.length->(∀d,d∈ds->0<=d.2)->k<ds.length->(i:Int)<(ds.getD k (nada,0)).2->
  (insM ds env).getD ((bits (ds.take k)).toNat+i) false=decide ((env.getD k 0).toNat/2^((ds.getD k (nada,0)).2.toNat-1-i)%2=1)
 |d::ds,n::env,0,i,e,f,c,g=>by
  have b:i<d.2.toNat:=by have:(i:Int)<d.2:=g;omega
  show((Zy d.2.toNat n.toNat).reverse++insM ds env).getD (0+i) false=decide (n.toNat/2^(d.2.toNat-1-i)%2=1);rw[gQ,k6,gA (by rw[pK,YH];exact b),List.getElem?_reverse (by rw[YH];exact b),YH,<-k6,Kd0 (by omega)]
 |d::ds,n::env,k+1,i,e,f,c,g=>by
  have a:∀x,x∈ds->0<=x.2:=λx h=>f x (gj _ h);have j:=insM_get (ds:=ds) (env:=env) (k:=k) (i:=i) (by simpa using e) a (by simpa using c) (by simpa using g);have l:=f d gg;have m:=bits_pos' (ds:=ds.take k) λx h=>a x (gZ h);show((Zy d.2.toNat n.toNat).reverse++insM ds env).getD ((bits (d::ds.take k)).toNat+i) false=_;rw[bits_cons',k6,gW (by rw[pK,YH];omega),<-k6,pK,YH,show(d.2+bits (ds.take k)).toNat+i-d.2.toNat=(bits (ds.take k)).toNat+i by omega,j];simp only[GA]
 |[],_,_,_,_,_,c,_=>by simp at c
 |_::_,[],_,_,e,_,_,_=>by simp at e
section
variable {ρ:Int->Bool} {ds:List Dcl} {env:List Int}
def Ins (ρ:Int->Bool) (ds:List Dcl) (env:List Int):Prop:=∀i:Nat,i<(insM ds env).length->ρ (2+i)=(insM ds env).getD i false
theorem dpos (h:declOk ds=true):∀d,d∈ds->0<=d.2:=λd b=>by
 obtain⟨j,a,rfl⟩:=gq b;have:=dcl_wide h a;rw[k6,K3 a] at this;simp at this;omega
theorem bits_le {k:Nat} (h:declOk ds=true) (b:k<ds.length):bits (ds.take k)+(ds.getD k (nada,0)).2<=bits ds/\0<=bits (ds.take k):=by
 have c:=dpos h;have e:bits ds=bits (ds.take k)+bits (ds.drop k):=by
  unfold bits;rw[<-Pz,<-gx,GL]
 have d:ds.drop k=ds.getD k (nada,0)::ds.drop (k+1):=by
  rw[GS b,k6,K3 b];rfl
 have f:=bits_pos' (ds:=ds.drop (k+1)) λx a=>c x (pD a);rw[d,bits_cons'] at e;exact⟨by omega,bits_pos' λx a=>c x (gZ a)⟩
theorem name_has {k m:Nat} (h:declOk ds=true) (c:k<ds.length) (hm:1+bits ds<=m):hasL m (nameB ds k):=λx d=>by
 obtain⟨j,a,rfl⟩:=gm.1 d;have b:=gy.1 a;have:=bits_le h c;exact⟨by omega,by omega,by omega⟩
theorem name_bits (he:envOk ds env=true) (d:Ins ρ ds env) {k:Nat} (b:k<ds.length):(nameB ds k).map ρ=Zy ((ds.getD k (nada,0)).2).toNat (env.getD k 0).toNat:=by
 obtain⟨a,c,i⟩:=env_ok he;have h:=bits_le a b;have hlen:=insM_len c (dpos a);unfold nameB Zy;rw[GM];refine Gj λj f=>?_;have g:=gy.1 f;have e:(2+bits (ds.take k)+(ds.getD k (nada,0)).2-1-(j:Int))=2+(((bits (ds.take k)).toNat+((ds.getD k (nada,0)).2.toNat-1-j):Nat):Int):=by omega
 show ρ (2+bits (ds.take k)+(ds.getD k (nada,0)).2-1-(j:Int))=_;rw[e,d _ (by omega),insM_get c (dpos a) b (by omega)];rw[show(ds.getD k (nada,0)).2.toNat-1-((ds.getD k (nada,0)).2.toNat-1-j)=j by omega]
theorem WB0 {k:Nat} {w n:Int} (a:1<=k):hasL k (fixB w n):=λx b=>by
 obtain⟨j,_,rfl⟩:=gm.1 b;split
 ·exact has_one a
 ·exact has_mone a
theorem Vs0 (h:Rho ρ) {w n:Int}:(fixB w n).map ρ=Zy w.toNat n.toNat:=by
 unfold fixB Zy;rw[GM];refine Gj λj _=>?_;show ρ (if _ then _ else _)=_;split
 ·next e=>rw[h.one,decide_eq_true e]
 ·next e=>rw[h.mone,decide_eq_false e]
theorem seq_sat {k0:Nat} {f:Tm->Bd (List Int)} {g:Tm->List Bool}:∀{ks:List Tm} {k:Nat} {Q:Nat->List (List Int)->Prop},k0<=k->(∀t,t∈ks->∀{k:Nat} {Q:Nat->List Int->Prop},k0<=k->(∀a r,k<=a->hasL a r->r.map ρ=g t->Q a r)->Says ρ k (f t) Q)->
  (∀a rs,k<=a->(∀r,r∈rs->hasL a r)->rs.map (λr=>r.map ρ)=ks.map g->Q a rs)->Says ρ k (seqB (ks.map f)) Q:=by
 intro ks;induction ks with
 |nil=>intro k Q _ _ b;exact b k [] (gr _) (λr c=>by cases c) rfl
 |cons t ks l=>
  intro k Q j h b;refine Says.bind (h t gg j λo r n c rr=>?_);refine Says.bind (l (by omega) (λu hu=>h u (gj _ hu)) λm rs i d rrs=>?_);refine b m (r::rs) (by omega) (λx e=>?_) (by rw[gS,gS,rr,rrs]);rcases gd.1 e with rfl|e
  ·exact c.mono i
  ·exact d x e
theorem zq0 (n:Int):UC 0 n=[decide (n=1)]:=rfl
theorem head_rho {r:List Int} {b:Bool} (h:r.map ρ=[b]):r.length=1/\ρ (r.getD 0 0)=b:=by
 match r,h with
 |[x],h=>exact⟨rfl,by simpa using h⟩
theorem node_sat (h:Rho ρ) (he:envOk ds env=true) (P:Ins ρ ds env) {t:Tm} (hs:sortM ds t≠ -1) {k:Nat} (hk:1+bits ds<=k) {rs:List (List Int)} (a1:∀r,r∈rs->hasL k r)
  (J:rs.map (λr=>r.map ρ)=t.ks.map λu=>UC (sortM ds u) (evalM ds env u)) {Q:Nat->List Int->Prop}
  (j:∀z r,k<=z->hasL z r->r.map ρ=UC (sortM ds t) (evalM ds env t)->Q z r):Says ρ k (nodeB ds t rs) Q:=by
 obtain⟨hd,R,hv⟩:=env_ok he;obtain⟨hf,a6,a2⟩:=sort_parts hs;have a4:0<=bits ds:=bits_pos' (dpos hd);have G:1<=k:=by omega
 simp only[formed,V0,decide_eq_true_eq] at hf;obtain⟨n,a8⟩:=hf;have a3:=arity_ops (o:=t.op) (by omega);have a7:rs.length=t.ks.length:=by have:=congrArg List.length J;simpa using this
 have q:∀i,i<t.ks.length->(t.ks.map (sortM ds)).getD i 0=sortM ds (kid t i):=λi P=>getD_map _ P _ _;have E:∀i,i<t.ks.length->(t.ks.map (vecM ds env)).getD i (0,0)=(sortM ds (kid t i),evalM ds env (kid t i)):=λi P=>by
  rw[getD_map _ P _ default,vecM_pair];rfl
 have H:∀i,i<t.ks.length->inS (sortM ds (kid t i)) (evalM ds env (kid t i)):=λi P=>Vu he hs P;have K:∀i,i<t.ks.length->hasL k (rs.getD i [])/\(rs.getD i []).map ρ=UC (sortM ds (kid t i)) (evalM ds env (kid t i)):=λi w=>by
  refine⟨a1 _ (getD_mem (by omega) _),?_⟩;have e:=congrArg (λl=>l.getD i []) J;rw[getD_map _ (by omega) [] [],getD_map _ w [] default] at e;exact e
 have d:=evalM_eq ds env t;rw[a2] at hs j;unfold sortK at hs j;unfold valK at d;unfold nodeB;by_cases W:t.op=20
 ·simp only[W,if_true] at hs j d⊢;by_cases hv':vok t.a t.b=true
  ·rw[if_pos hv'] at hs j;have:=vok_lt hv';refine j k _ (gr _) (WB0 G) ?_;rw[Vs0 h,d];unfold UC;rw[if_neg (by omega)]
  ·rw[if_neg hv'] at hs;exact absurd rfl hs
 simp only[if_neg W] at hs j d⊢;by_cases X:t.op=21
 ·simp only[X,if_true] at hs j d⊢;have a5:=findD_lt ds t.s;by_cases S:findD ds t.s<0
  ·rw[if_pos S] at hs;exact absurd rfl hs
  ·rw[if_neg S] at hs j;have hj:(findD ds t.s).toNat<ds.length:=(by omega);have hw:=dcl_wide hd hj;refine j k _ (gr _) (name_has hd hj hk) ?_;rw[name_bits he P hj,d];unfold UC;rw[if_neg (by omega)]
 simp only[if_neg X] at hs j d⊢;by_cases Y:24<=t.op
 ·simp only[if_pos Y] at hs j;by_cases S:(t.ks.map (sortM ds)).any (λx=>decide (x≠0))=true
  ·rw[if_pos S] at hs;exact absurd rfl hs
  ·rw[if_neg S] at hs j;have hz:∀i,i<t.ks.length->sortM ds (kid t i)=0:=λi w=>by
    simp only[GZ,decide_eq_true_eq,not_exists,not_and,Decidable.not_not] at S;exact S _ (Gc (getD_mem w _))
   have Z:∀i,i<t.ks.length->has k ((rs.getD i []).getD 0 0)/\ρ ((rs.getD i []).getD 0 0)=decide (evalM ds env (kid t i)=1)/\(evalM ds env (kid t i)=0\/evalM ds env (kid t i)=1):=λi w=>by
    obtain⟨I,F⟩:=K i w;rw[hz i w,zq0] at F;obtain⟨l1,l2⟩:=head_rho F;have V:=H i w;rw[hz i w] at V;exact⟨Wn I (by omega) 0,l2,inS_zero V⟩
   simp only[zq0] at j;rcases(by omega:t.op=24\/t.op=25\/t.op=26\/t.op=27) with e|e|e|e
   ·rw[if_pos e] at d⊢;exact j k _ (gr _) (hasL_cons.2 ⟨has_one G,λx q=>by cases q⟩) (by rw[G0,h.one,d];rfl)
   ·rw[if_neg (by omega),if_pos e] at d⊢;have h1:t.ks.length=1:=by rw[e] at n;simp[arity] at n;omega
    obtain⟨b1,b2,b3⟩:=Z 0 (by omega);rw[E 0 (by omega)] at d;refine j k _ (gr _) (hasL_cons.2 ⟨has_neg b1,λx q=>by cases q⟩) ?_;rw[G0,h.neg _ b1.1,b2,d];rcases b3 with b3|b3<;>simp only[b3]<;>rfl
   ·rw[if_neg (by omega),if_neg (by omega),if_pos e] at d⊢;have h1:t.ks.length=2:=by rw[e] at n;simp[arity] at n;omega
    obtain⟨b1,b2,b3⟩:=Z 0 (by omega);obtain⟨c1,c2,c3⟩:=Z 1 (by omega);rw[E 0 (by omega),E 1 (by omega)] at d;refine⟨b1,c1,λz v p hv U=>j z _ p (hasL_cons.2 ⟨hv,λx q=>by cases q⟩) ?_⟩;rw[G0,U,b2,c2,d];rcases b3 with b3|b3<;>rcases c3 with c3|c3<;>simp only[b3,c3]<;>rfl
   ·rw[if_neg (by omega),if_neg (by omega),if_neg (by omega),if_pos e] at d⊢;have h1:t.ks.length=2:=by rw[e] at n;simp[arity] at n;omega
    obtain⟨b1,b2,b3⟩:=Z 0 (by omega);obtain⟨c1,c2,c3⟩:=Z 1 (by omega);rw[E 0 (by omega),E 1 (by omega)] at d;refine Says.bind (XR0 h b1 c1 λz v p hv U=>j z _ p (hasL_cons.2 ⟨hv,λx q=>by cases q⟩) ?_);rw[G0,U,b2,c2,d];rcases b3 with b3|b3<;>rcases c3 with c3|c3<;>simp only[b3,c3]<;>rfl
 simp only[if_neg Y,if_neg (show¬t.op=24 by omega),if_neg (show¬t.op=25 by omega),if_neg (show¬t.op=26 by omega),if_neg (show¬t.op=27 by omega)] at hs j d⊢;by_cases O:t.op=23
 ·simp only[O,if_true] at hs j d⊢;have V:t.ks.length=3:=by rw[O] at n;simp[arity] at n;omega
  rw[q 0 (by omega),q 1 (by omega),q 2 (by omega)] at hs j;rw[E 0 (by omega),E 1 (by omega),E 2 (by omega)] at d;by_cases m:sortM ds (kid t 0)=0/\sortM ds (kid t 1)=sortM ds (kid t 2)
  ·rw[if_pos m] at hs j;obtain⟨I,F⟩:=K 0 (by omega);obtain⟨p1,p2⟩:=K 1 (by omega);obtain⟨q1,q2⟩:=K 2 (by omega);rw[m.1,zq0] at F;obtain⟨l1,l2⟩:=head_rho F;have a0:has k ((rs.getD 0 []).getD 0 0):=Wn I (by omega) 0;refine each_sat (C:=λk=>has k ((rs.getD 0 []).getD 0 0)) (g:=λa b=>if ρ ((rs.getD 0 []).getD 0 0) then a else b) (λ_ _ h R=>has_mono h R) (λm q E hq=>mux_sat h m q E hq) a0 p1 q1 λz r p B rr=>j z r p B ?_;have hlen:∀{a b:List Bool},a.length=b.length->∀c:Bool,eachV (λx y=>if c then x else y) a b=if c then a else b:=λ{a b}=>by
    induction a generalizing b with
    |nil=>
     intro R c;cases b with
     |nil=>cases c<;>rfl
     |cons y b=>simp at R
    |cons x a ih=>
     intro R c;cases b with
     |nil=>simp at R
     |cons y b=>simp only[eachV];rw[ih (by simpa using R) c];cases c<;>rfl
   rw[rr,p2,q2,hlen (by rw[<-m.2];unfold UC;split<;>simp[YH]),l2,d];simp only;by_cases D:evalM ds env (kid t 0)=1
   ·rw[if_pos D,decide_eq_true D,if_pos rfl]
   ·rw[if_neg D,decide_eq_false D,if_neg (by decide),m.2]
  ·rw[if_neg m] at hs;exact absurd rfl hs
 simp only[if_neg O] at hs j d⊢;by_cases N:t.op=22
 ·simp only[N,if_true] at hs j d⊢;have V:t.ks.length=1:=by rw[N] at n;simp[arity] at n;omega
  rw[q 0 (by omega)] at hs j;rw[E 0 (by omega)] at d;by_cases m:0<=t.b/\t.b<=t.a/\t.a<sortM ds (kid t 0)
  ·rw[if_pos m] at hs j;obtain⟨I,F⟩:=K 0 (by omega);have T:=inS_pos (H 0 (by omega)) (by omega);refine j k _ (gr _) (zC0 λx q=>I x (pD q)) ?_;rw[Gp,pR,F,cut_bits T m.1 m.2.1 m.2.2,d]
  ·rw[if_neg m] at hs;exact absurd rfl hs
 simp only[if_neg N] at hs j d⊢;by_cases h2:t.op<=2
 ·simp only[if_pos h2] at hs j d⊢;have ho:t.op=1\/t.op=2:=(by omega);have V:t.ks.length=1:=by rcases ho with e|e<;>rw[e] at n<;>simp[arity] at n<;>omega
  rw[q 0 (by omega)] at hs j;rw[E 0 (by omega)] at d;by_cases m:0<sortM ds (kid t 0)
  ·rw[if_pos m] at hs j;obtain⟨I,F⟩:=K 0 (by omega);have T:=inS_pos (H 0 (by omega)) m;refine Ua0 h G I λz r p B rr=>j z r p B ?_;rw[rr,F,un_bits ho T,d]
  ·rw[if_neg m] at hs;exact absurd rfl hs
 simp only[if_neg h2] at hs j d⊢;have V:t.ks.length=2:=by
  unfold arity at n;rw[if_neg (by omega),if_neg (by omega),if_neg (by omega),if_neg (by omega),if_pos (by omega)] at n;omega
 rw[q 0 (by omega),q 1 (by omega)] at hs j;rw[E 0 (by omega),E 1 (by omega)] at d;obtain⟨I,F⟩:=K 0 (by omega);obtain⟨p1,p2⟩:=K 1 (by omega);have i0:=H 0 (by omega);have i1:=H 1 (by omega);have f:=congrArg List.length F;have A:=congrArg List.length p2;rw[X0] at f A;by_cases L:t.op=14
 ·simp only[L,if_true] at hs j d;by_cases m:0<sortM ds (kid t 0)/\0<sortM ds (kid t 1)/\sortM ds (kid t 0)+sortM ds (kid t 1)<=4
  ·rw[if_pos m] at hs j;have v0:=inS_pos i0 m.1;have v1:=inS_pos i1 m.2.1;rw[valB_len (by omega)] at f;rw[if_neg (by omega)];refine bin_sat h G I p1 (λe=>by rw[e] at f;simp at f;omega) λz r p B rr=>j z r p B ?_;rw[rr,F,p2,L];unfold Uy0;rw[if_pos rfl,cat_bits v0 v1 m.2.2,d]
  ·rw[if_neg m] at hs;exact absurd rfl hs
 simp only[if_neg L] at hs j d;by_cases M:15<=t.op
 ·simp only[if_pos M] at hs j d;by_cases m:0<sortM ds (kid t 0)/\sortM ds (kid t 0)=sortM ds (kid t 1)
  ·rw[if_pos m] at hs j;have v0:=inS_pos i0 m.1;have v1:vok (sortM ds (kid t 0)) (evalM ds env (kid t 1))=true:=by rw[m.2];exact inS_pos i1 (by omega)
   rw[valB_len (by omega)] at f A;rw[if_pos (by omega)];refine Says.bind (WI0 h G I p1 (by rw[f,A,m.2]) (λe=>by rw[e] at f;simp at f;omega) λz v p hv' rv=>j z _ p (hasL_cons.2 ⟨hv',λx q=>by cases q⟩) ?_);rw[G0,rv,F,p2,<-m.2,cmp_bits M (by omega) v0 v1,d,zq0];cases cmpM t.op (sortM ds (kid t 0)) (evalM ds env (kid t 0)) (evalM ds env (kid t 1))<;>rfl
  ·rw[if_neg m] at hs;exact absurd rfl hs
 simp only[if_neg M] at hs j d;by_cases m:0<sortM ds (kid t 0)/\sortM ds (kid t 0)=sortM ds (kid t 1)
 ·rw[if_pos m] at hs j;have v0:=inS_pos i0 m.1;have v1:vok (sortM ds (kid t 0)) (evalM ds env (kid t 1))=true:=by rw[m.2];exact inS_pos i1 (by omega)
  rw[valB_len (by omega)] at f;rw[if_neg (by omega)];refine bin_sat h G I p1 (λe=>by rw[e] at f;simp at f;omega) λz r p B rr=>j z r p B ?_;rw[rr,F,p2,<-m.2,bin_bits (by omega) (by omega) v0 v1,d]
 ·rw[if_neg m] at hs;exact absurd rfl hs
theorem term_sat (h:Rho ρ) (he:envOk ds env=true) (d:Ins ρ ds env):∀t:Tm,sortM ds t≠ -1->∀{k:Nat} {Q:Nat->List Int->Prop},1+bits ds<=k->
  (∀a r,k<=a->hasL a r->r.map ρ=UC (sortM ds t) (evalM ds env t)->Q a r)->Says ρ k (termB ds t) Q:=by
 refine Tm.ind λt l hs k Q p c=>?_;rw[termB_eq];refine Says.bind (seq_sat (k0:=k) (g:=λu=>UC (sortM ds u) (evalM ds env u)) (gr _) (λu hu=>λ{q n} f i=>l u hu ((sort_parts hs).2.1 u hu) (by omega) i) λa rs e b hm=>?_);exact node_sat h he d hs (by omega) b hm λm r o j rr=>c m r (by omega) j rr
end
end Go.M
end
section
namespace Go.M
namespace Bd
theorem reach_inv {α β:Type} {p:Bd α} {f:α->Bd β} {b:β} (h:(p.bind f).Reach b):∃a,p.Reach a/\(f a).Reach b:=by
 induction p with
 |ret a=>exact⟨a,rfl,h⟩
 |and x y k g=>obtain⟨v,e⟩:=h;obtain⟨a,c,d⟩:=g v e;exact⟨a,⟨v,c⟩,d⟩
 |xor x y k g=>obtain⟨v,e⟩:=h;obtain⟨a,c,d⟩:=g v e;exact⟨a,⟨v,c⟩,d⟩
theorem reach_map {α β:Type} {p:Bd α} {f:α->β} {b:β} (h:(p.map f).Reach b):∃a,p.Reach a/\b=f a:=by
 obtain⟨a,c,d⟩:=reach_inv h;exact⟨a,c,d⟩
end Bd
theorem sum_len:∀{xs ys:List Int} {c:Int} {r:List Int},(sumB xs ys c).Reach r->r.length=min xs.length ys.length
 |[],_,c,r,h=>by cases h;simp
 |_::_,[],c,r,h=>by cases h;simp
 |x::xs,y::ys,c,r,h=>by
  obtain⟨v1,v2,v3,v4,h⟩:=h;obtain⟨c',_,h⟩:=Bd.reach_inv h;obtain⟨b,a,rfl⟩:=Bd.reach_map h;rw[gu,sum_len a,gu,gu];omega
theorem each_len {f:Int->Int->Bd Int}:∀{xs ys:List Int} {r:List Int},(eachB f xs ys).Reach r->r.length=min xs.length ys.length
 |[],_,r,h=>by cases h;simp
 |_::_,[],r,h=>by cases h;simp
 |x::xs,y::ys,r,h=>by
  obtain⟨s,_,h⟩:=Bd.reach_inv h;obtain⟨b,a,rfl⟩:=Bd.reach_map h;rw[gu,each_len a,gu,gu];omega
theorem row_len {s:Int}:∀{xs:List Int} {r:List Int},(rowB s xs).Reach r->r.length=xs.length
 |[],r,h=>by cases h;rfl
 |x::xs,r,h=>by
  obtain⟨v,h⟩:=h;obtain⟨b,a,rfl⟩:=Bd.reach_map h;rw[gu,row_len a,gu]
theorem mul_len {xs:List Int}:∀{ys:List Int} {i:Nat} {s r:List Int},i+ys.length<=xs.length->s.length=xs.length->(mulB xs ys i s).Reach r->r.length=xs.length
 |[],i,s,r,_,hs,h=>by cases h;exact hs
 |y::ys,i,s,r,d,hs,h=>by
  rw[gu] at d;obtain⟨w,hw,h⟩:=Bd.reach_inv h;obtain⟨e,b,h⟩:=Bd.reach_inv h;have c:=row_len hw;have a:=sum_len b;rw[Q1,c,gi] at a;unfold offsL at a;rw[gF] at a;exact mul_len (by omega) (by omega) h
theorem negL_len (xs:List Int):(negL xs).length=xs.length:=X0 _
theorem div_len {xs wide:List Int} (hw:wide.length=xs.length+1):∀{n:Nat} {r q:List Int} {p:List Int×List Int},r.length=xs.length->q.length=xs.length->(divB xs wide n r q).Reach p->p.1.length=xs.length/\p.2.length=xs.length
 |0,r,q,p,c,a,h=>by cases h;exact⟨a,c⟩
 |n+1,r,q,p,c,a,h=>by
  obtain⟨l,_,h⟩:=Bd.reach_inv h;obtain⟨u,hu,h⟩:=Bd.reach_inv h;obtain⟨f,b,h⟩:=Bd.reach_inv h;have d:=sum_len hu;have e:=each_len b;rw[gu,negL_len] at d;rw[gi,gi,gu] at e;exact div_len hw (by omega) (by rw[gH];exact a) h
theorem shift_len {up:Bool} {fill:Int}:∀{ys:List Int} {i:Nat} {s r:List Int},(shiftB up fill ys i s).Reach r->r.length=s.length
 |[],i,s,r,h=>by cases h;rfl
 |c::ys,i,s,r,h=>by
  obtain⟨d,a,h⟩:=Bd.reach_inv h;have b:=each_len a;rw[X0,Gy] at b;rw[shift_len h];omega
theorem offsL_len (n:Nat):(offsL n).length=n:=gF ..
theorem un_len {op:Int} {x r:List Int} (h:(unB op x).Reach r):r.length=x.length:=by
 unfold unB at h;split at h
 ·cases h;exact negL_len x
 ·have:=sum_len h;rw[offsL_len,negL_len] at this;omega
theorem bin_len {op:Int} {x y r:List Int} (h:(binB op x y).Reach r) (b:op≠14->x.length=y.length):r.length=if op=14 then x.length+y.length else x.length:=by
 unfold binB at h;by_cases c:op=14
 ·rw[if_pos c] at h⊢;cases h;rw[Q1];omega
 rw[if_neg c] at h⊢;have d:=b c
 repeat' split at h
 ·have:=each_len h;omega
 ·have:=each_len h;omega
 ·have:=each_len h;omega
 ·have:=sum_len h;omega
 ·have:=sum_len h;rw[negL_len] at this;omega
 ·exact mul_len (by omega) (offsL_len _) h
 ·obtain⟨p,a,rfl⟩:=Bd.reach_map h;exact(div_len (by rw[Q1,gD];omega) (offsL_len _) (offsL_len _) a).1
 ·obtain⟨p,a,rfl⟩:=Bd.reach_map h;exact(div_len (by rw[Q1,gD];omega) (offsL_len _) (offsL_len _) a).2
 ·exact shift_len h
 ·exact shift_len h
 ·exact shift_len h
theorem nameB_len {ds:List Dcl} {k:Nat}:(nameB ds k).length=((ds.getD k (nada,0)).2).toNat:=by unfold nameB;rw[X0,Gy]
theorem fixB_len {w n:Int}:(fixB w n).length=w.toNat:=by unfold fixB;rw[X0,Gy]
def lenS (w:Int):Nat:=(max 1 w).toNat
theorem node_len {ds:List Dcl} {t:Tm} (B:declOk ds=true) (hs:sortM ds t≠ -1) {rs:List (List Int)} (l:∀i,i<t.ks.length->(rs.getD i []).length=lenS (sortM ds (kid t i))) {r:List Int} (h:(nodeB ds t rs).Reach r):r.length=lenS (sortM ds t):=by
 obtain⟨C,H,y⟩:=sort_parts hs;simp only[formed,V0,decide_eq_true_eq] at C;obtain⟨d,J⟩:=C;have D:=arity_ops (o:=t.op) (by omega);have k:∀i,i<t.ks.length->(t.ks.map (sortM ds)).getD i 0=sortM ds (kid t i):=λi G=>getD_map _ G _ _;have K:∀i,-1<=sortM ds (kid t i)/\sortM ds (kid t i)<=4:=λi=>sort_range B _;rw[y] at hs⊢;unfold sortK at hs⊢;unfold nodeB at h;by_cases n:t.op=20
 ·simp only[n,if_true] at hs h⊢;by_cases hv':vok t.a t.b=true
  ·rw[if_pos hv'];have:=vok_lt hv';cases h;rw[fixB_len];unfold lenS;omega
  ·rw[if_neg hv'] at hs;exact absurd rfl hs
 simp only[if_neg n] at hs h⊢;by_cases p:t.op=21
 ·simp only[p,if_true] at hs h⊢;have F:=findD_lt ds t.s;by_cases u:findD ds t.s<0
  ·rw[if_pos u] at hs;exact absurd rfl hs
  ·rw[if_neg u];have hw:=dcl_wide B (i:=(findD ds t.s).toNat) (by omega);cases h;rw[nameB_len];unfold lenS;omega
 simp only[if_neg p] at hs h⊢;by_cases q:24<=t.op
 ·simp only[if_pos q] at hs⊢;by_cases u:(t.ks.map (sortM ds)).any (λx=>decide (x≠0))=true
  ·rw[if_pos u] at hs;exact absurd rfl hs
  ·rw[if_neg u];show r.length=1;rcases(by omega:t.op=24\/t.op=25\/t.op=26\/t.op=27) with e|e|e|e
   ·rw[if_pos e] at h;cases h;rfl
   ·rw[if_neg (by omega),if_pos e] at h;cases h;rfl
   ·rw[if_neg (by omega),if_neg (by omega),if_pos e] at h;obtain⟨v,h⟩:=h;cases h;rfl
   ·rw[if_neg (by omega),if_neg (by omega),if_neg (by omega),if_pos e] at h;obtain⟨v,_,rfl⟩:=Bd.reach_map h;rfl
 simp only[if_neg q,if_neg (show¬t.op=24 by omega),if_neg (show¬t.op=25 by omega),if_neg (show¬t.op=26 by omega),if_neg (show¬t.op=27 by omega)] at hs h⊢;by_cases j:t.op=23
 ·simp only[j,if_true] at hs h⊢;have w:t.ks.length=3:=by rw[j] at d;simp[arity] at d;omega
  rw[k 0 (by omega),k 1 (by omega),k 2 (by omega)] at hs⊢;by_cases c:sortM ds (kid t 0)=0/\sortM ds (kid t 1)=sortM ds (kid t 2)
  ·rw[if_pos c];have:=each_len h;rw[l 1 (by omega),l 2 (by omega),<-c.2] at this;omega
  ·rw[if_neg c] at hs;exact absurd rfl hs
 simp only[if_neg j] at hs h⊢;by_cases g:t.op=22
 ·simp only[g,if_true] at hs h⊢;have w:t.ks.length=1:=by rw[g] at d;simp[arity] at d;omega
  rw[k 0 (by omega)] at hs⊢;by_cases c:0<=t.b/\t.b<=t.a/\t.a<sortM ds (kid t 0)
  ·rw[if_pos c];cases h;rw[gi,G1,l 0 (by omega)];unfold lenS;omega
  ·rw[if_neg c] at hs;exact absurd rfl hs
 simp only[if_neg g] at hs h⊢;by_cases A:t.op<=2
 ·simp only[if_pos A] at hs h⊢;have w:t.ks.length=1:=by
   have I:t.op=1\/t.op=2:=(by omega);rcases I with e|e<;>rw[e] at d<;>simp[arity] at d<;>omega
  rw[k 0 (by omega)] at hs⊢;by_cases c:0<sortM ds (kid t 0)
  ·rw[if_pos c,un_len h,l 0 (by omega)]
  ·rw[if_neg c] at hs;exact absurd rfl hs
 simp only[if_neg A] at hs h⊢;have w:t.ks.length=2:=by
  unfold arity at d;rw[if_neg (by omega),if_neg (by omega),if_neg (by omega),if_neg (by omega),if_pos (by omega)] at d;omega
 rw[k 0 (by omega),k 1 (by omega)] at hs⊢;have z:=l 0 (by omega);have E:=l 1 (by omega);by_cases f:t.op=14
 ·simp only[f,if_true] at hs⊢;by_cases c:0<sortM ds (kid t 0)/\0<sortM ds (kid t 1)/\sortM ds (kid t 0)+sortM ds (kid t 1)<=4
  ·rw[if_pos c];rw[if_neg (by omega)] at h;have:=bin_len h λe=>absurd f e;rw[if_pos f,z,E] at this;rw[this];unfold lenS;omega
  ·rw[if_neg c] at hs;exact absurd rfl hs
 simp only[if_neg f] at hs⊢;by_cases m:15<=t.op
 ·simp only[if_pos m] at hs⊢;by_cases c:0<sortM ds (kid t 0)/\sortM ds (kid t 0)=sortM ds (kid t 1)
  ·rw[if_pos c];rw[if_pos (by omega)] at h;obtain⟨v,_,rfl⟩:=Bd.reach_map h;rfl
  ·rw[if_neg c] at hs;exact absurd rfl hs
 simp only[if_neg m] at hs⊢;by_cases c:0<sortM ds (kid t 0)/\sortM ds (kid t 0)=sortM ds (kid t 1)
 ·rw[if_pos c];rw[if_neg (by omega)] at h;have:=bin_len h λ_=>(by rw[z,E,c.2]);rw[if_neg f,z] at this;exact this
 ·rw[if_neg c] at hs;exact absurd rfl hs
theorem seq_reach {f:Tm->Bd (List Int)}:∀{ks:List Tm} {rs:List (List Int)},(seqB (ks.map f)).Reach rs->rs.length=ks.length/\∀i,i<ks.length->(f (ks.getD i default)).Reach (rs.getD i [])
 |[],rs,h=>by cases h;exact⟨rfl,λi c=>absurd c (by simp)⟩
 |t::ks,rs,h=>by
  obtain⟨r,d,h⟩:=Bd.reach_inv h;obtain⟨g,e,rfl⟩:=Bd.reach_map h;obtain⟨a,b⟩:=seq_reach e;refine⟨by rw[gu,gu,a],λi c=>?_⟩;cases i with
  |zero=>exact d
  |succ i=>exact b i (by simpa using c)
theorem term_len {ds:List Dcl} (d:declOk ds=true):∀t:Tm,sortM ds t≠ -1->∀{r:List Int},(termB ds t).Reach r->r.length=lenS (sortM ds t):=by
 refine Tm.ind λt f hs r h=>?_;rw[termB_eq] at h;obtain⟨rs,b,c⟩:=Bd.reach_inv h;obtain⟨_,e⟩:=seq_reach b;exact node_len d hs (λi a=>f _ (getD_mem a _) (good_kid hs a) (e i a)) c
end Go.M
end
namespace Go.Proofs.YtokflbdfnbppjaaGreatDoor
open Go Go.Vc Go.Proofs Go.MapKept
section
variable {w:World} {K:Value->World->Prop}
def gv (g:M.Gt):Value:= .agg ⟨[.bool g.x,.int .i64 g.a,.int .i64 g.b]⟩
theorem Ur0 {g h:M.Gt} (e:gv g=gv h):g=h:=by
 cases g;cases h;simp only[gv,Value.agg.injEq,Array.mk.injEq,Gd,Value.bool.injEq,Value.int.injEq,and_true,true_and] at e;obtain⟨rfl,rfl,rfl⟩:=e;rfl
theorem eqGate (g h:M.Gt) (w:World):(Op.equalIn 10000 zu (gv g) (gv h)).run P w= .ok (decide (g=h)) w:=by
 obtain⟨x,a,b⟩:=g;obtain⟨y,c,d⟩:=h;have n:(P.fieldsOf zu).toList=[(P.fieldsOf zu).getD 0 default,(P.fieldsOf zu).getD 1 default,(P.fieldsOf zu).getD 2 default]:=by kernel_rfl
 have k:((P.fieldsOf zu).getD 0 default).name≠ "_" :=by decide+kernel
 have l:((P.fieldsOf zu).getD 1 default).name≠ "_" :=by decide+kernel
 have m:((P.fieldsOf zu).getD 2 default).name≠ "_" :=by decide+kernel
 have i0:P.underlying ((P.fieldsOf zu).getD 0 default).type=some .bool:=by kernel_rfl
 have i1:P.underlying ((P.fieldsOf zu).getD 1 default).type=some (.int .i64):=by kernel_rfl
 have i2:P.underlying ((P.fieldsOf zu).getD 2 default).type=some (.int .i64):=by kernel_rfl
 have p0:∀x y z:Value,(part ((P.fieldsOf zu).getD 0 default).type ⟨[x,y,z]⟩ ((P.fieldsOf zu).getD 0 default).offset).run P w= .ok x w:=λx y z=>by kernel_rfl
 have p1:∀x y z:Value,(part ((P.fieldsOf zu).getD 1 default).type ⟨[x,y,z]⟩ ((P.fieldsOf zu).getD 1 default).offset).run P w= .ok y w:=λx y z=>by kernel_rfl
 have p2:∀x y z:Value,(part ((P.fieldsOf zu).getD 2 default).type ⟨[x,y,z]⟩ ((P.fieldsOf zu).getD 2 default).offset).run P w= .ok z w:=λx y z=>by kernel_rfl
 have i:∀d,(Op.equalIn (d+1) ((P.fieldsOf zu).getD 0 default).type (.bool x) (.bool y)).run P w= .ok (x==y) w:=λd=>by
  rw[Op.equalIn,Sem.run_bind,run_underlying i0];rfl
 unfold gv;rw[run_equalIn_struct w 9999 zu _ _ (by kernel_rfl) (by kernel_rfl),n];generalize (P.fieldsOf zu).getD 0 default=f0 at k i0 p0 i⊢;generalize (P.fieldsOf zu).getD 1 default=f1 at l i1 p1⊢;generalize (P.fieldsOf zu).getD 2 default=f2 at m i2 p2⊢;simp only[Op.eqFields,if_pos k,if_pos l,if_pos m,Sem.run_bind,p0,p1,p2,Result.andThen_ok,i 9998,run_equalIn_int w 9998 _ _ _ _ _ i1,run_equalIn_int w 9998 _ _ _ _ _ i2];by_cases e:x=y
 ·by_cases f:a=c
  ·by_cases j:b=d
   ·subst e;subst f;subst j;simp[p1,p2,run_equalIn_int w 9998 _ _ _ _ _ i1,run_equalIn_int w 9998 _ _ _ _ _ i2]
   ·subst e;subst f;simp[p1,p2,run_equalIn_int w 9998 _ _ _ _ _ i1,run_equalIn_int w 9998 _ _ _ _ _ i2,j]
  ·subst e;simp[p1,p2,run_equalIn_int w 9998 _ _ _ _ _ i1,run_equalIn_int w 9998 _ _ _ _ _ i2,f]
 ·simp[e]
def GMap (w:World) (b:Nat) (f:List (M.Gt×Int)):Prop:= ∃es cl,w.heap[b]?=some (.map es cl)/\Stamped es cl/\es.toList.map (λe=>(e.key,e.val))=f.map λp=>(gv p.1,Value.int .i64 p.2)
theorem GMap.lt {b:Nat} {f:List (M.Gt×Int)} (h:GMap w b f):b<w.heap.size:=by
 obtain⟨es,cl,a,_⟩:=h;exact(gB.1 a).1
theorem GMap.same {b:Nat} {f:List (M.Gt×Int)} {S:Nat->Prop} {w':World} (h:GMap w b f) (hw:Same S w w') (hs: ¬S b):GMap w' b f:=by
 have a:=h.lt;obtain⟨es,cl,c,r⟩:=h;exact⟨es,cl,(hw.block b a hs).trans c,r⟩
theorem GMap.ext {b:Nat} {f:List (M.Gt×Int)} {w':World} (h:GMap w b f) (hw:Ext w w'):GMap w' b f:=h.same hw id
theorem Zl0 (g:M.Gt) (e:Bool) (w:World):(Instr.checkKey e 10000 zu (gv g)).run P w= .ok () w:=by
 obtain⟨x,a,b⟩:=g;kernel_rfl
def findP (g:M.Gt):List (M.Gt×Int)->Nat->Option (Nat×Int)
 |[],_=>none
 |p::r,i=>if g=p.1 then some (i,p.2) else findP g r (i+1)
theorem ask_run (g:M.Gt) (w:World):∀(l:List MapEntry) (f:List (M.Gt×Int)) (i:Nat),l.map (λe=>(e.key,e.val))=f.map (λp=>(gv p.1,Value.int .i64 p.2))->
  (Instr.findAsking zu (gv g) l i).run P w= .ok ((findP g f i).map λq=>(q.1,.int .i64 q.2)) w
 |[],[],i,_=>rfl
 |[],_::_,_,h=>by simp at h
 |_::_,[],_,h=>by simp at h
 |e::l,p::f,i,h=>by
  simp only[gS,Gd,GF] at h;obtain⟨⟨a,b⟩,d⟩:=h;have j:(Op.equal zu (gv g) e.key).run P w= .ok (decide (g=p.1)) w:=by rw[a];exact eqGate g p.1 w
  simp only[Instr.findAsking,Sem.run_bind,j,Result.andThen_ok,findP];by_cases c:g=p.1
  ·rw[if_pos (by simpa using c),if_pos c];simp[b]
  ·rw[if_neg (by simpa using c),if_neg c];exact ask_run g w l f (i+1) d
theorem gate_struct:∃fs,P.underlying zu=some (.struct fs):=by
 have h:(match P.underlying zu with|some (.struct _)=>true|_=>false)=true:=by kernel_rfl
 split at h
 ·next fs e=>exact⟨fs,e⟩
 ·cases h
theorem Zr0 (g:M.Gt) (w:World) {l:List MapEntry} {f:List (M.Gt×Int)} (h:l.map (λe=>(e.key,e.val))=f.map (λp=>(gv p.1,Value.int .i64 p.2))):
  (Instr.findKey zu (gv g) l).run P w= .ok ((findP g f 0).map λq=>(q.1,.int .i64 q.2)) w:=by
 obtain⟨fs,a⟩:=gate_struct;unfold Instr.findKey;rw[Sem.run_bind,run_underlying a];simp only[Result.andThen_ok];cases l with
 |nil=>
  cases f with
  |nil=>rfl
  |cons p f=>simp at h
 |cons e l=>
  have:Instr.findNow (.struct fs) (gv g) (e::l) 0=none:=(by simp[Instr.findNow,Instr.sameNow]);rw[this];exact ask_run g w (e::l) f 0 h
theorem findP_none {g:M.Gt}:∀{f:List (M.Gt×Int)} {i:Nat},findP g f i=none↔ ∀p,p∈f->p.1≠g
 |[],i=>by simp[findP]
 |p::f,i=>by
  unfold findP;split
  ·next e=>exact⟨λh=>(by cases h),λh=>absurd e.symm (h p gg)⟩
  ·next e=>rw[findP_none (f:=f)];simp only[gd,forall_eq_or_imp];exact⟨λh=>⟨λa=>e a.symm,h⟩,λh=>h.2⟩
def WL (g:M.Gt) (f:List (M.Gt×Int)):Option Int:=(findP g f 0).map (·.2)
theorem Us0 {k:Option Value} (a:k=none) (c:∀b w',b=w.heap.size->GMap w' b []->Ext w w'->w'.heap.size=w.heap.size+1->K (.map (some b)) w'):Kr0 P zL k w K:=by
 subst a;refine⟨.map (some w.heap.size),w.alloc (.map #[] 0),?_,c _ _ rfl ⟨#[],0,(heap_alloc w _).1,stamped_empty 0,rfl⟩ ⟨rfl,rfl,rfl,by simp,λk a _=>(heap_alloc w _).2 k a⟩ (by simp)⟩;simp[Instr.makeMap,newObj,Sem.run]
theorem glook {g:M.Gt} {ok:Bool} {b:Nat} {f:List (M.Gt×Int)} (h:GMap w b f):Jd P zL (.map (some b)) (gv g) ok w K=K (match WL g f with|some n=>(if ok then .tuple #[.int .i64 n,.bool true] else .int .i64 n)|none=>if ok then .tuple #[.int .i64 0,.bool false] else .int .i64 0) w:=by
 obtain⟨es,cl,a,d,he⟩:=h;have hm:P.underlying zL=some (.map zu ze)/\xg P ze (.int .i64 0):=⟨ZX,X7⟩;refine yU ?_;unfold WL;cases c:findP g f 0 with
 |none=>cases ok<;>simp[Instr.lookup,run_underlying hm.1,MapKept.run_getObj_map a,Zl0,Zr0 g w he,c,Wi hm.2,Result.andThen]
 |some p=>cases ok<;>simp[Instr.lookup,run_underlying hm.1,MapKept.run_getObj_map a,Zl0,Zr0 g w he,c,Result.andThen]
theorem W60 {g:M.Gt} {b:Nat} {f:List (M.Gt×Int)} (h:GMap w b f):Jd P zL (.map (some b)) (gv g) true w K=K (match WL g f with|some n=> .tuple #[.int .i64 n,.bool true]|none=> .tuple #[.int .i64 0,.bool false]) w:=by
 rw[glook h];cases WL g f<;>rfl
theorem Ut0 {g:M.Gt} {b:Nat} {f:List (M.Gt×Int)} (h:GMap w b f):Jd P zL (.map (some b)) (gv g) false w K=K (match WL g f with|some n=> .int .i64 n|none=> .int .i64 0) w:=by
 rw[glook h];cases WL g f<;>rfl
theorem look_app {g h:M.Gt} {n:Int}:∀{f:List (M.Gt×Int)} {i:Nat},(findP g (f++[(h,n)]) i).map (·.2)=match(findP g f i).map (·.2) with|some m=>some m|none=>if g=h then some n else none
 |[],i=>by simp only[gX,findP,Option.map_none];split<;>rfl
 |p::f,i=>by
  rw[Gv];unfold findP;split
  ·rfl
  ·exact look_app (f:=f)
theorem gset {g:M.Gt} {n:Int} {b:Nat} {f:List (M.Gt×Int)} (h:GMap w b f) (i:WL g f=none)
  (m:∀w',GMap w' b (f++[(g,n)])->Same (· =b) w w'->w'.heap.size=w.heap.size->K undef w'):Ya P zL (.map (some b)) (gv g) (.int .i64 n) w K:=by
 obtain⟨es,cl,c,j,he⟩:=h;have hm:P.underlying zL=some (.map zu ze):=ZX;have d:findP g f 0=none:=by
  unfold WL at i;cases d:findP g f 0 with
  |none=>rfl
  |some p=>rw[d] at i;cases i
 have l:∀x,x∈es.toList->x.key≠gv g:=λx q e=>by
  have a:(x.key,x.val)∈f.map λp=>(gv p.1,Value.int .i64 p.2):=by rw[<-he];exact gm.2 ⟨x,q,rfl⟩
  obtain⟨p,o,k⟩:=gm.1 a;have:gv p.1=gv g:=by rw[<-e];exact congrArg Prod.fst k
  exact findP_none.1 d p o (Ur0 this)
 refine⟨(),{w with heap:=w.heap.setIfInBounds b (.map (es.push {key:=gv g,val:= .int .i64 n,born:=cl}) (cl+1))},?_,m _ ⟨_,_,(heap_set c).1,stamped_push j l,by simp[he]⟩ (Xu c) (by simp)⟩;simp[Instr.mapUpdate,run_underlying hm,MapKept.run_getObj_map c,Zl0,Zr0 g w he,d,run_setObj_map _ c,Result.andThen]
end
end Go.Proofs.YtokflbdfnbppjaaGreatDoor
namespace Go.Proofs.YtokflbdfnbppjaaGreatDoor
open Go Go.Vc Go.Proofs
section
variable {w:World} {K:Value->World->Prop} {F F' Fx X:Nat->Prop}
section
variable {w' w'':World} {F'' S:Nat->Prop}
theorem Same.thn {S T:Nat->Prop} {a b c:World} (h:Same S a b) (k:Same T b c) (hs:∀x,T x->S x\/a.heap.size<=x):Same S a c:=
 ⟨k.os.trans h.os,k.tape.trans h.tape,k.output.trans h.output,Ga h.size k.size,λi d e=>
  (k.block i (gI d h.size) (λf=>(hs i f).elim e λh=>by omega)).trans (h.block i d e)⟩
structure Mv (F:Nat->Prop) (w:World) (F':Nat->Prop) (w':World):Prop where
 same:Same F w w'
 new:∀b,F' b->F b\/w.heap.size<=b
theorem Mv.refl:Mv F w F w:=⟨Same.refl _ _,λ_ h=> .inl h⟩
theorem Mv.trans (h:Mv F w F' w') (k:Mv F' w' F'' w''):Mv F w F'' w'':=by
 have hs:=h.same.size;exact⟨Same.thn h.same k.same h.new,λb a=>(k.new b a).elim (h.new b) λh=> .inr (by omega)⟩
theorem Mv.to (h:Mv F w F' w') (k:Same S w' w'') (a:∀b,S b->F' b\/w.heap.size<=b):Mv F w F' w'':=
 ⟨Same.thn h.same k λb c=>(a b c).elim (h.new b) .inr,h.new⟩
theorem Mv.ext (h:Mv F w F' w') (k:Ext w' w''):Mv F w F' w'':=h.to k λ_ h=>h.elim
theorem Mv.off (h:Mv F w F' w') {b:Nat} (c: ¬F b) (e:b<w.heap.size): ¬F' b:=λa=>(h.new b a).elim c λd=>by omega
abbrev Off (X F:Nat->Prop):Nat->Prop:=λb=> ¬F b/\¬X b
theorem Ints.mv {v:Value} {xs:List Int} (h:Ints (Off X F) w v xs) (hm:Mv F w F' w'):Ints (Off X F') w' v xs:=by
 have c:Ints (λb=>(¬F b/\¬X b)/\b<w.heap.size) w v xs:=Ints.weaken h λb a e=>⟨a,e⟩;have d:=Ints.same c hm.same λb a _=>a.1.1;exact Ints.weaken d λb a _=>⟨hm.off a.1.1 a.2,a.1.2⟩
structure NewI (X:Nat->Prop) (w:World) (F':Nat->Prop) (w':World) (v:Value) (xs:List Int):Prop where
 own:OwnI P zc w' v xs
 off:∀b,v.ownBlock=some b->w.heap.size<=b/\¬F' b
 out:∀b,v.ownBlock=some b->¬X b
theorem NewI.mv {v:Value} {xs:List Int} (h:NewI X w F' w' v xs) (hm:Mv F' w' F'' w''):NewI X w F'' w'' v xs:=
 ⟨h.own.same hm.same λb a=>(h.off b a).2,λb a=>⟨(h.off b a).1,hm.off (h.off b a).2 (h.own.lt a)⟩,h.out⟩
theorem NewI.ints {v:Value} {xs:List Int} (h:NewI X w F' w' v xs):Ints (Off X F') w' v xs:=Ints.weaken h.own.ints λb a _=>⟨(h.off b a).2,h.out b a⟩
theorem NewI.nil:NewI X w F' w' (.slice none 0 0) []:=⟨OwnI.nil,λb a=>(by cases a),λb a=>by cases a⟩
theorem NewI.app1 {ty b:Nat} {v:Value} {xs:List Int} {x:Int} {e:TypeId} (h:NewI X w F' w' v xs) (c:Blk w' b [.int .i64 x] e) (j:w.heap.size<=w'.heap.size) (hF:∀b,F' b\/X b->b<w'.heap.size) (k:xs.length<=1000000)
  (g:∀v' w'',NewI X w F' w'' v' (xs++[x])->Same (λb=>v.ownBlock=some b) w' w''->K v' w''):vbi P .append [zc,zc] ty [v,.slice (some ⟨b,0,none⟩) 1 1] w' K:=by
 refine h.own.app1 xx c (by omega) (by omega) λv' w'' i hs f=>g v' w'' ⟨i,λb c=>?_,λb c=>?_⟩ hs
 ·rcases f b c with a|a
  ·exact h.off b a
  ·exact⟨by omega,λd=>by have:=hF b (.inl d);omega⟩
 ·rcases f b c with a|a
  ·exact h.out b a
  ·exact λd=>by have:=hF b (.inr d);omega
def Sent (w:World) (g:Nat) (a:Addr):Prop:=w.cell? ⟨g,0,none⟩=some (.iface qj (.pointer (some a)))
theorem Sent.lt {g:Nat} {a:Addr} (h:Sent w g a):g<w.heap.size:=World.block_lt_of_cell? w _ h
theorem Sent.same {g:Nat} {a:Addr} (h:Sent w g a) (hw:Same S w w') (b: ¬S g):Sent w' g a:=hw.cell b h
theorem Sent.cell {g:Nat} {a:Addr} (h:Sent w g a):w.cell? ⟨g,0,none⟩=some (.iface qj (.pointer (some a))):=h
def erv (a:Addr):Value:= .iface qj (.pointer (some a))
structure Errs (F:Nat->Prop) (w:World) (ar ab:Addr):Prop where
 room:Sent w xy ar
 bits:Sent w xz ab
 off: ¬F xy/\¬F xz
theorem Errs.mv {ar ab:Addr} (h:Errs F w ar ab) (hm:Mv F w F' w'):Errs F' w' ar ab:=by
 have c:=h.room.lt;have d:=h.bits.lt;obtain⟨a,b⟩:=h.off;exact⟨h.room.same hm.same a,h.bits.same hm.same b,hm.off a c,hm.off b d⟩
theorem Errs.to {ar ab:Addr} {w0:World} (h:Errs F w ar ab) (a:Errs Fx w0 ar ab) (hs:Same S w w') (c:∀b,S b->w0.heap.size<=b):Errs F w' ar ab:=by
 have d:=a.room.lt;have e:=a.bits.lt;have key:∀b,b<w0.heap.size->¬S b:=λb f hs=>by have:=c b hs;omega
 exact⟨h.room.same hs (key _ d),h.bits.same hs (key _ e),h.off⟩
def kk (g:M.Gt):List Value:=[.bool g.x,.int .i64 g.a,.int .i64 g.b]
def GatesR (F:Nat->Prop) (w:World) (v:Value) (gs:M.Gs):Prop:=Sl F w 3 v (gs.map kk)
def OwnG (w:World) (v:Value) (gs:M.Gs):Prop:=Own P 0 3 zO w v (gs.map kk)
structure CktR (n:Nat) (bc:Nat) (w:World) (gs:M.Gs) (v:Value) (mb:Nat):Prop where
 blk:Blk w bc [.int .i64 n,v,.map (some mb)] zU
 own:OwnG w v gs
 map:∃f,GMap w mb f/\∀g,WL g f=if g∈gs then some (2+n+gs.idxOf g:Int) else none
 sep:bc≠mb/\v.ownBlock≠some bc/\v.ownBlock≠some mb
 few:gs.length<=600/\n<=8
def WM (bc mb:Nat) (v:Value) (b:Nat):Prop:=b=bc\/b=mb\/v.ownBlock=some b
section
variable {n bc mb:Nat} {gs:M.Gs} {v:Value}
theorem CktR.same (h:CktR n bc w gs v mb) (hw:Same S w w') (hs:∀b,WM bc mb v b->¬S b):CktR n bc w' gs v mb:=by
 obtain⟨f,c,d⟩:=h.map;exact⟨h.blk.same hw (hs _ (.inl rfl)),Own.same h.own hw λb a=>hs b (.inr (.inr a)),⟨f,c.same hw (hs _ (.inr (.inl rfl))),d⟩,h.sep,h.few⟩
theorem CktR.ext (h:CktR n bc w gs v mb) (hw:Ext w w'):CktR n bc w' gs v mb:=h.same hw λ_ _ h=>h
theorem CktR.lt (h:CktR n bc w gs v mb) {b:Nat} (a:WM bc mb v b):b<w.heap.size:=by
 obtain⟨f,c,_⟩:=h.map;rcases a with rfl|rfl|a
 ·exact h.blk.lt
 ·exact c.lt
 ·exact(Own.lt h.own a).2
end
structure BdR (n bb:Nat) (ar ab:Addr) (X F:Nat->Prop) (w:World) (st:Option M.Gs):Prop where
 err:Errs F w ar ab
 blk:∃bc,Blk w bb [.pointer (some ⟨bc,0,none⟩),match st with|some _=> .nilIface |none=>erv ar] ya/\∀gs,st=some gs->∃v mb,CktR n bc w gs v mb/\¬WM bc mb v bb/\∀b,WM bc mb v b->F b
 foot:F bb
 lt:∀b,F b\/X b->b<w.heap.size
section
variable {n bb:Nat} {ar ab:Addr} {st:Option M.Gs}
theorem BdR.upd {w0:World} {f:Nat->Prop} (h:BdR n bb ar ab X F w st) (g:Errs f w0 ar ab) (c:Same S w w') (hs:∀b,S b->w0.heap.size<=b/\¬F b):BdR n bb ar ab X F w' st:=by
 obtain⟨bc,j,k⟩:=h.blk;refine⟨h.err.to g c λb a=>(hs b a).1,⟨bc,j.same c λa=>(hs _ a).2 h.foot,λgs e=>?_⟩,h.foot,λb a=>by have:=h.lt b a;have:=c.size;omega⟩;obtain⟨v,mb,l,i,d⟩:=k gs e;exact⟨v,mb,l.same c λb a m=>(hs b m).2 (d b a),i,d⟩
theorem BdR.ext (h:BdR n bb ar ab X F w st) (hw:Ext w w'):BdR n bb ar ab X F w' st:=h.upd h.err hw λ_ h=>h.elim
end
end
end
section
variable {w:World} {K:Value->World->Prop} {F X:Nat->Prop} {n bc mb:Nat} {gs:M.Gs} {v:Value}
theorem Blk.ldTake {b:Nat} {us r:List Value} {t0 t:TypeId} (h:Blk w b (us++r) t0) (c:aggB P t us.length=true):zf P t (.pointer (some ⟨b,0,none⟩)) w K=K (.agg ⟨us⟩) w:=by
 refine zo0 c λi x a=>?_;rw[xR,gQ];refine h.cell ?_;rw[gA (by have:=(Gr.1 a).1;exact this)];exact a
theorem node_spec {l:Int} (b:l.natAbs<=1000000) (a:K (.int .i64 (M.absI l)) w):vcall P yE #[.int .i64 l] w K:=by
 apply zM0;unfold M.absI at a;simp only[push_cast];refine zh (λh=>?_) (λh=>?_)
 ·rw[if_pos h] at a;simp(disch:=omega) only[push_cast,zJ,GQ];exact a
 ·rw[if_neg h] at a;exact a
theorem turned_spec {l:Int} {c:Bool} (b:l.natAbs<=1000000) (a:K (.int .i64 (M.turnI c l)) w):vcall P qC #[.int .i64 l,.bool c] w K:=by
 apply WP;refine zK (λh=>?_) (λh=>?_)
 ·subst h;simp(disch:=omega) only[push_cast,zJ,GQ];exact a
 ·subst h;exact a
theorem nodes_spec {k:Nat} (e:k<=1000000) (f:n<=1000000) (c:∀w',Ext w w'->K (.int .i64 (1+n+k:Int)) w'):vcall P qf #[.agg ⟨[.int .i64 n,v]⟩,.int .i64 k] w K:=by
 apply qd0;refine zx λb w1 d he g a=>?_;simp(disch:=first|(simp only[push_cast])|omega) only[push_cast,a.ld0,zJ];exact c _ he
def W20 (g:M.Gt):M.Gt:=if M.absI g.b<M.absI g.a then⟨g.x,g.b,g.a⟩ else g
theorem Vn0 (gs:M.Gs):(gs.map kk).length=gs.length:=X0 _
theorem gate_spec {g:M.Gt} (h:CktR n bc w gs v mb) (ha:g.a.natAbs<=1000000) (C:g.b.natAbs<=1000000)
  (V:∀w' v',CktR n bc w' (M.putG n gs (W20 g)).1 v' mb->Same (WM bc mb v) w w'->(∀b,v'.ownBlock=some b->v.ownBlock=some b\/w.heap.size<=b)->K (.int .i64 (M.putG n gs (W20 g)).2) w'):
  vcall P ju #[.pointer (some ⟨bc,0,none⟩),gv g] w K:=by
 apply z80;refine zx λgb w1 b5 a9 b6 an=>?_;have hf:=h.few;refine zS (λu w'=>Ext w w'/\Blk w' gb (kk (W20 g)) zu) ?_ ?_
 ·intro J hJ;refine zr λw2 W _=>?_;have d:=an.ext W;simp(disch:=first|(simp only[push_cast])|omega) only[push_cast,d.ld1,d.ld2,true_and];refine node_spec ha ?_;simp(disch:=first|(simp only[push_cast])|omega) only[push_cast,d.ld1,d.ld2,true_and,and_self];refine node_spec C ?_;simp only[push_cast,true_and];refine zh (λc=>?_) (λc=>?_)
  ·simp(disch:=first|(simp only[push_cast])|omega) only[push_cast,d.ld1,d.ld2];refine d.st rfl rfl YC rfl λw3 ay _ ao=>?_;refine Blk.st (i:=2) ao rfl rfl YC rfl λw4 az _ ap=>?_;refine hJ _ _ ⟨Ext.then (a9.trans W) (ay.trans az) λx s=>by omega,?_⟩;unfold W20;rw[if_pos c];exact ap
  ·refine hJ _ _ ⟨a9.trans W,?_⟩;unfold W20;rw[if_neg c];exact d
 rintro u _ w5 ⟨ar,a3⟩;generalize W20 g=o at V a3;refine zr λw6 aa _=>?_;have e6:=ar.trans aa;have S:=h.ext e6;have a4:=a3.ext aa;obtain⟨f,au,E⟩:=S.map;have D:∀w':World,Blk w' gb (kk o) zu->∀K:Value->World->Prop,zf P zu (.pointer (some ⟨gb,0,none⟩)) w' K=K (gv o) w':=λw' hB K=>Blk.ldAgg hB (by exact Zn);have t:=E o;have aw:=D _ a4;simp(disch:=first|(simp only[push_cast])|omega) only[push_cast,S.blk.ld2,true_and,aw,W60 au];by_cases hm:o∈gs
 ·rw[if_pos hm] at t;simp only[t,push_cast,true_and,and_self];have e1:M.putG n gs o=(gs,(2+n+gs.idxOf o:Int)):=by unfold M.putG;rw[if_pos hm]
  rw[e1] at V;exact V _ _ S (Same.of_ext e6) λb C=> .inl C
 rw[if_neg hm] at t;simp only[t,push_cast,true_and,and_self];have b0:=Own.sl S.own;simp(disch:=first|(simp only[push_cast])|omega) only[push_cast,S.blk.ld1,b0.len,Vn0];refine zh (λhl=>?_) (λhl=>?_)
 ·have e1:M.putG n gs o=(gs,0):=by unfold M.putG;rw[if_neg hm,if_pos (by omega)]
  rw[e1] at V;exact V _ _ S (Same.of_ext e6) λb C=> .inl C
 have e1:M.putG n gs o=(gs++[o],(2+n+gs.length:Int)):=by unfold M.putG;rw[if_neg hm,if_neg (by omega)]
 rw[e1] at V;refine zr λw7 X _=>?_;have e7:=e6.trans X;have h7:=S.ext X;have a5:=a4.ext X;have ax:=D _ a5;simp(disch:=first|(simp only[push_cast])|omega) only[push_cast,h7.blk.ld1,true_and,ax];refine xQ xw0 (by kernel_rfl) V3 (y:=kk o) rfl rfl (show 3<=16777216 by decide) λb8 w8 b4 Y b7 aq=>?_;have e8:=e7.trans Y;have h8:=h7.ext Y;have a7:=a5.ext Y;have s8:=e8.size;simp(disch:=first|(simp only[push_cast])|omega) only[push_cast,h8.blk.ld1,true_and,and_self];refine Own.app1k (bs:=24) h8.own xC0 (by decide) aq rfl (λc hc=>by simp only[kk,gd,gw,or_false] at hc;rcases hc with rfl|rfl|rfl<;>rfl) (by rw[Vn0];omega) (by rw[Vn0];omega) λv' w9 a1 F a0=>?_;have lbc:bc<w.heap.size:=h.lt (.inl rfl);have lmb:mb<w.heap.size:=h.lt (.inr (.inl rfl));have a6:=h8.blk.same F λs=>h.sep.2.1 s;have af: ¬v.ownBlock=some gb:=λs=>by have:=(Own.lt h.own s).2;omega
 have a8:=a7.same F af;refine Blk.st (i:=1) a6 (Sl.cells1 (Own.sl a1)) (Sl.one (Own.sl a1)) Yh0 rfl λam p b2 z=>?_;have z:Blk am bc [.int .i64 n,v',.map (some mb)] zU:=z;have L:v'.ownBlock≠some bc:=λs=>(a0 bc s).elim h.sep.2.1 λh=>by omega
 have Q:v'.ownBlock≠some mb:=λs=>(a0 mb s).elim h.sep.2.2 λh=>by omega
 have ak:OwnG am v' (gs++[o]):=by
  have:=a1.same p λb C s=>L (by rw[<-s];exact C);unfold OwnG;rw[gx];exact this
 have T:=a8.same p (show¬gb=bc by omega);obtain⟨f,ae,E⟩:=h8.map;have ab:=(ae.same F h.sep.2.2).same p (λe=>h.sep.1 e.symm);refine zr λG j _=>?_;have m:=z.ext j;have R:=Own.ext ak j;have A:=T.ext j;have ag:=D _ A;have a2:=Own.sl R;have aj:∀K:Value->World->Prop,zf P y0 (.pointer (some ⟨bc,0,none⟩)) G K=K (.agg ⟨[.int .i64 n,v']⟩) G:=λK=>Blk.ldTake (us:=[.int .i64 n,v']) (r:=[.map (some mb)]) m Jp;have av:(List.map kk (gs++[o])).length=gs.length+1:=by rw[Vn0,Q1];rfl
 have hlen:∀K:Value->World->Prop,vbi P .len [zO] ze [v'] G K=K (.int .i64 ((gs.length+1:Nat):Int)) G:=λK=>by rw[a2.len Va,av]
 simp(disch:=first|(simp only[push_cast])|omega) only[push_cast,m.ld1,m.ld2,true_and,ag,aj,hlen];rw[show((gs.length:Int)+1)=((gs.length+1:Nat):Int) from by omega];refine nodes_spec (by omega) (by omega) λb9 k=>?_;rw[show(1+(n:Int)+((gs.length+1:Nat):Int))=2+n+gs.length from by omega];have H:=m.ext k;have B:=A.ext k;have ah:=D _ B;simp(disch:=first|(simp only[push_cast])|omega) only[push_cast,H.ld2,true_and,ah,and_self];have ac:=ab.ext (j.trans k);have t:WL o f=none:=by rw[E,if_neg hm]
 refine gset ac t λba ad q b3=>?_;refine zr λb1 l _=>?_;have I:=(H.same q h.sep.1).ext l;have U:=(B.same q (show¬gb=mb by omega)).ext l;have ai:=D _ U;have N:=ad.ext l;have al:OwnG b1 v' (gs++[o]):=Own.ext (Own.same (Own.ext R k) q λb C s=>Q (by rw[<-s];exact C)) l;have O:∀g,WL g (f++[(o,(2+n+gs.length:Int))])=if g∈gs++[o] then some (2+n+(gs++[o]).idxOf g:Int) else none:=λg=>by
  have e:=look_app (g:=g) (h:=o) (n:=(2+n+gs.length:Int)) (f:=f) (i:=0);have e2:=E g;unfold WL at e2⊢;rw[e,e2];by_cases hg:g∈gs
  ·rw[if_pos hg,if_pos (gk.2 (.inl hg)),pV,if_pos hg]
  ·rw[if_neg hg];by_cases ho:g=o
   ·subst ho;simp only;rw[if_pos trivial,if_pos (by simp),pV,if_neg hg];simp
   ·simp only;rw[if_neg ho,if_neg (by simp[hg,ho])]
 have Z:=O o;rw[if_pos (by simp),pV,if_neg hm] at Z;simp only[List.idxOf_cons_self,pd] at Z;simp(disch:=first|(simp only[push_cast])|omega) only[push_cast,I.ld2,true_and,ai,Ut0 N,Z,and_self];refine V _ v' ⟨I,al,⟨_,N,O⟩,⟨h.sep.1,L,Q⟩,?_,hf.2⟩ ?_ λb C=>(a0 b C).imp id λh=>by omega
 ·rw[Q1];simp;omega
 ·refine Same.thn (Same.of_ext e8) ((((F.mono (S':=WM bc mb v) λx _ h=> .inr (.inr h)).trans (p.mono λx _ h=> .inl h)).trans (Same.of_ext (j.trans k))).trans ((q.mono λx _ h=> .inr (.inl h)).trans (Same.of_ext l))) λx s=> .inl s
end
section
variable {w:World} {K:Value->World->Prop} {n bc mb bb:Nat} {gs:M.Gs} {v:Value}
theorem absI_le {a:Int} {m:Nat} (h:a.natAbs<=m):(M.absI a).natAbs<=m:=by unfold M.absI;split<;>omega
theorem Jf0 {c:Bool} {a:Int}:(M.turnI c a).natAbs=a.natAbs:=by cases c<;>simp[M.turnI]
theorem put_abs {g:M.Gt} (h:gs.length<=600) (a:n<=8):(M.putG n gs g).2.natAbs<=1000:=by
 unfold M.putG;split
 ·next hm=>have:=PW.2 hm;show(2+(n:Int)+(gs.idxOf g:Nat)).natAbs<=1000;omega
 ·split
  ·show(0:Int).natAbs<=1000;decide
  ·show(2+(n:Int)+(gs.length:Nat)).natAbs<=1000;omega
theorem WR0 {a b:Int} (h:gs.length<=600) (c:n<=8) (d:a.natAbs<=1000) (e:b.natAbs<=1000):(M.andG n gs a b).2.natAbs<=1000:=by
 unfold M.andG
 repeat' split
 all_goals first|exact put_abs h c|(show(-1:Int).natAbs<=1000;decide)|assumption
theorem Wb0 {a b:Int} (h:gs.length<=600) (c:n<=8) (d:a.natAbs<=1000) (e:b.natAbs<=1000):(M.xorG n gs a b).2.natAbs<=1000:=by
 unfold M.xorG
 repeat' split
 all_goals first|(show(-1:Int).natAbs<=1000;decide)|(show(1:Int).natAbs<=1000;decide)|(simp only[Jf0];first|exact put_abs h c|assumption)
theorem WM0 (a b:Int):zE P zu [(1,.int .i64 a),(2,.int .i64 b)] w K=K (gv ⟨false,a,b⟩) w:=yo jz0 (us:=[[.int .i64 a],[.int .i64 b]]) rfl rfl
theorem cand_spec {a b:Int} (h:CktR n bc w gs v mb) (f:a.natAbs<=1000) (e:b.natAbs<=1000)
  (d:∀w' v',CktR n bc w' (M.andG n gs a b).1 v' mb->Same (WM bc mb v) w w'->(∀b,v'.ownBlock=some b->v.ownBlock=some b\/w.heap.size<=b)->K (.int .i64 (M.andG n gs a b).2) w'):
  vcall P ZO #[.pointer (some ⟨bc,0,none⟩),.int .i64 a,.int .i64 b] w K:=by
 apply zV0;unfold M.andG at d
 try simp only[push_cast]
 refine zh (λc=>?_) (λc1=>?_)
 ·rw[if_pos (.inl c)] at d;exact d _ _ h (Same.refl _ _) λb e=> .inl e
 try simp only[push_cast]
 refine zh (λc=>?_) (λc2=>?_)
 ·rw[if_pos (.inr c)] at d;exact d _ _ h (Same.refl _ _) λb e=> .inl e
 rw[if_neg (λh=>h.elim c1 c2)] at d
 try simp only[push_cast]
 refine zh (λc=>?_) (λc=>?_)
 ·rw[if_pos c] at d;exact d _ _ h (Same.refl _ _) λb e=> .inl e
 rw[if_neg c] at d
 try simp only[push_cast]
 refine zh (λc=>?_) (λc=>?_)
 ·rw[if_pos c] at d;exact d _ _ h (Same.refl _ _) λb e=> .inl e
 rw[if_neg c] at d
 try simp only[push_cast]
 refine zh (λc=>?_) (λc=>?_)
 ·rw[if_pos c] at d;exact d _ _ h (Same.refl _ _) λb e=> .inl e
 rw[if_neg c] at d
 try simp(disch:=omega) only[push_cast,zJ,GQ]
 refine zh (λc=>?_) (λc=>?_)
 ·rw[if_pos c] at d;exact d _ _ h (Same.refl _ _) λb e=> .inl e
 rw[if_neg c] at d;rw[WM0];exact gate_spec h (by show a.natAbs<=_;omega) (by show b.natAbs<=_;omega) d
theorem VR0 (a b:Int):zE P zu [(0,.bool true),(1,.int .i64 a),(2,.int .i64 b)] w K=K (gv ⟨true,a,b⟩) w:=yo jz0 (us:=[[.bool true],[.int .i64 a],[.int .i64 b]]) rfl rfl
theorem absI_abs (a:Int):M.absI (M.absI a)=M.absI a:=by
 unfold M.absI;by_cases h:a<0
 ·rw[if_pos h,if_neg (by omega)]
 ·rw[if_neg h,if_neg h]
theorem ordX (a b:Int):W20 ⟨true,M.absI a,M.absI b⟩=M.gateX a b:=by unfold W20 M.gateX;simp only[absI_abs]
theorem cxor_spec {a b:Int} (h:CktR n bc w gs v mb) (j:a.natAbs<=1000) (e:b.natAbs<=1000)
  (d:∀w' v',CktR n bc w' (M.xorG n gs a b).1 v' mb->Same (WM bc mb v) w w'->(∀b,v'.ownBlock=some b->v.ownBlock=some b\/w.heap.size<=b)->K (.int .i64 (M.xorG n gs a b).2) w'):
  vcall P ZM #[.pointer (some ⟨bc,0,none⟩),.int .i64 a,.int .i64 b] w K:=by
 apply zT0;unfold M.xorG at d;refine node_spec (by omega) ?_
 try simp only[push_cast]
 refine zh (λc=>?_) (λc=>?_)
 ·rw[if_pos c] at d
  try simp only[push_cast]
  exact turned_spec (by omega) (d _ _ h (Same.refl _ _) λb e=> .inl e)
 rw[if_neg c] at d;refine node_spec (by omega) ?_
 try simp only[push_cast]
 refine zh (λc=>?_) (λc=>?_)
 ·rw[if_pos c] at d
  try simp only[push_cast]
  exact turned_spec (by omega) (d _ _ h (Same.refl _ _) λb e=> .inl e)
 rw[if_neg c] at d
 try simp only[push_cast]
 refine zh (λc=>?_) (λc=>?_)
 ·rw[if_pos c] at d;exact d _ _ h (Same.refl _ _) λb e=> .inl e
 rw[if_neg c] at d
 try simp(disch:=omega) only[push_cast,zJ,GQ]
 refine zh (λc=>?_) (λc=>?_)
 ·rw[if_pos c] at d;exact d _ _ h (Same.refl _ _) λb e=> .inl e
 rw[if_neg c] at d;refine node_spec (by omega) (node_spec (by omega) ?_);rw[VR0];have k:=put_abs (g:=M.gateX a b) h.few.1 h.few.2;refine gate_spec h (absI_le (by omega)) (absI_le (by omega)) λw' v' f hs i=>?_;rw[ordX] at f⊢
 try simp only[push_cast]
 refine turned_spec (l:=(M.putG n gs (M.gateX a b)).2) (by omega) ?_;exact d _ _ f hs i
theorem Jv0:zq P .eql yg true .nilIface .nilIface w K=K (.bool true) w:=xb (by kernel_rfl) (by kernel_rfl)
theorem UH:zq P .neq yg true .nilIface .nilIface w K=K (.bool false) w:=xb (by kernel_rfl) (by kernel_rfl)
theorem WD0 {a:Addr}:zq P .eql yg true (erv a) .nilIface w K=K (.bool false) w:=xb (by kernel_rfl) (by kernel_rfl)
theorem ZD0 {a:Addr}:zq P .neq yg true (erv a) .nilIface w K=K (.bool true) w:=xb (by kernel_rfl) (by kernel_rfl)
theorem j00 {p e:Value} (a:K (.tuple #[]) w):vcall P yG #[p,.bool false,e] w K:=by
 apply XW;simp only[push_cast];exact a
theorem Vu0 {p:Value} {a:Addr} (c:Blk w bb [p,.nilIface] ya) (d:∀w',Same (· =bb) w w'->Blk w' bb [p,erv a] ya->K (.tuple #[]) w'):
  vcall P yG #[.pointer (some ⟨bb,0,none⟩),.bool true,erv a] w K:=by
 apply XW;simp(disch:=first|(simp only[push_cast])|omega) only[push_cast,c.ld1,Jv0];refine Blk.st (i:=1) c rfl rfl Wa0 rfl λw' hs _ b=>d w' hs b
end
section
variable {w:World} {K:Value->World->Prop} {F F' X:Nat->Prop} {n bc mb bb:Nat} {gs:M.Gs} {v:Value} {ar ab:Addr} {st:Option M.Gs}
theorem BdR.pre {w':World} {bc mb:Nat} {gs gs':M.Gs} {v v':Value} (h:BdR n bb ar ab X F w (some gs)) (g:Blk w bb [.pointer (some ⟨bc,0,none⟩),.nilIface] ya) (d: ¬WM bc mb v bb) (hF:∀b,WM bc mb v b->F b)
  (i:CktR n bc w' gs' v' mb) (hs:Same (WM bc mb v) w w') (j:∀b,v'.ownBlock=some b->v.ownBlock=some b\/w.heap.size<=b):
  BdR n bb ar ab X (λb=>F b\/v'.ownBlock=some b) w' (some gs')/\Mv F w (λb=>F b\/v'.ownBlock=some b) w':=by
 have hm:Mv F w (λb=>F b\/v'.ownBlock=some b) w':=⟨hs.mono λx _ a=>hF x a,λb c=>c.elim .inl λc=>(j b c).imp (λh=>hF b (.inr (.inr h))) id⟩;refine⟨⟨h.err.mv hm,⟨bc,g.same hs d,λk e=>?_⟩,.inl h.foot,λb c=>?_⟩,hm⟩
 ·cases e;refine⟨v',mb,i,?_,?_⟩
  ·rintro(a|a|a)
   ·exact d (.inl a)
   ·exact d (.inr (.inl a))
   ·rcases j _ a with f|f
    ·exact d (.inr (.inr f))
    ·have:=g.lt;omega
  ·rintro b (a|a|a)
   ·exact .inl (hF b (.inl a))
   ·exact .inl (hF b (.inr (.inl a)))
   ·exact .inr a
 ·rcases c with(c|c)|c
  ·have:=h.lt b (.inl c);have:=hs.size;omega
  ·exact i.lt (.inr (.inr c))
  ·have:=h.lt b (.inr c);have:=hs.size;omega
theorem made_spec {s:Int} (h:BdR n bb ar ab X F w (some gs)) (d:∀w',BdR n bb ar ab X F w' (if s=0 then none else some gs)->Mv F w F w'->K (.int .i64 (if s=0 then-1 else s)) w'):
  vcall P jv #[.pointer (some ⟨bb,0,none⟩),.int .i64 s] w K:=by
 apply zc0;obtain⟨bc,f,j⟩:=h.blk;simp only at f;simp only[push_cast,yF qM h.err.room.cell];by_cases hs:s=0
 ·rw[if_pos hs,if_pos hs] at d;rw[decide_eq_true hs];refine Vu0 f λw' c a=>?_;have hm:Mv F w F w':=⟨c.mono λx _ i=>i▸h.foot,λb g=> .inl g⟩;simp(disch:=first|(simp only[push_cast])|omega) only[push_cast,a.ld1,ZD0];exact d _ ⟨h.err.mv hm,⟨bc,a,λ_ e=>by cases e⟩,h.foot,λb g=>by have:=h.lt b g;have:=c.size;omega⟩ hm
 ·rw[if_neg hs,if_neg hs] at d;rw[decide_eq_false hs];refine j00 ?_;simp(disch:=first|(simp only[push_cast])|omega) only[push_cast,f.ld1,UH];exact d _ h Mv.refl
abbrev Sm (x:Int):Prop:=x.natAbs<=1000
theorem bout {x y s:Int} {p:M.Bd Int} {a:M.Gs} (b:p.run n gs=if s=0 then none else some (a,s)) (c:p.Reach (-1)):M.Bd.Out n p (some gs) (if s=0 then none else some a) (if s=0 then-1 else s):=by
 by_cases hs:s=0
 ·rw[if_pos hs] at b;rw[if_pos hs,if_pos hs];exact .inr ⟨b,rfl,c⟩
 ·rw[if_neg hs] at b;rw[if_neg hs,if_neg hs];exact .inl ⟨a,b,rfl⟩
theorem Y1 {x y:Int} (h:BdR n bb ar ab X F w st) (k:Sm x) (l:Sm y)
  (j:∀w' F' st' r,BdR n bb ar ab X F' w' st'->Mv F w F' w'->Sm r->M.Bd.Out n (.and x y .ret) st st' r->K (.int .i64 r) w'):
  vcall P yP #[.pointer (some ⟨bb,0,none⟩),.int .i64 x,.int .i64 y] w K:=by
 apply y10;obtain⟨bc,a,p⟩:=h.blk;cases st with
 |none=>
  simp only at a;simp(disch:=first|(simp only[push_cast])|omega) only[push_cast,a.ld1,ZD0];exact j _ _ none (-1) h Mv.refl (by decide) ⟨rfl,-1,rfl⟩
 |some gs=>
  simp only at a;obtain⟨v,mb,c,b,hF⟩:=p gs rfl;simp(disch:=first|(simp only[push_cast])|omega) only[push_cast,a.ld0,a.ld1,UH];refine cand_spec c k l λw1 v1 d i g=>?_;obtain⟨m,e⟩:=h.pre a b hF d i g;have q:=WR0 (n:=n) c.few.1 c.few.2 k l;refine made_spec m λw2 o f=>j _ _ _ _ o (e.trans f) ?_ (bout (x:=x) (y:=y) rfl ⟨-1,rfl⟩);split
  ·decide
  ·exact q
theorem VL {x y:Int} (h:BdR n bb ar ab X F w st) (k:Sm x) (l:Sm y)
  (j:∀w' F' st' r,BdR n bb ar ab X F' w' st'->Mv F w F' w'->Sm r->M.Bd.Out n (.xor x y .ret) st st' r->K (.int .i64 r) w'):
  vcall P xY #[.pointer (some ⟨bb,0,none⟩),.int .i64 x,.int .i64 y] w K:=by
 apply zW0;obtain⟨bc,a,p⟩:=h.blk;cases st with
 |none=>
  simp only at a;simp(disch:=first|(simp only[push_cast])|omega) only[push_cast,a.ld1,ZD0];exact j _ _ none (-1) h Mv.refl (by decide) ⟨rfl,-1,rfl⟩
 |some gs=>
  simp only at a;obtain⟨v,mb,c,b,hF⟩:=p gs rfl;simp(disch:=first|(simp only[push_cast])|omega) only[push_cast,a.ld0,a.ld1,UH];refine cxor_spec c k l λw1 v1 d i g=>?_;obtain⟨m,e⟩:=h.pre a b hF d i g;have q:=Wb0 (n:=n) c.few.1 c.few.2 k l;refine made_spec m λw2 o f=>j _ _ _ _ o (e.trans f) ?_ (bout (x:=x) (y:=y) rfl ⟨-1,rfl⟩);split
  ·decide
  ·exact q
theorem Qw {α:Type} {x y r:Int} {k:Int->M.Bd α} {a:α} {st st' b:Option M.Gs} (h:M.Bd.Out n (.and x y .ret) st st' r) (c:M.Bd.Out n (k r) st' b a):M.Bd.Out n (.and x y k) st b a:=M.Bd.Out.bind (f:=k) h c
theorem qh0 {α:Type} {x y r:Int} {k:Int->M.Bd α} {a:α} {st st' b:Option M.Gs} (h:M.Bd.Out n (.xor x y .ret) st st' r) (c:M.Bd.Out n (k r) st' b a):M.Bd.Out n (.xor x y k) st b a:=M.Bd.Out.bind (f:=k) h c
theorem bor_spec {x y:Int} (h:BdR n bb ar ab X F w st) (i:Sm x) (j:Sm y)
  (d:∀w' F' st' r,BdR n bb ar ab X F' w' st'->Mv F w F' w'->Sm r->M.Bd.Out n (M.orB x y) st st' r->K (.int .i64 r) w'):
  vcall P qK #[.pointer (some ⟨bb,0,none⟩),.int .i64 x,.int .i64 y] w K:=by
 apply xg0;simp(disch:=omega) only[push_cast,zJ,GQ];refine Y1 h (by unfold Sm at*;omega) (by unfold Sm at*;omega) λw1 g f k c a e b=>?_;simp(disch:=omega) only[push_cast,zJ,GQ];exact d _ _ _ _ c a (by unfold Sm at*;omega) (Qw b (M.Bd.Out.ret _ _))
theorem bmux_spec {c x y:Int} (h:BdR n bb ar ab X F w st) (q:Sm c) (s:Sm x) (t:Sm y)
  (p:∀w' F' st' r,BdR n bb ar ab X F' w' st'->Mv F w F' w'->Sm r->M.Bd.Out n (M.muxB c x y) st st' r->K (.int .i64 r) w'):
  vcall P xe #[.pointer (some ⟨bb,0,none⟩),.int .i64 c,.int .i64 x,.int .i64 y] w K:=by
 apply zY0;refine Y1 h q s λw1 z u B l a i e=>?_;simp(disch:=omega) only[push_cast,zJ,GQ];refine Y1 l (by unfold Sm at*;omega) t λw2 F2 st2 C m b j f=>?_;refine bor_spec m i j λE A v D o d k g=>?_;exact p _ _ _ _ o (a.trans (b.trans d)) k (Qw e (Qw f g))
end
end Go.Proofs.YtokflbdfnbppjaaGreatDoor
section
namespace Go.Vc
open Go
section
variable {P:Program} {w w':World} {K:Value->World->Prop} {F:Nat->Prop} {t:TypeId} {v:Value}
theorem Sl.cutLH {k lo d:Nat} {xs:List (List Value)} {kl kh:IntKind} (h:Sl F w k v xs) (s:elB P t k=true) (z:lo<=d) (m:d<=xs.length) (n:∀v',Sl F w k v' ((xs.drop lo).take (d-lo))->K v' w'):
  yQ P t v (some (.int kl lo)) (some (.int kh d)) none w' K:=by
 obtain⟨hu,hs⟩:=zF0 s;obtain⟨⟨a,c,rfl,y,q,f⟩,hw⟩:=h;have hlen:((xs.drop lo).take (d-lo)).length=d-lo:=by rw[gi,G1];omega
 refine⟨_,w',?_,n (sliced a lo d c k) ⟨⟨_,c-lo,by unfold sliced;rw[hlen],by omega,by omega,λl=>?_⟩,λx u=>hw x (pD (gZ u))⟩⟩
 ·rw[run_sliceAt_slice w' t _ _ _ _ hu,run_slice_lh w' t _ _ _ hu kl kh lo d (by omega) (by omega) (by omega),run_sizeOf hs];simp[Result.andThen]
 ·have r:lo<d:=by
   have:0<((xs.drop lo).take (d-lo)).length:=gG.2 l;omega
  obtain⟨b,o,rfl,hF,p,j⟩:=f (λe=>by rw[e] at m;simp at m;omega);refine⟨b,o+lo*k,?_,hF,p,λi g=>?_⟩
  ·rw[if_neg (by omega)];simp[xR]
  ·rw[hlen] at g;have:=j (lo+i) (by omega);rw[show o+lo*k+i*k=o+(lo+i)*k by rw[G3];omega];rwa[k6,List.getElem?_take_of_lt g,pO,<-k6]
theorem Vals.cutLH {lo a:Nat} {vs:List Value} {kl kh:IntKind} (h:Vals F w v vs) (f:elB P t 1=true) (e:lo<=a) (d:a<=vs.length) (c:∀v',Vals F w v' ((vs.drop lo).take (a-lo))->K v' w'):
  yQ P t v (some (.int kl lo)) (some (.int kh a)) none w' K:=by
 refine Sl.cutLH h f e (by simpa using d) λv' b=>c v' ?_;unfold Vals;rw[Gp,pR];exact b
theorem Ints.cutLH {lo a:Nat} {xs:List Int} {kl kh:IntKind} (h:Ints F w v xs) (f:elB P t 1=true) (e:lo<=a) (d:a<=xs.length) (c:∀v',Ints F w v' ((xs.drop lo).take (a-lo))->K v' w'):
  yQ P t v (some (.int kl lo)) (some (.int kh a)) none w' K:=by
 refine Vals.cutLH h f e (by simpa using d) λv' b=>c v' ?_;unfold Ints;rw[Gp,pR];exact b
theorem blk_from {b n lo:Nat} {kl:IntKind} (a:elB P t 1=true) (d:lo<=n):
  yQ P t (.slice (some ⟨b,0,none⟩) n n) (some (.int kl lo)) none none w K=K (.slice (some ⟨b,if n=lo then 0 else lo,none⟩) (n-lo) (n-lo)) w:=by
 obtain⟨hu,hs⟩:=zF0 a;refine yU ?_;rw[run_sliceAt_slice w t _ _ _ _ hu,run_slice_l w t _ _ _ hu kl lo (by omega) (by omega),run_sizeOf hs];simp only[Result.andThen,sliced,gl];by_cases c:n=lo
 ·simp[c]
 ·simp[c,xR]
theorem blk_to {b n a:Nat} {kl:IntKind} (c:elB P t 1=true) (d:a<=n):
  yQ P t (.slice (some ⟨b,0,none⟩) n n) none (some (.int kl a)) none w K=K (.slice (some ⟨b,0,none⟩) a n) w:=by
 obtain⟨hu,hs⟩:=zF0 c;refine yU ?_;rw[run_sliceAt_slice w t _ _ _ _ hu,run_slice_h w t _ _ _ hu kl a (by omega) (by omega),run_sizeOf hs];simp[Result.andThen,sliced,xR]
theorem XO0 {e n:Nat} (h:jy P e n=true):(P.info? e).map (·.size)=some n:=by
 unfold jy at h;cases a:P.info? e with
 |none=>rw[a] at h;cases h
 |some i=>rw[a] at h;simp[gp h]
theorem vcopy {t2 ty te:TypeId} {g off dLen dCap sLen sCap:Nat} {ad:Addr} {cur cs:List Value} (n:elB P t 1=true) (c:Blk w g cur te) (l:cs.length=min sLen dLen)
  (b:∀j u,cs[j]?=some u->w.cell? (ad.add j)=some u) (a:off+cs.length<=cur.length) (f:∀u∈cs,u.oneCell'=true)
  (h:∀w',Same (· =g) w w'->w'.heap.size=w.heap.size->Blk w' g (cur.take off++(cs++cur.drop (off+cs.length))) te->K (.int .i64 cs.length) w'):
  vbi P .copy [t,t2] ty [.slice (some ⟨g,off,none⟩) dLen dCap,.slice (some ad) sLen sCap] w K:=by
 obtain⟨hu,hs⟩:=zF0 n;have m:=run_copy_row (P:=P) w t t2 ty (P.elem t) g off dLen dCap ad sLen sCap ⟨cur⟩ te cs hu (XO0 hs) c l b (by simpa using a) f;refine⟨_,_,m,h _ ⟨rfl,rfl,rfl,by simp[World.setRow],λk o e=>setRow_other w g k _ e⟩ (by simp[World.setRow]) ?_⟩;have i:=c.lt;have d:w.heap[g]?=some (.cells ⟨cur⟩ te (0,0)):=c;unfold Blk World.setRow;simp only[GW];simp[d,Gb]
theorem Q80 {t2 ty:TypeId} {d a:Option Addr} {dLen dCap sLen sCap:Nat} (c:elB P t 1=true) (b:min sLen dLen=0):vbi P .copy [t,t2] ty [.slice d dLen dCap,.slice a sLen sCap] w K=K (.int .i64 0) w:=by
 obtain⟨hu,hs⟩:=zF0 c;exact yU (run_copy_none (P:=P) w t t2 ty (P.elem t) d a dLen dCap sLen sCap hu (XO0 hs) b)
theorem vmkS_blk {bs n:Nat} {z:Value} {v x:IntKind} {e:TypeId} (A:elZ P t 1 bs=true) (he:Wo P t=e) (k:xg P e z) (s:z.cells= #[z]) (l:bs*n<=281474976710656) (m:n<=9223372036854775807)
  (y:∀b w',b=w.heap.size->Blk w' b (List.replicate n z) e->Ext w w'->K (.slice (some ⟨b,0,none⟩) n n) w'):VZ0 P t (.int v n) (.int x n) w K:=by
 obtain⟨hu,i,f,u,d,r,o,G⟩:=Q10 A;subst he;have:f=z:=by
  unfold xg at k;rw[u] at k;simp only[d,gV] at k;exact k
 subst this;subst o;obtain⟨w',E,a,q⟩:=run_make_full (P:=P) w 0 t (Wo P t) i f 1 hu u d r v x n l (by simpa[maxLen] using m) (by omega);refine⟨_,w',E,y _ w' rfl ?_ ((Same.of_grown q).mono λ_ _ h=>by cases h)⟩;have e:(madeCells f.cells (n*1)).toList=List.replicate n f:=by
  refine Gh (by simp[madeCells]) λj H I=>?_;simp[madeCells,s,Nat.mod_one]
 rw[e] at a;rcases a.2 with⟨h,_⟩|⟨g,cap,cur,F,J,C,D,B,p,c⟩
 ·cases h
 ·cases F;unfold Blk;rw[C];have:cur.toList=List.replicate n f:=(by rw[<-c,gM (by rw[pa,p];exact gr _)]);rw[<-this]
theorem vappend_make {bs n:Nat} {ti ty:TypeId} {z:Value} {e:TypeId} (G:elZ P t 1 bs=true) (he:Wo P t=e) (p:xg P e z) (A:z.cells= #[z]) (y:P.underlying ti=some (.int .i64)) (C:0<n) (E:n<=1000000) (D:n*bs<=140737488355328)
  (F:∀v' w',OwnV P t w' v' (List.replicate n z)->Ext w w'->(∀b,v'.ownBlock=some b->w.heap.size<=b)->K v' w'):vbi P .append [t,ti] ty [.slice none 0 0,.int .i64 n] w K:=by
 obtain⟨hu,i,o,B,g,x,s,l⟩:=Q10 G;subst he;have:o=z:=by
  unfold xg at p;rw[B] at p;simp only[g,gV] at p;exact p
 subst this;subst s;have q:n*i.bytes<=281474976710656:=by omega
 have c:n<=maxLen:=by simp only[maxLen];omega
 have J:n≠0:=by omega
 have hw:IntKind.i64.wrap (n:Int)=n:=zJ (by omega) (by simp only[maxLen] at c;omega);have f: ¬(9223372036854775807<(n:Int)):=by simp only[maxLen] at c;omega
 have d: ¬(281474976710656<Builtin.nextslicecap n 0*i.bytes):=by rw[nextslicecap_zero C];omega
 have r: ¬((281474976710656:Int)<(n:Int)*i.bytes):=by
  have h:((n*i.bytes:Nat):Int)<=281474976710656:=(by omega);rw[Int.natCast_mul] at h;omega
 have L:(Builtin.append_ #[t,ti] ty #[.slice none 0 0,.int .i64 n]).run P w=
   .ok (.slice (some ⟨w.heap.size,0,none⟩) n (grownCap w n 0 (Wo P t))) (w.drew.alloc (.cells (Builtin.zeroCells o.cells n++Builtin.zeroCells o.cells (grownCap w n 0 (Wo P t)-n)) (Wo P t))):=by
  simp[Builtin.append_,run_underlying hu,run_underlying y,sizeOf,typeInfo,zeroValue,B,g,x,J,hw,f,d,r,asInt,asIntOf,Question.forced,run_firstCells_none,newRow,grownCap];intro h;omega
 have v:=grownCap_ge w n 0 (Wo P t);have u:grownCap w n 0 (Wo P t)<=maxLen:=grownCap_le_maxLen w n 0 (Wo P t) c;have a:∀m,(Builtin.zeroCells o.cells m).toList=List.replicate m o:=λm=>by
  refine Gh (by simp[Builtin.zeroCells,l]) λj M N=>?_;simp[Builtin.zeroCells,A,Nat.mod_one]
 refine⟨_,_,L,F _ _ ⟨⟨by simp,.inr ⟨w.heap.size,_,_,by simp,Gg _,heap_alloc_new w.drew _,by simpa using v,u,?_,?_⟩⟩,by simp⟩ ⟨rfl,rfl,rfl,by simp,λk I _=>heap_alloc_old w.drew _ I⟩ λb H=>by cases H;exact gr _⟩
 ·simp only[Array.size_append,size_zeroCells,l];omega
 ·rw[PB,a,a,flat1];simp
end
section
open Go.MapKept
theorem J30 {P:Program} {w:World} {K:Value->World->Prop} {t e:TypeId} {d:TypeDesc} {b:Nat} {f:List (Value×Value)} {k x:Value} (I:Ve0 P t d e) (h:MapF d w b f) (q:IsKey d k)
  (E:∀w' C,MapF d w' b C->(∀p,p∈C->p=(k,x)\/p∈f)->Same (· =b) w w'->w'.heap.size=w.heap.size->K undef w'):Ya P t (.map (some b)) k x w K:=by
 obtain⟨kt,hm,u⟩:=I;obtain⟨es,cl,g,s,o,rfl⟩:=h;rcases findNow_spec q es.toList 0 o with⟨v,A⟩|⟨j,e,v,A,D⟩
 ·refine⟨(),{w with heap:=w.heap.setIfInBounds b (.map (es.push {key:=k,val:=x,born:=cl}) (cl+1))},?_,E _ _ ⟨_,_,(heap_set g).1,stamped_push s A,λy a=>?_,rfl⟩ (λp m=>?_) (Xu g) (by simp)⟩
  ·simp[Instr.mapUpdate,run_underlying hm,MapKept.run_getObj_map g,run_checkKey u q,run_findKey u v,run_setObj_map _ g,Result.andThen]
  ·rw[PQ] at a;rcases gk.1 a with a|a
   ·exact o y a
   ·rw[gn.1 a];exact q
  ·rw[PQ,gx] at m;rcases gk.1 m with m|m
   ·exact .inr m
   ·exact .inl (by simpa using m)
 ·have r:es[j]?=some e:=(by simpa using A);have J:∀y∈es.toList,es[0+j]?=some y->({y with key:=k,val:=x}:MapEntry).key=y.key:=λy _ a=>by
   rw[gQ,r] at a;cases a;exact D.symm
  have l:∀y∈(es.modify (0+j) λy=>{y with key:=k,val:=x}).toList,(y.key=k/\y.val=x)\/y∈es.toList:=λy a=>by
   obtain⟨i,L,G⟩:=gq a;have c:(es.modify (0+j) λy=>{y with key:=k,val:=x})[i]?=some y:=by
    rw[<-gK,K3 L,G]
   rw[GW] at c;split at c
   ·cases F:es[i]? with
    |none=>rw[F] at c;cases c
    |some z=>rw[F] at c;simp only[Option.map_some,gV] at c;left;rw[<-c];exact⟨rfl,rfl⟩
   ·right;rw[<-gK] at c;exact G2 c
  refine⟨(),{w with heap:=w.heap.setIfInBounds b (.map (es.modify (0+j) λy=>{y with key:=k,val:=x}) cl)},?_,E _ _ ⟨_,_,(heap_set g).1,stamped_modify s _ _ (λ_ _=>rfl) J,λy a=>?_,rfl⟩ (λp m=>?_) (Xu g) (by simp)⟩
  ·have B:((es[0+j]?).map (·.key)).getD k=k:=by rw[gQ,r];exact D
   simp only[Instr.mapUpdate,Sem.run_bind,run_underlying hm,MapKept.run_getObj_map g,run_checkKey u q,run_findKey u v,Result.andThen,B,run_keyThatStays q,run_setObj_map _ g]
  ·rcases l y a with⟨n,_⟩|n
   ·rw[n];exact q
   ·exact o y n
  ·obtain⟨y,a,rfl⟩:=gm.1 m;rcases l y a with⟨n,H⟩|n
   ·exact .inl (by rw[n,H])
   ·exact .inr (gm.2 ⟨y,n,rfl⟩)
end
end Go.Vc
end
namespace Go.Proofs.YtokflbdfnbppjaaGreatDoor
open Go Go.Vc Go.Proofs
section
variable {w:World} {K:Value->World->Prop} {F F' Fx X:Nat->Prop} {n bb:Nat} {v:Value} {ar ab:Addr} {st:Option M.Gs}
def SmL (xs:List Int):Prop:=∀x,x∈xs->Sm x
theorem SmL.get {xs:List Int} (h:SmL xs) {i:Nat} (a:i<xs.length):Sm (xs.getD i 0):=h _ (M.getD_mem a 0)
theorem SmL.app {xs ys:List Int} (h:SmL xs) (a:SmL ys):SmL (xs++ys):=λx b=>(gk.1 b).elim (h x) (a x)
theorem SmL.one {x:Int} (h:Sm x):SmL [x]:=λy a=>by rw[gn.1 a];exact h
theorem SmL.nil:SmL []:=λx a=>by cases a
theorem kH {xs:List Int} {i:Nat} (a:i<xs.length):xs.drop i=xs.getD i 0::xs.drop (i+1):=by
 rw[GS a,k6,K3 a];rfl
theorem Wh0 {i:Nat} {xs ys:List Int} {c:Int} (h:xs.length<=i):M.sumB (xs.drop i) ys c= .ret []:=by
 rw[Gk h];cases ys<;>rfl
theorem bsum_spec {xv yv:Value} {xs ys:List Int} {c:Int} (h:BdR n bb ar ab X F w st) (hx:Ints (Off X F) w xv xs) (hy:Ints (Off X F) w yv ys) (hl:xs.length<=ys.length) (h8:xs.length<=1000) (L:SmL xs) (Q:SmL ys) (hc:Sm c)
  (hK:∀w' F' st' r zs,BdR n bb ar ab X F' w' st'->Mv F w F' w'->NewI X w F' w' r zs->SmL zs->M.Bd.Out n (M.sumB xs ys c) st st' zs->K r w'):
  vcall P xZ #[.pointer (some ⟨bb,0,none⟩),xv,yv,.int .i64 c] w K:=by
 apply zX0;simp(disch:=first|(simp only[push_cast])|omega) only[push_cast,hx.len];refine vloop_up xs.length (λi u w'=> ∃v a r zs c1,u=[.int .i64 c1,r,.int .i64 i]/\BdR n bb ar ab X v w' a/\Mv F w v w'/\NewI X w v w' r zs/\SmL zs/\zs.length=i/\Sm c1/\
  ∀st2 rs,M.Bd.Out n (M.sumB (xs.drop i) (ys.drop i) c1) a st2 rs->M.Bd.Out n (M.sumB xs ys c) st st2 (zs++rs)) ⟨F,st,_,[],c,rfl,h,Mv.refl,NewI.nil,SmL.nil,rfl,hc,λ_ _ h=>h⟩ ?_
 rintro i _ g w1 C hi ⟨v,a,r,zs,c1,rfl,h1,y,G,R,a8,x,f⟩ hC;simp only[push_cast];refine zh (λad=>?_) (λac=>?_)
 ·have e:i<xs.length:=(by omega);refine zr λw2 j _=>?_;have h2:=h1.ext j;have m:=y.ext j;have I:=Ints.mv hx m;have N:=Ints.mv hy m;simp(disch:=first|(simp only[push_cast])|omega) only[push_cast,I.iaddr,I.load,N.iaddr,N.load,true_and];refine VL h2 (L.get e) (Q.get (by omega)) λw3 F3 af d h3 A hd a3=>?_;refine VL h3 hd x λw4 U a9 s h4 B hs a4=>?_;refine yK xt yN yW rfl rfl λb5 w5 aa k ae W=>?_;have D:=(m.trans (A.trans B)).ext k;have h5:=h4.ext k;have t:NewI X w U w5 r zs:=(G.mv ((Mv.refl.ext j).trans (A.trans B))).mv (Mv.refl.ext k);refine t.app1 W D.same.size h5.lt (by omega) λr6 w6 a7 H=>?_;have h6:BdR n bb ar ab X U w6 a9:=h5.upd h.err H λb Y=>t.off b Y;have a0:Mv F w U w6:=D.to H λb Y=> .inr (t.off b Y).1;refine zr λw7 l _=>?_;have h7:=h6.ext l;have o:=a0.ext l;have J:=Ints.mv hx o;have O:=Ints.mv hy o;simp(disch:=first|(simp only[push_cast])|omega) only[push_cast,J.iaddr,J.load,O.iaddr,O.load,true_and];refine Y1 h7 (L.get e) (Q.get (by omega)) λw8 F8 ag p h8 a1 hp a5=>?_;refine Y1 h8 hd x λw9 F9 ah q h9 a2 hq a6=>?_;refine bor_spec h9 hp hq λai T S c2 V z Z E=>?_;simp(disch:=omega) only[push_cast,zJ];have hm:=a1.trans (a2.trans z);refine hC e _ _ ⟨T,S,r6,zs++[s],c2,by simp<;>exact⟨rfl,rfl⟩,V,o.trans hm,(a7.mv (Mv.refl.ext l)).mv hm,R.app (SmL.one hs),by simp[a8],Z,λst2 rs ho=>?_⟩;have:=f st2 (s::rs) ?_
  ·simpa using this
  rw[kH e,kH (show i<ys.length by omega)];exact qh0 a3 (qh0 a4 (Qw a5 (Qw a6 (M.Bd.Out.bind E (M.Bd.Out.map _ ho)))))
 ·have:=f a [] (by rw[Wh0 (by omega)];exact M.Bd.Out.ret _ _);rw[gz] at this;exact hK w1 v a r zs h1 y G R this
theorem Vh0 {i:Nat} {xs ys:List Int} {r:Int} (h:xs.length<=i):M.lessB (xs.drop i) ys r= .ret r:=by
 rw[Gk h];cases ys<;>rfl
theorem bless_spec {xv yv:Value} {xs ys:List Int} (h:BdR n bb ar ab X F w st) (E:Ints (Off X F) w xv xs) (T:Ints (Off X F) w yv ys) (Z:xs.length<=ys.length) (W:xs.length<=1000) (A:SmL xs) (t:SmL ys)
  (N:∀w' F' st' r,BdR n bb ar ab X F' w' st'->Mv F w F' w'->Sm r->M.Bd.Out n (M.lessB xs ys (-1)) st st' r->K (.int .i64 r) w'):
  vcall P qP #[.pointer (some ⟨bb,0,none⟩),xv,yv] w K:=by
 apply zd0;simp(disch:=first|(simp only[push_cast])|omega) only[push_cast,E.len];refine vloop_up xs.length (λi u w'=> ∃v a r,u=[.int .i64 r,.int .i64 i]/\BdR n bb ar ab X v w' a/\Mv F w v w'/\Sm r/\
  ∀st2 q,M.Bd.Out n (M.lessB (xs.drop i) (ys.drop i) r) a st2 q->M.Bd.Out n (M.lessB xs ys (-1)) st st2 q) ⟨F,st,-1,rfl,h,Mv.refl,by decide,λ_ _ h=>h⟩ ?_
 rintro i _ g w1 C Y ⟨v,a,r,rfl,D,k,m,b⟩ L;simp only[push_cast];refine zh (λR=>?_) (λQ=>?_)
 ·have c:i<xs.length:=(by omega);refine zr λw2 j _=>?_;have H:=D.ext j;have e:=k.ext j;have o:=Ints.mv E e;have f:=Ints.mv T e;simp(disch:=first|(simp only[push_cast])|omega) only[push_cast,o.iaddr,o.load,f.iaddr,f.load,true_and];refine VL H (A.get c) (t.get (by omega)) λw3 V U d I l O y=>?_;have p:=Ints.mv f l;simp(disch:=first|(simp only[push_cast])|omega) only[push_cast,p.iaddr,p.load,true_and];refine bmux_spec I O (t.get (by omega)) m λw4 G B s J x hs z=>?_;simp(disch:=omega) only[push_cast,zJ];refine L c _ _ ⟨G,B,s,by simp<;>exact⟨rfl,rfl⟩,J,e.trans (l.trans x),hs,λst2 q S=>b st2 q ?_⟩;rw[kH c,kH (show i<ys.length by omega)];exact qh0 y (M.Bd.Out.bind z S)
 ·exact N w1 v a r D k m (b a r (by rw[Vh0 (by omega)];exact M.Bd.Out.ret _ _))
theorem V30 {i:Nat} {xs ys:List Int} {r:Int} (h:xs.length<=i):M.sameB (xs.drop i) ys r= .ret r:=by
 rw[Gk h];cases ys<;>rfl
theorem bsame_spec {xv yv:Value} {xs ys:List Int} (h:BdR n bb ar ab X F w st) (D:Ints (Off X F) w xv xs) (R:Ints (Off X F) w yv ys) (Y:xs.length<=ys.length) (U:xs.length<=1000) (y:SmL xs) (z:SmL ys)
  (L:∀w' F' st' r,BdR n bb ar ab X F' w' st'->Mv F w F' w'->Sm r->M.Bd.Out n (M.sameB xs ys 1) st st' r->K (.int .i64 r) w'):
  vcall P Zj #[.pointer (some ⟨bb,0,none⟩),xv,yv] w K:=by
 apply za0;simp(disch:=first|(simp only[push_cast])|omega) only[push_cast,D.len];refine vloop_up xs.length (λi u w'=> ∃o a r,u=[.int .i64 r,.int .i64 i]/\BdR n bb ar ab X o w' a/\Mv F w o w'/\Sm r/\
  ∀st2 q,M.Bd.Out n (M.sameB (xs.drop i) (ys.drop i) r) a st2 q->M.Bd.Out n (M.sameB xs ys 1) st st2 q) ⟨F,st,1,rfl,h,Mv.refl,by decide,λ_ _ h=>h⟩ ?_
 rintro i _ g w1 C W ⟨o,a,r,rfl,B,j,k,b⟩ J;simp only[push_cast];refine zh (λO=>?_) (λN=>?_)
 ·have c:i<xs.length:=(by omega);refine zr λw2 f _=>?_;have G:=B.ext f;have e:=j.ext f;have l:=Ints.mv D e;have m:=Ints.mv R e;simp(disch:=first|(simp only[push_cast])|omega) only[push_cast,l.iaddr,l.load,m.iaddr,m.load,true_and];refine VL G (y.get c) (z.get (by omega)) λZ T S d H p V v=>?_;simp(disch:=omega) only[push_cast,zJ,GQ];refine Y1 H k (by unfold Sm at*;omega) λw4 E A s I t hs x=>?_
  try simp(disch:=omega) only[push_cast,zJ]
  refine J c _ _ ⟨E,A,s,by simp<;>exact⟨rfl,rfl⟩,I,e.trans (p.trans t),hs,λst2 q Q=>b st2 q ?_⟩;rw[kH c,kH (show i<ys.length by omega)];exact qh0 v (Qw x Q)
 ·exact L w1 o a r B j k (b a r (by rw[V30 (by omega)];exact M.Bd.Out.ret _ _))
theorem Clone_signal {xv:Value} {xs:List Int} (d:Ints Fx w xv xs) (v:xs.length<=1000000) (l:∀w' v',Ext w w'->OwnI P zc w' v' xs->(∀x,v'.ownBlock=some x->w.heap.size<=x)->K v' w'):
  vcall P yj #[xv] w K:=by
 apply kw;obtain⟨a,c,rfl,r,s,f⟩:=d.shape;simp only[X0] at d r⊢;rw[yK0 qo];refine zK (λm=>?_) (λm=>?_)
 ·cases a with
  |some a=>cases m
  |none=>
   have k:xs=[]:=by
    have n:(List.map (λx=>[x]) (List.map (λx=>Value.int IntKind.i64 x) xs))=[]:=GU λh=>by
     obtain⟨b,o,p,_⟩:=f h;cases p
    simpa using n
   subst k;exact l w _ (Same.refl _ _) OwnI.nil λx d=>by cases d
 ·refine qB xt yN λb w1 z he A q=>?_;have g:OwnI P zc w1 (.slice (some ⟨b,0,none⟩) 0 0) []:=Blk.own1 (P:=P) (t:=zc) (cs:=[]) (by rw[qa];exact q) (Gg _) rfl rfl (by omega);have j:Ints Fx w1 (.slice a xs.length c) xs:=d.ext he;refine g.app xx j (by simp;omega) (by simp;omega) λv' w2 u hs i=>?_;have y:=he.size;refine l w2 v' (Ext.then he hs λx d=>by have e:b=x:=gh d;omega) u λx d=>?_;rcases i x d with h|h
  ·have e:b=x:=gh h;omega
  ·omega
end
section
variable {w:World} {K:Value->World->Prop} {F F' Fx X:Nat->Prop} {n bb:Nat} {v:Value} {ar ab:Addr} {st:Option M.Gs}
def WT0 (n bb:Nat) (ar ab:Addr) (X F:Nat->Prop) (w:World) (f:Value) (p:Int->Int->M.Bd Int):Prop:=
 ∀(w1:World) (F1:Nat->Prop) (st1:Option M.Gs) (x y:Int) (K:Value->World->Prop),BdR n bb ar ab X F1 w1 st1->Mv F w F1 w1->Sm x->Sm y->
  (∀w' F' st' r,BdR n bb ar ab X F' w' st'->Mv F1 w1 F' w'->Sm r->M.Bd.Out n (p x y) st1 st' r->K (.int .i64 r) w')->vcallv P f #[.int .i64 x,.int .i64 y] w1 K
theorem ZG0 {p:Int->Int->M.Bd Int} {i:Nat} {xs ys:List Int} (h:xs.length<=i):M.eachB p (xs.drop i) ys= .ret []:=by
 rw[Gk h];cases ys<;>rfl
theorem each_spec {p:Int->Int->M.Bd Int} {xv yv f:Value} {xs ys:List Int} (h:BdR n bb ar ab X F w st) (S:Ints (Off X F) w xv xs) (hy:Ints (Off X F) w yv ys) (hl:xs.length<=ys.length) (h8:xs.length<=1000) (L:SmL xs) (N:SmL ys)
  (hf:WT0 n bb ar ab X F w f p)
  (Z:∀w' F' st' r zs,BdR n bb ar ab X F' w' st'->Mv F w F' w'->NewI X w F' w' r zs->SmL zs->M.Bd.Out n (M.eachB p xs ys) st st' zs->K r w'):
  vcall P Zf #[xv,yv,f] w K:=by
 apply jh0;simp(disch:=first|(simp only[push_cast])|omega) only[push_cast,S.len];refine vloop_up xs.length (λi u w'=> ∃m a r zs,u=[r,.int .i64 i]/\BdR n bb ar ab X m w' a/\Mv F w m w'/\NewI X w m w' r zs/\SmL zs/\zs.length=i/\
  ∀st2 rs,M.Bd.Out n (M.eachB p (xs.drop i) (ys.drop i)) a st2 rs->M.Bd.Out n (M.eachB p xs ys) st st2 (zs++rs)) ⟨F,st,_,[],rfl,h,Mv.refl,NewI.nil,SmL.nil,rfl,λ_ _ h=>h⟩ ?_
 rintro i _ g w1 C hi ⟨m,a,r,zs,rfl,Q,o,v,A,O,d⟩ Y;simp only[push_cast];refine zh (λa2=>?_) (λa1=>?_)
 ·have k:i<xs.length:=(by omega);refine zr λw2 e _=>?_;have U:=Q.ext e;have c:=o.ext e;have y:=Ints.mv S c;have z:=Ints.mv hy c;simp(disch:=first|(simp only[push_cast])|omega) only[push_cast,y.iaddr,y.load,z.iaddr,z.load,true_and];refine hf w2 m a _ _ _ U c (L.get k) (N.get (by omega)) λw4 D B s V q hs I=>?_;refine yK xt yN yW rfl rfl λb5 w5 a0 j a3 E=>?_;have t:=(c.trans q).ext j;have R:=V.ext j;have l:NewI X w D w5 r zs:=(v.mv ((Mv.refl.ext e).trans q)).mv (Mv.refl.ext j);refine l.app1 E t.same.size R.lt (by omega) λr6 T J x=>?_;have W:BdR n bb ar ab X D T B:=R.upd h.err x λb G=>l.off b G;have H:Mv F w D T:=t.to x λb G=> .inr (l.off b G).1;simp(disch:=omega) only[push_cast,zJ];refine Y k _ _ ⟨D,B,r6,zs++[s],by simp<;>exact⟨rfl,rfl⟩,W,H,J,A.app (SmL.one hs),by simp[O],λst2 rs ho=>?_⟩;have:=d st2 (s::rs) ?_
  ·simpa using this
  rw[kH k,kH (show i<ys.length by omega)];exact M.Bd.Out.bind I (M.Bd.Out.map _ ho)
 ·have:=d a [] (by rw[ZG0 (by omega)];exact M.Bd.Out.ret _ _);rw[gz] at this;exact Z w1 m a r zs Q o v A this
theorem negated_spec {xv:Value} {xs:List Int} (n:Ints Fx w xv xs) (G:xs.length<=1000) (s:SmL xs)
  (v:∀w' r,Ext w w'->OwnI P zc w' r (M.negL xs)->(∀b,r.ownBlock=some b->w.heap.size<=b)->K r w'):vcall P jE #[xv] w K:=by
 apply kf0;apply jh0;simp(disch:=first|(simp only[push_cast])|omega) only[push_cast,n.len];refine vloop_up xs.length (λi u w'=> ∃r,u=[r,.int .i64 i]/\Ext w w'/\OwnI P zc w' r (M.negL (xs.take i))/\∀b,r.ownBlock=some b->w.heap.size<=b) ⟨_,rfl,Same.refl _ _,OwnI.nil,λb m=>by cases m⟩ ?_;rintro i _ g w1 C H ⟨r,rfl,a,f,e⟩ t;simp only[push_cast];refine zh (λA=>?_) (λz=>?_)
 ·have d:i<xs.length:=(by omega);refine zr λw2 c _=>?_;have l:=n.ext (a.trans c);simp(disch:=first|(simp only[push_cast])|omega) only[push_cast,l.iaddr,l.load,true_and];refine q70 ?_;unfold KG;have m:=s.get d;simp(disch:=omega) only[push_cast,zJ,GQ];refine yK xt yN yW rfl rfl λF I y j D o=>?_;have he:=a.trans (c.trans j);have B:=he.size;refine(f.ext (c.trans j)).app1 xx o (by simp[M.negL];omega) (by simp[M.negL];omega) λE J k q p=>?_
  try simp(disch:=omega) only[push_cast,zJ]
  refine t d _ _ ⟨E,by simp<;>exact⟨rfl,rfl⟩,Ext.then he q λx n=>e x n,?_,λb m=>(p b m).elim (e b) λh=>by omega⟩;rw[M.take_add d 0];unfold M.negL at k⊢;rw[gx];exact k
 ·rw[gM (by omega)] at f;exact v w1 r a f e
theorem NewI.of {w':World} {r:Value} {zs:List Int} (h:OwnI P zc w' r zs) (d:∀b,r.ownBlock=some b->w.heap.size<=b) (hF:∀b,F b\/X b->b<w.heap.size):NewI X w F w' r zs:=
 ⟨h,λb a=>⟨d b a,λc=>by have:=d b a;have:=hF b (.inl c);omega⟩,λb a c=>by have:=d b a;have:=hF b (.inr c);omega⟩
theorem SmL.neg {xs:List Int} (h:SmL xs):SmL (M.negL xs):=λx a=>by
 obtain⟨y,b,rfl⟩:=gm.1 a;have:=h y b;unfold Sm at*;omega
theorem SmL.offs (m:Nat):SmL (M.offsL m):=λx a=>by rw[Pc a];decide
end
section
variable {w:World} {K:Value->World->Prop} {F X:Nat->Prop} {n:Nat} {v:Value}
theorem kX0 {t ty:TypeId} {a:Option Addr} {l c:Nat} (b:isSl P t=true):vbi P .len [t] ty [.slice a l c] w K=K (.int .i64 l) w:=by
 obtain⟨e,he⟩:=Zi0 b;exact yU (by simp[biSem,Builtin.len_,qX he,goInt])
theorem Wm0 {x:Value}:sl 0 [x]=x:=rfl
theorem u_and {m:Nat} (hm:m<4294967296) {c:Bool}:zq P .and qb c (.int .u64 m) (.int .u64 4294967295) w K=K (.int .u64 m) w:=by
 have h:=V6 (P:=P) (w:=w) (K:=K) (c:=c) (t:=qb) (a:=m) (b:=4294967295) (by omega) (by decide);have e:m&&&4294967295=m:=by
  have:=Pr m 32;rw[show 2^32-1=4294967295 from rfl] at this;rw[this];exact Gi hm
 rw[e] at h;exact h
theorem u_shr {m:Nat} (hm:m<4294967296) {c:Bool}:zq P .shr qb c (.int .u64 m) (.int .u64 32) w K=K (.int .u64 0) w:=by
 have h:=XH0 (P:=P) (w:=w) (K:=K) (c:=c) (t:=qb) (k:= .u64) (yk:= .u64) (x:=m) (y:=32) (by decide);have e:(m:Int)/2^min (32:Int).toNat IntKind.u64.bits=0:=by
  rw[show(2:Int)^min (32:Int).toNat IntKind.u64.bits=4294967296 from rfl];omega
 rw[e] at h;exact h
theorem wrapU' {x:Int} (a:0<=x) (h:x<18446744073709551616):IntKind.u64.wrap x=x:=by
 have:=wrapU (n:=x.toNat) (by omega);rwa[show((x.toNat:Nat):Int)=x by omega] at this
theorem Mul_one {m:Nat} (hm:m<=1000) (d:K (.tuple #[.int .u64 0,.int .u64 m]) w):vcall P XJ #[.int .u64 1,.int .u64 m] w K:=by
 apply jd0;apply x40;have a:=λ(K:Value->World->Prop)=>u_and (w:=w) (K:=K) (m:=1) (by decide) (c:=true);have a2:=λ(K:Value->World->Prop)=>u_shr (w:=w) (K:=K) (m:=1) (by decide) (c:=true);have a3:=λ(K:Value->World->Prop)=>u_and (w:=w) (K:=K) (m:=m) (by omega) (c:=true);have a4:=λ(K:Value->World->Prop)=>u_shr (w:=w) (K:=K) (m:=m) (by omega) (c:=true);have a5:=λ(K:Value->World->Prop)=>u_and (w:=w) (K:=K) (m:=0) (by omega) (c:=true);have b:=λ(K:Value->World->Prop)=>u_shr (w:=w) (K:=K) (m:=0) (by omega) (c:=true);simp only[Int.cast_ofNat_Int] at a a2 a5 b;simp(disch:=omega) only[a,a2,a3,a4,a5,b,push_cast,wrapU',Int.one_mul,Int.zero_mul,Int.mul_zero,Int.zero_add,Int.add_zero];exact d
theorem V70 {m k:Nat} {a:Value} {r:List Value} (h:k<=m):(List.replicate m a++r).take k=List.replicate k a:=by
 rw[GH (by rw[gF];exact h),List.take_replicate,gJ h]
theorem V80 {m k j:Nat} {a:Value} {r:List Value} (h:j=m+k):(List.replicate m a++r).drop j=r.drop k:=by
 subst h;rw[<-z0a,P8 (by rw[gF])]
theorem Repeat_signal {x:Value} {m:Nat} {y:Nat} {e0:TypeId} (Z:Blk w y [.int .i64 (-1)] e0) (hm:m<=1000) (hK:∀w' r,Ext w w'->OwnI P zc w' r (M.offsL m)->(∀b,r.ownBlock=some b->w.heap.size<=b)->K r w'):
  vcall P xh #[.slice (some ⟨y,0,none⟩) 1 1,.int .i64 m] w K:=by
 apply jP;refine zS (λu w'=>w'=w) ?_ ?_
 ·intro J B;simp only[push_cast];refine zh (λh=>?_) (λh=>B _ _ rfl);omega
 rintro _ _ w' hw;rw[hw];have V:∀K:Value->World->Prop,vbi P .len [zc] ze [.slice (some ⟨y,0,none⟩) 1 1] w K=K (.int .i64 (1:Nat)) w:=λK=>kX0 qo;have c1:∀K:Value->World->Prop,QY P ze Ua (.int .i64 (1:Nat)) w K=K (.int .u64 (1:Nat)) w:=λK=>by
  rw[ZA XN0 JP0,wrapU (by decide)]
 have c2:∀K:Value->World->Prop,QY P ze Ua (.int .i64 m) w K=K (.int .u64 m) w:=λK=>by
  rw[ZA XN0 JP0,wrapU (by omega)]
 have c3:∀K:Value->World->Prop,QY P Ua ze (.int .u64 m) w K=K (.int .i64 m) w:=λK=>by
  rw[ZA Wl0 kM0,wrapN (by omega)]
 rw[V,c1,c2];refine Mul_one hm ?_;simp only[push_cast];refine zS (λu w'=>w'=w) ?_ ?_
 ·intro J B;refine zh (λh=>?_) (λh=>?_)
  ·omega
  refine zh (λh=>?_) (λh=>B _ _ rfl);omega
 rintro _ _ w' hw;rw[hw];rw[c3];refine vmkS_blk (bs:=8) xx qa yW rfl (by omega) (by omega) λb w1 hb z q=>?_;have a2:y≠b:=by have:=Z.lt;omega
 have step:∀(k:Nat) (w2:World) (J:Value->World->Prop),0<m->k<m->Ext w w2->Blk w2 b (List.replicate k (.int .i64 (-1))++List.replicate (m-k) (.int .i64 0)) zv->∀(src:Addr) (sc sl:Nat) (ds:Nat),
   (∀j u,(List.replicate (min sl (m-k)) (Value.int .i64 (-1)))[j]?=some u->w2.cell? (src.add j)=some u)->
   (∀v,Ext w v->Blk v b (List.replicate (k+min sl (m-k)) (.int .i64 (-1))++List.replicate (m-(k+min sl (m-k))) (.int .i64 0)) zv->J (.int .i64 (min sl (m-k):Nat)) v)->
   vbi P .copy [zc,zc] ze [.slice (some ⟨b,k,none⟩) (m-k) ds,.slice (some src) sl sc] w2 J:=by
  intro k w2 J X hk f d src sc sl ds G B;refine vcopy (cs:=List.replicate (min sl (m-k)) (.int .i64 (-1))) xU d (by rw[gF]) G (by simp only[gF,Q1];omega) (λu hu=>by rw[Pc hu];rfl) λv W a3 i=>?_;rw[gF];refine B v (Ext.then f W λx hx=>by omega) ?_;rw[V70 (gr _),V80 (m:=k) (k:=min sl (m-k)) (by rw[gF]),List.drop_replicate,<-Gb,List.replicate_append_replicate] at i;rw[show m-(k+min sl (m-k))=m-k-min sl (m-k) by omega];exact i
 have fin:∀(w2:World) (u:Value),Ext w w2->Blk w2 b (List.replicate m (.int .i64 (-1))) zv->K (.slice (some ⟨b,0,none⟩) m m) w2:=λw2 _ f d=>by
  refine hK w2 _ f ?_ λx hx=>by have e:b=x:=gh hx;omega
  have:=Blk.own1 (P:=P) (t:=zc) (base:=0) (n:=m) (c:=m) (cs:=List.replicate m (.int .i64 (-1))) (by rw[qa];exact d) (Gg _) (by rw[gF]) (by rw[gF]) (by omega);unfold OwnI OwnV M.offsL;rw[pk];exact this
 have loop:∀(k:Nat) (w2:World),Ext w w2->Blk w2 b (List.replicate k (.int .i64 (-1))++List.replicate (m-k) (.int .i64 0)) zv->k<=m->(1<=k\/m=0)->
   yS [.int .i64 k] w2 λC o _ H=>
    vbi P .len [zc] ze [.slice (some ⟨b,0,none⟩) m m] H λt36 I=>
    zq P .lss ze false (sl 0 o) t36 I λt37 p=>
    vif t37 (
     yb p λa=>
     yQ P zc (.slice (some ⟨b,0,none⟩) m m) (some (sl 0 o)) none none a λt41 L=>L=a/\
     yQ P zc (.slice (some ⟨b,0,none⟩) m m) none (some (sl 0 o)) none a λt44 N=>N=a/\
     vbi P .copy [zc,zc] ze [t41,t44] a λt45 l=>
     zq P .add ze false (sl 0 o) t45 l λt46 O=>O=l/\
     C [t46] l) (
     K (.slice (some ⟨b,0,none⟩) m m) p):=by
  intro k0 w2 f d U Y;refine Wc (λr u w'=> ∃k:Nat,u=[.int .i64 k]/\r=m-k/\k<=m/\(1<=k\/m=0)/\Ext w w'/\Blk w' b (List.replicate k (.int .i64 (-1))++List.replicate (m-k) (.int .i64 0)) zv) (m-k0) ⟨k0,rfl,rfl,U,Y,f,d⟩ ?_;rintro r _ g v C ⟨k,rfl,rfl,hk,Y,D,i⟩ hC;rw[kX0 qo];simp only[push_cast];refine zh (λa1=>?_) (λa0=>?_)
  ·have F:k<m:=(by omega);refine zr λw4 E _=>?_;have A:=i.ext E;simp only[Wm0,blk_from xU (show k<=m by omega),blk_to xU (show k<=m by omega),true_and];rw[if_neg (by omega)];refine step k w4 _ (by omega) F (D.trans E) A ⟨b,0,none⟩ m k _ (λj u s=>?_) λw5 R Q=>?_
   ·have T:j<min k (m-k):=by have:=(Gr.1 s).1;rwa[gF] at this
    rw[xR];refine A.cell ?_;rw[gQ,gA (by rw[gF];omega)];rw[Pk,if_pos (by omega)] at s⊢;exact s
   ·simp(disch:=omega) only[push_cast,zJ,true_and];exact hC (m-(k+min k (m-k))) _ _ (by omega) ⟨k+min k (m-k),by simp<;>rfl,rfl,by omega,by omega,R,Q⟩
  ·have:k=m:=(by omega);subst this;rw[GB,Pb,gz] at i;exact fin v undef D i
 by_cases X:m=0
 ·subst X;rw[Q80 xU rfl];exact loop 0 w1 q z (gr _) (.inr rfl)
 ·refine step 0 w1 _ (by omega) (by omega) q (by simpa using z) ⟨y,0,none⟩ 1 1 m (λj u s=>?_) λw2 f d=>?_
  ·have T:j<min 1 (m-0):=by have:=(Gr.1 s).1;rwa[gF] at this
   have S:j=0:=(by omega);subst S;rw[Pk,if_pos (by omega)] at s;rw[xR];exact(Z.ext q).cell s
  ·exact loop _ w2 f (by simpa using d) (by omega) (.inl (by omega))
theorem offs_spec {m:Nat} (hm:m<=1000) (e:∀w' r,Ext w w'->OwnI P zc w' r (M.offsL m)->(∀b,r.ownBlock=some b->w.heap.size<=b)->K r w'):vcall P k8 #[.int .i64 m] w K:=by
 apply Xw0;refine yK xt yN yW rfl rfl λb w1 j a i c=>?_;have:=a.size;exact Repeat_signal (x:=undef) c hm λw2 r d g f=>e w2 r (a.trans d) g λx h=>by have:=f x h;omega
end
end Go.Proofs.YtokflbdfnbppjaaGreatDoor
