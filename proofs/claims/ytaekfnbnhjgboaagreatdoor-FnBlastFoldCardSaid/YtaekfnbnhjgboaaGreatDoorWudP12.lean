import Derived.Test.YtaekfnbnhjgboaaGreatDoorWudP5
import Derived.Test.YtaekfnbnhjgboaaGreatDoorWudP9
import Derived.Test.YtaekfnbnhjgboaaGreatDoorWudP6
import Derived.Test.YtaekfnbnhjgboaaGreatDoorWudP11
/- A part of the proof. -/
set_option linter.unusedVariables false
set_option linter.unusedSimpArgs false
set_option linter.unnecessarySimpa false
set_option linter.unusedSectionVars false
section
namespace Go.M
open Go.Vc
mutual
def sameT:Tm→Tm→Bool
 | .mk o a b s ks,.mk o' a' b' s' ks'=>decide (o=o')&&decide (a=a')&&decide (b=b')&&decide (s=s')&&sameL ks ks'
def sameL:List Tm→List Tm→Bool
 |[],[]=>true
 |x::xs,y::ys=>sameT x y&&sameL xs ys
 |[],_::_=>false
 |_::_,[]=>false
end
theorem Xk0 {xs:List Tm} (a:∀k,k∈xs→∀y,sameT k y=true↔k=y):∀ys,sameL xs ys=true↔xs=ys:=by
 induction xs with
 |nil=>intro ys;cases ys<;>simp[sameL]
 |cons x xs ihx=>
  intro ys
  cases ys with
  |nil=>simp[sameL]
  |cons y ys=>
   rw[sameL,Bool.and_eq_true,a x List.mem_cons_self,ihx (fun k b=>a k (List.mem_cons_of_mem _ b)),List.cons.injEq]
theorem sameT_iff:∀t u:Tm,sameT t u=true↔t=u:=by
 refine Tm.ind fun t c u=>?_
 cases t with
 |mk o a b s ks=>
  cases u with
  |mk o' e f g d=>
   rw[sameT,Bool.and_eq_true,Xk0 (xs:=ks) c]
   simp only[Bool.and_eq_true,decide_eq_true_eq,Tm.mk.injEq,and_assoc]
instance:DecidableEq Tm:=fun t u=>decidable_of_iff _ (sameT_iff t u)
theorem tm_ext {t u:Tm} (c:t.op=u.op) (d:t.a=u.a) (e:t.b=u.b) (f:t.s=u.s) (g:t.ks=u.ks):t=u:=by
 cases t;cases u
 simp only[Tm.op,Tm.a,Tm.b,Tm.s,Tm.ks] at c d e f g
 rw[c,d,e,f,g]
def truT:Tm:= .mk 24 0 0 nada []
def flsT:Tm:= .mk 25 0 0 nada [truT]
def fixedM (t:Tm):Option Int:=if t=truT then some 1 else if t=flsT then some 0 else if t.op=20∧t.ks=[]∧t.s=nada∧vok t.a t.b=true then some t.b else none
def isM (t:Tm) (n:Int):Bool:=decide (fixedM t=some n)
def constM (w n:Int):Tm:=if 0<w then .mk 20 w n nada [] else if n=1 then truT else flsT
def zeroE (ds:List Dcl):List Int:=List.replicate ds.length 0
theorem zeroE_ok {ds:List Dcl} (h:declOk ds=true):envOk ds (zeroE ds)=true:=by
 unfold envOk zeroE
 rw[h,List.length_replicate]
 simp only[decide_true,Bool.true_and,List.all_eq_true,List.mem_range]
 intro i hi
 have hw:=dcl_wide h hi
 have:(List.replicate ds.length (0:Int)).getD i 0=0:=by simp[List.getD_eq_getElem?_getD,List.getElem?_replicate,hi]
 rw[this,vok_iff]
 exact⟨hw.1,hw.2,Int.le_refl _,Int.pow_pos (by decide)⟩
section
variable {ds:List Dcl} {env:List Int} {t u:Tm} {w n:Int}
theorem q80:sortM ds truT=0:=by rw[sort_leaf (formed_iff.2 ⟨rfl,rfl⟩) rfl];rfl
theorem kJ0:evalM ds env truT=1:=by rw[eval_leaf (.inr (.inr rfl))];rfl
theorem qt0 (a:declOk ds=true):sortM ds flsT=0:=by
 rw[sort_one a (formed_iff.2 ⟨rfl,rfl⟩) rfl]
 show oneM _ (sortM ds truT)=0
 rw[q80];rfl
theorem XG0 (he:envOk ds env=true):evalM ds env flsT=0:=by
 rw[(eval_no he (by rw[qt0 (env_ok he).1];decide) rfl).2.2]
 show(1:Int)-evalM ds env truT=0
 rw[kJ0];rfl
theorem kE0 {t:Tm} (c:t.op=20) (d:t.ks=[]) (e:t.s=nada) (g:vok t.a t.b=true):sortM ds t=t.a:=by
 have f:plainM t=true:=by simp[plainM,c,e]
 rw[sort_leaf (formed_iff.2 ⟨by rw[c,d];rfl,f⟩) (by rw[d];rfl)]
 unfold sortK
 rw[if_pos c,if_pos g]
theorem fixed_cases (h:fixedM t=some n):(t=truT∧n=1)∨(t=flsT∧n=0)∨(t.op=20∧t.ks=[]∧t.s=nada∧vok t.a t.b=true∧n=t.b):=by
 unfold fixedM at h
 split at h
 ·exact .inl ⟨by assumption,(Option.some.inj h).symm⟩
 split at h
 ·exact .inr (.inl ⟨by assumption,(Option.some.inj h).symm⟩)
 split at h
 ·rename_i c
  exact .inr (.inr ⟨c.1,c.2.1,c.2.2.1,c.2.2.2,(Option.some.inj h).symm⟩)
 ·cases h
theorem fixed_good (he:envOk ds env=true) (h:fixedM t=some n):sortM ds t≠ -1∧evalM ds env t=n∧inS (sortM ds t) n:=by
 rcases fixed_cases h with⟨rfl,rfl⟩|⟨rfl,rfl⟩|⟨a,c,d,b,rfl⟩
 ·rw[q80,kJ0];exact⟨by decide,rfl,.inl ⟨rfl,.inr rfl⟩⟩
 ·rw[qt0 (env_ok he).1,XG0 he];exact⟨by decide,rfl,.inl ⟨rfl,.inl rfl⟩⟩
 ·rw[kE0 a c d b,eval_leaf (.inl a),if_pos a]
  have:=vok_lt b
  exact⟨by omega,rfl,.inr b⟩
theorem isM_iff:isM t n=true↔fixedM t=some n:=by unfold isM;rw[decide_eq_true_eq]
theorem const_fixed (h:inS w n):fixedM (constM w n)=some n:=by
 unfold constM
 rcases h with⟨c,b⟩|h
 ·rw[if_neg (by omega)]
  rcases b with e|e
  ·rw[e,if_neg (by decide)];rfl
  ·rw[e,if_pos rfl];rfl
 ·have hw:=vok_lt h
  rw[if_pos (by omega)]
  have a: ¬Tm.mk 20 w n nada []=truT:=fun e=>by
   have e:(20:Int)=24:=congrArg Tm.op e
   omega
  have a2: ¬Tm.mk 20 w n nada []=flsT:=fun e=>by
   have e:(20:Int)=25:=congrArg Tm.op e
   omega
  unfold fixedM
  rw[if_neg a,if_neg a2]
  exact if_pos ⟨rfl,rfl,rfl,h⟩
theorem const_sort (b:declOk ds=true) (h:inS w n):sortM ds (constM w n)=w:=by
 unfold constM
 rcases h with⟨a,c⟩|h
 ·rw[if_neg (by omega)]
  split
  ·rw[q80,a]
  ·rw[qt0 b,a]
 ·have hw:=vok_lt h
  rw[if_pos (by omega)]
  exact kE0 rfl rfl rfl h
theorem XP (he:envOk ds env=true) (h:inS w n):evalM ds env (constM w n)=n:=(fixed_good he (const_fixed h)).2.1
def allFixed (t:Tm):Bool:=decide (t.ks≠[])&&t.ks.all fun k=>(fixedM k).isSome
def ruleX (ds:List Dcl) (t:Tm):Option Tm:=if allFixed t=true then some (constM (sortM ds t) (evalM ds (zeroE ds) t)) else none
def ruleB (t:Tm):Option Tm:=
 if t.op=25∧(kid t 0).op=25 then some (kid (kid t 0) 0)
 else if t.op≠23 then none
 else if isM (kid t 0) 1=true then some (kid t 1)
 else if isM (kid t 0) 0=true then some (kid t 2)
 else if kid t 1=kid t 2 then some (kid t 1) else none
def neutral (o:Int):Int:=if o=26 then 1 else 0
def ruleT (t:Tm):Option Tm:=
 if t.op=26∨t.op=27 then
  if isM (kid t 0) (neutral t.op)=true∨kid t 0=kid t 1 then some (kid t 1)
  else if isM (kid t 1) (neutral t.op)=true then some (kid t 0)
  else if isM (kid t 0) (1-neutral t.op)=true∨isM (kid t 1) (1-neutral t.op)=true then some (constM 0 (1-neutral t.op)) else none
 else none
def ruleL (ds:List Dcl) (t:Tm):Option Tm:=
 if t.op=22 then(if t.b=0∧t.a=sortM ds (kid t 0)-1 then some (kid t 0) else none)
 else if(t.op=1∨t.op=2)∧(kid t 0).op=t.op then some (kid (kid t 0) 0) else none
def ruleW (ds:List Dcl) (t:Tm):Option Tm:=
 if t.ks.length=2∧kid t 0=kid t 1 then
  if t.op=3∨t.op=4 then some (kid t 0)
  else if t.op=5∨t.op=7 then some (constM (sortM ds t) 0)
  else if t.op=15 then some (constM 0 1)
  else if t.op=16∨t.op=17 then some (constM 0 0) else none
 else none
def ruleS (t:Tm):Option Tm:=
 if t.ks.length=2 then
  if isM (kid t 1) 0=true∧(t.op=4∨t.op=5∨t.op=6∨t.op=7∨t.op=11∨t.op=12∨t.op=13) then some (kid t 0)
  else if isM (kid t 1) 0=true∧(t.op=3∨t.op=8) then some (kid t 1)
  else if isM (kid t 1) 1=true∧t.op=8 then some (kid t 0) else none
 else none
def ruleF (t:Tm):Option Tm:=
 if t.ks.length=2 then
  if isM (kid t 0) 0=true∧(t.op=4∨t.op=5∨t.op=6) then some (kid t 1)
  else if isM (kid t 0) 0=true∧(t.op=3∨t.op=8) then some (kid t 0)
  else if isM (kid t 0) 1=true∧t.op=8 then some (kid t 1) else none
 else none
def ruleA (ds:List Dcl) (t:Tm):Option Tm:=ruleX ds t <|> ruleB t <|> ruleT t <|> ruleL ds t <|> ruleW ds t <|> ruleS t <|> ruleF t
def oneT (ds:List Dcl) (t:Tm):Tm:=(ruleA ds t).getD t
def foldT (ds:List Dcl):Tm→Tm:=Tm.fold fun t us=>oneT ds (.mk t.op t.a t.b t.s us)
theorem XD0 (ds:List Dcl) (t:Tm):foldT ds t=oneT ds (.mk t.op t.a t.b t.s (t.ks.map (foldT ds))):=Tm.fold_eq _ t
inductive Src (t:Tm):Tm→Prop
 |kid (i:Nat) (h:i<t.ks.length):Src t (kid t i)
 |deep (i j:Nat) (h:i<t.ks.length) (h':j<(M.kid t i).ks.length):Src t (M.kid (M.kid t i) j)
 |const (w n:Int) (h:t.ks≠[]) (h':inS w n):Src t (constM w n)
structure Step (ds:List Dcl) (t u:Tm):Prop where
 src:Src t u
 sort:sortM ds u=sortM ds t
 eval:∀env,envOk ds env=true→evalM ds env u=evalM ds env t
theorem Ux {α:Type} {a b:Option α} {x:α} (h:(a <|> b)=some x):a=some x∨(a=none∧b=some x):=by
 cases a with
 |none=>exact .inr ⟨rfl,h⟩
 |some y=>exact .inl h
theorem Xy0 {i:Nat} (h:i<t.ks.length):t.ks≠[]:=fun e=>by rw[e] at h;simp at h
theorem len_of (hs:sortM ds t≠ -1):arity t.op=t.ks.length:=(formed_iff.1 (sort_parts hs).1).1
theorem allFixed_eval (he:envOk ds env=true) (hs:sortM ds t≠ -1) (h:allFixed t=true):evalM ds (zeroE ds) t=evalM ds env t:=by
 have f:=zeroE_ok (env_ok he).1
 unfold allFixed at h
 simp only[Bool.and_eq_true,decide_eq_true_eq,List.all_eq_true] at h
 have b:t.ks.map (vecM ds (zeroE ds))=t.ks.map (vecM ds env):=List.map_congr_left fun k b=>by
  obtain⟨n,c⟩:=Option.isSome_iff_exists.1 (h.2 k b)
  rw[vecM_pair,vecM_pair,(fixed_good f c).2.1,(fixed_good he c).2.1]
 have a:t.op≠21:=fun e=>by
  have:=len_of hs
  rw[e] at this
  have d:t.ks.length=0:=by simp[arity] at this;omega
  exact h.1 (List.eq_nil_of_length_eq_zero d)
 rw[evalM_eq,evalM_eq,b]
 unfold valK
 rw[if_neg a,if_neg a]
theorem Za0 (b:declOk ds=true) (hs:sortM ds t≠ -1) (h:ruleX ds t=some u):Step ds t u:=by
 unfold ruleX at h
 split at h
 ·rename_i a
  obtain rfl:=(Option.some.inj h).symm
  have hi:=eval_in (zeroE_ok b) t hs
  refine⟨.const _ _ (by unfold allFixed at a;simp only[Bool.and_eq_true,decide_eq_true_eq] at a;exact a.1) hi,const_sort b hi,fun env he=>?_⟩
  rw[XP he hi,allFixed_eval he hs a]
 ·cases h
theorem ruleB_step (l:declOk ds=true) (hs:sortM ds t≠ -1) (h:ruleB t=some u):Step ds t u:=by
 have m:=(sort_parts hs).1
 have d:=len_of hs
 unfold ruleB at h
 split at h
 ·rename_i c
  obtain rfl:=(Option.some.inj h).symm
  have g:t.ks.length=1:=by rw[c.1] at d;simp[arity] at d;omega
  have k0:=good_kid hs (i:=0) (by omega)
  have j:(kid t 0).ks.length=1:=by have:=len_of k0;rw[c.2] at this;simp[arity] at this;omega
  have p:=good_kid k0 (i:=0) (by omega)
  refine⟨.deep 0 0 (by omega) (by omega),?_,fun env he=>?_⟩
  ·have f:=sort_one l m g
   have s1:=sort_one l (sort_parts k0).1 j
   rw[f] at hs⊢
   have g0:=(one_good (by omega) hs).1 c.1
   rw[s1] at k0
   have g1:=(one_good (by omega) k0).1 c.2
   unfold oneM
   rw[if_pos c.1,if_pos g0,g1]
  ·obtain⟨_,i0,n⟩:=eval_no he hs c.1
   obtain⟨_,i1,o⟩:=eval_no he k0 c.2
   rw[n,o];omega
 ·split at h
  ·cases h
  ·rename_i a
   have a:t.op=23:=by omega
   have k:t.ks.length=3:=by rw[a] at d;simp[arity] at d;omega
   have f:=sort_three (ds:=ds) m k
   have b:=hs
   rw[f] at b
   have gs:sortM ds (kid t 1)=sortM ds (kid t 2):=by
    split at b
    ·exact absurd rfl b
    ·omega
   have st:sortM ds t=sortM ds (kid t 1):=by
    rw[f]
    split at b
    ·exact absurd rfl b
    ·rw[if_neg (by assumption)]
   split at h
   ·rename_i hi
    obtain rfl:=(Option.some.inj h).symm
    refine⟨.kid 1 (by omega),st.symm,fun env he=>?_⟩
    obtain⟨_,_,e⟩:=eval_if he hs a
    rw[e,(fixed_good he (isM_iff.1 hi)).2.1,if_pos rfl]
   ·split at h
    ·rename_i hi
     obtain rfl:=(Option.some.inj h).symm
     refine⟨.kid 2 (by omega),by rw[st,gs],fun env he=>?_⟩
     obtain⟨_,_,e⟩:=eval_if he hs a
     rw[e,(fixed_good he (isM_iff.1 hi)).2.1,if_neg (by decide)]
    ·split at h
     ·rename_i hi
      obtain rfl:=(Option.some.inj h).symm
      refine⟨.kid 1 (by omega),st.symm,fun env he=>?_⟩
      obtain⟨_,_,e⟩:=eval_if he hs a
      rw[e,←hi]
      split<;>rfl
     ·cases h
theorem ruleT_step (n:declOk ds=true) (hs:sortM ds t≠ -1) (h:ruleT t=some u):Step ds t u:=by
 have q:=(sort_parts hs).1
 have o:=len_of hs
 unfold ruleT at h
 split at h
 ·rename_i k
  have m:t.ks.length=2:=by rcases k with e|e<;>rw[e] at o<;>simp[arity] at o<;>omega
  have p:=sort_two n q m
  have l:=hs
  rw[p] at l
  obtain⟨g0,g1⟩:=(both_good l).1 k
  have st:sortM ds t=0:=by rw[p];unfold bothM;rw[if_pos k,if_pos ⟨g0,g1⟩]
  have j:neutral t.op=1∧t.op=26∨neutral t.op=0∧t.op=27:=by
   unfold neutral
   rcases k with e|e
   ·exact .inl ⟨if_pos e,e⟩
   ·exact .inr ⟨if_neg (by omega),e⟩
  have ev:∀env,envOk ds env=true→inS 0 (evalM ds env (kid t 0))∧inS 0 (evalM ds env (kid t 1))∧evalM ds env t=if t.op=26 then evalM ds env (kid t 0)*evalM ds env (kid t 1) else max (evalM ds env (kid t 0)) (evalM ds env (kid t 1)):=fun env he=>by
   obtain⟨_,a,b,c⟩:=eval_two he hs k
   exact⟨a,b,c⟩
  split at h
  ·rename_i hi
   obtain rfl:=(Option.some.inj h).symm
   refine⟨.kid 1 (by omega),by rw[st,g1],fun env he=>?_⟩
   obtain⟨i0,i1,e⟩:=ev env he
   rw[e]
   rcases hi with hi|hi
   ·have:=(fixed_good he (isM_iff.1 hi)).2.1
    rw[this]
    rcases j with⟨d,f⟩|⟨d,f⟩
    ·rw[d,if_pos f,Int.one_mul]
    ·rw[d,if_neg (by omega)]
     rcases inS_zero i1 with z|z<;>rw[z]<;>rfl
   ·rw[hi]
    rcases inS_zero i1 with z|z<;>rw[z]<;>split<;>rfl
  ·split at h
   ·rename_i hi
    obtain rfl:=(Option.some.inj h).symm
    refine⟨.kid 0 (by omega),by rw[st,g0],fun env he=>?_⟩
    obtain⟨i0,i1,e⟩:=ev env he
    rw[e,(fixed_good he (isM_iff.1 hi)).2.1]
    rcases j with⟨d,f⟩|⟨d,f⟩
    ·rw[d,if_pos f,Int.mul_one]
    ·rw[d,if_neg (by omega)]
     rcases inS_zero i0 with z|z<;>rw[z]<;>rfl
   ·split at h
    ·rename_i hi
     obtain rfl:=(Option.some.inj h).symm
     have g:inS 0 (1-neutral t.op):=by
      rcases j with⟨d,_⟩|⟨d,_⟩<;>rw[d]
      ·exact .inl ⟨rfl,.inl rfl⟩
      ·exact .inl ⟨rfl,.inr rfl⟩
     refine⟨.const _ _ (Xy0 (i:=0) (by omega)) g,by rw[st,const_sort n g],fun env he=>?_⟩
     obtain⟨i0,i1,e⟩:=ev env he
     rw[e,XP he g]
     rcases hi with hi|hi<;>rw[(fixed_good he (isM_iff.1 hi)).2.1]
     ·rcases j with⟨d,f⟩|⟨d,f⟩
      ·rw[d,if_pos f];simp
      ·rw[d,if_neg (by omega)]
       rcases inS_zero i1 with z|z<;>rw[z]<;>rfl
     ·rcases j with⟨d,f⟩|⟨d,f⟩
      ·rw[d,if_pos f];simp
      ·rw[d,if_neg (by omega)]
       rcases inS_zero i0 with z|z<;>rw[z]<;>rfl
    ·cases h
 ·cases h
theorem cut_all {w a:Int} (h:vok w a=true):cutM a (w-1) 0=a:=by
 obtain⟨b,c,e,d⟩:=vok_iff.1 h
 unfold cutM
 rw[show(w-1-0+1)=w by omega]
 rcases four b c with rfl|rfl|rfl|rfl<;>simp only[Jc0,Jb0,Ja0,J90] at d⊢ <;>simp<;>omega
theorem un_un {o w a:Int} (h:vok w a=true):unM o w (unM o w a)=a:=by
 obtain⟨b,c,e,d⟩:=vok_iff.1 h
 unfold unM
 rcases four b c with rfl|rfl|rfl|rfl<;>simp only[Jc0,Jb0,Ja0,J90] at d⊢ <;>split<;>omega
theorem ruleL_step (r:declOk ds=true) (hs:sortM ds t≠ -1) (h:ruleL ds t=some u):Step ds t u:=by
 have v:=(sort_parts hs).1
 have o:=len_of hs
 unfold ruleL at h
 split at h
 ·rename_i c
  split at h
  ·rename_i q
   obtain rfl:=(Option.some.inj h).symm
   have d:t.ks.length=1:=by rw[c] at o;simp[arity] at o;omega
   have n:=sort_one r v d
   have j:=hs
   rw[n] at j
   have g:=one_good (by omega) j
   have g2:=g.2.1 (by omega)
   have g3:=g.2.2 c
   refine⟨.kid 0 (by omega),?_,fun env he=>?_⟩
   ·rw[n];unfold oneM
    rw[if_neg (by omega),if_neg (by omega),if_pos c,if_pos g3];omega
   ·obtain⟨_,p,e⟩:=eval_cut he hs c
    rw[e]
    unfold vecCut
    rw[if_pos ⟨p,g3⟩]
    show _=cutM _ t.a t.b
    rw[q.1,q.2,cut_all p]
  ·cases h
 ·split at h
  ·rename_i c
   obtain rfl:=(Option.some.inj h).symm
   have d:t.ks.length=1:=by rcases c.1 with e|e<;>rw[e] at o<;>simp[arity] at o<;>omega
   have k0:=good_kid hs (i:=0) (by omega)
   have f:(kid t 0).op=1∨(kid t 0).op=2:=by rw[c.2];exact c.1
   have l:(kid t 0).ks.length=1:=by have:=len_of k0;rcases f with e|e<;>rw[e] at this<;>simp[arity] at this<;>omega
   have w:=good_kid k0 (i:=0) (by omega)
   have k:∀{t:Tm},sortM ds t≠ -1→(t.op=1∨t.op=2)→t.ks.length=1→sortM ds t=sortM ds (kid t 0):=fun{t} hs c d=>by
    have n:=sort_one r (sort_parts hs).1 d
    have j:=hs
    rw[n] at j
    have g:=(one_good (by omega) j).2.1 (by omega)
    rw[n];unfold oneM
    rw[if_neg (by omega),if_neg (by omega),if_neg (by omega)]
   refine⟨.deep 0 0 (by omega) (by omega),?_,fun env he=>?_⟩
   ·rw[k hs c.1 d,k k0 f l]
   ·obtain⟨_,p,e⟩:=eval_un he hs c.1
    obtain⟨_,m,s⟩:=eval_un he k0 f
    rw[e]
    unfold vecUn
    rw[if_pos ⟨p,c.1⟩]
    show _=unM t.op (sortM ds (kid t 0)) (evalM ds env (kid t 0))
    rw[s]
    unfold vecUn
    rw[if_pos ⟨m,f⟩]
    show _=unM t.op (sortM ds (kid t 0)) (unM (kid t 0).op (sortM ds (kid (kid t 0) 0)) (evalM ds env (kid (kid t 0) 0)))
    rw[c.2,k k0 f l,un_un m]
  ·cases h
def binT (w n:Nat):Prop:=
 (binN 3 w n n=n∧binN 4 w n n=n∧binN 5 w n n=0∧binN 7 w n n=0)∧
 (binN 4 w n 0=n∧binN 5 w n 0=n∧binN 6 w n 0=n∧binN 7 w n 0=n∧binN 11 w n 0=n∧binN 12 w n 0=n∧binN 13 w n 0=n)∧
 (binN 3 w n 0=0∧binN 8 w n 0=0∧binN 8 w n 1=n)∧
 (binN 4 w 0 n=n∧binN 5 w 0 n=n∧binN 6 w 0 n=n∧binN 3 w 0 n=0∧binN 8 w 0 n=0∧binN 8 w 1 n=n)
instance (w n:Nat):Decidable (binT w n):=by unfold binT;infer_instance
theorem bin_tab {w n:Int} (h:vok w n=true):binT w.toNat n.toNat:=small1 (p:=binT) (by decide+kernel) h
theorem bin_parts (i:declOk ds=true) (hs:sortM ds t≠ -1) (h:t.ks.length=2) (d:3≤t.op) (c:t.op≤13):sortM ds (kid t 0)=sortM ds t∧sortM ds (kid t 1)=sortM ds t∧
  ∀env,envOk ds env=true→vok (sortM ds t) (evalM ds env (kid t 0))=true∧vok (sortM ds t) (evalM ds env (kid t 1))=true∧evalM ds env t=binN t.op.toNat (sortM ds t).toNat (evalM ds env (kid t 0)).toNat (evalM ds env (kid t 1)).toNat:=by
 have f:=sort_two i (sort_parts hs).1 h
 have b:=hs
 rw[f] at b
 have g:=(both_good b).2 (by omega)
 have a:=g.2.2.2 (by omega)
 have st:sortM ds t=sortM ds (kid t 0):=by
  rw[f];unfold bothM
  rw[if_neg (by omega),if_neg (by omega),if_neg (by omega),if_neg (by omega),if_neg (by omega)]
 refine⟨st.symm,by rw[st,a],fun env he=>?_⟩
 obtain⟨_,v0,v1,e⟩:=eval_bin he hs d (by omega)
 refine⟨by rw[st];exact v0,by rw[st,a];exact v1,?_⟩
 rw[e]
 unfold vecBin
 rw[if_pos (show vok _ _=true∧vok _ _=true from⟨v0,v1⟩),if_neg (show¬t.op=14 by omega),if_pos (show 3≤t.op∧t.op≤13∧_=_ from⟨d,c,a⟩),st]
 rfl
theorem nat_of {w n:Int} (h:vok w n=true):((n.toNat:Nat):Int)=n:=by have:=vok_lt h;omega
theorem ruleW_step (j:declOk ds=true) (hs:sortM ds t≠ -1) (h:ruleW ds t=some u):Step ds t u:=by
 have v:=(sort_parts hs).1
 unfold ruleW at h
 split at h
 ·rename_i m
  obtain⟨r,m⟩:=m
  split at h
  ·rename_i k
   obtain rfl:=(Option.some.inj h).symm
   obtain⟨q,s1,ev⟩:=bin_parts j hs r (by omega) (by omega)
   refine⟨.kid 0 (by omega),q,fun env he=>?_⟩
   obtain⟨v0,v1,e⟩:=ev env he
   have tb:=(bin_tab v0).1
   rw[e,←m]
   rcases k with o|o<;>rw[o]
   ·show _=((binN 3 _ _ _:Nat):Int);rw[tb.1,nat_of v0]
   ·show _=((binN 4 _ _ _:Nat):Int);rw[tb.2.1,nat_of v0]
  ·split at h
   ·rename_i k
    obtain rfl:=(Option.some.inj h).symm
    obtain⟨q,s1,ev⟩:=bin_parts j hs r (by omega) (by omega)
    have c:inS (sortM ds t) 0:=by
     have:=(ev _ (zeroE_ok j)).1
     obtain⟨a,b,_,_⟩:=vok_iff.1 this
     exact .inr (vok_iff.2 ⟨a,b,Int.le_refl _,Int.pow_pos (by decide)⟩)
    refine⟨.const _ _ (Xy0 (i:=0) (by omega)) c,const_sort j c,fun env he=>?_⟩
    obtain⟨v0,v1,e⟩:=ev env he
    have tb:=(bin_tab v0).1
    rw[XP he c,e,←m]
    rcases k with o|o<;>rw[o]
    ·show _=((binN 5 _ _ _:Nat):Int);rw[tb.2.2.1];rfl
    ·show _=((binN 7 _ _ _:Nat):Int);rw[tb.2.2.2];rfl
   ·have cmp:15≤t.op→t.op≤17→sortM ds t=0∧∀env,envOk ds env=true→evalM ds env t=b2i (decide (t.op=15)):=fun f l=>by
     have q:=sort_two j v r
     have n:=hs
     rw[q] at n
     have g:=(both_good n).2 (by omega)
     refine⟨?_,fun env he=>?_⟩
     ·rw[q];unfold bothM
      rw[if_neg (by omega),if_neg (by omega),if_neg (by omega),if_neg (by have:=g.2.2.2 (by omega);omega),if_pos f]
     ·obtain⟨_,v0,v1,e⟩:=eval_cmp he hs f l
      rw[e]
      unfold vecCmp
      rw[if_pos ⟨v0,v1,g.2.2.2 (by omega),f,l⟩,←m]
      unfold cmpM
      by_cases d:t.op=15
      ·rw[if_pos d];simp[d]
      ·rw[if_neg d]
       by_cases p:t.op=16
       ·rw[if_pos p];simp[d]
       ·rw[if_neg p];simp[d]
    split at h
    ·rename_i k
     obtain rfl:=(Option.some.inj h).symm
     obtain⟨st,ev⟩:=cmp (by omega) (by omega)
     have c:inS 0 1:= .inl ⟨rfl,.inr rfl⟩
     exact⟨.const _ _ (Xy0 (i:=0) (by omega)) c,by rw[const_sort j c,st],fun env he=>by rw[XP he c,ev env he,decide_eq_true k];rfl⟩
    ·split at h
     ·rename_i s k
      obtain rfl:=(Option.some.inj h).symm
      obtain⟨st,ev⟩:=cmp (by omega) (by omega)
      have c:inS 0 0:= .inl ⟨rfl,.inl rfl⟩
      exact⟨.const _ _ (Xy0 (i:=0) (by omega)) c,by rw[const_sort j c,st],fun env he=>by rw[XP he c,ev env he,decide_eq_false s];rfl⟩
     ·cases h
 ·cases h
theorem ruleS_step (d:declOk ds=true) (hs:sortM ds t≠ -1) (h:ruleS t=some u):Step ds t u:=by
 unfold ruleS at h
 split at h
 ·rename_i c
  split at h
  ·rename_i a
   obtain rfl:=(Option.some.inj h).symm
   obtain⟨b,s1,ev⟩:=bin_parts d hs c (by omega) (by omega)
   refine⟨.kid 0 (by omega),b,fun env he=>?_⟩
   obtain⟨v0,v1,e⟩:=ev env he
   have tb:=(bin_tab v0).2.1
   rw[e,(fixed_good he (isM_iff.1 a.1)).2.1]
   rcases a.2 with o|o|o|o|o|o|o<;>rw[o]
   ·show _=((binN 4 _ _ 0:Nat):Int);rw[tb.1,nat_of v0]
   ·show _=((binN 5 _ _ 0:Nat):Int);rw[tb.2.1,nat_of v0]
   ·show _=((binN 6 _ _ 0:Nat):Int);rw[tb.2.2.1,nat_of v0]
   ·show _=((binN 7 _ _ 0:Nat):Int);rw[tb.2.2.2.1,nat_of v0]
   ·show _=((binN 11 _ _ 0:Nat):Int);rw[tb.2.2.2.2.1,nat_of v0]
   ·show _=((binN 12 _ _ 0:Nat):Int);rw[tb.2.2.2.2.2.1,nat_of v0]
   ·show _=((binN 13 _ _ 0:Nat):Int);rw[tb.2.2.2.2.2.2,nat_of v0]
  ·split at h
   ·rename_i a
    obtain rfl:=(Option.some.inj h).symm
    obtain⟨b,s1,ev⟩:=bin_parts d hs c (by omega) (by omega)
    refine⟨.kid 1 (by omega),s1,fun env he=>?_⟩
    obtain⟨v0,v1,e⟩:=ev env he
    have tb:=(bin_tab v0).2.2.1
    rw[e,(fixed_good he (isM_iff.1 a.1)).2.1]
    rcases a.2 with o|o<;>rw[o]
    ·show _=((binN 3 _ _ 0:Nat):Int);rw[tb.1];rfl
    ·show _=((binN 8 _ _ 0:Nat):Int);rw[tb.2.1];rfl
   ·split at h
    ·rename_i a
     obtain rfl:=(Option.some.inj h).symm
     obtain⟨b,s1,ev⟩:=bin_parts d hs c (by omega) (by omega)
     refine⟨.kid 0 (by omega),b,fun env he=>?_⟩
     obtain⟨v0,v1,e⟩:=ev env he
     have tb:=(bin_tab v0).2.2.1
     rw[e,(fixed_good he (isM_iff.1 a.1)).2.1,a.2]
     show _=((binN 8 _ _ 1:Nat):Int);rw[tb.2.2,nat_of v0]
    ·cases h
 ·cases h
theorem ruleF_step (c:declOk ds=true) (hs:sortM ds t≠ -1) (h:ruleF t=some u):Step ds t u:=by
 unfold ruleF at h
 split at h
 ·rename_i b
  split at h
  ·rename_i a
   obtain rfl:=(Option.some.inj h).symm
   obtain⟨d,s1,ev⟩:=bin_parts c hs b (by omega) (by omega)
   refine⟨.kid 1 (by omega),s1,fun env he=>?_⟩
   obtain⟨v0,v1,e⟩:=ev env he
   have tb:=(bin_tab v1).2.2.2
   rw[e,(fixed_good he (isM_iff.1 a.1)).2.1]
   rcases a.2 with o|o|o<;>rw[o]
   ·show _=((binN 4 _ 0 _:Nat):Int);rw[tb.1,nat_of v1]
   ·show _=((binN 5 _ 0 _:Nat):Int);rw[tb.2.1,nat_of v1]
   ·show _=((binN 6 _ 0 _:Nat):Int);rw[tb.2.2.1,nat_of v1]
  ·split at h
   ·rename_i a
    obtain rfl:=(Option.some.inj h).symm
    obtain⟨d,s1,ev⟩:=bin_parts c hs b (by omega) (by omega)
    refine⟨.kid 0 (by omega),d,fun env he=>?_⟩
    obtain⟨v0,v1,e⟩:=ev env he
    have tb:=(bin_tab v1).2.2.2
    rw[e,(fixed_good he (isM_iff.1 a.1)).2.1]
    rcases a.2 with o|o<;>rw[o]
    ·show _=((binN 3 _ 0 _:Nat):Int);rw[tb.2.2.2.1];rfl
    ·show _=((binN 8 _ 0 _:Nat):Int);rw[tb.2.2.2.2.1];rfl
   ·split at h
    ·rename_i a
     obtain rfl:=(Option.some.inj h).symm
     obtain⟨d,s1,ev⟩:=bin_parts c hs b (by omega) (by omega)
     refine⟨.kid 1 (by omega),s1,fun env he=>?_⟩
     obtain⟨v0,v1,e⟩:=ev env he
     have tb:=(bin_tab v1).2.2.2
     rw[e,(fixed_good he (isM_iff.1 a.1)).2.1,a.2]
     show _=((binN 8 _ 1 _:Nat):Int);rw[tb.2.2.2.2.2,nat_of v1]
    ·cases h
 ·cases h
theorem Y60 (a:declOk ds=true) (hs:sortM ds t≠ -1) (h:ruleA ds t=some u):Step ds t u:=by
 unfold ruleA at h
 rcases Ux h with h|⟨_,h⟩
 ·exact Za0 a hs h
 rcases Ux h with h|⟨_,h⟩
 ·exact ruleB_step a hs h
 rcases Ux h with h|⟨_,h⟩
 ·exact ruleT_step a hs h
 rcases Ux h with h|⟨_,h⟩
 ·exact ruleL_step a hs h
 rcases Ux h with h|⟨_,h⟩
 ·exact ruleW_step a hs h
 rcases Ux h with h|⟨_,h⟩
 ·exact ruleS_step a hs h
 ·exact ruleF_step a hs h
theorem Ya0 (a:declOk ds=true) (hs:sortM ds t≠ -1):(ruleA ds t=none∧oneT ds t=t)∨Step ds t (oneT ds t):=by
 unfold oneT
 cases h:ruleA ds t with
 |none=>exact .inl ⟨rfl,rfl⟩
 |some u=>exact .inr (Y60 a hs h)
end
end Go.M
end
section
namespace Go.M
open Go.Vc
section
variable {ds:List Dcl} {env:List Int} {t u:Tm} {w n:Int}
theorem kid_size {i:Nat} (h:i<t.ks.length):sizeM (kid t i)+1≤sizeM t∧deepM (kid t i)+1≤deepM t:=by
 have a:=szT_all t
 have b:=dpT_all t
 have c:=szT_mono (ks:=t.ks) (i:=i+1) (j:=t.ks.length) (by omega) (by omega)
 have d:=dpT_mono (ks:=t.ks) (i:=i+1) (j:=t.ks.length) (by omega) (by omega)
 have e:=szT_succ h
 have f:=dpT_succ h
 unfold kid
 omega
theorem size_pos:1≤sizeM t∧1≤deepM t:=by rw[sizeM_eq,Kg];omega
theorem const_size:sizeM (constM w n)≤2∧deepM (constM w n)≤2:=by
 have leaf:∀o a b s,sizeM (.mk o a b s [])=1∧deepM (.mk o a b s [])=1:=fun o a b s=>by rw[sizeM_eq,Kg];exact⟨rfl,rfl⟩
 have c:sizeM truT=1∧deepM truT=1:=leaf _ _ _ _
 have d:sizeM flsT=2∧deepM flsT=2:=by
  rw[sizeM_eq,Kg]
  show 1+(sizeM truT+0)=2∧1+max 0 (deepM truT)=2
  rw[c.1,c.2];exact⟨rfl,rfl⟩
 unfold constM
 split
 ·have:=leaf 20 w n nada;omega
 ·split<;>omega
theorem src_size (h:Src t u):sizeM u≤sizeM t∧deepM u≤deepM t:=by
 cases h with
 |kid i h=>have:=kid_size h;omega
 |deep i j h a=>have:=kid_size h;have:=kid_size a;omega
 |const w n h a=>
  have b:0<t.ks.length:=List.length_pos_iff.2 h
  have:=kid_size (t:=t) (i:=0) b
  have:=size_pos (t:=kid t 0)
  have:=const_size (w:=w) (n:=n)
  omega
theorem Y90 (a:declOk ds=true) (hs:sortM ds t≠ -1):sortM ds (oneT ds t)=sortM ds t∧(∀env,envOk ds env=true→evalM ds env (oneT ds t)=evalM ds env t)∧sizeM (oneT ds t)≤sizeM t∧deepM (oneT ds t)≤deepM t:=by
 rcases Ya0 a hs with⟨_,e⟩|h
 ·rw[e];exact⟨rfl,fun _ _=>rfl,Nat.le_refl _,Nat.le_refl _⟩
 ·exact⟨h.sort,h.eval,src_size h.src⟩
def remake (t:Tm) (us:List Tm):Tm:= .mk t.op t.a t.b t.s us
theorem kn0 {us:List Tm} (b:us.length=t.ks.length) (h:us.map (sortM ds)=t.ks.map (sortM ds)):sortM ds (remake t us)=sortM ds t:=by
 rw[sortM_eq ds (remake t us),sortM_eq ds t]
 show sortF ds (remake t us) (us.map (sortM ds))=_
 rw[h]
 have a:formed (remake t us)=formed t:=by
  show(decide (arity t.op=(us.length:Int))&&plainM t)=_
  rw[b];rfl
 unfold sortF
 rw[a];rfl
theorem ko0 {us:List Tm} (a:us.length=t.ks.length) (h:us.map (vecM ds env)=t.ks.map (vecM ds env)):evalM ds env (remake t us)=evalM ds env t:=by
 rw[evalM_eq,evalM_eq]
 show valK ds env (remake t us) (us.map (vecM ds env))=_
 rw[h];rfl
theorem sum_le {f g:Tm→Nat}:∀{ks:List Tm},(∀k,k∈ks→f k≤g k)→(ks.map f).sum≤(ks.map g).sum
 |[],_=>Nat.le_refl _
 |k::r,h=>by
  have b:=h k List.mem_cons_self
  have c:=sum_le (ks:=r) fun x a=>h x (List.mem_cons_of_mem _ a)
  simp only[List.map_cons,List.sum_cons];omega
theorem max_le {f g:Tm→Nat}:∀{ks:List Tm} {a b:Nat},a≤b→(∀k,k∈ks→f k≤g k)→(ks.map f).foldl max a≤(ks.map g).foldl max b
 |[],a,b,c,_=>c
 |k::r,a,b,c,h=>by
  have e:=h k List.mem_cons_self
  simp only[List.map_cons,List.foldl_cons]
  exact max_le (ks:=r) (by omega) fun x d=>h x (List.mem_cons_of_mem _ d)
structure Good (ds:List Dcl) (t u:Tm):Prop where
 sort:sortM ds u=sortM ds t
 eval:∀env,envOk ds env=true→evalM ds env u=evalM ds env t
 size:sizeM u≤sizeM t
 deep:deepM u≤deepM t
theorem remake_good {f:Tm→Tm} (h:∀k,k∈t.ks→Good ds k (f k)):Good ds t (remake t (t.ks.map f)):=by
 have d:(t.ks.map f).length=t.ks.length:=List.length_map _
 refine⟨kn0 d ?_,fun env he=>ko0 d ?_,?_,?_⟩
 ·rw[List.map_map];exact List.map_congr_left fun k c=>(h k c).sort
 ·rw[List.map_map];exact List.map_congr_left fun k c=>by show vecM ds env (f k)=_;rw[vecM_pair,vecM_pair,(h k c).sort,(h k c).eval env he]
 ·rw[sizeM_eq,sizeM_eq t]
  show 1+((t.ks.map f).map sizeM).sum≤_
  rw[List.map_map]
  have:=sum_le (f:=sizeM∘f) (g:=sizeM) (ks:=t.ks) fun k c=>(h k c).size
  omega
 ·rw[Kg,Kg t]
  show 1+((t.ks.map f).map deepM).foldl max 0≤_
  rw[List.map_map]
  have:=max_le (f:=deepM∘f) (g:=deepM) (ks:=t.ks) (a:=0) (b:=0) (Nat.le_refl _) fun k c=>(h k c).deep
  omega
theorem foldT_rem (ds:List Dcl) (t:Tm):foldT ds t=oneT ds (remake t (t.ks.map (foldT ds))):=XD0 ds t
theorem fold_good (d:declOk ds=true):∀t,sortM ds t≠ -1→Good ds t (foldT ds t):=by
 refine Tm.ind fun t f hs=>?_
 have e:=(sort_parts hs).2.1
 have b:Good ds t (remake t (t.ks.map (foldT ds))):=remake_good fun k a=>f k a (e k a)
 have c:=Y90 d (t:=remake t (t.ks.map (foldT ds))) (by rw[b.sort];exact hs)
 rw[foldT_rem]
 exact⟨c.1.trans b.sort,fun env he=>(c.2.1 env he).trans (b.eval env he),Nat.le_trans c.2.2.1 b.size,Nat.le_trans c.2.2.2 b.deep⟩
theorem kids_good (a:declOk ds=true) (hs:sortM ds t≠ -1):Good ds t (remake t (t.ks.map (foldT ds))):=remake_good fun k b=>fold_good a k ((sort_parts hs).2.1 k b)
end
end Go.M
end
section
namespace Go.M
open Go.Vc
section
variable {ds:List Dcl} {env:List Int} {t u:Tm} {d:Dcl} {x:Int}
theorem app_getD {α:Type} {l r:List α} {i:Nat} {e:α} (h:i<l.length):(l++r).getD i e=l.getD i e:=by
 rw[List.getD_eq_getElem?_getD,List.getElem?_append_left h,←List.getD_eq_getElem?_getD]
def rankE:List Dcl→List Int→Int
 |d::ds,n::env=>n*2^(bits ds).toNat+rankE ds env
 |[],_=>0
 |_::_,[]=>0
theorem k70 (d:Dcl) (ds:List Dcl):bits (d::ds)=d.2+bits ds:=by unfold bits;rw[List.map_cons,List.sum_cons]
theorem bits_nonneg:∀{ds:List Dcl},(∀d,d∈ds→0≤d.2)→0≤bits ds
 |[],_=>Int.le_refl _
 |d::ds,h=>by
  have:=h d List.mem_cons_self
  have:=bits_nonneg (ds:=ds) fun x a=>h x (List.mem_cons_of_mem _ a)
  rw[k70];omega
theorem rank_zero:∀(ds:List Dcl) (n:Nat),rankE ds (List.replicate n 0)=0
 |[],n=>by cases n<;>rfl
 |d::ds,0=>rfl
 |d::ds,n+1=>by
  show(0:Int)*2^(bits ds).toNat+rankE ds (List.replicate n 0)=0
  rw[rank_zero ds n];simp
def Tops (ds:List Dcl) (env:List Int) (i:Nat):Prop:=∀j,i≤j→j<ds.length→env.getD j 0=2^((ds.getD j (nada,0)).2).toNat-1
theorem rank_top:∀{ds:List Dcl} {env:List Int},env.length=ds.length→(∀d,d∈ds→0≤d.2)→Tops ds env 0→rankE ds env=2^(bits ds).toNat-1
 |[],[],_,_,_=>rfl
 |d::ds,n::env,b,c,h=>by
  have f:n=2^(d.2).toNat-1:=h 0 (Nat.le_refl _) (by simp)
  have a:∀x,x∈ds→0≤x.2:=fun x k=>c x (List.mem_cons_of_mem _ k)
  have l:=rank_top (ds:=ds) (env:=env) (by simpa using b) a fun j _ i=>by
   have:=h (j+1) (Nat.zero_le _) (by simpa using i)
   simpa using this
  have m:=bits_nonneg a
  have g:=c d List.mem_cons_self
  show n*2^(bits ds).toNat+rankE ds env=_
  have e:(bits (d::ds)).toNat=d.2.toNat+(bits ds).toNat:=by rw[k70];omega
  rw[l,f,e,Int.pow_add,Int.sub_mul]
  omega
 |[],_::_,b,_,_=>by simp at b
 |_::_,[],b,_,_=>by simp at b
def bump (env:List Int) (i:Nat):List Int:=env.take i++(env.getD i 0+1)::List.replicate (env.length-i-1) 0
theorem rank_bump:∀{ds:List Dcl} {env:List Int} {i:Nat},env.length=ds.length→(∀d,d∈ds→0≤d.2)→i<ds.length→Tops ds env (i+1)→rankE ds (bump env i)=rankE ds env+1
 |d::ds,n::env,0,a,b,_,h=>by
  have c:∀x,x∈ds→0≤x.2:=fun x g=>b x (List.mem_cons_of_mem _ g)
  have l:=rank_top (ds:=ds) (env:=env) (by simpa using a) c fun j _ k=>by
   have:=h (j+1) (by omega) (by simpa using k)
   simpa using this
  show(n+1)*2^(bits ds).toNat+rankE ds (List.replicate _ 0)=n*2^(bits ds).toNat+rankE ds env+1
  rw[rank_zero,l,Int.add_mul]
  omega
 |d::ds,n::env,i+1,a,b,hi,h=>by
  have m:=rank_bump (ds:=ds) (env:=env) (i:=i) (by simpa using a) (fun x g=>b x (List.mem_cons_of_mem _ g)) (by simpa using hi) fun j k f=>by
   have:=h (j+1) (by omega) (by simpa using f)
   simpa using this
  have e:bump (n::env) (i+1)=n::bump env i:=by
   unfold bump
   simp only[List.take_succ_cons,List.getD_cons_succ,List.length_cons,List.cons_append]
   rw[show env.length+1-(i+1)-1=env.length-i-1 by omega]
  rw[e]
  show n*2^(bits ds).toNat+rankE ds (bump env i)=n*2^(bits ds).toNat+rankE ds env+1
  rw[m];omega
 |[],_,_,_,_,hi,_=>by simp at hi
 |_::_,[],_,a,_,_,_=>by simp at a
end
end Go.M
end
section
namespace Go.Proofs.YtaekfnbnhjgboaaGreatDoor
open Go Go.Vc Go.Proofs
variable {w:World} {K:Value→World→Prop} {F F' D G:Nat→Prop}
@[push_cast] theorem bd_TZ:zC PP z7 [] w K=K (.agg ⟨zL0⟩) w:=ye jp (us:=[]) rfl rfl
theorem tms_op {kv:Value} {ks:List M.Tm} (h:TmsR F w kv ks) {i:Nat} (hi:i<ks.length):ze PP zd (.pointer (some ((eaddr kv 5 i).add 0))) w K=K (.int .i64 (ks.getD i default).op) w:=by
 obtain⟨css,hs,c,a⟩:=h
 obtain⟨b,e,_⟩:=(a i hi).inv
 exact hs.ldField ks0 (by omega) (by rw[e];rfl)
theorem tms_kids {kv:Value} {ks:List M.Tm} (h:TmsR F w kv ks) {i:Nat} (hi:i<ks.length) (c:∀a,TmsR F w a (ks.getD i default).ks→K a w):ze PP za (.pointer (some ((eaddr kv 5 i).add 4))) w K:=by
 obtain⟨css,hs,f,d⟩:=h
 obtain⟨a,e,b⟩:=(d i hi).inv
 rw[hs.ldField jn0 (by omega) (by rw[e];rfl)]
 exact c a b
theorem TermSame_spec:∀(t:M.Tm) {w:World} {K:Value→World→Prop} {F G:Nat→Prop} {va vb:Value} {u:M.Tm},TermR F w va t→TermR G w vb u→(∀w',Ext w w'→K (.bool (decide (t=u))) w')→vcall PP xL #[va,vb] w K:=by
 refine M.Tm.ind fun t ih w K F G va vb u ha hb S=>?_
 apply yO0
 obtain⟨kva,rfl,p⟩:=ha
 obtain⟨kvb,rfl,D⟩:=hb
 refine zy fun b1 w1 a0 N a4 J=>?_
 refine zy fun b2 w2 a1 s a5 k=>?_
 have I:=J.ext s
 have f:=N.trans s
 have no:∀w',Ext w w'→t≠u→K (.bool false) w':=fun w' h hn=>by
  have:=S w' h
  rwa[decide_eq_false hn] at this
 simp(disch:=(simp only[push_cast];done)) only[push_cast,I.ld0,k.ld0,I.ld1,k.ld1,I.ld2,k.ld2,I.ld3,k.ld3,I.ld4,k.ld4]
 refine zh (fun U=>?_) (fun e=>no _ f fun h=>e (by rw[h]))
 refine zh (fun V=>?_) (fun e=>no _ f fun h=>e (by rw[h]))
 refine zh (fun W=>?_) (fun e=>no _ f fun h=>e (by rw[h]))
 refine zh (fun X=>?_) (fun e=>no _ f fun h=>e (by rw[h]))
 apply xz
 have B:=p.ext f
 have E:=D.ext f
 have a8:=p.small
 simp(disch:=(simp only[push_cast];done)) only[push_cast,B.len,E.len]
 refine zh (fun e=>no _ f fun h=>e (by rw[h])) (fun el=>?_)
 have el:t.ks.length=u.ks.length:=by omega
 refine vloop_up t.ks.length (fun i x w'=>x=[.int .i64 i]∧Ext w w'∧∀j,j<i→t.ks.getD j default=u.ks.getD j default) ⟨rfl,f,fun j T=>absurd T (by omega)⟩ ?_
 rintro i _ _ Q C hi ⟨rfl,c,g⟩ hC
 have l:=p.ext c
 have L:=D.ext c
 simp(disch:=first|(simp only[push_cast];done)|omega) only[push_cast,l.len]
 refine zh (fun a=>?_) (fun a=>?_)
 ·simp(disch:=first|(simp only[push_cast];done)|omega) only[push_cast,l.iaddr]
  refine l.load zu (by omega) fun x hx=>?_
  obtain⟨cx,rfl,m⟩:=hx.cells
  refine zz zO fun b4 w4 a2 v a6 Y=>?_
  refine stTerm Y rfl ((m.weaken (F':=fun b=>b<Q.heap.size) fun b _ h=>h).ext v) fun R O a9 Z=>?_
  have o:Ext Q R:=Ext.then v O fun y H=>by subst H;omega
  have r:=L.ext o
  simp(disch:=first|(simp only[push_cast];done)|omega) only[push_cast,r.iaddr]
  refine r.load zu (by omega) fun y H=>?_
  obtain⟨cy,rfl,n⟩:=H.cells
  refine zz zO fun b6 w6 a3 z a7 h6=>?_
  refine stTerm h6 rfl ((n.weaken (F':=fun b=>b<R.heap.size) fun b _ h=>h).ext z) fun w7 P aa h7=>?_
  have d:Ext R w7:=Ext.then z P fun y H=>by subst H;omega
  rw[(Z.ext d).ldAgg (t:=z7) (by rw[yp m];exact zu),h7.ldAgg (t:=z7) (by rw[yp n];exact zu)]
  simp only[push_cast,List.append_nil,List.nil_append]
  have q:=c.trans (o.trans d)
  refine ih _ (M.getD_mem (by omega) _) (m.ext (o.trans d)).term (n.ext d).term fun w8 A=>?_
  simp only[push_cast]
  refine y3 (fun b=>?_) (fun b=>?_)
  ·rw[Bool.not_eq_true',decide_eq_false_iff_not] at b
   exact no _ (q.trans A) fun h=>b (by rw[h])
  ·rw[Bool.not_eq_false',decide_eq_true_eq] at b
   rw[inc64' (by omega)]
   refine hC (by omega) _ _ ⟨rfl,q.trans A,fun j T=>?_⟩
   by_cases e:j<i
   ·exact g j e
   ·have:j=i:=by omega
    subst this;exact b
 ·have:t=u:=M.tm_ext U V W X (List.ext_getElem el fun j J k=>by
   have:=g j (by omega)
   rwa[List.getD_eq_getElem?_getD,List.getElem?_eq_getElem J,List.getD_eq_getElem?_getD,List.getElem?_eq_getElem k] at this)
  have:=S Q c
  rwa[decide_eq_true ‹t=u›] at this
theorem falseTerm_spec (i:∀w' v,Ext w w'→TermR (fun b=>w.heap.size≤b) w' v M.flsT→K v w'):vcall PP jK #[] w K:=by
 apply zR0
 refine zz zO fun b1 B k d m g=>?_
 simp only[push_cast]
 refine js0 (J7 (o:=24) (F:=fun _=>False)) fun A a c n u=>?_
 simp only[push_cast]
 have l:TmR (fun b=>b≠b1∧w.heap.size≤b) A _ M.flsT:=(TmR.of (t:=M.flsT) u).weaken fun z r _=>by
  rcases r with h|h
  ·exact h.elim
  ·exact⟨by omega,by omega⟩
 refine jw (g.ext c) rfl l (fun x p=>p.1) fun C f s e=>?_
 exact i _ _ (Ext.then (d.trans c) f fun y q=>by subst q;omega) (e.weaken fun b j _=>j.2)
theorem constant_spec {s n:Int} (f:∀w' v,Ext w w'→TermR (fun b=>w.heap.size≤b) w' v (M.constM s n)→K v w'):vcall PP xm #[.int .i64 s,.int .i64 n] w K:=by
 apply yK0
 refine zz zO fun b1 p r e t l=>?_
 unfold M.constM at f
 simp only[push_cast]
 refine zh (fun a=>?_) (fun a=>?_)
 ·rw[if_pos a] at f
  refine jw l rfl (jp0 20 s n _:TmR (fun _=>False) p _ _) (fun x k=>k.elim) fun q d i c=>?_
  exact f _ _ (Ext.then e d fun y h=>by subst h;omega) (c.weaken fun b j _=>j.elim)
 ·rw[if_neg a] at f
  refine zh (fun b=>?_) (fun b=>?_)
  ·rw[if_pos b] at f
   refine jw l rfl (jp0 24 0 0 _:TmR (fun _=>False) p _ _) (fun x k=>k.elim) fun q d i c=>?_
   exact f _ _ (Ext.then e d fun y h=>by subst h;omega) (c.weaken fun b j _=>j.elim)
  ·rw[if_neg b] at f
   refine falseTerm_spec fun u v g o=>?_
   obtain⟨cs,rfl,m⟩:=o.cells
   refine jw (l.ext g) rfl m (fun x k=>by omega) fun q d i c=>?_
   exact f _ _ (Ext.then (e.trans g) d fun y h=>by subst h;omega) (c.weaken fun b j _=>by have:=e.size;omega)
theorem Yt0 {t:M.Tm} (h:t.op=20):M.fixedM t=if t.ks=[]∧t.s=M.nada∧M.vok t.a t.b=true then some t.b else none:=by
 unfold M.fixedM
 rw[if_neg (fun e=>by rw[e] at h;exact absurd h (by decide)),if_neg (fun e=>by rw[e] at h;exact absurd h (by decide))]
 by_cases c:t.ks=[]∧t.s=M.nada∧M.vok t.a t.b=true
 ·rw[if_pos c,if_pos ⟨h,c⟩]
 ·rw[if_neg c,if_neg (fun x=>c x.2)]
theorem nil_len {ks:List M.Tm}:((ks.length:Int)=0)↔ks=[]:=by
 rw[←List.length_eq_zero_iff];omega
theorem V3 {v:Value} {t:M.Tm} (O:TermR F w v t) (U:∀w',Ext w w'→K (.tuple #[.int .i64 ((M.fixedM t).getD 0),.bool (M.fixedM t).isSome]) w'):vcall PP jM #[v] w K:=by
 apply zT0
 have A:=O
 obtain⟨kv,rfl,H⟩:=O
 refine zy fun b1 P V q W m=>?_
 have out:∀w' o,Ext w w'→M.fixedM t=o→K (.tuple #[.int .i64 (o.getD 0),.bool o.isSome]) w':=fun w' o h e=>by rw[←e];exact U w' h
 have X:(M.truT).s=M.nada∧(M.flsT).s=M.nada:=⟨rfl,rfl⟩
 simp(disch:=(simp only[push_cast];done)) only[push_cast,m.ld3]
 refine zh (fun a=>?_) (fun a=>?_)
 ·refine out P none q ?_
  have I:t.s≠M.nada:=a
  unfold M.fixedM
  rw[if_neg (fun e=>I (by rw[e];rfl)),if_neg (fun e=>I (by rw[e];rfl)),if_neg (fun e=>I e.2.2.1)]
 have hs:t.s=M.nada:=by
  by_cases h:t.s=M.nada
  ·exact h
  ·exact absurd h a
 refine zI (fun u w'=> ∃b:Bool,u=[.bool b]∧Ext P w'∧(b=true↔t.op=20∧t.ks=[]∧M.vok t.a t.b=true)) (fun C D=>?_) ?_
 ·simp(disch:=(simp only[push_cast];done)) only[push_cast,m.ld0]
  refine zh (fun c=>?_) (fun c=>?_)
  ·simp(disch:=(simp only[push_cast];done)) only[push_cast,m.ld4,H.len]
   refine zh (fun d=>?_) (fun d=>?_)
   ·try simp(disch:=(simp only[push_cast];done)) only[push_cast,m.ld1,m.ld2]
    refine VecOk_spec fun Q i=>?_
    exact D _ _ ⟨_,rfl,i,⟨fun h=>⟨c,nil_len.1 d,h⟩,fun h=>h.2.2⟩⟩
   ·exact D _ _ ⟨false,rfl,Same.refl _ _,⟨fun h=>(by cases h),fun h=>absurd (nil_len.2 h.2.1) d⟩⟩
  ·exact D _ _ ⟨false,rfl,Same.refl _ _,⟨fun h=>(by cases h),fun h=>absurd h.1 c⟩⟩
 rintro u g Q ⟨b,rfl,i,N⟩
 have J:=m.ext i
 have j:=q.trans i
 simp only[push_cast]
 refine y3 (fun c=>?_) (fun c=>?_)
 ·obtain⟨S,T,c3⟩:=N.1 c
  simp(disch:=(simp only[push_cast];done)) only[push_cast,J.ld2]
  refine out Q (some t.b) j ?_
  rw[Yt0 S,if_pos ⟨T,hs,c3⟩]
 have z: ¬(t.op=20∧t.ks=[]∧t.s=M.nada∧M.vok t.a t.b=true):=fun h=>by
  have:=N.2 ⟨h.1,h.2.1,h.2.2.2⟩
  rw[c] at this;cases this
 rw[J.ldAgg (t:=z7) zu]
 try simp only[push_cast]
 refine TermSame_spec t (A.ext j) (J7 (o:=24) (F:=fun _=>False)) fun Z r=>?_
 have n:=j.trans r
 refine zh (fun d=>?_) (fun d=>?_)
 ·exact out Z (some 1) n (if_pos d)
 have B: ¬t=M.truT:=d
 refine zr fun w4 y _=>?_
 have k:=n.trans y
 have L:=J.ext (r.trans y)
 simp(disch:=(simp only[push_cast];done)) only[push_cast,L.ld0,true_and]
 refine zh (fun e=>?_) (fun e=>?_)
 ·simp(disch:=(simp only[push_cast];done)) only[push_cast,L.ldAgg (t:=z7) zu,true_and]
  refine falseTerm_spec fun w5 fv l G=>?_
  have Y:=L.ext l
  simp(disch:=(simp only[push_cast];done)) only[push_cast,Y.ldAgg (t:=z7) zu,true_and,and_self]
  refine TermSame_spec t (A.ext (k.trans l)) G fun R E=>?_
  have p:=k.trans (l.trans E)
  refine zh (fun f=>?_) (fun f=>?_)
  ·refine out R (some 0) p ?_
   unfold M.fixedM
   rw[if_neg B,if_pos f]
  ·refine out R none p ?_
   unfold M.fixedM
   rw[if_neg B,if_neg f,if_neg z]
 ·refine out w4 none k ?_
  unfold M.fixedM
  rw[if_neg B,if_neg (fun x=>e (by rw[x];rfl)),if_neg z]
theorem ZM {v:Value} {t:M.Tm} {n:Int} (i:TermR F w v t) (f:∀w',Ext w w'→K (.bool (M.isM t n)) w'):vcall PP qj #[v,.int .i64 n] w K:=by
 apply YB0
 obtain⟨cs,rfl,a⟩:=i.cells
 refine zy fun b1 k g b h d=>?_
 rw[d.ldAgg (t:=z7) (by rw[yp a];exact zu)]
 refine V3 (a.ext b).term fun j c=>?_
 have:=f j (b.trans c)
 unfold M.isM at this
 simp only[push_cast]
 cases e:M.fixedM t with
 |none=>rw[e] at this;exact this
 |some m=>
  rw[e] at this
  simp only[Option.some.injEq] at this
  exact this
theorem among_spec {v av:Value} {t:M.Tm} {xs:List Int} (z:TermR F w v t) (n:Ints G w av xs) (y:xs.length≤100) (m:∀w',Ext w w'→K (.bool (decide (t.op∈xs))) w'):vcall PP ji #[v,av] w K:=by
 apply jY0
 obtain⟨kv,rfl,s⟩:=z
 refine zy fun b1 A r f x p=>?_
 simp(disch:=(simp only[push_cast];done)) only[push_cast,p.ld0]
 apply YU
 apply QB
 have l:=n.ext f
 simp(disch:=(simp only[push_cast];done)) only[push_cast,l.len]
 refine vloop_up xs.length (fun i u w'=>u=[.int .i64 i]∧Ext w w'∧∀j,j<i→t.op≠xs.getD j 0) ⟨rfl,f,fun j k=>absurd k (by omega)⟩ ?_
 rintro i _ _ o C hi ⟨rfl,c,d⟩ q
 have g:=n.ext c
 simp only[push_cast]
 refine zh (fun a=>?_) (fun a=>?_)
 ·simp(disch:=first|(simp only[push_cast];done)|omega) only[push_cast,g.iaddr,g.load]
  refine zh (fun b=>?_) (fun b=>?_)
  ·have hm:t.op∈xs:=by rw[b];exact M.getD_mem (by omega) _
   have:=m o c
   rw[decide_eq_true hm] at this
   try simp only[push_cast]
   rw[decide_eq_true (by omega)]
   exact this
  ·rw[inc64' (by omega)]
   refine q (by omega) _ _ ⟨rfl,c,fun j k=>?_⟩
   by_cases e:j<i
   ·exact d j e
   ·have:j=i:=by omega
    subst this;exact b
 ·have hm: ¬t.op∈xs:=fun h=>by
   obtain⟨j,k,e⟩:=List.getElem_of_mem h
   have:=d j (by omega)
   rw[List.getD_eq_getElem?_getD,List.getElem?_eq_getElem k] at this
   exact this e.symm
  have:=m o c
  rw[decide_eq_false hm] at this
  exact this
theorem chosen_spec {v:Value} {t:M.Tm} {b:Bool} (u:TermR F w v t) (k:∀w' v',Ext w w'→TermR F w' v' t→K (.tuple #[v',.bool b]) w'):vcall PP xn #[.bool b,v] w K:=by
 apply j20
 obtain⟨cs,rfl,a⟩:=u.cells
 refine zy fun b1 E m c q i=>?_
 refine zz zO fun b2 C n d s j=>?_
 rw[(i.ext d).ldAgg (t:=z7) (by rw[yp a];exact zu)]
 have g:=c.trans d
 have o:TmR (fun b=>F b∧b<w.heap.size) C cs t:=(a.weaken (F':=fun b=>F b∧b<w.heap.size) fun b h p=>⟨h,p⟩).ext g
 have A:=c.size
 refine jw (K:=fun r w=>K (.tuple #[r,.bool b]) w) j rfl o (fun x D=>by omega) fun G f B e=>?_
 exact k _ _ (Ext.then g f fun y z=>by subst z;omega) (e.weaken fun b l _=>l.1)
end Go.Proofs.YtaekfnbnhjgboaaGreatDoor
end
section
namespace Go.Proofs.YtaekfnbnhjgboaaGreatDoor
open Go Go.Vc Go.Proofs
variable {w:World} {K:Value→World→Prop} {F F' D G:Nat→Prop}
theorem lv0 {b:Nat} {x:Value} {t0 t:TypeId} (h:Blk w b [x] t0) (a:oneB PP t=true):vlv PP t (.pointer (some ⟨b,0,none⟩)) w K=K x w:=Q10 (by rw[h.ld0 a];exact⟨rfl,rfl⟩)
def qj0 (ds:List M.Dcl):Int:=if M.declOk ds=true then 2^(M.bits ds).toNat else 0
theorem k60 {ds:List M.Dcl}:∀{i:Nat},i<ds.length→M.bits (ds.take (i+1))=M.bits (ds.take i)+(ds.getD i (M.nada,0)).2:=fun{i} h=>by
 unfold M.bits
 rw[List.take_succ_eq_append_getElem h,List.map_append,List.sum_append,List.getD_eq_getElem?_getD,List.getElem?_eq_getElem h]
 simp
theorem bits_all {ds:List M.Dcl} (h:M.declOk ds=true) (i:Nat):0≤M.bits (ds.take i)∧M.bits (ds.take i)≤M.bits ds∧M.bits ds≤8:=by
 have hw:=fun i (hi:i<ds.length)=>M.dcl_wide h hi
 have c:=(M.decl_iff.1 h).2.2
 have pos:∀d,d∈ds→0≤d.2:=fun d a=>by
  obtain⟨j,b,rfl⟩:=List.getElem_of_mem a
  have:=hw j b
  rw[List.getD_eq_getElem?_getD,List.getElem?_eq_getElem b] at this
  simp at this;omega
 refine⟨M.bits_nonneg fun d a=>pos d (List.mem_of_mem_take a),?_,c⟩
 have e:M.bits ds=M.bits (ds.take i)+M.bits (ds.drop i):=by
  unfold M.bits
  rw[←List.sum_append,←List.map_append,List.take_append_drop]
 have:=M.bits_nonneg (ds:=ds.drop i) fun d a=>pos d (List.mem_of_mem_drop a)
 omega
theorem pow8 {b:Int} (a:0≤b) (c:b≤8):1≤(2:Int)^b.toNat∧(2:Int)^b.toNat≤256:=by
 obtain⟨n,rfl⟩:∃n:Nat,b=n:=⟨b.toNat,by omega⟩
 have:n≤8:=by omega
 have e:n=0∨n=1∨n=2∨n=3∨n=4∨n=5∨n=6∨n=7∨n=8:=by omega
 rcases e with rfl|rfl|rfl|rfl|rfl|rfl|rfl|rfl|rfl<;>decide
theorem shl1 {c:Bool} {t:TypeId} {yk:IntKind} {y:Int} (a:0≤y) (b:y≤8):zq PP .shl t c (.int .i64 1) (.int yk y) w K=K (.int .i64 (2^y.toNat)) w:=by
 rw[zV0 a]
 have d:=pow8 a b
 have e:min y.toNat IntKind.i64.bits=y.toNat:=Nat.min_eq_left (by show y.toNat≤64;omega)
 rw[e,Int.one_mul,zE (by omega) (by omega)]
theorem EnvMany_spec {v:Value} {ds:List M.Dcl} (g:DclsR F w v ds) (e:∀w',Ext w w'→K (.int .i64 (qj0 ds)) w'):vcall PP Zn #[v] w K:=by
 apply xH0
 refine DeclOk_spec g fun t d=>?_
 simp only[push_cast]
 unfold qj0 at e
 have h:=g.ext d
 refine y3 (fun a=>?_) (fun a=>?_)
 ·rw[if_neg (by simpa using a)] at e
  exact e _ d
 have b:M.declOk ds=true:=by simpa using a
 rw[if_pos b] at e
 have q:=g.small
 simp(disch:=(simp only[push_cast];done)) only[push_cast,h.len]
 refine vloop_up ds.length (fun i u w'=>u=[.int .i64 (M.bits (ds.take i)),.int .i64 i]∧Ext w w') ⟨rfl,d⟩ ?_
 rintro i _ _ x C hi ⟨rfl,c⟩ n
 have f:=g.ext c
 simp only[push_cast]
 refine zh (fun a=>?_) (fun a=>?_)
 ·simp(disch:=first|(simp only[push_cast];done)|omega) only[push_cast,f.iaddr,f.load]
  refine zz xU fun b3 z o j p l=>?_
  refine stDecl l fun A k s m=>?_
  simp(disch:=(simp only[push_cast];done)) only[push_cast,m.ld1]
  have b1:=bits_all b i
  have b2:=bits_all b (i+1)
  rw[k60 (by omega)] at b2
  rw[zE (by omega) (by omega),inc64' (by omega)]
  exact n (by omega) _ _ ⟨by rw[k60 (by omega)],Ext.then (c.trans j) k fun y r=>by subst r;have:=c.size;omega⟩
 ·have:i=ds.length:=by omega
  subst this
  rw[List.take_length]
  have b1:=bits_all b 0
  have b2:=bits_all b ds.length
  rw[List.take_length] at b2
  rw[shl1 b2.1 b2.2.2]
  exact e _ c
def YC0 (env:List Int) (i n:Nat):List Int:=env.take i++(env.getD i 0+1)::List.replicate n 0
theorem set_cut {env:List Int} {i m:Nat} {x:Int} (hi:i<env.length) (hm:m=m):(env.take (i+1)++List.replicate m 0).set i x=env.take i++x::List.replicate m 0:=by
 rw[List.set_append_left _ _ (by rw[List.length_take];omega),List.take_succ_eq_append_getElem hi,List.set_append_right _ _ (by rw[List.length_take];omega)]
 have:i-(env.take i).length=0:=by rw[List.length_take];omega
 rw[this,List.append_assoc]
 rfl
theorem bump_zero {env:List Int} {i n:Nat} (hi:i<env.length) (a:i<n):(YC0 env i (n-i-1)).set i 0=env.take i++List.replicate (n-i) 0:=by
 unfold YC0
 rw[List.set_append_right _ _ (by rw[List.length_take];omega)]
 have:i-(env.take i).length=0:=by rw[List.length_take];omega
 rw[this,show n-i=(n-i-1)+1 by omega,List.replicate_succ]
 rfl
theorem kb0 {α:Type} {l r:List α} {i:Nat} {e:α} (h:l.length≤i):(l++r).getD i e=r.getD (i-l.length) e:=by
 rw[List.getD_eq_getElem?_getD,List.getElem?_append_right h,←List.getD_eq_getElem?_getD]
theorem bump_ok {ds:List M.Dcl} {env:List Int} {i:Nat} (h:M.envOk ds env=true) (hi:i<ds.length) (k:env.getD i 0+1<2^((ds.getD i (M.nada,0)).2).toNat):M.envOk ds (M.bump env i)=true:=by
 obtain⟨c,m,d⟩:=M.env_ok h
 have g:(M.bump env i).length=ds.length:=by unfold M.bump;rw[List.length_append,List.length_take,List.length_cons,List.length_replicate];omega
 unfold M.envOk
 rw[c,g]
 simp only[Bool.true_and,decide_true,List.all_eq_true,List.mem_range]
 intro q a
 have hw:=M.dcl_wide c a
 obtain⟨_,_,n,_⟩:=M.vok_iff.1 (d q a)
 unfold M.bump
 rcases Nat.lt_trichotomy q i with e|e|e
 ·rw[M.app_getD (by rw[List.length_take];omega),M.take_getD e]
  exact d q a
 ·subst e
  rw[kb0 (l:=env.take q) (by rw[List.length_take];omega)]
  have:q-(env.take q).length=0:=by rw[List.length_take];omega
  rw[this]
  exact M.vok_iff.2 ⟨hw.1,hw.2,by show 0≤env.getD q 0+1;omega,k⟩
 ·rw[kb0 (l:=env.take i) (by rw[List.length_take];omega)]
  obtain⟨r,j⟩:∃r,q-(env.take i).length=r+1:=⟨q-(env.take i).length-1,by rw[List.length_take];omega⟩
  rw[j,List.getD_cons_succ]
  have f:(List.replicate (env.length-i-1) (0:Int)).getD r 0=0:=by
   rw[List.getD_eq_getElem?_getD,List.getElem?_replicate];split<;>rfl
  rw[f]
  have:=pow8 (b:=(ds.getD q (M.nada,0)).2) (by omega) (by omega)
  exact M.vok_iff.2 ⟨hw.1,hw.2,Int.le_refl _,by omega⟩
theorem environments_1_spec {yv:Value} {bd:Nat} {dv:Value} {t0:TypeId} {ds:List M.Dcl} {k:Int} {S:Nat→Prop} {R:Int→World→Prop} {Z:World→Prop} (r:M.declOk ds=true) (aj:0≤k) (hk:k<2^(M.bits ds).toNat)
  (G:Blk w bd [dv] t0) (U:DclsR F w dv ds) (ab: ¬S bd) (aa:∀b,F b→¬S b) (ac:∀b,S b→b<w.heap.size) (h0:R 0 w)
  (hR:∀j w' w'',R j w'→Same (fun b=>w.heap.size≤b) w' w''→R j w'')
  (hy:∀(j:Int) (w':World) (v:Value) (env:List Int) (K':Value→World→Prop),0≤j→j≤k→R j w'→OwnI PP zj w' v env→(∀b,v.ownBlock=some b→w.heap.size≤b)→M.envOk ds env=true→M.rankE ds env=j→
   (j<k→∀w'',R (j+1) w''→Same S w' w''→K' (.bool true) w'')→(j=k→∀w'',Z w''→K' (.bool false) w'')→vcallv PP yv #[v] w' K')
  (hZ:∀w',Z w'→K (.tuple #[]) w'):vcall PP xK #[yv,.pointer (some ⟨bd,0,none⟩)] w K:=by
 apply JI
 have az:=U.small
 have aw:=(M.decl_iff.1 r).1
 rw[G.ld0 zc0]
 simp(disch:=(simp only[push_cast];done)) only[push_cast,U.len]
 refine vmkS_own (z:= .int .i64 0) Zu (by kernel_rfl) ZO rfl (by omega) (by omega) fun v E hv o c=>?_
 have a0:OwnI PP zj E v (List.replicate ds.length 0):=by unfold OwnI;rw[List.map_replicate];exact hv
 have av:∀b,v.ownBlock=some b→b<E.heap.size:=fun b G=>a0.lt G
 have b4:=o.size
 have t:∀d,d∈ds→0≤d.2:=fun d U=>by
  obtain⟨j,hj,rfl⟩:=List.getElem_of_mem U
  have:=M.dcl_wide r hj
  rw[List.getD_eq_getElem?_getD,List.getElem?_eq_getElem hj] at this
  simp at this;omega
 have I:M.envOk ds (List.replicate ds.length 0)=true:=by
  unfold M.envOk
  rw[r,List.length_replicate]
  simp only[Bool.true_and,decide_true,List.all_eq_true,List.mem_range]
  intro i hi
  have:=M.dcl_wide r hi
  have e:(List.replicate ds.length (0:Int)).getD i 0=0:=by simp[List.getD_eq_getElem?_getD,hi]
  rw[e]
  refine M.vok_iff.2 ⟨this.1,this.2,Int.le_refl _,?_⟩
  have:=pow8 (b:=(ds.getD i (M.nada,0)).2) (by omega) (by omega)
  omega
 let S':Nat→Prop:=fun b=>S b∨v.ownBlock=some b
 refine YX (fun n u w'=> ∃(j:Int) (env:List Int),u=[]∧n=(k-j).toNat∧0≤j∧j≤k∧R j w'∧OwnI PP zj w' v env∧M.envOk ds env=true∧M.rankE ds env=j∧Same S' E w') (k-0).toNat
  ⟨0,_,rfl,rfl,Int.le_refl _,aj,hR 0 w E h0 (o.mono fun _ _ h=>h.elim),a0,I,M.rank_zero _ _,Same.refl _ _⟩ ?_
 rintro _ _ _ w2 C ⟨j,env,rfl,rfl,ah,ai,a9,a1,g,l,ao⟩ hC
 have T: ¬S' bd:=fun h=>h.elim ab fun h=>by have:=c _ h;have:=G.lt;omega
 have Q:∀b,F b→b<w.heap.size→¬S' b:=fun b hF ak h=>h.elim (aa b hF) fun h=>by have:=c _ h;omega
 have dcl:∀w',Same S' E w'→Blk w' bd [dv] t0∧DclsR (fun b=>F b∧b<w.heap.size) w' dv ds:=fun w' h=>
  ⟨(G.ext o).same h T,((U.weaken (F':=fun b=>F b∧b<w.heap.size) fun b h1 P=>⟨h1,P⟩).ext o).same h fun b hF _=>Q b hF.1 hF.2⟩
 obtain⟨_,hlen,O⟩:=M.env_ok g
 refine hy j w2 v env _ ah ai a9 a1 c g l (fun ak w3 a7 X=>?_) (fun _ w3 hz=>?_)
 ·simp only[push_cast,Bool.not_true]
  have x:Same S' E w3:=ao.trans (X.mono fun _ _ h=> .inl h)
  have am:∀b,v.ownBlock=some b→¬S b:=fun b G h=>by have:=ac b h;have:=c b G;omega
  have aq:=a1.same X am
  obtain⟨ad,ag⟩:=dcl w3 x
  rw[ad.ld0 zc0]
  simp(disch:=(simp only[push_cast];done)) only[push_cast,ag.len]
  rw[show IntKind.i64.wrap ((ds.length:Int)-1)=(ds.length:Int)-1 from zE (by omega) (by omega)]
  refine YX (fun n u w'=> ∃cur:List Int,u=[.int .i64 ((n:Int)-1)]∧n≤ds.length∧cur=env.take n++List.replicate (ds.length-n) 0∧M.Tops ds env n∧OwnI PP zj w' v cur∧Same (fun b=>v.ownBlock=some b) w3 w') ds.length
   ⟨env,rfl,Nat.le_refl _,by rw[Nat.sub_self,←hlen,List.take_length];simp,fun i h1 P=>absurd P (by omega),aq,Same.refl _ _⟩ ?_
  rintro n _ _ w4 C1 ⟨cur,rfl,hn,f,m,a4,L⟩ a6
  have W:Same S' E w4:=x.trans (L.mono fun _ _ h=> .inr h)
  have a8:R (j+1) w4:=hR _ _ _ a7 (L.mono fun b _ h=>c b h)
  have af:cur.length=ds.length:=by rw[f,List.length_append,List.length_take,List.length_replicate];omega
  simp only[push_cast]
  refine zh (fun a=>?_) (fun a=>?_)
  ·obtain⟨i,rfl⟩:∃i,n=i+1:=⟨n-1,by omega⟩
   have J:i<ds.length:=by omega
   have ei:((i+1:Nat):Int)-1=i:=by omega
   have H:cur.getD i 0=env.getD i 0:=by
    rw[f,M.app_getD (by rw[List.length_take];omega),M.take_getD (by omega)]
   obtain⟨b0,b1,b2,b3⟩:=M.vok_iff.1 (O i J)
   have ay:=pow8 (b:=(ds.getD i (M.nada,0)).2) (by omega) (by omega)
   rw[ei]
   have a5:=a4.ints
   simp(disch:=first|(simp only[push_cast];done)|omega) only[push_cast,a5.iaddr,a5.load,H]
   rw[zE (by omega) (by omega)]
   refine a4.st km (by omega) fun w5 ar N b5=>?_
   refine zr fun w6 p _=>?_
   have s:=ar.ext p
   have A:Same S' E w6:=W.trans ((N.mono fun _ _ h=> .inr h).trans (Same.of_ext p))
   have Y:Same (fun b=>v.ownBlock=some b) w3 w6:=L.trans (N.trans (Same.of_ext p))
   obtain⟨ae,V⟩:=dcl w6 A
   have D:=s.ints
   have ax:i<(cur.set i (env.getD i 0+1)).length:=by rw[List.length_set];omega
   simp(disch:=first|(simp only[push_cast];done)|(rw[List.length_set];omega)|omega) only[push_cast,D.iaddr,D.load,ae.ld0,V.iaddr,V.load1,true_and]
   rw[shl1 (y:=(ds.getD i (M.nada,0)).2) (by omega) (by omega)]
   rw[XC0 (by omega)]
   simp only[push_cast,true_and,if_true]
   have B:cur.set i (env.getD i 0+1)=YC0 env i (ds.length-i-1):=by
    rw[f];exact set_cut (by omega) (by omega)
   refine zh (fun a2=>?_) (fun a2=>?_)
   ·refine zh (fun a3=>by omega) (fun _=>?_)
    have eb:YC0 env i (ds.length-i-1)=M.bump env i:=by unfold M.bump YC0;rw[hlen]
    rw[B,eb] at s
    have an:=M.rank_bump (ds:=ds) (env:=env) (i:=i) hlen t J m
    refine hC (k-(j+1)).toNat _ _ (by omega) ⟨j+1,_,rfl,rfl,by omega,by omega,hR _ _ _ a8 ((N.trans (Same.of_ext p)).mono fun b _ h=>c b h),s,bump_ok g J a2,by rw[an,l],A⟩
   ·refine s.st km (by omega) fun w7 au ap b6=>?_
    rw[show IntKind.i64.wrap ((i:Int)-1)=(i:Int)-1 from zE (by omega) (by omega)]
    refine a6 i _ _ (by omega) ⟨_,rfl,by omega,?_,fun q h1 P=>?_,au,Y.trans ap⟩
    ·rw[B];exact bump_zero (by omega) (by omega)
    ·by_cases e:q=i
     ·subst e;omega
     ·exact m q (by omega) P
  ·exfalso
   have al:n=0:=by omega
   subst al
   have:=M.rank_top hlen t m
   omega
 ·simp only[push_cast,Bool.not_false]
  exact hZ _ hz
theorem _root_.Go.Vc.Same.trans' {a b c:Nat} {w0 d e f:World} (g:Same (· =a) w0 d) (i:Same (· =b) d e) (j:Same (· =c) e f):Same (fun x=>x=a∨x=b∨x=c) w0 f:=
 (g.mono fun _ _ h=> .inl h).trans ((i.mono fun _ _ h=> .inr (.inl h)).trans (j.mono fun _ _ h=> .inr (.inr h)))
theorem Yg {S T:Nat→Prop} {w0 g i:World} (a:Same S w0 g) (c:Same T g i) (h:∀b,b<w0.heap.size→T b→S b):Same S w0 i:=
 ⟨c.os.trans a.os,c.tape.trans a.tape,c.output.trans a.output,Nat.le_trans a.size c.size,fun b d f=>(c.block b (Nat.lt_of_lt_of_le d a.size) fun e=>f (h b d e)).trans (a.block b d f)⟩
theorem EnvAll_spec {dv:Value} {ds:List M.Dcl} {k:Int} (hd:DclsR F w dv ds) (B:M.declOk ds=true) (af:0≤k) (hk:k<2^(M.bits ds).toNat)
  (hK:∀w' v env,Ext w w'→OwnI PP zj w' v env→(∀b,v.ownBlock=some b→w.heap.size≤b)→M.envOk ds env=true→M.rankE ds env=k→K (.tuple #[v,.bool true]) w'):vcall PP Yd #[dv,.int .i64 k] w K:=by
 apply j80;unfold QG
 have ac:=bits_all B 0
 have hp:=pow8 (b:=M.bits ds) (by omega) ac.2.2
 refine Zg fun b1 w1 ap a1 az V=>?_
 replace V:Blk w1 b1 [.int .i64 k] zd:=V
 refine XH ZG0 fun b2 w2 aq ad b0 W=>?_
 replace W:Blk w2 b2 [.slice none 0 0] zj:=W
 refine XH ZF0 fun b3 w3 ar a2 b4 h3=>?_
 replace h3:Blk w3 b3 [.bool false] xB:=h3
 refine zr fun w4 N _=>?_
 have U:=(ad.trans a2).trans N
 have X:=a1.trans U
 have q1:=V.ext U
 simp(disch:=(simp only[push_cast];done)) only[push_cast,q1.ld0,true_and]
 refine zh (fun a=>by omega) (fun _=>?_)
 refine EnvMany_spec (hd.ext X) fun w5 u=>?_
 have q5:=q1.ext u
 have ag:qj0 ds=2^(M.bits ds).toNat:=by unfold qj0;rw[if_pos B]
 simp(disch:=(simp only[push_cast];done)) only[push_cast,q5.ld0,true_and,and_self]
 refine zh (fun a=>by omega) (fun _=>?_)
 apply W0
 obtain⟨da,dc,rfl,_⟩:=hd.shape
 rw[List.length_map] at*
 refine Zg fun b6 w6 au x b5 h6=>?_
 replace h6:Blk w6 b6 [.slice da ds.length dc] zw:=h6
 simp only[push_cast]
 have ab:=X.trans (u.trans x)
 refine⟨xK,⟨[.pointer (some ⟨b6,0,none⟩)]⟩,rfl,fun l D p RR hD hl A b7 aa aj ah C=>?_⟩
 have Y:=ab.trans A
 have z1:=a1.size
 have z4:=N.size
 have z5:=u.size
 have z6:=x.size
 have G:Ext w3 p:=N.trans (u.trans (x.trans A))
 have p1:Blk p b1 [.int .i64 k] zd:=q5.ext (x.trans A)
 have p2:Blk p b2 [.slice none 0 0] zj:=(W.ext a2).ext G
 have p3:Blk p b3 [.bool false] xB:=h3.ext G
 have z37:=G.size
 show vcall PP xK #[.func (.yield l) #[] #[],.pointer (some ⟨b6,0,none⟩)] p _
 let S:Nat→Prop:=fun b=>b=l∨b=b1∨b=b2∨b=b3
 have L:∀{st pe} {T:Nat→Prop} {w' w'':World},RR st pe w'→Same T w' w''→p.heap.size≤w'.heap.size→¬T l→RR st pe w'':=fun h hT hz hn=>aj _ _ _ _ h (hT.block l (by omega) hn)
 have m:∀{T:Nat→Prop} {w' w'':World},w'.heap[D]?=some (.deferred (some []))→Same T w' w''→p.heap.size≤w'.heap.size→¬T D→w''.heap[D]?=some (.deferred (some [])):=fun h hT hz hn=>(hT.block D (by omega) hn).trans h
 refine environments_1_spec (F:=fun b=>F b∧b<w.heap.size) (S:=S) (ds:=ds) (k:=k)
  (R:=fun j w'=>RR .ready none w'∧Blk w' b1 [.int .i64 (k-j)] zd∧Blk w' b2 [.slice none 0 0] zj∧Blk w' b3 [.bool false] xB∧w'.heap[D]?=some (.deferred (some []))∧Same S p w')
  (Z:=fun w'=>RR .done (some .ret) w'∧w'.heap[D]?=some (.deferred (some []))∧Same S p w'∧∃v env,Blk w' b2 [v] zj∧Blk w' b3 [.bool true] xB∧OwnI PP zj w' v env∧(∀b,v.ownBlock=some b→p.heap.size≤b)∧M.envOk ds env=true∧M.rankE ds env=k)
  B af hk (h6.ext A) ((hd.weaken fun b V W=>⟨V,W⟩).ext Y) (fun h=>by rcases h with h|h|h|h<;>omega) (fun b q h=>by rcases h with h|h|h|h<;>omega) (fun b h=>by rcases h with h|h|h|h<;>omega)
  ⟨ah,by rw[Int.sub_zero];exact p1,p2,p3,aa,Same.refl _ _⟩ ?_ ?_ ?_
 ·rintro j w8 w9 ⟨g1,g2,g3,g4,g5,g6⟩ hs
  have z:=g6.size
  exact⟨L g1 hs z (by omega),g2.same hs (by omega),g3.same hs (by omega),g4.same hs (by omega),m g5 hs z (by omega),Yg g6 hs fun b q h=>by omega⟩
 ·rintro j w8 v env K' ay ax ⟨g1,g2,g3,g4,g5,g6⟩ hv ak E ai hT hZ
  have Q:=g6.size
  refine C [v] w8 K' rfl g1 ⟨g1,fun w9 c al a0=>?_⟩
  have k1:=g2.same c (by omega)
  have k2:=g3.same c (by omega)
  have k3:=g4.same c (by omega)
  have k5:=m g5 c Q (by omega)
  have k6:Same S p w9:=Yg g6 c fun b _ h=> .inl h
  simp(disch:=(simp only[push_cast];done)) only[push_cast,k1.ld0]
  refine zh (fun a=>?_) (fun a=>?_)
  ·have ae:=(hv.same c fun b q e=>by have:=ak b q;omega).ints
   have aw:=(M.env_ok E).2.1
   have av:=(M.decl_iff.1 B).1
   refine Clone_Lint ae (by omega) fun t v2 o a7 a3=>?_
   have hc:v2.cells= #[v2]∧v2.oneCell'=true:=by
    obtain⟨a',c',e,_⟩:=a7.ints.shape
    subst e;exact⟨rfl,rfl⟩
   have b8:=o.size
   refine(k2.ext o).st (i:=0) hc.1 hc.2 ZH0 rfl fun O r a9 I=>?_
   replace I:Blk O b2 [v2] zj:=I
   refine((k3.ext o).same r (by omega)).st (i:=0) rfl rfl XZ0 rfl fun P s an J=>?_
   replace J:Blk P b3 [.bool true] xB:=J
   have n:Same (fun b=>b=b2∨b=b3) w9 P:=(Same.of_ext o).trans ((r.mono fun _ _ h=> .inl h).trans (s.mono fun _ _ h=> .inr h))
   have k7:Same S p P:=Yg k6 n fun b _ h=> .inr (.inr h)
   refine⟨L a0 n (by omega) (by omega),fun am g ao a5=>hZ (by omega) am ⟨a5,m (m k5 n (by omega) (by omega)) g (by omega) (by omega),Yg k7 g fun b _ h=> .inl h,v2,env,(I.same s (by omega)).same g (by omega),J.same g (by omega),?_,fun b q=>by have:=a3 b q;omega,E,by omega⟩⟩
   exact a7.same (r.trans' s g) fun b q e=>by have:=a3 b q;omega
  ·try simp(disch:=(simp only[push_cast];done)) only[push_cast,k1.ld0]
   rw[zE (by omega) (by omega)]
   refine k1.st (i:=0) rfl rfl km rfl fun t f a8 H=>?_
   replace H:Blk t b1 [.int .i64 (k-(j+1))] zd:=by rw[show k-(j+1)=k-j-1 by omega];exact H
   refine⟨L a0 f (by omega) (by omega),fun O d a9 a4=>hT (by omega) O ⟨a4,H.same d (by omega),(k2.same f (by omega)).same d (by omega),(k3.same f (by omega)).same d (by omega),m (m k5 f (by omega) (by omega)) d (by omega) (by omega),?_⟩ ?_⟩
   ·exact Yg (Yg k6 f fun b _ h=> .inr (.inl h)) d fun b _ h=> .inl h
   ·exact(c.mono fun b _ h=> .inl h).trans ((f.mono fun b _ h=> .inr (.inl h)).trans (d.mono fun b _ h=> .inl h))
 ·rintro w8 ⟨g1,g2,g3,v,env,g4,g5,g6,g7,g8,g9⟩
  have Q:=g3.size
  refine⟨.done,some .ret,by decide,g1,fun w9 c al=>?_⟩
  refine⟨m g2 c Q (by omega),fun t a6 a8=>?_⟩
  have hs:Same (fun b=>b=l∨b=D) w8 t:=(c.mono fun _ _ h=> .inl h).trans (a6.mono fun _ _ h=> .inr h)
  show vlv PP zj (.pointer (some ⟨b2,0,none⟩)) t _
  rw[lv0 (g4.same hs (by omega)) Q80,lv0 (g5.same hs (by omega)) Q70]
  refine hK _ v env (Ext.then (Ext.then Y g3 fun y hy=>by rcases hy with h|h|h|h<;>omega) hs fun y hy=>by omega) (g6.same hs fun b q h=>by have:=g7 b q;omega) (fun b q=>by have:=g7 b q;omega) g8 g9
end Go.Proofs.YtaekfnbnhjgboaaGreatDoor
end
section
namespace Go.M
structure Cnf where
 many:Int
 list:List (List Int)
structure Sat where
 put:List Int
 why:List Int
 learned:List (List Int)
 code:Int
end Go.M
namespace Go.M
end Go.M
namespace Go.M
end Go.M
namespace Go.M
end Go.M
namespace Go.M
end Go.M
namespace Go.M
end Go.M
namespace Go.M
end Go.M
end
section
namespace Go.M
theorem kO0 {α:Type} {a b:List α} {i:Nat} {d:α} (h:a<+:b) (hi:i<a.length):b.getD i d=a.getD i d:=by
 obtain⟨t,rfl⟩:=h
 rw[List.getD_eq_getElem?_getD,List.getElem?_append_left hi,←List.getD_eq_getElem?_getD]
theorem Xe0 {ins:List Bool} {gs:Gs} {i:Nat} (hi:i<ins.length):(valsG (true::ins) gs).getD (i+1) false=ins.getD i false:=by
 rw[kO0 (valsG_pre gs (true::ins)) (by simpa using hi),List.getD_cons_succ]
theorem ZW0 {ins:List Bool} {gs:Gs}:(valsG (true::ins) gs).getD 0 false=true:=by
 rw[kO0 (valsG_pre gs (true::ins)) (by simp)];rfl
end Go.M
end
section
namespace Go.M
variable {ds:List Dcl} {env:List Int}
def numB:List Bool→Int
 |b::bs=>b2i b+2*numB bs
 |[]=>0
theorem num_bits:∀w:Fin 5,∀a:Fin 16,a.1<2^w.1→numB (bitsN w a)=(a.1:Int):=by decide+kernel
theorem num_val {w n:Int} (h:inS w n):numB (K7 w n)=n:=by
 rcases h with⟨rfl,rfl|rfl⟩|h
 ·decide
 ·decide
 ·obtain⟨b,c,d,f⟩:=vok_iff.1 h
  have e:((2^w.toNat:Nat):Int)=2^w.toNat:=by simp
  have a:2^w.toNat≤2^4:=Nat.pow_le_pow_right (by omega) (by omega)
  have:=num_bits ⟨w.toNat,by omega⟩ ⟨n.toNat,by omega⟩ (by show n.toNat<2^w.toNat;omega)
  unfold K7
  rw[if_neg (by omega)]
  simp only at this
  rw[this];omega
theorem Qv0 (ins:List Bool) (F:Gs):Rho (litV (valsG (true::ins) F)):=⟨fun m h=>lit_neg _ h,by
 unfold litV
 rw[if_pos (by decide)]
 exact ZW0⟩
theorem ins_lit (F:Gs):Ins (litV (valsG (true::insM ds env) F)) ds env:=fun i hi=>by
 unfold litV
 rw[if_pos (by omega),show((2:Int)+i-1).toNat=i+1 by omega]
 exact Xe0 hi
def nIn (ds:List Dcl):Nat:=(bits ds).toNat
theorem nIn_eq (h:declOk ds=true):(nIn ds:Int)=bits ds∧nIn ds≤8:=by
 have:=bits_pos' (dpos h)
 have:=(decl_iff.1 h).2.2
 unfold nIn;omega
theorem insM_n (he:envOk ds env=true):(insM ds env).length=nIn ds:=by
 have a:=(env_ok he).1
 have:=insM_len (env_ok he).2.1 (dpos a)
 have:=(nIn_eq a).1
 omega
def Xv0 (ds:List Dcl) (ts:List Tm):Option (Gs×List (List Int)):=(seqB (ts.map (termB ds))).run (nIn ds) []
def blastB (ds:List Dcl) (t:Tm):Option (Gs×List Int):=(termB ds t).run (nIn ds) []
theorem Xu0 (t:Tm):Xv0 ds [t]=(blastB ds t).map fun r=>(r.1,[r.2]):=by
 unfold Xv0 blastB
 show((termB ds t).bind fun r=>(Bd.ret []:Bd (List (List Int))).map (r:: ·)).run _ _=_
 rw[Bd.run_bind]
 cases (termB ds t).run (nIn ds) [] with
 |none=>rfl
 |some r=>rfl
structure ListSays (ds:List Dcl) (ts:List Tm) (gs:Gs) (rs:List (List Int)):Prop where
 net:NetG (nIn ds) gs
 many:rs.length=ts.length
 has:∀r,r∈rs→hasL (1+nIn ds+gs.length) r
 len:∀i,i<ts.length→(rs.getD i []).length=lenS (sortM ds (ts.getD i default))
 says:∀env,envOk ds env=true→rs.map (fun r=>r.map (litV (valsG (true::insM ds env) gs)))=ts.map fun u=>K7 (sortM ds u) (evalM ds env u)
theorem nilG (n:Nat):NetG n []:=⟨by simp,fun k h=>absurd h (by simp),List.nodup_nil⟩
theorem list_says {ts:List Tm} {gs:Gs} {rs:List (List Int)} (c:declOk ds=true) (hs:∀t,t∈ts→sortM ds t≠ -1) (h:Xv0 ds ts=some (gs,rs)):ListSays ds ts gs rs:=by
 have key:∀env,envOk ds env=true→NetG (nIn ds) gs∧(∀r,r∈rs→hasL (1+nIn ds+gs.length) r)∧rs.map (fun r=>r.map (litV (valsG (true::insM ds env) gs)))=ts.map fun u=>K7 (sortM ds u) (evalM ds env u):=fun env he=>by
  have j:=nIn_eq c
  refine Says.sound (insM_n he) (nilG _) h (List.prefix_refl _) (Q:=fun k rs=>(∀r,r∈rs→hasL k r)∧rs.map (fun r=>r.map (litV (valsG (true::insM ds env) gs)))=ts.map fun u=>K7 (sortM ds u) (evalM ds env u)) ?_
  refine seq_sat (k0:=1+nIn ds) (by simp) (fun t f {k Q} g e=>?_) (fun l rs _ a b=>⟨a,b⟩)
  exact term_sat (Qv0 _ _) he (ins_lit _) t (hs t f) (by omega) e
 obtain⟨a,b⟩:=seq_reach (Bd.reach_of_run h)
 have d:=key _ (zeroE_ok c)
 exact⟨d.1,a,d.2.1,fun i hi=>term_len c _ (hs _ (getD_mem hi _)) (b i hi),fun env he=>(key env he).2.2⟩
theorem Zs0 {t:Tm} {gs:Gs} {r:List Int} (h:blastB ds t=some (gs,r)):Xv0 ds [t]=some (gs,[r]):=by rw[Xu0,h];rfl
theorem blast_says {t:Tm} {gs:Gs} {r:List Int} (a:declOk ds=true) (hs:sortM ds t≠ -1) (h:blastB ds t=some (gs,r)):
  NetG (nIn ds) gs∧hasL (1+nIn ds+gs.length) r∧r.length=lenS (sortM ds t)∧∀env,envOk ds env=true→r.map (litV (valsG (true::insM ds env) gs))=K7 (sortM ds t) (evalM ds env t):=by
 have:=list_says a (ts:=[t]) (fun u hu=>by rw[List.mem_singleton.1 hu];exact hs) (Zs0 h)
 refine⟨this.net,this.has r (by simp),this.len 0 (by simp),fun env he=>?_⟩
 have:=this.says env he
 simpa using this
theorem blast_num {t:Tm} {gs:Gs} {r:List Int} (hs:sortM ds t≠ -1) (h:blastB ds t=some (gs,r)) (he:envOk ds env=true):numB (r.map (litV (valsG (true::insM ds env) gs)))=evalM ds env t:=by
 rw[(blast_says (env_ok he).1 hs h).2.2.2 env he]
 exact num_val (eval_in he t hs)
section
variable {ts:List Tm} {gs:Gs} {rs:List (List Int)}
end
end Go.M
end
section
namespace Go.Proofs.YtaekfnbnhjgboaaGreatDoor
open Go Go.Vc Go.Proofs
variable {w:World} {K:Value→World→Prop} {D F F' G Fx Fy:Nat→Prop} {n:Nat} {gs:M.Gs} {v xv yv dv tv:Value} {xs ys:List Int} {bs:List Bool} {ds:List M.Dcl} {t:M.Tm} {ar ab:Addr}
theorem wpInts_spec {va vb:Value} {a b:List Int} (o:Ints F w va a) (q:Ints F' w vb b) (n:∀w',Ext w w'→K (.bool (decide (a=b))) w'):vcall PP qH #[va,vb] w K:=by
 apply qW0
 have t:a.length≤9223372036854775807:=by obtain⟨_,_,_,l,k,_⟩:=o.shape;simp at l;omega
 simp(disch:=(simp only[push_cast];done)) only[push_cast,o.len,q.len]
 refine zh (fun h=>?_) (fun h=>?_)
 ·have:=n w (Same.refl _ _)
  rwa[decide_eq_false (fun e=>h (by rw[e]))] at this
 refine vloop_up a.length (fun i u w'=>u=[.int .i64 i]∧Ext w w'∧∀j,j<i→a.getD j 0=b.getD j 0) ⟨rfl,Same.refl _ _,by omega⟩ ?_
 rintro i _ _ v C hi ⟨rfl,he,r⟩ s
 have d:=o.ext he
 have p:=q.ext he
 simp(disch:=(simp only[push_cast];done)) only[push_cast,d.len]
 refine zh (fun k=>?_) (fun k=>?_)
 ·refine zr fun x c _=>?_
  have f:=d.ext c
  have g:=p.ext c
  simp(disch:=first|(simp only[push_cast];done)|omega) only[push_cast,f.iaddr,f.load,g.iaddr,g.load,true_and]
  refine zh (fun m=>?_) (fun m=>?_)
  ·have:=n x (he.trans c)
   rwa[decide_eq_false (fun e=>m (by rw[e]))] at this
  ·simp(disch:=omega) only[push_cast,zE]
   refine s (by omega) _ _ ⟨rfl,he.trans c,fun j y=>?_⟩
   by_cases e:j=i
   ·subst e;simpa using m
   ·exact r j (by omega)
 ·have:=n v he
  rwa[decide_eq_true (List.ext_getElem (by omega) fun j l k=>by have:=r j (by omega);simpa[List.getD_eq_getElem?_getD,l,k] using this)] at this
theorem Errs.ext0 {w':World} (h:Errs (fun _=>False) w ar ab) (he:Ext w w'):Errs (fun _=>False) w' ar ab:=⟨h.room.same he id,h.bits.same he id,id,id⟩
theorem NetLit_spec {m:Int} (b:Bools F w v bs) (h:bs.length≤1000) (hm:M.has bs.length m) (a:K (.bool (M.litV bs m)) w):vcall PP kJ #[v,.int .i64 m] w K:=by
 apply j70
 obtain⟨d,e,f⟩:=hm
 simp(disch:=first|(simp only[push_cast];done)|omega) only[push_cast,b.len]
 refine sigof_spec (by omega) ?_
 rw[decide_eq_true ⟨d,e,f⟩]
 simp only[push_cast]
 refine node_spec (by omega) ?_
 have g:M.absI m=(m.natAbs:Int):=by unfold M.absI;split<;>omega
 simp(disch:=omega) only[push_cast,zE,g]
 rw[show((m.natAbs:Int)-1)=((m.natAbs-1:Nat):Int) by omega]
 rw[b.iaddr QI0 (by omega) (by omega),Int.toNat_natCast,b.load Q70 (by omega)]
 simp only[push_cast]
 unfold M.litV at a
 by_cases c:0<m
 ·rw[if_pos c,show(m-1).toNat=m.natAbs-1 by omega] at a
  rw[decide_eq_true (show(m:Int)>0 from c)]
  simpa using a
 ·rw[if_neg c,show(-m-1).toNat=m.natAbs-1 by omega] at a
  rw[decide_eq_false (show¬(m:Int)>0 from c)]
  simpa using a
def numN:List Bool→Nat
 |b::bs=>b.toNat+2*numN bs
 |[]=>0
theorem num_nat:∀bs:List Bool,M.numB bs=(numN bs:Int)
 |[]=>rfl
 |b::bs=>by
  have:=num_nat bs
  simp only[M.numB,numN,this,M.b2i]
  cases b<;>simp
theorem num_snoc:∀(bs:List Bool) (b:Bool),numN (bs++[b])=numN bs+2^bs.length*b.toNat
 |[],b=>by cases b<;>rfl
 |c::bs,b=>by
  rw[List.cons_append]
  simp only[numN,num_snoc bs b,List.length_cons,Nat.pow_succ]
  cases b<;>simp<;>omega
theorem num_lt:∀bs:List Bool,numN bs<2^bs.length
 |[]=>by decide
 |b::bs=>by
  have:=num_lt bs
  have a:b.toNat≤1:=Bool.toNat_le b
  simp only[numN,List.length_cons,Nat.pow_succ]
  omega
theorem BitsVal_spec (s:Bools F w v bs) (f:Ints G w xv xs) (r:bs.length≤1000) (t:xs.length≤4) (q:∀x,x∈xs→M.has bs.length x) (n:K (.int .i64 (M.numB (xs.map (M.litV bs)))) w):vcall PP Zo #[v,xv] w K:=by
 apply xI0
 simp(disch:=first|(simp only[push_cast];done)|omega) only[push_cast,f.len]
 refine zh (fun c=>absurd c (by omega)) (fun _=>?_)
 try simp(disch:=first|(simp only[push_cast];done)|omega) only[push_cast,f.len]
 refine vloop_up xs.length (fun i u w'=>u=[.int .i64 (numN ((xs.take i).map (M.litV bs)):Nat),.int .i64 i]∧w'=w) ⟨rfl,rfl⟩ ?_
 rintro i _ g o C hi ⟨rfl,rfl⟩ m
 simp only[push_cast]
 refine zh (fun a=>?_) (fun a=>?_)
 ·have b:i<xs.length:=by omega
  simp(disch:=first|(simp only[push_cast];done)|omega) only[push_cast,f.iaddr,f.load]
  refine NetLit_spec s r (q _ (M.getD_mem b _)) ?_
  have l:(xs.take (i+1)).map (M.litV bs)=(xs.take i).map (M.litV bs)++[M.litV bs (xs.getD i 0)]:=by rw[M.take_add b 0,List.map_append];rfl
  have hlen:((xs.take i).map (M.litV bs)).length=i:=by rw[List.length_map,List.length_take];omega
  have d:=num_snoc ((xs.take i).map (M.litV bs)) (M.litV bs (xs.getD i 0))
  have e:=num_lt ((xs.take i).map (M.litV bs))
  rw[←l,hlen] at d
  rw[hlen] at e
  generalize y:numN ((xs.take i).map (M.litV bs))=A at d e⊢
  have p:2^i≤2^3:=Nat.pow_le_pow_right (by omega) (by omega)
  refine y3 (fun h=>?_) (fun h=>?_)
  ·rw[h] at d
   have k:∀(K:Value→World→Prop),zq PP .shl zd true (.int .i64 1) (.int .i64 i) o K=K (.int .i64 ((2^i:Nat):Int)) o:=fun K=>by
    rw[zV0 (by omega)]
    rcases(by omega:i=0∨i=1∨i=2∨i=3) with rfl|rfl|rfl|rfl<;>rfl
   rw[k,vbin_orI (by omega) (by omega)]
   have j:A|||2^i=A+2^i:=by
    have:=Nat.two_pow_add_eq_or_of_lt e 1
    rw[Nat.mul_one] at this
    rw[Nat.or_comm,←this,Nat.add_comm]
   simp(disch:=omega) only[push_cast,zE]
   refine m b _ _ ⟨?_,rfl⟩
   rw[d,j]
   simp
  ·rw[h] at d
   simp(disch:=omega) only[push_cast,zE]
   refine m b _ _ ⟨?_,rfl⟩
   rw[d]
   simp
 ·have b:i=xs.length:=by omega
  subst b
  rw[List.take_length]
  rw[num_nat] at n
  exact n
end Go.Proofs.YtaekfnbnhjgboaaGreatDoor
end
section
namespace Go.Proofs.YtaekfnbnhjgboaaGreatDoor
open Go Go.Vc Go.Proofs
variable {w:World} {K:Value→World→Prop} {D F F' G Fx Fy:Nat→Prop} {n:Nat} {gs:M.Gs} {v xv yv dv tv gv:Value} {xs ys:List Int} {bs:List Bool} {ds:List M.Dcl} {t:M.Tm} {ar ab:Addr}
theorem term_new {cs:List Value} {K:Value→World→Prop} (m:TmR F w cs t) (k:∀w' b,w.heap.size≤b→Ext w w'→Blk w' b cs z7→TmR F w' cs t→K (.pointer (some ⟨b,0,none⟩)) w'):
  zJ PP z7 w fun t4 g=>zl PP z7 t4 (.agg ⟨cs⟩) g fun _ h=>K t4 h:=by
 refine zz zO fun b g l c o i=>?_
 have a:TmR (fun x=>F x∧x<w.heap.size) g cs t:=(m.weaken fun x f n=>⟨f,n⟩).ext c
 refine stTerm i rfl a fun h d q j=>?_
 exact k h b (by omega) (Ext.then c d fun y p=>by subst p;omega) j ((a.same d fun x f _ e=>by have:=f.2;omega).weaken fun x f _=>f.1)
theorem net_new {a:Int} {gs:M.Gs} {K:Value→World→Prop} (h:OwnG w gv gs) (l:∀w' b,w.heap.size≤b→Ext w w'→Blk w' b [.int .i64 a,gv] zg→OwnG w' gv gs→K (.pointer (some ⟨b,0,none⟩)) w'):
  zJ PP zg w fun t4 i=>zl PP zg t4 (.agg ⟨[.int .i64 a,gv]⟩) i fun _ e=>K t4 e:=by
 obtain⟨o,c,rfl,_⟩:=(Own.sl h).shape
 refine zz xX fun b i m f n j=>?_
 refine j.stAgg (cs':=[.int .i64 a,.slice o (gs.map yG).length c]) rfl y5 net_one fun e g q k=>?_
 have d:Ext w e:=Ext.then f g fun y p=>by subst p;omega
 exact l e b (by omega) d k (Own.ext h d)
theorem one_bool {c:Bool} {K:Value→World→Prop} (d:∀w' b,b=w.heap.size→Ext w w'→OwnB PP yy w' (.slice (some ⟨b,0,none⟩) 1 1) [c]→K (.slice (some ⟨b,0,none⟩) 1 1) w'):vbuildS PP yy 1 [(0,.bool c)] w K:=
 YY (y:=[.bool c]) Qn0 XZ0 ZF0 rfl rfl (by decide) fun b w' e he _ a=>d w' b e he (Blk.own1 (P:=PP) (t:=yy) (cs:=[.bool c]) (by rw[XP0];exact a) (Nat.zero_le _) rfl rfl (by omega))
end Go.Proofs.YtaekfnbnhjgboaaGreatDoor
end
section
namespace Go.Proofs.YtaekfnbnhjgboaaGreatDoor
open Go Go.Vc Go.Proofs
variable {w:World} {K:Value→World→Prop} {D F F' G Fx Fy:Nat→Prop} {n m:Nat} {gs hs:M.Gs} {v xv yv dv tv gv' hv':Value} {xs ys env:List Int} {bs ins:List Bool} {ds:List M.Dcl} {t:M.Tm}
theorem ke0 {c:Bool} (g h:M.Gt):zq PP .neq zp c (gv g) (gv h) w K=K (.bool (!decide (g=h))) w:=by
 have a:(Op.equal zp (gv g) (gv h)).run PP w= .ok (decide (g=h)) w:=eqGate g h w
 refine yL (jv0 (.inr rfl) c _ _) ?_
 have e:∀xs ys:Array Value,binOp .neq zp (.agg xs) (.agg ys)=(do let b ←Op.equal zp (.agg xs) (.agg ys);pure (Value.bool (!b))):=fun _ _=>rfl
 unfold gv at a⊢
 rw[e,Sem.run_bind,a];rfl
theorem yp0 {i:Nat} (hi:i<gs.length):(gs.map yG).getD i []=yG gs[i]:=by simp[List.getD_eq_getElem?_getD,hi]
theorem EqualG {v v':Value} (n:GatesR F w v gs) (q:GatesR F' w v' hs) (A:gs.length≤1000000) (l:∀w',Ext w w'→K (.bool (decide (gs=hs))) w'):vcall PP x7 #[v,v'] w K:=by
 apply jZ
 rw[Sl.len n qg,Sl.len q qg,xX0,xX0]
 simp only[push_cast]
 refine zh (fun b=>?_) (fun heq=>?_)
 ·have:=l w (Same.refl _ _)
  rwa[decide_eq_false (fun e=>b (by rw[e]))] at this
 ·rw[Sl.len n qg,xX0]
  refine vloop_up gs.length (fun i u w'=>u=[.int .i64 i]∧Ext w w'∧∀j (c:j<gs.length) (d:j<hs.length),j<i→gs[j]=hs[j]) ⟨rfl,Same.refl _ _,by omega⟩ ?_
  rintro i _ g y C hi ⟨rfl,he,p⟩ s
  simp only[push_cast]
  refine zh (fun x=>zr fun o a _=>?_) (fun t=>?_)
  ·have f:GatesR F o v gs:=Sl.ext n (he.trans a)
   have k:GatesR F' o v' hs:=Sl.ext q (he.trans a)
   have c:i<gs.length:=by omega
   have d:i<hs.length:=by omega
   rw[Sl.iaddr f Zv (by omega) (by rw[xX0];omega),Int.toNat_natCast]
   refine⟨rfl,?_⟩
   rw[Sl.ldAgg f qq (by rw[xX0];exact c),yp0 c]
   refine⟨rfl,?_⟩
   rw[Sl.iaddr k Zv (by omega) (by rw[xX0];omega),Int.toNat_natCast]
   refine⟨rfl,?_⟩
   rw[Sl.ldAgg k qq (by rw[xX0];exact d),yp0 d]
   refine⟨rfl,?_⟩
   rw[show(Value.agg ⟨yG gs[i]⟩)=gv gs[i] from rfl,show(Value.agg ⟨yG hs[i]⟩)=gv hs[i] from rfl,ke0]
   refine⟨rfl,?_⟩
   refine y3 (fun m=>?_) (fun m=>?_)
   ·have:=l o (he.trans a)
    have b:gs[i]≠hs[i]:=by simpa using m
    rwa[decide_eq_false (fun e=>b (by subst e;rfl))] at this
   ·simp(disch:=omega) only[push_cast,zE]
    refine s (by omega) _ _ ⟨by simp,he.trans a,fun j r a2 z=>?_⟩
    by_cases h:j=i
    ·subst h;simpa using m
    ·exact p j r a2 (by omega)
  ·have:=l y he
   rwa[decide_eq_true (List.ext_getElem (by omega) fun j c d=>p j c d (by omega))] at this
theorem zf0 {a b:Int} {x y:Value} (m:GatesR F w x gs) (n:GatesR F' w y hs) (r:gs.length≤1000000) (l:∀w',Ext w w'→K (.bool (decide (a=b∧gs=hs))) w'):
  vcall PP qp #[.agg ⟨[.int .i64 a,x]⟩,.agg ⟨[.int .i64 b,y]⟩] w K:=by
 apply xG0
 obtain⟨o,c,rfl,_⟩:=m.shape
 obtain⟨A,z,rfl,_⟩:=n.shape
 refine zy fun b1 B p f s j=>?_
 refine zy fun b2 u q d t i=>?_
 have g:=j.ext d
 simp(disch:=first|(simp only[push_cast];done)|omega) only[push_cast,g.ld0,i.ld0,g.ld1,i.ld1]
 refine zh (fun h=>?_) (fun h=>?_)
 ·refine EqualG (Sl.ext m (f.trans d)) (Sl.ext n (f.trans d)) r fun v k=>?_
  have:=l v ((f.trans d).trans k)
  simpa only[h,true_and] using this
 ·have:=l u (f.trans d)
  rwa[decide_eq_false (fun e=>h e.1)] at this
theorem Zv0 {x:Value} (e:GatesR F w x gs) (h:M.NetG n gs) (i:n≤8) (f:∀w',Ext w w'→K (.bool true) w'):vcall PP Jm #[.agg ⟨[.int .i64 n,x]⟩] w K:=by
 apply k10
 obtain⟨o,c,rfl,_⟩:=e.shape
 refine zy fun b1 p g a k b=>?_
 rw[b.ldAgg (t:=zg) y5]
 refine readNet_spec (Sl.ext e a) h i fun l bc v' mb m d j=>?_
 simp only[push_cast]
 exact f l (a.trans d)
theorem gate_hasV {k:Nat} (c:M.NetG n gs) (d:k<gs.length):M.has (1+n+k) gs[k].a∧M.has (1+n+k) gs[k].b:=by
 obtain⟨e,f,g,h⟩:=c.gate k d
 exact⟨M.has_abs.2 ⟨by omega,by omega⟩,M.has_abs.2 ⟨by omega,by omega⟩⟩
theorem NetVals_spec {x y:Value} (R:GatesR F w x gs) (hg:M.NetG n gs) (hn:n≤8) (hy:Bools F' w y ins) (hi:ins.length=n)
  (hK:∀w' r,Ext w w'→OwnB PP yy w' r (M.valsG (true::ins) gs)→(∀b,r.ownBlock=some b→w.heap.size≤b)→K r w'):vcall PP Zm #[.agg ⟨[.int .i64 n,x]⟩,y] w K:=by
 apply xF0
 obtain⟨o,c,hv,_⟩:=R.shape
 generalize (gs.map yG).length=l at hv
 subst hv
 refine zy fun b1 w1 af v aj q=>?_
 have hz:=v.size
 refine zI (fun u w'=>u=[]∧Ext w1 w') (fun J hJ=>?_) ?_
 ·rw[q.ldAgg (t:=zg) y5]
  refine Zv0 (Sl.ext R v) hg hn fun w2 f=>?_
  have E:=q.ext f
  simp(disch:=first|(simp only[push_cast];done)|omega) only[push_cast,(hy.ext (v.trans f)).len,E.ld0,Bool.not_true]
  refine zh (fun h=>absurd hi (by omega)) (fun _=>hJ _ _ ⟨rfl,f⟩)
 rintro _ _ w2 ⟨rfl,f⟩
 have E:=q.ext f
 refine one_bool fun w3 b3 ag H a7=>?_
 have e3:=(v.trans f).trans H
 refine OwnV.app (us:=ins.map fun b=> .bool b) a7 ku0 (hy.ext e3) (fun u hu=>by obtain⟨b,_,rfl⟩:=List.mem_map.1 hu;rfl) (by simp;omega) (by simp;omega) fun v4 w4 a8 O a6=>?_
 have ak:=f.size;have al:=H.size
 have U:∀b,v4.ownBlock=some b→w.heap.size≤b:=fun b G=>by
  rcases a6 b G with h|h
  ·have:b=b3:=(Option.some.inj h).symm
   omega
  ·omega
 have e4:Ext w w4:=Ext.then e3 O fun b G=>by
  have:b=b3:=(Option.some.inj G).symm
  omega
 have W:OwnB PP yy w4 v4 (true::ins):=a8
 have ae:=O.size
 have a1:=(E.ext H).same O fun e=>by
  have h1:b1=b3:=(Option.some.inj e).symm
  have h2:=q.lt
  omega
 simp(disch:=first|(simp only[push_cast];done)|omega) only[push_cast,a1.ld1]
 have ab:GatesR F w4 _ gs:=Sl.ext R e4
 rw[Sl.len ab qg,xX0]
 have ad:=hg.few
 refine vloop_up gs.length (fun i u w'=> ∃r,u=[r,.int .i64 i]∧Ext w w'∧OwnB PP yy w' r (M.valsG (true::ins) (gs.take i))∧∀b,r.ownBlock=some b→w.heap.size≤b) ⟨v4,rfl,e4,W,U⟩ ?_
 rintro i _ _ w5 C ai ⟨r,rfl,e5,z,L⟩ hC
 simp only[push_cast]
 refine zh (fun a=>?_) (fun a=>?_)
 ·have p:i<gs.length:=by omega
  have Y:GatesR F w5 _ gs:=Sl.ext R e5
  rw[Sl.iaddr Y Zv (by omega) (by rw[xX0];omega),Int.toNat_natCast,Sl.ldAgg Y qq (by rw[xX0];exact p),yp0 p]
  have hh:=gate_hasV hg p
  have aa:gs.take (i+1)=gs.take i++[gs[i]]:=by rw[List.take_add_one,List.getElem?_eq_getElem p];rfl
  have P:M.valsG (true::ins) (gs.take (i+1))=M.valsG (true::ins) (gs.take i)++[M.gateV (M.valsG (true::ins) (gs.take i)) gs[i]]:=by rw[aa,M.valsG_app];rfl
  have hlen:(M.valsG (true::ins) (gs.take i)).length=1+n+i:=by rw[M.valsG_len,List.length_cons,List.length_take];omega
  generalize M.valsG (true::ins) (gs.take i)=vs at z P hlen
  generalize gs[i]=g at hh P
  rw[←hlen] at hh
  refine zz YV fun b6 w6 ah a4 am a2=>?_
  refine a2.stAgg (cs':=yG g) rfl qq (gone [g] _ (by simp)) fun w7 a9 an a3=>?_
  have a0:Ext w5 w7:=Ext.then a4 a9 fun y hy=>by subst hy;omega
  refine zr fun w8 S _=>?_
  have B:=a0.trans S
  have s:=a3.ext S
  have N:=z.ext B
  simp(disch:=first|(simp only[push_cast];done)|omega) only[push_cast,s.ld1,s.ld2,true_and,and_self]
  refine NetLit_spec N.bools (by omega) hh.1 ?_
  simp(disch:=first|(simp only[push_cast];done)|omega) only[push_cast,s.ld2,true_and,and_self]
  refine NetLit_spec N.bools (by omega) hh.2 ?_
  simp(disch:=first|(simp only[push_cast];done)|omega) only[push_cast,s.ld0]
  have fin:∀{Q:World} {A:Nat} {x:Bool},x=M.gateV vs g→Ext w8 Q→A=w8.heap.size→OwnB PP yy Q (.slice (some ⟨A,0,none⟩) 1 1) [x]→vbi PP .append [yy,yy] yy [r,.slice (some ⟨A,0,none⟩) 1 1] Q fun t45 Z=>C [t45,.int .i64 ((i+1:Nat):Int)] Z:=fun{Q A x} R d m k=>by
   refine OwnV.app (us:=[.bool x]) (N.ext d) ku0 k.bools (by simp[Value.oneCell']) (by simp;omega) (by simp;omega) fun v10 ac V X T=>?_
   have z8:=B.size;have z9:=d.size;have z5:=e5.size
   refine hC p _ _ ⟨v10,rfl,Ext.then (e5.trans (B.trans d)) X fun b G=>L b G,?_,fun b G=>?_⟩
   ·have:OwnB PP yy ac v10 (vs++[x]):=by unfold OwnB;rw[List.map_append];exact V
    rwa[R,←P] at this
   ·rcases T b G with h|h
    ·exact L b h
    ·omega
  have j:M.gateV vs g=if g.x then M.litV vs g.a != M.litV vs g.b else M.litV vs g.a&&M.litV vs g.b:=rfl
  have D:(IntKind.i64.wrap ((i:Int)+1))=((i+1:Nat):Int):=inc64' (by omega)
  refine y3 (fun I=>?_) (fun I=>?_)
  ·rw[I,if_pos rfl] at j
   refine one_bool fun Q A m d k=>?_
   try simp only[push_cast,D]
   exact fin j.symm d m k
  ·rw[I,if_neg (by simp)] at j
   refine y3 (fun ha=>?_) (fun ha=>?_)
   ·refine one_bool fun Q A m d k=>?_
    simp only[push_cast,D]
    rw[ha,Bool.true_and] at j
    exact fin j.symm d m k
   ·refine one_bool fun Q A m d k=>?_
    simp only[push_cast,D]
    rw[ha,Bool.false_and] at j
    exact fin j.symm d m k
 ·have a5:i=gs.length:=by omega
  subst a5
  rw[List.take_length] at z
  exact hK w5 r e5 z L
theorem insM_app:∀{d1 d2:List M.Dcl} {b a:List Int},d1.length=b.length→M.insM (d1++d2) (b++a)=M.insM d1 b++M.insM d2 a
 |[],d2,[],a,_=>by cases d2<;>cases a<;>rfl
 |d::d1,d2,e::b,a,h=>by
  show(M.bitsN d.2.toNat e.toNat).reverse++M.insM (d1++d2) (b++a)=((M.bitsN d.2.toNat e.toNat).reverse++M.insM d1 b)++M.insM d2 a
  rw[insM_app (by simpa using h),List.append_assoc]
theorem insM_take {i:Nat} (c:env.length=ds.length) (hi:i<ds.length):M.insM (ds.take (i+1)) (env.take (i+1))=M.insM (ds.take i) (env.take i)++(M.bitsN ((ds.getD i (M.nada,0)).2).toNat (env.getD i 0).toNat).reverse:=by
 have a:ds.take (i+1)=ds.take i++[ds.getD i (M.nada,0)]:=M.take_add hi _
 have b:env.take (i+1)=env.take i++[env.getD i 0]:=M.take_add (by omega) _
 rw[a,b,insM_app (by rw[List.length_take,List.length_take];omega)]
 simp[M.insM]
theorem BlastIns_spec {dv ev:Value} (O:DclsR F w dv ds) (he:Ints F' w ev env) (I:M.envOk ds env=true)
  (hK:∀w' r,Ext w w'→OwnB PP yy w' r (M.insM ds env)→(∀b,r.ownBlock=some b→w.heap.size≤b)→K r w'):vcall PP Yu #[dv,ev] w K:=by
 apply yS0
 obtain⟨e,hlen,D⟩:=M.env_ok I
 refine EnvOk_spec O he fun w1 A=>?_
 rw[I]
 simp(disch:=(simp only[push_cast];done)) only[push_cast,(O.ext A).len,Bool.not_true]
 have h4:=(M.decl_iff.1 e).1
 refine vloop_up ds.length (fun i u w'=> ∃r,u=[r,.int .i64 i]∧Ext w w'∧OwnB PP yy w' r (M.insM (ds.take i) (env.take i))∧∀b,r.ownBlock=some b→w.heap.size≤b) ⟨_,rfl,A,OwnB.nil,fun b v=>by cases v⟩ ?_
 rintro i _ _ w2 C hi ⟨r,rfl,t,l,H⟩ hC
 simp only[push_cast]
 refine zh (fun a=>?_) (fun a=>?_)
 ·have f:i<ds.length:=by omega
  have z:=O.ext t
  have a6:=M.dcl_wide e f
  obtain⟨n1,n2,n3,n4⟩:=M.vok_iff.1 (D i f)
  have a4:=M.bits_le e f
  have a3:=(M.decl_iff.1 e).2.2
  have E:(M.insM (ds.take i) (env.take i)).length≤8:=by
   have:=M.insM_len (ds:=ds.take i) (env:=env.take i) (by rw[List.length_take,List.length_take];omega) fun d P=>M.dpos e d (List.mem_of_mem_take P)
   omega
  have a0:(2:Int)^((ds.getD i (M.nada,0)).2).toNat≤16:=by
   have h1:(2:Nat)^((ds.getD i (M.nada,0)).2).toNat≤2^4:=Nat.pow_le_pow_right (by omega) (by omega)
   have h2:(((2:Nat)^((ds.getD i (M.nada,0)).2).toNat:Nat):Int)≤16:=by omega
   simpa using h2
  simp(disch:=first|(simp only[push_cast];done)|omega) only[push_cast,z.iaddr,z.load]
  refine zz xU fun b3 w3 a1 Q a8 J=>?_
  refine stDecl J fun w4 W a9 L=>?_
  have o:Ext w2 w4:=Ext.then Q W fun y hy=>by subst hy;omega
  have m:=insM_take hlen f
  generalize hp:M.insM (ds.take i) (env.take i)=ps at l E m
  obtain⟨k,hk⟩:=Int.eq_ofNat_of_zero_le n3
  have n:env.getD i 0=(k:Int):=hk
  rw[n] at m n4
  rw[Int.toNat_natCast] at m
  have Z:=he.ext t
  generalize a7:(ds.getD i (M.nada,0)).2=wd at*
  simp(disch:=first|(simp only[push_cast];done)|omega) only[push_cast,L.ld1,zE]
  have Y:(M.bitsN wd.toNat k).reverse.length=wd.toNat:=by rw[List.length_reverse,M.bitsN_len]
  have z2:=t.size;have z24:=o.size
  refine vloop_up wd.toNat (fun j u w'=> ∃r,u=[r,.int .i64 (wd-1-j)]∧Ext w w'∧OwnB PP yy w' r (ps++(M.bitsN wd.toNat k).reverse.take j)∧∀b,r.ownBlock=some b→w.heap.size≤b) ⟨r,by simp,t.trans o,by simpa using l.ext o,H⟩ ?_
  rintro j _ _ w5 C1 hj ⟨r2,rfl,g,s,q⟩ N
  simp only[push_cast]
  refine zh (fun c=>?_) (fun c=>?_)
  ·have G:j<wd.toNat:=by omega
   have B:=he.ext g
   simp(disch:=first|(simp only[push_cast];done)|omega) only[push_cast,B.iaddr,B.load,n]
   rw[j6 jg0 yn0,wrapU (by omega),show(wd-1-(j:Int))=((wd.toNat-1-j:Nat):Int) by omega]
   refine bit_spec (by omega) (by omega) ?_
   have hx:(M.bitsN wd.toNat k).reverse.take (j+1)=(M.bitsN wd.toNat k).reverse.take j++[decide (k/2^(wd.toNat-1-j)%2=1)]:=by
    rw[M.take_add (by omega) false]
    congr 2
    rw[List.getD_eq_getElem?_getD,List.getElem?_reverse (by rw[M.bitsN_len];exact G),M.bitsN_len,←List.getD_eq_getElem?_getD,M.bitsN_get (by omega)]
   generalize decide (k/2^(wd.toNat-1-j)%2=1)=x at hx⊢
   have a5:(ps++(M.bitsN wd.toNat k).reverse.take j).length≤100:=by rw[List.length_append,List.length_take];omega
   refine one_bool fun w6 b6 a2 p U=>?_
   refine OwnV.app (us:=[.bool x]) (s.ext p) ku0 U.bools (by simp[Value.oneCell']) (by simp only[List.length_map,List.length_singleton];omega) (by simp only[List.length_map,List.length_singleton];omega) fun v7 w7 V X T=>?_
   have aa:=g.size;have z6:=p.size
   simp(disch:=omega) only[push_cast,zE]
   refine N G _ _ ⟨v7,by rw[show((wd.toNat:Int)-(0+1)-(j:Int)-1)=wd-1-((j+1:Nat):Int) by omega],Ext.then (g.trans p) X fun b v=>q b v,?_,fun b v=>?_⟩
   ·rw[hx,←List.append_assoc]
    unfold OwnB
    rw[List.map_append];exact V
   ·rcases T b v with h|h
    ·exact q b h
    ·omega
  ·have S:j=wd.toNat:=by omega
   subst S
   rw[List.take_of_length_le (by omega),←m] at s
   try simp(disch:=omega) only[push_cast,zE]
   exact hC f _ _ ⟨r2,rfl,g,s,q⟩
 ·have R:i=ds.length:=by omega
  subst R
  rw[List.take_length,←hlen,List.take_length] at l
  exact hK w2 r t l H
theorem YA (ds:List M.Dcl) (t:M.Tm):((blastR ds t).2.2=[]∧(blastR ds t).1=0∧(blastR ds t).2.1=[])∨(M.tsort ds t≠ -1∧(blastR ds t).1=M.nIn ds∧M.blastB ds t=some ((blastR ds t).2.1,(blastR ds t).2.2)):=by
 unfold blastR M.blastB M.nIn
 by_cases h:M.tsort ds t= -1
 ·rw[if_pos h];exact .inl ⟨rfl,rfl,rfl⟩
 ·rw[if_neg h]
  cases a:(M.termB ds t).run (M.bits ds).toNat [] with
  |none=>exact .inl ⟨rfl,rfl,rfl⟩
  |some r=>exact .inr ⟨h,rfl,rfl⟩
theorem jx0 (ds:List M.Dcl) (t:M.Tm):(blastR ds t).2.1.length≤600:=by
 rcases YA ds t with⟨_,_,h⟩|⟨h,c,a⟩
 ·rw[h];simp
 ·obtain⟨_,b,hs,_⟩:=Qc h
  exact(M.blast_says b hs a).1.few
theorem sigs_few (ds:List M.Dcl) (t:M.Tm):(blastR ds t).2.2.length≤4:=by
 rcases YA ds t with⟨h,_⟩|⟨h,d,b⟩
 ·rw[h];simp
 ·obtain⟨_,a,hs,_⟩:=Qc h
  have c:=(M.blast_says a hs b).2.2.1
  have e:=M.sort_range a t
  rw[c];unfold M.lenS;omega
end Go.Proofs.YtaekfnbnhjgboaaGreatDoor
end
section
namespace Go.Proofs.YtaekfnbnhjgboaaGreatDoor
open Go Go.Vc Go.Proofs
variable {w:World} {K:Value→World→Prop} {F F' D G:Nat→Prop}
abbrev ptr (b:Nat):Value:= .pointer (some ⟨b,0,none⟩)
def UB (t3:Value) (w:World) (J:List Value→World→Prop):Prop:=
 y0 w fun w_12=>
 zi PP z7 t3 4 w_12 fun t13 w_13=>w_13=w_12∧
 ze PP za t13 w_12 fun t14 w_14=>w_14=w_12∧
 zm PP za t14 (.int .i64 0) w_12 fun t15 w_15=>w_15=w_12∧
 ze PP z7 t15 w_12 fun t16 w_16=>w_16=w_12∧
 zi PP z7 t3 4 w_12 fun t17 w_17=>w_17=w_12∧
 ze PP za t17 w_12 fun t18 w_18=>w_18=w_12∧
 zm PP za t18 (.int .i64 1) w_12 fun t19 w_19=>w_19=w_12∧
 ze PP z7 t19 w_12 fun t20 w_20=>w_20=w_12∧
 (zJ PP z7 w_12 fun t6 w_21=>(ze PP z7 t19 w_21 fun v x=>v=t20∧x=w_21)∧(zm PP za t18 (.int .i64 1) w_21 fun v x=>v=t19∧x=w_21)∧(ze PP za t17 w_21 fun v x=>v=t18∧x=w_21)∧(zi PP z7 t3 4 w_21 fun v x=>v=t17∧x=w_21)∧(ze PP z7 t15 w_21 fun v x=>v=t16∧x=w_21)∧(zm PP za t14 (.int .i64 0) w_21 fun v x=>v=t15∧x=w_21)∧(ze PP za t13 w_21 fun v x=>v=t14∧x=w_21)∧(zi PP z7 t3 4 w_21 fun v x=>v=t13∧x=w_21)∧
 (zJ PP z7 w_21 fun t7 w_22=>(ze PP z7 t19 w_22 fun v x=>v=t20∧x=w_22)∧(zm PP za t18 (.int .i64 1) w_22 fun v x=>v=t19∧x=w_22)∧(ze PP za t17 w_22 fun v x=>v=t18∧x=w_22)∧(zi PP z7 t3 4 w_22 fun v x=>v=t17∧x=w_22)∧(ze PP z7 t15 w_22 fun v x=>v=t16∧x=w_22)∧(zm PP za t14 (.int .i64 0) w_22 fun v x=>v=t15∧x=w_22)∧(ze PP za t13 w_22 fun v x=>v=t14∧x=w_22)∧(zi PP z7 t3 4 w_22 fun v x=>v=t13∧x=w_22)∧
 (zl PP z7 t6 t16 w_22 fun _ w_23=>(ze PP z7 t19 w_23 fun v x=>v=t20∧x=w_23)∧(zm PP za t18 (.int .i64 1) w_23 fun v x=>v=t19∧x=w_23)∧(ze PP za t17 w_23 fun v x=>v=t18∧x=w_23)∧(zi PP z7 t3 4 w_23 fun v x=>v=t17∧x=w_23)∧
 (zl PP z7 t7 t20 w_23 fun _ w_24=>
 J [t6,t7] w_24)∧
 True)∧
 True)∧
 True)∧
 (zJ PP z7 w_12 fun t7_1 w_25=>(ze PP z7 t19 w_25 fun v x=>v=t20∧x=w_25)∧(zm PP za t18 (.int .i64 1) w_25 fun v x=>v=t19∧x=w_25)∧(ze PP za t17 w_25 fun v x=>v=t18∧x=w_25)∧(zi PP z7 t3 4 w_25 fun v x=>v=t17∧x=w_25)∧(ze PP z7 t15 w_25 fun v x=>v=t16∧x=w_25)∧(zm PP za t14 (.int .i64 0) w_25 fun v x=>v=t15∧x=w_25)∧(ze PP za t13 w_25 fun v x=>v=t14∧x=w_25)∧(zi PP z7 t3 4 w_25 fun v x=>v=t13∧x=w_25)∧
 (zJ PP z7 w_25 fun t6_1 w_26=>(ze PP z7 t19 w_26 fun v x=>v=t20∧x=w_26)∧(zm PP za t18 (.int .i64 1) w_26 fun v x=>v=t19∧x=w_26)∧(ze PP za t17 w_26 fun v x=>v=t18∧x=w_26)∧(zi PP z7 t3 4 w_26 fun v x=>v=t17∧x=w_26)∧(ze PP z7 t15 w_26 fun v x=>v=t16∧x=w_26)∧(zm PP za t14 (.int .i64 0) w_26 fun v x=>v=t15∧x=w_26)∧(ze PP za t13 w_26 fun v x=>v=t14∧x=w_26)∧(zi PP z7 t3 4 w_26 fun v x=>v=t13∧x=w_26)∧
 (zl PP z7 t6_1 t16 w_26 fun _ w_27=>(ze PP z7 t19 w_27 fun v x=>v=t20∧x=w_27)∧(zm PP za t18 (.int .i64 1) w_27 fun v x=>v=t19∧x=w_27)∧(ze PP za t17 w_27 fun v x=>v=t18∧x=w_27)∧(zi PP z7 t3 4 w_27 fun v x=>v=t17∧x=w_27)∧
 (zl PP z7 t7_1 t20 w_27 fun _ w_28=>
 J [t6_1,t7_1] w_28)∧
 True)∧
 True)∧
 True)∧
 True
theorem pairReg_ok {b3:Nat} {v:Nat→Prop} {kv:Value} {t:M.Tm} {J:List Value→World→Prop} (q:Blk w b3 [.int .i64 t.op,.int .i64 t.a,.int .i64 t.b,.string t.s,kv] z7) (R:TmsR v w kv t.ks) (r:2≤t.ks.length)
  (P:∀w' b N c O,Ext w w'→Blk w' b c z7→TmR v w' c (M.kid t 0)→Blk w' N O z7→TmR v w' O (M.kid t 1)→J [ptr b,ptr N] w'):UB (ptr b3) w J:=by
 unfold UB
 refine zr fun u h _=>?_
 obtain⟨css,hs,V,Q⟩:=R.ext h
 have l:=q.ext h
 have S:=h.size
 simp(disch:=first|(simp only[push_cast];done)|omega) only[push_cast,l.ld4,hs.iaddr,hs.ldAgg,true_and]
 have c0:=Q 0 (by omega)
 have p:=Q 1 (by omega)
 refine⟨?_,?_,trivial⟩
 ·refine zz zO fun b2 T B f D r=>?_
  have s2:=hs.ext f
  have m:=l.ext f
  simp(disch:=first|(simp only[push_cast];done)|omega) only[push_cast,m.ld4,s2.iaddr,s2.ldAgg,true_and,and_self]
  refine⟨?_,trivial⟩
  refine zz zO fun b3 U C d E x=>?_
  have n:=s2.ext d
  have H:=m.ext d
  simp(disch:=first|(simp only[push_cast];done)|omega) only[push_cast,H.ld4,n.iaddr,n.ldAgg,true_and,and_self]
  refine⟨?_,trivial⟩
  refine stTerm (r.ext d) rfl (c0.ext (f.trans d)) fun K i F z=>?_
  have e:Ext u K:=Ext.then (f.trans d) i fun y k=>by subst k;omega
  have o:=hs.ext e
  have I:=l.ext e
  simp(disch:=first|(simp only[push_cast];done)|omega) only[push_cast,I.ld4,o.iaddr,o.ldAgg,true_and,and_self]
  refine⟨?_,trivial⟩
  refine stTerm (x.same i (by omega)) rfl (p.ext e) fun L j G A=>?_
  have g:Ext u L:=Ext.then e j fun y k=>by subst k;omega
  exact P _ _ _ _ _ (h.trans g) (z.same j (by omega)) (c0.ext g) A (p.ext g)
 ·refine zz zO fun b2 T B f D r=>?_
  have s2:=hs.ext f
  have m:=l.ext f
  simp(disch:=first|(simp only[push_cast];done)|omega) only[push_cast,m.ld4,s2.iaddr,s2.ldAgg,true_and,and_self]
  refine⟨?_,trivial⟩
  refine zz zO fun b3 U C d E x=>?_
  have n:=s2.ext d
  have H:=m.ext d
  simp(disch:=first|(simp only[push_cast];done)|omega) only[push_cast,H.ld4,n.iaddr,n.ldAgg,true_and,and_self]
  refine⟨?_,trivial⟩
  refine stTerm x rfl (c0.ext (f.trans d)) fun K i F z=>?_
  have e:Ext u K:=Ext.then (f.trans d) i fun y k=>by subst k;omega
  have o:=hs.ext e
  have I:=l.ext e
  simp(disch:=first|(simp only[push_cast];done)|omega) only[push_cast,I.ld4,o.iaddr,o.ldAgg,true_and,and_self]
  refine⟨?_,trivial⟩
  refine stTerm ((r.ext d).same i (by omega)) rfl (p.ext e) fun L j G A=>?_
  have g:Ext u L:=Ext.then e j fun y k=>by subst k;omega
  exact P _ _ _ _ _ (h.trans g) (z.same j (by omega)) (c0.ext g) A (p.ext g)
structure RS (G:Nat→Prop) (w0 w:World) (b2 b3 b4:Nat) (dv kv:Value) (mb:Nat) (ds:List M.Dcl) (t:M.Tm):Prop where
 ext:Ext w0 w
 f:Blk w b2 [dv,.map (some mb)] zG
 q:Blk w b3 [.int .i64 t.op,.int .i64 t.a,.int .i64 t.b,.string t.s,kv] z7
 r:Blk w b4 zL0 z7
 k:TmsR (fun x=>G x∧x<w0.heap.size) w kv t.ks
 d:DclsR (fun x=>x<w0.heap.size) w dv ds
 m:KindsR w mb
 lo:w0.heap.size≤b4
section
variable {w0 w':World} {b2 b3 b4 mb:Nat} {dv kv:Value} {ds:List M.Dcl} {t:M.Tm}
theorem yj (h:RS G w0 w b2 b3 b4 dv kv mb ds t) (he:Ext w w'):RS G w0 w' b2 b3 b4 dv kv mb ds t:=
 ⟨h.ext.trans he,h.f.ext he,h.q.ext he,h.r.ext he,h.k.ext he,h.d.ext he,h.m.ext he,h.lo⟩
abbrev kO (dv:Value) (mb:Nat):Value:= .agg ⟨[dv,.map (some mb)]⟩
theorem rs_enter {tv:Value} {B:Value→Value→Value→World→Prop} (s:DclsR F w dv ds) (hm:KindsR w mb) (y:TermR G w tv t) (o:∀w' b2 b3 b4 kv,RS G w w' b2 b3 b4 dv kv mb ds t→B (ptr b2) (ptr b3) (ptr b4) w'):
  yo PP zG (kO dv mb) w fun t2 g=>yo PP z7 tv g fun t3 i=>zJ PP z7 i fun t4 j=>B t2 t3 t4 j:=by
 obtain⟨kv,rfl,f⟩:=y
 refine zy fun b1 z p e u l=>?_
 refine zy fun b2 A q c v m=>?_
 refine zz zO fun b3 C r a x n=>?_
 have d:=e.trans (c.trans a)
 exact o _ _ _ _ kv ⟨d,(l.ext c).ext a,m.ext a,n,(f.weaken fun b h k=>⟨h,k⟩).ext d,(s.weaken fun b _ h=>h).ext d,hm.ext d,by omega⟩
abbrev yV0 (K:Value→World→Prop) (w:World) (G:Nat→Prop) (o:Option M.Tm):Prop:=∀w' rv u,Ext w w'→TermR (fun x=>G x∨w.heap.size≤x) w' rv u→(∀x,o=some x→u=x)→K (.tuple #[rv,.bool o.isSome]) w'
theorem yQ (h:RS G w0 w b2 b3 b4 dv kv mb ds t) {rv:Value} {u:M.Tm} {b:Bool} (hu:TermR (fun x=>(G x∨w0.heap.size≤x)∧x≠b4) w rv u) (g:∀w' a,Ext w0 w'→TermR (fun x=>G x∨w0.heap.size≤x) w' a u→K (.tuple #[a,.bool b]) w'):
  zl PP z7 (ptr b4) rv w fun _ k=>vlv PP z7 (ptr b4) k fun r l=>K (.tuple #[r,.bool b]) l:=by
 obtain⟨cs,rfl,c⟩:=hu.cells
 refine jw (K:=fun r w=>K (.tuple #[r,.bool b]) w) h.r rfl c (fun x f=>f.2) fun m e j d=>?_
 exact g _ _ (Ext.then h.ext e fun y i=>by subst i;exact h.lo) (d.weaken fun x f _=>f.1)
theorem rs_kid (h:RS G w0 w b2 b3 b4 dv kv mb ds t) {rv:Value} {u:M.Tm} (hu:TermR (fun x=>G x∧x<w0.heap.size) w' rv u):TermR (fun x=>(G x∨w0.heap.size≤x)∧x≠b4) w' rv u:=hu.weaken fun x a _=>⟨.inl a.1,by have:=h.lo;omega⟩
theorem rs_new (h:RS G w0 w b2 b3 b4 dv kv mb ds t) (he:Ext w w') {rv:Value} {u:M.Tm} (hu:TermR (fun x=>w.heap.size≤x) w' rv u):TermR (fun x=>(G x∨w0.heap.size≤x)∧x≠b4) w' rv u:=hu.weaken fun x a _=>⟨.inr (by have:=h.ext.size;omega),by have:=h.r.lt;omega⟩
theorem Qg:TermR F w (.agg ⟨zL0⟩) (.mk 0 0 0 M.nada []):=(jp0 0 0 0 _:TmR F w _ _).term
end
theorem ZN {dv tv:Value} {mb:Nat} {ds:List M.Dcl} {t:M.Tm} (m:DclsR F w dv ds) (hm:KindsR w mb) (f:M.declOk ds=true) (p:TermR G w tv t) (j:∀w',Ext w w'→K (.int .i64 (M.sortM ds t)) w'):vcall PP qk #[kO dv mb,tv] w K:=by
 apply WD
 obtain⟨cs,rfl,a⟩:=p.cells
 refine zy fun b1 q k d n h=>?_
 refine zy fun b2 r l b o i=>?_
 have g:=h.ext b
 have c:=d.trans b
 simp(disch:=(simp only[push_cast];done)) only[push_cast,g.ld0,g.ld1]
 rw[i.ldAgg (t:=z7) (by rw[yp a];exact zu)]
 refine sortOf_spec t (hm.ext c) (m.ext c) f (a.ext c).term fun s e=>?_
 exact j _ (c.trans e)
theorem nn_fixed {t:M.Tm} {n:Int} (h:M.fixedM t=some n):nnB t=true:=by
 rcases M.fixed_cases h with⟨rfl,_⟩|⟨rfl,_⟩|⟨c,b,_⟩
 ·rfl
 ·rfl
 ·exact nnB_iff.2 ⟨by omega,fun k a=>by rw[b] at a;cases a⟩
theorem fixed_spec {dv tv:Value} {mb:Nat} {ds:List M.Dcl} {t:M.Tm} (hd:DclsR F w dv ds) (hm:KindsR w mb) (H:M.declOk ds=true) (ht:TermR G w tv t) (hs:M.sortM ds t≠ -1) (J:yV0 K w G (M.ruleX ds t)):vcall PP qJ #[kO dv mb,tv] w K:=by
 apply VZ
 have a0:TermR G w tv t:=ht
 refine rs_enter (B:=fun t2 t3 t4 a4=>_) hd hm ht fun N b2 b3 b4 kv rs=>?_
 have no:∀w',RS G w w' b2 b3 b4 dv kv mb ds t→M.allFixed t=false→zl PP z7 (ptr b4) (.agg ⟨zL0⟩) w' fun _ N=>vlv PP z7 (ptr b4) N fun r O=>K (.tuple #[r,.bool false]) O:=fun w' Z h=>by
  have e:M.ruleX ds t=none:=by unfold M.ruleX;rw[h];rfl
  rw[e] at J
  exact yQ Z Qg fun O rv R W=>J O rv _ R W fun x I=>by cases I
 refine zI (fun u w'=>u=[]∧Ext N w'∧M.allFixed t=true) (fun C hC=>?_) ?_
 ·simp(disch:=(simp only[push_cast];done)) only[push_cast,rs.q.ld4,rs.k.len]
  refine zh (fun a=>?_) (fun a=>?_)
  ·exact no _ rs (by unfold M.allFixed;rw[decide_eq_false (fun h=>h (nil_len.1 a))];rfl)
  ·try simp(disch:=(simp only[push_cast];done)) only[push_cast,rs.q.ld4]
   apply qQ
   apply jm
   have a3:=rs.k.small
   simp(disch:=(simp only[push_cast];done)) only[push_cast,rs.k.len]
   refine vloop_up t.ks.length (fun i u w'=>u=[.int .i64 i]∧Ext N w'∧∀j,j<i→(M.fixedM (t.ks.getD j default)).isSome=true) ⟨rfl,Same.refl _ _,fun j L=>absurd L (by omega)⟩ ?_
   rintro i _ _ w3 C hi ⟨rfl,p,o⟩ Q
   have z:=yj rs p
   simp only[push_cast]
   refine zh (fun b=>?_) (fun b=>?_)
   ·have E:=z.k
    simp(disch:=first|(simp only[push_cast];done)|omega) only[push_cast,E.iaddr]
    refine E.load zu (by omega) fun x I=>?_
    simp only[push_cast,List.append_nil,List.nil_append]
    apply JH
    obtain⟨cx,rfl,D⟩:=I.cells
    refine zy fun b5 w5 a1 v a2 h5=>?_
    rw[h5.ldAgg (t:=z7) (by rw[yp D];exact zu)]
    refine V3 (D.ext v).term fun w6 y=>?_
    simp only[push_cast]
    have Y:=yj z (v.trans y)
    refine y3 (fun c=>?_) (fun c=>?_)
    ·try simp only[push_cast]
     rw[decide_eq_true (by omega)]
     refine no _ Y ?_
     rw[Bool.not_eq_true'] at c
     unfold M.allFixed
     rw[Bool.and_eq_false_iff]
     right
     rw[List.all_eq_false]
     exact⟨_,M.getD_mem (l:=t.ks) (i:=i) (by omega) default,by rw[c];decide⟩
    ·rw[Bool.not_eq_false'] at c
     rw[inc64' (by omega)]
     refine Q (by omega) _ _ ⟨rfl,p.trans (v.trans y),fun j L=>?_⟩
     by_cases e:j<i
     ·exact o j e
     ·have:j=i:=by omega
      subst this;exact c
   ·try simp only[push_cast]
    rw[decide_eq_false (by omega)]
    refine hC _ _ ⟨rfl,p,?_⟩
    unfold M.allFixed
    rw[Bool.and_eq_true,decide_eq_true_eq,List.all_eq_true]
    refine⟨fun h=>a (nil_len.2 h),fun k U=>?_⟩
    obtain⟨j,L,rfl⟩:=List.getElem_of_mem U
    have:=o j (by omega)
    rwa[List.getD_eq_getElem?_getD,List.getElem?_eq_getElem L] at this
 rintro u g O ⟨rfl,S,o⟩
 have e:M.ruleX ds t=some (M.constM (M.sortM ds t) (M.evalM ds (M.zeroE ds) t)):=by unfold M.ruleX;rw[if_pos o]
 rw[e] at J
 have V:nnB t=true:=by
  unfold M.allFixed at o
  simp only[Bool.and_eq_true,decide_eq_true_eq,List.all_eq_true] at o
  refine nnB_iff.2 ⟨fun P=>?_,fun k U=>?_⟩
  ·have:=M.len_of hs
   rw[P] at this
   have h0:t.ks.length=0:=by simp[M.arity] at this;omega
   exact o.1 (List.eq_nil_of_length_eq_zero h0)
  ·obtain⟨n,hn⟩:=Option.isSome_iff_exists.1 (o.2 k U)
   exact nn_fixed hn
 refine zr fun w3 p _=>?_
 have z:=yj rs (S.trans p)
 have tm:∀{w'},RS G w w' b2 b3 b4 dv kv mb ds t→TermR (fun x=>G x∧x<w.heap.size) w' (.agg ⟨[.int .i64 t.op,.int .i64 t.a,.int .i64 t.b,.string t.s,kv]⟩) t:=fun h=>⟨kv,rfl,h.k⟩
 simp(disch:=(simp only[push_cast];done)) only[push_cast,z.f.ldAgg (t:=zG) qN,z.q.ldAgg (t:=z7) zu,z.f.ld0,z.f.ld1,true_and]
 refine ZN z.d z.m H (tm z) fun w4 T=>?_
 have A:=yj z T
 simp(disch:=(simp only[push_cast];done)) only[push_cast,A.q.ldAgg (t:=z7) zu,A.f.ld0,A.f.ld1,true_and,and_self]
 refine valueOf_specG t A.m A.d (M.zeroE_ok H) (.inr V) (tm A) hs fun w5 v=>?_
 have r5:=yj A v
 simp only[push_cast,true_and]
 refine constant_spec fun w6 v6 y X=>?_
 have Y:=yj r5 y
 exact yQ Y (rs_new r5 y X) fun w7 rv R W=>J w7 rv _ R W fun x I=>Option.some.inj I
end Go.Proofs.YtaekfnbnhjgboaaGreatDoor
end
