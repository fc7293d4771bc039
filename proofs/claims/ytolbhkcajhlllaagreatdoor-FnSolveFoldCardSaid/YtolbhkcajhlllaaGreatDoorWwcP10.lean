import Derived.Test.YtolbhkcajhlllaaGreatDoorWwcP9
/- A part of the proof. -/
set_option linter.all false
set_option maxRecDepth 9999
set_option maxHeartbeats 2000000
noncomputable section
namespace Go.M
open Go.Vc
section
mutual
def sameT:Tm->Tm->Bool
 | .mk o a b s ks,.mk o' a' b' s' ks'=>decide (o=o')&&decide (a=a')&&decide (b=b')&&decide (s=s')&&sameL ks ks'
def sameL:List Tm->List Tm->Bool
 |[],[]=>true
 |x::xs,y::ys=>sameT x y&&sameL xs ys
 |[],_::_=>false
 |_::_,[]=>false
end
theorem sameL_of {xs:List Tm} (a:∀k,k∈xs->∀y,sameT k y=true↔k=y):∀ys,sameL xs ys=true↔xs=ys:=by
 induction xs with
 |nil=>intro ys;cases ys<;>simp[sameL]
 |cons x xs ihx=>
  intro ys;cases ys with
  |nil=>simp[sameL]
  |cons y ys=>
   grind [sameL]
theorem sameT_iff:∀t u:Tm,sameT t u=true↔t=u:=by
 refine Tm.ind λt c u=>?_;cases t with
 |mk o a b s ks=>
  cases u with
  |mk o' e f g d=>
   rw[sameT,gh,sameL_of (xs:=ks) c]
   grind
instance:DecidableEq Tm:=λt u=>decidable_of_iff _ (sameT_iff t u)
theorem tm_ext {t u:Tm} (c:t.op=u.op) (d:t.a=u.a) (e:t.b=u.b) (f:t.s=u.s) (g:t.ks=u.ks):t=u:=by
 cases t;cases u
 grind [Tm.op,Tm.a,Tm.b,Tm.s,Tm.ks]
def truT:Tm:= .mk 24 0 0 nada []
def flsT:Tm:= .mk 25 0 0 nada [truT]
def fixedM (t:Tm):Option Int:=if t=truT then some 1 else if t=flsT then some 0 else if t.op=20/\t.ks=[]/\t.s=nada/\vok t.a t.b=true then some t.b else none
def isM (t:Tm) (n:Int):Bool:=decide (fixedM t=some n)
def constM (w n:Int):Tm:=if 0<w then .mk 20 w n nada [] else if n=1 then truT else flsT
def zeroE (ds:List Dcl):List Int:=List.replicate ds.length 0
theorem zeroE_ok {ds:List Dcl} (h:declOk ds=true):envOk ds (zeroE ds)=true:=by
 unfold envOk zeroE;rw[h,gF];simp only[decide_true,pC,Gb,gP];intro i hi;have hw:=dcl_wide h hi;simp_all[vok_iff,Int.pow_pos]
section
variable {ds:List Dcl} {env:List Int} {t u:Tm} {w n:Int}
theorem VU:sortM ds truT=0:=by rw[sort_leaf (formed_iff.2 ⟨rfl,rfl⟩) rfl];rfl
theorem yy0:evalM ds env truT=1:=by rw[eval_leaf (.inr (.inr rfl))];rfl
theorem Ji (a:declOk ds=true):sortM ds flsT=0:=by
 rw[sort_one a (formed_iff.2 ⟨rfl,rfl⟩) rfl];show oneM _ (sortM ds truT)=0;rw[VU];rfl
theorem yJ0 (he:envOk ds env=true):evalM ds env flsT=0:=by
 rw[(eval_no he (by rw[Ji (env_ok he).1];decide) rfl).2.2];show(1:Int)-evalM ds env truT=0;rw[yy0];rfl
theorem vec_sort {t:Tm} (c:t.op=20) (d:t.ks=[]) (e:t.s=nada) (g:vok t.a t.b=true):sortM ds t=t.a:=by
 have f:plainM t=true:=by simp[plainM,c,e]
 rw[sort_leaf (formed_iff.2 ⟨by rw[c,d];rfl,f⟩) (by grind)];simp_all[sortK]
theorem fixed_cases (h:fixedM t=some n):(t=truT/\n=1)\/(t=flsT/\n=0)\/(t.op=20/\t.ks=[]/\t.s=nada/\vok t.a t.b=true/\n=t.b):=by
 grind [fixedM]
theorem fixed_good (he:envOk ds env=true) (h:fixedM t=some n):sortM ds t≠ -1/\evalM ds env t=n/\inS (sortM ds t) n:=by
 rcases fixed_cases h with⟨rfl,rfl⟩|⟨rfl,rfl⟩|⟨a,c,d,b,rfl⟩
 ·rw[VU,yy0];exact⟨dC,rfl,.inl ⟨rfl,.inr rfl⟩⟩
 ·rw[Ji (env_ok he).1,yJ0 he];exact⟨dC,rfl,.inl ⟨rfl,.inl rfl⟩⟩
 ·rw[vec_sort a c d b,eval_leaf (.inl a),if_pos a];have:=vok_lt b;exact⟨oM,rfl,.inr b⟩
theorem isM_iff:isM t n=true↔fixedM t=some n:=by unfold isM;grind
theorem const_fixed (h:inS w n):fixedM (constM w n)=some n:=by
 unfold constM;rcases h with⟨c,b⟩|h
 ·rw[if_neg oM];rcases b with e|e
  ·rw[e,if_neg dC];rfl
  ·rw[e,if_pos rfl];rfl
 ·have hw:=vok_lt h;rw[if_pos oM];have a: ¬Tm.mk 20 w n nada []=truT:=λe=>by
   have e:(20:Int)=24:=congrArg Tm.op e;omega
  have a2: ¬Tm.mk 20 w n nada []=flsT:=λe=>by
   have e:(20:Int)=25:=congrArg Tm.op e;omega
  unfold fixedM;rw[if_neg a,if_neg a2];exact if_pos ⟨rfl,rfl,rfl,h⟩
theorem const_sort (c:declOk ds=true) (h:inS w n):sortM ds (constM w n)=w:=by
 unfold constM;rcases h with⟨a,b⟩|h
 ·rw[if_neg oM]
  grind [VU,Ji]
 ·have hw:=vok_lt h;rw[if_pos oM];exact vec_sort rfl rfl rfl h
theorem kT (he:envOk ds env=true) (h:inS w n):evalM ds env (constM w n)=n:=(fixed_good he (const_fixed h)).2.1
def allFixed (t:Tm):Bool:=decide (t.ks≠[])&&t.ks.all λk=>(fixedM k).isSome
def ruleX (ds:List Dcl) (t:Tm):Option Tm:=if allFixed t=true then some (constM (sortM ds t) (evalM ds (zeroE ds) t)) else none
def ruleB (t:Tm):Option Tm:=
 if t.op=25/\(kid t 0).op=25 then some (kid (kid t 0) 0)
 else if t.op≠23 then none
 else if isM (kid t 0) 1=true then some (kid t 1)
 else if isM (kid t 0) 0=true then some (kid t 2)
 else if kid t 1=kid t 2 then some (kid t 1) else none
def neutral (o:Int):Int:=if o=26 then 1 else 0
def ruleT (t:Tm):Option Tm:=
 if t.op=26\/t.op=27 then
  if isM (kid t 0) (neutral t.op)=true\/kid t 0=kid t 1 then some (kid t 1)
  else if isM (kid t 1) (neutral t.op)=true then some (kid t 0)
  else if isM (kid t 0) (1-neutral t.op)=true\/isM (kid t 1) (1-neutral t.op)=true then some (constM 0 (1-neutral t.op)) else none
 else none
def ruleL (ds:List Dcl) (t:Tm):Option Tm:=
 if t.op=22 then(if t.b=0/\t.a=sortM ds (kid t 0)-1 then some (kid t 0) else none)
 else if(t.op=1\/t.op=2)/\(kid t 0).op=t.op then some (kid (kid t 0) 0) else none
def ruleW (ds:List Dcl) (t:Tm):Option Tm:=
 if t.ks.length=2/\kid t 0=kid t 1 then
  if t.op=3\/t.op=4 then some (kid t 0)
  else if t.op=5\/t.op=7 then some (constM (sortM ds t) 0)
  else if t.op=15 then some (constM 0 1)
  else if t.op=16\/t.op=17 then some (constM 0 0) else none
 else none
def ruleS (t:Tm):Option Tm:=
 if t.ks.length=2 then
  if isM (kid t 1) 0=true/\(t.op=4\/t.op=5\/t.op=6\/t.op=7\/t.op=11\/t.op=12\/t.op=13) then some (kid t 0)
  else if isM (kid t 1) 0=true/\(t.op=3\/t.op=8) then some (kid t 1)
  else if isM (kid t 1) 1=true/\t.op=8 then some (kid t 0) else none
 else none
def ruleF (t:Tm):Option Tm:=
 if t.ks.length=2 then
  if isM (kid t 0) 0=true/\(t.op=4\/t.op=5\/t.op=6) then some (kid t 1)
  else if isM (kid t 0) 0=true/\(t.op=3\/t.op=8) then some (kid t 0)
  else if isM (kid t 0) 1=true/\t.op=8 then some (kid t 1) else none
 else none
def ruleA (ds:List Dcl) (t:Tm):Option Tm:=ruleX ds t <|> ruleB t <|> ruleT t <|> ruleL ds t <|> ruleW ds t <|> ruleS t <|> ruleF t
def oneT (ds:List Dcl) (t:Tm):Tm:=(ruleA ds t).getD t
def foldT (ds:List Dcl):Tm->Tm:=Tm.fold λt us=>oneT ds (.mk t.op t.a t.b t.s us)
theorem k50 (ds:List Dcl) (t:Tm):foldT ds t=oneT ds (.mk t.op t.a t.b t.s (t.ks.map (foldT ds))):=Tm.fold_eq _ t
inductive Src (t:Tm):Tm->Prop
 |kid (i:Nat) (h:i<t.ks.length):Src t (kid t i)
 |deep (i j:Nat) (h:i<t.ks.length) (h':j<(M.kid t i).ks.length):Src t (M.kid (M.kid t i) j)
 |const (w n:Int) (h:t.ks≠[]) (h':inS w n):Src t (constM w n)
structure Step (ds:List Dcl) (t u:Tm):Prop where
 src:Src t u
 sort:sortM ds u=sortM ds t
 eval:∀env,envOk ds env=true->evalM ds env u=evalM ds env t
theorem Q2 {α:Type} {a b:Option α} {x:α} (h:(a <|> b)=some x):a=some x\/(a=none/\b=some x):=by
 simp_all
theorem ks_ne {i:Nat} (h:i<t.ks.length):t.ks≠[]:=by grind
theorem len_of (hs:sortM ds t≠ -1):arity t.op=t.ks.length:=(formed_iff.1 (sort_parts hs).1).1
theorem allFixed_eval (he:envOk ds env=true) (hs:sortM ds t≠ -1) (h:allFixed t=true):evalM ds (zeroE ds) t=evalM ds env t:=by
 have d:=zeroE_ok (env_ok he).1;unfold allFixed at h;simp only[gh,decide_eq_true_eq,Gb] at h;have a:t.ks.map (vecM ds (zeroE ds))=t.ks.map (vecM ds env):=GI λk a=>by
  obtain⟨n,c⟩:=GV.1 (h.2 k a);simp_all[vecM_pair,fixed_good]
 have b:t.op≠21:=by grind [len_of,arity,List.eq_nil_of_length_eq_zero]
 rw[evalM_eq,evalM_eq,a];unfold valK;omega
theorem ruleX_step (a:declOk ds=true) (hs:sortM ds t≠ -1) (h:ruleX ds t=some u):Step ds t u:=by
 unfold ruleX at h;split at h
 ·rename_i b;obtain rfl:=(K3 h).symm;have hi:=eval_in (zeroE_ok a) t hs;refine⟨.const _ _ (by grind [allFixed]) hi,const_sort a hi,λenv he=>?_⟩
  grind [kT,allFixed_eval]
 ·cases h
theorem ruleB_step (f:declOk ds=true) (hs:sortM ds t≠ -1) (h:ruleB t=some u):Step ds t u:=by
 have g:=(sort_parts hs).1;have k:=len_of hs;unfold ruleB at h;split at h
 ·rename_i l;obtain rfl:=(K3 h).symm;have b:t.ks.length=1:=(by grind [arity]);have k0:=good_kid hs (i:=0) oM;have c:(kid t 0).ks.length=1:=(by grind [len_of]);have m:=good_kid k0 (i:=0) oM;refine⟨.deep 0 0 oM oM,?_,λenv he=>?_⟩
  ·have j:=sort_one f g b;have s1:=sort_one f (sort_parts k0).1 c
   grind [oneM]
  grind [eval_no]
 ·split at h
  ·cases h
  ·rename_i a;have a:t.op=23:=oM;have d:t.ks.length=3:=(by grind [arity]);have j:=sort_three (ds:=ds) g d;have e:=hs;rw[j] at e;have gs:sortM ds (kid t 1)=sortM ds (kid t 2):=by
    omega
   have st:sortM ds t=sortM ds (kid t 1):=by
    omega
   split at h
   ·rename_i hi;obtain rfl:=(K3 h).symm;refine⟨.kid 1 oM,st.symm,λenv he=>?_⟩;simp_all[eval_if,fixed_good,isM_iff]
   ·split at h
    ·rename_i hi;obtain rfl:=(K3 h).symm;refine⟨.kid 2 oM,by rw[st,gs],λenv he=>?_⟩;simp_all[eval_if,fixed_good,isM_iff]
    ·split at h
     ·rename_i hi;obtain rfl:=(K3 h).symm;refine⟨.kid 1 oM,st.symm,λenv he=>?_⟩;simp_all[eval_if]
     ·cases h
theorem ruleT_step (f:declOk ds=true) (hs:sortM ds t≠ -1) (h:ruleT t=some u):Step ds t u:=by
 have g:=(sort_parts hs).1;have m:=len_of hs;unfold ruleT at h;split at h
 ·rename_i k;have c:t.ks.length=2:=(by grind [arity]);have l:=sort_two f g c;have b:=hs;rw[l] at b;obtain⟨g0,g1⟩:=(both_good b).1 k;have st:sortM ds t=0:=(by simp_all[bothM]);have j:neutral t.op=1/\t.op=26\/neutral t.op=0/\t.op=27:=by
   grind [neutral]
  have ev:∀env,envOk ds env=true->inS 0 (evalM ds env (kid t 0))/\inS 0 (evalM ds env (kid t 1))/\evalM ds env t=if t.op=26 then evalM ds env (kid t 0)*evalM ds env (kid t 1) else max (evalM ds env (kid t 0)) (evalM ds env (kid t 1)):=by grind [eval_two]
  split at h
  ·rename_i hi;obtain rfl:=(K3 h).symm;refine⟨.kid 1 oM,by rw[st,g1],λenv he=>?_⟩;obtain⟨i0,i1,e⟩:=ev env he;rw[e];rcases hi with hi|hi
   ·have:=(fixed_good he (isM_iff.1 hi)).2.1
    grind [inS_zero]
   grind [inS_zero]
  ·split at h
   ·rename_i hi;obtain rfl:=(K3 h).symm;refine⟨.kid 0 oM,by rw[st,g0],λenv he=>?_⟩;obtain⟨i0,i1,e⟩:=ev env he;rw[e,(fixed_good he (isM_iff.1 hi)).2.1]
    grind [inS_zero]
   ·split at h
    ·rename_i hi;obtain rfl:=(K3 h).symm;have a:inS 0 (1-neutral t.op):=by
      rcases j with⟨d,_⟩|⟨d,_⟩<;>rw[d]
      ·exact .inl ⟨rfl,.inl rfl⟩
      ·exact .inl ⟨rfl,.inr rfl⟩
     refine⟨.const _ _ (ks_ne (i:=0) oM) a,by rw[st,const_sort f a],λenv he=>?_⟩;obtain⟨i0,i1,e⟩:=ev env he;rw[e,kT he a];rcases hi with hi|hi<;>rw[(fixed_good he (isM_iff.1 hi)).2.1]
     ·grind [inS_zero]
     grind [inS_zero]
    ·cases h
 ·cases h
theorem cut_all {w a:Int} (h:vok w a=true):cutM a (w-1) 0=a:=by
 obtain⟨b,c,d,e⟩:=vok_iff.1 h;unfold cutM
 grind [four]
theorem un_un {o w a:Int} (h:vok w a=true):unM o w (unM o w a)=a:=by
 obtain⟨b,c,d,e⟩:=vok_iff.1 h;unfold unM
 grind [four]
theorem ruleL_step (f:declOk ds=true) (hs:sortM ds t≠ -1) (h:ruleL ds t=some u):Step ds t u:=by
 have m:=(sort_parts hs).1;have r:=len_of hs;unfold ruleL at h;split at h
 ·rename_i b;split at h
  ·rename_i q;obtain rfl:=(K3 h).symm;have a:t.ks.length=1:=(by grind [arity]);have k:=sort_one f m a;have c:=hs;rw[k] at c;have g:=one_good oM c;have g2:=oM;have g3:=g.2.2 b;refine⟨.kid 0 oM,?_,λenv he=>?_⟩
   ·grind [oneM]
   ·obtain⟨_,j,e⟩:=eval_cut he hs b;rw[e];unfold vecCut;simp_all[cut_all]
  ·cases h
 ·split at h
  ·rename_i b;obtain rfl:=(K3 h).symm;have a:t.ks.length=1:=(by grind [arity]);have k0:=good_kid hs (i:=0) oM;have d:(kid t 0).op=1\/(kid t 0).op=2:=oM;have n:(kid t 0).ks.length=1:=(by grind [len_of]);have s:=good_kid k0 (i:=0) oM;have p:∀{t:Tm},sortM ds t≠ -1->(t.op=1\/t.op=2)->t.ks.length=1->sortM ds t=sortM ds (kid t 0):=λ{t} hs b a=>by
    have k:=sort_one f (sort_parts hs).1 a
    grind [oneM]
   refine⟨.deep 0 0 oM oM,?_,λenv he=>?_⟩
   ·grind
   ·obtain⟨_,j,e⟩:=eval_un he hs b.1;obtain⟨_,o,l⟩:=eval_un he k0 d;rw[e];unfold vecUn;rw[if_pos ⟨j,b.1⟩];show _=unM t.op (sortM ds (kid t 0)) (evalM ds env (kid t 0));rw[l];unfold vecUn
    grind [un_un]
  ·cases h
def binT (w n:Nat):Prop:=
 (binN 3 w n n=n/\binN 4 w n n=n/\binN 5 w n n=0/\binN 7 w n n=0)/\
 (binN 4 w n 0=n/\binN 5 w n 0=n/\binN 6 w n 0=n/\binN 7 w n 0=n/\binN 11 w n 0=n/\binN 12 w n 0=n/\binN 13 w n 0=n)/\
 (binN 3 w n 0=0/\binN 8 w n 0=0/\binN 8 w n 1=n)/\
 (binN 4 w 0 n=n/\binN 5 w 0 n=n/\binN 6 w 0 n=n/\binN 3 w 0 n=0/\binN 8 w 0 n=0/\binN 8 w 1 n=n)
instance (w n:Nat):Decidable (binT w n):=by unfold binT;infer_instance
theorem bin_tab {w n:Int} (h:vok w n=true):binT w.toNat n.toNat:=small1 (p:=binT) (by decide+kernel) h
theorem bin_parts (i:declOk ds=true) (hs:sortM ds t≠ -1) (h:t.ks.length=2) (d:3<=t.op) (c:t.op<=13):sortM ds (kid t 0)=sortM ds t/\sortM ds (kid t 1)=sortM ds t/\
  ∀env,envOk ds env=true->vok (sortM ds t) (evalM ds env (kid t 0))=true/\vok (sortM ds t) (evalM ds env (kid t 1))=true/\evalM ds env t=binN t.op.toNat (sortM ds t).toNat (evalM ds env (kid t 0)).toNat (evalM ds env (kid t 1)).toNat:=by
 have f:=sort_two i (sort_parts hs).1 h;have b:=hs;rw[f] at b;have g:=(both_good b).2 oM;have a:=g.2.2.2 oM;have st:sortM ds t=sortM ds (kid t 0):=by
  rw[f];unfold bothM;rw[if_neg oM,if_neg oM,if_neg oM,if_neg oM,if_neg oM]
 refine⟨st.symm,by rw[st,a],λenv he=>?_⟩;obtain⟨_,v0,v1,e⟩:=eval_bin he hs d oM;refine⟨by rw[st];exact v0,by rw[st,a];exact v1,?_⟩;rw[e];unfold vecBin;rw[if_pos (show vok _ _=true/\vok _ _=true from⟨v0,v1⟩),if_neg (show¬t.op=14 by omega),if_pos (show 3<=t.op/\t.op<=13/\_=_ from⟨d,c,a⟩),st];rfl
theorem nat_of {w n:Int} (h:vok w n=true):((n.toNat:Nat):Int)=n:=by have:=vok_lt h;omega
theorem ruleW_step (d:declOk ds=true) (hs:sortM ds t≠ -1) (h:ruleW ds t=some u):Step ds t u:=by
 have p:=(sort_parts hs).1;unfold ruleW at h;split at h
 ·rename_i m;obtain⟨l,m⟩:=m;split at h
  ·rename_i j;obtain rfl:=(K3 h).symm;obtain⟨k,s1,ev⟩:=bin_parts d hs l oM oM;refine⟨.kid 0 oM,k,λenv he=>?_⟩
   grind [binN,nat_of]
  ·split at h
   ·rename_i j;obtain rfl:=(K3 h).symm;obtain⟨k,s1,ev⟩:=bin_parts d hs l oM oM;have c:inS (sortM ds t) 0:=by
     have:=(ev _ (zeroE_ok d)).1;obtain⟨a,b,_,_⟩:=vok_iff.1 this;exact .inr (vok_iff.2 ⟨a,b,Pk _,Int.pow_pos dC⟩)
    refine⟨.const _ _ (ks_ne (i:=0) oM) c,const_sort d c,λenv he=>?_⟩;obtain⟨v0,v1,e⟩:=ev env he;have tb:=(bin_tab v0).1
    grind [kT]
   ·have cmp:15<=t.op->t.op<=17->sortM ds t=0/\∀env,envOk ds env=true->evalM ds env t=b2i (decide (t.op=15)):=λn o=>by
     have k:=sort_two d p l;have f:=hs;rw[k] at f;have g:=(both_good f).2 oM;refine⟨?_,λenv he=>?_⟩
     ·grind [bothM]
     simp_all[eval_cmp,vecCmp,cmpM]
    split at h
    ·rename_i j;obtain rfl:=(K3 h).symm;obtain⟨st,ev⟩:=cmp oM oM;have c:inS 0 1:= .inl ⟨rfl,.inr rfl⟩;exact⟨.const _ _ (ks_ne (i:=0) oM) c,by rw[const_sort d c,st],λenv he=>by rw[kT he c,ev env he,decide_eq_true j];rfl⟩
    ·split at h
     ·rename_i n15 j;obtain rfl:=(K3 h).symm;obtain⟨st,ev⟩:=cmp oM oM;have c:inS 0 0:= .inl ⟨rfl,.inl rfl⟩;exact⟨.const _ _ (ks_ne (i:=0) oM) c,by rw[const_sort d c,st],λenv he=>by rw[kT he c,ev env he,decide_eq_false n15];rfl⟩
     ·cases h
 ·cases h
theorem ruleS_step (d:declOk ds=true) (hs:sortM ds t≠ -1) (h:ruleS t=some u):Step ds t u:=by
 unfold ruleS at h;split at h
 ·rename_i c;split at h
  ·rename_i a;obtain rfl:=(K3 h).symm;obtain⟨b,s1,ev⟩:=bin_parts d hs c oM oM;refine⟨.kid 0 oM,b,λenv he=>?_⟩;obtain⟨v0,v1,e⟩:=ev env he;have tb:=(bin_tab v0).2.1;rw[e,(fixed_good he (isM_iff.1 a.1)).2.1];rcases a.2 with o|o|o|o|o|o|o<;>rw[o]
   ·grind [nat_of]
   ·grind [nat_of]
   ·grind [nat_of]
   ·grind [nat_of]
   ·grind [nat_of]
   ·grind [nat_of]
   grind [nat_of]
  ·split at h
   ·rename_i a;obtain rfl:=(K3 h).symm;obtain⟨b,s1,ev⟩:=bin_parts d hs c oM oM;refine⟨.kid 1 oM,s1,λenv he=>?_⟩;obtain⟨v0,v1,e⟩:=ev env he;have tb:=(bin_tab v0).2.2.1;rw[e,(fixed_good he (isM_iff.1 a.1)).2.1]
    grind
   ·split at h
    ·rename_i a;obtain rfl:=(K3 h).symm;obtain⟨b,s1,ev⟩:=bin_parts d hs c oM oM;refine⟨.kid 0 oM,b,λenv he=>?_⟩;obtain⟨v0,v1,e⟩:=ev env he;have tb:=(bin_tab v0).2.2.1;rw[e,(fixed_good he (isM_iff.1 a.1)).2.1,a.2]
     grind [nat_of]
    ·cases h
 ·cases h
theorem ruleF_step (c:declOk ds=true) (hs:sortM ds t≠ -1) (h:ruleF t=some u):Step ds t u:=by
 unfold ruleF at h;split at h
 ·rename_i b;split at h
  ·rename_i a;obtain rfl:=(K3 h).symm;obtain⟨d,s1,ev⟩:=bin_parts c hs b oM oM;refine⟨.kid 1 oM,s1,λenv he=>?_⟩;obtain⟨v0,v1,e⟩:=ev env he;have tb:=(bin_tab v1).2.2.2;rw[e,(fixed_good he (isM_iff.1 a.1)).2.1]
   grind [nat_of]
  ·split at h
   ·rename_i a;obtain rfl:=(K3 h).symm;obtain⟨d,s1,ev⟩:=bin_parts c hs b oM oM;refine⟨.kid 0 oM,d,λenv he=>?_⟩;obtain⟨v0,v1,e⟩:=ev env he;have tb:=(bin_tab v1).2.2.2;rw[e,(fixed_good he (isM_iff.1 a.1)).2.1]
    grind
   ·split at h
    ·rename_i a;obtain rfl:=(K3 h).symm;obtain⟨d,s1,ev⟩:=bin_parts c hs b oM oM;refine⟨.kid 1 oM,s1,λenv he=>?_⟩;obtain⟨v0,v1,e⟩:=ev env he;have tb:=(bin_tab v1).2.2.2;rw[e,(fixed_good he (isM_iff.1 a.1)).2.1,a.2]
     grind [nat_of]
    ·cases h
 ·cases h
theorem qc0 (a:declOk ds=true) (hs:sortM ds t≠ -1) (h:ruleA ds t=some u):Step ds t u:=by
 unfold ruleA at h;rcases Q2 h with h|⟨_,h⟩
 ·exact ruleX_step a hs h
 rcases Q2 h with h|⟨_,h⟩
 ·exact ruleB_step a hs h
 rcases Q2 h with h|⟨_,h⟩
 ·exact ruleT_step a hs h
 rcases Q2 h with h|⟨_,h⟩
 ·exact ruleL_step a hs h
 rcases Q2 h with h|⟨_,h⟩
 ·exact ruleW_step a hs h
 rcases Q2 h with h|⟨_,h⟩
 ·exact ruleS_step a hs h
 ·exact ruleF_step a hs h
theorem one_cases (a:declOk ds=true) (hs:sortM ds t≠ -1):(ruleA ds t=none/\oneT ds t=t)\/Step ds t (oneT ds t):=by
 unfold oneT;cases h:ruleA ds t with
 |none=>grind
 |some u=>exact .inr (qc0 a hs h)
end
end
section
section
variable {ds:List Dcl} {env:List Int} {t u:Tm} {w n:Int}
theorem kid_size {i:Nat} (h:i<t.ks.length):sizeM (kid t i)+1<=sizeM t/\deepM (kid t i)+1<=deepM t:=by
 have a:=szT_all t;have b:=dpT_all t;have c:=szT_mono (ks:=t.ks) (i:=i+1) (j:=t.ks.length) oM oM;have d:=dpT_mono (ks:=t.ks) (i:=i+1) (j:=t.ks.length) oM oM
 grind [szT_succ,dpT_succ,kid]
theorem size_pos:1<=sizeM t/\1<=deepM t:=by rw[sizeM_eq,Y7];omega
theorem const_size:sizeM (constM w n)<=2/\deepM (constM w n)<=2:=by
 have leaf:∀o a b s,sizeM (.mk o a b s [])=1/\deepM (.mk o a b s [])=1:=λo a b s=>by rw[sizeM_eq,Y7];exact⟨rfl,rfl⟩
 have c:sizeM truT=1/\deepM truT=1:=leaf _ _ _ _;have d:sizeM flsT=2/\deepM flsT=2:=by
  rw[sizeM_eq,Y7];show 1+(sizeM truT+0)=2/\1+max 0 (deepM truT)=2;omega
 grind [constM]
theorem src_size (h:Src t u):sizeM u<=sizeM t/\deepM u<=deepM t:=by
 cases h with
 |kid i h=>have:=kid_size h;omega
 |deep i j h a=>have:=kid_size h;have:=kid_size a;omega
 |const w n h a=>
  have b:0<t.ks.length:=(by grind);have:=kid_size (t:=t) (i:=0) b
  grind [size_pos,const_size]
theorem one_good' (a:declOk ds=true) (hs:sortM ds t≠ -1):sortM ds (oneT ds t)=sortM ds t/\(∀env,envOk ds env=true->evalM ds env (oneT ds t)=evalM ds env t)/\sizeM (oneT ds t)<=sizeM t/\deepM (oneT ds t)<=deepM t:=by
 rcases one_cases a hs with⟨_,e⟩|h
 ·grind
 ·exact⟨h.sort,h.eval,src_size h.src⟩
def remake (t:Tm) (us:List Tm):Tm:= .mk t.op t.a t.b t.s us
theorem y30 (t:Tm):remake t t.ks=t:=by cases t;rfl
theorem y20 {us:List Tm} (b:us.length=t.ks.length) (h:us.map (sortM ds)=t.ks.map (sortM ds)):sortM ds (remake t us)=sortM ds t:=by
 rw[sortM_eq ds (remake t us),sortM_eq ds t];show sortF ds (remake t us) (us.map (sortM ds))=_;rw[h];have a:formed (remake t us)=formed t:=by
  show(decide (arity t.op=(us.length:Int))&&plainM t)=_;rw[b];rfl
 unfold sortF;rw[a];rfl
theorem y40 {us:List Tm} (a:us.length=t.ks.length) (h:us.map (vecM ds env)=t.ks.map (vecM ds env)):evalM ds env (remake t us)=evalM ds env t:=by
 rw[evalM_eq,evalM_eq];show valK ds env (remake t us) (us.map (vecM ds env))=_;rw[h];rfl
theorem sum_le {f g:Tm->Nat}:∀{ks:List Tm},(∀k,k∈ks->f k<=g k)->(ks.map f).sum<=(ks.map g).sum
 |[],_=>gy _
 |k::r,h=>by
  have b:=h k gj;have c:=sum_le (ks:=r) λx a=>h x (gl _ a)
  grind
theorem max_le {f g:Tm->Nat}:∀{ks:List Tm} {a b:Nat},a<=b->(∀k,k∈ks->f k<=g k)->(ks.map f).foldl max a<=(ks.map g).foldl max b
 |[],a,b,c,_=>c
 |k::r,a,b,c,h=>by
  have e:=h k gj;simp only[Gz,List.foldl_cons];exact max_le (ks:=r) oM λx d=>h x (gl _ d)
structure Good (ds:List Dcl) (t u:Tm):Prop where
 sort:sortM ds u=sortM ds t
 eval:∀env,envOk ds env=true->evalM ds env u=evalM ds env t
 size:sizeM u<=sizeM t
 deep:deepM u<=deepM t
theorem remake_good {f:Tm->Tm} (h:∀k,k∈t.ks->Good ds k (f k)):Good ds t (remake t (t.ks.map f)):=by
 have d:(t.ks.map f).length=t.ks.length:=by grind
 refine⟨y20 d ?_,λenv he=>y40 d ?_,?_,?_⟩
 ·rw[G6];exact GI λk c=>(h k c).sort
 ·rw[G6];exact GI λk c=>by show vecM ds env (f k)=_;rw[vecM_pair,vecM_pair,(h k c).sort,(h k c).eval env he]
 ·rw[sizeM_eq,sizeM_eq t];show 1+((t.ks.map f).map sizeM).sum<=_;rw[G6];have:=sum_le (f:=sizeM∘f) (g:=sizeM) (ks:=t.ks) λk c=>(h k c).size;omega
 ·rw[Y7,Y7 t];show 1+((t.ks.map f).map deepM).foldl max 0<=_;rw[G6];have:=max_le (f:=deepM∘f) (g:=deepM) (ks:=t.ks) (a:=0) (b:=0) (gy _) λk c=>(h k c).deep;omega
theorem foldT_rem (ds:List Dcl) (t:Tm):foldT ds t=oneT ds (remake t (t.ks.map (foldT ds))):=k50 ds t
theorem fold_good (c:declOk ds=true):∀t,sortM ds t≠ -1->Good ds t (foldT ds t):=by
 refine Tm.ind λt e hs=>?_;have d:=(sort_parts hs).2.1;have a:Good ds t (remake t (t.ks.map (foldT ds))):=by grind [remake_good]
 have b:=one_good' c (t:=remake t (t.ks.map (foldT ds))) (by rw[a.sort];exact hs);rw[foldT_rem];exact⟨b.1.trans a.sort,λenv he=>(b.2.1 env he).trans (a.eval env he),gG b.2.2.1 a.size,gG b.2.2.2 a.deep⟩
theorem kids_good (a:declOk ds=true) (hs:sortM ds t≠ -1):Good ds t (remake t (t.ks.map (foldT ds))):=remake_good λk b=>fold_good a k ((sort_parts hs).2.1 k b)
def JB (ds:List Dcl):Tm->Bool:=Tm.fold λt xs=>xs.all id&&decide (oneT ds t=t)
theorem jS0 (ds:List Dcl) (t:Tm):JB ds t=((t.ks.map (JB ds)).all id&&decide (oneT ds t=t)):=Tm.fold_eq _ t
theorem Y3:JB ds t=true↔(∀k,k∈t.ks->JB ds k=true)/\oneT ds t=t:=by
 rw[jS0,gh,decide_eq_true_eq,Gb];simp_all
theorem map_id_of {f:Tm->Tm}:∀{ks:List Tm},(∀k,k∈ks->f k=k)->ks.map f=ks
 |[],_=>rfl
 |k::r,h=>by rw[Gz,h k gj,map_id_of λx a=>h x (gl _ a)]
theorem norm_fold:∀t,JB ds t=true->foldT ds t=t:=by
 refine Tm.ind λt a h=>?_
 grind [Y3,foldT_rem,map_id_of,y30]
theorem leaf_none (h:t.ks=[]) (e:t.op=20\/t.op=21\/t.op=24):ruleA ds t=none:=by
 have a:t.ks.length=0:=by rw[h];rfl
 have x:ruleX ds t=none:=by
  unfold ruleX allFixed;rw[h];rfl
 have b:ruleB t=none:=by unfold ruleB;grind
 have c:ruleT t=none:=by unfold ruleT;grind
 have d:ruleL ds t=none:=by unfold ruleL;grind
 simp_all[ruleW,ruleS,ruleF,ruleA]
theorem WR (h:t.ks=[]) (a:t.op=20\/t.op=21\/t.op=24):oneT ds t=t:=by unfold oneT;rw[leaf_none h a];rfl
theorem norm_const (b:declOk ds=true) (h:inS w n):JB ds (constM w n)=true:=by
 have c:JB ds truT=true:=(Y3 (t:=truT)).2 ⟨λk a=>(by cases a),WR rfl (.inr (.inr rfl))⟩;unfold constM;split
 ·exact(Y3 (t:= .mk 20 w n nada [])).2 ⟨λk a=>(by cases a),WR rfl (.inl rfl)⟩
 split
 ·exact c
 ·refine(Y3 (t:=flsT)).2 ⟨λk a=>?_,?_⟩
  ·have:k=truT:=by
    have:k∈[truT]:=a
    grind
   grind
  ·have d:ruleX ds flsT=some (constM 0 0):=by
    unfold ruleX;rw[if_pos (show allFixed flsT=true from rfl),Ji b,yJ0 (zeroE_ok b)]
   unfold oneT ruleA;rw[d];rfl
theorem norm_src (b:declOk ds=true) (c:∀k,k∈t.ks->JB ds k=true) (h:Src t u):JB ds u=true:=by
 cases h with
 |kid i h=>exact c _ (kid_mem h)
 |deep i j h a=>grind [Y3,kid_mem]
 |const w n h a=>exact norm_const b a
theorem fold_norm (b:declOk ds=true):∀t,sortM ds t≠ -1->JB ds (foldT ds t)=true:=by
 refine Tm.ind λt i hs=>?_;have f:=(sort_parts hs).2.1;have a:∀k,k∈(remake t (t.ks.map (foldT ds))).ks->JB ds k=true:=λk c=>by
  obtain⟨x,g,rfl⟩:=gp.1 (show k∈t.ks.map (foldT ds) from c)
  grind
 have d:=kids_good b hs;rw[foldT_rem];rcases one_cases b (t:=remake t (t.ks.map (foldT ds))) (by rw[d.sort];exact hs) with⟨_,e⟩|h
 ·rw[e];exact Y3.2 ⟨a,e⟩
 ·exact norm_src b a h.src
theorem fold_twice (a:declOk ds=true) (hs:sortM ds t≠ -1):foldT ds (foldT ds t)=foldT ds t/\oneT ds (foldT ds t)=foldT ds t/\∀k,k∈(foldT ds t).ks->foldT ds k=k:=by
 grind [fold_norm,norm_fold,Y3]
end
end
section
theorem app_getD {α:Type} {l r:List α} {i:Nat} {e:α} (h:i<l.length):(l++r).getD i e=l.getD i e:=by
 grind
end
end Go.M
namespace Go.Proofs.YtolbhkcajhlllaaGreatDoor
open Go Go.Vc Go.Proofs
section
variable {w:World} {K:oK} {F F' D G:Nat->Prop}
@[push_cast] theorem bd_TZ:yj za [] w K=K (.agg ⟨Jl⟩) w:=zR qf (us:=[]) rfl rfl
theorem tms_op {kv:Value} {ks:List M.Tm} (h:TmsR F w kv ks) {i:Nat} (hi:i<ks.length):zt zE (.pointer (some ((eaddr kv 5 i).add 0))) w K=K (nI (ks.getD i default).op) w:=by
 obtain⟨css,hs,c,a⟩:=h;obtain⟨b,e,_⟩:=(a i hi).inv;exact hs.ldField W0 oM (by rw[e];rfl)
theorem tms_kids {kv:Value} {ks:List M.Tm} (h:TmsR F w kv ks) {i:Nat} (hi:i<ks.length) (c:∀a,TmsR F w a (ks.getD i default).ks->K a w):zt zl (.pointer (some ((eaddr kv 5 i).add 4))) w K:=by
 obtain⟨css,hs,f,d⟩:=h;obtain⟨a,e,b⟩:=(d i hi).inv;rw[hs.ldField UK oM (by rw[e];rfl)];exact c a b
theorem TermSame_spec:∀(t:M.Tm) {w:World} {K:oK} {F G:Nat->Prop} {va vb:Value} {u:M.Tm},TermR F w va t->TermR G w vb u->(∀w',Ext w w'->K (.bool (decide (t=u))) w')->vcall JV #[va,vb] w K:=by
 refine M.Tm.ind λt ih w K F G va vb u ha hb T=>?_;refine zf {} Tryz.func175 ?_;obtain⟨kva,rfl,p⟩:=ha;obtain⟨kvb,rfl,D⟩:=hb;refine zk λb1 w1 a0 N a4 J=>?_;refine zk λb2 w2 a1 s a5 k=>?_;have I:=J.ext s;have f:=N.trans s;have no:∀w',Ext w w'->t≠u->K (.bool false) w':=λw' h hn=>by
  have:=T w' h;rwa[decide_eq_false hn] at this
 simp only[push_cast,I.ld0,k.ld0,I.ld1,k.ld1,I.ld2,k.ld2,I.ld3,k.ld3,I.ld4,k.ld4];refine zb (λV=>?_) (λe=>no _ f λh=>e (by rw[h]));refine zb (λW=>?_) (λe=>no _ f λh=>e (by rw[h]));refine zb (λX=>?_) (λe=>no _ f λh=>e (by rw[h]));refine zb (λY=>?_) (λe=>no _ f λh=>e (by rw[h]));refine zf {loops:=[(4,[17])]} Tryz.func211 ?_;have B:=p.ext f;have E:=D.ext f;have a8:=p.small;simp only[push_cast,B.len,E.len];refine zb (λe=>no _ f λh=>e (by rw[h])) (λel=>?_);have el:t.ks.length=u.ks.length:=oM
 refine vloop_up t.ks.length (λi x w'=>x=[nI i]/\Ext w w'/\∀j,j<i->t.ks.getD j default=u.ks.getD j default) ⟨rfl,f,λj U=>absurd U oM⟩ ?_;rintro i _ _ R C hi ⟨rfl,c,g⟩ hC;have l:=p.ext c;have L:=D.ext c;simp(disch:=first|(simp only[push_cast])|omega) only[push_cast,l.len];refine zb (λa=>?_) (λa=>?_)
 ·simp(disch:=first|(simp only[push_cast])|omega) only[push_cast,l.iaddr];refine l.load zc oM λx hx=>?_;obtain⟨cx,rfl,m⟩:=hx.cells;refine zi zp λb4 w4 a2 v a6 Z=>?_;refine stTerm Z rfl ((m.weaken (F':=λb=>b<R.heap.size) λb _ h=>h).ext v) λS O a9 h5=>?_;have o:Ext R S:=Ext.then v O λy H=>by subst H;omega
  have r:=L.ext o;simp(disch:=first|(simp only[push_cast])|omega) only[push_cast,r.iaddr];refine r.load zc oM λy H=>?_;obtain⟨cy,rfl,n⟩:=H.cells;refine zi zp λb6 w6 a3 z a7 h6=>?_;refine stTerm h6 rfl ((n.weaken (F':=λb=>b<S.heap.size) λb _ h=>h).ext z) λw7 Q aa h7=>?_;have d:Ext S w7:=Ext.then z Q λy H=>by subst H;omega
  rw[(h5.ext d).ldAgg (t:=za) (by rw[zV m];exact zc),h7.ldAgg (t:=za) (by rw[zV n];exact zc)];simp only[push_cast,gD,Gh];have q:=c.trans (o.trans d);refine ih _ (M.getD_mem oM _) (m.ext (o.trans d)).term (n.ext d).term λw8 A=>?_;simp only[push_cast];refine zn (λb=>?_) (λb=>?_)
  ·rw[gU,decide_eq_false_iff_not] at b;exact no _ (q.trans A) λh=>b (by rw[h])
  ·rw[gS,decide_eq_true_eq] at b;rw[inc64' oM];refine hC oM _ _ ⟨rfl,q.trans A,λj U=>?_⟩;by_cases e:j<i
   ·exact g j e
   ·have:j=i:=oM;subst this;exact b
 ·have:t=u:=M.tm_ext V W X Y (gW el λj J k=>by
   have:=g j oM;rwa[q0,gi J,q0,gi k] at this)
  have:=T R c;rwa[decide_eq_true ‹t=u›] at this
theorem falseTerm_spec (i:∀w' v,Ext w w'->TermR (λb=>w.heap.size<=b) w' v M.flsT->K v w'):vcall QW #[] w K:=by
 refine zf {} Tryz.func210 ?_;refine zi zp λb1 w1 k d m g=>?_;simp only[push_cast];refine zv0 (Xo (o:=24) (F:=λ_=>False)) λw2 a c n u=>?_;simp only[push_cast];have l:TmR (λb=>b≠b1/\w.heap.size<=b) w2 _ M.flsT:=(TmR.of (t:=M.flsT) u).weaken λz r _=>by
  rcases r with h|h
  ·exact h.elim
  ·exact⟨oM,oM⟩
 refine xD (g.ext c) rfl l (λx p=>p.1) λA f s e=>?_;exact i _ _ (Ext.then (d.trans c) f λy q=>by subst q;omega) (e.weaken λb j _=>j.2)
theorem constant_spec {s n:Int} (f:∀w' v,Ext w w'->TermR (λb=>w.heap.size<=b) w' v (M.constM s n)->K v w'):vcall JQ #[nI s,nI n] w K:=by
 refine zf {} Tryz.func170 ?_;refine zi zp λb1 w1 q e r l=>?_;unfold M.constM at f;simp only[push_cast];refine zb (λa=>?_) (λa=>?_)
 ·rw[if_pos a] at f;refine xD l rfl (QZ 20 s n _:TmR (λ_=>False) w1 _ _) (λx k=>k.elim) λp d i c=>?_;exact f _ _ (Ext.then e d λy h=>by subst h;omega) (c.weaken λb j _=>j.elim)
 ·rw[if_neg a] at f;refine zb (λb=>?_) (λb=>?_)
  ·rw[if_pos b] at f;refine xD l rfl (QZ 24 0 0 _:TmR (λ_=>False) w1 _ _) (λx k=>k.elim) λp d i c=>?_;exact f _ _ (Ext.then e d λy h=>by subst h;omega) (c.weaken λb j _=>j.elim)
  ·rw[if_neg b] at f;refine falseTerm_spec λw2 v g o=>?_;obtain⟨cs,rfl,m⟩:=o.cells;refine xD (l.ext g) rfl m (λx k=>oM) λp d i c=>?_;exact f _ _ (Ext.then (e.trans g) d λy h=>by subst h;omega) (c.weaken λb j _=>by have:=e.size;omega)
theorem zD0 {t:M.Tm} (h:t.op=20):M.fixedM t=if t.ks=[]/\t.s=M.nada/\M.vok t.a t.b=true then some t.b else none:=by
 unfold M.fixedM;rw[if_neg (λe=>by rw[e] at h;exact absurd h dC),if_neg (λe=>by rw[e] at h;exact absurd h dC)];by_cases c:t.ks=[]/\t.s=M.nada/\M.vok t.a t.b=true
 ·rw[if_pos c,if_pos ⟨h,c⟩]
 ·rw[if_neg c,if_neg (λx=>c x.2)]
theorem nil_len {ks:List M.Tm}:((ks.length:Int)=0)↔ks=[]:=by
 rw[<-pX];omega
theorem YI {v:Value} {t:M.Tm} (O:TermR F w v t) (R:∀w',Ext w w'->K (.tuple #[nI ((M.fixedM t).getD 0),.bool (M.fixedM t).isSome]) w'):vcall QY #[v] w K:=by
 refine zf {ord:=[oz 7 (oR 9) [(4,[5])]],cuts:=[(16388,[8])]} Tryz.func169 ?_;have A:=O;obtain⟨kv,rfl,H⟩:=O;refine zk λb1 w1 S q T m=>?_;have out:∀w' o,Ext w w'->M.fixedM t=o->K (.tuple #[nI (o.getD 0),.bool o.isSome]) w':=λw' o h e=>by rw[<-e];exact R w' h
 have U:(M.truT).s=M.nada/\(M.flsT).s=M.nada:=⟨rfl,rfl⟩;simp only[push_cast,m.ld3];refine zb (λa=>?_) (λa=>?_)
 ·refine out w1 none q ?_;have I:t.s≠M.nada:=a;unfold M.fixedM;rw[if_neg (λe=>I (by rw[e];rfl)),if_neg (λe=>I (by rw[e];rfl)),if_neg (λe=>I e.2.2.1)]
 have hs:t.s=M.nada:=by
  by_cases h:t.s=M.nada
  ·exact h
  ·exact absurd h a
 refine zo (λu w'=> ∃b:Bool,u=[.bool b]/\Ext w1 w'/\(b=true↔t.op=20/\t.ks=[]/\M.vok t.a t.b=true)) (λC D=>?_) ?_
 ·simp only[push_cast,m.ld0];refine zb (λc=>?_) (λc=>?_)
  ·simp only[push_cast,m.ld4,H.len];refine zb (λd=>?_) (λd=>?_)
   ·try simp only[push_cast,m.ld1,m.ld2]
    refine VecOk_spec λw2 i=>?_;exact D _ _ ⟨_,rfl,i,⟨λh=>⟨c,nil_len.1 d,h⟩,λh=>h.2.2⟩⟩
   ·exact D _ _ ⟨false,rfl,Same.refl _ _,⟨λh=>(by cases h),λh=>absurd (nil_len.2 h.2.1) d⟩⟩
  ·exact D _ _ ⟨false,rfl,Same.refl _ _,⟨λh=>(by cases h),λh=>absurd h.1 c⟩⟩
 rintro u g w2 ⟨b,rfl,i,N⟩;have J:=m.ext i;have j:=q.trans i;simp only[push_cast];refine zn (λc=>?_) (λc=>?_)
 ·obtain⟨c1,c2,c3⟩:=N.1 c;simp only[push_cast,J.ld2];refine out w2 (some t.b) j ?_;rw[zD0 c1,if_pos ⟨c2,hs,c3⟩]
 have z: ¬(t.op=20/\t.ks=[]/\t.s=M.nada/\M.vok t.a t.b=true):=λh=>by
  have:=N.2 ⟨h.1,h.2.1,h.2.2.2⟩;rw[c] at this;cases this
 rw[J.ldAgg (t:=za) zc]
 try simp only[push_cast]
 refine TermSame_spec t (A.ext j) (Xo (o:=24) (F:=λ_=>False)) λW r=>?_;have n:=j.trans r;refine zb (λd=>?_) (λd=>?_)
 ·exact out W (some 1) n (if_pos d)
 have B: ¬t=M.truT:=d;refine zd λX y _=>?_;have k:=n.trans y;have L:=J.ext (r.trans y);simp only[push_cast,L.ld0,true_and];refine zb (λe=>?_) (λe=>?_)
 ·simp only[push_cast,L.ldAgg (t:=za) zc,true_and];refine falseTerm_spec λY fv l G=>?_;have V:=L.ext l;simp only[push_cast,V.ldAgg (t:=za) zc,true_and,and_self];refine TermSame_spec t (A.ext (k.trans l)) G λQ E=>?_;have p:=k.trans (l.trans E);refine zb (λf=>?_) (λf=>?_)
  ·refine out Q (some 0) p ?_;unfold M.fixedM;rw[if_neg B,if_pos f]
  ·refine out Q none p ?_;unfold M.fixedM;rw[if_neg B,if_neg f,if_neg z]
 ·refine out X none k ?_;unfold M.fixedM;rw[if_neg B,if_neg (λx=>e (by rw[x];rfl)),if_neg z]
theorem jk {v:Value} {t:M.Tm} {n:Int} (i:TermR F w v t) (f:∀w',Ext w w'->K (.bool (M.isM t n)) w'):vcall qi0 #[v,nI n] w K:=by
 refine zf {} Tryz.func173 ?_;obtain⟨cs,rfl,a⟩:=i.cells;refine zk λb1 w1 g b h d=>?_;rw[d.ldAgg (t:=za) (by rw[zV a];exact zc)];refine YI (a.ext b).term λw2 c=>?_;have:=f w2 (b.trans c);unfold M.isM at this;simp only[push_cast];cases e:M.fixedM t with
 |none=>rw[e] at this;exact this
 |some m=>
  rw[e] at this;simp only[Gj] at this;exact this
theorem among_spec {v av:Value} {t:M.Tm} {xs:List Int} (z:TermR F w v t) (n:Ints G w av xs) (y:xs.length<=100) (m:∀w',Ext w w'->K (.bool (decide (t.op∈xs))) w'):vcall zn0 #[v,av] w K:=by
 refine zf {} Tryz.func176 ?_;obtain⟨kv,rfl,s⟩:=z;refine zk λb1 w1 r f x p=>?_;simp only[push_cast,p.ld0];refine zf {} Tryz.func212 ?_;refine zf {loops:=[(2,[8])]} Tryz.func251 ?_;have l:=n.ext f;simp only[push_cast,l.len];refine vloop_up xs.length (λi u w'=>u=[nI i]/\Ext w w'/\∀j,j<i->t.op≠xs.getD j 0) ⟨rfl,f,λj k=>absurd k oM⟩ ?_;rintro i _ _ o C hi ⟨rfl,c,d⟩ q;have g:=n.ext c;simp only[push_cast];refine zb (λa=>?_) (λa=>?_)
 ·simp(disch:=first|(simp only[push_cast])|omega) only[push_cast,g.iaddr,g.load];refine zb (λb=>?_) (λb=>?_)
  ·have hm:t.op∈xs:=by rw[b];exact M.getD_mem oM _
   have:=m o c;rw[decide_eq_true hm] at this
   try simp only[push_cast]
   rw[decide_eq_true oM];exact this
  ·rw[inc64' oM];refine q oM _ _ ⟨rfl,c,λj k=>?_⟩;by_cases e:j<i
   ·exact d j e
   ·have:j=i:=oM;subst this;exact b
 ·have hm: ¬t.op∈xs:=λh=>by
   obtain⟨j,k,e⟩:=gr h;have:=d j oM;rw[q0,gi k] at this;exact this e.symm
  have:=m o c;rw[decide_eq_false hm] at this;exact this
theorem chosen_spec {v:Value} {t:M.Tm} {b:Bool} (u:TermR F w v t) (k:∀w' v',Ext w w'->TermR F w' v' t->K (.tuple #[v',.bool b]) w'):vcall WH #[.bool b,v] w K:=by
 refine zf {} Tryz.func174 ?_;obtain⟨cs,rfl,a⟩:=u.cells;refine zk λb1 w1 m c q i=>?_;refine zi zp λb2 w2 n d s j=>?_;rw[(i.ext d).ldAgg (t:=za) (by rw[zV a];exact zc)];have g:=c.trans d;have o:TmR (λb=>F b/\b<w.heap.size) w2 cs t:=(a.weaken (F':=λb=>F b/\b<w.heap.size) λb h p=>⟨h,p⟩).ext g;have A:=c.size;refine xD (K:=λr w=>K (.tuple #[r,.bool b]) w) j rfl o (λx C=>oM) λD f B e=>?_;exact k _ _ (Ext.then g f λy z=>by subst z;omega) (e.weaken λb l _=>l.1)
end
end Go.Proofs.YtolbhkcajhlllaaGreatDoor
section
namespace Go.M
def allI (n:Nat) (p:Nat->Bool):Bool:=(List.range n).all p
theorem allI_iff {n:Nat} {p:Nat->Bool}:allI n p=true↔ ∀k,k<n->p k=true:=by
 grind [allI]
def litOk (m l:Int):Bool:=decide (l≠0/\ -m<=l/\l<=m)
def yS (m:Int) (xs:List Int):Bool:=allI xs.length λk=>litOk m (xs.getD k 0)&&(k==0||decide ((xs.getD (k-1) 0).natAbs<(xs.getD k 0).natAbs))
structure Cnf where
 many:Int
 list:List (List Int)
structure Sat where
 put:List Int
 why:List Int
 learned:List (List Int)
 code:Int
def cnfOk (c:Cnf):Bool:=decide (0<=c.many)&&decide (c.many<=700)&&decide (c.list.length<=2500)&&allI c.list.length λk=>yS c.many (c.list.getD k [])
def placeOf (put:List Int) (v:Nat):Nat:=match(List.range put.length).find? (λi=>(put.getD i 0).natAbs==v) with|some i=>i+1 |none=>0
theorem ZQ {n i:Nat} {p:Nat->Bool} (hi:i<n) (b:p i=true) (a:∀j,j<i->p j=false):(List.range n).find? p=some i:=by
 simp_all
theorem placeOf_zero {put:List Int} {v:Nat} (h:∀l,l∈put->l.natAbs≠v):placeOf put v=0:=by
 grind [placeOf]
theorem placeOf_pos {put:List Int} {v:Nat} (h:placeOf put v≠0):placeOf put v<=put.length/\(put.getD (placeOf put v-1) 0).natAbs=v:=by
 grind [placeOf]
def Distinct (put:List Int):Prop:=(put.map Int.natAbs).Nodup
theorem getD_meS {put:List Int} {i:Nat} (hi:i<put.length):put.getD i 0∈put:=by
 grind
theorem placeOf_at {put:List Int} (a:Distinct put) {i:Nat} (hi:i<put.length):placeOf put (put.getD i 0).natAbs=i+1:=by
 unfold placeOf;rw[ZQ hi (by simp) ?_];intro j b;have c:(put.map Int.natAbs)[j]'(by simp;omega)≠(put.map Int.natAbs)[i]'(by simp;omega):=Gp.1 a j i _ _ b
 grind
theorem placeOf_snoc {put:List Int} {l:Int} (h:∀x,x∈put->x.natAbs≠l.natAbs) (v:Nat):placeOf (put++[l]) v=if v=l.natAbs then put.length+1 else placeOf put v:=by
 by_cases b:v=l.natAbs
 ·rw[if_pos b];unfold placeOf;rw[ZQ (i:=put.length) (by simp) (by simp[b]) ?_]
  grind
 ·rw[if_neg b];by_cases c:placeOf put v=0
  ·rw[c];refine placeOf_zero λx a=>?_;rw[gk,gq] at a;rcases a with a|rfl
   ·intro e;obtain⟨i,hi,rfl⟩:=gr a;unfold placeOf at c;cases d:(List.range put.length).find? (λi=>(put.getD i 0).natAbs==v) with
    |none=>
     simp_all
    |some k=>grind
   omega
  ·unfold placeOf at c⊢;cases d:(List.range put.length).find? (λi=>(put.getD i 0).natAbs==v) with
   |none=>grind
   |some k=>
    grind [List.find?_eq_some_iff_getElem]
end Go.M
namespace Go.M
def lookM (put:List Int):List Int->Nat->Int->Bool×Nat×Int
 |[],n,x=>(false,n,x)
 |l::r,n,x=>if l∈put then(true,0,0) else if placeOf put l.natAbs=0 then lookM put r (n+1) l else lookM put r n x
theorem qv0 (put:List Int) (n:Nat) (x:Int):lookM put [] n x=(false,n,x):=rfl
theorem Qi (put:List Int) (l:Int) (r:List Int) (n:Nat) (x:Int):lookM put (l::r) n x=if l∈put then(true,0,0) else if placeOf put l.natAbs=0 then lookM put r (n+1) l else lookM put r n x:=rfl
def findM (put:List Int):List (List Int)->Int->Int->Int->Int×Int×Int
 |[],_,u,x=>(-1,u,x)
 |c::r,k,u,x=>
  match lookM put c 0 0 with
  |(true,_,_)=>findM put r (k+1) u x
  |(false,0,_)=>(k,u,x)
  |(false,1,l)=>if u<0 then findM put r (k+1) k l else findM put r (k+1) u x
  |(false,_,_)=>findM put r (k+1) u x
theorem findM_cons (put:List Int) (c:List Int) (r:List (List Int)) (k u x:Int):findM put (c::r) k u x=
  if(lookM put c 0 0).1=true then findM put r (k+1) u x else if(lookM put c 0 0).2.1=0 then(k,u,x) else
  if(lookM put c 0 0).2.1=1 then(if u<0 then findM put r (k+1) k (lookM put c 0 0).2.2 else findM put r (k+1) u x) else findM put r (k+1) u x:=by
 grind [findM]
def places (many:Nat) (put:List Int):List Int:=(List.range (many+1)).map λv=>(placeOf put v:Int)
theorem kP (many:Nat) (put:List Int):(places many put).length=many+1:=by simp[places]
theorem places_get {many:Nat} {put:List Int} {v:Nat} (h:v<=many):(places many put).getD v 0=placeOf put v:=by
 grind [places]
theorem placeOf_le (put:List Int) (v:Nat):placeOf put v<=put.length:=by
 grind [placeOf_pos]
theorem placeOf_ne_zero {put:List Int} {l:Int} (h:l∈put):placeOf put l.natAbs≠0:=by
 obtain⟨i,hi,rfl⟩:=gr h;intro e;unfold placeOf at e;cases a:(List.range put.length).find? (λj=>(put.getD j 0).natAbs==(put[i]).natAbs) with
 |none=>
  rw[pT] at a;have:=a i (gP.2 hi);simp[q0,hi] at this
 |some k=>grind
theorem mem_iff_place {put:List Int} (a:Distinct put) {l:Int}:l∈put↔placeOf put l.natAbs≠0/\put.getD (placeOf put l.natAbs-1) 0=l:=by
 constructor
 ·intro h;refine⟨placeOf_ne_zero h,?_⟩;obtain⟨i,hi,rfl⟩:=gr h;have:=placeOf_at a hi
  grind
 grind [placeOf_pos]
theorem kS {α:Type} {d:α} {xs:List α} {i:Nat} (h:i<xs.length):xs.drop i=xs.getD i d::xs.drop (i+1):=by
 simp_all
theorem getD_app_l {α:Type} {a b:List α} {d:α} {k:Nat} (h:k<a.length):(a++b).getD k d=a.getD k d:=by
 grind
theorem getD_app_r {α:Type} {a b:List α} {d:α} {j:Nat}:(a++b).getD (a.length+j) d=b.getD j d:=by
 grind
theorem Jx (v:Nat):placeOf [] v=0:=rfl
theorem x90 (many:Nat):places many []=List.replicate (many+1) 0:=by
 refine gW (by simp[places]) λi a b=>?_;simp[places,Jx]
theorem places_snoc {many:Nat} {put:List Int} {l:Int} (h:placeOf put l.natAbs=0):places many (put++[l])=(places many put).set l.natAbs (put.length+1:Nat):=by
 refine gW (by simp[places]) λi a c=>?_;simp only[places,X0,GQ] at a;rw[G8];simp only[places,Pf,pc];have b:∀x,x∈put->x.natAbs≠l.natAbs:=by grind [placeOf_ne_zero]
 grind [placeOf_snoc]
theorem distinct_snoc {put:List Int} {l:Int} (a:Distinct put) (h:placeOf put l.natAbs=0):Distinct (put++[l]):=by
 unfold Distinct;rw[gw,Gk];refine⟨a,by simp,?_⟩
 grind [placeOf_ne_zero]
theorem distinct_take {put:List Int} (a:Distinct put) (n:Nat):Distinct (put.take n):=by
 grind [Distinct]
theorem places_unsnoc {many:Nat} {put:List Int} {l:Int} (c:Distinct (put++[l])):(places many (put++[l])).set l.natAbs 0=places many put:=by
 have h:placeOf put l.natAbs=0:=by
  grind [placeOf_zero,Distinct]
 rw[places_snoc h,List.set_set];refine gW (by grind) λi a b=>?_
 grind [places]
theorem clauseOk_lit {m:Int} {xs:List Int} (h:yS m xs=true) {x:Int} (b:x∈xs):x≠0/\ -m<=x/\x<=m:=by
 obtain⟨k,a,rfl⟩:=gr b;have:=allI_iff.1 h k a
 grind [litOk]
theorem clauseOk_up {m:Int} {xs:List Int} (h:yS m xs=true):∀k,k<xs.length->k+1<=(xs.getD k 0).natAbs
 |0,a=>by have:=(clauseOk_lit h (getD_meS a)).1;omega
 |k+1,a=>by
  have b:=clauseOk_up h k oM;have:=allI_iff.1 h (k+1) a
  grind
theorem clauseOk_len {m:Nat} {xs:List Int} (h:yS m xs=true):xs.length<=m:=by
 cases c:xs.length with
 |zero=>omega
 |succ n=>
  have a:=clauseOk_up h n oM;have b:=clauseOk_lit h (getD_meS (show n<xs.length by omega));omega
def lvl (ds:List Bool) (i:Nat):Nat:=(ds.take (i+1)).count true
def levels (ds:List Bool):List Int:=(List.range ds.length).map λi=>(lvl ds i:Int)
theorem Y5 (ds:List Bool):(levels ds).length=ds.length:=by simp[levels]
theorem Qk {ds:List Bool} {i:Nat} (h:i<ds.length):(levels ds).getD i 0=lvl ds i:=by simp[levels,q0,h]
theorem lvl_le (ds:List Bool) (i:Nat):lvl ds i<=ds.length:=gG (pM) (by simp;omega)
theorem qs0 {ds:List Bool} {i:Nat} (h:ds.length<=i+1):lvl ds i=ds.count true:=by unfold lvl;rw[gC h]
theorem levels_snoc (ds:List Bool) (d:Bool):levels (ds++[d])=levels ds++[((ds.count true+d.toNat:Nat):Int)]:=by
 refine gW (by simp[levels]) λi a b=>?_;simp only[levels,X0,GQ,V0,gX] at a;by_cases hi:i<ds.length
 ·grind [levels,lvl]
 grind [levels,qs0]
theorem levels_take (ds:List Bool) (n:Nat):(levels ds).take n=levels (ds.take n):=by
 refine gW (by simp[levels]) λi a b=>?_;simp only[levels,X0,GQ,gg] at a b
 grind [levels,lvl]
def yx (why:List Int):List Bool:=why.map λy=>decide (y= -1)
theorem kq (why:List Int):(yx why).length=why.length:=by simp[yx]
theorem qU0 (why:List Int) (y:Int):yx (why++[y])=yx why++[decide (y= -1)]:=by simp[yx]
theorem zF0 (why:List Int) (n:Nat):(yx why).take n=yx (why.take n):=by simp[yx]
def backN (ds:List Bool) (L:Int):Nat->Nat
 |0=>0
 |n+1=>if L<lvl ds n then backN ds L n else n+1
theorem backN_le (ds:List Bool) (L:Int) (n:Nat):backN ds L n<=n:=by
 induction n with
 |zero=>exact gy _
 |succ n a=>unfold backN;grind
theorem lvl_take {ds:List Bool} {i n:Nat} (h:i<n):lvl (ds.take n) i=lvl ds i:=by grind [lvl]
def lvM (put:List Int) (ds:List Bool) (k:Int):Nat:=lvl ds (placeOf put k.natAbs-1)
structure TopOf (put:List Int) (ds:List Bool) (ks:List Int) (top:Nat) (xs:List Int):Prop where
 le:∀k,k∈ks->lvM put ds k<=top
 mem:∀k,k∈xs↔k∈ks/\lvM put ds k=top
 ne:top=0\/xs≠[]
 nd:xs.Nodup
def atM (c:Cnf) (s:Sat) (k:Nat):List Int:=(c.list++s.learned).getD k []
def marksOk (many:Nat) (put:List Int):Prop:=Distinct put/\∀x,x∈put->x≠0/\x.natAbs<=many
def badM (put:List Int) (k:Nat) (l:Int):Bool:=decide (l≠put.getD k 0)&&(decide (placeOf put l.natAbs=0)||(decide (l∈put)||decide ((k:Int)<=(placeOf put l.natAbs:Int)-1)))
def xh0 (put:List Int) (k:Nat) (cl:List Int):Bool:=decide (put.getD k 0∈cl)&& !((List.range cl.length).any λi=>badM put k (cl.getD i 0))
def xP0 (c:Cnf) (s:Sat) (k:Nat):Prop:=s.why.getD k 0= -1\/(0<=s.why.getD k 0/\s.why.getD k 0<c.list.length+s.learned.length/\xh0 s.put k (atM c s (s.why.getD k 0).toNat)=true)
structure satOk (many:Nat) (c:Cnf) (s:Sat):Prop where
 cnf:cnfOk c=true
 few:s.learned.length<=300
 c0:0<=s.code
 c3:s.code<=3
 len:s.put.length=s.why.length
 lrn:∀x,x∈s.learned->yS c.many x=true
 mks:marksOk many s.put
 why:∀k,k<s.why.length->xP0 c s k
end Go.M
namespace Go.M
def Srt (xs:List Int):Prop:=xs.Pairwise λa b=>a.natAbs<b.natAbs
theorem srt_ext:∀{xs ys:List Int},Srt xs->Srt ys->(∀k,k∈xs↔k∈ys)->xs=ys
 |[],[],_,_,_=>rfl
 |[],y::ys,_,_,h=>by grind [List.mem_cons_self]
 |x::xs,[],_,_,h=>by grind [List.mem_cons_self]
 |x::xs,y::ys,a,b,h=>by
  unfold Srt at a b;rw[pS] at a b;have e:x=y:=by
   grind
  subst e;rw[srt_ext (xs:=xs) (ys:=ys) a.2 b.2 λk=>?_]
  grind
theorem clauseOk_srt {m:Int} {xs:List Int} (h:yS m xs=true):Srt xs:=by
 have step:∀k,k+1<xs.length->(xs.getD k 0).natAbs<(xs.getD (k+1) 0).natAbs:=λk b=>by
  have:=allI_iff.1 h (k+1) b
  grind
 have far:∀d k,k+d+1<xs.length->(xs.getD k 0).natAbs<(xs.getD (k+d+1) 0).natAbs:=by
  intro d;induction d with
  |zero=>omega
  |succ d e=>
   grind
 unfold Srt;rw[Gp];intro i j hi c a;have:=far (j-i-1) i oM;rw[show i+(j-i-1)+1=j from by omega] at this
 grind
def Ql (many:Nat) (a b:List Int) (m:Nat):List Int:=(List.range many).filterMap λi=>
 if i+1=m then none else if((i+1:Nat):Int)∈a\/((i+1:Nat):Int)∈b then some ((i+1:Nat):Int) else if-((i+1:Nat):Int)∈a\/ -((i+1:Nat):Int)∈b then some (-((i+1:Nat):Int)) else none
theorem mem_joinM {many m:Nat} {a b:List Int} (f:∀k,k∈a++b->k.natAbs≠m-> -k∉a++b) (c:∀k,k∈a++b->k≠0/\k.natAbs<=many) (k:Int):k∈Ql many a b m↔(k∈a\/k∈b)/\k.natAbs≠m:=by
 unfold Ql;simp only[List.mem_filterMap,gP];constructor
 ·grind
 ·rintro⟨h,d⟩;have hm:k∈a++b:=(by grind);obtain⟨e,hle⟩:=c k hm;refine⟨k.natAbs-1,oM,?_⟩
  grind
theorem joinM_srt (many:Nat) (a b:List Int) (m:Nat):Srt (Ql many a b m):=by
 unfold Ql Srt;rw[List.pairwise_filterMap];refine List.Pairwise.imp ?_ List.pairwise_lt_range
 grind
theorem distinct_eq {put:List Int} (a:Distinct put) {x y:Int} (b:x∈put) (c:y∈put) (h:x.natAbs=y.natAbs):x=y:=by
 grind [mem_iff_place]
def Fls (put cl:List Int):Prop:=∀k,k∈cl-> -k∈put
def maxL (xs:List Nat):Nat:=xs.foldl max 0
theorem foldl_max_le {xs:List Nat} {a x:Nat} (h:x∈xs\/x<=a):x<=xs.foldl max a:=by
 induction xs generalizing a with
 |nil=>grind
 |cons y r b=>
  grind
theorem Z9 {xs:List Nat} {x:Nat} (h:x∈xs):x<=maxL xs:=foldl_max_le (.inl h)
theorem foldl_max_mem (xs:List Nat) (a:Nat):xs.foldl max a=a\/xs.foldl max a∈xs:=by
 induction xs generalizing a with
 |nil=>grind
 |cons y r b=>
  grind
theorem j3 {xs:List Nat}:maxL xs=0\/maxL xs∈xs:=foldl_max_mem xs 0
theorem lvl_mono {ds:List Bool} {i j:Nat} (h:i<=j):lvl ds i<=lvl ds j:=by
 unfold lvl;refine List.Sublist.count_le true ?_;have:ds.take (i+1)=(ds.take (j+1)).take (i+1):=by grind
 grind
def lastPl (put cl:List Int):Nat:=maxL (cl.map λk=>placeOf put k.natAbs)
theorem lastPl_top {put cl xs:List Int} {ds:List Bool} {top:Nat} {m:Int} (h:TopOf put ds cl top xs) (hm:m∈xs) (a:∀x,x∈xs->placeOf put x.natAbs<=placeOf put m.natAbs):placeOf put m.natAbs=lastPl put cl:=by
 have b:=(h.mem m).1 hm;have d:placeOf put m.natAbs<=lastPl put cl:=Z9 (gp.2 ⟨m,b.1,rfl⟩);rcases j3 (xs:=cl.map λk=>placeOf put k.natAbs) with e|e
 ·unfold lastPl at d⊢;omega
 ·obtain⟨q,c,e⟩:=gp.1 e;have i:placeOf put q.natAbs=lastPl put cl:=e;have j:lvM put ds m<=lvM put ds q:=lvl_mono oM;have f:=h.le q c;have g:=a q ((h.mem q).2 ⟨c,oM⟩);omega
theorem two_mem {xs:List Int} (d:xs.Nodup) (h:2<=xs.length) (p:Int):∃q,q∈xs/\q≠p:=by
 match xs,d,h with
 |a::b::r,d,_=>
  have c:a≠b:=(by grind);by_cases e:a=p
  ·exact⟨b,by simp,λf=>c (by rw[e,f])⟩
  simp_all
theorem impl_of {put cl:List Int} {k:Nat} (h:xh0 put k cl=true):put.getD k 0∈cl/\∀l,l∈cl->l≠put.getD k 0->placeOf put l.natAbs≠0/\l∉put/\placeOf put l.natAbs<=k:=by
 unfold xh0 at h;simp only[gh,decide_eq_true_eq,gU,pG] at h;refine⟨h.1,λl c a=>?_⟩;obtain⟨i,hi,rfl⟩:=gr c;have:=h.2 i (gP.2 hi);simp only[q0,gi hi,GG,badM] at this a⊢;simp only[gh,Gr,decide_eq_true_eq,not_and,not_or] at this;have b:=this a;exact⟨b.1,b.2.1,by have:=b.2.2;omega⟩
theorem false_of {put:List Int} {l:Int} (a:placeOf put l.natAbs≠0) (b:l∉put): -l∈put:=by
 grind [placeOf]
theorem lvl_decided {ds:List Bool} {i k:Nat} (c:k<ds.length) (b:ds.getD k false=true) (h:i<k):lvl ds i<lvl ds k:=by
 have a:lvl ds i<=(ds.take k).count true:=by
  unfold lvl;refine List.Sublist.count_le true ?_;have:ds.take (i+1)=(ds.take k).take (i+1):=by grind
  grind
 grind [lvl,List.take_add_one]
theorem Un {why:List Int} {k:Nat} (a:k<why.length):(yx why).getD k false=decide (why.getD k 0= -1):=by
 simp[yx,q0,a]
theorem last_reason {many:Nat} {c:Cnf} {s:Sat} (h:satOk many c s) {cl xs:List Int} {top k:Nat} (hF:Fls s.put cl) (g:TopOf s.put (yx s.why) cl top xs) (t:2<=xs.length) (C:lastPl s.put cl=k+1):
  k<s.put.length/\ -(s.put.getD k 0)∈cl/\0<=s.why.getD k 0/\s.why.getD k 0<c.list.length+s.learned.length/\xh0 s.put k (atM c s (s.why.getD k 0).toNat)=true/\
  ∃q,q∈cl/\q≠ -(s.put.getD k 0)/\lvM s.put (yx s.why) q=top:=by
 have u:=h.mks.1;obtain⟨b,f,A⟩:∃q,q∈cl/\placeOf s.put q.natAbs=k+1:=by
  grind [j3,lastPl]
 have l:=placeOf_pos (put:=s.put) (v:=b.natAbs) oM;rw[A,GM] at l;have i:k<s.put.length:=oM
 have E:s.put.getD k 0= -b:=distinct_eq u (getD_meS i) (hF b f) oM;have hle:∀q,q∈cl->placeOf s.put q.natAbs<=k+1:=λq F=>by rw[<-C];exact Z9 (gp.2 ⟨q,F,rfl⟩)
 have w:lvM s.put (yx s.why) b=top:=by
  obtain⟨x,H,-⟩:=two_mem g.nd t 0;have p:=(g.mem x).1 H;have r:=hle x p.1;have B:lvM s.put (yx s.why) x<=lvM s.put (yx s.why) b:=lvl_mono oM;have:=g.le b f;omega
 obtain⟨d,o,D⟩:=two_mem g.nd t b;have a:=(g.mem d).1 o;have z:=hle d a.1;have y:placeOf s.put d.natAbs≠k+1:=λe=>by
  have m:=placeOf_pos (put:=s.put) (v:=d.natAbs) oM;rw[e,GM] at m;have:=distinct_eq u (hF d a.1) (hF b f) oM;omega
 have n:placeOf s.put d.natAbs≠0:=by have:=placeOf_ne_zero (hF d a.1);grind
 have G:s.why.length=s.put.length:=h.len.symm;have j:s.why.getD k 0≠ -1:=λe=>by
  have r:(yx s.why).getD k false=true:=by rw[Un oM];grind
  have B:lvM s.put (yx s.why) d<lvl (yx s.why) k:=lvl_decided (by grind) r oM
  grind [lvM]
 rcases h.why k oM with e|⟨I,a2,a3⟩
 ·omega
 grind
theorem satOk.lit {many:Nat} {c:Cnf} {s:Sat} (h:satOk many c s) (e:c.many=many) {k:Nat} (j:k<c.list.length+s.learned.length) {l:Int} (f:l∈atM c s k):l≠0/\l.natAbs<=many:=by
 have a:atM c s k∈c.list++s.learned:=by
  grind [atM]
 have b:∀x,x∈c.list->yS c.many x=true:=λx g=>by
  have d:=h.cnf;unfold cnfOk at d;rw[gh] at d;obtain⟨i,hi,rfl⟩:=gr g
  grind [allI_iff]
 have:=(gk.1 a).elim (b _) (h.lrn _);have:=clauseOk_lit this f;omega
theorem learn_join {many:Nat} {c:Cnf} {s:Sat} (h:satOk many c s) (x:c.many=many) {cl xs:List Int} {top k:Nat} (hF:Fls s.put cl) (D:TopOf s.put (yx s.why) cl top xs) (E:2<=xs.length) (B:lastPl s.put cl=k+1):
  let r:=atM c s (s.why.getD k 0).toNat
  let a:=Ql many cl r (s.put.getD k 0).natAbs
  (∀l,l∈a↔(l∈cl/\l≠ -(s.put.getD k 0))\/(l∈r/\l≠s.put.getD k 0))/\Fls s.put a/\lastPl s.put a<=k/\(∀l,l∈a->lvM s.put (yx s.why) l<=top)/\∃q,q∈a/\lvM s.put (yx s.why) q=top:=by
 intro r a;obtain⟨m,z,L,M,himp,q,J,o,A⟩:=last_reason h hF D E B;have y:=h.mks.1;have N:(0:Int)∉s.put:=λe=>(h.mks.2 0 e).1 rfl;obtain⟨I,C⟩:=impl_of himp;have n:s.put.getD k 0∈s.put:=getD_meS m;have H:placeOf s.put (s.put.getD k 0).natAbs=k+1:=placeOf_at y m;generalize G:s.put.getD k 0=p at*;have t:(s.why.getD k 0).toNat<c.list.length+s.learned.length:=oM
 have F:∀l,l∈r->l≠p-> -l∈s.put:=by grind [false_of]
 have off:∀l,l∈cl++r->l.natAbs≠p.natAbs-> -l∈s.put:=λl b d=>by
  rcases gk.1 b with b|b
  ·exact hF l b
  grind
 have i:∀l,l∈cl++r->l.natAbs≠p.natAbs-> -l∉cl++r:=λl b d Q=>by
  grind [distinct_eq]
 have w:∀l,l∈cl++r->l≠0/\l.natAbs<=many:=λl b=>by
  rcases gk.1 b with b|b
  ·have:=h.mks.2 _ (hF l b);omega
  ·exact h.lit x t b
 have f:∀l,l∈a↔(l∈cl/\l≠ -p)\/(l∈r/\l≠p):=λl=>by
  have e:a=Ql many cl r p.natAbs:=(by grind);rw[e,mem_joinM i w];constructor
  ·grind
  ·rintro(⟨g,d⟩|⟨g,d⟩)
   ·refine⟨.inl g,λe=>d ?_⟩;have:=distinct_eq y (hF l g) n oM;omega
   grind
 have u:∀l,l∈a->placeOf s.put l.natAbs<=k:=λl b=>by
  rcases(f l).1 b with⟨g,d⟩|⟨g,d⟩
  ·have O:placeOf s.put l.natAbs<=k+1:=by rw[<-B];exact Z9 (gp.2 ⟨l,g,rfl⟩)
   have P:placeOf s.put l.natAbs≠k+1:=λe=>by
    have:=placeOf_pos (put:=s.put) (v:=l.natAbs) oM;rw[e,GM,G] at this;have:=distinct_eq y (hF l g) n oM;omega
   omega
  grind
 have j:lvl (yx s.why) k=top:=by
  have R:=D.le _ z;have K:lvM s.put (yx s.why) q<=lvl (yx s.why) k:=lvl_mono (by
   grind)
  grind [lvM]
 refine⟨f,λl b=>?_,?_,λl b=>?_,q,(f q).2 (.inl ⟨J,o⟩),A⟩
 ·grind
 ·grind [lastPl,j3]
 ·rw[<-j];exact lvl_mono (by grind)
def kW (put:List Int) (ds:List Bool) (cl:List Int):Nat:=maxL (cl.map (lvM put ds))
def Jp (put:List Int) (ds:List Bool) (cl:List Int):List Int:=cl.filter λk=>lvM put ds k==kW put ds cl
theorem srt_nodup {cl:List Int} (h:Srt cl):cl.Nodup:=List.Pairwise.imp (λh e=>oM) h
theorem topOf_tops {put:List Int} {ds:List Bool} {cl:List Int} (h:cl.Nodup):TopOf put ds cl (kW put ds cl) (Jp put ds cl):=by
 refine⟨λk a=>Z9 (Gc a),λk=>by simp[Jp],?_,h.sublist List.filter_sublist⟩;rcases j3 (xs:=cl.map (lvM put ds)) with e|e
 ·exact .inl e
 ·obtain⟨q,b,e⟩:=gp.1 e;have:q∈Jp put ds cl:=by simp only[Jp,Pm,beq_iff_eq];exact⟨b,e⟩
  grind
theorem topOf_top {put:List Int} {ds:List Bool} {cl xs a:List Int} {t t':Nat} (h:TopOf put ds cl t xs) (b:TopOf put ds cl t' a):t=t':=by
 have le:∀{t t':Nat} {xs a:List Int},TopOf put ds cl t xs->TopOf put ds cl t' a->t<=t':=by
  intro t t' xs a h b;rcases h.ne with e|e
  ·omega
  ·obtain⟨x,d⟩:=pg _ e;have c:=(h.mem x).1 d;have:=b.le x c.1;omega
 grind
theorem q30 {put:List Int} {ds:List Bool} {cl xs a:List Int} {t t':Nat} (h:TopOf put ds cl t xs) (b:TopOf put ds cl t' a):xs.length=a.length:=by
 have e:=topOf_top h b;subst e;exact PT (h.nd.length_le_of_subset λx c=>(b.mem x).2 ((h.mem x).1 c)) (b.nd.length_le_of_subset λx c=>(h.mem x).2 ((b.mem x).1 c))
theorem Jq {put:List Int} {ds:List Bool} {cl a xs:List Int} {t:Nat} (b:∀k,k∈cl↔k∈a) (h:TopOf put ds cl t xs):TopOf put ds a t xs:=
 ⟨λk c=>h.le k ((b k).2 c),λk=>by rw[h.mem,b],h.ne,h.nd⟩
def jx (many:Nat) (c:Cnf) (s:Sat) (cl:List Int):List Int:=
 Ql many cl (atM c s (s.why.getD (lastPl s.put cl-1) 0).toNat) (s.put.getD (lastPl s.put cl-1) 0).natAbs
def learnM (many:Nat) (c:Cnf) (s:Sat):Nat->List Int->List Int
 |0,cl=>cl
 |f+1,cl=>if(Jp s.put (yx s.why) cl).length<=1 then cl else learnM many c s f (jx many c s cl)
theorem lastPl_pos {put cl:List Int} (hF:Fls put cl) (h:cl≠[]):lastPl put cl≠0:=by
 obtain⟨q,a⟩:=pg _ h;have b:placeOf put q.natAbs<=lastPl put cl:=Z9 (gp.2 ⟨q,a,rfl⟩);have:=placeOf_ne_zero (hF q a)
 grind
theorem learnS_ok {many:Nat} {c:Cnf} {s:Sat} (h:satOk many c s) (b:c.many=many) {cl:List Int} (hF:Fls s.put cl) (hs:Srt cl) (f:2<=(Jp s.put (yx s.why) cl).length):
  Fls s.put (jx many c s cl)/\Srt (jx many c s cl)/\lastPl s.put (jx many c s cl)<lastPl s.put cl/\kW s.put (yx s.why) (jx many c s cl)=kW s.put (yx s.why) cl:=by
 have m:=topOf_tops (put:=s.put) (ds:=yx s.why) (srt_nodup hs);have d:cl≠[]:=λe=>by subst e;simp[Jp] at f
 have u:=lastPl_pos hF d;obtain⟨k,i⟩:∃k,lastPl s.put cl=k+1:=⟨lastPl s.put cl-1,oM⟩;obtain⟨hm,g,r,t,q,j,l⟩:=learn_join h b hF m f i;have e:jx many c s cl=Ql many cl (atM c s (s.why.getD k 0).toNat) (s.put.getD k 0).natAbs:=by unfold jx;grind
 rw[e];refine⟨g,joinM_srt _ _ _ _,oM,?_⟩;have a:=topOf_tops (put:=s.put) (ds:=yx s.why) (srt_nodup (joinM_srt many cl (atM c s (s.why.getD k 0).toNat) (s.put.getD k 0).natAbs));have p:=a.le q j;rcases a.ne with e|e
 ·omega
 ·obtain⟨x,n⟩:=pg _ e;have o:=(a.mem x).1 n
  grind
theorem learnM_ok {many:Nat} {c:Cnf} {s:Sat} (h:satOk many c s) (a:c.many=many):∀{f:Nat} {cl:List Int},Fls s.put cl->Srt cl->lastPl s.put cl<=f->
  Fls s.put (learnM many c s f cl)/\Srt (learnM many c s f cl)/\kW s.put (yx s.why) (learnM many c s f cl)=kW s.put (yx s.why) cl/\(Jp s.put (yx s.why) (learnM many c s f cl)).length<=1
 |0,cl,hF,hs,g=>by
  refine⟨hF,hs,rfl,?_⟩;have:cl=[]:=GH λb=>lastPl_pos hF b oM;subst this;simp[learnM,Jp]
 |f+1,cl,hF,hs,g=>by
  unfold learnM;by_cases e:(Jp s.put (yx s.why) cl).length<=1
  ·grind
  ·rw[if_neg e];obtain⟨d,a2,a3,a4⟩:=learnS_ok h a hF hs oM;obtain⟨b1,b2,b3,b4⟩:=learnM_ok h a (f:=f) d a2 oM
   grind
end Go.M
namespace Go.M
def ZW (put:List Int) (ds:List Bool) (cl:List Int):Nat:=maxL ((cl.filter λk=>decide (lvM put ds k<kW put ds cl)).map (lvM put ds))
def jZ (many:Nat) (c:Cnf) (s:Sat) (cl:List Int):Sat:=
 if kW s.put (yx s.why) cl=0 then{s with code:=2}
 else if s.learned.length=300 then{s with code:=3}
 else
  {s with
   put:=s.put.take (backN (yx s.why) (ZW s.put (yx s.why) (learnM many c s s.put.length cl)) s.put.length)
   why:=s.why.take (backN (yx s.why) (ZW s.put (yx s.why) (learnM many c s s.put.length cl)) s.put.length)
   learned:=s.learned++[learnM many c s s.put.length cl]}
def Zn (many:Nat) (put:List Int):Nat:=((List.range many).find? λi=>decide (placeOf put (i+1)=0)).getD 0+1
def goM (many:Nat) (c:Cnf) (s:Sat):Sat:=
 match findM s.put (c.list++s.learned) 0 (-1) 0 with
 |(k,u,x)=>if 0<=k then jZ many c s (atM c s k.toNat) else if 0<=u then{s with put:=s.put++[x],why:=s.why++[u]}
  else if s.put.length=many then{s with code:=1} else{s with put:=s.put++[-(Zn many s.put:Int)],why:=s.why++[-1]}
def stepM (many:Nat) (c:Cnf) (s:Sat):Sat:=if s.code=0 then goM many c s else s
def runM (many:Nat) (c:Cnf):Nat->Sat->Sat
 |0,s=>s
 |n+1,s=>runM many c n (stepM many c s)
def emptyS:Sat:=⟨[],[],[],0⟩
def ku (put cl:List Int):Prop:=∀l,l∈cl->l∉put/\placeOf put l.natAbs≠0
theorem lookM_spec (put:List Int):∀(cl:List Int) (n:Nat) (x:Int),((∃l,l∈cl/\l∈put)/\lookM put cl n x=(true,0,0))\/
  ((∀l,l∈cl->l∉put)/\∃y,lookM put cl n x=(false,n+(cl.filter λl=>decide (placeOf put l.natAbs=0)).length,y)/\(y=x/\(cl.filter λl=>decide (placeOf put l.natAbs=0))=[]\/y∈cl/\placeOf put y.natAbs=0))
 |[],n,x=> .inr ⟨by simp,x,by simp[qv0],.inl ⟨rfl,rfl⟩⟩
 |l::r,n,x=>by
  rw[Qi];by_cases b:l∈put
  ·grind
  rw[if_neg b];by_cases a:placeOf put l.natAbs=0
  ·rw[if_pos a];rcases lookM_spec put r (n+1) l with⟨⟨q,f,d⟩,e⟩|⟨c,y,e,g⟩
   ·grind
   grind
  ·rw[if_neg a];rcases lookM_spec put r n x with⟨⟨q,f,d⟩,e⟩|⟨c,y,e,g⟩
   ·grind
   grind
def unitC (put cl:List Int) (x:Int):Prop:=(∀l,l∈cl->l∉put)/\(cl.filter λl=>decide (placeOf put l.natAbs=0))=[x]
theorem look_clash {put cl:List Int}:ku put cl↔(lookM put cl 0 0).1=false/\(lookM put cl 0 0).2.1=0:=by
 rcases lookM_spec put cl 0 0 with⟨⟨l,a,c⟩,e⟩|⟨b,y,e,-⟩
 ·rw[e];exact⟨λh=>absurd c (h l a).1,λh=>by cases h.1⟩
 ·rw[e];simp only[gO,pX,true_and];rw[PQ];exact⟨λh l a=>by have:=(h l a).2;grind,λh l a=>⟨b l a,by grind⟩⟩
theorem look_unit {put cl:List Int} {x:Int}:unitC put cl x↔lookM put cl 0 0=(false,1,x):=by
 rcases lookM_spec put cl 0 0 with⟨⟨l,f,i⟩,e⟩|⟨g,y,e,a⟩
 ·rw[e];exact⟨λh=>absurd i (h.1 l f),λh=>by cases h⟩
 ·rw[e];constructor
  ·rintro⟨_,h⟩;rw[h] at a;rcases a with⟨_,b⟩|⟨a,c⟩
   ·cases b
   ·have:y∈cl.filter λl=>decide (placeOf put l.natAbs=0):=by grind
    grind
  ·intro h;simp only[Gi,true_and,gO] at h;obtain⟨d,rfl⟩:=h;refine⟨g,?_⟩;obtain⟨z,c⟩:=PR.1 d;rw[c] at a⊢;rcases a with⟨_,b⟩|⟨a,j⟩
   ·cases b
   ·have:y∈cl.filter λl=>decide (placeOf put l.natAbs=0):=by grind
    grind
def FindP (put:List Int) (L:List (List Int)) (k0 u0 x0:Int) (r:Int×Int×Int):Prop:=
 (∃i,i<L.length/\r.1=k0+(i:Nat)/\ku put (L.getD i []))\/
  (r.1= -1/\(∀cl,cl∈L->¬ku put cl)/\((0<=u0/\r.2=(u0,x0))\/
   (u0<0/\((∃i,i<L.length/\r.2.1=k0+(i:Nat)/\unitC put (L.getD i []) r.2.2/\∀j,j<i->∀x,¬unitC put (L.getD j []) x)\/
    (r.2=(u0,x0)/\∀cl,cl∈L->∀x,¬unitC put cl x)))))
theorem FindP.skip {put cl:List Int} {L:List (List Int)} {k0 d k:Int} {r:Int×Int×Int} (o: ¬ku put cl) (hu:0<=d\/ ∀x,¬unitC put cl x) (h:FindP put L (k0+1) d k r):FindP put (cl::L) k0 d k r:=by
 rcases h with⟨i,hi,f,g⟩|⟨f,g,a⟩
 ·exact .inl ⟨i+1,by grind,oM,by grind⟩
 ·refine .inr ⟨f,λc b=>(gd.1 b).elim (λe=>e▸o) (g c),?_⟩;rcases a with a|⟨l,a⟩
  ·grind
  have hu:∀x,¬unitC put cl x:=(by grind);rcases a with⟨i,hi,m,n,p⟩|⟨m,n⟩
  ·refine .inr ⟨l,.inl ⟨i+1,by grind,oM,by grind,λj q x=>?_⟩⟩;cases j with
   |zero=>grind
   |succ j=>simp_all
  grind
theorem findM_spec (put:List Int):∀(L:List (List Int)) (k0 a d:Int),0<=k0->FindP put L k0 a d (findM put L k0 a d)
 |[],k0,a,d,_=>by
  refine .inr ⟨rfl,by simp,?_⟩;by_cases h:0<=a
  ·exact .inl ⟨h,rfl⟩
  ·exact .inr ⟨oM,.inr ⟨rfl,by simp⟩⟩
 |cl::L,k0,a,d,p=>by
  rw[findM_cons];by_cases f:(lookM put cl 0 0).1=true
  ·rw[if_pos f];refine FindP.skip (λh=>?_) (.inr λx h=>?_) (findM_spec put L (k0+1) a d oM)
   ·rw[(look_clash.1 h).1] at f;cases f
   ·rw[look_unit.1 h] at f;cases f
  rw[if_neg f];have m:(lookM put cl 0 0).1=false:=(by grind);by_cases g:(lookM put cl 0 0).2.1=0
  ·rw[if_pos g];exact .inl ⟨0,by simp,by simp,by simpa using look_clash.2 ⟨m,g⟩⟩
  rw[if_neg g];have b: ¬ku put cl:=λh=>g (look_clash.1 h).2;by_cases k:(lookM put cl 0 0).2.1=1
  ·rw[if_pos k];have q:unitC put cl (lookM put cl 0 0).2.2:=look_unit.2 (by grind);by_cases hu:a<0
   ·rw[if_pos hu];rcases findM_spec put L (k0+1) k0 (lookM put cl 0 0).2.2 oM with⟨i,hi,n,o⟩|⟨n,o,r⟩
    ·exact .inl ⟨i+1,by grind,oM,by grind⟩
    ·refine .inr ⟨n,λc l=>(gd.1 l).elim (λe=>e▸b) (o c),.inr ⟨hu,.inl ⟨0,by simp,?_,?_,λj s=>oM⟩⟩⟩
     ·grind
     grind
   ·rw[if_neg hu];exact FindP.skip b (.inl oM) (findM_spec put L (k0+1) a d oM)
  ·rw[if_neg k];refine FindP.skip b (.inr λx h=>k ?_) (findM_spec put L (k0+1) a d oM);rw[look_unit.1 h]
theorem find_cases (put:List Int) (L:List (List Int)):(∃(i:Nat) (u x:Int),i<L.length/\findM put L 0 (-1) 0=((i:Int),u,x)/\ku put (L.getD i []))\/
  ((∀cl,cl∈L->¬ku put cl)/\((∃(i:Nat) (x:Int),i<L.length/\findM put L 0 (-1) 0=(-1,(i:Int),x)/\unitC put (L.getD i []) x/\∀j,j<i->∀x,¬unitC put (L.getD j []) x)\/
   (findM put L 0 (-1) 0=(-1,-1,0)/\∀cl,cl∈L->∀x,¬unitC put cl x))):=by
 have h:=findM_spec put L 0 (-1) 0 oM;generalize findM put L 0 (-1) 0=z at h;obtain⟨k,u,x⟩:=z;rcases h with⟨i,hi,a,b⟩|⟨a,b,c⟩
 ·grind
 grind
end Go.M
namespace Go.M
theorem mem_take {put:List Int} (a:Distinct put) {l:Int} {k:Nat}:l∈put.take k↔l∈put/\placeOf put l.natAbs<=k:=by
 constructor
 ·intro h;refine⟨gQ h,?_⟩;obtain⟨i,hi,rfl⟩:=gr h;simp only[gg] at hi;have:=placeOf_at a (i:=i) oM
  grind
 grind [mem_iff_place,placeOf]
theorem marksOk.zero {many:Nat} {put:List Int} (h:marksOk many put):(0:Int)∉put:=λe=>(h.2 0 e).1 rfl
theorem marksOk.neg {many:Nat} {put:List Int} (h:marksOk many put) {l:Int} (a:l∈put): -l∉put:=λb=>by
 have:=distinct_eq h.1 a b oM;have e:l=0:=oM
 subst e;exact h.zero a
theorem marksOk.take {many:Nat} {put:List Int} (h:marksOk many put) (n:Nat):marksOk many (put.take n):=⟨distinct_take h.1 n,λx a=>h.2 x (gQ a)⟩
theorem marksOk.snoc {many:Nat} {put:List Int} (h:marksOk many put) {l:Int} (c:l≠0) (d:l.natAbs<=many) (b:placeOf put l.natAbs=0):marksOk many (put++[l]):=
 ⟨distinct_snoc h.1 b,λx a=>by
  rcases gk.1 a with a|a
  ·exact h.2 x a
  grind⟩
theorem marksOk.len {many:Nat} {put:List Int} (h:marksOk many put):put.length<=many:=by
 have:=h.1.length_le_of_subset (l₂:=List.range' 1 many) λx a=>by
  obtain⟨y,b,rfl⟩:=gp.1 a;have:=h.2 y b
  grind
 grind
theorem impl_iff {many:Nat} {put cl:List Int} (h:marksOk many put) {k:Nat}:xh0 put k cl=true↔put.getD k 0∈cl/\∀l,l∈cl->l≠put.getD k 0-> -l∈put.take k:=by
 constructor
 ·intro hi;obtain⟨e,f⟩:=impl_of hi;refine⟨e,λl m d=>?_⟩;obtain⟨a,b,c⟩:=f l m d;exact(mem_take h.1).2 ⟨false_of a b,by grind⟩
 ·rintro⟨e,f⟩;unfold xh0;simp only[gh,decide_eq_true_eq,gU,pG];refine⟨e,λi hi=>?_⟩;rw[gP] at hi;have hm:cl.getD i 0∈cl:=getD_meS hi;generalize cl.getD i 0=l at hm;simp only[badM,gh,Gr,decide_eq_true_eq,not_and,not_or];intro d;have g:=(mem_take h.1).1 (f l hm d);have j:=placeOf_ne_zero g.1;rw[GZ] at g j;refine⟨j,λn=>h.neg n g.1,oM⟩
theorem clauseOk_of {m:Int} {xs:List Int} (hs:Srt xs) (h:∀l,l∈xs->l≠0/\(l.natAbs:Int)<=m):yS m xs=true:=by
 unfold yS;refine allI_iff.2 λk a=>?_;have c:=h _ (getD_meS a);rw[gh];refine⟨by simp only[litOk,decide_eq_true_eq];omega,?_⟩;simp only[Gr,beq_iff_eq,decide_eq_true_eq];by_cases b:k=0
 ·omega
 ·refine .inr ?_;have:=Gp.1 hs (k-1) k oM a oM
  grind
theorem cnfOk_clause {c:Cnf} (h:cnfOk c=true) {x:List Int} (a:x∈c.list):yS c.many x=true:=by
 unfold cnfOk at h;rw[gh] at h;obtain⟨i,hi,rfl⟩:=gr a
 grind [allI_iff]
theorem atM_mem {c:Cnf} {s:Sat} {k:Nat} (a:k<c.list.length+s.learned.length):atM c s k∈c.list++s.learned:=by
 grind [atM]
theorem satOk.cls {many:Nat} {c:Cnf} {s:Sat} (h:satOk many c s) {x:List Int} (a:x∈c.list++s.learned):yS c.many x=true:=
 (gk.1 a).elim (cnfOk_clause h.cnf) (h.lrn x)
theorem satOk.atOk {many:Nat} {c:Cnf} {s:Sat} (h:satOk many c s) {k:Nat} (a:k<c.list.length+s.learned.length):yS c.many (atM c s k)=true:=h.cls (atM_mem a)
theorem getD_take {put:List Int} {k n:Nat} (h:k<n):(put.take n).getD k 0=put.getD k 0:=by
 grind
theorem why_ext {many:Nat} {c:Cnf} {s a:Sat} {k:Nat} (hm:marksOk many s.put) (f:marksOk many a.put) (b:a.put.take (k+1)=s.put.take (k+1)) (hw:a.why.getD k 0=s.why.getD k 0) (e:∃t,a.learned=s.learned++t) (h:xP0 c s k):xP0 c a k:=by
 unfold xP0 at h⊢;rw[hw];rcases h with h|⟨i,j,m⟩
 ·omega
 obtain⟨t,o⟩:=e;have d:atM c a (s.why.getD k 0).toNat=atM c s (s.why.getD k 0).toNat:=by
  grind [atM]
 have n:a.put.getD k 0=s.put.getD k 0:=by rw[<-getD_take (show k<k+1 by omega),b,getD_take oM]
 have g:a.put.take k=s.put.take k:=by
  have:=congrArg (λl=>l.take k) b;simpa[pt] using this
 grind [impl_iff]
theorem free_spec {many:Nat} {put:List Int} (h:marksOk many put) (k:put.length≠many):1<=Zn many put/\Zn many put<=many/\placeOf put (Zn many put)=0/\∀v,1<=v->v<Zn many put->placeOf put v≠0:=by
 have hlen:=h.len;unfold Zn;cases c:(List.range many).find? λi=>decide (placeOf put (i+1)=0) with
 |none=>
  rw[pT] at c;have:(List.range' 1 many).length<=(put.map Int.natAbs).length:=by
   refine(List.nodup_range' (step:=1)).length_le_of_subset λv g=>?_;rw[List.mem_range'_1] at g;have b:=c (v-1) (gP.2 oM);rw[show v-1+1=v by omega] at b;have d:=placeOf_pos (put:=put) (v:=v) (by simpa using b);exact gp.2 ⟨_,getD_meS (show placeOf put v-1<put.length by
    have:placeOf put v≠0:=(by simpa using b);omega),d.2⟩
  grind
 |some i=>
  rw[Pe] at c;obtain⟨l,j,f,a,e⟩:=c;simp only[pc] at a;subst a;simp only[GQ] at f;refine⟨by simp,by simp;omega,by grind,λv b d=>?_⟩;simp only[GG] at d;have:=e (v-1) oM;simp only[pc,show v-1+1=v by omega] at this;simpa using this
theorem XO {put cl:List Int} (h:ku put cl):Fls put cl:=λl a=>false_of (h l a).2 (h l a).1
theorem unit_mem {put cl:List Int} {x:Int} (h:unitC put cl x):x∈cl/\placeOf put x.natAbs=0:=by
 have:x∈cl.filter λl=>decide (placeOf put l.natAbs=0):=by rw[h.2];grind
 grind
theorem unit_rest {put cl:List Int} {x l:Int} (h:unitC put cl x) (b:l∈cl) (a:l≠x): -l∈put:=by
 refine false_of (λc=>a ?_) (h.1 l b);have:l∈cl.filter λl=>decide (placeOf put l.natAbs=0):=by grind
 rw[h.2,gq] at this;exact this
theorem maxL_le {xs ys:List Nat} (h:∀x,x∈xs->x∈ys):maxL xs<=maxL ys:=by
 rcases j3 (xs:=xs) with e|e
 ·omega
 ·exact Z9 (h _ e)
theorem xf0 {xs ys:List Nat} (h:∀x,x∈xs↔x∈ys):maxL xs=maxL ys:=PT (maxL_le λx=>(h x).1) (maxL_le λx=>(h x).2)
theorem maxL_snoc (xs:List Nat) (f:List Nat) (x:Nat) (a:f=[x]):maxL (xs++f)=max (maxL xs) x:=by grind [maxL]
theorem lastPl_le {put cl:List Int}:lastPl put cl<=put.length:=by
 grind [lastPl,j3,placeOf_le]
theorem WP {many:Nat} {c:Cnf} {s:Sat} (h:satOk many c s) (a:c.many=many) {k:Nat} (d:k<c.list.length+s.learned.length) (b:ku s.put (atM c s k)):
  Fls s.put (learnM many c s s.put.length (atM c s k))/\Srt (learnM many c s s.put.length (atM c s k))/\kW s.put (yx s.why) (learnM many c s s.put.length (atM c s k))=kW s.put (yx s.why) (atM c s k)/\(Jp s.put (yx s.why) (learnM many c s s.put.length (atM c s k))).length<=1:=
 learnM_ok h a (XO b) (clauseOk_srt (h.atOk d)) lastPl_le
theorem push_ok {many:Nat} {c:Cnf} {s:Sat} (h:satOk many c s) {l y:Int} (n:l≠0) (o:l.natAbs<=many) (p:placeOf s.put l.natAbs=0)
  (m:y= -1\/(0<=y/\y<c.list.length+s.learned.length/\l∈atM c s y.toNat/\∀q,q∈atM c s y.toNat->q≠l-> -q∈s.put)):satOk many c {s with put:=s.put++[l],why:=s.why++[y]}:=by
 have hm:=h.mks.snoc n o p;have hlen:=h.len;refine⟨h.cnf,h.few,h.c0,h.c3,by grind,h.lrn,hm,λk t=>?_⟩;simp only[V0,gX] at t;by_cases i:k<s.why.length
 ·refine why_ext h.mks hm ?_ ?_ ⟨[],by simp⟩ (h.why k i)
  ·grind
  grind
 ·have e:k=s.why.length:=oM;have r:(s.why++[y]).getD k 0=y:=(by grind);unfold xP0;rw[r];rcases m with m|⟨a,b,d,f⟩
  ·omega
  ·refine .inr ⟨a,b,?_⟩;have g:(s.put++[l]).getD k 0=l:=(by grind);rw[impl_iff hm];simp only[g];refine⟨d,λq u j=>?_⟩;rw[e,<-hlen,Pl oM,gx];exact f q u j
theorem clash_ok {many:Nat} {c:Cnf} {s:Sat} (h:satOk many c s) (b:c.many=many) {k:Nat} (g:k<c.list.length+s.learned.length) (e:ku s.put (atM c s k)):satOk many c (jZ many c s (atM c s k)):=by
 unfold jZ;split
 ·exact⟨h.cnf,h.few,by simp,by simp,h.len,h.lrn,h.mks,h.why⟩
 split
 ·exact⟨h.cnf,h.few,by simp,by simp,h.len,h.lrn,h.mks,h.why⟩
 ·rename_i p;obtain⟨m,o,q,r⟩:=WP h b g e;generalize learnM many c s s.put.length (atM c s k)=cl at*;generalize backN (yx s.why) (ZW s.put (yx s.why) cl) s.put.length=n;have d:=h.few;refine⟨h.cnf,by simp;omega,h.c0,h.c3,by simp[h.len],λx a=>?_,h.mks.take n,λj f=>?_⟩
  ·rcases gk.1 a with a|a
   ·exact h.lrn x a
   ·rw[gq] at a;subst a;refine clauseOk_of o λl i=>?_;have:=h.mks.2 _ (m l i);omega
  ·simp only[gg] at f;refine why_ext h.mks (h.mks.take n) ?_ ?_ ⟨[cl],rfl⟩ (h.why j oM)
   ·grind
   grind
theorem go_ok {many:Nat} {c:Cnf} {s:Sat} (h:satOk many c s) (f:c.many=many):satOk many c (goM many c s):=by
 unfold goM;rcases find_cases s.put (c.list++s.learned) with⟨i,u,x,hi,e,m⟩|⟨p,⟨i,x,hi,e,hu,-⟩|⟨e,-⟩⟩
 ·rw[e];simp only[Int.natCast_nonneg,if_true,gm];rw[V0] at hi;exact clash_ok h f hi m
 ·rw[e];rw[V0] at hi;simp only[Int.natCast_nonneg,if_true,show¬(0:Int)<= -1 by omega,if_false];obtain⟨l,n⟩:=unit_mem hu;have j:=h.lit f hi l;refine push_ok h j.1 j.2 n (.inr ⟨oM,oM,?_,λq k g=>?_⟩)
  ·rw[gm];exact l
  ·rw[gm] at k;exact unit_rest hu k g
 ·rw[e];simp only[show¬(0:Int)<= -1 by omega,if_false];split
  ·exact⟨h.cnf,h.few,by simp,by simp,h.len,h.lrn,h.mks,h.why⟩
  ·rename_i o;obtain⟨a,b,d,-⟩:=free_spec h.mks o
   grind [push_ok]
theorem step_ok {many:Nat} {c:Cnf} {s:Sat} (h:satOk many c s) (a:c.many=many):satOk many c (stepM many c s):=by
 grind [stepM,go_ok]
theorem run_ok {many:Nat} {c:Cnf} (a:c.many=many):∀{n:Nat} {s:Sat},satOk many c s->satOk many c (runM many c n s)
 |0,_,h=>h
 |n+1,_,h=>run_ok a (n:=n) (step_ok h a)
theorem empty_ok {many:Nat} {c:Cnf} (h:cnfOk c=true):satOk many c emptyS:=⟨h,by simp[emptyS],by simp[emptyS],by simp[emptyS],rfl,by simp[emptyS],⟨G9,by simp[emptyS]⟩,by simp[emptyS]⟩
theorem run_succ (many:Nat) (c:Cnf):∀(n:Nat) (s:Sat),runM many c (n+1) s=stepM many c (runM many c n s)
 |0,_=>rfl
 |n+1,s=>run_succ many c n (stepM many c s)
theorem q60 {many:Nat} {c:Cnf} {s:Sat} (h:s.code≠0):stepM many c s=s:=if_neg h
theorem run_stop {many:Nat} {c:Cnf}:∀{n:Nat} {s:Sat},s.code≠0->runM many c n s=s
 |0,_,_=>rfl
 |n+1,s,h=>by rw[runM,q60 h,run_stop (n:=n) h]
theorem run_add (many:Nat) (c:Cnf):∀(a b:Nat) (s:Sat),runM many c (a+b) s=runM many c b (runM many c a s)
 |0,b,s=>by rw[gO];rfl
 |a+1,b,s=>by rw[show a+1+b=(a+b)+1 by omega,runM,run_add many c a b];rfl
end Go.M
namespace Go.M
theorem take_snoc' {α:Type} {xs:List α} {d:α} {i:Nat} (h:i<xs.length):xs.take (i+1)=xs.take i++[xs.getD i d]:=by
 simp_all
def sgnV (put:List Int) (v:Nat):Int:=if(v:Int)∈put then 1 else if-(v:Int)∈put then-1 else 0
def signs (many:Nat) (put:List Int):List Int:=(List.range (many+1)).map (sgnV put)
theorem signs_len (many:Nat) (put:List Int):(signs many put).length=many+1:=by simp[signs]
theorem signs_get {many:Nat} {put:List Int} {v:Nat} (h:v<=many):(signs many put).getD v 0=sgnV put v:=by
 grind [signs]
theorem q80 (many:Nat):signs many []=List.replicate (many+1) 0:=by
 refine gW (by simp[signs]) λi a b=>?_;simp[signs,sgnV]
theorem mem_place {put:List Int} {l:Int} (h:l∈put\/ -l∈put):placeOf put l.natAbs≠0:=by
 rcases h with h|h
 ·exact placeOf_ne_zero h
 ·have:=placeOf_ne_zero h;grind
theorem place_mem {put:List Int} {l:Int} (h:placeOf put l.natAbs≠0):l∈put\/ -l∈put:=by
 grind [false_of]
theorem signs_snoc {many:Nat} {put:List Int} {l:Int} (a:l≠0) (h:placeOf put l.natAbs=0):signs many (put++[l])=(signs many put).set l.natAbs (if 0<l then 1 else-1):=by
 refine gW (by simp[signs]) λi b c=>?_;rw[G8];simp only[signs,Pf,pc,sgnV,gk,gq]
 grind [mem_place]
def ky0 (put:List Int) (m:Int):Int:=if m∈put then 1 else if placeOf put m.natAbs=0 then 0 else-1
theorem sgn_pos {many:Nat} {put:List Int} (hm:marksOk many put) {m:Int} (h:0<m):sgnV put m.natAbs=ky0 put m:=by
 unfold sgnV ky0;rw[show((m.natAbs:Nat):Int)=m from by omega];by_cases a:m∈put
 ·grind
 rw[if_neg a,if_neg a];by_cases b: -m∈put
 ·simp_all[mem_place]
 grind [place_mem]
theorem sgn_neg {many:Nat} {put:List Int} (hm:marksOk many put) {m:Int} (h:m<0): -(sgnV put m.natAbs)=ky0 put m:=by
 unfold sgnV ky0;rw[show((m.natAbs:Nat):Int)= -m from by omega,Int.neg_neg];by_cases a: -m∈put
 ·rw[if_pos a,if_neg (λb=>hm.neg b a),if_neg (mem_place (.inr a))]
 grind [place_mem]
theorem sgnV_range (put:List Int) (m:Nat): -1<=sgnV put m/\sgnV put m<=1:=by
 grind [sgnV]
end Go.M
namespace Go.M
def Zq0 (put:List Int) (ds:List Bool) (v:Nat):Nat:=if placeOf put v=0 then 0 else lvl ds (placeOf put v-1)
def levs (many:Nat) (put:List Int) (ds:List Bool):List Int:=(List.range (many+1)).map λv=>(Zq0 put ds v:Int)
theorem WO (many:Nat) (put:List Int) (ds:List Bool):(levs many put ds).length=many+1:=by simp[levs]
theorem levs_get {many:Nat} {put:List Int} {ds:List Bool} {v:Nat} (h:v<=many):(levs many put ds).getD v 0=Zq0 put ds v:=by
 grind [levs]
theorem jY0 (many:Nat) (ds:List Bool):levs many [] ds=List.replicate (many+1) 0:=by
 refine gW (by simp[levs]) λi a b=>?_;simp[levs,Zq0,Jx]
theorem levs_snoc {many:Nat} {put:List Int} {ds:List Bool} {l:Int} (h:placeOf put l.natAbs=0):levs many (put++[l]) ds=(levs many put ds).set l.natAbs (lvl ds put.length:Nat):=by
 refine gW (by simp[levs]) λi a c=>?_;simp only[levs,X0,GQ] at a;rw[G8];simp only[levs,Pf,pc,Zq0];have b:∀x,x∈put->x.natAbs≠l.natAbs:=by grind [placeOf_ne_zero]
 grind [placeOf_snoc]
theorem levV_lit {put:List Int} {ds:List Bool} {l:Int} (h:placeOf put l.natAbs≠0):Zq0 put ds l.natAbs=lvM put ds l:=by unfold Zq0 lvM;grind
theorem top_step {put:List Int} {ds:List Bool} {cl:List Int} {i:Nat} (hi:i<cl.length) (k:Nat) (c:lvM put ds (cl.getD i 0)=k):
  kW put ds (cl.take (i+1))=(if kW put ds (cl.take i)<k then k else kW put ds (cl.take i))/\
  (Jp put ds (cl.take (i+1))).length=(if kW put ds (cl.take i)<k then 1 else if k=kW put ds (cl.take i) then(Jp put ds (cl.take i)).length+1 else(Jp put ds (cl.take i)).length):=by
 have e:=take_snoc' (d:=0) hi;have a:kW put ds (cl.take (i+1))=(if kW put ds (cl.take i)<k then k else kW put ds (cl.take i)):=by
  unfold kW;rw[e,gw,maxL_snoc _ _ k (by grind)]
  grind
 refine⟨a,?_⟩;have hle:∀q,q∈cl.take i->lvM put ds q<=kW put ds (cl.take i):=λq f=>Z9 (Gc f);have g:lvM put ds (cl.getD i 0)=k:=c;generalize cl.getD i 0=y at*;generalize b:kW put ds (cl.take i)=T at*;unfold Jp;rw[a,b,e,Pz,PM,List.filter_nil,g,V0]
 grind [List.filter_eq_nil_iff]
structure ArrP (many:Nat) (L arr:List Int):Prop where
 len:arr.length=many+1
 at_:∀v,v<=many->(arr.getD v 0=0/\∀k,k∈L->k.natAbs≠v)\/(arr.getD v 0∈L/\(arr.getD v 0).natAbs=v/\arr.getD v 0≠0)
theorem arr_nil (many:Nat):ArrP many [] (List.replicate (many+1) 0):=⟨by simp,λv a=> .inl ⟨by grind,by simp⟩⟩
theorem getD_set {xs:List Int} {i j:Nat} {x:Int}:(xs.set i x).getD j 0=if i=j/\j<xs.length then x else xs.getD j 0:=by
 grind
theorem arr_snoc {many:Nat} {L arr:List Int} {k:Int} (h:ArrP many L arr) (d:k≠0) (g:k.natAbs<=many):ArrP many (L++[k]) (arr.set k.natAbs k):=by
 refine⟨by simp[h.len],λv c=>?_⟩;rw[getD_set,h.len];by_cases he:k.natAbs=v
 ·grind
 ·rw[if_neg (λe=>he e.1)];rcases h.at_ v c with⟨a,b⟩|⟨a,b,f⟩
  ·grind
  grind
def zw0 (arr:List Int) (m n:Nat):List Int:=(List.range n).filterMap λi=>if i+1=m then none else if arr.getD (i+1) 0=0 then none else some (arr.getD (i+1) 0)
theorem joinA_succ (arr:List Int) (m n:Nat):zw0 arr m (n+1)=zw0 arr m n++(if n+1=m then[] else if arr.getD (n+1) 0=0 then[] else[arr.getD (n+1) 0]):=by
 unfold zw0
 grind [List.range_succ]
theorem joinA_eq {many m:Nat} {a b arr:List Int} (h:ArrP many (a++b) arr) (o:∀k,k∈a++b->k.natAbs≠m-> -k∉a++b):zw0 arr m many=Ql many a b m:=by
 unfold zw0 Ql;refine filterMap_congr' λi hi=>?_;rw[gP] at hi;by_cases hm:i+1=m
 ·grind
 rw[if_neg hm,if_neg hm];rcases h.at_ (i+1) oM with⟨d,c⟩|⟨d,c,n⟩
 ·rw[if_pos d,if_neg ?_,if_neg ?_]
  ·rintro(e|e)
   ·exact c _ (gV _ e) oM
   ·exact c _ (Gw _ e) oM
  ·rintro(e|e)
   ·exact c _ (gV _ e) oM
   ·exact c _ (Gw _ e) oM
 grind
where
 filterMap_congr' {α β:Type} {f g:α->Option β}:∀{l:List α},(∀x,x∈l->f x=g x)->l.filterMap f=l.filterMap g
  |[],_=>rfl
  |x::l,h=>by
   rw[List.filterMap_cons,List.filterMap_cons,h x gj,filterMap_congr' λy j=>h y (gl _ j)]
theorem backN_eq {ds:List Bool} {L:Int}:∀{len n:Nat},n<=len->(∀i,i<n->(lvl ds i:Int)<=L)->(n=len\/L<(lvl ds n:Int))->backN ds L len=n
 |0,n,b,a,c=>by simp[backN];omega
 |len+1,n,b,a,c=>by
  unfold backN;by_cases e:n=len+1
  ·grind
  ·have d:L<(lvl ds n:Int):=oM;have hm:lvl ds n<=lvl ds len:=lvl_mono oM;rw[if_pos oM];exact backN_eq oM a (.inr d)
theorem lastPl_eq {many:Nat} {put cl:List Int} (hm:marksOk many put) {i:Nat} (hi:i<put.length) (a:∃q,q∈cl/\q.natAbs=(put.getD i 0).natAbs) (d:∀j,i<j->j<put.length->∀q,q∈cl->q.natAbs≠(put.getD j 0).natAbs):lastPl put cl=i+1:=by
 obtain⟨q,c,e⟩:=a;have b:placeOf put q.natAbs=i+1:=by rw[e];exact placeOf_at hm.1 hi
 refine PT ?_ (by rw[<-b];exact Z9 (gp.2 ⟨q,c,rfl⟩))
 grind [lastPl,j3,placeOf_pos]
theorem lastPl_none {put cl:List Int} (h:∀j,j<put.length->∀q,q∈cl->q.natAbs≠(put.getD j 0).natAbs):lastPl put cl=0:=by
 unfold lastPl;rcases j3 (xs:=cl.map λk=>placeOf put k.natAbs) with a|a
 ·exact a
 grind [placeOf_pos]
theorem lvl_succ {ds:List Bool} {i:Nat} (h:i<ds.length):lvl ds i=(ds.take i).count true+(ds.getD i false).toNat:=by
 grind [lvl,List.take_add_one]
theorem ZU {ds:List Bool} {i:Nat} (h:i<ds.length):(ds.take (i+1)).count true=(ds.take i).count true+(ds.getD i false).toNat:=lvl_succ h
end Go.M
end
section
namespace Go.M
def wayM (put:List Int) (u:Nat):Bool:=decide ((u:Int)∈put)
end Go.M
namespace Go.M
end Go.M
namespace Go.M
end Go.M
end
section
namespace Go.M
def gateC (k:Int) (g:Gt):List (List Int):=if g.x then[[g.a,g.b,-k],[-g.a,-g.b,-k],[-g.a,g.b,k],[g.a,-g.b,k]] else[[g.a,-k],[g.b,-k],[-g.a,-g.b,k]]
def gatesC (n:Nat):Gs->Nat->List (List Int)
 |[],_=>[]
 |g::gs,i=>gateC (2+n+i) g++gatesC n gs (i+1)
def netC (n:Nat) (gs:Gs) (xs:List (List Int)):Cnf:=⟨1+n+gs.length,[1]::(gatesC n gs 0++xs)⟩
theorem mem_gates {n:Nat} {cl:List Int}:∀{gs:Gs} {i0:Nat},cl∈gatesC n gs i0↔ ∃i,∃h:i<gs.length,cl∈gateC (2+n+(i0+i:Nat)) gs[i]
 |[],i0=>by simp[gatesC]
 |g::gs,i0=>by
  simp only[gatesC,gk,mem_gates (gs:=gs)];constructor
  ·rintro(h|⟨i,hi,h⟩)
   ·grind
   ·refine⟨i+1,by grind,?_⟩
    grind
  grind
theorem absI_nat (a:Int):absI a=(a.natAbs:Int):=by unfold absI;omega
def insV (v:Nat->Bool) (n:Nat):List Bool:=(List.range n).map λi=>v (i+2)
theorem insV_len (v:Nat->Bool) (n:Nat):(insV v n).length=n:=by unfold insV;grind
theorem insV_get {v:Nat->Bool} {n i:Nat} (h:i<n):(insV v n).getD i false=v (i+2):=by
 grind [insV]
theorem gatesC_len {n:Nat}:∀(gs:Gs) (i:Nat),(gatesC n gs i).length<=4*gs.length
 |[],_=>by simp[gatesC]
 |g::gs,i=>by
  have:=gatesC_len (n:=n) gs (i+1)
  grind [gatesC,gateC]
theorem Qw {m:Int} {xs:List Int}:yS m xs=true↔ ∀k,k<xs.length->litOk m (xs.getD k 0)=true/\(k=0\/(xs.getD (k-1) 0).natAbs<(xs.getD k 0).natAbs):=by
 simp_all[yS,allI]
theorem gate_clause {n k:Nat} {g:Gt} {m:Int} (h:gateOk n k g) (hm:2+n+k<=m) {cl:List Int} (c:cl∈gateC (2+n+k) g):yS m cl=true:=by
 obtain⟨g1,g2,g3,_⟩:=h;rw[absI_nat] at g1 g2;rw[absI_nat] at g2 g3;have three:∀{p q r:Int},p.natAbs=g.a.natAbs->q.natAbs=g.b.natAbs->r.natAbs=2+n+k->yS m [p,q,r]=true:=λ{p q r} d i e=>by
  rw[Qw];intro j f;rcases(by omega:j<3)|>(λh=>(by omega:j=0\/j=1\/j=2)) with rfl|rfl|rfl
  ·exact⟨by simp[litOk];omega,.inl rfl⟩
  ·grind [litOk]
  grind [litOk]
 have two:∀{p r:Int},(p.natAbs=g.a.natAbs\/p.natAbs=g.b.natAbs)->r.natAbs=2+n+k->yS m [p,r]=true:=λ{p r} d e=>by
  rw[Qw];intro j f;rcases(by omega:j<2)|>(λh=>(by omega:j=0\/j=1)) with rfl|rfl
  ·exact⟨by simp[litOk];omega,.inl rfl⟩
  grind [litOk]
 unfold gateC at c;split at c
 ·grind
 ·simp only[gd,gn,or_false] at c;rcases c with rfl|rfl|rfl
  ·grind
  ·grind
  grind
theorem net_ok {n:Nat} {gs:Gs} {xs:List (List Int)} (d:n<=8) (a:NetG n gs) (c:xs.length<=90) (e:∀cl,cl∈xs->yS (1+n+gs.length:Nat) cl=true):cnfOk (netC n gs xs)=true:=by
 have:=a.few;have hlen:=gatesC_len (n:=n) gs 0;have b:∀cl,cl∈(netC n gs xs).list->yS (netC n gs xs).many cl=true:=λcl h=>by
  unfold netC at h⊢;rcases gd.1 h with rfl|h
  ·rw[Qw]
   grind [litOk]
  ·rcases gk.1 h with h|h
   ·obtain⟨i,hi,hm⟩:=mem_gates.1 h;rw[gO] at hm;exact gate_clause (a.gate i hi) (by grind) hm
   grind
 unfold cnfOk allI;simp only[gh,decide_eq_true_eq,Gb,gP]
 grind [netC]
end Go.M
end
section
namespace Go.M
section
variable {n:Nat} {gs:Gs} {a b:Int}
theorem put_net {g:Gt} (d:NetG n gs) (f:gateOk n gs.length g) (c:(putG n gs g).2≠0):NetG n (putG n gs g).1/\has (1+n+(putG n gs g).1.length) (putG n gs g).2:=by
 unfold putG at c⊢;split
 ·grind [has]
 ·next hm=>
  rw[if_neg hm] at c;split
  ·grind
  ·refine⟨⟨by simp;omega,λk j=>?_,?_⟩,by simp[has];omega⟩
   ·by_cases e:k<gs.length
    ·rw[PK e];exact d.gate k e
    grind
   ·rw[Gk];exact⟨d.once,by simp,λa h b i e=>hm (by grind)⟩
theorem and_net (i:NetG n gs) (g:has (1+n+gs.length) a) (h:has (1+n+gs.length) b) (c:(andG n gs a b).2≠0):NetG n (andG n gs a b).1/\has (1+n+(andG n gs a b).1.length) (andG n gs a b).2:=by
 have f:has (1+n+gs.length) (-1):=⟨dC,oM,oM⟩;unfold andG at c⊢
 repeat' split
 ·grind
 ·grind
 ·grind
 ·grind
 ·grind
 ·next c1 c2 c3 d e=>
  rw[if_neg c1,if_neg c2,if_neg c3,if_neg d,if_neg e] at c
  grind [put_net,has,gateA,gateOk,absI]
theorem xor_net (d:NetG n gs) (f:has (1+n+gs.length) a) (g:has (1+n+gs.length) b) (c:(xorG n gs a b).2≠0):NetG n (xorG n gs a b).1/\has (1+n+(xorG n gs a b).1.length) (xorG n gs a b).2:=by
 unfold xorG at c⊢
 repeat' split
 ·exact⟨d,VS g⟩
 ·exact⟨d,VS f⟩
 ·grind [has]
 ·grind [has]
 ·next c1 c2 c3 e=>
  rw[if_neg c1,if_neg c2,if_neg c3,if_neg e] at c
  grind [put_net,gateX,has,absI,gateOk,turn_zero,VS]
end
namespace Bd
variable {α β:Type}
def Hs:Nat->Bd α->(Nat->α->Prop)->Prop
 |k,.ret a,Q=>Q k a
 |k,.and x y c,Q=>has k x/\has k y/\∀l v,k<=l->has l v->Hs l (c v) Q
 |k,.xor x y c,Q=>has k x/\has k y/\∀l v,k<=l->has l v->Hs l (c v) Q
theorem Hs.bind {p:Bd α} {f:α->Bd β} {Q:Nat->α->Prop} {R:Nat->β->Prop}:∀{k:Nat},Hs k p Q->(∀l a,k<=l->p.Reach a->Q l a->Hs l (f a) R)->Hs k (p.bind f) R:=by
 induction p with
 |ret a=>exact λh g=>g _ a (gy _) rfl h
 |and x y c d|xor x y c d=>exact λ⟨e,i,h⟩ g=>⟨e,i,λl v b o=>d v (h l v b o) λm a hm n j=>g m a (gG b hm) ⟨v,n⟩ j⟩
theorem Hs.sound {n:Nat} {p:Bd α} {Q:Nat->α->Prop}:∀{gs gs':Gs} {a:α},NetG n gs->p.run n gs=some (gs',a)->Hs (1+n+gs.length) p Q->NetG n gs'/\Q (1+n+gs'.length) a:=by
 induction p with
 |ret c=>
  intro gs gs' a b h hs;simp only[run,Gj,Gi] at h;obtain⟨rfl,rfl⟩:=h;exact⟨b,hs⟩
 |and x y c f=>
  intro gs gs' a b h ⟨d,e,hs⟩
  grind [run,and_net,and_pre]
 |xor x y c f=>
  intro gs gs' a b h ⟨d,e,hs⟩
  grind [run,xor_net,xor_pre]
end Bd
abbrev HI (k:Nat) (p:Bd Int):Prop:=p.Hs k has
abbrev HL (k:Nat) (p:Bd (List Int)):Prop:=p.Hs k hasL
section
variable {k:Nat} {x y c s:Int} {xs ys:List Int}
theorem nilL:hasL k []:=λ_ h=>by cases h
theorem or_h (a:has k x) (b:has k y):HI k (orB x y):=⟨has_neg a,has_neg b,λ_ _ _ h=>has_neg h⟩
theorem jU0 (a:has k c) (f:has k x) (g:has k y):HI k (muxB c x y):=⟨a,f,λ_ _ b d=>⟨has_mono (has_neg a) b,has_mono g b,λ_ _ h e=>or_h (has_mono d h) e⟩⟩
theorem ZN0 {α:Type} {p:Bd α} {f:α->List Int} {Q:Nat->α->Prop} (c:p.Hs k Q) (b:∀l a,Q l a->hasL l (f a)):HL k (p.map f):=c.bind λl a _ _ h=>b l a h
theorem qV0 {p:Bd (List Int)} (hs:has k s) (b:HL k p):HL k (p.map (s:: ·)):=b.bind λ_ _ a _ c=>qF0.2 ⟨has_mono hs a,c⟩
theorem qg0:HL k (.ret []):=nilL
theorem sum_h:∀{xs ys:List Int} {c:Int} {k:Nat},hasL k xs->hasL k ys->has k c->HL k (sumB xs ys c)
 |[],_,_,_,_,_,_=>qg0
 |_::_,[],_,_,_,_,_=>qg0
 |x::xs,y::ys,c,k,a,b,g=>by
  obtain⟨a,d⟩:=qF0.1 a;obtain⟨b,e⟩:=qF0.1 b;exact⟨a,b,λ_ _ m f=>⟨f,has_mono g m,λ_ _ o h=>⟨has_mono a oM,has_mono b oM,λ_ _ p i=>⟨has_mono f oM,has_mono g oM,λ_ _ n j=>
   (or_h (has_mono i n) j).bind λ_ _ q _ l=>qV0 (has_mono h oM) (sum_h (d.mono oM) (e.mono oM) l)⟩⟩⟩⟩
theorem less_h:∀{xs ys:List Int} {c:Int} {k:Nat},hasL k xs->hasL k ys->has k c->HI k (lessB xs ys c)
 |[],_,_,_,_,_,h=>h
 |_::_,[],_,_,_,_,h=>h
 |x::xs,y::ys,c,k,b,a,j=>by
  obtain⟨b,d⟩:=qF0.1 b;obtain⟨a,e⟩:=qF0.1 a;exact⟨b,a,λ_ _ f g=>(jU0 g (has_mono a f) (has_mono j f)).bind λ_ _ l _ i=>less_h (d.mono oM) (e.mono oM) i⟩
theorem same_h:∀{xs ys:List Int} {c:Int} {k:Nat},hasL k xs->hasL k ys->has k c->HI k (sameB xs ys c)
 |[],_,_,_,_,_,h=>h
 |_::_,[],_,_,_,_,h=>h
 |x::xs,y::ys,c,k,a,d,i=>by
  obtain⟨a,b⟩:=qF0.1 a;obtain⟨d,e⟩:=qF0.1 d;exact⟨a,d,λ_ _ j f=>⟨has_mono i j,has_neg f,λ_ _ l g=>same_h (b.mono oM) (e.mono oM) g⟩⟩
theorem each_h {f:Int->Int->Bd Int}:∀{xs ys:List Int} {k:Nat},(∀l x y,k<=l->has l x->has l y->HI l (f x y))->hasL k xs->hasL k ys->HL k (eachB f xs ys)
 |[],_,_,_,_,_=>qg0
 |_::_,[],_,_,_,_=>qg0
 |x::xs,y::ys,k,e,a,c=>by
  obtain⟨a,b⟩:=qF0.1 a;obtain⟨c,d⟩:=qF0.1 c;exact(e k x y (gy _) a c).bind λ_ _ g _ h=>qV0 h (each_h (λl x y i=>e l x y oM) (b.mono g) (d.mono g))
theorem row_h:∀{xs:List Int} {k:Nat},hasL k xs->has k s->HL k (rowB s xs)
 |[],_,_,_=>qg0
 |x::xs,k,a,hs=>by
  obtain⟨a,b⟩:=qF0.1 a;exact⟨a,hs,λ_ _ c d=>qV0 d (row_h (b.mono c) (has_mono hs c))⟩
theorem mul_h:∀{ys:List Int} {i:Nat} {s:List Int} {k:Nat},1<=k->hasL k xs->hasL k ys->hasL k s->HL k (mulB xs ys i s)
 |[],_,_,_,_,_,_,h=>h
 |y::ys,i,s,k,g,c,a,hs=>by
  obtain⟨a,b⟩:=qF0.1 a;exact(row_h (K9 c) a).bind λ_ _ f _ d=>(sum_h (hs.mono f) (WV (Ka oM) d) (has_mone oM)).bind λ_ _ j _ e=>mul_h oM (c.mono oM) (b.mono oM) e
theorem div_h {w:List Int}:∀{n:Nat} {r q:List Int} {k:Nat},1<=k->n<=xs.length->hasL k xs->hasL k w->hasL k r->hasL k q->(divB xs w n r q).Hs k λk p=>hasL k p.1/\hasL k p.2
 |0,_,_,_,_,_,_,_,e,b=>⟨b,e⟩
 |n+1,r,q,k,i,o,c,hw,e,b=>by
  have a:hasL k (xs.getD n 0::r):=(by grind [qF0,XH]);exact(less_h a hw (has_mone i)).bind λ_ _ f _ d=>(sum_h (a.mono f) (Jf (hw.mono f)) (has_one oM)).bind λ_ _ s _ g=>
   (each_h (λl _ _ m c j=>jU0 (has_mono d oM) c j) (K9 (a.mono oM)) (K9 g)).bind λ_ _ t _ h=>
    div_h oM oM (c.mono oM) (hw.mono oM) h (hasL_set (b.mono oM) (has_neg (has_mono d oM)))
theorem shift_h {up:Bool}:∀{ys:List Int} {i:Nat} {s:List Int} {k:Nat},has k c->hasL k ys->hasL k s->HL k (shiftB up c ys i s)
 |[],_,_,_,_,_,h=>h
 |y::ys,i,s,k,j,a,hs=>by
  obtain⟨a,d⟩:=qF0.1 a;refine(each_h (λl _ _ m e b=>jU0 (has_mono a m) e b) (λx e=>?_) hs).bind λ_ _ f _ g=>shift_h (has_mono j f) (d.mono f) g
  grind [from_has]
theorem un_h {op:Int} (b:1<=k) (a:hasL k xs):HL k (unB op xs):=by
 unfold unB;split
 ·exact Jf a
 grind [sum_h,Ka,Jf,has_one]
theorem bin_h {op:Int} (c:1<=k) (a:hasL k xs) (b:hasL k ys) (e:op≠14->0<xs.length):HL k (binB op xs ys):=by
 have one:=λl (h:k<=l)=>has_mone (k:=l) (gG c h);have off:=Ka (n:=xs.length) c;have d:=div_h (q:=offsL xs.length) c (gy _) a (WV b (qF0.2 ⟨one k (gy _),nilL⟩)) off off;unfold binB
 repeat' split
 ·exact WV b a
 ·exact each_h (λ_ _ _ _ a b=>⟨a,b,λ_ _ _ h=>h⟩) a b
 ·grind [each_h,or_h]
 ·exact each_h (λ_ _ _ _ a b=>⟨a,b,λ_ _ _ h=>h⟩) a b
 ·exact sum_h a b (has_mone c)
 ·grind [sum_h,Jf,has_one]
 ·exact mul_h c a b off
 ·exact ZN0 d λ_ _ h=>h.1
 ·exact ZN0 d λ_ _ h=>h.2
 ·exact shift_h (has_mone c) b a
 ·exact shift_h (has_mone c) b a
 grind [shift_h,XH]
theorem cmp_h {op:Int} (b:1<=k) (e:hasL k xs) (f:hasL k ys) (c:xs.length=ys.length) (a:0<xs.length):HI k (cmpB op xs ys):=by
 have d:xs≠[]:=by grind
 grind [cmpB,same_h,has_one,less_h,has_mone,swap_has]
theorem seq_h {k0:Nat} {f:Tm->Bd (List Int)}:∀{ks:List Tm} {k:Nat},k0<=k->(∀t,t∈ks->∀k,k0<=k->HL k (f t))->(seqB (ks.map f)).Hs k λk rs=>∀r,r∈rs->hasL k r
 |[],_,_,_=>λ_ h=>by cases h
 |t::ks,k,b,a=>(a t gj k b).bind λ_ _ i _ c=>(seq_h (gG b i) λu hu=>a u (gl _ hu)).bind λ_ _ j _ d r g=>(gd.1 g).elim (λe=>e▸c.mono j) (d r)
end
theorem node_h {ds:List Dcl} {t:Tm} (f:declOk ds=true) (hs:sortM ds t≠ -1) {k:Nat} (m:1+bits ds<=k) {rs:List (List Int)} (p:∀r,r∈rs->hasL k r) (w:rs.length=t.ks.length)
  (n:∀i,i<t.ks.length->(rs.getD i []).length=lenS (sortM ds (kid t i))):HL k (nodeB ds t rs):=by
 obtain⟨y,z,A,s,B,C,D⟩:=node_right f hs (L:=λi=>(rs.getD i []).length) n;have c:1<=k:=by have:=bits_pos' (dpos f);omega
 have j:=arity_ops (o:=t.op) (by have:=(sort_parts hs).1;grind [formed]);have g:∀i,i<t.ks.length->hasL k (rs.getD i []):=by grind
 have u:∀i,i<t.ks.length->1<=(rs.getD i []).length->has k ((rs.getD i []).getD 0 0):=by grind [XH]
 have one:∀{v:Int} {l:Nat},has l v->hasL l [v]:=λh=>qF0.2 ⟨h,nilL⟩;have d:25<=t.op->∀i,i<(if t.op=25 then 1 else 2)->has k ((rs.getD i []).getD 0 0):=by grind
 unfold nodeB
 repeat' split
 ·exact fix_has c
 ·next h=>exact name_has f (by simp_all[name_found,findD_lt]) m
 ·exact one (has_one c)
 ·next h=>exact one (has_neg (d oM 0 (by grind)))
 ·next e h=>exact⟨d oM 0 (by grind),d oM 1 (by grind),λ_ _ _ h=>one h⟩
 ·next e _ h=>exact(or_h (d oM 0 (by grind)) (d oM 1 (by grind))).bind λ_ _ _ _ h=>one h
 ·grind [each_h,jU0,has_mono]
 ·next h=>exact λx q=>g 0 oM x (GY (gQ q))
 ·grind [un_h]
 ·next h=>
  obtain⟨a,b,_⟩:=s h.1 h.2;exact(cmp_h c (g 0 oM) (g 1 oM) b oM).bind λ_ _ _ _ h=>one h
 grind [bin_h]
theorem term_h {ds:List Dcl} (a:declOk ds=true):∀t:Tm,sortM ds t≠ -1->∀k:Nat,1+bits ds<=k->HL k (termB ds t):=by
 refine Tm.ind λt g hs k j=>?_;have h:=bits_pos' (dpos a);rw[termB_eq];refine(seq_h (k0:=(1+bits ds).toNat) oM λu hu l f=>g u hu ((sort_parts hs).2.1 u hu) l oM).bind λl rs f b c=>?_;obtain⟨d,e⟩:=seq_reach b;exact node_h a hs oM c d λi hi=>term_len a _ (good_kid hs hi) (e i hi)
end Go.M
end
section
namespace Go.M
variable {ds:List Dcl} {env:List Int}
def nIn (ds:List Dcl):Nat:=(bits ds).toNat
theorem nIn_eq (h:declOk ds=true):(nIn ds:Int)=bits ds/\nIn ds<=8:=by
 have:=bits_pos' (dpos h)
 grind [decl_iff,nIn]
theorem insM_n (he:envOk ds env=true):(insM ds env).length=nIn ds:=by
 have a:=(env_ok he).1;have:=insM_len (env_ok he).2.1 (dpos a);have:=(nIn_eq a).1;omega
def listB (ds:List Dcl) (ts:List Tm):Option (Gs×List (List Int)):=(seqB (ts.map (termB ds))).run (nIn ds) []
structure ListNet (ds:List Dcl) (ts:List Tm) (gs:Gs) (rs:List (List Int)):Prop where
 net:NetG (nIn ds) gs
 many:rs.length=ts.length
 has:∀r,r∈rs->hasL (1+nIn ds+gs.length) r
 len:∀i,i<ts.length->(rs.getD i []).length=lenS (sortM ds (ts.getD i default))
theorem nilG (n:Nat):NetG n []:=⟨by simp,λk h=>absurd h (by simp),G9⟩
theorem list_net {ts:List Tm} {gs:Gs} {rs:List (List Int)} (a:declOk ds=true) (hs:∀t,t∈ts->sortM ds t≠ -1) (h:listB ds ts=some (gs,rs)):ListNet ds ts gs rs:=by
 obtain⟨b,c⟩:=seq_reach (Bd.reach_of_run h);have f:=nIn_eq a;obtain⟨p1,p2⟩:=Bd.Hs.sound (nilG _) h (seq_h (k0:=1+nIn ds) (by simp) λt d k e=>term_h a t (hs t d) k oM);exact⟨p1,b,p2,λi hi=>term_len a _ (hs _ (getD_mem hi _)) (c i hi)⟩
def rootsC (rs:List (List Int)):List (List Int):=rs.map λr=>[r.getD 0 0]
def blastC (ds:List Dcl) (gs:Gs) (rs:List (List Int)):Cnf:=netC (nIn ds) gs (rootsC rs)
section
variable {ts:List Tm} {gs:Gs} {rs:List (List Int)}
theorem head_mem {r:List Int} {w:Int} (h:r.length=lenS w):r.getD 0 0∈r:=getD_mem (by unfold lenS at h;omega) 0
theorem roots_ok (n:declOk ds=true) (h:ListNet ds ts gs rs):∀cl,cl∈rootsC rs->yS (1+nIn ds+gs.length:Nat) cl=true:=λcl a=>by
 obtain⟨r,f,rfl⟩:=gp.1 a;obtain⟨i,hi,e⟩:=gr f;have d:=h.len i (by have:=h.many;omega);rw[q0,gi hi,GG,e] at d;have b:=h.has r f _ (head_mem d);refine Qw.2 λk g=>?_;simp only[gX] at g;have c:k=0:=oM
 subst c;refine⟨?_,.inl rfl⟩;show litOk _ (r.getD 0 0)=true;have j:=b.1;have l:=b.2.1;have m:=b.2.2
 grind [litOk]
end
end Go.M
end
namespace Go.Proofs.YtolbhkcajhlllaaGreatDoor
open Go Go.Vc Go.Proofs
section
variable {w:World} {K:oK} {F F':Nat->Prop} {n:Nat} {v:Value} {t:M.Tm} {ar ab:Addr}
theorem wpInts_spec {va vb:Value} {a b:List Int} (o:Ints F w va a) (q:Ints F' w vb b) (n:∀w',Ext w w'->K (.bool (decide (a=b))) w'):vcall WC #[va,vb] w K:=by
 refine zf {ord:=[oz 6 (oR 9) [(0,[1,4,5,6,7]),(1,[4,5,6,7]),(2,[4,5,6,7]),(3,[4,5,6,7]),(4,[5])]],loops:=[(4,[5])]} Tryz.func26 ?_;have t:a.length<=9223372036854775807:=by obtain⟨_,_,_,l,k,_⟩:=o.shape;simp at l;omega
 simp only[push_cast,o.len,q.len];refine zb (λh=>?_) (λh=>?_)
 ·have:=n w (Same.refl _ _);rwa[decide_eq_false (λe=>h (by rw[e]))] at this
 refine vloop_up a.length (λi u w'=>u=[nI i]/\Ext w w'/\∀j,j<i->a.getD j 0=b.getD j 0) ⟨rfl,Same.refl _ _,oM⟩ ?_;rintro i _ _ w1 C hi ⟨rfl,he,r⟩ s;have d:=o.ext he;have p:=q.ext he;simp only[push_cast,d.len];refine zb (λk=>?_) (λk=>?_)
 ·refine zd λw2 c _=>?_;have f:=d.ext c;have g:=p.ext c;simp(disch:=first|(simp only[push_cast])|omega) only[push_cast,f.iaddr,f.load,g.iaddr,g.load,true_and];refine zb (λm=>?_) (λm=>?_)
  ·have:=n w2 (he.trans c);rwa[decide_eq_false (λe=>m (by rw[e]))] at this
  ·simp(disch:=omega) only[push_cast,zj];refine s oM _ _ ⟨rfl,he.trans c,λj v=>?_⟩;by_cases e:j=i
   ·subst e;simpa using m
   ·exact r j oM
 ·have:=n w1 he;rwa[decide_eq_true (gW oM λj l k=>by have:=r j oM;simpa[q0,l,k] using this)] at this
theorem Errs.ext0 {w':World} (h:Errs (λ_=>False) w ar ab) (he:Ext w w'):Errs (λ_=>False) w' ar ab:=⟨h.room.same he id,h.bits.same he id,id,id⟩
end
section
variable {w:World} {K:oK} {gs:M.Gs} {gv:Value} {t:M.Tm}
theorem qJ0 {w':World} (a:OwnG w gv gs):vbi .len [zA] zE [gv] w' K=K (nI gs.length) w':=by
 have h:=Own.sl a;simp only[push_cast,h.len,X0]
theorem one_bool {c:Bool} {K:oK} (d:∀w' b,b=w.heap.size->Ext w w'->OwnB qs w' (.slice (some ⟨b,0,none⟩) 1 1) [c]->K (.slice (some ⟨b,0,none⟩) 1 1) w'):vbuildS qs 1 [(0,.bool c)] w K:=
 qz (y:=[.bool c]) q20 xM0 xL0 rfl rfl dC λb w' e he _ a=>d w' b e he (Blk.own1 (t:=qs) (cs:=[.bool c]) (by rw[Ul];exact a) (gJ _) rfl rfl oM)
end
section
variable {gs:M.Gs}
theorem zC0 {i:Nat} (hi:i<gs.length):(gs.map yf).getD i []=yf gs[i]:=by simp[q0,hi]
end
end Go.Proofs.YtolbhkcajhlllaaGreatDoor
namespace Go.Proofs.YtolbhkcajhlllaaGreatDoor
open Go Go.Vc Go.Proofs Go.M
section
variable {w:World} {K:oK} {F:Nat->Prop}
theorem variable_spec {l:Int} (b: -9223372036854775807<=l) (c:l<=9223372036854775807) (d:K (nI l.natAbs) w):vcall Z5 #[nI l] w K:=by
 refine zf {} Tryz.func163 ?_;simp(disch:=omega) only[push_cast];refine zb (λa=>?_) (λa=>?_)
 ·simp(disch:=omega) only[push_cast,zj];rwa[show 0-l=(l.natAbs:Int) from by omega]
 ·rwa[show l=(l.natAbs:Int) from by omega]
def CnfR (F:Nat->Prop) (w:World) (v:Value) (c:Cnf):Prop:= ∃lv,v= .agg #[nI c.many,lv]/\Lists F w lv c.list
theorem CnfR.ext {v:Value} {c:Cnf} {w':World} (h:CnfR F w v c) (hw:Ext w w'):CnfR F w' v c:=by
 obtain⟨lv,b,a⟩:=h;exact⟨lv,b,a.ext hw⟩
end
section
variable {w:World} {Fr F':Nat->Prop} {N:Nat} {c:Cnf}
structure RowsR (N:Nat) (Fr:Nat->Prop) (w:World) (ls:List Value) (xss:List (List Int)):Prop where
 nle:N<=w.heap.size
 own:∀i,i<xss.length->OwnI zh w (ls.getD i undef) (xss.getD i [])
 sub:∀i b,i<xss.length->(ls.getD i undef).ownBlock=some b->Fr b/\N<=b
 dj:∀i j b,i<j->j<xss.length->(ls.getD i undef).ownBlock=some b->(ls.getD j undef).ownBlock≠some b
section
variable {ls:List Value} {xss:List (List Int)} {w':World} {S F':Nat->Prop} {N:Nat}
theorem RowsR.same (h:RowsR N Fr w ls xss) (hw:Same S w w') (hF:∀x,Fr x->x<w.heap.size->¬S x):RowsR N Fr w' ls xss:=
 ⟨gG h.nle hw.size,λi hi=>(h.own i hi).same hw λb a=>hF b (h.sub i b hi a).1 ((h.own i hi).lt a),h.sub,h.dj⟩
theorem RowsR.ext (h:RowsR N Fr w ls xss) (hw:Ext w w'):RowsR N Fr w' ls xss:=h.same hw λ_ _ _ h=>h
theorem RowsR.weaken (h:RowsR N Fr w ls xss) (hF:∀b,Fr b->N<=b->b<w.heap.size->F' b):RowsR N F' w ls xss:=
 ⟨h.nle,h.own,λi b hi a=>⟨hF b (h.sub i b hi a).1 (h.sub i b hi a).2 ((h.own i hi).lt a),(h.sub i b hi a).2⟩,h.dj⟩
theorem RowsR.int (h:RowsR N Fr w ls xss) {i:Nat} (hi:i<xss.length):Ints Fr w (ls.getD i undef) (xss.getD i []):=(h.own i hi).ints.weaken λb a _=>(h.sub i b hi a).1
theorem RowsR.nil (a:N<=w.heap.size):RowsR N Fr w [] []:=⟨a,λi hi=>absurd hi (by simp),λi b hi=>absurd hi (by simp),λi j b _ c=>absurd c (by simp)⟩
theorem RowsR.snoc {v:Value} {xs:List Int} (h:RowsR N Fr w ls xss) (p:ls.length=xss.length) (q:OwnI zh w v xs) (hF:∀b,v.ownBlock=some b->Fr b/\N<=b) (o:∀i b,i<xss.length->(ls.getD i undef).ownBlock=some b->v.ownBlock≠some b):RowsR N Fr w (ls++[v]) (xss++[xs]):=by
 have g:∀i,i<(xss++[xs]).length->(i<xss.length/\(ls++[v]).getD i undef=ls.getD i undef/\(xss++[xs]).getD i []=xss.getD i [])\/(i=xss.length/\(ls++[v]).getD i undef=v/\(xss++[xs]).getD i []=xs):=λi hi=>by
  simp only[V0,gX] at hi;by_cases e:i<xss.length
  ·exact .inl ⟨e,getD_app_l oM,getD_app_l e⟩
  ·have c:i=xss.length:=oM;exact .inr ⟨c,by rw[c,<-p];simp,by rw[c];simp⟩
 refine⟨h.nle,λi hi=>?_,λi b hi d=>?_,λi j b l n d=>?_⟩
 ·rcases g i hi with⟨a,c,k⟩|⟨a,c,k⟩
  ·rw[c,k];exact h.own i a
  ·rw[c,k];exact q
 ·rcases g i hi with⟨a,c,k⟩|⟨a,c,k⟩
  ·rw[c] at d;exact h.sub i b a d
  ·rw[c] at d;exact hF b d
 ·rcases g i oM with⟨a,c,k⟩|⟨a,c,k⟩
  ·rw[c] at d;rcases g j n with⟨m,f,_⟩|⟨m,f,_⟩
   ·rw[f];exact h.dj i j b l m d
   ·rw[f];exact o i b a d
  ·simp only[V0,gX] at n;omega
end
structure CnfO (N:Nat) (w:World) (lv:Value) (ls:List Value) (c:Cnf):Prop where
 lst:OwnV zJ w lv ls
 len:ls.length=c.list.length
 dl:∀b,lv.ownBlock=some b->N<=b
 rows:RowsR N (λb=>lv.ownBlock≠some b) w ls c.list
theorem CnfO.cnf {lv:Value} {ls:List Value} (h:CnfO N w lv ls c):CnfR (λb=>N<=b) w (.agg #[nI c.many,lv]) c:=
 ⟨lv,rfl,ls,h.len,h.lst.vals.weaken λb a _=>h.dl b a,λi hi=>(h.rows.own i hi).ints.weaken λb a _=>(h.rows.sub i b hi a).2⟩
theorem CnfO.same {lv:Value} {ls:List Value} {S:Nat->Prop} {w':World} (h:CnfO N w lv ls c) (hw:Same S w w') (d:∀b,N<=b->b<w.heap.size->¬S b):CnfO N w' lv ls c:=
 ⟨h.lst.same hw λb a=>d b (h.dl b a) (h.lst.lt a),h.len,h.dl,⟨gG h.rows.nle hw.size,λi hi=>(h.rows.own i hi).same hw λb a=>d b (h.rows.sub i b hi a).2 ((h.rows.own i hi).lt a),h.rows.sub,h.rows.dj⟩⟩
theorem CnfO.ext {lv:Value} {ls:List Value} {w':World} (h:CnfO N w lv ls c) (hw:Ext w w'):CnfO N w' lv ls c:=h.same hw λ_ _ _ h=>h
theorem CnfO.down {lv:Value} {ls:List Value} {M:Nat} (h:CnfO N w lv ls c) (d:M<=N):CnfO M w lv ls c:=
 ⟨h.lst,h.len,λb a=>gG d (h.dl b a),⟨gG d h.rows.nle,h.rows.own,λi b hi a=>⟨(h.rows.sub i b hi a).1,gG d (h.rows.sub i b hi a).2⟩,h.rows.dj⟩⟩
end
end Go.Proofs.YtolbhkcajhlllaaGreatDoor
end
