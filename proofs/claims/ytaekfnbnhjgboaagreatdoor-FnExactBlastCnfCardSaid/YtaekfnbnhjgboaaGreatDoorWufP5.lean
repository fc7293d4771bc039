import Derived.Test.YtaekfnbnhjgboaaGreatDoorWufP4
import Derived.Test.YtaekfnbnhjgboaaGreatDoorWufP2
import Derived.Ground.NamesProg
import Derived.Shelf.Strings.OnBuilder
import Derived.Shelf.Strings.SlTrimAscii
import Derived.Shelf.SlGeneric
import Derived.Test.YtaekfnbnhjgboaaGreatDoorProg
/- A part of the proof. -/
set_option linter.unusedVariables false
set_option linter.unusedSimpArgs false
set_option linter.unnecessarySimpa false
set_option linter.unusedSectionVars false
section
namespace Go.Proofs.YtaekfnbnhjgboaaGreatDoor
open Go Go.Vc Go.Proofs
variable {w:World} {K:Value→World→Prop} {F G:Nat→Prop}
theorem unKind_value_spec {s:ByteArray} {n:Int} {ev tv kv:Value} {t:M.Tm} {xs:List (Int×Int)} (Q:TermR F w tv t) (R:PairsR G w kv xs) (Y:xs.length=1)
  (I:∀w',Ext w w'→K (.int .i64 (M.vecUn t.op (xs.getD 0 (0,0)).1 (xs.getD 0 (0,0)).2).1.2) w'):vcall PP je #[KV s n,ev,tv,kv] w K:=by
 apply Kv
 obtain⟨ksv,rfl,N⟩:=Q
 refine zx fun b1 w1 J m O X=>?_
 refine zx fun b2 w2 L o P B=>?_
 have z:=m.trans o
 have Z:=z.size
 refine y5 (fun u w'=> ∃b wd,u=[.pointer (some ⟨b,0,none⟩)]∧Ext w w'∧Blk w' b [.int .i64 wd,.int .i64 (M.vecUn t.op (xs.getD 0 (0,0)).1 (xs.getD 0 (0,0)).2).1.2] zb) (fun C x=>?_) ?_
 ·refine zw fun U d _=>?_
  have c:=z.trans d
  have e:=R.ext c
  have j:=B.ext d
  have S:=c.size
  simp(disch:=first|(simp only[push_cast];done)|omega) only[push_cast,j.ld0,e.iaddr,e.load,true_and,and_true]
  refine⟨?_,?_⟩
  ·refine VecUn_spec fun w4 f=>?_
   have T:=f.size
   simp only[push_cast,true_and]
   refine zF xt fun A V l a p k=>?_
   try simp only[push_cast,true_and,and_self]
   refine stVec k fun W q _ E=>?_
   try simp only[push_cast,true_and,and_self]
   exact x _ _ ⟨_,_,rfl,Ext.then ((c.trans f).trans a) q fun y v=>by subst v;omega,E⟩
  ·refine zF xt fun A V l a p k=>?_
   have D:=j.ext a
   have i:=e.ext a
   simp(disch:=first|(simp only[push_cast];done)|omega) only[push_cast,D.ld0,i.iaddr,i.load,true_and,and_self,and_true]
   refine VecUn_spec fun W h=>?_
   simp only[push_cast,true_and]
   refine stVec (k.ext h) fun w7 r _ H=>?_
   try simp only[push_cast,true_and,and_self]
   exact x _ _ ⟨_,_,rfl,Ext.then ((c.trans a).trans h) r fun y v=>by subst v;omega,H⟩
 ·rintro u g U ⟨b,wd,rfl,d,j⟩
  simp(disch:=(simp only[push_cast];done)) only[push_cast,j.ld1]
  exact I _ d
theorem binKind_value_spec {s:ByteArray} {n:Int} {ev tv kv:Value} {t:M.Tm} {xs:List (Int×Int)} (Q:TermR F w tv t) (R:PairsR G w kv xs) (Y:xs.length=2)
  (I:∀w',Ext w w'→K (.int .i64 (M.vecBin t.op (xs.getD 0 (0,0)).1 (xs.getD 0 (0,0)).2 (xs.getD 1 (0,0)).1 (xs.getD 1 (0,0)).2).1.2) w'):vcall PP j0 #[KV s n,ev,tv,kv] w K:=by
 apply Jx
 obtain⟨ksv,rfl,N⟩:=Q
 refine zx fun b1 w1 J m O X=>?_
 refine zx fun b2 w2 L o P B=>?_
 have z:=m.trans o
 have Z:=z.size
 refine y5 (fun u w'=> ∃b wd,u=[.pointer (some ⟨b,0,none⟩)]∧Ext w w'∧Blk w' b [.int .i64 wd,.int .i64 (M.vecBin t.op (xs.getD 0 (0,0)).1 (xs.getD 0 (0,0)).2 (xs.getD 1 (0,0)).1 (xs.getD 1 (0,0)).2).1.2] zb) (fun C x=>?_) ?_
 ·refine zw fun U d _=>?_
  have c:=z.trans d
  have e:=R.ext c
  have j:=B.ext d
  have S:=c.size
  simp(disch:=first|(simp only[push_cast];done)|omega) only[push_cast,j.ld0,e.iaddr,e.load,true_and,and_true]
  refine⟨?_,?_⟩
  ·refine VecBin_spec fun w4 f=>?_
   have T:=f.size
   simp only[push_cast,true_and]
   refine zF xt fun A V l a p k=>?_
   try simp only[push_cast,true_and,and_self]
   refine stVec k fun W q _ E=>?_
   try simp only[push_cast,true_and,and_self]
   exact x _ _ ⟨_,_,rfl,Ext.then ((c.trans f).trans a) q fun y v=>by subst v;omega,E⟩
  ·refine zF xt fun A V l a p k=>?_
   have D:=j.ext a
   have i:=e.ext a
   simp(disch:=first|(simp only[push_cast];done)|omega) only[push_cast,D.ld0,i.iaddr,i.load,true_and,and_self,and_true]
   refine VecBin_spec fun W h=>?_
   simp only[push_cast,true_and]
   refine stVec (k.ext h) fun w7 r _ H=>?_
   try simp only[push_cast,true_and,and_self]
   exact x _ _ ⟨_,_,rfl,Ext.then ((c.trans a).trans h) r fun y v=>by subst v;omega,H⟩
 ·rintro u g U ⟨b,wd,rfl,d,j⟩
  simp(disch:=(simp only[push_cast];done)) only[push_cast,j.ld1]
  exact I _ d
theorem catKind_value_spec {s:ByteArray} {n:Int} {ev tv kv:Value} {t:M.Tm} {xs:List (Int×Int)} (Q:TermR F w tv t) (R:PairsR G w kv xs) (Y:xs.length=2)
  (I:∀w',Ext w w'→K (.int .i64 (M.vecBin t.op (xs.getD 0 (0,0)).1 (xs.getD 0 (0,0)).2 (xs.getD 1 (0,0)).1 (xs.getD 1 (0,0)).2).1.2) w'):vcall PP qX #[KV s n,ev,tv,kv] w K:=by
 apply Js
 obtain⟨ksv,rfl,N⟩:=Q
 refine zx fun b1 w1 J m O X=>?_
 refine zx fun b2 w2 L o P B=>?_
 have z:=m.trans o
 have Z:=z.size
 refine y5 (fun u w'=> ∃b wd,u=[.pointer (some ⟨b,0,none⟩)]∧Ext w w'∧Blk w' b [.int .i64 wd,.int .i64 (M.vecBin t.op (xs.getD 0 (0,0)).1 (xs.getD 0 (0,0)).2 (xs.getD 1 (0,0)).1 (xs.getD 1 (0,0)).2).1.2] zb) (fun C x=>?_) ?_
 ·refine zw fun U d _=>?_
  have c:=z.trans d
  have e:=R.ext c
  have j:=B.ext d
  have S:=c.size
  simp(disch:=first|(simp only[push_cast];done)|omega) only[push_cast,j.ld0,e.iaddr,e.load,true_and,and_true]
  refine⟨?_,?_⟩
  ·refine VecBin_spec fun w4 f=>?_
   have T:=f.size
   simp only[push_cast,true_and]
   refine zF xt fun A V l a p k=>?_
   try simp only[push_cast,true_and,and_self]
   refine stVec k fun W q _ E=>?_
   try simp only[push_cast,true_and,and_self]
   exact x _ _ ⟨_,_,rfl,Ext.then ((c.trans f).trans a) q fun y v=>by subst v;omega,E⟩
  ·refine zF xt fun A V l a p k=>?_
   have D:=j.ext a
   have i:=e.ext a
   simp(disch:=first|(simp only[push_cast];done)|omega) only[push_cast,D.ld0,i.iaddr,i.load,true_and,and_self,and_true]
   refine VecBin_spec fun W h=>?_
   simp only[push_cast,true_and]
   refine stVec (k.ext h) fun w7 r _ H=>?_
   try simp only[push_cast,true_and,and_self]
   exact x _ _ ⟨_,_,rfl,Ext.then ((c.trans a).trans h) r fun y v=>by subst v;omega,H⟩
 ·rintro u g U ⟨b,wd,rfl,d,j⟩
  simp(disch:=(simp only[push_cast];done)) only[push_cast,j.ld1]
  exact I _ d
theorem cutKind_value_spec {s:ByteArray} {n:Int} {ev tv kv:Value} {t:M.Tm} {xs:List (Int×Int)} (R:TermR F w tv t) (S:PairsR G w kv xs) (Z:xs.length=1)
  (J:∀w',Ext w w'→K (.int .i64 (M.vecCut (xs.getD 0 (0,0)).1 (xs.getD 0 (0,0)).2 t.a t.b).1.2) w'):vcall PP qV #[KV s n,ev,tv,kv] w K:=by
 apply Jq
 obtain⟨ksv,rfl,O⟩:=R
 refine zx fun b1 w1 L o P Y=>?_
 refine zx fun b2 w2 N p Q E=>?_
 have B:=o.trans p
 have hz:=B.size
 refine y5 (fun u w'=> ∃b wd,u=[.pointer (some ⟨b,0,none⟩)]∧Ext w w'∧Blk w' b [.int .i64 wd,.int .i64 (M.vecCut (xs.getD 0 (0,0)).1 (xs.getD 0 (0,0)).2 t.a t.b).1.2] zb) (fun C A=>?_) ?_
 ·refine zw fun V e _=>?_
  have d:=B.trans e
  have f:=S.ext d
  have h:=E.ext e
  have T:=d.size
  simp(disch:=first|(simp only[push_cast];done)|omega) only[push_cast,h.ld1,h.ld2,f.iaddr,f.load,true_and,and_true]
  refine⟨?_,?_⟩
  ·refine VecCut_spec fun w4 i=>?_
   have U:=i.size
   simp only[push_cast,true_and]
   refine zF xt fun D W m c q l=>?_
   try simp only[push_cast,true_and,and_self]
   refine stVec l fun X r _ H=>?_
   try simp only[push_cast,true_and,and_self]
   exact A _ _ ⟨_,_,rfl,Ext.then ((d.trans i).trans c) r fun y x=>by subst x;omega,H⟩
  ·refine zF xt fun D W m c q l=>?_
   have z:=h.ext c
   have k:=f.ext c
   simp(disch:=first|(simp only[push_cast];done)|omega) only[push_cast,z.ld1,z.ld2,k.iaddr,k.load,true_and,and_self,and_true]
   refine VecCut_spec fun X j=>?_
   simp only[push_cast,true_and]
   refine stVec (l.ext j) fun w7 v _ I=>?_
   try simp only[push_cast,true_and,and_self]
   exact A _ _ ⟨_,_,rfl,Ext.then ((d.trans c).trans j) v fun y x=>by subst x;omega,I⟩
 ·rintro u g V ⟨b,wd,rfl,e,h⟩
  simp(disch:=(simp only[push_cast];done)) only[push_cast,h.ld1]
  exact J _ e
theorem cmpKind_value_spec {s:ByteArray} {n:Int} {ev tv kv:Value} {t:M.Tm} {xs:List (Int×Int)} (p:TermR F w tv t) (q:PairsR G w kv xs) (u:xs.length=2)
  (i:∀w',Ext w w'→K (.int .i64 (M.b2i (M.vecCmp t.op (xs.getD 0 (0,0)).1 (xs.getD 0 (0,0)).2 (xs.getD 1 (0,0)).1 (xs.getD 1 (0,0)).2).1)) w'):vcall PP qW #[KV s n,ev,tv,kv] w K:=by
 apply Jr
 obtain⟨ksv,rfl,l⟩:=p
 refine zx fun b1 v j d m r=>?_
 refine zx fun b2 x k e o g=>?_
 refine zw fun y b _=>?_
 have a:=(d.trans e).trans b
 have c:=q.ext a
 have h:=g.ext b
 simp(disch:=first|(simp only[push_cast];done)|omega) only[push_cast,h.ld0,c.iaddr,c.load,true_and,and_true]
 refine VecCmp_spec fun z f=>?_
 simp only[push_cast,true_and]
 exact UL (i _ (a.trans f))
theorem KP {s:ByteArray} {n:Int} {ev tv kv:Value} {t:M.Tm} (k:TermR F w tv t)
  (e:∀w',Ext w w'→K (.int .i64 t.b) w'):vcall PP qT #[KV s n,ev,tv,kv] w K:=by
 apply Jn
 obtain⟨ksv,rfl,h⟩:=k
 refine zx fun b1 m f a i l=>?_
 refine zx fun b2 o g c j d=>?_
 simp(disch:=(simp only[push_cast];done)) only[push_cast,d.ld2]
 exact e _ (a.trans c)
theorem kq0:ZO0 PP jS .string ze:=⟨_,Jk,by kernel_rfl⟩
theorem Kf {s:ByteArray} {n:Int} {tv kv:Value} {t:M.Tm} {mb:Nat} {f:List (Value×Value)} {x:Int} (l:TermR F w tv t) (hm:MapF .string w mb f) (c:(Value.string t.s,Value.int .i64 x)∈f)
  (e:∀w',Ext w w'→K (.int .i64 x) w'):vcall PP qG #[KV s n,.map (some mb),tv,kv] w K:=by
 apply Qq
 obtain⟨ksv,rfl,i⟩:=l
 refine zx fun b1 o g a j m=>?_
 refine zx fun b2 p h b k d=>?_
 simp(disch:=(simp only[push_cast];done)) only[push_cast,d.ld3]
 rw[yx0 kq0 (hm.ext (a.trans b)) (V7 _) c]
 exact e _ (a.trans b)
theorem ifKind_value_spec {s:ByteArray} {n:Int} {ev tv kv:Value} {t:M.Tm} {xs:List (Int×Int)} (l:TermR F w tv t) (m:PairsR G w kv xs) (q:xs.length=3)
  (f:∀w',Ext w w'→K (.int .i64 (if(xs.getD 0 (0,0)).2=1 then(xs.getD 1 (0,0)).2 else(xs.getD 2 (0,0)).2)) w'):vcall PP jf #[KV s n,ev,tv,kv] w K:=by
 apply Kw
 obtain⟨ksv,rfl,i⟩:=l
 refine zx fun b1 r g c j o=>?_
 refine zx fun b2 u h d k p=>?_
 have b:=m.ext (c.trans d)
 have e:=f _ (c.trans d)
 try simp(disch:=first|(simp only[push_cast];done)|omega) only[push_cast,b.iaddr]
 try simp(disch:=first|(simp only[push_cast];done)|omega) only[push_cast,b.load1]
 refine zh (fun a=>?_) (fun a=>?_)
 ·rw[if_pos a] at e
  try simp(disch:=first|(simp only[push_cast];done)|omega) only[push_cast,b.iaddr]
  try simp(disch:=first|(simp only[push_cast];done)|omega) only[push_cast,b.load1]
  exact e
 ·rw[if_neg a] at e
  try simp(disch:=first|(simp only[push_cast];done)|omega) only[push_cast,b.iaddr]
  try simp(disch:=first|(simp only[push_cast];done)|omega) only[push_cast,b.load1]
  exact e
def yw0 (f:Value) (g:List (Int×Int)→Bool) (n:Nat):Prop:=∀(w:World) (G:Nat→Prop) (kv:Value) (xs:List (Int×Int)) (K:Value→World→Prop),PairsR G w kv xs→xs.length=n→K (.bool (g xs)) w→vcallv PP f #[kv] w K
theorem KJ {s:ByteArray} {n:Int} {f ev tv kv:Value} {t:M.Tm} {g:List (Int×Int)→Bool} {m:Nat} {xs:List (Int×Int)} (j:yw0 f g m) (q:TermR F w tv t) (r:PairsR G w kv xs) (l:xs.length=m)
  (e:∀w',Ext w w'→K (.int .i64 (M.b2i (g xs))) w'):vcall PP qI #[.agg ⟨[.string s,.int .i64 n,f]⟩,ev,tv,kv] w K:=by
 apply Qu
 obtain⟨ksv,rfl,k⟩:=q
 refine zx fun b1 v h b o c=>?_
 refine zx fun b2 x i a p u=>?_
 have d:=c.ext a
 simp(disch:=(simp only[push_cast];done)) only[push_cast,d.ld2]
 refine j _ _ _ _ _ (r.ext (b.trans a)) l ?_
 exact UL (e _ (b.trans a))
theorem ku0:yw0 (.func (.func YD) #[] #[]) (fun _=>true) 0:=by
 intro w G kv xs K c b a
 simp only[push_cast]
 apply yc0
 exact a
theorem kinds2_fn:yw0 (.func (.func YC) #[] #[]) (fun xs=>decide ((xs.getD 0 (0,0)).2=0)) 1:=by
 intro w G kv xs K a c b
 simp only[push_cast]
 apply yb0
 try simp(disch:=first|(simp only[push_cast];done)|omega) only[push_cast,a.iaddr]
 try simp(disch:=first|(simp only[push_cast];done)|omega) only[push_cast,a.load1]
 exact b
theorem kinds3_fn:yw0 (.func (.func YB) #[] #[]) (fun xs=>decide ((xs.getD 0 (0,0)).2=1)&&decide ((xs.getD 1 (0,0)).2=1)) 2:=by
 intro w G kv xs K b d c
 simp only[push_cast]
 apply ya0
 try simp(disch:=first|(simp only[push_cast];done)|omega) only[push_cast,b.iaddr]
 try simp(disch:=first|(simp only[push_cast];done)|omega) only[push_cast,b.load1]
 refine zh (fun a=>?_) (fun a=>?_)
 ·try simp(disch:=first|(simp only[push_cast];done)|omega) only[push_cast,b.iaddr]
  try simp(disch:=first|(simp only[push_cast];done)|omega) only[push_cast,b.load1]
  simpa only[decide_eq_true a,Bool.true_and] using c
 ·simpa only[decide_eq_false a,Bool.false_and] using c
theorem kinds4_fn:yw0 (.func (.func YA) #[] #[]) (fun xs=>decide ((xs.getD 0 (0,0)).2=1)||decide ((xs.getD 1 (0,0)).2=1)) 2:=by
 intro w G kv xs K b d c
 simp only[push_cast]
 apply y90
 try simp(disch:=first|(simp only[push_cast];done)|omega) only[push_cast,b.iaddr]
 try simp(disch:=first|(simp only[push_cast];done)|omega) only[push_cast,b.load1]
 refine zh (fun a=>?_) (fun a=>?_)
 ·simpa only[decide_eq_true a,Bool.true_or] using c
 ·try simp(disch:=first|(simp only[push_cast];done)|omega) only[push_cast,b.iaddr]
  try simp(disch:=first|(simp only[push_cast];done)|omega) only[push_cast,b.load1]
  simpa only[decide_eq_false a,Bool.false_or] using c
end Go.Proofs.YtaekfnbnhjgboaaGreatDoor
end
section
namespace Go.M
open Go.Vc
def oneM (t:Tm) (a:Int):Int:=
 if t.op=25 then(if a=0 then 0 else-1) else if a<1 then-1
 else if t.op=22 then(if 0≤t.b∧t.b≤t.a∧t.a<a then t.a-t.b+1 else-1) else a
def bothM (o a b:Int):Int:=
 if o=26∨o=27 then(if a=0∧b=0 then 0 else-1)
 else if a<1∨b<1 then-1
 else if o=14 then(if a+b≤4 then a+b else-1)
 else if a≠b then-1 else if 15≤o then 0 else a
section
variable {ds:List Dcl} {env:List Int} {t:Tm}
def kid (t:Tm) (i:Nat):Tm:=t.ks.getD i default
theorem formed_iff:formed t=true↔arity t.op=t.ks.length∧plainM t=true:=by simp[formed]
theorem arity_one {o:Int} (h:arity o=1):o=1∨o=2∨o=22∨o=25:=by
 unfold arity at h
 repeat' split at h
 all_goals omega
theorem arity_two {o:Int} (h:arity o=2):(3≤o∧o≤17)∨o=26∨o=27:=by
 unfold arity at h
 repeat' split at h
 all_goals omega
theorem arity_three {o:Int} (h:arity o=3):o=23:=by
 unfold arity at h
 repeat' split at h
 all_goals omega
theorem arity_zero {o:Int} (h:arity o=0):o=20∨o=21∨o=24:=by
 unfold arity at h
 repeat' split at h
 all_goals omega
theorem ks1 (h:t.ks.length=1):t.ks=[kid t 0]:=by
 unfold kid
 generalize t.ks=ks at h⊢
 match ks,h with
 |[x],_=>rfl
theorem ks2 (h:t.ks.length=2):t.ks=[kid t 0,kid t 1]:=by
 unfold kid
 generalize t.ks=ks at h⊢
 match ks,h with
 |[x,y],_=>rfl
theorem ks3 (h:t.ks.length=3):t.ks=[kid t 0,kid t 1,kid t 2]:=by
 unfold kid
 generalize t.ks=ks at h⊢
 match ks,h with
 |[x,y,z],_=>rfl
theorem kid_mem {i:Nat} (h:i<t.ks.length):kid t i∈t.ks:=getD_mem h _
theorem sort_bad (h: ¬formed t=true):sortM ds t= -1:=by
 rw[sortM_eq];unfold sortF;rw[if_neg (fun x=>h x.1)]
theorem sort_leaf (a:formed t=true) (h:t.ks.length=0):sortM ds t=sortK ds t []:=by
 have:t.ks=[]:=List.eq_nil_of_length_eq_zero h
 rw[sortM_eq,this];unfold sortF
 rw[if_pos ⟨a,by simp⟩]
 rfl
theorem sort_one (g:declOk ds=true) (f:formed t=true) (h:t.ks.length=1):sortM ds t=oneM t (sortM ds (kid t 0)):=by
 have j:=arity_one (o:=t.op) (by have:=(formed_iff.1 f).1;omega)
 have i:=sort_range g (kid t 0)
 rw[sortM_eq,ks1 h]
 unfold sortF
 simp only[List.map_cons,List.map_nil,List.mem_singleton]
 generalize sortM ds (kid t 0)=s at i⊢
 unfold oneM
 by_cases hs:s= -1
 ·subst hs
  rw[if_neg (by simp)]
  split
  ·split<;>omega
  ·rfl
 ·rw[if_pos ⟨f,fun e=>hs e.symm⟩]
  unfold sortK
  rw[if_neg (by omega),if_neg (by omega)]
  by_cases c:t.op=25
  ·rw[if_pos (by omega),if_pos c]
   by_cases d:s=0
   ·simp[d]
   ·simp[d]
  rw[if_neg (by omega),if_neg c,if_neg (by omega)]
  simp only[List.getD_cons_zero]
  by_cases a:t.op=22
  ·rw[if_pos a,if_pos a]
   by_cases b:s<1
   ·rw[if_pos b,if_neg (by omega)]
   ·rw[if_neg b]
  ·rw[if_neg a,if_neg a,if_pos (by omega)]
   by_cases b:s<1
   ·rw[if_pos b,if_neg (by omega)]
   ·rw[if_neg b,if_pos (by omega)]
theorem sort_two (e:declOk ds=true) (f:formed t=true) (h:t.ks.length=2):sortM ds t=bothM t.op (sortM ds (kid t 0)) (sortM ds (kid t 1)):=by
 have i:=arity_two (o:=t.op) (by have:=(formed_iff.1 f).1;omega)
 have g:=sort_range e (kid t 0)
 have d:=sort_range e (kid t 1)
 rw[sortM_eq,ks2 h]
 unfold sortF
 simp only[List.map_cons,List.map_nil,List.mem_cons,List.not_mem_nil,or_false]
 generalize sortM ds (kid t 0)=a at g⊢
 generalize sortM ds (kid t 1)=b at d⊢
 unfold bothM
 by_cases hs: -1=a∨ -1=b
 ·rw[if_neg (fun x=>x.2 hs)]
  repeat' split
  all_goals omega
 ·rw[if_pos ⟨f,hs⟩]
  unfold sortK
  have c:([a,b].any fun x=>decide (x≠0))=decide (a≠0∨b≠0):=by
   simp only[List.any_cons,List.any_nil,Bool.or_false,Bool.decide_or]
  rw[c]
  simp only[List.getD_cons_zero,List.getD_cons_succ,decide_eq_true_eq]
  rw[if_neg (show¬t.op=20 by omega),if_neg (show¬t.op=21 by omega),if_neg (show¬t.op=23 by omega),if_neg (show¬t.op=22 by omega)]
  repeat' split
  all_goals omega
theorem sort_three (e:formed t=true) (h:t.ks.length=3):sortM ds t=if sortM ds (kid t 0)≠0∨sortM ds (kid t 1)≠sortM ds (kid t 2) then-1 else sortM ds (kid t 1):=by
 have f:=arity_three (o:=t.op) (by have:=(formed_iff.1 e).1;omega)
 rw[sortM_eq,ks3 h]
 unfold sortF
 simp only[List.map_cons,List.map_nil,List.mem_cons,List.not_mem_nil,or_false]
 generalize sortM ds (kid t 0)=a
 generalize sortM ds (kid t 1)=b
 generalize sortM ds (kid t 2)=c
 by_cases hs: -1=a∨ -1=b∨ -1=c
 ·rw[if_neg (fun x=>x.2 hs)]
  split
  ·rfl
  ·omega
 ·rw[if_pos ⟨e,hs⟩]
  unfold sortK
  rw[if_neg (by omega),if_neg (by omega),if_neg (by omega),if_pos f]
  simp only[List.getD_cons_zero,List.getD_cons_succ]
  by_cases d:a=0∧b=c
  ·rw[if_pos d,if_neg (by omega)]
  ·rw[if_neg d,if_pos (by omega)]
theorem jh0 (h:sortM ds t≠ -1) {i:Nat} (hi:i<t.ks.length):sortM ds (kid t i)≠ -1:=(sort_parts h).2.1 _ (kid_mem hi)
theorem XL0 (he:Uj ds env=true) (h:sortM ds t≠ -1) {i:Nat} (hi:i<t.ks.length):inS (sortM ds (kid t i)) (kL ds env (kid t i)):=eval_in he _ (jh0 h hi)
theorem name_found (h:sortM ds t≠ -1) (a:t.op=21):0≤findD ds t.s:=by
 obtain⟨_,_,hs⟩:=sort_parts h
 rw[hs] at h
 unfold sortK at h
 rw[if_neg (by omega),if_pos a] at h
 split at h
 ·exact absurd rfl h
 ·omega
end
def wordL (o:Int):List UInt8:=
 if o=1 then[110,111,116] else if o=2 then[110,101,103] else if o=3 then[97,110,100] else if o=4 then[111,114] else if o=5 then[120,111,114]
 else if o=6 then[97,100,100] else if o=7 then[115,117,98] else if o=8 then[109,117,108] else if o=9 then[100,105,118] else if o=10 then[114,101,109]
 else if o=11 then[115,104,108] else if o=12 then[115,104,114] else if o=13 then[115,97,114] else if o=14 then[99,97,116] else if o=15 then[115,97,109,101]
 else if o=16 then[108,101,115,115] else if o=17 then[117,110,100,101,114] else if o=22 then[99,117,116] else if o=23 then[105,102] else if o=25 then[110,111]
 else if o=26 then[98,111,116,104] else if o=27 then[97,110,121] else[]
end Go.M
end
section
namespace Go.Proofs.YtaekfnbnhjgboaaGreatDoor
open Go Go.Vc Go.Proofs
variable {w:World} {K:Value→World→Prop} {F G:Nat→Prop}
def EnvM (w:World) (mb:Nat) (ds:List M.Dcl) (env:List Int):Prop:= ∃f,MapF .string w mb f∧∀s,0≤M.findD ds s→(Value.string s,Value.int .i64 (env.getD (M.findD ds s).toNat 0))∈f
def kTy (o:Int):TypeId:=if o≤2 then zO else if o≤13 then zS else if o=14 then zV else if o≤17 then zJ else if o=20 then zR else if o=21 then zL else if o=22 then zP else if o=23 then zW else zA
structure KindR (o:Int) (v:Value):Prop where
 word:∃(s:ByteArray) (m:Int) (r:List Value),v= .iface (kTy o) (.agg ⟨.string s:: .int .i64 m::r⟩)∧(o<24→r=[])∧(24≤o→∃f,r=[f]∧f.oneCell'=true)∧(o=20∨o=21∨o=24∨s.data.toList=M.wordL o)
 iface:∃ty x,v= .iface ty x
 kids:∀(w:World) (K:Value→World→Prop),(∀w',Ext w w'→K (.int .i64 (M.arity o)) w')→vinvoke PP v mn_kids #[] w K
 sort:∀(w:World) (K:Value→World→Prop) (F G H:Nat→Prop) (dv tv kv:Value) (ds:List M.Dcl) (t:M.Tm) (xs:List Int),t.op=o→DclsR F w dv ds→TermR G w tv t→Ints H w kv xs→(xs.length:Int)=M.arity o→(∀i,-1≤xs.getD i 0∧xs.getD i 0≤4)→
  (∀w',Ext w w'→K (.int .i64 (M.sortK ds t xs)) w')→vinvoke PP v ZF #[dv,tv,kv] w K
 value:∀(w:World) (K:Value→World→Prop) (G H:Nat→Prop) (ev tv kv:Value) (ds:List M.Dcl) (env:List Int) (t:M.Tm) (xs:List (Int×Int)),t.op=o→(t.op=21→∃mb,ev= .map (some mb)∧EnvM w mb ds env)→TermR G w tv t→PairsR H w kv xs→(xs.length:Int)=M.arity o→(∀i,i<xs.length→M.inS (xs.getD i (0,0)).1 (xs.getD i (0,0)).2)→
  M.sortK ds t (xs.map (·.1))≠ -1→(∀w',Ext w w'→K (.int .i64 (M.valK ds env t xs)) w')→vinvoke PP v kF #[ev,tv,kv] w K
section
variable {ds:List M.Dcl} {env:List Int} {t:M.Tm} {xs:List Int} {ys:List (Int×Int)}
theorem Y7 {i:Nat} (h:i<ys.length):(ys.map (·.1)).getD i 0=(ys.getD i (0,0)).1:=M.getD_map _ h _ _
theorem kind_un {o:Int} {s:ByteArray} (d:o=1∨o=2) (hw:s.data.toList=M.wordL o):KindR o (.iface zO (KV s 1)) where
 word:=⟨_,_,_,by(rw[show kTy o=zO by unfold kTy;rw[if_pos (by omega)]];try rfl),fun _=>rfl,fun h=>by omega,.inr (.inr (.inr hw))⟩
 iface:=⟨_,_,rfl⟩
 kids:=fun w K b=>y8 (Kk _ _) (jP fun w' he=>by have:=b w' he;rcases d with rfl|rfl<;>exact this)
 sort:=fun w K F G H dv tv kv ds t xs f l e g c i b=>by
  have a:xs.length=1:=by rcases d with rfl|rfl<;>simp[M.arity] at c<;>omega
  refine y8 (Kj _ _) (unKind_sort_spec e g a fun w' he=>?_)
  have:=b w' he
  unfold M.sortK at this
  rwa[if_neg (by omega),if_neg (by omega),if_neg (by omega),if_neg (by omega),if_neg (by omega),if_pos (by omega)] at this
 value:=fun w K G H mb tv kv ds env t ys f he e g c i hs b=>by
  have a:ys.length=1:=by rcases d with rfl|rfl<;>simp[M.arity] at c<;>omega
  refine y8 (J6 _ _) (unKind_value_spec e g a fun w' he=>?_)
  have:=b w' he
  unfold M.sortK at hs
  rw[if_neg (by omega),if_neg (by omega),if_neg (by omega),if_neg (by omega),if_neg (by omega),if_pos (by omega),Y7 (by omega)] at hs
  have j:0<(ys.getD 0 (0,0)).1:=by
   by_cases h:0<(ys.getD 0 (0,0)).1
   ·exact h
   ·rw[if_neg h] at hs;exact absurd rfl hs
  have k:=M.inS_pos (i 0 (by omega)) j
  unfold M.valK at this
  rw[if_neg (by omega),if_neg (by omega),if_neg (by omega),if_neg (by omega),if_neg (by omega),if_neg (by omega),if_neg (by omega),if_neg (by omega),if_pos (by omega)] at this
  unfold M.vecUn
  rw[if_pos ⟨k,by omega⟩]
  exact this
theorem kind_bin {o:Int} {s:ByteArray} (m:3≤o) (k:o≤13) (hw:s.data.toList=M.wordL o):KindR o (.iface zS (KV s 2)) where
 word:=⟨_,_,_,by(rw[show kTy o=zS by unfold kTy;rw[if_neg (by omega),if_pos (by omega)]];try rfl),fun _=>rfl,fun h=>by omega,.inr (.inr (.inr hw))⟩
 iface:=⟨_,_,rfl⟩
 kids:=fun w K b=>y8 (Jj _ _) (jP fun w' he=>by
  have:=b w' he
  unfold M.arity at this
  rwa[if_neg (by omega),if_neg (by omega),if_neg (by omega),if_neg (by omega),if_pos (by omega)] at this)
 sort:=fun w K F G H dv tv kv ds t xs f n e i c d b=>by
  have a:xs.length=2:=by
   unfold M.arity at c
   rw[if_neg (by omega),if_neg (by omega),if_neg (by omega),if_neg (by omega),if_pos (by omega)] at c;omega
  refine y8 (Ji _ _) (binKind_sort_spec e i a fun w' he=>?_)
  have:=b w' he
  unfold M.sortK at this
  rwa[if_neg (by omega),if_neg (by omega),if_neg (by omega),if_neg (by omega),if_neg (by omega),if_neg (by omega),if_neg (by omega),if_neg (by omega)] at this
 value:=fun w K G H mb tv kv ds env t ys f he e i c d hs b=>by
  have a:ys.length=2:=by
   unfold M.arity at c
   rw[if_neg (by omega),if_neg (by omega),if_neg (by omega),if_neg (by omega),if_pos (by omega)] at c;omega
  refine y8 (Qm _ _) (binKind_value_spec e i a fun w' he=>?_)
  have:=b w' he
  unfold M.sortK at hs
  rw[if_neg (by omega),if_neg (by omega),if_neg (by omega),if_neg (by omega),if_neg (by omega),if_neg (by omega),if_neg (by omega),if_neg (by omega),Y7 (by omega),Y7 (by omega)] at hs
  have j:0<(ys.getD 0 (0,0)).1∧(ys.getD 0 (0,0)).1=(ys.getD 1 (0,0)).1:=by
   by_cases h:0<(ys.getD 0 (0,0)).1∧(ys.getD 0 (0,0)).1=(ys.getD 1 (0,0)).1
   ·exact h
   ·rw[if_neg h] at hs;exact absurd rfl hs
  have l:=M.inS_pos (d 0 (by omega)) j.1
  have g:=M.inS_pos (d 1 (by omega)) (by omega)
  unfold M.valK at this
  rw[if_neg (by omega),if_neg (by omega),if_neg (by omega),if_neg (by omega),if_neg (by omega),if_neg (by omega),if_neg (by omega),if_neg (by omega),if_neg (by omega),if_neg (by omega),if_neg (by omega)] at this
  unfold M.vecBin
  rw[if_pos ⟨l,g⟩,if_neg (by omega),if_pos ⟨by omega,by omega,j.2⟩]
  exact this
theorem kind_cat {s:ByteArray} (hw:s.data.toList=M.wordL 14):KindR 14 (.iface zV (KV s 2)) where
 word:=⟨_,_,_,rfl,fun _=>rfl,fun h=>by omega,.inr (.inr (.inr hw))⟩
 iface:=⟨_,_,rfl⟩
 kids:=fun w K b=>y8 (Jg _ _) (jP fun w' he=>b w' he)
 sort:=fun w K F G H dv tv kv ds t xs c l g j e d b=>by
  have a:xs.length=2:=by simp[M.arity] at e;omega
  refine y8 (Jf _ _) (catKind_sort_spec g j a d fun w' he=>?_)
  have:=b w' he
  unfold M.sortK at this
  rwa[if_neg (by omega),if_neg (by omega),if_neg (by omega),if_neg (by omega),if_neg (by omega),if_neg (by omega),if_pos (by omega)] at this
 value:=fun w K G H mb tv kv ds env t ys c he g j e d hs b=>by
  have a:ys.length=2:=by simp[M.arity] at e;omega
  refine y8 (Qi _ _) (catKind_value_spec g j a fun w' he=>?_)
  have:=b w' he
  unfold M.sortK at hs
  rw[if_neg (by omega),if_neg (by omega),if_neg (by omega),if_neg (by omega),if_neg (by omega),if_neg (by omega),if_pos (by omega),Y7 (by omega),Y7 (by omega)] at hs
  have f:0<(ys.getD 0 (0,0)).1∧0<(ys.getD 1 (0,0)).1∧(ys.getD 0 (0,0)).1+(ys.getD 1 (0,0)).1≤4:=by
   by_cases h:0<(ys.getD 0 (0,0)).1∧0<(ys.getD 1 (0,0)).1∧(ys.getD 0 (0,0)).1+(ys.getD 1 (0,0)).1≤4
   ·exact h
   ·rw[if_neg h] at hs;exact absurd rfl hs
  have k:=M.inS_pos (d 0 (by omega)) f.1
  have i:=M.inS_pos (d 1 (by omega)) f.2.1
  unfold M.valK at this
  rw[if_neg (by omega),if_neg (by omega),if_neg (by omega),if_neg (by omega),if_neg (by omega),if_neg (by omega),if_neg (by omega),if_neg (by omega),if_neg (by omega),if_pos (by omega)] at this
  unfold M.vecBin
  rw[if_pos ⟨k,i⟩,if_pos c,if_pos f.2.2]
  exact this
theorem kind_cmp {o:Int} {s:ByteArray} (m:15≤o) (k:o≤17) (hw:s.data.toList=M.wordL o):KindR o (.iface zJ (KV s 2)) where
 word:=⟨_,_,_,by(rw[show kTy o=zJ by unfold kTy;rw[if_neg (by omega),if_neg (by omega),if_neg (by omega),if_pos (by omega)]];try rfl),fun _=>rfl,fun h=>by omega,.inr (.inr (.inr hw))⟩
 iface:=⟨_,_,rfl⟩
 kids:=fun w K b=>y8 (Jd _ _) (jP fun w' he=>by
  have:=b w' he
  unfold M.arity at this
  rwa[if_neg (by omega),if_neg (by omega),if_neg (by omega),if_neg (by omega),if_pos (by omega)] at this)
 sort:=fun w K F G H dv tv kv ds t xs f n e i c d b=>by
  have a:xs.length=2:=by
   unfold M.arity at c
   rw[if_neg (by omega),if_neg (by omega),if_neg (by omega),if_neg (by omega),if_pos (by omega)] at c;omega
  refine y8 (Jc _ _) (cmpKind_sort_spec e i a fun w' he=>?_)
  have:=b w' he
  unfold M.sortK at this
  rwa[if_neg (by omega),if_neg (by omega),if_neg (by omega),if_neg (by omega),if_neg (by omega),if_neg (by omega),if_neg (by omega),if_pos (by omega)] at this
 value:=fun w K G H mb tv kv ds env t ys f he e i c d hs b=>by
  have a:ys.length=2:=by
   unfold M.arity at c
   rw[if_neg (by omega),if_neg (by omega),if_neg (by omega),if_neg (by omega),if_pos (by omega)] at c;omega
  refine y8 (Qh _ _) (cmpKind_value_spec e i a fun w' he=>?_)
  have:=b w' he
  unfold M.sortK at hs
  rw[if_neg (by omega),if_neg (by omega),if_neg (by omega),if_neg (by omega),if_neg (by omega),if_neg (by omega),if_neg (by omega),if_pos (by omega),Y7 (by omega),Y7 (by omega)] at hs
  have j:0<(ys.getD 0 (0,0)).1∧(ys.getD 0 (0,0)).1=(ys.getD 1 (0,0)).1:=by
   by_cases h:0<(ys.getD 0 (0,0)).1∧(ys.getD 0 (0,0)).1=(ys.getD 1 (0,0)).1
   ·exact h
   ·rw[if_neg h] at hs;exact absurd rfl hs
  have l:=M.inS_pos (d 0 (by omega)) j.1
  have g:=M.inS_pos (d 1 (by omega)) (by omega)
  unfold M.valK at this
  rw[if_neg (by omega),if_neg (by omega),if_neg (by omega),if_neg (by omega),if_neg (by omega),if_neg (by omega),if_neg (by omega),if_neg (by omega),if_neg (by omega),if_neg (by omega),if_pos (by omega)] at this
  unfold M.vecCmp
  rw[if_pos ⟨l,g,j.2,by omega,by omega⟩]
  exact this
theorem kind_vec {s:ByteArray}:KindR 20 (.iface zR (KV s 0)) where
 word:=⟨_,_,_,rfl,fun _=>rfl,fun h=>by omega,.inl rfl⟩
 iface:=⟨_,_,rfl⟩
 kids:=fun w K b=>y8 (J5 _ _) (jP fun w' he=>b w' he)
 sort:=fun w K F G H dv tv kv ds t xs a g c f d e b=>by
  refine y8 (J4 _ _) (W7 c fun w' he=>?_)
  have:=b w' he
  unfold M.sortK at this
  rwa[if_pos a] at this
 value:=fun w K G H mb tv kv ds env t ys a he c f d e hs b=>by
  refine y8 (Qd _ _) (KP c fun w' he=>?_)
  have:=b w' he
  unfold M.valK at this
  rwa[if_pos a] at this
theorem kind_name {s:ByteArray}:KindR 21 (.iface zL (KV s 0)) where
 word:=⟨_,_,_,rfl,fun _=>rfl,fun h=>by omega,.inr (.inl rfl)⟩
 iface:=⟨_,_,rfl⟩
 kids:=fun w K b=>y8 (Qf _ _) (jP fun w' he=>b w' he)
 sort:=fun w K F G H dv tv kv ds t xs a g e k i j b=>by
  refine y8 (Qe _ _) (nameKind_sort_spec e g fun w' he=>?_)
  have:=b w' he
  unfold M.sortK at this
  rwa[if_neg (by omega),if_pos a] at this
 value:=fun w K G H mb tv kv ds env t ys a he e k i j hs b=>by
  obtain⟨mb,rfl,f,hm,d⟩:=he a
  unfold M.sortK at hs
  rw[if_neg (by omega),if_pos a] at hs
  have c:0≤M.findD ds t.s:=by
   by_cases h:M.findD ds t.s<0
   ·rw[if_pos h] at hs;exact absurd rfl hs
   ·omega
  refine y8 (XH _ _) (Kf e hm (d _ c) fun w' he=>?_)
  have:=b w' he
  unfold M.valK at this
  rwa[if_neg (by omega),if_pos a] at this
theorem kind_cut {s:ByteArray} (hw:s.data.toList=M.wordL 22):KindR 22 (.iface zP (KV s 1)) where
 word:=⟨_,_,_,rfl,fun _=>rfl,fun h=>by omega,.inr (.inr (.inr hw))⟩
 iface:=⟨_,_,rfl⟩
 kids:=fun w K d=>y8 (Ja _ _) (jP fun w' he=>d w' he)
 sort:=fun w K F G H dv tv kv ds t xs i m g j e f d=>by
  have c:xs.length=1:=by simp[M.arity] at e;omega
  refine y8 (J9 _ _) (cutKind_sort_spec g j c f fun w' he=>?_)
  have:=d w' he
  unfold M.sortK at this
  rwa[if_neg (by omega),if_neg (by omega),if_neg (by omega),if_neg (by omega),if_pos (by omega)] at this
 value:=fun w K G H mb tv kv ds env t ys i he g j e f hs d=>by
  have c:ys.length=1:=by simp[M.arity] at e;omega
  refine y8 (Qg _ _) (cutKind_value_spec g j c fun w' he=>?_)
  have:=d w' he
  unfold M.sortK at hs
  rw[if_neg (by omega),if_neg (by omega),if_neg (by omega),if_neg (by omega),if_pos (by omega),Y7 (by omega)] at hs
  have k:0≤t.b∧t.b≤t.a∧t.a<(ys.getD 0 (0,0)).1:=by
   by_cases h:0≤t.b∧t.b≤t.a∧t.a<(ys.getD 0 (0,0)).1
   ·exact h
   ·rw[if_neg h] at hs;exact absurd rfl hs
  have l:=M.inS_pos (f 0 (by omega)) (by omega)
  unfold M.valK at this
  rw[if_neg (by omega),if_neg (by omega),if_neg (by omega),if_neg (by omega),if_neg (by omega),if_neg (by omega),if_neg (by omega),if_pos (by omega)] at this
  unfold M.vecCut
  rw[if_pos ⟨l,k⟩]
  exact this
theorem kind_if {s:ByteArray} (hw:s.data.toList=M.wordL 23):KindR 23 (.iface zW (KV s 3)) where
 word:=⟨_,_,_,rfl,fun _=>rfl,fun h=>by omega,.inr (.inr (.inr hw))⟩
 iface:=⟨_,_,rfl⟩
 kids:=fun w K b=>y8 (Ko _ _) (jP fun w' he=>b w' he)
 sort:=fun w K F G H dv tv kv ds t xs e i d f c g b=>by
  have a:xs.length=3:=by simp[M.arity] at c;omega
  refine y8 (Km _ _) (ifKind_sort_spec d f a fun w' he=>?_)
  have:=b w' he
  unfold M.sortK at this
  rwa[if_neg (by omega),if_neg (by omega),if_neg (by omega),if_pos (by omega)] at this
 value:=fun w K G H mb tv kv ds env t ys e he d f c g hs b=>by
  have a:ys.length=3:=by simp[M.arity] at c;omega
  refine y8 (J7 _ _) (ifKind_value_spec d f a fun w' he=>?_)
  have:=b w' he
  unfold M.valK at this
  rwa[if_neg (by omega),if_neg (by omega),if_neg (by omega),if_neg (by omega),if_neg (by omega),if_neg (by omega),if_pos (by omega)] at this
theorem kind_bool {o:Int} {s:ByteArray} {f:Value} {g:List (Int×Int)→Bool} {m:Nat} (q:24≤o) (i:M.arity o=m) (j:yw0 f g m) (c:f.oneCell'=true) (hw:o=24∨s.data.toList=M.wordL o) (k:∀ds env (t:M.Tm) ys,t.op=o→M.valK ds env t ys=M.b2i (g ys)):
  KindR o (.iface zA (.agg ⟨[.string s,.int .i64 m,f]⟩)) where
 word:=⟨_,_,_,by rw[show kTy o=zA by unfold kTy;rw[if_neg (by omega),if_neg (by omega),if_neg (by omega),if_neg (by omega),if_neg (by omega),if_neg (by omega),if_neg (by omega),if_neg (by omega)]],fun h=>by omega,fun _=>⟨_,rfl,c⟩,.inr (.inr hw)⟩
 iface:=⟨_,_,rfl⟩
 kids:=fun w K a=>y8 (Ql _ _ _) (jP fun w' he=>by have:=a w' he;rwa[i] at this)
 sort:=fun w K F G H dv tv kv ds t xs b p d e l n a=>by
  refine y8 (Qk _ _ _) (Vx d e fun w' he=>?_)
  have:=a w' he
  unfold M.sortK at this
  rwa[if_neg (by omega),if_neg (by omega),if_pos (by omega)] at this
 value:=fun w K G H mb tv kv ds env t ys b he d e l n hs a=>by
  refine y8 (XI _ _ _) (KJ j d e (by omega) fun w' he=>?_)
  have:=a w' he
  rwa[k ds env t ys b] at this
end
def KindsR (w:World) (mb:Nat):Prop:= ∃f,MapF (.int .i64) w mb f∧(∀o,0≤M.arity o→∃v,(Value.int .i64 o,v)∈f∧KindR o v)∧∀p,p∈f→∃o,p.1= .int .i64 o∧0≤M.arity o
theorem KindsR.ext {mb:Nat} {w':World} (h:KindsR w mb) (he:Ext w w'):KindsR w' mb:=by
 obtain⟨f,a,b⟩:=h;exact⟨f,a.ext he,b⟩
end Go.Proofs.YtaekfnbnhjgboaaGreatDoor
end
section
namespace Go.Proofs.YtaekfnbnhjgboaaGreatDoor
open Go Go.Vc Go.Proofs
variable {w:World} {K:Value→World→Prop} {F G:Nat→Prop}
theorem QU:ZO0 PP zC (.int .i64) qc:=⟨_,Xq,by kernel_rfl⟩
def KS (w0 w:World) (b:Nat) (S:Int→Prop):Prop:=Ext w0 w∧w0.heap.size≤b∧∃f,MapF (.int .i64) w b f∧(∀o,S o→∃v,(Value.int .i64 o,v)∈f∧KindR o v)∧∀p,p∈f→∃o,p.1= .int .i64 o∧S o
theorem KS.set {w0 w:World} {b:Nat} {S:Int→Prop} {o:Int} {v:Value} (h:KS w0 w b S) (q: ¬S o) (r:KindR o v) (m:∀w',KS w0 w' b (fun x=>x=o∨S x)→Same (· =b) w w'→K undef w'):
  kW PP zC (.map (some b)) (.int .i64 o) v w K:=by
 obtain⟨he,k,f,hm,l,j⟩:=h
 refine k00 QU hm (UT o) (fun x i=>?_) fun w' g hs _=>m w' ⟨Ext.then he hs fun y s=>by subst s;exact k,k,_,g,fun x i=>?_,fun p c=>?_⟩ hs
 ·obtain⟨o',a,d⟩:=j _ i
  cases a;exact q d
 ·by_cases e:x=o
  ·subst e
   exact⟨v,List.mem_append.2 (.inr (List.mem_singleton.2 rfl)),r⟩
  ·obtain⟨u,hu,n⟩:=l x (i.resolve_left e)
   exact⟨u,List.mem_append.2 (.inl hu),n⟩
 ·rcases List.mem_append.1 c with c|c
  ·obtain⟨o',a,d⟩:=j _ c
   exact⟨o',a,.inr d⟩
  ·rw[List.mem_singleton.1 c]
   exact⟨o,rfl,.inl rfl⟩
theorem KS.ext {w0 w w':World} {b:Nat} {S:Int→Prop} (h:KS w0 w b S) (he:Ext w w'):KS w0 w' b S:=by
 obtain⟨a,c,f,hm,r⟩:=h;exact⟨a.trans he,c,f,hm.ext he,r⟩
theorem KS.congr {w0 w:World} {b:Nat} {S S':Int→Prop} (h:KS w0 w b S) (a:∀x,S x↔S' x):KS w0 w b S':=by
 have:S=S':=funext fun x=>propext (a x)
 subst this;exact h
theorem KS.kinds {w0 w:World} {b:Nat} {S:Int→Prop} (h:KS w0 w b S) (a:∀o,S o↔0≤M.arity o):KindsR w b:=by
 obtain⟨he,k,f,hm,c,d⟩:=h
 refine⟨f,hm,fun o i=>c o ((a o).2 i),fun p j=>?_⟩
 obtain⟨o,e,g⟩:=d p j
 exact⟨o,e,(a o).1 g⟩
@[push_cast] theorem bd_named (s:ByteArray) (n:Int):zT PP yc [(0,.string s),(1,.int .i64 n)] w K=K (KV s n) w:=yw qy0 (us:=[[.string s],[.int .i64 n]]) rfl rfl
@[push_cast] theorem XW0 (s:ByteArray) (n:Int):zT PP zO [(0,KV s n)] w K=K (KV s n) w:=yw xA0 (us:=[[.string s,.int .i64 n]]) rfl rfl
@[push_cast] theorem Xn0 (s:ByteArray) (n:Int):zT PP zS [(0,KV s n)] w K=K (KV s n) w:=yw yn0 (us:=[[.string s,.int .i64 n]]) rfl rfl
@[push_cast] theorem Xm0 (s:ByteArray) (n:Int):zT PP zV [(0,KV s n)] w K=K (KV s n) w:=yw yk0 (us:=[[.string s,.int .i64 n]]) rfl rfl
@[push_cast] theorem Xl0 (s:ByteArray) (n:Int):zT PP zJ [(0,KV s n)] w K=K (KV s n) w:=yw yi0 (us:=[[.string s,.int .i64 n]]) rfl rfl
@[push_cast] theorem Xk0 (s:ByteArray) (n:Int):zT PP zP [(0,KV s n)] w K=K (KV s n) w:=yw yh0 (us:=[[.string s,.int .i64 n]]) rfl rfl
@[push_cast] theorem XX0 (s:ByteArray) (n:Int):zT PP zW [(0,KV s n)] w K=K (KV s n) w:=yw xB0 (us:=[[.string s,.int .i64 n]]) rfl rfl
@[push_cast] theorem Xj0:zT PP zR [] w K=K (KV ⟨#[]⟩ 0) w:=yw yg0 (us:=[]) rfl rfl
@[push_cast] theorem X90:zT PP zL [] w K=K (KV ⟨#[]⟩ 0) w:=yw zn0 (us:=[]) rfl rfl
@[push_cast] theorem Xc0 (s:ByteArray) (n:Int) (f:Fn) (a c:Array Value):zT PP zA [(0,KV s n),(1,.func f a c)] w K=K (.agg ⟨[.string s,.int .i64 n,.func f a c]⟩) w:=yw zo0 (us:=[[.string s,.int .i64 n],[.func f a c]]) rfl rfl
theorem val24 (ds:List M.Dcl) (env:List Int) (t:M.Tm) (ys:List (Int×Int)) (h:t.op=24):M.valK ds env t ys=M.b2i true:=by simp[M.valK,h,M.b2i]
theorem val25 (ds:List M.Dcl) (env:List Int) (t:M.Tm) (ys:List (Int×Int)) (h:t.op=25):M.valK ds env t ys=M.b2i (decide ((ys.getD 0 (0,0)).2=0)):=by unfold M.valK;simp only[h];rfl
theorem val26 (ds:List M.Dcl) (env:List Int) (t:M.Tm) (ys:List (Int×Int)) (h:t.op=26):M.valK ds env t ys=M.b2i (decide ((ys.getD 0 (0,0)).2=1)&&decide ((ys.getD 1 (0,0)).2=1)):=by unfold M.valK;simp only[h];rfl
theorem val27 (ds:List M.Dcl) (env:List Int) (t:M.Tm) (ys:List (Int×Int)) (h:t.op=27):M.valK ds env t ys=M.b2i (decide ((ys.getD 0 (0,0)).2=1)||decide ((ys.getD 1 (0,0)).2=1)):=by unfold M.valK;simp only[h];rfl
def binWords:List ByteArray:=[⟨#[97,110,100]⟩,⟨#[111,114]⟩,⟨#[120,111,114]⟩,⟨#[97,100,100]⟩,⟨#[115,117,98]⟩,⟨#[109,117,108]⟩,⟨#[100,105,118]⟩,⟨#[114,101,109]⟩,⟨#[115,104,108]⟩,⟨#[115,104,114]⟩,⟨#[115,97,114]⟩]
theorem Y80:∀i:Fin 11,(binWords.getD i.1 ⟨#[]⟩).data.toList=M.wordL (3+(i.1:Int)):=by decide
theorem kinds_new (W:∀w' b,Ext w w'→KindsR w' b→w.heap.size≤b→K (.map (some b)) w'):vcall PP kK #[] w K:=by
 apply qr0
 refine qY0 QU fun b X hb hm he hs=>?_
 have J:KS w X b (fun _=>False):=⟨he,by omega,[],hm,fun _ h=>h.elim,fun _ h=>by cases h⟩
 simp only[push_cast]
 refine J.set (by decide) (kind_un (.inl rfl) (by decide)) fun w2 L _=>?_
 refine L.set (by decide) (kind_un (.inr rfl) (by decide)) fun w3 N _=>?_
 refine N.set (by decide) (kind_cat (by decide)) fun w4 O _=>?_
 refine O.set (by decide) (kind_cmp (by decide) (by decide) (by decide)) fun w5 P _=>?_
 refine P.set (by decide) (kind_cmp (by decide) (by decide) (by decide)) fun w6 Q _=>?_
 refine Q.set (by decide) (kind_cmp (by decide) (by decide) (by decide)) fun w7 R _=>?_
 refine R.set (by decide) kind_vec fun w8 S _=>?_
 refine S.set (by decide) kind_name fun w9 T _=>?_
 refine T.set (by decide) (kind_cut (by decide)) fun w10 U _=>?_
 refine U.set (by decide) (kind_if (by decide)) fun Y l _=>?_
 refine l.set (by decide) (kind_bool (m:=0) (by decide) rfl ku0 rfl (.inl rfl) val24) fun Z n _=>?_
 refine n.set (by decide) (kind_bool (m:=1) (by decide) rfl kinds2_fn rfl (.inr (by decide)) val25) fun a0 p _=>?_
 refine p.set (by decide) (kind_bool (m:=2) (by decide) rfl kinds3_fn rfl (.inr (by decide)) val26) fun a1 q _=>?_
 refine q.set (by decide) (kind_bool (m:=2) (by decide) rfl kinds4_fn rfl (.inr (by decide)) val27) fun a2 g _=>?_
 refine vbuildS_row1 (xs:=binWords.map .string) KT (by kernel_rfl) KN (fun x B=>by obtain⟨s,_,rfl⟩:=List.mem_map.1 B;rfl) (by decide) fun bs D F j G t=>?_
 have d:Vals (· =bs) D (.slice (some ⟨bs,0,none⟩) (binWords.map Value.string).length (binWords.map Value.string).length) (binWords.map Value.string):=t.sl1 rfl (by decide)
 have r:=g.ext j
 have v:bs≠b:=by
  obtain⟨_,_,f,hm,_⟩:=g
  have:=hm.lt;omega
 have hlen:(binWords.map Value.string).length=11:=rfl
 simp(disch:=(simp only[push_cast];done)) only[push_cast,d.len]
 rw[hlen]
 rw[hlen] at d
 refine vloop_up 11 (fun i u w'=>u=[.int .i64 i]∧Vals (· =bs) w' (.slice (some ⟨bs,0,none⟩) 11 11) (binWords.map Value.string)∧KS w w' b fun x=>(3≤x∧x<3+(i:Int))∨x=27∨x=26∨x=25∨x=24∨x=23∨x=22∨x=21∨x=20∨x=17∨x=16∨x=15∨x=14∨x=2∨x=1) ⟨rfl,d,r.congr fun x=>by simp only[or_false];constructor<;>intro h<;>omega⟩ ?_
 rintro i _ _ E C hi ⟨rfl,A,k⟩ V
 simp only[push_cast]
 refine zh (fun a=>?_) (fun a=>?_)
 ·have c:i<11:=by omega
  have H:(binWords.map Value.string).getD i undef= .string (binWords.getD i ⟨#[]⟩):=M.getD_map _ (show i<binWords.length from c) _ _
  have I:IntKind.i64.wrap (3+(i:Int))=3+(i:Int):=zH (by omega) (by omega)
  rw[A.iaddr (by kernel_rfl) (by omega) (by rw[hlen];omega),Int.toNat_natCast,A.load (by kernel_rfl) (by rw[hlen];omega),H]
  simp only[push_cast,I]
  refine k.set (by omega) (kind_bin (by omega) (by omega) (Y80 ⟨i,c⟩)) fun a3 y z=>?_
  try simp only[push_cast]
  rw[inc64' (by omega)]
  exact V c _ _ ⟨rfl,A.same z fun x B _ e=>v (B.symm.trans e),y.congr fun x=>by constructor<;>intro h<;>omega⟩
 ·have:i=11:=by omega
  subst this
  refine W E b k.1 (k.kinds fun o=>?_) k.2.1
  constructor
  ·intro h
   have:(1≤o∧o≤17)∨(20≤o∧o≤27):=by omega
   unfold M.arity
   repeat' split
   all_goals omega
  ·intro h
   have:=M.arity_ops h
   omega
theorem jz0 (d:∀w' b,Ext w w'→KindsR w' b→K (.map (some b)) w'):vcall PP kK #[] w K:=kinds_new fun w' b a c _=>d w' b a c
end Go.Proofs.YtaekfnbnhjgboaaGreatDoor
end
section
namespace Go.Proofs.YtaekfnbnhjgboaaGreatDoor
open Go Go.Vc Go.Proofs
variable {w:World} {K:Value→World→Prop} {F G:Nat→Prop}
theorem stTerm {b:Nat} {cs cs':List Value} {t:TypeId} {g:M.Tm} (h:Blk w b cs t) (f:cs.length=5) (d:TmR F w cs' g) (c:∀w',Same (· =b) w w'→w'.heap.size=w.heap.size→Blk w' b cs' t→K undef w'):zu PP zd (.pointer (some ⟨b,0,none⟩)) (.agg ⟨cs'⟩) w K:=by
 obtain⟨kv,rfl,e⟩:=d.inv
 obtain⟨css,hs,_⟩:=e
 refine h.stAgg (by simp[f]) zN ?_ c
 intro v a
 simp only[List.mem_cons,List.not_mem_nil,or_false] at a
 rcases a with rfl|rfl|rfl|rfl|rfl
 ·rfl
 ·rfl
 ·rfl
 ·rfl
 ·exact hs.one
theorem jA {cs:List Value} {t:M.Tm} (h:TmR F w cs t):cs.length=5:=by
 obtain⟨kv,rfl,_⟩:=h.inv;rfl
theorem jy0 {v:Value} {t:M.Tm} (m:TermR F w v t) (i:∀w',Ext w w'→K (.bool (M.plainM t)) w'):vcall PP Qb #[v] w K:=by
 apply qq0
 obtain⟨ksv,rfl,k⟩:=m
 refine zx fun b1 n j h l e=>?_
 have d:=i _ h
 unfold M.plainM at d
 refine y5 (fun u w'=>u=[.bool (decide (t.op=20)||decide (t.op=22)||(decide (t.a=0)&&decide (t.b=0)))]∧w'=n) (fun C f=>?_) ?_
 ·simp(disch:=(simp only[push_cast];done)) only[push_cast,e.ld0,e.ld1,e.ld2]
  refine zh (fun a=>?_) (fun a=>?_)
  ·exact f _ _ ⟨by rw[decide_eq_true a];rfl,rfl⟩
  refine zh (fun b=>?_) (fun b=>?_)
  ·exact f _ _ ⟨by rw[decide_eq_true b];simp,rfl⟩
  refine zh (fun c=>?_) (fun c=>?_)
  ·exact f _ _ ⟨by rw[decide_eq_false a,decide_eq_false b,decide_eq_true c];rfl,rfl⟩
  ·exact f _ _ ⟨by rw[decide_eq_false a,decide_eq_false b,decide_eq_false c];rfl,rfl⟩
 ·rintro u g o ⟨rfl,rfl⟩
  simp(disch:=(simp only[push_cast];done)) only[push_cast,e.ld0,e.ld3]
  refine yo (fun a=>?_) (fun a=>?_)
  ·rw[a,Bool.true_and] at d
   refine zh (fun b=>?_) (fun b=>?_)
   ·rwa[decide_eq_true b,Bool.true_or] at d
   ·rw[decide_eq_false b,Bool.false_or] at d
    exact d
  ·rwa[a,Bool.false_and] at d
theorem UP {mb:Nat} {o:Int} {ok:Bool} (h:KindsR w mb) (d:0≤M.arity o) (b:∀v,KindR o v→K (if ok then .tuple #[v,.bool true] else v) w):J3 PP zC (.map (some mb)) (.int .i64 o) ok w K:=by
 obtain⟨f,hm,a,g⟩:=h
 obtain⟨v,e,c⟩:=a o d
 rw[yx0 QU hm (UT o) e]
 exact b v c
theorem kr0 {mb:Nat} {o:Int} (h:KindsR w mb) (d: ¬0≤M.arity o) (b:K (.tuple #[.nilIface,.bool false]) w):J3 PP zC (.map (some mb)) (.int .i64 o) true w K:=by
 obtain⟨f,hm,i,a⟩:=h
 rw[xC0 QU (z:= .nilIface) (by unfold yO;kernel_rfl) hm (UT o) fun v g=>?_]
 ·exact b
 ·obtain⟨o',e,c⟩:=a _ g
  cases e;exact d c
theorem KW {α β:Type} (f:α→β) {l:List α} {i:Nat} (h:i<l.length) (d:α):(l.take i).map f++[f (l.getD i d)]=(l.take (i+1)).map f:=by
 rw[List.take_add_one,List.getElem?_eq_getElem h,List.map_append,List.getD_eq_getElem?_getD,List.getElem?_eq_getElem h]
 rfl
theorem sortOf_spec:∀(t:M.Tm) {w:World} {K:Value→World→Prop} {F G:Nat→Prop} {mb:Nat} {dv v:Value} {ds:List M.Dcl},KindsR w mb→DclsR F w dv ds→M.declOk ds=true→TermR G w v t→
  (∀w',Ext w w'→K (.int .i64 (M.sortM ds t)) w')→vcall PP Zm #[.map (some mb),dv,v] w K:=by
 refine M.Tm.ind fun t ih w K F G mb dv v ds hm hd N ht U=>?_
 apply xt0
 obtain⟨ksv,rfl,m⟩:=ht
 refine zx fun b1 w1 a3 l a6 D=>?_
 have J:=hm.ext l
 simp(disch:=(simp only[push_cast];done)) only[push_cast,D.ld0]
 have A: ¬(M.formed t=true)→∀w',Ext w w'→K (.int .i64 (-1)) w':=fun hn w' he=>by
  have:=U w' he
  rw[M.sortM_eq] at this
  unfold M.sortF at this
  rwa[if_neg (fun h=>hn h.1)] at this
 by_cases Y: ¬0≤M.arity t.op
 ·have S:=Y
  refine kr0 J S ?_
  simp only[push_cast]
  refine y5 (fun _ _=>False) (fun C R=>?_) (fun _ _ _ h=>h.elim)
  refine zw fun T c _=>?_
  simp only[push_cast,true_and]
  refine A (fun h=>S ?_) _ (l.trans c)
  simp only[M.formed,Bool.and_eq_true,decide_eq_true_eq] at h
  omega
 have S:0≤M.arity t.op:=by omega
 refine UP J S fun kv I=>?_
 simp only[push_cast,if_true]
 have a9:=m.small
 refine y5 (fun u w'=>u=[]∧Ext w1 w'∧M.formed t=true) (fun C R=>?_) ?_
 ·refine zw fun T c _=>?_
  have E:=D.ext c
  simp(disch:=(simp only[push_cast];done)) only[push_cast,E.ld4,m.len,true_and]
  refine I.kids _ _ fun w3 d=>?_
  have Q:=E.ext d
  simp(disch:=(simp only[push_cast];done)) only[push_cast,Q.ld4,m.len,true_and,and_self]
  refine zh (fun a=>?_) (fun a=>?_)
  ·refine A (fun h=>?_) _ ((l.trans c).trans d)
   simp only[M.formed,Bool.and_eq_true,decide_eq_true_eq] at h
   omega
  ·simp(disch:=(simp only[push_cast];done)) only[push_cast,Q.ldAgg (t:=zd) zN,true_and]
   refine jy0 (F:=G) (t:=t) ⟨ksv,rfl,m.ext ((l.trans c).trans d)⟩ fun w4 e=>?_
   simp only[push_cast,true_and]
   refine yo (fun b=>?_) (fun b=>?_)
   ·refine A (fun h=>?_) _ (((l.trans c).trans d).trans e)
    simp only[M.formed,Bool.and_eq_true] at h
    rw[h.2] at b;cases b
   ·refine R _ _ ⟨rfl,(c.trans d).trans e,?_⟩
    simp only[M.formed,Bool.and_eq_true,decide_eq_true_eq]
    exact⟨by omega,by simpa using b⟩
 ·rintro u g T ⟨rfl,c,hf⟩
  have E:=D.ext c
  have hE:=l.trans c
  have ab:=hE.size
  simp(disch:=(simp only[push_cast];done)) only[push_cast,E.ld4,m.len]
  have H:=hf
  simp only[M.formed,Bool.and_eq_true,decide_eq_true_eq] at H
  have a2:t.ks.length≤3:=by
   have D:=H.1
   unfold M.arity at D
   repeat' split at D
   all_goals omega
  refine vloop_up t.ks.length (fun i u w'=> ∃sv,u=[sv,.int .i64 i]∧Ext T w'∧OwnI PP zg w' sv ((t.ks.take i).map (M.sortM ds))∧(∀b,sv.ownBlock=some b→T.heap.size≤b)∧(∀x,x∈(t.ks.take i).map (M.sortM ds)→x≠ -1)) ⟨_,rfl,Same.refl _ _,OwnI.nil,(fun b h=>by cases h),by simp⟩ ?_
  rintro i _ _ w3 C hi ⟨sv,rfl,d,B,L,n⟩ R
  have k:=hE.trans d
  have o:=m.ext k
  simp only[push_cast]
  refine zh (fun a=>?_) (fun a=>?_)
  ·simp(disch:=first|(simp only[push_cast];done)|omega) only[push_cast,o.iaddr]
   refine o.load zN (by omega) fun x r=>?_
   obtain⟨cs,rfl,s⟩:=r.cells
   refine zF xA fun b2 w4 a4 e a7 h4=>?_
   refine stTerm h4 rfl (s.ext e) fun w5 Z aa h5=>?_
   have p:Ext w3 w5:=Ext.then e Z fun y P=>by subst P;omega
   rw[h5.ldAgg (t:=zd) (by rw[jA s];exact zN)]
   refine ih _ (M.getD_mem (by omega) _) (hm.ext (k.trans p)) (hd.ext (k.trans p)) N (s.ext p).term fun w6 V=>?_
   simp only[push_cast]
   have f:=p.trans V
   refine zh (fun b=>?_) (fun b=>?_)
   ·have:=U _ (k.trans f)
    rw[M.sortM_eq] at this
    unfold M.sortF at this
    rwa[if_neg (fun h=>h.2 (b▸List.mem_map_of_mem (M.getD_mem (by omega) _)))] at this
   ·refine Us YG jx XN rfl rfl (by decide) fun b3 w7 a5 z a8 h7=>?_
    have O:=(B.ext f).ext z
    have hlen:((t.ks.take i).map (M.sortM ds)).length=i:=by rw[List.length_map,List.length_take];omega
    refine O.app1 Y6 h7 (by rw[hlen];omega) (by rw[hlen];omega) fun a1 w8 q a0 X=>?_
    try simp only[push_cast]
    rw[inc64' (by omega)]
    rw[KW _ (by omega)] at q
    refine R (by omega) _ _ ⟨a1,rfl,Ext.then ((d.trans f).trans z) a0 fun y P=>L y P,q,fun y P=>?_,fun x r=>?_⟩
    ·rcases X y P with h|h
     ·exact L y h
     ·have:=(d.trans f).size;have:=z.size;omega
    ·rw[←KW _ (by omega) default] at r
     rcases List.mem_append.1 r with r|r
     ·exact n x r
     ·rw[List.mem_singleton.1 r];exact b
  ·have W:i=t.ks.length:=by omega
   subst W
   rw[List.take_length] at B n
   have Q:=E.ext d
   simp(disch:=(simp only[push_cast];done)) only[push_cast,Q.ldAgg (t:=zd) zN]
   refine I.sort _ _ F G _ _ _ _ ds t _ rfl (hd.ext k) ⟨ksv,rfl,o⟩ B.ints (by rw[List.length_map];omega) (fun j=>?_) fun w4 e=>?_
   ·by_cases hj:j<t.ks.length
    ·rw[M.getD_map _ hj 0 default];exact M.sort_range N _
    ·rw[List.getD_eq_getElem?_getD,List.getElem?_eq_none (by simpa using hj)];simp
   ·have:=U _ (k.trans e)
    rw[M.sortM_eq] at this
    unfold M.sortF at this
    rwa[if_pos ⟨hf,fun h=>n _ h rfl⟩] at this
theorem count_spec:∀(t:M.Tm) {w:World} {K:Value→World→Prop} {F:Nat→Prop} {v:Value} {m deep mb:Nat} {ty:TypeId},TermR F w v t→Blk w mb [.int .i64 m] ty→(∀b,F b→b≠mb)→m≤20→1≤deep→deep≤8→
  (∀w' (r B:Nat),Same (· =mb) w w'→Blk w' mb [.int .i64 B] ty→m<B→B≤21→deep≤r→r≤8→(m+M.sizeM t≤20∧deep-1+M.deepM t≤7→B=m+M.sizeM t∧r=deep-1+M.deepM t)→(¬(m+M.sizeM t≤20∧deep-1+M.deepM t≤7)→20<B∨7<r)→K (.int .i64 r) w')→
  vcall PP Y4 #[v,.int .i64 deep,.pointer (some ⟨mb,0,none⟩)] w K:=by
 refine M.Tm.ind fun t ih w K F v m deep mb ty ht E hF hm a2 a3 L=>?_
 apply qs0
 obtain⟨ksv,rfl,n⟩:=ht
 refine zx fun b1 w1 a0 p a9 Z=>?_
 have o:=E.ext p
 have X:=E.lt
 have ab:=n.small
 have hS:=M.szT_all t
 have hD:=M.dpT_all t
 simp(disch:=(simp only[push_cast];done)) only[push_cast,o.ld0]
 rw[inc64' (by omega)]
 refine o.st (i:=0) rfl rfl jx rfl fun G A ac D=>?_
 have s:Same (· =mb) w G:=(Same.of_ext p).trans A
 have q2:=Z.same A (by omega)
 replace D:Blk G mb [.int .i64 (m+1:Nat)] ty:=D
 refine zh (fun a=>?_) (fun a=>?_)
 ·exact L G deep (m+1) s D (by omega) (by omega) (by omega) (by omega) (fun h=>by omega) (fun h=>by omega)
 simp(disch:=(simp only[push_cast];done)) only[push_cast,q2.ld4,n.len]
 refine vloop_up t.ks.length (fun i u w'=> ∃r mi:Nat,u=[.int .i64 r,.int .i64 i]∧Same (· =mb) G w'∧Blk w' mb [.int .i64 mi] ty∧m<mi∧mi≤21∧deep≤r∧r≤8∧(m+1+M.szT t.ks i≤20∧deep+M.dpT t.ks i≤7→mi=m+1+M.szT t.ks i∧r=deep+M.dpT t.ks i)∧(¬(m+1+M.szT t.ks i≤20∧deep+M.dpT t.ks i≤7)→20<mi∨7<r))
  ⟨deep,m+1,rfl,Same.refl _ _,D,by omega,by omega,by omega,by omega,fun h=>by simp[M.szT,M.dpT],fun h=>by
   have V:M.szT t.ks 0=0:=rfl
   have e2:M.dpT t.ks 0=0:=rfl
   omega⟩ ?_
 rintro i _ _ H C hi ⟨r,mi,rfl,z,J,R,S,c3,T,I,U⟩ hC
 have d:Same (· =mb) w H:=s.trans z
 have g:TmsR F H ksv t.ks:=n.same d fun b E _ e=>hF b E e
 have ad:=d.size
 simp only[push_cast]
 refine zh (fun b=>?_) (fun b=>?_)
 ·have a5:=M.szT_mono (ks:=t.ks) (i:=i) (j:=t.ks.length) (by omega) (Nat.le_refl _)
  have a6:=M.dpT_mono (ks:=t.ks) (i:=i) (j:=t.ks.length) (by omega) (Nat.le_refl _)
  have a7:=M.szT_succ (ks:=t.ks) (i:=i) (by omega)
  have a8:=M.dpT_succ (ks:=t.ks) (i:=i) (by omega)
  simp(disch:=first|(simp only[push_cast];done)|omega) only[push_cast,g.iaddr]
  refine g.load zN (by omega) fun x hx=>?_
  obtain⟨cs,rfl,l⟩:=hx.cells
  refine zF xA fun b2 w4 a1 q aa h4=>?_
  refine stTerm h4 rfl (l.ext q) fun Y P ae h5=>?_
  have f:Ext H Y:=Ext.then q P fun y hy=>by subst hy;omega
  have k:=J.ext f
  have a4:=J.lt
  simp(disch:=(simp only[push_cast];done)) only[push_cast,k.ld0]
  refine zh (fun c=>?_) (fun c=>?_)
  ·exact L Y r mi (d.trans (Same.of_ext f)) k R S c3 T (fun h=>by omega) (fun h=>by omega)
  ·rw[h5.ldAgg (t:=zd) (by rw[jA l];exact zN)]
   have V:IntKind.i64.wrap ((deep:Int)+1)=((deep+1:Nat):Int):=inc64' (by omega)
   rw[V]
   refine ih _ (M.getD_mem (by omega) _) (l.ext f).term k hF (by omega) (by omega) (by omega) fun w6 Q m2 O h6 d1 d2 d3 d4 d5 d6=>?_
   simp only[push_cast]
   rw[inc64' (by omega),show max (r:Int) (Q:Int)=((max r Q:Nat):Int) by omega]
   refine hC (by omega) _ _ ⟨max r Q,m2,rfl,(z.trans (Same.of_ext f)).trans O,h6,by omega,d2,by omega,by omega,fun h=>?_,fun h=>?_⟩
   ·have:=I (by omega)
    have:=d5 (by omega)
    omega
   ·by_cases W:m+1+M.szT t.ks i≤20∧deep+M.dpT t.ks i≤7
    ·have:=I W
     have:=d6 (by omega)
     omega
    ·have:=U W
     omega
 ·have N:i=t.ks.length:=by omega
  subst N
  refine L H r mi d J R S c3 T (fun h=>?_) (fun h=>?_)
  ·have:=I (by omega)
   omega
  ·exact U (by omega)
theorem TermMany_spec {v:Value} {t:M.Tm} (A:TermR F w v t) (H:∀w',Ext w w'→K (.tuple #[.int .i64 (M.manyM t),.int .i64 (M.lvlM t)]) w'):vcall PP ZE #[v] w K:=by
 apply zk0
 have s:=A.weaken (F':=fun b=>b<w.heap.size) fun b _ h=>h
 obtain⟨ksv,rfl,L⟩:=A
 refine zx fun b1 Y I o N E=>?_
 refine W8 XN fun b2 S J g O l=>?_
 replace l:Blk S b2 [.int .i64 0] ze:=l
 refine l.st (i:=0) rfl rfl jx rfl fun B k P n=>?_
 replace n:Blk B b2 [.int .i64 ((0:Nat):Int)] ze:=n
 have R:=(E.ext g).same k (by omega)
 have j:Ext w B:=Ext.then (o.trans g) k fun y x=>by subst x;omega
 rw[R.ldAgg (t:=zd) zN]
 refine count_spec t (m:=0) (deep:=1) (s.ext j) n (fun b X e=>by omega) (by omega) (by omega) (by omega) fun C r Q q G T U c3 V f D=>?_
 have p:Ext w C:=Ext.then j q fun y x=>by subst x;omega
 have d:=H C p
 have c:M.fits t=true↔M.sizeM t≤20∧M.deepM t≤7:=M.fits_iff
 unfold M.manyM M.lvlM at d
 simp(disch:=(simp only[push_cast];done)) only[push_cast,G.ld0]
 refine zh (fun a=>?_) (fun a=>?_)
 ·rw[if_neg (fun h=>by have u:=c.1 h;have:=f (by omega);omega),if_neg (fun h=>by have u:=c.1 h;have:=f (by omega);omega)] at d
  exact d
 ·refine zh (fun b=>?_) (fun b=>?_)
  ·rw[if_neg (fun h=>by have u:=c.1 h;have:=f (by omega);omega),if_neg (fun h=>by have u:=c.1 h;have:=f (by omega);omega)] at d
   exact d
  ·have z:M.sizeM t≤20∧M.deepM t≤7:=by
    by_cases h:M.sizeM t≤20∧M.deepM t≤7
    ·exact h
    ·have:=D (by omega);omega
   have W:=f (by omega)
   rw[if_pos (c.2 z),if_pos (c.2 z)] at d
   rw[show Q=M.sizeM t by omega,show r=M.deepM t by omega]
   exact d
end Go.Proofs.YtaekfnbnhjgboaaGreatDoor
end
section
namespace Go.Proofs
open Go.Shelf
def YtaekfnbnhjgboaaGreatDoor.trimL_ren:Go.Shelf.Ren:=⟨fun|160=>137 |232=>197 |231=>196 |227=>198 |234=>200 |233=>199 |236=>202 |235=>201 |228=>236 |271=>239 |151=>238 |197=>237 |120=>263 |152=>262 |260=>261 |137=>281 |119=>282 |224=>283 |225=>284 |217=>291 |266=>295 |n=>n,fun|9=>9 |4=>4 |3=>3 |5=>5 |117=>273 |116=>272 |0=>0 |124=>276 |21=>21 |105=>309 |46=>314 |119=>344 |139=>347 |138=>346 |n=>n,fun|3=>3 |4=>4 |n=>n⟩
theorem YtaekfnbnhjgboaaGreatDoor.trimL:Go.Proofs.Lays.n160 Tryz.prog YtaekfnbnhjgboaaGreatDoor.trimL_ren:={
 mixed:=by kernel_rfl
 f119:=Tryz.func282.trans (congrArg some (by kernel_rfl))
 f120:=Tryz.func263.trans (congrArg some (by kernel_rfl))
 f137:=Tryz.func281.trans (congrArg some (by kernel_rfl))
 f151:=Tryz.func238.trans (congrArg some (by kernel_rfl))
 f152:=Tryz.func262.trans (congrArg some (by kernel_rfl))
 f160:=Tryz.func137.trans (congrArg some (by kernel_rfl))
 f197:=Tryz.func237.trans (congrArg some (by kernel_rfl))
 f217:=Tryz.func291.trans (congrArg some (by kernel_rfl))
 f224:=Tryz.func283.trans (congrArg some (by kernel_rfl))
 f225:=Tryz.func284.trans (congrArg some (by kernel_rfl))
 f227:=Tryz.func198.trans (congrArg some (by kernel_rfl))
 f228:=Tryz.func236.trans (congrArg some (by kernel_rfl))
 f231:=Tryz.func196.trans (congrArg some (by kernel_rfl))
 f232:=Tryz.func197.trans (congrArg some (by kernel_rfl))
 f233:=Tryz.func199.trans (congrArg some (by kernel_rfl))
 f234:=Tryz.func200.trans (congrArg some (by kernel_rfl))
 f235:=Tryz.func201.trans (congrArg some (by kernel_rfl))
 f236:=Tryz.func202.trans (congrArg some (by kernel_rfl))
 f260:=Tryz.func261.trans (congrArg some (by kernel_rfl))
 f266:=Tryz.func295.trans (congrArg some (by kernel_rfl))
 f271:=Tryz.func239.trans (congrArg some (by kernel_rfl))
 t0:=Tryz.underlying0
 a0:=Tryz.isAgg0
 z0:=Tryz.sizeOf0
 v0:=Tryz.zeroValue0
 t3:=Tryz.underlying3
 a3:=Tryz.isAgg3
 z3:=Tryz.sizeOf3
 v3:=Tryz.zeroValue3
 t4:=Tryz.underlying4
 a4:=Tryz.isAgg4
 z4:=Tryz.sizeOf4
 v4:=Tryz.zeroValue4
 t5:=Tryz.underlying5
 a5:=Tryz.isAgg5
 z5:=Tryz.sizeOf5
 v5:=Tryz.zeroValue5
 t9:=Tryz.underlying9
 a9:=Tryz.isAgg9
 z9:=Tryz.sizeOf9
 v9:=Tryz.zeroValue9
 t21:=Tryz.underlying21
 a21:=Tryz.isAgg21
 z21:=Tryz.sizeOf21
 v21:=Tryz.zeroValue21
 t46:=Tryz.underlying314
 a46:=Tryz.isAgg314
 z46:=Tryz.sizeOf314
 v46:=Tryz.zeroValue314
 t105:=Tryz.underlying309
 a105:=Tryz.isAgg309
 z105:=Tryz.sizeOf309
 v105:=Tryz.zeroValue309
 t116:=Tryz.underlying272
 a116:=Tryz.isAgg272
 z116:=Tryz.sizeOf272
 t117:=Tryz.underlying273
 a117:=Tryz.isAgg273
 z117:=Tryz.sizeOf273
 v117:=Tryz.zeroValue273
 t119:=Tryz.underlying344
 a119:=Tryz.isAgg344
 z119:=Tryz.sizeOf344
 t124:=Tryz.underlying276
 a124:=Tryz.isAgg276
 z124:=Tryz.sizeOf276
 v124:=Tryz.zeroValue276
 t138:=Tryz.underlying346
 a138:=Tryz.isAgg346
 z138:=Tryz.sizeOf346
 v138:=Tryz.zeroValue346
 t139:=Tryz.underlying347
 a139:=Tryz.isAgg347
 z139:=Tryz.sizeOf347
 v139:=Tryz.zeroValue347
 g3:=by kernel_rfl
 g4:=by kernel_rfl}
def YtaekfnbnhjgboaaGreatDoor.joinL_ren:Go.Shelf.Ren:=⟨fun|156=>168 |165=>211 |166=>212 |169=>213 |240=>249 |241=>250 |276=>274 |277=>275 |n=>n,fun|31=>218 |9=>9 |3=>3 |4=>4 |0=>0 |20=>20 |72=>288 |76=>290 |70=>286 |37=>22 |75=>102 |127=>313 |164=>333 |5=>5 |80=>238 |n=>n,fun|n=>n⟩
theorem YtaekfnbnhjgboaaGreatDoor.joinL:Go.Proofs.Lays.n156 Tryz.prog YtaekfnbnhjgboaaGreatDoor.joinL_ren:={
 mixed:=by kernel_rfl
 f156:=Tryz.func168.trans (congrArg some (by kernel_rfl))
 f165:=Tryz.func211.trans (congrArg some (by kernel_rfl))
 f166:=Tryz.func212.trans (congrArg some (by kernel_rfl))
 f169:=Tryz.func213.trans (congrArg some (by kernel_rfl))
 f240:=Tryz.func249.trans (congrArg some (by kernel_rfl))
 f241:=Tryz.func250.trans (congrArg some (by kernel_rfl))
 f276:=Tryz.func274.trans (congrArg some (by kernel_rfl))
 f277:=Tryz.func275.trans (congrArg some (by kernel_rfl))
 t0:=Tryz.underlying0
 a0:=Tryz.isAgg0
 z0:=Tryz.sizeOf0
 v0:=Tryz.zeroValue0
 t3:=Tryz.underlying3
 a3:=Tryz.isAgg3
 z3:=Tryz.sizeOf3
 v3:=Tryz.zeroValue3
 t4:=Tryz.underlying4
 a4:=Tryz.isAgg4
 z4:=Tryz.sizeOf4
 v4:=Tryz.zeroValue4
 t9:=Tryz.underlying9
 a9:=Tryz.isAgg9
 z9:=Tryz.sizeOf9
 v9:=Tryz.zeroValue9
 t20:=Tryz.underlying20
 a20:=Tryz.isAgg20
 z20:=Tryz.sizeOf20
 v20:=Tryz.zeroValue20
 t31:=Tryz.underlying218
 a31:=Tryz.isAgg218
 z31:=Tryz.sizeOf218
 v31:=Tryz.zeroValue218
 t37:=Tryz.underlying22
 a37:=Tryz.isAgg22
 z37:=Tryz.sizeOf22
 v37:=Tryz.zeroValue22
 t70:=Tryz.underlying286
 a70:=Tryz.isAgg286
 z70:=Tryz.sizeOf286
 v70:=Tryz.zeroValue286
 t72:=Tryz.underlying288
 a72:=Tryz.isAgg288
 z72:=Tryz.sizeOf288
 v72:=Tryz.zeroValue288
 t75:=Tryz.underlying102
 a75:=Tryz.isAgg102
 z75:=Tryz.sizeOf102
 v75:=Tryz.zeroValue102
 t76:=Tryz.underlying290
 a76:=Tryz.isAgg290
 z76:=Tryz.sizeOf290
 v76:=Tryz.zeroValue290
 t127:=Tryz.underlying313
 a127:=Tryz.isAgg313
 z127:=Tryz.sizeOf313
 v127:=Tryz.zeroValue313
 t164:=Tryz.underlying333
 a164:=Tryz.isAgg333
 z164:=Tryz.sizeOf333
 v164:=Tryz.zeroValue333}
end Go.Proofs
end
section
namespace Go.Proofs.YtaekfnbnhjgboaaGreatDoor
open Go Go.Vc Go.Proofs
variable {w:World} {K:Value→World→Prop} {F G:Nat→Prop}
theorem dw_nil {α:Type} {p:α→Bool}:∀{l:List α},l.dropWhile p=[]↔ ∀x,x∈l→p x=true
 |[]=>by simp
 |a::l=>by
  rw[List.dropWhile_cons]
  split
  ·rename_i h
   rw[dw_nil]
   constructor
   ·intro b x c
    rcases List.mem_cons.1 c with rfl|c
    ·exact h
    ·exact b x c
   ·intro b x c;exact b x (List.mem_cons_of_mem _ c)
  ·rename_i h
   constructor
   ·intro b;cases b
   ·intro b;exact absurd (b a List.mem_cons_self) h
theorem dw_head {α:Type} {p:α→Bool}:∀{l:List α},l.dropWhile p≠[]→∃x,x∈l.dropWhile p∧p x=false
 |[],h=>absurd rfl h
 |a::l,h=>by
  rw[List.dropWhile_cons] at h⊢
  split
  ·rename_i b
   rw[if_pos b] at h
   exact dw_head h
  ·rename_i b
   exact⟨a,List.mem_cons_self,by simpa using b⟩
theorem dw_sub {α:Type} {p:α→Bool}:∀{l:List α} {x:α},x∈l.dropWhile p→x∈l
 |[],_,h=>h
 |a::l,x,h=>by
  rw[List.dropWhile_cons] at h
  split at h
  ·exact List.mem_cons_of_mem _ (dw_sub h)
  ·exact h
theorem ZA0 {l cs:List UInt8}:Lib.trimS l cs=[]↔ ∀x,x∈l→cs.contains x=true:=by
 unfold Lib.trimS Lib.trimLeftS Lib.trimRightS
 rw[dw_nil]
 constructor
 ·intro h
  by_cases a:∀x,x∈l→cs.contains x=true
  ·exact a
  ·exfalso
   have b:List.dropWhile (fun x=>cs.contains x) l.reverse≠[]:=fun e=>a fun x c=>dw_nil.1 e x (List.mem_reverse.2 c)
   obtain⟨y,g,f⟩:=dw_head b
   have d:=h y (List.mem_reverse.2 g)
   rw[f] at d;cases d
 ·intro h x c
  exact h x (List.mem_reverse.1 (dw_sub (List.mem_reverse.1 c)))
def abc:ByteArray:=⟨#[97,98,99,100,101,102,103,104,105,106,107,108,109,110,111,112,113,114,115,116,117,118,119,120,121,122]⟩
theorem abc_in (x:UInt8):abc.data.toList.contains x=(decide (97≤x.toNat)&&decide (x.toNat≤122)):=by
 have a:∀n:Fin 256,abc.data.toList.contains (UInt8.ofNat n.1)=(decide (97≤(UInt8.ofNat n.1).toNat)&&decide ((UInt8.ofNat n.1).toNat≤122)):=by decide+kernel
 have:=a ⟨x.toNat,x.toNat_lt⟩
 simpa using this
theorem qx0 {w w':World} (h:Go.RowKit.Below w.heap.size w w'):Ext w w':=⟨h.os,h.tape,h.output,h.size,fun b a _=>h.block b a⟩
def xP0 (s:ByteArray):Bool:=s.data.all fun c=>decide (97≤c.toNat)&&decide (c.toNat≤122)
theorem kV0 {s:ByteArray} (hs:s.size≤9223372036854775807) (f:∀w' r,Ext w w'→(r=⟨#[]⟩↔xP0 s=true)→K (.string r) w'):vcall PP JA #[.string s,.string abc] w K:=by
 refine⟨by kernel_rfl,?_⟩
 refine(Any.strings_Trim_laid YtaekfnbnhjgboaaGreatDoor.trimL (by kernel_rfl) s abc w hs (by decide) (ascii_of_all (by decide))).mono ?_
 rintro e w' ⟨rfl,g⟩
 refine f w' _ (qx0 g) ?_
 have c:((⟨(Lib.trimS s.data.toList abc.data.toList).toArray⟩:ByteArray)=⟨#[]⟩)↔Lib.trimS s.data.toList abc.data.toList=[]:=by
  constructor
  ·intro h
   have d:=congrArg (fun b:ByteArray=>b.data.toList) h
   simpa using d
  ·intro h;rw[h]
 rw[c,ZA0]
 unfold xP0
 rw[Array.all_eq_true_iff_forall_mem]
 constructor
 ·intro h x a
  rw[←abc_in];exact h x (Array.mem_toList_iff.2 a)
 ·intro h x a
  rw[abc_in];exact h x (Array.mem_toList_iff.1 a)
theorem stDecl {b:Nat} {x y:Value} {t:TypeId} {s:ByteArray} {n:Int} (h:Blk w b [x,y] t) (c:∀w',Same (· =b) w w'→w'.heap.size=w.heap.size→Blk w' b [.string s,.int .i64 n] t→K undef w'):zu PP zz (.pointer (some ⟨b,0,none⟩)) (.agg ⟨[.string s,.int .i64 n]⟩) w K:=
 h.stAgg rfl (by kernel_rfl) (by intro v a;simp only[List.mem_cons,List.not_mem_nil,or_false] at a;rcases a with rfl|rfl<;>rfl) c
theorem XW (s:ByteArray):M.nameOk s=(decide (1≤s.size)&&decide (s.size≤4)&&decide (s≠M.tru)&&xP0 s):=rfl
theorem DeclOk_spec {v:Value} {ds:List M.Dcl} (O:DclsR F w v ds) (D:∀w',Ext w w'→K (.bool (M.declOk ds)) w'):vcall PP Zp #[v] w K:=by
 apply xz0
 simp(disch:=(simp only[push_cast];done)) only[push_cast,O.len]
 refine zh (fun a=>?_) (fun a=>?_)
 ·have:=D w (Same.refl _ _)
  rwa[show M.declOk ds=false from by rw[Bool.eq_false_iff];intro h;have:=(M.decl_iff.1 h).1;omega] at this
 refine vloop_up ds.length (fun i u w'=>u=[.int .i64 (M.bitT ds i),.int .i64 i]∧Ext w w'∧(∀j,j<i→M.dclOk ds j=true)∧ -4*(i:Int)≤M.bitT ds i∧M.bitT ds i≤4*i) ⟨rfl,Same.refl _ _,by omega,by simp[M.bitT],by simp[M.bitT]⟩ ?_
 rintro i _ _ w1 C hi ⟨rfl,o,q,a0,a1⟩ hC
 have E:=O.ext o
 simp only[push_cast]
 refine zh (fun b=>?_) (fun b=>?_)
 ·have z:i<ds.length:=by omega
  have d:M.dclOk ds i=false→∀w',Ext w w'→K (.bool false) w':=fun e w' he=>by
   have:=D w' he
   rwa[show M.declOk ds=false from by rw[Bool.eq_false_iff];intro h;have:=(M.decl_iff.1 h).2.1 i z;rw[e] at this;cases this] at this
  unfold M.dclOk at d
  rw[XW] at d
  simp(disch:=first|(simp only[push_cast];done)|omega) only[push_cast,E.iaddr,E.load]
  obtain⟨s,n,B⟩:∃s n,ds.getD i jo0=(s,n):=⟨_,_,rfl⟩
  simp only[B] at d⊢
  refine zF jq fun b1 w2 U P a4 Y=>?_
  refine stDecl Y fun W R _ S=>?_
  have a6:=o.size
  have k:Ext w W:=Ext.then (o.trans P) R fun y hy=>by subst hy;omega
  refine y5 (fun u w'=>u=[]∧Ext W w'∧M.nameOk s=true) (fun C' N=>?_) ?_
  ·simp(disch:=first|(simp only[push_cast];done)|omega) only[push_cast,S.ld0,KO YH]
   refine zh (fun c=>?_) (fun c=>?_)
   ·exact d (by rw[decide_eq_false (show¬1≤s.size by omega)];simp) _ k
   refine zh (fun I=>?_) (fun I=>?_)
   ·exact d (by rw[decide_eq_false (show¬s.size≤4 by omega)];simp) _ k
   refine zh (fun c3=>?_) (fun c3=>?_)
   ·exact d (by rw[show decide (s≠M.tru)=false from decide_eq_false (fun h=>h c3)];simp) _ k
   refine kV0 (by omega) fun w4 r l V=>?_
   simp only[push_cast]
   refine zh (fun J=>?_) (fun J=>?_)
   ·have:xP0 s=false:=by
     rw[Bool.eq_false_iff];exact fun h=>J (V.2 h)
    exact d (by rw[this];simp) _ (k.trans l)
   ·have L:r=⟨#[]⟩:=by
     by_cases h:r=⟨#[]⟩
     ·exact h
     ·exact absurd h J
    refine N _ _ ⟨rfl,l,?_⟩
    rw[XW,decide_eq_true (show 1≤s.size by omega),decide_eq_true (show s.size≤4 by omega),show decide (s≠M.tru)=true from decide_eq_true c3,V.1 L]
    rfl
  ·rintro u g w4 ⟨rfl,l,A⟩
   have T:=S.ext l
   have f:=k.trans l
   have G:=O.ext f
   rw[XW] at A
   rw[A] at d
   rw[G.cut (by intro e;subst e;simp at z) (by kernel_rfl) (by omega)]
   simp only[push_cast]
   have a3:(ds.take i).length=i:=by rw[List.length_take];omega
   refine WJ (p:=fun j=>decide (((ds.take i).getD j jo0).1=s)) (G.taken (by omega)) (fun j hj=>?_) fun w5 m=>?_
   ·intro w' K he D
    simp only[push_cast]
    apply zl0
    refine zx fun b3 w6 a2 H a5 h6=>?_
    have h7:=(T.ext he).ext H
    simp(disch:=first|(simp only[push_cast];done)|omega) only[push_cast,h6.ld0,h7.ld0]
    exact D _ H
   ·rw[←Kq]
    have Z:=T.ext m
    have efd:idxI (ds.take i).length (fun j=>decide (((ds.take i).getD j jo0).1=s))=M.findD (ds.take i) s:=rfl
    rw[efd]
    refine zh (fun c=>?_) (fun c=>?_)
    ·exact d (by rw[decide_eq_false (show¬M.findD (ds.take i) s<0 by omega)];simp) _ (f.trans m)
    simp(disch:=first|(simp only[push_cast];done)|omega) only[push_cast,Z.ld1]
    refine zh (fun X=>?_) (fun X=>?_)
    ·exact d (by rw[decide_eq_false (show¬1≤n by omega)];simp) _ (f.trans m)
    refine zh (fun I=>?_) (fun I=>?_)
    ·exact d (by rw[decide_eq_false (show¬n≤4 by omega)];simp) _ (f.trans m)
    have t:=M.bitT_succ z
    rw[show ds.getD i (M.nada,0)=(s,n) from B] at t
    rw[zH (x:=M.bitT ds i+n) (by omega) (by omega),inc64' (by omega),show M.bitT ds i+n=M.bitT ds (i+1) from t.symm]
    refine hC (by omega) _ _ ⟨rfl,f.trans m,fun j hj=>?_,by omega,by omega⟩
    by_cases e:j=i
    ·subst e
     unfold M.dclOk
     rw[show ds.getD j (M.nada,0)=(s,n) from B,XW,A]
     simp only[Bool.true_and,Bool.and_eq_true,decide_eq_true_eq]
     exact⟨⟨by omega,by omega⟩,by omega⟩
    ·exact q j (by omega)
 ·have Q:i=ds.length:=by omega
  subst Q
  have:=D w1 o
  rw[M.bitT_all]
  have e:M.declOk ds=decide (M.bits ds≤8):=by
   rw[Bool.eq_iff_iff,M.decl_iff,decide_eq_true_eq]
   exact⟨fun h=>h.2.2,fun h=>⟨by omega,q,h⟩⟩
  rwa[e] at this
theorem TermSort_spec {dv v:Value} {ds:List M.Dcl} {t:M.Tm} (r:DclsR F w dv ds) (z:TermR G w v t) (q:∀w',Ext w w'→K (.int .i64 (M.tsort ds t)) w'):vcall PP ZD #[dv,v] w K:=by
 apply zj0
 obtain⟨cs,rfl,c⟩:=z.cells
 refine zx fun b1 C u g y n=>?_
 rw[n.ldAgg (t:=zd) (by rw[jA c];exact zN)]
 refine TermMany_spec (c.ext g).term fun D i=>?_
 simp only[push_cast]
 have e:=g.trans i
 refine DeclOk_spec (r.ext e) fun A j=>?_
 have f:=e.trans j
 have m:=q A f
 unfold M.tsort at m
 simp only[push_cast]
 refine yo (fun a=>?_) (fun a=>?_)
 ·rwa[if_neg (fun h=>by rw[h.2] at a;cases a)] at m
 ·rw[Bool.not_eq_false'] at a
  refine zh (fun b=>?_) (fun b=>?_)
  ·rw[if_neg (fun h=>by
    have n:=M.fits_iff.1 h.1
    unfold M.manyM at b
    rw[if_pos h.1] at b;omega)] at m
   exact m
  ·have x:M.fits t=true:=by
    by_cases h:M.fits t=true
    ·exact h
    ·unfold M.manyM at b
     rw[if_neg h] at b;omega
   refine zw fun E k _=>?_
   have p:=((n.ext i).ext j).ext k
   rw[p.ldAgg (t:=zd) (by rw[jA c];exact zN)]
   refine⟨rfl,jz0 fun H mb l hm=>?_⟩
   have s:=p.ext l
   rw[s.ldAgg (t:=zd) (by rw[jA c];exact zN)]
   have d:=(f.trans k).trans l
   refine⟨⟨rfl,rfl⟩,sortOf_spec t hm (r.ext d) a (c.ext d).term fun B o=>?_⟩
   have:=q B (d.trans o)
   unfold M.tsort at this
   rwa[if_pos ⟨x,a⟩] at this
end Go.Proofs.YtaekfnbnhjgboaaGreatDoor
end
section
namespace Go.Proofs.YtaekfnbnhjgboaaGreatDoor
open Go Go.Vc Go.Proofs
variable {w:World} {K:Value→World→Prop} {F G:Nat→Prop}
theorem l2Name_spec {s:ByteArray} (hs:s.size≤9223372036854775807) (d:K (.bool (M.nameOk s)) w):vcall PP Xf #[.string s] w K:=by
 apply xh0
 rw[XW] at d
 refine vloop_up s.size (fun i u w'=>u=[.int .i64 i]∧w'=w∧∀j,j<i→(decide (97≤(s.data.getD j 0).toNat)&&decide ((s.data.getD j 0).toNat≤122))=true) ⟨rfl,rfl,by omega⟩ ?_
 rintro i _ _ r C hi ⟨rfl,rfl,g⟩ o
 simp(disch:=first|(simp only[push_cast];done)|omega) only[push_cast,KO YH]
 have l:i<s.size→(decide (97≤(s.data.getD i 0).toNat)&&decide ((s.data.getD i 0).toNat≤122))=false→xP0 s=false:=fun f h=>by
  rw[Bool.eq_false_iff]
  intro k
  unfold xP0 at k
  rw[Array.all_eq_true_iff_forall_mem] at k
  have m:i<s.data.size:=f
  have:=k (s.data.getD i 0) (by rw[Array.getD_eq_getD_getElem?,Array.getElem?_eq_getElem m];exact Array.getElem_mem m)
  rw[h] at this;cases this
 refine zh (fun a=>?_) (fun a=>?_)
 ·have f:i<s.size:=by omega
  rw[vindex_str YH (by omega) (by omega),Int.toNat_natCast]
  simp only[push_cast]
  refine zh (fun b=>?_) (fun b=>?_)
  ·rw[l f (by rw[decide_eq_false (show¬97≤(s.data.getD i 0).toNat by omega)];rfl),Bool.and_false] at d
   exact d
  rw[vindex_str YH (by omega) (by omega),Int.toNat_natCast]
  simp only[push_cast]
  refine zh (fun c=>?_) (fun c=>?_)
  ·rw[l f (by rw[decide_eq_false (show¬(s.data.getD i 0).toNat≤122 by omega)];simp),Bool.and_false] at d
   exact d
  rw[inc64' (by omega)]
  refine o f _ _ ⟨rfl,rfl,fun j n=>?_⟩
  by_cases e:j=i
  ·subst e
   simp only[Bool.and_eq_true,decide_eq_true_eq];omega
  ·exact g j (by omega)
 ·have p:i=s.size:=by omega
  have k:xP0 s=true:=by
   unfold xP0
   rw[Array.all_eq_true_iff_forall_mem]
   intro x q
   obtain⟨j,n,rfl⟩:=Array.getElem_of_mem q
   have:=g j (by have:s.data.size=s.size:=rfl;omega)
   rwa[Array.getD_eq_getD_getElem?,Array.getElem?_eq_getElem n] at this
  rw[k,Bool.and_true] at d
  try simp(disch:=first|(simp only[push_cast];done)|omega) only[push_cast,KO YH]
  refine zh (fun b=>?_) (fun b=>?_)
  ·refine zh (fun c=>?_) (fun c=>?_)
   ·rw[decide_eq_true (show 1≤s.size by omega),decide_eq_true (show s.size≤4 by omega)] at d
    exact d
   ·rw[decide_eq_false (show¬s.size≤4 by omega)] at d
    simpa using d
  ·rw[decide_eq_false (show¬1≤s.size by omega)] at d
   simpa using d
theorem l2Find_spec {v:Value} {ds:List M.Dcl} {s:ByteArray} (f:DclsR F w v ds) (d:K (.int .i64 (M.findD ds s)) w):vcall PP jC #[v,.string s] w K:=by
 apply xi0
 have k:=f.small
 refine vloop_up ds.length (fun i u w'=>u=[.int .i64 i]∧w'=w∧∀j,j<i→(ds.getD j jo0).1≠s) ⟨rfl,rfl,by omega⟩ ?_
 rintro i _ _ l C hi ⟨rfl,rfl,c⟩ g
 simp(disch:=(simp only[push_cast];done)) only[push_cast,f.len]
 refine zh (fun a=>?_) (fun a=>?_)
 ·try simp(disch:=first|(simp only[push_cast];done)|omega) only[push_cast,f.iaddr]
  try simp(disch:=first|(simp only[push_cast];done)|omega) only[push_cast,f.load0]
  refine zh (fun b=>?_) (fun b=>?_)
  ·rw[M.findD_of (by omega) b c] at d
   exact d
  ·rw[inc64' (by omega)]
   refine g (by omega) _ _ ⟨rfl,rfl,fun j h=>?_⟩
   by_cases e:j=i
   ·subst e;exact b
   ·exact c j (by omega)
 ·rw[M.findD_none (fun j h=>c j (by omega))] at d
  exact d
theorem spec_DeclOk_spec {v:Value} {ds:List M.Dcl} (G:DclsR F w v ds) (E:∀i,i<ds.length→(ds.getD i jo0).1.size≤9223372036854775807) (B:∀w',Ext w w'→K (.bool (M.declOk ds)) w'):vcall PP Zi #[v] w K:=by
 apply xk0
 simp(disch:=(simp only[push_cast];done)) only[push_cast,G.len]
 refine zh (fun a=>?_) (fun a=>?_)
 ·have:=B w (Same.refl _ _)
  rwa[show M.declOk ds=false from by rw[Bool.eq_false_iff];intro h;have:=(M.decl_iff.1 h).1;omega] at this
 refine vloop_up ds.length (fun i u w'=>u=[.int .i64 (M.bitT ds i),.int .i64 i]∧Ext w w'∧(∀j,j<i→M.dclOk ds j=true)∧ -4*(i:Int)≤M.bitT ds i∧M.bitT ds i≤4*i) ⟨rfl,Same.refl _ _,by omega,by simp[M.bitT],by simp[M.bitT]⟩ ?_
 rintro i _ _ O C hi ⟨rfl,p,m,L,N⟩ J
 have r:=G.ext p
 simp(disch:=(simp only[push_cast];done)) only[push_cast,r.len]
 refine zh (fun b=>?_) (fun b=>?_)
 ·have g:i<ds.length:=by omega
  have f:M.dclOk ds i=false→∀w',Ext w w'→K (.bool false) w':=fun e w' he=>by
   have:=B w' he
   rwa[show M.declOk ds=false from by rw[Bool.eq_false_iff];intro h;have:=(M.decl_iff.1 h).2.1 i g;rw[e] at this;cases this] at this
  unfold M.dclOk at f
  refine zw fun z t _=>?_
  have d:=r.ext t
  have k:=p.trans t
  simp(disch:=first|(simp only[push_cast];done)|omega) only[push_cast,d.iaddr,true_and]
  simp(disch:=first|(simp only[push_cast];done)|omega) only[push_cast,d.load0,d.load1,true_and]
  have y:=E i g
  have o:=M.bitT_succ g
  obtain⟨s,n,l⟩:∃s n,ds.getD i jo0=(s,n):=⟨_,_,rfl⟩
  rw[show ds.getD i (M.nada,0)=(s,n) from l] at o
  simp only[l] at f y⊢
  refine l2Name_spec y ?_
  simp only[push_cast,true_and]
  refine yo (fun c=>?_) (fun c=>?_)
  ·exact f (by rw[show M.nameOk s=false by simpa using c];simp) _ k
  rw[Bool.not_eq_false'] at c
  rw[c] at f
  have ecut:∀(w:World) (K:Value→World→Prop),yA PP zD v none (some (.int .i64 (i:Int))) none w K=K (cutV v i) w:=fun w K=>d.cut (by intro e;subst e;simp at g) (by kernel_rfl) (by omega)
  have A:∀(K:Value→World→Prop),zf PP zE (.pointer (some ((eaddr v 2 i).add 0))) z K=K (.string s) z:=fun K=>by rw[d.load0 ZM0 g,l]
  have q:∀(K:Value→World→Prop),zf PP ze (.pointer (some ((eaddr v 2 i).add 1))) z K=K (.int .i64 n) z:=fun K=>by rw[d.load1 xL0 g,l]
  try simp(disch:=first|(simp only[push_cast];done)|omega) only[push_cast,d.iaddr,true_and]
  try simp(disch:=first|(simp only[push_cast];done)|omega) only[push_cast,d.iaddr,A,q,ecut,true_and]
  refine zh (fun H=>?_) (fun H=>?_)
  ·exact f (by rw[decide_eq_false (show¬1≤n by omega)];simp) _ k
  refine zh (fun I=>?_) (fun I=>?_)
  ·exact f (by rw[decide_eq_false (show¬n≤4 by omega)];simp) _ k
  refine l2Find_spec (d.taken (by omega)) ?_
  simp only[push_cast,true_and]
  refine zh (fun c3=>?_) (fun c3=>?_)
  ·exact f (by rw[decide_eq_false (show¬M.findD (ds.take i) s<0 by omega)];simp) _ k
  try simp(disch:=first|(simp only[push_cast];done)|omega) only[push_cast,d.iaddr]
  try simp(disch:=first|(simp only[push_cast];done)|omega) only[push_cast,q]
  rw[zH (x:=M.bitT ds i+n) (by omega) (by omega),inc64' (by omega),show M.bitT ds i+n=M.bitT ds (i+1) from o.symm]
  refine J (by omega) _ _ ⟨rfl,k,fun j P=>?_,by omega,by omega⟩
  by_cases e:j=i
  ·subst e
   unfold M.dclOk
   rw[show ds.getD j (M.nada,0)=(s,n) from l,c]
   simp only[Bool.true_and,Bool.and_eq_true,decide_eq_true_eq]
   exact⟨⟨by omega,by omega⟩,by omega⟩
  ·exact m j (by omega)
 ·have D:i=ds.length:=by omega
  subst D
  have:=B O p
  rw[M.bitT_all]
  have e:M.declOk ds=decide (M.bits ds≤8):=by
   rw[Bool.eq_iff_iff,M.decl_iff,decide_eq_true_eq]
   exact⟨fun h=>h.2.2,fun h=>⟨by omega,m,h⟩⟩
  rwa[e] at this
theorem spec_TermMany_spec:∀(t:M.Tm) {w:World} {K:Value→World→Prop} {F:Nat→Prop} {v:Value},TermR F w v t→(∀w',Ext w w'→K (.tuple #[.int .i64 (M.manyM t),.int .i64 (M.lvlM t)]) w')→vcall PP jD #[v] w K:=by
 refine M.Tm.ind fun t ih w K F v ht R=>?_
 apply z90
 obtain⟨ksv,rfl,y⟩:=ht
 refine zx fun b1 w1 S D a1 P=>?_
 have a2:=y.small
 have hS:=M.szT_all t
 have hD:=M.dpT_all t
 have k:M.fits t=true↔M.sizeM t≤20∧M.deepM t≤7:=M.fits_iff
 refine vloop_up t.ks.length (fun i u w'=> ∃n d:Nat,u=[.int .i64 n,.int .i64 d,.int .i64 i]∧Ext w1 w'∧n≤41∧d≤8∧(1+M.szT t.ks i≤20∧M.dpT t.ks i≤7→n=1+M.szT t.ks i∧d=M.dpT t.ks i)∧(¬(1+M.szT t.ks i≤20∧M.dpT t.ks i≤7)→20<n∨7<d))
  ⟨1,0,rfl,Same.refl _ _,by omega,by omega,fun h=>⟨rfl,rfl⟩,fun h=>by
   have J:M.szT t.ks 0=0:=rfl
   have e2:M.dpT t.ks 0=0:=rfl
   omega⟩ ?_
 rintro i _ _ z C hi ⟨n,d,rfl,o,c1,c2,c3,I⟩ Q
 have L:=P.ext o
 have N:=D.trans o
 have l:=y.ext N
 have V:=M.szT_mono (ks:=t.ks) (i:=i) (j:=t.ks.length) (by omega) (Nat.le_refl _)
 have W:=M.dpT_mono (ks:=t.ks) (i:=i) (j:=t.ks.length) (by omega) (Nat.le_refl _)
 have J:IntKind.i64.wrap ((d:Int)+1)=((d+1:Nat):Int):=inc64' (by omega)
 have m:(20<n∨i=t.ks.length)→∀q,(q=K)→vif (.bool (decide ((20:Int)<n))) (q (.tuple #[.int .i64 21,.int .i64 8]) z) (vif (.bool (decide ((7:Int)<((d+1:Nat):Int)))) (q (.tuple #[.int .i64 21,.int .i64 8]) z) (q (.tuple #[.int .i64 (n:Int),.int .i64 ((d+1:Nat):Int)]) z)):=by
  rintro a0 q rfl
  have p:=R z N
  unfold M.manyM M.lvlM at p
  have c:(20<n∨7<d+1)→¬(M.fits t=true):=fun h T=>by
   have O:=k.1 T
   have:=c3 (by omega)
   omega
  refine zh (fun a=>?_) (fun a=>?_)
  ·rw[if_neg (c (by omega)),if_neg (c (by omega))] at p
   exact p
  refine zh (fun b=>?_) (fun b=>?_)
  ·rw[if_neg (c (by omega)),if_neg (c (by omega))] at p
   exact p
  ·have G:i=t.ks.length:=by omega
   subst G
   have r:M.sizeM t≤20∧M.deepM t≤7:=by
    by_cases h:1+M.szT t.ks t.ks.length≤20∧M.dpT t.ks t.ks.length≤7
    ·have:=c3 h;omega
    ·have:=I h;omega
   have h3:=c3 (by omega)
   rw[if_pos (k.2 r),if_pos (k.2 r)] at p
   rw[show n=M.sizeM t by omega,show d+1=M.deepM t by omega]
   exact p
 refine y5 (fun u w'=>u=[]∧w'=z∧i<t.ks.length∧n≤20) (fun C' A=>?_) ?_
 ·simp(disch:=(simp only[push_cast];done)) only[push_cast,L.ld4,l.len,J]
  refine zh (fun a=>?_) (fun a=>?_)
  ·refine zh (fun b=>?_) (fun b=>?_)
   ·exact A _ _ ⟨rfl,rfl,by omega,by omega⟩
   ·exact m (.inl (by omega)) K rfl
  ·exact m (.inr (by omega)) K rfl
 ·rintro u g w3 ⟨rfl,rfl,U,hn⟩
  have X:=M.szT_succ (ks:=t.ks) (i:=i) (by omega)
  have Y:=M.dpT_succ (ks:=t.ks) (i:=i) (by omega)
  have Z:=M.szT_mono (ks:=t.ks) (i:=i+1) (j:=t.ks.length) (by omega) (Nat.le_refl _)
  simp(disch:=first|(simp only[push_cast];done)|omega) only[push_cast,L.ld4,l.iaddr]
  refine l.load zN (by omega) fun x O=>?_
  refine ih _ (M.getD_mem (by omega) _) O fun w4 E=>?_
  have f:=M.fits_iff (t:=t.ks.getD i default)
  have H:M.manyM (t.ks.getD i default)≤21:=by
   unfold M.manyM
   split
   ·have:=f.1 (by assumption);omega
   ·omega
  have B:M.lvlM (t.ks.getD i default)≤8:=by
   unfold M.lvlM
   split
   ·have:=f.1 (by assumption);omega
   ·omega
  have e:M.sizeM (t.ks.getD i default)≤20∧M.deepM (t.ks.getD i default)≤7→M.manyM (t.ks.getD i default)=M.sizeM (t.ks.getD i default)∧M.lvlM (t.ks.getD i default)=M.deepM (t.ks.getD i default):=fun h=>by
   unfold M.manyM M.lvlM
   rw[if_pos (f.2 h),if_pos (f.2 h)]
   exact⟨rfl,rfl⟩
  have c: ¬(M.sizeM (t.ks.getD i default)≤20∧M.deepM (t.ks.getD i default)≤7)→M.manyM (t.ks.getD i default)=21∧M.lvlM (t.ks.getD i default)=8:=fun h=>by
   unfold M.manyM M.lvlM
   rw[if_neg (fun x=>h (f.1 x)),if_neg (fun x=>h (f.1 x))]
   exact⟨rfl,rfl⟩
  generalize M.manyM (t.ks.getD i default)=nk at H e c⊢
  generalize M.lvlM (t.ks.getD i default)=dk at B e c⊢
  simp only[push_cast]
  refine l1Max_spec ?_
  try simp only[push_cast]
  rw[inc64' (by omega),zH (x:=(n:Int)+nk) (by omega) (by omega),show(n:Int)+(nk:Int)=((n+nk:Nat):Int) by omega,show max (d:Int) (dk:Int)=((max d dk:Nat):Int) by omega]
  refine Q (by omega) _ _ ⟨n+nk,max d dk,rfl,o.trans E,by omega,by omega,fun h=>?_,fun h=>?_⟩
  ·have:=c3 (by omega)
   have:=e (by omega)
   omega
  ·by_cases r:M.sizeM (t.ks.getD i default)≤20∧M.deepM (t.ks.getD i default)≤7
   ·have h5:=e r
    by_cases s:1+M.szT t.ks i≤20∧M.dpT t.ks i≤7
    ·have:=c3 s;omega
    ·have:=I s;omega
   ·have:=c r;omega
end Go.Proofs.YtaekfnbnhjgboaaGreatDoor
end
section
namespace Go.Proofs.YtaekfnbnhjgboaaGreatDoor
open Go Go.Vc Go.Proofs
variable {w:World} {K:Value→World→Prop} {F G:Nat→Prop}
theorem l2Arity_spec {o:Int} (h:K (.int .i64 (M.arity o)) w):vcall PP Yu #[.int .i64 o] w K:=by
 apply zW0
 have f:∀c,M.arity o=c→K (.int .i64 c) w:=fun c e=>e▸h
 refine y5 (fun u w'=>u=[.bool (decide (o=20∨o=21∨o=24))]∧w'=w) (fun C d=>?_) ?_
 ·simp only[push_cast]
  refine zh (fun a=>?_) (fun a=>?_)
  ·exact d _ _ ⟨by rw[decide_eq_true a,decide_eq_true (.inl a)],rfl⟩
  refine zh (fun b=>?_) (fun b=>?_)
  ·exact d _ _ ⟨by rw[decide_eq_true b,decide_eq_true (.inr (.inl b))],rfl⟩
  ·refine d _ _ ⟨?_,rfl⟩
   by_cases c:o=24
   ·rw[decide_eq_true c,decide_eq_true (.inr (.inr c))]
   ·rw[decide_eq_false c,decide_eq_false (by omega)]
 ·rintro u g i ⟨rfl,rfl⟩
  simp only[push_cast]
  repeat' first
   |exact f _ (by
    unfold M.arity;repeat' split
    all_goals omega)
   |refine zh (fun _=>?_) (fun _=>?_)
theorem xS0 {v:Value} {t:M.Tm} (B:TermR F w v t) (p:∀w',Ext w w'→K (.bool (M.formed t)) w'):vcall PP Yt #[v] w K:=by
 apply zV0
 obtain⟨ksv,rfl,o⟩:=B
 refine zx fun b1 y z j A l=>?_
 have q:=p _ j
 have f:M.plainM t=false→K (.bool false) y:=fun h=>by
  unfold M.formed at q
  rwa[h,Bool.and_false] at q
 unfold M.plainM at f
 refine y5 (fun u w'=>u=[]∧w'=y∧(decide (t.op=21)||decide (t.s=M.nada))=true) (fun C m=>?_) ?_
 ·simp(disch:=(simp only[push_cast];done)) only[push_cast,l.ld0,l.ld3]
  refine zh (fun a=>?_) (fun a=>?_)
  ·refine zh (fun b=>?_) (fun b=>?_)
   ·exact f (by rw[decide_eq_false a,show decide (t.s=M.nada)=false from decide_eq_false b];simp)
   ·exact m _ _ ⟨rfl,rfl,by rw[show decide (t.s=M.nada)=true from decide_eq_true (Classical.not_not.1 b)];simp⟩
  ·exact m _ _ ⟨rfl,rfl,by rw[decide_eq_true (Classical.not_not.1 a)];simp⟩
 rintro u g D ⟨rfl,rfl,r⟩
 rw[r,Bool.and_true] at f
 refine y5 (fun u w'=>u=[]∧w'=D∧(decide (t.op=20)||decide (t.op=22)||(decide (t.a=0)&&decide (t.b=0)))=true) (fun C m=>?_) ?_
 ·simp(disch:=(simp only[push_cast];done)) only[push_cast,l.ld0,l.ld1,l.ld2]
  refine zh (fun a=>?_) (fun a=>?_)
  ·refine zh (fun b=>?_) (fun b=>?_)
   ·refine zh (fun c=>?_) (fun c=>?_)
    ·exact f (by rw[decide_eq_false a,decide_eq_false b,decide_eq_false c];simp)
    refine zh (fun d=>?_) (fun d=>?_)
    ·exact f (by rw[decide_eq_false a,decide_eq_false b,decide_eq_false d];simp)
    ·exact m _ _ ⟨rfl,rfl,by rw[decide_eq_true (Classical.not_not.1 c),decide_eq_true (Classical.not_not.1 d)];simp⟩
   ·exact m _ _ ⟨rfl,rfl,by rw[decide_eq_true (Classical.not_not.1 b)];simp⟩
  ·exact m _ _ ⟨rfl,rfl,by rw[decide_eq_true (Classical.not_not.1 a)];simp⟩
 rintro u g E ⟨rfl,rfl,hm⟩
 refine zw fun G k _=>?_
 have n:=l.ext k
 have i:=o.ext (j.trans k)
 simp(disch:=(simp only[push_cast];done)) only[push_cast,n.ld0,n.ld4,i.len,true_and]
 refine l2Arity_spec ?_
 simp(disch:=(simp only[push_cast];done)) only[push_cast,n.ld4,i.len,true_and,and_self]
 have:=p _ (j.trans k)
 have e:M.formed t=decide ((t.ks.length:Int)=M.arity t.op):=by
  unfold M.formed M.plainM
  rw[hm,r]
  simp only[Bool.and_true]
  by_cases h:M.arity t.op=t.ks.length
  ·rw[decide_eq_true h,decide_eq_true h.symm]
  ·rw[decide_eq_false h,decide_eq_false (fun x=>h x.symm)]
 rwa[e] at this
theorem l2One_spec {v:Value} {t:M.Tm} {a:Int} (r:TermR F w v t) (z: -1≤a∧a≤4) (n:∀w',Ext w w'→K (.int .i64 (M.oneM t a)) w'):vcall PP Q7 #[v,.int .i64 a] w K:=by
 apply qk0
 obtain⟨ksv,rfl,p⟩:=r
 refine zx fun b1 m o l q j=>?_
 have k:∀c,M.oneM t a=c→K (.int .i64 c) m:=fun c e=>e▸n _ l
 unfold M.oneM at k
 refine y5 (fun u w'=>u=[.bool (decide (t.op=25∧a=0))]∧w'=m) (fun C i=>?_) ?_
 ·simp(disch:=(simp only[push_cast];done)) only[push_cast,j.ld0]
  refine zh (fun b=>?_) (fun b=>?_)
  ·refine i _ _ ⟨?_,rfl⟩
   simp only[b,true_and]
  ·exact i _ _ ⟨by rw[decide_eq_false (fun h=>b h.1)],rfl⟩
 rintro u g s ⟨rfl,rfl⟩
 simp only[push_cast]
 refine zh (fun b=>?_) (fun b=>?_)
 ·exact k _ (by rw[if_pos b.1,if_pos b.2])
 refine y5 (fun u w'=>u=[.bool (decide (t.op=25∨a<1))]∧w'=s) (fun C i=>?_) ?_
 ·simp(disch:=(simp only[push_cast];done)) only[push_cast,j.ld0]
  refine zh (fun c=>?_) (fun c=>?_)
  ·exact i _ _ ⟨by rw[decide_eq_true (.inl c)],rfl⟩
  ·refine i _ _ ⟨?_,rfl⟩
   simp only[c,false_or]
 rintro u g y ⟨rfl,rfl⟩
 simp only[push_cast]
 refine zh (fun c=>?_) (fun c=>?_)
 ·exact k _ (by
   repeat' split
   all_goals omega)
 simp(disch:=(simp only[push_cast];done)) only[push_cast,j.ld0]
 refine zh (fun d=>?_) (fun d=>?_)
 ·refine y5 (fun u w'=>u=[.bool (decide (0≤t.b∧t.b≤t.a∧t.a<a))]∧w'=y) (fun C i=>?_) ?_
  ·simp(disch:=(simp only[push_cast];done)) only[push_cast,j.ld1,j.ld2]
   refine zh (fun e=>?_) (fun e=>?_)
   ·refine zh (fun f=>?_) (fun f=>?_)
    ·refine i _ _ ⟨?_,rfl⟩
     simp only[e,f,true_and]
    ·exact i _ _ ⟨by rw[decide_eq_false (fun h=>f h.2.1)],rfl⟩
   ·exact i _ _ ⟨by rw[decide_eq_false (fun h=>e h.1)],rfl⟩
  rintro u g A ⟨rfl,rfl⟩
  simp only[push_cast]
  refine zh (fun e=>?_) (fun e=>?_)
  ·simp(disch:=(simp only[push_cast];done)) only[push_cast,j.ld1,j.ld2]
   rw[zH (x:=t.a-t.b) (by omega) (by omega),zH (by omega) (by omega)]
   exact k _ (by rw[if_neg (by omega),if_neg (by omega),if_pos d,if_pos e])
  ·exact k _ (by rw[if_neg (by omega),if_neg (by omega),if_pos d,if_neg e])
 ·exact k _ (by rw[if_neg (by omega),if_neg (by omega),if_neg d])
theorem l2Both_spec {o a b:Int} (m: -1≤a∧a≤4) (k: -1≤b∧b≤4) (j:K (.int .i64 (M.bothM o a b)) w):vcall PP Xg #[.int .i64 o,.int .i64 a,.int .i64 b] w K:=by
 apply xj0
 have h:∀c,M.bothM o a b=c→K (.int .i64 c) w:=fun c e=>e▸j
 unfold M.bothM at h
 refine y5 (fun u w'=>u=[.bool (decide (o=26∨o=27))]∧w'=w) (fun C f=>?_) ?_
 ·simp only[push_cast]
  refine zh (fun c=>?_) (fun c=>?_)
  ·exact f _ _ ⟨by rw[decide_eq_true (.inl c)],rfl⟩
  ·refine f _ _ ⟨?_,rfl⟩
   simp only[c,false_or]
 rintro u g l ⟨rfl,rfl⟩
 simp only[push_cast]
 refine zh (fun c=>?_) (fun c=>?_)
 ·repeat' first
   |exact h _ (by
    repeat' split
    all_goals omega)
   |refine zh (fun _=>?_) (fun _=>?_)
 refine y5 (fun u w'=>u=[.bool (decide (a<1∨b<1))]∧w'=l) (fun C f=>?_) ?_
 ·try simp only[push_cast]
  refine zh (fun d=>?_) (fun d=>?_)
  ·exact f _ _ ⟨by rw[decide_eq_true (.inl d)],rfl⟩
  ·refine f _ _ ⟨?_,rfl⟩
   simp only[d,false_or]
 rintro u g n ⟨rfl,rfl⟩
 have i:IntKind.i64.wrap (a+b)=a+b:=zH (by omega) (by omega)
 simp only[push_cast,i]
 repeat' first
  |exact h _ (by
   repeat' split
   all_goals omega)
  |refine zh (fun _=>?_) (fun _=>?_)
theorem l2Sort_spec:∀(t:M.Tm) {w:World} {K:Value→World→Prop} {F G:Nat→Prop} {dv v:Value} {ds:List M.Dcl},DclsR F w dv ds→M.declOk ds=true→TermR G w v t→(∀w',Ext w w'→K (.int .i64 (M.sortM ds t)) w')→vcall PP qQ #[dv,v] w K:=by
 refine M.Tm.ind fun t T w K F G dv v ds O f Z V=>?_
 apply xg0
 obtain⟨ksv,rfl,u⟩:=Z
 refine zx fun b1 w1 W E Y U=>?_
 have m:∀c w',M.sortM ds t=c→Ext w w'→K (.int .i64 c) w':=fun c w' e he=>e▸V _ he
 rw[U.ldAgg (t:=zd) zN]
 refine xS0 (F:=G) (t:=t) ⟨ksv,rfl,u.ext E⟩ fun w2 H=>?_
 have o:=E.trans H
 have y:=U.ext H
 simp only[push_cast]
 refine yo (fun a=>?_) (fun a=>?_)
 ·exact m _ _ (M.sort_bad (by rw[Bool.not_eq_true];simpa using a)) o
 have A:M.formed t=true:=by simpa using a
 have j:=(M.formed_iff.1 A).1
 have q:=O.ext o
 simp(disch:=(simp only[push_cast];done)) only[push_cast,y.ld0]
 refine zh (fun d=>?_) (fun d=>?_)
 ·have J:t.ks.length=0:=by rw[d] at j;simp[M.arity] at j;omega
  have hs:=M.sort_leaf (ds:=ds) A J
  simp(disch:=(simp only[push_cast];done)) only[push_cast,y.ld1,y.ld2]
  refine spec_VecOk_spec fun w3 k=>?_
  have C:=y.ext k
  refine yo (fun b=>?_) (fun b=>?_)
  ·simp(disch:=(simp only[push_cast];done)) only[push_cast,C.ld1]
   exact m _ _ (by rw[hs];unfold M.sortK;rw[if_pos d,if_pos b]) (o.trans k)
  ·exact m _ _ (by rw[hs];unfold M.sortK;rw[if_pos d,b];rfl) (o.trans k)
 refine zh (fun l=>?_) (fun l=>?_)
 ·have J:t.ks.length=0:=by rw[l] at j;simp[M.arity] at j;omega
  have hs:=M.sort_leaf (ds:=ds) A J
  have X:=M.findD_lt ds t.s
  simp(disch:=(simp only[push_cast];done)) only[push_cast,y.ld3]
  refine l2Find_spec q ?_
  try simp only[push_cast]
  refine zh (fun b=>?_) (fun b=>?_)
  ·exact m _ _ (by rw[hs];unfold M.sortK;rw[if_neg d,if_pos l,if_pos b]) o
  ·try simp(disch:=first|(simp only[push_cast];done)|omega) only[push_cast,q.iaddr]
   try simp(disch:=first|(simp only[push_cast];done)|omega) only[push_cast,q.load1]
   exact m _ _ (by rw[hs];unfold M.sortK;rw[if_neg d,if_pos l,if_neg b]) o
 refine zh (fun D=>?_) (fun D=>?_)
 ·have J:t.ks.length=0:=by rw[D] at j;simp[M.arity] at j;omega
  have hs:=M.sort_leaf (ds:=ds) A J
  exact m _ _ (by rw[hs];unfold M.sortK;rw[if_neg d,if_neg l,if_pos (by omega)];rfl) o
 have hlen:t.ks.length=1∨t.ks.length=2∨t.ks.length=3:=by
  have h0:M.arity t.op≠0:=fun h=>by have:=M.arity_zero h;omega
  have N:M.arity t.op≤3:=by
   unfold M.arity
   repeat' split
   all_goals omega
  omega
 have x:=u.ext o
 simp(disch:=first|(simp only[push_cast];done)|omega) only[push_cast,y.ld4,x.iaddr]
 refine x.load zN (by omega) fun x0 Q=>?_
 refine T (M.kid t 0) (M.kid_mem (by omega)) q f Q fun w3 k=>?_
 have C:=y.ext k
 have p:=o.trans k
 have g:=u.ext p
 have L:=M.sort_range f (M.kid t 0)
 simp(disch:=first|(simp only[push_cast];done)|omega) only[push_cast,C.ld4,g.len]
 refine zh (fun l1=>?_) (fun l1=>?_)
 ·rw[C.ldAgg (t:=zd) zN]
  refine l2One_spec (F:=G) (t:=t) ⟨ksv,rfl,g⟩ L fun w4 r=>?_
  exact m _ _ (M.sort_one f A (by omega)) (p.trans r)
 simp(disch:=first|(simp only[push_cast];done)|omega) only[push_cast,C.ld4,g.iaddr]
 refine g.load zN (by omega) fun x1 R=>?_
 refine T (M.kid t 1) (M.kid_mem (by omega)) (O.ext p) f R fun w4 r=>?_
 have N:=C.ext r
 have i:=p.trans r
 have n:=u.ext i
 have P:=M.sort_range f (M.kid t 1)
 simp(disch:=first|(simp only[push_cast];done)|omega) only[push_cast,N.ld4,N.ld0,n.len]
 refine zh (fun l2=>?_) (fun l2=>?_)
 ·refine l2Both_spec L P ?_
  exact m _ _ (M.sort_two f A (by omega)) i
 have B:=M.sort_three (ds:=ds) A (by omega)
 refine zh (fun z=>?_) (fun z=>?_)
 ·exact m _ _ (by rw[B,if_pos (.inl z)]) i
 simp(disch:=first|(simp only[push_cast];done)|omega) only[push_cast,N.ld4,n.iaddr]
 refine n.load zN (by omega) fun x2 S=>?_
 refine T (M.kid t 2) (M.kid_mem (by omega)) (O.ext i) f S fun w5 I=>?_
 simp only[push_cast]
 refine zh (fun z2=>?_) (fun z2=>?_)
 ·exact m _ _ (by rw[B,if_pos (.inr z2)]) (i.trans I)
 ·exact m _ _ (by rw[B,if_neg (fun h=>h.elim z z2)]) (i.trans I)
def qz0 (ds:List M.Dcl):Prop:=∀i,i<ds.length→(ds.getD i jo0).1.size≤9223372036854775807
theorem spec_TermSort_spec {dv v:Value} {ds:List M.Dcl} {t:M.Tm} (o:qz0 ds) (q:DclsR F w dv ds) (x:TermR G w v t) (p:∀w',Ext w w'→K (.int .i64 (M.tsort ds t)) w'):vcall PP Zv #[dv,v] w K:=by
 apply z80
 obtain⟨cs,rfl,e⟩:=x.cells
 refine zx fun b1 A s g u l=>?_
 rw[l.ldAgg (t:=zd) (by rw[jA e];exact zN)]
 refine spec_TermMany_spec t (e.ext g).term fun B i=>?_
 simp only[push_cast]
 have f:=g.trans i
 refine spec_DeclOk_spec (q.ext f) o fun y j=>?_
 have d:=f.trans j
 have k:=p y d
 unfold M.tsort at k
 simp only[push_cast]
 refine yo (fun a=>?_) (fun a=>?_)
 ·rwa[if_neg (fun h=>by rw[h.2] at a;cases a)] at k
 rw[Bool.not_eq_false'] at a
 refine zh (fun b=>?_) (fun b=>?_)
 ·rw[if_neg (fun h=>by
   have l:=M.fits_iff.1 h.1
   unfold M.manyM at b
   rw[if_pos h.1] at b;omega)] at k
  exact k
 have n:M.fits t=true:=by
  by_cases h:M.fits t=true
  ·exact h
  ·unfold M.manyM at b
   rw[if_neg h] at b;omega
 refine zh (fun c=>?_) (fun c=>?_)
 ·unfold M.lvlM at c
  rw[if_pos n] at c
  have:=M.fits_iff.1 n
  omega
 have r:=(l.ext i).ext j
 rw[r.ldAgg (t:=zd) (by rw[jA e];exact zN)]
 refine l2Sort_spec t (q.ext d) a (e.ext d).term fun z m=>?_
 have:=p z (d.trans m)
 unfold M.tsort at this
 rwa[if_pos ⟨n,a⟩] at this
end Go.Proofs.YtaekfnbnhjgboaaGreatDoor
end
section
namespace Go.Proofs.YtaekfnbnhjgboaaGreatDoor
open Go Go.Vc Go.Proofs
variable {w:World} {K:Value→World→Prop} {F F' D:Nat→Prop}
theorem kh0 {b:Nat} {cs cs':List Value} {t:TypeId} {G:Nat→Prop} {f:M.Tm} (h:Blk w b cs t) (k:cs.length=5) (c:TmR G w cs' f) (i:∀x,G x→x≠b) (j:∀w',Same (· =b) w w'→w'.heap.size=w.heap.size→TermR G w' (.agg ⟨cs'⟩) f→K (.agg ⟨cs'⟩) w'):
  zu PP zd (.pointer (some ⟨b,0,none⟩)) (.agg ⟨cs'⟩) w fun _ m=>vlv PP zd (.pointer (some ⟨b,0,none⟩)) m fun r n=>K r n:=by
 refine stTerm h k c fun w' a d g=>?_
 rw[g.lv (by rw[jA c];exact zN)]
 exact j w' a d (c.same a fun x l _ e=>i x l e).term
theorem leafR {G:Nat→Prop} (o a b:Int) (s:ByteArray):TmR G w [.int .i64 o,.int .i64 a,.int .i64 b,.string s,.slice none 0 0] (.mk o a b s []):=TmR.of (t:= .mk o a b s []) TmsR.nil
end Go.Proofs.YtaekfnbnhjgboaaGreatDoor
end
section
namespace Go.Proofs.YtaekfnbnhjgboaaGreatDoor
open Go Go.Vc Go.Proofs
variable {w:World} {K:Value→World→Prop} {F F' D G:Nat→Prop}
abbrev Xq0:List Value:=[.int .i64 0,.int .i64 0,.int .i64 0,.string ⟨#[]⟩,.slice none 0 0]
section
variable {w0:World} {b b1 p:Nat} {v dv:Value} {xs:List Nat} {ds:List M.Dcl}
end
end Go.Proofs.YtaekfnbnhjgboaaGreatDoor
end
section
namespace Go.Proofs.YtaekfnbnhjgboaaGreatDoor
open Go Go.Vc Go.Proofs
variable {w:World} {K:Value→World→Prop} {F F' D G:Nat→Prop}
theorem flatten_setEl {k:Nat}:∀{xs:List (List Value)} (_:∀x,x∈xs→x.length=k) {i:Nat} {y:List Value},y.length=k→i<xs.length→(xs.set i y).flatten=xs.flatten.take (i*k)++y++xs.flatten.drop (i*k+k)
 |[],_,i,y,_,hi=>by simp at hi
 |x::r,h,i,y,c,hi=>by
  have e:=h x List.mem_cons_self
  cases i with
  |zero=>
   simp only[List.set_cons_zero,List.flatten_cons,Nat.zero_mul,List.take_zero,List.nil_append,Nat.zero_add]
   rw[List.drop_append,List.drop_of_length_le (by omega),List.nil_append,show k-x.length=0 by omega,List.drop_zero]
  |succ i=>
   simp only[List.set_cons_succ,List.flatten_cons]
   have a:(i+1)*k=x.length+i*k:=by rw[Nat.add_mul];omega
   have b:x.length+i*k+k=x.length+(i*k+k):=by omega
   rw[flatten_setEl (fun z d=>h z (List.mem_cons_of_mem _ d)) c (by simpa using hi),a,b,List.take_length_add_append,List.drop_length_add_append]
   simp only[List.append_assoc]
theorem own_stEl {P:Program} {v:Value} {k:Nat} {t e:TypeId} {xs:List (List Value)} {y:List Value} (h:Own P 0 k t w v xs) (J:0<k) (n:y.length=k) (B:∀c,c∈y→c.oneCell'=true) (u:aggB P e k=true) {i:Nat} (hi:i<xs.length)
  (C:∀w',Own P 0 k t w' v (xs.set i y)→Same (fun b=>v.ownBlock=some b) w w'→w'.heap.size=w.heap.size→K undef w'):zu P e (.pointer (some (eaddr v k i))) (.agg ⟨y⟩) w K:=by
 have E:=flatten_len h.wide
 rcases h.row with⟨H,s⟩
 rcases s with⟨rfl,L⟩|⟨g,cap,cur,rfl,o,x,j,p,r,f⟩
 ·omega
 ·have F:i*k+k≤xs.length*k:=by rw[←Nat.succ_mul];exact Nat.mul_le_mul_right _ hi
  have G:xs.length*k≤cap*k:=Nat.mul_le_mul_right _ j
  have d:=run_storeCells_at (P:=P) g (i*k) (JC P t) y 0 cur w x (by omega) B
  have he:eaddr (.slice (some ⟨g,0,none⟩) xs.length cap) k i=⟨g,i*k,none⟩:=by
   simp only[eaddr,Nat.zero_add]
  rw[he]
  have D:cur.toList.length=cap*k:=by simpa using r
  have m:(cur.toList.take (i*k+0)++y++cur.toList.drop (i*k+0+y.length)).toArray.size=cap*k:=by
   simp only[List.size_toArray,List.length_append,List.length_take,List.length_drop]
   omega
  have a:(cur.toList.take (i*k+0)++y++cur.toList.drop (i*k+0+y.length)).toArray.toList.take (xs.length*k)=(xs.set i y).flatten:=by
   rw[flatten_setEl h.wide n hi,←f,n]
   simp only[Nat.add_zero]
   have I:(cur.toList.take (i*k)).length=i*k:=by rw[List.length_take];omega
   rw[List.take_append,List.take_append,List.take_of_length_le (l:=List.take (i*k) cur.toList) (by omega),List.take_of_length_le (l:=y) (by omega),List.take_take,Nat.min_eq_left (by omega),List.drop_take]
   congr 2
   rw[List.length_append,List.length_take]
   omega
  refine⟨(),_,?_,C (w.setRow g (cur.toList.take (i*k+0)++y++cur.toList.drop (i*k+0+y.length)).toArray) ⟨?_,?_⟩ ⟨rfl,rfl,rfl,by simp,fun q _ A=>setRow_other w g q _ (fun e=>A (by rw[e];rfl))⟩ (by simp)⟩
  ·simp only[Instr.storeAt,Instr.sureAddr,Sem.run_bind,Sem.run_pure,Result.andThen_ok,storeVar,Yo u,Value.cells]
   simp only[List.size_toArray,n,ne_eq,not_true_eq_false,if_false]
   rw[n] at d
   exact d
  ·rw[List.length_set]
   refine⟨?_,.inr ⟨g,cap,_,rfl,o,setRow_heap w g _ _ _ _ x,j,p,m,a⟩⟩
   rw[←a,List.length_take]
   have:=m
   simp only[List.size_toArray] at this
   simp only[List.toList_toArray,this]
   omega
  ·intro z u
   obtain⟨q,A,rfl⟩:=List.getElem_of_mem u
   rw[List.getElem_set]
   split
   ·exact n
   ·exact h.wide _ (List.getElem_mem _)
end Go.Proofs.YtaekfnbnhjgboaaGreatDoor
end
