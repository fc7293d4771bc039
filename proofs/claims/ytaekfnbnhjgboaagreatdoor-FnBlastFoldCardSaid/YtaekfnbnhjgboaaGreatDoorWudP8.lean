import Derived.Test.YtaekfnbnhjgboaaGreatDoorWudP7
import Derived.Test.YtaekfnbnhjgboaaGreatDoorWudP5
import Derived.Ground.NamesProg
import Derived.Shelf.Strings.OnBuilder
import Derived.Shelf.Strings.SlTrimAscii
import Derived.Shelf.SlGeneric
import Derived.Test.YtaekfnbnhjgboaaGreatDoorProg
/- A part of the proof. -/
set_option linter.unusedVariables false
set_option linter.unusedSimpArgs false
set_option linter.unnecessarySimpa false
set_option linter.unusedSectionVars false
section
namespace Go.Proofs.YtaekfnbnhjgboaaGreatDoor
open Go Go.Vc Go.Proofs
variable {w:World} {K:Value→World→Prop} {F G:Nat→Prop}
theorem unKind_value_spec {s:ByteArray} {n:Int} {ev tv kv:Value} {t:M.Tm} {xs:List (Int×Int)} (Q:TermR F w tv t) (R:PairsR G w kv xs) (Y:xs.length=1)
  (I:∀w',Ext w w'→K (.int .i64 (M.vecUn t.op (xs.getD 0 (0,0)).1 (xs.getD 0 (0,0)).2).1.2) w'):vcall PP jP #[KV s n,ev,tv,kv] w K:=by
 apply VV
 obtain⟨ksv,rfl,N⟩:=Q
 refine zy fun b1 w1 J m O X=>?_
 refine zy fun b2 w2 L o P B=>?_
 have z:=m.trans o
 have Z:=z.size
 refine zI (fun u w'=> ∃b wd,u=[.pointer (some ⟨b,0,none⟩)]∧Ext w w'∧Blk w' b [.int .i64 wd,.int .i64 (M.vecUn t.op (xs.getD 0 (0,0)).1 (xs.getD 0 (0,0)).2).1.2] zc) (fun C x=>?_) ?_
 ·refine zr fun U d _=>?_
  have c:=z.trans d
  have e:=R.ext c
  have j:=B.ext d
  have S:=c.size
  simp(disch:=first|(simp only[push_cast];done)|omega) only[push_cast,j.ld0,e.iaddr,e.load,true_and,and_true]
  refine⟨?_,?_⟩
  ·refine VecUn_spec fun w4 f=>?_
   have T:=f.size
   simp only[push_cast,true_and]
   refine zz x6 fun A V l a p k=>?_
   try simp only[push_cast,true_and,and_self]
   refine stVec k fun W q _ E=>?_
   try simp only[push_cast,true_and,and_self]
   exact x _ _ ⟨_,_,rfl,Ext.then ((c.trans f).trans a) q fun y v=>by subst v;omega,E⟩
  ·refine zz x6 fun A V l a p k=>?_
   have D:=j.ext a
   have i:=e.ext a
   simp(disch:=first|(simp only[push_cast];done)|omega) only[push_cast,D.ld0,i.iaddr,i.load,true_and,and_self,and_true]
   refine VecUn_spec fun W h=>?_
   simp only[push_cast,true_and]
   refine stVec (k.ext h) fun w7 r _ H=>?_
   try simp only[push_cast,true_and,and_self]
   exact x _ _ ⟨_,_,rfl,Ext.then ((c.trans a).trans h) r fun y v=>by subst v;omega,H⟩
 ·rintro u g U ⟨b,wd,rfl,d,j⟩
  simp(disch:=(simp only[push_cast];done)) only[push_cast,j.ld1]
  exact I _ d
theorem binKind_value_spec {s:ByteArray} {n:Int} {ev tv kv:Value} {t:M.Tm} {xs:List (Int×Int)} (Q:TermR F w tv t) (R:PairsR G w kv xs) (Y:xs.length=2)
  (I:∀w',Ext w w'→K (.int .i64 (M.vecBin t.op (xs.getD 0 (0,0)).1 (xs.getD 0 (0,0)).2 (xs.getD 1 (0,0)).1 (xs.getD 1 (0,0)).2).1.2) w'):vcall PP jE #[KV s n,ev,tv,kv] w K:=by
 apply KT
 obtain⟨ksv,rfl,N⟩:=Q
 refine zy fun b1 w1 J m O X=>?_
 refine zy fun b2 w2 L o P B=>?_
 have z:=m.trans o
 have Z:=z.size
 refine zI (fun u w'=> ∃b wd,u=[.pointer (some ⟨b,0,none⟩)]∧Ext w w'∧Blk w' b [.int .i64 wd,.int .i64 (M.vecBin t.op (xs.getD 0 (0,0)).1 (xs.getD 0 (0,0)).2 (xs.getD 1 (0,0)).1 (xs.getD 1 (0,0)).2).1.2] zc) (fun C x=>?_) ?_
 ·refine zr fun U d _=>?_
  have c:=z.trans d
  have e:=R.ext c
  have j:=B.ext d
  have S:=c.size
  simp(disch:=first|(simp only[push_cast];done)|omega) only[push_cast,j.ld0,e.iaddr,e.load,true_and,and_true]
  refine⟨?_,?_⟩
  ·refine VecBin_spec fun w4 f=>?_
   have T:=f.size
   simp only[push_cast,true_and]
   refine zz x6 fun A V l a p k=>?_
   try simp only[push_cast,true_and,and_self]
   refine stVec k fun W q _ E=>?_
   try simp only[push_cast,true_and,and_self]
   exact x _ _ ⟨_,_,rfl,Ext.then ((c.trans f).trans a) q fun y v=>by subst v;omega,E⟩
  ·refine zz x6 fun A V l a p k=>?_
   have D:=j.ext a
   have i:=e.ext a
   simp(disch:=first|(simp only[push_cast];done)|omega) only[push_cast,D.ld0,i.iaddr,i.load,true_and,and_self,and_true]
   refine VecBin_spec fun W h=>?_
   simp only[push_cast,true_and]
   refine stVec (k.ext h) fun w7 r _ H=>?_
   try simp only[push_cast,true_and,and_self]
   exact x _ _ ⟨_,_,rfl,Ext.then ((c.trans a).trans h) r fun y v=>by subst v;omega,H⟩
 ·rintro u g U ⟨b,wd,rfl,d,j⟩
  simp(disch:=(simp only[push_cast];done)) only[push_cast,j.ld1]
  exact I _ d
theorem catKind_value_spec {s:ByteArray} {n:Int} {ev tv kv:Value} {t:M.Tm} {xs:List (Int×Int)} (Q:TermR F w tv t) (R:PairsR G w kv xs) (Y:xs.length=2)
  (I:∀w',Ext w w'→K (.int .i64 (M.vecBin t.op (xs.getD 0 (0,0)).1 (xs.getD 0 (0,0)).2 (xs.getD 1 (0,0)).1 (xs.getD 1 (0,0)).2).1.2) w'):vcall PP jB #[KV s n,ev,tv,kv] w K:=by
 apply KN
 obtain⟨ksv,rfl,N⟩:=Q
 refine zy fun b1 w1 J m O X=>?_
 refine zy fun b2 w2 L o P B=>?_
 have z:=m.trans o
 have Z:=z.size
 refine zI (fun u w'=> ∃b wd,u=[.pointer (some ⟨b,0,none⟩)]∧Ext w w'∧Blk w' b [.int .i64 wd,.int .i64 (M.vecBin t.op (xs.getD 0 (0,0)).1 (xs.getD 0 (0,0)).2 (xs.getD 1 (0,0)).1 (xs.getD 1 (0,0)).2).1.2] zc) (fun C x=>?_) ?_
 ·refine zr fun U d _=>?_
  have c:=z.trans d
  have e:=R.ext c
  have j:=B.ext d
  have S:=c.size
  simp(disch:=first|(simp only[push_cast];done)|omega) only[push_cast,j.ld0,e.iaddr,e.load,true_and,and_true]
  refine⟨?_,?_⟩
  ·refine VecBin_spec fun w4 f=>?_
   have T:=f.size
   simp only[push_cast,true_and]
   refine zz x6 fun A V l a p k=>?_
   try simp only[push_cast,true_and,and_self]
   refine stVec k fun W q _ E=>?_
   try simp only[push_cast,true_and,and_self]
   exact x _ _ ⟨_,_,rfl,Ext.then ((c.trans f).trans a) q fun y v=>by subst v;omega,E⟩
  ·refine zz x6 fun A V l a p k=>?_
   have D:=j.ext a
   have i:=e.ext a
   simp(disch:=first|(simp only[push_cast];done)|omega) only[push_cast,D.ld0,i.iaddr,i.load,true_and,and_self,and_true]
   refine VecBin_spec fun W h=>?_
   simp only[push_cast,true_and]
   refine stVec (k.ext h) fun w7 r _ H=>?_
   try simp only[push_cast,true_and,and_self]
   exact x _ _ ⟨_,_,rfl,Ext.then ((c.trans a).trans h) r fun y v=>by subst v;omega,H⟩
 ·rintro u g U ⟨b,wd,rfl,d,j⟩
  simp(disch:=(simp only[push_cast];done)) only[push_cast,j.ld1]
  exact I _ d
theorem cutKind_value_spec {s:ByteArray} {n:Int} {ev tv kv:Value} {t:M.Tm} {xs:List (Int×Int)} (R:TermR F w tv t) (S:PairsR G w kv xs) (Z:xs.length=1)
  (J:∀w',Ext w w'→K (.int .i64 (M.vecCut (xs.getD 0 (0,0)).1 (xs.getD 0 (0,0)).2 t.a t.b).1.2) w'):vcall PP jz #[KV s n,ev,tv,kv] w K:=by
 apply KL
 obtain⟨ksv,rfl,O⟩:=R
 refine zy fun b1 w1 L o P Y=>?_
 refine zy fun b2 w2 N p Q E=>?_
 have B:=o.trans p
 have hz:=B.size
 refine zI (fun u w'=> ∃b wd,u=[.pointer (some ⟨b,0,none⟩)]∧Ext w w'∧Blk w' b [.int .i64 wd,.int .i64 (M.vecCut (xs.getD 0 (0,0)).1 (xs.getD 0 (0,0)).2 t.a t.b).1.2] zc) (fun C A=>?_) ?_
 ·refine zr fun V e _=>?_
  have d:=B.trans e
  have f:=S.ext d
  have h:=E.ext e
  have T:=d.size
  simp(disch:=first|(simp only[push_cast];done)|omega) only[push_cast,h.ld1,h.ld2,f.iaddr,f.load,true_and,and_true]
  refine⟨?_,?_⟩
  ·refine VecCut_spec fun w4 i=>?_
   have U:=i.size
   simp only[push_cast,true_and]
   refine zz x6 fun D W m c q l=>?_
   try simp only[push_cast,true_and,and_self]
   refine stVec l fun X r _ H=>?_
   try simp only[push_cast,true_and,and_self]
   exact A _ _ ⟨_,_,rfl,Ext.then ((d.trans i).trans c) r fun y x=>by subst x;omega,H⟩
  ·refine zz x6 fun D W m c q l=>?_
   have z:=h.ext c
   have k:=f.ext c
   simp(disch:=first|(simp only[push_cast];done)|omega) only[push_cast,z.ld1,z.ld2,k.iaddr,k.load,true_and,and_self,and_true]
   refine VecCut_spec fun X j=>?_
   simp only[push_cast,true_and]
   refine stVec (l.ext j) fun w7 v _ I=>?_
   try simp only[push_cast,true_and,and_self]
   exact A _ _ ⟨_,_,rfl,Ext.then ((d.trans c).trans j) v fun y x=>by subst x;omega,I⟩
 ·rintro u g V ⟨b,wd,rfl,e,h⟩
  simp(disch:=(simp only[push_cast];done)) only[push_cast,h.ld1]
  exact J _ e
theorem cmpKind_value_spec {s:ByteArray} {n:Int} {ev tv kv:Value} {t:M.Tm} {xs:List (Int×Int)} (p:TermR F w tv t) (q:PairsR G w kv xs) (u:xs.length=2)
  (i:∀w',Ext w w'→K (.int .i64 (M.b2i (M.vecCmp t.op (xs.getD 0 (0,0)).1 (xs.getD 0 (0,0)).2 (xs.getD 1 (0,0)).1 (xs.getD 1 (0,0)).2).1)) w'):vcall PP jA #[KV s n,ev,tv,kv] w K:=by
 apply KM
 obtain⟨ksv,rfl,l⟩:=p
 refine zy fun b1 v j d m r=>?_
 refine zy fun b2 x k e o g=>?_
 refine zr fun y b _=>?_
 have a:=(d.trans e).trans b
 have c:=q.ext a
 have h:=g.ext b
 simp(disch:=first|(simp only[push_cast];done)|omega) only[push_cast,h.ld0,c.iaddr,c.load,true_and,and_true]
 refine VecCmp_spec fun z f=>?_
 simp only[push_cast,true_and]
 exact yg0 (i _ (a.trans f))
theorem Wh {s:ByteArray} {n:Int} {ev tv kv:Value} {t:M.Tm} (k:TermR F w tv t)
  (e:∀w',Ext w w'→K (.int .i64 t.b) w'):vcall PP jx #[KV s n,ev,tv,kv] w K:=by
 apply KF
 obtain⟨ksv,rfl,h⟩:=k
 refine zy fun b1 m f a i l=>?_
 refine zy fun b2 o g c j d=>?_
 simp(disch:=(simp only[push_cast];done)) only[push_cast,d.ld2]
 exact e _ (a.trans c)
theorem Yh0:Xs0 PP kR .string zd:=⟨_,KC,by kernel_rfl⟩
theorem VF {s:ByteArray} {n:Int} {tv kv:Value} {t:M.Tm} {mb:Nat} {f:List (Value×Value)} {x:Int} (l:TermR F w tv t) (hm:MapF .string w mb f) (c:(Value.string t.s,Value.int .i64 x)∈f)
  (e:∀w',Ext w w'→K (.int .i64 x) w'):vcall PP je #[KV s n,.map (some mb),tv,kv] w K:=by
 apply JF
 obtain⟨ksv,rfl,i⟩:=l
 refine zy fun b1 o g a j m=>?_
 refine zy fun b2 p h b k d=>?_
 simp(disch:=(simp only[push_cast];done)) only[push_cast,d.ld3]
 rw[Wg Yh0 (hm.ext (a.trans b)) (Wr _) c]
 exact e _ (a.trans b)
theorem ifKind_value_spec {s:ByteArray} {n:Int} {ev tv kv:Value} {t:M.Tm} {xs:List (Int×Int)} (l:TermR F w tv t) (m:PairsR G w kv xs) (q:xs.length=3)
  (f:∀w',Ext w w'→K (.int .i64 (if(xs.getD 0 (0,0)).2=1 then(xs.getD 1 (0,0)).2 else(xs.getD 2 (0,0)).2)) w'):vcall PP jQ #[KV s n,ev,tv,kv] w K:=by
 apply VW
 obtain⟨ksv,rfl,i⟩:=l
 refine zy fun b1 r g c j o=>?_
 refine zy fun b2 u h d k p=>?_
 have b:=m.ext (c.trans d)
 have e:=f _ (c.trans d)
 try simp(disch:=first|(simp only[push_cast];done)|omega) only[push_cast,b.iaddr]
 try simp(disch:=first|(simp only[push_cast];done)|omega) only[push_cast,b.load1]
 refine zh (fun a=>?_) (fun a=>?_)
 ·rw[if_pos a] at e
  try simp(disch:=first|(simp only[push_cast];done)|omega) only[push_cast,b.iaddr]
  try simp(disch:=first|(simp only[push_cast];done)|omega) only[push_cast,b.load1]
  exact e
 ·rw[if_neg a] at e
  try simp(disch:=first|(simp only[push_cast];done)|omega) only[push_cast,b.iaddr]
  try simp(disch:=first|(simp only[push_cast];done)|omega) only[push_cast,b.load1]
  exact e
def q20 (f:Value) (g:List (Int×Int)→Bool) (n:Nat):Prop:=∀(w:World) (G:Nat→Prop) (kv:Value) (xs:List (Int×Int)) (K:Value→World→Prop),PairsR G w kv xs→xs.length=n→K (.bool (g xs)) w→vcallv PP f #[kv] w K
theorem Wc {s:ByteArray} {n:Int} {f ev tv kv:Value} {t:M.Tm} {g:List (Int×Int)→Bool} {m:Nat} {xs:List (Int×Int)} (j:q20 f g m) (q:TermR F w tv t) (r:PairsR G w kv xs) (l:xs.length=m)
  (e:∀w',Ext w w'→K (.int .i64 (M.b2i (g xs))) w'):vcall PP jg #[.agg ⟨[.string s,.int .i64 n,f]⟩,ev,tv,kv] w K:=by
 apply JM
 obtain⟨ksv,rfl,k⟩:=q
 refine zy fun b1 v h b o c=>?_
 refine zy fun b2 x i a p u=>?_
 have d:=c.ext a
 simp(disch:=(simp only[push_cast];done)) only[push_cast,d.ld2]
 refine j _ _ _ _ _ (r.ext (b.trans a)) l ?_
 exact yg0 (e _ (b.trans a))
theorem Yl0:q20 (.func (.func XD) #[] #[]) (fun _=>true) 0:=by
 intro w G kv xs K c b a
 simp only[push_cast]
 apply xB0
 exact a
theorem kinds2_fn:q20 (.func (.func XC) #[] #[]) (fun xs=>decide ((xs.getD 0 (0,0)).2=0)) 1:=by
 intro w G kv xs K a c b
 simp only[push_cast]
 apply xA0
 try simp(disch:=first|(simp only[push_cast];done)|omega) only[push_cast,a.iaddr]
 try simp(disch:=first|(simp only[push_cast];done)|omega) only[push_cast,a.load1]
 exact b
theorem kinds3_fn:q20 (.func (.func XB) #[] #[]) (fun xs=>decide ((xs.getD 0 (0,0)).2=1)&&decide ((xs.getD 1 (0,0)).2=1)) 2:=by
 intro w G kv xs K b d c
 simp only[push_cast]
 apply xz0
 try simp(disch:=first|(simp only[push_cast];done)|omega) only[push_cast,b.iaddr]
 try simp(disch:=first|(simp only[push_cast];done)|omega) only[push_cast,b.load1]
 refine zh (fun a=>?_) (fun a=>?_)
 ·try simp(disch:=first|(simp only[push_cast];done)|omega) only[push_cast,b.iaddr]
  try simp(disch:=first|(simp only[push_cast];done)|omega) only[push_cast,b.load1]
  simpa only[decide_eq_true a,Bool.true_and] using c
 ·simpa only[decide_eq_false a,Bool.false_and] using c
theorem kinds4_fn:q20 (.func (.func XA) #[] #[]) (fun xs=>decide ((xs.getD 0 (0,0)).2=1)||decide ((xs.getD 1 (0,0)).2=1)) 2:=by
 intro w G kv xs K b d c
 simp only[push_cast]
 apply xy0
 try simp(disch:=first|(simp only[push_cast];done)|omega) only[push_cast,b.iaddr]
 try simp(disch:=first|(simp only[push_cast];done)|omega) only[push_cast,b.load1]
 refine zh (fun a=>?_) (fun a=>?_)
 ·simpa only[decide_eq_true a,Bool.true_or] using c
 ·try simp(disch:=first|(simp only[push_cast];done)|omega) only[push_cast,b.iaddr]
  try simp(disch:=first|(simp only[push_cast];done)|omega) only[push_cast,b.load1]
  simpa only[decide_eq_false a,Bool.false_or] using c
end Go.Proofs.YtaekfnbnhjgboaaGreatDoor
end
section
namespace Go.Proofs.YtaekfnbnhjgboaaGreatDoor
open Go Go.Vc Go.Proofs
variable {w:World} {K:Value→World→Prop} {F G:Nat→Prop}
def EnvM (w:World) (mb:Nat) (ds:List M.Dcl) (env:List Int):Prop:= ∃f,MapF .string w mb f∧∀s,0≤M.findD ds s→(Value.string s,Value.int .i64 (env.getD (M.findD ds s).toNat 0))∈f
theorem EnvM.ext {mb:Nat} {ds:List M.Dcl} {env:List Int} {w':World} (h:EnvM w mb ds env) (he:Ext w w'):EnvM w' mb ds env:=by
 obtain⟨f,a,b⟩:=h;exact⟨f,a.ext he,b⟩
def kTy (o:Int):TypeId:=if o≤2 then zQ else if o≤13 then zV else if o=14 then zX else if o≤17 then zL else if o=20 then zT else if o=21 then zN else if o=22 then zR else if o=23 then zY else zF
structure KindR (o:Int) (v:Value):Prop where
 word:∃(s:ByteArray) (m:Int) (r:List Value),v= .iface (kTy o) (.agg ⟨.string s:: .int .i64 m::r⟩)∧(o<24→r=[])∧(24≤o→∃f,r=[f]∧f.oneCell'=true)∧(o=20∨o=21∨o=24∨s.data.toList=M.wordL o)
 iface:∃ty x,v= .iface ty x
 kids:∀(w:World) (K:Value→World→Prop),(∀w',Ext w w'→K (.int .i64 (M.arity o)) w')→vinvoke PP v mn_kids #[] w K
 sort:∀(w:World) (K:Value→World→Prop) (F G H:Nat→Prop) (dv tv kv:Value) (ds:List M.Dcl) (t:M.Tm) (xs:List Int),t.op=o→DclsR F w dv ds→TermR G w tv t→Ints H w kv xs→(xs.length:Int)=M.arity o→(∀i,-1≤xs.getD i 0∧xs.getD i 0≤4)→
  (∀w',Ext w w'→K (.int .i64 (M.sortK ds t xs)) w')→vinvoke PP v Yv #[dv,tv,kv] w K
 value:∀(w:World) (K:Value→World→Prop) (G H:Nat→Prop) (ev tv kv:Value) (ds:List M.Dcl) (env:List Int) (t:M.Tm) (xs:List (Int×Int)),t.op=o→(t.op=21→∃mb,ev= .map (some mb)∧EnvM w mb ds env)→TermR G w tv t→PairsR H w kv xs→(xs.length:Int)=M.arity o→(∀i,i<xs.length→M.inS (xs.getD i (0,0)).1 (xs.getD i (0,0)).2)→
  M.sortK ds t (xs.map (·.1))≠ -1→(∀w',Ext w w'→K (.int .i64 (M.valK ds env t xs)) w')→vinvoke PP v kL #[ev,tv,kv] w K
section
variable {ds:List M.Dcl} {env:List Int} {t:M.Tm} {xs:List Int} {ys:List (Int×Int)}
theorem X9 {i:Nat} (h:i<ys.length):(ys.map (·.1)).getD i 0=(ys.getD i (0,0)).1:=M.getD_map _ h _ _
theorem kind_un {o:Int} {s:ByteArray} (d:o=1∨o=2) (hw:s.data.toList=M.wordL o):KindR o (.iface zQ (KV s 1)) where
 word:=⟨_,_,_,by(rw[show kTy o=zQ by unfold kTy;rw[if_pos (by omega)]];try rfl),fun _=>rfl,fun h=>by omega,.inr (.inr (.inr hw))⟩
 iface:=⟨_,_,rfl⟩
 kids:=fun w K b=>y8 (VK _ _) (kN fun w' he=>by have:=b w' he;rcases d with rfl|rfl<;>exact this)
 sort:=fun w K F G H dv tv kv ds t xs f l e g c i b=>by
  have a:xs.length=1:=by rcases d with rfl|rfl<;>simp[M.arity] at c<;>omega
  refine y8 (VJ _ _) (unKind_sort_spec e g a fun w' he=>?_)
  have:=b w' he
  unfold M.sortK at this
  rwa[if_neg (by omega),if_neg (by omega),if_neg (by omega),if_neg (by omega),if_neg (by omega),if_pos (by omega)] at this
 value:=fun w K G H mb tv kv ds env t ys f he e g c i hs b=>by
  have a:ys.length=1:=by rcases d with rfl|rfl<;>simp[M.arity] at c<;>omega
  refine y8 (Km _ _) (unKind_value_spec e g a fun w' he=>?_)
  have:=b w' he
  unfold M.sortK at hs
  rw[if_neg (by omega),if_neg (by omega),if_neg (by omega),if_neg (by omega),if_neg (by omega),if_pos (by omega),X9 (by omega)] at hs
  have j:0<(ys.getD 0 (0,0)).1:=by
   by_cases h:0<(ys.getD 0 (0,0)).1
   ·exact h
   ·rw[if_neg h] at hs;exact absurd rfl hs
  have k:=M.inS_pos (i 0 (by omega)) j
  unfold M.valK at this
  rw[if_neg (by omega),if_neg (by omega),if_neg (by omega),if_neg (by omega),if_neg (by omega),if_neg (by omega),if_neg (by omega),if_neg (by omega),if_pos (by omega)] at this
  unfold M.vecUn
  rw[if_pos ⟨k,by omega⟩]
  exact this
theorem kind_bin {o:Int} {s:ByteArray} (m:3≤o) (k:o≤13) (hw:s.data.toList=M.wordL o):KindR o (.iface zV (KV s 2)) where
 word:=⟨_,_,_,by(rw[show kTy o=zV by unfold kTy;rw[if_neg (by omega),if_pos (by omega)]];try rfl),fun _=>rfl,fun h=>by omega,.inr (.inr (.inr hw))⟩
 iface:=⟨_,_,rfl⟩
 kids:=fun w K b=>y8 (KB _ _) (kN fun w' he=>by
  have:=b w' he
  unfold M.arity at this
  rwa[if_neg (by omega),if_neg (by omega),if_neg (by omega),if_neg (by omega),if_pos (by omega)] at this)
 sort:=fun w K F G H dv tv kv ds t xs f n e i c d b=>by
  have a:xs.length=2:=by
   unfold M.arity at c
   rw[if_neg (by omega),if_neg (by omega),if_neg (by omega),if_neg (by omega),if_pos (by omega)] at c;omega
  refine y8 (KA _ _) (binKind_sort_spec e i a fun w' he=>?_)
  have:=b w' he
  unfold M.sortK at this
  rwa[if_neg (by omega),if_neg (by omega),if_neg (by omega),if_neg (by omega),if_neg (by omega),if_neg (by omega),if_neg (by omega),if_neg (by omega)] at this
 value:=fun w K G H mb tv kv ds env t ys f he e i c d hs b=>by
  have a:ys.length=2:=by
   unfold M.arity at c
   rw[if_neg (by omega),if_neg (by omega),if_neg (by omega),if_neg (by omega),if_pos (by omega)] at c;omega
  refine y8 (Jy _ _) (binKind_value_spec e i a fun w' he=>?_)
  have:=b w' he
  unfold M.sortK at hs
  rw[if_neg (by omega),if_neg (by omega),if_neg (by omega),if_neg (by omega),if_neg (by omega),if_neg (by omega),if_neg (by omega),if_neg (by omega),X9 (by omega),X9 (by omega)] at hs
  have j:0<(ys.getD 0 (0,0)).1∧(ys.getD 0 (0,0)).1=(ys.getD 1 (0,0)).1:=by
   by_cases h:0<(ys.getD 0 (0,0)).1∧(ys.getD 0 (0,0)).1=(ys.getD 1 (0,0)).1
   ·exact h
   ·rw[if_neg h] at hs;exact absurd rfl hs
  have l:=M.inS_pos (d 0 (by omega)) j.1
  have g:=M.inS_pos (d 1 (by omega)) (by omega)
  unfold M.valK at this
  rw[if_neg (by omega),if_neg (by omega),if_neg (by omega),if_neg (by omega),if_neg (by omega),if_neg (by omega),if_neg (by omega),if_neg (by omega),if_neg (by omega),if_neg (by omega),if_neg (by omega)] at this
  unfold M.vecBin
  rw[if_pos ⟨l,g⟩,if_neg (by omega),if_pos ⟨by omega,by omega,j.2⟩]
  exact this
theorem kind_cat {s:ByteArray} (hw:s.data.toList=M.wordL 14):KindR 14 (.iface zX (KV s 2)) where
 word:=⟨_,_,_,rfl,fun _=>rfl,fun h=>by omega,.inr (.inr (.inr hw))⟩
 iface:=⟨_,_,rfl⟩
 kids:=fun w K b=>y8 (Ky _ _) (kN fun w' he=>b w' he)
 sort:=fun w K F G H dv tv kv ds t xs c l g j e d b=>by
  have a:xs.length=2:=by simp[M.arity] at e;omega
  refine y8 (Kx _ _) (catKind_sort_spec g j a d fun w' he=>?_)
  have:=b w' he
  unfold M.sortK at this
  rwa[if_neg (by omega),if_neg (by omega),if_neg (by omega),if_neg (by omega),if_neg (by omega),if_neg (by omega),if_pos (by omega)] at this
 value:=fun w K G H mb tv kv ds env t ys c he g j e d hs b=>by
  have a:ys.length=2:=by simp[M.arity] at e;omega
  refine y8 (Ju _ _) (catKind_value_spec g j a fun w' he=>?_)
  have:=b w' he
  unfold M.sortK at hs
  rw[if_neg (by omega),if_neg (by omega),if_neg (by omega),if_neg (by omega),if_neg (by omega),if_neg (by omega),if_pos (by omega),X9 (by omega),X9 (by omega)] at hs
  have f:0<(ys.getD 0 (0,0)).1∧0<(ys.getD 1 (0,0)).1∧(ys.getD 0 (0,0)).1+(ys.getD 1 (0,0)).1≤4:=by
   by_cases h:0<(ys.getD 0 (0,0)).1∧0<(ys.getD 1 (0,0)).1∧(ys.getD 0 (0,0)).1+(ys.getD 1 (0,0)).1≤4
   ·exact h
   ·rw[if_neg h] at hs;exact absurd rfl hs
  have k:=M.inS_pos (d 0 (by omega)) f.1
  have i:=M.inS_pos (d 1 (by omega)) f.2.1
  unfold M.valK at this
  rw[if_neg (by omega),if_neg (by omega),if_neg (by omega),if_neg (by omega),if_neg (by omega),if_neg (by omega),if_neg (by omega),if_neg (by omega),if_neg (by omega),if_pos (by omega)] at this
  unfold M.vecBin
  rw[if_pos ⟨k,i⟩,if_pos c,if_pos f.2.2]
  exact this
theorem kind_cmp {o:Int} {s:ByteArray} (m:15≤o) (k:o≤17) (hw:s.data.toList=M.wordL o):KindR o (.iface zL (KV s 2)) where
 word:=⟨_,_,_,by(rw[show kTy o=zL by unfold kTy;rw[if_neg (by omega),if_neg (by omega),if_neg (by omega),if_pos (by omega)]];try rfl),fun _=>rfl,fun h=>by omega,.inr (.inr (.inr hw))⟩
 iface:=⟨_,_,rfl⟩
 kids:=fun w K b=>y8 (Kv _ _) (kN fun w' he=>by
  have:=b w' he
  unfold M.arity at this
  rwa[if_neg (by omega),if_neg (by omega),if_neg (by omega),if_neg (by omega),if_pos (by omega)] at this)
 sort:=fun w K F G H dv tv kv ds t xs f n e i c d b=>by
  have a:xs.length=2:=by
   unfold M.arity at c
   rw[if_neg (by omega),if_neg (by omega),if_neg (by omega),if_neg (by omega),if_pos (by omega)] at c;omega
  refine y8 (Ku _ _) (cmpKind_sort_spec e i a fun w' he=>?_)
  have:=b w' he
  unfold M.sortK at this
  rwa[if_neg (by omega),if_neg (by omega),if_neg (by omega),if_neg (by omega),if_neg (by omega),if_neg (by omega),if_neg (by omega),if_pos (by omega)] at this
 value:=fun w K G H mb tv kv ds env t ys f he e i c d hs b=>by
  have a:ys.length=2:=by
   unfold M.arity at c
   rw[if_neg (by omega),if_neg (by omega),if_neg (by omega),if_neg (by omega),if_pos (by omega)] at c;omega
  refine y8 (Jt _ _) (cmpKind_value_spec e i a fun w' he=>?_)
  have:=b w' he
  unfold M.sortK at hs
  rw[if_neg (by omega),if_neg (by omega),if_neg (by omega),if_neg (by omega),if_neg (by omega),if_neg (by omega),if_neg (by omega),if_pos (by omega),X9 (by omega),X9 (by omega)] at hs
  have j:0<(ys.getD 0 (0,0)).1∧(ys.getD 0 (0,0)).1=(ys.getD 1 (0,0)).1:=by
   by_cases h:0<(ys.getD 0 (0,0)).1∧(ys.getD 0 (0,0)).1=(ys.getD 1 (0,0)).1
   ·exact h
   ·rw[if_neg h] at hs;exact absurd rfl hs
  have l:=M.inS_pos (d 0 (by omega)) j.1
  have g:=M.inS_pos (d 1 (by omega)) (by omega)
  unfold M.valK at this
  rw[if_neg (by omega),if_neg (by omega),if_neg (by omega),if_neg (by omega),if_neg (by omega),if_neg (by omega),if_neg (by omega),if_neg (by omega),if_neg (by omega),if_neg (by omega),if_pos (by omega)] at this
  unfold M.vecCmp
  rw[if_pos ⟨l,g,j.2,by omega,by omega⟩]
  exact this
theorem kind_vec {s:ByteArray}:KindR 20 (.iface zT (KV s 0)) where
 word:=⟨_,_,_,rfl,fun _=>rfl,fun h=>by omega,.inl rfl⟩
 iface:=⟨_,_,rfl⟩
 kids:=fun w K b=>y8 (Kl _ _) (kN fun w' he=>b w' he)
 sort:=fun w K F G H dv tv kv ds t xs a g c f d e b=>by
  refine y8 (Kk _ _) (Uv c fun w' he=>?_)
  have:=b w' he
  unfold M.sortK at this
  rwa[if_pos a] at this
 value:=fun w K G H mb tv kv ds env t ys a he c f d e hs b=>by
  refine y8 (Jp _ _) (Wh c fun w' he=>?_)
  have:=b w' he
  unfold M.valK at this
  rwa[if_pos a] at this
theorem kind_name {s:ByteArray}:KindR 21 (.iface zN (KV s 0)) where
 word:=⟨_,_,_,rfl,fun _=>rfl,fun h=>by omega,.inr (.inl rfl)⟩
 iface:=⟨_,_,rfl⟩
 kids:=fun w K b=>y8 (Jr _ _) (kN fun w' he=>b w' he)
 sort:=fun w K F G H dv tv kv ds t xs a g e k i j b=>by
  refine y8 (Jq _ _) (nameKind_sort_spec e g fun w' he=>?_)
  have:=b w' he
  unfold M.sortK at this
  rwa[if_neg (by omega),if_pos a] at this
 value:=fun w K G H mb tv kv ds env t ys a he e k i j hs b=>by
  obtain⟨mb,rfl,f,hm,d⟩:=he a
  unfold M.sortK at hs
  rw[if_neg (by omega),if_pos a] at hs
  have c:0≤M.findD ds t.s:=by
   by_cases h:M.findD ds t.s<0
   ·rw[if_pos h] at hs;exact absurd rfl hs
   ·omega
  refine y8 (QT _ _) (VF e hm (d _ c) fun w' he=>?_)
  have:=b w' he
  unfold M.valK at this
  rwa[if_neg (by omega),if_pos a] at this
theorem kind_cut {s:ByteArray} (hw:s.data.toList=M.wordL 22):KindR 22 (.iface zR (KV s 1)) where
 word:=⟨_,_,_,rfl,fun _=>rfl,fun h=>by omega,.inr (.inr (.inr hw))⟩
 iface:=⟨_,_,rfl⟩
 kids:=fun w K d=>y8 (Ks _ _) (kN fun w' he=>d w' he)
 sort:=fun w K F G H dv tv kv ds t xs i m g j e f d=>by
  have c:xs.length=1:=by simp[M.arity] at e;omega
  refine y8 (Kr _ _) (cutKind_sort_spec g j c f fun w' he=>?_)
  have:=d w' he
  unfold M.sortK at this
  rwa[if_neg (by omega),if_neg (by omega),if_neg (by omega),if_neg (by omega),if_pos (by omega)] at this
 value:=fun w K G H mb tv kv ds env t ys i he g j e f hs d=>by
  have c:ys.length=1:=by simp[M.arity] at e;omega
  refine y8 (Js _ _) (cutKind_value_spec g j c fun w' he=>?_)
  have:=d w' he
  unfold M.sortK at hs
  rw[if_neg (by omega),if_neg (by omega),if_neg (by omega),if_neg (by omega),if_pos (by omega),X9 (by omega)] at hs
  have k:0≤t.b∧t.b≤t.a∧t.a<(ys.getD 0 (0,0)).1:=by
   by_cases h:0≤t.b∧t.b≤t.a∧t.a<(ys.getD 0 (0,0)).1
   ·exact h
   ·rw[if_neg h] at hs;exact absurd rfl hs
  have l:=M.inS_pos (f 0 (by omega)) (by omega)
  unfold M.valK at this
  rw[if_neg (by omega),if_neg (by omega),if_neg (by omega),if_neg (by omega),if_neg (by omega),if_neg (by omega),if_neg (by omega),if_pos (by omega)] at this
  unfold M.vecCut
  rw[if_pos ⟨l,k⟩]
  exact this
theorem kind_if {s:ByteArray} (hw:s.data.toList=M.wordL 23):KindR 23 (.iface zY (KV s 3)) where
 word:=⟨_,_,_,rfl,fun _=>rfl,fun h=>by omega,.inr (.inr (.inr hw))⟩
 iface:=⟨_,_,rfl⟩
 kids:=fun w K b=>y8 (VN _ _) (kN fun w' he=>b w' he)
 sort:=fun w K F G H dv tv kv ds t xs e i d f c g b=>by
  have a:xs.length=3:=by simp[M.arity] at c;omega
  refine y8 (VM _ _) (ifKind_sort_spec d f a fun w' he=>?_)
  have:=b w' he
  unfold M.sortK at this
  rwa[if_neg (by omega),if_neg (by omega),if_neg (by omega),if_pos (by omega)] at this
 value:=fun w K G H mb tv kv ds env t ys e he d f c g hs b=>by
  have a:ys.length=3:=by simp[M.arity] at c;omega
  refine y8 (Ko _ _) (ifKind_value_spec d f a fun w' he=>?_)
  have:=b w' he
  unfold M.valK at this
  rwa[if_neg (by omega),if_neg (by omega),if_neg (by omega),if_neg (by omega),if_neg (by omega),if_neg (by omega),if_pos (by omega)] at this
theorem kind_bool {o:Int} {s:ByteArray} {f:Value} {g:List (Int×Int)→Bool} {m:Nat} (q:24≤o) (i:M.arity o=m) (j:q20 f g m) (c:f.oneCell'=true) (hw:o=24∨s.data.toList=M.wordL o) (k:∀ds env (t:M.Tm) ys,t.op=o→M.valK ds env t ys=M.b2i (g ys)):
  KindR o (.iface zF (.agg ⟨[.string s,.int .i64 m,f]⟩)) where
 word:=⟨_,_,_,by rw[show kTy o=zF by unfold kTy;rw[if_neg (by omega),if_neg (by omega),if_neg (by omega),if_neg (by omega),if_neg (by omega),if_neg (by omega),if_neg (by omega),if_neg (by omega)]],fun h=>by omega,fun _=>⟨_,rfl,c⟩,.inr (.inr hw)⟩
 iface:=⟨_,_,rfl⟩
 kids:=fun w K a=>y8 (Jx _ _ _) (kN fun w' he=>by have:=a w' he;rwa[i] at this)
 sort:=fun w K F G H dv tv kv ds t xs b p d e l n a=>by
  refine y8 (Jw _ _ _) (WP d e fun w' he=>?_)
  have:=a w' he
  unfold M.sortK at this
  rwa[if_neg (by omega),if_neg (by omega),if_pos (by omega)] at this
 value:=fun w K G H mb tv kv ds env t ys b he d e l n hs a=>by
  refine y8 (QU _ _ _) (Wc j d e (by omega) fun w' he=>?_)
  have:=a w' he
  rwa[k ds env t ys b] at this
end
def KindsR (w:World) (mb:Nat):Prop:= ∃f,MapF (.int .i64) w mb f∧(∀o,0≤M.arity o→∃v,(Value.int .i64 o,v)∈f∧KindR o v)∧∀p,p∈f→∃o,p.1= .int .i64 o∧0≤M.arity o
theorem KindsR.ext {mb:Nat} {w':World} (h:KindsR w mb) (he:Ext w w'):KindsR w' mb:=by
 obtain⟨f,a,b⟩:=h;exact⟨f,a.ext he,b⟩
end Go.Proofs.YtaekfnbnhjgboaaGreatDoor
end
section
namespace Go.Proofs.YtaekfnbnhjgboaaGreatDoor
open Go Go.Vc Go.Proofs
variable {w:World} {K:Value→World→Prop} {F G:Nat→Prop}
theorem Yh:Xs0 PP zx (.int .i64) qs:=⟨_,Qz,by kernel_rfl⟩
def KS (w0 w:World) (b:Nat) (S:Int→Prop):Prop:=Ext w0 w∧w0.heap.size≤b∧∃f,MapF (.int .i64) w b f∧(∀o,S o→∃v,(Value.int .i64 o,v)∈f∧KindR o v)∧∀p,p∈f→∃o,p.1= .int .i64 o∧S o
theorem KS.set {w0 w:World} {b:Nat} {S:Int→Prop} {o:Int} {v:Value} (h:KS w0 w b S) (q: ¬S o) (r:KindR o v) (m:∀w',KS w0 w' b (fun x=>x=o∨S x)→Same (· =b) w w'→K undef w'):
  ZH PP zx (.map (some b)) (.int .i64 o) v w K:=by
 obtain⟨he,k,f,hm,l,j⟩:=h
 refine ZM0 Yh hm (JA o) (fun x i=>?_) fun w' g hs _=>m w' ⟨Ext.then he hs fun y s=>by subst s;exact k,k,_,g,fun x i=>?_,fun p c=>?_⟩ hs
 ·obtain⟨o',a,d⟩:=j _ i
  cases a;exact q d
 ·by_cases e:x=o
  ·subst e
   exact⟨v,List.mem_append.2 (.inr (List.mem_singleton.2 rfl)),r⟩
  ·obtain⟨u,hu,n⟩:=l x (i.resolve_left e)
   exact⟨u,List.mem_append.2 (.inl hu),n⟩
 ·rcases List.mem_append.1 c with c|c
  ·obtain⟨o',a,d⟩:=j _ c
   exact⟨o',a,.inr d⟩
  ·rw[List.mem_singleton.1 c]
   exact⟨o,rfl,.inl rfl⟩
theorem KS.ext {w0 w w':World} {b:Nat} {S:Int→Prop} (h:KS w0 w b S) (he:Ext w w'):KS w0 w' b S:=by
 obtain⟨a,c,f,hm,r⟩:=h;exact⟨a.trans he,c,f,hm.ext he,r⟩
theorem KS.congr {w0 w:World} {b:Nat} {S S':Int→Prop} (h:KS w0 w b S) (a:∀x,S x↔S' x):KS w0 w b S':=by
 have:S=S':=funext fun x=>propext (a x)
 subst this;exact h
theorem KS.kinds {w0 w:World} {b:Nat} {S:Int→Prop} (h:KS w0 w b S) (a:∀o,S o↔0≤M.arity o):KindsR w b:=by
 obtain⟨he,k,f,hm,c,d⟩:=h
 refine⟨f,hm,fun o i=>c o ((a o).2 i),fun p j=>?_⟩
 obtain⟨o,e,g⟩:=d p j
 exact⟨o,e,(a o).1 g⟩
@[push_cast] theorem bd_named (s:ByteArray) (n:Int):zC PP yd [(0,.string s),(1,.int .i64 n)] w K=K (KV s n) w:=ye ka0 (us:=[[.string s],[.int .i64 n]]) rfl rfl
@[push_cast] theorem Jx0 (s:ByteArray) (n:Int):zC PP zQ [(0,KV s n)] w K=K (KV s n) w:=ye jb0 (us:=[[.string s,.int .i64 n]]) rfl rfl
@[push_cast] theorem J20 (s:ByteArray) (n:Int):zC PP zV [(0,KV s n)] w K=K (KV s n) w:=ye xQ0 (us:=[[.string s,.int .i64 n]]) rfl rfl
@[push_cast] theorem J10 (s:ByteArray) (n:Int):zC PP zX [(0,KV s n)] w K=K (KV s n) w:=ye xN0 (us:=[[.string s,.int .i64 n]]) rfl rfl
@[push_cast] theorem J00 (s:ByteArray) (n:Int):zC PP zL [(0,KV s n)] w K=K (KV s n) w:=ye xL0 (us:=[[.string s,.int .i64 n]]) rfl rfl
@[push_cast] theorem QZ0 (s:ByteArray) (n:Int):zC PP zR [(0,KV s n)] w K=K (KV s n) w:=ye xK0 (us:=[[.string s,.int .i64 n]]) rfl rfl
@[push_cast] theorem Jy0 (s:ByteArray) (n:Int):zC PP zY [(0,KV s n)] w K=K (KV s n) w:=ye jc0 (us:=[[.string s,.int .i64 n]]) rfl rfl
@[push_cast] theorem QY0:zC PP zT [] w K=K (KV ⟨#[]⟩ 0) w:=ye xJ0 (us:=[]) rfl rfl
@[push_cast] theorem QN0:zC PP zN [] w K=K (KV ⟨#[]⟩ 0) w:=ye yT0 (us:=[]) rfl rfl
@[push_cast] theorem QQ0 (s:ByteArray) (n:Int) (f:Fn) (a c:Array Value):zC PP zF [(0,KV s n),(1,.func f a c)] w K=K (.agg ⟨[.string s,.int .i64 n,.func f a c]⟩) w:=ye yU0 (us:=[[.string s,.int .i64 n],[.func f a c]]) rfl rfl
theorem val24 (ds:List M.Dcl) (env:List Int) (t:M.Tm) (ys:List (Int×Int)) (h:t.op=24):M.valK ds env t ys=M.b2i true:=by simp[M.valK,h,M.b2i]
theorem val25 (ds:List M.Dcl) (env:List Int) (t:M.Tm) (ys:List (Int×Int)) (h:t.op=25):M.valK ds env t ys=M.b2i (decide ((ys.getD 0 (0,0)).2=0)):=by unfold M.valK;simp only[h];rfl
theorem val26 (ds:List M.Dcl) (env:List Int) (t:M.Tm) (ys:List (Int×Int)) (h:t.op=26):M.valK ds env t ys=M.b2i (decide ((ys.getD 0 (0,0)).2=1)&&decide ((ys.getD 1 (0,0)).2=1)):=by unfold M.valK;simp only[h];rfl
theorem val27 (ds:List M.Dcl) (env:List Int) (t:M.Tm) (ys:List (Int×Int)) (h:t.op=27):M.valK ds env t ys=M.b2i (decide ((ys.getD 0 (0,0)).2=1)||decide ((ys.getD 1 (0,0)).2=1)):=by unfold M.valK;simp only[h];rfl
def binWords:List ByteArray:=[⟨#[97,110,100]⟩,⟨#[111,114]⟩,⟨#[120,111,114]⟩,⟨#[97,100,100]⟩,⟨#[115,117,98]⟩,⟨#[109,117,108]⟩,⟨#[100,105,118]⟩,⟨#[114,101,109]⟩,⟨#[115,104,108]⟩,⟨#[115,104,114]⟩,⟨#[115,97,114]⟩]
theorem XT0:∀i:Fin 11,(binWords.getD i.1 ⟨#[]⟩).data.toList=M.wordL (3+(i.1:Int)):=by decide
theorem kinds_new (W:∀w' b,Ext w w'→KindsR w' b→w.heap.size≤b→K (.map (some b)) w'):vcall PP ki #[] w K:=by
 apply jW0
 refine kD0 Yh fun b X hb hm he hs=>?_
 have J:KS w X b (fun _=>False):=⟨he,by omega,[],hm,fun _ h=>h.elim,fun _ h=>by cases h⟩
 simp only[push_cast]
 refine J.set (by decide) (kind_un (.inl rfl) (by decide)) fun w2 L _=>?_
 refine L.set (by decide) (kind_un (.inr rfl) (by decide)) fun w3 N _=>?_
 refine N.set (by decide) (kind_cat (by decide)) fun w4 O _=>?_
 refine O.set (by decide) (kind_cmp (by decide) (by decide) (by decide)) fun w5 P _=>?_
 refine P.set (by decide) (kind_cmp (by decide) (by decide) (by decide)) fun w6 Q _=>?_
 refine Q.set (by decide) (kind_cmp (by decide) (by decide) (by decide)) fun w7 R _=>?_
 refine R.set (by decide) kind_vec fun w8 S _=>?_
 refine S.set (by decide) kind_name fun w9 T _=>?_
 refine T.set (by decide) (kind_cut (by decide)) fun Y U _=>?_
 refine U.set (by decide) (kind_if (by decide)) fun Z l _=>?_
 refine l.set (by decide) (kind_bool (m:=0) (by decide) rfl Yl0 rfl (.inl rfl) val24) fun a0 n _=>?_
 refine n.set (by decide) (kind_bool (m:=1) (by decide) rfl kinds2_fn rfl (.inr (by decide)) val25) fun a1 p _=>?_
 refine p.set (by decide) (kind_bool (m:=2) (by decide) rfl kinds3_fn rfl (.inr (by decide)) val26) fun a2 q _=>?_
 refine q.set (by decide) (kind_bool (m:=2) (by decide) rfl kinds4_fn rfl (.inr (by decide)) val27) fun a3 g _=>?_
 refine vbuildS_row1 (xs:=binWords.map .string) XI (by kernel_rfl) XF (fun x B=>by obtain⟨s,_,rfl⟩:=List.mem_map.1 B;rfl) (by decide) fun bs D F j G t=>?_
 have d:Vals (· =bs) D (.slice (some ⟨bs,0,none⟩) (binWords.map Value.string).length (binWords.map Value.string).length) (binWords.map Value.string):=t.sl1 rfl (by decide)
 have r:=g.ext j
 have v:bs≠b:=by
  obtain⟨_,_,f,hm,_⟩:=g
  have:=hm.lt;omega
 have hlen:(binWords.map Value.string).length=11:=rfl
 simp(disch:=(simp only[push_cast];done)) only[push_cast,d.len]
 rw[hlen]
 rw[hlen] at d
 refine vloop_up 11 (fun i u w'=>u=[.int .i64 i]∧Vals (· =bs) w' (.slice (some ⟨bs,0,none⟩) 11 11) (binWords.map Value.string)∧KS w w' b fun x=>(3≤x∧x<3+(i:Int))∨x=27∨x=26∨x=25∨x=24∨x=23∨x=22∨x=21∨x=20∨x=17∨x=16∨x=15∨x=14∨x=2∨x=1) ⟨rfl,d,r.congr fun x=>by simp only[or_false];constructor<;>intro h<;>omega⟩ ?_
 rintro i _ _ E C hi ⟨rfl,A,k⟩ V
 simp only[push_cast]
 refine zh (fun a=>?_) (fun a=>?_)
 ·have c:i<11:=by omega
  have H:(binWords.map Value.string).getD i undef= .string (binWords.getD i ⟨#[]⟩):=M.getD_map _ (show i<binWords.length from c) _ _
  have I:IntKind.i64.wrap (3+(i:Int))=3+(i:Int):=zE (by omega) (by omega)
  rw[A.iaddr (by kernel_rfl) (by omega) (by rw[hlen];omega),Int.toNat_natCast,A.load (by kernel_rfl) (by rw[hlen];omega),H]
  simp only[push_cast,I]
  refine k.set (by omega) (kind_bin (by omega) (by omega) (XT0 ⟨i,c⟩)) fun a4 y z=>?_
  try simp only[push_cast]
  rw[inc64' (by omega)]
  exact V c _ _ ⟨rfl,A.same z fun x B _ e=>v (B.symm.trans e),y.congr fun x=>by constructor<;>intro h<;>omega⟩
 ·have:i=11:=by omega
  subst this
  refine W E b k.1 (k.kinds fun o=>?_) k.2.1
  constructor
  ·intro h
   have:(1≤o∧o≤17)∨(20≤o∧o≤27):=by omega
   unfold M.arity
   repeat' split
   all_goals omega
  ·intro h
   have:=M.arity_ops h
   omega
theorem xW0 (d:∀w' b,Ext w w'→KindsR w' b→K (.map (some b)) w'):vcall PP ki #[] w K:=kinds_new fun w' b a c _=>d w' b a c
end Go.Proofs.YtaekfnbnhjgboaaGreatDoor
end
section
namespace Go.Proofs.YtaekfnbnhjgboaaGreatDoor
open Go Go.Vc Go.Proofs
variable {w:World} {K:Value→World→Prop} {F G:Nat→Prop}
theorem stTerm {b:Nat} {cs cs':List Value} {t:TypeId} {t':M.Tm} (h:Blk w b cs t) (f:cs.length=5) (d:TmR F w cs' t') (c:∀w',Same (· =b) w w'→w'.heap.size=w.heap.size→Blk w' b cs' t→K undef w'):zl PP z7 (.pointer (some ⟨b,0,none⟩)) (.agg ⟨cs'⟩) w K:=by
 obtain⟨kv,rfl,e⟩:=d.inv
 obtain⟨css,hs,_⟩:=e
 refine h.stAgg (by simp[f]) zu ?_ c
 intro v a
 simp only[List.mem_cons,List.not_mem_nil,or_false] at a
 rcases a with rfl|rfl|rfl|rfl|rfl
 ·rfl
 ·rfl
 ·rfl
 ·rfl
 ·exact hs.one
theorem yp {cs:List Value} {t:M.Tm} (h:TmR F w cs t):cs.length=5:=by
 obtain⟨kv,rfl,_⟩:=h.inv;rfl
theorem Ze0 {v:Value} {t:M.Tm} (m:TermR F w v t) (i:∀w',Ext w w'→K (.bool (M.plainM t)) w'):vcall PP Jl #[v] w K:=by
 apply jV0
 obtain⟨ksv,rfl,k⟩:=m
 refine zy fun b1 n j h l e=>?_
 have d:=i _ h
 unfold M.plainM at d
 refine zI (fun u w'=>u=[.bool (decide (t.op=20)||decide (t.op=22)||(decide (t.a=0)&&decide (t.b=0)))]∧w'=n) (fun C f=>?_) ?_
 ·simp(disch:=(simp only[push_cast];done)) only[push_cast,e.ld0,e.ld1,e.ld2]
  refine zh (fun a=>?_) (fun a=>?_)
  ·exact f _ _ ⟨by rw[decide_eq_true a];rfl,rfl⟩
  refine zh (fun b=>?_) (fun b=>?_)
  ·exact f _ _ ⟨by rw[decide_eq_true b];simp,rfl⟩
  refine zh (fun c=>?_) (fun c=>?_)
  ·exact f _ _ ⟨by rw[decide_eq_false a,decide_eq_false b,decide_eq_true c];rfl,rfl⟩
  ·exact f _ _ ⟨by rw[decide_eq_false a,decide_eq_false b,decide_eq_false c];rfl,rfl⟩
 ·rintro u g o ⟨rfl,rfl⟩
  simp(disch:=(simp only[push_cast];done)) only[push_cast,e.ld0,e.ld3]
  refine y3 (fun a=>?_) (fun a=>?_)
  ·rw[a,Bool.true_and] at d
   refine zh (fun b=>?_) (fun b=>?_)
   ·rwa[decide_eq_true b,Bool.true_or] at d
   ·rw[decide_eq_false b,Bool.false_or] at d
    exact d
  ·rwa[a,Bool.false_and] at d
theorem yj0 {mb:Nat} {o:Int} {ok:Bool} (h:KindsR w mb) (d:0≤M.arity o) (b:∀v,KindR o v→K (if ok then .tuple #[v,.bool true] else v) w):XG PP zx (.map (some mb)) (.int .i64 o) ok w K:=by
 obtain⟨f,hm,a,g⟩:=h
 obtain⟨v,e,c⟩:=a o d
 rw[Wg Yh hm (JA o) e]
 exact b v c
theorem Yi0 {mb:Nat} {o:Int} (h:KindsR w mb) (d: ¬0≤M.arity o) (b:K (.tuple #[.nilIface,.bool false]) w):XG PP zx (.map (some mb)) (.int .i64 o) true w K:=by
 obtain⟨f,hm,i,a⟩:=h
 rw[jf0 Yh (z:= .nilIface) (by unfold yT;kernel_rfl) hm (JA o) fun v g=>?_]
 ·exact b
 ·obtain⟨o',e,c⟩:=a _ g
  cases e;exact d c
theorem Zf0 {mb:Nat} {o:Int} {w j:World} {N:Value→World→Prop} (h:KindsR w mb) (i:0≤M.arity o) (he:Ext w j) (e:∀v,KindR o v→(∀a,Ext w a→XG PP zx (.map (some mb)) (.int .i64 o) false a fun x y=>x=v∧y=a)→N v w):XG PP zx (.map (some mb)) (.int .i64 o) false w N:=by
 obtain⟨f,hm,d,k⟩:=h
 obtain⟨v,c,g⟩:=d o i
 rw[Wg Yh hm (JA o) c]
 refine e v g fun a b=>?_
 rw[Wg Yh (hm.ext b) (JA o) c]
 exact⟨rfl,rfl⟩
theorem Qe {α β:Type} (f:α→β) {l:List α} {i:Nat} (h:i<l.length) (d:α):(l.take i).map f++[f (l.getD i d)]=(l.take (i+1)).map f:=by
 rw[List.take_add_one,List.getElem?_eq_getElem h,List.map_append,List.getD_eq_getElem?_getD,List.getElem?_eq_getElem h]
 rfl
theorem sortOf_spec:∀(t:M.Tm) {w:World} {K:Value→World→Prop} {F G:Nat→Prop} {mb:Nat} {dv v:Value} {ds:List M.Dcl},KindsR w mb→DclsR F w dv ds→M.declOk ds=true→TermR G w v t→
  (∀w',Ext w w'→K (.int .i64 (M.sortM ds t)) w')→vcall PP jr #[.map (some mb),dv,v] w K:=by
 refine M.Tm.ind fun t ih w K F G mb dv v ds hm hd N ht U=>?_
 apply j00
 obtain⟨ksv,rfl,m⟩:=ht
 refine zy fun b1 w1 a3 l a6 D=>?_
 have J:=hm.ext l
 simp(disch:=(simp only[push_cast];done)) only[push_cast,D.ld0]
 have A: ¬(M.formed t=true)→∀w',Ext w w'→K (.int .i64 (-1)) w':=fun hn w' he=>by
  have:=U w' he
  rw[M.sortM_eq] at this
  unfold M.sortF at this
  rwa[if_neg (fun h=>hn h.1)] at this
 by_cases Y: ¬0≤M.arity t.op
 ·have S:=Y
  refine Yi0 J S ?_
  simp only[push_cast]
  refine zI (fun _ _=>False) (fun C R=>?_) (fun _ _ _ h=>h.elim)
  refine zr fun T c _=>?_
  simp only[push_cast,true_and]
  refine A (fun h=>S ?_) _ (l.trans c)
  simp only[M.formed,Bool.and_eq_true,decide_eq_true_eq] at h
  omega
 have S:0≤M.arity t.op:=by omega
 refine yj0 J S fun kv I=>?_
 simp only[push_cast,if_true]
 have a9:=m.small
 refine zI (fun u w'=>u=[]∧Ext w1 w'∧M.formed t=true) (fun C R=>?_) ?_
 ·refine zr fun T c _=>?_
  have E:=D.ext c
  simp(disch:=(simp only[push_cast];done)) only[push_cast,E.ld4,m.len,true_and]
  refine I.kids _ _ fun w3 d=>?_
  have Q:=E.ext d
  simp(disch:=(simp only[push_cast];done)) only[push_cast,Q.ld4,m.len,true_and,and_self]
  refine zh (fun a=>?_) (fun a=>?_)
  ·refine A (fun h=>?_) _ ((l.trans c).trans d)
   simp only[M.formed,Bool.and_eq_true,decide_eq_true_eq] at h
   omega
  ·simp(disch:=(simp only[push_cast];done)) only[push_cast,Q.ldAgg (t:=z7) zu,true_and]
   refine Ze0 (F:=G) (t:=t) ⟨ksv,rfl,m.ext ((l.trans c).trans d)⟩ fun w4 e=>?_
   simp only[push_cast,true_and]
   refine y3 (fun b=>?_) (fun b=>?_)
   ·refine A (fun h=>?_) _ (((l.trans c).trans d).trans e)
    simp only[M.formed,Bool.and_eq_true] at h
    rw[h.2] at b;cases b
   ·refine R _ _ ⟨rfl,(c.trans d).trans e,?_⟩
    simp only[M.formed,Bool.and_eq_true,decide_eq_true_eq]
    exact⟨by omega,by simpa using b⟩
 ·rintro u g T ⟨rfl,c,hf⟩
  have E:=D.ext c
  have hE:=l.trans c
  have ab:=hE.size
  simp(disch:=(simp only[push_cast];done)) only[push_cast,E.ld4,m.len]
  have H:=hf
  simp only[M.formed,Bool.and_eq_true,decide_eq_true_eq] at H
  have a2:t.ks.length≤3:=by
   have D:=H.1
   unfold M.arity at D
   repeat' split at D
   all_goals omega
  refine vloop_up t.ks.length (fun i u w'=> ∃sv,u=[sv,.int .i64 i]∧Ext T w'∧OwnI PP zj w' sv ((t.ks.take i).map (M.sortM ds))∧(∀b,sv.ownBlock=some b→T.heap.size≤b)∧(∀x,x∈(t.ks.take i).map (M.sortM ds)→x≠ -1)) ⟨_,rfl,Same.refl _ _,OwnI.nil,(fun b h=>by cases h),by simp⟩ ?_
  rintro i _ _ w3 C hi ⟨sv,rfl,d,B,L,n⟩ R
  have k:=hE.trans d
  have o:=m.ext k
  simp only[push_cast]
  refine zh (fun a=>?_) (fun a=>?_)
  ·simp(disch:=first|(simp only[push_cast];done)|omega) only[push_cast,o.iaddr]
   refine o.load zu (by omega) fun x r=>?_
   obtain⟨cs,rfl,s⟩:=r.cells
   refine zz zO fun b2 w4 a4 e a7 h4=>?_
   refine stTerm h4 rfl (s.ext e) fun w5 Z aa h5=>?_
   have p:Ext w3 w5:=Ext.then e Z fun y P=>by subst P;omega
   rw[h5.ldAgg (t:=z7) (by rw[yp s];exact zu)]
   refine ih _ (M.getD_mem (by omega) _) (hm.ext (k.trans p)) (hd.ext (k.trans p)) N (s.ext p).term fun w6 V=>?_
   simp only[push_cast]
   have f:=p.trans V
   refine zh (fun b=>?_) (fun b=>?_)
   ·have:=U _ (k.trans f)
    rw[M.sortM_eq] at this
    unfold M.sortF at this
    rwa[if_neg (fun h=>h.2 (b▸List.mem_map_of_mem (M.getD_mem (by omega) _)))] at this
   ·refine YY ZP km ZO rfl rfl (by decide) fun b3 w7 a5 z a8 h7=>?_
    have O:=(B.ext f).ext z
    have hlen:((t.ks.take i).map (M.sortM ds)).length=i:=by rw[List.length_map,List.length_take];omega
    refine O.app1 Zu h7 (by rw[hlen];omega) (by rw[hlen];omega) fun a1 w8 q a0 X=>?_
    try simp only[push_cast]
    rw[inc64' (by omega)]
    rw[Qe _ (by omega)] at q
    refine R (by omega) _ _ ⟨a1,rfl,Ext.then ((d.trans f).trans z) a0 fun y P=>L y P,q,fun y P=>?_,fun x r=>?_⟩
    ·rcases X y P with h|h
     ·exact L y h
     ·have:=(d.trans f).size;have:=z.size;omega
    ·rw[←Qe _ (by omega) default] at r
     rcases List.mem_append.1 r with r|r
     ·exact n x r
     ·rw[List.mem_singleton.1 r];exact b
  ·have W:i=t.ks.length:=by omega
   subst W
   rw[List.take_length] at B n
   have Q:=E.ext d
   simp(disch:=(simp only[push_cast];done)) only[push_cast,Q.ldAgg (t:=z7) zu]
   refine I.sort _ _ F G _ _ _ _ ds t _ rfl (hd.ext k) ⟨ksv,rfl,o⟩ B.ints (by rw[List.length_map];omega) (fun j=>?_) fun w4 e=>?_
   ·by_cases hj:j<t.ks.length
    ·rw[M.getD_map _ hj 0 default];exact M.sort_range N _
    ·rw[List.getD_eq_getElem?_getD,List.getElem?_eq_none (by simpa using hj)];simp
   ·have:=U _ (k.trans e)
    rw[M.sortM_eq] at this
    unfold M.sortF at this
    rwa[if_pos ⟨hf,fun h=>n _ h rfl⟩] at this
def nnB:M.Tm→Bool:=M.Tm.fold fun t xs=>decide (t.op≠21)&&xs.all id
theorem Jg0 (t:M.Tm):nnB t=(decide (t.op≠21)&&(t.ks.map nnB).all id):=M.Tm.fold_eq _ t
theorem nnB_iff {t:M.Tm}:nnB t=true↔t.op≠21∧∀k,k∈t.ks→nnB k=true:=by
 rw[Jg0,Bool.and_eq_true,decide_eq_true_eq,List.all_eq_true]
 refine and_congr_right fun _=>⟨fun h k a=>h _ (List.mem_map_of_mem a),fun h y b=>?_⟩
 obtain⟨k,a,rfl⟩:=List.mem_map.1 b
 exact h k a
theorem valueOf_specG:∀(t:M.Tm) {w:World} {K:Value→World→Prop} {F G:Nat→Prop} {mb:Nat} {dv v ev:Value} {ds:List M.Dcl} {env:List Int},KindsR w mb→DclsR F w dv ds→M.envOk ds env=true→((∃eb,ev= .map (some eb)∧EnvM w eb ds env)∨nnB t=true)→TermR G w v t→M.sortM ds t≠ -1→
  (∀w',Ext w w'→K (Z2 (M.sortM ds t) (M.evalM ds env t)) w')→vcall PP Zj #[.map (some mb),dv,v,ev] w K:=by
 refine M.Tm.ind fun t ih w K F G mb dv v ev ds env hm hd B hE ht p hK=>?_
 have a4:=(M.env_ok B).1
 apply xs0
 obtain⟨ksv,rfl,o⟩:=ht
 obtain⟨hf,n,a5⟩:=M.sort_parts p
 have L:=hf
 simp only[M.formed,Bool.and_eq_true,decide_eq_true_eq] at L
 have a9:t.ks.length≤3:=by
  have X:=L.1
  unfold M.arity at X
  repeat' split at X
  all_goals omega
 have ho:0≤M.arity t.op:=by omega
 refine zy fun b1 w1 aa I ae X=>?_
 refine zz x6 fun b2 w2 ab J af h2=>?_
 have q1:=X.ext J
 have H:=I.trans J
 have aj:=H.size
 have ai:=o.small
 simp(disch:=(simp only[push_cast];done)) only[push_cast,q1.ld4,o.len]
 refine vloop_up t.ks.length (fun i u w'=> ∃sv,u=[sv,.int .i64 i]∧Ext w2 w'∧OwnP PP y6 w' sv ((t.ks.take i).map (M.vecM ds env))∧(∀b,sv.ownBlock=some b→w2.heap.size≤b)) ⟨_,rfl,Same.refl _ _,OwnP.nil _,fun b h=>by cases h⟩ ?_
 rintro i _ _ w3 C hi ⟨sv,rfl,l,D,S⟩ hC
 have f:=H.trans l
 have r:=o.ext f
 have ak:=l.size
 simp only[push_cast]
 refine zh (fun a=>?_) (fun a=>?_)
 ·simp(disch:=first|(simp only[push_cast];done)|omega) only[push_cast,r.iaddr]
  refine r.load zu (by omega) fun x hx=>?_
  obtain⟨cs,rfl,z⟩:=hx.cells
  refine zz zO fun b3 w4 ac d ag h4=>?_
  refine stTerm h4 rfl (z.ext d) fun w5 a6 al h5=>?_
  have c:Ext w3 w5:=Ext.then d a6 fun y E=>by subst E;omega
  rw[h5.ldAgg (t:=z7) (by rw[yp z];exact zu)]
  refine ih _ (M.getD_mem (by omega) _) (hm.ext (f.trans c)) (hd.ext (f.trans c)) B (hE.imp (fun⟨eb,e,h⟩=>⟨eb,e,h.ext (f.trans c)⟩) fun h=>(nnB_iff.1 h).2 _ (M.getD_mem (by omega) _)) (z.ext c).term (n _ (M.getD_mem (by omega) _)) fun w6 q=>?_
  have m:=c.trans q
  refine YY kg0 Z20 x6 rfl rfl (by decide) fun b4 w7 ad A ah Z=>?_
  have V:=(D.ext m).ext A
  have hlen:((t.ks.take i).map (M.vecM ds env)).length=i:=by rw[List.length_map,List.length_take];omega
  refine Own.app1k V kt0 (by decide) Z rfl (by intro v hv;simp only[List.mem_cons,List.not_mem_nil,or_false] at hv;rcases hv with rfl|rfl<;>rfl) (by rw[List.length_map,hlen];omega) (by rw[List.length_map,hlen];omega) fun W w8 T a8 a3=>?_
  rw[inc64' (by omega)]
  have U:OwnP PP y6 w8 W ((t.ks.take (i+1)).map (M.vecM ds env)):=by
   unfold OwnP
   rw[←Qe _ (by omega) default,List.map_append,M.vecM_pair ds env (t.ks.getD i default)]
   exact T
  refine hC (by omega) _ _ ⟨W,rfl,Ext.then ((l.trans m).trans A) a8 fun y E=>S y E,U,fun y E=>?_⟩
  rcases a3 y E with h|h
  ·exact S y h
  ·have:=m.size;have:=A.size;omega
 ·have a0:i=t.ks.length:=by omega
  subst a0
  rw[List.take_length] at D
  refine zr fun w4 d _=>?_
  have q4:=(q1.ext l).ext d
  have g:=f.trans d
  have Q:=o.ext g
  simp(disch:=(simp only[push_cast];done)) only[push_cast,q4.ld0,q4.ldAgg (t:=z7) zu,true_and]
  refine Zf0 (hm.ext g) ho (Same.refl _ _) fun kv a1 a2=>⟨rfl,?_⟩
  refine sortOf_spec t (hm.ext g) (hd.ext g) a4 ⟨ksv,rfl,Q⟩ fun w5 c=>?_
  have q5:=q4.ext c
  simp(disch:=(simp only[push_cast];done)) only[push_cast,q5.ld0,q5.ldAgg (t:=z7) zu,true_and,and_self]
  refine⟨a2 _ c,?_⟩
  have s:=g.trans c
  have R:(t.ks.map (M.vecM ds env)).length=t.ks.length:=List.length_map _
  have O:∀j,j<t.ks.length→(t.ks.map (M.vecM ds env)).getD j (0,0)=(M.sortM ds (t.ks.getD j default),M.evalM ds env (t.ks.getD j default)):=fun j P=>by rw[M.getD_map _ P _ default,M.vecM_pair]
  have N:(t.ks.map (M.vecM ds env)).map (·.1)=t.ks.map (M.sortM ds):=by
   rw[List.map_map];exact List.map_congr_left fun k _=>M.vecM_sort ds env k
  refine a1.value _ _ G _ _ _ _ ds env t _ rfl (fun Y=>hE.elim (fun⟨eb,e,h⟩=>⟨eb,e,h.ext s⟩) fun h=>absurd Y (nnB_iff.1 h).1) ⟨ksv,rfl,o.ext s⟩ ((D.ext (d.trans c)).pairs) (by rw[R];omega) (fun j P=>?_) (by rw[N,←a5];exact p) fun w6 q=>?_
  ·rw[R] at P
   rw[O j P]
   exact M.eval_in B _ (n _ (M.getD_mem P _))
  ·simp only[push_cast,true_and]
   have h6:=(((h2.ext l).ext d).ext c).ext q
   refine stVec h6 fun w7 a7 _ Z=>?_
   rw[Z.lv (by kernel_rfl)]
   have hX:Ext w w7:=Ext.then (s.trans q) a7 fun y E=>by subst E;have:=I.size;omega
   have:=hK w7 hX
   rw[M.evalM_eq] at this
   exact this
theorem count_spec:∀(t:M.Tm) {w:World} {K:Value→World→Prop} {F:Nat→Prop} {v:Value} {m deep mb:Nat} {ty:TypeId},TermR F w v t→Blk w mb [.int .i64 m] ty→(∀b,F b→b≠mb)→m≤20→1≤deep→deep≤8→
  (∀w' (r B:Nat),Same (· =mb) w w'→Blk w' mb [.int .i64 B] ty→m<B→B≤21→deep≤r→r≤8→(m+M.sizeM t≤20∧deep-1+M.deepM t≤7→B=m+M.sizeM t∧r=deep-1+M.deepM t)→(¬(m+M.sizeM t≤20∧deep-1+M.deepM t≤7)→20<B∨7<r)→K (.int .i64 r) w')→
  vcall PP X5 #[v,.int .i64 deep,.pointer (some ⟨mb,0,none⟩)] w K:=by
 refine M.Tm.ind fun t ih w K F v m deep mb ty ht E hF hm a2 a3 L=>?_
 apply jX0
 obtain⟨ksv,rfl,n⟩:=ht
 refine zy fun b1 w1 a0 p a9 Z=>?_
 have o:=E.ext p
 have X:=E.lt
 have ab:=n.small
 have hS:=M.szT_all t
 have hD:=M.dpT_all t
 simp(disch:=(simp only[push_cast];done)) only[push_cast,o.ld0]
 rw[inc64' (by omega)]
 refine o.st (i:=0) rfl rfl km rfl fun G A ac D=>?_
 have s:Same (· =mb) w G:=(Same.of_ext p).trans A
 have q2:=Z.same A (by omega)
 replace D:Blk G mb [.int .i64 (m+1:Nat)] ty:=D
 refine zh (fun a=>?_) (fun a=>?_)
 ·exact L G deep (m+1) s D (by omega) (by omega) (by omega) (by omega) (fun h=>by omega) (fun h=>by omega)
 simp(disch:=(simp only[push_cast];done)) only[push_cast,q2.ld4,n.len]
 refine vloop_up t.ks.length (fun i u w'=> ∃r mi:Nat,u=[.int .i64 r,.int .i64 i]∧Same (· =mb) G w'∧Blk w' mb [.int .i64 mi] ty∧m<mi∧mi≤21∧deep≤r∧r≤8∧(m+1+M.szT t.ks i≤20∧deep+M.dpT t.ks i≤7→mi=m+1+M.szT t.ks i∧r=deep+M.dpT t.ks i)∧(¬(m+1+M.szT t.ks i≤20∧deep+M.dpT t.ks i≤7)→20<mi∨7<r))
  ⟨deep,m+1,rfl,Same.refl _ _,D,by omega,by omega,by omega,by omega,fun h=>by simp[M.szT,M.dpT],fun h=>by
   have V:M.szT t.ks 0=0:=rfl
   have e2:M.dpT t.ks 0=0:=rfl
   omega⟩ ?_
 rintro i _ _ H C hi ⟨r,mi,rfl,z,J,R,S,c3,T,I,U⟩ hC
 have d:Same (· =mb) w H:=s.trans z
 have g:TmsR F H ksv t.ks:=n.same d fun b E _ e=>hF b E e
 have ad:=d.size
 simp only[push_cast]
 refine zh (fun b=>?_) (fun b=>?_)
 ·have a5:=M.szT_mono (ks:=t.ks) (i:=i) (j:=t.ks.length) (by omega) (Nat.le_refl _)
  have a6:=M.dpT_mono (ks:=t.ks) (i:=i) (j:=t.ks.length) (by omega) (Nat.le_refl _)
  have a7:=M.szT_succ (ks:=t.ks) (i:=i) (by omega)
  have a8:=M.dpT_succ (ks:=t.ks) (i:=i) (by omega)
  simp(disch:=first|(simp only[push_cast];done)|omega) only[push_cast,g.iaddr]
  refine g.load zu (by omega) fun x hx=>?_
  obtain⟨cs,rfl,l⟩:=hx.cells
  refine zz zO fun b2 w4 a1 q aa h4=>?_
  refine stTerm h4 rfl (l.ext q) fun Y P ae h5=>?_
  have f:Ext H Y:=Ext.then q P fun y hy=>by subst hy;omega
  have k:=J.ext f
  have a4:=J.lt
  simp(disch:=(simp only[push_cast];done)) only[push_cast,k.ld0]
  refine zh (fun c=>?_) (fun c=>?_)
  ·exact L Y r mi (d.trans (Same.of_ext f)) k R S c3 T (fun h=>by omega) (fun h=>by omega)
  ·rw[h5.ldAgg (t:=z7) (by rw[yp l];exact zu)]
   have V:IntKind.i64.wrap ((deep:Int)+1)=((deep+1:Nat):Int):=inc64' (by omega)
   rw[V]
   refine ih _ (M.getD_mem (by omega) _) (l.ext f).term k hF (by omega) (by omega) (by omega) fun w6 Q m2 O h6 d1 d2 d3 d4 d5 d6=>?_
   simp only[push_cast]
   rw[inc64' (by omega),show max (r:Int) (Q:Int)=((max r Q:Nat):Int) by omega]
   refine hC (by omega) _ _ ⟨max r Q,m2,rfl,(z.trans (Same.of_ext f)).trans O,h6,by omega,d2,by omega,by omega,fun h=>?_,fun h=>?_⟩
   ·have:=I (by omega)
    have:=d5 (by omega)
    omega
   ·by_cases W:m+1+M.szT t.ks i≤20∧deep+M.dpT t.ks i≤7
    ·have:=I W
     have:=d6 (by omega)
     omega
    ·have:=U W
     omega
 ·have N:i=t.ks.length:=by omega
  subst N
  refine L H r mi d J R S c3 T (fun h=>?_) (fun h=>?_)
  ·have:=I (by omega)
   omega
  ·exact U (by omega)
theorem TermMany_spec {v:Value} {t:M.Tm} (A:TermR F w v t) (H:∀w',Ext w w'→K (.tuple #[.int .i64 (M.manyM t),.int .i64 (M.lvlM t)]) w'):vcall PP Ys #[v] w K:=by
 apply yP0
 have s:=A.weaken (F':=fun b=>b<w.heap.size) fun b _ h=>h
 obtain⟨ksv,rfl,L⟩:=A
 refine zy fun b1 Y I o N E=>?_
 refine XH ZO fun b2 S J g O l=>?_
 replace l:Blk S b2 [.int .i64 0] zd:=l
 refine l.st (i:=0) rfl rfl km rfl fun B k P n=>?_
 replace n:Blk B b2 [.int .i64 ((0:Nat):Int)] zd:=n
 have R:=(E.ext g).same k (by omega)
 have j:Ext w B:=Ext.then (o.trans g) k fun y x=>by subst x;omega
 rw[R.ldAgg (t:=z7) zu]
 refine count_spec t (m:=0) (deep:=1) (s.ext j) n (fun b X e=>by omega) (by omega) (by omega) (by omega) fun C r Q q G T U c3 V f D=>?_
 have p:Ext w C:=Ext.then j q fun y x=>by subst x;omega
 have d:=H C p
 have c:M.fits t=true↔M.sizeM t≤20∧M.deepM t≤7:=M.fits_iff
 unfold M.manyM M.lvlM at d
 simp(disch:=(simp only[push_cast];done)) only[push_cast,G.ld0]
 refine zh (fun a=>?_) (fun a=>?_)
 ·rw[if_neg (fun h=>by have u:=c.1 h;have:=f (by omega);omega),if_neg (fun h=>by have u:=c.1 h;have:=f (by omega);omega)] at d
  exact d
 ·refine zh (fun b=>?_) (fun b=>?_)
  ·rw[if_neg (fun h=>by have u:=c.1 h;have:=f (by omega);omega),if_neg (fun h=>by have u:=c.1 h;have:=f (by omega);omega)] at d
   exact d
  ·have z:M.sizeM t≤20∧M.deepM t≤7:=by
    by_cases h:M.sizeM t≤20∧M.deepM t≤7
    ·exact h
    ·have:=D (by omega);omega
   have W:=f (by omega)
   rw[if_pos (c.2 z),if_pos (c.2 z)] at d
   rw[show Q=M.sizeM t by omega,show r=M.deepM t by omega]
   exact d
end Go.Proofs.YtaekfnbnhjgboaaGreatDoor
end
section
namespace Go.Proofs
open Go.Shelf
def YtaekfnbnhjgboaaGreatDoor.trimL_ren:Go.Shelf.Ren:=⟨fun|160=>137 |232=>197 |231=>196 |227=>198 |234=>200 |233=>199 |236=>202 |235=>201 |228=>236 |271=>239 |151=>238 |197=>237 |120=>263 |152=>262 |260=>261 |137=>281 |119=>282 |224=>283 |225=>284 |217=>291 |266=>295 |n=>n,fun|9=>9 |4=>4 |3=>3 |5=>5 |117=>273 |116=>272 |0=>0 |124=>276 |21=>21 |105=>309 |46=>314 |119=>344 |139=>347 |138=>346 |n=>n,fun|3=>3 |4=>4 |n=>n⟩
theorem YtaekfnbnhjgboaaGreatDoor.trimL:Go.Proofs.Lays.n160 Tryz.prog YtaekfnbnhjgboaaGreatDoor.trimL_ren:={
 mixed:=by kernel_rfl
 f119:=Tryz.func282.trans (congrArg some (by kernel_rfl))
 f120:=Tryz.func263.trans (congrArg some (by kernel_rfl))
 f137:=Tryz.func281.trans (congrArg some (by kernel_rfl))
 f151:=Tryz.func238.trans (congrArg some (by kernel_rfl))
 f152:=Tryz.func262.trans (congrArg some (by kernel_rfl))
 f160:=Tryz.func137.trans (congrArg some (by kernel_rfl))
 f197:=Tryz.func237.trans (congrArg some (by kernel_rfl))
 f217:=Tryz.func291.trans (congrArg some (by kernel_rfl))
 f224:=Tryz.func283.trans (congrArg some (by kernel_rfl))
 f225:=Tryz.func284.trans (congrArg some (by kernel_rfl))
 f227:=Tryz.func198.trans (congrArg some (by kernel_rfl))
 f228:=Tryz.func236.trans (congrArg some (by kernel_rfl))
 f231:=Tryz.func196.trans (congrArg some (by kernel_rfl))
 f232:=Tryz.func197.trans (congrArg some (by kernel_rfl))
 f233:=Tryz.func199.trans (congrArg some (by kernel_rfl))
 f234:=Tryz.func200.trans (congrArg some (by kernel_rfl))
 f235:=Tryz.func201.trans (congrArg some (by kernel_rfl))
 f236:=Tryz.func202.trans (congrArg some (by kernel_rfl))
 f260:=Tryz.func261.trans (congrArg some (by kernel_rfl))
 f266:=Tryz.func295.trans (congrArg some (by kernel_rfl))
 f271:=Tryz.func239.trans (congrArg some (by kernel_rfl))
 t0:=Tryz.underlying0
 a0:=Tryz.isAgg0
 z0:=Tryz.sizeOf0
 v0:=Tryz.zeroValue0
 t3:=Tryz.underlying3
 a3:=Tryz.isAgg3
 z3:=Tryz.sizeOf3
 v3:=Tryz.zeroValue3
 t4:=Tryz.underlying4
 a4:=Tryz.isAgg4
 z4:=Tryz.sizeOf4
 v4:=Tryz.zeroValue4
 t5:=Tryz.underlying5
 a5:=Tryz.isAgg5
 z5:=Tryz.sizeOf5
 v5:=Tryz.zeroValue5
 t9:=Tryz.underlying9
 a9:=Tryz.isAgg9
 z9:=Tryz.sizeOf9
 v9:=Tryz.zeroValue9
 t21:=Tryz.underlying21
 a21:=Tryz.isAgg21
 z21:=Tryz.sizeOf21
 v21:=Tryz.zeroValue21
 t46:=Tryz.underlying314
 a46:=Tryz.isAgg314
 z46:=Tryz.sizeOf314
 v46:=Tryz.zeroValue314
 t105:=Tryz.underlying309
 a105:=Tryz.isAgg309
 z105:=Tryz.sizeOf309
 v105:=Tryz.zeroValue309
 t116:=Tryz.underlying272
 a116:=Tryz.isAgg272
 z116:=Tryz.sizeOf272
 t117:=Tryz.underlying273
 a117:=Tryz.isAgg273
 z117:=Tryz.sizeOf273
 v117:=Tryz.zeroValue273
 t119:=Tryz.underlying344
 a119:=Tryz.isAgg344
 z119:=Tryz.sizeOf344
 t124:=Tryz.underlying276
 a124:=Tryz.isAgg276
 z124:=Tryz.sizeOf276
 v124:=Tryz.zeroValue276
 t138:=Tryz.underlying346
 a138:=Tryz.isAgg346
 z138:=Tryz.sizeOf346
 v138:=Tryz.zeroValue346
 t139:=Tryz.underlying347
 a139:=Tryz.isAgg347
 z139:=Tryz.sizeOf347
 v139:=Tryz.zeroValue347
 g3:=by kernel_rfl
 g4:=by kernel_rfl}
def YtaekfnbnhjgboaaGreatDoor.joinL_ren:Go.Shelf.Ren:=⟨fun|156=>168 |165=>211 |166=>212 |169=>213 |240=>249 |241=>250 |276=>274 |277=>275 |n=>n,fun|31=>218 |9=>9 |3=>3 |4=>4 |0=>0 |20=>20 |72=>288 |76=>290 |70=>286 |37=>22 |75=>102 |127=>313 |164=>333 |5=>5 |80=>238 |n=>n,fun|n=>n⟩
theorem YtaekfnbnhjgboaaGreatDoor.joinL:Go.Proofs.Lays.n156 Tryz.prog YtaekfnbnhjgboaaGreatDoor.joinL_ren:={
 mixed:=by kernel_rfl
 f156:=Tryz.func168.trans (congrArg some (by kernel_rfl))
 f165:=Tryz.func211.trans (congrArg some (by kernel_rfl))
 f166:=Tryz.func212.trans (congrArg some (by kernel_rfl))
 f169:=Tryz.func213.trans (congrArg some (by kernel_rfl))
 f240:=Tryz.func249.trans (congrArg some (by kernel_rfl))
 f241:=Tryz.func250.trans (congrArg some (by kernel_rfl))
 f276:=Tryz.func274.trans (congrArg some (by kernel_rfl))
 f277:=Tryz.func275.trans (congrArg some (by kernel_rfl))
 t0:=Tryz.underlying0
 a0:=Tryz.isAgg0
 z0:=Tryz.sizeOf0
 v0:=Tryz.zeroValue0
 t3:=Tryz.underlying3
 a3:=Tryz.isAgg3
 z3:=Tryz.sizeOf3
 v3:=Tryz.zeroValue3
 t4:=Tryz.underlying4
 a4:=Tryz.isAgg4
 z4:=Tryz.sizeOf4
 v4:=Tryz.zeroValue4
 t9:=Tryz.underlying9
 a9:=Tryz.isAgg9
 z9:=Tryz.sizeOf9
 v9:=Tryz.zeroValue9
 t20:=Tryz.underlying20
 a20:=Tryz.isAgg20
 z20:=Tryz.sizeOf20
 v20:=Tryz.zeroValue20
 t31:=Tryz.underlying218
 a31:=Tryz.isAgg218
 z31:=Tryz.sizeOf218
 v31:=Tryz.zeroValue218
 t37:=Tryz.underlying22
 a37:=Tryz.isAgg22
 z37:=Tryz.sizeOf22
 v37:=Tryz.zeroValue22
 t70:=Tryz.underlying286
 a70:=Tryz.isAgg286
 z70:=Tryz.sizeOf286
 v70:=Tryz.zeroValue286
 t72:=Tryz.underlying288
 a72:=Tryz.isAgg288
 z72:=Tryz.sizeOf288
 v72:=Tryz.zeroValue288
 t75:=Tryz.underlying102
 a75:=Tryz.isAgg102
 z75:=Tryz.sizeOf102
 v75:=Tryz.zeroValue102
 t76:=Tryz.underlying290
 a76:=Tryz.isAgg290
 z76:=Tryz.sizeOf290
 v76:=Tryz.zeroValue290
 t127:=Tryz.underlying313
 a127:=Tryz.isAgg313
 z127:=Tryz.sizeOf313
 v127:=Tryz.zeroValue313
 t164:=Tryz.underlying333
 a164:=Tryz.isAgg333
 z164:=Tryz.sizeOf333
 v164:=Tryz.zeroValue333}
end Go.Proofs
end
section
namespace Go.Proofs.YtaekfnbnhjgboaaGreatDoor
open Go Go.Vc Go.Proofs
variable {w:World} {K:Value→World→Prop} {F G:Nat→Prop}
theorem dw_nil {α:Type} {p:α→Bool}:∀{l:List α},l.dropWhile p=[]↔ ∀x,x∈l→p x=true
 |[]=>by simp
 |a::l=>by
  rw[List.dropWhile_cons]
  split
  ·rename_i h
   rw[dw_nil]
   constructor
   ·intro b x c
    rcases List.mem_cons.1 c with rfl|c
    ·exact h
    ·exact b x c
   ·intro b x c;exact b x (List.mem_cons_of_mem _ c)
  ·rename_i h
   constructor
   ·intro b;cases b
   ·intro b;exact absurd (b a List.mem_cons_self) h
theorem dw_head {α:Type} {p:α→Bool}:∀{l:List α},l.dropWhile p≠[]→∃x,x∈l.dropWhile p∧p x=false
 |[],h=>absurd rfl h
 |a::l,h=>by
  rw[List.dropWhile_cons] at h⊢
  split
  ·rename_i b
   rw[if_pos b] at h
   exact dw_head h
  ·rename_i b
   exact⟨a,List.mem_cons_self,by simpa using b⟩
theorem dw_sub {α:Type} {p:α→Bool}:∀{l:List α} {x:α},x∈l.dropWhile p→x∈l
 |[],_,h=>h
 |a::l,x,h=>by
  rw[List.dropWhile_cons] at h
  split at h
  ·exact List.mem_cons_of_mem _ (dw_sub h)
  ·exact h
theorem Xf0 {l cs:List UInt8}:Lib.trimS l cs=[]↔ ∀x,x∈l→cs.contains x=true:=by
 unfold Lib.trimS Lib.trimLeftS Lib.trimRightS
 rw[dw_nil]
 constructor
 ·intro h
  by_cases a:∀x,x∈l→cs.contains x=true
  ·exact a
  ·exfalso
   have b:List.dropWhile (fun x=>cs.contains x) l.reverse≠[]:=fun e=>a fun x c=>dw_nil.1 e x (List.mem_reverse.2 c)
   obtain⟨y,g,f⟩:=dw_head b
   have d:=h y (List.mem_reverse.2 g)
   rw[f] at d;cases d
 ·intro h x c
  exact h x (List.mem_reverse.1 (dw_sub (List.mem_reverse.1 c)))
def abc:ByteArray:=⟨#[97,98,99,100,101,102,103,104,105,106,107,108,109,110,111,112,113,114,115,116,117,118,119,120,121,122]⟩
theorem abc_in (x:UInt8):abc.data.toList.contains x=(decide (97≤x.toNat)&&decide (x.toNat≤122)):=by
 have a:∀n:Fin 256,abc.data.toList.contains (UInt8.ofNat n.1)=(decide (97≤(UInt8.ofNat n.1).toNat)&&decide ((UInt8.ofNat n.1).toNat≤122)):=by decide+kernel
 have:=a ⟨x.toNat,x.toNat_lt⟩
 simpa using this
theorem k80 {w w':World} (h:Go.RowKit.Below w.heap.size w w'):Ext w w':=⟨h.os,h.tape,h.output,h.size,fun b a _=>h.block b a⟩
def jo0 (s:ByteArray):Bool:=s.data.all fun c=>decide (97≤c.toNat)&&decide (c.toNat≤122)
theorem YL0 {s:ByteArray} (hs:s.size≤9223372036854775807) (f:∀w' r,Ext w w'→(r=⟨#[]⟩↔jo0 s=true)→K (.string r) w'):vcall PP KY #[.string s,.string abc] w K:=by
 refine⟨by kernel_rfl,?_⟩
 refine(Any.strings_Trim_laid YtaekfnbnhjgboaaGreatDoor.trimL (by kernel_rfl) s abc w hs (by decide) (ascii_of_all (by decide))).mono ?_
 rintro e w' ⟨rfl,g⟩
 refine f w' _ (k80 g) ?_
 have c:((⟨(Lib.trimS s.data.toList abc.data.toList).toArray⟩:ByteArray)=⟨#[]⟩)↔Lib.trimS s.data.toList abc.data.toList=[]:=by
  constructor
  ·intro h
   have d:=congrArg (fun b:ByteArray=>b.data.toList) h
   simpa using d
  ·intro h;rw[h]
 rw[c,Xf0]
 unfold jo0
 rw[Array.all_eq_true_iff_forall_mem]
 constructor
 ·intro h x a
  rw[←abc_in];exact h x (Array.mem_toList_iff.2 a)
 ·intro h x a
  rw[abc_in];exact h x (Array.mem_toList_iff.1 a)
theorem stDecl {b:Nat} {x y:Value} {t:TypeId} {s:ByteArray} {n:Int} (h:Blk w b [x,y] t) (c:∀w',Same (· =b) w w'→w'.heap.size=w.heap.size→Blk w' b [.string s,.int .i64 n] t→K undef w'):zl PP zA (.pointer (some ⟨b,0,none⟩)) (.agg ⟨[.string s,.int .i64 n]⟩) w K:=
 h.stAgg rfl (by kernel_rfl) (by intro v a;simp only[List.mem_cons,List.not_mem_nil,or_false] at a;rcases a with rfl|rfl<;>rfl) c
theorem J8 (s:ByteArray):M.nameOk s=(decide (1≤s.size)&&decide (s.size≤4)&&decide (s≠M.tru)&&jo0 s):=rfl
theorem DeclOk_spec {v:Value} {ds:List M.Dcl} (O:DclsR F w v ds) (D:∀w',Ext w w'→K (.bool (M.declOk ds)) w'):vcall PP kK #[v] w K:=by
 apply j90
 simp(disch:=(simp only[push_cast];done)) only[push_cast,O.len]
 refine zh (fun a=>?_) (fun a=>?_)
 ·have:=D w (Same.refl _ _)
  rwa[show M.declOk ds=false from by rw[Bool.eq_false_iff];intro h;have:=(M.decl_iff.1 h).1;omega] at this
 refine vloop_up ds.length (fun i u w'=>u=[.int .i64 (M.bitT ds i),.int .i64 i]∧Ext w w'∧(∀j,j<i→M.dclOk ds j=true)∧ -4*(i:Int)≤M.bitT ds i∧M.bitT ds i≤4*i) ⟨rfl,Same.refl _ _,by omega,by simp[M.bitT],by simp[M.bitT]⟩ ?_
 rintro i _ _ w1 C hi ⟨rfl,o,q,a0,a1⟩ hC
 have E:=O.ext o
 simp only[push_cast]
 refine zh (fun b=>?_) (fun b=>?_)
 ·have z:i<ds.length:=by omega
  have d:M.dclOk ds i=false→∀w',Ext w w'→K (.bool false) w':=fun e w' he=>by
   have:=D w' he
   rwa[show M.declOk ds=false from by rw[Bool.eq_false_iff];intro h;have:=(M.decl_iff.1 h).2.1 i z;rw[e] at this;cases this] at this
  unfold M.dclOk at d
  rw[J8] at d
  simp(disch:=first|(simp only[push_cast];done)|omega) only[push_cast,E.iaddr,E.load]
  obtain⟨s,n,B⟩:∃s n,ds.getD i UM=(s,n):=⟨_,_,rfl⟩
  simp only[B] at d⊢
  refine zz xU fun b1 w2 U P a4 Y=>?_
  refine stDecl Y fun W R _ S=>?_
  have a6:=o.size
  have k:Ext w W:=Ext.then (o.trans P) R fun y hy=>by subst hy;omega
  refine zI (fun u w'=>u=[]∧Ext W w'∧M.nameOk s=true) (fun C' N=>?_) ?_
  ·simp(disch:=first|(simp only[push_cast];done)|omega) only[push_cast,S.ld0,q50 XK]
   refine zh (fun c=>?_) (fun c=>?_)
   ·exact d (by rw[decide_eq_false (show¬1≤s.size by omega)];simp) _ k
   refine zh (fun I=>?_) (fun I=>?_)
   ·exact d (by rw[decide_eq_false (show¬s.size≤4 by omega)];simp) _ k
   refine zh (fun c3=>?_) (fun c3=>?_)
   ·exact d (by rw[show decide (s≠M.tru)=false from decide_eq_false (fun h=>h c3)];simp) _ k
   refine YL0 (by omega) fun w4 r l V=>?_
   simp only[push_cast]
   refine zh (fun J=>?_) (fun J=>?_)
   ·have:jo0 s=false:=by
     rw[Bool.eq_false_iff];exact fun h=>J (V.2 h)
    exact d (by rw[this];simp) _ (k.trans l)
   ·have L:r=⟨#[]⟩:=by
     by_cases h:r=⟨#[]⟩
     ·exact h
     ·exact absurd h J
    refine N _ _ ⟨rfl,l,?_⟩
    rw[J8,decide_eq_true (show 1≤s.size by omega),decide_eq_true (show s.size≤4 by omega),show decide (s≠M.tru)=true from decide_eq_true c3,V.1 L]
    rfl
  ·rintro u g w4 ⟨rfl,l,A⟩
   have T:=S.ext l
   have f:=k.trans l
   have G:=O.ext f
   rw[J8] at A
   rw[A] at d
   rw[G.cut (by intro e;subst e;simp at z) (by kernel_rfl) (by omega)]
   simp only[push_cast]
   have a3:(ds.take i).length=i:=by rw[List.length_take];omega
   refine za0 (p:=fun j=>decide (((ds.take i).getD j UM).1=s)) (G.taken (by omega)) (fun j hj=>?_) fun w5 m=>?_
   ·intro w' K he D
    simp only[push_cast]
    apply yR0
    refine zy fun b3 w6 a2 H a5 h6=>?_
    have h7:=(T.ext he).ext H
    simp(disch:=first|(simp only[push_cast];done)|omega) only[push_cast,h6.ld0,h7.ld0]
    exact D _ H
   ·rw[←VO]
    have Z:=T.ext m
    have efd:idxI (ds.take i).length (fun j=>decide (((ds.take i).getD j UM).1=s))=M.findD (ds.take i) s:=rfl
    rw[efd]
    refine zh (fun c=>?_) (fun c=>?_)
    ·exact d (by rw[decide_eq_false (show¬M.findD (ds.take i) s<0 by omega)];simp) _ (f.trans m)
    simp(disch:=first|(simp only[push_cast];done)|omega) only[push_cast,Z.ld1]
    refine zh (fun X=>?_) (fun X=>?_)
    ·exact d (by rw[decide_eq_false (show¬1≤n by omega)];simp) _ (f.trans m)
    refine zh (fun I=>?_) (fun I=>?_)
    ·exact d (by rw[decide_eq_false (show¬n≤4 by omega)];simp) _ (f.trans m)
    have t:=M.bitT_succ z
    rw[show ds.getD i (M.nada,0)=(s,n) from B] at t
    rw[zE (x:=M.bitT ds i+n) (by omega) (by omega),inc64' (by omega),show M.bitT ds i+n=M.bitT ds (i+1) from t.symm]
    refine hC (by omega) _ _ ⟨rfl,f.trans m,fun j hj=>?_,by omega,by omega⟩
    by_cases e:j=i
    ·subst e
     unfold M.dclOk
     rw[show ds.getD j (M.nada,0)=(s,n) from B,J8,A]
     simp only[Bool.true_and,Bool.and_eq_true,decide_eq_true_eq]
     exact⟨⟨by omega,by omega⟩,by omega⟩
    ·exact q j (by omega)
 ·have Q:i=ds.length:=by omega
  subst Q
  have:=D w1 o
  rw[M.bitT_all]
  have e:M.declOk ds=decide (M.bits ds≤8):=by
   rw[Bool.eq_iff_iff,M.decl_iff,decide_eq_true_eq]
   exact⟨fun h=>h.2.2,fun h=>⟨by omega,q,h⟩⟩
  rwa[e] at this
theorem EnvOk_spec {v ev:Value} {ds:List M.Dcl} {env:List Int} (p:DclsR F w v ds) (x:Ints G w ev env) (r:∀w',Ext w w'→K (.bool (M.envOk ds env)) w'):vcall PP Jn #[v,ev] w K:=by
 apply k20
 have B:=p.small
 refine zI (fun u w'=>u=[]∧Ext w w'∧M.declOk ds=true∧env.length=ds.length) (fun C q=>?_) ?_
 ·refine DeclOk_spec p fun y c=>?_
  have s:=p.ext c
  have l:=x.ext c
  have f:=r y c
  unfold M.envOk at f
  simp only[push_cast]
  refine y3 (fun a=>?_) (fun a=>?_)
  ·rw[show M.declOk ds=false by simpa using a] at f
   exact f
  ·rw[Bool.not_eq_false'] at a
   simp(disch:=(simp only[push_cast];done)) only[push_cast,l.len,s.len]
   refine zh (fun b=>?_) (fun b=>?_)
   ·rw[a,decide_eq_false (show¬env.length=ds.length by omega)] at f
    exact f
   ·exact q _ _ ⟨rfl,c,a,by omega⟩
 ·rintro u g y ⟨rfl,c,t,A⟩
  have l:=x.ext c
  simp(disch:=(simp only[push_cast];done)) only[push_cast,l.len]
  refine vloop_up env.length (fun i u w'=>u=[.int .i64 i]∧Ext w w'∧∀j,j<i→M.vok (ds.getD j UM).2 (env.getD j 0)=true) ⟨rfl,c,by omega⟩ ?_
  rintro i _ _ D C hi ⟨rfl,d,k⟩ q
  have m:=p.ext d
  have o:=x.ext d
  simp only[push_cast]
  refine zh (fun a=>?_) (fun a=>?_)
  ·simp(disch:=first|(simp only[push_cast];done)|omega) only[push_cast,o.iaddr,o.load,m.iaddr]
   try simp(disch:=first|(simp only[push_cast];done)|omega) only[push_cast,m.load1]
   refine VecOk_spec fun E n=>?_
   simp only[push_cast]
   refine y3 (fun b=>?_) (fun b=>?_)
   ·have f:=r E (d.trans n)
    rwa[show M.envOk ds env=false from by
     rw[Bool.eq_false_iff];intro h
     have:=(M.env_ok h).2.2 i (by omega)
     rw[this] at b;cases b] at f
   ·rw[inc64' (by omega)]
    refine q (by omega) _ _ ⟨rfl,d.trans n,fun j z=>?_⟩
    by_cases e:j=i
    ·subst e;simpa using b
    ·exact k j (by omega)
  ·have f:=r D d
   rwa[show M.envOk ds env=true from by
    simp only[M.envOk,Bool.and_eq_true,List.all_eq_true,List.mem_range,decide_eq_true_eq]
    exact⟨⟨t,A⟩,fun j z=>k j (by omega)⟩] at f
theorem TermSort_spec {dv v:Value} {ds:List M.Dcl} {t:M.Tm} (r:DclsR F w dv ds) (z:TermR G w v t) (q:∀w',Ext w w'→K (.int .i64 (M.tsort ds t)) w'):vcall PP kI #[dv,v] w K:=by
 apply yN0
 obtain⟨cs,rfl,c⟩:=z.cells
 refine zy fun b1 C u g y n=>?_
 rw[n.ldAgg (t:=z7) (by rw[yp c];exact zu)]
 refine TermMany_spec (c.ext g).term fun D i=>?_
 simp only[push_cast]
 have e:=g.trans i
 refine DeclOk_spec (r.ext e) fun A j=>?_
 have f:=e.trans j
 have m:=q A f
 unfold M.tsort at m
 simp only[push_cast]
 refine y3 (fun a=>?_) (fun a=>?_)
 ·rwa[if_neg (fun h=>by rw[h.2] at a;cases a)] at m
 ·rw[Bool.not_eq_false'] at a
  refine zh (fun b=>?_) (fun b=>?_)
  ·rw[if_neg (fun h=>by
    have n:=M.fits_iff.1 h.1
    unfold M.manyM at b
    rw[if_pos h.1] at b;omega)] at m
   exact m
  ·have x:M.fits t=true:=by
    by_cases h:M.fits t=true
    ·exact h
    ·unfold M.manyM at b
     rw[if_neg h] at b;omega
   refine zr fun E k _=>?_
   have p:=((n.ext i).ext j).ext k
   rw[p.ldAgg (t:=z7) (by rw[yp c];exact zu)]
   refine⟨rfl,xW0 fun H mb l hm=>?_⟩
   have s:=p.ext l
   rw[s.ldAgg (t:=z7) (by rw[yp c];exact zu)]
   have d:=(f.trans k).trans l
   refine⟨⟨rfl,rfl⟩,sortOf_spec t hm (r.ext d) a (c.ext d).term fun B o=>?_⟩
   have:=q B (d.trans o)
   unfold M.tsort at this
   rwa[if_pos ⟨x,a⟩] at this
end Go.Proofs.YtaekfnbnhjgboaaGreatDoor
end
section
namespace Go.Proofs.YtaekfnbnhjgboaaGreatDoor
open Go Go.Vc Go.Proofs
variable {w:World} {K:Value→World→Prop} {F G:Nat→Prop}
theorem l2Name_spec {s:ByteArray} (hs:s.size≤9223372036854775807) (d:K (.bool (M.nameOk s)) w):vcall PP Qr #[.string s] w K:=by
 apply qQ0
 rw[J8] at d
 refine vloop_up s.size (fun i u w'=>u=[.int .i64 i]∧w'=w∧∀j,j<i→(decide (97≤(s.data.getD j 0).toNat)&&decide ((s.data.getD j 0).toNat≤122))=true) ⟨rfl,rfl,by omega⟩ ?_
 rintro i _ _ r C hi ⟨rfl,rfl,g⟩ o
 simp(disch:=first|(simp only[push_cast];done)|omega) only[push_cast,q50 XK]
 have l:i<s.size→(decide (97≤(s.data.getD i 0).toNat)&&decide ((s.data.getD i 0).toNat≤122))=false→jo0 s=false:=fun f h=>by
  rw[Bool.eq_false_iff]
  intro k
  unfold jo0 at k
  rw[Array.all_eq_true_iff_forall_mem] at k
  have m:i<s.data.size:=f
  have:=k (s.data.getD i 0) (by rw[Array.getD_eq_getD_getElem?,Array.getElem?_eq_getElem m];exact Array.getElem_mem m)
  rw[h] at this;cases this
 refine zh (fun a=>?_) (fun a=>?_)
 ·have f:i<s.size:=by omega
  rw[vindex_str XK (by omega) (by omega),Int.toNat_natCast]
  simp only[push_cast]
  refine zh (fun b=>?_) (fun b=>?_)
  ·rw[l f (by rw[decide_eq_false (show¬97≤(s.data.getD i 0).toNat by omega)];rfl),Bool.and_false] at d
   exact d
  rw[vindex_str XK (by omega) (by omega),Int.toNat_natCast]
  simp only[push_cast]
  refine zh (fun c=>?_) (fun c=>?_)
  ·rw[l f (by rw[decide_eq_false (show¬(s.data.getD i 0).toNat≤122 by omega)];simp),Bool.and_false] at d
   exact d
  rw[inc64' (by omega)]
  refine o f _ _ ⟨rfl,rfl,fun j n=>?_⟩
  by_cases e:j=i
  ·subst e
   simp only[Bool.and_eq_true,decide_eq_true_eq];omega
  ·exact g j (by omega)
 ·have p:i=s.size:=by omega
  have k:jo0 s=true:=by
   unfold jo0
   rw[Array.all_eq_true_iff_forall_mem]
   intro x q
   obtain⟨j,n,rfl⟩:=Array.getElem_of_mem q
   have:=g j (by have:s.data.size=s.size:=rfl;omega)
   rwa[Array.getD_eq_getD_getElem?,Array.getElem?_eq_getElem n] at this
  rw[k,Bool.and_true] at d
  try simp(disch:=first|(simp only[push_cast];done)|omega) only[push_cast,q50 XK]
  refine zh (fun b=>?_) (fun b=>?_)
  ·refine zh (fun c=>?_) (fun c=>?_)
   ·rw[decide_eq_true (show 1≤s.size by omega),decide_eq_true (show s.size≤4 by omega)] at d
    exact d
   ·rw[decide_eq_false (show¬s.size≤4 by omega)] at d
    simpa using d
  ·rw[decide_eq_false (show¬1≤s.size by omega)] at d
   simpa using d
theorem l2Find_spec {v:Value} {ds:List M.Dcl} {s:ByteArray} (f:DclsR F w v ds) (d:K (.int .i64 (M.findD ds s)) w):vcall PP kq #[v,.string s] w K:=by
 apply qR0
 have k:=f.small
 refine vloop_up ds.length (fun i u w'=>u=[.int .i64 i]∧w'=w∧∀j,j<i→(ds.getD j UM).1≠s) ⟨rfl,rfl,by omega⟩ ?_
 rintro i _ _ l C hi ⟨rfl,rfl,c⟩ g
 simp(disch:=(simp only[push_cast];done)) only[push_cast,f.len]
 refine zh (fun a=>?_) (fun a=>?_)
 ·try simp(disch:=first|(simp only[push_cast];done)|omega) only[push_cast,f.iaddr]
  try simp(disch:=first|(simp only[push_cast];done)|omega) only[push_cast,f.load0]
  refine zh (fun b=>?_) (fun b=>?_)
  ·rw[M.findD_of (by omega) b c] at d
   exact d
  ·rw[inc64' (by omega)]
   refine g (by omega) _ _ ⟨rfl,rfl,fun j h=>?_⟩
   by_cases e:j=i
   ·subst e;exact b
   ·exact c j (by omega)
 ·rw[M.findD_none (fun j h=>c j (by omega))] at d
  exact d
theorem spec_DeclOk_spec {v:Value} {ds:List M.Dcl} (G:DclsR F w v ds) (E:∀i,i<ds.length→(ds.getD i UM).1.size≤9223372036854775807) (B:∀w',Ext w w'→K (.bool (M.declOk ds)) w'):vcall PP Qv #[v] w K:=by
 apply qV0
 simp(disch:=(simp only[push_cast];done)) only[push_cast,G.len]
 refine zh (fun a=>?_) (fun a=>?_)
 ·have:=B w (Same.refl _ _)
  rwa[show M.declOk ds=false from by rw[Bool.eq_false_iff];intro h;have:=(M.decl_iff.1 h).1;omega] at this
 refine vloop_up ds.length (fun i u w'=>u=[.int .i64 (M.bitT ds i),.int .i64 i]∧Ext w w'∧(∀j,j<i→M.dclOk ds j=true)∧ -4*(i:Int)≤M.bitT ds i∧M.bitT ds i≤4*i) ⟨rfl,Same.refl _ _,by omega,by simp[M.bitT],by simp[M.bitT]⟩ ?_
 rintro i _ _ O C hi ⟨rfl,p,m,L,N⟩ J
 have r:=G.ext p
 simp(disch:=(simp only[push_cast];done)) only[push_cast,r.len]
 refine zh (fun b=>?_) (fun b=>?_)
 ·have g:i<ds.length:=by omega
  have f:M.dclOk ds i=false→∀w',Ext w w'→K (.bool false) w':=fun e w' he=>by
   have:=B w' he
   rwa[show M.declOk ds=false from by rw[Bool.eq_false_iff];intro h;have:=(M.decl_iff.1 h).2.1 i g;rw[e] at this;cases this] at this
  unfold M.dclOk at f
  refine zr fun z t _=>?_
  have d:=r.ext t
  have k:=p.trans t
  simp(disch:=first|(simp only[push_cast];done)|omega) only[push_cast,d.iaddr,true_and]
  simp(disch:=first|(simp only[push_cast];done)|omega) only[push_cast,d.load0,d.load1,true_and]
  have y:=E i g
  have o:=M.bitT_succ g
  obtain⟨s,n,l⟩:∃s n,ds.getD i UM=(s,n):=⟨_,_,rfl⟩
  rw[show ds.getD i (M.nada,0)=(s,n) from l] at o
  simp only[l] at f y⊢
  refine l2Name_spec y ?_
  simp only[push_cast,true_and]
  refine y3 (fun c=>?_) (fun c=>?_)
  ·exact f (by rw[show M.nameOk s=false by simpa using c];simp) _ k
  rw[Bool.not_eq_false'] at c
  rw[c] at f
  have ecut:∀(w:World) (K:Value→World→Prop),yC PP zw v none (some (.int .i64 (i:Int))) none w K=K (cutV v i) w:=fun w K=>d.cut (by intro e;subst e;simp at g) (by kernel_rfl) (by omega)
  have A:∀(K:Value→World→Prop),ze PP zM (.pointer (some ((eaddr v 2 i).add 0))) z K=K (.string s) z:=fun K=>by rw[d.load0 Xq0 g,l]
  have q:∀(K:Value→World→Prop),ze PP zd (.pointer (some ((eaddr v 2 i).add 1))) z K=K (.int .i64 n) z:=fun K=>by rw[d.load1 ks0 g,l]
  try simp(disch:=first|(simp only[push_cast];done)|omega) only[push_cast,d.iaddr,true_and]
  try simp(disch:=first|(simp only[push_cast];done)|omega) only[push_cast,d.iaddr,A,q,ecut,true_and]
  refine zh (fun H=>?_) (fun H=>?_)
  ·exact f (by rw[decide_eq_false (show¬1≤n by omega)];simp) _ k
  refine zh (fun I=>?_) (fun I=>?_)
  ·exact f (by rw[decide_eq_false (show¬n≤4 by omega)];simp) _ k
  refine l2Find_spec (d.taken (by omega)) ?_
  simp only[push_cast,true_and]
  refine zh (fun c3=>?_) (fun c3=>?_)
  ·exact f (by rw[decide_eq_false (show¬M.findD (ds.take i) s<0 by omega)];simp) _ k
  try simp(disch:=first|(simp only[push_cast];done)|omega) only[push_cast,d.iaddr]
  try simp(disch:=first|(simp only[push_cast];done)|omega) only[push_cast,q]
  rw[zE (x:=M.bitT ds i+n) (by omega) (by omega),inc64' (by omega),show M.bitT ds i+n=M.bitT ds (i+1) from o.symm]
  refine J (by omega) _ _ ⟨rfl,k,fun j P=>?_,by omega,by omega⟩
  by_cases e:j=i
  ·subst e
   unfold M.dclOk
   rw[show ds.getD j (M.nada,0)=(s,n) from l,c]
   simp only[Bool.true_and,Bool.and_eq_true,decide_eq_true_eq]
   exact⟨⟨by omega,by omega⟩,by omega⟩
  ·exact m j (by omega)
 ·have D:i=ds.length:=by omega
  subst D
  have:=B O p
  rw[M.bitT_all]
  have e:M.declOk ds=decide (M.bits ds≤8):=by
   rw[Bool.eq_iff_iff,M.decl_iff,decide_eq_true_eq]
   exact⟨fun h=>h.2.2,fun h=>⟨by omega,m,h⟩⟩
  rwa[e] at this
theorem spec_TermMany_spec:∀(t:M.Tm) {w:World} {K:Value→World→Prop} {F:Nat→Prop} {v:Value},TermR F w v t→(∀w',Ext w w'→K (.tuple #[.int .i64 (M.manyM t),.int .i64 (M.lvlM t)]) w')→vcall PP ku #[v] w K:=by
 refine M.Tm.ind fun t ih w K F v ht R=>?_
 apply yG0
 obtain⟨ksv,rfl,y⟩:=ht
 refine zy fun b1 w1 S D a1 P=>?_
 have a2:=y.small
 have hS:=M.szT_all t
 have hD:=M.dpT_all t
 have k:M.fits t=true↔M.sizeM t≤20∧M.deepM t≤7:=M.fits_iff
 refine vloop_up t.ks.length (fun i u w'=> ∃n d:Nat,u=[.int .i64 n,.int .i64 d,.int .i64 i]∧Ext w1 w'∧n≤41∧d≤8∧(1+M.szT t.ks i≤20∧M.dpT t.ks i≤7→n=1+M.szT t.ks i∧d=M.dpT t.ks i)∧(¬(1+M.szT t.ks i≤20∧M.dpT t.ks i≤7)→20<n∨7<d))
  ⟨1,0,rfl,Same.refl _ _,by omega,by omega,fun h=>⟨rfl,rfl⟩,fun h=>by
   have J:M.szT t.ks 0=0:=rfl
   have e2:M.dpT t.ks 0=0:=rfl
   omega⟩ ?_
 rintro i _ _ z C hi ⟨n,d,rfl,o,c1,c2,c3,I⟩ Q
 have L:=P.ext o
 have N:=D.trans o
 have l:=y.ext N
 have V:=M.szT_mono (ks:=t.ks) (i:=i) (j:=t.ks.length) (by omega) (Nat.le_refl _)
 have W:=M.dpT_mono (ks:=t.ks) (i:=i) (j:=t.ks.length) (by omega) (Nat.le_refl _)
 have J:IntKind.i64.wrap ((d:Int)+1)=((d+1:Nat):Int):=inc64' (by omega)
 have m:(20<n∨i=t.ks.length)→∀q,(q=K)→vif (.bool (decide ((20:Int)<n))) (q (.tuple #[.int .i64 21,.int .i64 8]) z) (vif (.bool (decide ((7:Int)<((d+1:Nat):Int)))) (q (.tuple #[.int .i64 21,.int .i64 8]) z) (q (.tuple #[.int .i64 (n:Int),.int .i64 ((d+1:Nat):Int)]) z)):=by
  rintro a0 q rfl
  have p:=R z N
  unfold M.manyM M.lvlM at p
  have c:(20<n∨7<d+1)→¬(M.fits t=true):=fun h T=>by
   have O:=k.1 T
   have:=c3 (by omega)
   omega
  refine zh (fun a=>?_) (fun a=>?_)
  ·rw[if_neg (c (by omega)),if_neg (c (by omega))] at p
   exact p
  refine zh (fun b=>?_) (fun b=>?_)
  ·rw[if_neg (c (by omega)),if_neg (c (by omega))] at p
   exact p
  ·have G:i=t.ks.length:=by omega
   subst G
   have r:M.sizeM t≤20∧M.deepM t≤7:=by
    by_cases h:1+M.szT t.ks t.ks.length≤20∧M.dpT t.ks t.ks.length≤7
    ·have:=c3 h;omega
    ·have:=I h;omega
   have h3:=c3 (by omega)
   rw[if_pos (k.2 r),if_pos (k.2 r)] at p
   rw[show n=M.sizeM t by omega,show d+1=M.deepM t by omega]
   exact p
 refine zI (fun u w'=>u=[]∧w'=z∧i<t.ks.length∧n≤20) (fun C' A=>?_) ?_
 ·simp(disch:=(simp only[push_cast];done)) only[push_cast,L.ld4,l.len,J]
  refine zh (fun a=>?_) (fun a=>?_)
  ·refine zh (fun b=>?_) (fun b=>?_)
   ·exact A _ _ ⟨rfl,rfl,by omega,by omega⟩
   ·exact m (.inl (by omega)) K rfl
  ·exact m (.inr (by omega)) K rfl
 ·rintro u g w3 ⟨rfl,rfl,U,hn⟩
  have X:=M.szT_succ (ks:=t.ks) (i:=i) (by omega)
  have Y:=M.dpT_succ (ks:=t.ks) (i:=i) (by omega)
  have Z:=M.szT_mono (ks:=t.ks) (i:=i+1) (j:=t.ks.length) (by omega) (Nat.le_refl _)
  simp(disch:=first|(simp only[push_cast];done)|omega) only[push_cast,L.ld4,l.iaddr]
  refine l.load zu (by omega) fun x O=>?_
  refine ih _ (M.getD_mem (by omega) _) O fun w4 E=>?_
  have f:=M.fits_iff (t:=t.ks.getD i default)
  have H:M.manyM (t.ks.getD i default)≤21:=by
   unfold M.manyM
   split
   ·have:=f.1 (by assumption);omega
   ·omega
  have B:M.lvlM (t.ks.getD i default)≤8:=by
   unfold M.lvlM
   split
   ·have:=f.1 (by assumption);omega
   ·omega
  have e:M.sizeM (t.ks.getD i default)≤20∧M.deepM (t.ks.getD i default)≤7→M.manyM (t.ks.getD i default)=M.sizeM (t.ks.getD i default)∧M.lvlM (t.ks.getD i default)=M.deepM (t.ks.getD i default):=fun h=>by
   unfold M.manyM M.lvlM
   rw[if_pos (f.2 h),if_pos (f.2 h)]
   exact⟨rfl,rfl⟩
  have c: ¬(M.sizeM (t.ks.getD i default)≤20∧M.deepM (t.ks.getD i default)≤7)→M.manyM (t.ks.getD i default)=21∧M.lvlM (t.ks.getD i default)=8:=fun h=>by
   unfold M.manyM M.lvlM
   rw[if_neg (fun x=>h (f.1 x)),if_neg (fun x=>h (f.1 x))]
   exact⟨rfl,rfl⟩
  generalize M.manyM (t.ks.getD i default)=nk at H e c⊢
  generalize M.lvlM (t.ks.getD i default)=dk at B e c⊢
  simp only[push_cast]
  refine l1Max_spec ?_
  try simp only[push_cast]
  rw[inc64' (by omega),zE (x:=(n:Int)+nk) (by omega) (by omega),show(n:Int)+(nk:Int)=((n+nk:Nat):Int) by omega,show max (d:Int) (dk:Int)=((max d dk:Nat):Int) by omega]
  refine Q (by omega) _ _ ⟨n+nk,max d dk,rfl,o.trans E,by omega,by omega,fun h=>?_,fun h=>?_⟩
  ·have:=c3 (by omega)
   have:=e (by omega)
   omega
  ·by_cases r:M.sizeM (t.ks.getD i default)≤20∧M.deepM (t.ks.getD i default)≤7
   ·have h5:=e r
    by_cases s:1+M.szT t.ks i≤20∧M.dpT t.ks i≤7
    ·have:=c3 s;omega
    ·have:=I s;omega
   ·have:=c r;omega
end Go.Proofs.YtaekfnbnhjgboaaGreatDoor
end
section
namespace Go.Proofs.YtaekfnbnhjgboaaGreatDoor
open Go Go.Vc Go.Proofs
variable {w:World} {K:Value→World→Prop} {F G:Nat→Prop}
theorem l2Arity_spec {o:Int} (h:K (.int .i64 (M.arity o)) w):vcall PP Xx #[.int .i64 o] w K:=by
 apply xq0
 have f:∀c,M.arity o=c→K (.int .i64 c) w:=fun c e=>e▸h
 refine zI (fun u w'=>u=[.bool (decide (o=20∨o=21∨o=24))]∧w'=w) (fun C d=>?_) ?_
 ·simp only[push_cast]
  refine zh (fun a=>?_) (fun a=>?_)
  ·exact d _ _ ⟨by rw[decide_eq_true a,decide_eq_true (.inl a)],rfl⟩
  refine zh (fun b=>?_) (fun b=>?_)
  ·exact d _ _ ⟨by rw[decide_eq_true b,decide_eq_true (.inr (.inl b))],rfl⟩
  ·refine d _ _ ⟨?_,rfl⟩
   by_cases c:o=24
   ·rw[decide_eq_true c,decide_eq_true (.inr (.inr c))]
   ·rw[decide_eq_false c,decide_eq_false (by omega)]
 ·rintro u g i ⟨rfl,rfl⟩
  simp only[push_cast]
  repeat' first
   |exact f _ (by
    unfold M.arity;repeat' split
    all_goals omega)
   |refine zh (fun _=>?_) (fun _=>?_)
theorem jr0 {v:Value} {t:M.Tm} (B:TermR F w v t) (p:∀w',Ext w w'→K (.bool (M.formed t)) w'):vcall PP Xw #[v] w K:=by
 apply xn0
 obtain⟨ksv,rfl,o⟩:=B
 refine zy fun b1 y z j A l=>?_
 have q:=p _ j
 have f:M.plainM t=false→K (.bool false) y:=fun h=>by
  unfold M.formed at q
  rwa[h,Bool.and_false] at q
 unfold M.plainM at f
 refine zI (fun u w'=>u=[]∧w'=y∧(decide (t.op=21)||decide (t.s=M.nada))=true) (fun C m=>?_) ?_
 ·simp(disch:=(simp only[push_cast];done)) only[push_cast,l.ld0,l.ld3]
  refine zh (fun a=>?_) (fun a=>?_)
  ·refine zh (fun b=>?_) (fun b=>?_)
   ·exact f (by rw[decide_eq_false a,show decide (t.s=M.nada)=false from decide_eq_false b];simp)
   ·exact m _ _ ⟨rfl,rfl,by rw[show decide (t.s=M.nada)=true from decide_eq_true (Classical.not_not.1 b)];simp⟩
  ·exact m _ _ ⟨rfl,rfl,by rw[decide_eq_true (Classical.not_not.1 a)];simp⟩
 rintro u g D ⟨rfl,rfl,r⟩
 rw[r,Bool.and_true] at f
 refine zI (fun u w'=>u=[]∧w'=D∧(decide (t.op=20)||decide (t.op=22)||(decide (t.a=0)&&decide (t.b=0)))=true) (fun C m=>?_) ?_
 ·simp(disch:=(simp only[push_cast];done)) only[push_cast,l.ld0,l.ld1,l.ld2]
  refine zh (fun a=>?_) (fun a=>?_)
  ·refine zh (fun b=>?_) (fun b=>?_)
   ·refine zh (fun c=>?_) (fun c=>?_)
    ·exact f (by rw[decide_eq_false a,decide_eq_false b,decide_eq_false c];simp)
    refine zh (fun d=>?_) (fun d=>?_)
    ·exact f (by rw[decide_eq_false a,decide_eq_false b,decide_eq_false d];simp)
    ·exact m _ _ ⟨rfl,rfl,by rw[decide_eq_true (Classical.not_not.1 c),decide_eq_true (Classical.not_not.1 d)];simp⟩
   ·exact m _ _ ⟨rfl,rfl,by rw[decide_eq_true (Classical.not_not.1 b)];simp⟩
  ·exact m _ _ ⟨rfl,rfl,by rw[decide_eq_true (Classical.not_not.1 a)];simp⟩
 rintro u g E ⟨rfl,rfl,hm⟩
 refine zr fun G k _=>?_
 have n:=l.ext k
 have i:=o.ext (j.trans k)
 simp(disch:=(simp only[push_cast];done)) only[push_cast,n.ld0,n.ld4,i.len,true_and]
 refine l2Arity_spec ?_
 simp(disch:=(simp only[push_cast];done)) only[push_cast,n.ld4,i.len,true_and,and_self]
 have:=p _ (j.trans k)
 have e:M.formed t=decide ((t.ks.length:Int)=M.arity t.op):=by
  unfold M.formed M.plainM
  rw[hm,r]
  simp only[Bool.and_true]
  by_cases h:M.arity t.op=t.ks.length
  ·rw[decide_eq_true h,decide_eq_true h.symm]
  ·rw[decide_eq_false h,decide_eq_false (fun x=>h x.symm)]
 rwa[e] at this
theorem l2One_spec {v:Value} {t:M.Tm} {a:Int} (r:TermR F w v t) (z: -1≤a∧a≤4) (n:∀w',Ext w w'→K (.int .i64 (M.oneM t a)) w'):vcall PP Jf #[v,.int .i64 a] w K:=by
 apply jO0
 obtain⟨ksv,rfl,p⟩:=r
 refine zy fun b1 m o l q j=>?_
 have k:∀c,M.oneM t a=c→K (.int .i64 c) m:=fun c e=>e▸n _ l
 unfold M.oneM at k
 refine zI (fun u w'=>u=[.bool (decide (t.op=25∧a=0))]∧w'=m) (fun C i=>?_) ?_
 ·simp(disch:=(simp only[push_cast];done)) only[push_cast,j.ld0]
  refine zh (fun b=>?_) (fun b=>?_)
  ·refine i _ _ ⟨?_,rfl⟩
   simp only[b,true_and]
  ·exact i _ _ ⟨by rw[decide_eq_false (fun h=>b h.1)],rfl⟩
 rintro u g s ⟨rfl,rfl⟩
 simp only[push_cast]
 refine zh (fun b=>?_) (fun b=>?_)
 ·exact k _ (by rw[if_pos b.1,if_pos b.2])
 refine zI (fun u w'=>u=[.bool (decide (t.op=25∨a<1))]∧w'=s) (fun C i=>?_) ?_
 ·simp(disch:=(simp only[push_cast];done)) only[push_cast,j.ld0]
  refine zh (fun c=>?_) (fun c=>?_)
  ·exact i _ _ ⟨by rw[decide_eq_true (.inl c)],rfl⟩
  ·refine i _ _ ⟨?_,rfl⟩
   simp only[c,false_or]
 rintro u g y ⟨rfl,rfl⟩
 simp only[push_cast]
 refine zh (fun c=>?_) (fun c=>?_)
 ·exact k _ (by
   repeat' split
   all_goals omega)
 simp(disch:=(simp only[push_cast];done)) only[push_cast,j.ld0]
 refine zh (fun d=>?_) (fun d=>?_)
 ·refine zI (fun u w'=>u=[.bool (decide (0≤t.b∧t.b≤t.a∧t.a<a))]∧w'=y) (fun C i=>?_) ?_
  ·simp(disch:=(simp only[push_cast];done)) only[push_cast,j.ld1,j.ld2]
   refine zh (fun e=>?_) (fun e=>?_)
   ·refine zh (fun f=>?_) (fun f=>?_)
    ·refine i _ _ ⟨?_,rfl⟩
     simp only[e,f,true_and]
    ·exact i _ _ ⟨by rw[decide_eq_false (fun h=>f h.2.1)],rfl⟩
   ·exact i _ _ ⟨by rw[decide_eq_false (fun h=>e h.1)],rfl⟩
  rintro u g A ⟨rfl,rfl⟩
  simp only[push_cast]
  refine zh (fun e=>?_) (fun e=>?_)
  ·simp(disch:=(simp only[push_cast];done)) only[push_cast,j.ld1,j.ld2]
   rw[zE (x:=t.a-t.b) (by omega) (by omega),zE (by omega) (by omega)]
   exact k _ (by rw[if_neg (by omega),if_neg (by omega),if_pos d,if_pos e])
  ·exact k _ (by rw[if_neg (by omega),if_neg (by omega),if_pos d,if_neg e])
 ·exact k _ (by rw[if_neg (by omega),if_neg (by omega),if_neg d])
theorem l2Both_spec {o a b:Int} (m: -1≤a∧a≤4) (k: -1≤b∧b≤4) (j:K (.int .i64 (M.bothM o a b)) w):vcall PP Qs #[.int .i64 o,.int .i64 a,.int .i64 b] w K:=by
 apply qS0
 have h:∀c,M.bothM o a b=c→K (.int .i64 c) w:=fun c e=>e▸j
 unfold M.bothM at h
 refine zI (fun u w'=>u=[.bool (decide (o=26∨o=27))]∧w'=w) (fun C f=>?_) ?_
 ·simp only[push_cast]
  refine zh (fun c=>?_) (fun c=>?_)
  ·exact f _ _ ⟨by rw[decide_eq_true (.inl c)],rfl⟩
  ·refine f _ _ ⟨?_,rfl⟩
   simp only[c,false_or]
 rintro u g l ⟨rfl,rfl⟩
 simp only[push_cast]
 refine zh (fun c=>?_) (fun c=>?_)
 ·repeat' first
   |exact h _ (by
    repeat' split
    all_goals omega)
   |refine zh (fun _=>?_) (fun _=>?_)
 refine zI (fun u w'=>u=[.bool (decide (a<1∨b<1))]∧w'=l) (fun C f=>?_) ?_
 ·try simp only[push_cast]
  refine zh (fun d=>?_) (fun d=>?_)
  ·exact f _ _ ⟨by rw[decide_eq_true (.inl d)],rfl⟩
  ·refine f _ _ ⟨?_,rfl⟩
   simp only[d,false_or]
 rintro u g n ⟨rfl,rfl⟩
 have i:IntKind.i64.wrap (a+b)=a+b:=zE (by omega) (by omega)
 simp only[push_cast,i]
 repeat' first
  |exact h _ (by
   repeat' split
   all_goals omega)
  |refine zh (fun _=>?_) (fun _=>?_)
theorem l2Sort_spec:∀(t:M.Tm) {w:World} {K:Value→World→Prop} {F G:Nat→Prop} {dv v:Value} {ds:List M.Dcl},DclsR F w dv ds→M.declOk ds=true→TermR G w v t→(∀w',Ext w w'→K (.int .i64 (M.sortM ds t)) w')→vcall PP qF #[dv,v] w K:=by
 refine M.Tm.ind fun t T w K F G dv v ds O f Z V=>?_
 apply qO0
 obtain⟨ksv,rfl,u⟩:=Z
 refine zy fun b1 w1 W E Y U=>?_
 have m:∀c w',M.sortM ds t=c→Ext w w'→K (.int .i64 c) w':=fun c w' e he=>e▸V _ he
 rw[U.ldAgg (t:=z7) zu]
 refine jr0 (F:=G) (t:=t) ⟨ksv,rfl,u.ext E⟩ fun w2 H=>?_
 have o:=E.trans H
 have y:=U.ext H
 simp only[push_cast]
 refine y3 (fun a=>?_) (fun a=>?_)
 ·exact m _ _ (M.sort_bad (by rw[Bool.not_eq_true];simpa using a)) o
 have A:M.formed t=true:=by simpa using a
 have j:=(M.formed_iff.1 A).1
 have q:=O.ext o
 simp(disch:=(simp only[push_cast];done)) only[push_cast,y.ld0]
 refine zh (fun d=>?_) (fun d=>?_)
 ·have J:t.ks.length=0:=by rw[d] at j;simp[M.arity] at j;omega
  have hs:=M.sort_leaf (ds:=ds) A J
  simp(disch:=(simp only[push_cast];done)) only[push_cast,y.ld1,y.ld2]
  refine spec_VecOk_spec fun w3 k=>?_
  have C:=y.ext k
  refine y3 (fun b=>?_) (fun b=>?_)
  ·simp(disch:=(simp only[push_cast];done)) only[push_cast,C.ld1]
   exact m _ _ (by rw[hs];unfold M.sortK;rw[if_pos d,if_pos b]) (o.trans k)
  ·exact m _ _ (by rw[hs];unfold M.sortK;rw[if_pos d,b];rfl) (o.trans k)
 refine zh (fun l=>?_) (fun l=>?_)
 ·have J:t.ks.length=0:=by rw[l] at j;simp[M.arity] at j;omega
  have hs:=M.sort_leaf (ds:=ds) A J
  have X:=M.findD_lt ds t.s
  simp(disch:=(simp only[push_cast];done)) only[push_cast,y.ld3]
  refine l2Find_spec q ?_
  try simp only[push_cast]
  refine zh (fun b=>?_) (fun b=>?_)
  ·exact m _ _ (by rw[hs];unfold M.sortK;rw[if_neg d,if_pos l,if_pos b]) o
  ·try simp(disch:=first|(simp only[push_cast];done)|omega) only[push_cast,q.iaddr]
   try simp(disch:=first|(simp only[push_cast];done)|omega) only[push_cast,q.load1]
   exact m _ _ (by rw[hs];unfold M.sortK;rw[if_neg d,if_pos l,if_neg b]) o
 refine zh (fun D=>?_) (fun D=>?_)
 ·have J:t.ks.length=0:=by rw[D] at j;simp[M.arity] at j;omega
  have hs:=M.sort_leaf (ds:=ds) A J
  exact m _ _ (by rw[hs];unfold M.sortK;rw[if_neg d,if_neg l,if_pos (by omega)];rfl) o
 have hlen:t.ks.length=1∨t.ks.length=2∨t.ks.length=3:=by
  have h0:M.arity t.op≠0:=fun h=>by have:=M.arity_zero h;omega
  have N:M.arity t.op≤3:=by
   unfold M.arity
   repeat' split
   all_goals omega
  omega
 have x:=u.ext o
 simp(disch:=first|(simp only[push_cast];done)|omega) only[push_cast,y.ld4,x.iaddr]
 refine x.load zu (by omega) fun x0 Q=>?_
 refine T (M.kid t 0) (M.kid_mem (by omega)) q f Q fun w3 k=>?_
 have C:=y.ext k
 have p:=o.trans k
 have g:=u.ext p
 have L:=M.sort_range f (M.kid t 0)
 simp(disch:=first|(simp only[push_cast];done)|omega) only[push_cast,C.ld4,g.len]
 refine zh (fun l1=>?_) (fun l1=>?_)
 ·rw[C.ldAgg (t:=z7) zu]
  refine l2One_spec (F:=G) (t:=t) ⟨ksv,rfl,g⟩ L fun w4 r=>?_
  exact m _ _ (M.sort_one f A (by omega)) (p.trans r)
 simp(disch:=first|(simp only[push_cast];done)|omega) only[push_cast,C.ld4,g.iaddr]
 refine g.load zu (by omega) fun x1 R=>?_
 refine T (M.kid t 1) (M.kid_mem (by omega)) (O.ext p) f R fun w4 r=>?_
 have N:=C.ext r
 have i:=p.trans r
 have n:=u.ext i
 have P:=M.sort_range f (M.kid t 1)
 simp(disch:=first|(simp only[push_cast];done)|omega) only[push_cast,N.ld4,N.ld0,n.len]
 refine zh (fun l2=>?_) (fun l2=>?_)
 ·refine l2Both_spec L P ?_
  exact m _ _ (M.sort_two f A (by omega)) i
 have B:=M.sort_three (ds:=ds) A (by omega)
 refine zh (fun z=>?_) (fun z=>?_)
 ·exact m _ _ (by rw[B,if_pos (.inl z)]) i
 simp(disch:=first|(simp only[push_cast];done)|omega) only[push_cast,N.ld4,n.iaddr]
 refine n.load zu (by omega) fun x2 S=>?_
 refine T (M.kid t 2) (M.kid_mem (by omega)) (O.ext i) f S fun w5 I=>?_
 simp only[push_cast]
 refine zh (fun z2=>?_) (fun z2=>?_)
 ·exact m _ _ (by rw[B,if_pos (.inr z2)]) (i.trans I)
 ·exact m _ _ (by rw[B,if_neg (fun h=>h.elim z z2)]) (i.trans I)
def XX0 (ds:List M.Dcl):Prop:=∀i,i<ds.length→(ds.getD i UM).1.size≤9223372036854775807
theorem spec_TermSort_spec {dv v:Value} {ds:List M.Dcl} {t:M.Tm} (o:XX0 ds) (q:DclsR F w dv ds) (x:TermR G w v t) (p:∀w',Ext w w'→K (.int .i64 (M.tsort ds t)) w'):vcall PP jc #[dv,v] w K:=by
 apply yF0
 obtain⟨cs,rfl,e⟩:=x.cells
 refine zy fun b1 A s g u l=>?_
 rw[l.ldAgg (t:=z7) (by rw[yp e];exact zu)]
 refine spec_TermMany_spec t (e.ext g).term fun B i=>?_
 simp only[push_cast]
 have f:=g.trans i
 refine spec_DeclOk_spec (q.ext f) o fun y j=>?_
 have d:=f.trans j
 have k:=p y d
 unfold M.tsort at k
 simp only[push_cast]
 refine y3 (fun a=>?_) (fun a=>?_)
 ·rwa[if_neg (fun h=>by rw[h.2] at a;cases a)] at k
 rw[Bool.not_eq_false'] at a
 refine zh (fun b=>?_) (fun b=>?_)
 ·rw[if_neg (fun h=>by
   have l:=M.fits_iff.1 h.1
   unfold M.manyM at b
   rw[if_pos h.1] at b;omega)] at k
  exact k
 have n:M.fits t=true:=by
  by_cases h:M.fits t=true
  ·exact h
  ·unfold M.manyM at b
   rw[if_neg h] at b;omega
 refine zh (fun c=>?_) (fun c=>?_)
 ·unfold M.lvlM at c
  rw[if_pos n] at c
  have:=M.fits_iff.1 n
  omega
 have r:=(l.ext i).ext j
 rw[r.ldAgg (t:=z7) (by rw[yp e];exact zu)]
 refine l2Sort_spec t (q.ext d) a (e.ext d).term fun z m=>?_
 have:=p z (d.trans m)
 unfold M.tsort at this
 rwa[if_pos ⟨n,a⟩] at this
end Go.Proofs.YtaekfnbnhjgboaaGreatDoor
end
section
namespace Go.Proofs.YtaekfnbnhjgboaaGreatDoor
open Go Go.Vc Go.Proofs
variable {w:World} {K:Value→World→Prop} {F Fr F':Nat→Prop}
def Bytes (F:Nat→Prop) (w:World) (v:Value) (xs:List Nat):Prop:=Vals F w v (xs.map fun x=>Value.int .u8 (x:Nat))∧∀x,x∈xs→x<256
theorem Bytes.same {S:Nat→Prop} {w':World} {v:Value} {xs:List Nat} (h:Bytes F w v xs) (hw:Same S w w') (hs:∀b,F b→b<w.heap.size→¬S b):Bytes F w' v xs:=⟨h.1.same hw hs,h.2⟩
theorem Bytes.ext {w':World} {v:Value} {xs:List Nat} (h:Bytes F w v xs) (hw:Ext w w'):Bytes F w' v xs:=⟨h.1.ext hw,h.2⟩
theorem Bytes.load {v:Value} {xs:List Nat} (h:Bytes F w v xs) {e:TypeId} (he:oneB PP e=true) {i:Nat} (hi:i<xs.length):ze PP e (.pointer (some (eaddr v 1 i))) w K=K (.int .u8 (xs.getD i 0:Nat)) w:=by
 rw[Vals.load h.1 he (by simpa using hi)]
 simp[List.getD_eq_getElem?_getD,hi]
theorem Bytes.len {w':World} {v:Value} {xs:List Nat} (h:Bytes F w v xs) {t:TypeId} (a:isSl PP t=true) (ty:TypeId):vbi PP .len [t] ty [v] w' K=K (.int .i64 xs.length) w':=by
 have:=Vals.len (K:=K) (w':=w') h.1 a ty;rwa[List.length_map] at this
theorem Bytes.iaddr {w':World} {v:Value} {xs:List Nat} (h:Bytes F w v xs) {t:TypeId} (c:elB PP t 1=true) {kd:IntKind} {i:Int} (a:0≤i) (b:i<xs.length):
  zm PP t v (.int kd i) w' K=K (.pointer (some (eaddr v 1 i.toNat))) w':=Vals.iaddr h.1 c a (by simpa using b)
structure RdR (F:Nat→Prop) (w:World) (b:Nat) (v:Value) (xs:List Nat) (p:Nat):Prop where
 blk:Blk w b [v,.int .i64 p] y9
 bytes:Bytes F w v xs
 apart: ¬F b
 few:xs.length≤2000
theorem RdR.same {S:Nat→Prop} {w':World} {b p:Nat} {v:Value} {xs:List Nat} (h:RdR F w b v xs p) (hw:Same S w w') (a: ¬S b) (hs:∀b,F b→b<w.heap.size→¬S b):RdR F w' b v xs p:=
 ⟨h.blk.same hw a,h.bytes.same hw hs,h.apart,h.few⟩
theorem RdR.ext {w':World} {b p:Nat} {v:Value} {xs:List Nat} (h:RdR F w b v xs p) (hw:Ext w w'):RdR F w' b v xs p:=h.same hw id fun _ _ _ h=>h
theorem l12Open_spec {v:Value} {xs:List Nat} (n:Bytes F w v xs) (hF:∀b,F b→b<w.heap.size)
  (C:∀w' b v' ys,Ext w w'→RdR F w' b v' ys 0→w.heap.size≤b→K (.pointer (some ⟨b,0,none⟩)) w'):vcall PP Xy #[v] w K:=by
 apply xr0
 simp(disch:=(simp only[push_cast];done)) only[push_cast,n.len]
 have fin:∀(v':Value) (ys:List Nat),Bytes F w v' ys→ys.length≤2000→zC PP y9 [(0,v')] w fun t9 f=>yo PP y9 t9 f fun t10 g=>K t10 g:=fun v' ys j E=>by
  refine Z50 k90 (us:=[[v']]) (by simp[j.1.cells1]) rfl ?_
  refine Zg fun b I M m H B=>?_
  exact C I b v' ys m ⟨B,j.ext m,fun h=>by have:=hF b h;omega,E⟩ (by omega)
 refine zh (fun a=>?_) (fun a=>fin v xs n (by omega))
 have k:yC PP y4 v none (some (.int .i64 (2000:Nat))) none w fun t7 r=>zC PP y9 [(0,t7)] r fun t9 f=>yo PP y9 t9 f fun t10 g=>K t10 g:=by
  obtain⟨a0,c0,rfl,D,q,d⟩:=n.1.shape
  rw[Sl.cut n.1 (fun a l c e=>?_) XR0 (by simp;omega)]
  ·refine fin _ (xs.take 2000) ⟨⟨⟨a0,c0,?_,?_,q,fun G=>?_⟩,fun y j=>?_⟩,fun y j=>n.2 y (List.mem_of_mem_take j)⟩ (by simp;omega)
   ·simp only[cutV,List.length_map,List.length_take]
    rw[Nat.min_eq_left (by omega)]
   ·simp at D⊢;omega
   ·obtain⟨b,o,p,t,z,A⟩:=d (fun e=>by simp at e;subst e;simp at a)
    refine⟨b,o,p,t,z,fun i hi=>?_⟩
    simp only[List.length_map,List.length_take] at hi
    have:=A i (by simp;omega)
    have e:(((xs.take 2000).map fun x=>Value.int .u8 (x:Nat)).map fun x=>[x]).getD i []=((xs.map fun x=>Value.int .u8 (x:Nat)).map fun x=>[x]).getD i []:=by
     simp only[List.getD_eq_getElem?_getD,List.getElem?_map,List.getElem?_take]
     rw[if_pos (by omega)]
    rw[e];exact this
   ·obtain⟨u,_,rfl⟩:=List.mem_map.1 j;rfl
  ·injection e with s J L
   obtain⟨b,o,p,_⟩:=d (fun e=>by simp at e;subst e;simp at a)
   exact⟨b,o,by rw[p] at s;exact(Option.some.inj s).symm⟩
 exact k
theorem pick_spec {b p:Nat} {v:Value} {xs:List Nat} {n:Int} (h:RdR F w b v xs p) (hn:n≤1099511627776) (hp:p<1099511627776)
  (C:∀w' (k:Nat),Same (· =b) w w'→w'.heap.size=w.heap.size→RdR F w' b v xs (p+1)→(1≤n→(k:Int)<n)→(n<1→k=0)→K (.int .i64 k) w'):vcall PP zB #[.pointer (some ⟨b,0,none⟩),.int .i64 n] w K:=by
 apply UN
 have T:=h.few
 simp(disch:=(simp only[push_cast];done)) only[push_cast,h.blk.ld1]
 have y:IntKind.i64.wrap ((p:Int)+1)=((p+1:Nat):Int):=by rw[zE (by omega) (by omega)];omega
 rw[y]
 refine h.blk.st rfl rfl km rfl fun B g l M=>?_
 have t:Blk B b [v,.int .i64 (p+1:Nat)] y9:=M
 have u:RdR F B b v xs (p+1):=⟨t,h.bytes.same g fun x q _ e=>h.apart (e▸q),h.apart,h.few⟩
 have q:=u.bytes
 refine zI (fun _ w'=>w'=B∧1≤n∧xs.length≠0) ?_ ?_
 ·intro J hJ
  refine zh (fun a=>?_) (fun a=>?_)
  ·exact C B 0 g l u (fun h=>by omega) fun _=>rfl
  ·simp(disch:=(simp only[push_cast];done)) only[push_cast,t.ld0,q.len]
   refine zh (fun a2=>?_) (fun a2=>?_)
   ·exact C B 0 g l u (fun h=>by omega) fun _=>rfl
   ·exact hJ _ _ ⟨rfl,by omega,by omega⟩
 rintro _ _ _ ⟨rfl,h1,a0⟩
 simp(disch:=(simp only[push_cast];done)) only[t.ld0,t.ld1,kC0,JD,yw0,xj,Nat.zero_add,Wi,q.len]
 rw[show((p+1:Nat):Int)-1=(p:Int) from by omega,zE (by omega) (by omega)]
 simp only[Xc0]
 have f:∀i,i<xs.length→xs.getD i 0<256:=fun i hi=>q.2 _ (by rw[List.getD_eq_getElem?_getD,List.getElem?_eq_getElem hi];exact List.getElem_mem hi)
 have o:∀x:Nat,((x:Int).tmod n)=((x%n.toNat:Nat):Int)∧((x%n.toNat:Nat):Int)<n:=fun x=>by
  obtain⟨m,rfl⟩:∃m:Nat,n=m:=⟨n.toNat,by omega⟩
  rw[Int.toNat_natCast]
  exact⟨rfl,by have:=Nat.mod_lt x (show 0<m by omega);omega⟩
 refine zh (fun a=>?_) (fun a=>?_)
 ·simp(disch:=first|(simp only[push_cast];done)|omega) only[t.ld0,q.iaddr,Int.toNat_natCast,q.load,j6 qc0 ym0]
  have hb:=f p (by omega)
  rw[zE (by omega) (by omega),YZ (by omega)]
  obtain⟨O,P⟩:=o (xs.getD p 0)
  rw[O]
  exact C _ _ g l u (fun _=>P) fun h=>by omega
 ·refine zr fun w2 j r=>?_
  have U:=t.ext j
  have s:=q.ext j
  have z:(xs.length:Int)≠0:=by omega
  have V:((p:Int).tmod xs.length)=((p%xs.length:Nat):Int):=by rw[Int.tmod_eq_emod_of_nonneg (by omega)];rfl
  have l1:p%xs.length<xs.length:=Nat.mod_lt _ (by omega)
  have W:IntKind.i64.wrap ((p:Int)*7)=((p*7:Nat):Int):=by rw[zE (by omega) (by omega)];omega
  have Y:IntKind.i64.wrap (((p*7:Nat):Int)+3)=((p*7+3:Nat):Int):=by rw[zE (by omega) (by omega)];omega
  have Z:(((p*7+3:Nat):Int).tmod xs.length)=(((p*7+3)%xs.length:Nat):Int):=by rw[Int.tmod_eq_emod_of_nonneg (by omega)];rfl
  have l2:(p*7+3)%xs.length<xs.length:=Nat.mod_lt _ (by omega)
  have b1:=f _ l1
  have b2:=f _ l2
  generalize N:xs.getD (p%xs.length) 0=c at b1
  generalize A:xs.getD ((p*7+3)%xs.length) 0=d at b2
  have e5:IntKind.i64.wrap ((c:Nat):Int)=((c:Nat):Int):=zE (by omega) (by omega)
  have e6:IntKind.i64.wrap ((d:Nat):Int)=((d:Nat):Int):=zE (by omega) (by omega)
  have e7:IntKind.i64.wrap (((c:Nat):Int)*131)=((c*131:Nat):Int):=by rw[zE (by omega) (by omega)];omega
  have e8:IntKind.i64.wrap (((d:Nat):Int)*1117)=((d*1117:Nat):Int):=by rw[zE (by omega) (by omega)];omega
  have e9:IntKind.i64.wrap (((c*131:Nat):Int)+((d*1117:Nat):Int))=((c*131+d*1117:Nat):Int):=by rw[zE (by omega) (by omega)];omega
  have D:IntKind.i64.wrap ((p:Int)*29)=((p*29:Nat):Int):=by rw[zE (by omega) (by omega)];omega
  have E:IntKind.i64.wrap (((c*131+d*1117:Nat):Int)+((p*29:Nat):Int))=((c*131+d*1117+p*29:Nat):Int):=by rw[zE (by omega) (by omega)];omega
  obtain⟨Q,R⟩:∃Q,Q=p/xs.length:=⟨_,rfl⟩
  have hq:Q≤p:=by rw[R];exact Nat.div_le_self _ _
  have G:IntKind.i64.wrap ((p:Int).tdiv xs.length)=((Q:Nat):Int):=by
   have:(p:Int).tdiv xs.length=(Q:Int):=by rw[R];rfl
   rw[this];exact zE (by omega) (by omega)
  have H:IntKind.i64.wrap (((Q:Nat):Int)*53)=((Q*53:Nat):Int):=by rw[zE (by omega) (by omega)];omega
  have I:IntKind.i64.wrap (((c*131+d*1117+p*29:Nat):Int)+((Q*53:Nat):Int))=((c*131+d*1117+p*29+Q*53:Nat):Int):=by rw[zE (by omega) (by omega)];omega
  simp(disch:=first|(simp only[push_cast];done)|omega) only[U.ld0,kC0,JD,xj,Nat.zero_add,true_and,s.len,YZ z,zW0 z,kH0,kI0,V,W,Y,Z,G,s.iaddr,Int.toNat_natCast,s.load,N,A,j6 qc0 ym0,e5,e6,e7,e8,e9,D,E,H,I]
  have S:c*131+d*1117+p*29+Q*53<9223372036854775808:=by omega
  generalize c*131+d*1117+p*29+Q*53=X at S⊢
  have L:IntKind.i64.wrap ((X:Int).tdiv 64)=((X/64:Nat):Int):=by
   have:(X:Int).tdiv 64=((X/64:Nat):Int):=rfl
   rw[this];exact zE (by omega) (by omega)
  rw[zW0 (by omega),L,Z60 S (by omega),YZ (by omega)]
  obtain⟨O,P⟩:=o (X^^^X/64)
  rw[O]
  exact C _ _ (g.trans (Same.of_ext j)) (by rw[r];exact l) (u.ext j) (fun _=>P) fun h=>by omega
theorem num_spec {b p:Nat} {v vs:Value} {xs:List Nat} {ns:List Int} (h:RdR F w b v xs p) (g:Ints F' w vs ns) (d:ns≠[]) (o:ns.length≤1000) (n:p<1099511627776) (c:∀x,F' x→x≠b)
  (j:∀w' m,Same (· =b) w w'→w'.heap.size=w.heap.size→RdR F w' b v xs (p+1)→m∈ns→K (.int .i64 m) w'):vcall PP yB #[.pointer (some ⟨b,0,none⟩),vs] w K:=by
 apply zO0
 have f:=List.length_pos_iff.2 d
 simp(disch:=(simp only[push_cast];done)) only[push_cast,g.len]
 refine pick_spec h (by omega) n fun s k hs r l i _=>?_
 have t:=i (by omega)
 have a:=g.same hs fun x q _ e=>c x q e
 simp(disch:=first|(simp only[push_cast];done)|omega) only[push_cast,a.iaddr,a.load]
 exact j s _ hs r l (M.getD_mem (by omega) _)
end Go.Proofs.YtaekfnbnhjgboaaGreatDoor
end
