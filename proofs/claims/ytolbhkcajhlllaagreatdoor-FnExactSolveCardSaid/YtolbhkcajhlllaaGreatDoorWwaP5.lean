import Derived.Test.YtolbhkcajhlllaaGreatDoorWwaP4
import Derived.Ground.NamesProg
import Derived.Ground.SlsfProg
import Derived.Shelf.SlSortCmp.Whole1
import Derived.Shelf.Strings.OnBuilder
import Derived.Shelf.Strings.SlTrimAscii
import Derived.Shelf.SlGeneric
/- A part of the proof. -/
set_option linter.all false
set_option maxRecDepth 9999
set_option maxHeartbeats 2000000
noncomputable section
namespace Go.Proofs.YtolbhkcajhlllaaGreatDoor
open Go Go.Vc Go.Proofs
section
variable {w:World} {K:oK} {F G:Nat->Prop}
theorem unKind_value_spec {s:ByteArray} {n:Int} {ev tv kv:Value} {t:M.Tm} {xs:List (Int×Int)} (R:TermR F w tv t) (S:PairsR G w kv xs) (Z:xs.length=1)
  (I:∀w',Ext w w'->K (nI (M.vecUn t.op (xs.getD 0 (0,0)).1 (xs.getD 0 (0,0)).2).1.2) w'):vcall jQ #[KV s n,ev,tv,kv] w K:=by
 refine zg {cuts:=[(8194,[9])],trees:=[(1,(.st 0 (.st 1 (.st 2 (.st 3 (.st 4 (.alt 5 (.st 6 (.st 7 (.st 8 (.alt 9 (.alt 10 (.st 11 .nil) .no) .no)))) (.alt 9 (.alt 5 (.st 6 (.st 7 (.st 8 (.alt 10 (.st 11 .nil) .no)))) .no) .no))))))),[(0,[1,5,6,7,8,10,11]),(1,[5,6,7,8,10,11]),(2,[3,4,5,6,7,8,10,11]),(3,[4,5,6,7,8,10,11]),(4,[5,6,7,8,10,11]),(5,[6,7,8,10,11]),(6,[7,8,10,11]),(7,[10,11]),(8,[11]),(9,[10,11]),(10,[11])])]} Tryz.func356 ?_;obtain⟨ksv,rfl,N⟩:=R;refine zj λb1 w1 J m O Y=>?_;refine zj λb2 w2 L o Q B=>?_;have z:=m.trans o;have hz:=z.size;refine zq (λu w'=> ∃b wd,u=[oP b 0]/\Ext w w'/\Blk w' b [nI wd,nI (M.vecUn t.op (xs.getD 0 (0,0)).1 (xs.getD 0 (0,0)).2).1.2] zh) (λC x=>?_) ?_
 ·refine zd λV d _=>?_;have c:=z.trans d;have e:=S.ext c;have j:=B.ext d;have T:=c.size;simp(disch:=first|(simp only[push_cast])|omega) only[push_cast,j.ld0,e.iaddr,e.load,true_and,and_true];refine⟨?_,?_⟩
  ·refine VecUn_spec λw4 f=>?_;have U:=f.size;simp only[push_cast,true_and];refine zi zY λA W l a p k=>?_
   try simp only[push_cast,true_and,and_self]
   refine stVec k λX q _ E=>?_
   try simp only[push_cast,true_and,and_self]
   exact x _ _ ⟨_,_,rfl,Ext.then ((c.trans f).trans a) q λy v=>by subst v;omega,E⟩
  ·refine zi zY λA W l a p k=>?_;have D:=j.ext a;have i:=e.ext a;simp(disch:=first|(simp only[push_cast])|omega) only[push_cast,D.ld0,i.iaddr,i.load,true_and,and_self,and_true];refine VecUn_spec λX h=>?_;simp only[push_cast,true_and];refine stVec (k.ext h) λw7 r _ H=>?_
   try simp only[push_cast,true_and,and_self]
   exact x _ _ ⟨_,_,rfl,Ext.then ((c.trans a).trans h) r λy v=>by subst v;omega,H⟩
 ·rintro u g V ⟨b,wd,rfl,d,j⟩;simp only[push_cast,j.ld1];exact I _ d
theorem binKind_value_spec {s:ByteArray} {n:Int} {ev tv kv:Value} {t:M.Tm} {xs:List (Int×Int)} (R:TermR F w tv t) (S:PairsR G w kv xs) (Z:xs.length=2)
  (I:∀w',Ext w w'->K (nI (M.vecBin t.op (xs.getD 0 (0,0)).1 (xs.getD 0 (0,0)).2 (xs.getD 1 (0,0)).1 (xs.getD 1 (0,0)).2).1.2) w'):vcall jz #[KV s n,ev,tv,kv] w K:=by
 refine zg {cuts:=[(8194,[9])],trees:=[(1,(.st 0 (.st 1 (.st 2 (.st 3 (.st 4 (.st 5 (.st 6 (.st 7 (.alt 8 (.st 9 (.st 10 (.st 11 (.alt 12 (.alt 13 (.st 14 .nil) .no) .no)))) (.alt 12 (.alt 8 (.st 9 (.st 10 (.st 11 (.alt 13 (.st 14 .nil) .no)))) .no) .no)))))))))),[(0,[1,8,9,10,11,13,14]),(1,[8,9,10,11,13,14]),(2,[3,4,8,9,10,11,13,14]),(3,[4,8,9,10,11,13,14]),(4,[8,9,10,11,13,14]),(5,[6,7,8,9,10,11,13,14]),(6,[7,8,9,10,11,13,14]),(7,[8,9,10,11,13,14]),(8,[9,10,11,13,14]),(9,[10,11,13,14]),(10,[13,14]),(11,[14]),(12,[13,14]),(13,[14])])]} Tryz.func396 ?_;obtain⟨ksv,rfl,N⟩:=R;refine zj λb1 w1 J m O Y=>?_;refine zj λb2 w2 L o Q B=>?_;have z:=m.trans o;have hz:=z.size;refine zq (λu w'=> ∃b wd,u=[oP b 0]/\Ext w w'/\Blk w' b [nI wd,nI (M.vecBin t.op (xs.getD 0 (0,0)).1 (xs.getD 0 (0,0)).2 (xs.getD 1 (0,0)).1 (xs.getD 1 (0,0)).2).1.2] zh) (λC x=>?_) ?_
 ·refine zd λV d _=>?_;have c:=z.trans d;have e:=S.ext c;have j:=B.ext d;have T:=c.size;simp(disch:=first|(simp only[push_cast])|omega) only[push_cast,j.ld0,e.iaddr,e.load,true_and,and_true];refine⟨?_,?_⟩
  ·refine VecBin_spec λw4 f=>?_;have U:=f.size;simp only[push_cast,true_and];refine zi zY λA W l a p k=>?_
   try simp only[push_cast,true_and,and_self]
   refine stVec k λX q _ E=>?_
   try simp only[push_cast,true_and,and_self]
   exact x _ _ ⟨_,_,rfl,Ext.then ((c.trans f).trans a) q λy v=>by subst v;omega,E⟩
  ·refine zi zY λA W l a p k=>?_;have D:=j.ext a;have i:=e.ext a;simp(disch:=first|(simp only[push_cast])|omega) only[push_cast,D.ld0,i.iaddr,i.load,true_and,and_self,and_true];refine VecBin_spec λX h=>?_;simp only[push_cast,true_and];refine stVec (k.ext h) λw7 r _ H=>?_
   try simp only[push_cast,true_and,and_self]
   exact x _ _ ⟨_,_,rfl,Ext.then ((c.trans a).trans h) r λy v=>by subst v;omega,H⟩
 ·rintro u g V ⟨b,wd,rfl,d,j⟩;simp only[push_cast,j.ld1];exact I _ d
theorem catKind_value_spec {s:ByteArray} {n:Int} {ev tv kv:Value} {t:M.Tm} {xs:List (Int×Int)} (R:TermR F w tv t) (S:PairsR G w kv xs) (Z:xs.length=2)
  (I:∀w',Ext w w'->K (nI (M.vecBin t.op (xs.getD 0 (0,0)).1 (xs.getD 0 (0,0)).2 (xs.getD 1 (0,0)).1 (xs.getD 1 (0,0)).2).1.2) w'):vcall jx #[KV s n,ev,tv,kv] w K:=by
 refine zg {cuts:=[(8194,[9])],trees:=[(1,(.st 0 (.st 1 (.st 2 (.st 3 (.st 4 (.st 5 (.st 6 (.st 7 (.alt 8 (.st 9 (.st 10 (.st 11 (.alt 12 (.alt 13 (.st 14 .nil) .no) .no)))) (.alt 12 (.alt 8 (.st 9 (.st 10 (.st 11 (.alt 13 (.st 14 .nil) .no)))) .no) .no)))))))))),[(0,[1,8,9,10,11,13,14]),(1,[8,9,10,11,13,14]),(2,[3,4,8,9,10,11,13,14]),(3,[4,8,9,10,11,13,14]),(4,[8,9,10,11,13,14]),(5,[6,7,8,9,10,11,13,14]),(6,[7,8,9,10,11,13,14]),(7,[8,9,10,11,13,14]),(8,[9,10,11,13,14]),(9,[10,11,13,14]),(10,[13,14]),(11,[14]),(12,[13,14]),(13,[14])])]} Tryz.func362 ?_;obtain⟨ksv,rfl,N⟩:=R;refine zj λb1 w1 J m O Y=>?_;refine zj λb2 w2 L o Q B=>?_;have z:=m.trans o;have hz:=z.size;refine zq (λu w'=> ∃b wd,u=[oP b 0]/\Ext w w'/\Blk w' b [nI wd,nI (M.vecBin t.op (xs.getD 0 (0,0)).1 (xs.getD 0 (0,0)).2 (xs.getD 1 (0,0)).1 (xs.getD 1 (0,0)).2).1.2] zh) (λC x=>?_) ?_
 ·refine zd λV d _=>?_;have c:=z.trans d;have e:=S.ext c;have j:=B.ext d;have T:=c.size;simp(disch:=first|(simp only[push_cast])|omega) only[push_cast,j.ld0,e.iaddr,e.load,true_and,and_true];refine⟨?_,?_⟩
  ·refine VecBin_spec λw4 f=>?_;have U:=f.size;simp only[push_cast,true_and];refine zi zY λA W l a p k=>?_
   try simp only[push_cast,true_and,and_self]
   refine stVec k λX q _ E=>?_
   try simp only[push_cast,true_and,and_self]
   exact x _ _ ⟨_,_,rfl,Ext.then ((c.trans f).trans a) q λy v=>by subst v;omega,E⟩
  ·refine zi zY λA W l a p k=>?_;have D:=j.ext a;have i:=e.ext a;simp(disch:=first|(simp only[push_cast])|omega) only[push_cast,D.ld0,i.iaddr,i.load,true_and,and_self,and_true];refine VecBin_spec λX h=>?_;simp only[push_cast,true_and];refine stVec (k.ext h) λw7 r _ H=>?_
   try simp only[push_cast,true_and,and_self]
   exact x _ _ ⟨_,_,rfl,Ext.then ((c.trans a).trans h) r λy v=>by subst v;omega,H⟩
 ·rintro u g V ⟨b,wd,rfl,d,j⟩;simp only[push_cast,j.ld1];exact I _ d
theorem cutKind_value_spec {s:ByteArray} {n:Int} {ev tv kv:Value} {t:M.Tm} {xs:List (Int×Int)} (S:TermR F w tv t) (T:PairsR G w kv xs) (hl:xs.length=1)
  (J:∀w',Ext w w'->K (nI (M.vecCut (xs.getD 0 (0,0)).1 (xs.getD 0 (0,0)).2 t.a t.b).1.2) w'):vcall jv #[KV s n,ev,tv,kv] w K:=by
 refine zg {cuts:=[(8194,[9])],trees:=[(1,(.st 0 (.st 1 (.st 2 (.st 3 (.st 4 (.st 5 (.st 6 (.alt 7 (.st 8 (.st 9 (.st 10 (.alt 11 (.alt 12 (.st 13 .nil) .no) .no)))) (.alt 11 (.alt 7 (.st 8 (.st 9 (.st 10 (.alt 12 (.st 13 .nil) .no)))) .no) .no))))))))),[(0,[1,2,7,8,9,10,12,13]),(1,[2,7,8,9,10,12,13]),(2,[7,8,9,10,12,13]),(3,[4,7,8,9,10,12,13]),(4,[7,8,9,10,12,13]),(5,[6,7,8,9,10,12,13]),(6,[7,8,9,10,12,13]),(7,[8,9,10,12,13]),(8,[9,10,12,13]),(9,[12,13]),(10,[13]),(11,[12,13]),(12,[13])])]} Tryz.func388 ?_;obtain⟨ksv,rfl,O⟩:=S;refine zj λb1 w1 L o Q Z=>?_;refine zj λb2 w2 N p R E=>?_;have B:=o.trans p;have hz:=B.size;refine zq (λu w'=> ∃b wd,u=[oP b 0]/\Ext w w'/\Blk w' b [nI wd,nI (M.vecCut (xs.getD 0 (0,0)).1 (xs.getD 0 (0,0)).2 t.a t.b).1.2] zh) (λC A=>?_) ?_
 ·refine zd λW e _=>?_;have d:=B.trans e;have f:=T.ext d;have h:=E.ext e;have U:=d.size;simp(disch:=first|(simp only[push_cast])|omega) only[push_cast,h.ld1,h.ld2,f.iaddr,f.load,true_and,and_true];refine⟨?_,?_⟩
  ·refine VecCut_spec λw4 i=>?_;have V:=i.size;simp only[push_cast,true_and];refine zi zY λD X m c q l=>?_
   try simp only[push_cast,true_and,and_self]
   refine stVec l λY r _ H=>?_
   try simp only[push_cast,true_and,and_self]
   exact A _ _ ⟨_,_,rfl,Ext.then ((d.trans i).trans c) r λy x=>by subst x;omega,H⟩
  ·refine zi zY λD X m c q l=>?_;have z:=h.ext c;have k:=f.ext c;simp(disch:=first|(simp only[push_cast])|omega) only[push_cast,z.ld1,z.ld2,k.iaddr,k.load,true_and,and_self,and_true];refine VecCut_spec λY j=>?_;simp only[push_cast,true_and];refine stVec (l.ext j) λw7 v _ I=>?_
   try simp only[push_cast,true_and,and_self]
   exact A _ _ ⟨_,_,rfl,Ext.then ((d.trans c).trans j) v λy x=>by subst x;omega,I⟩
 ·rintro u g W ⟨b,wd,rfl,e,h⟩;simp only[push_cast,h.ld1];exact J _ e
theorem cmpKind_value_spec {s:ByteArray} {n:Int} {ev tv kv:Value} {t:M.Tm} {xs:List (Int×Int)} (p:TermR F w tv t) (q:PairsR G w kv xs) (u:xs.length=2)
  (i:∀w',Ext w w'->K (nI (M.b2i (M.vecCmp t.op (xs.getD 0 (0,0)).1 (xs.getD 0 (0,0)).2 (xs.getD 1 (0,0)).1 (xs.getD 1 (0,0)).2).1)) w'):vcall jw #[KV s n,ev,tv,kv] w K:=by
 refine zg {ord:=[oz 1 (oR 14) [(0,[2,3,4,5,6,7]),(1,[2,3,4,5,6,7]),(2,[5,6,7]),(3,[5,6,7]),(4,[5,6,7]),(10,[11]),(11,[12])]]} Tryz.func379 ?_;obtain⟨ksv,rfl,l⟩:=p;refine zj λb1 w1 j d m r=>?_;refine zj λb2 w2 k e o g=>?_;refine zd λv b _=>?_;have a:=(d.trans e).trans b;have c:=q.ext a;have h:=g.ext b;simp(disch:=first|(simp only[push_cast])|omega) only[push_cast,h.ld0,c.iaddr,c.load,true_and,and_true];refine VecCmp_spec λx f=>?_;simp only[push_cast,true_and];exact YP (i _ (a.trans f))
theorem Xn {s:ByteArray} {n:Int} {ev tv kv:Value} {t:M.Tm} (k:TermR F w tv t)
  (e:∀w',Ext w w'->K (nI t.b) w'):vcall jp #[KV s n,ev,tv,kv] w K:=by
 refine zg {} Tryz.func383 ?_;obtain⟨ksv,rfl,h⟩:=k;refine zj λb1 w1 f a i l=>?_;refine zj λb2 w2 g c j d=>?_;simp only[push_cast,d.ld2];exact e _ (a.trans c)
theorem qD0:kk0 kB .string zC:=⟨_,Yz,rK⟩
theorem YS {s:ByteArray} {n:Int} {tv kv:Value} {t:M.Tm} {mb:Nat} {f:List (Value×Value)} {x:Int} (l:TermR F w tv t) (hm:MapF .string w mb f) (c:(Value.string t.s,nI x)∈f)
  (e:∀w',Ext w w'->K (nI x) w'):vcall je #[KV s n,.map (some mb),tv,kv] w K:=by
 refine zg {} Tryz.func385 ?_;obtain⟨ksv,rfl,i⟩:=l;refine zj λb1 w1 g a j m=>?_;refine zj λb2 w2 h b k d=>?_;simp only[push_cast,d.ld3];rw[Xj qD0 (hm.ext (a.trans b)) (XP _) c];exact e _ (a.trans b)
theorem ifKind_value_spec {s:ByteArray} {n:Int} {ev tv kv:Value} {t:M.Tm} {xs:List (Int×Int)} (l:TermR F w tv t) (m:PairsR G w kv xs) (q:xs.length=3)
  (f:∀w',Ext w w'->K (nI (if(xs.getD 0 (0,0)).2=1 then(xs.getD 1 (0,0)).2 else(xs.getD 2 (0,0)).2)) w'):vcall jS #[KV s n,ev,tv,kv] w K:=by
 refine zg {} Tryz.func391 ?_;obtain⟨ksv,rfl,i⟩:=l;refine zj λb1 w1 g c j o=>?_;refine zj λb2 w2 h d k p=>?_;have b:=m.ext (c.trans d);have e:=f _ (c.trans d)
 try simp(disch:=first|(simp only[push_cast])|omega) only[push_cast,b.iaddr]
 try simp(disch:=first|(simp only[push_cast])|omega) only[push_cast,b.load1]
 refine zb (λa=>?_) (λa=>?_)
 ·rw[if_pos a] at e
  try simp(disch:=first|(simp only[push_cast])|omega) only[push_cast,b.iaddr]
  try simp(disch:=first|(simp only[push_cast])|omega) only[push_cast,b.load1]
  exact e
 ·rw[if_neg a] at e
  try simp(disch:=first|(simp only[push_cast])|omega) only[push_cast,b.iaddr]
  try simp(disch:=first|(simp only[push_cast])|omega) only[push_cast,b.load1]
  exact e
def W3 (f:Value) (g:List (Int×Int)->Bool) (n:Nat):Prop:=∀(w:World) (G:Nat->Prop) (kv:Value) (xs:List (Int×Int)) (K:oK),PairsR G w kv xs->xs.length=n->K (.bool (g xs)) w->vcallv f #[kv] w K
theorem Xf {s:ByteArray} {n:Int} {f ev tv kv:Value} {t:M.Tm} {g:List (Int×Int)->Bool} {m:Nat} {xs:List (Int×Int)} (j:W3 f g m) (q:TermR F w tv t) (r:PairsR G w kv xs) (l:xs.length=m)
  (e:∀w',Ext w w'->K (nI (M.b2i (g xs))) w'):vcall jh #[.agg ⟨[.string s,nI n,f]⟩,ev,tv,kv] w K:=by
 refine zg {} Tryz.func393 ?_;obtain⟨ksv,rfl,k⟩:=q;refine zj λb1 w1 h b o c=>?_;refine zj λb2 w2 i a p u=>?_;have d:=c.ext a;simp only[push_cast,d.ld2];refine j _ _ _ _ _ (r.ext (b.trans a)) l ?_;exact YP (e _ (b.trans a))
theorem qJ0:W3 (.func (.func Vb) #[] #[]) (λ_=>true) 0:=by
 intro w G kv xs K c b a;simp only[push_cast];refine zg {} Tryz.func61 ?_;exact a
theorem kinds2_fn:W3 (.func (.func Va) #[] #[]) (λxs=>decide ((xs.getD 0 (0,0)).2=0)) 1:=by
 intro w G kv xs K a c b;simp only[push_cast];refine zg {} Tryz.func62 ?_
 try simp(disch:=first|(simp only[push_cast])|omega) only[push_cast,a.iaddr]
 try simp(disch:=first|(simp only[push_cast])|omega) only[push_cast,a.load1]
 exact b
theorem kinds3_fn:W3 (.func (.func V9) #[] #[]) (λxs=>decide ((xs.getD 0 (0,0)).2=1)&&decide ((xs.getD 1 (0,0)).2=1)) 2:=by
 intro w G kv xs K b d c;simp only[push_cast];refine zg {} Tryz.func63 ?_
 try simp(disch:=first|(simp only[push_cast])|omega) only[push_cast,b.iaddr]
 try simp(disch:=first|(simp only[push_cast])|omega) only[push_cast,b.load1]
 refine zb (λa=>?_) (λa=>?_)
 ·try simp(disch:=first|(simp only[push_cast])|omega) only[push_cast,b.iaddr]
  try simp(disch:=first|(simp only[push_cast])|omega) only[push_cast,b.load1]
  simpa only[decide_eq_true a,pn] using c
 ·simpa only[decide_eq_false a,GA] using c
theorem kinds4_fn:W3 (.func (.func V8) #[] #[]) (λxs=>decide ((xs.getD 0 (0,0)).2=1)||decide ((xs.getD 1 (0,0)).2=1)) 2:=by
 intro w G kv xs K b d c;simp only[push_cast];refine zg {} Tryz.func64 ?_
 try simp(disch:=first|(simp only[push_cast])|omega) only[push_cast,b.iaddr]
 try simp(disch:=first|(simp only[push_cast])|omega) only[push_cast,b.load1]
 refine zb (λa=>?_) (λa=>?_)
 ·simpa only[decide_eq_true a,Bool.true_or] using c
 ·try simp(disch:=first|(simp only[push_cast])|omega) only[push_cast,b.iaddr]
  try simp(disch:=first|(simp only[push_cast])|omega) only[push_cast,b.load1]
  simpa only[decide_eq_false a,PM] using c
end
section
variable {w:World} {K:oK} {F G:Nat->Prop}
def EnvM (w:World) (mb:Nat) (ds:List M.Dcl) (env:List Int):Prop:= ∃f,MapF .string w mb f/\∀s,0<=M.findD ds s->(Value.string s,nI (env.getD (M.findD ds s).toNat 0))∈f
theorem EnvM.ext {mb:Nat} {ds:List M.Dcl} {env:List Int} {w':World} (h:EnvM w mb ds env) (he:Ext w w'):EnvM w' mb ds env:=by
 obtain⟨f,a,b⟩:=h;exact⟨f,a.ext he,b⟩
def kTy (o:Int):TypeId:=if o<=2 then zP else if o<=13 then zH else if o=14 then zL else if o<=17 then zG else if o=20 then zO else if o=21 then zF else if o=22 then zK else if o=23 then zT else zz
structure KindR (o:Int) (v:Value):Prop where
 word:∃(s:ByteArray) (m:Int) (r:List Value),v= .iface (kTy o) (.agg ⟨.string s:: nI m::r⟩)/\(o<24->r=[])/\(24<=o->∃f,r=[f]/\f.oneCell'=true)/\(o=20\/o=21\/o=24\/s.data.toList=M.wordL o)
 iface:∃ty x,v= .iface ty x
 kids:∀(w:World) (K:oK),(∀w',Ext w w'->K (nI (M.arity o)) w')->vinvoke v mn_kids #[] w K
 sort:∀(w:World) (K:oK) (F G H:Nat->Prop) (dv tv kv:Value) (ds:List M.Dcl) (t:M.Tm) (xs:List Int),t.op=o->DclsR F w dv ds->TermR G w tv t->Ints H w kv xs->(xs.length:Int)=M.arity o->(∀i,-1<=xs.getD i 0/\xs.getD i 0<=4)->
  (∀w',Ext w w'->K (nI (M.sortK ds t xs)) w')->vinvoke v k6 #[dv,tv,kv] w K
 value:∀(w:World) (K:oK) (G H:Nat->Prop) (ev tv kv:Value) (ds:List M.Dcl) (env:List Int) (t:M.Tm) (xs:List (Int×Int)),t.op=o->(t.op=21->∃mb,ev= .map (some mb)/\EnvM w mb ds env)->TermR G w tv t->PairsR H w kv xs->(xs.length:Int)=M.arity o->(∀i,i<xs.length->M.inS (xs.getD i (0,0)).1 (xs.getD i (0,0)).2)->
  M.sortK ds t (xs.map (·.1))≠ -1->(∀w',Ext w w'->K (nI (M.valK ds env t xs)) w')->vinvoke v qG #[ev,tv,kv] w K
section
variable {ds:List M.Dcl} {env:List Int} {t:M.Tm} {xs:List Int} {ys:List (Int×Int)}
theorem ky {i:Nat} (h:i<ys.length):(ys.map (·.1)).getD i 0=(ys.getD i (0,0)).1:=M.getD_map _ h _ _
theorem kind_un {o:Int} {s:ByteArray} (d:o=1\/o=2) (hw:s.data.toList=M.wordL o):KindR o (.iface zP (KV s 1)) where
 word:=⟨_,_,_,by(rw[show kTy o=zP by unfold kTy;rw[if_pos oM]];try rfl),λ_=>rfl,λh=>oM,.inr (.inr (.inr hw))⟩
 iface:=⟨_,_,rfl⟩
 kids:=λw K b=>zM (X7 _ _) (qI λw' he=>by have:=b w' he;rcases d with rfl|rfl<;>exact this)
 sort:=λw K F G H dv tv kv ds t xs f l e g c i b=>by
  have a:xs.length=1:=by rcases d with rfl|rfl<;>simp[M.arity] at c<;>omega
  refine zM (X6 _ _) (unKind_sort_spec e g a λw' he=>?_);have:=b w' he;unfold M.sortK at this;rwa[if_neg oM,if_neg oM,if_neg oM,if_neg oM,if_neg oM,if_pos oM] at this
 value:=λw K G H mb tv kv ds env t ys f he e g c i hs b=>by
  have a:ys.length=1:=by rcases d with rfl|rfl<;>simp[M.arity] at c<;>omega
  refine zM (Yl _ _) (unKind_value_spec e g a λw' he=>?_);have:=b w' he;unfold M.sortK at hs;rw[if_neg oM,if_neg oM,if_neg oM,if_neg oM,if_neg oM,if_pos oM,ky oM] at hs;have j:0<(ys.getD 0 (0,0)).1:=by
   by_cases h:0<(ys.getD 0 (0,0)).1
   ·exact h
   ·rw[if_neg h] at hs;exact absurd rfl hs
  have k:=M.inS_pos (i 0 oM) j;unfold M.valK at this;rw[if_neg oM,if_neg oM,if_neg oM,if_neg oM,if_neg oM,if_neg oM,if_neg oM,if_neg oM,if_pos oM] at this;unfold M.vecUn;rw[if_pos ⟨k,oM⟩];exact this
theorem kind_bin {o:Int} {s:ByteArray} (m:3<=o) (k:o<=13) (hw:s.data.toList=M.wordL o):KindR o (.iface zH (KV s 2)) where
 word:=⟨_,_,_,by(rw[show kTy o=zH by unfold kTy;rw[if_neg oM,if_pos oM]];try rfl),λ_=>rfl,λh=>oM,.inr (.inr (.inr hw))⟩
 iface:=⟨_,_,rfl⟩
 kids:=λw K b=>zM (Yy _ _) (qI λw' he=>by
  have:=b w' he;unfold M.arity at this;rwa[if_neg oM,if_neg oM,if_neg oM,if_neg oM,if_pos oM] at this)
 sort:=λw K F G H dv tv kv ds t xs f n e i c d b=>by
  have a:xs.length=2:=by
   unfold M.arity at c;rw[if_neg oM,if_neg oM,if_neg oM,if_neg oM,if_pos oM] at c;omega
  refine zM (Yx _ _) (binKind_sort_spec e i a λw' he=>?_);have:=b w' he;unfold M.sortK at this;rwa[if_neg oM,if_neg oM,if_neg oM,if_neg oM,if_neg oM,if_neg oM,if_neg oM,if_neg oM] at this
 value:=λw K G H mb tv kv ds env t ys f he e i c d hs b=>by
  have a:ys.length=2:=by
   unfold M.arity at c;rw[if_neg oM,if_neg oM,if_neg oM,if_neg oM,if_pos oM] at c;omega
  refine zM (ZQ _ _) (binKind_value_spec e i a λw' he=>?_);have:=b w' he;unfold M.sortK at hs;rw[if_neg oM,if_neg oM,if_neg oM,if_neg oM,if_neg oM,if_neg oM,if_neg oM,if_neg oM,ky oM,ky oM] at hs;have j:0<(ys.getD 0 (0,0)).1/\(ys.getD 0 (0,0)).1=(ys.getD 1 (0,0)).1:=by
   by_cases h:0<(ys.getD 0 (0,0)).1/\(ys.getD 0 (0,0)).1=(ys.getD 1 (0,0)).1
   ·exact h
   ·rw[if_neg h] at hs;exact absurd rfl hs
  have l:=M.inS_pos (d 0 oM) j.1;have g:=M.inS_pos (d 1 oM) oM;unfold M.valK at this;rw[if_neg oM,if_neg oM,if_neg oM,if_neg oM,if_neg oM,if_neg oM,if_neg oM,if_neg oM,if_neg oM,if_neg oM,if_neg oM] at this;unfold M.vecBin;rw[if_pos ⟨l,g⟩,if_neg oM,if_pos ⟨oM,oM,j.2⟩];exact this
theorem kind_cat {s:ByteArray} (hw:s.data.toList=M.wordL 14):KindR 14 (.iface zL (KV s 2)) where
 word:=⟨_,_,_,rfl,λ_=>rfl,λh=>oM,.inr (.inr (.inr hw))⟩
 iface:=⟨_,_,rfl⟩
 kids:=λw K b=>zM (Yv _ _) (qI λw' he=>b w' he)
 sort:=λw K F G H dv tv kv ds t xs c l g j e d b=>by
  have a:xs.length=2:=by simp[M.arity] at e;omega
  refine zM (Yu _ _) (catKind_sort_spec g j a d λw' he=>?_);have:=b w' he;unfold M.sortK at this;rwa[if_neg oM,if_neg oM,if_neg oM,if_neg oM,if_neg oM,if_neg oM,if_pos oM] at this
 value:=λw K G H mb tv kv ds env t ys c he g j e d hs b=>by
  have a:ys.length=2:=by simp[M.arity] at e;omega
  refine zM (ZM _ _) (catKind_value_spec g j a λw' he=>?_);have:=b w' he;unfold M.sortK at hs;rw[if_neg oM,if_neg oM,if_neg oM,if_neg oM,if_neg oM,if_neg oM,if_pos oM,ky oM,ky oM] at hs;have f:0<(ys.getD 0 (0,0)).1/\0<(ys.getD 1 (0,0)).1/\(ys.getD 0 (0,0)).1+(ys.getD 1 (0,0)).1<=4:=by
   by_cases h:0<(ys.getD 0 (0,0)).1/\0<(ys.getD 1 (0,0)).1/\(ys.getD 0 (0,0)).1+(ys.getD 1 (0,0)).1<=4
   ·exact h
   ·rw[if_neg h] at hs;exact absurd rfl hs
  have k:=M.inS_pos (d 0 oM) f.1;have i:=M.inS_pos (d 1 oM) f.2.1;unfold M.valK at this;rw[if_neg oM,if_neg oM,if_neg oM,if_neg oM,if_neg oM,if_neg oM,if_neg oM,if_neg oM,if_neg oM,if_pos oM] at this;unfold M.vecBin;rw[if_pos ⟨k,i⟩,if_pos c,if_pos f.2.2];exact this
theorem kind_cmp {o:Int} {s:ByteArray} (m:15<=o) (k:o<=17) (hw:s.data.toList=M.wordL o):KindR o (.iface zG (KV s 2)) where
 word:=⟨_,_,_,by(rw[show kTy o=zG by unfold kTy;rw[if_neg oM,if_neg oM,if_neg oM,if_pos oM]];try rfl),λ_=>rfl,λh=>oM,.inr (.inr (.inr hw))⟩
 iface:=⟨_,_,rfl⟩
 kids:=λw K b=>zM (Ys _ _) (qI λw' he=>by
  have:=b w' he;unfold M.arity at this;rwa[if_neg oM,if_neg oM,if_neg oM,if_neg oM,if_pos oM] at this)
 sort:=λw K F G H dv tv kv ds t xs f n e i c d b=>by
  have a:xs.length=2:=by
   unfold M.arity at c;rw[if_neg oM,if_neg oM,if_neg oM,if_neg oM,if_pos oM] at c;omega
  refine zM (Yr _ _) (cmpKind_sort_spec e i a λw' he=>?_);have:=b w' he;unfold M.sortK at this;rwa[if_neg oM,if_neg oM,if_neg oM,if_neg oM,if_neg oM,if_neg oM,if_neg oM,if_pos oM] at this
 value:=λw K G H mb tv kv ds env t ys f he e i c d hs b=>by
  have a:ys.length=2:=by
   unfold M.arity at c;rw[if_neg oM,if_neg oM,if_neg oM,if_neg oM,if_pos oM] at c;omega
  refine zM (ZL _ _) (cmpKind_value_spec e i a λw' he=>?_);have:=b w' he;unfold M.sortK at hs;rw[if_neg oM,if_neg oM,if_neg oM,if_neg oM,if_neg oM,if_neg oM,if_neg oM,if_pos oM,ky oM,ky oM] at hs;have j:0<(ys.getD 0 (0,0)).1/\(ys.getD 0 (0,0)).1=(ys.getD 1 (0,0)).1:=by
   by_cases h:0<(ys.getD 0 (0,0)).1/\(ys.getD 0 (0,0)).1=(ys.getD 1 (0,0)).1
   ·exact h
   ·rw[if_neg h] at hs;exact absurd rfl hs
  have l:=M.inS_pos (d 0 oM) j.1;have g:=M.inS_pos (d 1 oM) oM;unfold M.valK at this;rw[if_neg oM,if_neg oM,if_neg oM,if_neg oM,if_neg oM,if_neg oM,if_neg oM,if_neg oM,if_neg oM,if_neg oM,if_pos oM] at this;unfold M.vecCmp;rw[if_pos ⟨l,g,j.2,oM,oM⟩];exact this
theorem kind_vec {s:ByteArray}:KindR 20 (.iface zO (KV s 0)) where
 word:=⟨_,_,_,rfl,λ_=>rfl,λh=>oM,.inl rfl⟩
 iface:=⟨_,_,rfl⟩
 kids:=λw K b=>zM (Yk _ _) (qI λw' he=>b w' he)
 sort:=λw K F G H dv tv kv ds t xs a g c f d e b=>by
  refine zM (Yj _ _) (Qa c λw' he=>?_);have:=b w' he;unfold M.sortK at this;rwa[if_pos a] at this
 value:=λw K G H mb tv kv ds env t ys a he c f d e hs b=>by
  refine zM (ZH _ _) (Xn c λw' he=>?_);have:=b w' he;unfold M.valK at this;rwa[if_pos a] at this
theorem kind_name {s:ByteArray}:KindR 21 (.iface zF (KV s 0)) where
 word:=⟨_,_,_,rfl,λ_=>rfl,λh=>oM,.inr (.inl rfl)⟩
 iface:=⟨_,_,rfl⟩
 kids:=λw K b=>zM (ZJ _ _) (qI λw' he=>b w' he)
 sort:=λw K F G H dv tv kv ds t xs a g e k i j b=>by
  refine zM (ZI _ _) (nameKind_sort_spec e g λw' he=>?_);have:=b w' he;unfold M.sortK at this;rwa[if_neg oM,if_pos a] at this
 value:=λw K G H mb tv kv ds env t ys a he e k i j hs b=>by
  obtain⟨mb,rfl,f,hm,d⟩:=he a;unfold M.sortK at hs;rw[if_neg oM,if_pos a] at hs;have c:0<=M.findD ds t.s:=by
   by_cases h:M.findD ds t.s<0
   ·rw[if_pos h] at hs;exact absurd rfl hs
   ·omega
  refine zM (Zm _ _) (YS e hm (d _ c) λw' he=>?_);have:=b w' he;unfold M.valK at this;rwa[if_neg oM,if_pos a] at this
theorem kind_cut {s:ByteArray} (hw:s.data.toList=M.wordL 22):KindR 22 (.iface zK (KV s 1)) where
 word:=⟨_,_,_,rfl,λ_=>rfl,λh=>oM,.inr (.inr (.inr hw))⟩
 iface:=⟨_,_,rfl⟩
 kids:=λw K d=>zM (Yp _ _) (qI λw' he=>d w' he)
 sort:=λw K F G H dv tv kv ds t xs i m g j e f d=>by
  have c:xs.length=1:=by simp[M.arity] at e;omega
  refine zM (Yo _ _) (cutKind_sort_spec g j c f λw' he=>?_);have:=d w' he;unfold M.sortK at this;rwa[if_neg oM,if_neg oM,if_neg oM,if_neg oM,if_pos oM] at this
 value:=λw K G H mb tv kv ds env t ys i he g j e f hs d=>by
  have c:ys.length=1:=by simp[M.arity] at e;omega
  refine zM (ZK _ _) (cutKind_value_spec g j c λw' he=>?_);have:=d w' he;unfold M.sortK at hs;rw[if_neg oM,if_neg oM,if_neg oM,if_neg oM,if_pos oM,ky oM] at hs;have k:0<=t.b/\t.b<=t.a/\t.a<(ys.getD 0 (0,0)).1:=by
   by_cases h:0<=t.b/\t.b<=t.a/\t.a<(ys.getD 0 (0,0)).1
   ·exact h
   ·rw[if_neg h] at hs;exact absurd rfl hs
  have l:=M.inS_pos (f 0 oM) oM;unfold M.valK at this;rw[if_neg oM,if_neg oM,if_neg oM,if_neg oM,if_neg oM,if_neg oM,if_neg oM,if_pos oM] at this;unfold M.vecCut;rw[if_pos ⟨l,k⟩];exact this
theorem kind_if {s:ByteArray} (hw:s.data.toList=M.wordL 23):KindR 23 (.iface zT (KV s 3)) where
 word:=⟨_,_,_,rfl,λ_=>rfl,λh=>oM,.inr (.inr (.inr hw))⟩
 iface:=⟨_,_,rfl⟩
 kids:=λw K b=>zM (Xa _ _) (qI λw' he=>b w' he)
 sort:=λw K F G H dv tv kv ds t xs e i d f c g b=>by
  have a:xs.length=3:=by simp[M.arity] at c;omega
  refine zM (X9 _ _) (ifKind_sort_spec d f a λw' he=>?_);have:=b w' he;unfold M.sortK at this;rwa[if_neg oM,if_neg oM,if_neg oM,if_pos oM] at this
 value:=λw K G H mb tv kv ds env t ys e he d f c g hs b=>by
  have a:ys.length=3:=by simp[M.arity] at c;omega
  refine zM (Ym _ _) (ifKind_value_spec d f a λw' he=>?_);have:=b w' he;unfold M.valK at this;rwa[if_neg oM,if_neg oM,if_neg oM,if_neg oM,if_neg oM,if_neg oM,if_pos oM] at this
theorem kind_bool {o:Int} {s:ByteArray} {f:Value} {g:List (Int×Int)->Bool} {m:Nat} (q:24<=o) (i:M.arity o=m) (j:W3 f g m) (c:f.oneCell'=true) (hw:o=24\/s.data.toList=M.wordL o) (k:∀ds env (t:M.Tm) ys,t.op=o->M.valK ds env t ys=M.b2i (g ys)):
  KindR o (.iface zz (.agg ⟨[.string s,nI m,f]⟩)) where
 word:=⟨_,_,_,by rw[show kTy o=zz by unfold kTy;rw[if_neg oM,if_neg oM,if_neg oM,if_neg oM,if_neg oM,if_neg oM,if_neg oM,if_neg oM]],λh=>oM,λ_=>⟨_,rfl,c⟩,.inr (.inr hw)⟩
 iface:=⟨_,_,rfl⟩
 kids:=λw K a=>zM (ZP _ _ _) (qI λw' he=>by have:=a w' he;rwa[i] at this)
 sort:=λw K F G H dv tv kv ds t xs b p d e l n a=>by
  refine zM (ZO _ _ _) (Q0 d e λw' he=>?_);have:=a w' he;unfold M.sortK at this;rwa[if_neg oM,if_neg oM,if_pos oM] at this
 value:=λw K G H mb tv kv ds env t ys b he d e l n hs a=>by
  refine zM (Zn _ _ _) (Xf j d e oM λw' he=>?_);have:=a w' he;rwa[k ds env t ys b] at this
end
def KindsR (w:World) (mb:Nat):Prop:= ∃f,MapF (.int .i64) w mb f/\(∀o,0<=M.arity o->∃v,(nI o,v)∈f/\KindR o v)/\∀p,p∈f->∃o,p.1= nI o/\0<=M.arity o
theorem KindsR.ext {mb:Nat} {w':World} (h:KindsR w mb) (he:Ext w w'):KindsR w' mb:=by
 obtain⟨f,a,b⟩:=h;exact⟨f,a.ext he,b⟩
end
section
variable {w:World} {K:oK} {F G:Nat->Prop}
theorem jI:kk0 zS (.int .i64) yB0:=⟨_,Za,rK⟩
def KS (w0 w:World) (b:Nat) (S:Int->Prop):Prop:=Ext w0 w/\w0.heap.size<=b/\∃f,MapF (.int .i64) w b f/\(∀o,S o->∃v,(nI o,v)∈f/\KindR o v)/\∀p,p∈f->∃o,p.1= nI o/\S o
theorem KS.set {w0 w:World} {b:Nat} {S:Int->Prop} {o:Int} {v:Value} (h:KS w0 w b S) (q: ¬S o) (r:KindR o v) (m:∀w',KS w0 w' b (λx=>x=o\/S x)->Same (· =b) w w'->K undef w'):
  UQ zS (.map (some b)) (nI o) v w K:=by
 obtain⟨he,k,f,hm,l,j⟩:=h;refine q30 jI hm (xx o) (λx i=>?_) λw' g hs _=>m w' ⟨Ext.then he hs λy s=>by subst s;exact k,k,_,g,λx i=>?_,λp c=>?_⟩ hs
 ·obtain⟨o',a,d⟩:=j _ i;cases a;exact q d
 ·by_cases e:x=o
  ·subst e;exact⟨v,gg.2 (.inr (gk.2 rfl)),r⟩
  ·obtain⟨u,hu,n⟩:=l x (i.resolve_left e);exact⟨u,gg.2 (.inl hu),n⟩
 ·rcases gg.1 c with c|c
  ·obtain⟨o',a,d⟩:=j _ c;exact⟨o',a,.inr d⟩
  ·rw[gk.1 c];exact⟨o,rfl,.inl rfl⟩
theorem KS.ext {w0 w w':World} {b:Nat} {S:Int->Prop} (h:KS w0 w b S) (he:Ext w w'):KS w0 w' b S:=by
 obtain⟨a,c,f,hm,r⟩:=h;exact⟨a.trans he,c,f,hm.ext he,r⟩
theorem KS.congr {w0 w:World} {b:Nat} {S S':Int->Prop} (h:KS w0 w b S) (a:∀x,S x↔S' x):KS w0 w b S':=by
 have:S=S':=funext λx=>propext (a x);subst this;exact h
theorem KS.kinds {w0 w:World} {b:Nat} {S:Int->Prop} (h:KS w0 w b S) (a:∀o,S o↔0<=M.arity o):KindsR w b:=by
 obtain⟨he,k,f,hm,c,d⟩:=h;refine⟨f,hm,λo i=>c o ((a o).2 i),λp j=>?_⟩;obtain⟨o,e,g⟩:=d p j;exact⟨o,e,(a o).1 g⟩
@[push_cast] theorem bd_named (s:ByteArray) (n:Int):yz qA [(0,.string s),(1,nI n)] w K=K (KV s n) w:=zV y20 (us:=[[.string s],[nI n]]) rfl rfl
@[push_cast] theorem YC0 (s:ByteArray) (n:Int):yz zP [(0,KV s n)] w K=K (KV s n) w:=zV UG (us:=[[.string s,nI n]]) rfl rfl
@[push_cast] theorem Y70 (s:ByteArray) (n:Int):yz zH [(0,KV s n)] w K=K (KV s n) w:=zV VK (us:=[[.string s,nI n]]) rfl rfl
@[push_cast] theorem Y60 (s:ByteArray) (n:Int):yz zL [(0,KV s n)] w K=K (KV s n) w:=zV VH (us:=[[.string s,nI n]]) rfl rfl
@[push_cast] theorem Y50 (s:ByteArray) (n:Int):yz zG [(0,KV s n)] w K=K (KV s n) w:=zV VF (us:=[[.string s,nI n]]) rfl rfl
@[push_cast] theorem Y40 (s:ByteArray) (n:Int):yz zK [(0,KV s n)] w K=K (KV s n) w:=zV VE (us:=[[.string s,nI n]]) rfl rfl
@[push_cast] theorem YE0 (s:ByteArray) (n:Int):yz zT [(0,KV s n)] w K=K (KV s n) w:=zV UI (us:=[[.string s,nI n]]) rfl rfl
@[push_cast] theorem Y30:yz zO [] w K=K (KV ⟨#[]⟩ 0) w:=zV VC (us:=[]) rfl rfl
@[push_cast] theorem ZP0:yz zF [] w K=K (KV ⟨#[]⟩ 0) w:=zV Kz (us:=[]) rfl rfl
@[push_cast] theorem ZS0 (s:ByteArray) (n:Int) (f:Fn) (a c:Array Value):yz zz [(0,KV s n),(1,.func f a c)] w K=K (.agg ⟨[.string s,nI n,.func f a c]⟩) w:=zV KA (us:=[[.string s,nI n],[.func f a c]]) rfl rfl
theorem val24 (ds:List M.Dcl) (env:List Int) (t:M.Tm) (ys:List (Int×Int)) (h:t.op=24):M.valK ds env t ys=M.b2i true:=by simp[M.valK,h,M.b2i]
theorem val25 (ds:List M.Dcl) (env:List Int) (t:M.Tm) (ys:List (Int×Int)) (h:t.op=25):M.valK ds env t ys=M.b2i (decide ((ys.getD 0 (0,0)).2=0)):=by unfold M.valK;simp only[h];rfl
theorem val26 (ds:List M.Dcl) (env:List Int) (t:M.Tm) (ys:List (Int×Int)) (h:t.op=26):M.valK ds env t ys=M.b2i (decide ((ys.getD 0 (0,0)).2=1)&&decide ((ys.getD 1 (0,0)).2=1)):=by unfold M.valK;simp only[h];rfl
theorem val27 (ds:List M.Dcl) (env:List Int) (t:M.Tm) (ys:List (Int×Int)) (h:t.op=27):M.valK ds env t ys=M.b2i (decide ((ys.getD 0 (0,0)).2=1)||decide ((ys.getD 1 (0,0)).2=1)):=by unfold M.valK;simp only[h];rfl
def binWords:List ByteArray:=[⟨#[97,110,100]⟩,⟨#[111,114]⟩,⟨#[120,111,114]⟩,⟨#[97,100,100]⟩,⟨#[115,117,98]⟩,⟨#[109,117,108]⟩,⟨#[100,105,118]⟩,⟨#[114,101,109]⟩,⟨#[115,104,108]⟩,⟨#[115,104,114]⟩,⟨#[115,97,114]⟩]
theorem kO0:∀i:Fin 11,(binWords.getD i.1 ⟨#[]⟩).data.toList=M.wordL (3+(i.1:Int)):=dC
theorem kinds_new (X:∀w' b,Ext w w'->KindsR w' b->w.heap.size<=b->K (.map (some b)) w'):vcall QX #[] w K:=by
 refine zg {loops:=[(3,[48])]} Tryz.func41 ?_;refine yC0 jI λb w1 hb hm he hs=>?_;have J:KS w w1 b (λ_=>False):=⟨he,oM,[],hm,λ_ h=>h.elim,λ_ h=>by cases h⟩;simp only[push_cast];refine J.set dC (kind_un (.inl rfl) dC) λw2 L _=>?_;refine L.set dC (kind_un (.inr rfl) dC) λw3 N _=>?_;refine N.set dC (kind_cat dC) λw4 O _=>?_;refine O.set dC (kind_cmp dC dC dC) λw5 Q _=>?_;refine Q.set dC (kind_cmp dC dC dC) λw6 R _=>?_;refine R.set dC (kind_cmp dC dC dC) λw7 S _=>?_;refine S.set dC kind_vec λw8 T _=>?_;refine T.set dC kind_name λw9 U _=>?_;refine U.set dC (kind_cut dC) λw10 V _=>?_;refine V.set dC (kind_if dC) λY l _=>?_;refine l.set dC (kind_bool (m:=0) dC rfl qJ0 rfl (.inl rfl) val24) λZ n _=>?_;refine n.set dC (kind_bool (m:=1) dC rfl kinds2_fn rfl (.inr dC) val25) λa0 p _=>?_;refine p.set dC (kind_bool (m:=2) dC rfl kinds3_fn rfl (.inr dC) val26) λa1 q _=>?_;refine q.set dC (kind_bool (m:=2) dC rfl kinds4_fn rfl (.inr dC) val27) λa2 g _=>?_;refine vbuildS_row1 (xs:=binWords.map .string) Xq rK Xh (λx B=>by obtain⟨s,_,rfl⟩:=gn.1 B;rfl) dC λbs D F j G t=>?_;have d:Vals (· =bs) D (.slice (some ⟨bs,0,none⟩) (binWords.map Value.string).length (binWords.map Value.string).length) (binWords.map Value.string):=t.sl1 rfl dC;have r:=g.ext j;have v:bs≠b:=by
  obtain⟨_,_,f,hm,_⟩:=g;have:=hm.lt;omega
 have hlen:(binWords.map Value.string).length=11:=rfl;simp only[push_cast,d.len];rw[hlen];rw[hlen] at d;refine vloop_up 11 (λi u w'=>u=[nI i]/\Vals (· =bs) w' (.slice (some ⟨bs,0,none⟩) 11 11) (binWords.map Value.string)/\KS w w' b λx=>(3<=x/\x<3+(i:Int))\/x=27\/x=26\/x=25\/x=24\/x=23\/x=22\/x=21\/x=20\/x=17\/x=16\/x=15\/x=14\/x=2\/x=1) ⟨rfl,d,r.congr λx=>by simp only[or_false];constructor<;>intro h<;>omega⟩ ?_;rintro i _ _ E C hi ⟨rfl,A,k⟩ W;simp only[push_cast];refine zb (λa=>?_) (λa=>?_)
 ·have c:i<11:=oM;have H:(binWords.map Value.string).getD i undef= .string (binWords.getD i ⟨#[]⟩):=M.getD_map _ (show i<binWords.length from c) _ _;have I:IntKind.i64.wrap (3+(i:Int))=3+(i:Int):=zk oM oM;rw[A.iaddr rK oM (by rw[hlen];omega),gi,A.load rK (by rw[hlen];omega),H];simp only[push_cast,I];refine k.set oM (kind_bin oM oM (kO0 ⟨i,c⟩)) λa3 y z=>?_
  try simp only[push_cast]
  rw[inc64' oM];exact W c _ _ ⟨rfl,A.same z λx B _ e=>v (B.symm.trans e),y.congr λx=>by constructor<;>intro h<;>omega⟩
 ·have:i=11:=oM;subst this;refine X E b k.1 (k.kinds λo=>?_) k.2.1;constructor
  ·intro h;have:(1<=o/\o<=17)\/(20<=o/\o<=27):=oM;unfold M.arity
   repeat' split
   all_goals omega
  ·intro h;have:=M.arity_ops h;omega
theorem VX (d:∀w' b,Ext w w'->KindsR w' b->K (.map (some b)) w'):vcall QX #[] w K:=kinds_new λw' b a c _=>d w' b a c
end
section
variable {w:World} {K:oK} {F G:Nat->Prop}
theorem stTerm {b:Nat} {cs cs':List Value} {t:TypeId} {g:M.Tm} (h:Blk w b cs t) (f:cs.length=5) (d:TmR F w cs' g) (c:∀w',Same (· =b) w w'->w'.heap.size=w.heap.size->Blk w' b cs' t->K undef w'):zR za (oP b 0) (.agg ⟨cs'⟩) w K:=by
 obtain⟨kv,rfl,e⟩:=d.inv;obtain⟨css,hs,_⟩:=e;refine h.stAgg (by simp[f]) zc ?_ c;intro v a;simp only[X0,gm,or_false] at a;rcases a with rfl|rfl|rfl|rfl|rfl
 ·rfl
 ·rfl
 ·rfl
 ·rfl
 ·exact hs.one
theorem zW {cs:List Value} {t:M.Tm} (h:TmR F w cs t):cs.length=5:=by
 obtain⟨kv,rfl,_⟩:=h.inv;rfl
theorem xi0 {v:Value} {t:M.Tm} (m:TermR F w v t) (i:∀w',Ext w w'->K (.bool (M.plainM t)) w'):vcall QW #[v] w K:=by
 refine zg {cuts:=[(8194,[3])]} Tryz.func91 ?_;obtain⟨ksv,rfl,k⟩:=m;refine zj λb1 w1 j h l e=>?_;have d:=i _ h;unfold M.plainM at d;refine zq (λu w'=>u=[.bool (decide (t.op=20)||decide (t.op=22)||(decide (t.a=0)&&decide (t.b=0)))]/\w'=w1) (λC f=>?_) ?_
 ·simp only[push_cast,e.ld0,e.ld1,e.ld2];refine zb (λa=>?_) (λa=>?_)
  ·exact f _ _ ⟨by rw[decide_eq_true a];rfl,rfl⟩
  refine zb (λb=>?_) (λb=>?_)
  ·exact f _ _ ⟨by rw[decide_eq_true b];simp,rfl⟩
  refine zb (λc=>?_) (λc=>?_)
  ·exact f _ _ ⟨by rw[decide_eq_false a,decide_eq_false b,decide_eq_true c];rfl,rfl⟩
  ·exact f _ _ ⟨by rw[decide_eq_false a,decide_eq_false b,decide_eq_false c];rfl,rfl⟩
 ·rintro u g w2 ⟨rfl,rfl⟩;simp only[push_cast,e.ld0,e.ld3];refine zo (λa=>?_) (λa=>?_)
  ·rw[a,pn] at d;refine zb (λb=>?_) (λb=>?_)
   ·rwa[decide_eq_true b,Bool.true_or] at d
   ·rw[decide_eq_false b,PM] at d;exact d
  ·rwa[a,GA] at d
theorem Kf {mb:Nat} {o:Int} {ok:Bool} (h:KindsR w mb) (d:0<=M.arity o) (b:∀v,KindR o v->K (if ok then .tuple #[v,.bool true] else v) w):Xk zS (.map (some mb)) (nI o) ok w K:=by
 obtain⟨f,hm,a,g⟩:=h;obtain⟨v,e,c⟩:=a o d;rw[Xj jI hm (xx o) e];exact b v c
theorem qF0 {mb:Nat} {o:Int} (h:KindsR w mb) (d: ¬0<=M.arity o) (b:K (.tuple #[.nilIface,.bool false]) w):Xk zS (.map (some mb)) (nI o) true w K:=by
 obtain⟨f,hm,i,a⟩:=h;rw[UR jI (z:= .nilIface) (by unfold yi;kernel_rfl) hm (xx o) λv g=>?_]
 ·exact b
 ·obtain⟨o',e,c⟩:=a _ g;cases e;exact d c
theorem xq0 {mb:Nat} {o:Int} {w w2:World} {N:oK} (h:KindsR w mb) (i:0<=M.arity o) (he:Ext w w2) (e:∀v,KindR o v->(∀a,Ext w a->Xk zS (.map (some mb)) (nI o) false a λx y=>x=v/\y=a)->N v w):Xk zS (.map (some mb)) (nI o) false w N:=by
 obtain⟨f,hm,d,j⟩:=h;obtain⟨v,c,g⟩:=d o i;rw[Xj jI hm (xx o) c];refine e v g λa b=>?_;rw[Xj jI (hm.ext b) (xx o) c];exact⟨rfl,rfl⟩
theorem kZ {α β:Type} (f:α->β) {l:List α} {i:Nat} (h:i<l.length) (d:α):(l.take i).map f++[f (l.getD i d)]=(l.take (i+1)).map f:=by
 rw[GV,y4 h,gr,y0,y4 h];rfl
theorem sortOf_spec:∀(t:M.Tm) {w:World} {K:oK} {F G:Nat->Prop} {mb:Nat} {dv v:Value} {ds:List M.Dcl},KindsR w mb->DclsR F w dv ds->M.declOk ds=true->TermR G w v t->
  (∀w',Ext w w'->K (nI (M.sortM ds t)) w')->vcall jG #[.map (some mb),dv,v] w K:=by
 refine M.Tm.ind λt ih w K F G mb dv v ds hm hd N ht U=>?_;apply UF;obtain⟨ksv,rfl,m⟩:=ht;refine zj λb1 w1 a3 l a6 D=>?_;have J:=hm.ext l;simp only[push_cast,D.ld0];have A: ¬(M.formed t=true)->∀w',Ext w w'->K (nI (-1)) w':=λhn w' he=>by
  have:=U w' he;rw[M.sortM_eq] at this;unfold M.sortF at this;rwa[if_neg (λh=>hn h.1)] at this
 by_cases Y: ¬0<=M.arity t.op
 ·have T:=Y;refine qF0 J T ?_;simp only[push_cast];refine zq (λ_ _=>False) (λC S=>?_) (λ_ _ _ h=>h.elim);refine zd λw2 c _=>?_;simp only[push_cast,true_and];refine A (λh=>T ?_) _ (l.trans c);simp only[M.formed,K3,decide_eq_true_eq] at h;omega
 have T:0<=M.arity t.op:=oM
 refine Kf J T λkv I=>?_;simp only[push_cast,if_true];have a9:=m.small;refine zq (λu w'=>u=[]/\Ext w1 w'/\M.formed t=true) (λC S=>?_) ?_
 ·refine zd λw2 c _=>?_;have E:=D.ext c;simp only[push_cast,E.ld4,m.len,true_and];refine I.kids _ _ λw3 d=>?_;have R:=E.ext d;simp only[push_cast,R.ld4,m.len,true_and,and_self];refine zb (λa=>?_) (λa=>?_)
  ·refine A (λh=>?_) _ ((l.trans c).trans d);simp only[M.formed,K3,decide_eq_true_eq] at h;omega
  ·simp only[push_cast,R.ldAgg (t:=za) zc,true_and];refine xi0 (F:=G) (t:=t) ⟨ksv,rfl,m.ext ((l.trans c).trans d)⟩ λw4 e=>?_;simp only[push_cast,true_and];refine zo (λb=>?_) (λb=>?_)
   ·refine A (λh=>?_) _ (((l.trans c).trans d).trans e);simp only[M.formed,K3] at h;rw[h.2] at b;cases b
   ·refine S _ _ ⟨rfl,(c.trans d).trans e,?_⟩;simp only[M.formed,K3,decide_eq_true_eq];exact⟨oM,by simpa using b⟩
 ·rintro u g w2 ⟨rfl,c,hf⟩;have E:=D.ext c;have hE:=l.trans c;have ab:=hE.size;simp only[push_cast,E.ld4,m.len];have H:=hf;simp only[M.formed,K3,decide_eq_true_eq] at H;have a2:t.ks.length<=3:=by
   have D:=H.1;unfold M.arity at D
   repeat' split at D
   all_goals omega
  refine vloop_up t.ks.length (λi u w'=> ∃sv,u=[sv,nI i]/\Ext w2 w'/\OwnI ze w' sv ((t.ks.take i).map (M.sortM ds))/\(∀b,sv.ownBlock=some b->w2.heap.size<=b)/\(∀x,x∈(t.ks.take i).map (M.sortM ds)->x≠ -1)) ⟨_,rfl,Same.refl _ _,OwnI.nil,(λb h=>by cases h),by simp⟩ ?_;rintro i _ _ w3 C hi ⟨sv,rfl,d,B,L,n⟩ S;have k:=hE.trans d;have o:=m.ext k;simp only[push_cast];refine zb (λa=>?_) (λa=>?_)
  ·simp(disch:=first|(simp only[push_cast])|omega) only[push_cast,o.iaddr];refine o.load zc oM λx r=>?_;obtain⟨cs,rfl,s⟩:=r.cells;refine zi zr λb2 w4 a4 e a7 h4=>?_;refine stTerm h4 rfl (s.ext e) λw5 Z aa h5=>?_;have p:Ext w3 w5:=Ext.then e Z λy Q=>by subst Q;omega
   rw[h5.ldAgg (t:=za) (by rw[zW s];exact zc)];refine ih _ (M.getD_mem oM _) (hm.ext (k.trans p)) (hd.ext (k.trans p)) N (s.ext p).term λw6 V=>?_;simp only[push_cast];have f:=p.trans V;refine zb (λb=>?_) (λb=>?_)
   ·have:=U _ (k.trans f);rw[M.sortM_eq] at this;unfold M.sortF at this;rwa[if_neg (λh=>h.2 (b▸gS (M.getD_mem oM _)))] at this
   ·refine qC xr yR xF rfl rfl dC λb3 w7 a5 z a8 h7=>?_;have O:=(B.ext f).ext z;have hlen:((t.ks.take i).map (M.sortM ds)).length=i:=by rw[y1,V0];omega
    refine O.app1 xB h7 (by rw[hlen];omega) (by rw[hlen];omega) λa1 w8 q a0 X=>?_
    try simp only[push_cast]
    rw[inc64' oM];rw[kZ _ oM] at q;refine S oM _ _ ⟨a1,rfl,Ext.then ((d.trans f).trans z) a0 λy Q=>L y Q,q,λy Q=>?_,λx r=>?_⟩
    ·rcases X y Q with h|h
     ·exact L y h
     ·have:=(d.trans f).size;have:=z.size;omega
    ·rw[<-kZ _ oM default] at r;rcases gg.1 r with r|r
     ·exact n x r
     ·rw[gk.1 r];exact b
  ·have W:i=t.ks.length:=oM;subst W;rw[gq] at B n;have R:=E.ext d;simp only[push_cast,R.ldAgg (t:=za) zc];refine I.sort _ _ F G _ _ _ _ ds t _ rfl (hd.ext k) ⟨ksv,rfl,o⟩ B.ints (by rw[y1];omega) (λj=>?_) λw4 e=>?_
   ·by_cases hj:j<t.ks.length
    ·rw[M.getD_map _ hj 0 default];exact M.sort_range N _
    ·rw[y0,pW (by simpa using hj)];simp
   ·have:=U _ (k.trans e);rw[M.sortM_eq] at this;unfold M.sortF at this;rwa[if_pos ⟨hf,λh=>n _ h rfl⟩] at this
def nnB:M.Tm->Bool:=M.Tm.fold λt xs=>decide (t.op≠21)&&xs.all id
theorem Yp0 (t:M.Tm):nnB t=(decide (t.op≠21)&&(t.ks.map nnB).all id):=M.Tm.fold_eq _ t
theorem nnB_iff {t:M.Tm}:nnB t=true↔t.op≠21/\∀k,k∈t.ks->nnB k=true:=by
 rw[Yp0,K3,decide_eq_true_eq,gW];refine and_congr_right λ_=>⟨λh k a=>h _ (gS a),λh y b=>?_⟩;obtain⟨k,a,rfl⟩:=gn.1 b;exact h k a
theorem valueOf_specG:∀(t:M.Tm) {w:World} {K:oK} {F G:Nat->Prop} {mb:Nat} {dv v ev:Value} {ds:List M.Dcl} {env:List Int},KindsR w mb->DclsR F w dv ds->M.envOk ds env=true->((∃eb,ev= .map (some eb)/\EnvM w eb ds env)\/nnB t=true)->TermR G w v t->M.sortM ds t≠ -1->
  (∀w',Ext w w'->K (xX (M.sortM ds t) (M.evalM ds env t)) w')->vcall kH #[.map (some mb),dv,v,ev] w K:=by
 refine M.Tm.ind λt ih w K F G mb dv v ev ds env hm hd B hE ht p hK=>?_;have a4:=(M.env_ok B).1;apply VB;obtain⟨ksv,rfl,o⟩:=ht;obtain⟨hf,n,a5⟩:=M.sort_parts p;have L:=hf;simp only[M.formed,K3,decide_eq_true_eq] at L;have a9:t.ks.length<=3:=by
  have Y:=L.1;unfold M.arity at Y
  repeat' split at Y
  all_goals omega
 have ho:0<=M.arity t.op:=oM
 refine zj λb1 w1 aa I ae Y=>?_;refine zi zY λb2 w2 ab J af h2=>?_;have q1:=Y.ext J;have H:=I.trans J;have aj:=H.size;have ai:=o.small;simp only[push_cast,q1.ld4,o.len];refine vloop_up t.ks.length (λi u w'=> ∃sv,u=[sv,nI i]/\Ext w2 w'/\OwnP xL w' sv ((t.ks.take i).map (M.vecM ds env))/\(∀b,sv.ownBlock=some b->w2.heap.size<=b)) ⟨_,rfl,Same.refl _ _,OwnP.nil _,λb h=>by cases h⟩ ?_;rintro i _ _ w3 C hi ⟨sv,rfl,l,D,T⟩ hC;have f:=H.trans l;have r:=o.ext f;have ak:=l.size;simp only[push_cast];refine zb (λa=>?_) (λa=>?_)
 ·simp(disch:=first|(simp only[push_cast])|omega) only[push_cast,r.iaddr];refine r.load zc oM λx hx=>?_;obtain⟨cs,rfl,z⟩:=hx.cells;refine zi zr λb3 w4 ac d ag h4=>?_;refine stTerm h4 rfl (z.ext d) λw5 a6 al h5=>?_;have c:Ext w3 w5:=Ext.then d a6 λy E=>by subst E;omega
  rw[h5.ldAgg (t:=za) (by rw[zW z];exact zc)];refine ih _ (M.getD_mem oM _) (hm.ext (f.trans c)) (hd.ext (f.trans c)) B (hE.imp (λ⟨eb,e,h⟩=>⟨eb,e,h.ext (f.trans c)⟩) λh=>(nnB_iff.1 h).2 _ (M.getD_mem oM _)) (z.ext c).term (n _ (M.getD_mem oM _)) λw6 q=>?_;have m:=c.trans q;refine qC ya0 x50 zY rfl rfl dC λb4 w7 ad A ah h7=>?_;have W:=(D.ext m).ext A;have hlen:((t.ks.take i).map (M.vecM ds env)).length=i:=by rw[y1,V0];omega
  refine Own.app1k W ys0 dC h7 rfl (by intro v hv;simp only[X0,gm,or_false] at hv;rcases hv with rfl|rfl<;>rfl) (by rw[y1,hlen];omega) (by rw[y1,hlen];omega) λX w8 U a8 a3=>?_;rw[inc64' oM];have V:OwnP xL w8 X ((t.ks.take (i+1)).map (M.vecM ds env)):=by
   unfold OwnP;rw[<-kZ _ oM default,gr,M.vecM_pair ds env (t.ks.getD i default)];exact U
  refine hC oM _ _ ⟨X,rfl,Ext.then ((l.trans m).trans A) a8 λy E=>T y E,V,λy E=>?_⟩;rcases a3 y E with h|h
  ·exact T y h
  ·have:=m.size;have:=A.size;omega
 ·have a0:i=t.ks.length:=oM;subst a0;rw[gq] at D;refine zd λw4 d _=>?_;have q4:=(q1.ext l).ext d;have g:=f.trans d;have R:=o.ext g;simp only[push_cast,q4.ld0,q4.ldAgg (t:=za) zc,true_and];refine xq0 (hm.ext g) ho (Same.refl _ _) λkv a1 a2=>⟨rfl,?_⟩;refine sortOf_spec t (hm.ext g) (hd.ext g) a4 ⟨ksv,rfl,R⟩ λw5 c=>?_;have q5:=q4.ext c;simp only[push_cast,q5.ld0,q5.ldAgg (t:=za) zc,true_and,and_self];refine⟨a2 _ c,?_⟩;have s:=g.trans c;have S:(t.ks.map (M.vecM ds env)).length=t.ks.length:=y1 _;have O:∀j,j<t.ks.length->(t.ks.map (M.vecM ds env)).getD j (0,0)=(M.sortM ds (t.ks.getD j default),M.evalM ds env (t.ks.getD j default)):=λj Q=>(by rw[M.getD_map _ Q _ default,M.vecM_pair]);have N:(t.ks.map (M.vecM ds env)).map (·.1)=t.ks.map (M.sortM ds):=by
   rw[G7];exact GH λk _=>M.vecM_sort ds env k
  refine a1.value _ _ G _ _ _ _ ds env t _ rfl (λZ=>hE.elim (λ⟨eb,e,h⟩=>⟨eb,e,h.ext s⟩) λh=>absurd Z (nnB_iff.1 h).1) ⟨ksv,rfl,o.ext s⟩ ((D.ext (d.trans c)).pairs) (by rw[S];omega) (λj Q=>?_) (by rw[N,<-a5];exact p) λw6 q=>?_
  ·rw[S] at Q;rw[O j Q];exact M.eval_in B _ (n _ (M.getD_mem Q _))
  ·simp only[push_cast,true_and];have h6:=(((h2.ext l).ext d).ext c).ext q;refine stVec h6 λw7 a7 _ h7=>?_;rw[h7.lv rK];have hX:Ext w w7:=Ext.then (s.trans q) a7 λy E=>by subst E;have:=I.size;omega
   have:=hK w7 hX;rw[M.evalM_eq] at this;exact this
theorem count_spec:∀(t:M.Tm) {w:World} {K:oK} {F:Nat->Prop} {v:Value} {m deep mb:Nat} {ty:TypeId},TermR F w v t->Blk w mb [nI m] ty->(∀b,F b->b≠mb)->m<=20->1<=deep->deep<=8->
  (∀w' (r B:Nat),Same (· =mb) w w'->Blk w' mb [nI B] ty->m<B->B<=21->deep<=r->r<=8->(m+M.sizeM t<=20/\deep-1+M.deepM t<=7->B=m+M.sizeM t/\r=deep-1+M.deepM t)->(¬(m+M.sizeM t<=20/\deep-1+M.deepM t<=7)->20<B\/7<r)->K (nI r) w')->
  vcall zB0 #[v,nI deep,oP mb 0] w K:=by
 refine M.Tm.ind λt ih w K F v m deep mb ty ht E hF hm a2 a3 J=>?_;refine zg {loops:=[(6,[7,22])]} Tryz.func87 ?_;obtain⟨ksv,rfl,n⟩:=ht;refine zj λb1 w1 a0 p a9 X=>?_;have o:=E.ext p;have V:=E.lt;have ab:=n.small;have hS:=M.szT_all t;have hD:=M.dpT_all t;simp only[push_cast,o.ld0];rw[inc64' oM];refine o.st (i:=0) rfl rfl yR rfl λw2 A ac D=>?_;have s:Same (· =mb) w w2:=(Same.of_ext p).trans A;have q2:=X.same A oM;replace D:Blk w2 mb [nI (m+1:Nat)] ty:=D;refine zb (λa=>?_) (λa=>?_)
 ·exact J w2 deep (m+1) s D oM oM oM oM (λh=>oM) (λh=>oM)
 simp only[push_cast,q2.ld4,n.len];refine vloop_up t.ks.length (λi u w'=> ∃r mi:Nat,u=[nI r,nI i]/\Same (· =mb) w2 w'/\Blk w' mb [nI mi] ty/\m<mi/\mi<=21/\deep<=r/\r<=8/\(m+1+M.szT t.ks i<=20/\deep+M.dpT t.ks i<=7->mi=m+1+M.szT t.ks i/\r=deep+M.dpT t.ks i)/\(¬(m+1+M.szT t.ks i<=20/\deep+M.dpT t.ks i<=7)->20<mi\/7<r))
  ⟨deep,m+1,rfl,Same.refl _ _,D,oM,oM,oM,oM,λh=>by simp[M.szT,M.dpT],λh=>by
   have T:M.szT t.ks 0=0:=rfl;have e2:M.dpT t.ks 0=0:=rfl;omega⟩ ?_
 rintro i _ _ G C hi ⟨r,mi,rfl,z,I,c1,c2,c3,R,H,S⟩ hC;have d:Same (· =mb) w G:=s.trans z;have g:TmsR F G ksv t.ks:=n.same d λb E _ e=>hF b E e;have ad:=d.size;simp only[push_cast];refine zb (λb=>?_) (λb=>?_)
 ·have a5:=M.szT_mono (ks:=t.ks) (i:=i) (j:=t.ks.length) oM (gp _);have a6:=M.dpT_mono (ks:=t.ks) (i:=i) (j:=t.ks.length) oM (gp _);have a7:=M.szT_succ (ks:=t.ks) (i:=i) oM;have a8:=M.dpT_succ (ks:=t.ks) (i:=i) oM;simp(disch:=first|(simp only[push_cast])|omega) only[push_cast,g.iaddr];refine g.load zc oM λx hx=>?_;obtain⟨cs,rfl,l⟩:=hx.cells;refine zi zr λb2 w4 a1 q aa Y=>?_;refine stTerm Y rfl (l.ext q) λW O ae Z=>?_;have f:Ext G W:=Ext.then q O λy hy=>by subst hy;omega
  have k:=I.ext f;have a4:=I.lt;simp only[push_cast,k.ld0];refine zb (λc=>?_) (λc=>?_)
  ·exact J W r mi (d.trans (Same.of_ext f)) k c1 c2 c3 R (λh=>oM) (λh=>oM)
  ·rw[Z.ldAgg (t:=za) (by rw[zW l];exact zc)];have T:IntKind.i64.wrap ((deep:Int)+1)=((deep+1:Nat):Int):=inc64' oM;rw[T];refine ih _ (M.getD_mem oM _) (l.ext f).term k hF oM oM oM λw6 Q m2 N h6 d1 d2 d3 d4 d5 d6=>?_;simp only[push_cast];rw[inc64' oM,show max (r:Int) (Q:Int)=((max r Q:Nat):Int) by omega];refine hC oM _ _ ⟨max r Q,m2,rfl,(z.trans (Same.of_ext f)).trans N,h6,oM,d2,oM,oM,λh=>?_,λh=>?_⟩
   ·have:=H oM;have:=d5 oM;omega
   ·by_cases U:m+1+M.szT t.ks i<=20/\deep+M.dpT t.ks i<=7
    ·have:=H U;have:=d6 oM;omega
    ·have:=S U;omega
 ·have L:i=t.ks.length:=oM;subst L;refine J G r mi d I c1 c2 c3 R (λh=>?_) (λh=>?_)
  ·have:=H oM;omega
  ·exact S oM
theorem TermMany_spec {v:Value} {t:M.Tm} (A:TermR F w v t) (H:∀w',Ext w w'->K (.tuple #[nI (M.manyM t),nI (M.lvlM t)]) w'):vcall Ka #[v] w K:=by
 refine zg {} Tryz.func58 ?_;have s:=A.weaken (F':=λb=>b<w.heap.size) λb _ h=>h;obtain⟨ksv,rfl,L⟩:=A;refine zj λb1 w1 I o N E=>?_;refine qj xF λb2 w2 J g O l=>?_;replace l:Blk w2 b2 [nI 0] zC:=l;refine l.st (i:=0) rfl rfl yR rfl λB k Q n=>?_;replace n:Blk B b2 [nI ((0:Nat):Int)] zC:=n;have S:=(E.ext g).same k oM;have j:Ext w B:=Ext.then (o.trans g) k λy x=>by subst x;omega
 rw[S.ldAgg (t:=za) zc];refine count_spec t (m:=0) (deep:=1) (s.ext j) n (λb V e=>oM) oM oM oM λC r R q G c1 c2 c3 T f D=>?_;have p:Ext w C:=Ext.then j q λy x=>by subst x;omega
 have d:=H C p;have c:M.fits t=true↔M.sizeM t<=20/\M.deepM t<=7:=M.fits_iff;unfold M.manyM M.lvlM at d;simp only[push_cast,G.ld0];refine zb (λa=>?_) (λa=>?_)
 ·rw[if_neg (λh=>by have u:=c.1 h;have:=f oM;omega),if_neg (λh=>by have u:=c.1 h;have:=f oM;omega)] at d;exact d
 ·refine zb (λb=>?_) (λb=>?_)
  ·rw[if_neg (λh=>by have u:=c.1 h;have:=f oM;omega),if_neg (λh=>by have u:=c.1 h;have:=f oM;omega)] at d;exact d
  ·have z:M.sizeM t<=20/\M.deepM t<=7:=by
    by_cases h:M.sizeM t<=20/\M.deepM t<=7
    ·exact h
    ·have:=D oM;omega
   have U:=f oM;rw[if_pos (c.2 z),if_pos (c.2 z)] at d;rw[show R=M.sizeM t by omega,show r=M.deepM t by omega];exact d
end
end Go.Proofs.YtolbhkcajhlllaaGreatDoor
namespace Go.Proofs
open Go.Shelf
def YtolbhkcajhlllaaGreatDoor.sortL_ren:Go.Shelf.Ren:=⟨λ|6=>285 |15=>302 |14=>301 |28=>323 |29=>324 |20=>315 |21=>316 |22=>317 |23=>318 |24=>319 |25=>320 |26=>321 |27=>322 |46=>329 |47=>330 |48=>331 |49=>332 |50=>333 |57=>336 |n=>n,λ|22=>26 |24=>3 |25=>146 |3=>3 |39=>312 |0=>0 |53=>365 |55=>232 |4=>4 |46=>375 |45=>374 |50=>243 |5=>5 |9=>9 |66=>383 |70=>150 |76=>388 |77=>100 |n=>n,λ|n=>n⟩
theorem YtolbhkcajhlllaaGreatDoor.sortL:Go.Proofs.SlLaysF.n6 Tryz.prog YtolbhkcajhlllaaGreatDoor.sortL_ren:={
 mixed:=rK
 f6:=⟨Tryz.f285.name,dC,Tryz.func285.trans (congrArg some rK)⟩
 f14:=⟨Tryz.f301.name,dC,Tryz.func301.trans (congrArg some rK)⟩
 f15:=Tryz.func302.trans (congrArg some rK)
 f20:=⟨Tryz.f315.name,dC,Tryz.func315.trans (congrArg some rK)⟩
 f21:=⟨Tryz.f316.name,dC,Tryz.func316.trans (congrArg some rK)⟩
 f22:=⟨Tryz.f317.name,dC,Tryz.func317.trans (congrArg some rK)⟩
 f23:=⟨Tryz.f318.name,dC,Tryz.func318.trans (congrArg some rK)⟩
 f24:=⟨Tryz.f319.name,dC,Tryz.func319.trans (congrArg some rK)⟩
 f25:=⟨Tryz.f320.name,dC,Tryz.func320.trans (congrArg some rK)⟩
 f26:=⟨Tryz.f321.name,dC,Tryz.func321.trans (congrArg some rK)⟩
 f27:=⟨Tryz.f322.name,dC,Tryz.func322.trans (congrArg some rK)⟩
 f28:=Tryz.func323.trans (congrArg some rK)
 f29:=Tryz.func324.trans (congrArg some rK)
 f46:=⟨Tryz.f329.name,dC,Tryz.func329.trans (congrArg some rK)⟩
 f47:=Tryz.func330.trans (congrArg some rK)
 f48:=Tryz.func331.trans (congrArg some rK)
 f49:=⟨Tryz.f332.name,dC,Tryz.func332.trans (congrArg some rK)⟩
 f50:=⟨Tryz.f333.name,dC,Tryz.func333.trans (congrArg some rK)⟩
 f57:=⟨Tryz.f336.name,dC,Tryz.func336.trans (congrArg some rK)⟩
 t0:=Tryz.underlying0
 a0:=Tryz.isAgg0
 z0:=Tryz.sizeOf0
 v0:=Tryz.zeroValue0
 t3:=Tryz.underlying3
 a3:=Tryz.isAgg3
 z3:=Tryz.sizeOf3
 v3:=Tryz.zeroValue3
 t4:=Tryz.underlying4
 a4:=Tryz.isAgg4
 z4:=Tryz.sizeOf4
 v4:=Tryz.zeroValue4
 t5:=Tryz.underlying5
 a5:=Tryz.isAgg5
 z5:=Tryz.sizeOf5
 v5:=Tryz.zeroValue5
 t9:=Tryz.underlying9
 a9:=Tryz.isAgg9
 z9:=Tryz.sizeOf9
 v9:=Tryz.zeroValue9
 t22:=Tryz.underlying26
 a22:=Tryz.isAgg26
 z22:=Tryz.sizeOf26
 v22:=Tryz.zeroValue26
 a24:=Tryz.isAgg3
 z24:=Tryz.sizeOf3
 t25:=Tryz.underlying146
 a25:=Tryz.isAgg146
 z25:=Tryz.sizeOf146
 v25:=Tryz.zeroValue146
 t39:=Tryz.underlying312
 a39:=Tryz.isAgg312
 z39:=Tryz.sizeOf312
 v39:=Tryz.zeroValue312
 t45:=Tryz.underlying374
 a45:=Tryz.isAgg374
 z45:=Tryz.sizeOf374
 v45:=Tryz.zeroValue374
 t46:=Tryz.underlying375
 a46:=Tryz.isAgg375
 z46:=Tryz.sizeOf375
 v46:=Tryz.zeroValue375
 t50:=Tryz.underlying243
 a50:=Tryz.isAgg243
 z50:=Tryz.sizeOf243
 v50:=Tryz.zeroValue243
 t53:=Tryz.underlying365
 a53:=Tryz.isAgg365
 z53:=Tryz.sizeOf365
 v53:=Tryz.zeroValue365
 t55:=Tryz.underlying232
 a55:=Tryz.isAgg232
 z55:=Tryz.sizeOf232
 v55:=Tryz.zeroValue232
 t66:=Tryz.underlying383
 a66:=Tryz.isAgg383
 z66:=Tryz.sizeOf383
 v66:=Tryz.zeroValue383
 t70:=Tryz.underlying150
 a70:=Tryz.isAgg150
 z70:=Tryz.sizeOf150
 v70:=Tryz.zeroValue150
 t76:=Tryz.underlying388
 a76:=Tryz.isAgg388
 z76:=Tryz.sizeOf388
 v76:=Tryz.zeroValue388
 t77:=Tryz.underlying100
 a77:=Tryz.isAgg100
 z77:=Tryz.sizeOf100
 v77:=Tryz.zeroValue100}
def YtolbhkcajhlllaaGreatDoor.trimL_ren:Go.Shelf.Ren:=⟨λ|160=>88 |232=>116 |231=>115 |227=>117 |234=>119 |233=>118 |236=>121 |235=>120 |228=>164 |271=>167 |151=>166 |197=>165 |120=>209 |152=>208 |260=>207 |137=>247 |119=>248 |224=>249 |225=>250 |217=>287 |266=>303 |n=>n,λ|9=>9 |4=>4 |3=>3 |5=>5 |117=>197 |116=>196 |0=>0 |124=>200 |21=>21 |105=>240 |46=>312 |119=>311 |139=>315 |138=>314 |n=>n,λ|3=>4 |4=>5 |n=>n⟩
theorem YtolbhkcajhlllaaGreatDoor.trimL:Go.Proofs.Lays.n160 Tryz.prog YtolbhkcajhlllaaGreatDoor.trimL_ren:={
 mixed:=rK
 f119:=Tryz.func248.trans (congrArg some rK)
 f120:=Tryz.func209.trans (congrArg some rK)
 f137:=Tryz.func247.trans (congrArg some rK)
 f151:=Tryz.func166.trans (congrArg some rK)
 f152:=Tryz.func208.trans (congrArg some rK)
 f160:=Tryz.func88.trans (congrArg some rK)
 f197:=Tryz.func165.trans (congrArg some rK)
 f217:=Tryz.func287.trans (congrArg some rK)
 f224:=Tryz.func249.trans (congrArg some rK)
 f225:=Tryz.func250.trans (congrArg some rK)
 f227:=Tryz.func117.trans (congrArg some rK)
 f228:=Tryz.func164.trans (congrArg some rK)
 f231:=Tryz.func115.trans (congrArg some rK)
 f232:=Tryz.func116.trans (congrArg some rK)
 f233:=Tryz.func118.trans (congrArg some rK)
 f234:=Tryz.func119.trans (congrArg some rK)
 f235:=Tryz.func120.trans (congrArg some rK)
 f236:=Tryz.func121.trans (congrArg some rK)
 f260:=Tryz.func207.trans (congrArg some rK)
 f266:=Tryz.func303.trans (congrArg some rK)
 f271:=Tryz.func167.trans (congrArg some rK)
 t0:=Tryz.underlying0
 a0:=Tryz.isAgg0
 z0:=Tryz.sizeOf0
 v0:=Tryz.zeroValue0
 t3:=Tryz.underlying3
 a3:=Tryz.isAgg3
 z3:=Tryz.sizeOf3
 v3:=Tryz.zeroValue3
 t4:=Tryz.underlying4
 a4:=Tryz.isAgg4
 z4:=Tryz.sizeOf4
 v4:=Tryz.zeroValue4
 t5:=Tryz.underlying5
 a5:=Tryz.isAgg5
 z5:=Tryz.sizeOf5
 v5:=Tryz.zeroValue5
 t9:=Tryz.underlying9
 a9:=Tryz.isAgg9
 z9:=Tryz.sizeOf9
 v9:=Tryz.zeroValue9
 t21:=Tryz.underlying21
 a21:=Tryz.isAgg21
 z21:=Tryz.sizeOf21
 v21:=Tryz.zeroValue21
 t46:=Tryz.underlying312
 a46:=Tryz.isAgg312
 z46:=Tryz.sizeOf312
 v46:=Tryz.zeroValue312
 t105:=Tryz.underlying240
 a105:=Tryz.isAgg240
 z105:=Tryz.sizeOf240
 v105:=Tryz.zeroValue240
 t116:=Tryz.underlying196
 a116:=Tryz.isAgg196
 z116:=Tryz.sizeOf196
 t117:=Tryz.underlying197
 a117:=Tryz.isAgg197
 z117:=Tryz.sizeOf197
 v117:=Tryz.zeroValue197
 t119:=Tryz.underlying311
 a119:=Tryz.isAgg311
 z119:=Tryz.sizeOf311
 t124:=Tryz.underlying200
 a124:=Tryz.isAgg200
 z124:=Tryz.sizeOf200
 v124:=Tryz.zeroValue200
 t138:=Tryz.underlying314
 a138:=Tryz.isAgg314
 z138:=Tryz.sizeOf314
 v138:=Tryz.zeroValue314
 t139:=Tryz.underlying315
 a139:=Tryz.isAgg315
 z139:=Tryz.sizeOf315
 v139:=Tryz.zeroValue315
 g3:=rK
 g4:=rK}
def YtolbhkcajhlllaaGreatDoor.joinL_ren:Go.Shelf.Ren:=⟨λ|156=>231 |165=>258 |166=>259 |169=>260 |240=>291 |241=>292 |276=>308 |277=>309 |n=>n,λ|31=>119 |9=>9 |3=>3 |4=>4 |0=>0 |20=>20 |72=>324 |76=>325 |70=>322 |37=>50 |75=>89 |127=>348 |164=>362 |5=>5 |80=>294 |n=>n,λ|n=>n⟩
theorem YtolbhkcajhlllaaGreatDoor.joinL:Go.Proofs.Lays.n156 Tryz.prog YtolbhkcajhlllaaGreatDoor.joinL_ren:={
 mixed:=rK
 f156:=Tryz.func231.trans (congrArg some rK)
 f165:=Tryz.func258.trans (congrArg some rK)
 f166:=Tryz.func259.trans (congrArg some rK)
 f169:=Tryz.func260.trans (congrArg some rK)
 f240:=Tryz.func291.trans (congrArg some rK)
 f241:=Tryz.func292.trans (congrArg some rK)
 f276:=Tryz.func308.trans (congrArg some rK)
 f277:=Tryz.func309.trans (congrArg some rK)
 t0:=Tryz.underlying0
 a0:=Tryz.isAgg0
 z0:=Tryz.sizeOf0
 v0:=Tryz.zeroValue0
 t3:=Tryz.underlying3
 a3:=Tryz.isAgg3
 z3:=Tryz.sizeOf3
 v3:=Tryz.zeroValue3
 t4:=Tryz.underlying4
 a4:=Tryz.isAgg4
 z4:=Tryz.sizeOf4
 v4:=Tryz.zeroValue4
 t9:=Tryz.underlying9
 a9:=Tryz.isAgg9
 z9:=Tryz.sizeOf9
 v9:=Tryz.zeroValue9
 t20:=Tryz.underlying20
 a20:=Tryz.isAgg20
 z20:=Tryz.sizeOf20
 v20:=Tryz.zeroValue20
 t31:=Tryz.underlying119
 a31:=Tryz.isAgg119
 z31:=Tryz.sizeOf119
 v31:=Tryz.zeroValue119
 t37:=Tryz.underlying50
 a37:=Tryz.isAgg50
 z37:=Tryz.sizeOf50
 v37:=Tryz.zeroValue50
 t70:=Tryz.underlying322
 a70:=Tryz.isAgg322
 z70:=Tryz.sizeOf322
 v70:=Tryz.zeroValue322
 t72:=Tryz.underlying324
 a72:=Tryz.isAgg324
 z72:=Tryz.sizeOf324
 v72:=Tryz.zeroValue324
 t75:=Tryz.underlying89
 a75:=Tryz.isAgg89
 z75:=Tryz.sizeOf89
 v75:=Tryz.zeroValue89
 t76:=Tryz.underlying325
 a76:=Tryz.isAgg325
 z76:=Tryz.sizeOf325
 v76:=Tryz.zeroValue325
 t127:=Tryz.underlying348
 a127:=Tryz.isAgg348
 z127:=Tryz.sizeOf348
 v127:=Tryz.zeroValue348
 t164:=Tryz.underlying362
 a164:=Tryz.isAgg362
 z164:=Tryz.sizeOf362
 v164:=Tryz.zeroValue362}
end Go.Proofs
namespace Go.Proofs.YtolbhkcajhlllaaGreatDoor
open Go Go.Vc Go.Proofs
section
variable {w:World} {K:oK} {F G:Nat->Prop}
theorem dw_nil {α:Type} {p:α->Bool}:∀{l:List α},l.dropWhile p=[]↔ ∀x,x∈l->p x=true
 |[]=>by simp
 |a::l=>by
  rw[Pl];split
  ·rename_i h;rw[dw_nil];constructor
   ·intro b x c;rcases X0.1 c with rfl|c
    ·exact h
    ·exact b x c
   ·intro b x c;exact b x (gh _ c)
  ·rename_i h;constructor
   ·intro b;cases b
   ·intro b;exact absurd (b a gd) h
theorem dw_head {α:Type} {p:α->Bool}:∀{l:List α},l.dropWhile p≠[]->∃x,x∈l.dropWhile p/\p x=false
 |[],h=>absurd rfl h
 |a::l,h=>by
  rw[Pl] at h⊢;split
  ·rename_i b;rw[if_pos b] at h;exact dw_head h
  ·rename_i b;exact⟨a,gd,by simpa using b⟩
theorem dw_sub {α:Type} {p:α->Bool}:∀{l:List α} {x:α},x∈l.dropWhile p->x∈l
 |[],_,h=>h
 |a::l,x,h=>by
  rw[Pl] at h;split at h
  ·exact gh _ (dw_sub h)
  ·exact h
theorem k50 {l cs:List UInt8}:Lib.trimS l cs=[]↔ ∀x,x∈l->cs.contains x=true:=by
 unfold Lib.trimS Lib.trimLeftS Lib.trimRightS;rw[dw_nil];constructor
 ·intro h;by_cases a:∀x,x∈l->cs.contains x=true
  ·exact a
  ·exfalso;have b:List.dropWhile (λx=>cs.contains x) l.reverse≠[]:=λe=>a λx c=>dw_nil.1 e x (p0.2 c);obtain⟨y,g,f⟩:=dw_head b;have d:=h y (p0.2 g);rw[f] at d;cases d
 ·intro h x c;exact h x (p0.1 (dw_sub (p0.1 c)))
def abc:ByteArray:=⟨#[97,98,99,100,101,102,103,104,105,106,107,108,109,110,111,112,113,114,115,116,117,118,119,120,121,122]⟩
theorem abc_in (x:UInt8):abc.data.toList.contains x=(decide (97<=x.toNat)&&decide (x.toNat<=122)):=by
 have a:∀n:Fin 256,abc.data.toList.contains (UInt8.ofNat n.1)=(decide (97<=(UInt8.ofNat n.1).toNat)&&decide ((UInt8.ofNat n.1).toNat<=122)):=by decide+kernel
 have:=a ⟨x.toNat,x.toNat_lt⟩;simpa using this
theorem y00 {w w':World} (h:Go.RowKit.Below w.heap.size w w'):Ext w w':=⟨h.os,h.tape,h.output,h.size,λb a _=>h.block b a⟩
def zG0 (s:ByteArray):Bool:=s.data.all λc=>decide (97<=c.toNat)&&decide (c.toNat<=122)
theorem jm0 {s:ByteArray} (hs:s.size<=9223372036854775807) (f:∀w' r,Ext w w'->(r=⟨#[]⟩↔zG0 s=true)->K (.string r) w'):vcall KH #[.string s,.string abc] w K:=by
 refine⟨rK,?_⟩;refine(Any.strings_Trim_laid YtolbhkcajhlllaaGreatDoor.trimL rK s abc w hs dC (ascii_of_all dC)).mono ?_;rintro e w' ⟨rfl,g⟩;refine f w' _ (y00 g) ?_;have c:((⟨(Lib.trimS s.data.toList abc.data.toList).toArray⟩:ByteArray)=⟨#[]⟩)↔Lib.trimS s.data.toList abc.data.toList=[]:=by
  constructor
  ·intro h;have d:=congrArg (λb:ByteArray=>b.data.toList) h;simpa using d
  ·intro h;rw[h]
 rw[c,k50];unfold zG0;rw[G9];constructor
 ·intro h x a;rw[<-abc_in];exact h x (pA.2 a)
 ·intro h x a;rw[abc_in];exact h x (pA.1 a)
theorem stDecl {b:Nat} {x y:Value} {t:TypeId} {s:ByteArray} {n:Int} (h:Blk w b [x,y] t) (c:∀w',Same (· =b) w w'->w'.heap.size=w.heap.size->Blk w' b [.string s,nI n] t->K undef w'):zR xp (oP b 0) (.agg ⟨[.string s,nI n]⟩) w K:=
 h.stAgg rfl rK (by intro v a;simp only[X0,gm,or_false] at a;rcases a with rfl|rfl<;>rfl) c
theorem Zx (s:ByteArray):M.nameOk s=(decide (1<=s.size)&&decide (s.size<=4)&&decide (s≠M.tru)&&zG0 s):=rfl
theorem DeclOk_spec {v:Value} {ds:List M.Dcl} (N:DclsR F w v ds) (D:∀w',Ext w w'->K (.bool (M.declOk ds)) w'):vcall WY #[v] w K:=by
 refine zg {loops:=[(5,[3,11])],cuts:=[(32777,[])]} Tryz.func59 ?_;simp only[push_cast,N.len];refine zb (λa=>?_) (λa=>?_)
 ·have:=D w (Same.refl _ _);rwa[show M.declOk ds=false from by rw[GF];intro h;have:=(M.decl_iff.1 h).1;omega] at this
 refine vloop_up ds.length (λi u w'=>u=[nI (M.bitT ds i),nI i]/\Ext w w'/\(∀j,j<i->M.dclOk ds j=true)/\ -4*(i:Int)<=M.bitT ds i/\M.bitT ds i<=4*i) ⟨rfl,Same.refl _ _,oM,by simp[M.bitT],by simp[M.bitT]⟩ ?_;rintro i _ _ w1 C hi ⟨rfl,o,q,a0,a1⟩ hC;have E:=N.ext o;simp only[push_cast];refine zb (λb=>?_) (λb=>?_)
 ·have z:i<ds.length:=oM;have d:M.dclOk ds i=false->∀w',Ext w w'->K (.bool false) w':=λe w' he=>by
   have:=D w' he;rwa[show M.declOk ds=false from by rw[GF];intro h;have:=(M.decl_iff.1 h).2.1 i z;rw[e] at this;cases this] at this
  unfold M.dclOk at d;rw[Zx] at d;simp(disch:=first|(simp only[push_cast])|omega) only[push_cast,E.iaddr,E.load];obtain⟨s,n,B⟩:∃s n,ds.getD i yY0=(s,n):=⟨_,_,rfl⟩;simp only[B] at d⊢;refine zi xY λb1 w2 U O a4 X=>?_;refine stDecl X λW R _ S=>?_;have a6:=o.size;have k:Ext w W:=Ext.then (o.trans O) R λy hy=>by subst hy;omega
  refine zq (λu w'=>u=[]/\Ext W w'/\M.nameOk s=true) (λC' L=>?_) ?_
  ·simp(disch:=first|(simp only[push_cast])|omega) only[push_cast,S.ld0,Xm kO];refine zb (λc=>?_) (λc=>?_)
   ·exact d (by rw[decide_eq_false (show¬1<=s.size by omega)];simp) _ k
   refine zb (λc2=>?_) (λc2=>?_)
   ·exact d (by rw[decide_eq_false (show¬s.size<=4 by omega)];simp) _ k
   refine zb (λc3=>?_) (λc3=>?_)
   ·exact d (by rw[show decide (s≠M.tru)=false from decide_eq_false (λh=>h c3)];simp) _ k
   refine jm0 oM λw4 r l V=>?_;simp only[push_cast];refine zb (λI=>?_) (λI=>?_)
   ·have:zG0 s=false:=by
     rw[GF];exact λh=>I (V.2 h)
    exact d (by rw[this];simp) _ (k.trans l)
   ·have J:r=⟨#[]⟩:=by
     by_cases h:r=⟨#[]⟩
     ·exact h
     ·exact absurd h I
    refine L _ _ ⟨rfl,l,?_⟩;rw[Zx,decide_eq_true (show 1<=s.size by omega),decide_eq_true (show s.size<=4 by omega),show decide (s≠M.tru)=true from decide_eq_true c3,V.1 J];rfl
  ·rintro u g w4 ⟨rfl,l,A⟩;have T:=S.ext l;have f:=k.trans l;have G:=N.ext f;rw[Zx] at A;rw[A] at d;rw[G.cut (by intro e;subst e;simp at z) rK oM];simp only[push_cast];have a3:(ds.take i).length=i:=by rw[V0];omega
   refine QQ (p:=λj=>decide (((ds.take i).getD j yY0).1=s)) (G.taken oM) (λj hj=>?_) λw5 m=>?_
   ·intro w' K he D;simp only[push_cast];refine zg {} Tryz.func90 ?_;refine zj λb3 w6 a2 H a5 Z=>?_;have h7:=(T.ext he).ext H;simp(disch:=first|(simp only[push_cast])|omega) only[push_cast,Z.ld0,h7.ld0];exact D _ H
   ·rw[<-Xc];have Y:=T.ext m;have efd:idxI (ds.take i).length (λj=>decide (((ds.take i).getD j yY0).1=s))=M.findD (ds.take i) s:=rfl;rw[efd];refine zb (λc=>?_) (λc=>?_)
    ·exact d (by rw[decide_eq_false (show¬M.findD (ds.take i) s<0 by omega)];simp) _ (f.trans m)
    simp(disch:=first|(simp only[push_cast])|omega) only[push_cast,Y.ld1];refine zb (λc1=>?_) (λc1=>?_)
    ·exact d (by rw[decide_eq_false (show¬1<=n by omega)];simp) _ (f.trans m)
    refine zb (λc2=>?_) (λc2=>?_)
    ·exact d (by rw[decide_eq_false (show¬n<=4 by omega)];simp) _ (f.trans m)
    have t:=M.bitT_succ z;rw[show ds.getD i (M.nada,0)=(s,n) from B] at t;rw[zk (x:=M.bitT ds i+n) oM oM,inc64' oM,show M.bitT ds i+n=M.bitT ds (i+1) from t.symm];refine hC oM _ _ ⟨rfl,f.trans m,λj hj=>?_,oM,oM⟩;by_cases e:j=i
    ·subst e;unfold M.dclOk;rw[show ds.getD j (M.nada,0)=(s,n) from B,Zx,A];simp only[pn,K3,decide_eq_true_eq];exact⟨⟨oM,oM⟩,oM⟩
    ·exact q j oM
 ·have Q:i=ds.length:=oM;subst Q;have:=D w1 o;rw[M.bitT_all];have e:M.declOk ds=decide (M.bits ds<=8):=by
   rw[PG,M.decl_iff,decide_eq_true_eq];exact⟨λh=>h.2.2,λh=>⟨oM,q,h⟩⟩
  rwa[e] at this
theorem TermSort_spec {dv v:Value} {ds:List M.Dcl} {t:M.Tm} (r:DclsR F w dv ds) (z:TermR G w v t) (q:∀w',Ext w w'->K (nI (M.tsort ds t)) w'):vcall K8 #[dv,v] w K:=by
 refine zg {ord:=[oz 4 [1,2,0,3,4] [(1,[2,0]),(2,[0])]]} Tryz.func39 ?_;obtain⟨cs,rfl,c⟩:=z.cells;refine zj λb1 w1 u g y n=>?_;rw[n.ldAgg (t:=za) (by rw[zW c];exact zc)];refine TermMany_spec (c.ext g).term λw2 i=>?_;simp only[push_cast];have e:=g.trans i;refine DeclOk_spec (r.ext e) λA j=>?_;have f:=e.trans j;have m:=q A f;unfold M.tsort at m;simp only[push_cast];refine zo (λa=>?_) (λa=>?_)
 ·rwa[if_neg (λh=>by rw[h.2] at a;cases a)] at m
 ·rw[gJ] at a;refine zb (λb=>?_) (λb=>?_)
  ·rw[if_neg (λh=>by
    have n:=M.fits_iff.1 h.1;unfold M.manyM at b;rw[if_pos h.1] at b;omega)] at m
   exact m
  ·have x:M.fits t=true:=by
    by_cases h:M.fits t=true
    ·exact h
    ·unfold M.manyM at b;rw[if_neg h] at b;omega
   refine zd λC k _=>?_;have p:=((n.ext i).ext j).ext k;rw[p.ldAgg (t:=za) (by rw[zW c];exact zc)];refine⟨rfl,VX λD mb l hm=>?_⟩;have s:=p.ext l;rw[s.ldAgg (t:=za) (by rw[zW c];exact zc)];have d:=(f.trans k).trans l;refine⟨⟨rfl,rfl⟩,sortOf_spec t hm (r.ext d) a (c.ext d).term λB o=>?_⟩;have:=q B (d.trans o);unfold M.tsort at this;rwa[if_pos ⟨x,a⟩] at this
end
section
variable {w:World} {K:oK} {F G:Nat->Prop}
theorem l2Name_spec {s:ByteArray} (hs:s.size<=9223372036854775807) (d:K (.bool (M.nameOk s)) w):vcall Wy #[.string s] w K:=by
 refine zg {loops:=[(2,[3])]} Tryz.func66 ?_;rw[Zx] at d;refine vloop_up s.size (λi u w'=>u=[nI i]/\w'=w/\∀j,j<i->(decide (97<=(s.data.getD j 0).toNat)&&decide ((s.data.getD j 0).toNat<=122))=true) ⟨rfl,rfl,oM⟩ ?_;rintro i _ _ w1 C hi ⟨rfl,rfl,g⟩ o;simp(disch:=first|(simp only[push_cast])|omega) only[push_cast,Xm kO];have l:i<s.size->(decide (97<=(s.data.getD i 0).toNat)&&decide ((s.data.getD i 0).toNat<=122))=false->zG0 s=false:=λf h=>by
  rw[GF];intro k;unfold zG0 at k;rw[G9] at k;have m:i<s.data.size:=f;have:=k (s.data.getD i 0) (by rw[gE,Gg m];exact Array.getElem_mem m);rw[h] at this;cases this
 refine zb (λa=>?_) (λa=>?_)
 ·have f:i<s.size:=oM;rw[vindex_str kO oM oM,gi];simp only[push_cast];refine zb (λb=>?_) (λb=>?_)
  ·rw[l f (by rw[decide_eq_false (show¬97<=(s.data.getD i 0).toNat by omega)];rfl),pf] at d;exact d
  rw[vindex_str kO oM oM,gi];simp only[push_cast];refine zb (λc=>?_) (λc=>?_)
  ·rw[l f (by rw[decide_eq_false (show¬(s.data.getD i 0).toNat<=122 by omega)];simp),pf] at d;exact d
  rw[inc64' oM];refine o f _ _ ⟨rfl,rfl,λj n=>?_⟩;by_cases e:j=i
  ·subst e;simp only[K3,decide_eq_true_eq];omega
  ·exact g j oM
 ·have p:i=s.size:=oM;have k:zG0 s=true:=by
   unfold zG0;rw[G9];intro x q;obtain⟨j,n,rfl⟩:=Array.getElem_of_mem q;have:=g j (by have:s.data.size=s.size:=rfl;omega);rwa[gE,Gg n] at this
  rw[k,Pc] at d
  try simp(disch:=first|(simp only[push_cast])|omega) only[push_cast,Xm kO]
  refine zb (λb=>?_) (λb=>?_)
  ·refine zb (λc=>?_) (λc=>?_)
   ·rw[decide_eq_true (show 1<=s.size by omega),decide_eq_true (show s.size<=4 by omega)] at d;exact d
   ·rw[decide_eq_false (show¬s.size<=4 by omega)] at d;simpa using d
  ·rw[decide_eq_false (show¬1<=s.size by omega)] at d;simpa using d
theorem l2Find_spec {v:Value} {ds:List M.Dcl} {s:ByteArray} (f:DclsR F w v ds) (d:K (nI (M.findD ds s)) w):vcall Wz #[v,.string s] w K:=by
 refine zg {loops:=[(2,[5])]} Tryz.func67 ?_;have k:=f.small;refine vloop_up ds.length (λi u w'=>u=[nI i]/\w'=w/\∀j,j<i->(ds.getD j yY0).1≠s) ⟨rfl,rfl,oM⟩ ?_;rintro i _ _ w1 C hi ⟨rfl,rfl,c⟩ g;simp only[push_cast,f.len];refine zb (λa=>?_) (λa=>?_)
 ·try simp(disch:=first|(simp only[push_cast])|omega) only[push_cast,f.iaddr]
  try simp(disch:=first|(simp only[push_cast])|omega) only[push_cast,f.load0]
  refine zb (λb=>?_) (λb=>?_)
  ·rw[M.findD_of oM b c] at d;exact d
  ·rw[inc64' oM];refine g oM _ _ ⟨rfl,rfl,λj h=>?_⟩;by_cases e:j=i
   ·subst e;exact b
   ·exact c j oM
 ·rw[M.findD_none (λj h=>c j oM)] at d;exact d
theorem spec_DeclOk_spec {v:Value} {ds:List M.Dcl} (E:DclsR F w v ds) (D:∀i,i<ds.length->(ds.getD i yY0).1.size<=9223372036854775807) (A:∀w',Ext w w'->K (.bool (M.declOk ds)) w'):vcall WH #[v] w K:=by
 refine zg {ord:=[oz 7 (oR 35) [(0,[1]),(8,[9]),(16,[17]),(24,[25,27,28,29,30,31]),(25,[27,28,29,30,31]),(26,[27,28,29,30,31]),(27,[28])]],loops:=[(5,[3,4])]} Tryz.func43 ?_;simp only[push_cast,E.len];refine zb (λa=>?_) (λa=>?_)
 ·have:=A w (Same.refl _ _);rwa[show M.declOk ds=false from by rw[GF];intro h;have:=(M.decl_iff.1 h).1;omega] at this
 refine vloop_up ds.length (λi u w'=>u=[nI (M.bitT ds i),nI i]/\Ext w w'/\(∀j,j<i->M.dclOk ds j=true)/\ -4*(i:Int)<=M.bitT ds i/\M.bitT ds i<=4*i) ⟨rfl,Same.refl _ _,oM,by simp[M.bitT],by simp[M.bitT]⟩ ?_;rintro i _ _ w1 C hi ⟨rfl,p,m,H,I⟩ G;have r:=E.ext p;simp only[push_cast,r.len];refine zb (λb=>?_) (λb=>?_)
 ·have g:i<ds.length:=oM;have f:M.dclOk ds i=false->∀w',Ext w w'->K (.bool false) w':=λe w' he=>by
   have:=A w' he;rwa[show M.declOk ds=false from by rw[GF];intro h;have:=(M.decl_iff.1 h).2.1 i g;rw[e] at this;cases this] at this
  unfold M.dclOk at f;refine zd λw2 t _=>?_;have d:=r.ext t;have k:=p.trans t;simp(disch:=first|(simp only[push_cast])|omega) only[push_cast,d.iaddr,true_and];simp(disch:=first|(simp only[push_cast])|omega) only[push_cast,d.load0,d.load1,true_and];have y:=D i g;have o:=M.bitT_succ g;obtain⟨s,n,l⟩:∃s n,ds.getD i yY0=(s,n):=⟨_,_,rfl⟩;rw[show ds.getD i (M.nada,0)=(s,n) from l] at o;simp only[l] at f y⊢;refine l2Name_spec y ?_;simp only[push_cast,true_and];refine zo (λc=>?_) (λc=>?_)
  ·exact f (by rw[show M.nameOk s=false by simpa using c];simp) _ k
  rw[gJ] at c;rw[c] at f;have ecut:∀(w:World) (K:oK),xq x8 v none (some (nI (i:Int))) none w K=K (cutV v i) w:=λw K=>d.cut (by intro e;subst e;simp at g) rK oM;have z:∀(K:oK),zu yp (.pointer (some ((eaddr v 2 i).add 0))) w2 K=K (.string s) w2:=λK=>(by rw[d.load0 kg0 g,l]);have q:∀(K:oK),zu zC (.pointer (some ((eaddr v 2 i).add 1))) w2 K=K (nI n) w2:=λK=>by rw[d.load1 Wf g,l]
  try simp(disch:=first|(simp only[push_cast])|omega) only[push_cast,d.iaddr,true_and]
  try simp(disch:=first|(simp only[push_cast])|omega) only[push_cast,d.iaddr,z,q,ecut,true_and]
  refine zb (λc1=>?_) (λc1=>?_)
  ·exact f (by rw[decide_eq_false (show¬1<=n by omega)];simp) _ k
  refine zb (λc2=>?_) (λc2=>?_)
  ·exact f (by rw[decide_eq_false (show¬n<=4 by omega)];simp) _ k
  refine l2Find_spec (d.taken oM) ?_;simp only[push_cast,true_and];refine zb (λc3=>?_) (λc3=>?_)
  ·exact f (by rw[decide_eq_false (show¬M.findD (ds.take i) s<0 by omega)];simp) _ k
  try simp(disch:=first|(simp only[push_cast])|omega) only[push_cast,d.iaddr]
  try simp(disch:=first|(simp only[push_cast])|omega) only[push_cast,q]
  rw[zk (x:=M.bitT ds i+n) oM oM,inc64' oM,show M.bitT ds i+n=M.bitT ds (i+1) from o.symm];refine G oM _ _ ⟨rfl,k,λj J=>?_,oM,oM⟩;by_cases e:j=i
  ·subst e;unfold M.dclOk;rw[show ds.getD j (M.nada,0)=(s,n) from l,c];simp only[pn,K3,decide_eq_true_eq];exact⟨⟨oM,oM⟩,oM⟩
  ·exact m j oM
 ·have B:i=ds.length:=oM;subst B;have:=A w1 p;rw[M.bitT_all];have e:M.declOk ds=decide (M.bits ds<=8):=by
   rw[PG,M.decl_iff,decide_eq_true_eq];exact⟨λh=>h.2.2,λh=>⟨oM,m,h⟩⟩
  rwa[e] at this
theorem spec_TermMany_spec:∀(t:M.Tm) {w:World} {K:oK} {F:Nat->Prop} {v:Value},TermR F w v t->(∀w',Ext w w'->K (.tuple #[nI (M.manyM t),nI (M.lvlM t)]) w')->vcall JT #[v] w K:=by
 refine M.Tm.ind λt ih w K F v ht R=>?_;refine zg {loops:=[(4,[4,5,6])],cuts:=[(20486,[])]} Tryz.func68 ?_;obtain⟨ksv,rfl,y⟩:=ht;refine zj λb1 w1 S B a1 O=>?_;have a2:=y.small;have hS:=M.szT_all t;have hD:=M.dpT_all t;have k:M.fits t=true↔M.sizeM t<=20/\M.deepM t<=7:=M.fits_iff;refine vloop_up t.ks.length (λi u w'=> ∃n d:Nat,u=[nI n,nI d,nI i]/\Ext w1 w'/\n<=41/\d<=8/\(1+M.szT t.ks i<=20/\M.dpT t.ks i<=7->n=1+M.szT t.ks i/\d=M.dpT t.ks i)/\(¬(1+M.szT t.ks i<=20/\M.dpT t.ks i<=7)->20<n\/7<d))
  ⟨1,0,rfl,Same.refl _ _,oM,oM,λh=>⟨rfl,rfl⟩,λh=>by
   have I:M.szT t.ks 0=0:=rfl;have e2:M.dpT t.ks 0=0:=rfl;omega⟩ ?_
 rintro i _ _ w2 C hi ⟨n,d,rfl,o,c1,c2,c3,H⟩ Q;have J:=O.ext o;have L:=B.trans o;have l:=y.ext L;have V:=M.szT_mono (ks:=t.ks) (i:=i) (j:=t.ks.length) oM (gp _);have W:=M.dpT_mono (ks:=t.ks) (i:=i) (j:=t.ks.length) oM (gp _);have I:IntKind.i64.wrap ((d:Int)+1)=((d+1:Nat):Int):=inc64' oM;have m:(20<n\/i=t.ks.length)->∀q,(q=K)->vif (.bool (decide ((20:Int)<n))) (q (.tuple #[nI 21,nI 8]) w2) (vif (.bool (decide ((7:Int)<((d+1:Nat):Int)))) (q (.tuple #[nI 21,nI 8]) w2) (q (.tuple #[nI (n:Int),nI ((d+1:Nat):Int)]) w2)):=by
  rintro a0 q rfl;have p:=R w2 L;unfold M.manyM M.lvlM at p;have c:(20<n\/7<d+1)->¬(M.fits t=true):=λh T=>by
   have N:=k.1 T;have:=c3 oM;omega
  refine zb (λa=>?_) (λa=>?_)
  ·rw[if_neg (c oM),if_neg (c oM)] at p;exact p
  refine zb (λb=>?_) (λb=>?_)
  ·rw[if_neg (c oM),if_neg (c oM)] at p;exact p
  ·have E:i=t.ks.length:=oM;subst E;have r:M.sizeM t<=20/\M.deepM t<=7:=by
    by_cases h:1+M.szT t.ks t.ks.length<=20/\M.dpT t.ks t.ks.length<=7
    ·have:=c3 h;omega
    ·have:=H h;omega
   have h3:=c3 oM;rw[if_pos (k.2 r),if_pos (k.2 r)] at p;rw[show n=M.sizeM t by omega,show d+1=M.deepM t by omega];exact p
 refine zq (λu w'=>u=[]/\w'=w2/\i<t.ks.length/\n<=20) (λC' z=>?_) ?_
 ·simp only[push_cast,J.ld4,l.len,I];refine zb (λa=>?_) (λa=>?_)
  ·refine zb (λb=>?_) (λb=>?_)
   ·exact z _ _ ⟨rfl,rfl,oM,oM⟩
   ·exact m (.inl oM) K rfl
  ·exact m (.inr oM) K rfl
 ·rintro u g w3 ⟨rfl,rfl,U,hn⟩;have X:=M.szT_succ (ks:=t.ks) (i:=i) oM;have Y:=M.dpT_succ (ks:=t.ks) (i:=i) oM;have Z:=M.szT_mono (ks:=t.ks) (i:=i+1) (j:=t.ks.length) oM (gp _);simp(disch:=first|(simp only[push_cast])|omega) only[push_cast,J.ld4,l.iaddr];refine l.load zc oM λx N=>?_;refine ih _ (M.getD_mem oM _) N λw4 D=>?_;have f:=M.fits_iff (t:=t.ks.getD i default);have G:M.manyM (t.ks.getD i default)<=21:=by
   unfold M.manyM;split
   ·have:=f.1 (by assumption);omega
   ·omega
  have A:M.lvlM (t.ks.getD i default)<=8:=by
   unfold M.lvlM;split
   ·have:=f.1 (by assumption);omega
   ·omega
  have e:M.sizeM (t.ks.getD i default)<=20/\M.deepM (t.ks.getD i default)<=7->M.manyM (t.ks.getD i default)=M.sizeM (t.ks.getD i default)/\M.lvlM (t.ks.getD i default)=M.deepM (t.ks.getD i default):=λh=>by
   unfold M.manyM M.lvlM;rw[if_pos (f.2 h),if_pos (f.2 h)];exact⟨rfl,rfl⟩
  have c: ¬(M.sizeM (t.ks.getD i default)<=20/\M.deepM (t.ks.getD i default)<=7)->M.manyM (t.ks.getD i default)=21/\M.lvlM (t.ks.getD i default)=8:=λh=>by
   unfold M.manyM M.lvlM;rw[if_neg (λx=>h (f.1 x)),if_neg (λx=>h (f.1 x))];exact⟨rfl,rfl⟩
  generalize M.manyM (t.ks.getD i default)=nk at G e c⊢;generalize M.lvlM (t.ks.getD i default)=dk at A e c⊢;simp only[push_cast];refine l1Max_spec ?_
  try simp only[push_cast]
  rw[inc64' oM,zk (x:=(n:Int)+nk) oM oM,show(n:Int)+(nk:Int)=((n+nk:Nat):Int) by omega,show max (d:Int) (dk:Int)=((max d dk:Nat):Int) by omega];refine Q oM _ _ ⟨n+nk,max d dk,rfl,o.trans D,oM,oM,λh=>?_,λh=>?_⟩
  ·have:=c3 oM;have:=e oM;omega
  ·by_cases r:M.sizeM (t.ks.getD i default)<=20/\M.deepM (t.ks.getD i default)<=7
   ·have h5:=e r;by_cases s:1+M.szT t.ks i<=20/\M.dpT t.ks i<=7
    ·have:=c3 s;omega
    ·have:=H s;omega
   ·have:=c r;omega
end
section
variable {w:World} {K:oK} {F G:Nat->Prop}
theorem l2Arity_spec {o:Int} (h:K (nI (M.arity o)) w):vcall KW #[nI o] w K:=by
 refine zg {cuts:=[(12293,[4])]} Tryz.func130 ?_;have f:∀c,M.arity o=c->K (nI c) w:=λc e=>e▸h;refine zq (λu w'=>u=[.bool (decide (o=20\/o=21\/o=24))]/\w'=w) (λC d=>?_) ?_
 ·simp only[push_cast];refine zb (λa=>?_) (λa=>?_)
  ·exact d _ _ ⟨by rw[decide_eq_true a,decide_eq_true (.inl a)],rfl⟩
  refine zb (λb=>?_) (λb=>?_)
  ·exact d _ _ ⟨by rw[decide_eq_true b,decide_eq_true (.inr (.inl b))],rfl⟩
  ·refine d _ _ ⟨?_,rfl⟩;by_cases c:o=24
   ·rw[decide_eq_true c,decide_eq_true (.inr (.inr c))]
   ·rw[decide_eq_false c,decide_eq_false oM]
 ·rintro u g w1 ⟨rfl,rfl⟩;simp only[push_cast]
  repeat' first
   |exact f _ (by
    unfold M.arity;repeat' split
    all_goals omega)
   |refine zb (λ_=>?_) (λ_=>?_)
theorem zL0 {v:Value} {t:M.Tm} (A:TermR F w v t) (p:∀w',Ext w w'->K (.bool (M.formed t)) w'):vcall KU #[v] w K:=by
 refine zg {ord:=[oz 5 (oR 8) [(0,[3,4,5]),(1,[3,4,5]),(2,[3,4,5])]],cuts:=[(8195,[]),(16389,[])]} Tryz.func94 ?_;obtain⟨ksv,rfl,o⟩:=A;refine zj λb1 w1 y j z l=>?_;have q:=p _ j;have f:M.plainM t=false->K (.bool false) w1:=λh=>by
  unfold M.formed at q;rwa[h,pf] at q
 unfold M.plainM at f;refine zq (λu w'=>u=[]/\w'=w1/\(decide (t.op=21)||decide (t.s=M.nada))=true) (λC m=>?_) ?_
 ·simp only[push_cast,l.ld0,l.ld3];refine zb (λa=>?_) (λa=>?_)
  ·refine zb (λb=>?_) (λb=>?_)
   ·exact f (by rw[decide_eq_false a,show decide (t.s=M.nada)=false from decide_eq_false b];simp)
   ·exact m _ _ ⟨rfl,rfl,by rw[show decide (t.s=M.nada)=true from decide_eq_true (GW.1 b)];simp⟩
  ·exact m _ _ ⟨rfl,rfl,by rw[decide_eq_true (GW.1 a)];simp⟩
 rintro u g w2 ⟨rfl,rfl,r⟩;rw[r,Pc] at f;refine zq (λu w'=>u=[]/\w'=w2/\(decide (t.op=20)||decide (t.op=22)||(decide (t.a=0)&&decide (t.b=0)))=true) (λC m=>?_) ?_
 ·simp only[push_cast,l.ld0,l.ld1,l.ld2];refine zb (λa=>?_) (λa=>?_)
  ·refine zb (λb=>?_) (λb=>?_)
   ·refine zb (λc=>?_) (λc=>?_)
    ·exact f (by rw[decide_eq_false a,decide_eq_false b,decide_eq_false c];simp)
    refine zb (λd=>?_) (λd=>?_)
    ·exact f (by rw[decide_eq_false a,decide_eq_false b,decide_eq_false d];simp)
    ·exact m _ _ ⟨rfl,rfl,by rw[decide_eq_true (GW.1 c),decide_eq_true (GW.1 d)];simp⟩
   ·exact m _ _ ⟨rfl,rfl,by rw[decide_eq_true (GW.1 b)];simp⟩
  ·exact m _ _ ⟨rfl,rfl,by rw[decide_eq_true (GW.1 a)];simp⟩
 rintro u g B ⟨rfl,rfl,hm⟩;refine zd λD k _=>?_;have n:=l.ext k;have i:=o.ext (j.trans k);simp only[push_cast,n.ld0,n.ld4,i.len,true_and];refine l2Arity_spec ?_;simp only[push_cast,n.ld4,i.len,true_and,and_self];have:=p _ (j.trans k);have e:M.formed t=decide ((t.ks.length:Int)=M.arity t.op):=by
  unfold M.formed M.plainM;rw[hm,r];simp only[Pc];by_cases h:M.arity t.op=t.ks.length
  ·rw[decide_eq_true h,decide_eq_true h.symm]
  ·rw[decide_eq_false h,decide_eq_false (λx=>h x.symm)]
 rwa[e] at this
theorem l2One_spec {v:Value} {t:M.Tm} {a:Int} (q:TermR F w v t) (s: -1<=a/\a<=4) (m:∀w',Ext w w'->K (nI (M.oneM t a)) w'):vcall zr0 #[v,nI a] w K:=by
 refine zg {cuts:=[(8194,[5]),(16388,[13]),(28679,[40])]} Tryz.func96 ?_;obtain⟨ksv,rfl,o⟩:=q;refine zj λb1 w1 n l p j=>?_;have k:∀c,M.oneM t a=c->K (nI c) w1:=λc e=>e▸m _ l;unfold M.oneM at k;refine zq (λu w'=>u=[.bool (decide (t.op=25/\a=0))]/\w'=w1) (λC i=>?_) ?_
 ·simp only[push_cast,j.ld0];refine zb (λb=>?_) (λb=>?_)
  ·refine i _ _ ⟨?_,rfl⟩;simp only[b,true_and]
  ·exact i _ _ ⟨by rw[decide_eq_false (λh=>b h.1)],rfl⟩
 rintro u g w2 ⟨rfl,rfl⟩;simp only[push_cast];refine zb (λb=>?_) (λb=>?_)
 ·exact k _ (by rw[if_pos b.1,if_pos b.2])
 refine zq (λu w'=>u=[.bool (decide (t.op=25\/a<1))]/\w'=w2) (λC i=>?_) ?_
 ·simp only[push_cast,j.ld0];refine zb (λc=>?_) (λc=>?_)
  ·exact i _ _ ⟨by rw[decide_eq_true (.inl c)],rfl⟩
  ·refine i _ _ ⟨?_,rfl⟩;simp only[c,false_or]
 rintro u g r ⟨rfl,rfl⟩;simp only[push_cast];refine zb (λc=>?_) (λc=>?_)
 ·exact k _ (by
   repeat' split
   all_goals omega)
 simp only[push_cast,j.ld0];refine zb (λd=>?_) (λd=>?_)
 ·refine zq (λu w'=>u=[.bool (decide (0<=t.b/\t.b<=t.a/\t.a<a))]/\w'=r) (λC i=>?_) ?_
  ·simp only[push_cast,j.ld1,j.ld2];refine zb (λe=>?_) (λe=>?_)
   ·refine zb (λf=>?_) (λf=>?_)
    ·refine i _ _ ⟨?_,rfl⟩;simp only[e,f,true_and]
    ·exact i _ _ ⟨by rw[decide_eq_false (λh=>f h.2.1)],rfl⟩
   ·exact i _ _ ⟨by rw[decide_eq_false (λh=>e h.1)],rfl⟩
  rintro u g y ⟨rfl,rfl⟩;simp only[push_cast];refine zb (λe=>?_) (λe=>?_)
  ·simp only[push_cast,j.ld1,j.ld2];rw[zk (x:=t.a-t.b) oM oM,zk oM oM];exact k _ (by rw[if_neg oM,if_neg oM,if_pos d,if_pos e])
  ·exact k _ (by rw[if_neg oM,if_neg oM,if_pos d,if_neg e])
 ·exact k _ (by rw[if_neg oM,if_neg oM,if_neg d])
theorem l2Both_spec {o a b:Int} (l: -1<=a/\a<=4) (k: -1<=b/\b<=4) (j:K (nI (M.bothM o a b)) w):vcall WB #[nI o,nI a,nI b] w K:=by
 refine zg {cuts:=[(12291,[8]),(24582,[21])]} Tryz.func97 ?_;have h:∀c,M.bothM o a b=c->K (nI c) w:=λc e=>e▸j;unfold M.bothM at h;refine zq (λu w'=>u=[.bool (decide (o=26\/o=27))]/\w'=w) (λC f=>?_) ?_
 ·simp only[push_cast];refine zb (λc=>?_) (λc=>?_)
  ·exact f _ _ ⟨by rw[decide_eq_true (.inl c)],rfl⟩
  ·refine f _ _ ⟨?_,rfl⟩;simp only[c,false_or]
 rintro u g w2 ⟨rfl,rfl⟩;simp only[push_cast];refine zb (λc=>?_) (λc=>?_)
 ·repeat' first
   |exact h _ (by
    repeat' split
    all_goals omega)
   |refine zb (λ_=>?_) (λ_=>?_)
 refine zq (λu w'=>u=[.bool (decide (a<1\/b<1))]/\w'=w2) (λC f=>?_) ?_
 ·try simp only[push_cast]
  refine zb (λd=>?_) (λd=>?_)
  ·exact f _ _ ⟨by rw[decide_eq_true (.inl d)],rfl⟩
  ·refine f _ _ ⟨?_,rfl⟩;simp only[d,false_or]
 rintro u g m ⟨rfl,rfl⟩;have i:IntKind.i64.wrap (a+b)=a+b:=zk oM oM;simp only[push_cast,i]
 repeat' first
  |exact h _ (by
   repeat' split
   all_goals omega)
  |refine zb (λ_=>?_) (λ_=>?_)
theorem l2Sort_spec:∀(t:M.Tm) {w:World} {K:oK} {F G:Nat->Prop} {dv v:Value} {ds:List M.Dcl},DclsR F w dv ds->M.declOk ds=true->TermR G w v t->(∀w',Ext w w'->K (nI (M.sortM ds t)) w')->vcall Wx #[dv,v] w K:=by
 refine M.Tm.ind λt U w K F G dv v ds O f ht W=>?_;refine zg {} Tryz.func69 ?_;obtain⟨ksv,rfl,u⟩:=ht;refine zj λb1 w1 X E Z V=>?_;have m:∀c w',M.sortM ds t=c->Ext w w'->K (nI c) w':=λc w' e he=>e▸W _ he;rw[V.ldAgg (t:=za) zc];refine zL0 (F:=G) (t:=t) ⟨ksv,rfl,u.ext E⟩ λw2 H=>?_;have o:=E.trans H;have y:=V.ext H;simp only[push_cast];refine zo (λa=>?_) (λa=>?_)
 ·exact m _ _ (M.sort_bad (by rw[Bool.not_eq_true];simpa using a)) o
 have A:M.formed t=true:=by simpa using a
 have j:=(M.formed_iff.1 A).1;have q:=O.ext o;simp only[push_cast,y.ld0];refine zb (λd=>?_) (λd=>?_)
 ·have J:t.ks.length=0:=by rw[d] at j;simp[M.arity] at j;omega
  have hs:=M.sort_leaf (ds:=ds) A J;simp only[push_cast,y.ld1,y.ld2];refine spec_VecOk_spec λw3 k=>?_;have C:=y.ext k;refine zo (λb=>?_) (λb=>?_)
  ·simp only[push_cast,C.ld1];exact m _ _ (by rw[hs];unfold M.sortK;rw[if_pos d,if_pos b]) (o.trans k)
  ·exact m _ _ (by rw[hs];unfold M.sortK;rw[if_pos d,b];rfl) (o.trans k)
 refine zb (λl=>?_) (λl=>?_)
 ·have J:t.ks.length=0:=by rw[l] at j;simp[M.arity] at j;omega
  have hs:=M.sort_leaf (ds:=ds) A J;have Y:=M.findD_lt ds t.s;simp only[push_cast,y.ld3];refine l2Find_spec q ?_
  try simp only[push_cast]
  refine zb (λb=>?_) (λb=>?_)
  ·exact m _ _ (by rw[hs];unfold M.sortK;rw[if_neg d,if_pos l,if_pos b]) o
  ·try simp(disch:=first|(simp only[push_cast])|omega) only[push_cast,q.iaddr]
   try simp(disch:=first|(simp only[push_cast])|omega) only[push_cast,q.load1]
   exact m _ _ (by rw[hs];unfold M.sortK;rw[if_neg d,if_pos l,if_neg b]) o
 refine zb (λD=>?_) (λD=>?_)
 ·have J:t.ks.length=0:=by rw[D] at j;simp[M.arity] at j;omega
  have hs:=M.sort_leaf (ds:=ds) A J;exact m _ _ (by rw[hs];unfold M.sortK;rw[if_neg d,if_neg l,if_pos oM];rfl) o
 have hlen:t.ks.length=1\/t.ks.length=2\/t.ks.length=3:=by
  have h0:M.arity t.op≠0:=λh=>by have:=M.arity_zero h;omega
  have N:M.arity t.op<=3:=by
   unfold M.arity
   repeat' split
   all_goals omega
  omega
 have x:=u.ext o;simp(disch:=first|(simp only[push_cast])|omega) only[push_cast,y.ld4,x.iaddr];refine x.load zc oM λx0 R=>?_;refine U (M.kid t 0) (M.kid_mem oM) q f R λw3 k=>?_;have C:=y.ext k;have p:=o.trans k;have g:=u.ext p;have L:=M.sort_range f (M.kid t 0);simp(disch:=first|(simp only[push_cast])|omega) only[push_cast,C.ld4,g.len];refine zb (λl1=>?_) (λl1=>?_)
 ·rw[C.ldAgg (t:=za) zc];refine l2One_spec (F:=G) (t:=t) ⟨ksv,rfl,g⟩ L λw4 r=>?_;exact m _ _ (M.sort_one f A oM) (p.trans r)
 simp(disch:=first|(simp only[push_cast])|omega) only[push_cast,C.ld4,g.iaddr];refine g.load zc oM λx1 S=>?_;refine U (M.kid t 1) (M.kid_mem oM) (O.ext p) f S λw4 r=>?_;have N:=C.ext r;have i:=p.trans r;have n:=u.ext i;have Q:=M.sort_range f (M.kid t 1);simp(disch:=first|(simp only[push_cast])|omega) only[push_cast,N.ld4,N.ld0,n.len];refine zb (λl2=>?_) (λl2=>?_)
 ·refine l2Both_spec L Q ?_;exact m _ _ (M.sort_two f A oM) i
 have B:=M.sort_three (ds:=ds) A oM;refine zb (λz=>?_) (λz=>?_)
 ·exact m _ _ (by rw[B,if_pos (.inl z)]) i
 simp(disch:=first|(simp only[push_cast])|omega) only[push_cast,N.ld4,n.iaddr];refine n.load zc oM λx2 T=>?_;refine U (M.kid t 2) (M.kid_mem oM) (O.ext i) f T λw5 I=>?_;simp only[push_cast];refine zb (λz2=>?_) (λz2=>?_)
 ·exact m _ _ (by rw[B,if_pos (.inr z2)]) (i.trans I)
 ·exact m _ _ (by rw[B,if_neg (λh=>h.elim z z2)]) (i.trans I)
def KB (ds:List M.Dcl):Prop:=∀i,i<ds.length->(ds.getD i yY0).1.size<=9223372036854775807
theorem spec_TermSort_spec {dv v:Value} {ds:List M.Dcl} {t:M.Tm} (o:KB ds) (q:DclsR F w dv ds) (x:TermR G w v t) (p:∀w',Ext w w'->K (nI (M.tsort ds t)) w'):vcall JR #[dv,v] w K:=by
 refine zg {} Tryz.func44 ?_;obtain⟨cs,rfl,e⟩:=x.cells;refine zj λb1 w1 s g u l=>?_;rw[l.ldAgg (t:=za) (by rw[zW e];exact zc)];refine spec_TermMany_spec t (e.ext g).term λw2 i=>?_;simp only[push_cast];have f:=g.trans i;refine spec_DeclOk_spec (q.ext f) o λy j=>?_;have d:=f.trans j;have k:=p y d;unfold M.tsort at k;simp only[push_cast];refine zo (λa=>?_) (λa=>?_)
 ·rwa[if_neg (λh=>by rw[h.2] at a;cases a)] at k
 rw[gJ] at a;refine zb (λb=>?_) (λb=>?_)
 ·rw[if_neg (λh=>by
   have l:=M.fits_iff.1 h.1;unfold M.manyM at b;rw[if_pos h.1] at b;omega)] at k
  exact k
 have n:M.fits t=true:=by
  by_cases h:M.fits t=true
  ·exact h
  ·unfold M.manyM at b;rw[if_neg h] at b;omega
 refine zb (λc=>?_) (λc=>?_)
 ·unfold M.lvlM at c;rw[if_pos n] at c;have:=M.fits_iff.1 n;omega
 have r:=(l.ext i).ext j;rw[r.ldAgg (t:=za) (by rw[zW e];exact zc)];refine l2Sort_spec t (q.ext d) a (e.ext d).term λz m=>?_;have:=p z (d.trans m);unfold M.tsort at this;rwa[if_pos ⟨n,a⟩] at this
theorem Xb {b:Bool} (a:K (nI (M.b2i b)) w):vcall WC #[.bool b] w K:=by
 refine zg {} Tryz.func106 ?_;refine zo (λh=>?_) (λh=>?_)<;>subst h<;>exact a
def Zj0 (H:Nat->Prop) (w:World) (ev:Value) (env:List Int) (t:M.Tm):Prop:=Ints H w ev env\/nnB t=true
theorem qs {H:Nat->Prop} {ev:Value} {env:List Int} {t:M.Tm} {w w':World} (h:Zj0 H w ev env t) (he:Ext w w'):Zj0 H w' ev env t:=h.imp (λh=>h.ext he) id
theorem j8 {H:Nat->Prop} {ev:Value} {env:List Int} {t k:M.Tm} (h:Zj0 H w ev env t) (a:k∈t.ks):Zj0 H w ev env k:=h.imp id λh=>(nnB_iff.1 h).2 k a
theorem j60 {H:Nat->Prop} {ev:Value} {env:List Int} {t:M.Tm} (h:Zj0 H w ev env t) (a:t.op=21):Ints H w ev env:=h.elim id λh=>absurd a (nnB_iff.1 h).1
def jp0 (t:M.Tm):Prop:=∀{w:World} {K:oK} {F G H:Nat->Prop} {dv v ev:Value} {ds:List M.Dcl} {env:List Int},DclsR F w dv ds->M.envOk ds env=true->TermR G w v t->Zj0 H w ev env t->M.sortM ds t≠ -1->(∀w',Ext w w'->K (nI (M.evalM ds env t)) w')->vcall WA #[dv,v,ev] w K
theorem l2Vec_spec {t:M.Tm} (B:jp0 t) {H:Nat->Prop} {dv v ev:Value} {ds:List M.Dcl} {env:List Int} (l:DclsR F w dv ds) (he:M.envOk ds env=true) (x:TermR G w v t) (z:Zj0 H w ev env t) (hs:M.sortM ds t≠ -1) (p:∀w',Ext w w'->K (xX (M.sortM ds t) (M.evalM ds env t)) w'):vcall zq0 #[dv,v,ev] w K:=by
 refine zg {ord:=[oz 1 [0,1,3,4,5,2,6,7,8] [(0,[1,3,4,5]),(1,[3,4,5]),(3,[4,5,2]),(4,[5,2]),(5,[2])]]} Tryz.func216 ?_;obtain⟨cs,rfl,c⟩:=x.cells;refine zj λb1 w1 q f s m=>?_;refine zi zY λb2 w2 r g u n=>?_;refine zd λC d _=>?_;have k:=(m.ext g).ext d;have b:=(f.trans g).trans d;have i:aggB za cs.length=true:=by rw[zW c];exact zc
 rw[k.ldAgg (t:=za) i];refine⟨rfl,?_⟩;rw[k.ldAgg (t:=za) i];refine⟨rfl,l2Sort_spec t (l.ext b) (M.env_ok he).1 (c.ext b).term λD e=>?_⟩;rw[(k.ext e).ldAgg (t:=za) i];have a:=b.trans e;refine⟨⟨rfl,rfl⟩,B (l.ext a) he (c.ext a).term (qs z a) hs λE h=>?_⟩;simp only[push_cast,true_and];refine stVec (((n.ext d).ext e).ext h) λI j _ o=>?_;rw[o.lv rK];exact p _ (Ext.then (a.trans h) j λy A=>by subst A;have:=f.size;omega)
theorem l2Do_spec {t:M.Tm} (W:∀k,k∈t.ks->jp0 k) {H:Nat->Prop} {dv v ev:Value} {ds:List M.Dcl} {env:List Int} (T:DclsR F w dv ds) (he:M.envOk ds env=true) (ht:TermR G w v t) (V:Zj0 H w ev env t) (hs:M.sortM ds t≠ -1)
  (ho:(1<=t.op/\t.op<=17)\/t.op=22) (I:∀w',Ext w w'->K (nI (M.evalM ds env t)) w'):vcall yq0 #[dv,v,ev] w K:=by
 refine zg {} Tryz.func183 ?_;obtain⟨ksv,rfl,z⟩:=ht;have a3:1<=t.ks.length:=by
  rcases(by omega:t.op=22\/(t.op=1\/t.op=2)\/(3<=t.op/\t.op<=14)\/(15<=t.op/\t.op<=17)) with h|h|h|h
  ·have:=(M.eval_cut he hs h).1;omega
  ·have:=(M.eval_un he hs h).1;omega
  ·have:=(M.eval_bin he hs h.1 h.2).1;omega
  ·have:=(M.eval_cmp he hs h.1 h.2).1;omega
 refine zj λb1 w1 a0 f a7 L=>?_;have m:=z.ext f;simp(disch:=first|(simp only[push_cast])|omega) only[push_cast,L.ld4,m.iaddr];refine m.load zc oM λx0 Q=>?_;refine l2Vec_spec (W (M.kid t 0) (M.kid_mem oM)) (T.ext f) he Q (j8 (qs V f) (M.kid_mem oM)) (M.good_kid hs oM) λw2 p=>?_;refine zi zY λb2 w3 a1 x a8 h3=>?_;refine stVec h3 λw4 C _ E=>?_;have aa:=f.size;have ab:=p.size;have b:Ext w w4:=Ext.then ((f.trans p).trans x) C λy l=>by subst l;omega
 have a4:=L.lt;have n:=((L.ext p).ext x).same C oM;simp only[push_cast,n.ld0];refine zb (λr=>?_) (λr=>?_)
 ·obtain⟨hl,hv,d⟩:=M.eval_cut he hs r;simp only[push_cast,E.ldAgg (t:=zh) zt,n.ld1,n.ld2];refine spec_VecCut_spec λY a=>?_;simp only[push_cast];refine zi zY λb3 Z u c A s=>?_;refine stVec s λD e _ q=>?_;simp only[push_cast,q.ld1];have:=I D (Ext.then ((b.trans a).trans c) e λy l=>by subst l;have:=(b.trans a).size;omega);rwa[d] at this
 have g:=z.ext b;simp only[push_cast,n.ld4,g.len];refine zb (λl1=>?_) (λl1=>?_)
 ·have j:t.op=1\/t.op=2:=by
   rcases(by omega:(t.op=1\/t.op=2)\/(3<=t.op/\t.op<=14)\/(15<=t.op/\t.op<=17)) with h|h|h
   ·exact h
   ·have:=(M.eval_bin he hs h.1 h.2).1;omega
   ·have:=(M.eval_cmp he hs h.1 h.2).1;omega
  obtain⟨hl,hv,d⟩:=M.eval_un he hs j;simp only[push_cast,E.ldAgg (t:=zh) zt,n.ld0];refine spec_VecUn_spec λY a=>?_;simp only[push_cast];refine zi zY λb3 Z u c A s=>?_;refine stVec s λD e _ q=>?_;simp only[push_cast,q.ld1];have:=I D (Ext.then ((b.trans a).trans c) e λy l=>by subst l;have:=(b.trans a).size;omega);rwa[d] at this
 have j:3<=t.op/\t.op<=17:=by
  rcases(by omega:(t.op=1\/t.op=2)\/(3<=t.op/\t.op<=17)) with h|h
  ·have:=(M.eval_un he hs h).1;omega
  ·exact h
 have a5:t.ks.length=2:=by
  rcases(by omega:(3<=t.op/\t.op<=14)\/(15<=t.op/\t.op<=17)) with h|h
  ·exact(M.eval_bin he hs h.1 h.2).1
  ·exact(M.eval_cmp he hs h.1 h.2).1
 simp(disch:=first|(simp only[push_cast])|omega) only[push_cast,n.ld4,g.iaddr];refine g.load zc oM λx1 R=>?_;refine l2Vec_spec (W (M.kid t 1) (M.kid_mem oM)) (T.ext b) he R (j8 (qs V b) (M.kid_mem oM)) (M.good_kid hs oM) λY a=>?_;refine zi zY λb3 Z u c A s=>?_;refine stVec s λD e _ q=>?_;have ac:=b.size;have ad:=a.size;have o:Ext w D:=Ext.then ((b.trans a).trans c) e λy l=>by subst l;omega
 have a6:=E.lt;have U:=n.lt;have S:=((n.ext a).ext c).same e oM;have X:=((E.ext a).ext c).same e oM;simp only[push_cast,S.ld0];refine zb (λJ=>?_) (λJ=>?_)
 ·obtain⟨_,_,_,d⟩:=M.eval_cmp he hs oM j.2;simp only[push_cast,X.ldAgg (t:=zh) zt,q.ldAgg (t:=zh) zt,S.ld0];refine spec_VecCmp_spec λw8 i=>?_;simp only[push_cast];refine Xb ?_;have:=I _ (o.trans i);rwa[d] at this
 ·obtain⟨_,_,_,d⟩:=M.eval_bin he hs j.1 oM;simp only[push_cast,X.ldAgg (t:=zh) zt,q.ldAgg (t:=zh) zt,S.ld0];refine spec_VecBin_spec λw8 i=>?_;simp only[push_cast];refine zi zY λb4 w9 a2 O a9 h9=>?_;refine stVec h9 λw10 B _ N=>?_;simp only[push_cast,N.ld1];have:=I w10 (Ext.then ((o.trans i).trans O) B λy l=>by subst l;have:=(o.trans i).size;omega);rwa[d] at this
theorem l2Eval_spec:∀(t:M.Tm),jp0 t:=by
 refine M.Tm.ind λt E=>?_;intro w K F G H dv v ev ds env z he ht B hs Y;refine zg {ord:=[oz 11 [0,1,2,3,4,5,7,8,9,10,11,12,6,13,14,15] [(0,[1,2,3,4,5,7,8,9,10,11,12]),(1,[5,7,8,9,10,11,12]),(2,[5,7,8,9,10,11,12]),(3,[5,7,8,9,10,11,12]),(4,[5,7,8,9,10,11,12]),(5,[7,8,9,10,11,12]),(7,[8,9,10,11,12,6]),(8,[12,6]),(9,[12,6]),(10,[12,6]),(11,[12,6]),(12,[6])],oz 13 [0,1,2,3,4,5,7,8,9,10,11,12,6,13,14,15] [(0,[1,2,3,4,5,7,8,9,10,11,12]),(1,[5,7,8,9,10,11,12]),(2,[5,7,8,9,10,11,12]),(3,[5,7,8,9,10,11,12]),(4,[5,7,8,9,10,11,12]),(5,[7,8,9,10,11,12]),(7,[8,9,10,11,12,6]),(8,[12,6]),(9,[12,6]),(10,[12,6]),(11,[12,6]),(12,[6])]]} Tryz.func146 ?_;obtain⟨ksv,rfl,p⟩:=ht;refine zj λb1 w1 a0 f a5 D=>?_;have l:=p.ext f;have A:∀c w',M.evalM ds env t=c->Ext w w'->K (nI c) w':=λc w' e he=>e▸Y _ he;have Z:=M.arity_ops (o:=t.op) (by have:=(M.formed_iff.1 (M.sort_parts hs).1).1;omega);simp only[push_cast,D.ld0];refine zb (λr=>?_) (λr=>?_)
 ·simp only[push_cast,D.ld2];exact A _ _ (by rw[M.eval_leaf (.inl r),if_pos r]) f
 refine zb (λn=>?_) (λn=>?_)
 ·have a4:=M.findD_lt ds t.s;have a3:=M.name_found hs n;have a2:=(M.env_ok he).2.1;have q:=(j60 B n).ext f;simp only[push_cast,D.ld3];refine l2Find_spec (z.ext f) ?_;simp(disch:=first|(simp only[push_cast])|omega) only[push_cast,q.iaddr,q.load];exact A _ _ (by rw[M.eval_leaf (.inr (.inl n)),if_neg r,if_pos n]) f
 refine zb (λO=>?_) (λO=>?_)
 ·exact A _ _ (by rw[M.eval_leaf (.inr (.inr O)),if_neg r,if_neg n]) f
 refine zb (λP=>?_) (λP=>?_)
 ·obtain⟨V,R,j⟩:=M.eval_no he hs P;simp(disch:=first|(simp only[push_cast])|omega) only[push_cast,D.ld4,l.iaddr];refine l.load zc oM λx0 L=>?_;refine E (M.kid t 0) (M.kid_mem oM) (z.ext f) he L (j8 (qs B f) (M.kid_mem oM)) (M.good_kid hs oM) λw2 h=>?_;simp only[push_cast];have a1:=M.inS_zero R;rw[zk oM oM];exact A _ _ j (f.trans h)
 refine zb (λC=>?_) (λC=>?_)
 ·obtain⟨V,R,S,j⟩:=M.eval_two he hs (.inl C);rw[if_pos C] at j;refine zd λw2 h _=>?_;have I:=D.ext h;have a:=f.trans h;have g:=p.ext a;simp(disch:=first|(simp only[push_cast])|omega) only[push_cast,I.ld4,g.iaddr,true_and];obtain⟨css,m,U,u⟩:=g;rw[m.ldAgg zc (i:=0) oM];simp only[true_and];rw[m.ldAgg zc (i:=1) oM];simp only[true_and];refine E (M.kid t 0) (M.kid_mem oM) (z.ext a) he (u 0 oM).term (j8 (qs B a) (M.kid_mem oM)) (M.good_kid hs oM) λW d=>?_;have T:=I.ext d;have x:=p.ext (a.trans d);have y:=m.ext d;simp(disch:=first|(simp only[push_cast])|omega) only[push_cast,T.ld4,x.iaddr,true_and];rw[y.ldAgg zc (i:=1) oM];refine⟨⟨rfl,rfl⟩,?_⟩
  try simp only[true_and,and_self]
  refine E (M.kid t 1) (M.kid_mem oM) (z.ext (a.trans d)) he ((u 1 oM).ext d).term (j8 (qs B (a.trans d)) (M.kid_mem oM)) (M.good_kid hs oM) λw4 J=>?_;simp only[push_cast,true_and];have e:IntKind.i64.wrap (M.evalM ds env (M.kid t 0)*M.evalM ds env (M.kid t 1))=M.evalM ds env (M.kid t 0)*M.evalM ds env (M.kid t 1):=by
   rcases M.inS_zero R with e|e<;>rcases M.inS_zero S with X|X<;>rw[e,X]<;>rfl
  rw[e];exact A _ _ j ((a.trans d).trans J)
 refine zb (λQ=>?_) (λQ=>?_)
 ·obtain⟨V,R,S,j⟩:=M.eval_two he hs (.inr Q);rw[if_neg C] at j;refine zd λw2 h _=>?_;have I:=D.ext h;have a:=f.trans h;have g:=p.ext a;simp(disch:=first|(simp only[push_cast])|omega) only[push_cast,I.ld4,g.iaddr,true_and];obtain⟨css,m,U,u⟩:=g;rw[m.ldAgg zc (i:=0) oM];simp only[true_and];rw[m.ldAgg zc (i:=1) oM];simp only[true_and];refine E (M.kid t 0) (M.kid_mem oM) (z.ext a) he (u 0 oM).term (j8 (qs B a) (M.kid_mem oM)) (M.good_kid hs oM) λW d=>?_;have T:=I.ext d;have x:=p.ext (a.trans d);have y:=m.ext d;simp(disch:=first|(simp only[push_cast])|omega) only[push_cast,T.ld4,x.iaddr,true_and];rw[y.ldAgg zc (i:=1) oM];refine⟨⟨rfl,rfl⟩,?_⟩
  try simp only[true_and,and_self]
  refine E (M.kid t 1) (M.kid_mem oM) (z.ext (a.trans d)) he ((u 1 oM).ext d).term (j8 (qs B (a.trans d)) (M.kid_mem oM)) (M.good_kid hs oM) λw4 J=>?_;refine l1Max_spec ?_;exact A _ _ j ((a.trans d).trans J)
 refine zb (λN=>?_) (λN=>?_)
 ·obtain⟨V,R,j⟩:=M.eval_if he hs N;simp(disch:=first|(simp only[push_cast])|omega) only[push_cast,D.ld4,l.iaddr];refine l.load zc oM λx0 L=>?_;refine E (M.kid t 0) (M.kid_mem oM) (z.ext f) he L (j8 (qs B f) (M.kid_mem oM)) (M.good_kid hs oM) λw2 h=>?_;have I:=D.ext h;have a:=f.trans h;have g:=p.ext a;simp only[push_cast];refine zb (λb=>?_) (λb=>?_)
  ·rw[if_pos b] at j;simp(disch:=first|(simp only[push_cast])|omega) only[push_cast,I.ld4,g.iaddr];refine g.load zc oM λx1 q=>?_;refine E (M.kid t 1) (M.kid_mem oM) (z.ext a) he q (j8 (qs B a) (M.kid_mem oM)) (M.good_kid hs oM) λW d=>?_;exact A _ _ j (a.trans d)
  ·rw[if_neg b] at j;simp(disch:=first|(simp only[push_cast])|omega) only[push_cast,I.ld4,g.iaddr];refine g.load zc oM λx1 q=>?_;refine E (M.kid t 2) (M.kid_mem oM) (z.ext a) he q (j8 (qs B a) (M.kid_mem oM)) (M.good_kid hs oM) λW d=>?_;exact A _ _ j (a.trans d)
 ·rw[D.ldAgg (t:=za) zc];refine l2Do_spec (G:=G) (t:=t) (λk A=>E k A) (z.ext f) he ⟨ksv,rfl,l⟩ (qs B f) hs oM λw2 h=>?_;exact Y _ (f.trans h)
end
section
variable {w:World} {K:oK}
@[push_cast] theorem bd_T3 (o a b:Int):yz za [(0,nI o),(1,nI a),(2,nI b)] w K=K (.agg ⟨[nI o,nI a,nI b,.string ⟨#[]⟩,.slice none 0 0]⟩) w:=zV j0 (us:=[[nI o],[nI a],[nI b]]) rfl rfl
@[push_cast] theorem bd_T1 (o:Int):yz za [(0,nI o)] w K=K (.agg ⟨[nI o,nI 0,nI 0,.string ⟨#[]⟩,.slice none 0 0]⟩) w:=zV j0 (us:=[[nI o]]) rfl rfl
@[push_cast] theorem bd_Tk (o:Int) (a:Option Addr) (l c:Nat):yz za [(0,nI o),(4,.slice a l c)] w K=K (.agg ⟨[nI o,nI 0,nI 0,.string ⟨#[]⟩,.slice a l c]⟩) w:=zV j0 (us:=[[nI o],[.slice a l c]]) rfl rfl
theorem qb {b:Nat} {cs cs':List Value} {t:TypeId} {G:Nat->Prop} {f:M.Tm} (h:Blk w b cs t) (k:cs.length=5) (c:TmR G w cs' f) (i:∀x,G x->x≠b) (j:∀w',Same (· =b) w w'->w'.heap.size=w.heap.size->TermR G w' (.agg ⟨cs'⟩) f->K (.agg ⟨cs'⟩) w'):
  zR za (oP b 0) (.agg ⟨cs'⟩) w λ_ w1=>vlv za (oP b 0) w1 λr w2=>K r w2:=by
 refine stTerm h k c λw' a d g=>?_;rw[g.lv (by rw[zW c];exact zc)];exact j w' a d (c.same a λx l _ e=>i x l e).term
theorem zI0 {G:Nat->Prop} (o a b:Int) (s:ByteArray):TmR G w [nI o,nI a,nI b,.string s,.slice none 0 0] (.mk o a b s []):=TmR.of (t:= .mk o a b s []) TmsR.nil
end
section
variable {w:World} {K:oK} {G:Nat->Prop}
theorem kidsL {css:List (List Value)} {ts:List M.Tm} (l:css.length=ts.length) (n:css.length<=100) (h:∀i,i<ts.length->TmR G w (css.getD i []) (ts.getD i default))
  (j:∀w' a,Ext w w'->w'.heap.size=w.heap.size+1->TmsR (λz=>G z\/z=w.heap.size) w' (.slice a css.length css.length) ts->K (.slice a css.length css.length) w'):
  vbuildS zl (css.map λc=>Value.agg ⟨c⟩).length ((css.map λc=>Value.agg ⟨c⟩).zipIdx.map λp=>(p.2,p.1)) w K:=by
 have d:∀u,u∈css->u.length=5:=λu hu=>by
  obtain⟨i,hi,rfl⟩:=gj hu;have:=zW (h i oM);rwa[y0,y4 hi] at this
 refine vbuildS_row (us:=css) (k:=5) qw qU zr (by rw[G7];rfl) d (by rw[y1];omega) λb w' o he hs g=>?_;rw[y1];refine j w' _ he hs ⟨css,?_,l,λi hi=>((h i hi).ext he).weaken λx f _=> .inl f⟩;have m:Own 0 5 zl w' (.slice (some ⟨b,0,none⟩) css.length css.length) css:=Blk.ownk (by rw[jH];exact g) d rfl oM;exact m.sl.weaken λx f _=> .inr (by have e:x=b:=(y2 f).symm;omega)
theorem Yv0 {v0:Value} {t0:M.Tm} (b:TermR G w v0 t0) (c:∀w' a,Ext w w'->w'.heap.size=w.heap.size+1->TmsR (λz=>G z\/z=w.heap.size) w' (.slice a 1 1) [t0]->K (.slice a 1 1) w'):vbuildS zl 1 [(0,v0)] w K:=by
 obtain⟨c0,rfl,d⟩:=b.cells;refine kidsL (css:=[c0]) (ts:=[t0]) rfl (by simp) (λi hi=>?_) c;have:i=0:=by simpa using hi
 subst this;exact d
theorem kids2 {v0 v1:Value} {t0 t1:M.Tm} (b:TermR G w v0 t0) (c:TermR G w v1 t1) (d:∀w' a,Ext w w'->w'.heap.size=w.heap.size+1->TmsR (λz=>G z\/z=w.heap.size) w' (.slice a 2 2) [t0,t1]->K (.slice a 2 2) w'):vbuildS zl 2 [(0,v0),(1,v1)] w K:=by
 obtain⟨c0,rfl,e⟩:=b.cells;obtain⟨c1,rfl,f⟩:=c.cells;refine kidsL (css:=[c0,c1]) (ts:=[t0,t1]) rfl (by simp) (λi hi=>?_) d
 match i,hi with
 |0,_=>exact e
 |1,_=>exact f
abbrev W5:List Value:=[nI 0,nI 0,nI 0,.string ⟨#[]⟩,.slice none 0 0]
end
theorem dtSize {ds:List M.Dcl} {t:M.Tm}:M.tsort ds t= -1\/(0<=M.tsort ds t/\M.tsort ds t<=4/\M.tsort ds t=M.sortM ds t/\M.fits t=true/\M.declOk ds=true):=by
 unfold M.tsort;split
 ·rename_i h;have:=M.sort_range h.2 t;by_cases e:M.sortM ds t= -1
  ·exact .inl e
  ·exact .inr ⟨oM,oM,rfl,h.1,h.2⟩
 ·exact .inl rfl
section
variable {w:World} {F:Nat->Prop}
abbrev ki0 (o:Int) (ks:List M.Tm):M.Tm:= .mk o 0 0 M.nada ks
theorem JJ {o:Int} {a:Option Addr} {l c:Nat} {ks:List M.Tm} (h:TmsR F w (.slice a l c) ks):TermR F w (.agg ⟨[nI o,nI 0,nI 0,.string ⟨#[]⟩,.slice a l c]⟩) (ki0 o ks):=⟨_,rfl,h⟩
theorem Xv {o:Int}:TermR F w (.agg ⟨[nI o,nI 0,nI 0,.string ⟨#[]⟩,.slice none 0 0]⟩) (ki0 o []):=JJ TmsR.nil
end
section
variable {w:World} {K:oK} {F D G:Nat->Prop}
theorem flatten_setEl {k:Nat}:∀{xs:List (List Value)} (_:∀x,x∈xs->x.length=k) {i:Nat} {y:List Value},y.length=k->i<xs.length->(xs.set i y).flatten=xs.flatten.take (i*k)++y++xs.flatten.drop (i*k+k)
 |[],_,i,y,_,hi=>by simp at hi
 |x::r,h,i,y,c,hi=>by
  have e:=h x gd;cases i with
  |zero=>
   simp only[G2,Gz,PB,pC,gX,gN];rw[List.drop_append,PC oM,gX,show k-x.length=0 by omega,PL]
  |succ i=>
   simp only[Pp,Gz];have a:(i+1)*k=x.length+i*k:=by rw[GP];omega
   have b:x.length+i*k+k=x.length+(i*k+k):=oM;rw[flatten_setEl (λz d=>h z (gh _ d)) c (by simpa using hi),a,b,List.take_length_add_append,List.drop_length_add_append];simp only[gV]
set_option maxRecDepth 100000 in
theorem own_stEl {v:Value} {k:Nat} {t e:TypeId} {xs:List (List Value)} {y:List Value} (h:Own 0 k t w v xs) (J:0<k) (n:y.length=k) (B:∀c,c∈y->c.oneCell'=true) (u:aggB e k=true) {i:Nat} (hi:i<xs.length)
  (C:∀w',Own 0 k t w' v (xs.set i y)->Same (λb=>v.ownBlock=some b) w w'->w'.heap.size=w.heap.size->K undef w'):zR e (.pointer (some (eaddr v k i))) (.agg ⟨y⟩) w K:=by
 have E:=flatten_len h.wide;rcases h.row with⟨H,s⟩;rcases s with⟨rfl,L⟩|⟨g,cap,cur,rfl,o,x,j,p,r,f⟩
 ·omega
 ·have F:i*k+k<=xs.length*k:=by rw[<-Nat.succ_mul];exact pB _ hi
  have G:xs.length*k<=cap*k:=pB _ j;have d:=run_storeCells_at (P:=P) g (i*k) (ZU t) y 0 cur w x oM B;have he:eaddr (.slice (some ⟨g,0,none⟩) xs.length cap) k i=⟨g,i*k,none⟩:=by
   simp only[eaddr,gN]
  rw[he];have D:cur.toList.length=cap*k:=(by simpa using r);have m:(cur.toList.take (i*k+0)++y++cur.toList.drop (i*k+0+y.length)).toArray.size=cap*k:=by
   simp only[GS,y3,V0,GK];omega
  have a:(cur.toList.take (i*k+0)++y++cur.toList.drop (i*k+0+y.length)).toArray.toList.take (xs.length*k)=(xs.set i y).flatten:=by
   rw[flatten_setEl h.wide n hi,<-f,n];simp only[GM];have I:(cur.toList.take (i*k)).length=i*k:=by rw[V0];omega
   rw[List.take_append,List.take_append,gy (l:=List.take (i*k) cur.toList) oM,gy (l:=y) oM,pd,Gv oM,List.drop_take];congr 2;rw[y3,V0];omega
  refine⟨(),_,?_,C (w.setRow g (cur.toList.take (i*k+0)++y++cur.toList.drop (i*k+0+y.length)).toArray) ⟨?_,?_⟩ ⟨rfl,rfl,rfl,by simp,λq _ A=>setRow_other w g q _ (λe=>A (by rw[e];rfl))⟩ (by simp)⟩
  ·simp only[Instr.storeAt,Instr.sureAddr,Sem.run_bind,Sem.run_pure,Result.andThen_ok,storeVar,j4 u,Value.cells];simp only[GS,n,ne_eq,not_true_eq_false,if_false];rw[n] at d;exact d
  ·rw[gB];refine⟨?_,.inr ⟨g,cap,_,rfl,o,setRow_heap w g _ _ _ _ x,j,p,m,a⟩⟩;rw[<-a,V0];have:=m;simp only[GS] at this;simp only[List.toList_toArray,this];omega
  ·intro z u;obtain⟨q,A,rfl⟩:=gj u;rw[G0];split
   ·exact n
   ·exact h.wide _ (GZ _)
end
end Go.Proofs.YtolbhkcajhlllaaGreatDoor
end
