import Derived.Test.YtaekfnbnhjgboaaGreatDoorWueP5
import Derived.Ground.NamesProg
import Derived.Shelf.Strings.OnBuilder
import Derived.Shelf.Strings.SlTrimAscii
import Derived.Shelf.SlGeneric
import Derived.Test.YtaekfnbnhjgboaaGreatDoorProg
/- A part of the proof. -/
set_option linter.unusedVariables false
set_option linter.unusedSimpArgs false
set_option linter.unnecessarySimpa false
set_option linter.unusedSectionVars false
section
namespace Go.Proofs.YtaekfnbnhjgboaaGreatDoor
open Go Go.Vc Go.Proofs
variable {w:World} {K:Value→World→Prop} {F G:Nat→Prop}
theorem stTerm {b:Nat} {cs cs':List Value} {t:TypeId} {t':M.Tm} (h:Blk w b cs t) (f:cs.length=5) (d:TmR F w cs' t') (c:∀w',Same (· =b) w w'→w'.heap.size=w.heap.size→Blk w' b cs' t→K undef w'):zt PP za (.pointer (some ⟨b,0,none⟩)) (.agg ⟨cs'⟩) w K:=by
 obtain⟨kv,rfl,e⟩:=d.inv
 obtain⟨css,hs,_⟩:=e
 refine h.stAgg (by simp[f]) zI ?_ c
 intro v a
 simp only[List.mem_cons,List.not_mem_nil,or_false] at a
 rcases a with rfl|rfl|rfl|rfl|rfl
 ·rfl
 ·rfl
 ·rfl
 ·rfl
 ·exact hs.one
theorem xX {cs:List Value} {t:M.Tm} (h:TmR F w cs t):cs.length=5:=by
 obtain⟨kv,rfl,_⟩:=h.inv;rfl
theorem Z40 {v:Value} {t:M.Tm} (m:TermR F w v t) (i:∀w',Ext w w'→K (.bool (M.plainM t)) w'):vcall PP J7 #[v] w K:=by
 apply jL0
 obtain⟨ksv,rfl,k⟩:=m
 refine zD fun b1 n j h l e=>?_
 have d:=i _ h
 unfold M.plainM at d
 refine zV (fun u w'=>u=[.bool (decide (t.op=20)||decide (t.op=22)||(decide (t.a=0)&&decide (t.b=0)))]∧w'=n) (fun C f=>?_) ?_
 ·simp(disch:=(simp only[push_cast];done)) only[push_cast,e.ld0,e.ld1,e.ld2]
  refine zh (fun a=>?_) (fun a=>?_)
  ·exact f _ _ ⟨by rw[decide_eq_true a];rfl,rfl⟩
  refine zh (fun b=>?_) (fun b=>?_)
  ·exact f _ _ ⟨by rw[decide_eq_true b];simp,rfl⟩
  refine zh (fun c=>?_) (fun c=>?_)
  ·exact f _ _ ⟨by rw[decide_eq_false a,decide_eq_false b,decide_eq_true c];rfl,rfl⟩
  ·exact f _ _ ⟨by rw[decide_eq_false a,decide_eq_false b,decide_eq_false c];rfl,rfl⟩
 ·rintro u g o ⟨rfl,rfl⟩
  simp(disch:=(simp only[push_cast];done)) only[push_cast,e.ld0,e.ld3]
  refine y9 (fun a=>?_) (fun a=>?_)
  ·rw[a,Bool.true_and] at d
   refine zh (fun b=>?_) (fun b=>?_)
   ·rwa[decide_eq_true b,Bool.true_or] at d
   ·rw[decide_eq_false b,Bool.false_or] at d
    exact d
  ·rwa[a,Bool.false_and] at d
theorem zY0 {mb:Nat} {o:Int} {ok:Bool} (h:KindsR w mb) (d:0≤M.arity o) (b:∀v,KindR o v→K (if ok then .tuple #[v,.bool true] else v) w):Xl PP zA (.map (some mb)) (.int .i64 o) ok w K:=by
 obtain⟨f,hm,a,g⟩:=h
 obtain⟨v,e,c⟩:=a o d
 rw[VU ZR hm (Jm o) e]
 exact b v c
theorem Y00 {mb:Nat} {o:Int} (h:KindsR w mb) (d: ¬0≤M.arity o) (b:K (.tuple #[.nilIface,.bool false]) w):Xl PP zA (.map (some mb)) (.int .i64 o) true w K:=by
 obtain⟨f,hm,i,a⟩:=h
 rw[j40 ZR (z:= .nilIface) (by unfold yP;kernel_rfl) hm (Jm o) fun v g=>?_]
 ·exact b
 ·obtain⟨o',e,c⟩:=a _ g
  cases e;exact d c
theorem Z70 {mb:Nat} {o:Int} {w j:World} {N:Value→World→Prop} (h:KindsR w mb) (i:0≤M.arity o) (he:Ext w j) (e:∀v,KindR o v→(∀a,Ext w a→Xl PP zA (.map (some mb)) (.int .i64 o) false a fun x y=>x=v∧y=a)→N v w):Xl PP zA (.map (some mb)) (.int .i64 o) false w N:=by
 obtain⟨f,hm,d,k⟩:=h
 obtain⟨v,c,g⟩:=d o i
 rw[VU ZR hm (Jm o) c]
 refine e v g fun a b=>?_
 rw[VU ZR (hm.ext b) (Jm o) c]
 exact⟨rfl,rfl⟩
theorem XV {α β:Type} (f:α→β) {l:List α} {i:Nat} (h:i<l.length) (d:α):(l.take i).map f++[f (l.getD i d)]=(l.take (i+1)).map f:=by
 rw[List.take_add_one,List.getElem?_eq_getElem h,List.map_append,List.getD_eq_getElem?_getD,List.getElem?_eq_getElem h]
 rfl
theorem sortOf_spec:∀(t:M.Tm) {w:World} {K:Value→World→Prop} {F G:Nat→Prop} {mb:Nat} {dv v:Value} {ds:List M.Dcl},KindsR w mb→DclsR F w dv ds→M.declOk ds=true→TermR G w v t→
  (∀w',Ext w w'→K (.int .i64 (M.sortM ds t)) w')→vcall PP kg #[.map (some mb),dv,v] w K:=by
 refine M.Tm.ind fun t ih w K F G mb dv v ds hm hd N ht U=>?_
 apply qO0
 obtain⟨ksv,rfl,m⟩:=ht
 refine zD fun b1 w1 a3 l a6 D=>?_
 have J:=hm.ext l
 simp(disch:=(simp only[push_cast];done)) only[push_cast,D.ld0]
 have A: ¬(M.formed t=true)→∀w',Ext w w'→K (.int .i64 (-1)) w':=fun hn w' he=>by
  have:=U w' he
  rw[M.sortM_eq] at this
  unfold M.sortF at this
  rwa[if_neg (fun h=>hn h.1)] at this
 by_cases Y: ¬0≤M.arity t.op
 ·have S:=Y
  refine Y00 J S ?_
  simp only[push_cast]
  refine zV (fun _ _=>False) (fun C R=>?_) (fun _ _ _ h=>h.elim)
  refine zx fun T c _=>?_
  simp only[push_cast,true_and]
  refine A (fun h=>S ?_) _ (l.trans c)
  simp only[M.formed,Bool.and_eq_true,decide_eq_true_eq] at h
  omega
 have S:0≤M.arity t.op:=by omega
 refine zY0 J S fun kv I=>?_
 simp only[push_cast,if_true]
 have a9:=m.small
 refine zV (fun u w'=>u=[]∧Ext w1 w'∧M.formed t=true) (fun C R=>?_) ?_
 ·refine zx fun T c _=>?_
  have E:=D.ext c
  simp(disch:=(simp only[push_cast];done)) only[push_cast,E.ld4,m.len,true_and]
  refine I.kids _ _ fun w3 d=>?_
  have Q:=E.ext d
  simp(disch:=(simp only[push_cast];done)) only[push_cast,Q.ld4,m.len,true_and,and_self]
  refine zh (fun a=>?_) (fun a=>?_)
  ·refine A (fun h=>?_) _ ((l.trans c).trans d)
   simp only[M.formed,Bool.and_eq_true,decide_eq_true_eq] at h
   omega
  ·simp(disch:=(simp only[push_cast];done)) only[push_cast,Q.ldAgg (t:=za) zI,true_and]
   refine Z40 (F:=G) (t:=t) ⟨ksv,rfl,m.ext ((l.trans c).trans d)⟩ fun w4 e=>?_
   simp only[push_cast,true_and]
   refine y9 (fun b=>?_) (fun b=>?_)
   ·refine A (fun h=>?_) _ (((l.trans c).trans d).trans e)
    simp only[M.formed,Bool.and_eq_true] at h
    rw[h.2] at b;cases b
   ·refine R _ _ ⟨rfl,(c.trans d).trans e,?_⟩
    simp only[M.formed,Bool.and_eq_true,decide_eq_true_eq]
    exact⟨by omega,by simpa using b⟩
 ·rintro u g T ⟨rfl,c,hf⟩
  have E:=D.ext c
  have hE:=l.trans c
  have ab:=hE.size
  simp(disch:=(simp only[push_cast];done)) only[push_cast,E.ld4,m.len]
  have H:=hf
  simp only[M.formed,Bool.and_eq_true,decide_eq_true_eq] at H
  have a2:t.ks.length≤3:=by
   have D:=H.1
   unfold M.arity at D
   repeat' split at D
   all_goals omega
  refine vloop_up t.ks.length (fun i u w'=> ∃sv,u=[sv,.int .i64 i]∧Ext T w'∧OwnI PP zg w' sv ((t.ks.take i).map (M.sortM ds))∧(∀b,sv.ownBlock=some b→T.heap.size≤b)∧(∀x,x∈(t.ks.take i).map (M.sortM ds)→x≠ -1)) ⟨_,rfl,Same.refl _ _,OwnI.nil,(fun b h=>by cases h),by simp⟩ ?_
  rintro i _ _ w3 C hi ⟨sv,rfl,d,B,L,n⟩ R
  have k:=hE.trans d
  have o:=m.ext k
  simp only[push_cast]
  refine zh (fun a=>?_) (fun a=>?_)
  ·simp(disch:=first|(simp only[push_cast];done)|omega) only[push_cast,o.iaddr]
   refine o.load zI (by omega) fun x r=>?_
   obtain⟨cs,rfl,s⟩:=r.cells
   refine zF yR fun b2 w4 a4 e a7 h4=>?_
   refine stTerm h4 rfl (s.ext e) fun w5 Z aa h5=>?_
   have p:Ext w3 w5:=Ext.then e Z fun y P=>by subst P;omega
   rw[h5.ldAgg (t:=za) (by rw[xX s];exact zI)]
   refine ih _ (M.getD_mem (by omega) _) (hm.ext (k.trans p)) (hd.ext (k.trans p)) N (s.ext p).term fun w6 V=>?_
   simp only[push_cast]
   have f:=p.trans V
   refine zh (fun b=>?_) (fun b=>?_)
   ·have:=U _ (k.trans f)
    rw[M.sortM_eq] at this
    unfold M.sortF at this
    rwa[if_neg (fun h=>h.2 (b▸List.mem_map_of_mem (M.getD_mem (by omega) _)))] at this
   ·refine XT ju qR jS rfl rfl (by decide) fun b3 w7 a5 z a8 h7=>?_
    have O:=(B.ext f).ext z
    have hlen:((t.ks.take i).map (M.sortM ds)).length=i:=by rw[List.length_map,List.length_take];omega
    refine O.app1 jW h7 (by rw[hlen];omega) (by rw[hlen];omega) fun a1 w8 q a0 X=>?_
    try simp only[push_cast]
    rw[inc64' (by omega)]
    rw[XV _ (by omega)] at q
    refine R (by omega) _ _ ⟨a1,rfl,Ext.then ((d.trans f).trans z) a0 fun y P=>L y P,q,fun y P=>?_,fun x r=>?_⟩
    ·rcases X y P with h|h
     ·exact L y h
     ·have:=(d.trans f).size;have:=z.size;omega
    ·rw[←XV _ (by omega) default] at r
     rcases List.mem_append.1 r with r|r
     ·exact n x r
     ·rw[List.mem_singleton.1 r];exact b
  ·have W:i=t.ks.length:=by omega
   subst W
   rw[List.take_length] at B n
   have Q:=E.ext d
   simp(disch:=(simp only[push_cast];done)) only[push_cast,Q.ldAgg (t:=za) zI]
   refine I.sort _ _ F G _ _ _ _ ds t _ rfl (hd.ext k) ⟨ksv,rfl,o⟩ B.ints (by rw[List.length_map];omega) (fun j=>?_) fun w4 e=>?_
   ·by_cases hj:j<t.ks.length
    ·rw[M.getD_map _ hj 0 default];exact M.sort_range N _
    ·rw[List.getD_eq_getElem?_getD,List.getElem?_eq_none (by simpa using hj)];simp
   ·have:=U _ (k.trans e)
    rw[M.sortM_eq] at this
    unfold M.sortF at this
    rwa[if_pos ⟨hf,fun h=>n _ h rfl⟩] at this
def nnB:M.Tm→Bool:=M.Tm.fold fun t xs=>decide (t.op≠21)&&xs.all id
theorem J70 (t:M.Tm):nnB t=(decide (t.op≠21)&&(t.ks.map nnB).all id):=M.Tm.fold_eq _ t
theorem nnB_iff {t:M.Tm}:nnB t=true↔t.op≠21∧∀k,k∈t.ks→nnB k=true:=by
 rw[J70,Bool.and_eq_true,decide_eq_true_eq,List.all_eq_true]
 refine and_congr_right fun _=>⟨fun h k a=>h _ (List.mem_map_of_mem a),fun h y b=>?_⟩
 obtain⟨k,a,rfl⟩:=List.mem_map.1 b
 exact h k a
theorem valueOf_specG:∀(t:M.Tm) {w:World} {K:Value→World→Prop} {F G:Nat→Prop} {mb:Nat} {dv v ev:Value} {ds:List M.Dcl} {env:List Int},KindsR w mb→DclsR F w dv ds→M.envOk ds env=true→((∃eb,ev= .map (some eb)∧EnvM w eb ds env)∨nnB t=true)→TermR G w v t→M.sortM ds t≠ -1→
  (∀w',Ext w w'→K (kK (M.sortM ds t) (M.evalM ds env t)) w')→vcall PP jy #[.map (some mb),dv,v,ev] w K:=by
 refine M.Tm.ind fun t ih w K F G mb dv v ev ds env hm hd B hE ht p hK=>?_
 have a4:=(M.env_ok B).1
 apply x90
 obtain⟨ksv,rfl,o⟩:=ht
 obtain⟨hf,n,a5⟩:=M.sort_parts p
 have L:=hf
 simp only[M.formed,Bool.and_eq_true,decide_eq_true_eq] at L
 have a9:t.ks.length≤3:=by
  have X:=L.1
  unfold M.arity at X
  repeat' split at X
  all_goals omega
 have ho:0≤M.arity t.op:=by omega
 refine zD fun b1 w1 aa I ae X=>?_
 refine zF yZ fun b2 w2 ab J af h2=>?_
 have q1:=X.ext J
 have H:=I.trans J
 have aj:=H.size
 have ai:=o.small
 simp(disch:=(simp only[push_cast];done)) only[push_cast,q1.ld4,o.len]
 refine vloop_up t.ks.length (fun i u w'=> ∃sv,u=[sv,.int .i64 i]∧Ext w2 w'∧OwnP PP y5 w' sv ((t.ks.take i).map (M.vecM ds env))∧(∀b,sv.ownBlock=some b→w2.heap.size≤b)) ⟨_,rfl,Same.refl _ _,OwnP.nil _,fun b h=>by cases h⟩ ?_
 rintro i _ _ w3 C hi ⟨sv,rfl,l,D,S⟩ hC
 have f:=H.trans l
 have r:=o.ext f
 have ak:=l.size
 simp only[push_cast]
 refine zh (fun a=>?_) (fun a=>?_)
 ·simp(disch:=first|(simp only[push_cast];done)|omega) only[push_cast,r.iaddr]
  refine r.load zI (by omega) fun x hx=>?_
  obtain⟨cs,rfl,z⟩:=hx.cells
  refine zF yR fun b3 w4 ac d ag h4=>?_
  refine stTerm h4 rfl (z.ext d) fun w5 a6 al h5=>?_
  have c:Ext w3 w5:=Ext.then d a6 fun y E=>by subst E;omega
  rw[h5.ldAgg (t:=za) (by rw[xX z];exact zI)]
  refine ih _ (M.getD_mem (by omega) _) (hm.ext (f.trans c)) (hd.ext (f.trans c)) B (hE.imp (fun⟨eb,e,h⟩=>⟨eb,e,h.ext (f.trans c)⟩) fun h=>(nnB_iff.1 h).2 _ (M.getD_mem (by omega) _)) (z.ext c).term (n _ (M.getD_mem (by omega) _)) fun w6 q=>?_
  have m:=c.trans q
  refine XT k70 kX0 yZ rfl rfl (by decide) fun b4 w7 ad A ah Z=>?_
  have V:=(D.ext m).ext A
  have hlen:((t.ks.take i).map (M.vecM ds env)).length=i:=by rw[List.length_map,List.length_take];omega
  refine Own.app1k V kl0 (by decide) Z rfl (by intro v hv;simp only[List.mem_cons,List.not_mem_nil,or_false] at hv;rcases hv with rfl|rfl<;>rfl) (by rw[List.length_map,hlen];omega) (by rw[List.length_map,hlen];omega) fun W w8 T a8 a3=>?_
  rw[inc64' (by omega)]
  have U:OwnP PP y5 w8 W ((t.ks.take (i+1)).map (M.vecM ds env)):=by
   unfold OwnP
   rw[←XV _ (by omega) default,List.map_append,M.vecM_pair ds env (t.ks.getD i default)]
   exact T
  refine hC (by omega) _ _ ⟨W,rfl,Ext.then ((l.trans m).trans A) a8 fun y E=>S y E,U,fun y E=>?_⟩
  rcases a3 y E with h|h
  ·exact S y h
  ·have:=m.size;have:=A.size;omega
 ·have a0:i=t.ks.length:=by omega
  subst a0
  rw[List.take_length] at D
  refine zx fun w4 d _=>?_
  have q4:=(q1.ext l).ext d
  have g:=f.trans d
  have Q:=o.ext g
  simp(disch:=(simp only[push_cast];done)) only[push_cast,q4.ld0,q4.ldAgg (t:=za) zI,true_and]
  refine Z70 (hm.ext g) ho (Same.refl _ _) fun kv a1 a2=>⟨rfl,?_⟩
  refine sortOf_spec t (hm.ext g) (hd.ext g) a4 ⟨ksv,rfl,Q⟩ fun w5 c=>?_
  have q5:=q4.ext c
  simp(disch:=(simp only[push_cast];done)) only[push_cast,q5.ld0,q5.ldAgg (t:=za) zI,true_and,and_self]
  refine⟨a2 _ c,?_⟩
  have s:=g.trans c
  have R:(t.ks.map (M.vecM ds env)).length=t.ks.length:=List.length_map _
  have O:∀j,j<t.ks.length→(t.ks.map (M.vecM ds env)).getD j (0,0)=(M.sortM ds (t.ks.getD j default),M.evalM ds env (t.ks.getD j default)):=fun j P=>by rw[M.getD_map _ P _ default,M.vecM_pair]
  have N:(t.ks.map (M.vecM ds env)).map (·.1)=t.ks.map (M.sortM ds):=by
   rw[List.map_map];exact List.map_congr_left fun k _=>M.vecM_sort ds env k
  refine a1.value _ _ G _ _ _ _ ds env t _ rfl (fun Y=>hE.elim (fun⟨eb,e,h⟩=>⟨eb,e,h.ext s⟩) fun h=>absurd Y (nnB_iff.1 h).1) ⟨ksv,rfl,o.ext s⟩ ((D.ext (d.trans c)).pairs) (by rw[R];omega) (fun j P=>?_) (by rw[N,←a5];exact p) fun w6 q=>?_
  ·rw[R] at P
   rw[O j P]
   exact M.eval_in B _ (n _ (M.getD_mem P _))
  ·simp only[push_cast,true_and]
   have h6:=(((h2.ext l).ext d).ext c).ext q
   refine stVec h6 fun w7 a7 _ Z=>?_
   rw[Z.lv (by kernel_rfl)]
   have hX:Ext w w7:=Ext.then (s.trans q) a7 fun y E=>by subst E;have:=I.size;omega
   have:=hK w7 hX
   rw[M.evalM_eq] at this
   exact this
theorem j50 (t:M.Tm) {w:World} {K:Value→World→Prop} {F G:Nat→Prop} {mb eb:Nat} {dv v:Value} {ds:List M.Dcl} {env:List Int} (hm:KindsR w mb) (d:DclsR F w dv ds) (a:M.envOk ds env=true) (b:EnvM w eb ds env) (e:TermR G w v t) (hs:M.sortM ds t≠ -1)
  (c:∀w',Ext w w'→K (kK (M.sortM ds t) (M.evalM ds env t)) w'):vcall PP jy #[.map (some mb),dv,v,.map (some eb)] w K:=valueOf_specG t hm d a (.inl ⟨_,rfl,b⟩) e hs c
theorem count_spec:∀(t:M.Tm) {w:World} {K:Value→World→Prop} {F:Nat→Prop} {v:Value} {m deep mb:Nat} {ty:TypeId},TermR F w v t→Blk w mb [.int .i64 m] ty→(∀b,F b→b≠mb)→m≤20→1≤deep→deep≤8→
  (∀w' (r B:Nat),Same (· =mb) w w'→Blk w' mb [.int .i64 B] ty→m<B→B≤21→deep≤r→r≤8→(m+M.sizeM t≤20∧deep-1+M.deepM t≤7→B=m+M.sizeM t∧r=deep-1+M.deepM t)→(¬(m+M.sizeM t≤20∧deep-1+M.deepM t≤7)→20<B∨7<r)→K (.int .i64 r) w')→
  vcall PP YH #[v,.int .i64 deep,.pointer (some ⟨mb,0,none⟩)] w K:=by
 refine M.Tm.ind fun t ih w K F v m deep mb ty ht E hF hm a2 a3 L=>?_
 apply jO0
 obtain⟨ksv,rfl,n⟩:=ht
 refine zD fun b1 w1 a0 p a9 Z=>?_
 have o:=E.ext p
 have X:=E.lt
 have ab:=n.small
 have hS:=M.szT_all t
 have hD:=M.dpT_all t
 simp(disch:=(simp only[push_cast];done)) only[push_cast,o.ld0]
 rw[inc64' (by omega)]
 refine o.st (i:=0) rfl rfl qR rfl fun G A ac D=>?_
 have s:Same (· =mb) w G:=(Same.of_ext p).trans A
 have q2:=Z.same A (by omega)
 replace D:Blk G mb [.int .i64 (m+1:Nat)] ty:=D
 refine zh (fun a=>?_) (fun a=>?_)
 ·exact L G deep (m+1) s D (by omega) (by omega) (by omega) (by omega) (fun h=>by omega) (fun h=>by omega)
 simp(disch:=(simp only[push_cast];done)) only[push_cast,q2.ld4,n.len]
 refine vloop_up t.ks.length (fun i u w'=> ∃r mi:Nat,u=[.int .i64 r,.int .i64 i]∧Same (· =mb) G w'∧Blk w' mb [.int .i64 mi] ty∧m<mi∧mi≤21∧deep≤r∧r≤8∧(m+1+M.szT t.ks i≤20∧deep+M.dpT t.ks i≤7→mi=m+1+M.szT t.ks i∧r=deep+M.dpT t.ks i)∧(¬(m+1+M.szT t.ks i≤20∧deep+M.dpT t.ks i≤7)→20<mi∨7<r))
  ⟨deep,m+1,rfl,Same.refl _ _,D,by omega,by omega,by omega,by omega,fun h=>by simp[M.szT,M.dpT],fun h=>by
   have V:M.szT t.ks 0=0:=rfl
   have e2:M.dpT t.ks 0=0:=rfl
   omega⟩ ?_
 rintro i _ _ H C hi ⟨r,mi,rfl,z,J,R,S,c3,T,I,U⟩ hC
 have d:Same (· =mb) w H:=s.trans z
 have g:TmsR F H ksv t.ks:=n.same d fun b E _ e=>hF b E e
 have ad:=d.size
 simp only[push_cast]
 refine zh (fun b=>?_) (fun b=>?_)
 ·have a5:=M.szT_mono (ks:=t.ks) (i:=i) (j:=t.ks.length) (by omega) (Nat.le_refl _)
  have a6:=M.dpT_mono (ks:=t.ks) (i:=i) (j:=t.ks.length) (by omega) (Nat.le_refl _)
  have a7:=M.szT_succ (ks:=t.ks) (i:=i) (by omega)
  have a8:=M.dpT_succ (ks:=t.ks) (i:=i) (by omega)
  simp(disch:=first|(simp only[push_cast];done)|omega) only[push_cast,g.iaddr]
  refine g.load zI (by omega) fun x hx=>?_
  obtain⟨cs,rfl,l⟩:=hx.cells
  refine zF yR fun b2 w4 a1 q aa h4=>?_
  refine stTerm h4 rfl (l.ext q) fun Y P ae h5=>?_
  have f:Ext H Y:=Ext.then q P fun y hy=>by subst hy;omega
  have k:=J.ext f
  have a4:=J.lt
  simp(disch:=(simp only[push_cast];done)) only[push_cast,k.ld0]
  refine zh (fun c=>?_) (fun c=>?_)
  ·exact L Y r mi (d.trans (Same.of_ext f)) k R S c3 T (fun h=>by omega) (fun h=>by omega)
  ·rw[h5.ldAgg (t:=za) (by rw[xX l];exact zI)]
   have V:IntKind.i64.wrap ((deep:Int)+1)=((deep+1:Nat):Int):=inc64' (by omega)
   rw[V]
   refine ih _ (M.getD_mem (by omega) _) (l.ext f).term k hF (by omega) (by omega) (by omega) fun w6 Q m2 O h6 d1 d2 d3 d4 d5 d6=>?_
   simp only[push_cast]
   rw[inc64' (by omega),show max (r:Int) (Q:Int)=((max r Q:Nat):Int) by omega]
   refine hC (by omega) _ _ ⟨max r Q,m2,rfl,(z.trans (Same.of_ext f)).trans O,h6,by omega,d2,by omega,by omega,fun h=>?_,fun h=>?_⟩
   ·have:=I (by omega)
    have:=d5 (by omega)
    omega
   ·by_cases W:m+1+M.szT t.ks i≤20∧deep+M.dpT t.ks i≤7
    ·have:=I W
     have:=d6 (by omega)
     omega
    ·have:=U W
     omega
 ·have N:i=t.ks.length:=by omega
  subst N
  refine L H r mi d J R S c3 T (fun h=>?_) (fun h=>?_)
  ·have:=I (by omega)
   omega
  ·exact U (by omega)
theorem TermMany_spec {v:Value} {t:M.Tm} (A:TermR F w v t) (H:∀w',Ext w w'→K (.tuple #[.int .i64 (M.manyM t),.int .i64 (M.lvlM t)]) w'):vcall PP Y7 #[v] w K:=by
 apply yx0
 have s:=A.weaken (F':=fun b=>b<w.heap.size) fun b _ h=>h
 obtain⟨ksv,rfl,L⟩:=A
 refine zD fun b1 Y I o N E=>?_
 refine Xm jS fun b2 S J g O l=>?_
 replace l:Blk S b2 [.int .i64 0] zb:=l
 refine l.st (i:=0) rfl rfl qR rfl fun B k P n=>?_
 replace n:Blk B b2 [.int .i64 ((0:Nat):Int)] zb:=n
 have R:=(E.ext g).same k (by omega)
 have j:Ext w B:=Ext.then (o.trans g) k fun y x=>by subst x;omega
 rw[R.ldAgg (t:=za) zI]
 refine count_spec t (m:=0) (deep:=1) (s.ext j) n (fun b X e=>by omega) (by omega) (by omega) (by omega) fun C r Q q G T U c3 V f D=>?_
 have p:Ext w C:=Ext.then j q fun y x=>by subst x;omega
 have d:=H C p
 have c:M.fits t=true↔M.sizeM t≤20∧M.deepM t≤7:=M.fits_iff
 unfold M.manyM M.lvlM at d
 simp(disch:=(simp only[push_cast];done)) only[push_cast,G.ld0]
 refine zh (fun a=>?_) (fun a=>?_)
 ·rw[if_neg (fun h=>by have u:=c.1 h;have:=f (by omega);omega),if_neg (fun h=>by have u:=c.1 h;have:=f (by omega);omega)] at d
  exact d
 ·refine zh (fun b=>?_) (fun b=>?_)
  ·rw[if_neg (fun h=>by have u:=c.1 h;have:=f (by omega);omega),if_neg (fun h=>by have u:=c.1 h;have:=f (by omega);omega)] at d
   exact d
  ·have z:M.sizeM t≤20∧M.deepM t≤7:=by
    by_cases h:M.sizeM t≤20∧M.deepM t≤7
    ·exact h
    ·have:=D (by omega);omega
   have W:=f (by omega)
   rw[if_pos (c.2 z),if_pos (c.2 z)] at d
   rw[show Q=M.sizeM t by omega,show r=M.deepM t by omega]
   exact d
end Go.Proofs.YtaekfnbnhjgboaaGreatDoor
end
section
namespace Go.Proofs
open Go.Shelf
def YtaekfnbnhjgboaaGreatDoor.trimL_ren:Go.Shelf.Ren:=⟨fun|160=>137 |232=>197 |231=>196 |227=>198 |234=>200 |233=>199 |236=>202 |235=>201 |228=>236 |271=>239 |151=>238 |197=>237 |120=>263 |152=>262 |260=>261 |137=>281 |119=>282 |224=>283 |225=>284 |217=>291 |266=>295 |n=>n,fun|9=>9 |4=>4 |3=>3 |5=>5 |117=>273 |116=>272 |0=>0 |124=>276 |21=>21 |105=>309 |46=>314 |119=>344 |139=>347 |138=>346 |n=>n,fun|3=>3 |4=>4 |n=>n⟩
theorem YtaekfnbnhjgboaaGreatDoor.trimL:Go.Proofs.Lays.n160 Tryz.prog YtaekfnbnhjgboaaGreatDoor.trimL_ren:={
 mixed:=by kernel_rfl
 f119:=Tryz.func282.trans (congrArg some (by kernel_rfl))
 f120:=Tryz.func263.trans (congrArg some (by kernel_rfl))
 f137:=Tryz.func281.trans (congrArg some (by kernel_rfl))
 f151:=Tryz.func238.trans (congrArg some (by kernel_rfl))
 f152:=Tryz.func262.trans (congrArg some (by kernel_rfl))
 f160:=Tryz.func137.trans (congrArg some (by kernel_rfl))
 f197:=Tryz.func237.trans (congrArg some (by kernel_rfl))
 f217:=Tryz.func291.trans (congrArg some (by kernel_rfl))
 f224:=Tryz.func283.trans (congrArg some (by kernel_rfl))
 f225:=Tryz.func284.trans (congrArg some (by kernel_rfl))
 f227:=Tryz.func198.trans (congrArg some (by kernel_rfl))
 f228:=Tryz.func236.trans (congrArg some (by kernel_rfl))
 f231:=Tryz.func196.trans (congrArg some (by kernel_rfl))
 f232:=Tryz.func197.trans (congrArg some (by kernel_rfl))
 f233:=Tryz.func199.trans (congrArg some (by kernel_rfl))
 f234:=Tryz.func200.trans (congrArg some (by kernel_rfl))
 f235:=Tryz.func201.trans (congrArg some (by kernel_rfl))
 f236:=Tryz.func202.trans (congrArg some (by kernel_rfl))
 f260:=Tryz.func261.trans (congrArg some (by kernel_rfl))
 f266:=Tryz.func295.trans (congrArg some (by kernel_rfl))
 f271:=Tryz.func239.trans (congrArg some (by kernel_rfl))
 t0:=Tryz.underlying0
 a0:=Tryz.isAgg0
 z0:=Tryz.sizeOf0
 v0:=Tryz.zeroValue0
 t3:=Tryz.underlying3
 a3:=Tryz.isAgg3
 z3:=Tryz.sizeOf3
 v3:=Tryz.zeroValue3
 t4:=Tryz.underlying4
 a4:=Tryz.isAgg4
 z4:=Tryz.sizeOf4
 v4:=Tryz.zeroValue4
 t5:=Tryz.underlying5
 a5:=Tryz.isAgg5
 z5:=Tryz.sizeOf5
 v5:=Tryz.zeroValue5
 t9:=Tryz.underlying9
 a9:=Tryz.isAgg9
 z9:=Tryz.sizeOf9
 v9:=Tryz.zeroValue9
 t21:=Tryz.underlying21
 a21:=Tryz.isAgg21
 z21:=Tryz.sizeOf21
 v21:=Tryz.zeroValue21
 t46:=Tryz.underlying314
 a46:=Tryz.isAgg314
 z46:=Tryz.sizeOf314
 v46:=Tryz.zeroValue314
 t105:=Tryz.underlying309
 a105:=Tryz.isAgg309
 z105:=Tryz.sizeOf309
 v105:=Tryz.zeroValue309
 t116:=Tryz.underlying272
 a116:=Tryz.isAgg272
 z116:=Tryz.sizeOf272
 t117:=Tryz.underlying273
 a117:=Tryz.isAgg273
 z117:=Tryz.sizeOf273
 v117:=Tryz.zeroValue273
 t119:=Tryz.underlying344
 a119:=Tryz.isAgg344
 z119:=Tryz.sizeOf344
 t124:=Tryz.underlying276
 a124:=Tryz.isAgg276
 z124:=Tryz.sizeOf276
 v124:=Tryz.zeroValue276
 t138:=Tryz.underlying346
 a138:=Tryz.isAgg346
 z138:=Tryz.sizeOf346
 v138:=Tryz.zeroValue346
 t139:=Tryz.underlying347
 a139:=Tryz.isAgg347
 z139:=Tryz.sizeOf347
 v139:=Tryz.zeroValue347
 g3:=by kernel_rfl
 g4:=by kernel_rfl}
def YtaekfnbnhjgboaaGreatDoor.joinL_ren:Go.Shelf.Ren:=⟨fun|156=>168 |165=>211 |166=>212 |169=>213 |240=>249 |241=>250 |276=>274 |277=>275 |n=>n,fun|31=>218 |9=>9 |3=>3 |4=>4 |0=>0 |20=>20 |72=>288 |76=>290 |70=>286 |37=>22 |75=>102 |127=>313 |164=>333 |5=>5 |80=>238 |n=>n,fun|n=>n⟩
theorem YtaekfnbnhjgboaaGreatDoor.joinL:Go.Proofs.Lays.n156 Tryz.prog YtaekfnbnhjgboaaGreatDoor.joinL_ren:={
 mixed:=by kernel_rfl
 f156:=Tryz.func168.trans (congrArg some (by kernel_rfl))
 f165:=Tryz.func211.trans (congrArg some (by kernel_rfl))
 f166:=Tryz.func212.trans (congrArg some (by kernel_rfl))
 f169:=Tryz.func213.trans (congrArg some (by kernel_rfl))
 f240:=Tryz.func249.trans (congrArg some (by kernel_rfl))
 f241:=Tryz.func250.trans (congrArg some (by kernel_rfl))
 f276:=Tryz.func274.trans (congrArg some (by kernel_rfl))
 f277:=Tryz.func275.trans (congrArg some (by kernel_rfl))
 t0:=Tryz.underlying0
 a0:=Tryz.isAgg0
 z0:=Tryz.sizeOf0
 v0:=Tryz.zeroValue0
 t3:=Tryz.underlying3
 a3:=Tryz.isAgg3
 z3:=Tryz.sizeOf3
 v3:=Tryz.zeroValue3
 t4:=Tryz.underlying4
 a4:=Tryz.isAgg4
 z4:=Tryz.sizeOf4
 v4:=Tryz.zeroValue4
 t9:=Tryz.underlying9
 a9:=Tryz.isAgg9
 z9:=Tryz.sizeOf9
 v9:=Tryz.zeroValue9
 t20:=Tryz.underlying20
 a20:=Tryz.isAgg20
 z20:=Tryz.sizeOf20
 v20:=Tryz.zeroValue20
 t31:=Tryz.underlying218
 a31:=Tryz.isAgg218
 z31:=Tryz.sizeOf218
 v31:=Tryz.zeroValue218
 t37:=Tryz.underlying22
 a37:=Tryz.isAgg22
 z37:=Tryz.sizeOf22
 v37:=Tryz.zeroValue22
 t70:=Tryz.underlying286
 a70:=Tryz.isAgg286
 z70:=Tryz.sizeOf286
 v70:=Tryz.zeroValue286
 t72:=Tryz.underlying288
 a72:=Tryz.isAgg288
 z72:=Tryz.sizeOf288
 v72:=Tryz.zeroValue288
 t75:=Tryz.underlying102
 a75:=Tryz.isAgg102
 z75:=Tryz.sizeOf102
 v75:=Tryz.zeroValue102
 t76:=Tryz.underlying290
 a76:=Tryz.isAgg290
 z76:=Tryz.sizeOf290
 v76:=Tryz.zeroValue290
 t127:=Tryz.underlying313
 a127:=Tryz.isAgg313
 z127:=Tryz.sizeOf313
 v127:=Tryz.zeroValue313
 t164:=Tryz.underlying333
 a164:=Tryz.isAgg333
 z164:=Tryz.sizeOf333
 v164:=Tryz.zeroValue333}
end Go.Proofs
end
section
namespace Go.Proofs.YtaekfnbnhjgboaaGreatDoor
open Go Go.Vc Go.Proofs
variable {w:World} {K:Value→World→Prop} {F G:Nat→Prop}
theorem dw_nil {α:Type} {p:α→Bool}:∀{l:List α},l.dropWhile p=[]↔ ∀x,x∈l→p x=true
 |[]=>by simp
 |a::l=>by
  rw[List.dropWhile_cons]
  split
  ·rename_i h
   rw[dw_nil]
   constructor
   ·intro b x c
    rcases List.mem_cons.1 c with rfl|c
    ·exact h
    ·exact b x c
   ·intro b x c;exact b x (List.mem_cons_of_mem _ c)
  ·rename_i h
   constructor
   ·intro b;cases b
   ·intro b;exact absurd (b a List.mem_cons_self) h
theorem dw_head {α:Type} {p:α→Bool}:∀{l:List α},l.dropWhile p≠[]→∃x,x∈l.dropWhile p∧p x=false
 |[],h=>absurd rfl h
 |a::l,h=>by
  rw[List.dropWhile_cons] at h⊢
  split
  ·rename_i b
   rw[if_pos b] at h
   exact dw_head h
  ·rename_i b
   exact⟨a,List.mem_cons_self,by simpa using b⟩
theorem dw_sub {α:Type} {p:α→Bool}:∀{l:List α} {x:α},x∈l.dropWhile p→x∈l
 |[],_,h=>h
 |a::l,x,h=>by
  rw[List.dropWhile_cons] at h
  split at h
  ·exact List.mem_cons_of_mem _ (dw_sub h)
  ·exact h
theorem Xb0 {l cs:List UInt8}:Lib.trimS l cs=[]↔ ∀x,x∈l→cs.contains x=true:=by
 unfold Lib.trimS Lib.trimLeftS Lib.trimRightS
 rw[dw_nil]
 constructor
 ·intro h
  by_cases a:∀x,x∈l→cs.contains x=true
  ·exact a
  ·exfalso
   have b:List.dropWhile (fun x=>cs.contains x) l.reverse≠[]:=fun e=>a fun x c=>dw_nil.1 e x (List.mem_reverse.2 c)
   obtain⟨y,g,f⟩:=dw_head b
   have d:=h y (List.mem_reverse.2 g)
   rw[f] at d;cases d
 ·intro h x c
  exact h x (List.mem_reverse.1 (dw_sub (List.mem_reverse.1 c)))
def abc:ByteArray:=⟨#[97,98,99,100,101,102,103,104,105,106,107,108,109,110,111,112,113,114,115,116,117,118,119,120,121,122]⟩
theorem abc_in (x:UInt8):abc.data.toList.contains x=(decide (97≤x.toNat)&&decide (x.toNat≤122)):=by
 have a:∀n:Fin 256,abc.data.toList.contains (UInt8.ofNat n.1)=(decide (97≤(UInt8.ofNat n.1).toNat)&&decide ((UInt8.ofNat n.1).toNat≤122)):=by decide+kernel
 have:=a ⟨x.toNat,x.toNat_lt⟩
 simpa using this
theorem jX0 {w w':World} (h:Go.RowKit.Below w.heap.size w w'):Ext w w':=⟨h.os,h.tape,h.output,h.size,fun b a _=>h.block b a⟩
def jf0 (s:ByteArray):Bool:=s.data.all fun c=>decide (97≤c.toNat)&&decide (c.toNat≤122)
theorem YA0 {s:ByteArray} (hs:s.size≤9223372036854775807) (f:∀w' r,Ext w w'→(r=⟨#[]⟩↔jf0 s=true)→K (.string r) w'):vcall PP KD #[.string s,.string abc] w K:=by
 refine⟨by kernel_rfl,?_⟩
 refine(Any.strings_Trim_laid YtaekfnbnhjgboaaGreatDoor.trimL (by kernel_rfl) s abc w hs (by decide) (ascii_of_all (by decide))).mono ?_
 rintro e w' ⟨rfl,g⟩
 refine f w' _ (jX0 g) ?_
 have c:((⟨(Lib.trimS s.data.toList abc.data.toList).toArray⟩:ByteArray)=⟨#[]⟩)↔Lib.trimS s.data.toList abc.data.toList=[]:=by
  constructor
  ·intro h
   have d:=congrArg (fun b:ByteArray=>b.data.toList) h
   simpa using d
  ·intro h;rw[h]
 rw[c,Xb0]
 unfold jf0
 rw[Array.all_eq_true_iff_forall_mem]
 constructor
 ·intro h x a
  rw[←abc_in];exact h x (Array.mem_toList_iff.2 a)
 ·intro h x a
  rw[abc_in];exact h x (Array.mem_toList_iff.1 a)
theorem stDecl {b:Nat} {x y:Value} {t:TypeId} {s:ByteArray} {n:Int} (h:Blk w b [x,y] t) (c:∀w',Same (· =b) w w'→w'.heap.size=w.heap.size→Blk w' b [.string s,.int .i64 n] t→K undef w'):zt PP zz (.pointer (some ⟨b,0,none⟩)) (.agg ⟨[.string s,.int .i64 n]⟩) w K:=
 h.stAgg rfl (by kernel_rfl) (by intro v a;simp only[List.mem_cons,List.not_mem_nil,or_false] at a;rcases a with rfl|rfl<;>rfl) c
theorem QQ (s:ByteArray):M.nameOk s=(decide (1≤s.size)&&decide (s.size≤4)&&decide (s≠M.tru)&&jf0 s):=rfl
theorem DeclOk_spec {v:Value} {ds:List M.Dcl} (O:DclsR F w v ds) (D:∀w',Ext w w'→K (.bool (M.declOk ds)) w'):vcall PP ji #[v] w K:=by
 apply qW0
 simp(disch:=(simp only[push_cast];done)) only[push_cast,O.len]
 refine zh (fun a=>?_) (fun a=>?_)
 ·have:=D w (Same.refl _ _)
  rwa[show M.declOk ds=false from by rw[Bool.eq_false_iff];intro h;have:=(M.decl_iff.1 h).1;omega] at this
 refine vloop_up ds.length (fun i u w'=>u=[.int .i64 (M.bitT ds i),.int .i64 i]∧Ext w w'∧(∀j,j<i→M.dclOk ds j=true)∧ -4*(i:Int)≤M.bitT ds i∧M.bitT ds i≤4*i) ⟨rfl,Same.refl _ _,by omega,by simp[M.bitT],by simp[M.bitT]⟩ ?_
 rintro i _ _ w1 C hi ⟨rfl,o,q,a0,a1⟩ hC
 have E:=O.ext o
 simp only[push_cast]
 refine zh (fun b=>?_) (fun b=>?_)
 ·have z:i<ds.length:=by omega
  have d:M.dclOk ds i=false→∀w',Ext w w'→K (.bool false) w':=fun e w' he=>by
   have:=D w' he
   rwa[show M.declOk ds=false from by rw[Bool.eq_false_iff];intro h;have:=(M.decl_iff.1 h).2.1 i z;rw[e] at this;cases this] at this
  unfold M.dclOk at d
  rw[QQ] at d
  simp(disch:=first|(simp only[push_cast];done)|omega) only[push_cast,E.iaddr,E.load]
  obtain⟨s,n,B⟩:∃s n,ds.getD i Wd=(s,n):=⟨_,_,rfl⟩
  simp only[B] at d⊢
  refine zF xF fun b1 w2 U P a4 Y=>?_
  refine stDecl Y fun W R _ S=>?_
  have a6:=o.size
  have k:Ext w W:=Ext.then (o.trans P) R fun y hy=>by subst hy;omega
  refine zV (fun u w'=>u=[]∧Ext W w'∧M.nameOk s=true) (fun C' N=>?_) ?_
  ·simp(disch:=first|(simp only[push_cast];done)|omega) only[push_cast,S.ld0,xR0 Xo]
   refine zh (fun c=>?_) (fun c=>?_)
   ·exact d (by rw[decide_eq_false (show¬1≤s.size by omega)];simp) _ k
   refine zh (fun I=>?_) (fun I=>?_)
   ·exact d (by rw[decide_eq_false (show¬s.size≤4 by omega)];simp) _ k
   refine zh (fun c3=>?_) (fun c3=>?_)
   ·exact d (by rw[show decide (s≠M.tru)=false from decide_eq_false (fun h=>h c3)];simp) _ k
   refine YA0 (by omega) fun w4 r l V=>?_
   simp only[push_cast]
   refine zh (fun J=>?_) (fun J=>?_)
   ·have:jf0 s=false:=by
     rw[Bool.eq_false_iff];exact fun h=>J (V.2 h)
    exact d (by rw[this];simp) _ (k.trans l)
   ·have L:r=⟨#[]⟩:=by
     by_cases h:r=⟨#[]⟩
     ·exact h
     ·exact absurd h J
    refine N _ _ ⟨rfl,l,?_⟩
    rw[QQ,decide_eq_true (show 1≤s.size by omega),decide_eq_true (show s.size≤4 by omega),show decide (s≠M.tru)=true from decide_eq_true c3,V.1 L]
    rfl
  ·rintro u g w4 ⟨rfl,l,A⟩
   have T:=S.ext l
   have f:=k.trans l
   have G:=O.ext f
   rw[QQ] at A
   rw[A] at d
   rw[G.cut (by intro e;subst e;simp at z) (by kernel_rfl) (by omega)]
   simp only[push_cast]
   have a3:(ds.take i).length=i:=by rw[List.length_take];omega
   refine UJ (p:=fun j=>decide (((ds.take i).getD j Wd).1=s)) (G.taken (by omega)) (fun j hj=>?_) fun w5 m=>?_
   ·intro w' K he D
    simp only[push_cast]
    apply yz0
    refine zD fun b3 w6 a2 H a5 h6=>?_
    have h7:=(T.ext he).ext H
    simp(disch:=first|(simp only[push_cast];done)|omega) only[push_cast,h6.ld0,h7.ld0]
    exact D _ H
   ·rw[←Qg]
    have Z:=T.ext m
    have efd:idxI (ds.take i).length (fun j=>decide (((ds.take i).getD j Wd).1=s))=M.findD (ds.take i) s:=rfl
    rw[efd]
    refine zh (fun c=>?_) (fun c=>?_)
    ·exact d (by rw[decide_eq_false (show¬M.findD (ds.take i) s<0 by omega)];simp) _ (f.trans m)
    simp(disch:=first|(simp only[push_cast];done)|omega) only[push_cast,Z.ld1]
    refine zh (fun X=>?_) (fun X=>?_)
    ·exact d (by rw[decide_eq_false (show¬1≤n by omega)];simp) _ (f.trans m)
    refine zh (fun I=>?_) (fun I=>?_)
    ·exact d (by rw[decide_eq_false (show¬n≤4 by omega)];simp) _ (f.trans m)
    have t:=M.bitT_succ z
    rw[show ds.getD i (M.nada,0)=(s,n) from B] at t
    rw[zy (x:=M.bitT ds i+n) (by omega) (by omega),inc64' (by omega),show M.bitT ds i+n=M.bitT ds (i+1) from t.symm]
    refine hC (by omega) _ _ ⟨rfl,f.trans m,fun j hj=>?_,by omega,by omega⟩
    by_cases e:j=i
    ·subst e
     unfold M.dclOk
     rw[show ds.getD j (M.nada,0)=(s,n) from B,QQ,A]
     simp only[Bool.true_and,Bool.and_eq_true,decide_eq_true_eq]
     exact⟨⟨by omega,by omega⟩,by omega⟩
    ·exact q j (by omega)
 ·have Q:i=ds.length:=by omega
  subst Q
  have:=D w1 o
  rw[M.bitT_all]
  have e:M.declOk ds=decide (M.bits ds≤8):=by
   rw[Bool.eq_iff_iff,M.decl_iff,decide_eq_true_eq]
   exact⟨fun h=>h.2.2,fun h=>⟨by omega,q,h⟩⟩
  rwa[e] at this
theorem EnvOk_spec {v ev:Value} {ds:List M.Dcl} {env:List Int} (p:DclsR F w v ds) (x:Ints G w ev env) (r:∀w',Ext w w'→K (.bool (M.envOk ds env)) w'):vcall PP YJ #[v,ev] w K:=by
 apply jR0
 have B:=p.small
 refine zV (fun u w'=>u=[]∧Ext w w'∧M.declOk ds=true∧env.length=ds.length) (fun C q=>?_) ?_
 ·refine DeclOk_spec p fun y c=>?_
  have s:=p.ext c
  have l:=x.ext c
  have f:=r y c
  unfold M.envOk at f
  simp only[push_cast]
  refine y9 (fun a=>?_) (fun a=>?_)
  ·rw[show M.declOk ds=false by simpa using a] at f
   exact f
  ·rw[Bool.not_eq_false'] at a
   simp(disch:=(simp only[push_cast];done)) only[push_cast,l.len,s.len]
   refine zh (fun b=>?_) (fun b=>?_)
   ·rw[a,decide_eq_false (show¬env.length=ds.length by omega)] at f
    exact f
   ·exact q _ _ ⟨rfl,c,a,by omega⟩
 ·rintro u g y ⟨rfl,c,t,A⟩
  have l:=x.ext c
  simp(disch:=(simp only[push_cast];done)) only[push_cast,l.len]
  refine vloop_up env.length (fun i u w'=>u=[.int .i64 i]∧Ext w w'∧∀j,j<i→M.vok (ds.getD j Wd).2 (env.getD j 0)=true) ⟨rfl,c,by omega⟩ ?_
  rintro i _ _ D C hi ⟨rfl,d,k⟩ q
  have m:=p.ext d
  have o:=x.ext d
  simp only[push_cast]
  refine zh (fun a=>?_) (fun a=>?_)
  ·simp(disch:=first|(simp only[push_cast];done)|omega) only[push_cast,o.iaddr,o.load,m.iaddr]
   try simp(disch:=first|(simp only[push_cast];done)|omega) only[push_cast,m.load1]
   refine VecOk_spec fun E n=>?_
   simp only[push_cast]
   refine y9 (fun b=>?_) (fun b=>?_)
   ·have f:=r E (d.trans n)
    rwa[show M.envOk ds env=false from by
     rw[Bool.eq_false_iff];intro h
     have:=(M.env_ok h).2.2 i (by omega)
     rw[this] at b;cases b] at f
   ·rw[inc64' (by omega)]
    refine q (by omega) _ _ ⟨rfl,d.trans n,fun j z=>?_⟩
    by_cases e:j=i
    ·subst e;simpa using b
    ·exact k j (by omega)
  ·have f:=r D d
   rwa[show M.envOk ds env=true from by
    simp only[M.envOk,Bool.and_eq_true,List.all_eq_true,List.mem_range,decide_eq_true_eq]
    exact⟨⟨t,A⟩,fun j z=>k j (by omega)⟩] at f
theorem envMap_spec {v ev:Value} {ds:List M.Dcl} {env:List Int} (o:DclsR F w v ds) (H:Ints G w ev env) (B:M.envOk ds env=true) (Q:∀w' b,Ext w w'→EnvM w' b ds env→K (.map (some b)) w'):vcall PP Qb #[v,ev] w K:=by
 apply qQ0
 have X:=o.small
 obtain⟨q,hl,_⟩:=M.env_ok B
 refine xP0 zX0 fun b w1 hb hm k V=>?_
 have p:=o.ext k
 simp(disch:=(simp only[push_cast];done)) only[push_cast,p.len]
 refine vloop_up ds.length (fun i u w'=>u=[.int .i64 i]∧Ext w w'∧MapF .string w' b ((List.range i).map fun j=>(Value.string (ds.getD j Wd).1,Value.int .i64 (env.getD j 0)))) ⟨rfl,k,hm⟩ ?_
 rintro i _ _ J C hi ⟨rfl,c,f⟩ P
 have h:=o.ext c
 have Y:=c.size
 have U:=f.lt
 simp only[push_cast]
 refine zh (fun a=>?_) (fun a=>?_)
 ·simp(disch:=first|(simp only[push_cast];done)|omega) only[push_cast,h.iaddr,h.load]
  refine zF xF fun b1 w3 R r W L=>?_
  refine stDecl L fun Z E _ N=>?_
  have l:Ext J Z:=Ext.then r E fun y I=>by subst I;omega
  refine zx fun w5 d _=>?_
  have O:=N.ext d
  have g:=(c.trans l).trans d
  have m:=H.ext g
  have z:=(f.ext l).ext d
  simp(disch:=first|(simp only[push_cast];done)|omega) only[push_cast,O.ld0,m.iaddr,m.load,true_and]
  refine j30 zX0 z (Jl _) (fun x H=>?_) fun w6 A D _=>?_
  ·obtain⟨j,S,e⟩:=List.mem_map.1 H
   injection e with n e2
   injection n with n
   exact M.dcl_apart q (i:=i) (j:=j) (by omega) (List.mem_range.1 S) n
  ·try simp only[push_cast]
   rw[inc64' (by omega)]
   refine P (by omega) _ _ ⟨rfl,Ext.then g D fun y I=>by subst I;omega,?_⟩
   rw[List.range_succ,List.map_append]
   exact A
 ·have t:i=ds.length:=by omega
  subst t
  refine Q J b c ⟨_,f,fun s hs=>?_⟩
  have T:=M.findD_lt ds s
  refine List.mem_map.2 ⟨(M.findD ds s).toNat,List.mem_range.2 (by omega),?_⟩
  rw[show(ds.getD (M.findD ds s).toNat Wd).1=s from M.findD_get hs]
theorem TermSort_spec {dv v:Value} {ds:List M.Dcl} {t:M.Tm} (r:DclsR F w dv ds) (z:TermR G w v t) (q:∀w',Ext w w'→K (.int .i64 (M.tsort ds t)) w'):vcall PP ku #[dv,v] w K:=by
 apply yw0
 obtain⟨cs,rfl,c⟩:=z.cells
 refine zD fun b1 C u g y n=>?_
 rw[n.ldAgg (t:=za) (by rw[xX c];exact zI)]
 refine TermMany_spec (c.ext g).term fun D i=>?_
 simp only[push_cast]
 have e:=g.trans i
 refine DeclOk_spec (r.ext e) fun A j=>?_
 have f:=e.trans j
 have m:=q A f
 unfold M.tsort at m
 simp only[push_cast]
 refine y9 (fun a=>?_) (fun a=>?_)
 ·rwa[if_neg (fun h=>by rw[h.2] at a;cases a)] at m
 ·rw[Bool.not_eq_false'] at a
  refine zh (fun b=>?_) (fun b=>?_)
  ·rw[if_neg (fun h=>by
    have n:=M.fits_iff.1 h.1
    unfold M.manyM at b
    rw[if_pos h.1] at b;omega)] at m
   exact m
  ·have x:M.fits t=true:=by
    by_cases h:M.fits t=true
    ·exact h
    ·unfold M.manyM at b
     rw[if_neg h] at b;omega
   refine zx fun E k _=>?_
   have p:=((n.ext i).ext j).ext k
   rw[p.ldAgg (t:=za) (by rw[xX c];exact zI)]
   refine⟨rfl,xH0 fun H mb l hm=>?_⟩
   have s:=p.ext l
   rw[s.ldAgg (t:=za) (by rw[xX c];exact zI)]
   have d:=(f.trans k).trans l
   refine⟨⟨rfl,rfl⟩,sortOf_spec t hm (r.ext d) a (c.ext d).term fun B o=>?_⟩
   have:=q B (d.trans o)
   unfold M.tsort at this
   rwa[if_pos ⟨x,a⟩] at this
theorem j00 {dv v ev:Value} {ds:List M.Dcl} {t:M.Tm} {env:List Int} {H:Nat→Prop} (r:DclsR F w dv ds) (J:TermR G w v t) (C:Ints H w ev env) (B:∀w',Ext w w'→K (.tuple #[.int .i64 (M.teval ds t env),.bool (M.tok ds t env)]) w'):vcall PP Y8 #[dv,v,ev] w K:=by
 apply yy0
 obtain⟨cs,rfl,c⟩:=J.cells
 refine zD fun b1 O E i I y=>?_
 rw[y.ldAgg (t:=za) (by rw[xX c];exact zI)]
 refine TermSort_spec (r.ext i) (c.ext i).term fun P n=>?_
 have d:=i.trans n
 have k:M.tok ds t env=false→∀w',Ext w w'→K (.tuple #[.int .i64 0,.bool false]) w':=fun e w' he=>by
  have:=B w' he
  unfold M.teval at this
  rw[e] at this
  exact this
 unfold M.tok at k
 simp only[push_cast]
 refine zh (fun a=>?_) (fun a=>?_)
 ·exact k (by rw[show decide (M.tsort ds t≠ -1)=false from decide_eq_false (fun h=>h a)];rfl) _ d
 ·refine EnvOk_spec (r.ext d) (C.ext d) fun Q o=>?_
  have m:=d.trans o
  simp only[push_cast]
  refine y9 (fun b=>?_) (fun b=>?_)
  ·exact k (by rw[show M.envOk ds env=false by simpa using b,Bool.and_false]) _ m
  ·rw[Bool.not_eq_false'] at b
   have x:M.tok ds t env=true:=by
    unfold M.tok
    rw[show decide (M.tsort ds t≠ -1)=true from decide_eq_true a,b];rfl
   have l:M.sortM ds t≠ -1:=by
    unfold M.tsort at a
    split at a
    ·exact a
    ·exact absurd rfl a
   have L:M.tsort ds t=M.sortM ds t:=by
    unfold M.tsort at a⊢
    split at a
    ·rename_i h;rw[if_pos h]
    ·exact absurd rfl a
   refine zx fun R p _=>?_
   have z:=((y.ext n).ext o).ext p
   rw[z.ldAgg (t:=za) (by rw[xX c];exact zI)]
   refine⟨rfl,xH0 fun S mb q hm=>?_⟩
   have A:=z.ext q
   rw[A.ldAgg (t:=za) (by rw[xX c];exact zI)]
   have f:=(m.trans p).trans q
   refine⟨⟨rfl,rfl⟩,envMap_spec (r.ext f) (C.ext f) b fun T eb j u=>?_⟩
   have D:=A.ext j
   rw[D.ldAgg (t:=za) (by rw[xX c];exact zI)]
   have g:=f.trans j
   refine⟨⟨rfl,rfl⟩,j50 t (hm.ext j) (r.ext g) b u (c.ext g).term l fun N s=>?_⟩
   simp only[push_cast,true_and]
   have:=B N (g.trans s)
   unfold M.teval at this
   rw[x] at this
   exact this
end Go.Proofs.YtaekfnbnhjgboaaGreatDoor
end
section
namespace Go.Proofs.YtaekfnbnhjgboaaGreatDoor
open Go Go.Vc Go.Proofs
variable {w:World} {K:Value→World→Prop} {F G:Nat→Prop}
theorem l2Name_spec {s:ByteArray} (hs:s.size≤9223372036854775807) (d:K (.bool (M.nameOk s)) w):vcall PP Q8 #[.string s] w K:=by
 apply qF0
 rw[QQ] at d
 refine vloop_up s.size (fun i u w'=>u=[.int .i64 i]∧w'=w∧∀j,j<i→(decide (97≤(s.data.getD j 0).toNat)&&decide ((s.data.getD j 0).toNat≤122))=true) ⟨rfl,rfl,by omega⟩ ?_
 rintro i _ _ r C hi ⟨rfl,rfl,g⟩ o
 simp(disch:=first|(simp only[push_cast];done)|omega) only[push_cast,xR0 Xo]
 have l:i<s.size→(decide (97≤(s.data.getD i 0).toNat)&&decide ((s.data.getD i 0).toNat≤122))=false→jf0 s=false:=fun f h=>by
  rw[Bool.eq_false_iff]
  intro k
  unfold jf0 at k
  rw[Array.all_eq_true_iff_forall_mem] at k
  have m:i<s.data.size:=f
  have:=k (s.data.getD i 0) (by rw[Array.getD_eq_getD_getElem?,Array.getElem?_eq_getElem m];exact Array.getElem_mem m)
  rw[h] at this;cases this
 refine zh (fun a=>?_) (fun a=>?_)
 ·have f:i<s.size:=by omega
  rw[vindex_str Xo (by omega) (by omega),Int.toNat_natCast]
  simp only[push_cast]
  refine zh (fun b=>?_) (fun b=>?_)
  ·rw[l f (by rw[decide_eq_false (show¬97≤(s.data.getD i 0).toNat by omega)];rfl),Bool.and_false] at d
   exact d
  rw[vindex_str Xo (by omega) (by omega),Int.toNat_natCast]
  simp only[push_cast]
  refine zh (fun c=>?_) (fun c=>?_)
  ·rw[l f (by rw[decide_eq_false (show¬(s.data.getD i 0).toNat≤122 by omega)];simp),Bool.and_false] at d
   exact d
  rw[inc64' (by omega)]
  refine o f _ _ ⟨rfl,rfl,fun j n=>?_⟩
  by_cases e:j=i
  ·subst e
   simp only[Bool.and_eq_true,decide_eq_true_eq];omega
  ·exact g j (by omega)
 ·have p:i=s.size:=by omega
  have k:jf0 s=true:=by
   unfold jf0
   rw[Array.all_eq_true_iff_forall_mem]
   intro x q
   obtain⟨j,n,rfl⟩:=Array.getElem_of_mem q
   have:=g j (by have:s.data.size=s.size:=rfl;omega)
   rwa[Array.getD_eq_getD_getElem?,Array.getElem?_eq_getElem n] at this
  rw[k,Bool.and_true] at d
  try simp(disch:=first|(simp only[push_cast];done)|omega) only[push_cast,xR0 Xo]
  refine zh (fun b=>?_) (fun b=>?_)
  ·refine zh (fun c=>?_) (fun c=>?_)
   ·rw[decide_eq_true (show 1≤s.size by omega),decide_eq_true (show s.size≤4 by omega)] at d
    exact d
   ·rw[decide_eq_false (show¬s.size≤4 by omega)] at d
    simpa using d
  ·rw[decide_eq_false (show¬1≤s.size by omega)] at d
   simpa using d
theorem l2Find_spec {v:Value} {ds:List M.Dcl} {s:ByteArray} (f:DclsR F w v ds) (d:K (.int .i64 (M.findD ds s)) w):vcall PP ka #[v,.string s] w K:=by
 apply qG0
 have k:=f.small
 refine vloop_up ds.length (fun i u w'=>u=[.int .i64 i]∧w'=w∧∀j,j<i→(ds.getD j Wd).1≠s) ⟨rfl,rfl,by omega⟩ ?_
 rintro i _ _ l C hi ⟨rfl,rfl,c⟩ g
 simp(disch:=(simp only[push_cast];done)) only[push_cast,f.len]
 refine zh (fun a=>?_) (fun a=>?_)
 ·try simp(disch:=first|(simp only[push_cast];done)|omega) only[push_cast,f.iaddr]
  try simp(disch:=first|(simp only[push_cast];done)|omega) only[push_cast,f.load0]
  refine zh (fun b=>?_) (fun b=>?_)
  ·rw[M.findD_of (by omega) b c] at d
   exact d
  ·rw[inc64' (by omega)]
   refine g (by omega) _ _ ⟨rfl,rfl,fun j h=>?_⟩
   by_cases e:j=i
   ·subst e;exact b
   ·exact c j (by omega)
 ·rw[M.findD_none (fun j h=>c j (by omega))] at d
  exact d
theorem spec_DeclOk_spec {v:Value} {ds:List M.Dcl} (G:DclsR F w v ds) (E:∀i,i<ds.length→(ds.getD i Wd).1.size≤9223372036854775807) (B:∀w',Ext w w'→K (.bool (M.declOk ds)) w'):vcall PP ZI #[v] w K:=by
 apply qK0
 simp(disch:=(simp only[push_cast];done)) only[push_cast,G.len]
 refine zh (fun a=>?_) (fun a=>?_)
 ·have:=B w (Same.refl _ _)
  rwa[show M.declOk ds=false from by rw[Bool.eq_false_iff];intro h;have:=(M.decl_iff.1 h).1;omega] at this
 refine vloop_up ds.length (fun i u w'=>u=[.int .i64 (M.bitT ds i),.int .i64 i]∧Ext w w'∧(∀j,j<i→M.dclOk ds j=true)∧ -4*(i:Int)≤M.bitT ds i∧M.bitT ds i≤4*i) ⟨rfl,Same.refl _ _,by omega,by simp[M.bitT],by simp[M.bitT]⟩ ?_
 rintro i _ _ O C hi ⟨rfl,p,m,L,N⟩ J
 have r:=G.ext p
 simp(disch:=(simp only[push_cast];done)) only[push_cast,r.len]
 refine zh (fun b=>?_) (fun b=>?_)
 ·have g:i<ds.length:=by omega
  have f:M.dclOk ds i=false→∀w',Ext w w'→K (.bool false) w':=fun e w' he=>by
   have:=B w' he
   rwa[show M.declOk ds=false from by rw[Bool.eq_false_iff];intro h;have:=(M.decl_iff.1 h).2.1 i g;rw[e] at this;cases this] at this
  unfold M.dclOk at f
  refine zx fun z t _=>?_
  have d:=r.ext t
  have k:=p.trans t
  simp(disch:=first|(simp only[push_cast];done)|omega) only[push_cast,d.iaddr,true_and]
  simp(disch:=first|(simp only[push_cast];done)|omega) only[push_cast,d.load0,d.load1,true_and]
  have y:=E i g
  have o:=M.bitT_succ g
  obtain⟨s,n,l⟩:∃s n,ds.getD i Wd=(s,n):=⟨_,_,rfl⟩
  rw[show ds.getD i (M.nada,0)=(s,n) from l] at o
  simp only[l] at f y⊢
  refine l2Name_spec y ?_
  simp only[push_cast,true_and]
  refine y9 (fun c=>?_) (fun c=>?_)
  ·exact f (by rw[show M.nameOk s=false by simpa using c];simp) _ k
  rw[Bool.not_eq_false'] at c
  rw[c] at f
  have ecut:∀(w:World) (K:Value→World→Prop),yy PP zu v none (some (.int .i64 (i:Int))) none w K=K (cutV v i) w:=fun w K=>d.cut (by intro e;subst e;simp at g) (by kernel_rfl) (by omega)
  have A:∀(K:Value→World→Prop),zf PP zN (.pointer (some ((eaddr v 2 i).add 0))) z K=K (.string s) z:=fun K=>by rw[d.load0 Xn0 g,l]
  have q:∀(K:Value→World→Prop),zf PP zb (.pointer (some ((eaddr v 2 i).add 1))) z K=K (.int .i64 n) z:=fun K=>by rw[d.load1 jc0 g,l]
  try simp(disch:=first|(simp only[push_cast];done)|omega) only[push_cast,d.iaddr,true_and]
  try simp(disch:=first|(simp only[push_cast];done)|omega) only[push_cast,d.iaddr,A,q,ecut,true_and]
  refine zh (fun H=>?_) (fun H=>?_)
  ·exact f (by rw[decide_eq_false (show¬1≤n by omega)];simp) _ k
  refine zh (fun I=>?_) (fun I=>?_)
  ·exact f (by rw[decide_eq_false (show¬n≤4 by omega)];simp) _ k
  refine l2Find_spec (d.taken (by omega)) ?_
  simp only[push_cast,true_and]
  refine zh (fun c3=>?_) (fun c3=>?_)
  ·exact f (by rw[decide_eq_false (show¬M.findD (ds.take i) s<0 by omega)];simp) _ k
  try simp(disch:=first|(simp only[push_cast];done)|omega) only[push_cast,d.iaddr]
  try simp(disch:=first|(simp only[push_cast];done)|omega) only[push_cast,q]
  rw[zy (x:=M.bitT ds i+n) (by omega) (by omega),inc64' (by omega),show M.bitT ds i+n=M.bitT ds (i+1) from o.symm]
  refine J (by omega) _ _ ⟨rfl,k,fun j P=>?_,by omega,by omega⟩
  by_cases e:j=i
  ·subst e
   unfold M.dclOk
   rw[show ds.getD j (M.nada,0)=(s,n) from l,c]
   simp only[Bool.true_and,Bool.and_eq_true,decide_eq_true_eq]
   exact⟨⟨by omega,by omega⟩,by omega⟩
  ·exact m j (by omega)
 ·have D:i=ds.length:=by omega
  subst D
  have:=B O p
  rw[M.bitT_all]
  have e:M.declOk ds=decide (M.bits ds≤8):=by
   rw[Bool.eq_iff_iff,M.decl_iff,decide_eq_true_eq]
   exact⟨fun h=>h.2.2,fun h=>⟨by omega,m,h⟩⟩
  rwa[e] at this
theorem spec_TermMany_spec:∀(t:M.Tm) {w:World} {K:Value→World→Prop} {F:Nat→Prop} {v:Value},TermR F w v t→(∀w',Ext w w'→K (.tuple #[.int .i64 (M.manyM t),.int .i64 (M.lvlM t)]) w')→vcall PP qY #[v] w K:=by
 refine M.Tm.ind fun t ih w K F v ht R=>?_
 apply yn0
 obtain⟨ksv,rfl,y⟩:=ht
 refine zD fun b1 w1 S D a1 P=>?_
 have a2:=y.small
 have hS:=M.szT_all t
 have hD:=M.dpT_all t
 have k:M.fits t=true↔M.sizeM t≤20∧M.deepM t≤7:=M.fits_iff
 refine vloop_up t.ks.length (fun i u w'=> ∃n d:Nat,u=[.int .i64 n,.int .i64 d,.int .i64 i]∧Ext w1 w'∧n≤41∧d≤8∧(1+M.szT t.ks i≤20∧M.dpT t.ks i≤7→n=1+M.szT t.ks i∧d=M.dpT t.ks i)∧(¬(1+M.szT t.ks i≤20∧M.dpT t.ks i≤7)→20<n∨7<d))
  ⟨1,0,rfl,Same.refl _ _,by omega,by omega,fun h=>⟨rfl,rfl⟩,fun h=>by
   have J:M.szT t.ks 0=0:=rfl
   have e2:M.dpT t.ks 0=0:=rfl
   omega⟩ ?_
 rintro i _ _ z C hi ⟨n,d,rfl,o,c1,c2,c3,I⟩ Q
 have L:=P.ext o
 have N:=D.trans o
 have l:=y.ext N
 have V:=M.szT_mono (ks:=t.ks) (i:=i) (j:=t.ks.length) (by omega) (Nat.le_refl _)
 have W:=M.dpT_mono (ks:=t.ks) (i:=i) (j:=t.ks.length) (by omega) (Nat.le_refl _)
 have J:IntKind.i64.wrap ((d:Int)+1)=((d+1:Nat):Int):=inc64' (by omega)
 have m:(20<n∨i=t.ks.length)→∀q,(q=K)→vif (.bool (decide ((20:Int)<n))) (q (.tuple #[.int .i64 21,.int .i64 8]) z) (vif (.bool (decide ((7:Int)<((d+1:Nat):Int)))) (q (.tuple #[.int .i64 21,.int .i64 8]) z) (q (.tuple #[.int .i64 (n:Int),.int .i64 ((d+1:Nat):Int)]) z)):=by
  rintro a0 q rfl
  have p:=R z N
  unfold M.manyM M.lvlM at p
  have c:(20<n∨7<d+1)→¬(M.fits t=true):=fun h T=>by
   have O:=k.1 T
   have:=c3 (by omega)
   omega
  refine zh (fun a=>?_) (fun a=>?_)
  ·rw[if_neg (c (by omega)),if_neg (c (by omega))] at p
   exact p
  refine zh (fun b=>?_) (fun b=>?_)
  ·rw[if_neg (c (by omega)),if_neg (c (by omega))] at p
   exact p
  ·have G:i=t.ks.length:=by omega
   subst G
   have r:M.sizeM t≤20∧M.deepM t≤7:=by
    by_cases h:1+M.szT t.ks t.ks.length≤20∧M.dpT t.ks t.ks.length≤7
    ·have:=c3 h;omega
    ·have:=I h;omega
   have h3:=c3 (by omega)
   rw[if_pos (k.2 r),if_pos (k.2 r)] at p
   rw[show n=M.sizeM t by omega,show d+1=M.deepM t by omega]
   exact p
 refine zV (fun u w'=>u=[]∧w'=z∧i<t.ks.length∧n≤20) (fun C' A=>?_) ?_
 ·simp(disch:=(simp only[push_cast];done)) only[push_cast,L.ld4,l.len,J]
  refine zh (fun a=>?_) (fun a=>?_)
  ·refine zh (fun b=>?_) (fun b=>?_)
   ·exact A _ _ ⟨rfl,rfl,by omega,by omega⟩
   ·exact m (.inl (by omega)) K rfl
  ·exact m (.inr (by omega)) K rfl
 ·rintro u g w3 ⟨rfl,rfl,U,hn⟩
  have X:=M.szT_succ (ks:=t.ks) (i:=i) (by omega)
  have Y:=M.dpT_succ (ks:=t.ks) (i:=i) (by omega)
  have Z:=M.szT_mono (ks:=t.ks) (i:=i+1) (j:=t.ks.length) (by omega) (Nat.le_refl _)
  simp(disch:=first|(simp only[push_cast];done)|omega) only[push_cast,L.ld4,l.iaddr]
  refine l.load zI (by omega) fun x O=>?_
  refine ih _ (M.getD_mem (by omega) _) O fun w4 E=>?_
  have f:=M.fits_iff (t:=t.ks.getD i default)
  have H:M.manyM (t.ks.getD i default)≤21:=by
   unfold M.manyM
   split
   ·have:=f.1 (by assumption);omega
   ·omega
  have B:M.lvlM (t.ks.getD i default)≤8:=by
   unfold M.lvlM
   split
   ·have:=f.1 (by assumption);omega
   ·omega
  have e:M.sizeM (t.ks.getD i default)≤20∧M.deepM (t.ks.getD i default)≤7→M.manyM (t.ks.getD i default)=M.sizeM (t.ks.getD i default)∧M.lvlM (t.ks.getD i default)=M.deepM (t.ks.getD i default):=fun h=>by
   unfold M.manyM M.lvlM
   rw[if_pos (f.2 h),if_pos (f.2 h)]
   exact⟨rfl,rfl⟩
  have c: ¬(M.sizeM (t.ks.getD i default)≤20∧M.deepM (t.ks.getD i default)≤7)→M.manyM (t.ks.getD i default)=21∧M.lvlM (t.ks.getD i default)=8:=fun h=>by
   unfold M.manyM M.lvlM
   rw[if_neg (fun x=>h (f.1 x)),if_neg (fun x=>h (f.1 x))]
   exact⟨rfl,rfl⟩
  generalize M.manyM (t.ks.getD i default)=nk at H e c⊢
  generalize M.lvlM (t.ks.getD i default)=dk at B e c⊢
  simp only[push_cast]
  refine l1Max_spec ?_
  try simp only[push_cast]
  rw[inc64' (by omega),zy (x:=(n:Int)+nk) (by omega) (by omega),show(n:Int)+(nk:Int)=((n+nk:Nat):Int) by omega,show max (d:Int) (dk:Int)=((max d dk:Nat):Int) by omega]
  refine Q (by omega) _ _ ⟨n+nk,max d dk,rfl,o.trans E,by omega,by omega,fun h=>?_,fun h=>?_⟩
  ·have:=c3 (by omega)
   have:=e (by omega)
   omega
  ·by_cases r:M.sizeM (t.ks.getD i default)≤20∧M.deepM (t.ks.getD i default)≤7
   ·have h5:=e r
    by_cases s:1+M.szT t.ks i≤20∧M.dpT t.ks i≤7
    ·have:=c3 s;omega
    ·have:=I s;omega
   ·have:=c r;omega
end Go.Proofs.YtaekfnbnhjgboaaGreatDoor
end
section
namespace Go.Proofs.YtaekfnbnhjgboaaGreatDoor
open Go Go.Vc Go.Proofs
variable {w:World} {K:Value→World→Prop} {F G:Nat→Prop}
theorem l2Arity_spec {o:Int} (h:K (.int .i64 (M.arity o)) w):vcall PP X9 #[.int .i64 o] w K:=by
 apply x70
 have f:∀c,M.arity o=c→K (.int .i64 c) w:=fun c e=>e▸h
 refine zV (fun u w'=>u=[.bool (decide (o=20∨o=21∨o=24))]∧w'=w) (fun C d=>?_) ?_
 ·simp only[push_cast]
  refine zh (fun a=>?_) (fun a=>?_)
  ·exact d _ _ ⟨by rw[decide_eq_true a,decide_eq_true (.inl a)],rfl⟩
  refine zh (fun b=>?_) (fun b=>?_)
  ·exact d _ _ ⟨by rw[decide_eq_true b,decide_eq_true (.inr (.inl b))],rfl⟩
  ·refine d _ _ ⟨?_,rfl⟩
   by_cases c:o=24
   ·rw[decide_eq_true c,decide_eq_true (.inr (.inr c))]
   ·rw[decide_eq_false c,decide_eq_false (by omega)]
 ·rintro u g i ⟨rfl,rfl⟩
  simp only[push_cast]
  repeat' first
   |exact f _ (by
    unfold M.arity;repeat' split
    all_goals omega)
   |refine zh (fun _=>?_) (fun _=>?_)
theorem jh0 {v:Value} {t:M.Tm} (B:TermR F w v t) (p:∀w',Ext w w'→K (.bool (M.formed t)) w'):vcall PP X7 #[v] w K:=by
 apply x40
 obtain⟨ksv,rfl,o⟩:=B
 refine zD fun b1 y z j A l=>?_
 have q:=p _ j
 have f:M.plainM t=false→K (.bool false) y:=fun h=>by
  unfold M.formed at q
  rwa[h,Bool.and_false] at q
 unfold M.plainM at f
 refine zV (fun u w'=>u=[]∧w'=y∧(decide (t.op=21)||decide (t.s=M.nada))=true) (fun C m=>?_) ?_
 ·simp(disch:=(simp only[push_cast];done)) only[push_cast,l.ld0,l.ld3]
  refine zh (fun a=>?_) (fun a=>?_)
  ·refine zh (fun b=>?_) (fun b=>?_)
   ·exact f (by rw[decide_eq_false a,show decide (t.s=M.nada)=false from decide_eq_false b];simp)
   ·exact m _ _ ⟨rfl,rfl,by rw[show decide (t.s=M.nada)=true from decide_eq_true (Classical.not_not.1 b)];simp⟩
  ·exact m _ _ ⟨rfl,rfl,by rw[decide_eq_true (Classical.not_not.1 a)];simp⟩
 rintro u g D ⟨rfl,rfl,r⟩
 rw[r,Bool.and_true] at f
 refine zV (fun u w'=>u=[]∧w'=D∧(decide (t.op=20)||decide (t.op=22)||(decide (t.a=0)&&decide (t.b=0)))=true) (fun C m=>?_) ?_
 ·simp(disch:=(simp only[push_cast];done)) only[push_cast,l.ld0,l.ld1,l.ld2]
  refine zh (fun a=>?_) (fun a=>?_)
  ·refine zh (fun b=>?_) (fun b=>?_)
   ·refine zh (fun c=>?_) (fun c=>?_)
    ·exact f (by rw[decide_eq_false a,decide_eq_false b,decide_eq_false c];simp)
    refine zh (fun d=>?_) (fun d=>?_)
    ·exact f (by rw[decide_eq_false a,decide_eq_false b,decide_eq_false d];simp)
    ·exact m _ _ ⟨rfl,rfl,by rw[decide_eq_true (Classical.not_not.1 c),decide_eq_true (Classical.not_not.1 d)];simp⟩
   ·exact m _ _ ⟨rfl,rfl,by rw[decide_eq_true (Classical.not_not.1 b)];simp⟩
  ·exact m _ _ ⟨rfl,rfl,by rw[decide_eq_true (Classical.not_not.1 a)];simp⟩
 rintro u g E ⟨rfl,rfl,hm⟩
 refine zx fun G k _=>?_
 have n:=l.ext k
 have i:=o.ext (j.trans k)
 simp(disch:=(simp only[push_cast];done)) only[push_cast,n.ld0,n.ld4,i.len,true_and]
 refine l2Arity_spec ?_
 simp(disch:=(simp only[push_cast];done)) only[push_cast,n.ld4,i.len,true_and,and_self]
 have:=p _ (j.trans k)
 have e:M.formed t=decide ((t.ks.length:Int)=M.arity t.op):=by
  unfold M.formed M.plainM
  rw[hm,r]
  simp only[Bool.and_true]
  by_cases h:M.arity t.op=t.ks.length
  ·rw[decide_eq_true h,decide_eq_true h.symm]
  ·rw[decide_eq_false h,decide_eq_false (fun x=>h x.symm)]
 rwa[e] at this
theorem l2One_spec {v:Value} {t:M.Tm} {a:Int} (r:TermR F w v t) (z: -1≤a∧a≤4) (n:∀w',Ext w w'→K (.int .i64 (M.oneM t a)) w'):vcall PP J0 #[v,.int .i64 a] w K:=by
 apply jF0
 obtain⟨ksv,rfl,p⟩:=r
 refine zD fun b1 m o l q j=>?_
 have k:∀c,M.oneM t a=c→K (.int .i64 c) m:=fun c e=>e▸n _ l
 unfold M.oneM at k
 refine zV (fun u w'=>u=[.bool (decide (t.op=25∧a=0))]∧w'=m) (fun C i=>?_) ?_
 ·simp(disch:=(simp only[push_cast];done)) only[push_cast,j.ld0]
  refine zh (fun b=>?_) (fun b=>?_)
  ·refine i _ _ ⟨?_,rfl⟩
   simp only[b,true_and]
  ·exact i _ _ ⟨by rw[decide_eq_false (fun h=>b h.1)],rfl⟩
 rintro u g s ⟨rfl,rfl⟩
 simp only[push_cast]
 refine zh (fun b=>?_) (fun b=>?_)
 ·exact k _ (by rw[if_pos b.1,if_pos b.2])
 refine zV (fun u w'=>u=[.bool (decide (t.op=25∨a<1))]∧w'=s) (fun C i=>?_) ?_
 ·simp(disch:=(simp only[push_cast];done)) only[push_cast,j.ld0]
  refine zh (fun c=>?_) (fun c=>?_)
  ·exact i _ _ ⟨by rw[decide_eq_true (.inl c)],rfl⟩
  ·refine i _ _ ⟨?_,rfl⟩
   simp only[c,false_or]
 rintro u g y ⟨rfl,rfl⟩
 simp only[push_cast]
 refine zh (fun c=>?_) (fun c=>?_)
 ·exact k _ (by
   repeat' split
   all_goals omega)
 simp(disch:=(simp only[push_cast];done)) only[push_cast,j.ld0]
 refine zh (fun d=>?_) (fun d=>?_)
 ·refine zV (fun u w'=>u=[.bool (decide (0≤t.b∧t.b≤t.a∧t.a<a))]∧w'=y) (fun C i=>?_) ?_
  ·simp(disch:=(simp only[push_cast];done)) only[push_cast,j.ld1,j.ld2]
   refine zh (fun e=>?_) (fun e=>?_)
   ·refine zh (fun f=>?_) (fun f=>?_)
    ·refine i _ _ ⟨?_,rfl⟩
     simp only[e,f,true_and]
    ·exact i _ _ ⟨by rw[decide_eq_false (fun h=>f h.2.1)],rfl⟩
   ·exact i _ _ ⟨by rw[decide_eq_false (fun h=>e h.1)],rfl⟩
  rintro u g A ⟨rfl,rfl⟩
  simp only[push_cast]
  refine zh (fun e=>?_) (fun e=>?_)
  ·simp(disch:=(simp only[push_cast];done)) only[push_cast,j.ld1,j.ld2]
   rw[zy (x:=t.a-t.b) (by omega) (by omega),zy (by omega) (by omega)]
   exact k _ (by rw[if_neg (by omega),if_neg (by omega),if_pos d,if_pos e])
  ·exact k _ (by rw[if_neg (by omega),if_neg (by omega),if_pos d,if_neg e])
 ·exact k _ (by rw[if_neg (by omega),if_neg (by omega),if_neg d])
theorem l2Both_spec {o a b:Int} (m: -1≤a∧a≤4) (k: -1≤b∧b≤4) (j:K (.int .i64 (M.bothM o a b)) w):vcall PP Q9 #[.int .i64 o,.int .i64 a,.int .i64 b] w K:=by
 apply qH0
 have h:∀c,M.bothM o a b=c→K (.int .i64 c) w:=fun c e=>e▸j
 unfold M.bothM at h
 refine zV (fun u w'=>u=[.bool (decide (o=26∨o=27))]∧w'=w) (fun C f=>?_) ?_
 ·simp only[push_cast]
  refine zh (fun c=>?_) (fun c=>?_)
  ·exact f _ _ ⟨by rw[decide_eq_true (.inl c)],rfl⟩
  ·refine f _ _ ⟨?_,rfl⟩
   simp only[c,false_or]
 rintro u g l ⟨rfl,rfl⟩
 simp only[push_cast]
 refine zh (fun c=>?_) (fun c=>?_)
 ·repeat' first
   |exact h _ (by
    repeat' split
    all_goals omega)
   |refine zh (fun _=>?_) (fun _=>?_)
 refine zV (fun u w'=>u=[.bool (decide (a<1∨b<1))]∧w'=l) (fun C f=>?_) ?_
 ·try simp only[push_cast]
  refine zh (fun d=>?_) (fun d=>?_)
  ·exact f _ _ ⟨by rw[decide_eq_true (.inl d)],rfl⟩
  ·refine f _ _ ⟨?_,rfl⟩
   simp only[d,false_or]
 rintro u g n ⟨rfl,rfl⟩
 have i:IntKind.i64.wrap (a+b)=a+b:=zy (by omega) (by omega)
 simp only[push_cast,i]
 repeat' first
  |exact h _ (by
   repeat' split
   all_goals omega)
  |refine zh (fun _=>?_) (fun _=>?_)
theorem l2Sort_spec:∀(t:M.Tm) {w:World} {K:Value→World→Prop} {F G:Nat→Prop} {dv v:Value} {ds:List M.Dcl},DclsR F w dv ds→M.declOk ds=true→TermR G w v t→(∀w',Ext w w'→K (.int .i64 (M.sortM ds t)) w')→vcall PP je #[dv,v] w K:=by
 refine M.Tm.ind fun t T w K F G dv v ds O f Z V=>?_
 apply qD0
 obtain⟨ksv,rfl,u⟩:=Z
 refine zD fun b1 w1 W E Y U=>?_
 have m:∀c w',M.sortM ds t=c→Ext w w'→K (.int .i64 c) w':=fun c w' e he=>e▸V _ he
 rw[U.ldAgg (t:=za) zI]
 refine jh0 (F:=G) (t:=t) ⟨ksv,rfl,u.ext E⟩ fun w2 H=>?_
 have o:=E.trans H
 have y:=U.ext H
 simp only[push_cast]
 refine y9 (fun a=>?_) (fun a=>?_)
 ·exact m _ _ (M.sort_bad (by rw[Bool.not_eq_true];simpa using a)) o
 have A:M.formed t=true:=by simpa using a
 have j:=(M.formed_iff.1 A).1
 have q:=O.ext o
 simp(disch:=(simp only[push_cast];done)) only[push_cast,y.ld0]
 refine zh (fun d=>?_) (fun d=>?_)
 ·have J:t.ks.length=0:=by rw[d] at j;simp[M.arity] at j;omega
  have hs:=M.sort_leaf (ds:=ds) A J
  simp(disch:=(simp only[push_cast];done)) only[push_cast,y.ld1,y.ld2]
  refine spec_VecOk_spec fun w3 k=>?_
  have C:=y.ext k
  refine y9 (fun b=>?_) (fun b=>?_)
  ·simp(disch:=(simp only[push_cast];done)) only[push_cast,C.ld1]
   exact m _ _ (by rw[hs];unfold M.sortK;rw[if_pos d,if_pos b]) (o.trans k)
  ·exact m _ _ (by rw[hs];unfold M.sortK;rw[if_pos d,b];rfl) (o.trans k)
 refine zh (fun l=>?_) (fun l=>?_)
 ·have J:t.ks.length=0:=by rw[l] at j;simp[M.arity] at j;omega
  have hs:=M.sort_leaf (ds:=ds) A J
  have X:=M.findD_lt ds t.s
  simp(disch:=(simp only[push_cast];done)) only[push_cast,y.ld3]
  refine l2Find_spec q ?_
  try simp only[push_cast]
  refine zh (fun b=>?_) (fun b=>?_)
  ·exact m _ _ (by rw[hs];unfold M.sortK;rw[if_neg d,if_pos l,if_pos b]) o
  ·try simp(disch:=first|(simp only[push_cast];done)|omega) only[push_cast,q.iaddr]
   try simp(disch:=first|(simp only[push_cast];done)|omega) only[push_cast,q.load1]
   exact m _ _ (by rw[hs];unfold M.sortK;rw[if_neg d,if_pos l,if_neg b]) o
 refine zh (fun D=>?_) (fun D=>?_)
 ·have J:t.ks.length=0:=by rw[D] at j;simp[M.arity] at j;omega
  have hs:=M.sort_leaf (ds:=ds) A J
  exact m _ _ (by rw[hs];unfold M.sortK;rw[if_neg d,if_neg l,if_pos (by omega)];rfl) o
 have hlen:t.ks.length=1∨t.ks.length=2∨t.ks.length=3:=by
  have h0:M.arity t.op≠0:=fun h=>by have:=M.arity_zero h;omega
  have N:M.arity t.op≤3:=by
   unfold M.arity
   repeat' split
   all_goals omega
  omega
 have x:=u.ext o
 simp(disch:=first|(simp only[push_cast];done)|omega) only[push_cast,y.ld4,x.iaddr]
 refine x.load zI (by omega) fun x0 Q=>?_
 refine T (M.kid t 0) (M.kid_mem (by omega)) q f Q fun w3 k=>?_
 have C:=y.ext k
 have p:=o.trans k
 have g:=u.ext p
 have L:=M.sort_range f (M.kid t 0)
 simp(disch:=first|(simp only[push_cast];done)|omega) only[push_cast,C.ld4,g.len]
 refine zh (fun l1=>?_) (fun l1=>?_)
 ·rw[C.ldAgg (t:=za) zI]
  refine l2One_spec (F:=G) (t:=t) ⟨ksv,rfl,g⟩ L fun w4 r=>?_
  exact m _ _ (M.sort_one f A (by omega)) (p.trans r)
 simp(disch:=first|(simp only[push_cast];done)|omega) only[push_cast,C.ld4,g.iaddr]
 refine g.load zI (by omega) fun x1 R=>?_
 refine T (M.kid t 1) (M.kid_mem (by omega)) (O.ext p) f R fun w4 r=>?_
 have N:=C.ext r
 have i:=p.trans r
 have n:=u.ext i
 have P:=M.sort_range f (M.kid t 1)
 simp(disch:=first|(simp only[push_cast];done)|omega) only[push_cast,N.ld4,N.ld0,n.len]
 refine zh (fun l2=>?_) (fun l2=>?_)
 ·refine l2Both_spec L P ?_
  exact m _ _ (M.sort_two f A (by omega)) i
 have B:=M.sort_three (ds:=ds) A (by omega)
 refine zh (fun z=>?_) (fun z=>?_)
 ·exact m _ _ (by rw[B,if_pos (.inl z)]) i
 simp(disch:=first|(simp only[push_cast];done)|omega) only[push_cast,N.ld4,n.iaddr]
 refine n.load zI (by omega) fun x2 S=>?_
 refine T (M.kid t 2) (M.kid_mem (by omega)) (O.ext i) f S fun w5 I=>?_
 simp only[push_cast]
 refine zh (fun z2=>?_) (fun z2=>?_)
 ·exact m _ _ (by rw[B,if_pos (.inr z2)]) (i.trans I)
 ·exact m _ _ (by rw[B,if_neg (fun h=>h.elim z z2)]) (i.trans I)
def YC0 (ds:List M.Dcl):Prop:=∀i,i<ds.length→(ds.getD i Wd).1.size≤9223372036854775807
theorem spec_TermSort_spec {dv v:Value} {ds:List M.Dcl} {t:M.Tm} (o:YC0 ds) (q:DclsR F w dv ds) (x:TermR G w v t) (p:∀w',Ext w w'→K (.int .i64 (M.tsort ds t)) w'):vcall PP qX #[dv,v] w K:=by
 apply ym0
 obtain⟨cs,rfl,e⟩:=x.cells
 refine zD fun b1 A s g u l=>?_
 rw[l.ldAgg (t:=za) (by rw[xX e];exact zI)]
 refine spec_TermMany_spec t (e.ext g).term fun B i=>?_
 simp only[push_cast]
 have f:=g.trans i
 refine spec_DeclOk_spec (q.ext f) o fun y j=>?_
 have d:=f.trans j
 have k:=p y d
 unfold M.tsort at k
 simp only[push_cast]
 refine y9 (fun a=>?_) (fun a=>?_)
 ·rwa[if_neg (fun h=>by rw[h.2] at a;cases a)] at k
 rw[Bool.not_eq_false'] at a
 refine zh (fun b=>?_) (fun b=>?_)
 ·rw[if_neg (fun h=>by
   have l:=M.fits_iff.1 h.1
   unfold M.manyM at b
   rw[if_pos h.1] at b;omega)] at k
  exact k
 have n:M.fits t=true:=by
  by_cases h:M.fits t=true
  ·exact h
  ·unfold M.manyM at b
   rw[if_neg h] at b;omega
 refine zh (fun c=>?_) (fun c=>?_)
 ·unfold M.lvlM at c
  rw[if_pos n] at c
  have:=M.fits_iff.1 n
  omega
 have r:=(l.ext i).ext j
 rw[r.ldAgg (t:=za) (by rw[xX e];exact zI)]
 refine l2Sort_spec t (q.ext d) a (e.ext d).term fun z m=>?_
 have:=p z (d.trans m)
 unfold M.tsort at this
 rwa[if_pos ⟨n,a⟩] at this
end Go.Proofs.YtaekfnbnhjgboaaGreatDoor
end
section
namespace Go.Proofs.YtaekfnbnhjgboaaGreatDoor
open Go Go.Vc Go.Proofs
variable {w:World} {K:Value→World→Prop} {F Fr F':Nat→Prop}
def Bytes (F:Nat→Prop) (w:World) (v:Value) (xs:List Nat):Prop:=Vals F w v (xs.map fun x=>Value.int .u8 (x:Nat))∧∀x,x∈xs→x<256
theorem Bytes.same {S:Nat→Prop} {w':World} {v:Value} {xs:List Nat} (h:Bytes F w v xs) (hw:Same S w w') (hs:∀b,F b→b<w.heap.size→¬S b):Bytes F w' v xs:=⟨h.1.same hw hs,h.2⟩
theorem Bytes.ext {w':World} {v:Value} {xs:List Nat} (h:Bytes F w v xs) (hw:Ext w w'):Bytes F w' v xs:=⟨h.1.ext hw,h.2⟩
theorem Bytes.load {v:Value} {xs:List Nat} (h:Bytes F w v xs) {e:TypeId} (he:oneB PP e=true) {i:Nat} (hi:i<xs.length):zf PP e (.pointer (some (eaddr v 1 i))) w K=K (.int .u8 (xs.getD i 0:Nat)) w:=by
 rw[Vals.load h.1 he (by simpa using hi)]
 simp[List.getD_eq_getElem?_getD,hi]
theorem Bytes.len {w':World} {v:Value} {xs:List Nat} (h:Bytes F w v xs) {t:TypeId} (a:isSl PP t=true) (ty:TypeId):vbi PP .len [t] ty [v] w' K=K (.int .i64 xs.length) w':=by
 have:=Vals.len (K:=K) (w':=w') h.1 a ty;rwa[List.length_map] at this
theorem Bytes.iaddr {w':World} {v:Value} {xs:List Nat} (h:Bytes F w v xs) {t:TypeId} (c:elB PP t 1=true) {kd:IntKind} {i:Int} (a:0≤i) (b:i<xs.length):
  zp PP t v (.int kd i) w' K=K (.pointer (some (eaddr v 1 i.toNat))) w':=Vals.iaddr h.1 c a (by simpa using b)
structure RdR (F:Nat→Prop) (w:World) (b:Nat) (v:Value) (xs:List Nat) (p:Nat):Prop where
 blk:Blk w b [v,.int .i64 p] y8
 bytes:Bytes F w v xs
 apart: ¬F b
 few:xs.length≤2000
theorem RdR.same {S:Nat→Prop} {w':World} {b p:Nat} {v:Value} {xs:List Nat} (h:RdR F w b v xs p) (hw:Same S w w') (a: ¬S b) (hs:∀b,F b→b<w.heap.size→¬S b):RdR F w' b v xs p:=
 ⟨h.blk.same hw a,h.bytes.same hw hs,h.apart,h.few⟩
theorem RdR.ext {w':World} {b p:Nat} {v:Value} {xs:List Nat} (h:RdR F w b v xs p) (hw:Ext w w'):RdR F w' b v xs p:=h.same hw id fun _ _ _ h=>h
theorem l12Open_spec {v:Value} {xs:List Nat} (n:Bytes F w v xs) (hF:∀b,F b→b<w.heap.size)
  (C:∀w' b v' ys,Ext w w'→RdR F w' b v' ys 0→w.heap.size≤b→K (.pointer (some ⟨b,0,none⟩)) w'):vcall PP Xa #[v] w K:=by
 apply x80
 simp(disch:=(simp only[push_cast];done)) only[push_cast,n.len]
 have fin:∀(v':Value) (ys:List Nat),Bytes F w v' ys→ys.length≤2000→zH PP y8 [(0,v')] w fun t9 f=>yG PP y8 t9 f fun t10 g=>K t10 g:=fun v' ys j E=>by
  refine xA0 jY0 (us:=[[v']]) (by simp[j.1.cells1]) rfl ?_
  refine qq fun b I M m H B=>?_
  exact C I b v' ys m ⟨B,j.ext m,fun h=>by have:=hF b h;omega,E⟩ (by omega)
 refine zh (fun a=>?_) (fun a=>fin v xs n (by omega))
 have k:yy PP y3 v none (some (.int .i64 (2000:Nat))) none w fun t7 r=>zH PP y8 [(0,t7)] r fun t9 f=>yG PP y8 t9 f fun t10 g=>K t10 g:=by
  obtain⟨a0,c0,rfl,D,q,d⟩:=n.1.shape
  rw[Sl.cut n.1 (fun a l c e=>?_) XJ0 (by simp;omega)]
  ·refine fin _ (xs.take 2000) ⟨⟨⟨a0,c0,?_,?_,q,fun G=>?_⟩,fun y j=>?_⟩,fun y j=>n.2 y (List.mem_of_mem_take j)⟩ (by simp;omega)
   ·simp only[cutV,List.length_map,List.length_take]
    rw[Nat.min_eq_left (by omega)]
   ·simp at D⊢;omega
   ·obtain⟨b,o,p,t,z,A⟩:=d (fun e=>by simp at e;subst e;simp at a)
    refine⟨b,o,p,t,z,fun i hi=>?_⟩
    simp only[List.length_map,List.length_take] at hi
    have:=A i (by simp;omega)
    have e:(((xs.take 2000).map fun x=>Value.int .u8 (x:Nat)).map fun x=>[x]).getD i []=((xs.map fun x=>Value.int .u8 (x:Nat)).map fun x=>[x]).getD i []:=by
     simp only[List.getD_eq_getElem?_getD,List.getElem?_map,List.getElem?_take]
     rw[if_pos (by omega)]
    rw[e];exact this
   ·obtain⟨u,_,rfl⟩:=List.mem_map.1 j;rfl
  ·injection e with s J L
   obtain⟨b,o,p,_⟩:=d (fun e=>by simp at e;subst e;simp at a)
   exact⟨b,o,by rw[p] at s;exact(Option.some.inj s).symm⟩
 exact k
theorem pick_spec {b p:Nat} {v:Value} {xs:List Nat} {n:Int} (h:RdR F w b v xs p) (hn:n≤1099511627776) (hp:p<1099511627776)
  (C:∀w' (k:Nat),Same (· =b) w w'→w'.heap.size=w.heap.size→RdR F w' b v xs (p+1)→(1≤n→(k:Int)<n)→(n<1→k=0)→K (.int .i64 k) w'):vcall PP zJ #[.pointer (some ⟨b,0,none⟩),.int .i64 n] w K:=by
 apply Ui
 have T:=h.few
 simp(disch:=(simp only[push_cast];done)) only[push_cast,h.blk.ld1]
 have y:IntKind.i64.wrap ((p:Int)+1)=((p+1:Nat):Int):=by rw[zy (by omega) (by omega)];omega
 rw[y]
 refine h.blk.st rfl rfl qR rfl fun B g l M=>?_
 have t:Blk B b [v,.int .i64 (p+1:Nat)] y8:=M
 have u:RdR F B b v xs (p+1):=⟨t,h.bytes.same g fun x q _ e=>h.apart (e▸q),h.apart,h.few⟩
 have q:=u.bytes
 refine zV (fun _ w'=>w'=B∧1≤n∧xs.length≠0) ?_ ?_
 ·intro J hJ
  refine zh (fun a=>?_) (fun a=>?_)
  ·exact C B 0 g l u (fun h=>by omega) fun _=>rfl
  ·simp(disch:=(simp only[push_cast];done)) only[push_cast,t.ld0,q.len]
   refine zh (fun a2=>?_) (fun a2=>?_)
   ·exact C B 0 g l u (fun h=>by omega) fun _=>rfl
   ·exact hJ _ _ ⟨rfl,by omega,by omega⟩
 rintro _ _ _ ⟨rfl,h1,a0⟩
 simp(disch:=(simp only[push_cast];done)) only[t.ld0,t.ld1,kx0,Jo,yd0,xm,Nat.zero_add,VW,q.len]
 rw[show((p+1:Nat):Int)-1=(p:Int) from by omega,zy (by omega) (by omega)]
 simp only[X50]
 have f:∀i,i<xs.length→xs.getD i 0<256:=fun i hi=>q.2 _ (by rw[List.getD_eq_getElem?_getD,List.getElem?_eq_getElem hi];exact List.getElem_mem hi)
 have o:∀x:Nat,((x:Int).tmod n)=((x%n.toNat:Nat):Int)∧((x%n.toNat:Nat):Int)<n:=fun x=>by
  obtain⟨m,rfl⟩:∃m:Nat,n=m:=⟨n.toNat,by omega⟩
  rw[Int.toNat_natCast]
  exact⟨rfl,by have:=Nat.mod_lt x (show 0<m by omega);omega⟩
 refine zh (fun a=>?_) (fun a=>?_)
 ·simp(disch:=first|(simp only[push_cast];done)|omega) only[t.ld0,q.iaddr,Int.toNat_natCast,q.load,qS xZ0 y20]
  have hb:=f p (by omega)
  rw[zy (by omega) (by omega),YD (by omega)]
  obtain⟨O,P⟩:=o (xs.getD p 0)
  rw[O]
  exact C _ _ g l u (fun _=>P) fun h=>by omega
 ·refine zx fun w2 j r=>?_
  have U:=t.ext j
  have s:=q.ext j
  have z:(xs.length:Int)≠0:=by omega
  have V:((p:Int).tmod xs.length)=((p%xs.length:Nat):Int):=by rw[Int.tmod_eq_emod_of_nonneg (by omega)];rfl
  have l1:p%xs.length<xs.length:=Nat.mod_lt _ (by omega)
  have W:IntKind.i64.wrap ((p:Int)*7)=((p*7:Nat):Int):=by rw[zy (by omega) (by omega)];omega
  have Y:IntKind.i64.wrap (((p*7:Nat):Int)+3)=((p*7+3:Nat):Int):=by rw[zy (by omega) (by omega)];omega
  have Z:(((p*7+3:Nat):Int).tmod xs.length)=(((p*7+3)%xs.length:Nat):Int):=by rw[Int.tmod_eq_emod_of_nonneg (by omega)];rfl
  have l2:(p*7+3)%xs.length<xs.length:=Nat.mod_lt _ (by omega)
  have b1:=f _ l1
  have b2:=f _ l2
  generalize N:xs.getD (p%xs.length) 0=c at b1
  generalize A:xs.getD ((p*7+3)%xs.length) 0=d at b2
  have e5:IntKind.i64.wrap ((c:Nat):Int)=((c:Nat):Int):=zy (by omega) (by omega)
  have e6:IntKind.i64.wrap ((d:Nat):Int)=((d:Nat):Int):=zy (by omega) (by omega)
  have e7:IntKind.i64.wrap (((c:Nat):Int)*131)=((c*131:Nat):Int):=by rw[zy (by omega) (by omega)];omega
  have e8:IntKind.i64.wrap (((d:Nat):Int)*1117)=((d*1117:Nat):Int):=by rw[zy (by omega) (by omega)];omega
  have e9:IntKind.i64.wrap (((c*131:Nat):Int)+((d*1117:Nat):Int))=((c*131+d*1117:Nat):Int):=by rw[zy (by omega) (by omega)];omega
  have D:IntKind.i64.wrap ((p:Int)*29)=((p*29:Nat):Int):=by rw[zy (by omega) (by omega)];omega
  have E:IntKind.i64.wrap (((c*131+d*1117:Nat):Int)+((p*29:Nat):Int))=((c*131+d*1117+p*29:Nat):Int):=by rw[zy (by omega) (by omega)];omega
  obtain⟨Q,R⟩:∃Q,Q=p/xs.length:=⟨_,rfl⟩
  have hq:Q≤p:=by rw[R];exact Nat.div_le_self _ _
  have G:IntKind.i64.wrap ((p:Int).tdiv xs.length)=((Q:Nat):Int):=by
   have:(p:Int).tdiv xs.length=(Q:Int):=by rw[R];rfl
   rw[this];exact zy (by omega) (by omega)
  have H:IntKind.i64.wrap (((Q:Nat):Int)*53)=((Q*53:Nat):Int):=by rw[zy (by omega) (by omega)];omega
  have I:IntKind.i64.wrap (((c*131+d*1117+p*29:Nat):Int)+((Q*53:Nat):Int))=((c*131+d*1117+p*29+Q*53:Nat):Int):=by rw[zy (by omega) (by omega)];omega
  simp(disch:=first|(simp only[push_cast];done)|omega) only[U.ld0,kx0,Jo,xm,Nat.zero_add,true_and,s.len,YD z,zx0 z,kA0,kB0,V,W,Y,Z,G,s.iaddr,Int.toNat_natCast,s.load,N,A,qS xZ0 y20,e5,e6,e7,e8,e9,D,E,H,I]
  have S:c*131+d*1117+p*29+Q*53<9223372036854775808:=by omega
  generalize c*131+d*1117+p*29+Q*53=X at S⊢
  have L:IntKind.i64.wrap ((X:Int).tdiv 64)=((X/64:Nat):Int):=by
   have:(X:Int).tdiv 64=((X/64:Nat):Int):=rfl
   rw[this];exact zy (by omega) (by omega)
  rw[zx0 (by omega),L,Z00 S (by omega),YD (by omega)]
  obtain⟨O,P⟩:=o (X^^^X/64)
  rw[O]
  exact C _ _ (g.trans (Same.of_ext j)) (by rw[r];exact l) (u.ext j) (fun _=>P) fun h=>by omega
theorem num_spec {b p:Nat} {v vs:Value} {xs:List Nat} {ns:List Int} (h:RdR F w b v xs p) (g:Ints F' w vs ns) (d:ns≠[]) (o:ns.length≤1000) (n:p<1099511627776) (c:∀x,F' x→x≠b)
  (j:∀w' m,Same (· =b) w w'→w'.heap.size=w.heap.size→RdR F w' b v xs (p+1)→m∈ns→K (.int .i64 m) w'):vcall PP yx #[.pointer (some ⟨b,0,none⟩),vs] w K:=by
 apply zr0
 have f:=List.length_pos_iff.2 d
 simp(disch:=(simp only[push_cast];done)) only[push_cast,g.len]
 refine pick_spec h (by omega) n fun s k hs r l i _=>?_
 have t:=i (by omega)
 have a:=g.same hs fun x q _ e=>c x q e
 simp(disch:=first|(simp only[push_cast];done)|omega) only[push_cast,a.iaddr,a.load]
 exact j s _ hs r l (M.getD_mem (by omega) _)
end Go.Proofs.YtaekfnbnhjgboaaGreatDoor
end
section
namespace Go.Proofs.YtaekfnbnhjgboaaGreatDoor
open Go Go.Vc Go.Proofs
variable {w:World} {K:Value→World→Prop} {F F' D:Nat→Prop}
@[push_cast] theorem bd_Decl (s:ByteArray) (n:Int):zH PP zz [(0,.string s),(1,.int .i64 n)] w K=K (.agg ⟨[.string s,.int .i64 n]⟩) w:=yh ku0 (us:=[[.string s],[.int .i64 n]]) rfl rfl
abbrev OwnD (w:World) (v:Value) (ds:List M.Dcl):Prop:=Own PP 0 2 zu w v (ds.map fun d=>[.string d.1,.int .i64 d.2])
def Dok (ds:List M.Dcl):Prop:=ds.length≤4∧∀i,i<ds.length→1≤(ds.getD i Wd).2∧(ds.getD i Wd).2≤4∧(ds.getD i Wd).1.size≤1
theorem OwnD.dcls {v:Value} {ds:List M.Dcl} (h:OwnD w v ds):DclsR (fun b=>v.ownBlock=some b) w v ds:=Own.sl h
def Ji0:List ByteArray:=[⟨#[120]⟩,⟨#[121]⟩,⟨#[122]⟩,⟨#[119]⟩]
set_option maxRecDepth 20000 in
theorem gd_ok {ds:List M.Dcl} (h:Dok ds) (m:ds.map (·.1)=Ji0.take ds.length) (f:M.bits ds≤8):M.declOk ds=true:=by
 have l:=h.1
 have nm:∀i,i<ds.length→(ds.getD i (M.nada,0)).1=Ji0.getD i M.nada:=fun i hi=>by
  rw[←M.getD_map (·.1) hi M.nada (M.nada,0),m,M.take_getD hi]
 refine M.decl_iff.2 ⟨l,fun i hi=>?_,f⟩
 have hw:=h.2 i hi
 have c:∀j,j<i→(ds.getD j (M.nada,0)).1≠(ds.getD i (M.nada,0)).1:=fun j d=>by
  rw[nm j (by omega),nm i hi]
  have:∀a b:Fin 4,b.1<a.1→Ji0.getD b.1 M.nada≠Ji0.getD a.1 M.nada:=by decide
  exact this ⟨i,by omega⟩ ⟨j,by omega⟩ d
 have g:M.findD (ds.take i) (ds.getD i (M.nada,0)).1= -1:=M.findD_none fun j d=>by
  rw[List.length_take] at d
  rw[M.take_getD (by omega)]
  exact c j (by omega)
 have k:M.nameOk (ds.getD i (M.nada,0)).1=true:=by
  rw[nm i hi]
  have:∀a:Fin 4,M.nameOk (Ji0.getD a.1 M.nada)=true:=by decide+kernel
  exact this ⟨i,by omega⟩
 unfold M.dclOk
 rw[k,g]
 have e:1≤(ds.getD i (M.nada,0)).2∧(ds.getD i (M.nada,0)).2≤4:=⟨hw.1,hw.2.1⟩
 rw[decide_eq_true e.1,decide_eq_true e.2];rfl
set_option maxRecDepth 20000 in
theorem l2Decls_spec3 {b p:Nat} {v:Value} {xs:List Nat} (h:RdR F w b v xs p) (hF:∀x,F x→x<w.heap.size) (hp:p+100<1099511627776)
  (hK:∀w' D dv ds,Same (· =b) w w'→RdR F w' b v xs D→D≤p+100→DclsR (fun x=>w.heap.size≤x) w' dv ds→Dok ds→M.declOk ds=true→0<ds.length→K dv w'):vcall PP X8 #[.pointer (some ⟨b,0,none⟩)] w K:=by
 apply x60
 have lb:=h.blk.lt
 refine vbuildS_row1 (xs:=Ji0.map .string) Xn (by kernel_rfl) Xk (fun x o=>by obtain⟨s,_,rfl⟩:=List.mem_map.1 o;rfl) (by decide) fun b1 w1 ab A ak Y=>?_
 have a2:Vals (· =b1) w1 (.slice (some ⟨b1,0,none⟩) (Ji0.map Value.string).length (Ji0.map Value.string).length) (Ji0.map Value.string):=Y.sl1 rfl (by decide)
 refine vbuildS_row (xs:=[]) (us:=[]) (k:=2) Z9 ZU xF rfl (by simp) (by decide) fun b2 w2 ac H al h2=>?_
 have ho:OwnD w2 (.slice (some ⟨b2,0,none⟩) 0 0) []:=Blk.ownk (css:=[]) h2 (by simp) rfl (by decide)
 have V:=(h.ext A).ext H
 refine vloop_up 4 (fun i u w'=> ∃sv ds D,∃bits:Int,u=[sv,.int .i64 bits,.int .i64 i]∧Same (· =b) w w'∧RdR F w' b v xs D∧D≤p+2*i∧OwnD w' sv ds∧(∀x,sv.ownBlock=some x→w1.heap.size≤x)∧ds.length=i∧Dok ds∧0≤bits∧bits≤4*i∧Vals (· =b1) w' (.slice (some ⟨b1,0,none⟩) (Ji0.map Value.string).length (Ji0.map Value.string).length) (Ji0.map Value.string)∧ds.map (·.1)=Ji0.take i∧bits=M.bits ds∧bits≤8)
  ⟨_,[],p,0,rfl,Same.of_ext (A.trans H),V,by omega,ho,fun x o=>by have e:x=b2:=(Option.some.inj o).symm;omega,rfl,⟨by simp,fun i hi=>by simp at hi⟩,by omega,by omega,a2.ext H,rfl,rfl,by omega⟩ ?_
 rintro i _ _ w3 C hi ⟨sv,ds,D,bits,rfl,m,W,ai,Q,l,B,G,aa,ae,a6,E,L,af⟩ hC
 have ao:=m.size
 have an:=A.size
 have t:∀z T,Same (· =b) w3 z→RdR F z b v xs T→T≤p+2*i+2→0<i→K sv z:=fun z T hs hR aj ag=>by
  refine hK z T sv ds (m.trans hs) hR (by omega) ?_ G (gd_ok G (by rw[B];exact E) (by omega)) (by omega)
  exact((Q.same hs fun x o e=>by have:=l x o;omega).sl).weaken fun x o _=>by have:=l x o;omega
 refine zV (fun u z=>u=[]∧Same (· =b) w3 z∧RdR F z b v xs (D+1)∧i<4) (fun C' U=>?_) ?_
 ·refine pick_spec W (by omega) (by omega) fun z k y ap r Z _=>?_
  have:=Z (by omega)
  simp only[push_cast]
  rw[zy (x:=1+(k:Int)) (by omega) (by omega)]
  refine zh (fun a=>?_) (fun a=>?_)
  ·refine zh (fun c=>?_) (fun c=>?_)
   ·exact U _ _ ⟨rfl,y,r,by omega⟩
   ·exact t _ _ y r (by omega) (by omega)
  ·exact t _ _ y r (by omega) (by omega)
 ·rintro u g z ⟨rfl,y,r,N⟩
  refine pick_spec r (by omega) (by omega) fun w5 k a5 a8 J Z _=>?_
  have ah:=Z (by omega)
  have d:=y.trans a5
  simp only[push_cast]
  rw[zy (x:=1+(k:Int)) (by omega) (by omega),zy (x:=8-bits) (by omega) (by omega)]
  refine l1Min_spec ?_
  obtain⟨n,hn⟩:∃n:Int,n=min (1+(k:Int)) (8-bits):=⟨_,rfl⟩
  rw[←hn]
  simp only[push_cast]
  refine zh (fun a=>?_) (fun a=>?_)
  ·exact t _ _ d J (by omega) (by omega)
  ·have I:=a6.same d fun x o _ e=>by have:=h.blk.lt;have:=A.size;omega
   have hlen:(Ji0.map Value.string).length=4:=rfl
   have e1:(Ji0.map Value.string).getD i undef= .string (Ji0.getD i ⟨#[]⟩):=M.getD_map _ (show i<Ji0.length from N) _ _
   rw[I.iaddr (by kernel_rfl) (by omega) (by rw[hlen];omega),Int.toNat_natCast,I.load (by kernel_rfl) (by rw[hlen];omega),e1]
   have S:(Ji0.getD i ⟨#[]⟩).size≤1:=by
    rcases(by omega:i=0∨i=1∨i=2∨i=3) with rfl|rfl|rfl|rfl<;>decide
   generalize P:Ji0.getD i ⟨#[]⟩=nm at S⊢
   simp only[push_cast]
   refine XT Z9 ZU xF rfl rfl (by decide) fun b3 w6 ad f am h6=>?_
   have a3:=(Q.same d fun x o e=>by have:=l x o;omega).ext f
   refine Own.app1k a3 Jk (by decide) h6 rfl (by intro v hv;simp only[List.mem_cons,List.not_mem_nil,or_false] at hv;rcases hv with rfl|rfl<;>rfl) (by rw[List.length_map,B];omega) (by rw[List.length_map,B];omega) fun a9 w7 a4 q a0=>?_
   have a8:=d.size
   have aq:=f.size
   have R:Same (· =b) w w7:=by
    refine⟨q.os.trans (f.os.trans (d.os.trans m.os)),q.tape.trans (f.tape.trans (d.tape.trans m.tape)),q.output.trans (f.output.trans (d.output.trans m.output)),Nat.le_trans (((m.trans d).trans (Same.of_ext f)).size) q.size,fun x o a1=>?_⟩
    rw[q.block x (by have:=((m.trans d).trans (Same.of_ext f)).size;omega) (fun e=>by have:=l x e;omega)]
    exact((m.trans d).trans (Same.of_ext f)).block x o a1
   have X:RdR F w7 b v xs (D+1+1):=(J.ext f).same q (fun e=>by have:=l b e;omega) fun x o _ e=>by have:=l x e;have:=hF x o;omega
   have a7:=(I.ext f).same q (fun x o _ e=>by have:=l x e;omega)
   rw[inc64' (by omega),zy (x:=bits+n) (by omega) (by omega)]
   refine hC (by omega) _ _ ⟨a9,ds++[(nm,n)],D+1+1,bits+n,rfl,R,X,by omega,by rw[OwnD,List.map_append];exact a4,fun x o=>?_,by rw[List.length_append];simp[B],⟨by rw[List.length_append];simp;omega,fun j hj=>?_⟩,by omega,by omega,a7,?_,?_,by omega⟩
   ·rcases a0 x o with h|h
    ·exact l x h
    ·omega
   ·rw[List.length_append] at hj
    by_cases O:j<ds.length
    ·rw[List.getD_eq_getElem?_getD,List.getElem?_append_left O,←List.getD_eq_getElem?_getD]
     exact G.2 j O
    ·have:j=ds.length:=by simp at hj;omega
     subst this
     rw[List.getD_eq_getElem?_getD,List.getElem?_append_right (by omega)]
     simp only[Nat.sub_self,List.getElem?_cons_zero,Option.getD_some]
     exact⟨by omega,by omega,S⟩
   ·rw[List.map_append,E,M.take_add (show i<Ji0.length from N) ⟨#[]⟩,P];rfl
   ·rw[L];unfold M.bits;rw[List.map_append,List.sum_append];simp
@[push_cast] theorem bd_T3 (o a b:Int):zH PP za [(0,.int .i64 o),(1,.int .i64 a),(2,.int .i64 b)] w K=K (.agg ⟨[.int .i64 o,.int .i64 a,.int .i64 b,.string ⟨#[]⟩,.slice none 0 0]⟩) w:=yh Yh (us:=[[.int .i64 o],[.int .i64 a],[.int .i64 b]]) rfl rfl
@[push_cast] theorem bd_T1 (o:Int):zH PP za [(0,.int .i64 o)] w K=K (.agg ⟨[.int .i64 o,.int .i64 0,.int .i64 0,.string ⟨#[]⟩,.slice none 0 0]⟩) w:=yh Yh (us:=[[.int .i64 o]]) rfl rfl
@[push_cast] theorem bd_Tn (o:Int) (s:ByteArray):zH PP za [(0,.int .i64 o),(3,.string s)] w K=K (.agg ⟨[.int .i64 o,.int .i64 0,.int .i64 0,.string s,.slice none 0 0]⟩) w:=yh Yh (us:=[[.int .i64 o],[.string s]]) rfl rfl
@[push_cast] theorem bd_Tk (o:Int) (a:Option Addr) (l c:Nat):zH PP za [(0,.int .i64 o),(4,.slice a l c)] w K=K (.agg ⟨[.int .i64 o,.int .i64 0,.int .i64 0,.string ⟨#[]⟩,.slice a l c]⟩) w:=yh Yh (us:=[[.int .i64 o],[.slice a l c]]) rfl rfl
@[push_cast] theorem bd_Tc (o x y:Int) (a:Option Addr) (l c:Nat):zH PP za [(0,.int .i64 o),(1,.int .i64 x),(2,.int .i64 y),(4,.slice a l c)] w K=K (.agg ⟨[.int .i64 o,.int .i64 x,.int .i64 y,.string ⟨#[]⟩,.slice a l c]⟩) w:=yh Yh (us:=[[.int .i64 o],[.int .i64 x],[.int .i64 y],[.slice a l c]]) rfl rfl
theorem kc0 {b:Nat} {cs cs':List Value} {t:TypeId} {G:Nat→Prop} {t':M.Tm} (h:Blk w b cs t) (j:cs.length=5) (c:TmR G w cs' t') (g:∀x,G x→x≠b) (i:∀w',Same (· =b) w w'→w'.heap.size=w.heap.size→TermR G w' (.agg ⟨cs'⟩) t'→K (.agg ⟨cs'⟩) w'):
  zt PP za (.pointer (some ⟨b,0,none⟩)) (.agg ⟨cs'⟩) w fun _ l=>vlv PP za (.pointer (some ⟨b,0,none⟩)) l fun r m=>K r m:=by
 refine stTerm h j c fun w' a d f=>?_
 rw[f.lv (by rw[xX c];exact zI)]
 exact i w' a d (c.same a fun x k _ e=>g x k e).term
theorem Y40 {G:Nat→Prop} (o a b:Int) (s:ByteArray):TmR G w [.int .i64 o,.int .i64 a,.int .i64 b,.string s,.slice none 0 0] (.mk o a b s []):=TmR.of (t:= .mk o a b s []) TmsR.nil
abbrev kw0 (K:Value→World→Prop) (F:Nat→Prop) (w:World) (b p c:Nat) (v:Value) (xs:List Nat):Prop:=∀w' p' tv t,Same (· =b) w w'→RdR F w' b v xs p'→p'≤p+c→TermR (fun x=>w.heap.size≤x) w' tv t→t.ks.length≤3→K tv w'
theorem same_new {b b2:Nat} {w f g:World} (h:Same (· =b) w f) (a:Same (· =b2) f g) (i:w.heap.size≤b2):Same (· =b) w g:=
 ⟨a.os.trans h.os,a.tape.trans h.tape,a.output.trans h.output,Nat.le_trans h.size a.size,fun x d c=>by
  rw[a.block x (Nat.lt_of_lt_of_le d h.size) (fun e=>by subst e;omega)];exact h.block x d c⟩
theorem RdR.new {b b2 p:Nat} {v:Value} {xs:List Nat} {a:World} (h:RdR F w b v xs p) (hs:Same (· =b2) w a) (c:b≠b2) (hF:∀x,F x→x≠b2):RdR F a b v xs p:=h.same hs c fun x d _ e=>hF x d e
theorem l2Leafy_spec {b p:Nat} {v dv:Value} {xs:List Nat} {ds:List M.Dcl} {sort:Int} (h:RdR F w b v xs p) (hF:∀x,F x→x<w.heap.size) (hd:DclsR D w dv ds) (hD:∀x,D x→x≠b) (a0:Dok ds) (a8:0≤sort) (G:sort≤4) (hp:p+100<1099511627776)
  (hK:kw0 K F w b p 100 v xs):vcall PP ql #[.pointer (some ⟨b,0,none⟩),dv,.int .i64 sort] w K:=by
 apply x50
 have lb:=h.blk.lt
 refine zF yR fun b1 w1 a5 n a9 h1=>?_
 have I:=h.ext n
 have L:=hd.ext n
 have o:∀z p2 cs t,Same (· =b) w z→RdR F z b v xs p2→p2≤p+100→Blk z b1 [.int .i64 0,.int .i64 0,.int .i64 0,.string ⟨#[]⟩,.slice none 0 0] za→TmR (fun _=>False) z cs t→t.ks.length≤3→
   zt PP za (.pointer (some ⟨b1,0,none⟩)) (.agg ⟨cs⟩) z fun _ w1=>vlv PP za (.pointer (some ⟨b1,0,none⟩)) w1 fun r z=>K r z:=by
  intro z p2 cs t hs W a1 U hc Z
  refine kc0 U rfl hc (fun x y=>y.elim) fun B l ab ht=>?_
  exact hK B p2 _ t (same_new hs l (by omega)) (W.new l (by omega) fun x y e=>by have:=hF x y;omega) a1 (ht.weaken fun x y _=>y.elim) Z
 simp only[push_cast]
 refine zh (fun a=>?_) (fun a=>?_)
 ·exact o _ _ _ _ (Same.of_ext n) I (by omega) h1 (Y40 24 0 0 _) (Nat.zero_le _)
 simp(disch:=(simp only[push_cast];done)) only[push_cast,L.len]
 have hlen:=a0.1
 refine pick_spec I (by omega) (by omega) fun z at_ E aa X hk _=>?_
 have h2:=h1.same E (by omega)
 have A:∀B p3,Same (· =b) w B→RdR F B b v xs p3→p3≤p+50→Blk B b1 [.int .i64 0,.int .i64 0,.int .i64 0,.string ⟨#[]⟩,.slice none 0 0] za→
   vcall PP qg #[.int .i64 sort] B fun t52 P=>vcall PP zJ #[.pointer (some ⟨b,0,none⟩),t52] P fun t53 Q=>zH PP za [(0,(.int .i64 20)),(1,.int .i64 sort),(2,t53)] Q fun t54 R=>zt PP za (.pointer (some ⟨b1,0,none⟩)) t54 R fun _ S=>vlv PP za (.pointer (some ⟨b1,0,none⟩)) S fun O T=>K O T:=by
  intro B p3 hs W a2 U
  refine l1Two_spec (by omega) ?_
  have a7:2^sort.toNat≤2^4:=Nat.pow_le_pow_right (by omega) (by omega)
  refine pick_spec W (by omega) (by omega) fun w4 k G a3 f _ _=>?_
  simp only[push_cast]
  exact o _ _ _ _ (hs.trans G) f (by omega) (U.same G (by have:=n.size;omega)) (Y40 20 sort k _) (Nat.zero_le _)
 refine vloop_up ds.length (fun i u w'=> ∃N,u=[.int .i64 i]∧Same (· =b) w w'∧RdR F w' b v xs N∧N≤p+1+i∧Blk w' b1 [.int .i64 0,.int .i64 0,.int .i64 0,.string ⟨#[]⟩,.slice none 0 0] za∧DclsR D w' dv ds)
  ⟨p+1,rfl,(Same.of_ext n).trans E,X,by omega,h2,L.same E fun x y _ e=>hD x y e⟩ ?_
 rintro i _ _ B C hi ⟨N,rfl,l,J,a2,H,Y⟩ hC
 refine zV (fun u w'=>u=[]∧i<ds.length∧Same (· =b) w w'∧RdR F w' b v xs (N+1)∧Blk w' b1 [.int .i64 0,.int .i64 0,.int .i64 0,.string ⟨#[]⟩,.slice none 0 0] za∧DclsR D w' dv ds) (fun C' V=>?_) ?_
 ·simp only[push_cast]
  refine zh (fun c=>?_) (fun c=>?_)
  ·refine pick_spec J (by omega) (by omega) fun w4 k d a3 f _ _=>?_
   have m:=H.same d (by omega)
   simp only[push_cast]
   refine zh (fun e=>?_) (fun e=>?_)
   ·exact V _ _ ⟨rfl,by omega,l.trans d,f,m,Y.same d fun x y _ e=>hD x y e⟩
   ·exact A _ _ (l.trans d) f (by omega) m
  ·exact A _ _ l J (by omega) H
 ·rintro u g w4 ⟨rfl,a6,d,f,m,s⟩
  have a4:at_<ds.length:=by have:=hk (by omega);omega
  have e1:IntKind.i64.wrap ((at_:Int)+(i:Int))=((at_+i:Nat):Int):=by rw[zy (by omega) (by omega)];omega
  have eR:∀(w:World) (K:Value→World→Prop),zr PP .rem zb false (.int .i64 ((at_+i:Nat):Int)) (.int .i64 (ds.length:Int)) w K=K (.int .i64 (((at_+i)%ds.length:Nat):Int)) w:=fun w K=>by rw[YD (by omega)];rfl
  have hm:(at_+i)%ds.length<ds.length:=Nat.mod_lt _ (by omega)
  obtain⟨q,hq⟩:∃q,q=at_+i:=⟨_,rfl⟩
  rw[←hq] at e1 eR hm
  obtain⟨j,hj⟩:∃j,j=q%ds.length:=⟨_,rfl⟩
  rw[←hj] at eR hm
  simp(disch:=first|(simp only[push_cast];done)|omega) only[push_cast,e1,eR,s.iaddr]
  try simp(disch:=first|(simp only[push_cast];done)|omega) only[push_cast,s.load0,s.load1]
  refine zh (fun c=>?_) (fun c=>?_)
  ·exact o _ _ _ _ d f (by omega) m (Y40 21 0 0 _) (Nat.zero_le _)
  ·rw[inc64' (by omega)]
   exact hC (by omega) _ _ ⟨N+1,rfl,d,f,by omega,m,s⟩
end Go.Proofs.YtaekfnbnhjgboaaGreatDoor
end
section
namespace Go.Proofs.YtaekfnbnhjgboaaGreatDoor
open Go Go.Vc Go.Proofs
variable {w:World} {K:Value→World→Prop} {F F' D G:Nat→Prop}
theorem kidsL {css:List (List Value)} {ts:List M.Tm} (l:css.length=ts.length) (n:css.length≤100) (h:∀i,i<ts.length→TmR G w (css.getD i []) (ts.getD i default))
  (j:∀w' a,Ext w w'→w'.heap.size=w.heap.size+1→TmsR (fun z=>G z∨z=w.heap.size) w' (.slice a css.length css.length) ts→K (.slice a css.length css.length) w'):
  vbuildS PP zl (css.map fun c=>Value.agg ⟨c⟩).length ((css.map fun c=>Value.agg ⟨c⟩).zipIdx.map fun p=>(p.2,p.1)) w K:=by
 have d:∀u,u∈css→u.length=5:=fun u hu=>by
  obtain⟨i,hi,rfl⟩:=List.getElem_of_mem hu
  have:=xX (h i (by omega))
  rwa[List.getD_eq_getElem?_getD,List.getElem?_eq_getElem hi] at this
 refine vbuildS_row (us:=css) (k:=5) QN Vd yR (by rw[List.map_map];rfl) d (by rw[List.length_map];omega) fun b w' o he hs g=>?_
 rw[List.length_map]
 refine j w' _ he hs ⟨css,?_,l,fun i hi=>((h i hi).ext he).weaken fun x f _=> .inl f⟩
 have m:Own PP 0 5 zl w' (.slice (some ⟨b,0,none⟩) css.length css.length) css:=Blk.ownk (by rw[Qk];exact g) d rfl (by omega)
 exact m.sl.weaken fun x f _=> .inr (by have e:x=b:=(Option.some.inj f).symm;omega)
theorem Za0 {v0:Value} {t0:M.Tm} (b:TermR G w v0 t0) (c:∀w' a,Ext w w'→w'.heap.size=w.heap.size+1→TmsR (fun z=>G z∨z=w.heap.size) w' (.slice a 1 1) [t0]→K (.slice a 1 1) w'):vbuildS PP zl 1 [(0,v0)] w K:=by
 obtain⟨c0,rfl,d⟩:=b.cells
 refine kidsL (css:=[c0]) (ts:=[t0]) rfl (by simp) (fun i hi=>?_) c
 have:i=0:=by simpa using hi
 subst this;exact d
theorem kids2 {v0 v1:Value} {t0 t1:M.Tm} (c:TermR G w v0 t0) (d:TermR G w v1 t1) (e:∀w' a,Ext w w'→w'.heap.size=w.heap.size+1→TmsR (fun z=>G z∨z=w.heap.size) w' (.slice a 2 2) [t0,t1]→K (.slice a 2 2) w'):vbuildS PP zl 2 [(0,v0),(1,v1)] w K:=by
 obtain⟨c0,rfl,f⟩:=c.cells
 obtain⟨b,rfl,g⟩:=d.cells
 refine kidsL (css:=[c0,b]) (ts:=[t0,t1]) rfl (by simp) (fun i hi=>?_) e
 match i,hi with
 |0,_=>exact f
 |1,_=>exact g
theorem kids3 {v0 v1 v2:Value} {t0 t1 t2:M.Tm} (d:TermR G w v0 t0) (e:TermR G w v1 t1) (f:TermR G w v2 t2) (g:∀w' a,Ext w w'→w'.heap.size=w.heap.size+1→TmsR (fun z=>G z∨z=w.heap.size) w' (.slice a 3 3) [t0,t1,t2]→K (.slice a 3 3) w'):vbuildS PP zl 3 [(0,v0),(1,v1),(2,v2)] w K:=by
 obtain⟨c0,rfl,h⟩:=d.cells
 obtain⟨b,rfl,j⟩:=e.cells
 obtain⟨c,rfl,k⟩:=f.cells
 refine kidsL (css:=[c0,b,c]) (ts:=[t0,t1,t2]) rfl (by simp) (fun i hi=>?_) g
 match i,hi with
 |0,_=>exact h
 |1,_=>exact j
 |2,_=>exact k
abbrev YU0:List Value:=[.int .i64 0,.int .i64 0,.int .i64 0,.string ⟨#[]⟩,.slice none 0 0]
structure Dw (F D:Nat→Prop) (w0:World) (b b1:Nat) (v dv:Value) (xs:List Nat) (ds:List M.Dcl) (w:World) (p:Nat):Prop where
 same:Same (· =b) w0 w
 rd:RdR F w b v xs p
 var:Blk w b1 YU0 za
 dcl:DclsR D w dv ds
 old:b<w0.heap.size
 new:b1=w0.heap.size
 size:b1<w.heap.size
 hF:∀x,F x→x<w0.heap.size
 hD:∀x,D x→x≠b
 hD1:∀x,D x→x<w0.heap.size
section
variable {w0:World} {b b1 p:Nat} {v dv:Value} {xs:List Nat} {ds:List M.Dcl}
theorem Dw.step {a:World} {p1:Nat} (h:Dw F D w0 b b1 v dv xs ds w p) (hs:Same (· =b) w a) (c:RdR F a b v xs p1):Dw F D w0 b b1 v dv xs ds a p1:=
 ⟨h.same.trans hs,c,h.var.same hs (by have:=h.old;have:=h.new;omega),h.dcl.same hs fun x d _ e=>h.hD x d e,h.old,h.new,Nat.lt_of_lt_of_le h.size hs.size,h.hF,h.hD,h.hD1⟩
theorem Dw.ext {a:World} (h:Dw F D w0 b b1 v dv xs ds w p) (he:Ext w a):Dw F D w0 b b1 v dv xs ds a p:=h.step (Same.of_ext he) (h.rd.ext he)
theorem Dw.begin (h:RdR F w b v xs p) (hF:∀x,F x→x<w.heap.size) (g:DclsR D w dv ds) (hD:∀x,D x→x≠b) (hD1:∀x,D x→x<w.heap.size) {K:Value→World→Prop} (f:∀c,Dw F D w b w.heap.size v dv xs ds c p→K (.pointer (some ⟨w.heap.size,0,none⟩)) c):y1 PP za w K:=by
 refine zF yR fun b1 c d a i e=>?_
 subst d
 exact f c ⟨Same.of_ext a,h.ext a,e,g.ext a,h.blk.lt,rfl,by omega,hF,hD,hD1⟩
abbrev Nw (b1:Nat) (x:Nat):Prop:=b1<x
theorem Dw.fin {c:Nat} {cs:List Value} {t:M.Tm} (h:Dw F D w0 b b1 v dv xs ds w p) {p0:Nat} (j:p≤p0+c) (k:TmR (Nw b1) w cs t) (f:t.ks.length≤3) (i:kw0 K F w0 b p0 c v xs):
  zt PP za (.pointer (some ⟨b1,0,none⟩)) (.agg ⟨cs⟩) w fun _ n=>vlv PP za (.pointer (some ⟨b1,0,none⟩)) n fun r o=>K r o:=by
 have:=h.old
 have:=h.new
 refine kc0 h.var rfl k (fun x d e=>by subst e;exact Nat.lt_irrefl _ d) fun q a m g=>?_
 exact i q p _ t (same_new h.same a (by omega)) (h.rd.new a (by omega) fun x d e=>by have:=h.hF x d;omega) j (g.weaken fun x d _=>by have l:b1<x:=d;omega) f
theorem Dw.pick {n:Int} (h:Dw F D w0 b b1 v dv xs ds w p) (g:n≤1099511627776) (i:p<1099511627776) (e:∀a (k:Nat),Dw F D w0 b b1 v dv xs ds a (p+1)→Same (· =b) w a→(1≤n→(k:Int)<n)→(n<1→k=0)→K (.int .i64 k) a):vcall PP zJ #[.pointer (some ⟨b,0,none⟩),.int .i64 n] w K:=
 pick_spec h.rd g i fun a k hs j f c d=>e a k (h.step hs f) hs c d
theorem Dw.sub {g:Nat} {args:Array Value} {c:Nat} (h:Dw F D w0 b b1 v dv xs ds w p) (j:∀e,kw0 e F w b p c v xs→vcall PP g args w e) (f:∀a p1 tv t,Dw F D w0 b b1 v dv xs ds a p1→Same (· =b) w a→p1≤p+c→TermR (Nw b1) a tv t→t.ks.length≤3→K tv a):vcall PP g args w K:=
 j K fun a p1 tv t hs i k l d=>f a p1 tv t (h.step hs i) hs k (l.weaken fun x m _=>by have:=h.size;show b1<x;omega) d
theorem Dw.keep {tv:Value} {t:M.Tm} {a:World} (h:Dw F D w0 b b1 v dv xs ds w p) (c:TermR (Nw b1) w tv t) (hs:Same (· =b) w a):TermR (Nw b1) a tv t:=
 c.same hs fun x d _ e=>by subst e;have:=h.old;have:=h.new;have f:b1<x:=d;omega
theorem Dw.tms {kv:Value} {ks:List M.Tm} (h:Dw F D w0 b b1 v dv xs ds w p) {c:World} (d:TmsR (fun z=>Nw b1 z∨z=w.heap.size) c kv ks):TmsR (Nw b1) c kv ks:=
 d.weaken fun x a _=>by
  rcases a with a|a
  ·exact a
  ·have:=h.size;show b1<x;omega
end
def zq0 (d:Nat):Nat:=100*4^d
theorem cost_succ (d:Nat):zq0 (d+1)=4*zq0 d:=by unfold zq0;rw[Nat.pow_succ];omega
theorem cost_ge (d:Nat):100≤zq0 d:=by
 have:1≤4^d:=Nat.pow_pos (by omega)
 unfold zq0;omega
def Wv (d:Nat):Prop:=∀{w:World} {K:Value→World→Prop} {F D:Nat→Prop} {b p:Nat} {v dv:Value} {xs:List Nat} {ds:List M.Dcl} {sort deep:Int},RdR F w b v xs p→(∀x,F x→x<w.heap.size)→DclsR D w dv ds→(∀x,D x→x≠b)→(∀x,D x→x<w.heap.size)→Dok ds→0≤sort→sort≤4→ -100≤deep→deep≤d→
 p+zq0 d<1099511627776→kw0 K F w b p (zq0 d) v xs→vcall PP yb #[.pointer (some ⟨b,0,none⟩),dv,.int .i64 sort,.int .i64 deep] w K
theorem num_draw {w0:World} {b b1 p:Nat} {v dv:Value} {xs:List Nat} {ds:List M.Dcl} {ns:List Int} (h:Dw F D w0 b b1 v dv xs ds w p) (c:ns≠[]) (d:ns.length≤1000) (n:p<1099511627776) (k:∀a m,Dw F D w0 b b1 v dv xs ds a (p+1)→Same (· =b) w a→m∈ns→K (.int .i64 m) a):
  vbuildS PP zg ns.length ((ns.map fun x=>Value.int .i64 x).zipIdx.map fun p=>(p.2,p.1)) w fun s a=>vcall PP yx #[.pointer (some ⟨b,0,none⟩),s] a K:=by
 have:=vbuildS_row1 (w:=w) (K:=fun s a=>vcall PP yx #[.pointer (some ⟨b,0,none⟩),s] a K) (t:=zg) (xs:=ns.map fun x=>Value.int .i64 x) ju qR jS (fun x f=>by obtain⟨y,_,rfl⟩:=List.mem_map.1 f;rfl) (by simp;omega) fun b2 w' r g u j=>by
  have o:Ints (· =b2) w' (.slice (some ⟨b2,0,none⟩) (ns.map fun x=>Value.int .i64 x).length (ns.map fun x=>Value.int .i64 x).length) ns:=j.sl1 rfl (by simp;omega)
  have i:=h.ext g
  have:=h.rd.blk.lt
  refine num_spec i.rd o c d n (fun x f e=>by subst f;omega) fun q m hs z l hm=>?_
  exact k q m (i.step hs l) ((Same.of_ext g).trans hs) hm
 rwa[List.length_map] at this
theorem l2Asks_spec {d:Nat} (hT:Wv d) {b p:Nat} {v dv:Value} {xs:List Nat} {ds:List M.Dcl} {deep:Int} (h:RdR F w b v xs p) (hF:∀x,F x→x<w.heap.size) (hd:DclsR D w dv ds) (hD:∀x,D x→x≠b) (hD1:∀x,D x→x<w.heap.size) (G:Dok ds) (aa:1≤deep) (ab:deep≤d+1) (ac:d≤9)
  (hp:p+2*zq0 d+10<1099511627776) (T:kw0 K F w b p (2*zq0 d+10) v xs):vcall PP Qa #[.pointer (some ⟨b,0,none⟩),dv,.int .i64 deep] w K:=by
 apply qJ0
 refine Dw.begin h hF hd hD hD1 fun w1 h1=>?_
 have hg:=h1.new
 have e1:IntKind.i64.wrap (deep-1)=deep-1:=zy (by omega) (by omega)
 have f:∀{U:World} {p2:Nat} {s:Int} {V:Value→World→Prop},Dw F D w b w.heap.size v dv xs ds U p2→0≤s→s≤4→p2+zq0 d<1099511627776→(∀B Q tv t,Dw F D w b w.heap.size v dv xs ds B Q→Same (· =b) U B→Q≤p2+zq0 d→TermR (Nw w.heap.size) B tv t→t.ks.length≤3→V tv B)→
   vcall PP yb #[.pointer (some ⟨b,0,none⟩),dv,.int .i64 s,.int .i64 (deep-1)] U V:=fun r y i a4 X=>
  r.sub (fun V hk=>hT r.rd (fun x hx=>Nat.lt_of_lt_of_le (hF x hx) r.same.size) r.dcl hD (fun x hx=>Nat.lt_of_lt_of_le (hD1 x hx) r.same.size) G y i (by omega) (by omega) a4 hk) X
 refine h1.pick (by omega) (by omega) fun U k r ag hk _=>?_
 simp only[push_cast,e1]
 refine zh (fun a=>?_) (fun a=>?_)
 ·refine f r (by omega) (by omega) (by omega) fun B Q I t0 o H O l _=>?_
  refine Za0 l fun J sa Y aj j=>?_
  have n:=o.ext Y
  simp only[push_cast]
  exact n.fin (p0:=p) (by omega) (TmR.of (t:= .mk 25 0 0 _ [t0]) (o.tms j)) (Nat.le_of_ble_eq_true rfl) T
 refine zh (fun a1=>?_) (fun a1=>?_)
 ·refine f r (by omega) (by omega) (by omega) fun B Q I t0 o H O l _=>?_
  refine f o (by omega) (by omega) (by omega) fun J R S t1 n i P q _=>?_
  refine kids2 (o.keep l i) q fun w5 sa E a7 j=>?_
  have z:=n.ext E
  simp only[push_cast]
  exact z.fin (p0:=p) (by omega) (TmR.of (t:= .mk 26 0 0 _ [t0,t1]) (n.tms j)) (Nat.le_of_ble_eq_true rfl) T
 refine zh (fun a2=>?_) (fun a2=>?_)
 ·refine f r (by omega) (by omega) (by omega) fun B Q I t0 o H O l _=>?_
  refine f o (by omega) (by omega) (by omega) fun J R S t1 n i P q _=>?_
  refine kids2 (o.keep l i) q fun w5 sa E a7 j=>?_
  have z:=n.ext E
  simp only[push_cast]
  exact z.fin (p0:=p) (by omega) (TmR.of (t:= .mk 27 0 0 _ [t0,t1]) (n.tms j)) (Nat.le_of_ble_eq_true rfl) T
 refine r.pick (by omega) (by omega) fun B k3 o H a0 _=>?_
 have a8:=a0 (by omega)
 simp only[push_cast]
 rw[zy (x:=1+(k3:Int)) (by omega) (by omega)]
 refine zV (fun u J=> ∃s R,u=[.int .i64 s]∧0≤s∧s≤4∧R≤p+4∧Dw F D w b w.heap.size v dv xs ds J R) (fun C W=>?_) ?_
 ·have hlen:=G.1
  have L:=o.dcl
  simp(disch:=(simp only[push_cast];done)) only[push_cast,L.len]
  refine zh (fun c=>?_) (fun c=>?_)
  ·refine o.pick (by omega) (by omega) fun J k4 n i ad _=>?_
   have N:=n.dcl
   simp only[push_cast]
   refine zh (fun e=>?_) (fun e=>?_)
   ·try simp(disch:=(simp only[push_cast];done)) only[push_cast,N.len]
    refine n.pick (by omega) (by omega) fun w5 k5 z a5 a3 _=>?_
    have a9:=a3 (by omega)
    have A:=z.dcl
    simp(disch:=first|(simp only[push_cast];done)|omega) only[push_cast,A.iaddr]
    try simp(disch:=first|(simp only[push_cast];done)|omega) only[push_cast,A.load1]
    have ai:1≤(ds.getD k5 (M.nada,0)).2∧(ds.getD k5 (M.nada,0)).2≤4∧_:=G.2 k5 (by omega)
    exact W _ _ ⟨_,_,rfl,by omega,by omega,by omega,z⟩
   ·exact W _ _ ⟨_,_,rfl,by omega,by omega,by omega,n⟩
  ·exact W _ _ ⟨_,_,rfl,by omega,by omega,by omega,o⟩
 ·rintro u g J ⟨s,R,rfl,y,i,P,n⟩
  refine num_draw (ns:=[15,16,17,15]) n (by simp) (by decide) (by omega) fun w5 m z a5 hm=>?_
  simp only[push_cast,e1]
  refine f z y i (by omega) fun w6 p6 I t0 h6 ah ae l _=>?_
  refine f h6 y i (by omega) fun w7 p7 S t1 h7 a6 af q _=>?_
  refine kids2 (h6.keep l a6) q fun w8 sa Z ak j=>?_
  have h8:=h7.ext Z
  simp only[push_cast]
  exact h8.fin (p0:=p) (by omega) (TmR.of (t:= .mk m 0 0 _ [t0,t1]) (h7.tms j)) (Nat.le_of_ble_eq_true rfl) T
end Go.Proofs.YtaekfnbnhjgboaaGreatDoor
end
section
namespace Go.Proofs.YtaekfnbnhjgboaaGreatDoor
open Go Go.Vc Go.Proofs
variable {w:World} {K:Value→World→Prop} {F F' D G:Nat→Prop}
theorem l2Term_step {d:Nat} (an:d≤9) (hT:∀e,e<d→Wv e):Wv d:=by
 intro w K F D b p v dv xs ds sort deep h hF hd hD hD1 Y l m ap ao hp S
 apply qC0
 refine Dw.begin h hF hd hD hD1 fun w1 h1=>?_
 have a9:=cost_ge d
 have G:∀{O:World} {p2:Nat},Dw F D w b w.heap.size v dv xs ds O p2→p2≤p+1→zq0 d=100∨0<d→p2+100≤p+zq0 d∨d=0→(d=0→p2=p)→
   vcall PP ql #[.pointer (some ⟨b,0,none⟩),dv,.int .i64 sort] O fun t27 ak=>zt PP za (.pointer (some ⟨w.heap.size,0,none⟩)) t27 ak fun _ al=>vlv PP za (.pointer (some ⟨w.heap.size,0,none⟩)) al fun r8 am=>K r8 am:=by
  intro O p2 n Z _ T hz
  refine n.sub (c:=100) (fun K' P=>l2Leafy_spec n.rd (fun x M=>Nat.lt_of_lt_of_le (hF x M) n.same.size) n.dcl hD Y l m (by rcases T with T|T<;>omega) P) fun R p3 tv t y ag ar ht X=>?_
  obtain⟨cs,rfl,U⟩:=ht.cells
  refine y.fin (p0:=p) (c:=zq0 d) ?_ U X S
  rcases T with T|T
  ·omega
  ·have:=hz T;omega
 refine zV (fun u w'=> ∃p',u=[]∧Dw F D w b w.heap.size v dv xs ds w' p'∧p'≤p+1∧1≤deep) (fun C hC=>?_) ?_
 ·simp only[push_cast]
  refine zh (fun a=>?_) (fun a=>?_)
  ·refine G h1 (by omega) (by
    by_cases h0:d=0
    ·subst h0;left;rfl
    ·right;omega) ?_ (fun _=>rfl)
   by_cases h0:d=0
   ·exact .inr h0
   ·left;omega
  ·have V:1≤d:=by omega
   have aa:zq0 d=4*zq0 (d-1):=by
    obtain⟨e,rfl⟩:∃e,d=e+1:=⟨d-1,by omega⟩
    exact cost_succ e
   have a4:=cost_ge (d-1)
   refine zh (fun c=>?_) (fun c=>?_)
   ·refine h1.pick (by omega) (by omega) fun O k n av P _=>?_
    simp only[push_cast]
    refine zh (fun e=>?_) (fun e=>?_)
    ·exact G n (by omega) (.inr (by omega)) (.inl (by omega)) (by omega)
    ·exact hC _ _ ⟨p+1,rfl,n,by omega,by omega⟩
   ·exact hC _ _ ⟨p,rfl,h1,by omega,by omega⟩
 rintro u g O ⟨p2,rfl,n,Z,ac⟩
 have V:1≤d:=by omega
 obtain⟨J,ab⟩:∃J,d=J+1:=⟨d-1,by omega⟩
 have aa:zq0 d=4*zq0 J:=by rw[ab,cost_succ]
 have a4:=cost_ge J
 have e1:IntKind.i64.wrap (deep-1)=deep-1:=zy (by omega) (by omega)
 have f:∀{O:World} {p2:Nat} {s:Int} {K':Value→World→Prop},Dw F D w b w.heap.size v dv xs ds O p2→0≤s→s≤4→p2+zq0 J<1099511627776→(∀R p3 tv t,Dw F D w b w.heap.size v dv xs ds R p3→Same (· =b) O R→p3≤p2+zq0 J→TermR (Nw w.heap.size) R tv t→t.ks.length≤3→K' tv R)→
   vcall PP yb #[.pointer (some ⟨b,0,none⟩),dv,.int .i64 s,.int .i64 (deep-1)] O K':=fun n l m Z a8=>
  n.sub (fun K' P=>hT J (by omega) n.rd (fun x M=>Nat.lt_of_lt_of_le (hF x M) n.same.size) n.dcl hD (fun x M=>Nat.lt_of_lt_of_le (hD1 x M) n.same.size) Y l m (by omega) (by omega) Z P) a8
 refine n.pick (by omega) (by omega) fun R k y ag P _=>?_
 have aq:=P (by omega)
 simp only[push_cast,e1]
 refine zh (fun a=>?_) (fun a=>?_)
 ·refine f y (by omega) (by omega) (by omega) fun w4 p4 N t0 h4 Q ae j _=>?_
  refine f h4 l m (by omega) fun w5 p5 a7 t1 z H au I _=>?_
  refine f z l m (by omega) fun w6 p6 aw t2 q r L ah _=>?_
  refine kids3 (z.keep (h4.keep j H) r) (z.keep I r) ah fun w7 sa B a6 i=>?_
  have A:=q.ext B
  simp only[push_cast]
  exact A.fin (p0:=p) (by omega) (TmR.of (t:= .mk 23 0 0 _ [t0,t1,t2]) (q.tms i)) (Nat.le_of_ble_eq_true rfl) S
 refine zh (fun a0=>?_) (fun a0=>?_)
 ·refine y.sub (c:=2*zq0 J+10) (fun K' P=>l2Asks_spec (hT J (by omega)) y.rd (fun x M=>Nat.lt_of_lt_of_le (hF x M) y.same.size) y.dcl hD (fun x M=>Nat.lt_of_lt_of_le (hD1 x M) y.same.size) Y ac (by omega) (by omega) (by omega) P) fun w4 p4 tv t h4 Q ae ht X=>?_
  obtain⟨cs,rfl,U⟩:=ht.cells
  exact h4.fin (p0:=p) (by omega) U X S
 refine zh (fun a1=>?_) (fun a1=>?_)
 ·rw[zy (x:=5-sort) (by omega) (by omega)]
  refine y.pick (by omega) (by omega) fun w4 k4 h4 Q ad a5=>?_
  have ai:sort+(k4:Int)≤4:=by
   by_cases hn:1≤5-sort
   ·have:=ad hn;omega
   ·have:=a5 (by omega);omega
  simp only[push_cast]
  rw[zy (x:=sort+(k4:Int)) (by omega) (by omega),zy (x:=sort+(k4:Int)-sort) (by omega) (by omega),zy (x:=sort+(k4:Int)-sort+1) (by omega) (by omega)]
  refine h4.pick (by omega) (by omega) fun w5 k5 z H o _=>?_
  have E:=o (by omega)
  simp only[push_cast]
  refine f z (by omega) ai (by omega) fun w6 p6 N t0 q r L j _=>?_
  refine Za0 j fun w7 sa B a6 i=>?_
  have A:=q.ext B
  simp only[push_cast]
  exact A.fin (p0:=p) (by omega) (TmR.of (t:= .mk 22 _ _ _ [t0]) (q.tms i)) (Nat.le_of_ble_eq_true rfl) S
 refine zV (fun u w'=>u=[]∧w'=R) (fun C hC=>?_) ?_
 ·refine zV (fun u w'=>u=[.bool (decide (k=2∧1<sort))]∧w'=R) (fun C' a3=>?_) ?_
  ·try simp only[push_cast]
   refine zh (fun c=>?_) (fun c=>?_)
   ·refine a3 _ _ ⟨?_,rfl⟩
    have c':k=2:=by omega
    simp only[c',true_and]
   ·exact a3 _ _ ⟨by rw[decide_eq_false (by omega)],rfl⟩
  rintro u g w4 ⟨rfl,rfl⟩
  simp only[push_cast]
  refine zh (fun c=>?_) (fun c=>?_)
  ·rw[zy (x:=sort-1) (by omega) (by omega)]
   refine y.pick (by omega) (by omega) fun w5 k5 z H o _=>?_
   have E:=o (by omega)
   try simp only[push_cast]
   rw[zy (x:=1+(k5:Int)) (by omega) (by omega)]
   refine f z (by omega) (by omega) (by omega) fun w6 p6 N t0 q r L j _=>?_
   try simp only[push_cast]
   rw[zy (x:=sort-(1+(k5:Int))) (by omega) (by omega)]
   refine f q (by omega) (by omega) (by omega) fun w7 p7 a7 t1 A a2 af I _=>?_
   refine kids2 (q.keep j a2) I fun w8 sa W aj i=>?_
   have h8:=A.ext W
   simp only[push_cast]
   exact h8.fin (p0:=p) (by omega) (TmR.of (t:= .mk 14 0 0 _ [t0,t1]) (A.tms i)) (Nat.le_of_ble_eq_true rfl) S
  ·exact hC _ _ ⟨rfl,rfl⟩
 rintro u g w4 ⟨rfl,rfl⟩
 try simp only[push_cast]
 refine zh (fun c=>?_) (fun c=>?_)
 ·refine y.pick (by omega) (by omega) fun w5 k5 z H o _=>?_
  have E:=o (by omega)
  try simp only[push_cast]
  rw[zy (x:=1+(k5:Int)) (by omega) (by omega)]
  refine f z l m (by omega) fun w6 p6 N t0 q r L j _=>?_
  refine Za0 j fun w7 sa B a6 i=>?_
  have A:=q.ext B
  simp only[push_cast]
  exact A.fin (p0:=p) (by omega) (TmR.of (t:= .mk _ 0 0 _ [t0]) (q.tms i)) (Nat.le_of_ble_eq_true rfl) S
 ·refine y.pick (by omega) (by omega) fun w5 k5 z H o _=>?_
  have E:=o (by omega)
  try simp only[push_cast]
  rw[zy (x:=3+(k5:Int)) (by omega) (by omega)]
  refine f z l m (by omega) fun w6 p6 N t0 q r L j _=>?_
  refine f q l m (by omega) fun w7 p7 a7 t1 A a2 af I _=>?_
  refine kids2 (q.keep j a2) I fun w8 sa W aj i=>?_
  have h8:=A.ext W
  simp only[push_cast]
  exact h8.fin (p0:=p) (by omega) (TmR.of (t:= .mk _ 0 0 _ [t0,t1]) (A.tms i)) (Nat.le_of_ble_eq_true rfl) S
theorem l2Term_spec:∀d,d≤9→Wv d:=by
 intro d
 induction d using Nat.strongRecOn with
 |_ d b=>intro a;exact l2Term_step a fun e he=>b e he (by omega)
theorem dok_sized {ds:List M.Dcl} (h:Dok ds):YC0 ds:=fun i hi=>by have:=(h.2 i hi).2.2;omega
theorem l2Some_spec {b p:Nat} {v dv:Value} {xs:List Nat} {ds:List M.Dcl} {sort:Int} (h:RdR F w b v xs p) (hF:∀x,F x→x<w.heap.size) (Y:DclsR D w dv ds) (hD:∀x,D x→x≠b) (hD1:∀x,D x→x<w.heap.size) (k:Dok ds) (r:0≤sort) (s:sort≤4)
  (hp:p+200000<1099511627776) (N:kw0 K F w b p 200000 v xs):vcall PP Q7 #[.pointer (some ⟨b,0,none⟩),dv,.int .i64 sort] w K:=by
 apply qE0
 refine Dw.begin h hF Y hD hD1 fun w1 U=>?_
 have A:zq0 4=25600:=rfl
 refine vloop_up 4 (fun i u w'=> ∃R,u=[.int .i64 (4-(i:Int))]∧Dw F D w b w.heap.size v dv xs ds w' R∧R≤p+25600*i) ⟨p,rfl,U,by omega⟩ ?_
 rintro i _ _ w2 C hi ⟨p2,rfl,e,a0⟩ W
 have hold:=e.old
 have P:=e.new
 simp only[push_cast]
 refine zh (fun a=>?_) (fun a=>?_)
 ·refine e.sub (c:=zq0 4) (fun T B=>l2Term_spec 4 (by omega) e.rd (fun x l=>Nat.lt_of_lt_of_le (hF x l) e.same.size) e.dcl hD (fun x l=>Nat.lt_of_lt_of_le (hD1 x l) e.same.size) k r s (by omega) (by omega) (by omega) B) fun J S tv t z G E H j=>?_
  obtain⟨cs,rfl,d⟩:=H.cells
  have o:=d.weaken (F':=fun x=>Nw w.heap.size x∧x<J.heap.size) fun x l Z=>⟨l,Z⟩
  refine zF yR fun b2 w4 X q Q V=>?_
  refine stTerm V rfl (o.ext q) fun w5 I _ L=>?_
  have f:Ext J w5:=Ext.then q I fun y hy=>by subst hy;omega
  have O:aggB PP za cs.length=true:=by rw[xX d];exact zI
  rw[L.ldAgg (t:=za) O]
  have m:=z.ext f
  refine spec_TermSort_spec (dok_sized k) m.dcl (d.ext f).term fun w6 g=>?_
  have n:=m.ext g
  simp only[push_cast]
  refine zh (fun c=>?_) (fun c=>?_)
  ·rw[(L.ext g).ldAgg (t:=za) O]
   exact n.fin (p0:=p) (by omega) ((d.ext f).ext g) j N
  ·rw[zy (by omega) (by omega),show 4-(i:Int)-1=4-((i+1:Nat):Int) by omega]
   exact W (by omega) _ _ ⟨S,rfl,n,by omega⟩
 ·refine e.sub (c:=100) (fun T B=>l2Leafy_spec e.rd (fun x l=>Nat.lt_of_lt_of_le (hF x l) e.same.size) e.dcl hD k r s (by omega) B) fun J S tv t z G E H j=>?_
  obtain⟨cs,rfl,d⟩:=H.cells
  exact z.fin (p0:=p) (by omega) d j N
end Go.Proofs.YtaekfnbnhjgboaaGreatDoor
end
