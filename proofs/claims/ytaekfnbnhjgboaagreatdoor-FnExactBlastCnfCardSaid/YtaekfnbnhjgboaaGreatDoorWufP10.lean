import Derived.Test.YtaekfnbnhjgboaaGreatDoorWufP9
import Derived.Test.YtaekfnbnhjgboaaGreatDoorWufP5
import Derived.Test.YtaekfnbnhjgboaaGreatDoorWufP6
import Derived.Test.YtaekfnbnhjgboaaGreatDoorWufP7
import Derived.Test.YtaekfnbnhjgboaaGreatDoorWufP4
/- A part of the proof. -/
set_option linter.unusedVariables false
set_option linter.unusedSimpArgs false
set_option linter.unnecessarySimpa false
set_option linter.unusedSectionVars false
section
namespace Go.Proofs.YtaekfnbnhjgboaaGreatDoor
open Go Go.Vc Go.Proofs
variable {w:World} {K:Value→World→Prop} {D F Fx Fy Y S O O':Nat→Prop} {n b4 b8:Nat} {gs gs':M.Gs} {v v' nv xv yv sv dv tv:Value} {cs cs':List Value} {st st':Option M.Gs} {a b c m x y r:Int} {xs ys:List Int} {ds:List M.Dcl} {t:M.Tm}
theorem spec_one {x:Int} (f:∀w' r,Ext w w'→OwnI PP zg w' r [x]→(∀b,r.ownBlock=some b→w.heap.size≤b)→K r w'):vbuildS PP zg 1 [(0,.int .i64 x)] w K:=by
 refine yj YG jx XN rfl rfl fun d j h c i a=>?_
 exact f j _ c (Blk.own1 (P:=PP) (t:=zg) (cs:=[Value.int .i64 x]) (by rw[Wo];exact a) (Nat.zero_le _) rfl rfl (by omega)) fun b g=>by have e:d=b:=Option.some.inj g;omega
theorem sbits8_spec {k:Nat} (d:M.declOk ds=true) (p:k≤ds.length) (j:DclsR F w v (ds.take k)) (h:∀w',Ext w w'→K (.int .i64 (M.bitT ds k)) w'):vcall PP Zh #[v] w K:=by
 apply x90
 have hlen:(ds.take k).length=k:=by rw[List.length_take];omega
 have o:=(M.decl_iff.1 d).1
 refine vloop_up k (fun i u w'=>u=[.int .i64 (M.bitT ds i),.int .i64 i]∧Ext w w') ⟨rfl,Same.refl _ _⟩ ?_
 rintro i _ _ n C hi ⟨rfl,c⟩ g
 have b:=j.ext c
 simp(disch:=first|(simp only[push_cast];done)|omega) only[push_cast,b.len]
 refine zh (fun a=>?_) (fun a=>?_)
 ·have e:i<k:=by omega
  have m:=dcl_small d (i:=i) (by omega)
  have f:=dcl_small d (i:=i+1) (by omega)
  rw[M.bitT_succ (by omega)] at f
  have l:(ds.take k).getD i (M.nada,0)=ds.getD i (M.nada,0):=M.take_getD e
  simp(disch:=first|(simp only[push_cast];done)|omega) only[push_cast,b.iaddr,b.load1,l,zH]
  refine g e _ _ ⟨?_,c⟩
  rw[M.bitT_succ (by omega)]
  simp
 ·have:i=k:=by omega
  subst this
  exact h n c
theorem fix_val {nn:Int} {j:Nat}:2*((nn.toNat/2^j%2:Nat):Int)-1=if nn.toNat/2^j%2=1 then 1 else-1:=by
 have h:nn.toNat/2^j%2=0∨nn.toNat/2^j%2=1:=by omega
 rcases h with h|h<;>rw[h]<;>rfl
theorem sfix8_spec {wd nn:Int} (x:M.vok wd nn=true) (t:∀w' r,Ext w w'→OwnI PP zg w' r (M.fixB wd nn)→(∀b,r.ownBlock=some b→w.heap.size≤b)→K r w'):vcall PP XX #[.int .i64 wd,.int .i64 nn] w K:=by
 apply q30
 obtain⟨v1,v2,v3,v4⟩:=M.vok_lt x
 refine spec_nil fun y A m p k=>?_
 refine vloop_up wd.toNat (fun i u w'=> ∃r,u=[r,.int .i64 i]∧Ext w w'∧OwnI PP zg w' r ((M.fixB wd nn).take i)∧∀b,r.ownBlock=some b→w.heap.size≤b) ⟨_,rfl,p,m,k⟩ ?_
 rintro i _ g z C hi ⟨r,rfl,o,d,f⟩ s
 simp only[push_cast]
 refine zh (fun a=>?_) (fun a=>?_)
 ·have e:i<wd.toNat:=by omega
  rw[show nn=((nn.toNat:Nat):Int) by omega]
  refine l1Bit_spec (by omega) (by omega) ?_
  have v:nn.toNat/2^i%2<2:=Nat.mod_lt _ (by decide)
  have c:=fix_val (nn:=nn) (j:=i)
  generalize h:nn.toNat/2^i%2=bt at c v
  simp(disch:=omega) only[push_cast,zH]
  rw[c]
  refine spec_app o d f (by rw[List.length_take,M.fixB_len];omega) fun v3 B n q l=>?_
  try simp(disch:=omega) only[push_cast,zH]
  refine s e _ _ ⟨v3,by simp,q,?_,l⟩
  rw[M.take_add (by rw[M.fixB_len];omega) 0,fixB_at (by omega),h]
  exact n
 ·have e:i=wd.toNat:=by omega
  rw[List.take_of_length_le (by rw[M.fixB_len];omega)] at d
  exact t z r o d f
theorem sname8_spec {k:Nat} (e:M.declOk ds=true) (l:k<ds.length) (p:DclsR F w v ds) (D:∀w' r,Ext w w'→OwnI PP zg w' r (M.nameB ds k)→(∀b,r.ownBlock=some b→w.heap.size≤b)→K r w'):vcall PP X9 #[v,.int .i64 k] w K:=by
 apply x70
 have J:=(M.decl_iff.1 e).1
 rw[p.cut (by intro h;rw[h] at l;simp at l) Qp (by omega)]
 refine sbits8_spec e (by omega) (p.taken (by omega)) fun L y=>?_
 have G:=dcl_small e (i:=k) (by omega)
 have H:=M.dcl_wide e l
 simp(disch:=omega) only[push_cast,zH]
 refine spec_nil fun v2 N t z q=>?_
 have P:=y.size
 refine vloop_up (ds.getD k (M.nada,0)).2.toNat (fun i u w'=> ∃r,u=[r,.int .i64 i]∧Ext w w'∧OwnI PP zg w' r ((M.nameB ds k).take i)∧∀b,r.ownBlock=some b→w.heap.size≤b) ⟨_,rfl,y.trans z,t,fun b E=>by have:=q b E;omega⟩ ?_
 rintro i _ g I C hi ⟨r,rfl,n,f,m⟩ B
 have d:=p.ext n
 have j:∀c:i<(ds.getD k (M.nada,0)).2.toNat,(M.nameB ds k).getD i 0=2+M.bitT ds k+(ds.getD k (M.nada,0)).2-1-(i:Int):=fun c=>by unfold M.nameB;rw[UH c];rfl
 rw[d.iaddr Qp (by omega) (by omega),Int.toNat_natCast]
 simp only[push_cast]
 rw[d.load1 xL0 l]
 generalize o:(ds.getD k (M.nada,0)).2=wd at*
 simp only[push_cast]
 refine zh (fun a=>?_) (fun a=>?_)
 ·have c:i<wd.toNat:=by omega
  rw[d.iaddr Qp (by omega) (by omega),Int.toNat_natCast]
  simp only[push_cast]
  rw[d.load1 xL0 l,o]
  simp(disch:=omega) only[push_cast,zH]
  refine spec_app n f m (by rw[List.length_take,M.nameB_len];omega) fun v5 O x A s=>?_
  try simp(disch:=omega) only[push_cast,zH]
  refine B c _ _ ⟨v5,by simp,A,?_,s⟩
  rw[M.take_add (by rw[M.nameB_len,o];omega) 0,j c]
  exact x
 ·rw[List.take_of_length_le (by rw[M.nameB_len,o];omega)] at f
  exact D I r n f m
theorem sleaf8_spec (l:M.declOk ds=true) (hs:M.sortM ds t≠ -1) (I:t.ks.length=0) (v:DclsR F w dv ds) (E:TermR Fx w tv t)
  (i:∀w' r zs,Ext w w'→OwnI PP zg w' r zs→(∀b,r.ownBlock=some b→w.heap.size≤b)→SnL st zs→M.Bd.Out n (M.nodeB ds t []) st st zs→K r w'):vcall PP Xa #[dv,tv] w K:=by
 apply x80
 obtain⟨kv,rfl,A⟩:=E
 obtain⟨y,L,C⟩:=M.right_op hs
 have D:t.op=20∨t.op=21∨t.op=24:=Classical.byContradiction fun h=>by have:=M.node_arity C h;omega
 refine zx fun b1 O z a H g=>?_
 simp(disch:=first|(simp only[push_cast];done)|omega) only[push_cast,g.ld0]
 unfold M.nodeB at i
 refine zh (fun c=>?_) (fun c=>?_)
 ·rw[if_pos c] at i
  have G:=M.vec_ok hs c
  simp(disch:=first|(simp only[push_cast];done)|omega) only[push_cast,g.ld1,g.ld2]
  refine sfix8_spec G fun p r d f e=>?_
  exact i p r _ (a.trans d) f (fun b o=>by have:=e b o;omega) (fun x u=>by
   unfold M.fixB at u
   obtain⟨j,_,rfl⟩:=List.mem_map.1 u
   split<;>exact Sn.of (by decide) (by decide)) (M.Bd.Out.ret _ _)
 rw[if_neg c] at i
 try simp only[push_cast]
 refine zh (fun q=>?_) (fun q=>?_)
 ·rw[if_pos q] at i
  have J:=M.name_found hs q
  have B:=M.findD_lt ds t.s
  simp(disch:=first|(simp only[push_cast];done)|omega) only[push_cast,g.ld3]
  refine l2Find_spec (v.ext a) ?_
  rw[show M.findD ds t.s=(((M.findD ds t.s).toNat:Nat):Int) by omega]
  refine sname8_spec l (by omega) (v.ext a) fun p r d f e=>?_
  refine i p r _ (a.trans d) f (fun b o=>by have:=e b o;omega) (fun x u=>?_) (M.Bd.Out.ret _ _)
  obtain⟨p1,p2,N⟩:=M.name_has (m:=9) l (k:=(M.findD ds t.s).toNat) (by omega) (by have:=(M.decl_iff.1 l).2.2;omega) x u
  exact Sn.of (by unfold Sm;omega) p1
 ·rw[if_neg q,if_pos (by omega)] at i
  refine spec_one fun p r d f e=>?_
  exact i p r _ (a.trans d) f (fun b o=>by have:=e b o;omega) (SnL.one (Sn.of (by decide) (by decide))) (M.Bd.Out.ret _ _)
end Go.Proofs.YtaekfnbnhjgboaaGreatDoor
end
section
namespace Go.Proofs.YtaekfnbnhjgboaaGreatDoor
open Go Go.Vc Go.Proofs
variable {w:World} {K:Value→World→Prop} {D F Fx Fy Y S O O':Nat→Prop} {n b4 b8:Nat} {gs gs':M.Gs} {v v' nv xv yv sv dv tv kv:Value} {cs cs' ts:List Value} {st st':Option M.Gs} {a b c m x y r:Int} {xs ys:List Int} {ds:List M.Dcl} {t:M.Tm} {rs:List (List Int)}
theorem Fm.start2 (v:MkR n D w cs st) (hD:∀b,D b→b<w.heap.size) {K:Value→Value→Value→World→Prop} (p:∀b4 a b8 w',Fm n D (fun _=>False) w b4 b8 w' st→Blk w' a ts zd→w.heap.size≤a∧a≠b4∧a≠b8→K (.pointer (some ⟨b4,0,none⟩)) (.pointer (some ⟨a,0,none⟩)) (.pointer (some ⟨b8,0,none⟩)) w'):
  yH PP zc (.agg ⟨cs⟩) w fun t m=>yH PP zd (.agg ⟨ts⟩) m fun t5 o=>zZ PP zc o fun t8 k=>K t t5 t8 k:=by
 refine zx fun b4 m r i x e=>?_
 refine zx fun a o s j y f=>?_
 refine zF xX fun b8 k u d z g=>?_
 have c:=j.trans d
 have l:=i.trans c
 refine p b4 a b8 k ⟨l,⟨cs,e.ext c,v.ext l fun b q A=>q.elim id fun h=>?_⟩,⟨_,g,rfl⟩,by omega,fun b h=>h.elim,hD⟩ (f.ext d) (by omega)
 rcases h with h|h|h
 ·omega
 ·omega
 ·exact h.elim
def KidsS (w:World) (kv:Value) (rs:List (List Int)):Prop:= ∃(vs:List Value) (Fk:Nat→Prop),Vals Fk w kv vs∧vs.length=rs.length∧∀i,i<rs.length→Ints (fun _=>True) w (vs.getD i undef) (rs.getD i [])
theorem KidsS.vals (h:KidsS w kv rs):∃vs:List Value,(∀(w':World),Ext w w'→∀i:Nat,i<rs.length→∀K:Value→World→Prop,zo PP zB kv (.int .i64 i) w' K=K (.pointer (some (eaddr kv 1 i))) w'∧zf PP zg (.pointer (some (eaddr kv 1 i))) w' K=K (vs.getD i undef) w')∧
  ∀i,i<rs.length→Ints (fun _=>True) w (vs.getD i undef) (rs.getD i []):=by
 obtain⟨vs,Fk,b,d,c⟩:=h
 refine⟨vs,fun w' he i hi K=>?_,c⟩
 have a:=b.ext he
 refine⟨?_,a.load XF0 (by omega)⟩
 rw[a.iaddr X30 (by omega) (by omega),Int.toNat_natCast]
theorem KidsS.ext {w':World} (h:KidsS w kv rs) (he:Ext w w'):KidsS w' kv rs:=by
 obtain⟨vs,Fk,a,b,c⟩:=h
 exact⟨vs,Fk,a.ext he,b,fun i hi=>Ints.ext (c i hi) he⟩
theorem len_one {l:List Int} (h:l.length=1):l=[l.getD 0 0]:=by
 match l,h with
 |[x],_=>rfl
theorem slogic8_spec (a5:M.declOk ds=true) (hs:M.sortM ds t≠ -1) (a9:22<t.op) (a1:t.op≠24) (hn:n≤8) (hk:MkR n D w cs st) (hD:∀b,D b→b<w.heap.size) (ht:TermR Fx w tv t) (N:KidsS w kv rs) (ad:rs.length=t.ks.length) (hlen:∀i,i<t.ks.length→(rs.getD i []).length=M.lenS (M.sortM ds (M.kid t i))) (a6:∀r,r∈rs→SnL st r)
  (o:∀w' cs' st' r zs,Ext w w'→MkR n D w' cs' st'→Ints (New w) w' r zs→SnL st' zs→M.Bd.Out n (M.nodeB ds t rs) st st' zs→K (.tuple #[.agg ⟨cs'⟩,r]) w'):
  vcall PP Yq #[.agg ⟨cs⟩,tv,kv] w K:=by
 apply zS0
 obtain⟨kw,rfl,ab⟩:=ht
 obtain⟨aa,hp,ho⟩:=M.right_op hs
 obtain⟨q1,q2,q3,q4,q5,q6,q7⟩:=M.node_right a5 hs (L:=fun i=>(rs.getD i []).length) hlen
 refine Fm.start2 hk hD fun b4 b5 b8 w1 S a2 ac=>?_
 obtain⟨c1,z,f⟩:=S.call
 obtain⟨vs,j,g⟩:=(N.ext S.ext).vals
 have get:∀i,i<rs.length→SnL st (rs.getD i []):=fun i hi=>a6 _ (M.getD_mem hi [])
 simp(disch:=first|(simp only[push_cast];done)|omega) only[push_cast,a2.ld0]
 unfold M.nodeB at o
 rw[if_neg (by omega),if_neg (by omega),if_neg a1] at o
 refine zh (fun c=>?_) (fun G=>?_)
 ·rw[if_pos c] at o
  obtain⟨s,k⟩:=q7 (by omega)
  rw[if_pos c] at s
  have I:=k 0 (by omega)
  refine zw fun d a _=>?_
  have C:∀K:Value→World→Prop,zo PP zB kv (.int .i64 0) d K=K (.pointer (some (eaddr kv 1 0))) d:=fun K=>(j d a 0 (by omega) K).1
  have E:∀K:Value→World→Prop,zf PP zg (.pointer (some (eaddr kv 1 0))) d K=K (vs.getD 0 undef) d:=fun K=>(j d a 0 (by omega) K).2
  simp only[f d a,C,E,true_and]
  refine sturn7_spec (Ints.ext (g 0 (by omega)) a) (by omega) (get 0 (by omega)).sm fun Y r3 e m a4=>?_
  simp only[f Y (a.trans e),true_and,and_self]
  have z2:=a.size
  refine S.res (a.trans e) (z.ext (a.trans e) fun _ h _=>h) (kk m fun b hb=>by have:=a4 b hb;omega) fun R e4 l x=>o R c1 st r3 _ e4 l x (get 0 (by omega)).neg ?_
  rw[len_one I]
  exact M.Bd.Out.ret _ _
 rw[if_neg G] at o
 try simp only[push_cast]
 refine zh (fun c=>?_) (fun Z=>?_)
 ·rw[if_pos c] at o
  obtain⟨s,k⟩:=q7 (by omega)
  rw[if_neg G] at s
  have I:=k 0 (by omega)
  have a3:=k 1 (by omega)
  refine zw fun d a _=>?_
  have C:∀K:Value→World→Prop,zo PP zB kv (.int .i64 0) d K=K (.pointer (some (eaddr kv 1 0))) d:=fun K=>(j d a 0 (by omega) K).1
  have E:∀K:Value→World→Prop,zf PP zg (.pointer (some (eaddr kv 1 0))) d K=K (vs.getD 0 undef) d:=fun K=>(j d a 0 (by omega) K).2
  have T:∀K:Value→World→Prop,zo PP zB kv (.int .i64 1) d K=K (.pointer (some (eaddr kv 1 1))) d:=fun K=>(j d a 1 (by omega) K).1
  have U:∀K:Value→World→Prop,zf PP zg (.pointer (some (eaddr kv 1 1))) d K=K (vs.getD 1 undef) d:=fun K=>(j d a 1 (by omega) K).2
  have A:=Ints.ext (g 0 (by omega)) a
  have F:=Ints.ext (g 1 (by omega)) a
  simp(disch:=first|(simp only[push_cast];done)|omega) only[f d a,C,E,T,U,A.iaddr,A.load,F.iaddr,F.load,push_cast,true_and]
  have B:=S.grow a
  refine sand7_spec hn (z.ext a fun _ h _=>h) B.dl ((get 0 (by omega)).get (by omega)) ((get 1 (by omega)).get (by omega)) fun Y H y r e q v m=>?_
  simp only[push_cast,true_and]
  refine B.put e q fun R W a7 x=>?_
  try simp only[push_cast,true_and,and_self]
  obtain⟨c4,l,u⟩:=W.call
  simp only[u R (Same.refl _ _)]
  refine spec_one fun w5 rv p P O=>?_
  refine W.res p (l.ext p fun _ h _=>h) (kk P O) fun w6 e6 J Q=>o w6 c4 y rv [r] e6 J Q (SnL.one v) (qd m (M.Bd.Out.ret _ _))
 rw[if_neg Z] at o
 try simp only[push_cast]
 refine zh (fun c=>?_) (fun a0=>?_)
 ·rw[if_pos c] at o
  obtain⟨s,k⟩:=q7 (by omega)
  rw[if_neg G] at s
  have I:=k 0 (by omega)
  have a3:=k 1 (by omega)
  refine zw fun d a _=>?_
  have C:∀K:Value→World→Prop,zo PP zB kv (.int .i64 0) d K=K (.pointer (some (eaddr kv 1 0))) d:=fun K=>(j d a 0 (by omega) K).1
  have E:∀K:Value→World→Prop,zf PP zg (.pointer (some (eaddr kv 1 0))) d K=K (vs.getD 0 undef) d:=fun K=>(j d a 0 (by omega) K).2
  have T:∀K:Value→World→Prop,zo PP zB kv (.int .i64 1) d K=K (.pointer (some (eaddr kv 1 1))) d:=fun K=>(j d a 1 (by omega) K).1
  have U:∀K:Value→World→Prop,zf PP zg (.pointer (some (eaddr kv 1 1))) d K=K (vs.getD 1 undef) d:=fun K=>(j d a 1 (by omega) K).2
  have A:=Ints.ext (g 0 (by omega)) a
  have F:=Ints.ext (g 1 (by omega)) a
  simp(disch:=first|(simp only[push_cast];done)|omega) only[f d a,C,E,T,U,A.iaddr,A.load,F.iaddr,F.load,push_cast,true_and]
  have B:=S.grow a
  refine sor7_spec hn (z.ext a fun _ h _=>h) B.dl ((get 0 (by omega)).get (by omega)) ((get 1 (by omega)).get (by omega)) fun Y H y r e q v m=>?_
  simp only[push_cast,true_and]
  refine B.put e q fun R W a7 x=>?_
  try simp only[push_cast,true_and,and_self]
  obtain⟨c4,l,u⟩:=W.call
  simp only[u R (Same.refl _ _)]
  refine spec_one fun w5 rv p P O=>?_
  refine W.res p (l.ext p fun _ h _=>h) (kk P O) fun w6 e6 J Q=>o w6 c4 y rv [r] e6 J Q (SnL.one v) (M.Bd.Out.map _ m)
 have V:t.op=23:=by omega
 rw[if_neg a0,if_pos V] at o
 obtain⟨k1,l0,l1,l2,l3⟩:=q6 V
 refine zw fun d a _=>?_
 have C:∀K:Value→World→Prop,zo PP zB kv (.int .i64 0) d K=K (.pointer (some (eaddr kv 1 0))) d:=fun K=>(j d a 0 (by omega) K).1
 have E:∀K:Value→World→Prop,zf PP zg (.pointer (some (eaddr kv 1 0))) d K=K (vs.getD 0 undef) d:=fun K=>(j d a 0 (by omega) K).2
 have T:∀K:Value→World→Prop,zo PP zB kv (.int .i64 1) d K=K (.pointer (some (eaddr kv 1 1))) d:=fun K=>(j d a 1 (by omega) K).1
 have U:∀K:Value→World→Prop,zf PP zg (.pointer (some (eaddr kv 1 1))) d K=K (vs.getD 1 undef) d:=fun K=>(j d a 1 (by omega) K).2
 have A2:∀K:Value→World→Prop,zo PP zB kv (.int .i64 2) d K=K (.pointer (some (eaddr kv 1 2))) d:=fun K=>(j d a 2 (by omega) K).1
 have B2:∀K:Value→World→Prop,zf PP zg (.pointer (some (eaddr kv 1 2))) d K=K (vs.getD 2 undef) d:=fun K=>(j d a 2 (by omega) K).2
 have A:=Ints.ext (g 0 (by omega)) a
 have F:=Ints.ext (g 1 (by omega)) a
 have V2:=Ints.ext (g 2 (by omega)) a
 simp(disch:=first|(simp only[push_cast];done)|omega) only[f d a,C,E,T,U,A2,B2,A.iaddr,A.load,push_cast,true_and]
 have B:=S.grow a
 refine sifs7_spec hn (z.ext a fun _ h _=>h) B.dl F V2 (by omega) (by omega) (get 1 (by omega)) (get 2 (by omega)) ((get 0 (by omega)).get (by omega)) fun Y H y r zs e q v X a8 m=>?_
 simp only[push_cast,true_and]
 exact B.res e q (kk v X) fun R e4 l x=>o R H y r zs e4 l x a8 m
end Go.Proofs.YtaekfnbnhjgboaaGreatDoor
end
section
namespace Go.Proofs.YtaekfnbnhjgboaaGreatDoor
open Go Go.Vc Go.Proofs
variable {w:World} {K:Value→World→Prop} {D F Fx Fy Y S O O':Nat→Prop} {n b4 b8:Nat} {gs gs':M.Gs} {v v' nv xv yv sv dv tv kv:Value} {cs cs' ts:List Value} {st st':Option M.Gs} {a b c m x y r:Int} {xs ys:List Int} {ds:List M.Dcl} {t:M.Tm} {rs:List (List Int)}
theorem cutEq {lo hi:Nat} {kl kh:IntKind} (h:Ints F w v xs) (k:lo≤hi) (j:hi≤xs.length):∃v',(∀(w':World) (K:Value→World→Prop),yA PP zg v (some (.int kl lo)) (some (.int kh hi)) none w' K=K v' w')∧Ints F w v' ((xs.drop lo).take (hi-lo)):=by
 have d:elB PP zg 1=true:=Vh
 obtain⟨hu,hs⟩:=z30 d
 have hlen:((xs.drop lo).take (hi-lo)).length=hi-lo:=by rw[List.length_take,List.length_drop];omega
 obtain⟨a,c,rfl,g,i,b⟩:=h.shape
 rw[List.length_map,List.length_map] at g
 refine⟨sliced a lo hi c 1,fun w' K=>yB ?_,?_⟩
 ·rw[List.length_map,List.length_map,run_sliceAt_slice w' zg _ _ _ _ hu,run_slice_lh w' zg _ _ _ hu kl kh lo hi (by omega) (by omega) (by omega),Go.Vc.run_sizeOf hs]
  simp[Result.andThen]
 ·have key:=Ints.cutLH (P:=PP) (t:=zg) (kl:=kl) (kh:=kh) (w':=w) (K:=fun v' w'=>v'=sliced a lo hi c 1→Ints F w v' ((xs.drop lo).take (hi-lo))) h d k j fun v' f _=>f
  rw[List.length_map,List.length_map] at key
  have e:yA PP zg (.slice a xs.length c) (some (.int kl lo)) (some (.int kh hi)) none w (fun v' w'=>v'=sliced a lo hi c 1→Ints F w v' ((xs.drop lo).take (hi-lo)))=(sliced a lo hi c 1=sliced a lo hi c 1→Ints F w (sliced a lo hi c 1) ((xs.drop lo).take (hi-lo))):=yB (by
   rw[run_sliceAt_slice w zg _ _ _ _ hu,run_slice_lh w zg _ _ _ hu kl kh lo hi (by omega) (by omega) (by omega),Go.Vc.run_sizeOf hs]
   simp[Result.andThen]
   rfl)
  rw[e] at key
  exact key rfl
theorem kd0 (ps:List (M.Bd (List Int))) (p:M.Bd (List Int)):M.seqB (ps++[p])=(M.seqB ps).bind fun rs=>p.map fun r=>rs++[r]:=by
 induction ps with
 |nil=>rfl
 |cons q ps a=>
  show(q.bind fun r=>(M.seqB (ps++[p])).map (r:: ·))=((q.bind fun r=>(M.seqB ps).map (r:: ·)).bind fun rs=>p.map fun r=>rs++[r])
  rw[M.Bd.bind_assoc]
  congr 1
  funext r
  rw[a]
  unfold M.Bd.map
  rw[M.Bd.bind_assoc,M.Bd.bind_assoc]
  congr 1
  funext rs
  rw[M.Bd.bind_assoc]
  rfl
theorem jb0 {ps:List (M.Bd (List Int))} {p:M.Bd (List Int)} {st a st2:Option M.Gs} {rs:List (List Int)} {r:List Int} (h:M.Bd.Out n (M.seqB ps) st a rs) (b:M.Bd.Out n p a st2 r):M.Bd.Out n (M.seqB (ps++[p])) st st2 (rs++[r]):=by
 rw[kd0]
 exact M.Bd.Out.bind h (M.Bd.Out.map _ b)
theorem ks_few (hs:M.sortM ds t≠ -1):t.ks.length≤3:=by
 obtain⟨a,c,b⟩:=M.right_op hs
 have h:M.arity t.op≤3:=by
  unfold M.arity;repeat' split
  all_goals omega
 omega
theorem sdo8_spec (ac:M.declOk ds=true) (hn:n≤8):∀(t:M.Tm),M.sortM ds t≠ -1→∀{w:World} {K:Value→World→Prop} {D:Nat→Prop} {cs:List Value} {st:Option M.Gs} {tv:Value} {Fd Ft:Nat→Prop},MkR n D w cs st→(∀b,D b→b<w.heap.size)→DclsR Fd w dv ds→TermR Ft w tv t→
  (∀w' cs' st' r zs,Ext w w'→MkR n D w' cs' st'→Ints (New w) w' r zs→SnL st' zs→M.Bd.Out n (M.termB ds t) st st' zs→K (.tuple #[.agg ⟨cs'⟩,r]) w')→
  vcall PP Xb #[.agg ⟨cs⟩,dv,tv] w K:=by
 refine M.Tm.ind fun t ih hs w K D cs st tv Fd Ft hk hD ay ht hK=>?_
 obtain⟨kw,rfl,bz⟩:=ht
 apply qR0
 have ci:=ks_few hs
 refine Fm.start2 hk hD fun b4 b5 b8 w1 h1 aw c8=>?_
 refine qg qD0 jV0 fun b6 w2 cq az cx bp=>?_
 have c9:OwnV PP zB w2 (.slice (some ⟨b6,0,none⟩) 0 0) []:=Blk.own1 (P:=PP) (t:=zB) (cs:=[]) (by rw[jm0];exact bp) (Nat.zero_le _) rfl rfl (by omega)
 have h2:Fm n D (O1 (.slice (some ⟨b6,0,none⟩) 0 0)) w b4 b8 w2 st:=h1.own (S:=fun _=>False) az (fun b l=>l) fun b l=>by
  have e:b6=b:=Option.some.inj l
  exact⟨by omega,.inr (by omega)⟩
 have ct:=aw.lt
 have bs:TmsR (Low w) w kw t.ks:=bz.weaken fun b _ hl=>hl
 refine vloop_up t.ks.length (fun i u w'=> ∃kv E vs rs,u=[kv,.int .i64 i]∧Fm n D (O1 kv) w b4 b8 w' E∧Blk w' b5 [.int .i64 t.op,.int .i64 t.a,.int .i64 t.b,.string t.s,kw] zd∧(∀b,kv.ownBlock=some b→b≠b5)∧OwnV PP zB w' kv vs∧vs.length=i∧rs.length=i∧
  (∀j,j<i→Ints (Kp b4 b8 (O1 kv)) w' (vs.getD j undef) (rs.getD j []))∧(∀r,r∈rs→SnL E r)∧M.Bd.Out n (M.seqB ((t.ks.take i).map (M.termB ds))) st E rs)
  ⟨_,st,[],[],rfl,h2,aw.ext az,fun b l=>by have e:b6=b:=Option.some.inj l;omega,c9,rfl,rfl,fun j hj=>absurd hj (by omega),(fun r hr=>by cases hr),M.Bd.Out.ret _ _⟩ ?_
 rintro i _ g w3 C hi ⟨kv,E,vs,rs,rfl,T,m,bb,ao,av,be,hint,au,ae⟩ hC
 have al:TmsR (Low w) w3 kw t.ks:=bs.ext T.ext
 simp(disch:=first|(simp only[push_cast];done)|omega) only[push_cast,m.ld4,al.len]
 refine zh (fun a=>?_) (fun a=>?_)
 ·have N:i<t.ks.length:=by omega
  refine spec_nil fun vz f bj e4 cj=>?_
  refine zw fun R p _=>?_
  have y:=e4.trans p
  have h5:=T.grow y
  have V:=m.ext y
  have ax:=al.ext y
  obtain⟨c5,z,b3⟩:=h5.call
  simp(disch:=first|(simp only[push_cast];done)|omega) only[push_cast,V.ld4,ax.iaddr,b3 R (Same.refl _ _),true_and]
  refine ax.load zN N fun x hx=>?_
  simp only[push_cast,true_and]
  have I:t.ks.getD i default∈t.ks:=M.getD_mem N _
  refine ih _ I ((M.sort_parts hs).2.1 _ I) z h5.dl (ay.ext h5.ext) hx fun w6 cn bl r zs a9 A F bi ab=>?_
  simp only[push_cast,true_and]
  refine h5.put a9 A fun w7 h7 ad bk=>?_
  try simp only[push_cast,true_and,and_self]
  have l5:=h5.lt4
  have ar:Ints (Kp b4 b8 (O1 kv)) w7 r zs:=Ints.same (Ints.weaken (F':=Kp b4 b8 (O1 kv)) F fun b l _=>by
   have cp:R.heap.size≤b:=l
   exact⟨by omega,by omega,fun hO=>by have:=(h5.off b hO).1;omega⟩) ad fun b l _ e=>l.1 e
  have ap:OwnV PP zB w7 kv vs:=((ao.ext y).ext a9).same ad fun b l=>(T.off b l).2.2.1
  have bq:=(V.ext a9).same ad (fun e=>c8.2.1 e)
  have am:∀j,j<i→Ints (Kp b4 b8 (O1 kv)) w7 (vs.getD j undef) (rs.getD j []):=fun j hj=>Ints.kp4 (Ints.ext (Ints.ext (hint j hj) y) a9) ad
  refine yj qD0 jV0 jU0 rfl (Sl.cells1 ar) fun b9 w9 cr aa cy br=>?_
  refine(ap.ext aa).app1 UR br (Sl.one ar) (by omega) (by omega) fun v10 w10 ai a0 Y=>?_
  try simp(disch:=omega) only[push_cast,zH]
  have bo:Fm n D (O1 v10) w b4 b8 w10 bl:=(h7.grow aa).own a0 (fun b l=>l) fun b l=>⟨ai.lt l,Y b l⟩
  have b2:∀{xv:Value} {xs:List Int},Ints (Kp b4 b8 (O1 kv)) w7 xv xs→Ints (Kp b4 b8 (O1 v10)) w10 xv xs:=fun h=>Ints.kpO (Ints.ext h aa) a0 (fun b l=>l) fun b l=>Y b l
  have ag:=bq.ext aa
  have cu:=ag.lt
  refine hC N _ _ ⟨v10,bl,vs++[r],rs++[zs],by simp,bo,ag.same a0 (fun e=>bb _ e rfl),fun b l=>(Y b l).elim (bb b) fun h=>by omega,ai,by simp[av],by simp[be],fun j hj=>?_,fun q hq=>?_,?_⟩
  ·by_cases c:j<i
   ·rw[Uz (by omega),Uz (by omega)]
    exact b2 (am j c)
   ·have:j=i:=by omega
    subst this
    rw[UA av,UA be]
    exact b2 ar
  ·rcases List.mem_append.1 hq with h|h
   ·exact(au q h).out ab
   ·rw[List.mem_singleton.1 h];exact bi
  ·rw[M.take_add N default,List.map_append]
   exact jb0 ae ab
 have N:i=t.ks.length:=by omega
 subst N
 rw[List.take_length] at ae
 obtain⟨bf,cc⟩:=M.seq_reach ae.reach
 have hlen:∀j,j<t.ks.length→(rs.getD j []).length=M.lenS (M.sortM ds (M.kid t j)):=fun j hj=>by
  have I:t.ks.getD j default∈t.ks:=M.getD_mem hj _
  have:=M.term_len ac _ ((M.sort_parts hs).2.1 _ I) (cc j hj)
  rw[this];rfl
 have W:KidsS w3 kv rs:=⟨vs,_,ao.vals,by omega,fun j hj=>Ints.weaken (hint j (by omega)) fun _ _ _=>trivial⟩
 have fin:∀{af:Option M.Gs} {zs:List Int},M.Bd.Out n (M.nodeB ds t rs) E af zs→M.Bd.Out n (M.termB ds t) st af zs:=fun h=>by
  rw[M.termB_eq];exact M.Bd.Out.bind ae h
 have a6:∀w',Ext w3 w'→TermR (Low w) w' (.agg ⟨[.int .i64 t.op,.int .i64 t.a,.int .i64 t.b,.string t.s,kw]⟩) t:=fun w' he=>⟨kw,rfl,al.ext he⟩
 obtain⟨c3,O,k⟩:=T.call
 have X:∀(w':World) (K:Value→World→Prop),vbi PP .len [zB] ze [kv] w' K=K (.int .i64 t.ks.length) w':=fun w' K=>by rw[ao.vals.len YP0,av]
 rw[X]
 simp only[push_cast]
 obtain⟨co,hp,cw⟩:=M.right_op hs
 obtain⟨q1,q2,q3,q4,q5,q6,q7⟩:=M.node_right ac hs (L:=fun i=>(rs.getD i []).length) hlen
 have get:∀i,i<rs.length→SnL E (rs.getD i []):=fun i hi=>au _ (M.getD_mem hi [])
 refine zh (fun c0=>?_) (fun c0=>?_)
 ·have h0:t.ks.length=0:=by omega
  refine zw fun f d _=>?_
  have o:=m.ext d
  simp(disch:=first|(simp only[push_cast];done)|omega) only[push_cast,k f d,o.ldAgg (t:=zd) zN,true_and]
  refine sleaf8_spec (n:=n) (st:=E) ac hs h0 (ay.ext (T.ext.trans d)) (a6 f d) fun R r zs p B J G aq=>?_
  simp only[k R (d.trans p),true_and,and_self]
  have z4:=d.size
  refine T.res (d.trans p) (O.ext (d.trans p) fun _ h _=>h) (kk B fun b l=>by have:=J b l;omega) fun w6 e6 A F=>hK w6 c3 E r zs e6 A F G (fin ?_)
  have:rs=[]:=List.length_eq_zero_iff.1 (by omega)
  rw[this];exact aq
 have bc: ¬(t.op=20∨t.op=21∨t.op=24):=fun h=>by
  have:M.arity t.op=0:=by rcases h with h|h|h<;>rw[h]<;>decide
  omega
 obtain⟨H,U,Q⟩:=W.vals
 simp(disch:=first|(simp only[push_cast];done)|omega) only[push_cast,m.ld0]
 refine zh (fun c=>?_) (fun cm=>?_)
 ·obtain⟨k1,b0,ba,aL,L4⟩:=q5 c
  have cl:t.a<((rs.getD 0 []).length:Int):=aL
  have ck:(rs.getD 0 []).length≤4:=L4
  refine zw fun f d _=>?_
  have o:=m.ext d
  have A0:∀w',Ext w3 w'→∀K:Value→World→Prop,zo PP zB kv (.int .i64 0) w' K=K (.pointer (some (eaddr kv 1 0))) w':=fun w' he K=>(U w' he 0 (by omega) K).1
  have B0:∀w',Ext w3 w'→∀K:Value→World→Prop,zf PP zg (.pointer (some (eaddr kv 1 0))) w' K=K (H.getD 0 undef) w':=fun w' he K=>(U w' he 0 (by omega) K).2
  obtain⟨cv,bu,bt⟩:=cutEq (kl:= .i64) (kh:= .i64) (lo:=t.b.toNat) (hi:=(t.a+1).toNat) (Q 0 (by omega)) (by omega) (by omega)
  have ah:∀(w':World) (K:Value→World→Prop),yA PP zg (H.getD 0 undef) (some (.int .i64 t.b)) (some (.int .i64 (t.a+1))) none w' K=K cv w':=fun w' K=>by
   have:=bu w' K
   rwa[show((t.b.toNat:Nat):Int)=t.b by omega,show(((t.a+1).toNat:Nat):Int)=t.a+1 by omega] at this
  simp(disch:=first|(simp only[push_cast];done)|omega) only[push_cast,k f d,A0 f d,B0 f d,o.ld1,o.ld2,zH,ah,true_and]
  refine spec_nil fun v5 R B e5 J=>?_
  have y:=d.trans e5
  have V:=o.ext e5
  simp(disch:=first|(simp only[push_cast];done)|omega) only[push_cast,k R y,A0 R y,B0 R y,V.ld1,V.ld2,zH,ah,true_and,and_self]
  refine B.app Y6 (Ints.ext bt y) (by simp;omega) (by simp;omega) fun v6 w6 ab bg c4=>?_
  have z4:=d.size;have z5:=e5.size
  have ak:Ext f w6:=Ext.then e5 bg fun b l=>J b l
  simp(disch:=first|(simp only[push_cast];done)|omega) only[push_cast,k w6 (d.trans ak),true_and,and_self]
  refine T.res (d.trans ak) (O.ext (d.trans ak) fun _ h _=>h) (kk ab fun b l=>(c4 b l).elim (fun h=>by have:=J b h;omega) fun h=>by omega) fun w7 e7 bw bk=>hK w7 c3 E v6 _ e7 bw bk (fun x hx=>?_) (fin ?_)
  ·rw[List.nil_append] at hx
   exact get 0 (by omega) x (List.mem_of_mem_drop (List.mem_of_mem_take hx))
  ·rw[List.nil_append]
   unfold M.nodeB
   rw[if_neg (by omega),if_neg (by omega),if_neg (by omega),if_neg (by omega),if_neg (by omega),if_neg (by omega),if_neg (by omega),if_pos c,show(t.a-t.b+1).toNat=(t.a+1).toNat-t.b.toNat by omega]
   exact M.Bd.Out.ret _ _
 try simp(disch:=first|(simp only[push_cast];done)|omega) only[push_cast,m.ld0]
 refine zh (fun c=>?_) (fun cg=>?_)
 ·simp(disch:=first|(simp only[push_cast];done)|omega) only[push_cast,k w3 (Same.refl _ _),m.ldAgg (t:=zd) zN]
  refine slogic8_spec ac hs (by omega) (fun h=>bc (.inr (.inr h))) hn O T.dl (a6 w3 (Same.refl _ _)) W bf hlen au fun f bn af r zs d bv bj bh ca=>?_
  simp only[push_cast]
  exact T.res d bv bj fun R e5 z G=>hK R bn af r zs e5 z G bh (fin ca)
 have an:M.nodeB ds t rs=if t.op≤2 then M.unB t.op (rs.getD 0 []) else if 15≤t.op∧t.op≤17 then(M.cmpB t.op (rs.getD 0 []) (rs.getD 1 [])).map fun v=>[v] else M.binB t.op (rs.getD 0 []) (rs.getD 1 []):=by
  unfold M.nodeB
  rw[if_neg (by omega),if_neg (by omega),if_neg (by omega),if_neg (by omega),if_neg (by omega),if_neg (by omega),if_neg (by omega),if_neg (by omega)]
 rw[an] at fin
 rw[X]
 simp only[push_cast]
 refine zh (fun c1=>?_) (fun c1=>?_)
 ·have Z:t.op≤2:=Classical.byContradiction fun h=>by
   by_cases aj:15≤t.op
   ·have:=(q4 aj (by omega)).1;omega
   ·by_cases bm:t.op=14
    ·have:=(q3 bm).1;omega
    ·have:=(q2 (by omega) (by omega)).1;omega
  rw[if_pos Z] at fin
  obtain⟨k1,l1,l4⟩:=q1 (by omega) Z
  have ch:(rs.getD 0 []).length≤4:=l4
  refine zw fun f d _=>?_
  have o:=m.ext d
  have A0:∀K:Value→World→Prop,zo PP zB kv (.int .i64 0) f K=K (.pointer (some (eaddr kv 1 0))) f:=fun K=>(U f d 0 (by omega) K).1
  have B0:∀K:Value→World→Prop,zf PP zg (.pointer (some (eaddr kv 1 0))) f K=K (H.getD 0 undef) f:=fun K=>(U f d 0 (by omega) K).2
  simp(disch:=first|(simp only[push_cast];done)|omega) only[push_cast,k f d,A0,B0,o.ld0,true_and]
  have h4:=T.grow d
  refine sun7_spec (by omega) hn (O.ext d fun _ h _=>h) h4.dl (Ints.ext (Q 0 (by omega)) d) (by omega) (get 0 (by omega)) fun R a8 a7 r zs p z G a5 B=>?_
  simp only[push_cast,true_and]
  exact h4.res p z G fun w6 e6 A F=>hK w6 a8 a7 r zs e6 A F a5 (fin B)
 have bd:3≤t.op:=Classical.byContradiction fun h=>by have:=(q1 (by omega) (by omega)).1;omega
 rw[if_neg (by omega)] at fin
 try simp(disch:=first|(simp only[push_cast];done)|omega) only[push_cast,m.ld0]
 refine zh (fun aj=>?_) (fun aj=>?_)
 ·rw[if_pos (by omega)] at fin
  obtain⟨k1,l0,l1,l4⟩:=q4 (by omega) (by omega)
  have ce:(rs.getD 0 []).length=(rs.getD 1 []).length:=l0
  have cf:1≤(rs.getD 0 []).length:=l1
  have ch:(rs.getD 0 []).length≤4:=l4
  refine zw fun f d _=>?_
  have o:=m.ext d
  have A0:∀K:Value→World→Prop,zo PP zB kv (.int .i64 0) f K=K (.pointer (some (eaddr kv 1 0))) f:=fun K=>(U f d 0 (by omega) K).1
  have B0:∀K:Value→World→Prop,zf PP zg (.pointer (some (eaddr kv 1 0))) f K=K (H.getD 0 undef) f:=fun K=>(U f d 0 (by omega) K).2
  have A1:∀K:Value→World→Prop,zo PP zB kv (.int .i64 1) f K=K (.pointer (some (eaddr kv 1 1))) f:=fun K=>(U f d 1 (by omega) K).1
  have B1:∀K:Value→World→Prop,zf PP zg (.pointer (some (eaddr kv 1 1))) f K=K (H.getD 1 undef) f:=fun K=>(U f d 1 (by omega) K).2
  simp(disch:=first|(simp only[push_cast];done)|omega) only[push_cast,k f d,A0,B0,A1,B1,o.ld0,true_and]
  have h4:=T.grow d
  refine scmp7_spec (by omega) (by omega) hn (O.ext d fun _ h _=>h) h4.dl (Ints.ext (Q 0 (by omega)) d) (Ints.ext (Q 1 (by omega)) d) ce cf (by omega) (get 0 (by omega)) (get 1 (by omega)) fun R a8 a7 r p z cb B=>?_
  simp only[push_cast,true_and]
  refine h4.put p z fun w6 h6 bg F=>?_
  try simp only[push_cast,true_and,and_self]
  obtain⟨c6,A,b7⟩:=h6.call
  simp only[b7 w6 (Same.refl _ _)]
  refine spec_one fun w7 rv b1 ap c7=>?_
  exact h6.res b1 (A.ext b1 fun _ h _=>h) (kk ap c7) fun w8 e8 bx cd=>hK w8 c6 a7 rv [r] e8 bx cd (SnL.one cb) (fin (M.Bd.Out.map _ B))
 rw[if_neg (by omega)] at fin
 have c2:t.ks.length=2∧(t.op≠14→(rs.getD 0 []).length=(rs.getD 1 []).length)∧1≤(rs.getD 0 []).length∧(rs.getD 0 []).length≤8∧(rs.getD 1 []).length≤8:=by
  by_cases c:t.op=14
  ·obtain⟨a1,a2,a3,a4⟩:=q3 c
   exact⟨a1,fun h=>absurd c h,a2,by omega,by omega⟩
  ·obtain⟨a1,a2,a3,a4⟩:=q2 (by omega) (by omega)
   exact⟨a1,fun _=>a2,a3,by omega,by omega⟩
 obtain⟨k1,l0,l1,l2,l3⟩:=c2
 refine zw fun f d _=>?_
 have o:=m.ext d
 have A0:∀K:Value→World→Prop,zo PP zB kv (.int .i64 0) f K=K (.pointer (some (eaddr kv 1 0))) f:=fun K=>(U f d 0 (by omega) K).1
 have B0:∀K:Value→World→Prop,zf PP zg (.pointer (some (eaddr kv 1 0))) f K=K (H.getD 0 undef) f:=fun K=>(U f d 0 (by omega) K).2
 have A1:∀K:Value→World→Prop,zo PP zB kv (.int .i64 1) f K=K (.pointer (some (eaddr kv 1 1))) f:=fun K=>(U f d 1 (by omega) K).1
 have B1:∀K:Value→World→Prop,zf PP zg (.pointer (some (eaddr kv 1 1))) f K=K (H.getD 1 undef) f:=fun K=>(U f d 1 (by omega) K).2
 simp(disch:=first|(simp only[push_cast];done)|omega) only[push_cast,k f d,A0,B0,A1,B1,o.ld0,true_and]
 have h4:=T.grow d
 refine sbin7_spec bd (by omega) hn (O.ext d fun _ h _=>h) h4.dl (Ints.ext (Q 0 (by omega)) d) (Ints.ext (Q 1 (by omega)) d) l0 l1 l2 l3 (get 0 (by omega)) (get 1 (by omega)) fun R a8 a7 r zs p z G a5 B=>?_
 simp only[push_cast,true_and]
 exact h4.res p z G fun w6 e6 A F=>hK w6 a8 a7 r zs e6 A F a5 (fin B)
end Go.Proofs.YtaekfnbnhjgboaaGreatDoor
end
section
namespace Go.Proofs.YtaekfnbnhjgboaaGreatDoor
open Go Go.Vc Go.Proofs
variable {w:World} {K:Value→World→Prop} {D F Fx Fy Y S O O':Nat→Prop} {n b4 b8:Nat} {gs gs':M.Gs} {v v' nv xv yv sv dv tv kv:Value} {cs cs' ts:List Value} {st st':Option M.Gs} {a b c m x y r:Int} {xs ys:List Int} {ds:List M.Dcl} {t:M.Tm} {rs:List (List Int)}
theorem bits_nat (a:M.declOk ds=true):M.bits ds=(((M.bits ds).toNat:Nat):Int)∧(M.bits ds).toNat≤8:=by
 have c:=(M.decl_iff.1 a).2.2
 have b:=(dcl_small a (i:=ds.length) (Nat.le_refl _)).1
 rw[M.bitT_all] at b
 exact⟨by omega,by omega⟩
theorem out_lens {zs:List Int} (b:M.declOk ds=true) (hs:M.sortM ds t≠ -1) (c:M.Bd.Out n (M.termB ds t) st st' zs):zs.length=M.lenS (M.sortM ds t)∧zs.length≤4:=by
 have a:=M.term_len b t hs c.reach
 have d:=M.sort_range b t
 refine⟨a,?_⟩
 rw[a];unfold M.lenS;omega
end Go.Proofs.YtaekfnbnhjgboaaGreatDoor
end
section
namespace Go.M
open Go.Vc
mutual
def sameT:Tm→Tm→Bool
 | .mk o a b s ks,.mk o' a' b' s' ks'=>decide (o=o')&&decide (a=a')&&decide (b=b')&&decide (s=s')&&sameL ks ks'
def sameL:List Tm→List Tm→Bool
 |[],[]=>true
 |x::xs,y::ys=>sameT x y&&sameL xs ys
 |[],_::_=>false
 |_::_,[]=>false
end
theorem ZG0 {xs:List Tm} (a:∀k,k∈xs→∀y,sameT k y=true↔k=y):∀ys,sameL xs ys=true↔xs=ys:=by
 induction xs with
 |nil=>intro ys;cases ys<;>simp[sameL]
 |cons x xs ihx=>
  intro ys
  cases ys with
  |nil=>simp[sameL]
  |cons y ys=>
   rw[sameL,Bool.and_eq_true,a x List.mem_cons_self,ihx (fun k b=>a k (List.mem_cons_of_mem _ b)),List.cons.injEq]
theorem ke0:∀t u:Tm,sameT t u=true↔t=u:=by
 refine Tm.ind fun t c u=>?_
 cases t with
 |mk o a b s ks=>
  cases u with
  |mk o' e f g d=>
   rw[sameT,Bool.and_eq_true,ZG0 (xs:=ks) c]
   simp only[Bool.and_eq_true,decide_eq_true_eq,Tm.mk.injEq,and_assoc]
instance:DecidableEq Tm:=fun t u=>decidable_of_iff _ (ke0 t u)
def truT:Tm:= .mk 24 0 0 nada []
def flsT:Tm:= .mk 25 0 0 nada [truT]
def Yu0 (t:Tm):Option Int:=if t=truT then some 1 else if t=flsT then some 0 else if t.op=20∧t.ks=[]∧t.s=nada∧vok t.a t.b=true then some t.b else none
def isM (t:Tm) (n:Int):Bool:=decide (Yu0 t=some n)
def xZ0 (w n:Int):Tm:=if 0<w then .mk 20 w n nada [] else if n=1 then truT else flsT
def YC0 (ds:List Dcl):List Int:=List.replicate ds.length 0
theorem zeroE_ok {ds:List Dcl} (h:declOk ds=true):Uj ds (YC0 ds)=true:=by
 unfold Uj YC0
 rw[h,List.length_replicate]
 simp only[decide_true,Bool.true_and,List.all_eq_true,List.mem_range]
 intro i hi
 have hw:=dcl_wide h hi
 have:(List.replicate ds.length (0:Int)).getD i 0=0:=by simp[List.getD_eq_getElem?_getD,List.getElem?_replicate,hi]
 rw[this,vok_iff]
 exact⟨hw.1,hw.2,Int.le_refl _,Int.pow_pos (by decide)⟩
section
variable {ds:List Dcl} {env:List Int} {t u:Tm} {w n:Int}
def Yc0 (t:Tm):Bool:=decide (t.ks≠[])&&t.ks.all fun k=>(Yu0 k).isSome
def ruleX (ds:List Dcl) (t:Tm):Option Tm:=if Yc0 t=true then some (xZ0 (sortM ds t) (kL ds (YC0 ds) t)) else none
def ruleB (t:Tm):Option Tm:=
 if t.op=25∧(kid t 0).op=25 then some (kid (kid t 0) 0)
 else if t.op≠23 then none
 else if isM (kid t 0) 1=true then some (kid t 1)
 else if isM (kid t 0) 0=true then some (kid t 2)
 else if kid t 1=kid t 2 then some (kid t 1) else none
def UM (o:Int):Int:=if o=26 then 1 else 0
def ruleT (t:Tm):Option Tm:=
 if t.op=26∨t.op=27 then
  if isM (kid t 0) (UM t.op)=true∨kid t 0=kid t 1 then some (kid t 1)
  else if isM (kid t 1) (UM t.op)=true then some (kid t 0)
  else if isM (kid t 0) (1-UM t.op)=true∨isM (kid t 1) (1-UM t.op)=true then some (xZ0 0 (1-UM t.op)) else none
 else none
def ruleL (ds:List Dcl) (t:Tm):Option Tm:=
 if t.op=22 then(if t.b=0∧t.a=sortM ds (kid t 0)-1 then some (kid t 0) else none)
 else if(t.op=1∨t.op=2)∧(kid t 0).op=t.op then some (kid (kid t 0) 0) else none
def ruleW (ds:List Dcl) (t:Tm):Option Tm:=
 if t.ks.length=2∧kid t 0=kid t 1 then
  if t.op=3∨t.op=4 then some (kid t 0)
  else if t.op=5∨t.op=7 then some (xZ0 (sortM ds t) 0)
  else if t.op=15 then some (xZ0 0 1)
  else if t.op=16∨t.op=17 then some (xZ0 0 0) else none
 else none
def ruleS (t:Tm):Option Tm:=
 if t.ks.length=2 then
  if isM (kid t 1) 0=true∧(t.op=4∨t.op=5∨t.op=6∨t.op=7∨t.op=11∨t.op=12∨t.op=13) then some (kid t 0)
  else if isM (kid t 1) 0=true∧(t.op=3∨t.op=8) then some (kid t 1)
  else if isM (kid t 1) 1=true∧t.op=8 then some (kid t 0) else none
 else none
def ruleF (t:Tm):Option Tm:=
 if t.ks.length=2 then
  if isM (kid t 0) 0=true∧(t.op=4∨t.op=5∨t.op=6) then some (kid t 1)
  else if isM (kid t 0) 0=true∧(t.op=3∨t.op=8) then some (kid t 0)
  else if isM (kid t 0) 1=true∧t.op=8 then some (kid t 1) else none
 else none
def binT (w n:Nat):Prop:=
 (binN 3 w n n=n∧binN 4 w n n=n∧binN 5 w n n=0∧binN 7 w n n=0)∧
 (binN 4 w n 0=n∧binN 5 w n 0=n∧binN 6 w n 0=n∧binN 7 w n 0=n∧binN 11 w n 0=n∧binN 12 w n 0=n∧binN 13 w n 0=n)∧
 (binN 3 w n 0=0∧binN 8 w n 0=0∧binN 8 w n 1=n)∧
 (binN 4 w 0 n=n∧binN 5 w 0 n=n∧binN 6 w 0 n=n∧binN 3 w 0 n=0∧binN 8 w 0 n=0∧binN 8 w 1 n=n)
instance (w n:Nat):Decidable (binT w n):=by unfold binT;infer_instance
end
end Go.M
end
section
namespace Go.M
def allI (n:Nat) (p:Nat→Bool):Bool:=(List.range n).all p
def zu0 (m l:Int):Bool:=decide (l≠0∧ -m≤l∧l≤m)
def Zq (m:Int) (xs:List Int):Bool:=allI xs.length fun k=>zu0 m (xs.getD k 0)&&(k==0||decide ((xs.getD (k-1) 0).natAbs<(xs.getD k 0).natAbs))
structure Cnf where
 many:Int
 list:List (List Int)
structure Sat where
 put:List Int
 why:List Int
 learned:List (List Int)
 code:Int
def cnfOk (c:Cnf):Bool:=decide (0≤c.many)&&decide (c.many≤700)&&decide (c.list.length≤2500)&&allI c.list.length fun k=>Zq c.many (c.list.getD k [])
end Go.M
namespace Go.M
theorem yu0 {α:Type} {a b:List α} {d:α} {k:Nat} (h:k<a.length):(a++b).getD k d=a.getD k d:=by
 simp[List.getD_eq_getElem?_getD,List.getElem?_append_left h]
end Go.M
namespace Go.M
end Go.M
namespace Go.M
end Go.M
namespace Go.M
end Go.M
namespace Go.M
theorem ju0 {α:Type} {xs:List α} {d:α} {i:Nat} (h:i<xs.length):xs.take (i+1)=xs.take i++[xs.getD i d]:=by
 rw[List.take_add_one];simp[List.getD_eq_getElem?_getD,h]
end Go.M
namespace Go.M
end Go.M
end
section
namespace Go.M
def gateC (k:Int) (g:Gt):List (List Int):=if g.x then[[g.a,g.b,-k],[-g.a,-g.b,-k],[-g.a,g.b,k],[g.a,-g.b,k]] else[[g.a,-k],[g.b,-k],[-g.a,-g.b,k]]
def gatesC (n:Nat):Gs→Nat→List (List Int)
 |[],_=>[]
 |g::gs,i=>gateC (2+n+i) g++gatesC n gs (i+1)
def netC (n:Nat) (gs:Gs) (xs:List (List Int)):Cnf:=⟨1+n+gs.length,[1]::(gatesC n gs 0++xs)⟩
theorem mem_gates {n:Nat} {cl:List Int}:∀{gs:Gs} {i0:Nat},cl∈gatesC n gs i0↔ ∃i,∃h:i<gs.length,cl∈gateC (2+n+(i0+i:Nat)) gs[i]
 |[],i0=>by simp[gatesC]
 |g::gs,i0=>by
  simp only[gatesC,List.mem_append,mem_gates (gs:=gs)]
  constructor
  ·rintro(h|⟨i,hi,h⟩)
   ·exact⟨0,by simp,by simpa using h⟩
   ·refine⟨i+1,by simpa using hi,?_⟩
    rw[show i0+(i+1)=i0+1+i by omega];simpa using h
  ·rintro⟨i,hi,h⟩
   cases i with
   |zero=>exact .inl (by simpa using h)
   |succ i=>
    refine .inr ⟨i,by simpa using hi,?_⟩
    rw[show i0+1+i=i0+(i+1) by omega];simpa using h
theorem absI_nat (a:Int):absI a=(a.natAbs:Int):=by unfold absI;split<;>omega
theorem ja0 {α:Type} {a b:List α} {i:Nat} {d:α} (h:a<+:b) (hi:i<a.length):b.getD i d=a.getD i d:=by
 obtain⟨t,rfl⟩:=h
 rw[List.getD_eq_getElem?_getD,List.getElem?_append_left hi,←List.getD_eq_getElem?_getD]
theorem Zy0 {ins:List Bool} {gs:Gs} {i:Nat} (hi:i<ins.length):(valsG (true::ins) gs).getD (i+1) false=ins.getD i false:=by
 rw[ja0 (valsG_pre gs (true::ins)) (by simpa using hi),List.getD_cons_succ]
theorem ka0 {ins:List Bool} {gs:Gs}:(valsG (true::ins) gs).getD 0 false=true:=by
 rw[ja0 (valsG_pre gs (true::ins)) (by simp)];rfl
theorem gatesC_len {n:Nat}:∀(gs:Gs) (i:Nat),(gatesC n gs i).length≤4*gs.length
 |[],_=>by simp[gatesC]
 |g::gs,i=>by
  have:=gatesC_len (n:=n) gs (i+1)
  simp only[gatesC,List.length_append,List.length_cons]
  have:(gateC (2+n+i) g).length≤4:=by unfold gateC;split<;>simp
  omega
theorem clause_iff {m:Int} {xs:List Int}:Zq m xs=true↔ ∀k,k<xs.length→zu0 m (xs.getD k 0)=true∧(k=0∨(xs.getD (k-1) 0).natAbs<(xs.getD k 0).natAbs):=by
 unfold Zq allI
 simp only[List.all_eq_true,List.mem_range,Bool.and_eq_true,Bool.or_eq_true,beq_iff_eq,decide_eq_true_eq]
theorem gate_clause {n k:Nat} {g:Gt} {m:Int} (h:UV n k g) (hm:2+n+k≤m) {cl:List Int} (c:cl∈gateC (2+n+k) g):Zq m cl=true:=by
 obtain⟨g1,g2,g3,_⟩:=h
 rw[absI_nat] at g1 g2;rw[absI_nat] at g2 g3
 have three:∀{p q r:Int},p.natAbs=g.a.natAbs→q.natAbs=g.b.natAbs→r.natAbs=2+n+k→Zq m [p,q,r]=true:=fun{p q r} e i f=>by
  rw[clause_iff]
  intro j d
  rcases(by simpa using d:j<3)|>(fun h=>(by omega:j=0∨j=1∨j=2)) with rfl|rfl|rfl
  ·exact⟨by simp[zu0];omega,.inl rfl⟩
  ·exact⟨by simp[zu0];omega,.inr (by simp;omega)⟩
  ·exact⟨by simp[zu0];omega,.inr (by simp;omega)⟩
 have two:∀{p r:Int},(p.natAbs=g.a.natAbs∨p.natAbs=g.b.natAbs)→r.natAbs=2+n+k→Zq m [p,r]=true:=fun{p r} e f=>by
  rw[clause_iff]
  intro j d
  rcases(by simpa using d:j<2)|>(fun h=>(by omega:j=0∨j=1)) with rfl|rfl
  ·exact⟨by simp[zu0];omega,.inl rfl⟩
  ·exact⟨by simp[zu0];omega,.inr (by simp;omega)⟩
 unfold gateC at c
 split at c
 ·simp only[List.mem_cons,List.not_mem_nil,or_false] at c
  rcases c with rfl|rfl|rfl|rfl<;>exact three (by omega) (by omega) (by omega)
 ·simp only[List.mem_cons,List.not_mem_nil,or_false] at c
  rcases c with rfl|rfl|rfl
  ·exact two (.inl rfl) (by omega)
  ·exact two (.inr rfl) (by omega)
  ·exact three (by omega) (by omega) (by omega)
theorem net_ok {n:Nat} {gs:Gs} {xs:List (List Int)} (g:n≤8) (b:NetG n gs) (f:xs.length≤90) (e:∀cl,cl∈xs→Zq (1+n+gs.length:Nat) cl=true):cnfOk (netC n gs xs)=true:=by
 have:=b.few
 have hlen:=gatesC_len (n:=n) gs 0
 have a:∀cl,cl∈(netC n gs xs).list→Zq (netC n gs xs).many cl=true:=fun cl h=>by
  unfold netC at h⊢
  rcases List.mem_cons.1 h with rfl|h
  ·rw[clause_iff]
   intro j d
   have:j=0:=by simpa using d
   subst this
   exact⟨by simp[zu0];omega,.inl rfl⟩
  ·rcases List.mem_append.1 h with h|h
   ·obtain⟨i,hi,hm⟩:=mem_gates.1 h
    rw[Nat.zero_add] at hm
    exact gate_clause (b.gate i hi) (by show(2+n+i:Int)≤((1+n+gs.length:Nat):Int);omega) hm
   ·have:=e cl h;exact_mod_cast this
 unfold cnfOk allI
 simp only[Bool.and_eq_true,decide_eq_true_eq,List.all_eq_true,List.mem_range]
 refine⟨⟨⟨?_,?_⟩,?_⟩,fun k c=>a _ ?_⟩
 ·show(0:Int)≤_;unfold netC;simp only;omega
 ·unfold netC;simp only;omega
 ·unfold netC;simp only[List.length_cons,List.length_append];omega
 ·rw[List.getD_eq_getElem?_getD,List.getElem?_eq_getElem c];exact List.getElem_mem c
end Go.M
end
section
namespace Go.M
variable {ds:List Dcl} {env:List Int}
theorem YS0 (ins:List Bool) (F:Gs):Rho (ZZ (valsG (true::ins) F)):=⟨fun m h=>lit_neg _ h,by
 unfold ZZ
 rw[if_pos (by decide)]
 exact ka0⟩
theorem ins_lit (F:Gs):Ins (ZZ (valsG (true::insM ds env) F)) ds env:=fun i hi=>by
 unfold ZZ
 rw[if_pos (by omega),show((2:Int)+i-1).toNat=i+1 by omega]
 exact Zy0 hi
def nIn (ds:List Dcl):Nat:=(bits ds).toNat
theorem nIn_eq (h:declOk ds=true):(nIn ds:Int)=bits ds∧nIn ds≤8:=by
 have:=bits_pos' (dpos h)
 have:=(decl_iff.1 h).2.2
 unfold nIn;omega
theorem insM_n (he:Uj ds env=true):(insM ds env).length=nIn ds:=by
 have a:=(env_ok he).1
 have:=insM_len (env_ok he).2.1 (dpos a)
 have:=(nIn_eq a).1
 omega
def listB (ds:List Dcl) (ts:List Tm):Option (Gs×List (List Int)):=(seqB (ts.map (termB ds))).run (nIn ds) []
structure ListSays (ds:List Dcl) (ts:List Tm) (gs:Gs) (rs:List (List Int)):Prop where
 net:NetG (nIn ds) gs
 many:rs.length=ts.length
 has:∀r,r∈rs→hasL (1+nIn ds+gs.length) r
 len:∀i,i<ts.length→(rs.getD i []).length=lenS (sortM ds (ts.getD i default))
 says:∀env,Uj ds env=true→rs.map (fun r=>r.map (ZZ (valsG (true::insM ds env) gs)))=ts.map fun u=>K9 (sortM ds u) (kL ds env u)
theorem nilG (n:Nat):NetG n []:=⟨by simp,fun k h=>absurd h (by simp),List.nodup_nil⟩
theorem list_says {ts:List Tm} {gs:Gs} {rs:List (List Int)} (c:declOk ds=true) (hs:∀t,t∈ts→sortM ds t≠ -1) (h:listB ds ts=some (gs,rs)):ListSays ds ts gs rs:=by
 have key:∀env,Uj ds env=true→NetG (nIn ds) gs∧(∀r,r∈rs→hasL (1+nIn ds+gs.length) r)∧rs.map (fun r=>r.map (ZZ (valsG (true::insM ds env) gs)))=ts.map fun u=>K9 (sortM ds u) (kL ds env u):=fun env he=>by
  have j:=nIn_eq c
  refine Says.sound (insM_n he) (nilG _) h (List.prefix_refl _) (Q:=fun k rs=>(∀r,r∈rs→hasL k r)∧rs.map (fun r=>r.map (ZZ (valsG (true::insM ds env) gs)))=ts.map fun u=>K9 (sortM ds u) (kL ds env u)) ?_
  refine seq_sat (k0:=1+nIn ds) (by simp) (fun t f {k Q} g e=>?_) (fun l rs _ a b=>⟨a,b⟩)
  exact term_sat (YS0 _ _) he (ins_lit _) t (hs t f) (by omega) e
 obtain⟨a,b⟩:=seq_reach (Bd.reach_of_run h)
 have d:=key _ (zeroE_ok c)
 exact⟨d.1,a,d.2.1,fun i hi=>term_len c _ (hs _ (getD_mem hi _)) (b i hi),fun env he=>(key env he).2.2⟩
def rootsC (rs:List (List Int)):List (List Int):=rs.map fun r=>[r.getD 0 0]
def blastC (ds:List Dcl) (gs:Gs) (rs:List (List Int)):Cnf:=netC (nIn ds) gs (rootsC rs)
section
variable {ts:List Tm} {gs:Gs} {rs:List (List Int)}
theorem head_mem {r:List Int} {w:Int} (h:r.length=lenS w):r.getD 0 0∈r:=getD_mem (by unfold lenS at h;omega) 0
theorem roots_ok (n:declOk ds=true) (h:ListSays ds ts gs rs):∀cl,cl∈rootsC rs→Zq (1+nIn ds+gs.length:Nat) cl=true:=fun cl a=>by
 obtain⟨r,f,rfl⟩:=List.mem_map.1 a
 obtain⟨i,hi,e⟩:=List.getElem_of_mem f
 have d:=h.len i (by have:=h.many;omega)
 rw[List.getD_eq_getElem?_getD,List.getElem?_eq_getElem hi,Option.getD_some,e] at d
 have b:=h.has r f _ (head_mem d)
 refine clause_iff.2 fun k g=>?_
 simp only[List.length_singleton] at g
 have c:k=0:=by omega
 subst c
 refine⟨?_,.inl rfl⟩
 show zu0 _ (r.getD 0 0)=true
 have j:=b.1;have l:=b.2.1;have m:=b.2.2
 unfold zu0
 simp only[Bool.and_eq_true,decide_eq_true_eq]
 omega
theorem blastC_ok (a:declOk ds=true) (h:ListSays ds ts gs rs) (b:ts.length≤90):cnfOk (blastC ds gs rs)=true:=
 net_ok (nIn_eq a).2 h.net (by unfold rootsC;rw[List.length_map,h.many];exact b) (roots_ok a h)
end
end Go.M
end
section
namespace Go.Proofs.YtaekfnbnhjgboaaGreatDoor
open Go Go.Vc Go.Proofs
variable {w:World} {K:Value→World→Prop} {D F F' G Fx Fy:Nat→Prop} {n:Nat} {gs:M.Gs} {v xv yv dv tv:Value} {xs ys:List Int} {bs:List Bool} {ds:List M.Dcl} {t:M.Tm} {ar ab:Addr}
theorem Errs.ext0 {w':World} (h:Errs (fun _=>False) w ar ab) (he:Ext w w'):Errs (fun _=>False) w' ar ab:=⟨h.room.same he id,h.bits.same he id,id,id⟩
end Go.Proofs.YtaekfnbnhjgboaaGreatDoor
end
section
namespace Go.Proofs.YtaekfnbnhjgboaaGreatDoor
open Go Go.Vc Go.Proofs
variable {w:World} {K:Value→World→Prop} {D F F' G Fx Fy:Nat→Prop} {n:Nat} {gs:M.Gs} {v xv yv dv tv gv:Value} {xs ys:List Int} {bs:List Bool} {ds:List M.Dcl} {t:M.Tm} {ar ab:Addr}
theorem kC0 {w':World} (a:OwnG w gv gs):vbi PP .len [zm] ze [gv] w' K=K (.int .i64 gs.length) w':=by
 have h:=Own.sl a
 simp(disch:=(simp only[push_cast];done)) only[h.len,List.length_map]
end Go.Proofs.YtaekfnbnhjgboaaGreatDoor
end
section
namespace Go.Proofs.YtaekfnbnhjgboaaGreatDoor
open Go Go.Vc Go.Proofs
variable {w:World} {K:Value→World→Prop} {D F F' G Fx Fy:Nat→Prop} {n m:Nat} {gs hs:M.Gs} {v xv yv dv tv gv' hv':Value} {xs ys env:List Int} {bs ins:List Bool} {ds:List M.Dcl} {t:M.Tm}
theorem xV0 {i:Nat} (hi:i<gs.length):(gs.map yE).getD i []=yE gs[i]:=by simp[List.getD_eq_getElem?_getD,hi]
end Go.Proofs.YtaekfnbnhjgboaaGreatDoor
end
section
namespace Go.Proofs.YtaekfnbnhjgboaaGreatDoor
open Go Go.Vc Go.Proofs Go.M
variable {w:World} {K:Value→World→Prop} {F:Nat→Prop}
def CnfR (F:Nat→Prop) (w:World) (v:Value) (c:Cnf):Prop:= ∃lv,v= .agg #[.int .i64 c.many,lv]∧Lists F w lv c.list
end Go.Proofs.YtaekfnbnhjgboaaGreatDoor
end
section
namespace Go.Proofs.YtaekfnbnhjgboaaGreatDoor
open Go Go.Vc Go.Proofs Go.M
variable {w:World} {K:Value→World→Prop} {F Fr F':Nat→Prop} {N:Nat} {c:Cnf}
structure RowsR (N:Nat) (Fr:Nat→Prop) (w:World) (ls:List Value) (xss:List (List Int)):Prop where
 nle:N≤w.heap.size
 own:∀i,i<xss.length→OwnI PP zg w (ls.getD i undef) (xss.getD i [])
 sub:∀i b,i<xss.length→(ls.getD i undef).ownBlock=some b→Fr b∧N≤b
 dj:∀i j b,i<j→j<xss.length→(ls.getD i undef).ownBlock=some b→(ls.getD j undef).ownBlock≠some b
section
variable {ls:List Value} {xss:List (List Int)} {w':World} {S F':Nat→Prop} {N:Nat}
theorem RowsR.same (h:RowsR N Fr w ls xss) (hw:Same S w w') (hF:∀x,Fr x→x<w.heap.size→¬S x):RowsR N Fr w' ls xss:=
 ⟨Nat.le_trans h.nle hw.size,fun i hi=>(h.own i hi).same hw fun b a=>hF b (h.sub i b hi a).1 ((h.own i hi).lt a),h.sub,h.dj⟩
theorem RowsR.ext (h:RowsR N Fr w ls xss) (hw:Ext w w'):RowsR N Fr w' ls xss:=h.same hw fun _ _ _ h=>h
theorem RowsR.weaken (h:RowsR N Fr w ls xss) (hF:∀b,Fr b→N≤b→b<w.heap.size→F' b):RowsR N F' w ls xss:=
 ⟨h.nle,h.own,fun i b hi a=>⟨hF b (h.sub i b hi a).1 (h.sub i b hi a).2 ((h.own i hi).lt a),(h.sub i b hi a).2⟩,h.dj⟩
theorem RowsR.nil (a:N≤w.heap.size):RowsR N Fr w [] []:=⟨a,fun i hi=>absurd hi (by simp),fun i b hi=>absurd hi (by simp),fun i j b _ c=>absurd c (by simp)⟩
theorem RowsR.snoc {v:Value} {xs:List Int} (h:RowsR N Fr w ls xss) (p:ls.length=xss.length) (q:OwnI PP zg w v xs) (hF:∀b,v.ownBlock=some b→Fr b∧N≤b) (o:∀i b,i<xss.length→(ls.getD i undef).ownBlock=some b→v.ownBlock≠some b):RowsR N Fr w (ls++[v]) (xss++[xs]):=by
 have g:∀i,i<(xss++[xs]).length→(i<xss.length∧(ls++[v]).getD i undef=ls.getD i undef∧(xss++[xs]).getD i []=xss.getD i [])∨(i=xss.length∧(ls++[v]).getD i undef=v∧(xss++[xs]).getD i []=xs):=fun i hi=>by
  simp only[List.length_append,List.length_singleton] at hi
  by_cases e:i<xss.length
  ·exact .inl ⟨e,yu0 (by omega),yu0 e⟩
  ·have c:i=xss.length:=by omega
   exact .inr ⟨c,by rw[c,←p];simp,by rw[c];simp⟩
 refine⟨h.nle,fun i hi=>?_,fun i b hi d=>?_,fun i j b l n d=>?_⟩
 ·rcases g i hi with⟨a,c,k⟩|⟨a,c,k⟩
  ·rw[c,k];exact h.own i a
  ·rw[c,k];exact q
 ·rcases g i hi with⟨a,c,k⟩|⟨a,c,k⟩
  ·rw[c] at d;exact h.sub i b a d
  ·rw[c] at d;exact hF b d
 ·rcases g i (by omega) with⟨a,c,k⟩|⟨a,c,k⟩
  ·rw[c] at d
   rcases g j n with⟨m,f,_⟩|⟨m,f,_⟩
   ·rw[f];exact h.dj i j b l m d
   ·rw[f];exact o i b a d
  ·simp only[List.length_append,List.length_singleton] at n
   omega
end
structure CnfO (N:Nat) (w:World) (lv:Value) (ls:List Value) (c:Cnf):Prop where
 lst:OwnV PP zB w lv ls
 len:ls.length=c.list.length
 dl:∀b,lv.ownBlock=some b→N≤b
 rows:RowsR N (fun b=>lv.ownBlock≠some b) w ls c.list
theorem CnfO.cnf {lv:Value} {ls:List Value} (h:CnfO N w lv ls c):CnfR (fun b=>N≤b) w (.agg #[.int .i64 c.many,lv]) c:=
 ⟨lv,rfl,ls,h.len,h.lst.vals.weaken fun b a _=>h.dl b a,fun i hi=>(h.rows.own i hi).ints.weaken fun b a _=>(h.rows.sub i b hi a).2⟩
theorem CnfO.same {lv:Value} {ls:List Value} {S:Nat→Prop} {w':World} (h:CnfO N w lv ls c) (hw:Same S w w') (d:∀b,N≤b→b<w.heap.size→¬S b):CnfO N w' lv ls c:=
 ⟨h.lst.same hw fun b a=>d b (h.dl b a) (h.lst.lt a),h.len,h.dl,⟨Nat.le_trans h.rows.nle hw.size,fun i hi=>(h.rows.own i hi).same hw fun b a=>d b (h.rows.sub i b hi a).2 ((h.rows.own i hi).lt a),h.rows.sub,h.rows.dj⟩⟩
theorem CnfO.ext {lv:Value} {ls:List Value} {w':World} (h:CnfO N w lv ls c) (hw:Ext w w'):CnfO N w' lv ls c:=h.same hw fun _ _ _ h=>h
theorem CnfO.down {lv:Value} {ls:List Value} {M:Nat} (h:CnfO N w lv ls c) (d:M≤N):CnfO M w lv ls c:=
 ⟨h.lst,h.len,fun b a=>Nat.le_trans d (h.dl b a),⟨Nat.le_trans d h.rows.nle,h.rows.own,fun i b hi a=>⟨(h.rows.sub i b hi a).1,Nat.le_trans d (h.rows.sub i b hi a).2⟩,h.rows.dj⟩⟩
def Owns (ls:List Value) (n b:Nat):Prop:= ∃i,i<n∧(ls.getD i undef).ownBlock=some b
theorem RowsR.owned {ls:List Value} {xss:List (List Int)} (h:RowsR N Fr w ls xss):RowsR N (fun b=>Fr b∧Owns ls xss.length b) w ls xss:=
 ⟨h.nle,h.own,fun i b hi a=>⟨⟨(h.sub i b hi a).1,i,hi,a⟩,(h.sub i b hi a).2⟩,h.dj⟩
end Go.Proofs.YtaekfnbnhjgboaaGreatDoor
end
section
namespace Go.Proofs.YtaekfnbnhjgboaaGreatDoor
open Go Go.Vc Go.Proofs
variable {w:World} {K:Value→World→Prop} {D F F' G Fr Fx Fy X:Nat→Prop} {n m N bl bc mb bb kb:Nat} {gs hs:M.Gs} {v xv yv dv tv:Value} {ls ls':List Value} {xss yss:List (List Int)} {xs ys env:List Int} {ds:List M.Dcl} {t:M.Tm} {ar ab:Addr} {k:Int} {st:Option M.Gs}
theorem RowsR.app (h:RowsR N Fr w ls xss) (r:ls.length=xss.length) (n:RowsR N Fr w ls' yss) (s:ls'.length=yss.length) (q:∀i j b,i<xss.length→j<yss.length→(ls.getD i undef).ownBlock=some b→(ls'.getD j undef).ownBlock≠some b):
  RowsR N Fr w (ls++ls') (xss++yss):=by
 have g1:∀{α:Type} {a b:List α} {d:α} {i:Nat},i<a.length→(a++b).getD i d=a.getD i d:=fun h=>by simp[List.getD_eq_getElem?_getD,List.getElem?_append_left h]
 have g2:∀{α:Type} {a b:List α} {d:α} {i:Nat},a.length≤i→(a++b).getD i d=b.getD (i-a.length) d:=fun h=>by simp[List.getD_eq_getElem?_getD,List.getElem?_append_right h]
 have sp:∀i,i<(xss++yss).length→(i<xss.length∧(ls++ls').getD i undef=ls.getD i undef∧(xss++yss).getD i []=xss.getD i [])∨(xss.length≤i∧i-xss.length<yss.length∧(ls++ls').getD i undef=ls'.getD (i-xss.length) undef∧(xss++yss).getD i []=yss.getD (i-xss.length) []):=fun i hi=>by
  rw[List.length_append] at hi
  by_cases c:i<xss.length
  ·exact .inl ⟨c,g1 (by omega),g1 c⟩
  ·exact .inr ⟨by omega,by omega,by rw[g2 (by omega),r],g2 (by omega)⟩
 refine⟨h.nle,fun i hi=>?_,fun i b hi f=>?_,fun i j b o p f=>?_⟩
 ·rcases sp i hi with⟨a,e,g⟩|⟨a,a2,e,g⟩
  ·rw[e,g];exact h.own i a
  ·rw[e,g];exact n.own _ a2
 ·rcases sp i hi with⟨a,e,g⟩|⟨a,a2,e,g⟩
  ·rw[e] at f;exact h.sub i b a f
  ·rw[e] at f;exact n.sub _ b a2 f
 ·rcases sp i (by omega) with⟨a,e,g⟩|⟨a,a2,e,g⟩
  ·rw[e] at f
   rcases sp j p with⟨c,k,m⟩|⟨c,l,k,m⟩
   ·rw[k];exact h.dj i j b o c f
   ·rw[k];exact q i _ b a l f
  ·rw[e] at f
   rcases sp j p with⟨c,k,m⟩|⟨c,l,k,m⟩
   ·omega
   ·rw[k];exact n.dj _ _ b (by omega) l f
theorem RowsR.new {w0:World} {r:Value} (h:RowsR N Fr w0 ls xss) (d:ls.length=xss.length) (hw:Ext w0 w) (f:OwnI PP zg w r xs) (c:∀b,r.ownBlock=some b→w0.heap.size≤b) (hF:∀b,r.ownBlock=some b→Fr b):RowsR N Fr w (ls++[r]) (xss++[xs]):=
 RowsR.snoc (h.ext hw) d f (fun b a=>⟨hF b a,Nat.le_trans h.nle (c b a)⟩) fun i b hi a e=>by
  have:=(h.own i hi).lt a
  have:=c b e
  omega
theorem lit_ints {us:List Int} {xs:List Value} (a:xs=us.map fun x=>Value.int .i64 x) (f:us.length≤8) (d:∀w' b,b=w.heap.size→Ext w w'→w'.heap.size=w.heap.size+1→OwnI PP zg w' (.slice (some ⟨b,0,none⟩) us.length us.length) us→K (.slice (some ⟨b,0,none⟩) us.length us.length) w'):
  vbuildS PP zg xs.length (xs.zipIdx.map fun p=>(p.2,p.1)) w K:=by
 have hlen:xs.length=us.length:=by rw[a,List.length_map]
 refine vbuildS_row1 YG jx XN (fun x h=>by subst a;obtain⟨y,_,rfl⟩:=List.mem_map.1 h;rfl) (by omega) fun b w' e he hs c=>?_
 rw[hlen]
 refine d w' b e he hs ?_
 unfold OwnI OwnV
 rw[←a]
 exact Blk.own1 (P:=PP) (t:=zg) (cs:=xs) (by rw[Wo];exact c) (Nat.zero_le _) hlen.symm hlen.symm (by omega)
theorem lit_lists {xs:List Value} (f:∀x,x∈xs→∃o l c,x= .slice o l c) (g:xs.length≤8) (d:∀w' b,b=w.heap.size→Ext w w'→w'.heap.size=w.heap.size+1→OwnV PP zB w' (.slice (some ⟨b,0,none⟩) xs.length xs.length) xs→K (.slice (some ⟨b,0,none⟩) xs.length xs.length) w'):
  vbuildS PP zB xs.length (xs.zipIdx.map fun p=>(p.2,p.1)) w K:=by
 refine vbuildS_row1 qD0 jV0 jU0 (fun x h=>by obtain⟨o,l,c,rfl⟩:=f x h;rfl) (by omega) fun b w' e he hs a=>?_
 exact d w' b e he hs (Blk.own1 (P:=PP) (t:=zB) (cs:=xs) (by rw[jm0];exact a) (Nat.zero_le _) rfl rfl (by omega))
structure Fresh (N:Nat) (w:World) (v:Value) (ls:List Value) (xss:List (List Int)):Prop where
 own:OwnV PP zB w v ls
 len:ls.length=xss.length
 new:∀b,v.ownBlock=some b→N≤b
 rows:RowsR N (fun b=>v.ownBlock≠some b) w ls xss
theorem neg_wrap {x:Int} (h:x.natAbs≤100000):IntKind.i64.wrap (0-x)= -x:=by rw[zH (by omega) (by omega)];omega
theorem Gate_clauses_spec {g:M.Gt} (t:g.a.natAbs≤100000) (h:g.b.natAbs≤100000) (u:k.natAbs≤100000) (L:∀w' v ls,Ext w w'→Fresh w.heap.size w' v ls (M.gateC k g)→K v w'):vcall PP jn #[gv g,.int .i64 k] w K:=by
 apply KI
 refine zx (cs:=yE g) fun b1 T X E Y f=>?_
 simp(disch:=first|(simp only[push_cast];done)|omega) only[push_cast,yE,f.ld0,f.ld1,f.ld2,neg_wrap t,neg_wrap h,neg_wrap u]
 have z1:=E.size
 have lit:∀{n:Nat} {j:World} {us:List Int} {xs:List Value} {ls:List Value} {xss:List (List Int)} {K:Value→World→Prop},xs=us.map (fun x=>Value.int .i64 x)→us.length≤8→Ext T j→RowsR w.heap.size (fun b=>b<j.heap.size) j ls xss→ls.length=xss.length→
   (∀r v,Ext T r→RowsR w.heap.size (fun b=>b<r.heap.size) r (ls++[v]) (xss++[us])→(∃o l c,v= .slice o l c)→K v r)→vbuildS PP zg xs.length (xs.zipIdx.map fun p=>(p.2,p.1)) j K:=fun{n j us xs ls xss K} i J he P O L=>by
  refine lit_ints i J fun r b3 N d S s=>?_
  refine L r _ (he.trans d) (RowsR.new (P.weaken fun b W _ _=>by omega) O d s (fun b h=>?_) fun b h=>s.lt h) ⟨_,_,_,rfl⟩
  have:b=b3:=(Option.some.inj h).symm
  omega
 have fin:∀{j:World} {xs:List Value} {xss:List (List Int)},xs.length≤8→xs.length=xss.length→(∀x,x∈xs→∃o l c,x= .slice o l c)→Ext T j→RowsR w.heap.size (fun b=>b<j.heap.size) j xs xss→xss=M.gateC k g→vbuildS PP zB xs.length (xs.zipIdx.map fun p=>(p.2,p.1)) j K:=fun{j xs xss} J O i he P U=>by
  refine lit_lists i J fun r b3 N d S s=>?_
  have z2:=he.size
  refine L r _ xs (E.trans (he.trans d)) ⟨s,by rw[←U];exact O,fun b h=>?_,?_⟩
  ·have:b=b3:=(Option.some.inj h).symm
   omega
  ·rw[←U]
   exact(P.ext d).weaken fun b W _ _ e=>by
    have:b3=b:=Option.some.inj e
    omega
 refine yo (fun i=>?_) (fun i=>?_)
 ·refine lit (n:=3) (xs:=[.int .i64 g.a,.int .i64 g.b,.int .i64 (-k)]) (us:=[g.a,g.b,-k]) rfl (by simp) (Same.refl _ _) (RowsR.nil (by omega)) rfl fun j v2 m y B=>?_
  have G:=f.ext m
  try simp(disch:=first|(simp only[push_cast];done)|omega) only[push_cast,G.ld1,G.ld2,neg_wrap t,neg_wrap h,neg_wrap u]
  refine lit (n:=3) (xs:=[.int .i64 (-g.a),.int .i64 (-g.b),.int .i64 (-k)]) (us:=[-g.a,-g.b,-k]) rfl (by simp) m y rfl fun r v3 d z C=>?_
  have H:=f.ext d
  try simp(disch:=first|(simp only[push_cast];done)|omega) only[push_cast,H.ld1,H.ld2,neg_wrap t,neg_wrap h,neg_wrap u]
  refine lit (n:=3) (xs:=[.int .i64 (-g.a),.int .i64 g.b,.int .i64 k]) (us:=[-g.a,g.b,k]) rfl (by simp) d z rfl fun Z v4 q A D=>?_
  have I:=f.ext q
  try simp(disch:=first|(simp only[push_cast];done)|omega) only[push_cast,I.ld1,I.ld2,neg_wrap t,neg_wrap h,neg_wrap u]
  refine lit (n:=3) (xs:=[.int .i64 g.a,.int .i64 (-g.b),.int .i64 k]) (us:=[g.a,-g.b,k]) rfl (by simp) q A rfl fun w5 v5 F Q R=>?_
  have V:=f.ext F
  try simp(disch:=first|(simp only[push_cast];done)|omega) only[push_cast,V.ld1,V.ld2,neg_wrap t,neg_wrap h,neg_wrap u]
  refine fin (xs:=[v2,v3,v4,v5]) (by simp) rfl (fun x i=>?_) F Q (by unfold M.gateC;rw[if_pos i];rfl)
  simp only[List.mem_cons,List.not_mem_nil,or_false] at i
  rcases i with rfl|rfl|rfl|rfl
  ·exact B
  ·exact C
  ·exact D
  ·exact R
 ·refine lit (n:=2) (xs:=[.int .i64 g.a,.int .i64 (-k)]) (us:=[g.a,-k]) rfl (by simp) (Same.refl _ _) (RowsR.nil (by omega)) rfl fun j v2 m y B=>?_
  have G:=f.ext m
  try simp(disch:=first|(simp only[push_cast];done)|omega) only[push_cast,G.ld1,G.ld2,neg_wrap t,neg_wrap h,neg_wrap u]
  refine lit (n:=2) (xs:=[.int .i64 g.b,.int .i64 (-k)]) (us:=[g.b,-k]) rfl (by simp) m y rfl fun r v3 d z C=>?_
  have H:=f.ext d
  try simp(disch:=first|(simp only[push_cast];done)|omega) only[push_cast,H.ld1,H.ld2,neg_wrap t,neg_wrap h,neg_wrap u]
  refine lit (n:=3) (xs:=[.int .i64 (-g.a),.int .i64 (-g.b),.int .i64 k]) (us:=[-g.a,-g.b,k]) rfl (by simp) d z rfl fun Z v4 q A D=>?_
  have I:=f.ext q
  try simp(disch:=first|(simp only[push_cast];done)|omega) only[push_cast,I.ld1,I.ld2,neg_wrap t,neg_wrap h,neg_wrap u]
  refine fin (xs:=[v2,v3,v4]) (by simp) rfl (fun x i=>?_) q A (by unfold M.gateC;rw[if_neg (by simp[i])];rfl)
  simp only[List.mem_cons,List.not_mem_nil,or_false] at i
  rcases i with rfl|rfl|rfl
  ·exact B
  ·exact C
  ·exact D
theorem gatesC_app (n:Nat):∀(a b:M.Gs) (j:Nat),M.gatesC n (a++b) j=M.gatesC n a j++M.gatesC n b (j+a.length)
 |[],b,j=>by simp[M.gatesC]
 |g::a,b,j=>by
  show M.gateC _ g++M.gatesC n (a++b) (j+1)=(M.gateC _ g++M.gatesC n a (j+1))++M.gatesC n b (j+(g::a).length)
  rw[gatesC_app n a b (j+1),List.append_assoc,List.length_cons,show j+1+a.length=j+(a.length+1) by omega]
theorem gatesC_take {i:Nat} (hi:i<gs.length):M.gatesC n (gs.take (i+1)) 0=M.gatesC n (gs.take i) 0++M.gateC (2+n+i) gs[i]:=by
 have a:gs.take (i+1)=gs.take i++[gs[i]]:=by rw[List.take_add_one,List.getElem?_eq_getElem hi];rfl
 rw[a,gatesC_app]
 simp only[M.gatesC,List.append_nil,List.length_take,Nat.zero_add]
 rw[Nat.min_eq_left (by omega)]
def CnfI (w2:World) (m:Int) (d:Nat→Prop) (u:List Value) (w':World):Prop:=
 Ext w2 w'∧(d 10→sl 1 u= .int .i64 m)∧(d 11→∃b,sl 2 u= .slice (some ⟨b,0,none⟩) 1 1∧OwnI PP zg w' (.slice (some ⟨b,0,none⟩) 1 1) [1]∧w2.heap.size≤b)∧
 (d 12→d 11∧∃b,sl 3 u= .slice (some ⟨b,0,none⟩) 1 1∧OwnV PP zB w' (.slice (some ⟨b,0,none⟩) 1 1) [sl 2 u]∧w2.heap.size≤b∧(sl 2 u).ownBlock≠some b)∧
 (d 13→d 10∧d 12∧sl 4 u= .agg ⟨[sl 1 u,sl 3 u]⟩)∧(d 14→∃b cs,sl 0 u= .pointer (some ⟨b,0,none⟩)∧w2.heap.size≤b∧Blk w' b cs zl∧cs.length=2∧(d 15→cs=[sl 1 u,sl 3 u])∧(d 11→(sl 2 u).ownBlock≠some b)∧(d 12→(sl 3 u).ownBlock≠some b))∧(d 15→d 14∧d 13)
theorem gpos {i:Nat} (c:M.NetG n gs) (j:n≤8) (hi:i<gs.length):gs[i].a.natAbs≤100000∧gs[i].b.natAbs≤100000:=by
 obtain⟨g,d,f,h⟩:=c.gate i hi
 have:=c.few
 have e:∀a:Int,M.absI a=(a.natAbs:Int):=fun a=>by unfold M.absI;split<;>omega
 rw[e,e] at d
 rw[e] at f
 omega
theorem Xr (n:Nat):∀(gs:M.Gs) (j:Nat),(M.gatesC n gs j).length≤4*gs.length:=fun gs j=>M.gatesC_len gs j
theorem cnf8_spec (hc:CktR n bc w gs v mb) (hg:M.NetG n gs) (hK:∀w' lv ls,Ext w w'→CnfO w.heap.size w' lv ls (M.netC n gs [])→K (.agg #[.int .i64 (1+n+gs.length:Nat),lv]) w'):vcall PP jI #[.pointer (some ⟨bc,0,none⟩)] w K:=by
 apply Vn
 have bz:=hc.few.2
 have cd:=hg.few
 refine zF xN fun b1 w1 ci b8 cm bo=>?_
 refine zw fun H ah _=>?_
 have e2:=b8.trans ah
 have ag:=hc.blk.ext e2
 have b6:=bo.ext ah
 have P:∀{w':World},Ext H w'→∀K:Value→World→Prop,zf PP zj (.pointer (some ⟨bc,0,none⟩)) w' K=K (.agg ⟨[.int .i64 n,v]⟩) w':=fun{w'} h K=>Blk.ldTake (us:=[.int .i64 n,v]) (r:=[.map (some mb)]) (ag.ext h) yg
 have hlen:∀(w':World) (K:Value→World→Prop),vbi PP .len [zm] ze [v] w' K=K (.int .i64 gs.length) w':=fun w' K=>kC0 (Own.ext hc.own e2)
 simp(disch:=first|(simp only[push_cast];done)|omega) only[push_cast,ag.ld1,P (Same.refl _ _),hlen,true_and]
 obtain⟨m,hm⟩:∃m:Int,m=(1+n+gs.length:Nat):=⟨_,rfl⟩
 refine⟨CnfI H m,⟨Same.refl _ _,by simp,by simp,by simp,by simp,by simp,by simp⟩,?_⟩
 rintro d u _ V ⟨A,i10,i11,i12,i13,i14,i15⟩
 have br:=ag.ext A
 have z3:=A.size
 simp(disch:=first|(simp only[push_cast];done)|omega) only[push_cast,br.ld1,P A,hlen,true_and,and_self]
 generalize sl 0 u=a0 at*
 generalize sl 1 u=a1 at*
 generalize sl 2 u=a2 at*
 generalize sl 3 u=a3 at*
 generalize sl 4 u=a4 at*
 have res:∀{i j:Nat} {p:Prop},i≠j→(i=j∨p)→p:=fun h U=>U.resolve_left h
 have t11:∀{G:World},Ext V G→d 11→∃b,a2= .slice (some ⟨b,0,none⟩) 1 1∧OwnI PP zg G (.slice (some ⟨b,0,none⟩) 1 1) [1]∧H.heap.size≤b:=fun he h=>by
  obtain⟨b,x,y,z⟩:=i11 h;exact⟨b,x,y.ext he,z⟩
 have t12:∀{G:World},Ext V G→d 12→∃b,a3= .slice (some ⟨b,0,none⟩) 1 1∧OwnV PP zB G (.slice (some ⟨b,0,none⟩) 1 1) [a2]∧H.heap.size≤b∧a2.ownBlock≠some b:=fun he h=>by
  obtain⟨_,b,x,y,z⟩:=i12 h;exact⟨b,x,y.ext he,z⟩
 have t14:∀{G:World},Ext V G→d 14→∃b cs,a0= .pointer (some ⟨b,0,none⟩)∧H.heap.size≤b∧Blk G b cs zl∧cs.length=2∧(d 15→cs=[a1,a3])∧(d 11→a2.ownBlock≠some b)∧(d 12→a3.ownBlock≠some b)∧b<V.heap.size:=fun he h=>by
  obtain⟨b,cs,x,y,z,q1,q2,q3,q4⟩:=i14 h;exact⟨b,cs,x,y,z.ext he,q1,q2,q3,q4,z.lt⟩
 refine⟨⟨fun an=>?_,fun c8=>?_,fun ao R=>?_,fun ct Z S=>?_,fun c9=>?_,fun cu a5 ap _ _ _ _ _ _=>?_,trivial⟩,fun Z R S ap a5 cc=>?_⟩
 ·refine nodes_spec (by omega) (by omega) fun G f=>?_
  refine⟨A.trans f,fun _=>?_,fun h=>t11 f (res (by decide) h),fun h=>⟨.inr (i12 (res (by decide) h)).1,t12 f (res (by decide) h)⟩,fun h=>absurd (i13 (res (by decide) h)).1 an,fun h=>?_,fun h=>absurd (i13 (i15 (res (by decide) h)).2).1 an⟩
  ·show Value.int .i64 _=_
   congr 1;omega
  ·obtain⟨b,cs,x,y,z,q1,q2,q3,q4,_⟩:=t14 f (res (by decide) h)
   exact⟨b,cs,x,y,z,q1,fun h=>absurd (i13 (i15 (res (by decide) h)).2).1 an,fun h=>q3 (res (by decide) h),fun h=>q4 (res (by decide) h)⟩
 ·have F: ¬d 12:=fun h=>c8 (i12 h).1
  refine lit_ints (xs:=[.int .i64 1]) (us:=[1]) rfl (by simp) fun G b4 b7 f am E=>?_
  refine⟨A.trans f,fun h=>i10 (res (by decide) h),fun _=>⟨b4,rfl,E,by omega⟩,fun h=>absurd (res (by decide) h) F,fun h=>absurd (i13 (res (by decide) h)).2.1 F,fun h=>?_,fun h=>absurd (i13 (i15 (res (by decide) h)).2).2.1 F⟩
  obtain⟨b,cs,x,y,z,q1,q2,q3,q4,q5⟩:=t14 f (res (by decide) h)
  exact⟨b,cs,x,y,z,q1,fun h=>absurd (i13 (i15 (res (by decide) h)).2).2.1 F,fun _ e=>by have e6:b4=b:=Option.some.inj e;omega,fun h=>absurd (res (by decide) h) F⟩
 ·obtain⟨b2,ar,o2,l2⟩:=i11 R
  have cr:b2<V.heap.size:=o2.lt rfl
  refine lit_lists (xs:=[a2]) (fun x hx=>by rw[List.mem_singleton.1 hx];exact⟨_,_,_,ar⟩) (by simp) fun G b4 b7 f am E=>?_
  refine⟨A.trans f,fun h=>i10 (res (by decide) h),fun h=>t11 f (res (by decide) h),fun _=>⟨.inr R,b4,rfl,E,by omega,?_⟩,fun h=>absurd (i13 (res (by decide) h)).2.1 ao,fun h=>?_,fun h=>absurd (i13 (i15 (res (by decide) h)).2).2.1 ao⟩
  ·show a2.ownBlock≠some b4
   rw[ar]
   intro e
   have e6:b2=b4:=Option.some.inj e
   omega
  ·obtain⟨b,cs,x,y,z,q1,q2,q3,q4,q5⟩:=t14 f (res (by decide) h)
   exact⟨b,cs,x,y,z,q1,fun h=>absurd (i13 (i15 (res (by decide) h)).2).2.1 ao,fun h=>q3 (res (by decide) h),fun _ e=>by have e6:b4=b:=Option.some.inj e;omega⟩
 ·obtain⟨_,b3,ac,o3,l3,n3⟩:=i12 S
  have ab:=i10 Z
  have bu:∀K:Value→World→Prop,zT PP zl [(0,a1),(1,a3)] V K=K (.agg ⟨[a1,a3]⟩) V:=fun K=>by
   rw[ab,ac]
   exact yw WH (us:=[[.int .i64 m],[.slice (some ⟨b3,0,none⟩) 1 1]]) rfl rfl
  rw[bu]
  refine⟨rfl,A,fun h=>i10 (res (by decide) h),fun h=>t11 (Same.refl _ _) (res (by decide) h),fun h=>⟨.inr (i12 (res (by decide) h)).1,t12 (Same.refl _ _) (res (by decide) h)⟩,fun _=>⟨.inr Z,.inr S,rfl⟩,fun h=>?_,fun h=>⟨.inr (i15 (res (by decide) h)).1,.inl rfl⟩⟩
  obtain⟨b,cs,x,y,z,q1,q2,q3,q4,q5⟩:=t14 (Same.refl _ _) (res (by decide) h)
  exact⟨b,cs,x,y,z,q1,fun h=>q2 (res (by decide) h),fun h=>q3 (res (by decide) h),fun h=>q4 (res (by decide) h)⟩
 ·have aa: ¬d 15:=fun h=>c9 (i15 h).1
  refine zF xN fun b4 G b7 f am B=>?_
  refine⟨A.trans f,fun h=>i10 (res (by decide) h),fun h=>t11 f (res (by decide) h),fun h=>⟨.inr (i12 (res (by decide) h)).1,t12 f (res (by decide) h)⟩,fun h=>?_,fun _=>⟨b4,_,rfl,by omega,B,rfl,fun h=>absurd (res (by decide) h) aa,fun h e=>?_,fun h e=>?_⟩,fun h=>absurd (res (by decide) h) aa⟩
  ·obtain⟨x,y,z⟩:=i13 (res (by decide) h)
   exact⟨.inr x,.inr y,z⟩
  ·obtain⟨b,x,y,z⟩:=i11 (res (by decide) h)
   have e':a2.ownBlock=some b4:=e
   rw[x] at e'
   have e6:b=b4:=Option.some.inj e'
   have lt4:b<V.heap.size:=y.lt rfl
   omega
  ·obtain⟨_,b,x,y,z⟩:=i12 (res (by decide) h)
   have e':a3.ownBlock=some b4:=e
   rw[x] at e'
   have e6:b=b4:=Option.some.inj e'
   have lt4:b<V.heap.size:=y.lt rfl
   omega
 ·obtain⟨bj,a6,bm⟩:=i13 ap
  obtain⟨T,cs,bk,l0,B0,ba,_,n2,n3⟩:=i14 a5
  have ab:=i10 bj
  obtain⟨aq,b3,ac,o3,l3,_⟩:=i12 a6
  subst bm bk ab ac
  refine B0.stAgg (cs':=[.int .i64 m,.slice (some ⟨b3,0,none⟩) 1 1]) (by rw[ba];rfl) yh net_one fun G ak am B=>?_
  refine⟨Ext.then A ak fun y hy=>by subst hy;exact l0,fun _=>rfl,fun h=>?_,fun h=>?_,fun _=>⟨.inr bj,.inr a6,rfl⟩,fun _=>⟨T,_,rfl,l0,B,rfl,fun _=>rfl,fun h=>n2 (res (by decide) h),fun h=>n3 (res (by decide) h)⟩,fun _=>⟨.inr a5,.inr ap⟩⟩
  ·obtain⟨b,x,y,z⟩:=i11 aq
   refine⟨b,x,y.same ak fun c hc e=>?_,z⟩
   have U:=n2 aq
   rw[x] at U
   exact U (hc.trans (by rw[e]))
  ·refine⟨.inr aq,b3,rfl,o3.same ak fun c hc e=>?_,l3,?_⟩
   ·exact n3 a6 (hc.trans (by rw[e]))
   ·obtain⟨_,b,x,y,z,q⟩:=i12 a6
    cases x
    exact q
 obtain⟨b2,x2,o2,l2⟩:=i11 R
 obtain⟨_,b3,x3,o3,l3,d23⟩:=i12 S
 obtain⟨T,cs,x0,l0,B0,ba,bn,n2,n3⟩:=i14 a5
 have bv:=bn cc
 have ca:=n2 R
 have cb:=n3 S
 have c5:=i10 Z
 subst bv x0 x3 x2 c5
 have z1:=b8.size
 have bg:RowsR H.heap.size (fun b=>b≠b3∧b≠T) V [.slice (some ⟨b2,0,none⟩) 1 1] [[1]]:=by
  refine RowsR.snoc (RowsR.nil z3) rfl o2 (fun b k=>⟨⟨fun e=>d23 (k.trans (by rw[e])),fun e=>ca (k.trans (by rw[e]))⟩,?_⟩) (fun i b hi=>absurd hi (by simp))
  have e6:b2=b:=Option.some.inj k
  omega
 have bs:∀{w':World},Ext H w'→GatesR (fun b=>v.ownBlock=some b) w' v gs:=fun h=>Sl.ext (Own.sl hc.own) (e2.trans h)
 refine vloop_up gs.length (fun i u w'=>u=[.int .i64 i]∧Ext H w'∧∃lv ls,Blk w' T [.int .i64 m,lv] zl∧OwnV PP zB w' lv ls∧ls.length=([1]::M.gatesC n (gs.take i) 0).length∧RowsR H.heap.size (fun b=>lv.ownBlock≠some b∧b≠T) w' ls ([1]::M.gatesC n (gs.take i) 0)∧∀b,lv.ownBlock=some b→H.heap.size≤b∧b≠T)
  ⟨rfl,A,_,_,B0,o3,rfl,bg.weaken fun b s _ _=>⟨fun e=>s.1 (by have e6:b3=b:=Option.some.inj e;exact e6.symm),s.2⟩,fun b k=>⟨by have e6:b3=b:=Option.some.inj k;omega,fun e=>cb (k.trans (by rw[e]))⟩⟩ ?_
 rintro i _ _ G C hi ⟨rfl,f,lv,ls,B,E,N,X,O⟩ hC
 simp only[push_cast]
 have e4:=e2.trans f
 have bl:=f
 have z4:=f.size
 refine zh (fun a=>?_) (fun a=>?_)
 ·have L:i<gs.length:=by omega
  have bh:=bs f
  rw[Sl.iaddr bh Qo (by omega) (by rw[ji0];omega),Int.toNat_natCast,Sl.ldAgg bh qm (by rw[ji0];exact L),xV0 L]
  obtain⟨ha,k⟩:=gpos hg bz L
  have b9:=gatesC_take (n:=n) L
  generalize ck:gs[i]=g at*
  refine zF Y0 fun b5 w5 cj bw c7 af=>?_
  refine af.stAgg (cs':=yE g) rfl qm (gone [g] _ (by simp)) fun w6 c4 cn bp=>?_
  have au:Ext G w6:=Ext.then bw c4 fun y hy=>by subst hy;omega
  refine zw fun w7 ai _=>?_
  have ad:=au.trans ai
  have bq:=bp.ext ai
  have ax:=B.ext ad
  have bb:∀{w':World},Ext w7 w'→∀K:Value→World→Prop,zf PP zn (.pointer (some ⟨b5,0,none⟩)) w' K=K (gv g) w':=fun h K=>Blk.ldAgg (bq.ext h) (by exact qm)
  simp(disch:=first|(simp only[push_cast];done)|omega) only[push_cast,ax.ld1,bb (Same.refl _ _),P (bl.trans ad),true_and]
  refine nodes_spec (by omega) (by omega) fun w8 W=>?_
  have ay:=ax.ext W
  simp(disch:=first|(simp only[push_cast];done)|omega) only[push_cast,ay.ld1,bb W,true_and,and_self,zH]
  rw[show(1+(n:Int)+(i:Int)+1)=2+n+i by omega]
  refine Gate_clauses_spec ha k (by omega) fun w9 v9 Y aj D=>?_
  have az:=ay.ext aj
  have ae:=ad.trans (W.trans aj)
  simp(disch:=first|(simp only[push_cast];done)|omega) only[push_cast,az.ld1,true_and,and_self]
  have cp:=W.size;have co:=ai.size;have ch:=au.size;have cq:=aj.size
  have cl:ls.length≤2401:=by
   have s:=Xr n (gs.take i) 0
   have U:(gs.take i).length=i:=by rw[List.length_take];omega
   rw[N,List.length_cons];omega
  have ce:Y.length≤4:=by rw[D.len];unfold M.gateC;split<;>simp
  refine OwnV.app (us:=Y) (E.ext ae) UR D.own.vals (fun u hu=>?_) (by omega) (by omega) fun v10 w10 Q I a7=>?_
  ·obtain⟨j,hj,rfl⟩:=List.getElem_of_mem hu
   have c0:=D.rows.own j (by rw[←D.len];exact hj)
   obtain⟨o,c,e,_⟩:=c0.ints.shape
   rw[List.getD_eq_getElem?_getD,List.getElem?_eq_getElem hj,Option.getD_some] at e
   rw[e];rfl
  have cf:=I.size
  have aw:=az.same I fun e=>(O _ e).2 rfl
  try simp only[push_cast,true_and]
  refine aw.st (i:=1) (v:=v10) ?_ ?_ qA0 (by rfl) fun cv J cg av=>?_
  ·obtain⟨o,c,e,_⟩:=Q.vals.shape;rw[e];rfl
  ·obtain⟨o,c,e,_⟩:=Q.vals.shape;rw[e];rfl
  try simp(disch:=omega) only[push_cast,zH]
  have c6:=J.size
  have bi:∀b,lv.ownBlock=some b→b<G.heap.size:=fun b k=>E.lt k
  have c1:RowsR H.heap.size (fun b=>lv.ownBlock≠some b∧b≠T) w9 ls ([1]::M.gatesC n (gs.take i) 0):=X.ext ae
  have c3:RowsR H.heap.size (fun b=>lv.ownBlock≠some b∧b≠T) w9 Y (M.gateC (2+n+i) g):=by
   have s:=D.rows
   refine⟨by omega,s.own,fun j b hj k=>?_,s.dj⟩
   have U:=(s.sub j b hj k).2
   exact⟨⟨fun e=>by have h6:=bi b e;omega,fun e=>by have:=B.lt;omega⟩,by omega⟩
  have c2:=c1.app N c3 D.len fun j1 j2 b s U k e=>by
   have:=(X.own j1 s).lt k
   have:=(D.rows.sub j2 b U e).2
   omega
  have a9:∀b,v10.ownBlock=some b→H.heap.size≤b∧b≠T:=fun b k=>by
   rcases a7 b k with h|h
   ·exact O b h
   ·have:=B.lt;exact⟨by omega,fun e=>by omega⟩
  refine hC L _ _ ⟨by simp,?_,v10,ls++Y,av,Q.same J fun b k e=>(a9 b k).2 e,?_,?_,a9⟩
  ·exact Ext.then (Ext.then (f.trans ae) I fun b k=>(O b k).1) J fun b k=>by subst k;exact l0
  ·rw[b9,List.length_append,N,D.len,List.length_cons,List.length_cons,List.length_append]
   omega
  ·rw[b9,←List.cons_append]
   have bf:=c2.weaken (F':=fun b=>(lv.ownBlock≠some b∧b≠T)∧b<w9.heap.size) fun b s _ h3=>⟨s,h3⟩
   refine((bf.same I fun b s _ e=>s.1.1 e).same J fun b s _ e=>s.1.2 e).weaken fun b s _ _=>⟨fun e=>?_,s.1.2⟩
   rcases a7 b e with h|h
   ·exact s.1.1 h
   ·omega
 ·have bx:i=gs.length:=by omega
  subst bx
  rw[List.take_length] at N X
  have bt:=b6.ext f
  obtain⟨o,c,bd,_⟩:=E.vals.shape
  generalize (ls.map fun x=>[x]).length=l at bd
  subst bd
  rw[B.ldAgg (t:=zl) yh]
  have z2:=ah.size
  refine bt.stAgg (cs':=[.int .i64 m,.slice o l c]) rfl yh net_one fun w5 al c7 af=>?_
  rw[af.lv (t:=zl) yh,hm]
  have a8:Ext w w5:=Ext.then e4 al fun y hy=>by subst hy;omega
  have be:∀b,H.heap.size≤b→b≠b1:=fun b k e=>by have:=b6.lt;omega
  refine hK w5 _ ls a8 ⟨E.same al fun b k e=>be b (O b k).1 e,by rw[N];show _=([1]::(M.gatesC n gs 0++[])).length;rw[List.append_nil],fun b k=>by have:=(O b k).1;omega,?_⟩
  show RowsR _ _ _ _ ([1]::(M.gatesC n gs 0++[]))
  rw[List.append_nil]
  have s:=(X.weaken (F':=fun b=>(Value.slice o l c).ownBlock≠some b∧H.heap.size≤b) fun b s U _=>⟨s.1,U⟩).same al fun b s _ e=>be b s.2 e
  exact⟨by have:=a8.size;omega,s.own,fun i b hi k=>⟨(s.sub i b hi k).1.1,by have:=(s.sub i b hi k).1.2;omega⟩,s.dj⟩
end Go.Proofs.YtaekfnbnhjgboaaGreatDoor
end
section
namespace Go.Proofs.YtaekfnbnhjgboaaGreatDoor
open Go Go.Vc Go.Proofs
variable {w:World} {K:Value→World→Prop} {D F F' G Fr Fx Fy X:Nat→Prop} {n m N bl bc mb bb kb:Nat} {gs hs:M.Gs} {v xv yv dv tv f:Value} {ls ls':List Value} {xss yss:List (List Int)} {xs ys env:List Int} {ds:List M.Dcl} {t:M.Tm} {ts ks:List M.Tm} {ar ab at_:Addr} {k:Int} {st:Option M.Gs}
theorem ContainsT {p:M.Tm→Bool} (m:TmsR F w v ks) (s:∀(w':World) (x:Value) (t:M.Tm) (K:Value→World→Prop),Ext w w'→t∈ks→TermR F w' x t→(∀w'',Ext w' w''→K (.bool (p t)) w'')→vcallv PP f #[x] w' K) (o:∀w',Ext w w'→K (.bool (ks.any p)) w'):
  vcall PP yF #[v,f] w K:=by
 apply qn
 apply qM
 have y:=m.small
 simp(disch:=(simp only[push_cast];done)) only[push_cast,m.len]
 refine vloop_up ks.length (fun i u w'=>u=[.int .i64 i]∧Ext w w'∧∀j,j<i→p (ks.getD j default)=false) ⟨rfl,Same.refl _ _,fun j l=>absurd l (by omega)⟩ ?_
 rintro i _ _ q C hi ⟨rfl,a,g⟩ r
 have k:=m.ext a
 simp only[push_cast]
 refine zh (fun b=>?_) (fun b=>?_)
 ·have d:i<ks.length:=by omega
  simp(disch:=first|(simp only[push_cast];done)|omega) only[push_cast,k.iaddr]
  refine k.load zN d fun x n=>?_
  refine s q x _ _ a (M.getD_mem d _) n fun z h=>?_
  refine yo (fun c=>?_) (fun c=>?_)
  ·try simp only[push_cast]
   rw[decide_eq_true (by omega)]
   have:=o z (a.trans h)
   rwa[List.any_eq_true.2 ⟨_,M.getD_mem d _,c⟩] at this
  ·rw[inc64' (by omega)]
   refine r d _ _ ⟨rfl,a.trans h,fun j l=>?_⟩
   by_cases e:j<i
   ·exact g j e
   ·have:j=i:=by omega
    subst this;exact c
 ·try simp only[push_cast]
  rw[decide_eq_false (by omega)]
  have:=o q a
  rwa[show ks.any p=false from by
   rw[List.any_eq_false]
   intro x n
   obtain⟨j,l,rfl⟩:=List.getElem_of_mem n
   have:=g j (by omega)
   rw[List.getD_eq_getElem?_getD,List.getElem?_eq_getElem l,Option.getD_some] at this
   rw[this];decide] at this
def Zk0 (ds:List M.Dcl) (ts:List M.Tm):Bool:=decide (ts.length≤8)&&M.declOk ds&&ts.all fun t=>decide (M.tsort ds t=0)
theorem all8_iff:Zk0 ds ts=true↔ts.length≤8∧M.declOk ds=true∧∀t,t∈ts→M.tsort ds t=0:=by
 simp only[Zk0,Bool.and_eq_true,decide_eq_true_eq,List.all_eq_true,and_assoc]
def cnfE (ds:List M.Dcl) (ts:List M.Tm):M.Cnf×Nat:=if Zk0 ds ts=true then(match M.listB ds ts with
 |some r=>(M.blastC ds r.1 r.2,0)
 |none=>(⟨0,[]⟩,1)) else(⟨0,[]⟩,2)
def errV (ar at_:Addr):Nat→Value
 |0=> .nilIface
 |1=>erv ar
 |_=>erv at_
theorem x50 {N:Nat} (a:N≤w.heap.size):CnfO N w (.slice none 0 0) [] ⟨0,[]⟩:=⟨OwnV.nil,rfl,fun b c=>(by cases c),RowsR.nil a⟩
theorem qW0:zT PP zl [] w K=K (.agg ⟨[.int .i64 0,.slice none 0 0]⟩) w:=yw WH (us:=[]) rfl rfl
theorem xH0 (h:M.tsort ds t=0):M.sortM ds t=0∧M.fits t=true∧M.sizeM t≤20:=by
 obtain⟨a,b,d,c⟩:=Zz0 (ds:=ds) (t:=t) (by rw[h];decide)
 unfold M.tsort at h
 rw[if_pos ⟨a,b⟩] at h
 exact⟨h,a,c⟩
structure RootsB (n bl bb kb m:Nat) (ar ab:Addr) (ds:List M.Dcl) (dv:Value) (ts:List M.Tm) (F:Nat→Prop) (w:World) (i:Nat) (v:Value) (w':World):Prop where
 ex:∃(F1:Nat→Prop) (st1:Option M.Gs) (vs:List Value) (xss rs:List (List Int)),BlR n bl bb kb m ar ab ds dv (fun b=>b=m∨v.ownBlock=some b) F1 w' st1∧Mv (P1 m F) w (P1 m F1) w'∧OwnV PP zB w' v vs∧(∀b,v.ownBlock=some b→w.heap.size≤b∧¬F1 b)∧
  vs.length=xss.length∧vs.length≤i∧RowsR w.heap.size (fun b=> ¬F1 b∧b≠m∧v.ownBlock≠some b) w' vs xss∧TOut n (M.seqB ((ts.take i).map (M.termB ds))) (some []) st1 rs∧(∀gs,st1=some gs→xss=M.rootsC rs∧rs.length=i)
theorem blastCnf_spec (hd:DclsR Fx w dv ds) (ht:TmsR Fy w tv ts) (he:Errs (fun _=>False) w ar ab) (co:Sent w yy at_)
  (hK:∀w' lv ls,Ext w w'→CnfO w.heap.size w' lv ls (cnfE ds ts).1→K (.tuple #[.agg ⟨[.int .i64 (cnfE ds ts).1.many,lv]⟩,errV ar at_ (cnfE ds ts).2]) w'):vcall PP ZB #[dv,tv] w K:=by
 apply zg0
 obtain⟨o,c,c8,_⟩:=hd.shape
 generalize (ds.map fun d=>[Value.string d.1,Value.int .i64 d.2]).length=l at c8
 subst c8
 refine j7 fun b1 w1 dy ca di be=>?_
 refine zF xN fun b2 w2 dz bi ea bg=>?_
 have e2:=ca.trans bi
 have z1:=ca.size
 have z2:=bi.size
 have e8:=ht.small
 replace be:Blk w1 b1 [.slice o l c] zD:=be
 have a6:=be.ext bi
 have none_:∀{w3:World} {g:Nat} {a:Addr} {k:Nat},Ext w2 w3→Sent w3 g a→b2≠g→errV ar at_ k=erv a→cnfE ds ts=(⟨0,[]⟩,k)→y7 w3 fun B=>
   zT PP zl [] B fun t20 br=>br=B∧
   zf PP yd (.pointer (some ⟨g,0,none⟩)) B fun t21 bs=>bs=B∧
   zu PP zl (.pointer (some ⟨b2,0,none⟩)) t20 B fun _ R=>(zf PP yd (.pointer (some ⟨g,0,none⟩)) R fun v x=>v=t21∧x=R)∧
   vlv PP zl (.pointer (some ⟨b2,0,none⟩)) R fun r4 aj=>
   K (.tuple #[r4,t21]) aj:=fun{w3 g a k} z hs db cb bh=>by
  refine zw fun w4 a1 _=>?_
  have cl:Sent w4 g a:=hs.same a1 id
  have cy:=bg.ext (z.trans a1)
  rw[qW0]
  simp only[xB Yp cl.cell,true_and]
  refine cy.stAgg (cs':=[.int .i64 0,.slice none 0 0]) rfl yh net_one fun Q bo eb d0=>?_
  have cm:Sent Q g a:=cl.same bo fun e=>db e.symm
  simp only[xB Yp cm.cell,true_and,and_self]
  rw[d0.lv (t:=zl) yh]
  have e5:Ext w Q:=Ext.then (e2.trans (z.trans a1)) bo fun y hy=>by subst hy;omega
  have:=hK Q (.slice none 0 0) [] e5
  rw[bh,cb] at this
  exact this (x50 e5.size)
 have gT:=co.lt
 have gR:=he.room.lt
 have bad: ¬Zk0 ds ts=true→∀{w3:World},Ext w2 w3→y7 w3 fun B=>
   zT PP zl [] B fun t20 br=>br=B∧
   zf PP yd (.pointer (some ⟨yy,0,none⟩)) B fun t21 bs=>bs=B∧
   zu PP zl (.pointer (some ⟨b2,0,none⟩)) t20 B fun _ R=>(zf PP yd (.pointer (some ⟨yy,0,none⟩)) R fun v x=>v=t21∧x=R)∧
   vlv PP zl (.pointer (some ⟨b2,0,none⟩)) R fun r4 aj=>
   K (.tuple #[r4,t21]) aj:=fun h {w3} z=>none_ (k:=2) z (co.same (e2.trans z) id) (by omega) rfl (by unfold cnfE;rw[if_neg h])
 refine y5 (fun u w'=>u=[]∧Ext w2 w'∧ts.length≤8∧M.declOk ds=true) (fun J hJ=>?_) ?_
 ·simp(disch:=(simp only[push_cast];done)) only[push_cast,(ht.ext e2).len]
  refine zh (fun h=>bad (fun h8=>by have:=(all8_iff.1 h8).1;omega) (Same.refl _ _)) (fun h=>?_)
  simp(disch:=first|(simp only[push_cast];done)|omega) only[push_cast,a6.ld0]
  refine DeclOk_spec (hd.ext e2) fun w3 z=>?_
  simp only[push_cast]
  refine yo (fun h2=>bad (fun h8=>by have:=(all8_iff.1 h8).2.1;rw[this] at h2;cases h2) z) (fun h2=>hJ _ _ ⟨rfl,z,by omega,by simpa using h2⟩)
 rintro _ _ w3 ⟨rfl,z,h8,a9⟩
 have e3:=e2.trans z
 simp only[push_cast]
 refine ContainsT (p:=fun t=>decide (M.tsort ds t≠0)) (ht.ext e3) (fun w' x t K c9 _ hx d5=>?_) fun w4 a1=>?_
 ·simp only[push_cast,List.append_nil,List.nil_append]
  apply Wv
  obtain⟨cx,rfl,a0⟩:=hx.cells
  refine zx fun b5 Q Z I bo h5=>?_
  have c1:=(a6.ext z).ext (c9.trans I)
  simp(disch:=first|(simp only[push_cast];done)|omega) only[push_cast,c1.ld0]
  rw[h5.ldAgg (t:=zd) (by rw[jA a0];exact zN)]
  refine TermSort_spec (hd.ext (e3.trans (c9.trans I))) (a0.ext I).term fun w6 d8=>?_
  simp only[push_cast]
  exact d5 _ (I.trans d8)
 have e4:=e3.trans a1
 have a5:=z.trans a1
 refine yo (fun h=>bad (fun h8=>?_) a5) (fun h=>?_)
 ·obtain⟨t,n,h2⟩:=List.any_eq_true.1 h
  exact of_decide_eq_true h2 ((all8_iff.1 h8).2.2 t n)
 have a8:∀t,t∈ts→M.tsort ds t=0:=fun t hm=>by
  have:=List.any_eq_false.1 h t hm
  simpa using this
 have cg:Zk0 ds ts=true:=all8_iff.2 ⟨h8,a9,a8⟩
 have c0:=a6.ext a5
 simp(disch:=first|(simp only[push_cast];done)|omega) only[push_cast,c0.ld0]
 refine newBlaster_spec a9 (hd.ext e4) (he.ext0 e4) fun Q bl bb kb m F5 Z I ce=>?_
 have e5:=e4.trans I
 simp(disch:=(simp only[push_cast];done)) only[push_cast,(ht.ext e5).len]
 have z4:=e4.size
 have z5:=I.size
 have U:∀b,P1 m F5 b→w4.heap.size≤b:=fun b f=>f.elim (fun h=>ce b (.inl h)) fun h=>ce b (.inr (.inl h))
 have aw:∀b,P1 m F5 b→b<Q.heap.size:=fun b f=>f.elim (fun h=>Z.bd.lt b (.inl h)) fun h=>Z.bd.lt b (.inr h)
 have cz:BlR (M.bits ds).toNat bl bb kb m ar ab ds (.slice o l c) (fun b=>b=m∨(Value.slice none 0 0).ownBlock=some b) F5 Q (some []):=
  Z.swap Z (Same.refl (fun _=>False) Q) (fun b f=>f.elim) (fun b f=>f.elim (fun h=>⟨by subst h;exact aw b (.inr rfl),fun _=>h⟩) fun h=>by cases h) (.inl rfl)
 refine vloop_up ts.length (fun i u w'=> ∃v,u=[v,.int .i64 i]∧RootsB (M.bits ds).toNat bl bb kb m ar ab ds (.slice o l c) ts F5 Q i v w') ⟨_,rfl,⟨F5,some [],[],[],[],cz,Mv.refl,OwnV.nil,(fun b f=>by cases f),rfl,Nat.le_refl _,RowsR.nil (Nat.le_refl _),TOut.nil,fun gs h=>⟨rfl,rfl⟩⟩⟩ ?_
 rintro i _ g w6 C hi ⟨v,rfl,⟨F6,cr,vs,xss,rs,c7,ad,bk,P,a3,e9,W,ao,av⟩⟩ hC
 simp only[push_cast]
 have z6:=ad.same.size
 have e6:Ext w w6:=Ext.then e5 ad.same fun y hy=>by have:=U y hy;omega
 have d4:∀b,F6 b→w4.heap.size≤b:=fun b f=>(ad.new b (.inl f)).elim (U b) fun h=>by omega
 have e7:w4.heap.size≤m:=U m (.inr rfl)
 have cp:∀b,v.ownBlock=some b→¬P1 m F6 b:=fun b f hp=>hp.elim (P b f).2 fun e=>by have:=(P b f).1;have:=aw m (.inr rfl);omega
 refine zh (fun a=>?_) (fun a=>?_)
 ·have O:i<ts.length:=by omega
  have cn:=(ht.weaken (F':=fun b=>b<w.heap.size) fun b _ hl=>hl).ext e6
  simp(disch:=first|(simp only[push_cast];done)|omega) only[push_cast,cn.iaddr]
  refine cn.load zN O fun x hx=>?_
  obtain⟨cx,rfl,a0⟩:=hx.cells
  refine zF xA fun b7 w7 H N ec d1=>?_
  refine stTerm d1 rfl (a0.ext N) fun w8 dh ed d2=>?_
  have Y:Ext w6 w8:=Ext.then N dh fun y hy=>by subst hy;omega
  have eg:=Y.size
  have v8:=a0.ext Y
  simp(disch:=(simp only[push_cast];done)) only[push_cast,d2.ldAgg (t:=zd) (by rw[jA a0];exact zN)]
  obtain⟨bn,_,dx⟩:=xH0 (a8 _ (M.getD_mem O default))
  have d6:=c7.grow Y
  refine term_spec a9 _ (by rw[bn];decide) (by omega) d6 (v8.term.weaken fun b f _=>⟨fun h=>by have:=d4 b h;omega,fun h=>h.elim (fun e=>by omega) fun e=>by have:=(P b e).1;omega⟩) fun w9 F9 cs r zs G a2 ci dk bp=>?_
  have z9:=a2.same.size
  have b6:TOut (M.bits ds).toNat (M.seqB ((ts.take (i+1)).map (M.termB ds))) (some []) cs (rs++[zs]):=by
   rw[M.take_add O default,List.map_append]
   exact ao.snoc bp
  have ay:Mv (P1 m F5) Q (P1 m F9) w9:=(ad.ext Y).trans a2
  have a7:∀b,(v.ownBlock=some b)→¬F9 b:=fun b f hf=>a2.off (cp b f) (by have:=bk.lt f;omega) (.inl hf)
  have ae:RowsR Q.heap.size (fun b=> ¬F9 b∧b≠m∧v.ownBlock≠some b) w9 vs xss:=
   (((W.weaken (F':=fun b=>(¬F6 b∧b≠m∧v.ownBlock≠some b)∧b<w6.heap.size) fun b n _ h3=>⟨n,h3⟩).ext Y).same a2.same fun b n _ hp=>hp.elim n.1.1 n.1.2.1).weaken fun b n _ _=>
    ⟨fun hf=>a2.off (fun hp=>hp.elim n.1.1 n.1.2.1) (by omega) (.inl hf),n.1.2.1,n.1.2.2⟩
  have bm:OwnV PP zB w9 v vs:=(bk.ext Y).same a2.same cp
  obtain⟨bc,D,c5⟩:=G.bd.blk
  have ax:∀b,F9 b→b<w9.heap.size:=fun b f=>G.bd.lt b (.inl f)
  cases cs with
  |none=>
   simp only at D
   simp(disch:=first|(simp only[push_cast];done)|omega) only[push_cast,G.blk.ld0,D.ld1,qO0,zH]
   exact hC O _ _ ⟨v,by simp,⟨F9,none,vs,xss,_,G,ay,bm,fun b f=>⟨(P b f).1,a7 b f⟩,a3,by omega,ae,b6,fun gs h=>by cases h⟩⟩
  |some cw=>
   simp only at D
   have di:zs.length=1:=by
    rcases bp with⟨g0,g1,q1,q2,q3⟩|⟨q1,_⟩
    ·rw[M.term_len a9 _ (by rw[bn];decide) (M.Bd.reach_of_run q3),bn];rfl
    ·cases q1
   have ag:∃q,cr=some q:=by
    rcases bp with⟨g0,g1,q1,q2,q3⟩|⟨q1,_⟩
    ·exact⟨_,q1⟩
    ·cases q1
   obtain⟨q,ag⟩:=ag
   obtain⟨bq,ch⟩:=av _ ag
   simp(disch:=first|(simp only[push_cast];done)|omega) only[push_cast,G.blk.ld0,D.ld1,qM0,ci.iaddr,ci.load]
   refine lit_ints (xs:=[.int .i64 (zs.getD 0 0)]) (us:=[zs.getD 0 0]) rfl (by simp) fun w10 X dp au cq cf=>?_
   refine lit_lists (xs:=[.slice (some ⟨X,0,none⟩) 1 1]) (fun x hx=>by rw[List.mem_singleton.1 hx];exact⟨_,_,_,rfl⟩) (by simp) fun a4 dw dq aa dr V=>?_
   have S:=au.trans aa
   refine OwnV.app (us:=[.slice (some ⟨X,0,none⟩) 1 1]) (bm.ext S) UR V.vals (by simp[Value.oneCell']) (by simp;omega) (by simp;omega) fun v12 ct b0 s az=>?_
   have dm:=au.size;have dn:=aa.size;have z12:=s.size
   try simp(disch:=omega) only[push_cast,zH]
   have dg:∀b,v.ownBlock=some b→b<w9.heap.size:=fun b f=>bm.lt f
   have an:RowsR Q.heap.size (fun b=>(¬F9 b∧b≠m∧v.ownBlock≠some b)∧b<a4.heap.size) a4 (vs++[.slice (some ⟨X,0,none⟩) 1 1]) (xss++[[zs.getD 0 0]]):=by
    have n:=(ae.weaken (F':=fun b=>(¬F9 b∧b≠m∧v.ownBlock≠some b)∧b<a4.heap.size) fun b n _ h3=>⟨n,by omega⟩)
    refine RowsR.new n a3 S (cf.ext aa) (fun b f=>?_) fun b f=>?_
    ·have e6:X=b:=Option.some.inj f
     omega
    ·have e6:X=b:=Option.some.inj f
     exact⟨⟨fun hf=>by have:=ax b hf;omega,fun e=>by have:=G.met.lt;omega,fun e=>by have:=dg b e;omega⟩,by omega⟩
   have c6:∀b,(b=m∨v12.ownBlock=some b)→b<a4.heap.size→(b=m∨v.ownBlock=some b):=fun b f hl=>f.elim .inl fun h=>(az b h).elim .inr fun h2=>by omega
   have ah:∀b,v12.ownBlock=some b→Q.heap.size≤b∧¬F9 b∧(v.ownBlock=some b∨a4.heap.size≤b):=fun b f=>by
    rcases az b f with h|h
    ·exact⟨(P b h).1,a7 b h,.inl h⟩
    ·exact⟨by omega,fun hf=>by have:=ax b hf;omega,.inr h⟩
   refine hC O _ _ ⟨v12,by simp,⟨F9,some cw,vs++[.slice (some ⟨X,0,none⟩) 1 1],xss++[[zs.getD 0 0]],rs++[zs],(G.grow S).swap Z s (fun b f=>⟨.inr f,(P b f).1,a7 b f⟩) (fun b f=>⟨?_,c6 b f⟩) (.inl rfl),((ay.ext S).to s fun b f=> .inr (P b f).1),b0,fun b f=>⟨(ah b f).1,(ah b f).2.1⟩,?_,?_,?_,b6,fun gs h=>⟨?_,?_⟩⟩⟩
   ·rcases f with h|h
    ·have:=G.met.lt;omega
    ·exact b0.lt h
   ·rw[List.length_append,List.length_append,a3];rfl
   ·rw[List.length_append];simp;omega
   ·refine(an.same s fun b n _ e=>n.1.2.2 e).weaken fun b n _ _=>⟨n.1.1,n.1.2.1,fun e=>?_⟩
    rcases(ah b e).2.2 with h|h
    ·exact n.1.2.2 h
    ·omega
   ·rw[bq];unfold M.rootsC;rw[List.map_append];rfl
   ·rw[List.length_append,ch];rfl
 ·have O:i=ts.length:=by omega
  subst O
  rw[List.take_length] at ao
  have bt:Ext w2 w6:=Ext.then (a5.trans I) ad.same fun y hy=>by have:=U y hy;have:=a5.size;omega
  refine zw fun w7 N _=>?_
  have H:=c7.grow N
  have bu:=bt.trans N
  obtain⟨bc,D,c5⟩:=H.bd.blk
  cases cr with
  |none=>
   have dc:M.listB ds ts=none:=by
    rcases ao with⟨g0,g1,q1,q2,q3⟩|⟨q1,q2⟩
    ·cases q2
    ·exact q2 [] rfl
   simp only at D
   simp(disch:=first|(simp only[push_cast];done)|omega) only[push_cast,H.blk.ld0,D.ld1,xB Yp H.bd.err.room.cell,true_and]
   refine XJ0 ?_
   simp only[push_cast]
   refine none_ (g:=xy) (a:=ar) (k:=1) bu H.bd.err.room (by omega) rfl ?_
   unfold cnfE
   rw[if_pos cg,dc]
  |some q=>
   have b8:M.listB ds ts=some (q,rs):=by
    rcases ao with⟨g0,g1,q1,q2,q3⟩|⟨q1,q2⟩
    ·cases q1;cases q2;exact q3
    ·cases q1
   have b4:=M.list_says a9 (fun t ht=>by rw[(xH0 (a8 t ht)).1];decide) b8
   obtain⟨bq,ch⟩:=av _ rfl
   simp only at D
   simp(disch:=first|(simp only[push_cast];done)|omega) only[push_cast,H.blk.ld0,D.ld1,xB Yp H.bd.err.room.cell,true_and]
   refine is_no ?_
   obtain⟨gvv,mb,d7,e1,e0⟩:=c5 q rfl
   simp(disch:=first|(simp only[push_cast];done)|omega) only[push_cast,H.blk.ld0,D.ld0]
   refine cnf8_spec d7 b4.net fun w8 lv ai bj F=>?_
   have cv:=N.trans bj
   have bv:=bu.trans bj
   have z7:=N.size;have z8:=bj.size;have ef:=bt.size
   refine zF xN fun b9 w9 G d9 dk d3=>?_
   obtain⟨o2,c2,cc,_⟩:=F.lst.vals.shape
   generalize (ai.map fun x=>[x]).length=l2 at cc
   subst cc
   refine d3.stAgg (cs':=[.int .i64 (1+(M.bits ds).toNat+q.length:Nat),.slice o2 l2 c2]) rfl yh net_one fun w10 ck cq aq=>?_
   have E:Ext w8 w10:=Ext.then d9 ck fun y hy=>by subst hy;omega
   have ap:=cv.trans E
   simp(disch:=first|(simp only[push_cast];done)|omega) only[push_cast,aq.ld1]
   have da:ai.length≤2401:=by
    rw[F.len]
    show([1]::(M.gatesC _ q 0++[])).length≤2401
    have n:=Xr (M.bits ds).toNat q 0
    have h2:=b4.net.few
    rw[List.append_nil,List.length_cons];omega
   refine OwnV.app (us:=vs) (F.lst.ext E) UR (bk.vals.ext ap) (fun u hu=>?_) (by omega) (by omega) fun v11 a4 V L cd=>?_
   ·obtain⟨j,hj,rfl⟩:=List.getElem_of_mem hu
    have dd:=W.own j (by rw[←a3];exact hj)
    obtain⟨o,c,e,_⟩:=dd.ints.shape
    rw[List.getD_eq_getElem?_getD,List.getElem?_eq_getElem hj,Option.getD_some] at e
    rw[e];rfl
   have al:=F.dl
   have ba:∀b,(Value.slice o2 l2 c2).ownBlock=some b→b<w8.heap.size:=fun b f=>F.lst.lt f
   have bx:=aq.same L fun e=>by have:=ba _ e;omega
   have dn:=L.size
   have dm:=E.size
   obtain⟨o3,c3,A,_⟩:=V.vals.shape
   generalize ((ai++vs).map fun x=>[x]).length=l3 at A
   subst A
   refine bx.st (i:=1) (v:= .slice o3 l3 c3) rfl rfl qA0 (by rfl) fun ct s dt bf=>?_
   have ak:Blk ct b9 [.int .i64 (1+(M.bits ds).toNat+q.length:Nat),.slice o3 l3 c3] zl:=bf
   rw[ak.ldAgg (t:=zl) yh]
   have bw:=bg.ext (bv.trans E)
   have ee:=bg.lt
   have A:∀b,(Value.slice o3 l3 c3).ownBlock=some b→w7.heap.size≤b∧b≠b9∧((Value.slice o2 l2 c2).ownBlock=some b∨w10.heap.size≤b):=fun b f=>by
    rcases cd b f with h|h
    ·exact⟨al b h,fun e=>by have:=ba b h;omega,.inl h⟩
    ·exact⟨by omega,fun e=>by omega,.inr h⟩
   have c4:=(bw.same L fun e=>by have:=al _ e;omega).same s (by omega)
   refine c4.stAgg (cs':=[.int .i64 (1+(M.bits ds).toNat+q.length:Nat),.slice o3 l3 c3]) rfl yh net_one fun cu af du bz=>?_
   rw[bz.lv (t:=zl) yh]
   have bh:cnfE ds ts=(M.blastC ds q rs,0):=by unfold cnfE;rw[if_pos cg,b8]
   have de:RowsR Q.heap.size (fun b=>(Value.slice o2 l2 c2).ownBlock≠some b∧b<w8.heap.size) w10 ai ([1]::(M.gatesC (M.bits ds).toNat q 0++[])):=by
    have n:=(F.rows.weaken (F':=fun b=>(Value.slice o2 l2 c2).ownBlock≠some b∧b<w8.heap.size) fun b n _ h3=>⟨n,h3⟩).ext E
    exact⟨by omega,n.own,fun i b hi f=>⟨(n.sub i b hi f).1,by have:=(n.sub i b hi f).2;omega⟩,n.dj⟩
   have df:RowsR Q.heap.size (fun b=>(Value.slice o2 l2 c2).ownBlock≠some b∧b<w8.heap.size) w10 vs xss:=
    (W.weaken (F':=fun b=>(Value.slice o2 l2 c2).ownBlock≠some b∧b<w8.heap.size) fun b n _ h3=>⟨fun e=>by have:=al b e;omega,by omega⟩).ext ap
   have cj:=de.app F.len df a3 fun i j b hi hj n h2=>by
    have:=(F.rows.sub i b hi n).2
    have:=(W.own j hj).lt h2
    omega
   have ac:([1]::(M.gatesC (M.bits ds).toNat q 0++[]))++xss=(M.blastC ds q rs).list:=by
    rw[bq,List.append_nil];rfl
   rw[ac] at cj
   have am:=(((cj.same L fun b n _ e=>n.1 e).same s fun b n _ e=>by subst e;omega).weaken (F':=fun b=>((Value.slice o3 l3 c3).ownBlock≠some b)∧w2.heap.size≤b) fun b n h2 _=>⟨fun e=>by
    rcases(A b e).2.2 with h|h
    ·exact n.1 h
    ·omega,by have:=a5.size;omega⟩).same af fun b n _ e=>by omega
   have b3:Ext w cu:=Ext.then (Ext.then (Ext.then (e2.trans (bv.trans E)) L fun b f=>by have:=al b f;omega) s fun b f=>by subst f;omega) af fun b f=>by subst f;omega
   have T:=hK cu (.slice o3 l3 c3) (ai++vs) b3
   rw[bh] at T
   refine T ⟨?_,?_,fun b f=>?_,?_⟩
   ·exact((V.same s fun b f e=>(A b f).2.1 e).same af fun b f e=>by have:=(A b f).1;omega)
   ·rw[←ac,List.length_append,List.length_append,F.len,a3];rfl
   ·have:=(A b f).1;omega
   ·exact⟨b3.size,am.own,fun i b hi f=>⟨(am.sub i b hi f).1.1,by have:=(am.sub i b hi f).2;omega⟩,am.dj⟩
end Go.Proofs.YtaekfnbnhjgboaaGreatDoor
end
