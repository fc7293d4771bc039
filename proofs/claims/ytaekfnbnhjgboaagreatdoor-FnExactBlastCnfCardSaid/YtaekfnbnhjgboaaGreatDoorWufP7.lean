import Derived.Test.YtaekfnbnhjgboaaGreatDoorWufP2
import Derived.Test.YtaekfnbnhjgboaaGreatDoorWufP1
import Derived.Laws.CopyRow
import Derived.Laws.IdiomCopy
import Derived.Test.YtaekfnbnhjgboaaGreatDoorWufP6
import Derived.WalkKit
import Derived.ProofKit
import Derived.OpenShut
import Derived.ShutString
import Derived.ChangeOld
import Derived.Below
import Derived.JoinedOf
import Derived.Test.YtaekfnbnhjgboaaGreatDoorWufP5
import Derived.Deep.Slices
/- A part of the proof. -/
set_option linter.unusedVariables false
set_option linter.unusedSimpArgs false
set_option linter.unnecessarySimpa false
set_option linter.unusedSectionVars false
section
namespace Go.Vc
open Go
section
variable {P:Program} {w w':World} {K:Value→World→Prop} {F:Nat→Prop} {t:TypeId} {v:Value}
theorem Sl.cutLH {k lo hi:Nat} {xs:List (List Value)} {kl kh:IntKind} (h:Sl F w k v xs) (r:elB P t k=true) (y:lo≤hi) (l:hi≤xs.length) (m:∀v',Sl F w k v' ((xs.drop lo).take (hi-lo))→K v' w'):
  yA P t v (some (.int kl lo)) (some (.int kh hi)) none w' K:=by
 obtain⟨hu,hs⟩:=z30 r
 obtain⟨⟨a,c,rfl,u,p,d⟩,hw⟩:=h
 have hlen:((xs.drop lo).take (hi-lo)).length=hi-lo:=by rw[List.length_take,List.length_drop];omega
 refine⟨_,w',?_,m (sliced a lo hi c k) ⟨⟨_,c-lo,by unfold sliced;rw[hlen],by omega,by omega,fun j=>?_⟩,fun x s=>hw x (List.mem_of_mem_drop (List.mem_of_mem_take s))⟩⟩
 ·rw[run_sliceAt_slice w' t _ _ _ _ hu,run_slice_lh w' t _ _ _ hu kl kh lo hi (by omega) (by omega) (by omega),run_sizeOf hs]
  simp[Result.andThen]
 ·have q:lo<hi:=by
   have:0<((xs.drop lo).take (hi-lo)).length:=List.length_pos_iff.2 j
   omega
  obtain⟨b,o,rfl,hF,n,g⟩:=d (fun e=>by rw[e] at l;simp at l;omega)
  refine⟨b,o+lo*k,?_,hF,n,fun i f=>?_⟩
  ·rw[if_neg (by omega)];simp[xp]
  ·rw[hlen] at f
   have:=g (lo+i) (by omega)
   rw[show o+lo*k+i*k=o+(lo+i)*k by rw[Nat.add_mul];omega]
   rwa[List.getD_eq_getElem?_getD,List.getElem?_take_of_lt f,List.getElem?_drop,←List.getD_eq_getElem?_getD]
theorem Vals.cutLH {lo hi:Nat} {vs:List Value} {kl kh:IntKind} (h:Vals F w v vs) (e:elB P t 1=true) (d:lo≤hi) (c:hi≤vs.length) (b:∀v',Vals F w v' ((vs.drop lo).take (hi-lo))→K v' w'):
  yA P t v (some (.int kl lo)) (some (.int kh hi)) none w' K:=by
 refine Sl.cutLH h e d (by simpa using c) fun v' a=>b v' ?_
 unfold Vals
 rw[List.map_take,List.map_drop];exact a
theorem Ints.cutLH {lo hi:Nat} {xs:List Int} {kl kh:IntKind} (h:Ints F w v xs) (e:elB P t 1=true) (d:lo≤hi) (c:hi≤xs.length) (b:∀v',Ints F w v' ((xs.drop lo).take (hi-lo))→K v' w'):
  yA P t v (some (.int kl lo)) (some (.int kh hi)) none w' K:=by
 refine Vals.cutLH h e d (by simpa using c) fun v' a=>b v' ?_
 unfold Ints
 rw[List.map_take,List.map_drop];exact a
theorem blk_from {b n lo:Nat} {kl:IntKind} (a:elB P t 1=true) (d:lo≤n):
  yA P t (.slice (some ⟨b,0,none⟩) n n) (some (.int kl lo)) none none w K=K (.slice (some ⟨b,if n=lo then 0 else lo,none⟩) (n-lo) (n-lo)) w:=by
 obtain⟨hu,hs⟩:=z30 a
 refine yB ?_
 rw[run_sliceAt_slice w t _ _ _ _ hu,run_slice_l w t _ _ _ hu kl lo (by omega) (by omega),run_sizeOf hs]
 simp only[Result.andThen,sliced,Int.toNat_natCast]
 by_cases c:n=lo
 ·simp[c]
 ·simp[c,xp]
theorem blk_to {b n hi:Nat} {kl:IntKind} (a:elB P t 1=true) (c:hi≤n):
  yA P t (.slice (some ⟨b,0,none⟩) n n) none (some (.int kl hi)) none w K=K (.slice (some ⟨b,0,none⟩) hi n) w:=by
 obtain⟨hu,hs⟩:=z30 a
 refine yB ?_
 rw[run_sliceAt_slice w t _ _ _ _ hu,run_slice_h w t _ _ _ hu kl hi (by omega) (by omega),run_sizeOf hs]
 simp[Result.andThen,sliced,xp]
theorem j40 {e n:Nat} (h:kj P e n=true):(P.info? e).map (·.size)=some n:=by
 unfold kj at h
 cases hi:P.info? e with
 |none=>rw[hi] at h;cases h
 |some i=>rw[hi] at h;simp[Nat.eq_of_beq_eq_true h]
theorem vcopy {t2 ty te:TypeId} {g off dLen dCap sLen sCap:Nat} {ad:Addr} {cur cs:List Value} (n:elB P t 1=true) (c:Blk w g cur te) (l:cs.length=min sLen dLen)
  (b:∀j u,cs[j]?=some u→w.cell? (ad.add j)=some u) (a:off+cs.length≤cur.length) (f:∀u∈cs,u.oneCell'=true)
  (h:∀w',Same (· =g) w w'→w'.heap.size=w.heap.size→Blk w' g (cur.take off++(cs++cur.drop (off+cs.length))) te→K (.int .i64 cs.length) w'):
  vbi P .copy [t,t2] ty [.slice (some ⟨g,off,none⟩) dLen dCap,.slice (some ad) sLen sCap] w K:=by
 obtain⟨hu,hs⟩:=z30 n
 have m:=run_copy_row (P:=P) w t t2 ty (P.elem t) g off dLen dCap ad sLen sCap ⟨cur⟩ te cs hu (j40 hs) c l b (by simpa using a) f
 refine⟨_,_,m,h _ ⟨rfl,rfl,rfl,by simp[World.setRow],fun k o e=>setRow_other w g k _ e⟩ (by simp[World.setRow]) ?_⟩
 have i:=c.lt
 have d:w.heap[g]?=some (.cells ⟨cur⟩ te (0,0)):=c
 unfold Blk World.setRow
 simp only[Array.getElem?_modify]
 simp[d,List.append_assoc]
theorem jt0 {t2 ty:TypeId} {d a:Option Addr} {dLen dCap sLen sCap:Nat} (c:elB P t 1=true) (b:min sLen dLen=0):vbi P .copy [t,t2] ty [.slice d dLen dCap,.slice a sLen sCap] w K=K (.int .i64 0) w:=by
 obtain⟨hu,hs⟩:=z30 c
 exact yB (run_copy_none (P:=P) w t t2 ty (P.elem t) d a dLen dCap sLen sCap hu (j40 hs) b)
theorem vmkS_blk {bs n:Nat} {z:Value} {u v:IntKind} {e:TypeId} (y:elZ P t 1 bs=true) (he:JC P t=e) (k:yO P e z) (s:z.cells= #[z]) (l:bs*n≤281474976710656) (m:n≤9223372036854775807)
  (x:∀b w',b=w.heap.size→Blk w' b (List.replicate n z) e→Ext w w'→K (.slice (some ⟨b,0,none⟩) n n) w'):Zr0 P t (.int u n) (.int v n) w K:=by
 obtain⟨hu,i,f,hi,d,r,o,F⟩:=xY0 y
 subst he
 have:f=z:=by
  unfold yO at k;rw[hi] at k;simp only[d,Option.some.injEq] at k;exact k
 subst this
 subst o
 obtain⟨w',D,a,q⟩:=run_make_full (P:=P) w 0 t (JC P t) i f 1 hu hi d r u v n l (by simpa[maxLen] using m) (by omega)
 refine⟨_,w',D,x _ w' rfl ?_ ((Same.of_grown q).mono fun _ _ h=>by cases h)⟩
 have e:(madeCells f.cells (n*1)).toList=List.replicate n f:=by
  refine List.ext_getElem (by simp[madeCells]) fun j G H=>?_
  simp[madeCells,s,Nat.mod_one]
 rw[e] at a
 rcases a.2 with⟨h,_⟩|⟨g,cap,cur,E,I,B,C,A,p,c⟩
 ·cases h
 ·cases E
  unfold Blk
  rw[B]
  have:cur.toList=List.replicate n f:=by rw[←c,List.take_of_length_le (by rw[Array.length_toList,p];exact Nat.le_refl _)]
  rw[←this]
theorem vappend_make {bs n:Nat} {ti ty:TypeId} {z:Value} {e:TypeId} (F:elZ P t 1 bs=true) (he:JC P t=e) (p:yO P e z) (A:z.cells= #[z]) (y:P.underlying ti=some (.int .i64)) (B:0<n) (D:n≤1000000) (C:n*bs≤140737488355328)
  (E:∀v' w',OwnV P t w' v' (List.replicate n z)→Ext w w'→(∀b,v'.ownBlock=some b→w.heap.size≤b)→K v' w'):vbi P .append [t,ti] ty [.slice none 0 0,.int .i64 n] w K:=by
 obtain⟨hu,i,o,hi,g,x,s,l⟩:=xY0 F
 subst he
 have:o=z:=by
  unfold yO at p;rw[hi] at p;simp only[g,Option.some.injEq] at p;exact p
 subst this
 subst s
 have q:n*i.bytes≤281474976710656:=by omega
 have c:n≤maxLen:=by simp only[maxLen];omega
 have I:n≠0:=by omega
 have hw:IntKind.i64.wrap (n:Int)=n:=zH (by omega) (by simp only[maxLen] at c;omega)
 have f: ¬(9223372036854775807<(n:Int)):=by simp only[maxLen] at c;omega
 have d: ¬(281474976710656<Builtin.nextslicecap n 0*i.bytes):=by rw[nextslicecap_zero B];omega
 have r: ¬((281474976710656:Int)<(n:Int)*i.bytes):=by
  have h:((n*i.bytes:Nat):Int)≤281474976710656:=by omega
  rw[Int.natCast_mul] at h
  omega
 have J:(Builtin.append_ #[t,ti] ty #[.slice none 0 0,.int .i64 n]).run P w=
   .ok (.slice (some ⟨w.heap.size,0,none⟩) n (grownCap w n 0 (JC P t))) (w.drew.alloc (.cells (Builtin.zeroCells o.cells n++Builtin.zeroCells o.cells (grownCap w n 0 (JC P t)-n)) (JC P t))):=by
  simp[Builtin.append_,run_underlying hu,run_underlying y,sizeOf,typeInfo,zeroValue,hi,g,x,I,hw,f,d,r,asInt,asIntOf,Question.forced,run_firstCells_none,newRow,grownCap]
  intro h
  omega
 have v:=grownCap_ge w n 0 (JC P t)
 have u:grownCap w n 0 (JC P t)≤maxLen:=grownCap_le_maxLen w n 0 (JC P t) c
 have a:∀m,(Builtin.zeroCells o.cells m).toList=List.replicate m o:=fun m=>by
  refine List.ext_getElem (by simp[Builtin.zeroCells,l]) fun j L M=>?_
  simp[Builtin.zeroCells,A,Nat.mod_one]
 refine⟨_,_,J,E _ _ ⟨⟨by simp,.inr ⟨w.heap.size,_,_,by simp,Nat.zero_le _,heap_alloc_new w.drew _,by simpa using v,u,?_,?_⟩⟩,by simp⟩ ⟨rfl,rfl,rfl,by simp,fun k H _=>heap_alloc_old w.drew _ H⟩ fun b G=>by cases G;exact Nat.le_refl _⟩
 ·simp only[Array.size_append,size_zeroCells,l];omega
 ·rw[Array.toList_append,a,a,flat1]
  simp
end
section
open Go.MapKept
theorem k10 {P:Program} {w:World} {K:Value→World→Prop} {t e:TypeId} {d:TypeDesc} {b:Nat} {f:List (Value×Value)} {k x:Value} (I:ZO0 P t d e) (h:MapF d w b f) (q:IsKey d k)
  (E:∀w' C,MapF d w' b C→(∀p,p∈C→p=(k,x)∨p∈f)→Same (· =b) w w'→w'.heap.size=w.heap.size→K undef w'):kW P t (.map (some b)) k x w K:=by
 obtain⟨kt,hm,u⟩:=I
 obtain⟨es,cl,g,s,o,rfl⟩:=h
 rcases findNow_spec q es.toList 0 o with⟨v,A⟩|⟨j,e,v,A,D⟩
 ·refine⟨(),{w with heap:=w.heap.setIfInBounds b (.map (es.push {key:=k,val:=x,born:=cl}) (cl+1))},?_,E _ _ ⟨_,_,(heap_set g).1,stamped_push s A,fun y a=>?_,rfl⟩ (fun p m=>?_) (Uu g) (by simp)⟩
  ·simp[Instr.mapUpdate,run_underlying hm,MapKept.run_getObj_map g,run_checkKey u q,run_findKey u v,run_setObj_map _ g,Result.andThen]
  ·rw[Array.toList_push] at a
   rcases List.mem_append.1 a with a|a
   ·exact o y a
   ·rw[List.mem_singleton.1 a];exact q
  ·rw[Array.toList_push,List.map_append] at m
   rcases List.mem_append.1 m with m|m
   ·exact .inr m
   ·exact .inl (by simpa using m)
 ·have r:es[j]?=some e:=by simpa using A
  have J:∀y∈es.toList,es[0+j]?=some y→({y with key:=k,val:=x}:MapEntry).key=y.key:=fun y _ a=>by
   rw[Nat.zero_add,r] at a;cases a;exact D.symm
  have l:∀y∈(es.modify (0+j) fun y=>{y with key:=k,val:=x}).toList,(y.key=k∧y.val=x)∨y∈es.toList:=fun y a=>by
   obtain⟨i,hi,G⟩:=List.getElem_of_mem a
   have c:(es.modify (0+j) fun y=>{y with key:=k,val:=x})[i]?=some y:=by
    rw[←Array.getElem?_toList,List.getElem?_eq_getElem hi,G]
   rw[Array.getElem?_modify] at c
   split at c
   ·cases F:es[i]? with
    |none=>rw[F] at c;cases c
    |some z=>rw[F] at c;simp only[Option.map_some,Option.some.injEq] at c;left;rw[←c];exact⟨rfl,rfl⟩
   ·right
    rw[←Array.getElem?_toList] at c
    exact List.mem_of_getElem? c
  refine⟨(),{w with heap:=w.heap.setIfInBounds b (.map (es.modify (0+j) fun y=>{y with key:=k,val:=x}) cl)},?_,E _ _ ⟨_,_,(heap_set g).1,stamped_modify s _ _ (fun _ _=>rfl) J,fun y a=>?_,rfl⟩ (fun p m=>?_) (Uu g) (by simp)⟩
  ·have B:((es[0+j]?).map (·.key)).getD k=k:=by rw[Nat.zero_add,r];exact D
   simp only[Instr.mapUpdate,Sem.run_bind,run_underlying hm,MapKept.run_getObj_map g,run_checkKey u q,run_findKey u v,Result.andThen,B,run_keyThatStays q,run_setObj_map _ g]
  ·rcases l y a with⟨n,_⟩|n
   ·rw[n];exact q
   ·exact o y n
  ·obtain⟨y,a,rfl⟩:=List.mem_map.1 m
   rcases l y a with⟨n,H⟩|n
   ·exact .inl (by rw[n,H])
   ·exact .inr (List.mem_map.2 ⟨y,n,rfl⟩)
end
end Go.Vc
end
section
namespace Go.Proofs.YtaekfnbnhjgboaaGreatDoor
open Go Go.Vc Go.Proofs
variable {w:World} {K:Value→World→Prop} {F F' Fx Fy X:Nat→Prop} {n bc mb bb:Nat} {gs:M.Gs} {v:Value} {ar ab:Addr} {st:Option M.Gs}
def SmL (xs:List Int):Prop:=∀x,x∈xs→Sm x
theorem SmL.get {xs:List Int} (h:SmL xs) {i:Nat} (hi:i<xs.length):Sm (xs.getD i 0):=h _ (M.getD_mem hi 0)
theorem SmL.app {xs ys:List Int} (h:SmL xs) (a:SmL ys):SmL (xs++ys):=fun x b=>(List.mem_append.1 b).elim (h x) (a x)
theorem SmL.one {x:Int} (h:Sm x):SmL [x]:=fun y a=>by rw[List.mem_singleton.1 a];exact h
theorem SmL.nil:SmL []:=fun x a=>by cases a
theorem xz {xs:List Int} {i:Nat} (hi:i<xs.length):xs.drop i=xs.getD i 0::xs.drop (i+1):=by
 rw[List.drop_eq_getElem_cons hi,List.getD_eq_getElem?_getD,List.getElem?_eq_getElem hi];rfl
theorem kc0 {i:Nat} {xs ys:List Int} {c:Int} (h:xs.length≤i):M.sumB (xs.drop i) ys c= .ret []:=by
 rw[List.drop_eq_nil_of_le h];cases ys<;>rfl
theorem bsum_spec {xv yv:Value} {xs ys:List Int} {c:Int} (h:BdR n bb ar ab X F w st) (hx:Ints (Off X F) w xv xs) (hy:Ints (Off X F) w yv ys) (hl:xs.length≤ys.length) (h8:xs.length≤1000) (L:SmL xs) (P:SmL ys) (hc:Sm c)
  (hK:∀w' F' st' r zs,BdR n bb ar ab X F' w' st'→Mv F w F' w'→NewI X w F' w' r zs→SmL zs→M.Bd.Out n (M.sumB xs ys c) st st' zs→K r w'):
  vcall PP xi #[.pointer (some ⟨bb,0,none⟩),xv,yv,.int .i64 c] w K:=by
 apply Vq
 simp(disch:=first|(simp only[push_cast];done)|omega) only[push_cast,hx.len]
 refine vloop_up xs.length (fun i u w'=> ∃v a r zs S,u=[.int .i64 S,r,.int .i64 i]∧BdR n bb ar ab X v w' a∧Mv F w v w'∧NewI X w v w' r zs∧SmL zs∧zs.length=i∧Sm S∧
  ∀st2 rs,M.Bd.Out n (M.sumB (xs.drop i) (ys.drop i) S) a st2 rs→M.Bd.Out n (M.sumB xs ys c) st st2 (zs++rs)) ⟨F,st,_,[],c,rfl,h,Mv.refl,NewI.nil,SmL.nil,rfl,hc,fun _ _ h=>h⟩ ?_
 rintro i _ g w1 C hi ⟨v,a,r,zs,S,rfl,h1,y,G,Q,a8,x,f⟩ hC
 simp only[push_cast]
 refine zh (fun ad=>?_) (fun ac=>?_)
 ·have e:i<xs.length:=by omega
  refine zw fun w2 j _=>?_
  have h2:=h1.ext j
  have m:=y.ext j
  have I:=Ints.mv hx m
  have N:=Ints.mv hy m
  simp(disch:=first|(simp only[push_cast];done)|omega) only[push_cast,I.iaddr,I.load,N.iaddr,N.load,true_and]
  refine Qw h2 (L.get e) (P.get (by omega)) fun w3 F3 af d h3 A hd a3=>?_
  refine Qw h3 hd x fun w4 U a9 s h4 B hs a4=>?_
  refine yj yT yn yz rfl rfl fun b5 w5 aa k ae W=>?_
  have D:=(m.trans (A.trans B)).ext k
  have h5:=h4.ext k
  have t:NewI X w U w5 r zs:=(G.mv ((Mv.refl.ext j).trans (A.trans B))).mv (Mv.refl.ext k)
  refine t.app1 W D.same.size h5.lt (by omega) fun r6 w6 a7 H=>?_
  have h6:BdR n bb ar ab X U w6 a9:=h5.upd h.err H fun b Y=>t.off b Y
  have a0:Mv F w U w6:=D.to H fun b Y=> .inr (t.off b Y).1
  refine zw fun w7 l _=>?_
  have h7:=h6.ext l
  have o:=a0.ext l
  have J:=Ints.mv hx o
  have O:=Ints.mv hy o
  simp(disch:=first|(simp only[push_cast];done)|omega) only[push_cast,J.iaddr,J.load,O.iaddr,O.load,true_and]
  refine jR h7 (L.get e) (P.get (by omega)) fun w8 F8 ag p h8 a1 hp a5=>?_
  refine jR h8 hd x fun w9 F9 ah q h9 a2 hq a6=>?_
  refine bor_spec h9 hp hq fun w10 T R c2 V z Z E=>?_
  simp(disch:=omega) only[push_cast,zH]
  have hm:=a1.trans (a2.trans z)
  refine hC e _ _ ⟨T,R,r6,zs++[s],c2,by simp<;>exact⟨rfl,rfl⟩,V,o.trans hm,(a7.mv (Mv.refl.ext l)).mv hm,Q.app (SmL.one hs),by simp[a8],Z,fun st2 rs ho=>?_⟩
  have:=f st2 (s::rs) ?_
  ·simpa using this
  rw[xz e,xz (show i<ys.length by omega)]
  exact Y1 a3 (Y1 a4 (qd a5 (qd a6 (M.Bd.Out.bind E (M.Bd.Out.map _ ho)))))
 ·have:=f a [] (by rw[kc0 (by omega)];exact M.Bd.Out.ret _ _)
  rw[List.append_nil] at this
  exact hK w1 v a r zs h1 y G Q this
theorem jf0 {i:Nat} {xs ys:List Int} {r:Int} (h:xs.length≤i):M.lessB (xs.drop i) ys r= .ret r:=by
 rw[List.drop_eq_nil_of_le h];cases ys<;>rfl
theorem bless_spec {xv yv:Value} {xs ys:List Int} (h:BdR n bb ar ab X F w st) (E:Ints (Off X F) w xv xs) (S:Ints (Off X F) w yv ys) (Y:xs.length≤ys.length) (W:xs.length≤1000) (A:SmL xs) (t:SmL ys)
  (N:∀w' F' st' r,BdR n bb ar ab X F' w' st'→Mv F w F' w'→Sm r→M.Bd.Out n (M.lessB xs ys (-1)) st st' r→K (.int .i64 r) w'):
  vcall PP xV #[.pointer (some ⟨bb,0,none⟩),xv,yv] w K:=by
 apply KE
 simp(disch:=first|(simp only[push_cast];done)|omega) only[push_cast,E.len]
 refine vloop_up xs.length (fun i u w'=> ∃v a r,u=[.int .i64 r,.int .i64 i]∧BdR n bb ar ab X v w' a∧Mv F w v w'∧Sm r∧
  ∀st2 q,M.Bd.Out n (M.lessB (xs.drop i) (ys.drop i) r) a st2 q→M.Bd.Out n (M.lessB xs ys (-1)) st st2 q) ⟨F,st,-1,rfl,h,Mv.refl,by decide,fun _ _ h=>h⟩ ?_
 rintro i _ g U C hi ⟨v,a,r,rfl,D,k,m,b⟩ L
 simp only[push_cast]
 refine zh (fun Q=>?_) (fun P=>?_)
 ·have c:i<xs.length:=by omega
  refine zw fun Z j _=>?_
  have H:=D.ext j
  have e:=k.ext j
  have o:=Ints.mv E e
  have f:=Ints.mv S e
  simp(disch:=first|(simp only[push_cast];done)|omega) only[push_cast,o.iaddr,o.load,f.iaddr,f.load,true_and]
  refine Qw H (A.get c) (t.get (by omega)) fun w3 V T d I l O y=>?_
  have p:=Ints.mv f l
  simp(disch:=first|(simp only[push_cast];done)|omega) only[push_cast,p.iaddr,p.load,true_and]
  refine bmux_spec I O (t.get (by omega)) m fun w4 G B s J x hs z=>?_
  simp(disch:=omega) only[push_cast,zH]
  refine L c _ _ ⟨G,B,s,by simp<;>exact⟨rfl,rfl⟩,J,e.trans (l.trans x),hs,fun st2 q R=>b st2 q ?_⟩
  rw[xz c,xz (show i<ys.length by omega)]
  exact Y1 y (M.Bd.Out.bind z R)
 ·exact N U v a r D k m (b a r (by rw[jf0 (by omega)];exact M.Bd.Out.ret _ _))
theorem j50 {i:Nat} {xs ys:List Int} {r:Int} (h:xs.length≤i):M.sameB (xs.drop i) ys r= .ret r:=by
 rw[List.drop_eq_nil_of_le h];cases ys<;>rfl
theorem bsame_spec {xv yv:Value} {xs ys:List Int} (h:BdR n bb ar ab X F w st) (D:Ints (Off X F) w xv xs) (Q:Ints (Off X F) w yv ys) (W:xs.length≤ys.length) (U:xs.length≤1000) (y:SmL xs) (z:SmL ys)
  (L:∀w' F' st' r,BdR n bb ar ab X F' w' st'→Mv F w F' w'→Sm r→M.Bd.Out n (M.sameB xs ys 1) st st' r→K (.int .i64 r) w'):
  vcall PP jk #[.pointer (some ⟨bb,0,none⟩),xv,yv] w K:=by
 apply KB
 simp(disch:=first|(simp only[push_cast];done)|omega) only[push_cast,D.len]
 refine vloop_up xs.length (fun i u w'=> ∃o a r,u=[.int .i64 r,.int .i64 i]∧BdR n bb ar ab X o w' a∧Mv F w o w'∧Sm r∧
  ∀st2 q,M.Bd.Out n (M.sameB (xs.drop i) (ys.drop i) r) a st2 q→M.Bd.Out n (M.sameB xs ys 1) st st2 q) ⟨F,st,1,rfl,h,Mv.refl,by decide,fun _ _ h=>h⟩ ?_
 rintro i _ g S C hi ⟨o,a,r,rfl,B,j,k,b⟩ J
 simp only[push_cast]
 refine zh (fun O=>?_) (fun N=>?_)
 ·have c:i<xs.length:=by omega
  refine zw fun Y f _=>?_
  have G:=B.ext f
  have e:=j.ext f
  have l:=Ints.mv D e
  have m:=Ints.mv Q e
  simp(disch:=first|(simp only[push_cast];done)|omega) only[push_cast,l.iaddr,l.load,m.iaddr,m.load,true_and]
  refine Qw G (y.get c) (z.get (by omega)) fun Z T R d H p V v=>?_
  simp(disch:=omega) only[push_cast,zH,Int.zero_sub]
  refine jR H k (by unfold Sm at*;omega) fun w4 E A s I t hs x=>?_
  try simp(disch:=omega) only[push_cast,zH]
  refine J c _ _ ⟨E,A,s,by simp<;>exact⟨rfl,rfl⟩,I,e.trans (p.trans t),hs,fun st2 q P=>b st2 q ?_⟩
  rw[xz c,xz (show i<ys.length by omega)]
  exact Y1 v (qd x P)
 ·exact L S o a r B j k (b a r (by rw[j50 (by omega)];exact M.Bd.Out.ret _ _))
theorem Clone_signal {xv:Value} {xs:List Int} (d:Ints Fx w xv xs) (y:xs.length≤1000000) (l:∀w' v',Ext w w'→OwnI PP za w' v' xs→(∀x,v'.ownBlock=some x→w.heap.size≤x)→K v' w'):
  vcall PP y6 #[xv] w K:=by
 apply qO
 obtain⟨a,c,rfl,s,u,f⟩:=d.shape
 simp only[List.length_map] at d s⊢
 rw[yp0 xx]
 refine yo (fun m=>?_) (fun m=>?_)
 ·cases a with
  |some a=>cases m
  |none=>
   have k:xs=[]:=by
    have p:(List.map (fun x=>[x]) (List.map (fun x=>Value.int IntKind.i64 x) xs))=[]:=Classical.byContradiction fun h=>by
     obtain⟨b,o,q,_⟩:=f h;cases q
    simpa using p
   subst k
   exact l w _ (Same.refl _ _) OwnI.nil fun x d=>by cases d
 ·refine qg yT yn fun b n B he C r=>?_
  have g:OwnI PP za n (.slice (some ⟨b,0,none⟩) 0 0) []:=Blk.own1 (P:=PP) (t:=za) (cs:=[]) (by rw[xj];exact r) (Nat.zero_le _) rfl rfl (by omega)
  have j:Ints Fx n (.slice a xs.length c) xs:=d.ext he
  refine g.app yU j (by simp;omega) (by simp;omega) fun v' A v hs i=>?_
  have z:=he.size
  refine l A v' (Ext.then he hs fun x d=>by have e:b=x:=Option.some.inj d;omega) v fun x d=>?_
  rcases i x d with h|h
  ·have e:b=x:=Option.some.inj h;omega
  ·omega
end Go.Proofs.YtaekfnbnhjgboaaGreatDoor
end
section
namespace Go.Proofs.YtaekfnbnhjgboaaGreatDoor
open Go Go.Vc Go.Proofs
variable {w:World} {K:Value→World→Prop} {F F' Fx Fy X:Nat→Prop} {n bc mb bb:Nat} {gs:M.Gs} {v:Value} {ar ab:Addr} {st:Option M.Gs}
def Xe0 (n bb:Nat) (ar ab:Addr) (X F:Nat→Prop) (w:World) (f:Value) (p:Int→Int→M.Bd Int):Prop:=
 ∀(w1:World) (F1:Nat→Prop) (st1:Option M.Gs) (x y:Int) (K:Value→World→Prop),BdR n bb ar ab X F1 w1 st1→Mv F w F1 w1→Sm x→Sm y→
  (∀w' F' st' r,BdR n bb ar ab X F' w' st'→Mv F1 w1 F' w'→Sm r→M.Bd.Out n (p x y) st1 st' r→K (.int .i64 r) w')→vcallv PP f #[.int .i64 x,.int .i64 y] w1 K
theorem QZ {p:Int→Int→M.Bd Int} {i:Nat} {xs ys:List Int} (h:xs.length≤i):M.eachB p (xs.drop i) ys= .ret []:=by
 rw[List.drop_eq_nil_of_le h];cases ys<;>rfl
theorem each_spec {p:Int→Int→M.Bd Int} {xv yv f:Value} {xs ys:List Int} (h:BdR n bb ar ab X F w st) (R:Ints (Off X F) w xv xs) (hy:Ints (Off X F) w yv ys) (hl:xs.length≤ys.length) (h8:xs.length≤1000) (L:SmL xs) (N:SmL ys)
  (hf:Xe0 n bb ar ab X F w f p)
  (Y:∀w' F' st' r zs,BdR n bb ar ab X F' w' st'→Mv F w F' w'→NewI X w F' w' r zs→SmL zs→M.Bd.Out n (M.eachB p xs ys) st st' zs→K r w'):
  vcall PP jg #[xv,yv,f] w K:=by
 apply zf0
 simp(disch:=first|(simp only[push_cast];done)|omega) only[push_cast,R.len]
 refine vloop_up xs.length (fun i u w'=> ∃m a r zs,u=[r,.int .i64 i]∧BdR n bb ar ab X m w' a∧Mv F w m w'∧NewI X w m w' r zs∧SmL zs∧zs.length=i∧
  ∀st2 rs,M.Bd.Out n (M.eachB p (xs.drop i) (ys.drop i)) a st2 rs→M.Bd.Out n (M.eachB p xs ys) st st2 (zs++rs)) ⟨F,st,_,[],rfl,h,Mv.refl,NewI.nil,SmL.nil,rfl,fun _ _ h=>h⟩ ?_
 rintro i _ g w1 C hi ⟨m,a,r,zs,rfl,P,o,v,A,O,d⟩ W
 simp only[push_cast]
 refine zh (fun a1=>?_) (fun a0=>?_)
 ·have k:i<xs.length:=by omega
  refine zw fun w2 e _=>?_
  have T:=P.ext e
  have c:=o.ext e
  have y:=Ints.mv R c
  have z:=Ints.mv hy c
  simp(disch:=first|(simp only[push_cast];done)|omega) only[push_cast,y.iaddr,y.load,z.iaddr,z.load,true_and]
  refine hf w2 m a _ _ _ T c (L.get k) (N.get (by omega)) fun w4 D B s U q hs I=>?_
  refine yj yT yn yz rfl rfl fun b5 w5 Z j a2 E=>?_
  have t:=(c.trans q).ext j
  have Q:=U.ext j
  have l:NewI X w D w5 r zs:=(v.mv ((Mv.refl.ext e).trans q)).mv (Mv.refl.ext j)
  refine l.app1 E t.same.size Q.lt (by omega) fun r6 S J x=>?_
  have V:BdR n bb ar ab X D S B:=Q.upd h.err x fun b G=>l.off b G
  have H:Mv F w D S:=t.to x fun b G=> .inr (l.off b G).1
  simp(disch:=omega) only[push_cast,zH]
  refine W k _ _ ⟨D,B,r6,zs++[s],by simp<;>exact⟨rfl,rfl⟩,V,H,J,A.app (SmL.one hs),by simp[O],fun st2 rs ho=>?_⟩
  have:=d st2 (s::rs) ?_
  ·simpa using this
  rw[xz k,xz (show i<ys.length by omega)]
  exact M.Bd.Out.bind I (M.Bd.Out.map _ ho)
 ·have:=d a [] (by rw[QZ (by omega)];exact M.Bd.Out.ret _ _)
  rw[List.append_nil] at this
  exact Y w1 m a r zs P o v A this
theorem negated_spec {xv:Value} {xs:List Int} (n:Ints Fx w xv xs) (H:xs.length≤1000) (s:SmL xs)
  (v:∀w' r,Ext w w'→OwnI PP za w' r (M.negL xs)→(∀b,r.ownBlock=some b→w.heap.size≤b)→K r w'):vcall PP qr #[xv] w K:=by
 apply y80
 apply zf0
 simp(disch:=first|(simp only[push_cast];done)|omega) only[push_cast,n.len]
 refine vloop_up xs.length (fun i u w'=> ∃r,u=[r,.int .i64 i]∧Ext w w'∧OwnI PP za w' r (M.negL (xs.take i))∧∀b,r.ownBlock=some b→w.heap.size≤b) ⟨_,rfl,Same.refl _ _,OwnI.nil,fun b m=>by cases m⟩ ?_
 rintro i _ g F C hi ⟨r,rfl,a,f,e⟩ t
 simp only[push_cast]
 refine zh (fun A=>?_) (fun z=>?_)
 ·have d:i<xs.length:=by omega
  refine zw fun I c _=>?_
  have l:=n.ext (a.trans c)
  simp(disch:=first|(simp only[push_cast];done)|omega) only[push_cast,l.iaddr,l.load,true_and]
  refine Up ?_
  unfold XE
  have m:=s.get d
  simp(disch:=omega) only[push_cast,zH,Int.zero_sub]
  refine yj yT yn yz rfl rfl fun G J y j D o=>?_
  have he:=a.trans (c.trans j)
  have B:=he.size
  refine(f.ext (c.trans j)).app1 yU o (by simp[M.negL];omega) (by simp[M.negL];omega) fun E L k q p=>?_
  try simp(disch:=omega) only[push_cast,zH]
  refine t d _ _ ⟨E,by simp<;>exact⟨rfl,rfl⟩,Ext.then he q fun x n=>e x n,?_,fun b m=>(p b m).elim (e b) fun h=>by omega⟩
  rw[M.take_add d 0]
  unfold M.negL at k⊢
  rw[List.map_append];exact k
 ·rw[List.take_of_length_le (by omega)] at f
  exact v F r a f e
theorem NewI.of {w':World} {r:Value} {zs:List Int} (h:OwnI PP za w' r zs) (d:∀b,r.ownBlock=some b→w.heap.size≤b) (hF:∀b,F b∨X b→b<w.heap.size):NewI X w F w' r zs:=
 ⟨h,fun b a=>⟨d b a,fun c=>by have:=d b a;have:=hF b (.inl c);omega⟩,fun b a c=>by have:=d b a;have:=hF b (.inr c);omega⟩
theorem SmL.neg {xs:List Int} (h:SmL xs):SmL (M.negL xs):=fun x a=>by
 obtain⟨y,b,rfl⟩:=List.mem_map.1 a
 have:=h y b;unfold Sm at*;omega
theorem SmL.offs (m:Nat):SmL (M.offsL m):=fun x a=>by rw[List.eq_of_mem_replicate a];decide
end Go.Proofs.YtaekfnbnhjgboaaGreatDoor
end
section
namespace Go.Proofs.YtaekfnbnhjgboaaGreatDoor
open Go Go.Vc Go.Proofs
variable {w:World} {K:Value→World→Prop} {F F' Fx Fy X:Nat→Prop} {n bc mb bb:Nat} {gs:M.Gs} {v:Value} {ar ab:Addr} {st:Option M.Gs}
theorem yy0 {t ty:TypeId} {a:Option Addr} {l c:Nat} (b:isSl PP t=true):vbi PP .len [t] ty [.slice a l c] w K=K (.int .i64 l) w:=by
 obtain⟨e,he⟩:=yP0 b
 exact yB (by simp[biSem,Builtin.len_,xY he,goInt])
theorem YN0 {x:Value}:sl 0 [x]=x:=rfl
theorem u_and {m:Nat} (hm:m<4294967296) {c:Bool}:zt PP .and xk c (.int .u64 m) (.int .u64 4294967295) w K=K (.int .u64 m) w:=by
 have h:=XR (P:=PP) (w:=w) (K:=K) (c:=c) (t:=xk) (a:=m) (b:=4294967295) (by omega) (by decide)
 have e:m&&&4294967295=m:=by
  have:=Nat.and_two_pow_sub_one_eq_mod m 32
  rw[show 2^32-1=4294967295 from rfl] at this
  rw[this];exact Nat.mod_eq_of_lt hm
 rw[e] at h;exact h
theorem u_shr {m:Nat} (hm:m<4294967296) {c:Bool}:zt PP .shr xk c (.int .u64 m) (.int .u64 32) w K=K (.int .u64 0) w:=by
 have h:=qZ0 (P:=PP) (w:=w) (K:=K) (c:=c) (t:=xk) (k:= .u64) (yk:= .u64) (x:=m) (y:=32) (by decide)
 have e:(m:Int)/2^min (32:Int).toNat IntKind.u64.bits=0:=by
  rw[show(2:Int)^min (32:Int).toNat IntKind.u64.bits=4294967296 from rfl];omega
 rw[e] at h;exact h
theorem wrapU' {x:Int} (a:0≤x) (h:x<18446744073709551616):IntKind.u64.wrap x=x:=by
 have:=wrapU (n:=x.toNat) (by omega)
 rwa[show((x.toNat:Nat):Int)=x by omega] at this
theorem Mul_one {m:Nat} (hm:m≤1000) (d:K (.tuple #[.int .u64 0,.int .u64 m]) w):vcall PP Zx #[.int .u64 1,.int .u64 m] w K:=by
 apply zb0
 apply Wp
 have a:=fun(K:Value→World→Prop)=>u_and (w:=w) (K:=K) (m:=1) (by decide) (c:=true)
 have a2:=fun(K:Value→World→Prop)=>u_shr (w:=w) (K:=K) (m:=1) (by decide) (c:=true)
 have a3:=fun(K:Value→World→Prop)=>u_and (w:=w) (K:=K) (m:=m) (by omega) (c:=true)
 have a4:=fun(K:Value→World→Prop)=>u_shr (w:=w) (K:=K) (m:=m) (by omega) (c:=true)
 have a5:=fun(K:Value→World→Prop)=>u_and (w:=w) (K:=K) (m:=0) (by omega) (c:=true)
 have b:=fun(K:Value→World→Prop)=>u_shr (w:=w) (K:=K) (m:=0) (by omega) (c:=true)
 simp only[Int.cast_ofNat_Int] at a a2 a5 b
 simp(disch:=omega) only[a,a2,a3,a4,a5,b,push_cast,wrapU',Int.one_mul,Int.zero_mul,Int.mul_zero,Int.zero_add,Int.add_zero]
 exact d
theorem ZJ0 {m k:Nat} {a:Value} {r:List Value} (h:k≤m):(List.replicate m a++r).take k=List.replicate k a:=by
 rw[List.take_append_of_le_length (by rw[List.length_replicate];exact h),List.take_replicate,Nat.min_eq_left h]
theorem ZK0 {m k j:Nat} {a:Value} {r:List Value} (h:j=m+k):(List.replicate m a++r).drop j=r.drop k:=by
 subst h
 rw[←List.drop_drop,List.drop_left' (by rw[List.length_replicate])]
theorem Repeat_signal {x:Value} {m:Nat} {z:Nat} {e0:TypeId} (hB:Blk w z [.int .i64 (-1)] e0) (hm:m≤1000) (hK:∀w' r,Ext w w'→OwnI PP za w' r (M.offsL m)→(∀b,r.ownBlock=some b→w.heap.size≤b)→K r w'):
  vcall PP yL #[.slice (some ⟨z,0,none⟩) 1 1,.int .i64 m] w K:=by
 apply qz
 refine y5 (fun u w'=>w'=w) ?_ ?_
 ·intro J D
  simp only[push_cast]
  refine zh (fun h=>?_) (fun h=>D _ _ rfl)
  omega
 rintro _ _ w' hw
 rw[hw]
 have W:∀K:Value→World→Prop,vbi PP .len [za] ze [.slice (some ⟨z,0,none⟩) 1 1] w K=K (.int .i64 (1:Nat)) w:=fun K=>yy0 xx
 have c1:∀K:Value→World→Prop,Yn PP ze JE (.int .i64 (1:Nat)) w K=K (.int .u64 (1:Nat)) w:=fun K=>by
  rw[kG xE0 kz0,wrapU (by decide)]
 have c2:∀K:Value→World→Prop,Yn PP ze JE (.int .i64 m) w K=K (.int .u64 m) w:=fun K=>by
  rw[kG xE0 kz0,wrapU (by omega)]
 have c3:∀K:Value→World→Prop,Yn PP JE ze (.int .u64 m) w K=K (.int .i64 m) w:=fun K=>by
  rw[kG YM0 WP,wrapN (by omega)]
 rw[W,c1,c2]
 refine Mul_one hm ?_
 simp only[push_cast]
 refine y5 (fun u w'=>w'=w) ?_ ?_
 ·intro J D
  refine zh (fun h=>?_) (fun h=>?_)
  ·omega
  refine zh (fun h=>?_) (fun h=>D _ _ rfl)
  omega
 rintro _ _ w' hw
 rw[hw]
 rw[c3]
 refine vmkS_blk (bs:=8) yU xj yz rfl (by omega) (by omega) fun b w1 hb A s=>?_
 have a2:z≠b:=by have:=hB.lt;omega
 have step:∀(k:Nat) (a:World) (J:Value→World→Prop),0<m→k<m→Ext w a→Blk a b (List.replicate k (.int .i64 (-1))++List.replicate (m-k) (.int .i64 0)) zq→∀(src:Addr) (sc sl:Nat) (ds:Nat),
   (∀j u,(List.replicate (min sl (m-k)) (Value.int .i64 (-1)))[j]?=some u→a.cell? (src.add j)=some u)→
   (∀y,Ext w y→Blk y b (List.replicate (k+min sl (m-k)) (.int .i64 (-1))++List.replicate (m-(k+min sl (m-k))) (.int .i64 0)) zq→J (.int .i64 (min sl (m-k):Nat)) y)→
   vbi PP .copy [za,za] ze [.slice (some ⟨b,k,none⟩) (m-k) ds,.slice (some src) sl sc] a J:=by
  intro k a J Y hk i f src sc sl ds H D
  refine vcopy (cs:=List.replicate (min sl (m-k)) (.int .i64 (-1))) xf f (by rw[List.length_replicate]) H (by simp only[List.length_replicate,List.length_append];omega) (fun u hu=>by rw[List.eq_of_mem_replicate hu];rfl) fun y X a3 l=>?_
  rw[List.length_replicate]
  refine D y (Ext.then i X fun x hx=>by omega) ?_
  rw[ZJ0 (Nat.le_refl _),ZK0 (m:=k) (k:=min sl (m-k)) (by rw[List.length_replicate]),List.drop_replicate,←List.append_assoc,List.replicate_append_replicate] at l
  rw[show m-(k+min sl (m-k))=m-k-min sl (m-k) by omega]
  exact l
 have fin:∀(a:World) (u:Value),Ext w a→Blk a b (List.replicate m (.int .i64 (-1))) zq→K (.slice (some ⟨b,0,none⟩) m m) a:=fun a _ i f=>by
  refine hK a _ i ?_ fun x hx=>by have e:b=x:=Option.some.inj hx;omega
  have:=Blk.own1 (P:=PP) (t:=za) (base:=0) (n:=m) (c:=m) (cs:=List.replicate m (.int .i64 (-1))) (by rw[xj];exact f) (Nat.zero_le _) (by rw[List.length_replicate]) (by rw[List.length_replicate]) (by omega)
  unfold OwnI OwnV M.offsL
  rw[List.map_replicate]
  exact this
 have loop:∀(k:Nat) (a:World),Ext w a→Blk a b (List.replicate k (.int .i64 (-1))++List.replicate (m-k) (.int .i64 0)) zq→k≤m→(1≤k∨m=0)→
   yJ [.int .i64 k] a fun C p _ I=>
    vbi PP .len [za] ze [.slice (some ⟨b,0,none⟩) m m] I fun t36 L=>
    zt PP .lss ze false (sl 0 p) t36 L fun t37 q=>
    vif t37 (
     y7 q fun d=>
     yA PP za (.slice (some ⟨b,0,none⟩) m m) (some (sl 0 p)) none none d fun t41 N=>N=d∧
     yA PP za (.slice (some ⟨b,0,none⟩) m m) none (some (sl 0 p)) none d fun t44 O=>O=d∧
     vbi PP .copy [za,za] ze [t41,t44] d fun t45 o=>
     zt PP .add ze false (sl 0 p) t45 o fun t46 Q=>Q=o∧
     C [t46] o) (
     K (.slice (some ⟨b,0,none⟩) m m) q):=by
  intro k0 a i f V Z
  refine X5 (fun r u w'=> ∃k:Nat,u=[.int .i64 k]∧r=m-k∧k≤m∧(1≤k∨m=0)∧Ext w w'∧Blk w' b (List.replicate k (.int .i64 (-1))++List.replicate (m-k) (.int .i64 0)) zq) (m-k0) ⟨k0,rfl,rfl,V,Z,i,f⟩ ?_
  rintro r _ g y C ⟨k,rfl,rfl,hk,Z,E,l⟩ hC
  rw[yy0 xx]
  simp only[push_cast]
  refine zh (fun a1=>?_) (fun a0=>?_)
  ·have G:k<m:=by omega
   refine zw fun w4 F _=>?_
   have B:=l.ext F
   simp only[YN0,blk_from xf (show k≤m by omega),blk_to xf (show k≤m by omega),true_and]
   rw[if_neg (by omega)]
   refine step k w4 _ (by omega) G (E.trans F) B ⟨b,0,none⟩ m k _ (fun j u v=>?_) fun w5 S R=>?_
   ·have U:j<min k (m-k):=by have:=(List.getElem?_eq_some_iff.1 v).1;rwa[List.length_replicate] at this
    rw[xp]
    refine B.cell ?_
    rw[Nat.zero_add,List.getElem?_append_left (by rw[List.length_replicate];omega)]
    rw[List.getElem?_replicate,if_pos (by omega)] at v⊢
    exact v
   ·simp(disch:=omega) only[push_cast,zH,true_and]
    exact hC (m-(k+min k (m-k))) _ _ (by omega) ⟨k+min k (m-k),by simp<;>rfl,rfl,by omega,by omega,S,R⟩
  ·have:k=m:=by omega
   subst this
   rw[Nat.sub_self,List.replicate_zero,List.append_nil] at l
   exact fin y undef E l
 by_cases Y:m=0
 ·subst Y
  rw[jt0 xf rfl]
  exact loop 0 w1 s A (Nat.le_refl _) (.inr rfl)
 ·refine step 0 w1 _ (by omega) (by omega) s (by simpa using A) ⟨z,0,none⟩ 1 1 m (fun j u v=>?_) fun a i f=>?_
  ·have U:j<min 1 (m-0):=by have:=(List.getElem?_eq_some_iff.1 v).1;rwa[List.length_replicate] at this
   have T:j=0:=by omega
   subst T
   rw[List.getElem?_replicate,if_pos (by omega)] at v
   rw[xp]
   exact(hB.ext s).cell v
  ·exact loop _ a i (by simpa using f) (by omega) (.inl (by omega))
theorem offs_spec {m:Nat} (hm:m≤1000) (e:∀w' r,Ext w w'→OwnI PP za w' r (M.offsL m)→(∀b,r.ownBlock=some b→w.heap.size≤b)→K r w'):vcall PP qF #[.int .i64 m] w K:=by
 apply qU0
 refine yj yT yn yz rfl rfl fun b l k a i c=>?_
 have:=a.size
 exact Repeat_signal (x:=undef) c hm fun j r d g f=>e j r (a.trans d) g fun x h=>by have:=f x h;omega
end Go.Proofs.YtaekfnbnhjgboaaGreatDoor
end
section
namespace Go.Proofs.YtaekfnbnhjgboaaGreatDoor
open Go Go.Vc Go.Proofs
variable {w:World} {K:Value→World→Prop} {F F' Fx Fy X:Nat→Prop} {n bc mb bb:Nat} {gs:M.Gs} {v:Value} {ar ab:Addr} {st:Option M.Gs}
theorem choose_spec {c:Int} {xv yv:Value} {xs ys:List Int} (h:BdR n bb ar ab X F w st) (t:∃gs,st=some gs) (Q:Ints (Off X F) w xv xs) (R:Ints (Off X F) w yv ys) (hl:xs.length=ys.length) (J:xs.length≤1000) (A:SmL xs) (C:SmL ys) (P:Sm c)
  (L:∀w' F' st' r zs,BdR n bb ar ab X F' w' st'→Mv F w F' w'→Ints (Off X F') w' r zs→SmL zs→M.Bd.Out n (M.eachB (M.muxB c) xs ys) st st' zs→K r w'):
  vcall PP qH #[.pointer (some ⟨bb,0,none⟩),.int .i64 c,xv,yv] w K:=by
 apply Qt
 obtain⟨gs,rfl⟩:=t
 refine j7 fun b1 Z N q S d=>?_
 replace d:Blk Z b1 [.pointer (some ⟨bb,0,none⟩)] zQ:=d
 refine j7 fun b2 E O f T e=>?_
 replace e:Blk E b2 [.int .i64 c] zq:=e
 have a:=d.ext f
 have k:=q.trans f
 have l:=h.ext k
 have g:Ints (Off X F) E xv xs:=Q.ext k
 have i:Ints (Off X F) E yv ys:=R.ext k
 obtain⟨bc,H,hC⟩:=l.blk
 simp only at H
 simp(disch:=first|(simp only[push_cast];done)|omega) only[push_cast,a.ld0,g.len,i.len,xB Yp l.err.bits.cell]
 rw[decide_eq_false (by omega)]
 refine UZ ?_
 simp(disch:=first|(simp only[push_cast];done)|omega) only[push_cast,a.ld0,H.ld1,Ke]
 refine each_spec (p:=M.muxB c) l g i (by omega) J A C ?_ fun I G j r zs m b v D u=>L I G j r zs m ?_ v.ints D u
 ·intro I G j x y K3 m b z B o
  have W: ¬F b1:=fun s=>by have:=h.lt _ (.inl s);omega
  have Y: ¬F b2:=fun s=>by have:=h.lt _ (.inl s);omega
  have U:=a.same b.same W
  have V:=e.same b.same Y
  refine Xt ?_
  unfold jW
  simp(disch:=first|(simp only[push_cast];done)|omega) only[push_cast,U.ld0,V.ld0]
  exact bmux_spec m P z B o
 ·exact(Mv.refl.ext k).trans b
theorem Vg {p:Int→Int→M.Bd Int} {xs ys:List Int} {i:Nat} (a:i<xs.length) (b:i<ys.length):M.eachB p (xs.drop i) (ys.drop i)=(p (xs.getD i 0) (ys.getD i 0)).bind fun s=>(M.eachB p (xs.drop (i+1)) (ys.drop (i+1))).map (s:: ·):=by
 rw[xz a,xz b];rfl
theorem Ints.low {v:Value} {xs:List Int} (h:Ints (Off X F) w v xs):Ints (fun b=> ¬F b∧b<w.heap.size) w v xs:=Ints.weaken h fun _ a c=>⟨a.1,c⟩
theorem Ints.lowMv {v:Value} {xs:List Int} {B:Nat} {w':World} (h:Ints (fun b=> ¬F b∧b<B) w v xs) (hm:Mv F w F' w'):Ints (fun b=> ¬F' b∧b<B) w' v xs:=by
 have c:Ints (fun b=>(¬F b∧b<B)∧b<w.heap.size) w v xs:=Ints.weaken h fun _ c d=>⟨c,d⟩
 have d:=Ints.same c hm.same fun b a _=>a.1.1
 exact Ints.weaken d fun b a _=>⟨hm.off a.1.1 a.2,a.1.2⟩
theorem from_at {up:Bool} {fill:Int} {s:List Int} {b k:Nat} (d:k<s.length):(0≤(k:Int)+(if up then-(b:Int) else b)→(k:Int)+(if up then-(b:Int) else b)<s.length→M.fromL up fill s b k=s.getD ((k:Int)+(if up then-(b:Int) else b)).toNat 0)∧
  ((k:Int)+(if up then-(b:Int) else b)<0→M.fromL up fill s b k=fill)∧((s.length:Int)≤(k:Int)+(if up then-(b:Int) else b)→M.fromL up fill s b k=fill):=by
 unfold M.fromL
 cases up
 ·simp only[Bool.false_eq_true,if_false]
  refine⟨fun a c=>?_,fun h=>by omega,fun h=>?_⟩
  ·rw[if_pos (by omega),show((k:Int)+b).toNat=k+b by omega]
  ·rw[if_neg (by omega)]
 ·simp only[if_true]
  refine⟨fun a c=>?_,fun h=>?_,fun h=>by omega⟩
  ·rw[if_neg (by omega),show((k:Int)+ -b).toNat=k-b by omega]
  ·rw[if_pos (by omega)]
theorem fill_set {zs:List Int} {m k:Nat} {s:Int} (a:zs.length=k) (b:k<m):(zs++List.replicate (m-k) 0).set k s=(zs++[s])++List.replicate (m-(k+1)) 0:=by
 rw[List.set_append_right _ _ (by omega),a,Nat.sub_self,show m-k=(m-(k+1))+1 by omega,List.replicate_succ,List.set_cons_zero,List.append_assoc]
 rfl
theorem UH {m k:Nat} {f:Nat→Int} (a:k<m):((List.range m).map f).getD k 0=f k:=by
 rw[List.getD_eq_getElem?_getD,List.getElem?_map,List.getElem?_range a];rfl
theorem xF0 {up:Bool} {fill:Int} {i:Nat} {ys s:List Int} {j:Nat} (h:ys.length≤j):M.shiftB up fill (ys.drop j) i s= .ret s:=by
 rw[List.drop_eq_nil_of_le h];rfl
theorem pow_le4 {i:Nat} (h:i<10):2^i≤512∧1≤2^i:=⟨Nat.pow_le_pow_right (by omega) (show i≤9 by omega),Nat.one_le_two_pow⟩
theorem from_sm {up:Bool} {fill:Int} {s:List Int} {b k:Nat} (a:Sm fill) (hs:SmL s) (c:k<s.length):Sm (M.fromL up fill s b k):=by
 unfold M.fromL
 repeat' split
 all_goals first|exact a|exact hs.get (by omega)
theorem shift_spec {xv yv:Value} {xs ys:List Int} {up:Bool} {fill:Int} (h:BdR n bb ar ab X F w st) (hx:Ints (Off X F) w xv xs) (hy:Ints (Off X F) w yv ys) (h8:xs.length≤1000) (ap:ys.length≤8) (W:SmL xs) (ah:SmL ys) (hf:Sm fill)
  (hK:∀w' F' st' r zs,BdR n bb ar ab X F' w' st'→Mv F w F' w'→Ints (Off X F') w' r zs→SmL zs→M.Bd.Out n (M.shiftB up fill ys 0 xs) st st' zs→K r w'):
  vcall PP xP #[.pointer (some ⟨bb,0,none⟩),xv,yv,.bool up,.int .i64 fill] w K:=by
 apply Ju
 simp(disch:=first|(simp only[push_cast];done)|omega) only[push_cast,hy.len]
 refine vloop_up ys.length (fun i u w'=> ∃I A sv ss,u=[sv,.int .i64 i]∧BdR n bb ar ab X I w' A∧Mv F w I w'∧Ints (Off X I) w' sv ss∧SmL ss∧ss.length=xs.length∧
  ∀st2 rs,M.Bd.Out n (M.shiftB up fill (ys.drop i) i ss) A st2 rs→M.Bd.Out n (M.shiftB up fill ys 0 xs) st st2 rs) ⟨F,st,xv,xs,rfl,h,Mv.refl,hx,W,rfl,fun _ _ h=>h⟩ ?_
 rintro i _ g D C hi ⟨I,A,sv,ss,rfl,h1,H,T,V,ao,L⟩ hC
 simp only[push_cast]
 refine zh (fun al=>?_) (fun ak=>hK D I A sv ss h1 H T V (L A ss (by rw[xF0 (by omega)];exact M.Bd.Out.ret _ _)))
 have O:i<ys.length:=by omega
 have a5:=Ints.mv hy H
 obtain⟨am,an⟩:=pow_le4 (i:=i) (by omega)
 have a4:∀K:Value→World→Prop,zt PP .shl ze true (.int .i64 1) (.int .i64 i) D K=K (.int .i64 (2^i:Nat)) D:=fun K=>by
  have:=vbin_shlI (P:=PP) (w:=D) (K:=K) (c:=true) (t:=ze) (yk:= .i64) (x:=1) (y:=i) (by omega) (by rw[Nat.one_mul];omega)
  rw[Nat.one_mul] at this
  exact this
 simp(disch:=first|(simp only[push_cast];done)|omega) only[push_cast,a5.iaddr,a5.load]
 rw[a4]
 generalize Z:2^i=b at*
 refine y5 (fun u w'=>w'=D∧u=[.int .i64 (if up then-(b:Int) else b)]) ?_ ?_
 ·intro J hJ
  cases up
  ·exact hJ _ _ ⟨rfl,rfl⟩
  ·simp(disch:=omega) only[push_cast,zH,Int.zero_sub]
   exact hJ _ _ ⟨rfl,rfl⟩
 rintro _ _ w2 ⟨ag,rfl⟩
 rw[ag]
 simp(disch:=first|(simp only[push_cast];done)|omega) only[push_cast,T.len]
 refine vmkS_own (z:= .int .i64 0) (bs:=8) yU xj yz rfl (by omega) (by omega) fun nv w3 Q N a2=>?_
 have Q:OwnI PP za w3 nv (List.replicate ss.length 0):=by unfold OwnI;rw[List.map_replicate];exact Q
 have h3:=h1.ext N
 have af:Ints (fun b=> ¬I b∧b<D.heap.size) w3 sv ss:=(Ints.low T).ext N
 have aa:Sm (ys.getD i 0):=ah.get O
 have S:NewI X D I w3 nv (List.replicate ss.length 0):=NewI.of Q a2 h1.lt
 have ad:=H.ext N
 have aq:=H.same.size
 refine vloop_up ss.length (fun k u w'=> ∃Y B zs,u=[.int .i64 k]∧BdR n bb ar ab X Y w' B∧Mv F w Y w'∧Ints (fun b=> ¬Y b∧b<D.heap.size) w' sv ss∧NewI X D Y w' nv (zs++List.replicate (ss.length-k) 0)∧SmL zs∧zs.length=k∧
  ∀st2 rs,M.Bd.Out n (M.eachB (M.muxB (ys.getD i 0)) (((List.range ss.length).map (M.fromL up fill ss b)).drop k) (ss.drop k)) B st2 rs→M.Bd.Out n (M.eachB (M.muxB (ys.getD i 0)) ((List.range ss.length).map (M.fromL up fill ss b)) ss) A st2 (zs++rs))
  ⟨I,A,[],rfl,h3,ad,af,by simpa using S,SmL.nil,rfl,fun _ _ h=>h⟩ ?_
 rintro k _ g4 w4 C4 hk ⟨Y,B,zs,rfl,h4,a0,v,R,a6,a7,E⟩ a8
 simp only[push_cast]
 refine zh (fun aj=>?_) (fun ai=>?_)
 ·have o:k<ss.length:=by omega
  have ac:Sm (M.fromL up fill ss b k):=from_sm hf V o
  have a1:(zs++List.replicate (ss.length-k) (0:Int)).length=ss.length:=by rw[List.length_append,List.length_replicate];omega
  have go:∀(C5:Value→World→Prop),(∀l m a s,BdR n bb ar ab X m l a→Mv F w m l→Ints (fun b=> ¬m b∧b<D.heap.size) l sv ss→NewI X D m l nv (zs++List.replicate (ss.length-k) 0)→Sm s→M.Bd.Out n (M.muxB (ys.getD i 0) (M.fromL up fill ss b k) (ss.getD k 0)) B a s→C5 (.int .i64 s) l)→
    vcall PP yK #[.pointer (some ⟨bb,0,none⟩),.int .i64 (ys.getD i 0),.int .i64 (M.fromL up fill ss b k),.int .i64 (ss.getD k 0)] w4 C5:=fun C5 a9=>
   bmux_spec h4 aa ac (V.get o) fun l m a s G f q p=>a9 l m a s G (a0.trans f) (Ints.lowMv v f) (R.mv f) q p
  have fin:∀l m a s,BdR n bb ar ab X m l a→Mv F w m l→Ints (fun b=> ¬m b∧b<D.heap.size) l sv ss→NewI X D m l nv (zs++List.replicate (ss.length-k) 0)→Sm s→M.Bd.Out n (M.muxB (ys.getD i 0) (M.fromL up fill ss b k) (ss.getD k 0)) B a s→
    zo PP za nv (.int .i64 k) l fun t66 w6=>zu PP zq t66 (.int .i64 s) w6 fun _ w7=>C4 [.int .i64 ((k:Int)+1)] w7:=fun l m a s G f q e j p=>by
   have ae:=e.own.ints
   rw[ae.iaddr xf (by omega) (by rw[a1];omega),Int.toNat_natCast]
   refine e.own.st yn (by rw[a1];exact o) fun w6 a3 U au=>?_
   rw[fill_set a7 o] at a3
   refine a8 o _ _ ⟨m,a,zs++[s],by simp,G.upd h.err U fun b Z=>⟨by have:=(e.off b Z).1;omega,(e.off b Z).2⟩,f.to U fun b Z=> .inr (by have:=(e.off b Z).1;omega),Ints.same q U fun x hx _ W=>by have:=(e.off x W).1;omega,⟨a3,e.off,e.out⟩,a6.app (SmL.one j),by simp[a7],fun st2 rs ho=>?_⟩
   have:=E st2 (s::rs) ?_
   ·simpa using this
   rw[Vg (by simpa using o) o,UH o]
   exact M.Bd.Out.bind p (M.Bd.Out.map _ ho)
  obtain⟨f1,f2,f3⟩:=from_at (up:=up) (fill:=fill) (s:=ss) (b:=b) o
  have hd:(if up then-(b:Int) else b)= -(b:Int)∨(if up then-(b:Int) else b)=b:=by cases up<;>simp
  generalize (if up then-(b:Int) else b)=d at f1 f2 f3 hd
  simp(disch:=omega) only[push_cast,zH]
  refine zh (fun h0=>?_) (fun h0=>?_)
  ·refine zh (fun hl=>?_) (fun hl=>?_)
   ·simp(disch:=first|(simp only[push_cast];done)|omega) only[push_cast,v.iaddr,v.load]
    rw[←f1 (by omega) (by omega)]
    exact go _ fun l m a s G f q e j p=>fin l m a s G f q e j p
   ·simp(disch:=first|(simp only[push_cast];done)|omega) only[push_cast,v.iaddr,v.load]
    rw[←f3 (by omega)]
    exact go _ fun l m a s G f q e j p=>fin l m a s G f q e j p
  ·simp(disch:=first|(simp only[push_cast];done)|omega) only[push_cast,v.iaddr,v.load]
   rw[←f2 (by omega)]
   exact go _ fun l m a s G f q e j p=>fin l m a s G f q e j p
 ·rw[show ss.length-k=0 by omega,List.replicate_zero,List.append_nil] at R
  have:=E B [] (by rw[QZ (by simp;omega)];exact M.Bd.Out.ret _ _)
  rw[List.append_nil] at this
  simp(disch:=omega) only[push_cast,zH]
  refine hC O _ _ ⟨Y,B,nv,zs,by simp<;>exact⟨rfl,rfl⟩,h4,a0,R.ints,a6,by omega,fun st2 rs ho=>L st2 rs ?_⟩
  rw[xz O]
  unfold M.shiftB
  rw[Z]
  exact M.Bd.Out.bind this ho
end Go.Proofs.YtaekfnbnhjgboaaGreatDoor
end
section
namespace Go.Proofs.YtaekfnbnhjgboaaGreatDoor
open Go Go.Vc Go.Proofs
variable {w:World} {K:Value→World→Prop} {F F' Fx Fy X Q:Nat→Prop} {n bc mb bb:Nat} {gs:M.Gs} {v:Value} {ar ab:Addr} {st:Option M.Gs}
theorem Ints.mvQ {v:Value} {xs:List Int} {w':World} (h:Ints (fun b=> ¬F b∧Q b) w v xs) (hm:Mv F w F' w'):Ints (fun b=> ¬F' b∧Q b) w' v xs:=by
 have c:Ints (fun b=>(¬F b∧Q b)∧b<w.heap.size) w v xs:=Ints.weaken h fun _ c d=>⟨c,d⟩
 have d:=Ints.same c hm.same fun b a _=>a.1.1
 exact Ints.weaken d fun b a _=>⟨hm.off a.1.1 a.2,a.1.2⟩
theorem Ints.offQ {v:Value} {xs:List Int} (h:Ints (fun b=> ¬F b∧Q b∧¬X b) w v xs):Ints (Off X F) w v xs:=Ints.weaken h fun _ h _=>⟨h.1,h.2.2⟩
theorem SmL.set {xs:List Int} (h:SmL xs) {i:Nat} {x:Int} (b:Sm x):SmL (xs.set i x):=fun y c=>by
 rcases List.mem_or_eq_of_mem_set c with a|a
 ·exact h y a
 ·rw[a];exact b
theorem under_spec {xv yv:Value} {xs ys:List Int} (h:BdR n bb ar ab X F w st) (g:Ints (Off X F) w xv xs) (Z:Ints (Off X F) w yv ys) (W:xs.length=ys.length) (h1:1≤xs.length) (h8:xs.length≤1000) (u:SmL xs) (v:SmL ys)
  (U:∀w' F' st' r,BdR n bb ar ab X F' w' st'→Mv F w F' w'→Sm r→M.Bd.Out n (M.lessB (M.swapT xs ys) (M.swapT ys xs) (-1)) st st' r→K (.int .i64 r) w'):
  vcall PP qY #[.pointer (some ⟨bb,0,none⟩),xv,yv] w K:=by
 apply Jt
 simp(disch:=first|(simp only[push_cast];done)|omega) only[push_cast,g.len,zH]
 refine Clone_signal g (by omega) fun w1 av c j I=>?_
 refine Clone_signal (Z.ext c) (by omega) fun w2 cv s B t=>?_
 refine zw fun w3 d _=>?_
 have y:=c.trans (s.trans d)
 have k:=j.ext (s.trans d)
 have o:=B.ext d
 have m:=k.ints
 have q:=o.ints
 have l:∀b,av.ownBlock=some b→cv.ownBlock≠some b:=fun b a V=>by have:=j.lt a;have:=t b V;omega
 simp(disch:=first|(simp only[push_cast];done)|omega) only[push_cast,m.iaddr,m.load,q.iaddr,q.load,true_and]
 rw[show((xs.length:Int)-1).toNat=xs.length-1 by omega]
 refine k.st yn (by omega) fun w4 z e a0=>?_
 have p:=o.same e fun b a g=>l b g a
 have O:=p.ints
 refine p.st yn (by omega) fun x C f a1=>?_
 have A:=z.same f fun b a g=>l b a g
 have hw:=y.size
 have Y:=c.size
 have hF:∀b,(av.ownBlock=some b∨cv.ownBlock=some b)→w.heap.size≤b∧¬F b:=fun b a=>by
  have E:w.heap.size≤b:=a.elim (I b) fun a=>by have:=t b a;omega
  exact⟨E,fun D=>by have:=h.lt b (.inl D);omega⟩
 have Q:BdR n bb ar ab X F x st:=((h.ext y).upd h.err e fun b a=>hF b (.inl a)).upd h.err f fun b a=>hF b (.inr a)
 have i:∀b,(av.ownBlock=some b∨cv.ownBlock=some b)→Off X F b:=fun b a=>⟨(hF b a).2,fun D=>by have:=(hF b a).1;have:=h.lt b (.inr D);omega⟩
 have G:Mv F w F x:=((Mv.refl.ext y).to e fun b a=> .inr (hF b (.inl a)).1).to f fun b a=> .inr (hF b (.inr a)).1
 have S:Ints (Off X F) x av (M.swapT xs ys):=Ints.weaken A.ints fun b a _=>i b (.inl a)
 have T:Ints (Off X F) x cv (M.swapT ys xs):=by
  have:=Ints.weaken C.ints fun b a _=>i b (.inr a)
  unfold M.swapT;rw[W] at this;exact this
 refine bless_spec Q S T (by unfold M.swapT;simp;omega) (by unfold M.swapT;simp;omega) ?_ ?_ fun w6 P N r R H L J=>U w6 P N r R (G.trans H) L J
 ·exact u.set (v.get (by omega))
 ·exact v.set (u.get (by omega))
theorem KX {xs:List Int} {m k:Nat} (h:k<m):(xs.take m).getD k 0=xs.getD k 0:=M.take_getD h
theorem jn0 {xs wide r q:List Int} {m:Nat} {l:Int} {u d:List Int} {st a st2 b c:Option M.Gs} {res:List Int×List Int} (e:M.Bd.Out n (M.lessB (xs.getD m 0::r) wide (-1)) st a l) (f:M.Bd.Out n (M.sumB (xs.getD m 0::r) (M.negL wide) 1) a st2 u)
  (g:M.Bd.Out n (M.eachB (M.muxB l) ((xs.getD m 0::r).take xs.length) (u.take xs.length)) st2 b d) (h:M.Bd.Out n (M.divB xs wide m d (q.set m (-l))) b c res):M.Bd.Out n (M.divB xs wide (m+1) r q) st c res:=by
 unfold M.divB
 exact M.Bd.Out.bind e (M.Bd.Out.bind f (M.Bd.Out.bind g h))
theorem divide_spec {xv yv:Value} {xs ys:List Int} (h:BdR n bb ar ab X F w st) (hx:Ints (Off X F) w xv xs) (hy:Ints (Off X F) w yv ys) (hl:xs.length=ys.length) (h8:xs.length≤900) (cq:SmL xs) (cr:SmL ys)
  (hK:∀w' F' st' qv rv q r,BdR n bb ar ab X F' w' st'→Mv F w F' w'→Ints (Off X F') w' qv q→Ints (Off X F') w' rv r→SmL q→SmL r→M.Bd.Out n (M.divB xs (ys++[-1]) xs.length (M.offsL xs.length) (M.offsL xs.length)) st st' (q,r)→K (.tuple #[qv,rv]) w'):
  vcall PP q8 #[.pointer (some ⟨bb,0,none⟩),xv,yv] w K:=by
 apply Qs
 simp(disch:=first|(simp only[push_cast];done)|omega) only[push_cast,hx.len]
 refine offs_spec (by omega) fun w1 ao az bf b8=>?_
 refine offs_spec (by omega) fun w2 qv a6 bc b6=>?_
 have e2:=az.trans a6
 refine Clone_signal (hy.ext e2) (by omega) fun w3 dc a7 cn af=>?_
 refine yj yT yn yz rfl rfl fun b4 w4 d1 a8 an c2=>?_
 refine(cn.ext a8).app1 yU c2 (by omega) (by omega) fun wv w5 co bk c9=>?_
 have z1:=az.size;have z2:=a6.size;have z3:=a7.size
 have ak:∀b,wv.ownBlock=some b→w2.heap.size≤b:=fun b a=>(c9 b a).elim (af b) fun h=>by omega
 have e4:=e2.trans (a7.trans a8)
 have aw:∀b,F b→b<w.heap.size:=fun b a=>h.lt b (.inl a)
 have a5:∀b,w.heap.size≤b→¬X b:=fun b a hx=>by have:=h.lt b (.inr hx);omega
 have e5:Ext w w5:=Ext.then e4 bk fun b a=>by have:=af b a;omega
 have aq:Ext w2 w5:=Ext.then (a7.trans a8) bk fun b a=>af b a
 have h5:=h.ext e5
 have c7:Mv F w F w5:=Mv.refl.ext e5
 have cd:=bc.ext aq
 have ci:=bf.ext (a6.trans aq)
 have cg:∀b,ao.ownBlock=some b→qv.ownBlock≠some b:=fun b a O=>by have:=bf.lt a;have:=b6 b O;omega
 have ch:∀b,wv.ownBlock=some b→qv.ownBlock≠some b:=fun b a O=>by have:=ak b a;have:=bc.lt O;omega
 have be:∀b,qv.ownBlock=some b→w.heap.size≤b:=fun b a=>by have:=b6 b a;omega
 have hR:Ints (fun b=> ¬F b∧qv.ownBlock≠some b∧¬X b) w5 ao (M.offsL xs.length):=Ints.weaken ci.ints fun b a _=>⟨fun hf=>by have:=aw b hf;have:=b8 b a;omega,cg b a,a5 b (b8 b a)⟩
 have hW:Ints (fun b=> ¬F b∧qv.ownBlock≠some b∧¬X b) w5 wv (ys++[-1]):=Ints.weaken co.ints fun b a _=>⟨fun hf=>by have:=aw b hf;have:=ak b a;omega,ch b a,a5 b (by have:=ak b a;omega)⟩
 have hX:Ints (fun b=> ¬F b∧qv.ownBlock≠some b∧¬X b) w5 xv xs:=by
  have h1:Ints (fun b=>(¬F b∧¬X b)∧b<w.heap.size) w xv xs:=Ints.weaken hx fun _ h1 h2=>⟨h1,h2⟩
  exact Ints.weaken (h1.ext e5) fun b a _=>⟨a.1.1,fun O=>(by have:=be b O;omega),a.1.2⟩
 have hQ:NewI X w F w5 qv (M.offsL xs.length):=NewI.of cd be h.lt
 simp(disch:=first|(simp only[push_cast];done)|omega) only[push_cast,zH]
 have cp:(ys++[(-1:Int)]).length=xs.length+1:=by rw[List.length_append,hl];rfl
 have al:SmL (ys++[(-1:Int)]):=cr.app (SmL.one (by decide))
 generalize ys++[(-1:Int)]=wide at*
 refine X5 (fun m u w'=> ∃F1 br rv r q,u=[rv,.int .i64 ((m:Int)-1)]∧m≤xs.length∧BdR n bb ar ab X F1 w' br∧Mv F w F1 w'∧Ints (fun b=> ¬F1 b∧qv.ownBlock≠some b∧¬X b) w' rv r∧r.length=xs.length∧SmL r∧NewI X w F1 w' qv q∧q.length=xs.length∧SmL q∧
  Ints (fun b=> ¬F1 b∧qv.ownBlock≠some b∧¬X b) w' wv wide∧Ints (fun b=> ¬F1 b∧qv.ownBlock≠some b∧¬X b) w' xv xs∧
  ∀st2 res,M.Bd.Out n (M.divB xs wide m r q) br st2 res→M.Bd.Out n (M.divB xs wide xs.length (M.offsL xs.length) (M.offsL xs.length)) st st2 res) xs.length
  ⟨F,st,ao,_,_,rfl,Nat.le_refl _,h5,c7,hR,M.offsL_len _,SmL.offs _,hQ,M.offsL_len _,SmL.offs _,hW,hX,fun _ _ h=>h⟩ ?_
 rintro m _ g w6 C ⟨F6,bu,rv,r,q,rfl,hm,h6,aa,bg,bh,bi,ag,cf,bd,bn,am,a0⟩ hC
 simp only[push_cast]
 refine zh (fun d3=>?_) (fun d4=>?_)
 ·obtain⟨m,rfl⟩:∃j,m=j+1:=⟨m-1,by omega⟩
  have c8:m<xs.length:=by omega
  rw[show((m+1:Nat):Int)-1=(m:Int) by omega]
  simp(disch:=first|(simp only[push_cast];done)|omega) only[push_cast,am.iaddr,am.load]
  refine yj yT yn yz rfl rfl fun b7 w7 d2 b0 d7 c3=>?_
  have ck:OwnI PP za w7 (.slice (some ⟨b7,0,none⟩) 1 1) [xs.getD m 0]:=Blk.own1 (P:=PP) (t:=za) (cs:=[Value.int .i64 (xs.getD m 0)]) (by rw[xj];exact c3) (Nat.zero_le _) rfl rfl (by omega)
  refine ck.app yU (bg.ext b0) (by simp;omega) (by simp;omega) fun tv w8 cl cj ca=>?_
  have l6:=aa.same.size
  have ai:∀b,tv.ownBlock=some b→w6.heap.size≤b:=fun b a=>(ca b a).elim (fun h=>by have e:b7=b:=Option.some.inj h;omega) fun h=>by omega
  have e8:Ext w6 w8:=Ext.then b0 cj fun b a=>by have e:b7=b:=Option.some.inj a;omega
  have c1:=h6.ext e8
  have hT:Ints (fun b=> ¬F6 b∧qv.ownBlock≠some b∧¬X b) w8 tv (xs.getD m 0::r):=Ints.weaken cl.ints fun b a _=>⟨fun hf=>by have:=h6.lt b (.inl hf);have:=ai b a;omega,fun O=>(by have:=ag.own.lt O;have:=ai b a;omega),a5 b (by have:=ai b a;omega)⟩
  have aj:SmL (xs.getD m 0::r):=(SmL.one (cq.get c8)).app bi
  have W:Mv F6 w6 F6 w8:=Mv.refl.ext e8
  refine bless_spec c1 (Ints.offQ hT) (Ints.offQ (Ints.ext bn e8)) (by simp;omega) (by simp;omega) aj al fun w9 F9 cu l h9 H c5 cc=>?_
  have y:=(ag.mv W).mv H
  have ce:=y.own.ints
  simp(disch:=first|(simp only[push_cast];done)|omega) only[push_cast,zH,Int.zero_sub,ce.iaddr]
  refine y.own.st yn (by omega) fun w10 ba J cz=>?_
  have au:BdR n bb ar ab X F9 w10 cu:=h9.upd h.err J fun b a=>y.off b a
  have b1:Mv F w F9 w10:=(((aa.trans W)).trans H).to J fun b a=> .inr (y.off b a).1
  have keep:∀{v:Value} {zs:List Int},Ints (fun b=> ¬F9 b∧qv.ownBlock≠some b∧¬X b) w9 v zs→Ints (fun b=> ¬F9 b∧qv.ownBlock≠some b∧¬X b) w10 v zs:=fun hh=>Ints.same hh J fun b a _ hx=>a.2.1 hx
  have Q:=keep (Ints.mvQ hT H)
  have a3:=keep (Ints.mvQ (Ints.ext bn e8) H)
  have bo:=keep (Ints.mvQ (Ints.ext am e8) H)
  refine negated_spec a3 (by omega) al fun cv nv c b2 ad=>?_
  have bw:=au.ext c
  have hN:Ints (Off X F9) cv nv (M.negL wide):=(NewI.of b2 ad au.lt).ints
  refine bsum_spec bw (Ints.offQ (Ints.ext Q c)) hN (by rw[M.negL_len];simp;omega) (by simp;omega) aj al.neg (by decide) fun A p a4 uv us av f bl cm Y=>?_
  have d6:us.length=xs.length+1:=by
   have:=M.sum_len Y.reach
   rw[M.negL_len,cp,List.length_cons,bh] at this
   omega
  have d8:=f.same.size
  have i:Mv F w p A:=(b1.ext c).trans f
  have ax:=Ints.mvQ (Ints.ext Q c) f
  have bm:=Ints.mvQ (Ints.ext a3 c) f
  have bp:=Ints.mvQ (Ints.ext bo c) f
  have a1:NewI X w p A qv (q.set m (-l)):=(NewI.mv (F':=F9) ⟨ba,y.off,y.out⟩ (Mv.refl.ext c)).mv f
  have ay:=bl.ints
  refine vmkS_own (z:= .int .i64 0) (bs:=8) yU xj yz rfl (by omega) (by omega) fun L bv o T ae=>?_
  have o:OwnI PP za bv L (List.replicate xs.length 0):=by unfold OwnI;rw[List.map_replicate];exact o
  have bx:=av.ext T
  have b3:NewI X A p bv L (List.replicate xs.length 0):=NewI.of o ae av.lt
  have ac:=o.ints
  have ah:(List.replicate xs.length (0:Int)).length=xs.length:=List.length_replicate
  have hlen:∀(w':World) (K:Value→World→Prop),vbi PP .len [za] ze [L] w' K=K (.int .i64 xs.length) w':=fun w' K=>by rw[ac.len xx,ah]
  simp only[hlen]
  have d5:(xs.getD m 0::r).length=xs.length+1:=by rw[List.length_cons,bh]
  generalize ht:xs.getD m 0::r=t at*
  refine vloop_up xs.length (fun k u w'=> ∃F4 N zs,u=[.int .i64 k]∧BdR n bb ar ab X F4 w' N∧Mv p A F4 w'∧NewI X A F4 w' L (zs++List.replicate (xs.length-k) 0)∧SmL zs∧zs.length=k∧
   ∀st2 rs,M.Bd.Out n (M.eachB (M.muxB l) ((t.take xs.length).drop k) ((us.take xs.length).drop k)) N st2 rs→M.Bd.Out n (M.eachB (M.muxB l) (t.take xs.length) (us.take xs.length)) a4 st2 (zs++rs))
   ⟨p,a4,[],rfl,bx,Mv.refl.ext T,by simpa using b3,SmL.nil,rfl,fun _ _ h=>h⟩ ?_
  rintro k _ g4 d9 C4 hk ⟨F4,N,zs,rfl,h4,G,x,an,bq,I⟩ c4
  simp only[push_cast]
  refine zh (fun cy=>?_) (fun cx=>?_)
  ·have D:k<xs.length:=by omega
   have b5:(zs++List.replicate (xs.length-k) (0:Int)).length=xs.length:=by rw[List.length_append,List.length_replicate];omega
   refine zw fun da B _=>?_
   have bz:=h4.ext B
   have E:=G.ext B
   have R:=Ints.mvQ ax E
   have S:=Ints.mv ay E
   simp(disch:=first|(simp only[push_cast];done)|omega) only[push_cast,R.iaddr,R.load,S.iaddr,S.load,true_and]
   refine bmux_spec bz c5 (aj.get (by omega)) (cm.get (by omega)) fun cw ap bt s c0 V bj b9=>?_
   have d:=(x.mv (Mv.refl.ext B)).mv V
   have cb:=d.own.ints
   rw[cb.iaddr xf (by omega) (by rw[b5];omega),Int.toNat_natCast]
   simp only[true_and]
   refine d.own.st yn (by rw[b5];exact D) fun db Z a2 d0=>?_
   rw[fill_set bq D] at Z
   try simp(disch:=omega) only[push_cast,zH]
   have a9:Mv p A ap cw:=E.trans V
   have ct:=i.same.size
   refine c4 D _ _ ⟨ap,bt,zs++[s],by simp,c0.upd h.err a2 fun b a=>⟨by have:=(d.off b a).1;omega,(d.off b a).2⟩,a9.to a2 fun b a=> .inr (d.off b a).1,⟨Z,d.off,d.out⟩,an.app (SmL.one bj),by simp[bq],fun st2 rs ho=>?_⟩
   have:=I st2 (s::rs) ?_
   ·simpa using this
   rw[Vg (by rw[List.length_take];omega) (by rw[List.length_take];omega),KX D,KX D]
   exact M.Bd.Out.bind b9 (M.Bd.Out.map _ ho)
  ·rw[show xs.length-k=0 by omega,List.replicate_zero,List.append_nil] at x
   have U:=I N [] (by rw[QZ (by rw[List.length_take];omega)];exact M.Bd.Out.ret _ _)
   rw[List.append_nil] at U
   try simp(disch:=omega) only[push_cast,zH]
   have ct:=i.same.size
   refine hC m _ _ (by omega) ⟨F4,N,L,zs,q.set m (-l),by simp<;>exact⟨rfl,rfl⟩,by omega,h4,i.trans G,Ints.weaken x.own.ints fun b a _=>⟨(x.off b a).2,fun O=>(by have:=(x.off b a).1;have:=a1.own.lt O;omega),x.out b a⟩,by omega,an,a1.mv G,by rw[List.length_set];exact cf,bd.set (by unfold Sm at*;omega),Ints.mvQ bm G,Ints.mvQ bp G,fun st2 res ho=>a0 st2 res ?_⟩
   subst ht
   exact jn0 cc Y U ho
 ·have c6:m=0:=by omega
  subst c6
  exact hK w6 F6 bu qv rv q r h6 aa ag.ints (Ints.offQ bg) bd bi (a0 bu (q,r) (by unfold M.divB;exact M.Bd.Out.ret _ _))
end Go.Proofs.YtaekfnbnhjgboaaGreatDoor
end
section
namespace Go.Proofs.YtaekfnbnhjgboaaGreatDoor
open Go Go.Vc Go.Proofs
variable {w:World} {K:Value→World→Prop} {F F' Fx Fy X Q:Nat→Prop} {n bc mb bb:Nat} {gs:M.Gs} {v:Value} {ar ab:Addr} {st:Option M.Gs}
theorem j60 {s:Int} {xs:List Int} {j:Nat} (h:xs.length≤j):M.rowB s (xs.drop j)= .ret []:=by rw[List.drop_eq_nil_of_le h];rfl
theorem kg0 {s:Int} {xs:List Int} {j:Nat} (h:j<xs.length):M.rowB s (xs.drop j)= .and (xs.getD j 0) s fun v=>(M.rowB s (xs.drop (j+1))).map (v:: ·):=by rw[xz h];rfl
theorem jd0 {xs ys s:List Int} {i j:Nat} (h:ys.length≤j):M.mulB xs (ys.drop j) i s= .ret s:=by rw[List.drop_eq_nil_of_le h];rfl
def P2 (l t:Nat) (F:Nat→Prop) (b:Nat):Prop:=F b∨b=l∨b=t
theorem Mv.p2 {w':World} {l t:Nat} (h:Mv F w F' w'):Mv (P2 l t F) w (P2 l t F') w':=
 ⟨h.same.mono fun _ _ h=> .inl h,fun b a=>a.elim (fun a=>(h.new b a).imp .inl id) fun a=> .inl (.inr a)⟩
theorem Mv.sub {w' w'':World} {S:Nat→Prop} (h:Mv F w F' w') (hs:Same S w' w'') (a:∀b,S b→F' b):Mv F w F' w'':=h.to hs fun b c=> .inl (a b c)
theorem Ints.notD {xs:List Int} {D:Nat} {ds:Option (List Deferred)} (h:Ints F w v xs) (q:w.heap[D]?=some (.deferred ds)):Ints (fun b=>F b∧b≠D) w v xs:=by
 obtain⟨⟨a,c,r,p,hm,n⟩,k⟩:=h
 refine⟨⟨a,c,r,p,hm,fun g=>?_⟩,k⟩
 obtain⟨b,o,m,l,i,d⟩:=n g
 refine⟨b,o,m,⟨l,fun e=>?_⟩,i,d⟩
 subst e
 have j:=List.length_pos_iff.2 g
 have hw:=k _ (M.getD_mem j [])
 have f:=d 0 j 0 _ (List.getElem?_eq_getElem (by omega))
 rw[xp] at f
 simp[World.cell?,q] at f
theorem mul_spec {xv yv:Value} {xs ys:List Int} (h:BdR n bb ar ab X F w st) (hx:Ints (Off X F) w xv xs) (hy:Ints (Off X F) w yv ys) (hl:xs.length=ys.length) (h8:xs.length≤900) (cw:SmL xs) (cx:SmL ys)
  (hK:∀w' F' st' r zs,BdR n bb ar ab X F' w' st'→Mv F w F' w'→Ints (Off X F') w' r zs→SmL zs→M.Bd.Out n (M.mulB xs ys 0 (M.offsL xs.length)) st st' zs→K r w'):
  vcall PP jK #[.pointer (some ⟨bb,0,none⟩),xv,yv] w K:=by
 apply Vs;unfold jV
 have cm:=h.lt
 refine j7 fun b3 w1 de aw dr aq=>?_
 replace aq:Blk w1 b3 [.pointer (some ⟨bb,0,none⟩)] zQ:=aq
 have cu:Ints (Off X F) w1 xv xs:=hx.ext aw
 simp(disch:=first|(simp only[push_cast];done)|omega) only[push_cast,cu.len]
 refine offs_spec (by omega) fun w2 ba ax a9 co=>?_
 refine W8 jz fun d w3 df a4 ds au=>?_
 replace au:Blk w3 d [.slice none 0 0] za:=au
 refine Blk.st (i:=0) au (Sl.cells1 (a9.ext a4).ints) (Sl.one (a9.ext a4).ints) kA rfl fun w4 bu cy a1=>?_
 replace a1:Blk w4 d [ba] za:=a1
 have z2:=ax.size
 have e2:=aw.trans ax
 have an:Ext w1 w4:=Ext.then (ax.trans a4) bu fun b a=>by omega
 have e4:=aw.trans an
 have ag:=aq.ext an
 have bv:=(a9.ext a4).same bu fun b a hx=>by have:=a9.lt a;omega
 simp(disch:=first|(simp only[push_cast];done)|omega) only[push_cast,ag.ld0]
 apply KC
 refine j7 fun bq w5 dg bh dt av=>?_
 replace av:Blk w5 bq [.pointer (some ⟨bb,0,none⟩)] zQ:=av
 refine j7 fun bx w6 dh bi du ci=>?_
 refine j7 fun by_ w7 di ay dv cj=>?_
 have be:Blk w6 bx [xv] za:=by have:=ci;rwa[Sl.cells1 hx] at this
 have bf:Blk w7 by_ [yv] za:=by have:=cj;rwa[Sl.cells1 hy] at this
 simp only[push_cast]
 refine⟨xZ,⟨[.pointer (some ⟨by_,0,none⟩),.pointer (some ⟨bx,0,none⟩),.pointer (some ⟨bq,0,none⟩)]⟩,rfl,fun l D N RR hD dk az dn cl b9 cr af=>?_⟩
 have bd:=bi.trans (ay.trans az)
 have a0:=bh.trans bd
 have e8:=e4.trans a0
 have z4:=e4.size
 have e1:=a0.size
 have dx:=an.size
 have pq:=av.ext bd
 have px:=be.ext (ay.trans az)
 have py:=bf.ext az
 have p3:=ag.ext a0
 have p7:=a1.ext a0
 have ch:=h.ext e8
 have ae:∀b,w.heap.size≤b→¬F b:=fun b a hf=>by have:=cm b (.inl hf);omega
 have sz:w1.heap.size=b3+1∧w3.heap.size=d+1∧w5.heap.size=bq+1∧w6.heap.size=bx+1∧w7.heap.size=by_+1∧D=w7.heap.size∧l=D+1:=⟨by omega,by omega,by omega,by omega,by omega,hD,by omega⟩
 have dz:w4.heap.size=w3.heap.size:=cy
 have dy:=a4.size
 have e0:=bh.size;have e3:=bi.size;have e5:=ay.size
 have cv:Ints (Off X (P2 l d F)) N xv xs:=by
  have v:Ints (fun b=>(¬F b∧¬X b)∧b<w.heap.size) w xv xs:=Ints.weaken hx fun _ v T=>⟨v,T⟩
  exact Ints.weaken (v.ext e8) fun b a _=>⟨fun o=>o.elim a.1.1 fun o=>by have:=a.2;omega,a.1.2⟩
 have c1:Ints (Off X (P2 l d F)) N yv ys:=by
  have v:Ints (fun b=>(¬F b∧¬X b)∧b<w.heap.size) w yv ys:=Ints.weaken hy fun _ v T=>⟨v,T⟩
  exact Ints.weaken (v.ext e8) fun b a _=>⟨fun o=>o.elim a.1.1 fun o=>by have:=a.2;omega,a.1.2⟩
 have ct:Ints (Off X (P2 l d F)) N ba (M.offsL xs.length):=Ints.weaken (bv.ext a0).ints fun b a _=>by
  have v:=a9.lt a
  have T:=co b a
  refine⟨fun o=>?_,fun hx=>by have:=h.lt b (.inr hx);omega⟩
  rcases o with o|o|o
  ·exact ae b (by omega) o
  ·omega
  ·omega
 have off:∀(m:Nat→Prop),(∀b,m b→F b∨N.heap.size≤b)→∀b,w.heap.size≤b→b<N.heap.size→¬m b:=fun m hN b v T hf=>(hN b hf).elim (ae b v) fun h=>by omega
 show vcall PP xZ #[.func (.yield l) #[] #[],.pointer (some ⟨by_,0,none⟩),.pointer (some ⟨bx,0,none⟩),.pointer (some ⟨bq,0,none⟩)] N _
 apply Qr
 simp(disch:=first|(simp only[push_cast];done)|omega) only[push_cast,py.ld0,c1.len]
 refine vloop_up ys.length (fun i u w'=> ∃m J sv s,u=[.int .i64 i]∧RR .ready none w'∧BdR n bb ar ab X m w' J∧Mv (P2 l d F) N (P2 l d m) w'∧(∀b,m b→F b∨N.heap.size≤b)∧Blk w' d [sv] za∧Ints (Off X (P2 l d m)) w' sv s∧s.length=xs.length∧SmL s∧
  ∀st2 res,M.Bd.Out n (M.mulB xs (ys.drop i) i s) J st2 res→M.Bd.Out n (M.mulB xs ys 0 (M.offsL xs.length)) st st2 res)
  ⟨F,st,ba,_,rfl,cr,ch,Mv.refl,fun b a=> .inl a,p7,ct,M.offsL_len _,SmL.offs _,fun _ _ h=>h⟩ ?_
 rintro i _ g w9 C hi ⟨m,J,sv,s,rfl,br,h9,V,U,c8,bw,dp,bz,aj⟩ hC
 simp only[push_cast]
 have z9:=V.same.size
 have keep:∀{b:Nat} {cs:List Value} {t:TypeId},Blk N b cs t→w.heap.size≤b→b≠l→b≠d→Blk w9 b cs t:=fun a v T h3=>a.same V.same fun o=>o.elim (ae _ v) fun o=>o.elim T h3
 have q9:=keep pq (by omega) (by omega) (by omega)
 have x9:=keep px (by omega) (by omega) (by omega)
 have k9:=keep p3 (by omega) (by omega) (by omega)
 have d9:w9.heap[D]?=some (.deferred (some [])):=(V.same.block D (by omega) fun o=>o.elim (ae _ (by omega)) fun o=>by omega).trans cl
 refine zh (fun dl=>?_) (fun d6=>?_)
 ·have b0:i<ys.length:=by omega
  have c0:=Ints.mv c1 V
  simp(disch:=first|(simp only[push_cast];done)|omega) only[push_cast,c0.iaddr,c0.load]
  refine offs_spec (by omega) fun w10 cc ah bo bn=>?_
  have cf:=h9.ext ah
  have bs:NewI X w9 m w10 cc (M.offsL i):=NewI.of bo bn h9.lt
  have dq:(xs.take (xs.length-i)).length=xs.length-i:=by rw[List.length_take];omega
  refine vloop_up (xs.length-i) (fun j u w'=> ∃L st2 rv zs,u=[rv,.int .i64 ((i+j:Nat):Int)]∧BdR n bb ar ab X L w' st2∧Mv m w9 L w'∧NewI X w9 L w' rv (M.offsL i++zs)∧SmL zs∧zs.length=j∧
   ∀W rs,M.Bd.Out n (M.rowB (ys.getD i 0) ((xs.take (xs.length-i)).drop j)) st2 W rs→M.Bd.Out n (M.rowB (ys.getD i 0) (xs.take (xs.length-i))) J W (zs++rs))
   ⟨m,J,cc,[],rfl,cf,Mv.refl.ext ah,by rw[List.append_nil];exact bs,SmL.nil,rfl,fun _ _ h=>h⟩ ?_
  rintro j _ g2 x C2 hj ⟨L,st2,rv,zs,rfl,ac,f,G,aa,c3,a6⟩ ck
  have a5:Mv (P2 l d F) N (P2 l d L) x:=V.trans f.p2
  have P:∀b,L b→F b∨N.heap.size≤b:=fun b a=>(f.new b a).elim (U b) fun h=> .inr (by omega)
  have B:∀{b:Nat} {cs:List Value} {t:TypeId},Blk w9 b cs t→w.heap.size≤b→b<N.heap.size→Blk x b cs t:=fun a v T=>a.same f.same (off m U _ v T)
  have d1:=B q9 (by omega) (by omega)
  have ce:=B x9 (by omega) (by omega)
  have cz:=B k9 (by omega) (by omega)
  have c5:=B c8 (by omega) (by omega)
  have d11:x.heap[D]?=some (.deferred (some [])):=(f.same.block D (by omega) (off m U D (by omega) (by omega))).trans d9
  have c9:RR .ready none x:=b9 _ _ _ _ br (f.same.block l (by omega) (off m U l (by omega) (by omega)))
  have dw:=f.same.size
  have ak:=Ints.mv cv a5
  simp(disch:=first|(simp only[push_cast];done)|omega) only[push_cast,ce.ld0,ak.len]
  refine zh (fun d8=>?_) (fun d7=>?_)
  ·have bj:j<xs.length-i:=by omega
   refine zw fun O y _=>?_
   have al:Ints (Off X (P2 l d L)) O xv xs:=Ints.ext ak y
   have d2:=d1.ext y
   have d4:=ce.ext y
   have ei:((i:Int)+j)-i=(j:Int):=by omega
   simp(disch:=first|(simp only[push_cast];done)|omega) only[push_cast,d2.ld0,d4.ld0,zH,ei,al.iaddr,al.load,true_and]
   refine jR (ac.ext y) (cw.get (by omega)) (cx.get b0) fun bc c A cd ao k bt Q=>?_
   refine yj yT yn yz rfl rfl fun dd Y d5 a3 c2 E=>?_
   have ai:Mv m w9 c Y:=((f.ext y).trans k).ext a3
   have ad:=ao.ext a3
   have R:NewI X w9 c Y rv (M.offsL i++zs):=((G.mv (Mv.refl.ext y)).mv k).mv (Mv.refl.ext a3)
   have dm:(M.offsL i++zs).length=i+j:=by rw[List.length_append,M.offsL_len,c3]
   refine R.app1 E ai.same.size ad.lt (by omega) fun d3 Z a7 q=>?_
   have ap:BdR n bb ar ab X c Z A:=ad.upd h.err q fun b a=>⟨by have:=(R.off b a).1;omega,(R.off b a).2⟩
   have bm:Mv m w9 c Z:=ai.to q fun b a=> .inr (R.off b a).1
   try simp(disch:=omega) only[push_cast,zH]
   refine ck bj _ _ ⟨c,A,d3,zs++[cd],by simp<;>omega,ap,bm,by rw[←List.append_assoc];exact a7,aa.app (SmL.one bt),by simp[c3],fun W rs ho=>?_⟩
   have:=a6 W (cd::rs) ?_
   ·simpa using this
   rw[kg0 (by omega),KX bj]
   exact qd Q (M.Bd.Out.map _ ho)
  ·have dj:j=xs.length-i:=by omega
   have a8:=a6 st2 [] (by rw[j60 (by omega)];exact M.Bd.Out.ret _ _)
   rw[List.append_nil] at a8
   refine af [rv] x _ rfl c9 ⟨c9,fun O p db bg=>?_⟩
   have bk:∀b,(b=l)→w.heap.size≤b∧¬L b:=fun b a=>⟨by omega,off L P b (by omega) (by omega)⟩
   have cg:BdR n bb ar ab X L O st2:=ac.upd h.err p bk
   have d0:=cz.same p (show¬b3=l by omega)
   have am:=c5.same p (show¬d=l by omega)
   have I:=Ints.mv bw f.p2
   have b6:Ints (Off X (P2 l d L)) O sv s:=Ints.same I p fun b a _ e=>a.1 (.inr (.inl e))
   have bp:NewI X w9 L O rv (M.offsL i++zs):=⟨G.own.same p fun b a e=>by have:=(G.off b a).1;omega,G.off,G.out⟩
   simp(disch:=first|(simp only[push_cast];done)|omega) only[push_cast,d0.ld0,am.ld0]
   have b8:Ints (Off X L) O sv s:=Ints.weaken b6 fun b a _=>⟨fun hf=>a.1 (.inl hf),a.2⟩
   refine bsum_spec cg b8 bp.ints (by rw[List.length_append,M.offsL_len];omega) (by omega) bz ((SmL.offs i).app aa) (by decide) fun bc c A nv ns ao k z cq Q=>?_
   have a2:∀b,c b→F b∨N.heap.size≤b:=fun b a=>(k.new b a).elim (P b) fun h=> .inr (by omega)
   have c6:=am.same k.same (off L P d (by omega) (by omega))
   refine Blk.st (i:=0) c6 (Sl.cells1 z.own.ints) (Sl.one z.own.ints) kA rfl fun Y S c2 E=>?_
   replace E:Blk Y d [nv] za:=E
   have ca:RR .busy none bc:=b9 _ _ _ _ bg (k.same.block l (by omega) (off L P l (by omega) (by omega)))
   have cb:RR .busy none Y:=b9 _ _ _ _ ca (S.block l (by have:=k.same.size;omega) (by omega))
   refine⟨cb,fun Z q dc a7=>?_⟩
   have ad:BdR n bb ar ab X c Y A:=ao.upd h.err S fun b a=>⟨by omega,off c a2 b (by omega) (by omega)⟩
   have ap:BdR n bb ar ab X c Z A:=ad.upd h.err q fun b a=>⟨by omega,off c a2 b (by omega) (by omega)⟩
   have z12:=p.size
   have b1:Mv (P2 l d F) N (P2 l d L) O:=a5.sub p fun b a=> .inr (.inl a)
   have b2:Mv (P2 l d F) N (P2 l d c) Z:=(((b1.trans k.p2).sub S fun b a=> .inr (.inr a))).sub q fun b a=> .inr (.inl a)
   have c7:=E.same q (show¬d=l by omega)
   have b4:Ints (Off X (P2 l d c)) Z nv ns:=by
    have v:Ints (Off X (P2 l d c)) bc nv ns:=Ints.weaken z.own.ints fun b a _=>⟨fun o=>by
     have:=(z.off b a).1
     rcases o with o|o|o
     ·exact(z.off b a).2 o
     ·omega
     ·omega,z.out b a⟩
    exact Ints.same (Ints.same v S fun b a _ e=>a.1 (.inr (.inr e))) q fun b a _ e=>a.1 (.inr (.inl e))
   have cp:ns.length=xs.length:=by
    have:=M.sum_len Q.reach
    rw[List.length_append,M.offsL_len] at this
    omega
   simp(disch:=omega) only[push_cast,Bool.not_true,zH]
   refine hC b0 _ _ ⟨c,A,nv,ns,by simp,a7,ap,b2,a2,c7,b4,cp,cq,fun W res ho=>aj W res ?_⟩
   rw[xz b0]
   exact M.Bd.Out.bind a8 (M.Bd.Out.bind Q ho)
 ·refine⟨.ready,none,by decide,br,fun w10 H da=>?_⟩
  show zf PP za _ w10 _
  have c4:=c8.same H (show¬d=l by omega)
  have d10:w10.heap[D]?=some (.deferred (some [])):=(H.block D (by omega) (by omega)).trans d9
  simp(disch:=first|(simp only[push_cast];done)|omega) only[push_cast,c4.ld0]
  refine⟨d10,fun x I aa=>?_⟩
  have bl:∀b,w.heap.size≤b→b<N.heap.size→w.heap.size≤b∧¬m b:=fun b v T=>⟨v,off m U b v T⟩
  have ac:BdR n bb ar ab X m x J:=(h9.upd h.err H fun b a=>bl b (by omega) (by omega)).upd h.err I fun b a=>bl b (by omega) (by omega)
  have cn:Mv F w m x:=by
   refine⟨Same.thn (Same.thn (Same.thn (Same.of_ext e8) V.same fun b a=>a.elim .inl fun a=> .inr (by omega)) H fun b a=> .inr (by omega)) I fun b a=> .inr (by omega),fun b a=>(U b a).imp id fun h=>?_⟩
   have:=e8.size;omega
  have b5:Ints (Off X m) x sv s:=by
   have v:Ints (Off X (P2 l d m)) w10 sv s:=Ints.same bw H fun b a _ e=>a.1 (.inr (.inl e))
   have T:=Ints.notD v d10
   exact Ints.weaken (Ints.same T I fun b a _ e=>a.2 e) fun b a _=>⟨fun hf=>a.1.1 (.inl hf),a.1.2⟩
  exact hK x m J sv s ac cn b5 bz (aj J s (by rw[jd0 (by omega)];exact M.Bd.Out.ret _ _))
end Go.Proofs.YtaekfnbnhjgboaaGreatDoor
end
section
namespace Go.Proofs.YtaekfnbnhjgboaaGreatDoor
open Go Go.Vc Go.Proofs
variable {w:World} {K:Value→World→Prop} {F F' Fx Fy X Q:Nat→Prop} {n bc mb bb:Nat} {gs:M.Gs} {v:Value} {ar ab:Addr} {st:Option M.Gs}
theorem k80 {t ty:TypeId} {a:Option Addr} {l c:Nat} (b:isSl PP t=true):vbi PP .cap [t] ty [.slice a l c] w K=K (.int .i64 c) w:=by
 obtain⟨e,he⟩:=yP0 b
 exact yB (by simp[biSem,Builtin.cap_,xY he,goInt])
theorem Grow_nil {m:Nat} (hm:m≤1000) (d:∀w' r,Ext w w'→OwnI PP za w' r []→(∀b,r.ownBlock=some b→w.heap.size≤b)→K r w'):vcall PP yP #[.slice none 0 0,.int .i64 m] w K:=by
 apply qS
 refine y5 (fun u w'=>w'=w) ?_ ?_
 ·intro J f
  simp only[push_cast]
  refine zh (fun h=>?_) (fun h=>f _ _ rfl)
  omega
 rintro _ _ w' hw
 rw[hw,k80 xx,yy0 xx]
 simp(disch:=omega) only[push_cast,zH,Int.sub_zero]
 refine zh (fun h=>?_) (fun h=>?_)
 ·rw[k80 xx]
  have c0:∀K:Value→World→Prop,yA PP za (.slice none 0 0) none (some (.int .i64 (0:Nat))) none w K=K (.slice none 0 0) w:=fun K=>OwnV.cut (P:=PP) (t:=za) (w:=w) OwnV.nil xf (n:=0) (by simp)
  rw[c0]
  refine vappend_make (bs:=8) yU xj yz rfl WP (by omega) (by omega) (by omega) fun v' i e he g=>?_
  rw[yy0 xx,OwnV.cut e xf (n:=0) (by omega)]
  have c:=OwnV.taken e (n:=0) (by omega)
  exact d i _ he (by rw[List.take_zero] at c;exact c) fun b a=>g b (by rw[←Y60 v' 0];exact a)
 ·exact d w _ (Same.refl _ _) OwnI.nil fun b a=>by cases a
theorem Vb {zss:List (List Int)} {i:Nat} (hi:i<zss.length):(zss.take (i+1)).flatten=(zss.take i).flatten++zss.getD i []:=by
 rw[M.take_add hi [],List.flatten_append];simp
theorem flat_le {zss:List (List Int)} (i:Nat):(zss.take i).flatten.length≤zss.flatten.length:=by
 have:zss.flatten=(zss.take i).flatten++(zss.drop i).flatten:=by rw[←List.flatten_append,List.take_append_drop]
 rw[this,List.length_append];omega
theorem Concat_spec {vs:List Value} {zss:List (List Int)} (j:Vals Fx w v vs) (L:vs.length=zss.length) (hi:∀i,i<zss.length→Ints Fy w (vs.getD i undef) (zss.getD i [])) (A:zss.flatten.length≤1000) (E:zss.length≤1000)
  (F:∀w' r,Ext w w'→OwnI PP za w' r zss.flatten→(∀b,r.ownBlock=some b→w.heap.size≤b)→K r w'):vcall PP yM #[v] w K:=by
 apply qA
 simp(disch:=first|(simp only[push_cast];done)|omega) only[push_cast,j.len]
 refine vloop_up zss.length (fun i u w'=>u=[.int .i64 ((zss.take i).flatten.length:Nat),.int .i64 i]∧w'=w) ⟨rfl,rfl⟩ ?_
 rintro i _ g M C p ⟨rfl,B⟩ k
 rw[B]
 simp only[push_cast]
 refine zh (fun q=>?_) (fun n=>?_)
 ·have a:i<zss.length:=by omega
  have D:=hi i a
  have hle:=flat_le (zss:=zss) (i+1)
  rw[Vb a,List.length_append] at hle
  simp(disch:=first|(simp only[push_cast];done)|omega) only[push_cast,j.iaddr,j.load,D.len,zH]
  refine zh (fun J=>by omega) (fun _=>?_)
  exact k a _ _ ⟨by rw[Vb a,List.length_append];simp,rfl⟩
 have o:i=zss.length:=by omega
 subst o
 rw[List.take_length]
 refine Grow_nil A fun N G m x s=>?_
 refine vloop_up zss.length (fun i u w'=> ∃r,u=[r,.int .i64 i]∧Ext w w'∧OwnI PP za w' r (zss.take i).flatten∧∀b,r.ownBlock=some b→w.heap.size≤b) ⟨G,rfl,m,x,s⟩ ?_
 rintro i _ g I C p ⟨r,rfl,c,e,d⟩ k
 simp only[push_cast]
 refine zh (fun q=>?_) (fun n=>?_)
 ·have a:i<zss.length:=by omega
  have D:=(hi i a).ext c
  have f:=j.ext c
  have hle:=flat_le (zss:=zss) (i+1)
  rw[Vb a,List.length_append] at hle
  simp(disch:=first|(simp only[push_cast];done)|omega) only[push_cast,f.iaddr,f.load]
  refine e.app yU D (by omega) (by omega) fun H O y z t=>?_
  have:=c.size
  try simp(disch:=omega) only[push_cast,zH]
  exact k a _ _ ⟨H,by simp<;>exact⟨rfl,rfl⟩,Ext.then c z fun b l=>d b l,by rw[Vb a];exact y,fun b l=>(t b l).elim (d b) fun h=>by omega⟩
 ·rw[show i=zss.length by omega,List.take_length] at e
  exact F I r c e d
theorem un_spec {op:Int} {xv:Value} {xs:List Int} (h:BdR n bb ar ab X F w st) (G:op=1∨op=2) (s:Ints (Off X F) w xv xs) (I:xs.length≤900) (d:SmL xs)
  (e:∀w' F' st' r zs,BdR n bb ar ab X F' w' st'→Mv F w F' w'→Ints (Off X F') w' r zs→SmL zs→M.Bd.Out n (M.unB op xs) st st' zs→K r w'):
  vcall PP kq #[.pointer (some ⟨bb,0,none⟩),.int .i64 op,xv] w K:=by
 apply Wt
 simp only[push_cast]
 unfold M.unB at e
 refine zh (fun c=>?_) (fun c=>?_)
 ·rw[if_pos c] at e
  refine negated_spec s (by omega) d fun x r a p j=>?_
  exact e x F st r _ (h.ext a) (Mv.refl.ext a) (NewI.of p j h.lt).ints d.neg (M.Bd.Out.ret _ _)
 rw[if_neg c] at e
 simp(disch:=first|(simp only[push_cast];done)|omega) only[push_cast,s.len]
 refine zh (fun A=>?_) (fun A=>by omega)
 refine offs_spec (by omega) fun x ov a m l=>?_
 refine negated_spec (s.ext a) (by omega) d fun y nv f k g=>?_
 have v:=a.trans f
 have J:=a.size
 have D:Ints (Off X F) y ov (M.offsL xs.length):=(NewI.of (m.ext f) l h.lt).ints
 have C:Ints (Off X F) y nv (M.negL xs):=(NewI.of k (fun b E=>by have:=g b E;omega) h.lt).ints
 refine bsum_spec (h.ext v) D C (by rw[M.offsL_len,M.negL_len];exact Nat.le_refl _) (by rw[M.offsL_len];omega) (SmL.offs _) d.neg (by decide) fun H z u r zs B i q t o=>?_
 exact e H z u r zs B ((Mv.refl.ext v).trans i) q.ints t o
theorem bin_spec {op:Int} {xv yv:Value} {xs ys:List Int} (h:BdR n bb ar ab X F w st) (U:∃gs,st=some gs) (u:3≤op) (a0:op≤14) (o:Ints (Off X F) w xv xs) (t:Ints (Off X F) w yv ys) (E:op≠14→xs.length=ys.length) (hc:op=14→xs.length+ys.length≤4) (D:1≤xs.length) (h8:xs.length≤8) (g:SmL xs) (j:SmL ys)
  (d:∀w' F' st' r zs,BdR n bb ar ab X F' w' st'→Mv F w F' w'→Ints (Off X F') w' r zs→SmL zs→M.Bd.Out n (M.binB op xs ys) st st' zs→K r w'):
  vcall PP qx #[.pointer (some ⟨bb,0,none⟩),.int .i64 op,xv,yv] w K:=by
 apply Vt
 obtain⟨gs,rfl⟩:=U
 obtain⟨bc,Z,hC⟩:=h.blk
 simp only at Z
 unfold M.binB at d
 simp only[push_cast,xB Yp h.err.bits.cell]
 refine zh (fun c=>?_) (fun c=>?_)
 ·rw[if_pos c] at d
  have:=hc c
  simp(disch:=first|(simp only[push_cast];done)|omega) only[push_cast,o.len,t.len,zH,xB Yp h.err.bits.cell]
  rw[decide_eq_false (by omega)]
  refine UZ ?_
  refine vbuildS_row1 (xs:=[yv,xv]) XU kA jz (fun x L=>by
   simp only[List.mem_cons,List.not_mem_nil,or_false] at L
   rcases L with rfl|rfl
   ·exact Sl.cells1 t
   ·exact Sl.cells1 o) (by simp) fun b1 O a1 s a2 P=>?_
  have hv:Vals (· =b1) O (.slice (some ⟨b1,0,none⟩) [yv,xv].length [yv,xv].length) [yv,xv]:=P.sl1 rfl (by simp)
  refine Concat_spec (zss:=[ys,xs]) hv rfl (Fy:=Off X F) (fun i hi=>?_) (by simp;omega) (by simp) fun w2 r Q T S=>?_
  ·match i,hi with
   |0,_=>exact t.ext s
   |1,_=>exact o.ext s
  ·have Y:=s.trans Q
   have z1:=s.size
   refine d w2 F (some gs) r (ys++xs) (h.ext Y) (Mv.refl.ext Y) (NewI.of (w:=w) (by simpa using T) (fun b hb=>by have:=S b hb;omega) h.lt).ints (j.app g) (M.Bd.Out.ret _ _)
 rw[if_neg c] at d
 have E:=E c
 simp(disch:=first|(simp only[push_cast];done)|omega) only[push_cast,o.len,t.len,xB Yp h.err.bits.cell]
 rw[decide_eq_false (by omega)]
 refine UZ ?_
 simp(disch:=first|(simp only[push_cast];done)|omega) only[push_cast,Z.ld1,Ke]
 refine zh (fun c=>?_) (fun c=>?_)
 ·rw[if_pos c] at d
  exact each_spec (p:=fun a b=> .and a b .ret) h o t (by omega) (by omega) g j (fun O V N x y W D _ B C A=>jR D B C A) fun z v k r zs u e l m f=>d z v k r zs u e l.ints m f
 rw[if_neg c] at d
 refine zh (fun c=>?_) (fun c=>?_)
 ·rw[if_pos c] at d
  exact each_spec (p:=M.orB) h o t (by omega) (by omega) g j (fun O V N x y W D _ B C A=>bor_spec D B C A) fun z v k r zs u e l m f=>d z v k r zs u e l.ints m f
 rw[if_neg c] at d
 refine zh (fun c=>?_) (fun c=>?_)
 ·rw[if_pos c] at d
  exact each_spec (p:=fun a b=> .xor a b .ret) h o t (by omega) (by omega) g j (fun O V N x y W D _ B C A=>Qw D B C A) fun z v k r zs u e l m f=>d z v k r zs u e l.ints m f
 rw[if_neg c] at d
 refine zh (fun c=>?_) (fun c=>?_)
 ·rw[if_pos c] at d
  exact bsum_spec h o t (by omega) (by omega) g j (by decide) fun z v k r zs u e l m f=>d z v k r zs u e l.ints m f
 rw[if_neg c] at d
 refine zh (fun c=>?_) (fun c=>?_)
 ·rw[if_pos c] at d
  refine negated_spec t (by omega) j fun O nv s R G=>?_
  exact bsum_spec (h.ext s) (o.ext s) (NewI.of R G h.lt).ints (by rw[M.negL_len];omega) (by omega) g j.neg (by decide) fun z v k r zs u e l m f=>d z v k r zs u ((Mv.refl.ext s).trans e) l.ints m f
 rw[if_neg c] at d
 refine zh (fun c=>?_) (fun c=>?_)
 ·rw[if_pos c] at d
  exact mul_spec h o t E (by omega) g j d
 rw[if_neg c] at d
 refine zh (fun c=>?_) (fun c=>?_)
 ·rw[if_pos c] at d
  refine divide_spec h o t E (by omega) g j fun z v k qv rv q r u e H l I J f=>?_
  simp only[push_cast]
  exact d z v k qv q u e H I (M.Bd.Out.map _ f)
 rw[if_neg c] at d
 refine zh (fun c=>?_) (fun c=>?_)
 ·rw[if_pos c] at d
  refine divide_spec h o t E (by omega) g j fun z v k qv rv q r u e H l I J f=>?_
  simp only[push_cast]
  exact d z v k rv r u e l J (M.Bd.Out.map _ f)
 rw[if_neg c] at d
 refine zh (fun c=>?_) (fun c=>?_)
 ·rw[if_pos c] at d
  exact shift_spec h o t (by omega) (by omega) g j (by decide) d
 rw[if_neg c] at d
 refine zh (fun c=>?_) (fun c=>?_)
 ·rw[if_pos c] at d
  exact shift_spec h o t (by omega) (by omega) g j (by decide) d
 rw[if_neg c] at d
 refine zh (fun c=>?_) (fun c=>by omega)
 simp(disch:=first|(simp only[push_cast];done)|omega) only[push_cast,o.len,zH,o.iaddr,o.load]
 rw[show((xs.length:Int)-1).toNat=xs.length-1 by omega]
 exact shift_spec h o t (by omega) (by omega) g j (g.get (by omega)) d
theorem compare_spec {op:Int} {xv yv:Value} {xs ys:List Int} (h:BdR n bb ar ab X F w st) (g:∃gs,st=some gs) (m:15≤op) (k:op≤17) (e:Ints (Off X F) w xv xs) (f:Ints (Off X F) w yv ys) (l:xs.length=ys.length) (j:1≤xs.length) (o:xs.length≤8) (b:SmL xs) (d:SmL ys)
  (a:∀w' F' st' r,BdR n bb ar ab X F' w' st'→Mv F w F' w'→Sm r→M.Bd.Out n (M.cmpB op xs ys) st st' r→K (.int .i64 r) w'):
  vcall PP qt #[.pointer (some ⟨bb,0,none⟩),.int .i64 op,xv,yv] w K:=by
 apply XL
 obtain⟨gs,rfl⟩:=g
 obtain⟨bc,i,p⟩:=h.blk
 simp only at i
 unfold M.cmpB at a
 simp(disch:=first|(simp only[push_cast];done)|omega) only[push_cast,e.len,f.len,xB Yp h.err.bits.cell]
 rw[decide_eq_false (by omega)]
 refine UZ ?_
 simp(disch:=first|(simp only[push_cast];done)|omega) only[push_cast,i.ld1,Ke]
 refine zh (fun c=>?_) (fun c=>?_)
 ·rw[if_pos c] at a
  exact bsame_spec h e f (by omega) (by omega) b d a
 rw[if_neg c] at a
 refine zh (fun c=>?_) (fun c=>?_)
 ·rw[if_pos c] at a
  exact bless_spec h e f (by omega) (by omega) b d a
 rw[if_neg c] at a
 refine zh (fun c=>?_) (fun c=>by omega)
 exact under_spec h e f l j (by omega) b d a
end Go.Proofs.YtaekfnbnhjgboaaGreatDoor
end
section
namespace Go.Proofs.YtaekfnbnhjgboaaGreatDoor
open Go Go.Vc Go.Proofs
open Go.ChangeShapes Go.WideShapes Go.ChangeAt Go.RowKit
theorem YR0:ownKnob PP.godebug=none:=by kernel_rfl
theorem X8:laidOutB PP=true:=by kernel_rfl
def restFacts (P:Program) (f:FuncId) (fn:Func) (s:ChangeSpec) (c:OpenClaim):Bool:=
 c.wf (OpenSpec.ofChange s)&&
 fn.params.all (P.readableRec ·)&&namedTie P c.named s.vars&&
 (c.stops==[])&&(P.stops==[])&&(c.knobs==[])&&(P.stopKnobs==[])&&
 (c.maps==(fn.params.toList++s.plain.varTypes P).any (P.mapsRec ·))&&(c.ifaces==(fn.params.toList++s.plain.varTypes P).any (P.ifacesRec ·))&&(c.mapsOut==P.mapsAmong fn.resultTypes.toList)&&
 (c.loops==(fn.params.toList++s.plain.varTypes P).any (P.loopsFrom ·))&&(c.wideKeys==(fn.params.toList++s.plain.varTypes P++fn.resultTypes.toList).any (P.wideKeysFrom ·))&&
 s.vars.all (P.varReadable ·)&&fn.resultTypes.all (fun t=>P.readableRec t&&decide (t<P.types.size))&&(c.ifacesOut==fn.resultTypes.toList.any (P.ifacesRec ·))&&(c.loopsOut==fn.resultTypes.toList.any (P.loopsFrom ·))&&(c.plainKeys==P.plainKeys)&&c.shortTexts.isNone&&P.stopsHeard&&P.mayEnter&&(c.lifted==P.liftsFinal)&&(P.make==some c.make)&&(c.kinds==(if c.domain.isEmpty then[] else fn.params.toList.map fun t=>match P.underlying t with|some (.int k)=>some k|_=>none))&&(c.pinned==c.pinnedBy)&&
 (c.veiled==(fn.params.toList++s.plain.varTypes P++fn.resultTypes.toList).any (P.veiledRec ·))&&c.veiledFits P fn.params.toList (fn.params.toList++s.plain.varTypes P++fn.resultTypes.toList)
theorem kv0 {P:Program} {f:FuncId} {fn:Func} {s:ChangeSpec} {c:OpenClaim} (b:laidOutB P=true) (d:mapsRowed P=true) (e:(c.inPlace==P.inPlace f)=true) (g:(c.unfollowed==P.unfollowed f)=true)
  (h:(c.recurses==P.recurses f)=true) (i:(c.named==P.varsNamed f)=true) (a:restFacts P f fn s c=true):joinedFacts P f fn s c=true:=by
 unfold restFacts at a
 unfold joinedFacts
 rw[b,d,e,g,h,i]
 simp only[Bool.and_true]
 exact a
theorem ZI0:mapsRowed PP=true:=by kernel_rfl
theorem kG0 {w w':World} (h:Ext w w'):Below w.heap.size w w':=⟨h.os,h.tape,h.output,h.size,fun k a=>h.block k a id⟩
end Go.Proofs.YtaekfnbnhjgboaaGreatDoor
end
section
namespace Go.Proofs.YtaekfnbnhjgboaaGreatDoor
open Go Go.Vc Go.Proofs
open Go.ChangeShapes Go.WideShapes Go.ChangeAt Go.RowKit
variable {w:World} {K:Value→World→Prop} {F F' D G:Nat→Prop}
theorem list2 {α:Type} {l:List α} (h:l.length=2):∃a b,l=[a,b]:=by
 match l,h with
 |[a,b],_=>exact⟨a,b,rfl⟩
theorem list5 {α:Type} {l:List α} (h:l.length=5):∃a b c d e,l=[a,b,c,d,e]:=by
 match l,h with
 |[a,b,c,d,e],_=>exact⟨a,b,c,d,e,rfl⟩
theorem sl_of {w:World} {x:Addr} {k len cap:Nat} {css:List (List Value)} (n:0<k) (o:len≤cap) (hm:cap≤maxLen) (p:css.length=len) (hw:∀c,c∈css→c.length=k)
  (a:∀i,i<len→∀j,j<k→w.cell? (x.add (i*k+j))=(css.getD i [])[j]?):Sl (fun _=>True) w k (.slice (some x) len cap) css:=by
 subst p
 refine⟨⟨some x,cap,rfl,o,by unfold maxLen at hm;exact hm,fun f=>?_⟩,hw⟩
 have hlen:0<css.length:=List.length_pos_iff.2 f
 obtain⟨b,off,spot⟩:=x
 have q:(css.getD 0 []).length=k:=hw _ (M.getD_mem hlen _)
 have d:=a 0 hlen 0 n
 rw[List.getElem?_eq_getElem (by omega:0<(css.getD 0 []).length)] at d
 have e:spot=none:=by simpa[Addr.add] using World.cell?_spot d
 subst e
 rw[xp] at d
 refine⟨b,off,rfl,trivial,World.block_lt_of_cell? w _ d,fun i hi j v l=>?_⟩
 have g:(css.getD i []).length=k:=hw _ (M.getD_mem hi _)
 have m:j<k:=by rw[←g];exact(List.getElem?_eq_some_iff.1 l).1
 have h:=a i hi j m
 rw[xp] at h
 rw[xp,←l,←h,Nat.add_assoc]
section
variable {H:Type} {enc:TypeId×Value→H} {W:World} {cs:List Value} {x:DataW H×List MemPlace} {held:Bool} {fuel:Nat}
theorem XS:PP.underlying zE=some .string:=by kernel_rfl
theorem XA0:PP.underlying yQ=some (.struct #[⟨"Name",zE,0,false,"","",0⟩,⟨"Wide",ze,1,false,"","",16⟩]):=by kernel_rfl
theorem Xz0:PP.underlying yb=some (.struct #[⟨"Op",ze,0,false,"","",0⟩,⟨"A",ze,1,false,"","",8⟩,⟨"B",ze,2,false,"","",16⟩,⟨"Name",zE,3,false,"","",24⟩,⟨"Kids",yr,4,false,"","",40⟩]):=by kernel_rfl
theorem YB0:PP.cellsOf ze=1:=by kernel_rfl
theorem qv0:PP.cellsOf zE=1:=by kernel_rfl
theorem c1_Ls:PP.cellsOf yr=1:=by kernel_rfl
theorem kL0:PP.cellsOf yQ=2:=by kernel_rfl
theorem qV0:PP.cellsOf yb=5:=by kernel_rfl
def Wa:M.Tm→Bool:=M.Tm.fold fun t xs=>decide (t.s.size≤9223372036854775807)&&xs.all id
theorem ZD0 (t:M.Tm):Wa t=(decide (t.s.size≤9223372036854775807)&&(t.ks.map Wa).all id):=M.Tm.fold_eq _ t
theorem Xy0 {t:M.Tm}:Wa t=true↔t.s.size≤9223372036854775807∧∀k,k∈t.ks→Wa k=true:=by
 rw[ZD0,Bool.and_eq_true,decide_eq_true_eq,List.all_eq_true]
 refine and_congr_right fun _=>⟨fun h k a=>h _ (List.mem_map_of_mem a),fun h y b=>?_⟩
 obtain⟨k,a,rfl⟩:=List.mem_map.1 b
 exact h k a
theorem X50 (h:DataW.trod enc PP W 0 (fun _=>true) held fuel yQ cs=some x):∃d:M.Dcl,cs=[.string d.1,.int .i64 d.2]∧d.1.size≤9223372036854775807:=by
 obtain⟨xs,n,_,_,g,hlen,f⟩:=DataW.trod_struct XA0 h
 rw[kL0] at g
 obtain⟨c0,i,rfl⟩:=list2 g
 obtain⟨j,k,rfl⟩:=list2 (α:=DataW H×List MemPlace) hlen
 ·have c:=f 0 ⟨"Name",zE,0,false,"","",0⟩ rfl
  have e:=f 1 ⟨"Wide",ze,1,false,"","",16⟩ rfl
  simp only[YB0,qv0,List.drop_zero,List.take_succ_cons,List.take_zero,List.drop_succ_cons,List.getElem?_cons_zero,List.getElem?_cons_succ] at c e
  obtain⟨s,a,_,hs⟩:=DataW.trod_string XS c
  obtain⟨n,b,_,_⟩:=DataW.trod_int WP e
  simp only[List.cons.injEq,and_true] at a b
  subst a b
  exact⟨(s,n),rfl,by simpa[maxLen] using hs⟩
theorem each_in {α:Type} [Inhabited α] {e k:Nat} {R:List Value→α→Prop} {a:Addr} {len cap n:Nat} {elems:List (DataW H×List MemPlace)} (ce:PP.cellsOf e=k) (p:0<k) (r:len≤cap) (hm:cap≤maxLen) (t:elems.length=len)
  (f:∀i,i<len→(W.cells? 0 (a.add (i*PP.cellsOf e)) (PP.cellsOf e)).bind (DataW.trod enc PP W 0 (fun _=>true) held n e)=elems[i]?)
  (b:∀cs x,DataW.trod enc PP W 0 (fun _=>true) held n e cs=some x→∃y,R cs y):
  ∃(css:List (List Value)) (ys:List α),Sl (fun _=>True) W k (.slice (some a) len cap) css∧css.length=len∧ys.length=len∧∀i,i<len→R (css.getD i []) (ys.getD i default):=by
 have each:∀i,i<len→∃q:List Value×α,W.cells? 0 (a.add (i*k)) k=some q.1∧R q.1 q.2:=fun i hi=>by
  have h:=f i hi
  rw[List.getElem?_eq_getElem (by omega),ce] at h
  obtain⟨cs',l,m⟩:=Option.bind_eq_some_iff.1 h
  obtain⟨y,s⟩:=b _ _ m
  exact⟨(cs',y),l,s⟩
 obtain⟨q,g⟩:=Go.Deep.choose_lt each
 refine⟨(List.range len).map fun i=>(q i).1,(List.range len).map fun i=>(q i).2,?_,by simp,by simp,fun i hi=>?_⟩
 ·refine sl_of p r hm (by simp) (fun c d=>?_) fun i hi j o=>?_
  ·obtain⟨i,hi,rfl⟩:=List.mem_map.1 d
   exact(World.cells?_some (g i (List.mem_range.1 hi)).1).2.1
  ·have d:=(World.cells?_some (g i hi).1).2.2 j o
   rw[Go.Deep.add_add] at d
   rw[d]
   simp[List.getD_eq_getElem?_getD,hi]
 ·have:=(g i hi).2
  simpa[List.getD_eq_getElem?_getD,hi] using this
theorem decls_in (h:DataW.trod enc PP W 0 (fun _=>true) held fuel xe cs=some x):∃v ds,cs=[v]∧DclsR (fun _=>True) W v ds∧qz0 ds:=by
 rcases DataW.trod_slice WM h with⟨rfl,_⟩|⟨a,len,cap,elems,rest,n,_,rfl,_,_,f,hm,g,b,_,_⟩
 ·exact⟨_,[],rfl,⟨⟨none,0,rfl,by simp,by simp,fun h=>absurd rfl h⟩,by simp⟩,fun i hi=>absurd hi (by simp)⟩
 ·obtain⟨css,ys,hs,k,l,c⟩:=each_in (α:=M.Dcl) (R:=fun cs d=>cs=[.string d.1,.int .i64 d.2]∧d.1.size≤9223372036854775807) kL0 (by decide) f hm g b fun cs x j=>X50 j
  refine⟨_,ys,rfl,?_,fun i hi=>?_⟩
  ·have e:css=ys.map fun d=>[Value.string d.1,Value.int .i64 d.2]:=by
    refine List.ext_getElem (by simp;omega) fun i g1 g2=>?_
    have:=(c i (by omega)).1
    rw[List.getD_eq_getElem?_getD,List.getElem?_eq_getElem g1,List.getD_eq_getElem?_getD,List.getElem?_eq_getElem (by omega)] at this
    simpa using this
   rw[e] at hs
   exact hs
  ·have:=(c i (by omega)).2
   rw[List.getD_eq_getElem?_getD,List.getElem?_eq_getElem hi] at this⊢
   simpa using this
theorem term_in:∀(fuel:Nat) {cs:List Value} {x:DataW H×List MemPlace},DataW.trod enc PP W 0 (fun _=>true) held fuel yb cs=some x→∃t:M.Tm,TmR (fun _=>True) W cs t∧Wa t=true:=by
 intro fuel
 induction fuel using Nat.strongRecOn with
 |_ fuel I=>
 intro cs x h
 obtain⟨xs,n,D,_,e,hlen,c⟩:=DataW.trod_struct Xz0 h
 rw[qV0] at e
 obtain⟨c0,J,K,c3,L,rfl⟩:=list5 e
 clear e
 obtain⟨N,O,P,Q,S,rfl⟩:=list5 (α:=DataW H×List MemPlace) hlen
 ·have y:=c 0 ⟨"Op",ze,0,false,"","",0⟩ rfl
  have z:=c 1 ⟨"A",ze,1,false,"","",8⟩ rfl
  have A:=c 2 ⟨"B",ze,2,false,"","",16⟩ rfl
  have B:=c 3 ⟨"Name",zE,3,false,"","",24⟩ rfl
  have C:=c 4 ⟨"Kids",yr,4,false,"","",40⟩ rfl
  simp only[YB0,qv0,c1_Ls,List.drop_zero,List.take_succ_cons,List.take_zero,List.drop_succ_cons,List.getElem?_cons_zero,List.getElem?_cons_succ] at y z A B C
  obtain⟨o,r,_,_⟩:=DataW.trod_int WP y
  obtain⟨p,u,_,_⟩:=DataW.trod_int WP z
  obtain⟨q,v,_,_⟩:=DataW.trod_int WP A
  obtain⟨s,w,_,hs⟩:=DataW.trod_string XS B
  simp only[List.cons.injEq,and_true] at r u v w
  subst r u v w
  have f:s.size≤9223372036854775807:=by simpa[maxLen] using hs
  rcases DataW.trod_slice XT C with⟨b,_⟩|⟨a,len,cap,elems,rest,m,E,b,_,_,e,hm,F,g,_,_⟩
  ·simp only[List.cons.injEq,and_true] at b
   subst b
   exact⟨.mk o p q s [],leafR o p q s,Xy0.2 ⟨f,fun k j=>by cases j⟩⟩
  ·simp only[List.cons.injEq,and_true] at b
   subst b
   obtain⟨css,ys,l,g1,g2,g3⟩:=each_in (α:=M.Tm) (R:=fun cs t=>TmR (fun _=>True) W cs t∧Wa t=true) qV0 (by decide) e hm F g fun cs x G=>I m (by omega) G
   refine⟨.mk o p q s ys,TmR.of (t:= .mk o p q s ys) ⟨css,l,by show css.length=ys.length;omega,fun i hi=>?_⟩,Xy0.2 ⟨f,fun k j=>?_⟩⟩
   ·have d:i<ys.length:=hi
    exact(g3 i (by omega)).1
   ·obtain⟨i,hi,rfl⟩:=List.getElem_of_mem j
    have d:i<ys.length:=hi
    have:=(g3 i (by omega)).2
    rwa[List.getD_eq_getElem?_getD,List.getElem?_eq_getElem d] at this
end
end Go.Proofs.YtaekfnbnhjgboaaGreatDoor
end
section
namespace Go.Proofs.YtaekfnbnhjgboaaGreatDoor
open Go Go.Vc Go.Proofs
variable {w:World} {K:Value→World→Prop} {F F' D G:Nat→Prop}
theorem jQ {α:Type} {xs:List α} {i j:Nat} {x d:α} (hi:i<xs.length):(xs.set i x).getD j d=if i=j then x else xs.getD j d:=by
 simp only[List.getD_eq_getElem?_getD,List.getElem?_set]
 by_cases e:i=j
 ·subst e;simp[hi]
 ·simp[e]
theorem vmkS_agg {P:Program} {bs n k:Nat} {t:TypeId} {cs:List Value} {z A:IntKind} (C:elZ P t k bs=true) (G:0<k) (g:yO P (JC P t) (.agg ⟨cs⟩)) (m:bs*n≤281474976710656) (o:n≤9223372036854775807)
  (B:∀v' w',Own P 0 k t w' v' (List.replicate n cs)→Ext w w'→(∀b,v'.ownBlock=some b→w.heap.size≤b)→K v' w'):Zr0 P t (.int z n) (.int A n) w K:=by
 obtain⟨hu,i,J,hi,f,u,p,v⟩:=xY0 C
 have:J= .agg ⟨cs⟩:=by
  unfold yO at g;rw[hi] at g;simp only[f,Option.some.injEq] at g;exact g
 subst this
 subst p
 have c:cs.length=k:=v
 obtain⟨w',H,a,r⟩:=run_make_full (P:=P) w 0 t (JC P t) i _ k hu hi f u z A n m (by simpa[maxLen] using o) (by omega)
 have hw:∀x,x∈List.replicate n cs→x.length=k:=fun x I=>by rw[List.eq_of_mem_replicate I];exact c
 refine⟨_,w',H,B _ w' ⟨?_,hw⟩ ((Same.of_grown r).mono fun _ _ h=>by cases h) fun b D=>by cases D;exact Nat.le_refl _⟩
 have e:(madeCells (Value.agg ⟨cs⟩).cells (n*k)).toList=(List.replicate n cs).flatten:=by
  refine List.ext_getElem (by rw[flatten_len hw];simp[madeCells]) fun j L l=>?_
  have F:j<n*k:=by rw[flatten_len hw,List.length_replicate] at l;exact l
  have y:j/k<n:=Nat.div_lt_of_lt_mul (by rw[Nat.mul_comm];exact F)
  have d:=Nat.mod_lt j G
  have q:=flatten_get hw (i:=j/k) (j:=j%k) (by simpa using y) d
  have s:j/k*k+j%k=j:=by rw[Nat.mul_comm];exact Nat.div_add_mod j k
  rw[s,List.getElem?_eq_getElem l] at q
  have E:(List.replicate n cs).getD (j/k) []=cs:=by simp[List.getD_eq_getElem?_getD,y]
  rw[E,List.getElem?_eq_getElem (by omega)] at q
  rw[Option.some.inj q]
  simp[madeCells,Value.cells,c,d]
 rw[List.length_replicate]
 rw[e] at a
 exact a
theorem szDecl_spec {s:ByteArray} {n left:Int} (g:0≤left) (h:left≤1048576) (hs:s.size≤9223372036854775807) (c:∀w' r,Ext w w'→(r= -1∨0≤r∧r≤left∧(s.size:Int)≤left)→K (.int .i64 r) w'):vcall PP Xj #[.agg ⟨[.string s,.int .i64 n]⟩,.int .i64 left] w K:=by
 apply xn0
 refine zx fun b1 i d b e f=>?_
 simp(disch:=first|(simp only[push_cast];done)|exact XS) only[push_cast,f.ld0,KO]
 rw[show IntKind.i64.wrap (left-(s.size:Int))=left-s.size from zH (by omega) (by omega)]
 refine zh (fun a=>?_) (fun a=>?_)
 ·exact c _ _ b (.inl rfl)
 ·exact c _ _ b (.inr (by omega))
theorem szDeclS_spec {v:Value} {ds:List M.Dcl} {left:Int} (o:0≤left) (p:left≤1048576) (l:qz0 ds) (g:DclsR F w v ds) (f:∀w' r,Ext w w'→(r= -1∨0≤r∧r≤left∧(ds.length:Int)≤left)→K (.int .i64 r) w'):vcall PP Yv #[v,.int .i64 left] w K:=by
 apply zZ0
 have k:=g.small
 simp(disch:=(simp only[push_cast];done)) only[push_cast,g.len]
 rw[show IntKind.i64.wrap (left-(ds.length:Int))=left-ds.length from zH (by omega) (by omega)]
 refine zh (fun a=>f _ _ (Same.refl _ _) (.inl rfl)) (fun a=>?_)
 refine vloop_up ds.length (fun i u w'=> ∃r:Int,u=[.int .i64 r,.int .i64 i]∧Ext w w'∧0≤r∧r≤left) ⟨_,rfl,Same.refl _ _,by omega,by omega⟩ ?_
 rintro i _ _ s C hi ⟨r,rfl,he,m,q⟩ h
 have b:=g.ext he
 simp(disch:=first|(simp only[push_cast];done)|omega) only[push_cast,b.len]
 refine zh (fun c=>?_) (fun c=>?_)
 ·simp(disch:=first|(simp only[push_cast];done)|omega) only[push_cast,b.iaddr,b.load]
  refine szDecl_spec m (by omega) (l i (by omega)) fun t n e j=>?_
  simp only[push_cast]
  refine zh (fun d=>f _ _ (he.trans e) (.inl rfl)) (fun d=>?_)
  rw[inc64' (by omega)]
  exact h (by omega) _ _ ⟨n,rfl,he.trans e,by omega,by omega⟩
 ·exact f _ _ he (.inr (by omega))
def kD0:M.Tm→Bool:=M.Tm.fold fun t xs=>decide (t.ks.length≤1048576)&&xs.all id
theorem X10 (t:M.Tm):kD0 t=(decide (t.ks.length≤1048576)&&(t.ks.map kD0).all id):=M.Tm.fold_eq _ t
theorem fitB_iff {t:M.Tm}:kD0 t=true↔t.ks.length≤1048576∧∀k,k∈t.ks→kD0 k=true:=by
 rw[X10,Bool.and_eq_true,decide_eq_true_eq,List.all_eq_true]
 refine and_congr_right fun _=>⟨fun h k a=>h _ (List.mem_map_of_mem a),fun h y b=>?_⟩
 obtain⟨k,a,rfl⟩:=List.mem_map.1 b
 exact h k a
abbrev SzT (t:M.Tm):Prop:=∀{w:World} {K:Value→World→Prop} {F:Nat→Prop} {v:Value} {left:Int},TermR F w v t→Wa t=true→0≤left→left≤1048576→(∀w' r,Ext w w'→(r= -1∨0≤r∧r+M.sizeM t≤left+1∧kD0 t=true)→K (.int .i64 r) w')→vcall PP Xi #[v,.int .i64 left] w K
theorem szTermS_of {ks:List M.Tm} (B:∀k,k∈ks→SzT k) {v:Value} {left:Int} (l:TmsR F w v ks) (hs:∀k,k∈ks→Wa k=true) (E:0≤left) (G:left≤1048576)
  (n:∀w' r,Ext w w'→(r= -1∨0≤r∧r+M.szT ks ks.length≤left∧(ks.length:Int)≤left∧∀k,k∈ks→kD0 k=true)→K (.int .i64 r) w'):vcall PP kB #[v,.int .i64 left] w K:=by
 apply zY0
 have y:=l.small
 simp(disch:=(simp only[push_cast];done)) only[push_cast,l.len]
 rw[show IntKind.i64.wrap (left-(ks.length:Int))=left-ks.length from zH (by omega) (by omega)]
 refine zh (fun a=>n _ _ (Same.refl _ _) (.inl rfl)) (fun a=>?_)
 refine vloop_up ks.length (fun i u w'=> ∃r:Int,u=[.int .i64 r,.int .i64 i]∧Ext w w'∧0≤r∧r+M.szT ks i≤left-ks.length+i∧∀j,j<i→kD0 (ks.getD j default)=true) ⟨_,rfl,Same.refl _ _,by omega,by show _+((0:Nat):Int)≤_;omega,fun j m=>absurd m (by omega)⟩ ?_
 rintro i _ _ I C hi ⟨r,rfl,he,s,H,q⟩ t
 have f:=l.ext he
 simp(disch:=first|(simp only[push_cast];done)|omega) only[push_cast,f.len]
 refine zh (fun c=>?_) (fun c=>?_)
 ·have b:ks.getD i default∈ks:=M.getD_mem (by omega) _
  simp(disch:=first|(simp only[push_cast];done)|omega) only[push_cast,f.iaddr]
  refine f.load Ks (by omega) fun x A=>?_
  refine B _ b A (hs _ b) s (by omega) fun J D g p=>?_
  simp only[push_cast]
  refine zh (fun d=>n _ _ (he.trans g) (.inl rfl)) (fun d=>?_)
  rw[inc64' (by omega)]
  rcases p with h|⟨g0,g1,g2⟩
  ·omega
  have z:=M.szT_succ (ks:=ks) (i:=i) (by omega)
  refine t (by omega) _ _ ⟨D,rfl,he.trans g,g0,by omega,fun j m=>?_⟩
  by_cases e:j<i
  ·exact q j e
  ·have:j=i:=by omega
   subst this;exact g2
 ·have o:i=ks.length:=by omega
  subst o
  refine n _ _ he (.inr ⟨s,by omega,by omega,fun k l=>?_⟩)
  obtain⟨j,m,rfl⟩:=List.getElem_of_mem l
  have:=q j (by omega)
  rwa[List.getD_eq_getElem?_getD,List.getElem?_eq_getElem m] at this
theorem szTerm_spec:∀t:M.Tm,SzT t:=by
 refine M.Tm.ind fun t n=>?_
 intro w K F v left m hs o p e
 apply xm0
 obtain⟨kv,rfl,f⟩:=m
 obtain⟨s1,s2⟩:=Xy0.1 hs
 refine zx fun b1 q i b k g=>?_
 simp(disch:=first|(simp only[push_cast];done)|exact XS) only[push_cast,g.ld3,g.ld4,KO]
 rw[show IntKind.i64.wrap (left-(t.s.size:Int))=left-t.s.size from zH (by omega) (by omega)]
 refine zh (fun a=>e _ _ b (.inl rfl)) (fun a=>?_)
 refine szTermS_of n (f.ext b) s2 (by omega) (by omega) fun u r c j=>?_
 simp only[push_cast]
 refine zh (fun d=>e _ _ (b.trans c) (.inl rfl)) (fun d=>?_)
 rcases j with h|⟨g0,g1,g2,g3⟩
 ·omega
 have l:=M.szT_all t
 exact e _ _ (b.trans c) (.inr ⟨g0,by omega,fitB_iff.2 ⟨by omega,g3⟩⟩)
theorem toDecl_spec {s:ByteArray} {n:Int} (x:∀w',Ext w w'→K (.agg ⟨[.string s,.int .i64 n]⟩) w'):vcall PP Xh #[.agg ⟨[.string s,.int .i64 n]⟩] w K:=by
 apply xl0
 refine zx fun b1 L z h C p=>?_
 refine zF jq fun b2 M A d D q=>?_
 refine zF jq fun b3 J B a E r=>?_
 have m:=(p.ext d).ext a
 simp(disch:=(simp only[push_cast];done)) only[push_cast,m.ld0]
 refine r.st (i:=0) rfl rfl QN rfl fun N e F u=>?_
 have I:=m.same e (by omega)
 simp(disch:=(simp only[push_cast];done)) only[push_cast,I.ld1]
 refine u.st (i:=1) rfl rfl jx rfl fun o j G g=>?_
 replace g:Blk o b3 [.string s,.int .i64 n] zz:=g
 rw[g.ldAgg (t:=zz) Kt]
 have c:Same (fun b=>b=b3) J o:=e.trans j
 have f:=(q.ext a).same c (by omega)
 refine stDecl f fun O k H v=>?_
 rw[v.lv (t:=zz) Kt]
 refine x _ (Ext.then (Ext.then ((h.trans d).trans a) c fun y l=>by subst l;omega) k fun y l=>by subst l;omega)
theorem toDeclS_own {v:Value} {ds:List M.Dcl} (s:DclsR F w v ds) (B:ds.length≤1048576) (z:∀w' v',Ext w w'→Own PP 0 2 zD w' v' (ds.map fun d=>[Value.string d.1,Value.int .i64 d.2])→(∀b,v'.ownBlock=some b→w.heap.size≤b)→K v' w'):vcall PP qa #[v] w K:=by
 apply zX0
 simp(disch:=(simp only[push_cast];done)) only[push_cast,s.len]
 refine vmkS_agg (cs:=[.string ⟨#[]⟩,.int .i64 0]) xR0 (by decide) (by rw[x30];exact jq) (by omega) (by omega) fun v1 H o n h=>?_
 refine vloop_up ds.length (fun i u w'=>u=[.int .i64 i]∧Ext w w'∧∃css,css.length=ds.length∧Own PP 0 2 zD w' v1 css∧∀j,j<i→css.getD j []=[.string (ds.getD j jo0).1,.int .i64 (ds.getD j jo0).2]) ⟨rfl,n,_,by simp,o,by omega⟩ ?_
 rintro i _ _ E C hi ⟨rfl,f,css,A,k,t⟩ y
 have c:=s.ext f
 simp(disch:=(simp only[push_cast];done)) only[push_cast,c.len]
 refine zh (fun a=>?_) (fun a=>?_)
 ·simp(disch:=first|(simp only[push_cast];done)|omega) only[push_cast,c.iaddr,c.load]
  refine toDecl_spec fun I g=>?_
  have l:=k.ext g
  have q:=l.sl
  simp(disch:=first|(simp only[push_cast];done)|omega) only[push_cast,q.iaddr]
  refine own_stEl l (by decide) rfl (by intro v x;simp only[List.mem_cons,List.not_mem_nil,or_false] at x;rcases x with rfl|rfl<;>rfl) Kt (by omega) fun J p r D=>?_
  rw[inc64' (by omega)]
  refine y (by omega) _ _ ⟨rfl,Ext.then (f.trans g) r fun b m=>h b m,_,by rw[List.length_set];exact A,p,fun j G=>?_⟩
  rw[jQ (by omega)]
  by_cases e:i=j
  ·subst e;rw[if_pos rfl]
  ·rw[if_neg e];exact t j (by omega)
 ·have e:css=ds.map fun d=>[Value.string d.1,Value.int .i64 d.2]:=by
   refine List.ext_getElem (by simp;omega) fun j g1 g2=>?_
   have:=t j (by omega)
   rw[List.getD_eq_getElem?_getD,List.getElem?_eq_getElem g1,List.getD_eq_getElem?_getD,List.getElem?_eq_getElem (by omega)] at this
   simpa using this
  subst e
  exact z E v1 f k fun b m=>h b m
theorem XV {v:Value} {ds:List M.Dcl} (e:DclsR F w v ds) (a:ds.length≤1048576) (c:∀w' v',Ext w w'→DclsR (fun b=>w.heap.size≤b) w' v' ds→K v' w'):vcall PP qa #[v] w K:=
 toDeclS_own e a fun w' v' he f d=>c w' v' he (f.sl.weaken fun b h _=>d b h)
abbrev CpT (t:M.Tm):Prop:=∀{w:World} {K:Value→World→Prop} {F:Nat→Prop} {v:Value},TermR F w v t→kD0 t=true→(∀w' v',Ext w w'→TermR (fun b=>w.heap.size≤b) w' v' t→K v' w')→vcall PP Zj #[v] w K
theorem tmR_one {cs:List Value} {t:M.Tm} (h:TmR F w cs t):∀c,c∈cs→c.oneCell'=true:=fun c e=>by
 obtain⟨f,rfl,d,b,_⟩:=h.inv
 obtain⟨a,l,rfl,_⟩:=b.shape
 simp only[List.mem_cons,List.not_mem_nil,or_false] at e
 rcases e with rfl|rfl|rfl|rfl|rfl<;>rfl
theorem toTermS_of {ks:List M.Tm} (R:∀k,k∈ks→CpT k) {v:Value} (A:TmsR F w v ks) (L:ks.length≤1048576) (I:∀k,k∈ks→kD0 k=true)
  (H:∀w' v',Ext w w'→TmsR (fun b=>w.heap.size≤b) w' v' ks→K v' w'):vcall PP xQ #[v] w K:=by
 apply JD
 simp(disch:=(simp only[push_cast];done)) only[push_cast,A.len]
 refine vmkS_agg (cs:=Xq0) WO (by decide) (by rw[Ve];exact xA) (by omega) (by omega) fun v1 S t o p=>?_
 have O:=o.size
 refine vloop_up ks.length (fun i u w'=>u=[.int .i64 i]∧Ext w w'∧∃css,css.length=ks.length∧Own PP 0 5 zr w' v1 css∧∀j,j<i→TmR (fun b=>w.heap.size≤b∧v1.ownBlock≠some b) w' (css.getD j []) (ks.getD j default)) ⟨rfl,o,_,by simp,t,by omega⟩ ?_
 rintro i _ _ E C hi ⟨rfl,d,css,B,m,D⟩ G
 have l:=A.ext d
 have P:=d.size
 simp(disch:=(simp only[push_cast];done)) only[push_cast,l.len]
 refine zh (fun a=>?_) (fun a=>?_)
 ·have f:ks.getD i default∈ks:=M.getD_mem (by omega) _
  simp(disch:=first|(simp only[push_cast];done)|omega) only[push_cast,l.iaddr]
  refine l.load Ks (by omega) fun x N=>?_
  refine R _ f N (I _ f) fun T v3 h s=>?_
  obtain⟨c3,rfl,g⟩:=s.cells
  have q:=m.ext h
  have z:=q.sl
  simp(disch:=first|(simp only[push_cast];done)|omega) only[push_cast,z.iaddr]
  have r:∀b,v1.ownBlock=some b→b<E.heap.size:=fun b c=>(m.lt c).2
  refine own_stEl q (by decide) (jA g) (tmR_one g) zN (by omega) fun U y n Q=>?_
  rw[inc64' (by omega)]
  refine G (by omega) _ _ ⟨rfl,Ext.then (d.trans h) n fun b c=>p b c,_,by rw[List.length_set];exact B,y,fun j J=>?_⟩
  rw[jQ (by omega)]
  by_cases e:i=j
  ·subst e;rw[if_pos rfl]
   refine(g.weaken (F':=fun b=>w.heap.size≤b∧v1.ownBlock≠some b) fun b c _=>⟨by omega,fun e=>by have:=r b e;omega⟩).same n fun b c _ e=>c.2 e
  ·rw[if_neg e];exact((D j (by omega)).ext h).same n fun b c _ e=>c.2 e
 ·exact H E v1 d ⟨css,m.sl.weaken fun b c _=>p b c,B,fun j J=>(D j (by omega)).weaken fun b c _=>c.1⟩
theorem toTerm_spec:∀t:M.Tm,CpT t:=by
 refine M.Tm.ind fun t ih=>?_
 intro w K F v ht hf hK
 apply Vi
 obtain⟨kv,rfl,H⟩:=ht
 obtain⟨f1,f2⟩:=fitB_iff.1 hf
 refine zx fun b1 w1 a0 E a3 S=>?_
 refine zF xA fun b2 w2 a1 m a4 T=>?_
 refine zF xA fun b3 w3 a2 h a5 U=>?_
 have N:=(S.ext m).ext h
 simp(disch:=(simp only[push_cast];done)) only[push_cast,N.ld0]
 refine U.st (i:=0) rfl rfl jx rfl fun w4 r a6 V=>?_
 have O:=N.same r (by omega)
 simp(disch:=(simp only[push_cast];done)) only[push_cast,O.ld1]
 refine V.st (i:=1) rfl rfl jx rfl fun w5 u a7 W=>?_
 have P:=O.same u (by omega)
 simp(disch:=(simp only[push_cast];done)) only[push_cast,P.ld2]
 refine W.st (i:=2) rfl rfl jx rfl fun w6 z a8 X=>?_
 have Q:=P.same z (by omega)
 simp(disch:=(simp only[push_cast];done)) only[push_cast,Q.ld3]
 refine X.st (i:=3) rfl rfl QN rfl fun I A a9 Y=>?_
 have q7:=Q.same A (by omega)
 simp(disch:=(simp only[push_cast];done)) only[push_cast,q7.ld4]
 have g:Same (fun b=>b=b3) w3 I:=r.trans (u.trans (z.trans A))
 have l:=(E.trans m).trans h
 have j:Ext w I:=Ext.then l g fun y B=>by subst B;omega
 refine toTermS_of ih (H.ext j) f1 f2 fun w8 d f n=>?_
 have Z:=Y.ext f
 have o:d.cells= #[d]∧d.oneCell'=true:=by
  obtain⟨css,hs,_⟩:=n
  obtain⟨a,c,rfl,_⟩:=hs.shape
  exact⟨rfl,rfl⟩
 have aa:=f.size
 have L:=g.size
 try simp only[push_cast]
 refine Z.st (i:=4) o.1 o.2 WK rfl fun R k ab D=>?_
 replace D:Blk R b3 [.int .i64 t.op,.int .i64 t.a,.int .i64 t.b,.string t.s,d] zd:=D
 rw[D.ldAgg (t:=zd) zN]
 have G:TmsR (fun b=>I.heap.size≤b) R d t.ks:=n.same k fun b hb _ e=>by omega
 have C:=(((T.ext h).same g (by omega)).ext f).same k (by omega)
 refine kh0 C rfl (TmR.of (t:=t) G) (fun x hx=>by omega) fun w10 q J p=>?_
 exact hK _ _ (Ext.then (Ext.then (j.trans f) k fun y B=>by subst B;omega) q fun y B=>by subst B;omega) (p.weaken fun b hb _=>by have:=j.size;omega)
theorem qQ0 {s:ByteArray} {n:Int} (f:∀w',Ext w w'→K (.bool true) w'):vcall PP Xm #[.agg ⟨[.string s,.int .i64 n]⟩,.agg ⟨[.string s,.int .i64 n]⟩] w K:=by
 apply xq0
 refine zx fun b1 l g d j e=>?_
 refine zx fun b2 m i a k b=>?_
 have c:=e.ext a
 simp(disch:=(simp only[push_cast];done)) only[push_cast,c.ld0,b.ld0,c.ld1,b.ld1]
 refine zh (fun h=>absurd rfl h) (fun _=>?_)
 try simp(disch:=(simp only[push_cast];done)) only[push_cast,c.ld0,b.ld0,c.ld1,b.ld1]
 refine zh (fun h=>absurd rfl h) (fun _=>?_)
 exact f _ (d.trans a)
theorem eqDeclS_same {va vb:Value} {ds:List M.Dcl} (e:DclsR F w va ds) (j:DclsR F' w vb ds) (m:∀w',Ext w w'→K (.bool true) w'):vcall PP Yy #[va,vb] w K:=by
 apply y40
 have n:=e.small
 simp(disch:=(simp only[push_cast];done)) only[push_cast,e.len,j.len]
 refine zh (fun h=>absurd rfl h) (fun h=>?_)
 refine vloop_up ds.length (fun i u w'=>u=[.int .i64 i]∧Ext w w') ⟨rfl,Same.refl _ _⟩ ?_
 rintro i _ _ o C hi ⟨rfl,he⟩ l
 have b:=e.ext he
 have f:=j.ext he
 simp(disch:=(simp only[push_cast];done)) only[push_cast,b.len]
 refine zh (fun k=>?_) (fun k=>?_)
 ·refine zw fun p a _=>?_
  have c:=b.ext a
  have d:=f.ext a
  simp(disch:=first|(simp only[push_cast];done)|omega) only[push_cast,c.iaddr,c.load,d.iaddr,d.load,true_and]
  refine qQ0 fun q g=>?_
  simp only[push_cast,Bool.not_true,true_and]
  rw[inc64' (by omega)]
  exact l (by omega) _ _ ⟨rfl,he.trans (a.trans g)⟩
 ·exact m o he
abbrev EqT (t:M.Tm):Prop:=∀{w:World} {K:Value→World→Prop} {F G:Nat→Prop} {va vb:Value},TermR F w va t→TermR G w vb t→(∀w',Ext w w'→K (.bool true) w')→vcall PP Xk #[va,vb] w K
theorem eqTermS_of {ks:List M.Tm} (o:∀k,k∈ks→EqT k) {va vb:Value} (d:TmsR F w va ks) (g:TmsR F' w vb ks) (m:∀w',Ext w w'→K (.bool true) w'):vcall PP kD #[va,vb] w K:=by
 apply y20
 have n:=d.small
 simp(disch:=(simp only[push_cast];done)) only[push_cast,d.len,g.len]
 refine zh (fun h=>absurd rfl h) (fun h=>?_)
 refine vloop_up ks.length (fun i u w'=>u=[.int .i64 i]∧Ext w w') ⟨rfl,Same.refl _ _⟩ ?_
 rintro i _ _ p C hi ⟨rfl,he⟩ l
 have b:=d.ext he
 have e:=g.ext he
 simp(disch:=(simp only[push_cast];done)) only[push_cast,b.len]
 refine zh (fun j=>?_) (fun j=>?_)
 ·refine zw fun q a _=>?_
  obtain⟨cssa,sa,la,ka⟩:=b.ext a
  obtain⟨cssb,sb,lb,kb⟩:=e.ext a
  have c:ks.getD i default∈ks:=M.getD_mem (by omega) _
  have ga:aggB PP zd 5=true:=zN
  simp(disch:=first|(simp only[push_cast];done)|omega) only[push_cast,sa.iaddr,sa.ldAgg,sb.iaddr,sb.ldAgg,true_and]
  refine o _ c (ka i (by omega)).term (kb i (by omega)).term fun r f=>?_
  simp only[push_cast,Bool.not_true,true_and]
  rw[inc64' (by omega)]
  exact l (by omega) _ _ ⟨rfl,he.trans (a.trans f)⟩
 ·exact m p he
theorem qP0:∀t:M.Tm,EqT t:=by
 refine M.Tm.ind fun t r=>?_
 intro w K F G va vb l m k
 apply xo0
 obtain⟨kva,rfl,g⟩:=l
 obtain⟨kvb,rfl,i⟩:=m
 refine zx fun b1 s n e p j=>?_
 refine zx fun b2 u o b q a=>?_
 have c:=j.ext b
 simp(disch:=(simp only[push_cast];done)) only[push_cast,c.ld0,a.ld0,c.ld1,a.ld1,c.ld2,a.ld2,c.ld3,a.ld3,c.ld4,a.ld4]
 refine zh (fun h=>absurd rfl h) (fun _=>?_)
 refine zh (fun h=>absurd rfl h) (fun _=>?_)
 refine zh (fun h=>absurd rfl h) (fun _=>?_)
 refine zh (fun h=>absurd rfl h) (fun _=>?_)
 have d:=e.trans b
 refine eqTermS_of r (g.ext d) (i.ext d) fun v f=>?_
 simp only[push_cast,Bool.not_true]
 exact k _ (d.trans f)
end Go.Proofs.YtaekfnbnhjgboaaGreatDoor
end
