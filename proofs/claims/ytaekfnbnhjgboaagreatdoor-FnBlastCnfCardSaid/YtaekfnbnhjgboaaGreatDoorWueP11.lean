import Derived.Test.YtaekfnbnhjgboaaGreatDoorWueP10
import Derived.Test.YtaekfnbnhjgboaaGreatDoorWueP5
import Derived.Test.YtaekfnbnhjgboaaGreatDoorWueP7
import Derived.Test.YtaekfnbnhjgboaaGreatDoorWueP9
/- A part of the proof. -/
set_option linter.unusedVariables false
set_option linter.unusedSimpArgs false
set_option linter.unnecessarySimpa false
set_option linter.unusedSectionVars false
section
namespace Go.Proofs.YtaekfnbnhjgboaaGreatDoor
open Go Go.Vc Go.Proofs
variable {w:World} {K:Value→World→Prop} {D F Fx Fy Y S O O':Nat→Prop} {n b4 b8:Nat} {gs gs':M.Gs} {v v' nv xv yv sv:Value} {cs cs':List Value} {st st':Option M.Gs} {a b c m x y r:Int} {xs ys:List Int}
abbrev Kp (b4 b8:Nat) (O:Nat→Prop):Nat→Prop:=fun b=>b≠b4∧b≠b8∧¬O b
section
variable {w0 w':World}
theorem Ints.kp4 (h:Ints (Kp b4 b8 O) w xv xs) (hs:Same (· =b4) w w'):Ints (Kp b4 b8 O) w' xv xs:=Ints.same h hs fun b a _ e=>a.1 e
theorem Ints.kpO (h:Ints (Kp b4 b8 O) w xv xs) (hs:Same S w w') (f:∀b,S b→O b) (d:∀b,O' b→O b∨w.heap.size≤b):Ints (Kp b4 b8 O') w' xv xs:=by
 have c:Ints (fun b=>Kp b4 b8 O b∧b<w.heap.size) w xv xs:=Ints.weaken h fun b a g=>⟨a,g⟩
 exact Ints.weaken (Ints.same c hs fun b a _ e=>a.1.2.2 (f b e)) fun b a _=>⟨a.1.1,a.1.2.1,fun i=>(d b i).elim a.1.2.2 fun h=>by have:=a.2;omega⟩
theorem Fm.new {zs:List Int} (h:Fm n D O w0 b4 b8 w st) (e:OwnI PP zg w' v zs) (d:∀b,v.ownBlock=some b→w.heap.size≤b):Ints (Kp b4 b8 O) w' v zs:=Ints.weaken e.ints fun b c _=>by
 have f:=d b c;have g:=h.lt4
 exact⟨by omega,by omega,fun a=>by have:=(h.off b a).1;omega⟩
theorem Fm.app' {zs:List Int} {x:Int} {ty:Nat} (h:Fm n D (O1 v) w0 b4 b8 w st) (l:OwnI PP zg w v zs) (s:zs.length≤1000000)
  (j:∀v' w',Fm n D (O1 v') w0 b4 b8 w' st→OwnI PP zg w' v' (zs++[x])→(∀xv xs,Ints (Kp b4 b8 (O1 v)) w xv xs→Ints (Kp b4 b8 (O1 v')) w' xv xs)→K v' w'):
  vbuildS PP zg 1 [(0,.int .i64 x)] w fun t p=>vbi PP .append [zg,zg] ty [v,t] p K:=by
 refine yg ju qR jS rfl rfl fun r u k c o g=>?_
 refine(l.ext c).app1 jW g (by omega) (by omega) fun v6 q e f d=>?_
 have i:=(h.grow c).own (O':=O1 v6) f (fun b a=>a) fun b a=>⟨e.lt a,d b a⟩
 exact j v6 q i e fun xv xs m=>Ints.kpO (Ints.ext m c) f (fun b a=>a) fun b a=>d b a
theorem Fm.take {zs:List Int} (h:Fm n D (fun _=>False) w0 b4 b8 w st) (he:Ext w w') (d:OwnI PP zg w' v zs) (c:∀b,v.ownBlock=some b→w.heap.size≤b):Fm n D (O1 v) w0 b4 b8 w' st:=
 h.own (S:=fun _=>False) he (fun b a=>a) fun b a=>⟨d.lt a,.inr (c b a)⟩
theorem Fm.drop (h:Fm n D O w0 b4 b8 w st):Fm n D (fun _=>False) w0 b4 b8 w st:=h.own (S:=fun _=>False) (Same.refl _ _) (fun b a=>a.elim) fun b a=>a.elim
end
theorem smul7_spec (hn:n≤8) (hk:MkR n D w cs st) (hD:∀b,D b→b<w.heap.size) (hx:Ints Fx w xv xs) (hy:Ints Fy w yv ys) (hl:xs.length=ys.length) (h8:xs.length≤900) (ao:SnL st xs) (aq:SnL st ys)
  (hK:∀w' cs' st' r zs,Ext w w'→MkR n D w' cs' st'→Ints (fun b=>w.heap.size≤b) w' r zs→SnL st' zs→M.Bd.Out n (M.mulB xs ys 0 (M.offsL xs.length)) st st' zs→K (.tuple #[.agg ⟨cs'⟩,r]) w'):
  vcall PP QU #[.agg ⟨cs⟩,xv,yv] w K:=by
 apply jt0
 refine Fm.start hk hD fun b4 b8 w1 R=>?_
 have P:=Ints.under hx;have a3:=Ints.under hy
 have am:=Ints.ext0 P R.ext
 simp(disch:=first|(simp only[push_cast];done)|omega) only[push_cast,am.len]
 refine sfill7_spec (by omega) fun w2 a9 ad al af=>?_
 have lo:=R.lo;have s1:=R.ext.size
 have a7:Ints (fun b=>Kp b4 b8 (fun _=>False) b∧w.heap.size≤b) w2 a9 (M.offsL xs.length):=Ints.weaken al.ints fun b a _=>by
  have az:=af b a;have h2:=R.lt4
  exact⟨⟨by omega,by omega,id⟩,by omega⟩
 refine vloop_up ys.length (fun i u w'=> ∃v sv s,u=[sv,.int .i64 i]∧Fm n D (fun _=>False) w b4 b8 w' v∧Ints (fun b=>Kp b4 b8 (fun _=>False) b∧w.heap.size≤b) w' sv s∧s.length=xs.length∧SnL v s∧SnL v xs∧SnL v ys∧
  ∀st2 res,M.Bd.Out n (M.mulB xs (ys.drop i) i s) v st2 res→M.Bd.Out n (M.mulB xs ys 0 (M.offsL xs.length)) st st2 res) ⟨st,a9,_,rfl,R.grow ad,a7,M.offsL_len _,SnL.fill _,ao,aq,fun _ _ h=>h⟩ ?_
 rintro i _ g w3 C hi ⟨y,sv,s,rfl,h3,Y,b3,B,a2,a5,A⟩ hC
 have ap:=Ints.ext0 a3 h3.ext
 simp(disch:=first|(simp only[push_cast];done)|omega) only[push_cast,ap.len]
 refine zh (fun b2=>?_) (fun b0=>?_)
 ·have H:i<ys.length:=by omega
  refine sfill7_spec (by omega) fun w4 rv T W V=>?_
  have h4:=h3.take T W V
  have N:Ints (Kp b4 b8 (O1 rv)) w4 sv s:=Ints.kpO (O:=fun _=>False) (Ints.weaken Y fun b a _=>a.1) T (fun b a=>a.elim) fun b a=> .inr (V b a)
  have ay:(xs.take (xs.length-i)).length=xs.length-i:=by rw[List.length_take];omega
  refine vloop_up (xs.length-i) (fun j u w'=> ∃c rv zs,u=[rv,.int .i64 ((i+j:Nat):Int)]∧Fm n D (O1 rv) w b4 b8 w' c∧OwnI PP zg w' rv (M.offsL i++zs)∧zs.length=j∧Ints (Kp b4 b8 (O1 rv)) w' sv s∧SnL c zs∧SnL c s∧SnL c xs∧SnL c ys∧
   ∀st2 rs,M.Bd.Out n (M.rowB (ys.getD i 0) ((xs.take (xs.length-i)).drop j)) c st2 rs→M.Bd.Out n (M.rowB (ys.getD i 0) (xs.take (xs.length-i))) y st2 (zs++rs)) ⟨y,rv,[],rfl,h4,by rw[List.append_nil];exact W,rfl,N,SnL.nil,B,a2,a5,fun _ _ h=>h⟩ ?_
  rintro j _ g5 w5 C5 hj ⟨c,a8,zs,rfl,z,X,au,Z,a6,E,q,t,o⟩ ac
  have an:=Ints.ext0 P z.ext
  simp(disch:=first|(simp only[push_cast];done)|omega) only[push_cast,an.len]
  refine zh (fun ax=>?_) (fun aw=>?_)
  ·have U:j<xs.length-i:=by omega
   refine zx fun w6 G _=>?_
   have S:=z.grow G
   have a1:=Ints.ext0 P S.ext
   have a4:=Ints.ext0 a3 S.ext
   obtain⟨c6,I,m⟩:=S.call
   have ei:((i:Int)+j)-i=(j:Int):=by omega
   simp(disch:=first|(simp only[push_cast];done)|omega) only[push_cast,zy,ei,a1.iaddr,a1.load,a4.iaddr,a4.load,true_and,m w6 (Same.refl _ _)]
   refine sand7_spec hn I S.dl (q.get (by omega)) (t.get H) fun w7 ab Q d l J hd f=>?_
   simp only[push_cast,true_and]
   refine S.put l J fun w8 F x ar=>?_
   try simp only[push_cast,true_and,and_self]
   have aj:OwnI PP zg w8 a8 (M.offsL i++zs):=((X.ext G).ext l).same x fun b a=>(z.off b a).2.2.1
   have a0:Ints (Kp b4 b8 (O1 a8)) w8 sv s:=Ints.kp4 (Ints.ext (Ints.ext Z G) l) x
   refine F.app' aj (by rw[List.length_append,M.offsL_len];omega) fun av w9 h9 ak L=>?_
   try simp(disch:=omega) only[push_cast,zy]
   refine ac U _ _ ⟨Q,av,zs++[d],by simp<;>omega,h9,by rw[←List.append_assoc];exact ak,by simp[au],L _ _ a0,SnL.app (a6.out f) (SnL.one hd),E.out f,q.out f,t.out f,fun st2 rs ho=>?_⟩
   have:=o st2 (d::rs) ?_
   ·simpa using this
   rw[ZR0 (by omega),VY U]
   exact qr f (M.Bd.Out.map _ ho)
  ·have b1:j=xs.length-i:=by omega
   have p:=o c [] (by rw[kE0 (by omega)];exact M.Bd.Out.ret _ _)
   rw[List.append_nil] at p
   obtain⟨c6,I,m⟩:=z.call
   simp only[m w5 (Same.refl _ _)]
   refine sadd7_spec hn I z.dl Z X.ints (by rw[List.length_append,M.offsL_len];omega) (by omega) E (SnL.app (SnL.fill i) a6) (Sn.of (by decide) (by decide)) fun w7 ab Q nv ns l J f ag ai k=>?_
   simp only[push_cast,true_and]
   refine z.put l J fun w8 F x ar=>?_
   try simp(disch:=omega) only[push_cast,zy]
   have ah:ns.length=xs.length:=by
    have:=M.sum_len k.reach
    rw[List.length_append,M.offsL_len] at this
    omega
   have l5:=z.lt4;have s5:=z.ext.size
   refine hC H _ _ ⟨Q,nv,ns,by simp,F.drop,Ints.same (Ints.weaken (F':=fun b=>Kp b4 b8 (fun _=>False) b∧w.heap.size≤b) f.ints fun b a _=>by have:=ag b a;exact⟨⟨by omega,by omega,id⟩,by omega⟩) x (fun b a _ e=>a.1.1 e),ah,ai,q.out k,t.out k,fun st2 res ho=>A st2 res ?_⟩
   rw[xE H]
   exact M.Bd.Out.bind p (M.Bd.Out.bind k ho)
 ·refine h3.fin fun w4 aa e4 ae N=>?_
  exact hK w4 aa y sv s e4 ae (Ints.weaken (Ints.same Y N fun b a _ e=>a.1.2.1 e) fun b a _=>a.2) B (A y s (by rw[kJ0 (by omega)];exact M.Bd.Out.ret _ _))
theorem sfrom7_spec {op fill:Int} {j b:Nat} (hs:Ints Fx w sv xs) (f:j<xs.length) (h:xs.length≤1000) (g:b≤1000) (a:K (.int .i64 (M.fromL (decide (op=11)) fill xs b j)) w):
  vcall PP Q5 #[.int .i64 op,sv,.int .i64 j,.int .i64 b,.int .i64 fill] w K:=by
 apply qz0
 obtain⟨f1,f2,f3⟩:=from_at (up:=decide (op=11)) (fill:=fill) (s:=xs) (b:=b) f
 simp(disch:=omega) only[push_cast,zy]
 refine zh (fun c=>?_) (fun c=>?_)
 ·rw[decide_eq_true c] at f1 f2 f3 a
  simp only[if_true] at f1 f2 f3
  rw[show(j:Int)-b=j+ -(b:Int) by omega]
  try simp(disch:=omega) only[push_cast,zy]
  refine zh (fun d=>?_) (fun d=>?_)
  ·rw[f2 d] at a;exact a
  try simp(disch:=first|(simp only[push_cast];done)|omega) only[push_cast,hs.len]
  refine zh (fun e=>?_) (fun e=>?_)
  ·rw[f3 e] at a;exact a
  simp(disch:=first|(simp only[push_cast];done)|omega) only[push_cast,hs.iaddr,hs.load]
  rw[f1 (by omega) (by omega)] at a;exact a
 ·rw[decide_eq_false c] at f1 f2 f3 a
  simp only[Bool.false_eq_true,if_false] at f1 f2 f3
  refine zh (fun d=>absurd d (by omega)) (fun d=>?_)
  try simp(disch:=first|(simp only[push_cast];done)|omega) only[push_cast,hs.len]
  refine zh (fun e=>?_) (fun e=>?_)
  ·rw[f3 e] at a;exact a
  simp(disch:=first|(simp only[push_cast];done)|omega) only[push_cast,hs.iaddr,hs.load]
  rw[f1 (by omega) (by omega)] at a;exact a
theorem from_sn {up:Bool} {fill:Int} {s:List Int} {b k:Nat} (a:Sn st fill) (hs:SnL st s) (c:k<s.length):Sn st (M.fromL up fill s b k):=by
 unfold M.fromL
 repeat' split
 all_goals first|exact a|exact hs.get (by omega)
theorem sshift7_spec {op:Int} (hn:n≤8) (hk:MkR n D w cs st) (hD:∀b,D b→b<w.heap.size) (hx:Ints Fx w xv xs) (hy:Ints Fy w yv ys) (h1:1≤xs.length) (h8:xs.length≤1000) (b5:ys.length≤8) (a6:SnL st xs) (ar:SnL st ys)
  (hK:∀w' cs' st' r zs,Ext w w'→MkR n D w' cs' st'→Ints (fun b=>w.heap.size≤b) w' r zs→SnL st' zs→M.Bd.Out n (M.shiftB (decide (op=11)) (if op=13 then xs.getD (xs.length-1) 0 else-1) ys 0 xs) st st' zs→K (.tuple #[.agg ⟨cs'⟩,r]) w'):
  vcall PP X5 #[.agg ⟨cs⟩,.int .i64 op,xv,yv] w K:=by
 apply x10
 refine Fm.start hk hD fun b4 b8 w1 p=>?_
 have a5:=Ints.under hx;have a7:=Ints.under hy
 have lo:=p.lo;have s1:=p.ext.size
 refine spec_nil fun v2 w2 an e2 W=>?_
 refine an.app jW (Ints.ext0 a5 (p.ext.trans e2)) (by simp;omega) (by simp;omega) fun v3 w3 ao ap am=>?_
 have l1:=p.lt4;have z2:=e2.size
 have ad:Ext w1 w3:=Ext.then e2 ap fun b f=>W b f
 have Y:∀b,v3.ownBlock=some b→w1.heap.size≤b:=fun b f=>(am b f).elim (W b) fun h=>by omega
 have h3:=p.grow ad
 have aa:Ints (fun b=>Kp b4 b8 (fun _=>False) b∧w.heap.size≤b) w3 v3 xs:=Ints.weaken ao.ints fun b f _=>by
  have:=Y b f
  exact⟨⟨by omega,by omega,id⟩,by omega⟩
 have ai:Sn st (if op=13 then xs.getD (xs.length-1) 0 else-1):=by
  split
  ·exact a6.get (by omega)
  ·exact Sn.of (by decide) (by decide)
 refine zV (fun u w'=>u=[.int .i64 (if op=13 then xs.getD (xs.length-1) 0 else-1)]∧w'=w3) ?_ ?_
 ·intro J hJ
  have T:=Ints.ext0 a5 h3.ext
  simp only[push_cast]
  refine zh (fun c=>?_) (fun c=>?_)
  ·rw[if_pos c] at hJ
   simp(disch:=first|(simp only[push_cast];done)|omega) only[push_cast,T.len,zy]
   rw[show((xs.length:Int)-1)=((xs.length-1:Nat):Int) by omega]
   rw[T.iaddr Wc (by omega) (by omega),Int.toNat_natCast,T.load jc0 (by omega)]
   exact hJ _ _ ⟨rfl,rfl⟩
  ·rw[if_neg c] at hJ
   exact hJ _ _ ⟨rfl,rfl⟩
 rintro _ _ w4 ⟨rfl,rfl⟩
 generalize (if op=13 then xs.getD (xs.length-1) 0 else-1)=fill at*
 refine vloop_up ys.length (fun i u w'=> ∃z sv s,u=[sv,.int .i64 i]∧Fm n D (fun _=>False) w b4 b8 w' z∧Ints (fun b=>Kp b4 b8 (fun _=>False) b∧w.heap.size≤b) w' sv s∧s.length=xs.length∧SnL z s∧SnL z ys∧Sn z fill∧
  ∀st2 res,M.Bd.Out n (M.shiftB (decide (op=11)) fill (ys.drop i) i s) z st2 res→M.Bd.Out n (M.shiftB (decide (op=11)) fill ys 0 xs) st st2 res) ⟨st,v3,_,rfl,h3,aa,rfl,a6,ar,ai,fun _ _ h=>h⟩ ?_
 rintro i _ g w5 C hi ⟨E,sv,s,rfl,h5,a3,b3,H,a8,ah,F⟩ hC
 have aq:=Ints.ext0 a7 h5.ext
 simp(disch:=first|(simp only[push_cast];done)|omega) only[push_cast,aq.len]
 refine zh (fun b2=>?_) (fun b0=>?_)
 ·have P:i<ys.length:=by omega
  have hp:=pow_le4 (i:=i) (by omega)
  obtain⟨B,hB⟩:∃B,2^i=B:=⟨_,rfl⟩
  refine spec_nil fun rv w6 a1 V X=>?_
  have h6:=h5.take V a1 X
  have S:Ints (Kp b4 b8 (O1 rv)) w6 sv s:=Ints.kpO (O:=fun _=>False) (Ints.weaken a3 fun b f _=>f.1) V (fun b f=>f.elim) fun b f=> .inr (X b f)
  refine vloop_up s.length (fun j u w'=> ∃k rv zs,u=[rv,.int .i64 j]∧Fm n D (O1 rv) w b4 b8 w' k∧OwnI PP zg w' rv zs∧zs.length=j∧Ints (Kp b4 b8 (O1 rv)) w' sv s∧SnL k zs∧SnL k s∧SnL k ys∧Sn k fill∧
   ∀st2 rs,M.Bd.Out n (M.eachB (M.muxB (ys.getD i 0)) (((List.range s.length).map (M.fromL (decide (op=11)) fill s B)).drop j) (s.drop j)) k st2 rs→M.Bd.Out n (M.eachB (M.muxB (ys.getD i 0)) ((List.range s.length).map (M.fromL (decide (op=11)) fill s B)) s) E st2 (zs++rs)) ⟨E,rv,[],rfl,h6,a1,rfl,S,SnL.nil,H,a8,ah,fun _ _ h=>h⟩ ?_
  rintro j _ g7 w7 C7 hj ⟨k,U,zs,rfl,h7,a2,au,a4,a9,x,y,N,v⟩ ag
  simp(disch:=first|(simp only[push_cast];done)|omega) only[push_cast,a4.len]
  refine zh (fun ax=>?_) (fun aw=>?_)
  ·have m:j<s.length:=by omega
   refine zx fun w8 I _=>?_
   have A:=h7.grow I
   have l:=Ints.ext a4 I
   have a:=Ints.ext0 a7 A.ext
   obtain⟨c8,ak,q⟩:=A.call
   simp(disch:=first|(simp only[push_cast];done)|omega) only[push_cast,l.iaddr,l.load,a.iaddr,a.load,true_and,q w8 (Same.refl _ _)]
   refine l1Two_nat (by omega) ?_
   rw[hB]
   simp(disch:=first|(simp only[push_cast];done)|omega) only[push_cast,l.iaddr,l.load,a.iaddr,a.load,true_and,and_self,q w8 (Same.refl _ _)]
   refine sfrom7_spec l m (by omega) (by omega) ?_
   simp(disch:=first|(simp only[push_cast];done)|omega) only[push_cast,l.iaddr,l.load,a.iaddr,a.load,true_and,and_self,q w8 (Same.refl _ _)]
   refine sone7_spec hn ak A.dl (y.get P) (from_sn N x m) (x.get m) fun w9 az av d L al hd t=>?_
   simp only[push_cast,true_and]
   refine A.put L al fun w10 ae G ay=>?_
   try simp only[push_cast,true_and,and_self]
   have Z:OwnI PP zg w10 U zs:=((a2.ext I).ext L).same G fun b f=>(h7.off b f).2.2.1
   have R:Ints (Kp b4 b8 (O1 U)) w10 sv s:=Ints.kp4 (Ints.ext l L) G
   refine ae.app' Z (by omega) fun ab b6 af a0 Q=>?_
   try simp(disch:=omega) only[push_cast,zy]
   refine ag m _ _ ⟨av,ab,zs++[d],by simp,af,a0,by simp[au],Q _ _ R,SnL.app (a9.out t) (SnL.one hd),x.out t,y.out t,N.out t,fun st2 rs ho=>?_⟩
   have:=v st2 (d::rs) ?_
   ·simpa using this
   rw[Wb (by simpa using m) m,zP0 m]
   exact M.Bd.Out.bind t (M.Bd.Out.map _ ho)
  ·have b1:j=s.length:=by omega
   have o:=v k [] (by rw[JZ (by simp;omega)];exact M.Bd.Out.ret _ _)
   rw[List.append_nil] at o
   try simp(disch:=omega) only[push_cast,zy]
   refine hC P _ _ ⟨k,U,zs,by simp,h7.drop,Ints.weaken a2.ints (fun b f _=>by have h9:=h7.off b f;exact⟨⟨h9.2.2.1,h9.2.2.2,id⟩,h9.2.1⟩),by omega,a9,y,N,fun st2 res ho=>F st2 res ?_⟩
   rw[xE P]
   rw[←hB] at o
   exact M.Bd.Out.bind o ho
 ·refine h5.fin fun w6 ac e6 aj S=>?_
  exact hK w6 ac E sv s e6 aj (Ints.weaken (Ints.same a3 S fun b f _ e=>f.1.2.1 e) fun b f _=>f.2) H (F E s (by rw[j70 (by omega)];exact M.Bd.Out.ret _ _))
end Go.Proofs.YtaekfnbnhjgboaaGreatDoor
end
section
namespace Go.Proofs.YtaekfnbnhjgboaaGreatDoor
open Go Go.Vc Go.Proofs
variable {w:World} {K:Value→World→Prop} {D F Fx Fy Y S O O':Nat→Prop} {n b4 b8:Nat} {gs gs':M.Gs} {v v' nv xv yv sv:Value} {cs cs':List Value} {st st':Option M.Gs} {a b c m x y r:Int} {xs ys:List Int}
theorem SnL.set {xs:List Int} (h:SnL st xs) {i:Nat} {x:Int} (b:Sn st x):SnL st (xs.set i x):=fun y c=>by
 rcases List.mem_or_eq_of_mem_set c with a|a
 ·exact h y a
 ·rw[a];exact b
theorem SnL.take (h:SnL st xs) (m:Nat):SnL st (xs.take m):=fun x a=>h x (List.mem_of_mem_take a)
theorem sdiv7_spec (hn:n≤8) (hk:MkR n D w cs st) (hD:∀b,D b→b<w.heap.size) (hx:Ints Fx w xv xs) (hy:Ints Fy w yv ys) (hl:xs.length=ys.length) (h8:xs.length≤900) (cq:SnL st xs) (ct:SnL st ys)
  (hK:∀w' cs' st' qv rv q r,Ext w w'→MkR n D w' cs' st'→Ints (fun b=>w.heap.size≤b) w' qv q→Ints (fun b=>w.heap.size≤b) w' rv r→SnL st' q→SnL st' r→M.Bd.Out n (M.divB xs (ys++[-1]) xs.length (M.offsL xs.length) (M.offsL xs.length)) st st' (q,r)→K (.tuple #[.agg ⟨cs'⟩,qv,rv]) w'):
  vcall PP YF #[.agg ⟨cs⟩,xv,yv] w K:=by
 apply jv0
 refine Fm.start hk hD fun b4 b8 w1 h1=>?_
 have bj:=Ints.under hx;have cr:=Ints.under hy
 have lo:=h1.lo;have s1:=h1.ext.size;have l1:=h1.lt4
 have cp:=Ints.ext0 bj h1.ext
 simp(disch:=first|(simp only[push_cast];done)|omega) only[push_cast,cp.len]
 refine sfill7_spec (by omega) fun w2 bm a5 b7 az=>?_
 refine sfill7_spec (by omega) fun w3 qv Q ab U=>?_
 refine spec_nil fun v4 w4 cc e4 ay=>?_
 refine cc.app jW (Ints.ext0 cr (h1.ext.trans (a5.trans (Q.trans e4)))) (by simp;omega) (by simp;omega) fun v5 w5 cd bb c9=>?_
 have z2:=a5.size;have z3:=Q.size;have z4:=e4.size;have z5:=bb.size
 have cm:∀b,v5.ownBlock=some b→w3.heap.size≤b:=fun b a=>(c9 b a).elim (ay b) fun h=>by omega
 have bs:Ext w3 w5:=Ext.then e4 bb fun b a=>ay b a
 refine spec_app (w0:=w3) bs cd cm (by simp;omega) fun wv w6 bi a2 b0=>?_
 rw[List.nil_append] at bi
 simp(disch:=omega) only[push_cast,zy]
 have ce:=ab.ext a2
 have h2:=h1.grow a5
 have h3:=h2.take Q ab U
 have h6:Fm n D (O1 qv) w b4 b8 w6 st:=h3.grow a2
 have bz:Ints (fun b=>Kp b4 b8 (O1 qv) b∧w.heap.size≤b) w6 bm (M.offsL xs.length):=Ints.weaken (b7.ext (Q.trans a2)).ints fun b a _=>by
  have bw:=az b a;have c6:=b7.lt a
  exact⟨⟨by omega,by omega,fun hq=>by have:=U b hq;omega⟩,by omega⟩
 have c3:Ints (Kp b4 b8 (O1 qv)) w6 wv (ys++[-1]):=Ints.weaken bi.ints fun b a _=>by
  have bw:=b0 b a
  exact⟨by omega,by omega,fun hq=>by have:=ab.lt hq;omega⟩
 have dd:(ys++[(-1:Int)]).length=xs.length+1:=by rw[List.length_append,hl];rfl
 have co:SnL st (ys++[(-1:Int)]):=ct.app (SnL.one (Sn.of (by decide) (by decide)))
 generalize ys++[(-1:Int)]=wide at*
 refine YC (fun m u w'=> ∃B rv r q,u=[rv,.int .i64 ((m:Int)-1)]∧m≤xs.length∧Fm n D (O1 qv) w b4 b8 w' B∧Ints (fun b=>Kp b4 b8 (O1 qv) b∧w.heap.size≤b) w' rv r∧r.length=xs.length∧SnL B r∧OwnI PP zg w' qv q∧q.length=xs.length∧SnL B q∧Ints (Kp b4 b8 (O1 qv)) w' wv wide∧SnL B wide∧SnL B xs∧
  ∀st2 res,M.Bd.Out n (M.divB xs wide m r q) B st2 res→M.Bd.Out n (M.divB xs wide xs.length (M.offsL xs.length) (M.offsL xs.length)) st st2 res) xs.length
  ⟨st,bm,_,_,rfl,Nat.le_refl _,h6,bz,M.offsL_len _,SnL.fill _,ce,M.offsL_len _,SnL.fill _,c3,co,cq,fun _ _ h=>h⟩ ?_
 rintro m _ g w7 C ⟨ad,rv,r,q,rfl,hm,h7,b9,cg,ba,b5,cf,b6,cn,z,Z,V⟩ hC
 simp only[push_cast]
 refine zh (fun db=>?_) (fun c6=>?_)
 ·obtain⟨m,rfl⟩:∃j,m=j+1:=⟨m-1,by omega⟩
  have c8:m<xs.length:=by omega
  rw[show((m+1:Nat):Int)-1=(m:Int) by omega]
  have bk:=Ints.ext0 bj h7.ext
  rw[bk.iaddr Wc (by omega) (by omega),Int.toNat_natCast,bk.load jc0 (by omega)]
  refine yg ju qR jS rfl rfl fun a0 w8 da ao de bx=>?_
  have ci:OwnI PP zg w8 (.slice (some ⟨a0,0,none⟩) 1 1) [xs.getD m 0]:=Blk.own1 (P:=PP) (t:=zg) (cs:=[Value.int .i64 (xs.getD m 0)]) (by rw[Qj];exact bx) (Nat.zero_le _) rfl rfl (by omega)
  refine ci.app jW (Ints.ext b9 ao) (by simp;omega) (by simp;omega) fun tv w9 cj ch ca=>?_
  have ah:Ext w7 w9:=Ext.then ao ch fun b a=>by have e:a0=b:=Option.some.inj a;omega
  have ck:∀b,tv.ownBlock=some b→w7.heap.size≤b:=fun b a=>(ca b a).elim (fun h=>by have e:a0=b:=Option.some.inj h;omega) fun h=>by omega
  have h9:=h7.grow ah
  have c0:Ints (Kp b4 b8 (O1 qv)) w9 tv (xs.getD m 0::r):=h7.new cj ck
  have ac:SnL ad (xs.getD m 0::r):=(SnL.one (Z.get c8)).app ba
  have bd:(xs.getD m 0::r).length=xs.length+1:=by rw[List.length_cons,cg]
  refine spec_nil fun vz w10 d0 a1 cb=>?_
  have E:=h9.grow a1
  have R:=ah.trans a1
  have S:Ints (Kp b4 b8 (O1 qv)) w10 tv (xs.getD m 0::r):=Ints.ext c0 a1
  have X:Ints (Kp b4 b8 (O1 qv)) w10 wv wide:=Ints.ext cn R
  have b1:=b5.ext R
  generalize ht:xs.getD m 0::r=t at*
  obtain⟨d6,ap,a6⟩:=E.call
  simp only[a6 w10 (Same.refl _ _)]
  refine sless7_spec hn ap E.dl S X (by omega) (by omega) ac z fun dg cx bn l v aq I d=>?_
  simp only[push_cast,true_and]
  refine E.put v aq fun ae ai L d1=>?_
  have W:OwnI PP zg ae qv q:=(b1.ext v).same L fun b a=>(E.off b a).2.2.1
  have ak:Ints (Kp b4 b8 (O1 qv)) ae tv t:=Ints.kp4 (Ints.ext S v) L
  have bg:Ints (Kp b4 b8 (O1 qv)) ae wv wide:=Ints.kp4 (Ints.ext X v) L
  have c5:=I.1
  unfold Sm at c5
  simp(disch:=omega) only[push_cast,zy,Int.zero_sub]
  rw[W.ints.iaddr Wc (by omega) (by omega),Int.toNat_natCast]
  refine W.st qR (by omega) fun af b2 N d2=>?_
  have bt:Fm n D (O1 qv) w b4 b8 af bn:=ai.own N (fun b a=>a) fun b a=>⟨by have:=(ai.off b a).1;omega,.inl a⟩
  have al:Ints (Kp b4 b8 (O1 qv)) af tv t:=Ints.same ak N fun b a _ e=>a.2.2 e
  have Y:Ints (Kp b4 b8 (O1 qv)) af wv wide:=Ints.same bg N fun b a _ e=>a.2.2 e
  refine zx fun cw k _=>?_
  have a3:=bt.grow k
  obtain⟨d7,ar,J⟩:=a3.call
  simp only[push_cast,true_and,J cw (Same.refl _ _)]
  refine sturn7_spec (Ints.ext Y k) (by omega) (z.sm) fun ag nv i ax a8=>?_
  have a4:=a3.grow i
  have aj:Ints (Kp b4 b8 (O1 qv)) ag nv (M.negL wide):=a3.new ax a8
  have T:Ints (Kp b4 b8 (O1 qv)) ag tv t:=Ints.ext (Ints.ext al k) i
  simp only[push_cast,true_and,and_self,J ag i]
  refine sadd7_spec hn (ar.ext i fun _ h _=>h) a4.dl T aj (by rw[M.negL_len];omega) (by omega) (ac.out d) ((z.out d).neg) (Sn.of (by decide) (by decide)) fun dh cy d5 uv us x au be a9 cl f=>?_
  simp only[push_cast,true_and]
  refine a4.put x au fun bp bu y d3=>?_
  have bf:us.length=xs.length+1:=by
   have:=M.sum_len f.reach
   rw[M.negL_len] at this
   omega
  have an:Ints (Kp b4 b8 (O1 qv)) bp uv us:=Ints.kp4 (a4.new be a9) y
  have am:Ints (Kp b4 b8 (O1 qv)) bp tv t:=Ints.kp4 (Ints.ext T x) y
  try simp only[push_cast,true_and,and_self]
  refine zx fun s o _=>?_
  have A:=bu.grow o
  obtain⟨d8,av,a7⟩:=A.call
  have F:=Ints.ext am o
  have G:=Ints.ext an o
  have eT:yy PP zg tv none (some (.int .i64 xs.length)) none s=fun K=>K (cutV tv xs.length) s:=by
   funext K
   by_cases c:xs.length≤t.length
   ·exact Sl.cut F (Sl.base F (by simp;intro h;rw[h] at bd;simp at bd)) Wc (by simpa using c)
   ·omega
  have eU:yy PP zg uv none (some (.int .i64 xs.length)) none s=fun K=>K (cutV uv xs.length) s:=by
   funext K
   exact Sl.cut G (Sl.base G (by simp;intro h;rw[h] at bf;simp at bf)) Wc (by simpa using(show xs.length≤us.length by omega))
  have c1:Ints (Kp b4 b8 (O1 qv)) s (cutV tv xs.length) (t.take xs.length):=by
   have:=Sl.taken F (n:=xs.length) (by simpa using(show xs.length≤t.length by omega))
   unfold Ints Vals;rw[List.map_take,List.map_take];exact this
  have c2:Ints (Kp b4 b8 (O1 qv)) s (cutV uv xs.length) (us.take xs.length):=by
   have:=Sl.taken G (n:=xs.length) (by simpa using(show xs.length≤us.length by omega))
   unfold Ints Vals;rw[List.map_take,List.map_take];exact this
  simp only[push_cast,true_and,a7 s (Same.refl _ _),eT,eU]
  refine sifs7_spec hn av A.dl c1 c2 (by rw[List.length_take,List.length_take];omega) (by rw[List.length_take];omega) (((ac.out d).out f).take _) (cl.take _) (I.out f) fun di cz bo zv zs H aw bl aa cv p=>?_
  simp only[push_cast,true_and]
  refine A.put H aw fun bq bv O d4=>?_
  try simp(disch:=omega) only[push_cast,true_and,and_self,zy]
  have cu:zs.length=xs.length:=by
   have:=M.each_len p.reach
   rw[List.length_take,List.length_take] at this
   omega
  have b3:OwnI PP zg bq qv (q.set m (-l)):=by
   have off:∀b,qv.ownBlock=some b→¬b=b4:=fun b a=>(E.off b a).2.2.1
   exact((((((b2.ext k).ext i).ext x).same y off).ext o).ext H).same O off
  have bh:Ints (Kp b4 b8 (O1 qv)) bq wv wide:=Ints.kp4 (Ints.ext (Ints.ext (Ints.kp4 (Ints.ext (Ints.ext (Ints.ext Y k) i) x) y) o) H) O
  have df:=A.ext.size
  refine hC m _ _ (by omega) ⟨bo,zv,zs,q.set m (-l),by simp<;>exact⟨rfl,rfl⟩,by omega,bv,Ints.same (Ints.weaken (F':=fun b=>Kp b4 b8 (O1 qv) b∧w.heap.size≤b) bl.ints fun b a _=>by
   have d9:=aa b a;have dc:=A.lt4
   exact⟨⟨by omega,by omega,fun hO=>by have:=(A.off b hO).1;omega⟩,by omega⟩) O (fun b a _ e=>a.1.1 e),cu,cv,b3,by rw[List.length_set];exact cf,(((b6.out d).set I.neg).out f).out p,bh,((z.out d).out f).out p,((Z.out d).out f).out p,fun st2 res ho=>V st2 res ?_⟩
  subst ht
  exact kU0 d f p ho
 ·have c7:m=0:=by omega
  subst c7
  refine h7.fin fun w8 br e8 c4 bc=>?_
  exact hK w8 br ad qv rv q r e8 c4 (Ints.weaken (b5.same bc fun b a e=>(h7.off b a).2.2.2 e).ints fun b a _=>(h7.off b a).2.1) (Ints.weaken (Ints.same b9 bc fun b a _ e=>a.1.2.1 e) fun b a _=>a.2) b6 ba (V ad (q,r) (by unfold M.divB;exact M.Bd.Out.ret _ _))
end Go.Proofs.YtaekfnbnhjgboaaGreatDoor
end
section
namespace Go.Proofs.YtaekfnbnhjgboaaGreatDoor
open Go Go.Vc Go.Proofs
variable {w:World} {K:Value→World→Prop} {D F Fx Fy Y S O O':Nat→Prop} {n b4 b8:Nat} {gs gs':M.Gs} {v v' nv xv yv sv:Value} {cs cs':List Value} {st st':Option M.Gs} {a b c m x y r:Int} {xs ys:List Int}
abbrev New (w:World):Nat→Prop:=fun b=>w.heap.size≤b
theorem Fm.res {w0 c:World} {rv:Value} {zs:List Int} (h:Fm n D O w0 b4 b8 w st) (he:Ext w c) (k:MkR n (QY0 D O b4 b8) c cs' st') (m:Ints (New w) c rv zs)
  (j:∀a,Ext w0 a→MkR n D a cs' st'→Ints (New w0) a rv zs→K (.tuple #[.agg ⟨cs'⟩,rv]) a):
  zt PP ze (.pointer (some ⟨b8,0,none⟩)) (.agg ⟨cs'⟩) c fun _ a=>vlv PP ze (.pointer (some ⟨b8,0,none⟩)) a fun o p=>K (.tuple #[o,rv]) p:=by
 refine h.out he k fun a i f g=>j a i f ?_
 have l:=h.lt4;have s:=h.ext.size
 exact Ints.weaken (Ints.same m g fun b d _ e=>by have:w.heap.size≤b:=d;omega) fun b d _=>by have:w.heap.size≤b:=d;show w0.heap.size≤b;omega
theorem kT {w0:World} {rv:Value} {zs:List Int} (d:OwnI PP zg w rv zs) (c:∀b,rv.ownBlock=some b→w0.heap.size≤b):Ints (New w0) w rv zs:=Ints.weaken d.ints fun b a _=>c b a
theorem sbin7_spec {op:Int} (h3:3≤op) (aw:op≤14) (R:n≤8) (hk:MkR n D w cs st) (hD:∀b,D b→b<w.heap.size) (hx:Ints Fx w xv xs) (hy:Ints Fy w yv ys) (Y:op≠14→xs.length=ys.length) (ap:1≤xs.length) (h8:xs.length≤8) (ax:ys.length≤8) (t:SnL st xs) (j:SnL st ys)
  (z:∀w' cs' st' r zs,Ext w w'→MkR n D w' cs' st'→Ints (New w) w' r zs→SnL st' zs→M.Bd.Out n (M.binB op xs ys) st st' zs→K (.tuple #[.agg ⟨cs'⟩,r]) w'):
  vcall PP QW #[.agg ⟨cs⟩,.int .i64 op,xv,yv] w K:=by
 apply jx0
 refine Fm.start hk hD fun b4 b8 w1 m=>?_
 have s:=Ints.ext (Ints.under hx) m.ext;have v:=Ints.ext (Ints.under hy) m.ext
 unfold M.binB at z
 obtain⟨c1,o,e⟩:=m.call
 simp only[push_cast]
 refine zh (fun c=>?_) (fun c6=>?_)
 ·subst c
  simp only[if_neg (show¬(6:Int)=14 by decide),if_neg (show¬(6:Int)=3 by decide),if_neg (show¬(6:Int)=4 by decide),if_neg (show¬(6:Int)=5 by decide),if_true] at z
  simp only[e w1 (Same.refl _ _)]
  refine sadd7_spec R o m.dl s v (by have:=Y (by decide);omega) (by omega) t j (Sn.of (by decide) (by decide)) fun G x st2 rv zs f g E a3 V B=>?_
  simp only[push_cast]
  exact m.res f g (kT E a3) fun C e3 A k=>z C x st2 rv zs e3 A k V B
 try simp only[push_cast]
 refine zh (fun c=>?_) (fun c7=>?_)
 ·subst c
  simp only[if_neg (show¬(7:Int)=14 by decide),if_neg (show¬(7:Int)=3 by decide),if_neg (show¬(7:Int)=4 by decide),if_neg (show¬(7:Int)=5 by decide),if_neg (show¬(7:Int)=6 by decide),if_true] at z
  refine zx fun G f _=>?_
  simp only[e G f,true_and]
  refine sturn7_spec (Ints.ext v f) (by omega) j.sm fun C nv a ah av=>?_
  simp only[e C (f.trans a),true_and,and_self]
  have a1:=(m.grow f).grow a
  refine sadd7_spec R (o.ext (f.trans a) fun _ h _=>h) a1.dl (Ints.ext s (f.trans a)) ah.ints (by rw[M.negL_len];have:=Y (by decide);omega) (by omega) t j.neg (Sn.of (by decide) (by decide)) fun Z ac ar rv zs ae af am a5 W S=>?_
  simp only[push_cast,true_and]
  exact a1.res ae af (kT am a5) fun F I i l=>z F ac ar rv zs I i l W S
 try simp only[push_cast]
 refine zh (fun c=>?_) (fun c8=>?_)
 ·subst c
  simp only[if_neg (show¬(8:Int)=14 by decide),if_neg (show¬(8:Int)=3 by decide),if_neg (show¬(8:Int)=4 by decide),if_neg (show¬(8:Int)=5 by decide),if_neg (show¬(8:Int)=6 by decide),if_neg (show¬(8:Int)=7 by decide),if_true] at z
  simp only[e w1 (Same.refl _ _)]
  refine smul7_spec R o m.dl s v (Y (by decide)) (by omega) t j fun G x st2 rv zs f g E V B=>?_
  simp only[push_cast]
  exact m.res f g E fun C e3 A k=>z C x st2 rv zs e3 A k V B
 try simp only[push_cast]
 refine zh (fun c=>?_) (fun c9=>?_)
 ·subst c
  simp only[if_neg (show¬(9:Int)=14 by decide),if_neg (show¬(9:Int)=3 by decide),if_neg (show¬(9:Int)=4 by decide),if_neg (show¬(9:Int)=5 by decide),if_neg (show¬(9:Int)=6 by decide),if_neg (show¬(9:Int)=7 by decide),if_neg (show¬(9:Int)=8 by decide),if_true] at z
  simp only[e w1 (Same.refl _ _)]
  refine sdiv7_spec R o m.dl s v (Y (by decide)) (by omega) t j fun G x st2 qv rv q r f g a6 E a7 a8 B=>?_
  simp only[push_cast]
  refine zF qe fun aa C ad a k P=>?_
  refine mk_put P rfl g.len g.one fun Z U W Q=>?_
  rw[zW0 Q g.len]
  have y:Ext G Z:=Ext.then a U fun b L=>by omega
  exact m.res (f.trans y) (g.ext y fun _ h _=>h) (Ints.ext a6 y) fun F I i l=>z F x st2 qv q I i l a7 (M.Bd.Out.map _ B)
 try simp only[push_cast]
 refine zh (fun c=>?_) (fun ab=>?_)
 ·subst c
  simp only[if_neg (show¬(10:Int)=14 by decide),if_neg (show¬(10:Int)=3 by decide),if_neg (show¬(10:Int)=4 by decide),if_neg (show¬(10:Int)=5 by decide),if_neg (show¬(10:Int)=6 by decide),if_neg (show¬(10:Int)=7 by decide),if_neg (show¬(10:Int)=8 by decide),if_neg (show¬(10:Int)=9 by decide),if_true] at z
  simp only[e w1 (Same.refl _ _)]
  refine sdiv7_spec R o m.dl s v (Y (by decide)) (by omega) t j fun G x st2 qv rv q r f g a6 E a7 a8 B=>?_
  simp only[push_cast]
  refine zF qe fun aa C ad a k P=>?_
  refine mk_put P rfl g.len g.one fun Z U W Q=>?_
  rw[zW0 Q g.len]
  have y:Ext G Z:=Ext.then a U fun b L=>by omega
  exact m.res (f.trans y) (g.ext y fun _ h _=>h) (Ints.ext E y) fun F I i l=>z F x st2 rv r I i l a8 (M.Bd.Out.map _ B)
 refine zV (fun u w'=>u=[.bool (decide (op=11∨op=12∨op=13))]∧w'=w1) ?_ ?_
 ·intro J hJ
  try simp only[push_cast]
  refine zh (fun c=>?_) (fun c=>?_)
  ·refine hJ _ _ ⟨?_,rfl⟩
   rw[decide_eq_true c,decide_eq_true (.inl c)]
  try simp only[push_cast]
  refine zh (fun d=>?_) (fun d=>?_)
  ·refine hJ _ _ ⟨?_,rfl⟩
   rw[decide_eq_true d,decide_eq_true (.inr (.inl d))]
  try simp only[push_cast]
  refine hJ _ _ ⟨?_,rfl⟩
  rw[decide_eq_decide.2 (show(op=11∨op=12∨op=13)↔op=13 from⟨fun h=>by omega,fun h=> .inr (.inr h)⟩)]
 rintro _ _ G ⟨rfl,rfl⟩
 try simp only[push_cast]
 refine zh (fun c=>?_) (fun au=>?_)
 ·simp only[e G (Same.refl _ _)]
  refine sshift7_spec R o m.dl s v ap (by omega) (by omega) t j fun C N X rv zs a A T k p=>?_
  simp only[push_cast]
  refine m.res a A T fun F I i l=>z F N X rv zs I i l k ?_
  rw[if_neg (by omega),if_neg (by omega),if_neg (by omega),if_neg (by omega),if_neg c6,if_neg c7,if_neg c8,if_neg c9,if_neg ab]
  rcases c with rfl|rfl|rfl
  ·exact p
  ·exact p
  ·exact p
 try simp only[push_cast]
 refine zh (fun c=>?_) (fun a0=>?_)
 ·rw[if_pos c] at z
  refine zx fun C a _=>?_
  simp only[e C a,true_and]
  refine spec_nil fun v4 Z S e4 a2=>?_
  simp only[e Z (a.trans e4),true_and,and_self]
  refine S.app jW (Ints.ext v (a.trans e4)) (by simp;omega) (by simp;omega) fun v5 F ak an ai=>?_
  have z3:=a.size;have z4:=e4.size
  have H:Ext C F:=Ext.then e4 an fun b L=>a2 b L
  simp only[e F (a.trans H),true_and,and_self]
  have a9:∀b,v5.ownBlock=some b→C.heap.size≤b:=fun b L=>(ai b L).elim (a2 b) fun h=>by omega
  refine ak.app jW (Ints.ext s (a.trans H)) (by simp;omega) (by simp;omega) fun v6 w6 al ao aj=>?_
  have z5:=H.size
  have O:Ext C w6:=Ext.then H ao fun b L=>a9 b L
  simp only[e w6 (a.trans O),true_and,and_self]
  refine m.res (a.trans O) (o.ext (a.trans O) fun _ h _=>h) (kT al fun b L=>(aj b L).elim (fun h=>by have:=a9 b h;omega) fun h=>by omega) fun w7 e7 ag aq=>z w7 c1 st v6 _ e7 ag aq (by rw[List.nil_append];exact j.app t) (M.Bd.Out.ret _ _)
 simp only[e G (Same.refl _ _)]
 refine splain7_spec R o m.dl s v (by have:=Y a0;omega) (by omega) t j fun C N X rv zs a A T a4 k p=>?_
 simp only[push_cast]
 refine m.res a A (kT T a4) fun F I i l=>z F N X rv zs I i l k ?_
 rw[if_neg a0]
 unfold Xq at p
 rcases(by omega:op=3∨op=4∨op=5) with rfl|rfl|rfl
 ·exact p
 ·exact p
 ·exact p
theorem sun7_spec {op:Int} (Y:op=1∨op=2) (T:n≤8) (S:MkR n D w cs st) (hD:∀b,D b→b<w.heap.size) (U:Ints Fx w xv xs) (X:xs.length≤8) (f:SnL st xs)
  (k:∀w' cs' st' r zs,Ext w w'→MkR n D w' cs' st'→Ints (New w) w' r zs→SnL st' zs→M.Bd.Out n (M.unB op xs) st st' zs→K (.tuple #[.agg ⟨cs'⟩,r]) w'):
  vcall PP Vl #[.agg ⟨cs⟩,.int .i64 op,xv] w K:=by
 apply kq0
 refine Fm.start S hD fun b4 b8 Z t=>?_
 have q:=Ints.ext (Ints.under U) t.ext
 unfold M.unB at k
 obtain⟨O,m,d⟩:=t.call
 simp only[push_cast]
 refine zh (fun c=>?_) (fun c=>?_)
 ·rw[if_pos c] at k
  refine zx fun G a _=>?_
  simp only[d G a,true_and]
  refine sturn7_spec (Ints.ext q a) (by omega) f.sm fun H nv e z o=>?_
  simp only[d H (a.trans e),true_and,and_self]
  have z2:=a.size
  exact t.res (a.trans e) (m.ext (a.trans e) fun _ h _=>h) (kT z fun b R=>by have:=o b R;omega) fun N P i j=>k N O st nv _ P i j f.neg (M.Bd.Out.ret _ _)
 ·rw[if_neg c] at k
  refine zx fun G a _=>?_
  have s:=Ints.ext q a
  simp(disch:=first|(simp only[push_cast];done)|omega) only[push_cast,d G a,true_and,s.len]
  refine sfill7_spec (by omega) fun H fv e x J=>?_
  simp only[d H (a.trans e),true_and,and_self]
  refine sturn7_spec (Ints.ext s e) (by omega) f.sm fun V nv l A L=>?_
  have g:=a.trans (e.trans l)
  simp only[d V g,true_and,and_self]
  have I:=t.grow g
  refine sadd7_spec T (m.ext g fun _ h _=>h) I.dl (x.ext l).ints A.ints (by rw[M.negL_len,List.length_replicate];omega) (by rw[List.length_replicate];omega) (SnL.fill _) f.neg (Sn.of (by decide) (by decide)) fun N u F rv zs v i C p j B=>?_
  simp only[push_cast,true_and]
  exact I.res v i (kT C p) fun W Q y E=>k W u F rv zs Q y E j B
theorem swap_get (xs ys:List Int) (h:xs.length=ys.length) (e:1≤xs.length):xs.take (xs.length-1)++[ys.getD (xs.length-1) 0]=M.swapT xs ys:=by
 unfold M.swapT
 refine List.ext_getElem (by simp;omega) fun i b a=>?_
 rw[List.getElem_set]
 by_cases c:xs.length-1=i
 ·subst c
  rw[if_pos rfl,List.getElem_append_right (by simp)]
  simp
 ·have d:i<xs.length:=by simpa using a
  rw[if_neg c,List.getElem_append_left (by simp;omega),List.getElem_take]
theorem cut_app {w0:World} {vx:Value} {zs:List Int} {x:Int} {f:Nat} {t0:TypeId} (n:Ext w0 w) (u:Ints Fx w vx zs) (B:zs.length≤1000) (p:Blk w f [.int .i64 x] t0) (r:w0.heap.size≤f) (s:OwnI PP zg w v []) (m:∀b,v.ownBlock=some b→w0.heap.size≤b∧b≠f)
  (q:∀w' v',Ext w0 w'→OwnI PP zg w' v' (zs++[x])→(∀b,v'.ownBlock=some b→w0.heap.size≤b)→K v' w'):
  vbi PP .append [zg,zg] zg [v,vx] w fun t y=>vbi PP .append [zg,zg] zg [t,.slice (some ⟨f,0,none⟩) 1 1] y K:=by
 have C:=n.size
 refine s.app jW u (by simp;omega) (by simp;omega) fun v2 z j c g=>?_
 have s2:=c.size
 refine OwnI.app1 j jW (p.same c fun e=>(m _ e).2 rfl) (by simp;omega) (by simp;omega) fun v3 A k l i=>?_
 have o:Ext w0 z:=Ext.then n c fun b a=>(m b a).1
 have d:∀b,v2.ownBlock=some b→w0.heap.size≤b:=fun b a=>(g b a).elim (fun h=>(m b h).1) fun h=>by omega
 exact q A v3 (Ext.then o l fun b a=>d b a) (by simpa using k) fun b a=>(i b a).elim (d b) fun h=>by omega
theorem top_region {J:List Value→World→Prop} (hx:Ints Fx w xv xs) (hy:Ints Fy w yv ys) (Z:xs.length=ys.length) (t:1≤xs.length) (h8:xs.length≤8) (W:∀w' r,Ext w w'→OwnI PP zg w' r (M.swapT xs ys)→(∀b,r.ownBlock=some b→w.heap.size≤b)→J [r] w'):
  y4 w fun a=>
    yy PP zg xv none (some (.int .i64 ((xs.length-1:Nat):Int))) none a fun t36 L=>L=a∧
    zp PP zg yv (.int .i64 ((xs.length-1:Nat):Int)) a fun t40 N=>N=a∧
    zf PP zb t40 a fun t41 O=>O=a∧
    (vbuildS PP zg 0 [] a fun t33 c=>(zf PP zb t40 c fun v x=>v=t41∧x=c)∧(zp PP zg yv (.int .i64 ((xs.length-1:Nat):Int)) c fun v x=>v=t40∧x=c)∧(yy PP zg xv none (some (.int .i64 ((xs.length-1:Nat):Int))) none c fun v x=>v=t36∧x=c)∧
     (vbi PP .append [zg,zg] zg [t33,t36] c fun t37 d=>(zf PP zb t40 d fun v x=>v=t41∧x=d)∧(zp PP zg yv (.int .i64 ((xs.length-1:Nat):Int)) d fun v x=>v=t40∧x=d)∧
      (vbuildS PP zg 1 [(0,t41)] d fun t42 P=>
       (vbi PP .append [zg,zg] zg [t37,t42] P fun t43 Q=>
        J [t43] Q)∧
       True)∧
      True)∧
     (vbuildS PP zg 1 [(0,t41)] c fun D k=>(yy PP zg xv none (some (.int .i64 ((xs.length-1:Nat):Int))) none k fun v x=>v=t36∧x=k)∧
      (vbi PP .append [zg,zg] zg [t33,t36] k fun B R=>
       (vbi PP .append [zg,zg] zg [B,D] R fun F S=>
        J [F] S)∧
       True)∧
      True)∧
     True)∧
    (vbuildS PP zg 1 [(0,t41)] a fun E l=>(yy PP zg xv none (some (.int .i64 ((xs.length-1:Nat):Int))) none l fun v x=>v=t36∧x=l)∧
     (vbuildS PP zg 0 [] l fun A m=>(yy PP zg xv none (some (.int .i64 ((xs.length-1:Nat):Int))) none m fun v x=>v=t36∧x=m)∧
      (vbi PP .append [zg,zg] zg [A,t36] m fun C T=>
       (vbi PP .append [zg,zg] zg [C,E] T fun G U=>
        J [G] U)∧
       True)∧
      True)∧
     True)∧
    True:=by
 refine zx fun w2 g _=>?_
 have sl:∀(w':World) (K:Value→World→Prop),Ext w w'→yy PP zg xv none (some (.int .i64 ((xs.length-1:Nat):Int))) none w' K=K (cutV xv (xs.length-1)) w':=fun w' K he=>by
  have p:=Ints.ext hx he
  exact propext ⟨fun h=>by rwa[Sl.cut p (Sl.base p (by simp;intro h;rw[h] at t;simp at t)) Wc (by simp)] at h,fun h=>by rwa[Sl.cut p (Sl.base p (by simp;intro h;rw[h] at t;simp at t)) Wc (by simp)]⟩
 have ia:∀(w':World) (K:Value→World→Prop),zp PP zg yv (.int .i64 ((xs.length-1:Nat):Int)) w' K=K (.pointer (some (eaddr yv 1 (xs.length-1)))) w':=fun w' K=>by
  rw[hy.iaddr Wc (by omega) (by omega),Int.toNat_natCast]
 have ld:∀(w':World) (K:Value→World→Prop),Ext w w'→zf PP zb (.pointer (some (eaddr yv 1 (xs.length-1)))) w' K=K (.int .i64 (ys.getD (xs.length-1) 0)) w':=fun w' K he=>(Ints.ext hy he).load jc0 (by omega)
 have Y:∀w',Ext w w'→Ints Fx w' (cutV xv (xs.length-1)) (xs.take (xs.length-1)):=fun w' he=>by
  have:=Sl.taken (Ints.ext hx he) (n:=xs.length-1) (by simp)
  unfold Ints Vals;rw[List.map_take,List.map_take];exact this
 have I:(xs.take (xs.length-1)).length≤1000:=by rw[List.length_take];omega
 have s2:=g.size
 simp only[sl _ _ g,ia,ld _ _ g,true_and,and_true]
 refine⟨?_,?_⟩
 ·refine spec_nil fun v3 w3 j q i=>?_
  have e:=g.trans q
  simp only[sl _ _ e,ld _ _ e,true_and,and_true,and_self]
  refine⟨?_,?_⟩
  ·refine j.app jW (Y _ e) (by simp;omega) (by simp;omega) fun v4 w4 a2 a4 a0=>?_
   have H:Ext w w4:=Ext.then e a4 fun b s=>by have:=i b s;omega
   have s3:=q.size
   simp only[ld _ _ H,true_and,and_true,and_self]
   refine spec_app (w0:=w) H a2 (fun b s=>(a0 b s).elim (fun h=>by have:=i b h;omega) fun h=>by omega) (by simp;omega) fun v5 w5 a3 e5 a1=>?_
   refine W w5 v5 e5 ?_ a1
   rw[←swap_get xs ys Z t];simpa using a3
  ·refine yg ju qR jS rfl rfl fun b7 w7 X f a5 u=>?_
   have s3:=q.size
   simp only[sl _ _ (e.trans f),true_and,and_true,and_self]
   refine cut_app (w0:=w) (e.trans f) (Y _ (e.trans f)) I u (by omega) (j.ext f) (fun b s=>by have:=i b s;have:=j.lt s;omega) fun w8 v8 V z y=>?_
   refine W w8 v8 V ?_ y
   rw[←swap_get xs ys Z t];exact z
 ·refine yg ju qR jS rfl rfl fun b7 w7 X f a5 u=>?_
  have o:=g.trans f
  simp only[sl _ _ o,true_and,and_true,and_self]
  refine spec_nil fun v3 w3 j q i=>?_
  simp only[sl _ _ (o.trans q),true_and,and_true,and_self]
  refine cut_app (w0:=w) (o.trans q) (Y _ (o.trans q)) I (u.ext q) (by omega) j (fun b s=>by have:=i b s;omega) fun w8 v8 V z y=>?_
  refine W w8 v8 V ?_ y
  rw[←swap_get xs ys Z t];exact z
theorem swap_sn (a:SnL st xs) (b:SnL st ys) (d:xs.length=ys.length) (c:1≤xs.length):SnL st (M.swapT xs ys):=a.set (b.get (by omega))
theorem xX0 (xs ys:List Int):(M.swapT xs ys).length=xs.length:=List.length_set ..
theorem scmp7_spec {op:Int} (X:15≤op) (Y:op≤17) (y:n≤8) (Z:MkR n D w cs st) (hD:∀b,D b→b<w.heap.size) (hx:Ints Fx w xv xs) (hy:Ints Fy w yv ys) (x:xs.length=ys.length) (z:1≤xs.length) (h8:xs.length≤8) (g:SnL st xs) (j:SnL st ys)
  (k:∀w' cs' st' r,Ext w w'→MkR n D w' cs' st'→Sn st' r→M.Bd.Out n (M.cmpB op xs ys) st st' r→K (.tuple #[.agg ⟨cs'⟩,.int .i64 r]) w'):
  vcall PP QV #[.agg ⟨cs⟩,.int .i64 op,xv,yv] w K:=by
 apply jw0
 refine Fm.start Z hD fun b4 b8 S f=>?_
 have d:=Ints.ext (Ints.under hx) f.ext;have i:=Ints.ext (Ints.under hy) f.ext
 unfold M.cmpB at k
 obtain⟨c1,o,a⟩:=f.call
 simp only[push_cast]
 refine zh (fun c=>?_) (fun U=>?_)
 ·rw[if_pos c] at k
  simp only[a S (Same.refl _ _)]
  refine ssame7_spec y o f.dl d i (by omega) (by omega) g j fun T l st2 r m p t s=>?_
  simp only[push_cast]
  exact f.out m p fun A v q Q=>k A l st2 r v q t s
 rw[if_neg U] at k
 try simp only[push_cast]
 refine zh (fun c=>?_) (fun V=>?_)
 ·rw[if_pos c] at k
  simp only[a S (Same.refl _ _)]
  refine sless7_spec y o f.dl d i (by omega) (by omega) g j fun T l st2 r m p t s=>?_
  simp only[push_cast]
  exact f.out m p fun A v q Q=>k A l st2 r v q t s
 rw[if_neg V] at k
 rw[d.len XV0]
 simp(disch:=omega) only[push_cast,zy]
 rw[show((xs.length:Int)-1)=((xs.length-1:Nat):Int) by omega]
 refine zV (fun u w'=> ∃r,u=[r]∧Ext S w'∧OwnI PP zg w' r (M.swapT xs ys)) ?_ ?_
 ·intro J E
  exact top_region d i x z (by omega) fun w' r he N y=>E _ _ ⟨r,rfl,he,N⟩
 rintro _ _ T ⟨av,rfl,C,F⟩
 refine zV (fun u w'=> ∃r,u=[r]∧Ext T w'∧OwnI PP zg w' r (M.swapT ys xs)) ?_ ?_
 ·intro J E
  rw[x]
  exact top_region (Ints.ext i C) (Ints.ext d C) x.symm (by omega) (by omega) fun w' r he N y=>E _ _ ⟨r,rfl,he,N⟩
 rintro _ _ A ⟨bv,rfl,v,G⟩
 have e:=C.trans v
 try simp only[push_cast]
 simp only[a A e]
 refine sless7_spec y (o.ext e fun _ h _=>h) (f.grow e).dl (F.ext v).ints G.ints (by rw[xX0,xX0];omega) (by rw[xX0];omega) (swap_sn g j x z) (swap_sn j g x.symm (by omega)) fun w4 B R r H I P O=>?_
 simp only[push_cast]
 exact(f.grow e).out H I fun w5 W L a0=>k w5 B R r W L P O
end Go.Proofs.YtaekfnbnhjgboaaGreatDoor
end
section
namespace Go.Proofs.YtaekfnbnhjgboaaGreatDoor
open Go Go.Vc Go.Proofs
variable {w:World} {K:Value→World→Prop} {D F Fx Fy Y S O O':Nat→Prop} {n b4 b8:Nat} {gs gs':M.Gs} {v v' nv xv yv sv dv tv:Value} {cs cs':List Value} {st st':Option M.Gs} {a b c m x y r:Int} {xs ys:List Int} {ds:List M.Dcl} {t:M.Tm}
theorem spec_one {x:Int} (f:∀w' r,Ext w w'→OwnI PP zg w' r [x]→(∀b,r.ownBlock=some b→w.heap.size≤b)→K r w'):vbuildS PP zg 1 [(0,.int .i64 x)] w K:=by
 refine yg ju qR jS rfl rfl fun d j h c i a=>?_
 exact f j _ c (Blk.own1 (P:=PP) (t:=zg) (cs:=[Value.int .i64 x]) (by rw[Qj];exact a) (Nat.zero_le _) rfl rfl (by omega)) fun b g=>by have e:d=b:=Option.some.inj g;omega
theorem sbits8_spec {k:Nat} (d:M.declOk ds=true) (p:k≤ds.length) (j:DclsR F w v (ds.take k)) (h:∀w',Ext w w'→K (.int .i64 (M.bitT ds k)) w'):vcall PP ZH #[v] w K:=by
 apply qv0
 have hlen:(ds.take k).length=k:=by rw[List.length_take];omega
 have o:=(M.decl_iff.1 d).1
 refine vloop_up k (fun i u w'=>u=[.int .i64 (M.bitT ds i),.int .i64 i]∧Ext w w') ⟨rfl,Same.refl _ _⟩ ?_
 rintro i _ _ n C hi ⟨rfl,c⟩ g
 have b:=j.ext c
 simp(disch:=first|(simp only[push_cast];done)|omega) only[push_cast,b.len]
 refine zh (fun a=>?_) (fun a=>?_)
 ·have e:i<k:=by omega
  have m:=dcl_small d (i:=i) (by omega)
  have f:=dcl_small d (i:=i+1) (by omega)
  rw[M.bitT_succ (by omega)] at f
  have l:(ds.take k).getD i (M.nada,0)=ds.getD i (M.nada,0):=M.take_getD e
  simp(disch:=first|(simp only[push_cast];done)|omega) only[push_cast,b.iaddr,b.load1,l,zy]
  refine g e _ _ ⟨?_,c⟩
  rw[M.bitT_succ (by omega)]
  simp
 ·have:i=k:=by omega
  subst this
  exact h n c
theorem fix_val {nn:Int} {j:Nat}:2*((nn.toNat/2^j%2:Nat):Int)-1=if nn.toNat/2^j%2=1 then 1 else-1:=by
 have h:nn.toNat/2^j%2=0∨nn.toNat/2^j%2=1:=by omega
 rcases h with h|h<;>rw[h]<;>rfl
theorem sfix8_spec {wd nn:Int} (x:M.vok wd nn=true) (t:∀w' r,Ext w w'→OwnI PP zg w' r (M.fixB wd nn)→(∀b,r.ownBlock=some b→w.heap.size≤b)→K r w'):vcall PP QR #[.int .i64 wd,.int .i64 nn] w K:=by
 apply jo0
 obtain⟨v1,v2,v3,v4⟩:=M.vok_lt x
 refine spec_nil fun y A m p k=>?_
 refine vloop_up wd.toNat (fun i u w'=> ∃r,u=[r,.int .i64 i]∧Ext w w'∧OwnI PP zg w' r ((M.fixB wd nn).take i)∧∀b,r.ownBlock=some b→w.heap.size≤b) ⟨_,rfl,p,m,k⟩ ?_
 rintro i _ g z C hi ⟨r,rfl,o,d,f⟩ s
 simp only[push_cast]
 refine zh (fun a=>?_) (fun a=>?_)
 ·have e:i<wd.toNat:=by omega
  rw[show nn=((nn.toNat:Nat):Int) by omega]
  refine l1Bit_spec (by omega) (by omega) ?_
  have v:nn.toNat/2^i%2<2:=Nat.mod_lt _ (by decide)
  have c:=fix_val (nn:=nn) (j:=i)
  generalize h:nn.toNat/2^i%2=bt at c v
  simp(disch:=omega) only[push_cast,zy]
  rw[c]
  refine spec_app o d f (by rw[List.length_take,M.fixB_len];omega) fun v3 B n q l=>?_
  try simp(disch:=omega) only[push_cast,zy]
  refine s e _ _ ⟨v3,by simp,q,?_,l⟩
  rw[M.take_add (by rw[M.fixB_len];omega) 0,fixB_at (by omega),h]
  exact n
 ·have e:i=wd.toNat:=by omega
  rw[List.take_of_length_le (by rw[M.fixB_len];omega)] at d
  exact t z r o d f
theorem sname8_spec {k:Nat} (e:M.declOk ds=true) (l:k<ds.length) (p:DclsR F w v ds) (D:∀w' r,Ext w w'→OwnI PP zg w' r (M.nameB ds k)→(∀b,r.ownBlock=some b→w.heap.size≤b)→K r w'):vcall PP XZ #[v,.int .i64 k] w K:=by
 apply qs0
 have J:=(M.decl_iff.1 e).1
 rw[p.cut (by intro h;rw[h] at l;simp at l) Jq (by omega)]
 refine sbits8_spec e (by omega) (p.taken (by omega)) fun L y=>?_
 have G:=dcl_small e (i:=k) (by omega)
 have H:=M.dcl_wide e l
 simp(disch:=omega) only[push_cast,zy]
 refine spec_nil fun v2 N t z q=>?_
 have P:=y.size
 refine vloop_up (ds.getD k (M.nada,0)).2.toNat (fun i u w'=> ∃r,u=[r,.int .i64 i]∧Ext w w'∧OwnI PP zg w' r ((M.nameB ds k).take i)∧∀b,r.ownBlock=some b→w.heap.size≤b) ⟨_,rfl,y.trans z,t,fun b E=>by have:=q b E;omega⟩ ?_
 rintro i _ g I C hi ⟨r,rfl,n,f,m⟩ B
 have d:=p.ext n
 have j:∀c:i<(ds.getD k (M.nada,0)).2.toNat,(M.nameB ds k).getD i 0=2+M.bitT ds k+(ds.getD k (M.nada,0)).2-1-(i:Int):=fun c=>by unfold M.nameB;rw[zP0 c];rfl
 rw[d.iaddr Jq (by omega) (by omega),Int.toNat_natCast]
 simp only[push_cast]
 rw[d.load1 jc0 l]
 generalize o:(ds.getD k (M.nada,0)).2=wd at*
 simp only[push_cast]
 refine zh (fun a=>?_) (fun a=>?_)
 ·have c:i<wd.toNat:=by omega
  rw[d.iaddr Jq (by omega) (by omega),Int.toNat_natCast]
  simp only[push_cast]
  rw[d.load1 jc0 l,o]
  simp(disch:=omega) only[push_cast,zy]
  refine spec_app n f m (by rw[List.length_take,M.nameB_len];omega) fun v5 O x A s=>?_
  try simp(disch:=omega) only[push_cast,zy]
  refine B c _ _ ⟨v5,by simp,A,?_,s⟩
  rw[M.take_add (by rw[M.nameB_len,o];omega) 0,j c]
  exact x
 ·rw[List.take_of_length_le (by rw[M.nameB_len,o];omega)] at f
  exact D I r n f m
theorem sleaf8_spec (l:M.declOk ds=true) (hs:M.sortM ds t≠ -1) (I:t.ks.length=0) (v:DclsR F w dv ds) (E:TermR Fx w tv t)
  (i:∀w' r zs,Ext w w'→OwnI PP zg w' r zs→(∀b,r.ownBlock=some b→w.heap.size≤b)→SnL st zs→M.Bd.Out n (M.nodeB ds t []) st st zs→K r w'):vcall PP Q2 #[dv,tv] w K:=by
 apply qu0
 obtain⟨kv,rfl,A⟩:=E
 obtain⟨y,L,C⟩:=M.right_op hs
 have D:t.op=20∨t.op=21∨t.op=24:=Classical.byContradiction fun h=>by have:=M.node_arity C h;omega
 refine zD fun b1 O z a H g=>?_
 simp(disch:=first|(simp only[push_cast];done)|omega) only[push_cast,g.ld0]
 unfold M.nodeB at i
 refine zh (fun c=>?_) (fun c=>?_)
 ·rw[if_pos c] at i
  have G:=M.vec_ok hs c
  simp(disch:=first|(simp only[push_cast];done)|omega) only[push_cast,g.ld1,g.ld2]
  refine sfix8_spec G fun p r d f e=>?_
  exact i p r _ (a.trans d) f (fun b o=>by have:=e b o;omega) (fun x u=>by
   unfold M.fixB at u
   obtain⟨j,_,rfl⟩:=List.mem_map.1 u
   split<;>exact Sn.of (by decide) (by decide)) (M.Bd.Out.ret _ _)
 rw[if_neg c] at i
 try simp only[push_cast]
 refine zh (fun q=>?_) (fun q=>?_)
 ·rw[if_pos q] at i
  have J:=M.name_found hs q
  have B:=M.findD_lt ds t.s
  simp(disch:=first|(simp only[push_cast];done)|omega) only[push_cast,g.ld3]
  refine l2Find_spec (v.ext a) ?_
  rw[show M.findD ds t.s=(((M.findD ds t.s).toNat:Nat):Int) by omega]
  refine sname8_spec l (by omega) (v.ext a) fun p r d f e=>?_
  refine i p r _ (a.trans d) f (fun b o=>by have:=e b o;omega) (fun x u=>?_) (M.Bd.Out.ret _ _)
  obtain⟨p1,p2,N⟩:=M.name_has (m:=9) l (k:=(M.findD ds t.s).toNat) (by omega) (by have:=(M.decl_iff.1 l).2.2;omega) x u
  exact Sn.of (by unfold Sm;omega) p1
 ·rw[if_neg q,if_pos (by omega)] at i
  refine spec_one fun p r d f e=>?_
  exact i p r _ (a.trans d) f (fun b o=>by have:=e b o;omega) (SnL.one (Sn.of (by decide) (by decide))) (M.Bd.Out.ret _ _)
end Go.Proofs.YtaekfnbnhjgboaaGreatDoor
end
section
namespace Go.Proofs.YtaekfnbnhjgboaaGreatDoor
open Go Go.Vc Go.Proofs
variable {w:World} {K:Value→World→Prop} {D F Fx Fy Y S O O':Nat→Prop} {n b4 b8:Nat} {gs gs':M.Gs} {v v' nv xv yv sv dv tv kv:Value} {cs cs' ts:List Value} {st st':Option M.Gs} {a b c m x y r:Int} {xs ys:List Int} {ds:List M.Dcl} {t:M.Tm} {rs:List (List Int)}
theorem Fm.start2 (v:MkR n D w cs st) (hD:∀b,D b→b<w.heap.size) {K:Value→Value→Value→World→Prop} (p:∀b4 a b8 w',Fm n D (fun _=>False) w b4 b8 w' st→Blk w' a ts za→w.heap.size≤a∧a≠b4∧a≠b8→K (.pointer (some ⟨b4,0,none⟩)) (.pointer (some ⟨a,0,none⟩)) (.pointer (some ⟨b8,0,none⟩)) w'):
  yG PP ze (.agg ⟨cs⟩) w fun t m=>yG PP za (.agg ⟨ts⟩) m fun t5 o=>y1 PP ze o fun t8 k=>K t t5 t8 k:=by
 refine zD fun b4 m r i x e=>?_
 refine zD fun a o s j y f=>?_
 refine zF qe fun b8 k u d z g=>?_
 have c:=j.trans d
 have l:=i.trans c
 refine p b4 a b8 k ⟨l,⟨cs,e.ext c,v.ext l fun b q A=>q.elim id fun h=>?_⟩,⟨_,g,rfl⟩,by omega,fun b h=>h.elim,hD⟩ (f.ext d) (by omega)
 rcases h with h|h|h
 ·omega
 ·omega
 ·exact h.elim
def KidsS (w:World) (kv:Value) (rs:List (List Int)):Prop:= ∃(vs:List Value) (Fk:Nat→Prop),Vals Fk w kv vs∧vs.length=rs.length∧∀i,i<rs.length→Ints (fun _=>True) w (vs.getD i undef) (rs.getD i [])
theorem KidsS.vals (h:KidsS w kv rs):∃vs:List Value,(∀(w':World),Ext w w'→∀i:Nat,i<rs.length→∀K:Value→World→Prop,zp PP zC kv (.int .i64 i) w' K=K (.pointer (some (eaddr kv 1 i))) w'∧zf PP zg (.pointer (some (eaddr kv 1 i))) w' K=K (vs.getD i undef) w')∧
  ∀i,i<rs.length→Ints (fun _=>True) w (vs.getD i undef) (rs.getD i []):=by
 obtain⟨vs,Fk,b,d,c⟩:=h
 refine⟨vs,fun w' he i hi K=>?_,c⟩
 have a:=b.ext he
 refine⟨?_,a.load Q00 (by omega)⟩
 rw[a.iaddr QC0 (by omega) (by omega),Int.toNat_natCast]
theorem KidsS.ext {w':World} (h:KidsS w kv rs) (he:Ext w w'):KidsS w' kv rs:=by
 obtain⟨vs,Fk,a,b,c⟩:=h
 exact⟨vs,Fk,a.ext he,b,fun i hi=>Ints.ext (c i hi) he⟩
theorem len_one {l:List Int} (h:l.length=1):l=[l.getD 0 0]:=by
 match l,h with
 |[x],_=>rfl
theorem slogic8_spec (a5:M.declOk ds=true) (hs:M.sortM ds t≠ -1) (a9:22<t.op) (a1:t.op≠24) (hn:n≤8) (hk:MkR n D w cs st) (hD:∀b,D b→b<w.heap.size) (ht:TermR Fx w tv t) (N:KidsS w kv rs) (ad:rs.length=t.ks.length) (hlen:∀i,i<t.ks.length→(rs.getD i []).length=M.lenS (M.sortM ds (M.kid t i))) (a6:∀r,r∈rs→SnL st r)
  (o:∀w' cs' st' r zs,Ext w w'→MkR n D w' cs' st'→Ints (New w) w' r zs→SnL st' zs→M.Bd.Out n (M.nodeB ds t rs) st st' zs→K (.tuple #[.agg ⟨cs'⟩,r]) w'):
  vcall PP X4 #[.agg ⟨cs⟩,tv,kv] w K:=by
 apply x00
 obtain⟨kw,rfl,ab⟩:=ht
 obtain⟨aa,hp,ho⟩:=M.right_op hs
 obtain⟨q1,q2,q3,q4,q5,q6,q7⟩:=M.node_right a5 hs (L:=fun i=>(rs.getD i []).length) hlen
 refine Fm.start2 hk hD fun b4 b5 b8 w1 S a2 ac=>?_
 obtain⟨c1,z,f⟩:=S.call
 obtain⟨vs,j,g⟩:=(N.ext S.ext).vals
 have get:∀i,i<rs.length→SnL st (rs.getD i []):=fun i hi=>a6 _ (M.getD_mem hi [])
 simp(disch:=first|(simp only[push_cast];done)|omega) only[push_cast,a2.ld0]
 unfold M.nodeB at o
 rw[if_neg (by omega),if_neg (by omega),if_neg a1] at o
 refine zh (fun c=>?_) (fun G=>?_)
 ·rw[if_pos c] at o
  obtain⟨s,k⟩:=q7 (by omega)
  rw[if_pos c] at s
  have I:=k 0 (by omega)
  refine zx fun d a _=>?_
  have C:∀K:Value→World→Prop,zp PP zC kv (.int .i64 0) d K=K (.pointer (some (eaddr kv 1 0))) d:=fun K=>(j d a 0 (by omega) K).1
  have E:∀K:Value→World→Prop,zf PP zg (.pointer (some (eaddr kv 1 0))) d K=K (vs.getD 0 undef) d:=fun K=>(j d a 0 (by omega) K).2
  simp only[f d a,C,E,true_and]
  refine sturn7_spec (Ints.ext (g 0 (by omega)) a) (by omega) (get 0 (by omega)).sm fun Y r3 e m a4=>?_
  simp only[f Y (a.trans e),true_and,and_self]
  have z2:=a.size
  refine S.res (a.trans e) (z.ext (a.trans e) fun _ h _=>h) (kT m fun b hb=>by have:=a4 b hb;omega) fun R e4 l x=>o R c1 st r3 _ e4 l x (get 0 (by omega)).neg ?_
  rw[len_one I]
  exact M.Bd.Out.ret _ _
 rw[if_neg G] at o
 try simp only[push_cast]
 refine zh (fun c=>?_) (fun Z=>?_)
 ·rw[if_pos c] at o
  obtain⟨s,k⟩:=q7 (by omega)
  rw[if_neg G] at s
  have I:=k 0 (by omega)
  have a3:=k 1 (by omega)
  refine zx fun d a _=>?_
  have C:∀K:Value→World→Prop,zp PP zC kv (.int .i64 0) d K=K (.pointer (some (eaddr kv 1 0))) d:=fun K=>(j d a 0 (by omega) K).1
  have E:∀K:Value→World→Prop,zf PP zg (.pointer (some (eaddr kv 1 0))) d K=K (vs.getD 0 undef) d:=fun K=>(j d a 0 (by omega) K).2
  have T:∀K:Value→World→Prop,zp PP zC kv (.int .i64 1) d K=K (.pointer (some (eaddr kv 1 1))) d:=fun K=>(j d a 1 (by omega) K).1
  have U:∀K:Value→World→Prop,zf PP zg (.pointer (some (eaddr kv 1 1))) d K=K (vs.getD 1 undef) d:=fun K=>(j d a 1 (by omega) K).2
  have A:=Ints.ext (g 0 (by omega)) a
  have F:=Ints.ext (g 1 (by omega)) a
  simp(disch:=first|(simp only[push_cast];done)|omega) only[f d a,C,E,T,U,A.iaddr,A.load,F.iaddr,F.load,push_cast,true_and]
  have B:=S.grow a
  refine sand7_spec hn (z.ext a fun _ h _=>h) B.dl ((get 0 (by omega)).get (by omega)) ((get 1 (by omega)).get (by omega)) fun Y H y r e q v m=>?_
  simp only[push_cast,true_and]
  refine B.put e q fun R W a7 x=>?_
  try simp only[push_cast,true_and,and_self]
  obtain⟨c4,l,u⟩:=W.call
  simp only[u R (Same.refl _ _)]
  refine spec_one fun w5 rv p P O=>?_
  refine W.res p (l.ext p fun _ h _=>h) (kT P O) fun w6 e6 J Q=>o w6 c4 y rv [r] e6 J Q (SnL.one v) (qr m (M.Bd.Out.ret _ _))
 rw[if_neg Z] at o
 try simp only[push_cast]
 refine zh (fun c=>?_) (fun a0=>?_)
 ·rw[if_pos c] at o
  obtain⟨s,k⟩:=q7 (by omega)
  rw[if_neg G] at s
  have I:=k 0 (by omega)
  have a3:=k 1 (by omega)
  refine zx fun d a _=>?_
  have C:∀K:Value→World→Prop,zp PP zC kv (.int .i64 0) d K=K (.pointer (some (eaddr kv 1 0))) d:=fun K=>(j d a 0 (by omega) K).1
  have E:∀K:Value→World→Prop,zf PP zg (.pointer (some (eaddr kv 1 0))) d K=K (vs.getD 0 undef) d:=fun K=>(j d a 0 (by omega) K).2
  have T:∀K:Value→World→Prop,zp PP zC kv (.int .i64 1) d K=K (.pointer (some (eaddr kv 1 1))) d:=fun K=>(j d a 1 (by omega) K).1
  have U:∀K:Value→World→Prop,zf PP zg (.pointer (some (eaddr kv 1 1))) d K=K (vs.getD 1 undef) d:=fun K=>(j d a 1 (by omega) K).2
  have A:=Ints.ext (g 0 (by omega)) a
  have F:=Ints.ext (g 1 (by omega)) a
  simp(disch:=first|(simp only[push_cast];done)|omega) only[f d a,C,E,T,U,A.iaddr,A.load,F.iaddr,F.load,push_cast,true_and]
  have B:=S.grow a
  refine sor7_spec hn (z.ext a fun _ h _=>h) B.dl ((get 0 (by omega)).get (by omega)) ((get 1 (by omega)).get (by omega)) fun Y H y r e q v m=>?_
  simp only[push_cast,true_and]
  refine B.put e q fun R W a7 x=>?_
  try simp only[push_cast,true_and,and_self]
  obtain⟨c4,l,u⟩:=W.call
  simp only[u R (Same.refl _ _)]
  refine spec_one fun w5 rv p P O=>?_
  refine W.res p (l.ext p fun _ h _=>h) (kT P O) fun w6 e6 J Q=>o w6 c4 y rv [r] e6 J Q (SnL.one v) (M.Bd.Out.map _ m)
 have V:t.op=23:=by omega
 rw[if_neg a0,if_pos V] at o
 obtain⟨k1,l0,l1,l2,l3⟩:=q6 V
 refine zx fun d a _=>?_
 have C:∀K:Value→World→Prop,zp PP zC kv (.int .i64 0) d K=K (.pointer (some (eaddr kv 1 0))) d:=fun K=>(j d a 0 (by omega) K).1
 have E:∀K:Value→World→Prop,zf PP zg (.pointer (some (eaddr kv 1 0))) d K=K (vs.getD 0 undef) d:=fun K=>(j d a 0 (by omega) K).2
 have T:∀K:Value→World→Prop,zp PP zC kv (.int .i64 1) d K=K (.pointer (some (eaddr kv 1 1))) d:=fun K=>(j d a 1 (by omega) K).1
 have U:∀K:Value→World→Prop,zf PP zg (.pointer (some (eaddr kv 1 1))) d K=K (vs.getD 1 undef) d:=fun K=>(j d a 1 (by omega) K).2
 have A2:∀K:Value→World→Prop,zp PP zC kv (.int .i64 2) d K=K (.pointer (some (eaddr kv 1 2))) d:=fun K=>(j d a 2 (by omega) K).1
 have B2:∀K:Value→World→Prop,zf PP zg (.pointer (some (eaddr kv 1 2))) d K=K (vs.getD 2 undef) d:=fun K=>(j d a 2 (by omega) K).2
 have A:=Ints.ext (g 0 (by omega)) a
 have F:=Ints.ext (g 1 (by omega)) a
 have V2:=Ints.ext (g 2 (by omega)) a
 simp(disch:=first|(simp only[push_cast];done)|omega) only[f d a,C,E,T,U,A2,B2,A.iaddr,A.load,push_cast,true_and]
 have B:=S.grow a
 refine sifs7_spec hn (z.ext a fun _ h _=>h) B.dl F V2 (by omega) (by omega) (get 1 (by omega)) (get 2 (by omega)) ((get 0 (by omega)).get (by omega)) fun Y H y r zs e q v X a8 m=>?_
 simp only[push_cast,true_and]
 exact B.res e q (kT v X) fun R e4 l x=>o R H y r zs e4 l x a8 m
end Go.Proofs.YtaekfnbnhjgboaaGreatDoor
end
section
namespace Go.Proofs.YtaekfnbnhjgboaaGreatDoor
open Go Go.Vc Go.Proofs
variable {w:World} {K:Value→World→Prop} {D F Fx Fy Y S O O':Nat→Prop} {n b4 b8:Nat} {gs gs':M.Gs} {v v' nv xv yv sv dv tv kv:Value} {cs cs' ts:List Value} {st st':Option M.Gs} {a b c m x y r:Int} {xs ys:List Int} {ds:List M.Dcl} {t:M.Tm} {rs:List (List Int)}
theorem cutEq {lo hi:Nat} {kl kh:IntKind} (h:Ints F w v xs) (k:lo≤hi) (j:hi≤xs.length):∃v',(∀(w':World) (K:Value→World→Prop),yy PP zg v (some (.int kl lo)) (some (.int kh hi)) none w' K=K v' w')∧Ints F w v' ((xs.drop lo).take (hi-lo)):=by
 have d:elB PP zg 1=true:=Wc
 obtain⟨hu,hs⟩:=yf0 d
 have hlen:((xs.drop lo).take (hi-lo)).length=hi-lo:=by rw[List.length_take,List.length_drop];omega
 obtain⟨a,c,rfl,g,i,b⟩:=h.shape
 rw[List.length_map,List.length_map] at g
 refine⟨sliced a lo hi c 1,fun w' K=>yC ?_,?_⟩
 ·rw[List.length_map,List.length_map,run_sliceAt_slice w' zg _ _ _ _ hu,run_slice_lh w' zg _ _ _ hu kl kh lo hi (by omega) (by omega) (by omega),Go.Vc.run_sizeOf hs]
  simp[Result.andThen]
 ·have key:=Ints.cutLH (P:=PP) (t:=zg) (kl:=kl) (kh:=kh) (w':=w) (K:=fun v' w'=>v'=sliced a lo hi c 1→Ints F w v' ((xs.drop lo).take (hi-lo))) h d k j fun v' f _=>f
  rw[List.length_map,List.length_map] at key
  have e:yy PP zg (.slice a xs.length c) (some (.int kl lo)) (some (.int kh hi)) none w (fun v' w'=>v'=sliced a lo hi c 1→Ints F w v' ((xs.drop lo).take (hi-lo)))=(sliced a lo hi c 1=sliced a lo hi c 1→Ints F w (sliced a lo hi c 1) ((xs.drop lo).take (hi-lo))):=yC (by
   rw[run_sliceAt_slice w zg _ _ _ _ hu,run_slice_lh w zg _ _ _ hu kl kh lo hi (by omega) (by omega) (by omega),Go.Vc.run_sizeOf hs]
   simp[Result.andThen]
   rfl)
  rw[e] at key
  exact key rfl
theorem ZN0 (ps:List (M.Bd (List Int))) (p:M.Bd (List Int)):M.seqB (ps++[p])=(M.seqB ps).bind fun rs=>p.map fun r=>rs++[r]:=by
 induction ps with
 |nil=>rfl
 |cons q ps a=>
  show(q.bind fun r=>(M.seqB (ps++[p])).map (r:: ·))=((q.bind fun r=>(M.seqB ps).map (r:: ·)).bind fun rs=>p.map fun r=>rs++[r])
  rw[M.Bd.bind_assoc]
  congr 1
  funext r
  rw[a]
  unfold M.Bd.map
  rw[M.Bd.bind_assoc,M.Bd.bind_assoc]
  congr 1
  funext rs
  rw[M.Bd.bind_assoc]
  rfl
theorem kH0 {ps:List (M.Bd (List Int))} {p:M.Bd (List Int)} {st a st2:Option M.Gs} {rs:List (List Int)} {r:List Int} (h:M.Bd.Out n (M.seqB ps) st a rs) (b:M.Bd.Out n p a st2 r):M.Bd.Out n (M.seqB (ps++[p])) st st2 (rs++[r]):=by
 rw[ZN0]
 exact M.Bd.Out.bind h (M.Bd.Out.map _ b)
theorem ks_few (hs:M.sortM ds t≠ -1):t.ks.length≤3:=by
 obtain⟨a,c,b⟩:=M.right_op hs
 have h:M.arity t.op≤3:=by
  unfold M.arity;repeat' split
  all_goals omega
 omega
theorem sdo8_spec (ac:M.declOk ds=true) (hn:n≤8):∀(t:M.Tm),M.sortM ds t≠ -1→∀{w:World} {K:Value→World→Prop} {D:Nat→Prop} {cs:List Value} {st:Option M.Gs} {tv:Value} {Fd Ft:Nat→Prop},MkR n D w cs st→(∀b,D b→b<w.heap.size)→DclsR Fd w dv ds→TermR Ft w tv t→
  (∀w' cs' st' r zs,Ext w w'→MkR n D w' cs' st'→Ints (New w) w' r zs→SnL st' zs→M.Bd.Out n (M.termB ds t) st st' zs→K (.tuple #[.agg ⟨cs'⟩,r]) w')→
  vcall PP Q3 #[.agg ⟨cs⟩,dv,tv] w K:=by
 refine M.Tm.ind fun t ih hs w K D cs st tv Fd Ft hk hD ay ht hK=>?_
 obtain⟨kw,rfl,bz⟩:=ht
 apply kp0
 have ci:=ks_few hs
 refine Fm.start2 hk hD fun b4 b5 b8 w1 h1 aw c8=>?_
 refine qk k80 xy0 fun b6 w2 cq az cx bp=>?_
 have c9:OwnV PP zC w2 (.slice (some ⟨b6,0,none⟩) 0 0) []:=Blk.own1 (P:=PP) (t:=zC) (cs:=[]) (by rw[kS0];exact bp) (Nat.zero_le _) rfl rfl (by omega)
 have h2:Fm n D (O1 (.slice (some ⟨b6,0,none⟩) 0 0)) w b4 b8 w2 st:=h1.own (S:=fun _=>False) az (fun b l=>l) fun b l=>by
  have e:b6=b:=Option.some.inj l
  exact⟨by omega,.inr (by omega)⟩
 have ct:=aw.lt
 have bs:TmsR (Low w) w kw t.ks:=bz.weaken fun b _ hl=>hl
 refine vloop_up t.ks.length (fun i u w'=> ∃kv E vs rs,u=[kv,.int .i64 i]∧Fm n D (O1 kv) w b4 b8 w' E∧Blk w' b5 [.int .i64 t.op,.int .i64 t.a,.int .i64 t.b,.string t.s,kw] za∧(∀b,kv.ownBlock=some b→b≠b5)∧OwnV PP zC w' kv vs∧vs.length=i∧rs.length=i∧
  (∀j,j<i→Ints (Kp b4 b8 (O1 kv)) w' (vs.getD j undef) (rs.getD j []))∧(∀r,r∈rs→SnL E r)∧M.Bd.Out n (M.seqB ((t.ks.take i).map (M.termB ds))) st E rs)
  ⟨_,st,[],[],rfl,h2,aw.ext az,fun b l=>by have e:b6=b:=Option.some.inj l;omega,c9,rfl,rfl,fun j hj=>absurd hj (by omega),(fun r hr=>by cases hr),M.Bd.Out.ret _ _⟩ ?_
 rintro i _ g w3 C hi ⟨kv,E,vs,rs,rfl,T,m,bb,ao,av,be,hint,au,ae⟩ hC
 have al:TmsR (Low w) w3 kw t.ks:=bs.ext T.ext
 simp(disch:=first|(simp only[push_cast];done)|omega) only[push_cast,m.ld4,al.len]
 refine zh (fun a=>?_) (fun a=>?_)
 ·have N:i<t.ks.length:=by omega
  refine spec_nil fun vz f bj e4 cj=>?_
  refine zx fun R p _=>?_
  have y:=e4.trans p
  have h5:=T.grow y
  have V:=m.ext y
  have ax:=al.ext y
  obtain⟨c5,z,b3⟩:=h5.call
  simp(disch:=first|(simp only[push_cast];done)|omega) only[push_cast,V.ld4,ax.iaddr,b3 R (Same.refl _ _),true_and]
  refine ax.load zI N fun x hx=>?_
  simp only[push_cast,true_and]
  have I:t.ks.getD i default∈t.ks:=M.getD_mem N _
  refine ih _ I ((M.sort_parts hs).2.1 _ I) z h5.dl (ay.ext h5.ext) hx fun w6 cn bl r zs a9 A F bi ab=>?_
  simp only[push_cast,true_and]
  refine h5.put a9 A fun w7 h7 ad bk=>?_
  try simp only[push_cast,true_and,and_self]
  have l5:=h5.lt4
  have ar:Ints (Kp b4 b8 (O1 kv)) w7 r zs:=Ints.same (Ints.weaken (F':=Kp b4 b8 (O1 kv)) F fun b l _=>by
   have cp:R.heap.size≤b:=l
   exact⟨by omega,by omega,fun hO=>by have:=(h5.off b hO).1;omega⟩) ad fun b l _ e=>l.1 e
  have ap:OwnV PP zC w7 kv vs:=((ao.ext y).ext a9).same ad fun b l=>(T.off b l).2.2.1
  have bq:=(V.ext a9).same ad (fun e=>c8.2.1 e)
  have am:∀j,j<i→Ints (Kp b4 b8 (O1 kv)) w7 (vs.getD j undef) (rs.getD j []):=fun j hj=>Ints.kp4 (Ints.ext (Ints.ext (hint j hj) y) a9) ad
  refine yg k80 xy0 k30 rfl (Sl.cells1 ar) fun b9 w9 cr aa cy br=>?_
  refine(ap.ext aa).app1 y00 br (Sl.one ar) (by omega) (by omega) fun v10 w10 ai a0 Y=>?_
  try simp(disch:=omega) only[push_cast,zy]
  have bo:Fm n D (O1 v10) w b4 b8 w10 bl:=(h7.grow aa).own a0 (fun b l=>l) fun b l=>⟨ai.lt l,Y b l⟩
  have b2:∀{xv:Value} {xs:List Int},Ints (Kp b4 b8 (O1 kv)) w7 xv xs→Ints (Kp b4 b8 (O1 v10)) w10 xv xs:=fun h=>Ints.kpO (Ints.ext h aa) a0 (fun b l=>l) fun b l=>Y b l
  have ag:=bq.ext aa
  have cu:=ag.lt
  refine hC N _ _ ⟨v10,bl,vs++[r],rs++[zs],by simp,bo,ag.same a0 (fun e=>bb _ e rfl),fun b l=>(Y b l).elim (bb b) fun h=>by omega,ai,by simp[av],by simp[be],fun j hj=>?_,fun q hq=>?_,?_⟩
  ·by_cases c:j<i
   ·rw[zD0 (by omega),zD0 (by omega)]
    exact b2 (am j c)
   ·have:j=i:=by omega
    subst this
    rw[zE0 av,zE0 be]
    exact b2 ar
  ·rcases List.mem_append.1 hq with h|h
   ·exact(au q h).out ab
   ·rw[List.mem_singleton.1 h];exact bi
  ·rw[M.take_add N default,List.map_append]
   exact kH0 ae ab
 have N:i=t.ks.length:=by omega
 subst N
 rw[List.take_length] at ae
 obtain⟨bf,cc⟩:=M.seq_reach ae.reach
 have hlen:∀j,j<t.ks.length→(rs.getD j []).length=M.lenS (M.sortM ds (M.kid t j)):=fun j hj=>by
  have I:t.ks.getD j default∈t.ks:=M.getD_mem hj _
  have:=M.term_len ac _ ((M.sort_parts hs).2.1 _ I) (cc j hj)
  rw[this];rfl
 have W:KidsS w3 kv rs:=⟨vs,_,ao.vals,by omega,fun j hj=>Ints.weaken (hint j (by omega)) fun _ _ _=>trivial⟩
 have fin:∀{af:Option M.Gs} {zs:List Int},M.Bd.Out n (M.nodeB ds t rs) E af zs→M.Bd.Out n (M.termB ds t) st af zs:=fun h=>by
  rw[M.termB_eq];exact M.Bd.Out.bind ae h
 have a6:∀w',Ext w3 w'→TermR (Low w) w' (.agg ⟨[.int .i64 t.op,.int .i64 t.a,.int .i64 t.b,.string t.s,kw]⟩) t:=fun w' he=>⟨kw,rfl,al.ext he⟩
 obtain⟨c3,O,k⟩:=T.call
 have X:∀(w':World) (K:Value→World→Prop),vbi PP .len [zC] zb [kv] w' K=K (.int .i64 t.ks.length) w':=fun w' K=>by rw[ao.vals.len Qp0,av]
 rw[X]
 simp only[push_cast]
 obtain⟨co,hp,cw⟩:=M.right_op hs
 obtain⟨q1,q2,q3,q4,q5,q6,q7⟩:=M.node_right ac hs (L:=fun i=>(rs.getD i []).length) hlen
 have get:∀i,i<rs.length→SnL E (rs.getD i []):=fun i hi=>au _ (M.getD_mem hi [])
 refine zh (fun c0=>?_) (fun c0=>?_)
 ·have h0:t.ks.length=0:=by omega
  refine zx fun f d _=>?_
  have o:=m.ext d
  simp(disch:=first|(simp only[push_cast];done)|omega) only[push_cast,k f d,o.ldAgg (t:=za) zI,true_and]
  refine sleaf8_spec (n:=n) (st:=E) ac hs h0 (ay.ext (T.ext.trans d)) (a6 f d) fun R r zs p B J G aq=>?_
  simp only[k R (d.trans p),true_and,and_self]
  have z4:=d.size
  refine T.res (d.trans p) (O.ext (d.trans p) fun _ h _=>h) (kT B fun b l=>by have:=J b l;omega) fun w6 e6 A F=>hK w6 c3 E r zs e6 A F G (fin ?_)
  have:rs=[]:=List.length_eq_zero_iff.1 (by omega)
  rw[this];exact aq
 have bc: ¬(t.op=20∨t.op=21∨t.op=24):=fun h=>by
  have:M.arity t.op=0:=by rcases h with h|h|h<;>rw[h]<;>decide
  omega
 obtain⟨H,U,Q⟩:=W.vals
 simp(disch:=first|(simp only[push_cast];done)|omega) only[push_cast,m.ld0]
 refine zh (fun c=>?_) (fun cm=>?_)
 ·obtain⟨k1,b0,ba,aL,L4⟩:=q5 c
  have cl:t.a<((rs.getD 0 []).length:Int):=aL
  have ck:(rs.getD 0 []).length≤4:=L4
  refine zx fun f d _=>?_
  have o:=m.ext d
  have A0:∀w',Ext w3 w'→∀K:Value→World→Prop,zp PP zC kv (.int .i64 0) w' K=K (.pointer (some (eaddr kv 1 0))) w':=fun w' he K=>(U w' he 0 (by omega) K).1
  have B0:∀w',Ext w3 w'→∀K:Value→World→Prop,zf PP zg (.pointer (some (eaddr kv 1 0))) w' K=K (H.getD 0 undef) w':=fun w' he K=>(U w' he 0 (by omega) K).2
  obtain⟨cv,bu,bt⟩:=cutEq (kl:= .i64) (kh:= .i64) (lo:=t.b.toNat) (hi:=(t.a+1).toNat) (Q 0 (by omega)) (by omega) (by omega)
  have ah:∀(w':World) (K:Value→World→Prop),yy PP zg (H.getD 0 undef) (some (.int .i64 t.b)) (some (.int .i64 (t.a+1))) none w' K=K cv w':=fun w' K=>by
   have:=bu w' K
   rwa[show((t.b.toNat:Nat):Int)=t.b by omega,show(((t.a+1).toNat:Nat):Int)=t.a+1 by omega] at this
  simp(disch:=first|(simp only[push_cast];done)|omega) only[push_cast,k f d,A0 f d,B0 f d,o.ld1,o.ld2,zy,ah,true_and]
  refine spec_nil fun v5 R B e5 J=>?_
  have y:=d.trans e5
  have V:=o.ext e5
  simp(disch:=first|(simp only[push_cast];done)|omega) only[push_cast,k R y,A0 R y,B0 R y,V.ld1,V.ld2,zy,ah,true_and,and_self]
  refine B.app jW (Ints.ext bt y) (by simp;omega) (by simp;omega) fun v6 w6 ab bg c4=>?_
  have z4:=d.size;have z5:=e5.size
  have ak:Ext f w6:=Ext.then e5 bg fun b l=>J b l
  simp(disch:=first|(simp only[push_cast];done)|omega) only[push_cast,k w6 (d.trans ak),true_and,and_self]
  refine T.res (d.trans ak) (O.ext (d.trans ak) fun _ h _=>h) (kT ab fun b l=>(c4 b l).elim (fun h=>by have:=J b h;omega) fun h=>by omega) fun w7 e7 bw bk=>hK w7 c3 E v6 _ e7 bw bk (fun x hx=>?_) (fin ?_)
  ·rw[List.nil_append] at hx
   exact get 0 (by omega) x (List.mem_of_mem_drop (List.mem_of_mem_take hx))
  ·rw[List.nil_append]
   unfold M.nodeB
   rw[if_neg (by omega),if_neg (by omega),if_neg (by omega),if_neg (by omega),if_neg (by omega),if_neg (by omega),if_neg (by omega),if_pos c,show(t.a-t.b+1).toNat=(t.a+1).toNat-t.b.toNat by omega]
   exact M.Bd.Out.ret _ _
 try simp(disch:=first|(simp only[push_cast];done)|omega) only[push_cast,m.ld0]
 refine zh (fun c=>?_) (fun cg=>?_)
 ·simp(disch:=first|(simp only[push_cast];done)|omega) only[push_cast,k w3 (Same.refl _ _),m.ldAgg (t:=za) zI]
  refine slogic8_spec ac hs (by omega) (fun h=>bc (.inr (.inr h))) hn O T.dl (a6 w3 (Same.refl _ _)) W bf hlen au fun f bn af r zs d bv bj bh ca=>?_
  simp only[push_cast]
  exact T.res d bv bj fun R e5 z G=>hK R bn af r zs e5 z G bh (fin ca)
 have an:M.nodeB ds t rs=if t.op≤2 then M.unB t.op (rs.getD 0 []) else if 15≤t.op∧t.op≤17 then(M.cmpB t.op (rs.getD 0 []) (rs.getD 1 [])).map fun v=>[v] else M.binB t.op (rs.getD 0 []) (rs.getD 1 []):=by
  unfold M.nodeB
  rw[if_neg (by omega),if_neg (by omega),if_neg (by omega),if_neg (by omega),if_neg (by omega),if_neg (by omega),if_neg (by omega),if_neg (by omega)]
 rw[an] at fin
 rw[X]
 simp only[push_cast]
 refine zh (fun c1=>?_) (fun c1=>?_)
 ·have Z:t.op≤2:=Classical.byContradiction fun h=>by
   by_cases aj:15≤t.op
   ·have:=(q4 aj (by omega)).1;omega
   ·by_cases bm:t.op=14
    ·have:=(q3 bm).1;omega
    ·have:=(q2 (by omega) (by omega)).1;omega
  rw[if_pos Z] at fin
  obtain⟨k1,l1,l4⟩:=q1 (by omega) Z
  have ch:(rs.getD 0 []).length≤4:=l4
  refine zx fun f d _=>?_
  have o:=m.ext d
  have A0:∀K:Value→World→Prop,zp PP zC kv (.int .i64 0) f K=K (.pointer (some (eaddr kv 1 0))) f:=fun K=>(U f d 0 (by omega) K).1
  have B0:∀K:Value→World→Prop,zf PP zg (.pointer (some (eaddr kv 1 0))) f K=K (H.getD 0 undef) f:=fun K=>(U f d 0 (by omega) K).2
  simp(disch:=first|(simp only[push_cast];done)|omega) only[push_cast,k f d,A0,B0,o.ld0,true_and]
  have h4:=T.grow d
  refine sun7_spec (by omega) hn (O.ext d fun _ h _=>h) h4.dl (Ints.ext (Q 0 (by omega)) d) (by omega) (get 0 (by omega)) fun R a8 a7 r zs p z G a5 B=>?_
  simp only[push_cast,true_and]
  exact h4.res p z G fun w6 e6 A F=>hK w6 a8 a7 r zs e6 A F a5 (fin B)
 have bd:3≤t.op:=Classical.byContradiction fun h=>by have:=(q1 (by omega) (by omega)).1;omega
 rw[if_neg (by omega)] at fin
 try simp(disch:=first|(simp only[push_cast];done)|omega) only[push_cast,m.ld0]
 refine zh (fun aj=>?_) (fun aj=>?_)
 ·rw[if_pos (by omega)] at fin
  obtain⟨k1,l0,l1,l4⟩:=q4 (by omega) (by omega)
  have ce:(rs.getD 0 []).length=(rs.getD 1 []).length:=l0
  have cf:1≤(rs.getD 0 []).length:=l1
  have ch:(rs.getD 0 []).length≤4:=l4
  refine zx fun f d _=>?_
  have o:=m.ext d
  have A0:∀K:Value→World→Prop,zp PP zC kv (.int .i64 0) f K=K (.pointer (some (eaddr kv 1 0))) f:=fun K=>(U f d 0 (by omega) K).1
  have B0:∀K:Value→World→Prop,zf PP zg (.pointer (some (eaddr kv 1 0))) f K=K (H.getD 0 undef) f:=fun K=>(U f d 0 (by omega) K).2
  have A1:∀K:Value→World→Prop,zp PP zC kv (.int .i64 1) f K=K (.pointer (some (eaddr kv 1 1))) f:=fun K=>(U f d 1 (by omega) K).1
  have B1:∀K:Value→World→Prop,zf PP zg (.pointer (some (eaddr kv 1 1))) f K=K (H.getD 1 undef) f:=fun K=>(U f d 1 (by omega) K).2
  simp(disch:=first|(simp only[push_cast];done)|omega) only[push_cast,k f d,A0,B0,A1,B1,o.ld0,true_and]
  have h4:=T.grow d
  refine scmp7_spec (by omega) (by omega) hn (O.ext d fun _ h _=>h) h4.dl (Ints.ext (Q 0 (by omega)) d) (Ints.ext (Q 1 (by omega)) d) ce cf (by omega) (get 0 (by omega)) (get 1 (by omega)) fun R a8 a7 r p z cb B=>?_
  simp only[push_cast,true_and]
  refine h4.put p z fun w6 h6 bg F=>?_
  try simp only[push_cast,true_and,and_self]
  obtain⟨c6,A,b7⟩:=h6.call
  simp only[b7 w6 (Same.refl _ _)]
  refine spec_one fun w7 rv b1 ap c7=>?_
  exact h6.res b1 (A.ext b1 fun _ h _=>h) (kT ap c7) fun w8 e8 bx cd=>hK w8 c6 a7 rv [r] e8 bx cd (SnL.one cb) (fin (M.Bd.Out.map _ B))
 rw[if_neg (by omega)] at fin
 have c2:t.ks.length=2∧(t.op≠14→(rs.getD 0 []).length=(rs.getD 1 []).length)∧1≤(rs.getD 0 []).length∧(rs.getD 0 []).length≤8∧(rs.getD 1 []).length≤8:=by
  by_cases c:t.op=14
  ·obtain⟨a1,a2,a3,a4⟩:=q3 c
   exact⟨a1,fun h=>absurd c h,a2,by omega,by omega⟩
  ·obtain⟨a1,a2,a3,a4⟩:=q2 (by omega) (by omega)
   exact⟨a1,fun _=>a2,a3,by omega,by omega⟩
 obtain⟨k1,l0,l1,l2,l3⟩:=c2
 refine zx fun f d _=>?_
 have o:=m.ext d
 have A0:∀K:Value→World→Prop,zp PP zC kv (.int .i64 0) f K=K (.pointer (some (eaddr kv 1 0))) f:=fun K=>(U f d 0 (by omega) K).1
 have B0:∀K:Value→World→Prop,zf PP zg (.pointer (some (eaddr kv 1 0))) f K=K (H.getD 0 undef) f:=fun K=>(U f d 0 (by omega) K).2
 have A1:∀K:Value→World→Prop,zp PP zC kv (.int .i64 1) f K=K (.pointer (some (eaddr kv 1 1))) f:=fun K=>(U f d 1 (by omega) K).1
 have B1:∀K:Value→World→Prop,zf PP zg (.pointer (some (eaddr kv 1 1))) f K=K (H.getD 1 undef) f:=fun K=>(U f d 1 (by omega) K).2
 simp(disch:=first|(simp only[push_cast];done)|omega) only[push_cast,k f d,A0,B0,A1,B1,o.ld0,true_and]
 have h4:=T.grow d
 refine sbin7_spec bd (by omega) hn (O.ext d fun _ h _=>h) h4.dl (Ints.ext (Q 0 (by omega)) d) (Ints.ext (Q 1 (by omega)) d) l0 l1 l2 l3 (get 0 (by omega)) (get 1 (by omega)) fun R a8 a7 r zs p z G a5 B=>?_
 simp only[push_cast,true_and]
 exact h4.res p z G fun w6 e6 A F=>hK w6 a8 a7 r zs e6 A F a5 (fin B)
end Go.Proofs.YtaekfnbnhjgboaaGreatDoor
end
section
namespace Go.Proofs.YtaekfnbnhjgboaaGreatDoor
open Go Go.Vc Go.Proofs
variable {w:World} {K:Value→World→Prop} {D F Fx Fy Y S O O':Nat→Prop} {n b4 b8:Nat} {gs gs':M.Gs} {v v' nv xv yv sv dv tv kv:Value} {cs cs' ts:List Value} {st st':Option M.Gs} {a b c m x y r:Int} {xs ys:List Int} {ds:List M.Dcl} {t:M.Tm} {rs:List (List Int)}
theorem bits_nat (a:M.declOk ds=true):M.bits ds=(((M.bits ds).toNat:Nat):Int)∧(M.bits ds).toNat≤8:=by
 have c:=(M.decl_iff.1 a).2.2
 have b:=(dcl_small a (i:=ds.length) (Nat.le_refl _)).1
 rw[M.bitT_all] at b
 exact⟨by omega,by omega⟩
theorem out_lens {zs:List Int} (b:M.declOk ds=true) (hs:M.sortM ds t≠ -1) (c:M.Bd.Out n (M.termB ds t) st st' zs):zs.length=M.lenS (M.sortM ds t)∧zs.length≤4:=by
 have a:=M.term_len b t hs c.reach
 have d:=M.sort_range b t
 refine⟨a,?_⟩
 rw[a];unfold M.lenS;omega
end Go.Proofs.YtaekfnbnhjgboaaGreatDoor
end
section
namespace Go.M
open Go.Vc
mutual
def sameT:Tm→Tm→Bool
 | .mk o a b s ks,.mk o' a' b' s' ks'=>decide (o=o')&&decide (a=a')&&decide (b=b')&&decide (s=s')&&sameL ks ks'
def sameL:List Tm→List Tm→Bool
 |[],[]=>true
 |x::xs,y::ys=>sameT x y&&sameL xs ys
 |[],_::_=>false
 |_::_,[]=>false
end
theorem Xf0 {xs:List Tm} (a:∀k,k∈xs→∀y,sameT k y=true↔k=y):∀ys,sameL xs ys=true↔xs=ys:=by
 induction xs with
 |nil=>intro ys;cases ys<;>simp[sameL]
 |cons x xs ihx=>
  intro ys
  cases ys with
  |nil=>simp[sameL]
  |cons y ys=>
   rw[sameL,Bool.and_eq_true,a x List.mem_cons_self,ihx (fun k b=>a k (List.mem_cons_of_mem _ b)),List.cons.injEq]
theorem ZO0:∀t u:Tm,sameT t u=true↔t=u:=by
 refine Tm.ind fun t c u=>?_
 cases t with
 |mk o a b s ks=>
  cases u with
  |mk o' e f g d=>
   rw[sameT,Bool.and_eq_true,Xf0 (xs:=ks) c]
   simp only[Bool.and_eq_true,decide_eq_true_eq,Tm.mk.injEq,and_assoc]
instance:DecidableEq Tm:=fun t u=>decidable_of_iff _ (ZO0 t u)
def truT:Tm:= .mk 24 0 0 nada []
def flsT:Tm:= .mk 25 0 0 nada [truT]
def Q50 (t:Tm):Option Int:=if t=truT then some 1 else if t=flsT then some 0 else if t.op=20∧t.ks=[]∧t.s=nada∧vok t.a t.b=true then some t.b else none
def isM (t:Tm) (n:Int):Bool:=decide (Q50 t=some n)
def jm0 (w n:Int):Tm:=if 0<w then .mk 20 w n nada [] else if n=1 then truT else flsT
def Qa0 (ds:List Dcl):List Int:=List.replicate ds.length 0
theorem zeroE_ok {ds:List Dcl} (h:declOk ds=true):envOk ds (Qa0 ds)=true:=by
 unfold envOk Qa0
 rw[h,List.length_replicate]
 simp only[decide_true,Bool.true_and,List.all_eq_true,List.mem_range]
 intro i hi
 have hw:=dcl_wide h hi
 have:(List.replicate ds.length (0:Int)).getD i 0=0:=by simp[List.getD_eq_getElem?_getD,List.getElem?_replicate,hi]
 rw[this,vok_iff]
 exact⟨hw.1,hw.2,Int.le_refl _,Int.pow_pos (by decide)⟩
section
variable {ds:List Dcl} {env:List Int} {t u:Tm} {w n:Int}
def XQ0 (t:Tm):Bool:=decide (t.ks≠[])&&t.ks.all fun k=>(Q50 k).isSome
def ruleX (ds:List Dcl) (t:Tm):Option Tm:=if XQ0 t=true then some (jm0 (sortM ds t) (evalM ds (Qa0 ds) t)) else none
def ruleB (t:Tm):Option Tm:=
 if t.op=25∧(kid t 0).op=25 then some (kid (kid t 0) 0)
 else if t.op≠23 then none
 else if isM (kid t 0) 1=true then some (kid t 1)
 else if isM (kid t 0) 0=true then some (kid t 2)
 else if kid t 1=kid t 2 then some (kid t 1) else none
def zU0 (o:Int):Int:=if o=26 then 1 else 0
def ruleT (t:Tm):Option Tm:=
 if t.op=26∨t.op=27 then
  if isM (kid t 0) (zU0 t.op)=true∨kid t 0=kid t 1 then some (kid t 1)
  else if isM (kid t 1) (zU0 t.op)=true then some (kid t 0)
  else if isM (kid t 0) (1-zU0 t.op)=true∨isM (kid t 1) (1-zU0 t.op)=true then some (jm0 0 (1-zU0 t.op)) else none
 else none
def ruleL (ds:List Dcl) (t:Tm):Option Tm:=
 if t.op=22 then(if t.b=0∧t.a=sortM ds (kid t 0)-1 then some (kid t 0) else none)
 else if(t.op=1∨t.op=2)∧(kid t 0).op=t.op then some (kid (kid t 0) 0) else none
def ruleW (ds:List Dcl) (t:Tm):Option Tm:=
 if t.ks.length=2∧kid t 0=kid t 1 then
  if t.op=3∨t.op=4 then some (kid t 0)
  else if t.op=5∨t.op=7 then some (jm0 (sortM ds t) 0)
  else if t.op=15 then some (jm0 0 1)
  else if t.op=16∨t.op=17 then some (jm0 0 0) else none
 else none
def ruleS (t:Tm):Option Tm:=
 if t.ks.length=2 then
  if isM (kid t 1) 0=true∧(t.op=4∨t.op=5∨t.op=6∨t.op=7∨t.op=11∨t.op=12∨t.op=13) then some (kid t 0)
  else if isM (kid t 1) 0=true∧(t.op=3∨t.op=8) then some (kid t 1)
  else if isM (kid t 1) 1=true∧t.op=8 then some (kid t 0) else none
 else none
def ruleF (t:Tm):Option Tm:=
 if t.ks.length=2 then
  if isM (kid t 0) 0=true∧(t.op=4∨t.op=5∨t.op=6) then some (kid t 1)
  else if isM (kid t 0) 0=true∧(t.op=3∨t.op=8) then some (kid t 0)
  else if isM (kid t 0) 1=true∧t.op=8 then some (kid t 1) else none
 else none
def binT (w n:Nat):Prop:=
 (binN 3 w n n=n∧binN 4 w n n=n∧binN 5 w n n=0∧binN 7 w n n=0)∧
 (binN 4 w n 0=n∧binN 5 w n 0=n∧binN 6 w n 0=n∧binN 7 w n 0=n∧binN 11 w n 0=n∧binN 12 w n 0=n∧binN 13 w n 0=n)∧
 (binN 3 w n 0=0∧binN 8 w n 0=0∧binN 8 w n 1=n)∧
 (binN 4 w 0 n=n∧binN 5 w 0 n=n∧binN 6 w 0 n=n∧binN 3 w 0 n=0∧binN 8 w 0 n=0∧binN 8 w 1 n=n)
instance (w n:Nat):Decidable (binT w n):=by unfold binT;infer_instance
end
end Go.M
end
section
namespace Go.M
open Go.Vc
section
variable {ds:List Dcl} {env:List Int} {t u:Tm} {d:Dcl} {x:Int}
theorem app_getD {α:Type} {l r:List α} {i:Nat} {e:α} (h:i<l.length):(l++r).getD i e=l.getD i e:=by
 rw[List.getD_eq_getElem?_getD,List.getElem?_append_left h,←List.getD_eq_getElem?_getD]
def rankE:List Dcl→List Int→Int
 |d::ds,n::env=>n*2^(bits ds).toNat+rankE ds env
 |[],_=>0
 |_::_,[]=>0
theorem jW0 (d:Dcl) (ds:List Dcl):bits (d::ds)=d.2+bits ds:=by unfold bits;rw[List.map_cons,List.sum_cons]
theorem bits_nonneg:∀{ds:List Dcl},(∀d,d∈ds→0≤d.2)→0≤bits ds
 |[],_=>Int.le_refl _
 |d::ds,h=>by
  have:=h d List.mem_cons_self
  have:=bits_nonneg (ds:=ds) fun x a=>h x (List.mem_cons_of_mem _ a)
  rw[jW0];omega
theorem rank_zero:∀(ds:List Dcl) (n:Nat),rankE ds (List.replicate n 0)=0
 |[],n=>by cases n<;>rfl
 |d::ds,0=>rfl
 |d::ds,n+1=>by
  show(0:Int)*2^(bits ds).toNat+rankE ds (List.replicate n 0)=0
  rw[rank_zero ds n];simp
def Tops (ds:List Dcl) (env:List Int) (i:Nat):Prop:=∀j,i≤j→j<ds.length→env.getD j 0=2^((ds.getD j (nada,0)).2).toNat-1
theorem rank_top:∀{ds:List Dcl} {env:List Int},env.length=ds.length→(∀d,d∈ds→0≤d.2)→Tops ds env 0→rankE ds env=2^(bits ds).toNat-1
 |[],[],_,_,_=>rfl
 |d::ds,n::env,b,c,h=>by
  have f:n=2^(d.2).toNat-1:=h 0 (Nat.le_refl _) (by simp)
  have a:∀x,x∈ds→0≤x.2:=fun x k=>c x (List.mem_cons_of_mem _ k)
  have l:=rank_top (ds:=ds) (env:=env) (by simpa using b) a fun j _ i=>by
   have:=h (j+1) (Nat.zero_le _) (by simpa using i)
   simpa using this
  have m:=bits_nonneg a
  have g:=c d List.mem_cons_self
  show n*2^(bits ds).toNat+rankE ds env=_
  have e:(bits (d::ds)).toNat=d.2.toNat+(bits ds).toNat:=by rw[jW0];omega
  rw[l,f,e,Int.pow_add,Int.sub_mul]
  omega
 |[],_::_,b,_,_=>by simp at b
 |_::_,[],b,_,_=>by simp at b
def bump (env:List Int) (i:Nat):List Int:=env.take i++(env.getD i 0+1)::List.replicate (env.length-i-1) 0
theorem rank_bump:∀{ds:List Dcl} {env:List Int} {i:Nat},env.length=ds.length→(∀d,d∈ds→0≤d.2)→i<ds.length→Tops ds env (i+1)→rankE ds (bump env i)=rankE ds env+1
 |d::ds,n::env,0,a,b,_,h=>by
  have c:∀x,x∈ds→0≤x.2:=fun x g=>b x (List.mem_cons_of_mem _ g)
  have l:=rank_top (ds:=ds) (env:=env) (by simpa using a) c fun j _ k=>by
   have:=h (j+1) (by omega) (by simpa using k)
   simpa using this
  show(n+1)*2^(bits ds).toNat+rankE ds (List.replicate _ 0)=n*2^(bits ds).toNat+rankE ds env+1
  rw[rank_zero,l,Int.add_mul]
  omega
 |d::ds,n::env,i+1,a,b,hi,h=>by
  have m:=rank_bump (ds:=ds) (env:=env) (i:=i) (by simpa using a) (fun x g=>b x (List.mem_cons_of_mem _ g)) (by simpa using hi) fun j k f=>by
   have:=h (j+1) (by omega) (by simpa using f)
   simpa using this
  have e:bump (n::env) (i+1)=n::bump env i:=by
   unfold bump
   simp only[List.take_succ_cons,List.getD_cons_succ,List.length_cons,List.cons_append]
   rw[show env.length+1-(i+1)-1=env.length-i-1 by omega]
  rw[e]
  show n*2^(bits ds).toNat+rankE ds (bump env i)=n*2^(bits ds).toNat+rankE ds env+1
  rw[m];omega
 |[],_,_,_,_,hi,_=>by simp at hi
 |_::_,[],_,a,_,_,_=>by simp at a
end
end Go.M
end
section
namespace Go.Proofs.YtaekfnbnhjgboaaGreatDoor
open Go Go.Vc Go.Proofs
variable {w:World} {K:Value→World→Prop} {F F' D G:Nat→Prop}
theorem lv0 {b:Nat} {x:Value} {t0 t:TypeId} (h:Blk w b [x] t0) (a:oneB PP t=true):vlv PP t (.pointer (some ⟨b,0,none⟩)) w K=K x w:=XU0 (by rw[h.ld0 a];exact⟨rfl,rfl⟩)
def q80 (ds:List M.Dcl):Int:=if M.declOk ds=true then 2^(M.bits ds).toNat else 0
theorem jV0 {ds:List M.Dcl}:∀{i:Nat},i<ds.length→M.bits (ds.take (i+1))=M.bits (ds.take i)+(ds.getD i (M.nada,0)).2:=fun{i} h=>by
 unfold M.bits
 rw[List.take_succ_eq_append_getElem h,List.map_append,List.sum_append,List.getD_eq_getElem?_getD,List.getElem?_eq_getElem h]
 simp
theorem bits_all {ds:List M.Dcl} (h:M.declOk ds=true) (i:Nat):0≤M.bits (ds.take i)∧M.bits (ds.take i)≤M.bits ds∧M.bits ds≤8:=by
 have hw:=fun i (hi:i<ds.length)=>M.dcl_wide h hi
 have c:=(M.decl_iff.1 h).2.2
 have pos:∀d,d∈ds→0≤d.2:=fun d a=>by
  obtain⟨j,b,rfl⟩:=List.getElem_of_mem a
  have:=hw j b
  rw[List.getD_eq_getElem?_getD,List.getElem?_eq_getElem b] at this
  simp at this;omega
 refine⟨M.bits_nonneg fun d a=>pos d (List.mem_of_mem_take a),?_,c⟩
 have e:M.bits ds=M.bits (ds.take i)+M.bits (ds.drop i):=by
  unfold M.bits
  rw[←List.sum_append,←List.map_append,List.take_append_drop]
 have:=M.bits_nonneg (ds:=ds.drop i) fun d a=>pos d (List.mem_of_mem_drop a)
 omega
theorem pow8 {b:Int} (a:0≤b) (c:b≤8):1≤(2:Int)^b.toNat∧(2:Int)^b.toNat≤256:=by
 obtain⟨n,rfl⟩:∃n:Nat,b=n:=⟨b.toNat,by omega⟩
 have:n≤8:=by omega
 have e:n=0∨n=1∨n=2∨n=3∨n=4∨n=5∨n=6∨n=7∨n=8:=by omega
 rcases e with rfl|rfl|rfl|rfl|rfl|rfl|rfl|rfl|rfl<;>decide
theorem shl1 {c:Bool} {t:TypeId} {yk:IntKind} {y:Int} (a:0≤y) (b:y≤8):zr PP .shl t c (.int .i64 1) (.int yk y) w K=K (.int .i64 (2^y.toNat)) w:=by
 rw[xT0 a]
 have d:=pow8 a b
 have e:min y.toNat IntKind.i64.bits=y.toNat:=Nat.min_eq_left (by show y.toNat≤64;omega)
 rw[e,Int.one_mul,zy (by omega) (by omega)]
theorem EnvMany_spec {v:Value} {ds:List M.Dcl} (g:DclsR F w v ds) (e:∀w',Ext w w'→K (.int .i64 (q80 ds)) w'):vcall PP Z4 #[v] w K:=by
 apply xn0
 refine DeclOk_spec g fun t d=>?_
 simp only[push_cast]
 unfold q80 at e
 have h:=g.ext d
 refine y9 (fun a=>?_) (fun a=>?_)
 ·rw[if_neg (by simpa using a)] at e
  exact e _ d
 have b:M.declOk ds=true:=by simpa using a
 rw[if_pos b] at e
 have q:=g.small
 simp(disch:=(simp only[push_cast];done)) only[push_cast,h.len]
 refine vloop_up ds.length (fun i u w'=>u=[.int .i64 (M.bits (ds.take i)),.int .i64 i]∧Ext w w') ⟨rfl,d⟩ ?_
 rintro i _ _ x C hi ⟨rfl,c⟩ n
 have f:=g.ext c
 simp only[push_cast]
 refine zh (fun a=>?_) (fun a=>?_)
 ·simp(disch:=first|(simp only[push_cast];done)|omega) only[push_cast,f.iaddr,f.load]
  refine zF xF fun b3 z o j p l=>?_
  refine stDecl l fun A k s m=>?_
  simp(disch:=(simp only[push_cast];done)) only[push_cast,m.ld1]
  have b1:=bits_all b i
  have b2:=bits_all b (i+1)
  rw[jV0 (by omega)] at b2
  rw[zy (by omega) (by omega),inc64' (by omega)]
  exact n (by omega) _ _ ⟨by rw[jV0 (by omega)],Ext.then (c.trans j) k fun y r=>by subst r;have:=c.size;omega⟩
 ·have:i=ds.length:=by omega
  subst this
  rw[List.take_length]
  have b1:=bits_all b 0
  have b2:=bits_all b ds.length
  rw[List.take_length] at b2
  rw[shl1 b2.1 b2.2.2]
  exact e _ c
def Yp0 (env:List Int) (i n:Nat):List Int:=env.take i++(env.getD i 0+1)::List.replicate n 0
theorem set_cut {env:List Int} {i m:Nat} {x:Int} (hi:i<env.length) (hm:m=m):(env.take (i+1)++List.replicate m 0).set i x=env.take i++x::List.replicate m 0:=by
 rw[List.set_append_left _ _ (by rw[List.length_take];omega),List.take_succ_eq_append_getElem hi,List.set_append_right _ _ (by rw[List.length_take];omega)]
 have:i-(env.take i).length=0:=by rw[List.length_take];omega
 rw[this,List.append_assoc]
 rfl
theorem bump_zero {env:List Int} {i n:Nat} (hi:i<env.length) (a:i<n):(Yp0 env i (n-i-1)).set i 0=env.take i++List.replicate (n-i) 0:=by
 unfold Yp0
 rw[List.set_append_right _ _ (by rw[List.length_take];omega)]
 have:i-(env.take i).length=0:=by rw[List.length_take];omega
 rw[this,show n-i=(n-i-1)+1 by omega,List.replicate_succ]
 rfl
theorem k10 {α:Type} {l r:List α} {i:Nat} {e:α} (h:l.length≤i):(l++r).getD i e=r.getD (i-l.length) e:=by
 rw[List.getD_eq_getElem?_getD,List.getElem?_append_right h,←List.getD_eq_getElem?_getD]
theorem bump_ok {ds:List M.Dcl} {env:List Int} {i:Nat} (h:M.envOk ds env=true) (hi:i<ds.length) (k:env.getD i 0+1<2^((ds.getD i (M.nada,0)).2).toNat):M.envOk ds (M.bump env i)=true:=by
 obtain⟨c,m,d⟩:=M.env_ok h
 have g:(M.bump env i).length=ds.length:=by unfold M.bump;rw[List.length_append,List.length_take,List.length_cons,List.length_replicate];omega
 unfold M.envOk
 rw[c,g]
 simp only[Bool.true_and,decide_true,List.all_eq_true,List.mem_range]
 intro q a
 have hw:=M.dcl_wide c a
 obtain⟨_,_,n,_⟩:=M.vok_iff.1 (d q a)
 unfold M.bump
 rcases Nat.lt_trichotomy q i with e|e|e
 ·rw[M.app_getD (by rw[List.length_take];omega),M.take_getD e]
  exact d q a
 ·subst e
  rw[k10 (l:=env.take q) (by rw[List.length_take];omega)]
  have:q-(env.take q).length=0:=by rw[List.length_take];omega
  rw[this]
  exact M.vok_iff.2 ⟨hw.1,hw.2,by show 0≤env.getD q 0+1;omega,k⟩
 ·rw[k10 (l:=env.take i) (by rw[List.length_take];omega)]
  obtain⟨r,j⟩:∃r,q-(env.take i).length=r+1:=⟨q-(env.take i).length-1,by rw[List.length_take];omega⟩
  rw[j,List.getD_cons_succ]
  have f:(List.replicate (env.length-i-1) (0:Int)).getD r 0=0:=by
   rw[List.getD_eq_getElem?_getD,List.getElem?_replicate];split<;>rfl
  rw[f]
  have:=pow8 (b:=(ds.getD q (M.nada,0)).2) (by omega) (by omega)
  exact M.vok_iff.2 ⟨hw.1,hw.2,Int.le_refl _,by omega⟩
theorem environments_1_spec {yv:Value} {bd:Nat} {dv:Value} {t0:TypeId} {ds:List M.Dcl} {k:Int} {S:Nat→Prop} {R:Int→World→Prop} {Z:World→Prop} (r:M.declOk ds=true) (aj:0≤k) (hk:k<2^(M.bits ds).toNat)
  (G:Blk w bd [dv] t0) (U:DclsR F w dv ds) (ab: ¬S bd) (aa:∀b,F b→¬S b) (ac:∀b,S b→b<w.heap.size) (h0:R 0 w)
  (hR:∀j w' w'',R j w'→Same (fun b=>w.heap.size≤b) w' w''→R j w'')
  (hy:∀(j:Int) (w':World) (v:Value) (env:List Int) (K':Value→World→Prop),0≤j→j≤k→R j w'→OwnI PP zg w' v env→(∀b,v.ownBlock=some b→w.heap.size≤b)→M.envOk ds env=true→M.rankE ds env=j→
   (j<k→∀w'',R (j+1) w''→Same S w' w''→K' (.bool true) w'')→(j=k→∀w'',Z w''→K' (.bool false) w'')→vcallv PP yv #[v] w' K')
  (hZ:∀w',Z w'→K (.tuple #[]) w'):vcall PP xM #[yv,.pointer (some ⟨bd,0,none⟩)] w K:=by
 apply Jt
 have az:=U.small
 have aw:=(M.decl_iff.1 r).1
 rw[G.ld0 UM]
 simp(disch:=(simp only[push_cast];done)) only[push_cast,U.len]
 refine vmkS_own (z:= .int .i64 0) jW (by kernel_rfl) jS rfl (by omega) (by omega) fun v E hv o c=>?_
 have a0:OwnI PP zg E v (List.replicate ds.length 0):=by unfold OwnI;rw[List.map_replicate];exact hv
 have av:∀b,v.ownBlock=some b→b<E.heap.size:=fun b G=>a0.lt G
 have b4:=o.size
 have t:∀d,d∈ds→0≤d.2:=fun d U=>by
  obtain⟨j,hj,rfl⟩:=List.getElem_of_mem U
  have:=M.dcl_wide r hj
  rw[List.getD_eq_getElem?_getD,List.getElem?_eq_getElem hj] at this
  simp at this;omega
 have I:M.envOk ds (List.replicate ds.length 0)=true:=by
  unfold M.envOk
  rw[r,List.length_replicate]
  simp only[Bool.true_and,decide_true,List.all_eq_true,List.mem_range]
  intro i hi
  have:=M.dcl_wide r hi
  have e:(List.replicate ds.length (0:Int)).getD i 0=0:=by simp[List.getD_eq_getElem?_getD,hi]
  rw[e]
  refine M.vok_iff.2 ⟨this.1,this.2,Int.le_refl _,?_⟩
  have:=pow8 (b:=(ds.getD i (M.nada,0)).2) (by omega) (by omega)
  omega
 let S':Nat→Prop:=fun b=>S b∨v.ownBlock=some b
 refine YC (fun n u w'=> ∃(j:Int) (env:List Int),u=[]∧n=(k-j).toNat∧0≤j∧j≤k∧R j w'∧OwnI PP zg w' v env∧M.envOk ds env=true∧M.rankE ds env=j∧Same S' E w') (k-0).toNat
  ⟨0,_,rfl,rfl,Int.le_refl _,aj,hR 0 w E h0 (o.mono fun _ _ h=>h.elim),a0,I,M.rank_zero _ _,Same.refl _ _⟩ ?_
 rintro _ _ _ w2 C ⟨j,env,rfl,rfl,ah,ai,a9,a1,g,l,ao⟩ hC
 have T: ¬S' bd:=fun h=>h.elim ab fun h=>by have:=c _ h;have:=G.lt;omega
 have Q:∀b,F b→b<w.heap.size→¬S' b:=fun b hF ak h=>h.elim (aa b hF) fun h=>by have:=c _ h;omega
 have dcl:∀w',Same S' E w'→Blk w' bd [dv] t0∧DclsR (fun b=>F b∧b<w.heap.size) w' dv ds:=fun w' h=>
  ⟨(G.ext o).same h T,((U.weaken (F':=fun b=>F b∧b<w.heap.size) fun b h1 P=>⟨h1,P⟩).ext o).same h fun b hF _=>Q b hF.1 hF.2⟩
 obtain⟨_,hlen,O⟩:=M.env_ok g
 refine hy j w2 v env _ ah ai a9 a1 c g l (fun ak w3 a7 X=>?_) (fun _ w3 hz=>?_)
 ·simp only[push_cast,Bool.not_true]
  have x:Same S' E w3:=ao.trans (X.mono fun _ _ h=> .inl h)
  have am:∀b,v.ownBlock=some b→¬S b:=fun b G h=>by have:=ac b h;have:=c b G;omega
  have aq:=a1.same X am
  obtain⟨ad,ag⟩:=dcl w3 x
  rw[ad.ld0 UM]
  simp(disch:=(simp only[push_cast];done)) only[push_cast,ag.len]
  rw[show IntKind.i64.wrap ((ds.length:Int)-1)=(ds.length:Int)-1 from zy (by omega) (by omega)]
  refine YC (fun n u w'=> ∃cur:List Int,u=[.int .i64 ((n:Int)-1)]∧n≤ds.length∧cur=env.take n++List.replicate (ds.length-n) 0∧M.Tops ds env n∧OwnI PP zg w' v cur∧Same (fun b=>v.ownBlock=some b) w3 w') ds.length
   ⟨env,rfl,Nat.le_refl _,by rw[Nat.sub_self,←hlen,List.take_length];simp,fun i h1 P=>absurd P (by omega),aq,Same.refl _ _⟩ ?_
  rintro n _ _ w4 C1 ⟨cur,rfl,hn,f,m,a4,L⟩ a6
  have W:Same S' E w4:=x.trans (L.mono fun _ _ h=> .inr h)
  have a8:R (j+1) w4:=hR _ _ _ a7 (L.mono fun b _ h=>c b h)
  have af:cur.length=ds.length:=by rw[f,List.length_append,List.length_take,List.length_replicate];omega
  simp only[push_cast]
  refine zh (fun a=>?_) (fun a=>?_)
  ·obtain⟨i,rfl⟩:∃i,n=i+1:=⟨n-1,by omega⟩
   have J:i<ds.length:=by omega
   have ei:((i+1:Nat):Int)-1=i:=by omega
   have H:cur.getD i 0=env.getD i 0:=by
    rw[f,M.app_getD (by rw[List.length_take];omega),M.take_getD (by omega)]
   obtain⟨b0,b1,b2,b3⟩:=M.vok_iff.1 (O i J)
   have ay:=pow8 (b:=(ds.getD i (M.nada,0)).2) (by omega) (by omega)
   rw[ei]
   have a5:=a4.ints
   simp(disch:=first|(simp only[push_cast];done)|omega) only[push_cast,a5.iaddr,a5.load,H]
   rw[zy (by omega) (by omega)]
   refine a4.st qR (by omega) fun w5 ar N b5=>?_
   refine zx fun w6 p _=>?_
   have s:=ar.ext p
   have A:Same S' E w6:=W.trans ((N.mono fun _ _ h=> .inr h).trans (Same.of_ext p))
   have Y:Same (fun b=>v.ownBlock=some b) w3 w6:=L.trans (N.trans (Same.of_ext p))
   obtain⟨ae,V⟩:=dcl w6 A
   have D:=s.ints
   have ax:i<(cur.set i (env.getD i 0+1)).length:=by rw[List.length_set];omega
   simp(disch:=first|(simp only[push_cast];done)|(rw[List.length_set];omega)|omega) only[push_cast,D.iaddr,D.load,ae.ld0,V.iaddr,V.load1,true_and]
   rw[shl1 (y:=(ds.getD i (M.nada,0)).2) (by omega) (by omega)]
   rw[Xx0 (by omega)]
   simp only[push_cast,true_and,if_true]
   have B:cur.set i (env.getD i 0+1)=Yp0 env i (ds.length-i-1):=by
    rw[f];exact set_cut (by omega) (by omega)
   refine zh (fun a2=>?_) (fun a2=>?_)
   ·refine zh (fun a3=>by omega) (fun _=>?_)
    have eb:Yp0 env i (ds.length-i-1)=M.bump env i:=by unfold M.bump Yp0;rw[hlen]
    rw[B,eb] at s
    have an:=M.rank_bump (ds:=ds) (env:=env) (i:=i) hlen t J m
    refine hC (k-(j+1)).toNat _ _ (by omega) ⟨j+1,_,rfl,rfl,by omega,by omega,hR _ _ _ a8 ((N.trans (Same.of_ext p)).mono fun b _ h=>c b h),s,bump_ok g J a2,by rw[an,l],A⟩
   ·refine s.st qR (by omega) fun w7 au ap b6=>?_
    rw[show IntKind.i64.wrap ((i:Int)-1)=(i:Int)-1 from zy (by omega) (by omega)]
    refine a6 i _ _ (by omega) ⟨_,rfl,by omega,?_,fun q h1 P=>?_,au,Y.trans ap⟩
    ·rw[B];exact bump_zero (by omega) (by omega)
    ·by_cases e:q=i
     ·subst e;omega
     ·exact m q (by omega) P
  ·exfalso
   have al:n=0:=by omega
   subst al
   have:=M.rank_top hlen t m
   omega
 ·simp only[push_cast,Bool.not_false]
  exact hZ _ hz
theorem _root_.Go.Vc.Same.trans' {a b c:Nat} {w0 d e f:World} (g:Same (· =a) w0 d) (i:Same (· =b) d e) (j:Same (· =c) e f):Same (fun x=>x=a∨x=b∨x=c) w0 f:=
 (g.mono fun _ _ h=> .inl h).trans ((i.mono fun _ _ h=> .inr (.inl h)).trans (j.mono fun _ _ h=> .inr (.inr h)))
theorem ZQ {S T:Nat→Prop} {w0 g i:World} (a:Same S w0 g) (c:Same T g i) (h:∀b,b<w0.heap.size→T b→S b):Same S w0 i:=
 ⟨c.os.trans a.os,c.tape.trans a.tape,c.output.trans a.output,Nat.le_trans a.size c.size,fun b d f=>(c.block b (Nat.lt_of_lt_of_le d a.size) fun e=>f (h b d e)).trans (a.block b d f)⟩
theorem EnvAll_spec {dv:Value} {ds:List M.Dcl} {k:Int} (hd:DclsR F w dv ds) (A:M.declOk ds=true) (af:0≤k) (hk:k<2^(M.bits ds).toNat)
  (hK:∀w' v env,Ext w w'→OwnI PP zg w' v env→(∀b,v.ownBlock=some b→w.heap.size≤b)→M.envOk ds env=true→M.rankE ds env=k→K (.tuple #[v,.bool true]) w'):vcall PP ZO #[dv,.int .i64 k] w K:=by
 apply qV0;unfold Qr
 have ac:=bits_all A 0
 have hp:=pow8 (b:=M.bits ds) (by omega) ac.2.2
 refine qq fun b1 w1 ap a1 az U=>?_
 replace U:Blk w1 b1 [.int .i64 k] zb:=U
 refine Xm k30 fun b2 w2 aq ad b0 V=>?_
 replace V:Blk w2 b2 [.slice none 0 0] zg:=V
 refine Xm Zw0 fun b3 w3 ar a2 b4 h3=>?_
 replace h3:Blk w3 b3 [.bool false] xr:=h3
 refine zx fun w4 L _=>?_
 have Q:=(ad.trans a2).trans L
 have W:=a1.trans Q
 have q1:=U.ext Q
 simp(disch:=(simp only[push_cast];done)) only[push_cast,q1.ld0,true_and]
 refine zh (fun a=>by omega) (fun _=>?_)
 refine EnvMany_spec (hd.ext W) fun w5 t=>?_
 have q5:=q1.ext t
 have ag:q80 ds=2^(M.bits ds).toNat:=by unfold q80;rw[if_pos A]
 simp(disch:=(simp only[push_cast];done)) only[push_cast,q5.ld0,true_and,and_self]
 refine zh (fun a=>by omega) (fun _=>?_)
 apply VA
 obtain⟨da,dc,rfl,_⟩:=hd.shape
 rw[List.length_map] at*
 refine qq fun b6 w6 au u b5 h6=>?_
 replace h6:Blk w6 b6 [.slice da ds.length dc] zu:=h6
 simp only[push_cast]
 have ab:=W.trans (t.trans u)
 refine⟨xM,⟨[.pointer (some ⟨b6,0,none⟩)]⟩,rfl,fun l D p RR hD hl x b7 aa aj ah B=>?_⟩
 have X:=ab.trans x
 have z1:=a1.size
 have z4:=L.size
 have z5:=t.size
 have z6:=u.size
 have E:Ext w3 p:=L.trans (t.trans (u.trans x))
 have p1:Blk p b1 [.int .i64 k] zb:=q5.ext (u.trans x)
 have p2:Blk p b2 [.slice none 0 0] zg:=(V.ext a2).ext E
 have p3:Blk p b3 [.bool false] xr:=h3.ext E
 have z37:=E.size
 show vcall PP xM #[.func (.yield l) #[] #[],.pointer (some ⟨b6,0,none⟩)] p _
 let S:Nat→Prop:=fun b=>b=l∨b=b1∨b=b2∨b=b3
 have J:∀{st pe} {T:Nat→Prop} {w' w'':World},RR st pe w'→Same T w' w''→p.heap.size≤w'.heap.size→¬T l→RR st pe w'':=fun h Y hz hn=>aj _ _ _ _ h (Y.block l (by omega) hn)
 have m:∀{T:Nat→Prop} {w' w'':World},w'.heap[D]?=some (.deferred (some []))→Same T w' w''→p.heap.size≤w'.heap.size→¬T D→w''.heap[D]?=some (.deferred (some [])):=fun h Y hz hn=>(Y.block D (by omega) hn).trans h
 refine environments_1_spec (F:=fun b=>F b∧b<w.heap.size) (S:=S) (ds:=ds) (k:=k)
  (R:=fun j w'=>RR .ready none w'∧Blk w' b1 [.int .i64 (k-j)] zb∧Blk w' b2 [.slice none 0 0] zg∧Blk w' b3 [.bool false] xr∧w'.heap[D]?=some (.deferred (some []))∧Same S p w')
  (Z:=fun w'=>RR .done (some .ret) w'∧w'.heap[D]?=some (.deferred (some []))∧Same S p w'∧∃v env,Blk w' b2 [v] zg∧Blk w' b3 [.bool true] xr∧OwnI PP zg w' v env∧(∀b,v.ownBlock=some b→p.heap.size≤b)∧M.envOk ds env=true∧M.rankE ds env=k)
  A af hk (h6.ext x) ((hd.weaken fun b U V=>⟨U,V⟩).ext X) (fun h=>by rcases h with h|h|h|h<;>omega) (fun b q h=>by rcases h with h|h|h|h<;>omega) (fun b h=>by rcases h with h|h|h|h<;>omega)
  ⟨ah,by rw[Int.sub_zero];exact p1,p2,p3,aa,Same.refl _ _⟩ ?_ ?_ ?_
 ·rintro j w8 w9 ⟨g1,g2,g3,g4,g5,g6⟩ hs
  have z:=g6.size
  exact⟨J g1 hs z (by omega),g2.same hs (by omega),g3.same hs (by omega),g4.same hs (by omega),m g5 hs z (by omega),ZQ g6 hs fun b q h=>by omega⟩
 ·rintro j w8 v env K' ay ax ⟨g1,g2,g3,g4,g5,g6⟩ hv ak C ai Y hZ
  have P:=g6.size
  refine B [v] w8 K' rfl g1 ⟨g1,fun w9 c al a0=>?_⟩
  have k1:=g2.same c (by omega)
  have k2:=g3.same c (by omega)
  have k3:=g4.same c (by omega)
  have k5:=m g5 c P (by omega)
  have k6:Same S p w9:=ZQ g6 c fun b _ h=> .inl h
  simp(disch:=(simp only[push_cast];done)) only[push_cast,k1.ld0]
  refine zh (fun a=>?_) (fun a=>?_)
  ·have ae:=(hv.same c fun b q e=>by have:=ak b q;omega).ints
   have aw:=(M.env_ok C).2.1
   have av:=(M.decl_iff.1 A).1
   refine Clone_Lint ae (by omega) fun w10 v2 o a7 a3=>?_
   have hc:v2.cells= #[v2]∧v2.oneCell'=true:=by
    obtain⟨a',c',e,_⟩:=a7.ints.shape
    subst e;exact⟨rfl,rfl⟩
   have b8:=o.size
   refine(k2.ext o).st (i:=0) hc.1 hc.2 xy0 rfl fun N r a9 H=>?_
   replace H:Blk N b2 [v2] zg:=H
   refine((k3.ext o).same r (by omega)).st (i:=0) rfl rfl XS0 rfl fun O s an I=>?_
   replace I:Blk O b3 [.bool true] xr:=I
   have n:Same (fun b=>b=b2∨b=b3) w9 O:=(Same.of_ext o).trans ((r.mono fun _ _ h=> .inl h).trans (s.mono fun _ _ h=> .inr h))
   have k7:Same S p O:=ZQ k6 n fun b _ h=> .inr (.inr h)
   refine⟨J a0 n (by omega) (by omega),fun am g ao a5=>hZ (by omega) am ⟨a5,m (m k5 n (by omega) (by omega)) g (by omega) (by omega),ZQ k7 g fun b _ h=> .inl h,v2,env,(H.same s (by omega)).same g (by omega),I.same g (by omega),?_,fun b q=>by have:=a3 b q;omega,C,by omega⟩⟩
   exact a7.same (r.trans' s g) fun b q e=>by have:=a3 b q;omega
  ·try simp(disch:=(simp only[push_cast];done)) only[push_cast,k1.ld0]
   rw[zy (by omega) (by omega)]
   refine k1.st (i:=0) rfl rfl qR rfl fun w10 f a8 G=>?_
   replace G:Blk w10 b1 [.int .i64 (k-(j+1))] zb:=by rw[show k-(j+1)=k-j-1 by omega];exact G
   refine⟨J a0 f (by omega) (by omega),fun N d a9 a4=>Y (by omega) N ⟨a4,G.same d (by omega),(k2.same f (by omega)).same d (by omega),(k3.same f (by omega)).same d (by omega),m (m k5 f (by omega) (by omega)) d (by omega) (by omega),?_⟩ ?_⟩
   ·exact ZQ (ZQ k6 f fun b _ h=> .inr (.inl h)) d fun b _ h=> .inl h
   ·exact(c.mono fun b _ h=> .inl h).trans ((f.mono fun b _ h=> .inr (.inl h)).trans (d.mono fun b _ h=> .inl h))
 ·rintro w8 ⟨g1,g2,g3,v,env,g4,g5,g6,g7,g8,g9⟩
  have P:=g3.size
  refine⟨.done,some .ret,by decide,g1,fun w9 c al=>?_⟩
  refine⟨m g2 c P (by omega),fun w10 a6 a8=>?_⟩
  have hs:Same (fun b=>b=l∨b=D) w8 w10:=(c.mono fun _ _ h=> .inl h).trans (a6.mono fun _ _ h=> .inr h)
  show vlv PP zg (.pointer (some ⟨b2,0,none⟩)) w10 _
  rw[lv0 (g4.same hs (by omega)) Q00,lv0 (g5.same hs (by omega)) XZ0]
  refine hK _ v env (Ext.then (Ext.then X g3 fun y hy=>by rcases hy with h|h|h|h<;>omega) hs fun y hy=>by omega) (g6.same hs fun b q h=>by have:=g7 b q;omega) (fun b q=>by have:=g7 b q;omega) g8 g9
end Go.Proofs.YtaekfnbnhjgboaaGreatDoor
end
