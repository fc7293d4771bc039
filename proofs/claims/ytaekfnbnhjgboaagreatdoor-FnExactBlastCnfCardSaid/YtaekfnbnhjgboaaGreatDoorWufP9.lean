import Derived.Test.YtaekfnbnhjgboaaGreatDoorWufP8
/- A part of the proof. -/
set_option linter.unusedVariables false
set_option linter.unusedSimpArgs false
set_option linter.unnecessarySimpa false
set_option linter.unusedSectionVars false
section
namespace Go.Proofs.YtaekfnbnhjgboaaGreatDoor
open Go Go.Vc Go.Proofs
variable {w:World} {K:Value→World→Prop} {D F Fx Fy Y S:Nat→Prop} {n b4 b8:Nat} {gs:M.Gs} {v nv:Value} {cs cs':List Value} {st:Option M.Gs}
theorem kB0 {op:BinOp} (a:op= .eql∨op= .neq) (c:Bool) (x y:Array Value):(eqG op zn c (.agg x) (.agg y)).run PP w= .ok () w:=by
 rcases a with rfl|rfl<;>cases c<;>kernel_rfl
theorem qC0 {c:Bool} (g h:M.Gt):zt PP .eql zn c (gv g) (gv h) w K=K (.bool (decide (g=h))) w:=by
 have a:(Op.equal zn (gv g) (gv h)).run PP w= .ok (decide (g=h)) w:=eqGate g h w
 refine yN (kB0 (.inl rfl) c _ _) ?_
 have e:∀xs ys:Array Value,binOp .eql zn (.agg xs) (.agg ys)=(do let b ←Op.equal zn (.agg xs) (.agg ys);pure (Value.bool b)):=fun _ _=>rfl
 unfold gv at a⊢
 rw[e,Sem.run_bind,a];rfl
abbrev GOff (D:Nat→Prop) (w:World) (v:Value) (gs:M.Gs):Prop:=GatesR (fun b=> ¬D b) w v gs
theorem GOff.swap {w':World} (h:GOff D w v gs) (hw:Same S w w') (d:∀b,S b→D b) (e:∀b,Y b→b<w.heap.size→D b):GOff Y w' v gs:=by
 have c:GatesR (fun b=> ¬D b∧b<w.heap.size) w v gs:=Sl.weaken h fun b a f=>⟨a,f⟩
 exact Sl.weaken (Sl.same c hw fun b a _ hs=>a.1 (d b hs)) fun b a _ g=>a.1 (e b g a.2)
theorem net_one {a:Int} {o:Option Addr} {l c:Nat}:∀u,u∈[Value.int .i64 a,.slice o l c]→u.oneCell'=true:=fun u hu=>by
 simp only[List.mem_cons,List.not_mem_nil,or_false] at hu
 rcases hu with rfl|rfl<;>rfl
theorem gates_app {x:Value} {b1:Nat} {t0:TypeId} {g:M.Gt} (q:GatesR Fx w x gs) (l:Blk w b1 (yE g) t0) (u:gs.length≤1000) (o:OwnG w v []) (p:∀b,v.ownBlock=some b→b≠b1)
  (m:∀w' v',OwnG w' v' (gs++[g])→Same (fun b=>v.ownBlock=some b∨w.heap.size≤b) w w'→(∀b,v'.ownBlock=some b→v.ownBlock=some b∨w.heap.size≤b)→K v' w'):
  vbi PP .append [zm,zm] zm [v,x] w fun t r=>vbi PP .append [zm,zm] zm [t,.slice (some ⟨b1,0,none⟩) 1 1] r K:=by
 refine vappend (bs:=24) jv (by decide) o q (gone gs) (by omega) (by rw[List.length_map];simp;omega) (by rw[List.length_map];simp;omega) fun v' y i a c=>?_
 have n:=l.lt
 refine Own.app1k (bs:=24) i jv (by decide) (l.same a fun e=>p _ e rfl) rfl (gone [g] _ (by simp)) (by simp;omega) (by simp;omega) fun v3 s j k f=>?_
 have s2:=a.size
 refine m s v3 (by unfold OwnG;rw[List.map_append];exact j) (Same.thn (a.mono fun b _ h=> .inl h) (k.mono fun b _ h=>h) fun b d=> .inl ((c b d).imp id id)) fun b d=>?_
 rcases f b d with h|h
 ·exact c b h
 ·exact .inr (by omega)
theorem sput_spec {g:M.Gt} (hn:n≤8) (hg:GOff D w nv gs) (hl:gs.length≤600) (hD:∀b,D b→b<w.heap.size)
  (hK:∀w' n' gv',Ext w w'→GOff D w' gv' (if(M.putG n gs g).2=0 then[] else(M.putG n gs g).1)→(n'=if(M.putG n gs g).2=0 then 0 else n)→((M.putG n gs g).2=0→gv'= .slice none 0 0)→K (.tuple #[.agg ⟨[.int .i64 (n':Nat),gv']⟩,.int .i64 (M.putG n gs g).2]) w'):
  vcall PP jr #[.agg ⟨[.int .i64 n,nv]⟩,.agg ⟨yE g⟩] w K:=by
 apply qg0
 refine zx fun b1 w1 av V az ad=>?_
 refine zx fun b2 w2 aw P b0 ae=>?_
 refine zF kf fun b3 w3 ax a1 b4 a0=>?_
 have e3:=V.trans (P.trans a1)
 have a5:=ad.ext (P.trans a1)
 have a6:=ae.ext a1
 have W:∀w':World,Blk w' b2 (yE g) zn→∀K:Value→World→Prop,zf PP zn (.pointer (some ⟨b2,0,none⟩)) w' K=K (.agg ⟨yE g⟩) w':=fun w' hB K=>Blk.ldAgg hB (by exact qm)
 have hlen:∀(w':World) (K:Value→World→Prop),vbi PP .len [zm] ze [nv] w' K=K (.int .i64 gs.length) w':=fun w' K=>by rw[Sl.len hg qB,ji0]
 obtain⟨go,gc,al,_⟩:=hg.shape
 have a9:∀i,i<gs.length→gs.getD i ⟨false,0,0⟩=g→g∉gs.take i→(M.putG n gs g)=(gs,(2+n+i:Int)):=fun i hi h1 h2=>by
  have hm:g∈gs:=h1▸M.getD_mem hi _
  unfold M.putG
  rw[if_pos hm]
  have:gs.idxOf g=i:=by
   have e:=List.take_append_drop i gs
   have h3:gs.drop i=gs.getD i ⟨false,0,0⟩::gs.drop (i+1):=by
    rw[List.drop_eq_getElem_cons hi,List.getD_eq_getElem?_getD,List.getElem?_eq_getElem hi];rfl
   rw[←e,List.idxOf_append,if_neg h2,h3,h1,List.idxOf_cons_self,List.length_take];omega
  rw[this]
 refine vloop_up gs.length (fun i u w'=>u=[.int .i64 i]∧Ext w3 w'∧g∉gs.take i) ⟨rfl,Same.refl _ _,by simp⟩ ?_
 rintro i _ _ w4 C hi ⟨rfl,r,Q⟩ hC
 have B:=a5.ext r
 have Y:=a6.ext r
 have e4:=e3.trans r
 simp(disch:=first|(simp only[push_cast];done)|omega) only[push_cast,B.ld1,hlen]
 refine zh (fun a=>?_) (fun a=>?_)
 ·have z:i<gs.length:=by omega
  refine zw fun H l _=>?_
  have j:=B.ext l
  have E:=Y.ext l
  have a8:GOff D H nv gs:=Sl.ext hg (e4.trans l)
  have ak:(gs.map yE).getD i []=yE (gs.getD i ⟨false,0,0⟩):=M.getD_map _ z _ _
  simp(disch:=first|(simp only[push_cast];done)|omega) only[push_cast,j.ld1,true_and]
  rw[Sl.iaddr a8 Qo (by omega) (by rw[ji0];omega),Int.toNat_natCast]
  simp(disch:=first|(simp only[push_cast];done)|omega) only[push_cast,true_and]
  rw[Sl.ldAgg a8 qm (by rw[ji0];exact z),ak]
  simp(disch:=first|(simp only[push_cast];done)|omega) only[push_cast,true_and,W _ E]
  rw[show(Value.agg ⟨yE (gs.getD i ⟨false,0,0⟩)⟩)=gv (gs.getD i ⟨false,0,0⟩) from rfl,show(Value.agg ⟨yE g⟩)=gv g from rfl,qC0]
  refine⟨rfl,?_⟩
  refine zh (fun c=>?_) (fun c=>?_)
  ·have hp:=a9 i z c Q
   rw[hp] at hK
   refine zw fun I f _=>?_
   have d:=j.ext f
   have O:=(a0.ext (r.trans l)).ext f
   subst al
   simp(disch:=first|(simp only[push_cast];done)|omega) only[push_cast,d.ld0,d.ldAgg (t:=zj) yg,true_and,zH]
   refine O.stAgg (cs':=[.int .i64 n,.slice go (gs.map yE).length gc]) rfl yg net_one fun v m X q=>?_
   have e7:Ext w v:=Ext.then ((e4.trans l).trans f) m fun b p=>by have:=V.size;have:=P.size;omega
   have k:=d.same m (show¬b1=b3 by omega)
   simp(disch:=first|(simp only[push_cast];done)|omega) only[push_cast,k.ld0,true_and,and_self,zH]
   rw[q.lv (t:=zj) yg]
   refine hK v n _ e7 ?_ ?_ ?_
   ·rw[if_neg (by show(2+(n:Int)+i)≠0;omega)];exact Sl.ext hg e7
   ·rw[if_neg (by show(2+(n:Int)+i)≠0;omega)]
   ·intro h;exfalso;revert h;show(2+(n:Int)+i)=0→False;omega
  ·simp(disch:=omega) only[push_cast,zH]
   refine hC z _ _ ⟨by simp,r.trans l,?_⟩
   rw[M.take_add z ⟨false,0,0⟩]
   intro h
   rcases List.mem_append.1 h with h|h
   ·exact Q h
   ·exact c (List.mem_singleton.1 h).symm
 ·have z:i=gs.length:=by omega
  subst z
  rw[List.take_length] at Q
  try simp(disch:=first|(simp only[push_cast];done)|omega) only[push_cast,B.ld1,hlen]
  refine zh (fun c=>?_) (fun c=>?_)
  ·have hp:M.putG n gs g=(gs,0):=by unfold M.putG;rw[if_neg Q,if_pos (by omega)]
   rw[hp] at hK
   rw[X80]
   refine(a0.ext r).stAgg (cs':=[.int .i64 0,.slice none 0 0]) rfl yg net_one fun v m X q=>?_
   rw[q.lv (t:=zj) yg]
   have e7:Ext w v:=Ext.then e4 m fun b p=>by have:=V.size;have:=P.size;omega
   exact hK v 0 _ e7 (by rw[if_pos rfl];exact GatesR.nil) (by rw[if_pos rfl]) fun _=>rfl
  ·have hp:M.putG n gs g=(gs++[g],(2+n+gs.length:Int)):=by unfold M.putG;rw[if_neg Q,if_neg (by omega)]
   rw[hp] at hK
   have s1:=V.size;have s2:=P.size;have s4:=e4.size;have ba:=r.size
   refine y5 (fun u w'=>u=[]∧Ext w w'∧∃v',Blk w' b1 [.int .i64 n,v'] zj∧Blk w' b3 [.int .i64 0,.slice none 0 0] zj∧OwnG w' v' (gs++[g])∧∀b,v'.ownBlock=some b→w.heap.size≤b∧b≠b1∧b≠b3) ?_ ?_
   ·intro J hJ
    refine zw fun H l _=>?_
    have e5:=e4.trans l
    have j:=B.ext l
    have E:=Y.ext l
    have N:=(a0.ext r).ext l
    have s5:=l.size
    have fin:∀(T:World) (v':Value),Same (fun b=>H.heap.size≤b) H T→OwnG T v' (gs++[g])→(∀b,v'.ownBlock=some b→H.heap.size≤b)→zu PP zm (.pointer (some (Addr.add ⟨b1,0,none⟩ 1))) v' T fun _ ac=>J [] ac:=fun T v' L A G=>by
     have e8:Ext H T:=⟨L.os,L.tape,L.output,L.size,fun i hi _=>L.block i hi (by omega)⟩
     refine Blk.st (i:=1) (j.ext e8) (Sl.cells1 (Own.sl A)) (Sl.one (Own.sl A)) WL rfl fun w9 S b9 ag=>?_
     refine hJ _ _ ⟨rfl,Ext.then (e5.trans e8) S fun b p=>by omega,v',ag,(N.ext e8).same S (show¬b3=b1 by omega),Own.same A S (fun b p e=>by have:=G b p;omega),fun b p=>by have:=G b p;omega⟩
    simp(disch:=first|(simp only[push_cast];done)|omega) only[push_cast,j.ld1,W _ E,true_and,and_true]
    have mk:∀(I:World) (K:Value→World→Prop),(∀b7 v,b7=I.heap.size→Ext I v→v.heap.size=I.heap.size+1→Blk v b7 (yE g) zn→K (.slice (some ⟨b7,0,none⟩) 1 1) v)→vbuildS PP zm 1 [(0,.agg ⟨yE g⟩)] I K:=fun I K h=>
     Us kH (by kernel_rfl) Y0 (y:=yE g) rfl rfl (show 3≤16777216 by decide) h
    have nil:∀{I:World} {F:Nat},Blk I F [] zn→OwnG I (.slice (some ⟨F,0,none⟩) 0 0) []:=fun h=>Blk.ownk (css:=[]) (by rw[Vf];exact h) (fun x hx=>by cases hx) rfl (by omega)
    refine⟨?_,?_⟩
    ·refine qg kH K7 fun F I ai f au U=>?_
     have d:=j.ext f
     have Z:=E.ext f
     simp(disch:=first|(simp only[push_cast];done)|omega) only[push_cast,d.ld1,W _ Z,true_and,and_true,and_self]
     refine⟨?_,?_⟩
     ·refine vappend (bs:=24) jv (by decide) (nil U) (Sl.ext hg (e5.trans f)) (gone gs) (by omega) (by rw[List.length_map];simp;omega) (by rw[List.length_map];simp;omega) fun v7 v ap m am=>?_
      have s7:=m.size
      have a7:=Z.same m fun e=>by have e:F=b2:=Option.some.inj e;omega
      simp(disch:=first|(simp only[push_cast];done)|omega) only[push_cast,W _ a7,true_and,and_true,and_self]
      refine mk v _ fun b8 T ay a2 b5 af=>?_
      have n7:∀b,v7.ownBlock=some b→H.heap.size≤b:=fun b p=>(am b p).elim (fun e=>by have e:F=b:=Option.some.inj e;omega) fun h=>by omega
      refine Own.app1k (bs:=24) (Own.ext ap a2) jv (by decide) af rfl (gone [g] _ (by simp)) (by simp;omega) (by simp;omega) fun v9 w9 aq S an=>?_
      try simp(disch:=first|(simp only[push_cast];done)|omega) only[push_cast,true_and,and_true,and_self]
      have s8:=a2.size
      refine fin w9 v9 (Same.thn (((Same.of_ext f).trans (m.mono (S':=fun b=>H.heap.size≤b) fun b _ e=>by have e:F=b:=Option.some.inj e;omega)).trans (Same.of_ext a2)) (S.mono (S':=fun b=>H.heap.size≤b) fun b _ e=>n7 b e) fun b p=> .inl p) (by unfold OwnG;rw[List.map_append];exact aq) fun b p=>(an b p).elim (n7 b) fun h=>by omega
     ·refine mk I _ fun b7 v aj s X q=>?_
      have k:=d.ext s
      simp(disch:=first|(simp only[push_cast];done)|omega) only[push_cast,k.ld1,true_and,and_true,and_self]
      refine gates_app (Sl.ext hg ((e5.trans f).trans s)) q (by omega) (nil (U.ext s)) (fun b e=>by have e:F=b:=Option.some.inj e;omega) fun T v8 A a4 G=>?_
      try simp(disch:=first|(simp only[push_cast];done)|omega) only[push_cast,true_and,and_true,and_self]
      refine fin T v8 (((Same.of_ext (f.trans s))).trans (a4.mono (S':=fun b=>H.heap.size≤b) fun b _ e=>e.elim (fun e=>by have e:F=b:=Option.some.inj e;omega) fun h=>by omega)) A fun b p=>(G b p).elim (fun e=>by have e:F=b:=Option.some.inj e;omega) fun h=>by omega
    ·refine mk H _ fun b7 v aj s X q=>?_
     have k:=j.ext s
     simp(disch:=first|(simp only[push_cast];done)|omega) only[push_cast,k.ld1,true_and,and_true,and_self]
     refine qg kH K7 fun F I ai f au U=>?_
     have d:=k.ext f
     simp(disch:=first|(simp only[push_cast];done)|omega) only[push_cast,d.ld1,true_and,and_true,and_self]
     refine gates_app (Sl.ext hg ((e5.trans s).trans f)) (q.ext f) (by omega) (nil U) (fun b e=>by have e:F=b:=Option.some.inj e;omega) fun T v8 A a4 G=>?_
     try simp(disch:=first|(simp only[push_cast];done)|omega) only[push_cast,true_and,and_true,and_self]
     refine fin T v8 (((Same.of_ext (s.trans f))).trans (a4.mono (S':=fun b=>H.heap.size≤b) fun b _ e=>e.elim (fun e=>by have e:F=b:=Option.some.inj e;omega) fun h=>by omega)) A fun b p=>(G b p).elim (fun e=>by have e:F=b:=Option.some.inj e;omega) fun h=>by omega
   rintro _ _ H ⟨rfl,e5,v',j,N,a3,ab⟩
   refine zw fun I f _=>?_
   have d:=j.ext f
   have ao:=Own.ext a3 f
   have O:=N.ext f
   have aa:∀(w':World) (K:Value→World→Prop),vbi PP .len [zm] ze [v'] w' K=K (.int .i64 ((gs.length+1:Nat):Int)) w':=fun w' K=>by
    rw[Sl.len (Own.sl a3) qB,List.length_map,List.length_append];rfl
   obtain⟨o,c',ar,_⟩:=(Own.sl a3).shape
   simp(disch:=first|(simp only[push_cast];done)|omega) only[push_cast,d.ld0,d.ld1,aa,d.ldAgg (t:=zj) yg,true_and,zH]
   subst ar
   refine O.stAgg (cs':=[.int .i64 n,.slice o (List.map yE (gs++[g])).length c']) rfl yg net_one fun v m X q=>?_
   have k:=d.same m (show¬b1=b3 by omega)
   simp(disch:=first|(simp only[push_cast];done)|omega) only[push_cast,k.ld0,k.ld1,aa,true_and,and_self,zH]
   rw[q.lv (t:=zj) yg]
   have e7:Ext w v:=Ext.then (e5.trans f) m fun b p=>by omega
   have R:(2+(n:Int)+gs.length)≠0:=by omega
   have ah:=hK v n (.slice o (List.map yE (gs++[g])).length c') e7 (by rw[if_neg R];exact Sl.weaken (Own.sl (Own.same ao m fun b p e=>(ab b p).2.2 e)) fun b p _ hd=>by have:=hD b hd;have:=(ab b p).1;omega) (by rw[if_neg R]) fun h=>absurd h R
   rwa[show(2+(n:Int)+gs.length)=1+n+((gs.length+1:Nat):Int) by omega] at ah
end Go.Proofs.YtaekfnbnhjgboaaGreatDoor
end
section
namespace Go.Proofs.YtaekfnbnhjgboaaGreatDoor
open Go Go.Vc Go.Proofs
variable {w:World} {K:Value→World→Prop} {D F Fx Fy Y S:Nat→Prop} {n b4 b8:Nat} {gs gs':M.Gs} {v nv:Value} {cs cs':List Value} {st:Option M.Gs} {a b m:Int}
def NetO (n:Nat) (D:Nat→Prop) (w:World) (gs:M.Gs) (m:Int) (cs:List Value):Prop:=
 if m=0 then cs=[.int .i64 0,.slice none 0 0] else ∃o l c,cs=[.int .i64 n,.slice o l c]∧GOff D w (.slice o l c) gs∧gs.length≤600
theorem NetO.form (h:NetO n D w gs m cs):∃(x:Int) (o:Option Addr) (l c:Nat),cs=[.int .i64 x,.slice o l c]:=by
 unfold NetO at h
 split at h
 ·exact⟨_,_,_,_,h⟩
 ·obtain⟨o,l,c,e,_⟩:=h;exact⟨_,_,_,_,e⟩
theorem NetO.len (h:NetO n D w gs m cs):cs.length=2:=by obtain⟨x,o,l,c,rfl⟩:=h.form;rfl
theorem NetO.one (h:NetO n D w gs m cs):∀u,u∈cs→u.oneCell'=true:=by obtain⟨x,o,l,c,rfl⟩:=h.form;exact net_one
theorem NetO.same {w':World} (h:NetO n D w gs m cs) (hw:Same S w w') (f:∀b,S b→D b):NetO n D w' gs m cs:=by
 unfold NetO at h⊢
 by_cases hm:m=0
 ·rw[if_pos hm] at h⊢;exact h
 ·rw[if_neg hm] at h⊢
  obtain⟨o,l,c,e,a,d⟩:=h
  exact⟨o,l,c,e,a.swap hw f fun b g _=>g,d⟩
theorem NetO.weak {Y:Nat→Prop} (h:NetO n D w gs m cs) (f:∀b,Y b→D b):NetO n Y w gs m cs:=by
 unfold NetO at h⊢
 by_cases hm:m=0
 ·rw[if_pos hm] at h⊢;exact h
 ·rw[if_neg hm] at h⊢
  obtain⟨o,l,c,e,a,d⟩:=h
  exact⟨o,l,c,e,Sl.weaken a fun b g _ i=>g (f b i),d⟩
theorem NetO.put {f:Nat} {a:Value} (d:GOff D w a (if m=0 then[] else gs)) (b:f=if m=0 then 0 else n) (h:m=0→a= .slice none 0 0) (i:gs.length≤600):NetO n D w gs m [.int .i64 (f:Nat),a]:=by
 unfold NetO
 by_cases c:m=0
 ·rw[if_pos c] at b⊢;rw[b,h c];rfl
 ·rw[if_neg c] at d b⊢
  obtain⟨o,g,e,_⟩:=d.shape
  exact⟨o,_,g,by rw[b,e],by rw[←e];exact d,i⟩
theorem NetO.of {o:Option Addr} {l c:Nat} (h:GOff D w (.slice o l c) gs) (a:gs.length≤600) (hm:m≠0):NetO n D w gs m [.int .i64 n,.slice o l c]:=by
 unfold NetO;rw[if_neg hm];exact⟨o,l,c,rfl,h,a⟩
theorem put_len {g:M.Gt} (h:gs.length≤600):(M.putG n gs g).1.length≤600:=by
 unfold M.putG
 split
 ·exact h
 ·split
  ·exact h
  ·rw[List.length_append,List.length_singleton];omega
theorem l4Abs_sm (c:Sm a) (b:K (.int .i64 (M.absI a)) w):vcall PP qe #[.int .i64 a] w K:=by
 apply qj0
 unfold M.absI at b
 simp only[push_cast]
 refine zh (fun h=>?_) (fun h=>?_)
 ·rw[if_pos h] at b
  simp(disch:=omega) only[push_cast,zH,Int.zero_sub]
  exact b
 ·rw[if_neg h] at b
  exact b
theorem jq0 (x y:Int):zT PP zn [(1,.int .i64 x),(2,.int .i64 y)] w K=K (.agg ⟨yE ⟨false,x,y⟩⟩) w:=yw Xu (us:=[[.int .i64 x],[.int .i64 y]]) rfl rfl
theorem Ya0 (x y:Int):zT PP zn [(0,.bool true),(1,.int .i64 x),(2,.int .i64 y)] w K=K (.agg ⟨yE ⟨true,x,y⟩⟩) w:=yw Xu (us:=[[.bool true],[.int .i64 x],[.int .i64 y]]) rfl rfl
theorem net_out {b2:Nat} {a:List Value} (f:Blk w b2 a zj) (h:a.length=2) (d:cs.length=2) (e:∀u,u∈cs→u.oneCell'=true) (g:∀w',Same (· =b2) w w'→K (.agg ⟨cs⟩) w'):
  zu PP zj (.pointer (some ⟨b2,0,none⟩)) (.agg ⟨cs⟩) w fun _ c=>vlv PP zj (.pointer (some ⟨b2,0,none⟩)) c K:=by
 refine f.stAgg (cs':=cs) (by omega) (by rw[d];exact yg) e fun c hs i b=>?_
 rw[b.lv (t:=zj) (by rw[d];exact yg)]
 exact g c hs
theorem sand6_spec (hn:n≤8) (P:GOff D w nv gs) (o:gs.length≤600) (hD:∀b,D b→b<w.heap.size) (ha:Sm a) (f:Sm b) (T:a≠0) (U:b≠0)
  (O:∀w' cs,Ext w w'→NetO n D w' (M.andG n gs a b).1 (M.andG n gs a b).2 cs→K (.tuple #[.agg ⟨cs⟩,.int .i64 (M.andG n gs a b).2]) w'):
  vcall PP Q6 #[.agg ⟨[.int .i64 n,nv]⟩,.int .i64 a,.int .i64 b] w K:=by
 apply qi0
 obtain⟨go,gc,W,_⟩:=P.shape
 rw[W] at P⊢
 refine zx fun b1 w1 a1 z a3 R=>?_
 refine zF kf fun b2 p a2 l a4 s=>?_
 have Q:=z.trans l
 have r:=R.ext l
 have i:∀K:Value→World→Prop,zf PP zj (.pointer (some ⟨b1,0,none⟩)) p K=K (.agg ⟨[.int .i64 n,.slice go (gs.map yE).length gc]⟩) p:=fun K=>r.ldAgg (t:=zj) yg
 have z1:=z.size;have z2:=l.size
 have same:∀(x:Int),x≠0→(M.andG n gs a b)=(gs,x)→∀w':World,w'=p→zu PP zj (.pointer (some ⟨b2,0,none⟩)) (.agg ⟨[.int .i64 n,.slice go (gs.map yE).length gc]⟩) w' fun _ E=>vlv PP zj (.pointer (some ⟨b2,0,none⟩)) E fun r6 F=>K (.tuple #[r6,(.int .i64 x)]) F:=fun x hx e w' ew=>by
  subst ew
  rw[e] at O
  refine net_out s rfl rfl net_one fun q Z=>?_
  have e3:Ext w q:=Ext.then Q Z fun y hy=>by subst hy;omega
  exact O q _ e3 (NetO.of (Sl.ext P e3) o hx)
 have X:GatesR (fun b=> ¬D b∧b<w.heap.size) w (.slice go (gs.map yE).length gc) gs:=Sl.weaken P fun b f o=>⟨f,o⟩
 have put:∀g:M.Gt,(M.andG n gs a b)=M.putG n gs g→vcall PP jr #[.agg ⟨[.int .i64 n,.slice go (gs.map yE).length gc]⟩,.agg ⟨yE g⟩] p fun t47 G=>zk PP t47 0 G fun t48 H=>zk PP t47 1 H fun t49 I=>
   zu PP zj (.pointer (some ⟨b2,0,none⟩)) t48 I fun _ L=>vlv PP zj (.pointer (some ⟨b2,0,none⟩)) L fun C N=>K (.tuple #[C,t49]) N:=fun g e=>by
  rw[e] at O
  refine sput_spec (D:=fun b=>D b∨b=b2) hn (Sl.weaken (Sl.ext X Q) fun b f o hd=>hd.elim f.1 fun e=>by have:=f.2;omega) o (fun b f=>f.elim (fun h=>by have:=hD b h;omega) fun h=>by omega) fun q n' a5 A V Y a0=>?_
  simp only[push_cast]
  have S:=NetO.put V Y a0 (put_len o)
  refine net_out (s.ext A) rfl S.len S.one fun w4 B=>?_
  exact O w4 _ (Ext.then (Q.trans A) B fun y hy=>by subst hy;omega) ((S.same B fun b f=> .inr f).weak fun b f=> .inl f)
 unfold Sm at ha f
 refine y5 (fun u w'=>u=[]∧w'=p∧M.andG n gs a b=M.putG n gs ⟨false,a,b⟩) ?_ ?_
 ·intro J hJ
  refine y5 (fun u w'=>u=[.bool (decide (a= -1∨b= -1∨a= -b))]∧w'=p) ?_ ?_
  ·intro J1 k
   simp only[push_cast]
   refine zh (fun c=>k _ _ ⟨by rw[decide_eq_true (.inl c)],rfl⟩) (fun c=>?_)
   try simp only[push_cast]
   refine zh (fun d=>k _ _ ⟨by rw[decide_eq_true (.inr (.inl d))],rfl⟩) (fun d=>?_)
   simp(disch:=omega) only[push_cast,zH,Int.zero_sub]
   refine k _ _ ⟨?_,rfl⟩
   rw[decide_eq_decide.2 (show(a= -1∨b= -1∨a= -b)↔a= -b from⟨fun h=>h.elim (fun h=>absurd h c) fun h=>h.elim (fun h=>absurd h d) id,fun h=> .inr (.inr h)⟩)]
  rintro _ _ q ⟨rfl,rfl⟩
  simp only[push_cast]
  refine zh (fun c=>?_) (fun c=>?_)
  ·rw[i]
   refine same (-1) (by decide) ?_ _ rfl
   unfold M.andG
   by_cases j:a= -1∨b= -1
   ·rw[if_pos j]
   ·rw[if_neg j]
    have d:a= -b:=c.elim (fun h=>absurd (.inl h) j) fun h=>h.elim (fun h=>absurd (.inr h) j) id
    rw[if_neg (by omega),if_neg (by omega)]
    by_cases c3:a=b
    ·exfalso;omega
    ·rw[if_neg c3,if_pos d]
  refine y5 (fun u w'=>u=[.bool (decide (a=1∨a=b))]∧w'=q) ?_ ?_
  ·intro J2 v
   try simp only[push_cast]
   refine zh (fun c=>v _ _ ⟨by rw[decide_eq_true (.inl c)],rfl⟩) (fun d=>?_)
   try simp only[push_cast]
   refine v _ _ ⟨?_,rfl⟩
   rw[decide_eq_decide.2 (show(a=1∨a=b)↔a=b from⟨fun h=>h.elim (fun h=>absurd h d) id,.inr⟩)]
  rintro _ _ w4 ⟨rfl,rfl⟩
  have j: ¬(a= -1∨b= -1):=fun h=>c (h.elim .inl fun h=> .inr (.inl h))
  simp only[push_cast]
  refine zh (fun d=>?_) (fun d=>?_)
  ·rw[i]
   refine same b U ?_ _ rfl
   unfold M.andG
   rw[if_neg j]
   by_cases c3:a=1
   ·rw[if_pos c3]
   ·have m:a=b:=d.elim (fun h=>absurd h c3) id
    rw[if_neg c3]
    by_cases c5:b=1
    ·omega
    ·rw[if_neg c5,if_pos m,m]
  try simp only[push_cast]
  refine zh (fun c3=>?_) (fun c3=>?_)
  ·rw[i]
   refine same a T ?_ _ rfl
   unfold M.andG
   rw[if_neg j,if_neg (fun h=>d (.inl h)),if_pos c3]
  have hand:M.andG n gs a b=M.putG n gs (M.gateA a b):=by
   unfold M.andG
   rw[if_neg j,if_neg (fun h=>d (.inl h)),if_neg c3,if_neg (fun h=>d (.inr h)),if_neg (fun h=>c (.inr (.inr h)))]
  refine l4Abs_sm ha (l4Abs_sm f ?_)
  try simp only[push_cast]
  unfold M.gateA at hand
  refine zh (fun m=>?_) (fun m=>?_)
  ·rw[if_pos m] at hand
   rw[i,jq0]
   exact put _ hand
  ·rw[if_neg m] at hand
   exact hJ _ _ ⟨rfl,rfl,hand⟩
 rintro _ _ q ⟨rfl,rfl,hp⟩
 rw[i,jq0]
 exact put _ hp
theorem sxor6_spec (hn:n≤8) (R:GOff D w nv gs) (z:gs.length≤600) (hD:∀b,D b→b<w.heap.size) (Z:Sm a) (j:Sm b) (a8:a≠0) (a9:b≠0)
  (Q:∀w' cs,Ext w w'→NetO n D w' (M.xorG n gs a b).1 (M.xorG n gs a b).2 cs→K (.tuple #[.agg ⟨cs⟩,.int .i64 (M.xorG n gs a b).2]) w'):
  vcall PP Q4 #[.agg ⟨[.int .i64 n,nv]⟩,.int .i64 a,.int .i64 b] w K:=by
 apply qf0
 obtain⟨go,gc,a1,_⟩:=R.shape
 rw[a1] at R⊢
 refine zx fun b1 w1 aa H af V=>?_
 refine zF kf fun b2 I ab s ag F=>?_
 have U:=H.trans s
 have E:=V.ext s
 have o:∀K:Value→World→Prop,zf PP zj (.pointer (some ⟨b1,0,none⟩)) I K=K (.agg ⟨[.int .i64 n,.slice go (gs.map yE).length gc]⟩) I:=fun K=>E.ldAgg (t:=zj) yg
 have z1:=H.size;have z2:=s.size
 have same:∀(x:Int),x≠0→(M.xorG n gs a b)=(gs,x)→∀w':World,w'=I→zu PP zj (.pointer (some ⟨b2,0,none⟩)) (.agg ⟨[.int .i64 n,.slice go (gs.map yE).length gc]⟩) w' fun _ L=>vlv PP zj (.pointer (some ⟨b2,0,none⟩)) L fun r6 N=>K (.tuple #[r6,(.int .i64 x)]) N:=fun x hx e w' ew=>by
  subst ew
  rw[e] at Q
  refine net_out F rfl rfl net_one fun C a4=>?_
  have e3:Ext w C:=Ext.then U a4 fun y B=>by subst B;omega
  exact Q C _ e3 (NetO.of (Sl.ext R e3) z hx)
 have a2:GatesR (fun b=> ¬D b∧b<w.heap.size) w (.slice go (gs.map yE).length gc) gs:=Sl.weaken R fun b j z=>⟨j,z⟩
 have absN:∀a:Int,M.absI a=(a.natAbs:Int):=fun a=>by unfold M.absI;split<;>omega
 have na:=absN a
 have nb:=absN b
 unfold Sm at Z j
 refine y5 (fun u w'=>u=[]∧w'=I∧M.xorG n gs a b=((M.putG n gs (M.gateX a b)).1,M.turnI (decide (a<0) != decide (b<0)) (M.putG n gs (M.gateX a b)).2)) ?_ ?_
 ·intro J hJ
  refine y5 (fun u w'=>u=[.bool (decide (a=1∨a= -1))]∧w'=I) ?_ ?_
  ·intro O i
   simp only[push_cast]
   refine zh (fun c=>i _ _ ⟨by rw[decide_eq_true (.inl c)],rfl⟩) (fun c=>?_)
   try simp only[push_cast]
   refine i _ _ ⟨?_,rfl⟩
   rw[decide_eq_decide.2 (show(a=1∨a= -1)↔a= -1 from⟨fun h=>h.elim (fun h=>absurd h c) id,.inr⟩)]
  rintro _ _ C ⟨rfl,rfl⟩
  simp only[push_cast]
  refine zh (fun c=>?_) (fun c=>?_)
  ·rw[o]
   have e:M.xorG n gs a b=(gs,-a*b):=by
    unfold M.xorG
    rcases c with rfl|rfl
    ·rw[if_pos (by decide)];simp[M.turnI]
    ·rw[if_pos (by decide)];simp[M.turnI]
   have hm:(-a*b).natAbs=b.natAbs:=by rcases c with rfl|rfl<;>simp
   have k: -a*b≠0:=by omega
   simp(disch:=omega) only[push_cast,zH,Int.zero_sub]
   exact same (-a*b) k e _ rfl
  refine y5 (fun u w'=>u=[.bool (decide (b=1∨b= -1))]∧w'=C) ?_ ?_
  ·intro O i
   try simp only[push_cast]
   refine zh (fun c=>i _ _ ⟨by rw[decide_eq_true (.inl c)],rfl⟩) (fun c=>?_)
   try simp only[push_cast]
   refine i _ _ ⟨?_,rfl⟩
   rw[decide_eq_decide.2 (show(b=1∨b= -1)↔b= -1 from⟨fun h=>h.elim (fun h=>absurd h c) id,.inr⟩)]
  rintro _ _ w4 ⟨rfl,rfl⟩
  simp only[push_cast]
  have P: ¬M.absI a=1:=by omega
  refine zh (fun d=>?_) (fun d=>?_)
  ·rw[o]
   have e:M.xorG n gs a b=(gs,-b*a):=by
    unfold M.xorG
    rw[if_neg P]
    rcases d with rfl|rfl
    ·rw[if_pos (by decide)];simp[M.turnI]
    ·rw[if_pos (by decide)];simp[M.turnI]
   have hm:(-b*a).natAbs=a.natAbs:=by rcases d with rfl|rfl<;>simp
   have k: -b*a≠0:=by omega
   simp(disch:=omega) only[push_cast,zH,Int.zero_sub]
   exact same (-b*a) k e _ rfl
  have T: ¬M.absI b=1:=by omega
  try simp only[push_cast]
  refine zh (fun f=>?_) (fun f=>?_)
  ·rw[o]
   exact same (-1) (by decide) (by unfold M.xorG;rw[if_neg P,if_neg T,if_pos f]) _ rfl
  try simp(disch:=omega) only[push_cast,zH,Int.zero_sub]
  refine zh (fun f2=>?_) (fun f2=>?_)
  ·rw[o]
   exact same 1 (by decide) (by unfold M.xorG;rw[if_neg P,if_neg T,if_neg f,if_pos f2]) _ rfl
  exact hJ _ _ ⟨rfl,rfl,by unfold M.xorG;rw[if_neg P,if_neg T,if_neg f,if_neg f2]⟩
 rintro _ _ C ⟨rfl,rfl,hx⟩
 rw[hx] at Q
 have ae:=put_abs (g:=M.gateX a b) z hn
 refine y5 (fun u w'=>u=[.int .i64 (if a<0 then-1 else 1)]∧w'=C) ?_ ?_
 ·intro O i
  simp only[push_cast]
  refine zh (fun c=>?_) (fun c=>?_)
  ·simp(disch:=omega) only[push_cast,zH,Int.zero_sub]
   exact i _ _ ⟨by rw[if_pos c],rfl⟩
  ·exact i _ _ ⟨by rw[if_neg c],rfl⟩
 rintro _ _ w4 ⟨rfl,rfl⟩
 refine y5 (fun u w'=>u=[.int .i64 (if(decide (a<0) != decide (b<0)) then-1 else 1)]∧w'=w4) ?_ ?_
 ·intro O i
  simp only[push_cast]
  refine zh (fun c=>?_) (fun c=>?_)
  ·by_cases d:a<0
   ·rw[if_pos d]
    simp(disch:=omega) only[push_cast,zH,Int.zero_sub]
    exact i _ _ ⟨by simp[c,d],rfl⟩
   ·rw[if_neg d]
    simp(disch:=omega) only[push_cast,zH,Int.zero_sub]
    exact i _ _ ⟨by simp[c,d],rfl⟩
  ·refine i _ _ ⟨?_,rfl⟩
   by_cases d:a<0<;>simp[c,d]
 rintro _ _ w5 ⟨rfl,rfl⟩
 refine l4Abs_sm Z (l4Abs_sm j ?_)
 refine y5 (fun u w'=>u=[.int .i64 (M.gateX a b).a,.int .i64 (M.gateX a b).b]∧w'=w5) ?_ ?_
 ·intro O i
  try simp only[push_cast]
  unfold M.gateX at i
  refine zh (fun c=>?_) (fun c=>?_)
  ·rw[if_pos c] at i
   exact l4Abs_sm j (l4Abs_sm Z (i _ _ ⟨rfl,rfl⟩))
  ·rw[if_neg c] at i
   exact i _ _ ⟨rfl,rfl⟩
 rintro _ _ w6 ⟨rfl,rfl⟩
 try simp only[push_cast]
 rw[o,Ya0,show(⟨true,(M.gateX a b).a,(M.gateX a b).b⟩:M.Gt)=M.gateX a b from by unfold M.gateX;split<;>rfl]
 refine sput_spec (D:=fun b=>D b∨b=b2) hn (Sl.weaken (Sl.ext a2 U) fun b j z hd=>hd.elim j.1 fun e=>by have:=j.2;omega) z (fun b j=>j.elim (fun h=>by have:=hD b h;omega) fun h=>by omega) fun w7 n' a6 v a0 a3 a5=>?_
 simp only[push_cast]
 have q:=NetO.put a0 a3 a5 (put_len z)
 generalize [Value.int .i64 (n':Nat),a6]=cs at q⊢
 generalize ad:(M.putG n gs (M.gateX a b)).2=pm at*
 have r:=q.len
 refine zF kf fun b8 w8 ac m ah W=>?_
 have a7:=q.same (Same.of_ext m (S:=fun _=>False)) fun b j=>j.elim
 refine W.stAgg (cs':=cs) (by rw[r];rfl) (by rw[r];exact yg) q.one fun w9 A ai X=>?_
 rw[X.ldAgg (t:=zj) (by rw[r];exact yg)]
 have hmul:(if(decide (a<0) != decide (b<0))=true then(-1:Int) else 1)*pm=M.turnI (decide (a<0) != decide (b<0)) pm:=by
  unfold M.turnI;split<;>omega
 try simp only[push_cast]
 rw[hmul,zH (by have:=UD (c:=decide (a<0) != decide (b<0)) (a:=pm);omega) (by have:=UD (c:=decide (a<0) != decide (b<0)) (a:=pm);omega)]
 have l7:=v.size;have l8:=m.size
 have G:=((F.ext v).ext m).same A (show¬b2=b8 by omega)
 refine net_out G rfl q.len q.one fun w10 p=>?_
 have e9:Ext w w9:=Ext.then ((U.trans v).trans m) A fun y B=>by subst B;omega
 refine Q w10 _ (Ext.then e9 p fun y B=>by subst B;omega) ?_
 have h9:Ext w7 w9:=Ext.then m A fun y B=>by subst B;omega
 have l:=((q.same (Same.of_ext h9 (S:=fun _=>False)) fun b j=>j.elim).same p fun b j=> .inr j).weak (Y:=D) fun b j=> .inl j
 unfold NetO at l⊢
 by_cases k:pm=0
 ·rw[if_pos k] at l;rw[if_pos (M.turn_zero.2 k)];exact l
 ·rw[if_neg k] at l;rw[if_neg (fun h=>k (M.turn_zero.1 h))];exact l
end Go.Proofs.YtaekfnbnhjgboaaGreatDoor
end
section
namespace Go.Proofs.YtaekfnbnhjgboaaGreatDoor
open Go Go.Vc Go.Proofs
variable {w:World} {K:Value→World→Prop} {D F Fx Fy Y S:Nat→Prop} {n b4 b8:Nat} {gs gs':M.Gs} {v nv:Value} {cs cs':List Value} {st st':Option M.Gs} {a b c m x y r:Int}
def MkR (n:Nat) (D:Nat→Prop) (w:World) (cs:List Value) (st:Option M.Gs):Prop:=
 match st with
 |some gs=> ∃o l c,cs=[.int .i64 n,.slice o l c,.bool true]∧GOff D w (.slice o l c) gs∧gs.length≤600
 |none=>cs=[.int .i64 0,.slice none 0 0,.bool false]
theorem MkR.form (h:MkR n D w cs st):∃(x:Int) (o:Option Addr) (l c:Nat) (b:Bool),cs=[.int .i64 x,.slice o l c,.bool b]:=by
 cases st with
 |none=>exact⟨_,_,_,_,_,h⟩
 |some gs=>obtain⟨o,l,c,e,_⟩:=h;exact⟨_,_,_,_,_,e⟩
theorem MkR.len (h:MkR n D w cs st):cs.length=3:=by obtain⟨x,o,l,c,b,rfl⟩:=h.form;rfl
theorem MkR.one (h:MkR n D w cs st):∀u,u∈cs→u.oneCell'=true:=by
 obtain⟨x,o,l,c,b,rfl⟩:=h.form
 intro u hu
 simp only[List.mem_cons,List.not_mem_nil,or_false] at hu
 rcases hu with rfl|rfl|rfl<;>rfl
theorem MkR.swap {w':World} (h:MkR n D w cs st) (hw:Same S w w') (f:∀b,S b→D b) (g:∀b,Y b→b<w.heap.size→D b):MkR n Y w' cs st:=by
 cases st with
 |none=>exact h
 |some gs=>
  obtain⟨o,l,c,e,a,d⟩:=h
  exact⟨o,l,c,e,a.swap hw f g,d⟩
theorem MkR.ext {w':World} (h:MkR n D w cs st) (hw:Ext w w') (a:∀b,Y b→b<w.heap.size→D b):MkR n Y w' cs st:=h.swap hw (fun _ h=>h.elim) a
theorem MkR.same {w':World} (h:MkR n D w cs st) (hw:Same S w w') (a:∀b,S b→D b):MkR n D w' cs st:=h.swap hw a fun _ h _=>h
def Sn (st:Option M.Gs) (x:Int):Prop:=Sm x∧(x=0→st=none)
def SnL (st:Option M.Gs) (xs:List Int):Prop:=∀x,x∈xs→Sn st x
theorem ZL0 {α:Type} {p:M.Bd α} {a:α} (h:M.Bd.Out n p st st' a):st=none→st'=none:=fun e=>by subst e;exact h.1
theorem Sn.out {α:Type} {p:M.Bd α} {a:α} (h:Sn st x) (b:M.Bd.Out n p st st' a):Sn st' x:=⟨h.1,fun e=>ZL0 b (h.2 e)⟩
theorem SnL.out {α:Type} {p:M.Bd α} {a:α} {xs:List Int} (h:SnL st xs) (b:M.Bd.Out n p st st' a):SnL st' xs:=fun x c=>(h x c).out b
theorem Sn.neg (h:Sn st x):Sn st (-x):=⟨by have:=h.1;unfold Sm at*;omega,fun e=>h.2 (by omega)⟩
theorem Sn.nz (h:Sn (some gs) x):x≠0:=fun e=>by have:=h.2 e;cases this
theorem Sn.of (h:Sm x) (a:x≠0):Sn st x:=⟨h,fun e=>absurd e a⟩
theorem SnL.get {xs:List Int} (h:SnL st xs) {i:Nat} (hi:i<xs.length):Sn st (xs.getD i 0):=h _ (M.getD_mem hi 0)
theorem SnL.app {xs ys:List Int} (h:SnL st xs) (a:SnL st ys):SnL st (xs++ys):=fun x b=>(List.mem_append.1 b).elim (h x) (a x)
theorem SnL.one (h:Sn st x):SnL st [x]:=fun y a=>by rw[List.mem_singleton.1 a];exact h
theorem SnL.nil:SnL st []:=fun x a=>by cases a
theorem SnL.sm {xs:List Int} (h:SnL st xs):SmL xs:=fun x a=>(h x a).1
theorem SnL.fill (m:Nat):SnL st (M.offsL m):=fun x a=>by rw[List.eq_of_mem_replicate a];exact Sn.of (by decide) (by decide)
theorem SnL.neg {xs:List Int} (h:SnL st xs):SnL st (M.negL xs):=fun x a=>by
 obtain⟨y,b,rfl⟩:=List.mem_map.1 a;exact(h y b).neg
theorem Xa0 {x:Int} {o:Option Addr} {l c:Nat} {b:Bool}:zT PP zc [(0,.agg ⟨[.int .i64 x,.slice o l c]⟩),(1,.bool b)] w K=K (.agg ⟨[.int .i64 x,.slice o l c,.bool b]⟩) w:=yw qX0 (us:=[[.int .i64 x,.slice o l c],[.bool b]]) rfl rfl
theorem UO {b4:Nat} (a:Blk w b4 cs zc) (h:cs.length=3):zf PP zc (.pointer (some ⟨b4,0,none⟩)) w K=K (.agg ⟨cs⟩) w:=a.ldAgg (t:=zc) (by rw[h];exact ku)
theorem mk_put {b4:Nat} {a:List Value} (c:Blk w b4 a zc) (f:a.length=3) (e:cs.length=3) (b:∀u,u∈cs→u.oneCell'=true) (d:∀w',Same (· =b4) w w'→w'.heap.size=w.heap.size→Blk w' b4 cs zc→K undef w'):zu PP zc (.pointer (some ⟨b4,0,none⟩)) (.agg ⟨cs⟩) w K:=
 c.stAgg (cs':=cs) (by omega) (by rw[e];exact ku) b d
theorem WN {b8:Nat} {a:List Value} (g:Blk w b8 a zc) (e:a.length=3) (d:cs.length=3) (f:∀u,u∈cs→u.oneCell'=true) (h:∀w',Same (· =b8) w w'→K (.agg ⟨cs⟩) w'):
  zu PP zc (.pointer (some ⟨b8,0,none⟩)) (.agg ⟨cs⟩) w fun _ c=>vlv PP zc (.pointer (some ⟨b8,0,none⟩)) c K:=
 mk_put g e d f fun c hs i b=>by
  rw[b.lv (t:=zc) (by rw[d];exact ku)]
  exact h c hs
theorem sand7_spec (hn:n≤8) (X:MkR n D w cs st) (hD:∀b,D b→b<w.heap.size) (hx:Sn st x) (H:Sn st y)
  (T:∀w' cs' st' r,Ext w w'→MkR n D w' cs' st'→Sn st' r→M.Bd.Out n (.and x y .ret) st st' r→K (.tuple #[.agg ⟨cs'⟩,.int .i64 r]) w'):
  vcall PP xD #[.agg ⟨cs⟩,.int .i64 x,.int .i64 y] w K:=by
 apply qd0
 refine zx fun b3 w1 a2 E a6 P=>?_
 refine zF xX fun b6 w2 a3 p a7 z=>?_
 have N:=E.trans p
 have d:=P.ext p
 have z1:=E.size;have z2:=p.size
 cases st with
 |none=>
  have U:cs=[.int .i64 0,.slice none 0 0,.bool false]:=X
  subst U
  simp(disch:=first|(simp only[push_cast];done)|omega) only[push_cast,d.ld2,Bool.not_false,UO d rfl]
  refine WN z rfl rfl X.one fun w3 a0=>?_
  exact T w3 _ none 1 (Ext.then N a0 fun b e=>by omega) rfl (Sn.of (by decide) (by decide)) ⟨rfl,1,rfl⟩
 |some gs=>
  obtain⟨o,l,c,rfl,hg,I⟩:=X
  have G:zf PP zj (.pointer (some ⟨b3,0,none⟩)) w2=fun K=>K (.agg ⟨[.int .i64 n,.slice o l c]⟩) w2:=by
   funext K;exact Blk.ldTake (us:=[.int .i64 n,.slice o l c]) (r:=[.bool true]) d yg
  simp(disch:=first|(simp only[push_cast];done)|omega) only[push_cast,d.ld2,Bool.not_true,xp,Nat.add_zero,G]
  have V:GOff (fun b=>D b∨b=b3∨b=b6) w2 (.slice o l c) gs:=hg.swap N (fun _ h=>h.elim) fun b e I=>e.elim id fun h=>by omega
  refine sand6_spec hn V I (fun b e=>e.elim (fun h=>by have:=hD b h;omega) fun h=>by omega) hx.1 H.1 hx.nz H.nz fun w3 J q j=>?_
  have hlen:gs.length≤600:=I
  have C:=kU0 (gs:=gs) (n:=n) I hn hx.1 H.1
  have f:(M.Bd.and x y .ret:M.Bd Int).run n gs=if(M.andG n gs x y).2=0 then none else some ((M.andG n gs x y).1,(M.andG n gs x y).2):=rfl
  generalize a5:(M.andG n gs x y).1=v at*
  generalize (M.andG n gs x y).2=m at*
  simp only[push_cast]
  have k:=j.len
  refine zF kf fun b8 w8 a4 F a8 Q=>?_
  refine Q.stAgg (cs':=J) (by rw[k];rfl) (by rw[k];exact yg) j.one fun w9 a1 a9 R=>?_
  have z3:=q.size;have z8:=F.size
  have O:Ext w3 w9:=Ext.then F a1 fun y H=>by subst H;omega
  have B:=j.same (Same.of_ext O (S:=fun _=>False)) fun b e=>e.elim
  rw[R.ldAgg (t:=zj) (by rw[k];exact yg)]
  obtain⟨x3,o3,l3,c3,rfl⟩:=B.form
  simp only[push_cast,Xa0]
  have A:=(z.ext (q.trans O))
  refine WN A rfl rfl (fun u hu=>by simp only[List.mem_cons,List.not_mem_nil,or_false] at hu;rcases hu with rfl|rfl|rfl<;>rfl) fun w10 g=>?_
  have s:Ext w w10:=Ext.then (N.trans (q.trans O)) g fun b e=>by omega
  have a:=(B.same g fun b e=> .inr (.inr e)).weak (Y:=D) fun b e=> .inl e
  by_cases hm:m=0
  ·subst hm
   unfold NetO at a
   rw[if_pos rfl] at a
   simp only[List.cons.injEq,and_true] at a
   obtain⟨L,i⟩:=a
   rw[L,i]
   refine T w10 _ none 0 s rfl ⟨by decide,fun _=>rfl⟩ (.inr ⟨by rw[f,if_pos rfl],rfl,0,rfl⟩)
  ·unfold NetO at a
   rw[if_neg hm] at a
   obtain⟨o4,l4,c4,e4,W,Z⟩:=a
   simp only[List.cons.injEq,and_true] at e4
   obtain⟨L,i⟩:=e4
   rw[L,i,decide_eq_true hm]
   refine T w10 _ (some v) m s ⟨o4,l4,c4,rfl,W,Z⟩ (Sn.of C hm) (.inl ⟨v,by rw[f,if_neg hm],rfl⟩)
theorem sxor7_spec (hn:n≤8) (X:MkR n D w cs st) (hD:∀b,D b→b<w.heap.size) (hx:Sn st x) (H:Sn st y)
  (T:∀w' cs' st' r,Ext w w'→MkR n D w' cs' st'→Sn st' r→M.Bd.Out n (.xor x y .ret) st st' r→K (.tuple #[.agg ⟨cs'⟩,.int .i64 r]) w'):
  vcall PP qC #[.agg ⟨cs⟩,.int .i64 x,.int .i64 y] w K:=by
 apply q60
 refine zx fun b3 w1 a2 E a6 P=>?_
 refine zF xX fun b6 w2 a3 p a7 z=>?_
 have N:=E.trans p
 have d:=P.ext p
 have z1:=E.size;have z2:=p.size
 cases st with
 |none=>
  have U:cs=[.int .i64 0,.slice none 0 0,.bool false]:=X
  subst U
  simp(disch:=first|(simp only[push_cast];done)|omega) only[push_cast,d.ld2,Bool.not_false,UO d rfl]
  refine WN z rfl rfl X.one fun w3 a0=>?_
  exact T w3 _ none 1 (Ext.then N a0 fun b e=>by omega) rfl (Sn.of (by decide) (by decide)) ⟨rfl,1,rfl⟩
 |some gs=>
  obtain⟨o,l,c,rfl,hg,I⟩:=X
  have G:zf PP zj (.pointer (some ⟨b3,0,none⟩)) w2=fun K=>K (.agg ⟨[.int .i64 n,.slice o l c]⟩) w2:=by
   funext K;exact Blk.ldTake (us:=[.int .i64 n,.slice o l c]) (r:=[.bool true]) d yg
  simp(disch:=first|(simp only[push_cast];done)|omega) only[push_cast,d.ld2,Bool.not_true,xp,Nat.add_zero,G]
  have V:GOff (fun b=>D b∨b=b3∨b=b6) w2 (.slice o l c) gs:=hg.swap N (fun _ h=>h.elim) fun b e I=>e.elim id fun h=>by omega
  refine sxor6_spec hn V I (fun b e=>e.elim (fun h=>by have:=hD b h;omega) fun h=>by omega) hx.1 H.1 hx.nz H.nz fun w3 J q j=>?_
  have hlen:gs.length≤600:=I
  have C:=jY0 (gs:=gs) (n:=n) I hn hx.1 H.1
  have f:(M.Bd.xor x y .ret:M.Bd Int).run n gs=if(M.xorG n gs x y).2=0 then none else some ((M.xorG n gs x y).1,(M.xorG n gs x y).2):=rfl
  generalize a5:(M.xorG n gs x y).1=v at*
  generalize (M.xorG n gs x y).2=m at*
  simp only[push_cast]
  have k:=j.len
  refine zF kf fun b8 w8 a4 F a8 Q=>?_
  refine Q.stAgg (cs':=J) (by rw[k];rfl) (by rw[k];exact yg) j.one fun w9 a1 a9 R=>?_
  have z3:=q.size;have z8:=F.size
  have O:Ext w3 w9:=Ext.then F a1 fun y H=>by subst H;omega
  have B:=j.same (Same.of_ext O (S:=fun _=>False)) fun b e=>e.elim
  rw[R.ldAgg (t:=zj) (by rw[k];exact yg)]
  obtain⟨x3,o3,l3,c3,rfl⟩:=B.form
  simp only[push_cast,Xa0]
  have A:=(z.ext (q.trans O))
  refine WN A rfl rfl (fun u hu=>by simp only[List.mem_cons,List.not_mem_nil,or_false] at hu;rcases hu with rfl|rfl|rfl<;>rfl) fun w10 g=>?_
  have s:Ext w w10:=Ext.then (N.trans (q.trans O)) g fun b e=>by omega
  have a:=(B.same g fun b e=> .inr (.inr e)).weak (Y:=D) fun b e=> .inl e
  by_cases hm:m=0
  ·subst hm
   unfold NetO at a
   rw[if_pos rfl] at a
   simp only[List.cons.injEq,and_true] at a
   obtain⟨L,i⟩:=a
   rw[L,i]
   refine T w10 _ none 0 s rfl ⟨by decide,fun _=>rfl⟩ (.inr ⟨by rw[f,if_pos rfl],rfl,0,rfl⟩)
  ·unfold NetO at a
   rw[if_neg hm] at a
   obtain⟨o4,l4,c4,e4,W,Z⟩:=a
   simp only[List.cons.injEq,and_true] at e4
   obtain⟨L,i⟩:=e4
   rw[L,i,decide_eq_true hm]
   refine T w10 _ (some v) m s ⟨o4,l4,c4,rfl,W,Z⟩ (Sn.of C hm) (.inl ⟨v,by rw[f,if_neg hm],rfl⟩)
theorem sor7_spec (O:n≤8) (s:MkR n D w cs st) (hD:∀b,D b→b<w.heap.size) (F:Sn st x) (G:Sn st y)
  (J:∀w' cs' st' r,Ext w w'→MkR n D w' cs' st'→Sn st' r→M.Bd.Out n (M.orB x y) st st' r→K (.tuple #[.agg ⟨cs'⟩,.int .i64 r]) w'):
  vcall PP km #[.agg ⟨cs⟩,.int .i64 x,.int .i64 y] w K:=by
 apply qT0
 refine zx fun b3 U L j P o=>?_
 refine zF xX fun C S N e Q p=>?_
 have E:=j.trans e
 have d:=o.ext e
 have X:=j.size;have z2:=e.size
 have z:=F.1;have A:=G.1
 unfold Sm at z A
 simp(disch:=omega) only[push_cast,UO d s.len,zH,Int.zero_sub]
 have t:MkR n (fun b=>D b∨b=b3∨b=C) S cs st:=s.ext E fun b c T=>c.elim id fun h=>by omega
 refine sand7_spec O t (fun b c=>c.elim (fun h=>by have:=hD b h;omega) fun h=>by omega) F.neg G.neg fun V m B r f a k u=>?_
 have v:=k.1
 unfold Sm at v
 simp only[push_cast]
 refine mk_put (d.ext f) s.len a.len a.one fun W g R q=>?_
 have i:=(p.ext f).same g (show¬C=b3 by omega)
 simp(disch:=omega) only[push_cast,UO q a.len,zH,Int.zero_sub]
 refine WN i rfl a.len a.one fun H l=>?_
 have I:Ext w H:=Ext.then (Ext.then (E.trans f) g fun b c=>by omega) l fun b c=>by omega
 exact J H m B (-r) I ((a.same g fun b c=> .inr (.inl c)).swap l (fun b c=> .inr (.inr c)) fun b c _=> .inl c) k.neg (qd u (M.Bd.Out.ret _ _))
theorem sone7_spec (R:n≤8) (N:MkR n D w cs st) (hD:∀b,D b→b<w.heap.size) (J:Sn st c) (hx:Sn st x) (hy:Sn st y)
  (hK:∀w' cs' st' r,Ext w w'→MkR n D w' cs' st'→Sn st' r→M.Bd.Out n (M.muxB c x y) st st' r→K (.tuple #[.agg ⟨cs'⟩,.int .i64 r]) w'):
  vcall PP kJ #[.agg ⟨cs⟩,.int .i64 c,.int .i64 x,.int .i64 y] w K:=by
 apply q70
 refine zx fun b3 w1 a2 z a4 G=>?_
 refine zF xX fun E Y a3 k a5 H=>?_
 have X:=z.trans k
 have i:=G.ext k
 have z1:=z.size;have z2:=k.size
 have L:=J.1
 unfold Sm at L
 rw[UO i N.len]
 have O:MkR n (fun b=>D b∨b=b3∨b=E) Y cs st:=N.ext X fun b a hl=>a.elim id fun h=>by omega
 have j:∀b,(D b∨b=b3∨b=E)→b<Y.heap.size:=fun b a=>a.elim (fun h=>by have:=hD b h;omega) fun h=>by omega
 refine sand7_spec R O j J hx fun w3 a0 a8 p e d T m=>?_
 simp only[push_cast]
 refine mk_put (i.ext e) N.len d.len d.one fun w4 o a6 v=>?_
 have z3:=e.size
 have t:=(H.ext e).same o (show¬E=b3 by omega)
 have P:=d.same o fun b a=> .inr (.inl a)
 simp(disch:=omega) only[push_cast,UO v d.len,zH,Int.zero_sub]
 refine sand7_spec R P (fun b a=>by have:=j b a;omega) (J.out m).neg (hy.out m) fun w5 a1 a9 q f g U B=>?_
 simp only[push_cast]
 refine mk_put (v.ext f) d.len g.len g.one fun w6 s a7 I=>?_
 have z5:=f.size
 have u:=(t.ext f).same s (show¬E=b3 by omega)
 have Q:=g.same s fun b a=> .inr (.inl a)
 rw[UO I g.len]
 refine sor7_spec R Q (fun b a=>by have:=j b a;omega) (T.out B) U fun w7 F W r A l V S=>?_
 simp only[push_cast]
 refine WN (u.ext A) rfl l.len l.one fun Z C=>?_
 have e6:Ext w w6:=Ext.then ((Ext.then (X.trans e) o fun b a=>by omega).trans f) s fun b a=>by omega
 have e8:Ext w Z:=Ext.then (e6.trans A) C fun b a=>by omega
 exact hK Z F W r e8 (l.swap C (fun b a=> .inr (.inr a)) fun b a _=> .inl a) V (qd m (qd B S))
end Go.Proofs.YtaekfnbnhjgboaaGreatDoor
end
section
namespace Go.Proofs.YtaekfnbnhjgboaaGreatDoor
open Go Go.Vc Go.Proofs
variable {w:World} {K:Value→World→Prop} {D F Fx Fy Y S O:Nat→Prop} {n b4 b8:Nat} {gs gs':M.Gs} {v nv xv yv:Value} {cs cs':List Value} {st st':Option M.Gs} {a b c m x y r:Int} {xs ys:List Int}
abbrev Xp0 (D O:Nat→Prop) (b4 b8:Nat):Nat→Prop:=fun b=>D b∨b=b4∨b=b8∨O b
structure Fm (n:Nat) (D O:Nat→Prop) (w0:World) (b4 b8:Nat) (w:World) (st:Option M.Gs):Prop where
 ext:Ext w0 w
 k:∃cs,Blk w b4 cs zc∧MkR n (Xp0 D O b4 b8) w cs st
 r:∃cs,Blk w b8 cs zc∧cs.length=3
 lo:w0.heap.size≤b4∧w0.heap.size≤b8∧b4≠b8
 off:∀b,O b→b<w.heap.size∧w0.heap.size≤b∧b≠b4∧b≠b8
 dlt:∀b,D b→b<w0.heap.size
theorem Fm.start (m:MkR n D w cs st) (hD:∀b,D b→b<w.heap.size) {K:Value→Value→World→Prop} (i:∀b4 b8 w',Fm n D (fun _=>False) w b4 b8 w' st→K (.pointer (some ⟨b4,0,none⟩)) (.pointer (some ⟨b8,0,none⟩)) w'):
  yH PP zc (.agg ⟨cs⟩) w fun t g=>zZ PP zc g fun t8 f=>K t t8 f:=by
 refine zx fun b4 g k c o d=>?_
 refine zF xX fun b8 f l a p e=>?_
 refine i b4 b8 f ⟨c.trans a,⟨cs,d.ext a,m.ext (c.trans a) fun b j q=>j.elim id fun h=>?_⟩,⟨_,e,rfl⟩,by omega,fun b h=>h.elim,hD⟩
 rcases h with h|h|h
 ·omega
 ·omega
 ·exact h.elim
section
variable {w0 w':World}
theorem Fm.lt4 (h:Fm n D O w0 b4 b8 w st):b4<w.heap.size∧b8<w.heap.size:=by
 obtain⟨_,a,_⟩:=h.k;obtain⟨_,b,_⟩:=h.r;exact⟨a.lt,b.lt⟩
theorem Fm.dl (h:Fm n D O w0 b4 b8 w st):∀b,Xp0 D O b4 b8 b→b<w.heap.size:=fun b c=>by
 have l:=h.lt4;have s:=h.ext.size
 rcases c with a|a|a|a
 ·have:=h.dlt b a;omega
 ·omega
 ·omega
 ·exact(h.off b a).1
theorem Fm.grow (h:Fm n D O w0 b4 b8 w st) (he:Ext w w'):Fm n D O w0 b4 b8 w' st:=by
 obtain⟨cs,c,d⟩:=h.k;obtain⟨a,e,f⟩:=h.r
 exact⟨h.ext.trans he,⟨cs,c.ext he,d.ext he fun _ h _=>h⟩,⟨a,e.ext he,f⟩,h.lo,fun b i=>by have g:=h.off b i;have:=he.size;exact⟨by omega,g.2⟩,h.dlt⟩
theorem Fm.call (h:Fm n D O w0 b4 b8 w st):∃cs,MkR n (Xp0 D O b4 b8) w cs st∧∀w',Ext w w'→∀K:Value→World→Prop,zf PP zc (.pointer (some ⟨b4,0,none⟩)) w' K=K (.agg ⟨cs⟩) w':=by
 obtain⟨cs,b,a⟩:=h.k
 exact⟨cs,a,fun w' he K=>UO (b.ext he) a.len⟩
theorem Fm.put (h:Fm n D O w0 b4 b8 w st) (he:Ext w w') (c:MkR n (Xp0 D O b4 b8) w' cs' st') (o:∀w'',Fm n D O w0 b4 b8 w'' st'→Same (· =b4) w' w''→w''.heap.size=w'.heap.size→K undef w''):
  zu PP zc (.pointer (some ⟨b4,0,none⟩)) (.agg ⟨cs'⟩) w' K:=by
 obtain⟨cs,f,g⟩:=h.k;obtain⟨d,i,j⟩:=h.r
 refine mk_put (f.ext he) g.len c.len c.one fun w'' hs p m=>o w'' ⟨Ext.then (h.ext.trans he) hs fun b a=>by have:=h.lo;omega,⟨cs',m,c.same hs fun b a=> .inr (.inl a)⟩,⟨d,(i.ext he).same hs fun e=>h.lo.2.2 e.symm,j⟩,h.lo,fun b a=>?_,h.dlt⟩ hs p
 have l:=h.off b a;have:=he.size;exact⟨by omega,l.2⟩
theorem Fm.own {O':Nat→Prop} (h:Fm n D O w0 b4 b8 w st) (hw:Same S w w') (e:∀b,S b→O b) (g:∀b,O' b→b<w'.heap.size∧(O b∨w.heap.size≤b)):Fm n D O' w0 b4 b8 w' st:=by
 obtain⟨cs,a,j⟩:=h.k;obtain⟨i,m,o⟩:=h.r
 have l:=h.lt4;have s:=h.ext.size
 refine⟨Ext.then h.ext hw fun b c=>(h.off b (e b c)).2.1,⟨cs,a.same hw fun hs=>(h.off _ (e _ hs)).2.2.1 rfl,j.swap hw (fun b c=> .inr (.inr (.inr (e b c)))) fun b c p=>?_⟩,⟨i,m.same hw fun hs=>(h.off _ (e _ hs)).2.2.2 rfl,o⟩,h.lo,fun b c=>?_,h.dlt⟩
 ·rcases c with a|a|a|a
  ·exact .inl a
  ·exact .inr (.inl a)
  ·exact .inr (.inr (.inl a))
  ·exact(g b a).2.elim (fun h=> .inr (.inr (.inr h))) fun h=>by omega
 ·obtain⟨f,d⟩:=g b c
  rcases d with d|d
  ·have:=h.off b d;exact⟨f,this.2⟩
  ·exact⟨f,by omega,by omega,by omega⟩
theorem Fm.fin (h:Fm n D O w0 b4 b8 w st) (g:∀w' cs,Ext w0 w'→MkR n D w' cs st→Same (· =b8) w w'→K (.agg ⟨cs⟩) w'):
  zf PP zc (.pointer (some ⟨b4,0,none⟩)) w fun t i=>zu PP zc (.pointer (some ⟨b8,0,none⟩)) t i fun _ j=>vlv PP zc (.pointer (some ⟨b8,0,none⟩)) j K:=by
 obtain⟨cs,d,a⟩:=h.k;obtain⟨l,e,f⟩:=h.r
 rw[UO d a.len]
 exact WN e f a.len a.one fun w' hs=>g w' cs (Ext.then h.ext hs fun b c=>by have:=h.lo;omega) (a.swap hs (fun b c=> .inr (.inr (.inl c))) fun b c _=> .inl c) hs
theorem Fm.out (h:Fm n D O w0 b4 b8 w st) (he:Ext w w') (c:MkR n (Xp0 D O b4 b8) w' cs' st') (f:∀w'',Ext w0 w''→MkR n D w'' cs' st'→Same (· =b8) w' w''→K (.agg ⟨cs'⟩) w''):
  zu PP zc (.pointer (some ⟨b8,0,none⟩)) (.agg ⟨cs'⟩) w' fun _ g=>vlv PP zc (.pointer (some ⟨b8,0,none⟩)) g K:=by
 obtain⟨i,d,e⟩:=h.r
 exact WN (d.ext he) e c.len c.one fun w'' hs=>f w'' (Ext.then (h.ext.trans he) hs fun b a=>by have:=h.lo;omega) (c.swap hs (fun b a=> .inr (.inr (.inl a))) fun b a _=> .inl a) hs
end
abbrev O1 (v:Value):Nat→Prop:=fun b=>v.ownBlock=some b
abbrev Low (w:World):Nat→Prop:=fun b=>b<w.heap.size
theorem Ints.under (h:Ints Fx w xv xs):Ints (Low w) w xv xs:=Ints.weaken h fun _ _ a=>a
theorem Ints.ext0 {w0 w:World} (h:Ints (Low w0) w0 xv xs) (he:Ext w0 w):Ints (Low w0) w xv xs:=Ints.ext h he
theorem Fm.app {w0:World} {zs:List Int} {x:Int} {ty:Nat} (h:Fm n D (O1 v) w0 b4 b8 w st) (l:OwnI PP zg w v zs) (r:zs.length≤1000000)
  (j:∀v' w',Fm n D (O1 v') w0 b4 b8 w' st→OwnI PP zg w' v' (zs++[x])→Ext w0 w'→K v' w'):
  vbuildS PP zg 1 [(0,.int .i64 x)] w fun t o=>vbi PP .append [zg,zg] ty [v,t] o K:=by
 refine yj YG jx XN rfl rfl fun q s k a m e=>?_
 refine(l.ext a).app1 Y6 e (by omega) (by omega) fun v6 p c g f=>?_
 have i:=(h.grow a).own (O':=O1 v6) g (fun b d=>d) fun b d=>⟨c.lt d,f b d⟩
 exact j v6 p i c i.ext
theorem Fm.nil {w0:World} (h:Fm n D (fun _=>False) w0 b4 b8 w st) (j:∀v' w',Fm n D (O1 v') w0 b4 b8 w' st→OwnI PP zg w' v' []→Ext w0 w'→K v' w'):vbuildS PP zg 0 [] w K:=by
 refine qg YG jx fun a i k f m c=>?_
 have l:OwnI PP zg i (.slice (some ⟨a,0,none⟩) 0 0) []:=Blk.own1 (P:=PP) (t:=zg) (cs:=[]) (by rw[Wo];exact c) (Nat.zero_le _) rfl rfl (by omega)
 have g:=h.own (O':=O1 (.slice (some ⟨a,0,none⟩) 0 0)) (S:=fun _=>False) f (fun b d=>d) fun b d=>by
  have e:a=b:=Option.some.inj d
  exact⟨by omega,.inr (by omega)⟩
 exact j _ i g l g.ext
theorem sadd7_spec (hn:n≤8) (hk:MkR n D w cs st) (hD:∀b,D b→b<w.heap.size) (O:Ints Fx w xv xs) (hy:Ints Fy w yv ys) (hl:xs.length≤ys.length) (h8:xs.length≤1000) (b0:SnL st xs) (b1:SnL st ys) (hc:Sn st c)
  (hK:∀w' cs' st' r zs,Ext w w'→MkR n D w' cs' st'→OwnI PP zg w' r zs→(∀b,r.ownBlock=some b→w.heap.size≤b)→SnL st' zs→M.Bd.Out n (M.sumB xs ys c) st st' zs→K (.tuple #[.agg ⟨cs'⟩,r]) w'):
  vcall PP qD #[.agg ⟨cs⟩,xv,yv,.int .i64 c] w K:=by
 apply qe0
 refine Fm.start hk hD fun b4 b8 w1 h1=>?_
 refine h1.nil fun v2 w2 h2 av e2=>?_
 have P:=Ints.under O;have af:=Ints.under hy
 refine vloop_up xs.length (fun i u w'=> ∃k r zs c1,u=[.int .i64 c1,r,.int .i64 i]∧Fm n D (O1 r) w b4 b8 w' k∧OwnI PP zg w' r zs∧zs.length=i∧SnL k zs∧SnL k xs∧SnL k ys∧Sn k c1∧
  ∀st2 rs,M.Bd.Out n (M.sumB (xs.drop i) (ys.drop i) c1) k st2 rs→M.Bd.Out n (M.sumB xs ys c) st st2 (zs++rs)) ⟨st,_,[],c,rfl,h2,av,rfl,SnL.nil,b0,b1,hc,fun _ _ h=>h⟩ ?_
 rintro i _ g w3 C hi ⟨aj,r3,zs,c3,rfl,Q,a9,b2,ai,A,E,U,z⟩ hC
 have az:=Ints.ext0 P Q.ext
 simp(disch:=first|(simp only[push_cast];done)|omega) only[push_cast,az.len]
 refine zh (fun bo=>?_) (fun bn=>?_)
 ·have m:i<xs.length:=by omega
  refine zw fun w4 V _=>?_
  have R:=Q.grow V
  have ad:=Ints.ext0 P R.ext
  have ag:=Ints.ext0 af R.ext
  obtain⟨c4,J,a4⟩:=R.call
  simp(disch:=first|(simp only[push_cast];done)|omega) only[push_cast,ad.iaddr,ad.load,ag.iaddr,ag.load,true_and,a4 w4 (Same.refl _ _)]
  refine sxor7_spec hn J R.dl (A.get m) (E.get (by omega)) fun w5 bk br d W ap hd f=>?_
  simp only[push_cast,true_and]
  refine R.put W ap fun w6 h6 ax bp=>?_
  obtain⟨c6,aq,a5⟩:=h6.call
  simp only[push_cast,true_and,and_self,a5 w6 (Same.refl _ _)]
  refine sxor7_spec hn aq h6.dl hd (U.out f) fun w7 bl b5 s X ar hs j=>?_
  simp only[push_cast,true_and]
  refine h6.put X ar fun w8 an ay bq=>?_
  refine zw fun w9 Y _=>?_
  have S:=an.grow Y
  have ae:=Ints.ext0 P S.ext
  have ah:=Ints.ext0 af S.ext
  obtain⟨c9,au,a6⟩:=S.call
  simp(disch:=first|(simp only[push_cast];done)|omega) only[push_cast,ae.iaddr,ae.load,ah.iaddr,ah.load,true_and,a6 w9 (Same.refl _ _)]
  have B:=(A.out f).out j
  have F:=(E.out f).out j
  refine sand7_spec hn au S.dl (B.get m) (F.get (by omega)) fun w10 ba bg p o Z hp a=>?_
  simp only[push_cast,true_and]
  refine S.put o Z fun b6 H aa bd=>?_
  obtain⟨bi,a0,L⟩:=H.call
  simp only[push_cast,true_and,and_self,L b6 (Same.refl _ _)]
  refine sand7_spec hn a0 H.dl ((hd.out j).out a) (((U.out f).out j).out a) fun bs bb bh q t a1 hq l=>?_
  simp only[push_cast,true_and]
  refine H.put t a1 fun b7 I ab be=>?_
  obtain⟨bj,a2,N⟩:=I.call
  simp only[push_cast,true_and,and_self,N b7 (Same.refl _ _)]
  refine sor7_spec hn a2 I.dl (hp.out l) hq fun bt bc G c2 v a3 ao y=>?_
  simp only[push_cast,true_and]
  refine I.put v a3 fun b9 al ac bf=>?_
  have a7:OwnI PP zg b9 r3 zs:=by
   have off:∀b,r3.ownBlock=some b→¬b=b4:=fun b T=>(Q.off b T).2.2.1
   exact((((((((((a9.ext V).ext W).same ax off).ext X).same ay off).ext Y).ext o).same aa off).ext t).same ab off|>.ext v).same ac off
  refine al.app a7 (by omega) fun b3 bu am a8 bm=>?_
  simp(disch:=omega) only[push_cast,zH]
  have up:∀{x},Sn b5 x→Sn G x:=fun h=>((h.out a).out l).out y
  refine hC m _ _ ⟨G,b3,zs++[s],c2,by simp<;>exact⟨rfl,rfl⟩,am,a8,by simp[b2],SnL.app (fun x O=>up (((ai x O).out f).out j)) (SnL.one (up hs)),fun x O=>up (B x O),fun x O=>up (F x O),ao,fun st2 rs ho=>?_⟩
  have:=z st2 (s::rs) ?_
  ·simpa using this
  rw[xz m,xz (show i<ys.length by omega)]
  exact Y1 f (Y1 j (qd a (qd l (M.Bd.Out.bind y (M.Bd.Out.map _ ho)))))
 ·have:=z aj [] (by rw[kc0 (by omega)];exact M.Bd.Out.ret _ _)
  rw[List.append_nil] at this
  refine Q.fin fun w4 ak e4 J aw=>?_
  exact hK w4 ak aj r3 zs e4 J (a9.same aw fun b T e=>(Q.off b T).2.2.2 e) (fun b T=>(Q.off b T).2.1) ai this
end Go.Proofs.YtaekfnbnhjgboaaGreatDoor
end
section
namespace Go.Proofs.YtaekfnbnhjgboaaGreatDoor
open Go Go.Vc Go.Proofs
variable {w:World} {K:Value→World→Prop} {D F Fx Fy Y S O:Nat→Prop} {n b4 b8:Nat} {gs gs':M.Gs} {v nv xv yv:Value} {cs cs':List Value} {st st':Option M.Gs} {a b c m x y r:Int} {xs ys:List Int}
theorem spec_nil (f:∀v' w',OwnI PP zg w' v' []→Ext w w'→(∀b,v'.ownBlock=some b→w.heap.size≤b)→K v' w'):vbuildS PP zg 0 [] w K:=by
 refine qg YG jx fun d j h c i a=>?_
 exact f _ j (Blk.own1 (P:=PP) (t:=zg) (cs:=[]) (by rw[Wo];exact a) (Nat.zero_le _) rfl rfl (by omega)) c fun b g=>by have e:d=b:=Option.some.inj g;omega
theorem spec_app {w0:World} {zs:List Int} {x:Int} {ty:Nat} (he:Ext w0 w) (l:OwnI PP zg w v zs) (i:∀b,v.ownBlock=some b→w0.heap.size≤b) (q:zs.length≤1000000)
  (j:∀v' w',OwnI PP zg w' v' (zs++[x])→Ext w0 w'→(∀b,v'.ownBlock=some b→w0.heap.size≤b)→K v' w'):
  vbuildS PP zg 1 [(0,.int .i64 x)] w fun t n=>vbi PP .append [zg,zg] ty [v,t] n K:=by
 refine yj YG jx XN rfl rfl fun p r k a m c=>?_
 refine(l.ext a).app1 Y6 c (by omega) (by omega) fun v6 o f g e=>?_
 have s:=he.size
 exact j v6 o f (Ext.then (he.trans a) g fun b d=>i b d) fun b d=>(e b d).elim (i b) fun h=>by omega
theorem sturn7_spec (t:Ints Fx w xv xs) (x:xs.length≤100000) (n:SmL xs) (s:∀w' r,Ext w w'→OwnI PP zg w' r (M.negL xs)→(∀b,r.ownBlock=some b→w.heap.size≤b)→K r w'):vcall PP qh #[xv] w K:=by
 apply xa0
 refine spec_nil fun v1 y m o k=>?_
 refine vloop_up xs.length (fun i u w'=> ∃r,u=[r,.int .i64 i]∧Ext w w'∧OwnI PP zg w' r (M.negL (xs.take i))∧∀b,r.ownBlock=some b→w.heap.size≤b) ⟨_,rfl,o,m,k⟩ ?_
 rintro i _ g v C hi ⟨r,rfl,j,d,f⟩ q
 have e:=Ints.ext t j
 simp(disch:=first|(simp only[push_cast];done)|omega) only[push_cast,e.len]
 refine zh (fun a=>?_) (fun a=>?_)
 ·have c:i<xs.length:=by omega
  have hs:=n.get c
  unfold Sm at hs
  simp(disch:=first|(simp only[push_cast];done)|omega) only[push_cast,e.iaddr,e.load,zH,Int.zero_sub]
  refine spec_app j d f (by rw[M.negL_len,List.length_take];omega) fun v3 z h p l=>?_
  try simp(disch:=omega) only[push_cast,zH]
  refine q c _ _ ⟨v3,by simp,p,?_,l⟩
  rw[M.take_add c 0];unfold M.negL at h⊢;rw[List.map_append];exact h
 ·have c:i=xs.length:=by omega
  subst c
  rw[List.take_length] at d
  exact s v r j d f
theorem sfill7_spec {m:Nat} {x:Int} (t:m≤100000) (q:∀w' r,Ext w w'→OwnI PP zg w' r (List.replicate m x)→(∀b,r.ownBlock=some b→w.heap.size≤b)→K r w'):vcall PP qi #[.int .i64 x,.int .i64 m] w K:=by
 apply xe0
 refine spec_nil fun v1 v j n f=>?_
 refine vloop_up m (fun i u w'=> ∃r,u=[r,.int .i64 i]∧Ext w w'∧OwnI PP zg w' r (List.replicate i x)∧∀b,r.ownBlock=some b→w.heap.size≤b) ⟨_,rfl,n,j,f⟩ ?_
 rintro i _ g s C hi ⟨r,rfl,l,e,d⟩ p
 simp only[push_cast]
 refine zh (fun a=>?_) (fun a=>?_)
 ·have c:i<m:=by omega
  refine spec_app l e d (by rw[List.length_replicate];omega) fun v3 y k o h=>?_
  try simp(disch:=omega) only[push_cast,zH]
  refine p c _ _ ⟨v3,by simp,o,?_,h⟩
  rw[List.replicate_succ'];exact k
 ·have c:i=m:=by omega
  subst c
  exact q s r l e d
theorem sless7_spec (W:n≤8) (hk:MkR n D w cs st) (hD:∀b,D b→b<w.heap.size) (hx:Ints Fx w xv xs) (hy:Ints Fy w yv ys) (hl:xs.length≤ys.length) (h8:xs.length≤1000) (S:SnL st xs) (T:SnL st ys)
  (hK:∀w' cs' st' r,Ext w w'→MkR n D w' cs' st'→Sn st' r→M.Bd.Out n (M.lessB xs ys (-1)) st st' r→K (.tuple #[.agg ⟨cs'⟩,.int .i64 r]) w'):
  vcall PP jB #[.agg ⟨cs⟩,xv,yv] w K:=by
 apply xc0
 refine Fm.start hk hD fun b4 b8 w1 h1=>?_
 have v:=Ints.under hx;have y:=Ints.under hy
 refine vloop_up xs.length (fun i u w'=> ∃e r,u=[.int .i64 r,.int .i64 i]∧Fm n D (fun _=>False) w b4 b8 w' e∧SnL e xs∧SnL e ys∧Sn e r∧
  ∀st2 q,M.Bd.Out n (M.lessB (xs.drop i) (ys.drop i) r) e st2 q→M.Bd.Out n (M.lessB xs ys (-1)) st st2 q) ⟨st,-1,rfl,h1,S,T,Sn.of (by decide) (by decide),fun _ _ h=>h⟩ ?_
 rintro i _ g w3 C hi ⟨E,X,rfl,H,j,c,t,f⟩ hC
 have R:=Ints.ext0 v H.ext
 simp(disch:=first|(simp only[push_cast];done)|omega) only[push_cast,R.len]
 refine zh (fun a1=>?_) (fun a0=>?_)
 ·have k:i<xs.length:=by omega
  refine zw fun V I _=>?_
  have o:=H.grow I
  have x:=Ints.ext0 v o.ext
  have A:=Ints.ext0 y o.ext
  obtain⟨c4,l,p⟩:=o.call
  simp(disch:=first|(simp only[push_cast];done)|omega) only[push_cast,x.iaddr,x.load,A.iaddr,A.load,true_and,p V (Same.refl _ _)]
  refine sxor7_spec W l o.dl (j.get k) (c.get (by omega)) fun w5 Y a7 d J O hd a=>?_
  simp only[push_cast,true_and]
  refine o.put J O fun w6 h6 a3 a5=>?_
  try simp only[push_cast,true_and,and_self]
  refine zw fun w7 L _=>?_
  have F:=h6.grow L
  have B:=Ints.ext0 y F.ext
  obtain⟨c7,P,s⟩:=F.call
  simp(disch:=first|(simp only[push_cast];done)|omega) only[push_cast,B.iaddr,B.load,true_and,s w7 (Same.refl _ _)]
  refine sone7_spec W P F.dl hd ((c.out a).get (by omega)) (t.out a) fun w8 Z U q N Q hq m=>?_
  simp only[push_cast,true_and]
  refine F.put N Q fun w9 h9 a4 a6=>?_
  try simp(disch:=omega) only[push_cast,zH,true_and,and_self]
  refine hC k _ _ ⟨U,q,by simp<;>exact⟨rfl,rfl⟩,h9,(j.out a).out m,(c.out a).out m,hq,fun st2 z ho=>f st2 z ?_⟩
  rw[xz k,xz (show i<ys.length by omega)]
  exact Y1 a (M.Bd.Out.bind m ho)
 ·refine H.fin fun V G e4 l a2=>?_
  exact hK V G E X e4 l t (f E X (by rw[jf0 (by omega)];exact M.Bd.Out.ret _ _))
theorem ssame7_spec (W:n≤8) (hk:MkR n D w cs st) (hD:∀b,D b→b<w.heap.size) (hx:Ints Fx w xv xs) (hy:Ints Fy w yv ys) (hl:xs.length≤ys.length) (h8:xs.length≤1000) (Q:SnL st xs) (S:SnL st ys)
  (hK:∀w' cs' st' r,Ext w w'→MkR n D w' cs' st'→Sn st' r→M.Bd.Out n (M.sameB xs ys 1) st st' r→K (.tuple #[.agg ⟨cs'⟩,.int .i64 r]) w'):
  vcall PP Xc #[.agg ⟨cs⟩,xv,yv] w K:=by
 apply xb0
 refine Fm.start hk hD fun b4 b8 w1 h1=>?_
 have v:=Ints.under hx;have R:=Ints.under hy
 refine vloop_up xs.length (fun i u w'=> ∃a r,u=[.int .i64 r,.int .i64 i]∧Fm n D (fun _=>False) w b4 b8 w' a∧SnL a xs∧SnL a ys∧Sn a r∧
  ∀st2 q,M.Bd.Out n (M.sameB (xs.drop i) (ys.drop i) r) a st2 q→M.Bd.Out n (M.sameB xs ys 1) st st2 q) ⟨st,1,rfl,h1,Q,S,Sn.of (by decide) (by decide),fun _ _ h=>h⟩ ?_
 rintro i _ g w3 C hi ⟨A,X,rfl,E,f,j,t,e⟩ hC
 have P:=Ints.ext0 v E.ext
 simp(disch:=first|(simp only[push_cast];done)|omega) only[push_cast,P.len]
 refine zh (fun a1=>?_) (fun a0=>?_)
 ·have k:i<xs.length:=by omega
  refine zw fun U H _=>?_
  have o:=E.grow H
  have x:=Ints.ext0 v o.ext
  have y:=Ints.ext0 R o.ext
  obtain⟨c4,l,p⟩:=o.call
  simp(disch:=first|(simp only[push_cast];done)|omega) only[push_cast,x.iaddr,x.load,y.iaddr,y.load,true_and,p U (Same.refl _ _)]
  refine sxor7_spec W l o.dl (f.get k) (j.get (by omega)) fun w5 Y a7 d I L V c=>?_
  simp only[push_cast,true_and]
  refine o.put I L fun w6 F a3 a5=>?_
  obtain⟨c6,N,s⟩:=F.call
  have G:=V.1
  unfold Sm at G
  simp(disch:=omega) only[push_cast,true_and,and_self,s w6 (Same.refl _ _),zH,Int.zero_sub]
  refine sand7_spec W N F.dl (t.out c) V.neg fun w8 Z T q J O hq m=>?_
  simp only[push_cast,true_and]
  refine F.put J O fun w9 h9 a4 a6=>?_
  try simp(disch:=omega) only[push_cast,zH,true_and,and_self]
  refine hC k _ _ ⟨T,q,by simp<;>exact⟨rfl,rfl⟩,h9,(f.out c).out m,(j.out c).out m,hq,fun st2 z ho=>e st2 z ?_⟩
  rw[xz k,xz (show i<ys.length by omega)]
  exact Y1 c (qd m ho)
 ·refine E.fin fun U B e4 l a2=>?_
  exact hK U B A X e4 l t (e A X (by rw[j50 (by omega)];exact M.Bd.Out.ret _ _))
theorem sifs7_spec (hn:n≤8) (hk:MkR n D w cs st) (hD:∀b,D b→b<w.heap.size) (hx:Ints Fx w xv xs) (hy:Ints Fy w yv ys) (hl:xs.length≤ys.length) (h8:xs.length≤1000) (R:SnL st xs) (T:SnL st ys) (hc:Sn st c)
  (hK:∀w' cs' st' r zs,Ext w w'→MkR n D w' cs' st'→OwnI PP zg w' r zs→(∀b,r.ownBlock=some b→w.heap.size≤b)→SnL st' zs→M.Bd.Out n (M.eachB (M.muxB c) xs ys) st st' zs→K (.tuple #[.agg ⟨cs'⟩,r]) w'):
  vcall PP Y2 #[.agg ⟨cs⟩,.int .i64 c,xv,yv] w K:=by
 apply q90
 refine Fm.start hk hD fun b4 b8 w1 h1=>?_
 refine h1.nil fun v2 w2 h2 J e2=>?_
 have A:=Ints.under hx;have S:=Ints.under hy
 refine vloop_up xs.length (fun i u w'=> ∃a r zs,u=[r,.int .i64 i]∧Fm n D (O1 r) w b4 b8 w' a∧OwnI PP zg w' r zs∧zs.length=i∧SnL a zs∧SnL a xs∧SnL a ys∧Sn a c∧
  ∀st2 rs,M.Bd.Out n (M.eachB (M.muxB c) (xs.drop i) (ys.drop i)) a st2 rs→M.Bd.Out n (M.eachB (M.muxB c) xs ys) st st2 (zs++rs)) ⟨st,_,[],rfl,h2,J,rfl,SnL.nil,R,T,hc,fun _ _ h=>h⟩ ?_
 rintro i _ g w3 C hi ⟨G,X,zs,rfl,o,z,U,F,j,k,t,f⟩ hC
 have Q:=Ints.ext0 A o.ext
 simp(disch:=first|(simp only[push_cast];done)|omega) only[push_cast,Q.len]
 refine zh (fun a1=>?_) (fun a0=>?_)
 ·have l:i<xs.length:=by omega
  refine zw fun W v _=>?_
  have p:=o.grow v
  have B:=Ints.ext0 A p.ext
  have E:=Ints.ext0 S p.ext
  obtain⟨c4,m,y⟩:=p.call
  simp(disch:=first|(simp only[push_cast];done)|omega) only[push_cast,B.iaddr,B.load,E.iaddr,E.load,true_and,y W (Same.refl _ _)]
  refine sone7_spec hn m p.dl t (j.get l) (k.get (by omega)) fun w5 Y V s x I hs d=>?_
  simp only[push_cast,true_and]
  refine p.put x I fun w6 h6 P a2=>?_
  try simp only[push_cast,true_and,and_self]
  have L:OwnI PP zg w6 X zs:=((z.ext v).ext x).same P fun b q=>(o.off b q).2.2.1
  refine h6.app L (by omega) fun r7 w7 h7 N e7=>?_
  simp(disch:=omega) only[push_cast,zH]
  refine hC l _ _ ⟨V,r7,zs++[s],by simp,h7,N,by simp[U],SnL.app (F.out d) (SnL.one hs),j.out d,k.out d,t.out d,fun st2 rs ho=>?_⟩
  have:=f st2 (s::rs) ?_
  ·simpa using this
  rw[Vg l (show i<ys.length by omega)]
  exact M.Bd.Out.bind d (M.Bd.Out.map _ ho)
 ·have:=f G [] (by rw[QZ (by omega)];exact M.Bd.Out.ret _ _)
  rw[List.append_nil] at this
  refine o.fin fun W H Z m O=>?_
  exact hK W H G X zs Z m (z.same O fun b q e=>(o.off b q).2.2.2 e) (fun b q=>(o.off b q).2.1) F this
def YJ (op:Int):Int→Int→M.Bd Int:=if op=3 then fun a b=> .and a b .ret else if op=4 then M.orB else fun a b=> .xor a b .ret
theorem splain7_spec {op:Int} (hn:n≤8) (hk:MkR n D w cs st) (hD:∀b,D b→b<w.heap.size) (hx:Ints Fx w xv xs) (hy:Ints Fy w yv ys) (hl:xs.length≤ys.length) (h8:xs.length≤1000) (a4:SnL st xs) (a5:SnL st ys)
  (hK:∀w' cs' st' r zs,Ext w w'→MkR n D w' cs' st'→OwnI PP zg w' r zs→(∀b,r.ownBlock=some b→w.heap.size≤b)→SnL st' zs→M.Bd.Out n (M.eachB (YJ op) xs ys) st st' zs→K (.tuple #[.agg ⟨cs'⟩,r]) w'):
  vcall PP Ys #[.agg ⟨cs⟩,.int .i64 op,xv,yv] w K:=by
 apply zU0
 refine Fm.start hk hD fun b4 b8 w1 h1=>?_
 refine h1.nil fun v2 w2 h2 a1 e2=>?_
 have H:=Ints.under hx;have N:=Ints.under hy
 refine vloop_up xs.length (fun i u w'=> ∃B r zs,u=[r,.int .i64 i]∧Fm n D (O1 r) w b4 b8 w' B∧OwnI PP zg w' r zs∧zs.length=i∧SnL B zs∧SnL B xs∧SnL B ys∧
  ∀st2 rs,M.Bd.Out n (M.eachB (YJ op) (xs.drop i) (ys.drop i)) B st2 rs→M.Bd.Out n (M.eachB (YJ op) xs ys) st st2 (zs++rs)) ⟨st,_,[],rfl,h2,a1,rfl,SnL.nil,a4,a5,fun _ _ h=>h⟩ ?_
 rintro i _ g w3 C hi ⟨P,Z,zs,rfl,E,G,O,I,f,j,J⟩ hC
 have a3:=Ints.ext0 H E.ext
 simp(disch:=first|(simp only[push_cast];done)|omega) only[push_cast,a3.len]
 refine zh (fun a7=>?_) (fun a6=>?_)
 ·have t:i<xs.length:=by omega
  have L:∀d s,M.Bd.Out n (YJ op (xs.getD i 0) (ys.getD i 0)) P d s→∀st2 rs,M.Bd.Out n (M.eachB (YJ op) (xs.drop (i+1)) (ys.drop (i+1))) d st2 rs→M.Bd.Out n (M.eachB (YJ op) xs ys) st st2 ((zs++[s])++rs):=fun d s c st2 rs ho=>by
   have:=J st2 (s::rs) ?_
   ·simpa using this
   rw[Vg t (show i<ys.length by omega)]
   exact M.Bd.Out.bind c (M.Bd.Out.map _ ho)
  try simp only[push_cast]
  refine zh (fun c3=>?_) (fun c3=>?_)
  ·have V:YJ op=(fun a b=> .and a b .ret):=by unfold YJ;rw[if_pos c3]
   refine zw fun Q l _=>?_
   have k:=E.grow l
   have p:=Ints.ext0 H k.ext
   have q:=Ints.ext0 N k.ext
   obtain⟨R,v,o⟩:=k.call
   simp(disch:=first|(simp only[push_cast];done)|omega) only[push_cast,p.iaddr,p.load,q.iaddr,q.load,true_and,o Q (Same.refl _ _)]
   refine sand7_spec hn v k.dl (f.get t) (j.get (by omega)) fun w5 S d s m x hs c=>?_
   simp only[push_cast,true_and]
   refine k.put m x fun Y T A W=>?_
   try simp only[push_cast,true_and,and_self]
   have y:OwnI PP zg Y Z zs:=((G.ext l).ext m).same A fun b F=>(E.off b F).2.2.1
   refine T.app y (by omega) fun X w7 U z e7=>?_
   simp(disch:=omega) only[push_cast,zH]
   exact hC t _ _ ⟨d,X,zs++[s],by simp,U,z,by simp[O],SnL.app (I.out c) (SnL.one hs),f.out c,j.out c,L d s (by rw[V];exact c)⟩
  try simp only[push_cast]
  refine zh (fun R=>?_) (fun R=>?_)
  ·have V:YJ op=M.orB:=by unfold YJ;rw[if_neg c3,if_pos R]
   refine zw fun Q l _=>?_
   have k:=E.grow l
   have p:=Ints.ext0 H k.ext
   have q:=Ints.ext0 N k.ext
   obtain⟨R,v,o⟩:=k.call
   simp(disch:=first|(simp only[push_cast];done)|omega) only[push_cast,p.iaddr,p.load,q.iaddr,q.load,true_and,o Q (Same.refl _ _)]
   refine sor7_spec hn v k.dl (f.get t) (j.get (by omega)) fun w5 S d s m x hs c=>?_
   simp only[push_cast,true_and]
   refine k.put m x fun Y T A W=>?_
   try simp only[push_cast,true_and,and_self]
   have y:OwnI PP zg Y Z zs:=((G.ext l).ext m).same A fun b F=>(E.off b F).2.2.1
   refine T.app y (by omega) fun X w7 U z e7=>?_
   simp(disch:=omega) only[push_cast,zH]
   exact hC t _ _ ⟨d,X,zs++[s],by simp,U,z,by simp[O],SnL.app (I.out c) (SnL.one hs),f.out c,j.out c,L d s (by rw[V];exact c)⟩
  have V:YJ op=(fun a b=> .xor a b .ret):=by unfold YJ;rw[if_neg c3,if_neg R]
  refine zw fun Q l _=>?_
  have k:=E.grow l
  have p:=Ints.ext0 H k.ext
  have q:=Ints.ext0 N k.ext
  obtain⟨R,v,o⟩:=k.call
  simp(disch:=first|(simp only[push_cast];done)|omega) only[push_cast,p.iaddr,p.load,q.iaddr,q.load,true_and,o Q (Same.refl _ _)]
  refine sxor7_spec hn v k.dl (f.get t) (j.get (by omega)) fun w5 S d s m x hs c=>?_
  simp only[push_cast,true_and]
  refine k.put m x fun Y T A W=>?_
  try simp only[push_cast,true_and,and_self]
  have y:OwnI PP zg Y Z zs:=((G.ext l).ext m).same A fun b F=>(E.off b F).2.2.1
  refine T.app y (by omega) fun X w7 U z e7=>?_
  simp(disch:=omega) only[push_cast,zH]
  exact hC t _ _ ⟨d,X,zs++[s],by simp,U,z,by simp[O],SnL.app (I.out c) (SnL.one hs),f.out c,j.out c,L d s (by rw[V];exact c)⟩
 ·have:=J P [] (by rw[QZ (by omega)];exact M.Bd.Out.ret _ _)
  rw[List.append_nil] at this
  refine E.fin fun Q a0 e4 v a2=>?_
  exact hK Q a0 P Z zs e4 v (G.same a2 fun b F e=>(E.off b F).2.2.2 e) (fun b F=>(E.off b F).2.1) I this
end Go.Proofs.YtaekfnbnhjgboaaGreatDoor
end
section
namespace Go.Proofs.YtaekfnbnhjgboaaGreatDoor
open Go Go.Vc Go.Proofs
variable {w:World} {K:Value→World→Prop} {D F Fx Fy Y S O O':Nat→Prop} {n b4 b8:Nat} {gs gs':M.Gs} {v v' nv xv yv sv:Value} {cs cs':List Value} {st st':Option M.Gs} {a b c m x y r:Int} {xs ys:List Int}
abbrev Kp (b4 b8:Nat) (O:Nat→Prop):Nat→Prop:=fun b=>b≠b4∧b≠b8∧¬O b
section
variable {w0 w':World}
theorem Ints.kp4 (h:Ints (Kp b4 b8 O) w xv xs) (hs:Same (· =b4) w w'):Ints (Kp b4 b8 O) w' xv xs:=Ints.same h hs fun b a _ e=>a.1 e
theorem Ints.kpO (h:Ints (Kp b4 b8 O) w xv xs) (hs:Same S w w') (f:∀b,S b→O b) (d:∀b,O' b→O b∨w.heap.size≤b):Ints (Kp b4 b8 O') w' xv xs:=by
 have c:Ints (fun b=>Kp b4 b8 O b∧b<w.heap.size) w xv xs:=Ints.weaken h fun b a g=>⟨a,g⟩
 exact Ints.weaken (Ints.same c hs fun b a _ e=>a.1.2.2 (f b e)) fun b a _=>⟨a.1.1,a.1.2.1,fun i=>(d b i).elim a.1.2.2 fun h=>by have:=a.2;omega⟩
theorem Fm.new {zs:List Int} (h:Fm n D O w0 b4 b8 w st) (e:OwnI PP zg w' v zs) (d:∀b,v.ownBlock=some b→w.heap.size≤b):Ints (Kp b4 b8 O) w' v zs:=Ints.weaken e.ints fun b c _=>by
 have f:=d b c;have g:=h.lt4
 exact⟨by omega,by omega,fun a=>by have:=(h.off b a).1;omega⟩
theorem Fm.app' {zs:List Int} {x:Int} {ty:Nat} (h:Fm n D (O1 v) w0 b4 b8 w st) (l:OwnI PP zg w v zs) (s:zs.length≤1000000)
  (j:∀v' w',Fm n D (O1 v') w0 b4 b8 w' st→OwnI PP zg w' v' (zs++[x])→(∀xv xs,Ints (Kp b4 b8 (O1 v)) w xv xs→Ints (Kp b4 b8 (O1 v')) w' xv xs)→K v' w'):
  vbuildS PP zg 1 [(0,.int .i64 x)] w fun t p=>vbi PP .append [zg,zg] ty [v,t] p K:=by
 refine yj YG jx XN rfl rfl fun r u k c o g=>?_
 refine(l.ext c).app1 Y6 g (by omega) (by omega) fun v6 q e f d=>?_
 have i:=(h.grow c).own (O':=O1 v6) f (fun b a=>a) fun b a=>⟨e.lt a,d b a⟩
 exact j v6 q i e fun xv xs m=>Ints.kpO (Ints.ext m c) f (fun b a=>a) fun b a=>d b a
theorem Fm.take {zs:List Int} (h:Fm n D (fun _=>False) w0 b4 b8 w st) (he:Ext w w') (d:OwnI PP zg w' v zs) (c:∀b,v.ownBlock=some b→w.heap.size≤b):Fm n D (O1 v) w0 b4 b8 w' st:=
 h.own (S:=fun _=>False) he (fun b a=>a) fun b a=>⟨d.lt a,.inr (c b a)⟩
theorem Fm.drop (h:Fm n D O w0 b4 b8 w st):Fm n D (fun _=>False) w0 b4 b8 w st:=h.own (S:=fun _=>False) (Same.refl _ _) (fun b a=>a.elim) fun b a=>a.elim
end
theorem smul7_spec (hn:n≤8) (hk:MkR n D w cs st) (hD:∀b,D b→b<w.heap.size) (hx:Ints Fx w xv xs) (hy:Ints Fy w yv ys) (hl:xs.length=ys.length) (h8:xs.length≤900) (ao:SnL st xs) (aq:SnL st ys)
  (hK:∀w' cs' st' r zs,Ext w w'→MkR n D w' cs' st'→Ints (fun b=>w.heap.size≤b) w' r zs→SnL st' zs→M.Bd.Out n (M.mulB xs ys 0 (M.offsL xs.length)) st st' zs→K (.tuple #[.agg ⟨cs'⟩,r]) w'):
  vcall PP Q0 #[.agg ⟨cs⟩,xv,yv] w K:=by
 apply q80
 refine Fm.start hk hD fun b4 b8 w1 R=>?_
 have P:=Ints.under hx;have a3:=Ints.under hy
 have am:=Ints.ext0 P R.ext
 simp(disch:=first|(simp only[push_cast];done)|omega) only[push_cast,am.len]
 refine sfill7_spec (by omega) fun w2 a9 ad al af=>?_
 have lo:=R.lo;have s1:=R.ext.size
 have a7:Ints (fun b=>Kp b4 b8 (fun _=>False) b∧w.heap.size≤b) w2 a9 (M.offsL xs.length):=Ints.weaken al.ints fun b a _=>by
  have az:=af b a;have h2:=R.lt4
  exact⟨⟨by omega,by omega,id⟩,by omega⟩
 refine vloop_up ys.length (fun i u w'=> ∃v sv s,u=[sv,.int .i64 i]∧Fm n D (fun _=>False) w b4 b8 w' v∧Ints (fun b=>Kp b4 b8 (fun _=>False) b∧w.heap.size≤b) w' sv s∧s.length=xs.length∧SnL v s∧SnL v xs∧SnL v ys∧
  ∀st2 res,M.Bd.Out n (M.mulB xs (ys.drop i) i s) v st2 res→M.Bd.Out n (M.mulB xs ys 0 (M.offsL xs.length)) st st2 res) ⟨st,a9,_,rfl,R.grow ad,a7,M.offsL_len _,SnL.fill _,ao,aq,fun _ _ h=>h⟩ ?_
 rintro i _ g w3 C hi ⟨y,sv,s,rfl,h3,Y,b3,B,a2,a5,A⟩ hC
 have ap:=Ints.ext0 a3 h3.ext
 simp(disch:=first|(simp only[push_cast];done)|omega) only[push_cast,ap.len]
 refine zh (fun b2=>?_) (fun b0=>?_)
 ·have H:i<ys.length:=by omega
  refine sfill7_spec (by omega) fun w4 rv T W V=>?_
  have h4:=h3.take T W V
  have N:Ints (Kp b4 b8 (O1 rv)) w4 sv s:=Ints.kpO (O:=fun _=>False) (Ints.weaken Y fun b a _=>a.1) T (fun b a=>a.elim) fun b a=> .inr (V b a)
  have ay:(xs.take (xs.length-i)).length=xs.length-i:=by rw[List.length_take];omega
  refine vloop_up (xs.length-i) (fun j u w'=> ∃c rv zs,u=[rv,.int .i64 ((i+j:Nat):Int)]∧Fm n D (O1 rv) w b4 b8 w' c∧OwnI PP zg w' rv (M.offsL i++zs)∧zs.length=j∧Ints (Kp b4 b8 (O1 rv)) w' sv s∧SnL c zs∧SnL c s∧SnL c xs∧SnL c ys∧
   ∀st2 rs,M.Bd.Out n (M.rowB (ys.getD i 0) ((xs.take (xs.length-i)).drop j)) c st2 rs→M.Bd.Out n (M.rowB (ys.getD i 0) (xs.take (xs.length-i))) y st2 (zs++rs)) ⟨y,rv,[],rfl,h4,by rw[List.append_nil];exact W,rfl,N,SnL.nil,B,a2,a5,fun _ _ h=>h⟩ ?_
  rintro j _ g5 w5 C5 hj ⟨c,a8,zs,rfl,z,X,au,Z,a6,E,q,t,o⟩ ac
  have an:=Ints.ext0 P z.ext
  simp(disch:=first|(simp only[push_cast];done)|omega) only[push_cast,an.len]
  refine zh (fun ax=>?_) (fun aw=>?_)
  ·have U:j<xs.length-i:=by omega
   refine zw fun w6 G _=>?_
   have S:=z.grow G
   have a1:=Ints.ext0 P S.ext
   have a4:=Ints.ext0 a3 S.ext
   obtain⟨c6,I,m⟩:=S.call
   have ei:((i:Int)+j)-i=(j:Int):=by omega
   simp(disch:=first|(simp only[push_cast];done)|omega) only[push_cast,zH,ei,a1.iaddr,a1.load,a4.iaddr,a4.load,true_and,m w6 (Same.refl _ _)]
   refine sand7_spec hn I S.dl (q.get (by omega)) (t.get H) fun w7 ab Q d l J hd f=>?_
   simp only[push_cast,true_and]
   refine S.put l J fun w8 F x ar=>?_
   try simp only[push_cast,true_and,and_self]
   have aj:OwnI PP zg w8 a8 (M.offsL i++zs):=((X.ext G).ext l).same x fun b a=>(z.off b a).2.2.1
   have a0:Ints (Kp b4 b8 (O1 a8)) w8 sv s:=Ints.kp4 (Ints.ext (Ints.ext Z G) l) x
   refine F.app' aj (by rw[List.length_append,M.offsL_len];omega) fun av w9 h9 ak L=>?_
   try simp(disch:=omega) only[push_cast,zH]
   refine ac U _ _ ⟨Q,av,zs++[d],by simp<;>omega,h9,by rw[←List.append_assoc];exact ak,by simp[au],L _ _ a0,SnL.app (a6.out f) (SnL.one hd),E.out f,q.out f,t.out f,fun st2 rs ho=>?_⟩
   have:=o st2 (d::rs) ?_
   ·simpa using this
   rw[kg0 (by omega),KX U]
   exact qd f (M.Bd.Out.map _ ho)
  ·have b1:j=xs.length-i:=by omega
   have p:=o c [] (by rw[j60 (by omega)];exact M.Bd.Out.ret _ _)
   rw[List.append_nil] at p
   obtain⟨c6,I,m⟩:=z.call
   simp only[m w5 (Same.refl _ _)]
   refine sadd7_spec hn I z.dl Z X.ints (by rw[List.length_append,M.offsL_len];omega) (by omega) E (SnL.app (SnL.fill i) a6) (Sn.of (by decide) (by decide)) fun w7 ab Q nv ns l J f ag ai k=>?_
   simp only[push_cast,true_and]
   refine z.put l J fun w8 F x ar=>?_
   try simp(disch:=omega) only[push_cast,zH]
   have ah:ns.length=xs.length:=by
    have:=M.sum_len k.reach
    rw[List.length_append,M.offsL_len] at this
    omega
   have l5:=z.lt4;have s5:=z.ext.size
   refine hC H _ _ ⟨Q,nv,ns,by simp,F.drop,Ints.same (Ints.weaken (F':=fun b=>Kp b4 b8 (fun _=>False) b∧w.heap.size≤b) f.ints fun b a _=>by have:=ag b a;exact⟨⟨by omega,by omega,id⟩,by omega⟩) x (fun b a _ e=>a.1.1 e),ah,ai,q.out k,t.out k,fun st2 res ho=>A st2 res ?_⟩
   rw[xz H]
   exact M.Bd.Out.bind p (M.Bd.Out.bind k ho)
 ·refine h3.fin fun w4 aa e4 ae N=>?_
  exact hK w4 aa y sv s e4 ae (Ints.weaken (Ints.same Y N fun b a _ e=>a.1.2.1 e) fun b a _=>a.2) B (A y s (by rw[jd0 (by omega)];exact M.Bd.Out.ret _ _))
theorem sfrom7_spec {op fill:Int} {j b:Nat} (hs:Ints Fx w sv xs) (f:j<xs.length) (h:xs.length≤1000) (g:b≤1000) (a:K (.int .i64 (M.fromL (decide (op=11)) fill xs b j)) w):
  vcall PP Xd #[.int .i64 op,sv,.int .i64 j,.int .i64 b,.int .i64 fill] w K:=by
 apply xd0
 obtain⟨f1,f2,f3⟩:=from_at (up:=decide (op=11)) (fill:=fill) (s:=xs) (b:=b) f
 simp(disch:=omega) only[push_cast,zH]
 refine zh (fun c=>?_) (fun c=>?_)
 ·rw[decide_eq_true c] at f1 f2 f3 a
  simp only[if_true] at f1 f2 f3
  rw[show(j:Int)-b=j+ -(b:Int) by omega]
  try simp(disch:=omega) only[push_cast,zH]
  refine zh (fun d=>?_) (fun d=>?_)
  ·rw[f2 d] at a;exact a
  try simp(disch:=first|(simp only[push_cast];done)|omega) only[push_cast,hs.len]
  refine zh (fun e=>?_) (fun e=>?_)
  ·rw[f3 e] at a;exact a
  simp(disch:=first|(simp only[push_cast];done)|omega) only[push_cast,hs.iaddr,hs.load]
  rw[f1 (by omega) (by omega)] at a;exact a
 ·rw[decide_eq_false c] at f1 f2 f3 a
  simp only[Bool.false_eq_true,if_false] at f1 f2 f3
  refine zh (fun d=>absurd d (by omega)) (fun d=>?_)
  try simp(disch:=first|(simp only[push_cast];done)|omega) only[push_cast,hs.len]
  refine zh (fun e=>?_) (fun e=>?_)
  ·rw[f3 e] at a;exact a
  simp(disch:=first|(simp only[push_cast];done)|omega) only[push_cast,hs.iaddr,hs.load]
  rw[f1 (by omega) (by omega)] at a;exact a
theorem from_sn {up:Bool} {fill:Int} {s:List Int} {b k:Nat} (a:Sn st fill) (hs:SnL st s) (c:k<s.length):Sn st (M.fromL up fill s b k):=by
 unfold M.fromL
 repeat' split
 all_goals first|exact a|exact hs.get (by omega)
theorem sshift7_spec {op:Int} (hn:n≤8) (hk:MkR n D w cs st) (hD:∀b,D b→b<w.heap.size) (hx:Ints Fx w xv xs) (hy:Ints Fy w yv ys) (h1:1≤xs.length) (h8:xs.length≤1000) (b5:ys.length≤8) (a6:SnL st xs) (ar:SnL st ys)
  (hK:∀w' cs' st' r zs,Ext w w'→MkR n D w' cs' st'→Ints (fun b=>w.heap.size≤b) w' r zs→SnL st' zs→M.Bd.Out n (M.shiftB (decide (op=11)) (if op=13 then xs.getD (xs.length-1) 0 else-1) ys 0 xs) st st' zs→K (.tuple #[.agg ⟨cs'⟩,r]) w'):
  vcall PP Yr #[.agg ⟨cs⟩,.int .i64 op,xv,yv] w K:=by
 apply zT0
 refine Fm.start hk hD fun b4 b8 w1 p=>?_
 have a5:=Ints.under hx;have a7:=Ints.under hy
 have lo:=p.lo;have s1:=p.ext.size
 refine spec_nil fun v2 w2 an e2 W=>?_
 refine an.app Y6 (Ints.ext0 a5 (p.ext.trans e2)) (by simp;omega) (by simp;omega) fun v3 w3 ao ap am=>?_
 have l1:=p.lt4;have z2:=e2.size
 have ad:Ext w1 w3:=Ext.then e2 ap fun b f=>W b f
 have Y:∀b,v3.ownBlock=some b→w1.heap.size≤b:=fun b f=>(am b f).elim (W b) fun h=>by omega
 have h3:=p.grow ad
 have aa:Ints (fun b=>Kp b4 b8 (fun _=>False) b∧w.heap.size≤b) w3 v3 xs:=Ints.weaken ao.ints fun b f _=>by
  have:=Y b f
  exact⟨⟨by omega,by omega,id⟩,by omega⟩
 have ai:Sn st (if op=13 then xs.getD (xs.length-1) 0 else-1):=by
  split
  ·exact a6.get (by omega)
  ·exact Sn.of (by decide) (by decide)
 refine y5 (fun u w'=>u=[.int .i64 (if op=13 then xs.getD (xs.length-1) 0 else-1)]∧w'=w3) ?_ ?_
 ·intro J hJ
  have T:=Ints.ext0 a5 h3.ext
  simp only[push_cast]
  refine zh (fun c=>?_) (fun c=>?_)
  ·rw[if_pos c] at hJ
   simp(disch:=first|(simp only[push_cast];done)|omega) only[push_cast,T.len,zH]
   rw[show((xs.length:Int)-1)=((xs.length-1:Nat):Int) by omega]
   rw[T.iaddr Vh (by omega) (by omega),Int.toNat_natCast,T.load xL0 (by omega)]
   exact hJ _ _ ⟨rfl,rfl⟩
  ·rw[if_neg c] at hJ
   exact hJ _ _ ⟨rfl,rfl⟩
 rintro _ _ w4 ⟨rfl,rfl⟩
 generalize (if op=13 then xs.getD (xs.length-1) 0 else-1)=fill at*
 refine vloop_up ys.length (fun i u w'=> ∃z sv s,u=[sv,.int .i64 i]∧Fm n D (fun _=>False) w b4 b8 w' z∧Ints (fun b=>Kp b4 b8 (fun _=>False) b∧w.heap.size≤b) w' sv s∧s.length=xs.length∧SnL z s∧SnL z ys∧Sn z fill∧
  ∀st2 res,M.Bd.Out n (M.shiftB (decide (op=11)) fill (ys.drop i) i s) z st2 res→M.Bd.Out n (M.shiftB (decide (op=11)) fill ys 0 xs) st st2 res) ⟨st,v3,_,rfl,h3,aa,rfl,a6,ar,ai,fun _ _ h=>h⟩ ?_
 rintro i _ g w5 C hi ⟨E,sv,s,rfl,h5,a3,b3,H,a8,ah,F⟩ hC
 have aq:=Ints.ext0 a7 h5.ext
 simp(disch:=first|(simp only[push_cast];done)|omega) only[push_cast,aq.len]
 refine zh (fun b2=>?_) (fun b0=>?_)
 ·have P:i<ys.length:=by omega
  have hp:=pow_le4 (i:=i) (by omega)
  obtain⟨B,hB⟩:∃B,2^i=B:=⟨_,rfl⟩
  refine spec_nil fun rv w6 a1 V X=>?_
  have h6:=h5.take V a1 X
  have S:Ints (Kp b4 b8 (O1 rv)) w6 sv s:=Ints.kpO (O:=fun _=>False) (Ints.weaken a3 fun b f _=>f.1) V (fun b f=>f.elim) fun b f=> .inr (X b f)
  refine vloop_up s.length (fun j u w'=> ∃k rv zs,u=[rv,.int .i64 j]∧Fm n D (O1 rv) w b4 b8 w' k∧OwnI PP zg w' rv zs∧zs.length=j∧Ints (Kp b4 b8 (O1 rv)) w' sv s∧SnL k zs∧SnL k s∧SnL k ys∧Sn k fill∧
   ∀st2 rs,M.Bd.Out n (M.eachB (M.muxB (ys.getD i 0)) (((List.range s.length).map (M.fromL (decide (op=11)) fill s B)).drop j) (s.drop j)) k st2 rs→M.Bd.Out n (M.eachB (M.muxB (ys.getD i 0)) ((List.range s.length).map (M.fromL (decide (op=11)) fill s B)) s) E st2 (zs++rs)) ⟨E,rv,[],rfl,h6,a1,rfl,S,SnL.nil,H,a8,ah,fun _ _ h=>h⟩ ?_
  rintro j _ g7 w7 C7 hj ⟨k,U,zs,rfl,h7,a2,au,a4,a9,x,y,N,v⟩ ag
  simp(disch:=first|(simp only[push_cast];done)|omega) only[push_cast,a4.len]
  refine zh (fun ax=>?_) (fun aw=>?_)
  ·have m:j<s.length:=by omega
   refine zw fun w8 I _=>?_
   have A:=h7.grow I
   have l:=Ints.ext a4 I
   have a:=Ints.ext0 a7 A.ext
   obtain⟨c8,ak,q⟩:=A.call
   simp(disch:=first|(simp only[push_cast];done)|omega) only[push_cast,l.iaddr,l.load,a.iaddr,a.load,true_and,q w8 (Same.refl _ _)]
   refine l1Two_nat (by omega) ?_
   rw[hB]
   simp(disch:=first|(simp only[push_cast];done)|omega) only[push_cast,l.iaddr,l.load,a.iaddr,a.load,true_and,and_self,q w8 (Same.refl _ _)]
   refine sfrom7_spec l m (by omega) (by omega) ?_
   simp(disch:=first|(simp only[push_cast];done)|omega) only[push_cast,l.iaddr,l.load,a.iaddr,a.load,true_and,and_self,q w8 (Same.refl _ _)]
   refine sone7_spec hn ak A.dl (y.get P) (from_sn N x m) (x.get m) fun w9 az av d L al hd t=>?_
   simp only[push_cast,true_and]
   refine A.put L al fun w10 ae G ay=>?_
   try simp only[push_cast,true_and,and_self]
   have Z:OwnI PP zg w10 U zs:=((a2.ext I).ext L).same G fun b f=>(h7.off b f).2.2.1
   have R:Ints (Kp b4 b8 (O1 U)) w10 sv s:=Ints.kp4 (Ints.ext l L) G
   refine ae.app' Z (by omega) fun ab b6 af a0 Q=>?_
   try simp(disch:=omega) only[push_cast,zH]
   refine ag m _ _ ⟨av,ab,zs++[d],by simp,af,a0,by simp[au],Q _ _ R,SnL.app (a9.out t) (SnL.one hd),x.out t,y.out t,N.out t,fun st2 rs ho=>?_⟩
   have:=v st2 (d::rs) ?_
   ·simpa using this
   rw[Vg (by simpa using m) m,UH m]
   exact M.Bd.Out.bind t (M.Bd.Out.map _ ho)
  ·have b1:j=s.length:=by omega
   have o:=v k [] (by rw[QZ (by simp;omega)];exact M.Bd.Out.ret _ _)
   rw[List.append_nil] at o
   try simp(disch:=omega) only[push_cast,zH]
   refine hC P _ _ ⟨k,U,zs,by simp,h7.drop,Ints.weaken a2.ints (fun b f _=>by have h9:=h7.off b f;exact⟨⟨h9.2.2.1,h9.2.2.2,id⟩,h9.2.1⟩),by omega,a9,y,N,fun st2 res ho=>F st2 res ?_⟩
   rw[xz P]
   rw[←hB] at o
   exact M.Bd.Out.bind o ho
 ·refine h5.fin fun w6 ac e6 aj S=>?_
  exact hK w6 ac E sv s e6 aj (Ints.weaken (Ints.same a3 S fun b f _ e=>f.1.2.1 e) fun b f _=>f.2) H (F E s (by rw[xF0 (by omega)];exact M.Bd.Out.ret _ _))
end Go.Proofs.YtaekfnbnhjgboaaGreatDoor
end
section
namespace Go.Proofs.YtaekfnbnhjgboaaGreatDoor
open Go Go.Vc Go.Proofs
variable {w:World} {K:Value→World→Prop} {D F Fx Fy Y S O O':Nat→Prop} {n b4 b8:Nat} {gs gs':M.Gs} {v v' nv xv yv sv:Value} {cs cs':List Value} {st st':Option M.Gs} {a b c m x y r:Int} {xs ys:List Int}
theorem SnL.set {xs:List Int} (h:SnL st xs) {i:Nat} {x:Int} (b:Sn st x):SnL st (xs.set i x):=fun y c=>by
 rcases List.mem_or_eq_of_mem_set c with a|a
 ·exact h y a
 ·rw[a];exact b
theorem SnL.take (h:SnL st xs) (m:Nat):SnL st (xs.take m):=fun x a=>h x (List.mem_of_mem_take a)
theorem sdiv7_spec (hn:n≤8) (hk:MkR n D w cs st) (hD:∀b,D b→b<w.heap.size) (hx:Ints Fx w xv xs) (hy:Ints Fy w yv ys) (hl:xs.length=ys.length) (h8:xs.length≤900) (cq:SnL st xs) (ct:SnL st ys)
  (hK:∀w' cs' st' qv rv q r,Ext w w'→MkR n D w' cs' st'→Ints (fun b=>w.heap.size≤b) w' qv q→Ints (fun b=>w.heap.size≤b) w' rv r→SnL st' q→SnL st' r→M.Bd.Out n (M.divB xs (ys++[-1]) xs.length (M.offsL xs.length) (M.offsL xs.length)) st st' (q,r)→K (.tuple #[.agg ⟨cs'⟩,qv,rv]) w'):
  vcall PP Y3 #[.agg ⟨cs⟩,xv,yv] w K:=by
 apply qa0
 refine Fm.start hk hD fun b4 b8 w1 h1=>?_
 have bj:=Ints.under hx;have cr:=Ints.under hy
 have lo:=h1.lo;have s1:=h1.ext.size;have l1:=h1.lt4
 have cp:=Ints.ext0 bj h1.ext
 simp(disch:=first|(simp only[push_cast];done)|omega) only[push_cast,cp.len]
 refine sfill7_spec (by omega) fun w2 bm a5 b7 az=>?_
 refine sfill7_spec (by omega) fun w3 qv Q ab U=>?_
 refine spec_nil fun v4 w4 cc e4 ay=>?_
 refine cc.app Y6 (Ints.ext0 cr (h1.ext.trans (a5.trans (Q.trans e4)))) (by simp;omega) (by simp;omega) fun v5 w5 cd bb c9=>?_
 have z2:=a5.size;have z3:=Q.size;have z4:=e4.size;have z5:=bb.size
 have cm:∀b,v5.ownBlock=some b→w3.heap.size≤b:=fun b a=>(c9 b a).elim (ay b) fun h=>by omega
 have bs:Ext w3 w5:=Ext.then e4 bb fun b a=>ay b a
 refine spec_app (w0:=w3) bs cd cm (by simp;omega) fun wv w6 bi a2 b0=>?_
 rw[List.nil_append] at bi
 simp(disch:=omega) only[push_cast,zH]
 have ce:=ab.ext a2
 have h2:=h1.grow a5
 have h3:=h2.take Q ab U
 have h6:Fm n D (O1 qv) w b4 b8 w6 st:=h3.grow a2
 have bz:Ints (fun b=>Kp b4 b8 (O1 qv) b∧w.heap.size≤b) w6 bm (M.offsL xs.length):=Ints.weaken (b7.ext (Q.trans a2)).ints fun b a _=>by
  have bw:=az b a;have c6:=b7.lt a
  exact⟨⟨by omega,by omega,fun hq=>by have:=U b hq;omega⟩,by omega⟩
 have c3:Ints (Kp b4 b8 (O1 qv)) w6 wv (ys++[-1]):=Ints.weaken bi.ints fun b a _=>by
  have bw:=b0 b a
  exact⟨by omega,by omega,fun hq=>by have:=ab.lt hq;omega⟩
 have dd:(ys++[(-1:Int)]).length=xs.length+1:=by rw[List.length_append,hl];rfl
 have co:SnL st (ys++[(-1:Int)]):=ct.app (SnL.one (Sn.of (by decide) (by decide)))
 generalize ys++[(-1:Int)]=wide at*
 refine X5 (fun m u w'=> ∃B rv r q,u=[rv,.int .i64 ((m:Int)-1)]∧m≤xs.length∧Fm n D (O1 qv) w b4 b8 w' B∧Ints (fun b=>Kp b4 b8 (O1 qv) b∧w.heap.size≤b) w' rv r∧r.length=xs.length∧SnL B r∧OwnI PP zg w' qv q∧q.length=xs.length∧SnL B q∧Ints (Kp b4 b8 (O1 qv)) w' wv wide∧SnL B wide∧SnL B xs∧
  ∀st2 res,M.Bd.Out n (M.divB xs wide m r q) B st2 res→M.Bd.Out n (M.divB xs wide xs.length (M.offsL xs.length) (M.offsL xs.length)) st st2 res) xs.length
  ⟨st,bm,_,_,rfl,Nat.le_refl _,h6,bz,M.offsL_len _,SnL.fill _,ce,M.offsL_len _,SnL.fill _,c3,co,cq,fun _ _ h=>h⟩ ?_
 rintro m _ g w7 C ⟨ad,rv,r,q,rfl,hm,h7,b9,cg,ba,b5,cf,b6,cn,z,Z,V⟩ hC
 simp only[push_cast]
 refine zh (fun db=>?_) (fun c6=>?_)
 ·obtain⟨m,rfl⟩:∃j,m=j+1:=⟨m-1,by omega⟩
  have c8:m<xs.length:=by omega
  rw[show((m+1:Nat):Int)-1=(m:Int) by omega]
  have bk:=Ints.ext0 bj h7.ext
  rw[bk.iaddr Vh (by omega) (by omega),Int.toNat_natCast,bk.load xL0 (by omega)]
  refine yj YG jx XN rfl rfl fun a0 w8 da ao de bx=>?_
  have ci:OwnI PP zg w8 (.slice (some ⟨a0,0,none⟩) 1 1) [xs.getD m 0]:=Blk.own1 (P:=PP) (t:=zg) (cs:=[Value.int .i64 (xs.getD m 0)]) (by rw[Wo];exact bx) (Nat.zero_le _) rfl rfl (by omega)
  refine ci.app Y6 (Ints.ext b9 ao) (by simp;omega) (by simp;omega) fun tv w9 cj ch ca=>?_
  have ah:Ext w7 w9:=Ext.then ao ch fun b a=>by have e:a0=b:=Option.some.inj a;omega
  have ck:∀b,tv.ownBlock=some b→w7.heap.size≤b:=fun b a=>(ca b a).elim (fun h=>by have e:a0=b:=Option.some.inj h;omega) fun h=>by omega
  have h9:=h7.grow ah
  have c0:Ints (Kp b4 b8 (O1 qv)) w9 tv (xs.getD m 0::r):=h7.new cj ck
  have ac:SnL ad (xs.getD m 0::r):=(SnL.one (Z.get c8)).app ba
  have bd:(xs.getD m 0::r).length=xs.length+1:=by rw[List.length_cons,cg]
  refine spec_nil fun vz w10 d0 a1 cb=>?_
  have E:=h9.grow a1
  have R:=ah.trans a1
  have S:Ints (Kp b4 b8 (O1 qv)) w10 tv (xs.getD m 0::r):=Ints.ext c0 a1
  have X:Ints (Kp b4 b8 (O1 qv)) w10 wv wide:=Ints.ext cn R
  have b1:=b5.ext R
  generalize ht:xs.getD m 0::r=t at*
  obtain⟨d6,ap,a6⟩:=E.call
  simp only[a6 w10 (Same.refl _ _)]
  refine sless7_spec hn ap E.dl S X (by omega) (by omega) ac z fun dg cx bn l v aq I d=>?_
  simp only[push_cast,true_and]
  refine E.put v aq fun ae ai L d1=>?_
  have W:OwnI PP zg ae qv q:=(b1.ext v).same L fun b a=>(E.off b a).2.2.1
  have ak:Ints (Kp b4 b8 (O1 qv)) ae tv t:=Ints.kp4 (Ints.ext S v) L
  have bg:Ints (Kp b4 b8 (O1 qv)) ae wv wide:=Ints.kp4 (Ints.ext X v) L
  have c5:=I.1
  unfold Sm at c5
  simp(disch:=omega) only[push_cast,zH,Int.zero_sub]
  rw[W.ints.iaddr Vh (by omega) (by omega),Int.toNat_natCast]
  refine W.st jx (by omega) fun af b2 N d2=>?_
  have bt:Fm n D (O1 qv) w b4 b8 af bn:=ai.own N (fun b a=>a) fun b a=>⟨by have:=(ai.off b a).1;omega,.inl a⟩
  have al:Ints (Kp b4 b8 (O1 qv)) af tv t:=Ints.same ak N fun b a _ e=>a.2.2 e
  have Y:Ints (Kp b4 b8 (O1 qv)) af wv wide:=Ints.same bg N fun b a _ e=>a.2.2 e
  refine zw fun cw k _=>?_
  have a3:=bt.grow k
  obtain⟨d7,ar,J⟩:=a3.call
  simp only[push_cast,true_and,J cw (Same.refl _ _)]
  refine sturn7_spec (Ints.ext Y k) (by omega) (z.sm) fun ag nv i ax a8=>?_
  have a4:=a3.grow i
  have aj:Ints (Kp b4 b8 (O1 qv)) ag nv (M.negL wide):=a3.new ax a8
  have T:Ints (Kp b4 b8 (O1 qv)) ag tv t:=Ints.ext (Ints.ext al k) i
  simp only[push_cast,true_and,and_self,J ag i]
  refine sadd7_spec hn (ar.ext i fun _ h _=>h) a4.dl T aj (by rw[M.negL_len];omega) (by omega) (ac.out d) ((z.out d).neg) (Sn.of (by decide) (by decide)) fun dh cy d5 uv us x au be a9 cl f=>?_
  simp only[push_cast,true_and]
  refine a4.put x au fun bp bu y d3=>?_
  have bf:us.length=xs.length+1:=by
   have:=M.sum_len f.reach
   rw[M.negL_len] at this
   omega
  have an:Ints (Kp b4 b8 (O1 qv)) bp uv us:=Ints.kp4 (a4.new be a9) y
  have am:Ints (Kp b4 b8 (O1 qv)) bp tv t:=Ints.kp4 (Ints.ext T x) y
  try simp only[push_cast,true_and,and_self]
  refine zw fun s o _=>?_
  have A:=bu.grow o
  obtain⟨d8,av,a7⟩:=A.call
  have F:=Ints.ext am o
  have G:=Ints.ext an o
  have eT:yA PP zg tv none (some (.int .i64 xs.length)) none s=fun K=>K (cutV tv xs.length) s:=by
   funext K
   by_cases c:xs.length≤t.length
   ·exact Sl.cut F (Sl.base F (by simp;intro h;rw[h] at bd;simp at bd)) Vh (by simpa using c)
   ·omega
  have eU:yA PP zg uv none (some (.int .i64 xs.length)) none s=fun K=>K (cutV uv xs.length) s:=by
   funext K
   exact Sl.cut G (Sl.base G (by simp;intro h;rw[h] at bf;simp at bf)) Vh (by simpa using(show xs.length≤us.length by omega))
  have c1:Ints (Kp b4 b8 (O1 qv)) s (cutV tv xs.length) (t.take xs.length):=by
   have:=Sl.taken F (n:=xs.length) (by simpa using(show xs.length≤t.length by omega))
   unfold Ints Vals;rw[List.map_take,List.map_take];exact this
  have c2:Ints (Kp b4 b8 (O1 qv)) s (cutV uv xs.length) (us.take xs.length):=by
   have:=Sl.taken G (n:=xs.length) (by simpa using(show xs.length≤us.length by omega))
   unfold Ints Vals;rw[List.map_take,List.map_take];exact this
  simp only[push_cast,true_and,a7 s (Same.refl _ _),eT,eU]
  refine sifs7_spec hn av A.dl c1 c2 (by rw[List.length_take,List.length_take];omega) (by rw[List.length_take];omega) (((ac.out d).out f).take _) (cl.take _) (I.out f) fun di cz bo zv zs H aw bl aa cv p=>?_
  simp only[push_cast,true_and]
  refine A.put H aw fun bq bv O d4=>?_
  try simp(disch:=omega) only[push_cast,true_and,and_self,zH]
  have cu:zs.length=xs.length:=by
   have:=M.each_len p.reach
   rw[List.length_take,List.length_take] at this
   omega
  have b3:OwnI PP zg bq qv (q.set m (-l)):=by
   have off:∀b,qv.ownBlock=some b→¬b=b4:=fun b a=>(E.off b a).2.2.1
   exact((((((b2.ext k).ext i).ext x).same y off).ext o).ext H).same O off
  have bh:Ints (Kp b4 b8 (O1 qv)) bq wv wide:=Ints.kp4 (Ints.ext (Ints.ext (Ints.kp4 (Ints.ext (Ints.ext (Ints.ext Y k) i) x) y) o) H) O
  have df:=A.ext.size
  refine hC m _ _ (by omega) ⟨bo,zv,zs,q.set m (-l),by simp<;>exact⟨rfl,rfl⟩,by omega,bv,Ints.same (Ints.weaken (F':=fun b=>Kp b4 b8 (O1 qv) b∧w.heap.size≤b) bl.ints fun b a _=>by
   have d9:=aa b a;have dc:=A.lt4
   exact⟨⟨by omega,by omega,fun hO=>by have:=(A.off b hO).1;omega⟩,by omega⟩) O (fun b a _ e=>a.1.1 e),cu,cv,b3,by rw[List.length_set];exact cf,(((b6.out d).set I.neg).out f).out p,bh,((z.out d).out f).out p,((Z.out d).out f).out p,fun st2 res ho=>V st2 res ?_⟩
  subst ht
  exact jn0 d f p ho
 ·have c7:m=0:=by omega
  subst c7
  refine h7.fin fun w8 br e8 c4 bc=>?_
  exact hK w8 br ad qv rv q r e8 c4 (Ints.weaken (b5.same bc fun b a e=>(h7.off b a).2.2.2 e).ints fun b a _=>(h7.off b a).2.1) (Ints.weaken (Ints.same b9 bc fun b a _ e=>a.1.2.1 e) fun b a _=>a.2) b6 ba (V ad (q,r) (by unfold M.divB;exact M.Bd.Out.ret _ _))
end Go.Proofs.YtaekfnbnhjgboaaGreatDoor
end
section
namespace Go.Proofs.YtaekfnbnhjgboaaGreatDoor
open Go Go.Vc Go.Proofs
variable {w:World} {K:Value→World→Prop} {D F Fx Fy Y S O O':Nat→Prop} {n b4 b8:Nat} {gs gs':M.Gs} {v v' nv xv yv sv:Value} {cs cs':List Value} {st st':Option M.Gs} {a b c m x y r:Int} {xs ys:List Int}
abbrev New (w:World):Nat→Prop:=fun b=>w.heap.size≤b
theorem Fm.res {w0 c:World} {rv:Value} {zs:List Int} (h:Fm n D O w0 b4 b8 w st) (he:Ext w c) (k:MkR n (Xp0 D O b4 b8) c cs' st') (m:Ints (New w) c rv zs)
  (j:∀a,Ext w0 a→MkR n D a cs' st'→Ints (New w0) a rv zs→K (.tuple #[.agg ⟨cs'⟩,rv]) a):
  zu PP zc (.pointer (some ⟨b8,0,none⟩)) (.agg ⟨cs'⟩) c fun _ a=>vlv PP zc (.pointer (some ⟨b8,0,none⟩)) a fun o p=>K (.tuple #[o,rv]) p:=by
 refine h.out he k fun a i f g=>j a i f ?_
 have l:=h.lt4;have s:=h.ext.size
 exact Ints.weaken (Ints.same m g fun b d _ e=>by have:w.heap.size≤b:=d;omega) fun b d _=>by have:w.heap.size≤b:=d;show w0.heap.size≤b;omega
theorem kk {w0:World} {rv:Value} {zs:List Int} (d:OwnI PP zg w rv zs) (c:∀b,rv.ownBlock=some b→w0.heap.size≤b):Ints (New w0) w rv zs:=Ints.weaken d.ints fun b a _=>c b a
theorem sbin7_spec {op:Int} (h3:3≤op) (aw:op≤14) (R:n≤8) (hk:MkR n D w cs st) (hD:∀b,D b→b<w.heap.size) (hx:Ints Fx w xv xs) (hy:Ints Fy w yv ys) (Y:op≠14→xs.length=ys.length) (ap:1≤xs.length) (h8:xs.length≤8) (ax:ys.length≤8) (t:SnL st xs) (j:SnL st ys)
  (z:∀w' cs' st' r zs,Ext w w'→MkR n D w' cs' st'→Ints (New w) w' r zs→SnL st' zs→M.Bd.Out n (M.binB op xs ys) st st' zs→K (.tuple #[.agg ⟨cs'⟩,r]) w'):
  vcall PP Q3 #[.agg ⟨cs⟩,.int .i64 op,xv,yv] w K:=by
 apply qc0
 refine Fm.start hk hD fun b4 b8 w1 m=>?_
 have s:=Ints.ext (Ints.under hx) m.ext;have v:=Ints.ext (Ints.under hy) m.ext
 unfold M.binB at z
 obtain⟨c1,o,e⟩:=m.call
 simp only[push_cast]
 refine zh (fun c=>?_) (fun c6=>?_)
 ·subst c
  simp only[if_neg (show¬(6:Int)=14 by decide),if_neg (show¬(6:Int)=3 by decide),if_neg (show¬(6:Int)=4 by decide),if_neg (show¬(6:Int)=5 by decide),if_true] at z
  simp only[e w1 (Same.refl _ _)]
  refine sadd7_spec R o m.dl s v (by have:=Y (by decide);omega) (by omega) t j (Sn.of (by decide) (by decide)) fun G x st2 rv zs f g E a3 V B=>?_
  simp only[push_cast]
  exact m.res f g (kk E a3) fun C e3 A k=>z C x st2 rv zs e3 A k V B
 try simp only[push_cast]
 refine zh (fun c=>?_) (fun c7=>?_)
 ·subst c
  simp only[if_neg (show¬(7:Int)=14 by decide),if_neg (show¬(7:Int)=3 by decide),if_neg (show¬(7:Int)=4 by decide),if_neg (show¬(7:Int)=5 by decide),if_neg (show¬(7:Int)=6 by decide),if_true] at z
  refine zw fun G f _=>?_
  simp only[e G f,true_and]
  refine sturn7_spec (Ints.ext v f) (by omega) j.sm fun C nv a ah av=>?_
  simp only[e C (f.trans a),true_and,and_self]
  have a1:=(m.grow f).grow a
  refine sadd7_spec R (o.ext (f.trans a) fun _ h _=>h) a1.dl (Ints.ext s (f.trans a)) ah.ints (by rw[M.negL_len];have:=Y (by decide);omega) (by omega) t j.neg (Sn.of (by decide) (by decide)) fun Z ac ar rv zs ae af am a5 W S=>?_
  simp only[push_cast,true_and]
  exact a1.res ae af (kk am a5) fun F I i l=>z F ac ar rv zs I i l W S
 try simp only[push_cast]
 refine zh (fun c=>?_) (fun c8=>?_)
 ·subst c
  simp only[if_neg (show¬(8:Int)=14 by decide),if_neg (show¬(8:Int)=3 by decide),if_neg (show¬(8:Int)=4 by decide),if_neg (show¬(8:Int)=5 by decide),if_neg (show¬(8:Int)=6 by decide),if_neg (show¬(8:Int)=7 by decide),if_true] at z
  simp only[e w1 (Same.refl _ _)]
  refine smul7_spec R o m.dl s v (Y (by decide)) (by omega) t j fun G x st2 rv zs f g E V B=>?_
  simp only[push_cast]
  exact m.res f g E fun C e3 A k=>z C x st2 rv zs e3 A k V B
 try simp only[push_cast]
 refine zh (fun c=>?_) (fun c9=>?_)
 ·subst c
  simp only[if_neg (show¬(9:Int)=14 by decide),if_neg (show¬(9:Int)=3 by decide),if_neg (show¬(9:Int)=4 by decide),if_neg (show¬(9:Int)=5 by decide),if_neg (show¬(9:Int)=6 by decide),if_neg (show¬(9:Int)=7 by decide),if_neg (show¬(9:Int)=8 by decide),if_true] at z
  simp only[e w1 (Same.refl _ _)]
  refine sdiv7_spec R o m.dl s v (Y (by decide)) (by omega) t j fun G x st2 qv rv q r f g a6 E a7 a8 B=>?_
  simp only[push_cast]
  refine zF xX fun aa C ad a k P=>?_
  refine mk_put P rfl g.len g.one fun Z U W Q=>?_
  rw[UO Q g.len]
  have y:Ext G Z:=Ext.then a U fun b L=>by omega
  exact m.res (f.trans y) (g.ext y fun _ h _=>h) (Ints.ext a6 y) fun F I i l=>z F x st2 qv q I i l a7 (M.Bd.Out.map _ B)
 try simp only[push_cast]
 refine zh (fun c=>?_) (fun ab=>?_)
 ·subst c
  simp only[if_neg (show¬(10:Int)=14 by decide),if_neg (show¬(10:Int)=3 by decide),if_neg (show¬(10:Int)=4 by decide),if_neg (show¬(10:Int)=5 by decide),if_neg (show¬(10:Int)=6 by decide),if_neg (show¬(10:Int)=7 by decide),if_neg (show¬(10:Int)=8 by decide),if_neg (show¬(10:Int)=9 by decide),if_true] at z
  simp only[e w1 (Same.refl _ _)]
  refine sdiv7_spec R o m.dl s v (Y (by decide)) (by omega) t j fun G x st2 qv rv q r f g a6 E a7 a8 B=>?_
  simp only[push_cast]
  refine zF xX fun aa C ad a k P=>?_
  refine mk_put P rfl g.len g.one fun Z U W Q=>?_
  rw[UO Q g.len]
  have y:Ext G Z:=Ext.then a U fun b L=>by omega
  exact m.res (f.trans y) (g.ext y fun _ h _=>h) (Ints.ext E y) fun F I i l=>z F x st2 rv r I i l a8 (M.Bd.Out.map _ B)
 refine y5 (fun u w'=>u=[.bool (decide (op=11∨op=12∨op=13))]∧w'=w1) ?_ ?_
 ·intro J hJ
  try simp only[push_cast]
  refine zh (fun c=>?_) (fun c=>?_)
  ·refine hJ _ _ ⟨?_,rfl⟩
   rw[decide_eq_true c,decide_eq_true (.inl c)]
  try simp only[push_cast]
  refine zh (fun d=>?_) (fun d=>?_)
  ·refine hJ _ _ ⟨?_,rfl⟩
   rw[decide_eq_true d,decide_eq_true (.inr (.inl d))]
  try simp only[push_cast]
  refine hJ _ _ ⟨?_,rfl⟩
  rw[decide_eq_decide.2 (show(op=11∨op=12∨op=13)↔op=13 from⟨fun h=>by omega,fun h=> .inr (.inr h)⟩)]
 rintro _ _ G ⟨rfl,rfl⟩
 try simp only[push_cast]
 refine zh (fun c=>?_) (fun au=>?_)
 ·simp only[e G (Same.refl _ _)]
  refine sshift7_spec R o m.dl s v ap (by omega) (by omega) t j fun C N X rv zs a A T k p=>?_
  simp only[push_cast]
  refine m.res a A T fun F I i l=>z F N X rv zs I i l k ?_
  rw[if_neg (by omega),if_neg (by omega),if_neg (by omega),if_neg (by omega),if_neg c6,if_neg c7,if_neg c8,if_neg c9,if_neg ab]
  rcases c with rfl|rfl|rfl
  ·exact p
  ·exact p
  ·exact p
 try simp only[push_cast]
 refine zh (fun c=>?_) (fun a0=>?_)
 ·rw[if_pos c] at z
  refine zw fun C a _=>?_
  simp only[e C a,true_and]
  refine spec_nil fun v4 Z S e4 a2=>?_
  simp only[e Z (a.trans e4),true_and,and_self]
  refine S.app Y6 (Ints.ext v (a.trans e4)) (by simp;omega) (by simp;omega) fun v5 F ak an ai=>?_
  have z3:=a.size;have z4:=e4.size
  have H:Ext C F:=Ext.then e4 an fun b L=>a2 b L
  simp only[e F (a.trans H),true_and,and_self]
  have a9:∀b,v5.ownBlock=some b→C.heap.size≤b:=fun b L=>(ai b L).elim (a2 b) fun h=>by omega
  refine ak.app Y6 (Ints.ext s (a.trans H)) (by simp;omega) (by simp;omega) fun v6 w6 al ao aj=>?_
  have z5:=H.size
  have O:Ext C w6:=Ext.then H ao fun b L=>a9 b L
  simp only[e w6 (a.trans O),true_and,and_self]
  refine m.res (a.trans O) (o.ext (a.trans O) fun _ h _=>h) (kk al fun b L=>(aj b L).elim (fun h=>by have:=a9 b h;omega) fun h=>by omega) fun w7 e7 ag aq=>z w7 c1 st v6 _ e7 ag aq (by rw[List.nil_append];exact j.app t) (M.Bd.Out.ret _ _)
 simp only[e G (Same.refl _ _)]
 refine splain7_spec R o m.dl s v (by have:=Y a0;omega) (by omega) t j fun C N X rv zs a A T a4 k p=>?_
 simp only[push_cast]
 refine m.res a A (kk T a4) fun F I i l=>z F N X rv zs I i l k ?_
 rw[if_neg a0]
 unfold YJ at p
 rcases(by omega:op=3∨op=4∨op=5) with rfl|rfl|rfl
 ·exact p
 ·exact p
 ·exact p
theorem sun7_spec {op:Int} (Y:op=1∨op=2) (T:n≤8) (S:MkR n D w cs st) (hD:∀b,D b→b<w.heap.size) (U:Ints Fx w xv xs) (X:xs.length≤8) (f:SnL st xs)
  (k:∀w' cs' st' r zs,Ext w w'→MkR n D w' cs' st'→Ints (New w) w' r zs→SnL st' zs→M.Bd.Out n (M.unB op xs) st st' zs→K (.tuple #[.agg ⟨cs'⟩,r]) w'):
  vcall PP Kg #[.agg ⟨cs⟩,.int .i64 op,xv] w K:=by
 apply qS0
 refine Fm.start S hD fun b4 b8 Z t=>?_
 have q:=Ints.ext (Ints.under U) t.ext
 unfold M.unB at k
 obtain⟨O,m,d⟩:=t.call
 simp only[push_cast]
 refine zh (fun c=>?_) (fun c=>?_)
 ·rw[if_pos c] at k
  refine zw fun G a _=>?_
  simp only[d G a,true_and]
  refine sturn7_spec (Ints.ext q a) (by omega) f.sm fun H nv e z o=>?_
  simp only[d H (a.trans e),true_and,and_self]
  have z2:=a.size
  exact t.res (a.trans e) (m.ext (a.trans e) fun _ h _=>h) (kk z fun b R=>by have:=o b R;omega) fun N P i j=>k N O st nv _ P i j f.neg (M.Bd.Out.ret _ _)
 ·rw[if_neg c] at k
  refine zw fun G a _=>?_
  have s:=Ints.ext q a
  simp(disch:=first|(simp only[push_cast];done)|omega) only[push_cast,d G a,true_and,s.len]
  refine sfill7_spec (by omega) fun H fv e x J=>?_
  simp only[d H (a.trans e),true_and,and_self]
  refine sturn7_spec (Ints.ext s e) (by omega) f.sm fun V nv l A L=>?_
  have g:=a.trans (e.trans l)
  simp only[d V g,true_and,and_self]
  have I:=t.grow g
  refine sadd7_spec T (m.ext g fun _ h _=>h) I.dl (x.ext l).ints A.ints (by rw[M.negL_len,List.length_replicate];omega) (by rw[List.length_replicate];omega) (SnL.fill _) f.neg (Sn.of (by decide) (by decide)) fun N u F rv zs v i C p j B=>?_
  simp only[push_cast,true_and]
  exact I.res v i (kk C p) fun W Q y E=>k W u F rv zs Q y E j B
theorem swap_get (xs ys:List Int) (h:xs.length=ys.length) (e:1≤xs.length):xs.take (xs.length-1)++[ys.getD (xs.length-1) 0]=M.swapT xs ys:=by
 unfold M.swapT
 refine List.ext_getElem (by simp;omega) fun i b a=>?_
 rw[List.getElem_set]
 by_cases c:xs.length-1=i
 ·subst c
  rw[if_pos rfl,List.getElem_append_right (by simp)]
  simp
 ·have d:i<xs.length:=by simpa using a
  rw[if_neg c,List.getElem_append_left (by simp;omega),List.getElem_take]
theorem cut_app {w0:World} {vx:Value} {zs:List Int} {x:Int} {f:Nat} {t0:TypeId} (n:Ext w0 w) (u:Ints Fx w vx zs) (B:zs.length≤1000) (p:Blk w f [.int .i64 x] t0) (r:w0.heap.size≤f) (s:OwnI PP zg w v []) (m:∀b,v.ownBlock=some b→w0.heap.size≤b∧b≠f)
  (q:∀w' v',Ext w0 w'→OwnI PP zg w' v' (zs++[x])→(∀b,v'.ownBlock=some b→w0.heap.size≤b)→K v' w'):
  vbi PP .append [zg,zg] zg [v,vx] w fun t y=>vbi PP .append [zg,zg] zg [t,.slice (some ⟨f,0,none⟩) 1 1] y K:=by
 have C:=n.size
 refine s.app Y6 u (by simp;omega) (by simp;omega) fun v2 z j c g=>?_
 have s2:=c.size
 refine OwnI.app1 j Y6 (p.same c fun e=>(m _ e).2 rfl) (by simp;omega) (by simp;omega) fun v3 A k l i=>?_
 have o:Ext w0 z:=Ext.then n c fun b a=>(m b a).1
 have d:∀b,v2.ownBlock=some b→w0.heap.size≤b:=fun b a=>(g b a).elim (fun h=>(m b h).1) fun h=>by omega
 exact q A v3 (Ext.then o l fun b a=>d b a) (by simpa using k) fun b a=>(i b a).elim (d b) fun h=>by omega
theorem top_region {J:List Value→World→Prop} (hx:Ints Fx w xv xs) (hy:Ints Fy w yv ys) (Z:xs.length=ys.length) (t:1≤xs.length) (h8:xs.length≤8) (W:∀w' r,Ext w w'→OwnI PP zg w' r (M.swapT xs ys)→(∀b,r.ownBlock=some b→w.heap.size≤b)→J [r] w'):
  y7 w fun a=>
    yA PP zg xv none (some (.int .i64 ((xs.length-1:Nat):Int))) none a fun t36 L=>L=a∧
    zo PP zg yv (.int .i64 ((xs.length-1:Nat):Int)) a fun t40 N=>N=a∧
    zf PP ze t40 a fun t41 O=>O=a∧
    (vbuildS PP zg 0 [] a fun t33 c=>(zf PP ze t40 c fun v x=>v=t41∧x=c)∧(zo PP zg yv (.int .i64 ((xs.length-1:Nat):Int)) c fun v x=>v=t40∧x=c)∧(yA PP zg xv none (some (.int .i64 ((xs.length-1:Nat):Int))) none c fun v x=>v=t36∧x=c)∧
     (vbi PP .append [zg,zg] zg [t33,t36] c fun t37 d=>(zf PP ze t40 d fun v x=>v=t41∧x=d)∧(zo PP zg yv (.int .i64 ((xs.length-1:Nat):Int)) d fun v x=>v=t40∧x=d)∧
      (vbuildS PP zg 1 [(0,t41)] d fun t42 P=>
       (vbi PP .append [zg,zg] zg [t37,t42] P fun t43 Q=>
        J [t43] Q)∧
       True)∧
      True)∧
     (vbuildS PP zg 1 [(0,t41)] c fun D k=>(yA PP zg xv none (some (.int .i64 ((xs.length-1:Nat):Int))) none k fun v x=>v=t36∧x=k)∧
      (vbi PP .append [zg,zg] zg [t33,t36] k fun B R=>
       (vbi PP .append [zg,zg] zg [B,D] R fun F S=>
        J [F] S)∧
       True)∧
      True)∧
     True)∧
    (vbuildS PP zg 1 [(0,t41)] a fun E l=>(yA PP zg xv none (some (.int .i64 ((xs.length-1:Nat):Int))) none l fun v x=>v=t36∧x=l)∧
     (vbuildS PP zg 0 [] l fun A m=>(yA PP zg xv none (some (.int .i64 ((xs.length-1:Nat):Int))) none m fun v x=>v=t36∧x=m)∧
      (vbi PP .append [zg,zg] zg [A,t36] m fun C T=>
       (vbi PP .append [zg,zg] zg [C,E] T fun G U=>
        J [G] U)∧
       True)∧
      True)∧
     True)∧
    True:=by
 refine zw fun w2 g _=>?_
 have sl:∀(w':World) (K:Value→World→Prop),Ext w w'→yA PP zg xv none (some (.int .i64 ((xs.length-1:Nat):Int))) none w' K=K (cutV xv (xs.length-1)) w':=fun w' K he=>by
  have p:=Ints.ext hx he
  exact propext ⟨fun h=>by rwa[Sl.cut p (Sl.base p (by simp;intro h;rw[h] at t;simp at t)) Vh (by simp)] at h,fun h=>by rwa[Sl.cut p (Sl.base p (by simp;intro h;rw[h] at t;simp at t)) Vh (by simp)]⟩
 have ia:∀(w':World) (K:Value→World→Prop),zo PP zg yv (.int .i64 ((xs.length-1:Nat):Int)) w' K=K (.pointer (some (eaddr yv 1 (xs.length-1)))) w':=fun w' K=>by
  rw[hy.iaddr Vh (by omega) (by omega),Int.toNat_natCast]
 have ld:∀(w':World) (K:Value→World→Prop),Ext w w'→zf PP ze (.pointer (some (eaddr yv 1 (xs.length-1)))) w' K=K (.int .i64 (ys.getD (xs.length-1) 0)) w':=fun w' K he=>(Ints.ext hy he).load xL0 (by omega)
 have Y:∀w',Ext w w'→Ints Fx w' (cutV xv (xs.length-1)) (xs.take (xs.length-1)):=fun w' he=>by
  have:=Sl.taken (Ints.ext hx he) (n:=xs.length-1) (by simp)
  unfold Ints Vals;rw[List.map_take,List.map_take];exact this
 have I:(xs.take (xs.length-1)).length≤1000:=by rw[List.length_take];omega
 have s2:=g.size
 simp only[sl _ _ g,ia,ld _ _ g,true_and,and_true]
 refine⟨?_,?_⟩
 ·refine spec_nil fun v3 w3 j q i=>?_
  have e:=g.trans q
  simp only[sl _ _ e,ld _ _ e,true_and,and_true,and_self]
  refine⟨?_,?_⟩
  ·refine j.app Y6 (Y _ e) (by simp;omega) (by simp;omega) fun v4 w4 a2 a4 a0=>?_
   have H:Ext w w4:=Ext.then e a4 fun b s=>by have:=i b s;omega
   have s3:=q.size
   simp only[ld _ _ H,true_and,and_true,and_self]
   refine spec_app (w0:=w) H a2 (fun b s=>(a0 b s).elim (fun h=>by have:=i b h;omega) fun h=>by omega) (by simp;omega) fun v5 w5 a3 e5 a1=>?_
   refine W w5 v5 e5 ?_ a1
   rw[←swap_get xs ys Z t];simpa using a3
  ·refine yj YG jx XN rfl rfl fun b7 w7 X f a5 u=>?_
   have s3:=q.size
   simp only[sl _ _ (e.trans f),true_and,and_true,and_self]
   refine cut_app (w0:=w) (e.trans f) (Y _ (e.trans f)) I u (by omega) (j.ext f) (fun b s=>by have:=i b s;have:=j.lt s;omega) fun w8 v8 V z y=>?_
   refine W w8 v8 V ?_ y
   rw[←swap_get xs ys Z t];exact z
 ·refine yj YG jx XN rfl rfl fun b7 w7 X f a5 u=>?_
  have o:=g.trans f
  simp only[sl _ _ o,true_and,and_true,and_self]
  refine spec_nil fun v3 w3 j q i=>?_
  simp only[sl _ _ (o.trans q),true_and,and_true,and_self]
  refine cut_app (w0:=w) (o.trans q) (Y _ (o.trans q)) I (u.ext q) (by omega) j (fun b s=>by have:=i b s;omega) fun w8 v8 V z y=>?_
  refine W w8 v8 V ?_ y
  rw[←swap_get xs ys Z t];exact z
theorem swap_sn (a:SnL st xs) (b:SnL st ys) (d:xs.length=ys.length) (c:1≤xs.length):SnL st (M.swapT xs ys):=a.set (b.get (by omega))
theorem yE0 (xs ys:List Int):(M.swapT xs ys).length=xs.length:=List.length_set ..
theorem scmp7_spec {op:Int} (X:15≤op) (Y:op≤17) (y:n≤8) (Z:MkR n D w cs st) (hD:∀b,D b→b<w.heap.size) (hx:Ints Fx w xv xs) (hy:Ints Fy w yv ys) (x:xs.length=ys.length) (z:1≤xs.length) (h8:xs.length≤8) (g:SnL st xs) (j:SnL st ys)
  (k:∀w' cs' st' r,Ext w w'→MkR n D w' cs' st'→Sn st' r→M.Bd.Out n (M.cmpB op xs ys) st st' r→K (.tuple #[.agg ⟨cs'⟩,.int .i64 r]) w'):
  vcall PP Q2 #[.agg ⟨cs⟩,.int .i64 op,xv,yv] w K:=by
 apply qb0
 refine Fm.start Z hD fun b4 b8 S f=>?_
 have d:=Ints.ext (Ints.under hx) f.ext;have i:=Ints.ext (Ints.under hy) f.ext
 unfold M.cmpB at k
 obtain⟨c1,o,a⟩:=f.call
 simp only[push_cast]
 refine zh (fun c=>?_) (fun U=>?_)
 ·rw[if_pos c] at k
  simp only[a S (Same.refl _ _)]
  refine ssame7_spec y o f.dl d i (by omega) (by omega) g j fun T l st2 r m p t s=>?_
  simp only[push_cast]
  exact f.out m p fun A v q Q=>k A l st2 r v q t s
 rw[if_neg U] at k
 try simp only[push_cast]
 refine zh (fun c=>?_) (fun V=>?_)
 ·rw[if_pos c] at k
  simp only[a S (Same.refl _ _)]
  refine sless7_spec y o f.dl d i (by omega) (by omega) g j fun T l st2 r m p t s=>?_
  simp only[push_cast]
  exact f.out m p fun A v q Q=>k A l st2 r v q t s
 rw[if_neg V] at k
 rw[d.len XC0]
 simp(disch:=omega) only[push_cast,zH]
 rw[show((xs.length:Int)-1)=((xs.length-1:Nat):Int) by omega]
 refine y5 (fun u w'=> ∃r,u=[r]∧Ext S w'∧OwnI PP zg w' r (M.swapT xs ys)) ?_ ?_
 ·intro J E
  exact top_region d i x z (by omega) fun w' r he N y=>E _ _ ⟨r,rfl,he,N⟩
 rintro _ _ T ⟨av,rfl,C,F⟩
 refine y5 (fun u w'=> ∃r,u=[r]∧Ext T w'∧OwnI PP zg w' r (M.swapT ys xs)) ?_ ?_
 ·intro J E
  rw[x]
  exact top_region (Ints.ext i C) (Ints.ext d C) x.symm (by omega) (by omega) fun w' r he N y=>E _ _ ⟨r,rfl,he,N⟩
 rintro _ _ A ⟨bv,rfl,v,G⟩
 have e:=C.trans v
 try simp only[push_cast]
 simp only[a A e]
 refine sless7_spec y (o.ext e fun _ h _=>h) (f.grow e).dl (F.ext v).ints G.ints (by rw[yE0,yE0];omega) (by rw[yE0];omega) (swap_sn g j x z) (swap_sn j g x.symm (by omega)) fun w4 B R r H I P O=>?_
 simp only[push_cast]
 exact(f.grow e).out H I fun w5 W L a0=>k w5 B R r W L P O
end Go.Proofs.YtaekfnbnhjgboaaGreatDoor
end
