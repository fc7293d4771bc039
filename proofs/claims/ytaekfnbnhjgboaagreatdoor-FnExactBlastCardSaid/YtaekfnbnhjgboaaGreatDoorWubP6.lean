import Derived.Test.YtaekfnbnhjgboaaGreatDoorWubP5
import Derived.Test.YtaekfnbnhjgboaaGreatDoorWubP2
import Derived.Test.YtaekfnbnhjgboaaGreatDoorWubP1
import Derived.Laws.CopyRow
import Derived.Laws.IdiomCopy
/- A part of the proof. -/
set_option linter.unusedVariables false
set_option linter.unusedSimpArgs false
set_option linter.unnecessarySimpa false
set_option linter.unusedSectionVars false
section
namespace Go.Proofs.YtaekfnbnhjgboaaGreatDoor
open Go Go.Vc Go.Proofs
variable {w:World} {K:Value→World→Prop} {F F' Fx Fy X:Nat→Prop} {n bc mb bb:Nat} {gs:M.Gs} {v:Value} {ar ab:Addr} {st:Option M.Gs}
theorem absI_le {a:Int} {m:Nat} (h:a.natAbs≤m):(M.absI a).natAbs≤m:=by unfold M.absI;split<;>omega
theorem Uc {c:Bool} {a:Int}:(M.turnI c a).natAbs=a.natAbs:=by cases c<;>simp[M.turnI]
theorem put_abs {g:M.Gt} (h:gs.length≤600) (hn:n≤8):(M.putG n gs g).2.natAbs≤1000:=by
 unfold M.putG
 split
 ·next hm=>have:=List.idxOf_lt_length_iff.2 hm;show(2+(n:Int)+(gs.idxOf g:Nat)).natAbs≤1000;omega
 ·split
  ·show(0:Int).natAbs≤1000;decide
  ·show(2+(n:Int)+(gs.length:Nat)).natAbs≤1000;omega
theorem kk0 {a b:Int} (h:gs.length≤600) (hn:n≤8) (ha:a.natAbs≤1000) (hb:b.natAbs≤1000):(M.andG n gs a b).2.natAbs≤1000:=by
 unfold M.andG
 repeat' split
 all_goals first|exact put_abs h hn|(show(-1:Int).natAbs≤1000;decide)|assumption
theorem jn0 {a b:Int} (h:gs.length≤600) (hn:n≤8) (ha:a.natAbs≤1000) (hb:b.natAbs≤1000):(M.xorG n gs a b).2.natAbs≤1000:=by
 unfold M.xorG
 repeat' split
 all_goals first|(show(-1:Int).natAbs≤1000;decide)|(show(1:Int).natAbs≤1000;decide)|(simp only[Uc];first|exact put_abs h hn|assumption)
theorem YA0 (a b:Int):zU PP zl [(1,.int .i64 a),(2,.int .i64 b)] w K=K (gv ⟨false,a,b⟩) w:=yB Xd (us:=[[.int .i64 a],[.int .i64 b]]) rfl rfl
theorem cand_spec {a b:Int} (h:CktR n bc w gs v mb) (ha:a.natAbs≤1000) (hb:b.natAbs≤1000)
  (hK:∀w' v',CktR n bc w' (M.andG n gs a b).1 v' mb→Same (QY bc mb v) w w'→(∀b,v'.ownBlock=some b→v.ownBlock=some b∨w.heap.size≤b)→K (.int .i64 (M.andG n gs a b).2) w'):
  vcall PP jA #[.pointer (some ⟨bc,0,none⟩),.int .i64 a,.int .i64 b] w K:=by
 apply KW;unfold ZT
 unfold M.andG at hK
 try simp only[push_cast]
 refine zh (fun c=>?_) (fun c1=>?_)
 ·rw[if_pos (.inl c)] at hK
  exact hK _ _ h (Same.refl _ _) fun b hb=> .inl hb
 try simp only[push_cast]
 refine zh (fun c=>?_) (fun c2=>?_)
 ·rw[if_pos (.inr c)] at hK
  exact hK _ _ h (Same.refl _ _) fun b hb=> .inl hb
 rw[if_neg (fun h=>h.elim c1 c2)] at hK
 try simp only[push_cast]
 refine zh (fun c=>?_) (fun c=>?_)
 ·rw[if_pos c] at hK
  exact hK _ _ h (Same.refl _ _) fun b hb=> .inl hb
 rw[if_neg c] at hK
 try simp only[push_cast]
 refine zh (fun c=>?_) (fun c=>?_)
 ·rw[if_pos c] at hK
  exact hK _ _ h (Same.refl _ _) fun b hb=> .inl hb
 rw[if_neg c] at hK
 try simp only[push_cast]
 refine zh (fun c=>?_) (fun c=>?_)
 ·rw[if_pos c] at hK
  exact hK _ _ h (Same.refl _ _) fun b hb=> .inl hb
 rw[if_neg c] at hK
 try simp(disch:=omega) only[push_cast,zF,Int.zero_sub]
 refine zh (fun c=>?_) (fun c=>?_)
 ·rw[if_pos c] at hK
  exact hK _ _ h (Same.refl _ _) fun b hb=> .inl hb
 rw[if_neg c] at hK
 rw[YA0]
 exact gate_spec h (by show a.natAbs≤_;omega) (by show b.natAbs≤_;omega) hK
theorem Zx0 (a b:Int):zU PP zl [(0,.bool true),(1,.int .i64 a),(2,.int .i64 b)] w K=K (gv ⟨true,a,b⟩) w:=yB Xd (us:=[[.bool true],[.int .i64 a],[.int .i64 b]]) rfl rfl
theorem absI_abs (a:Int):M.absI (M.absI a)=M.absI a:=by
 unfold M.absI
 by_cases h:a<0
 ·rw[if_pos h,if_neg (by omega)]
 ·rw[if_neg h,if_neg h]
theorem ordX (a b:Int):ZM0 ⟨true,M.absI a,M.absI b⟩=M.gateX a b:=by unfold ZM0 M.gateX;simp only[absI_abs]
theorem cxor_spec {a b:Int} (h:CktR n bc w gs v mb) (ha:a.natAbs≤1000) (hb:b.natAbs≤1000)
  (hK:∀w' v',CktR n bc w' (M.xorG n gs a b).1 v' mb→Same (QY bc mb v) w w'→(∀b,v'.ownBlock=some b→v.ownBlock=some b∨w.heap.size≤b)→K (.int .i64 (M.xorG n gs a b).2) w'):
  vcall PP jz #[.pointer (some ⟨bc,0,none⟩),.int .i64 a,.int .i64 b] w K:=by
 apply KU;unfold ZS
 unfold M.xorG at hK
 refine node_spec (by omega) ?_
 try simp only[push_cast]
 refine zh (fun c=>?_) (fun c=>?_)
 ·rw[if_pos c] at hK
  try simp only[push_cast]
  exact turned_spec (by omega) (hK _ _ h (Same.refl _ _) fun b hb=> .inl hb)
 rw[if_neg c] at hK
 refine node_spec (by omega) ?_
 try simp only[push_cast]
 refine zh (fun c=>?_) (fun c=>?_)
 ·rw[if_pos c] at hK
  try simp only[push_cast]
  exact turned_spec (by omega) (hK _ _ h (Same.refl _ _) fun b hb=> .inl hb)
 rw[if_neg c] at hK
 try simp only[push_cast]
 refine zh (fun c=>?_) (fun c=>?_)
 ·rw[if_pos c] at hK
  exact hK _ _ h (Same.refl _ _) fun b hb=> .inl hb
 rw[if_neg c] at hK
 try simp(disch:=omega) only[push_cast,zF,Int.zero_sub]
 refine zh (fun c=>?_) (fun c=>?_)
 ·rw[if_pos c] at hK
  exact hK _ _ h (Same.refl _ _) fun b hb=> .inl hb
 rw[if_neg c] at hK
 refine node_spec (by omega) (node_spec (by omega) ?_)
 rw[Zx0]
 have hp:=put_abs (g:=M.gateX a b) h.few.1 h.few.2
 refine gate_spec h (absI_le (by omega)) (absI_le (by omega)) fun w' v' hc hs hn=>?_
 rw[ordX] at hc⊢
 try simp only[push_cast]
 refine turned_spec (l:=(M.putG n gs (M.gateX a b)).2) (by omega) ?_
 exact hK _ _ hc hs hn
theorem Yi0:zp PP .eql yJ true .nilIface .nilIface w K=K (.bool true) w:=yH (by kernel_rfl) (by kernel_rfl)
theorem JP:zp PP .neq yJ true .nilIface .nilIface w K=K (.bool false) w:=yH (by kernel_rfl) (by kernel_rfl)
theorem yw0 {a:Addr}:zp PP .neq yJ true (erv a) .nilIface w K=K (.bool true) w:=yH (by kernel_rfl) (by kernel_rfl)
theorem Uz {p e:Value} (hK:K (.tuple #[]) w):vcall PP yf #[p,.bool false,e] w K:=by
 apply Zs;unfold jh
 simp only[push_cast]
 exact hK
theorem Zn0 {p:Value} {a:Addr} (hB:Blk w bb [p,.nilIface] zV) (hK:∀w',Same (· =bb) w w'→Blk w' bb [p,erv a] zV→K (.tuple #[]) w'):
  vcall PP yf #[.pointer (some ⟨bb,0,none⟩),.bool true,erv a] w K:=by
 apply Zs;unfold jh
 simp(disch:=first|(simp only[push_cast];done)|omega) only[push_cast,hB.ld1,Yi0]
 refine Blk.st (i:=1) hB rfl rfl Y40 rfl fun w' hs _ hB'=>hK w' hs hB'
end Go.Proofs.YtaekfnbnhjgboaaGreatDoor
end
section
namespace Go.Proofs.YtaekfnbnhjgboaaGreatDoor
open Go Go.Vc Go.Proofs
variable {w:World} {K:Value→World→Prop} {F F' Fx Fy X:Nat→Prop} {n bc mb bb:Nat} {gs:M.Gs} {v:Value} {ar ab:Addr} {st:Option M.Gs}
theorem BdR.pre {w':World} {bc mb:Nat} {gs gs':M.Gs} {v v':Value} (h:BdR n bb ar ab X F w (some gs)) (hB:Blk w bb [.pointer (some ⟨bc,0,none⟩),.nilIface] zV) (hbb: ¬QY bc mb v bb) (hF:∀b,QY bc mb v b→F b)
  (hc:CktR n bc w' gs' v' mb) (hs:Same (QY bc mb v) w w') (hn:∀b,v'.ownBlock=some b→v.ownBlock=some b∨w.heap.size≤b):
  BdR n bb ar ab X (fun b=>F b∨v'.ownBlock=some b) w' (some gs')∧Mv F w (fun b=>F b∨v'.ownBlock=some b) w':=by
 have hm:Mv F w (fun b=>F b∨v'.ownBlock=some b) w':=⟨hs.mono fun x _ hx=>hF x hx,fun b hb=>hb.elim .inl fun hb=>(hn b hb).imp (fun h=>hF b (.inr (.inr h))) id⟩
 refine⟨⟨h.err.mv hm,⟨bc,hB.same hs hbb,fun gs2 e=>?_⟩,.inl h.foot,fun b hb=>?_⟩,hm⟩
 ·cases e
  refine⟨v',mb,hc,?_,?_⟩
  ·rintro(hx|hx|hx)
   ·exact hbb (.inl hx)
   ·exact hbb (.inr (.inl hx))
   ·rcases hn _ hx with h1|h1
    ·exact hbb (.inr (.inr h1))
    ·have:=hB.lt;omega
  ·rintro b (hx|hx|hx)
   ·exact .inl (hF b (.inl hx))
   ·exact .inl (hF b (.inr (.inl hx)))
   ·exact .inr hx
 ·rcases hb with(hb|hb)|hb
  ·have:=h.lt b (.inl hb);have:=hs.size;omega
  ·exact hc.lt (.inr (.inr hb))
  ·have:=h.lt b (.inr hb);have:=hs.size;omega
theorem made_spec {s:Int} (h:BdR n bb ar ab X F w (some gs)) (hK:∀w',BdR n bb ar ab X F w' (if s=0 then none else some gs)→Mv F w F w'→K (.int .i64 (if s=0 then-1 else s)) w'):
  vcall PP qc #[.pointer (some ⟨bb,0,none⟩),.int .i64 s] w K:=by
 apply Ki;unfold ZD
 obtain⟨bc,hB,hC⟩:=h.blk
 simp only at hB
 simp only[push_cast,xJ XF h.err.room.cell]
 by_cases hs:s=0
 ·rw[if_pos hs,if_pos hs] at hK
  rw[decide_eq_true hs]
  refine Zn0 hB fun w' hs' hB'=>?_
  have hm:Mv F w F w':=⟨hs'.mono fun x _ hx=>hx▸h.foot,fun b hb=> .inl hb⟩
  simp(disch:=first|(simp only[push_cast];done)|omega) only[push_cast,hB'.ld1,yw0]
  exact hK _ ⟨h.err.mv hm,⟨bc,hB',fun _ e=>by cases e⟩,h.foot,fun b hb=>by have:=h.lt b hb;have:=hs'.size;omega⟩ hm
 ·rw[if_neg hs,if_neg hs] at hK
  rw[decide_eq_false hs]
  refine Uz ?_
  simp(disch:=first|(simp only[push_cast];done)|omega) only[push_cast,hB.ld1,JP]
  exact hK _ h Mv.refl
abbrev Sm (x:Int):Prop:=x.natAbs≤1000
theorem bout {x y s:Int} {p:M.Bd Int} {gs1:M.Gs} (hp:p.run n gs=if s=0 then none else some (gs1,s)) (hr:p.Reach (-1)):M.Bd.Out n p (some gs) (if s=0 then none else some gs1) (if s=0 then-1 else s):=by
 by_cases hs:s=0
 ·rw[if_pos hs] at hp;rw[if_pos hs,if_pos hs];exact .inr ⟨hp,rfl,hr⟩
 ·rw[if_neg hs] at hp;rw[if_neg hs,if_neg hs];exact .inl ⟨gs1,hp,rfl⟩
theorem jG {x y:Int} (h:BdR n bb ar ab X F w st) (hx:Sm x) (hy:Sm y)
  (hK:∀w' F' st' r,BdR n bb ar ab X F' w' st'→Mv F w F' w'→Sm r→M.Bd.Out n (.and x y .ret) st st' r→K (.int .i64 r) w'):
  vcall PP ym #[.pointer (some ⟨bb,0,none⟩),.int .i64 x,.int .i64 y] w K:=by
 apply V5;unfold ZY
 obtain⟨bc,hB,hC⟩:=h.blk
 cases st with
 |none=>
  simp only at hB
  simp(disch:=first|(simp only[push_cast];done)|omega) only[push_cast,hB.ld1,yw0]
  exact hK _ _ none (-1) h Mv.refl (by decide) ⟨rfl,-1,rfl⟩
 |some gs=>
  simp only at hB
  obtain⟨v,mb,hc,hbb,hF⟩:=hC gs rfl
  simp(disch:=first|(simp only[push_cast];done)|omega) only[push_cast,hB.ld0,hB.ld1,JP]
  refine cand_spec hc hx hy fun w1 v1 hc1 hs1 hn1=>?_
  obtain⟨h1,hm1⟩:=h.pre hB hbb hF hc1 hs1 hn1
  have ha:=kk0 (n:=n) hc.few.1 hc.few.2 hx hy
  refine made_spec h1 fun w2 h2 hm2=>hK _ _ _ _ h2 (hm1.trans hm2) ?_ (bout (x:=x) (y:=y) rfl ⟨-1,rfl⟩)
  split
  ·decide
  ·exact ha
theorem Qd {x y:Int} (h:BdR n bb ar ab X F w st) (hx:Sm x) (hy:Sm y)
  (hK:∀w' F' st' r,BdR n bb ar ab X F' w' st'→Mv F w F' w'→Sm r→M.Bd.Out n (.xor x y .ret) st st' r→K (.int .i64 r) w'):
  vcall PP xe #[.pointer (some ⟨bb,0,none⟩),.int .i64 x,.int .i64 y] w K:=by
 apply KX;unfold ZU
 obtain⟨bc,hB,hC⟩:=h.blk
 cases st with
 |none=>
  simp only at hB
  simp(disch:=first|(simp only[push_cast];done)|omega) only[push_cast,hB.ld1,yw0]
  exact hK _ _ none (-1) h Mv.refl (by decide) ⟨rfl,-1,rfl⟩
 |some gs=>
  simp only at hB
  obtain⟨v,mb,hc,hbb,hF⟩:=hC gs rfl
  simp(disch:=first|(simp only[push_cast];done)|omega) only[push_cast,hB.ld0,hB.ld1,JP]
  refine cxor_spec hc hx hy fun w1 v1 hc1 hs1 hn1=>?_
  obtain⟨h1,hm1⟩:=h.pre hB hbb hF hc1 hs1 hn1
  have ha:=jn0 (n:=n) hc.few.1 hc.few.2 hx hy
  refine made_spec h1 fun w2 h2 hm2=>hK _ _ _ _ h2 (hm1.trans hm2) ?_ (bout (x:=x) (y:=y) rfl ⟨-1,rfl⟩)
  split
  ·decide
  ·exact ha
theorem xV {α:Type} {x y r:Int} {k:Int→M.Bd α} {a:α} {st st' st'':Option M.Gs} (h:M.Bd.Out n (.and x y .ret) st st' r) (h2:M.Bd.Out n (k r) st' st'' a):M.Bd.Out n (.and x y k) st st'' a:=M.Bd.Out.bind (f:=k) h h2
theorem ZI {α:Type} {x y r:Int} {k:Int→M.Bd α} {a:α} {st st' st'':Option M.Gs} (h:M.Bd.Out n (.xor x y .ret) st st' r) (h2:M.Bd.Out n (k r) st' st'' a):M.Bd.Out n (.xor x y k) st st'' a:=M.Bd.Out.bind (f:=k) h h2
theorem bor_spec {x y:Int} (h:BdR n bb ar ab X F w st) (hx:Sm x) (hy:Sm y)
  (hK:∀w' F' st' r,BdR n bb ar ab X F' w' st'→Mv F w F' w'→Sm r→M.Bd.Out n (M.orB x y) st st' r→K (.int .i64 r) w'):
  vcall PP xH #[.pointer (some ⟨bb,0,none⟩),.int .i64 x,.int .i64 y] w K:=by
 apply W6;unfold YA
 simp(disch:=omega) only[push_cast,zF,Int.zero_sub]
 refine jG h (by unfold Sm at*;omega) (by unfold Sm at*;omega) fun w1 F1 st1 r1 h1 hm1 hr1 ho1=>?_
 simp(disch:=omega) only[push_cast,zF,Int.zero_sub]
 exact hK _ _ _ _ h1 hm1 (by unfold Sm at*;omega) (xV ho1 (M.Bd.Out.ret _ _))
theorem bmux_spec {c x y:Int} (h:BdR n bb ar ab X F w st) (hc:Sm c) (hx:Sm x) (hy:Sm y)
  (hK:∀w' F' st' r,BdR n bb ar ab X F' w' st'→Mv F w F' w'→Sm r→M.Bd.Out n (M.muxB c x y) st st' r→K (.int .i64 r) w'):
  vcall PP yC #[.pointer (some ⟨bb,0,none⟩),.int .i64 c,.int .i64 x,.int .i64 y] w K:=by
 apply KZ;unfold ZW
 refine jG h hc hx fun w1 F1 st1 r1 h1 hm1 hr1 ho1=>?_
 simp(disch:=omega) only[push_cast,zF,Int.zero_sub]
 refine jG h1 (by unfold Sm at*;omega) hy fun w2 F2 st2 r2 h2 hm2 hr2 ho2=>?_
 refine bor_spec h2 hr1 hr2 fun w3 F3 st3 r3 h3 hm3 hr3 ho3=>?_
 exact hK _ _ _ _ h3 (hm1.trans (hm2.trans hm3)) hr3 (xV ho1 (xV ho2 ho3))
end Go.Proofs.YtaekfnbnhjgboaaGreatDoor
end
section
namespace Go.Vc
open Go
section
variable {P:Program} {w w':World} {K:Value→World→Prop} {F:Nat→Prop} {t:TypeId} {v:Value}
theorem Sl.cutLH {k lo hi:Nat} {xs:List (List Value)} {kl kh:IntKind} (h:Sl F w k v xs) (ht:elB P t k=true) (hl:lo≤hi) (hh:hi≤xs.length) (hK:∀v',Sl F w k v' ((xs.drop lo).take (hi-lo))→K v' w'):
  yq P t v (some (.int kl lo)) (some (.int kh hi)) none w' K:=by
 obtain⟨hu,hs⟩:=UB ht
 obtain⟨⟨a,c,rfl,hc,hcm,hcell⟩,hw⟩:=h
 have hlen:((xs.drop lo).take (hi-lo)).length=hi-lo:=by rw[List.length_take,List.length_drop];omega
 refine⟨_,w',?_,hK (sliced a lo hi c k) ⟨⟨_,c-lo,by unfold sliced;rw[hlen],by omega,by omega,fun hne=>?_⟩,fun x hx=>hw x (List.mem_of_mem_drop (List.mem_of_mem_take hx))⟩⟩
 ·rw[run_sliceAt_slice w' t _ _ _ _ hu,run_slice_lh w' t _ _ _ hu kl kh lo hi (by omega) (by omega) (by omega),run_sizeOf hs]
  simp[Result.andThen]
 ·have hlt:lo<hi:=by
   have:0<((xs.drop lo).take (hi-lo)).length:=List.length_pos_iff.2 hne
   omega
  obtain⟨b,o,rfl,hF,hb,hcc⟩:=hcell (fun e=>by rw[e] at hh;simp at hh;omega)
  refine⟨b,o+lo*k,?_,hF,hb,fun i hi'=>?_⟩
  ·rw[if_neg (by omega)];simp[xh]
  ·rw[hlen] at hi'
   have:=hcc (lo+i) (by omega)
   rw[show o+lo*k+i*k=o+(lo+i)*k by rw[Nat.add_mul];omega]
   rwa[List.getD_eq_getElem?_getD,List.getElem?_take_of_lt hi',List.getElem?_drop,←List.getD_eq_getElem?_getD]
theorem Vals.cutLH {lo hi:Nat} {vs:List Value} {kl kh:IntKind} (h:Vals F w v vs) (ht:elB P t 1=true) (hl:lo≤hi) (hh:hi≤vs.length) (hK:∀v',Vals F w v' ((vs.drop lo).take (hi-lo))→K v' w'):
  yq P t v (some (.int kl lo)) (some (.int kh hi)) none w' K:=by
 refine Sl.cutLH h ht hl (by simpa using hh) fun v' h'=>hK v' ?_
 unfold Vals
 rw[List.map_take,List.map_drop];exact h'
theorem Ints.cutLH {lo hi:Nat} {xs:List Int} {kl kh:IntKind} (h:Ints F w v xs) (ht:elB P t 1=true) (hl:lo≤hi) (hh:hi≤xs.length) (hK:∀v',Ints F w v' ((xs.drop lo).take (hi-lo))→K v' w'):
  yq P t v (some (.int kl lo)) (some (.int kh hi)) none w' K:=by
 refine Vals.cutLH h ht hl (by simpa using hh) fun v' h'=>hK v' ?_
 unfold Ints
 rw[List.map_take,List.map_drop];exact h'
theorem blk_from {b n lo:Nat} {kl:IntKind} (ht:elB P t 1=true) (hl:lo≤n):
  yq P t (.slice (some ⟨b,0,none⟩) n n) (some (.int kl lo)) none none w K=K (.slice (some ⟨b,if n=lo then 0 else lo,none⟩) (n-lo) (n-lo)) w:=by
 obtain⟨hu,hs⟩:=UB ht
 refine yr ?_
 rw[run_sliceAt_slice w t _ _ _ _ hu,run_slice_l w t _ _ _ hu kl lo (by omega) (by omega),run_sizeOf hs]
 simp only[Result.andThen,sliced,Int.toNat_natCast]
 by_cases c:n=lo
 ·simp[c]
 ·simp[c,xh]
theorem blk_to {b n hi:Nat} {kl:IntKind} (ht:elB P t 1=true) (hl:hi≤n):
  yq P t (.slice (some ⟨b,0,none⟩) n n) none (some (.int kl hi)) none w K=K (.slice (some ⟨b,0,none⟩) hi n) w:=by
 obtain⟨hu,hs⟩:=UB ht
 refine yr ?_
 rw[run_sliceAt_slice w t _ _ _ _ hu,run_slice_h w t _ _ _ hu kl hi (by omega) (by omega),run_sizeOf hs]
 simp[Result.andThen,sliced,xh]
theorem qu0 {e n:Nat} (h:jU P e n=true):(P.info? e).map (·.size)=some n:=by
 unfold jU at h
 cases hi:P.info? e with
 |none=>rw[hi] at h;cases h
 |some i=>rw[hi] at h;simp[Nat.eq_of_beq_eq_true h]
theorem vcopy {t2 ty te:TypeId} {g off dLen dCap sLen sCap:Nat} {ad:Addr} {cur cs:List Value} (ht:elB P t 1=true) (hB:Blk w g cur te) (hn:cs.length=min sLen dLen)
  (hsrc:∀j u,cs[j]?=some u→w.cell? (ad.add j)=some u) (hfit:off+cs.length≤cur.length) (h1:∀u∈cs,u.oneCell'=true)
  (hK:∀w',Same (· =g) w w'→w'.heap.size=w.heap.size→Blk w' g (cur.take off++(cs++cur.drop (off+cs.length))) te→K (.int .i64 cs.length) w'):
  vbi P .copy [t,t2] ty [.slice (some ⟨g,off,none⟩) dLen dCap,.slice (some ad) sLen sCap] w K:=by
 obtain⟨hu,hs⟩:=UB ht
 have hr:=run_copy_row (P:=P) w t t2 ty (P.elem t) g off dLen dCap ad sLen sCap ⟨cur⟩ te cs hu (qu0 hs) hB hn hsrc (by simpa using hfit) h1
 refine⟨_,_,hr,hK _ ⟨rfl,rfl,rfl,by simp[World.setRow],fun k hk hne=>setRow_other w g k _ hne⟩ (by simp[World.setRow]) ?_⟩
 have hlt:=hB.lt
 have hB':w.heap[g]?=some (.cells ⟨cur⟩ te (0,0)):=hB
 unfold Blk World.setRow
 simp only[Array.getElem?_modify]
 simp[hB',List.append_assoc]
theorem qQ0 {t2 ty:TypeId} {d a:Option Addr} {dLen dCap sLen sCap:Nat} (ht:elB P t 1=true) (hn:min sLen dLen=0):vbi P .copy [t,t2] ty [.slice d dLen dCap,.slice a sLen sCap] w K=K (.int .i64 0) w:=by
 obtain⟨hu,hs⟩:=UB ht
 exact yr (run_copy_none (P:=P) w t t2 ty (P.elem t) d a dLen dCap sLen sCap hu (qu0 hs) hn)
theorem vmkS_blk {bs n:Nat} {z:Value} {k1 k2:IntKind} {e:TypeId} (hT:elZ P t 1 bs=true) (he:Jh P t=e) (hz:yK P e z) (hzc:z.cells= #[z]) (h48:bs*n≤281474976710656) (h63:n≤9223372036854775807)
  (hK:∀b w',b=w.heap.size→Blk w' b (List.replicate n z) e→Ext w w'→K (.slice (some ⟨b,0,none⟩) n n) w'):kP0 P t (.int k1 n) (.int k2 n) w K:=by
 obtain⟨hu,i,z',hi,hz',hsz,hby,hzs⟩:=xw0 hT
 subst he
 have:z'=z:=by
  unfold yK at hz;rw[hi] at hz;simp only[hz',Option.some.injEq] at hz;exact hz
 subst this
 subst hby
 obtain⟨w',hr,hown,hgr⟩:=run_make_full (P:=P) w 0 t (Jh P t) i z' 1 hu hi hz' hsz k1 k2 n h48 (by simpa[maxLen] using h63) (by omega)
 refine⟨_,w',hr,hK _ w' rfl ?_ ((Same.of_grown hgr).mono fun _ _ h=>by cases h)⟩
 have e:(madeCells z'.cells (n*1)).toList=List.replicate n z':=by
  refine List.ext_getElem (by simp[madeCells]) fun j h1 h2=>?_
  simp[madeCells,hzc,Nat.mod_one]
 rw[e] at hown
 rcases hown.2 with⟨h,_⟩|⟨g,cap,cur,hv,hb,hg,hnc,hcm,hcs,htake⟩
 ·cases h
 ·cases hv
  unfold Blk
  rw[hg]
  have:cur.toList=List.replicate n z':=by rw[←htake,List.take_of_length_le (by rw[Array.length_toList,hcs];exact Nat.le_refl _)]
  rw[←this]
theorem vappend_make {bs n:Nat} {ti ty:TypeId} {z:Value} {e:TypeId} (hT:elZ P t 1 bs=true) (he:Jh P t=e) (hz:yK P e z) (hzc:z.cells= #[z]) (hti:P.underlying ti=some (.int .i64)) (h0:0<n) (h63:n≤1000000) (h48:n*bs≤140737488355328)
  (hK:∀v' w',OwnV P t w' v' (List.replicate n z)→Ext w w'→(∀b,v'.ownBlock=some b→w.heap.size≤b)→K v' w'):vbi P .append [t,ti] ty [.slice none 0 0,.int .i64 n] w K:=by
 obtain⟨hu,i,z',hi,hz',hsz,hby,hzs⟩:=xw0 hT
 subst he
 have:z'=z:=by
  unfold yK at hz;rw[hi] at hz;simp only[hz',Option.some.injEq] at hz;exact hz
 subst this
 subst hby
 have h48'':n*i.bytes≤281474976710656:=by omega
 have hnm:n≤maxLen:=by simp only[maxLen];omega
 have hn:n≠0:=by omega
 have hw:IntKind.i64.wrap (n:Int)=n:=zF (by omega) (by simp only[maxLen] at hnm;omega)
 have h63': ¬(9223372036854775807<(n:Int)):=by simp only[maxLen] at hnm;omega
 have h48': ¬(281474976710656<Builtin.nextslicecap n 0*i.bytes):=by rw[nextslicecap_zero h0];omega
 have h49: ¬((281474976710656:Int)<(n:Int)*i.bytes):=by
  have h:((n*i.bytes:Nat):Int)≤281474976710656:=by omega
  rw[Int.natCast_mul] at h
  omega
 have hr:(Builtin.append_ #[t,ti] ty #[.slice none 0 0,.int .i64 n]).run P w=
   .ok (.slice (some ⟨w.heap.size,0,none⟩) n (grownCap w n 0 (Jh P t))) (w.drew.alloc (.cells (Builtin.zeroCells z'.cells n++Builtin.zeroCells z'.cells (grownCap w n 0 (Jh P t)-n)) (Jh P t))):=by
  simp[Builtin.append_,run_underlying hu,run_underlying hti,sizeOf,typeInfo,zeroValue,hi,hz',hsz,hn,hw,h63',h48',h49,asInt,asIntOf,Question.forced,run_firstCells_none,newRow,grownCap]
  intro h
  omega
 have hge:=grownCap_ge w n 0 (Jh P t)
 have hcm:grownCap w n 0 (Jh P t)≤maxLen:=grownCap_le_maxLen w n 0 (Jh P t) hnm
 have hzc2:∀m,(Builtin.zeroCells z'.cells m).toList=List.replicate m z':=fun m=>by
  refine List.ext_getElem (by simp[Builtin.zeroCells,hzs]) fun j h1 h2=>?_
  simp[Builtin.zeroCells,hzc,Nat.mod_one]
 refine⟨_,_,hr,hK _ _ ⟨⟨by simp,.inr ⟨w.heap.size,_,_,by simp,Nat.zero_le _,heap_alloc_new w.drew _,by simpa using hge,hcm,?_,?_⟩⟩,by simp⟩ ⟨rfl,rfl,rfl,by simp,fun k hk _=>heap_alloc_old w.drew _ hk⟩ fun b hb=>by cases hb;exact Nat.le_refl _⟩
 ·simp only[Array.size_append,size_zeroCells,hzs];omega
 ·rw[Array.toList_append,hzc2,hzc2,flat1]
  simp
end
section
open Go.MapKept
theorem jq0 {P:Program} {w:World} {K:Value→World→Prop} {t e:TypeId} {d:TypeDesc} {b:Nat} {f:List (Value×Value)} {k x:Value} (hT:Zc0 P t d e) (h:MapF d w b f) (hk:IsKey d k)
  (hK:∀w' f',MapF d w' b f'→(∀p,p∈f'→p=(k,x)∨p∈f)→Same (· =b) w w'→w'.heap.size=w.heap.size→K undef w'):kF P t (.map (some b)) k x w K:=by
 obtain⟨kt,hm,hd⟩:=hT
 obtain⟨es,cl,hb,hst,hks,rfl⟩:=h
 rcases findNow_spec hk es.toList 0 hks with⟨h1,h2⟩|⟨j,e,h1,h2,h3⟩
 ·refine⟨(),{w with heap:=w.heap.setIfInBounds b (.map (es.push {key:=k,val:=x,born:=cl}) (cl+1))},?_,hK _ _ ⟨_,_,(heap_set hb).1,stamped_push hst h2,fun y hy=>?_,rfl⟩ (fun p hp=>?_) (U3 hb) (by simp)⟩
  ·simp[Instr.mapUpdate,run_underlying hm,MapKept.run_getObj_map hb,run_checkKey hd hk,run_findKey hd h1,run_setObj_map _ hb,Result.andThen]
  ·rw[Array.toList_push] at hy
   rcases List.mem_append.1 hy with hy|hy
   ·exact hks y hy
   ·rw[List.mem_singleton.1 hy];exact hk
  ·rw[Array.toList_push,List.map_append] at hp
   rcases List.mem_append.1 hp with hp|hp
   ·exact .inr hp
   ·exact .inl (by simpa using hp)
 ·have h2':es[j]?=some e:=by simpa using h2
  have hf:∀y∈es.toList,es[0+j]?=some y→({y with key:=k,val:=x}:MapEntry).key=y.key:=fun y _ hy=>by
   rw[Nat.zero_add,h2'] at hy;cases hy;exact h3.symm
  have hmem:∀y∈(es.modify (0+j) fun y=>{y with key:=k,val:=x}).toList,(y.key=k∧y.val=x)∨y∈es.toList:=fun y hy=>by
   obtain⟨i,hi,e1⟩:=List.getElem_of_mem hy
   have e2:(es.modify (0+j) fun y=>{y with key:=k,val:=x})[i]?=some y:=by
    rw[←Array.getElem?_toList,List.getElem?_eq_getElem hi,e1]
   rw[Array.getElem?_modify] at e2
   split at e2
   ·cases hq:es[i]? with
    |none=>rw[hq] at e2;cases e2
    |some z=>rw[hq] at e2;simp only[Option.map_some,Option.some.injEq] at e2;left;rw[←e2];exact⟨rfl,rfl⟩
   ·right
    rw[←Array.getElem?_toList] at e2
    exact List.mem_of_getElem? e2
  refine⟨(),{w with heap:=w.heap.setIfInBounds b (.map (es.modify (0+j) fun y=>{y with key:=k,val:=x}) cl)},?_,hK _ _ ⟨_,_,(heap_set hb).1,stamped_modify hst _ _ (fun _ _=>rfl) hf,fun y hy=>?_,rfl⟩ (fun p hp=>?_) (U3 hb) (by simp)⟩
  ·have hkk:((es[0+j]?).map (·.key)).getD k=k:=by rw[Nat.zero_add,h2'];exact h3
   simp only[Instr.mapUpdate,Sem.run_bind,run_underlying hm,MapKept.run_getObj_map hb,run_checkKey hd hk,run_findKey hd h1,Result.andThen,hkk,run_keyThatStays hk,run_setObj_map _ hb]
  ·rcases hmem y hy with⟨h4,_⟩|h4
   ·rw[h4];exact hk
   ·exact hks y h4
  ·obtain⟨y,hy,rfl⟩:=List.mem_map.1 hp
   rcases hmem y hy with⟨h4,h5⟩|h4
   ·exact .inl (by rw[h4,h5])
   ·exact .inr (List.mem_map.2 ⟨y,h4,rfl⟩)
end
end Go.Vc
end
section
namespace Go.Proofs.YtaekfnbnhjgboaaGreatDoor
open Go Go.Vc Go.Proofs
variable {w:World} {K:Value→World→Prop} {F F' Fx Fy X:Nat→Prop} {n bc mb bb:Nat} {gs:M.Gs} {v:Value} {ar ab:Addr} {st:Option M.Gs}
def SmL (xs:List Int):Prop:=∀x,x∈xs→Sm x
theorem SmL.get {xs:List Int} (h:SmL xs) {i:Nat} (hi:i<xs.length):Sm (xs.getD i 0):=h _ (M.getD_mem hi 0)
theorem SmL.app {xs ys:List Int} (h:SmL xs) (h2:SmL ys):SmL (xs++ys):=fun x hx=>(List.mem_append.1 hx).elim (h x) (h2 x)
theorem SmL.one {x:Int} (h:Sm x):SmL [x]:=fun y hy=>by rw[List.mem_singleton.1 hy];exact h
theorem SmL.nil:SmL []:=fun x hx=>by cases hx
theorem xt {xs:List Int} {i:Nat} (hi:i<xs.length):xs.drop i=xs.getD i 0::xs.drop (i+1):=by
 rw[List.drop_eq_getElem_cons hi,List.getD_eq_getElem?_getD,List.getElem?_eq_getElem hi];rfl
theorem jC0 {i:Nat} {xs ys:List Int} {c:Int} (h:xs.length≤i):M.sumB (xs.drop i) ys c= .ret []:=by
 rw[List.drop_eq_nil_of_le h];cases ys<;>rfl
theorem bsum_spec {xv yv:Value} {xs ys:List Int} {c:Int} (h:BdR n bb ar ab X F w st) (hx:Ints (Off X F) w xv xs) (hy:Ints (Off X F) w yv ys) (hl:xs.length≤ys.length) (h8:xs.length≤1000) (hxs:SmL xs) (hys:SmL ys) (hc:Sm c)
  (hK:∀w' F' st' r zs,BdR n bb ar ab X F' w' st'→Mv F w F' w'→NewI X w F' w' r zs→SmL zs→M.Bd.Out n (M.sumB xs ys c) st st' zs→K r w'):
  vcall PP xf #[.pointer (some ⟨bb,0,none⟩),xv,yv,.int .i64 c] w K:=by
 apply KY;unfold ZV
 simp(disch:=first|(simp only[push_cast];done)|omega) only[push_cast,hx.len]
 refine vloop_up xs.length (fun i u w'=> ∃F1 st1 r zs c1,u=[.int .i64 c1,r,.int .i64 i]∧BdR n bb ar ab X F1 w' st1∧Mv F w F1 w'∧NewI X w F1 w' r zs∧SmL zs∧zs.length=i∧Sm c1∧
  ∀st2 rs,M.Bd.Out n (M.sumB (xs.drop i) (ys.drop i) c1) st1 st2 rs→M.Bd.Out n (M.sumB xs ys c) st st2 (zs++rs)) ⟨F,st,_,[],c,rfl,h,Mv.refl,NewI.nil,SmL.nil,rfl,hc,fun _ _ h=>h⟩ ?_
 rintro i _ g w1 C hi ⟨F1,st1,r,zs,c1,rfl,h1,hm1,hr1,hz1,hzl,hc1,hout⟩ hC
 simp only[push_cast]
 refine zh (fun hlt=>?_) (fun hge=>?_)
 ·have hi':i<xs.length:=by omega
  refine zr fun w2 he2 _=>?_
  have h2:=h1.ext he2
  have hm2:=hm1.ext he2
  have hx2:=Ints.mv hx hm2
  have hy2:=Ints.mv hy hm2
  simp(disch:=first|(simp only[push_cast];done)|omega) only[push_cast,hx2.iaddr,hx2.load,hy2.iaddr,hy2.load,true_and]
  refine Qd h2 (hxs.get hi') (hys.get (by omega)) fun w3 F3 st3 d h3 hm3 hd ho3=>?_
  refine Qd h3 hd hc1 fun w4 F4 st4 s h4 hm4 hs ho4=>?_
  refine yc yO yj yp rfl rfl fun b5 w5 hb5 he5 hz5 hB5=>?_
  have hm5:=(hm2.trans (hm3.trans hm4)).ext he5
  have h5:=h4.ext he5
  have hr5:NewI X w F4 w5 r zs:=(hr1.mv ((Mv.refl.ext he2).trans (hm3.trans hm4))).mv (Mv.refl.ext he5)
  refine hr5.app1 hB5 hm5.same.size h5.lt (by omega) fun r6 w6 hr6 hs6=>?_
  have h6:BdR n bb ar ab X F4 w6 st4:=h5.upd h.err hs6 fun b hb=>hr5.off b hb
  have hm6:Mv F w F4 w6:=hm5.to hs6 fun b hb=> .inr (hr5.off b hb).1
  refine zr fun w7 he7 _=>?_
  have h7:=h6.ext he7
  have hm7:=hm6.ext he7
  have hx7:=Ints.mv hx hm7
  have hy7:=Ints.mv hy hm7
  simp(disch:=first|(simp only[push_cast];done)|omega) only[push_cast,hx7.iaddr,hx7.load,hy7.iaddr,hy7.load,true_and]
  refine jG h7 (hxs.get hi') (hys.get (by omega)) fun w8 F8 st8 p h8 hm8 hp ho8=>?_
  refine jG h8 hd hc1 fun w9 F9 st9 q h9 hm9 hq ho9=>?_
  refine bor_spec h9 hp hq fun w10 F10 st10 c2 h10 hm10 hc2 ho10=>?_
  simp(disch:=omega) only[push_cast,zF]
  have hm:=hm8.trans (hm9.trans hm10)
  refine hC hi' _ _ ⟨F10,st10,r6,zs++[s],c2,by simp<;>exact⟨rfl,rfl⟩,h10,hm7.trans hm,(hr6.mv (Mv.refl.ext he7)).mv hm,hz1.app (SmL.one hs),by simp[hzl],hc2,fun st2 rs ho=>?_⟩
  have:=hout st2 (s::rs) ?_
  ·simpa using this
  rw[xt hi',xt (show i<ys.length by omega)]
  exact ZI ho3 (ZI ho4 (xV ho8 (xV ho9 (M.Bd.Out.bind ho10 (M.Bd.Out.map _ ho)))))
 ·have:=hout st1 [] (by rw[jC0 (by omega)];exact M.Bd.Out.ret _ _)
  rw[List.append_nil] at this
  exact hK w1 F1 st1 r zs h1 hm1 hr1 hz1 this
theorem qC0 {i:Nat} {xs ys:List Int} {r:Int} (h:xs.length≤i):M.lessB (xs.drop i) ys r= .ret r:=by
 rw[List.drop_eq_nil_of_le h];cases ys<;>rfl
theorem bless_spec {xv yv:Value} {xs ys:List Int} (h:BdR n bb ar ab X F w st) (hx:Ints (Off X F) w xv xs) (hy:Ints (Off X F) w yv ys) (hl:xs.length≤ys.length) (h8:xs.length≤1000) (hxs:SmL xs) (hys:SmL ys)
  (hK:∀w' F' st' r,BdR n bb ar ab X F' w' st'→Mv F w F' w'→Sm r→M.Bd.Out n (M.lessB xs ys (-1)) st st' r→K (.int .i64 r) w'):
  vcall PP xL #[.pointer (some ⟨bb,0,none⟩),xv,yv] w K:=by
 apply Kj;unfold ZE
 simp(disch:=first|(simp only[push_cast];done)|omega) only[push_cast,hx.len]
 refine vloop_up xs.length (fun i u w'=> ∃F1 st1 r,u=[.int .i64 r,.int .i64 i]∧BdR n bb ar ab X F1 w' st1∧Mv F w F1 w'∧Sm r∧
  ∀st2 q,M.Bd.Out n (M.lessB (xs.drop i) (ys.drop i) r) st1 st2 q→M.Bd.Out n (M.lessB xs ys (-1)) st st2 q) ⟨F,st,-1,rfl,h,Mv.refl,by decide,fun _ _ h=>h⟩ ?_
 rintro i _ g w1 C hi ⟨F1,st1,r,rfl,h1,hm1,hr1,hout⟩ hC
 simp only[push_cast]
 refine zh (fun hlt=>?_) (fun hge=>?_)
 ·have hi':i<xs.length:=by omega
  refine zr fun w2 he2 _=>?_
  have h2:=h1.ext he2
  have hm2:=hm1.ext he2
  have hx2:=Ints.mv hx hm2
  have hy2:=Ints.mv hy hm2
  simp(disch:=first|(simp only[push_cast];done)|omega) only[push_cast,hx2.iaddr,hx2.load,hy2.iaddr,hy2.load,true_and]
  refine Qd h2 (hxs.get hi') (hys.get (by omega)) fun w3 F3 st3 d h3 hm3 hd ho3=>?_
  have hy3:=Ints.mv hy2 hm3
  simp(disch:=first|(simp only[push_cast];done)|omega) only[push_cast,hy3.iaddr,hy3.load,true_and]
  refine bmux_spec h3 hd (hys.get (by omega)) hr1 fun w4 F4 st4 s h4 hm4 hs ho4=>?_
  simp(disch:=omega) only[push_cast,zF]
  refine hC hi' _ _ ⟨F4,st4,s,by simp<;>exact⟨rfl,rfl⟩,h4,hm2.trans (hm3.trans hm4),hs,fun st2 q ho=>hout st2 q ?_⟩
  rw[xt hi',xt (show i<ys.length by omega)]
  exact ZI ho3 (M.Bd.Out.bind ho4 ho)
 ·exact hK w1 F1 st1 r h1 hm1 hr1 (hout st1 r (by rw[qC0 (by omega)];exact M.Bd.Out.ret _ _))
theorem qv0 {i:Nat} {xs ys:List Int} {r:Int} (h:xs.length≤i):M.sameB (xs.drop i) ys r= .ret r:=by
 rw[List.drop_eq_nil_of_le h];cases ys<;>rfl
theorem bsame_spec {xv yv:Value} {xs ys:List Int} (h:BdR n bb ar ab X F w st) (hx:Ints (Off X F) w xv xs) (hy:Ints (Off X F) w yv ys) (hl:xs.length≤ys.length) (h8:xs.length≤1000) (hxs:SmL xs) (hys:SmL ys)
  (hK:∀w' F' st' r,BdR n bb ar ab X F' w' st'→Mv F w F' w'→Sm r→M.Bd.Out n (M.sameB xs ys 1) st st' r→K (.int .i64 r) w'):
  vcall PP jd #[.pointer (some ⟨bb,0,none⟩),xv,yv] w K:=by
 apply Kg;unfold ZB
 simp(disch:=first|(simp only[push_cast];done)|omega) only[push_cast,hx.len]
 refine vloop_up xs.length (fun i u w'=> ∃F1 st1 r,u=[.int .i64 r,.int .i64 i]∧BdR n bb ar ab X F1 w' st1∧Mv F w F1 w'∧Sm r∧
  ∀st2 q,M.Bd.Out n (M.sameB (xs.drop i) (ys.drop i) r) st1 st2 q→M.Bd.Out n (M.sameB xs ys 1) st st2 q) ⟨F,st,1,rfl,h,Mv.refl,by decide,fun _ _ h=>h⟩ ?_
 rintro i _ g w1 C hi ⟨F1,st1,r,rfl,h1,hm1,hr1,hout⟩ hC
 simp only[push_cast]
 refine zh (fun hlt=>?_) (fun hge=>?_)
 ·have hi':i<xs.length:=by omega
  refine zr fun w2 he2 _=>?_
  have h2:=h1.ext he2
  have hm2:=hm1.ext he2
  have hx2:=Ints.mv hx hm2
  have hy2:=Ints.mv hy hm2
  simp(disch:=first|(simp only[push_cast];done)|omega) only[push_cast,hx2.iaddr,hx2.load,hy2.iaddr,hy2.load,true_and]
  refine Qd h2 (hxs.get hi') (hys.get (by omega)) fun w3 F3 st3 d h3 hm3 hd ho3=>?_
  simp(disch:=omega) only[push_cast,zF,Int.zero_sub]
  refine jG h3 hr1 (by unfold Sm at*;omega) fun w4 F4 st4 s h4 hm4 hs ho4=>?_
  try simp(disch:=omega) only[push_cast,zF]
  refine hC hi' _ _ ⟨F4,st4,s,by simp<;>exact⟨rfl,rfl⟩,h4,hm2.trans (hm3.trans hm4),hs,fun st2 q ho=>hout st2 q ?_⟩
  rw[xt hi',xt (show i<ys.length by omega)]
  exact ZI ho3 (xV ho4 ho)
 ·exact hK w1 F1 st1 r h1 hm1 hr1 (hout st1 r (by rw[qv0 (by omega)];exact M.Bd.Out.ret _ _))
theorem Clone_signal {xv:Value} {xs:List Int} (hx:Ints Fx w xv xs) (hsm:xs.length≤1000000) (hK:∀w' v',Ext w w'→OwnI PP z7 w' v' xs→(∀x,v'.ownBlock=some x→w.heap.size≤x)→K v' w'):
  vcall PP zZ #[xv] w K:=by
 apply qK;unfold xD
 obtain⟨a,c,rfl,hc,hcm,hcell⟩:=hx.shape
 simp only[List.length_map] at hx hc⊢
 rw[zY0 xr]
 refine xl (fun hn=>?_) (fun hn=>?_)
 ·cases a with
  |some a=>cases hn
  |none=>
   have hxs:xs=[]:=by
    have h0:(List.map (fun x=>[x]) (List.map (fun x=>Value.int IntKind.i64 x) xs))=[]:=Classical.byContradiction fun h=>by
     obtain⟨b,o,h1,_⟩:=hcell h;cases h1
    simpa using h0
   subst hxs
   exact hK w _ (Same.refl _ _) OwnI.nil fun x hx=>by cases hx
 ·refine qt yO yj fun b w1 hb he hz hB=>?_
  have hown:OwnI PP z7 w1 (.slice (some ⟨b,0,none⟩) 0 0) []:=Blk.own1 (P:=PP) (t:=z7) (cs:=[]) (by rw[xg];exact hB) (Nat.zero_le _) rfl rfl (by omega)
  have hx1:Ints Fx w1 (.slice a xs.length c) xs:=hx.ext he
  refine hown.app yQ hx1 (by simp;omega) (by simp;omega) fun v' w2 ho hs hn2=>?_
  have hsz:=he.size
  refine hK w2 v' (Ext.then he hs fun x hx=>by have e:b=x:=Option.some.inj hx;omega) ho fun x hx=>?_
  rcases hn2 x hx with h|h
  ·have e:b=x:=Option.some.inj h;omega
  ·omega
end Go.Proofs.YtaekfnbnhjgboaaGreatDoor
end
section
namespace Go.Proofs.YtaekfnbnhjgboaaGreatDoor
open Go Go.Vc Go.Proofs
variable {w:World} {K:Value→World→Prop} {F F' Fx Fy X:Nat→Prop} {n bc mb bb:Nat} {gs:M.Gs} {v:Value} {ar ab:Addr} {st:Option M.Gs}
def YD0 (n bb:Nat) (ar ab:Addr) (X F:Nat→Prop) (w:World) (f:Value) (p:Int→Int→M.Bd Int):Prop:=
 ∀(w1:World) (F1:Nat→Prop) (st1:Option M.Gs) (x y:Int) (K:Value→World→Prop),BdR n bb ar ab X F1 w1 st1→Mv F w F1 w1→Sm x→Sm y→
  (∀w' F' st' r,BdR n bb ar ab X F' w' st'→Mv F1 w1 F' w'→Sm r→M.Bd.Out n (p x y) st1 st' r→K (.int .i64 r) w')→vcallv PP f #[.int .i64 x,.int .i64 y] w1 K
theorem QB {p:Int→Int→M.Bd Int} {i:Nat} {xs ys:List Int} (h:xs.length≤i):M.eachB p (xs.drop i) ys= .ret []:=by
 rw[List.drop_eq_nil_of_le h];cases ys<;>rfl
theorem each_spec {p:Int→Int→M.Bd Int} {xv yv f:Value} {xs ys:List Int} (h:BdR n bb ar ab X F w st) (hx:Ints (Off X F) w xv xs) (hy:Ints (Off X F) w yv ys) (hl:xs.length≤ys.length) (h8:xs.length≤1000) (hxs:SmL xs) (hys:SmL ys)
  (hf:YD0 n bb ar ab X F w f p)
  (hK:∀w' F' st' r zs,BdR n bb ar ab X F' w' st'→Mv F w F' w'→NewI X w F' w' r zs→SmL zs→M.Bd.Out n (M.eachB p xs ys) st st' zs→K r w'):
  vcall PP j8 #[xv,yv,f] w K:=by
 apply UM;unfold Kr
 simp(disch:=first|(simp only[push_cast];done)|omega) only[push_cast,hx.len]
 refine vloop_up xs.length (fun i u w'=> ∃F1 st1 r zs,u=[r,.int .i64 i]∧BdR n bb ar ab X F1 w' st1∧Mv F w F1 w'∧NewI X w F1 w' r zs∧SmL zs∧zs.length=i∧
  ∀st2 rs,M.Bd.Out n (M.eachB p (xs.drop i) (ys.drop i)) st1 st2 rs→M.Bd.Out n (M.eachB p xs ys) st st2 (zs++rs)) ⟨F,st,_,[],rfl,h,Mv.refl,NewI.nil,SmL.nil,rfl,fun _ _ h=>h⟩ ?_
 rintro i _ g w1 C hi ⟨F1,st1,r,zs,rfl,h1,hm1,hr1,hz1,hzl,hout⟩ hC
 simp only[push_cast]
 refine zh (fun hlt=>?_) (fun hge=>?_)
 ·have hi':i<xs.length:=by omega
  refine zr fun w2 he2 _=>?_
  have h2:=h1.ext he2
  have hm2:=hm1.ext he2
  have hx2:=Ints.mv hx hm2
  have hy2:=Ints.mv hy hm2
  simp(disch:=first|(simp only[push_cast];done)|omega) only[push_cast,hx2.iaddr,hx2.load,hy2.iaddr,hy2.load,true_and]
  refine hf w2 F1 st1 _ _ _ h2 hm2 (hxs.get hi') (hys.get (by omega)) fun w4 F4 st4 s h4 hm4 hs ho4=>?_
  refine yc yO yj yp rfl rfl fun b5 w5 hb5 he5 hz5 hB5=>?_
  have hm5:=(hm2.trans hm4).ext he5
  have h5:=h4.ext he5
  have hr5:NewI X w F4 w5 r zs:=(hr1.mv ((Mv.refl.ext he2).trans hm4)).mv (Mv.refl.ext he5)
  refine hr5.app1 hB5 hm5.same.size h5.lt (by omega) fun r6 w6 hr6 hs6=>?_
  have h6:BdR n bb ar ab X F4 w6 st4:=h5.upd h.err hs6 fun b hb=>hr5.off b hb
  have hm6:Mv F w F4 w6:=hm5.to hs6 fun b hb=> .inr (hr5.off b hb).1
  simp(disch:=omega) only[push_cast,zF]
  refine hC hi' _ _ ⟨F4,st4,r6,zs++[s],by simp<;>exact⟨rfl,rfl⟩,h6,hm6,hr6,hz1.app (SmL.one hs),by simp[hzl],fun st2 rs ho=>?_⟩
  have:=hout st2 (s::rs) ?_
  ·simpa using this
  rw[xt hi',xt (show i<ys.length by omega)]
  exact M.Bd.Out.bind ho4 (M.Bd.Out.map _ ho)
 ·have:=hout st1 [] (by rw[QB (by omega)];exact M.Bd.Out.ret _ _)
  rw[List.append_nil] at this
  exact hK w1 F1 st1 r zs h1 hm1 hr1 hz1 this
theorem negated_spec {xv:Value} {xs:List Int} (hx:Ints Fx w xv xs) (h8:xs.length≤1000) (hxs:SmL xs)
  (hK:∀w' r,Ext w w'→OwnI PP z7 w' r (M.negL xs)→(∀b,r.ownBlock=some b→w.heap.size≤b)→K r w'):vcall PP qi #[xv] w K:=by
 apply zH0;unfold JD
 apply UM;unfold Kr
 simp(disch:=first|(simp only[push_cast];done)|omega) only[push_cast,hx.len]
 refine vloop_up xs.length (fun i u w'=> ∃r,u=[r,.int .i64 i]∧Ext w w'∧OwnI PP z7 w' r (M.negL (xs.take i))∧∀b,r.ownBlock=some b→w.heap.size≤b) ⟨_,rfl,Same.refl _ _,OwnI.nil,fun b hb=>by cases hb⟩ ?_
 rintro i _ g w1 C hi ⟨r,rfl,he1,ho1,hn1⟩ hC
 simp only[push_cast]
 refine zh (fun hlt=>?_) (fun hge=>?_)
 ·have hi':i<xs.length:=by omega
  refine zr fun w2 he2 _=>?_
  have hx2:=hx.ext (he1.trans he2)
  simp(disch:=first|(simp only[push_cast];done)|omega) only[push_cast,hx2.iaddr,hx2.load,true_and]
  refine WX ?_
  unfold Xn
  have hb:=hxs.get hi'
  simp(disch:=omega) only[push_cast,zF,Int.zero_sub]
  refine yc yO yj yp rfl rfl fun b5 w5 hb5 he5 hz5 hB5=>?_
  have he:=he1.trans (he2.trans he5)
  have hs5:=he.size
  refine(ho1.ext (he2.trans he5)).app1 yQ hB5 (by simp[M.negL];omega) (by simp[M.negL];omega) fun r6 w6 ho6 hs6 hn6=>?_
  try simp(disch:=omega) only[push_cast,zF]
  refine hC hi' _ _ ⟨r6,by simp<;>exact⟨rfl,rfl⟩,Ext.then he hs6 fun x hx=>hn1 x hx,?_,fun b hb=>(hn6 b hb).elim (hn1 b) fun h=>by omega⟩
  rw[M.take_add hi' 0]
  unfold M.negL at ho6⊢
  rw[List.map_append];exact ho6
 ·rw[List.take_of_length_le (by omega)] at ho1
  exact hK w1 r he1 ho1 hn1
theorem NewI.of {w':World} {r:Value} {zs:List Int} (h:OwnI PP z7 w' r zs) (hn:∀b,r.ownBlock=some b→w.heap.size≤b) (hF:∀b,F b∨X b→b<w.heap.size):NewI X w F w' r zs:=
 ⟨h,fun b hb=>⟨hn b hb,fun hf=>by have:=hn b hb;have:=hF b (.inl hf);omega⟩,fun b hb hf=>by have:=hn b hb;have:=hF b (.inr hf);omega⟩
theorem SmL.neg {xs:List Int} (h:SmL xs):SmL (M.negL xs):=fun x hx=>by
 obtain⟨y,hy,rfl⟩:=List.mem_map.1 hx
 have:=h y hy;unfold Sm at*;omega
theorem SmL.offs (m:Nat):SmL (M.offsL m):=fun x hx=>by rw[List.eq_of_mem_replicate hx];decide
end Go.Proofs.YtaekfnbnhjgboaaGreatDoor
end
section
namespace Go.Proofs.YtaekfnbnhjgboaaGreatDoor
open Go Go.Vc Go.Proofs
variable {w:World} {K:Value→World→Prop} {F F' Fx Fy X:Nat→Prop} {n bc mb bb:Nat} {gs:M.Gs} {v:Value} {ar ab:Addr} {st:Option M.Gs}
theorem y70 {t ty:TypeId} {a:Option Addr} {l c:Nat} (ht:isSl PP t=true):vbi PP .len [t] ty [.slice a l c] w K=K (.int .i64 l) w:=by
 obtain⟨e,he⟩:=yl0 ht
 exact yr (by simp[biSem,Builtin.len_,xP he,goInt])
theorem Yb0 {x:Value}:sl 0 [x]=x:=rfl
theorem u_and {m:Nat} (hm:m<4294967296) {c:Bool}:zp PP .and xi c (.int .u64 m) (.int .u64 4294967295) w K=K (.int .u64 m) w:=by
 have h:=XA (P:=PP) (w:=w) (K:=K) (c:=c) (t:=xi) (a:=m) (b:=4294967295) (by omega) (by decide)
 have e:m&&&4294967295=m:=by
  have:=Nat.and_two_pow_sub_one_eq_mod m 32
  rw[show 2^32-1=4294967295 from rfl] at this
  rw[this];exact Nat.mod_eq_of_lt hm
 rw[e] at h;exact h
theorem u_shr {m:Nat} (hm:m<4294967296) {c:Bool}:zp PP .shr xi c (.int .u64 m) (.int .u64 32) w K=K (.int .u64 0) w:=by
 have h:=qq0 (P:=PP) (w:=w) (K:=K) (c:=c) (t:=xi) (k:= .u64) (yk:= .u64) (x:=m) (y:=32) (by decide)
 have e:(m:Int)/2^min (32:Int).toNat IntKind.u64.bits=0:=by
  rw[show(2:Int)^min (32:Int).toNat IntKind.u64.bits=4294967296 from rfl];omega
 rw[e] at h;exact h
theorem wrapU' {x:Int} (h0:0≤x) (h:x<18446744073709551616):IntKind.u64.wrap x=x:=by
 have:=wrapU (n:=x.toNat) (by omega)
 rwa[show((x.toNat:Nat):Int)=x by omega] at this
theorem Mul_one {m:Nat} (hm:m≤1000) (hK:K (.tuple #[.int .u64 0,.int .u64 m]) w):vcall PP Zd #[.int .u64 1,.int .u64 m] w K:=by
 apply UH;unfold Qg
 apply W1;unfold Yv
 have a1:=fun(K:Value→World→Prop)=>u_and (w:=w) (K:=K) (m:=1) (by decide) (c:=true)
 have a2:=fun(K:Value→World→Prop)=>u_shr (w:=w) (K:=K) (m:=1) (by decide) (c:=true)
 have a3:=fun(K:Value→World→Prop)=>u_and (w:=w) (K:=K) (m:=m) (by omega) (c:=true)
 have a4:=fun(K:Value→World→Prop)=>u_shr (w:=w) (K:=K) (m:=m) (by omega) (c:=true)
 have a5:=fun(K:Value→World→Prop)=>u_and (w:=w) (K:=K) (m:=0) (by omega) (c:=true)
 have a6:=fun(K:Value→World→Prop)=>u_shr (w:=w) (K:=K) (m:=0) (by omega) (c:=true)
 simp only[Int.cast_ofNat_Int] at a1 a2 a5 a6
 simp(disch:=omega) only[a1,a2,a3,a4,a5,a6,push_cast,wrapU',Int.one_mul,Int.zero_mul,Int.mul_zero,Int.zero_add,Int.add_zero]
 exact hK
theorem Z60 {m k:Nat} {a:Value} {r:List Value} (h:k≤m):(List.replicate m a++r).take k=List.replicate k a:=by
 rw[List.take_append_of_le_length (by rw[List.length_replicate];exact h),List.take_replicate,Nat.min_eq_left h]
theorem Z70 {m k j:Nat} {a:Value} {r:List Value} (h:j=m+k):(List.replicate m a++r).drop j=r.drop k:=by
 subst h
 rw[←List.drop_drop,List.drop_left' (by rw[List.length_replicate])]
theorem Repeat_signal {x:Value} {m:Nat} {b0:Nat} {e0:TypeId} (hB:Blk w b0 [.int .i64 (-1)] e0) (hm:m≤1000) (hK:∀w' r,Ext w w'→OwnI PP z7 w' r (M.offsL m)→(∀b,r.ownBlock=some b→w.heap.size≤b)→K r w'):
  vcall PP yD #[.slice (some ⟨b0,0,none⟩) 1 1,.int .i64 m] w K:=by
 apply qr;unfold xp
 refine zX (fun u w'=>w'=w) ?_ ?_
 ·intro J hJ
  simp only[push_cast]
  refine zh (fun h=>?_) (fun h=>hJ _ _ rfl)
  omega
 rintro _ _ w' hw
 rw[hw]
 have hl0:∀K:Value→World→Prop,vbi PP .len [z7] zd [.slice (some ⟨b0,0,none⟩) 1 1] w K=K (.int .i64 (1:Nat)) w:=fun K=>y70 xr
 have c1:∀K:Value→World→Prop,Y3 PP zd Jj (.int .i64 (1:Nat)) w K=K (.int .u64 (1:Nat)) w:=fun K=>by
  rw[kk xc0 jZ0,wrapU (by decide)]
 have c2:∀K:Value→World→Prop,Y3 PP zd Jj (.int .i64 m) w K=K (.int .u64 m) w:=fun K=>by
  rw[kk xc0 jZ0,wrapU (by omega)]
 have c3:∀K:Value→World→Prop,Y3 PP Jj zd (.int .u64 m) w K=K (.int .i64 m) w:=fun K=>by
  rw[kk Ya0 Wp,wrapN (by omega)]
 rw[hl0,c1,c2]
 refine Mul_one hm ?_
 simp only[push_cast]
 refine zX (fun u w'=>w'=w) ?_ ?_
 ·intro J hJ
  refine zh (fun h=>?_) (fun h=>?_)
  ·omega
  refine zh (fun h=>?_) (fun h=>hJ _ _ rfl)
  omega
 rintro _ _ w' hw
 rw[hw]
 rw[c3]
 refine vmkS_blk (bs:=8) yQ xg yp rfl (by omega) (by omega) fun b w1 hb hB1 he1=>?_
 have hne:b0≠b:=by have:=hB.lt;omega
 have step:∀(k:Nat) (w2:World) (J:Value→World→Prop),0<m→k<m→Ext w w2→Blk w2 b (List.replicate k (.int .i64 (-1))++List.replicate (m-k) (.int .i64 0)) zo→∀(src:Addr) (sc sl:Nat) (ds:Nat),
   (∀j u,(List.replicate (min sl (m-k)) (Value.int .i64 (-1)))[j]?=some u→w2.cell? (src.add j)=some u)→
   (∀w3,Ext w w3→Blk w3 b (List.replicate (k+min sl (m-k)) (.int .i64 (-1))++List.replicate (m-(k+min sl (m-k))) (.int .i64 0)) zo→J (.int .i64 (min sl (m-k):Nat)) w3)→
   vbi PP .copy [z7,z7] zd [.slice (some ⟨b,k,none⟩) (m-k) ds,.slice (some src) sl sc] w2 J:=by
  intro k w2 J h0 hk he2 hB2 src sc sl ds hsrc hJ
  refine vcopy (cs:=List.replicate (min sl (m-k)) (.int .i64 (-1))) xc hB2 (by rw[List.length_replicate]) hsrc (by simp only[List.length_replicate,List.length_append];omega) (fun u hu=>by rw[List.eq_of_mem_replicate hu];rfl) fun w3 hs3 hz3 hB3=>?_
  rw[List.length_replicate]
  refine hJ w3 (Ext.then he2 hs3 fun x hx=>by omega) ?_
  rw[Z60 (Nat.le_refl _),Z70 (m:=k) (k:=min sl (m-k)) (by rw[List.length_replicate]),List.drop_replicate,←List.append_assoc,List.replicate_append_replicate] at hB3
  rw[show m-(k+min sl (m-k))=m-k-min sl (m-k) by omega]
  exact hB3
 have fin:∀(w2:World) (u:Value),Ext w w2→Blk w2 b (List.replicate m (.int .i64 (-1))) zo→K (.slice (some ⟨b,0,none⟩) m m) w2:=fun w2 _ he2 hB2=>by
  refine hK w2 _ he2 ?_ fun x hx=>by have e:b=x:=Option.some.inj hx;omega
  have:=Blk.own1 (P:=PP) (t:=z7) (base:=0) (n:=m) (c:=m) (cs:=List.replicate m (.int .i64 (-1))) (by rw[xg];exact hB2) (Nat.zero_le _) (by rw[List.length_replicate]) (by rw[List.length_replicate]) (by omega)
  unfold OwnI OwnV M.offsL
  rw[List.map_replicate]
  exact this
 have loop:∀(k:Nat) (w2:World),Ext w w2→Blk w2 b (List.replicate k (.int .i64 (-1))++List.replicate (m-k) (.int .i64 0)) zo→k≤m→(1≤k∨m=0)→
   yG [.int .i64 k] w2 fun C u_2 _ w_18=>
    vbi PP .len [z7] zd [.slice (some ⟨b,0,none⟩) m m] w_18 fun t36 w_19=>
    zp PP .lss zd false (sl 0 u_2) t36 w_19 fun t37 w_20=>
    vif t37 (
     y6 w_20 fun w_21=>
     yq PP z7 (.slice (some ⟨b,0,none⟩) m m) (some (sl 0 u_2)) none none w_21 fun t41 w_22=>w_22=w_21∧
     yq PP z7 (.slice (some ⟨b,0,none⟩) m m) none (some (sl 0 u_2)) none w_21 fun t44 w_23=>w_23=w_21∧
     vbi PP .copy [z7,z7] zd [t41,t44] w_21 fun t45 w_24=>
     zp PP .add zd false (sl 0 u_2) t45 w_24 fun t46 w_25=>w_25=w_24∧
     C [t46] w_24) (
     K (.slice (some ⟨b,0,none⟩) m m) w_20):=by
  intro k0 w2 he2 hB2 hk0 h1
  refine YL (fun r u w'=> ∃k:Nat,u=[.int .i64 k]∧r=m-k∧k≤m∧(1≤k∨m=0)∧Ext w w'∧Blk w' b (List.replicate k (.int .i64 (-1))++List.replicate (m-k) (.int .i64 0)) zo) (m-k0) ⟨k0,rfl,rfl,hk0,h1,he2,hB2⟩ ?_
  rintro r _ g w3 C ⟨k,rfl,rfl,hk,h1,he3,hB3⟩ hC
  rw[y70 xr]
  simp only[push_cast]
  refine zh (fun hlt=>?_) (fun hge=>?_)
  ·have hlt':k<m:=by omega
   refine zr fun w4 he4 _=>?_
   have hB4:=hB3.ext he4
   simp only[Yb0,blk_from xc (show k≤m by omega),blk_to xc (show k≤m by omega),true_and]
   rw[if_neg (by omega)]
   refine step k w4 _ (by omega) hlt' (he3.trans he4) hB4 ⟨b,0,none⟩ m k _ (fun j u hj=>?_) fun w5 he5 hB5=>?_
   ·have hjl:j<min k (m-k):=by have:=(List.getElem?_eq_some_iff.1 hj).1;rwa[List.length_replicate] at this
    rw[xh]
    refine hB4.cell ?_
    rw[Nat.zero_add,List.getElem?_append_left (by rw[List.length_replicate];omega)]
    rw[List.getElem?_replicate,if_pos (by omega)] at hj⊢
    exact hj
   ·simp(disch:=omega) only[push_cast,zF,true_and]
    exact hC (m-(k+min k (m-k))) _ _ (by omega) ⟨k+min k (m-k),by simp<;>rfl,rfl,by omega,by omega,he5,hB5⟩
  ·have:k=m:=by omega
   subst this
   rw[Nat.sub_self,List.replicate_zero,List.append_nil] at hB3
   exact fin w3 undef he3 hB3
 by_cases h0:m=0
 ·subst h0
  rw[qQ0 xc rfl]
  exact loop 0 w1 he1 hB1 (Nat.le_refl _) (.inr rfl)
 ·refine step 0 w1 _ (by omega) (by omega) he1 (by simpa using hB1) ⟨b0,0,none⟩ 1 1 m (fun j u hj=>?_) fun w2 he2 hB2=>?_
  ·have hjl:j<min 1 (m-0):=by have:=(List.getElem?_eq_some_iff.1 hj).1;rwa[List.length_replicate] at this
   have hj0:j=0:=by omega
   subst hj0
   rw[List.getElem?_replicate,if_pos (by omega)] at hj
   rw[xh]
   exact(hB.ext he1).cell hj
  ·exact loop _ w2 he2 (by simpa using hB2) (by omega) (.inl (by omega))
theorem offs_spec {m:Nat} (hm:m≤1000) (hK:∀w' r,Ext w w'→OwnI PP z7 w' r (M.offsL m)→(∀b,r.ownBlock=some b→w.heap.size≤b)→K r w'):vcall PP qA #[.int .i64 m] w K:=by
 apply qm0;unfold UY
 refine yc yO yj yp rfl rfl fun b w1 hb he1 hz1 hB1=>?_
 have:=he1.size
 exact Repeat_signal (x:=undef) hB1 hm fun w2 r he2 ho hn=>hK w2 r (he1.trans he2) ho fun x hx=>by have:=hn x hx;omega
end Go.Proofs.YtaekfnbnhjgboaaGreatDoor
end
section
namespace Go.Proofs.YtaekfnbnhjgboaaGreatDoor
open Go Go.Vc Go.Proofs
variable {w:World} {K:Value→World→Prop} {F F' Fx Fy X:Nat→Prop} {n bc mb bb:Nat} {gs:M.Gs} {v:Value} {ar ab:Addr} {st:Option M.Gs}
theorem choose_spec {c:Int} {xv yv:Value} {xs ys:List Int} (h:BdR n bb ar ab X F w st) (hne:∃gs,st=some gs) (hx:Ints (Off X F) w xv xs) (hy:Ints (Off X F) w yv ys) (hl:xs.length=ys.length) (h8:xs.length≤1000) (hxs:SmL xs) (hys:SmL ys) (hc:Sm c)
  (hK:∀w' F' st' r zs,BdR n bb ar ab X F' w' st'→Mv F w F' w'→Ints (Off X F') w' r zs→SmL zs→M.Bd.Out n (M.eachB (M.muxB c) xs ys) st st' zs→K r w'):
  vcall PP qC #[.pointer (some ⟨bb,0,none⟩),.int .i64 c,xv,yv] w K:=by
 apply Qa;unfold kC
 obtain⟨gs,rfl⟩:=hne
 refine YM fun b1 w1 hb1 he1 hz1 hB1=>?_
 replace hB1:Blk w1 b1 [.pointer (some ⟨bb,0,none⟩)] zM:=hB1
 refine YM fun b2 w2 hb2 he2 hz2 hB2=>?_
 replace hB2:Blk w2 b2 [.int .i64 c] zo:=hB2
 have hB12:=hB1.ext he2
 have e2:=he1.trans he2
 have h2:=h.ext e2
 have hx2:Ints (Off X F) w2 xv xs:=hx.ext e2
 have hy2:Ints (Off X F) w2 yv ys:=hy.ext e2
 obtain⟨bc,hB,hC⟩:=h2.blk
 simp only at hB
 simp(disch:=first|(simp only[push_cast];done)|omega) only[push_cast,hB12.ld0,hx2.len,hy2.len,xJ XF h2.err.bits.cell]
 rw[decide_eq_false (by omega)]
 refine Uz ?_
 simp(disch:=first|(simp only[push_cast];done)|omega) only[push_cast,hB12.ld0,hB.ld1,JP]
 refine each_spec (p:=M.muxB c) h2 hx2 hy2 (by omega) h8 hxs hys ?_ fun w3 F3 st3 r zs h3 hm3 hr3 hz3 ho3=>hK w3 F3 st3 r zs h3 ?_ hr3.ints hz3 ho3
 ·intro w3 F3 st3 x y K3 h3 hm3 hx3 hy3 hK3
  have l1: ¬F b1:=fun hf=>by have:=h.lt _ (.inl hf);omega
  have l2: ¬F b2:=fun hf=>by have:=h.lt _ (.inl hf);omega
  have k1:=hB12.same hm3.same l1
  have k2:=hB2.same hm3.same l2
  refine Xc ?_
  unfold jM
  simp(disch:=first|(simp only[push_cast];done)|omega) only[push_cast,k1.ld0,k2.ld0]
  exact bmux_spec h3 hc hx3 hy3 hK3
 ·exact(Mv.refl.ext e2).trans hm3
theorem KN {p:Int→Int→M.Bd Int} {xs ys:List Int} {i:Nat} (hx:i<xs.length) (hy:i<ys.length):M.eachB p (xs.drop i) (ys.drop i)=(p (xs.getD i 0) (ys.getD i 0)).bind fun s=>(M.eachB p (xs.drop (i+1)) (ys.drop (i+1))).map (s:: ·):=by
 rw[xt hx,xt hy];rfl
theorem Ints.low {v:Value} {xs:List Int} (h:Ints (Off X F) w v xs):Ints (fun b=> ¬F b∧b<w.heap.size) w v xs:=Ints.weaken h fun _ h1 h2=>⟨h1.1,h2⟩
theorem Ints.lowMv {v:Value} {xs:List Int} {B:Nat} {w':World} (h:Ints (fun b=> ¬F b∧b<B) w v xs) (hm:Mv F w F' w'):Ints (fun b=> ¬F' b∧b<B) w' v xs:=by
 have h1:Ints (fun b=>(¬F b∧b<B)∧b<w.heap.size) w v xs:=Ints.weaken h fun _ h1 h2=>⟨h1,h2⟩
 have h2:=Ints.same h1 hm.same fun b hb _=>hb.1.1
 exact Ints.weaken h2 fun b hb _=>⟨hm.off hb.1.1 hb.2,hb.1.2⟩
theorem from_at {up:Bool} {fill:Int} {s:List Int} {b k:Nat} (hk:k<s.length):(0≤(k:Int)+(if up then-(b:Int) else b)→(k:Int)+(if up then-(b:Int) else b)<s.length→M.fromL up fill s b k=s.getD ((k:Int)+(if up then-(b:Int) else b)).toNat 0)∧
  ((k:Int)+(if up then-(b:Int) else b)<0→M.fromL up fill s b k=fill)∧((s.length:Int)≤(k:Int)+(if up then-(b:Int) else b)→M.fromL up fill s b k=fill):=by
 unfold M.fromL
 cases up
 ·simp only[Bool.false_eq_true,if_false]
  refine⟨fun h0 h1=>?_,fun h=>by omega,fun h=>?_⟩
  ·rw[if_pos (by omega),show((k:Int)+b).toNat=k+b by omega]
  ·rw[if_neg (by omega)]
 ·simp only[if_true]
  refine⟨fun h0 h1=>?_,fun h=>?_,fun h=>by omega⟩
  ·rw[if_neg (by omega),show((k:Int)+ -b).toNat=k-b by omega]
  ·rw[if_pos (by omega)]
theorem fill_set {zs:List Int} {m k:Nat} {s:Int} (hz:zs.length=k) (hk:k<m):(zs++List.replicate (m-k) 0).set k s=(zs++[s])++List.replicate (m-(k+1)) 0:=by
 rw[List.set_append_right _ _ (by omega),hz,Nat.sub_self,show m-k=(m-(k+1))+1 by omega,List.replicate_succ,List.set_cons_zero,List.append_assoc]
 rfl
theorem Ui {m k:Nat} {f:Nat→Int} (hk:k<m):((List.range m).map f).getD k 0=f k:=by
 rw[List.getD_eq_getElem?_getD,List.getElem?_map,List.getElem?_range hk];rfl
theorem xd0 {up:Bool} {fill:Int} {i:Nat} {ys s:List Int} {j:Nat} (h:ys.length≤j):M.shiftB up fill (ys.drop j) i s= .ret s:=by
 rw[List.drop_eq_nil_of_le h];rfl
theorem pow_le4 {i:Nat} (h:i<10):2^i≤512∧1≤2^i:=⟨Nat.pow_le_pow_right (by omega) (show i≤9 by omega),Nat.one_le_two_pow⟩
theorem from_sm {up:Bool} {fill:Int} {s:List Int} {b k:Nat} (hf:Sm fill) (hs:SmL s) (hk:k<s.length):Sm (M.fromL up fill s b k):=by
 unfold M.fromL
 repeat' split
 all_goals first|exact hf|exact hs.get (by omega)
theorem shift_spec {xv yv:Value} {xs ys:List Int} {up:Bool} {fill:Int} (h:BdR n bb ar ab X F w st) (hx:Ints (Off X F) w xv xs) (hy:Ints (Off X F) w yv ys) (h8:xs.length≤1000) (hy8:ys.length≤8) (hxs:SmL xs) (hys:SmL ys) (hf:Sm fill)
  (hK:∀w' F' st' r zs,BdR n bb ar ab X F' w' st'→Mv F w F' w'→Ints (Off X F') w' r zs→SmL zs→M.Bd.Out n (M.shiftB up fill ys 0 xs) st st' zs→K r w'):
  vcall PP xG #[.pointer (some ⟨bb,0,none⟩),xv,yv,.bool up,.int .i64 fill] w K:=by
 apply J8;unfold kU
 simp(disch:=first|(simp only[push_cast];done)|omega) only[push_cast,hy.len]
 refine vloop_up ys.length (fun i u w'=> ∃F1 st1 sv ss,u=[sv,.int .i64 i]∧BdR n bb ar ab X F1 w' st1∧Mv F w F1 w'∧Ints (Off X F1) w' sv ss∧SmL ss∧ss.length=xs.length∧
  ∀st2 rs,M.Bd.Out n (M.shiftB up fill (ys.drop i) i ss) st1 st2 rs→M.Bd.Out n (M.shiftB up fill ys 0 xs) st st2 rs) ⟨F,st,xv,xs,rfl,h,Mv.refl,hx,hxs,rfl,fun _ _ h=>h⟩ ?_
 rintro i _ g w1 C hi ⟨F1,st1,sv,ss,rfl,h1,hm1,hs1,hsm,hsl,hout⟩ hC
 simp only[push_cast]
 refine zh (fun hlt=>?_) (fun hge=>hK w1 F1 st1 sv ss h1 hm1 hs1 hsm (hout st1 ss (by rw[xd0 (by omega)];exact M.Bd.Out.ret _ _)))
 have hi':i<ys.length:=by omega
 have hy1:=Ints.mv hy hm1
 obtain⟨hp1,hp2⟩:=pow_le4 (i:=i) (by omega)
 have hshl:∀K:Value→World→Prop,zp PP .shl zd true (.int .i64 1) (.int .i64 i) w1 K=K (.int .i64 (2^i:Nat)) w1:=fun K=>by
  have:=vbin_shlI (P:=PP) (w:=w1) (K:=K) (c:=true) (t:=zd) (yk:= .i64) (x:=1) (y:=i) (by omega) (by rw[Nat.one_mul];omega)
  rw[Nat.one_mul] at this
  exact this
 simp(disch:=first|(simp only[push_cast];done)|omega) only[push_cast,hy1.iaddr,hy1.load]
 rw[hshl]
 generalize hb:2^i=b at*
 refine zX (fun u w'=>w'=w1∧u=[.int .i64 (if up then-(b:Int) else b)]) ?_ ?_
 ·intro J hJ
  cases up
  ·exact hJ _ _ ⟨rfl,rfl⟩
  ·simp(disch:=omega) only[push_cast,zF,Int.zero_sub]
   exact hJ _ _ ⟨rfl,rfl⟩
 rintro _ _ w2 ⟨hw2,rfl⟩
 rw[hw2]
 simp(disch:=first|(simp only[push_cast];done)|omega) only[push_cast,hs1.len]
 refine vmkS_own (z:= .int .i64 0) (bs:=8) yQ xg yp rfl (by omega) (by omega) fun nv w3 hn3 he3 hnn3=>?_
 have hn3:OwnI PP z7 w3 nv (List.replicate ss.length 0):=by unfold OwnI;rw[List.map_replicate];exact hn3
 have h3:=h1.ext he3
 have hs3:Ints (fun b=> ¬F1 b∧b<w1.heap.size) w3 sv ss:=(Ints.low hs1).ext he3
 have hcc:Sm (ys.getD i 0):=hys.get hi'
 have hnew3:NewI X w1 F1 w3 nv (List.replicate ss.length 0):=NewI.of hn3 hnn3 h1.lt
 have hm3:=hm1.ext he3
 have hz1:=hm1.same.size
 refine vloop_up ss.length (fun k u w'=> ∃F4 st4 zs,u=[.int .i64 k]∧BdR n bb ar ab X F4 w' st4∧Mv F w F4 w'∧Ints (fun b=> ¬F4 b∧b<w1.heap.size) w' sv ss∧NewI X w1 F4 w' nv (zs++List.replicate (ss.length-k) 0)∧SmL zs∧zs.length=k∧
  ∀st2 rs,M.Bd.Out n (M.eachB (M.muxB (ys.getD i 0)) (((List.range ss.length).map (M.fromL up fill ss b)).drop k) (ss.drop k)) st4 st2 rs→M.Bd.Out n (M.eachB (M.muxB (ys.getD i 0)) ((List.range ss.length).map (M.fromL up fill ss b)) ss) st1 st2 (zs++rs))
  ⟨F1,st1,[],rfl,h3,hm3,hs3,by simpa using hnew3,SmL.nil,rfl,fun _ _ h=>h⟩ ?_
 rintro k _ g4 w4 C4 hk ⟨F4,st4,zs,rfl,h4,hm4,hs4,hn4,hz4,hzl,hout4⟩ hC4
 simp only[push_cast]
 refine zh (fun hlt4=>?_) (fun hge4=>?_)
 ·have hk':k<ss.length:=by omega
  have hfs:Sm (M.fromL up fill ss b k):=from_sm hf hsm hk'
  have hnl:(zs++List.replicate (ss.length-k) (0:Int)).length=ss.length:=by rw[List.length_append,List.length_replicate];omega
  have go:∀(C5:Value→World→Prop),(∀w5 F5 st5 s,BdR n bb ar ab X F5 w5 st5→Mv F w F5 w5→Ints (fun b=> ¬F5 b∧b<w1.heap.size) w5 sv ss→NewI X w1 F5 w5 nv (zs++List.replicate (ss.length-k) 0)→Sm s→M.Bd.Out n (M.muxB (ys.getD i 0) (M.fromL up fill ss b k) (ss.getD k 0)) st4 st5 s→C5 (.int .i64 s) w5)→
    vcall PP yC #[.pointer (some ⟨bb,0,none⟩),.int .i64 (ys.getD i 0),.int .i64 (M.fromL up fill ss b k),.int .i64 (ss.getD k 0)] w4 C5:=fun C5 hC5=>
   bmux_spec h4 hcc hfs (hsm.get hk') fun w5 F5 st5 s h5 hm5 hs5 ho5=>hC5 w5 F5 st5 s h5 (hm4.trans hm5) (Ints.lowMv hs4 hm5) (hn4.mv hm5) hs5 ho5
  have fin:∀w5 F5 st5 s,BdR n bb ar ab X F5 w5 st5→Mv F w F5 w5→Ints (fun b=> ¬F5 b∧b<w1.heap.size) w5 sv ss→NewI X w1 F5 w5 nv (zs++List.replicate (ss.length-k) 0)→Sm s→M.Bd.Out n (M.muxB (ys.getD i 0) (M.fromL up fill ss b k) (ss.getD k 0)) st4 st5 s→
    zm PP z7 nv (.int .i64 k) w5 fun t66 w6=>zq PP zo t66 (.int .i64 s) w6 fun _ w7=>C4 [.int .i64 ((k:Int)+1)] w7:=fun w5 F5 st5 s h5 hm5 hs5 hn5 hsm5 ho5=>by
   have hni:=hn5.own.ints
   rw[hni.iaddr xc (by omega) (by rw[hnl];omega),Int.toNat_natCast]
   refine hn5.own.st yj (by rw[hnl];exact hk') fun w6 ho6 hs6 hz6=>?_
   rw[fill_set hzl hk'] at ho6
   refine hC4 hk' _ _ ⟨F5,st5,zs++[s],by simp,h5.upd h.err hs6 fun b hb=>⟨by have:=(hn5.off b hb).1;omega,(hn5.off b hb).2⟩,hm5.to hs6 fun b hb=> .inr (by have:=(hn5.off b hb).1;omega),Ints.same hs5 hs6 fun x hx _ hxs=>by have:=(hn5.off x hxs).1;omega,⟨ho6,hn5.off,hn5.out⟩,hz4.app (SmL.one hsm5),by simp[hzl],fun st2 rs ho=>?_⟩
   have:=hout4 st2 (s::rs) ?_
   ·simpa using this
   rw[KN (by simpa using hk') hk',Ui hk']
   exact M.Bd.Out.bind ho5 (M.Bd.Out.map _ ho)
  obtain⟨f1,f2,f3⟩:=from_at (up:=up) (fill:=fill) (s:=ss) (b:=b) hk'
  have hd:(if up then-(b:Int) else b)= -(b:Int)∨(if up then-(b:Int) else b)=b:=by cases up<;>simp
  generalize (if up then-(b:Int) else b)=d at f1 f2 f3 hd
  simp(disch:=omega) only[push_cast,zF]
  refine zh (fun h0=>?_) (fun h0=>?_)
  ·refine zh (fun hl=>?_) (fun hl=>?_)
   ·simp(disch:=first|(simp only[push_cast];done)|omega) only[push_cast,hs4.iaddr,hs4.load]
    rw[←f1 (by omega) (by omega)]
    exact go _ fun w5 F5 st5 s h5 hm5 hs5 hn5 hsm5 ho5=>fin w5 F5 st5 s h5 hm5 hs5 hn5 hsm5 ho5
   ·simp(disch:=first|(simp only[push_cast];done)|omega) only[push_cast,hs4.iaddr,hs4.load]
    rw[←f3 (by omega)]
    exact go _ fun w5 F5 st5 s h5 hm5 hs5 hn5 hsm5 ho5=>fin w5 F5 st5 s h5 hm5 hs5 hn5 hsm5 ho5
  ·simp(disch:=first|(simp only[push_cast];done)|omega) only[push_cast,hs4.iaddr,hs4.load]
   rw[←f2 (by omega)]
   exact go _ fun w5 F5 st5 s h5 hm5 hs5 hn5 hsm5 ho5=>fin w5 F5 st5 s h5 hm5 hs5 hn5 hsm5 ho5
 ·rw[show ss.length-k=0 by omega,List.replicate_zero,List.append_nil] at hn4
  have:=hout4 st4 [] (by rw[QB (by simp;omega)];exact M.Bd.Out.ret _ _)
  rw[List.append_nil] at this
  simp(disch:=omega) only[push_cast,zF]
  refine hC hi' _ _ ⟨F4,st4,nv,zs,by simp<;>exact⟨rfl,rfl⟩,h4,hm4,hn4.ints,hz4,by omega,fun st2 rs ho=>hout st2 rs ?_⟩
  rw[xt hi']
  unfold M.shiftB
  rw[hb]
  exact M.Bd.Out.bind this ho
end Go.Proofs.YtaekfnbnhjgboaaGreatDoor
end
section
namespace Go.Proofs.YtaekfnbnhjgboaaGreatDoor
open Go Go.Vc Go.Proofs
variable {w:World} {K:Value→World→Prop} {F F' Fx Fy X Q:Nat→Prop} {n bc mb bb:Nat} {gs:M.Gs} {v:Value} {ar ab:Addr} {st:Option M.Gs}
theorem Ints.mvQ {v:Value} {xs:List Int} {w':World} (h:Ints (fun b=> ¬F b∧Q b) w v xs) (hm:Mv F w F' w'):Ints (fun b=> ¬F' b∧Q b) w' v xs:=by
 have h1:Ints (fun b=>(¬F b∧Q b)∧b<w.heap.size) w v xs:=Ints.weaken h fun _ h1 h2=>⟨h1,h2⟩
 have h2:=Ints.same h1 hm.same fun b hb _=>hb.1.1
 exact Ints.weaken h2 fun b hb _=>⟨hm.off hb.1.1 hb.2,hb.1.2⟩
theorem Ints.offQ {v:Value} {xs:List Int} (h:Ints (fun b=> ¬F b∧Q b∧¬X b) w v xs):Ints (Off X F) w v xs:=Ints.weaken h fun _ h _=>⟨h.1,h.2.2⟩
theorem SmL.set {xs:List Int} (h:SmL xs) {i:Nat} {x:Int} (hx:Sm x):SmL (xs.set i x):=fun y hy=>by
 rcases List.mem_or_eq_of_mem_set hy with h1|h1
 ·exact h y h1
 ·rw[h1];exact hx
theorem under_spec {xv yv:Value} {xs ys:List Int} (h:BdR n bb ar ab X F w st) (hx:Ints (Off X F) w xv xs) (hy:Ints (Off X F) w yv ys) (hl:xs.length=ys.length) (h1:1≤xs.length) (h8:xs.length≤1000) (hxs:SmL xs) (hys:SmL ys)
  (hK:∀w' F' st' r,BdR n bb ar ab X F' w' st'→Mv F w F' w'→Sm r→M.Bd.Out n (M.lessB (M.swapT xs ys) (M.swapT ys xs) (-1)) st st' r→K (.int .i64 r) w'):
  vcall PP qV #[.pointer (some ⟨bb,0,none⟩),xv,yv] w K:=by
 apply J7;unfold kT
 simp(disch:=first|(simp only[push_cast];done)|omega) only[push_cast,hx.len,zF]
 refine Clone_signal hx (by omega) fun w1 av he1 ha1 hna=>?_
 refine Clone_signal (hy.ext he1) (by omega) fun w2 cv he2 hc2 hnc=>?_
 refine zr fun w3 he3 _=>?_
 have e3:=he1.trans (he2.trans he3)
 have ha3:=ha1.ext (he2.trans he3)
 have hc3:=hc2.ext he3
 have hai:=ha3.ints
 have hci:=hc3.ints
 have hac:∀b,av.ownBlock=some b→cv.ownBlock≠some b:=fun b hb hc=>by have:=ha1.lt hb;have:=hnc b hc;omega
 simp(disch:=first|(simp only[push_cast];done)|omega) only[push_cast,hai.iaddr,hai.load,hci.iaddr,hci.load,true_and]
 rw[show((xs.length:Int)-1).toNat=xs.length-1 by omega]
 refine ha3.st yj (by omega) fun w4 ha4 hs4 hz4=>?_
 have hc4:=hc3.same hs4 fun b hb hx=>hac b hx hb
 have hci4:=hc4.ints
 refine hc4.st yj (by omega) fun w5 hc5 hs5 hz5=>?_
 have ha5:=ha4.same hs5 fun b hb hx=>hac b hb hx
 have hw:=e3.size
 have hw1:=he1.size
 have hF:∀b,(av.ownBlock=some b∨cv.ownBlock=some b)→w.heap.size≤b∧¬F b:=fun b hb=>by
  have hge:w.heap.size≤b:=hb.elim (hna b) fun hb=>by have:=hnc b hb;omega
  exact⟨hge,fun hf=>by have:=h.lt b (.inl hf);omega⟩
 have h5:BdR n bb ar ab X F w5 st:=((h.ext e3).upd h.err hs4 fun b hb=>hF b (.inl hb)).upd h.err hs5 fun b hb=>hF b (.inr hb)
 have hF2:∀b,(av.ownBlock=some b∨cv.ownBlock=some b)→Off X F b:=fun b hb=>⟨(hF b hb).2,fun hf=>by have:=(hF b hb).1;have:=h.lt b (.inr hf);omega⟩
 have hm5:Mv F w F w5:=((Mv.refl.ext e3).to hs4 fun b hb=> .inr (hF b (.inl hb)).1).to hs5 fun b hb=> .inr (hF b (.inr hb)).1
 have hA:Ints (Off X F) w5 av (M.swapT xs ys):=Ints.weaken ha5.ints fun b hb _=>hF2 b (.inl hb)
 have hC:Ints (Off X F) w5 cv (M.swapT ys xs):=by
  have:=Ints.weaken hc5.ints fun b hb _=>hF2 b (.inr hb)
  unfold M.swapT;rw[hl] at this;exact this
 refine bless_spec h5 hA hC (by unfold M.swapT;simp;omega) (by unfold M.swapT;simp;omega) ?_ ?_ fun w6 F6 st6 r h6 hm6 hr6 ho6=>hK w6 F6 st6 r h6 (hm5.trans hm6) hr6 ho6
 ·exact hxs.set (hys.get (by omega))
 ·exact hys.set (hxs.get (by omega))
theorem KB {xs:List Int} {m k:Nat} (h:k<m):(xs.take m).getD k 0=xs.getD k 0:=M.take_getD h
theorem qI0 {xs wide r q:List Int} {m:Nat} {l:Int} {u r':List Int} {st st1 st2 st3 st4:Option M.Gs} {res:List Int×List Int} (h1:M.Bd.Out n (M.lessB (xs.getD m 0::r) wide (-1)) st st1 l) (h2:M.Bd.Out n (M.sumB (xs.getD m 0::r) (M.negL wide) 1) st1 st2 u)
  (h3:M.Bd.Out n (M.eachB (M.muxB l) ((xs.getD m 0::r).take xs.length) (u.take xs.length)) st2 st3 r') (h4:M.Bd.Out n (M.divB xs wide m r' (q.set m (-l))) st3 st4 res):M.Bd.Out n (M.divB xs wide (m+1) r q) st st4 res:=by
 unfold M.divB
 exact M.Bd.Out.bind h1 (M.Bd.Out.bind h2 (M.Bd.Out.bind h3 h4))
theorem divide_spec {xv yv:Value} {xs ys:List Int} (h:BdR n bb ar ab X F w st) (hx:Ints (Off X F) w xv xs) (hy:Ints (Off X F) w yv ys) (hl:xs.length=ys.length) (h8:xs.length≤900) (hxs:SmL xs) (hys:SmL ys)
  (hK:∀w' F' st' qv rv q r,BdR n bb ar ab X F' w' st'→Mv F w F' w'→Ints (Off X F') w' qv q→Ints (Off X F') w' rv r→SmL q→SmL r→M.Bd.Out n (M.divB xs (ys++[-1]) xs.length (M.offsL xs.length) (M.offsL xs.length)) st st' (q,r)→K (.tuple #[qv,rv]) w'):
  vcall PP xR #[.pointer (some ⟨bb,0,none⟩),xv,yv] w K:=by
 apply Q9;unfold kB
 simp(disch:=first|(simp only[push_cast];done)|omega) only[push_cast,hx.len]
 refine offs_spec (by omega) fun w1 rv0 he1 hr1 hnr=>?_
 refine offs_spec (by omega) fun w2 qv he2 hq2 hnq=>?_
 have e2:=he1.trans he2
 refine Clone_signal (hy.ext e2) (by omega) fun w3 wv0 he3 hw3 hnw=>?_
 refine yc yO yj yp rfl rfl fun b4 w4 hb4 he4 hz4 hB4=>?_
 refine(hw3.ext he4).app1 yQ hB4 (by omega) (by omega) fun wv w5 hw5 hs5 hn5=>?_
 have z1:=he1.size;have z2:=he2.size;have z3:=he3.size
 have hwn:∀b,wv.ownBlock=some b→w2.heap.size≤b:=fun b hb=>(hn5 b hb).elim (hnw b) fun h=>by omega
 have e4:=e2.trans (he3.trans he4)
 have hF0:∀b,F b→b<w.heap.size:=fun b hb=>h.lt b (.inl hb)
 have hX0:∀b,w.heap.size≤b→¬X b:=fun b hb hx=>by have:=h.lt b (.inr hx);omega
 have e5:Ext w w5:=Ext.then e4 hs5 fun b hb=>by have:=hnw b hb;omega
 have e25:Ext w2 w5:=Ext.then (he3.trans he4) hs5 fun b hb=>hnw b hb
 have h5:=h.ext e5
 have hm5:Mv F w F w5:=Mv.refl.ext e5
 have hq5:=hq2.ext e25
 have hr5:=hr1.ext (he2.trans e25)
 have hqr:∀b,rv0.ownBlock=some b→qv.ownBlock≠some b:=fun b hb hc=>by have:=hr1.lt hb;have:=hnq b hc;omega
 have hqw:∀b,wv.ownBlock=some b→qv.ownBlock≠some b:=fun b hb hc=>by have:=hwn b hb;have:=hq2.lt hc;omega
 have hqx:∀b,qv.ownBlock=some b→w.heap.size≤b:=fun b hb=>by have:=hnq b hb;omega
 have hR:Ints (fun b=> ¬F b∧qv.ownBlock≠some b∧¬X b) w5 rv0 (M.offsL xs.length):=Ints.weaken hr5.ints fun b hb _=>⟨fun hf=>by have:=hF0 b hf;have:=hnr b hb;omega,hqr b hb,hX0 b (hnr b hb)⟩
 have hW:Ints (fun b=> ¬F b∧qv.ownBlock≠some b∧¬X b) w5 wv (ys++[-1]):=Ints.weaken hw5.ints fun b hb _=>⟨fun hf=>by have:=hF0 b hf;have:=hwn b hb;omega,hqw b hb,hX0 b (by have:=hwn b hb;omega)⟩
 have hX:Ints (fun b=> ¬F b∧qv.ownBlock≠some b∧¬X b) w5 xv xs:=by
  have h1:Ints (fun b=>(¬F b∧¬X b)∧b<w.heap.size) w xv xs:=Ints.weaken hx fun _ h1 h2=>⟨h1,h2⟩
  exact Ints.weaken (h1.ext e5) fun b hb _=>⟨hb.1.1,fun hc=>(by have:=hqx b hc;omega),hb.1.2⟩
 have hQ:NewI X w F w5 qv (M.offsL xs.length):=NewI.of hq5 hqx h.lt
 simp(disch:=first|(simp only[push_cast];done)|omega) only[push_cast,zF]
 have hwl:(ys++[(-1:Int)]).length=xs.length+1:=by rw[List.length_append,hl];rfl
 have hws:SmL (ys++[(-1:Int)]):=hys.app (SmL.one (by decide))
 generalize ys++[(-1:Int)]=wide at*
 refine YL (fun m u w'=> ∃F1 st1 rv r q,u=[rv,.int .i64 ((m:Int)-1)]∧m≤xs.length∧BdR n bb ar ab X F1 w' st1∧Mv F w F1 w'∧Ints (fun b=> ¬F1 b∧qv.ownBlock≠some b∧¬X b) w' rv r∧r.length=xs.length∧SmL r∧NewI X w F1 w' qv q∧q.length=xs.length∧SmL q∧
  Ints (fun b=> ¬F1 b∧qv.ownBlock≠some b∧¬X b) w' wv wide∧Ints (fun b=> ¬F1 b∧qv.ownBlock≠some b∧¬X b) w' xv xs∧
  ∀st2 res,M.Bd.Out n (M.divB xs wide m r q) st1 st2 res→M.Bd.Out n (M.divB xs wide xs.length (M.offsL xs.length) (M.offsL xs.length)) st st2 res) xs.length
  ⟨F,st,rv0,_,_,rfl,Nat.le_refl _,h5,hm5,hR,M.offsL_len _,SmL.offs _,hQ,M.offsL_len _,SmL.offs _,hW,hX,fun _ _ h=>h⟩ ?_
 rintro m _ g w6 C ⟨F6,st6,rv,r,q,rfl,hm,h6,hm6,hr6,hrl,hrs,hq6,hql,hqs,hw6,hx6,hout⟩ hC
 simp only[push_cast]
 refine zh (fun hge=>?_) (fun hlt=>?_)
 ·obtain⟨m,rfl⟩:∃j,m=j+1:=⟨m-1,by omega⟩
  have hmx:m<xs.length:=by omega
  rw[show((m+1:Nat):Int)-1=(m:Int) by omega]
  simp(disch:=first|(simp only[push_cast];done)|omega) only[push_cast,hx6.iaddr,hx6.load]
  refine yc yO yj yp rfl rfl fun b7 w7 hb7 he7 hz7 hB7=>?_
  have ht7:OwnI PP z7 w7 (.slice (some ⟨b7,0,none⟩) 1 1) [xs.getD m 0]:=Blk.own1 (P:=PP) (t:=z7) (cs:=[Value.int .i64 (xs.getD m 0)]) (by rw[xg];exact hB7) (Nat.zero_le _) rfl rfl (by omega)
  refine ht7.app yQ (hr6.ext he7) (by simp;omega) (by simp;omega) fun tv w8 ht8 hs8 hn8=>?_
  have l6:=hm6.same.size
  have htn:∀b,tv.ownBlock=some b→w6.heap.size≤b:=fun b hb=>(hn8 b hb).elim (fun h=>by have e:b7=b:=Option.some.inj h;omega) fun h=>by omega
  have e8:Ext w6 w8:=Ext.then he7 hs8 fun b hb=>by have e:b7=b:=Option.some.inj hb;omega
  have h8':=h6.ext e8
  have hT:Ints (fun b=> ¬F6 b∧qv.ownBlock≠some b∧¬X b) w8 tv (xs.getD m 0::r):=Ints.weaken ht8.ints fun b hb _=>⟨fun hf=>by have:=h6.lt b (.inl hf);have:=htn b hb;omega,fun hc=>(by have:=hq6.own.lt hc;have:=htn b hb;omega),hX0 b (by have:=htn b hb;omega)⟩
  have hts:SmL (xs.getD m 0::r):=(SmL.one (hxs.get hmx)).app hrs
  have hmv8:Mv F6 w6 F6 w8:=Mv.refl.ext e8
  refine bless_spec h8' (Ints.offQ hT) (Ints.offQ (Ints.ext hw6 e8)) (by simp;omega) (by simp;omega) hts hws fun w9 F9 st9 l h9 hm9 hl9 ho9=>?_
  have hq9:=(hq6.mv hmv8).mv hm9
  have hqi:=hq9.own.ints
  simp(disch:=first|(simp only[push_cast];done)|omega) only[push_cast,zF,Int.zero_sub,hqi.iaddr]
  refine hq9.own.st yj (by omega) fun w10 hq10 hs10 hz10=>?_
  have h10:BdR n bb ar ab X F9 w10 st9:=h9.upd h.err hs10 fun b hb=>hq9.off b hb
  have hm10:Mv F w F9 w10:=(((hm6.trans hmv8)).trans hm9).to hs10 fun b hb=> .inr (hq9.off b hb).1
  have keep:∀{v:Value} {zs:List Int},Ints (fun b=> ¬F9 b∧qv.ownBlock≠some b∧¬X b) w9 v zs→Ints (fun b=> ¬F9 b∧qv.ownBlock≠some b∧¬X b) w10 v zs:=fun hh=>Ints.same hh hs10 fun b hb _ hx=>hb.2.1 hx
  have hT10:=keep (Ints.mvQ hT hm9)
  have hw10:=keep (Ints.mvQ (Ints.ext hw6 e8) hm9)
  have hx10:=keep (Ints.mvQ (Ints.ext hx6 e8) hm9)
  refine negated_spec hw10 (by omega) hws fun w11 nv he11 hn11 hnn11=>?_
  have h11:=h10.ext he11
  have hN:Ints (Off X F9) w11 nv (M.negL wide):=(NewI.of hn11 hnn11 h10.lt).ints
  refine bsum_spec h11 (Ints.offQ (Ints.ext hT10 he11)) hN (by rw[M.negL_len];simp;omega) (by simp;omega) hts hws.neg (by decide) fun w12 F12 st12 uv us h12 hm12 hu12 hus ho12=>?_
  have hul:us.length=xs.length+1:=by
   have:=M.sum_len ho12.reach
   rw[M.negL_len,hwl,List.length_cons,hrl] at this
   omega
  have l12:=hm12.same.size
  have hm12w:Mv F w F12 w12:=(hm10.ext he11).trans hm12
  have hT12:=Ints.mvQ (Ints.ext hT10 he11) hm12
  have hw12:=Ints.mvQ (Ints.ext hw10 he11) hm12
  have hx12:=Ints.mvQ (Ints.ext hx10 he11) hm12
  have hq12:NewI X w F12 w12 qv (q.set m (-l)):=(NewI.mv (F':=F9) ⟨hq10,hq9.off,hq9.out⟩ (Mv.refl.ext he11)).mv hm12
  have hU12:=hu12.ints
  refine vmkS_own (z:= .int .i64 0) (bs:=8) yQ xg yp rfl (by omega) (by omega) fun nv2 w13 hn13 he13 hnn13=>?_
  have hn13:OwnI PP z7 w13 nv2 (List.replicate xs.length 0):=by unfold OwnI;rw[List.map_replicate];exact hn13
  have h13:=h12.ext he13
  have hnew:NewI X w12 F12 w13 nv2 (List.replicate xs.length 0):=NewI.of hn13 hnn13 h12.lt
  have hni13:=hn13.ints
  have hrepl:(List.replicate xs.length (0:Int)).length=xs.length:=List.length_replicate
  have hlen:∀(w':World) (K:Value→World→Prop),vbi PP .len [z7] zd [nv2] w' K=K (.int .i64 xs.length) w':=fun w' K=>by rw[hni13.len xr,hrepl]
  simp only[hlen]
  have htl:(xs.getD m 0::r).length=xs.length+1:=by rw[List.length_cons,hrl]
  generalize ht:xs.getD m 0::r=t at*
  refine vloop_up xs.length (fun k u w'=> ∃F4 st4 zs,u=[.int .i64 k]∧BdR n bb ar ab X F4 w' st4∧Mv F12 w12 F4 w'∧NewI X w12 F4 w' nv2 (zs++List.replicate (xs.length-k) 0)∧SmL zs∧zs.length=k∧
   ∀st2 rs,M.Bd.Out n (M.eachB (M.muxB l) ((t.take xs.length).drop k) ((us.take xs.length).drop k)) st4 st2 rs→M.Bd.Out n (M.eachB (M.muxB l) (t.take xs.length) (us.take xs.length)) st12 st2 (zs++rs))
   ⟨F12,st12,[],rfl,h13,Mv.refl.ext he13,by simpa using hnew,SmL.nil,rfl,fun _ _ h=>h⟩ ?_
  rintro k _ g4 w14 C4 hk ⟨F4,st4,zs,rfl,h4,hm4,hn4,hz4,hzl,hout4⟩ hC4
  simp only[push_cast]
  refine zh (fun hlt4=>?_) (fun hge4=>?_)
  ·have hk':k<xs.length:=by omega
   have hnl:(zs++List.replicate (xs.length-k) (0:Int)).length=xs.length:=by rw[List.length_append,List.length_replicate];omega
   refine zr fun w15 he15 _=>?_
   have h15:=h4.ext he15
   have hm15:=hm4.ext he15
   have hT15:=Ints.mvQ hT12 hm15
   have hU15:=Ints.mv hU12 hm15
   simp(disch:=first|(simp only[push_cast];done)|omega) only[push_cast,hT15.iaddr,hT15.load,hU15.iaddr,hU15.load,true_and]
   refine bmux_spec h15 hl9 (hts.get (by omega)) (hus.get (by omega)) fun w16 F16 st16 s h16 hm16 hs16 ho16=>?_
   have hn16:=(hn4.mv (Mv.refl.ext he15)).mv hm16
   have hni:=hn16.own.ints
   rw[hni.iaddr xc (by omega) (by rw[hnl];omega),Int.toNat_natCast]
   simp only[true_and]
   refine hn16.own.st yj (by rw[hnl];exact hk') fun w17 ho17 hs17 hz17=>?_
   rw[fill_set hzl hk'] at ho17
   try simp(disch:=omega) only[push_cast,zF]
   have hm16':Mv F12 w12 F16 w16:=hm15.trans hm16
   have l16:=hm12w.same.size
   refine hC4 hk' _ _ ⟨F16,st16,zs++[s],by simp,h16.upd h.err hs17 fun b hb=>⟨by have:=(hn16.off b hb).1;omega,(hn16.off b hb).2⟩,hm16'.to hs17 fun b hb=> .inr (hn16.off b hb).1,⟨ho17,hn16.off,hn16.out⟩,hz4.app (SmL.one hs16),by simp[hzl],fun st2 rs ho=>?_⟩
   have:=hout4 st2 (s::rs) ?_
   ·simpa using this
   rw[KN (by rw[List.length_take];omega) (by rw[List.length_take];omega),KB hk',KB hk']
   exact M.Bd.Out.bind ho16 (M.Bd.Out.map _ ho)
  ·rw[show xs.length-k=0 by omega,List.replicate_zero,List.append_nil] at hn4
   have hfin:=hout4 st4 [] (by rw[QB (by rw[List.length_take];omega)];exact M.Bd.Out.ret _ _)
   rw[List.append_nil] at hfin
   try simp(disch:=omega) only[push_cast,zF]
   have l16:=hm12w.same.size
   refine hC m _ _ (by omega) ⟨F4,st4,nv2,zs,q.set m (-l),by simp<;>exact⟨rfl,rfl⟩,by omega,h4,hm12w.trans hm4,Ints.weaken hn4.own.ints fun b hb _=>⟨(hn4.off b hb).2,fun hc=>(by have:=(hn4.off b hb).1;have:=hq12.own.lt hc;omega),hn4.out b hb⟩,by omega,hz4,hq12.mv hm4,by rw[List.length_set];exact hql,hqs.set (by unfold Sm at*;omega),Ints.mvQ hw12 hm4,Ints.mvQ hx12 hm4,fun st2 res ho=>hout st2 res ?_⟩
   subst ht
   exact qI0 ho9 ho12 hfin ho
 ·have hm0:m=0:=by omega
  subst hm0
  exact hK w6 F6 st6 qv rv q r h6 hm6 hq6.ints (Ints.offQ hr6) hqs hrs (hout st6 (q,r) (by unfold M.divB;exact M.Bd.Out.ret _ _))
end Go.Proofs.YtaekfnbnhjgboaaGreatDoor
end
section
namespace Go.Proofs.YtaekfnbnhjgboaaGreatDoor
open Go Go.Vc Go.Proofs
variable {w:World} {K:Value→World→Prop} {F F' Fx Fy X Q:Nat→Prop} {n bc mb bb:Nat} {gs:M.Gs} {v:Value} {ar ab:Addr} {st:Option M.Gs}
theorem qw0 {s:Int} {xs:List Int} {j:Nat} (h:xs.length≤j):M.rowB s (xs.drop j)= .ret []:=by rw[List.drop_eq_nil_of_le h];rfl
theorem jH0 {s:Int} {xs:List Int} {j:Nat} (h:j<xs.length):M.rowB s (xs.drop j)= .and (xs.getD j 0) s fun v=>(M.rowB s (xs.drop (j+1))).map (v:: ·):=by rw[xt h];rfl
theorem qA0 {xs ys s:List Int} {i j:Nat} (h:ys.length≤j):M.mulB xs (ys.drop j) i s= .ret s:=by rw[List.drop_eq_nil_of_le h];rfl
def P2 (l t:Nat) (F:Nat→Prop) (b:Nat):Prop:=F b∨b=l∨b=t
theorem Mv.p2 {w':World} {l t:Nat} (h:Mv F w F' w'):Mv (P2 l t F) w (P2 l t F') w':=
 ⟨h.same.mono fun _ _ h=> .inl h,fun b hb=>hb.elim (fun hb=>(h.new b hb).imp .inl id) fun hb=> .inl (.inr hb)⟩
theorem Mv.sub {w' w'':World} {S:Nat→Prop} (h:Mv F w F' w') (hs:Same S w' w'') (hS:∀b,S b→F' b):Mv F w F' w'':=h.to hs fun b hb=> .inl (hS b hb)
theorem Ints.notD {xs:List Int} {D:Nat} {ds:Option (List Deferred)} (h:Ints F w v xs) (hd:w.heap[D]?=some (.deferred ds)):Ints (fun b=>F b∧b≠D) w v xs:=by
 obtain⟨⟨a,c,hv,hc,hm,hb⟩,hk⟩:=h
 refine⟨⟨a,c,hv,hc,hm,fun hne=>?_⟩,hk⟩
 obtain⟨b,o,ha,h1,hlt,hcell⟩:=hb hne
 refine⟨b,o,ha,⟨h1,fun e=>?_⟩,hlt,hcell⟩
 subst e
 have h0:=List.length_pos_iff.2 hne
 have hw:=hk _ (M.getD_mem h0 [])
 have hc0:=hcell 0 h0 0 _ (List.getElem?_eq_getElem (by omega))
 rw[xh] at hc0
 simp[World.cell?,hd] at hc0
theorem mul_spec {xv yv:Value} {xs ys:List Int} (h:BdR n bb ar ab X F w st) (hx:Ints (Off X F) w xv xs) (hy:Ints (Off X F) w yv ys) (hl:xs.length=ys.length) (h8:xs.length≤900) (hxs:SmL xs) (hys:SmL ys)
  (hK:∀w' F' st' r zs,BdR n bb ar ab X F' w' st'→Mv F w F' w'→Ints (Off X F') w' r zs→SmL zs→M.Bd.Out n (M.mulB xs ys 0 (M.offsL xs.length)) st st' zs→K r w'):
  vcall PP jB #[.pointer (some ⟨bb,0,none⟩),xv,yv] w K:=by
 apply V3;unfold jL
 have hF0:=h.lt
 refine YM fun b3 w1 hb3 he1 hz1 hB3=>?_
 replace hB3:Blk w1 b3 [.pointer (some ⟨bb,0,none⟩)] zM:=hB3
 have hx1:Ints (Off X F) w1 xv xs:=hx.ext he1
 simp(disch:=first|(simp only[push_cast];done)|omega) only[push_cast,hx1.len]
 refine offs_spec (by omega) fun w2 sv0 he2 hs2 hn2=>?_
 refine VJ jr fun b7 w3 hb7 he3 hz3 hB7=>?_
 replace hB7:Blk w3 b7 [.slice none 0 0] z7:=hB7
 refine Blk.st (i:=0) hB7 (Sl.cells1 (hs2.ext he3).ints) (Sl.one (hs2.ext he3).ints) ke rfl fun w4 hs4 hz4 hB74=>?_
 replace hB74:Blk w4 b7 [sv0] z7:=hB74
 have z2:=he2.size
 have e2:=he1.trans he2
 have e14:Ext w1 w4:=Ext.then (he2.trans he3) hs4 fun b hb=>by omega
 have e4:=he1.trans e14
 have hB34:=hB3.ext e14
 have hs4':=(hs2.ext he3).same hs4 fun b hb hx=>by have:=hs2.lt hb;omega
 simp(disch:=first|(simp only[push_cast];done)|omega) only[push_cast,hB34.ld0]
 apply Kh;unfold ZC
 refine YM fun bq w5 hbq he5 hz5 hBq=>?_
 replace hBq:Blk w5 bq [.pointer (some ⟨bb,0,none⟩)] zM:=hBq
 refine YM fun bx w6 hbx he6 hz6 hBx=>?_
 refine YM fun by_ w7 hby he7 hz7 hBy=>?_
 have hBx':Blk w6 bx [xv] z7:=by have:=hBx;rwa[Sl.cells1 hx] at this
 have hBy':Blk w7 by_ [yv] z7:=by have:=hBy;rwa[Sl.cells1 hy] at this
 simp only[push_cast]
 refine⟨xQ,⟨[.pointer (some ⟨by_,0,none⟩),.pointer (some ⟨bx,0,none⟩),.pointer (some ⟨bq,0,none⟩)]⟩,rfl,fun l D w8 RR hD hl8 he8 hs8 hD8 hst hr8 hround=>?_⟩
 have e58:=he6.trans (he7.trans he8)
 have e48:=he5.trans e58
 have e8:=e4.trans e48
 have z4:=e4.size
 have z48:=e48.size
 have z14:=e14.size
 have pq:=hBq.ext e58
 have px:=hBx'.ext (he7.trans he8)
 have py:=hBy'.ext he8
 have p3:=hB34.ext e48
 have p7:=hB74.ext e48
 have h8':=h.ext e8
 have hge:∀b,w.heap.size≤b→¬F b:=fun b hb hf=>by have:=hF0 b (.inl hf);omega
 have sz:w1.heap.size=b3+1∧w3.heap.size=b7+1∧w5.heap.size=bq+1∧w6.heap.size=bx+1∧w7.heap.size=by_+1∧D=w7.heap.size∧l=D+1:=⟨by omega,by omega,by omega,by omega,by omega,hD,by omega⟩
 have z34:w4.heap.size=w3.heap.size:=hz4
 have z23:=he3.size
 have z45:=he5.size;have z56:=he6.size;have z67:=he7.size
 have hxP:Ints (Off X (P2 l b7 F)) w8 xv xs:=by
  have h1:Ints (fun b=>(¬F b∧¬X b)∧b<w.heap.size) w xv xs:=Ints.weaken hx fun _ h1 h2=>⟨h1,h2⟩
  exact Ints.weaken (h1.ext e8) fun b hb _=>⟨fun hp=>hp.elim hb.1.1 fun hp=>by have:=hb.2;omega,hb.1.2⟩
 have hyP:Ints (Off X (P2 l b7 F)) w8 yv ys:=by
  have h1:Ints (fun b=>(¬F b∧¬X b)∧b<w.heap.size) w yv ys:=Ints.weaken hy fun _ h1 h2=>⟨h1,h2⟩
  exact Ints.weaken (h1.ext e8) fun b hb _=>⟨fun hp=>hp.elim hb.1.1 fun hp=>by have:=hb.2;omega,hb.1.2⟩
 have hsP:Ints (Off X (P2 l b7 F)) w8 sv0 (M.offsL xs.length):=Ints.weaken (hs4'.ext e48).ints fun b hb _=>by
  have h1:=hs2.lt hb
  have h2:=hn2 b hb
  refine⟨fun hp=>?_,fun hx=>by have:=h.lt b (.inr hx);omega⟩
  rcases hp with hp|hp|hp
  ·exact hge b (by omega) hp
  ·omega
  ·omega
 have off:∀(F1:Nat→Prop),(∀b,F1 b→F b∨w8.heap.size≤b)→∀b,w.heap.size≤b→b<w8.heap.size→¬F1 b:=fun F1 hN b h1 h2 hf=>(hN b hf).elim (hge b h1) fun h=>by omega
 show vcall PP xQ #[.func (.yield l) #[] #[],.pointer (some ⟨by_,0,none⟩),.pointer (some ⟨bx,0,none⟩),.pointer (some ⟨bq,0,none⟩)] w8 _
 apply Q8;unfold kA
 simp(disch:=first|(simp only[push_cast];done)|omega) only[push_cast,py.ld0,hyP.len]
 refine vloop_up ys.length (fun i u w'=> ∃F1 st1 sv s,u=[.int .i64 i]∧RR .ready none w'∧BdR n bb ar ab X F1 w' st1∧Mv (P2 l b7 F) w8 (P2 l b7 F1) w'∧(∀b,F1 b→F b∨w8.heap.size≤b)∧Blk w' b7 [sv] z7∧Ints (Off X (P2 l b7 F1)) w' sv s∧s.length=xs.length∧SmL s∧
  ∀st2 res,M.Bd.Out n (M.mulB xs (ys.drop i) i s) st1 st2 res→M.Bd.Out n (M.mulB xs ys 0 (M.offsL xs.length)) st st2 res)
  ⟨F,st,sv0,_,rfl,hr8,h8',Mv.refl,fun b hb=> .inl hb,p7,hsP,M.offsL_len _,SmL.offs _,fun _ _ h=>h⟩ ?_
 rintro i _ g w9 C hi ⟨F1,st1,sv,s,rfl,hr9,h9,hm9,hN9,p79,hs9,hsl,hss,hout⟩ hC
 simp only[push_cast]
 have z9:=hm9.same.size
 have keep:∀{b:Nat} {cs:List Value} {t:TypeId},Blk w8 b cs t→w.heap.size≤b→b≠l→b≠b7→Blk w9 b cs t:=fun hb h1 h2 h3=>hb.same hm9.same fun hp=>hp.elim (hge _ h1) fun hp=>hp.elim h2 h3
 have q9:=keep pq (by omega) (by omega) (by omega)
 have x9:=keep px (by omega) (by omega) (by omega)
 have k9:=keep p3 (by omega) (by omega) (by omega)
 have d9:w9.heap[D]?=some (.deferred (some [])):=(hm9.same.block D (by omega) fun hp=>hp.elim (hge _ (by omega)) fun hp=>by omega).trans hD8
 refine zh (fun hlt=>?_) (fun hge'=>?_)
 ·have hi':i<ys.length:=by omega
  have hy9:=Ints.mv hyP hm9
  simp(disch:=first|(simp only[push_cast];done)|omega) only[push_cast,hy9.iaddr,hy9.load]
  refine offs_spec (by omega) fun w10 rv0 he10 hr10 hn10=>?_
  have h10:=h9.ext he10
  have hrow:NewI X w9 F1 w10 rv0 (M.offsL i):=NewI.of hr10 hn10 h9.lt
  have hxl:(xs.take (xs.length-i)).length=xs.length-i:=by rw[List.length_take];omega
  refine vloop_up (xs.length-i) (fun j u w'=> ∃F2 st2 rv zs,u=[rv,.int .i64 ((i+j:Nat):Int)]∧BdR n bb ar ab X F2 w' st2∧Mv F1 w9 F2 w'∧NewI X w9 F2 w' rv (M.offsL i++zs)∧SmL zs∧zs.length=j∧
   ∀st3 rs,M.Bd.Out n (M.rowB (ys.getD i 0) ((xs.take (xs.length-i)).drop j)) st2 st3 rs→M.Bd.Out n (M.rowB (ys.getD i 0) (xs.take (xs.length-i))) st1 st3 (zs++rs))
   ⟨F1,st1,rv0,[],rfl,h10,Mv.refl.ext he10,by rw[List.append_nil];exact hrow,SmL.nil,rfl,fun _ _ h=>h⟩ ?_
  rintro j _ g2 w11 C2 hj ⟨F2,st2,rv,zs,rfl,h11,hm11,hr11,hz11,hzl,hout2⟩ hC2
  have hm11p:Mv (P2 l b7 F) w8 (P2 l b7 F2) w11:=hm9.trans hm11.p2
  have hN11:∀b,F2 b→F b∨w8.heap.size≤b:=fun b hb=>(hm11.new b hb).elim (hN9 b) fun h=> .inr (by omega)
  have keep2:∀{b:Nat} {cs:List Value} {t:TypeId},Blk w9 b cs t→w.heap.size≤b→b<w8.heap.size→Blk w11 b cs t:=fun hb h1 h2=>hb.same hm11.same (off F1 hN9 _ h1 h2)
  have q11:=keep2 q9 (by omega) (by omega)
  have x11:=keep2 x9 (by omega) (by omega)
  have k11:=keep2 k9 (by omega) (by omega)
  have p711:=keep2 p79 (by omega) (by omega)
  have d11:w11.heap[D]?=some (.deferred (some [])):=(hm11.same.block D (by omega) (off F1 hN9 D (by omega) (by omega))).trans d9
  have r11:RR .ready none w11:=hst _ _ _ _ hr9 (hm11.same.block l (by omega) (off F1 hN9 l (by omega) (by omega)))
  have z11:=hm11.same.size
  have hx11:=Ints.mv hxP hm11p
  simp(disch:=first|(simp only[push_cast];done)|omega) only[push_cast,x11.ld0,hx11.len]
  refine zh (fun hlt2=>?_) (fun hge2=>?_)
  ·have hj':j<xs.length-i:=by omega
   refine zr fun w12 he12 _=>?_
   have hx12:Ints (Off X (P2 l b7 F2)) w12 xv xs:=Ints.ext hx11 he12
   have q12:=q11.ext he12
   have x12:=x11.ext he12
   have ei:((i:Int)+j)-i=(j:Int):=by omega
   simp(disch:=first|(simp only[push_cast];done)|omega) only[push_cast,q12.ld0,x12.ld0,zF,ei,hx12.iaddr,hx12.load,true_and]
   refine jG (h11.ext he12) (hxs.get (by omega)) (hys.get hi') fun w13 F13 st13 s13 h13 hm13 hs13 ho13=>?_
   refine yc yO yj yp rfl rfl fun b14 w14 hb14 he14 hz14 hB14=>?_
   have hm14:Mv F1 w9 F13 w14:=((hm11.ext he12).trans hm13).ext he14
   have h14:=h13.ext he14
   have hr14:NewI X w9 F13 w14 rv (M.offsL i++zs):=((hr11.mv (Mv.refl.ext he12)).mv hm13).mv (Mv.refl.ext he14)
   have hol:(M.offsL i++zs).length=i+j:=by rw[List.length_append,M.offsL_len,hzl]
   refine hr14.app1 hB14 hm14.same.size h14.lt (by omega) fun r15 w15 hr15 hs15=>?_
   have h15:BdR n bb ar ab X F13 w15 st13:=h14.upd h.err hs15 fun b hb=>⟨by have:=(hr14.off b hb).1;omega,(hr14.off b hb).2⟩
   have hm15:Mv F1 w9 F13 w15:=hm14.to hs15 fun b hb=> .inr (hr14.off b hb).1
   try simp(disch:=omega) only[push_cast,zF]
   refine hC2 hj' _ _ ⟨F13,st13,r15,zs++[s13],by simp<;>omega,h15,hm15,by rw[←List.append_assoc];exact hr15,hz11.app (SmL.one hs13),by simp[hzl],fun st3 rs ho=>?_⟩
   have:=hout2 st3 (s13::rs) ?_
   ·simpa using this
   rw[jH0 (by omega),KB hj']
   exact xV ho13 (M.Bd.Out.map _ ho)
  ·have hj0:j=xs.length-i:=by omega
   have hrowo:=hout2 st2 [] (by rw[qw0 (by omega)];exact M.Bd.Out.ret _ _)
   rw[List.append_nil] at hrowo
   refine hround [rv] w11 _ rfl r11 ⟨r11,fun w12 hs12 hz12 hb12=>?_⟩
   have hl12:∀b,(b=l)→w.heap.size≤b∧¬F2 b:=fun b hb=>⟨by omega,off F2 hN11 b (by omega) (by omega)⟩
   have h12:BdR n bb ar ab X F2 w12 st2:=h11.upd h.err hs12 hl12
   have k12:=k11.same hs12 (show¬b3=l by omega)
   have p712:=p711.same hs12 (show¬b7=l by omega)
   have hs11:=Ints.mv hs9 hm11.p2
   have hs12':Ints (Off X (P2 l b7 F2)) w12 sv s:=Ints.same hs11 hs12 fun b hb _ e=>hb.1 (.inr (.inl e))
   have hr12:NewI X w9 F2 w12 rv (M.offsL i++zs):=⟨hr11.own.same hs12 fun b hb e=>by have:=(hr11.off b hb).1;omega,hr11.off,hr11.out⟩
   simp(disch:=first|(simp only[push_cast];done)|omega) only[push_cast,k12.ld0,p712.ld0]
   have hs12o:Ints (Off X F2) w12 sv s:=Ints.weaken hs12' fun b hb _=>⟨fun hf=>hb.1 (.inl hf),hb.2⟩
   refine bsum_spec h12 hs12o hr12.ints (by rw[List.length_append,M.offsL_len];omega) (by omega) hss ((SmL.offs i).app hz11) (by decide) fun w13 F13 st13 nv ns h13 hm13 hn13 hns ho13=>?_
   have hN13:∀b,F13 b→F b∨w8.heap.size≤b:=fun b hb=>(hm13.new b hb).elim (hN11 b) fun h=> .inr (by omega)
   have p713:=p712.same hm13.same (off F2 hN11 b7 (by omega) (by omega))
   refine Blk.st (i:=0) p713 (Sl.cells1 hn13.own.ints) (Sl.one hn13.own.ints) ke rfl fun w14 hs14 hz14 hB14=>?_
   replace hB14:Blk w14 b7 [nv] z7:=hB14
   have rb13:RR .busy none w13:=hst _ _ _ _ hb12 (hm13.same.block l (by omega) (off F2 hN11 l (by omega) (by omega)))
   have rb14:RR .busy none w14:=hst _ _ _ _ rb13 (hs14.block l (by have:=hm13.same.size;omega) (by omega))
   refine⟨rb14,fun w15 hs15 hz15 hr15=>?_⟩
   have h14:BdR n bb ar ab X F13 w14 st13:=h13.upd h.err hs14 fun b hb=>⟨by omega,off F13 hN13 b (by omega) (by omega)⟩
   have h15:BdR n bb ar ab X F13 w15 st13:=h14.upd h.err hs15 fun b hb=>⟨by omega,off F13 hN13 b (by omega) (by omega)⟩
   have z12:=hs12.size
   have hm12p:Mv (P2 l b7 F) w8 (P2 l b7 F2) w12:=hm11p.sub hs12 fun b hb=> .inr (.inl hb)
   have hm15p:Mv (P2 l b7 F) w8 (P2 l b7 F13) w15:=(((hm12p.trans hm13.p2).sub hs14 fun b hb=> .inr (.inr hb))).sub hs15 fun b hb=> .inr (.inl hb)
   have p715:=hB14.same hs15 (show¬b7=l by omega)
   have hns15:Ints (Off X (P2 l b7 F13)) w15 nv ns:=by
    have h1:Ints (Off X (P2 l b7 F13)) w13 nv ns:=Ints.weaken hn13.own.ints fun b hb _=>⟨fun hp=>by
     have:=(hn13.off b hb).1
     rcases hp with hp|hp|hp
     ·exact(hn13.off b hb).2 hp
     ·omega
     ·omega,hn13.out b hb⟩
    exact Ints.same (Ints.same h1 hs14 fun b hb _ e=>hb.1 (.inr (.inr e))) hs15 fun b hb _ e=>hb.1 (.inr (.inl e))
   have hnl:ns.length=xs.length:=by
    have:=M.sum_len ho13.reach
    rw[List.length_append,M.offsL_len] at this
    omega
   simp(disch:=omega) only[push_cast,Bool.not_true,zF]
   refine hC hi' _ _ ⟨F13,st13,nv,ns,by simp,hr15,h15,hm15p,hN13,p715,hns15,hnl,hns,fun st3 res ho=>hout st3 res ?_⟩
   rw[xt hi']
   exact M.Bd.Out.bind hrowo (M.Bd.Out.bind ho13 ho)
 ·refine⟨.ready,none,by decide,hr9,fun w10 hs10 hz10=>?_⟩
  show ze PP z7 _ w10 _
  have p710:=p79.same hs10 (show¬b7=l by omega)
  have d10:w10.heap[D]?=some (.deferred (some [])):=(hs10.block D (by omega) (by omega)).trans d9
  simp(disch:=first|(simp only[push_cast];done)|omega) only[push_cast,p710.ld0]
  refine⟨d10,fun w11 hs11 hz11=>?_⟩
  have hlF:∀b,w.heap.size≤b→b<w8.heap.size→w.heap.size≤b∧¬F1 b:=fun b h1 h2=>⟨h1,off F1 hN9 b h1 h2⟩
  have h11:BdR n bb ar ab X F1 w11 st1:=(h9.upd h.err hs10 fun b hb=>hlF b (by omega) (by omega)).upd h.err hs11 fun b hb=>hlF b (by omega) (by omega)
  have hmF:Mv F w F1 w11:=by
   refine⟨Same.thn (Same.thn (Same.thn (Same.of_ext e8) hm9.same fun b hb=>hb.elim .inl fun hb=> .inr (by omega)) hs10 fun b hb=> .inr (by omega)) hs11 fun b hb=> .inr (by omega),fun b hb=>(hN9 b hb).imp id fun h=>?_⟩
   have:=e8.size;omega
  have hs11':Ints (Off X F1) w11 sv s:=by
   have h1:Ints (Off X (P2 l b7 F1)) w10 sv s:=Ints.same hs9 hs10 fun b hb _ e=>hb.1 (.inr (.inl e))
   have h2:=Ints.notD h1 d10
   exact Ints.weaken (Ints.same h2 hs11 fun b hb _ e=>hb.2 e) fun b hb _=>⟨fun hf=>hb.1.1 (.inl hf),hb.1.2⟩
  exact hK w11 F1 st1 sv s h11 hmF hs11' hss (hout st1 s (by rw[qA0 (by omega)];exact M.Bd.Out.ret _ _))
end Go.Proofs.YtaekfnbnhjgboaaGreatDoor
end
section
namespace Go.Proofs.YtaekfnbnhjgboaaGreatDoor
open Go Go.Vc Go.Proofs
variable {w:World} {K:Value→World→Prop} {F F' Fx Fy X Q:Nat→Prop} {n bc mb bb:Nat} {gs:M.Gs} {v:Value} {ar ab:Addr} {st:Option M.Gs}
theorem jx0 {t ty:TypeId} {a:Option Addr} {l c:Nat} (ht:isSl PP t=true):vbi PP .cap [t] ty [.slice a l c] w K=K (.int .i64 c) w:=by
 obtain⟨e,he⟩:=yl0 ht
 exact yr (by simp[biSem,Builtin.cap_,xP he,goInt])
theorem Grow_nil {m:Nat} (hm:m≤1000) (hK:∀w' r,Ext w w'→OwnI PP z7 w' r []→(∀b,r.ownBlock=some b→w.heap.size≤b)→K r w'):vcall PP yI #[.slice none 0 0,.int .i64 m] w K:=by
 apply qP;unfold xE
 refine zX (fun u w'=>w'=w) ?_ ?_
 ·intro J hJ
  simp only[push_cast]
  refine zh (fun h=>?_) (fun h=>hJ _ _ rfl)
  omega
 rintro _ _ w' hw
 rw[hw,jx0 xr,y70 xr]
 simp(disch:=omega) only[push_cast,zF,Int.sub_zero]
 refine zh (fun h=>?_) (fun h=>?_)
 ·rw[jx0 xr]
  have c0:∀K:Value→World→Prop,yq PP z7 (.slice none 0 0) none (some (.int .i64 (0:Nat))) none w K=K (.slice none 0 0) w:=fun K=>OwnV.cut (P:=PP) (t:=z7) (w:=w) OwnV.nil xc (n:=0) (by simp)
  rw[c0]
  refine vappend_make (bs:=8) yQ xg yp rfl Wp (by omega) (by omega) (by omega) fun v' w1 hv he hn=>?_
  rw[y70 xr,OwnV.cut hv xc (n:=0) (by omega)]
  have h0:=OwnV.taken hv (n:=0) (by omega)
  exact hK w1 _ he (by rw[List.take_zero] at h0;exact h0) fun b hb=>hn b (by rw[←Zv0 v' 0];exact hb)
 ·exact hK w _ (Same.refl _ _) OwnI.nil fun b hb=>by cases hb
theorem KK {zss:List (List Int)} {i:Nat} (hi:i<zss.length):(zss.take (i+1)).flatten=(zss.take i).flatten++zss.getD i []:=by
 rw[M.take_add hi [],List.flatten_append];simp
theorem flat_le {zss:List (List Int)} (i:Nat):(zss.take i).flatten.length≤zss.flatten.length:=by
 have:zss.flatten=(zss.take i).flatten++(zss.drop i).flatten:=by rw[←List.flatten_append,List.take_append_drop]
 rw[this,List.length_append];omega
theorem Concat_spec {vs:List Value} {zss:List (List Int)} (hv:Vals Fx w v vs) (hl:vs.length=zss.length) (hi:∀i,i<zss.length→Ints Fy w (vs.getD i undef) (zss.getD i [])) (hsm:zss.flatten.length≤1000) (h63:zss.length≤1000)
  (hK:∀w' r,Ext w w'→OwnI PP z7 w' r zss.flatten→(∀b,r.ownBlock=some b→w.heap.size≤b)→K r w'):vcall PP yE #[v] w K:=by
 apply qs;unfold xq
 simp(disch:=first|(simp only[push_cast];done)|omega) only[push_cast,hv.len]
 refine vloop_up zss.length (fun i u w'=>u=[.int .i64 ((zss.take i).flatten.length:Nat),.int .i64 i]∧w'=w) ⟨rfl,rfl⟩ ?_
 rintro i _ g w1 C hil ⟨rfl,hw1⟩ hC
 rw[hw1]
 simp only[push_cast]
 refine zh (fun hlt=>?_) (fun hge=>?_)
 ·have hi':i<zss.length:=by omega
  have hz:=hi i hi'
  have hle:=flat_le (zss:=zss) (i+1)
  rw[KK hi',List.length_append] at hle
  simp(disch:=first|(simp only[push_cast];done)|omega) only[push_cast,hv.iaddr,hv.load,hz.len,zF]
  refine zh (fun hh=>by omega) (fun _=>?_)
  exact hC hi' _ _ ⟨by rw[KK hi',List.length_append];simp,rfl⟩
 have hie:i=zss.length:=by omega
 subst hie
 rw[List.take_length]
 refine Grow_nil hsm fun w2 r0 he2 hr2 hn2=>?_
 refine vloop_up zss.length (fun i u w'=> ∃r,u=[r,.int .i64 i]∧Ext w w'∧OwnI PP z7 w' r (zss.take i).flatten∧∀b,r.ownBlock=some b→w.heap.size≤b) ⟨r0,rfl,he2,hr2,hn2⟩ ?_
 rintro i _ g w3 C hil ⟨r,rfl,he3,hr3,hn3⟩ hC
 simp only[push_cast]
 refine zh (fun hlt=>?_) (fun hge=>?_)
 ·have hi':i<zss.length:=by omega
  have hz:=(hi i hi').ext he3
  have hv3:=hv.ext he3
  have hle:=flat_le (zss:=zss) (i+1)
  rw[KK hi',List.length_append] at hle
  simp(disch:=first|(simp only[push_cast];done)|omega) only[push_cast,hv3.iaddr,hv3.load]
  refine hr3.app yQ hz (by omega) (by omega) fun r4 w4 hr4 hs4 hn4=>?_
  have:=he3.size
  try simp(disch:=omega) only[push_cast,zF]
  exact hC hi' _ _ ⟨r4,by simp<;>exact⟨rfl,rfl⟩,Ext.then he3 hs4 fun b hb=>hn3 b hb,by rw[KK hi'];exact hr4,fun b hb=>(hn4 b hb).elim (hn3 b) fun h=>by omega⟩
 ·rw[show i=zss.length by omega,List.take_length] at hr3
  exact hK w3 r he3 hr3 hn3
theorem un_spec {op:Int} {xv:Value} {xs:List Int} (h:BdR n bb ar ab X F w st) (hop:op=1∨op=2) (hx:Ints (Off X F) w xv xs) (h8:xs.length≤900) (hxs:SmL xs)
  (hK:∀w' F' st' r zs,BdR n bb ar ab X F' w' st'→Mv F w F' w'→Ints (Off X F') w' r zs→SmL zs→M.Bd.Out n (M.unB op xs) st st' zs→K r w'):
  vcall PP jZ #[.pointer (some ⟨bb,0,none⟩),.int .i64 op,xv] w K:=by
 apply W5;unfold Yz
 simp only[push_cast]
 unfold M.unB at hK
 refine zh (fun c=>?_) (fun c=>?_)
 ·rw[if_pos c] at hK
  refine negated_spec hx (by omega) hxs fun w1 r he1 hr1 hn1=>?_
  exact hK w1 F st r _ (h.ext he1) (Mv.refl.ext he1) (NewI.of hr1 hn1 h.lt).ints hxs.neg (M.Bd.Out.ret _ _)
 rw[if_neg c] at hK
 simp(disch:=first|(simp only[push_cast];done)|omega) only[push_cast,hx.len]
 refine zh (fun c2=>?_) (fun c2=>by omega)
 refine offs_spec (by omega) fun w1 ov he1 ho1 hno=>?_
 refine negated_spec (hx.ext he1) (by omega) hxs fun w2 nv he2 hn2 hnn2=>?_
 have e2:=he1.trans he2
 have z1:=he1.size
 have hO:Ints (Off X F) w2 ov (M.offsL xs.length):=(NewI.of (ho1.ext he2) hno h.lt).ints
 have hN:Ints (Off X F) w2 nv (M.negL xs):=(NewI.of hn2 (fun b hb=>by have:=hnn2 b hb;omega) h.lt).ints
 refine bsum_spec (h.ext e2) hO hN (by rw[M.offsL_len,M.negL_len];exact Nat.le_refl _) (by rw[M.offsL_len];omega) (SmL.offs _) hxs.neg (by decide) fun w3 F3 st3 r zs h3 hm3 hr3 hz3 ho3=>?_
 exact hK w3 F3 st3 r zs h3 ((Mv.refl.ext e2).trans hm3) hr3.ints hz3 ho3
theorem bin_spec {op:Int} {xv yv:Value} {xs ys:List Int} (h:BdR n bb ar ab X F w st) (hst:∃gs,st=some gs) (h3:3≤op) (h14:op≤14) (hx:Ints (Off X F) w xv xs) (hy:Ints (Off X F) w yv ys) (hl:op≠14→xs.length=ys.length) (hc:op=14→xs.length+ys.length≤4) (h1:1≤xs.length) (h8:xs.length≤8) (hxs:SmL xs) (hys:SmL ys)
  (hK:∀w' F' st' r zs,BdR n bb ar ab X F' w' st'→Mv F w F' w'→Ints (Off X F') w' r zs→SmL zs→M.Bd.Out n (M.binB op xs ys) st st' zs→K r w'):
  vcall PP qo #[.pointer (some ⟨bb,0,none⟩),.int .i64 op,xv,yv] w K:=by
 apply V4;unfold ZX
 obtain⟨gs,rfl⟩:=hst
 obtain⟨bc,hB,hC⟩:=h.blk
 simp only at hB
 unfold M.binB at hK
 simp only[push_cast,xJ XF h.err.bits.cell]
 refine zh (fun c=>?_) (fun c=>?_)
 ·rw[if_pos c] at hK
  have:=hc c
  simp(disch:=first|(simp only[push_cast];done)|omega) only[push_cast,hx.len,hy.len,zF,xJ XF h.err.bits.cell]
  rw[decide_eq_false (by omega)]
  refine Uz ?_
  refine vbuildS_row1 (xs:=[yv,xv]) XD ke jr (fun x hx'=>by
   simp only[List.mem_cons,List.not_mem_nil,or_false] at hx'
   rcases hx' with rfl|rfl
   ·exact Sl.cells1 hy
   ·exact Sl.cells1 hx) (by simp) fun b1 w1 hb1 he1 hz1 hB1=>?_
  have hv:Vals (· =b1) w1 (.slice (some ⟨b1,0,none⟩) [yv,xv].length [yv,xv].length) [yv,xv]:=hB1.sl1 rfl (by simp)
  refine Concat_spec (zss:=[ys,xs]) hv rfl (Fy:=Off X F) (fun i hi=>?_) (by simp;omega) (by simp) fun w2 r he2 hr2 hn2=>?_
  ·match i,hi with
   |0,_=>exact hy.ext he1
   |1,_=>exact hx.ext he1
  ·have e2:=he1.trans he2
   have z1:=he1.size
   refine hK w2 F (some gs) r (ys++xs) (h.ext e2) (Mv.refl.ext e2) (NewI.of (w:=w) (by simpa using hr2) (fun b hb=>by have:=hn2 b hb;omega) h.lt).ints (hys.app hxs) (M.Bd.Out.ret _ _)
 rw[if_neg c] at hK
 have hl:=hl c
 simp(disch:=first|(simp only[push_cast];done)|omega) only[push_cast,hx.len,hy.len,xJ XF h.err.bits.cell]
 rw[decide_eq_false (by omega)]
 refine Uz ?_
 simp(disch:=first|(simp only[push_cast];done)|omega) only[push_cast,hB.ld1,JP]
 refine zh (fun c=>?_) (fun c=>?_)
 ·rw[if_pos c] at hK
  exact each_spec (p:=fun a b=> .and a b .ret) h hx hy (by omega) (by omega) hxs hys (fun w1 F1 st1 x y K1 h1 _ hx1 hy1 hK1=>jG h1 hx1 hy1 hK1) fun w3 F3 st3 r zs h3 hm3 hr3 hz3 ho3=>hK w3 F3 st3 r zs h3 hm3 hr3.ints hz3 ho3
 rw[if_neg c] at hK
 refine zh (fun c=>?_) (fun c=>?_)
 ·rw[if_pos c] at hK
  exact each_spec (p:=M.orB) h hx hy (by omega) (by omega) hxs hys (fun w1 F1 st1 x y K1 h1 _ hx1 hy1 hK1=>bor_spec h1 hx1 hy1 hK1) fun w3 F3 st3 r zs h3 hm3 hr3 hz3 ho3=>hK w3 F3 st3 r zs h3 hm3 hr3.ints hz3 ho3
 rw[if_neg c] at hK
 refine zh (fun c=>?_) (fun c=>?_)
 ·rw[if_pos c] at hK
  exact each_spec (p:=fun a b=> .xor a b .ret) h hx hy (by omega) (by omega) hxs hys (fun w1 F1 st1 x y K1 h1 _ hx1 hy1 hK1=>Qd h1 hx1 hy1 hK1) fun w3 F3 st3 r zs h3 hm3 hr3 hz3 ho3=>hK w3 F3 st3 r zs h3 hm3 hr3.ints hz3 ho3
 rw[if_neg c] at hK
 refine zh (fun c=>?_) (fun c=>?_)
 ·rw[if_pos c] at hK
  exact bsum_spec h hx hy (by omega) (by omega) hxs hys (by decide) fun w3 F3 st3 r zs h3 hm3 hr3 hz3 ho3=>hK w3 F3 st3 r zs h3 hm3 hr3.ints hz3 ho3
 rw[if_neg c] at hK
 refine zh (fun c=>?_) (fun c=>?_)
 ·rw[if_pos c] at hK
  refine negated_spec hy (by omega) hys fun w1 nv he1 hn1 hnn1=>?_
  exact bsum_spec (h.ext he1) (hx.ext he1) (NewI.of hn1 hnn1 h.lt).ints (by rw[M.negL_len];omega) (by omega) hxs hys.neg (by decide) fun w3 F3 st3 r zs h3 hm3 hr3 hz3 ho3=>hK w3 F3 st3 r zs h3 ((Mv.refl.ext he1).trans hm3) hr3.ints hz3 ho3
 rw[if_neg c] at hK
 refine zh (fun c=>?_) (fun c=>?_)
 ·rw[if_pos c] at hK
  exact mul_spec h hx hy hl (by omega) hxs hys hK
 rw[if_neg c] at hK
 refine zh (fun c=>?_) (fun c=>?_)
 ·rw[if_pos c] at hK
  refine divide_spec h hx hy hl (by omega) hxs hys fun w3 F3 st3 qv rv q r h3 hm3 hq3 hr3 hqs hrs ho3=>?_
  simp only[push_cast]
  exact hK w3 F3 st3 qv q h3 hm3 hq3 hqs (M.Bd.Out.map _ ho3)
 rw[if_neg c] at hK
 refine zh (fun c=>?_) (fun c=>?_)
 ·rw[if_pos c] at hK
  refine divide_spec h hx hy hl (by omega) hxs hys fun w3 F3 st3 qv rv q r h3 hm3 hq3 hr3 hqs hrs ho3=>?_
  simp only[push_cast]
  exact hK w3 F3 st3 rv r h3 hm3 hr3 hrs (M.Bd.Out.map _ ho3)
 rw[if_neg c] at hK
 refine zh (fun c=>?_) (fun c=>?_)
 ·rw[if_pos c] at hK
  exact shift_spec h hx hy (by omega) (by omega) hxs hys (by decide) hK
 rw[if_neg c] at hK
 refine zh (fun c=>?_) (fun c=>?_)
 ·rw[if_pos c] at hK
  exact shift_spec h hx hy (by omega) (by omega) hxs hys (by decide) hK
 rw[if_neg c] at hK
 refine zh (fun c=>?_) (fun c=>by omega)
 simp(disch:=first|(simp only[push_cast];done)|omega) only[push_cast,hx.len,zF,hx.iaddr,hx.load]
 rw[show((xs.length:Int)-1).toNat=xs.length-1 by omega]
 exact shift_spec h hx hy (by omega) (by omega) hxs hys (hxs.get (by omega)) hK
theorem compare_spec {op:Int} {xv yv:Value} {xs ys:List Int} (h:BdR n bb ar ab X F w st) (hst:∃gs,st=some gs) (h3:15≤op) (h14:op≤17) (hx:Ints (Off X F) w xv xs) (hy:Ints (Off X F) w yv ys) (hl:xs.length=ys.length) (h1:1≤xs.length) (h8:xs.length≤8) (hxs:SmL xs) (hys:SmL ys)
  (hK:∀w' F' st' r,BdR n bb ar ab X F' w' st'→Mv F w F' w'→Sm r→M.Bd.Out n (M.cmpB op xs ys) st st' r→K (.int .i64 r) w'):
  vcall PP ql #[.pointer (some ⟨bb,0,none⟩),.int .i64 op,xv,yv] w K:=by
 apply Xt;unfold jQ
 obtain⟨gs,rfl⟩:=hst
 obtain⟨bc,hB,hC⟩:=h.blk
 simp only at hB
 unfold M.cmpB at hK
 simp(disch:=first|(simp only[push_cast];done)|omega) only[push_cast,hx.len,hy.len,xJ XF h.err.bits.cell]
 rw[decide_eq_false (by omega)]
 refine Uz ?_
 simp(disch:=first|(simp only[push_cast];done)|omega) only[push_cast,hB.ld1,JP]
 refine zh (fun c=>?_) (fun c=>?_)
 ·rw[if_pos c] at hK
  exact bsame_spec h hx hy (by omega) (by omega) hxs hys hK
 rw[if_neg c] at hK
 refine zh (fun c=>?_) (fun c=>?_)
 ·rw[if_pos c] at hK
  exact bless_spec h hx hy (by omega) (by omega) hxs hys hK
 rw[if_neg c] at hK
 refine zh (fun c=>?_) (fun c=>by omega)
 exact under_spec h hx hy hl h1 (by omega) hxs hys hK
theorem numbers_spec {xv:Value} {xs:List Int} (hx:Ints Fx w xv xs) (h8:xs.length≤1000) (hK:∀w' r,Ext w w'→OwnI PP zg w' r xs→(∀b,r.ownBlock=some b→w.heap.size≤b)→K r w'):vcall PP Yi #[xv] w K:=by
 apply zG0;unfold JC
 simp(disch:=first|(simp only[push_cast];done)|omega) only[push_cast,hx.len]
 refine vloop_up xs.length (fun i u w'=> ∃r,u=[r,.int .i64 i]∧Ext w w'∧OwnI PP zg w' r (xs.take i)∧∀b,r.ownBlock=some b→w.heap.size≤b) ⟨_,rfl,Same.refl _ _,OwnI.nil,fun b hb=>by cases hb⟩ ?_
 rintro i _ g w1 C hi ⟨r,rfl,he1,ho1,hn1⟩ hC
 simp only[push_cast]
 refine zh (fun hlt=>?_) (fun hge=>?_)
 ·have hi':i<xs.length:=by omega
  have hx2:=hx.ext he1
  simp(disch:=first|(simp only[push_cast];done)|omega) only[push_cast,hx2.iaddr,hx2.load]
  refine yc XC jp Xv rfl rfl fun b5 w5 hb5 he5 hz5 hB5=>?_
  have he:=he1.trans he5
  have hs5:=he.size
  refine(ho1.ext he5).app1 Zn hB5 (by simp;omega) (by simp;omega) fun r6 w6 ho6 hs6 hn6=>?_
  try simp(disch:=omega) only[push_cast,zF]
  refine hC hi' _ _ ⟨r6,by simp<;>exact⟨rfl,rfl⟩,Ext.then he hs6 fun x hx=>hn1 x hx,?_,fun b hb=>(hn6 b hb).elim (hn1 b) fun h=>by omega⟩
  rw[M.take_add hi' 0];exact ho6
 ·rw[List.take_of_length_le (by omega)] at ho1
  exact hK w1 r he1 ho1 hn1
end Go.Proofs.YtaekfnbnhjgboaaGreatDoor
end
