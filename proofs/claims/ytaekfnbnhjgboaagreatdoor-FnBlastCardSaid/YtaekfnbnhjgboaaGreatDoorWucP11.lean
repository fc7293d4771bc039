import Derived.Test.YtaekfnbnhjgboaaGreatDoorWucP10
/- A part of the proof. -/
set_option linter.unusedVariables false
set_option linter.unusedSimpArgs false
set_option linter.unnecessarySimpa false
set_option linter.unusedSectionVars false
section
namespace Go.Proofs.YtaekfnbnhjgboaaGreatDoor
open Go Go.Vc Go.Proofs
variable {w:World} {K:Value→World→Prop} {D F Fx Fy Y S:Nat→Prop} {n b4 b8:Nat} {gs gs':M.Gs} {v nv:Value} {cs cs':List Value} {st:Option M.Gs} {a b m:Int}
def NetO (n:Nat) (D:Nat→Prop) (w:World) (gs:M.Gs) (m:Int) (cs:List Value):Prop:=
 if m=0 then cs=[.int .i64 0,.slice none 0 0] else ∃o l c,cs=[.int .i64 n,.slice o l c]∧GOff D w (.slice o l c) gs∧gs.length≤600
theorem NetO.form (h:NetO n D w gs m cs):∃(x:Int) (o:Option Addr) (l c:Nat),cs=[.int .i64 x,.slice o l c]:=by
 unfold NetO at h
 split at h
 ·exact⟨_,_,_,_,h⟩
 ·obtain⟨o,l,c,e,_⟩:=h;exact⟨_,_,_,_,e⟩
theorem NetO.len (h:NetO n D w gs m cs):cs.length=2:=by obtain⟨x,o,l,c,rfl⟩:=h.form;rfl
theorem NetO.one (h:NetO n D w gs m cs):∀u,u∈cs→u.oneCell'=true:=by obtain⟨x,o,l,c,rfl⟩:=h.form;exact net_one
theorem NetO.same {w':World} (h:NetO n D w gs m cs) (hw:Same S w w') (hS:∀b,S b→D b):NetO n D w' gs m cs:=by
 unfold NetO at h⊢
 by_cases hm:m=0
 ·rw[if_pos hm] at h⊢;exact h
 ·rw[if_neg hm] at h⊢
  obtain⟨o,l,c,e,h1,h2⟩:=h
  exact⟨o,l,c,e,h1.swap hw hS fun b hb _=>hb,h2⟩
theorem NetO.weak {Y:Nat→Prop} (h:NetO n D w gs m cs) (hY:∀b,Y b→D b):NetO n Y w gs m cs:=by
 unfold NetO at h⊢
 by_cases hm:m=0
 ·rw[if_pos hm] at h⊢;exact h
 ·rw[if_neg hm] at h⊢
  obtain⟨o,l,c,e,h1,h2⟩:=h
  exact⟨o,l,c,e,Sl.weaken h1 fun b hb _ hy=>hb (hY b hy),h2⟩
theorem NetO.put {n':Nat} {nv':Value} (h1:GOff D w nv' (if m=0 then[] else gs)) (h2:n'=if m=0 then 0 else n) (h3:m=0→nv'= .slice none 0 0) (h4:gs.length≤600):NetO n D w gs m [.int .i64 (n':Nat),nv']:=by
 unfold NetO
 by_cases c:m=0
 ·rw[if_pos c] at h2⊢;rw[h2,h3 c];rfl
 ·rw[if_neg c] at h1 h2⊢
  obtain⟨o,c',e,_⟩:=h1.shape
  exact⟨o,_,c',by rw[h2,e],by rw[←e];exact h1,h4⟩
theorem NetO.of {o:Option Addr} {l c:Nat} (h:GOff D w (.slice o l c) gs) (hl:gs.length≤600) (hm:m≠0):NetO n D w gs m [.int .i64 n,.slice o l c]:=by
 unfold NetO;rw[if_neg hm];exact⟨o,l,c,rfl,h,hl⟩
theorem put_len {g:M.Gt} (h:gs.length≤600):(M.putG n gs g).1.length≤600:=by
 unfold M.putG
 split
 ·exact h
 ·split
  ·exact h
  ·rw[List.length_append,List.length_singleton];omega
theorem l4Abs_sm (ha:Sm a) (hK:K (.int .i64 (M.absI a)) w):vcall PP qb #[.int .i64 a] w K:=by
 apply q00;unfold WI
 unfold M.absI at hK
 simp only[push_cast]
 refine zh (fun h=>?_) (fun h=>?_)
 ·rw[if_pos h] at hK
  simp(disch:=omega) only[push_cast,zA,Int.zero_sub]
  exact hK
 ·rw[if_neg h] at hK
  exact hK
theorem j70 (x y:Int):zE PP zl [(1,.int .i64 x),(2,.int .i64 y)] w K=K (.agg ⟨yu ⟨false,x,y⟩⟩) w:=yf Xm (us:=[[.int .i64 x],[.int .i64 y]]) rfl rfl
theorem ZU0 (x y:Int):zE PP zl [(0,.bool true),(1,.int .i64 x),(2,.int .i64 y)] w K=K (.agg ⟨yu ⟨true,x,y⟩⟩) w:=yf Xm (us:=[[.bool true],[.int .i64 x],[.int .i64 y]]) rfl rfl
theorem net_out {b2:Nat} {cs0:List Value} (hB:Blk w b2 cs0 zf) (h0:cs0.length=2) (hl:cs.length=2) (h1:∀u,u∈cs→u.oneCell'=true) (hK:∀w',Same (· =b2) w w'→K (.agg ⟨cs⟩) w'):
  zp PP zf (.pointer (some ⟨b2,0,none⟩)) (.agg ⟨cs⟩) w fun _ w1=>vlv PP zf (.pointer (some ⟨b2,0,none⟩)) w1 K:=by
 refine hB.stAgg (cs':=cs) (by omega) (by rw[hl];exact y4) h1 fun w1 hs hz hB1=>?_
 rw[hB1.lv (t:=zf) (by rw[hl];exact y4)]
 exact hK w1 hs
theorem sand6_spec (hn:n≤8) (hg:GOff D w nv gs) (hl:gs.length≤600) (hD:∀b,D b→b<w.heap.size) (ha:Sm a) (hb:Sm b) (ha0:a≠0) (hb0:b≠0)
  (hK:∀w' cs,Ext w w'→NetO n D w' (M.andG n gs a b).1 (M.andG n gs a b).2 cs→K (.tuple #[.agg ⟨cs⟩,.int .i64 (M.andG n gs a b).2]) w'):
  vcall PP XP #[.agg ⟨[.int .i64 n,nv]⟩,.int .i64 a,.int .i64 b] w K:=by
 apply xZ0;unfold WH
 obtain⟨go,gc,hgo,_⟩:=hg.shape
 rw[hgo] at hg⊢
 refine zy fun b1 w1 hb1 he1 hz1 hB1=>?_
 refine zC xH fun b2 w2 hb2 he2 hz2 hB2=>?_
 have e2:=he1.trans he2
 have hB12:=hB1.ext he2
 have hl1:∀K:Value→World→Prop,ze PP zf (.pointer (some ⟨b1,0,none⟩)) w2 K=K (.agg ⟨[.int .i64 n,.slice go (gs.map yu).length gc]⟩) w2:=fun K=>hB12.ldAgg (t:=zf) y4
 have z1:=he1.size;have z2:=he2.size
 have same:∀(x:Int),x≠0→(M.andG n gs a b)=(gs,x)→∀w':World,w'=w2→zp PP zf (.pointer (some ⟨b2,0,none⟩)) (.agg ⟨[.int .i64 n,.slice go (gs.map yu).length gc]⟩) w' fun _ w_10=>vlv PP zf (.pointer (some ⟨b2,0,none⟩)) w_10 fun r6 w_11=>K (.tuple #[r6,(.int .i64 x)]) w_11:=fun x hx e w' ew=>by
  subst ew
  rw[e] at hK
  refine net_out hB2 rfl rfl net_one fun w3 hs3=>?_
  have e3:Ext w w3:=Ext.then e2 hs3 fun y hy=>by subst hy;omega
  exact hK w3 _ e3 (NetO.of (Sl.ext hg e3) hl hx)
 have hgw:GatesR (fun b=> ¬D b∧b<w.heap.size) w (.slice go (gs.map yu).length gc) gs:=Sl.weaken hg fun b hb hl=>⟨hb,hl⟩
 have put:∀g:M.Gt,(M.andG n gs a b)=M.putG n gs g→vcall PP jq #[.agg ⟨[.int .i64 n,.slice go (gs.map yu).length gc]⟩,.agg ⟨yu g⟩] w2 fun t47 w_27=>zj PP t47 0 w_27 fun t48 w_28=>zj PP t47 1 w_28 fun t49 w_29=>
   zp PP zf (.pointer (some ⟨b2,0,none⟩)) t48 w_29 fun _ w_30=>vlv PP zf (.pointer (some ⟨b2,0,none⟩)) w_30 fun r6_3 w_31=>K (.tuple #[r6_3,t49]) w_31:=fun g e=>by
  rw[e] at hK
  refine sput_spec (D:=fun b=>D b∨b=b2) hn (Sl.weaken (Sl.ext hgw e2) fun b hb hl hd=>hd.elim hb.1 fun e=>by have:=hb.2;omega) hl (fun b hb=>hb.elim (fun h=>by have:=hD b h;omega) fun h=>by omega) fun w3 n' nv' he3 hg3 hn3 hz3=>?_
  simp only[push_cast]
  have hN:=NetO.put hg3 hn3 hz3 (put_len hl)
  refine net_out (hB2.ext he3) rfl hN.len hN.one fun w4 hs4=>?_
  exact hK w4 _ (Ext.then (e2.trans he3) hs4 fun y hy=>by subst hy;omega) ((hN.same hs4 fun b hb=> .inr hb).weak fun b hb=> .inl hb)
 unfold Sm at ha hb
 refine zU (fun u w'=>u=[]∧w'=w2∧M.andG n gs a b=M.putG n gs ⟨false,a,b⟩) ?_ ?_
 ·intro J hJ
  refine zU (fun u w'=>u=[.bool (decide (a= -1∨b= -1∨a= -b))]∧w'=w2) ?_ ?_
  ·intro J1 hJ1
   simp only[push_cast]
   refine zh (fun c=>hJ1 _ _ ⟨by rw[decide_eq_true (.inl c)],rfl⟩) (fun c=>?_)
   try simp only[push_cast]
   refine zh (fun c2=>hJ1 _ _ ⟨by rw[decide_eq_true (.inr (.inl c2))],rfl⟩) (fun c2=>?_)
   simp(disch:=omega) only[push_cast,zA,Int.zero_sub]
   refine hJ1 _ _ ⟨?_,rfl⟩
   rw[decide_eq_decide.2 (show(a= -1∨b= -1∨a= -b)↔a= -b from⟨fun h=>h.elim (fun h=>absurd h c) fun h=>h.elim (fun h=>absurd h c2) id,fun h=> .inr (.inr h)⟩)]
  rintro _ _ w3 ⟨rfl,rfl⟩
  simp only[push_cast]
  refine zh (fun c=>?_) (fun c=>?_)
  ·rw[hl1]
   refine same (-1) (by decide) ?_ _ rfl
   unfold M.andG
   by_cases c1:a= -1∨b= -1
   ·rw[if_pos c1]
   ·rw[if_neg c1]
    have c2:a= -b:=c.elim (fun h=>absurd (.inl h) c1) fun h=>h.elim (fun h=>absurd (.inr h) c1) id
    rw[if_neg (by omega),if_neg (by omega)]
    by_cases c3:a=b
    ·exfalso;omega
    ·rw[if_neg c3,if_pos c2]
  refine zU (fun u w'=>u=[.bool (decide (a=1∨a=b))]∧w'=w3) ?_ ?_
  ·intro J2 hJ2
   try simp only[push_cast]
   refine zh (fun c=>hJ2 _ _ ⟨by rw[decide_eq_true (.inl c)],rfl⟩) (fun c2=>?_)
   try simp only[push_cast]
   refine hJ2 _ _ ⟨?_,rfl⟩
   rw[decide_eq_decide.2 (show(a=1∨a=b)↔a=b from⟨fun h=>h.elim (fun h=>absurd h c2) id,.inr⟩)]
  rintro _ _ w4 ⟨rfl,rfl⟩
  have c1: ¬(a= -1∨b= -1):=fun h=>c (h.elim .inl fun h=> .inr (.inl h))
  simp only[push_cast]
  refine zh (fun c2=>?_) (fun c2=>?_)
  ·rw[hl1]
   refine same b hb0 ?_ _ rfl
   unfold M.andG
   rw[if_neg c1]
   by_cases c3:a=1
   ·rw[if_pos c3]
   ·have c4:a=b:=c2.elim (fun h=>absurd h c3) id
    rw[if_neg c3]
    by_cases c5:b=1
    ·omega
    ·rw[if_neg c5,if_pos c4,c4]
  try simp only[push_cast]
  refine zh (fun c3=>?_) (fun c3=>?_)
  ·rw[hl1]
   refine same a ha0 ?_ _ rfl
   unfold M.andG
   rw[if_neg c1,if_neg (fun h=>c2 (.inl h)),if_pos c3]
  have hand:M.andG n gs a b=M.putG n gs (M.gateA a b):=by
   unfold M.andG
   rw[if_neg c1,if_neg (fun h=>c2 (.inl h)),if_neg c3,if_neg (fun h=>c2 (.inr h)),if_neg (fun h=>c (.inr (.inr h)))]
  refine l4Abs_sm ha (l4Abs_sm hb ?_)
  try simp only[push_cast]
  unfold M.gateA at hand
  refine zh (fun c4=>?_) (fun c4=>?_)
  ·rw[if_pos c4] at hand
   rw[hl1,j70]
   exact put _ hand
  ·rw[if_neg c4] at hand
   exact hJ _ _ ⟨rfl,rfl,hand⟩
 rintro _ _ w3 ⟨rfl,rfl,hp⟩
 rw[hl1,j70]
 exact put _ hp
theorem sxor6_spec (hn:n≤8) (hg:GOff D w nv gs) (hl:gs.length≤600) (hD:∀b,D b→b<w.heap.size) (ha:Sm a) (hb:Sm b) (ha0:a≠0) (hb0:b≠0)
  (hK:∀w' cs,Ext w w'→NetO n D w' (M.xorG n gs a b).1 (M.xorG n gs a b).2 cs→K (.tuple #[.agg ⟨cs⟩,.int .i64 (M.xorG n gs a b).2]) w'):
  vcall PP XO #[.agg ⟨[.int .i64 n,nv]⟩,.int .i64 a,.int .i64 b] w K:=by
 apply xX0;unfold WF
 obtain⟨go,gc,hgo,_⟩:=hg.shape
 rw[hgo] at hg⊢
 refine zy fun b1 w1 hb1 he1 hz1 hB1=>?_
 refine zC xH fun b2 w2 hb2 he2 hz2 hB2=>?_
 have e2:=he1.trans he2
 have hB12:=hB1.ext he2
 have hl1:∀K:Value→World→Prop,ze PP zf (.pointer (some ⟨b1,0,none⟩)) w2 K=K (.agg ⟨[.int .i64 n,.slice go (gs.map yu).length gc]⟩) w2:=fun K=>hB12.ldAgg (t:=zf) y4
 have z1:=he1.size;have z2:=he2.size
 have same:∀(x:Int),x≠0→(M.xorG n gs a b)=(gs,x)→∀w':World,w'=w2→zp PP zf (.pointer (some ⟨b2,0,none⟩)) (.agg ⟨[.int .i64 n,.slice go (gs.map yu).length gc]⟩) w' fun _ w_10=>vlv PP zf (.pointer (some ⟨b2,0,none⟩)) w_10 fun r6 w_11=>K (.tuple #[r6,(.int .i64 x)]) w_11:=fun x hx e w' ew=>by
  subst ew
  rw[e] at hK
  refine net_out hB2 rfl rfl net_one fun w3 hs3=>?_
  have e3:Ext w w3:=Ext.then e2 hs3 fun y hy=>by subst hy;omega
  exact hK w3 _ e3 (NetO.of (Sl.ext hg e3) hl hx)
 have hgw:GatesR (fun b=> ¬D b∧b<w.heap.size) w (.slice go (gs.map yu).length gc) gs:=Sl.weaken hg fun b hb hl=>⟨hb,hl⟩
 have absN:∀a:Int,M.absI a=(a.natAbs:Int):=fun a=>by unfold M.absI;split<;>omega
 have na:=absN a
 have nb:=absN b
 unfold Sm at ha hb
 refine zU (fun u w'=>u=[]∧w'=w2∧M.xorG n gs a b=((M.putG n gs (M.gateX a b)).1,M.turnI (decide (a<0) != decide (b<0)) (M.putG n gs (M.gateX a b)).2)) ?_ ?_
 ·intro J hJ
  refine zU (fun u w'=>u=[.bool (decide (a=1∨a= -1))]∧w'=w2) ?_ ?_
  ·intro J1 hJ1
   simp only[push_cast]
   refine zh (fun c=>hJ1 _ _ ⟨by rw[decide_eq_true (.inl c)],rfl⟩) (fun c=>?_)
   try simp only[push_cast]
   refine hJ1 _ _ ⟨?_,rfl⟩
   rw[decide_eq_decide.2 (show(a=1∨a= -1)↔a= -1 from⟨fun h=>h.elim (fun h=>absurd h c) id,.inr⟩)]
  rintro _ _ w3 ⟨rfl,rfl⟩
  simp only[push_cast]
  refine zh (fun c=>?_) (fun c=>?_)
  ·rw[hl1]
   have e:M.xorG n gs a b=(gs,-a*b):=by
    unfold M.xorG
    rcases c with rfl|rfl
    ·rw[if_pos (by decide)];simp[M.turnI]
    ·rw[if_pos (by decide)];simp[M.turnI]
   have hm:(-a*b).natAbs=b.natAbs:=by rcases c with rfl|rfl<;>simp
   have hm0: -a*b≠0:=by omega
   simp(disch:=omega) only[push_cast,zA,Int.zero_sub]
   exact same (-a*b) hm0 e _ rfl
  refine zU (fun u w'=>u=[.bool (decide (b=1∨b= -1))]∧w'=w3) ?_ ?_
  ·intro J1 hJ1
   try simp only[push_cast]
   refine zh (fun c=>hJ1 _ _ ⟨by rw[decide_eq_true (.inl c)],rfl⟩) (fun c=>?_)
   try simp only[push_cast]
   refine hJ1 _ _ ⟨?_,rfl⟩
   rw[decide_eq_decide.2 (show(b=1∨b= -1)↔b= -1 from⟨fun h=>h.elim (fun h=>absurd h c) id,.inr⟩)]
  rintro _ _ w4 ⟨rfl,rfl⟩
  simp only[push_cast]
  have c1: ¬M.absI a=1:=by omega
  refine zh (fun d=>?_) (fun d=>?_)
  ·rw[hl1]
   have e:M.xorG n gs a b=(gs,-b*a):=by
    unfold M.xorG
    rw[if_neg c1]
    rcases d with rfl|rfl
    ·rw[if_pos (by decide)];simp[M.turnI]
    ·rw[if_pos (by decide)];simp[M.turnI]
   have hm:(-b*a).natAbs=a.natAbs:=by rcases d with rfl|rfl<;>simp
   have hm0: -b*a≠0:=by omega
   simp(disch:=omega) only[push_cast,zA,Int.zero_sub]
   exact same (-b*a) hm0 e _ rfl
  have c2: ¬M.absI b=1:=by omega
  try simp only[push_cast]
  refine zh (fun f=>?_) (fun f=>?_)
  ·rw[hl1]
   exact same (-1) (by decide) (by unfold M.xorG;rw[if_neg c1,if_neg c2,if_pos f]) _ rfl
  try simp(disch:=omega) only[push_cast,zA,Int.zero_sub]
  refine zh (fun f2=>?_) (fun f2=>?_)
  ·rw[hl1]
   exact same 1 (by decide) (by unfold M.xorG;rw[if_neg c1,if_neg c2,if_neg f,if_pos f2]) _ rfl
  exact hJ _ _ ⟨rfl,rfl,by unfold M.xorG;rw[if_neg c1,if_neg c2,if_neg f,if_neg f2]⟩
 rintro _ _ w3 ⟨rfl,rfl,hx⟩
 rw[hx] at hK
 have hpm:=put_abs (g:=M.gateX a b) hl hn
 refine zU (fun u w'=>u=[.int .i64 (if a<0 then-1 else 1)]∧w'=w3) ?_ ?_
 ·intro J1 hJ1
  simp only[push_cast]
  refine zh (fun c=>?_) (fun c=>?_)
  ·simp(disch:=omega) only[push_cast,zA,Int.zero_sub]
   exact hJ1 _ _ ⟨by rw[if_pos c],rfl⟩
  ·exact hJ1 _ _ ⟨by rw[if_neg c],rfl⟩
 rintro _ _ w4 ⟨rfl,rfl⟩
 refine zU (fun u w'=>u=[.int .i64 (if(decide (a<0) != decide (b<0)) then-1 else 1)]∧w'=w4) ?_ ?_
 ·intro J1 hJ1
  simp only[push_cast]
  refine zh (fun c=>?_) (fun c=>?_)
  ·by_cases d:a<0
   ·rw[if_pos d]
    simp(disch:=omega) only[push_cast,zA,Int.zero_sub]
    exact hJ1 _ _ ⟨by simp[c,d],rfl⟩
   ·rw[if_neg d]
    simp(disch:=omega) only[push_cast,zA,Int.zero_sub]
    exact hJ1 _ _ ⟨by simp[c,d],rfl⟩
  ·refine hJ1 _ _ ⟨?_,rfl⟩
   by_cases d:a<0<;>simp[c,d]
 rintro _ _ w5 ⟨rfl,rfl⟩
 refine l4Abs_sm ha (l4Abs_sm hb ?_)
 refine zU (fun u w'=>u=[.int .i64 (M.gateX a b).a,.int .i64 (M.gateX a b).b]∧w'=w5) ?_ ?_
 ·intro J1 hJ1
  try simp only[push_cast]
  unfold M.gateX at hJ1
  refine zh (fun c=>?_) (fun c=>?_)
  ·rw[if_pos c] at hJ1
   exact l4Abs_sm hb (l4Abs_sm ha (hJ1 _ _ ⟨rfl,rfl⟩))
  ·rw[if_neg c] at hJ1
   exact hJ1 _ _ ⟨rfl,rfl⟩
 rintro _ _ w6 ⟨rfl,rfl⟩
 try simp only[push_cast]
 rw[hl1,ZU0,show(⟨true,(M.gateX a b).a,(M.gateX a b).b⟩:M.Gt)=M.gateX a b from by unfold M.gateX;split<;>rfl]
 refine sput_spec (D:=fun b=>D b∨b=b2) hn (Sl.weaken (Sl.ext hgw e2) fun b hb hl hd=>hd.elim hb.1 fun e=>by have:=hb.2;omega) hl (fun b hb=>hb.elim (fun h=>by have:=hD b h;omega) fun h=>by omega) fun w7 n' nv' he7 hg7 hn7 hz7=>?_
 simp only[push_cast]
 have hN:=NetO.put hg7 hn7 hz7 (put_len hl)
 generalize [Value.int .i64 (n':Nat),nv']=cs at hN⊢
 generalize hp2:(M.putG n gs (M.gateX a b)).2=pm at*
 have hcl:=hN.len
 refine zC xH fun b8 w8 hb8 he8 hz8 hB8=>?_
 have hN8:=hN.same (Same.of_ext he8 (S:=fun _=>False)) fun b hb=>hb.elim
 refine hB8.stAgg (cs':=cs) (by rw[hcl];rfl) (by rw[hcl];exact y4) hN.one fun w9 hs9 hz9 hB9=>?_
 rw[hB9.ldAgg (t:=zf) (by rw[hcl];exact y4)]
 have hmul:(if(decide (a<0) != decide (b<0))=true then(-1:Int) else 1)*pm=M.turnI (decide (a<0) != decide (b<0)) pm:=by
  unfold M.turnI;split<;>omega
 try simp only[push_cast]
 rw[hmul,zA (by have:=Uk (c:=decide (a<0) != decide (b<0)) (a:=pm);omega) (by have:=Uk (c:=decide (a<0) != decide (b<0)) (a:=pm);omega)]
 have l7:=he7.size;have l8:=he8.size
 have hB29:=((hB2.ext he7).ext he8).same hs9 (show¬b2=b8 by omega)
 refine net_out hB29 rfl hN.len hN.one fun w10 hs10=>?_
 have e9:Ext w w9:=Ext.then ((e2.trans he7).trans he8) hs9 fun y hy=>by subst hy;omega
 refine hK w10 _ (Ext.then e9 hs10 fun y hy=>by subst hy;omega) ?_
 have h9:Ext w7 w9:=Ext.then he8 hs9 fun y hy=>by subst hy;omega
 have h10:=((hN.same (Same.of_ext h9 (S:=fun _=>False)) fun b hb=>hb.elim).same hs10 fun b hb=> .inr hb).weak (Y:=D) fun b hb=> .inl hb
 unfold NetO at h10⊢
 by_cases hm0:pm=0
 ·rw[if_pos hm0] at h10;rw[if_pos (M.turn_zero.2 hm0)];exact h10
 ·rw[if_neg hm0] at h10;rw[if_neg (fun h=>hm0 (M.turn_zero.1 h))];exact h10
end Go.Proofs.YtaekfnbnhjgboaaGreatDoor
end
section
namespace Go.Proofs.YtaekfnbnhjgboaaGreatDoor
open Go Go.Vc Go.Proofs
variable {w:World} {K:Value→World→Prop} {D F Fx Fy Y S:Nat→Prop} {n b4 b8:Nat} {gs gs':M.Gs} {v nv:Value} {cs cs':List Value} {st st':Option M.Gs} {a b c m x y r:Int}
def MkR (n:Nat) (D:Nat→Prop) (w:World) (cs:List Value) (st:Option M.Gs):Prop:=
 match st with
 |some gs=> ∃o l c,cs=[.int .i64 n,.slice o l c,.bool true]∧GOff D w (.slice o l c) gs∧gs.length≤600
 |none=>cs=[.int .i64 0,.slice none 0 0,.bool false]
theorem MkR.form (h:MkR n D w cs st):∃(x:Int) (o:Option Addr) (l c:Nat) (b:Bool),cs=[.int .i64 x,.slice o l c,.bool b]:=by
 cases st with
 |none=>exact⟨_,_,_,_,_,h⟩
 |some gs=>obtain⟨o,l,c,e,_⟩:=h;exact⟨_,_,_,_,_,e⟩
theorem MkR.len (h:MkR n D w cs st):cs.length=3:=by obtain⟨x,o,l,c,b,rfl⟩:=h.form;rfl
theorem MkR.one (h:MkR n D w cs st):∀u,u∈cs→u.oneCell'=true:=by
 obtain⟨x,o,l,c,b,rfl⟩:=h.form
 intro u hu
 simp only[List.mem_cons,List.not_mem_nil,or_false] at hu
 rcases hu with rfl|rfl|rfl<;>rfl
theorem MkR.swap {w':World} (h:MkR n D w cs st) (hw:Same S w w') (hS:∀b,S b→D b) (hY:∀b,Y b→b<w.heap.size→D b):MkR n Y w' cs st:=by
 cases st with
 |none=>exact h
 |some gs=>
  obtain⟨o,l,c,e,h1,h2⟩:=h
  exact⟨o,l,c,e,h1.swap hw hS hY,h2⟩
theorem MkR.ext {w':World} (h:MkR n D w cs st) (hw:Ext w w') (hY:∀b,Y b→b<w.heap.size→D b):MkR n Y w' cs st:=h.swap hw (fun _ h=>h.elim) hY
theorem MkR.same {w':World} (h:MkR n D w cs st) (hw:Same S w w') (hS:∀b,S b→D b):MkR n D w' cs st:=h.swap hw hS fun _ h _=>h
def Sn (st:Option M.Gs) (x:Int):Prop:=Sm x∧(x=0→st=none)
def SnL (st:Option M.Gs) (xs:List Int):Prop:=∀x,x∈xs→Sn st x
theorem Zr0 {α:Type} {p:M.Bd α} {a:α} (h:M.Bd.Out n p st st' a):st=none→st'=none:=fun e=>by subst e;exact h.1
theorem Sn.out {α:Type} {p:M.Bd α} {a:α} (h:Sn st x) (ho:M.Bd.Out n p st st' a):Sn st' x:=⟨h.1,fun e=>Zr0 ho (h.2 e)⟩
theorem SnL.out {α:Type} {p:M.Bd α} {a:α} {xs:List Int} (h:SnL st xs) (ho:M.Bd.Out n p st st' a):SnL st' xs:=fun x hx=>(h x hx).out ho
theorem Sn.neg (h:Sn st x):Sn st (-x):=⟨by have:=h.1;unfold Sm at*;omega,fun e=>h.2 (by omega)⟩
theorem Sn.nz (h:Sn (some gs) x):x≠0:=fun e=>by have:=h.2 e;cases this
theorem Sn.of (h:Sm x) (h0:x≠0):Sn st x:=⟨h,fun e=>absurd e h0⟩
theorem SnL.get {xs:List Int} (h:SnL st xs) {i:Nat} (hi:i<xs.length):Sn st (xs.getD i 0):=h _ (M.getD_mem hi 0)
theorem SnL.app {xs ys:List Int} (h:SnL st xs) (h2:SnL st ys):SnL st (xs++ys):=fun x hx=>(List.mem_append.1 hx).elim (h x) (h2 x)
theorem SnL.one (h:Sn st x):SnL st [x]:=fun y hy=>by rw[List.mem_singleton.1 hy];exact h
theorem SnL.nil:SnL st []:=fun x hx=>by cases hx
theorem SnL.sm {xs:List Int} (h:SnL st xs):SmL xs:=fun x hx=>(h x hx).1
theorem SnL.fill (m:Nat):SnL st (M.offsL m):=fun x hx=>by rw[List.eq_of_mem_replicate hx];exact Sn.of (by decide) (by decide)
theorem SnL.neg {xs:List Int} (h:SnL st xs):SnL st (M.negL xs):=fun x hx=>by
 obtain⟨y,hy,rfl⟩:=List.mem_map.1 hx;exact(h y hy).neg
theorem YO0 {x:Int} {o:Option Addr} {l c:Nat} {b:Bool}:zE PP zd [(0,.agg ⟨[.int .i64 x,.slice o l c]⟩),(1,.bool b)] w K=K (.agg ⟨[.int .i64 x,.slice o l c,.bool b]⟩) w:=yf qI0 (us:=[[.int .i64 x,.slice o l c],[.bool b]]) rfl rfl
theorem Uw {b4:Nat} (hB:Blk w b4 cs zd) (h:cs.length=3):ze PP zd (.pointer (some ⟨b4,0,none⟩)) w K=K (.agg ⟨cs⟩) w:=hB.ldAgg (t:=zd) (by rw[h];exact Kc)
theorem mk_put {b4:Nat} {cs0:List Value} (hB:Blk w b4 cs0 zd) (h0:cs0.length=3) (hl:cs.length=3) (h1:∀u,u∈cs→u.oneCell'=true) (hK:∀w',Same (· =b4) w w'→w'.heap.size=w.heap.size→Blk w' b4 cs zd→K undef w'):zp PP zd (.pointer (some ⟨b4,0,none⟩)) (.agg ⟨cs⟩) w K:=
 hB.stAgg (cs':=cs) (by omega) (by rw[hl];exact Kc) h1 hK
theorem Wr {b8:Nat} {cs0:List Value} (hB:Blk w b8 cs0 zd) (h0:cs0.length=3) (hl:cs.length=3) (h1:∀u,u∈cs→u.oneCell'=true) (hK:∀w',Same (· =b8) w w'→K (.agg ⟨cs⟩) w'):
  zp PP zd (.pointer (some ⟨b8,0,none⟩)) (.agg ⟨cs⟩) w fun _ w1=>vlv PP zd (.pointer (some ⟨b8,0,none⟩)) w1 K:=
 mk_put hB h0 hl h1 fun w1 hs hz hB1=>by
  rw[hB1.lv (t:=zd) (by rw[hl];exact Kc)]
  exact hK w1 hs
theorem sand7_spec (hn:n≤8) (hk:MkR n D w cs st) (hD:∀b,D b→b<w.heap.size) (hx:Sn st x) (hy:Sn st y)
  (hK:∀w' cs' st' r,Ext w w'→MkR n D w' cs' st'→Sn st' r→M.Bd.Out n (.and x y .ret) st st' r→K (.tuple #[.agg ⟨cs'⟩,.int .i64 r]) w'):
  vcall PP xw #[.agg ⟨cs⟩,.int .i64 x,.int .i64 y] w K:=by
 apply xV0;unfold WD
 refine zy fun b3 w1 hb1 he1 hz1 hB1=>?_
 refine zC qa fun b6 w2 hb2 he2 hz2 hB2=>?_
 have e2:=he1.trans he2
 have hB12:=hB1.ext he2
 have z1:=he1.size;have z2:=he2.size
 cases st with
 |none=>
  have hcs:cs=[.int .i64 0,.slice none 0 0,.bool false]:=hk
  subst hcs
  simp(disch:=first|(simp only[push_cast];done)|omega) only[push_cast,hB12.ld2,Bool.not_false,Uw hB12 rfl]
  refine Wr hB2 rfl rfl hk.one fun w3 hs3=>?_
  exact hK w3 _ none 1 (Ext.then e2 hs3 fun b hb=>by omega) rfl (Sn.of (by decide) (by decide)) ⟨rfl,1,rfl⟩
 |some gs=>
  obtain⟨o,l,c,rfl,hg,hl⟩:=hk
  have hnet:ze PP zf (.pointer (some ⟨b3,0,none⟩)) w2=fun K=>K (.agg ⟨[.int .i64 n,.slice o l c]⟩) w2:=by
   funext K;exact Blk.ldTake (us:=[.int .i64 n,.slice o l c]) (r:=[.bool true]) hB12 y4
  simp(disch:=first|(simp only[push_cast];done)|omega) only[push_cast,hB12.ld2,Bool.not_true,x8,Nat.add_zero,hnet]
  have hg2:GOff (fun b=>D b∨b=b3∨b=b6) w2 (.slice o l c) gs:=hg.swap e2 (fun _ h=>h.elim) fun b hb hl=>hb.elim id fun h=>by omega
  refine sand6_spec hn hg2 hl (fun b hb=>hb.elim (fun h=>by have:=hD b h;omega) fun h=>by omega) hx.1 hy.1 hx.nz hy.nz fun w3 cs3 he3 hN3=>?_
  have hlen:gs.length≤600:=hl
  have habs:=kJ0 (gs:=gs) (n:=n) hl hn hx.1 hy.1
  have hrun:(M.Bd.and x y .ret:M.Bd Int).run n gs=if(M.andG n gs x y).2=0 then none else some ((M.andG n gs x y).1,(M.andG n gs x y).2):=rfl
  generalize hgg:(M.andG n gs x y).1=gs3 at*
  generalize (M.andG n gs x y).2=m at*
  simp only[push_cast]
  have hcl:=hN3.len
  refine zC xH fun b8 w8 hb8 he8 hz8 hB8=>?_
  refine hB8.stAgg (cs':=cs3) (by rw[hcl];rfl) (by rw[hcl];exact y4) hN3.one fun w9 hs9 hz9 hB9=>?_
  have z3:=he3.size;have z8:=he8.size
  have h9:Ext w3 w9:=Ext.then he8 hs9 fun y hy=>by subst hy;omega
  have hN9:=hN3.same (Same.of_ext h9 (S:=fun _=>False)) fun b hb=>hb.elim
  rw[hB9.ldAgg (t:=zf) (by rw[hcl];exact y4)]
  obtain⟨x3,o3,l3,c3,rfl⟩:=hN9.form
  simp only[push_cast,YO0]
  have hB69:=(hB2.ext (he3.trans h9))
  refine Wr hB69 rfl rfl (fun u hu=>by simp only[List.mem_cons,List.not_mem_nil,or_false] at hu;rcases hu with rfl|rfl|rfl<;>rfl) fun w10 hs10=>?_
  have e10:Ext w w10:=Ext.then (e2.trans (he3.trans h9)) hs10 fun b hb=>by omega
  have hN10:=(hN9.same hs10 fun b hb=> .inr (.inr hb)).weak (Y:=D) fun b hb=> .inl hb
  by_cases hm:m=0
  ·subst hm
   unfold NetO at hN10
   rw[if_pos rfl] at hN10
   simp only[List.cons.injEq,and_true] at hN10
   obtain⟨e1,e2'⟩:=hN10
   rw[e1,e2']
   refine hK w10 _ none 0 e10 rfl ⟨by decide,fun _=>rfl⟩ (.inr ⟨by rw[hrun,if_pos rfl],rfl,0,rfl⟩)
  ·unfold NetO at hN10
   rw[if_neg hm] at hN10
   obtain⟨o4,l4,c4,e4,hg4,hl4⟩:=hN10
   simp only[List.cons.injEq,and_true] at e4
   obtain⟨e1,e2'⟩:=e4
   rw[e1,e2',decide_eq_true hm]
   refine hK w10 _ (some gs3) m e10 ⟨o4,l4,c4,rfl,hg4,hl4⟩ (Sn.of habs hm) (.inl ⟨gs3,by rw[hrun,if_neg hm],rfl⟩)
theorem sxor7_spec (hn:n≤8) (hk:MkR n D w cs st) (hD:∀b,D b→b<w.heap.size) (hx:Sn st x) (hy:Sn st y)
  (hK:∀w' cs' st' r,Ext w w'→MkR n D w' cs' st'→Sn st' r→M.Bd.Out n (.xor x y .ret) st st' r→K (.tuple #[.agg ⟨cs'⟩,.int .i64 r]) w'):
  vcall PP qD #[.agg ⟨cs⟩,.int .i64 x,.int .i64 y] w K:=by
 apply xO0;unfold Ww
 refine zy fun b3 w1 hb1 he1 hz1 hB1=>?_
 refine zC qa fun b6 w2 hb2 he2 hz2 hB2=>?_
 have e2:=he1.trans he2
 have hB12:=hB1.ext he2
 have z1:=he1.size;have z2:=he2.size
 cases st with
 |none=>
  have hcs:cs=[.int .i64 0,.slice none 0 0,.bool false]:=hk
  subst hcs
  simp(disch:=first|(simp only[push_cast];done)|omega) only[push_cast,hB12.ld2,Bool.not_false,Uw hB12 rfl]
  refine Wr hB2 rfl rfl hk.one fun w3 hs3=>?_
  exact hK w3 _ none 1 (Ext.then e2 hs3 fun b hb=>by omega) rfl (Sn.of (by decide) (by decide)) ⟨rfl,1,rfl⟩
 |some gs=>
  obtain⟨o,l,c,rfl,hg,hl⟩:=hk
  have hnet:ze PP zf (.pointer (some ⟨b3,0,none⟩)) w2=fun K=>K (.agg ⟨[.int .i64 n,.slice o l c]⟩) w2:=by
   funext K;exact Blk.ldTake (us:=[.int .i64 n,.slice o l c]) (r:=[.bool true]) hB12 y4
  simp(disch:=first|(simp only[push_cast];done)|omega) only[push_cast,hB12.ld2,Bool.not_true,x8,Nat.add_zero,hnet]
  have hg2:GOff (fun b=>D b∨b=b3∨b=b6) w2 (.slice o l c) gs:=hg.swap e2 (fun _ h=>h.elim) fun b hb hl=>hb.elim id fun h=>by omega
  refine sxor6_spec hn hg2 hl (fun b hb=>hb.elim (fun h=>by have:=hD b h;omega) fun h=>by omega) hx.1 hy.1 hx.nz hy.nz fun w3 cs3 he3 hN3=>?_
  have hlen:gs.length≤600:=hl
  have habs:=jN0 (gs:=gs) (n:=n) hl hn hx.1 hy.1
  have hrun:(M.Bd.xor x y .ret:M.Bd Int).run n gs=if(M.xorG n gs x y).2=0 then none else some ((M.xorG n gs x y).1,(M.xorG n gs x y).2):=rfl
  generalize hgg:(M.xorG n gs x y).1=gs3 at*
  generalize (M.xorG n gs x y).2=m at*
  simp only[push_cast]
  have hcl:=hN3.len
  refine zC xH fun b8 w8 hb8 he8 hz8 hB8=>?_
  refine hB8.stAgg (cs':=cs3) (by rw[hcl];rfl) (by rw[hcl];exact y4) hN3.one fun w9 hs9 hz9 hB9=>?_
  have z3:=he3.size;have z8:=he8.size
  have h9:Ext w3 w9:=Ext.then he8 hs9 fun y hy=>by subst hy;omega
  have hN9:=hN3.same (Same.of_ext h9 (S:=fun _=>False)) fun b hb=>hb.elim
  rw[hB9.ldAgg (t:=zf) (by rw[hcl];exact y4)]
  obtain⟨x3,o3,l3,c3,rfl⟩:=hN9.form
  simp only[push_cast,YO0]
  have hB69:=(hB2.ext (he3.trans h9))
  refine Wr hB69 rfl rfl (fun u hu=>by simp only[List.mem_cons,List.not_mem_nil,or_false] at hu;rcases hu with rfl|rfl|rfl<;>rfl) fun w10 hs10=>?_
  have e10:Ext w w10:=Ext.then (e2.trans (he3.trans h9)) hs10 fun b hb=>by omega
  have hN10:=(hN9.same hs10 fun b hb=> .inr (.inr hb)).weak (Y:=D) fun b hb=> .inl hb
  by_cases hm:m=0
  ·subst hm
   unfold NetO at hN10
   rw[if_pos rfl] at hN10
   simp only[List.cons.injEq,and_true] at hN10
   obtain⟨e1,e2'⟩:=hN10
   rw[e1,e2']
   refine hK w10 _ none 0 e10 rfl ⟨by decide,fun _=>rfl⟩ (.inr ⟨by rw[hrun,if_pos rfl],rfl,0,rfl⟩)
  ·unfold NetO at hN10
   rw[if_neg hm] at hN10
   obtain⟨o4,l4,c4,e4,hg4,hl4⟩:=hN10
   simp only[List.cons.injEq,and_true] at e4
   obtain⟨e1,e2'⟩:=e4
   rw[e1,e2',decide_eq_true hm]
   refine hK w10 _ (some gs3) m e10 ⟨o4,l4,c4,rfl,hg4,hl4⟩ (Sn.of habs hm) (.inl ⟨gs3,by rw[hrun,if_neg hm],rfl⟩)
theorem sor7_spec (hn:n≤8) (hk:MkR n D w cs st) (hD:∀b,D b→b<w.heap.size) (hx:Sn st x) (hy:Sn st y)
  (hK:∀w' cs' st' r,Ext w w'→MkR n D w' cs' st'→Sn st' r→M.Bd.Out n (M.orB x y) st st' r→K (.tuple #[.agg ⟨cs'⟩,.int .i64 r]) w'):
  vcall PP ke #[.agg ⟨cs⟩,.int .i64 x,.int .i64 y] w K:=by
 apply qG0;unfold zf0
 refine zy fun b3 w1 hb1 he1 hz1 hB1=>?_
 refine zC qa fun b6 w2 hb2 he2 hz2 hB2=>?_
 have e2:=he1.trans he2
 have hB12:=hB1.ext he2
 have z1:=he1.size;have z2:=he2.size
 have hx1:=hx.1;have hy1:=hy.1
 unfold Sm at hx1 hy1
 simp(disch:=omega) only[push_cast,Uw hB12 hk.len,zA,Int.zero_sub]
 have hk2:MkR n (fun b=>D b∨b=b3∨b=b6) w2 cs st:=hk.ext e2 fun b hb hl=>hb.elim id fun h=>by omega
 refine sand7_spec hn hk2 (fun b hb=>hb.elim (fun h=>by have:=hD b h;omega) fun h=>by omega) hx.neg hy.neg fun w3 cs3 st3 r he3 hk3 hr3 ho3=>?_
 have hr1:=hr3.1
 unfold Sm at hr1
 simp only[push_cast]
 refine mk_put (hB12.ext he3) hk.len hk3.len hk3.one fun w4 hs4 hz4 hB4=>?_
 have hB24:=(hB2.ext he3).same hs4 (show¬b6=b3 by omega)
 simp(disch:=omega) only[push_cast,Uw hB4 hk3.len,zA,Int.zero_sub]
 refine Wr hB24 rfl hk3.len hk3.one fun w5 hs5=>?_
 have e5:Ext w w5:=Ext.then (Ext.then (e2.trans he3) hs4 fun b hb=>by omega) hs5 fun b hb=>by omega
 exact hK w5 cs3 st3 (-r) e5 ((hk3.same hs4 fun b hb=> .inr (.inl hb)).swap hs5 (fun b hb=> .inr (.inr hb)) fun b hb _=> .inl hb) hr3.neg (xZ ho3 (M.Bd.Out.ret _ _))
theorem sone7_spec (hn:n≤8) (hk:MkR n D w cs st) (hD:∀b,D b→b<w.heap.size) (hc:Sn st c) (hx:Sn st x) (hy:Sn st y)
  (hK:∀w' cs' st' r,Ext w w'→MkR n D w' cs' st'→Sn st' r→M.Bd.Out n (M.muxB c x y) st st' r→K (.tuple #[.agg ⟨cs'⟩,.int .i64 r]) w'):
  vcall PP kA #[.agg ⟨cs⟩,.int .i64 c,.int .i64 x,.int .i64 y] w K:=by
 apply xP0;unfold Wx
 refine zy fun b3 w1 hb1 he1 hz1 hB1=>?_
 refine zC qa fun b6 w2 hb2 he2 hz2 hB2=>?_
 have e2:=he1.trans he2
 have hB12:=hB1.ext he2
 have z1:=he1.size;have z2:=he2.size
 have hc1:=hc.1
 unfold Sm at hc1
 rw[Uw hB12 hk.len]
 have hk2:MkR n (fun b=>D b∨b=b3∨b=b6) w2 cs st:=hk.ext e2 fun b hb hl=>hb.elim id fun h=>by omega
 have hD2:∀b,(D b∨b=b3∨b=b6)→b<w2.heap.size:=fun b hb=>hb.elim (fun h=>by have:=hD b h;omega) fun h=>by omega
 refine sand7_spec hn hk2 hD2 hc hx fun w3 cs3 st3 p he3 hk3 hp3 ho3=>?_
 simp only[push_cast]
 refine mk_put (hB12.ext he3) hk.len hk3.len hk3.one fun w4 hs4 hz4 hB4=>?_
 have z3:=he3.size
 have hB24:=(hB2.ext he3).same hs4 (show¬b6=b3 by omega)
 have hk4:=hk3.same hs4 fun b hb=> .inr (.inl hb)
 simp(disch:=omega) only[push_cast,Uw hB4 hk3.len,zA,Int.zero_sub]
 refine sand7_spec hn hk4 (fun b hb=>by have:=hD2 b hb;omega) (hc.out ho3).neg (hy.out ho3) fun w5 cs5 st5 q he5 hk5 hq5 ho5=>?_
 simp only[push_cast]
 refine mk_put (hB4.ext he5) hk3.len hk5.len hk5.one fun w6 hs6 hz6 hB6=>?_
 have z5:=he5.size
 have hB26:=(hB24.ext he5).same hs6 (show¬b6=b3 by omega)
 have hk6:=hk5.same hs6 fun b hb=> .inr (.inl hb)
 rw[Uw hB6 hk5.len]
 refine sor7_spec hn hk6 (fun b hb=>by have:=hD2 b hb;omega) (hp3.out ho5) hq5 fun w7 cs7 st7 r he7 hk7 hr7 ho7=>?_
 simp only[push_cast]
 refine Wr (hB26.ext he7) rfl hk7.len hk7.one fun w8 hs8=>?_
 have e6:Ext w w6:=Ext.then ((Ext.then (e2.trans he3) hs4 fun b hb=>by omega).trans he5) hs6 fun b hb=>by omega
 have e8:Ext w w8:=Ext.then (e6.trans he7) hs8 fun b hb=>by omega
 exact hK w8 cs7 st7 r e8 (hk7.swap hs8 (fun b hb=> .inr (.inr hb)) fun b hb _=> .inl hb) hr7 (xZ ho3 (xZ ho5 ho7))
end Go.Proofs.YtaekfnbnhjgboaaGreatDoor
end
section
namespace Go.Proofs.YtaekfnbnhjgboaaGreatDoor
open Go Go.Vc Go.Proofs
variable {w:World} {K:Value→World→Prop} {D F Fx Fy Y S O:Nat→Prop} {n b4 b8:Nat} {gs gs':M.Gs} {v nv xv yv:Value} {cs cs':List Value} {st st':Option M.Gs} {a b c m x y r:Int} {xs ys:List Int}
abbrev X30 (D O:Nat→Prop) (b4 b8:Nat):Nat→Prop:=fun b=>D b∨b=b4∨b=b8∨O b
structure Fm (n:Nat) (D O:Nat→Prop) (w0:World) (b4 b8:Nat) (w:World) (st:Option M.Gs):Prop where
 ext:Ext w0 w
 k:∃cs,Blk w b4 cs zd∧MkR n (X30 D O b4 b8) w cs st
 r:∃cs,Blk w b8 cs zd∧cs.length=3
 lo:w0.heap.size≤b4∧w0.heap.size≤b8∧b4≠b8
 off:∀b,O b→b<w.heap.size∧w0.heap.size≤b∧b≠b4∧b≠b8
 dlt:∀b,D b→b<w0.heap.size
theorem Fm.start (hk:MkR n D w cs st) (hD:∀b,D b→b<w.heap.size) {K:Value→Value→World→Prop} (hK:∀b4 b8 w',Fm n D (fun _=>False) w b4 b8 w' st→K (.pointer (some ⟨b4,0,none⟩)) (.pointer (some ⟨b8,0,none⟩)) w'):
  yB PP zd (.agg ⟨cs⟩) w fun t w1=>zZ PP zd w1 fun t8 w2=>K t t8 w2:=by
 refine zy fun b4 w1 hb1 he1 hz1 hB1=>?_
 refine zC qa fun b8 w2 hb2 he2 hz2 hB2=>?_
 refine hK b4 b8 w2 ⟨he1.trans he2,⟨cs,hB1.ext he2,hk.ext (he1.trans he2) fun b hb hl=>hb.elim id fun h=>?_⟩,⟨_,hB2,rfl⟩,by omega,fun b h=>h.elim,hD⟩
 rcases h with h|h|h
 ·omega
 ·omega
 ·exact h.elim
section
variable {w0 w':World}
theorem Fm.lt4 (h:Fm n D O w0 b4 b8 w st):b4<w.heap.size∧b8<w.heap.size:=by
 obtain⟨_,h1,_⟩:=h.k;obtain⟨_,h2,_⟩:=h.r;exact⟨h1.lt,h2.lt⟩
theorem Fm.dl (h:Fm n D O w0 b4 b8 w st):∀b,X30 D O b4 b8 b→b<w.heap.size:=fun b hb=>by
 have l:=h.lt4;have s:=h.ext.size
 rcases hb with h1|h1|h1|h1
 ·have:=h.dlt b h1;omega
 ·omega
 ·omega
 ·exact(h.off b h1).1
theorem Fm.grow (h:Fm n D O w0 b4 b8 w st) (he:Ext w w'):Fm n D O w0 b4 b8 w' st:=by
 obtain⟨cs,h1,h2⟩:=h.k;obtain⟨c8,h3,h4⟩:=h.r
 exact⟨h.ext.trans he,⟨cs,h1.ext he,h2.ext he fun _ h _=>h⟩,⟨c8,h3.ext he,h4⟩,h.lo,fun b hb=>by have h7:=h.off b hb;have:=he.size;exact⟨by omega,h7.2⟩,h.dlt⟩
theorem Fm.call (h:Fm n D O w0 b4 b8 w st):∃cs,MkR n (X30 D O b4 b8) w cs st∧∀w',Ext w w'→∀K:Value→World→Prop,ze PP zd (.pointer (some ⟨b4,0,none⟩)) w' K=K (.agg ⟨cs⟩) w':=by
 obtain⟨cs,h1,h2⟩:=h.k
 exact⟨cs,h2,fun w' he K=>Uw (h1.ext he) h2.len⟩
theorem Fm.put (h:Fm n D O w0 b4 b8 w st) (he:Ext w w') (hk:MkR n (X30 D O b4 b8) w' cs' st') (hK:∀w'',Fm n D O w0 b4 b8 w'' st'→Same (· =b4) w' w''→w''.heap.size=w'.heap.size→K undef w''):
  zp PP zd (.pointer (some ⟨b4,0,none⟩)) (.agg ⟨cs'⟩) w' K:=by
 obtain⟨cs,h1,h2⟩:=h.k;obtain⟨c8,h3,h4⟩:=h.r
 refine mk_put (h1.ext he) h2.len hk.len hk.one fun w'' hs hz hB=>hK w'' ⟨Ext.then (h.ext.trans he) hs fun b hb=>by have:=h.lo;omega,⟨cs',hB,hk.same hs fun b hb=> .inr (.inl hb)⟩,⟨c8,(h3.ext he).same hs fun e=>h.lo.2.2 e.symm,h4⟩,h.lo,fun b hb=>?_,h.dlt⟩ hs hz
 have h7:=h.off b hb;have:=he.size;exact⟨by omega,h7.2⟩
theorem Fm.own {O':Nat→Prop} (h:Fm n D O w0 b4 b8 w st) (hw:Same S w w') (hS:∀b,S b→O b) (hO:∀b,O' b→b<w'.heap.size∧(O b∨w.heap.size≤b)):Fm n D O' w0 b4 b8 w' st:=by
 obtain⟨cs,h1,h2⟩:=h.k;obtain⟨c8,h3,h4⟩:=h.r
 have l:=h.lt4;have s:=h.ext.size
 refine⟨Ext.then h.ext hw fun b hb=>(h.off b (hS b hb)).2.1,⟨cs,h1.same hw fun hs=>(h.off _ (hS _ hs)).2.2.1 rfl,h2.swap hw (fun b hb=> .inr (.inr (.inr (hS b hb)))) fun b hb hl=>?_⟩,⟨c8,h3.same hw fun hs=>(h.off _ (hS _ hs)).2.2.2 rfl,h4⟩,h.lo,fun b hb=>?_,h.dlt⟩
 ·rcases hb with h1|h1|h1|h1
  ·exact .inl h1
  ·exact .inr (.inl h1)
  ·exact .inr (.inr (.inl h1))
  ·exact(hO b h1).2.elim (fun h=> .inr (.inr (.inr h))) fun h=>by omega
 ·obtain⟨h5,h6⟩:=hO b hb
  rcases h6 with h6|h6
  ·have:=h.off b h6;exact⟨h5,this.2⟩
  ·exact⟨h5,by omega,by omega,by omega⟩
theorem Fm.fin (h:Fm n D O w0 b4 b8 w st) (hK:∀w' cs,Ext w0 w'→MkR n D w' cs st→Same (· =b8) w w'→K (.agg ⟨cs⟩) w'):
  ze PP zd (.pointer (some ⟨b4,0,none⟩)) w fun t w1=>zp PP zd (.pointer (some ⟨b8,0,none⟩)) t w1 fun _ w2=>vlv PP zd (.pointer (some ⟨b8,0,none⟩)) w2 K:=by
 obtain⟨cs,h1,h2⟩:=h.k;obtain⟨c8,h3,h4⟩:=h.r
 rw[Uw h1 h2.len]
 exact Wr h3 h4 h2.len h2.one fun w' hs=>hK w' cs (Ext.then h.ext hs fun b hb=>by have:=h.lo;omega) (h2.swap hs (fun b hb=> .inr (.inr (.inl hb))) fun b hb _=> .inl hb) hs
theorem Fm.out (h:Fm n D O w0 b4 b8 w st) (he:Ext w w') (hk:MkR n (X30 D O b4 b8) w' cs' st') (hK:∀w'',Ext w0 w''→MkR n D w'' cs' st'→Same (· =b8) w' w''→K (.agg ⟨cs'⟩) w''):
  zp PP zd (.pointer (some ⟨b8,0,none⟩)) (.agg ⟨cs'⟩) w' fun _ w2=>vlv PP zd (.pointer (some ⟨b8,0,none⟩)) w2 K:=by
 obtain⟨c8,h3,h4⟩:=h.r
 exact Wr (h3.ext he) h4 hk.len hk.one fun w'' hs=>hK w'' (Ext.then (h.ext.trans he) hs fun b hb=>by have:=h.lo;omega) (hk.swap hs (fun b hb=> .inr (.inr (.inl hb))) fun b hb _=> .inl hb) hs
end
abbrev O1 (v:Value):Nat→Prop:=fun b=>v.ownBlock=some b
abbrev Low (w:World):Nat→Prop:=fun b=>b<w.heap.size
theorem Ints.under (h:Ints Fx w xv xs):Ints (Low w) w xv xs:=Ints.weaken h fun _ _ hl=>hl
theorem Ints.ext0 {w0 w:World} (h:Ints (Low w0) w0 xv xs) (he:Ext w0 w):Ints (Low w0) w xv xs:=Ints.ext h he
theorem Fm.app {w0:World} {zs:List Int} {x:Int} {ty:Nat} (h:Fm n D (O1 v) w0 b4 b8 w st) (ho:OwnI PP zg w v zs) (hl:zs.length≤1000000)
  (hK:∀v' w',Fm n D (O1 v') w0 b4 b8 w' st→OwnI PP zg w' v' (zs++[x])→Ext w0 w'→K v' w'):
  vbuildS PP zg 1 [(0,.int .i64 x)] w fun t w1=>vbi PP .append [zg,zg] ty [v,t] w1 K:=by
 refine yb Zj jT Ze rfl rfl fun b5 w5 hb5 he5 hz5 hB5=>?_
 refine(ho.ext he5).app1 kB hB5 (by omega) (by omega) fun v6 w6 ho6 hs6 hn6=>?_
 have h6:=(h.grow he5).own (O':=O1 v6) hs6 (fun b hb=>hb) fun b hb=>⟨ho6.lt hb,hn6 b hb⟩
 exact hK v6 w6 h6 ho6 h6.ext
theorem Fm.nil {w0:World} (h:Fm n D (fun _=>False) w0 b4 b8 w st) (hK:∀v' w',Fm n D (O1 v') w0 b4 b8 w' st→OwnI PP zg w' v' []→Ext w0 w'→K v' w'):vbuildS PP zg 0 [] w K:=by
 refine qd Zj jT fun b5 w5 hb5 he5 hz5 hB5=>?_
 have ho:OwnI PP zg w5 (.slice (some ⟨b5,0,none⟩) 0 0) []:=Blk.own1 (P:=PP) (t:=zg) (cs:=[]) (by rw[UO];exact hB5) (Nat.zero_le _) rfl rfl (by omega)
 have h5:=h.own (O':=O1 (.slice (some ⟨b5,0,none⟩) 0 0)) (S:=fun _=>False) he5 (fun b hb=>hb) fun b hb=>by
  have e:b5=b:=Option.some.inj hb
  exact⟨by omega,.inr (by omega)⟩
 exact hK _ w5 h5 ho h5.ext
theorem sadd7_spec (hn:n≤8) (hk:MkR n D w cs st) (hD:∀b,D b→b<w.heap.size) (hx:Ints Fx w xv xs) (hy:Ints Fy w yv ys) (hl:xs.length≤ys.length) (h8:xs.length≤1000) (hxs:SnL st xs) (hys:SnL st ys) (hc:Sn st c)
  (hK:∀w' cs' st' r zs,Ext w w'→MkR n D w' cs' st'→OwnI PP zg w' r zs→(∀b,r.ownBlock=some b→w.heap.size≤b)→SnL st' zs→M.Bd.Out n (M.sumB xs ys c) st st' zs→K (.tuple #[.agg ⟨cs'⟩,r]) w'):
  vcall PP qE #[.agg ⟨cs⟩,xv,yv,.int .i64 c] w K:=by
 apply xW0;unfold WE
 refine Fm.start hk hD fun b4 b8 w1 h1=>?_
 refine h1.nil fun v2 w2 h2 ho2 e2=>?_
 have hx0:=Ints.under hx;have hy0:=Ints.under hy
 refine vloop_up xs.length (fun i u w'=> ∃st1 r zs c1,u=[.int .i64 c1,r,.int .i64 i]∧Fm n D (O1 r) w b4 b8 w' st1∧OwnI PP zg w' r zs∧zs.length=i∧SnL st1 zs∧SnL st1 xs∧SnL st1 ys∧Sn st1 c1∧
  ∀st2 rs,M.Bd.Out n (M.sumB (xs.drop i) (ys.drop i) c1) st1 st2 rs→M.Bd.Out n (M.sumB xs ys c) st st2 (zs++rs)) ⟨st,_,[],c,rfl,h2,ho2,rfl,SnL.nil,hxs,hys,hc,fun _ _ h=>h⟩ ?_
 rintro i _ g w3 C hi ⟨st3,r3,zs,c3,rfl,h3,ho3,hzl,hz3,hxs3,hys3,hc3,hout⟩ hC
 have hx3:=Ints.ext0 hx0 h3.ext
 simp(disch:=first|(simp only[push_cast];done)|omega) only[push_cast,hx3.len]
 refine zh (fun hlt=>?_) (fun hge=>?_)
 ·have hi':i<xs.length:=by omega
  refine zu fun w4 he4 _=>?_
  have h4:=h3.grow he4
  have hx4:=Ints.ext0 hx0 h4.ext
  have hy4:=Ints.ext0 hy0 h4.ext
  obtain⟨c4,hk4,hld4⟩:=h4.call
  simp(disch:=first|(simp only[push_cast];done)|omega) only[push_cast,hx4.iaddr,hx4.load,hy4.iaddr,hy4.load,true_and,hld4 w4 (Same.refl _ _)]
  refine sxor7_spec hn hk4 h4.dl (hxs3.get hi') (hys3.get (by omega)) fun w5 cs5 st5 d he5 hk5 hd ho5=>?_
  simp only[push_cast,true_and]
  refine h4.put he5 hk5 fun w6 h6 hs6 hz6=>?_
  obtain⟨c6,hk6,hld6⟩:=h6.call
  simp only[push_cast,true_and,and_self,hld6 w6 (Same.refl _ _)]
  refine sxor7_spec hn hk6 h6.dl hd (hc3.out ho5) fun w7 cs7 st7 s he7 hk7 hs ho7=>?_
  simp only[push_cast,true_and]
  refine h6.put he7 hk7 fun w8 h8' hs8 hz8=>?_
  refine zu fun w9 he9 _=>?_
  have h9:=h8'.grow he9
  have hx9:=Ints.ext0 hx0 h9.ext
  have hy9:=Ints.ext0 hy0 h9.ext
  obtain⟨c9,hk9,hld9⟩:=h9.call
  simp(disch:=first|(simp only[push_cast];done)|omega) only[push_cast,hx9.iaddr,hx9.load,hy9.iaddr,hy9.load,true_and,hld9 w9 (Same.refl _ _)]
  have hxs7:=(hxs3.out ho5).out ho7
  have hys7:=(hys3.out ho5).out ho7
  refine sand7_spec hn hk9 h9.dl (hxs7.get hi') (hys7.get (by omega)) fun w10 cs10 st10 p he10 hk10 hp ho10=>?_
  simp only[push_cast,true_and]
  refine h9.put he10 hk10 fun w11 h11 hs11 hz11=>?_
  obtain⟨c11,hk11,hld11⟩:=h11.call
  simp only[push_cast,true_and,and_self,hld11 w11 (Same.refl _ _)]
  refine sand7_spec hn hk11 h11.dl ((hd.out ho7).out ho10) (((hc3.out ho5).out ho7).out ho10) fun w12 cs12 st12 q he12 hk12 hq ho12=>?_
  simp only[push_cast,true_and]
  refine h11.put he12 hk12 fun w13 h13 hs13 hz13=>?_
  obtain⟨c13,hk13,hld13⟩:=h13.call
  simp only[push_cast,true_and,and_self,hld13 w13 (Same.refl _ _)]
  refine sor7_spec hn hk13 h13.dl (hp.out ho12) hq fun w14 cs14 st14 c2 he14 hk14 hc2 ho14=>?_
  simp only[push_cast,true_and]
  refine h13.put he14 hk14 fun w15 h15 hs15 hz15=>?_
  have ho15:OwnI PP zg w15 r3 zs:=by
   have off:∀b,r3.ownBlock=some b→¬b=b4:=fun b hb=>(h3.off b hb).2.2.1
   exact((((((((((ho3.ext he4).ext he5).same hs6 off).ext he7).same hs8 off).ext he9).ext he10).same hs11 off).ext he12).same hs13 off|>.ext he14).same hs15 off
  refine h15.app ho15 (by omega) fun r16 w16 h16 ho16 e16=>?_
  simp(disch:=omega) only[push_cast,zA]
  have up:∀{x},Sn st7 x→Sn st14 x:=fun h=>((h.out ho10).out ho12).out ho14
  refine hC hi' _ _ ⟨st14,r16,zs++[s],c2,by simp<;>exact⟨rfl,rfl⟩,h16,ho16,by simp[hzl],SnL.app (fun x hx=>up (((hz3 x hx).out ho5).out ho7)) (SnL.one (up hs)),fun x hx=>up (hxs7 x hx),fun x hx=>up (hys7 x hx),hc2,fun st2 rs ho=>?_⟩
  have:=hout st2 (s::rs) ?_
  ·simpa using this
  rw[xq hi',xq (show i<ys.length by omega)]
  exact ZO ho5 (ZO ho7 (xZ ho10 (xZ ho12 (M.Bd.Out.bind ho14 (M.Bd.Out.map _ ho)))))
 ·have:=hout st3 [] (by rw[k20 (by omega)];exact M.Bd.Out.ret _ _)
  rw[List.append_nil] at this
  refine h3.fin fun w4 cs4 e4 hk4 hs4=>?_
  exact hK w4 cs4 st3 r3 zs e4 hk4 (ho3.same hs4 fun b hb e=>(h3.off b hb).2.2.2 e) (fun b hb=>(h3.off b hb).2.1) hz3 this
end Go.Proofs.YtaekfnbnhjgboaaGreatDoor
end
section
namespace Go.Proofs.YtaekfnbnhjgboaaGreatDoor
open Go Go.Vc Go.Proofs
variable {w:World} {K:Value→World→Prop} {D F Fx Fy Y S O:Nat→Prop} {n b4 b8:Nat} {gs gs':M.Gs} {v nv xv yv:Value} {cs cs':List Value} {st st':Option M.Gs} {a b c m x y r:Int} {xs ys:List Int}
theorem spec_nil (hK:∀v' w',OwnI PP zg w' v' []→Ext w w'→(∀b,v'.ownBlock=some b→w.heap.size≤b)→K v' w'):vbuildS PP zg 0 [] w K:=by
 refine qd Zj jT fun b5 w5 hb5 he5 hz5 hB5=>?_
 exact hK _ w5 (Blk.own1 (P:=PP) (t:=zg) (cs:=[]) (by rw[UO];exact hB5) (Nat.zero_le _) rfl rfl (by omega)) he5 fun b hb=>by have e:b5=b:=Option.some.inj hb;omega
theorem spec_app {w0:World} {zs:List Int} {x:Int} {ty:Nat} (he:Ext w0 w) (ho:OwnI PP zg w v zs) (hn:∀b,v.ownBlock=some b→w0.heap.size≤b) (hl:zs.length≤1000000)
  (hK:∀v' w',OwnI PP zg w' v' (zs++[x])→Ext w0 w'→(∀b,v'.ownBlock=some b→w0.heap.size≤b)→K v' w'):
  vbuildS PP zg 1 [(0,.int .i64 x)] w fun t w1=>vbi PP .append [zg,zg] ty [v,t] w1 K:=by
 refine yb Zj jT Ze rfl rfl fun b5 w5 hb5 he5 hz5 hB5=>?_
 refine(ho.ext he5).app1 kB hB5 (by omega) (by omega) fun v6 w6 ho6 hs6 hn6=>?_
 have s:=he.size
 exact hK v6 w6 ho6 (Ext.then (he.trans he5) hs6 fun b hb=>hn b hb) fun b hb=>(hn6 b hb).elim (hn b) fun h=>by omega
theorem sturn7_spec (hx:Ints Fx w xv xs) (hl:xs.length≤100000) (hxs:SmL xs) (hK:∀w' r,Ext w w'→OwnI PP zg w' r (M.negL xs)→(∀b,r.ownBlock=some b→w.heap.size≤b)→K r w'):vcall PP qe #[xv] w K:=by
 apply yU0;unfold Vi
 refine spec_nil fun v1 w1 ho1 e1 hn1=>?_
 refine vloop_up xs.length (fun i u w'=> ∃r,u=[r,.int .i64 i]∧Ext w w'∧OwnI PP zg w' r (M.negL (xs.take i))∧∀b,r.ownBlock=some b→w.heap.size≤b) ⟨_,rfl,e1,ho1,hn1⟩ ?_
 rintro i _ g w2 C hi ⟨r,rfl,e2,ho2,hn2⟩ hC
 have hx2:=Ints.ext hx e2
 simp(disch:=first|(simp only[push_cast];done)|omega) only[push_cast,hx2.len]
 refine zh (fun a=>?_) (fun a=>?_)
 ·have hi':i<xs.length:=by omega
  have hs:=hxs.get hi'
  unfold Sm at hs
  simp(disch:=first|(simp only[push_cast];done)|omega) only[push_cast,hx2.iaddr,hx2.load,zA,Int.zero_sub]
  refine spec_app e2 ho2 hn2 (by rw[M.negL_len,List.length_take];omega) fun v3 w3 ho3 e3 hn3=>?_
  try simp(disch:=omega) only[push_cast,zA]
  refine hC hi' _ _ ⟨v3,by simp,e3,?_,hn3⟩
  rw[M.take_add hi' 0];unfold M.negL at ho3⊢;rw[List.map_append];exact ho3
 ·have hi':i=xs.length:=by omega
  subst hi'
  rw[List.take_length] at ho2
  exact hK w2 r e2 ho2 hn2
theorem sfill7_spec {m:Nat} {x:Int} (hl:m≤100000) (hK:∀w' r,Ext w w'→OwnI PP zg w' r (List.replicate m x)→(∀b,r.ownBlock=some b→w.heap.size≤b)→K r w'):vcall PP qf #[.int .i64 x,.int .i64 m] w K:=by
 apply yZ0;unfold Vn
 refine spec_nil fun v1 w1 ho1 e1 hn1=>?_
 refine vloop_up m (fun i u w'=> ∃r,u=[r,.int .i64 i]∧Ext w w'∧OwnI PP zg w' r (List.replicate i x)∧∀b,r.ownBlock=some b→w.heap.size≤b) ⟨_,rfl,e1,ho1,hn1⟩ ?_
 rintro i _ g w2 C hi ⟨r,rfl,e2,ho2,hn2⟩ hC
 simp only[push_cast]
 refine zh (fun a=>?_) (fun a=>?_)
 ·have hi':i<m:=by omega
  refine spec_app e2 ho2 hn2 (by rw[List.length_replicate];omega) fun v3 w3 ho3 e3 hn3=>?_
  try simp(disch:=omega) only[push_cast,zA]
  refine hC hi' _ _ ⟨v3,by simp,e3,?_,hn3⟩
  rw[List.replicate_succ'];exact ho3
 ·have hi':i=m:=by omega
  subst hi'
  exact hK w2 r e2 ho2 hn2
theorem sless7_spec (hn:n≤8) (hk:MkR n D w cs st) (hD:∀b,D b→b<w.heap.size) (hx:Ints Fx w xv xs) (hy:Ints Fy w yv ys) (hl:xs.length≤ys.length) (h8:xs.length≤1000) (hxs:SnL st xs) (hys:SnL st ys)
  (hK:∀w' cs' st' r,Ext w w'→MkR n D w' cs' st'→Sn st' r→M.Bd.Out n (M.lessB xs ys (-1)) st st' r→K (.tuple #[.agg ⟨cs'⟩,.int .i64 r]) w'):
  vcall PP jw #[.agg ⟨cs⟩,xv,yv] w K:=by
 apply yX0;unfold Vl
 refine Fm.start hk hD fun b4 b8 w1 h1=>?_
 have hx0:=Ints.under hx;have hy0:=Ints.under hy
 refine vloop_up xs.length (fun i u w'=> ∃st1 r,u=[.int .i64 r,.int .i64 i]∧Fm n D (fun _=>False) w b4 b8 w' st1∧SnL st1 xs∧SnL st1 ys∧Sn st1 r∧
  ∀st2 q,M.Bd.Out n (M.lessB (xs.drop i) (ys.drop i) r) st1 st2 q→M.Bd.Out n (M.lessB xs ys (-1)) st st2 q) ⟨st,-1,rfl,h1,hxs,hys,Sn.of (by decide) (by decide),fun _ _ h=>h⟩ ?_
 rintro i _ g w3 C hi ⟨st3,r3,rfl,h3,hxs3,hys3,hr3,hout⟩ hC
 have hx3:=Ints.ext0 hx0 h3.ext
 simp(disch:=first|(simp only[push_cast];done)|omega) only[push_cast,hx3.len]
 refine zh (fun hlt=>?_) (fun hge=>?_)
 ·have hi':i<xs.length:=by omega
  refine zu fun w4 he4 _=>?_
  have h4:=h3.grow he4
  have hx4:=Ints.ext0 hx0 h4.ext
  have hy4:=Ints.ext0 hy0 h4.ext
  obtain⟨c4,hk4,hld4⟩:=h4.call
  simp(disch:=first|(simp only[push_cast];done)|omega) only[push_cast,hx4.iaddr,hx4.load,hy4.iaddr,hy4.load,true_and,hld4 w4 (Same.refl _ _)]
  refine sxor7_spec hn hk4 h4.dl (hxs3.get hi') (hys3.get (by omega)) fun w5 cs5 st5 d he5 hk5 hd ho5=>?_
  simp only[push_cast,true_and]
  refine h4.put he5 hk5 fun w6 h6 hs6 hz6=>?_
  try simp only[push_cast,true_and,and_self]
  refine zu fun w7 he7 _=>?_
  have h7:=h6.grow he7
  have hy7:=Ints.ext0 hy0 h7.ext
  obtain⟨c7,hk7,hld7⟩:=h7.call
  simp(disch:=first|(simp only[push_cast];done)|omega) only[push_cast,hy7.iaddr,hy7.load,true_and,hld7 w7 (Same.refl _ _)]
  refine sone7_spec hn hk7 h7.dl hd ((hys3.out ho5).get (by omega)) (hr3.out ho5) fun w8 cs8 st8 q he8 hk8 hq ho8=>?_
  simp only[push_cast,true_and]
  refine h7.put he8 hk8 fun w9 h9 hs9 hz9=>?_
  try simp(disch:=omega) only[push_cast,zA,true_and,and_self]
  refine hC hi' _ _ ⟨st8,q,by simp<;>exact⟨rfl,rfl⟩,h9,(hxs3.out ho5).out ho8,(hys3.out ho5).out ho8,hq,fun st2 z ho=>hout st2 z ?_⟩
  rw[xq hi',xq (show i<ys.length by omega)]
  exact ZO ho5 (M.Bd.Out.bind ho8 ho)
 ·refine h3.fin fun w4 cs4 e4 hk4 hs4=>?_
  exact hK w4 cs4 st3 r3 e4 hk4 hr3 (hout st3 r3 (by rw[qX0 (by omega)];exact M.Bd.Out.ret _ _))
theorem ssame7_spec (hn:n≤8) (hk:MkR n D w cs st) (hD:∀b,D b→b<w.heap.size) (hx:Ints Fx w xv xs) (hy:Ints Fy w yv ys) (hl:xs.length≤ys.length) (h8:xs.length≤1000) (hxs:SnL st xs) (hys:SnL st ys)
  (hK:∀w' cs' st' r,Ext w w'→MkR n D w' cs' st'→Sn st' r→M.Bd.Out n (M.sameB xs ys 1) st st' r→K (.tuple #[.agg ⟨cs'⟩,.int .i64 r]) w'):
  vcall PP X2 #[.agg ⟨cs⟩,xv,yv] w K:=by
 apply yW0;unfold Vk
 refine Fm.start hk hD fun b4 b8 w1 h1=>?_
 have hx0:=Ints.under hx;have hy0:=Ints.under hy
 refine vloop_up xs.length (fun i u w'=> ∃st1 r,u=[.int .i64 r,.int .i64 i]∧Fm n D (fun _=>False) w b4 b8 w' st1∧SnL st1 xs∧SnL st1 ys∧Sn st1 r∧
  ∀st2 q,M.Bd.Out n (M.sameB (xs.drop i) (ys.drop i) r) st1 st2 q→M.Bd.Out n (M.sameB xs ys 1) st st2 q) ⟨st,1,rfl,h1,hxs,hys,Sn.of (by decide) (by decide),fun _ _ h=>h⟩ ?_
 rintro i _ g w3 C hi ⟨st3,r3,rfl,h3,hxs3,hys3,hr3,hout⟩ hC
 have hx3:=Ints.ext0 hx0 h3.ext
 simp(disch:=first|(simp only[push_cast];done)|omega) only[push_cast,hx3.len]
 refine zh (fun hlt=>?_) (fun hge=>?_)
 ·have hi':i<xs.length:=by omega
  refine zu fun w4 he4 _=>?_
  have h4:=h3.grow he4
  have hx4:=Ints.ext0 hx0 h4.ext
  have hy4:=Ints.ext0 hy0 h4.ext
  obtain⟨c4,hk4,hld4⟩:=h4.call
  simp(disch:=first|(simp only[push_cast];done)|omega) only[push_cast,hx4.iaddr,hx4.load,hy4.iaddr,hy4.load,true_and,hld4 w4 (Same.refl _ _)]
  refine sxor7_spec hn hk4 h4.dl (hxs3.get hi') (hys3.get (by omega)) fun w5 cs5 st5 d he5 hk5 hd ho5=>?_
  simp only[push_cast,true_and]
  refine h4.put he5 hk5 fun w6 h6 hs6 hz6=>?_
  obtain⟨c6,hk6,hld6⟩:=h6.call
  have hd1:=hd.1
  unfold Sm at hd1
  simp(disch:=omega) only[push_cast,true_and,and_self,hld6 w6 (Same.refl _ _),zA,Int.zero_sub]
  refine sand7_spec hn hk6 h6.dl (hr3.out ho5) hd.neg fun w8 cs8 st8 q he8 hk8 hq ho8=>?_
  simp only[push_cast,true_and]
  refine h6.put he8 hk8 fun w9 h9 hs9 hz9=>?_
  try simp(disch:=omega) only[push_cast,zA,true_and,and_self]
  refine hC hi' _ _ ⟨st8,q,by simp<;>exact⟨rfl,rfl⟩,h9,(hxs3.out ho5).out ho8,(hys3.out ho5).out ho8,hq,fun st2 z ho=>hout st2 z ?_⟩
  rw[xq hi',xq (show i<ys.length by omega)]
  exact ZO ho5 (xZ ho8 ho)
 ·refine h3.fin fun w4 cs4 e4 hk4 hs4=>?_
  exact hK w4 cs4 st3 r3 e4 hk4 hr3 (hout st3 r3 (by rw[qQ0 (by omega)];exact M.Bd.Out.ret _ _))
theorem sifs7_spec (hn:n≤8) (hk:MkR n D w cs st) (hD:∀b,D b→b<w.heap.size) (hx:Ints Fx w xv xs) (hy:Ints Fy w yv ys) (hl:xs.length≤ys.length) (h8:xs.length≤1000) (hxs:SnL st xs) (hys:SnL st ys) (hc:Sn st c)
  (hK:∀w' cs' st' r zs,Ext w w'→MkR n D w' cs' st'→OwnI PP zg w' r zs→(∀b,r.ownBlock=some b→w.heap.size≤b)→SnL st' zs→M.Bd.Out n (M.eachB (M.muxB c) xs ys) st st' zs→K (.tuple #[.agg ⟨cs'⟩,r]) w'):
  vcall PP ZR #[.agg ⟨cs⟩,.int .i64 c,xv,yv] w K:=by
 apply xR0;unfold Wz
 refine Fm.start hk hD fun b4 b8 w1 h1=>?_
 refine h1.nil fun v2 w2 h2 ho2 e2=>?_
 have hx0:=Ints.under hx;have hy0:=Ints.under hy
 refine vloop_up xs.length (fun i u w'=> ∃st1 r zs,u=[r,.int .i64 i]∧Fm n D (O1 r) w b4 b8 w' st1∧OwnI PP zg w' r zs∧zs.length=i∧SnL st1 zs∧SnL st1 xs∧SnL st1 ys∧Sn st1 c∧
  ∀st2 rs,M.Bd.Out n (M.eachB (M.muxB c) (xs.drop i) (ys.drop i)) st1 st2 rs→M.Bd.Out n (M.eachB (M.muxB c) xs ys) st st2 (zs++rs)) ⟨st,_,[],rfl,h2,ho2,rfl,SnL.nil,hxs,hys,hc,fun _ _ h=>h⟩ ?_
 rintro i _ g w3 C hi ⟨st3,r3,zs,rfl,h3,ho3,hzl,hz3,hxs3,hys3,hc3,hout⟩ hC
 have hx3:=Ints.ext0 hx0 h3.ext
 simp(disch:=first|(simp only[push_cast];done)|omega) only[push_cast,hx3.len]
 refine zh (fun hlt=>?_) (fun hge=>?_)
 ·have hi':i<xs.length:=by omega
  refine zu fun w4 he4 _=>?_
  have h4:=h3.grow he4
  have hx4:=Ints.ext0 hx0 h4.ext
  have hy4:=Ints.ext0 hy0 h4.ext
  obtain⟨c4,hk4,hld4⟩:=h4.call
  simp(disch:=first|(simp only[push_cast];done)|omega) only[push_cast,hx4.iaddr,hx4.load,hy4.iaddr,hy4.load,true_and,hld4 w4 (Same.refl _ _)]
  refine sone7_spec hn hk4 h4.dl hc3 (hxs3.get hi') (hys3.get (by omega)) fun w5 cs5 st5 s he5 hk5 hs ho5=>?_
  simp only[push_cast,true_and]
  refine h4.put he5 hk5 fun w6 h6 hs6 hz6=>?_
  try simp only[push_cast,true_and,and_self]
  have ho6:OwnI PP zg w6 r3 zs:=((ho3.ext he4).ext he5).same hs6 fun b hb=>(h3.off b hb).2.2.1
  refine h6.app ho6 (by omega) fun r7 w7 h7 ho7 e7=>?_
  simp(disch:=omega) only[push_cast,zA]
  refine hC hi' _ _ ⟨st5,r7,zs++[s],by simp,h7,ho7,by simp[hzl],SnL.app (hz3.out ho5) (SnL.one hs),hxs3.out ho5,hys3.out ho5,hc3.out ho5,fun st2 rs ho=>?_⟩
  have:=hout st2 (s::rs) ?_
  ·simpa using this
  rw[KP hi' (show i<ys.length by omega)]
  exact M.Bd.Out.bind ho5 (M.Bd.Out.map _ ho)
 ·have:=hout st3 [] (by rw[QK (by omega)];exact M.Bd.Out.ret _ _)
  rw[List.append_nil] at this
  refine h3.fin fun w4 cs4 e4 hk4 hs4=>?_
  exact hK w4 cs4 st3 r3 zs e4 hk4 (ho3.same hs4 fun b hb e=>(h3.off b hb).2.2.2 e) (fun b hb=>(h3.off b hb).2.1) hz3 this
def Yy (op:Int):Int→Int→M.Bd Int:=if op=3 then fun a b=> .and a b .ret else if op=4 then M.orB else fun a b=> .xor a b .ret
theorem splain7_spec {op:Int} (hn:n≤8) (hk:MkR n D w cs st) (hD:∀b,D b→b<w.heap.size) (hx:Ints Fx w xv xs) (hy:Ints Fy w yv ys) (hl:xs.length≤ys.length) (h8:xs.length≤1000) (hxs:SnL st xs) (hys:SnL st ys)
  (hK:∀w' cs' st' r zs,Ext w w'→MkR n D w' cs' st'→OwnI PP zg w' r zs→(∀b,r.ownBlock=some b→w.heap.size≤b)→SnL st' zs→M.Bd.Out n (M.eachB (Yy op) xs ys) st st' zs→K (.tuple #[.agg ⟨cs'⟩,r]) w'):
  vcall PP Ye #[.agg ⟨cs⟩,.int .i64 op,xv,yv] w K:=by
 apply zA0;unfold Ju
 refine Fm.start hk hD fun b4 b8 w1 h1=>?_
 refine h1.nil fun v2 w2 h2 ho2 e2=>?_
 have hx0:=Ints.under hx;have hy0:=Ints.under hy
 refine vloop_up xs.length (fun i u w'=> ∃st1 r zs,u=[r,.int .i64 i]∧Fm n D (O1 r) w b4 b8 w' st1∧OwnI PP zg w' r zs∧zs.length=i∧SnL st1 zs∧SnL st1 xs∧SnL st1 ys∧
  ∀st2 rs,M.Bd.Out n (M.eachB (Yy op) (xs.drop i) (ys.drop i)) st1 st2 rs→M.Bd.Out n (M.eachB (Yy op) xs ys) st st2 (zs++rs)) ⟨st,_,[],rfl,h2,ho2,rfl,SnL.nil,hxs,hys,fun _ _ h=>h⟩ ?_
 rintro i _ g w3 C hi ⟨st3,r3,zs,rfl,h3,ho3,hzl,hz3,hxs3,hys3,hout⟩ hC
 have hx3:=Ints.ext0 hx0 h3.ext
 simp(disch:=first|(simp only[push_cast];done)|omega) only[push_cast,hx3.len]
 refine zh (fun hlt=>?_) (fun hge=>?_)
 ·have hi':i<xs.length:=by omega
  have hpl:∀st5 s,M.Bd.Out n (Yy op (xs.getD i 0) (ys.getD i 0)) st3 st5 s→∀st2 rs,M.Bd.Out n (M.eachB (Yy op) (xs.drop (i+1)) (ys.drop (i+1))) st5 st2 rs→M.Bd.Out n (M.eachB (Yy op) xs ys) st st2 ((zs++[s])++rs):=fun st5 s ho5 st2 rs ho=>by
   have:=hout st2 (s::rs) ?_
   ·simpa using this
   rw[KP hi' (show i<ys.length by omega)]
   exact M.Bd.Out.bind ho5 (M.Bd.Out.map _ ho)
  try simp only[push_cast]
  refine zh (fun c3=>?_) (fun c3=>?_)
  ·have hp:Yy op=(fun a b=> .and a b .ret):=by unfold Yy;rw[if_pos c3]
   refine zu fun w4 he4 _=>?_
   have h4:=h3.grow he4
   have hx4:=Ints.ext0 hx0 h4.ext
   have hy4:=Ints.ext0 hy0 h4.ext
   obtain⟨c4,hk4,hld4⟩:=h4.call
   simp(disch:=first|(simp only[push_cast];done)|omega) only[push_cast,hx4.iaddr,hx4.load,hy4.iaddr,hy4.load,true_and,hld4 w4 (Same.refl _ _)]
   refine sand7_spec hn hk4 h4.dl (hxs3.get hi') (hys3.get (by omega)) fun w5 cs5 st5 s he5 hk5 hs ho5=>?_
   simp only[push_cast,true_and]
   refine h4.put he5 hk5 fun w6 h6 hs6 hz6=>?_
   try simp only[push_cast,true_and,and_self]
   have ho6:OwnI PP zg w6 r3 zs:=((ho3.ext he4).ext he5).same hs6 fun b hb=>(h3.off b hb).2.2.1
   refine h6.app ho6 (by omega) fun r7 w7 h7 ho7 e7=>?_
   simp(disch:=omega) only[push_cast,zA]
   exact hC hi' _ _ ⟨st5,r7,zs++[s],by simp,h7,ho7,by simp[hzl],SnL.app (hz3.out ho5) (SnL.one hs),hxs3.out ho5,hys3.out ho5,hpl st5 s (by rw[hp];exact ho5)⟩
  try simp only[push_cast]
  refine zh (fun c4=>?_) (fun c4=>?_)
  ·have hp:Yy op=M.orB:=by unfold Yy;rw[if_neg c3,if_pos c4]
   refine zu fun w4 he4 _=>?_
   have h4:=h3.grow he4
   have hx4:=Ints.ext0 hx0 h4.ext
   have hy4:=Ints.ext0 hy0 h4.ext
   obtain⟨c4,hk4,hld4⟩:=h4.call
   simp(disch:=first|(simp only[push_cast];done)|omega) only[push_cast,hx4.iaddr,hx4.load,hy4.iaddr,hy4.load,true_and,hld4 w4 (Same.refl _ _)]
   refine sor7_spec hn hk4 h4.dl (hxs3.get hi') (hys3.get (by omega)) fun w5 cs5 st5 s he5 hk5 hs ho5=>?_
   simp only[push_cast,true_and]
   refine h4.put he5 hk5 fun w6 h6 hs6 hz6=>?_
   try simp only[push_cast,true_and,and_self]
   have ho6:OwnI PP zg w6 r3 zs:=((ho3.ext he4).ext he5).same hs6 fun b hb=>(h3.off b hb).2.2.1
   refine h6.app ho6 (by omega) fun r7 w7 h7 ho7 e7=>?_
   simp(disch:=omega) only[push_cast,zA]
   exact hC hi' _ _ ⟨st5,r7,zs++[s],by simp,h7,ho7,by simp[hzl],SnL.app (hz3.out ho5) (SnL.one hs),hxs3.out ho5,hys3.out ho5,hpl st5 s (by rw[hp];exact ho5)⟩
  have hp:Yy op=(fun a b=> .xor a b .ret):=by unfold Yy;rw[if_neg c3,if_neg c4]
  refine zu fun w4 he4 _=>?_
  have h4:=h3.grow he4
  have hx4:=Ints.ext0 hx0 h4.ext
  have hy4:=Ints.ext0 hy0 h4.ext
  obtain⟨c4,hk4,hld4⟩:=h4.call
  simp(disch:=first|(simp only[push_cast];done)|omega) only[push_cast,hx4.iaddr,hx4.load,hy4.iaddr,hy4.load,true_and,hld4 w4 (Same.refl _ _)]
  refine sxor7_spec hn hk4 h4.dl (hxs3.get hi') (hys3.get (by omega)) fun w5 cs5 st5 s he5 hk5 hs ho5=>?_
  simp only[push_cast,true_and]
  refine h4.put he5 hk5 fun w6 h6 hs6 hz6=>?_
  try simp only[push_cast,true_and,and_self]
  have ho6:OwnI PP zg w6 r3 zs:=((ho3.ext he4).ext he5).same hs6 fun b hb=>(h3.off b hb).2.2.1
  refine h6.app ho6 (by omega) fun r7 w7 h7 ho7 e7=>?_
  simp(disch:=omega) only[push_cast,zA]
  exact hC hi' _ _ ⟨st5,r7,zs++[s],by simp,h7,ho7,by simp[hzl],SnL.app (hz3.out ho5) (SnL.one hs),hxs3.out ho5,hys3.out ho5,hpl st5 s (by rw[hp];exact ho5)⟩
 ·have:=hout st3 [] (by rw[QK (by omega)];exact M.Bd.Out.ret _ _)
  rw[List.append_nil] at this
  refine h3.fin fun w4 cs4 e4 hk4 hs4=>?_
  exact hK w4 cs4 st3 r3 zs e4 hk4 (ho3.same hs4 fun b hb e=>(h3.off b hb).2.2.2 e) (fun b hb=>(h3.off b hb).2.1) hz3 this
end Go.Proofs.YtaekfnbnhjgboaaGreatDoor
end
section
namespace Go.Proofs.YtaekfnbnhjgboaaGreatDoor
open Go Go.Vc Go.Proofs
variable {w:World} {K:Value→World→Prop} {D F Fx Fy Y S O O':Nat→Prop} {n b4 b8:Nat} {gs gs':M.Gs} {v v' nv xv yv sv:Value} {cs cs':List Value} {st st':Option M.Gs} {a b c m x y r:Int} {xs ys:List Int}
abbrev Kp (b4 b8:Nat) (O:Nat→Prop):Nat→Prop:=fun b=>b≠b4∧b≠b8∧¬O b
section
variable {w0 w':World}
theorem Ints.kp4 (h:Ints (Kp b4 b8 O) w xv xs) (hs:Same (· =b4) w w'):Ints (Kp b4 b8 O) w' xv xs:=Ints.same h hs fun b hb _ e=>hb.1 e
theorem Ints.kpO (h:Ints (Kp b4 b8 O) w xv xs) (hs:Same S w w') (hS:∀b,S b→O b) (hO:∀b,O' b→O b∨w.heap.size≤b):Ints (Kp b4 b8 O') w' xv xs:=by
 have h1:Ints (fun b=>Kp b4 b8 O b∧b<w.heap.size) w xv xs:=Ints.weaken h fun b hb hl=>⟨hb,hl⟩
 exact Ints.weaken (Ints.same h1 hs fun b hb _ e=>hb.1.2.2 (hS b e)) fun b hb _=>⟨hb.1.1,hb.1.2.1,fun ho=>(hO b ho).elim hb.1.2.2 fun h=>by have:=hb.2;omega⟩
theorem Fm.new {zs:List Int} (h:Fm n D O w0 b4 b8 w st) (ho:OwnI PP zg w' v zs) (hn:∀b,v.ownBlock=some b→w.heap.size≤b):Ints (Kp b4 b8 O) w' v zs:=Ints.weaken ho.ints fun b hb _=>by
 have h1:=hn b hb;have h2:=h.lt4
 exact⟨by omega,by omega,fun hO=>by have:=(h.off b hO).1;omega⟩
theorem Fm.app' {zs:List Int} {x:Int} {ty:Nat} (h:Fm n D (O1 v) w0 b4 b8 w st) (ho:OwnI PP zg w v zs) (hl:zs.length≤1000000)
  (hK:∀v' w',Fm n D (O1 v') w0 b4 b8 w' st→OwnI PP zg w' v' (zs++[x])→(∀xv xs,Ints (Kp b4 b8 (O1 v)) w xv xs→Ints (Kp b4 b8 (O1 v')) w' xv xs)→K v' w'):
  vbuildS PP zg 1 [(0,.int .i64 x)] w fun t w1=>vbi PP .append [zg,zg] ty [v,t] w1 K:=by
 refine yb Zj jT Ze rfl rfl fun b5 w5 hb5 he5 hz5 hB5=>?_
 refine(ho.ext he5).app1 kB hB5 (by omega) (by omega) fun v6 w6 ho6 hs6 hn6=>?_
 have h6:=(h.grow he5).own (O':=O1 v6) hs6 (fun b hb=>hb) fun b hb=>⟨ho6.lt hb,hn6 b hb⟩
 exact hK v6 w6 h6 ho6 fun xv xs hx=>Ints.kpO (Ints.ext hx he5) hs6 (fun b hb=>hb) fun b hb=>hn6 b hb
theorem Fm.take {zs:List Int} (h:Fm n D (fun _=>False) w0 b4 b8 w st) (he:Ext w w') (ho:OwnI PP zg w' v zs) (hn:∀b,v.ownBlock=some b→w.heap.size≤b):Fm n D (O1 v) w0 b4 b8 w' st:=
 h.own (S:=fun _=>False) he (fun b hb=>hb) fun b hb=>⟨ho.lt hb,.inr (hn b hb)⟩
theorem Fm.drop (h:Fm n D O w0 b4 b8 w st):Fm n D (fun _=>False) w0 b4 b8 w st:=h.own (S:=fun _=>False) (Same.refl _ _) (fun b hb=>hb.elim) fun b hb=>hb.elim
end
theorem smul7_spec (hn:n≤8) (hk:MkR n D w cs st) (hD:∀b,D b→b<w.heap.size) (hx:Ints Fx w xv xs) (hy:Ints Fy w yv ys) (hl:xs.length=ys.length) (h8:xs.length≤900) (hxs:SnL st xs) (hys:SnL st ys)
  (hK:∀w' cs' st' r zs,Ext w w'→MkR n D w' cs' st'→Ints (fun b=>w.heap.size≤b) w' r zs→SnL st' zs→M.Bd.Out n (M.mulB xs ys 0 (M.offsL xs.length)) st st' zs→K (.tuple #[.agg ⟨cs'⟩,r]) w'):
  vcall PP XL #[.agg ⟨cs⟩,xv,yv] w K:=by
 apply xQ0;unfold Wy
 refine Fm.start hk hD fun b4 b8 w1 h1=>?_
 have hx0:=Ints.under hx;have hy0:=Ints.under hy
 have hx1:=Ints.ext0 hx0 h1.ext
 simp(disch:=first|(simp only[push_cast];done)|omega) only[push_cast,hx1.len]
 refine sfill7_spec (by omega) fun w2 sv0 he2 hs2 hn2=>?_
 have lo:=h1.lo;have s1:=h1.ext.size
 have new0:Ints (fun b=>Kp b4 b8 (fun _=>False) b∧w.heap.size≤b) w2 sv0 (M.offsL xs.length):=Ints.weaken hs2.ints fun b hb _=>by
  have h1':=hn2 b hb;have h2:=h1.lt4
  exact⟨⟨by omega,by omega,id⟩,by omega⟩
 refine vloop_up ys.length (fun i u w'=> ∃st1 sv s,u=[sv,.int .i64 i]∧Fm n D (fun _=>False) w b4 b8 w' st1∧Ints (fun b=>Kp b4 b8 (fun _=>False) b∧w.heap.size≤b) w' sv s∧s.length=xs.length∧SnL st1 s∧SnL st1 xs∧SnL st1 ys∧
  ∀st2 res,M.Bd.Out n (M.mulB xs (ys.drop i) i s) st1 st2 res→M.Bd.Out n (M.mulB xs ys 0 (M.offsL xs.length)) st st2 res) ⟨st,sv0,_,rfl,h1.grow he2,new0,M.offsL_len _,SnL.fill _,hxs,hys,fun _ _ h=>h⟩ ?_
 rintro i _ g w3 C hi ⟨st3,sv,s,rfl,h3,hs3,hsl,hss3,hxs3,hys3,hout⟩ hC
 have hy3:=Ints.ext0 hy0 h3.ext
 simp(disch:=first|(simp only[push_cast];done)|omega) only[push_cast,hy3.len]
 refine zh (fun hlt=>?_) (fun hge=>?_)
 ·have hi':i<ys.length:=by omega
  refine sfill7_spec (by omega) fun w4 rv he4 hr4 hn4=>?_
  have h4:=h3.take he4 hr4 hn4
  have hs4:Ints (Kp b4 b8 (O1 rv)) w4 sv s:=Ints.kpO (O:=fun _=>False) (Ints.weaken hs3 fun b hb _=>hb.1) he4 (fun b hb=>hb.elim) fun b hb=> .inr (hn4 b hb)
  have hxsl:(xs.take (xs.length-i)).length=xs.length-i:=by rw[List.length_take];omega
  refine vloop_up (xs.length-i) (fun j u w'=> ∃st5 rv zs,u=[rv,.int .i64 ((i+j:Nat):Int)]∧Fm n D (O1 rv) w b4 b8 w' st5∧OwnI PP zg w' rv (M.offsL i++zs)∧zs.length=j∧Ints (Kp b4 b8 (O1 rv)) w' sv s∧SnL st5 zs∧SnL st5 s∧SnL st5 xs∧SnL st5 ys∧
   ∀st2 rs,M.Bd.Out n (M.rowB (ys.getD i 0) ((xs.take (xs.length-i)).drop j)) st5 st2 rs→M.Bd.Out n (M.rowB (ys.getD i 0) (xs.take (xs.length-i))) st3 st2 (zs++rs)) ⟨st3,rv,[],rfl,h4,by rw[List.append_nil];exact hr4,rfl,hs4,SnL.nil,hss3,hxs3,hys3,fun _ _ h=>h⟩ ?_
  rintro j _ g5 w5 C5 hj ⟨st5,rv5,zs,rfl,h5,hr5,hzl,hs5,hz5,hss5,hxs5,hys5,hout5⟩ hC5
  have hx5:=Ints.ext0 hx0 h5.ext
  simp(disch:=first|(simp only[push_cast];done)|omega) only[push_cast,hx5.len]
  refine zh (fun hlt2=>?_) (fun hge2=>?_)
  ·have hj':j<xs.length-i:=by omega
   refine zu fun w6 he6 _=>?_
   have h6:=h5.grow he6
   have hx6:=Ints.ext0 hx0 h6.ext
   have hy6:=Ints.ext0 hy0 h6.ext
   obtain⟨c6,hk6,hld6⟩:=h6.call
   have ei:((i:Int)+j)-i=(j:Int):=by omega
   simp(disch:=first|(simp only[push_cast];done)|omega) only[push_cast,zA,ei,hx6.iaddr,hx6.load,hy6.iaddr,hy6.load,true_and,hld6 w6 (Same.refl _ _)]
   refine sand7_spec hn hk6 h6.dl (hxs5.get (by omega)) (hys5.get hi') fun w7 cs7 st7 d he7 hk7 hd ho7=>?_
   simp only[push_cast,true_and]
   refine h6.put he7 hk7 fun w8 h8' hs8 hz8=>?_
   try simp only[push_cast,true_and,and_self]
   have hr8:OwnI PP zg w8 rv5 (M.offsL i++zs):=((hr5.ext he6).ext he7).same hs8 fun b hb=>(h5.off b hb).2.2.1
   have hs8':Ints (Kp b4 b8 (O1 rv5)) w8 sv s:=Ints.kp4 (Ints.ext (Ints.ext hs5 he6) he7) hs8
   refine h8'.app' hr8 (by rw[List.length_append,M.offsL_len];omega) fun rv9 w9 h9 hr9 hkeep=>?_
   try simp(disch:=omega) only[push_cast,zA]
   refine hC5 hj' _ _ ⟨st7,rv9,zs++[d],by simp<;>omega,h9,by rw[←List.append_assoc];exact hr9,by simp[hzl],hkeep _ _ hs8',SnL.app (hz5.out ho7) (SnL.one hd),hss5.out ho7,hxs5.out ho7,hys5.out ho7,fun st2 rs ho=>?_⟩
   have:=hout5 st2 (d::rs) ?_
   ·simpa using this
   rw[k90 (by omega),KD hj']
   exact xZ ho7 (M.Bd.Out.map _ ho)
  ·have hj0:j=xs.length-i:=by omega
   have hrowo:=hout5 st5 [] (by rw[qR0 (by omega)];exact M.Bd.Out.ret _ _)
   rw[List.append_nil] at hrowo
   obtain⟨c6,hk6,hld6⟩:=h5.call
   simp only[hld6 w5 (Same.refl _ _)]
   refine sadd7_spec hn hk6 h5.dl hs5 hr5.ints (by rw[List.length_append,M.offsL_len];omega) (by omega) hss5 (SnL.app (SnL.fill i) hz5) (Sn.of (by decide) (by decide)) fun w7 cs7 st7 nv ns he7 hk7 ho7 hn7 hns ho7'=>?_
   simp only[push_cast,true_and]
   refine h5.put he7 hk7 fun w8 h8' hs8 hz8=>?_
   try simp(disch:=omega) only[push_cast,zA]
   have hnl:ns.length=xs.length:=by
    have:=M.sum_len ho7'.reach
    rw[List.length_append,M.offsL_len] at this
    omega
   have l5:=h5.lt4;have s5:=h5.ext.size
   refine hC hi' _ _ ⟨st7,nv,ns,by simp,h8'.drop,Ints.same (Ints.weaken (F':=fun b=>Kp b4 b8 (fun _=>False) b∧w.heap.size≤b) ho7.ints fun b hb _=>by have:=hn7 b hb;exact⟨⟨by omega,by omega,id⟩,by omega⟩) hs8 (fun b hb _ e=>hb.1.1 e),hnl,hns,hxs5.out ho7',hys5.out ho7',fun st2 res ho=>hout st2 res ?_⟩
   rw[xq hi']
   exact M.Bd.Out.bind hrowo (M.Bd.Out.bind ho7' ho)
 ·refine h3.fin fun w4 cs4 e4 hk4 hs4=>?_
  exact hK w4 cs4 st3 sv s e4 hk4 (Ints.weaken (Ints.same hs3 hs4 fun b hb _ e=>hb.1.2.1 e) fun b hb _=>hb.2) hss3 (hout st3 s (by rw[qV0 (by omega)];exact M.Bd.Out.ret _ _))
theorem sfrom7_spec {op fill:Int} {j b:Nat} (hs:Ints Fx w sv xs) (hj:j<xs.length) (hl:xs.length≤1000) (hb:b≤1000) (hK:K (.int .i64 (M.fromL (decide (op=11)) fill xs b j)) w):
  vcall PP X3 #[.int .i64 op,sv,.int .i64 j,.int .i64 b,.int .i64 fill] w K:=by
 apply yY0;unfold Vm
 obtain⟨f1,f2,f3⟩:=from_at (up:=decide (op=11)) (fill:=fill) (s:=xs) (b:=b) hj
 simp(disch:=omega) only[push_cast,zA]
 refine zh (fun c=>?_) (fun c=>?_)
 ·rw[decide_eq_true c] at f1 f2 f3 hK
  simp only[if_true] at f1 f2 f3
  rw[show(j:Int)-b=j+ -(b:Int) by omega]
  try simp(disch:=omega) only[push_cast,zA]
  refine zh (fun d=>?_) (fun d=>?_)
  ·rw[f2 d] at hK;exact hK
  try simp(disch:=first|(simp only[push_cast];done)|omega) only[push_cast,hs.len]
  refine zh (fun e=>?_) (fun e=>?_)
  ·rw[f3 e] at hK;exact hK
  simp(disch:=first|(simp only[push_cast];done)|omega) only[push_cast,hs.iaddr,hs.load]
  rw[f1 (by omega) (by omega)] at hK;exact hK
 ·rw[decide_eq_false c] at f1 f2 f3 hK
  simp only[Bool.false_eq_true,if_false] at f1 f2 f3
  refine zh (fun d=>absurd d (by omega)) (fun d=>?_)
  try simp(disch:=first|(simp only[push_cast];done)|omega) only[push_cast,hs.len]
  refine zh (fun e=>?_) (fun e=>?_)
  ·rw[f3 e] at hK;exact hK
  simp(disch:=first|(simp only[push_cast];done)|omega) only[push_cast,hs.iaddr,hs.load]
  rw[f1 (by omega) (by omega)] at hK;exact hK
theorem from_sn {up:Bool} {fill:Int} {s:List Int} {b k:Nat} (hf:Sn st fill) (hs:SnL st s) (hk:k<s.length):Sn st (M.fromL up fill s b k):=by
 unfold M.fromL
 repeat' split
 all_goals first|exact hf|exact hs.get (by omega)
theorem sshift7_spec {op:Int} (hn:n≤8) (hk:MkR n D w cs st) (hD:∀b,D b→b<w.heap.size) (hx:Ints Fx w xv xs) (hy:Ints Fy w yv ys) (h1:1≤xs.length) (h8:xs.length≤1000) (hy8:ys.length≤8) (hxs:SnL st xs) (hys:SnL st ys)
  (hK:∀w' cs' st' r zs,Ext w w'→MkR n D w' cs' st'→Ints (fun b=>w.heap.size≤b) w' r zs→SnL st' zs→M.Bd.Out n (M.shiftB (decide (op=11)) (if op=13 then xs.getD (xs.length-1) 0 else-1) ys 0 xs) st st' zs→K (.tuple #[.agg ⟨cs'⟩,r]) w'):
  vcall PP Yd #[.agg ⟨cs⟩,.int .i64 op,xv,yv] w K:=by
 apply zz0;unfold Jt
 refine Fm.start hk hD fun b4 b8 w1 h1'=>?_
 have hx0:=Ints.under hx;have hy0:=Ints.under hy
 have lo:=h1'.lo;have s1:=h1'.ext.size
 refine spec_nil fun v2 w2 ho2 e2 hn2=>?_
 refine ho2.app kB (Ints.ext0 hx0 (h1'.ext.trans e2)) (by simp;omega) (by simp;omega) fun v3 w3 ho3 hs3 hn3=>?_
 have l1:=h1'.lt4;have z2:=e2.size
 have e13:Ext w1 w3:=Ext.then e2 hs3 fun b hb=>hn2 b hb
 have hnv3:∀b,v3.ownBlock=some b→w1.heap.size≤b:=fun b hb=>(hn3 b hb).elim (hn2 b) fun h=>by omega
 have h3:=h1'.grow e13
 have new3:Ints (fun b=>Kp b4 b8 (fun _=>False) b∧w.heap.size≤b) w3 v3 xs:=Ints.weaken ho3.ints fun b hb _=>by
  have:=hnv3 b hb
  exact⟨⟨by omega,by omega,id⟩,by omega⟩
 have hfs:Sn st (if op=13 then xs.getD (xs.length-1) 0 else-1):=by
  split
  ·exact hxs.get (by omega)
  ·exact Sn.of (by decide) (by decide)
 refine zU (fun u w'=>u=[.int .i64 (if op=13 then xs.getD (xs.length-1) 0 else-1)]∧w'=w3) ?_ ?_
 ·intro J hJ
  have hx3:=Ints.ext0 hx0 h3.ext
  simp only[push_cast]
  refine zh (fun c=>?_) (fun c=>?_)
  ·rw[if_pos c] at hJ
   simp(disch:=first|(simp only[push_cast];done)|omega) only[push_cast,hx3.len,zA]
   rw[show((xs.length:Int)-1)=((xs.length-1:Nat):Int) by omega]
   rw[hx3.iaddr KQ (by omega) (by omega),Int.toNat_natCast,hx3.load jj0 (by omega)]
   exact hJ _ _ ⟨rfl,rfl⟩
  ·rw[if_neg c] at hJ
   exact hJ _ _ ⟨rfl,rfl⟩
 rintro _ _ w4 ⟨rfl,rfl⟩
 generalize (if op=13 then xs.getD (xs.length-1) 0 else-1)=fill at*
 refine vloop_up ys.length (fun i u w'=> ∃st1 sv s,u=[sv,.int .i64 i]∧Fm n D (fun _=>False) w b4 b8 w' st1∧Ints (fun b=>Kp b4 b8 (fun _=>False) b∧w.heap.size≤b) w' sv s∧s.length=xs.length∧SnL st1 s∧SnL st1 ys∧Sn st1 fill∧
  ∀st2 res,M.Bd.Out n (M.shiftB (decide (op=11)) fill (ys.drop i) i s) st1 st2 res→M.Bd.Out n (M.shiftB (decide (op=11)) fill ys 0 xs) st st2 res) ⟨st,v3,_,rfl,h3,new3,rfl,hxs,hys,hfs,fun _ _ h=>h⟩ ?_
 rintro i _ g w5 C hi ⟨st5,sv,s,rfl,h5,hs5,hsl,hss5,hys5,hf5,hout⟩ hC
 have hy5:=Ints.ext0 hy0 h5.ext
 simp(disch:=first|(simp only[push_cast];done)|omega) only[push_cast,hy5.len]
 refine zh (fun hlt=>?_) (fun hge=>?_)
 ·have hi':i<ys.length:=by omega
  have hp:=pow_le4 (i:=i) (by omega)
  obtain⟨B,hB⟩:∃B,2^i=B:=⟨_,rfl⟩
  refine spec_nil fun rv w6 hr6 he6 hn6=>?_
  have h6:=h5.take he6 hr6 hn6
  have hs6:Ints (Kp b4 b8 (O1 rv)) w6 sv s:=Ints.kpO (O:=fun _=>False) (Ints.weaken hs5 fun b hb _=>hb.1) he6 (fun b hb=>hb.elim) fun b hb=> .inr (hn6 b hb)
  refine vloop_up s.length (fun j u w'=> ∃st7 rv zs,u=[rv,.int .i64 j]∧Fm n D (O1 rv) w b4 b8 w' st7∧OwnI PP zg w' rv zs∧zs.length=j∧Ints (Kp b4 b8 (O1 rv)) w' sv s∧SnL st7 zs∧SnL st7 s∧SnL st7 ys∧Sn st7 fill∧
   ∀st2 rs,M.Bd.Out n (M.eachB (M.muxB (ys.getD i 0)) (((List.range s.length).map (M.fromL (decide (op=11)) fill s B)).drop j) (s.drop j)) st7 st2 rs→M.Bd.Out n (M.eachB (M.muxB (ys.getD i 0)) ((List.range s.length).map (M.fromL (decide (op=11)) fill s B)) s) st5 st2 (zs++rs)) ⟨st5,rv,[],rfl,h6,hr6,rfl,hs6,SnL.nil,hss5,hys5,hf5,fun _ _ h=>h⟩ ?_
  rintro j _ g7 w7 C7 hj ⟨st7,rv7,zs,rfl,h7,hr7,hzl,hs7,hz7,hss7,hys7,hf7,hout7⟩ hC7
  simp(disch:=first|(simp only[push_cast];done)|omega) only[push_cast,hs7.len]
  refine zh (fun hlt2=>?_) (fun hge2=>?_)
  ·have hj':j<s.length:=by omega
   refine zu fun w8 he8 _=>?_
   have h8':=h7.grow he8
   have hs8:=Ints.ext hs7 he8
   have hy8':=Ints.ext0 hy0 h8'.ext
   obtain⟨c8,hk8,hld8⟩:=h8'.call
   simp(disch:=first|(simp only[push_cast];done)|omega) only[push_cast,hs8.iaddr,hs8.load,hy8'.iaddr,hy8'.load,true_and,hld8 w8 (Same.refl _ _)]
   refine l1Two_nat (by omega) ?_
   rw[hB]
   simp(disch:=first|(simp only[push_cast];done)|omega) only[push_cast,hs8.iaddr,hs8.load,hy8'.iaddr,hy8'.load,true_and,and_self,hld8 w8 (Same.refl _ _)]
   refine sfrom7_spec hs8 hj' (by omega) (by omega) ?_
   simp(disch:=first|(simp only[push_cast];done)|omega) only[push_cast,hs8.iaddr,hs8.load,hy8'.iaddr,hy8'.load,true_and,and_self,hld8 w8 (Same.refl _ _)]
   refine sone7_spec hn hk8 h8'.dl (hys7.get hi') (from_sn hf7 hss7 hj') (hss7.get hj') fun w9 cs9 st9 d he9 hk9 hd ho9=>?_
   simp only[push_cast,true_and]
   refine h8'.put he9 hk9 fun w10 h10 hs10 hz10=>?_
   try simp only[push_cast,true_and,and_self]
   have hr10:OwnI PP zg w10 rv7 zs:=((hr7.ext he8).ext he9).same hs10 fun b hb=>(h7.off b hb).2.2.1
   have hs10':Ints (Kp b4 b8 (O1 rv7)) w10 sv s:=Ints.kp4 (Ints.ext hs8 he9) hs10
   refine h10.app' hr10 (by omega) fun rv11 w11 h11 hr11 hkeep=>?_
   try simp(disch:=omega) only[push_cast,zA]
   refine hC7 hj' _ _ ⟨st9,rv11,zs++[d],by simp,h11,hr11,by simp[hzl],hkeep _ _ hs10',SnL.app (hz7.out ho9) (SnL.one hd),hss7.out ho9,hys7.out ho9,hf7.out ho9,fun st2 rs ho=>?_⟩
   have:=hout7 st2 (d::rs) ?_
   ·simpa using this
   rw[KP (by simpa using hj') hj',Uo hj']
   exact M.Bd.Out.bind ho9 (M.Bd.Out.map _ ho)
  ·have hj0:j=s.length:=by omega
   have hrowo:=hout7 st7 [] (by rw[QK (by simp;omega)];exact M.Bd.Out.ret _ _)
   rw[List.append_nil] at hrowo
   try simp(disch:=omega) only[push_cast,zA]
   refine hC hi' _ _ ⟨st7,rv7,zs,by simp,h7.drop,Ints.weaken hr7.ints (fun b hb _=>by have h9:=h7.off b hb;exact⟨⟨h9.2.2.1,h9.2.2.2,id⟩,h9.2.1⟩),by omega,hz7,hys7,hf7,fun st2 res ho=>hout st2 res ?_⟩
   rw[xq hi']
   rw[←hB] at hrowo
   exact M.Bd.Out.bind hrowo ho
 ·refine h5.fin fun w6 cs6 e6 hk6 hs6=>?_
  exact hK w6 cs6 st5 sv s e6 hk6 (Ints.weaken (Ints.same hs5 hs6 fun b hb _ e=>hb.1.2.1 e) fun b hb _=>hb.2) hss5 (hout st5 s (by rw[xw0 (by omega)];exact M.Bd.Out.ret _ _))
end Go.Proofs.YtaekfnbnhjgboaaGreatDoor
end
section
namespace Go.Proofs.YtaekfnbnhjgboaaGreatDoor
open Go Go.Vc Go.Proofs
variable {w:World} {K:Value→World→Prop} {D F Fx Fy Y S O O':Nat→Prop} {n b4 b8:Nat} {gs gs':M.Gs} {v v' nv xv yv sv:Value} {cs cs':List Value} {st st':Option M.Gs} {a b c m x y r:Int} {xs ys:List Int}
theorem SnL.set {xs:List Int} (h:SnL st xs) {i:Nat} {x:Int} (hx:Sn st x):SnL st (xs.set i x):=fun y hy=>by
 rcases List.mem_or_eq_of_mem_set hy with h1|h1
 ·exact h y h1
 ·rw[h1];exact hx
theorem SnL.take (h:SnL st xs) (m:Nat):SnL st (xs.take m):=fun x hx=>h x (List.mem_of_mem_take hx)
theorem sdiv7_spec (hn:n≤8) (hk:MkR n D w cs st) (hD:∀b,D b→b<w.heap.size) (hx:Ints Fx w xv xs) (hy:Ints Fy w yv ys) (hl:xs.length=ys.length) (h8:xs.length≤900) (hxs:SnL st xs) (hys:SnL st ys)
  (hK:∀w' cs' st' qv rv q r,Ext w w'→MkR n D w' cs' st'→Ints (fun b=>w.heap.size≤b) w' qv q→Ints (fun b=>w.heap.size≤b) w' rv r→SnL st' q→SnL st' r→M.Bd.Out n (M.divB xs (ys++[-1]) xs.length (M.offsL xs.length) (M.offsL xs.length)) st st' (q,r)→K (.tuple #[.agg ⟨cs'⟩,qv,rv]) w'):
  vcall PP ZS #[.agg ⟨cs⟩,xv,yv] w K:=by
 apply xS0;unfold WA
 refine Fm.start hk hD fun b4 b8 w1 h1=>?_
 have hx0:=Ints.under hx;have hy0:=Ints.under hy
 have lo:=h1.lo;have s1:=h1.ext.size;have l1:=h1.lt4
 have hx1:=Ints.ext0 hx0 h1.ext
 simp(disch:=first|(simp only[push_cast];done)|omega) only[push_cast,hx1.len]
 refine sfill7_spec (by omega) fun w2 rv0 he2 hr2 hnr2=>?_
 refine sfill7_spec (by omega) fun w3 qv he3 hq3 hnq3=>?_
 refine spec_nil fun v4 w4 ho4 e4 hn4=>?_
 refine ho4.app kB (Ints.ext0 hy0 (h1.ext.trans (he2.trans (he3.trans e4)))) (by simp;omega) (by simp;omega) fun v5 w5 ho5 hs5 hn5=>?_
 have z2:=he2.size;have z3:=he3.size;have z4:=e4.size;have z5:=hs5.size
 have hv5:∀b,v5.ownBlock=some b→w3.heap.size≤b:=fun b hb=>(hn5 b hb).elim (hn4 b) fun h=>by omega
 have e35:Ext w3 w5:=Ext.then e4 hs5 fun b hb=>hn4 b hb
 refine spec_app (w0:=w3) e35 ho5 hv5 (by simp;omega) fun wv w6 hw6 e36 hnw6=>?_
 rw[List.nil_append] at hw6
 simp(disch:=omega) only[push_cast,zA]
 have hq6:=hq3.ext e36
 have h2:=h1.grow he2
 have h3:=h2.take he3 hq3 hnq3
 have h6:Fm n D (O1 qv) w b4 b8 w6 st:=h3.grow e36
 have hR6:Ints (fun b=>Kp b4 b8 (O1 qv) b∧w.heap.size≤b) w6 rv0 (M.offsL xs.length):=Ints.weaken (hr2.ext (he3.trans e36)).ints fun b hb _=>by
  have h5':=hnr2 b hb;have hlt:=hr2.lt hb
  exact⟨⟨by omega,by omega,fun hq=>by have:=hnq3 b hq;omega⟩,by omega⟩
 have hW6:Ints (Kp b4 b8 (O1 qv)) w6 wv (ys++[-1]):=Ints.weaken hw6.ints fun b hb _=>by
  have h5':=hnw6 b hb
  exact⟨by omega,by omega,fun hq=>by have:=hq3.lt hq;omega⟩
 have hwl:(ys++[(-1:Int)]).length=xs.length+1:=by rw[List.length_append,hl];rfl
 have hws:SnL st (ys++[(-1:Int)]):=hys.app (SnL.one (Sn.of (by decide) (by decide)))
 generalize ys++[(-1:Int)]=wide at*
 refine ZP (fun m u w'=> ∃st1 rv r q,u=[rv,.int .i64 ((m:Int)-1)]∧m≤xs.length∧Fm n D (O1 qv) w b4 b8 w' st1∧Ints (fun b=>Kp b4 b8 (O1 qv) b∧w.heap.size≤b) w' rv r∧r.length=xs.length∧SnL st1 r∧OwnI PP zg w' qv q∧q.length=xs.length∧SnL st1 q∧Ints (Kp b4 b8 (O1 qv)) w' wv wide∧SnL st1 wide∧SnL st1 xs∧
  ∀st2 res,M.Bd.Out n (M.divB xs wide m r q) st1 st2 res→M.Bd.Out n (M.divB xs wide xs.length (M.offsL xs.length) (M.offsL xs.length)) st st2 res) xs.length
  ⟨st,rv0,_,_,rfl,Nat.le_refl _,h6,hR6,M.offsL_len _,SnL.fill _,hq6,M.offsL_len _,SnL.fill _,hW6,hws,hxs,fun _ _ h=>h⟩ ?_
 rintro m _ g w7 C ⟨st7,rv,r,q,rfl,hm,h7,hr7,hrl,hrs,hq7,hql,hqs,hw7,hws7,hxs7,hout⟩ hC
 simp only[push_cast]
 refine zh (fun hge=>?_) (fun hlt=>?_)
 ·obtain⟨m,rfl⟩:∃j,m=j+1:=⟨m-1,by omega⟩
  have hmx:m<xs.length:=by omega
  rw[show((m+1:Nat):Int)-1=(m:Int) by omega]
  have hx7:=Ints.ext0 hx0 h7.ext
  rw[hx7.iaddr KQ (by omega) (by omega),Int.toNat_natCast,hx7.load jj0 (by omega)]
  refine yb Zj jT Ze rfl rfl fun b8' w8 hb8 he8 hz8 hB8=>?_
  have ht8:OwnI PP zg w8 (.slice (some ⟨b8',0,none⟩) 1 1) [xs.getD m 0]:=Blk.own1 (P:=PP) (t:=zg) (cs:=[Value.int .i64 (xs.getD m 0)]) (by rw[UO];exact hB8) (Nat.zero_le _) rfl rfl (by omega)
  refine ht8.app kB (Ints.ext hr7 he8) (by simp;omega) (by simp;omega) fun tv w9 ht9 hs9 hn9=>?_
  have e79:Ext w7 w9:=Ext.then he8 hs9 fun b hb=>by have e:b8'=b:=Option.some.inj hb;omega
  have htn:∀b,tv.ownBlock=some b→w7.heap.size≤b:=fun b hb=>(hn9 b hb).elim (fun h=>by have e:b8'=b:=Option.some.inj h;omega) fun h=>by omega
  have h9:=h7.grow e79
  have hT9:Ints (Kp b4 b8 (O1 qv)) w9 tv (xs.getD m 0::r):=h7.new ht9 htn
  have hts:SnL st7 (xs.getD m 0::r):=(SnL.one (hxs7.get hmx)).app hrs
  have htl:(xs.getD m 0::r).length=xs.length+1:=by rw[List.length_cons,hrl]
  refine spec_nil fun vz w10 hz10 e10 hnz10=>?_
  have h10:=h9.grow e10
  have e710:=e79.trans e10
  have hT10:Ints (Kp b4 b8 (O1 qv)) w10 tv (xs.getD m 0::r):=Ints.ext hT9 e10
  have hw10:Ints (Kp b4 b8 (O1 qv)) w10 wv wide:=Ints.ext hw7 e710
  have hq10:=hq7.ext e710
  generalize ht:xs.getD m 0::r=t at*
  obtain⟨c10,hk10,hld10⟩:=h10.call
  simp only[hld10 w10 (Same.refl _ _)]
  refine sless7_spec hn hk10 h10.dl hT10 hw10 (by omega) (by omega) hts hws7 fun w11 cs11 st11 l he11 hk11 hl11 ho11=>?_
  simp only[push_cast,true_and]
  refine h10.put he11 hk11 fun w12 h12 hs12 hz12=>?_
  have hq12:OwnI PP zg w12 qv q:=(hq10.ext he11).same hs12 fun b hb=>(h10.off b hb).2.2.1
  have hT12:Ints (Kp b4 b8 (O1 qv)) w12 tv t:=Ints.kp4 (Ints.ext hT10 he11) hs12
  have hw12:Ints (Kp b4 b8 (O1 qv)) w12 wv wide:=Ints.kp4 (Ints.ext hw10 he11) hs12
  have hl1:=hl11.1
  unfold Sm at hl1
  simp(disch:=omega) only[push_cast,zA,Int.zero_sub]
  rw[hq12.ints.iaddr KQ (by omega) (by omega),Int.toNat_natCast]
  refine hq12.st jT (by omega) fun w13 hq13 hs13 hz13=>?_
  have h13:Fm n D (O1 qv) w b4 b8 w13 st11:=h12.own hs13 (fun b hb=>hb) fun b hb=>⟨by have:=(h12.off b hb).1;omega,.inl hb⟩
  have hT13:Ints (Kp b4 b8 (O1 qv)) w13 tv t:=Ints.same hT12 hs13 fun b hb _ e=>hb.2.2 e
  have hw13:Ints (Kp b4 b8 (O1 qv)) w13 wv wide:=Ints.same hw12 hs13 fun b hb _ e=>hb.2.2 e
  refine zu fun w14 he14 _=>?_
  have h14:=h13.grow he14
  obtain⟨c14,hk14,hld14⟩:=h14.call
  simp only[push_cast,true_and,hld14 w14 (Same.refl _ _)]
  refine sturn7_spec (Ints.ext hw13 he14) (by omega) (hws7.sm) fun w15 nv he15 hn15 hnn15=>?_
  have h15:=h14.grow he15
  have hN15:Ints (Kp b4 b8 (O1 qv)) w15 nv (M.negL wide):=h14.new hn15 hnn15
  have hT15:Ints (Kp b4 b8 (O1 qv)) w15 tv t:=Ints.ext (Ints.ext hT13 he14) he15
  simp only[push_cast,true_and,and_self,hld14 w15 he15]
  refine sadd7_spec hn (hk14.ext he15 fun _ h _=>h) h15.dl hT15 hN15 (by rw[M.negL_len];omega) (by omega) (hts.out ho11) ((hws7.out ho11).neg) (Sn.of (by decide) (by decide)) fun w16 cs16 st16 uv us he16 hk16 hu16 hnu16 hus ho16=>?_
  simp only[push_cast,true_and]
  refine h15.put he16 hk16 fun w17 h17 hs17 hz17=>?_
  have hul:us.length=xs.length+1:=by
   have:=M.sum_len ho16.reach
   rw[M.negL_len] at this
   omega
  have hU17:Ints (Kp b4 b8 (O1 qv)) w17 uv us:=Ints.kp4 (h15.new hu16 hnu16) hs17
  have hT17:Ints (Kp b4 b8 (O1 qv)) w17 tv t:=Ints.kp4 (Ints.ext hT15 he16) hs17
  try simp only[push_cast,true_and,and_self]
  refine zu fun w18 he18 _=>?_
  have h18:=h17.grow he18
  obtain⟨c18,hk18,hld18⟩:=h18.call
  have hT18:=Ints.ext hT17 he18
  have hU18:=Ints.ext hU17 he18
  have eT:yp PP zg tv none (some (.int .i64 xs.length)) none w18=fun K=>K (cutV tv xs.length) w18:=by
   funext K
   by_cases c:xs.length≤t.length
   ·exact Sl.cut hT18 (Sl.base hT18 (by simp;intro h;rw[h] at htl;simp at htl)) KQ (by simpa using c)
   ·omega
  have eU:yp PP zg uv none (some (.int .i64 xs.length)) none w18=fun K=>K (cutV uv xs.length) w18:=by
   funext K
   exact Sl.cut hU18 (Sl.base hU18 (by simp;intro h;rw[h] at hul;simp at hul)) KQ (by simpa using(show xs.length≤us.length by omega))
  have hTc:Ints (Kp b4 b8 (O1 qv)) w18 (cutV tv xs.length) (t.take xs.length):=by
   have:=Sl.taken hT18 (n:=xs.length) (by simpa using(show xs.length≤t.length by omega))
   unfold Ints Vals;rw[List.map_take,List.map_take];exact this
  have hUc:Ints (Kp b4 b8 (O1 qv)) w18 (cutV uv xs.length) (us.take xs.length):=by
   have:=Sl.taken hU18 (n:=xs.length) (by simpa using(show xs.length≤us.length by omega))
   unfold Ints Vals;rw[List.map_take,List.map_take];exact this
  simp only[push_cast,true_and,hld18 w18 (Same.refl _ _),eT,eU]
  refine sifs7_spec hn hk18 h18.dl hTc hUc (by rw[List.length_take,List.length_take];omega) (by rw[List.length_take];omega) (((hts.out ho11).out ho16).take _) (hus.take _) (hl11.out ho16) fun w19 cs19 st19 zv zs he19 hk19 hz19 hnz19 hzs ho19=>?_
  simp only[push_cast,true_and]
  refine h18.put he19 hk19 fun w20 h20 hs20 hz20=>?_
  try simp(disch:=omega) only[push_cast,true_and,and_self,zA]
  have hzl:zs.length=xs.length:=by
   have:=M.each_len ho19.reach
   rw[List.length_take,List.length_take] at this
   omega
  have hq20:OwnI PP zg w20 qv (q.set m (-l)):=by
   have off:∀b,qv.ownBlock=some b→¬b=b4:=fun b hb=>(h10.off b hb).2.2.1
   exact((((((hq13.ext he14).ext he15).ext he16).same hs17 off).ext he18).ext he19).same hs20 off
  have hw20:Ints (Kp b4 b8 (O1 qv)) w20 wv wide:=Ints.kp4 (Ints.ext (Ints.ext (Ints.kp4 (Ints.ext (Ints.ext (Ints.ext hw13 he14) he15) he16) hs17) he18) he19) hs20
  have s18:=h18.ext.size
  refine hC m _ _ (by omega) ⟨st19,zv,zs,q.set m (-l),by simp<;>exact⟨rfl,rfl⟩,by omega,h20,Ints.same (Ints.weaken (F':=fun b=>Kp b4 b8 (O1 qv) b∧w.heap.size≤b) hz19.ints fun b hb _=>by
   have h9':=hnz19 b hb;have hl4:=h18.lt4
   exact⟨⟨by omega,by omega,fun hO=>by have:=(h18.off b hO).1;omega⟩,by omega⟩) hs20 (fun b hb _ e=>hb.1.1 e),hzl,hzs,hq20,by rw[List.length_set];exact hql,(((hqs.out ho11).set hl11.neg).out ho16).out ho19,hw20,((hws7.out ho11).out ho16).out ho19,((hxs7.out ho11).out ho16).out ho19,fun st2 res ho=>hout st2 res ?_⟩
  subst ht
  exact j40 ho11 ho16 ho19 ho
 ·have hm0:m=0:=by omega
  subst hm0
  refine h7.fin fun w8 cs8 e8 hk8 hs8=>?_
  exact hK w8 cs8 st7 qv rv q r e8 hk8 (Ints.weaken (hq7.same hs8 fun b hb e=>(h7.off b hb).2.2.2 e).ints fun b hb _=>(h7.off b hb).2.1) (Ints.weaken (Ints.same hr7 hs8 fun b hb _ e=>hb.1.2.1 e) fun b hb _=>hb.2) hqs hrs (hout st7 (q,r) (by unfold M.divB;exact M.Bd.Out.ret _ _))
end Go.Proofs.YtaekfnbnhjgboaaGreatDoor
end
section
namespace Go.Proofs.YtaekfnbnhjgboaaGreatDoor
open Go Go.Vc Go.Proofs
variable {w:World} {K:Value→World→Prop} {D F Fx Fy Y S O O':Nat→Prop} {n b4 b8:Nat} {gs gs':M.Gs} {v v' nv xv yv sv:Value} {cs cs':List Value} {st st':Option M.Gs} {a b c m x y r:Int} {xs ys:List Int}
abbrev New (w:World):Nat→Prop:=fun b=>w.heap.size≤b
theorem Fm.res {w0 w5:World} {rv:Value} {zs:List Int} (h:Fm n D O w0 b4 b8 w st) (he:Ext w w5) (hk:MkR n (X30 D O b4 b8) w5 cs' st') (hz:Ints (New w) w5 rv zs)
  (hK:∀w6,Ext w0 w6→MkR n D w6 cs' st'→Ints (New w0) w6 rv zs→K (.tuple #[.agg ⟨cs'⟩,rv]) w6):
  zp PP zd (.pointer (some ⟨b8,0,none⟩)) (.agg ⟨cs'⟩) w5 fun _ w6=>vlv PP zd (.pointer (some ⟨b8,0,none⟩)) w6 fun r8 w7=>K (.tuple #[r8,rv]) w7:=by
 refine h.out he hk fun w6 e6 hk6 hs6=>hK w6 e6 hk6 ?_
 have l:=h.lt4;have s:=h.ext.size
 exact Ints.weaken (Ints.same hz hs6 fun b hb _ e=>by have:w.heap.size≤b:=hb;omega) fun b hb _=>by have:w.heap.size≤b:=hb;show w0.heap.size≤b;omega
theorem kc {w0:World} {rv:Value} {zs:List Int} (ho:OwnI PP zg w rv zs) (hn:∀b,rv.ownBlock=some b→w0.heap.size≤b):Ints (New w0) w rv zs:=Ints.weaken ho.ints fun b hb _=>hn b hb
theorem sbin7_spec {op:Int} (h3:3≤op) (h14:op≤14) (hn:n≤8) (hk:MkR n D w cs st) (hD:∀b,D b→b<w.heap.size) (hx:Ints Fx w xv xs) (hy:Ints Fy w yv ys) (hl:op≠14→xs.length=ys.length) (hx1:1≤xs.length) (h8:xs.length≤8) (hy8:ys.length≤8) (hxs:SnL st xs) (hys:SnL st ys)
  (hK:∀w' cs' st' r zs,Ext w w'→MkR n D w' cs' st'→Ints (New w) w' r zs→SnL st' zs→M.Bd.Out n (M.binB op xs ys) st st' zs→K (.tuple #[.agg ⟨cs'⟩,r]) w'):
  vcall PP XN #[.agg ⟨cs⟩,.int .i64 op,xv,yv] w K:=by
 apply xU0;unfold WC
 refine Fm.start hk hD fun b4 b8 w1 h1=>?_
 have hx0:=Ints.ext (Ints.under hx) h1.ext;have hy0:=Ints.ext (Ints.under hy) h1.ext
 unfold M.binB at hK
 obtain⟨c1,hk1,hld1⟩:=h1.call
 simp only[push_cast]
 refine zh (fun c=>?_) (fun c6=>?_)
 ·subst c
  simp only[if_neg (show¬(6:Int)=14 by decide),if_neg (show¬(6:Int)=3 by decide),if_neg (show¬(6:Int)=4 by decide),if_neg (show¬(6:Int)=5 by decide),if_true] at hK
  simp only[hld1 w1 (Same.refl _ _)]
  refine sadd7_spec hn hk1 h1.dl hx0 hy0 (by have:=hl (by decide);omega) (by omega) hxs hys (Sn.of (by decide) (by decide)) fun w2 cs2 st2 rv zs he2 hk2 hr2 hnr2 hz2 ho2=>?_
  simp only[push_cast]
  exact h1.res he2 hk2 (kc hr2 hnr2) fun w3 e3 hk3 hz3=>hK w3 cs2 st2 rv zs e3 hk3 hz3 hz2 ho2
 try simp only[push_cast]
 refine zh (fun c=>?_) (fun c7=>?_)
 ·subst c
  simp only[if_neg (show¬(7:Int)=14 by decide),if_neg (show¬(7:Int)=3 by decide),if_neg (show¬(7:Int)=4 by decide),if_neg (show¬(7:Int)=5 by decide),if_neg (show¬(7:Int)=6 by decide),if_true] at hK
  refine zu fun w2 he2 _=>?_
  simp only[hld1 w2 he2,true_and]
  refine sturn7_spec (Ints.ext hy0 he2) (by omega) hys.sm fun w3 nv he3 hn3 hnn3=>?_
  simp only[hld1 w3 (he2.trans he3),true_and,and_self]
  have h3':=(h1.grow he2).grow he3
  refine sadd7_spec hn (hk1.ext (he2.trans he3) fun _ h _=>h) h3'.dl (Ints.ext hx0 (he2.trans he3)) hn3.ints (by rw[M.negL_len];have:=hl (by decide);omega) (by omega) hxs hys.neg (Sn.of (by decide) (by decide)) fun w4 cs4 st4 rv zs he4 hk4 hr4 hnr4 hz4 ho4=>?_
  simp only[push_cast,true_and]
  exact h3'.res he4 hk4 (kc hr4 hnr4) fun w5 e5 hk5 hz5=>hK w5 cs4 st4 rv zs e5 hk5 hz5 hz4 ho4
 try simp only[push_cast]
 refine zh (fun c=>?_) (fun c8=>?_)
 ·subst c
  simp only[if_neg (show¬(8:Int)=14 by decide),if_neg (show¬(8:Int)=3 by decide),if_neg (show¬(8:Int)=4 by decide),if_neg (show¬(8:Int)=5 by decide),if_neg (show¬(8:Int)=6 by decide),if_neg (show¬(8:Int)=7 by decide),if_true] at hK
  simp only[hld1 w1 (Same.refl _ _)]
  refine smul7_spec hn hk1 h1.dl hx0 hy0 (hl (by decide)) (by omega) hxs hys fun w2 cs2 st2 rv zs he2 hk2 hr2 hz2 ho2=>?_
  simp only[push_cast]
  exact h1.res he2 hk2 hr2 fun w3 e3 hk3 hz3=>hK w3 cs2 st2 rv zs e3 hk3 hz3 hz2 ho2
 try simp only[push_cast]
 refine zh (fun c=>?_) (fun c9=>?_)
 ·subst c
  simp only[if_neg (show¬(9:Int)=14 by decide),if_neg (show¬(9:Int)=3 by decide),if_neg (show¬(9:Int)=4 by decide),if_neg (show¬(9:Int)=5 by decide),if_neg (show¬(9:Int)=6 by decide),if_neg (show¬(9:Int)=7 by decide),if_neg (show¬(9:Int)=8 by decide),if_true] at hK
  simp only[hld1 w1 (Same.refl _ _)]
  refine sdiv7_spec hn hk1 h1.dl hx0 hy0 (hl (by decide)) (by omega) hxs hys fun w2 cs2 st2 qv rv q r he2 hk2 hq2 hr2 hqs hrs ho2=>?_
  simp only[push_cast]
  refine zC qa fun b10 w3 hb3 he3 hz3 hB3=>?_
  refine mk_put hB3 rfl hk2.len hk2.one fun w4 hs4 hz4 hB4=>?_
  rw[Uw hB4 hk2.len]
  have e24:Ext w2 w4:=Ext.then he3 hs4 fun b hb=>by omega
  exact h1.res (he2.trans e24) (hk2.ext e24 fun _ h _=>h) (Ints.ext hq2 e24) fun w5 e5 hk5 hz5=>hK w5 cs2 st2 qv q e5 hk5 hz5 hqs (M.Bd.Out.map _ ho2)
 try simp only[push_cast]
 refine zh (fun c=>?_) (fun c10=>?_)
 ·subst c
  simp only[if_neg (show¬(10:Int)=14 by decide),if_neg (show¬(10:Int)=3 by decide),if_neg (show¬(10:Int)=4 by decide),if_neg (show¬(10:Int)=5 by decide),if_neg (show¬(10:Int)=6 by decide),if_neg (show¬(10:Int)=7 by decide),if_neg (show¬(10:Int)=8 by decide),if_neg (show¬(10:Int)=9 by decide),if_true] at hK
  simp only[hld1 w1 (Same.refl _ _)]
  refine sdiv7_spec hn hk1 h1.dl hx0 hy0 (hl (by decide)) (by omega) hxs hys fun w2 cs2 st2 qv rv q r he2 hk2 hq2 hr2 hqs hrs ho2=>?_
  simp only[push_cast]
  refine zC qa fun b10 w3 hb3 he3 hz3 hB3=>?_
  refine mk_put hB3 rfl hk2.len hk2.one fun w4 hs4 hz4 hB4=>?_
  rw[Uw hB4 hk2.len]
  have e24:Ext w2 w4:=Ext.then he3 hs4 fun b hb=>by omega
  exact h1.res (he2.trans e24) (hk2.ext e24 fun _ h _=>h) (Ints.ext hr2 e24) fun w5 e5 hk5 hz5=>hK w5 cs2 st2 rv r e5 hk5 hz5 hrs (M.Bd.Out.map _ ho2)
 refine zU (fun u w'=>u=[.bool (decide (op=11∨op=12∨op=13))]∧w'=w1) ?_ ?_
 ·intro J hJ
  try simp only[push_cast]
  refine zh (fun c=>?_) (fun c=>?_)
  ·refine hJ _ _ ⟨?_,rfl⟩
   rw[decide_eq_true c,decide_eq_true (.inl c)]
  try simp only[push_cast]
  refine zh (fun d=>?_) (fun d=>?_)
  ·refine hJ _ _ ⟨?_,rfl⟩
   rw[decide_eq_true d,decide_eq_true (.inr (.inl d))]
  try simp only[push_cast]
  refine hJ _ _ ⟨?_,rfl⟩
  rw[decide_eq_decide.2 (show(op=11∨op=12∨op=13)↔op=13 from⟨fun h=>by omega,fun h=> .inr (.inr h)⟩)]
 rintro _ _ w2 ⟨rfl,rfl⟩
 try simp only[push_cast]
 refine zh (fun c=>?_) (fun cs13=>?_)
 ·simp only[hld1 w2 (Same.refl _ _)]
  refine sshift7_spec hn hk1 h1.dl hx0 hy0 hx1 (by omega) (by omega) hxs hys fun w3 cs3 st3 rv zs he3 hk3 hr3 hz3 ho3=>?_
  simp only[push_cast]
  refine h1.res he3 hk3 hr3 fun w5 e5 hk5 hz5=>hK w5 cs3 st3 rv zs e5 hk5 hz5 hz3 ?_
  rw[if_neg (by omega),if_neg (by omega),if_neg (by omega),if_neg (by omega),if_neg c6,if_neg c7,if_neg c8,if_neg c9,if_neg c10]
  rcases c with rfl|rfl|rfl
  ·exact ho3
  ·exact ho3
  ·exact ho3
 try simp only[push_cast]
 refine zh (fun c=>?_) (fun c14=>?_)
 ·rw[if_pos c] at hK
  refine zu fun w3 he3 _=>?_
  simp only[hld1 w3 he3,true_and]
  refine spec_nil fun v4 w4 ho4 e4 hn4=>?_
  simp only[hld1 w4 (he3.trans e4),true_and,and_self]
  refine ho4.app kB (Ints.ext hy0 (he3.trans e4)) (by simp;omega) (by simp;omega) fun v5 w5 ho5 hs5 hn5=>?_
  have z3:=he3.size;have z4:=e4.size
  have e35:Ext w3 w5:=Ext.then e4 hs5 fun b hb=>hn4 b hb
  simp only[hld1 w5 (he3.trans e35),true_and,and_self]
  have hv5:∀b,v5.ownBlock=some b→w3.heap.size≤b:=fun b hb=>(hn5 b hb).elim (hn4 b) fun h=>by omega
  refine ho5.app kB (Ints.ext hx0 (he3.trans e35)) (by simp;omega) (by simp;omega) fun v6 w6 ho6 hs6 hn6=>?_
  have z5:=e35.size
  have e36:Ext w3 w6:=Ext.then e35 hs6 fun b hb=>hv5 b hb
  simp only[hld1 w6 (he3.trans e36),true_and,and_self]
  refine h1.res (he3.trans e36) (hk1.ext (he3.trans e36) fun _ h _=>h) (kc ho6 fun b hb=>(hn6 b hb).elim (fun h=>by have:=hv5 b h;omega) fun h=>by omega) fun w7 e7 hk7 hz7=>hK w7 c1 st v6 _ e7 hk7 hz7 (by rw[List.nil_append];exact hys.app hxs) (M.Bd.Out.ret _ _)
 simp only[hld1 w2 (Same.refl _ _)]
 refine splain7_spec hn hk1 h1.dl hx0 hy0 (by have:=hl c14;omega) (by omega) hxs hys fun w3 cs3 st3 rv zs he3 hk3 hr3 hnr3 hz3 ho3=>?_
 simp only[push_cast]
 refine h1.res he3 hk3 (kc hr3 hnr3) fun w5 e5 hk5 hz5=>hK w5 cs3 st3 rv zs e5 hk5 hz5 hz3 ?_
 rw[if_neg c14]
 unfold Yy at ho3
 rcases(by omega:op=3∨op=4∨op=5) with rfl|rfl|rfl
 ·exact ho3
 ·exact ho3
 ·exact ho3
theorem sun7_spec {op:Int} (ho:op=1∨op=2) (hn:n≤8) (hk:MkR n D w cs st) (hD:∀b,D b→b<w.heap.size) (hx:Ints Fx w xv xs) (h8:xs.length≤8) (hxs:SnL st xs)
  (hK:∀w' cs' st' r zs,Ext w w'→MkR n D w' cs' st'→Ints (New w) w' r zs→SnL st' zs→M.Bd.Out n (M.unB op xs) st st' zs→K (.tuple #[.agg ⟨cs'⟩,r]) w'):
  vcall PP K2 #[.agg ⟨cs⟩,.int .i64 op,xv] w K:=by
 apply qF0;unfold ze0
 refine Fm.start hk hD fun b4 b8 w1 h1=>?_
 have hx0:=Ints.ext (Ints.under hx) h1.ext
 unfold M.unB at hK
 obtain⟨c1,hk1,hld1⟩:=h1.call
 simp only[push_cast]
 refine zh (fun c=>?_) (fun c=>?_)
 ·rw[if_pos c] at hK
  refine zu fun w2 he2 _=>?_
  simp only[hld1 w2 he2,true_and]
  refine sturn7_spec (Ints.ext hx0 he2) (by omega) hxs.sm fun w3 nv he3 hn3 hnn3=>?_
  simp only[hld1 w3 (he2.trans he3),true_and,and_self]
  have z2:=he2.size
  exact h1.res (he2.trans he3) (hk1.ext (he2.trans he3) fun _ h _=>h) (kc hn3 fun b hb=>by have:=hnn3 b hb;omega) fun w5 e5 hk5 hz5=>hK w5 c1 st nv _ e5 hk5 hz5 hxs.neg (M.Bd.Out.ret _ _)
 ·rw[if_neg c] at hK
  refine zu fun w2 he2 _=>?_
  have hx2:=Ints.ext hx0 he2
  simp(disch:=first|(simp only[push_cast];done)|omega) only[push_cast,hld1 w2 he2,true_and,hx2.len]
  refine sfill7_spec (by omega) fun w3 fv he3 hf3 hnf3=>?_
  simp only[hld1 w3 (he2.trans he3),true_and,and_self]
  refine sturn7_spec (Ints.ext hx2 he3) (by omega) hxs.sm fun w4 nv he4 hn4 hnn4=>?_
  have e14:=he2.trans (he3.trans he4)
  simp only[hld1 w4 e14,true_and,and_self]
  have h4:=h1.grow e14
  refine sadd7_spec hn (hk1.ext e14 fun _ h _=>h) h4.dl (hf3.ext he4).ints hn4.ints (by rw[M.negL_len,List.length_replicate];omega) (by rw[List.length_replicate];omega) (SnL.fill _) hxs.neg (Sn.of (by decide) (by decide)) fun w5 cs5 st5 rv zs he5 hk5 hr5 hnr5 hz5 ho5=>?_
  simp only[push_cast,true_and]
  exact h4.res he5 hk5 (kc hr5 hnr5) fun w6 e6 hk6 hz6=>hK w6 cs5 st5 rv zs e6 hk6 hz6 hz5 ho5
theorem swap_get (xs ys:List Int) (h:xs.length=ys.length) (h1:1≤xs.length):xs.take (xs.length-1)++[ys.getD (xs.length-1) 0]=M.swapT xs ys:=by
 unfold M.swapT
 refine List.ext_getElem (by simp;omega) fun i hi1 hi2=>?_
 rw[List.getElem_set]
 by_cases c:xs.length-1=i
 ·subst c
  rw[if_pos rfl,List.getElem_append_right (by simp)]
  simp
 ·have hi3:i<xs.length:=by simpa using hi2
  rw[if_neg c,List.getElem_append_left (by simp;omega),List.getElem_take]
theorem cut_app {w0:World} {vx:Value} {zs:List Int} {x:Int} {b7:Nat} {t0:TypeId} (h0:Ext w0 w) (hx:Ints Fx w vx zs) (hz:zs.length≤1000) (hB:Blk w b7 [.int .i64 x] t0) (hb7:w0.heap.size≤b7) (ho:OwnI PP zg w v []) (hv:∀b,v.ownBlock=some b→w0.heap.size≤b∧b≠b7)
  (hK:∀w' v',Ext w0 w'→OwnI PP zg w' v' (zs++[x])→(∀b,v'.ownBlock=some b→w0.heap.size≤b)→K v' w'):
  vbi PP .append [zg,zg] zg [v,vx] w fun t w1=>vbi PP .append [zg,zg] zg [t,.slice (some ⟨b7,0,none⟩) 1 1] w1 K:=by
 have s0:=h0.size
 refine ho.app kB hx (by simp;omega) (by simp;omega) fun v2 w2 ho2 hs2 hn2=>?_
 have s2:=hs2.size
 refine OwnI.app1 ho2 kB (hB.same hs2 fun e=>(hv _ e).2 rfl) (by simp;omega) (by simp;omega) fun v3 w3 ho3 hs3 hn3=>?_
 have e2:Ext w0 w2:=Ext.then h0 hs2 fun b hb=>(hv b hb).1
 have hv2:∀b,v2.ownBlock=some b→w0.heap.size≤b:=fun b hb=>(hn2 b hb).elim (fun h=>(hv b h).1) fun h=>by omega
 exact hK w3 v3 (Ext.then e2 hs3 fun b hb=>hv2 b hb) (by simpa using ho3) fun b hb=>(hn3 b hb).elim (hv2 b) fun h=>by omega
theorem top_region {J:List Value→World→Prop} (hx:Ints Fx w xv xs) (hy:Ints Fy w yv ys) (hl:xs.length=ys.length) (h1:1≤xs.length) (h8:xs.length≤8) (hJ:∀w' r,Ext w w'→OwnI PP zg w' r (M.swapT xs ys)→(∀b,r.ownBlock=some b→w.heap.size≤b)→J [r] w'):
  y1 w fun w_20=>
    yp PP zg xv none (some (.int .i64 ((xs.length-1:Nat):Int))) none w_20 fun t36 w_21=>w_21=w_20∧
    zm PP zg yv (.int .i64 ((xs.length-1:Nat):Int)) w_20 fun t40 w_22=>w_22=w_20∧
    ze PP zc t40 w_20 fun t41 w_23=>w_23=w_20∧
    (vbuildS PP zg 0 [] w_20 fun t33 w_24=>(ze PP zc t40 w_24 fun v x=>v=t41∧x=w_24)∧(zm PP zg yv (.int .i64 ((xs.length-1:Nat):Int)) w_24 fun v x=>v=t40∧x=w_24)∧(yp PP zg xv none (some (.int .i64 ((xs.length-1:Nat):Int))) none w_24 fun v x=>v=t36∧x=w_24)∧
     (vbi PP .append [zg,zg] zg [t33,t36] w_24 fun t37 w_25=>(ze PP zc t40 w_25 fun v x=>v=t41∧x=w_25)∧(zm PP zg yv (.int .i64 ((xs.length-1:Nat):Int)) w_25 fun v x=>v=t40∧x=w_25)∧
      (vbuildS PP zg 1 [(0,t41)] w_25 fun t42 w_26=>
       (vbi PP .append [zg,zg] zg [t37,t42] w_26 fun t43 w_27=>
        J [t43] w_27)∧
       True)∧
      True)∧
     (vbuildS PP zg 1 [(0,t41)] w_24 fun t42_1 w_28=>(yp PP zg xv none (some (.int .i64 ((xs.length-1:Nat):Int))) none w_28 fun v x=>v=t36∧x=w_28)∧
      (vbi PP .append [zg,zg] zg [t33,t36] w_28 fun t37_1 w_29=>
       (vbi PP .append [zg,zg] zg [t37_1,t42_1] w_29 fun t43_1 w_30=>
        J [t43_1] w_30)∧
       True)∧
      True)∧
     True)∧
    (vbuildS PP zg 1 [(0,t41)] w_20 fun t42_2 w_31=>(yp PP zg xv none (some (.int .i64 ((xs.length-1:Nat):Int))) none w_31 fun v x=>v=t36∧x=w_31)∧
     (vbuildS PP zg 0 [] w_31 fun t33_1 w_32=>(yp PP zg xv none (some (.int .i64 ((xs.length-1:Nat):Int))) none w_32 fun v x=>v=t36∧x=w_32)∧
      (vbi PP .append [zg,zg] zg [t33_1,t36] w_32 fun t37_2 w_33=>
       (vbi PP .append [zg,zg] zg [t37_2,t42_2] w_33 fun t43_2 w_34=>
        J [t43_2] w_34)∧
       True)∧
      True)∧
     True)∧
    True:=by
 refine zu fun w2 he2 _=>?_
 have sl:∀(w':World) (K:Value→World→Prop),Ext w w'→yp PP zg xv none (some (.int .i64 ((xs.length-1:Nat):Int))) none w' K=K (cutV xv (xs.length-1)) w':=fun w' K he=>by
  have hx':=Ints.ext hx he
  exact propext ⟨fun h=>by rwa[Sl.cut hx' (Sl.base hx' (by simp;intro h;rw[h] at h1;simp at h1)) KQ (by simp)] at h,fun h=>by rwa[Sl.cut hx' (Sl.base hx' (by simp;intro h;rw[h] at h1;simp at h1)) KQ (by simp)]⟩
 have ia:∀(w':World) (K:Value→World→Prop),zm PP zg yv (.int .i64 ((xs.length-1:Nat):Int)) w' K=K (.pointer (some (eaddr yv 1 (xs.length-1)))) w':=fun w' K=>by
  rw[hy.iaddr KQ (by omega) (by omega),Int.toNat_natCast]
 have ld:∀(w':World) (K:Value→World→Prop),Ext w w'→ze PP zc (.pointer (some (eaddr yv 1 (xs.length-1)))) w' K=K (.int .i64 (ys.getD (xs.length-1) 0)) w':=fun w' K he=>(Ints.ext hy he).load jj0 (by omega)
 have hc:∀w',Ext w w'→Ints Fx w' (cutV xv (xs.length-1)) (xs.take (xs.length-1)):=fun w' he=>by
  have:=Sl.taken (Ints.ext hx he) (n:=xs.length-1) (by simp)
  unfold Ints Vals;rw[List.map_take,List.map_take];exact this
 have hlc:(xs.take (xs.length-1)).length≤1000:=by rw[List.length_take];omega
 have s2:=he2.size
 simp only[sl _ _ he2,ia,ld _ _ he2,true_and,and_true]
 refine⟨?_,?_⟩
 ·refine spec_nil fun v3 w3 ho3 e3 hn3=>?_
  have e23:=he2.trans e3
  simp only[sl _ _ e23,ld _ _ e23,true_and,and_true,and_self]
  refine⟨?_,?_⟩
  ·refine ho3.app kB (hc _ e23) (by simp;omega) (by simp;omega) fun v4 w4 ho4 hs4 hn4=>?_
   have e24:Ext w w4:=Ext.then e23 hs4 fun b hb=>by have:=hn3 b hb;omega
   have s3:=e3.size
   simp only[ld _ _ e24,true_and,and_true,and_self]
   refine spec_app (w0:=w) e24 ho4 (fun b hb=>(hn4 b hb).elim (fun h=>by have:=hn3 b h;omega) fun h=>by omega) (by simp;omega) fun v5 w5 ho5 e5 hn5=>?_
   refine hJ w5 v5 e5 ?_ hn5
   rw[←swap_get xs ys hl h1];simpa using ho5
  ·refine yb Zj jT Ze rfl rfl fun b7 w7 hb7 he7 hz7 hB7=>?_
   have s3:=e3.size
   simp only[sl _ _ (e23.trans he7),true_and,and_true,and_self]
   refine cut_app (w0:=w) (e23.trans he7) (hc _ (e23.trans he7)) hlc hB7 (by omega) (ho3.ext he7) (fun b hb=>by have:=hn3 b hb;have:=ho3.lt hb;omega) fun w8 v8 e8 ho8 hn8=>?_
   refine hJ w8 v8 e8 ?_ hn8
   rw[←swap_get xs ys hl h1];exact ho8
 ·refine yb Zj jT Ze rfl rfl fun b7 w7 hb7 he7 hz7 hB7=>?_
  have e27:=he2.trans he7
  simp only[sl _ _ e27,true_and,and_true,and_self]
  refine spec_nil fun v3 w3 ho3 e3 hn3=>?_
  simp only[sl _ _ (e27.trans e3),true_and,and_true,and_self]
  refine cut_app (w0:=w) (e27.trans e3) (hc _ (e27.trans e3)) hlc (hB7.ext e3) (by omega) ho3 (fun b hb=>by have:=hn3 b hb;omega) fun w8 v8 e8 ho8 hn8=>?_
  refine hJ w8 v8 e8 ?_ hn8
  rw[←swap_get xs ys hl h1];exact ho8
theorem swap_sn (hx:SnL st xs) (hy:SnL st ys) (hl:xs.length=ys.length) (h1:1≤xs.length):SnL st (M.swapT xs ys):=hx.set (hy.get (by omega))
theorem yr0 (xs ys:List Int):(M.swapT xs ys).length=xs.length:=List.length_set ..
theorem scmp7_spec {op:Int} (h15:15≤op) (h17:op≤17) (hn:n≤8) (hk:MkR n D w cs st) (hD:∀b,D b→b<w.heap.size) (hx:Ints Fx w xv xs) (hy:Ints Fy w yv ys) (hl:xs.length=ys.length) (hx1:1≤xs.length) (h8:xs.length≤8) (hxs:SnL st xs) (hys:SnL st ys)
  (hK:∀w' cs' st' r,Ext w w'→MkR n D w' cs' st'→Sn st' r→M.Bd.Out n (M.cmpB op xs ys) st st' r→K (.tuple #[.agg ⟨cs'⟩,.int .i64 r]) w'):
  vcall PP XM #[.agg ⟨cs⟩,.int .i64 op,xv,yv] w K:=by
 apply xT0;unfold WB
 refine Fm.start hk hD fun b4 b8 w1 h1=>?_
 have hx0:=Ints.ext (Ints.under hx) h1.ext;have hy0:=Ints.ext (Ints.under hy) h1.ext
 unfold M.cmpB at hK
 obtain⟨c1,hk1,hld1⟩:=h1.call
 simp only[push_cast]
 refine zh (fun c=>?_) (fun c5=>?_)
 ·rw[if_pos c] at hK
  simp only[hld1 w1 (Same.refl _ _)]
  refine ssame7_spec hn hk1 h1.dl hx0 hy0 (by omega) (by omega) hxs hys fun w2 cs2 st2 r he2 hk2 hr2 ho2=>?_
  simp only[push_cast]
  exact h1.out he2 hk2 fun w3 e3 hk3 hs3=>hK w3 cs2 st2 r e3 hk3 hr2 ho2
 rw[if_neg c5] at hK
 try simp only[push_cast]
 refine zh (fun c=>?_) (fun c6=>?_)
 ·rw[if_pos c] at hK
  simp only[hld1 w1 (Same.refl _ _)]
  refine sless7_spec hn hk1 h1.dl hx0 hy0 (by omega) (by omega) hxs hys fun w2 cs2 st2 r he2 hk2 hr2 ho2=>?_
  simp only[push_cast]
  exact h1.out he2 hk2 fun w3 e3 hk3 hs3=>hK w3 cs2 st2 r e3 hk3 hr2 ho2
 rw[if_neg c6] at hK
 rw[hx0.len Y10]
 simp(disch:=omega) only[push_cast,zA]
 rw[show((xs.length:Int)-1)=((xs.length-1:Nat):Int) by omega]
 refine zU (fun u w'=> ∃r,u=[r]∧Ext w1 w'∧OwnI PP zg w' r (M.swapT xs ys)) ?_ ?_
 ·intro J hJ
  exact top_region hx0 hy0 hl hx1 (by omega) fun w' r he ho hn=>hJ _ _ ⟨r,rfl,he,ho⟩
 rintro _ _ w2 ⟨av,rfl,e2,ha2⟩
 refine zU (fun u w'=> ∃r,u=[r]∧Ext w2 w'∧OwnI PP zg w' r (M.swapT ys xs)) ?_ ?_
 ·intro J hJ
  rw[hl]
  exact top_region (Ints.ext hy0 e2) (Ints.ext hx0 e2) hl.symm (by omega) (by omega) fun w' r he ho hn=>hJ _ _ ⟨r,rfl,he,ho⟩
 rintro _ _ w3 ⟨bv,rfl,e3,hb3⟩
 have e13:=e2.trans e3
 try simp only[push_cast]
 simp only[hld1 w3 e13]
 refine sless7_spec hn (hk1.ext e13 fun _ h _=>h) (h1.grow e13).dl (ha2.ext e3).ints hb3.ints (by rw[yr0,yr0];omega) (by rw[yr0];omega) (swap_sn hxs hys hl hx1) (swap_sn hys hxs hl.symm (by omega)) fun w4 cs4 st4 r he4 hk4 hr4 ho4=>?_
 simp only[push_cast]
 exact(h1.grow e13).out he4 hk4 fun w5 e5 hk5 hs5=>hK w5 cs4 st4 r e5 hk5 hr4 ho4
theorem fresh6_spec {o:Option Addr} {l c:Nat} (hg:GatesR Fx w (.slice o l c) gs) (hl:gs.length≤1000) (hK:∀w' o' c',Ext w w'→OwnG w' (.slice o' gs.length c') gs→(∀b,(Value.slice o' gs.length c').ownBlock=some b→w.heap.size≤b)→K (.agg ⟨[.int .i64 n,.slice o' gs.length c']⟩) w'):
  vcall PP Yf #[.agg ⟨[.int .i64 n,.slice o l c]⟩] w K:=by
 apply zB0;unfold Jv
 refine zy fun b1 w1 hb1 he1 hz1 hB1=>?_
 refine zC xH fun b2 w2 hb2 he2 hz2 hB2=>?_
 refine zu fun w3 he3 _=>?_
 have e23:=he2.trans he3
 have hB13:=hB1.ext e23
 simp(disch:=first|(simp only[push_cast];done)|omega) only[push_cast,hB13.ld0,hB13.ld1,true_and]
 refine qd jp YS fun b4 w4 hb4 he4 hz4 hB4=>?_
 have hB14:=hB13.ext he4
 simp(disch:=first|(simp only[push_cast];done)|omega) only[push_cast,hB14.ld0,hB14.ld1,true_and,and_self]
 have hown:Own PP 0 3 zk w4 (.slice (some ⟨b4,0,none⟩) 0 0) []:=Blk.ownk (css:=[]) (by rw[Xh];exact hB4) (fun x hx=>by cases hx) rfl (by omega)
 have e04:=he1.trans (e23.trans he4)
 refine vappend (bs:=24) qN (by decide) hown (Sl.ext hg e04) (gone gs) (by omega) (by rw[List.length_map];simp;omega) (by rw[List.length_map];simp;omega) fun v5 w5 ho5 hs5 hn5=>?_
 have z1:=he1.size;have z2:=he2.size;have z3:=he3.size
 have e45:Ext w w5:=Ext.then e04 hs5 fun b hb=>by have e:b4=b:=Option.some.inj hb;omega
 have hB15:=hB14.same hs5 fun e=>by have e:b4=b1:=Option.some.inj e;omega
 obtain⟨o5,c5,hv5,_⟩:=(Own.sl ho5).shape
 subst hv5
 simp(disch:=first|(simp only[push_cast];done)|omega) only[push_cast,hB15.ld0,true_and,and_self,j60]
 have hB25:=((hB2.ext he3).ext he4).same hs5 fun e=>by have e:b4=b2:=Option.some.inj e;omega
 refine net_out hB25 rfl rfl net_one fun w6 hs6=>?_
 have hlen:([]++gs.map yu).length=gs.length:=by simp
 have hn5':∀b,(Value.slice o5 ([]++gs.map yu).length c5).ownBlock=some b→b4≤b:=fun b hb=>(hn5 b hb).elim (fun h=>by have e:b4=b:=Option.some.inj h;omega) fun h=>by omega
 have ho6:=Own.same ho5 hs6 fun b hb e=>by have:=hn5' b hb;omega
 rw[hlen] at ho6 hn5'⊢
 exact hK w6 o5 c5 (Ext.then e45 hs6 fun b hb=>by omega) ho6 fun b hb=>by have:=hn5' b hb;omega
def toldR (n:Nat) (st:Option M.Gs) (zs:List Int):Nat×M.Gs×List Int:=match st with
 |some gs=>(n,gs,zs)
 |none=>(0,[],[])
theorem told7_spec {zs:List Int} {rv:Value} (hk:MkR n D w cs st) (hz:Ints Fx w rv zs) (h8:zs.length≤8)
  (hK:∀w' o c lv,Ext w w'→OwnG w' (.slice o (toldR n st zs).2.1.length c) (toldR n st zs).2.1→OwnI PP zg w' lv (toldR n st zs).2.2→(∀b,(Value.slice o (toldR n st zs).2.1.length c).ownBlock=some b→w.heap.size≤b)→(∀b,lv.ownBlock=some b→w.heap.size≤b∧(Value.slice o (toldR n st zs).2.1.length c).ownBlock≠some b)→K (.tuple #[.agg ⟨[.int .i64 (toldR n st zs).1,.slice o (toldR n st zs).2.1.length c]⟩,lv]) w'):
  vcall PP X1 #[.agg ⟨cs⟩,rv] w K:=by
 apply yV0;unfold Vj
 refine zy fun b1 w1 hb1 he1 hz1 hB1=>?_
 refine zC xH fun b2 w2 hb2 he2 hz2 hB2=>?_
 have hB12:=hB1.ext he2
 have e2:=he1.trans he2
 have z1:=he1.size;have z2:=he2.size
 cases st with
 |none=>
  have hcs:cs=[.int .i64 0,.slice none 0 0,.bool false]:=hk
  subst hcs
  simp(disch:=first|(simp only[push_cast];done)|omega) only[push_cast,hB12.ld2,Bool.not_false,za0]
  refine spec_nil fun v3 w3 ho3 e3 hn3=>?_
  refine net_out (hB2.ext e3) rfl rfl net_one fun w4 hs4=>?_
  refine hK w4 none 0 v3 (Ext.then (e2.trans e3) hs4 fun b hb=>by omega) OwnG.nil (ho3.same hs4 fun b hb e=>by have:=hn3 b hb;omega) (fun b hb=>by cases hb) fun b hb=>⟨by have:=hn3 b hb;omega,fun h=>by cases h⟩
 |some gs=>
  obtain⟨o,l,c,rfl,hg,hl⟩:=hk
  have hnet:ze PP zf (.pointer (some ⟨b1,0,none⟩)) w2=fun K=>K (.agg ⟨[.int .i64 n,.slice o l c]⟩) w2:=by
   funext K;exact Blk.ldTake (us:=[.int .i64 n,.slice o l c]) (r:=[.bool true]) hB12 y4
  simp(disch:=first|(simp only[push_cast];done)|omega) only[push_cast,hB12.ld2,Bool.not_true,x8,Nat.add_zero,hnet]
  refine fresh6_spec (Sl.ext hg e2) (by omega) fun w3 o3 c3 e3 ho3 hn3=>?_
  refine spec_nil fun v4 w4 ho4 e4 hn4=>?_
  refine ho4.app kB (Ints.ext hz (e2.trans (e3.trans e4))) (by simp;omega) (by simp;omega) fun v5 w5 ho5 hs5 hn5=>?_
  have z3:=e3.size;have z4:=e4.size
  have e45:Ext w3 w5:=Ext.then e4 hs5 fun b hb=>hn4 b hb
  have hB25:=(hB2.ext e3).ext e45
  refine net_out hB25 rfl rfl net_one fun w6 hs6=>?_
  have hv5:∀b,v5.ownBlock=some b→w3.heap.size≤b:=fun b hb=>(hn5 b hb).elim (hn4 b) fun h=>by omega
  refine hK w6 o3 c3 v5 (Ext.then (e2.trans (e3.trans e45)) hs6 fun b hb=>by omega) ((Own.ext ho3 e45).same hs6 fun b hb e=>by have:=hn3 b hb;omega) (show OwnI PP zg w6 v5 zs by simpa using ho5.same hs6 fun b hb e=>by have:=hv5 b hb;omega) (fun b hb=>by have:=hn3 b hb;omega) fun b hb=>⟨by have:=hv5 b hb;omega,fun h=>by have:=(Own.lt ho3 h).2;have:=hv5 b hb;omega⟩
end Go.Proofs.YtaekfnbnhjgboaaGreatDoor
end
