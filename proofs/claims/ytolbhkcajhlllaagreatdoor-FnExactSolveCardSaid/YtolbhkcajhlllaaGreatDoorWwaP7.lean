import Derived.Test.YtolbhkcajhlllaaGreatDoorWwaP6
/- A part of the proof. -/
set_option linter.all false
set_option maxRecDepth 9999
set_option maxHeartbeats 2000000
noncomputable section
namespace Go.Proofs.YtolbhkcajhlllaaGreatDoor
open Go Go.Vc Go.Proofs
section
variable {w:World} {K:oK} {D F Y S:Nat->Prop} {n b8:Nat} {gs:M.Gs} {v nv:Value} {cs cs':List Value} {a b m:Int}
def NetO (n:Nat) (D:Nat->Prop) (w:World) (gs:M.Gs) (m:Int) (cs:List Value):Prop:=
 if m=0 then cs=[nI 0,.slice none 0 0] else ∃o l c,cs=[nI n,.slice o l c]/\GOff D w (.slice o l c) gs/\gs.length<=600
theorem NetO.form (h:NetO n D w gs m cs):∃(x:Int) (o:Option Addr) (l c:Nat),cs=[nI x,.slice o l c]:=by
 unfold NetO at h;split at h
 ·exact⟨_,_,_,_,h⟩
 ·obtain⟨o,l,c,e,_⟩:=h;exact⟨_,_,_,_,e⟩
theorem NetO.len (h:NetO n D w gs m cs):cs.length=2:=by obtain⟨x,o,l,c,rfl⟩:=h.form;rfl
theorem NetO.one (h:NetO n D w gs m cs):∀u,u∈cs->u.oneCell'=true:=by obtain⟨x,o,l,c,rfl⟩:=h.form;exact net_one
theorem NetO.same {w':World} (h:NetO n D w gs m cs) (hw:Same S w w') (f:∀b,S b->D b):NetO n D w' gs m cs:=by
 unfold NetO at h⊢;by_cases hm:m=0
 ·rw[if_pos hm] at h⊢;exact h
 ·rw[if_neg hm] at h⊢;obtain⟨o,l,c,e,a,d⟩:=h;exact⟨o,l,c,e,a.swap hw f λb g _=>g,d⟩
theorem NetO.weak {Y:Nat->Prop} (h:NetO n D w gs m cs) (f:∀b,Y b->D b):NetO n Y w gs m cs:=by
 unfold NetO at h⊢;by_cases hm:m=0
 ·rw[if_pos hm] at h⊢;exact h
 ·rw[if_neg hm] at h⊢;obtain⟨o,l,c,e,a,d⟩:=h;exact⟨o,l,c,e,Sl.weaken a λb g _ i=>g (f b i),d⟩
theorem NetO.put {f:Nat} {a:Value} (d:GOff D w a (if m=0 then[] else gs)) (b:f=if m=0 then 0 else n) (g:m=0->a= .slice none 0 0) (h:gs.length<=600):NetO n D w gs m [nI (f:Nat),a]:=by
 unfold NetO;by_cases c:m=0
 ·rw[if_pos c] at b⊢;rw[b,g c];rfl
 ·rw[if_neg c] at d b⊢;obtain⟨o,c',e,_⟩:=d.shape;exact⟨o,_,c',by rw[b,e],by rw[<-e];exact d,h⟩
theorem NetO.of {o:Option Addr} {l c:Nat} (h:GOff D w (.slice o l c) gs) (a:gs.length<=600) (hm:m≠0):NetO n D w gs m [nI n,.slice o l c]:=by
 unfold NetO;rw[if_neg hm];exact⟨o,l,c,rfl,h,a⟩
theorem put_len {g:M.Gt} (h:gs.length<=600):(M.putG n gs g).1.length<=600:=by
 unfold M.putG;split
 ·exact h
 ·split
  ·exact h
  ·rw[y3,gO];omega
theorem l4Abs_sm (c:Sm a) (b:K (nI (M.absI a)) w):vcall kj #[nI a] w K:=by
 refine zg {} Tryz.func213 ?_;unfold M.absI at b;simp only[push_cast];refine zb (λh=>?_) (λh=>?_)
 ·rw[if_pos h] at b;simp(disch:=omega) only[push_cast,zk,gG];exact b
 ·rw[if_neg h] at b;exact b
theorem x10 (x y:Int):yz zn [(1,nI x),(2,nI y)] w K=K (.agg ⟨yj ⟨false,x,y⟩⟩) w:=zV Ze (us:=[[nI x],[nI y]]) rfl rfl
theorem kQ0 (x y:Int):yz zn [(0,.bool true),(1,nI x),(2,nI y)] w K=K (.agg ⟨yj ⟨true,x,y⟩⟩) w:=zV Ze (us:=[[.bool true],[nI x],[nI y]]) rfl rfl
theorem net_out {b2:Nat} {a:List Value} (e:Blk w b2 a zw) (g:a.length=2) (c:cs.length=2) (d:∀u,u∈cs->u.oneCell'=true) (f:∀w',Same (· =b2) w w'->K (.agg ⟨cs⟩) w'):
  zR zw (oP b2 0) (.agg ⟨cs⟩) w λ_ w1=>vlv zw (oP b2 0) w1 K:=by
 refine e.stAgg (cs':=cs) oM (by rw[c];exact zZ) d λw1 hs h b=>?_;rw[b.lv (t:=zw) (by rw[c];exact zZ)];exact f w1 hs
theorem sand6_spec (hn:n<=8) (L:GOff D w nv gs) (l:gs.length<=600) (hD:∀b,D b->b<w.heap.size) (ha:Sm a) (d:Sm b) (R:a≠0) (S:b≠0)
  (I:∀w' cs,Ext w w'->NetO n D w' (M.andG n gs a b).1 (M.andG n gs a b).2 cs->K (.tuple #[.agg ⟨cs⟩,nI (M.andG n gs a b).2]) w'):
  vcall zi0 #[.agg ⟨[nI n,nv]⟩,nI a,nI b] w K:=by
 refine zg {cuts:=[(8201,[]),(8194,[8]),(16388,[22])]} Tryz.func178 ?_;obtain⟨go,gc,U,_⟩:=L.shape;rw[U] at L⊢;refine zj λb1 w1 a0 r a2 O=>?_;refine zi qT λb2 w2 a1 j a3 p=>?_;have N:=r.trans j;have o:=O.ext j;have f:∀K:oK,zu zw (oP b1 0) w2 K=K (.agg ⟨[nI n,.slice go (gs.map yj).length gc]⟩) w2:=λK=>o.ldAgg (t:=zw) zZ;have z1:=r.size;have z2:=j.size;have same:∀(x:Int),x≠0->(M.andG n gs a b)=(gs,x)->∀w':World,w'=w2->zR zw (oP b2 0) (.agg ⟨[nI n,.slice go (gs.map yj).length gc]⟩) w' λ_ A=>vlv zw (oP b2 0) A λr6 B=>K (.tuple #[r6,(nI x)]) B:=λx hx e w' ew=>by
  subst ew;rw[e] at I;refine net_out p rfl rfl net_one λm X=>?_;have e3:Ext w m:=Ext.then N X λy Y=>by subst Y;omega
  exact I m _ e3 (NetO.of (Sl.ext L e3) l hx)
 have V:GatesR (λb=> ¬D b/\b<w.heap.size) w (.slice go (gs.map yj).length gc) gs:=Sl.weaken L λb d l=>⟨d,l⟩;have put:∀g:M.Gt,(M.andG n gs a b)=M.putG n gs g->vcall QU #[.agg ⟨[nI n,.slice go (gs.map yj).length gc]⟩,.agg ⟨yj g⟩] w2 λt47 C=>xU t47 0 C λt48 E=>xU t47 1 E λt49 F=>
   zR zw (oP b2 0) t48 F λ_ G=>vlv zw (oP b2 0) G λz H=>K (.tuple #[z,t49]) H:=λg e=>by
  rw[e] at I;refine sput_spec (D:=λb=>D b\/b=b2) hn (Sl.weaken (Sl.ext V N) λb d l hd=>hd.elim d.1 λe=>by have:=d.2;omega) l (λb d=>d.elim (λh=>by have:=hD b h;omega) λh=>oM) λm n' a4 s T W Z=>?_;simp only[push_cast];have Q:=NetO.put T W Z (put_len l);refine net_out (p.ext s) rfl Q.len Q.one λw4 v=>?_;exact I w4 _ (Ext.then (N.trans s) v λy Y=>by subst Y;omega) ((Q.same v λb d=> .inr d).weak λb d=> .inl d)
 unfold Sm at ha d;refine zq (λu w'=>u=[]/\w'=w2/\M.andG n gs a b=M.putG n gs ⟨false,a,b⟩) ?_ ?_
 ·intro J hJ;refine zq (λu w'=>u=[.bool (decide (a= -1\/b= -1\/a= -b))]/\w'=w2) ?_ ?_
  ·intro J1 i;simp only[push_cast];refine zb (λc=>i _ _ ⟨by rw[decide_eq_true (.inl c)],rfl⟩) (λc=>?_)
   try simp only[push_cast]
   refine zb (λc2=>i _ _ ⟨by rw[decide_eq_true (.inr (.inl c2))],rfl⟩) (λc2=>?_);simp(disch:=omega) only[push_cast,zk,gG];refine i _ _ ⟨?_,rfl⟩;rw[decide_eq_decide.2 (show(a= -1\/b= -1\/a= -b)↔a= -b from⟨λh=>h.elim (λh=>absurd h c) λh=>h.elim (λh=>absurd h c2) id,λh=> .inr (.inr h)⟩)]
  rintro _ _ m ⟨rfl,rfl⟩;simp only[push_cast];refine zb (λc=>?_) (λc=>?_)
  ·rw[f];refine same (-1) dC ?_ _ rfl;unfold M.andG;by_cases c1:a= -1\/b= -1
   ·rw[if_pos c1]
   ·rw[if_neg c1];have c2:a= -b:=c.elim (λh=>absurd (.inl h) c1) λh=>h.elim (λh=>absurd (.inr h) c1) id;rw[if_neg oM,if_neg oM];by_cases c3:a=b
    ·exfalso;omega
    ·rw[if_neg c3,if_pos c2]
  refine zq (λu w'=>u=[.bool (decide (a=1\/a=b))]/\w'=m) ?_ ?_
  ·intro J2 q
   try simp only[push_cast]
   refine zb (λc=>q _ _ ⟨by rw[decide_eq_true (.inl c)],rfl⟩) (λc2=>?_)
   try simp only[push_cast]
   refine q _ _ ⟨?_,rfl⟩;rw[decide_eq_decide.2 (show(a=1\/a=b)↔a=b from⟨λh=>h.elim (λh=>absurd h c2) id,.inr⟩)]
  rintro _ _ w4 ⟨rfl,rfl⟩;have c1: ¬(a= -1\/b= -1):=λh=>c (h.elim .inl λh=> .inr (.inl h));simp only[push_cast];refine zb (λc2=>?_) (λc2=>?_)
  ·rw[f];refine same b S ?_ _ rfl;unfold M.andG;rw[if_neg c1];by_cases c3:a=1
   ·rw[if_pos c3]
   ·have k:a=b:=c2.elim (λh=>absurd h c3) id;rw[if_neg c3];by_cases c5:b=1
    ·omega
    ·rw[if_neg c5,if_pos k,k]
  try simp only[push_cast]
  refine zb (λc3=>?_) (λc3=>?_)
  ·rw[f];refine same a R ?_ _ rfl;unfold M.andG;rw[if_neg c1,if_neg (λh=>c2 (.inl h)),if_pos c3]
  have hand:M.andG n gs a b=M.putG n gs (M.gateA a b):=by
   unfold M.andG;rw[if_neg c1,if_neg (λh=>c2 (.inl h)),if_neg c3,if_neg (λh=>c2 (.inr h)),if_neg (λh=>c (.inr (.inr h)))]
  refine l4Abs_sm ha (l4Abs_sm d ?_)
  try simp only[push_cast]
  unfold M.gateA at hand;refine zb (λk=>?_) (λk=>?_)
  ·rw[if_pos k] at hand;rw[f,x10];exact put _ hand
  ·rw[if_neg k] at hand;exact hJ _ _ ⟨rfl,rfl,hand⟩
 rintro _ _ m ⟨rfl,rfl,hp⟩;rw[f,x10];exact put _ hp
theorem sxor6_spec (hn:n<=8) (Q:GOff D w nv gs) (z:gs.length<=600) (hD:∀b,D b->b<w.heap.size) (W:Sm a) (j:Sm b) (a6:a≠0) (a7:b≠0)
  (O:∀w' cs,Ext w w'->NetO n D w' (M.xorG n gs a b).1 (M.xorG n gs a b).2 cs->K (.tuple #[.agg ⟨cs⟩,nI (M.xorG n gs a b).2]) w'):
  vcall zg0 #[.agg ⟨[nI n,nv]⟩,nI a,nI b] w K:=by
 refine zg {cuts:=[(8201,[]),(8194,[13]),(16388,[25]),(45068,[8]),(53262,[8]),(69651,[9,10])]} Tryz.func215 ?_;obtain⟨go,gc,Z,_⟩:=Q.shape;rw[Z] at Q⊢;refine zj λb1 w1 a8 H ad T=>?_;refine zi qT λb2 w2 a9 s ae F=>?_;have R:=H.trans s;have E:=T.ext s;have o:∀K:oK,zu zw (oP b1 0) w2 K=K (.agg ⟨[nI n,.slice go (gs.map yj).length gc]⟩) w2:=λK=>E.ldAgg (t:=zw) zZ;have z1:=H.size;have z2:=s.size;have same:∀(x:Int),x≠0->(M.xorG n gs a b)=(gs,x)->∀w':World,w'=w2->zR zw (oP b2 0) (.agg ⟨[nI n,.slice go (gs.map yj).length gc]⟩) w' λ_ I=>vlv zw (oP b2 0) I λr6 L=>K (.tuple #[r6,(nI x)]) L:=λx hx e w' ew=>by
  subst ew;rw[e] at O;refine net_out F rfl rfl net_one λC a2=>?_;have e3:Ext w C:=Ext.then R a2 λy B=>by subst B;omega
  exact O C _ e3 (NetO.of (Sl.ext Q e3) z hx)
 have a0:GatesR (λb=> ¬D b/\b<w.heap.size) w (.slice go (gs.map yj).length gc) gs:=Sl.weaken Q λb j z=>⟨j,z⟩;have absN:∀a:Int,M.absI a=(a.natAbs:Int):=λa=>by unfold M.absI;split<;>omega
 have na:=absN a;have nb:=absN b;unfold Sm at W j;refine zq (λu w'=>u=[]/\w'=w2/\M.xorG n gs a b=((M.putG n gs (M.gateX a b)).1,M.turnI (decide (a<0) != decide (b<0)) (M.putG n gs (M.gateX a b)).2)) ?_ ?_
 ·intro J hJ;refine zq (λu w'=>u=[.bool (decide (a=1\/a= -1))]/\w'=w2) ?_ ?_
  ·intro N i;simp only[push_cast];refine zb (λc=>i _ _ ⟨by rw[decide_eq_true (.inl c)],rfl⟩) (λc=>?_)
   try simp only[push_cast]
   refine i _ _ ⟨?_,rfl⟩;rw[decide_eq_decide.2 (show(a=1\/a= -1)↔a= -1 from⟨λh=>h.elim (λh=>absurd h c) id,.inr⟩)]
  rintro _ _ C ⟨rfl,rfl⟩;simp only[push_cast];refine zb (λc=>?_) (λc=>?_)
  ·rw[o];have e:M.xorG n gs a b=(gs,-a*b):=by
    unfold M.xorG;rcases c with rfl|rfl
    ·rw[if_pos dC];simp[M.turnI]
    ·rw[if_pos dC];simp[M.turnI]
   have hm:(-a*b).natAbs=b.natAbs:=by rcases c with rfl|rfl<;>simp
   have k: -a*b≠0:=oM;simp(disch:=omega) only[push_cast,zk,gG];exact same (-a*b) k e _ rfl
  refine zq (λu w'=>u=[.bool (decide (b=1\/b= -1))]/\w'=C) ?_ ?_
  ·intro N i
   try simp only[push_cast]
   refine zb (λc=>i _ _ ⟨by rw[decide_eq_true (.inl c)],rfl⟩) (λc=>?_)
   try simp only[push_cast]
   refine i _ _ ⟨?_,rfl⟩;rw[decide_eq_decide.2 (show(b=1\/b= -1)↔b= -1 from⟨λh=>h.elim (λh=>absurd h c) id,.inr⟩)]
  rintro _ _ w4 ⟨rfl,rfl⟩;simp only[push_cast];have c1: ¬M.absI a=1:=oM;refine zb (λd=>?_) (λd=>?_)
  ·rw[o];have e:M.xorG n gs a b=(gs,-b*a):=by
    unfold M.xorG;rw[if_neg c1];rcases d with rfl|rfl
    ·rw[if_pos dC];simp[M.turnI]
    ·rw[if_pos dC];simp[M.turnI]
   have hm:(-b*a).natAbs=a.natAbs:=by rcases d with rfl|rfl<;>simp
   have k: -b*a≠0:=oM;simp(disch:=omega) only[push_cast,zk,gG];exact same (-b*a) k e _ rfl
  have c2: ¬M.absI b=1:=oM
  try simp only[push_cast]
  refine zb (λf=>?_) (λf=>?_)
  ·rw[o];exact same (-1) dC (by unfold M.xorG;rw[if_neg c1,if_neg c2,if_pos f]) _ rfl
  try simp(disch:=omega) only[push_cast,zk,gG]
  refine zb (λf2=>?_) (λf2=>?_)
  ·rw[o];exact same 1 dC (by unfold M.xorG;rw[if_neg c1,if_neg c2,if_neg f,if_pos f2]) _ rfl
  exact hJ _ _ ⟨rfl,rfl,by unfold M.xorG;rw[if_neg c1,if_neg c2,if_neg f,if_neg f2]⟩
 rintro _ _ C ⟨rfl,rfl,hx⟩;rw[hx] at O;have ac:=put_abs (g:=M.gateX a b) z hn;refine zq (λu w'=>u=[nI (if a<0 then-1 else 1)]/\w'=C) ?_ ?_
 ·intro N i;simp only[push_cast];refine zb (λc=>?_) (λc=>?_)
  ·simp(disch:=omega) only[push_cast,zk,gG];exact i _ _ ⟨by rw[if_pos c],rfl⟩
  ·exact i _ _ ⟨by rw[if_neg c],rfl⟩
 rintro _ _ w4 ⟨rfl,rfl⟩;refine zq (λu w'=>u=[nI (if(decide (a<0) != decide (b<0)) then-1 else 1)]/\w'=w4) ?_ ?_
 ·intro N i;simp only[push_cast];refine zb (λc=>?_) (λc=>?_)
  ·by_cases d:a<0
   ·rw[if_pos d];simp(disch:=omega) only[push_cast,zk,gG];exact i _ _ ⟨by simp[c,d],rfl⟩
   ·rw[if_neg d];simp(disch:=omega) only[push_cast,zk,gG];exact i _ _ ⟨by simp[c,d],rfl⟩
  ·refine i _ _ ⟨?_,rfl⟩;by_cases d:a<0<;>simp[c,d]
 rintro _ _ w5 ⟨rfl,rfl⟩;refine l4Abs_sm W (l4Abs_sm j ?_);refine zq (λu w'=>u=[nI (M.gateX a b).a,nI (M.gateX a b).b]/\w'=w5) ?_ ?_
 ·intro N i
  try simp only[push_cast]
  unfold M.gateX at i;refine zb (λc=>?_) (λc=>?_)
  ·rw[if_pos c] at i;exact l4Abs_sm j (l4Abs_sm W (i _ _ ⟨rfl,rfl⟩))
  ·rw[if_neg c] at i;exact i _ _ ⟨rfl,rfl⟩
 rintro _ _ w6 ⟨rfl,rfl⟩
 try simp only[push_cast]
 rw[o,kQ0,show(⟨true,(M.gateX a b).a,(M.gateX a b).b⟩:M.Gt)=M.gateX a b from by unfold M.gateX;split<;>rfl];refine sput_spec (D:=λb=>D b\/b=b2) hn (Sl.weaken (Sl.ext a0 R) λb j z hd=>hd.elim j.1 λe=>by have:=j.2;omega) z (λb j=>j.elim (λh=>by have:=hD b h;omega) λh=>oM) λw7 n' a4 v X a1 a3=>?_;simp only[push_cast];have q:=NetO.put X a1 a3 (put_len z);generalize [nI (n':Nat),a4]=cs at q⊢;generalize ab:(M.putG n gs (M.gateX a b)).2=pm at*;have r:=q.len;refine zi qT λb8 w8 aa m af U=>?_;have a5:=q.same (Same.of_ext m (S:=λ_=>False)) λb j=>j.elim;refine U.stAgg (cs':=cs) (by rw[r];rfl) (by rw[r];exact zZ) q.one λw9 A ag V=>?_;rw[V.ldAgg (t:=zw) (by rw[r];exact zZ)];have hmul:(if(decide (a<0) != decide (b<0))=true then(-1:Int) else 1)*pm=M.turnI (decide (a<0) != decide (b<0)) pm:=by
  unfold M.turnI;split<;>omega
 try simp only[push_cast]
 rw[hmul,zk (by have:=Ju (c:=decide (a<0) != decide (b<0)) (a:=pm);omega) (by have:=Ju (c:=decide (a<0) != decide (b<0)) (a:=pm);omega)];have l7:=v.size;have l8:=m.size;have G:=((F.ext v).ext m).same A (show¬b2=b8 by omega);refine net_out G rfl q.len q.one λw10 p=>?_;have e9:Ext w w9:=Ext.then ((R.trans v).trans m) A λy B=>by subst B;omega
 refine O w10 _ (Ext.then e9 p λy B=>by subst B;omega) ?_;have h9:Ext w7 w9:=Ext.then m A λy B=>by subst B;omega
 have l:=((q.same (Same.of_ext h9 (S:=λ_=>False)) λb j=>j.elim).same p λb j=> .inr j).weak (Y:=D) λb j=> .inl j;unfold NetO at l⊢;by_cases k:pm=0
 ·rw[if_pos k] at l;rw[if_pos (M.turn_zero.2 k)];exact l
 ·rw[if_neg k] at l;rw[if_neg (λh=>k (M.turn_zero.1 h))];exact l
end
section
variable {w:World} {K:oK} {D F Y S:Nat->Prop} {n b4 b8:Nat} {gs:M.Gs} {v:Value} {cs cs':List Value} {st st':Option M.Gs} {a b c m x y r:Int}
def MkR (n:Nat) (D:Nat->Prop) (w:World) (cs:List Value) (st:Option M.Gs):Prop:=
 match st with
 |some gs=> ∃o l c,cs=[nI n,.slice o l c,.bool true]/\GOff D w (.slice o l c) gs/\gs.length<=600
 |none=>cs=[nI 0,.slice none 0 0,.bool false]
theorem MkR.form (h:MkR n D w cs st):∃(x:Int) (o:Option Addr) (l c:Nat) (b:Bool),cs=[nI x,.slice o l c,.bool b]:=by
 cases st with
 |none=>exact⟨_,_,_,_,_,h⟩
 |some gs=>obtain⟨o,l,c,e,_⟩:=h;exact⟨_,_,_,_,_,e⟩
theorem MkR.len (h:MkR n D w cs st):cs.length=3:=by obtain⟨x,o,l,c,b,rfl⟩:=h.form;rfl
theorem MkR.one (h:MkR n D w cs st):∀u,u∈cs->u.oneCell'=true:=by
 obtain⟨x,o,l,c,b,rfl⟩:=h.form;intro u hu;simp only[X0,gm,or_false] at hu;rcases hu with rfl|rfl|rfl<;>rfl
theorem MkR.swap {w':World} (h:MkR n D w cs st) (hw:Same S w w') (f:∀b,S b->D b) (g:∀b,Y b->b<w.heap.size->D b):MkR n Y w' cs st:=by
 cases st with
 |none=>exact h
 |some gs=>
  obtain⟨o,l,c,e,a,d⟩:=h;exact⟨o,l,c,e,a.swap hw f g,d⟩
theorem MkR.ext {w':World} (h:MkR n D w cs st) (hw:Ext w w') (a:∀b,Y b->b<w.heap.size->D b):MkR n Y w' cs st:=h.swap hw (λ_ h=>h.elim) a
theorem MkR.same {w':World} (h:MkR n D w cs st) (hw:Same S w w') (a:∀b,S b->D b):MkR n D w' cs st:=h.swap hw a λ_ h _=>h
def Sn (st:Option M.Gs) (x:Int):Prop:=Sm x/\(x=0->st=none)
def SnL (st:Option M.Gs) (xs:List Int):Prop:=∀x,x∈xs->Sn st x
theorem kf0 {α:Type} {p:M.Bd α} {a:α} (h:M.Bd.Out n p st st' a):st=none->st'=none:=λe=>by subst e;exact h.1
theorem Sn.out {α:Type} {p:M.Bd α} {a:α} (h:Sn st x) (b:M.Bd.Out n p st st' a):Sn st' x:=⟨h.1,λe=>kf0 b (h.2 e)⟩
theorem SnL.out {α:Type} {p:M.Bd α} {a:α} {xs:List Int} (h:SnL st xs) (b:M.Bd.Out n p st st' a):SnL st' xs:=λx c=>(h x c).out b
theorem Sn.neg (h:Sn st x):Sn st (-x):=⟨by have:=h.1;unfold Sm at*;omega,λe=>h.2 oM⟩
theorem Sn.nz (h:Sn (some gs) x):x≠0:=λe=>by have:=h.2 e;cases this
theorem Sn.of (h:Sm x) (a:x≠0):Sn st x:=⟨h,λe=>absurd e a⟩
theorem SnL.get {xs:List Int} (h:SnL st xs) {i:Nat} (hi:i<xs.length):Sn st (xs.getD i 0):=h _ (M.getD_mem hi 0)
theorem SnL.app {xs ys:List Int} (h:SnL st xs) (a:SnL st ys):SnL st (xs++ys):=λx b=>(gg.1 b).elim (h x) (a x)
theorem SnL.one (h:Sn st x):SnL st [x]:=λy a=>by rw[gk.1 a];exact h
theorem SnL.nil:SnL st []:=λx a=>by cases a
theorem SnL.sm {xs:List Int} (h:SnL st xs):SmL xs:=λx a=>(h x a).1
theorem SnL.fill (m:Nat):SnL st (M.offsL m):=λx a=>by rw[GN a];exact Sn.of dC dC
theorem SnL.neg {xs:List Int} (h:SnL st xs):SnL st (M.negL xs):=λx a=>by
 obtain⟨y,b,rfl⟩:=gn.1 a;exact(h y b).neg
theorem ZQ0 {x:Int} {o:Option Addr} {l c:Nat} {b:Bool}:yz zB [(0,.agg ⟨[nI x,.slice o l c]⟩),(1,.bool b)] w K=K (.agg ⟨[nI x,.slice o l c,.bool b]⟩) w:=zV yA0 (us:=[[nI x,.slice o l c],[.bool b]]) rfl rfl
theorem Ke {b4:Nat} (a:Blk w b4 cs zB) (h:cs.length=3):zu zB (oP b4 0) w K=K (.agg ⟨cs⟩) w:=a.ldAgg (t:=zB) (by rw[h];exact qZ)
theorem mk_put {b4:Nat} {a:List Value} (c:Blk w b4 a zB) (f:a.length=3) (e:cs.length=3) (b:∀u,u∈cs->u.oneCell'=true) (d:∀w',Same (· =b4) w w'->w'.heap.size=w.heap.size->Blk w' b4 cs zB->K undef w'):zR zB (oP b4 0) (.agg ⟨cs⟩) w K:=
 c.stAgg (cs':=cs) oM (by rw[e];exact qZ) b d
theorem QY {b8:Nat} {a:List Value} (f:Blk w b8 a zB) (d:a.length=3) (c:cs.length=3) (e:∀u,u∈cs->u.oneCell'=true) (g:∀w',Same (· =b8) w w'->K (.agg ⟨cs⟩) w'):
  zR zB (oP b8 0) (.agg ⟨cs⟩) w λ_ w1=>vlv zB (oP b8 0) w1 K:=
 mk_put f d c e λw1 hs h b=>by
  rw[b.lv (t:=zB) (by rw[c];exact qZ)];exact g w1 hs
theorem sand7_spec (hn:n<=8) (Z:MkR n D w cs st) (hD:∀b,D b->b<w.heap.size) (hx:Sn st x) (H:Sn st y)
  (U:∀w' cs' st' r,Ext w w'->MkR n D w' cs' st'->Sn st' r->M.Bd.Out n (.and x y .ret) st st' r->K (.tuple #[.agg ⟨cs'⟩,nI r]) w'):
  vcall ze0 #[.agg ⟨cs⟩,nI x,nI y] w K:=by
 refine zg {} Tryz.func134 ?_;refine zj λb3 w1 a3 E a7 Q=>?_;refine zi xu λb6 w2 a4 p a8 z=>?_;have N:=E.trans p;have d:=Q.ext p;have z1:=E.size;have z2:=p.size;cases st with
 |none=>
  have V:cs=[nI 0,.slice none 0 0,.bool false]:=Z;subst V;simp(disch:=first|(simp only[push_cast])|omega) only[push_cast,d.ld2,Pr,Ke d rfl];refine QY z rfl rfl Z.one λw3 a1=>?_;exact U w3 _ none 1 (Ext.then N a1 λb e=>oM) rfl (Sn.of dC dC) ⟨rfl,1,rfl⟩
 |some gs=>
  obtain⟨o,l,c,rfl,hg,I⟩:=Z;have G:zu zw (oP b3 0) w2=λK=>K (.agg ⟨[nI n,.slice o l c]⟩) w2:=by
   funext K;exact Blk.ldTake (us:=[nI n,.slice o l c]) (r:=[.bool true]) d zZ
  simp(disch:=first|(simp only[push_cast])|omega) only[push_cast,d.ld2,Gc,yw,GM,G];have W:GOff (λb=>D b\/b=b3\/b=b6) w2 (.slice o l c) gs:=hg.swap N (λ_ h=>h.elim) λb e I=>e.elim id λh=>oM;refine sand6_spec hn W I (λb e=>e.elim (λh=>by have:=hD b h;omega) λh=>oM) hx.1 H.1 hx.nz H.nz λw3 J q j=>?_;have hlen:gs.length<=600:=I;have C:=jl0 (gs:=gs) (n:=n) I hn hx.1 H.1;have f:(M.Bd.and x y .ret:M.Bd Int).run n gs=if(M.andG n gs x y).2=0 then none else some ((M.andG n gs x y).1,(M.andG n gs x y).2):=rfl
  generalize a6:(M.andG n gs x y).1=v at*;generalize (M.andG n gs x y).2=m at*;simp only[push_cast];have k:=j.len;refine zi qT λb8 w8 a5 F a9 R=>?_;refine R.stAgg (cs':=J) (by rw[k];rfl) (by rw[k];exact zZ) j.one λw9 a2 aa T=>?_;have z3:=q.size;have z8:=F.size;have O:Ext w3 w9:=Ext.then F a2 λy H=>by subst H;omega
  have B:=j.same (Same.of_ext O (S:=λ_=>False)) λb e=>e.elim;rw[T.ldAgg (t:=zw) (by rw[k];exact zZ)];obtain⟨x3,o3,l3,c3,rfl⟩:=B.form;simp only[push_cast,ZQ0];have A:=(z.ext (q.trans O));refine QY A rfl rfl (λu hu=>by simp only[X0,gm,or_false] at hu;rcases hu with rfl|rfl|rfl<;>rfl) λw10 g=>?_;have s:Ext w w10:=Ext.then (N.trans (q.trans O)) g λb e=>oM;have a:=(B.same g λb e=> .inr (.inr e)).weak (Y:=D) λb e=> .inl e;by_cases hm:m=0
  ·subst hm;unfold NetO at a;rw[if_pos rfl] at a;simp only[gI,and_true] at a;obtain⟨L,i⟩:=a;rw[L,i];refine U w10 _ none 0 s rfl ⟨dC,λ_=>rfl⟩ (.inr ⟨by rw[f,if_pos rfl],rfl,0,rfl⟩)
  ·unfold NetO at a;rw[if_neg hm] at a;obtain⟨o4,l4,c4,e4,X,a0⟩:=a;simp only[gI,and_true] at e4;obtain⟨L,i⟩:=e4;rw[L,i,decide_eq_true hm];refine U w10 _ (some v) m s ⟨o4,l4,c4,rfl,X,a0⟩ (Sn.of C hm) (.inl ⟨v,by rw[f,if_neg hm],rfl⟩)
theorem sxor7_spec (hn:n<=8) (Z:MkR n D w cs st) (hD:∀b,D b->b<w.heap.size) (hx:Sn st x) (H:Sn st y)
  (U:∀w' cs' st' r,Ext w w'->MkR n D w' cs' st'->Sn st' r->M.Bd.Out n (.xor x y .ret) st st' r->K (.tuple #[.agg ⟨cs'⟩,nI r]) w'):
  vcall z60 #[.agg ⟨cs⟩,nI x,nI y] w K:=by
 refine zg {} Tryz.func180 ?_;refine zj λb3 w1 a3 E a7 Q=>?_;refine zi xu λb6 w2 a4 p a8 z=>?_;have N:=E.trans p;have d:=Q.ext p;have z1:=E.size;have z2:=p.size;cases st with
 |none=>
  have V:cs=[nI 0,.slice none 0 0,.bool false]:=Z;subst V;simp(disch:=first|(simp only[push_cast])|omega) only[push_cast,d.ld2,Pr,Ke d rfl];refine QY z rfl rfl Z.one λw3 a1=>?_;exact U w3 _ none 1 (Ext.then N a1 λb e=>oM) rfl (Sn.of dC dC) ⟨rfl,1,rfl⟩
 |some gs=>
  obtain⟨o,l,c,rfl,hg,I⟩:=Z;have G:zu zw (oP b3 0) w2=λK=>K (.agg ⟨[nI n,.slice o l c]⟩) w2:=by
   funext K;exact Blk.ldTake (us:=[nI n,.slice o l c]) (r:=[.bool true]) d zZ
  simp(disch:=first|(simp only[push_cast])|omega) only[push_cast,d.ld2,Gc,yw,GM,G];have W:GOff (λb=>D b\/b=b3\/b=b6) w2 (.slice o l c) gs:=hg.swap N (λ_ h=>h.elim) λb e I=>e.elim id λh=>oM;refine sxor6_spec hn W I (λb e=>e.elim (λh=>by have:=hD b h;omega) λh=>oM) hx.1 H.1 hx.nz H.nz λw3 J q j=>?_;have hlen:gs.length<=600:=I;have C:=xZ0 (gs:=gs) (n:=n) I hn hx.1 H.1;have f:(M.Bd.xor x y .ret:M.Bd Int).run n gs=if(M.xorG n gs x y).2=0 then none else some ((M.xorG n gs x y).1,(M.xorG n gs x y).2):=rfl
  generalize a6:(M.xorG n gs x y).1=v at*;generalize (M.xorG n gs x y).2=m at*;simp only[push_cast];have k:=j.len;refine zi qT λb8 w8 a5 F a9 R=>?_;refine R.stAgg (cs':=J) (by rw[k];rfl) (by rw[k];exact zZ) j.one λw9 a2 aa T=>?_;have z3:=q.size;have z8:=F.size;have O:Ext w3 w9:=Ext.then F a2 λy H=>by subst H;omega
  have B:=j.same (Same.of_ext O (S:=λ_=>False)) λb e=>e.elim;rw[T.ldAgg (t:=zw) (by rw[k];exact zZ)];obtain⟨x3,o3,l3,c3,rfl⟩:=B.form;simp only[push_cast,ZQ0];have A:=(z.ext (q.trans O));refine QY A rfl rfl (λu hu=>by simp only[X0,gm,or_false] at hu;rcases hu with rfl|rfl|rfl<;>rfl) λw10 g=>?_;have s:Ext w w10:=Ext.then (N.trans (q.trans O)) g λb e=>oM;have a:=(B.same g λb e=> .inr (.inr e)).weak (Y:=D) λb e=> .inl e;by_cases hm:m=0
  ·subst hm;unfold NetO at a;rw[if_pos rfl] at a;simp only[gI,and_true] at a;obtain⟨L,i⟩:=a;rw[L,i];refine U w10 _ none 0 s rfl ⟨dC,λ_=>rfl⟩ (.inr ⟨by rw[f,if_pos rfl],rfl,0,rfl⟩)
  ·unfold NetO at a;rw[if_neg hm] at a;obtain⟨o4,l4,c4,e4,X,a0⟩:=a;simp only[gI,and_true] at e4;obtain⟨L,i⟩:=e4;rw[L,i,decide_eq_true hm];refine U w10 _ (some v) m s ⟨o4,l4,c4,rfl,X,a0⟩ (Sn.of C hm) (.inl ⟨v,by rw[f,if_neg hm],rfl⟩)
theorem sor7_spec (O:n<=8) (s:MkR n D w cs st) (hD:∀b,D b->b<w.heap.size) (F:Sn st x) (G:Sn st y)
  (J:∀w' cs' st' r,Ext w w'->MkR n D w' cs' st'->Sn st' r->M.Bd.Out n (M.orB x y) st st' r->K (.tuple #[.agg ⟨cs'⟩,nI r]) w'):
  vcall yo0 #[.agg ⟨cs⟩,nI x,nI y] w K:=by
 refine zg {} Tryz.func135 ?_;refine zj λb3 w1 L j Q o=>?_;refine zi xu λC w2 N e R p=>?_;have E:=j.trans e;have d:=o.ext e;have W:=j.size;have z2:=e.size;have z:=F.1;have A:=G.1;unfold Sm at z A;simp(disch:=omega) only[push_cast,Ke d s.len,zk,gG];have t:MkR n (λb=>D b\/b=b3\/b=C) w2 cs st:=s.ext E λb c T=>c.elim id λh=>oM
 refine sand7_spec O t (λb c=>c.elim (λh=>by have:=hD b h;omega) λh=>oM) F.neg G.neg λU m B r f a k u=>?_;have v:=k.1;unfold Sm at v;simp only[push_cast];refine mk_put (d.ext f) s.len a.len a.one λV g S q=>?_;have i:=(p.ext f).same g (show¬C=b3 by omega);simp(disch:=omega) only[push_cast,Ke q a.len,zk,gG];refine QY i rfl a.len a.one λH l=>?_;have I:Ext w H:=Ext.then (Ext.then (E.trans f) g λb c=>oM) l λb c=>oM
 exact J H m B (-r) I ((a.same g λb c=> .inr (.inl c)).swap l (λb c=> .inr (.inr c)) λb c _=> .inl c) k.neg (xC u (M.Bd.Out.ret _ _))
theorem sone7_spec (S:n<=8) (N:MkR n D w cs st) (hD:∀b,D b->b<w.heap.size) (J:Sn st c) (hx:Sn st x) (hy:Sn st y)
  (hK:∀w' cs' st' r,Ext w w'->MkR n D w' cs' st'->Sn st' r->M.Bd.Out n (M.muxB c x y) st st' r->K (.tuple #[.agg ⟨cs'⟩,nI r]) w'):
  vcall z80 #[.agg ⟨cs⟩,nI c,nI x,nI y] w K:=by
 refine zg {} Tryz.func179 ?_;refine zj λb3 w1 a2 z a4 G=>?_;refine zi xu λE w2 a3 k a5 H=>?_;have Y:=z.trans k;have i:=G.ext k;have z1:=z.size;have z2:=k.size;have L:=J.1;unfold Sm at L;rw[Ke i N.len];have O:MkR n (λb=>D b\/b=b3\/b=E) w2 cs st:=N.ext Y λb a hl=>a.elim id λh=>oM
 have j:∀b,(D b\/b=b3\/b=E)->b<w2.heap.size:=λb a=>a.elim (λh=>by have:=hD b h;omega) λh=>oM
 refine sand7_spec S O j J hx λw3 a0 a8 p e d U m=>?_;simp only[push_cast];refine mk_put (i.ext e) N.len d.len d.one λw4 o a6 v=>?_;have z3:=e.size;have t:=(H.ext e).same o (show¬E=b3 by omega);have Q:=d.same o λb a=> .inr (.inl a);simp(disch:=omega) only[push_cast,Ke v d.len,zk,gG];refine sand7_spec S Q (λb a=>by have:=j b a;omega) (J.out m).neg (hy.out m) λw5 a1 a9 q f g V B=>?_;simp only[push_cast];refine mk_put (v.ext f) d.len g.len g.one λw6 s a7 I=>?_;have z5:=f.size;have u:=(t.ext f).same s (show¬E=b3 by omega);have R:=g.same s λb a=> .inr (.inl a);rw[Ke I g.len];refine sor7_spec S R (λb a=>by have:=j b a;omega) (U.out B) V λw7 F X r A l W T=>?_;simp only[push_cast];refine QY (u.ext A) rfl l.len l.one λZ C=>?_;have e6:Ext w w6:=Ext.then ((Ext.then (Y.trans e) o λb a=>oM).trans f) s λb a=>oM
 have e8:Ext w Z:=Ext.then (e6.trans A) C λb a=>oM
 exact hK Z F X r e8 (l.swap C (λb a=> .inr (.inr a)) λb a _=> .inl a) W (xC m (xC B T))
end
section
variable {w:World} {K:oK} {D F Fx Fy Y S O:Nat->Prop} {n b4 b8:Nat} {v xv yv:Value} {cs cs':List Value} {st st':Option M.Gs} {a b c m x y r:Int} {xs ys:List Int}
abbrev Y90 (D O:Nat->Prop) (b4 b8:Nat):Nat->Prop:=λb=>D b\/b=b4\/b=b8\/O b
structure Fm (n:Nat) (D O:Nat->Prop) (w0:World) (b4 b8:Nat) (w:World) (st:Option M.Gs):Prop where
 ext:Ext w0 w
 k:∃cs,Blk w b4 cs zB/\MkR n (Y90 D O b4 b8) w cs st
 r:∃cs,Blk w b8 cs zB/\cs.length=3
 lo:w0.heap.size<=b4/\w0.heap.size<=b8/\b4≠b8
 off:∀b,O b->b<w.heap.size/\w0.heap.size<=b/\b≠b4/\b≠b8
 dlt:∀b,D b->b<w0.heap.size
theorem Fm.start (k:MkR n D w cs st) (hD:∀b,D b->b<w.heap.size) {K:Value->oK} (f:∀b4 b8 w',Fm n D (λ_=>False) w b4 b8 w' st->K (oP b4 0) (oP b8 0) w'):
  US zB (.agg ⟨cs⟩) w λt w1=>ql zB w1 λt8 w2=>K t t8 w2:=by
 refine zj λb4 w1 i c l d=>?_;refine zi xu λb8 w2 j a m e=>?_;refine f b4 b8 w2 ⟨c.trans a,⟨cs,d.ext a,k.ext (c.trans a) λb g o=>g.elim id λh=>?_⟩,⟨_,e,rfl⟩,oM,λb h=>h.elim,hD⟩;rcases h with h|h|h
 ·omega
 ·omega
 ·exact h.elim
section
variable {w0 w':World}
theorem Fm.lt4 (h:Fm n D O w0 b4 b8 w st):b4<w.heap.size/\b8<w.heap.size:=by
 obtain⟨_,a,_⟩:=h.k;obtain⟨_,b,_⟩:=h.r;exact⟨a.lt,b.lt⟩
theorem Fm.dl (h:Fm n D O w0 b4 b8 w st):∀b,Y90 D O b4 b8 b->b<w.heap.size:=λb c=>by
 have l:=h.lt4;have s:=h.ext.size;rcases c with a|a|a|a
 ·have:=h.dlt b a;omega
 ·omega
 ·omega
 ·exact(h.off b a).1
theorem Fm.grow (h:Fm n D O w0 b4 b8 w st) (he:Ext w w'):Fm n D O w0 b4 b8 w' st:=by
 obtain⟨cs,c,d⟩:=h.k;obtain⟨a,e,f⟩:=h.r;exact⟨h.ext.trans he,⟨cs,c.ext he,d.ext he λ_ h _=>h⟩,⟨a,e.ext he,f⟩,h.lo,λb i=>by have g:=h.off b i;have:=he.size;exact⟨oM,g.2⟩,h.dlt⟩
theorem Fm.call (h:Fm n D O w0 b4 b8 w st):∃cs,MkR n (Y90 D O b4 b8) w cs st/\∀w',Ext w w'->∀K:oK,zu zB (oP b4 0) w' K=K (.agg ⟨cs⟩) w':=by
 obtain⟨cs,b,a⟩:=h.k;exact⟨cs,a,λw' he K=>Ke (b.ext he) a.len⟩
theorem Fm.put (h:Fm n D O w0 b4 b8 w st) (he:Ext w w') (c:MkR n (Y90 D O b4 b8) w' cs' st') (o:∀w'',Fm n D O w0 b4 b8 w'' st'->Same (· =b4) w' w''->w''.heap.size=w'.heap.size->K undef w''):
  zR zB (oP b4 0) (.agg ⟨cs'⟩) w' K:=by
 obtain⟨cs,f,g⟩:=h.k;obtain⟨d,i,j⟩:=h.r;refine mk_put (f.ext he) g.len c.len c.one λw'' hs p m=>o w'' ⟨Ext.then (h.ext.trans he) hs λb a=>by have:=h.lo;omega,⟨cs',m,c.same hs λb a=> .inr (.inl a)⟩,⟨d,(i.ext he).same hs λe=>h.lo.2.2 e.symm,j⟩,h.lo,λb a=>?_,h.dlt⟩ hs p;have l:=h.off b a;have:=he.size;exact⟨oM,l.2⟩
theorem Fm.own {O':Nat->Prop} (h:Fm n D O w0 b4 b8 w st) (hw:Same S w w') (e:∀b,S b->O b) (hO:∀b,O' b->b<w'.heap.size/\(O b\/w.heap.size<=b)):Fm n D O' w0 b4 b8 w' st:=by
 obtain⟨cs,a,i⟩:=h.k;obtain⟨g,j,m⟩:=h.r;have l:=h.lt4;have s:=h.ext.size;refine⟨Ext.then h.ext hw λb c=>(h.off b (e b c)).2.1,⟨cs,a.same hw λhs=>(h.off _ (e _ hs)).2.2.1 rfl,i.swap hw (λb c=> .inr (.inr (.inr (e b c)))) λb c o=>?_⟩,⟨g,j.same hw λhs=>(h.off _ (e _ hs)).2.2.2 rfl,m⟩,h.lo,λb c=>?_,h.dlt⟩
 ·rcases c with a|a|a|a
  ·exact .inl a
  ·exact .inr (.inl a)
  ·exact .inr (.inr (.inl a))
  ·exact(hO b a).2.elim (λh=> .inr (.inr (.inr h))) λh=>oM
 ·obtain⟨f,d⟩:=hO b c;rcases d with d|d
  ·have:=h.off b d;exact⟨f,this.2⟩
  ·exact⟨f,oM,oM,oM⟩
theorem Fm.fin (h:Fm n D O w0 b4 b8 w st) (g:∀w' cs,Ext w0 w'->MkR n D w' cs st->Same (· =b8) w w'->K (.agg ⟨cs⟩) w'):
  zu zB (oP b4 0) w λt w1=>zR zB (oP b8 0) t w1 λ_ w2=>vlv zB (oP b8 0) w2 K:=by
 obtain⟨cs,d,a⟩:=h.k;obtain⟨i,e,f⟩:=h.r;rw[Ke d a.len];exact QY e f a.len a.one λw' hs=>g w' cs (Ext.then h.ext hs λb c=>by have:=h.lo;omega) (a.swap hs (λb c=> .inr (.inr (.inl c))) λb c _=> .inl c) hs
theorem Fm.out (h:Fm n D O w0 b4 b8 w st) (he:Ext w w') (c:MkR n (Y90 D O b4 b8) w' cs' st') (f:∀w'',Ext w0 w''->MkR n D w'' cs' st'->Same (· =b8) w' w''->K (.agg ⟨cs'⟩) w''):
  zR zB (oP b8 0) (.agg ⟨cs'⟩) w' λ_ w2=>vlv zB (oP b8 0) w2 K:=by
 obtain⟨g,d,e⟩:=h.r;exact QY (d.ext he) e c.len c.one λw'' hs=>f w'' (Ext.then (h.ext.trans he) hs λb a=>by have:=h.lo;omega) (c.swap hs (λb a=> .inr (.inr (.inl a))) λb a _=> .inl a) hs
end
abbrev O1 (v:Value):Nat->Prop:=λb=>v.ownBlock=some b
abbrev Low (w:World):Nat->Prop:=λb=>b<w.heap.size
theorem Ints.under (h:Ints Fx w xv xs):Ints (Low w) w xv xs:=Ints.weaken h λ_ _ a=>a
theorem Ints.ext0 {w0 w:World} (h:Ints (Low w0) w0 xv xs) (he:Ext w0 w):Ints (Low w0) w xv xs:=Ints.ext h he
theorem Fm.app {w0:World} {zs:List Int} {x:Int} {ty:Nat} (h:Fm n D (O1 v) w0 b4 b8 w st) (l:OwnI ze w v zs) (q:zs.length<=1000000)
  (j:∀v' w',Fm n D (O1 v') w0 b4 b8 w' st->OwnI ze w' v' (zs++[x])->Ext w0 w'->K v' w'):
  vbuildS ze 1 [(0,nI x)] w λt w1=>vbi .append [ze,ze] ty [v,t] w1 K:=by
 refine zD xr yR xF rfl rfl λp r k a m e=>?_;refine(l.ext a).app1 xB e oM oM λv6 o c g f=>?_;have i:=(h.grow a).own (O':=O1 v6) g (λb d=>d) λb d=>⟨c.lt d,f b d⟩;exact j v6 o i c i.ext
theorem Fm.nil {w0:World} (h:Fm n D (λ_=>False) w0 b4 b8 w st) (j:∀v' w',Fm n D (O1 v') w0 b4 b8 w' st->OwnI ze w' v' []->Ext w0 w'->K v' w'):vbuildS ze 0 [] w K:=by
 refine yq xr yR λa i k f m c=>?_;have l:OwnI ze i (.slice (some ⟨a,0,none⟩) 0 0) []:=Blk.own1 (t:=ze) (cs:=[]) (by rw[qK];exact c) (gM _) rfl rfl oM;have g:=h.own (O':=O1 (.slice (some ⟨a,0,none⟩) 0 0)) (S:=λ_=>False) f (λb d=>d) λb d=>by
  have e:a=b:=y2 d;exact⟨oM,.inr oM⟩
 exact j _ i g l g.ext
theorem sadd7_spec (hn:n<=8) (hk:MkR n D w cs st) (hD:∀b,D b->b<w.heap.size) (O:Ints Fx w xv xs) (hy:Ints Fy w yv ys) (hl:xs.length<=ys.length) (h8:xs.length<=1000) (b1:SnL st xs) (b2:SnL st ys) (hc:Sn st c)
  (hK:∀w' cs' st' r zs,Ext w w'->MkR n D w' cs' st'->OwnI ze w' r zs->(∀b,r.ownBlock=some b->w.heap.size<=b)->SnL st' zs->M.Bd.Out n (M.sumB xs ys c) st st' zs->K (.tuple #[.agg ⟨cs'⟩,r]) w'):
  vcall zf0 #[.agg ⟨cs⟩,xv,yv,nI c] w K:=by
 refine zg {ord:=[oz 9 (oR 15) [(0,[1,2,3,4,5,6,7,8]),(1,[2,5,6,7,8]),(2,[5,6,7,8]),(3,[5,6,7,8]),(4,[5,6,7,8]),(5,[6]),(11,[12]),(12,[13])],oz 11 (oR 15) [(0,[1,2,3,4,5,6,7,8]),(1,[2,5,6,7,8]),(2,[5,6,7,8]),(3,[5,6,7,8]),(4,[5,6,7,8]),(5,[6]),(11,[12]),(12,[13])]],loops:=[(3,[3,10,11])]} Tryz.func137 ?_;refine Fm.start hk hD λb4 b8 w1 h1=>?_;refine h1.nil λv2 w2 h2 aw e2=>?_;have Q:=Ints.under O;have ag:=Ints.under hy;refine vloop_up xs.length (λi u w'=> ∃k r zs c1,u=[nI c1,r,nI i]/\Fm n D (O1 r) w b4 b8 w' k/\OwnI ze w' r zs/\zs.length=i/\SnL k zs/\SnL k xs/\SnL k ys/\Sn k c1/\
  ∀st2 rs,M.Bd.Out n (M.sumB (xs.drop i) (ys.drop i) c1) k st2 rs->M.Bd.Out n (M.sumB xs ys c) st st2 (zs++rs)) ⟨st,_,[],c,rfl,h2,aw,rfl,SnL.nil,b1,b2,hc,λ_ _ h=>h⟩ ?_
 rintro i _ g w3 C hi ⟨ak,r3,zs,c3,rfl,R,aa,b3,aj,A,E,V,z⟩ hC;have b0:=Ints.ext0 Q R.ext;simp(disch:=first|(simp only[push_cast])|omega) only[push_cast,b0.len];refine zb (λbp=>?_) (λbo=>?_)
 ·have m:i<xs.length:=oM;refine zd λw4 W _=>?_;have S:=R.grow W;have ae:=Ints.ext0 Q S.ext;have ah:=Ints.ext0 ag S.ext;obtain⟨c4,J,a5⟩:=S.call;simp(disch:=first|(simp only[push_cast])|omega) only[push_cast,ae.iaddr,ae.load,ah.iaddr,ah.load,true_and,a5 w4 (Same.refl _ _)];refine sxor7_spec hn J S.dl (A.get m) (E.get oM) λw5 bl bs d X aq hd f=>?_;simp only[push_cast,true_and];refine S.put X aq λw6 h6 ay bq=>?_;obtain⟨c6,ar,a6⟩:=h6.call;simp only[push_cast,true_and,and_self,a6 w6 (Same.refl _ _)];refine sxor7_spec hn ar h6.dl hd (V.out f) λw7 bm b6 s Y au hs j=>?_;simp only[push_cast,true_and];refine h6.put Y au λw8 ao az br=>?_;refine zd λw9 Z _=>?_;have T:=ao.grow Z;have af:=Ints.ext0 Q T.ext;have ai:=Ints.ext0 ag T.ext;obtain⟨c9,av,a7⟩:=T.call;simp(disch:=first|(simp only[push_cast])|omega) only[push_cast,af.iaddr,af.load,ai.iaddr,ai.load,true_and,a7 w9 (Same.refl _ _)];have B:=(A.out f).out j;have F:=(E.out f).out j;refine sand7_spec hn av T.dl (B.get m) (F.get oM) λw10 bb bh p o a0 hp a=>?_;simp only[push_cast,true_and];refine T.put o a0 λb7 H ab be=>?_;obtain⟨bj,a1,L⟩:=H.call;simp only[push_cast,true_and,and_self,L b7 (Same.refl _ _)];refine sand7_spec hn a1 H.dl ((hd.out j).out a) (((V.out f).out j).out a) λbt bc bi q t a2 hq l=>?_;simp only[push_cast,true_and];refine H.put t a2 λb9 I ac bf=>?_;obtain⟨bk,a3,N⟩:=I.call;simp only[push_cast,true_and,and_self,N b9 (Same.refl _ _)];refine sor7_spec hn a3 I.dl (hp.out l) hq λbu bd G c2 v a4 ap y=>?_;simp only[push_cast,true_and];refine I.put v a4 λba am ad bg=>?_;have a8:OwnI ze ba r3 zs:=by
   have off:∀b,r3.ownBlock=some b->¬b=b4:=λb U=>(R.off b U).2.2.1;exact((((((((((aa.ext W).ext X).same ay off).ext Y).same az off).ext Z).ext o).same ab off).ext t).same ac off|>.ext v).same ad off
  refine am.app a8 oM λb5 bv an a9 bn=>?_;simp(disch:=omega) only[push_cast,zk];have up:∀{x},Sn b6 x->Sn G x:=λh=>((h.out a).out l).out y;refine hC m _ _ ⟨G,b5,zs++[s],c2,by simp<;>exact⟨rfl,rfl⟩,an,a9,by simp[b3],SnL.app (λx O=>up (((aj x O).out f).out j)) (SnL.one (up hs)),λx O=>up (B x O),λx O=>up (F x O),ap,λst2 rs ho=>?_⟩;have:=z st2 (s::rs) ?_
  ·simpa using this
  rw[yW m,yW (show i<ys.length by omega)];exact kg f (kg j (xC a (xC l (M.Bd.Out.bind y (M.Bd.Out.map _ ho)))))
 ·have:=z ak [] (by rw[qh0 oM];exact M.Bd.Out.ret _ _);rw[gz] at this;refine R.fin λw4 al e4 J ax=>?_;exact hK w4 al ak r3 zs e4 J (aa.same ax λb U e=>(R.off b U).2.2.2 e) (λb U=>(R.off b U).2.1) aj this
end
section
variable {w:World} {K:oK} {D F Fx Fy Y S O:Nat->Prop} {n b4 b8:Nat} {v xv yv:Value} {cs cs':List Value} {st st':Option M.Gs} {a b c m x y r:Int} {xs ys:List Int}
theorem spec_nil (f:∀v' w',OwnI ze w' v' []->Ext w w'->(∀b,v'.ownBlock=some b->w.heap.size<=b)->K v' w'):vbuildS ze 0 [] w K:=by
 refine yq xr yR λd j h c i a=>?_;exact f _ j (Blk.own1 (t:=ze) (cs:=[]) (by rw[qK];exact a) (gM _) rfl rfl oM) c λb g=>by have e:d=b:=y2 g;omega
theorem spec_app {w0:World} {zs:List Int} {x:Int} {ty:Nat} (he:Ext w0 w) (l:OwnI ze w v zs) (i:∀b,v.ownBlock=some b->w0.heap.size<=b) (p:zs.length<=1000000)
  (j:∀v' w',OwnI ze w' v' (zs++[x])->Ext w0 w'->(∀b,v'.ownBlock=some b->w0.heap.size<=b)->K v' w'):
  vbuildS ze 1 [(0,nI x)] w λt w1=>vbi .append [ze,ze] ty [v,t] w1 K:=by
 refine zD xr yR xF rfl rfl λo q k a m c=>?_;refine(l.ext a).app1 xB c oM oM λv6 n f g e=>?_;have s:=he.size;exact j v6 n f (Ext.then (he.trans a) g λb d=>i b d) λb d=>(e b d).elim (i b) λh=>oM
theorem sturn7_spec (t:Ints Fx w xv xs) (v:xs.length<=100000) (n:SmL xs) (s:∀w' r,Ext w w'->OwnI ze w' r (M.negL xs)->(∀b,r.ownBlock=some b->w.heap.size<=b)->K r w'):vcall Wk #[xv] w K:=by
 refine zg {loops:=[(3,[3,4])]} Tryz.func133 ?_;refine spec_nil λv1 w1 m o k=>?_;refine vloop_up xs.length (λi u w'=> ∃r,u=[r,nI i]/\Ext w w'/\OwnI ze w' r (M.negL (xs.take i))/\∀b,r.ownBlock=some b->w.heap.size<=b) ⟨_,rfl,o,m,k⟩ ?_;rintro i _ g w2 C hi ⟨r,rfl,j,d,f⟩ q;have e:=Ints.ext t j;simp(disch:=first|(simp only[push_cast])|omega) only[push_cast,e.len];refine zb (λa=>?_) (λa=>?_)
 ·have c:i<xs.length:=oM;have hs:=n.get c;unfold Sm at hs;simp(disch:=first|(simp only[push_cast])|omega) only[push_cast,e.iaddr,e.load,zk,gG];refine spec_app j d f (by rw[M.negL_len,V0];omega) λv3 x h p l=>?_
  try simp(disch:=omega) only[push_cast,zk]
  refine q c _ _ ⟨v3,by simp,p,?_,l⟩;rw[M.take_add c 0];unfold M.negL at h⊢;rw[gr];exact h
 ·have c:i=xs.length:=oM;subst c;rw[gq] at d;exact s w2 r j d f
theorem sfill7_spec {m:Nat} {x:Int} (s:m<=100000) (q:∀w' r,Ext w w'->OwnI ze w' r (List.replicate m x)->(∀b,r.ownBlock=some b->w.heap.size<=b)->K r w'):vcall Wo #[nI x,nI m] w K:=by
 refine zg {loops:=[(3,[5,6])]} Tryz.func138 ?_;refine spec_nil λv1 w1 j n f=>?_;refine vloop_up m (λi u w'=> ∃r,u=[r,nI i]/\Ext w w'/\OwnI ze w' r (List.replicate i x)/\∀b,r.ownBlock=some b->w.heap.size<=b) ⟨_,rfl,n,j,f⟩ ?_;rintro i _ g w2 C hi ⟨r,rfl,l,e,d⟩ p;simp only[push_cast];refine zb (λa=>?_) (λa=>?_)
 ·have c:i<m:=oM;refine spec_app l e d (by rw[gu];omega) λv3 t k o h=>?_
  try simp(disch:=omega) only[push_cast,zk]
  refine p c _ _ ⟨v3,by simp,o,?_,h⟩;rw[List.replicate_succ'];exact k
 ·have c:i=m:=oM;subst c;exact q w2 r l e d
theorem sless7_spec (X:n<=8) (hk:MkR n D w cs st) (hD:∀b,D b->b<w.heap.size) (hx:Ints Fx w xv xs) (hy:Ints Fy w yv ys) (hl:xs.length<=ys.length) (h8:xs.length<=1000) (T:SnL st xs) (U:SnL st ys)
  (hK:∀w' cs' st' r,Ext w w'->MkR n D w' cs' st'->Sn st' r->M.Bd.Out n (M.lessB xs ys (-1)) st st' r->K (.tuple #[.agg ⟨cs'⟩,nI r]) w'):
  vcall Wm #[.agg ⟨cs⟩,xv,yv] w K:=by
 refine zg {ord:=[oz 6 (oR 15) [(0,[1,2,3,4,5,6,7,8]),(1,[2,5,6,7,8]),(2,[5,6,7,8]),(3,[5,6,7,8]),(4,[5,6,7,8]),(5,[6]),(11,[12]),(12,[13])],oz 7 (oR 13) [(0,[1,2,3,4,5,6]),(1,[2,3,4,5,6]),(2,[3,6]),(3,[6]),(4,[6]),(5,[6]),(9,[10]),(10,[11])]],loops:=[(3,[8,9])]} Tryz.func140 ?_;refine Fm.start hk hD λb4 b8 w1 h1=>?_;have v:=Ints.under hx;have y:=Ints.under hy;refine vloop_up xs.length (λi u w'=> ∃e r,u=[nI r,nI i]/\Fm n D (λ_=>False) w b4 b8 w' e/\SnL e xs/\SnL e ys/\Sn e r/\
  ∀st2 q,M.Bd.Out n (M.lessB (xs.drop i) (ys.drop i) r) e st2 q->M.Bd.Out n (M.lessB xs ys (-1)) st st2 q) ⟨st,-1,rfl,h1,T,U,Sn.of dC dC,λ_ _ h=>h⟩ ?_
 rintro i _ g w3 C hi ⟨E,Y,rfl,H,j,c,t,f⟩ hC;have S:=Ints.ext0 v H.ext;simp(disch:=first|(simp only[push_cast])|omega) only[push_cast,S.len];refine zb (λa2=>?_) (λa1=>?_)
 ·have k:i<xs.length:=oM;refine zd λW I _=>?_;have o:=H.grow I;have x:=Ints.ext0 v o.ext;have A:=Ints.ext0 y o.ext;obtain⟨c4,l,p⟩:=o.call;simp(disch:=first|(simp only[push_cast])|omega) only[push_cast,x.iaddr,x.load,A.iaddr,A.load,true_and,p W (Same.refl _ _)];refine sxor7_spec X l o.dl (j.get k) (c.get oM) λw5 Z a8 d J O hd a=>?_;simp only[push_cast,true_and];refine o.put J O λw6 h6 a4 a6=>?_
  try simp only[push_cast,true_and,and_self]
  refine zd λw7 L _=>?_;have F:=h6.grow L;have B:=Ints.ext0 y F.ext;obtain⟨c7,Q,s⟩:=F.call;simp(disch:=first|(simp only[push_cast])|omega) only[push_cast,B.iaddr,B.load,true_and,s w7 (Same.refl _ _)];refine sone7_spec X Q F.dl hd ((c.out a).get oM) (t.out a) λw8 a0 V q N R hq m=>?_;simp only[push_cast,true_and];refine F.put N R λw9 h9 a5 a7=>?_
  try simp(disch:=omega) only[push_cast,zk,true_and,and_self]
  refine hC k _ _ ⟨V,q,by simp<;>exact⟨rfl,rfl⟩,h9,(j.out a).out m,(c.out a).out m,hq,λst2 z ho=>f st2 z ?_⟩;rw[yW k,yW (show i<ys.length by omega)];exact kg a (M.Bd.Out.bind m ho)
 ·refine H.fin λW G e4 l a3=>?_;exact hK W G E Y e4 l t (f E Y (by rw[yS0 oM];exact M.Bd.Out.ret _ _))
theorem ssame7_spec (X:n<=8) (hk:MkR n D w cs st) (hD:∀b,D b->b<w.heap.size) (hx:Ints Fx w xv xs) (hy:Ints Fy w yv ys) (hl:xs.length<=ys.length) (h8:xs.length<=1000) (R:SnL st xs) (T:SnL st ys)
  (hK:∀w' cs' st' r,Ext w w'->MkR n D w' cs' st'->Sn st' r->M.Bd.Out n (M.sameB xs ys 1) st st' r->K (.tuple #[.agg ⟨cs'⟩,nI r]) w'):
  vcall Wl #[.agg ⟨cs⟩,xv,yv] w K:=by
 refine zg {ord:=[oz 6 (oR 15) [(0,[1,2,3,4,5,6,7,8]),(1,[2,5,6,7,8]),(2,[5,6,7,8]),(3,[5,6,7,8]),(4,[5,6,7,8]),(5,[6]),(11,[12]),(12,[13])]],loops:=[(3,[8,9])]} Tryz.func139 ?_;refine Fm.start hk hD λb4 b8 w1 h1=>?_;have v:=Ints.under hx;have S:=Ints.under hy;refine vloop_up xs.length (λi u w'=> ∃a r,u=[nI r,nI i]/\Fm n D (λ_=>False) w b4 b8 w' a/\SnL a xs/\SnL a ys/\Sn a r/\
  ∀st2 q,M.Bd.Out n (M.sameB (xs.drop i) (ys.drop i) r) a st2 q->M.Bd.Out n (M.sameB xs ys 1) st st2 q) ⟨st,1,rfl,h1,R,T,Sn.of dC dC,λ_ _ h=>h⟩ ?_
 rintro i _ g w3 C hi ⟨A,Y,rfl,E,f,j,t,e⟩ hC;have Q:=Ints.ext0 v E.ext;simp(disch:=first|(simp only[push_cast])|omega) only[push_cast,Q.len];refine zb (λa2=>?_) (λa1=>?_)
 ·have k:i<xs.length:=oM;refine zd λV H _=>?_;have o:=E.grow H;have x:=Ints.ext0 v o.ext;have y:=Ints.ext0 S o.ext;obtain⟨c4,l,p⟩:=o.call;simp(disch:=first|(simp only[push_cast])|omega) only[push_cast,x.iaddr,x.load,y.iaddr,y.load,true_and,p V (Same.refl _ _)];refine sxor7_spec X l o.dl (f.get k) (j.get oM) λw5 Z a8 d I L W c=>?_;simp only[push_cast,true_and];refine o.put I L λw6 F a4 a6=>?_;obtain⟨c6,N,s⟩:=F.call;have G:=W.1;unfold Sm at G;simp(disch:=omega) only[push_cast,true_and,and_self,s w6 (Same.refl _ _),zk,gG];refine sand7_spec X N F.dl (t.out c) W.neg λw8 a0 U q J O hq m=>?_;simp only[push_cast,true_and];refine F.put J O λw9 h9 a5 a7=>?_
  try simp(disch:=omega) only[push_cast,zk,true_and,and_self]
  refine hC k _ _ ⟨U,q,by simp<;>exact⟨rfl,rfl⟩,h9,(f.out c).out m,(j.out c).out m,hq,λst2 z ho=>e st2 z ?_⟩;rw[yW k,yW (show i<ys.length by omega)];exact kg c (xC m ho)
 ·refine E.fin λV B e4 l a3=>?_;exact hK V B A Y e4 l t (e A Y (by rw[yL0 oM];exact M.Bd.Out.ret _ _))
theorem sifs7_spec (hn:n<=8) (hk:MkR n D w cs st) (hD:∀b,D b->b<w.heap.size) (hx:Ints Fx w xv xs) (hy:Ints Fy w yv ys) (hl:xs.length<=ys.length) (h8:xs.length<=1000) (S:SnL st xs) (U:SnL st ys) (hc:Sn st c)
  (hK:∀w' cs' st' r zs,Ext w w'->MkR n D w' cs' st'->OwnI ze w' r zs->(∀b,r.ownBlock=some b->w.heap.size<=b)->SnL st' zs->M.Bd.Out n (M.eachB (M.muxB c) xs ys) st st' zs->K (.tuple #[.agg ⟨cs'⟩,r]) w'):
  vcall za0 #[.agg ⟨cs⟩,nI c,xv,yv] w K:=by
 refine zg {ord:=[oz 6 (oR 16) [(0,[1,2,3,4,5,6,7,8,9]),(1,[2,3,4,5,6,7,8,9]),(2,[3,6,7,8,9]),(3,[6,7,8,9]),(4,[6,7,8,9]),(5,[6,7,8,9]),(6,[7]),(12,[13]),(13,[14])]],loops:=[(3,[10,11])]} Tryz.func136 ?_;refine Fm.start hk hD λb4 b8 w1 h1=>?_;refine h1.nil λv2 w2 h2 J e2=>?_;have A:=Ints.under hx;have T:=Ints.under hy;refine vloop_up xs.length (λi u w'=> ∃a r zs,u=[r,nI i]/\Fm n D (O1 r) w b4 b8 w' a/\OwnI ze w' r zs/\zs.length=i/\SnL a zs/\SnL a xs/\SnL a ys/\Sn a c/\
  ∀st2 rs,M.Bd.Out n (M.eachB (M.muxB c) (xs.drop i) (ys.drop i)) a st2 rs->M.Bd.Out n (M.eachB (M.muxB c) xs ys) st st2 (zs++rs)) ⟨st,_,[],rfl,h2,J,rfl,SnL.nil,S,U,hc,λ_ _ h=>h⟩ ?_
 rintro i _ g w3 C hi ⟨G,Y,zs,rfl,o,z,V,F,j,k,t,f⟩ hC;have R:=Ints.ext0 A o.ext;simp(disch:=first|(simp only[push_cast])|omega) only[push_cast,R.len];refine zb (λa1=>?_) (λa0=>?_)
 ·have l:i<xs.length:=oM;refine zd λX v _=>?_;have p:=o.grow v;have B:=Ints.ext0 A p.ext;have E:=Ints.ext0 T p.ext;obtain⟨c4,m,y⟩:=p.call;simp(disch:=first|(simp only[push_cast])|omega) only[push_cast,B.iaddr,B.load,E.iaddr,E.load,true_and,y X (Same.refl _ _)];refine sone7_spec hn m p.dl t (j.get l) (k.get oM) λw5 Z W s x I hs d=>?_;simp only[push_cast,true_and];refine p.put x I λw6 h6 Q a2=>?_
  try simp only[push_cast,true_and,and_self]
  have L:OwnI ze w6 Y zs:=((z.ext v).ext x).same Q λb q=>(o.off b q).2.2.1;refine h6.app L oM λr7 w7 h7 N e7=>?_;simp(disch:=omega) only[push_cast,zk];refine hC l _ _ ⟨W,r7,zs++[s],by simp,h7,N,by simp[V],SnL.app (F.out d) (SnL.one hs),j.out d,k.out d,t.out d,λst2 rs ho=>?_⟩;have:=f st2 (s::rs) ?_
  ·simpa using this
  rw[XV l (show i<ys.length by omega)];exact M.Bd.Out.bind d (M.Bd.Out.map _ ho)
 ·have:=f G [] (by rw[Y8 oM];exact M.Bd.Out.ret _ _);rw[gz] at this;refine o.fin λX H e4 m O=>?_;exact hK X H G Y zs e4 m (z.same O λb q e=>(o.off b q).2.2.2 e) (λb q=>(o.off b q).2.1) F this
def kQ (op:Int):Int->Int->M.Bd Int:=if op=3 then λa b=> .and a b .ret else if op=4 then M.orB else λa b=> .xor a b .ret
theorem splain7_spec {op:Int} (hn:n<=8) (hk:MkR n D w cs st) (hD:∀b,D b->b<w.heap.size) (hx:Ints Fx w xv xs) (hy:Ints Fy w yv ys) (hl:xs.length<=ys.length) (h8:xs.length<=1000) (a4:SnL st xs) (a5:SnL st ys)
  (hK:∀w' cs' st' r zs,Ext w w'->MkR n D w' cs' st'->OwnI ze w' r zs->(∀b,r.ownBlock=some b->w.heap.size<=b)->SnL st' zs->M.Bd.Out n (M.eachB (kQ op) xs ys) st st' zs->K (.tuple #[.agg ⟨cs'⟩,r]) w'):
  vcall KM #[.agg ⟨cs⟩,nI op,xv,yv] w K:=by
 refine zg {ord:=[oz 9 (oR 15) [(0,[1,2,3,4,5,6,7,8]),(1,[2,5,6,7,8]),(2,[5,6,7,8]),(3,[5,6,7,8]),(4,[5,6,7,8]),(5,[6]),(11,[12]),(12,[13])],oz 11 (oR 15) [(0,[1,2,3,4,5,6,7,8]),(1,[2,5,6,7,8]),(2,[5,6,7,8]),(3,[5,6,7,8]),(4,[5,6,7,8]),(5,[6]),(11,[12]),(12,[13])],oz 7 (oR 15) [(0,[1,2,3,4,5,6,7,8]),(1,[2,5,6,7,8]),(2,[5,6,7,8]),(3,[5,6,7,8]),(4,[5,6,7,8]),(5,[6]),(11,[12]),(12,[13])]],loops:=[(3,[10,11])]} Tryz.func144 ?_;refine Fm.start hk hD λb4 b8 w1 h1=>?_;refine h1.nil λv2 w2 h2 a1 e2=>?_;have H:=Ints.under hx;have N:=Ints.under hy;refine vloop_up xs.length (λi u w'=> ∃B r zs,u=[r,nI i]/\Fm n D (O1 r) w b4 b8 w' B/\OwnI ze w' r zs/\zs.length=i/\SnL B zs/\SnL B xs/\SnL B ys/\
  ∀st2 rs,M.Bd.Out n (M.eachB (kQ op) (xs.drop i) (ys.drop i)) B st2 rs->M.Bd.Out n (M.eachB (kQ op) xs ys) st st2 (zs++rs)) ⟨st,_,[],rfl,h2,a1,rfl,SnL.nil,a4,a5,λ_ _ h=>h⟩ ?_
 rintro i _ g w3 C hi ⟨Q,r3,zs,rfl,E,G,O,I,f,j,J⟩ hC;have a3:=Ints.ext0 H E.ext;simp(disch:=first|(simp only[push_cast])|omega) only[push_cast,a3.len];refine zb (λa7=>?_) (λa6=>?_)
 ·have t:i<xs.length:=oM;have L:∀d s,M.Bd.Out n (kQ op (xs.getD i 0) (ys.getD i 0)) Q d s->∀st2 rs,M.Bd.Out n (M.eachB (kQ op) (xs.drop (i+1)) (ys.drop (i+1))) d st2 rs->M.Bd.Out n (M.eachB (kQ op) xs ys) st st2 ((zs++[s])++rs):=λd s c st2 rs ho=>by
   have:=J st2 (s::rs) ?_
   ·simpa using this
   rw[XV t (show i<ys.length by omega)];exact M.Bd.Out.bind c (M.Bd.Out.map _ ho)
  try simp only[push_cast]
  refine zb (λc3=>?_) (λc3=>?_)
  ·have W:kQ op=(λa b=> .and a b .ret):=by unfold kQ;rw[if_pos c3]
   refine zd λR l _=>?_;have k:=E.grow l;have p:=Ints.ext0 H k.ext;have q:=Ints.ext0 N k.ext;obtain⟨S,v,o⟩:=k.call;simp(disch:=first|(simp only[push_cast])|omega) only[push_cast,p.iaddr,p.load,q.iaddr,q.load,true_and,o R (Same.refl _ _)];refine sand7_spec hn v k.dl (f.get t) (j.get oM) λw5 T d s m x hs c=>?_;simp only[push_cast,true_and];refine k.put m x λZ U A X=>?_
   try simp only[push_cast,true_and,and_self]
   have y:OwnI ze Z r3 zs:=((G.ext l).ext m).same A λb F=>(E.off b F).2.2.1;refine U.app y oM λY w7 V z e7=>?_;simp(disch:=omega) only[push_cast,zk];exact hC t _ _ ⟨d,Y,zs++[s],by simp,V,z,by simp[O],SnL.app (I.out c) (SnL.one hs),f.out c,j.out c,L d s (by rw[W];exact c)⟩
  try simp only[push_cast]
  refine zb (λS=>?_) (λS=>?_)
  ·have W:kQ op=M.orB:=by unfold kQ;rw[if_neg c3,if_pos S]
   refine zd λR l _=>?_;have k:=E.grow l;have p:=Ints.ext0 H k.ext;have q:=Ints.ext0 N k.ext;obtain⟨S,v,o⟩:=k.call;simp(disch:=first|(simp only[push_cast])|omega) only[push_cast,p.iaddr,p.load,q.iaddr,q.load,true_and,o R (Same.refl _ _)];refine sor7_spec hn v k.dl (f.get t) (j.get oM) λw5 T d s m x hs c=>?_;simp only[push_cast,true_and];refine k.put m x λZ U A X=>?_
   try simp only[push_cast,true_and,and_self]
   have y:OwnI ze Z r3 zs:=((G.ext l).ext m).same A λb F=>(E.off b F).2.2.1;refine U.app y oM λY w7 V z e7=>?_;simp(disch:=omega) only[push_cast,zk];exact hC t _ _ ⟨d,Y,zs++[s],by simp,V,z,by simp[O],SnL.app (I.out c) (SnL.one hs),f.out c,j.out c,L d s (by rw[W];exact c)⟩
  have W:kQ op=(λa b=> .xor a b .ret):=by unfold kQ;rw[if_neg c3,if_neg S]
  refine zd λR l _=>?_;have k:=E.grow l;have p:=Ints.ext0 H k.ext;have q:=Ints.ext0 N k.ext;obtain⟨S,v,o⟩:=k.call;simp(disch:=first|(simp only[push_cast])|omega) only[push_cast,p.iaddr,p.load,q.iaddr,q.load,true_and,o R (Same.refl _ _)];refine sxor7_spec hn v k.dl (f.get t) (j.get oM) λw5 T d s m x hs c=>?_;simp only[push_cast,true_and];refine k.put m x λZ U A X=>?_
  try simp only[push_cast,true_and,and_self]
  have y:OwnI ze Z r3 zs:=((G.ext l).ext m).same A λb F=>(E.off b F).2.2.1;refine U.app y oM λY w7 V z e7=>?_;simp(disch:=omega) only[push_cast,zk];exact hC t _ _ ⟨d,Y,zs++[s],by simp,V,z,by simp[O],SnL.app (I.out c) (SnL.one hs),f.out c,j.out c,L d s (by rw[W];exact c)⟩
 ·have:=J Q [] (by rw[Y8 oM];exact M.Bd.Out.ret _ _);rw[gz] at this;refine E.fin λR a0 e4 v a2=>?_;exact hK R a0 Q r3 zs e4 v (G.same a2 λb F e=>(E.off b F).2.2.2 e) (λb F=>(E.off b F).2.1) I this
end
section
variable {w:World} {K:oK} {D F Fx Fy Y S O O':Nat->Prop} {n b4 b8:Nat} {v v' nv xv yv sv:Value} {cs cs':List Value} {st st':Option M.Gs} {a b c m x y r:Int} {xs ys:List Int}
abbrev Kp (b4 b8:Nat) (O:Nat->Prop):Nat->Prop:=λb=>b≠b4/\b≠b8/\¬O b
section
variable {w0 w':World}
theorem Ints.kp4 (h:Ints (Kp b4 b8 O) w xv xs) (hs:Same (· =b4) w w'):Ints (Kp b4 b8 O) w' xv xs:=Ints.same h hs λb a _ e=>a.1 e
theorem Ints.kpO (h:Ints (Kp b4 b8 O) w xv xs) (hs:Same S w w') (d:∀b,S b->O b) (hO:∀b,O' b->O b\/w.heap.size<=b):Ints (Kp b4 b8 O') w' xv xs:=by
 have c:Ints (λb=>Kp b4 b8 O b/\b<w.heap.size) w xv xs:=Ints.weaken h λb a f=>⟨a,f⟩;exact Ints.weaken (Ints.same c hs λb a _ e=>a.1.2.2 (d b e)) λb a _=>⟨a.1.1,a.1.2.1,λg=>(hO b g).elim a.1.2.2 λh=>by have:=a.2;omega⟩
theorem Fm.new {zs:List Int} (h:Fm n D O w0 b4 b8 w st) (d:OwnI ze w' v zs) (c:∀b,v.ownBlock=some b->w.heap.size<=b):Ints (Kp b4 b8 O) w' v zs:=Ints.weaken d.ints λb a _=>by
 have e:=c b a;have f:=h.lt4;exact⟨oM,oM,λhO=>by have:=(h.off b hO).1;omega⟩
theorem Fm.app' {zs:List Int} {x:Int} {ty:Nat} (h:Fm n D (O1 v) w0 b4 b8 w st) (l:OwnI ze w v zs) (r:zs.length<=1000000)
  (j:∀v' w',Fm n D (O1 v') w0 b4 b8 w' st->OwnI ze w' v' (zs++[x])->(∀xv xs,Ints (Kp b4 b8 (O1 v)) w xv xs->Ints (Kp b4 b8 (O1 v')) w' xv xs)->K v' w'):
  vbuildS ze 1 [(0,nI x)] w λt w1=>vbi .append [ze,ze] ty [v,t] w1 K:=by
 refine zD xr yR xF rfl rfl λq s k c o g=>?_;refine(l.ext c).app1 xB g oM oM λv6 p e f d=>?_;have i:=(h.grow c).own (O':=O1 v6) f (λb a=>a) λb a=>⟨e.lt a,d b a⟩;exact j v6 p i e λxv xs m=>Ints.kpO (Ints.ext m c) f (λb a=>a) λb a=>d b a
theorem Fm.take {zs:List Int} (h:Fm n D (λ_=>False) w0 b4 b8 w st) (he:Ext w w') (d:OwnI ze w' v zs) (c:∀b,v.ownBlock=some b->w.heap.size<=b):Fm n D (O1 v) w0 b4 b8 w' st:=
 h.own (S:=λ_=>False) he (λb a=>a) λb a=>⟨d.lt a,.inr (c b a)⟩
theorem Fm.drop (h:Fm n D O w0 b4 b8 w st):Fm n D (λ_=>False) w0 b4 b8 w st:=h.own (S:=λ_=>False) (Same.refl _ _) (λb a=>a.elim) λb a=>a.elim
end
theorem smul7_spec (hn:n<=8) (hk:MkR n D w cs st) (hD:∀b,D b->b<w.heap.size) (hx:Ints Fx w xv xs) (hy:Ints Fy w yv ys) (hl:xs.length=ys.length) (h8:xs.length<=900) (ap:SnL st xs) (ar:SnL st ys)
  (hK:∀w' cs' st' r zs,Ext w w'->MkR n D w' cs' st'->Ints (λb=>w.heap.size<=b) w' r zs->SnL st' zs->M.Bd.Out n (M.mulB xs ys 0 (M.offsL xs.length)) st st' zs->K (.tuple #[.agg ⟨cs'⟩,r]) w'):
  vcall z90 #[.agg ⟨cs⟩,xv,yv] w K:=by
 refine zg {ord:=[oz 10 (oR 17) [(0,[1,2,3,4,5,6,7,8,9,10]),(1,[2,3,4,7,8,9,10]),(2,[3,7,8,9,10]),(3,[7,8,9,10]),(4,[7,8,9,10]),(5,[7,8,9,10]),(6,[7,8,9,10]),(7,[8]),(13,[14]),(14,[15])]],loops:=[(3,[8,9]),(7,[10,11])]} Tryz.func141 ?_;refine Fm.start hk hD λb4 b8 w1 S=>?_;have Q:=Ints.under hx;have a4:=Ints.under hy;have an:=Ints.ext0 Q S.ext;simp(disch:=first|(simp only[push_cast])|omega) only[push_cast,an.len];refine sfill7_spec oM λw2 aa ae am ag=>?_;have lo:=S.lo;have s1:=S.ext.size;have a8:Ints (λb=>Kp b4 b8 (λ_=>False) b/\w.heap.size<=b) w2 aa (M.offsL xs.length):=Ints.weaken am.ints λb a _=>by
  have b0:=ag b a;have h2:=S.lt4;exact⟨⟨oM,oM,id⟩,oM⟩
 refine vloop_up ys.length (λi u w'=> ∃v sv s,u=[sv,nI i]/\Fm n D (λ_=>False) w b4 b8 w' v/\Ints (λb=>Kp b4 b8 (λ_=>False) b/\w.heap.size<=b) w' sv s/\s.length=xs.length/\SnL v s/\SnL v xs/\SnL v ys/\
  ∀st2 res,M.Bd.Out n (M.mulB xs (ys.drop i) i s) v st2 res->M.Bd.Out n (M.mulB xs ys 0 (M.offsL xs.length)) st st2 res) ⟨st,aa,_,rfl,S.grow ae,a8,M.offsL_len _,SnL.fill _,ap,ar,λ_ _ h=>h⟩ ?_
 rintro i _ g w3 C hi ⟨y,sv,s,rfl,h3,Z,b5,B,a3,a6,A⟩ hC;have aq:=Ints.ext0 a4 h3.ext;simp(disch:=first|(simp only[push_cast])|omega) only[push_cast,aq.len];refine zb (λb3=>?_) (λb1=>?_)
 ·have H:i<ys.length:=oM;refine sfill7_spec oM λw4 rv U X W=>?_;have h4:=h3.take U X W;have N:Ints (Kp b4 b8 (O1 rv)) w4 sv s:=Ints.kpO (O:=λ_=>False) (Ints.weaken Z λb a _=>a.1) U (λb a=>a.elim) λb a=> .inr (W b a);have az:(xs.take (xs.length-i)).length=xs.length-i:=by rw[V0];omega
  refine vloop_up (xs.length-i) (λj u w'=> ∃c rv zs,u=[rv,nI ((i+j:Nat):Int)]/\Fm n D (O1 rv) w b4 b8 w' c/\OwnI ze w' rv (M.offsL i++zs)/\zs.length=j/\Ints (Kp b4 b8 (O1 rv)) w' sv s/\SnL c zs/\SnL c s/\SnL c xs/\SnL c ys/\
   ∀st2 rs,M.Bd.Out n (M.rowB (ys.getD i 0) ((xs.take (xs.length-i)).drop j)) c st2 rs->M.Bd.Out n (M.rowB (ys.getD i 0) (xs.take (xs.length-i))) y st2 (zs++rs)) ⟨y,rv,[],rfl,h4,by rw[gz];exact X,rfl,N,SnL.nil,B,a3,a6,λ_ _ h=>h⟩ ?_
  rintro j _ g5 w5 C5 hj ⟨c,a9,zs,rfl,z,Y,av,a0,a7,E,q,t,o⟩ ad;have ao:=Ints.ext0 Q z.ext;simp(disch:=first|(simp only[push_cast])|omega) only[push_cast,ao.len];refine zb (λay=>?_) (λax=>?_)
  ·have V:j<xs.length-i:=oM;refine zd λw6 G _=>?_;have T:=z.grow G;have a2:=Ints.ext0 Q T.ext;have a5:=Ints.ext0 a4 T.ext;obtain⟨c6,I,m⟩:=T.call;have ei:((i:Int)+j)-i=(j:Int):=oM;simp(disch:=first|(simp only[push_cast])|omega) only[push_cast,zk,ei,a2.iaddr,a2.load,a5.iaddr,a5.load,true_and,m w6 (Same.refl _ _)];refine sand7_spec hn I T.dl (q.get oM) (t.get H) λw7 ac R d l J hd f=>?_;simp only[push_cast,true_and];refine T.put l J λw8 F x au=>?_
   try simp only[push_cast,true_and,and_self]
   have ak:OwnI ze w8 a9 (M.offsL i++zs):=((Y.ext G).ext l).same x λb a=>(z.off b a).2.2.1;have a1:Ints (Kp b4 b8 (O1 a9)) w8 sv s:=Ints.kp4 (Ints.ext (Ints.ext a0 G) l) x;refine F.app' ak (by rw[y3,M.offsL_len];omega) λaw w9 h9 al L=>?_
   try simp(disch:=omega) only[push_cast,zk]
   refine ad V _ _ ⟨R,aw,zs++[d],by simp<;>omega,h9,by rw[<-gV];exact al,by simp[av],L _ _ a1,SnL.app (a7.out f) (SnL.one hd),E.out f,q.out f,t.out f,λst2 rs ho=>?_⟩;have:=o st2 (d::rs) ?_
   ·simpa using this
   rw[qp0 oM,Xs V];exact xC f (M.Bd.Out.map _ ho)
  ·have b2:j=xs.length-i:=oM;have p:=o c [] (by rw[yM0 oM];exact M.Bd.Out.ret _ _);rw[gz] at p;obtain⟨c6,I,m⟩:=z.call;simp only[m w5 (Same.refl _ _)];refine sadd7_spec hn I z.dl a0 Y.ints (by rw[y3,M.offsL_len];omega) oM E (SnL.app (SnL.fill i) a7) (Sn.of dC dC) λw7 ac R nv ns l J f ah aj k=>?_;simp only[push_cast,true_and];refine z.put l J λw8 F x au=>?_
   try simp(disch:=omega) only[push_cast,zk]
   have ai:ns.length=xs.length:=by
    have:=M.sum_len k.reach;rw[y3,M.offsL_len] at this;omega
   have l5:=z.lt4;have s5:=z.ext.size;refine hC H _ _ ⟨R,nv,ns,by simp,F.drop,Ints.same (Ints.weaken (F':=λb=>Kp b4 b8 (λ_=>False) b/\w.heap.size<=b) f.ints λb a _=>by have:=ah b a;exact⟨⟨oM,oM,id⟩,oM⟩) x (λb a _ e=>a.1.1 e),ai,aj,q.out k,t.out k,λst2 res ho=>A st2 res ?_⟩;rw[yW H];exact M.Bd.Out.bind p (M.Bd.Out.bind k ho)
 ·refine h3.fin λw4 ab e4 af N=>?_;exact hK w4 ab y sv s e4 af (Ints.weaken (Ints.same Z N λb a _ e=>a.1.2.1 e) λb a _=>a.2) B (A y s (by rw[yR0 oM];exact M.Bd.Out.ret _ _))
theorem sfrom7_spec {op fill:Int} {j b:Nat} (hs:Ints Fx w sv xs) (f:j<xs.length) (h:xs.length<=1000) (g:b<=1000) (a:K (nI (M.fromL (decide (op=11)) fill xs b j)) w):
  vcall Wn #[nI op,sv,nI j,nI b,nI fill] w K:=by
 refine zg {} Tryz.func181 ?_;obtain⟨f1,f2,f3⟩:=from_at (up:=decide (op=11)) (fill:=fill) (s:=xs) (b:=b) f;simp(disch:=omega) only[push_cast,zk];refine zb (λc=>?_) (λc=>?_)
 ·rw[decide_eq_true c] at f1 f2 f3 a;simp only[if_true] at f1 f2 f3;rw[show(j:Int)-b=j+ -(b:Int) by omega]
  try simp(disch:=omega) only[push_cast,zk]
  refine zb (λd=>?_) (λd=>?_)
  ·rw[f2 d] at a;exact a
  try simp(disch:=first|(simp only[push_cast])|omega) only[push_cast,hs.len]
  refine zb (λe=>?_) (λe=>?_)
  ·rw[f3 e] at a;exact a
  simp(disch:=first|(simp only[push_cast])|omega) only[push_cast,hs.iaddr,hs.load];rw[f1 oM oM] at a;exact a
 ·rw[decide_eq_false c] at f1 f2 f3 a;simp only[gQ,if_false] at f1 f2 f3;refine zb (λd=>absurd d oM) (λd=>?_)
  try simp(disch:=first|(simp only[push_cast])|omega) only[push_cast,hs.len]
  refine zb (λe=>?_) (λe=>?_)
  ·rw[f3 e] at a;exact a
  simp(disch:=first|(simp only[push_cast])|omega) only[push_cast,hs.iaddr,hs.load];rw[f1 oM oM] at a;exact a
theorem from_sn {up:Bool} {fill:Int} {s:List Int} {b k:Nat} (a:Sn st fill) (hs:SnL st s) (c:k<s.length):Sn st (M.fromL up fill s b k):=by
 unfold M.fromL
 repeat' split
 all_goals first|exact a|exact hs.get oM
theorem sshift7_spec {op:Int} (hn:n<=8) (hk:MkR n D w cs st) (hD:∀b,D b->b<w.heap.size) (hx:Ints Fx w xv xs) (hy:Ints Fy w yv ys) (h1:1<=xs.length) (h8:xs.length<=1000) (b6:ys.length<=8) (a7:SnL st xs) (au:SnL st ys)
  (hK:∀w' cs' st' r zs,Ext w w'->MkR n D w' cs' st'->Ints (λb=>w.heap.size<=b) w' r zs->SnL st' zs->M.Bd.Out n (M.shiftB (decide (op=11)) (if op=13 then xs.getD (xs.length-1) 0 else-1) ys 0 xs) st st' zs->K (.tuple #[.agg ⟨cs'⟩,r]) w'):
  vcall KL #[.agg ⟨cs⟩,nI op,xv,yv] w K:=by
 refine zg {ord:=[oz 13 [0,1,2,3,4,5,6,7,8,10,12,13,14,15,9,11,16,17,18,19,20,21] [(0,[1,2,3,4,5,6,7,8,10,12,13,14,15,9,11]),(1,[2,5,6,7,8,10,12,13,14,15,9,11]),(2,[5,6,7,8,10,12,13,14,15,9,11]),(3,[5,6,7,8,10,12,13,14,15,9,11]),(4,[5,6,7,8,10,12,13,14,15,9,11]),(5,[6,7,8,10,12,13,14,15,9]),(6,[7,8,10,12,13,14,15,9]),(7,[8,10,12,13,14,15,9]),(8,[10,12,13,14,15]),(10,[12,13,14,15,9]),(12,[13,9,11]),(13,[9,11]),(14,[9,11]),(15,[9,11]),(18,[19]),(19,[20])]],loops:=[(6,[10,12]),(10,[13,14])],cuts:=[(16389,[11])]} Tryz.func143 ?_;refine Fm.start hk hD λb4 b8 w1 p=>?_;have a6:=Ints.under hx;have a8:=Ints.under hy;have lo:=p.lo;have s1:=p.ext.size;refine spec_nil λv2 w2 ao e2 X=>?_;refine ao.app xB (Ints.ext0 a6 (p.ext.trans e2)) (by simp;omega) (by simp;omega) λv3 w3 ap aq an=>?_;have l1:=p.lt4;have z2:=e2.size;have ae:Ext w1 w3:=Ext.then e2 aq λb f=>X b f;have Z:∀b,v3.ownBlock=some b->w1.heap.size<=b:=λb f=>(an b f).elim (X b) λh=>oM
 have h3:=p.grow ae;have ab:Ints (λb=>Kp b4 b8 (λ_=>False) b/\w.heap.size<=b) w3 v3 xs:=Ints.weaken ap.ints λb f _=>by
  have:=Z b f;exact⟨⟨oM,oM,id⟩,oM⟩
 have aj:Sn st (if op=13 then xs.getD (xs.length-1) 0 else-1):=by
  split
  ·exact a7.get oM
  ·exact Sn.of dC dC
 refine zq (λu w'=>u=[nI (if op=13 then xs.getD (xs.length-1) 0 else-1)]/\w'=w3) ?_ ?_
 ·intro J hJ;have U:=Ints.ext0 a6 h3.ext;simp only[push_cast];refine zb (λc=>?_) (λc=>?_)
  ·rw[if_pos c] at hJ;simp(disch:=first|(simp only[push_cast])|omega) only[push_cast,U.len,zk];rw[show((xs.length:Int)-1)=((xs.length-1:Nat):Int) by omega];rw[U.iaddr XW oM oM,gi,U.load Wf oM];exact hJ _ _ ⟨rfl,rfl⟩
  ·rw[if_neg c] at hJ;exact hJ _ _ ⟨rfl,rfl⟩
 rintro _ _ w4 ⟨rfl,rfl⟩;generalize (if op=13 then xs.getD (xs.length-1) 0 else-1)=fill at*;refine vloop_up ys.length (λi u w'=> ∃z sv s,u=[sv,nI i]/\Fm n D (λ_=>False) w b4 b8 w' z/\Ints (λb=>Kp b4 b8 (λ_=>False) b/\w.heap.size<=b) w' sv s/\s.length=xs.length/\SnL z s/\SnL z ys/\Sn z fill/\
  ∀st2 res,M.Bd.Out n (M.shiftB (decide (op=11)) fill (ys.drop i) i s) z st2 res->M.Bd.Out n (M.shiftB (decide (op=11)) fill ys 0 xs) st st2 res) ⟨st,v3,_,rfl,h3,ab,rfl,a7,au,aj,λ_ _ h=>h⟩ ?_
 rintro i _ g w5 C hi ⟨E,sv,s,rfl,h5,a4,b5,H,a9,ai,F⟩ hC;have ar:=Ints.ext0 a8 h5.ext;simp(disch:=first|(simp only[push_cast])|omega) only[push_cast,ar.len];refine zb (λb3=>?_) (λb1=>?_)
 ·have Q:i<ys.length:=oM;have hp:=pow_le4 (i:=i) oM;obtain⟨B,hB⟩:∃B,2^i=B:=⟨_,rfl⟩;refine spec_nil λrv w6 a2 W Y=>?_;have h6:=h5.take W a2 Y;have T:Ints (Kp b4 b8 (O1 rv)) w6 sv s:=Ints.kpO (O:=λ_=>False) (Ints.weaken a4 λb f _=>f.1) W (λb f=>f.elim) λb f=> .inr (Y b f);refine vloop_up s.length (λj u w'=> ∃k rv zs,u=[rv,nI j]/\Fm n D (O1 rv) w b4 b8 w' k/\OwnI ze w' rv zs/\zs.length=j/\Ints (Kp b4 b8 (O1 rv)) w' sv s/\SnL k zs/\SnL k s/\SnL k ys/\Sn k fill/\
   ∀st2 rs,M.Bd.Out n (M.eachB (M.muxB (ys.getD i 0)) (((List.range s.length).map (M.fromL (decide (op=11)) fill s B)).drop j) (s.drop j)) k st2 rs->M.Bd.Out n (M.eachB (M.muxB (ys.getD i 0)) ((List.range s.length).map (M.fromL (decide (op=11)) fill s B)) s) E st2 (zs++rs)) ⟨E,rv,[],rfl,h6,a2,rfl,T,SnL.nil,H,a9,ai,λ_ _ h=>h⟩ ?_
  rintro j _ g7 w7 C7 hj ⟨k,V,zs,rfl,h7,a3,av,a5,aa,x,y,N,v⟩ ah;simp(disch:=first|(simp only[push_cast])|omega) only[push_cast,a5.len];refine zb (λay=>?_) (λax=>?_)
  ·have m:j<s.length:=oM;refine zd λw8 I _=>?_;have A:=h7.grow I;have l:=Ints.ext a5 I;have a:=Ints.ext0 a8 A.ext;obtain⟨c8,al,q⟩:=A.call;simp(disch:=first|(simp only[push_cast])|omega) only[push_cast,l.iaddr,l.load,a.iaddr,a.load,true_and,q w8 (Same.refl _ _)];refine l1Two_nat oM ?_;rw[hB];simp(disch:=first|(simp only[push_cast])|omega) only[push_cast,l.iaddr,l.load,a.iaddr,a.load,true_and,and_self,q w8 (Same.refl _ _)];refine sfrom7_spec l m oM oM ?_;simp(disch:=first|(simp only[push_cast])|omega) only[push_cast,l.iaddr,l.load,a.iaddr,a.load,true_and,and_self,q w8 (Same.refl _ _)];refine sone7_spec hn al A.dl (y.get Q) (from_sn N x m) (x.get m) λw9 b0 aw d L am hd t=>?_;simp only[push_cast,true_and];refine A.put L am λw10 af G az=>?_
   try simp only[push_cast,true_and,and_self]
   have a0:OwnI ze w10 V zs:=((a3.ext I).ext L).same G λb f=>(h7.off b f).2.2.1;have S:Ints (Kp b4 b8 (O1 V)) w10 sv s:=Ints.kp4 (Ints.ext l L) G;refine af.app' a0 oM λac b7 ag a1 R=>?_
   try simp(disch:=omega) only[push_cast,zk]
   refine ah m _ _ ⟨aw,ac,zs++[d],by simp,ag,a1,by simp[av],R _ _ S,SnL.app (aa.out t) (SnL.one hd),x.out t,y.out t,N.out t,λst2 rs ho=>?_⟩;have:=v st2 (d::rs) ?_
   ·simpa using this
   rw[XV (by simpa using m) m,JE m];exact M.Bd.Out.bind t (M.Bd.Out.map _ ho)
  ·have b2:j=s.length:=oM;have o:=v k [] (by rw[Y8 (by simp;omega)];exact M.Bd.Out.ret _ _);rw[gz] at o
   try simp(disch:=omega) only[push_cast,zk]
   refine hC Q _ _ ⟨k,V,zs,by simp,h7.drop,Ints.weaken a3.ints (λb f _=>by have h9:=h7.off b f;exact⟨⟨h9.2.2.1,h9.2.2.2,id⟩,h9.2.1⟩),oM,aa,y,N,λst2 res ho=>F st2 res ?_⟩;rw[yW Q];rw[<-hB] at o;exact M.Bd.Out.bind o ho
 ·refine h5.fin λw6 ad e6 ak T=>?_;exact hK w6 ad E sv s e6 ak (Ints.weaken (Ints.same a4 T λb f _ e=>f.1.2.1 e) λb f _=>f.2) H (F E s (by rw[UV oM];exact M.Bd.Out.ret _ _))
end
section
variable {w:World} {K:oK} {D F Fx Fy Y S O:Nat->Prop} {n b4 b8:Nat} {v nv xv yv:Value} {cs cs':List Value} {st st':Option M.Gs} {a b c m x y r:Int} {xs ys:List Int}
theorem SnL.set {xs:List Int} (h:SnL st xs) {i:Nat} {x:Int} (b:Sn st x):SnL st (xs.set i x):=λy c=>by
 rcases pF c with a|a
 ·exact h y a
 ·rw[a];exact b
theorem SnL.take (h:SnL st xs) (m:Nat):SnL st (xs.take m):=λx a=>h x (gU a)
theorem sdiv7_spec (hn:n<=8) (hk:MkR n D w cs st) (hD:∀b,D b->b<w.heap.size) (hx:Ints Fx w xv xs) (hy:Ints Fy w yv ys) (hl:xs.length=ys.length) (h8:xs.length<=900) (cq:SnL st xs) (ct:SnL st ys)
  (hK:∀w' cs' st' qv rv q r,Ext w w'->MkR n D w' cs' st'->Ints (λb=>w.heap.size<=b) w' qv q->Ints (λb=>w.heap.size<=b) w' rv r->SnL st' q->SnL st' r->M.Bd.Out n (M.divB xs (ys++[-1]) xs.length (M.offsL xs.length) (M.offsL xs.length)) st st' (q,r)->K (.tuple #[.agg ⟨cs'⟩,qv,rv]) w'):
  vcall zb0 #[.agg ⟨cs⟩,xv,yv] w K:=by
 refine zg {ord:=[oz 13 (oR 10) [(0,[1,2,3]),(1,[2,3]),(6,[7]),(7,[8])],oz 14 (oR 14) [(0,[1,2,3,4,5,6,7]),(1,[2,3,4,5,6,7]),(2,[3,5,6,7]),(3,[5,6,7]),(4,[5,6,7]),(5,[6]),(10,[11]),(11,[12])]],loops:=[(6,[10,13])]} Tryz.func142 ?_;refine Fm.start hk hD λb4 b8 w1 h1=>?_;have bj:=Ints.under hx;have cr:=Ints.under hy;have lo:=h1.lo;have s1:=h1.ext.size;have l1:=h1.lt4;have cp:=Ints.ext0 bj h1.ext;simp(disch:=first|(simp only[push_cast])|omega) only[push_cast,cp.len];refine sfill7_spec oM λw2 bm a5 b7 az=>?_;refine sfill7_spec oM λw3 qv Q ab U=>?_;refine spec_nil λv4 w4 cc e4 ay=>?_;refine cc.app xB (Ints.ext0 cr (h1.ext.trans (a5.trans (Q.trans e4)))) (by simp;omega) (by simp;omega) λv5 w5 cd bb c9=>?_;have z2:=a5.size;have z3:=Q.size;have z4:=e4.size;have z5:=bb.size;have cm:∀b,v5.ownBlock=some b->w3.heap.size<=b:=λb a=>(c9 b a).elim (ay b) λh=>oM
 have bs:Ext w3 w5:=Ext.then e4 bb λb a=>ay b a;refine spec_app (w0:=w3) bs cd cm (by simp;omega) λwv w6 bi a2 b0=>?_;rw[gX] at bi;simp(disch:=omega) only[push_cast,zk];have ce:=ab.ext a2;have h2:=h1.grow a5;have h3:=h2.take Q ab U;have h6:Fm n D (O1 qv) w b4 b8 w6 st:=h3.grow a2;have bz:Ints (λb=>Kp b4 b8 (O1 qv) b/\w.heap.size<=b) w6 bm (M.offsL xs.length):=Ints.weaken (b7.ext (Q.trans a2)).ints λb a _=>by
  have bw:=az b a;have c6:=b7.lt a;exact⟨⟨oM,oM,λhq=>by have:=U b hq;omega⟩,oM⟩
 have c3:Ints (Kp b4 b8 (O1 qv)) w6 wv (ys++[-1]):=Ints.weaken bi.ints λb a _=>by
  have bw:=b0 b a;exact⟨oM,oM,λhq=>by have:=ab.lt hq;omega⟩
 have dd:(ys++[(-1:Int)]).length=xs.length+1:=by rw[y3,hl];rfl
 have co:SnL st (ys++[(-1:Int)]):=ct.app (SnL.one (Sn.of dC dC));generalize ys++[(-1:Int)]=wide at*;refine jB (λm u w'=> ∃B rv r q,u=[rv,nI ((m:Int)-1)]/\m<=xs.length/\Fm n D (O1 qv) w b4 b8 w' B/\Ints (λb=>Kp b4 b8 (O1 qv) b/\w.heap.size<=b) w' rv r/\r.length=xs.length/\SnL B r/\OwnI ze w' qv q/\q.length=xs.length/\SnL B q/\Ints (Kp b4 b8 (O1 qv)) w' wv wide/\SnL B wide/\SnL B xs/\
  ∀st2 res,M.Bd.Out n (M.divB xs wide m r q) B st2 res->M.Bd.Out n (M.divB xs wide xs.length (M.offsL xs.length) (M.offsL xs.length)) st st2 res) xs.length
  ⟨st,bm,_,_,rfl,gp _,h6,bz,M.offsL_len _,SnL.fill _,ce,M.offsL_len _,SnL.fill _,c3,co,cq,λ_ _ h=>h⟩ ?_
 rintro m _ g w7 C ⟨ad,rv,r,q,rfl,hm,h7,b9,cg,ba,b5,cf,b6,cn,z,Z,V⟩ hC;simp only[push_cast];refine zb (λdb=>?_) (λc6=>?_)
 ·obtain⟨m,rfl⟩:∃j,m=j+1:=⟨m-1,oM⟩;have c8:m<xs.length:=oM;rw[show((m+1:Nat):Int)-1=(m:Int) by omega];have bk:=Ints.ext0 bj h7.ext;rw[bk.iaddr XW oM oM,gi,bk.load Wf oM];refine zD xr yR xF rfl rfl λa0 w8 da ao de bx=>?_;have ci:OwnI ze w8 (.slice (some ⟨a0,0,none⟩) 1 1) [xs.getD m 0]:=Blk.own1 (t:=ze) (cs:=[nI (xs.getD m 0)]) (by rw[qK];exact bx) (gM _) rfl rfl oM;refine ci.app xB (Ints.ext b9 ao) (by simp;omega) (by simp;omega) λtv w9 cj ch ca=>?_;have ah:Ext w7 w9:=Ext.then ao ch λb a=>by have e:a0=b:=y2 a;omega
  have ck:∀b,tv.ownBlock=some b->w7.heap.size<=b:=λb a=>(ca b a).elim (λh=>by have e:a0=b:=y2 h;omega) λh=>oM;have h9:=h7.grow ah;have c0:Ints (Kp b4 b8 (O1 qv)) w9 tv (xs.getD m 0::r):=h7.new cj ck;have ac:SnL ad (xs.getD m 0::r):=(SnL.one (Z.get c8)).app ba;have bd:(xs.getD m 0::r).length=xs.length+1:=(by rw[gw,cg]);refine spec_nil λvz w10 d0 a1 cb=>?_;have E:=h9.grow a1;have R:=ah.trans a1;have S:Ints (Kp b4 b8 (O1 qv)) w10 tv (xs.getD m 0::r):=Ints.ext c0 a1;have X:Ints (Kp b4 b8 (O1 qv)) w10 wv wide:=Ints.ext cn R;have b1:=b5.ext R;generalize ht:xs.getD m 0::r=t at*;obtain⟨d6,ap,a6⟩:=E.call;simp only[a6 w10 (Same.refl _ _)];refine sless7_spec hn ap E.dl S X oM oM ac z λdg cx bn l v aq I d=>?_;simp only[push_cast,true_and];refine E.put v aq λae ai L d1=>?_;have W:OwnI ze ae qv q:=(b1.ext v).same L λb a=>(E.off b a).2.2.1;have ak:Ints (Kp b4 b8 (O1 qv)) ae tv t:=Ints.kp4 (Ints.ext S v) L;have bg:Ints (Kp b4 b8 (O1 qv)) ae wv wide:=Ints.kp4 (Ints.ext X v) L;have c5:=I.1;unfold Sm at c5;simp(disch:=omega) only[push_cast,zk,gG];rw[W.ints.iaddr XW oM oM,gi];refine W.st yR oM λaf b2 N d2=>?_;have bt:Fm n D (O1 qv) w b4 b8 af bn:=ai.own N (λb a=>a) λb a=>⟨by have:=(ai.off b a).1;omega,.inl a⟩;have al:Ints (Kp b4 b8 (O1 qv)) af tv t:=Ints.same ak N λb a _ e=>a.2.2 e;have Y:Ints (Kp b4 b8 (O1 qv)) af wv wide:=Ints.same bg N λb a _ e=>a.2.2 e;refine zd λcw k _=>?_;have a3:=bt.grow k;obtain⟨d7,ar,J⟩:=a3.call;simp only[push_cast,true_and,J cw (Same.refl _ _)];refine sturn7_spec (Ints.ext Y k) oM (z.sm) λag nv i ax a8=>?_;have a4:=a3.grow i;have aj:Ints (Kp b4 b8 (O1 qv)) ag nv (M.negL wide):=a3.new ax a8;have T:Ints (Kp b4 b8 (O1 qv)) ag tv t:=Ints.ext (Ints.ext al k) i;simp only[push_cast,true_and,and_self,J ag i];refine sadd7_spec hn (ar.ext i λ_ h _=>h) a4.dl T aj (by rw[M.negL_len];omega) oM (ac.out d) ((z.out d).neg) (Sn.of dC dC) λdh cy d5 uv us x au be a9 cl f=>?_;simp only[push_cast,true_and];refine a4.put x au λbp bu y d3=>?_;have bf:us.length=xs.length+1:=by
   have:=M.sum_len f.reach;rw[M.negL_len] at this;omega
  have an:Ints (Kp b4 b8 (O1 qv)) bp uv us:=Ints.kp4 (a4.new be a9) y;have am:Ints (Kp b4 b8 (O1 qv)) bp tv t:=Ints.kp4 (Ints.ext T x) y
  try simp only[push_cast,true_and,and_self]
  refine zd λs o _=>?_;have A:=bu.grow o;obtain⟨d8,av,a7⟩:=A.call;have F:=Ints.ext am o;have G:=Ints.ext an o;have eT:xq ze tv none (some (nI xs.length)) none s=λK=>K (cutV tv xs.length) s:=by
   funext K
   by_cases c:xs.length<=t.length
   ·exact Sl.cut F (Sl.base F (by simp;intro h;rw[h] at bd;simp at bd)) XW (by simpa using c)
   ·omega
  have eU:xq ze uv none (some (nI xs.length)) none s=λK=>K (cutV uv xs.length) s:=by
   funext K
   exact Sl.cut G (Sl.base G (by simp;intro h;rw[h] at bf;simp at bf)) XW (by simpa using(show xs.length<=us.length by omega))
  have c1:Ints (Kp b4 b8 (O1 qv)) s (cutV tv xs.length) (t.take xs.length):=by
   have:=Sl.taken F (n:=xs.length) (by simpa using(show xs.length<=t.length by omega));unfold Ints Vals;rw[Gw,Gw];exact this
  have c2:Ints (Kp b4 b8 (O1 qv)) s (cutV uv xs.length) (us.take xs.length):=by
   have:=Sl.taken G (n:=xs.length) (by simpa using(show xs.length<=us.length by omega));unfold Ints Vals;rw[Gw,Gw];exact this
  simp only[push_cast,true_and,a7 s (Same.refl _ _),eT,eU];refine sifs7_spec hn av A.dl c1 c2 (by rw[V0,V0];omega) (by rw[V0];omega) (((ac.out d).out f).take _) (cl.take _) (I.out f) λdi cz bo zv zs H aw bl aa cv p=>?_;simp only[push_cast,true_and];refine A.put H aw λbq bv O d4=>?_
  try simp(disch:=omega) only[push_cast,true_and,and_self,zk]
  have cu:zs.length=xs.length:=by
   have:=M.each_len p.reach;rw[V0,V0] at this;omega
  have b3:OwnI ze bq qv (q.set m (-l)):=by
   have off:∀b,qv.ownBlock=some b->¬b=b4:=λb a=>(E.off b a).2.2.1;exact((((((b2.ext k).ext i).ext x).same y off).ext o).ext H).same O off
  have bh:Ints (Kp b4 b8 (O1 qv)) bq wv wide:=Ints.kp4 (Ints.ext (Ints.ext (Ints.kp4 (Ints.ext (Ints.ext (Ints.ext Y k) i) x) y) o) H) O;have df:=A.ext.size;refine hC m _ _ oM ⟨bo,zv,zs,q.set m (-l),by simp<;>exact⟨rfl,rfl⟩,oM,bv,Ints.same (Ints.weaken (F':=λb=>Kp b4 b8 (O1 qv) b/\w.heap.size<=b) bl.ints λb a _=>by
   have d9:=aa b a;have dc:=A.lt4;exact⟨⟨oM,oM,λhO=>by have:=(A.off b hO).1;omega⟩,oM⟩) O (λb a _ e=>a.1.1 e),cu,cv,b3,by rw[gB];exact cf,(((b6.out d).set I.neg).out f).out p,bh,((z.out d).out f).out p,((Z.out d).out f).out p,λst2 res ho=>V st2 res ?_⟩
  subst ht;exact yX0 d f p ho
 ·have c7:m=0:=oM;subst c7;refine h7.fin λw8 br e8 c4 bc=>?_;exact hK w8 br ad qv rv q r e8 c4 (Ints.weaken (b5.same bc λb a e=>(h7.off b a).2.2.2 e).ints λb a _=>(h7.off b a).2.1) (Ints.weaken (Ints.same b9 bc λb a _ e=>a.1.2.1 e) λb a _=>a.2) b6 ba (V ad (q,r) (by unfold M.divB;exact M.Bd.Out.ret _ _))
end
section
variable {w:World} {K:oK} {D F Fx Fy Y S O:Nat->Prop} {n b4 b8:Nat} {v v' nv xv yv:Value} {cs cs':List Value} {st st':Option M.Gs} {a b c m x y r:Int} {xs ys:List Int}
abbrev New (w:World):Nat->Prop:=λb=>w.heap.size<=b
theorem Fm.res {w0 c:World} {rv:Value} {zs:List Int} (h:Fm n D O w0 b4 b8 w st) (he:Ext w c) (k:MkR n (Y90 D O b4 b8) c cs' st') (m:Ints (New w) c rv zs)
  (j:∀a,Ext w0 a->MkR n D a cs' st'->Ints (New w0) a rv zs->K (.tuple #[.agg ⟨cs'⟩,rv]) a):
  zR zB (oP b8 0) (.agg ⟨cs'⟩) c λ_ a=>vlv zB (oP b8 0) a λo p=>K (.tuple #[o,rv]) p:=by
 refine h.out he k λa i f g=>j a i f ?_;have l:=h.lt4;have s:=h.ext.size;exact Ints.weaken (Ints.same m g λb d _ e=>by have:w.heap.size<=b:=d;omega) λb d _=>by have:w.heap.size<=b:=d;show w0.heap.size<=b;omega
theorem qX {w0:World} {rv:Value} {zs:List Int} (d:OwnI ze w rv zs) (c:∀b,rv.ownBlock=some b->w0.heap.size<=b):Ints (New w0) w rv zs:=Ints.weaken d.ints λb a _=>c b a
theorem sbin7_spec {op:Int} (h3:3<=op) (aw:op<=14) (R:n<=8) (hk:MkR n D w cs st) (hD:∀b,D b->b<w.heap.size) (hx:Ints Fx w xv xs) (hy:Ints Fy w yv ys) (Y:op≠14->xs.length=ys.length) (ap:1<=xs.length) (h8:xs.length<=8) (ax:ys.length<=8) (t:SnL st xs) (j:SnL st ys)
  (z:∀w' cs' st' r zs,Ext w w'->MkR n D w' cs' st'->Ints (New w) w' r zs->SnL st' zs->M.Bd.Out n (M.binB op xs ys) st st' zs->K (.tuple #[.agg ⟨cs'⟩,r]) w'):
  vcall zd0 #[.agg ⟨cs⟩,nI op,xv,yv] w K:=by
 refine zg {ord:=[oz 5 (oR 9) [(0,[1,2,3]),(1,[2,3]),(5,[6])],oz 19 [0,2,4,1,3,5,6,7] [(0,[2,4,1,3,5]),(2,[4,1]),(4,[1,3])]],cuts:=[(61457,[66])]} Tryz.func102 ?_;refine Fm.start hk hD λb4 b8 w1 m=>?_;have s:=Ints.ext (Ints.under hx) m.ext;have v:=Ints.ext (Ints.under hy) m.ext;unfold M.binB at z;obtain⟨c1,o,e⟩:=m.call;simp only[push_cast];refine zb (λc=>?_) (λc6=>?_)
 ·subst c;simp only[if_neg (show¬(6:Int)=14 by decide),if_neg (show¬(6:Int)=3 by decide),if_neg (show¬(6:Int)=4 by decide),if_neg (show¬(6:Int)=5 by decide),if_true] at z;simp only[e w1 (Same.refl _ _)];refine sadd7_spec R o m.dl s v (by have:=Y dC;omega) oM t j (Sn.of dC dC) λw2 x st2 rv zs f g E a3 V B=>?_;simp only[push_cast];exact m.res f g (qX E a3) λC e3 A k=>z C x st2 rv zs e3 A k V B
 try simp only[push_cast]
 refine zb (λc=>?_) (λc7=>?_)
 ·subst c;simp only[if_neg (show¬(7:Int)=14 by decide),if_neg (show¬(7:Int)=3 by decide),if_neg (show¬(7:Int)=4 by decide),if_neg (show¬(7:Int)=5 by decide),if_neg (show¬(7:Int)=6 by decide),if_true] at z;refine zd λw2 f _=>?_;simp only[e w2 f,true_and];refine sturn7_spec (Ints.ext v f) oM j.sm λC nv a ah av=>?_;simp only[e C (f.trans a),true_and,and_self];have a1:=(m.grow f).grow a;refine sadd7_spec R (o.ext (f.trans a) λ_ h _=>h) a1.dl (Ints.ext s (f.trans a)) ah.ints (by rw[M.negL_len];have:=Y dC;omega) oM t j.neg (Sn.of dC dC) λZ ac ar rv zs ae af am a5 W S=>?_;simp only[push_cast,true_and];exact a1.res ae af (qX am a5) λF H i l=>z F ac ar rv zs H i l W S
 try simp only[push_cast]
 refine zb (λc=>?_) (λc8=>?_)
 ·subst c;simp only[if_neg (show¬(8:Int)=14 by decide),if_neg (show¬(8:Int)=3 by decide),if_neg (show¬(8:Int)=4 by decide),if_neg (show¬(8:Int)=5 by decide),if_neg (show¬(8:Int)=6 by decide),if_neg (show¬(8:Int)=7 by decide),if_true] at z;simp only[e w1 (Same.refl _ _)];refine smul7_spec R o m.dl s v (Y dC) oM t j λw2 x st2 rv zs f g E V B=>?_;simp only[push_cast];exact m.res f g E λC e3 A k=>z C x st2 rv zs e3 A k V B
 try simp only[push_cast]
 refine zb (λc=>?_) (λc9=>?_)
 ·subst c;simp only[if_neg (show¬(9:Int)=14 by decide),if_neg (show¬(9:Int)=3 by decide),if_neg (show¬(9:Int)=4 by decide),if_neg (show¬(9:Int)=5 by decide),if_neg (show¬(9:Int)=6 by decide),if_neg (show¬(9:Int)=7 by decide),if_neg (show¬(9:Int)=8 by decide),if_true] at z;simp only[e w1 (Same.refl _ _)];refine sdiv7_spec R o m.dl s v (Y dC) oM t j λw2 x st2 qv rv q r f g a6 E a7 a8 B=>?_;simp only[push_cast];refine zi xu λaa C ad a k O=>?_;refine mk_put O rfl g.len g.one λZ U W Q=>?_;rw[Ke Q g.len];have y:Ext w2 Z:=Ext.then a U λb I=>oM;exact m.res (f.trans y) (g.ext y λ_ h _=>h) (Ints.ext a6 y) λF H i l=>z F x st2 qv q H i l a7 (M.Bd.Out.map _ B)
 try simp only[push_cast]
 refine zb (λc=>?_) (λab=>?_)
 ·subst c;simp only[if_neg (show¬(10:Int)=14 by decide),if_neg (show¬(10:Int)=3 by decide),if_neg (show¬(10:Int)=4 by decide),if_neg (show¬(10:Int)=5 by decide),if_neg (show¬(10:Int)=6 by decide),if_neg (show¬(10:Int)=7 by decide),if_neg (show¬(10:Int)=8 by decide),if_neg (show¬(10:Int)=9 by decide),if_true] at z;simp only[e w1 (Same.refl _ _)];refine sdiv7_spec R o m.dl s v (Y dC) oM t j λw2 x st2 qv rv q r f g a6 E a7 a8 B=>?_;simp only[push_cast];refine zi xu λaa C ad a k O=>?_;refine mk_put O rfl g.len g.one λZ U W Q=>?_;rw[Ke Q g.len];have y:Ext w2 Z:=Ext.then a U λb I=>oM;exact m.res (f.trans y) (g.ext y λ_ h _=>h) (Ints.ext E y) λF H i l=>z F x st2 rv r H i l a8 (M.Bd.Out.map _ B)
 refine zq (λu w'=>u=[.bool (decide (op=11\/op=12\/op=13))]/\w'=w1) ?_ ?_
 ·intro J hJ
  try simp only[push_cast]
  refine zb (λc=>?_) (λc=>?_)
  ·refine hJ _ _ ⟨?_,rfl⟩;rw[decide_eq_true c,decide_eq_true (.inl c)]
  try simp only[push_cast]
  refine zb (λd=>?_) (λd=>?_)
  ·refine hJ _ _ ⟨?_,rfl⟩;rw[decide_eq_true d,decide_eq_true (.inr (.inl d))]
  try simp only[push_cast]
  refine hJ _ _ ⟨?_,rfl⟩;rw[decide_eq_decide.2 (show(op=11\/op=12\/op=13)↔op=13 from⟨λh=>oM,λh=> .inr (.inr h)⟩)]
 rintro _ _ w2 ⟨rfl,rfl⟩
 try simp only[push_cast]
 refine zb (λc=>?_) (λau=>?_)
 ·simp only[e w2 (Same.refl _ _)];refine sshift7_spec R o m.dl s v ap oM oM t j λC L X rv zs a A T k p=>?_;simp only[push_cast];refine m.res a A T λF H i l=>z F L X rv zs H i l k ?_;rw[if_neg oM,if_neg oM,if_neg oM,if_neg oM,if_neg c6,if_neg c7,if_neg c8,if_neg c9,if_neg ab];rcases c with rfl|rfl|rfl
  ·exact p
  ·exact p
  ·exact p
 try simp only[push_cast]
 refine zb (λc=>?_) (λa0=>?_)
 ·rw[if_pos c] at z;refine zd λC a _=>?_;simp only[e C a,true_and];refine spec_nil λv4 Z S e4 a2=>?_;simp only[e Z (a.trans e4),true_and,and_self];refine S.app xB (Ints.ext v (a.trans e4)) (by simp;omega) (by simp;omega) λv5 F ak an ai=>?_;have z3:=a.size;have z4:=e4.size;have G:Ext C F:=Ext.then e4 an λb I=>a2 b I;simp only[e F (a.trans G),true_and,and_self];have a9:∀b,v5.ownBlock=some b->C.heap.size<=b:=λb I=>(ai b I).elim (a2 b) λh=>oM;refine ak.app xB (Ints.ext s (a.trans G)) (by simp;omega) (by simp;omega) λv6 w6 al ao aj=>?_;have z5:=G.size;have N:Ext C w6:=Ext.then G ao λb I=>a9 b I;simp only[e w6 (a.trans N),true_and,and_self];refine m.res (a.trans N) (o.ext (a.trans N) λ_ h _=>h) (qX al λb I=>(aj b I).elim (λh=>by have:=a9 b h;omega) λh=>oM) λw7 e7 ag aq=>z w7 c1 st v6 _ e7 ag aq (by rw[gX];exact j.app t) (M.Bd.Out.ret _ _)
 simp only[e w2 (Same.refl _ _)];refine splain7_spec R o m.dl s v (by have:=Y a0;omega) oM t j λC L X rv zs a A T a4 k p=>?_;simp only[push_cast];refine m.res a A (qX T a4) λF H i l=>z F L X rv zs H i l k ?_;rw[if_neg a0];unfold kQ at p;rcases(by omega:op=3\/op=4\/op=5) with rfl|rfl|rfl
 ·exact p
 ·exact p
 ·exact p
theorem sun7_spec {op:Int} (X:op=1\/op=2) (S:n<=8) (R:MkR n D w cs st) (hD:∀b,D b->b<w.heap.size) (T:Ints Fx w xv xs) (W:xs.length<=8) (f:SnL st xs)
  (k:∀w' cs' st' r zs,Ext w w'->MkR n D w' cs' st'->Ints (New w) w' r zs->SnL st' zs->M.Bd.Out n (M.unB op xs) st st' zs->K (.tuple #[.agg ⟨cs'⟩,r]) w'):
  vcall yn0 #[.agg ⟨cs⟩,nI op,xv] w K:=by
 refine zg {ord:=[oz 2 (oR 5) [(0,[1,2])],oz 3 [0,1,2,4,3,5,6,7,8,9,10] [(0,[1,2,4,3,5]),(1,[4]),(2,[4]),(4,[3]),(7,[8])]]} Tryz.func100 ?_;refine Fm.start R hD λb4 b8 w1 t=>?_;have q:=Ints.ext (Ints.under T) t.ext;unfold M.unB at k;obtain⟨c1,m,d⟩:=t.call;simp only[push_cast];refine zb (λc=>?_) (λc=>?_)
 ·rw[if_pos c] at k;refine zd λw2 a _=>?_;simp only[d w2 a,true_and];refine sturn7_spec (Ints.ext q a) oM f.sm λG nv e z o=>?_;simp only[d G (a.trans e),true_and,and_self];have z2:=a.size;exact t.res (a.trans e) (m.ext (a.trans e) λ_ h _=>h) (qX z λb Q=>by have:=o b Q;omega) λL N i j=>k L c1 st nv _ N i j f.neg (M.Bd.Out.ret _ _)
 ·rw[if_neg c] at k;refine zd λw2 a _=>?_;have s:=Ints.ext q a;simp(disch:=first|(simp only[push_cast])|omega) only[push_cast,d w2 a,true_and,s.len];refine sfill7_spec oM λG fv e x I=>?_;simp only[d G (a.trans e),true_and,and_self];refine sturn7_spec (Ints.ext s e) oM f.sm λU nv l A J=>?_;have g:=a.trans (e.trans l);simp only[d U g,true_and,and_self];have H:=t.grow g;refine sadd7_spec S (m.ext g λ_ h _=>h) H.dl (x.ext l).ints A.ints (by rw[M.negL_len,gu];omega) (by rw[gu];omega) (SnL.fill _) f.neg (Sn.of dC dC) λL u F rv zs v i C p j B=>?_;simp only[push_cast,true_and];exact H.res v i (qX C p) λV O y E=>k V u F rv zs O y E j B
theorem swap_get (xs ys:List Int) (h:xs.length=ys.length) (e:1<=xs.length):xs.take (xs.length-1)++[ys.getD (xs.length-1) 0]=M.swapT xs ys:=by
 unfold M.swapT;refine gC (by simp;omega) λi b a=>?_;rw[G0];by_cases c:xs.length-1=i
 ·subst c;rw[if_pos rfl,List.getElem_append_right (by simp)];simp
 ·have d:i<xs.length:=(by simpa using a);rw[if_neg c,Py (by simp;omega),List.getElem_take]
theorem cut_app {w0:World} {vx:Value} {zs:List Int} {x:Int} {f:Nat} {t0:TypeId} (n:Ext w0 w) (u:Ints Fx w vx zs) (z:zs.length<=1000) (p:Blk w f [nI x] t0) (r:w0.heap.size<=f) (s:OwnI ze w v []) (m:∀b,v.ownBlock=some b->w0.heap.size<=b/\b≠f)
  (q:∀w' v',Ext w0 w'->OwnI ze w' v' (zs++[x])->(∀b,v'.ownBlock=some b->w0.heap.size<=b)->K v' w'):
  vbi .append [ze,ze] ze [v,vx] w λt w1=>vbi .append [ze,ze] ze [t,.slice (some ⟨f,0,none⟩) 1 1] w1 K:=by
 have A:=n.size;refine s.app xB u (by simp;omega) (by simp;omega) λv2 w2 j c g=>?_;have s2:=c.size;refine OwnI.app1 j xB (p.same c λe=>(m _ e).2 rfl) (by simp;omega) (by simp;omega) λv3 y k l i=>?_;have o:Ext w0 w2:=Ext.then n c λb a=>(m b a).1;have d:∀b,v2.ownBlock=some b->w0.heap.size<=b:=λb a=>(g b a).elim (λh=>(m b h).1) λh=>oM
 exact q y v3 (Ext.then o l λb a=>d b a) (by simpa using k) λb a=>(i b a).elim (d b) λh=>oM
theorem top_region {J:List Value->World->Prop} (hx:Ints Fx w xv xs) (hy:Ints Fy w yv ys) (hl:xs.length=ys.length) (t:1<=xs.length) (h8:xs.length<=8) (X:∀w' r,Ext w w'->OwnI ze w' r (M.swapT xs ys)->(∀b,r.ownBlock=some b->w.heap.size<=b)->J [r] w'):
  kL w λa=>
    xq ze xv none (some (nI ((xs.length-1:Nat):Int))) none a λt36 L=>L=a/\
    zU ze yv (nI ((xs.length-1:Nat):Int)) a λt40 N=>N=a/\
    zu zC t40 a λt41 O=>O=a/\
    (vbuildS ze 0 [] a λt33 c=>(zu zC t40 c λv x=>v=t41/\x=c)/\(zU ze yv (nI ((xs.length-1:Nat):Int)) c λv x=>v=t40/\x=c)/\(xq ze xv none (some (nI ((xs.length-1:Nat):Int))) none c λv x=>v=t36/\x=c)/\
     (vbi .append [ze,ze] ze [t33,t36] c λt37 d=>(zu zC t40 d λv x=>v=t41/\x=d)/\(zU ze yv (nI ((xs.length-1:Nat):Int)) d λv x=>v=t40/\x=d)/\
      (vbuildS ze 1 [(0,t41)] d λt42 Q=>
       (vbi .append [ze,ze] ze [t37,t42] Q λt43 R=>
        J [t43] R)/\
       True)/\
      True)/\
     (vbuildS ze 1 [(0,t41)] c λD k=>(xq ze xv none (some (nI ((xs.length-1:Nat):Int))) none k λv x=>v=t36/\x=k)/\
      (vbi .append [ze,ze] ze [t33,t36] k λB S=>
       (vbi .append [ze,ze] ze [B,D] S λF T=>
        J [F] T)/\
       True)/\
      True)/\
     True)/\
    (vbuildS ze 1 [(0,t41)] a λE l=>(xq ze xv none (some (nI ((xs.length-1:Nat):Int))) none l λv x=>v=t36/\x=l)/\
     (vbuildS ze 0 [] l λA m=>(xq ze xv none (some (nI ((xs.length-1:Nat):Int))) none m λv x=>v=t36/\x=m)/\
      (vbi .append [ze,ze] ze [A,t36] m λC U=>
       (vbi .append [ze,ze] ze [C,E] U λG V=>
        J [G] V)/\
       True)/\
      True)/\
     True)/\
    True:=by
 refine zd λw2 g _=>?_;have sl:∀(w':World) (K:oK),Ext w w'->xq ze xv none (some (nI ((xs.length-1:Nat):Int))) none w' K=K (cutV xv (xs.length-1)) w':=λw' K he=>by
  have p:=Ints.ext hx he;exact propext ⟨λh=>by rwa[Sl.cut p (Sl.base p (by simp;intro h;rw[h] at t;simp at t)) XW (by simp)] at h,λh=>by rwa[Sl.cut p (Sl.base p (by simp;intro h;rw[h] at t;simp at t)) XW (by simp)]⟩
 have ia:∀(w':World) (K:oK),zU ze yv (nI ((xs.length-1:Nat):Int)) w' K=K (.pointer (some (eaddr yv 1 (xs.length-1)))) w':=λw' K=>by
  rw[hy.iaddr XW oM oM,gi]
 have ld:∀(w':World) (K:oK),Ext w w'->zu zC (.pointer (some (eaddr yv 1 (xs.length-1)))) w' K=K (nI (ys.getD (xs.length-1) 0)) w':=λw' K he=>(Ints.ext hy he).load Wf oM;have Z:∀w',Ext w w'->Ints Fx w' (cutV xv (xs.length-1)) (xs.take (xs.length-1)):=λw' he=>by
  have:=Sl.taken (Ints.ext hx he) (n:=xs.length-1) (by simp);unfold Ints Vals;rw[Gw,Gw];exact this
 have I:(xs.take (xs.length-1)).length<=1000:=by rw[V0];omega
 have s2:=g.size;simp only[sl _ _ g,ia,ld _ _ g,true_and,and_true];refine⟨?_,?_⟩
 ·refine spec_nil λv3 w3 j q i=>?_;have e:=g.trans q;simp only[sl _ _ e,ld _ _ e,true_and,and_true,and_self];refine⟨?_,?_⟩
  ·refine j.app xB (Z _ e) (by simp;omega) (by simp;omega) λv4 w4 a2 a4 a0=>?_;have H:Ext w w4:=Ext.then e a4 λb s=>by have:=i b s;omega
   have s3:=q.size;simp only[ld _ _ H,true_and,and_true,and_self];refine spec_app (w0:=w) H a2 (λb s=>(a0 b s).elim (λh=>by have:=i b h;omega) λh=>oM) (by simp;omega) λv5 w5 a3 e5 a1=>?_;refine X w5 v5 e5 ?_ a1;rw[<-swap_get xs ys hl t];simpa using a3
  ·refine zD xr yR xF rfl rfl λb7 w7 Y f a5 u=>?_;have s3:=q.size;simp only[sl _ _ (e.trans f),true_and,and_true,and_self];refine cut_app (w0:=w) (e.trans f) (Z _ (e.trans f)) I u oM (j.ext f) (λb s=>by have:=i b s;have:=j.lt s;omega) λw8 v8 W z y=>?_;refine X w8 v8 W ?_ y;rw[<-swap_get xs ys hl t];exact z
 ·refine zD xr yR xF rfl rfl λb7 w7 Y f a5 u=>?_;have o:=g.trans f;simp only[sl _ _ o,true_and,and_true,and_self];refine spec_nil λv3 w3 j q i=>?_;simp only[sl _ _ (o.trans q),true_and,and_true,and_self];refine cut_app (w0:=w) (o.trans q) (Z _ (o.trans q)) I (u.ext q) oM j (λb s=>by have:=i b s;omega) λw8 v8 W z y=>?_;refine X w8 v8 W ?_ y;rw[<-swap_get xs ys hl t];exact z
theorem swap_sn (a:SnL st xs) (b:SnL st ys) (d:xs.length=ys.length) (c:1<=xs.length):SnL st (M.swapT xs ys):=a.set (b.get oM)
theorem Wa (xs ys:List Int):(M.swapT xs ys).length=xs.length:=gB ..
theorem scmp7_spec {op:Int} (W:15<=op) (X:op<=17) (y:n<=8) (Y:MkR n D w cs st) (hD:∀b,D b->b<w.heap.size) (hx:Ints Fx w xv xs) (hy:Ints Fy w yv ys) (x:xs.length=ys.length) (z:1<=xs.length) (h8:xs.length<=8) (g:SnL st xs) (j:SnL st ys)
  (k:∀w' cs' st' r,Ext w w'->MkR n D w' cs' st'->Sn st' r->M.Bd.Out n (M.cmpB op xs ys) st st' r->K (.tuple #[.agg ⟨cs'⟩,nI r]) w'):
  vcall zc0 #[.agg ⟨cs⟩,nI op,xv,yv] w K:=by
 refine zg {cuts:=[(32776,[11]),(36873,[12])],trees:=[(7,(.st 1 (.st 2 (.st 3 (.st 5 (.st 6 (.st 7 (.st 8 (.alt 0 (.alt 4 (.alt 9 (.alt 10 (.st 11 .nil) .no) .no) (.alt 9 (.alt 4 (.alt 10 (.st 11 .nil) .no) .no) .no)) (.alt 9 (.alt 0 (.alt 4 (.alt 10 (.st 11 .nil) .no) .no) .no) .no))))))))),[(0,[4,10,11]),(1,[3,4,10,11]),(2,[3,4,10,11]),(3,[4,10,11]),(4,[10,11]),(5,[7,8,9,10,11]),(6,[7,8,9,10,11]),(7,[8,9,10,11]),(8,[9,10,11]),(9,[10,11]),(10,[11])]),(8,(.st 1 (.st 2 (.st 3 (.st 5 (.st 6 (.st 7 (.st 8 (.alt 0 (.alt 4 (.alt 9 (.alt 10 (.st 11 .nil) .no) .no) (.alt 9 (.alt 4 (.alt 10 (.st 11 .nil) .no) .no) .no)) (.alt 9 (.alt 0 (.alt 4 (.alt 10 (.st 11 .nil) .no) .no) .no) .no))))))))),[(0,[4,10,11]),(1,[3,4,10,11]),(2,[3,4,10,11]),(3,[4,10,11]),(4,[10,11]),(5,[7,8,9,10,11]),(6,[7,8,9,10,11]),(7,[8,9,10,11]),(8,[9,10,11]),(9,[10,11]),(10,[11])])]} Tryz.func101 ?_;refine Fm.start Y hD λb4 b8 w1 f=>?_;have d:=Ints.ext (Ints.under hx) f.ext;have i:=Ints.ext (Ints.under hy) f.ext;unfold M.cmpB at k;obtain⟨c1,o,a⟩:=f.call;simp only[push_cast];refine zb (λc=>?_) (λT=>?_)
 ·rw[if_pos c] at k;simp only[a w1 (Same.refl _ _)];refine ssame7_spec y o f.dl d i oM oM g j λw2 l st2 r m p t s=>?_;simp only[push_cast];exact f.out m p λA v q R=>k A l st2 r v q t s
 rw[if_neg T] at k
 try simp only[push_cast]
 refine zb (λc=>?_) (λU=>?_)
 ·rw[if_pos c] at k;simp only[a w1 (Same.refl _ _)];refine sless7_spec y o f.dl d i oM oM g j λw2 l st2 r m p t s=>?_;simp only[push_cast];exact f.out m p λA v q R=>k A l st2 r v q t s
 rw[if_neg U] at k;rw[d.len Ym0];simp(disch:=omega) only[push_cast,zk];rw[show((xs.length:Int)-1)=((xs.length-1:Nat):Int) by omega];refine zq (λu w'=> ∃r,u=[r]/\Ext w1 w'/\OwnI ze w' r (M.swapT xs ys)) ?_ ?_
 ·intro J E;exact top_region d i x z oM λw' r he N y=>E _ _ ⟨r,rfl,he,N⟩
 rintro _ _ w2 ⟨av,rfl,C,F⟩;refine zq (λu w'=> ∃r,u=[r]/\Ext w2 w'/\OwnI ze w' r (M.swapT ys xs)) ?_ ?_
 ·intro J E;rw[x];exact top_region (Ints.ext i C) (Ints.ext d C) x.symm oM oM λw' r he N y=>E _ _ ⟨r,rfl,he,N⟩
 rintro _ _ A ⟨bv,rfl,v,G⟩;have e:=C.trans v
 try simp only[push_cast]
 simp only[a A e];refine sless7_spec y (o.ext e λ_ h _=>h) (f.grow e).dl (F.ext v).ints G.ints (by rw[Wa,Wa];omega) (by rw[Wa];omega) (swap_sn g j x z) (swap_sn j g x.symm oM) λw4 B S r H I Q O=>?_;simp only[push_cast];exact(f.grow e).out H I λw5 V L Z=>k w5 B S r V L Q O
end
section
variable {w:World} {K:oK} {D F Fx:Nat->Prop} {n:Nat} {v dv tv:Value} {cs:List Value} {st:Option M.Gs} {a b c m x y r:Int} {ds:List M.Dcl} {t:M.Tm}
theorem spec_one {x:Int} (f:∀w' r,Ext w w'->OwnI ze w' r [x]->(∀b,r.ownBlock=some b->w.heap.size<=b)->K r w'):vbuildS ze 1 [(0,nI x)] w K:=by
 refine zD xr yR xF rfl rfl λd j h c i a=>?_;exact f j _ c (Blk.own1 (t:=ze) (cs:=[nI x]) (by rw[qK];exact a) (gM _) rfl rfl oM) λb g=>by have e:d=b:=y2 g;omega
theorem sbits8_spec {k:Nat} (d:M.declOk ds=true) (o:k<=ds.length) (j:DclsR F w v (ds.take k)) (h:∀w',Ext w w'->K (nI (M.bitT ds k)) w'):vcall Wj #[v] w K:=by
 refine zg {loops:=[(3,[3,4])]} Tryz.func70 ?_;have hlen:(ds.take k).length=k:=by rw[V0];omega
 have n:=(M.decl_iff.1 d).1;refine vloop_up k (λi u w'=>u=[nI (M.bitT ds i),nI i]/\Ext w w') ⟨rfl,Same.refl _ _⟩ ?_;rintro i _ _ w2 C hi ⟨rfl,c⟩ g;have b:=j.ext c;simp(disch:=first|(simp only[push_cast])|omega) only[push_cast,b.len];refine zb (λa=>?_) (λa=>?_)
 ·have e:i<k:=oM;have m:=dcl_small d (i:=i) oM;have f:=dcl_small d (i:=i+1) oM;rw[M.bitT_succ oM] at f;have l:(ds.take k).getD i (M.nada,0)=ds.getD i (M.nada,0):=M.take_getD e;simp(disch:=first|(simp only[push_cast])|omega) only[push_cast,b.iaddr,b.load1,l,zk];refine g e _ _ ⟨?_,c⟩;rw[M.bitT_succ oM];simp
 ·have:i=k:=oM;subst this;exact h w2 c
theorem fix_val {nn:Int} {j:Nat}:2*((nn.toNat/2^j%2:Nat):Int)-1=if nn.toNat/2^j%2=1 then 1 else-1:=by
 have h:nn.toNat/2^j%2=0\/nn.toNat/2^j%2=1:=oM
 rcases h with h|h<;>rw[h]<;>rfl
theorem sfix8_spec {wd nn:Int} (x:M.vok wd nn=true) (t:∀w' r,Ext w w'->OwnI ze w' r (M.fixB wd nn)->(∀b,r.ownBlock=some b->w.heap.size<=b)->K r w'):vcall z00 #[nI wd,nI nn] w K:=by
 refine zg {loops:=[(3,[5,6])]} Tryz.func131 ?_;obtain⟨v1,v2,v3,v4⟩:=M.vok_lt x;refine spec_nil λy w1 m p k=>?_;refine vloop_up wd.toNat (λi u w'=> ∃r,u=[r,nI i]/\Ext w w'/\OwnI ze w' r ((M.fixB wd nn).take i)/\∀b,r.ownBlock=some b->w.heap.size<=b) ⟨_,rfl,p,m,k⟩ ?_;rintro i _ g w2 C hi ⟨r,rfl,o,d,f⟩ s;simp only[push_cast];refine zb (λa=>?_) (λa=>?_)
 ·have e:i<wd.toNat:=oM;rw[show nn=((nn.toNat:Nat):Int) by omega];refine l1Bit_spec oM oM ?_;have v:nn.toNat/2^i%2<2:=pN _ dC;have c:=fix_val (nn:=nn) (j:=i);generalize h:nn.toNat/2^i%2=bt at c v;simp(disch:=omega) only[push_cast,zk];rw[c];refine spec_app o d f (by rw[V0,M.fixB_len];omega) λv3 z n q l=>?_
  try simp(disch:=omega) only[push_cast,zk]
  refine s e _ _ ⟨v3,by simp,q,?_,l⟩;rw[M.take_add (by rw[M.fixB_len];omega) 0,fixB_at oM,h];exact n
 ·have e:i=wd.toNat:=oM;rw[gy (by rw[M.fixB_len];omega)] at d;exact t w2 r o d f
theorem sname8_spec {k:Nat} (e:M.declOk ds=true) (l:k<ds.length) (p:DclsR F w v ds) (D:∀w' r,Ext w w'->OwnI ze w' r (M.nameB ds k)->(∀b,r.ownBlock=some b->w.heap.size<=b)->K r w'):vcall Wh #[v,nI k] w K:=by
 refine zg {loops:=[(4,[6,7])]} Tryz.func132 ?_;have J:=(M.decl_iff.1 e).1;rw[p.cut (by intro h;rw[h] at l;simp at l) ZW oM];refine sbits8_spec e oM (p.taken oM) λw1 y=>?_;have G:=dcl_small e (i:=k) oM;have H:=M.dcl_wide e l;simp(disch:=omega) only[push_cast,zk];refine spec_nil λv2 w2 t z q=>?_;have N:=y.size;refine vloop_up (ds.getD k (M.nada,0)).2.toNat (λi u w'=> ∃r,u=[r,nI i]/\Ext w w'/\OwnI ze w' r ((M.nameB ds k).take i)/\∀b,r.ownBlock=some b->w.heap.size<=b) ⟨_,rfl,y.trans z,t,λb E=>by have:=q b E;omega⟩ ?_;rintro i _ g I C hi ⟨r,rfl,n,f,m⟩ B;have d:=p.ext n;have j:∀c:i<(ds.getD k (M.nada,0)).2.toNat,(M.nameB ds k).getD i 0=2+M.bitT ds k+(ds.getD k (M.nada,0)).2-1-(i:Int):=λc=>by unfold M.nameB;rw[JE c];rfl
 rw[d.iaddr ZW oM oM,gi];simp only[push_cast];rw[d.load1 Wf l];generalize o:(ds.getD k (M.nada,0)).2=wd at*;simp only[push_cast];refine zb (λa=>?_) (λa=>?_)
 ·have c:i<wd.toNat:=oM;rw[d.iaddr ZW oM oM,gi];simp only[push_cast];rw[d.load1 Wf l,o];simp(disch:=omega) only[push_cast,zk];refine spec_app n f m (by rw[V0,M.nameB_len];omega) λv5 L x A s=>?_
  try simp(disch:=omega) only[push_cast,zk]
  refine B c _ _ ⟨v5,by simp,A,?_,s⟩;rw[M.take_add (by rw[M.nameB_len,o];omega) 0,j c];exact x
 ·rw[gy (by rw[M.nameB_len,o];omega)] at f;exact D I r n f m
theorem sleaf8_spec (l:M.declOk ds=true) (hs:M.sortM ds t≠ -1) (G:t.ks.length=0) (q:DclsR F w dv ds) (C:TermR Fx w tv t)
  (i:∀w' r zs,Ext w w'->OwnI ze w' r zs->(∀b,r.ownBlock=some b->w.heap.size<=b)->SnL st zs->M.Bd.Out n (M.nodeB ds t []) st st zs->K r w'):vcall Wi #[dv,tv] w K:=by
 refine zg {} Tryz.func98 ?_;obtain⟨kv,rfl,y⟩:=C;obtain⟨u,I,A⟩:=M.right_op hs;have B:t.op=20\/t.op=21\/t.op=24:=Gp λh=>by have:=M.node_arity A h;omega
 refine zj λb1 w1 v a E g=>?_;simp(disch:=first|(simp only[push_cast])|omega) only[push_cast,g.ld0];unfold M.nodeB at i;refine zb (λc=>?_) (λc=>?_)
 ·rw[if_pos c] at i;have D:=M.vec_ok hs c;simp(disch:=first|(simp only[push_cast])|omega) only[push_cast,g.ld1,g.ld2];refine sfix8_spec D λw2 r d f e=>?_;exact i w2 r _ (a.trans d) f (λb o=>by have:=e b o;omega) (λx p=>by
   unfold M.fixB at p;obtain⟨j,_,rfl⟩:=gn.1 p;split<;>exact Sn.of dC dC) (M.Bd.Out.ret _ _)
 rw[if_neg c] at i
 try simp only[push_cast]
 refine zb (λc2=>?_) (λc2=>?_)
 ·rw[if_pos c2] at i;have H:=M.name_found hs c2;have z:=M.findD_lt ds t.s;simp(disch:=first|(simp only[push_cast])|omega) only[push_cast,g.ld3];refine l2Find_spec (q.ext a) ?_;rw[show M.findD ds t.s=(((M.findD ds t.s).toNat:Nat):Int) by omega];refine sname8_spec l oM (q.ext a) λw2 r d f e=>?_;refine i w2 r _ (a.trans d) f (λb o=>by have:=e b o;omega) (λx p=>?_) (M.Bd.Out.ret _ _);obtain⟨p1,p2,J⟩:=M.name_has (m:=9) l (k:=(M.findD ds t.s).toNat) oM (by have:=(M.decl_iff.1 l).2.2;omega) x p;exact Sn.of (by unfold Sm;omega) p1
 ·rw[if_neg c2,if_pos oM] at i;refine spec_one λw2 r d f e=>?_;exact i w2 r _ (a.trans d) f (λb o=>by have:=e b o;omega) (SnL.one (Sn.of dC dC)) (M.Bd.Out.ret _ _)
end
section
variable {w:World} {K:oK} {D F Fx Y S O:Nat->Prop} {n b4 b8:Nat} {v tv kv:Value} {cs cs' ts:List Value} {st st':Option M.Gs} {a b c m x y r:Int} {ds:List M.Dcl} {t:M.Tm} {rs:List (List Int)}
theorem Fm.start2 (s:MkR n D w cs st) (hD:∀b,D b->b<w.heap.size) {K:Value->Value->oK} (m:∀b4 a b8 w',Fm n D (λ_=>False) w b4 b8 w' st->Blk w' a ts za->w.heap.size<=a/\a≠b4/\a≠b8->K (oP b4 0) (oP a 0) (oP b8 0) w'):
  US zB (.agg ⟨cs⟩) w λt w1=>US za (.agg ⟨ts⟩) w1 λt5 w2=>ql zB w2 λt8 k=>K t t5 t8 k:=by
 refine zj λb4 w1 p i u e=>?_;refine zj λa w2 q j v f=>?_;refine zi xu λb8 k r d x g=>?_;have c:=j.trans d;have l:=i.trans c;refine m b4 a b8 k ⟨l,⟨cs,e.ext c,s.ext l λb o y=>o.elim id λh=>?_⟩,⟨_,g,rfl⟩,oM,λb h=>h.elim,hD⟩ (f.ext d) oM;rcases h with h|h|h
 ·omega
 ·omega
 ·exact h.elim
def KidsS (w:World) (kv:Value) (rs:List (List Int)):Prop:= ∃(vs:List Value) (Fk:Nat->Prop),Vals Fk w kv vs/\vs.length=rs.length/\∀i,i<rs.length->Ints (λ_=>True) w (vs.getD i undef) (rs.getD i [])
theorem KidsS.vals (h:KidsS w kv rs):∃vs:List Value,(∀(w':World),Ext w w'->∀i:Nat,i<rs.length->∀K:oK,zU zI kv (nI i) w' K=K (.pointer (some (eaddr kv 1 i))) w'/\zu ze (.pointer (some (eaddr kv 1 i))) w' K=K (vs.getD i undef) w')/\
  ∀i,i<rs.length->Ints (λ_=>True) w (vs.getD i undef) (rs.getD i []):=by
 obtain⟨vs,Fk,b,d,c⟩:=h;refine⟨vs,λw' he i hi K=>?_,c⟩;have a:=b.ext he;refine⟨?_,a.load Yo0 oM⟩;rw[a.iaddr ZK0 oM oM,gi]
theorem KidsS.ext {w':World} (h:KidsS w kv rs) (he:Ext w w'):KidsS w' kv rs:=by
 obtain⟨vs,Fk,a,b,c⟩:=h;exact⟨vs,Fk,a.ext he,b,λi hi=>Ints.ext (c i hi) he⟩
theorem len_one {l:List Int} (h:l.length=1):l=[l.getD 0 0]:=by
 match l,h with
 |[x],_=>rfl
theorem slogic8_spec (a5:M.declOk ds=true) (hs:M.sortM ds t≠ -1) (a9:22<t.op) (a1:t.op≠24) (hn:n<=8) (hk:MkR n D w cs st) (hD:∀b,D b->b<w.heap.size) (ht:TermR Fx w tv t) (J:KidsS w kv rs) (ad:rs.length=t.ks.length) (hlen:∀i,i<t.ks.length->(rs.getD i []).length=M.lenS (M.sortM ds (M.kid t i))) (a6:∀r,r∈rs->SnL st r)
  (m:∀w' cs' st' r zs,Ext w w'->MkR n D w' cs' st'->Ints (New w) w' r zs->SnL st' zs->M.Bd.Out n (M.nodeB ds t rs) st st' zs->K (.tuple #[.agg ⟨cs'⟩,r]) w'):
  vcall KK #[.agg ⟨cs⟩,tv,kv] w K:=by
 refine zg {ord:=[oz 4 (oR 7) [(0,[1,2,3,4])],oz 6 (oR 17) [(0,[1,2,3,4,5,6,7,8,9,10]),(1,[6,7,8,9,10]),(2,[6,7,8,9,10]),(3,[6,7,8,9,10]),(4,[6,7,8,9,10]),(5,[6,7,8,9,10]),(13,[14]),(14,[15])],oz 9 (oR 17) [(0,[1,2,3,4,5,6,7,8,9,10]),(1,[6,7,8,9,10]),(2,[6,7,8,9,10]),(3,[6,7,8,9,10]),(4,[6,7,8,9,10]),(5,[6,7,8,9,10]),(13,[14]),(14,[15])],oz 11 (oR 17) [(0,[1,2,3,4,5,6,7,8,9,10,11]),(1,[6,7,8,9,10,11]),(2,[6,7,8,9,10,11]),(3,[6,7,8,9,10,11]),(4,[6,7,8,9,10,11]),(5,[6,7,8,9,10,11]),(6,[9,10,11]),(7,[9,10,11]),(8,[9,10,11]),(13,[14])]]} Tryz.func99 ?_;obtain⟨kw,rfl,ab⟩:=ht;obtain⟨aa,hp,ho⟩:=M.right_op hs;obtain⟨q1,q2,q3,q4,q5,q6,q7⟩:=M.node_right a5 hs (L:=λi=>(rs.getD i []).length) hlen;refine Fm.start2 hk hD λb4 b5 b8 w1 S a2 ac=>?_;obtain⟨c1,y,e⟩:=S.call;obtain⟨vs,g,f⟩:=(J.ext S.ext).vals;have get:∀i,i<rs.length->SnL st (rs.getD i []):=λi hi=>a6 _ (M.getD_mem hi []);simp(disch:=first|(simp only[push_cast])|omega) only[push_cast,a2.ld0];unfold M.nodeB at m;rw[if_neg oM,if_neg oM,if_neg a1] at m;refine zb (λc=>?_) (λF=>?_)
 ·rw[if_pos c] at m;obtain⟨q,j⟩:=q7 oM;rw[if_pos c] at q;have H:=j 0 oM;refine zd λw2 a _=>?_;have B:∀K:oK,zU zI kv (nI 0) w2 K=K (.pointer (some (eaddr kv 1 0))) w2:=λK=>(g w2 a 0 oM K).1;have C:∀K:oK,zu ze (.pointer (some (eaddr kv 1 0))) w2 K=K (vs.getD 0 undef) w2:=λK=>(g w2 a 0 oM K).2;simp only[e w2 a,B,C,true_and];refine sturn7_spec (Ints.ext (f 0 oM) a) oM (get 0 oM).sm λY r3 d l a4=>?_;simp only[e Y (a.trans d),true_and,and_self];have z2:=a.size;refine S.res (a.trans d) (y.ext (a.trans d) λ_ h _=>h) (qX l λb hb=>by have:=a4 b hb;omega) λR e4 k v=>m R c1 st r3 _ e4 k v (get 0 oM).neg ?_;rw[len_one H];exact M.Bd.Out.ret _ _
 rw[if_neg F] at m
 try simp only[push_cast]
 refine zb (λc=>?_) (λZ=>?_)
 ·rw[if_pos c] at m;obtain⟨q,j⟩:=q7 oM;rw[if_neg F] at q;have H:=j 0 oM;have a3:=j 1 oM;refine zd λw2 a _=>?_;have B:∀K:oK,zU zI kv (nI 0) w2 K=K (.pointer (some (eaddr kv 1 0))) w2:=λK=>(g w2 a 0 oM K).1;have C:∀K:oK,zu ze (.pointer (some (eaddr kv 1 0))) w2 K=K (vs.getD 0 undef) w2:=λK=>(g w2 a 0 oM K).2;have T:∀K:oK,zU zI kv (nI 1) w2 K=K (.pointer (some (eaddr kv 1 1))) w2:=λK=>(g w2 a 1 oM K).1;have U:∀K:oK,zu ze (.pointer (some (eaddr kv 1 1))) w2 K=K (vs.getD 1 undef) w2:=λK=>(g w2 a 1 oM K).2;have z:=Ints.ext (f 0 oM) a;have E:=Ints.ext (f 1 oM) a;simp(disch:=first|(simp only[push_cast])|omega) only[e w2 a,B,C,T,U,z.iaddr,z.load,E.iaddr,E.load,push_cast,true_and];have A:=S.grow a;refine sand7_spec hn (y.ext a λ_ h _=>h) A.dl ((get 0 oM).get oM) ((get 1 oM).get oM) λY G x r d p u l=>?_;simp only[push_cast,true_and];refine A.put d p λR W a7 v=>?_
  try simp only[push_cast,true_and,and_self]
  obtain⟨c4,k,s⟩:=W.call;simp only[s R (Same.refl _ _)];refine spec_one λw5 rv o O N=>?_;refine W.res o (k.ext o λ_ h _=>h) (qX O N) λw6 e6 I Q=>m w6 c4 x rv [r] e6 I Q (SnL.one u) (xC l (M.Bd.Out.ret _ _))
 rw[if_neg Z] at m
 try simp only[push_cast]
 refine zb (λc=>?_) (λa0=>?_)
 ·rw[if_pos c] at m;obtain⟨q,j⟩:=q7 oM;rw[if_neg F] at q;have H:=j 0 oM;have a3:=j 1 oM;refine zd λw2 a _=>?_;have B:∀K:oK,zU zI kv (nI 0) w2 K=K (.pointer (some (eaddr kv 1 0))) w2:=λK=>(g w2 a 0 oM K).1;have C:∀K:oK,zu ze (.pointer (some (eaddr kv 1 0))) w2 K=K (vs.getD 0 undef) w2:=λK=>(g w2 a 0 oM K).2;have T:∀K:oK,zU zI kv (nI 1) w2 K=K (.pointer (some (eaddr kv 1 1))) w2:=λK=>(g w2 a 1 oM K).1;have U:∀K:oK,zu ze (.pointer (some (eaddr kv 1 1))) w2 K=K (vs.getD 1 undef) w2:=λK=>(g w2 a 1 oM K).2;have z:=Ints.ext (f 0 oM) a;have E:=Ints.ext (f 1 oM) a;simp(disch:=first|(simp only[push_cast])|omega) only[e w2 a,B,C,T,U,z.iaddr,z.load,E.iaddr,E.load,push_cast,true_and];have A:=S.grow a;refine sor7_spec hn (y.ext a λ_ h _=>h) A.dl ((get 0 oM).get oM) ((get 1 oM).get oM) λY G x r d p u l=>?_;simp only[push_cast,true_and];refine A.put d p λR W a7 v=>?_
  try simp only[push_cast,true_and,and_self]
  obtain⟨c4,k,s⟩:=W.call;simp only[s R (Same.refl _ _)];refine spec_one λw5 rv o O N=>?_;refine W.res o (k.ext o λ_ h _=>h) (qX O N) λw6 e6 I Q=>m w6 c4 x rv [r] e6 I Q (SnL.one u) (M.Bd.Out.map _ l)
 have V:t.op=23:=oM
 rw[if_neg a0,if_pos V] at m;obtain⟨k1,l0,l1,l2,l3⟩:=q6 V;refine zd λw2 a _=>?_;have B:∀K:oK,zU zI kv (nI 0) w2 K=K (.pointer (some (eaddr kv 1 0))) w2:=λK=>(g w2 a 0 oM K).1;have C:∀K:oK,zu ze (.pointer (some (eaddr kv 1 0))) w2 K=K (vs.getD 0 undef) w2:=λK=>(g w2 a 0 oM K).2;have T:∀K:oK,zU zI kv (nI 1) w2 K=K (.pointer (some (eaddr kv 1 1))) w2:=λK=>(g w2 a 1 oM K).1;have U:∀K:oK,zu ze (.pointer (some (eaddr kv 1 1))) w2 K=K (vs.getD 1 undef) w2:=λK=>(g w2 a 1 oM K).2;have A2:∀K:oK,zU zI kv (nI 2) w2 K=K (.pointer (some (eaddr kv 1 2))) w2:=λK=>(g w2 a 2 oM K).1;have B2:∀K:oK,zu ze (.pointer (some (eaddr kv 1 2))) w2 K=K (vs.getD 2 undef) w2:=λK=>(g w2 a 2 oM K).2;have z:=Ints.ext (f 0 oM) a;have E:=Ints.ext (f 1 oM) a;have V2:=Ints.ext (f 2 oM) a;simp(disch:=first|(simp only[push_cast])|omega) only[e w2 a,B,C,T,U,A2,B2,z.iaddr,z.load,push_cast,true_and];have A:=S.grow a;refine sifs7_spec hn (y.ext a λ_ h _=>h) A.dl E V2 oM oM (get 1 oM) (get 2 oM) ((get 0 oM).get oM) λY G x r zs d p u X a8 l=>?_;simp only[push_cast,true_and];exact A.res d p (qX u X) λR e4 k v=>m R G x r zs e4 k v a8 l
end
end Go.Proofs.YtolbhkcajhlllaaGreatDoor
end
