import Derived.Test.YtokflbdfnbppjaaGreatDoorWvaP6
/- A part of the proof. -/
set_option linter.all false
namespace Go.Proofs.YtokflbdfnbppjaaGreatDoor
open Go Go.Vc Go.Proofs
section
variable {w:World} {K:Value->World->Prop} {F F' X:Nat->Prop} {n bc bb:Nat} {gs:M.Gs} {v:Value} {ar ab:Addr} {st:Option M.Gs}
theorem choose_spec {c:Int} {xv yv:Value} {xs ys:List Int} (h:BdR n bb ar ab X F w st) (t:∃gs,st=some gs) (Q:Ints (Off X F) w xv xs) (R:Ints (Off X F) w yv ys) (hl:xs.length=ys.length) (I:xs.length<=1000) (A:SmL xs) (C:SmL ys) (O:Sm c)
  (J:∀w' F' st' r zs,BdR n bb ar ab X F' w' st'->Mv F w F' w'->Ints (Off X F') w' r zs->SmL zs->M.Bd.Out n (M.eachB (M.muxB c) xs ys) st st' zs->K r w'):
  vcall P kf #[.pointer (some ⟨bb,0,none⟩),.int .i64 c,xv,yv] w K:=by
 apply VI;obtain⟨gs,rfl⟩:=t;refine jK λb1 w1 L q S d=>?_;replace d:Blk w1 b1 [.pointer (some ⟨bb,0,none⟩)] y1:=d;refine jK λb2 w2 N f T e=>?_;replace e:Blk w2 b2 [.int .i64 c] zv:=e;have a:=d.ext f;have k:=q.trans f;have l:=h.ext k;have g:Ints (Off X F) w2 xv xs:=Q.ext k;have i:Ints (Off X F) w2 yv ys:=R.ext k;obtain⟨bc,G,hC⟩:=l.blk;simp only at G;simp(disch:=first|(simp only[push_cast])|omega) only[push_cast,a.ld0,g.len,i.len,yF qM l.err.bits.cell];rw[decide_eq_false (by omega)];refine j00 ?_;simp(disch:=first|(simp only[push_cast])|omega) only[push_cast,a.ld0,G.ld1,UH];refine each_spec (p:=M.muxB c) l g i (by omega) I A C ?_ λH E j r zs m b v D u=>J H E j r zs m ?_ v.ints D u
 ·intro H E j x y Z m b z B o;have W: ¬F b1:=λs=>by have:=h.lt _ (.inl s);omega
  have Y: ¬F b2:=λs=>by have:=h.lt _ (.inl s);omega
  have U:=a.same b.same W;have V:=e.same b.same Y;refine Kt ?_;unfold Y9;simp(disch:=first|(simp only[push_cast])|omega) only[push_cast,U.ld0,V.ld0];exact bmux_spec m O z B o
 ·exact(Mv.refl.ext k).trans b
theorem Q20 {p:Int->Int->M.Bd Int} {xs ys:List Int} {i:Nat} (a:i<xs.length) (b:i<ys.length):M.eachB p (xs.drop i) (ys.drop i)=(p (xs.getD i 0) (ys.getD i 0)).bind λs=>(M.eachB p (xs.drop (i+1)) (ys.drop (i+1))).map (s:: ·):=by
 rw[kH a,kH b];rfl
theorem Ints.low {v:Value} {xs:List Int} (h:Ints (Off X F) w v xs):Ints (λb=> ¬F b/\b<w.heap.size) w v xs:=Ints.weaken h λ_ a c=>⟨a.1,c⟩
theorem Ints.lowMv {v:Value} {xs:List Int} {B:Nat} {w':World} (h:Ints (λb=> ¬F b/\b<B) w v xs) (hm:Mv F w F' w'):Ints (λb=> ¬F' b/\b<B) w' v xs:=by
 have c:Ints (λb=>(¬F b/\b<B)/\b<w.heap.size) w v xs:=Ints.weaken h λ_ c d=>⟨c,d⟩;have d:=Ints.same c hm.same λb a _=>a.1.1;exact Ints.weaken d λb a _=>⟨hm.off a.1.1 a.2,a.1.2⟩
theorem from_at {up:Bool} {fill:Int} {s:List Int} {b k:Nat} (d:k<s.length):(0<=(k:Int)+(if up then-(b:Int) else b)->(k:Int)+(if up then-(b:Int) else b)<s.length->M.fromL up fill s b k=s.getD ((k:Int)+(if up then-(b:Int) else b)).toNat 0)/\
  ((k:Int)+(if up then-(b:Int) else b)<0->M.fromL up fill s b k=fill)/\((s.length:Int)<=(k:Int)+(if up then-(b:Int) else b)->M.fromL up fill s b k=fill):=by
 unfold M.fromL;cases up
 ·simp only[gU,if_false];refine⟨λa c=>?_,λh=>by omega,λh=>?_⟩
  ·rw[if_pos (by omega),show((k:Int)+b).toNat=k+b by omega]
  ·rw[if_neg (by omega)]
 ·simp only[if_true];refine⟨λa c=>?_,λh=>?_,λh=>by omega⟩
  ·rw[if_neg (by omega),show((k:Int)+ -b).toNat=k-b by omega]
  ·rw[if_pos (by omega)]
theorem fill_set {zs:List Int} {m k:Nat} {s:Int} (a:zs.length=k) (b:k<m):(zs++List.replicate (m-k) 0).set k s=(zs++[s])++List.replicate (m-(k+1)) 0:=by
 rw[pS _ _ (by omega),a,GB,show m-k=(m-(k+1))+1 by omega,PC,ph,Gb];rfl
theorem Jo0 {m k:Nat} {f:Nat->Int} (a:k<m):((List.range m).map f).getD k 0=f k:=by
 rw[k6,Gn,pc a];rfl
theorem Jk0 {up:Bool} {fill:Int} {i:Nat} {ys s:List Int} {j:Nat} (h:ys.length<=j):M.shiftB up fill (ys.drop j) i s= .ret s:=by
 rw[Gk h];rfl
theorem pow_le4 {i:Nat} (h:i<10):2^i<=512/\1<=2^i:=⟨gO (by omega) (show i<=9 by omega),Nat.one_le_two_pow⟩
theorem from_sm {up:Bool} {fill:Int} {s:List Int} {b k:Nat} (a:Sm fill) (hs:SmL s) (c:k<s.length):Sm (M.fromL up fill s b k):=by
 unfold M.fromL
 repeat' split
 all_goals first|exact a|exact hs.get (by omega)
theorem shift_spec {xv yv:Value} {xs ys:List Int} {up:Bool} {fill:Int} (h:BdR n bb ar ab X F w st) (hx:Ints (Off X F) w xv xs) (hy:Ints (Off X F) w yv ys) (h8:xs.length<=1000) (ao:ys.length<=8) (V:SmL xs) (ag:SmL ys) (hf:Sm fill)
  (hK:∀w' F' st' r zs,BdR n bb ar ab X F' w' st'->Mv F w F' w'->Ints (Off X F') w' r zs->SmL zs->M.Bd.Out n (M.shiftB up fill ys 0 xs) st st' zs->K r w'):
  vcall P qD #[.pointer (some ⟨bb,0,none⟩),xv,yv,.bool up,.int .i64 fill] w K:=by
 apply U1;simp(disch:=first|(simp only[push_cast])|omega) only[push_cast,hy.len];refine vloop_up ys.length (λi u w'=> ∃H A sv ss,u=[sv,.int .i64 i]/\BdR n bb ar ab X H w' A/\Mv F w H w'/\Ints (Off X H) w' sv ss/\SmL ss/\ss.length=xs.length/\
  ∀st2 rs,M.Bd.Out n (M.shiftB up fill (ys.drop i) i ss) A st2 rs->M.Bd.Out n (M.shiftB up fill ys 0 xs) st st2 rs) ⟨F,st,xv,xs,rfl,h,Mv.refl,hx,V,rfl,λ_ _ h=>h⟩ ?_
 rintro i _ g w1 C hi ⟨H,A,sv,ss,rfl,h1,G,S,U,an,I⟩ hC;simp only[push_cast];refine zh (λak=>?_) (λaj=>hK w1 H A sv ss h1 G S U (I A ss (by rw[Jk0 (by omega)];exact M.Bd.Out.ret _ _)));have N:i<ys.length:=by omega
 have a4:=Ints.mv hy G;obtain⟨al,am⟩:=pow_le4 (i:=i) (by omega);have a3:∀K:Value->World->Prop,zq P .shl ze true (.int .i64 1) (.int .i64 i) w1 K=K (.int .i64 (2^i:Nat)) w1:=λK=>by
  have:=vbin_shlI (P:=P) (w:=w1) (K:=K) (c:=true) (t:=ze) (yk:= .i64) (x:=1) (y:=i) (by omega) (by rw[Ph];omega);rw[Ph] at this;exact this
 simp(disch:=first|(simp only[push_cast])|omega) only[push_cast,a4.iaddr,a4.load];rw[a3];generalize Y:2^i=b at*;refine zS (λu w'=>w'=w1/\u=[.int .i64 (if up then-(b:Int) else b)]) ?_ ?_
 ·intro J hJ;cases up
  ·exact hJ _ _ ⟨rfl,rfl⟩
  ·simp(disch:=omega) only[push_cast,zJ,GQ];exact hJ _ _ ⟨rfl,rfl⟩
 rintro _ _ w2 ⟨af,rfl⟩;rw[af];simp(disch:=first|(simp only[push_cast])|omega) only[push_cast,S.len];refine vmkS_own (z:= .int .i64 0) (bs:=8) xx qa yW rfl (by omega) (by omega) λnv w3 O L a1=>?_;have O:OwnI P zc w3 nv (List.replicate ss.length 0):=by unfold OwnI;rw[pk];exact O
 have h3:=h1.ext L;have ae:Ints (λb=> ¬H b/\b<w1.heap.size) w3 sv ss:=(Ints.low S).ext L;have a9:Sm (ys.getD i 0):=ag.get N;have R:NewI X w1 H w3 nv (List.replicate ss.length 0):=NewI.of O a1 h1.lt;have ac:=G.ext L;have ap:=G.same.size;refine vloop_up ss.length (λk u w'=> ∃W B zs,u=[.int .i64 k]/\BdR n bb ar ab X W w' B/\Mv F w W w'/\Ints (λb=> ¬W b/\b<w1.heap.size) w' sv ss/\NewI X w1 W w' nv (zs++List.replicate (ss.length-k) 0)/\SmL zs/\zs.length=k/\
  ∀st2 rs,M.Bd.Out n (M.eachB (M.muxB (ys.getD i 0)) (((List.range ss.length).map (M.fromL up fill ss b)).drop k) (ss.drop k)) B st2 rs->M.Bd.Out n (M.eachB (M.muxB (ys.getD i 0)) ((List.range ss.length).map (M.fromL up fill ss b)) ss) A st2 (zs++rs))
  ⟨H,A,[],rfl,h3,ac,ae,by simpa using R,SmL.nil,rfl,λ_ _ h=>h⟩ ?_
 rintro k _ g4 w4 C4 hk ⟨W,B,zs,rfl,h4,Z,v,Q,a5,a6,D⟩ a7;simp only[push_cast];refine zh (λai=>?_) (λah=>?_)
 ·have o:k<ss.length:=(by omega);have aa:Sm (M.fromL up fill ss b k):=from_sm hf U o;have a0:(zs++List.replicate (ss.length-k) (0:Int)).length=ss.length:=by rw[Q1,gF];omega
  have go:∀(C5:Value->World->Prop),(∀l m a s,BdR n bb ar ab X m l a->Mv F w m l->Ints (λb=> ¬m b/\b<w1.heap.size) l sv ss->NewI X w1 m l nv (zs++List.replicate (ss.length-k) 0)->Sm s->M.Bd.Out n (M.muxB (ys.getD i 0) (M.fromL up fill ss b k) (ss.getD k 0)) B a s->C5 (.int .i64 s) l)->
    vcall P xe #[.pointer (some ⟨bb,0,none⟩),.int .i64 (ys.getD i 0),.int .i64 (M.fromL up fill ss b k),.int .i64 (ss.getD k 0)] w4 C5:=λC5 a8=>
   bmux_spec h4 a9 aa (U.get o) λl m a s E f q p=>a8 l m a s E (Z.trans f) (Ints.lowMv v f) (Q.mv f) q p
  have fin:∀l m a s,BdR n bb ar ab X m l a->Mv F w m l->Ints (λb=> ¬m b/\b<w1.heap.size) l sv ss->NewI X w1 m l nv (zs++List.replicate (ss.length-k) 0)->Sm s->M.Bd.Out n (M.muxB (ys.getD i 0) (M.fromL up fill ss b k) (ss.getD k 0)) B a s->
    zj P zc nv (.int .i64 k) l λt66 w6=>zn P zv t66 (.int .i64 s) w6 λ_ w7=>C4 [.int .i64 ((k:Int)+1)] w7:=λl m a s E f q e j p=>by
   have ad:=e.own.ints;rw[ad.iaddr xU (by omega) (by rw[a0];omega),gl];refine e.own.st yN (by rw[a0];exact o) λw6 a2 T aq=>?_;rw[fill_set a6 o] at a2;refine a7 o _ _ ⟨m,a,zs++[s],by simp,E.upd h.err T λb Y=>⟨by have:=(e.off b Y).1;omega,(e.off b Y).2⟩,f.to T λb Y=> .inr (by have:=(e.off b Y).1;omega),Ints.same q T λx hx _ V=>by have:=(e.off x V).1;omega,⟨a2,e.off,e.out⟩,a5.app (SmL.one j),by simp[a6],λst2 rs ho=>?_⟩;have:=D st2 (s::rs) ?_
   ·simpa using this
   rw[Q20 (by simpa using o) o,Jo0 o];exact M.Bd.Out.bind p (M.Bd.Out.map _ ho)
  obtain⟨f1,f2,f3⟩:=from_at (up:=up) (fill:=fill) (s:=ss) (b:=b) o;have hd:(if up then-(b:Int) else b)= -(b:Int)\/(if up then-(b:Int) else b)=b:=(by cases up<;>simp);generalize (if up then-(b:Int) else b)=d at f1 f2 f3 hd;simp(disch:=omega) only[push_cast,zJ];refine zh (λh0=>?_) (λh0=>?_)
  ·refine zh (λhl=>?_) (λhl=>?_)
   ·simp(disch:=first|(simp only[push_cast])|omega) only[push_cast,v.iaddr,v.load];rw[<-f1 (by omega) (by omega)];exact go _ λl m a s E f q e j p=>fin l m a s E f q e j p
   ·simp(disch:=first|(simp only[push_cast])|omega) only[push_cast,v.iaddr,v.load];rw[<-f3 (by omega)];exact go _ λl m a s E f q e j p=>fin l m a s E f q e j p
  ·simp(disch:=first|(simp only[push_cast])|omega) only[push_cast,v.iaddr,v.load];rw[<-f2 (by omega)];exact go _ λl m a s E f q e j p=>fin l m a s E f q e j p
 ·rw[show ss.length-k=0 by omega,Pb,gz] at Q;have:=D B [] (by rw[ZG0 (by simp;omega)];exact M.Bd.Out.ret _ _);rw[gz] at this;simp(disch:=omega) only[push_cast,zJ];refine hC N _ _ ⟨W,B,nv,zs,by simp<;>exact⟨rfl,rfl⟩,h4,Z,Q.ints,a5,by omega,λst2 rs ho=>I st2 rs ?_⟩;rw[kH N];unfold M.shiftB;rw[Y];exact M.Bd.Out.bind this ho
end
section
variable {w:World} {K:Value->World->Prop} {F F' X Q:Nat->Prop} {n bc bb:Nat} {v:Value} {ar ab:Addr} {st:Option M.Gs}
theorem Ints.mvQ {v:Value} {xs:List Int} {w':World} (h:Ints (λb=> ¬F b/\Q b) w v xs) (hm:Mv F w F' w'):Ints (λb=> ¬F' b/\Q b) w' v xs:=by
 have c:Ints (λb=>(¬F b/\Q b)/\b<w.heap.size) w v xs:=Ints.weaken h λ_ c d=>⟨c,d⟩;have d:=Ints.same c hm.same λb a _=>a.1.1;exact Ints.weaken d λb a _=>⟨hm.off a.1.1 a.2,a.1.2⟩
theorem Ints.offQ {v:Value} {xs:List Int} (h:Ints (λb=> ¬F b/\Q b/\¬X b) w v xs):Ints (Off X F) w v xs:=Ints.weaken h λ_ h _=>⟨h.1,h.2.2⟩
theorem SmL.set {xs:List Int} (h:SmL xs) {i:Nat} {x:Int} (b:Sm x):SmL (xs.set i x):=λy c=>by
 rcases PN c with a|a
 ·exact h y a
 ·rw[a];exact b
theorem under_spec {xv yv:Value} {xs ys:List Int} (h:BdR n bb ar ab X F w st) (g:Ints (Off X F) w xv xs) (hy:Ints (Off X F) w yv ys) (Y:xs.length=ys.length) (h1:1<=xs.length) (h8:xs.length<=1000) (u:SmL xs) (v:SmL ys)
  (V:∀w' F' st' r,BdR n bb ar ab X F' w' st'->Mv F w F' w'->Sm r->M.Bd.Out n (M.lessB (M.swapT xs ys) (M.swapT ys xs) (-1)) st st' r->K (.int .i64 r) w'):
  vcall P kV #[.pointer (some ⟨bb,0,none⟩),xv,yv] w K:=by
 apply U0;simp(disch:=first|(simp only[push_cast])|omega) only[push_cast,g.len,zJ];refine Clone_signal g (by omega) λw1 av c j I=>?_;refine Clone_signal (hy.ext c) (by omega) λw2 cv s B t=>?_;refine zr λw3 d _=>?_;have y:=c.trans (s.trans d);have k:=j.ext (s.trans d);have o:=B.ext d;have m:=k.ints;have q:=o.ints;have l:∀b,av.ownBlock=some b->cv.ownBlock≠some b:=λb a W=>by have:=j.lt a;have:=t b W;omega
 simp(disch:=first|(simp only[push_cast])|omega) only[push_cast,m.iaddr,m.load,q.iaddr,q.load,true_and];rw[show((xs.length:Int)-1).toNat=xs.length-1 by omega];refine k.st yN (by omega) λw4 z e a0=>?_;have p:=o.same e λb a g=>l b g a;have O:=p.ints;refine p.st yN (by omega) λx C f a1=>?_;have A:=z.same f λb a g=>l b a g;have hw:=y.size;have Z:=c.size;have hF:∀b,(av.ownBlock=some b\/cv.ownBlock=some b)->w.heap.size<=b/\¬F b:=λb a=>by
  have E:w.heap.size<=b:=a.elim (I b) λa=>by have:=t b a;omega
  exact⟨E,λD=>by have:=h.lt b (.inl D);omega⟩
 have R:BdR n bb ar ab X F x st:=((h.ext y).upd h.err e λb a=>hF b (.inl a)).upd h.err f λb a=>hF b (.inr a);have i:∀b,(av.ownBlock=some b\/cv.ownBlock=some b)->Off X F b:=λb a=>⟨(hF b a).2,λD=>by have:=(hF b a).1;have:=h.lt b (.inr D);omega⟩;have G:Mv F w F x:=((Mv.refl.ext y).to e λb a=> .inr (hF b (.inl a)).1).to f λb a=> .inr (hF b (.inr a)).1;have T:Ints (Off X F) x av (M.swapT xs ys):=Ints.weaken A.ints λb a _=>i b (.inl a);have U:Ints (Off X F) x cv (M.swapT ys xs):=by
  have:=Ints.weaken C.ints λb a _=>i b (.inr a);unfold M.swapT;rw[Y] at this;exact this
 refine bless_spec R T U (by unfold M.swapT;simp;omega) (by unfold M.swapT;simp;omega) ?_ ?_ λw6 Q N r S H L J=>V w6 Q N r S (G.trans H) L J
 ·exact u.set (v.get (by omega))
 ·exact v.set (u.get (by omega))
theorem qs0 {xs:List Int} {m k:Nat} (h:k<m):(xs.take m).getD k 0=xs.getD k 0:=M.take_getD h
theorem VM0 {xs wide r q:List Int} {m:Nat} {l:Int} {u d:List Int} {st a st2 b c:Option M.Gs} {res:List Int×List Int} (e:M.Bd.Out n (M.lessB (xs.getD m 0::r) wide (-1)) st a l) (f:M.Bd.Out n (M.sumB (xs.getD m 0::r) (M.negL wide) 1) a st2 u)
  (g:M.Bd.Out n (M.eachB (M.muxB l) ((xs.getD m 0::r).take xs.length) (u.take xs.length)) st2 b d) (h:M.Bd.Out n (M.divB xs wide m d (q.set m (-l))) b c res):M.Bd.Out n (M.divB xs wide (m+1) r q) st c res:=by
 unfold M.divB;exact M.Bd.Out.bind e (M.Bd.Out.bind f (M.Bd.Out.bind g h))
theorem divide_spec {xv yv:Value} {xs ys:List Int} (h:BdR n bb ar ab X F w st) (hx:Ints (Off X F) w xv xs) (hy:Ints (Off X F) w yv ys) (hl:xs.length=ys.length) (h8:xs.length<=900) (cr:SmL xs) (ct:SmL ys)
  (hK:∀w' F' st' qv rv q r,BdR n bb ar ab X F' w' st'->Mv F w F' w'->Ints (Off X F') w' qv q->Ints (Off X F') w' rv r->SmL q->SmL r->M.Bd.Out n (M.divB xs (ys++[-1]) xs.length (M.offsL xs.length) (M.offsL xs.length)) st st' (q,r)->K (.tuple #[qv,rv]) w'):
  vcall P j7 #[.pointer (some ⟨bb,0,none⟩),xv,yv] w K:=by
 apply VH;simp(disch:=first|(simp only[push_cast])|omega) only[push_cast,hx.len];refine offs_spec (by omega) λw1 ao b0 bg b9=>?_;refine offs_spec (by omega) λw2 qv a6 bd b8=>?_;have e2:=b0.trans a6;refine Clone_signal (hy.ext e2) (by omega) λw3 dd a7 co af=>?_;refine yK xt yN yW rfl rfl λb4 w4 d2 a8 an c3=>?_;refine(co.ext a8).app1 xx c3 (by omega) (by omega) λwv w5 cp bl ca=>?_;have z1:=b0.size;have z2:=a6.size;have z3:=a7.size;have ak:∀b,wv.ownBlock=some b->w2.heap.size<=b:=λb a=>(ca b a).elim (af b) λh=>by omega
 have e4:=e2.trans (a7.trans a8);have ax:∀b,F b->b<w.heap.size:=λb a=>h.lt b (.inl a);have a5:∀b,w.heap.size<=b->¬X b:=λb a hx=>by have:=h.lt b (.inr hx);omega
 have e5:Ext w w5:=Ext.then e4 bl λb a=>by have:=af b a;omega
 have au:Ext w2 w5:=Ext.then (a7.trans a8) bl λb a=>af b a;have h5:=h.ext e5;have c8:Mv F w F w5:=Mv.refl.ext e5;have ce:=bd.ext au;have cj:=bg.ext (a6.trans au);have ch:∀b,ao.ownBlock=some b->qv.ownBlock≠some b:=λb a O=>by have:=bg.lt a;have:=b8 b O;omega
 have ci:∀b,wv.ownBlock=some b->qv.ownBlock≠some b:=λb a O=>by have:=ak b a;have:=bd.lt O;omega
 have bf:∀b,qv.ownBlock=some b->w.heap.size<=b:=λb a=>by have:=b8 b a;omega
 have hR:Ints (λb=> ¬F b/\qv.ownBlock≠some b/\¬X b) w5 ao (M.offsL xs.length):=Ints.weaken cj.ints λb a _=>⟨λhf=>by have:=ax b hf;have:=b9 b a;omega,ch b a,a5 b (b9 b a)⟩;have hW:Ints (λb=> ¬F b/\qv.ownBlock≠some b/\¬X b) w5 wv (ys++[-1]):=Ints.weaken cp.ints λb a _=>⟨λhf=>by have:=ax b hf;have:=ak b a;omega,ci b a,a5 b (by have:=ak b a;omega)⟩;have hX:Ints (λb=> ¬F b/\qv.ownBlock≠some b/\¬X b) w5 xv xs:=by
  have h1:Ints (λb=>(¬F b/\¬X b)/\b<w.heap.size) w xv xs:=Ints.weaken hx λ_ h1 h2=>⟨h1,h2⟩;exact Ints.weaken (h1.ext e5) λb a _=>⟨a.1.1,λO=>(by have:=bf b O;omega),a.1.2⟩
 have hQ:NewI X w F w5 qv (M.offsL xs.length):=NewI.of ce bf h.lt;simp(disch:=first|(simp only[push_cast])|omega) only[push_cast,zJ];have cq:(ys++[(-1:Int)]).length=xs.length+1:=by rw[Q1,hl];rfl
 have al:SmL (ys++[(-1:Int)]):=ct.app (SmL.one (by decide));generalize ys++[(-1:Int)]=wide at*;refine Wc (λm u w'=> ∃F1 bt rv r q,u=[rv,.int .i64 ((m:Int)-1)]/\m<=xs.length/\BdR n bb ar ab X F1 w' bt/\Mv F w F1 w'/\Ints (λb=> ¬F1 b/\qv.ownBlock≠some b/\¬X b) w' rv r/\r.length=xs.length/\SmL r/\NewI X w F1 w' qv q/\q.length=xs.length/\SmL q/\
  Ints (λb=> ¬F1 b/\qv.ownBlock≠some b/\¬X b) w' wv wide/\Ints (λb=> ¬F1 b/\qv.ownBlock≠some b/\¬X b) w' xv xs/\
  ∀st2 res,M.Bd.Out n (M.divB xs wide m r q) bt st2 res->M.Bd.Out n (M.divB xs wide xs.length (M.offsL xs.length) (M.offsL xs.length)) st st2 res) xs.length
  ⟨F,st,ao,_,_,rfl,gr _,h5,c8,hR,M.offsL_len _,SmL.offs _,hQ,M.offsL_len _,SmL.offs _,hW,hX,λ_ _ h=>h⟩ ?_
 rintro m _ g w6 C ⟨F6,bv,rv,r,q,rfl,hm,h6,aa,bh,bi,bj,ag,cg,be,bo,am,a0⟩ hC;simp only[push_cast];refine zh (λd4=>?_) (λd5=>?_)
 ·obtain⟨m,rfl⟩:∃j,m=j+1:=⟨m-1,by omega⟩;have c9:m<xs.length:=(by omega);rw[show((m+1:Nat):Int)-1=(m:Int) by omega];simp(disch:=first|(simp only[push_cast])|omega) only[push_cast,am.iaddr,am.load];refine yK xt yN yW rfl rfl λb7 w7 d3 b1 d8 c4=>?_;have cl:OwnI P zc w7 (.slice (some ⟨b7,0,none⟩) 1 1) [xs.getD m 0]:=Blk.own1 (P:=P) (t:=zc) (cs:=[Value.int .i64 (xs.getD m 0)]) (by rw[qa];exact c4) (Gg _) rfl rfl (by omega);refine cl.app xx (bh.ext b1) (by simp;omega) (by simp;omega) λtv w8 cm ck cb=>?_;have l6:=aa.same.size;have ai:∀b,tv.ownBlock=some b->w6.heap.size<=b:=λb a=>(cb b a).elim (λh=>by have e:b7=b:=gh h;omega) λh=>(by omega);have e8:Ext w6 w8:=Ext.then b1 ck λb a=>by have e:b7=b:=gh a;omega
  have c2:=h6.ext e8;have hT:Ints (λb=> ¬F6 b/\qv.ownBlock≠some b/\¬X b) w8 tv (xs.getD m 0::r):=Ints.weaken cm.ints λb a _=>⟨λhf=>by have:=h6.lt b (.inl hf);have:=ai b a;omega,λO=>(by have:=ag.own.lt O;have:=ai b a;omega),a5 b (by have:=ai b a;omega)⟩;have aj:SmL (xs.getD m 0::r):=(SmL.one (cr.get c9)).app bj;have W:Mv F6 w6 F6 w8:=Mv.refl.ext e8;refine bless_spec c2 (Ints.offQ hT) (Ints.offQ (Ints.ext bo e8)) (by simp;omega) (by simp;omega) aj al λw9 F9 cv l h9 H c6 cd=>?_;have y:=(ag.mv W).mv H;have cf:=y.own.ints;simp(disch:=first|(simp only[push_cast])|omega) only[push_cast,zJ,GQ,cf.iaddr];refine y.own.st yN (by omega) λap bc J d0=>?_;have av:BdR n bb ar ab X F9 ap cv:=h9.upd h.err J λb a=>y.off b a;have b2:Mv F w F9 ap:=(((aa.trans W)).trans H).to J λb a=> .inr (y.off b a).1;have keep:∀{v:Value} {zs:List Int},Ints (λb=> ¬F9 b/\qv.ownBlock≠some b/\¬X b) w9 v zs->Ints (λb=> ¬F9 b/\qv.ownBlock≠some b/\¬X b) ap v zs:=λhh=>Ints.same hh J λb a _ hx=>a.2.1 hx;have Q:=keep (Ints.mvQ hT H);have a3:=keep (Ints.mvQ (Ints.ext bo e8) H);have bp:=keep (Ints.mvQ (Ints.ext am e8) H);refine negated_spec a3 (by omega) al λcw nv c b3 ad=>?_;have bx:=av.ext c;have hN:Ints (Off X F9) cw nv (M.negL wide):=(NewI.of b3 ad av.lt).ints;refine bsum_spec bx (Ints.offQ (Ints.ext Q c)) hN (by rw[M.negL_len];simp;omega) (by simp;omega) aj al.neg (by decide) λA p a4 uv us aw f bm cn Y=>?_;have d7:us.length=xs.length+1:=by
   have:=M.sum_len Y.reach;rw[M.negL_len,cq,gu,bi] at this;omega
  have d9:=f.same.size;have i:Mv F w p A:=(b2.ext c).trans f;have ay:=Ints.mvQ (Ints.ext Q c) f;have bn:=Ints.mvQ (Ints.ext a3 c) f;have bq:=Ints.mvQ (Ints.ext bp c) f;have a1:NewI X w p A qv (q.set m (-l)):=(NewI.mv (F':=F9) ⟨bc,y.off,y.out⟩ (Mv.refl.ext c)).mv f;have az:=bm.ints;refine vmkS_own (z:= .int .i64 0) (bs:=8) xx qa yW rfl (by omega) (by omega) λL bw o T ae=>?_;have o:OwnI P zc bw L (List.replicate xs.length 0):=by unfold OwnI;rw[pk];exact o
  have bz:=aw.ext T;have b5:NewI X A p bw L (List.replicate xs.length 0):=NewI.of o ae aw.lt;have ac:=o.ints;have ah:(List.replicate xs.length (0:Int)).length=xs.length:=gF;have hlen:∀(w':World) (K:Value->World->Prop),vbi P .len [zc] ze [L] w' K=K (.int .i64 xs.length) w':=λw' K=>(by rw[ac.len qo,ah]);simp only[hlen];have d6:(xs.getD m 0::r).length=xs.length+1:=(by rw[gu,bi]);generalize ht:xs.getD m 0::r=t at*;refine vloop_up xs.length (λk u w'=> ∃F4 N zs,u=[.int .i64 k]/\BdR n bb ar ab X F4 w' N/\Mv p A F4 w'/\NewI X A F4 w' L (zs++List.replicate (xs.length-k) 0)/\SmL zs/\zs.length=k/\
   ∀st2 rs,M.Bd.Out n (M.eachB (M.muxB l) ((t.take xs.length).drop k) ((us.take xs.length).drop k)) N st2 rs->M.Bd.Out n (M.eachB (M.muxB l) (t.take xs.length) (us.take xs.length)) a4 st2 (zs++rs))
   ⟨p,a4,[],rfl,bz,Mv.refl.ext T,by simpa using b5,SmL.nil,rfl,λ_ _ h=>h⟩ ?_
  rintro k _ g4 da C4 hk ⟨F4,N,zs,rfl,h4,G,x,an,br,I⟩ c5;simp only[push_cast];refine zh (λcz=>?_) (λcy=>?_)
  ·have D:k<xs.length:=(by omega);have b6:(zs++List.replicate (xs.length-k) (0:Int)).length=xs.length:=by rw[Q1,gF];omega
   refine zr λdb B _=>?_;have c0:=h4.ext B;have E:=G.ext B;have R:=Ints.mvQ ay E;have S:=Ints.mv az E;simp(disch:=first|(simp only[push_cast])|omega) only[push_cast,R.iaddr,R.load,S.iaddr,S.load,true_and];refine bmux_spec c0 c6 (aj.get (by omega)) (cn.get (by omega)) λcx aq bu s c1 V bk ba=>?_;have d:=(x.mv (Mv.refl.ext B)).mv V;have cc:=d.own.ints;rw[cc.iaddr xU (by omega) (by rw[b6];omega),gl];simp only[true_and];refine d.own.st yN (by rw[b6];exact D) λdc Z a2 d1=>?_;rw[fill_set br D] at Z
   try simp(disch:=omega) only[push_cast,zJ]
   have a9:Mv p A aq cx:=E.trans V;have cu:=i.same.size;refine c5 D _ _ ⟨aq,bu,zs++[s],by simp,c1.upd h.err a2 λb a=>⟨by have:=(d.off b a).1;omega,(d.off b a).2⟩,a9.to a2 λb a=> .inr (d.off b a).1,⟨Z,d.off,d.out⟩,an.app (SmL.one bk),by simp[br],λst2 rs ho=>?_⟩;have:=I st2 (s::rs) ?_
   ·simpa using this
   rw[Q20 (by rw[gi];omega) (by rw[gi];omega),qs0 D,qs0 D];exact M.Bd.Out.bind ba (M.Bd.Out.map _ ho)
  ·rw[show xs.length-k=0 by omega,Pb,gz] at x;have U:=I N [] (by rw[ZG0 (by rw[gi];omega)];exact M.Bd.Out.ret _ _);rw[gz] at U
   try simp(disch:=omega) only[push_cast,zJ]
   have cu:=i.same.size;refine hC m _ _ (by omega) ⟨F4,N,L,zs,q.set m (-l),by simp<;>exact⟨rfl,rfl⟩,by omega,h4,i.trans G,Ints.weaken x.own.ints λb a _=>⟨(x.off b a).2,λO=>(by have:=(x.off b a).1;have:=a1.own.lt O;omega),x.out b a⟩,by omega,an,a1.mv G,by rw[gH];exact cg,be.set (by unfold Sm at*;omega),Ints.mvQ bn G,Ints.mvQ bq G,λst2 res ho=>a0 st2 res ?_⟩;subst ht;exact VM0 cd Y U ho
 ·have c7:m=0:=(by omega);subst c7;exact hK w6 F6 bv qv rv q r h6 aa ag.ints (Ints.offQ bh) be bj (a0 bv (q,r) (by unfold M.divB;exact M.Bd.Out.ret _ _))
end
section
variable {w:World} {K:Value->World->Prop} {F F' X Q:Nat->Prop} {n bc bb:Nat} {v:Value} {ar ab:Addr} {st:Option M.Gs}
theorem V60 {s:Int} {xs:List Int} {j:Nat} (h:xs.length<=j):M.rowB s (xs.drop j)= .ret []:=by rw[Gk h];rfl
theorem Wp0 {s:Int} {xs:List Int} {j:Nat} (h:j<xs.length):M.rowB s (xs.drop j)= .and (xs.getD j 0) s λv=>(M.rowB s (xs.drop (j+1))).map (v:: ·):=by rw[kH h];rfl
theorem Vc0 {xs ys s:List Int} {i j:Nat} (h:ys.length<=j):M.mulB xs (ys.drop j) i s= .ret s:=by rw[Gk h];rfl
def P2 (l t:Nat) (F:Nat->Prop) (b:Nat):Prop:=F b\/b=l\/b=t
theorem Mv.p2 {w':World} {l t:Nat} (h:Mv F w F' w'):Mv (P2 l t F) w (P2 l t F') w':=
 ⟨h.same.mono λ_ _ h=> .inl h,λb a=>a.elim (λa=>(h.new b a).imp .inl id) λa=> .inl (.inr a)⟩
theorem Mv.sub {w' w'':World} {S:Nat->Prop} (h:Mv F w F' w') (hs:Same S w' w'') (a:∀b,S b->F' b):Mv F w F' w'':=h.to hs λb c=> .inl (a b c)
theorem Ints.notD {xs:List Int} {D:Nat} {ds:Option (List Deferred)} (h:Ints F w v xs) (q:w.heap[D]?=some (.deferred ds)):Ints (λb=>F b/\b≠D) w v xs:=by
 obtain⟨⟨a,c,r,p,hm,n⟩,k⟩:=h;refine⟨⟨a,c,r,p,hm,λg=>?_⟩,k⟩;obtain⟨b,o,m,l,i,d⟩:=n g;refine⟨b,o,m,⟨l,λe=>?_⟩,i,d⟩;subst e;have j:=gG.2 g;have hw:=k _ (M.getD_mem j []);have f:=d 0 j 0 _ (K3 (by omega));rw[xR] at f;simp[World.cell?,q] at f
theorem mul_spec {xv yv:Value} {xs ys:List Int} (h:BdR n bb ar ab X F w st) (hx:Ints (Off X F) w xv xs) (hy:Ints (Off X F) w yv ys) (hl:xs.length=ys.length) (h8:xs.length<=900) (cx:SmL xs) (cy:SmL ys)
  (hK:∀w' F' st' r zs,BdR n bb ar ab X F' w' st'->Mv F w F' w'->Ints (Off X F') w' r zs->SmL zs->M.Bd.Out n (M.mulB xs ys 0 (M.offsL xs.length)) st st' zs->K r w'):
  vcall P ZP #[.pointer (some ⟨bb,0,none⟩),xv,yv] w K:=by
 apply zZ0;unfold Y8;have cn:=h.lt;refine jK λb3 w1 df ax ds au=>?_;replace au:Blk w1 b3 [.pointer (some ⟨bb,0,none⟩)] y1:=au;have cv:Ints (Off X F) w1 xv xs:=hx.ext ax;simp(disch:=first|(simp only[push_cast])|omega) only[push_cast,cv.len];refine offs_spec (by omega) λw2 bc ay a9 cp=>?_;refine Wf Zz λd w3 dg a4 dt av=>?_;replace av:Blk w3 d [.slice none 0 0] zc:=av;refine Blk.st (i:=0) av (Sl.cells1 (a9.ext a4).ints) (Sl.one (a9.ext a4).ints) Yu rfl λw4 bv cz a1=>?_;replace a1:Blk w4 d [bc] zc:=a1;have z2:=ay.size;have e2:=ax.trans ay;have ao:Ext w1 w4:=Ext.then (ay.trans a4) bv λb a=>by omega
 have e4:=ax.trans ao;have ah:=au.ext ao;have bw:=(a9.ext a4).same bv λb a hx=>by have:=a9.lt a;omega
 simp(disch:=first|(simp only[push_cast])|omega) only[push_cast,ah.ld0];apply zb0;refine jK λbq w5 dh bi du aw=>?_;replace aw:Blk w5 bq [.pointer (some ⟨bb,0,none⟩)] y1:=aw;refine jK λbx w6 di bj dv cj=>?_;refine jK λby_ w7 dj az dw ck=>?_;have bf:Blk w6 bx [xv] zc:=by have:=cj;rwa[Sl.cells1 hx] at this
 have bg:Blk w7 by_ [yv] zc:=by have:=ck;rwa[Sl.cells1 hy] at this
 simp only[push_cast];refine⟨j6,⟨[.pointer (some ⟨by_,0,none⟩),.pointer (some ⟨bx,0,none⟩),.pointer (some ⟨bq,0,none⟩)]⟩,rfl,λl D L RR hD dl b0 dp cm ba ct ag=>?_⟩;have be:=bj.trans (az.trans b0);have a0:=bi.trans be;have e8:=e4.trans a0;have z4:=e4.size;have e1:=a0.size;have dy:=ao.size;have pq:=aw.ext be;have px:=bf.ext (az.trans b0);have py:=bg.ext b0;have p3:=ah.ext a0;have p7:=a1.ext a0;have ci:=h.ext e8;have af:∀b,w.heap.size<=b->¬F b:=λb a hf=>by have:=cn b (.inl hf);omega
 have sz:w1.heap.size=b3+1/\w3.heap.size=d+1/\w5.heap.size=bq+1/\w6.heap.size=bx+1/\w7.heap.size=by_+1/\D=w7.heap.size/\l=D+1:=⟨by omega,by omega,by omega,by omega,by omega,hD,by omega⟩;have e0:w4.heap.size=w3.heap.size:=cz;have dz:=a4.size;have z45:=bi.size;have e3:=bj.size;have z67:=az.size;have cw:Ints (Off X (P2 l d F)) L xv xs:=by
  have v:Ints (λb=>(¬F b/\¬X b)/\b<w.heap.size) w xv xs:=Ints.weaken hx λ_ v T=>⟨v,T⟩;exact Ints.weaken (v.ext e8) λb a _=>⟨λo=>o.elim a.1.1 λo=>by have:=a.2;omega,a.1.2⟩
 have c2:Ints (Off X (P2 l d F)) L yv ys:=by
  have v:Ints (λb=>(¬F b/\¬X b)/\b<w.heap.size) w yv ys:=Ints.weaken hy λ_ v T=>⟨v,T⟩;exact Ints.weaken (v.ext e8) λb a _=>⟨λo=>o.elim a.1.1 λo=>by have:=a.2;omega,a.1.2⟩
 have cu:Ints (Off X (P2 l d F)) L bc (M.offsL xs.length):=Ints.weaken (bw.ext a0).ints λb a _=>by
  have v:=a9.lt a;have T:=cp b a;refine⟨λo=>?_,λhx=>by have:=h.lt b (.inr hx);omega⟩;rcases o with o|o|o
  ·exact af b (by omega) o
  ·omega
  ·omega
 have off:∀(m:Nat->Prop),(∀b,m b->F b\/L.heap.size<=b)->∀b,w.heap.size<=b->b<L.heap.size->¬m b:=λm hN b v T hf=>(hN b hf).elim (af b v) λh=>by omega
 show vcall P j6 #[.func (.yield l) #[] #[],.pointer (some ⟨by_,0,none⟩),.pointer (some ⟨bx,0,none⟩),.pointer (some ⟨bq,0,none⟩)] L _;apply VG;simp(disch:=first|(simp only[push_cast])|omega) only[push_cast,py.ld0,c2.len];refine vloop_up ys.length (λi u w'=> ∃m J sv s,u=[.int .i64 i]/\RR .ready none w'/\BdR n bb ar ab X m w' J/\Mv (P2 l d F) L (P2 l d m) w'/\(∀b,m b->F b\/L.heap.size<=b)/\Blk w' d [sv] zc/\Ints (Off X (P2 l d m)) w' sv s/\s.length=xs.length/\SmL s/\
  ∀st2 res,M.Bd.Out n (M.mulB xs (ys.drop i) i s) J st2 res->M.Bd.Out n (M.mulB xs ys 0 (M.offsL xs.length)) st st2 res)
  ⟨F,st,bc,_,rfl,ct,ci,Mv.refl,λb a=> .inl a,p7,cu,M.offsL_len _,SmL.offs _,λ_ _ h=>h⟩ ?_
 rintro i _ g w9 C hi ⟨m,J,sv,s,rfl,bs,h9,V,U,c9,bz,dq,c0,ak⟩ hC;simp only[push_cast];have z9:=V.same.size;have keep:∀{b:Nat} {cs:List Value} {t:TypeId},Blk L b cs t->w.heap.size<=b->b≠l->b≠d->Blk w9 b cs t:=λa v T h3=>a.same V.same λo=>o.elim (af _ v) λo=>o.elim T h3;have q9:=keep pq (by omega) (by omega) (by omega);have x9:=keep px (by omega) (by omega) (by omega);have k9:=keep p3 (by omega) (by omega) (by omega);have d9:w9.heap[D]?=some (.deferred (some [])):=(V.same.block D (by omega) λo=>o.elim (af _ (by omega)) λo=>by omega).trans cm;refine zh (λdm=>?_) (λd7=>?_)
 ·have b1:i<ys.length:=(by omega);have c1:=Ints.mv c2 V;simp(disch:=first|(simp only[push_cast])|omega) only[push_cast,c1.iaddr,c1.load];refine offs_spec (by omega) λac cd ai bp bo=>?_;have cg:=h9.ext ai;have bt:NewI X w9 m ac cd (M.offsL i):=NewI.of bp bo h9.lt;have dr:(xs.take (xs.length-i)).length=xs.length-i:=by rw[gi];omega
  refine vloop_up (xs.length-i) (λj u w'=> ∃F2 st2 rv zs,u=[rv,.int .i64 ((i+j:Nat):Int)]/\BdR n bb ar ab X F2 w' st2/\Mv m w9 F2 w'/\NewI X w9 F2 w' rv (M.offsL i++zs)/\SmL zs/\zs.length=j/\
   ∀W rs,M.Bd.Out n (M.rowB (ys.getD i 0) ((xs.take (xs.length-i)).drop j)) st2 W rs->M.Bd.Out n (M.rowB (ys.getD i 0) (xs.take (xs.length-i))) J W (zs++rs))
   ⟨m,J,cd,[],rfl,cg,Mv.refl.ext ai,by rw[gz];exact bt,SmL.nil,rfl,λ_ _ h=>h⟩ ?_
  rintro j _ g2 x C2 hj ⟨F2,st2,rv,zs,rfl,ad,f,G,aa,c4,a6⟩ cl;have a5:Mv (P2 l d F) L (P2 l d F2) x:=V.trans f.p2;have O:∀b,F2 b->F b\/L.heap.size<=b:=λb a=>(f.new b a).elim (U b) λh=> .inr (by omega);have B:∀{b:Nat} {cs:List Value} {t:TypeId},Blk w9 b cs t->w.heap.size<=b->b<L.heap.size->Blk x b cs t:=λa v T=>a.same f.same (off m U _ v T);have d2:=B q9 (by omega) (by omega);have cf:=B x9 (by omega) (by omega);have d0:=B k9 (by omega) (by omega);have c6:=B c9 (by omega) (by omega);have d11:x.heap[D]?=some (.deferred (some [])):=(f.same.block D (by omega) (off m U D (by omega) (by omega))).trans d9;have ca:RR .ready none x:=ba _ _ _ _ bs (f.same.block l (by omega) (off m U l (by omega) (by omega)));have dx:=f.same.size;have al:=Ints.mv cw a5;simp(disch:=first|(simp only[push_cast])|omega) only[push_cast,cf.ld0,al.len];refine zh (λda=>?_) (λd8=>?_)
  ·have bk:j<xs.length-i:=(by omega);refine zr λN y _=>?_;have am:Ints (Off X (P2 l d F2)) N xv xs:=Ints.ext al y;have d3:=d2.ext y;have d5:=cf.ext y;have ei:((i:Int)+j)-i=(j:Int):=(by omega);simp(disch:=first|(simp only[push_cast])|omega) only[push_cast,d3.ld0,d5.ld0,zJ,ei,am.iaddr,am.load,true_and];refine Y1 (ad.ext y) (cx.get (by omega)) (cy.get b1) λbd c A ce ap k bu Q=>?_;refine yK xt yN yW rfl rfl λde Y d6 a3 c3 E=>?_;have aj:Mv m w9 c Y:=((f.ext y).trans k).ext a3;have ae:=ap.ext a3;have R:NewI X w9 c Y rv (M.offsL i++zs):=((G.mv (Mv.refl.ext y)).mv k).mv (Mv.refl.ext a3);have dn:(M.offsL i++zs).length=i+j:=(by rw[Q1,M.offsL_len,c4]);refine R.app1 E aj.same.size ae.lt (by omega) λd4 Z a7 q=>?_;have aq:BdR n bb ar ab X c Z A:=ae.upd h.err q λb a=>⟨by have:=(R.off b a).1;omega,(R.off b a).2⟩;have bn:Mv m w9 c Z:=aj.to q λb a=> .inr (R.off b a).1
   try simp(disch:=omega) only[push_cast,zJ]
   refine cl bk _ _ ⟨c,A,d4,zs++[ce],by simp<;>omega,aq,bn,by rw[<-Gb];exact a7,aa.app (SmL.one bu),by simp[c4],λW rs ho=>?_⟩;have:=a6 W (ce::rs) ?_
   ·simpa using this
   rw[Wp0 (by omega),qs0 bk];exact Qw Q (M.Bd.Out.map _ ho)
  ·have dk:j=xs.length-i:=(by omega);have a8:=a6 st2 [] (by rw[V60 (by omega)];exact M.Bd.Out.ret _ _);rw[gz] at a8;refine ag [rv] x _ rfl ca ⟨ca,λN p dc bh=>?_⟩;have bl:∀b,(b=l)->w.heap.size<=b/\¬F2 b:=λb a=>⟨by omega,off F2 O b (by omega) (by omega)⟩;have ch:BdR n bb ar ab X F2 N st2:=ad.upd h.err p bl;have d1:=d0.same p (show¬b3=l by omega);have an:=c6.same p (show¬d=l by omega);have I:=Ints.mv bz f.p2;have b8:Ints (Off X (P2 l d F2)) N sv s:=Ints.same I p λb a _ e=>a.1 (.inr (.inl e));have br:NewI X w9 F2 N rv (M.offsL i++zs):=⟨G.own.same p λb a e=>by have:=(G.off b a).1;omega,G.off,G.out⟩;simp(disch:=first|(simp only[push_cast])|omega) only[push_cast,d1.ld0,an.ld0];have b9:Ints (Off X F2) N sv s:=Ints.weaken b8 λb a _=>⟨λhf=>a.1 (.inl hf),a.2⟩;refine bsum_spec ch b9 br.ints (by rw[Q1,M.offsL_len];omega) (by omega) c0 ((SmL.offs i).app aa) (by decide) λbd c A nv ns ap k z cr Q=>?_;have a2:∀b,c b->F b\/L.heap.size<=b:=λb a=>(k.new b a).elim (O b) λh=> .inr (by omega);have c7:=an.same k.same (off F2 O d (by omega) (by omega));refine Blk.st (i:=0) c7 (Sl.cells1 z.own.ints) (Sl.one z.own.ints) Yu rfl λY S c3 E=>?_;replace E:Blk Y d [nv] zc:=E;have cb:RR .busy none bd:=ba _ _ _ _ bh (k.same.block l (by omega) (off F2 O l (by omega) (by omega)));have cc:RR .busy none Y:=ba _ _ _ _ cb (S.block l (by have:=k.same.size;omega) (by omega));refine⟨cc,λZ q dd a7=>?_⟩;have ae:BdR n bb ar ab X c Y A:=ap.upd h.err S λb a=>⟨by omega,off c a2 b (by omega) (by omega)⟩;have aq:BdR n bb ar ab X c Z A:=ae.upd h.err q λb a=>⟨by omega,off c a2 b (by omega) (by omega)⟩;have z12:=p.size;have b2:Mv (P2 l d F) L (P2 l d F2) N:=a5.sub p λb a=> .inr (.inl a);have b4:Mv (P2 l d F) L (P2 l d c) Z:=(((b2.trans k.p2).sub S λb a=> .inr (.inr a))).sub q λb a=> .inr (.inl a);have c8:=E.same q (show¬d=l by omega);have b5:Ints (Off X (P2 l d c)) Z nv ns:=by
    have v:Ints (Off X (P2 l d c)) bd nv ns:=Ints.weaken z.own.ints λb a _=>⟨λo=>by
     have:=(z.off b a).1;rcases o with o|o|o
     ·exact(z.off b a).2 o
     ·omega
     ·omega,z.out b a⟩
    exact Ints.same (Ints.same v S λb a _ e=>a.1 (.inr (.inr e))) q λb a _ e=>a.1 (.inr (.inl e))
   have cq:ns.length=xs.length:=by
    have:=M.sum_len Q.reach;rw[Q1,M.offsL_len] at this;omega
   simp(disch:=omega) only[push_cast,Pd,zJ];refine hC b1 _ _ ⟨c,A,nv,ns,by simp,a7,aq,b4,a2,c8,b5,cq,cr,λW res ho=>ak W res ?_⟩;rw[kH b1];exact M.Bd.Out.bind a8 (M.Bd.Out.bind Q ho)
 ·refine⟨.ready,none,by decide,bs,λac H db=>?_⟩;show zf P zc _ ac _;have c5:=c9.same H (show¬d=l by omega);have d10:ac.heap[D]?=some (.deferred (some [])):=(H.block D (by omega) (by omega)).trans d9;simp(disch:=first|(simp only[push_cast])|omega) only[push_cast,c5.ld0];refine⟨d10,λx I aa=>?_⟩;have bm:∀b,w.heap.size<=b->b<L.heap.size->w.heap.size<=b/\¬m b:=λb v T=>⟨v,off m U b v T⟩;have ad:BdR n bb ar ab X m x J:=(h9.upd h.err H λb a=>bm b (by omega) (by omega)).upd h.err I λb a=>bm b (by omega) (by omega);have co:Mv F w m x:=by
   refine⟨Same.thn (Same.thn (Same.thn (Same.of_ext e8) V.same λb a=>a.elim .inl λa=> .inr (by omega)) H λb a=> .inr (by omega)) I λb a=> .inr (by omega),λb a=>(U b a).imp id λh=>?_⟩;have:=e8.size;omega
  have b6:Ints (Off X m) x sv s:=by
   have v:Ints (Off X (P2 l d m)) ac sv s:=Ints.same bz H λb a _ e=>a.1 (.inr (.inl e));have T:=Ints.notD v d10;exact Ints.weaken (Ints.same T I λb a _ e=>a.2 e) λb a _=>⟨λhf=>a.1.1 (.inl hf),a.1.2⟩
  exact hK x m J sv s ad co b6 c0 (ak J s (by rw[Vc0 (by omega)];exact M.Bd.Out.ret _ _))
end
section
variable {w:World} {K:Value->World->Prop} {F F' Fx Fy X Q:Nat->Prop} {n bc bb:Nat} {gs:M.Gs} {v:Value} {ar ab:Addr} {st:Option M.Gs}
theorem Ja0 {t ty:TypeId} {a:Option Addr} {l c:Nat} (b:isSl P t=true):vbi P .cap [t] ty [.slice a l c] w K=K (.int .i64 c) w:=by
 obtain⟨e,he⟩:=Zi0 b;exact yU (by simp[biSem,Builtin.cap_,qX he,goInt])
theorem Grow_nil {m:Nat} (hm:m<=1000) (d:∀w' r,Ext w w'->OwnI P zc w' r []->(∀b,r.ownBlock=some b->w.heap.size<=b)->K r w'):vcall P xm #[.slice none 0 0,.int .i64 m] w K:=by
 apply kI;refine zS (λu w'=>w'=w) ?_ ?_
 ·intro J f;simp only[push_cast];refine zh (λh=>?_) (λh=>f _ _ rfl);omega
 rintro _ _ w' hw;rw[hw,Ja0 qo,kX0 qo];simp(disch:=omega) only[push_cast,zJ,Int.sub_zero];refine zh (λh=>?_) (λh=>?_)
 ·rw[Ja0 qo];have c0:∀K:Value->World->Prop,yQ P zc (.slice none 0 0) none (some (.int .i64 (0:Nat))) none w K=K (.slice none 0 0) w:=λK=>OwnV.cut (P:=P) (t:=zc) (w:=w) OwnV.nil xU (n:=0) (by simp);rw[c0];refine vappend_make (bs:=8) xx qa yW rfl kM0 (by omega) (by omega) (by omega) λv' w1 e he g=>?_;rw[kX0 qo,OwnV.cut e xU (n:=0) (by omega)];have c:=OwnV.taken e (n:=0) (by omega);exact d w1 _ he (by rw[PG] at c;exact c) λb a=>g b (by rw[<-qF v' 0];exact a)
 ·exact d w _ (Same.refl _ _) OwnI.nil λb a=>by cases a
theorem zD0 {zss:List (List Int)} {i:Nat} (a:i<zss.length):(zss.take (i+1)).flatten=(zss.take i).flatten++zss.getD i []:=by
 rw[M.take_add a [],pb];simp
theorem flat_le {zss:List (List Int)} (i:Nat):(zss.take i).flatten.length<=zss.flatten.length:=by
 have:zss.flatten=(zss.take i).flatten++(zss.drop i).flatten:=by rw[<-pb,GL]
 rw[this,Q1];omega
theorem Concat_spec {vs:List Value} {zss:List (List Int)} (j:Vals Fx w v vs) (M:vs.length=zss.length) (E:∀i,i<zss.length->Ints Fy w (vs.getD i undef) (zss.getD i [])) (A:zss.flatten.length<=1000) (F:zss.length<=1000)
  (G:∀w' r,Ext w w'->OwnI P zc w' r zss.flatten->(∀b,r.ownBlock=some b->w.heap.size<=b)->K r w'):vcall P xi #[v] w K:=by
 apply jQ;simp(disch:=first|(simp only[push_cast])|omega) only[push_cast,j.len];refine vloop_up zss.length (λi u w'=>u=[.int .i64 ((zss.take i).flatten.length:Nat),.int .i64 i]/\w'=w) ⟨rfl,rfl⟩ ?_;rintro i _ g w1 C p ⟨rfl,B⟩ k;rw[B];simp only[push_cast];refine zh (λq=>?_) (λn=>?_)
 ·have a:i<zss.length:=(by omega);have D:=E i a;have hle:=flat_le (zss:=zss) (i+1);rw[zD0 a,Q1] at hle;simp(disch:=first|(simp only[push_cast])|omega) only[push_cast,j.iaddr,j.load,D.len,zJ];refine zh (λL=>by omega) (λ_=>?_);exact k a _ _ ⟨by rw[zD0 a,Q1];simp,rfl⟩
 have o:i=zss.length:=by omega
 subst o;rw[gC];refine Grow_nil A λw2 H m x s=>?_;refine vloop_up zss.length (λi u w'=> ∃r,u=[r,.int .i64 i]/\Ext w w'/\OwnI P zc w' r (zss.take i).flatten/\∀b,r.ownBlock=some b->w.heap.size<=b) ⟨H,rfl,m,x,s⟩ ?_;rintro i _ g J C p ⟨r,rfl,c,e,d⟩ k;simp only[push_cast];refine zh (λq=>?_) (λn=>?_)
 ·have a:i<zss.length:=(by omega);have D:=(E i a).ext c;have f:=j.ext c;have hle:=flat_le (zss:=zss) (i+1);rw[zD0 a,Q1] at hle;simp(disch:=first|(simp only[push_cast])|omega) only[push_cast,f.iaddr,f.load];refine e.app xx D (by omega) (by omega) λI N y z t=>?_;have:=c.size
  try simp(disch:=omega) only[push_cast,zJ]
  exact k a _ _ ⟨I,by simp<;>exact⟨rfl,rfl⟩,Ext.then c z λb l=>d b l,by rw[zD0 a];exact y,λb l=>(t b l).elim (d b) λh=>by omega⟩
 ·rw[show i=zss.length by omega,gC] at e;exact G J r c e d
theorem un_spec {op:Int} {xv:Value} {xs:List Int} (h:BdR n bb ar ab X F w st) (B:op=1\/op=2) (s:Ints (Off X F) w xv xs) (D:xs.length<=900) (d:SmL xs)
  (e:∀w' F' st' r zs,BdR n bb ar ab X F' w' st'->Mv F w F' w'->Ints (Off X F') w' r zs->SmL zs->M.Bd.Out n (M.unB op xs) st st' zs->K r w'):
  vcall P Yt #[.pointer (some ⟨bb,0,none⟩),.int .i64 op,xv] w K:=by
 apply xf0;simp only[push_cast];unfold M.unB at e;refine zh (λc=>?_) (λc=>?_)
 ·rw[if_pos c] at e;refine negated_spec s (by omega) d λw1 r a p j=>?_;exact e w1 F st r _ (h.ext a) (Mv.refl.ext a) (NewI.of p j h.lt).ints d.neg (M.Bd.Out.ret _ _)
 rw[if_neg c] at e;simp(disch:=first|(simp only[push_cast])|omega) only[push_cast,s.len];refine zh (λc2=>?_) (λc2=>by omega);refine offs_spec (by omega) λw1 ov a m l=>?_;refine negated_spec (s.ext a) (by omega) d λw2 nv f k g=>?_;have v:=a.trans f;have E:=a.size;have hO:Ints (Off X F) w2 ov (M.offsL xs.length):=(NewI.of (m.ext f) l h.lt).ints;have z:Ints (Off X F) w2 nv (M.negL xs):=(NewI.of k (λb A=>by have:=g b A;omega) h.lt).ints;refine bsum_spec (h.ext v) hO z (by rw[M.offsL_len,M.negL_len];exact gr _) (by rw[M.offsL_len];omega) (SmL.offs _) d.neg (by decide) λC x u r zs y i q t o=>?_;exact e C x u r zs y ((Mv.refl.ext v).trans i) q.ints t o
theorem bin_spec {op:Int} {xv yv:Value} {xs ys:List Int} (h:BdR n bb ar ab X F w st) (U:∃gs,st=some gs) (u:3<=op) (a0:op<=14) (o:Ints (Off X F) w xv xs) (t:Ints (Off X F) w yv ys) (E:op≠14->xs.length=ys.length) (hc:op=14->xs.length+ys.length<=4) (D:1<=xs.length) (h8:xs.length<=8) (g:SmL xs) (j:SmL ys)
  (d:∀w' F' st' r zs,BdR n bb ar ab X F' w' st'->Mv F w F' w'->Ints (Off X F') w' r zs->SmL zs->M.Bd.Out n (M.binB op xs ys) st st' zs->K r w'):
  vcall P jN #[.pointer (some ⟨bb,0,none⟩),.int .i64 op,xv,yv] w K:=by
 apply y00;obtain⟨gs,rfl⟩:=U;obtain⟨bc,Z,hC⟩:=h.blk;simp only at Z;unfold M.binB at d;simp only[push_cast,yF qM h.err.bits.cell];refine zh (λc=>?_) (λc=>?_)
 ·rw[if_pos c] at d;have:=hc c;simp(disch:=first|(simp only[push_cast])|omega) only[push_cast,o.len,t.len,zJ,yF qM h.err.bits.cell];rw[decide_eq_false (by omega)];refine j00 ?_;refine vbuildS_row1 (xs:=[yv,xv]) V8 Yu Zz (λx L=>by
   simp only[gd,gw,or_false] at L;rcases L with rfl|rfl
   ·exact Sl.cells1 t
   ·exact Sl.cells1 o) (by simp) λb1 w1 a1 s a2 O=>?_
  have hv:Vals (· =b1) w1 (.slice (some ⟨b1,0,none⟩) [yv,xv].length [yv,xv].length) [yv,xv]:=O.sl1 rfl (by simp);refine Concat_spec (zss:=[ys,xs]) hv rfl (Fy:=Off X F) (λi hi=>?_) (by simp;omega) (by simp) λw2 r Q T S=>?_
  ·match i,hi with
   |0,_=>exact t.ext s
   |1,_=>exact o.ext s
  ·have Y:=s.trans Q;have z1:=s.size;refine d w2 F (some gs) r (ys++xs) (h.ext Y) (Mv.refl.ext Y) (NewI.of (w:=w) (by simpa using T) (λb hb=>by have:=S b hb;omega) h.lt).ints (j.app g) (M.Bd.Out.ret _ _)
 rw[if_neg c] at d;have E:=E c;simp(disch:=first|(simp only[push_cast])|omega) only[push_cast,o.len,t.len,yF qM h.err.bits.cell];rw[decide_eq_false (by omega)];refine j00 ?_;simp(disch:=first|(simp only[push_cast])|omega) only[push_cast,Z.ld1,UH];refine zh (λc=>?_) (λc=>?_)
 ·rw[if_pos c] at d;exact each_spec (p:=λa b=> .and a b .ret) h o t (by omega) (by omega) g j (λw1 V N x y W D _ B C A=>Y1 D B C A) λz v k r zs u e l m f=>d z v k r zs u e l.ints m f
 rw[if_neg c] at d;refine zh (λc=>?_) (λc=>?_)
 ·rw[if_pos c] at d;exact each_spec (p:=M.orB) h o t (by omega) (by omega) g j (λw1 V N x y W D _ B C A=>bor_spec D B C A) λz v k r zs u e l m f=>d z v k r zs u e l.ints m f
 rw[if_neg c] at d;refine zh (λc=>?_) (λc=>?_)
 ·rw[if_pos c] at d;exact each_spec (p:=λa b=> .xor a b .ret) h o t (by omega) (by omega) g j (λw1 V N x y W D _ B C A=>VL D B C A) λz v k r zs u e l m f=>d z v k r zs u e l.ints m f
 rw[if_neg c] at d;refine zh (λc=>?_) (λc=>?_)
 ·rw[if_pos c] at d;exact bsum_spec h o t (by omega) (by omega) g j (by decide) λz v k r zs u e l m f=>d z v k r zs u e l.ints m f
 rw[if_neg c] at d;refine zh (λc=>?_) (λc=>?_)
 ·rw[if_pos c] at d;refine negated_spec t (by omega) j λw1 nv s R G=>?_;exact bsum_spec (h.ext s) (o.ext s) (NewI.of R G h.lt).ints (by rw[M.negL_len];omega) (by omega) g j.neg (by decide) λz v k r zs u e l m f=>d z v k r zs u ((Mv.refl.ext s).trans e) l.ints m f
 rw[if_neg c] at d;refine zh (λc=>?_) (λc=>?_)
 ·rw[if_pos c] at d;exact mul_spec h o t E (by omega) g j d
 rw[if_neg c] at d;refine zh (λc=>?_) (λc=>?_)
 ·rw[if_pos c] at d;refine divide_spec h o t E (by omega) g j λz v k qv rv q r u e H l I J f=>?_;simp only[push_cast];exact d z v k qv q u e H I (M.Bd.Out.map _ f)
 rw[if_neg c] at d;refine zh (λc=>?_) (λc=>?_)
 ·rw[if_pos c] at d;refine divide_spec h o t E (by omega) g j λz v k qv rv q r u e H l I J f=>?_;simp only[push_cast];exact d z v k rv r u e l J (M.Bd.Out.map _ f)
 rw[if_neg c] at d;refine zh (λc=>?_) (λc=>?_)
 ·rw[if_pos c] at d;exact shift_spec h o t (by omega) (by omega) g j (by decide) d
 rw[if_neg c] at d;refine zh (λc=>?_) (λc=>?_)
 ·rw[if_pos c] at d;exact shift_spec h o t (by omega) (by omega) g j (by decide) d
 rw[if_neg c] at d;refine zh (λc=>?_) (λc=>by omega);simp(disch:=first|(simp only[push_cast])|omega) only[push_cast,o.len,zJ,o.iaddr,o.load];rw[show((xs.length:Int)-1).toNat=xs.length-1 by omega];exact shift_spec h o t (by omega) (by omega) g j (g.get (by omega)) d
theorem compare_spec {op:Int} {xv yv:Value} {xs ys:List Int} (h:BdR n bb ar ab X F w st) (g:∃gs,st=some gs) (m:15<=op) (k:op<=17) (e:Ints (Off X F) w xv xs) (f:Ints (Off X F) w yv ys) (l:xs.length=ys.length) (j:1<=xs.length) (o:xs.length<=8) (b:SmL xs) (d:SmL ys)
  (a:∀w' F' st' r,BdR n bb ar ab X F' w' st'->Mv F w F' w'->Sm r->M.Bd.Out n (M.cmpB op xs ys) st st' r->K (.int .i64 r) w'):
  vcall P jH #[.pointer (some ⟨bb,0,none⟩),.int .i64 op,xv,yv] w K:=by
 apply KW;obtain⟨gs,rfl⟩:=g;obtain⟨bc,i,p⟩:=h.blk;simp only at i;unfold M.cmpB at a;simp(disch:=first|(simp only[push_cast])|omega) only[push_cast,e.len,f.len,yF qM h.err.bits.cell];rw[decide_eq_false (by omega)];refine j00 ?_;simp(disch:=first|(simp only[push_cast])|omega) only[push_cast,i.ld1,UH];refine zh (λc=>?_) (λc=>?_)
 ·rw[if_pos c] at a;exact bsame_spec h e f (by omega) (by omega) b d a
 rw[if_neg c] at a;refine zh (λc=>?_) (λc=>?_)
 ·rw[if_pos c] at a;exact bless_spec h e f (by omega) (by omega) b d a
 rw[if_neg c] at a;refine zh (λc=>?_) (λc=>by omega);exact under_spec h e f l j (by omega) b d a
end
section
variable {w:World} {K:Value->World->Prop} {F:Nat->Prop}
abbrev Ye (wd n:Int):Value:= .agg ⟨[.int .i64 wd,.int .i64 n]⟩
theorem pow4 {k:Nat} (a:1<=k) (b:k<=4):2<=2^k/\2^k<=16:=by
 rcases(by omega:k=1\/k=2\/k=3\/k=4) with rfl|rfl|rfl|rfl<;>decide
@[push_cast] theorem bd_Vec (a b:Int):zE P zd [(0,.int .i64 a),(1,.int .i64 b)] w K=K (Ye a b) w:=yo xs0 (us:=[[.int .i64 a],[.int .i64 b]]) rfl rfl
@[push_cast] theorem bd_VecZ:zE P zd [] w K=K (Ye 0 0) w:=yo xs0 (us:=[]) rfl rfl
theorem stVec {b:Nat} {x y:Value} {t:TypeId} {p q:Int} (h:Blk w b [x,y] t) (c:∀w',Same (· =b) w w'->w'.heap.size=w.heap.size->Blk w' b [.int .i64 p,.int .i64 q] t->K undef w'):zn P zd (.pointer (some ⟨b,0,none⟩)) (Ye p q) w K:=
 h.stAgg rfl (by kernel_rfl) (by intro v a;simp only[gd,gw,or_false] at a;rcases a with rfl|rfl<;>rfl) c
theorem kI0 (k:Nat):((2^k:Nat):Int)=2^k:=by simp
theorem VecOk_spec {wd n:Int} (l:∀w',Ext w w'->K (.bool (M.vok wd n)) w'):vcall P qe #[Ye wd n] w K:=by
 apply YX0;refine zx λb1 w1 m g o i=>?_;refine zr λw2 d _=>?_;have h:=i.ext d;have j:=g.trans d;simp(disch:=(simp only[push_cast])) only[push_cast,h.ld0,h.ld1,true_and];have a:=l w2 j;refine zh (λf=>?_) (λf=>?_)
 ·refine zh (λa2=>?_) (λa2=>?_)
  ·refine zh (λa3=>?_) (λa3=>?_)
   ·obtain⟨k,rfl⟩:∃k:Nat,wd=k:=⟨wd.toNat,by omega⟩;have p:=pow4 (k:=k) (by omega) (by omega);have e:zq P .shl ze true (.int .i64 1) (.int .i64 (k:Int)) w2=λK=>K (.int .i64 (2^k:Nat)) w2:=by
     funext K
     have:=vbin_shlI (P:=P) (w:=w2) (K:=K) (c:=true) (t:=ze) (yk:= .i64) (x:=1) (y:=k) (by omega) (by omega);rw[Ph] at this;exact this
    rw[e];simp only[push_cast,true_and];have b:M.vok (k:Int) n=decide (n<(2^k:Nat)):=by
     simp only[M.vok,decide_eq_true f,decide_eq_true a2,decide_eq_true a3,pH,gl,kI0]
    rw[b,kI0] at a;exact a
   ·have b:M.vok wd n=false:=(by simp only[M.vok,decide_eq_false a3,pj,GP]);rw[b] at a;exact a
  ·have b:M.vok wd n=false:=(by simp only[M.vok,decide_eq_false a2,pj,GP]);rw[b] at a;exact a
 ·have b:M.vok wd n=false:=(by simp only[M.vok,decide_eq_false f,GP]);rw[b] at a;exact a
theorem cut_spec {n k:Nat} (d:n<18446744073709551616) (a:1<=k) (b:k<=4) (c:K (.int .u64 (n%2^k:Nat)) w):vcall P YB #[.int .u64 n,.int .i64 k] w K:=by
 apply kd0;have e:=pow4 a b;rw[show(1:Int)=((1:Nat):Int) from rfl,vbin_shlU (by omega) (by omega),Ph,Wd,show((2^k:Nat):Int)-((1:Nat):Int)=((2^k-1:Nat):Int) by omega,wrapU (by omega),V6 d (by omega),Pr];exact c
theorem bit_spec {n k:Nat} (f:n<18446744073709551616) (c:k<64) (b:K (.bool (decide (n/2^k%2=1))) w):vcall P jD #[.int .u64 n,.int .i64 k] w K:=by
 apply ke0;have d:n/2^k<=n:=pQ _ _;rw[vbin_shrU c,show(1:Int)=((1:Nat):Int) from rfl,V6 (by omega) (by omega),JU];have e:n/2^k&&&1=n/2^k%2:=Nat.and_one_is_mod _;rw[e];have a:decide (((n/2^k%2:Nat):Int)=((1:Nat):Int))=decide (n/2^k%2=1):=by
  by_cases h:n/2^k%2=1
  ·rw[h];simp
  ·rw[decide_eq_false h,decide_eq_false];omega
 rw[a];exact b
theorem raw_spec {wd:Int} {n:Nat} (f:n<9223372036854775808) (c:∀w',Ext w w'->K (.int .u64 n) w'):vcall P zQ #[Ye wd n] w K:=by
 apply km0;refine zx λb1 w1 d a e b=>?_;simp(disch:=(simp only[push_cast])) only[push_cast,b.ld1];rw[ZA XN0 Xr0,wrapU (by omega)];exact c _ a
theorem ones_spec {k:Nat} {n:Int} (c:1<=k) (d:k<=4) (e:∀w',Ext w w'->K (.int .u64 (2^k-1:Nat)) w'):vcall P ZT #[Ye k n] w K:=by
 apply jm0;refine zx λb1 w1 f a g b=>?_;simp(disch:=(simp only[push_cast])) only[push_cast,b.ld0];have h:=pow4 c d;rw[show(1:Int)=((1:Nat):Int) from rfl,vbin_shlU (by omega) (by omega),Ph,Wd,show((2^k:Nat):Int)-((1:Nat):Int)=((2^k-1:Nat):Int) by omega,wrapU (by omega)];exact e _ a
theorem vec_spec {k n:Nat} {x:Int} (q:n<18446744073709551616) (h:1<=k) (i:k<=4) (j:∀w',Ext w w'->K (Ye k (n%2^k:Nat)) w'):vcall P Z1 #[Ye k x,.int .u64 n] w K:=by
 apply kl0;have z:=pow4 h i;have hm:n%2^k<2^k:=Pq _ (by omega);refine zx λb1 w1 o c r e=>?_;refine zD xD λb2 w2 p b s f=>?_;refine zr λA a _=>?_;have l:=(e.ext b).ext a;have u:=f.ext a;simp(disch:=(simp only[push_cast])) only[push_cast,l.ld0,true_and];refine cut_spec q h i ?_;obtain⟨m,d⟩:∃m,m=n%2^k:=⟨_,rfl⟩;rw[<-d] at hm j⊢;simp(disch:=(simp only[push_cast])) only[push_cast,l.ld0,true_and,and_self];rw[ZA qt0 kM0,wrapN (by omega)];simp only[push_cast,true_and];refine stVec u λB g _ v=>?_;rw[v.lv (by kernel_rfl)];exact j _ (Ext.then ((c.trans b).trans a) g λy t=>by subst t;omega)
theorem strF_low {k n:Nat} (c:1<=k) (d:k<=4) (e:n<2^k):n|||((18446744073709551615-(2^k-1))&&&4294967295)=n+(4294967296-2^k):=by
 have b:∀v:Fin 5,∀a:Fin 16,1<=v.1->a.1<2^v.1->a.1|||((18446744073709551615-(2^v.1-1))&&&4294967295)=a.1+(4294967296-2^v.1):=by decide+kernel
 have f:=pow4 c d;exact b ⟨k,by omega⟩ ⟨n,by omega⟩ c e
theorem top_bit {k n:Nat} (c:1<=k) (d:k<=4) (e:n<2^k):decide (n/2^(k-1)%2=1)=decide (¬n<2^(k-1)):=by
 have b:∀v:Fin 5,∀a:Fin 16,1<=v.1->a.1<2^v.1->decide (a.1/2^(v.1-1)%2=1)=decide (¬a.1<2^(v.1-1)):=by decide+kernel
 have f:=pow4 c d;exact b ⟨k,by omega⟩ ⟨n,by omega⟩ c e
def Wj0 (k n:Nat):Nat:=if n<2^(k-1) then n else n+(4294967296-2^k)
theorem stretched_spec {k n:Nat} (f:1<=k) (g:k<=4) (q:n<2^k) (p:∀w',Ext w w'->K (.int .u64 (Wj0 k n:Nat)) w'):vcall P kY #[Ye k n] w K:=by
 apply U5;have z:=pow4 f g;refine zx λb1 w1 u d v i=>?_;refine zr λA b _=>?_;have j:=i.ext b;simp(disch:=(simp only[push_cast])) only[push_cast,j.ld0,j.ldAgg (t:=zd) y7,true_and];have o:IntKind.i64.wrap ((k:Int)-1)=((k-1:Nat):Int):=by rw[zJ (by omega) (by omega)];omega
 rw[o];refine raw_spec (by omega) λB c=>?_;have l:=j.ext c;simp(disch:=(simp only[push_cast])) only[push_cast,l.ld0,true_and,o];refine bit_spec (by omega) (by omega) ?_;rw[top_bit f g q];refine zh (λm=>?_) (λm=>?_)
 ·refine zr λC e _=>?_;have r:=l.ext e;simp(disch:=(simp only[push_cast])) only[push_cast,r.ldAgg (t:=zd) y7,true_and];refine raw_spec (by omega) λs a=>?_;have x:=r.ext a;simp(disch:=(simp only[push_cast])) only[push_cast,x.ldAgg (t:=zd) y7,true_and];refine ones_spec f g λy h=>?_;rw[vun_xorU (by omega)];refine⟨rfl,?_⟩;rw[show(4294967295:Int)=((4294967295:Nat):Int) from rfl,V6 (by omega) (by omega)];refine⟨rfl,?_⟩;have hle:(18446744073709551615-(2^k-1))&&&4294967295<=4294967295:=Nat.and_le_right;rw[XJ0 (by omega) (by omega)];refine⟨rfl,?_⟩;have:=p y (((((d.trans b).trans c).trans e).trans a).trans h);unfold Wj0 at this;rw[if_neg m] at this;rw[strF_low f g q];exact this
 ·simp(disch:=(simp only[push_cast])) only[push_cast,l.ldAgg (t:=zd) y7,true_and];refine raw_spec (by omega) λs a=>?_;have:=p s (((d.trans b).trans c).trans a);unfold Wj0 at this;rw[if_pos (by omega)] at this;exact this
theorem pre2 {k a b:Nat} (D:a<16) (E:b<16) {X:Value->Value->World->Prop} (s:∀w',Ext w w'->X (.int .u64 a) (.int .u64 b) w'):
  yX P zd (Ye k a) w λt2 m=>
  yX P zd (Ye k b) m λt3 n=>
  yb n λc=>
  zf P zd t2 c λt5 o=>o=c/\
  zf P zd t3 c λt7 p=>p=c/\
  vcall P zQ #[t5] c λt6 e=>(zf P zd t3 e λv x=>v=t7/\x=e)/\
  vcall P zQ #[t7] e λt8 q=>X t6 t8 q:=by
 refine zx λb1 w1 u h z j=>?_;refine zx λb2 w2 y f A l=>?_;refine zr λF d _=>?_;have B:=(j.ext f).ext d;have r:=l.ext d;simp(disch:=(simp only[push_cast])) only[push_cast,B.ldAgg (t:=zd) y7,r.ldAgg (t:=zd) y7,true_and];refine raw_spec (by omega) λG g=>?_;have C:=r.ext g;simp(disch:=(simp only[push_cast])) only[push_cast,C.ldAgg (t:=zd) y7,true_and,and_self];refine raw_spec (by omega) λH i=>?_;exact s _ ((((h.trans f).trans d).trans g).trans i)
theorem pow16 {k a:Nat} (b:k<=4) (c:a<2^k):a<16:=by
 have:2^k<=2^4:=gO (by omega) b;omega
def OpR (K:Value->World->Prop) (w:World) (op k a b:Nat):Prop:=∀w' (r:Nat),Ext w w'->r<18446744073709551616->r%2^k=M.binN op k a b->K (.int .u64 r) w'
theorem bin_ck {f:Nat->Nat->Nat->Nat} {op:Nat} (h:∀v:Fin 5,(List.range 16).all (λa=>(List.range 16).all λb=> !(decide (1<=v.1)&&decide (a<2^v.1)&&decide (b<2^v.1))||decide (f v.1 a b%2^v.1=M.binN op v.1 a b))=true) {k a b:Nat} (g:1<=k) (c:k<=4) (d:a<2^k) (e:b<2^k):f k a b%2^k=M.binN op k a b:=by
 have:=h ⟨k,by omega⟩;simp only[gN,gy,gP,gY,GO,decide_eq_false_iff_not,decide_eq_true_eq] at this;rcases this a (pow16 c d) b (pow16 c e) with(⟨h|h⟩|h)|h
 ·exact absurd g h
 ·exact absurd d h
 ·exact absurd e h
 ·exact h
theorem mul225 {a b:Nat} (c:a<16) (d:b<16):a*b<=225:=by
 have:=Nat.mul_le_mul (show a<=15 by omega) (show b<=15 by omega);omega
theorem shl_small {a b:Nat} (d:a<16) (e:b<16):a*2^b<=524288:=by
 have c:2^b<=2^15:=gO (by omega) (by omega);have:=Nat.mul_le_mul (show a<=15 by omega) c;omega
theorem strN_lt {k n:Nat} (a:1<=k) (b:k<=4) (c:n<2^k):Wj0 k n<4294967296:=by
 have:=pow4 a b;unfold Wj0;split<;>omega
theorem binaries_1_spec {k a b:Nat} (g:1<=k) (e:k<=4) (h:a<2^k) (i:b<2^k) (j:OpR K w 3 k a b):vcall P xO #[Ye k a,Ye k b] w K:=by
 have c:=pow16 e h;have d:=pow16 e i;have l:=pow4 g e;apply xq0;refine pre2 c d λw1 he=>?_;rw[V6 (by omega) (by omega)];exact⟨rfl,j _ _ he (PE Nat.and_le_left (by omega)) (bin_ck (f:=λk a b=>a&&&b) (by decide+kernel) g e h i)⟩
theorem binaries_2_spec {k a b:Nat} (g:1<=k) (e:k<=4) (h:a<2^k) (i:b<2^k) (j:OpR K w 4 k a b):vcall P xN #[Ye k a,Ye k b] w K:=by
 have c:=pow16 e h;have d:=pow16 e i;have l:=pow4 g e;apply xp0;refine pre2 c d λw1 he=>?_;rw[XJ0 (by omega) (by omega)];exact⟨rfl,j _ _ he (Nat.lt_trans (PR (n:=4) c d) (by decide)) (bin_ck (f:=λk a b=>a|||b) (by decide+kernel) g e h i)⟩
theorem binaries_3_spec {k a b:Nat} (g:1<=k) (e:k<=4) (h:a<2^k) (i:b<2^k) (j:OpR K w 5 k a b):vcall P xM #[Ye k a,Ye k b] w K:=by
 have c:=pow16 e h;have d:=pow16 e i;have l:=pow4 g e;apply xo0;refine pre2 c d λw1 he=>?_;rw[Jb0 (by omega) (by omega)];exact⟨rfl,j _ _ he (Nat.lt_trans (PI (n:=4) c d) (by decide)) (bin_ck (f:=λk a b=>a^^^b) (by decide+kernel) g e h i)⟩
theorem binaries_4_spec {k a b:Nat} (g:1<=k) (e:k<=4) (h:a<2^k) (i:b<2^k) (j:OpR K w 6 k a b):vcall P xL #[Ye k a,Ye k b] w K:=by
 have c:=pow16 e h;have d:=pow16 e i;have l:=pow4 g e;apply xn0;refine pre2 c d λw1 he=>?_;rw[qi0,show(a:Int)+(b:Int)=((a+b:Nat):Int) by omega,wrapU (by omega)];exact⟨rfl,j _ _ he (by omega) (bin_ck (f:=λk a b=>a+b) (by decide+kernel) g e h i)⟩
theorem binaries_5_spec {k a b:Nat} (h:1<=k) (g:k<=4) (i:a<2^k) (j:b<2^k) (l:OpR K w 7 k a b):vcall P xK #[Ye k a,Ye k b] w K:=by
 have c:=pow16 g i;have d:=pow16 g j;have m:=pow4 h g;apply xm0;refine pre2 c d λw1 he=>?_;have e:IntKind.u64.wrap ((a:Int)-(b:Int))=((if b<=a then a-b else 18446744073709551616+a-b:Nat):Int):=by
  simp only[IntKind.wrap,IntKind.bits,IntKind.signed,GP,gU,if_false];split<;>omega
 rw[Wd,e];exact⟨rfl,l _ _ he (by split<;>omega) (bin_ck (f:=λk a b=>if b<=a then a-b else 18446744073709551616+a-b) (by decide+kernel) h g i j)⟩
theorem binaries_6_spec {k a b:Nat} (g:1<=k) (e:k<=4) (h:a<2^k) (i:b<2^k) (j:OpR K w 8 k a b):vcall P xJ #[Ye k a,Ye k b] w K:=by
 have c:=pow16 e h;have d:=pow16 e i;have l:=pow4 g e;apply xl0;refine pre2 c d λw1 he=>?_;have hm:=mul225 c d;rw[XK0,show(a:Int)*(b:Int)=((a*b:Nat):Int) by simp,wrapU (by omega)];exact⟨rfl,j _ _ he (by omega) (bin_ck (f:=λk a b=>a*b) (by decide+kernel) g e h i)⟩
theorem binaries_7_spec {k a b:Nat} (l:1<=k) (h:k<=4) (s:a<2^k) (u:b<2^k) (m:OpR K w 9 k a b):vcall P xI #[Ye k a,Ye k b] w K:=by
 have n:=pow16 h s;have o:=pow16 h u;have E:=pow4 l h;apply xk0;refine zx λb1 w1 v e y j=>?_;refine zx λb2 w2 x d z g=>?_;have p:=j.ext d;simp(disch:=(simp only[push_cast])) only[push_cast,g.ld1];refine zh (λr=>?_) (λr=>?_)
 ·simp(disch:=(simp only[push_cast])) only[push_cast,p.ldAgg (t:=zd) y7];refine ones_spec l h λC c=>m _ _ ((e.trans d).trans c) (by omega) ?_;have:b=0:=(by omega);subst this;rw[Gi (by omega)];simp[M.binN]
 ·refine zr λC c _=>?_;have A:=p.ext c;have q:=g.ext c;simp(disch:=(simp only[push_cast])) only[push_cast,A.ldAgg (t:=zd) y7,q.ldAgg (t:=zd) y7,true_and];refine raw_spec (by omega) λF f=>?_;have B:=q.ext f;simp(disch:=(simp only[push_cast])) only[push_cast,B.ldAgg (t:=zd) y7,true_and,and_self];refine raw_spec (by omega) λG i=>?_;have D:a/b<=a:=pQ _ _;rw[kY0 (by omega),show(a:Int).tdiv (b:Int)=((a/b:Nat):Int) from rfl,wrapU (by omega)];refine⟨rfl,m _ _ ((((e.trans d).trans c).trans f).trans i) (by omega) ?_⟩;rw[Gi (by omega)];simp[M.binN,show b≠0 by omega]
theorem binaries_8_spec {k a b:Nat} (r:1<=k) (h:k<=4) (s:a<2^k) (u:b<2^k) (l:OpR K w 10 k a b):vcall P xH #[Ye k a,Ye k b] w K:=by
 have m:=pow16 h s;have n:=pow16 h u;have E:=pow4 r h;apply xj0;refine zx λb1 w1 v e y j=>?_;refine zx λb2 w2 x d z g=>?_;have o:=j.ext d;simp(disch:=(simp only[push_cast])) only[push_cast,g.ld1];refine zh (λq=>?_) (λq=>?_)
 ·simp(disch:=(simp only[push_cast])) only[push_cast,o.ldAgg (t:=zd) y7];refine raw_spec (by omega) λC c=>l _ _ ((e.trans d).trans c) (by omega) ?_;have:b=0:=(by omega);subst this;rw[Gi (by omega)];simp[M.binN]
 ·refine zr λC c _=>?_;have A:=o.ext c;have p:=g.ext c;simp(disch:=(simp only[push_cast])) only[push_cast,A.ldAgg (t:=zd) y7,p.ldAgg (t:=zd) y7,true_and];refine raw_spec (by omega) λF f=>?_;have B:=p.ext f;simp(disch:=(simp only[push_cast])) only[push_cast,B.ldAgg (t:=zd) y7,true_and,and_self];refine raw_spec (by omega) λG i=>?_;have D:a%b<=a:=Nat.mod_le _ _;rw[We (by omega),show(a:Int).tmod (b:Int)=((a%b:Nat):Int) from rfl];refine⟨rfl,l _ _ ((((e.trans d).trans c).trans f).trans i) (by omega) ?_⟩;rw[Gi (by omega)];simp[M.binN,show b≠0 by omega]
theorem binaries_9_spec {k a b:Nat} (g:1<=k) (e:k<=4) (h:a<2^k) (i:b<2^k) (j:OpR K w 11 k a b):vcall P xG #[Ye k a,Ye k b] w K:=by
 have c:=pow16 e h;have d:=pow16 e i;have l:=pow4 g e;apply xi0;refine pre2 c d λw1 he=>?_;have hm:=shl_small c d;rw[vbin_shlU (by omega) (by omega)];exact⟨rfl,j _ _ he (by omega) (bin_ck (f:=λk a b=>a*2^b) (by decide+kernel) g e h i)⟩
theorem binaries_10_spec {k a b:Nat} (g:1<=k) (e:k<=4) (h:a<2^k) (i:b<2^k) (j:OpR K w 12 k a b):vcall P xr #[Ye k a,Ye k b] w K:=by
 have c:=pow16 e h;have d:=pow16 e i;have l:=pow4 g e;apply y30;refine pre2 c d λw1 he=>?_;have hm:=pQ a (2^b);rw[vbin_shrU (by omega)];exact⟨rfl,j _ _ he (by omega) (bin_ck (f:=λk a b=>a/2^b) (by decide+kernel) g e h i)⟩
theorem binaries_11_spec {k a b:Nat} (h:1<=k) (d:k<=4) (i:a<2^k) (p:b<2^k) (s:OpR K w 13 k a b):vcall P xq #[Ye k a,Ye k b] w K:=by
 have o:=pow16 d i;have q:=pow16 d p;have B:=pow4 h d;apply y20;refine zx λb1 w1 u j x m=>?_;refine zx λb2 w2 v e y n=>?_;refine zr λC c _=>?_;have z:=(m.ext e).ext c;have r:=n.ext c;simp(disch:=(simp only[push_cast])) only[push_cast,z.ldAgg (t:=zd) y7,r.ldAgg (t:=zd) y7,true_and];refine stretched_spec h d i λD g=>?_;have A:=r.ext g;simp(disch:=(simp only[push_cast])) only[push_cast,A.ldAgg (t:=zd) y7,true_and,and_self];refine raw_spec (by omega) λE l=>?_;have hs:=strN_lt h d i;have hm:=pQ (Wj0 k a) (2^b);rw[vbin_shrU (by omega)];exact⟨rfl,s _ _ ((((j.trans e).trans c).trans g).trans l) (by omega) (bin_ck (f:=λk a b=>Wj0 k a/2^b) (by decide+kernel) h d i p)⟩
end
section
variable {w:World} {K:Value->World->Prop} {F:Nat->Prop}
theorem VecSigned_spec {wd n:Int} (h:∀w',Ext w w'->K (.int .i64 (if M.vok wd n=true then M.sgn wd n else 0)) w'):vcall P Z5 #[Ye wd n] w K:=by
 apply qb0;refine zx λb1 w1 x c y m=>?_;simp(disch:=(simp only[push_cast])) only[push_cast,m.ldAgg (t:=zd) y7];refine VecOk_spec λw2 b=>?_;have u:=m.ext b;simp only[push_cast];refine zK (λg=>?_) (λg=>?_)
 ·have:=h w2 (c.trans b);rwa[if_neg (by simpa using g)] at this
 ·rw[Gz] at g;rw[if_pos g] at h;obtain⟨k,a,rfl,rfl,q,r,v⟩:=M.vok_nat g;have C:=pow4 q r;refine zr λE d _=>?_;have i:=u.ext d;have l:IntKind.i64.wrap ((k:Int)-1)=((k-1:Nat):Int):=by rw[zJ (by omega) (by omega)];omega
  simp(disch:=(simp only[push_cast])) only[push_cast,i.ldAgg (t:=zd) y7,i.ld0,true_and,l];refine raw_spec (by omega) λA e=>?_;have j:=i.ext e;simp(disch:=(simp only[push_cast])) only[push_cast,j.ld0,true_and,l,and_self];refine bit_spec (by omega) (by omega) ?_;rw[top_bit q r v];have z:=(kI0 k).symm;have p:(2:Int)^((k:Int).toNat-1)=((2^(k-1):Nat):Int):=(by simp);have D:2^(k-1)<2^k:=Nat.pow_lt_pow_right (by omega) (by omega);refine zh (λs=>?_) (λs=>?_)
  ·refine zr λB f _=>?_;have o:=j.ext f;simp(disch:=(simp only[push_cast])) only[push_cast,o.ld0,o.ld1,true_and];rw[show(1:Int)=((1:Nat):Int) from rfl,vbin_shlI (by omega) (by omega),Ph];refine⟨rfl,?_⟩;rw[Wd,zJ (by omega) (by omega)];refine⟨rfl,?_⟩;have:=h B ((((c.trans b).trans d).trans e).trans f);unfold M.sgn at this;rw[if_neg (by rw[p];omega),gl,z] at this;exact this
  ·simp(disch:=(simp only[push_cast])) only[push_cast,j.ld1];have:=h A (((c.trans b).trans d).trans e);unfold M.sgn at this;rw[if_pos (by rw[p];omega)] at this;exact this
theorem VecUn_spec {op wd n:Int} (p:∀w',Ext w w'->K (.tuple #[Ye (M.vecUn op wd n).1.1 (M.vecUn op wd n).1.2,.bool (M.vecUn op wd n).2]) w'):vcall P Qq #[.int .i64 op,Ye wd n] w K:=by
 apply YW0;refine zx λb1 w1 H q J F=>?_;refine zD xD λb2 w2 I r L g2=>?_;have B:=F.ext r;simp(disch:=(simp only[push_cast])) only[push_cast,B.ldAgg (t:=zd) y7];refine VecOk_spec λO i=>?_;have C:=B.ext i;have g3:=g2.ext i;have G:=(q.trans r).trans i;have d:∀g v,Ext O g->Same (· =b2) g v->Ext w v:=λg v h E=>Ext.then (G.trans h) E λy N=>by subst N;have:=q.size;omega
 simp only[push_cast];unfold M.vecUn at p;refine zK (λj=>?_) (λj=>?_)
 ·refine stVec g3 λg l _ g4=>?_;rw[g4.lv (by kernel_rfl)];have:=p g (d _ _ (Same.refl _ _) l);rwa[if_neg (by simp at j;simp[j])] at this
 ·rw[Gz] at j;obtain⟨k,a,rfl,rfl,s,u,D⟩:=M.vok_nat j;have R:=pow4 s u;refine zh (λx=>?_) (λx=>?_)
  ·subst x;refine zr λg b _=>?_;have o:=C.ext b;simp(disch:=(simp only[push_cast])) only[push_cast,o.ldAgg (t:=zd) y7,true_and];refine raw_spec (by omega) λv c=>?_;have z:=o.ext c;have g5:=(g3.ext b).ext c;simp(disch:=(simp only[push_cast])) only[push_cast,z.ldAgg (t:=zd) y7,true_and,and_self];rw[vun_xorU (by omega)];refine⟨rfl,vec_spec (by omega) s u λQ f=>?_⟩;refine stVec (g5.ext f) λA m _ g7=>?_;rw[g7.lv (by kernel_rfl)];have:=p A (d _ _ ((b.trans c).trans f) m);rw[if_pos ⟨j,.inl rfl⟩,M.unM_not s u D] at this;exact this
  refine zh (λa2=>?_) (λa2=>?_)
  ·subst a2;refine zr λg b _=>?_;have o:=C.ext b;simp(disch:=(simp only[push_cast])) only[push_cast,o.ldAgg (t:=zd) y7,true_and];refine raw_spec (by omega) λv c=>?_;have z:=o.ext c;have g5:=(g3.ext b).ext c;have e:IntKind.u64.wrap (0-(a:Int))=((if a=0 then 0 else 18446744073709551616-a:Nat):Int):=by
    simp only[IntKind.wrap,IntKind.bits,IntKind.signed,GP,gU,if_false];split<;>omega
   simp(disch:=(simp only[push_cast])) only[push_cast,z.ldAgg (t:=zd) y7,true_and,and_self];rw[e];refine vec_spec (by split<;>omega) s u λQ f=>?_;refine stVec (g5.ext f) λA m _ g7=>?_;rw[g7.lv (by kernel_rfl)];have:=p A (d _ _ ((b.trans c).trans f) m);rw[if_pos ⟨j,.inr rfl⟩,M.unM_neg s u D] at this;exact this
  ·refine stVec g3 λg l _ g4=>?_;rw[g4.lv (by kernel_rfl)];have:=p g (d _ _ (Same.refl _ _) l);rwa[if_neg (λh=>h.2.elim x a2)] at this
theorem binaries_spec (f:∀w',Ext w w'->K (.agg ⟨[.nilFunc,.nilFunc,.nilFunc,.func (.func xO) #[] #[],.func (.func xN) #[] #[],.func (.func xM) #[] #[],.func (.func xL) #[] #[],.func (.func xK) #[] #[],.func (.func xJ) #[] #[],.func (.func xI) #[] #[],.func (.func xH) #[] #[],.func (.func xG) #[] #[],.func (.func xr) #[] #[],.func (.func xq) #[] #[]]⟩) w'):vcall P XN #[] w K:=by
 apply jl0;have j:xg P yf (.agg ⟨[.nilFunc,.nilFunc,.nilFunc,.nilFunc,.nilFunc,.nilFunc,.nilFunc,.nilFunc,.nilFunc,.nilFunc,.nilFunc,.nilFunc,.nilFunc,.nilFunc]⟩):=by unfold xg;kernel_rfl
 refine zD j λb1 w1 g a h d=>?_;refine⟨_,w1,run_build (P:=P) w1 _ _ ⟨[.nilFunc,.nilFunc,.nilFunc,.func (.func xO) #[] #[],.func (.func xN) #[] #[],.func (.func xM) #[] #[],.func (.func xL) #[] #[],.func (.func xK) #[] #[],.func (.func xJ) #[] #[],.func (.func xI) #[] #[],.func (.func xH) #[] #[],.func (.func xG) #[] #[],.func (.func xr) #[] #[],.func (.func xq) #[] #[]]⟩ (by kernel_rfl),?_⟩;refine d.stAgg rfl (by kernel_rfl) (by intro v c;simp only[gd,gw,or_false] at c;rcases c with rfl|rfl|rfl|rfl|rfl|rfl|rfl|rfl|rfl|rfl|rfl|rfl|rfl|rfl<;>rfl) λw2 b _ e=>?_;rw[e.lv (by kernel_rfl)];exact f _ (Ext.then a b λy i=>by subst i;omega)
theorem bin_all {op k a b:Nat} (j:3<=op) (i:op<=13) (g:1<=k) (h:k<=4) (e:a<2^k) (f:b<2^k) {K:Value->World->Prop} {w w0:World} (hw:w0=w) (c:OpR K w op k a b) {N:Value->World->Prop}
  (d:∀x,vcallv P x #[Ye k a,Ye k b] w K->N x w):
  kC0 P yf (.agg ⟨[.nilFunc,.nilFunc,.nilFunc,.func (.func xO) #[] #[],.func (.func xN) #[] #[],.func (.func xM) #[] #[],.func (.func xL) #[] #[],.func (.func xK) #[] #[],.func (.func xJ) #[] #[],.func (.func xI) #[] #[],.func (.func xH) #[] #[],.func (.func xG) #[] #[],.func (.func xr) #[] #[],.func (.func xq) #[] #[]]⟩) (.int .i64 op) w N:=by
 rcases(by omega:op=3\/op=4\/op=5\/op=6\/op=7\/op=8\/op=9\/op=10\/op=11\/op=12\/op=13) with rfl|rfl|rfl|rfl|rfl|rfl|rfl|rfl|rfl|rfl|rfl
 ·exact⟨.func (.func xO) #[] #[],w,by kernel_rfl,d (.func (.func xO) #[] #[]) (binaries_1_spec g h e f c)⟩
 ·exact⟨.func (.func xN) #[] #[],w,by kernel_rfl,d (.func (.func xN) #[] #[]) (binaries_2_spec g h e f c)⟩
 ·exact⟨.func (.func xM) #[] #[],w,by kernel_rfl,d (.func (.func xM) #[] #[]) (binaries_3_spec g h e f c)⟩
 ·exact⟨.func (.func xL) #[] #[],w,by kernel_rfl,d (.func (.func xL) #[] #[]) (binaries_4_spec g h e f c)⟩
 ·exact⟨.func (.func xK) #[] #[],w,by kernel_rfl,d (.func (.func xK) #[] #[]) (binaries_5_spec g h e f c)⟩
 ·exact⟨.func (.func xJ) #[] #[],w,by kernel_rfl,d (.func (.func xJ) #[] #[]) (binaries_6_spec g h e f c)⟩
 ·exact⟨.func (.func xI) #[] #[],w,by kernel_rfl,d (.func (.func xI) #[] #[]) (binaries_7_spec g h e f c)⟩
 ·exact⟨.func (.func xH) #[] #[],w,by kernel_rfl,d (.func (.func xH) #[] #[]) (binaries_8_spec g h e f c)⟩
 ·exact⟨.func (.func xG) #[] #[],w,by kernel_rfl,d (.func (.func xG) #[] #[]) (binaries_9_spec g h e f c)⟩
 ·exact⟨.func (.func xr) #[] #[],w,by kernel_rfl,d (.func (.func xr) #[] #[]) (binaries_10_spec g h e f c)⟩
 ·exact⟨.func (.func xq) #[] #[],w,by kernel_rfl,d (.func (.func xq) #[] #[]) (binaries_11_spec g h e f c)⟩
theorem VecBin_spec {op wd n v m:Int} (D:∀w',Ext w w'->K (.tuple #[Ye (M.vecBin op wd n v m).1.1 (M.vecBin op wd n v m).1.2,.bool (M.vecBin op wd n v m).2]) w'):vcall P kE #[.int .i64 op,Ye wd n,Ye v m] w K:=by
 apply Y90;refine zx λb1 w1 aa L ae h1=>?_;refine zx λb2 w2 ab E af g2=>?_;refine zD xD λb3 V ac F ag r3=>?_;have hE:=(L.trans E).trans F;have ai:=L.size;have aj:=E.size;have h3:=(h1.ext E).ext F;have g3:=g2.ext F;have B:∀s A,Ext V s->Same (· =b3) s A->Ext w A:=λs A h h'=>Ext.then (hE.trans h) h' λy hy=>by subst hy;omega
 have d:(M.vecBin op wd n v m)=((0,0),false)->∀s,Ext V s->zn P zd (.pointer (some ⟨b3,0,none⟩)) (Ye 0 0) s λ_ A=>vlv P zd (.pointer (some ⟨b3,0,none⟩)) A λr w6=>K (.tuple #[r,.bool false]) w6:=by
  intro e s c;refine stVec (r3.ext c) λA a5 _ U=>?_;rw[U.lv (by kernel_rfl)];have:=D A (B _ _ c a5);rwa[e] at this
 refine zS (λu s=>u=[]/\Ext V s/\M.vok wd n=true/\M.vok v m=true) (λC hC=>?_) ?_
 ·simp(disch:=(simp only[push_cast])) only[push_cast,h3.ldAgg (t:=zd) y7];refine VecOk_spec λs c=>?_;have g4:=g3.ext c;simp only[push_cast];refine zK (λS=>d ?_ _ c) (λS=>?_)
  ·unfold M.vecBin;rw[if_neg (by simp at S;simp[S])]
  ·simp(disch:=(simp only[push_cast])) only[push_cast,g4.ldAgg (t:=zd) y7];refine VecOk_spec λA i=>?_;simp only[push_cast];refine zK (λp=>d ?_ _ (c.trans i)) (λp=>?_)
   ·unfold M.vecBin;rw[if_neg (by simp at p;simp[p])]
   ·exact hC _ _ ⟨rfl,c.trans i,by simpa using S,by simpa using p⟩
 ·rintro u g s ⟨rfl,c,O,p⟩;have Y:=h3.ext c;have g4:=g3.ext c;have r4:=r3.ext c;obtain⟨k,a,rfl,rfl,k1,k4,ha⟩:=M.vok_nat O;obtain⟨l,b,rfl,rfl,l1,T,hb⟩:=M.vok_nat p;have I:=pow16 k4 ha;have a9:=pow16 T hb;unfold M.vecBin at D d;rw[if_pos ⟨O,p⟩] at D d;simp only[push_cast];refine zh (λW=>?_) (λW=>?_)
  ·rw[if_pos W] at D d;refine zr λA i _=>?_;have Z:=Y.ext i;have g5:=g4.ext i;have U:=r4.ext i;have hm:a*2^l<=524288:=shl_small I (by omega);have e1:IntKind.i64.wrap ((k:Int)+(l:Int))=((k+l:Nat):Int):=by rw[zJ (by omega) (by omega)];omega
   have eS:∀(w:World) (K:Value->World->Prop),zq P .shl ze false (.int .i64 (a:Int)) (.int .i64 (l:Int)) w K=K (.int .i64 (a*2^l:Nat)) w:=λw K=>vbin_shlI (by omega) (by omega);have eO:∀(w:World) (K:Value->World->Prop),zq P .or ze false (.int .i64 ((a*2^l:Nat):Int)) (.int .i64 (b:Int)) w K=K (.int .i64 (a*2^l|||b:Nat)) w:=λw K=>vbin_orI (by omega) (by omega);have eC:=M.cat_or T k4 ha hb;obtain⟨q,hq⟩:∃q,q=a*2^l:=⟨_,rfl⟩;obtain⟨z,hz⟩:∃z,z=q|||b:=⟨_,rfl⟩;rw[<-hq] at eS eO eC;rw[<-hz] at eO eC;simp(disch:=(simp only[push_cast])) only[push_cast,Z.ld0,Z.ld1,g5.ld0,g5.ld1,true_and,e1,eS,eO];refine zD xD λb4 w6 ad f ah p6=>?_;have H:=Z.ext f;have g6:=g5.ext f;have r6:=U.ext f;simp(disch:=(simp only[push_cast])) only[push_cast,H.ld0,H.ld1,g6.ld0,g6.ld1,true_and,e1,eS,eO,and_self];refine stVec p6 λw7 R _ p7=>?_;have J:b3≠b4:=by have:=U.lt;omega
   have r7:=r6.same R J;have j:Ext V w7:=Ext.then ((c.trans i).trans f) R λy hy=>by subst hy;have:=(c.trans i).size;omega
   simp(disch:=(simp only[push_cast])) only[push_cast,p7.ld0];refine zh (λa2=>d ?_ _ j) (λa2=>?_)
   ·rw[if_neg (by omega)]
   ·simp(disch:=(simp only[push_cast])) only[push_cast,p7.ldAgg (t:=zd) y7];refine stVec r7 λw8 a6 _ r8=>?_;rw[r8.lv (by kernel_rfl)];have:=D w8 (B _ _ j a6);rw[if_pos (by omega),<-eC] at this;exact this
  ·rw[if_neg W] at D d;refine zS (λu A=>u=[]/\A=s/\3<=op/\op<=13/\(k:Int)=l) (λC hC=>?_) ?_
   ·refine zh (λa2=>d (by rw[if_neg (by omega)]) _ c) (λa2=>?_);refine zh (λa3=>d (by rw[if_neg (by omega)]) _ c) (λa3=>?_);simp(disch:=(simp only[push_cast])) only[push_cast,Y.ld0,g4.ld0];refine zh (λa4=>d (by rw[if_neg (by omega)]) _ c) (λa4=>?_);exact hC _ _ ⟨rfl,rfl,by omega,by omega,by omega⟩
   ·rintro u g A ⟨rfl,rfl,c3,X,ckl⟩;have:l=k:=(by omega);subst this;refine zr λw6 f _=>?_;have H:=Y.ext f;have g6:=g4.ext f;simp(disch:=(simp only[push_cast])) only[push_cast,H.ldAgg (t:=zd) y7,g6.ldAgg (t:=zd) y7,true_and];refine binaries_spec λw7 j=>?_;have h7:=H.ext j;have g7:=g6.ext j;simp(disch:=(simp only[push_cast])) only[push_cast,h7.ldAgg (t:=zd) y7,g7.ldAgg (t:=zd) y7,true_and,and_self];obtain⟨o,rfl⟩:∃o:Nat,op=o:=⟨op.toNat,by omega⟩;refine bin_all (by omega) (by omega) l1 T ha hb rfl ?_ λx hx=>⟨rfl,hx⟩;intro w8 r G hr a0;have h8:=h7.ext G;simp(disch:=(simp only[push_cast])) only[push_cast,h8.ldAgg (t:=zd) y7,true_and,and_self];refine vec_spec hr l1 T λw9 N=>?_;have r9:=(((r4.ext f).ext j).ext G).ext N;refine stVec r9 λa8 Q _ a7=>?_;rw[a7.lv (by kernel_rfl)];have:=D a8 (B _ _ ((((c.trans f).trans j).trans G).trans N) Q);rw[if_pos ⟨c3,X,rfl⟩] at this;rw[a0];exact this
theorem eqVec {a b c d:Int} {t:Bool}:zq P .eql zd t (Ye a b) (Ye c d) w K=K (.bool (decide (a=c/\b=d))) w:=by
 refine xb (run_eqGuard_agg w _ _ _ _ _ _ (by kernel_rfl)) ?_;have i:(P.fieldsOf zd).toList=[(P.fieldsOf zd).getD 0 default,(P.fieldsOf zd).getD 1 default]:=by kernel_rfl
 have g:((P.fieldsOf zd).getD 0 default).name≠ "_" :=by decide+kernel
 have h:((P.fieldsOf zd).getD 1 default).name≠ "_" :=by decide+kernel
 have i0:P.underlying ((P.fieldsOf zd).getD 0 default).type=some (.int .i64):=by kernel_rfl
 have i1:P.underlying ((P.fieldsOf zd).getD 1 default).type=some (.int .i64):=by kernel_rfl
 have p0:∀x y:Value,(part ((P.fieldsOf zd).getD 0 default).type ⟨[x,y]⟩ ((P.fieldsOf zd).getD 0 default).offset).run P w= .ok x w:=λx y=>by kernel_rfl
 have p1:∀x y:Value,(part ((P.fieldsOf zd).getD 1 default).type ⟨[x,y]⟩ ((P.fieldsOf zd).getD 1 default).offset).run P w= .ok y w:=λx y=>by kernel_rfl
 have j:(Op.equalIn 10000 zd (Ye a b) (Ye c d)).run P w= .ok (decide (a=c/\b=d)) w:=by
  rw[run_equalIn_struct w 9999 zd _ _ (by kernel_rfl) (by kernel_rfl),i];generalize (P.fieldsOf zd).getD 0 default=f0 at g i0 p0⊢;generalize (P.fieldsOf zd).getD 1 default=f1 at h i1 p1⊢;simp only[Op.eqFields,if_pos g,if_pos h,Sem.run_bind,p0,p1,Result.andThen_ok,run_equalIn_int w 9998 _ _ _ _ _ i0,run_equalIn_int w 9998 _ _ _ _ _ i1];by_cases e:a=c
  ·by_cases f:b=d
   ·subst e;subst f;simp[run_equalIn_int w 9998 _ _ _ _ _ i1,p1]
   ·subst e;simp[run_equalIn_int w 9998 _ _ _ _ _ i1,p1,f]
  ·simp[e]
 rw[run_eql_struct,j];rfl
theorem VecCmp_spec {op wd n v m:Int} (k:∀w',Ext w w'->K (.tuple #[.bool (M.vecCmp op wd n v m).1,.bool (M.vecCmp op wd n v m).2]) w'):vcall P Kf #[.int .i64 op,Ye wd n,Ye v m] w K:=by
 apply Y80;refine zx λb1 w1 D y F A=>?_;refine zx λb2 w2 E l G g2=>?_;have p:=y.trans l;have r:=A.ext l;have d:(M.vecCmp op wd n v m)=(false,false)->∀f,Ext w2 f->K (.tuple #[.bool false,.bool false]) f:=by
  intro e f a;have:=k f (p.trans a);rwa[e] at this
 refine zS (λu f=>u=[]/\Ext w2 f/\M.vok wd n=true/\M.vok v m=true/\wd=v) (λC B=>?_) ?_
 ·simp(disch:=(simp only[push_cast])) only[push_cast,r.ldAgg (t:=zd) y7];refine VecOk_spec λf a=>?_;have g4:=g2.ext a;simp only[push_cast];refine zK (λq=>d ?_ _ a) (λq=>?_)
  ·unfold M.vecCmp;rw[if_neg (by simp at q;simp[q])]
  ·simp(disch:=(simp only[push_cast])) only[push_cast,g4.ldAgg (t:=zd) y7];refine VecOk_spec λH b=>?_;have g5:=g4.ext b;have x:=(r.ext a).ext b;simp only[push_cast];refine zK (λc=>d ?_ _ (a.trans b)) (λc=>?_)
   ·unfold M.vecCmp;rw[if_neg (by simp at c;simp[c])]
   ·simp(disch:=(simp only[push_cast])) only[push_cast,x.ld0,g5.ld0];refine zh (λj=>d ?_ _ (a.trans b)) (λj=>?_)
    ·unfold M.vecCmp;rw[if_neg (λh=>j h.2.2.1)]
    ·exact B _ _ ⟨rfl,a.trans b,by simpa using q,by simpa using c,by omega⟩
 ·rintro u g f ⟨rfl,a,i,c,rfl⟩;have s:=r.ext a;have g4:=g2.ext a;unfold M.vecCmp at k d;simp only[push_cast];refine zh (λj=>?_) (λj=>?_)
  ·subst j;simp(disch:=(simp only[push_cast])) only[push_cast,s.ldAgg (t:=zd) y7,g4.ldAgg (t:=zd) y7];rw[eqVec];have:=k f (p.trans a);rw[if_pos ⟨i,c,rfl,by omega,by omega⟩] at this;simp only[M.cmpM,if_true] at this;simp only[true_and];exact this
  refine zh (λa2=>?_) (λa2=>?_)
  ·subst a2;simp(disch:=(simp only[push_cast])) only[push_cast,s.ld1,g4.ld1];have:=k f (p.trans a);rw[if_pos ⟨i,c,rfl,by omega,by omega⟩] at this;exact this
  refine zh (λa3=>?_) (λa3=>?_)
  ·subst a3;refine zr λH b _=>?_;have x:=s.ext b;have g5:=g4.ext b;simp(disch:=(simp only[push_cast])) only[push_cast,x.ldAgg (t:=zd) y7,g5.ldAgg (t:=zd) y7,true_and];refine VecSigned_spec λJ o=>?_;have g6:=g5.ext o;simp(disch:=(simp only[push_cast])) only[push_cast,g6.ldAgg (t:=zd) y7,true_and,and_self];refine VecSigned_spec λI z=>?_;simp only[push_cast,if_pos i,if_pos c,true_and];have:=k I (((p.trans a).trans b).trans (o.trans z));rw[if_pos ⟨i,c,rfl,by omega,by omega⟩] at this;exact this
  ·exact d (by rw[if_neg (λh=>by omega)]) _ a
theorem VecCut_spec {wd n c lo:Int} (o:∀w',Ext w w'->K (.tuple #[Ye (M.vecCut wd n c lo).1.1 (M.vecCut wd n c lo).1.2,.bool (M.vecCut wd n c lo).2]) w'):vcall P XA #[Ye wd n,.int .i64 c,.int .i64 lo] w K:=by
 apply Y70;refine zx λb1 w1 U p W Q=>?_;refine zD xD λb3 F V q X J=>?_;have S:=p.trans q;have a0:=p.size;have A:=Q.ext q;have i:∀f j,Ext F f->Same (· =b3) f j->Ext w j:=λf j h O=>Ext.then (S.trans h) O λy Y=>by subst Y;omega
 have d:(M.vecCut wd n c lo)=((0,0),false)->∀f,Ext F f->zn P zd (.pointer (some ⟨b3,0,none⟩)) (Ye 0 0) f λ_ j=>vlv P zd (.pointer (some ⟨b3,0,none⟩)) j λr G=>K (.tuple #[r,.bool false]) G:=by
  intro e f b;refine stVec (J.ext b) λj D _ r5=>?_;rw[r5.lv (by kernel_rfl)];have:=o j (i _ _ b D);rwa[e] at this
 unfold M.vecCut at o d;refine zS (λu f=>u=[]/\Ext F f/\M.vok wd n=true/\0<=lo/\lo<=c/\c<wd) (λC R=>?_) ?_
 ·simp(disch:=(simp only[push_cast])) only[push_cast,A.ldAgg (t:=zd) y7];refine VecOk_spec λf b=>?_;have B:=A.ext b;simp only[push_cast];refine zK (λm=>d ?_ _ b) (λm=>?_)
  ·rw[if_neg (by simp at m;simp[m])]
  refine zh (λL=>d (if_neg (by omega)) _ b) (λL=>?_);refine zh (λa2=>d (if_neg (by omega)) _ b) (λa2=>?_);simp(disch:=(simp only[push_cast])) only[push_cast,B.ld0];refine zh (λa3=>d (if_neg (by omega)) _ b) (λa3=>?_);exact R _ _ ⟨rfl,b,by simpa using m,by omega,by omega,by omega⟩
 ·rintro u g f ⟨rfl,b,m,c1,c2,c3⟩;have B:=A.ext b;have r4:=J.ext b;obtain⟨k,a,rfl,rfl,k1,k4,T⟩:=M.vok_nat m;obtain⟨l,rfl⟩:∃l:Nat,lo=l:=⟨lo.toNat,by omega⟩;obtain⟨t,I⟩:∃t:Nat,c-(l:Int)+1=t:=⟨(c-l+1).toNat,by omega⟩;have H:=pow16 k4 T;have N:IntKind.i64.wrap (IntKind.i64.wrap (c-(l:Int))+1)=(t:Int):=by rw[zJ (x:=c-l) (by omega) (by omega),zJ (by omega) (by omega)];omega
  simp(disch:=(simp only[push_cast])) only[push_cast,B.ldAgg (t:=zd) y7,N];refine raw_spec (by omega) λj s=>?_;have hd:=pQ a (2^l);rw[vbin_shrU (by omega)];refine cut_spec (by omega) (by omega) (by omega) ?_;have hm:=Nat.mod_le (a/2^l) (2^t);have v:M.cutM (a:Int) c (l:Int)=((a/2^l%2^t:Nat):Int):=by
   unfold M.cutM;rw[I];simp
  rw[if_pos ⟨m,c1,c2,c3⟩] at o;simp only[v,I] at o;obtain⟨z,Z⟩:∃z,z=a/2^l%2^t:=⟨_,rfl⟩;rw[<-Z] at hm o⊢;rw[ZA qt0 kM0,wrapN (by omega)];simp only[push_cast];refine stVec (r4.ext s) λG E _ r6=>?_;rw[r6.lv (by kernel_rfl)];exact o G (i _ _ (b.trans s) E)
end
section
variable {w:World} {K:Value->World->Prop} {F G:Nat->Prop}
@[push_cast] theorem tn0:(0:Int).toNat=0:=rfl
@[push_cast] theorem tn1:(1:Int).toNat=1:=rfl
@[push_cast] theorem tn2:(2:Int).toNat=2:=rfl
theorem Kl0 {α:Type} (xs:List α) (d:α) (p:α->Bool):(List.range xs.length).any (λi=>p (xs.getD i d))=xs.any p:=by
 rw[PA,GZ,GZ];constructor
 ·rintro⟨i,a,b⟩;exact⟨_,M.getD_mem (gy.1 a) d,b⟩
 ·rintro⟨x,c,b⟩;obtain⟨i,a,rfl⟩:=gq c;exact⟨i,gy.2 a,by rw[k6,K3 a];exact b⟩
abbrev DclV (d:M.Dcl):Value:= .agg ⟨[.string d.1,.int .i64 d.2]⟩
abbrev Xv0:M.Dcl:=(M.nada,0)
theorem IndexFunc_Decl {v f:Value} {ds:List M.Dcl} {p:Nat->Bool} (e:DclsR F w v ds) (m:∀i,i<ds.length->FnB P w f #[DclV (ds.getD i Xv0)] (p i))
  (k:∀w',Ext w w'->K (.int .i64 (idxI ds.length p)) w'):vcall P yO #[v,f] w K:=by
 apply ku;simp(disch:=first|(simp only[push_cast])|omega) only[push_cast,e.len];have hlen:=e.small;refine vloop_up ds.length (λi u w'=>u=[.int .i64 i]/\Ext w w'/\∀j,j<i->p j=false) ⟨rfl,Same.refl _ _,by omega⟩ ?_;rintro i _ g w1 C r ⟨rfl,he,d⟩ l;simp only[push_cast];refine zh (λq=>?_) (λn=>?_)
 ·have b:=e.ext he;simp(disch:=first|(simp only[push_cast])|omega) only[push_cast,b.iaddr,b.load];refine m i (by omega) w1 _ he λw2 a=>zK (λc=>?_) (λc=>?_)
  ·have:=k w2 (he.trans a);rwa[idxI_some (by omega) c d] at this
  ·rw[inc64' (by omega)];exact l (by omega) _ _ ⟨rfl,he.trans a,λj o=>by
    by_cases h:j=i
    ·subst h;exact c
    ·exact d j (by omega)⟩
 ·have:=k w1 he;rwa[qI0 (λj o=>d j (by omega))] at this
theorem xu0 {v f:Value} {ds:List M.Dcl} {p:Nat->Bool} (c:DclsR F w v ds) (b:∀i,i<ds.length->FnB P w f #[DclV (ds.getD i Xv0)] (p i))
  (a:∀w',Ext w w'->K (.bool ((List.range ds.length).any p)) w'):vcall P x8 #[v,f] w K:=by
 apply jA;refine IndexFunc_Decl c b λw' he=>?_;simp only[push_cast,UQ];exact a w' he
theorem UF {b:Bool} (a:K (.int .i64 (M.b2i b)) w):vcall P ZK #[.bool b] w K:=by
 apply Y40;refine zK (λh=>?_) (λh=>?_)<;>subst h<;>exact a
theorem JX {b:Bool} {s:Int} (a:K (.int .i64 (if b=true then s else-1)) w):vcall P yB #[.bool b,.int .i64 s] w K:=by
 apply Y10;refine zK (λh=>?_) (λh=>?_)<;>subst h<;>exact a
theorem Ym {p:Prop} [Decidable p] {s:Int} (a:K (.int .i64 (if p then s else-1)) w):vcall P yB #[.bool (decide p),.int .i64 s] w K:=
 JX (by simpa using a)
theorem XG {s:Int} (a:K (.int .i64 (-1)) w):vcall P yB #[.bool false,.int .i64 s] w K:=JX a
theorem ZY {s:ByteArray} {n:Int} (c:∀w',Ext w w'->K (.int .i64 n) w'):vcall P yV #[.agg ⟨[.string s,.int .i64 n]⟩] w K:=by
 apply xc0;refine zx λb1 w1 d a e b=>?_;simp(disch:=(simp only[push_cast])) only[push_cast,b.ld1];exact c _ a
abbrev KV (s:ByteArray) (n:Int):Value:= .agg ⟨[.string s,.int .i64 n]⟩
theorem unKind_sort_spec {s:ByteArray} {n:Int} {dv tv kv:Value} {t:M.Tm} {xs:List Int} (k:TermR F w tv t) (l:Ints G w kv xs) (p:xs.length=1)
  (e:∀w',Ext w w'->K (.int .i64 (if 0<xs.getD 0 0 then xs.getD 0 0 else-1)) w'):vcall P ZH #[KV s n,dv,tv,kv] w K:=by
 apply zJ0;obtain⟨ksv,rfl,h⟩:=k;refine zx λb1 w1 f a i m=>?_;refine zx λb2 w2 g b j o=>?_;refine zr λq c _=>?_;have d:=l.ext ((a.trans b).trans c);simp(disch:=first|(simp only[push_cast])|omega) only[push_cast,d.iaddr,d.load,true_and];exact Ym (e _ ((a.trans b).trans c))
theorem binKind_sort_spec {s:ByteArray} {n:Int} {dv tv kv:Value} {t:M.Tm} {xs:List Int} (m:TermR F w tv t) (o:Ints G w kv xs) (r:xs.length=2)
  (g:∀w',Ext w w'->K (.int .i64 (if 0<xs.getD 0 0/\xs.getD 0 0=xs.getD 1 0 then xs.getD 0 0 else-1)) w'):vcall P Zl #[KV s n,dv,tv,kv] w K:=by
 apply zg0;obtain⟨ksv,rfl,j⟩:=m;refine zx λb1 w1 h b k p=>?_;refine zx λb2 w2 i c l q=>?_;refine zr λu d _=>?_;have e:=o.ext ((b.trans c).trans d);have f:=g _ ((b.trans c).trans d);simp(disch:=first|(simp only[push_cast])|omega) only[push_cast,e.iaddr,e.load,true_and];refine zh (λa=>?_) (λa=>?_)
 ·refine Ym ?_;simpa only[a,true_and] using f
 ·refine XG ?_;simpa only[a,false_and,if_false] using f
theorem cmpKind_sort_spec {s:ByteArray} {n:Int} {dv tv kv:Value} {t:M.Tm} {xs:List Int} (m:TermR F w tv t) (o:Ints G w kv xs) (r:xs.length=2)
  (g:∀w',Ext w w'->K (.int .i64 (if 0<xs.getD 0 0/\xs.getD 0 0=xs.getD 1 0 then 0 else-1)) w'):vcall P Zh #[KV s n,dv,tv,kv] w K:=by
 apply z60;obtain⟨ksv,rfl,j⟩:=m;refine zx λb1 w1 h b k p=>?_;refine zx λb2 w2 i c l q=>?_;refine zr λu d _=>?_;have e:=o.ext ((b.trans c).trans d);have f:=g _ ((b.trans c).trans d);simp(disch:=first|(simp only[push_cast])|omega) only[push_cast,e.iaddr,e.load,true_and];refine zh (λa=>?_) (λa=>?_)
 ·refine Ym ?_;simpa only[a,true_and] using f
 ·refine XG ?_;simpa only[a,false_and,if_false] using f
theorem catKind_sort_spec {s:ByteArray} {n:Int} {dv tv kv:Value} {t:M.Tm} {xs:List Int} (r:TermR F w tv t) (u:Ints G w kv xs) (y:xs.length=2) (h:∀i,-1<=xs.getD i 0/\xs.getD i 0<=4)
  (k:∀w',Ext w w'->K (.int .i64 (if 0<xs.getD 0 0/\0<xs.getD 1 0/\xs.getD 0 0+xs.getD 1 0<=4 then xs.getD 0 0+xs.getD 1 0 else-1)) w'):vcall P Zi #[KV s n,dv,tv,kv] w K:=by
 apply z90;obtain⟨ksv,rfl,o⟩:=r;refine zx λb1 w1 l c p v=>?_;refine zx λb2 w2 m d q x=>?_;refine zr λB e _=>?_;have f:=u.ext ((c.trans d).trans e);have g:=k _ ((c.trans d).trans e);have z:=h 0;have A:=h 1;have j:IntKind.i64.wrap (xs.getD 0 0+xs.getD 1 0)=xs.getD 0 0+xs.getD 1 0:=zJ (by omega) (by omega);simp(disch:=first|(simp only[push_cast])|omega) only[push_cast,f.iaddr,f.load,true_and,j];refine zh (λa=>?_) (λa=>?_)
 ·refine zh (λb=>?_) (λb=>?_)
  ·refine Ym ?_;simpa only[a,b,true_and] using g
  ·refine XG ?_;simpa only[b,false_and,and_false,if_false] using g
 ·refine XG ?_;simpa only[a,false_and,if_false] using g
theorem ifKind_sort_spec {s:ByteArray} {n:Int} {dv tv kv:Value} {t:M.Tm} {xs:List Int} (m:TermR F w tv t) (o:Ints G w kv xs) (r:xs.length=3)
  (g:∀w',Ext w w'->K (.int .i64 (if xs.getD 0 0=0/\xs.getD 1 0=xs.getD 2 0 then xs.getD 1 0 else-1)) w'):vcall P ZL #[KV s n,dv,tv,kv] w K:=by
 apply zQ0;obtain⟨ksv,rfl,j⟩:=m;refine zx λb1 w1 h b k p=>?_;refine zx λb2 w2 i c l q=>?_;refine zr λu d _=>?_;have e:=o.ext ((b.trans c).trans d);have f:=g _ ((b.trans c).trans d);simp(disch:=first|(simp only[push_cast])|omega) only[push_cast,e.iaddr,e.load,true_and];refine zh (λa=>?_) (λa=>?_)
 ·refine Ym ?_;simpa only[a,true_and] using f
 ·refine XG ?_;simpa only[a,false_and,if_false] using f
theorem yI0 {s:ByteArray} {n:Int} {dv tv kv:Value} {t:M.Tm} (q:TermR F w tv t)
  (j:∀w',Ext w w'->K (.int .i64 (if M.vok t.a t.b=true then t.a else-1)) w'):vcall P Z9 #[KV s n,dv,tv,kv] w K:=by
 apply UT;obtain⟨ksv,rfl,m⟩:=q;refine zx λb1 w1 k f o r=>?_;refine zx λb2 w2 l g p h=>?_;refine zr λu c _=>?_;have e:=h.ext c;simp(disch:=first|(simp only[push_cast])|omega) only[push_cast,e.ld1,e.ld2,true_and];refine VecOk_spec λv d=>?_;have i:=e.ext d;simp(disch:=first|(simp only[push_cast])|omega) only[push_cast,i.ld1,true_and,and_self];exact JX (j _ (((f.trans g).trans c).trans d))
theorem cutKind_sort_spec {s:ByteArray} {n:Int} {dv tv kv:Value} {t:M.Tm} {xs:List Int} (y:TermR F w tv t) (z:Ints G w kv xs) (B:xs.length=1) (r:∀i,-1<=xs.getD i 0/\xs.getD i 0<=4)
  (m:∀w',Ext w w'->K (.int .i64 (if 0<=t.b/\t.b<=t.a/\t.a<xs.getD 0 0 then t.a-t.b+1 else-1)) w'):vcall P Zg #[KV s n,dv,tv,kv] w K:=by
 apply z40;obtain⟨ksv,rfl,q⟩:=y;refine zx λb1 w1 o e u A=>?_;refine zx λb2 w2 p f v l=>?_;refine zr λD d _=>?_;have g:=z.ext ((e.trans f).trans d);have j:=l.ext d;have h:=m _ ((e.trans f).trans d);have C:=r 0;simp(disch:=first|(simp only[push_cast])|omega) only[push_cast,j.ld1,j.ld2,g.iaddr,g.load,true_and];refine zh (λa=>?_) (λa=>?_)
 ·refine zh (λb=>?_) (λb=>?_)
  ·by_cases c:t.a<xs.getD 0 0
   ·have k:IntKind.i64.wrap (IntKind.i64.wrap (t.a-t.b)+1)=t.a-t.b+1:=(by rw[zJ (x:=t.a-t.b) (by omega) (by omega),zJ (by omega) (by omega)]);rw[k];refine Ym ?_;simpa only[a,b,c,true_and] using h
   ·refine Ym ?_;simpa only[c,and_false,if_false] using h
  ·refine XG ?_;simpa only[b,false_and,and_false,if_false] using h
 ·refine XG ?_;simpa only[a,false_and,if_false] using h
theorem y50 {s:ByteArray} {n:Int} {f dv tv kv:Value} {t:M.Tm} {xs:List Int} (r:TermR F w tv t) (u:Ints G w kv xs)
  (c:∀w',Ext w w'->K (.int .i64 (if xs.any (λx=>decide (x≠0)) then-1 else 0)) w'):vcall P kW #[.agg ⟨[.string s,.int .i64 n,f]⟩,dv,tv,kv] w K:=by
 apply U2;obtain⟨ksv,rfl,m⟩:=r;refine zx λb1 w1 j a o v=>?_;refine zx λb2 w2 k b q y=>?_;have e:=u.ext (a.trans b);refine YW (p:=λi=>decide (xs.getD i 0≠0)) e (λi l=>?_) λz d=>?_
 ·rw[qH0 (by simpa using l)];intro w' K he c;simp only[push_cast];apply KX;simp only[push_cast];have:=c _ (Same.refl _ _);simpa using this
 ·have g:=c _ ((a.trans b).trans d);rw[X0,Kl0 xs 0 (λx=>decide (x≠0))];simp only[push_cast];refine JX ?_;cases h:xs.any λx=>decide (x≠0)<;>rw[h] at g<;>exact g
theorem nameKind_sort_spec {s:ByteArray} {n:Int} {dv tv kv:Value} {t:M.Tm} {ds:List M.Dcl} (B:TermR F w tv t) (u:DclsR G w dv ds)
  (h:∀w',Ext w w'->K (.int .i64 (if M.findD ds t.s<0 then-1 else(ds.getD (M.findD ds t.s).toNat Xv0).2)) w'):vcall P kR #[KV s n,dv,tv,kv] w K:=by
 apply WT;obtain⟨ksv,rfl,x⟩:=B;refine zx λb1 w1 o d y C=>?_;refine zx λb2 w2 q e z k=>?_;simp only[push_cast];have b:=u.ext (d.trans e);refine IndexFunc_Decl (p:=λi=>decide ((ds.getD i Xv0).1=t.s)) b (λi D=>?_) λE f=>?_
 ·intro w' K he h;simp only[push_cast];apply KT;refine zx λb3 H r g A l=>?_;have m:=(k.ext he).ext g;simp(disch:=first|(simp only[push_cast])|omega) only[push_cast,l.ld0,m.ld3];exact h _ g
 ·have v:=M.findD_lt ds t.s;have j:=h _ ((d.trans e).trans f);have c:=b.ext f;have efd:idxI ds.length (λi=>decide ((ds.getD i Xv0).1=t.s))=M.findD ds t.s:=rfl;rw[efd];simp only[push_cast];refine zh (λa=>?_) (λa=>?_)
  ·rwa[if_pos a] at j
  ·rw[if_neg a] at j;simp(disch:=first|(simp only[push_cast])|omega) only[push_cast,c.iaddr];simp(disch:=first|(simp only[push_cast])|omega) only[push_cast,c.load1];exact j
end
section
variable {w:World} {K:Value->World->Prop}
theorem l1Max_spec {a b:Int} (c:K (.int .i64 (max a b)) w):vcall P Ve #[.int .i64 a,.int .i64 b] w K:=by
 apply YP0;simp only[push_cast];refine zh (λh=>?_) (λh=>?_)
 ·rwa[show max a b=a by omega] at c
 ·rwa[show max a b=b by omega] at c
theorem pow62 {k:Nat} (h:k<=62):2^k<=4611686018427387904:=Ga (gO (by omega) h) (by decide)
theorem l1Two_spec {n:Int} (h:n<=62) (l:K (.int .i64 ((2^n.toNat:Nat):Int)) w):vcall P Zu #[.int .i64 n] w K:=by
 apply YO0;refine vloop_up n.toNat (λi u w'=>u=[.int .i64 (2^i:Nat),.int .i64 i]/\w'=w) ⟨rfl,rfl⟩ ?_;rintro i _ _ w1 C o ⟨rfl,rfl⟩ e;have m:=pow62 (k:=i) (by omega);have c:((2^i:Nat):Int)*2=((2^(i+1):Nat):Int):=by rw[Nat.pow_succ];omega
 have b:i<n.toNat->2^(i+1)<=4611686018427387904:=λh=>pow62 (by omega);obtain⟨q,g⟩:∃q,q=2^i:=⟨_,rfl⟩;obtain⟨j,d⟩:∃j,j=2^(i+1):=⟨_,rfl⟩;rw[<-g] at c m⊢;rw[<-d] at c e b;simp only[push_cast];refine zh (λa=>?_) (λa=>?_)
 ·have f:=b (by omega);rw[c,zJ (by omega) (by omega),inc64' (by omega)];exact e (by omega) _ _ ⟨rfl,rfl⟩
 ·have:i=n.toNat:=(by omega);subst this;rw[g];exact l
theorem spec_VecOk_spec {wd n:Int} (j:∀w',Ext w w'->K (.bool (M.vok wd n)) w'):vcall P Vf #[Ye wd n] w K:=by
 apply YQ0;refine zx λb1 w1 k f l h=>?_;refine zr λw2 c _=>?_;have e:=h.ext c;have i:=f.trans c;simp(disch:=(simp only[push_cast])) only[push_cast,e.ld0,e.ld1,true_and];have a:=j w2 i;refine zh (λd=>?_) (λd=>?_)
 ·refine zh (λa2=>?_) (λa2=>?_)
  ·refine zh (λa3=>?_) (λa3=>?_)
   ·refine l1Two_spec (by omega) ?_;obtain⟨q,g⟩:∃q,q=2^wd.toNat:=⟨_,rfl⟩;have b:M.vok wd n=decide (n<(q:Nat)):=by
     simp only[M.vok,decide_eq_true d,decide_eq_true a2,decide_eq_true a3,pH];rw[g,kI0]
    rw[<-g];simp(disch:=(simp only[push_cast])) only[push_cast,e.ld1,true_and,and_self];rw[b] at a;exact a
   ·have b:M.vok wd n=false:=(by simp only[M.vok,decide_eq_false a3,pj,GP]);rw[b] at a;exact a
  ·have b:M.vok wd n=false:=(by simp only[M.vok,decide_eq_false a2,pj,GP]);rw[b] at a;exact a
 ·have b:M.vok wd n=false:=(by simp only[M.vok,decide_eq_false d,GP]);rw[b] at a;exact a
end
section
variable {w:World} {K:Value->World->Prop} {F G:Nat->Prop}
theorem unKind_value_spec {s:ByteArray} {n:Int} {ev tv kv:Value} {t:M.Tm} {xs:List (Int×Int)} (R:TermR F w tv t) (S:PairsR G w kv xs) (Z:xs.length=1)
  (I:∀w',Ext w w'->K (.int .i64 (M.vecUn t.op (xs.getD 0 (0,0)).1 (xs.getD 0 (0,0)).2).1.2) w'):vcall P Za #[KV s n,ev,tv,kv] w K:=by
 apply UU;obtain⟨ksv,rfl,N⟩:=R;refine zx λb1 w1 J m O Y=>?_;refine zx λb2 w2 L o Q B=>?_;have z:=m.trans o;have hz:=z.size;refine zS (λu w'=> ∃b wd,u=[.pointer (some ⟨b,0,none⟩)]/\Ext w w'/\Blk w' b [.int .i64 wd,.int .i64 (M.vecUn t.op (xs.getD 0 (0,0)).1 (xs.getD 0 (0,0)).2).1.2] zd) (λC x=>?_) ?_
 ·refine zr λV d _=>?_;have c:=z.trans d;have e:=S.ext c;have j:=B.ext d;have T:=c.size;simp(disch:=first|(simp only[push_cast])|omega) only[push_cast,j.ld0,e.iaddr,e.load,true_and,and_true];refine⟨?_,?_⟩
  ·refine VecUn_spec λw4 f=>?_;have U:=f.size;simp only[push_cast,true_and];refine zD xD λA W l a p k=>?_
   try simp only[push_cast,true_and,and_self]
   refine stVec k λX q _ E=>?_
   try simp only[push_cast,true_and,and_self]
   exact x _ _ ⟨_,_,rfl,Ext.then ((c.trans f).trans a) q λy v=>by subst v;omega,E⟩
  ·refine zD xD λA W l a p k=>?_;have D:=j.ext a;have i:=e.ext a;simp(disch:=first|(simp only[push_cast])|omega) only[push_cast,D.ld0,i.iaddr,i.load,true_and,and_self,and_true];refine VecUn_spec λX h=>?_;simp only[push_cast,true_and];refine stVec (k.ext h) λw7 r _ H=>?_
   try simp only[push_cast,true_and,and_self]
   exact x _ _ ⟨_,_,rfl,Ext.then ((c.trans a).trans h) r λy v=>by subst v;omega,H⟩
 ·rintro u g V ⟨b,wd,rfl,d,j⟩;simp(disch:=(simp only[push_cast])) only[push_cast,j.ld1];exact I _ d
theorem binKind_value_spec {s:ByteArray} {n:Int} {ev tv kv:Value} {t:M.Tm} {xs:List (Int×Int)} (R:TermR F w tv t) (S:PairsR G w kv xs) (Z:xs.length=2)
  (I:∀w',Ext w w'->K (.int .i64 (M.vecBin t.op (xs.getD 0 (0,0)).1 (xs.getD 0 (0,0)).2 (xs.getD 1 (0,0)).1 (xs.getD 1 (0,0)).2).1.2) w'):vcall P kX #[KV s n,ev,tv,kv] w K:=by
 apply U4;obtain⟨ksv,rfl,N⟩:=R;refine zx λb1 w1 J m O Y=>?_;refine zx λb2 w2 L o Q B=>?_;have z:=m.trans o;have hz:=z.size;refine zS (λu w'=> ∃b wd,u=[.pointer (some ⟨b,0,none⟩)]/\Ext w w'/\Blk w' b [.int .i64 wd,.int .i64 (M.vecBin t.op (xs.getD 0 (0,0)).1 (xs.getD 0 (0,0)).2 (xs.getD 1 (0,0)).1 (xs.getD 1 (0,0)).2).1.2] zd) (λC x=>?_) ?_
 ·refine zr λV d _=>?_;have c:=z.trans d;have e:=S.ext c;have j:=B.ext d;have T:=c.size;simp(disch:=first|(simp only[push_cast])|omega) only[push_cast,j.ld0,e.iaddr,e.load,true_and,and_true];refine⟨?_,?_⟩
  ·refine VecBin_spec λw4 f=>?_;have U:=f.size;simp only[push_cast,true_and];refine zD xD λA W l a p k=>?_
   try simp only[push_cast,true_and,and_self]
   refine stVec k λX q _ E=>?_
   try simp only[push_cast,true_and,and_self]
   exact x _ _ ⟨_,_,rfl,Ext.then ((c.trans f).trans a) q λy v=>by subst v;omega,E⟩
  ·refine zD xD λA W l a p k=>?_;have D:=j.ext a;have i:=e.ext a;simp(disch:=first|(simp only[push_cast])|omega) only[push_cast,D.ld0,i.iaddr,i.load,true_and,and_self,and_true];refine VecBin_spec λX h=>?_;simp only[push_cast,true_and];refine stVec (k.ext h) λw7 r _ H=>?_
   try simp only[push_cast,true_and,and_self]
   exact x _ _ ⟨_,_,rfl,Ext.then ((c.trans a).trans h) r λy v=>by subst v;omega,H⟩
 ·rintro u g V ⟨b,wd,rfl,d,j⟩;simp(disch:=(simp only[push_cast])) only[push_cast,j.ld1];exact I _ d
theorem catKind_value_spec {s:ByteArray} {n:Int} {ev tv kv:Value} {t:M.Tm} {xs:List (Int×Int)} (R:TermR F w tv t) (S:PairsR G w kv xs) (Z:xs.length=2)
  (I:∀w',Ext w w'->K (.int .i64 (M.vecBin t.op (xs.getD 0 (0,0)).1 (xs.getD 0 (0,0)).2 (xs.getD 1 (0,0)).1 (xs.getD 1 (0,0)).2).1.2) w'):vcall P kU #[KV s n,ev,tv,kv] w K:=by
 apply WZ;obtain⟨ksv,rfl,N⟩:=R;refine zx λb1 w1 J m O Y=>?_;refine zx λb2 w2 L o Q B=>?_;have z:=m.trans o;have hz:=z.size;refine zS (λu w'=> ∃b wd,u=[.pointer (some ⟨b,0,none⟩)]/\Ext w w'/\Blk w' b [.int .i64 wd,.int .i64 (M.vecBin t.op (xs.getD 0 (0,0)).1 (xs.getD 0 (0,0)).2 (xs.getD 1 (0,0)).1 (xs.getD 1 (0,0)).2).1.2] zd) (λC x=>?_) ?_
 ·refine zr λV d _=>?_;have c:=z.trans d;have e:=S.ext c;have j:=B.ext d;have T:=c.size;simp(disch:=first|(simp only[push_cast])|omega) only[push_cast,j.ld0,e.iaddr,e.load,true_and,and_true];refine⟨?_,?_⟩
  ·refine VecBin_spec λw4 f=>?_;have U:=f.size;simp only[push_cast,true_and];refine zD xD λA W l a p k=>?_
   try simp only[push_cast,true_and,and_self]
   refine stVec k λX q _ E=>?_
   try simp only[push_cast,true_and,and_self]
   exact x _ _ ⟨_,_,rfl,Ext.then ((c.trans f).trans a) q λy v=>by subst v;omega,E⟩
  ·refine zD xD λA W l a p k=>?_;have D:=j.ext a;have i:=e.ext a;simp(disch:=first|(simp only[push_cast])|omega) only[push_cast,D.ld0,i.iaddr,i.load,true_and,and_self,and_true];refine VecBin_spec λX h=>?_;simp only[push_cast,true_and];refine stVec (k.ext h) λw7 r _ H=>?_
   try simp only[push_cast,true_and,and_self]
   exact x _ _ ⟨_,_,rfl,Ext.then ((c.trans a).trans h) r λy v=>by subst v;omega,H⟩
 ·rintro u g V ⟨b,wd,rfl,d,j⟩;simp(disch:=(simp only[push_cast])) only[push_cast,j.ld1];exact I _ d
theorem cutKind_value_spec {s:ByteArray} {n:Int} {ev tv kv:Value} {t:M.Tm} {xs:List (Int×Int)} (S:TermR F w tv t) (T:PairsR G w kv xs) (hl:xs.length=1)
  (J:∀w',Ext w w'->K (.int .i64 (M.vecCut (xs.getD 0 (0,0)).1 (xs.getD 0 (0,0)).2 t.a t.b).1.2) w'):vcall P kS #[KV s n,ev,tv,kv] w K:=by
 apply WX;obtain⟨ksv,rfl,O⟩:=S;refine zx λb1 w1 L o Q Z=>?_;refine zx λb2 w2 N p R E=>?_;have B:=o.trans p;have hz:=B.size;refine zS (λu w'=> ∃b wd,u=[.pointer (some ⟨b,0,none⟩)]/\Ext w w'/\Blk w' b [.int .i64 wd,.int .i64 (M.vecCut (xs.getD 0 (0,0)).1 (xs.getD 0 (0,0)).2 t.a t.b).1.2] zd) (λC A=>?_) ?_
 ·refine zr λW e _=>?_;have d:=B.trans e;have f:=T.ext d;have h:=E.ext e;have U:=d.size;simp(disch:=first|(simp only[push_cast])|omega) only[push_cast,h.ld1,h.ld2,f.iaddr,f.load,true_and,and_true];refine⟨?_,?_⟩
  ·refine VecCut_spec λw4 i=>?_;have V:=i.size;simp only[push_cast,true_and];refine zD xD λD X m c q l=>?_
   try simp only[push_cast,true_and,and_self]
   refine stVec l λY r _ H=>?_
   try simp only[push_cast,true_and,and_self]
   exact A _ _ ⟨_,_,rfl,Ext.then ((d.trans i).trans c) r λy x=>by subst x;omega,H⟩
  ·refine zD xD λD X m c q l=>?_;have z:=h.ext c;have k:=f.ext c;simp(disch:=first|(simp only[push_cast])|omega) only[push_cast,z.ld1,z.ld2,k.iaddr,k.load,true_and,and_self,and_true];refine VecCut_spec λY j=>?_;simp only[push_cast,true_and];refine stVec (l.ext j) λw7 v _ I=>?_
   try simp only[push_cast,true_and,and_self]
   exact A _ _ ⟨_,_,rfl,Ext.then ((d.trans c).trans j) v λy x=>by subst x;omega,I⟩
 ·rintro u g W ⟨b,wd,rfl,e,h⟩;simp(disch:=(simp only[push_cast])) only[push_cast,h.ld1];exact J _ e
theorem cmpKind_value_spec {s:ByteArray} {n:Int} {ev tv kv:Value} {t:M.Tm} {xs:List (Int×Int)} (p:TermR F w tv t) (q:PairsR G w kv xs) (u:xs.length=2)
  (i:∀w',Ext w w'->K (.int .i64 (M.b2i (M.vecCmp t.op (xs.getD 0 (0,0)).1 (xs.getD 0 (0,0)).2 (xs.getD 1 (0,0)).1 (xs.getD 1 (0,0)).2).1)) w'):vcall P kT #[KV s n,ev,tv,kv] w K:=by
 apply WY;obtain⟨ksv,rfl,l⟩:=p;refine zx λb1 w1 j d m r=>?_;refine zx λb2 w2 k e o g=>?_;refine zr λv b _=>?_;have a:=(d.trans e).trans b;have c:=q.ext a;have h:=g.ext b;simp(disch:=first|(simp only[push_cast])|omega) only[push_cast,h.ld0,c.iaddr,c.load,true_and,and_true];refine VecCmp_spec λx f=>?_;simp only[push_cast,true_and];exact UF (i _ (a.trans f))
theorem zp0 {s:ByteArray} {n:Int} {ev tv kv:Value} {t:M.Tm} (k:TermR F w tv t)
  (e:∀w',Ext w w'->K (.int .i64 t.b) w'):vcall P kP #[KV s n,ev,tv,kv] w K:=by
 apply WO;obtain⟨ksv,rfl,h⟩:=k;refine zx λb1 w1 f a i l=>?_;refine zx λb2 w2 g c j d=>?_;simp(disch:=(simp only[push_cast])) only[push_cast,d.ld2];exact e _ (a.trans c)
theorem JD0:Ve0 P Y2 .string ze:=⟨_,WK,by kernel_rfl⟩
theorem UI {s:ByteArray} {n:Int} {tv kv:Value} {t:M.Tm} {mb:Nat} {f:List (Value×Value)} {x:Int} (l:TermR F w tv t) (hm:MapF .string w mb f) (c:(Value.string t.s,Value.int .i64 x)∈f)
  (e:∀w',Ext w w'->K (.int .i64 x) w'):vcall P ka #[KV s n,.map (some mb),tv,kv] w K:=by
 apply VC;obtain⟨ksv,rfl,i⟩:=l;refine zx λb1 w1 g a j m=>?_;refine zx λb2 w2 h b k d=>?_;simp(disch:=(simp only[push_cast])) only[push_cast,d.ld3];rw[zn0 JD0 (hm.ext (a.trans b)) (zB0 _) c];exact e _ (a.trans b)
theorem ifKind_value_spec {s:ByteArray} {n:Int} {ev tv kv:Value} {t:M.Tm} {xs:List (Int×Int)} (l:TermR F w tv t) (m:PairsR G w kv xs) (q:xs.length=3)
  (f:∀w',Ext w w'->K (.int .i64 (if(xs.getD 0 (0,0)).2=1 then(xs.getD 1 (0,0)).2 else(xs.getD 2 (0,0)).2)) w'):vcall P Zd #[KV s n,ev,tv,kv] w K:=by
 apply UY;obtain⟨ksv,rfl,i⟩:=l;refine zx λb1 w1 g c j o=>?_;refine zx λb2 w2 h d k p=>?_;have b:=m.ext (c.trans d);have e:=f _ (c.trans d)
 try simp(disch:=first|(simp only[push_cast])|omega) only[push_cast,b.iaddr]
 try simp(disch:=first|(simp only[push_cast])|omega) only[push_cast,b.load1]
 refine zh (λa=>?_) (λa=>?_)
 ·rw[if_pos a] at e
  try simp(disch:=first|(simp only[push_cast])|omega) only[push_cast,b.iaddr]
  try simp(disch:=first|(simp only[push_cast])|omega) only[push_cast,b.load1]
  exact e
 ·rw[if_neg a] at e
  try simp(disch:=first|(simp only[push_cast])|omega) only[push_cast,b.iaddr]
  try simp(disch:=first|(simp only[push_cast])|omega) only[push_cast,b.load1]
  exact e
def kU0 (f:Value) (g:List (Int×Int)->Bool) (n:Nat):Prop:=∀(w:World) (G:Nat->Prop) (kv:Value) (xs:List (Int×Int)) (K:Value->World->Prop),PairsR G w kv xs->xs.length=n->K (.bool (g xs)) w->vcallv P f #[kv] w K
theorem zi0 {s:ByteArray} {n:Int} {f ev tv kv:Value} {t:M.Tm} {g:List (Int×Int)->Bool} {m:Nat} {xs:List (Int×Int)} (j:kU0 f g m) (q:TermR F w tv t) (r:PairsR G w kv xs) (l:xs.length=m)
  (e:∀w',Ext w w'->K (.int .i64 (M.b2i (g xs))) w'):vcall P kg #[.agg ⟨[.string s,.int .i64 n,f]⟩,ev,tv,kv] w K:=by
 apply VJ;obtain⟨ksv,rfl,k⟩:=q;refine zx λb1 w1 h b o c=>?_;refine zx λb2 w2 i a p u=>?_;have d:=c.ext a;simp(disch:=(simp only[push_cast])) only[push_cast,d.ld2];refine j _ _ _ _ _ (r.ext (b.trans a)) l ?_;exact UF (e _ (b.trans a))
theorem JJ0:kU0 (.func (.func J8) #[] #[]) (λ_=>true) 0:=by
 intro w G kv xs K c b a;simp only[push_cast];apply kj0;exact a
theorem kinds2_fn:kU0 (.func (.func J7) #[] #[]) (λxs=>decide ((xs.getD 0 (0,0)).2=0)) 1:=by
 intro w G kv xs K a c b;simp only[push_cast];apply ki0
 try simp(disch:=first|(simp only[push_cast])|omega) only[push_cast,a.iaddr]
 try simp(disch:=first|(simp only[push_cast])|omega) only[push_cast,a.load1]
 exact b
theorem kinds3_fn:kU0 (.func (.func J6) #[] #[]) (λxs=>decide ((xs.getD 0 (0,0)).2=1)&&decide ((xs.getD 1 (0,0)).2=1)) 2:=by
 intro w G kv xs K b d c;simp only[push_cast];apply kh0
 try simp(disch:=first|(simp only[push_cast])|omega) only[push_cast,b.iaddr]
 try simp(disch:=first|(simp only[push_cast])|omega) only[push_cast,b.load1]
 refine zh (λa=>?_) (λa=>?_)
 ·try simp(disch:=first|(simp only[push_cast])|omega) only[push_cast,b.iaddr]
  try simp(disch:=first|(simp only[push_cast])|omega) only[push_cast,b.load1]
  simpa only[decide_eq_true a,pH] using c
 ·simpa only[decide_eq_false a,GP] using c
theorem kinds4_fn:kU0 (.func (.func J5) #[] #[]) (λxs=>decide ((xs.getD 0 (0,0)).2=1)||decide ((xs.getD 1 (0,0)).2=1)) 2:=by
 intro w G kv xs K b d c;simp only[push_cast];apply kg0
 try simp(disch:=first|(simp only[push_cast])|omega) only[push_cast,b.iaddr]
 try simp(disch:=first|(simp only[push_cast])|omega) only[push_cast,b.load1]
 refine zh (λa=>?_) (λa=>?_)
 ·simpa only[decide_eq_true a,Bool.true_or] using c
 ·try simp(disch:=first|(simp only[push_cast])|omega) only[push_cast,b.iaddr]
  try simp(disch:=first|(simp only[push_cast])|omega) only[push_cast,b.load1]
  simpa only[decide_eq_false a,z0b] using c
end
end Go.Proofs.YtokflbdfnbppjaaGreatDoor
