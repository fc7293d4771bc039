import Derived.Test.YtfnpmncplaibiaaGreatDoorWqbP4
import Derived.Laws.IdiomCopy
/- A part of the proof. -/
set_option linter.all false
set_option maxRecDepth 9999
set_option maxHeartbeats 2000000
noncomputable section
namespace Go.Proofs.YtfnpmncplaibiaaGreatDoor
open Go Go.Vc Go.Proofs
section
variable {w:World} {K:oK} {n bc mb bb:Nat} {gs:M.Gs} {v:Value}
theorem absI_le {a:Int} {m:Nat} (h:a.natAbs<=m):(M.absI a).natAbs<=m:=by unfold M.absI;split<;>omega
theorem Kf {c:Bool} {a:Int}:(M.turnI c a).natAbs=a.natAbs:=by cases c<;>simp[M.turnI]
theorem put_abs {g:M.Gt} (h:gs.length<=600) (a:n<=8):(M.putG n gs g).2.natAbs<=1000:=by
 unfold M.putG;split
 .next hm=>have:=List.idxOf_lt_length_iff.2 hm;show(2+(n:Int)+(gs.idxOf g:Nat)).natAbs<=1000;omega
 .split
  .show(0:Int).natAbs<=1000;decide
  .show(2+(n:Int)+(gs.length:Nat)).natAbs<=1000;omega
theorem k50 {a b:Int} (h:gs.length<=600) (c:n<=8) (d:a.natAbs<=1000) (e:b.natAbs<=1000):(M.andG n gs a b).2.natAbs<=1000:=by
 unfold M.andG
 repeat' split
 all_goals first|exact put_abs h c|(show(-1:Int).natAbs<=1000;decide)|assumption
theorem qQ0 {a b:Int} (h:gs.length<=600) (c:n<=8) (d:a.natAbs<=1000) (e:b.natAbs<=1000):(M.xorG n gs a b).2.natAbs<=1000:=by
 unfold M.xorG
 repeat' split
 all_goals first|(show(-1:Int).natAbs<=1000;decide)|(show(1:Int).natAbs<=1000;decide)|(simp only[Kf];first|exact put_abs h c|assumption)
theorem YC0 (a b:Int):yA zo [(1,nI a),(2,nI b)] w K=K (gv ⟨false,a,b⟩) w:=zU ZB (us:=[[nI a],[nI b]]) rfl rfl
theorem cand_spec {a b:Int} (h:CktR n bc w gs v mb) (f:a.natAbs<=1000) (e:b.natAbs<=1000)
  (d:∀w' v',CktR n bc w' (M.andG n gs a b).1 v' mb->Same (X7 bc mb v) w w'->(∀b,v'.ownBlock=some b->v.ownBlock=some b\/w.heap.size<=b)->K (nI (M.andG n gs a b).2) w'):
  vcall Qe #[oP bc 0,nI a,nI b] w K:=by
 refine ze {} Tryz.func289 ?_;unfold M.andG at d
 try simp only[push_cast]
 refine zb (λc=>?_) (λc1=>?_)
 .rw[X0 (.inl c)] at d;exact d _ _ h (Same.refl _ _) λb e=> .inl e
 try simp only[push_cast]
 refine zb (λc=>?_) (λc2=>?_)
 .rw[X0 (.inr c)] at d;exact d _ _ h (Same.refl _ _) λb e=> .inl e
 rw[y3 (λh=>h.elim c1 c2)] at d
 try simp only[push_cast]
 refine zb (λc=>?_) (λc=>?_)
 .rw[X0 c] at d;exact d _ _ h (Same.refl _ _) λb e=> .inl e
 rw[y3 c] at d
 try simp only[push_cast]
 refine zb (λc=>?_) (λc=>?_)
 .rw[X0 c] at d;exact d _ _ h (Same.refl _ _) λb e=> .inl e
 rw[y3 c] at d
 try simp only[push_cast]
 refine zb (λc=>?_) (λc=>?_)
 .rw[X0 c] at d;exact d _ _ h (Same.refl _ _) λb e=> .inl e
 rw[y3 c] at d
 try simp(disch:=omega) only[push_cast,zk,Ga]
 refine zb (λc=>?_) (λc=>?_)
 .rw[X0 c] at d;exact d _ _ h (Same.refl _ _) λb e=> .inl e
 rw[y3 c] at d;rw[YC0];exact gate_spec h (by show a.natAbs<=_;omega) (by show b.natAbs<=_;omega) d
theorem Zy0 (a b:Int):yA zo [(0,.bool true),(1,nI a),(2,nI b)] w K=K (gv ⟨true,a,b⟩) w:=zU ZB (us:=[[.bool true],[nI a],[nI b]]) rfl rfl
theorem absI_abs (a:Int):M.absI (M.absI a)=M.absI a:=by
 unfold M.absI;by_cases h:a<0
 .rw[X0 h,y3 oM]
 .rw[y3 h,y3 h]
theorem ordX (a b:Int):ZS0 ⟨true,M.absI a,M.absI b⟩=M.gateX a b:=by unfold ZS0 M.gateX;simp only[absI_abs]
theorem cxor_spec {a b:Int} (h:CktR n bc w gs v mb) (j:a.natAbs<=1000) (e:b.natAbs<=1000)
  (d:∀w' v',CktR n bc w' (M.xorG n gs a b).1 v' mb->Same (X7 bc mb v) w w'->(∀b,v'.ownBlock=some b->v.ownBlock=some b\/w.heap.size<=b)->K (nI (M.xorG n gs a b).2) w'):
  vcall Qd #[oP bc 0,nI a,nI b] w K:=by
 refine ze {} Tryz.func290 ?_;unfold M.xorG at d;refine node_spec oM ?_
 try simp only[push_cast]
 refine zb (λc=>?_) (λc=>?_)
 .rw[X0 c] at d
  try simp only[push_cast]
  exact turned_spec oM (d _ _ h (Same.refl _ _) λb e=> .inl e)
 rw[y3 c] at d;refine node_spec oM ?_
 try simp only[push_cast]
 refine zb (λc=>?_) (λc=>?_)
 .rw[X0 c] at d
  try simp only[push_cast]
  exact turned_spec oM (d _ _ h (Same.refl _ _) λb e=> .inl e)
 rw[y3 c] at d
 try simp only[push_cast]
 refine zb (λc=>?_) (λc=>?_)
 .rw[X0 c] at d;exact d _ _ h (Same.refl _ _) λb e=> .inl e
 rw[y3 c] at d
 try simp(disch:=omega) only[push_cast,zk,Ga]
 refine zb (λc=>?_) (λc=>?_)
 .rw[X0 c] at d;exact d _ _ h (Same.refl _ _) λb e=> .inl e
 rw[y3 c] at d;refine node_spec oM (node_spec oM ?_);rw[Zy0];have k:=put_abs (g:=M.gateX a b) h.few.1 h.few.2;refine gate_spec h (absI_le oM) (absI_le oM) λw' v' f hs i=>?_;rw[ordX] at f⊢
 try simp only[push_cast]
 refine turned_spec (l:=(M.putG n gs (M.gateX a b)).2) oM ?_;exact d _ _ f hs i
theorem jk0:qu .eql xw true .nilIface .nilIface w K=K (.bool true) w:=yp rK rK
theorem Xn:qu .neq xw true .nilIface .nilIface w K=K (.bool false) w:=yp rK rK
theorem Yu0 {a:Addr}:qu .eql xw true (erv a) .nilIface w K=K (.bool false) w:=yp rK rK
theorem zl0 {a:Addr}:qu .neq xw true (erv a) .nilIface w K=K (.bool true) w:=yp rK rK
theorem Vg {p e:Value} (a:K (.tuple #[]) w):vcall kD #[p,.bool false,e] w K:=by
 refine ze {} Tryz.func245 ?_;refine oZ ?_;exact a
theorem Zi0 {p:Value} {a:Addr} (c:Blk w bb [p,.nilIface] yO) (d:∀w',Same (· =bb) w w'->Blk w' bb [p,erv a] yO->K (.tuple #[]) w'):
  vcall kD #[oP bb 0,.bool true,erv a] w K:=by
 refine ze {} Tryz.func245 ?_;simp(disch:=exact oS) only[push_cast,c.ld1,jk0];refine Blk.st (i:=1) c rfl rfl Y60 rfl λw' hs _ b=>d w' hs b
end
section
variable {w:World} {K:oK} {F F' X:oA} {n bc mb bb:Nat} {gs:M.Gs} {v:Value} {ar ab:Addr} {st:Option M.Gs}
theorem BdR.pre {w':World} {bc mb:Nat} {gs gs':M.Gs} {v v':Value} (h:BdR n bb ar ab X F w (some gs)) (g:Blk w bb [oP bc 0,.nilIface] yO) (d: ¬X7 bc mb v bb) (hF:∀b,X7 bc mb v b->F b)
  (i:CktR n bc w' gs' v' mb) (hs:Same (X7 bc mb v) w w') (j:∀b,v'.ownBlock=some b->v.ownBlock=some b\/w.heap.size<=b):
  BdR n bb ar ab X (λb=>F b\/v'.ownBlock=some b) w' (some gs')/\Mv F w (λb=>F b\/v'.ownBlock=some b) w':=by
 have hm:Mv F w (λb=>F b\/v'.ownBlock=some b) w':=⟨hs.mono λx _ a=>hF x a,λb c=>c.elim .inl λc=>(j b c).imp (λh=>hF b (.inr (.inr h))) id⟩;refine⟨⟨h.err.mv hm,⟨bc,g.same hs d,λk e=>?_⟩,.inl h.foot,λb c=>?_⟩,hm⟩
 .cases e;refine⟨v',mb,i,?_,?_⟩
  .rintro(a|a|a)
   .exact d (.inl a)
   .exact d (.inr (.inl a))
   .rcases j _ a with f|f
    .exact d (.inr (.inr f))
    .have:=g.lt;omega
  .rintro b (a|a|a)
   .exact .inl (hF b (.inl a))
   .exact .inl (hF b (.inr (.inl a)))
   .exact .inr a
 .rcases c with(c|c)|c
  .have:=h.lt b (.inl c);have:=hs.size;omega
  .exact i.lt (.inr (.inr c))
  .have:=h.lt b (.inr c);have:=hs.size;omega
theorem made_spec {s:Int} (h:BdR n bb ar ab X F w (some gs)) (d:∀w',BdR n bb ar ab X F w' (if s=0 then none else some gs)->Mv F w F w'->K (nI (if s=0 then-1 else s)) w'):
  vcall Xv #[oP bb 0,nI s] w K:=by
 refine ze {} Tryz.func288 ?_;obtain⟨bc,f,j⟩:=h.blk;simp only at f;simp only[push_cast,zZ xg h.err.room.cell];by_cases hs:s=0
 .rw[X0 hs,X0 hs] at d;rw[gz hs];refine Zi0 f λw' c a=>?_;have hm:Mv F w F w':=⟨c.mono λx _ i=>i▸h.foot,λb g=> .inl g⟩;simp(disch:=exact oS) only[push_cast,a.ld1,zl0];exact d _ ⟨h.err.mv hm,⟨bc,a,λ_ e=>by cases e⟩,h.foot,λb g=>by have:=h.lt b g;have:=c.size;omega⟩ hm
 .rw[y3 hs,y3 hs] at d;rw[gm hs];refine Vg ?_;simp(disch:=exact oS) only[push_cast,f.ld1,Xn];exact d _ h Mv.refl
abbrev Sm (x:Int):Prop:=x.natAbs<=1000
theorem bout {x y s:Int} {p:M.Bd Int} {a:M.Gs} (b:p.run n gs=if s=0 then none else some (a,s)) (c:p.Reach (-1)):M.Bd.Out n p (some gs) (if s=0 then none else some a) (if s=0 then-1 else s):=by
 by_cases hs:s=0
 .rw[X0 hs] at b;rw[X0 hs,X0 hs];exact .inr ⟨b,rfl,c⟩
 .rw[y3 hs] at b;rw[y3 hs,y3 hs];exact .inl ⟨a,b,rfl⟩
theorem qU {x y:Int} (h:BdR n bb ar ab X F w st) (k:Sm x) (l:Sm y)
  (j:∀w' F' st' r,BdR n bb ar ab X F' w' st'->Mv F w F' w'->Sm r->M.Bd.Out n (.and x y .ret) st st' r->K (nI r) w'):
  vcall Qg #[oP bb 0,nI x,nI y] w K:=by
 refine ze {} Tryz.func252 ?_;obtain⟨bc,a,p⟩:=h.blk;cases st with
 |none=>
  simp only at a;simp(disch:=exact oS) only[push_cast,a.ld1,zl0];exact j _ _ none (-1) h Mv.refl dC ⟨rfl,-1,rfl⟩
 |some gs=>
  simp only at a;obtain⟨v,mb,c,b,hF⟩:=p gs rfl;simp(disch:=exact oS) only[push_cast,a.ld0,a.ld1,Xn];refine cand_spec c k l λw1 v1 d i g=>?_;obtain⟨m,e⟩:=h.pre a b hF d i g;have q:=k50 (n:=n) c.few.1 c.few.2 k l;refine made_spec m λw2 o f=>j _ _ _ _ o (e.trans f) ?_ (bout (x:=x) (y:=y) rfl ⟨-1,rfl⟩);split
  .decide
  .exact q
theorem Yt {x y:Int} (h:BdR n bb ar ab X F w st) (k:Sm x) (l:Sm y)
  (j:∀w' F' st' r,BdR n bb ar ab X F' w' st'->Mv F w F' w'->Sm r->M.Bd.Out n (.xor x y .ret) st st' r->K (nI r) w'):
  vcall Qf #[oP bb 0,nI x,nI y] w K:=by
 refine ze {} Tryz.func254 ?_;obtain⟨bc,a,p⟩:=h.blk;cases st with
 |none=>
  simp only at a;simp(disch:=exact oS) only[push_cast,a.ld1,zl0];exact j _ _ none (-1) h Mv.refl dC ⟨rfl,-1,rfl⟩
 |some gs=>
  simp only at a;obtain⟨v,mb,c,b,hF⟩:=p gs rfl;simp(disch:=exact oS) only[push_cast,a.ld0,a.ld1,Xn];refine cxor_spec c k l λw1 v1 d i g=>?_;obtain⟨m,e⟩:=h.pre a b hF d i g;have q:=qQ0 (n:=n) c.few.1 c.few.2 k l;refine made_spec m λw2 o f=>j _ _ _ _ o (e.trans f) ?_ (bout (x:=x) (y:=y) rfl ⟨-1,rfl⟩);split
  .decide
  .exact q
theorem xI {α:Type} {x y r:Int} {k:Int->M.Bd α} {a:α} {st st' b:Option M.Gs} (h:M.Bd.Out n (.and x y .ret) st st' r) (c:M.Bd.Out n (k r) st' b a):M.Bd.Out n (.and x y k) st b a:=M.Bd.Out.bind (f:=k) h c
theorem kM {α:Type} {x y r:Int} {k:Int->M.Bd α} {a:α} {st st' b:Option M.Gs} (h:M.Bd.Out n (.xor x y .ret) st st' r) (c:M.Bd.Out n (k r) st' b a):M.Bd.Out n (.xor x y k) st b a:=M.Bd.Out.bind (f:=k) h c
theorem bor_spec {x y:Int} (h:BdR n bb ar ab X F w st) (i:Sm x) (j:Sm y)
  (d:∀w' F' st' r,BdR n bb ar ab X F' w' st'->Mv F w F' w'->Sm r->M.Bd.Out n (M.orB x y) st st' r->K (nI r) w'):
  vcall QW #[oP bb 0,nI x,nI y] w K:=by
 refine ze {} Tryz.func253 ?_;simp(disch:=omega) only[push_cast,zk,Ga];refine qU h (by unfold Sm at*;omega) (by unfold Sm at*;omega) λw1 g f k c a e b=>?_;simp(disch:=omega) only[push_cast,zk,Ga];exact d _ _ _ _ c a (by unfold Sm at*;omega) (xI b (M.Bd.Out.ret _ _))
theorem bmux_spec {c x y:Int} (h:BdR n bb ar ab X F w st) (q:Sm c) (s:Sm x) (t:Sm y)
  (p:∀w' F' st' r,BdR n bb ar ab X F' w' st'->Mv F w F' w'->Sm r->M.Bd.Out n (M.muxB c x y) st st' r->K (nI r) w'):
  vcall qN #[oP bb 0,nI c,nI x,nI y] w K:=by
 refine ze {} Tryz.func248 ?_;refine qU h q s λw1 z u B l a i e=>?_;simp(disch:=omega) only[push_cast,zk,Ga];refine qU l (by unfold Sm at*;omega) t λw2 F2 st2 C m b j f=>?_;refine bor_spec m i j λE A v D o d k g=>?_;exact p _ _ _ _ o (a.trans (b.trans d)) k (xI e (xI f g))
end
end Go.Proofs.YtfnpmncplaibiaaGreatDoor
section
namespace Go.Vc
open Go
section
variable {w w':World} {K:oK} {F:oA} {t:TypeId} {v:Value}
theorem Sl.cutLH {k lo hi:Nat} {xs:List (List Value)} {kl kh:IntKind} (h:Sl F w k v xs) (r:elB t k=true) (y:lo<=hi) (l:hi<=xs.length) (m:∀v',Sl F w k v' ((xs.drop lo).take (hi-lo))->K v' w'):
  xy t v (some (.int kl lo)) (some (.int kh hi)) none w' K:=by
 obtain⟨hu,hs⟩:=Xe r;obtain⟨⟨a,c,rfl,u,p,d⟩,hw⟩:=h;have hlen:((xs.drop lo).take (hi-lo)).length=hi-lo:=by rw[gh,pk];omega
 refine⟨_,w',?_,m (sliced a lo hi c k) ⟨⟨_,c-lo,by unfold sliced;rw[hlen],oM,oM,λj=>?_⟩,λx s=>hw x (GY (gU s))⟩⟩
 .rw[run_sliceAt_slice w' t _ _ _ _ hu,run_slice_lh w' t _ _ _ hu kl kh lo hi oM oM oM,run_sizeOf hs];simp[Result.andThen]
 .have q:lo<hi:=by
   have:0<((xs.drop lo).take (hi-lo)).length:=GQ.2 j;omega
  obtain⟨b,o,rfl,hF,n,g⟩:=d (λe=>by rw[e] at l;simp at l;omega);refine⟨b,o+lo*k,?_,hF,n,λi f=>?_⟩
  .rw[y3 oM];simp[yw]
  .rw[hlen] at f;have:=g (lo+i) oM;rw[show o+lo*k+i*k=o+(lo+i)*k by rw[pa];omega];rwa[y4,List.getElem?_take_of_lt f,Pd,<-y4]
theorem Vals.cutLH {lo hi:Nat} {vs:List Value} {kl kh:IntKind} (h:Vals F w v vs) (e:elB t 1=true) (d:lo<=hi) (c:hi<=vs.length) (b:∀v',Vals F w v' ((vs.drop lo).take (hi-lo))->K v' w'):
  xy t v (some (.int kl lo)) (some (.int kh hi)) none w' K:=by
 refine Sl.cutLH h e d (by simpa using c) λv' a=>b v' ?_;unfold Vals;rw[GG,p4];exact a
theorem Ints.cutLH {lo hi:Nat} {xs:oI} {kl kh:IntKind} (h:Ints F w v xs) (e:elB t 1=true) (d:lo<=hi) (c:hi<=xs.length) (b:∀v',Ints F w v' ((xs.drop lo).take (hi-lo))->K v' w'):
  xy t v (some (.int kl lo)) (some (.int kh hi)) none w' K:=by
 refine Vals.cutLH h e d (by simpa using c) λv' a=>b v' ?_;unfold Ints;rw[GG,p4];exact a
theorem blk_from {b n lo:Nat} {kl:IntKind} (a:elB t 1=true) (d:lo<=n):
  xy t (.slice (some ⟨b,0,none⟩) n n) (some (.int kl lo)) none none w K=K (.slice (some ⟨b,if n=lo then 0 else lo,none⟩) (n-lo) (n-lo)) w:=by
 obtain⟨hu,hs⟩:=Xe a;refine y9 ?_;rw[run_sliceAt_slice w t _ _ _ _ hu,run_slice_l w t _ _ _ hu kl lo oM oM,run_sizeOf hs];simp only[Result.andThen,sliced,gu];by_cases c:n=lo
 .simp[c]
 .simp[c,yw]
theorem blk_to {b n hi:Nat} {kl:IntKind} (a:elB t 1=true) (c:hi<=n):
  xy t (.slice (some ⟨b,0,none⟩) n n) none (some (.int kl hi)) none w K=K (.slice (some ⟨b,0,none⟩) hi n) w:=by
 obtain⟨hu,hs⟩:=Xe a;refine y9 ?_;rw[run_sliceAt_slice w t _ _ _ _ hu,run_slice_h w t _ _ _ hu kl hi oM oM,run_sizeOf hs];simp[Result.andThen,sliced,yw]
theorem xy0 {e n:Nat} (h:qr e n=true):(P.info? e).map (·.size)=some n:=by
 unfold qr at h;cases hi:P.info? e with
 |none=>rw[hi] at h;cases h
 |some i=>rw[hi] at h;simp[gB h]
theorem vcopy {t2 ty te:TypeId} {g off dLen dCap sLen sCap:Nat} {ad:Addr} {cur cs:List Value} (n:elB t 1=true) (c:Blk w g cur te) (l:cs.length=min sLen dLen)
  (b:∀j u,cs[j]?=some u->w.cell? (ad.add j)=some u) (a:off+cs.length<=cur.length) (f:∀u∈cs,u.oneCell'=true)
  (h:∀w',Same (· =g) w w'->w'.heap.size=w.heap.size->Blk w' g (cur.take off++(cs++cur.drop (off+cs.length))) te->K (nI cs.length) w'):
  vbi .copy [t,t2] ty [.slice (some ⟨g,off,none⟩) dLen dCap,.slice (some ad) sLen sCap] w K:=by
 obtain⟨hu,hs⟩:=Xe n;have m:=run_copy_row (P:=P) w t t2 ty (P.elem t) g off dLen dCap ad sLen sCap ⟨cur⟩ te cs hu (xy0 hs) c l b (by simpa using a) f;refine⟨_,_,m,h _ ⟨rfl,rfl,rfl,by simp[World.setRow],λk o e=>setRow_other w g k _ e⟩ (by simp[World.setRow]) ?_⟩;have i:=c.lt;have d:w.heap[g]?=some (.cells ⟨cur⟩ te (0,0)):=c;unfold Blk World.setRow;simp only[G2];simp[d,gZ]
theorem xY0 {t2 ty:TypeId} {d a:Option Addr} {dLen dCap sLen sCap:Nat} (c:elB t 1=true) (b:min sLen dLen=0):vbi .copy [t,t2] ty [.slice d dLen dCap,.slice a sLen sCap] w K=K (nI 0) w:=by
 obtain⟨hu,hs⟩:=Xe c;exact y9 (run_copy_none (P:=P) w t t2 ty (P.elem t) d a dLen dCap sLen sCap hu (xy0 hs) b)
theorem vmkS_blk {bs n:Nat} {z:Value} {u v:IntKind} {e:TypeId} (y:elZ t 1 bs=true) (he:Yp t=e) (k:yl e z) (s:z.cells= #[z]) (l:bs*n<=281474976710656) (m:n<=9223372036854775807)
  (x:∀b w',b=w.heap.size->Blk w' b (List.replicate n z) e->Ext w w'->K (.slice (some ⟨b,0,none⟩) n n) w'):vmkS t (.int u n) (.int v n) w K:=by
 obtain⟨hu,i,f,hi,d,r,o,F⟩:=yE0 y;subst he;have:f=z:=by
  unfold yl at k;rw[hi] at k;simp only[d,Gr] at k;exact k
 subst this;subst o;obtain⟨w',D,a,q⟩:=run_make_full (P:=P) w 0 t (Yp t) i f 1 hu hi d r u v n l (by simpa[maxLen] using m) oM;refine⟨_,w',D,x _ w' rfl ?_ ((Same.of_grown q).mono λ_ _ h=>by cases h)⟩;have e:(madeCells f.cells (n*1)).toList=List.replicate n f:=by
  refine gM (by simp[madeCells]) λj G H=>?_;simp[madeCells,s,Nat.mod_one]
 rw[e] at a;rcases a.2 with⟨h,_⟩|⟨g,cap,cur,E,I,B,C,A,p,c⟩
 .cases h
 .cases E;unfold Blk;rw[B];have:cur.toList=List.replicate n f:=(by rw[<-c,gD (by rw[pD,p];exact gr _)]);rw[<-this]
theorem vappend_make {bs n:Nat} {ti ty:TypeId} {z:Value} {e:TypeId} (F:elZ t 1 bs=true) (he:Yp t=e) (p:yl e z) (A:z.cells= #[z]) (y:P.underlying ti=some (.int .i64)) (B:0<n) (D:n<=1000000) (C:n*bs<=140737488355328)
  (E:∀v' w',OwnV t w' v' (List.replicate n z)->Ext w w'->(∀b,v'.ownBlock=some b->w.heap.size<=b)->K v' w'):vbi .append [t,ti] ty [oN,nI n] w K:=by
 obtain⟨hu,i,o,hi,g,x,s,l⟩:=yE0 F;subst he;have:o=z:=by
  unfold yl at p;rw[hi] at p;simp only[g,Gr] at p;exact p
 subst this;subst s;have q:n*i.bytes<=281474976710656:=oM
 have c:n<=maxLen:=by simp only[maxLen];omega
 have I:n≠0:=oM
 have hw:IntKind.i64.wrap (n:Int)=n:=zk oM (by simp only[maxLen] at c;omega);have f: ¬(9223372036854775807<(n:Int)):=by simp only[maxLen] at c;omega
 have d: ¬(281474976710656<Builtin.nextslicecap n 0*i.bytes):=by rw[nextslicecap_zero B];omega
 have r: ¬((281474976710656:Int)<(n:Int)*i.bytes):=by
  have h:((n*i.bytes:Nat):Int)<=281474976710656:=oM;rw[Int.natCast_mul] at h;omega
 have J:(Builtin.append_ #[t,ti] ty #[oN,nI n]).run P w=
   .ok (.slice (some ⟨w.heap.size,0,none⟩) n (grownCap w n 0 (Yp t))) (w.drew.alloc (.cells (Builtin.zeroCells o.cells n++Builtin.zeroCells o.cells (grownCap w n 0 (Yp t)-n)) (Yp t))):=by
  simp[Builtin.append_,run_underlying hu,run_underlying y,sizeOf,typeInfo,zeroValue,hi,g,x,I,hw,f,d,r,asInt,asIntOf,Question.forced,run_firstCells_none,newRow,grownCap];intro h;omega
 have v:=grownCap_ge w n 0 (Yp t);have u:grownCap w n 0 (Yp t)<=maxLen:=grownCap_le_maxLen w n 0 (Yp t) c;have a:∀m,(Builtin.zeroCells o.cells m).toList=List.replicate m o:=λm=>by
  refine gM (by simp[Builtin.zeroCells,l]) λj L M=>?_;simp[Builtin.zeroCells,A,Nat.mod_one]
 refine⟨_,_,J,E _ _ ⟨⟨by simp,.inr ⟨w.heap.size,_,_,by simp,Gf _,heap_alloc_new w.drew _,by simpa using v,u,?_,?_⟩⟩,by simp⟩ ⟨rfl,rfl,rfl,by simp,λk H _=>heap_alloc_old w.drew _ H⟩ λb G=>by cases G;exact gr _⟩
 .simp only[Array.size_append,size_zeroCells,l];omega
 .rw[PA,a,a,flat1];simp
end
section
open Go.MapKept
theorem qV0 {w:World} {K:oK} {t e:TypeId} {d:TypeDesc} {b:Nat} {f:List (Value×Value)} {k x:Value} (I:Z20 t d e) (h:MapF d w b f) (q:IsKey d k)
  (E:∀w' C,MapF d w' b C->(∀p,p∈C->p=(k,x)\/p∈f)->Same (· =b) w w'->w'.heap.size=w.heap.size->K undef w'):zC0 t (.map (some b)) k x w K:=by
 obtain⟨kt,hm,u⟩:=I;obtain⟨es,cl,g,s,o,rfl⟩:=h;rcases findNow_spec q es.toList 0 o with⟨v,A⟩|⟨j,e,v,A,D⟩
 .refine⟨(),{w with heap:=w.heap.setIfInBounds b (.map (es.push {key:=k,val:=x,born:=cl}) (cl+1))},?_,E _ _ ⟨_,_,(heap_set g).1,stamped_push s A,λy a=>?_,rfl⟩ (λp m=>?_) (jU g) (by simp)⟩
  .simp[Instr.mapUpdate,run_underlying hm,MapKept.run_getObj_map g,run_checkKey u q,run_findKey u v,run_setObj_map _ g,Result.andThen]
  .rw[PQ] at a;rcases gl.1 a with a|a
   .exact o y a
   .rw[gx.1 a];exact q
  .rw[PQ,gE] at m;rcases gl.1 m with m|m
   .exact .inr m
   .exact .inl (by simpa using m)
 .have r:es[j]?=some e:=(by simpa using A);have J:∀y∈es.toList,es[0+j]?=some y->({y with key:=k,val:=x}:MapEntry).key=y.key:=λy _ a=>by
   rw[Gi,r] at a;cases a;exact D.symm
  have l:∀y∈(es.modify (0+j) λy=>{y with key:=k,val:=x}).toList,(y.key=k/\y.val=x)\/y∈es.toList:=λy a=>by
   obtain⟨i,hi,G⟩:=gq a;have c:(es.modify (0+j) λy=>{y with key:=k,val:=x})[i]?=some y:=by
    rw[<-gV,gd hi,G]
   rw[G2] at c;split at c
   .cases F:es[i]? with
    |none=>rw[F] at c;cases c
    |some z=>rw[F] at c;simp only[Option.map_some,Gr] at c;left;rw[<-c];exact⟨rfl,rfl⟩
   .right;rw[<-gV] at c;exact G9 c
  refine⟨(),{w with heap:=w.heap.setIfInBounds b (.map (es.modify (0+j) λy=>{y with key:=k,val:=x}) cl)},?_,E _ _ ⟨_,_,(heap_set g).1,stamped_modify s _ _ (λ_ _=>rfl) J,λy a=>?_,rfl⟩ (λp m=>?_) (jU g) (by simp)⟩
  .have B:((es[0+j]?).map (·.key)).getD k=k:=by rw[Gi,r];exact D
   simp only[Instr.mapUpdate,Sem.run_bind,run_underlying hm,MapKept.run_getObj_map g,run_checkKey u q,run_findKey u v,Result.andThen,B,run_keyThatStays q,run_setObj_map _ g]
  .rcases l y a with⟨n,_⟩|n
   .rw[n];exact q
   .exact o y n
  .obtain⟨y,a,rfl⟩:=gy.1 m;rcases l y a with⟨n,H⟩|n
   .exact .inl (by rw[n,H])
   .exact .inr (gy.2 ⟨y,n,rfl⟩)
end
end Go.Vc
end
namespace Go.Proofs.YtfnpmncplaibiaaGreatDoor
open Go Go.Vc Go.Proofs
section
variable {w:World} {K:oK} {F F' Fx X:oA} {n bb:Nat} {v:Value} {ar ab:Addr} {st:Option M.Gs}
def SmL (xs:oI):Prop:=∀x,x∈xs->Sm x
theorem SmL.get {xs:oI} (h:SmL xs) {i:Nat} (hi:i<xs.length):Sm (xs.getD i 0):=h _ (M.getD_mem hi 0)
theorem SmL.app {xs ys:oI} (h:SmL xs) (a:SmL ys):SmL (xs++ys):=λx b=>(gl.1 b).elim (h x) (a x)
theorem SmL.one {x:Int} (h:Sm x):SmL [x]:=λy a=>by rw[gx.1 a];exact h
theorem SmL.nil:SmL []:=λx a=>by cases a
theorem yY {xs:oI} {i:Nat} (hi:i<xs.length):xs.drop i=xs.getD i 0::xs.drop (i+1):=by
 rw[PO hi,y4,gd hi];rfl
theorem j90 {i:Nat} {xs ys:oI} {c:Int} (h:xs.length<=i):M.sumB (xs.drop i) ys c= .ret []:=by
 rw[Gj h];cases ys<;>rfl
theorem bsum_spec {xv yv:Value} {xs ys:oI} {c:Int} (h:BdR n bb ar ab X F w st) (hx:Ints (Off X F) w xv xs) (hy:Ints (Off X F) w yv ys) (hl:xs.length<=ys.length) (h8:xs.length<=1000) (L:SmL xs) (Q:SmL ys) (hc:Sm c)
  (hK:∀w' F' st' r zs,BdR n bb ar ab X F' w' st'->Mv F w F' w'->NewI X w F' w' r zs->SmL zs->M.Bd.Out n (M.sumB xs ys c) st st' zs->K r w'):
  vcall kS #[oP bb 0,xv,yv,nI c] w K:=by
 refine ze {loops:=[(3,[3,9,16])]} Tryz.func250 ?_;simp(disch:=exact oS) only[push_cast,hx.len];refine vloop_up xs.length (λi u w'=> ∃v a r zs c1,u=[nI c1,r,nI i]/\BdR n bb ar ab X v w' a/\Mv F w v w'/\NewI X w v w' r zs/\SmL zs/\zs.length=i/\Sm c1/\
  ∀st2 rs,M.Bd.Out n (M.sumB (xs.drop i) (ys.drop i) c1) a st2 rs->M.Bd.Out n (M.sumB xs ys c) st st2 (zs++rs)) ⟨F,st,_,[],c,rfl,h,Mv.refl,NewI.nil,SmL.nil,rfl,hc,λ_ _ h=>h⟩ ?_
 rintro i _ g w1 C hi ⟨v,a,r,zs,c1,rfl,h1,y,G,R,a8,x,f⟩ hC;refine oZ ?_;refine zb (λad=>?_) (λac=>?_)
 .have e:i<xs.length:=oM;refine zd λw2 j _=>?_;have h2:=h1.ext j;have m:=y.ext j;have I:=Ints.mv hx m;have N:=Ints.mv hy m;simp(disch:=exact oS) only[push_cast,I.iaddr,I.load,N.iaddr,N.load,k5];refine Yt h2 (L.get e) (Q.get oM) λw3 F3 af d h3 A hd a3=>?_;refine Yt h3 hd x λw4 U a9 s h4 B hs a4=>?_;refine zB yD y7 yi rfl rfl λb5 w5 aa k ae W=>?_;have D:=(m.trans (A.trans B)).ext k;have h5:=h4.ext k;have t:NewI X w U w5 r zs:=(G.mv ((Mv.refl.ext j).trans (A.trans B))).mv (Mv.refl.ext k);refine t.app1 W D.same.size h5.lt oM λr6 w6 a7 H=>?_;have h6:BdR n bb ar ab X U w6 a9:=h5.upd h.err H λb Y=>t.off b Y;have a0:Mv F w U w6:=D.to H λb Y=> .inr (t.off b Y).1;refine zd λw7 l _=>?_;have h7:=h6.ext l;have o:=a0.ext l;have J:=Ints.mv hx o;have O:=Ints.mv hy o;simp(disch:=exact oS) only[push_cast,J.iaddr,J.load,O.iaddr,O.load,k5];refine qU h7 (L.get e) (Q.get oM) λw8 F8 ag p h8 a1 hp a5=>?_;refine qU h8 hd x λw9 F9 ah q h9 a2 hq a6=>?_;refine bor_spec h9 hp hq λw10 T S c2 V z Z E=>?_;simp(disch:=omega) only[push_cast,zk];have hm:=a1.trans (a2.trans z);refine hC e _ _ ⟨T,S,r6,zs++[s],c2,by simp<;>exact⟨rfl,rfl⟩,V,o.trans hm,(a7.mv (Mv.refl.ext l)).mv hm,R.app (SmL.one hs),by simp[a8],Z,λst2 rs ho=>?_⟩;have:=f st2 (s::rs) ?_
  .simpa using this
  rw[yY e,yY (show i<ys.length by omega)];exact kM a3 (kM a4 (xI a5 (xI a6 (M.Bd.Out.bind E (M.Bd.Out.map _ ho)))))
 .have:=f a [] (by rw[j90 oM];exact M.Bd.Out.ret _ _);rw[gK] at this;exact hK w1 v a r zs h1 y G R this
theorem xI0 {i:Nat} {xs ys:oI} {r:Int} (h:xs.length<=i):M.lessB (xs.drop i) ys r= .ret r:=by
 rw[Gj h];cases ys<;>rfl
theorem bless_spec {xv yv:Value} {xs ys:oI} (h:BdR n bb ar ab X F w st) (E:Ints (Off X F) w xv xs) (T:Ints (Off X F) w yv ys) (Y:xs.length<=ys.length) (W:xs.length<=1000) (A:SmL xs) (t:SmL ys)
  (N:∀w' F' st' r,BdR n bb ar ab X F' w' st'->Mv F w F' w'->Sm r->M.Bd.Out n (M.lessB xs ys (-1)) st st' r->K (nI r) w'):
  vcall Xw #[oP bb 0,xv,yv] w K:=by
 refine ze {loops:=[(3,[7,12])]} Tryz.func259 ?_;simp(disch:=exact oS) only[push_cast,E.len];refine vloop_up xs.length (λi u w'=> ∃v a r,u=[nI r,nI i]/\BdR n bb ar ab X v w' a/\Mv F w v w'/\Sm r/\
  ∀st2 q,M.Bd.Out n (M.lessB (xs.drop i) (ys.drop i) r) a st2 q->M.Bd.Out n (M.lessB xs ys (-1)) st st2 q) ⟨F,st,-1,rfl,h,Mv.refl,dC,λ_ _ h=>h⟩ ?_
 rintro i _ g w1 C hi ⟨v,a,r,rfl,D,k,m,b⟩ L;refine oZ ?_;refine zb (λR=>?_) (λQ=>?_)
 .have c:i<xs.length:=oM;refine zd λw2 j _=>?_;have H:=D.ext j;have e:=k.ext j;have o:=Ints.mv E e;have f:=Ints.mv T e;simp(disch:=exact oS) only[push_cast,o.iaddr,o.load,f.iaddr,f.load,k5];refine Yt H (A.get c) (t.get oM) λZ V U d I l O y=>?_;have p:=Ints.mv f l;simp(disch:=exact oS) only[push_cast,p.iaddr,p.load,k5];refine bmux_spec I O (t.get oM) m λw4 G B s J x hs z=>?_;simp(disch:=omega) only[push_cast,zk];refine L c _ _ ⟨G,B,s,by simp<;>exact⟨rfl,rfl⟩,J,e.trans (l.trans x),hs,λst2 q S=>b st2 q ?_⟩;rw[yY c,yY (show i<ys.length by omega)];exact kM y (M.Bd.Out.bind z S)
 .exact N w1 v a r D k m (b a r (by rw[xI0 oM];exact M.Bd.Out.ret _ _))
theorem xz0 {i:Nat} {xs ys:oI} {r:Int} (h:xs.length<=i):M.sameB (xs.drop i) ys r= .ret r:=by
 rw[Gj h];cases ys<;>rfl
theorem bsame_spec {xv yv:Value} {xs ys:oI} (h:BdR n bb ar ab X F w st) (D:Ints (Off X F) w xv xs) (R:Ints (Off X F) w yv ys) (W:xs.length<=ys.length) (U:xs.length<=1000) (y:SmL xs) (z:SmL ys)
  (L:∀w' F' st' r,BdR n bb ar ab X F' w' st'->Mv F w F' w'->Sm r->M.Bd.Out n (M.sameB xs ys 1) st st' r->K (nI r) w'):
  vcall Xt #[oP bb 0,xv,yv] w K:=by
 refine ze {loops:=[(3,[7,12])]} Tryz.func258 ?_;simp(disch:=exact oS) only[push_cast,D.len];refine vloop_up xs.length (λi u w'=> ∃o a r,u=[nI r,nI i]/\BdR n bb ar ab X o w' a/\Mv F w o w'/\Sm r/\
  ∀st2 q,M.Bd.Out n (M.sameB (xs.drop i) (ys.drop i) r) a st2 q->M.Bd.Out n (M.sameB xs ys 1) st st2 q) ⟨F,st,1,rfl,h,Mv.refl,dC,λ_ _ h=>h⟩ ?_
 rintro i _ g w1 C hi ⟨o,a,r,rfl,B,j,k,b⟩ J;refine oZ ?_;refine zb (λO=>?_) (λN=>?_)
 .have c:i<xs.length:=oM;refine zd λw2 f _=>?_;have G:=B.ext f;have e:=j.ext f;have l:=Ints.mv D e;have m:=Ints.mv R e;simp(disch:=exact oS) only[push_cast,l.iaddr,l.load,m.iaddr,m.load,k5];refine Yt G (y.get c) (z.get oM) λY T S d H p V v=>?_;simp(disch:=omega) only[push_cast,zk,Ga];refine qU H k (by unfold Sm at*;omega) λZ E A s I t hs x=>?_
  try simp(disch:=omega) only[push_cast,zk]
  refine J c _ _ ⟨E,A,s,by simp<;>exact⟨rfl,rfl⟩,I,e.trans (p.trans t),hs,λst2 q Q=>b st2 q ?_⟩;rw[yY c,yY (show i<ys.length by omega)];exact kM v (xI x Q)
 .exact L w1 o a r B j k (b a r (by rw[xz0 oM];exact M.Bd.Out.ret _ _))
theorem Clone_signal {xv:Value} {xs:oI} (d:Ints Fx w xv xs) (v:xs.length<=1000000) (l:∀w' v',Ext w w'->OwnI zf w' v' xs->(∀x,v'.ownBlock=some x->w.heap.size<=x)->K v' w'):
  vcall qj #[xv] w K:=by
 refine ze {} Tryz.func199 ?_;obtain⟨a,c,rfl,r,s,f⟩:=d.shape;simp only[K3] at d r⊢;rw[QG yX];refine zm (λm=>?_) (λm=>?_)
 .cases a with
  |some a=>cases m
  |none=>
   have k:xs=[]:=by
    have n:(List.map (λx=>[x]) (List.map (λx=>Value.int IntKind.i64 x) xs))=[]:=Gy λh=>by
     obtain⟨b,o,p,_⟩:=f h;cases p
    simpa using n
   subst k;exact l w _ (Same.refl _ _) OwnI.nil λx d=>by cases d
 .refine yc yD y7 λb w1 z he A q=>?_;have g:OwnI zf w1 (.slice (some ⟨b,0,none⟩) 0 0) []:=Blk.own1 (t:=zf) (cs:=[]) (by rw[yQ];exact q) (Gf _) rfl rfl oM;have j:Ints Fx w1 (.slice a xs.length c) xs:=d.ext he;refine g.app yF j (by simp;omega) (by simp;omega) λv' w2 u hs i=>?_;have y:=he.size;refine l w2 v' (Ext.then he hs λx d=>by have e:b=x:=V1 d;omega) u λx d=>?_;rcases i x d with h|h
  .have e:b=x:=V1 h;omega
  .omega
end
section
variable {w:World} {K:oK} {F F' Fx X:oA} {n bb:Nat} {v:Value} {ar ab:Addr} {st:Option M.Gs}
def YG0 (n bb:Nat) (ar ab:Addr) (X F:oA) (w:World) (f:Value) (p:Int->Int->M.Bd Int):Prop:=
 ∀(w1:World) (F1:oA) (st1:Option M.Gs) (x y:Int) (K:oK),BdR n bb ar ab X F1 w1 st1->Mv F w F1 w1->Sm x->Sm y->
  (∀w' F' st' r,BdR n bb ar ab X F' w' st'->Mv F1 w1 F' w'->Sm r->M.Bd.Out n (p x y) st1 st' r->K (nI r) w')->vcallv f #[nI x,nI y] w1 K
theorem YD {p:Int->Int->M.Bd Int} {i:Nat} {xs ys:oI} (h:xs.length<=i):M.eachB p (xs.drop i) ys= .ret []:=by
 rw[Gj h];cases ys<;>rfl
theorem each_spec {p:Int->Int->M.Bd Int} {xv yv f:Value} {xs ys:oI} (h:BdR n bb ar ab X F w st) (S:Ints (Off X F) w xv xs) (hy:Ints (Off X F) w yv ys) (hl:xs.length<=ys.length) (h8:xs.length<=1000) (L:SmL xs) (N:SmL ys)
  (hf:YG0 n bb ar ab X F w f p)
  (Z:∀w' F' st' r zs,BdR n bb ar ab X F' w' st'->Mv F w F' w'->NewI X w F' w' r zs->SmL zs->M.Bd.Out n (M.eachB p xs ys) st st' zs->K r w'):
  vcall xe0 #[xv,yv,f] w K:=by
 refine ze {loops:=[(3,[7,11])]} Tryz.func246 ?_;simp(disch:=exact oS) only[push_cast,S.len];refine vloop_up xs.length (λi u w'=> ∃m a r zs,u=[r,nI i]/\BdR n bb ar ab X m w' a/\Mv F w m w'/\NewI X w m w' r zs/\SmL zs/\zs.length=i/\
  ∀st2 rs,M.Bd.Out n (M.eachB p (xs.drop i) (ys.drop i)) a st2 rs->M.Bd.Out n (M.eachB p xs ys) st st2 (zs++rs)) ⟨F,st,_,[],rfl,h,Mv.refl,NewI.nil,SmL.nil,rfl,λ_ _ h=>h⟩ ?_
 rintro i _ g w1 C hi ⟨m,a,r,zs,rfl,Q,o,v,A,O,d⟩ Y;refine oZ ?_;refine zb (λa2=>?_) (λa1=>?_)
 .have k:i<xs.length:=oM;refine zd λw2 e _=>?_;have U:=Q.ext e;have c:=o.ext e;have y:=Ints.mv S c;have z:=Ints.mv hy c;simp(disch:=exact oS) only[push_cast,y.iaddr,y.load,z.iaddr,z.load,k5];refine hf w2 m a _ _ _ U c (L.get k) (N.get oM) λw4 D B s V q hs I=>?_;refine zB yD y7 yi rfl rfl λb5 w5 a0 j a3 E=>?_;have t:=(c.trans q).ext j;have R:=V.ext j;have l:NewI X w D w5 r zs:=(v.mv ((Mv.refl.ext e).trans q)).mv (Mv.refl.ext j);refine l.app1 E t.same.size R.lt oM λr6 T J x=>?_;have W:BdR n bb ar ab X D T B:=R.upd h.err x λb G=>l.off b G;have H:Mv F w D T:=t.to x λb G=> .inr (l.off b G).1;simp(disch:=omega) only[push_cast,zk];refine Y k _ _ ⟨D,B,r6,zs++[s],by simp<;>exact⟨rfl,rfl⟩,W,H,J,A.app (SmL.one hs),by simp[O],λst2 rs ho=>?_⟩;have:=d st2 (s::rs) ?_
  .simpa using this
  rw[yY k,yY (show i<ys.length by omega)];exact M.Bd.Out.bind I (M.Bd.Out.map _ ho)
 .have:=d a [] (by rw[YD oM];exact M.Bd.Out.ret _ _);rw[gK] at this;exact Z w1 m a r zs Q o v A this
theorem negated_spec {xv:Value} {xs:oI} (n:Ints Fx w xv xs) (G:xs.length<=1000) (s:SmL xs)
  (v:∀w' r,Ext w w'->OwnI zf w' r (M.negL xs)->(∀b,r.ownBlock=some b->w.heap.size<=b)->K r w'):vcall VS #[xv] w K:=by
 refine ze {} Tryz.func249 ?_;refine ze {loops:=[(3,[7,11])]} Tryz.func246 ?_;simp(disch:=exact oS) only[push_cast,n.len];refine vloop_up xs.length (λi u w'=> ∃r,u=[r,nI i]/\Ext w w'/\OwnI zf w' r (M.negL (xs.take i))/\∀b,r.ownBlock=some b->w.heap.size<=b) ⟨_,rfl,Same.refl _ _,OwnI.nil,λb m=>by cases m⟩ ?_;rintro i _ g w1 C hi ⟨r,rfl,a,f,e⟩ t;refine oZ ?_;refine zb (λA=>?_) (λz=>?_)
 .have d:i<xs.length:=oM;refine zd λw2 c _=>?_;have l:=n.ext (a.trans c);simp(disch:=exact oS) only[push_cast,l.iaddr,l.load,k5];refine JU ?_;unfold ZI;have m:=s.get d;simp(disch:=omega) only[push_cast,zk,Ga];refine zB yD y7 yi rfl rfl λF H y j D o=>?_;have he:=a.trans (c.trans j);have B:=he.size;refine(f.ext (c.trans j)).app1 yF o (by simp[M.negL];omega) (by simp[M.negL];omega) λE I k q p=>?_
  try simp(disch:=omega) only[push_cast,zk]
  refine t d _ _ ⟨E,by simp<;>exact⟨rfl,rfl⟩,Ext.then he q λx n=>e x n,?_,λb m=>(p b m).elim (e b) λh=>oM⟩;rw[M.take_add d 0];unfold M.negL at k⊢;rw[gE];exact k
 .rw[gD oM] at f;exact v w1 r a f e
theorem NewI.of {w':World} {r:Value} {zs:oI} (h:OwnI zf w' r zs) (d:∀b,r.ownBlock=some b->w.heap.size<=b) (hF:∀b,F b\/X b->b<w.heap.size):NewI X w F w' r zs:=
 ⟨h,λb a=>⟨d b a,λc=>by have:=d b a;have:=hF b (.inl c);omega⟩,λb a c=>by have:=d b a;have:=hF b (.inr c);omega⟩
theorem SmL.neg {xs:oI} (h:SmL xs):SmL (M.negL xs):=λx a=>by
 obtain⟨y,b,rfl⟩:=gy.1 a;have:=h y b;unfold Sm at*;omega
theorem SmL.offs (m:Nat):SmL (M.offsL m):=λx a=>by rw[G8 a];decide
end
section
variable {w:World} {K:oK} {F X:oA} {n:Nat} {v:Value}
theorem WP {t ty:TypeId} {a:Option Addr} {l c:Nat} (b:isSl t=true):vbi .len [t] ty [.slice a l c] w K=K (nI l) w:=by
 obtain⟨e,he⟩:=UP b;exact y9 (by simp[biSem,Builtin.len_,xB he,goInt])
theorem Yg0 {x:Value}:sl 0 [x]=x:=rfl
theorem u_and {m:Nat} (hm:m<4294967296) {c:Bool}:qu .and Kb c (.int .u64 m) (.int .u64 4294967295) w K=K (.int .u64 m) w:=by
 have h:=ZT (w:=w) (K:=K) (c:=c) (t:=Kb) (a:=m) (b:=4294967295) oM dC;have e:m&&&4294967295=m:=by
  have:=Pr m 32;rw[show 2^32-1=4294967295 from rfl] at this;rw[this];exact Gz hm
 rw[e] at h;exact h
theorem u_shr {m:Nat} (hm:m<4294967296) {c:Bool}:qu .shr Kb c (.int .u64 m) (.int .u64 32) w K=K (.int .u64 0) w:=by
 have h:=xp0 (w:=w) (K:=K) (c:=c) (t:=Kb) (k:= .u64) (yk:= .u64) (x:=m) (y:=32) dC;have e:(m:Int)/2^min (32:Int).toNat IntKind.u64.bits=0:=by
  rw[show(2:Int)^min (32:Int).toNat IntKind.u64.bits=4294967296 from rfl];omega
 rw[e] at h;exact h
theorem wrapU' {x:Int} (a:0<=x) (h:x<18446744073709551616):IntKind.u64.wrap x=x:=by
 have:=wrapU (n:=x.toNat) oM;rwa[show((x.toNat:Nat):Int)=x by omega] at this
theorem Mul_one {m:Nat} (hm:m<=1000) (d:K (.tuple #[.int .u64 0,.int .u64 m]) w):vcall KE #[.int .u64 1,.int .u64 m] w K:=by
 refine ze {} Tryz.func285 ?_;refine ze {} Tryz.func313 ?_;have a:=λ(K:oK)=>u_and (w:=w) (K:=K) (m:=1) dC (c:=true);have a2:=λ(K:oK)=>u_shr (w:=w) (K:=K) (m:=1) dC (c:=true);have a3:=λ(K:oK)=>u_and (w:=w) (K:=K) (m:=m) oM (c:=true);have a4:=λ(K:oK)=>u_shr (w:=w) (K:=K) (m:=m) oM (c:=true);have a5:=λ(K:oK)=>u_and (w:=w) (K:=K) (m:=0) oM (c:=true);have b:=λ(K:oK)=>u_shr (w:=w) (K:=K) (m:=0) oM (c:=true);simp only[Int.cast_ofNat_Int] at a a2 a5 b;simp(disch:=omega) only[a,a2,a3,a4,a5,b,push_cast,wrapU',Int.one_mul,Int.zero_mul,Int.mul_zero,Int.zero_add,Int.add_zero];exact d
theorem kV0 {m k:Nat} {a:Value} {r:List Value} (h:k<=m):(List.replicate m a++r).take k=List.replicate k a:=by
 rw[GJ (by rw[gI];exact h),List.take_replicate,GL h]
theorem kW0 {m k j:Nat} {a:Value} {r:List Value} (h:j=m+k):(List.replicate m a++r).drop j=r.drop k:=by
 subst h;rw[<-z0d,List.drop_left' (by rw[gI])]
theorem Repeat_signal {x:Value} {m:Nat} {y:Nat} {e0:TypeId} (Z:Blk w y [nI (-1)] e0) (hm:m<=1000) (hK:∀w' r,Ext w w'->OwnI zf w' r (M.offsL m)->(∀b,r.ownBlock=some b->w.heap.size<=b)->K r w'):
  vcall qb #[.slice (some ⟨y,0,none⟩) 1 1,nI m] w K:=by
 refine ze {loops:=[(8,[8])],cuts:=[(8195,[]),(20486,[])]} Tryz.func244 ?_;refine zp (λu w'=>w'=w) ?_ ?_
 .intro J B;refine oZ ?_;refine zb (λh=>?_) (λh=>B _ _ rfl);omega
 rintro _ _ w' hw;rw[hw];have V:∀K:oK,vbi .len [zf] zE [.slice (some ⟨y,0,none⟩) 1 1] w K=K (nI (1:Nat)) w:=λK=>WP yX;have c1:∀K:oK,yS0 zE yN0 (nI (1:Nat)) w K=K (.int .u64 (1:Nat)) w:=λK=>by
  rw[qI Wz jE0,wrapU dC]
 have c2:∀K:oK,yS0 zE yN0 (nI m) w K=K (.int .u64 m) w:=λK=>by
  rw[qI Wz jE0,wrapU oM]
 have c3:∀K:oK,yS0 yN0 zE (.int .u64 m) w K=K (nI m) w:=λK=>by
  rw[qI Yf0 Qo,wrapN oM]
 rw[V,c1,c2];refine Mul_one hm ?_;refine oZ ?_;refine zp (λu w'=>w'=w) ?_ ?_
 .intro J B;refine zb (λh=>?_) (λh=>?_)
  .omega
  refine zb (λh=>?_) (λh=>B _ _ rfl);omega
 rintro _ _ w' hw;rw[hw];rw[c3];refine vmkS_blk (bs:=8) yF yQ yi rfl oM oM λb w1 hb z q=>?_;have a2:y≠b:=by have:=Z.lt;omega
 have step:∀(k:Nat) (w2:World) (J:oK),0<m->k<m->Ext w w2->Blk w2 b (List.replicate k (nI (-1))++List.replicate (m-k) (nI 0)) yy->∀(src:Addr) (sc sl:Nat) (ds:Nat),
   (∀j u,(List.replicate (min sl (m-k)) (nI (-1)))[j]?=some u->w2.cell? (src.add j)=some u)->
   (∀v,Ext w v->Blk v b (List.replicate (k+min sl (m-k)) (nI (-1))++List.replicate (m-(k+min sl (m-k))) (nI 0)) yy->J (nI (min sl (m-k):Nat)) v)->
   vbi .copy [zf,zf] zE [.slice (some ⟨b,k,none⟩) (m-k) ds,.slice (some src) sl sc] w2 J:=by
  intro k w2 J X hk f d src sc sl ds G B;refine vcopy (cs:=List.replicate (min sl (m-k)) (nI (-1))) yN d (by rw[gI]) G (by simp only[gI,Q1];omega) (λu hu=>by rw[G8 hu];rfl) λv W a3 i=>?_;rw[gI];refine B v (Ext.then f W λx hx=>oM) ?_;rw[kV0 (gr _),kW0 (m:=k) (k:=min sl (m-k)) (by rw[gI]),List.drop_replicate,<-gZ,List.replicate_append_replicate] at i;rw[show m-(k+min sl (m-k))=m-k-min sl (m-k) by omega];exact i
 have fin:∀(w2:World) (u:Value),Ext w w2->Blk w2 b (List.replicate m (nI (-1))) yy->K (.slice (some ⟨b,0,none⟩) m m) w2:=λw2 _ f d=>by
  refine hK w2 _ f ?_ λx hx=>by have e:b=x:=V1 hx;omega
  have:=Blk.own1 (t:=zf) (base:=0) (n:=m) (c:=m) (cs:=List.replicate m (nI (-1))) (by rw[yQ];exact d) (Gf _) (by rw[gI]) (by rw[gI]) oM;unfold OwnI OwnV M.offsL;rw[GO];exact this
 have loop:∀(k:Nat) (w2:World),Ext w w2->Blk w2 b (List.replicate k (nI (-1))++List.replicate (m-k) (nI 0)) yy->k<=m->(1<=k\/m=0)->
   WO [nI k] w2 λC o _ H=>
    vbi .len [zf] zE [.slice (some ⟨b,0,none⟩) m m] H λt36 I=>
    qu .lss zE false (sl 0 o) t36 I λt37 p=>
    vif t37 (
     ZK p λa=>
     xy zf (.slice (some ⟨b,0,none⟩) m m) (some (sl 0 o)) none none a λt41 L=>L=a/\
     xy zf (.slice (some ⟨b,0,none⟩) m m) none (some (sl 0 o)) none a λt44 N=>N=a/\
     vbi .copy [zf,zf] zE [t41,t44] a λt45 l=>
     qu .add zE false (sl 0 o) t45 l λt46 O=>O=l/\
     C [t46] l) (
     K (.slice (some ⟨b,0,none⟩) m m) p):=by
  intro k0 w2 f d U Y;refine ji (λr u w'=> ∃k:Nat,u=[nI k]/\r=m-k/\k<=m/\(1<=k\/m=0)/\Ext w w'/\Blk w' b (List.replicate k (nI (-1))++List.replicate (m-k) (nI 0)) yy) (m-k0) ⟨k0,rfl,rfl,U,Y,f,d⟩ ?_;rintro r _ g v C ⟨k,rfl,rfl,hk,Y,D,i⟩ hC;rw[WP yX];refine oZ ?_;refine zb (λa1=>?_) (λa0=>?_)
  .have F:k<m:=oM;refine zd λw4 E _=>?_;have A:=i.ext E;simp only[Yg0,blk_from yN (show k<=m by omega),blk_to yN (show k<=m by omega),k5];rw[y3 oM];refine step k w4 _ oM F (D.trans E) A ⟨b,0,none⟩ m k _ (λj u s=>?_) λw5 R Q=>?_
   .have T:j<min k (m-k):=by have:=(Gx.1 s).1;rwa[gI] at this
    rw[yw];refine A.cell ?_;rw[Gi,Gb (by rw[gI];omega)];rw[PW,X0 oM] at s⊢;exact s
   .simp(disch:=omega) only[push_cast,zk,k5];exact hC (m-(k+min k (m-k))) _ _ oM ⟨k+min k (m-k),by simp<;>rfl,rfl,oM,oM,R,Q⟩
  .have:k=m:=oM;subst this;rw[GW,p0,gK] at i;exact fin v undef D i
 by_cases X:m=0
 .subst X;rw[xY0 yN rfl];exact loop 0 w1 q z (gr _) (.inr rfl)
 .refine step 0 w1 _ oM oM q (by simpa using z) ⟨y,0,none⟩ 1 1 m (λj u s=>?_) λw2 f d=>?_
  .have T:j<min 1 (m-0):=by have:=(Gx.1 s).1;rwa[gI] at this
   have S:j=0:=oM;subst S;rw[PW,X0 oM] at s;rw[yw];exact(Z.ext q).cell s
  .exact loop _ w2 f (by simpa using d) oM (.inl oM)
theorem offs_spec {m:Nat} (hm:m<=1000) (e:∀w' r,Ext w w'->OwnI zf w' r (M.offsL m)->(∀b,r.ownBlock=some b->w.heap.size<=b)->K r w'):vcall KH #[nI m] w K:=by
 refine ze {} Tryz.func196 ?_;refine zB yD y7 yi rfl rfl λb w1 j a i c=>?_;have:=a.size;exact Repeat_signal (x:=undef) c hm λw2 r d g f=>e w2 r (a.trans d) g λx h=>by have:=f x h;omega
end
section
variable {w:World} {K:oK} {F F' X:oA} {n bc bb:Nat} {gs:M.Gs} {v:Value} {ar ab:Addr} {st:Option M.Gs}
theorem choose_spec {c:Int} {xv yv:Value} {xs ys:oI} (h:BdR n bb ar ab X F w st) (t:∃gs,st=some gs) (Q:Ints (Off X F) w xv xs) (R:Ints (Off X F) w yv ys) (hl:xs.length=ys.length) (I:xs.length<=1000) (A:SmL xs) (C:SmL ys) (O:Sm c)
  (J:∀w' F' st' r zs,BdR n bb ar ab X F' w' st'->Mv F w F' w'->Ints (Off X F') w' r zs->SmL zs->M.Bd.Out n (M.eachB (M.muxB c) xs ys) st st' zs->K r w'):
  vcall Y8 #[oP bb 0,nI c,xv,yv] w K:=by
 refine ze {} Tryz.func200 ?_;obtain⟨gs,rfl⟩:=t;refine yj λb1 w1 L q S d=>?_;replace d:Blk w1 b1 [oP bb 0] yJ:=d;refine yj λb2 w2 N f T e=>?_;replace e:Blk w2 b2 [nI c] yy:=e;have a:=d.ext f;have k:=q.trans f;have l:=h.ext k;have g:Ints (Off X F) w2 xv xs:=Q.ext k;have i:Ints (Off X F) w2 yv ys:=R.ext k;obtain⟨bc,G,hC⟩:=l.blk;simp only at G;simp(disch:=exact oS) only[push_cast,a.ld0,g.len,i.len,zZ xg l.err.bits.cell];rw[gm oM];refine Vg ?_;simp(disch:=exact oS) only[push_cast,a.ld0,G.ld1,Xn];refine each_spec (p:=M.muxB c) l g i oM I A C ?_ λH E j r zs m b v D u=>J H E j r zs m ?_ v.ints D u
 .intro H E j x y Z m b z B o;have W: ¬F b1:=λs=>by have:=h.lt _ (.inl s);omega
  have Y: ¬F b2:=λs=>by have:=h.lt _ (.inl s);omega
  have U:=a.same b.same W;have V:=e.same b.same Y;refine ZA ?_;unfold qW;simp(disch:=exact oS) only[push_cast,U.ld0,V.ld0];exact bmux_spec m O z B o
 .exact(Mv.refl.ext k).trans b
theorem Qt {p:Int->Int->M.Bd Int} {xs ys:oI} {i:Nat} (a:i<xs.length) (b:i<ys.length):M.eachB p (xs.drop i) (ys.drop i)=(p (xs.getD i 0) (ys.getD i 0)).bind λs=>(M.eachB p (xs.drop (i+1)) (ys.drop (i+1))).map (s:: ·):=by
 rw[yY a,yY b];rfl
theorem Ints.low {v:Value} {xs:oI} (h:Ints (Off X F) w v xs):Ints (λb=> ¬F b/\b<w.heap.size) w v xs:=Ints.weaken h λ_ a c=>⟨a.1,c⟩
theorem Ints.lowMv {v:Value} {xs:oI} {B:Nat} {w':World} (h:Ints (λb=> ¬F b/\b<B) w v xs) (hm:Mv F w F' w'):Ints (λb=> ¬F' b/\b<B) w' v xs:=by
 have c:Ints (λb=>(¬F b/\b<B)/\b<w.heap.size) w v xs:=Ints.weaken h λ_ c d=>⟨c,d⟩;have d:=Ints.same c hm.same λb a _=>a.1.1;exact Ints.weaken d λb a _=>⟨hm.off a.1.1 a.2,a.1.2⟩
theorem from_at {up:Bool} {fill:Int} {s:oI} {b k:Nat} (d:k<s.length):(0<=(k:Int)+(if up then-(b:Int) else b)->(k:Int)+(if up then-(b:Int) else b)<s.length->M.fromL up fill s b k=s.getD ((k:Int)+(if up then-(b:Int) else b)).toNat 0)/\
  ((k:Int)+(if up then-(b:Int) else b)<0->M.fromL up fill s b k=fill)/\((s.length:Int)<=(k:Int)+(if up then-(b:Int) else b)->M.fromL up fill s b k=fill):=by
 unfold M.fromL;cases up
 .simp only[Gd,if_false];refine⟨λa c=>?_,λh=>oM,λh=>?_⟩
  .rw[X0 oM,show((k:Int)+b).toNat=k+b by omega]
  .rw[y3 oM]
 .simp only[if_true];refine⟨λa c=>?_,λh=>?_,λh=>oM⟩
  .rw[y3 oM,show((k:Int)+ -b).toNat=k-b by omega]
  .rw[X0 oM]
theorem fill_set {zs:oI} {m k:Nat} {s:Int} (a:zs.length=k) (b:k<m):(zs++List.replicate (m-k) 0).set k s=(zs++[s])++List.replicate (m-(k+1)) 0:=by
 rw[pM _ _ oM,a,GW,show m-k=(m-(k+1))+1 by omega,PB,po,gZ];rfl
theorem Ko {m k:Nat} {f:Nat->Int} (a:k<m):((List.range m).map f).getD k 0=f k:=by
 rw[y4,GN,PC a];rfl
theorem zF0 {up:Bool} {fill:Int} {i:Nat} {ys s:oI} {j:Nat} (h:ys.length<=j):M.shiftB up fill (ys.drop j) i s= .ret s:=by
 rw[Gj h];rfl
theorem pow_le4 {i:Nat} (h:i<10):2^i<=512/\1<=2^i:=⟨gN oM (show i<=9 by omega),Nat.one_le_two_pow⟩
theorem from_sm {up:Bool} {fill:Int} {s:oI} {b k:Nat} (a:Sm fill) (hs:SmL s) (c:k<s.length):Sm (M.fromL up fill s b k):=by
 unfold M.fromL
 repeat' split
 all_goals first|exact a|exact hs.get oM
theorem shift_spec {xv yv:Value} {xs ys:oI} {up:Bool} {fill:Int} (h:BdR n bb ar ab X F w st) (hx:Ints (Off X F) w xv xs) (hy:Ints (Off X F) w yv ys) (h8:xs.length<=1000) (ao:ys.length<=8) (V:SmL xs) (ag:SmL ys) (hf:Sm fill)
  (hK:∀w' F' st' r zs,BdR n bb ar ab X F' w' st'->Mv F w F' w'->Ints (Off X F') w' r zs->SmL zs->M.Bd.Out n (M.shiftB up fill ys 0 xs) st st' zs->K r w'):
  vcall YM #[oP bb 0,xv,yv,.bool up,nI fill] w K:=by
 refine ze {loops:=[(3,[11,22]),(10,[37])],cuts:=[(28680,[14])]} Tryz.func257 ?_;simp(disch:=exact oS) only[push_cast,hy.len];refine vloop_up ys.length (λi u w'=> ∃H A sv ss,u=[sv,nI i]/\BdR n bb ar ab X H w' A/\Mv F w H w'/\Ints (Off X H) w' sv ss/\SmL ss/\ss.length=xs.length/\
  ∀st2 rs,M.Bd.Out n (M.shiftB up fill (ys.drop i) i ss) A st2 rs->M.Bd.Out n (M.shiftB up fill ys 0 xs) st st2 rs) ⟨F,st,xv,xs,rfl,h,Mv.refl,hx,V,rfl,λ_ _ h=>h⟩ ?_
 rintro i _ g w1 C hi ⟨H,A,sv,ss,rfl,h1,G,S,U,an,I⟩ hC;refine oZ ?_;refine zb (λak=>?_) (λaj=>hK w1 H A sv ss h1 G S U (I A ss (by rw[zF0 oM];exact M.Bd.Out.ret _ _)));have N:i<ys.length:=oM
 have a4:=Ints.mv hy G;obtain⟨al,am⟩:=pow_le4 (i:=i) oM;have a3:∀K:oK,qu .shl zE true (nI 1) (nI i) w1 K=K (nI (2^i:Nat)) w1:=λK=>by
  have:=vbin_shlI (w:=w1) (K:=K) (c:=true) (t:=zE) (yk:= .i64) (x:=1) (y:=i) oM (by rw[Pg];omega);rw[Pg] at this;exact this
 simp(disch:=exact oS) only[push_cast,a4.iaddr,a4.load];rw[a3];generalize Y:2^i=b at*;refine zp (λu w'=>w'=w1/\u=[nI (if up then-(b:Int) else b)]) ?_ ?_
 .intro J hJ;cases up
  .exact hJ _ _ ⟨rfl,rfl⟩
  .simp(disch:=omega) only[push_cast,zk,Ga];exact hJ _ _ ⟨rfl,rfl⟩
 rintro _ _ w2 ⟨af,rfl⟩;rw[af];simp(disch:=exact oS) only[push_cast,S.len];refine vmkS_own (z:= nI 0) (bs:=8) yF yQ yi rfl oM oM λnv w3 O L a1=>?_;have O:OwnI zf w3 nv (List.replicate ss.length 0):=by unfold OwnI;rw[GO];exact O
 have h3:=h1.ext L;have ae:Ints (λb=> ¬H b/\b<w1.heap.size) w3 sv ss:=(Ints.low S).ext L;have a9:Sm (ys.getD i 0):=ag.get N;have R:NewI X w1 H w3 nv (List.replicate ss.length 0):=NewI.of O a1 h1.lt;have ac:=G.ext L;have ap:=G.same.size;refine vloop_up ss.length (λk u w'=> ∃W B zs,u=[nI k]/\BdR n bb ar ab X W w' B/\Mv F w W w'/\Ints (λb=> ¬W b/\b<w1.heap.size) w' sv ss/\NewI X w1 W w' nv (zs++List.replicate (ss.length-k) 0)/\SmL zs/\zs.length=k/\
  ∀st2 rs,M.Bd.Out n (M.eachB (M.muxB (ys.getD i 0)) (((List.range ss.length).map (M.fromL up fill ss b)).drop k) (ss.drop k)) B st2 rs->M.Bd.Out n (M.eachB (M.muxB (ys.getD i 0)) ((List.range ss.length).map (M.fromL up fill ss b)) ss) A st2 (zs++rs))
  ⟨H,A,[],rfl,h3,ac,ae,by simpa using R,SmL.nil,rfl,λ_ _ h=>h⟩ ?_
 rintro k _ g4 w4 C4 hk ⟨W,B,zs,rfl,h4,Z,v,Q,a5,a6,D⟩ a7;refine oZ ?_;refine zb (λai=>?_) (λah=>?_)
 .have o:k<ss.length:=oM;have aa:Sm (M.fromL up fill ss b k):=from_sm hf U o;have a0:(zs++List.replicate (ss.length-k) (0:Int)).length=ss.length:=by rw[Q1,gI];omega
  have go:∀(C5:oK),(∀l m a s,BdR n bb ar ab X m l a->Mv F w m l->Ints (λb=> ¬m b/\b<w1.heap.size) l sv ss->NewI X w1 m l nv (zs++List.replicate (ss.length-k) 0)->Sm s->M.Bd.Out n (M.muxB (ys.getD i 0) (M.fromL up fill ss b k) (ss.getD k 0)) B a s->C5 (nI s) l)->
    vcall qN #[oP bb 0,nI (ys.getD i 0),nI (M.fromL up fill ss b k),nI (ss.getD k 0)] w4 C5:=λC5 a8=>
   bmux_spec h4 a9 aa (U.get o) λl m a s E f q p=>a8 l m a s E (Z.trans f) (Ints.lowMv v f) (Q.mv f) q p
  have fin:∀l m a s,BdR n bb ar ab X m l a->Mv F w m l->Ints (λb=> ¬m b/\b<w1.heap.size) l sv ss->NewI X w1 m l nv (zs++List.replicate (ss.length-k) 0)->Sm s->M.Bd.Out n (M.muxB (ys.getD i 0) (M.fromL up fill ss b k) (ss.getD k 0)) B a s->
    ya zf nv (nI k) l λt66 w6=>zG yy t66 (nI s) w6 λ_ w7=>C4 [nI ((k:Int)+1)] w7:=λl m a s E f q e j p=>by
   have ad:=e.own.ints;rw[ad.iaddr yN oM (by rw[a0];omega),gu];refine e.own.st y7 (by rw[a0];exact o) λw6 a2 T aq=>?_;rw[fill_set a6 o] at a2;refine a7 o _ _ ⟨m,a,zs++[s],by simp,E.upd h.err T λb Y=>⟨by have:=(e.off b Y).1;omega,(e.off b Y).2⟩,f.to T λb Y=> .inr (by have:=(e.off b Y).1;omega),Ints.same q T λx hx _ V=>by have:=(e.off x V).1;omega,⟨a2,e.off,e.out⟩,a5.app (SmL.one j),by simp[a6],λst2 rs ho=>?_⟩;have:=D st2 (s::rs) ?_
   .simpa using this
   rw[Qt (by simpa using o) o,Ko o];exact M.Bd.Out.bind p (M.Bd.Out.map _ ho)
  obtain⟨f1,f2,f3⟩:=from_at (up:=up) (fill:=fill) (s:=ss) (b:=b) o;have hd:(if up then-(b:Int) else b)= -(b:Int)\/(if up then-(b:Int) else b)=b:=(by cases up<;>simp);generalize (if up then-(b:Int) else b)=d at f1 f2 f3 hd;simp(disch:=omega) only[push_cast,zk];refine zb (λh0=>?_) (λh0=>?_)
  .refine zb (λhl=>?_) (λhl=>?_)
   .simp(disch:=exact oS) only[push_cast,v.iaddr,v.load];rw[<-f1 oM oM];exact go _ λl m a s E f q e j p=>fin l m a s E f q e j p
   .simp(disch:=exact oS) only[push_cast,v.iaddr,v.load];rw[<-f3 oM];exact go _ λl m a s E f q e j p=>fin l m a s E f q e j p
  .simp(disch:=exact oS) only[push_cast,v.iaddr,v.load];rw[<-f2 oM];exact go _ λl m a s E f q e j p=>fin l m a s E f q e j p
 .rw[show ss.length-k=0 by omega,p0,gK] at Q;have:=D B [] (by rw[YD (by simp;omega)];exact M.Bd.Out.ret _ _);rw[gK] at this;simp(disch:=omega) only[push_cast,zk];refine hC N _ _ ⟨W,B,nv,zs,by simp<;>exact⟨rfl,rfl⟩,h4,Z,Q.ints,a5,oM,λst2 rs ho=>I st2 rs ?_⟩;rw[yY N];unfold M.shiftB;rw[Y];exact M.Bd.Out.bind this ho
end
section
variable {w:World} {K:oK} {F F' X Q:oA} {n bc bb:Nat} {v:Value} {ar ab:Addr} {st:Option M.Gs}
theorem Ints.mvQ {v:Value} {xs:oI} {w':World} (h:Ints (λb=> ¬F b/\Q b) w v xs) (hm:Mv F w F' w'):Ints (λb=> ¬F' b/\Q b) w' v xs:=by
 have c:Ints (λb=>(¬F b/\Q b)/\b<w.heap.size) w v xs:=Ints.weaken h λ_ c d=>⟨c,d⟩;have d:=Ints.same c hm.same λb a _=>a.1.1;exact Ints.weaken d λb a _=>⟨hm.off a.1.1 a.2,a.1.2⟩
theorem Ints.offQ {v:Value} {xs:oI} (h:Ints (λb=> ¬F b/\Q b/\¬X b) w v xs):Ints (Off X F) w v xs:=Ints.weaken h λ_ h _=>⟨h.1,h.2.2⟩
theorem SmL.set {xs:oI} (h:SmL xs) {i:Nat} {x:Int} (b:Sm x):SmL (xs.set i x):=λy c=>by
 rcases pZ c with a|a
 .exact h y a
 .rw[a];exact b
theorem under_spec {xv yv:Value} {xs ys:oI} (h:BdR n bb ar ab X F w st) (g:Ints (Off X F) w xv xs) (hy:Ints (Off X F) w yv ys) (Y:xs.length=ys.length) (h1:1<=xs.length) (h8:xs.length<=1000) (u:SmL xs) (v:SmL ys)
  (V:∀w' F' st' r,BdR n bb ar ab X F' w' st'->Mv F w F' w'->Sm r->M.Bd.Out n (M.lessB (M.swapT xs ys) (M.swapT ys xs) (-1)) st st' r->K (nI r) w'):
  vcall YL #[oP bb 0,xv,yv] w K:=by
 refine ze {} Tryz.func260 ?_;simp(disch:=exact oS) only[push_cast,g.len,zk];refine Clone_signal g oM λw1 av c j I=>?_;refine Clone_signal (hy.ext c) oM λw2 cv s B t=>?_;refine zd λw3 d _=>?_;have y:=c.trans (s.trans d);have k:=j.ext (s.trans d);have o:=B.ext d;have m:=k.ints;have q:=o.ints;have l:∀b,av.ownBlock=some b->cv.ownBlock≠some b:=λb a W=>by have:=j.lt a;have:=t b W;omega
 simp(disch:=exact oS) only[push_cast,m.iaddr,m.load,q.iaddr,q.load,k5];rw[show((xs.length:Int)-1).toNat=xs.length-1 by omega];refine k.st y7 oM λw4 z e a0=>?_;have p:=o.same e λb a g=>l b g a;have O:=p.ints;refine p.st y7 oM λx C f a1=>?_;have A:=z.same f λb a g=>l b a g;have hw:=y.size;have Z:=c.size;have hF:∀b,(av.ownBlock=some b\/cv.ownBlock=some b)->w.heap.size<=b/\¬F b:=λb a=>by
  have E:w.heap.size<=b:=a.elim (I b) λa=>by have:=t b a;omega
  exact⟨E,λD=>by have:=h.lt b (.inl D);omega⟩
 have R:BdR n bb ar ab X F x st:=((h.ext y).upd h.err e λb a=>hF b (.inl a)).upd h.err f λb a=>hF b (.inr a);have i:∀b,(av.ownBlock=some b\/cv.ownBlock=some b)->Off X F b:=λb a=>⟨(hF b a).2,λD=>by have:=(hF b a).1;have:=h.lt b (.inr D);omega⟩;have G:Mv F w F x:=((Mv.refl.ext y).to e λb a=> .inr (hF b (.inl a)).1).to f λb a=> .inr (hF b (.inr a)).1;have T:Ints (Off X F) x av (M.swapT xs ys):=Ints.weaken A.ints λb a _=>i b (.inl a);have U:Ints (Off X F) x cv (M.swapT ys xs):=by
  have:=Ints.weaken C.ints λb a _=>i b (.inr a);unfold M.swapT;rw[Y] at this;exact this
 refine bless_spec R T U (by unfold M.swapT;simp;omega) (by unfold M.swapT;simp;omega) ?_ ?_ λw6 Q N r S H L J=>V w6 Q N r S (G.trans H) L J
 .exact u.set (v.get oM)
 .exact v.set (u.get oM)
theorem XX {xs:oI} {m k:Nat} (h:k<m):(xs.take m).getD k 0=xs.getD k 0:=M.take_getD h
theorem xO0 {xs wide r q:oI} {m:Nat} {l:Int} {u d:oI} {st a st2 b c:Option M.Gs} {res:oI×oI} (e:M.Bd.Out n (M.lessB (xs.getD m 0::r) wide (-1)) st a l) (f:M.Bd.Out n (M.sumB (xs.getD m 0::r) (M.negL wide) 1) a st2 u)
  (g:M.Bd.Out n (M.eachB (M.muxB l) ((xs.getD m 0::r).take xs.length) (u.take xs.length)) st2 b d) (h:M.Bd.Out n (M.divB xs wide m d (q.set m (-l))) b c res):M.Bd.Out n (M.divB xs wide (m+1) r q) st c res:=by
 unfold M.divB;exact M.Bd.Out.bind e (M.Bd.Out.bind f (M.Bd.Out.bind g h))
theorem divide_spec {xv yv:Value} {xs ys:oI} (h:BdR n bb ar ab X F w st) (hx:Ints (Off X F) w xv xs) (hy:Ints (Off X F) w yv ys) (hl:xs.length=ys.length) (h8:xs.length<=900) (cq:SmL xs) (cr:SmL ys)
  (hK:∀w' F' st' qv rv q r,BdR n bb ar ab X F' w' st'->Mv F w F' w'->Ints (Off X F') w' qv q->Ints (Off X F') w' rv r->SmL q->SmL r->M.Bd.Out n (M.divB xs (ys++[-1]) xs.length (M.offsL xs.length) (M.offsL xs.length)) st st' (q,r)->K (.tuple #[qv,rv]) w'):
  vcall Y7 #[oP bb 0,xv,yv] w K:=by
 refine ze {loops:=[(5,[8,10]),(13,[59])]} Tryz.func256 ?_;simp(disch:=exact oS) only[push_cast,hx.len];refine offs_spec oM λw1 ao az bf b8=>?_;refine offs_spec oM λw2 qv a6 bc b6=>?_;have e2:=az.trans a6;refine Clone_signal (hy.ext e2) oM λw3 dc a7 cn af=>?_;refine zB yD y7 yi rfl rfl λb4 w4 d1 a8 an c2=>?_;refine(cn.ext a8).app1 yF c2 oM oM λwv w5 co bk c9=>?_;have z1:=az.size;have z2:=a6.size;have z3:=a7.size;have ak:∀b,wv.ownBlock=some b->w2.heap.size<=b:=λb a=>(c9 b a).elim (af b) λh=>oM
 have e4:=e2.trans (a7.trans a8);have aw:∀b,F b->b<w.heap.size:=λb a=>h.lt b (.inl a);have a5:∀b,w.heap.size<=b->¬X b:=λb a hx=>by have:=h.lt b (.inr hx);omega
 have e5:Ext w w5:=Ext.then e4 bk λb a=>by have:=af b a;omega
 have aq:Ext w2 w5:=Ext.then (a7.trans a8) bk λb a=>af b a;have h5:=h.ext e5;have c7:Mv F w F w5:=Mv.refl.ext e5;have cd:=bc.ext aq;have ci:=bf.ext (a6.trans aq);have cg:∀b,ao.ownBlock=some b->qv.ownBlock≠some b:=λb a O=>by have:=bf.lt a;have:=b6 b O;omega
 have ch:∀b,wv.ownBlock=some b->qv.ownBlock≠some b:=λb a O=>by have:=ak b a;have:=bc.lt O;omega
 have be:∀b,qv.ownBlock=some b->w.heap.size<=b:=λb a=>by have:=b6 b a;omega
 have hR:Ints (λb=> ¬F b/\qv.ownBlock≠some b/\¬X b) w5 ao (M.offsL xs.length):=Ints.weaken ci.ints λb a _=>⟨λhf=>by have:=aw b hf;have:=b8 b a;omega,cg b a,a5 b (b8 b a)⟩;have hW:Ints (λb=> ¬F b/\qv.ownBlock≠some b/\¬X b) w5 wv (ys++[-1]):=Ints.weaken co.ints λb a _=>⟨λhf=>by have:=aw b hf;have:=ak b a;omega,ch b a,a5 b (by have:=ak b a;omega)⟩;have hX:Ints (λb=> ¬F b/\qv.ownBlock≠some b/\¬X b) w5 xv xs:=by
  have h1:Ints (λb=>(¬F b/\¬X b)/\b<w.heap.size) w xv xs:=Ints.weaken hx λ_ h1 h2=>⟨h1,h2⟩;exact Ints.weaken (h1.ext e5) λb a _=>⟨a.1.1,λO=>(by have:=be b O;omega),a.1.2⟩
 have hQ:NewI X w F w5 qv (M.offsL xs.length):=NewI.of cd be h.lt;simp(disch:=exact oS) only[push_cast,zk];have cp:(ys++[(-1:Int)]).length=xs.length+1:=by rw[Q1,hl];rfl
 have al:SmL (ys++[(-1:Int)]):=cr.app (SmL.one dC);generalize ys++[(-1:Int)]=wide at*;refine ji (λm u w'=> ∃F1 br rv r q,u=[rv,nI ((m:Int)-1)]/\m<=xs.length/\BdR n bb ar ab X F1 w' br/\Mv F w F1 w'/\Ints (λb=> ¬F1 b/\qv.ownBlock≠some b/\¬X b) w' rv r/\r.length=xs.length/\SmL r/\NewI X w F1 w' qv q/\q.length=xs.length/\SmL q/\
  Ints (λb=> ¬F1 b/\qv.ownBlock≠some b/\¬X b) w' wv wide/\Ints (λb=> ¬F1 b/\qv.ownBlock≠some b/\¬X b) w' xv xs/\
  ∀st2 res,M.Bd.Out n (M.divB xs wide m r q) br st2 res->M.Bd.Out n (M.divB xs wide xs.length (M.offsL xs.length) (M.offsL xs.length)) st st2 res) xs.length
  ⟨F,st,ao,_,_,rfl,gr _,h5,c7,hR,M.offsL_len _,SmL.offs _,hQ,M.offsL_len _,SmL.offs _,hW,hX,λ_ _ h=>h⟩ ?_
 rintro m _ g w6 C ⟨F6,bu,rv,r,q,rfl,hm,h6,aa,bg,bh,bi,ag,cf,bd,bn,am,a0⟩ hC;refine oZ ?_;refine zb (λd3=>?_) (λd4=>?_)
 .obtain⟨m,rfl⟩:∃j,m=j+1:=⟨m-1,oM⟩;have c8:m<xs.length:=oM;rw[show((m+1:Nat):Int)-1=(m:Int) by omega];simp(disch:=exact oS) only[push_cast,am.iaddr,am.load];refine zB yD y7 yi rfl rfl λb7 w7 d2 b0 d7 c3=>?_;have ck:OwnI zf w7 (.slice (some ⟨b7,0,none⟩) 1 1) [xs.getD m 0]:=Blk.own1 (t:=zf) (cs:=[nI (xs.getD m 0)]) (by rw[yQ];exact c3) (Gf _) rfl rfl oM;refine ck.app yF (bg.ext b0) (by simp;omega) (by simp;omega) λtv w8 cl cj ca=>?_;have l6:=aa.same.size;have ai:∀b,tv.ownBlock=some b->w6.heap.size<=b:=λb a=>(ca b a).elim (λh=>by have e:b7=b:=V1 h;omega) λh=>oM;have e8:Ext w6 w8:=Ext.then b0 cj λb a=>by have e:b7=b:=V1 a;omega
  have c1:=h6.ext e8;have hT:Ints (λb=> ¬F6 b/\qv.ownBlock≠some b/\¬X b) w8 tv (xs.getD m 0::r):=Ints.weaken cl.ints λb a _=>⟨λhf=>by have:=h6.lt b (.inl hf);have:=ai b a;omega,λO=>(by have:=ag.own.lt O;have:=ai b a;omega),a5 b (by have:=ai b a;omega)⟩;have aj:SmL (xs.getD m 0::r):=(SmL.one (cq.get c8)).app bi;have W:Mv F6 w6 F6 w8:=Mv.refl.ext e8;refine bless_spec c1 (Ints.offQ hT) (Ints.offQ (Ints.ext bn e8)) (by simp;omega) (by simp;omega) aj al λw9 F9 cu l h9 H c5 cc=>?_;have y:=(ag.mv W).mv H;have ce:=y.own.ints;simp(disch:=exact oS) only[push_cast,zk,Ga,ce.iaddr];refine y.own.st y7 oM λw10 ba J cz=>?_;have au:BdR n bb ar ab X F9 w10 cu:=h9.upd h.err J λb a=>y.off b a;have b1:Mv F w F9 w10:=(((aa.trans W)).trans H).to J λb a=> .inr (y.off b a).1;have keep:∀{v:Value} {zs:oI},Ints (λb=> ¬F9 b/\qv.ownBlock≠some b/\¬X b) w9 v zs->Ints (λb=> ¬F9 b/\qv.ownBlock≠some b/\¬X b) w10 v zs:=λhh=>Ints.same hh J λb a _ hx=>a.2.1 hx;have Q:=keep (Ints.mvQ hT H);have a3:=keep (Ints.mvQ (Ints.ext bn e8) H);have bo:=keep (Ints.mvQ (Ints.ext am e8) H);refine negated_spec a3 oM al λcv nv c b2 ad=>?_;have bw:=au.ext c;have hN:Ints (Off X F9) cv nv (M.negL wide):=(NewI.of b2 ad au.lt).ints;refine bsum_spec bw (Ints.offQ (Ints.ext Q c)) hN (by rw[M.negL_len];simp;omega) (by simp;omega) aj al.neg dC λA p a4 uv us av f bl cm Y=>?_;have d6:us.length=xs.length+1:=by
   have:=M.sum_len Y.reach;rw[M.negL_len,cp,gF,bh] at this;omega
  have d8:=f.same.size;have i:Mv F w p A:=(b1.ext c).trans f;have ax:=Ints.mvQ (Ints.ext Q c) f;have bm:=Ints.mvQ (Ints.ext a3 c) f;have bp:=Ints.mvQ (Ints.ext bo c) f;have a1:NewI X w p A qv (q.set m (-l)):=(NewI.mv (F':=F9) ⟨ba,y.off,y.out⟩ (Mv.refl.ext c)).mv f;have ay:=bl.ints;refine vmkS_own (z:= nI 0) (bs:=8) yF yQ yi rfl oM oM λL bv o T ae=>?_;have o:OwnI zf bv L (List.replicate xs.length 0):=by unfold OwnI;rw[GO];exact o
  have bx:=av.ext T;have b3:NewI X A p bv L (List.replicate xs.length 0):=NewI.of o ae av.lt;have ac:=o.ints;have ah:(List.replicate xs.length (0:Int)).length=xs.length:=gI;have hlen:∀(w':World) (K:oK),vbi .len [zf] zE [L] w' K=K (nI xs.length) w':=λw' K=>(by rw[ac.len yX,ah]);simp only[hlen];have d5:(xs.getD m 0::r).length=xs.length+1:=(by rw[gF,bh]);generalize ht:xs.getD m 0::r=t at*;refine vloop_up xs.length (λk u w'=> ∃F4 N zs,u=[nI k]/\BdR n bb ar ab X F4 w' N/\Mv p A F4 w'/\NewI X A F4 w' L (zs++List.replicate (xs.length-k) 0)/\SmL zs/\zs.length=k/\
   ∀st2 rs,M.Bd.Out n (M.eachB (M.muxB l) ((t.take xs.length).drop k) ((us.take xs.length).drop k)) N st2 rs->M.Bd.Out n (M.eachB (M.muxB l) (t.take xs.length) (us.take xs.length)) a4 st2 (zs++rs))
   ⟨p,a4,[],rfl,bx,Mv.refl.ext T,by simpa using b3,SmL.nil,rfl,λ_ _ h=>h⟩ ?_
  rintro k _ g4 d9 C4 hk ⟨F4,N,zs,rfl,h4,G,x,an,bq,I⟩ c4;refine oZ ?_;refine zb (λcy=>?_) (λcx=>?_)
  .have D:k<xs.length:=oM;have b5:(zs++List.replicate (xs.length-k) (0:Int)).length=xs.length:=by rw[Q1,gI];omega
   refine zd λda B _=>?_;have bz:=h4.ext B;have E:=G.ext B;have R:=Ints.mvQ ax E;have S:=Ints.mv ay E;simp(disch:=exact oS) only[push_cast,R.iaddr,R.load,S.iaddr,S.load,k5];refine bmux_spec bz c5 (aj.get oM) (cm.get oM) λcw ap bt s c0 V bj b9=>?_;have d:=(x.mv (Mv.refl.ext B)).mv V;have cb:=d.own.ints;rw[cb.iaddr yN oM (by rw[b5];omega),gu];simp only[k5];refine d.own.st y7 (by rw[b5];exact D) λdb Z a2 d0=>?_;rw[fill_set bq D] at Z
   try simp(disch:=omega) only[push_cast,zk]
   have a9:Mv p A ap cw:=E.trans V;have ct:=i.same.size;refine c4 D _ _ ⟨ap,bt,zs++[s],by simp,c0.upd h.err a2 λb a=>⟨by have:=(d.off b a).1;omega,(d.off b a).2⟩,a9.to a2 λb a=> .inr (d.off b a).1,⟨Z,d.off,d.out⟩,an.app (SmL.one bj),by simp[bq],λst2 rs ho=>?_⟩;have:=I st2 (s::rs) ?_
   .simpa using this
   rw[Qt (by rw[gh];omega) (by rw[gh];omega),XX D,XX D];exact M.Bd.Out.bind b9 (M.Bd.Out.map _ ho)
  .rw[show xs.length-k=0 by omega,p0,gK] at x;have U:=I N [] (by rw[YD (by rw[gh];omega)];exact M.Bd.Out.ret _ _);rw[gK] at U
   try simp(disch:=omega) only[push_cast,zk]
   have ct:=i.same.size;refine hC m _ _ oM ⟨F4,N,L,zs,q.set m (-l),by simp<;>exact⟨rfl,rfl⟩,oM,h4,i.trans G,Ints.weaken x.own.ints λb a _=>⟨(x.off b a).2,λO=>(by have:=(x.off b a).1;have:=a1.own.lt O;omega),x.out b a⟩,oM,an,a1.mv G,by rw[gP];exact cf,bd.set (by unfold Sm at*;omega),Ints.mvQ bm G,Ints.mvQ bp G,λst2 res ho=>a0 st2 res ?_⟩;subst ht;exact xO0 cc Y U ho
 .have c6:m=0:=oM;subst c6;exact hK w6 F6 bu qv rv q r h6 aa ag.ints (Ints.offQ bg) bd bi (a0 bu (q,r) (by unfold M.divB;exact M.Bd.Out.ret _ _))
end
section
variable {w:World} {K:oK} {F F' X Q:oA} {n bc bb:Nat} {v:Value} {ar ab:Addr} {st:Option M.Gs}
theorem xA0 {s:Int} {xs:oI} {j:Nat} (h:xs.length<=j):M.rowB s (xs.drop j)= .ret []:=by rw[Gj h];rfl
theorem jf0 {s:Int} {xs:oI} {j:Nat} (h:j<xs.length):M.rowB s (xs.drop j)= .and (xs.getD j 0) s λv=>(M.rowB s (xs.drop (j+1))).map (v:: ·):=by rw[yY h];rfl
theorem xG0 {xs ys s:oI} {i j:Nat} (h:ys.length<=j):M.mulB xs (ys.drop j) i s= .ret s:=by rw[Gj h];rfl
def P2 (l t:Nat) (F:oA) (b:Nat):Prop:=F b\/b=l\/b=t
theorem Mv.p2 {w':World} {l t:Nat} (h:Mv F w F' w'):Mv (P2 l t F) w (P2 l t F') w':=
 ⟨h.same.mono λ_ _ h=> .inl h,λb a=>a.elim (λa=>(h.new b a).imp .inl id) λa=> .inl (.inr a)⟩
theorem Mv.sub {w' w'':World} {S:oA} (h:Mv F w F' w') (hs:Same S w' w'') (a:∀b,S b->F' b):Mv F w F' w'':=h.to hs λb c=> .inl (a b c)
theorem Ints.notD {xs:oI} {D:Nat} {ds:Option (List Deferred)} (h:Ints F w v xs) (q:w.heap[D]?=some (.deferred ds)):Ints (λb=>F b/\b≠D) w v xs:=by
 obtain⟨⟨a,c,r,p,hm,n⟩,k⟩:=h;refine⟨⟨a,c,r,p,hm,λg=>?_⟩,k⟩;obtain⟨b,o,m,l,i,d⟩:=n g;refine⟨b,o,m,⟨l,λe=>?_⟩,i,d⟩;subst e;have j:=GQ.2 g;have hw:=k _ (M.getD_mem j []);have f:=d 0 j 0 _ (gd oM);rw[yw] at f;simp[World.cell?,q] at f
theorem mul_spec {xv yv:Value} {xs ys:oI} (h:BdR n bb ar ab X F w st) (hx:Ints (Off X F) w xv xs) (hy:Ints (Off X F) w yv ys) (hl:xs.length=ys.length) (h8:xs.length<=900) (cw:SmL xs) (cx:SmL ys)
  (hK:∀w' F' st' r zs,BdR n bb ar ab X F' w' st'->Mv F w F' w'->Ints (Off X F') w' r zs->SmL zs->M.Bd.Out n (M.mulB xs ys 0 (M.offsL xs.length)) st st' zs->K r w'):
  vcall kT #[oP bb 0,xv,yv] w K:=by
 apply Qw;unfold qV;have cm:=h.lt;refine yj λb3 w1 de aw dr aq=>?_;replace aq:Blk w1 b3 [oP bb 0] yJ:=aq;have cu:Ints (Off X F) w1 xv xs:=hx.ext aw;simp(disch:=exact oS) only[push_cast,cu.len];refine offs_spec oM λw2 ba ax a9 co=>?_;refine xz qH λd w3 df a4 ds au=>?_;replace au:Blk w3 d [oN] zf:=au;refine Blk.st (i:=0) au (Sl.cells1 (a9.ext a4).ints) (Sl.one (a9.ext a4).ints) jh rfl λw4 bu cy a1=>?_;replace a1:Blk w4 d [ba] zf:=a1;have z2:=ax.size;have e2:=aw.trans ax;have an:Ext w1 w4:=Ext.then (ax.trans a4) bu λb a=>oM
 have e4:=aw.trans an;have ag:=aq.ext an;have bv:=(a9.ext a4).same bu λb a hx=>by have:=a9.lt a;omega
 simp(disch:=exact oS) only[push_cast,ag.ld0];refine ze {} Tryz.func291 ?_;refine yj λbq w5 dg bh dt av=>?_;replace av:Blk w5 bq [oP bb 0] yJ:=av;refine yj λbx w6 dh bi du ci=>?_;refine yj λby_ w7 di ay dv cj=>?_;have be:Blk w6 bx [xv] zf:=by have:=ci;rwa[Sl.cells1 hx] at this
 have bf:Blk w7 by_ [yv] zf:=by have:=cj;rwa[Sl.cells1 hy] at this
 refine oZ ?_;refine⟨jt,⟨[oP by_ 0,oP bx 0,oP bq 0]⟩,rfl,λl D L RR hD dk az dn cl b9 cr af=>?_⟩;have bd:=bi.trans (ay.trans az);have a0:=bh.trans bd;have e8:=e4.trans a0;have z4:=e4.size;have e0:=a0.size;have dx:=an.size;have pq:=av.ext bd;have px:=be.ext (ay.trans az);have py:=bf.ext az;have p3:=ag.ext a0;have p7:=a1.ext a0;have ch:=h.ext e8;have ae:∀b,w.heap.size<=b->¬F b:=λb a hf=>by have:=cm b (.inl hf);omega
 have sz:w1.heap.size=b3+1/\w3.heap.size=d+1/\w5.heap.size=bq+1/\w6.heap.size=bx+1/\w7.heap.size=by_+1/\D=w7.heap.size/\l=D+1:=⟨oM,oM,oM,oM,oM,hD,oM⟩;have dz:w4.heap.size=w3.heap.size:=cy;have dy:=a4.size;have z45:=bh.size;have e1:=bi.size;have z67:=ay.size;have cv:Ints (Off X (P2 l d F)) L xv xs:=by
  have v:Ints (λb=>(¬F b/\¬X b)/\b<w.heap.size) w xv xs:=Ints.weaken hx λ_ v T=>⟨v,T⟩;exact Ints.weaken (v.ext e8) λb a _=>⟨λo=>o.elim a.1.1 λo=>by have:=a.2;omega,a.1.2⟩
 have c1:Ints (Off X (P2 l d F)) L yv ys:=by
  have v:Ints (λb=>(¬F b/\¬X b)/\b<w.heap.size) w yv ys:=Ints.weaken hy λ_ v T=>⟨v,T⟩;exact Ints.weaken (v.ext e8) λb a _=>⟨λo=>o.elim a.1.1 λo=>by have:=a.2;omega,a.1.2⟩
 have ct:Ints (Off X (P2 l d F)) L ba (M.offsL xs.length):=Ints.weaken (bv.ext a0).ints λb a _=>by
  have v:=a9.lt a;have T:=co b a;refine⟨λo=>?_,λhx=>by have:=h.lt b (.inr hx);omega⟩;rcases o with o|o|o
  .exact ae b oM o
  .omega
  .omega
 have off:∀(m:oA),(∀b,m b->F b\/L.heap.size<=b)->∀b,w.heap.size<=b->b<L.heap.size->¬m b:=λm hN b v T hf=>(hN b hf).elim (ae b v) λh=>oM
 show vcall jt #[.func (.yield l) #[] #[],oP by_ 0,oP bx 0,oP bq 0] L _;refine ze {loops:=[(1,[11]),(5,[7,8])]} Tryz.func316 ?_;simp(disch:=exact oS) only[push_cast,py.ld0,c1.len];refine vloop_up ys.length (λi u w'=> ∃m J sv s,u=[nI i]/\RR .ready none w'/\BdR n bb ar ab X m w' J/\Mv (P2 l d F) L (P2 l d m) w'/\(∀b,m b->F b\/L.heap.size<=b)/\Blk w' d [sv] zf/\Ints (Off X (P2 l d m)) w' sv s/\s.length=xs.length/\SmL s/\
  ∀st2 res,M.Bd.Out n (M.mulB xs (ys.drop i) i s) J st2 res->M.Bd.Out n (M.mulB xs ys 0 (M.offsL xs.length)) st st2 res)
  ⟨F,st,ba,_,rfl,cr,ch,Mv.refl,λb a=> .inl a,p7,ct,M.offsL_len _,SmL.offs _,λ_ _ h=>h⟩ ?_
 rintro i _ g w9 C hi ⟨m,J,sv,s,rfl,br,h9,V,U,c8,bw,dp,bz,aj⟩ hC;refine oZ ?_;have z9:=V.same.size;have keep:∀{b:Nat} {cs:List Value} {t:TypeId},Blk L b cs t->w.heap.size<=b->b≠l->b≠d->Blk w9 b cs t:=λa v T h3=>a.same V.same λo=>o.elim (ae _ v) λo=>o.elim T h3;have q9:=keep pq oM oM oM;have x9:=keep px oM oM oM;have k9:=keep p3 oM oM oM;have d9:w9.heap[D]?=some (.deferred (some [])):=(V.same.block D oM λo=>o.elim (ae _ oM) λo=>oM).trans cl;refine zb (λdl=>?_) (λd6=>?_)
 .have b0:i<ys.length:=oM;have c0:=Ints.mv c1 V;simp(disch:=exact oS) only[push_cast,c0.iaddr,c0.load];refine offs_spec oM λw10 cc ah bo bn=>?_;have cf:=h9.ext ah;have bs:NewI X w9 m w10 cc (M.offsL i):=NewI.of bo bn h9.lt;have dq:(xs.take (xs.length-i)).length=xs.length-i:=by rw[gh];omega
  refine vloop_up (xs.length-i) (λj u w'=> ∃F2 st2 rv zs,u=[rv,nI ((i+j:Nat):Int)]/\BdR n bb ar ab X F2 w' st2/\Mv m w9 F2 w'/\NewI X w9 F2 w' rv (M.offsL i++zs)/\SmL zs/\zs.length=j/\
   ∀W rs,M.Bd.Out n (M.rowB (ys.getD i 0) ((xs.take (xs.length-i)).drop j)) st2 W rs->M.Bd.Out n (M.rowB (ys.getD i 0) (xs.take (xs.length-i))) J W (zs++rs))
   ⟨m,J,cc,[],rfl,cf,Mv.refl.ext ah,by rw[gK];exact bs,SmL.nil,rfl,λ_ _ h=>h⟩ ?_
  rintro j _ g2 x C2 hj ⟨F2,st2,rv,zs,rfl,ac,f,G,aa,c3,a6⟩ ck;have a5:Mv (P2 l d F) L (P2 l d F2) x:=V.trans f.p2;have O:∀b,F2 b->F b\/L.heap.size<=b:=λb a=>(f.new b a).elim (U b) λh=> .inr oM;have B:∀{b:Nat} {cs:List Value} {t:TypeId},Blk w9 b cs t->w.heap.size<=b->b<L.heap.size->Blk x b cs t:=λa v T=>a.same f.same (off m U _ v T);have d1:=B q9 oM oM;have ce:=B x9 oM oM;have cz:=B k9 oM oM;have c5:=B c8 oM oM;have d11:x.heap[D]?=some (.deferred (some [])):=(f.same.block D oM (off m U D oM oM)).trans d9;have c9:RR .ready none x:=b9 _ _ _ _ br (f.same.block l oM (off m U l oM oM));have dw:=f.same.size;have ak:=Ints.mv cv a5;simp(disch:=exact oS) only[push_cast,ce.ld0,ak.len];refine zb (λd8=>?_) (λd7=>?_)
  .have bj:j<xs.length-i:=oM;refine zd λN y _=>?_;have al:Ints (Off X (P2 l d F2)) N xv xs:=Ints.ext ak y;have d2:=d1.ext y;have d4:=ce.ext y;have ei:((i:Int)+j)-i=(j:Int):=oM;simp(disch:=exact oS) only[push_cast,d2.ld0,d4.ld0,zk,ei,al.iaddr,al.load,k5];refine qU (ac.ext y) (cw.get oM) (cx.get b0) λbc c A cd ao k bt Q=>?_;refine zB yD y7 yi rfl rfl λdd Y d5 a3 c2 E=>?_;have ai:Mv m w9 c Y:=((f.ext y).trans k).ext a3;have ad:=ao.ext a3;have R:NewI X w9 c Y rv (M.offsL i++zs):=((G.mv (Mv.refl.ext y)).mv k).mv (Mv.refl.ext a3);have dm:(M.offsL i++zs).length=i+j:=(by rw[Q1,M.offsL_len,c3]);refine R.app1 E ai.same.size ad.lt oM λd3 Z a7 q=>?_;have ap:BdR n bb ar ab X c Z A:=ad.upd h.err q λb a=>⟨by have:=(R.off b a).1;omega,(R.off b a).2⟩;have bm:Mv m w9 c Z:=ai.to q λb a=> .inr (R.off b a).1
   try simp(disch:=omega) only[push_cast,zk]
   refine ck bj _ _ ⟨c,A,d3,zs++[cd],by simp<;>omega,ap,bm,by rw[<-gZ];exact a7,aa.app (SmL.one bt),by simp[c3],λW rs ho=>?_⟩;have:=a6 W (cd::rs) ?_
   .simpa using this
   rw[jf0 oM,XX bj];exact xI Q (M.Bd.Out.map _ ho)
  .have dj:j=xs.length-i:=oM;have a8:=a6 st2 [] (by rw[xA0 oM];exact M.Bd.Out.ret _ _);rw[gK] at a8;refine af [rv] x _ rfl c9 ⟨c9,λN p db bg=>?_⟩;have bk:∀b,(b=l)->w.heap.size<=b/\¬F2 b:=λb a=>⟨oM,off F2 O b oM oM⟩;have cg:BdR n bb ar ab X F2 N st2:=ac.upd h.err p bk;have d0:=cz.same p (show¬b3=l by omega);have am:=c5.same p (show¬d=l by omega);have I:=Ints.mv bw f.p2;have b6:Ints (Off X (P2 l d F2)) N sv s:=Ints.same I p λb a _ e=>a.1 (.inr (.inl e));have bp:NewI X w9 F2 N rv (M.offsL i++zs):=⟨G.own.same p λb a e=>by have:=(G.off b a).1;omega,G.off,G.out⟩;simp(disch:=exact oS) only[push_cast,d0.ld0,am.ld0];have b8:Ints (Off X F2) N sv s:=Ints.weaken b6 λb a _=>⟨λhf=>a.1 (.inl hf),a.2⟩;refine bsum_spec cg b8 bp.ints (by rw[Q1,M.offsL_len];omega) oM bz ((SmL.offs i).app aa) dC λbc c A nv ns ao k z cq Q=>?_;have a2:∀b,c b->F b\/L.heap.size<=b:=λb a=>(k.new b a).elim (O b) λh=> .inr oM;have c6:=am.same k.same (off F2 O d oM oM);refine Blk.st (i:=0) c6 (Sl.cells1 z.own.ints) (Sl.one z.own.ints) jh rfl λY S c2 E=>?_;replace E:Blk Y d [nv] zf:=E;have ca:RR .busy none bc:=b9 _ _ _ _ bg (k.same.block l oM (off F2 O l oM oM));have cb:RR .busy none Y:=b9 _ _ _ _ ca (S.block l (by have:=k.same.size;omega) oM);refine⟨cb,λZ q dc a7=>?_⟩;have ad:BdR n bb ar ab X c Y A:=ao.upd h.err S λb a=>⟨oM,off c a2 b oM oM⟩;have ap:BdR n bb ar ab X c Z A:=ad.upd h.err q λb a=>⟨oM,off c a2 b oM oM⟩;have z12:=p.size;have b1:Mv (P2 l d F) L (P2 l d F2) N:=a5.sub p λb a=> .inr (.inl a);have b2:Mv (P2 l d F) L (P2 l d c) Z:=(((b1.trans k.p2).sub S λb a=> .inr (.inr a))).sub q λb a=> .inr (.inl a);have c7:=E.same q (show¬d=l by omega);have b4:Ints (Off X (P2 l d c)) Z nv ns:=by
    have v:Ints (Off X (P2 l d c)) bc nv ns:=Ints.weaken z.own.ints λb a _=>⟨λo=>by
     have:=(z.off b a).1;rcases o with o|o|o
     .exact(z.off b a).2 o
     .omega
     .omega,z.out b a⟩
    exact Ints.same (Ints.same v S λb a _ e=>a.1 (.inr (.inr e))) q λb a _ e=>a.1 (.inr (.inl e))
   have cp:ns.length=xs.length:=by
    have:=M.sum_len Q.reach;rw[Q1,M.offsL_len] at this;omega
   simp(disch:=omega) only[push_cast,Gp,zk];refine hC b0 _ _ ⟨c,A,nv,ns,by simp,a7,ap,b2,a2,c7,b4,cp,cq,λW res ho=>aj W res ?_⟩;rw[yY b0];exact M.Bd.Out.bind a8 (M.Bd.Out.bind Q ho)
 .refine⟨.ready,none,dC,br,λw10 H da=>?_⟩;show zu zf _ w10 _;have c4:=c8.same H (show¬d=l by omega);have d10:w10.heap[D]?=some (.deferred (some [])):=(H.block D oM oM).trans d9;simp(disch:=exact oS) only[push_cast,c4.ld0];refine⟨d10,λx I aa=>?_⟩;have bl:∀b,w.heap.size<=b->b<L.heap.size->w.heap.size<=b/\¬m b:=λb v T=>⟨v,off m U b v T⟩;have ac:BdR n bb ar ab X m x J:=(h9.upd h.err H λb a=>bl b oM oM).upd h.err I λb a=>bl b oM oM;have cn:Mv F w m x:=by
   refine⟨Same.thn (Same.thn (Same.thn (Same.of_ext e8) V.same λb a=>a.elim .inl λa=> .inr oM) H λb a=> .inr oM) I λb a=> .inr oM,λb a=>(U b a).imp id λh=>?_⟩;have:=e8.size;omega
  have b5:Ints (Off X m) x sv s:=by
   have v:Ints (Off X (P2 l d m)) w10 sv s:=Ints.same bw H λb a _ e=>a.1 (.inr (.inl e));have T:=Ints.notD v d10;exact Ints.weaken (Ints.same T I λb a _ e=>a.2 e) λb a _=>⟨λhf=>a.1.1 (.inl hf),a.1.2⟩
  exact hK x m J sv s ac cn b5 bz (aj J s (by rw[xG0 oM];exact M.Bd.Out.ret _ _))
end
section
variable {w:World} {K:oK} {F F' Fx Fy X Q:oA} {n bc bb:Nat} {gs:M.Gs} {v:Value} {ar ab:Addr} {st:Option M.Gs}
theorem j40 {t ty:TypeId} {a:Option Addr} {l c:Nat} (b:isSl t=true):vbi .cap [t] ty [.slice a l c] w K=K (nI c) w:=by
 obtain⟨e,he⟩:=UP b;exact y9 (by simp[biSem,Builtin.cap_,xB he,goInt])
theorem Grow_nil {m:Nat} (hm:m<=1000) (d:∀w' r,Ext w w'->OwnI zf w' r []->(∀b,r.ownBlock=some b->w.heap.size<=b)->K r w'):vcall qp #[oN,nI m] w K:=by
 refine ze {cuts:=[(8195,[])]} Tryz.func287 ?_;refine zp (λu w'=>w'=w) ?_ ?_
 .intro J f;refine oZ ?_;refine zb (λh=>?_) (λh=>f _ _ rfl);omega
 rintro _ _ w' hw;rw[hw,j40 yX,WP yX];simp(disch:=omega) only[push_cast,zk,Int.sub_zero];refine zb (λh=>?_) (λh=>?_)
 .rw[j40 yX];have c0:∀K:oK,xy zf (oN) none (some (nI (0:Nat))) none w K=K (oN) w:=λK=>OwnV.cut (t:=zf) (w:=w) OwnV.nil yN (n:=0) (by simp);rw[c0];refine vappend_make (bs:=8) yF yQ yi rfl Qo oM oM oM λv' w1 e he g=>?_;rw[WP yX,OwnV.cut e yN (n:=0) oM];have c:=OwnV.taken e (n:=0) oM;exact d w1 _ he (by rw[pV] at c;exact c) λb a=>g b (by rw[<-xP v' 0];exact a)
 .exact d w _ (Same.refl _ _) OwnI.nil λb a=>by cases a
theorem Qq {zss:List (oI)} {i:Nat} (hi:i<zss.length):(zss.take (i+1)).flatten=(zss.take i).flatten++zss.getD i []:=by
 rw[M.take_add hi [],Pz];simp
theorem flat_le {zss:List (oI)} (i:Nat):(zss.take i).flatten.length<=zss.flatten.length:=by
 have:zss.flatten=(zss.take i).flatten++(zss.drop i).flatten:=by rw[<-Pz,G3]
 rw[this,Q1];omega
theorem Concat_spec {vs:List Value} {zss:List (oI)} (j:Vals Fx w v vs) (L:vs.length=zss.length) (hi:∀i,i<zss.length->Ints Fy w (vs.getD i undef) (zss.getD i [])) (A:zss.flatten.length<=1000) (E:zss.length<=1000)
  (F:∀w' r,Ext w w'->OwnI zf w' r zss.flatten->(∀b,r.ownBlock=some b->w.heap.size<=b)->K r w'):vcall qc #[v] w K:=by
 refine ze {loops:=[(3,[3,11]),(11,[6,27])]} Tryz.func251 ?_;simp(disch:=exact oS) only[push_cast,j.len];refine vloop_up zss.length (λi u w'=>u=[nI ((zss.take i).flatten.length:Nat),nI i]/\w'=w) ⟨rfl,rfl⟩ ?_;rintro i _ g w1 C p ⟨rfl,B⟩ k;rw[B];refine oZ ?_;refine zb (λq=>?_) (λn=>?_)
 .have a:i<zss.length:=oM;have D:=hi i a;have hle:=flat_le (zss:=zss) (i+1);rw[Qq a,Q1] at hle;simp(disch:=exact oS) only[push_cast,j.iaddr,j.load,D.len,zk];refine zb (λJ=>oM) (λ_=>?_);exact k a _ _ ⟨by rw[Qq a,Q1];simp,rfl⟩
 have o:i=zss.length:=oM
 subst o;rw[gA];refine Grow_nil A λw2 G m x s=>?_;refine vloop_up zss.length (λi u w'=> ∃r,u=[r,nI i]/\Ext w w'/\OwnI zf w' r (zss.take i).flatten/\∀b,r.ownBlock=some b->w.heap.size<=b) ⟨G,rfl,m,x,s⟩ ?_;rintro i _ g I C p ⟨r,rfl,c,e,d⟩ k;refine oZ ?_;refine zb (λq=>?_) (λn=>?_)
 .have a:i<zss.length:=oM;have D:=(hi i a).ext c;have f:=j.ext c;have hle:=flat_le (zss:=zss) (i+1);rw[Qq a,Q1] at hle;simp(disch:=exact oS) only[push_cast,f.iaddr,f.load];refine e.app yF D oM oM λH M y z t=>?_;have:=c.size
  try simp(disch:=omega) only[push_cast,zk]
  exact k a _ _ ⟨H,by simp<;>exact⟨rfl,rfl⟩,Ext.then c z λb l=>d b l,by rw[Qq a];exact y,λb l=>(t b l).elim (d b) λh=>oM⟩
 .rw[show i=zss.length by omega,gA] at e;exact F I r c e d
theorem un_spec {op:Int} {xv:Value} {xs:oI} (h:BdR n bb ar ab X F w st) (B:op=1\/op=2) (s:Ints (Off X F) w xv xs) (D:xs.length<=900) (d:SmL xs)
  (e:∀w' F' st' r zs,BdR n bb ar ab X F' w' st'->Mv F w F' w'->Ints (Off X F') w' r zs->SmL zs->M.Bd.Out n (M.unB op xs) st st' zs->K r w'):
  vcall QV #[oP bb 0,nI op,xv] w K:=by
 refine ze {} Tryz.func201 ?_;simp only[push_cast];unfold M.unB at e;refine zb (λc=>?_) (λc=>?_)
 .rw[X0 c] at e;refine negated_spec s oM d λw1 r a p j=>?_;exact e w1 F st r _ (h.ext a) (Mv.refl.ext a) (NewI.of p j h.lt).ints d.neg (M.Bd.Out.ret _ _)
 rw[y3 c] at e;simp(disch:=exact oS) only[push_cast,s.len];refine zb (λc2=>?_) (λc2=>oM);refine offs_spec oM λw1 ov a m l=>?_;refine negated_spec (s.ext a) oM d λw2 nv f k g=>?_;have v:=a.trans f;have E:=a.size;have hO:Ints (Off X F) w2 ov (M.offsL xs.length):=(NewI.of (m.ext f) l h.lt).ints;have z:Ints (Off X F) w2 nv (M.negL xs):=(NewI.of k (λb A=>by have:=g b A;omega) h.lt).ints;refine bsum_spec (h.ext v) hO z (by rw[M.offsL_len,M.negL_len];exact gr _) (by rw[M.offsL_len];omega) (SmL.offs _) d.neg dC λC x u r zs y i q t o=>?_;exact e C x u r zs y ((Mv.refl.ext v).trans i) q.ints t o
theorem bin_spec {op:Int} {xv yv:Value} {xs ys:oI} (h:BdR n bb ar ab X F w st) (U:∃gs,st=some gs) (u:3<=op) (a0:op<=14) (o:Ints (Off X F) w xv xs) (t:Ints (Off X F) w yv ys) (E:op≠14->xs.length=ys.length) (hc:op=14->xs.length+ys.length<=4) (D:1<=xs.length) (h8:xs.length<=8) (g:SmL xs) (j:SmL ys)
  (d:∀w' F' st' r zs,BdR n bb ar ab X F' w' st'->Mv F w F' w'->Ints (Off X F') w' r zs->SmL zs->M.Bd.Out n (M.binB op xs ys) st st' zs->K r w'):
  vcall kU #[oP bb 0,nI op,xv,yv] w K:=by
 refine ze {} Tryz.func202 ?_;obtain⟨gs,rfl⟩:=U;obtain⟨bc,Z,hC⟩:=h.blk;simp only at Z;unfold M.binB at d;simp only[push_cast,zZ xg h.err.bits.cell];refine zb (λc=>?_) (λc=>?_)
 .rw[X0 c] at d;have:=hc c;simp(disch:=exact oS) only[push_cast,o.len,t.len,zk,zZ xg h.err.bits.cell];rw[gm oM];refine Vg ?_;refine vbuildS_row1 (xs:=[yv,xv]) ZX jh qH (λx L=>by
   simp only[gj,gC,Gn] at L;rcases L with rfl|rfl
   .exact Sl.cells1 t
   .exact Sl.cells1 o) (by simp) λb1 w1 a1 s a2 O=>?_
  have hv:Vals (· =b1) w1 (.slice (some ⟨b1,0,none⟩) [yv,xv].length [yv,xv].length) [yv,xv]:=O.sl1 rfl (by simp);refine Concat_spec (zss:=[ys,xs]) hv rfl (Fy:=Off X F) (λi hi=>?_) (by simp;omega) (by simp) λw2 r Q T S=>?_
  .match i,hi with
   |0,_=>exact t.ext s
   |1,_=>exact o.ext s
  .have Y:=s.trans Q;have z1:=s.size;refine d w2 F (some gs) r (ys++xs) (h.ext Y) (Mv.refl.ext Y) (NewI.of (w:=w) (by simpa using T) (λb hb=>by have:=S b hb;omega) h.lt).ints (j.app g) (M.Bd.Out.ret _ _)
 rw[y3 c] at d;have E:=E c;simp(disch:=exact oS) only[push_cast,o.len,t.len,zZ xg h.err.bits.cell];rw[gm oM];refine Vg ?_;simp(disch:=exact oS) only[push_cast,Z.ld1,Xn];refine zb (λc=>?_) (λc=>?_)
 .rw[X0 c] at d;exact each_spec (p:=λa b=> .and a b .ret) h o t oM oM g j (λw1 V N x y W D _ B C A=>qU D B C A) λz v k r zs u e l m f=>d z v k r zs u e l.ints m f
 rw[y3 c] at d;refine zb (λc=>?_) (λc=>?_)
 .rw[X0 c] at d;exact each_spec (p:=M.orB) h o t oM oM g j (λw1 V N x y W D _ B C A=>bor_spec D B C A) λz v k r zs u e l m f=>d z v k r zs u e l.ints m f
 rw[y3 c] at d;refine zb (λc=>?_) (λc=>?_)
 .rw[X0 c] at d;exact each_spec (p:=λa b=> .xor a b .ret) h o t oM oM g j (λw1 V N x y W D _ B C A=>Yt D B C A) λz v k r zs u e l m f=>d z v k r zs u e l.ints m f
 rw[y3 c] at d;refine zb (λc=>?_) (λc=>?_)
 .rw[X0 c] at d;exact bsum_spec h o t oM oM g j dC λz v k r zs u e l m f=>d z v k r zs u e l.ints m f
 rw[y3 c] at d;refine zb (λc=>?_) (λc=>?_)
 .rw[X0 c] at d;refine negated_spec t oM j λw1 nv s R G=>?_;exact bsum_spec (h.ext s) (o.ext s) (NewI.of R G h.lt).ints (by rw[M.negL_len];omega) oM g j.neg dC λz v k r zs u e l m f=>d z v k r zs u ((Mv.refl.ext s).trans e) l.ints m f
 rw[y3 c] at d;refine zb (λc=>?_) (λc=>?_)
 .rw[X0 c] at d;exact mul_spec h o t E oM g j d
 rw[y3 c] at d;refine zb (λc=>?_) (λc=>?_)
 .rw[X0 c] at d;refine divide_spec h o t E oM g j λz v k qv rv q r u e H l I J f=>?_;refine oZ ?_;exact d z v k qv q u e H I (M.Bd.Out.map _ f)
 rw[y3 c] at d;refine zb (λc=>?_) (λc=>?_)
 .rw[X0 c] at d;refine divide_spec h o t E oM g j λz v k qv rv q r u e H l I J f=>?_;refine oZ ?_;exact d z v k rv r u e l J (M.Bd.Out.map _ f)
 rw[y3 c] at d;refine zb (λc=>?_) (λc=>?_)
 .rw[X0 c] at d;exact shift_spec h o t oM oM g j dC d
 rw[y3 c] at d;refine zb (λc=>?_) (λc=>?_)
 .rw[X0 c] at d;exact shift_spec h o t oM oM g j dC d
 rw[y3 c] at d;refine zb (λc=>?_) (λc=>oM);simp(disch:=exact oS) only[push_cast,o.len,zk,o.iaddr,o.load];rw[show((xs.length:Int)-1).toNat=xs.length-1 by omega];exact shift_spec h o t oM oM g j (g.get oM) d
theorem compare_spec {op:Int} {xv yv:Value} {xs ys:oI} (h:BdR n bb ar ab X F w st) (g:∃gs,st=some gs) (m:15<=op) (k:op<=17) (e:Ints (Off X F) w xv xs) (f:Ints (Off X F) w yv ys) (l:xs.length=ys.length) (j:1<=xs.length) (o:xs.length<=8) (b:SmL xs) (d:SmL ys)
  (a:∀w' F' st' r,BdR n bb ar ab X F' w' st'->Mv F w F' w'->Sm r->M.Bd.Out n (M.cmpB op xs ys) st st' r->K (nI r) w'):
  vcall ZM #[oP bb 0,nI op,xv,yv] w K:=by
 refine ze {} Tryz.func203 ?_;obtain⟨gs,rfl⟩:=g;obtain⟨bc,i,p⟩:=h.blk;simp only at i;unfold M.cmpB at a;simp(disch:=exact oS) only[push_cast,e.len,f.len,zZ xg h.err.bits.cell];rw[gm oM];refine Vg ?_;simp(disch:=exact oS) only[push_cast,i.ld1,Xn];refine zb (λc=>?_) (λc=>?_)
 .rw[X0 c] at a;exact bsame_spec h e f oM oM b d a
 rw[y3 c] at a;refine zb (λc=>?_) (λc=>?_)
 .rw[X0 c] at a;exact bless_spec h e f oM oM b d a
 rw[y3 c] at a;refine zb (λc=>?_) (λc=>oM);exact under_spec h e f l j oM b d a
end
section
variable {w:World} {K:oK} {F:oA}
abbrev qe (wd n:Int):Value:= .agg ⟨[nI wd,nI n]⟩
theorem pow4 {k:Nat} (a:1<=k) (b:k<=4):2<=2^k/\2^k<=16:=by
 rcases(by omega:k=1\/k=2\/k=3\/k=4) with rfl|rfl|rfl|rfl<;>decide
@[push_cast] theorem bd_Vec (a b:Int):yA zg [(0,nI a),(1,nI b)] w K=K (qe a b) w:=zU Je (us:=[[nI a],[nI b]]) rfl rfl
@[push_cast] theorem bd_VecZ:yA zg [] w K=K (qe 0 0) w:=zU Je (us:=[]) rfl rfl
theorem stVec {b:Nat} {x y:Value} {t:TypeId} {p q:Int} (h:Blk w b [x,y] t) (c:∀w',Same (· =b) w w'->w'.heap.size=w.heap.size->Blk w' b [nI p,nI q] t->K undef w'):zG zg (oP b 0) (qe p q) w K:=
 h.stAgg rfl rK (by intro v a;simp only[gj,gC,Gn] at a;rcases a with rfl|rfl<;>rfl) c
theorem WE (k:Nat):((2^k:Nat):Int)=2^k:=by simp
theorem VecOk_spec {wd n:Int} (l:∀w',Ext w w'->K (.bool (M.vok wd n)) w'):vcall yn0 #[qe wd n] w K:=by
 refine ze {} Tryz.func206 ?_;refine zj λb1 w1 m g o i=>?_;refine zd λw2 d _=>?_;have h:=i.ext d;have j:=g.trans d;simp only[push_cast,h.ld0,h.ld1,k5];have a:=l w2 j;refine zb (λf=>?_) (λf=>?_)
 .refine zb (λa2=>?_) (λa2=>?_)
  .refine zb (λa3=>?_) (λa3=>?_)
   .obtain⟨k,rfl⟩:∃k:Nat,wd=k:=⟨wd.toNat,oM⟩;have p:=pow4 (k:=k) oM oM;have e:qu .shl zE true (nI 1) (nI (k:Int)) w2=λK=>K (nI (2^k:Nat)) w2:=by
     funext K
     have:=vbin_shlI (w:=w2) (K:=K) (c:=true) (t:=zE) (yk:= .i64) (x:=1) (y:=k) oM oM;rw[Pg] at this;exact this
    rw[e];simp only[push_cast,k5];have b:M.vok (k:Int) n=decide (n<(2^k:Nat)):=by
     simp only[M.vok,gz f,gz a2,gz a3,pL,gu,WE]
    rw[b,WE] at a;exact a
   .have b:M.vok wd n=false:=(by simp only[M.vok,gm a3,pW,GU]);rw[b] at a;exact a
  .have b:M.vok wd n=false:=(by simp only[M.vok,gm a2,pW,GU]);rw[b] at a;exact a
 .have b:M.vok wd n=false:=(by simp only[M.vok,gm f,GU]);rw[b] at a;exact a
theorem cut_spec {n k:Nat} (d:n<18446744073709551616) (a:1<=k) (b:k<=4) (c:K (.int .u64 (n%2^k:Nat)) w):vcall VQ #[.int .u64 n,nI k] w K:=by
 refine ze {} Tryz.func418 ?_;have e:=pow4 a b;rw[show(1:Int)=((1:Nat):Int) from rfl,vbin_shlU oM oM,Pg,Yw,show((2^k:Nat):Int)-((1:Nat):Int)=((2^k-1:Nat):Int) by omega,wrapU oM,ZT d oM,Pr];exact c
theorem bit_spec {n k:Nat} (f:n<18446744073709551616) (c:k<64) (b:K (.bool (decide (n/2^k%2=1))) w):vcall VR #[.int .u64 n,nI k] w K:=by
 refine ze {} Tryz.func197 ?_;have d:n/2^k<=n:=GI _ _;rw[vbin_shrU c,show(1:Int)=((1:Nat):Int) from rfl,ZT oM oM,xu0];have e:n/2^k&&&1=n/2^k%2:=Nat.and_one_is_mod _;rw[e];have a:decide (((n/2^k%2:Nat):Int)=((1:Nat):Int))=decide (n/2^k%2=1):=by
  by_cases h:n/2^k%2=1
  .rw[h];simp
  .rw[gm h,gm];omega
 rw[a];exact b
theorem raw_spec {wd:Int} {n:Nat} (f:n<9223372036854775808) (c:∀w',Ext w w'->K (.int .u64 n) w'):vcall Z6 #[qe wd n] w K:=by
 refine ze {} Tryz.func239 ?_;refine zj λb1 w1 d a e b=>?_;simp only[push_cast,b.ld1];rw[qI Wz V6,wrapU oM];exact c _ a
theorem ones_spec {k:Nat} {n:Int} (c:1<=k) (d:k<=4) (e:∀w',Ext w w'->K (.int .u64 (2^k-1:Nat)) w'):vcall KM #[qe k n] w K:=by
 refine ze {} Tryz.func398 ?_;refine zj λb1 w1 f a g b=>?_;simp only[push_cast,b.ld0];have h:=pow4 c d;rw[show(1:Int)=((1:Nat):Int) from rfl,vbin_shlU oM oM,Pg,Yw,show((2^k:Nat):Int)-((1:Nat):Int)=((2^k-1:Nat):Int) by omega,wrapU oM];exact e _ a
theorem vec_spec {k n:Nat} {x:Int} (q:n<18446744073709551616) (h:1<=k) (i:k<=4) (j:∀w',Ext w w'->K (qe k (n%2^k:Nat)) w'):vcall VY #[qe k x,.int .u64 n] w K:=by
 refine ze {} Tryz.func417 ?_;have z:=pow4 h i;have hm:n%2^k<2^k:=pS _ oM;refine zj λb1 w1 o c r e=>?_;refine zi zY λb2 w2 p b s f=>?_;refine zd λA a _=>?_;have l:=(e.ext b).ext a;have u:=f.ext a;simp only[push_cast,l.ld0,k5];refine cut_spec q h i ?_;obtain⟨m,d⟩:∃m,m=n%2^k:=⟨_,rfl⟩;rw[<-d] at hm j⊢;simp only[push_cast,l.ld0,k5,gi];rw[qI Kk Qo,wrapN oM];simp only[push_cast,k5];refine stVec u λB g _ v=>?_;rw[v.lv rK];exact j _ (Ext.then ((c.trans b).trans a) g λy t=>by subst t;omega)
theorem strF_low {k n:Nat} (c:1<=k) (d:k<=4) (e:n<2^k):n|||((18446744073709551615-(2^k-1))&&&4294967295)=n+(4294967296-2^k):=by
 have b:∀v:Fin 5,∀a:Fin 16,1<=v.1->a.1<2^v.1->a.1|||((18446744073709551615-(2^v.1-1))&&&4294967295)=a.1+(4294967296-2^v.1):=by decide+kernel
 have f:=pow4 c d;exact b ⟨k,oM⟩ ⟨n,oM⟩ c e
theorem top_bit {k n:Nat} (c:1<=k) (d:k<=4) (e:n<2^k):decide (n/2^(k-1)%2=1)=decide (¬n<2^(k-1)):=by
 have b:∀v:Fin 5,∀a:Fin 16,1<=v.1->a.1<2^v.1->decide (a.1/2^(v.1-1)%2=1)=decide (¬a.1<2^(v.1-1)):=by decide+kernel
 have f:=pow4 c d;exact b ⟨k,oM⟩ ⟨n,oM⟩ c e
def Ye0 (k n:Nat):Nat:=if n<2^(k-1) then n else n+(4294967296-2^k)
theorem stretched_spec {k n:Nat} (f:1<=k) (g:k<=4) (q:n<2^k) (p:∀w',Ext w w'->K (.int .u64 (Ye0 k n:Nat)) w'):vcall YN #[qe k n] w K:=by
 refine ze {} Tryz.func434 ?_;have z:=pow4 f g;refine zj λb1 w1 u d v i=>?_;refine zd λA b _=>?_;have j:=i.ext b;simp only[push_cast,j.ld0,j.ldAgg (t:=zg) zt,k5];have o:IntKind.i64.wrap ((k:Int)-1)=((k-1:Nat):Int):=by rw[zk oM oM];omega
 rw[o];refine raw_spec oM λB c=>?_;have l:=j.ext c;simp only[push_cast,l.ld0,k5,o];refine bit_spec oM oM ?_;rw[top_bit f g q];refine zb (λm=>?_) (λm=>?_)
 .refine zd λC e _=>?_;have r:=l.ext e;simp only[push_cast,r.ldAgg (t:=zg) zt,k5];refine raw_spec oM λs a=>?_;have x:=r.ext a;simp only[push_cast,x.ldAgg (t:=zg) zt,k5];refine ones_spec f g λy h=>?_;rw[vun_xorU oM];refine⟨rfl,?_⟩;rw[show(4294967295:Int)=((4294967295:Nat):Int) from rfl,ZT oM oM];refine⟨rfl,?_⟩;have hle:(18446744073709551615-(2^k-1))&&&4294967295<=4294967295:=Nat.and_le_right;rw[xr0 oM oM];refine⟨rfl,?_⟩;have:=p y (((((d.trans b).trans c).trans e).trans a).trans h);unfold Ye0 at this;rw[y3 m] at this;rw[strF_low f g q];exact this
 .simp only[push_cast,l.ldAgg (t:=zg) zt,k5];refine raw_spec oM λs a=>?_;have:=p s (((d.trans b).trans c).trans a);unfold Ye0 at this;rw[X0 oM] at this;exact this
theorem pre2 {k a b:Nat} (D:a<16) (E:b<16) {X:Value->oK} (s:∀w',Ext w w'->X (.int .u64 a) (.int .u64 b) w'):
  yO0 zg (qe k a) w λt2 m=>
  yO0 zg (qe k b) m λt3 n=>
  ZK n λc=>
  zu zg t2 c λt5 o=>o=c/\
  zu zg t3 c λt7 p=>p=c/\
  vcall Z6 #[t5] c λt6 e=>(zu zg t3 e λv x=>v=t7/\x=e)/\
  vcall Z6 #[t7] e λt8 q=>X t6 t8 q:=by
 refine zj λb1 w1 u h z j=>?_;refine zj λb2 w2 y f A l=>?_;refine zd λF d _=>?_;have B:=(j.ext f).ext d;have r:=l.ext d;simp only[push_cast,B.ldAgg (t:=zg) zt,r.ldAgg (t:=zg) zt,k5];refine raw_spec oM λG g=>?_;have C:=r.ext g;simp only[push_cast,C.ldAgg (t:=zg) zt,k5,gi];refine raw_spec oM λH i=>?_;exact s _ ((((h.trans f).trans d).trans g).trans i)
theorem pow16 {k a:Nat} (b:k<=4) (c:a<2^k):a<16:=by
 have:2^k<=2^4:=gN oM b;omega
def OpR (K:oK) (w:World) (op k a b:Nat):Prop:=∀w' (r:Nat),Ext w w'->r<18446744073709551616->r%2^k=M.binN op k a b->K (.int .u64 r) w'
theorem bin_ck {f:Nat->Nat->Nat->Nat} {op:Nat} (h:∀v:Fin 5,(List.range 16).all (λa=>(List.range 16).all λb=> !(decide (1<=v.1)&&decide (a<2^v.1)&&decide (b<2^v.1))||decide (f v.1 a b%2^v.1=M.binN op v.1 a b))=true) {k a b:Nat} (g:1<=k) (c:k<=4) (d:a<2^k) (e:b<2^k):f k a b%2^k=M.binN op k a b:=by
 have:=h ⟨k,oM⟩;simp only[gQ,gJ,Gm,gS,GH,decide_eq_false_iff_not,V0] at this;rcases this a (pow16 c d) b (pow16 c e) with(⟨h|h⟩|h)|h
 .exact absurd g h
 .exact absurd d h
 .exact absurd e h
 .exact h
theorem mul225 {a b:Nat} (c:a<16) (d:b<16):a*b<=225:=by
 have:=z0e (show a<=15 by omega) (show b<=15 by omega);omega
theorem shl_small {a b:Nat} (d:a<16) (e:b<16):a*2^b<=524288:=by
 have c:2^b<=2^15:=gN oM oM;have:=z0e (show a<=15 by omega) c;omega
theorem strN_lt {k n:Nat} (a:1<=k) (b:k<=4) (c:n<2^k):Ye0 k n<4294967296:=by
 have:=pow4 a b;unfold Ye0;split<;>omega
theorem binaries_1_spec {k a b:Nat} (g:1<=k) (e:k<=4) (h:a<2^k) (i:b<2^k) (j:OpR K w 3 k a b):vcall xp #[qe k a,qe k b] w K:=by
 have c:=pow16 e h;have d:=pow16 e i;have l:=pow4 g e;refine ze {} Tryz.func423 ?_;refine pre2 c d λw1 he=>?_;rw[ZT oM oM];exact⟨rfl,j _ _ he (PH Nat.and_le_left oM) (bin_ck (f:=λk a b=>a&&&b) (by decide+kernel) g e h i)⟩
theorem binaries_2_spec {k a b:Nat} (g:1<=k) (e:k<=4) (h:a<2^k) (i:b<2^k) (j:OpR K w 4 k a b):vcall xo #[qe k a,qe k b] w K:=by
 have c:=pow16 e h;have d:=pow16 e i;have l:=pow4 g e;refine ze {} Tryz.func424 ?_;refine pre2 c d λw1 he=>?_;rw[xr0 oM oM];exact⟨rfl,j _ _ he (Nat.lt_trans (PR (n:=4) c d) dC) (bin_ck (f:=λk a b=>a|||b) (by decide+kernel) g e h i)⟩
theorem binaries_3_spec {k a b:Nat} (g:1<=k) (e:k<=4) (h:a<2^k) (i:b<2^k) (j:OpR K w 5 k a b):vcall xn #[qe k a,qe k b] w K:=by
 have c:=pow16 e h;have d:=pow16 e i;have l:=pow4 g e;refine ze {} Tryz.func425 ?_;refine pre2 c d λw1 he=>?_;rw[j50 oM oM];exact⟨rfl,j _ _ he (Nat.lt_trans (Nat.xor_lt_two_pow (n:=4) c d) dC) (bin_ck (f:=λk a b=>a^^^b) (by decide+kernel) g e h i)⟩
theorem binaries_4_spec {k a b:Nat} (g:1<=k) (e:k<=4) (h:a<2^k) (i:b<2^k) (j:OpR K w 6 k a b):vcall xm #[qe k a,qe k b] w K:=by
 have c:=pow16 e h;have d:=pow16 e i;have l:=pow4 g e;refine ze {} Tryz.func426 ?_;refine pre2 c d λw1 he=>?_;rw[XS,show(a:Int)+(b:Int)=((a+b:Nat):Int) by omega,wrapU oM];exact⟨rfl,j _ _ he oM (bin_ck (f:=λk a b=>a+b) (by decide+kernel) g e h i)⟩
theorem binaries_5_spec {k a b:Nat} (h:1<=k) (g:k<=4) (i:a<2^k) (j:b<2^k) (l:OpR K w 7 k a b):vcall xl #[qe k a,qe k b] w K:=by
 have c:=pow16 g i;have d:=pow16 g j;have m:=pow4 h g;refine ze {} Tryz.func427 ?_;refine pre2 c d λw1 he=>?_;have e:IntKind.u64.wrap ((a:Int)-(b:Int))=((if b<=a then a-b else 18446744073709551616+a-b:Nat):Int):=by
  simp only[IntKind.wrap,IntKind.bits,IntKind.signed,GU,Gd,if_false];split<;>omega
 rw[Yw,e];exact⟨rfl,l _ _ he (by split<;>omega) (bin_ck (f:=λk a b=>if b<=a then a-b else 18446744073709551616+a-b) (by decide+kernel) h g i j)⟩
theorem binaries_6_spec {k a b:Nat} (g:1<=k) (e:k<=4) (h:a<2^k) (i:b<2^k) (j:OpR K w 8 k a b):vcall xk #[qe k a,qe k b] w K:=by
 have c:=pow16 e h;have d:=pow16 e i;have l:=pow4 g e;refine ze {} Tryz.func428 ?_;refine pre2 c d λw1 he=>?_;have hm:=mul225 c d;rw[kK0,show(a:Int)*(b:Int)=((a*b:Nat):Int) by simp,wrapU oM];exact⟨rfl,j _ _ he oM (bin_ck (f:=λk a b=>a*b) (by decide+kernel) g e h i)⟩
theorem binaries_7_spec {k a b:Nat} (l:1<=k) (h:k<=4) (s:a<2^k) (u:b<2^k) (m:OpR K w 9 k a b):vcall xj #[qe k a,qe k b] w K:=by
 have n:=pow16 h s;have o:=pow16 h u;have E:=pow4 l h;refine ze {} Tryz.func429 ?_;refine zj λb1 w1 v e y j=>?_;refine zj λb2 w2 x d z g=>?_;have p:=j.ext d;simp only[push_cast,g.ld1];refine zb (λr=>?_) (λr=>?_)
 .simp only[push_cast,p.ldAgg (t:=zg) zt];refine ones_spec l h λC c=>m _ _ ((e.trans d).trans c) oM ?_;have:b=0:=oM;subst this;rw[Gz oM];simp[M.binN]
 .refine zd λC c _=>?_;have A:=p.ext c;have q:=g.ext c;simp only[push_cast,A.ldAgg (t:=zg) zt,q.ldAgg (t:=zg) zt,k5];refine raw_spec oM λF f=>?_;have B:=q.ext f;simp only[push_cast,B.ldAgg (t:=zg) zt,k5,gi];refine raw_spec oM λG i=>?_;have D:a/b<=a:=GI _ _;rw[kN oM,show(a:Int).tdiv (b:Int)=((a/b:Nat):Int) from rfl,wrapU oM];refine⟨rfl,m _ _ ((((e.trans d).trans c).trans f).trans i) oM ?_⟩;rw[Gz oM];simp[M.binN,show b≠0 by omega]
theorem binaries_8_spec {k a b:Nat} (r:1<=k) (h:k<=4) (s:a<2^k) (u:b<2^k) (l:OpR K w 10 k a b):vcall xi #[qe k a,qe k b] w K:=by
 have m:=pow16 h s;have n:=pow16 h u;have E:=pow4 r h;refine ze {} Tryz.func430 ?_;refine zj λb1 w1 v e y j=>?_;refine zj λb2 w2 x d z g=>?_;have o:=j.ext d;simp only[push_cast,g.ld1];refine zb (λq=>?_) (λq=>?_)
 .simp only[push_cast,o.ldAgg (t:=zg) zt];refine raw_spec oM λC c=>l _ _ ((e.trans d).trans c) oM ?_;have:b=0:=oM;subst this;rw[Gz oM];simp[M.binN]
 .refine zd λC c _=>?_;have A:=o.ext c;have p:=g.ext c;simp only[push_cast,A.ldAgg (t:=zg) zt,p.ldAgg (t:=zg) zt,k5];refine raw_spec oM λF f=>?_;have B:=p.ext f;simp only[push_cast,B.ldAgg (t:=zg) zt,k5,gi];refine raw_spec oM λG i=>?_;have D:a%b<=a:=Nat.mod_le _ _;rw[Zk oM,show(a:Int).tmod (b:Int)=((a%b:Nat):Int) from rfl];refine⟨rfl,l _ _ ((((e.trans d).trans c).trans f).trans i) oM ?_⟩;rw[Gz oM];simp[M.binN,show b≠0 by omega]
theorem binaries_9_spec {k a b:Nat} (g:1<=k) (e:k<=4) (h:a<2^k) (i:b<2^k) (j:OpR K w 11 k a b):vcall xh #[qe k a,qe k b] w K:=by
 have c:=pow16 e h;have d:=pow16 e i;have l:=pow4 g e;refine ze {} Tryz.func431 ?_;refine pre2 c d λw1 he=>?_;have hm:=shl_small c d;rw[vbin_shlU oM oM];exact⟨rfl,j _ _ he oM (bin_ck (f:=λk a b=>a*2^b) (by decide+kernel) g e h i)⟩
theorem binaries_10_spec {k a b:Nat} (g:1<=k) (e:k<=4) (h:a<2^k) (i:b<2^k) (j:OpR K w 12 k a b):vcall xe #[qe k a,qe k b] w K:=by
 have c:=pow16 e h;have d:=pow16 e i;have l:=pow4 g e;refine ze {} Tryz.func432 ?_;refine pre2 c d λw1 he=>?_;have hm:=GI a (2^b);rw[vbin_shrU oM];exact⟨rfl,j _ _ he oM (bin_ck (f:=λk a b=>a/2^b) (by decide+kernel) g e h i)⟩
theorem binaries_11_spec {k a b:Nat} (h:1<=k) (d:k<=4) (i:a<2^k) (p:b<2^k) (s:OpR K w 13 k a b):vcall xd #[qe k a,qe k b] w K:=by
 have o:=pow16 d i;have q:=pow16 d p;have B:=pow4 h d;refine ze {} Tryz.func433 ?_;refine zj λb1 w1 u j x m=>?_;refine zj λb2 w2 v e y n=>?_;refine zd λC c _=>?_;have z:=(m.ext e).ext c;have r:=n.ext c;simp only[push_cast,z.ldAgg (t:=zg) zt,r.ldAgg (t:=zg) zt,k5];refine stretched_spec h d i λD g=>?_;have A:=r.ext g;simp only[push_cast,A.ldAgg (t:=zg) zt,k5,gi];refine raw_spec oM λE l=>?_;have hs:=strN_lt h d i;have hm:=GI (Ye0 k a) (2^b);rw[vbin_shrU oM];exact⟨rfl,s _ _ ((((j.trans e).trans c).trans g).trans l) oM (bin_ck (f:=λk a b=>Ye0 k a/2^b) (by decide+kernel) h d i p)⟩
end
end Go.Proofs.YtfnpmncplaibiaaGreatDoor
end
