import Derived.Test.YtfnpmncplaibiaaGreatDoorWqaP8
/- A part of the proof. -/
set_option linter.all false
set_option maxRecDepth 9999
set_option maxHeartbeats 2000000
noncomputable section
namespace Go.Proofs.YtfnpmncplaibiaaGreatDoor
open Go Go.Vc Go.Proofs
section
variable {w:World} {K:oK} {D F Fx Y S:oA} {n b4 b8:Nat} {gs:M.Gs} {v nv:Value} {cs':List Value}
theorem net_one {a:Int} {o:Option Addr} {l c:Nat}:∀u,u∈[nI a,.slice o l c]->u.oneCell'=true:=λu hu=>by
 simp only[gk,gE,Gn] at hu;rcases hu with rfl|rfl<;>rfl
theorem jz0 {op:BinOp} (a:op= .eql\/op= .neq) (c:Bool) (x y:Array Value):(eqG op zo c (.agg x) (.agg y)).run P w= .ok () w:=by
 rcases a with rfl|rfl<;>cases c<;>kernel_rfl
theorem yU0 {c:Bool} (g h:M.Gt):qb .eql zo c (gv g) (gv h) w K=K (.bool (decide (g=h))) w:=by
 have a:(Op.equal zo (gv g) (gv h)).run P w= .ok (decide (g=h)) w:=eqGate g h w;refine yl (jz0 (.inl rfl) c _ _) ?_;have e:∀xs ys:Array Value,binOp .eql zo (.agg xs) (.agg ys)=(do let b <-Op.equal zo (.agg xs) (.agg ys);pure (Value.bool b)):=λ_ _=>rfl;unfold gv at a⊢;rw[e,Sem.run_bind,a];rfl
abbrev GOff (D:oA) (w:World) (v:Value) (gs:M.Gs):Prop:=GatesR (λb=> ¬D b) w v gs
theorem GOff.swap {w':World} (h:GOff D w v gs) (hw:Same S w w') (d:∀b,S b->D b) (e:∀b,Y b->b<w.heap.size->D b):GOff Y w' v gs:=by
 have c:GatesR (λb=> ¬D b/\b<w.heap.size) w v gs:=Sl.weaken h λb a f=>⟨a,f⟩;exact Sl.weaken (Sl.same c hw λb a _ hs=>a.1 (d b hs)) λb a _ g=>a.1 (e b g a.2)
theorem gates_app {x:Value} {b1:Nat} {t0:TypeId} {g:M.Gt} (q:GatesR Fx w x gs) (l:Blk w b1 (yf g) t0) (s:gs.length<=1000) (o:OwnG w v []) (p:∀b,v.ownBlock=some b->b≠b1)
  (m:∀w' v',OwnG w' v' (gs++[g])->Same (λb=>v.ownBlock=some b\/w.heap.size<=b) w w'->(∀b,v'.ownBlock=some b->v.ownBlock=some b\/w.heap.size<=b)->K v' w'):
  vbi .append [zB,zB] zB [v,x] w λt w1=>vbi .append [zB,zB] zB [t,.slice (some ⟨b1,0,none⟩) 1 1] w1 K:=by
 refine vappend (bs:=24) qE dC o q (gone gs) oM (by rw[gd];simp;omega) (by rw[gd];simp;omega) λv' w2 i a c=>?_;have n:=l.lt;refine Own.app1k (bs:=24) i qE dC (l.same a λe=>p _ e rfl) rfl (gone [g] _ (by simp)) (by simp;omega) (by simp;omega) λv3 r j k f=>?_;have s2:=a.size;refine m r v3 (by unfold OwnG;rw[gG];exact j) (Same.thn (a.mono λb _ h=> .inl h) (k.mono λb _ h=>h) λb d=> .inl ((c b d).imp id id)) λb d=>?_;rcases f b d with h|h
 .exact c b h
 .exact .inr oM
theorem sput_spec {g:M.Gt} (hn:n<=8) (hg:GOff D w nv gs) (hl:gs.length<=600) (hD:∀b,D b->b<w.heap.size)
  (hK:∀w' n' gv',Ext w w'->GOff D w' gv' (if(M.putG n gs g).2=0 then[] else(M.putG n gs g).1)->(n'=if(M.putG n gs g).2=0 then 0 else n)->((M.putG n gs g).2=0->gv'= oN)->K (.tuple #[.agg ⟨[nI (n':Nat),gv']⟩,nI (M.putG n gs g).2]) w'):
  vcall Jr #[.agg ⟨[nI n,nv]⟩,.agg ⟨yf g⟩] w K:=by
 refine zf {loops:=[(2,[6])],cuts:=[(36873,[])]} Tryz.func267 ?_;refine zk λb1 w1 aw W b0 ae=>?_;refine zk λb2 w2 ax Q b4 af=>?_;refine zj j0 λb3 w3 ay a2 b5 a1=>?_;have e3:=W.trans (Q.trans a2);have a6:=ae.ext (Q.trans a2);have a7:=af.ext a2;have X:∀w':World,Blk w' b2 (yf g) zo->∀K:oK,zu zo (oP b2 0) w' K=K (.agg ⟨yf g⟩) w':=λw' hB K=>Blk.ldAgg hB (by exact xN);have hlen:∀(w':World) (K:oK),vbi .len [zB] zE [nv] w' K=K (nI gs.length) w':=λw' K=>by rw[Sl.len hg qh,xH0]
 obtain⟨go,gc,am,_⟩:=hg.shape;have aa:∀i,i<gs.length->gs.getD i ⟨false,0,0⟩=g->g∉gs.take i->(M.putG n gs g)=(gs,(2+n+i:Int)):=λi hi h1 h2=>by
  have hm:g∈gs:=h1▸M.getD_mem hi _;unfold M.putG;rw[V0 hm];have:gs.idxOf g=i:=by
   have e:=pd i gs;have h3:gs.drop i=gs.getD i ⟨false,0,0⟩::gs.drop (i+1):=by
    rw[P3 hi,X0,gj hi];rfl
   rw[<-e,Pa,Q1 h2,h3,h1,List.idxOf_cons_self,gi];omega
  rw[this]
 refine vloop_up gs.length (λi u w'=>u=[nI i]/\Ext w3 w'/\g∉gs.take i) ⟨rfl,Same.refl _ _,by simp⟩ ?_;rintro i _ _ w4 C hi ⟨rfl,r,R⟩ hC;have B:=a6.ext r;have Z:=a7.ext r;have e4:=e3.trans r;simp(disch:=first|omega|simp only[push_cast]) only[push_cast,B.ld1,hlen];refine zb (λa=>?_) (λa=>?_)
 .have z:i<gs.length:=oM;refine zd λH l _=>?_;have j:=B.ext l;have E:=Z.ext l;have a9:GOff D H nv gs:=Sl.ext hg (e4.trans l);have al:(gs.map yf).getD i []=yf (gs.getD i ⟨false,0,0⟩):=M.getD_map _ z _ _;simp(disch:=first|omega|simp only[push_cast]) only[push_cast,j.ld1,K3];rw[Sl.iaddr a9 Yr oM (by rw[xH0];omega),gu];simp(disch:=first|omega|simp only[push_cast]) only[push_cast,K3];rw[Sl.ldAgg a9 xN (by rw[xH0];exact z),al];simp(disch:=first|omega|simp only[push_cast]) only[push_cast,K3,X _ E];rw[show(Value.agg ⟨yf (gs.getD i ⟨false,0,0⟩)⟩)=gv (gs.getD i ⟨false,0,0⟩) from rfl,show(Value.agg ⟨yf g⟩)=gv g from rfl,yU0];refine⟨rfl,?_⟩;refine zb (λc=>?_) (λc=>?_)
  .have hp:=aa i z c R;rw[hp] at hK;refine zd λI f _=>?_;have d:=j.ext f;have O:=(a1.ext (r.trans l)).ext f;subst am;simp(disch:=first|omega|simp only[push_cast]) only[push_cast,d.ld0,d.ldAgg (t:=zx) y0,K3,zi];refine O.stAgg (cs':=[nI n,.slice go (gs.map yf).length gc]) rfl y0 net_one λv m Y q=>?_;have e7:Ext w v:=Ext.then ((e4.trans l).trans f) m λb p=>by have:=W.size;have:=Q.size;omega
   have k:=d.same m (show¬b1=b3 by omega);simp(disch:=first|omega|simp only[push_cast]) only[push_cast,k.ld0,K3,gm,zi];rw[q.lv (t:=zx) y0];refine hK v n _ e7 ?_ ?_ ?_
   .rw[Q1 (by show(2+(n:Int)+i)≠0;omega)];exact Sl.ext hg e7
   .rw[Q1 (by show(2+(n:Int)+i)≠0;omega)]
   .intro h;exfalso;revert h;show(2+(n:Int)+i)=0->False;omega
  .simp(disch:=omega) only[push_cast,zi];refine hC z _ _ ⟨by simp,r.trans l,?_⟩;rw[M.take_add z ⟨false,0,0⟩];intro h;rcases gq.1 h with h|h
   .exact R h
   .exact c (gD.1 h).symm
 .have z:i=gs.length:=oM;subst z;rw[gF] at R
  try simp(disch:=first|omega|simp only[push_cast]) only[push_cast,B.ld1,hlen]
  refine zb (λc=>?_) (λc=>?_)
  .have hp:M.putG n gs g=(gs,0):=by unfold M.putG;rw[Q1 R,V0 oM]
   rw[hp] at hK;rw[Ye0];refine(a1.ext r).stAgg (cs':=[nI 0,oN]) rfl y0 net_one λv m Y q=>?_;rw[q.lv (t:=zx) y0];have e7:Ext w v:=Ext.then e4 m λb p=>by have:=W.size;have:=Q.size;omega
   exact hK v 0 _ e7 (by rw[V0 rfl];exact GatesR.nil) (by rw[V0 rfl]) λ_=>rfl
  .have hp:M.putG n gs g=(gs++[g],(2+n+gs.length:Int)):=by unfold M.putG;rw[Q1 R,Q1 oM]
   rw[hp] at hK;have s1:=W.size;have s2:=Q.size;have s4:=e4.size;have bb:=r.size;refine zp (λu w'=>u=[]/\Ext w w'/\∃v',Blk w' b1 [nI n,v'] zx/\Blk w' b3 [nI 0,oN] zx/\OwnG w' v' (gs++[g])/\∀b,v'.ownBlock=some b->w.heap.size<=b/\b≠b1/\b≠b3) ?_ ?_
   .intro J hJ;refine zd λH l _=>?_;have e5:=e4.trans l;have j:=B.ext l;have E:=Z.ext l;have N:=(a1.ext r).ext l;have s5:=l.size;have fin:∀(U:World) (v':Value),Same (λb=>H.heap.size<=b) H U->OwnG U v' (gs++[g])->(∀b,v'.ownBlock=some b->H.heap.size<=b)->zy zB (oE (Addr.add ⟨b1,0,none⟩ 1)) v' U λ_ ad=>J [] ad:=λU v' L A G=>by
     have e8:Ext H U:=⟨L.os,L.tape,L.output,L.size,λi hi _=>L.block i hi oM⟩;refine Blk.st (i:=1) (j.ext e8) (Sl.cells1 (Own.sl A)) (Sl.one (Own.sl A)) Jn rfl λw9 T ba ah=>?_;refine hJ _ _ ⟨rfl,Ext.then (e5.trans e8) T λb p=>oM,v',ah,(N.ext e8).same T (show¬b3=b1 by omega),Own.same A T (λb p e=>by have:=G b p;omega),λb p=>by have:=G b p;omega⟩
    simp(disch:=first|omega|simp only[push_cast]) only[push_cast,j.ld1,X _ E,K3,Gq];have mk:∀(I:World) (K:oK),(∀b7 v,b7=I.heap.size->Ext I v->v.heap.size=I.heap.size+1->Blk v b7 (yf g) zo->K (.slice (some ⟨b7,0,none⟩) 1 1) v)->vbuildS zB 1 [(0,.agg ⟨yf g⟩)] I K:=λI K h=>
     qH jm rK kM (y:=yf g) rfl rfl (show 3<=16777216 by decide) h
    have nil:∀{I:World} {F:Nat},Blk I F [] zo->OwnG I (.slice (some ⟨F,0,none⟩) 0 0) []:=λh=>Blk.ownk (css:=[]) (by rw[Qs];exact h) (λx hx=>by cases hx) rfl oM;refine⟨?_,?_⟩
    .refine y7 jm Xj λF I aj f av V=>?_;have d:=j.ext f;have a0:=E.ext f;simp(disch:=first|omega|simp only[push_cast]) only[push_cast,d.ld1,X _ a0,K3,Gq,gm];refine⟨?_,?_⟩
     .refine vappend (bs:=24) qE dC (nil V) (Sl.ext hg (e5.trans f)) (gone gs) oM (by rw[gd];simp;omega) (by rw[gd];simp;omega) λv7 v aq m an=>?_;have s7:=m.size;have a8:=a0.same m λe=>by have e:F=b2:=gg e;omega
      simp(disch:=first|omega|simp only[push_cast]) only[push_cast,X _ a8,K3,Gq,gm];refine mk v _ λb8 U az a3 b9 ag=>?_;have n7:∀b,v7.ownBlock=some b->H.heap.size<=b:=λb p=>(an b p).elim (λe=>by have e:F=b:=gg e;omega) λh=>oM;refine Own.app1k (bs:=24) (Own.ext aq a3) qE dC ag rfl (gone [g] _ (by simp)) (by simp;omega) (by simp;omega) λv9 w9 ar T ao=>?_
      try simp(disch:=first|omega|simp only[push_cast]) only[push_cast,K3,Gq,gm]
      have s8:=a3.size;refine fin w9 v9 (Same.thn (((Same.of_ext f).trans (m.mono (S':=λb=>H.heap.size<=b) λb _ e=>by have e:F=b:=gg e;omega)).trans (Same.of_ext a3)) (T.mono (S':=λb=>H.heap.size<=b) λb _ e=>n7 b e) λb p=> .inl p) (by unfold OwnG;rw[gG];exact ar) λb p=>(ao b p).elim (n7 b) λh=>oM
     .refine mk I _ λb7 v ak s Y q=>?_;have k:=d.ext s;simp(disch:=first|omega|simp only[push_cast]) only[push_cast,k.ld1,K3,Gq,gm];refine gates_app (Sl.ext hg ((e5.trans f).trans s)) q oM (nil (V.ext s)) (λb e=>by have e:F=b:=gg e;omega) λU v8 A a5 G=>?_
      try simp(disch:=first|omega|simp only[push_cast]) only[push_cast,K3,Gq,gm]
      refine fin U v8 (((Same.of_ext (f.trans s))).trans (a5.mono (S':=λb=>H.heap.size<=b) λb _ e=>e.elim (λe=>by have e:F=b:=gg e;omega) λh=>oM)) A λb p=>(G b p).elim (λe=>by have e:F=b:=gg e;omega) λh=>oM
    .refine mk H _ λb7 v ak s Y q=>?_;have k:=j.ext s;simp(disch:=first|omega|simp only[push_cast]) only[push_cast,k.ld1,K3,Gq,gm];refine y7 jm Xj λF I aj f av V=>?_;have d:=k.ext f;simp(disch:=first|omega|simp only[push_cast]) only[push_cast,d.ld1,K3,Gq,gm];refine gates_app (Sl.ext hg ((e5.trans s).trans f)) (q.ext f) oM (nil V) (λb e=>by have e:F=b:=gg e;omega) λU v8 A a5 G=>?_
     try simp(disch:=first|omega|simp only[push_cast]) only[push_cast,K3,Gq,gm]
     refine fin U v8 (((Same.of_ext (s.trans f))).trans (a5.mono (S':=λb=>H.heap.size<=b) λb _ e=>e.elim (λe=>by have e:F=b:=gg e;omega) λh=>oM)) A λb p=>(G b p).elim (λe=>by have e:F=b:=gg e;omega) λh=>oM
   rintro _ _ H ⟨rfl,e5,v',j,N,a4,ac⟩;refine zd λI f _=>?_;have d:=j.ext f;have ap:=Own.ext a4 f;have O:=N.ext f;have ab:∀(w':World) (K:oK),vbi .len [zB] zE [v'] w' K=K (nI ((gs.length+1:Nat):Int)) w':=λw' K=>by
    rw[Sl.len (Own.sl a4) qh,gd,V1];rfl
   obtain⟨o,c',au,_⟩:=(Own.sl a4).shape;simp(disch:=first|omega|simp only[push_cast]) only[push_cast,d.ld0,d.ld1,ab,d.ldAgg (t:=zx) y0,K3,zi];subst au;refine O.stAgg (cs':=[nI n,.slice o (List.map yf (gs++[g])).length c']) rfl y0 net_one λv m Y q=>?_;have k:=d.same m (show¬b1=b3 by omega);simp(disch:=first|omega|simp only[push_cast]) only[push_cast,k.ld0,k.ld1,ab,K3,gm,zi];rw[q.lv (t:=zx) y0];have e7:Ext w v:=Ext.then (e5.trans f) m λb p=>oM;have S:(2+(n:Int)+gs.length)≠0:=oM;have ai:=hK v n (.slice o (List.map yf (gs++[g])).length c') e7 (by rw[Q1 S];exact Sl.weaken (Own.sl (Own.same ap m λb p e=>(ac b p).2.2 e)) λb p _ hd=>by have:=hD b hd;have:=(ac b p).1;omega) (by rw[Q1 S]) λh=>absurd h S;rwa[show(2+(n:Int)+gs.length)=1+n+((gs.length+1:Nat):Int) by omega] at ai
end
section
variable {w:World} {K:oK} {D F Y S:oA} {n b8:Nat} {gs:M.Gs} {v nv:Value} {cs cs':List Value} {a b m:Int}
def NetO (n:Nat) (D:oA) (w:World) (gs:M.Gs) (m:Int) (cs:List Value):Prop:=
 if m=0 then cs=[nI 0,.slice none 0 0] else ∃o l c,cs=[nI n,.slice o l c]/\GOff D w (.slice o l c) gs/\gs.length<=600
theorem NetO.form (h:NetO n D w gs m cs):∃(x:Int) (o:Option Addr) (l c:Nat),cs=[nI x,.slice o l c]:=by
 unfold NetO at h;split at h
 .exact⟨_,_,_,_,h⟩
 .obtain⟨o,l,c,e,_⟩:=h;exact⟨_,_,_,_,e⟩
theorem NetO.len (h:NetO n D w gs m cs):cs.length=2:=by obtain⟨x,o,l,c,rfl⟩:=h.form;rfl
theorem NetO.one (h:NetO n D w gs m cs):∀u,u∈cs->u.oneCell'=true:=by obtain⟨x,o,l,c,rfl⟩:=h.form;exact net_one
theorem NetO.same {w':World} (h:NetO n D w gs m cs) (hw:Same S w w') (f:∀b,S b->D b):NetO n D w' gs m cs:=by
 unfold NetO at h⊢;by_cases hm:m=0
 .rw[V0 hm] at h⊢;exact h
 .rw[Q1 hm] at h⊢;obtain⟨o,l,c,e,a,d⟩:=h;exact⟨o,l,c,e,a.swap hw f λb g _=>g,d⟩
theorem NetO.weak {Y:oA} (h:NetO n D w gs m cs) (f:∀b,Y b->D b):NetO n Y w gs m cs:=by
 unfold NetO at h⊢;by_cases hm:m=0
 .rw[V0 hm] at h⊢;exact h
 .rw[Q1 hm] at h⊢;obtain⟨o,l,c,e,a,d⟩:=h;exact⟨o,l,c,e,Sl.weaken a λb g _ i=>g (f b i),d⟩
theorem NetO.put {f:Nat} {a:Value} (d:GOff D w a (if m=0 then[] else gs)) (b:f=if m=0 then 0 else n) (g:m=0->a= oN) (h:gs.length<=600):NetO n D w gs m [nI (f:Nat),a]:=by
 unfold NetO;by_cases c:m=0
 .rw[V0 c] at b⊢;rw[b,g c];rfl
 .rw[Q1 c] at d b⊢;obtain⟨o,c',e,_⟩:=d.shape;exact⟨o,_,c',by rw[b,e],by rw[<-e];exact d,h⟩
theorem NetO.of {o:Option Addr} {l c:Nat} (h:GOff D w (.slice o l c) gs) (a:gs.length<=600) (hm:m≠0):NetO n D w gs m [nI n,.slice o l c]:=by
 unfold NetO;rw[Q1 hm];exact⟨o,l,c,rfl,h,a⟩
theorem put_len {g:M.Gt} (h:gs.length<=600):(M.putG n gs g).1.length<=600:=by
 unfold M.putG;split
 .exact h
 .split
  .exact h
  .rw[V1,gL];omega
theorem l4Abs_sm (c:Sm a) (b:K (nI (M.absI a)) w):vcall Js #[nI a] w K:=by
 refine zf {} Tryz.func266 ?_;unfold M.absI at b;refine oZ ?_;refine zb (λh=>?_) (λh=>?_)
 .rw[V0 h] at b;simp(disch:=omega) only[push_cast,zi,Gh];exact b
 .rw[Q1 h] at b;exact b
theorem xP0 (x y:Int):yi zo [(1,nI x),(2,nI y)] w K=K (.agg ⟨yf ⟨false,x,y⟩⟩) w:=zT ZD (us:=[[nI x],[nI y]]) rfl rfl
theorem Zp0 (x y:Int):yi zo [(0,.bool true),(1,nI x),(2,nI y)] w K=K (.agg ⟨yf ⟨true,x,y⟩⟩) w:=zT ZD (us:=[[.bool true],[nI x],[nI y]]) rfl rfl
theorem net_out {b2:Nat} {a:List Value} (e:Blk w b2 a zx) (g:a.length=2) (c:cs.length=2) (d:∀u,u∈cs->u.oneCell'=true) (f:∀w',Same (· =b2) w w'->K (.agg ⟨cs⟩) w'):
  zy zx (oP b2 0) (.agg ⟨cs⟩) w λ_ w1=>vlv zx (oP b2 0) w1 K:=by
 refine e.stAgg (cs':=cs) oM (by rw[c];exact y0) d λw1 hs h b=>?_;rw[b.lv (t:=zx) (by rw[c];exact y0)];exact f w1 hs
theorem sand6_spec (hn:n<=8) (L:GOff D w nv gs) (l:gs.length<=600) (hD:∀b,D b->b<w.heap.size) (ha:Sm a) (d:Sm b) (R:a≠0) (S:b≠0)
  (I:∀w' cs,Ext w w'->NetO n D w' (M.andG n gs a b).1 (M.andG n gs a b).2 cs->K (.tuple #[.agg ⟨cs⟩,nI (M.andG n gs a b).2]) w'):
  vcall y40 #[.agg ⟨[nI n,nv]⟩,nI a,nI b] w K:=by
 refine zf {cuts:=[(8201,[]),(8194,[8]),(16388,[22])]} Tryz.func218 ?_;obtain⟨go,gc,U,_⟩:=L.shape;rw[U] at L⊢;refine zk λb1 w1 a0 r a2 O=>?_;refine zj j0 λb2 w2 a1 j a3 p=>?_;have N:=r.trans j;have o:=O.ext j;have f:∀K:oK,zu zx (oP b1 0) w2 K=K (.agg ⟨[nI n,.slice go (gs.map yf).length gc]⟩) w2:=λK=>o.ldAgg (t:=zx) y0;have z1:=r.size;have z2:=j.size;have same:∀(x:Int),x≠0->(M.andG n gs a b)=(gs,x)->∀w':World,w'=w2->zy zx (oP b2 0) (.agg ⟨[nI n,.slice go (gs.map yf).length gc]⟩) w' λ_ A=>vlv zx (oP b2 0) A λr6 B=>K (.tuple #[r6,(nI x)]) B:=λx hx e w' ew=>by
  subst ew;rw[e] at I;refine net_out p rfl rfl net_one λm X=>?_;have e3:Ext w m:=Ext.then N X λy Y=>by subst Y;omega
  exact I m _ e3 (NetO.of (Sl.ext L e3) l hx)
 have V:GatesR (λb=> ¬D b/\b<w.heap.size) w (.slice go (gs.map yf).length gc) gs:=Sl.weaken L λb d l=>⟨d,l⟩;have put:∀g:M.Gt,(M.andG n gs a b)=M.putG n gs g->vcall Jr #[.agg ⟨[nI n,.slice go (gs.map yf).length gc]⟩,.agg ⟨yf g⟩] w2 λt47 C=>qr t47 0 C λt48 E=>qr t47 1 E λt49 F=>
   zy zx (oP b2 0) t48 F λ_ G=>vlv zx (oP b2 0) G λz H=>K (.tuple #[z,t49]) H:=λg e=>by
  rw[e] at I;refine sput_spec (D:=λb=>D b\/b=b2) hn (Sl.weaken (Sl.ext V N) λb d l hd=>hd.elim d.1 λe=>by have:=d.2;omega) l (λb d=>d.elim (λh=>by have:=hD b h;omega) λh=>oM) λm n' a4 s T W Z=>?_;refine oZ ?_;have Q:=NetO.put T W Z (put_len l);refine net_out (p.ext s) rfl Q.len Q.one λw4 v=>?_;exact I w4 _ (Ext.then (N.trans s) v λy Y=>by subst Y;omega) ((Q.same v λb d=> .inr d).weak λb d=> .inl d)
 unfold Sm at ha d;refine zp (λu w'=>u=[]/\w'=w2/\M.andG n gs a b=M.putG n gs ⟨false,a,b⟩) ?_ ?_
 .intro J hJ;refine zp (λu w'=>u=[.bool (decide (a= -1\/b= -1\/a= -b))]/\w'=w2) ?_ ?_
  .intro J1 i;refine oZ ?_;refine zb (λc=>i _ _ ⟨by rw[gC (.inl c)],rfl⟩) (λc=>?_)
   try simp only[push_cast]
   refine zb (λc2=>i _ _ ⟨by rw[gC (.inr (.inl c2))],rfl⟩) (λc2=>?_);simp(disch:=omega) only[push_cast,zi,Gh];refine i _ _ ⟨?_,rfl⟩;rw[decide_eq_decide.2 (show(a= -1\/b= -1\/a= -b)↔a= -b from⟨λh=>h.elim (λh=>absurd h c) λh=>h.elim (λh=>absurd h c2) id,λh=> .inr (.inr h)⟩)]
  rintro _ _ m ⟨rfl,rfl⟩;refine oZ ?_;refine zb (λc=>?_) (λc=>?_)
  .rw[f];refine same (-1) dC ?_ _ rfl;unfold M.andG;by_cases c1:a= -1\/b= -1
   .rw[V0 c1]
   .rw[Q1 c1];have c2:a= -b:=c.elim (λh=>absurd (.inl h) c1) λh=>h.elim (λh=>absurd (.inr h) c1) id;rw[Q1 oM,Q1 oM];by_cases c3:a=b
    .exfalso;omega
    .rw[Q1 c3,V0 c2]
  refine zp (λu w'=>u=[.bool (decide (a=1\/a=b))]/\w'=m) ?_ ?_
  .intro J2 q
   try simp only[push_cast]
   refine zb (λc=>q _ _ ⟨by rw[gC (.inl c)],rfl⟩) (λc2=>?_)
   try simp only[push_cast]
   refine q _ _ ⟨?_,rfl⟩;rw[decide_eq_decide.2 (show(a=1\/a=b)↔a=b from⟨λh=>h.elim (λh=>absurd h c2) id,.inr⟩)]
  rintro _ _ w4 ⟨rfl,rfl⟩;have c1: ¬(a= -1\/b= -1):=λh=>c (h.elim .inl λh=> .inr (.inl h));refine oZ ?_;refine zb (λc2=>?_) (λc2=>?_)
  .rw[f];refine same b S ?_ _ rfl;unfold M.andG;rw[Q1 c1];by_cases c3:a=1
   .rw[V0 c3]
   .have k:a=b:=c2.elim (λh=>absurd h c3) id;rw[Q1 c3];by_cases c5:b=1
    .omega
    .rw[Q1 c5,V0 k,k]
  try simp only[push_cast]
  refine zb (λc3=>?_) (λc3=>?_)
  .rw[f];refine same a R ?_ _ rfl;unfold M.andG;rw[Q1 c1,Q1 (λh=>c2 (.inl h)),V0 c3]
  have hand:M.andG n gs a b=M.putG n gs (M.gateA a b):=by
   unfold M.andG;rw[Q1 c1,Q1 (λh=>c2 (.inl h)),Q1 c3,Q1 (λh=>c2 (.inr h)),Q1 (λh=>c (.inr (.inr h)))]
  refine l4Abs_sm ha (l4Abs_sm d ?_)
  try simp only[push_cast]
  unfold M.gateA at hand;refine zb (λk=>?_) (λk=>?_)
  .rw[V0 k] at hand;rw[f,xP0];exact put _ hand
  .rw[Q1 k] at hand;exact hJ _ _ ⟨rfl,rfl,hand⟩
 rintro _ _ m ⟨rfl,rfl,hp⟩;rw[f,xP0];exact put _ hp
theorem sxor6_spec (hn:n<=8) (Q:GOff D w nv gs) (z:gs.length<=600) (hD:∀b,D b->b<w.heap.size) (W:Sm a) (j:Sm b) (a6:a≠0) (a7:b≠0)
  (O:∀w' cs,Ext w w'->NetO n D w' (M.xorG n gs a b).1 (M.xorG n gs a b).2 cs->K (.tuple #[.agg ⟨cs⟩,nI (M.xorG n gs a b).2]) w'):
  vcall y20 #[.agg ⟨[nI n,nv]⟩,nI a,nI b] w K:=by
 refine zf {cuts:=[(8201,[]),(8194,[13]),(16388,[25]),(45068,[8]),(53262,[8]),(69651,[9,10])]} Tryz.func268 ?_;obtain⟨go,gc,Z,_⟩:=Q.shape;rw[Z] at Q⊢;refine zk λb1 w1 a8 H ad T=>?_;refine zj j0 λb2 w2 a9 s ae F=>?_;have R:=H.trans s;have E:=T.ext s;have o:∀K:oK,zu zx (oP b1 0) w2 K=K (.agg ⟨[nI n,.slice go (gs.map yf).length gc]⟩) w2:=λK=>E.ldAgg (t:=zx) y0;have z1:=H.size;have z2:=s.size;have same:∀(x:Int),x≠0->(M.xorG n gs a b)=(gs,x)->∀w':World,w'=w2->zy zx (oP b2 0) (.agg ⟨[nI n,.slice go (gs.map yf).length gc]⟩) w' λ_ I=>vlv zx (oP b2 0) I λr6 L=>K (.tuple #[r6,(nI x)]) L:=λx hx e w' ew=>by
  subst ew;rw[e] at O;refine net_out F rfl rfl net_one λC a2=>?_;have e3:Ext w C:=Ext.then R a2 λy B=>by subst B;omega
  exact O C _ e3 (NetO.of (Sl.ext Q e3) z hx)
 have a0:GatesR (λb=> ¬D b/\b<w.heap.size) w (.slice go (gs.map yf).length gc) gs:=Sl.weaken Q λb j z=>⟨j,z⟩;have absN:∀a:Int,M.absI a=(a.natAbs:Int):=λa=>by unfold M.absI;split<;>omega
 have na:=absN a;have nb:=absN b;unfold Sm at W j;refine zp (λu w'=>u=[]/\w'=w2/\M.xorG n gs a b=((M.putG n gs (M.gateX a b)).1,M.turnI (decide (a<0) != decide (b<0)) (M.putG n gs (M.gateX a b)).2)) ?_ ?_
 .intro J hJ;refine zp (λu w'=>u=[.bool (decide (a=1\/a= -1))]/\w'=w2) ?_ ?_
  .intro N i;refine oZ ?_;refine zb (λc=>i _ _ ⟨by rw[gC (.inl c)],rfl⟩) (λc=>?_)
   try simp only[push_cast]
   refine i _ _ ⟨?_,rfl⟩;rw[decide_eq_decide.2 (show(a=1\/a= -1)↔a= -1 from⟨λh=>h.elim (λh=>absurd h c) id,.inr⟩)]
  rintro _ _ C ⟨rfl,rfl⟩;refine oZ ?_;refine zb (λc=>?_) (λc=>?_)
  .rw[o];have e:M.xorG n gs a b=(gs,-a*b):=by
    unfold M.xorG;rcases c with rfl|rfl
    .rw[V0 dC];simp[M.turnI]
    .rw[V0 dC];simp[M.turnI]
   have hm:(-a*b).natAbs=b.natAbs:=by rcases c with rfl|rfl<;>simp
   have k: -a*b≠0:=oM;simp(disch:=omega) only[push_cast,zi,Gh];exact same (-a*b) k e _ rfl
  refine zp (λu w'=>u=[.bool (decide (b=1\/b= -1))]/\w'=C) ?_ ?_
  .intro N i
   try simp only[push_cast]
   refine zb (λc=>i _ _ ⟨by rw[gC (.inl c)],rfl⟩) (λc=>?_)
   try simp only[push_cast]
   refine i _ _ ⟨?_,rfl⟩;rw[decide_eq_decide.2 (show(b=1\/b= -1)↔b= -1 from⟨λh=>h.elim (λh=>absurd h c) id,.inr⟩)]
  rintro _ _ w4 ⟨rfl,rfl⟩;refine oZ ?_;have c1: ¬M.absI a=1:=oM;refine zb (λd=>?_) (λd=>?_)
  .rw[o];have e:M.xorG n gs a b=(gs,-b*a):=by
    unfold M.xorG;rw[Q1 c1];rcases d with rfl|rfl
    .rw[V0 dC];simp[M.turnI]
    .rw[V0 dC];simp[M.turnI]
   have hm:(-b*a).natAbs=a.natAbs:=by rcases d with rfl|rfl<;>simp
   have k: -b*a≠0:=oM;simp(disch:=omega) only[push_cast,zi,Gh];exact same (-b*a) k e _ rfl
  have c2: ¬M.absI b=1:=oM
  try simp only[push_cast]
  refine zb (λf=>?_) (λf=>?_)
  .rw[o];exact same (-1) dC (by unfold M.xorG;rw[Q1 c1,Q1 c2,V0 f]) _ rfl
  try simp(disch:=omega) only[push_cast,zi,Gh]
  refine zb (λf2=>?_) (λf2=>?_)
  .rw[o];exact same 1 dC (by unfold M.xorG;rw[Q1 c1,Q1 c2,Q1 f,V0 f2]) _ rfl
  exact hJ _ _ ⟨rfl,rfl,by unfold M.xorG;rw[Q1 c1,Q1 c2,Q1 f,Q1 f2]⟩
 rintro _ _ C ⟨rfl,rfl,hx⟩;rw[hx] at O;have ac:=put_abs (g:=M.gateX a b) z hn;refine zp (λu w'=>u=[nI (if a<0 then-1 else 1)]/\w'=C) ?_ ?_
 .intro N i;refine oZ ?_;refine zb (λc=>?_) (λc=>?_)
  .simp(disch:=omega) only[push_cast,zi,Gh];exact i _ _ ⟨by rw[V0 c],rfl⟩
  .exact i _ _ ⟨by rw[Q1 c],rfl⟩
 rintro _ _ w4 ⟨rfl,rfl⟩;refine zp (λu w'=>u=[nI (if(decide (a<0) != decide (b<0)) then-1 else 1)]/\w'=w4) ?_ ?_
 .intro N i;refine oZ ?_;refine zb (λc=>?_) (λc=>?_)
  .by_cases d:a<0
   .rw[V0 d];simp(disch:=omega) only[push_cast,zi,Gh];exact i _ _ ⟨by simp[c,d],rfl⟩
   .rw[Q1 d];simp(disch:=omega) only[push_cast,zi,Gh];exact i _ _ ⟨by simp[c,d],rfl⟩
  .refine i _ _ ⟨?_,rfl⟩;by_cases d:a<0<;>simp[c,d]
 rintro _ _ w5 ⟨rfl,rfl⟩;refine l4Abs_sm W (l4Abs_sm j ?_);refine zp (λu w'=>u=[nI (M.gateX a b).a,nI (M.gateX a b).b]/\w'=w5) ?_ ?_
 .intro N i
  try simp only[push_cast]
  unfold M.gateX at i;refine zb (λc=>?_) (λc=>?_)
  .rw[V0 c] at i;exact l4Abs_sm j (l4Abs_sm W (i _ _ ⟨rfl,rfl⟩))
  .rw[Q1 c] at i;exact i _ _ ⟨rfl,rfl⟩
 rintro _ _ w6 ⟨rfl,rfl⟩
 try simp only[push_cast]
 rw[o,Zp0,show(⟨true,(M.gateX a b).a,(M.gateX a b).b⟩:M.Gt)=M.gateX a b from by unfold M.gateX;split<;>rfl];refine sput_spec (D:=λb=>D b\/b=b2) hn (Sl.weaken (Sl.ext a0 R) λb j z hd=>hd.elim j.1 λe=>by have:=j.2;omega) z (λb j=>j.elim (λh=>by have:=hD b h;omega) λh=>oM) λw7 n' a4 v X a1 a3=>?_;refine oZ ?_;have q:=NetO.put X a1 a3 (put_len z);generalize [nI (n':Nat),a4]=cs at q⊢;generalize ab:(M.putG n gs (M.gateX a b)).2=pm at*;have r:=q.len;refine zj j0 λb8 w8 aa m af U=>?_;have a5:=q.same (Same.of_ext m (S:=λ_=>False)) λb j=>j.elim;refine U.stAgg (cs':=cs) (by rw[r];rfl) (by rw[r];exact y0) q.one λw9 A ag V=>?_;rw[V.ldAgg (t:=zx) (by rw[r];exact y0)];have hmul:(if(decide (a<0) != decide (b<0))=true then(-1:Int) else 1)*pm=M.turnI (decide (a<0) != decide (b<0)) pm:=by
  unfold M.turnI;split<;>omega
 try simp only[push_cast]
 rw[hmul,zi (by have:=Kg (c:=decide (a<0) != decide (b<0)) (a:=pm);omega) (by have:=Kg (c:=decide (a<0) != decide (b<0)) (a:=pm);omega)];have l7:=v.size;have l8:=m.size;have G:=((F.ext v).ext m).same A (show¬b2=b8 by omega);refine net_out G rfl q.len q.one λw10 p=>?_;have e9:Ext w w9:=Ext.then ((R.trans v).trans m) A λy B=>by subst B;omega
 refine O w10 _ (Ext.then e9 p λy B=>by subst B;omega) ?_;have h9:Ext w7 w9:=Ext.then m A λy B=>by subst B;omega
 have l:=((q.same (Same.of_ext h9 (S:=λ_=>False)) λb j=>j.elim).same p λb j=> .inr j).weak (Y:=D) λb j=> .inl j;unfold NetO at l⊢;by_cases k:pm=0
 .rw[V0 k] at l;rw[V0 (M.turn_zero.2 k)];exact l
 .rw[Q1 k] at l;rw[Q1 (λh=>k (M.turn_zero.1 h))];exact l
end
section
variable {w:World} {K:oK} {D F Y S:oA} {n b4 b8:Nat} {gs:M.Gs} {v:Value} {cs cs':List Value} {st st':Option M.Gs} {a b c m x y r:Int}
def MkR (n:Nat) (D:oA) (w:World) (cs:List Value) (st:Option M.Gs):Prop:=
 match st with
 |some gs=> ∃o l c,cs=[nI n,.slice o l c,.bool true]/\GOff D w (.slice o l c) gs/\gs.length<=600
 |none=>cs=[nI 0,.slice none 0 0,.bool false]
theorem MkR.form (h:MkR n D w cs st):∃(x:Int) (o:Option Addr) (l c:Nat) (b:Bool),cs=[nI x,.slice o l c,.bool b]:=by
 cases st with
 |none=>exact⟨_,_,_,_,_,h⟩
 |some gs=>obtain⟨o,l,c,e,_⟩:=h;exact⟨_,_,_,_,_,e⟩
theorem MkR.len (h:MkR n D w cs st):cs.length=3:=by obtain⟨x,o,l,c,b,rfl⟩:=h.form;rfl
theorem MkR.one (h:MkR n D w cs st):∀u,u∈cs->u.oneCell'=true:=by
 obtain⟨x,o,l,c,b,rfl⟩:=h.form;intro u hu;simp only[gk,gE,Gn] at hu;rcases hu with rfl|rfl|rfl<;>rfl
theorem MkR.swap {w':World} (h:MkR n D w cs st) (hw:Same S w w') (f:∀b,S b->D b) (g:∀b,Y b->b<w.heap.size->D b):MkR n Y w' cs st:=by
 cases st with
 |none=>exact h
 |some gs=>
  obtain⟨o,l,c,e,a,d⟩:=h;exact⟨o,l,c,e,a.swap hw f g,d⟩
theorem MkR.ext {w':World} (h:MkR n D w cs st) (hw:Ext w w') (a:∀b,Y b->b<w.heap.size->D b):MkR n Y w' cs st:=h.swap hw (λ_ h=>h.elim) a
theorem MkR.same {w':World} (h:MkR n D w cs st) (hw:Same S w w') (a:∀b,S b->D b):MkR n D w' cs st:=h.swap hw a λ_ h _=>h
def Sn (st:Option M.Gs) (x:Int):Prop:=Sm x/\(x=0->st=none)
def SnL (st:Option M.Gs) (xs:oI):Prop:=∀x,x∈xs->Sn st x
theorem kL0 {α:Type} {p:M.Bd α} {a:α} (h:M.Bd.Out n p st st' a):st=none->st'=none:=λe=>by subst e;exact h.1
theorem Sn.out {α:Type} {p:M.Bd α} {a:α} (h:Sn st x) (b:M.Bd.Out n p st st' a):Sn st' x:=⟨h.1,λe=>kL0 b (h.2 e)⟩
theorem SnL.out {α:Type} {p:M.Bd α} {a:α} {xs:oI} (h:SnL st xs) (b:M.Bd.Out n p st st' a):SnL st' xs:=λx c=>(h x c).out b
theorem Sn.neg (h:Sn st x):Sn st (-x):=⟨by have:=h.1;unfold Sm at*;omega,λe=>h.2 oM⟩
theorem Sn.nz (h:Sn (some gs) x):x≠0:=λe=>by have:=h.2 e;cases this
theorem Sn.of (h:Sm x) (a:x≠0):Sn st x:=⟨h,λe=>absurd e a⟩
theorem SnL.get {xs:oI} (h:SnL st xs) {i:Nat} (hi:i<xs.length):Sn st (xs.getD i 0):=h _ (M.getD_mem hi 0)
theorem SnL.app {xs ys:oI} (h:SnL st xs) (a:SnL st ys):SnL st (xs++ys):=λx b=>(gq.1 b).elim (h x) (a x)
theorem SnL.one (h:Sn st x):SnL st [x]:=λy a=>by rw[gD.1 a];exact h
theorem SnL.nil:SnL st []:=λx a=>by cases a
theorem SnL.sm {xs:oI} (h:SnL st xs):SmL xs:=λx a=>(h x a).1
theorem SnL.fill (m:Nat):SnL st (M.offsL m):=λx a=>by rw[pM a];exact Sn.of dC dC
theorem SnL.neg {xs:oI} (h:SnL st xs):SnL st (M.negL xs):=λx a=>by
 obtain⟨y,b,rfl⟩:=gB.1 a;exact(h y b).neg
theorem Yg0 {x:Int} {o:Option Addr} {l c:Nat} {b:Bool}:yi zD [(0,.agg ⟨[nI x,.slice o l c]⟩),(1,.bool b)] w K=K (.agg ⟨[nI x,.slice o l c,.bool b]⟩) w:=zT xk0 (us:=[[nI x,.slice o l c],[.bool b]]) rfl rfl
theorem KU {b4:Nat} (a:Blk w b4 cs zD) (h:cs.length=3):zu zD (oP b4 0) w K=K (.agg ⟨cs⟩) w:=a.ldAgg (t:=zD) (by rw[h];exact jc)
theorem mk_put {b4:Nat} {a:List Value} (c:Blk w b4 a zD) (f:a.length=3) (e:cs.length=3) (b:∀u,u∈cs->u.oneCell'=true) (d:∀w',Same (· =b4) w w'->w'.heap.size=w.heap.size->Blk w' b4 cs zD->K undef w'):zy zD (oP b4 0) (.agg ⟨cs⟩) w K:=
 c.stAgg (cs':=cs) oM (by rw[e];exact jc) b d
theorem Jv {b8:Nat} {a:List Value} (f:Blk w b8 a zD) (d:a.length=3) (c:cs.length=3) (e:∀u,u∈cs->u.oneCell'=true) (g:∀w',Same (· =b8) w w'->K (.agg ⟨cs⟩) w'):
  zy zD (oP b8 0) (.agg ⟨cs⟩) w λ_ w1=>vlv zD (oP b8 0) w1 K:=
 mk_put f d c e λw1 hs h b=>by
  rw[b.lv (t:=zD) (by rw[c];exact jc)];exact g w1 hs
theorem sand7_spec (hn:n<=8) (Z:MkR n D w cs st) (hD:∀b,D b->b<w.heap.size) (hx:Sn st x) (H:Sn st y)
  (U:∀w' cs' st' r,Ext w w'->MkR n D w' cs' st'->Sn st' r->M.Bd.Out n (.and x y .ret) st st' r->K (.tuple #[.agg ⟨cs'⟩,nI r]) w'):
  vcall y00 #[.agg ⟨cs⟩,nI x,nI y] w K:=by
 refine zf {} Tryz.func157 ?_;refine zk λb3 w1 a3 E a7 Q=>?_;refine zj xy λb6 w2 a4 p a8 z=>?_;have N:=E.trans p;have d:=Q.ext p;have z1:=E.size;have z2:=p.size;cases st with
 |none=>
  have V:cs=[nI 0,oN,.bool false]:=Z;subst V;simp(disch:=exact oS) only[push_cast,d.ld2,Pe,KU d rfl];refine Jv z rfl rfl Z.one λw3 a1=>?_;exact U w3 _ none 1 (Ext.then N a1 λb e=>oM) rfl (Sn.of dC dC) ⟨rfl,1,rfl⟩
 |some gs=>
  obtain⟨o,l,c,rfl,hg,I⟩:=Z;have G:zu zx (oP b3 0) w2=λK=>K (.agg ⟨[nI n,.slice o l c]⟩) w2:=by
   funext K;exact Blk.ldTake (us:=[nI n,.slice o l c]) (r:=[.bool true]) d y0
  simp(disch:=exact oS) only[push_cast,d.ld2,GI,ym,G6,G];have W:GOff (λb=>D b\/b=b3\/b=b6) w2 (.slice o l c) gs:=hg.swap N (λ_ h=>h.elim) λb e I=>e.elim id λh=>oM;refine sand6_spec hn W I (λb e=>e.elim (λh=>by have:=hD b h;omega) λh=>oM) hx.1 H.1 hx.nz H.nz λw3 J q j=>?_;have hlen:gs.length<=600:=I;have C:=k10 (gs:=gs) (n:=n) I hn hx.1 H.1;have f:(M.Bd.and x y .ret:M.Bd Int).run n gs=if(M.andG n gs x y).2=0 then none else some ((M.andG n gs x y).1,(M.andG n gs x y).2):=rfl
  generalize a6:(M.andG n gs x y).1=v at*;generalize (M.andG n gs x y).2=m at*;refine oZ ?_;have k:=j.len;refine zj j0 λb8 w8 a5 F a9 R=>?_;refine R.stAgg (cs':=J) (by rw[k];rfl) (by rw[k];exact y0) j.one λw9 a2 aa T=>?_;have z3:=q.size;have z8:=F.size;have O:Ext w3 w9:=Ext.then F a2 λy H=>by subst H;omega
  have B:=j.same (Same.of_ext O (S:=λ_=>False)) λb e=>e.elim;rw[T.ldAgg (t:=zx) (by rw[k];exact y0)];obtain⟨x3,o3,l3,c3,rfl⟩:=B.form;simp only[push_cast,Yg0];have A:=(z.ext (q.trans O));refine Jv A rfl rfl (λu hu=>by simp only[gk,gE,Gn] at hu;rcases hu with rfl|rfl|rfl<;>rfl) λw10 g=>?_;have s:Ext w w10:=Ext.then (N.trans (q.trans O)) g λb e=>oM;have a:=(B.same g λb e=> .inr (.inr e)).weak (Y:=D) λb e=> .inl e;by_cases hm:m=0
  .subst hm;unfold NetO at a;rw[V0 rfl] at a;simp only[Gu,Gq] at a;obtain⟨L,i⟩:=a;rw[L,i];refine U w10 _ none 0 s rfl ⟨dC,λ_=>rfl⟩ (.inr ⟨by rw[f,V0 rfl],rfl,0,rfl⟩)
  .unfold NetO at a;rw[Q1 hm] at a;obtain⟨o4,l4,c4,e4,X,a0⟩:=a;simp only[Gu,Gq] at e4;obtain⟨L,i⟩:=e4;rw[L,i,gC hm];refine U w10 _ (some v) m s ⟨o4,l4,c4,rfl,X,a0⟩ (Sn.of C hm) (.inl ⟨v,by rw[f,Q1 hm],rfl⟩)
theorem sxor7_spec (hn:n<=8) (Z:MkR n D w cs st) (hD:∀b,D b->b<w.heap.size) (hx:Sn st x) (H:Sn st y)
  (U:∀w' cs' st' r,Ext w w'->MkR n D w' cs' st'->Sn st' r->M.Bd.Out n (.xor x y .ret) st st' r->K (.tuple #[.agg ⟨cs'⟩,nI r]) w'):
  vcall zT0 #[.agg ⟨cs⟩,nI x,nI y] w K:=by
 refine zf {} Tryz.func220 ?_;refine zk λb3 w1 a3 E a7 Q=>?_;refine zj xy λb6 w2 a4 p a8 z=>?_;have N:=E.trans p;have d:=Q.ext p;have z1:=E.size;have z2:=p.size;cases st with
 |none=>
  have V:cs=[nI 0,oN,.bool false]:=Z;subst V;simp(disch:=exact oS) only[push_cast,d.ld2,Pe,KU d rfl];refine Jv z rfl rfl Z.one λw3 a1=>?_;exact U w3 _ none 1 (Ext.then N a1 λb e=>oM) rfl (Sn.of dC dC) ⟨rfl,1,rfl⟩
 |some gs=>
  obtain⟨o,l,c,rfl,hg,I⟩:=Z;have G:zu zx (oP b3 0) w2=λK=>K (.agg ⟨[nI n,.slice o l c]⟩) w2:=by
   funext K;exact Blk.ldTake (us:=[nI n,.slice o l c]) (r:=[.bool true]) d y0
  simp(disch:=exact oS) only[push_cast,d.ld2,GI,ym,G6,G];have W:GOff (λb=>D b\/b=b3\/b=b6) w2 (.slice o l c) gs:=hg.swap N (λ_ h=>h.elim) λb e I=>e.elim id λh=>oM;refine sxor6_spec hn W I (λb e=>e.elim (λh=>by have:=hD b h;omega) λh=>oM) hx.1 H.1 hx.nz H.nz λw3 J q j=>?_;have hlen:gs.length<=600:=I;have C:=qO0 (gs:=gs) (n:=n) I hn hx.1 H.1;have f:(M.Bd.xor x y .ret:M.Bd Int).run n gs=if(M.xorG n gs x y).2=0 then none else some ((M.xorG n gs x y).1,(M.xorG n gs x y).2):=rfl
  generalize a6:(M.xorG n gs x y).1=v at*;generalize (M.xorG n gs x y).2=m at*;refine oZ ?_;have k:=j.len;refine zj j0 λb8 w8 a5 F a9 R=>?_;refine R.stAgg (cs':=J) (by rw[k];rfl) (by rw[k];exact y0) j.one λw9 a2 aa T=>?_;have z3:=q.size;have z8:=F.size;have O:Ext w3 w9:=Ext.then F a2 λy H=>by subst H;omega
  have B:=j.same (Same.of_ext O (S:=λ_=>False)) λb e=>e.elim;rw[T.ldAgg (t:=zx) (by rw[k];exact y0)];obtain⟨x3,o3,l3,c3,rfl⟩:=B.form;simp only[push_cast,Yg0];have A:=(z.ext (q.trans O));refine Jv A rfl rfl (λu hu=>by simp only[gk,gE,Gn] at hu;rcases hu with rfl|rfl|rfl<;>rfl) λw10 g=>?_;have s:Ext w w10:=Ext.then (N.trans (q.trans O)) g λb e=>oM;have a:=(B.same g λb e=> .inr (.inr e)).weak (Y:=D) λb e=> .inl e;by_cases hm:m=0
  .subst hm;unfold NetO at a;rw[V0 rfl] at a;simp only[Gu,Gq] at a;obtain⟨L,i⟩:=a;rw[L,i];refine U w10 _ none 0 s rfl ⟨dC,λ_=>rfl⟩ (.inr ⟨by rw[f,V0 rfl],rfl,0,rfl⟩)
  .unfold NetO at a;rw[Q1 hm] at a;obtain⟨o4,l4,c4,e4,X,a0⟩:=a;simp only[Gu,Gq] at e4;obtain⟨L,i⟩:=e4;rw[L,i,gC hm];refine U w10 _ (some v) m s ⟨o4,l4,c4,rfl,X,a0⟩ (Sn.of C hm) (.inl ⟨v,by rw[f,Q1 hm],rfl⟩)
theorem sor7_spec (O:n<=8) (s:MkR n D w cs st) (hD:∀b,D b->b<w.heap.size) (F:Sn st x) (G:Sn st y)
  (J:∀w' cs' st' r,Ext w w'->MkR n D w' cs' st'->Sn st' r->M.Bd.Out n (M.orB x y) st st' r->K (.tuple #[.agg ⟨cs'⟩,nI r]) w'):
  vcall xb0 #[.agg ⟨cs⟩,nI x,nI y] w K:=by
 refine zf {} Tryz.func158 ?_;refine zk λb3 w1 L j Q o=>?_;refine zj xy λC w2 N e R p=>?_;have E:=j.trans e;have d:=o.ext e;have W:=j.size;have z2:=e.size;have z:=F.1;have A:=G.1;unfold Sm at z A;simp(disch:=omega) only[push_cast,KU d s.len,zi,Gh];have t:MkR n (λb=>D b\/b=b3\/b=C) w2 cs st:=s.ext E λb c T=>c.elim id λh=>oM
 refine sand7_spec O t (λb c=>c.elim (λh=>by have:=hD b h;omega) λh=>oM) F.neg G.neg λU m B r f a k u=>?_;have v:=k.1;unfold Sm at v;refine oZ ?_;refine mk_put (d.ext f) s.len a.len a.one λV g S q=>?_;have i:=(p.ext f).same g (show¬C=b3 by omega);simp(disch:=omega) only[push_cast,KU q a.len,zi,Gh];refine Jv i rfl a.len a.one λH l=>?_;have I:Ext w H:=Ext.then (Ext.then (E.trans f) g λb c=>oM) l λb c=>oM
 exact J H m B (-r) I ((a.same g λb c=> .inr (.inl c)).swap l (λb c=> .inr (.inr c)) λb c _=> .inl c) k.neg (xF u (M.Bd.Out.ret _ _))
theorem sone7_spec (S:n<=8) (N:MkR n D w cs st) (hD:∀b,D b->b<w.heap.size) (J:Sn st c) (hx:Sn st x) (hy:Sn st y)
  (hK:∀w' cs' st' r,Ext w w'->MkR n D w' cs' st'->Sn st' r->M.Bd.Out n (M.muxB c x y) st st' r->K (.tuple #[.agg ⟨cs'⟩,nI r]) w'):
  vcall zU0 #[.agg ⟨cs⟩,nI c,nI x,nI y] w K:=by
 refine zf {} Tryz.func219 ?_;refine zk λb3 w1 a2 z a4 G=>?_;refine zj xy λE w2 a3 k a5 H=>?_;have Y:=z.trans k;have i:=G.ext k;have z1:=z.size;have z2:=k.size;have L:=J.1;unfold Sm at L;rw[KU i N.len];have O:MkR n (λb=>D b\/b=b3\/b=E) w2 cs st:=N.ext Y λb a hl=>a.elim id λh=>oM
 have j:∀b,(D b\/b=b3\/b=E)->b<w2.heap.size:=λb a=>a.elim (λh=>by have:=hD b h;omega) λh=>oM
 refine sand7_spec S O j J hx λw3 a0 a8 p e d U m=>?_;refine oZ ?_;refine mk_put (i.ext e) N.len d.len d.one λw4 o a6 v=>?_;have z3:=e.size;have t:=(H.ext e).same o (show¬E=b3 by omega);have Q:=d.same o λb a=> .inr (.inl a);simp(disch:=omega) only[push_cast,KU v d.len,zi,Gh];refine sand7_spec S Q (λb a=>by have:=j b a;omega) (J.out m).neg (hy.out m) λw5 a1 a9 q f g V B=>?_;refine oZ ?_;refine mk_put (v.ext f) d.len g.len g.one λw6 s a7 I=>?_;have z5:=f.size;have u:=(t.ext f).same s (show¬E=b3 by omega);have R:=g.same s λb a=> .inr (.inl a);rw[KU I g.len];refine sor7_spec S R (λb a=>by have:=j b a;omega) (U.out B) V λw7 F X r A l W T=>?_;refine oZ ?_;refine Jv (u.ext A) rfl l.len l.one λZ C=>?_;have e6:Ext w w6:=Ext.then ((Ext.then (Y.trans e) o λb a=>oM).trans f) s λb a=>oM
 have e8:Ext w Z:=Ext.then (e6.trans A) C λb a=>oM
 exact hK Z F X r e8 (l.swap C (λb a=> .inr (.inr a)) λb a _=> .inl a) W (xF m (xF B T))
end
section
variable {w:World} {K:oK} {D F Fx Fy Y S O:oA} {n b4 b8:Nat} {v xv yv:Value} {cs cs':List Value} {st st':Option M.Gs} {a b c m x y r:Int} {xs ys:oI}
abbrev YA0 (D O:oA) (b4 b8:Nat):oA:=λb=>D b\/b=b4\/b=b8\/O b
structure Fm (n:Nat) (D O:oA) (w0:World) (b4 b8:Nat) (w:World) (st:Option M.Gs):Prop where
 ext:Ext w0 w
 k:∃cs,Blk w b4 cs zD/\MkR n (YA0 D O b4 b8) w cs st
 r:∃cs,Blk w b8 cs zD/\cs.length=3
 lo:w0.heap.size<=b4/\w0.heap.size<=b8/\b4≠b8
 off:∀b,O b->b<w.heap.size/\w0.heap.size<=b/\b≠b4/\b≠b8
 dlt:∀b,D b->b<w0.heap.size
theorem Fm.start (k:MkR n D w cs st) (hD:∀b,D b->b<w.heap.size) {K:Value->oK} (f:∀b4 b8 w',Fm n D (λ_=>False) w b4 b8 w' st->K (oP b4 0) (oP b8 0) w'):
  WM zD (.agg ⟨cs⟩) w λt w1=>xE zD w1 λt8 w2=>K t t8 w2:=by
 refine zk λb4 w1 i c l d=>?_;refine zj xy λb8 w2 j a m e=>?_;refine f b4 b8 w2 ⟨c.trans a,⟨cs,d.ext a,k.ext (c.trans a) λb g o=>g.elim id λh=>?_⟩,⟨_,e,rfl⟩,oM,λb h=>h.elim,hD⟩;rcases h with h|h|h
 .omega
 .omega
 .exact h.elim
section
variable {w0 w':World}
theorem Fm.lt4 (h:Fm n D O w0 b4 b8 w st):b4<w.heap.size/\b8<w.heap.size:=by
 obtain⟨_,a,_⟩:=h.k;obtain⟨_,b,_⟩:=h.r;exact⟨a.lt,b.lt⟩
theorem Fm.dl (h:Fm n D O w0 b4 b8 w st):∀b,YA0 D O b4 b8 b->b<w.heap.size:=λb c=>by
 have l:=h.lt4;have s:=h.ext.size;rcases c with a|a|a|a
 .have:=h.dlt b a;omega
 .omega
 .omega
 .exact(h.off b a).1
theorem Fm.grow (h:Fm n D O w0 b4 b8 w st) (he:Ext w w'):Fm n D O w0 b4 b8 w' st:=by
 obtain⟨cs,c,d⟩:=h.k;obtain⟨a,e,f⟩:=h.r;exact⟨h.ext.trans he,⟨cs,c.ext he,d.ext he λ_ h _=>h⟩,⟨a,e.ext he,f⟩,h.lo,λb i=>by have g:=h.off b i;have:=he.size;exact⟨oM,g.2⟩,h.dlt⟩
theorem Fm.call (h:Fm n D O w0 b4 b8 w st):∃cs,MkR n (YA0 D O b4 b8) w cs st/\∀w',Ext w w'->∀K:oK,zu zD (oP b4 0) w' K=K (.agg ⟨cs⟩) w':=by
 obtain⟨cs,b,a⟩:=h.k;exact⟨cs,a,λw' he K=>KU (b.ext he) a.len⟩
theorem Fm.put (h:Fm n D O w0 b4 b8 w st) (he:Ext w w') (c:MkR n (YA0 D O b4 b8) w' cs' st') (o:∀w'',Fm n D O w0 b4 b8 w'' st'->Same (· =b4) w' w''->w''.heap.size=w'.heap.size->K undef w''):
  zy zD (oP b4 0) (.agg ⟨cs'⟩) w' K:=by
 obtain⟨cs,f,g⟩:=h.k;obtain⟨d,i,j⟩:=h.r;refine mk_put (f.ext he) g.len c.len c.one λw'' hs p m=>o w'' ⟨Ext.then (h.ext.trans he) hs λb a=>by have:=h.lo;omega,⟨cs',m,c.same hs λb a=> .inr (.inl a)⟩,⟨d,(i.ext he).same hs λe=>h.lo.2.2 e.symm,j⟩,h.lo,λb a=>?_,h.dlt⟩ hs p;have l:=h.off b a;have:=he.size;exact⟨oM,l.2⟩
theorem Fm.own {O':oA} (h:Fm n D O w0 b4 b8 w st) (hw:Same S w w') (e:∀b,S b->O b) (hO:∀b,O' b->b<w'.heap.size/\(O b\/w.heap.size<=b)):Fm n D O' w0 b4 b8 w' st:=by
 obtain⟨cs,a,i⟩:=h.k;obtain⟨g,j,m⟩:=h.r;have l:=h.lt4;have s:=h.ext.size;refine⟨Ext.then h.ext hw λb c=>(h.off b (e b c)).2.1,⟨cs,a.same hw λhs=>(h.off _ (e _ hs)).2.2.1 rfl,i.swap hw (λb c=> .inr (.inr (.inr (e b c)))) λb c o=>?_⟩,⟨g,j.same hw λhs=>(h.off _ (e _ hs)).2.2.2 rfl,m⟩,h.lo,λb c=>?_,h.dlt⟩
 .rcases c with a|a|a|a
  .exact .inl a
  .exact .inr (.inl a)
  .exact .inr (.inr (.inl a))
  .exact(hO b a).2.elim (λh=> .inr (.inr (.inr h))) λh=>oM
 .obtain⟨f,d⟩:=hO b c;rcases d with d|d
  .have:=h.off b d;exact⟨f,this.2⟩
  .exact⟨f,oM,oM,oM⟩
theorem Fm.fin (h:Fm n D O w0 b4 b8 w st) (g:∀w' cs,Ext w0 w'->MkR n D w' cs st->Same (· =b8) w w'->K (.agg ⟨cs⟩) w'):
  zu zD (oP b4 0) w λt w1=>zy zD (oP b8 0) t w1 λ_ w2=>vlv zD (oP b8 0) w2 K:=by
 obtain⟨cs,d,a⟩:=h.k;obtain⟨i,e,f⟩:=h.r;rw[KU d a.len];exact Jv e f a.len a.one λw' hs=>g w' cs (Ext.then h.ext hs λb c=>by have:=h.lo;omega) (a.swap hs (λb c=> .inr (.inr (.inl c))) λb c _=> .inl c) hs
theorem Fm.out (h:Fm n D O w0 b4 b8 w st) (he:Ext w w') (c:MkR n (YA0 D O b4 b8) w' cs' st') (f:∀w'',Ext w0 w''->MkR n D w'' cs' st'->Same (· =b8) w' w''->K (.agg ⟨cs'⟩) w''):
  zy zD (oP b8 0) (.agg ⟨cs'⟩) w' λ_ w2=>vlv zD (oP b8 0) w2 K:=by
 obtain⟨g,d,e⟩:=h.r;exact Jv (d.ext he) e c.len c.one λw'' hs=>f w'' (Ext.then (h.ext.trans he) hs λb a=>by have:=h.lo;omega) (c.swap hs (λb a=> .inr (.inr (.inl a))) λb a _=> .inl a) hs
end
abbrev O1 (v:Value):oA:=λb=>v.ownBlock=some b
abbrev Low (w:World):oA:=λb=>b<w.heap.size
theorem Ints.under (h:Ints Fx w xv xs):Ints (Low w) w xv xs:=Ints.weaken h λ_ _ a=>a
theorem Ints.ext0 {w0 w:World} (h:Ints (Low w0) w0 xv xs) (he:Ext w0 w):Ints (Low w0) w xv xs:=Ints.ext h he
theorem Fm.app {w0:World} {zs:oI} {x:Int} {ty:Nat} (h:Fm n D (O1 v) w0 b4 b8 w st) (l:OwnI ze w v zs) (q:zs.length<=1000000)
  (j:∀v' w',Fm n D (O1 v') w0 b4 b8 w' st->OwnI ze w' v' (zs++[x])->Ext w0 w'->K v' w'):
  vbuildS ze 1 [(0,nI x)] w λt w1=>vbi .append [ze,ze] ty [v,t] w1 K:=by
 refine zC x8 yG xp rfl rfl λp r k a m e=>?_;refine(l.ext a).app1 xx e oM oM λv6 o c g f=>?_;have i:=(h.grow a).own (O':=O1 v6) g (λb d=>d) λb d=>⟨c.lt d,f b d⟩;exact j v6 o i c i.ext
theorem Fm.nil {w0:World} (h:Fm n D (λ_=>False) w0 b4 b8 w st) (j:∀v' w',Fm n D (O1 v') w0 b4 b8 w' st->OwnI ze w' v' []->Ext w0 w'->K v' w'):vbuildS ze 0 [] w K:=by
 refine y7 x8 yG λa i k f m c=>?_;have l:OwnI ze i (.slice (some ⟨a,0,none⟩) 0 0) []:=Blk.own1 (t:=ze) (cs:=[]) (by rw[qD];exact c) (gW _) rfl rfl oM;have g:=h.own (O':=O1 (.slice (some ⟨a,0,none⟩) 0 0)) (S:=λ_=>False) f (λb d=>d) λb d=>by
  have e:a=b:=gg d;exact⟨oM,.inr oM⟩
 exact j _ i g l g.ext
theorem sadd7_spec (hn:n<=8) (hk:MkR n D w cs st) (hD:∀b,D b->b<w.heap.size) (O:Ints Fx w xv xs) (hy:Ints Fy w yv ys) (hl:xs.length<=ys.length) (h8:xs.length<=1000) (b1:SnL st xs) (b2:SnL st ys) (hc:Sn st c)
  (hK:∀w' cs' st' r zs,Ext w w'->MkR n D w' cs' st'->OwnI ze w' r zs->(∀b,r.ownBlock=some b->w.heap.size<=b)->SnL st' zs->M.Bd.Out n (M.sumB xs ys c) st st' zs->K (.tuple #[.agg ⟨cs'⟩,r]) w'):
  vcall y10 #[.agg ⟨cs⟩,xv,yv,nI c] w K:=by
 refine zf {loops:=[(3,[3,10,11])]} Tryz.func160 ?_;refine Fm.start hk hD λb4 b8 w1 h1=>?_;refine h1.nil λv2 w2 h2 aw e2=>?_;have Q:=Ints.under O;have ag:=Ints.under hy;refine vloop_up xs.length (λi u w'=> ∃k r zs c1,u=[nI c1,r,nI i]/\Fm n D (O1 r) w b4 b8 w' k/\OwnI ze w' r zs/\zs.length=i/\SnL k zs/\SnL k xs/\SnL k ys/\Sn k c1/\
  ∀st2 rs,M.Bd.Out n (M.sumB (xs.drop i) (ys.drop i) c1) k st2 rs->M.Bd.Out n (M.sumB xs ys c) st st2 (zs++rs)) ⟨st,_,[],c,rfl,h2,aw,rfl,SnL.nil,b1,b2,hc,λ_ _ h=>h⟩ ?_
 rintro i _ g w3 C hi ⟨ak,r3,zs,c3,rfl,R,aa,b3,aj,A,E,V,z⟩ hC;have b0:=Ints.ext0 Q R.ext;simp(disch:=exact oS) only[push_cast,b0.len];refine zb (λbp=>?_) (λbo=>?_)
 .have m:i<xs.length:=oM;refine zd λw4 W _=>?_;have S:=R.grow W;have ae:=Ints.ext0 Q S.ext;have ah:=Ints.ext0 ag S.ext;obtain⟨c4,J,a5⟩:=S.call;simp(disch:=exact oS) only[push_cast,ae.iaddr,ae.load,ah.iaddr,ah.load,K3,a5 w4 (Same.refl _ _)];refine sxor7_spec hn J S.dl (A.get m) (E.get oM) λw5 bl bs d X aq hd f=>?_;simp only[push_cast,K3];refine S.put X aq λw6 h6 ay bq=>?_;obtain⟨c6,ar,a6⟩:=h6.call;simp only[push_cast,K3,gm,a6 w6 (Same.refl _ _)];refine sxor7_spec hn ar h6.dl hd (V.out f) λw7 bm b6 s Y au hs j=>?_;simp only[push_cast,K3];refine h6.put Y au λw8 ao az br=>?_;refine zd λw9 Z _=>?_;have T:=ao.grow Z;have af:=Ints.ext0 Q T.ext;have ai:=Ints.ext0 ag T.ext;obtain⟨c9,av,a7⟩:=T.call;simp(disch:=exact oS) only[push_cast,af.iaddr,af.load,ai.iaddr,ai.load,K3,a7 w9 (Same.refl _ _)];have B:=(A.out f).out j;have F:=(E.out f).out j;refine sand7_spec hn av T.dl (B.get m) (F.get oM) λw10 bb bh p o a0 hp a=>?_;simp only[push_cast,K3];refine T.put o a0 λb7 H ab be=>?_;obtain⟨bj,a1,L⟩:=H.call;simp only[push_cast,K3,gm,L b7 (Same.refl _ _)];refine sand7_spec hn a1 H.dl ((hd.out j).out a) (((V.out f).out j).out a) λbt bc bi q t a2 hq l=>?_;simp only[push_cast,K3];refine H.put t a2 λb9 I ac bf=>?_;obtain⟨bk,a3,N⟩:=I.call;simp only[push_cast,K3,gm,N b9 (Same.refl _ _)];refine sor7_spec hn a3 I.dl (hp.out l) hq λbu bd G c2 v a4 ap y=>?_;simp only[push_cast,K3];refine I.put v a4 λba am ad bg=>?_;have a8:OwnI ze ba r3 zs:=by
   have off:∀b,r3.ownBlock=some b->¬b=b4:=λb U=>(R.off b U).2.2.1;exact((((((((((aa.ext W).ext X).same ay off).ext Y).same az off).ext Z).ext o).same ab off).ext t).same ac off|>.ext v).same ad off
  refine am.app a8 oM λb5 bv an a9 bn=>?_;simp(disch:=omega) only[push_cast,zi];have up:∀{x},Sn b6 x->Sn G x:=λh=>((h.out a).out l).out y;refine hC m _ _ ⟨G,b5,zs++[s],c2,by simp<;>exact⟨rfl,rfl⟩,an,a9,by simp[b3],SnL.app (λx O=>up (((aj x O).out f).out j)) (SnL.one (up hs)),λx O=>up (B x O),λx O=>up (F x O),ap,λst2 rs ho=>?_⟩;have:=z st2 (s::rs) ?_
  .simpa using this
  rw[yT m,yT (show i<ys.length by omega)];exact kN f (kN j (xF a (xF l (M.Bd.Out.bind y (M.Bd.Out.map _ ho)))))
 .have:=z ak [] (by rw[j40 oM];exact M.Bd.Out.ret _ _);rw[gS] at this;refine R.fin λw4 al e4 J ax=>?_;exact hK w4 al ak r3 zs e4 J (aa.same ax λb U e=>(R.off b U).2.2.2 e) (λb U=>(R.off b U).2.1) aj this
end
section
variable {w:World} {K:oK} {D F Fx Fy Y S O:oA} {n b4 b8:Nat} {v xv yv:Value} {cs cs':List Value} {st st':Option M.Gs} {a b c m x y r:Int} {xs ys:oI}
theorem spec_nil (f:∀v' w',OwnI ze w' v' []->Ext w w'->(∀b,v'.ownBlock=some b->w.heap.size<=b)->K v' w'):vbuildS ze 0 [] w K:=by
 refine y7 x8 yG λd j h c i a=>?_;exact f _ j (Blk.own1 (t:=ze) (cs:=[]) (by rw[qD];exact a) (gW _) rfl rfl oM) c λb g=>by have e:d=b:=gg g;omega
theorem spec_app {w0:World} {zs:oI} {x:Int} {ty:Nat} (he:Ext w0 w) (l:OwnI ze w v zs) (i:∀b,v.ownBlock=some b->w0.heap.size<=b) (p:zs.length<=1000000)
  (j:∀v' w',OwnI ze w' v' (zs++[x])->Ext w0 w'->(∀b,v'.ownBlock=some b->w0.heap.size<=b)->K v' w'):
  vbuildS ze 1 [(0,nI x)] w λt w1=>vbi .append [ze,ze] ty [v,t] w1 K:=by
 refine zC x8 yG xp rfl rfl λo q k a m c=>?_;refine(l.ext a).app1 xx c oM oM λv6 n f g e=>?_;have s:=he.size;exact j v6 n f (Ext.then (he.trans a) g λb d=>i b d) λb d=>(e b d).elim (i b) λh=>oM
theorem sturn7_spec (t:Ints Fx w xv xs) (v:xs.length<=100000) (n:SmL xs) (s:∀w' r,Ext w w'->OwnI ze w' r (M.negL xs)->(∀b,r.ownBlock=some b->w.heap.size<=b)->K r w'):vcall U1 #[xv] w K:=by
 refine zf {loops:=[(3,[3,4])]} Tryz.func156 ?_;refine spec_nil λv1 w1 m o k=>?_;refine vloop_up xs.length (λi u w'=> ∃r,u=[r,nI i]/\Ext w w'/\OwnI ze w' r (M.negL (xs.take i))/\∀b,r.ownBlock=some b->w.heap.size<=b) ⟨_,rfl,o,m,k⟩ ?_;rintro i _ g w2 C hi ⟨r,rfl,j,d,f⟩ q;have e:=Ints.ext t j;simp(disch:=exact oS) only[push_cast,e.len];refine zb (λa=>?_) (λa=>?_)
 .have c:i<xs.length:=oM;have hs:=n.get c;unfold Sm at hs;simp(disch:=exact oS) only[push_cast,e.iaddr,e.load,zi,Gh];refine spec_app j d f (by rw[M.negL_len,gi];omega) λv3 x h p l=>?_
  try simp(disch:=omega) only[push_cast,zi]
  refine q c _ _ ⟨v3,by simp,p,?_,l⟩;rw[M.take_add c 0];unfold M.negL at h⊢;rw[gG];exact h
 .have c:i=xs.length:=oM;subst c;rw[gF] at d;exact s w2 r j d f
theorem sfill7_spec {m:Nat} {x:Int} (s:m<=100000) (q:∀w' r,Ext w w'->OwnI ze w' r (List.replicate m x)->(∀b,r.ownBlock=some b->w.heap.size<=b)->K r w'):vcall U5 #[nI x,nI m] w K:=by
 refine zf {loops:=[(3,[5,6])]} Tryz.func161 ?_;refine spec_nil λv1 w1 j n f=>?_;refine vloop_up m (λi u w'=> ∃r,u=[r,nI i]/\Ext w w'/\OwnI ze w' r (List.replicate i x)/\∀b,r.ownBlock=some b->w.heap.size<=b) ⟨_,rfl,n,j,f⟩ ?_;rintro i _ g w2 C hi ⟨r,rfl,l,e,d⟩ p;refine oZ ?_;refine zb (λa=>?_) (λa=>?_)
 .have c:i<m:=oM;refine spec_app l e d (by rw[gP];omega) λv3 t k o h=>?_
  try simp(disch:=omega) only[push_cast,zi]
  refine p c _ _ ⟨v3,by simp,o,?_,h⟩;rw[List.replicate_succ'];exact k
 .have c:i=m:=oM;subst c;exact q w2 r l e d
theorem sless7_spec (X:n<=8) (hk:MkR n D w cs st) (hD:∀b,D b->b<w.heap.size) (hx:Ints Fx w xv xs) (hy:Ints Fy w yv ys) (hl:xs.length<=ys.length) (h8:xs.length<=1000) (T:SnL st xs) (U:SnL st ys)
  (hK:∀w' cs' st' r,Ext w w'->MkR n D w' cs' st'->Sn st' r->M.Bd.Out n (M.lessB xs ys (-1)) st st' r->K (.tuple #[.agg ⟨cs'⟩,nI r]) w'):
  vcall U3 #[.agg ⟨cs⟩,xv,yv] w K:=by
 refine zf {loops:=[(3,[8,9])]} Tryz.func163 ?_;refine Fm.start hk hD λb4 b8 w1 h1=>?_;have v:=Ints.under hx;have y:=Ints.under hy;refine vloop_up xs.length (λi u w'=> ∃e r,u=[nI r,nI i]/\Fm n D (λ_=>False) w b4 b8 w' e/\SnL e xs/\SnL e ys/\Sn e r/\
  ∀st2 q,M.Bd.Out n (M.lessB (xs.drop i) (ys.drop i) r) e st2 q->M.Bd.Out n (M.lessB xs ys (-1)) st st2 q) ⟨st,-1,rfl,h1,T,U,Sn.of dC dC,λ_ _ h=>h⟩ ?_
 rintro i _ g w3 C hi ⟨E,Y,rfl,H,j,c,t,f⟩ hC;have S:=Ints.ext0 v H.ext;simp(disch:=exact oS) only[push_cast,S.len];refine zb (λa2=>?_) (λa1=>?_)
 .have k:i<xs.length:=oM;refine zd λW I _=>?_;have o:=H.grow I;have x:=Ints.ext0 v o.ext;have A:=Ints.ext0 y o.ext;obtain⟨c4,l,p⟩:=o.call;simp(disch:=exact oS) only[push_cast,x.iaddr,x.load,A.iaddr,A.load,K3,p W (Same.refl _ _)];refine sxor7_spec X l o.dl (j.get k) (c.get oM) λw5 Z a8 d J O hd a=>?_;simp only[push_cast,K3];refine o.put J O λw6 h6 a4 a6=>?_
  try simp only[push_cast,K3,gm]
  refine zd λw7 L _=>?_;have F:=h6.grow L;have B:=Ints.ext0 y F.ext;obtain⟨c7,Q,s⟩:=F.call;simp(disch:=exact oS) only[push_cast,B.iaddr,B.load,K3,s w7 (Same.refl _ _)];refine sone7_spec X Q F.dl hd ((c.out a).get oM) (t.out a) λw8 a0 V q N R hq m=>?_;simp only[push_cast,K3];refine F.put N R λw9 h9 a5 a7=>?_
  try simp(disch:=omega) only[push_cast,zi,K3,gm]
  refine hC k _ _ ⟨V,q,by simp<;>exact⟨rfl,rfl⟩,h9,(j.out a).out m,(c.out a).out m,hq,λst2 z ho=>f st2 z ?_⟩;rw[yT k,yT (show i<ys.length by omega)];exact kN a (M.Bd.Out.bind m ho)
 .refine H.fin λW G e4 l a3=>?_;exact hK W G E Y e4 l t (f E Y (by rw[xG0 oM];exact M.Bd.Out.ret _ _))
theorem ssame7_spec (X:n<=8) (hk:MkR n D w cs st) (hD:∀b,D b->b<w.heap.size) (hx:Ints Fx w xv xs) (hy:Ints Fy w yv ys) (hl:xs.length<=ys.length) (h8:xs.length<=1000) (R:SnL st xs) (T:SnL st ys)
  (hK:∀w' cs' st' r,Ext w w'->MkR n D w' cs' st'->Sn st' r->M.Bd.Out n (M.sameB xs ys 1) st st' r->K (.tuple #[.agg ⟨cs'⟩,nI r]) w'):
  vcall U2 #[.agg ⟨cs⟩,xv,yv] w K:=by
 refine zf {loops:=[(3,[8,9])]} Tryz.func162 ?_;refine Fm.start hk hD λb4 b8 w1 h1=>?_;have v:=Ints.under hx;have S:=Ints.under hy;refine vloop_up xs.length (λi u w'=> ∃a r,u=[nI r,nI i]/\Fm n D (λ_=>False) w b4 b8 w' a/\SnL a xs/\SnL a ys/\Sn a r/\
  ∀st2 q,M.Bd.Out n (M.sameB (xs.drop i) (ys.drop i) r) a st2 q->M.Bd.Out n (M.sameB xs ys 1) st st2 q) ⟨st,1,rfl,h1,R,T,Sn.of dC dC,λ_ _ h=>h⟩ ?_
 rintro i _ g w3 C hi ⟨A,Y,rfl,E,f,j,t,e⟩ hC;have Q:=Ints.ext0 v E.ext;simp(disch:=exact oS) only[push_cast,Q.len];refine zb (λa2=>?_) (λa1=>?_)
 .have k:i<xs.length:=oM;refine zd λV H _=>?_;have o:=E.grow H;have x:=Ints.ext0 v o.ext;have y:=Ints.ext0 S o.ext;obtain⟨c4,l,p⟩:=o.call;simp(disch:=exact oS) only[push_cast,x.iaddr,x.load,y.iaddr,y.load,K3,p V (Same.refl _ _)];refine sxor7_spec X l o.dl (f.get k) (j.get oM) λw5 Z a8 d I L W c=>?_;simp only[push_cast,K3];refine o.put I L λw6 F a4 a6=>?_;obtain⟨c6,N,s⟩:=F.call;have G:=W.1;unfold Sm at G;simp(disch:=omega) only[push_cast,K3,gm,s w6 (Same.refl _ _),zi,Gh];refine sand7_spec X N F.dl (t.out c) W.neg λw8 a0 U q J O hq m=>?_;simp only[push_cast,K3];refine F.put J O λw9 h9 a5 a7=>?_
  try simp(disch:=omega) only[push_cast,zi,K3,gm]
  refine hC k _ _ ⟨U,q,by simp<;>exact⟨rfl,rfl⟩,h9,(f.out c).out m,(j.out c).out m,hq,λst2 z ho=>e st2 z ?_⟩;rw[yT k,yT (show i<ys.length by omega)];exact kN c (xF m ho)
 .refine E.fin λV B e4 l a3=>?_;exact hK V B A Y e4 l t (e A Y (by rw[xA0 oM];exact M.Bd.Out.ret _ _))
theorem sifs7_spec (hn:n<=8) (hk:MkR n D w cs st) (hD:∀b,D b->b<w.heap.size) (hx:Ints Fx w xv xs) (hy:Ints Fy w yv ys) (hl:xs.length<=ys.length) (h8:xs.length<=1000) (S:SnL st xs) (U:SnL st ys) (hc:Sn st c)
  (hK:∀w' cs' st' r zs,Ext w w'->MkR n D w' cs' st'->OwnI ze w' r zs->(∀b,r.ownBlock=some b->w.heap.size<=b)->SnL st' zs->M.Bd.Out n (M.eachB (M.muxB c) xs ys) st st' zs->K (.tuple #[.agg ⟨cs'⟩,r]) w'):
  vcall zW0 #[.agg ⟨cs⟩,nI c,xv,yv] w K:=by
 refine zf {loops:=[(3,[10,11])]} Tryz.func159 ?_;refine Fm.start hk hD λb4 b8 w1 h1=>?_;refine h1.nil λv2 w2 h2 J e2=>?_;have A:=Ints.under hx;have T:=Ints.under hy;refine vloop_up xs.length (λi u w'=> ∃a r zs,u=[r,nI i]/\Fm n D (O1 r) w b4 b8 w' a/\OwnI ze w' r zs/\zs.length=i/\SnL a zs/\SnL a xs/\SnL a ys/\Sn a c/\
  ∀st2 rs,M.Bd.Out n (M.eachB (M.muxB c) (xs.drop i) (ys.drop i)) a st2 rs->M.Bd.Out n (M.eachB (M.muxB c) xs ys) st st2 (zs++rs)) ⟨st,_,[],rfl,h2,J,rfl,SnL.nil,S,U,hc,λ_ _ h=>h⟩ ?_
 rintro i _ g w3 C hi ⟨G,Y,zs,rfl,o,z,V,F,j,k,t,f⟩ hC;have R:=Ints.ext0 A o.ext;simp(disch:=exact oS) only[push_cast,R.len];refine zb (λa1=>?_) (λa0=>?_)
 .have l:i<xs.length:=oM;refine zd λX v _=>?_;have p:=o.grow v;have B:=Ints.ext0 A p.ext;have E:=Ints.ext0 T p.ext;obtain⟨c4,m,y⟩:=p.call;simp(disch:=exact oS) only[push_cast,B.iaddr,B.load,E.iaddr,E.load,K3,y X (Same.refl _ _)];refine sone7_spec hn m p.dl t (j.get l) (k.get oM) λw5 Z W s x I hs d=>?_;simp only[push_cast,K3];refine p.put x I λw6 h6 Q a2=>?_
  try simp only[push_cast,K3,gm]
  have L:OwnI ze w6 Y zs:=((z.ext v).ext x).same Q λb q=>(o.off b q).2.2.1;refine h6.app L oM λr7 w7 h7 N e7=>?_;simp(disch:=omega) only[push_cast,zi];refine hC l _ _ ⟨W,r7,zs++[s],by simp,h7,N,by simp[V],SnL.app (F.out d) (SnL.one hs),j.out d,k.out d,t.out d,λst2 rs ho=>?_⟩;have:=f st2 (s::rs) ?_
  .simpa using this
  rw[Qu l (show i<ys.length by omega)];exact M.Bd.Out.bind d (M.Bd.Out.map _ ho)
 .have:=f G [] (by rw[YE oM];exact M.Bd.Out.ret _ _);rw[gS] at this;refine o.fin λX H e4 m O=>?_;exact hK X H G Y zs e4 m (z.same O λb q e=>(o.off b q).2.2.2 e) (λb q=>(o.off b q).2.1) F this
def plainB (op:Int):Int->Int->M.Bd Int:=if op=3 then λa b=> .and a b .ret else if op=4 then M.orB else λa b=> .xor a b .ret
theorem splain7_spec {op:Int} (hn:n<=8) (hk:MkR n D w cs st) (hD:∀b,D b->b<w.heap.size) (hx:Ints Fx w xv xs) (hy:Ints Fy w yv ys) (hl:xs.length<=ys.length) (h8:xs.length<=1000) (a4:SnL st xs) (a5:SnL st ys)
  (hK:∀w' cs' st' r zs,Ext w w'->MkR n D w' cs' st'->OwnI ze w' r zs->(∀b,r.ownBlock=some b->w.heap.size<=b)->SnL st' zs->M.Bd.Out n (M.eachB (plainB op) xs ys) st st' zs->K (.tuple #[.agg ⟨cs'⟩,r]) w'):
  vcall VC #[.agg ⟨cs⟩,nI op,xv,yv] w K:=by
 refine zf {loops:=[(3,[10,11])]} Tryz.func167 ?_;refine Fm.start hk hD λb4 b8 w1 h1=>?_;refine h1.nil λv2 w2 h2 a1 e2=>?_;have H:=Ints.under hx;have N:=Ints.under hy;refine vloop_up xs.length (λi u w'=> ∃B r zs,u=[r,nI i]/\Fm n D (O1 r) w b4 b8 w' B/\OwnI ze w' r zs/\zs.length=i/\SnL B zs/\SnL B xs/\SnL B ys/\
  ∀st2 rs,M.Bd.Out n (M.eachB (plainB op) (xs.drop i) (ys.drop i)) B st2 rs->M.Bd.Out n (M.eachB (plainB op) xs ys) st st2 (zs++rs)) ⟨st,_,[],rfl,h2,a1,rfl,SnL.nil,a4,a5,λ_ _ h=>h⟩ ?_
 rintro i _ g w3 C hi ⟨Q,r3,zs,rfl,E,G,O,I,f,j,J⟩ hC;have a3:=Ints.ext0 H E.ext;simp(disch:=exact oS) only[push_cast,a3.len];refine zb (λa7=>?_) (λa6=>?_)
 .have t:i<xs.length:=oM;have L:∀d s,M.Bd.Out n (plainB op (xs.getD i 0) (ys.getD i 0)) Q d s->∀st2 rs,M.Bd.Out n (M.eachB (plainB op) (xs.drop (i+1)) (ys.drop (i+1))) d st2 rs->M.Bd.Out n (M.eachB (plainB op) xs ys) st st2 ((zs++[s])++rs):=λd s c st2 rs ho=>by
   have:=J st2 (s::rs) ?_
   .simpa using this
   rw[Qu t (show i<ys.length by omega)];exact M.Bd.Out.bind c (M.Bd.Out.map _ ho)
  try simp only[push_cast]
  refine zb (λc3=>?_) (λc3=>?_)
  .have W:plainB op=(λa b=> .and a b .ret):=by unfold plainB;rw[V0 c3]
   refine zd λR l _=>?_;have k:=E.grow l;have p:=Ints.ext0 H k.ext;have q:=Ints.ext0 N k.ext;obtain⟨S,v,o⟩:=k.call;simp(disch:=exact oS) only[push_cast,p.iaddr,p.load,q.iaddr,q.load,K3,o R (Same.refl _ _)];refine sand7_spec hn v k.dl (f.get t) (j.get oM) λw5 T d s m x hs c=>?_;simp only[push_cast,K3];refine k.put m x λZ U A X=>?_
   try simp only[push_cast,K3,gm]
   have y:OwnI ze Z r3 zs:=((G.ext l).ext m).same A λb F=>(E.off b F).2.2.1;refine U.app y oM λY w7 V z e7=>?_;simp(disch:=omega) only[push_cast,zi];exact hC t _ _ ⟨d,Y,zs++[s],by simp,V,z,by simp[O],SnL.app (I.out c) (SnL.one hs),f.out c,j.out c,L d s (by rw[W];exact c)⟩
  try simp only[push_cast]
  refine zb (λS=>?_) (λS=>?_)
  .have W:plainB op=M.orB:=by unfold plainB;rw[Q1 c3,V0 S]
   refine zd λR l _=>?_;have k:=E.grow l;have p:=Ints.ext0 H k.ext;have q:=Ints.ext0 N k.ext;obtain⟨S,v,o⟩:=k.call;simp(disch:=exact oS) only[push_cast,p.iaddr,p.load,q.iaddr,q.load,K3,o R (Same.refl _ _)];refine sor7_spec hn v k.dl (f.get t) (j.get oM) λw5 T d s m x hs c=>?_;simp only[push_cast,K3];refine k.put m x λZ U A X=>?_
   try simp only[push_cast,K3,gm]
   have y:OwnI ze Z r3 zs:=((G.ext l).ext m).same A λb F=>(E.off b F).2.2.1;refine U.app y oM λY w7 V z e7=>?_;simp(disch:=omega) only[push_cast,zi];exact hC t _ _ ⟨d,Y,zs++[s],by simp,V,z,by simp[O],SnL.app (I.out c) (SnL.one hs),f.out c,j.out c,L d s (by rw[W];exact c)⟩
  have W:plainB op=(λa b=> .xor a b .ret):=by unfold plainB;rw[Q1 c3,Q1 S]
  refine zd λR l _=>?_;have k:=E.grow l;have p:=Ints.ext0 H k.ext;have q:=Ints.ext0 N k.ext;obtain⟨S,v,o⟩:=k.call;simp(disch:=exact oS) only[push_cast,p.iaddr,p.load,q.iaddr,q.load,K3,o R (Same.refl _ _)];refine sxor7_spec hn v k.dl (f.get t) (j.get oM) λw5 T d s m x hs c=>?_;simp only[push_cast,K3];refine k.put m x λZ U A X=>?_
  try simp only[push_cast,K3,gm]
  have y:OwnI ze Z r3 zs:=((G.ext l).ext m).same A λb F=>(E.off b F).2.2.1;refine U.app y oM λY w7 V z e7=>?_;simp(disch:=omega) only[push_cast,zi];exact hC t _ _ ⟨d,Y,zs++[s],by simp,V,z,by simp[O],SnL.app (I.out c) (SnL.one hs),f.out c,j.out c,L d s (by rw[W];exact c)⟩
 .have:=J Q [] (by rw[YE oM];exact M.Bd.Out.ret _ _);rw[gS] at this;refine E.fin λR a0 e4 v a2=>?_;exact hK R a0 Q r3 zs e4 v (G.same a2 λb F e=>(E.off b F).2.2.2 e) (λb F=>(E.off b F).2.1) I this
end
section
variable {w:World} {K:oK} {D F Fx Fy Y S O O':oA} {n b4 b8:Nat} {v v' nv xv yv sv:Value} {cs cs':List Value} {st st':Option M.Gs} {a b c m x y r:Int} {xs ys:oI}
abbrev Kp (b4 b8:Nat) (O:oA):oA:=λb=>b≠b4/\b≠b8/\¬O b
section
variable {w0 w':World}
theorem Ints.kp4 (h:Ints (Kp b4 b8 O) w xv xs) (hs:Same (· =b4) w w'):Ints (Kp b4 b8 O) w' xv xs:=Ints.same h hs λb a _ e=>a.1 e
theorem Ints.kpO (h:Ints (Kp b4 b8 O) w xv xs) (hs:Same S w w') (d:∀b,S b->O b) (hO:∀b,O' b->O b\/w.heap.size<=b):Ints (Kp b4 b8 O') w' xv xs:=by
 have c:Ints (λb=>Kp b4 b8 O b/\b<w.heap.size) w xv xs:=Ints.weaken h λb a f=>⟨a,f⟩;exact Ints.weaken (Ints.same c hs λb a _ e=>a.1.2.2 (d b e)) λb a _=>⟨a.1.1,a.1.2.1,λg=>(hO b g).elim a.1.2.2 λh=>by have:=a.2;omega⟩
theorem Fm.new {zs:oI} (h:Fm n D O w0 b4 b8 w st) (d:OwnI ze w' v zs) (c:∀b,v.ownBlock=some b->w.heap.size<=b):Ints (Kp b4 b8 O) w' v zs:=Ints.weaken d.ints λb a _=>by
 have e:=c b a;have f:=h.lt4;exact⟨oM,oM,λhO=>by have:=(h.off b hO).1;omega⟩
theorem Fm.app' {zs:oI} {x:Int} {ty:Nat} (h:Fm n D (O1 v) w0 b4 b8 w st) (l:OwnI ze w v zs) (r:zs.length<=1000000)
  (j:∀v' w',Fm n D (O1 v') w0 b4 b8 w' st->OwnI ze w' v' (zs++[x])->(∀xv xs,Ints (Kp b4 b8 (O1 v)) w xv xs->Ints (Kp b4 b8 (O1 v')) w' xv xs)->K v' w'):
  vbuildS ze 1 [(0,nI x)] w λt w1=>vbi .append [ze,ze] ty [v,t] w1 K:=by
 refine zC x8 yG xp rfl rfl λq s k c o g=>?_;refine(l.ext c).app1 xx g oM oM λv6 p e f d=>?_;have i:=(h.grow c).own (O':=O1 v6) f (λb a=>a) λb a=>⟨e.lt a,d b a⟩;exact j v6 p i e λxv xs m=>Ints.kpO (Ints.ext m c) f (λb a=>a) λb a=>d b a
theorem Fm.take {zs:oI} (h:Fm n D (λ_=>False) w0 b4 b8 w st) (he:Ext w w') (d:OwnI ze w' v zs) (c:∀b,v.ownBlock=some b->w.heap.size<=b):Fm n D (O1 v) w0 b4 b8 w' st:=
 h.own (S:=λ_=>False) he (λb a=>a) λb a=>⟨d.lt a,.inr (c b a)⟩
theorem Fm.drop (h:Fm n D O w0 b4 b8 w st):Fm n D (λ_=>False) w0 b4 b8 w st:=h.own (S:=λ_=>False) (Same.refl _ _) (λb a=>a.elim) λb a=>a.elim
end
theorem smul7_spec (hn:n<=8) (hk:MkR n D w cs st) (hD:∀b,D b->b<w.heap.size) (hx:Ints Fx w xv xs) (hy:Ints Fy w yv ys) (hl:xs.length=ys.length) (h8:xs.length<=900) (ap:SnL st xs) (ar:SnL st ys)
  (hK:∀w' cs' st' r zs,Ext w w'->MkR n D w' cs' st'->Ints (λb=>w.heap.size<=b) w' r zs->SnL st' zs->M.Bd.Out n (M.mulB xs ys 0 (M.offsL xs.length)) st st' zs->K (.tuple #[.agg ⟨cs'⟩,r]) w'):
  vcall zV0 #[.agg ⟨cs⟩,xv,yv] w K:=by
 refine zf {loops:=[(3,[8,9]),(7,[10,11])]} Tryz.func164 ?_;refine Fm.start hk hD λb4 b8 w1 S=>?_;have Q:=Ints.under hx;have a4:=Ints.under hy;have an:=Ints.ext0 Q S.ext;simp(disch:=exact oS) only[push_cast,an.len];refine sfill7_spec oM λw2 aa ae am ag=>?_;have lo:=S.lo;have s1:=S.ext.size;have a8:Ints (λb=>Kp b4 b8 (λ_=>False) b/\w.heap.size<=b) w2 aa (M.offsL xs.length):=Ints.weaken am.ints λb a _=>by
  have b0:=ag b a;have h2:=S.lt4;exact⟨⟨oM,oM,id⟩,oM⟩
 refine vloop_up ys.length (λi u w'=> ∃v sv s,u=[sv,nI i]/\Fm n D (λ_=>False) w b4 b8 w' v/\Ints (λb=>Kp b4 b8 (λ_=>False) b/\w.heap.size<=b) w' sv s/\s.length=xs.length/\SnL v s/\SnL v xs/\SnL v ys/\
  ∀st2 res,M.Bd.Out n (M.mulB xs (ys.drop i) i s) v st2 res->M.Bd.Out n (M.mulB xs ys 0 (M.offsL xs.length)) st st2 res) ⟨st,aa,_,rfl,S.grow ae,a8,M.offsL_len _,SnL.fill _,ap,ar,λ_ _ h=>h⟩ ?_
 rintro i _ g w3 C hi ⟨y,sv,s,rfl,h3,Z,b5,B,a3,a6,A⟩ hC;have aq:=Ints.ext0 a4 h3.ext;simp(disch:=exact oS) only[push_cast,aq.len];refine zb (λb3=>?_) (λb1=>?_)
 .have H:i<ys.length:=oM;refine sfill7_spec oM λw4 rv U X W=>?_;have h4:=h3.take U X W;have N:Ints (Kp b4 b8 (O1 rv)) w4 sv s:=Ints.kpO (O:=λ_=>False) (Ints.weaken Z λb a _=>a.1) U (λb a=>a.elim) λb a=> .inr (W b a);have az:(xs.take (xs.length-i)).length=xs.length-i:=by rw[gi];omega
  refine vloop_up (xs.length-i) (λj u w'=> ∃c rv zs,u=[rv,nI ((i+j:Nat):Int)]/\Fm n D (O1 rv) w b4 b8 w' c/\OwnI ze w' rv (M.offsL i++zs)/\zs.length=j/\Ints (Kp b4 b8 (O1 rv)) w' sv s/\SnL c zs/\SnL c s/\SnL c xs/\SnL c ys/\
   ∀st2 rs,M.Bd.Out n (M.rowB (ys.getD i 0) ((xs.take (xs.length-i)).drop j)) c st2 rs->M.Bd.Out n (M.rowB (ys.getD i 0) (xs.take (xs.length-i))) y st2 (zs++rs)) ⟨y,rv,[],rfl,h4,by rw[gS];exact X,rfl,N,SnL.nil,B,a3,a6,λ_ _ h=>h⟩ ?_
  rintro j _ g5 w5 C5 hj ⟨c,a9,zs,rfl,z,Y,av,a0,a7,E,q,t,o⟩ ad;have ao:=Ints.ext0 Q z.ext;simp(disch:=exact oS) only[push_cast,ao.len];refine zb (λay=>?_) (λax=>?_)
  .have V:j<xs.length-i:=oM;refine zd λw6 G _=>?_;have T:=z.grow G;have a2:=Ints.ext0 Q T.ext;have a5:=Ints.ext0 a4 T.ext;obtain⟨c6,I,m⟩:=T.call;have ei:((i:Int)+j)-i=(j:Int):=oM;simp(disch:=exact oS) only[push_cast,zi,ei,a2.iaddr,a2.load,a5.iaddr,a5.load,K3,m w6 (Same.refl _ _)];refine sand7_spec hn I T.dl (q.get oM) (t.get H) λw7 ac R d l J hd f=>?_;simp only[push_cast,K3];refine T.put l J λw8 F x au=>?_
   try simp only[push_cast,K3,gm]
   have ak:OwnI ze w8 a9 (M.offsL i++zs):=((Y.ext G).ext l).same x λb a=>(z.off b a).2.2.1;have a1:Ints (Kp b4 b8 (O1 a9)) w8 sv s:=Ints.kp4 (Ints.ext (Ints.ext a0 G) l) x;refine F.app' ak (by rw[V1,M.offsL_len];omega) λaw w9 h9 al L=>?_
   try simp(disch:=omega) only[push_cast,zi]
   refine ad V _ _ ⟨R,aw,zs++[d],by simp<;>omega,h9,by rw[<-Gd];exact al,by simp[av],L _ _ a1,SnL.app (a7.out f) (SnL.one hd),E.out f,q.out f,t.out f,λst2 rs ho=>?_⟩;have:=o st2 (d::rs) ?_
   .simpa using this
   rw[jb0 oM,XY V];exact xF f (M.Bd.Out.map _ ho)
  .have b2:j=xs.length-i:=oM;have p:=o c [] (by rw[xB0 oM];exact M.Bd.Out.ret _ _);rw[gS] at p;obtain⟨c6,I,m⟩:=z.call;simp only[m w5 (Same.refl _ _)];refine sadd7_spec hn I z.dl a0 Y.ints (by rw[V1,M.offsL_len];omega) oM E (SnL.app (SnL.fill i) a7) (Sn.of dC dC) λw7 ac R nv ns l J f ah aj k=>?_;simp only[push_cast,K3];refine z.put l J λw8 F x au=>?_
   try simp(disch:=omega) only[push_cast,zi]
   have ai:ns.length=xs.length:=by
    have:=M.sum_len k.reach;rw[V1,M.offsL_len] at this;omega
   have l5:=z.lt4;have s5:=z.ext.size;refine hC H _ _ ⟨R,nv,ns,by simp,F.drop,Ints.same (Ints.weaken (F':=λb=>Kp b4 b8 (λ_=>False) b/\w.heap.size<=b) f.ints λb a _=>by have:=ah b a;exact⟨⟨oM,oM,id⟩,oM⟩) x (λb a _ e=>a.1.1 e),ai,aj,q.out k,t.out k,λst2 res ho=>A st2 res ?_⟩;rw[yT H];exact M.Bd.Out.bind p (M.Bd.Out.bind k ho)
 .refine h3.fin λw4 ab e4 af N=>?_;exact hK w4 ab y sv s e4 af (Ints.weaken (Ints.same Z N λb a _ e=>a.1.2.1 e) λb a _=>a.2) B (A y s (by rw[xE0 oM];exact M.Bd.Out.ret _ _))
theorem sfrom7_spec {op fill:Int} {j b:Nat} (hs:Ints Fx w sv xs) (f:j<xs.length) (h:xs.length<=1000) (g:b<=1000) (a:K (nI (M.fromL (decide (op=11)) fill xs b j)) w):
  vcall U4 #[nI op,sv,nI j,nI b,nI fill] w K:=by
 refine zf {} Tryz.func221 ?_;obtain⟨f1,f2,f3⟩:=from_at (up:=decide (op=11)) (fill:=fill) (s:=xs) (b:=b) f;simp(disch:=omega) only[push_cast,zi];refine zb (λc=>?_) (λc=>?_)
 .rw[gC c] at f1 f2 f3 a;simp only[if_true] at f1 f2 f3;rw[show(j:Int)-b=j+ -(b:Int) by omega]
  try simp(disch:=omega) only[push_cast,zi]
  refine zb (λd=>?_) (λd=>?_)
  .rw[f2 d] at a;exact a
  try simp(disch:=exact oS) only[push_cast,hs.len]
  refine zb (λe=>?_) (λe=>?_)
  .rw[f3 e] at a;exact a
  simp(disch:=exact oS) only[push_cast,hs.iaddr,hs.load];rw[f1 oM oM] at a;exact a
 .rw[gr c] at f1 f2 f3 a;simp only[Gj,if_false] at f1 f2 f3;refine zb (λd=>absurd d oM) (λd=>?_)
  try simp(disch:=exact oS) only[push_cast,hs.len]
  refine zb (λe=>?_) (λe=>?_)
  .rw[f3 e] at a;exact a
  simp(disch:=exact oS) only[push_cast,hs.iaddr,hs.load];rw[f1 oM oM] at a;exact a
theorem from_sn {up:Bool} {fill:Int} {s:oI} {b k:Nat} (a:Sn st fill) (hs:SnL st s) (c:k<s.length):Sn st (M.fromL up fill s b k):=by
 unfold M.fromL
 repeat' split
 all_goals first|exact a|exact hs.get oM
theorem sshift7_spec {op:Int} (hn:n<=8) (hk:MkR n D w cs st) (hD:∀b,D b->b<w.heap.size) (hx:Ints Fx w xv xs) (hy:Ints Fy w yv ys) (h1:1<=xs.length) (h8:xs.length<=1000) (b6:ys.length<=8) (a7:SnL st xs) (au:SnL st ys)
  (hK:∀w' cs' st' r zs,Ext w w'->MkR n D w' cs' st'->Ints (λb=>w.heap.size<=b) w' r zs->SnL st' zs->M.Bd.Out n (M.shiftB (decide (op=11)) (if op=13 then xs.getD (xs.length-1) 0 else-1) ys 0 xs) st st' zs->K (.tuple #[.agg ⟨cs'⟩,r]) w'):
  vcall VB #[.agg ⟨cs⟩,nI op,xv,yv] w K:=by
 refine zf {loops:=[(6,[10,12]),(10,[13,14])],cuts:=[(16389,[11])]} Tryz.func166 ?_;refine Fm.start hk hD λb4 b8 w1 p=>?_;have a6:=Ints.under hx;have a8:=Ints.under hy;have lo:=p.lo;have s1:=p.ext.size;refine spec_nil λv2 w2 ao e2 X=>?_;refine ao.app xx (Ints.ext0 a6 (p.ext.trans e2)) (by simp;omega) (by simp;omega) λv3 w3 ap aq an=>?_;have l1:=p.lt4;have z2:=e2.size;have ae:Ext w1 w3:=Ext.then e2 aq λb f=>X b f;have Z:∀b,v3.ownBlock=some b->w1.heap.size<=b:=λb f=>(an b f).elim (X b) λh=>oM
 have h3:=p.grow ae;have ab:Ints (λb=>Kp b4 b8 (λ_=>False) b/\w.heap.size<=b) w3 v3 xs:=Ints.weaken ap.ints λb f _=>by
  have:=Z b f;exact⟨⟨oM,oM,id⟩,oM⟩
 have aj:Sn st (if op=13 then xs.getD (xs.length-1) 0 else-1):=by
  split
  .exact a7.get oM
  .exact Sn.of dC dC
 refine zp (λu w'=>u=[nI (if op=13 then xs.getD (xs.length-1) 0 else-1)]/\w'=w3) ?_ ?_
 .intro J hJ;have U:=Ints.ext0 a6 h3.ext;refine oZ ?_;refine zb (λc=>?_) (λc=>?_)
  .rw[V0 c] at hJ;simp(disch:=exact oS) only[push_cast,U.len,zi];rw[show((xs.length:Int)-1)=((xs.length-1:Nat):Int) by omega];rw[U.iaddr Qv oM oM,gu,U.load Jz oM];exact hJ _ _ ⟨rfl,rfl⟩
  .rw[Q1 c] at hJ;exact hJ _ _ ⟨rfl,rfl⟩
 rintro _ _ w4 ⟨rfl,rfl⟩;generalize (if op=13 then xs.getD (xs.length-1) 0 else-1)=fill at*;refine vloop_up ys.length (λi u w'=> ∃z sv s,u=[sv,nI i]/\Fm n D (λ_=>False) w b4 b8 w' z/\Ints (λb=>Kp b4 b8 (λ_=>False) b/\w.heap.size<=b) w' sv s/\s.length=xs.length/\SnL z s/\SnL z ys/\Sn z fill/\
  ∀st2 res,M.Bd.Out n (M.shiftB (decide (op=11)) fill (ys.drop i) i s) z st2 res->M.Bd.Out n (M.shiftB (decide (op=11)) fill ys 0 xs) st st2 res) ⟨st,v3,_,rfl,h3,ab,rfl,a7,au,aj,λ_ _ h=>h⟩ ?_
 rintro i _ g w5 C hi ⟨E,sv,s,rfl,h5,a4,b5,H,a9,ai,F⟩ hC;have ar:=Ints.ext0 a8 h5.ext;simp(disch:=exact oS) only[push_cast,ar.len];refine zb (λb3=>?_) (λb1=>?_)
 .have Q:i<ys.length:=oM;have hp:=pow_le4 (i:=i) oM;obtain⟨B,hB⟩:∃B,2^i=B:=⟨_,rfl⟩;refine spec_nil λrv w6 a2 W Y=>?_;have h6:=h5.take W a2 Y;have T:Ints (Kp b4 b8 (O1 rv)) w6 sv s:=Ints.kpO (O:=λ_=>False) (Ints.weaken a4 λb f _=>f.1) W (λb f=>f.elim) λb f=> .inr (Y b f);refine vloop_up s.length (λj u w'=> ∃k rv zs,u=[rv,nI j]/\Fm n D (O1 rv) w b4 b8 w' k/\OwnI ze w' rv zs/\zs.length=j/\Ints (Kp b4 b8 (O1 rv)) w' sv s/\SnL k zs/\SnL k s/\SnL k ys/\Sn k fill/\
   ∀st2 rs,M.Bd.Out n (M.eachB (M.muxB (ys.getD i 0)) (((List.range s.length).map (M.fromL (decide (op=11)) fill s B)).drop j) (s.drop j)) k st2 rs->M.Bd.Out n (M.eachB (M.muxB (ys.getD i 0)) ((List.range s.length).map (M.fromL (decide (op=11)) fill s B)) s) E st2 (zs++rs)) ⟨E,rv,[],rfl,h6,a2,rfl,T,SnL.nil,H,a9,ai,λ_ _ h=>h⟩ ?_
  rintro j _ g7 w7 C7 hj ⟨k,V,zs,rfl,h7,a3,av,a5,aa,x,y,N,v⟩ ah;simp(disch:=exact oS) only[push_cast,a5.len];refine zb (λay=>?_) (λax=>?_)
  .have m:j<s.length:=oM;refine zd λw8 I _=>?_;have A:=h7.grow I;have l:=Ints.ext a5 I;have a:=Ints.ext0 a8 A.ext;obtain⟨c8,al,q⟩:=A.call;simp(disch:=exact oS) only[push_cast,l.iaddr,l.load,a.iaddr,a.load,K3,q w8 (Same.refl _ _)];refine l1Two_nat oM ?_;rw[hB];simp(disch:=exact oS) only[push_cast,l.iaddr,l.load,a.iaddr,a.load,K3,gm,q w8 (Same.refl _ _)];refine sfrom7_spec l m oM oM ?_;simp(disch:=exact oS) only[push_cast,l.iaddr,l.load,a.iaddr,a.load,K3,gm,q w8 (Same.refl _ _)];refine sone7_spec hn al A.dl (y.get Q) (from_sn N x m) (x.get m) λw9 b0 aw d L am hd t=>?_;simp only[push_cast,K3];refine A.put L am λw10 af G az=>?_
   try simp only[push_cast,K3,gm]
   have a0:OwnI ze w10 V zs:=((a3.ext I).ext L).same G λb f=>(h7.off b f).2.2.1;have S:Ints (Kp b4 b8 (O1 V)) w10 sv s:=Ints.kp4 (Ints.ext l L) G;refine af.app' a0 oM λac b7 ag a1 R=>?_
   try simp(disch:=omega) only[push_cast,zi]
   refine ah m _ _ ⟨aw,ac,zs++[d],by simp,ag,a1,by simp[av],R _ _ S,SnL.app (aa.out t) (SnL.one hd),x.out t,y.out t,N.out t,λst2 rs ho=>?_⟩;have:=v st2 (d::rs) ?_
   .simpa using this
   rw[Qu (by simpa using m) m,Ko m];exact M.Bd.Out.bind t (M.Bd.Out.map _ ho)
  .have b2:j=s.length:=oM;have o:=v k [] (by rw[YE (by simp;omega)];exact M.Bd.Out.ret _ _);rw[gS] at o
   try simp(disch:=omega) only[push_cast,zi]
   refine hC Q _ _ ⟨k,V,zs,by simp,h7.drop,Ints.weaken a3.ints (λb f _=>by have h9:=h7.off b f;exact⟨⟨h9.2.2.1,h9.2.2.2,id⟩,h9.2.1⟩),oM,aa,y,N,λst2 res ho=>F st2 res ?_⟩;rw[yT Q];rw[<-hB] at o;exact M.Bd.Out.bind o ho
 .refine h5.fin λw6 ad e6 ak T=>?_;exact hK w6 ad E sv s e6 ak (Ints.weaken (Ints.same a4 T λb f _ e=>f.1.2.1 e) λb f _=>f.2) H (F E s (by rw[zK0 oM];exact M.Bd.Out.ret _ _))
end
section
variable {w:World} {K:oK} {D F Fx Fy Y S O:oA} {n b4 b8:Nat} {v nv xv yv:Value} {cs cs':List Value} {st st':Option M.Gs} {a b c m x y r:Int} {xs ys:oI}
theorem SnL.set {xs:oI} (h:SnL st xs) {i:Nat} {x:Int} (b:Sn st x):SnL st (xs.set i x):=λy c=>by
 rcases Pg c with a|a
 .exact h y a
 .rw[a];exact b
theorem SnL.take (h:SnL st xs) (m:Nat):SnL st (xs.take m):=λx a=>h x (gV a)
theorem sdiv7_spec (hn:n<=8) (hk:MkR n D w cs st) (hD:∀b,D b->b<w.heap.size) (hx:Ints Fx w xv xs) (hy:Ints Fy w yv ys) (hl:xs.length=ys.length) (h8:xs.length<=900) (cq:SnL st xs) (ct:SnL st ys)
  (hK:∀w' cs' st' qv rv q r,Ext w w'->MkR n D w' cs' st'->Ints (λb=>w.heap.size<=b) w' qv q->Ints (λb=>w.heap.size<=b) w' rv r->SnL st' q->SnL st' r->M.Bd.Out n (M.divB xs (ys++[-1]) xs.length (M.offsL xs.length) (M.offsL xs.length)) st st' (q,r)->K (.tuple #[.agg ⟨cs'⟩,qv,rv]) w'):
  vcall zX0 #[.agg ⟨cs⟩,xv,yv] w K:=by
 refine zf {loops:=[(6,[10,13])]} Tryz.func165 ?_;refine Fm.start hk hD λb4 b8 w1 h1=>?_;have bj:=Ints.under hx;have cr:=Ints.under hy;have lo:=h1.lo;have s1:=h1.ext.size;have l1:=h1.lt4;have cp:=Ints.ext0 bj h1.ext;simp(disch:=exact oS) only[push_cast,cp.len];refine sfill7_spec oM λw2 bm a5 b7 az=>?_;refine sfill7_spec oM λw3 qv Q ab U=>?_;refine spec_nil λv4 w4 cc e4 ay=>?_;refine cc.app xx (Ints.ext0 cr (h1.ext.trans (a5.trans (Q.trans e4)))) (by simp;omega) (by simp;omega) λv5 w5 cd bb c9=>?_;have z2:=a5.size;have z3:=Q.size;have z4:=e4.size;have z5:=bb.size;have cm:∀b,v5.ownBlock=some b->w3.heap.size<=b:=λb a=>(c9 b a).elim (ay b) λh=>oM
 have bs:Ext w3 w5:=Ext.then e4 bb λb a=>ay b a;refine spec_app (w0:=w3) bs cd cm (by simp;omega) λwv w6 bi a2 b0=>?_;rw[Gr] at bi;simp(disch:=omega) only[push_cast,zi];have ce:=ab.ext a2;have h2:=h1.grow a5;have h3:=h2.take Q ab U;have h6:Fm n D (O1 qv) w b4 b8 w6 st:=h3.grow a2;have bz:Ints (λb=>Kp b4 b8 (O1 qv) b/\w.heap.size<=b) w6 bm (M.offsL xs.length):=Ints.weaken (b7.ext (Q.trans a2)).ints λb a _=>by
  have bw:=az b a;have c6:=b7.lt a;exact⟨⟨oM,oM,λhq=>by have:=U b hq;omega⟩,oM⟩
 have c3:Ints (Kp b4 b8 (O1 qv)) w6 wv (ys++[-1]):=Ints.weaken bi.ints λb a _=>by
  have bw:=b0 b a;exact⟨oM,oM,λhq=>by have:=ab.lt hq;omega⟩
 have dd:(ys++[(-1:Int)]).length=xs.length+1:=by rw[V1,hl];rfl
 have co:SnL st (ys++[(-1:Int)]):=ct.app (SnL.one (Sn.of dC dC));generalize ys++[(-1:Int)]=wide at*;refine qA (λm u w'=> ∃B rv r q,u=[rv,nI ((m:Int)-1)]/\m<=xs.length/\Fm n D (O1 qv) w b4 b8 w' B/\Ints (λb=>Kp b4 b8 (O1 qv) b/\w.heap.size<=b) w' rv r/\r.length=xs.length/\SnL B r/\OwnI ze w' qv q/\q.length=xs.length/\SnL B q/\Ints (Kp b4 b8 (O1 qv)) w' wv wide/\SnL B wide/\SnL B xs/\
  ∀st2 res,M.Bd.Out n (M.divB xs wide m r q) B st2 res->M.Bd.Out n (M.divB xs wide xs.length (M.offsL xs.length) (M.offsL xs.length)) st st2 res) xs.length
  ⟨st,bm,_,_,rfl,gz _,h6,bz,M.offsL_len _,SnL.fill _,ce,M.offsL_len _,SnL.fill _,c3,co,cq,λ_ _ h=>h⟩ ?_
 rintro m _ g w7 C ⟨ad,rv,r,q,rfl,hm,h7,b9,cg,ba,b5,cf,b6,cn,z,Z,V⟩ hC;refine oZ ?_;refine zb (λdb=>?_) (λc6=>?_)
 .obtain⟨m,rfl⟩:∃j,m=j+1:=⟨m-1,oM⟩;have c8:m<xs.length:=oM;rw[show((m+1:Nat):Int)-1=(m:Int) by omega];have bk:=Ints.ext0 bj h7.ext;rw[bk.iaddr Qv oM oM,gu,bk.load Jz oM];refine zC x8 yG xp rfl rfl λa0 w8 da ao de bx=>?_;have ci:OwnI ze w8 (.slice (some ⟨a0,0,none⟩) 1 1) [xs.getD m 0]:=Blk.own1 (t:=ze) (cs:=[nI (xs.getD m 0)]) (by rw[qD];exact bx) (gW _) rfl rfl oM;refine ci.app xx (Ints.ext b9 ao) (by simp;omega) (by simp;omega) λtv w9 cj ch ca=>?_;have ah:Ext w7 w9:=Ext.then ao ch λb a=>by have e:a0=b:=gg a;omega
  have ck:∀b,tv.ownBlock=some b->w7.heap.size<=b:=λb a=>(ca b a).elim (λh=>by have e:a0=b:=gg h;omega) λh=>oM;have h9:=h7.grow ah;have c0:Ints (Kp b4 b8 (O1 qv)) w9 tv (xs.getD m 0::r):=h7.new cj ck;have ac:SnL ad (xs.getD m 0::r):=(SnL.one (Z.get c8)).app ba;have bd:(xs.getD m 0::r).length=xs.length+1:=(by rw[gJ,cg]);refine spec_nil λvz w10 d0 a1 cb=>?_;have E:=h9.grow a1;have R:=ah.trans a1;have S:Ints (Kp b4 b8 (O1 qv)) w10 tv (xs.getD m 0::r):=Ints.ext c0 a1;have X:Ints (Kp b4 b8 (O1 qv)) w10 wv wide:=Ints.ext cn R;have b1:=b5.ext R;generalize ht:xs.getD m 0::r=t at*;obtain⟨d6,ap,a6⟩:=E.call;simp only[a6 w10 (Same.refl _ _)];refine sless7_spec hn ap E.dl S X oM oM ac z λdg cx bn l v aq I d=>?_;simp only[push_cast,K3];refine E.put v aq λae ai L d1=>?_;have W:OwnI ze ae qv q:=(b1.ext v).same L λb a=>(E.off b a).2.2.1;have ak:Ints (Kp b4 b8 (O1 qv)) ae tv t:=Ints.kp4 (Ints.ext S v) L;have bg:Ints (Kp b4 b8 (O1 qv)) ae wv wide:=Ints.kp4 (Ints.ext X v) L;have c5:=I.1;unfold Sm at c5;simp(disch:=omega) only[push_cast,zi,Gh];rw[W.ints.iaddr Qv oM oM,gu];refine W.st yG oM λaf b2 N d2=>?_;have bt:Fm n D (O1 qv) w b4 b8 af bn:=ai.own N (λb a=>a) λb a=>⟨by have:=(ai.off b a).1;omega,.inl a⟩;have al:Ints (Kp b4 b8 (O1 qv)) af tv t:=Ints.same ak N λb a _ e=>a.2.2 e;have Y:Ints (Kp b4 b8 (O1 qv)) af wv wide:=Ints.same bg N λb a _ e=>a.2.2 e;refine zd λcw k _=>?_;have a3:=bt.grow k;obtain⟨d7,ar,J⟩:=a3.call;simp only[push_cast,K3,J cw (Same.refl _ _)];refine sturn7_spec (Ints.ext Y k) oM (z.sm) λag nv i ax a8=>?_;have a4:=a3.grow i;have aj:Ints (Kp b4 b8 (O1 qv)) ag nv (M.negL wide):=a3.new ax a8;have T:Ints (Kp b4 b8 (O1 qv)) ag tv t:=Ints.ext (Ints.ext al k) i;simp only[push_cast,K3,gm,J ag i];refine sadd7_spec hn (ar.ext i λ_ h _=>h) a4.dl T aj (by rw[M.negL_len];omega) oM (ac.out d) ((z.out d).neg) (Sn.of dC dC) λdh cy d5 uv us x au be a9 cl f=>?_;simp only[push_cast,K3];refine a4.put x au λbp bu y d3=>?_;have bf:us.length=xs.length+1:=by
   have:=M.sum_len f.reach;rw[M.negL_len] at this;omega
  have an:Ints (Kp b4 b8 (O1 qv)) bp uv us:=Ints.kp4 (a4.new be a9) y;have am:Ints (Kp b4 b8 (O1 qv)) bp tv t:=Ints.kp4 (Ints.ext T x) y
  try simp only[push_cast,K3,gm]
  refine zd λs o _=>?_;have A:=bu.grow o;obtain⟨d8,av,a7⟩:=A.call;have F:=Ints.ext am o;have G:=Ints.ext an o;have eT:xt ze tv none (some (nI xs.length)) none s=λK=>K (cutV tv xs.length) s:=by
   funext K
   by_cases c:xs.length<=t.length
   .exact Sl.cut F (Sl.base F (by simp;intro h;rw[h] at bd;simp at bd)) Qv (by simpa using c)
   .omega
  have eU:xt ze uv none (some (nI xs.length)) none s=λK=>K (cutV uv xs.length) s:=by
   funext K
   exact Sl.cut G (Sl.base G (by simp;intro h;rw[h] at bf;simp at bf)) Qv (by simpa using(show xs.length<=us.length by omega))
  have c1:Ints (Kp b4 b8 (O1 qv)) s (cutV tv xs.length) (t.take xs.length):=by
   have:=Sl.taken F (n:=xs.length) (by simpa using(show xs.length<=t.length by omega));unfold Ints Vals;rw[GO,GO];exact this
  have c2:Ints (Kp b4 b8 (O1 qv)) s (cutV uv xs.length) (us.take xs.length):=by
   have:=Sl.taken G (n:=xs.length) (by simpa using(show xs.length<=us.length by omega));unfold Ints Vals;rw[GO,GO];exact this
  simp only[push_cast,K3,a7 s (Same.refl _ _),eT,eU];refine sifs7_spec hn av A.dl c1 c2 (by rw[gi,gi];omega) (by rw[gi];omega) (((ac.out d).out f).take _) (cl.take _) (I.out f) λdi cz bo zv zs H aw bl aa cv p=>?_;simp only[push_cast,K3];refine A.put H aw λbq bv O d4=>?_
  try simp(disch:=omega) only[push_cast,K3,gm,zi]
  have cu:zs.length=xs.length:=by
   have:=M.each_len p.reach;rw[gi,gi] at this;omega
  have b3:OwnI ze bq qv (q.set m (-l)):=by
   have off:∀b,qv.ownBlock=some b->¬b=b4:=λb a=>(E.off b a).2.2.1;exact((((((b2.ext k).ext i).ext x).same y off).ext o).ext H).same O off
  have bh:Ints (Kp b4 b8 (O1 qv)) bq wv wide:=Ints.kp4 (Ints.ext (Ints.ext (Ints.kp4 (Ints.ext (Ints.ext (Ints.ext Y k) i) x) y) o) H) O;have df:=A.ext.size;refine hC m _ _ oM ⟨bo,zv,zs,q.set m (-l),by simp<;>exact⟨rfl,rfl⟩,oM,bv,Ints.same (Ints.weaken (F':=λb=>Kp b4 b8 (O1 qv) b/\w.heap.size<=b) bl.ints λb a _=>by
   have d9:=aa b a;have dc:=A.lt4;exact⟨⟨oM,oM,λhO=>by have:=(A.off b hO).1;omega⟩,oM⟩) O (λb a _ e=>a.1.1 e),cu,cv,b3,by rw[G4];exact cf,(((b6.out d).set I.neg).out f).out p,bh,((z.out d).out f).out p,((Z.out d).out f).out p,λst2 res ho=>V st2 res ?_⟩
  subst ht;exact xM0 d f p ho
 .have c7:m=0:=oM;subst c7;refine h7.fin λw8 br e8 c4 bc=>?_;exact hK w8 br ad qv rv q r e8 c4 (Ints.weaken (b5.same bc λb a e=>(h7.off b a).2.2.2 e).ints λb a _=>(h7.off b a).2.1) (Ints.weaken (Ints.same b9 bc λb a _ e=>a.1.2.1 e) λb a _=>a.2) b6 ba (V ad (q,r) (by unfold M.divB;exact M.Bd.Out.ret _ _))
end
section
variable {w:World} {K:oK} {D F Fx Fy Y S O:oA} {n b4 b8:Nat} {v v' nv xv yv:Value} {cs cs':List Value} {st st':Option M.Gs} {a b c m x y r:Int} {xs ys:oI}
abbrev New (w:World):oA:=λb=>w.heap.size<=b
theorem Fm.res {w0 c:World} {rv:Value} {zs:oI} (h:Fm n D O w0 b4 b8 w st) (he:Ext w c) (k:MkR n (YA0 D O b4 b8) c cs' st') (m:Ints (New w) c rv zs)
  (i:∀a,Ext w0 a->MkR n D a cs' st'->Ints (New w0) a rv zs->K (.tuple #[.agg ⟨cs'⟩,rv]) a):
  zy zD (oP b8 0) (.agg ⟨cs'⟩) c λ_ a=>vlv zD (oP b8 0) a λo p=>K (.tuple #[o,rv]) p:=by
 refine h.out he k λa g d f=>i a g d ?_;have l:=h.lt4;have s:=h.ext.size;exact Ints.weaken (Ints.same m f λb j _ e=>oM) λb j _=>oM
theorem j8 {w0:World} {rv:Value} {zs:oI} (d:OwnI ze w rv zs) (c:∀b,rv.ownBlock=some b->w0.heap.size<=b):Ints (New w0) w rv zs:=Ints.weaken d.ints λb a _=>c b a
theorem sbin7_spec {op:Int} (h3:3<=op) (au:op<=14) (Q:n<=8) (hk:MkR n D w cs st) (hD:∀b,D b->b<w.heap.size) (hx:Ints Fx w xv xs) (hy:Ints Fy w yv ys) (hl:op≠14->xs.length=ys.length) (al:1<=xs.length) (h8:xs.length<=8) (aw:ys.length<=8) (s:SnL st xs) (j:SnL st ys)
  (y:∀w' cs' st' r zs,Ext w w'->MkR n D w' cs' st'->Ints (New w) w' r zs->SnL st' zs->M.Bd.Out n (M.binB op xs ys) st st' zs->K (.tuple #[.agg ⟨cs'⟩,r]) w'):
  vcall zZ0 #[.agg ⟨cs⟩,nI op,xv,yv] w K:=by
 refine zf {cuts:=[(61457,[66])]} Tryz.func114 ?_;refine Fm.start hk hD λb4 b8 w1 m=>?_;have p:=Ints.ext (Ints.under hx) m.ext;have t:=Ints.ext (Ints.under hy) m.ext;unfold M.binB at y;obtain⟨c1,o,e⟩:=m.call;refine oZ ?_;refine zb (λc=>?_) (λc6=>?_)
 .subst c;simp only[Q1 (show¬(6:Int)=14 by decide),Q1 (show¬(6:Int)=3 by decide),Q1 (show¬(6:Int)=4 by decide),Q1 (show¬(6:Int)=5 by decide),if_true] at y;simp only[e w1 (Same.refl _ _)];refine sadd7_spec Q o m.dl p t oM oM s j (Sn.of dC dC) λw2 v st2 rv zs f g C Z U A=>?_;refine oZ ?_;exact m.res f g (j8 C Z) λB e3 z k=>y B v st2 rv zs e3 z k U A
 try simp only[push_cast]
 refine zb (λc=>?_) (λc7=>?_)
 .subst c;simp only[Q1 (show¬(7:Int)=14 by decide),Q1 (show¬(7:Int)=3 by decide),Q1 (show¬(7:Int)=4 by decide),Q1 (show¬(7:Int)=5 by decide),Q1 (show¬(7:Int)=6 by decide),if_true] at y;refine zd λw2 f _=>?_;simp only[e w2 f,K3];refine sturn7_spec (Ints.ext t f) oM j.sm λB nv a ab ap=>?_;simp only[e B (f.trans a),K3,gm];have Y:=(m.grow f).grow a;refine sadd7_spec Q (o.ext (f.trans a) λ_ h _=>h) Y.dl (Ints.ext p (f.trans a)) ab.ints (by grind [M.negL_len]) oM s j.neg (Sn.of dC dC) λX a6 an rv zs a8 a9 ah a1 V R=>?_;simp only[push_cast,K3];exact Y.res a8 a9 (j8 ah a1) λE G i l=>y E a6 an rv zs G i l V R
 try simp only[push_cast]
 refine zb (λc=>?_) (λc8=>?_)
 .subst c;simp only[Q1 (show¬(8:Int)=14 by decide),Q1 (show¬(8:Int)=3 by decide),Q1 (show¬(8:Int)=4 by decide),Q1 (show¬(8:Int)=5 by decide),Q1 (show¬(8:Int)=6 by decide),Q1 (show¬(8:Int)=7 by decide),if_true] at y;simp only[e w1 (Same.refl _ _)];refine smul7_spec Q o m.dl p t (hl dC) oM s j λw2 v st2 rv zs f g C U A=>?_;refine oZ ?_;exact m.res f g C λB e3 z k=>y B v st2 rv zs e3 z k U A
 try simp only[push_cast]
 refine zb (λc=>?_) (λc9=>?_)
 .subst c;simp only[Q1 (show¬(9:Int)=14 by decide),Q1 (show¬(9:Int)=3 by decide),Q1 (show¬(9:Int)=4 by decide),Q1 (show¬(9:Int)=5 by decide),Q1 (show¬(9:Int)=6 by decide),Q1 (show¬(9:Int)=7 by decide),Q1 (show¬(9:Int)=8 by decide),if_true] at y;simp only[e w1 (Same.refl _ _)];refine sdiv7_spec Q o m.dl p t (hl dC) oM s j λw2 v st2 qv rv q r f g a2 C a3 a4 A=>?_;refine oZ ?_;refine zj xy λa5 B a7 a k L=>?_;refine mk_put L rfl g.len g.one λX T V N=>?_;rw[KU N g.len];have x:Ext w2 X:=Ext.then a T λb O=>oM;exact m.res (f.trans x) (g.ext x λ_ h _=>h) (Ints.ext a2 x) λE G i l=>y E v st2 qv q G i l a3 (M.Bd.Out.map _ A)
 try simp only[push_cast]
 refine zb (λc=>?_) (λaq=>?_)
 .subst c;simp only[Q1 (show¬(10:Int)=14 by decide),Q1 (show¬(10:Int)=3 by decide),Q1 (show¬(10:Int)=4 by decide),Q1 (show¬(10:Int)=5 by decide),Q1 (show¬(10:Int)=6 by decide),Q1 (show¬(10:Int)=7 by decide),Q1 (show¬(10:Int)=8 by decide),Q1 (show¬(10:Int)=9 by decide),if_true] at y;simp only[e w1 (Same.refl _ _)];refine sdiv7_spec Q o m.dl p t (hl dC) oM s j λw2 v st2 qv rv q r f g a2 C a3 a4 A=>?_;refine oZ ?_;refine zj xy λa5 B a7 a k L=>?_;refine mk_put L rfl g.len g.one λX T V N=>?_;rw[KU N g.len];have x:Ext w2 X:=Ext.then a T λb O=>oM;exact m.res (f.trans x) (g.ext x λ_ h _=>h) (Ints.ext C x) λE G i l=>y E v st2 rv r G i l a4 (M.Bd.Out.map _ A)
 refine zp (λu w'=>u=[.bool (decide (op=11\/op=12\/op=13))]/\w'=w1) ?_ ?_
 .intro J hJ
  try simp only[push_cast]
  refine zb (λc=>?_) (λc=>?_)
  .grind
  try simp only[push_cast]
  refine zb (λd=>?_) (λd=>?_)
  .grind
  grind
 rintro _ _ w2 ⟨rfl,rfl⟩
 try simp only[push_cast]
 refine zb (λc=>?_) (λao=>?_)
 .simp only[e w2 (Same.refl _ _)];refine sshift7_spec Q o m.dl p t al oM oM s j λB H W rv zs a z S k ae=>?_;refine oZ ?_;refine m.res a z S λE G i l=>y E H W rv zs G i l k ?_
  grind
 try simp only[push_cast]
 refine zb (λc=>?_) (λar=>?_)
 .rw[V0 c] at y;refine zd λB a _=>?_;simp only[e B a,K3];refine spec_nil λv4 X R e4 ac=>?_;simp only[e X (a.trans e4),K3,gm];refine R.app xx (Ints.ext t (a.trans e4)) (by simp;omega) (by simp;omega) λv5 E af ai av=>?_;have z3:=a.size;have z4:=e4.size;have F:Ext B E:=Ext.then e4 ai λb O=>ac b O;simp only[e E (a.trans F),K3,gm];have ak:∀b,v5.ownBlock=some b->B.heap.size<=b:=(by grind);refine af.app xx (Ints.ext p (a.trans F)) (by simp;omega) (by simp;omega) λv6 w6 ag aj ad=>?_;have z5:=F.size;have I:Ext B w6:=Ext.then F aj λb O=>ak b O;simp only[e w6 (a.trans I),K3,gm];refine m.res (a.trans I) (o.ext (a.trans I) λ_ h _=>h) (j8 ag λb O=>(ad b O).elim (λh=>by grind) λh=>oM) λw7 e7 aa am=>y w7 c1 st v6 _ e7 aa am (by rw[Gr];exact j.app s) (M.Bd.Out.ret _ _)
 simp only[e w2 (Same.refl _ _)];refine splain7_spec Q o m.dl p t oM oM s j λB H W rv zs a z S a0 k ae=>?_;refine oZ ?_;refine m.res a z (j8 S a0) λE G i l=>y E H W rv zs G i l k ?_
 grind [plainB]
theorem sun7_spec {op:Int} (X:op=1\/op=2) (R:n<=8) (Q:MkR n D w cs st) (hD:∀b,D b->b<w.heap.size) (S:Ints Fx w xv xs) (V:xs.length<=8) (f:SnL st xs)
  (k:∀w' cs' st' r zs,Ext w w'->MkR n D w' cs' st'->Ints (New w) w' r zs->SnL st' zs->M.Bd.Out n (M.unB op xs) st st' zs->K (.tuple #[.agg ⟨cs'⟩,r]) w'):
  vcall xa0 #[.agg ⟨cs⟩,nI op,xv] w K:=by
 refine zf {} Tryz.func112 ?_;refine Fm.start Q hD λb4 b8 w1 s=>?_;have p:=Ints.ext (Ints.under S) s.ext;unfold M.unB at k;obtain⟨c1,m,d⟩:=s.call;refine oZ ?_;refine zb (λc=>?_) (λc=>?_)
 .rw[V0 c] at k;refine zd λw2 a _=>?_;simp only[d w2 a,K3];refine sturn7_spec (Ints.ext p a) oM f.sm λF nv e y I=>?_;simp only[d F (a.trans e),K3,gm];have z2:=a.size;exact s.res (a.trans e) (m.ext (a.trans e) λ_ h _=>h) (j8 y λb W=>by grind) λL N i j=>k L c1 st nv _ N i j f.neg (M.Bd.Out.ret _ _)
 .rw[Q1 c] at k;refine zd λw2 a _=>?_;have q:=Ints.ext p a;simp(disch:=exact oS) only[push_cast,d w2 a,K3,q.len];refine sfill7_spec oM λF fv e v H=>?_;simp only[d F (a.trans e),K3,gm];refine sturn7_spec (Ints.ext q e) oM f.sm λT nv l z J=>?_;have g:=a.trans (e.trans l);simp only[d T g,K3,gm];have G:=s.grow g;refine sadd7_spec R (m.ext g λ_ h _=>h) G.dl (v.ext l).ints z.ints (by rw[M.negL_len,gP];omega) (by grind) (SnL.fill _) f.neg (Sn.of dC dC) λL t E rv zs u i B o j A=>?_;simp only[push_cast,K3];exact G.res u i (j8 B o) λU O x C=>k U t E rv zs O x C j A
theorem swap_get (xs ys:oI) (h:xs.length=ys.length) (c:1<=xs.length):xs.take (xs.length-1)++[ys.getD (xs.length-1) 0]=M.swapT xs ys:=by
 unfold M.swapT;refine Gi (by simp;omega) λi a b=>?_
 grind
theorem cut_app {w0:World} {vx:Value} {zs:oI} {x:Int} {c:Nat} {t0:TypeId} (f:Ext w0 w) (p:Ints Fx w vx zs) (s:zs.length<=1000) (h:Blk w c [nI x] t0) (j:w0.heap.size<=c) (m:OwnI ze w v []) (g:∀b,v.ownBlock=some b->w0.heap.size<=b/\b≠c)
  (r:∀w' v',Ext w0 w'->OwnI ze w' v' (zs++[x])->(∀b,v'.ownBlock=some b->w0.heap.size<=b)->K v' w'):
  vbi .append [ze,ze] ze [v,vx] w λt w1=>vbi .append [ze,ze] ze [t,.slice (some ⟨c,0,none⟩) 1 1] w1 K:=by
 have u:=f.size;refine m.app xx p (by simp;omega) (by simp;omega) λv2 w2 d a k=>?_;have s2:=a.size;refine OwnI.app1 d xx (h.same a λe=>(g _ e).2 rfl) (by simp;omega) (by simp;omega) λv3 y n o l=>?_;have q:Ext w0 w2:=Ext.then f a λb i=>(g b i).1
 grind [Ext.then]
theorem top_region {J:List Value->World->Prop} (hx:Ints Fx w xv xs) (hy:Ints Fy w yv ys) (hl:xs.length=ys.length) (h1:1<=xs.length) (h8:xs.length<=8) (hJ:∀w' r,Ext w w'->OwnI ze w' r (M.swapT xs ys)->(∀b,r.ownBlock=some b->w.heap.size<=b)->J [r] w'):
  Zl w λa=>
    xt ze xv none (some (nI ((xs.length-1:Nat):Int))) none a λt36 G=>G=a/\
    y2 ze yv (nI ((xs.length-1:Nat):Int)) a λt40 H=>H=a/\
    zu zE t40 a λt41 I=>I=a/\
    (vbuildS ze 0 [] a λt33 c=>(zu zE t40 c λv x=>v=t41/\x=c)/\(y2 ze yv (nI ((xs.length-1:Nat):Int)) c λv x=>v=t40/\x=c)/\(xt ze xv none (some (nI ((xs.length-1:Nat):Int))) none c λv x=>v=t36/\x=c)/\
     (vbi .append [ze,ze] ze [t33,t36] c λt37 d=>(zu zE t40 d λv x=>v=t41/\x=d)/\(y2 ze yv (nI ((xs.length-1:Nat):Int)) d λv x=>v=t40/\x=d)/\
      (vbuildS ze 1 [(0,t41)] d λt42 L=>
       (vbi .append [ze,ze] ze [t37,t42] L λt43 N=>
        J [t43] N)/\
       True)/\
      True)/\
     (vbuildS ze 1 [(0,t41)] c λy j=>(xt ze xv none (some (nI ((xs.length-1:Nat):Int))) none j λv x=>v=t36/\x=j)/\
      (vbi .append [ze,ze] ze [t33,t36] j λt O=>
       (vbi .append [ze,ze] ze [t,y] O λA Q=>
        J [A] Q)/\
       True)/\
      True)/\
     True)/\
    (vbuildS ze 1 [(0,t41)] a λz k=>(xt ze xv none (some (nI ((xs.length-1:Nat):Int))) none k λv x=>v=t36/\x=k)/\
     (vbuildS ze 0 [] k λs l=>(xt ze xv none (some (nI ((xs.length-1:Nat):Int))) none l λv x=>v=t36/\x=l)/\
      (vbi .append [ze,ze] ze [s,t36] l λu R=>
       (vbi .append [ze,ze] ze [u,z] R λB S=>
        J [B] S)/\
       True)/\
      True)/\
     True)/\
    True:=by
 refine zd λw2 g _=>?_;have sl:∀(w':World) (K:oK),Ext w w'->xt ze xv none (some (nI ((xs.length-1:Nat):Int))) none w' K=K (cutV xv (xs.length-1)) w':=λw' K he=>by
  have o:=Ints.ext hx he;exact propext ⟨λh=>by rwa[Sl.cut o (Sl.base o (by simp;grind)) Qv (by simp)] at h,λh=>by rwa[Sl.cut o (Sl.base o (by simp;grind)) Qv (by simp)]⟩
 have ia:∀(w':World) (K:oK),y2 ze yv (nI ((xs.length-1:Nat):Int)) w' K=K (oE (eaddr yv 1 (xs.length-1))) w':=λw' K=>by
  rw[hy.iaddr Qv oM oM,gu]
 have ld:∀(w':World) (K:oK),Ext w w'->zu zE (oE (eaddr yv 1 (xs.length-1))) w' K=K (nI (ys.getD (xs.length-1) 0)) w':=λw' K he=>(Ints.ext hy he).load Jz oM;have U:∀w',Ext w w'->Ints Fx w' (cutV xv (xs.length-1)) (xs.take (xs.length-1)):=λw' he=>by
  have:=Sl.taken (Ints.ext hx he) (n:=xs.length-1) (by simp)
  grind [Ints,Vals,List.map_take]
 have E:(xs.take (xs.length-1)).length<=1000:=by grind
 have s2:=g.size;simp only[sl _ _ g,ia,ld _ _ g,K3,Gq];refine⟨?_,?_⟩
 .refine spec_nil λv3 w3 i p F=>?_;have e:=g.trans p;simp only[sl _ _ e,ld _ _ e,K3,Gq,gm];refine⟨?_,?_⟩
  .refine i.app xx (U _ e) (by simp;omega) (by simp;omega) λv4 w4 X a2 V=>?_;have C:Ext w w4:=(by grind [Ext.then]);have s3:=p.size;simp only[ld _ _ C,K3,Gq,gm];refine spec_app (w0:=w) C X (λb D=>(V b D).elim (λh=>by grind) λh=>oM) (by simp;omega) λv5 w5 a1 e5 a0=>?_
   grind [swap_get]
  .refine zC x8 yG xp rfl rfl λb7 w7 T f Z q=>?_;have s3:=p.size;simp only[sl _ _ (e.trans f),K3,Gq,gm];refine cut_app (w0:=w) (e.trans f) (U _ (e.trans f)) E q oM (i.ext f) (λb D=>by have:=F b D;have:=i.lt D;omega) λw8 v8 e8 Y W=>?_
   grind [swap_get]
 .refine zC x8 yG xp rfl rfl λb7 w7 T f Z q=>?_;have m:=g.trans f;simp only[sl _ _ m,K3,Gq,gm];refine spec_nil λv3 w3 i p F=>?_;simp only[sl _ _ (m.trans p),K3,Gq,gm];refine cut_app (w0:=w) (m.trans p) (U _ (m.trans p)) E (q.ext p) oM i (λb D=>by grind) λw8 v8 e8 Y W=>?_
  grind [swap_get]
theorem swap_sn (a:SnL st xs) (b:SnL st ys) (d:xs.length=ys.length) (c:1<=xs.length):SnL st (M.swapT xs ys):=a.set (b.get oM)
theorem WP (xs ys:oI):(M.swapT xs ys).length=xs.length:=G4 ..
theorem scmp7_spec {op:Int} (W:15<=op) (X:op<=17) (y:n<=8) (Y:MkR n D w cs st) (hD:∀b,D b->b<w.heap.size) (hx:Ints Fx w xv xs) (hy:Ints Fy w yv ys) (x:xs.length=ys.length) (z:1<=xs.length) (h8:xs.length<=8) (g:SnL st xs) (j:SnL st ys)
  (k:∀w' cs' st' r,Ext w w'->MkR n D w' cs' st'->Sn st' r->M.Bd.Out n (M.cmpB op xs ys) st st' r->K (.tuple #[.agg ⟨cs'⟩,nI r]) w'):
  vcall zY0 #[.agg ⟨cs⟩,nI op,xv,yv] w K:=by
 refine zf {cuts:=[(32776,[11]),(36873,[12])]} Tryz.func113 ?_;refine Fm.start Y hD λb4 b8 w1 f=>?_;have d:=Ints.ext (Ints.under hx) f.ext;have i:=Ints.ext (Ints.under hy) f.ext;unfold M.cmpB at k;obtain⟨c1,o,a⟩:=f.call;refine oZ ?_;refine zb (λc=>?_) (λT=>?_)
 .rw[V0 c] at k;simp only[a w1 (Same.refl _ _)];refine ssame7_spec y o f.dl d i oM oM g j λw2 l st2 r m p t s=>?_;refine oZ ?_;exact f.out m p λA v q R=>k A l st2 r v q t s
 rw[Q1 T] at k
 try simp only[push_cast]
 refine zb (λc=>?_) (λU=>?_)
 .rw[V0 c] at k;simp only[a w1 (Same.refl _ _)];refine sless7_spec y o f.dl d i oM oM g j λw2 l st2 r m p t s=>?_;refine oZ ?_;exact f.out m p λA v q R=>k A l st2 r v q t s
 rw[Q1 U] at k;rw[d.len Zz0];simp(disch:=omega) only[push_cast,zi];rw[show((xs.length:Int)-1)=((xs.length-1:Nat):Int) by omega];refine zp (λu w'=> ∃r,u=[r]/\Ext w1 w'/\OwnI ze w' r (M.swapT xs ys)) ?_ ?_
 .intro J E;exact top_region d i x z oM λw' r he N y=>E _ _ ⟨r,rfl,he,N⟩
 rintro _ _ w2 ⟨av,rfl,C,F⟩;refine zp (λu w'=> ∃r,u=[r]/\Ext w2 w'/\OwnI ze w' r (M.swapT ys xs)) ?_ ?_
 .intro J E;rw[x];exact top_region (Ints.ext i C) (Ints.ext d C) x.symm oM oM λw' r he N y=>E _ _ ⟨r,rfl,he,N⟩
 rintro _ _ A ⟨bv,rfl,v,G⟩;have e:=C.trans v
 try simp only[push_cast]
 simp only[a A e];refine sless7_spec y (o.ext e λ_ h _=>h) (f.grow e).dl (F.ext v).ints G.ints (by rw[WP,WP];omega) (by rw[WP];omega) (swap_sn g j x z) (swap_sn j g x.symm oM) λw4 B S r H I Q O=>?_;refine oZ ?_;exact(f.grow e).out H I λw5 V L Z=>k w5 B S r V L Q O
end
section
variable {w:World} {K:oK} {D F Fx:oA} {n:Nat} {v dv tv:Value} {cs:List Value} {st:Option M.Gs} {a b c m x y r:Int} {ds:List M.Dcl} {t:M.Tm}
theorem spec_one {x:Int} (f:∀w' r,Ext w w'->OwnI ze w' r [x]->(∀b,r.ownBlock=some b->w.heap.size<=b)->K r w'):vbuildS ze 1 [(0,nI x)] w K:=by
 refine zC x8 yG xp rfl rfl λd j h c i a=>?_;exact f j _ c (Blk.own1 (t:=ze) (cs:=[nI x]) (by rw[qD];exact a) (gW _) rfl rfl oM) λb g=>by have e:d=b:=gg g;omega
theorem sbits8_spec {k:Nat} (d:M.declOk ds=true) (o:k<=ds.length) (j:DclsR F w v (ds.take k)) (h:∀w',Ext w w'->K (nI (M.bitT ds k)) w'):vcall U0 #[v] w K:=by
 refine zf {loops:=[(3,[3,4])]} Tryz.func75 ?_;have hlen:(ds.take k).length=k:=by rw[gi];omega
 have n:=(M.decl_iff.1 d).1;refine vloop_up k (λi u w'=>u=[nI (M.bitT ds i),nI i]/\Ext w w') ⟨rfl,Same.refl _ _⟩ ?_;rintro i _ _ w2 C hi ⟨rfl,c⟩ g;have b:=j.ext c;simp(disch:=exact oS) only[push_cast,b.len];refine zb (λa=>?_) (λa=>?_)
 .have e:i<k:=oM;have m:=dcl_small d (i:=i) oM;have f:=dcl_small d (i:=i+1) oM;rw[M.bitT_succ oM] at f;have l:(ds.take k).getD i (M.nada,0)=ds.getD i (M.nada,0):=M.take_getD e;simp(disch:=exact oS) only[push_cast,b.iaddr,b.load1,l,zi];refine g e _ _ ⟨?_,c⟩;rw[M.bitT_succ oM];simp
 .have:i=k:=oM;subst this;exact h w2 c
theorem fix_val {nn:Int} {j:Nat}:2*((nn.toNat/2^j%2:Nat):Int)-1=if nn.toNat/2^j%2=1 then 1 else-1:=by
 have h:nn.toNat/2^j%2=0\/nn.toNat/2^j%2=1:=oM
 rcases h with h|h<;>rw[h]<;>rfl
theorem sfix8_spec {wd nn:Int} (x:M.vok wd nn=true) (t:∀w' r,Ext w w'->OwnI ze w' r (M.fixB wd nn)->(∀b,r.ownBlock=some b->w.heap.size<=b)->K r w'):vcall zQ0 #[nI wd,nI nn] w K:=by
 refine zf {loops:=[(3,[5,6])]} Tryz.func154 ?_;obtain⟨v1,v2,v3,v4⟩:=M.vok_lt x;refine spec_nil λy w1 m p k=>?_;refine vloop_up wd.toNat (λi u w'=> ∃r,u=[r,nI i]/\Ext w w'/\OwnI ze w' r ((M.fixB wd nn).take i)/\∀b,r.ownBlock=some b->w.heap.size<=b) ⟨_,rfl,p,m,k⟩ ?_;rintro i _ g w2 C hi ⟨r,rfl,o,d,f⟩ s;refine oZ ?_;refine zb (λa=>?_) (λa=>?_)
 .have e:i<wd.toNat:=oM;rw[show nn=((nn.toNat:Nat):Int) by omega];refine l1Bit_spec oM oM ?_;have v:nn.toNat/2^i%2<2:=pE _ dC;have c:=fix_val (nn:=nn) (j:=i);generalize h:nn.toNat/2^i%2=bt at c v;simp(disch:=omega) only[push_cast,zi];rw[c];refine spec_app o d f (by rw[gi,M.fixB_len];omega) λv3 z n q l=>?_
  try simp(disch:=omega) only[push_cast,zi]
  refine s e _ _ ⟨v3,by simp,q,?_,l⟩;rw[M.take_add (by rw[M.fixB_len];omega) 0,fixB_at oM,h];exact n
 .have e:i=wd.toNat:=oM;rw[gI (by rw[M.fixB_len];omega)] at d;exact t w2 r o d f
theorem sname8_spec {k:Nat} (e:M.declOk ds=true) (l:k<ds.length) (p:DclsR F w v ds) (D:∀w' r,Ext w w'->OwnI ze w' r (M.nameB ds k)->(∀b,r.ownBlock=some b->w.heap.size<=b)->K r w'):vcall WY #[v,nI k] w K:=by
 refine zf {loops:=[(4,[6,7])]} Tryz.func155 ?_;have J:=(M.decl_iff.1 e).1;rw[p.cut (by intro h;rw[h] at l;simp at l) Ys oM];refine sbits8_spec e oM (p.taken oM) λw1 y=>?_;have G:=dcl_small e (i:=k) oM;have H:=M.dcl_wide e l;simp(disch:=omega) only[push_cast,zi];refine spec_nil λv2 w2 t z q=>?_;have N:=y.size;refine vloop_up (ds.getD k (M.nada,0)).2.toNat (λi u w'=> ∃r,u=[r,nI i]/\Ext w w'/\OwnI ze w' r ((M.nameB ds k).take i)/\∀b,r.ownBlock=some b->w.heap.size<=b) ⟨_,rfl,y.trans z,t,λb E=>by have:=q b E;omega⟩ ?_;rintro i _ g I C hi ⟨r,rfl,n,f,m⟩ B;have d:=p.ext n;have j:∀c:i<(ds.getD k (M.nada,0)).2.toNat,(M.nameB ds k).getD i 0=2+M.bitT ds k+(ds.getD k (M.nada,0)).2-1-(i:Int):=λc=>by unfold M.nameB;rw[Ko c];rfl
 rw[d.iaddr Ys oM oM,gu];refine oZ ?_;rw[d.load1 Jz l];generalize o:(ds.getD k (M.nada,0)).2=wd at*;refine oZ ?_;refine zb (λa=>?_) (λa=>?_)
 .have c:i<wd.toNat:=oM;rw[d.iaddr Ys oM oM,gu];refine oZ ?_;rw[d.load1 Jz l,o];simp(disch:=omega) only[push_cast,zi];refine spec_app n f m (by rw[gi,M.nameB_len];omega) λv5 L x A s=>?_
  try simp(disch:=omega) only[push_cast,zi]
  refine B c _ _ ⟨v5,by simp,A,?_,s⟩;rw[M.take_add (by rw[M.nameB_len,o];omega) 0,j c];exact x
 .rw[gI (by rw[M.nameB_len,o];omega)] at f;exact D I r n f m
theorem sleaf8_spec (l:M.declOk ds=true) (hs:M.sortM ds t≠ -1) (G:t.ks.length=0) (q:DclsR F w dv ds) (C:TermR Fx w tv t)
  (i:∀w' r zs,Ext w w'->OwnI ze w' r zs->(∀b,r.ownBlock=some b->w.heap.size<=b)->SnL st zs->M.Bd.Out n (M.nodeB ds t []) st st zs->K r w'):vcall WZ #[dv,tv] w K:=by
 refine zf {} Tryz.func110 ?_;obtain⟨kv,rfl,y⟩:=C;obtain⟨u,I,A⟩:=M.right_op hs;have B:t.op=20\/t.op=21\/t.op=24:=Gw λh=>by have:=M.node_arity A h;omega
 refine zk λb1 w1 v a E g=>?_;simp(disch:=exact oS) only[push_cast,g.ld0];unfold M.nodeB at i;refine zb (λc=>?_) (λc=>?_)
 .rw[V0 c] at i;have D:=M.vec_ok hs c;simp(disch:=exact oS) only[push_cast,g.ld1,g.ld2];refine sfix8_spec D λw2 r d f e=>?_;exact i w2 r _ (a.trans d) f (λb o=>by have:=e b o;omega) (λx p=>by
   unfold M.fixB at p;obtain⟨j,_,rfl⟩:=gB.1 p;split<;>exact Sn.of dC dC) (M.Bd.Out.ret _ _)
 rw[Q1 c] at i
 try simp only[push_cast]
 refine zb (λc2=>?_) (λc2=>?_)
 .rw[V0 c2] at i;have H:=M.name_found hs c2;have z:=M.findD_lt ds t.s;simp(disch:=exact oS) only[push_cast,g.ld3];refine l2Find_spec (q.ext a) ?_;rw[show M.findD ds t.s=(((M.findD ds t.s).toNat:Nat):Int) by omega];refine sname8_spec l oM (q.ext a) λw2 r d f e=>?_;refine i w2 r _ (a.trans d) f (λb o=>by have:=e b o;omega) (λx p=>?_) (M.Bd.Out.ret _ _);obtain⟨p1,p2,J⟩:=M.name_has (m:=9) l (k:=(M.findD ds t.s).toNat) oM (by have:=(M.decl_iff.1 l).2.2;omega) x p;exact Sn.of (by unfold Sm;omega) p1
 .rw[Q1 c2,V0 oM] at i;refine spec_one λw2 r d f e=>?_;exact i w2 r _ (a.trans d) f (λb o=>by have:=e b o;omega) (SnL.one (Sn.of dC dC)) (M.Bd.Out.ret _ _)
end
end Go.Proofs.YtfnpmncplaibiaaGreatDoor
end
