import Derived.Test.YtfnpmncplaibiaaGreatDoorWqcP12
/- A part of the proof. -/
set_option linter.all false
set_option maxRecDepth 9999
set_option maxHeartbeats 2000000
noncomputable section
namespace Go.Proofs.YtfnpmncplaibiaaGreatDoor
open Go Go.Vc Go.Proofs
section
variable {w:World} {K:oK}
theorem unit_mem {put cl:oI} {x:Int} (h:M.unitC put cl x):x∈cl/\M.placeOf put x.natAbs=0:=by
 have:x∈cl.filter λl=>decide (M.placeOf put l.natAbs=0):=by rw[h.2];grind
 grind
theorem cnf_new {N:Nat} {lv:Value} {ls:List Value} {c:M.Cnf} {K:oK} (h:CnfO N w lv ls c) (g:∀w' b,w.heap.size<=b->Ext w w'->Blk w' b [nI c.many,lv] zq->CnfO N w' lv ls c->K (oP b 0) w'):
  qp zq w λt4 w1=>zP zq t4 (.agg ⟨[nI c.many,lv]⟩) w1 λ_ w2=>K t4 w2:=by
 obtain⟨o,cc,d,_⟩:=h.lst.vals.shape;generalize (ls.map λx=>[x]).length=l at d;subst d;refine zh xx λb w1 i j k e=>?_;refine e.stAgg (cs':=[nI c.many,.slice o l cc]) rfl zD net_one λw2 m n f=>?_;have a:Ext w w2:=by grind [Ext.then]
 exact g w2 b oM a f (h.ext a)
theorem push_int {pv:Value} {xs:oI} {x:Int} (h:OwnI zi w pv xs) (n:xs.length<=100000) (g:∀w' a,Same (λb=>pv.ownBlock=some b) w w'->OwnI zi w' a (xs++[x])->(∀b,a.ownBlock=some b->pv.ownBlock=some b\/w.heap.size<=b)->K a w'):
  vbuildS zi 1 [(0,nI x)] w λs w1=>vbi .append [zi,zi] zi [pv,s] w1 K:=by
 refine yL xz xy xM rfl rfl dC λb3 o i c k d=>?_;refine OwnI.app1 (h.ext c) xK d oM oM λv4 l e f j=>?_;refine g l v4 ((Same.of_ext c).trans f) e λb m=>?_
 grind
end
end Go.Proofs.YtfnpmncplaibiaaGreatDoor
namespace Go.Vc
open Go
section
variable {t:TypeId} {w:World} {v:Value} {vs:List Value} {F:oA}
theorem Vals.part (h:Vals F w v vs) (j:vs≠[]) (m:elB t 1=true) {n:Nat} (q:n<=vs.length):∃v1,(∀(kd:IntKind) (w':World) (K:oK),xd t v none (some (.int kd n)) none w' K=K v1 w')/\Vals F w v1 (vs.take n):=by
 obtain⟨hu,hs⟩:=X5 m;obtain⟨a,c,rfl,l,g,d⟩:=h.shape;obtain⟨b,o,rfl,hF,k,f⟩:=d (by simpa using j);rw[K3] at l f;refine⟨.slice (some ⟨b,o,none⟩) n c,λkd w' K=>yb ?_,⟨some ⟨b,o,none⟩,c,?_,?_,g,λ_=>⟨b,o,rfl,hF,k,λi hi=>?_⟩⟩,λx p=>by obtain⟨u,_,rfl⟩:=gu.1 p;rfl⟩
 .rw[run_sliceAt_slice w' t _ _ _ _ hu,run_slice_h w' t _ _ _ hu kd n oM oM,run_sizeOf hs];simp[Result.andThen,sliced];exact λ_=>rfl
 .simp;omega
 .simp;omega
 .simp only[K3,gg] at hi;have:=f i oM;have e:(List.map (λx=>[x]) (vs.take n)).getD i []=(List.map (λx=>[x]) vs).getD i []:=by
   simp[X0,PJ,show i<n by omega]
  rw[e];exact this
theorem Vals.rest (h:Vals F w v vs) (j:vs≠[]) (r:elB t 1=true) {n:Nat} (y:n<=vs.length):∃v1,(∀(kd:IntKind) (w':World) (K:oK),xd t v (some (.int kd n)) none none w' K=K v1 w')/\Vals F w v1 (vs.drop n):=by
 obtain⟨hu,hs⟩:=X5 r;obtain⟨a,c,rfl,m,p,d⟩:=h.shape;obtain⟨b,o,rfl,hF,l,f⟩:=d (by simpa using j);rw[K3] at m f;refine⟨sliced (some ⟨b,o,none⟩) n vs.length c 1,λkd w' K=>yb ?_,?_⟩
 .rw[run_sliceAt_slice w' t _ _ _ _ hu,run_slice_l w' t _ _ _ hu kd n oM (by simp;omega),run_sizeOf hs];simp[Result.andThen]
 .refine⟨⟨_,c-n,rfl|>λ(_:True=True)=>by simp[sliced];rfl,by simp;omega,oM,λg=>?_⟩,λx s=>by obtain⟨u,_,rfl⟩:=gu.1 s;rfl⟩;have q:n<vs.length:=by
   refine Nat.lt_of_not_le λk=>g ?_;rw[Pf k];rfl
  rw[q0 oM];refine⟨b,o+n,by simp[yq],hF,l,λi hi=>?_⟩;simp only[K3,G7] at hi;have:=f (n+i) oM;have e:(List.map (λx=>[x]) (vs.drop n)).getD i []=(List.map (λx=>[x]) vs).getD (n+i) []:=by
   simp[X0,pw]
  rw[e,show o+n+i*1=o+(n+i)*1 by omega];exact this
end
end Go.Vc
namespace Go.Proofs.YtfnpmncplaibiaaGreatDoor
open Go Go.Vc Go.Proofs
section
variable {w:World} {K:oK} {D F F' G:oA} {dv iv:Value} {ds:List M.Dcl} {ins:List Bool}
def Jl (ds:List M.Dcl) (i:Nat):Nat:=M.nIn (ds.take i)
theorem off_succ (a:M.declOk ds=true) {i:Nat} (hi:i<ds.length):Jl ds (i+1)=Jl ds i+(ds.getD i (M.nada,0)).2.toNat:=by
 have f:=M.bits_le a hi;have hw:=M.dcl_wide a hi;unfold Jl M.nIn;have e:M.bits (ds.take (i+1))=M.bits (ds.take i)+(ds.getD i (M.nada,0)).2:=by
  rw[M.take_add hi (M.nada,0)];unfold M.bits;rw[gD,List.sum_append];simp
 have c:0<=M.bits (ds.take i):=M.bits_pos' λd b=>M.dpos a d (gO b);rw[e];omega
theorem Yu0:Jl ds ds.length=M.nIn ds:=by unfold Jl;rw[gB]
theorem off_le (hd : M.declOk ds = true) {i : Nat} (hi : i <= ds.length) : Jl ds i <= M.nIn ds := by
  induction h : ds.length - i generalizing i with
  | zero => have : i = ds.length := by omega
            subst this; exact Nat.le_of_eq Yu0
  | succ n ih =>
    have h2 := off_succ hd (show i < ds.length by omega)
    have := ih (i := i + 1) (by omega) (by omega)
    omega
theorem envB_take:∀{ds:List M.Dcl} {ins:List Bool} {i:Nat},(∀d,d∈ds->0<=d.2)->i<ds.length->(M.envB ds ins).getD i 0=(M.msbN ((ins.drop (Jl ds i)).take (ds.getD i (M.nada,0)).2.toNat):Int)
 |[],_,_,_,h=>by simp at h
 |d::ds,ins,0,_,_=>by
  have:Jl (d::ds) 0=0:=rfl;rw[this];simp[M.envB]
 |d::ds,ins,i+1,c,h=>by
  have f:=c d gl;have a:∀x,x∈ds->0<=x.2:=λx b=>c x (gq _ b);have g:0<=M.bits (ds.take i):=M.bits_pos' λx b=>a x (gO b);have e:Jl (d::ds) (i+1)=d.2.toNat+Jl ds i:=by
   unfold Jl M.nIn;rw[List.take_succ_cons,M.bits_cons'];omega
  unfold M.envB;rw[pj,envB_take a (by simpa using h),e,pj,<-z0b]
theorem msb_snoc (bs:List Bool) (b:Bool):(M.msbN (bs++[b]):Int)=2*M.msbN bs+M.b2i b:=by
 rw[M.msb_app];cases b<;>simp[M.msbN,M.b2i]<;>omega
theorem BlastEnv_spec (Q:DclsR F w dv ds) (hi:Bools F' w iv ins) (d:M.declOk ds=true) (hl:ins.length=M.nIn ds)
  (hK:∀w' r,Ext w w'->OwnI zi w' r (M.envB ds ins)->(∀b,r.ownBlock=some b->w.heap.size<=b)->K r w'):vcall KA #[dv,iv] w K:=by
 refine ze {loops:=[(5,[1,5,23]),(9,[8,32])],cuts:=[(8195,[])]} Tryz.func216 ?_;obtain⟨ag,ah⟩:=M.nIn_eq d;have Z:Bools (λx=>x<w.heap.size) w iv ins:=Sl.weaken hi λx _ h=>h;refine zp (λu w'=>u=[]/\Ext w w') (λC S=>?_) ?_
 .refine DeclOk_spec Q λw1 f=>?_;rw[d];simp only[push_cast,GP,(hi.ext f).len];refine bitsOf_spec (Q.ext f) d λw2 W=>?_;refine oZ ?_;refine zb (λh=>absurd oM h) (λ_=>S _ _ ⟨rfl,f.trans W⟩)
 rintro _ _ w1 ⟨rfl,f⟩;simp only[push_cast,(Q.ext f).len];have h4:=(M.decl_iff.1 d).1;have V:=M.dpos d;have Y:=M.envB_len ds ins;refine vloop_up ds.length (λi u w'=> ∃v r,u=[v,r,nI i]/\Ext w w'/\Bools (λx=>x<w.heap.size) w' v (ins.drop (Jl ds i))/\OwnI zi w' r ((M.envB ds ins).take i)/\∀b,r.ownBlock=some b->w.heap.size<=b) ⟨iv,_,rfl,f,by simpa[Jl,M.nIn,M.bits] using Z.ext f,OwnI.nil,λb hb=>by cases hb⟩ ?_;rintro i _ _ w2 C ae ⟨v,r,rfl,E,a6,t,s⟩ S;refine oZ ?_;refine zb (λa=>?_) (λa=>?_)
 .have p:i<ds.length:=oM;have I:=Q.ext E;have aa:=M.dcl_wide d p;have z:=off_succ d p;have ab:=off_le d (i:=i+1) oM;have o:(ins.drop (Jl ds i)).length=M.nIn ds-Jl ds i:=(by rw[G7,hl]);simp(disch:=exact oS) only[push_cast,I.iaddr,I.load];refine zh qz λb3 w3 ad X aj R=>?_;refine stDecl R λw4 a5 ak G=>?_;have k:Ext w2 w4:=Ext.then X a5 λy hy=>by subst hy;omega
  have e4:=E.trans k;have O:=a6.ext k;have het:=envB_take (ins:=ins) V p;obtain⟨wd,l⟩:∃wd:Nat,(ds.getD i (M.nada,0)).2=wd:=⟨_,(Px oM).symm⟩;rw[l] at aa z het;rw[gn] at z het;simp(disch:=exact oS) only[push_cast,G.ld1,l];have J:(ins.drop (Jl ds i)).map (λx=>Value.bool x)≠[]:=λh=>by
   have:=congrArg List.length h;rw[K3,o] at this;simp at this;omega
  obtain⟨v5,H,a7⟩:=Vals.part O J xg0 (n:=wd) (by rw[K3,o];omega);rw[H];have g:Bools (λx=>x<w.heap.size) w4 v5 ((ins.drop (Jl ds i)).take wd):=by unfold Bools;rw[Gy];exact a7
  generalize U:(ins.drop (Jl ds i)).take wd=bs at g het;have m:bs.length=wd:=by rw[<-U,gg,o];omega
  simp only[push_cast,g.len,m];refine vloop_up wd (λj u w'=>u=[nI (M.msbN (bs.take j)),nI j]/\w'=w4) ⟨rfl,rfl⟩ ?_;rintro j _ _ _ C1 hj ⟨rfl,rfl⟩ T;refine oZ ?_;have af:=M.msb_lt (bs.take j);have ai:2^(bs.take j).length<=2^4:=gN oM (by rw[gg];omega);refine zb (λc=>?_) (λc=>?_)
  .have a1:j<wd:=oM;simp(disch:=exact oS) only[push_cast,g.iaddr,gn,g.load,zj];refine Xc ?_;have ac:0<=M.b2i (bs.getD j false)/\M.b2i (bs.getD j false)<=1:=by unfold M.b2i;split<;>omega
   have N:=msb_snoc (bs.take j) (bs.getD j false);rw[<-M.take_add (by omega:j<bs.length) false] at N;refine oZ ?_;rw[<-N,zj oM oM];exact T a1 _ _ ⟨rfl,rfl⟩
  .have a2:j=wd:=oM;subst a2;rw[<-m,gB];have a4:=t.ext k;refine push_int a4 (by rw[gg];omega) λw6 r6 B L a3=>?_;have lr:∀x,r.ownBlock=some x->x<w2.heap.size:=λx D=>(t.lt D);have q6:=G.same B λe=>by have:=lr _ e;omega
   have a8:=O.same B λx D _ e=>by have:=s x e;omega
   have z24:=k.size;have z2:=E.size;rw[<-het,<-M.take_add oM 0] at L;obtain⟨v7,A,a9⟩:=Vals.rest a8 J xg0 (n:=bs.length) (by rw[K3,o];omega);simp(disch:=exact oS) only[push_cast,q6.ld1,l,m.symm,A];rw[inc64' oM];refine S p _ _ ⟨v7,r6,rfl,Ext.then (E.trans k) B λx D=>s x D,?_,?_,λx D=>?_⟩
   .rw[z,<-m];have q:=a9;rw[<-pY,z0b] at q;exact q
   .exact L
   .rcases a3 x D with e|e
    .exact s x e
    .omega
 .have a0:i=ds.length:=oM;subst a0;rw[<-Y,gB] at t;exact hK w2 r E t s
end
end Go.Proofs.YtfnpmncplaibiaaGreatDoor
section
namespace Go.Proofs.YtfnpmncplaibiaaGreatDoor
open Go Go.Vc Go.Proofs
section
open Go.RowKit Go.Extern.Stop Go.Stop Go.Extern
theorem Yz0 (a b : Addr) (w : World) (hne : a ≠ b) {ca cb : Array Value} {ta tb : TypeId} (ha : w.heap[a.block]? = some (.cells ca ta (0, 0))) (hb : w.heap[b.block]? = some (.cells cb tb (0, 0))) :
    Calls Tryz.prog 49 #[.iface 443 (.pointer (some a)), .iface 443 (.pointer (some b))] w λe w' => e = .returned (.bool false) /\ w' = w := by
  obtain ⟨i, hi, hcmp⟩ := pL.1 jO0
  obtain ⟨j, hj, hjs⟩ := pL.1 jM0
  have h8 := @run_callFunc_extern Tryz.prog 91 _ Extern.ReflectliteType.typeOf Tryz.func91 (by kernel_rfl) (by kernel_rfl) (by kernel_rfl) (by kernel_rfl)
  have h32 : ∀ w : World, (callFunc 402 #[.agg #[.pointer (some ⟨11, 443, none⟩)]]).run Tryz.prog w = .ok (Next.value (.bool true)) w := Q6
  have tT := yt0
  have mR := yu0
  have heq := run_eql_iface_ptr_other (P := Tryz.prog) w Tryz.underlying86 Tryz.underlying443 hi hcmp hj (by rw [hjs]; decide) hne ha hb
  have n1 := noIsE
  have n2 := jp0
  have n3 := qh0
  go_enter Tryz.func49, Tryz.ntmps49
  go_wp2
  refine wp_loop_rounds 1 ?_
  rw [rounds_succ]
  go_wp2
  go_ret
  exact ⟨rfl, rfl⟩
end
variable {w:World} {K:oK}
theorem Zm0 {a b:Addr} (c:a≠b) {ca cb:Array Value} {ta tb:TypeId} (f:w.heap[a.block]?=some (.cells ca ta (0,0))) (g:w.heap[b.block]?=some (.cells cb tb (0,0))) (d:K (.bool false) w):vcall qi #[erv a,erv b] w K:=
 ⟨rK,(Yz0 a b w c f g).mono λe w' h=>by obtain⟨rfl,rfl⟩:=h;exact d⟩
end Go.Proofs.YtfnpmncplaibiaaGreatDoor
end
namespace Go.Proofs.YtfnpmncplaibiaaGreatDoor
open Go Go.Vc Go.Proofs Go.M
section
variable {w:World} {K:oK} {F Fr:oA} {many bs:Nat} {c:Cnf} {s:Sat} {N:Nat}
structure SV where
 (vc:Value) (bt:Nat) (vp vpl vl vw vr:Value) (ls:List Value)
def SV.tf (σ:SV):oA:=Z0 σ.bt σ.vp σ.vpl σ.vl
def SV.f3 (σ:SV) (bs b:Nat):Prop:=b=bs\/σ.vw.ownBlock=some b\/σ.vr.ownBlock=some b
def SV.foot (σ:SV) (bs b:Nat):Prop:=σ.tf b\/σ.f3 bs b
structure SR (N:Nat) (Fr:oA) (w:World) (bs many:Nat) (c:Cnf) (s:Sat) (σ:SV):Prop where
 blk:Blk w bs [nI many,σ.vc,oP σ.bt 0,σ.vw,σ.vr,nI s.code] yz
 cm:c.many=many
 cl:Lists Fr w σ.vc c.list
 tr:TrailR Fr w σ.bt many s.put (yu s.why) σ.vp σ.vpl σ.vl
 rw:OwnI zi w σ.vw s.why
 rl:OwnV zJ w σ.vr σ.ls
 lsl:σ.ls.length=s.learned.length
 ll:RowsR N Fr w σ.ls s.learned
 s1:∀x,σ.vw.ownBlock=some x->x≠bs
 s2:∀x,σ.vr.ownBlock=some x->x≠bs
 s3:∀x,σ.vw.ownBlock=some x->σ.vr.ownBlock≠some x
 st:∀x,σ.f3 bs x->¬σ.tf x
 sf:∀x,σ.f3 bs x->¬Fr x
section
variable {σ:SV} {w':World} {S:oA}
theorem SR.notF (h:SR N Fr w bs many c s σ) {x:Nat} (a:σ.foot bs x): ¬Fr x:=by
 obtain⟨_,f1,f2,f3,f4⟩:=sep4.1 h.tr.sep;rcases a with(rfl|e|e|e)|e
 .exact f1 _ rfl
 .exact f2 _ e
 .exact f3 _ e
 .exact f4 _ e
 .exact h.sf _ e
theorem SR.lt (h:SR N Fr w bs many c s σ) {x:Nat} (a:σ.foot bs x):x<w.heap.size:=by
 rcases a with(rfl|e|e|e)|rfl|e|e
 .exact h.tr.blk.lt
 .exact h.tr.rp.lt e
 .exact h.tr.rpl.lt e
 .exact h.tr.rl.lt e
 .exact h.blk.lt
 .exact h.rw.lt e
 .exact h.rl.lt e
theorem SR.same (h:SR N Fr w bs many c s σ) (hw:Same S w w') (hs:∀x,σ.foot bs x->¬S x) (hF:∀x,Fr x->x<w.heap.size->¬S x):SR N Fr w' bs many c s σ:=
 ⟨h.blk.same hw (hs _ (.inr (.inl rfl))),h.cm,h.cl.same hw hF,h.tr.same hw λb a=>hs _ (.inl a),h.rw.same hw λb a=>hs _ (.inr (.inr (.inl a))),h.rl.same hw λb a=>hs _ (.inr (.inr (.inr a))),h.lsl,h.ll.same hw hF,h.s1,h.s2,h.s3,h.st,h.sf⟩
theorem SR.ext (h:SR N Fr w bs many c s σ) (hw:Ext w w'):SR N Fr w' bs many c s σ:=h.same hw (λ_ _ h=>h) λ_ _ _ h=>h
theorem SR.lists (h:SR N Fr w bs many c s σ):Vals (λb=>σ.vr.ownBlock=some b) w σ.vr σ.ls:=h.rl.vals
theorem clause_spec {k:Nat} (h:SR N Fr w bs many c s σ) (q:k<c.list.length+s.learned.length) (p:c.list.length+s.learned.length<=1000000)
  (n:∀v w',Ext w w'->Ints Fr w' v (atM c s k)->K v w'):vcall YA #[oP bs 0,nI k] w K:=by
 refine ze {} Tryz.func295 ?_;obtain⟨cs,m,b,l⟩:=h.cl;simp(disch:=exact oS) only[push_cast,h.blk.ld1,b.len];refine zb (λa=>?_) (λa=>zd λw1 d _=>?_)
 .simp(disch:=exact oS) only[push_cast,h.blk.ld1,b.iaddr,b.load];refine n _ w (Same.refl _ _) ?_;have:=l k oM;rwa[atM,getD_app_l oM]
 .have g:=h.ext d;have e:=b.ext d;obtain⟨j,rfl⟩:∃j,k=cs.length+j:=⟨k-cs.length,oM⟩;have f:=g.lists;have o:=h.lsl;simp(disch:=exact oS) only[push_cast,g.blk.ld1,g.blk.ld4,e.len,k6];rw[show(cs.length:Int)+j-cs.length=(j:Int) from by omega];simp(disch:=exact oS) only[push_cast,zj,f.iaddr,f.load,k6];refine n _ w1 d ?_;have:=g.ll.int (i:=j) oM;rwa[atM,m,getD_app_r]
theorem assign_spec {l y:Int} (h:SR N Fr w bs many c s σ) (J:l≠0) (hl:l.natAbs<=many) (r:placeOf s.put l.natAbs=0) (C:∀b,Fr b->b<w.heap.size)
  (X:∀W w',SR N Fr w' bs many c {s with put:=s.put++[l],why:=s.why++[y]} W->Same (σ.foot bs) w w'->(∀b,W.foot bs b->σ.foot bs b\/w.heap.size<=b)->K (.tuple #[]) w'):
  vcall YB #[oP bs 0,nI l,nI y] w K:=by
 refine ze {} Tryz.func296 ?_;simp(disch:=exact oS) only[push_cast,h.blk.ld2];refine push_spec (d:=decide (y= -1)) h.tr J hl r C λn m w1 j f D=>?_;have S:=f.size;have t:∀x,σ.f3 bs x->¬Z0 σ.bt σ.vp σ.vpl σ.vl x:=λx a=>h.st x a;have B:=h.blk.same f (t bs (.inl rfl));have Q:=h.rw.same f λx a=>t x (.inr (.inl a));have M:=h.rl.same f λx a=>t x (.inr (.inr a));have R:=h.tr.few';have a0:=h.tr.few;have hlen:=h.tr.len;rw[jN] at hlen;simp(disch:=exact oS) only[push_cast,B.ld3];refine zC xz xy xM rfl rfl λb1 w2 Y i a1 I=>?_;have T:=i.size;refine(Q.ext i).app1 xK I oM oM λo w3 z k L=>?_;have U:=k.size;have G:=(B.ext i).same k λe=>h.s1 _ e rfl;have u:∀x,o.ownBlock=some x->σ.vw.ownBlock=some x\/w1.heap.size<=x:=λx a=>(L x a).imp id λh=>oM
 have Z:=h.lt (.inr (.inl rfl));have p:∀x,o.ownBlock=some x->x≠bs:=λx a e=>by
  rcases u x a with A|A
  .exact h.s1 x A e
  .omega
 refine G.st z.ints.cells1 z.ints.one jg rfl λV v a2 H=>?_;have O:∀x,Z0 σ.bt n σ.vpl m x->x<w1.heap.size:=by
  rintro x (rfl|e|e|e)
  .exact j.blk.lt
  .exact j.rp.lt e
  .exact j.rpl.lt e
  .exact j.rl.lt e
 have E:∀x,σ.f3 bs x->¬Z0 σ.bt n σ.vpl m x:=λx a g=>by
  rcases D x g with e|e
  .exact h.st x a e
  .have:=h.lt (.inr a);omega
 have F:Same (σ.f3 bs) w1 V:=(Same.of_ext i).trans ((k.mono λx _ e=> .inr (.inl e)).trans (v.mono λx _ e=> .inl e));have q:∀x,(SV.mk σ.vc σ.bt n σ.vpl m o σ.vr σ.ls).f3 bs x->σ.f3 bs x\/w1.heap.size<=x:=by
  rintro x (e|e|e)
  .exact .inl (.inl e)
  .exact(u x e).imp (λe=> .inr (.inl e)) id
  .exact .inl (.inr (.inr e))
 refine X ⟨σ.vc,σ.bt,n,σ.vpl,m,o,σ.vr,σ.ls⟩ V ⟨H,h.cm,(h.cl.same f ?_).same F ?_,?_,z.same v p,?_,h.lsl,?_,p,h.s2,?_,?_,?_⟩ ?_ ?_
 .exact λx hF _ g=>h.notF (.inl g) hF
 .exact λx hF _ g=>h.notF (.inr g) hF
 .have:=j.same F λx a e=>E x e a;rwa[<-k70] at this
 .exact((M.ext i).same k λx a e=>h.s3 x e a).same v λx a e=>h.s2 x a e
 .exact(h.ll.same f λx hF _ g=>h.notF (.inl g) hF).same F λx hF _ g=>h.notF (.inr g) hF
 .intro x a e;rcases u x a with A|A
  .exact h.s3 x A e
  .have:=h.lt (.inr (.inr (.inr e)));omega
 .intro x a g;rcases q x a with e|e
  .exact E x e g
  .have:=O x g;omega
 .intro x a hF;rcases q x a with e|e
  .exact h.sf x e hF
  .have:=C x hF;omega
 .exact(f.mono λx _ e=> .inl e).trans (F.mono λx _ e=> .inr e)
 .rintro x (e|e)
  .exact(D x e).imp (λe=> .inl e) id
  .exact(q x e).imp (λe=> .inr e) λh=>oM
theorem pop_take {α:Type} {d:α} {xs:List α} {n:Nat} (h:xs.length=n+1):xs=xs.take n++[xs.getD n d]:=by
 have:=GN n xs;rw[Z8 (d:=d) (show n<xs.length by omega),Gf (show xs.length<=n+1 by omega)] at this;exact this.symm
theorem goBack_spec {L:Int} (h:SR N Fr w bs many c s σ)
  (hK:∀f w' n,n=backN (yu s.why) L s.put.length->SR N Fr w' bs many c {s with put:=s.put.take n,why:=s.why.take n} f->Same (σ.foot bs) w w'->(∀b,f.foot bs b->σ.foot bs b)->K (.tuple #[]) w'):
  vcall Yz #[oP bs 0,nI L] w K:=by
 refine ze {loops:=[(1,[])],cuts:=[(8194,[])]} Tryz.func323 ?_;simp(disch:=exact oS) only[push_cast,h.blk.ld2];have aq:=h.tr.few';have ai:=h.tr.few;have hlen:=h.tr.len;rw[jN] at hlen;refine vloop_up s.put.length (λi u w'=> ∃f,SR N Fr w' bs many c {s with put:=s.put.take (s.put.length-i),why:=s.why.take (s.put.length-i)} f/\f.bt=σ.bt/\Same (σ.foot bs) w w'/\(∀b,f.foot bs b->σ.foot bs b)/\backN (yu s.why) L (s.put.length-i)=backN (yu s.why) L s.put.length) ⟨σ,?_,rfl,Same.refl _ _,λ_ h=>h,by simp⟩ ?_
 .rw[Nat.sub_zero,gB,<-hlen,gB];exact h
 rintro i u g w1 C hi ⟨f,h1,a4,T,z,U⟩ hC;generalize hn:s.put.length-i=n at*;have W:(s.put.take n).length=n:=by simp;omega
 have ap:(s.why.take n).length=n:=by simp;omega
 have au:(yu (s.why.take n)).length=n:=by rw[jN];exact ap
 have ah:n=backN (yu s.why) L s.put.length->K (.tuple #[]) w1:=λe=>hK f w1 n e h1 T z;rw[<-a4];refine zp (λu w'=>Ext w1 w'/\∃m,n=m+1/\L<lvl (yu s.why) m) ?_ ?_
 .intro J hJ;refine zd λw2 t _=>?_;have G:=h1.ext t;have H:Ints _ w2 f.vp (s.put.take n):=G.tr.rp.ints;have a6:Ints _ w2 f.vl (levels (yu (s.why.take n))):=G.tr.rl.ints;have a7:=Ys (yu (s.why.take n));simp(disch:=exact oS) only[push_cast,G.tr.blk.ld0,H.len,k6];have r:n=backN (yu s.why) L s.put.length->K (.tuple #[]) w2:=λe=>hK f w2 n e G (T.trans (Same.of_ext t)) z;refine zb (λa=>?_) (λa=>?_)
  .obtain⟨m,rfl⟩:∃m,n=m+1:=⟨n-1,oM⟩;simp(disch:=exact oS) only[push_cast,G.tr.blk.ld0,G.tr.blk.ld2,H.len,k6];rw[W,show(((m+1:Nat):Int)-1)=(m:Int) from by omega];simp(disch:=exact oS) only[push_cast,zj,a6.iaddr,a6.load,k6];rw[QM oM,<-yA0,lvl_take oM];refine zb (λb=>hJ _ _ ⟨t,m,rfl,b⟩) (λb=>r ?_);rw[<-U,backN,q0 b]
  .refine r ?_;rw[<-U,show n=0 from by omega];rfl
 rintro _ g2 w2 ⟨t,m,rfl,hL⟩;have G:=h1.ext t;have H:OwnI zi w2 f.vp (s.put.take (m+1)):=G.tr.rp;have a8:=H.ints;simp(disch:=exact oS) only[push_cast,G.tr.blk.ld0,a8.len];rw[W,show(((m+1:Nat):Int)-1)=(m:Int) from by omega];simp(disch:=omega) only[push_cast,zj];refine zd λZ a5 _=>?_;have j:=G.ext a5;have a9:OwnI zi Z f.vp (s.put.take (m+1)):=j.tr.rp;have R:OwnI zi Z f.vpl (places many (s.put.take (m+1))):=j.tr.rpl;have aj:OwnI zi Z f.vl (levels (yu (s.why.take (m+1)))):=j.tr.rl;have an:OwnI zi Z f.vw (s.why.take (m+1)):=j.rw;have Q:=a9.ints;have X:=R.ints;have av:=Z5 many (s.put.take (m+1));have hm:(s.put.take (m+1)).getD m 0∈s.put.take (m+1):=getD_meS oM;have ar:=j.tr.bnd _ hm;simp(disch:=exact oS) only[push_cast,j.tr.blk.ld0,j.tr.blk.ld1,Q.iaddr,Q.load,k6];refine variable_spec oM oM ?_;simp(disch:=exact oS) only[push_cast,j.tr.blk.ld1,X.iaddr,k6,gi];refine R.st xy oM λw4 aa p aw=>?_;have l:=pop_take (d:=0) W;rw[pt,GC (by omega:m<=m+1)] at l;generalize hx:(s.put.take (m+1)).getD m 0=x at*;have Y:OwnI zi w4 f.vpl (places many (s.put.take m)):=by
  have hd:Distinct (s.put.take m++[x]):=by rw[<-l];exact j.tr.dis
  rw[<-places_unsnoc (many:=many) hd,<-l];simpa using aa
 obtain⟨⟨t1,t2,t3,t4,t5,t6⟩,f1,f2,f3,f4⟩:=sep4.1 j.tr.sep;have k1:∀y,f.f3 bs y->f.vpl.ownBlock≠some y:=λy k e=>j.st y k (.inr (.inr (.inl e)));have ad:Blk w4 f.bt [f.vp,f.vpl,f.vl] yC:=j.tr.blk.same p λe=>t2 _ rfl e;have a2:Blk w4 bs [nI many,f.vc,oP f.bt 0,f.vw,f.vr,nI s.code] yz:=j.blk.same p λe=>k1 _ (.inl rfl) e;have al:=a9.same p λy k e=>t4 y k e;have ak:=aj.same p λy k e=>t6 y e k;have ao:=an.same p λy k e=>k1 y (.inr (.inl k)) e;have am:=j.rl.same p λy k e=>k1 y (.inr (.inr k)) e;refine zd λw5 o _=>?_;have S:=ad.ext o;have M:=a2.ext o;have I:=al.ext o;have E:=ak.ext o;have A:=ao.ext o;have a7:=Ys (yu (s.why.take (m+1)));simp(disch:=exact oS) only[push_cast,S.ld0,S.ld2,M.ld3,I.cut,E.cut,A.cut,k6];refine S.st (I.taken (n:=m) oM).ints.cells1 (I.taken (n:=m) oM).ints.one jg rfl λw6 ab ax ae=>?_
 try simp(disch:=exact oS) only[push_cast,E.cut,A.cut,k6,gi]
 refine ae.st (E.taken (n:=m) oM).ints.cells1 (E.taken (n:=m) oM).ints.one jg rfl λw7 ac ay af=>?_
 try simp(disch:=exact oS) only[push_cast,A.cut,k6,gi]
 have V:bs≠f.bt:=λe=>j.st bs (.inl rfl) (.inl e);have a3:=(M.same ab V).same ac V;refine a3.st (A.taken (n:=m) oM).ints.cells1 (A.taken (n:=m) oM).ints.one jg rfl λw8 F az ag=>?_;have q:Same (· =f.bt) w5 w7:=ab.trans ac;have mv:∀{xs:oI} {v:Value},OwnI zi w5 v xs->(∀y,v.ownBlock=some y->y≠f.bt/\y≠bs)->OwnI zi w8 v xs:=λhv k=>(hv.same q λy e=>(k y e).1).same F λy e=>(k y e).2;have nbt:∀y,f.tf y->y≠bs:=λy k e=>j.st bs (.inl rfl) (e▸k);have hP:=I.taken (n:=m) oM;have a0:=E.taken (n:=m) (by rw[a7];omega);have hW:=A.taken (n:=m) oM;rw[pt,GC (by omega:m<=m+1)] at hP hW;rw[levels_take,yA0,pt,GC (by omega:m<=m+1)] at a0;have a1:Same (σ.foot bs) Z w8:=(p.mono λy _ e=>z _ (.inl (.inr (.inr (.inl e))))).trans ((Same.of_ext o).trans ((q.mono λy _ e=>z _ (.inl (.inl e))).trans (F.mono λy _ e=>z _ (.inr (.inl e)))));have D:Same (f.foot bs) Z w8:=(p.mono λy _ e=>(.inl (.inr (.inr (.inl e))))).trans ((Same.of_ext o).trans ((q.mono λy _ e=>(.inl (.inl e))).trans (F.mono λy _ e=>(.inr (.inl e)))));have O:s.put.length-(i+1)=m:=oM
 refine hC oM _ _ ⟨⟨f.vc,f.bt,cutV f.vp m,f.vpl,cutV f.vl m,cutV f.vw m,f.vr,f.ls⟩,?_,a4,?_,?_,?_⟩
 .rw[O];refine⟨ag,j.cm,j.cl.same D λy k _ ht=>j.notF ht k,?_,?_,?_,j.lsl,j.ll.same D λy k _ ht=>j.notF ht k,?_,j.s2,?_,?_,?_⟩
  .refine⟨(show Blk w7 f.bt [cutV f.vp m,f.vpl,cutV f.vl m] yC from af).same F λe=>V e.symm,mv hP λy e=>?_,mv (Y.ext o) λy e=>?_,mv a0 λy e=>?_,?_,?_,?_,?_,ai⟩
   .rw[xQ] at e;exact⟨λB=>t1 _ rfl (B▸e),nbt y (.inr (.inl e))⟩
   .exact⟨λB=>t2 _ rfl (B▸e),nbt y (.inr (.inr (.inl e)))⟩
   .rw[xQ] at e;exact⟨λB=>t3 _ rfl (B▸e),nbt y (.inr (.inr (.inr e)))⟩
   .rw[xQ,xQ];exact j.tr.sep
   .show(yu (s.why.take m)).length=(s.put.take m).length;rw[jN,gg,gg];omega
   .have:=distinct_take j.tr.dis m;rwa[pt,GC (by omega:m<=m+1)] at this
   .intro y k;refine j.tr.bnd y ?_;show y∈s.put.take (m+1);rw[l];exact gQ _ k
  .refine mv hW λy e=>?_;rw[xQ] at e;exact⟨λB=>j.st y (.inr (.inl e)) (.inl B),j.s1 y e⟩
  .exact((am.ext o).same q λy e B=>j.st y (.inr (.inr e)) (.inl B)).same F λy e B=>j.s2 y e B
  .intro y e;rw[xQ] at e;exact j.s1 y e
  .intro y e;rw[xQ] at e;exact j.s3 y e
  .intro y k ht;refine j.st y ?_ ?_
   .rcases k with e|e|e
    .exact .inl e
    .exact .inr (.inl (by rwa[xQ] at e))
    .exact .inr (.inr e)
   .rcases ht with e|e|e|e
    .exact .inl e
    .exact .inr (.inl (by rwa[xQ] at e))
    .exact .inr (.inr (.inl e))
    .exact .inr (.inr (.inr (by rwa[xQ] at e)))
  .intro y k;refine j.sf y ?_;rcases k with e|e|e
   .exact .inl e
   .exact .inr (.inl (by rwa[xQ] at e))
   .exact .inr (.inr e)
 .exact T.trans ((Same.of_ext (t.trans a5)).trans a1)
 .intro y k;refine z y ?_;rcases k with(e|e|e|e)|e|e|e
  .exact .inl (.inl e)
  .exact .inl (.inr (.inl (by rwa[xQ] at e)))
  .exact .inl (.inr (.inr (.inl e)))
  .exact .inl (.inr (.inr (.inr (by rwa[xQ] at e))))
  .exact .inr (.inl e)
  .exact .inr (.inr (.inl (by rwa[xQ] at e)))
  .exact .inr (.inr (.inr e))
 .rw[O,<-U,backN,Q1 hL]
end
end
section
variable {w:World} {K:oK} {F Fr:oA} {many:Nat}
theorem few_ints {ks:oI} (g:ks.Nodup) (b:∀k,k∈ks->k.natAbs<=700):ks.length<=1401:=by
 have d:(ks.map λk=>(k+701).toNat).Nodup:=by
  unfold List.Nodup;rw[pc];refine(Pg.2 λ{a c} hs=>?_);have e:a∈ks:=hs.subset (by simp);have f:c∈ks:=hs.subset (by simp);have:=b a e;have:=b c f;have i:a≠c:=by
   have:=g.sublist hs;simpa using this
  omega
 have:=nodup_le (m:=1401) d λx j=>by
  obtain⟨k,h,rfl⟩:=gu.1 j;have:=b k h;omega
 simpa using this
theorem greatest_spec {bt b:Nat} {put ks:oI} {ds:List Bool} {vp vpl vl:Value} (h:TrailR Fr w bt many put ds vp vpl vl) (hm:ISet w b ks) (N:∀k,k∈ks->k.natAbs<=many/\placeOf put k.natAbs≠0)
  (hK:∀w' top v xs,Ext w w'->TopOf put ds ks top xs->OwnI zi w' v xs->(∀x,v.ownBlock=some x->w.heap.size<=x)->K (.tuple #[nI (top:Nat),v]) w'):
  vcall ZS #[oP bt 0,.map (some b)] w K:=by
 refine ze {loops:=[(4,[6,7])]} Tryz.func343 ?_;have ad:=h.few;have a8:=h.few';have hlen:=h.len;have a0:=hm.nodup;have af:ks.length<=1401:=few_ints a0 λk M=>by have:=(N k M).1;omega
 refine Wi xG hm λr w1 hr J W=>?_;refine vloop_up ks.length (λi u w'=> ∃dn top v xs,dn.length=i/\u=[nI (top:Nat),v]/\IterR w' r b ks dn/\OwnI zi w' v xs/\TopOf put ds dn top xs/\Ext w w'/\r<w'.heap.size/\top<=700/\(∀x,v.ownBlock=some x->w.heap.size<=x/\x≠r))
  ⟨[],0,oN,[],rfl,rfl,J,OwnI.nil,⟨by simp,by simp,.inl rfl,pn⟩,W,?_,oM,λx z=>by cases z⟩ ?_
 .exact J.lt
 rintro i _ g w2 C hi ⟨dn,top,v,xs,F,rfl,hit,hv,l,he,ae,D,j⟩ U;refine vnext_set hit (λA=>?_) λk x w3 M Z p S ah=>?_
 .refine oZ ?_;refine hK w2 top v xs he ⟨λk M=>l.le k (A k M),λk=>?_,l.ne,l.nd⟩ hv λx z=>(j x z).1;rw[l.mem];obtain⟨_,_,_,_,_,_,_,_,s,_⟩:=hit;exact⟨λ⟨a,b⟩=>⟨s k a,b⟩,λ⟨a,b⟩=>⟨A k a,b⟩⟩
 have o:Ext w w3:=he.then S λy d=>by subst d;omega
 have a4:=hv.same S λy d=>(j y d).2;refine oZ ?_;refine Wj p λx'=>?_;refine oZ ?_;obtain⟨X,Y⟩:=N k M;refine level_spec (h.ext o) X Y λw4 n=>?_;have T:=a4.ext n;have m:=p.ext n;have Q:lvl ds (placeOf put k.natAbs-1)=lvM put ds k:=rfl;have O:lvM put ds k<=700:=by have:=lvl_le ds (placeOf put k.natAbs-1);rw[Q] at this;omega
 rw[Q];refine oZ ?_;have G:i<ks.length:=by have:=p.len;simp at this;omega
 have B:∀y,y∈xs->y∈dn:=λy d=>((l.mem y).1 d).1;have ag:xs.length<=i:=by have:=Pr l.nd B;omega
 have a9:=o.size;have aa:=n.size;have R:=m.lt;have a1:k∉xs:=λh=>Z (B k h);have memd:∀y,y∈dn++[k]↔y∈dn\/y=k:=λy=>by simp
 refine zb (λa=>?_) (λa=>?_)
 .refine zC xz xy xM rfl rfl λb1 w5 V f a7 E=>?_;refine U G _ _ ⟨dn++[k],lvM put ds k,_,[k],by simp[F],rfl,m.ext f,Blk.own1 (t:=zi) (cs:=[nI k]) (by rw[qO];exact E) (gY _) rfl rfl oM,⟨λy d=>?_,λy=>?_,.inr (by simp),by simp⟩,o.trans (n.trans f),oM,O,?_⟩
  .rcases(memd y).1 d with d|rfl
   .have:=l.le y d;omega
   .exact gw _
  .rw[memd,gx];constructor
   .rintro rfl;exact⟨.inr rfl,rfl⟩
   .rintro⟨d|rfl,e⟩
    .have:=l.le y d;omega
    .rfl
  .intro x z;have e:b1=x:=gd z;omega
 .refine zb (λa2=>?_) (λa2=>?_)
  .refine zC xz xy xM rfl rfl λb1 w5 V f a7 E=>?_;have a5:=T.ext f;refine a5.app1 xK E oM oM λv' w6 a6 H a3=>?_;have ab:=f.size;have ac:=H.size;have I:∀x,v'.ownBlock=some x->w.heap.size<=x/\x≠r:=λx z=>by
    rcases a3 x z with e|e
    .exact j x e
    .have:=he.size;constructor<;>omega
   have L:=(m.ext f).same H (λe=>by have:=(j b e).1;have:=hm.lt;omega) λe=>(j r e).2 rfl;have hE:Ext w w6:=Ext.then (o.trans (n.trans f)) H λx z=>(j x z).1;refine U G _ _ ⟨dn++[k],top,v',xs++[k],by simp[F],rfl,L,a6,⟨λy d=>?_,λy=>?_,.inr (by simp),?_⟩,hE,oM,D,I⟩
   .rcases(memd y).1 d with d|rfl
    .exact l.le y d
    .omega
   .rw[memd,gm,gx,l.mem];constructor
    .rintro(⟨q,s⟩|rfl)
     .exact⟨.inl q,s⟩
     .exact⟨.inr rfl,oM⟩
    .rintro⟨q|q,s⟩
     .exact .inl ⟨q,s⟩
     .exact .inr q
   .rw[Gv];exact⟨l.nd,by simp,λa ha c hc e=>by simp at hc;subst hc;subst e;exact a1 ha⟩
  .refine U G _ _ ⟨dn++[k],top,v,xs,by simp[F],rfl,m,T,⟨λy d=>?_,λy=>?_,l.ne,l.nd⟩,o.trans n,R,D,j⟩
   .rcases(memd y).1 d with d|rfl
    .exact l.le y d
    .omega
   .rw[memd,l.mem];constructor
    .rintro⟨q,s⟩;exact⟨.inl q,s⟩
    .rintro⟨q|rfl,s⟩
     .exact⟨q,s⟩
     .omega
end
section
variable {w:World} {K:oK} {F:oA}
def ZK0 (a b:Int):Int:=if a<b then-1 else if b<a then 1 else 0
theorem cmpI_pos {a b:Int}:0<ZK0 a b↔b<a:=by unfold ZK0;split<;>(try split)<;>omega
theorem yv0 {a:Int} (b:K (.bool false) w):vcall KB #[nI a] w K:=by
 refine ze {} Tryz.func360 ?_;simp only[push_cast,P7,not_true_eq_false,decide_false];exact b
theorem Vf {a b:Int} (c:K (nI (ZK0 a b)) w):vcall QI #[nI a,nI b] w K:=by
 refine ze {} Tryz.func346 ?_;refine yv0 (yv0 ?_);simp only[push_cast];unfold ZK0 at c;refine zb (λh=>?_) (λh=>zb (λd=>?_) (λd=>?_))
 .rwa[Q1 h] at c
 .rwa[q0 h,Q1 d] at c
 .rwa[q0 h,q0 d] at c
def FnI (w0:World) (f:Value) (args:Array Value) (b:Int):Prop:=
 ∀(w':World) (K:oK),Ext w0 w'->(∀w'',Ext w' w''->K (nI b) w'')->vcallv f args w' K
theorem MaxFunc_Lint {v f:Value} {xs:oI} {g:Int->Int} (p:Ints F w v xs) (t:xs≠[]) (B:∀a b,a∈xs->b∈xs->FnI w f #[nI a,nI b] (ZK0 (g a) (g b)))
  (A:∀w' m,Ext w w'->m∈xs->(∀x,x∈xs->g x<=g m)->K (nI m) w'):vcall kU #[v,f] w K:=by
 refine ze {loops:=[(5,[5,6])],cuts:=[(8195,[])]} Tryz.func344 ?_;have o:0<xs.length:=Gh.2 t;have hlen:xs.length<=9223372036854775807:=by obtain⟨_,_,_,z,E,_⟩:=p.shape;simp at z;omega
 refine zp (λu w'=>Ext w w'/\w'=w) ?_ ?_
 .intro C r;simp(disch:=exact oS) only[push_cast,p.len];exact zb (λa=>oM) (λa=>r _ _ ⟨Same.refl _ _,rfl⟩)
 rintro _ _ _ ⟨-,rfl⟩;simp(disch:=exact oS) only[p.iaddr,Int.toNat_zero,p.load];refine vloop_up (xs.length-1) (λi u w'=> ∃m,u=[nI m,nI (i+1:Nat)]/\Ext w' w'/\Ext _ w'/\m∈xs/\∀j,j<=i->g (xs.getD j 0)<=g m) ⟨xs.getD 0 0,rfl,Same.refl _ _,Same.refl _ _,getD_meS o,λj n=>by
  have:j=0:=oM;subst this;exact Pt _⟩ ?_
 rintro i _ _ w1 C hi ⟨m,rfl,-,he,hm,c⟩ r;have d:=p.ext he;simp(disch:=exact oS) only[sl0,sl1,d.len,WD];refine zb (λa=>?_) (λa=>?_)
 .simp(disch:=exact oS) only[d.iaddr,gn,d.load];have n:xs.getD (i+1) 0∈xs:=getD_meS oM;refine B _ _ n hm w1 _ he λw2 l=>?_;have q:=d.ext l;have k:IntKind.i64.wrap (((i+1:Nat):Int)+1)=((i+1+1:Nat):Int):=by rw[zj oM oM];omega
  simp only[xv0];refine zb (λb=>?_) (λb=>?_)
  .simp(disch:=exact oS) only[q.iaddr,gn,q.load,XH,k];refine r oM _ _ ⟨_,rfl,Same.refl _ _,he.trans l,n,λj s=>?_⟩;have D:g m<g (xs.getD (i+1) 0):=cmpI_pos.1 b;by_cases e:j=i+1
   .subst e;exact Pt _
   .have:=c j oM;omega
  .simp only[XH,k];refine r oM _ _ ⟨_,rfl,Same.refl _ _,he.trans l,hm,λj s=>?_⟩;have hle:g (xs.getD (i+1) 0)<=g m:=Int.not_lt.1 λh=>b (cmpI_pos.2 h);by_cases e:j=i+1
   .subst e;exact hle
   .exact c j oM
 .refine A w1 m he hm λx y=>?_;obtain⟨j,n,rfl⟩:=gr y;have:=c j oM;simpa[X0,n] using this
end
section
variable {w:World} {K:oK} {Fr:oA} {many bs:Nat} {c:Cnf} {s:Sat} {σ:SV} {N:Nat}
theorem learn_2_spec {a b:Int} (d:a.natAbs<=700) (e:b.natAbs<=700) (c:K (nI (ZK0 a.natAbs b.natAbs)) w):vcall yK #[nI a,nI b] w K:=by
 refine ze {} Tryz.func348 ?_;exact variable_spec oM oM (variable_spec oM oM (Vf c))
def plM (put:oI) (a:Int):Int:=(placeOf put a.natAbs:Int)-1
theorem yn0 {a b:Int} {p:Nat} {t:TypeId} {r:List Value} (h:SR N Fr w bs many c s σ) (o:Blk w p (oP bs 0::r) t) (m:a.natAbs<=many) (n:b.natAbs<=many)
  (l:∀w',Ext w w'->K (nI (ZK0 (plM s.put a) (plM s.put b))) w'):vcall ZV #[nI a,nI b,oP p 0] w K:=by
 refine ze {} Tryz.func345 ?_;refine zd λw1 d _=>?_;have g:=h.ext d;have f:=o.ext d;simp only[push_cast,f.ld0,g.blk.ld2,k6];refine place_spec g.tr m λw2 e=>?_;have k:=g.ext e;have j:=f.ext e;simp only[push_cast,j.ld0,k.blk.ld2,k6,gi];exact place_spec k.tr n λq i=>Vf (l q (d.trans (e.trans i)))
theorem resolve_1_spec {a:Int} {p:Nat} {t:TypeId} {r:List Value} (h:SR N Fr w bs many c s σ) (g:Blk w p (oP bs 0::r) t) (f:a.natAbs<=many) (b:placeOf s.put a.natAbs≠0)
  (e:∀w',Ext w w'->K (.bool (decide (0<lvM s.put (yu s.why) a))) w'):vcall Zl #[nI a,oP p 0] w K:=by
 refine ze {} Tryz.func320 ?_;simp only[push_cast,g.ld0,h.blk.ld2];refine level_spec h.tr f b λw1 d=>?_;have:=e w1 d;simp only[push_cast];rwa[show decide ((0:Int)<(lvl (yu s.why) (placeOf s.put a.natAbs-1):Nat))=decide (0<lvM s.put (yu s.why) a) from decide_eq_decide.2 (by unfold lvM;omega)]
end
section
variable {w:World} {K:oK}
abbrev X40:={x:Int//x.natAbs<=700}
instance:Inhabited X40:=⟨⟨0,dC⟩⟩
def litV (x:X40):Value:= nI x.1
def YV0 (x y:X40):Int:=ZK0 x.1.natAbs y.1.natAbs
theorem litC_lt (x y:X40):ltOf YV0 x y=decide (x.1.natAbs<y.1.natAbs):=by
 unfold ltOf YV0 ZK0;refine decide_eq_decide.2 ?_;split<;>(try split)<;>omega
theorem litC_swo:Go.Sort.SWO (ltOf YV0) where
 irrefl x:=by rw[litC_lt];simp
 trans x y z a b:=by rw[litC_lt] at*;simp at*;omega
 ntrans x y z a b:=by rw[litC_lt] at*;simp at*;omega
theorem VM (args:Array Value) (w:World):(callFunc yK args).run P w= .ok (.enter yK args) w:=callFunc_run rK
theorem UG (blk off size:Nat) (w:World):CmpReads P yK #[] litV YV0 blk off size w:=by
 intro m os dk _ x y;have h:=learn_2_spec (K:=λv w'=>v= nI (YV0 x y)/\∃q,w'=(sortWorld litV w blk off m dk os).drewN q) (w:=sortWorld litV w blk off m dk os) x.2 y.2 ⟨rfl,0,rfl⟩;refine Calls.mono h.2 λe w' he=>?_;cases e with
 |returned v=>exact⟨by rw[he.1],he.2⟩
 |panicked c=>exact he.elim
 |outgrown=>exact he.elim
theorem SortFunc_learn {v : Value} {xs : oI} (hv : OwnI zi w v xs) (hne : xs ≠ []) (hb : ∀ x, x ∈ xs -> x.natAbs <= 700) (hnd : (xs.map Int.natAbs).Nodup)
    (hK : ∀ w' ys, OwnI zi w' v ys -> Srt ys -> (∀ k, k ∈ ys ↔ k ∈ xs) -> Same (λb => v.ownBlock = some b) w w' -> K (.tuple #[]) w') :
    vcall kq #[v, .func (.func yK) #[] #[]] w K := by
  refine ⟨by kernel_rfl, ?_⟩
  have hsm := hv.small
  have hlen : xs.length <= 1401 := few_ints (by
    unfold List.Nodup at hnd ⊢
    rw [pc] at hnd
    exact hnd.imp λh e => h (by rw [e])) hb
  have hrow := Own.row hv
  rcases hrow.2 with ⟨rfl, hn⟩ | ⟨g, cap, cur, rfl, hbg, hg, hnc, hcm, hcs, htake⟩
  · simp at hn; exact absurd hn hne
  let L : List X40 := xs.attach.map λx => ⟨x.1, hb x.1 x.2⟩
  have hL : L.map (·.1) = xs := by
    simp [L]
  let d : Array X40 := L.toArray
  have hds : d.size = xs.length := by simp [d, L]
  have hdj : ∀ j, j < xs.length -> litV d[j]! = .int .i64 (xs.getD j 0) := λj hj => by
    have h1 : (L.map (·.1)).getD j 0 = xs.getD j 0 := by rw [hL]
    simp only [litV]
    rw [<- h1, getElem!_pos d j (by omega)]
    have : j < L.length := by simp [L]; exact hj
    simp [d, X0, this]
  have hH : Go.Sort.Holds litV w g 0 d := by
    intro j hj
    rw [hds] at hj
    have hi' : j < ((xs.map λx => Value.int .i64 x).map λx => [x]).length * 1 := by simpa using hj
    have hc := World.ownsRow.cellAt hrow j hi'
    have hf := World.ownsRow.frozenAt hrow j
    rw [gV]
    refine ⟨?_, hf⟩
    rw [hc, flat1, hdj j hj]
    simp [X0, hj]
  have hcon := Any.slices_SortFunc YtfnpmncplaibiaaGreatDoor.sortL litV (λ_ => rfl) YV0 litC_swo yK #[] g 0 cap d w VM (UG g 0 d.size w).lays hH (gH.1 hg).1 (by omega)
  have hsz : ((xs.map λx => Value.int .i64 x).map λx => [x]).length = d.size := by simp [hds]
  rw [hsz]
  refine Calls.mono hcon ?_
  rintro e w' ⟨rfl, d', n, os, hp, hs, rfl⟩
  show K _ _
  obtain ⟨hp1, hp2, hp3⟩ := hp
  have hex : d'.toList.Perm L := by
    have e1 : d'.extract 0 d.size = d' := by rw [<- hp1]; simp
    have e2 : d.extract 0 d.size = d := by simp
    rw [e1, e2] at hp3
    exact hp3
  have hmap : (d'.toList.map (·.1)).Perm xs := by rw [<- hL]; exact hex.map _
  have hgl := (gH.1 hg).1
  have hcells : (sortWorld litV w g 0 n d' os).heap[g]? = some (.cells (Go.Sort.putCells litV 0 d' cur) (Yt zi) (0, 0)) := by
    unfold sortWorld Go.Sort.grow Go.Sort.putRow Go.Sort.mapBlock Go.Sort.ahead
    simp only
    rw [PM (by simpa using hgl)]
    simp [G4, hg, Go.Sort.onCells]
  have hlen' : d'.toList.length = xs.length := by simpa [L] using hex.length_eq
  refine hK _ (d'.toList.map (·.1)) ⟨⟨by rw [flat1]; simp only [K3, pJ], .inr ⟨g, cap, _, by simp only [K3, hds, hlen'], hbg, hcells, ?_, hcm, ?_, ?_⟩⟩, λy hy => by obtain ⟨u, _, rfl⟩ := gu.1 hy; rfl⟩ ?_ (λk => hmap.mem_iff) ?_
  · simp only [K3] at hnc ⊢; simp at hlen' ⊢; omega
  · simpa [Go.Sort.putCells] using hcs
  · rw [flat1]
    simp only [K3, pJ, hlen']
    refine List.ext_getElem? λi => ?_
    rw [PJ]
    split
    · rename_i hi
      have hic : i < cur.size := by simp at hnc; omega
      have hid : i < d'.size := by omega
      simp [Go.Sort.putCells, Array.getElem?_mapIdx, hic, hid, litV]
    · rename_i hi
      symm
      rw [Pk]
      simp at hlen' ⊢; omega
  · unfold Srt
    rw [pc, GB]
    intro i j hi hj hij
    have h1 := hs i j (gY _) hij (by simp at hj; omega)
    rw [litC_lt] at h1
    simp only [decide_eq_false_iff_not, Nat.not_lt] at h1
    simp only [pH] at hi hj
    rw [getElem!_pos d' i hi, getElem!_pos d' j hj] at h1
    simp only [Array.getElem_toList]
    refine Nat.lt_of_le_of_ne h1 λe => ?_
    have hnd2 : ((d'.toList.map (·.1)).map Int.natAbs).Nodup := (hmap.map _).nodup_iff.2 hnd
    unfold List.Nodup at hnd2
    rw [GW, pc, GB] at hnd2
    have := hnd2 i j (by simpa using hi) (by simpa using hj) hij
    simp at this
    exact this e
  · refine ⟨rfl, rfl, rfl, by simp [sortWorld, Go.Sort.grow, Go.Sort.putRow, Go.Sort.mapBlock, Go.Sort.ahead], λb hb' hne' => ?_⟩
    have hbg' : g ≠ b := λe => hne' (by rw [e]; rfl)
    unfold sortWorld Go.Sort.grow Go.Sort.putRow Go.Sort.mapBlock Go.Sort.ahead
    simp only
    rw [PM (by simpa using hb'), G4, q0 hbg']
end
section
variable {w:World} {F:oA} {c:Cnf} {s:Sat}
def SatR (F:oA) (w:World) (v:Value) (s:Sat):Prop:=
 ∃vp vw vl,v= .agg #[vp,vw,vl,nI s.code]/\Ints F w vp s.put/\Ints F w vw s.why/\Lists F w vl s.learned
theorem SatR.ext {v:Value} {w':World} (h:SatR F w v s) (hw:Ext w w'):SatR F w' v s:=by
 obtain⟨vp,vw,vl,d,a,b,c⟩:=h;exact⟨vp,vw,vl,d,a.ext hw,b.ext hw,c.ext hw⟩
end
section
variable {w:World} {K:oK} {F Fr:oA} {many bs:Nat} {c:Cnf} {s:Sat} {σ:SV} {N:Nat}
theorem satOk.many' (h:satOk many c s) (a:c.many=many):many<=700/\c.list.length<=2500:=by
 have:=h.cnf;unfold cnfOk at this;simp only[gh,V1] at this;omega
theorem learn_spec {v:Value} {k:Nat} (h:SR N Fr w bs many c s σ) (D:satOk many c s) (a0:c.many=many) (hk:k<c.list.length+s.learned.length) (o:Ints F w v (atM c s k)) (hc:qX s.put (atM c s k)) (d5:kZ s.put (yu s.why) (atM c s k)≠0) (c4:∀b,Fr b->b<w.heap.size)
  (hK:∀w' v',Ext w w'->OwnI zi w' v' (learnM many c s s.put.length (atM c s k))->(∀x,v'.ownBlock=some x->w.heap.size<=x)->K (.tuple #[v',nI (Zz s.put (yu s.why) (learnM many c s s.put.length (atM c s k)))]) w'):
  vcall Xi #[oP bs 0,v] w K:=by
 refine ze {loops:=[(3,[20]),(8,[10]),(12,[59]),(21,[14,15])],cuts:=[(102425,[98])]} Tryz.func322 ?_;obtain⟨cm,db⟩:=satOk.many' D a0;have d1:=D.few;have au:=D.mks;obtain⟨z1,z2,z3,z4⟩:=UF D a0 hk hc;have b2:=Zb hc;have c9:=clauseOk_srt (D.atOk hk);generalize atM c s k=cl at*;refine ym λp w1 hp ce dm c6=>?_;refine kV0 λbm w2 da bg ac=>?_;have dp:=ac.size;have hlen:cl.length<=9223372036854775807:=by obtain⟨_,_,_,h1,h2,_⟩:=o.shape;simp at h1;omega
 simp(disch:=exact oS) only[push_cast,o.len];have c7:Blk w2 p [oP bs 0] yS:=c6.ext ac;have keep:∀{w3 w4:World} {S:oA},(Ext w w3/\Blk w3 p [oP bs 0] yS)->Same S w3 w4->(∀x,S x->w1.heap.size<=x)->(Ext w w4/\Blk w4 p [oP bs 0] yS):=by
  rintro w3 w4 S ⟨a,b⟩ hs hS;exact⟨a.then hs λx o=>by have:=hS x o;omega,b.same hs λe=>by have:=hS p e;omega⟩
 refine vloop_up cl.length (λi u w'=> ∃ks,u=[nI i]/\(Ext w w'/\Blk w' p [oP bs 0] yS)/\ISet w' bm ks/\∀x,x∈ks↔x∈cl.take i) ⟨[],rfl,⟨ce.trans ac,c7⟩,bg,by simp⟩ ?_;rintro i _ _ w3 C hi ⟨ks,rfl,M,B,z⟩ hC;refine oZ ?_;refine zb (λa=>?_) (λa=>?_)
 .have bw:=o.ext M.1;simp(disch:=exact oS) only[push_cast,bw.iaddr,bw.load];refine zz0 xG B λw4 ci cs dr=>?_;simp(disch:=omega) only[push_cast,zj];refine hC oM _ _ ⟨_,by simp,keep M cs (λx o=>oM),ci,λx=>?_⟩;rw[JS (d:=0) oM,gm,gx,<-z];split
  .rename_i ap;exact⟨.inl,λe=>e.elim id λe=>e▸ap⟩
  .rw[gm,gx]
 clear hC;rw[gC oM] at z;clear bg hi a;have bounds:∀{j:oI},Fls s.put j->∀x,x∈j->x≠0/\x.natAbs<=many/\placeOf s.put x.natAbs≠0:=λhF x o=>by
  have h1:=au.2 _ (hF x o);have h2:=placeOf_ne_zero (hF x o);rw[G2] at h2;exact⟨oM,oM,h2⟩
 have Z:=h.ext M.1;simp only[push_cast,M.2.ld0,Z.blk.ld2];refine greatest_spec Z.tr B (λx o=>(bounds b2 x ((z x).1 o)).2) λw4 top v4 xs A bq bu bl=>?_;refine oZ ?_;have al:TopOf s.put (yu s.why) cl top xs:=JR z bq;refine kz (λn u w'=> ∃ks j f top v xs,n=lastPl s.put j/\u=[v]/\(Ext w w'/\Blk w' p [oP bs 0] yS)/\ISet w' bm ks/\(∀x,x∈ks↔x∈j)/\
   Fls s.put j/\Srt j/\TopOf s.put (yu s.why) j top xs/\OwnI zi w' v xs/\(∀x,v.ownBlock=some x->w.heap.size<=x/\x≠bm/\x≠p)/\lastPl s.put j<=f/\learnM many c s f j=learnM many c s s.put.length cl) _
  ⟨ks,cl,s.put.length,top,v4,xs,rfl,rfl,keep M (S:=λ_=>False) A (λ_ h=>h.elim),B.ext A,z,b2,c9,al,bu,λx o=>?_,lastPl_le,rfl⟩ ?_
 .have:=bl x o;have:=B.lt;have:=M.2.lt;have:=M.1.size;exact⟨oM,oM,oM⟩
 clear B z bq al bu bl A Z ks top v4 xs M;clear w3 w4;rintro _ _ _ w3 C ⟨ks,j,f,top,v3,xs,rfl,rfl,M,B,z,hF,hS,ht,a7,bk,df,ar⟩ hC;have Z:=h.ext M.1;have bx:=a7.ints;have Q:=bounds hF;have t:∀x,x∈xs->x∈j:=λx o=>((ht.mem x).1 o).1;have cy:xs.length<=1401:=few_ints ht.nd λx o=>by have:=Q x (t x o);omega
 have bt:=topOf_tops (put:=s.put) (ds:=yu s.why) (srt_nodup hS);have dl:xs.length=(Ja s.put (yu s.why) j).length:=je0 ht bt;have ay:top=kZ s.put (yu s.why) j:=topOf_top ht bt;simp only[push_cast,bx.len];refine zb (λa=>?_) (λa=>?_)
 ·
  have h2:2<=xs.length:=oM;have hf:f≠0:=λe=>by
   subst e;have:xs≠[]:=λe=>by subst e;simp at h2
   obtain⟨q,hq⟩:=pC _ this;exact lastPl_pos hF (λe=>by have:=t q hq;rw[e] at this;cases this) oM
  obtain⟨f,rfl⟩:∃f',f=f'+1:=⟨f-1,oM⟩;rw[learnM,q0 oM] at ar;obtain⟨k1,k2,k3,k4⟩:=learnS_ok D a0 hF hS oM;refine MaxFunc_Lint (g:=plM s.put) bx (λe=>by rw[e] at h2;simp at h2) (λa b ha hb w' K' bb c5=>?_) λw4 m A hm a4=>?_
  .exact yn0 (Z.ext bb) (M.2.ext bb) (Q a (t a ha)).2.1 (Q b (t b hb)).2.1 c5
  have bi:=Q m (t m hm);have cq:placeOf s.put m.natAbs=lastPl s.put j:=lastPl_top ht hm λx o=>by have:=a4 x o;unfold plM at this;omega
  refine yN0 xG (B.ext A) λw5 cj bo dt=>?_;have c3:=keep M (S:=λ_=>False) A (λ_ h=>h.elim);have W:=keep c3 bo (λx o=>oM);refine zd λw6 an _=>?_;have X:=keep W (S:=λ_=>False) an (λ_ h=>h.elim);have aa:=h.ext X.1;have dk:=aa.rw.ints;simp only[push_cast,X.2.ld0,aa.blk.ld2,aa.blk.ld3,k6];refine place_spec aa.tr bi.2.1 λw7 H=>?_;have Y:=keep X (S:=λ_=>False) H (λ_ h=>h.elim);have ab:=h.ext Y.1;have am:=ab.rw.ints;obtain⟨q,hq⟩:∃q,lastPl s.put j=q+1:=⟨lastPl s.put j-1,oM⟩;have cr:(placeOf s.put m.natAbs:Int)-1=(q:Int):=oM;have dh:=D.len;have d2:=placeOf_le s.put m.natAbs;obtain⟨r1,r2,r3,r4,r5,-⟩:=last_reason D hF ht h2 hq;have bn:s.put.getD q 0= -m:=by
   refine distinct_eq au.1 (getD_meS r1) (hF m (t m hm)) ?_;have:=(placeOf_pos bi.2.2).2;rw[cq,hq,GX] at this;rw[this,G2]
  rw[cr];simp(disch:=exact oS) only[push_cast,Y.2.ld0,ab.blk.ld2,ab.blk.ld3,k6,gi,am.iaddr,am.load];obtain⟨y,hy⟩:∃y:Nat,s.why.getD q 0=y:=⟨(s.why.getD q 0).toNat,oM⟩;have az:s.why.getD q 0=(y:Int):=hy;rw[az];refine clause_spec ab oM oM λv8 w8 ao a8=>?_;have V:=keep Y (S:=λ_=>False) ao (λ_ h=>h.elim);have d3:=clauseOk_len (m:=many) (by have:=D.atOk (k:=y) oM;rwa[a0] at this);simp(disch:=exact oS) only[push_cast,a8.len,k6];have ck:ISet w8 bm (ks.erase m):=((cj.ext an).ext H).ext ao;have co:ks.Nodup:=B.nodup;have d6:OwnI zi w8 v3 xs:=((((a7.ext A).same bo λx o=>(bk x o).2.1).ext an).ext H).ext ao;have hj:qL many c s j=Q5 many j (atM c s y) (s.put.getD q 0).natAbs:=by
   unfold qL;rw[hq,GX,az,gn]
  have cg:∀l,l∈qL many c s j↔(l∈j/\l≠m)\/(l∈atM c s y/\l≠ -m):=λl=>by
   have:=(learn_join D a0 hF ht h2 hq).1 l;rw[az,gn,<-hj,bn,Int.neg_neg] at this;exact this
  refine vloop_up (atM c s y).length (λi u w'=> ∃bz,u=[nI i]/\(Ext w w'/\Blk w' p [oP bs 0] yS)/\Ints Fr w' v8 (atM c s y)/\ISet w' bm bz/\(∀x,x∈bz↔(x∈j/\x≠m)\/(x∈(atM c s y).take i/\x≠ -m)))
   ⟨ks.erase m,rfl,V,a8,ck,λx=>by rw[co.mem_erase_iff,z];simp[and_comm]⟩ ?_
  rintro i _ _ w9 C9 hi ⟨c0,rfl,O,ae,a3,E⟩ b1;refine oZ ?_;refine zb (λa9=>?_) (λa9=>?_)
  .simp(disch:=exact oS) only[push_cast,ae.iaddr,ae.load];have br:=JS (d:=0) (xs:=atM c s y) (show i<(atM c s y).length by omega);have d8:∀x,Fr x->x<w.heap.size->¬(x=bm):=λx _ o e=>oM;have G:IntKind.i64.wrap (0-m)= -m:=by rw[zj oM oM];omega
   have T:IntKind.i64.wrap ((i:Int)+1)=((i+1:Nat):Int):=by rw[zj oM oM];omega
   simp only[G,T];refine zb (λb9=>?_) (λb9=>?_)
   .refine zz0 xG a3 λw10 bf ak d7=>?_;simp(disch:=omega) only[push_cast,zj];have a6:Ints Fr w10 v8 (atM c s y):=ae.same ak λx o _ e=>by have:=c4 x o;omega
    refine b1 oM _ _ ⟨_,rfl,keep O ak (λx o=>oM),a6,bf,λx=>?_⟩;rw[br,gm,gx];split
    .rename_i ap;rw[E];constructor
     .rintro(e|⟨G,T⟩)
      .exact .inl e
      .exact .inr ⟨.inl G,T⟩
     .rintro(e|⟨G|G,T⟩)
      .exact .inl e
      .exact .inr ⟨G,T⟩
      .rw[G];exact(E _).1 ap
    .rw[gm,gx,E];constructor
     .rintro((e|⟨G,T⟩)|e)
      .exact .inl e
      .exact .inr ⟨.inl G,T⟩
      .exact .inr ⟨.inr e,by rw[e];exact b9⟩
     .rintro(e|⟨G|G,T⟩)
      .exact .inl (.inl e)
      .exact .inl (.inr ⟨G,T⟩)
      .exact .inr G
   .refine b1 oM _ _ ⟨_,rfl,O,ae,a3,λx=>?_⟩;rw[br,gm,gx,E];constructor
    .rintro(e|⟨G,T⟩)
     .exact .inl e
     .exact .inr ⟨.inl G,T⟩
    .rintro(e|⟨G|G,T⟩)
     .exact .inl e
     .exact .inr ⟨G,T⟩
     .exact absurd (by rw[<-G];exact T) b9
  .rw[gC oM] at E;have R:∀x,x∈c0↔x∈qL many c s j:=λx=>(by rw[E,cg]);have b4:=h.ext O.1;have cb:=bounds k1;simp only[push_cast,O.2.ld0,b4.blk.ld2];refine greatest_spec b4.tr a3 (λx o=>(cb x ((R x).1 o)).2) λw10 c1 v10 d0 ag bp a6 bj=>?_;refine oZ ?_;have dw:=O.1.size;have:=a3.lt;have:=O.2.lt;refine hC (lastPl s.put (qL many c s j)) _ _ k3 ⟨c0,qL many c s j,f,c1,v10,d0,rfl,rfl,keep O (S:=λ_=>False) ag (λ_ h=>h.elim),a3.ext ag,R,k1,k2,JR R bp,a6,λx o=>?_,oM,ar⟩;have:=bj x o;exact⟨oM,oM,oM⟩
 ·
  have bc:learnM many c s s.put.length cl=j:=by
   rw[<-ar];cases f with
   |zero=>rfl
   |succ f=>rw[learnM,Q1 oM]
  rw[bc] at hK z1 z2 z3 z4;rw[z3] at ay;have cx:xs.length=1:=by
   have:=ht.ne;rcases this with e|e
   .omega
   .have:=Gh.2 e;omega
  obtain⟨t0,rfl⟩:=P6.1 cx;have af:∀x,x∈j->(x≠t0↔lvM s.put (yu s.why) x<kZ s.put (yu s.why) j):=λx o=>by
   have h1:=ht.mem x;have h2:=ht.le x o;rw[gx] at h1;rw[z3];constructor
   .intro cp;have: ¬lvM s.put (yu s.why) x=top:=λe=>cp (h1.2 ⟨o,e⟩);omega
   .intro dg e;have:=(h1.1 e).2;omega
  refine Wi xG B λr w4 hr cf A=>?_;have de:=few_ints B.nodup λx o=>by have:=Q x ((z x).1 o);omega
  have dq:=M.1.size;have di:=B.lt;have dj:=M.2.lt;refine vloop_up ks.length (λi u w'=> ∃dn v,dn.length=i/\u=[nI (maxL ((dn.filter λk=>decide (lvM s.put (yu s.why) k<kZ s.put (yu s.why) j)).map (lvM s.put (yu s.why))):Nat),v]/\(Ext w w'/\Blk w' p [oP bs 0] yS)/\IterR w' r bm ks dn/\OwnI zi w' v dn/\OwnI zi w' v3 [t0]/\(∀x,v.ownBlock=some x->w3.heap.size<x))
   ⟨[],oN,rfl,rfl,keep M (S:=λ_=>False) A (λ_ h=>h.elim),cf,OwnI.nil,a7.ext A,λx o=>by cases o⟩ ?_
  rintro i _ _ w5 C5 hi ⟨dn,v5,b8,rfl,W,I,bv,ct,L⟩ b0;refine vnext_set I (λb5=>?_) λU x' w6 ch dd a2 a5 du=>?_
  ·
   refine oZ ?_;have a1:∀x,x∈dn↔x∈j:=λx=>⟨λh=>(z x).1 (I.sub h),λh=>b5 x ((z x).2 h)⟩;have ba:dn≠[]:=λe=>by
    have:=(ht.mem t0).1 (by simp);have:=(a1 t0).2 this.1;rw[e] at this;cases this
   have cd:(dn.map Int.natAbs).Nodup:=by
    have h1:=I.nd;unfold List.Nodup at h1⊢;rw[pc];refine Pg.2 λ{a c} hs=>?_;have ca:a≠c:=by
     have:=h1.sublist hs;simpa using this
    have ha:=(a1 a).1 (hs.subset (by simp));have cc:=(a1 c).1 (hs.subset (by simp));intro e;exact ca (by have:=distinct_eq au.1 (hF a ha) (hF c cc) oM;omega)
   refine SortFunc_learn bv ba (λx o=>by have:=Q x ((a1 x).1 o);omega) cd λw6 zs cv c8 bh a5=>?_;have cz:zs=j:=srt_ext c8 hS λx=>(by rw[bh,a1]);subst cz;have a4:maxL ((dn.filter λk=>decide (lvM s.put (yu s.why) k<kZ s.put (yu s.why) zs)).map (lvM s.put (yu s.why)))=Zz s.put (yu s.why) zs:=by
    unfold Zz;exact ql0 λx=>by simp only[gu,P8,bh]
   simp only[push_cast,a4];exact hK w6 v5 (W.1.then a5 λx o=>by have:=L x o;omega) cv λx o=>by have:=L x o;omega
  .refine oZ ?_;refine Wj a2 λdx=>?_;refine oZ ?_;refine zC xz xy xM rfl rfl λb7 w7 d9 H dv c2=>?_;have dc:=I.lt;have X:=keep W a5 (λx o=>by have:=ac.size;have:=M.1.size;omega);have Y:=keep X (S:=λ_=>False) H (λ_ h=>h.elim);have d4:=W.1.size;have cw:=(bv.same a5 λx o e=>by have:=L x o;omega).ext H;have cu:=(ct.same a5 λx o e=>by have:=bk x o;have:=a7.lt o;omega).ext H;have bd:=a2.ext H;have b6:i<ks.length:=by have:=a2.len;simp at this;omega
   refine cw.app1 xK c2 oM oM λv8 w8 a8 av cn=>?_;have aj:∀x,v8.ownBlock=some x->w3.heap.size<x:=λx o=>by
    rcases cn x o with e|e
    .exact L x e
    .have:=A.size;have:=I.lt;omega
   have V:=keep Y av (λx o=>by have:=L x o;omega);have aw:=cu.same av λx o e=>by have:=L x e;have:=a7.lt o;omega
   have ai:=bd.same av (λe=>by have:=L _ e;omega) (λe=>by have:=L _ e;omega);have ax:=aw.ints;have aq:U∈j:=(z U).1 ch;have be:=Q U aq;refine zp (λu w'=>u=[.bool (decide (U≠t0))]/\w'=w8) ?_ ?_
   .intro J hJ;simp(disch:=exact oS) only[push_cast,ax.len,ax.iaddr,ax.load];exact hJ _ _ ⟨rfl,rfl⟩
   rintro _ _ _ ⟨rfl,rfl⟩;refine oZ ?_;have ah:(dn++[U]).filter (λk=>decide (lvM s.put (yu s.why) k<kZ s.put (yu s.why) j))=dn.filter (λk=>decide (lvM s.put (yu s.why) k<kZ s.put (yu s.why) j))++(if lvM s.put (yu s.why) U<kZ s.put (yu s.why) j then[U] else[]):=by
    rw[PL];simp[P0]
   refine zb (λb=>?_) (λb=>?_)
   .have b3:=h.ext V.1;simp only[push_cast,V.2.ld0,b3.blk.ld2];refine level_spec b3.tr be.2.1 be.2.2 λw9 ad=>?_;refine oZ ?_;refine b0 b6 _ _ ⟨dn++[U],v8,by simp[b8],?_,keep V (S:=λ_=>False) ad (λ_ h=>h.elim),ai.ext ad,a8.ext ad,aw.ext ad,aj⟩;rw[ah,Q1 ((af U aq).1 b),gD,maxL_snoc _ ([U].map (lvM s.put (yu s.why))) (lvM s.put (yu s.why) U) rfl];simp only[Gn,Value.int.injEq,k6,Gg];show(max _ ((lvM s.put (yu s.why) U:Nat):Int))=_;omega
   .refine b0 b6 _ _ ⟨dn++[U],v8,by simp[b8],?_,V,ai,a8,aw,aj⟩;rw[ah,q0 λe=>b ((af U aq).2 e),gF]
end
section
variable {w:World} {Fr:oA} {many:Nat}
theorem TrailR.reframe {a:oA} {bt:Nat} {put:oI} {ds:List Bool} {vp vpl vl:Value} (h:TrailR Fr w bt many put ds vp vpl vl) (b:∀x,Z0 bt vp vpl vl x->¬a x):TrailR a w bt many put ds vp vpl vl:=by
 obtain⟨hs,_⟩:=sep4.1 h.sep;exact⟨h.blk,h.rp,h.rpl,h.rl,sep4.2 ⟨hs,λx e=>b x (.inl (gd e).symm),λx e=>b x (.inr (.inl e)),λx e=>b x (.inr (.inr (.inl e))),λx e=>b x (.inr (.inr (.inr e)))⟩,h.len,h.dis,h.bnd,h.few⟩
end
section
variable {w:World} {K:oK} {F Fr:oA} {many bs:Nat} {c:Cnf} {s:Sat} {σ:SV} {N:Nat}
theorem topL_pos {put:oI} {ds:List Bool} {cl:oI}:(kZ put ds cl≠0)↔((List.range cl.length).any λi=>decide (0<lvM put ds (cl.getD i 0)))=true:=by
 rw[pk];constructor
 .intro h;rcases jd (xs:=cl.map (lvM put ds)) with e|e
  .exact absurd e h
  .obtain⟨q,a,e⟩:=gu.1 e;obtain⟨i,hi,rfl⟩:=gr a;refine⟨i,gI.2 hi,?_⟩;have:cl.getD i 0=cl[i]:=(by simp[X0,hi]);rw[this,V1,e];unfold kZ at h;omega
 .rintro⟨i,hi,h⟩;rw[gI] at hi;rw[V1] at h;have:lvM put ds (cl.getD i 0)<=kZ put ds cl:=kX (Gd (getD_meS hi));omega
theorem SR.setCode (h:SR N Fr w bs many c s σ) {k:Int} (g:∀w',SR N Fr w' bs many c {s with code:=k} σ->Same (σ.foot bs) w w'->w'.heap.size=w.heap.size->K undef w'):
  zP y6 (oP bs 5) (nI k) w K:=by
 refine h.blk.st rfl rfl xy rfl λw1 hs i f=>?_;have b:Same (σ.foot bs) w w1:=hs.mono λx _ e=> .inr (.inl e);have d:∀x,σ.tf x->x≠bs:=λx a e=>h.st x (.inl e) a;refine g w1 ⟨f,h.cm,h.cl.same b λx hF _ a=>h.notF a hF,h.tr.same hs λx a e=>d x a e,h.rw.same hs λx a e=>h.s1 x a e,h.rl.same hs λx a e=>h.s2 x a e,h.lsl,h.ll.same b λx hF _ a=>h.notF a hF,h.s1,h.s2,h.s3,h.st,h.sf⟩ b i
def StepTo (N:Nat) (Fr:oA) (w:World) (bs many:Nat) (c:Cnf) (s':Sat) (σ:SV) (w':World):Prop:=
 ∃Fr' σ',SR N Fr' w' bs many c s' σ'/\Same (σ.foot bs) w w'/\(∀b,σ'.foot bs b->σ.foot bs b\/w.heap.size<=b)/\(∀b,Fr' b->Fr b\/w.heap.size<=b)/\(∀b,Fr' b->b<w'.heap.size)
theorem StepTo.trans {s2:Sat} {w1 w2:World} {d:oA} {g:SV} (a2:Same (σ.foot bs) w w1) (a3:∀b,g.foot bs b->σ.foot bs b\/w.heap.size<=b) (a4:∀b,d b->Fr b\/w.heap.size<=b) (i:StepTo N d w1 bs many c s2 g w2):StepTo N Fr w bs many c s2 σ w2:=by
 obtain⟨F2,l,b1,b2,b3,b4,h⟩:=i;have k:=a2.size;refine⟨F2,l,b1,⟨b2.os.trans a2.os,b2.tape.trans a2.tape,b2.output.trans a2.output,gL k b2.size,λb a f=>?_⟩,λb a=>?_,λb a=>?_,h⟩
 .rw[b2.block b oM λj=>?_,a2.block b a f];rcases a3 b j with e|e
  .exact f e
  .omega
 .rcases b3 b a with e|e
  .exact a3 b e
  .exact .inr oM
 .rcases b4 b a with e|e
  .exact a4 b e
  .exact .inr oM
theorem StepTo.refl (h:SR N Fr w bs many c s σ) (hF:∀b,Fr b->b<w.heap.size):StepTo N Fr w bs many c s σ w:=⟨Fr,σ,h,Same.refl _ _,λ_ h=> .inl h,λ_ h=> .inl h,hF⟩
theorem StepTo.ext {w1 w':World} (h:StepTo N Fr w1 bs many c s σ w') (he:Ext w w1):StepTo N Fr w bs many c s σ w':=by
 obtain⟨d,f,e,a2,a3,a4,a5⟩:=h;have g:=he.size;exact⟨d,f,e,(Same.of_ext he).trans a2,λb a=>(a3 b a).imp id λh=>oM,λb a=>(a4 b a).imp id λh=>oM,a5⟩
theorem resolve_spec {v:Value} {k:Nat} (h:SR N Fr w bs many c s σ) (t:satOk many c s) (M:c.many=many) (hk:k<c.list.length+s.learned.length) (d:Ints F w v (atM c s k)) (hc:qX s.put (atM c s k)) (q:∀b,Fr b->b<w.heap.size)
  (hK:∀w',StepTo N Fr w bs many c (jo many c s (atM c s k)) σ w'->K (.tuple #[]) w'):
  vcall ZU #[oP bs 0,v] w K:=by
 refine ze {} Tryz.func294 ?_;obtain⟨af,ap⟩:=satOk.many' t M;have ak:=t.few;have aq:=t.mks;refine ym λp w1 hp O ar a8=>?_;have G:Blk w1 p [oP bs 0] yS:=a8;refine oZ ?_;have bounds:∀x,x∈atM c s k->x.natAbs<=many/\placeOf s.put x.natAbs≠0:=λx d=>⟨(t.lit M hk d).2,(hc x d).2⟩;refine jp (p:=λi=>decide (0<lvM s.put (yu s.why) ((atM c s k).getD i 0))) (d.ext O) (λi hi w' K' he a7=>?_) λw2 Z=>?_
 .rw[K3] at hi;rw[KH hi];obtain⟨b1,b2⟩:=bounds _ (getD_meS hi);exact resolve_1_spec (h.ext (O.trans he)) (G.ext he) b1 b2 λw'' Y=>a7 w'' Y
 have A:=O.trans Z;have I:=h.ext A;have L:=G.ext Z;rw[K3];refine oZ ?_;refine zm (λa=>?_) (λa=>?_)
 ·
  have g:kZ s.put (yu s.why) (atM c s k)=0:=GS λai=>by
   have:=topL_pos.1 ai;rw[this] at a;cases a
  simp only[push_cast,L.ld0];refine I.setCode λw3 h3 R a4=>hK w3 ⟨Fr,σ,?_,(Same.of_ext A).trans R,λb l=> .inl l,λb l=> .inl l,λb l=>?_⟩
  .unfold jo;rw[Q1 g];exact h3
  .have:=q b l;have:=A.size;omega
 have g:kZ s.put (yu s.why) (atM c s k)≠0:=topL_pos.2 (by simpa using a);have ae:=I.lists;have al:=I.lsl;simp only[push_cast,L.ld0,I.blk.ld4,ae.len];refine zb (λb=>?_) (λb=>?_)
 .refine I.setCode λw3 h3 R a4=>hK w3 ⟨Fr,σ,?_,(Same.of_ext A).trans R,λb l=> .inl l,λb l=> .inl l,λb l=>?_⟩
  .unfold jo;rw[q0 g,Q1 oM];exact h3
  .have:=q b l;have:=A.size;omega
 refine learn_spec I t M hk (d.ext A) hc g (λb l=>by have:=q b l;have:=A.size;omega) λw3 v3 B aj ag=>?_;have E3:=A.trans B;have a4:=B.size;have au:=A.size;refine oZ ?_;refine zd λw4 r _=>?_;have h4:=I.ext (B.trans r);have U:=(L.ext B).ext r;have a2:=aj.ext r;have av:=r.size;simp only[push_cast,U.ld0,h4.blk.ld4,k6];refine zC Qs jg Wz rfl a2.ints.cells1 λb5 T ao C aw a5=>?_;have J:=h4.ext C;have V:=U.ext C;have S:=a2.ext C;simp only[push_cast,V.ld0,J.blk.ld4,k6,gi];refine OwnV.app1 J.rl Yb a5 S.ints.one oM oM λE w6 Q y ah=>?_;have a1:∀x,σ.foot bs x->x≠p:=λx d e=>by have:=h.lt d;omega
 have W:=V.same y λe=>a1 p (.inr (.inr (.inr e))) rfl;have X:=J.blk.same y λe=>h.s2 _ e rfl;have aa:Same (σ.foot bs) T w6:=y.mono λx _ e=> .inr (.inr (.inr e));simp only[push_cast,W.ld0,k6];have j:∀x,v3.ownBlock=some x->w.heap.size<=x/\x<T.heap.size:=λx d=>⟨by have:=ag x d;omega,S.lt d⟩;have u:∀x,E.ownBlock=some x->σ.vr.ownBlock=some x\/T.heap.size<=x:=ah;refine X.st Q.vals.cells1 Q.vals.one Qq rfl λw7 D ay a6=>?_;have f:Same (σ.foot bs) T w7:=aa.trans (D.mono λx _ e=> .inr (.inl e));have H:Same (λx=>x=bs\/σ.vr.ownBlock=some x) T w7:=(y.mono λx _ e=> .inr e).trans (D.mono λx _ e=> .inl e);have a9:=W.same D λe=>a1 bs (.inr (.inl rfl)) e.symm;have ax:=y.size;have a3:∀x,E.ownBlock=some x->x≠bs:=λx d e=>by
  rcases u x d with m|m
  .exact h.s2 x m e
  .have:=h.lt (.inr (.inl (rfl:bs=bs)));omega
 have ac:SR N (λb=>Fr b\/v3.ownBlock=some b) w7 bs many c {s with learned:=s.learned++[learnM many c s s.put.length (atM c s k)]} {σ with vr:=E,ls:=σ.ls++[v3]}:=by
  have fr:∀{x},σ.foot bs x->¬(Fr x\/v3.ownBlock=some x):=λ{x} d e=>by
   rcases e with e|e
   .exact h.notF d e
   .have:=h.lt d;have:=(j x e).1;omega
  refine⟨a6,h.cm,(J.cl.same f λx hF _ d=>h.notF d hF).weaken λx d _=> .inl d,?_,?_,?_,by simp[h.lsl],?_,h.s1,a3,?_,?_,?_⟩
  .refine(J.tr.same H λx d e=>?_).reframe λx d=>fr (.inl d);rcases e with e|e
   .exact h.st x (.inl e) d
   .exact h.st x (.inr (.inr e)) d
  .refine J.rw.same H λx d e=>?_;rcases e with e|e
   .exact h.s1 x d e
   .exact h.s3 x d e
  .exact Q.same D λx d e=>a3 x d e
  .refine RowsR.snoc ((J.ll.same f λx hF _ d=>h.notF d hF).weaken λx d _ _=> .inl d) h.lsl (S.same f λx d hf=>?_) (λx d=>⟨.inr d,?_⟩) λi x hi d e=>?_
   .have:=h.lt hf;have:=(j x d).1;omega
   .have:=h.ll.nle;have:=(j x d).1;omega
   .have:=(h.ll.own i hi).lt d;have:=(j x e).1;omega
  .intro x d e;rcases u x e with m|m
   .exact h.s3 x d m
   .have:=h.lt (.inr (.inr (.inl d)));omega
  .rintro x (e|e|e) ht
   .exact h.st x (.inl e) ht
   .exact h.st x (.inr (.inl e)) ht
   .rcases u x e with m|m
    .exact h.st x (.inr (.inr m)) ht
    .have:=h.lt (.inl ht);omega
  .rintro x (e|e|e) hF
   .exact fr (.inr (.inl e)) hF
   .exact fr (.inr (.inr (.inl e))) hF
   .rcases u x e with m|m
    .exact fr (.inr (.inr (.inr m))) hF
    .rcases hF with hF|hF
     .have:=q x hF;omega
     .have:=(j x hF).2;omega
 simp only[push_cast,a9.ld0];have an:=f.size;refine goBack_spec ac λσ8 w8 n hn ab z ad=>?_;subst hn;have a0:∀x,(SV.foot {σ with vr:=E,ls:=σ.ls++[v3]} bs) x->σ.foot bs x\/T.heap.size<=x:=by
  rintro x (e|e|e|e)
  .exact .inl (.inl e)
  .exact .inl (.inr (.inl e))
  .exact .inl (.inr (.inr (.inl e)))
  .exact(u x e).imp (λe=> .inr (.inr (.inr e))) id
 have az:=z.size;refine hK w8 ⟨λb=>Fr b\/v3.ownBlock=some b,σ8,?_,?_,λx d=>?_,λx d=>?_,λx d=>?_⟩
 .unfold jo;rw[q0 g,q0 oM];exact ab
 .have o:Ext w T:=E3.trans (r.trans C);have am:=o.size;refine⟨(z.os.trans f.os).trans o.os,(z.tape.trans f.tape).trans o.tape,(z.output.trans f.output).trans o.output,oM,λx d hn=>?_⟩;rw[z.block x oM λhf=>?_,f.block x oM hn,o.block x d id];rcases a0 x hf with e|e
  .exact hn e
  .omega
 .rcases a0 x (ad x d) with e|e
  .exact .inl e
  .exact .inr oM
 .rcases d with e|e
  .exact .inl e
  .exact .inr (j x e).1
 .rcases d with e|e
  .have:=q x e;omega
  .have:=(j x e).2;omega
theorem neg_ne {n:Nat} (h:1<=n): -(n:Int)≠0:=oM
theorem satOk.bnd (h:satOk many c s) (b:c.many=many) {cl:oI} (a:cl∈c.list++s.learned) {l:Int} (d:l∈cl):l≠0/\l.natAbs<=many:=by
 have:=clauseOk_lit (satOk.cls h a) d;omega
theorem step_spec (h:SR N Fr w bs many c s σ) (g:satOk many c s) (r:c.many=many) (q:∀b,Fr b->b<w.heap.size)
  (o:∀w',StepTo N Fr w bs many c (stepM many c s) σ w'->K (.tuple #[]) w'):
  vcall XT #[oP bs 0] w K:=by
 refine ze {loops:=[(3,[5])]} Tryz.func263 ?_;obtain⟨a3,z⟩:=satOk.many' g r;have a9:=g.few;simp only[push_cast,h.blk.ld5];refine zb (λa=>o w (by unfold stepM;rw[q0 (by simpa using a)];exact StepTo.refl h q)) (λa=>?_);have O:stepM many c s=goM many c s:=Q1 (by simpa using a);rw[O] at o;clear O;refine zd λw1 H _=>?_;have E:=h.ext H;simp only[push_cast,E.blk.ld1,E.blk.ld2,E.blk.ld4,k6];obtain⟨cs,ad,X,ac⟩:=E.cl;refine vbuildS_row1 (xs:=[σ.vc,σ.vr]) Z10 Qq kP0 (λx hx=>?_) (by simp) λb2 w2 ab Y ah W=>?_
 .simp only[gj,gA,Gk] at hx;rcases hx with rfl|rfl
  .exact X.cells1
  .exact E.lists.cells1
 have E2:=H.trans Y;have B:=h.ext E2;simp only[push_cast,B.blk.ld2,k6];have J:Lists (λ_=>True) w2 σ.vr s.learned:=⟨σ.ls,B.lsl,B.lists.weaken λ_ _ _=>trivial,λi hi=>(B.ll.int hi).weaken λ_ _ _=>trivial⟩;have G:Lists (λ_=>True) w2 σ.vc c.list:=B.cl.weaken λ_ _ _=>trivial;have A:([c.list,s.learned]:List (List (oI))).flatten=c.list++s.learned:=by simp
 refine next_spec (F:=λ_=>True) (vs:=[σ.vc,σ.vr]) (lls:=[c.list,s.learned]) B.tr (Sl.weaken (W.sl1 rfl (by simp)) λ_ _ _=>trivial) rfl (λi hi=>?_) (λcl z l hl=>?_) ?_ λw3 k u x Z I=>?_
 .match i,hi with
  |0,_=>exact G
  |1,_=>exact J
  |n+2,hi=>exact absurd hi (by simp)
 .rw[A] at z;exact(satOk.bnd g r z hl).2
 .rw[A,V0];omega
 rw[A] at I;have D:=E2.trans Z;have R:=h.ext D;have ai:=D.size;have m:∀b,Fr b->b<w3.heap.size:=λb d=>by have:=q b d;omega
 simp only[push_cast,k6];have f:goM many c s=(if 0<=k then jo many c s (atM c s k.toNat) else if 0<=u then{s with put:=s.put++[x],why:=s.why++[u]}
  else if s.put.length=many then{s with code:=1} else{s with put:=s.put++[-(ZF many s.put:Int)],why:=s.why++[-1]}):=by
  unfold goM;rw[I]
 have hlen:=g.len;have ag:=(satOk.mks g).len;rcases find_cases s.put (c.list++s.learned) with⟨i,u',x',hi,e,hc⟩|⟨hn,⟨i,x',hi,e,hu,-⟩|⟨e,-⟩⟩
 .rw[I,Gw,Gw] at e;obtain⟨rfl,rfl,rfl⟩:=e;rw[V0] at hi;rw[Q1 oM,gn] at f;refine zb (λ_=>?_) (λb=>absurd oM b);refine clause_spec R oM oM λv4 T j a6=>?_;have p:=R.ext j;refine resolve_spec p g r hi a6 hc (λb d=>by have:=m b d;have:=j.size;omega) λU y=>?_;rw[f] at o;exact o U (y.ext (D.trans j))
 .rw[I,Gw,Gw] at e;obtain⟨rfl,rfl,rfl⟩:=e;rw[V0] at hi;rw[q0 oM,Q1 oM] at f;refine zb (λb=>absurd b oM) (λ_=>zb (λ_=>?_) (λb=>absurd oM b));obtain⟨a7,a8⟩:=unit_mem hu;have d:=satOk.bnd g r (atM_mem (s:=s) hi) a7;refine assign_spec R d.1 d.2 a8 m λσ' T p L a0=>?_;rw[f] at o;refine o T (StepTo.ext ⟨Fr,σ',p,L,a0,λb d=> .inl d,λb d=>?_⟩ D);have:=m b d;have:=L.size;omega
 .rw[I,Gw,Gw] at e;obtain⟨rfl,rfl,rfl⟩:=e;rw[q0 oM,q0 oM] at f;refine zb (λb=>absurd b oM) (λ_=>zb (λb=>absurd b oM) (λ_=>?_));refine zd λT j _=>?_;have p:=R.ext j;have V:=D.trans j;have a4:Ints _ T σ.vp s.put:=p.tr.rp.ints;simp only[push_cast,p.blk.ld0,p.blk.ld2,p.tr.blk.ld0,a4.len,k6];refine zb (λb=>?_) (λb=>?_)
  .rw[Q1 oM] at f;refine p.setCode λU y a5 aj=>?_;rw[f] at o;refine o U (StepTo.ext ⟨Fr,σ,y,a5,λb d=> .inl d,λb d=> .inl d,λb d=>?_⟩ V);have:=q b d;have:=V.size;omega
  .rw[q0 oM] at f;obtain⟨f1,f2,f3,f4⟩:=free_spec g.mks oM;refine vloop_up (ZF many s.put-1) (λi u w'=>u=[nI (i+1:Nat)]/\Ext w w') ⟨rfl,V⟩ ?_;rintro i _ _ U C hi ⟨rfl,S⟩ hC;have y:=h.ext S;simp only[push_cast,y.blk.ld2];refine assigned_spec y.tr oM λw6 t=>?_;rw[show((i:Int)+1).natAbs=i+1 from by omega];refine zb (λQ=>?_) (λQ=>?_)
   .have a2:i<ZF many s.put-1:=by
     refine GS λae=>?_;have:i+1=ZF many s.put:=oM;rw[this] at Q;exact Q f3
    simp(disch:=omega) only[push_cast,zj];exact hC a2 _ _ ⟨by simp,S.trans t⟩
   .have aa:i+1=ZF many s.put:=by
     refine GS λaf=>Q (f4 _ oM oM)
    have e1:IntKind.i64.wrap (0-((i:Int)+1))= -(ZF many s.put:Int):=by rw[zj oM oM];omega
    rw[e1];have h6:=y.ext t;have v:∀b,Fr b->b<w6.heap.size:=λb d=>by have:=q b d;have:=(S.trans t).size;omega
    refine assign_spec h6 (neg_ne f1) (by rw[G2,pM];exact f2) (by rw[G2,pM];exact f3) v λσ' w7 h7 M a1=>?_;rw[f] at o;refine o w7 (StepTo.ext ⟨Fr,σ',h7,M,a1,λb d=> .inl d,λb d=>?_⟩ (S.trans t));have:=v b d;have:=M.size;omega
end
section
variable {w:World} {K:oK} {F Fr:oA} {many bs:Nat} {c:Cnf} {s:Sat} {σ:SV} {N:Nat}
theorem run_spec {v:Value} {n:Nat} (hc:CnfR F w v c) (z:cnfOk c=true) (d:c.many=many) (hn:n<=4000)
  (X:∀Fr bs σ w',Ext w w'->SR w.heap.size Fr w' bs many c (runM many c n emptyS) σ->(∀b,σ.foot bs b->w.heap.size<=b)->(∀b,Fr b->F b\/w.heap.size<=b)->(∀b,Fr b->b<w'.heap.size)->K (oP bs 0) w'):
  vcall qj0 #[v,nI n] w K:=by
 refine ze {loops:=[(3,[13])]} Tryz.func215 ?_;obtain⟨lv,rfl,R⟩:=hc;have s:many<=700:=by
  have:=z;unfold cnfOk at this;simp only[gh,V1] at this;omega
 refine ym λb1 w1 Y J a6 G=>?_;refine zd λw2 m _=>?_;have D:Blk w2 b1 [nI c.many,lv] zq:=G.ext m;rw[D.ldAgg zD];simp only[push_cast,D.ld0,k6];rw[d];have a7:=m.size;refine newTrail_spec (Fr:=λb=>F b/\b<w.heap.size) s (λb l=>by have:=l.2;omega) λbt vp vpl vl w3 o g L=>?_;have S:=D.ext o;rw[S.ldAgg zD,d];simp only[k6];refine Ym zn0 (us:=[[nI many,lv],[oP bt 0]]) rfl rfl ?_;refine⟨rfl,?_⟩;refine ym λbs A Z t a9 H=>?_;have B:Ext w A:=J.trans (m.trans (o.trans t));have a8:=o.size;have M:=g.ext t;have a0:=(R.ext B).weaken (F':=λb=>F b) λb h _=>h;have y:Lists (λb=>F b/\b<w.heap.size) A lv c.list:=(R.weaken (F':=λb=>F b/\b<w.heap.size) λb T U=>⟨T,U⟩).ext B;have N:∀x,Z0 bt vp vpl vl x->x<w3.heap.size:=by
  rintro x (rfl|e|e|e)
  .exact g.blk.lt
  .exact g.rp.lt e
  .exact g.rpl.lt e
  .exact g.rl.lt e
 have p:∀x,(SV.mk lv bt vp vpl vl (oN) (oN) []).f3 bs x->x=bs:=by
  rintro x (e|e|e)
  .exact e
  .cases e
  .cases e
 have I:SR w.heap.size (λb=>F b/\b<w.heap.size) A bs many c emptyS (SV.mk lv bt vp vpl vl (oN) (oN) []):=
  ⟨H,d,y,M,OwnI.nil,OwnV.nil,rfl,RowsR.nil B.size,λx j=>(by cases j),λx j=>(by cases j),λx j=>(by cases j),
   λx j ht=>by have:=p x j;have:=N x ht;omega,λx j hF=>by have:=p x j;have:=hF.2;omega⟩
 have f:∀x,(SV.mk lv bt vp vpl vl (oN) (oN) []).foot bs x->w.heap.size<=x:=by
  rintro x (e|e)
  .have:=L x e;omega
  .have:=p x e;omega
 have k:∀q,StepTo w.heap.size (λb=>F b/\b<w.heap.size) A bs many c (runM many c n emptyS) (SV.mk lv bt vp vpl vl (oN) (oN) []) q->K (oP bs 0) q:=by
  rintro q ⟨E,O,r,a2,a3,a4,a5⟩;refine X E bs O q (B.then a2 f) r (λb l=>?_) (λb l=>?_) a5
  .rcases a3 b l with e|e
   .exact f b e
   .omega
  .rcases a4 b l with e|e
   .exact .inl e.1
   .exact .inr oM
 refine vloop_up n (λi u w'=>u=[nI i]/\StepTo w.heap.size (λb=>F b/\b<w.heap.size) A bs many c (runM many c i emptyS) (SV.mk lv bt vp vpl vl (oN) (oN) []) w') ⟨rfl,StepTo.refl I λb l=>by have:=l.2;omega⟩ ?_;rintro i _ _ q C hi ⟨rfl,Q⟩ W;refine oZ ?_;refine zb (λa=>?_) (λa=>?_)
 .obtain⟨E,O,r,a2,a3,a4,a5⟩:=Q;simp only[push_cast,r.blk.ld5];refine zb (λb=>?_) (λb=>?_)
  .refine k q ⟨E,O,?_,a2,a3,a4,a5⟩;have e:n=i+(n-i):=oM;rw[e,run_add,run_stop b];exact r
  .refine step_spec r (run_ok d (empty_ok z)) d a5 λw6 V=>?_;simp(disch:=omega) only[push_cast,zj];refine W oM _ _ ⟨by simp,StepTo.trans a2 a3 a4 (by rw[run_succ];exact V)⟩
 .have:n=i:=oM;subst this;exact k q Q
theorem ZR0:Vals F w (oN) []:=(OwnV.nil (t:=0)).vals.weaken λx a _=>by cases a
theorem ks0:Lists F w (oN) []:=⟨[],rfl,ZR0,λi hi=>absurd hi (by simp)⟩
theorem SatR.fields {v:Value} (h:SatR F w v s):∃p y l,v= .agg #[p,y,l,nI s.code]/\∀x,x∈[p,y,l,nI s.code]->x.oneCell'=true:=by
 obtain⟨p,y,l,rfl,c,d,ls,_,a,_⟩:=h;refine⟨p,y,l,rfl,λx b=>?_⟩;simp only[gj,gA,Gk] at b;rcases b with rfl|rfl|rfl|rfl
 .exact c.one
 .exact d.one
 .exact a.one
 .rfl
theorem CnfR.below {v:Value} (h:CnfR F w v c):CnfR (λb=>F b/\b<w.heap.size) w v c:=by
 obtain⟨lv,e,h⟩:=h;exact⟨lv,e,h.weaken λb a d=>⟨a,d⟩⟩
end
section
variable {w:World} {K:oK} {F Fr:oA} {many bs:Nat} {c:Cnf} {s:Sat} {σ:SV} {N:Nat}
def ZB (many:Nat) (put:oI):List Bool:=(List.range many).map λj=>decide (((j+1:Nat):Int)∈put)
theorem valsM_snoc {many:Nat} {put:oI} {l:Int} (a:Distinct (put++[l])) (g:l≠0):(ZB many put).set (l.natAbs-1) (decide (0<l))=ZB many (put++[l]):=by
 refine gZ (by simp[ZB]) λi d f=>?_;rw[pI];simp only[ZB,Pq,pA];have b:∀x,x∈put->x.natAbs≠l.natAbs:=by
  unfold Distinct at a;rw[gD,Gv] at a;exact λx c e=>a.2.2 _ (Gd c) _ (by simp) e
 by_cases hi:l.natAbs-1=i
 .rw[Q1 hi];refine decide_eq_decide.2 ⟨λh=>GH _ (by rw[gx];omega),λh=>?_⟩;rcases gm.1 h with h|h
  .exact absurd oM (b _ h)
  .rw[gx] at h;omega
 .rw[q0 hi];refine decide_eq_decide.2 ⟨λh=>gQ _ h,λh=>?_⟩;rcases gm.1 h with h|h
  .exact h
  .rw[gx] at h;omega
theorem vals_spec (h:SR N Fr w bs many c s σ) (B:∀w' v,Ext w w'->OwnB qy w' v (ZB many s.put)->(∀x,v.ownBlock=some x->w.heap.size<=x)->K v w'):vcall XS #[oP bs 0] w K:=by
 refine ze {loops:=[(3,[20])]} Tryz.func217 ?_;have E:=h.tr.few;have z:=h.tr.few';simp only[push_cast,h.blk.ld0];refine vmkS_own (bs:=1) jG0 zg0 qW0 rfl oM oM λv1 w1 t e f=>?_;have m:=h.ext e;have o:Ints _ w1 σ.vp s.put:=m.tr.rp.ints;simp only[push_cast,m.blk.ld2,m.tr.blk.ld0,o.len];have r:OwnB qy w1 v1 (ZB many []):=by
  have:ZB many []=List.replicate many false:=gZ (by simp[ZB]) λi a b=>(by simp[ZB]);rw[this];unfold OwnB;rw[GO];exact t
 refine vloop_up s.put.length (λi u w'=>u=[nI i]/\Ext w w'/\OwnB qy w' v1 (ZB many (s.put.take i))) ⟨rfl,e,r⟩ ?_;rintro i _ _ w2 C hi ⟨rfl,he,l⟩ A;refine oZ ?_;refine zb (λa=>?_) (λa=>?_)
 .have g:Ints _ w2 σ.vp s.put:=(h.ext he).tr.rp.ints;simp(disch:=exact oS) only[push_cast,g.iaddr,g.load];have D:=h.tr.bnd _ (getD_meS (show i<s.put.length by omega));have G:(ZB many (s.put.take i)).length=many:=(by simp[ZB]);refine variable_spec oM oM ?_;obtain⟨q,F⟩:∃q,(s.put.getD i 0).natAbs=q+1:=⟨(s.put.getD i 0).natAbs-1,oM⟩;rw[F,show(((q+1:Nat):Int))=(q:Int)+1 from rfl];have n:=l.bools;simp(disch:=exact oS) only[Zd,Int.add_sub_cancel,push_cast,zj,n.iaddr];refine l.st qX0 oM λJ k p I=>?_;have j:(ZB many (s.put.take i)).set q (decide (0<s.put.getD i 0))=ZB many (s.put.take (i+1)):=by
   have y:=distinct_take h.tr.dis (i+1);rw[JS (d:=0) oM] at y⊢;rw[<-valsM_snoc y D.1,show q=(s.put.getD i 0).natAbs-1 from by omega]
  rw[j] at k;exact A oM _ _ ⟨by simp,Ext.then he p λx H=>by have:=f x H;omega,k⟩
 .rw[gC oM] at l;exact B w2 v1 he l f
end
end Go.Proofs.YtfnpmncplaibiaaGreatDoor
namespace Go.Vc
open Go Go.M
section
variable {w w':World} {K:oK} {F:oA} {k:Nat} {v tv dv mv:Value} {xs:List (List Value)} {t:TypeId} {ts:List Tm} {ds:List Dcl}
theorem Sl.mid (h:Sl F w k v xs) (z:elB t k=true) {a b:Nat} (r:a<=b) (q:b<=xs.length):
  ∃v1,(∀(n p:IntKind) (w':World) (K:oK),xd t v (some (.int n a)) (some (.int p b)) none w' K=K v1 w')/\Sl F w k v1 ((xs.drop a).take (b-a)):=by
 obtain⟨hu,hs⟩:=X5 z;obtain⟨o,c,rfl,B,s,d⟩:=h.shape;refine⟨sliced o a b c k,λn p w' K=>yb ?_,?_⟩
 .rw[run_sliceAt_slice w' t _ _ _ _ hu,run_slice_lh w' t _ _ _ hu n p a b oM oM oM,Go.Vc.run_sizeOf hs];simp[Result.andThen]
 .have f:((xs.drop a).take (b-a)).length=b-a:=by rw[gg,G7];omega
  refine⟨⟨_,c-a,by rw[f];rfl,by rw[f];omega,oM,λm=>?_⟩,λx A=>h.wide x (GZ (gO A))⟩;have y:a<b:=Nat.lt_of_not_le λe=>m (gK (by rw[f];omega));obtain⟨g,j,rfl,hF,u,l⟩:=d (λe=>by rw[e] at q;simp at q;omega);rw[q0 oM];refine⟨g,j+a*k,by simp[yq],hF,u,λi hi=>?_⟩;rw[f] at hi;have:=l (a+i) oM;have e:((xs.drop a).take (b-a)).getD i []=xs.getD (a+i) []:=by
   rw[take_getD hi,X0,pw,<-X0]
  rw[e,show j+a*k+i*k=j+(a+i)*k by rw[pa];omega];exact this
theorem TmsR.mid (h:TmsR F w v ts) (j:elB t 5=true) {a b:Nat} (d:a<=b) (g:b<=ts.length):
  ∃v1,(∀(k m:IntKind) (w':World) (K:oK),xd t v (some (.int k a)) (some (.int m b)) none w' K=K v1 w')/\TmsR F w v1 ((ts.drop a).take (b-a)):=by
 obtain⟨css,g1,g2,g3⟩:=h;obtain⟨v1,e,f⟩:=Sl.mid g1 j d (by rw[g2];exact g);refine⟨v1,e,_,f,by simp[g2],λi hi=>?_⟩;have c:i<b-a:=by rw[gg] at hi;omega
 rw[take_getD c,take_getD c,X0,pw,<-X0,X0 (l:=ts.drop a),pw,<-X0];exact g3 _ (by rw[gg,G7] at hi;omega)
theorem DclsR.one (h:DclsR F w dv ds):dv.oneCell'=true:=by
 obtain⟨a,c,rfl,_⟩:=h.shape;rfl
theorem DclsR.cellsV (h:DclsR F w dv ds):dv.cells= #[dv]:=by
 obtain⟨a,c,rfl,_⟩:=h.shape;rfl
theorem TmsR.one (h:TmsR F w tv ts):tv.oneCell'=true:=by
 obtain⟨_,h,_⟩:=h;obtain⟨a,c,rfl,_⟩:=h.shape;rfl
theorem TmsR.cellsV (h:TmsR F w tv ts):tv.cells= #[tv]:=by
 obtain⟨_,h,_⟩:=h;obtain⟨a,c,rfl,_⟩:=h.shape;rfl
theorem PairsR.one {xs:List (Int×Int)} (h:PairsR F w mv xs):mv.oneCell'=true:=by
 obtain⟨a,c,rfl,_⟩:=h.shape;rfl
theorem PairsR.cellsV {xs:List (Int×Int)} (h:PairsR F w mv xs):mv.cells= #[mv]:=by
 obtain⟨a,c,rfl,_⟩:=h.shape;rfl
end
end Go.Vc
namespace Go.M
open Go.Vc
section
abbrev Lay:=List Dcl×List Tm
def decL (c:List Lay):List Dcl:=(c.map (·.1)).flatten
def terL (c:List Lay):List Tm:=(c.map (·.2)).flatten
def Xm0 (c:List Lay) (i:Nat):Bool:=(c.getD i ([],[])).2.all λt=>decide (tsort (decL (c.take (i+1))) t=0)
def ctxOk (c:List Lay):Bool:=decide (1<=c.length)&&decide (c.length<=6)&&declOk (decL c)&&decide ((terL c).length<=8)&&(List.range c.length).all λi=>Xm0 c i
def addD (c:List Lay) (d:Dcl):List Lay:=c.set (c.length-1) ((c.getD (c.length-1) ([],[])).1++[d],(c.getD (c.length-1) ([],[])).2)
def addT (c:List Lay) (t:Tm):List Lay:=c.set (c.length-1) ((c.getD (c.length-1) ([],[])).1,(c.getD (c.length-1) ([],[])).2++[t])
section
variable {c:List Lay} {d:Dcl} {t:Tm} {l:Lay} {ds es:List Dcl} {i:Nat}
theorem ctx_iff:ctxOk c=true↔1<=c.length/\c.length<=6/\declOk (decL c)=true/\(terL c).length<=8/\∀i,i<c.length->∀t,t∈(c.getD i ([],[])).2->tsort (decL (c.take (i+1))) t=0:=by
 simp only[ctxOk,Xm0,gh,gP,gI,V1,and_assoc]
theorem decL_app (c b:List Lay):decL (c++b)=decL c++decL b:=by unfold decL;grind
theorem terL_app (c b:List Lay):terL (c++b)=terL c++terL b:=by unfold terL;grind
theorem decL_one (l:Lay):decL [l]=l.1:=by simp[decL]
theorem terL_one (l:Lay):terL [l]=l.2:=by simp[terL]
theorem lay_take (h:i<c.length):c.take (i+1)=c.take i++[c.getD i ([],[])]:=take_add h _
theorem decL_take (h:i<c.length):decL (c.take (i+1))=decL (c.take i)++(c.getD i ([],[])).1:=by rw[lay_take h,decL_app,decL_one]
theorem terL_take (h:i<c.length):terL (c.take (i+1))=terL (c.take i)++(c.getD i ([],[])).2:=by rw[lay_take h,terL_app,terL_one]
theorem decL_split (c:List Lay) (i:Nat):decL c=decL (c.take i)++decL (c.drop i):=by rw[<-decL_app,GN]
theorem terL_split (c:List Lay) (i:Nat):terL c=terL (c.take i)++terL (c.drop i):=by rw[<-terL_app,GN]
theorem decL_pre (c:List Lay) (i:Nat):(decL c).take (decL (c.take i)).length=decL (c.take i):=by rw[decL_split c i,List.take_left'];rfl
theorem lay_drop (h:i<c.length):c.drop i=c.getD i ([],[])::c.drop (i+1):=by
 simp_all
theorem terL_mid (h:i<c.length):((terL c).drop (terL (c.take i)).length).take ((terL (c.take (i+1))).length-(terL (c.take i)).length)=(c.getD i ([],[])).2:=by
 rw[terL_take h,V0,Nat.add_sub_cancel_left,terL_split c i,List.drop_left',lay_drop h]
 .show List.take _ (((c.getD i ([],[])).2::((c.drop (i+1)).map (·.2))).flatten)=_
  grind
 .rfl
theorem decL_le (h:i<=c.length):(decL (c.take i)).length<=(decL c).length:=by grind [decL_split]
theorem terL_le (h:i<=c.length):(terL (c.take i)).length<=(terL c).length:=by grind [terL_split]
def markL (c:List Lay):List (Int×Int):=(List.range c.length).map λi=>(((decL (c.take (i+1))).length:Int),((terL (c.take (i+1))).length:Int))
theorem markL_len:(markL c).length=c.length:=by simp[markL]
theorem markL_get (h:i<c.length):(markL c).getD i (0,0)=(((decL (c.take (i+1))).length:Int),((terL (c.take (i+1))).length:Int)):=by
 grind [markL]
theorem markL_snoc (c:List Lay) (l:Lay):markL (c++[l])=markL c++[(((decL (c++[l])).length:Int),((terL (c++[l])).length:Int))]:=by
 unfold markL;rw[V0,gG,Pu,gD]
 grind [List.map_congr_left]
theorem Ya {c:List Lay} (h:c≠[]):∃b l,c=b++[l]:=⟨_,_,(List.dropLast_concat_getLast h).symm⟩
theorem addD_snoc (c:List Lay) (l:Lay) (d:Dcl):addD (c++[l]) d=c++[(l.1++[d],l.2)]:=by
 grind [addD]
theorem addT_snoc (c:List Lay) (l:Lay) (t:Tm):addT (c++[l]) t=c++[(l.1,l.2++[t])]:=by
 grind [addT]
theorem addD_decL (h:c≠[]):decL (addD c d)=decL c++[d]:=by
 obtain⟨b,l,rfl⟩:=Ya h;rw[addD_snoc];simp[decL]
theorem addD_terL (h:c≠[]):terL (addD c d)=terL c:=by
 obtain⟨b,l,rfl⟩:=Ya h;rw[addD_snoc];simp[terL]
theorem addT_decL (h:c≠[]):decL (addT c t)=decL c:=by
 obtain⟨b,l,rfl⟩:=Ya h;rw[addT_snoc];simp[decL]
theorem kp0 (h:c≠[]):terL (addT c t)=terL c++[t]:=by
 obtain⟨b,l,rfl⟩:=Ya h;rw[addT_snoc];simp[terL]
theorem addD_len:(addD c d).length=c.length:=by unfold addD;grind
theorem addT_len:(addT c t).length=c.length:=by unfold addT;grind
theorem less_app:∀{es ds:List Dcl},declOk (ds++es)=true->declOk ds=true
 |[],_,h=>by grind
 |e::es,ds,h=>decl_less (less_app (ds:=ds++[e]) (es:=es) (by grind))
theorem sort_app:∀{es ds:List Dcl} {t:Tm},declOk (ds++es)=true->sortM ds t≠ -1->sortM (ds++es) t=sortM ds t
 |[],_,_,_,_=>by simp
 |e::es,ds,t,h,hs=>by
  have a:declOk ((ds++[e])++es)=true:=(by grind);have b:=more_sort (less_app a) t hs;have c:=sort_app a (t:=t) oM
  grind
theorem tsort0:tsort ds t=0↔fits t=true/\declOk ds=true/\sortM ds t=0:=by
 grind [tsort]
theorem tsort_app (h:declOk (ds++es)=true) (hs:tsort ds t=0):tsort (ds++es) t=0:=by
 grind [tsort0,sort_app]
theorem ctx_terms (h:ctxOk c=true):∀t,t∈terL c->tsort (decL c) t=0:=by
 obtain⟨j,k,d,m,e⟩:=ctx_iff.1 h;intro t g;obtain⟨ts,b,a⟩:=PX.1 g;obtain⟨l,f,rfl⟩:=gu.1 b;obtain⟨i,hi,rfl⟩:=gr f;have hs:=e i hi t (by rw[X0,gk hi];exact a);rw[decL_split c (i+1)];exact tsort_app (by rw[<-decL_split];exact d) hs
theorem ctx_addT (h:ctxOk c=true):ctxOk (addT c t)=(decide (tsort (decL c) t=0)&&decide ((terL c).length<8)):=by
 obtain⟨j,k,m,o,g⟩:=ctx_iff.1 h;have a:c≠[]:=by grind
 rw[Pv,ctx_iff,gh,V1,V1,addT_len,addT_decL a,kp0 a,V0,gG];obtain⟨b,l,rfl⟩:=Ya a;rw[addT_snoc];have p:(b++[l]).length=b.length+1:=by simp
 constructor
 .rintro⟨_,_,_,g4,g5⟩;refine⟨?_,oM⟩;have:=g5 b.length oM t (by simp[X0]);rw[gC (by simp)] at this;simpa[decL] using this
 .rintro⟨g1,g2⟩;refine⟨j,k,m,oM,λi hi u hu=>?_⟩;by_cases f:i<b.length
  .rw[app_getD f] at hu;have:=g i hi u (by rw[app_getD f];exact hu);rw[GL oM] at this⊢;exact this
  .have e:i=b.length:=oM;subst e;rw[gC (by simp)];have n:decL (b++[(l.1,l.2++[t])])=decL (b++[l]):=(by simp[decL]);rw[n];have d:u∈l.2\/u=t:=(by grind);rcases d with d|rfl
   .have:=g b.length hi u (by simpa[X0] using d);rwa[gC (by simp)] at this
   .exact g1
end
end
end Go.M
namespace Go.Proofs.YtfnpmncplaibiaaGreatDoor
open Go Go.Vc Go.Proofs
section
variable {w w':World} {K:oK} {F F' F2 H H2 S:oA} {k:Nat} {v uv tv dv:Value} {t:TypeId} {ts us:List M.Tm} {ds es:List M.Dcl}
def LstH (H:oA) (w:World) (tv:Value) (ts:List M.Tm):Prop:= ∃css,Own 0 5 zl w tv css/\css.length=ts.length/\∀i,i<ts.length->TmR H w (css.getD i []) (ts.getD i default)
theorem LstH.nil:LstH H w (oN) []:=⟨[],Own.nil 0 5 _ w,rfl,λi hi=>absurd hi (pD _)⟩
theorem LstH.lt (h:LstH H w tv ts) {b:Nat} (a:tv.ownBlock=some b):b<w.heap.size:=by obtain⟨_,c,_⟩:=h;exact(c.lt a).2
theorem LstH.same (h:LstH H w tv ts) (hw:Same S w w') (b:∀x,tv.ownBlock=some x->¬S x) (c:∀x,H x->x<w.heap.size->¬S x):LstH H w' tv ts:=by
 obtain⟨css,e,d,hi⟩:=h;exact⟨css,e.same hw b,d,λi a=>(hi i a).same hw c⟩
theorem LstH.ext (h:LstH H w tv ts) (hw:Ext w w'):LstH H w' tv ts:=h.same hw (λ_ _ h=>h) λ_ _ _ h=>h
theorem LstH.weaken (h:LstH H w tv ts) (c:∀b,H b->b<w.heap.size->F b):LstH F w tv ts:=by
 obtain⟨css,e,d,hi⟩:=h;exact⟨css,e,d,λi a=>(hi i a).weaken c⟩
theorem LstH.tms (h:LstH H w tv ts):TmsR (λx=>H x\/tv.ownBlock=some x) w tv ts:=by
 obtain⟨css,d,c,hi⟩:=h;exact⟨css,d.sl.weaken λx b _=> .inr b,c,λi a=>(hi i a).weaken λx b _=> .inl b⟩
theorem Zv {α:Type} {l r:List α} {i:Nat} {e:α} (h:l.length<=i):(l++r).getD i e=r.getD (i-l.length) e:=by
 rw[X0,GJ h,<-X0]
theorem LstH.app {ty:Nat} {c:List (List Value)} (h:LstH H w tv ts) (o:∀x,tv.ownBlock=some x->¬H x/\¬H2 x) (hu:Sl F2 w 5 uv c) (j:c.length=us.length) (g:∀i,i<us.length->TmR H2 w (c.getD i []) (us.getD i default))
  (r:ts.length+us.length<=1000000000)
  (p:∀w' b,Same (λx=>tv.ownBlock=some x) w w'->(∀x,b.ownBlock=some x->tv.ownBlock=some x\/w.heap.size<=x)->LstH (λx=>(H x\/H2 x)/\x<w.heap.size) w' b (ts++us)->K b w'):
  vbi .append [zl,zl] ty [tv,uv] w K:=by
 obtain⟨css,q,f,hi⟩:=h;refine vappend kJ dC q hu (one_tms j g) (gY _) oM oM λb w2 m d l=>p w2 b d l ⟨css++c,m,by simp[f,j],λi k=>?_⟩;rw[V0] at k;by_cases n:i<ts.length
 .rw[M.app_getD oM,M.app_getD n];exact((hi i n).weaken (F':=λx=>(H x\/H2 x)/\x<w.heap.size/\H x) λx a f=>⟨.inl a,f,a⟩).same d (λx a _ e=>(o x e).1 a.2.2)|>.weaken λx a _=>⟨a.1,a.2.1⟩
 .rw[Zv oM,Zv oM,f];exact((g _ oM).weaken (F':=λx=>(H x\/H2 x)/\x<w.heap.size/\H2 x) λx a f=>⟨.inr a,f,a⟩).same d (λx a _ e=>(o x e).2 a.2.2)|>.weaken λx a _=>⟨a.1,a.2.1⟩
theorem LstH.push {ty:Nat} {t:M.Tm} (h:LstH H w tv ts) (m:∀x,tv.ownBlock=some x->¬H x/\¬H2 x) (q:TermR H2 w uv t) (p:ts.length<=2000000)
  (o:∀w' a,Same (λx=>tv.ownBlock=some x) w w'->(∀x,a.ownBlock=some x->tv.ownBlock=some x\/w.heap.size<=x)->LstH (λx=>(H x\/H2 x)/\x<w.heap.size) w' a (ts++[t])->K a w'):
  vbuildS zl 1 [(0,uv)] w λs w1=>vbi .append [zl,zl] ty [tv,s] w1 K:=by
 obtain⟨cs,rfl,f⟩:=q.cells;refine yL yr yJ zn rfl (zU f) dC λb w1 u d r g=>?_;have v:=d.size;refine LstH.app (H2:=λx=>H2 x/\x<w.heap.size) (us:=[t]) ((h.weaken (F:=λx=>H x/\x<w.heap.size) λx c j=>⟨c,j⟩).ext d) (λx c=>⟨λe=>(m x c).1 e.1,λe=>(m x c).2 e.1⟩) (g.sl1k (zU f)) rfl (λi hi=>?_) (by simp;omega) λw2 a l k n=>?_
 .have:i=0:=(by simpa using hi);subst this;exact(f.weaken λx c j=>⟨c,j⟩).ext d
 .refine o w2 a ((Same.of_ext d).trans l) (λx c=>(k x c).imp id λh=>oM) (n.weaken λx c _=>?_);rcases c.1 with h|h
  .exact⟨.inl h.1,h.2⟩
  .exact⟨.inr h.1,h.2⟩
theorem OwnD.app {ty:Nat} (h:OwnD w dv ds) (hu:DclsR F w uv es) (j:ds.length+es.length<=1000000000)
  (i:∀w' a,Same (λx=>dv.ownBlock=some x) w w'->(∀x,a.ownBlock=some x->dv.ownBlock=some x\/w.heap.size<=x)->OwnD w' a (ds++es)->K a w'):
  vbi .append [yD,yD] ty [dv,uv] w K:=by
 refine vappend yq0 dC h hu (λy k c g=>?_) (gY _) (by rw[K3,K3];omega) (by rw[K3,K3];omega) λa w2 e f b=>i w2 a f b (by unfold OwnD;rw[gD];exact e);obtain⟨d,_,rfl⟩:=gu.1 k;simp only[gj,gA,Gk] at g;rcases g with rfl|rfl<;>rfl
end
section
variable {w w':World} {K:oK} {F F' G S:oA} {n b:Nat} {v tv dv mv:Value} {t:TypeId} {ts us:List M.Tm} {ds:List M.Dcl} {ms:List (Int×Int)} {c:List M.Lay}
def LaysR (F:oA) (w:World) (v:Value) (c:List M.Lay):Prop:= ∃css:List (Value×Value),Sl F w 2 v (css.map λp=>[p.1,p.2])/\css.length=c.length/\∀i,i<c.length->DclsR F w (css.getD i (undef,undef)).1 (c.getD i ([],[])).1/\TmsR F w (css.getD i (undef,undef)).2 (c.getD i ([],[])).2
theorem LaysR.same (h:LaysR F w v c) (hw:Same S w w') (hs:∀b,F b->b<w.heap.size->¬S b):LaysR F w' v c:=by
 obtain⟨css,d,e,a⟩:=h;exact⟨css,d.same hw hs,e,λi hi=>⟨(a i hi).1.same hw hs,(a i hi).2.same hw hs⟩⟩
theorem LaysR.ext (h:LaysR F w v c) (hw:Ext w w'):LaysR F w' v c:=h.same hw λ_ _ _ h=>h
theorem LaysR.weaken (h:LaysR F w v c) (a:∀b,F b->b<w.heap.size->F' b):LaysR F' w v c:=by
 obtain⟨css,e,f,d⟩:=h;exact⟨css,e.weaken a,f,λi hi=>⟨(d i hi).1.weaken a,(d i hi).2.weaken a⟩⟩
theorem LaysR.len (h:LaysR F w v c) {t:TypeId} (d:isSl t=true) (ty:TypeId):vbi .len [t] ty [v] w' K=K (nI c.length) w':=by
 obtain⟨css,a,b,e⟩:=h;have:=Sl.len (K:=K) (w':=w') a d ty;rwa[K3,b] at this
theorem LaysR.iaddr (h:LaysR F w v c) {t:TypeId} (f:elB t 2=true) {kd:IntKind} {i:Int} (b:0<=i) (d:i<c.length):
  zX t v (.int kd i) w' K=K (oE (eaddr v 2 i.toNat)) w':=by
 obtain⟨css,a,e,g⟩:=h;exact Sl.iaddr a f b (by rw[K3,e];exact d)
theorem LaysR.load (h:LaysR F w v c) {t:TypeId} (e:aggB t 2=true) {i:Nat} (hi:i<c.length)
  (d:∀dv tv,DclsR F w dv (c.getD i ([],[])).1->TmsR F w tv (c.getD i ([],[])).2->K (.agg ⟨[dv,tv]⟩) w):zt t (oE (eaddr v 2 i)) w K:=by
 obtain⟨css,b,f,a⟩:=h;rw[b.ldAgg e (by rw[K3];omega),M.getD_map _ oM _ (undef,undef)];exact d _ _ (a i hi).1 (a i hi).2
theorem two_one {a b:Value} (d:a.oneCell'=true) (e:b.oneCell'=true):∀x,x∈[a,b]->x.oneCell'=true:=λx c=>by
 simp only[gj,gA,Gk] at c;rcases c with rfl|rfl<;>assumption
theorem Za0 {k:Nat} {xs:List (List Value)} (h:Own 0 k t w v xs):∀a l c,v= .slice (some a) l c->∃b o,a=⟨b,o,none⟩:=by
 rintro a l c e;rcases h.row.2 with⟨rfl,s⟩|⟨g,cap,cur,rfl,i,r,n,j,m,f⟩
 .cases e
 .injection e with d p q
  injection d with d
  exact⟨g,0,d.symm⟩
theorem Ys0 {k:Nat} {xs:List (List Value)} {a:TypeId} (h:Own 0 k t w v xs) (c:elB a k=true) {kd:IntKind} {n:Nat} (b:n<=xs.length):xd a v none (some (.int kd n)) none w' K=K (cutV v n) w':=Sl.cut h.sl (Za0 h) c b
structure CtxB (c:List M.Lay):Prop where
 len:c.length<=1048576
 dec:(M.decL c).length<=1048576
 ter:(M.terL c).length<=1048576
theorem ctxB_take (h:CtxB c) (i:Nat):CtxB (c.take i):=by
 have a:=congrArg List.length (M.decL_split c i);have b:=congrArg List.length (M.terL_split c i);rw[V0] at a b;exact⟨by have:=h.len;rw[gg];omega,by have:=h.dec;omega,by have:=h.ter;omega⟩
theorem ctxB_of (h:M.ctxOk c=true):CtxB c:=by
 obtain⟨b,d,a,e,f⟩:=M.ctx_iff.1 h;exact⟨oM,by have:=(M.decl_iff.1 a).1;omega,oM⟩
structure StkR (n:Nat) (w:World) (b:Nat) (dv tv mv:Value) (ds:List M.Dcl) (ts:List M.Tm) (ms:List (Int×Int)):Prop where
 blk:Blk w b [dv,tv,mv] xc
 dec:OwnD w dv ds
 ter:LstH (λx=>x<n) w tv ts
 mar:OwnP xH w mv ms
 new:n<=b
 nd:∀x,dv.ownBlock=some x->n<=x/\x≠b
 nt:∀x,tv.ownBlock=some x->n<=x/\x≠b/\dv.ownBlock≠some x
 nm:∀x,mv.ownBlock=some x->n<=x/\x≠b/\dv.ownBlock≠some x/\tv.ownBlock≠some x
theorem StkR.ext (h:StkR n w b dv tv mv ds ts ms) (hw:Ext w w'):StkR n w' b dv tv mv ds ts ms:=
 ⟨h.blk.ext hw,h.dec.ext hw,h.ter.ext hw,h.mar.ext hw,h.new,h.nd,h.nt,h.nm⟩
theorem kg0:ye xc [] w K=K (.agg ⟨[oN,oN,oN]⟩) w:=zE yH0 (us:=[]) rfl rfl
@[push_cast] theorem bd_mark (x y:Int):ye xJ [(0,nI x),(1,nI y)] w K=K (.agg ⟨[nI x,nI y]⟩) w:=zE xl0 (us:=[[nI x],[nI y]]) rfl rfl
theorem stackPush_spec (h:StkR n w b dv tv mv ds ts ms) (hs:ms.length<=2000000) (v:∀w' d,Same (λx=>n<=x) w w'->StkR n w' b dv tv d ds ts (ms++[((ds.length:Int),(ts.length:Int))])->K (.tuple #[]) w'):
  vcall QD #[oP b 0] w K:=by
 refine ze {} Tryz.func103 ?_;refine zd λw1 k _=>?_;have m:=h.ext k;simp only[push_cast,m.blk.ld0,m.blk.ld1,m.blk.ld2,m.dec.dcls.len,m.ter.tms.len,k6];refine yL zD0 yL0 J7 rfl rfl dC λb2 w2 z l A q=>?_;have c:=m.ext l;simp only[push_cast,c.blk.ld2,k6,gi];refine Own.app1k c.mar yp0 dC q rfl (two_one rfl rfl) (by rw[K3];omega) (by rw[K3];omega) λd C s g t=>?_;have b3:=c.blk.same g λe=>(c.nm b e).2.1 rfl;have f:OwnP xH C d (ms++[((ds.length:Int),(ts.length:Int))]):=by unfold OwnP;rw[gD];exact s
 refine b3.st (i:=2) f.pairs.cellsV f.pairs.one zx0 rfl λu j B r=>?_;have D:=k.size;have z2:=l.size;have hm:∀x,d.ownBlock=some x->mv.ownBlock=some x\/w2.heap.size<=x:=t;have ld:∀x,dv.ownBlock=some x->x<w2.heap.size:=λx a=>(c.dec.lt a).2;have lt:∀x,tv.ownBlock=some x->x<w2.heap.size:=λx a=>c.ter.lt a;have lb:=c.blk.lt;have o:∀x,d.ownBlock=some x->n<=x/\x≠b/\dv.ownBlock≠some x/\tv.ownBlock≠some x:=λx a=>by
  rcases hm x a with e|e
  .exact c.nm x e
  .exact⟨by have:=c.new;omega,oM,λp=>by have:=ld x p;omega,λp=>by have:=lt x p;omega⟩
 have y:Same (λx=>n<=x) w u:=(((Same.of_ext k).trans (Same.of_ext l)).trans (g.mono λx _ a=>(c.nm x a).1)).trans (j.mono λx _ a=>by subst a;exact h.new);refine v u d y ⟨r,(c.dec.same g λx a e=>(c.nm x e).2.2.1 a).same j λx a e=>(c.nd x a).2 e,(c.ter.same g (λx a e=>(c.nm x e).2.2.2 a) λx a _ e=>by have:=(c.nm x e).1;omega).same j (λx a e=>(c.nt x a).2.1 e) (λx a _ e=>by subst e;have:=c.new;omega),Own.same f j λx a e=>(o x a).2.1 e,h.new,h.nd,h.nt,o⟩
theorem flat_spec (hv:LaysR F w v c) (hb:CtxB c) (hK:∀w' b dv tv mv,Ext w w'->StkR w.heap.size w' b dv tv mv (M.decL c) (M.terL c) (M.markL c)->K (oP b 0) w'):vcall x90 #[v] w K:=by
 refine ze {loops:=[(3,[10])]} Tryz.func63 ?_;rw[kg0];refine zk λb w1 af E ah X=>?_;have z1:=E.size;have hlen:=hb.len;simp only[push_cast,(hv.ext E).len];have h1:StkR w.heap.size w1 b (oN) (oN) (oN) [] [] []:=⟨X,Own.nil 0 2 _ w1,LstH.nil,OwnP.nil _,oM,λx d=>(by cases d),λx d=>(by cases d),λx d=>(by cases d)⟩;refine vloop_up c.length (λi u w'=> ∃dv tv mv,u=[nI i]/\Ext w w'/\StkR w.heap.size w' b dv tv mv (M.decL (c.take i)) (M.terL (c.take i)) (M.markL (c.take i))) ⟨_,_,_,rfl,E,h1⟩ ?_;rintro i _ _ w2 C hi ⟨dv,tv,mv,rfl,G,f⟩ hC;refine oZ ?_;refine zb (λa=>?_) (λa=>?_)
 .have j:i<c.length:=oM;have Q:=(hv.weaken (F':=λx=>x<w.heap.size) λx _ h=>h).ext G;simp(disch:=exact oS) only[push_cast,Q.iaddr];refine Q.load kL j λld lt N O=>?_;refine zh qD λb3 w3 ag L ai Y=>?_;refine Y.stAgg (cs':=[ld,lt]) rfl kL (two_one N.one O.one) λw4 aa aj Z=>?_;refine zd λw5 H _=>?_;have z3:=L.size;have z5:=H.size;have r:Ext w2 w5:=(Ext.then L aa λy hy=>by subst hy;omega).trans H;have m:=f.ext r;have J:=Z.ext H;have bd:=ctxB_take hb (i+1);have b1:=bd.len;have b2:=bd.dec;have T:=bd.ter;rw[M.decL_take j,V0] at b2;rw[M.terL_take j,V0] at T;simp only[push_cast,m.blk.ld0,J.ld0,k6];refine OwnD.app m.dec (N.ext r) oM λw6 k n a7 B=>?_;have lb:=f.blk.lt;have ltv:∀x,tv.ownBlock=some x->x<w2.heap.size:=λx d=>f.ter.lt d;have lmv:∀x,mv.ownBlock=some x->x<w2.heap.size:=λx d=>(Own.lt f.mar d).2;have ldv:∀x,dv.ownBlock=some x->x<w2.heap.size:=λx d=>(Own.lt f.dec d).2;have nw:=f.new;have z25:=r.size;have z6:=n.size;have a0:=m.blk.same n λe=>(m.nd b e).2 rfl
  try simp only[push_cast,k6]
  refine a0.st (i:=0) B.dcls.cellsV B.dcls.one J9 rfl λw7 q ak a1=>?_;refine zd λS g _=>?_;have A:=a1.ext g;have q8:Blk S b3 [ld,lt] zW:=(((J.same n λe=>by have:=ldv _ e;omega).same q oM)).ext g;replace A:Blk S b [k,tv,mv] xc:=A;simp only[push_cast,A.ld1,q8.ld1,k6];have o:∀x,k.ownBlock=some x->w.heap.size<=x/\x≠b/\tv.ownBlock≠some x/\mv.ownBlock≠some x:=λx d=>by
   rcases a7 x d with e|e
   .exact⟨(f.nd x e).1,(f.nd x e).2,λl=>(f.nt x l).2.2 e,λl=>(f.nm x l).2.2.1 e⟩
   .exact⟨oM,oM,λl=>by have:=ltv x l;omega,λl=>by have:=lmv x l;omega⟩
  have t8:LstH (λx=>x<w.heap.size) S tv (M.terL (c.take i)):=((m.ter.same n (λx d e=>(m.nt x d).2.2 e) λx d _ e=>by have:=(m.nd x e).1;omega).same q (λx d e=>(m.nt x d).2.1 e) λx d _ e=>oM).ext g;have ab:TmsR (λx=>x<w.heap.size) S lt (c.getD i ([],[])).2:=(((O.ext r).same n λx d _ e=>by have:=(m.nd x e).1;omega).same q λx d _ e=>oM).ext g;obtain⟨ae,a9,a6,a3⟩:=ab;refine LstH.app t8 (λx d=>⟨λe=>by have:=(f.nt x d).1;omega,λe=>by have:=(f.nt x d).1;omega⟩) a9 a6 a3 oM λw9 D t a8 I=>?_;have z8:=g.size;have z9:=t.size;have a2:=A.same t λe=>(f.nt b e).2.1 rfl
  try simp only[push_cast,k6]
  refine a2.st (i:=1) I.tms.cellsV I.tms.one xk rfl λw10 p ad s=>?_;replace s:Blk w10 b [k,D,mv] xc:=s;have d10:=(((B.same q λx d e=>(o x d).2.1 e).ext g).same t λx d e=>(o x d).2.2.1 e).same p λx d e=>(o x d).2.1 e;have m10:OwnP xH w10 mv (M.markL (c.take i)):=((((Own.same m.mar n λx d e=>(m.nm x d).2.2.1 e).same q λx d e=>(m.nm x d).2.1 e).ext g).same t λx d e=>(m.nm x d).2.2.2 e).same p λx d e=>(m.nm x d).2.1 e;have ld6:∀x,k.ownBlock=some x->x<S.heap.size:=λx d=>by have:=(B.lt d).2;omega
  have z:∀x,D.ownBlock=some x->w.heap.size<=x/\x≠b/\k.ownBlock≠some x/\mv.ownBlock≠some x:=λx d=>by
   rcases a8 x d with e|e
   .exact⟨(f.nt x e).1,(f.nt x e).2.1,λl=>(o x l).2.2.1 e,λl=>(f.nm x l).2.2.2 e⟩
   .exact⟨oM,oM,λl=>by have:=ld6 x l;omega,λl=>by have:=lmv x l;omega⟩
  have V:StkR w.heap.size w10 b k D mv (M.decL (c.take (i+1))) (M.terL (c.take (i+1))) (M.markL (c.take i)):=by
   rw[M.decL_take j,M.terL_take j];exact⟨s,d10,((I.weaken (F:=λx=>x<w.heap.size) λx d _=>d.1.elim id id).same p (λx d e=>(z x d).2.1 e) λx d _ e=>oM),m10,nw,λx d=>⟨(o x d).1,(o x d).2.1⟩,λx d=>⟨(z x d).1,(z x d).2.1,(z x d).2.2.1⟩,λx d=>⟨(f.nm x d).1,(f.nm x d).2.1,λe=>(o x e).2.2.2 d,λe=>(z x e).2.2.2 d⟩⟩
  have a5:=b1;rw[gg] at a5;refine stackPush_spec V (by rw[M.markL_len,gg];omega) λal ac R W=>?_
  try simp only[push_cast]
  rw[inc64' oM];have U:Ext w w10:=by
   have s1:Same (λx=>w.heap.size<=x) w5 w10:=(((n.mono λx _ d=>(m.nd x d).1).trans (q.mono λx _ d=>oM)).trans (Same.of_ext g)).trans ((t.mono λx _ d=>(f.nt x d).1).trans (p.mono λx _ d=>oM));exact Ext.then (G.trans r) s1 λx d=>d
  refine hC j _ _ ⟨k,D,ac,rfl,Ext.then U R λx d=>d,?_⟩;rw[M.lay_take j,M.markL_snoc,<-M.lay_take j];exact W
 .have a4:i=c.length:=oM;subst a4;rw[gB] at f;exact hK _ _ _ _ _ G f
end
section
variable {w w':World} {K:oK} {F G H S:oA} {n b:Nat} {v lv tv dv mv:Value} {t:TypeId} {ts:List M.Tm} {ds:List M.Dcl} {c:List M.Lay}
theorem copyTerms_spec (D:TmsR F w tv ts) (L:∀t,t∈ts->jS0 t=true) (hs:ts.length<=1000)
  (I:∀w' v',Ext w w'->TmsR (λx=>w.heap.size<=x) w' v' ts->K v' w'):vcall Js #[tv] w K:=by
 refine ze {loops:=[(3,[3,8])]} Tryz.func70 ?_;simp only[push_cast,D.len];refine vloop_up ts.length (λi u w'=> ∃lv H,u=[lv,nI i]/\Ext w w'/\LstH H w' lv (ts.take i)/\(∀x,H x->w.heap.size<=x)/\∀x,lv.ownBlock=some x->w.heap.size<=x/\¬H x) ⟨_,λ_=>False,rfl,Same.refl _ _,LstH.nil,λx b=>b.elim,λx b=>(by cases b)⟩ ?_;rintro i _ _ w2 C hi ⟨lv,H,rfl,c,f,hH,hO⟩ G
 try simp only[push_cast]
 refine zb (λa=>?_) (λa=>?_)
 .have d:i<ts.length:=oM;have o:=D.ext c;simp(disch:=exact oS) only[push_cast,o.iaddr];refine o.load zc d λx b=>?_;obtain⟨cs,rfl,j⟩:=b.cells;refine zh zn λb3 S J l O p=>?_;refine stTerm p rfl (j.ext l) λR z Q q=>?_;have g:Ext w2 R:=Ext.then l z λy N=>by subst N;omega
  rw[q.ldAgg (t:=za) (by rw[zU j];exact zc)];refine copyTerm_spec _ (j.ext g).term (L _ (M.getD_mem d _)) λT E m v=>?_;have k:=g.trans m;have z24:=g.size;have z5:=m.size;have z2:=c.size;have llt:∀x,lv.ownBlock=some x->x<w2.heap.size:=λx b=>f.lt b;refine LstH.push (f.ext k) (λx b=>⟨(hO x b).2,λe=>by have:=llt x b;omega⟩) (WF _ v).term (by rw[gg];omega) λU B A s n=>?_;rw[inc64' oM];refine G d _ _ ⟨B,_,rfl,Ext.then (c.trans k) A λx b=>(hO x b).1,by rw[Z2 d] at n;exact n,λx b=>?_,λx b=>?_⟩
  .rcases b.1 with h|h
   .exact hH x h
   .have:=h.1;omega
  .rcases s x b with e|e
   .refine⟨(hO x e).1,λh=>?_⟩;have:=llt x e;rcases h.1 with h|h
    .exact(hO x e).2 h
    .have:=h.1;omega
   .exact⟨oM,λh=>by have:=h.2;omega⟩
 .have r:i=ts.length:=oM;subst r;rw[gB] at f;exact I _ _ c (f.tms.weaken λx b _=>b.elim (hH x) λh=>(hO x h).1)
theorem ok_spec (h:StkR n w b dv tv mv (M.decL c) (M.terL c) (M.markL c)) (hb:CtxB c) (hK:∀w',Ext w w'->K (.bool (M.ctxOk c)) w'):vcall Kj #[oP b 0] w K:=by
 refine ze {loops:=[(5,[3,43]),(8,[56])],cuts:=[(8195,[])]} Tryz.func64 ?_;have hlen:=hb.len;have no:∀w',Ext w w'->M.ctxOk c≠true->K (.bool false) w':=λw' he hn=>by
  have:=hK w' he;rwa[P3 _|>.mp hn] at this
 have hm:=h.mar.pairs;refine zp (λu w'=>u=[]/\Ext w w'/\1<=c.length/\c.length<=6/\M.declOk (M.decL c)=true/\(M.terL c).length<=8) (λJ hJ=>?_) ?_
 .simp only[push_cast,h.blk.ld2,hm.len,M.markL_len];refine zb (λQ=>no _ (Same.refl _ _) λe=>by have:=(M.ctx_iff.1 e).1;omega) (λQ=>?_);refine zb (λa2=>no _ (Same.refl _ _) λe=>by have:=(M.ctx_iff.1 e).2.1;omega) (λa2=>?_);simp only[push_cast,h.blk.ld0];refine DeclOk_spec h.dec.dcls λw1 d=>?_
  try simp only[push_cast]
  refine zm (λa3=>no _ d λe=>by rw[(M.ctx_iff.1 e).2.2.1] at a3;cases a3) (λa3=>?_);have O:=h.ext d;simp only[push_cast,O.blk.ld1,O.ter.tms.len];refine zb (λa4=>no _ d λe=>by have:=(M.ctx_iff.1 e).2.2.2.1;omega) (λa4=>?_);exact hJ _ _ ⟨rfl,d,oM,oM,by simpa using a3,oM⟩
 rintro _ _ w1 ⟨rfl,d,Q,a2,a3,a4⟩;have O:=h.ext d;simp only[push_cast,O.blk.ld2,hm.len,M.markL_len];refine vloop_up c.length (λi u w'=>u=[nI ((M.terL (c.take i)).length:Int),nI i]/\Ext w w'/\∀j,j<i->∀t,t∈(c.getD j ([],[])).2->M.tsort (M.decL (c.take (j+1))) t=0) ⟨rfl,d,λj hj=>absurd hj oM⟩ ?_;rintro i _ _ w2 C hi ⟨rfl,z,r⟩ hC
 try simp only[push_cast]
 refine zb (λa=>?_) (λa=>?_)
 .have l:i<c.length:=oM;have h2:=h.ext z;have L:=h2.mar.pairs;simp(disch:=first|(simp only[push_cast])|(rw[M.markL_len];omega)|omega) only[push_cast,L.iaddr,gn,L.load,M.markL_get l];refine zh J7 λb3 w3 aa a0 ad T=>?_;refine T.stAgg (cs':=[nI ((M.decL (c.take (i+1))).length:Int),nI ((M.terL (c.take (i+1))).length:Int)]) rfl xd0 (two_one rfl rfl) λw4 a8 ae U=>?_;refine zd λw5 G _=>?_;have B:Ext w2 w5:=(Ext.then a0 a8 λy hy=>by subst hy;omega).trans G;have S:=h2.ext B;have s:=U.ext G;have e5:=z.trans B;have l1:=M.terL_le (c:=c) (i:=i+1) oM;have l2:=M.decL_le (c:=c) (i:=i+1) oM;have l3:(M.terL (c.take i)).length<=(M.terL (c.take (i+1))).length:=by rw[M.terL_take l,V0];omega
  obtain⟨pv,D,p⟩:=S.ter.tms.mid Jj l3 l1;rw[M.terL_mid l] at p;simp only[push_cast,S.blk.ld1,s.ld1,k6,D,p.len];refine vloop_up (c.getD i ([],[])).2.length (λj u w'=>u=[nI j]/\Ext w5 w'/\∀k,k<j->M.tsort (M.decL (c.take (i+1))) ((c.getD i ([],[])).2.getD k default)=0) ⟨rfl,Same.refl _ _,λk hk=>absurd hk oM⟩ ?_;rintro j _ _ w6 C1 hj ⟨rfl,f,g⟩ Z
  try simp only[push_cast]
  have N:=p.ext f;have ac:=p.small;refine zb (λa5=>?_) (λa5=>?_)
  .have o:j<(c.getD i ([],[])).2.length:=oM;simp(disch:=exact oS) only[push_cast,N.iaddr];refine N.load zc o λx hx=>?_;obtain⟨cs,rfl,v⟩:=hx.cells;refine zh zn λb7 w7 ab H af W=>?_;refine stTerm W rfl (v.ext H) λw8 a9 ag X=>?_;refine zd λw9 I _=>?_;have m:Ext w6 w9:=(Ext.then H a9 λy hy=>by subst hy;omega).trans I;have h9:=S.ext (f.trans m);have Y:=s.ext (f.trans m);have q9:=X.ext I;have hg:aggB za cs.length=true:=by rw[zU v];exact zc
   have E:=h9.dec;simp(disch:=first|(simp only[push_cast])|(rw[K3];exact l2)) only[push_cast,h9.blk.ld0,Y.ld0,k6,Ys0 E kN];rw[q9.ldAgg (t:=za) hg];refine⟨rfl,?_⟩;refine TermSort_spec (ds:=M.decL (c.take (i+1))) (by have:=E.dcls.taken l2;rw[M.decL_pre] at this;exact this) (v.ext m).term λw10 F=>?_
   try simp only[push_cast,k6]
   have A:=(f.trans m).trans F;refine zb (λR=>no _ (e5.trans A) λe=>R ((M.ctx_iff.1 e).2.2.2.2 i l _ (M.getD_mem o _))) (λR=>?_);rw[inc64' oM];refine Z o _ _ ⟨rfl,A,λk hk=>?_⟩;by_cases e:k<j
   .exact g k e
   .have:k=j:=oM;subst this;exact Ph.1 R
  .have o:j=(c.getD i ([],[])).2.length:=oM;have V:=s.ext f;simp only[push_cast,V.ld1];rw[inc64' oM];refine hC l _ _ ⟨rfl,e5.trans f,λk hk t ht=>?_⟩;by_cases e:k<i
   .exact r k e t ht
   .have:k=i:=oM;subst this;obtain⟨q,hq,rfl⟩:=gr ht;have:=g q oM;rwa[X0,gk hq] at this
 .have a7:i=c.length:=oM;subst a7;have:=hK _ z;rwa[M.ctx_iff.2 ⟨Q,a2,a3,a4,r⟩] at this
end
end Go.Proofs.YtfnpmncplaibiaaGreatDoor
end
