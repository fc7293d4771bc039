import Derived.Test.YtolbhkcajhlllaaGreatDoorWwbP12
/- A part of the proof. -/
set_option linter.all false
set_option maxRecDepth 9999
set_option maxHeartbeats 2000000
noncomputable section
namespace Go.Proofs.YtolbhkcajhlllaaGreatDoor
open Go Go.Vc Go.Proofs Go.M
section
variable {w:World} {K:oK} {F:Nat->Prop}
def kR0 (a b:Int):Int:=if a<b then-1 else if b<a then 1 else 0
theorem cmpI_pos {a b:Int}:0<kR0 a b↔b<a:=by unfold kR0;split<;>(try split)<;>omega
theorem zQ0 {a:Int} (b:K (.bool false) w):vcall K9 #[nI a] w K:=by
 refine ze {} Tryz.func300 ?_;simp only[push_cast,ne_eq,not_true_eq_false,decide_false];exact b
theorem Kz {a b:Int} (c:K (nI (kR0 a b)) w):vcall Qo #[nI a,nI b] w K:=by
 refine ze {} Tryz.func284 ?_;refine zQ0 (zQ0 ?_);simp only[push_cast];unfold kR0 at c;refine zb (λh=>?_) (λh=>zb (λd=>?_) (λd=>?_))
 ·rwa[if_pos h] at c
 ·rwa[if_neg h,if_pos d] at c
 ·rwa[if_neg h,if_neg d] at c
def FnI (w0:World) (f:Value) (args:Array Value) (b:Int):Prop:=
 ∀(w':World) (K:oK),Ext w0 w'->(∀w'',Ext w' w''->K (nI b) w'')->vcallv f args w' K
theorem MaxFunc_Lint {v f:Value} {xs:List Int} {g:Int->Int} (p:Ints F w v xs) (t:xs≠[]) (B:∀a b,a∈xs->b∈xs->FnI w f #[nI a,nI b] (kR0 (g a) (g b)))
  (A:∀w' m,Ext w w'->m∈xs->(∀x,x∈xs->g x<=g m)->K (nI m) w'):vcall kG #[v,f] w K:=by
 refine ze {loops:=[(5,[5,6])],cuts:=[(8195,[])]} Tryz.func282 ?_;have o:0<xs.length:=Gx.2 t;have hlen:xs.length<=9223372036854775807:=by obtain⟨_,_,_,z,E,_⟩:=p.shape;simp at z;omega
 refine zp (λu w'=>Ext w w'/\w'=w) ?_ ?_
 ·intro C r;simp(disch:=first|omega|simp only[push_cast]) only[push_cast,p.len];exact zb (λa=>oM) (λa=>r _ _ ⟨Same.refl _ _,rfl⟩)
 rintro _ _ _ ⟨-,rfl⟩;simp(disch:=first|omega|simp only[push_cast]) only[p.iaddr,Int.toNat_zero,p.load];refine vloop_up (xs.length-1) (λi u w'=> ∃m,u=[nI m,nI (i+1:Nat)]/\Ext w' w'/\Ext _ w'/\m∈xs/\∀j,j<=i->g (xs.getD j 0)<=g m) ⟨xs.getD 0 0,rfl,Same.refl _ _,Same.refl _ _,getD_meS o,λj n=>by
  have:j=0:=oM;subst this;exact Ph _⟩ ?_
 rintro i _ _ w1 C hi ⟨m,rfl,-,he,hm,c⟩ r;have d:=p.ext he;simp(disch:=first|omega|simp only[push_cast]) only[sl0,sl1,d.len,k60];refine zb (λa=>?_) (λa=>?_)
 ·simp(disch:=first|omega|simp only[push_cast]) only[d.iaddr,gl,d.load];have n:xs.getD (i+1) 0∈xs:=getD_meS oM;refine B _ _ n hm w1 _ he λw2 l=>?_;have q:=d.ext l;have k:IntKind.i64.wrap (((i+1:Nat):Int)+1)=((i+1+1:Nat):Int):=by rw[zl oM oM];omega
  simp only[yL0];refine zb (λb=>?_) (λb=>?_)
  ·simp(disch:=first|omega|simp only[push_cast]) only[q.iaddr,gl,q.load,Xm,k];refine r oM _ _ ⟨_,rfl,Same.refl _ _,he.trans l,n,λj s=>?_⟩;have D:g m<g (xs.getD (i+1) 0):=cmpI_pos.1 b;by_cases e:j=i+1
   ·subst e;exact Ph _
   ·have:=c j oM;omega
  ·simp only[Xm,k];refine r oM _ _ ⟨_,rfl,Same.refl _ _,he.trans l,hm,λj s=>?_⟩;have hle:g (xs.getD (i+1) 0)<=g m:=Int.not_lt.1 λh=>b (cmpI_pos.2 h);by_cases e:j=i+1
   ·subst e;exact hle
   ·exact c j oM
 ·refine A w1 m he hm λx y=>?_;obtain⟨j,n,rfl⟩:=gm y;have:=c j oM;simpa[y3,n] using this
end
section
variable {w:World} {K:oK} {Fr:Nat->Prop} {many bs:Nat} {c:Cnf} {s:Sat} {σ:SV} {N:Nat}
theorem learn_2_spec {a b:Int} (d:a.natAbs<=700) (e:b.natAbs<=700) (c:K (nI (kR0 a.natAbs b.natAbs)) w):vcall yK #[nI a,nI b] w K:=by
 refine ze {} Tryz.func286 ?_;exact variable_spec oM oM (variable_spec oM oM (Kz c))
def plM (put:List Int) (a:Int):Int:=(placeOf put a.natAbs:Int)-1
theorem zH0 {a b:Int} {p:Nat} {t:TypeId} {r:List Value} (h:SR N Fr w bs many c s σ) (o:Blk w p (oP bs 0::r) t) (m:a.natAbs<=many) (n:b.natAbs<=many)
  (l:∀w',Ext w w'->K (nI (kR0 (plM s.put a) (plM s.put b))) w'):vcall ZD #[nI a,nI b,oP p 0] w K:=by
 refine ze {ord:=[oz 1 [0,1,2,3,4,6,7,8,9,10,5,11,12,13] [(0,[4,6,7,8,9,10]),(1,[4,6,7,8,9,10]),(2,[4,6,7,8,9,10]),(3,[4,6,7,8,9,10]),(4,[6,7,8,9,10]),(6,[10,5]),(7,[10,5]),(8,[10,5]),(9,[10,5]),(10,[5])]]} Tryz.func283 ?_;refine zd λw1 d _=>?_;have g:=h.ext d;have f:=o.ext d;simp only[push_cast,f.ld0,g.blk.ld2,true_and];refine place_spec g.tr m λw2 e=>?_;have k:=g.ext e;have j:=f.ext e;simp only[push_cast,j.ld0,k.blk.ld2,true_and,and_self];exact place_spec k.tr n λw3 i=>Kz (l w3 (d.trans (e.trans i)))
theorem resolve_1_spec {a:Int} {p:Nat} {t:TypeId} {r:List Value} (h:SR N Fr w bs many c s σ) (g:Blk w p (oP bs 0::r) t) (f:a.natAbs<=many) (b:placeOf s.put a.natAbs≠0)
  (e:∀w',Ext w w'->K (.bool (decide (0<lvM s.put (yE s.why) a))) w'):vcall Z3 #[nI a,oP p 0] w K:=by
 refine ze {} Tryz.func242 ?_;simp only[push_cast,g.ld0,h.blk.ld2];refine level_spec h.tr f b λw1 d=>?_;have:=e w1 d;simp only[push_cast];rwa[show decide ((0:Int)<(lvl (yE s.why) (placeOf s.put a.natAbs-1):Nat))=decide (0<lvM s.put (yE s.why) a) from decide_eq_decide.2 (by unfold lvM;omega)]
end
section
variable {w:World} {K:oK}
abbrev Yd0:={x:Int//x.natAbs<=700}
instance:Inhabited Yd0:=⟨⟨0,dC⟩⟩
def jy0 (x:Yd0):Value:= nI x.1
def Y40 (x y:Yd0):Int:=kR0 x.1.natAbs y.1.natAbs
theorem litC_lt (x y:Yd0):ltOf Y40 x y=decide (x.1.natAbs<y.1.natAbs):=by
 unfold ltOf Y40 kR0;refine decide_eq_decide.2 ?_;split<;>(try split)<;>omega
theorem litC_swo:Go.Sort.SWO (ltOf Y40) where
 irrefl x:=by rw[litC_lt];simp
 trans x y z a b:=by rw[litC_lt] at*;simp at*;omega
 ntrans x y z a b:=by rw[litC_lt] at*;simp at*;omega
theorem V9 (args:Array Value) (w:World):(callFunc yK args).run P w= .ok (.enter yK args) w:=callFunc_run rK
theorem U1 (blk off size:Nat) (w:World):CmpReads P yK #[] jy0 Y40 blk off size w:=by
 intro m os dk _ x y;have h:=learn_2_spec (K:=λv w'=>v= nI (Y40 x y)/\∃q,w'=(sortWorld jy0 w blk off m dk os).drewN q) (w:=sortWorld jy0 w blk off m dk os) x.2 y.2 ⟨rfl,0,rfl⟩;refine Calls.mono h.2 λe w' he=>?_;cases e with
 |returned v=>exact⟨by rw[he.1],he.2⟩
 |panicked c=>exact he.elim
 |outgrown=>exact he.elim
theorem SortFunc_learn {v : Value} {xs : List Int} (hv : OwnI zh w v xs) (hne : xs ≠ []) (hb : ∀ x, x ∈ xs -> x.natAbs <= 700) (hnd : (xs.map Int.natAbs).Nodup)
    (hK : ∀ w' ys, OwnI zh w' v ys -> Srt ys -> (∀ k, k ∈ ys ↔ k ∈ xs) -> Same (λb => v.ownBlock = some b) w w' -> K (.tuple #[]) w') :
    vcall ke #[v, .func (.func yK) #[] #[]] w K := by
  refine ⟨by kernel_rfl, ?_⟩
  have hsm := hv.small
  have hlen : xs.length <= 1401 := few_ints (by
    unfold List.Nodup at hnd ⊢
    rw [GX] at hnd
    exact hnd.imp λh e => h (by rw [e])) hb
  have hrow := Own.row hv
  rcases hrow.2 with ⟨rfl, hn⟩ | ⟨g, cap, cur, rfl, hbg, hg, hnc, hcm, hcs, htake⟩
  · simp at hn; exact absurd hn hne
  let L : List Yd0 := xs.attach.map λx => ⟨x.1, hb x.1 x.2⟩
  have hL : L.map (·.1) = xs := by
    simp [L]
  let d : Array Yd0 := L.toArray
  have hds : d.size = xs.length := by simp [d, L]
  have hdj : ∀ j, j < xs.length -> jy0 d[j]! = .int .i64 (xs.getD j 0) := λj hj => by
    have h1 : (L.map (·.1)).getD j 0 = xs.getD j 0 := by rw [hL]
    simp only [jy0]
    rw [<- h1, getElem!_pos d j (by omega)]
    have : j < L.length := by simp [L]; exact hj
    simp [d, y3, this]
  have hH : Go.Sort.Holds jy0 w g 0 d := by
    intro j hj
    rw [hds] at hj
    have hi' : j < ((xs.map λx => Value.int .i64 x).map λx => [x]).length * 1 := by simpa using hj
    have hc := World.ownsRow.cellAt hrow j hi'
    have hf := World.ownsRow.frozenAt hrow j
    rw [gQ]
    refine ⟨?_, hf⟩
    rw [hc, flat1, hdj j hj]
    simp [y3, hj]
  have hcon := Any.slices_SortFunc YtolbhkcajhlllaaGreatDoor.sortL jy0 (λ_ => rfl) Y40 litC_swo yK #[] g 0 cap d w V9 (U1 g 0 d.size w).lays hH (gA.1 hg).1 (by omega)
  have hsz : ((xs.map λx => Value.int .i64 x).map λx => [x]).length = d.size := by simp [hds]
  rw [hsz]
  refine Calls.mono hcon ?_
  rintro e w' ⟨rfl, d', n, os, hp, hs, rfl⟩
  show K _ _
  obtain ⟨hp1, hp2, hp3⟩ := hp
  have hex : d'.toList.Perm L := by
    have e1 : d'.extract 0 d.size = d' := by rw [<- hp1]; simp
    have e2 : d.extract 0 d.size = d := by simp
    rw [e1, e2] at hp3
    exact hp3
  have hmap : (d'.toList.map (·.1)).Perm xs := by rw [<- hL]; exact hex.map _
  have hgl := (gA.1 hg).1
  have hcells : (sortWorld jy0 w g 0 n d' os).heap[g]? = some (.cells (Go.Sort.putCells jy0 0 d' cur) (ZU zh) (0, 0)) := by
    unfold sortWorld Go.Sort.grow Go.Sort.putRow Go.Sort.mapBlock Go.Sort.ahead
    simp only
    rw [Px (by simpa using hgl)]
    simp [GL, hg, Go.Sort.onCells]
  have hlen' : d'.toList.length = xs.length := by simpa [L] using hex.length_eq
  refine hK _ (d'.toList.map (·.1)) ⟨⟨by rw [flat1]; simp only [y4, pT], .inr ⟨g, cap, _, by simp only [y4, hds, hlen'], hbg, hcells, ?_, hcm, ?_, ?_⟩⟩, λy hy => by obtain ⟨u, _, rfl⟩ := gr.1 hy; rfl⟩ ?_ (λk => hmap.mem_iff) ?_
  · simp only [y4] at hnc ⊢; simp at hlen' ⊢; omega
  · simpa [Go.Sort.putCells] using hcs
  · rw [flat1]
    simp only [y4, pT, hlen']
    refine List.ext_getElem? λi => ?_
    rw [List.getElem?_take]
    split
    · rename_i hi
      have hic : i < cur.size := by simp at hnc; omega
      have hid : i < d'.size := by omega
      simp [Go.Sort.putCells, Array.getElem?_mapIdx, hic, hid, jy0]
    · rename_i hi
      symm
      rw [pZ]
      simp at hlen' ⊢; omega
  · unfold Srt
    rw [GX, Gk]
    intro i j hi hj hij
    have h1 := hs i j (gP _) hij (by simp at hj; omega)
    rw [litC_lt] at h1
    simp only [decide_eq_false_iff_not, Nat.not_lt] at h1
    simp only [pf] at hi hj
    rw [getElem!_pos d' i hi, getElem!_pos d' j hj] at h1
    simp only [Array.getElem_toList]
    refine Nat.lt_of_le_of_ne h1 λe => ?_
    have hnd2 : ((d'.toList.map (·.1)).map Int.natAbs).Nodup := (hmap.map _).nodup_iff.2 hnd
    unfold List.Nodup at hnd2
    rw [pa, GX, Gk] at hnd2
    have := hnd2 i j (by simpa using hi) (by simpa using hj) hij
    simp at this
    exact this e
  · refine ⟨rfl, rfl, rfl, by simp [sortWorld, Go.Sort.grow, Go.Sort.putRow, Go.Sort.mapBlock, Go.Sort.ahead], λb hb' hne' => ?_⟩
    have hbg' : g ≠ b := λe => hne' (by rw [e]; rfl)
    unfold sortWorld Go.Sort.grow Go.Sort.putRow Go.Sort.mapBlock Go.Sort.ahead
    simp only
    rw [Px (by simpa using hb'), GL, if_neg hbg']
end
section
variable {w:World} {F:Nat->Prop} {c:Cnf} {s:Sat}
def SatR (F:Nat->Prop) (w:World) (v:Value) (s:Sat):Prop:=
 ∃vp vw vl,v= .agg #[vp,vw,vl,nI s.code]/\Ints F w vp s.put/\Ints F w vw s.why/\Lists F w vl s.learned
theorem SatR.ext {v:Value} {w':World} (h:SatR F w v s) (hw:Ext w w'):SatR F w' v s:=by
 obtain⟨vp,vw,vl,d,a,b,c⟩:=h;exact⟨vp,vw,vl,d,a.ext hw,b.ext hw,c.ext hw⟩
end
section
variable {w:World} {K:oK} {F Fr:Nat->Prop} {many bs:Nat} {c:Cnf} {s:Sat} {σ:SV} {N:Nat}
theorem satOk.many' (h:satOk many c s) (a:c.many=many):many<=700/\c.list.length<=2500:=by
 have:=h.cnf;unfold cnfOk at this;simp only[gg,decide_eq_true_eq] at this;omega
theorem learn_spec {v:Value} {k:Nat} (h:SR N Fr w bs many c s σ) (D:satOk many c s) (a0:c.many=many) (hk:k<c.list.length+s.learned.length) (o:Ints F w v (atM c s k)) (hc:kz s.put (atM c s k)) (d5:kW s.put (yE s.why) (atM c s k)≠0) (c4:∀b,Fr b->b<w.heap.size)
  (hK:∀w' v',Ext w w'->OwnI zh w' v' (learnM many c s s.put.length (atM c s k))->(∀x,v'.ownBlock=some x->w.heap.size<=x)->K (.tuple #[v',nI (ZZ s.put (yE s.why) (learnM many c s s.put.length (atM c s k)))]) w'):
  vcall YU #[oP bs 0,v] w K:=by
 refine ze {ord:=[oz 11 [0,1,2,3,4,5,6,7,8,9,15,10,11,12,13,14] [(0,[1,2,3,4,5,6,7,8,9,15,10,11,12]),(1,[5,6,7,8,9,15,10]),(2,[5,6,7,8,9,15,10]),(3,[5,6,7,8,9,15,10]),(4,[5,6,7,8,9,15,10]),(5,[9,15]),(6,[9,15]),(7,[9,15]),(8,[9,15]),(9,[15]),(15,[10,11,12,13,14])]],loops:=[(3,[20]),(8,[10]),(12,[59]),(21,[14,15])],cuts:=[(102425,[98])]} Tryz.func244 ?_;obtain⟨cm,db⟩:=satOk.many' D a0;have d1:=D.few;have au:=D.mks;obtain⟨z1,z2,z3,z4⟩:=U0 D a0 hk hc;have b2:=XR hc;have c9:=clauseOk_srt (D.atOk hk);generalize atM c s k=cl at*;refine yq λp w1 hp ce dm c6=>?_;refine jZ0 λbm w2 da bg ac=>?_;have dp:=ac.size;have hlen:cl.length<=9223372036854775807:=by obtain⟨_,_,_,h1,h2,_⟩:=o.shape;simp at h1;omega
 simp(disch:=first|omega|simp only[push_cast]) only[push_cast,o.len];have c7:Blk w2 p [oP bs 0] yQ:=c6.ext ac;have keep:∀{w3 w4:World} {S:Nat->Prop},(Ext w w3/\Blk w3 p [oP bs 0] yQ)->Same S w3 w4->(∀x,S x->w1.heap.size<=x)->(Ext w w4/\Blk w4 p [oP bs 0] yQ):=by
  rintro w3 w4 S ⟨a,b⟩ hs hS;exact⟨a.then hs λx o=>by have:=hS x o;omega,b.same hs λe=>by have:=hS p e;omega⟩
 refine vloop_up cl.length (λi u w'=> ∃ks,u=[nI i]/\(Ext w w'/\Blk w' p [oP bs 0] yQ)/\ISet w' bm ks/\∀x,x∈ks↔x∈cl.take i) ⟨[],rfl,⟨ce.trans ac,c7⟩,bg,by simp⟩ ?_;rintro i _ _ w3 C hi ⟨ks,rfl,M,B,z⟩ hC;simp only[push_cast];refine zb (λa=>?_) (λa=>?_)
 ·have bw:=o.ext M.1;simp(disch:=first|omega|simp only[push_cast]) only[push_cast,bw.iaddr,bw.load];refine UN xB B λw4 ci cs dr=>?_;simp(disch:=omega) only[push_cast,zl];refine hC oM _ _ ⟨_,by simp,keep M cs (λx o=>oM),ci,λx=>?_⟩;rw[Jv (d:=0) oM,gj,gn,<-z];split
  ·rename_i ap;exact⟨.inl,λe=>e.elim id λe=>e▸ap⟩
  ·rw[gj,gn]
 clear hC;rw[gB oM] at z;clear bg hi a;have bounds:∀{j:List Int},Fls s.put j->∀x,x∈j->x≠0/\x.natAbs<=many/\placeOf s.put x.natAbs≠0:=λhF x o=>by
  have h1:=au.2 _ (hF x o);have h2:=placeOf_ne_zero (hF x o);rw[GV] at h2;exact⟨oM,oM,h2⟩
 have Z:=h.ext M.1;simp only[push_cast,M.2.ld0,Z.blk.ld2];refine greatest_spec Z.tr B (λx o=>(bounds b2 x ((z x).1 o)).2) λw4 top v4 xs A bq bu bl=>?_;simp only[push_cast];have al:TopOf s.put (yE s.why) cl top xs:=Jt z bq;refine jC (λn u w'=> ∃ks j f top v xs,n=lastPl s.put j/\u=[v]/\(Ext w w'/\Blk w' p [oP bs 0] yQ)/\ISet w' bm ks/\(∀x,x∈ks↔x∈j)/\
   Fls s.put j/\Srt j/\TopOf s.put (yE s.why) j top xs/\OwnI zh w' v xs/\(∀x,v.ownBlock=some x->w.heap.size<=x/\x≠bm/\x≠p)/\lastPl s.put j<=f/\learnM many c s f j=learnM many c s s.put.length cl) _
  ⟨ks,cl,s.put.length,top,v4,xs,rfl,rfl,keep M (S:=λ_=>False) A (λ_ h=>h.elim),B.ext A,z,b2,c9,al,bu,λx o=>?_,lastPl_le,rfl⟩ ?_
 ·have:=bl x o;have:=B.lt;have:=M.2.lt;have:=M.1.size;exact⟨oM,oM,oM⟩
 clear B z bq al bu bl A Z ks top v4 xs M;clear w3 w4;rintro _ _ _ w3 C ⟨ks,j,f,top,v3,xs,rfl,rfl,M,B,z,hF,hS,ht,a7,bk,df,ar⟩ hC;have Z:=h.ext M.1;have bx:=a7.ints;have Q:=bounds hF;have t:∀x,x∈xs->x∈j:=λx o=>((ht.mem x).1 o).1;have cy:xs.length<=1401:=few_ints ht.nd λx o=>by have:=Q x (t x o);omega
 have bt:=topOf_tops (put:=s.put) (ds:=yE s.why) (srt_nodup hS);have dl:xs.length=(Js s.put (yE s.why) j).length:=qi0 ht bt;have ay:top=kW s.put (yE s.why) j:=topOf_top ht bt;simp only[push_cast,bx.len];refine zb (λa=>?_) (λa=>?_)
 ·
  have h2:2<=xs.length:=oM;have hf:f≠0:=λe=>by
   subst e;have:xs≠[]:=λe=>by subst e;simp at h2
   obtain⟨q,hq⟩:=G9 _ this;exact lastPl_pos hF (λe=>by have:=t q hq;rw[e] at this;cases this) oM
  obtain⟨f,rfl⟩:∃f',f=f'+1:=⟨f-1,oM⟩;rw[learnM,if_neg oM] at ar;obtain⟨k1,k2,k3,k4⟩:=learnS_ok D a0 hF hS oM;refine MaxFunc_Lint (g:=plM s.put) bx (λe=>by rw[e] at h2;simp at h2) (λa b ha hb w' K' bb c5=>?_) λw4 m A hm a4=>?_
  ·exact zH0 (Z.ext bb) (M.2.ext bb) (Q a (t a ha)).2.1 (Q b (t b hb)).2.1 c5
  have bi:=Q m (t m hm);have cq:placeOf s.put m.natAbs=lastPl s.put j:=lastPl_top ht hm λx o=>by have:=a4 x o;unfold plM at this;omega
  refine y60 xB (B.ext A) λw5 cj bo dt=>?_;have c3:=keep M (S:=λ_=>False) A (λ_ h=>h.elim);have W:=keep c3 bo (λx o=>oM);refine zd λw6 an _=>?_;have X:=keep W (S:=λ_=>False) an (λ_ h=>h.elim);have aa:=h.ext X.1;have dk:=aa.rw.ints;simp only[push_cast,X.2.ld0,aa.blk.ld2,aa.blk.ld3,true_and];refine place_spec aa.tr bi.2.1 λw7 H=>?_;have Y:=keep X (S:=λ_=>False) H (λ_ h=>h.elim);have ab:=h.ext Y.1;have am:=ab.rw.ints;obtain⟨q,hq⟩:∃q,lastPl s.put j=q+1:=⟨lastPl s.put j-1,oM⟩;have cr:(placeOf s.put m.natAbs:Int)-1=(q:Int):=oM;have dh:=D.len;have d2:=placeOf_le s.put m.natAbs;obtain⟨r1,r2,r3,r4,r5,-⟩:=last_reason D hF ht h2 hq;have bn:s.put.getD q 0= -m:=by
   refine distinct_eq au.1 (getD_meS r1) (hF m (t m hm)) ?_;have:=(placeOf_pos bi.2.2).2;rw[cq,hq,GG] at this;rw[this,GV]
  rw[cr];simp(disch:=first|omega|simp only[push_cast]) only[push_cast,Y.2.ld0,ab.blk.ld2,ab.blk.ld3,true_and,and_self,am.iaddr,am.load];obtain⟨y,hy⟩:∃y:Nat,s.why.getD q 0=y:=⟨(s.why.getD q 0).toNat,oM⟩;have az:s.why.getD q 0=(y:Int):=hy;rw[az];refine clause_spec ab oM oM λv8 w8 ao a8=>?_;have V:=keep Y (S:=λ_=>False) ao (λ_ h=>h.elim);have d3:=clauseOk_len (m:=many) (by have:=D.atOk (k:=y) oM;rwa[a0] at this);simp(disch:=first|omega|simp only[push_cast]) only[push_cast,a8.len,true_and];have ck:ISet w8 bm (ks.erase m):=((cj.ext an).ext H).ext ao;have co:ks.Nodup:=B.nodup;have d6:OwnI zh w8 v3 xs:=((((a7.ext A).same bo λx o=>(bk x o).2.1).ext an).ext H).ext ao;have hj:jB many c s j=Qt many j (atM c s y) (s.put.getD q 0).natAbs:=by
   unfold jB;rw[hq,GG,az,gl]
  have cg:∀l,l∈jB many c s j↔(l∈j/\l≠m)\/(l∈atM c s y/\l≠ -m):=λl=>by
   have:=(learn_join D a0 hF ht h2 hq).1 l;rw[az,gl,<-hj,bn,Int.neg_neg] at this;exact this
  refine vloop_up (atM c s y).length (λi u w'=> ∃bz,u=[nI i]/\(Ext w w'/\Blk w' p [oP bs 0] yQ)/\Ints Fr w' v8 (atM c s y)/\ISet w' bm bz/\(∀x,x∈bz↔(x∈j/\x≠m)\/(x∈(atM c s y).take i/\x≠ -m)))
   ⟨ks.erase m,rfl,V,a8,ck,λx=>by rw[co.mem_erase_iff,z];simp[and_comm]⟩ ?_
  rintro i _ _ w9 C9 hi ⟨c0,rfl,O,ae,a3,E⟩ b1;simp only[push_cast];refine zb (λa9=>?_) (λa9=>?_)
  ·simp(disch:=first|omega|simp only[push_cast]) only[push_cast,ae.iaddr,ae.load];have br:=Jv (d:=0) (xs:=atM c s y) (show i<(atM c s y).length by omega);have d8:∀x,Fr x->x<w.heap.size->¬(x=bm):=λx _ o e=>oM;have G:IntKind.i64.wrap (0-m)= -m:=by rw[zl oM oM];omega
   have T:IntKind.i64.wrap ((i:Int)+1)=((i+1:Nat):Int):=by rw[zl oM oM];omega
   simp only[G,T];refine zb (λb9=>?_) (λb9=>?_)
   ·refine UN xB a3 λw10 bf ak d7=>?_;simp(disch:=omega) only[push_cast,zl];have a6:Ints Fr w10 v8 (atM c s y):=ae.same ak λx o _ e=>by have:=c4 x o;omega
    refine b1 oM _ _ ⟨_,rfl,keep O ak (λx o=>oM),a6,bf,λx=>?_⟩;rw[br,gj,gn];split
    ·rename_i ap;rw[E];constructor
     ·rintro(e|⟨G,T⟩)
      ·exact .inl e
      ·exact .inr ⟨.inl G,T⟩
     ·rintro(e|⟨G|G,T⟩)
      ·exact .inl e
      ·exact .inr ⟨G,T⟩
      ·rw[G];exact(E _).1 ap
    ·rw[gj,gn,E];constructor
     ·rintro((e|⟨G,T⟩)|e)
      ·exact .inl e
      ·exact .inr ⟨.inl G,T⟩
      ·exact .inr ⟨.inr e,by rw[e];exact b9⟩
     ·rintro(e|⟨G|G,T⟩)
      ·exact .inl (.inl e)
      ·exact .inl (.inr ⟨G,T⟩)
      ·exact .inr G
   ·refine b1 oM _ _ ⟨_,rfl,O,ae,a3,λx=>?_⟩;rw[br,gj,gn,E];constructor
    ·rintro(e|⟨G,T⟩)
     ·exact .inl e
     ·exact .inr ⟨.inl G,T⟩
    ·rintro(e|⟨G|G,T⟩)
     ·exact .inl e
     ·exact .inr ⟨G,T⟩
     ·exact absurd (by rw[<-G];exact T) b9
  ·rw[gB oM] at E;have R:∀x,x∈c0↔x∈jB many c s j:=λx=>(by rw[E,cg]);have b4:=h.ext O.1;have cb:=bounds k1;simp only[push_cast,O.2.ld0,b4.blk.ld2];refine greatest_spec b4.tr a3 (λx o=>(cb x ((R x).1 o)).2) λw10 c1 v10 d0 ag bp a6 bj=>?_;simp only[push_cast];have dw:=O.1.size;have:=a3.lt;have:=O.2.lt;refine hC (lastPl s.put (jB many c s j)) _ _ k3 ⟨c0,jB many c s j,f,c1,v10,d0,rfl,rfl,keep O (S:=λ_=>False) ag (λ_ h=>h.elim),a3.ext ag,R,k1,k2,Jt R bp,a6,λx o=>?_,oM,ar⟩;have:=bj x o;exact⟨oM,oM,oM⟩
 ·
  have bc:learnM many c s s.put.length cl=j:=by
   rw[<-ar];cases f with
   |zero=>rfl
   |succ f=>rw[learnM,if_pos oM]
  rw[bc] at hK z1 z2 z3 z4;rw[z3] at ay;have cx:xs.length=1:=by
   have:=ht.ne;rcases this with e|e
   ·omega
   ·have:=Gx.2 e;omega
  obtain⟨t0,rfl⟩:=PJ.1 cx;have af:∀x,x∈j->(x≠t0↔lvM s.put (yE s.why) x<kW s.put (yE s.why) j):=λx o=>by
   have h1:=ht.mem x;have h2:=ht.le x o;rw[gn] at h1;rw[z3];constructor
   ·intro cp;have: ¬lvM s.put (yE s.why) x=top:=λe=>cp (h1.2 ⟨o,e⟩);omega
   ·intro dg e;have:=(h1.1 e).2;omega
  refine VJ xB B λr w4 hr cf A=>?_;have de:=few_ints B.nodup λx o=>by have:=Q x ((z x).1 o);omega
  have dq:=M.1.size;have di:=B.lt;have dj:=M.2.lt;refine vloop_up ks.length (λi u w'=> ∃dn v,dn.length=i/\u=[nI (maxL ((dn.filter λk=>decide (lvM s.put (yE s.why) k<kW s.put (yE s.why) j)).map (lvM s.put (yE s.why))):Nat),v]/\(Ext w w'/\Blk w' p [oP bs 0] yQ)/\IterR w' r bm ks dn/\OwnI zh w' v dn/\OwnI zh w' v3 [t0]/\(∀x,v.ownBlock=some x->w3.heap.size<x))
   ⟨[],.slice none 0 0,rfl,rfl,keep M (S:=λ_=>False) A (λ_ h=>h.elim),cf,OwnI.nil,a7.ext A,λx o=>by cases o⟩ ?_
  rintro i _ _ w5 C5 hi ⟨dn,v5,b8,rfl,W,I,bv,ct,L⟩ b0;refine vnext_set I (λb5=>?_) λU x' w6 ch dd a2 a5 du=>?_
  ·
   simp only[push_cast];have a1:∀x,x∈dn↔x∈j:=λx=>⟨λh=>(z x).1 (I.sub h),λh=>b5 x ((z x).2 h)⟩;have ba:dn≠[]:=λe=>by
    have:=(ht.mem t0).1 (by simp);have:=(a1 t0).2 this.1;rw[e] at this;cases this
   have cd:(dn.map Int.natAbs).Nodup:=by
    have h1:=I.nd;unfold List.Nodup at h1⊢;rw[GX];refine pX.2 λ{a c} hs=>?_;have ca:a≠c:=by
     have:=h1.sublist hs;simpa using this
    have ha:=(a1 a).1 (hs.subset (by simp));have cc:=(a1 c).1 (hs.subset (by simp));intro e;exact ca (by have:=distinct_eq au.1 (hF a ha) (hF c cc) oM;omega)
   refine SortFunc_learn bv ba (λx o=>by have:=Q x ((a1 x).1 o);omega) cd λw6 zs cv c8 bh a5=>?_;have cz:zs=j:=srt_ext c8 hS λx=>(by rw[bh,a1]);subst cz;have a4:maxL ((dn.filter λk=>decide (lvM s.put (yE s.why) k<kW s.put (yE s.why) zs)).map (lvM s.put (yE s.why)))=ZZ s.put (yE s.why) zs:=by
    unfold ZZ;exact xq0 λx=>by simp only[gr,Pk,bh]
   simp only[push_cast,a4];exact hK w6 v5 (W.1.then a5 λx o=>by have:=L x o;omega) cv λx o=>by have:=L x o;omega
  ·simp only[push_cast];refine VK a2 λdx=>?_;simp only[push_cast];refine zC xw yT xH rfl rfl λb7 w7 d9 H dv c2=>?_;have dc:=I.lt;have X:=keep W a5 (λx o=>by have:=ac.size;have:=M.1.size;omega);have Y:=keep X (S:=λ_=>False) H (λ_ h=>h.elim);have d4:=W.1.size;have cw:=(bv.same a5 λx o e=>by have:=L x o;omega).ext H;have cu:=(ct.same a5 λx o e=>by have:=bk x o;have:=a7.lt o;omega).ext H;have bd:=a2.ext H;have b6:i<ks.length:=by have:=a2.len;simp at this;omega
   refine cw.app1 xE c2 oM oM λv8 w8 a8 av cn=>?_;have aj:∀x,v8.ownBlock=some x->w3.heap.size<x:=λx o=>by
    rcases cn x o with e|e
    ·exact L x e
    ·have:=A.size;have:=I.lt;omega
   have V:=keep Y av (λx o=>by have:=L x o;omega);have aw:=cu.same av λx o e=>by have:=L x e;have:=a7.lt o;omega
   have ai:=bd.same av (λe=>by have:=L _ e;omega) (λe=>by have:=L _ e;omega);have ax:=aw.ints;have aq:U∈j:=(z U).1 ch;have be:=Q U aq;refine zp (λu w'=>u=[.bool (decide (U≠t0))]/\w'=w8) ?_ ?_
   ·intro J hJ;simp(disch:=first|omega|simp only[push_cast]) only[push_cast,ax.len,ax.iaddr,ax.load];exact hJ _ _ ⟨rfl,rfl⟩
   rintro _ _ _ ⟨rfl,rfl⟩;simp only[push_cast];have ah:(dn++[U]).filter (λk=>decide (lvM s.put (yE s.why) k<kW s.put (yE s.why) j))=dn.filter (λk=>decide (lvM s.put (yE s.why) k<kW s.put (yE s.why) j))++(if lvM s.put (yE s.why) U<kW s.put (yE s.why) j then[U] else[]):=by
    rw[Pw];simp[PE]
   refine zb (λb=>?_) (λb=>?_)
   ·have b3:=h.ext V.1;simp only[push_cast,V.2.ld0,b3.blk.ld2];refine level_spec b3.tr be.2.1 be.2.2 λw9 ad=>?_;simp only[push_cast];refine b0 b6 _ _ ⟨dn++[U],v8,by simp[b8],?_,keep V (S:=λ_=>False) ad (λ_ h=>h.elim),ai.ext ad,a8.ext ad,aw.ext ad,aj⟩;rw[ah,if_pos ((af U aq).1 b),gx,maxL_snoc _ ([U].map (lvM s.put (yE s.why))) (lvM s.put (yE s.why) U) rfl];simp only[gL,Value.int.injEq,true_and,and_true];show(max _ ((lvM s.put (yE s.why) U:Nat):Int))=_;omega
   ·refine b0 b6 _ _ ⟨dn++[U],v8,by simp[b8],?_,V,ai,a8,aw,aj⟩;rw[ah,if_neg λe=>b ((af U aq).2 e),gC]
end
section
variable {w:World} {Fr:Nat->Prop} {many:Nat}
theorem TrailR.reframe {a:Nat->Prop} {bt:Nat} {put:List Int} {ds:List Bool} {vp vpl vl:Value} (h:TrailR Fr w bt many put ds vp vpl vl) (b:∀x,kK bt vp vpl vl x->¬a x):TrailR a w bt many put ds vp vpl vl:=by
 obtain⟨hs,_⟩:=sep4.1 h.sep;exact⟨h.blk,h.rp,h.rpl,h.rl,sep4.2 ⟨hs,λx e=>b x (.inl (X0 e).symm),λx e=>b x (.inr (.inl e)),λx e=>b x (.inr (.inr (.inl e))),λx e=>b x (.inr (.inr (.inr e)))⟩,h.len,h.dis,h.bnd,h.few⟩
end
section
variable {w:World} {K:oK} {F Fr:Nat->Prop} {many bs:Nat} {c:Cnf} {s:Sat} {σ:SV} {N:Nat}
theorem topL_pos {put:List Int} {ds:List Bool} {cl:List Int}:(kW put ds cl≠0)↔((List.range cl.length).any λi=>decide (0<lvM put ds (cl.getD i 0)))=true:=by
 rw[G1];constructor
 ·intro h;rcases j7 (xs:=cl.map (lvM put ds)) with e|e
  ·exact absurd e h
  ·obtain⟨q,a,e⟩:=gr.1 e;obtain⟨i,hi,rfl⟩:=gm a;refine⟨i,gI.2 hi,?_⟩;have:cl.getD i 0=cl[i]:=(by simp[y3,hi]);rw[this,decide_eq_true_eq,e];unfold kW at h;omega
 ·rintro⟨i,hi,h⟩;rw[gI] at hi;rw[decide_eq_true_eq] at h;have:lvM put ds (cl.getD i 0)<=kW put ds cl:=Z8 (gW (getD_meS hi));omega
theorem SR.setCode (h:SR N Fr w bs many c s σ) {k:Int} (g:∀w',SR N Fr w' bs many c {s with code:=k} σ->Same (σ.foot bs) w w'->w'.heap.size=w.heap.size->K undef w'):
  zU zV (oP bs 5) (nI k) w K:=by
 refine h.blk.st rfl rfl yT rfl λw1 hs i f=>?_;have b:Same (σ.foot bs) w w1:=hs.mono λx _ e=> .inr (.inl e);have d:∀x,σ.tf x->x≠bs:=λx a e=>h.st x (.inl e) a;refine g w1 ⟨f,h.cm,h.cl.same b λx hF _ a=>h.notF a hF,h.tr.same hs λx a e=>d x a e,h.rw.same hs λx a e=>h.s1 x a e,h.rl.same hs λx a e=>h.s2 x a e,h.lsl,h.ll.same b λx hF _ a=>h.notF a hF,h.s1,h.s2,h.s3,h.st,h.sf⟩ b i
def StepTo (N:Nat) (Fr:Nat->Prop) (w:World) (bs many:Nat) (c:Cnf) (s':Sat) (σ:SV) (w':World):Prop:=
 ∃Fr' σ',SR N Fr' w' bs many c s' σ'/\Same (σ.foot bs) w w'/\(∀b,σ'.foot bs b->σ.foot bs b\/w.heap.size<=b)/\(∀b,Fr' b->Fr b\/w.heap.size<=b)/\(∀b,Fr' b->b<w'.heap.size)
theorem StepTo.trans {s2:Sat} {w1 w2:World} {d:Nat->Prop} {g:SV} (a2:Same (σ.foot bs) w w1) (a3:∀b,g.foot bs b->σ.foot bs b\/w.heap.size<=b) (a4:∀b,d b->Fr b\/w.heap.size<=b) (i:StepTo N d w1 bs many c s2 g w2):StepTo N Fr w bs many c s2 σ w2:=by
 obtain⟨F2,l,b1,b2,b3,b4,h⟩:=i;have k:=a2.size;refine⟨F2,l,b1,⟨b2.os.trans a2.os,b2.tape.trans a2.tape,b2.output.trans a2.output,gK k b2.size,λb a f=>?_⟩,λb a=>?_,λb a=>?_,h⟩
 ·rw[b2.block b oM λj=>?_,a2.block b a f];rcases a3 b j with e|e
  ·exact f e
  ·omega
 ·rcases b3 b a with e|e
  ·exact a3 b e
  ·exact .inr oM
 ·rcases b4 b a with e|e
  ·exact a4 b e
  ·exact .inr oM
theorem StepTo.refl (h:SR N Fr w bs many c s σ) (hF:∀b,Fr b->b<w.heap.size):StepTo N Fr w bs many c s σ w:=⟨Fr,σ,h,Same.refl _ _,λ_ h=> .inl h,λ_ h=> .inl h,hF⟩
theorem StepTo.ext {w1 w':World} (h:StepTo N Fr w1 bs many c s σ w') (he:Ext w w1):StepTo N Fr w bs many c s σ w':=by
 obtain⟨d,f,e,a2,a3,a4,a5⟩:=h;have g:=he.size;exact⟨d,f,e,(Same.of_ext he).trans a2,λb a=>(a3 b a).imp id λh=>oM,λb a=>(a4 b a).imp id λh=>oM,a5⟩
theorem resolve_spec {v:Value} {k:Nat} (h:SR N Fr w bs many c s σ) (t:satOk many c s) (M:c.many=many) (hk:k<c.list.length+s.learned.length) (d:Ints F w v (atM c s k)) (hc:kz s.put (atM c s k)) (q:∀b,Fr b->b<w.heap.size)
  (hK:∀w',StepTo N Fr w bs many c (k7 many c s (atM c s k)) σ w'->K (.tuple #[]) w'):
  vcall ZC #[oP bs 0,v] w K:=by
 refine ze {ord:=[oz 6 (oR 11) [(0,[1,2,3,4,5,6,7]),(1,[5,6]),(2,[5,6]),(3,[5,6]),(4,[5,6])]]} Tryz.func203 ?_;obtain⟨af,ap⟩:=satOk.many' t M;have ak:=t.few;have aq:=t.mks;refine yq λp w1 hp O ar a8=>?_;have G:Blk w1 p [oP bs 0] yQ:=a8;simp only[push_cast];have bounds:∀x,x∈atM c s k->x.natAbs<=many/\placeOf s.put x.natAbs≠0:=λx d=>⟨(t.lit M hk d).2,(hc x d).2⟩;refine jk (p:=λi=>decide (0<lvM s.put (yE s.why) ((atM c s k).getD i 0))) (d.ext O) (λi hi w' K' he a7=>?_) λw2 Z=>?_
 ·rw[y4] at hi;rw[Ke hi];obtain⟨b1,b2⟩:=bounds _ (getD_meS hi);exact resolve_1_spec (h.ext (O.trans he)) (G.ext he) b1 b2 λw'' Y=>a7 w'' Y
 have A:=O.trans Z;have I:=h.ext A;have L:=G.ext Z;rw[y4];simp only[push_cast];refine zo (λa=>?_) (λa=>?_)
 ·
  have g:kW s.put (yE s.why) (atM c s k)=0:=GB λai=>by
   have:=topL_pos.1 ai;rw[this] at a;cases a
  simp only[push_cast,L.ld0];refine I.setCode λw3 h3 R a4=>hK w3 ⟨Fr,σ,?_,(Same.of_ext A).trans R,λb l=> .inl l,λb l=> .inl l,λb l=>?_⟩
  ·unfold k7;rw[if_pos g];exact h3
  ·have:=q b l;have:=A.size;omega
 have g:kW s.put (yE s.why) (atM c s k)≠0:=topL_pos.2 (by simpa using a);have ae:=I.lists;have al:=I.lsl;simp only[push_cast,L.ld0,I.blk.ld4,ae.len];refine zb (λb=>?_) (λb=>?_)
 ·refine I.setCode λw3 h3 R a4=>hK w3 ⟨Fr,σ,?_,(Same.of_ext A).trans R,λb l=> .inl l,λb l=> .inl l,λb l=>?_⟩
  ·unfold k7;rw[if_neg g,if_pos oM];exact h3
  ·have:=q b l;have:=A.size;omega
 refine learn_spec I t M hk (d.ext A) hc g (λb l=>by have:=q b l;have:=A.size;omega) λw3 v3 B aj ag=>?_;have E3:=A.trans B;have a4:=B.size;have au:=A.size;simp only[push_cast];refine zd λw4 r _=>?_;have h4:=I.ext (B.trans r);have U:=(L.ext B).ext r;have a2:=aj.ext r;have av:=r.size;simp only[push_cast,U.ld0,h4.blk.ld4,true_and];refine zC Q6 ja VY rfl a2.ints.cells1 λb5 T ao C aw a5=>?_;have J:=h4.ext C;have V:=U.ext C;have S:=a2.ext C;simp only[push_cast,V.ld0,J.blk.ld4,true_and,and_self];refine OwnV.app1 J.rl ZR a5 S.ints.one oM oM λE w6 Q y ah=>?_;have a1:∀x,σ.foot bs x->x≠p:=λx d e=>by have:=h.lt d;omega
 have W:=V.same y λe=>a1 p (.inr (.inr (.inr e))) rfl;have X:=J.blk.same y λe=>h.s2 _ e rfl;have aa:Same (σ.foot bs) T w6:=y.mono λx _ e=> .inr (.inr (.inr e));simp only[push_cast,W.ld0,true_and];have j:∀x,v3.ownBlock=some x->w.heap.size<=x/\x<T.heap.size:=λx d=>⟨by have:=ag x d;omega,S.lt d⟩;have u:∀x,E.ownBlock=some x->σ.vr.ownBlock=some x\/T.heap.size<=x:=ah;refine X.st Q.vals.cells1 Q.vals.one Q2 rfl λw7 D ay a6=>?_;have f:Same (σ.foot bs) T w7:=aa.trans (D.mono λx _ e=> .inr (.inl e));have H:Same (λx=>x=bs\/σ.vr.ownBlock=some x) T w7:=(y.mono λx _ e=> .inr e).trans (D.mono λx _ e=> .inl e);have a9:=W.same D λe=>a1 bs (.inr (.inl rfl)) e.symm;have ax:=y.size;have a3:∀x,E.ownBlock=some x->x≠bs:=λx d e=>by
  rcases u x d with m|m
  ·exact h.s2 x m e
  ·have:=h.lt (.inr (.inl (rfl:bs=bs)));omega
 have ac:SR N (λb=>Fr b\/v3.ownBlock=some b) w7 bs many c {s with learned:=s.learned++[learnM many c s s.put.length (atM c s k)]} {σ with vr:=E,ls:=σ.ls++[v3]}:=by
  have fr:∀{x},σ.foot bs x->¬(Fr x\/v3.ownBlock=some x):=λ{x} d e=>by
   rcases e with e|e
   ·exact h.notF d e
   ·have:=h.lt d;have:=(j x e).1;omega
  refine⟨a6,h.cm,(J.cl.same f λx hF _ d=>h.notF d hF).weaken λx d _=> .inl d,?_,?_,?_,by simp[h.lsl],?_,h.s1,a3,?_,?_,?_⟩
  ·refine(J.tr.same H λx d e=>?_).reframe λx d=>fr (.inl d);rcases e with e|e
   ·exact h.st x (.inl e) d
   ·exact h.st x (.inr (.inr e)) d
  ·refine J.rw.same H λx d e=>?_;rcases e with e|e
   ·exact h.s1 x d e
   ·exact h.s3 x d e
  ·exact Q.same D λx d e=>a3 x d e
  ·refine RowsR.snoc ((J.ll.same f λx hF _ d=>h.notF d hF).weaken λx d _ _=> .inl d) h.lsl (S.same f λx d hf=>?_) (λx d=>⟨.inr d,?_⟩) λi x hi d e=>?_
   ·have:=h.lt hf;have:=(j x d).1;omega
   ·have:=h.ll.nle;have:=(j x d).1;omega
   ·have:=(h.ll.own i hi).lt d;have:=(j x e).1;omega
  ·intro x d e;rcases u x e with m|m
   ·exact h.s3 x d m
   ·have:=h.lt (.inr (.inr (.inl d)));omega
  ·rintro x (e|e|e) ht
   ·exact h.st x (.inl e) ht
   ·exact h.st x (.inr (.inl e)) ht
   ·rcases u x e with m|m
    ·exact h.st x (.inr (.inr m)) ht
    ·have:=h.lt (.inl ht);omega
  ·rintro x (e|e|e) hF
   ·exact fr (.inr (.inl e)) hF
   ·exact fr (.inr (.inr (.inl e))) hF
   ·rcases u x e with m|m
    ·exact fr (.inr (.inr (.inr m))) hF
    ·rcases hF with hF|hF
     ·have:=q x hF;omega
     ·have:=(j x hF).2;omega
 simp only[push_cast,a9.ld0];have an:=f.size;refine goBack_spec ac λσ8 w8 n hn ab z ad=>?_;subst hn;have a0:∀x,(SV.foot {σ with vr:=E,ls:=σ.ls++[v3]} bs) x->σ.foot bs x\/T.heap.size<=x:=by
  rintro x (e|e|e|e)
  ·exact .inl (.inl e)
  ·exact .inl (.inr (.inl e))
  ·exact .inl (.inr (.inr (.inl e)))
  ·exact(u x e).imp (λe=> .inr (.inr (.inr e))) id
 have az:=z.size;refine hK w8 ⟨λb=>Fr b\/v3.ownBlock=some b,σ8,?_,?_,λx d=>?_,λx d=>?_,λx d=>?_⟩
 ·unfold k7;rw[if_neg g,if_neg oM];exact ab
 ·have o:Ext w T:=E3.trans (r.trans C);have am:=o.size;refine⟨(z.os.trans f.os).trans o.os,(z.tape.trans f.tape).trans o.tape,(z.output.trans f.output).trans o.output,oM,λx d hn=>?_⟩;rw[z.block x oM λhf=>?_,f.block x oM hn,o.block x d id];rcases a0 x hf with e|e
  ·exact hn e
  ·omega
 ·rcases a0 x (ad x d) with e|e
  ·exact .inl e
  ·exact .inr oM
 ·rcases d with e|e
  ·exact .inl e
  ·exact .inr (j x e).1
 ·rcases d with e|e
  ·have:=q x e;omega
  ·have:=(j x e).2;omega
theorem neg_ne {n:Nat} (h:1<=n): -(n:Int)≠0:=oM
theorem satOk.bnd (h:satOk many c s) (b:c.many=many) {cl:List Int} (a:cl∈c.list++s.learned) {l:Int} (d:l∈cl):l≠0/\l.natAbs<=many:=by
 have:=clauseOk_lit (satOk.cls h a) d;omega
theorem step_spec (h:SR N Fr w bs many c s σ) (g:satOk many c s) (r:c.many=many) (q:∀b,Fr b->b<w.heap.size)
  (o:∀w',StepTo N Fr w bs many c (stepM many c s) σ w'->K (.tuple #[]) w'):
  vcall Xy #[oP bs 0] w K:=by
 refine ze {ord:=[oz 1 (oR 22) [(0,[4,5,6,7,8,9,10,11,12,13]),(1,[4,5,6,7,8,9,10,11,12,13]),(2,[4,5,6,7,8,9,10,11,12,13]),(3,[4,5,6,7,8,9,10,11,12,13]),(4,[9,10,11,12]),(5,[9,10,11,12]),(6,[9,10,11,12]),(7,[9,10,11,12]),(8,[9,10,11,12]),(16,[17,18]),(17,[18,19]),(18,[19,20])],oz 10 (oR 15) [(0,[8,9,10,11,12]),(1,[8,9,10,11,12]),(2,[8,9,10,11,12]),(3,[8,9,10,11,12]),(4,[8,9,10,11,12]),(5,[8,9,10,11,12]),(6,[8,9,10,11,12]),(7,[8,9,10,11,12])]],loops:=[(3,[5])]} Tryz.func161 ?_;obtain⟨a3,z⟩:=satOk.many' g r;have a9:=g.few;simp only[push_cast,h.blk.ld5];refine zb (λa=>o w (by unfold stepM;rw[if_neg (by simpa using a)];exact StepTo.refl h q)) (λa=>?_);have O:stepM many c s=goM many c s:=if_pos (by simpa using a);rw[O] at o;clear O;refine zd λw1 H _=>?_;have E:=h.ext H;simp only[push_cast,E.blk.ld1,E.blk.ld2,E.blk.ld4,true_and];obtain⟨cs,ad,X,ac⟩:=E.cl;refine vbuildS_row1 (xs:=[σ.vc,σ.vr]) k70 Q2 jU0 (λx hx=>?_) (by simp) λb2 w2 ab Y ah W=>?_
 ·simp only[gd,gq,or_false] at hx;rcases hx with rfl|rfl
  ·exact X.cells1
  ·exact E.lists.cells1
 have E2:=H.trans Y;have B:=h.ext E2;simp only[push_cast,B.blk.ld2,true_and];have J:Lists (λ_=>True) w2 σ.vr s.learned:=⟨σ.ls,B.lsl,B.lists.weaken λ_ _ _=>trivial,λi hi=>(B.ll.int hi).weaken λ_ _ _=>trivial⟩;have G:Lists (λ_=>True) w2 σ.vc c.list:=B.cl.weaken λ_ _ _=>trivial;have A:([c.list,s.learned]:List (List (List Int))).flatten=c.list++s.learned:=by simp
 refine next_spec (F:=λ_=>True) (vs:=[σ.vc,σ.vr]) (lls:=[c.list,s.learned]) B.tr (Sl.weaken (W.sl1 rfl (by simp)) λ_ _ _=>trivial) rfl (λi hi=>?_) (λcl z l hl=>?_) ?_ λw3 k u x Z I=>?_
 ·match i,hi with
  |0,_=>exact G
  |1,_=>exact J
  |n+2,hi=>exact absurd hi (by simp)
 ·rw[A] at z;exact(satOk.bnd g r z hl).2
 ·rw[A,K3];omega
 rw[A] at I;have D:=E2.trans Z;have R:=h.ext D;have ai:=D.size;have m:∀b,Fr b->b<w3.heap.size:=λb d=>by have:=q b d;omega
 simp only[push_cast,true_and];have f:goM many c s=(if 0<=k then k7 many c s (atM c s k.toNat) else if 0<=u then{s with put:=s.put++[x],why:=s.why++[u]}
  else if s.put.length=many then{s with code:=1} else{s with put:=s.put++[-(Zm many s.put:Int)],why:=s.why++[-1]}):=by
  unfold goM;rw[I]
 have hlen:=g.len;have ag:=(satOk.mks g).len;rcases find_cases s.put (c.list++s.learned) with⟨i,u',x',hi,e,hc⟩|⟨hn,⟨i,x',hi,e,hu,-⟩|⟨e,-⟩⟩
 ·rw[I,Gf,Gf] at e;obtain⟨rfl,rfl,rfl⟩:=e;rw[K3] at hi;rw[if_pos oM,gl] at f;refine zb (λ_=>?_) (λb=>absurd oM b);refine clause_spec R oM oM λv4 T j a6=>?_;have p:=R.ext j;refine resolve_spec p g r hi a6 hc (λb d=>by have:=m b d;have:=j.size;omega) λU y=>?_;rw[f] at o;exact o U (y.ext (D.trans j))
 ·rw[I,Gf,Gf] at e;obtain⟨rfl,rfl,rfl⟩:=e;rw[K3] at hi;rw[if_neg oM,if_pos oM] at f;refine zb (λb=>absurd b oM) (λ_=>zb (λ_=>?_) (λb=>absurd oM b));obtain⟨a7,a8⟩:=unit_mem hu;have d:=satOk.bnd g r (atM_mem (s:=s) hi) a7;refine assign_spec R d.1 d.2 a8 m λσ' T p L a0=>?_;rw[f] at o;refine o T (StepTo.ext ⟨Fr,σ',p,L,a0,λb d=> .inl d,λb d=>?_⟩ D);have:=m b d;have:=L.size;omega
 ·rw[I,Gf,Gf] at e;obtain⟨rfl,rfl,rfl⟩:=e;rw[if_neg oM,if_neg oM] at f;refine zb (λb=>absurd b oM) (λ_=>zb (λb=>absurd b oM) (λ_=>?_));refine zd λT j _=>?_;have p:=R.ext j;have V:=D.trans j;have a4:Ints _ T σ.vp s.put:=p.tr.rp.ints;simp only[push_cast,p.blk.ld0,p.blk.ld2,p.tr.blk.ld0,a4.len,true_and];refine zb (λb=>?_) (λb=>?_)
  ·rw[if_pos oM] at f;refine p.setCode λU y a5 aj=>?_;rw[f] at o;refine o U (StepTo.ext ⟨Fr,σ,y,a5,λb d=> .inl d,λb d=> .inl d,λb d=>?_⟩ V);have:=q b d;have:=V.size;omega
  ·rw[if_neg oM] at f;obtain⟨f1,f2,f3,f4⟩:=free_spec g.mks oM;refine vloop_up (Zm many s.put-1) (λi u w'=>u=[nI (i+1:Nat)]/\Ext w w') ⟨rfl,V⟩ ?_;rintro i _ _ U C hi ⟨rfl,S⟩ hC;have y:=h.ext S;simp only[push_cast,y.blk.ld2];refine assigned_spec y.tr oM λw6 t=>?_;rw[show((i:Int)+1).natAbs=i+1 from by omega];refine zb (λQ=>?_) (λQ=>?_)
   ·have a2:i<Zm many s.put-1:=by
     refine GB λae=>?_;have:i+1=Zm many s.put:=oM;rw[this] at Q;exact Q f3
    simp(disch:=omega) only[push_cast,zl];exact hC a2 _ _ ⟨by simp,S.trans t⟩
   ·have aa:i+1=Zm many s.put:=by
     refine GB λaf=>Q (f4 _ oM oM)
    have e1:IntKind.i64.wrap (0-((i:Int)+1))= -(Zm many s.put:Int):=by rw[zl oM oM];omega
    rw[e1];have h6:=y.ext t;have v:∀b,Fr b->b<w6.heap.size:=λb d=>by have:=q b d;have:=(S.trans t).size;omega
    refine assign_spec h6 (neg_ne f1) (by rw[GV,pt];exact f2) (by rw[GV,pt];exact f3) v λσ' w7 h7 M a1=>?_;rw[f] at o;refine o w7 (StepTo.ext ⟨Fr,σ',h7,M,a1,λb d=> .inl d,λb d=>?_⟩ (S.trans t));have:=v b d;have:=M.size;omega
end
section
variable {w:World} {K:oK} {F Fr:Nat->Prop} {many bs:Nat} {c:Cnf} {s:Sat} {σ:SV} {N:Nat}
theorem run_spec {v:Value} {n:Nat} (hc:CnfR F w v c) (z:cnfOk c=true) (d:c.many=many) (hn:n<=4000)
  (X:∀Fr bs σ w',Ext w w'->SR w.heap.size Fr w' bs many c (runM many c n emptyS) σ->(∀b,σ.foot bs b->w.heap.size<=b)->(∀b,Fr b->F b\/w.heap.size<=b)->(∀b,Fr b->b<w'.heap.size)->K (oP bs 0) w'):
  vcall xo0 #[v,nI n] w K:=by
 refine ze {ord:=[oz 1 (oR 7) [(0,[1,2,3])]],loops:=[(3,[13])]} Tryz.func109 ?_;obtain⟨lv,rfl,R⟩:=hc;have s:many<=700:=by
  have:=z;unfold cnfOk at this;simp only[gg,decide_eq_true_eq] at this;omega
 refine yq λb1 w1 Y J a6 G=>?_;refine zd λw2 m _=>?_;have D:Blk w2 b1 [nI c.many,lv] zq:=G.ext m;rw[D.ldAgg zD];simp only[push_cast,D.ld0,true_and];rw[d];have a7:=m.size;refine newTrail_spec (Fr:=λb=>F b/\b<w.heap.size) s (λb l=>by have:=l.2;omega) λbt vp vpl vl w3 o g L=>?_;have S:=D.ext o;rw[S.ldAgg zD,d];simp only[true_and];refine Q4 UF (us:=[[nI many,lv],[oP bt 0]]) rfl rfl ?_;refine⟨rfl,?_⟩;refine yq λbs A Z t a9 H=>?_;have B:Ext w A:=J.trans (m.trans (o.trans t));have a8:=o.size;have M:=g.ext t;have a0:=(R.ext B).weaken (F':=λb=>F b) λb h _=>h;have y:Lists (λb=>F b/\b<w.heap.size) A lv c.list:=(R.weaken (F':=λb=>F b/\b<w.heap.size) λb T U=>⟨T,U⟩).ext B;have N:∀x,kK bt vp vpl vl x->x<w3.heap.size:=by
  rintro x (rfl|e|e|e)
  ·exact g.blk.lt
  ·exact g.rp.lt e
  ·exact g.rpl.lt e
  ·exact g.rl.lt e
 have p:∀x,(SV.mk lv bt vp vpl vl (.slice none 0 0) (.slice none 0 0) []).f3 bs x->x=bs:=by
  rintro x (e|e|e)
  ·exact e
  ·cases e
  ·cases e
 have I:SR w.heap.size (λb=>F b/\b<w.heap.size) A bs many c emptyS (SV.mk lv bt vp vpl vl (.slice none 0 0) (.slice none 0 0) []):=
  ⟨H,d,y,M,OwnI.nil,OwnV.nil,rfl,RowsR.nil B.size,λx j=>(by cases j),λx j=>(by cases j),λx j=>(by cases j),
   λx j ht=>by have:=p x j;have:=N x ht;omega,λx j hF=>by have:=p x j;have:=hF.2;omega⟩
 have f:∀x,(SV.mk lv bt vp vpl vl (.slice none 0 0) (.slice none 0 0) []).foot bs x->w.heap.size<=x:=by
  rintro x (e|e)
  ·have:=L x e;omega
  ·have:=p x e;omega
 have k:∀q,StepTo w.heap.size (λb=>F b/\b<w.heap.size) A bs many c (runM many c n emptyS) (SV.mk lv bt vp vpl vl (.slice none 0 0) (.slice none 0 0) []) q->K (oP bs 0) q:=by
  rintro q ⟨E,O,r,a2,a3,a4,a5⟩;refine X E bs O q (B.then a2 f) r (λb l=>?_) (λb l=>?_) a5
  ·rcases a3 b l with e|e
   ·exact f b e
   ·omega
  ·rcases a4 b l with e|e
   ·exact .inl e.1
   ·exact .inr oM
 refine vloop_up n (λi u w'=>u=[nI i]/\StepTo w.heap.size (λb=>F b/\b<w.heap.size) A bs many c (runM many c i emptyS) (SV.mk lv bt vp vpl vl (.slice none 0 0) (.slice none 0 0) []) w') ⟨rfl,StepTo.refl I λb l=>by have:=l.2;omega⟩ ?_;rintro i _ _ q C hi ⟨rfl,Q⟩ W;simp only[push_cast];refine zb (λa=>?_) (λa=>?_)
 ·obtain⟨E,O,r,a2,a3,a4,a5⟩:=Q;simp only[push_cast,r.blk.ld5];refine zb (λb=>?_) (λb=>?_)
  ·refine k q ⟨E,O,?_,a2,a3,a4,a5⟩;have e:n=i+(n-i):=oM;rw[e,run_add,run_stop b];exact r
  ·refine step_spec r (run_ok d (empty_ok z)) d a5 λw6 V=>?_;simp(disch:=omega) only[push_cast,zl];refine W oM _ _ ⟨by simp,StepTo.trans a2 a3 a4 (by rw[run_succ];exact V)⟩
 ·have:n=i:=oM;subst this;exact k q Q
theorem kW0:Vals F w (.slice none 0 0) []:=(OwnV.nil (t:=0)).vals.weaken λx a _=>by cases a
theorem js0:Lists F w (.slice none 0 0) []:=⟨[],rfl,kW0,λi hi=>absurd hi (by simp)⟩
theorem SatR.fields {v:Value} (h:SatR F w v s):∃p y l,v= .agg #[p,y,l,nI s.code]/\∀x,x∈[p,y,l,nI s.code]->x.oneCell'=true:=by
 obtain⟨p,y,l,rfl,c,d,ls,_,a,_⟩:=h;refine⟨p,y,l,rfl,λx b=>?_⟩;simp only[gd,gq,or_false] at b;rcases b with rfl|rfl|rfl|rfl
 ·exact c.one
 ·exact d.one
 ·exact a.one
 ·rfl
theorem CnfR.below {v:Value} (h:CnfR F w v c):CnfR (λb=>F b/\b<w.heap.size) w v c:=by
 obtain⟨lv,e,h⟩:=h;exact⟨lv,e,h.weaken λb a d=>⟨a,d⟩⟩
end
section
variable {w:World} {K:oK} {F Fr:Nat->Prop} {many bs:Nat} {c:Cnf} {s:Sat} {σ:SV} {N:Nat}
def Zi (many:Nat) (put:List Int):List Bool:=(List.range many).map λj=>decide (((j+1:Nat):Int)∈put)
theorem valsM_snoc {many:Nat} {put:List Int} {l:Int} (a:Distinct (put++[l])) (g:l≠0):(Zi many put).set (l.natAbs-1) (decide (0<l))=Zi many (put++[l]):=by
 refine gF (by simp[Zi]) λi d f=>?_;rw[G3];simp only[Zi,Pc,G6];have b:∀x,x∈put->x.natAbs≠l.natAbs:=by
  unfold Distinct at a;rw[gx,Gi] at a;exact λx c e=>a.2.2 _ (gW c) _ (by simp) e
 by_cases hi:l.natAbs-1=i
 ·rw[if_pos hi];refine decide_eq_decide.2 ⟨λh=>Gp _ (by rw[gn];omega),λh=>?_⟩;rcases gj.1 h with h|h
  ·exact absurd oM (b _ h)
  ·rw[gn] at h;omega
 ·rw[if_neg hi];refine decide_eq_decide.2 ⟨λh=>gO _ h,λh=>?_⟩;rcases gj.1 h with h|h
  ·exact h
  ·rw[gn] at h;omega
theorem vals_spec (h:SR N Fr w bs many c s σ) (B:∀w' v,Ext w w'->OwnB qw w' v (Zi many s.put)->(∀x,v.ownBlock=some x->w.heap.size<=x)->K v w'):vcall Xx #[oP bs 0] w K:=by
 refine ze {loops:=[(3,[20])]} Tryz.func111 ?_;have E:=h.tr.few;have z:=h.tr.few';simp only[push_cast,h.blk.ld0];refine vmkS_own (bs:=1) qM0 Ux xZ0 rfl oM oM λv1 w1 t e f=>?_;have m:=h.ext e;have o:Ints _ w1 σ.vp s.put:=m.tr.rp.ints;simp only[push_cast,m.blk.ld2,m.tr.blk.ld0,o.len];have r:OwnB qw w1 v1 (Zi many []):=by
  have:Zi many []=List.replicate many false:=gF (by simp[Zi]) λi a b=>(by simp[Zi]);rw[this];unfold OwnB;rw[GF];exact t
 refine vloop_up s.put.length (λi u w'=>u=[nI i]/\Ext w w'/\OwnB qw w' v1 (Zi many (s.put.take i))) ⟨rfl,e,r⟩ ?_;rintro i _ _ w2 C hi ⟨rfl,he,l⟩ A;simp only[push_cast];refine zb (λa=>?_) (λa=>?_)
 ·have g:Ints _ w2 σ.vp s.put:=(h.ext he).tr.rp.ints;simp(disch:=first|omega|simp only[push_cast]) only[push_cast,g.iaddr,g.load];have D:=h.tr.bnd _ (getD_meS (show i<s.put.length by omega));have G:(Zi many (s.put.take i)).length=many:=(by simp[Zi]);refine variable_spec oM oM ?_;obtain⟨q,F⟩:∃q,(s.put.getD i 0).natAbs=q+1:=⟨(s.put.getD i 0).natAbs-1,oM⟩;rw[F,show(((q+1:Nat):Int))=(q:Int)+1 from rfl];have n:=l.bools;simp(disch:=first|omega|simp only[push_cast]) only[Y2,Int.add_sub_cancel,push_cast,zl,n.iaddr];refine l.st q00 oM λw3 k p I=>?_;have j:(Zi many (s.put.take i)).set q (decide (0<s.put.getD i 0))=Zi many (s.put.take (i+1)):=by
   have y:=distinct_take h.tr.dis (i+1);rw[Jv (d:=0) oM] at y⊢;rw[<-valsM_snoc y D.1,show q=(s.put.getD i 0).natAbs-1 from by omega]
  rw[j] at k;exact A oM _ _ ⟨by simp,Ext.then he p λx H=>by have:=f x H;omega,k⟩
 ·rw[gB oM] at l;exact B w2 v1 he l f
end
end Go.Proofs.YtolbhkcajhlllaaGreatDoor
namespace Go.Vc
open Go Go.M
section
variable {w w':World} {K:oK} {F:Nat->Prop} {k:Nat} {v tv:Value} {xs:List (List Value)} {t:TypeId} {ts:List Tm}
theorem Sl.mid (h:Sl F w k v xs) (z:elB t k=true) {a b:Nat} (r:a<=b) (q:b<=xs.length):
  ∃v1,(∀(n p:IntKind) (w':World) (K:oK),xu t v (some (.int n a)) (some (.int p b)) none w' K=K v1 w')/\Sl F w k v1 ((xs.drop a).take (b-a)):=by
 obtain⟨hu,hs⟩:=YJ z;obtain⟨o,c,rfl,B,s,d⟩:=h.shape;refine⟨sliced o a b c k,λn p w' K=>y9 ?_,?_⟩
 ·rw[run_sliceAt_slice w' t _ _ _ _ hu,run_slice_lh w' t _ _ _ hu n p a b oM oM oM,Go.Vc.run_sizeOf hs];simp[Result.andThen]
 ·have f:((xs.drop a).take (b-a)).length=b-a:=by rw[gh,GN];omega
  refine⟨⟨_,c-a,by rw[f];rfl,by rw[f];omega,oM,λm=>?_⟩,λx A=>h.wide x (GU (gX A))⟩;have y:a<b:=Nat.lt_of_not_le λe=>m (gD (by rw[f];omega));obtain⟨g,j,rfl,hF,u,l⟩:=d (λe=>by rw[e] at q;simp at q;omega);rw[if_neg oM];refine⟨g,j+a*k,by simp[yx],hF,u,λi hi=>?_⟩;rw[f] at hi;have:=l (a+i) oM;have e:((xs.drop a).take (b-a)).getD i []=xs.getD (a+i) []:=by
   rw[take_getD hi,y3,pS,<-y3]
  rw[e,show j+a*k+i*k=j+(a+i)*k by rw[GS];omega];exact this
theorem TmsR.one (h:TmsR F w tv ts):tv.oneCell'=true:=by
 obtain⟨_,h,_⟩:=h;obtain⟨a,c,rfl,_⟩:=h.shape;rfl
theorem TmsR.cellsV (h:TmsR F w tv ts):tv.cells= #[tv]:=by
 obtain⟨_,h,_⟩:=h;obtain⟨a,c,rfl,_⟩:=h.shape;rfl
end
end Go.Vc
namespace Go.M
open Go.Vc
abbrev Lay:=List Dcl×List Tm
end Go.M
namespace Go.Proofs.YtolbhkcajhlllaaGreatDoor
open Go Go.Vc Go.Proofs
section
variable {w w':World} {K:oK} {F F' F2 H H2 S:Nat->Prop} {k:Nat} {v uv tv:Value} {t:TypeId} {ts us:List M.Tm}
def LstH (H:Nat->Prop) (w:World) (tv:Value) (ts:List M.Tm):Prop:= ∃css,Own 0 5 zk w tv css/\css.length=ts.length/\∀i,i<ts.length->TmR H w (css.getD i []) (ts.getD i default)
theorem LstH.nil:LstH H w (.slice none 0 0) []:=⟨[],Own.nil 0 5 _ w,rfl,λi hi=>absurd hi (Pl _)⟩
theorem LstH.lt (h:LstH H w tv ts) {b:Nat} (a:tv.ownBlock=some b):b<w.heap.size:=by obtain⟨_,c,_⟩:=h;exact(c.lt a).2
theorem LstH.same (h:LstH H w tv ts) (hw:Same S w w') (b:∀x,tv.ownBlock=some x->¬S x) (c:∀x,H x->x<w.heap.size->¬S x):LstH H w' tv ts:=by
 obtain⟨css,e,d,hi⟩:=h;exact⟨css,e.same hw b,d,λi a=>(hi i a).same hw c⟩
theorem LstH.ext (h:LstH H w tv ts) (hw:Ext w w'):LstH H w' tv ts:=h.same hw (λ_ _ h=>h) λ_ _ _ h=>h
theorem LstH.weaken (h:LstH H w tv ts) (c:∀b,H b->b<w.heap.size->F b):LstH F w tv ts:=by
 obtain⟨css,e,d,hi⟩:=h;exact⟨css,e,d,λi a=>(hi i a).weaken c⟩
theorem LstH.tms (h:LstH H w tv ts):TmsR (λx=>H x\/tv.ownBlock=some x) w tv ts:=by
 obtain⟨css,d,c,hi⟩:=h;exact⟨css,d.sl.weaken λx b _=> .inr b,c,λi a=>(hi i a).weaken λx b _=> .inl b⟩
theorem jn0 {α:Type} {l r:List α} {i:Nat} {e:α} (h:l.length<=i):(l++r).getD i e=r.getD (i-l.length) e:=by
 rw[y3,Gr h,<-y3]
theorem LstH.app {ty:Nat} {c:List (List Value)} (h:LstH H w tv ts) (o:∀x,tv.ownBlock=some x->¬H x/\¬H2 x) (hu:Sl F2 w 5 uv c) (j:c.length=us.length) (g:∀i,i<us.length->TmR H2 w (c.getD i []) (us.getD i default))
  (r:ts.length+us.length<=1000000000)
  (p:∀w' b,Same (λx=>tv.ownBlock=some x) w w'->(∀x,b.ownBlock=some x->tv.ownBlock=some x\/w.heap.size<=x)->LstH (λx=>(H x\/H2 x)/\x<w.heap.size) w' b (ts++us)->K b w'):
  vbi .append [zk,zk] ty [tv,uv] w K:=by
 obtain⟨css,q,f,hi⟩:=h;refine vappend qz dC q hu (one_tms j g) (gP _) oM oM λb w2 m d l=>p w2 b d l ⟨css++c,m,by simp[f,j],λi k=>?_⟩;rw[K3] at k;by_cases n:i<ts.length
 ·rw[M.app_getD oM,M.app_getD n];exact((hi i n).weaken (F':=λx=>(H x\/H2 x)/\x<w.heap.size/\H x) λx a f=>⟨.inl a,f,a⟩).same d (λx a _ e=>(o x e).1 a.2.2)|>.weaken λx a _=>⟨a.1,a.2.1⟩
 ·rw[jn0 oM,jn0 oM,f];exact((g _ oM).weaken (F':=λx=>(H x\/H2 x)/\x<w.heap.size/\H2 x) λx a f=>⟨.inr a,f,a⟩).same d (λx a _ e=>(o x e).2 a.2.2)|>.weaken λx a _=>⟨a.1,a.2.1⟩
theorem LstH.push {ty:Nat} {t:M.Tm} (h:LstH H w tv ts) (m:∀x,tv.ownBlock=some x->¬H x/\¬H2 x) (q:TermR H2 w uv t) (p:ts.length<=2000000)
  (o:∀w' a,Same (λx=>tv.ownBlock=some x) w w'->(∀x,a.ownBlock=some x->tv.ownBlock=some x\/w.heap.size<=x)->LstH (λx=>(H x\/H2 x)/\x<w.heap.size) w' a (ts++[t])->K a w'):
  vbuildS zk 1 [(0,uv)] w λs w1=>vbi .append [zk,zk] ty [tv,s] w1 K:=by
 obtain⟨cs,rfl,f⟩:=q.cells;refine xt yp yB zn rfl (zQ f) dC λb w1 u d r g=>?_;have v:=d.size;refine LstH.app (H2:=λx=>H2 x/\x<w.heap.size) (us:=[t]) ((h.weaken (F:=λx=>H x/\x<w.heap.size) λx c j=>⟨c,j⟩).ext d) (λx c=>⟨λe=>(m x c).1 e.1,λe=>(m x c).2 e.1⟩) (g.sl1k (zQ f)) rfl (λi hi=>?_) (by simp;omega) λw2 a l k n=>?_
 ·have:i=0:=(by simpa using hi);subst this;exact(f.weaken λx c j=>⟨c,j⟩).ext d
 ·refine o w2 a ((Same.of_ext d).trans l) (λx c=>(k x c).imp id λh=>oM) (n.weaken λx c _=>?_);rcases c.1 with h|h
  ·exact⟨.inl h.1,h.2⟩
  ·exact⟨.inr h.1,h.2⟩
end
section
variable {b:Nat} {c:List M.Lay}
theorem two_one {a b:Value} (d:a.oneCell'=true) (e:b.oneCell'=true):∀x,x∈[a,b]->x.oneCell'=true:=λx c=>by
 simp only[gd,gq,or_false] at c;rcases c with rfl|rfl<;>assumption
end
section
variable {w w' w1 w2:World} {K:oK} {F D G H S:Nat->Prop} {n b k p many:Nat} {v lv tv dv nv ev x3 x4 x5 f:Value} {t:M.Tm} {ts:List M.Tm} {ds:List M.Dcl} {c:M.Cnf} {ar ab at_ an am:Addr}
theorem kZ0 {o:Nat} {cs cs':List Value} {t0 t:TypeId} (h:Blk w b cs t0) (e:o+cs'.length<=cs.length) (g:aggB t cs'.length=true) (a:∀v,v∈cs'->v.oneCell'=true)
  (c:∀w',Same (· =b) w w'->w'.heap.size=w.heap.size->Blk w' b (cs.take o++cs'++cs.drop (o+cs'.length)) t0->K undef w'):zU t (oP b o) (.agg ⟨cs'⟩) w K:=by
 have f:=run_storeCells_at (P:=P) b o t0 cs' 0 ⟨cs⟩ w h (by simpa using e) a;refine⟨(),_,?_,c (w.setRow b (cs.take o++cs'++cs.drop (o+cs'.length)).toArray) ⟨rfl,rfl,rfl,by simp,λk _ d=>setRow_other w b k _ d⟩ (by simp) (setRow_heap w b _ _ t0 _ h)⟩;simp only[Instr.storeAt,Instr.sureAddr,Sem.run_bind,Sem.run_pure,Result.andThen_ok,storeVar,j5 g,Value.cells];simp only[GW,ne_eq,not_true_eq_false,if_false];exact f
theorem jobFold_spec (r:Blk w b [dv,tv,nv,x3,x4,x5] y6) (hd:DclsR F w dv ds) (N:TmsR F w tv ts) (a6:∀x,F x->x≠b) (hs:ts.length<=2000000) (Z:Sent w yO at_)
  (U:∀t,t∈ts->M.tsort ds t≠0->∀w',Ext w w'->K (erv at_) w')
  (V:(∀t,t∈ts->M.tsort ds t=0)->∀w' L,Same (· =b) w w'->Blk w' b [dv,L,nv,x3,x4,x5] y6->TmsR (λx=>w.heap.size<=x) w' L (ts.map (Qu ds))->K .nilIface w'):
  vcall jR #[oP b 0] w K:=by
 refine ze {ord:=[oz 5 (oR 7) [(0,[4]),(1,[4]),(2,[4]),(3,[4])],oz 7 (oR 10) [(0,[1,2,3,4,5,6,7]),(1,[5]),(2,[5]),(3,[5]),(4,[5])]],loops:=[(3,[3,11])]} Tryz.func77 ?_;have lb:=r.lt;simp only[push_cast,r.ld1,N.len];refine vloop_up ts.length (λi u w'=> ∃lv H,u=[lv,nI i]/\Ext w w'/\LstH H w' lv ((ts.take i).map (Qu ds))/\(∀x,H x->w.heap.size<=x)/\(∀x,lv.ownBlock=some x->w.heap.size<=x/\¬H x)/\∀j,j<i->M.tsort ds (ts.getD j default)=0)
  ⟨_,λ_=>False,rfl,Same.refl _ _,LstH.nil,λx d=>d.elim,λx d=>(by cases d),λj D=>absurd D oM⟩ ?_
 rintro i _ _ w2 C hi ⟨lv,H,rfl,c,f,hH,hO,n⟩ hC;simp only[push_cast];refine zb (λa=>?_) (λa=>?_)
 ·have m:i<ts.length:=oM;have G:=N.ext c;simp(disch:=first|omega|simp only[push_cast]) only[push_cast,G.iaddr];refine G.load zc m λx d=>?_;obtain⟨cs,rfl,l⟩:=d.cells;have hg:aggB za cs.length=true:=by rw[zQ l];exact zc
  refine zj zn λb3 w3 a7 s a3 o=>?_;refine stTerm o rfl (l.ext s) λw4 a0 a8 R=>?_;refine zd λw5 v _=>?_;have k:Ext w2 w5:=(Ext.then s a0 λy hy=>by subst hy;omega).trans v;have S:=r.ext (c.trans k);have q5:=R.ext v;simp only[push_cast,S.ld0,true_and];rw[q5.ldAgg (t:=za) hg];refine⟨rfl,?_⟩;refine TermSort_spec (hd.ext (c.trans k)) (l.ext k).term λw6 z=>?_;have p:=k.trans z;have e6:=c.trans p;simp only[push_cast,true_and];refine zb (λO=>?_) (λO=>?_)
  ·have I:=Z.same e6 id;rw[y5 xq I.cell];exact U _ (M.getD_mem m _) O _ e6
  ·refine zd λw7 A _=>?_;have g:=p.trans A;have T:=r.ext (c.trans g);have q7:=q5.ext (z.trans A);simp only[push_cast,T.ld0,true_and];rw[q7.ldAgg (t:=za) hg];refine⟨rfl,?_⟩;refine TermFold_spec (hd.ext (c.trans g)) (l.ext g).term λw8 a5 B Y=>?_;have q:=g.trans B;have a9:=g.size;have z2:=c.size;have z8:=B.size;have llt:∀x,lv.ownBlock=some x->x<w2.heap.size:=λx d=>f.lt d;refine LstH.push (f.ext q) (λx d=>⟨(hO x d).2,λe=>by have:=llt x d;omega⟩) (ye0 _ Y).term (by rw[y4,gh];omega) λw9 a4 a2 X E=>?_
   try simp only[push_cast]
   rw[inc64' oM];rw[show(ts.take i).map (Qu ds)++[Qu ds (ts.getD i default)]=(ts.take (i+1)).map (Qu ds) by rw[<-Ju m,gx];rfl] at E;refine hC m _ _ ⟨a4,_,rfl,Ext.then (c.trans q) a2 λx d=>(hO x d).1,E,λx d=>?_,λx d=>?_,λj D=>?_⟩
   ·rcases d.1 with h|h
    ·exact hH x h
    ·have:=h.1;omega
   ·rcases X x d with e|e
    ·refine⟨(hO x e).1,λh=>?_⟩;have:=llt x e;rcases h.1 with h|h
     ·exact(hO x e).2 h
     ·have:=h.1;omega
    ·exact⟨oM,λh=>by have:=h.2;omega⟩
   ·by_cases e:j<i
    ·exact n j e
    ·have:j=i:=oM;subst this;exact GZ.1 O
 ·have W:i=ts.length:=oM;subst W;rw[gw] at f;have Q:=r.ext c;refine Q.st (i:=1) f.tms.cellsV f.tms.one xI rfl λw3 J a3 o=>?_;refine V (λt N=>?_) w3 lv ((Same.of_ext c).trans J) o ?_
  ·obtain⟨j,D,rfl⟩:=gm N;have:=n j D;rwa[y3,V0 D] at this
  ·exact(f.tms.same J λx d _ e=>by
    have:w.heap.size<=x:=d.elim (hH x) λh=>(hO x h).1;omega).weaken λx d _=>d.elim (hH x) λh=>(hO x h).1
theorem jobBlast_spec (z:Blk w b [dv,tv,nv,x3,x4,x5] y6) (H:DclsR F w dv ds) (L:TmsR G w tv ts) (he:Errs (λ_=>False) w ar ab) (D:Sent w yO at_)
  (N:∀w' lv ls,Same (· =b) w w'->Blk w' b [dv,tv,nv,nI (cnfE ds ts).1.many,lv,x5] y6->CnfO w.heap.size w' lv ls (cnfE ds ts).1->K (errV ar at_ (cnfE ds ts).2) w'):vcall jl #[oP b 0] w K:=by
 refine ze {cuts:=[(8194,[3,4])],trees:=[(1,(.st 0 (.st 1 (.st 2 (.st 3 (.st 4 (.st 5 (.st 6 (.st 7 (.alt 8 (.st 9 (.st 10 (.st 11 (.alt 12 (.alt 13 (.st 14 .nil) .no) .no)))) (.alt 12 (.alt 8 (.st 9 (.st 10 (.st 11 (.alt 13 (.st 14 .nil) .no)))) .no) .no)))))))))),[(0,[1,2,3,8,9,10,11,13,14]),(1,[2,3,8,9,10,11,13,14]),(2,[3,8,9,10,11,13,14]),(3,[8,9,10,11,13,14]),(4,[5,6,7,8,9,10,11,13,14]),(5,[6,7,8,9,10,11,13,14]),(6,[7,8,9,10,11,13,14]),(7,[8,9,10,11,13,14]),(8,[9,10,11,13,14]),(9,[10,11,13,14]),(10,[13,14]),(11,[14]),(12,[13,14]),(13,[14])])]} Tryz.func78 ?_;have lb:=z.lt;refine zp (λu w'=> ∃b3 lv ls,u=[oP b3 0,errV ar at_ (cnfE ds ts).2]/\Ext w w'/\w.heap.size<=b3/\Blk w' b3 [nI (cnfE ds ts).1.many,lv] zq/\CnfO w.heap.size w' lv ls (cnfE ds ts).1) (λJ E=>?_) ?_
 ·refine zd λw1 c _=>?_;have k:=z.ext c;have U:=c.size;have j:=D.same c id;have i:=he.ext0 c;simp only[push_cast,k.ld0,k.ld1,true_and,and_true];refine⟨?_,?_⟩
  ·refine blastCnf_spec (H.ext c) (L.ext c) i j λw2 lv ls g f=>?_;have z2:=g.size;simp only[push_cast,true_and,and_true];refine zj xp λb3 w3 m a s d=>?_;have C:=f.ext a
   try simp only[push_cast,true_and,and_true,and_self]
   refine d.stAgg (cs':=[nI (cnfE ds ts).1.many,lv]) rfl zD (two_one rfl C.lst.vals.one) λS q Q A=>?_
   try simp only[push_cast,true_and,and_true,and_self]
   refine E _ _ ⟨b3,lv,ls,rfl,Ext.then ((c.trans g).trans a) q λy O=>oM,oM,A,(f.same ((Same.of_ext a).trans q) λx M I e=>oM).down oM⟩
  ·refine zj xp λb3 w3 m a s d=>?_;have h:=k.ext a;have v:=c.trans a;have z3:=a.size;simp only[push_cast,h.ld0,h.ld1,true_and,and_self];refine blastCnf_spec (H.ext v) (L.ext v) (i.ext0 a) (j.same a id) λS lv ls n l=>?_;simp only[push_cast,true_and,and_true];refine(d.ext n).stAgg (cs':=[nI (cnfE ds ts).1.many,lv]) rfl zD (two_one rfl l.lst.vals.one) λT r R B=>?_
   try simp only[push_cast,true_and,and_true,and_self]
   exact E _ _ ⟨b3,lv,ls,rfl,Ext.then (v.trans n) r λy O=>oM,oM,B,(l.same r λx M I e=>oM).down oM⟩
 ·rintro _ _ w2 ⟨b3,lv,ls,rfl,g,m,d,f⟩;simp only[push_cast];rw[d.ldAgg (t:=zq) zD]
  try simp only[push_cast]
  refine kZ0 (o:=3) (z.ext g) (by simp) zD (two_one rfl f.lst.vals.one) λw3 p s d=>?_;exact N w3 lv ls ((Same.of_ext g).trans p) d (f.same p λx M I e=>oM)
theorem jobExclude_spec (d:Blk w b [dv,tv,.slice none 0 0,x3,x4,x5] y6) (e:K .nilIface w):vcall qF #[oP b 0] w K:=by
 refine ze {loops:=[(2,[13]),(6,[5,24])]} Tryz.func79 ?_;have c:Vals (λ_=>False) w (.slice none 0 0) []:=OwnV.nil (t:=zI)|>.vals.weaken λx f _=>(by cases f);simp only[push_cast,d.ld2,c.len,pN];refine vloop_up 0 (λi u w'=>u=[nI i]/\w'=w) ⟨rfl,rfl⟩ ?_;rintro i _ _ _ C hi ⟨rfl,rfl⟩ g;simp only[push_cast];refine zb (λa=>absurd a oM) (λ_=>e)
theorem vals_ins {put:List Int} (h:1+n<=many):((Zi many put).drop 1).take n=M.insV (M.wayM put) n:=by
 refine gF (by simp[Zi,M.insV];omega) λi a b=>?_;simp[Zi,M.insV,M.wayM,Nat.add_comm 1 i,Pd];rw[show(i:Int)+1+1=i+2 by omega]
theorem jobSearch_spec (g:Blk w b [dv,tv,nv,nI c.many,lv,x5] y6) (hd:DclsR F w dv ds) (a1:∀x,F x->x≠b) (l:M.declOk ds=true) (hc:CnfR G w (.agg #[nI c.many,lv]) c) (u:M.cnfOk c=true) (hn:1+M.nIn ds<=c.many.toNat) (W:Sent w jj an) (U:Sent w qr am)
  (m:(M.searchM 4000 ds c).2=1->∀w' ev,Same (· =b) w w'->Blk w' b [dv,tv,nv,nI c.many,lv,ev] y6->OwnI zh w' ev (M.searchM 4000 ds c).1->(∀x,ev.ownBlock=some x->w.heap.size<=x)->K .nilIface w')
  (o:M.searchM 4000 ds c=([],2)->∀w',Ext w w'->K (erv an) w') (p:M.searchM 4000 ds c=([],3)->∀w',Ext w w'->K (erv am) w'):vcall qY #[oP b 0] w K:=by
 refine ze {ord:=[oz 4 [0,1,2,3,4,5,7,8,9,10,6,11,12,13,14,15,16,17] [(0,[1,2,3,4,5,7,8,9,10,6,11,12,13,14]),(1,[5,7,8,9,10,6,11,12,13]),(2,[5,7,8,9,10,6,11,12,13]),(3,[5,7,8,9,10,6,11,12,13]),(4,[5,7,8,9,10,6,11,12,13]),(5,[7,8,9,10]),(7,[6]),(8,[6]),(9,[6]),(10,[6])]]} Tryz.func80 ?_;have lb:=g.lt;obtain⟨V,a5⟩:=M.nIn_eq l;have R:zt zq (oP b 3) w=λK=>K (.agg #[nI c.many,lv]) w:=by
  funext K
  refine Xj (cs:=[nI c.many,lv]) zD λi v C=>?_;rw[yx]
  match i,C with
  |0,C=>exact g.cell (by simpa using C)
  |1,C=>exact g.cell (by simpa using C)
 simp only[push_cast];rw[R];have a3:0<=c.many:=oM
 refine run_spec (many:=c.many.toNat) (n:=4000) hc u oM (gu _) λFr bs σ w2 f h _ _ _=>?_;have a0:=g.ext f;have z2:=f.size;simp only[push_cast,h.blk.ld5];have d:M.searchM 4000 ds c=if(M.runM c.many.toNat c 4000 M.emptyS).code=1 then(M.envB ds (M.insV (M.wayM (M.runM c.many.toNat c 4000 M.emptyS).put) (M.nIn ds)),1) else if(M.runM c.many.toNat c 4000 M.emptyS).code=2 then([],2) else([],3):=rfl
 generalize M.searchM 4000 ds c=sr at d m o p;generalize hs:M.runM c.many.toNat c 4000 M.emptyS=s at h d;refine zb (λa=>?_) (λa=>?_)
 ·rw[if_pos a] at d;refine zd λw3 z _=>?_;have e3:=f.trans z;have J:=g.ext e3;simp only[push_cast,J.ld0,true_and];refine vals_spec (h.ext z) λw4 vv S X a4=>?_;have I:=e3.trans S;have L:=g.ext I;simp only[push_cast,L.ld0,true_and,and_self];refine bitsOf_spec (hd.ext I) l λw5 A=>?_;have H:=I.trans A;have N:=g.ext H;simp only[push_cast,N.ld0,true_and,and_self];rw[zl oM oM,<-V,show(1:Int)+(M.nIn ds:Int)=((1+M.nIn ds:Nat):Int) by omega];obtain⟨v6,y,Y⟩:=Sl.mid (X.ext A).bools (t:=qw) (k:=1) yC0 (a:=1) (b:=1+M.nIn ds) oM (by simp[Zi];omega);rw[show(1:Int)=((1:Nat):Int) from rfl,y]
  try simp only[push_cast,true_and]
  have D:Bools (λx=>vv.ownBlock=some x) w5 v6 (M.insV (M.wayM s.put) (M.nIn ds)):=by
   have q:=Y;rw[show 1+M.nIn ds-1=M.nIn ds by omega,<-Pf,<-Gz,<-Pf,<-Gz,vals_ins hn] at q;exact q
  refine BlastEnv_spec (hd.ext H) D l (by rw[M.insV_len]) λw7 r T j B=>?_;have e7:=H.trans T;have O:=g.ext e7
  try simp only[push_cast,true_and]
  refine O.st (i:=5) j.ints.cells1 j.ints.one ja rfl λw8 E a6 Q=>?_;have z5:=H.size;subst d;exact m rfl w8 r ((Same.of_ext e7).trans E) Q (j.same E λx Z e=>by have:=B x Z;omega) λx Z=>by have:=B x Z;omega
 ·rw[if_neg a] at d;refine zb (λa2=>?_) (λa2=>?_)
  ·rw[if_pos a2] at d;rw[y5 xq (W.same f id).cell];exact o d w2 f
  ·rw[if_neg a2] at d;rw[y5 xq (U.same f id).cell];exact p d w2 f
end
section
variable {w w' w1 w2:World} {K:oK} {F F' D G H S:Nat->Prop} {n b k p:Nat} {v lv tv dv ev f:Value} {xs:List Nat} {t:M.Tm} {ts us:List M.Tm} {ds:List M.Dcl} {c:M.Cnf} {ar ab at_ an am:Addr}
def RowA (w:World) (a:Addr):Prop:= ∃(c:Array Value) (t:TypeId),w.heap[a.block]?=some (.cells c t (0,0))
theorem RowA.ext {a:Addr} (h:RowA w a) (he:Ext w w'):RowA w' a:=by
 obtain⟨c,t,h⟩:=h;refine⟨c,t,?_⟩;rw[he.block _ (gA.1 h).1 id];exact h
structure Er (w:World) (at_ an am ar ab:Addr):Prop where
 terms:Sent w yO at_
 no:Sent w jj an
 much:Sent w qr am
 errs:Errs (λ_=>False) w ar ab
 rt:RowA w at_
 rn:RowA w an
 rm:RowA w am
 rr:RowA w ar
 d1:an≠at_
 d2:am≠at_
 d3:am≠an
 d4:ar≠at_
 d5:ar≠an
 d6:ar≠am
theorem Er.ext (h:Er w at_ an am ar ab) (he:Ext w w'):Er w' at_ an am ar ab:=
 ⟨h.terms.same he id,h.no.same he id,h.much.same he id,h.errs.ext0 he,h.rt.ext he,h.rn.ext he,h.rm.ext he,h.rr.ext he,h.d1,h.d2,h.d3,h.d4,h.d5,h.d6⟩
def errE (at_ an am ar:Addr):Nat->Value
 |0=> .nilIface
 |1=>erv ar
 |2=>erv at_
 |3=>erv an
 |_=>erv am
theorem VS {a c:Addr} (h:a≠c) (f:RowA w a) (g:RowA w c) (e:K (.bool false) w):vcall qf #[erv a,erv c] w K:=by
 obtain⟨_,_,b⟩:=f;obtain⟨_,_,d⟩:=g;exact ku0 h b d e
theorem switch_spec {r q j X:World->Prop} (er:Er w at_ an am ar ab) (k:Nat) (l:k=0->X w) (m:k=1->j w) (n:k=2->r w) (o:k=3->q w) (p:4<=k->j w):
  zt xx (oP yO 0) w λt28 e=>vcall qf #[errE at_ an am ar k,t28] e λt29 b=>vif t29 (r b) (
   zt xx (oP jj 0) b λt32 f=>vcall qf #[errE at_ an am ar k,t32] f λt33 c=>vif t33 (q c) (
    zt xx (oP qr 0) c λt36 g=>vcall qf #[errE at_ an am ar k,t36] g λt37 a=>vif t37 (vif t37 (j a) (X a)) (
     zt xx (oP xR 0) a λt39 i=>vcall qf #[errE at_ an am ar k,t39] i λt40 d=>vif t40 (j d) (X d)))):=by
 rw[y5 xq er.terms.cell]
 match k,l,m,n,o,p with
 |0,l,_,_,_,_=>
  refine qS0 (zo (λh=>by cases h) λ_=>?_);rw[y5 xq er.no.cell];refine qS0 (zo (λh=>by cases h) λ_=>?_);rw[y5 xq er.much.cell];refine qS0 (zo (λh=>by cases h) λ_=>?_);rw[y5 xq er.errs.room.cell];exact qS0 (zo (λh=>by cases h) λ_=>l rfl)
 |1,_,m,_,_,_=>
  refine VS er.d4 er.rr er.rt (zo (λh=>by cases h) λ_=>?_);rw[y5 xq er.no.cell];refine VS er.d5 er.rr er.rn (zo (λh=>by cases h) λ_=>?_);rw[y5 xq er.much.cell];refine VS er.d6 er.rr er.rm (zo (λh=>by cases h) λ_=>?_);rw[y5 xq er.errs.room.cell];exact zN0 (zo (λ_=>m rfl) λh=>by cases h)
 |2,_,_,n,_,_=>exact zN0 (zo (λ_=>n rfl) λh=>by cases h)
 |3,_,_,_,o,_=>
  refine VS er.d1 er.rn er.rt (zo (λh=>by cases h) λ_=>?_);rw[y5 xq er.no.cell];exact zN0 (zo (λ_=>o rfl) λh=>by cases h)
 |k+4,_,_,_,_,p=>
  refine VS er.d2 er.rm er.rt (zo (λh=>by cases h) λ_=>?_);rw[y5 xq er.no.cell];refine VS er.d3 er.rm er.rn (zo (λh=>by cases h) λ_=>?_);rw[y5 xq er.much.cell];exact zN0 (zo (λ_=>zo (λ_=>p oM) λh=>by cases h) λh=>by cases h)
theorem YE0 {d e f:Option Addr} {a c1 b c2 c c3:Nat}:yC y6 [(0,.slice d a c1),(1,.slice e b c2),(2,.slice f c c3)] w K=K (.agg ⟨[.slice d a c1,.slice e b c2,.slice f c c3,nI 0,.slice none 0 0,.slice none 0 0]⟩) w:=
 zT xI0 (us:=[[.slice d a c1],[.slice e b c2],[.slice f c c3]]) rfl rfl
theorem bdJob (b:DclsR F w' dv ds) (d:TmsR G w' tv ts):yC y6 [(0,dv),(1,tv),(2,.slice none 0 0)] w K=K (.agg ⟨[dv,tv,.slice none 0 0,nI 0,.slice none 0 0,.slice none 0 0]⟩) w:=by
 obtain⟨a,c,rfl,_⟩:=b.shape;obtain⟨_,h,_⟩:=d;obtain⟨e,c',rfl,_⟩:=h.shape;exact YE0
def qm0:List Value:=[.func (.func jR) #[] #[],.func (.func jl) #[] #[],.func (.func qF) #[] #[],.func (.func qY) #[] #[]]
theorem stages_spec (d:∀w' b,b=w.heap.size->Ext w w'->Vals (· =b) w' (.slice (some ⟨b,0,none⟩) 4 4) qm0->K (.slice (some ⟨b,0,none⟩) 4 4) w'):vcall WP #[] w K:=by
 refine ze {} Tryz.func48 ?_;exact vbuildS_row1 (xs:=qm0) kJ kC kc (λx a=>by
  simp only[qm0,gd,gq,or_false] at a;rcases a with rfl|rfl|rfl|rfl<;>rfl) dC λb w1 e he f c=>d w1 b e he (c.sl1 rfl dC)
theorem yZ0:yA0 c ds []=c:=by unfold yA0;simp
def JobS (w0:World) (b:Nat) (dv tv:Value) (ds:List M.Dcl) (ts:List M.Tm) (w:World):Nat->Prop
 |0=>Blk w b [dv,tv,.slice none 0 0,nI 0,.slice none 0 0,.slice none 0 0] y6
 |1=>(∀t,t∈ts->M.tsort ds t=0)/\∃tv',Blk w b [dv,tv',.slice none 0 0,nI 0,.slice none 0 0,.slice none 0 0] y6/\TmsR (λx=>w0.heap.size<=x/\x≠b) w tv' (ts.map (Qu ds))
 |4=>(qy ds ts []).2=1/\∃tv' y z ev,Blk w b [dv,tv',.slice none 0 0,y,z,ev] y6/\OwnI zh w ev (qy ds ts []).1/\∀x,ev.ownBlock=some x->w0.heap.size<=x
 |_=>VW ds ts=true/\(cnfE ds (ts.map (M.foldT ds))).2=0/\∃tv' lv ls,Blk w b [dv,tv',.slice none 0 0,nI (cnfE ds (ts.map (M.foldT ds))).1.many,lv,.slice none 0 0] y6/\CnfO w0.heap.size w lv ls (cnfE ds (ts.map (M.foldT ds))).1
theorem solved_spec (hd:DclsR F w dv ds) (L:TmsR G w tv ts) (hs:ts.length<=2000000) (er:Er w at_ an am ar ab)
  (hK:∀w' ev,Ext w w'->OwnI zh w' ev (qy ds ts []).1->(∀x,ev.ownBlock=some x->w.heap.size<=x)->K (.tuple #[ev,nI (qy ds ts []).2]) w'):vcall WQ #[dv,tv,.slice none 0 0] w K:=by
 refine ze {loops:=[(3,[19])]} Tryz.func32 ?_;rw[bdJob hd L];refine zi λb w1 hb R a5 Y=>?_;refine stages_spec λw2 b2 a4 B N=>?_;have z1:=R.size;have z2:=B.size;have e2:=R.trans B;have Z:=Y.ext B;have out:∀{w':World} {k:Int},Ext w w'->qy ds ts []=([],k)->K (.tuple #[.slice none 0 0,nI k]) w':=λ{w' k} he h=>by
  have:=hK w' (.slice none 0 0) he;rw[h] at this;exact this OwnI.nil λx I=>(by cases I)
 simp only[push_cast,N.len];rw[show qm0.length=4 from rfl];refine vloop_up 4 (λi u w'=>u=[nI i]/\Same (· =b) w2 w'/\JobS w b dv tv ds ts w' i) ⟨rfl,Same.refl _ _,Z⟩ ?_;rintro i _ _ w3 C hi ⟨rfl,H,J⟩ hC;have j:Ext w w3:=Ext.then e2 H λy hy=>oM
 have l:=er.ext j;have A:=(hd.weaken (F':=λx=>x<w.heap.size) λx _ h=>h).ext j;have a1:=(L.weaken (F':=λx=>x<w.heap.size) λx _ h=>h).ext j;have O:=N.same H λx I _ e=>oM
 simp only[push_cast];refine zb (λa=>?_) (λa=>?_)
 ·have S:i<4:=oM;rw[O.iaddr kR oM (by show(i:Int)<4;omega),gl,O.load kF (by exact S)];have next:∀{d:World},Same (· =b) w3 d->JobS w b dv tv ds ts d (i+1)->C [nI (IntKind.i64.wrap ((i:Int)+1))] d:=λ{d} c h4=>by
   rw[inc64' oM];exact hC S _ _ ⟨rfl,H.trans c,h4⟩
  have s:∀{d:World},Same (· =b) w3 d->Ext w d:=λ{d} c=>Ext.then j c λy hy=>oM;have two:∀{d:World},Ext w d->¬VW ds ts=true->K (.tuple #[.slice none 0 0,nI 4]) d:=λhe h=>out he (Q8 h);rcases(by omega:i=0\/i=1\/i=2\/i=3) with rfl|rfl|rfl|rfl
  ·show vcall jR #[oP b 0] w3 _;refine jobFold_spec (show Blk w3 b [dv,tv,.slice none 0 0,nI 0,.slice none 0 0,.slice none 0 0] y6 from J) A a1 (λx I=>oM) hs l.terms (λt L h d f=>?_) λg d a3 c o a2=>?_
   ·have q:=j.trans f;exact switch_spec (er.ext q) 2 (λh=>by cases h) (λh=>by cases h) (λ_=>two q λm=>h ((all8_iff.1 m).2.2 t L)) (λh=>by cases h) (λh=>oM)
   ·have z3:=j.size;exact switch_spec (er.ext (s c)) 0 (λ_=>next c ⟨g,a3,o,a2.weaken λx I _=>⟨oM,by have:=J.lt;omega⟩⟩) (λh=>by cases h) (λh=>by cases h) (λh=>by cases h) (λh=>oM)
  ·obtain⟨g,p,n,U⟩:=J;show vcall jl #[oP b 0] w3 _;refine jobBlast_spec n A U l.errs l.terms λd lv ls c o Q=>?_;have q:=s c;by_cases m:VW ds ts=true
   ·have T:ts.map (Qu ds)=ts.map (M.foldT ds):=GK λt L=>(VU (all8_iff.1 m).2.1 (g t L)).2;rw[T] at o Q⊢;have z3:=j.size;rcases je0 (XX m) with r|r
    ·rw[r];exact switch_spec (er.ext q) 0 (λ_=>next c ⟨m,r,p,lv,ls,o,Q.down z3⟩) (λh=>by cases h) (λh=>by cases h) (λh=>by cases h) (λh=>oM)
    ·rw[r];exact switch_spec (er.ext q) 1 (λh=>by cases h) (λ_=>out q (Jw m (by rw[r];decide))) (λh=>by cases h) (λh=>by cases h) (λh=>oM)
   ·have r:(cnfE ds (ts.map (Qu ds))).2=2:=by
     unfold cnfE;rw[if_neg λh=>m (all8_iff.2 ⟨by have:=(all8_iff.1 h).1;rwa[y4] at this,(all8_iff.1 h).2.1,g⟩)]
    rw[r];exact switch_spec (er.ext q) 2 (λh=>by cases h) (λh=>by cases h) (λ_=>two q m) (λh=>by cases h) (λh=>oM)
  ·obtain⟨m,W,p,lv,ls,n,v⟩:=J;show vcall qF #[oP b 0] w3 _;refine jobExclude_spec n ?_;exact switch_spec l 0 (λ_=>next (Same.refl _ _) ⟨m,W,p,lv,ls,n,v⟩) (λh=>by cases h) (λh=>by cases h) (λh=>by cases h) (λh=>oM)
  ·obtain⟨m,W,p,lv,ls,n,v⟩:=J;show vcall qY #[oP b 0] w3 _;obtain⟨V,q2,q3⟩:=solveR_run (nots:=[]) m W (λe he=>by cases he) (by simp);rw[yZ0] at V q2;refine jobSearch_spec n A (λx I=>oM) (all8_iff.1 m).2.1 v.cnf q2 q3 l.no l.much (λX d ev c o D E=>?_) (λh2 d f=>?_) λh3 d f=>?_
   ·exact switch_spec (er.ext (s c)) 0 (λ_=>next c ⟨by rw[V];exact X,p,_,lv,ev,o,by rw[V];exact D,λx I=>by have:=E x I;have:=j.size;omega⟩) (λh=>by cases h) (λh=>by cases h) (λh=>by cases h) (λh=>oM)
   ·exact switch_spec (er.ext (j.trans f)) 3 (λh=>by cases h) (λh=>by cases h) (λh=>by cases h) (λ_=>out (j.trans f) (by rw[V];exact h2)) (λh=>oM)
   ·exact switch_spec (er.ext (j.trans f)) 4 (λh=>by cases h) (λh=>by cases h) (λh=>by cases h) (λh=>by cases h) (λ_=>out (j.trans f) (by rw[V];exact h3))
 ·have a0:i=4:=oM;subst a0;obtain⟨X,p,y,z,ev,hB,D,E⟩:=J;have:=hK w3 ev j D E;rw[X] at this;simp only[push_cast,hB.ld5];exact this
end
end Go.Proofs.YtolbhkcajhlllaaGreatDoor
namespace Go.Proofs.YtolbhkcajhlllaaGreatDoor
open Go Go.Vc Go.Proofs Go.M
section
variable {w:World} {K:oK} {F Fr:Nat->Prop} {many:Nat} {c:Cnf} {s:Sat}
theorem l4Abs_spec {x:Int} (h:x.natAbs<=9223372036854775807) (b:K (nI x.natAbs) w):vcall QQ #[nI x] w K:=by
 refine ze {} Tryz.func213 ?_;simp only[push_cast];refine zb (λa=>?_) (λa=>?_)
 ·rw[zl oM oM,show 0-x=(x.natAbs:Int) from by omega];exact b
 ·rwa[show(x.natAbs:Int)=x from by omega] at b
theorem l5Vals_spec {vc v:Value} {put:List Int} (R:CnfR F w vc c) (A:c.many=many) (G:many<=700) (j:Ints Fr w v put) (hm:marksOk many put)
  (Q:∀w' v',Ext w w'->OwnI zh w' v' (signs many put)->(∀x,v'.ownBlock=some x->w.heap.size<=x)->K v' w'):vcall Wm #[vc,v] w K:=by
 refine ze {loops:=[(3,[6])]} Tryz.func75 ?_;obtain⟨lv,rfl,-⟩:=R;have hlen:=hm.len;refine yq λb w1 I p T O=>?_;have z:Blk w1 b [nI c.many,lv] zq:=O;simp only[push_cast,z.ld0];rw[A,zl oM oM,show((many:Int)+1)=((many+1:Nat):Int) from by omega];refine vmkS_own (bs:=8) xE qL xH rfl oM oM λv1 w2 N B l=>?_;have y:OwnI zh w2 v1 (signs many []):=by rw[qo0];unfold OwnI;rw[GF];exact N
 have J:=p.size;refine vloop_up put.length (λi u w'=>u=[nI i]/\Ext w w'/\OwnI zh w' v1 (signs many (put.take i))) ⟨rfl,p.trans B,by simpa using y⟩ ?_;rintro i _ _ w3 C hi ⟨rfl,g,r⟩ H;have o:=j.ext g;have S:=signs_len many (put.take i);simp only[push_cast,o.len];refine zb (λa=>?_) (λa=>?_)
 ·have h:i<put.length:=oM;simp(disch:=first|omega|simp only[push_cast]) only[push_cast,o.iaddr,o.load];have I:=hm.2 _ (getD_meS h);have q:=M.take_snoc' (d:=0) h;have t:=distinct_take hm.1 (i+1);have k:placeOf (put.take i) (put.getD i 0).natAbs=0:=by
   refine placeOf_zero λx j e=>?_;rw[q] at t;unfold Distinct at t;rw[gx,Gi] at t;exact t.2.2 _ (gW j) _ (by simp) e
  have f:=signs_snoc (many:=many) I.1 k;rw[<-q] at f;have s:=r.ints;have E:IntKind.i64.wrap ((i:Int)+1)=((i+1:Nat):Int):=by rw[zl oM oM];omega
  generalize V:put.getD i 0=x at*;refine zb (λb3=>?_) (λb3=>?_)
  ·simp(disch:=first|omega|simp only[push_cast]) only[push_cast,s.iaddr];rw[show x.toNat=x.natAbs from by omega];refine r.st yT oM λU n m D=>?_;rw[if_pos b3] at f;simp only[push_cast,E];exact H h _ _ ⟨rfl,Ext.then g m λx j=>by have:=l x j;omega,by rw[f];exact n⟩
  ·have L:IntKind.i64.wrap (0-x)=(x.natAbs:Int):=by rw[zl oM oM];omega
   rw[L];simp(disch:=first|omega|simp only[push_cast]) only[push_cast,s.iaddr];refine r.st yT oM λU n m D=>?_;rw[if_neg b3] at f;simp only[push_cast,E];exact H h _ _ ⟨rfl,Ext.then g m λx j=>by have:=l x j;omega,by rw[f];exact n⟩
 ·rw[gB oM] at r;exact Q w3 v1 g r λx j=>by have:=l x j;omega
theorem l5Sign_spec {v:Value} {put:List Int} {m:Int} (b:Ints F w v (signs many put)) (hm:marksOk many put) (c:many<=700) (h:m≠0) (e:m.natAbs<=many) (d:K (nI (Z40 put m)) w):vcall Wn #[v,nI m] w K:=by
 refine ze {} Tryz.func222 ?_;have g:=signs_len many put;simp only[push_cast];refine zb (λa=>?_) (λa=>?_)
 ·simp(disch:=first|omega|simp only[push_cast]) only[push_cast,b.iaddr,b.load];rw[show m.toNat=m.natAbs from by omega,signs_get e,sgn_pos hm a];exact d
 ·have f:IntKind.i64.wrap (0-m)=(m.natAbs:Int):=by rw[zl oM oM];omega
  rw[f];simp(disch:=first|omega|simp only[push_cast]) only[push_cast,b.iaddr,b.load];have:=sgnV_range put m.natAbs;rw[signs_get e,zl oM oM,gJ,sgn_neg hm oM];exact d
theorem l5Look_spec {v v':Value} {put cl:List Int} (t:Ints F w v (signs many put)) (hm:marksOk many put) (g:many<=700) (c:Ints Fr w v' cl) (r:∀l,l∈cl->l≠0/\l.natAbs<=many)
  (p:∀b n x,lookM put cl 0 0=(b,n,x)->K (.tuple #[nI (if b then-1 else(n:Int)),nI (if b then 0 else x)]) w):vcall Wo #[v,v'] w K:=by
 refine ze {loops:=[(4,[6,7,8])]} Tryz.func189 ?_;have hlen:cl.length<=9223372036854775807:=by obtain⟨_,_,_,j,k,_⟩:=c.shape;simp at j;omega
 refine vloop_up cl.length (λi u w'=>w'=w/\∃(n:Nat) (x:Int),u=[nI n,nI x,nI i]/\n<=i/\lookM put (cl.drop i) n x=lookM put cl 0 0) ⟨rfl,0,0,rfl,oM,rfl⟩ ?_;rintro i _ _ _ C hi ⟨rfl,n,x,rfl,y,e⟩ o;simp only[push_cast,c.len];refine zb (λa=>?_) (λa=>?_)
 ·have f:i<cl.length:=oM;simp(disch:=first|omega|simp only[push_cast]) only[push_cast,c.iaddr,c.load];have h:=r _ (getD_meS f);rw[kS (d:=0) f,Qq] at e;refine l5Sign_spec t hm g h.1 h.2 ?_;have m:IntKind.i64.wrap ((i:Int)+1)=((i+1:Nat):Int):=by rw[zl oM oM];omega
  have q:IntKind.i64.wrap ((n:Int)+1)=((n+1:Nat):Int):=by rw[zl oM oM];omega
  generalize s:cl.getD i 0=l at*;simp only[yL0,yM0];unfold Z40;by_cases j:l∈put
  ·rw[if_pos j] at e⊢;have:=p true 0 0 e.symm;exact zb (λ_=>by simpa using this) (λb=>absurd (by decide:(0:Int)<1) b)
  rw[if_neg j] at e⊢;by_cases k:placeOf put l.natAbs=0
  ·rw[if_pos k] at e⊢;refine zb (λb=>absurd b oM) (λ_=>zb (λ_=>?_) (λb=>absurd rfl b));simp(disch:=first|omega|simp only[push_cast]) only[push_cast,c.load];rw[m,q,s];exact o f _ _ ⟨rfl,n+1,l,rfl,oM,e⟩
  ·rw[if_neg k] at e⊢;refine zb (λb=>absurd b oM) (λ_=>zb (λb=>absurd b oM) (λ_=>?_));rw[m];exact o f _ _ ⟨rfl,n,x,rfl,oM,e⟩
 ·rw[gU oM] at e;have:=p false n x e.symm;simpa using this
end
section
variable {w:World} {K:oK} {F Fr F':Nat->Prop} {many:Nat} {c:Cnf} {s:Sat}
theorem inc64 {i:Nat} (h:i<9223372036854775807):IntKind.i64.wrap ((i:Int)+1)=((i+1:Nat):Int):=by rw[zl oM oM];omega
theorem l5Find_spec {vc vl v:Value} {put:List Int} {ls:List (List Int)} (hc:CnfR F w vc c) (hl:Lists F' w vl ls) (hx:Ints Fr w v (signs many put)) (hm:marksOk many put) (z:many<=700) (a4:c.list.length+ls.length<=1000000)
  (hb:∀cl,cl∈c.list++ls->∀l,l∈cl->l≠0/\l.natAbs<=many)
  (hK:∀w' k u x,Ext w w'->findM put (c.list++ls) 0 (-1) 0=(k,u,x)->K (.tuple #[nI k,nI (if 0<=k then-1 else u),nI (if 0<=k then 0 else x)]) w'):vcall Wr #[vc,vl,v] w K:=by
 refine ze {loops:=[(5,[9,10,12])],cuts:=[(36875,[13])]} Tryz.func150 ?_;obtain⟨lv,rfl,X⟩:=hc;obtain⟨cs,U,B,T⟩:=X;obtain⟨es,W,H,V⟩:=hl;refine yq λb w1 a1 E a5 hB=>?_;have A:Blk w1 b [nI c.many,lv] zq:=hB;have D:=B.ext E;simp only[push_cast,A.ld1,D.len];refine vloop_up (c.list.length+ls.length) (λi u w'=> ∃(y x:Int),u=[nI y,nI x,nI i]/\Ext w w'/\Blk w' b [nI c.many,lv] zq/\findM put ((c.list++ls).drop i) i y x=findM put (c.list++ls) 0 (-1) 0) ⟨-1,0,rfl,E,A,rfl⟩ ?_;rintro i _ _ w2 C hi ⟨y,x,rfl,s,S,g⟩ Q;have I:=H.ext s;simp only[push_cast,I.len];rw[U,W,zl oM oM];refine zb (λa=>?_) (λa=>?_)
 ·have o:i<c.list.length+ls.length:=oM;refine yg xw yT λb3 w3 a2 G a6 a0=>?_;have p:=s.trans G;have f:=S.ext G;have q:=B.ext p;have r:=H.ext p;refine zp (λu w'=>w'=w3/\∃v4,u=[v4]/\Ints (λ_=>True) w3 v4 ((c.list++ls).getD i [])) ?_ ?_
  ·intro J Z;refine zb (λa3=>?_) (λa3=>?_)
   ·simp(disch:=first|omega|simp only[push_cast]) only[push_cast,f.ld1,q.iaddr,q.load];refine Z _ _ ⟨rfl,_,rfl,?_⟩;rw[getD_app_l oM];exact((T i oM).ext p).weaken λ_ _ _=>trivial
   ·obtain⟨j,rfl⟩:∃j,i=c.list.length+j:=⟨i-c.list.length,oM⟩;rw[show((c.list.length+j:Nat):Int)-(c.list.length:Int)=(j:Int) from by omega,zl oM oM];simp(disch:=first|omega|simp only[push_cast]) only[push_cast,r.iaddr,r.load];refine Z _ _ ⟨rfl,_,rfl,?_⟩;rw[getD_app_r];exact((V j oM).ext p).weaken λ_ _ _=>trivial
  rintro _ _ _ ⟨rfl,v4,rfl,h4⟩;have L:i<(c.list++ls).length:=by rw[K3];exact o
  have M:(c.list++ls).getD i []∈c.list++ls:=by rw[y3,V0 L];exact G2 _
  rw[kS (d:=[]) L,findM_cons] at g;simp only[push_cast];refine l5Look_spec (hx.ext p) hm z h4 (hb _ M) λO n Y t=>?_;rw[t] at g;dsimp only at g;simp only[push_cast];rw[inc64 oM];have N: ¬(O=true)->((if O then(-1:Int) else(n:Int))=n/\(if O then(0:Int) else Y)=Y):=λh=>⟨if_neg h,if_neg h⟩;by_cases m:O=true
  ·rw[if_pos m] at g;refine zb (λe=>absurd e (by rw[if_pos m];omega)) (λ_=>zb (λe=>absurd e (by rw[if_pos m];omega)) (λ_=>?_));exact Q o _ _ ⟨y,x,rfl,p,f,g⟩
  rw[if_neg m] at g;rw[(N m).1,(N m).2];refine zb (λe=>?_) (λe=>zb (λe1=>?_) (λe1=>?_))
  ·rw[if_pos oM] at g;have:=hK _ _ _ _ p g.symm;rwa[if_pos oM,if_pos oM] at this
  ·rw[if_neg oM,if_pos oM] at g;refine zb (λR=>?_) (λR=>?_)
   ·rw[if_pos R] at g;exact Q o _ _ ⟨i,Y,rfl,p,f,g⟩
   ·rw[if_neg R] at g;exact Q o _ _ ⟨y,x,rfl,p,f,g⟩
  ·rw[if_neg oM,if_neg oM] at g;exact Q o _ _ ⟨y,x,rfl,p,f,g⟩
 ·rw[gU (by rw[K3];omega)] at g;have:=hK w2 _ _ _ s g.symm;rwa[if_neg oM,if_neg oM] at this
theorem l5At_spec {vc v:Value} {k:Nat} (A:CnfR F w vc c) (hs:SatR F' w v s) (G:k<c.list.length+s.learned.length) (C:c.list.length+s.learned.length<=1000000)
  (u:∀w' v',Ext w w'->Ints (λb=>F b\/F' b) w' v' (atM c s k)->K v' w'):vcall yt0 #[vc,v,nI k] w K:=by
 refine ze {} Tryz.func152 ?_;obtain⟨lv,rfl,cs,n,o,m⟩:=A;obtain⟨vp,vw,vl,rfl,-,-,es,B,r,q⟩:=hs;refine yq λb1 w1 y p D i=>?_;refine yq λb2 w2 z g E l=>?_;have t:Blk w2 b1 [nI c.many,lv] zq:=i.ext g;have x:Blk w2 b2 [vp,vw,vl,nI s.code] zu:=l;have f:=p.trans g;have d:=o.ext f;have e:=r.ext f;simp only[push_cast,t.ld1,d.len];refine zb (λa=>?_) (λa=>?_)
 ·simp(disch:=first|omega|simp only[push_cast]) only[push_cast,d.iaddr,d.load];refine u w2 _ f ?_;rw[atM,getD_app_l oM];exact((m k oM).ext f).weaken λ_ h _=> .inl h
 ·obtain⟨j,rfl⟩:∃j,k=c.list.length+j:=⟨k-c.list.length,oM⟩;simp(disch:=(simp only[push_cast])) only[x.ld2,t.ld1,d.len,Ur,Uu,yx,gQ,Y2];rw[n,show((c.list.length+j:Nat):Int)-(c.list.length:Int)=(j:Int) from by omega,zl oM oM];simp(disch:=first|omega|simp only[push_cast]) only[push_cast,e.iaddr,e.load];refine u w2 _ f ?_;rw[atM,getD_app_r];exact((q j oM).ext f).weaken λ_ h _=> .inr h
theorem l5Levels_spec {vc v:Value} (hc:CnfR F w vc c) (hs:SatR F' w v s) (L:c.many=many) (T:many<=700) (hm:marksOk many s.put) (hlen:s.put.length=s.why.length) (A:∀k,k<s.why.length->s.why.getD k 0= -1\/0<=s.why.getD k 0)
  (hK:∀w' v',Ext w w'->OwnI zh w' v' (levs many s.put (yE s.why))->(∀x,v'.ownBlock=some x->w.heap.size<=x)->K v' w'):vcall JK #[vc,v] w K:=by
 refine ze {loops:=[(4,[6,7])],cuts:=[(28680,[6])]} Tryz.func190 ?_;obtain⟨lv,rfl,-⟩:=hc;obtain⟨vp,vw,vl,rfl,hp,hw,-⟩:=hs;have a4:=hm.len;refine yq λb1 w1 a0 N a7 H=>?_;refine yq λb2 w2 a1 p a8 I=>?_;have X:Blk w2 b1 [nI c.many,lv] zq:=H.ext p;have R:Blk w2 b2 [vp,vw,vl,nI s.code] zu:=I;have S:=N.trans p;simp only[push_cast,X.ld0];rw[L,zl oM oM,show((many:Int)+1)=((many+1:Nat):Int) from by omega];refine vmkS_own (bs:=8) xE qL xH rfl oM oM λv1 w3 Y q m=>?_;have G:OwnI zh w3 v1 (levs many [] (yE s.why)):=by rw[kr0];unfold OwnI;rw[GF];exact Y
 have V:=S.size;refine vloop_up s.put.length (λi u w'=>u=[nI ((yE s.why).take i|>.count true:Nat),nI i]/\Ext w w'/\Blk w' b2 [vp,vw,vl,nI s.code] zu/\OwnI zh w' v1 (levs many (s.put.take i) (yE s.why))) ⟨rfl,S.trans q,R.ext q,by simpa using G⟩ ?_;rintro i _ _ W C hi ⟨rfl,g,f,E⟩ Z;have n:=hp.ext g;have z:=hw.ext g;have a5:=WZ many (s.put.take i) (yE s.why);have a3:=ky s.why;simp only[push_cast,f.ld0,n.len];refine zb (λa=>?_) (λa=>?_)
 ·have l:i<s.put.length:=oM;have h:=ZX (ds:=yE s.why) (i:=i) oM;have a2:((yE s.why).take i).count true<=700:=gK pI (by simp;omega);refine zp (λu w'=>w'=W/\u=[nI ((yE s.why).take (i+1)|>.count true:Nat)]) ?_ ?_
  ·intro J U;simp(disch:=first|omega|simp only[push_cast]) only[push_cast,f.ld1,z.iaddr,z.load];have o:=Uz (why:=s.why) (k:=i) oM;have a6:=A i oM;refine zb (λb=>?_) (λb=>?_)
   ·rw[inc64 oM];refine U _ _ ⟨rfl,?_⟩;rw[h,o,decide_eq_true oM];rfl
   ·refine U _ _ ⟨rfl,?_⟩;rw[h,o,decide_eq_false oM];rfl
  rintro _ _ _ ⟨rfl,rfl⟩;simp(disch:=first|omega|simp only[push_cast]) only[push_cast,f.ld0,n.iaddr,n.load];have hb:=hm.2 _ (getD_meS l);have y:=M.take_snoc' (d:=0) l;have D:=distinct_take hm.1 (i+1);have j:placeOf (s.put.take i) (s.put.getD i 0).natAbs=0:=by
   refine placeOf_zero λx B e=>?_;rw[y] at D;unfold Distinct at D;rw[gx,Gi] at D;exact D.2.2 _ (gW B) _ (by simp) e
  have t:=levs_snoc (many:=many) (ds:=yE s.why) j;rw[<-y,gh,Gy oM,lvl_succ oM,<-h] at t;have Q:=E.ints;refine l4Abs_spec oM ?_;simp(disch:=first|omega|simp only[push_cast]) only[push_cast,Q.iaddr];refine E.st yT oM λw5 O r a9=>?_;rw[inc64 oM];refine Z l _ _ ⟨rfl,Ext.then g r λx B=>by have:=m x B;omega,f.same r λe=>by have:=m _ e;have:=R.lt;omega,by rw[t];exact O⟩
 ·rw[gB oM] at E;exact hK W v1 g E λx B=>by have:=m x B;omega
theorem l5Top_spec {v v':Value} {put cl:List Int} {ds:List Bool} (m:Ints F w v (levs many put ds)) (j:many<=700) (p:ds.length<=700) (d:Ints Fr w v' cl) (o:∀l,l∈cl->l.natAbs<=many/\placeOf put l.natAbs≠0)
  (s:K (.tuple #[nI (kW put ds cl:Nat),nI (Js put ds cl).length]) w):vcall zj0 #[v,v'] w K:=by
 refine ze {loops:=[(4,[6,7,8])]} Tryz.func191 ?_;have hlen:cl.length<=9223372036854775807:=by obtain⟨_,_,_,n,r,_⟩:=d.shape;simp at n;omega
 have q:=WZ many put ds;refine vloop_up cl.length (λi u w'=>w'=w/\u=[nI (kW put ds (cl.take i):Nat),nI (Js put ds (cl.take i)).length,nI i]) ⟨rfl,rfl⟩ ?_;rintro i _ _ _ C hi ⟨rfl,rfl⟩ f;simp only[push_cast,d.len];refine zb (λa=>?_) (λa=>?_)
 ·have c:i<cl.length:=oM;simp(disch:=first|omega|simp only[push_cast]) only[push_cast,d.iaddr,d.load];obtain⟨g,h⟩:=o _ (getD_meS c);refine l4Abs_spec oM ?_;simp(disch:=first|omega|simp only[push_cast]) only[push_cast,m.iaddr,m.load];rw[levs_get g,levV_lit h];obtain⟨t1,t2⟩:=top_step (put:=put) (ds:=ds) c _ rfl;generalize lvM put ds (cl.getD i 0)=k at*;have t:(Js put ds (cl.take i)).length<=i:=gK (List.length_filter_le _ _) (by simp;omega);refine zb (λb=>?_) (λb=>?_)
  ·rw[if_pos oM] at t1 t2;refine zb (λ_=>?_) (λe=>absurd trivial e);rw[inc64 oM];exact f c _ _ ⟨rfl,by rw[t1,t2];rfl⟩
  ·rw[if_neg oM] at t1 t2;refine zb (λe=>?_) (λe=>?_)
   ·rw[if_pos oM] at t2;rw[inc64 oM,inc64 oM];exact f c _ _ ⟨rfl,by rw[t1,t2]⟩
   ·rw[if_neg oM] at t2;rw[inc64 oM];exact f c _ _ ⟨rfl,by rw[t1,t2]⟩
 ·rwa[gB oM]
theorem l5Has_spec {v:Value} {cl:List Int} {m:Nat} (c:Ints Fr w v cl) (p:∀l,l∈cl->l.natAbs<=700) (g:(∃q,q∈cl/\q.natAbs=m)->K (.bool true) w) (j:(∀q,q∈cl->q.natAbs≠m)->K (.bool false) w):vcall zl0 #[v,nI m] w K:=by
 refine ze {loops:=[(2,[5])]} Tryz.func255 ?_;have hlen:cl.length<=9223372036854775807:=by obtain⟨_,_,_,n,s,_⟩:=c.shape;simp at n;omega
 refine vloop_up cl.length (λi u w'=>w'=w/\u=[nI i]/\∀q,q∈cl.take i->q.natAbs≠m) ⟨rfl,rfl,by simp⟩ ?_;rintro i _ _ _ C hi ⟨rfl,rfl,k⟩ o;simp only[push_cast,c.len];refine zb (λa=>?_) (λa=>?_)
 ·have f:i<cl.length:=oM;simp(disch:=first|omega|simp only[push_cast]) only[push_cast,c.iaddr,c.load];have e:cl.getD i 0∈cl:=getD_meS f;have r:=p _ e;refine l4Abs_spec oM ?_;simp only[push_cast];refine zb (λb=>g ⟨_,e,oM⟩) (λb=>?_);rw[inc64 oM];refine o f _ _ ⟨rfl,rfl,λq h=>?_⟩;rw[M.take_snoc' (d:=0) f,gj,gn] at h;rcases h with h|rfl
  ·exact k q h
  ·omega
 ·rw[gB oM] at k;exact j k
theorem l5Last_spec {v v':Value} {cl:List Int} (hs:SatR F w v s) (hm:marksOk many s.put) (t:many<=700) (m:Ints Fr w v' cl) (z:∀l,l∈cl->l.natAbs<=700)
  (x:∀w',Ext w w'->K (nI ((lastPl s.put cl:Int)-1)) w'):vcall Wp #[v,v'] w K:=by
 refine ze {loops:=[(2,[5])]} Tryz.func223 ?_;obtain⟨vp,vw,vl,rfl,G,-,-⟩:=hs;have E:=hm.len;refine yq λb2 w2 A b H g=>?_;have p:Blk w2 b2 [vp,vw,vl,nI s.code] zu:=g;have c:=G.ext b;simp only[push_cast,p.ld0,c.len];rw[zl oM oM];refine vloop_up s.put.length (λi u w'=>w'=w2/\u=[nI ((s.put.length:Int)-1-i)]/\∀j,s.put.length-i<=j->j<s.put.length->∀q,q∈cl->q.natAbs≠(s.put.getD j 0).natAbs) ⟨rfl,by simp,λj r d=>oM⟩ ?_;rintro i _ _ _ C hi ⟨rfl,rfl,n⟩ y;simp only[push_cast];refine zb (λa=>?_) (λa=>?_)
 ·obtain⟨k,D⟩:∃k:Nat,(s.put.length:Int)-1-i=k:=⟨s.put.length-1-i,oM⟩;have f:k<s.put.length:=oM;rw[D];simp(disch:=first|omega|simp only[push_cast]) only[push_cast,p.ld0,c.iaddr,c.load];have B:=hm.2 _ (getD_meS f);refine l4Abs_spec oM ?_;refine l5Has_spec (m.ext b) z (λh=>?_) (λh=>?_)
  ·simp only[push_cast];have o:=lastPl_eq hm f h λj r d=>n j oM d;have:=x _ b;rwa[o,show((k+1:Nat):Int)-1=(k:Int) from by omega] at this
  ·simp only[push_cast];rw[zl oM oM];refine y oM _ _ ⟨rfl,by rw[show(s.put.length:Int)-1-((i+1:Nat):Int)=(k:Int)-1 from by omega],λj r d=>?_⟩;by_cases e:j=k
   ·subst e;exact h
   ·exact n j oM d
 ·have o:=lastPl_none (put:=s.put) (cl:=cl) λj d=>n j oM d;have:=x _ b;rw[o] at this;exact this
end
section
variable {w:World} {K:oK} {F Fr F':Nat->Prop} {many:Nat} {c:Cnf} {s:Sat}
theorem qQ0 (arr:List Int) (m n:Nat):(zM0 arr m n).length<=n:=by
 unfold zM0;refine gK (List.length_filterMap_le _ _) (by simp)
theorem l5Join_spec {va vb:Value} {a b:List Int} {m:Nat} (ha:Ints F w va a) (hb:Ints F' w vb b) (a6:many<=700) (S:∀k,k∈a++b->k≠0/\k.natAbs<=many) (hc:∀k,k∈a++b->k.natAbs≠m-> -k∉a++b)
  (hK:∀w' v',Ext w w'->OwnI zh w' v' (Qt many a b m)->(∀x,v'.ownBlock=some x->w.heap.size<=x)->K v' w'):vcall Wq #[nI many,va,vb,nI m] w K:=by
 refine ze {ord:=[oz 6 [0,1,2,3,4,6,7,8,9,5,10,11] [(0,[1,2,3,4,6,7,8,9,5]),(1,[2,6,7,8,9]),(2,[6,7,8,9]),(3,[6,7,8,9]),(4,[6,7,8,9]),(6,[7,5]),(7,[5]),(8,[5]),(9,[5])],oz 10 [0,1,2,3,4,6,7,8,9,5,10,11] [(0,[1,2,3,4,6,7,8,9,5]),(1,[2,6,7,8,9]),(2,[6,7,8,9]),(3,[6,7,8,9]),(4,[6,7,8,9]),(6,[7,5]),(7,[5]),(8,[5]),(9,[5])]],loops:=[(4,[11]),(8,[12]),(12,[9,13])]} Tryz.func224 ?_;have ab:a.length<=9223372036854775807:=by obtain⟨_,_,_,L,h2,_⟩:=ha.shape;simp at L;omega
 have ac:b.length<=9223372036854775807:=by obtain⟨_,_,_,L,h2,_⟩:=hb.shape;simp at L;omega
 refine yg xw yT λJ w0 a8 T ad N=>?_;simp only[push_cast];rw[zl oM oM,show((many:Int)+1)=((many+1:Nat):Int) from by omega];refine vmkS_own (bs:=8) xE qL xH rfl oM oM λv1 w1 L U W=>?_;have a0:OwnI zh w1 v1 (List.replicate (many+1) 0):=by unfold OwnI;rw[GF];exact L
 have E1:=T.trans U;have a7:=T.size;have hN:∀x,v1.ownBlock=some x->w.heap.size<=x:=λx s=>by have:=W x s;omega
 have a1:Blk w1 J [] zV:=N.ext U;have G:∀x,v1.ownBlock=some x->x≠J:=λx s e=>by have:=W x s;have:=N.lt;omega
 refine vloop_up a.length (λi u w'=>u=[nI i]/\Ext w w'/\Blk w' J [] zV/\∃arr,OwnI zh w' v1 arr/\ArrP many (a.take i) arr) ⟨rfl,E1,a1,_,a0,by simpa using arr_nil many⟩ ?_;rintro i _ _ w2 C hi ⟨rfl,h,o,arr,q,f⟩ O;have E:=ha.ext h;simp only[push_cast,E.len];refine zb (λc1=>?_) (λc1=>?_)
 ·have l:i<a.length:=oM;refine zd λw3 c _=>?_;have A:=E.ext c;have g:=q.ext c;have r:=g.ints;have Q:=f.len;obtain⟨g1,g2⟩:=S _ (gO _ (getD_meS l));simp(disch:=first|omega|simp only[push_cast]) only[push_cast,A.iaddr,A.load,true_and];refine l4Abs_spec oM ?_;simp(disch:=first|omega|simp only[push_cast]) only[push_cast,A.iaddr,A.load,true_and,and_self,r.iaddr];refine g.st yT oM λw4 I z Y=>?_;rw[inc64 oM];refine O l _ _ ⟨rfl,Ext.then (h.trans c) z hN,(o.ext c).same z λe=>G _ e rfl,_,I,?_⟩;rw[M.take_snoc' (d:=0) l];exact arr_snoc f g1 g2
 clear O;rw[gB oM] at f;refine vloop_up b.length (λi u w'=>u=[nI i]/\Ext w w'/\Blk w' J [] zV/\∃arr,OwnI zh w' v1 arr/\ArrP many (a++b.take i) arr) ⟨rfl,h,o,arr,q,by simpa using f⟩ ?_;clear f q arr o E h w2;rintro j _ _ w2 C hj ⟨rfl,h,o,arr,q,f⟩ O;have R:=hb.ext h;simp only[push_cast,R.len];refine zb (λc2=>?_) (λc2=>?_)
 ·have l:j<b.length:=oM;refine zd λw3 c _=>?_;have B:=R.ext c;have g:=q.ext c;have r:=g.ints;have Q:=f.len;obtain⟨g1,g2⟩:=S _ (Gp _ (getD_meS l));simp(disch:=first|omega|simp only[push_cast]) only[push_cast,B.iaddr,B.load,true_and];refine l4Abs_spec oM ?_;simp(disch:=first|omega|simp only[push_cast]) only[push_cast,B.iaddr,B.load,true_and,and_self,r.iaddr];refine g.st yT oM λw4 I z Y=>?_;rw[inc64 oM];refine O l _ _ ⟨rfl,Ext.then (h.trans c) z hN,(o.ext c).same z λe=>G _ e rfl,_,I,?_⟩;rw[M.take_snoc' (d:=0) l,<-gY];exact arr_snoc f g1 g2
 clear O;rw[gB oM] at f;have Q:=f.len;have a4:OwnI zh w2 (.slice (some ⟨J,0,none⟩) 0 0) []:=Blk.own1 (t:=zh) (cs:=[]) (by rw[qL];exact o) (gP _) rfl rfl oM;refine vloop_up many (λn u w'=> ∃v,u=[v,nI (n+1:Nat)]/\Ext w w'/\OwnI zh w' v1 arr/\OwnI zh w' v (zM0 arr m n)/\(∀x,v.ownBlock=some x->w.heap.size<=x/\v1.ownBlock≠some x)) ⟨_,rfl,h,q,a4,λx s=>?_⟩ ?_
 ·have e:J=x:=X0 s;subst e;exact⟨oM,λe=>G _ e rfl⟩
 rintro n _ _ w3 C3 hn ⟨v,rfl,c,g,y,p⟩ D;simp only[push_cast];have aa:=qQ0 arr m n;refine zb (λc3=>?_) (λc3=>?_)
 ·have hs:=joinA_succ arr m n;have V:IntKind.i64.wrap ((n:Int)+1+1)=((n+1+1:Nat):Int):=by rw[zl oM oM];omega
  have r:=g.ints;rw[V];refine zb (λc4=>?_) (λc4=>?_)
  ·rw[if_neg oM] at hs;have e1:((n:Int)+1)=((n+1:Nat):Int):=rfl;rw[e1];simp(disch:=first|omega|simp only[push_cast]) only[r.iaddr,gl,r.load,yK0];refine zb (λZ=>?_) (λZ=>?_)
   ·rw[if_neg Z] at hs;refine zC xw yT xH rfl rfl λb4 w4 a9 H Y a2=>?_;refine(y.ext H).app1 xE a2 oM oM λv5 w5 a5 X a3=>?_;have ae:=c.size;refine D oM _ _ ⟨v5,rfl,Ext.then (c.trans H) X λx s=>(p x s).1,(g.ext H).same X λx s e=>(p x e).2 s,by rw[hs];exact a5,λx s=>?_⟩;rcases a3 x s with e|e
    ·exact p x e
    ·exact⟨oM,λe'=>by have:=g.lt e';omega⟩
   ·rw[if_pos (by simpa using Z),gC] at hs;exact D oM _ _ ⟨v,rfl,c,g,by rw[hs];exact y,p⟩
  ·rw[if_pos oM,gC] at hs;exact D oM _ _ ⟨v,rfl,c,g,by rw[hs];exact y,p⟩
 ·have:n=many:=oM;subst this;rw[joinA_eq f hc] at y;exact hK w3 v c y λx s=>(p x s).1
theorem learnS_cons {cl:List Int} (d:satOk many c s) (h:c.many=many) (hF:Fls s.put cl) (hs:Srt cl) (n:2<=(Js s.put (yE s.why) cl).length):
  lastPl s.put cl-1<s.put.length/\lastPl s.put cl≠0/\0<=s.why.getD (lastPl s.put cl-1) 0/\s.why.getD (lastPl s.put cl-1) 0<c.list.length+s.learned.length/\
  (∀l,l∈cl++atM c s (s.why.getD (lastPl s.put cl-1) 0).toNat->l≠0/\l.natAbs<=many)/\(∀l,l∈cl++atM c s (s.why.getD (lastPl s.put cl-1) 0).toNat->l.natAbs≠(s.put.getD (lastPl s.put cl-1) 0).natAbs-> -l∉cl++atM c s (s.why.getD (lastPl s.put cl-1) 0).toNat):=by
 have v:=topOf_tops (put:=s.put) (ds:=yE s.why) (srt_nodup hs);have b:cl≠[]:=λe=>by subst e;simp[Js] at n
 have w:=lastPl_pos hF b;obtain⟨k,o⟩:∃k,lastPl s.put cl=k+1:=⟨lastPl s.put cl-1,oM⟩;rw[o,GG];obtain⟨i,t,j,m,himp,-⟩:=last_reason d hF v n o;obtain⟨u,f⟩:=(impl_iff d.mks).1 himp;have g:(s.why.getD k 0).toNat<c.list.length+s.learned.length:=oM
 have off:∀l,l∈cl++atM c s (s.why.getD k 0).toNat->l.natAbs≠(s.put.getD k 0).natAbs-> -l∈s.put:=λl a b=>by
  rcases gj.1 a with a|a
  ·exact hF l a
  ·exact gX (f l a λe=>b (by rw[e]))
 refine⟨i,oM,j,m,λl a=>?_,λl a b r=>?_⟩
 ·rcases gj.1 a with a|a
  ·have:=d.mks.2 _ (hF l a);omega
  ·exact d.lit h g a
 ·have p:=off l a b;have q:=off (-l) r (by rwa[GV]);exact d.mks.neg p q
theorem l5Learn_spec {vc v vl v3:Value} {k:Nat} (hc:CnfR F w vc c) (hs:SatR F' w v s) (S:Ints Fr w vl (levs many s.put (yE s.why))) (hv:OwnI zh w v3 (atM c s k)) (e:satOk many c s) (o:c.many=many) (hk:k<c.list.length+s.learned.length) (a1:kz s.put (atM c s k))
  (hK:∀w' v',Ext w w'->OwnI zh w' v' (learnM many c s s.put.length (atM c s k))->(∀x,v'.ownBlock=some x->v3.ownBlock=some x\/w.heap.size<=x)->K v' w'):vcall KI #[vc,v,vl,v3] w K:=by
 refine ze {ord:=[(4,[0,1,2,3,4,5,6,7,8,9,11,12,13,14,15,10,16,17,18],[(0,[1,17,18]),(1,[17,18]),(2,[17,18]),(3,[10,16,17,18]),(4,[10,16,17,18]),(5,[6,8,9,10,16,17,18]),(6,[8,9,10,16,17,18]),(7,[8,9,10,16,17,18]),(8,[9,10,16,17,18]),(9,[10,16,17,18]),(11,[12,14,15,16,17,18]),(12,[14,15,16,17,18]),(13,[14,15,16,17,18]),(14,[15,16,17,18]),(15,[16,17,18]),(10,[16,17,18]),(16,[17,18]),(17,[18])])],loops:=[(2,[3,10])]} Tryz.func192 ?_;have a0:=hc;have M:=hs;obtain⟨lv,rfl,aa⟩:=hc;obtain⟨vp,vw,vls,rfl,hp,hw,j⟩:=hs;have d:many<=700/\c.list.length<=2500:=by
  have:=e.cnf;unfold cnfOk at this;simp only[gg,decide_eq_true_eq] at this;omega
 have a6:=e.few;have m:=e.mks;have ac:=m.len;have hlen:=e.len;have E:=XR a1;have Z:=clauseOk_srt (e.atOk hk);have G:(yE s.why).length<=700:=by rw[ky];omega
 have bounds:∀{b:List Int},Fls s.put b->∀x,x∈b->x.natAbs<=many/\placeOf s.put x.natAbs≠0:=λhF x A=>by
  have h1:=m.2 _ (hF x A);have D:=placeOf_ne_zero (hF x A);rw[GV] at D;exact⟨oM,D⟩
 generalize atM c s k=cl at*;refine yq λb1 w1 a7 a2 ad X=>?_;refine yq λb2 w2 a8 H ae Y=>?_;have A2:Blk w2 b1 [nI c.many,lv] zq:=X.ext H;have B2:Blk w2 b2 [vp,vw,vls,nI s.code] zu:=Y;have R:=a2.trans H;refine l5Top_spec (S.ext R) d.1 G (hv.ext R).ints (bounds E) ?_;simp only[push_cast];refine jC (λn u w'=> ∃b f v,n=lastPl s.put b/\u=[v,nI (Js s.put (yE s.why) b).length]/\Ext w w'/\Blk w' b1 [nI c.many,lv] zq/\Blk w' b2 [vp,vw,vls,nI s.code] zu/\
   OwnI zh w' v b/\(∀x,v.ownBlock=some x->v3.ownBlock=some x\/w.heap.size<=x)/\Fls s.put b/\Srt b/\lastPl s.put b<=f/\learnM many c s f b=learnM many c s s.put.length cl) _
  ⟨cl,s.put.length,v3,rfl,rfl,R,A2,B2,hv.ext R,λx A=> .inl A,E,Z,lastPl_le,rfl⟩ ?_
 rintro _ _ _ w3 C ⟨b,f,v,rfl,rfl,V,A3,B3,t,a3,hF,hS,ab,r⟩ hC;simp only[push_cast];refine zb (λa=>?_) (λa=>?_)
 ·have D:2<=(Js s.put (yE s.why) b).length:=oM;obtain⟨g1,g2,g3,g4,g5,g6⟩:=learnS_cons e o hF hS D;obtain⟨k1,k2,k3,k4⟩:=learnS_ok e o hF hS D;obtain⟨f,rfl⟩:∃f',f=f'+1:=⟨f-1,oM⟩;rw[learnM,if_neg oM] at r;rw[B3.ldAgg zP];refine l5Last_spec (M.ext V) m d.1 t.ints (λl S=>by have:=(bounds hF l S).1;omega) λw4 g=>?_;have E4:=V.trans g;refine zd λw5 h _=>?_;have B:=E4.trans h;have T:=(A3.ext g).ext h;have Q:=(B3.ext g).ext h;obtain⟨q,hq⟩:∃q,lastPl s.put b=q+1:=⟨lastPl s.put b-1,oM⟩;have j:jB many c s b=Qt many b (atM c s (s.why.getD q 0).toNat) (s.put.getD q 0).natAbs:=by unfold jB;rw[hq,GG]
  rw[hq,GG] at g1 g3 g4 g5 g6;rw[hq,show((q+1:Nat):Int)-1=(q:Int) from by omega];have J:=hp.ext B;have O:=hw.ext B;simp(disch:=first|omega|simp only[push_cast]) only[push_cast,T.ldAgg zD,Q.ldAgg zP,T.ld0,Q.ld0,Q.ld1,true_and,J.iaddr,J.load,O.iaddr,O.load];obtain⟨y,hy⟩:∃y:Nat,s.why.getD q 0=y:=⟨(s.why.getD q 0).toNat,oM⟩;rw[hy] at g4 g5 g6 j⊢;rw[gl] at g5 g6 j;refine l5At_spec (a0.ext B) (M.ext B) oM oM λw6 v6 i a5=>?_;have W:=B.trans i;have U:=T.ext i;have B6:=Q.ext i;have L:=hp.ext W;simp(disch:=first|omega|simp only[push_cast]) only[push_cast,U.ld0,B6.ld0,true_and,and_self,L.iaddr,L.load];have a9:=m.2 _ (getD_meS g1);refine l4Abs_spec oM ?_;simp(disch:=first|omega|simp only[push_cast]) only[push_cast,U.ld0,true_and,and_self];rw[o];have N:=(((t.ext g).ext h).ext i);refine l5Join_spec N.ints a5 d.1 g5 g6 λw7 v7 p z a4=>?_;have E7:=W.trans p;rw[<-j] at z;refine l5Top_spec (S.ext E7) d.1 G z.ints (bounds k1) ?_;simp only[push_cast];refine hC (lastPl s.put (jB many c s b)) _ _ k3 ⟨_,f,v7,rfl,rfl,E7,U.ext p,B6.ext p,z,λx A=> .inr ?_,k1,k2,oM,r⟩;have:=a4 x A;have:=W.size;omega
 ·have I:learnM many c s s.put.length cl=b:=by
   rw[<-r];cases f with
   |zero=>rfl
   |succ f=>rw[learnM,if_pos oM]
  rw[I] at hK;exact hK w3 v V t a3
theorem l4Max_spec {a b:Nat} (c:K (nI (max a b:Nat)) w):vcall zm0 #[nI a,nI b] w K:=by
 refine ze {} Tryz.func225 ?_;simp only[push_cast];refine zb (λh=>?_) (λh=>?_)
 ·rwa[show max a b=a from by omega] at c
 ·rwa[show max a b=b from by omega] at c
theorem l5Below_spec {v v':Value} {put cl:List Int} {ds:List Bool} (o:Ints F w v (levs many put ds)) (m:many<=700) (e:Ints Fr w v' cl) (s:∀l,l∈cl->l.natAbs<=many/\placeOf put l.natAbs≠0)
  (q:K (nI (ZZ put ds cl:Nat)) w):vcall KK #[v,v',nI (kW put ds cl:Nat)] w K:=by
 refine ze {loops:=[(3,[7,8])]} Tryz.func194 ?_;have hlen:cl.length<=9223372036854775807:=by obtain⟨_,_,_,p,x,_⟩:=e.shape;simp at p;omega
 have t:=WZ many put ds;generalize r:kW put ds cl=T;refine vloop_up cl.length (λi u w'=>w'=w/\u=[nI (maxL (((cl.take i).filter λk=>decide (lvM put ds k<T)).map (lvM put ds)):Nat),nI i]) ⟨rfl,rfl⟩ ?_;rintro i _ _ _ C hi ⟨rfl,rfl⟩ n;simp only[push_cast,e.len];refine zb (λa=>?_) (λa=>?_)
 ·have f:i<cl.length:=oM;simp(disch:=first|omega|simp only[push_cast]) only[push_cast,e.iaddr,e.load];obtain⟨g,h⟩:=s _ (getD_meS f);refine l4Abs_spec oM ?_;simp(disch:=first|omega|simp only[push_cast]) only[push_cast,o.iaddr,o.load];rw[levs_get g,levV_lit h];have c:(cl.take (i+1)).filter (λk=>decide (lvM put ds k<T))=(cl.take i).filter (λk=>decide (lvM put ds k<T))++(if lvM put ds (cl.getD i 0)<T then[cl.getD i 0] else[]):=by
   rw[M.take_snoc' (d:=0) f,Pw,PE,List.filter_nil];simp only[decide_eq_true_eq]
  have j:∀A:List Int,maxL ((A++[cl.getD i 0]).map (lvM put ds))=max (maxL (A.map (lvM put ds))) (lvM put ds (cl.getD i 0)):=λA=>by
   rw[gx];exact maxL_snoc _ _ _ rfl
  refine zb (λb=>?_) (λb=>?_)
  ·refine l4Max_spec ?_;rw[inc64 oM];rw[if_pos oM] at c;refine n f _ _ ⟨rfl,?_⟩;rw[c,j]
  ·rw[inc64 oM];rw[if_neg oM,gC] at c;exact n f _ _ ⟨rfl,by rw[c]⟩
 ·rw[gB oM,<-r];exact q
end
end Go.Proofs.YtolbhkcajhlllaaGreatDoor
end
