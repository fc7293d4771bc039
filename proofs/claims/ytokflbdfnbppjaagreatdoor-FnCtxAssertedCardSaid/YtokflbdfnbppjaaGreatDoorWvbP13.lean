import Derived.Test.YtokflbdfnbppjaaGreatDoorWvbP12
/- A part of the proof. -/
set_option linter.all false
namespace Go.Proofs.YtokflbdfnbppjaaGreatDoor
open Go Go.Vc Go.Proofs Go.M
section
variable {w:World} {K:Value->World->Prop}
abbrev Uw0:={x:Int//x.natAbs<=700}
instance:Inhabited Uw0:=⟨⟨0,dC⟩⟩
def litV (x:Uw0):Value:= .int .i64 x.1
def Uo0 (x y:Uw0):Int:=We0 x.1.natAbs y.1.natAbs
theorem litC_lt (x y:Uw0):ltOf Uo0 x y=decide (x.1.natAbs<y.1.natAbs):=by
 unfold ltOf Uo0 We0;refine decide_eq_decide.2 ?_;split<;>(try split)<;>omega
theorem litC_swo:Go.Sort.SWO (ltOf Uo0) where
 irrefl x:=by rw[litC_lt];simp
 trans x y z a b:=by rw[litC_lt] at*;simp at*;omega
 ntrans x y z a b:=by rw[litC_lt] at*;simp at*;omega
theorem jQ0 (args:Array Value) (w:World):(callFunc yZ args).run P w= .ok (.enter yZ args) w:=callFunc_run rK
theorem Zi0 (blk off size:Nat) (w:World):CmpReads P yZ #[] litV Uo0 blk off size w:=by
 intro m os dk _ x y;have h:=learn_2_spec (K:=λv w'=>v= .int .i64 (Uo0 x y)/\∃q,w'=(sortWorld litV w blk off m dk os).drewN q) (w:=sortWorld litV w blk off m dk os) x.2 y.2 ⟨rfl,0,rfl⟩;refine Calls.mono h.2 λe w' he=>?_;cases e with
 |returned v=>exact⟨by rw[he.1],he.2⟩
 |panicked c=>exact he.elim
 |outgrown=>exact he.elim
theorem SortFunc_learn {v : Value} {xs : List Int} (hv : OwnI P zr w v xs) (hne : xs ≠ []) (hb : ∀ x, x ∈ xs -> x.natAbs <= 700) (hnd : (xs.map Int.natAbs).Nodup)
    (hK : ∀ w' ys, OwnI P zr w' v ys -> Srt ys -> (∀ k, k ∈ ys ↔ k ∈ xs) -> Same (λb => v.ownBlock = some b) w w' -> K (.tuple #[]) w') :
    vcall P kM #[v, .func (.func yZ) #[] #[]] w K := by
  refine ⟨by kernel_rfl, ?_⟩
  have hsm := hv.small
  have hlen : xs.length <= 1401 := few_ints (by
    unfold List.Nodup at hnd ⊢
    rw [pa] at hnd
    exact hnd.imp λh e => h (by rw [e])) hb
  have hrow := Own.row hv
  rcases hrow.2 with ⟨rfl, hn⟩ | ⟨g, cap, cur, rfl, hbg, hg, hnc, hcm, hcs, htake⟩
  · simp at hn; exact absurd hn hne
  let L : List Uw0 := xs.attach.map λx => ⟨x.1, hb x.1 x.2⟩
  have hL : L.map (·.1) = xs := by
    simp [L]
  let d : Array Uw0 := L.toArray
  have hds : d.size = xs.length := by simp [d, L]
  have hdj : ∀ j, j < xs.length -> litV d[j]! = .int .i64 (xs.getD j 0) := λj hj => by
    have h1 : (L.map (·.1)).getD j 0 = xs.getD j 0 := by rw [hL]
    simp only [litV]
    rw [<- h1, getElem!_pos d j (by omega)]
    have : j < L.length := by simp [L]; exact hj
    simp [d, q0, this]
  have hH : Go.Sort.Holds litV w g 0 d := by
    intro j hj
    rw [hds] at hj
    have hi' : j < ((xs.map λx => Value.int .i64 x).map λx => [x]).length * 1 := by simpa using hj
    have hc := World.ownsRow.cellAt hrow j hi'
    have hf := World.ownsRow.frozenAt hrow j
    rw [gS]
    refine ⟨?_, hf⟩
    rw [hc, flat1, hdj j hj]
    simp [q0, hj]
  have hcon := Any.slices_SortFunc YtokflbdfnbppjaaGreatDoor.sortL litV (λ_ => rfl) Uo0 litC_swo yZ #[] g 0 cap d w jQ0 (Zi0 g 0 d.size w).lays hH (gB.1 hg).1 (by omega)
  have hsz : ((xs.map λx => Value.int .i64 x).map λx => [x]).length = d.size := by simp [hds]
  rw [hsz]
  refine Calls.mono hcon ?_
  rintro e w' ⟨rfl, d', n, os, hp, hs, rfl⟩
  show K _ _
  obtain ⟨hp1, hp2, hp3⟩ := hp
  have hex : d'.toList.Perm L := by
    have e1 : d'.extract 0 d.size = d' := by rw [<- hp1]; simp
    have e2 : d.extract 0 d.size = d := by simp
    rw [e1, e2] at hp3
    exact hp3
  have hmap : (d'.toList.map (·.1)).Perm xs := by rw [<- hL]; exact hex.map _
  have hgl := (gB.1 hg).1
  have hcells : (sortWorld litV w g 0 n d' os).heap[g]? = some (.cells (Go.Sort.putCells litV 0 d' cur) (Wp P zr) (0, 0)) := by
    unfold sortWorld Go.Sort.grow Go.Sort.putRow Go.Sort.mapBlock Go.Sort.ahead
    simp only
    rw [PQ (by simpa using hgl)]
    simp [G1, hg, Go.Sort.onCells]
  have hlen' : d'.toList.length = xs.length := by simpa [L] using hex.length_eq
  refine hK _ (d'.toList.map (·.1)) ⟨⟨by rw [flat1]; simp only [X0, pL], .inr ⟨g, cap, _, by simp only [X0, hds, hlen'], hbg, hcells, ?_, hcm, ?_, ?_⟩⟩, λy hy => by obtain ⟨u, _, rfl⟩ := gk.1 hy; rfl⟩ ?_ (λk => hmap.mem_iff) ?_
  · simp only [X0] at hnc ⊢; simp at hlen' ⊢; omega
  · simpa [Go.Sort.putCells] using hcs
  · rw [flat1]
    simp only [X0, pL, hlen']
    refine List.ext_getElem? λi => ?_
    rw [pN]
    split
    · rename_i hi
      have hic : i < cur.size := by simp at hnc; omega
      have hid : i < d'.size := by omega
      simp [Go.Sort.putCells, Array.getElem?_mapIdx, hic, hid, litV]
    · rename_i hi
      symm
      rw [pt]
      simp at hlen' ⊢; omega
  · unfold Srt
    rw [pa, Gw]
    intro i j hi hj hij
    have h1 := hs i j (Gj _) hij (by simp at hj; omega)
    rw [litC_lt] at h1
    simp only [decide_eq_false_iff_not, Nat.not_lt] at h1
    simp only [pf] at hi hj
    rw [getElem!_pos d' i hi, getElem!_pos d' j hj] at h1
    simp only [Array.getElem_toList]
    refine Nat.lt_of_le_of_ne h1 λe => ?_
    have hnd2 : ((d'.toList.map (·.1)).map Int.natAbs).Nodup := (hmap.map _).nodup_iff.2 hnd
    unfold List.Nodup at hnd2
    rw [GM, pa, Gw] at hnd2
    have := hnd2 i j (by simpa using hi) (by simpa using hj) hij
    simp at this
    exact this e
  · refine ⟨rfl, rfl, rfl, by simp [sortWorld, Go.Sort.grow, Go.Sort.putRow, Go.Sort.mapBlock, Go.Sort.ahead], λb hb' hne' => ?_⟩
    have hbg' : g ≠ b := λe => hne' (by rw [e]; rfl)
    unfold sortWorld Go.Sort.grow Go.Sort.putRow Go.Sort.mapBlock Go.Sort.ahead
    simp only
    rw [PQ (by simpa using hb'), G1, if_neg hbg']
end
section
variable {w:World} {K:Value->World->Prop} {F Fr:Nat->Prop} {many bs:Nat} {c:Cnf} {s:Sat} {σ:SV} {N:Nat}
theorem satOk.many' (h:satOk many c s) (a:c.many=many):many<=700/\c.list.length<=2500:=by
 have:=h.cnf;unfold cnfOk at this;simp only[K3,decide_eq_true_eq] at this;omega
theorem learn_spec {v:Value} {k:Nat} (h:SR N Fr w bs many c s σ) (D:satOk many c s) (a0:c.many=many) (hk:k<c.list.length+s.learned.length) (o:Ints F w v (atM c s k)) (hc:X9 s.put (atM c s k)) (d6:q00 s.put (qD s.why) (atM c s k)≠0) (c5:∀b,Fr b->b<w.heap.size)
  (hK:∀w' v',Ext w w'->OwnI P zr w' v' (learnM many c s s.put.length (atM c s k))->(∀x,v'.ownBlock=some x->w.heap.size<=x)->K (.tuple #[v',.int .i64 (jF0 s.put (qD s.why) (learnM many c s s.put.length (atM c s k)))]) w'):
  vcall P Zh #[.pointer (some ⟨bs,0,none⟩),v] w K:=by
 apply UY;obtain⟨cn,dc⟩:=satOk.many' D a0;have d2:=D.few;have au:=D.mks;obtain⟨z1,z2,z3,z4⟩:=Q70 D a0 hk hc;have b2:=zL0 hc;have ca:=clauseOk_srt (D.atOk hk);generalize atM c s k=cl at*;refine jO λp w1 hp cf dp c7=>?_;refine Vc0 λbm w2 db bg ac=>?_;have dq:=ac.size;have hlen:cl.length<=9223372036854775807:=by obtain⟨_,_,_,h1,h2,_⟩:=o.shape;simp at h1;omega
 simp(disch:=first|(simp only[push_cast])|omega) only[push_cast,o.len];have c8:Blk w2 p [.pointer (some ⟨bs,0,none⟩)] zL:=c7.ext ac;have keep:∀{w3 w4:World} {S:Nat->Prop},(Ext w w3/\Blk w3 p [.pointer (some ⟨bs,0,none⟩)] zL)->Same S w3 w4->(∀x,S x->w1.heap.size<=x)->(Ext w w4/\Blk w4 p [.pointer (some ⟨bs,0,none⟩)] zL):=by
  rintro w3 w4 S ⟨a,b⟩ hs hS;exact⟨a.then hs λx o=>by have:=hS x o;omega,b.same hs λe=>by have:=hS p e;omega⟩
 refine vloop_up cl.length (λi u w'=> ∃ks,u=[.int .i64 i]/\(Ext w w'/\Blk w' p [.pointer (some ⟨bs,0,none⟩)] zL)/\ISet w' bm ks/\∀x,x∈ks↔x∈cl.take i) ⟨[],rfl,⟨cf.trans ac,c8⟩,bg,by simp⟩ ?_;rintro i _ _ w3 C hi ⟨ks,rfl,M,B,z⟩ hC;simp only[push_cast];refine zh (λa=>?_) (λa=>?_)
 ·have bw:=o.ext M.1;simp(disch:=first|(simp only[push_cast])|omega) only[push_cast,bw.iaddr,bw.load];refine Yr0 j8 B λw4 cj ct dt=>?_;simp(disch:=omega) only[push_cast,zJ];refine hC oM _ _ ⟨_,by simp,keep M ct (λx o=>oM),cj,λx=>?_⟩;rw[qw0 (d:=0) oM,gj,gn,<-z];split
  ·rename_i ap;exact⟨.inl,λe=>e.elim id λe=>e▸ap⟩
  ·rw[gj,gn]
 clear hC;rw[gK oM] at z;clear bg hi a;have bounds:∀{j:List Int},Fls s.put j->∀x,x∈j->x≠0/\x.natAbs<=many/\placeOf s.put x.natAbs≠0:=λhF x o=>by
  have h1:=au.2 _ (hF x o);have h2:=xu (hF x o);rw[GA] at h2;exact⟨oM,oM,h2⟩
 have Z:=h.ext M.1;simp only[push_cast,M.2.ld0,Z.blk.ld2];refine greatest_spec Z.tr B (λx o=>(bounds b2 x ((z x).1 o)).2) λw4 top v4 xs A bq bu bl=>?_;simp only[push_cast];have al:TopOf s.put (qD s.why) cl top xs:=qv0 z bq;refine Wd (λn u w'=> ∃ks j f top v xs,n=ji s.put j/\u=[v]/\(Ext w w'/\Blk w' p [.pointer (some ⟨bs,0,none⟩)] zL)/\ISet w' bm ks/\(∀x,x∈ks↔x∈j)/\
   Fls s.put j/\Srt j/\TopOf s.put (qD s.why) j top xs/\OwnI P zr w' v xs/\(∀x,v.ownBlock=some x->w.heap.size<=x/\x≠bm/\x≠p)/\ji s.put j<=f/\learnM many c s f j=learnM many c s s.put.length cl) _
  ⟨ks,cl,s.put.length,top,v4,xs,rfl,rfl,keep M (S:=λ_=>False) A (λ_ h=>h.elim),B.ext A,z,b2,ca,al,bu,λx o=>?_,lastPl_le,rfl⟩ ?_
 ·have:=bl x o;have:=B.lt;have:=M.2.lt;have:=M.1.size;exact⟨oM,oM,oM⟩
 clear B z bq al bu bl A Z ks top v4 xs M;clear w3 w4;rintro _ _ _ w3 C ⟨ks,j,f,top,v3,xs,rfl,rfl,M,B,z,hF,hS,ht,a7,bk,dg,ar⟩ hC;have Z:=h.ext M.1;have bx:=a7.ints;have Q:=bounds hF;have t:∀x,x∈xs->x∈j:=λx o=>((ht.mem x).1 o).1;have cz:xs.length<=1401:=few_ints ht.nd λx o=>by have:=Q x (t x o);omega
 have bt:=topOf_tops (put:=s.put) (ds:=qD s.why) (srt_nodup hS);have dm:xs.length=(Xp0 s.put (qD s.why) j).length:=JA0 ht bt;have ay:top=q00 s.put (qD s.why) j:=topOf_top ht bt;simp only[push_cast,bx.len];refine zh (λa=>?_) (λa=>?_)
 ·
  have h2:2<=xs.length:=oM;have hf:f≠0:=λe=>by
   subst e;have:xs≠[]:=λe=>by subst e;simp at h2
   obtain⟨q,hq⟩:=pw _ this;exact lastPl_pos hF (λe=>by have:=t q hq;rw[e] at this;cases this) oM
  obtain⟨f,rfl⟩:∃f',f=f'+1:=⟨f-1,oM⟩;rw[learnM,if_neg oM] at ar;obtain⟨k1,k2,k3,k4⟩:=learnS_ok D a0 hF hS oM;refine MaxFunc_Lint (g:=plM s.put) bx (λe=>by rw[e] at h2;simp at h2) (λa b ha hb w' K' bb c6=>?_) λw4 m A hm a4=>?_
  ·exact YG0 (Z.ext bb) (M.2.ext bb) (Q a (t a ha)).2.1 (Q b (t b hb)).2.1 c6
  have bi:=Q m (t m hm);have cr:placeOf s.put m.natAbs=ji s.put j:=lastPl_top ht hm λx o=>by have:=a4 x o;unfold plM at this;omega
  refine Xm0 j8 (B.ext A) λw5 ck bo du=>?_;have c4:=keep M (S:=λ_=>False) A (λ_ h=>h.elim);have W:=keep c4 bo (λx o=>oM);refine zu λw6 an _=>?_;have X:=keep W (S:=λ_=>False) an (λ_ h=>h.elim);have aa:=h.ext X.1;have dl:=aa.rw.ints;simp only[push_cast,X.2.ld0,aa.blk.ld2,aa.blk.ld3,true_and];refine place_spec aa.tr bi.2.1 λw7 H=>?_;have Y:=keep X (S:=λ_=>False) H (λ_ h=>h.elim);have ab:=h.ext Y.1;have am:=ab.rw.ints;obtain⟨q,hq⟩:∃q,ji s.put j=q+1:=⟨ji s.put j-1,oM⟩;have cs:(placeOf s.put m.natAbs:Int)-1=(q:Int):=oM;have di:=D.len;have d3:=placeOf_le s.put m.natAbs;obtain⟨r1,r2,r3,r4,r5,-⟩:=last_reason D hF ht h2 hq;have bn:s.put.getD q 0= -m:=by
   refine kw au.1 (qi r1) (hF m (t m hm)) ?_;have:=(jc bi.2.2).2;rw[cr,hq,GN] at this;rw[this,GA]
  rw[cs];simp(disch:=first|(simp only[push_cast])|omega) only[push_cast,Y.2.ld0,ab.blk.ld2,ab.blk.ld3,true_and,and_self,am.iaddr,am.load];obtain⟨y,hy⟩:∃y:Nat,s.why.getD q 0=y:=⟨(s.why.getD q 0).toNat,oM⟩;have az:s.why.getD q 0=(y:Int):=hy;rw[az];refine clause_spec ab oM oM λv8 w8 ao a8=>?_;have V:=keep Y (S:=λ_=>False) ao (λ_ h=>h.elim);have d4:=clauseOk_len (m:=many) (by have:=D.atOk (k:=y) oM;rwa[a0] at this);simp(disch:=first|(simp only[push_cast])|omega) only[push_cast,a8.len,true_and];have cm:ISet w8 bm (ks.erase m):=((ck.ext an).ext H).ext ao;have cp:ks.Nodup:=B.nodup;have d7:OwnI P zr w8 v3 xs:=((((a7.ext A).same bo λx o=>(bk x o).2.1).ext an).ext H).ext ao;have hj:X8 many c s j=qM0 many j (atM c s y) (s.put.getD q 0).natAbs:=by
   unfold X8;rw[hq,GN,az,gm]
  have ch:∀l,l∈X8 many c s j↔(l∈j/\l≠m)\/(l∈atM c s y/\l≠ -m):=λl=>by
   have:=(learn_join D a0 hF ht h2 hq).1 l;rw[az,gm,<-hj,bn,PA] at this;exact this
  refine vloop_up (atM c s y).length (λi u w'=> ∃bz,u=[.int .i64 i]/\(Ext w w'/\Blk w' p [.pointer (some ⟨bs,0,none⟩)] zL)/\Ints Fr w' v8 (atM c s y)/\ISet w' bm bz/\(∀x,x∈bz↔(x∈j/\x≠m)\/(x∈(atM c s y).take i/\x≠ -m)))
   ⟨ks.erase m,rfl,V,a8,cm,λx=>by rw[cp.mem_erase_iff,z];simp[and_comm]⟩ ?_
  rintro i _ _ w9 C9 hi ⟨c0,rfl,O,ae,a3,E⟩ b1;simp only[push_cast];refine zh (λa9=>?_) (λa9=>?_)
  ·simp(disch:=first|(simp only[push_cast])|omega) only[push_cast,ae.iaddr,ae.load];have br:=qw0 (d:=0) (xs:=atM c s y) (show i<(atM c s y).length by omega);have d9:∀x,Fr x->x<w.heap.size->¬(x=bm):=λx _ o e=>oM;have G:IntKind.i64.wrap (0-m)= -m:=by rw[zJ oM oM];omega
   have T:IntKind.i64.wrap ((i:Int)+1)=((i+1:Nat):Int):=by rw[zJ oM oM];omega
   simp only[G,T];refine zh (λb9=>?_) (λb9=>?_)
   ·refine Yr0 j8 a3 λc2 bf ak d8=>?_;simp(disch:=omega) only[push_cast,zJ];have a6:Ints Fr c2 v8 (atM c s y):=ae.same ak λx o _ e=>by have:=c5 x o;omega
    refine b1 oM _ _ ⟨_,rfl,keep O ak (λx o=>oM),a6,bf,λx=>?_⟩;rw[br,gj,gn];split
    ·rename_i ap;rw[E];constructor
     ·rintro(e|⟨G,T⟩)
      ·exact .inl e
      ·exact .inr ⟨.inl G,T⟩
     ·rintro(e|⟨G|G,T⟩)
      ·exact .inl e
      ·exact .inr ⟨G,T⟩
      ·rw[G];exact(E _).1 ap
    ·rw[gj,gn,E];constructor
     ·rintro((e|⟨G,T⟩)|e)
      ·exact .inl e
      ·exact .inr ⟨.inl G,T⟩
      ·exact .inr ⟨.inr e,by rw[e];exact b9⟩
     ·rintro(e|⟨G|G,T⟩)
      ·exact .inl (.inl e)
      ·exact .inl (.inr ⟨G,T⟩)
      ·exact .inr G
   ·refine b1 oM _ _ ⟨_,rfl,O,ae,a3,λx=>?_⟩;rw[br,gj,gn,E];constructor
    ·rintro(e|⟨G,T⟩)
     ·exact .inl e
     ·exact .inr ⟨.inl G,T⟩
    ·rintro(e|⟨G|G,T⟩)
     ·exact .inl e
     ·exact .inr ⟨G,T⟩
     ·exact absurd (by rw[<-G];exact T) b9
  ·rw[gK oM] at E;have R:∀x,x∈c0↔x∈X8 many c s j:=λx=>(by rw[E,ch]);have b4:=h.ext O.1;have cc:=bounds k1;simp only[push_cast,O.2.ld0,b4.blk.ld2];refine greatest_spec b4.tr a3 (λx o=>(cc x ((R x).1 o)).2) λc2 c1 v10 d1 ag bp a6 bj=>?_;simp only[push_cast];have dx:=O.1.size;have:=a3.lt;have:=O.2.lt;refine hC (ji s.put (X8 many c s j)) _ _ k3 ⟨c0,X8 many c s j,f,c1,v10,d1,rfl,rfl,keep O (S:=λ_=>False) ag (λ_ h=>h.elim),a3.ext ag,R,k1,k2,qv0 R bp,a6,λx o=>?_,oM,ar⟩;have:=bj x o;exact⟨oM,oM,oM⟩
 ·
  have bc:learnM many c s s.put.length cl=j:=by
   rw[<-ar];cases f with
   |zero=>rfl
   |succ f=>rw[learnM,if_pos oM]
  rw[bc] at hK z1 z2 z3 z4;rw[z3] at ay;have cy:xs.length=1:=by
   have:=ht.ne;rcases this with e|e
   ·omega
   ·have:=gG.2 e;omega
  obtain⟨t0,rfl⟩:=z0a.1 cy;have af:∀x,x∈j->(x≠t0↔lvM s.put (qD s.why) x<q00 s.put (qD s.why) j):=λx o=>by
   have h1:=ht.mem x;have h2:=ht.le x o;rw[gn] at h1;rw[z3];constructor
   ·intro cq;have: ¬lvM s.put (qD s.why) x=top:=λe=>cq (h1.2 ⟨o,e⟩);omega
   ·intro dh e;have:=(h1.1 e).2;omega
  refine kF0 j8 B λr w4 hr cg A=>?_;have df:=few_ints B.nodup λx o=>by have:=Q x ((z x).1 o);omega
  have dr:=M.1.size;have dj:=B.lt;have dk:=M.2.lt;refine vloop_up ks.length (λi u w'=> ∃dn v,dn.length=i/\u=[.int .i64 (XC0 ((dn.filter λk=>decide (lvM s.put (qD s.why) k<q00 s.put (qD s.why) j)).map (lvM s.put (qD s.why))):Nat),v]/\(Ext w w'/\Blk w' p [.pointer (some ⟨bs,0,none⟩)] zL)/\IterR w' r bm ks dn/\OwnI P zr w' v dn/\OwnI P zr w' v3 [t0]/\(∀x,v.ownBlock=some x->w3.heap.size<x))
   ⟨[],.slice none 0 0,rfl,rfl,keep M (S:=λ_=>False) A (λ_ h=>h.elim),cg,OwnI.nil,a7.ext A,λx o=>by cases o⟩ ?_
  rintro i _ _ w5 C5 hi ⟨dn,v5,b8,rfl,W,I,bv,cu,L⟩ b0;refine vnext_set I (λb5=>?_) λU x' w6 ci de a2 a5 dv=>?_
  ·
   simp only[push_cast];have a1:∀x,x∈dn↔x∈j:=λx=>⟨λh=>(z x).1 (I.sub h),λh=>b5 x ((z x).2 h)⟩;have ba:dn≠[]:=λe=>by
    have:=(ht.mem t0).1 (by simp);have:=(a1 t0).2 this.1;rw[e] at this;cases this
   have ce:(dn.map Int.natAbs).Nodup:=by
    have h1:=I.nd;unfold List.Nodup at h1⊢;rw[pa];refine Pp.2 λ{a c} hs=>?_;have cb:a≠c:=by
     have:=h1.sublist hs;simpa using this
    have ha:=(a1 a).1 (hs.subset (by simp));have cd:=(a1 c).1 (hs.subset (by simp));intro e;exact cb (by have:=kw au.1 (hF a ha) (hF c cd) oM;omega)
   refine SortFunc_learn bv ba (λx o=>by have:=Q x ((a1 x).1 o);omega) ce λw6 zs cw c9 bh a5=>?_;have d0:zs=j:=srt_ext c9 hS λx=>(by rw[bh,a1]);subst d0;have a4:XC0 ((dn.filter λk=>decide (lvM s.put (qD s.why) k<q00 s.put (qD s.why) zs)).map (lvM s.put (qD s.why)))=jF0 s.put (qD s.why) zs:=by
    unfold jF0;exact QG0 λx=>by simp only[gk,pd,bh]
   simp only[push_cast,a4];exact hK w6 v5 (W.1.then a5 λx o=>by have:=L x o;omega) cw λx o=>by have:=L x o;omega
  ·simp only[push_cast];refine kI0 a2 λdy=>?_;simp only[push_cast];refine yK Jh YV X5 rfl rfl λb7 w7 da H dw c3=>?_;have dd:=I.lt;have X:=keep W a5 (λx o=>by have:=ac.size;have:=M.1.size;omega);have Y:=keep X (S:=λ_=>False) H (λ_ h=>h.elim);have d5:=W.1.size;have cx:=(bv.same a5 λx o e=>by have:=L x o;omega).ext H;have cv:=(cu.same a5 λx o e=>by have:=bk x o;have:=a7.lt o;omega).ext H;have bd:=a2.ext H;have b6:i<ks.length:=by have:=a2.len;simp at this;omega
   refine cx.app1 xF0 c3 oM oM λv8 w8 a8 av co=>?_;have aj:∀x,v8.ownBlock=some x->w3.heap.size<x:=λx o=>by
    rcases co x o with e|e
    ·exact L x e
    ·have:=A.size;have:=I.lt;omega
   have V:=keep Y av (λx o=>by have:=L x o;omega);have aw:=cv.same av λx o e=>by have:=L x e;have:=a7.lt o;omega
   have ai:=bd.same av (λe=>by have:=L _ e;omega) (λe=>by have:=L _ e;omega);have ax:=aw.ints;have aq:U∈j:=(z U).1 ci;have be:=Q U aq;refine zR (λu w'=>u=[.bool (decide (U≠t0))]/\w'=w8) ?_ ?_
   ·intro J hJ;simp(disch:=first|(simp only[push_cast])|omega) only[push_cast,ax.len,ax.iaddr,ax.load];exact hJ _ _ ⟨rfl,rfl⟩
   rintro _ _ _ ⟨rfl,rfl⟩;simp only[push_cast];have ah:(dn++[U]).filter (λk=>decide (lvM s.put (qD s.why) k<q00 s.put (qD s.why) j))=dn.filter (λk=>decide (lvM s.put (qD s.why) k<q00 s.put (qD s.why) j))++(if lvM s.put (qD s.why) U<q00 s.put (qD s.why) j then[U] else[]):=by
    rw[List.filter_append];simp[List.filter_cons]
   refine zh (λb=>?_) (λb=>?_)
   ·have b3:=h.ext V.1;simp only[push_cast,V.2.ld0,b3.blk.ld2];refine level_spec b3.tr be.2.1 be.2.2 λw9 ad=>?_;simp only[push_cast];refine b0 b6 _ _ ⟨dn++[U],v8,by simp[b8],?_,keep V (S:=λ_=>False) ad (λ_ h=>h.elim),ai.ext ad,a8.ext ad,aw.ext ad,aj⟩;rw[ah,if_pos ((af U aq).1 b),gu,JX0 _ ([U].map (lvM s.put (qD s.why))) (lvM s.put (qD s.why) U) rfl];simp only[Gg,Value.int.injEq,true_and,and_true];show(max _ ((lvM s.put (qD s.why) U:Nat):Int))=_;omega
   ·refine b0 b6 _ _ ⟨dn++[U],v8,by simp[b8],?_,V,ai,a8,aw,aj⟩;rw[ah,if_neg λe=>b ((af U aq).2 e),gD]
end
section
variable {w:World} {Fr:Nat->Prop} {many:Nat}
theorem TrailR.reframe {a:Nat->Prop} {bt:Nat} {put:List Int} {ds:List Bool} {vp vpl vl:Value} (h:TrailR Fr w bt many put ds vp vpl vl) (b:∀x,Jj bt vp vpl vl x->¬a x):TrailR a w bt many put ds vp vpl vl:=by
 obtain⟨hs,_⟩:=sep4.1 h.sep;exact⟨h.blk,h.rp,h.rpl,h.rl,sep4.2 ⟨hs,λx e=>b x (.inl (gg e).symm),λx e=>b x (.inr (.inl e)),λx e=>b x (.inr (.inr (.inl e))),λx e=>b x (.inr (.inr (.inr e)))⟩,h.len,h.dis,h.bnd,h.few⟩
end
section
variable {w:World} {K:Value->World->Prop} {F Fr:Nat->Prop} {many bs:Nat} {c:Cnf} {s:Sat} {σ:SV} {N:Nat}
theorem topL_pos {put:List Int} {ds:List Bool} {cl:List Int}:(q00 put ds cl≠0)↔((List.range cl.length).any λi=>decide (0<lvM put ds (cl.getD i 0)))=true:=by
 rw[G4];constructor
 ·intro h;rcases Kj (xs:=cl.map (lvM put ds)) with e|e
  ·exact absurd e h
  ·obtain⟨q,b,e⟩:=gk.1 e;obtain⟨i,a,rfl⟩:=gl b;refine⟨i,gr.2 a,?_⟩;have:cl.getD i 0=cl[i]:=(by simp[q0,a]);rw[this,decide_eq_true_eq,e];unfold q00 at h;omega
 ·rintro⟨i,a,h⟩;rw[gr] at a;rw[decide_eq_true_eq] at h;have:lvM put ds (cl.getD i 0)<=q00 put ds cl:=Kl (Ga (qi a));omega
theorem SR.setCode (h:SR N Fr w bs many c s σ) {k:Int} (g:∀w',SR N Fr w' bs many c {s with code:=k} σ->Same (σ.foot bs) w w'->w'.heap.size=w.heap.size->K undef w'):
  zm P ze (.pointer (some ⟨bs,5,none⟩)) (.int .i64 k) w K:=by
 refine h.blk.st rfl rfl YV rfl λw1 hs i f=>?_;have b:Same (σ.foot bs) w w1:=hs.mono λx _ e=> .inr (.inl e);have d:∀x,σ.tf x->x≠bs:=λx a e=>h.st x (.inl e) a;refine g w1 ⟨f,h.cm,h.cl.same b λx hF _ a=>h.notF a hF,h.tr.same hs λx a e=>d x a e,h.rw.same hs λx a e=>h.s1 x a e,h.rl.same hs λx a e=>h.s2 x a e,h.lsl,h.ll.same b λx hF _ a=>h.notF a hF,h.s1,h.s2,h.s3,h.st,h.sf⟩ b i
def StepTo (N:Nat) (Fr:Nat->Prop) (w:World) (bs many:Nat) (c:Cnf) (s':Sat) (σ:SV) (w':World):Prop:=
 ∃Fr' σ',SR N Fr' w' bs many c s' σ'/\Same (σ.foot bs) w w'/\(∀b,σ'.foot bs b->σ.foot bs b\/w.heap.size<=b)/\(∀b,Fr' b->Fr b\/w.heap.size<=b)/\(∀b,Fr' b->b<w'.heap.size)
theorem StepTo.trans {s2:Sat} {w1 w2:World} {d:Nat->Prop} {g:SV} (a2:Same (σ.foot bs) w w1) (a3:∀b,g.foot bs b->σ.foot bs b\/w.heap.size<=b) (a4:∀b,d b->Fr b\/w.heap.size<=b) (i:StepTo N d w1 bs many c s2 g w2):StepTo N Fr w bs many c s2 σ w2:=by
 obtain⟨F2,l,b1,b2,b3,b4,h⟩:=i;have k:=a2.size;refine⟨F2,l,b1,⟨b2.os.trans a2.os,b2.tape.trans a2.tape,b2.output.trans a2.output,Gc k b2.size,λb a f=>?_⟩,λb a=>?_,λb a=>?_,h⟩
 ·rw[b2.block b oM λj=>?_,a2.block b a f];rcases a3 b j with e|e
  ·exact f e
  ·omega
 ·rcases b3 b a with e|e
  ·exact a3 b e
  ·exact .inr oM
 ·rcases b4 b a with e|e
  ·exact a4 b e
  ·exact .inr oM
theorem StepTo.refl (h:SR N Fr w bs many c s σ) (hF:∀b,Fr b->b<w.heap.size):StepTo N Fr w bs many c s σ w:=⟨Fr,σ,h,Same.refl _ _,λ_ h=> .inl h,λ_ h=> .inl h,hF⟩
theorem StepTo.ext {w1 w':World} (h:StepTo N Fr w1 bs many c s σ w') (he:Ext w w1):StepTo N Fr w bs many c s σ w':=by
 obtain⟨d,f,e,a2,a3,a4,a5⟩:=h;have g:=he.size;exact⟨d,f,e,(Same.of_ext he).trans a2,λb a=>(a3 b a).imp id λh=>oM,λb a=>(a4 b a).imp id λh=>oM,a5⟩
theorem resolve_spec {v:Value} {k:Nat} (h:SR N Fr w bs many c s σ) (t:satOk many c s) (M:c.many=many) (hk:k<c.list.length+s.learned.length) (d:Ints F w v (atM c s k)) (hc:X9 s.put (atM c s k)) (q:∀b,Fr b->b<w.heap.size)
  (hK:∀w',StepTo N Fr w bs many c (Uc many c s (atM c s k)) σ w'->K (.tuple #[]) w'):
  vcall P k8 #[.pointer (some ⟨bs,0,none⟩),v] w K:=by
 apply Vy;obtain⟨af,ap⟩:=satOk.many' t M;have ak:=t.few;have aq:=t.mks;refine jO λp w1 hp O ar a8=>?_;have G:Blk w1 p [.pointer (some ⟨bs,0,none⟩)] zL:=a8;simp only[push_cast];have bounds:∀x,x∈atM c s k->x.natAbs<=many/\placeOf s.put x.natAbs≠0:=λx d=>⟨(t.lit M hk d).2,(hc x d).2⟩;refine YU (p:=λi=>decide (0<lvM s.put (qD s.why) ((atM c s k).getD i 0))) (d.ext O) (λi hi w' K' he a7=>?_) λw2 Z=>?_
 ·rw[X0] at hi;rw[qO0 hi];obtain⟨b1,b2⟩:=bounds _ (qi hi);exact resolve_1_spec (h.ext (O.trans he)) (G.ext he) b1 b2 λw'' Y=>a7 w'' Y
 have A:=O.trans Z;have I:=h.ext A;have L:=G.ext Z;rw[X0];simp only[push_cast];refine zI (λa=>?_) (λa=>?_)
 ·
  have g:q00 s.put (qD s.why) (atM c s k)=0:=pz λai=>by
   have:=topL_pos.1 ai;rw[this] at a;cases a
  simp only[push_cast,L.ld0];refine I.setCode λw3 h3 R a4=>hK w3 ⟨Fr,σ,?_,(Same.of_ext A).trans R,λb l=> .inl l,λb l=> .inl l,λb l=>?_⟩
  ·unfold Uc;rw[if_pos g];exact h3
  ·have:=q b l;have:=A.size;omega
 have g:q00 s.put (qD s.why) (atM c s k)≠0:=topL_pos.2 (by simpa using a);have ae:=I.lists;have al:=I.lsl;simp only[push_cast,L.ld0,I.blk.ld4,ae.len];refine zh (λb=>?_) (λb=>?_)
 ·refine I.setCode λw3 h3 R a4=>hK w3 ⟨Fr,σ,?_,(Same.of_ext A).trans R,λb l=> .inl l,λb l=> .inl l,λb l=>?_⟩
  ·unfold Uc;rw[if_neg g,if_pos oM];exact h3
  ·have:=q b l;have:=A.size;omega
 refine learn_spec I t M hk (d.ext A) hc g (λb l=>by have:=q b l;have:=A.size;omega) λw3 v3 B aj ag=>?_;have E3:=A.trans B;have a4:=B.size;have au:=A.size;simp only[push_cast];refine zu λw4 r _=>?_;have h4:=I.ext (B.trans r);have U:=(L.ext B).ext r;have a2:=aj.ext r;have av:=r.size;simp only[push_cast,U.ld0,h4.blk.ld4,true_and];refine yK Jx0 zn0 Jh0 rfl a2.ints.cells1 λb5 T ao C aw a5=>?_;have J:=h4.ext C;have V:=U.ext C;have S:=a2.ext C;simp only[push_cast,V.ld0,J.blk.ld4,true_and,and_self];refine OwnV.app1 J.rl Zk0 a5 S.ints.one oM oM λE w6 Q y ah=>?_;have a1:∀x,σ.foot bs x->x≠p:=λx d e=>by have:=h.lt d;omega
 have W:=V.same y λe=>a1 p (.inr (.inr (.inr e))) rfl;have X:=J.blk.same y λe=>h.s2 _ e rfl;have aa:Same (σ.foot bs) T w6:=y.mono λx _ e=> .inr (.inr (.inr e));simp only[push_cast,W.ld0,true_and];have j:∀x,v3.ownBlock=some x->w.heap.size<=x/\x<T.heap.size:=λx d=>⟨by have:=ag x d;omega,S.lt d⟩;have u:∀x,E.ownBlock=some x->σ.vr.ownBlock=some x\/T.heap.size<=x:=ah;refine X.st Q.vals.cells1 Q.vals.one kX0 rfl λw7 D ay a6=>?_;have f:Same (σ.foot bs) T w7:=aa.trans (D.mono λx _ e=> .inr (.inl e));have H:Same (λx=>x=bs\/σ.vr.ownBlock=some x) T w7:=(y.mono λx _ e=> .inr e).trans (D.mono λx _ e=> .inl e);have a9:=W.same D λe=>a1 bs (.inr (.inl rfl)) e.symm;have ax:=y.size;have a3:∀x,E.ownBlock=some x->x≠bs:=λx d e=>by
  rcases u x d with m|m
  ·exact h.s2 x m e
  ·have:=h.lt (.inr (.inl (rfl:bs=bs)));omega
 have ac:SR N (λb=>Fr b\/v3.ownBlock=some b) w7 bs many c {s with learned:=s.learned++[learnM many c s s.put.length (atM c s k)]} {σ with vr:=E,ls:=σ.ls++[v3]}:=by
  have fr:∀{x},σ.foot bs x->¬(Fr x\/v3.ownBlock=some x):=λ{x} d e=>by
   rcases e with e|e
   ·exact h.notF d e
   ·have:=h.lt d;have:=(j x e).1;omega
  refine⟨a6,h.cm,(J.cl.same f λx hF _ d=>h.notF d hF).weaken λx d _=> .inl d,?_,?_,?_,by simp[h.lsl],?_,h.s1,a3,?_,?_,?_⟩
  ·refine(J.tr.same H λx d e=>?_).reframe λx d=>fr (.inl d);rcases e with e|e
   ·exact h.st x (.inl e) d
   ·exact h.st x (.inr (.inr e)) d
  ·refine J.rw.same H λx d e=>?_;rcases e with e|e
   ·exact h.s1 x d e
   ·exact h.s3 x d e
  ·exact Q.same D λx d e=>a3 x d e
  ·refine RowsR.snoc ((J.ll.same f λx hF _ d=>h.notF d hF).weaken λx d _ _=> .inl d) h.lsl (S.same f λx d hf=>?_) (λx d=>⟨.inr d,?_⟩) λi x hi d e=>?_
   ·have:=h.lt hf;have:=(j x d).1;omega
   ·have:=h.ll.nle;have:=(j x d).1;omega
   ·have:=(h.ll.own i hi).lt d;have:=(j x e).1;omega
  ·intro x d e;rcases u x e with m|m
   ·exact h.s3 x d m
   ·have:=h.lt (.inr (.inr (.inl d)));omega
  ·rintro x (e|e|e) ht
   ·exact h.st x (.inl e) ht
   ·exact h.st x (.inr (.inl e)) ht
   ·rcases u x e with m|m
    ·exact h.st x (.inr (.inr m)) ht
    ·have:=h.lt (.inl ht);omega
  ·rintro x (e|e|e) hF
   ·exact fr (.inr (.inl e)) hF
   ·exact fr (.inr (.inr (.inl e))) hF
   ·rcases u x e with m|m
    ·exact fr (.inr (.inr (.inr m))) hF
    ·rcases hF with hF|hF
     ·have:=q x hF;omega
     ·have:=(j x hF).2;omega
 simp only[push_cast,a9.ld0];have an:=f.size;refine goBack_spec ac λσ8 w8 n hn ab z ad=>?_;subst hn;have a0:∀x,(SV.foot {σ with vr:=E,ls:=σ.ls++[v3]} bs) x->σ.foot bs x\/T.heap.size<=x:=by
  rintro x (e|e|e|e)
  ·exact .inl (.inl e)
  ·exact .inl (.inr (.inl e))
  ·exact .inl (.inr (.inr (.inl e)))
  ·exact(u x e).imp (λe=> .inr (.inr (.inr e))) id
 have az:=z.size;refine hK w8 ⟨λb=>Fr b\/v3.ownBlock=some b,σ8,?_,?_,λx d=>?_,λx d=>?_,λx d=>?_⟩
 ·unfold Uc;rw[if_neg g,if_neg oM];exact ab
 ·have o:Ext w T:=E3.trans (r.trans C);have am:=o.size;refine⟨(z.os.trans f.os).trans o.os,(z.tape.trans f.tape).trans o.tape,(z.output.trans f.output).trans o.output,oM,λx d hn=>?_⟩;rw[z.block x oM λhf=>?_,f.block x oM hn,o.block x d id];rcases a0 x hf with e|e
  ·exact hn e
  ·omega
 ·rcases a0 x (ad x d) with e|e
  ·exact .inl e
  ·exact .inr oM
 ·rcases d with e|e
  ·exact .inl e
  ·exact .inr (j x e).1
 ·rcases d with e|e
  ·have:=q x e;omega
  ·have:=(j x e).2;omega
theorem neg_ne {n:Nat} (h:1<=n): -(n:Int)≠0:=oM
theorem satOk.bnd (h:satOk many c s) (b:c.many=many) {cl:List Int} (a:cl∈c.list++s.learned) {l:Int} (d:l∈cl):l≠0/\l.natAbs<=many:=by
 have:=YE (satOk.cls h a) d;omega
theorem step_spec (h:SR N Fr w bs many c s σ) (g:satOk many c s) (t:c.many=many) (r:∀b,Fr b->b<w.heap.size)
  (p:∀w',StepTo N Fr w bs many c (qy0 many c s) σ w'->K (.tuple #[]) w'):
  vcall P ZM #[.pointer (some ⟨bs,0,none⟩)] w K:=by
 apply zR0;obtain⟨a4,A⟩:=satOk.many' g t;have aa:=g.few;simp only[push_cast,h.blk.ld5];refine zh (λa=>p w (by unfold qy0;rw[if_neg (by simpa using a)];exact StepTo.refl h r)) (λa=>?_);have Q:qy0 many c s=goM many c s:=if_pos (by simpa using a);rw[Q] at p;clear Q;refine zu λw1 I _=>?_;have G:=h.ext I;simp only[push_cast,G.blk.ld1,G.blk.ld2,G.blk.ld4,true_and];obtain⟨cs,ae,Y,ad⟩:=G.cl;refine vbuildS_row1 (xs:=[σ.vc,σ.vr]) Vk0 kX0 V50 (λx hx=>?_) (by simp) λb2 w2 ac Z ai X=>?_
 ·simp only[gd,gx,or_false] at hx;rcases hx with rfl|rfl
  ·exact Y.cells1
  ·exact G.lists.cells1
 have E2:=I.trans Z;have D:=h.ext E2;simp only[push_cast,D.blk.ld2,true_and];have L:Lists (λ_=>True) w2 σ.vr s.learned:=⟨σ.ls,D.lsl,D.lists.weaken λ_ _ _=>trivial,λi m=>(D.ll.int m).weaken λ_ _ _=>trivial⟩;have H:Lists (λ_=>True) w2 σ.vc c.list:=D.cl.weaken λ_ _ _=>trivial;have B:([c.list,s.learned]:List (List (List Int))).flatten=c.list++s.learned:=by simp
 refine next_spec (F:=λ_=>True) (vs:=[σ.vc,σ.vr]) (lls:=[c.list,s.learned]) D.tr (Sl.weaken (X.sl1 rfl (by simp)) λ_ _ _=>trivial) rfl (λi m=>?_) (λcl A l hl=>?_) ?_ λw3 k u x a0 J=>?_
 ·match i,m with
  |0,_=>exact H
  |1,_=>exact L
  |n+2,m=>exact absurd m (by simp)
 ·rw[B] at A;exact(satOk.bnd g t A hl).2
 ·rw[B,k6];omega
 rw[B] at J;have E:=E2.trans a0;have S:=h.ext E;have aj:=E.size;have o:∀b,Fr b->b<w3.heap.size:=λb d=>by have:=r b d;omega
 simp only[push_cast,true_and];have f:goM many c s=(if 0<=k then Uc many c s (atM c s k.toNat) else if 0<=u then{s with put:=s.put++[x],why:=s.why++[u]}
  else if s.put.length=many then{s with code:=1} else{s with put:=s.put++[-(q20 many s.put:Int)],why:=s.why++[-1]}):=by
  unfold goM;rw[J]
 have hlen:=g.len;have ah:=(satOk.mks g).len;rcases find_cases s.put (c.list++s.learned) with⟨i,u',x',m,e,hc⟩|⟨hn,⟨i,x',m,e,hu,-⟩|⟨e,-⟩⟩
 ·rw[J,GF,GF] at e;obtain⟨rfl,rfl,rfl⟩:=e;rw[k6] at m;rw[if_pos oM,gm] at f;refine zh (λ_=>?_) (λb=>absurd oM b);refine clause_spec S oM oM λv4 U j a7=>?_;have q:=S.ext j;refine resolve_spec q g t m a7 hc (λb d=>by have:=o b d;have:=j.size;omega) λV z=>?_;rw[f] at p;exact p V (z.ext (E.trans j))
 ·rw[J,GF,GF] at e;obtain⟨rfl,rfl,rfl⟩:=e;rw[k6] at m;rw[if_neg oM,if_pos oM] at f;refine zh (λb=>absurd b oM) (λ_=>zh (λ_=>?_) (λb=>absurd oM b));obtain⟨a8,a9⟩:=unit_mem hu;have d:=satOk.bnd g t (XN0 (s:=s) m) a8;refine assign_spec S d.1 d.2 a9 o λσ' U q M a1=>?_;rw[f] at p;refine p U (StepTo.ext ⟨Fr,σ',q,M,a1,λb d=> .inl d,λb d=>?_⟩ E);have:=o b d;have:=M.size;omega
 ·rw[J,GF,GF] at e;obtain⟨rfl,rfl,rfl⟩:=e;rw[if_neg oM,if_neg oM] at f;refine zh (λb=>absurd b oM) (λ_=>zh (λb=>absurd b oM) (λ_=>?_));refine zu λU j _=>?_;have q:=S.ext j;have W:=E.trans j;have a5:Ints _ U σ.vp s.put:=q.tr.rp.ints;simp only[push_cast,q.blk.ld0,q.blk.ld2,q.tr.blk.ld0,a5.len,true_and];refine zh (λb=>?_) (λb=>?_)
  ·rw[if_pos oM] at f;refine q.setCode λV z a6 ak=>?_;rw[f] at p;refine p V (StepTo.ext ⟨Fr,σ,z,a6,λb d=> .inl d,λb d=> .inl d,λb d=>?_⟩ W);have:=r b d;have:=W.size;omega
  ·rw[if_neg oM] at f;obtain⟨f1,f2,f3,f4⟩:=free_spec g.mks oM;refine vloop_up (q20 many s.put-1) (λi u w'=>u=[.int .i64 (i+1:Nat)]/\Ext w w') ⟨rfl,W⟩ ?_;rintro i _ _ V C m ⟨rfl,T⟩ hC;have z:=h.ext T;simp only[push_cast,z.blk.ld2];refine assigned_spec z.tr oM λw6 v=>?_;rw[show((i:Int)+1).natAbs=i+1 from by omega];refine zh (λR=>?_) (λR=>?_)
   ·have a3:i<q20 many s.put-1:=by
     refine pz λaf=>?_;have:i+1=q20 many s.put:=oM;rw[this] at R;exact R f3
    simp(disch:=omega) only[push_cast,zJ];exact hC a3 _ _ ⟨by simp,T.trans v⟩
   ·have ab:i+1=q20 many s.put:=by
     refine pz λag=>R (f4 _ oM oM)
    have e1:IntKind.i64.wrap (0-((i:Int)+1))= -(q20 many s.put:Int):=by rw[zJ oM oM];omega
    rw[e1];have h6:=z.ext v;have y:∀b,Fr b->b<w6.heap.size:=λb d=>by have:=r b d;have:=(T.trans v).size;omega
    refine assign_spec h6 (neg_ne f1) (by rw[GA,PO];exact f2) (by rw[GA,PO];exact f3) y λσ' w7 h7 O a2=>?_;rw[f] at p;refine p w7 (StepTo.ext ⟨Fr,σ',h7,O,a2,λb d=> .inl d,λb d=>?_⟩ (T.trans v));have:=y b d;have:=O.size;omega
end
section
variable {w:World} {K:Value->World->Prop} {F Fr:Nat->Prop} {many bs:Nat} {c:Cnf} {s:Sat} {σ:SV} {N:Nat}
theorem run_spec {v:Value} {n:Nat} (hc:CnfR F w v c) (z:cnfOk c=true) (d:c.many=many) (hn:n<=4000)
  (X:∀Fr bs σ w',Ext w w'->SR w.heap.size Fr w' bs many c (runM many c n emptyS) σ->(∀b,σ.foot bs b->w.heap.size<=b)->(∀b,Fr b->F b\/w.heap.size<=b)->(∀b,Fr b->b<w'.heap.size)->K (.pointer (some ⟨bs,0,none⟩)) w'):
  vcall P yT0 #[v,.int .i64 n] w K:=by
 apply QX0;obtain⟨lv,rfl,R⟩:=hc;have s:many<=700:=by
  have:=z;unfold cnfOk at this;simp only[K3,decide_eq_true_eq] at this;omega
 refine jO λb1 w1 Y J a6 G=>?_;refine zu λw2 m _=>?_;have D:Blk w2 b1 [.int .i64 c.many,lv] zz:=G.ext m;rw[D.ldAgg xS];simp only[push_cast,D.ld0,true_and];rw[d];have a7:=m.size;refine newTrail_spec (Fr:=λb=>F b/\b<w.heap.size) s (λb l=>by have:=l.2;omega) λbt vp vpl vl w3 o g L=>?_;have S:=D.ext o;rw[S.ldAgg xS,d];simp only[true_and];refine yM0 Yh0 (us:=[[.int .i64 many,lv],[.pointer (some ⟨bt,0,none⟩)]]) rfl rfl ?_;refine⟨rfl,?_⟩;refine jO λbs A Z t a9 H=>?_;have B:Ext w A:=J.trans (m.trans (o.trans t));have a8:=o.size;have M:=g.ext t;have a0:=(R.ext B).weaken (F':=λb=>F b) λb h _=>h;have y:Lists (λb=>F b/\b<w.heap.size) A lv c.list:=(R.weaken (F':=λb=>F b/\b<w.heap.size) λb T U=>⟨T,U⟩).ext B;have N:∀x,Jj bt vp vpl vl x->x<w3.heap.size:=by
  rintro x (rfl|e|e|e)
  ·exact g.blk.lt
  ·exact g.rp.lt e
  ·exact g.rpl.lt e
  ·exact g.rl.lt e
 have p:∀x,(SV.mk lv bt vp vpl vl (.slice none 0 0) (.slice none 0 0) []).f3 bs x->x=bs:=by
  rintro x (e|e|e)
  ·exact e
  ·cases e
  ·cases e
 have I:SR w.heap.size (λb=>F b/\b<w.heap.size) A bs many c emptyS (SV.mk lv bt vp vpl vl (.slice none 0 0) (.slice none 0 0) []):=
  ⟨H,d,y,M,OwnI.nil,OwnV.nil,rfl,RowsR.nil B.size,λx j=>(by cases j),λx j=>(by cases j),λx j=>(by cases j),
   λx j ht=>by have:=p x j;have:=N x ht;omega,λx j hF=>by have:=p x j;have:=hF.2;omega⟩
 have f:∀x,(SV.mk lv bt vp vpl vl (.slice none 0 0) (.slice none 0 0) []).foot bs x->w.heap.size<=x:=by
  rintro x (e|e)
  ·have:=L x e;omega
  ·have:=p x e;omega
 have k:∀q,StepTo w.heap.size (λb=>F b/\b<w.heap.size) A bs many c (runM many c n emptyS) (SV.mk lv bt vp vpl vl (.slice none 0 0) (.slice none 0 0) []) q->K (.pointer (some ⟨bs,0,none⟩)) q:=by
  rintro q ⟨E,O,r,a2,a3,a4,a5⟩;refine X E bs O q (B.then a2 f) r (λb l=>?_) (λb l=>?_) a5
  ·rcases a3 b l with e|e
   ·exact f b e
   ·omega
  ·rcases a4 b l with e|e
   ·exact .inl e.1
   ·exact .inr oM
 refine vloop_up n (λi u w'=>u=[.int .i64 i]/\StepTo w.heap.size (λb=>F b/\b<w.heap.size) A bs many c (runM many c i emptyS) (SV.mk lv bt vp vpl vl (.slice none 0 0) (.slice none 0 0) []) w') ⟨rfl,StepTo.refl I λb l=>by have:=l.2;omega⟩ ?_;rintro i _ _ q C hi ⟨rfl,Q⟩ W;simp only[push_cast];refine zh (λa=>?_) (λa=>?_)
 ·obtain⟨E,O,r,a2,a3,a4,a5⟩:=Q;simp only[push_cast,r.blk.ld5];refine zh (λb=>?_) (λb=>?_)
  ·refine k q ⟨E,O,?_,a2,a3,a4,a5⟩;have e:n=i+(n-i):=oM;rw[e,run_add,run_stop b];exact r
  ·refine step_spec r (run_ok d (Qg0 z)) d a5 λw6 V=>?_;simp(disch:=omega) only[push_cast,zJ];refine W oM _ _ ⟨by simp,StepTo.trans a2 a3 a4 (by rw[run_succ];exact V)⟩
 ·have:n=i:=oM;subst this;exact k q Q
end
section
variable {w:World} {K:Value->World->Prop} {F Fr:Nat->Prop} {many bs:Nat} {c:Cnf} {s:Sat} {σ:SV} {N:Nat}
def KM (many:Nat) (put:List Int):List Bool:=(List.range many).map λj=>decide (((j+1:Nat):Int)∈put)
theorem valsM_snoc {many:Nat} {put:List Int} {l:Int} (a:ja (put++[l])) (j:l≠0):(KM many put).set (l.natAbs-1) (decide (0<l))=KM many (put++[l]):=by
 refine Ge (by simp[KM]) λi f g=>?_;rw[pZ];simp only[KM,pj,GH];have c:∀x,x∈put->x.natAbs≠l.natAbs:=by
  unfold ja at a;rw[gu,Gy] at a;exact λx d e=>a.2.2 _ (Ga d) _ (by simp) e
 by_cases b:l.natAbs-1=i
 ·rw[if_pos b];refine decide_eq_decide.2 ⟨λh=>G0 _ (by rw[gn];omega),λh=>?_⟩;rcases gj.1 h with h|h
  ·exact absurd oM (c _ h)
  ·rw[gn] at h;omega
 ·rw[if_neg b];refine decide_eq_decide.2 ⟨λh=>gW _ h,λh=>?_⟩;rcases gj.1 h with h|h
  ·exact h
  ·rw[gn] at h;omega
theorem vals_spec (h:SR N Fr w bs many c s σ) (B:∀w' v,Ext w w'->OwnB P jN w' v (KM many s.put)->(∀x,v.ownBlock=some x->w.heap.size<=x)->K v w'):vcall P ZL #[.pointer (some ⟨bs,0,none⟩)] w K:=by
 apply zQ0;have E:=h.tr.few;have z:=h.tr.few';simp only[push_cast,h.blk.ld0];refine vmkS_own (bs:=1) WV0 W60 Jg0 rfl oM oM λv1 w1 t e f=>?_;have m:=h.ext e;have o:Ints _ w1 σ.vp s.put:=m.tr.rp.ints;simp only[push_cast,m.blk.ld2,m.tr.blk.ld0,o.len];have r:OwnB P jN w1 v1 (KM many []):=by
  have:KM many []=List.replicate many false:=Ge (by simp[KM]) λi a b=>(by simp[KM]);rw[this];unfold OwnB;rw[po];exact t
 refine vloop_up s.put.length (λi u w'=>u=[.int .i64 i]/\Ext w w'/\OwnB P jN w' v1 (KM many (s.put.take i))) ⟨rfl,e,r⟩ ?_;rintro i _ _ w2 C J ⟨rfl,he,l⟩ A;simp only[push_cast];refine zh (λa=>?_) (λa=>?_)
 ·have g:Ints _ w2 σ.vp s.put:=(h.ext he).tr.rp.ints;simp(disch:=first|(simp only[push_cast])|omega) only[push_cast,g.iaddr,g.load];have D:=h.tr.bnd _ (qi (show i<s.put.length by omega));have G:(KM many (s.put.take i)).length=many:=(by simp[KM]);refine variable_spec oM oM ?_;obtain⟨q,F⟩:∃q,(s.put.getD i 0).natAbs=q+1:=⟨(s.put.getD i 0).natAbs-1,oM⟩;rw[F,show(((q+1:Nat):Int))=(q:Int)+1 from rfl];have n:=l.bools;simp(disch:=first|(simp only[push_cast])|omega) only[We,Int.add_sub_cancel,push_cast,zJ,n.iaddr];refine l.st Ji0 oM λL k p I=>?_;have j:(KM many (s.put.take i)).set q (decide (0<s.put.getD i 0))=KM many (s.put.take (i+1)):=by
   have y:=Kq h.tr.dis (i+1);rw[qw0 (d:=0) oM] at y⊢;rw[<-valsM_snoc y D.1,show q=(s.put.getD i 0).natAbs-1 from by omega]
  rw[j] at k;exact A oM _ _ ⟨by simp,Ext.then he p λx H=>by have:=f x H;omega,k⟩
 ·rw[gK oM] at l;exact B w2 v1 he l f
end
end Go.Proofs.YtokflbdfnbppjaaGreatDoor
namespace Go.Vc
open Go Go.M
section
variable {P:Program} {w w':World} {K:Value->World->Prop} {F:Nat->Prop} {k:Nat} {v tv dv mv:Value} {xs:List (List Value)} {t:TypeId} {ts:List Tm} {ds:List Dcl}
theorem Sl.mid (h:Sl F w k v xs) (A:elB P t k=true) {a b:Nat} (s:a<=b) (q:b<=xs.length):
  ∃v1,(∀(n p:IntKind) (w':World) (K:Value->World->Prop),yY P t v (some (.int n a)) (some (.int p b)) none w' K=K v1 w')/\Sl F w k v1 ((xs.drop a).take (b-a)):=by
 obtain⟨hu,hs⟩:=zJ0 A;obtain⟨o,c,rfl,C,u,d⟩:=h.shape;refine⟨sliced o a b c k,λn p w' K=>yU ?_,?_⟩
 ·rw[run_sliceAt_slice w' t _ _ _ _ hu,run_slice_lh w' t _ _ _ hu n p a b oM oM oM,Go.Vc.run_sizeOf hs];simp[Result.andThen]
 ·have f:((xs.drop a).take (b-a)).length=b-a:=by rw[gi,GO];omega
  refine⟨⟨_,c-a,by rw[f];rfl,by rw[f];omega,oM,λm=>?_⟩,λx B=>h.wide x (pE (gX B))⟩;have z:a<b:=Nat.lt_of_not_le λe=>m (gC (by rw[f];omega));obtain⟨g,j,rfl,hF,y,l⟩:=d (λe=>by rw[e] at q;simp at q;omega);rw[if_neg oM];refine⟨g,j+a*k,by simp[xU],hF,y,λi r=>?_⟩;rw[f] at r;have:=l (a+i) oM;have e:((xs.drop a).take (b-a)).getD i []=xs.getD (a+i) []:=by
   rw[take_getD r,q0,pO,<-q0]
  rw[e,show j+a*k+i*k=j+(a+i)*k by rw[G7];omega];exact this
theorem DclsR.mid (h:DclsR F w v ds) (g:elB P t 2=true) {a b:Nat} (c:a<=b) (f:b<=ds.length):
  ∃v1,(∀(i j:IntKind) (w':World) (K:Value->World->Prop),yY P t v (some (.int i a)) (some (.int j b)) none w' K=K v1 w')/\DclsR F w v1 ((ds.drop a).take (b-a)):=by
 obtain⟨v1,d,e⟩:=Sl.mid h g c (by rw[X0];exact f);exact⟨v1,d,by unfold DclsR;rw[GK,pR];exact e⟩
theorem TmsR.mid (h:TmsR F w v ts) (k:elB P t 5=true) {a b:Nat} (d:a<=b) (j:b<=ts.length):
  ∃v1,(∀(m n:IntKind) (w':World) (K:Value->World->Prop),yY P t v (some (.int m a)) (some (.int n b)) none w' K=K v1 w')/\TmsR F w v1 ((ts.drop a).take (b-a)):=by
 obtain⟨css,g1,g2,g3⟩:=h;obtain⟨v1,f,g⟩:=Sl.mid g1 k d (by rw[g2];exact j);refine⟨v1,f,_,g,by simp[g2],λi e=>?_⟩;have c:i<b-a:=by rw[gi] at e;omega
 rw[take_getD c,take_getD c,q0,pO,<-q0,q0 (l:=ts.drop a),pO,<-q0];exact g3 _ (by rw[gi,GO] at e;omega)
theorem DclsR.one (h:DclsR F w dv ds):dv.oneCell'=true:=by
 obtain⟨a,c,rfl,_⟩:=h.shape;rfl
theorem DclsR.cellsV (h:DclsR F w dv ds):dv.cells= #[dv]:=by
 obtain⟨a,c,rfl,_⟩:=h.shape;rfl
theorem TmsR.one (h:TmsR F w tv ts):tv.oneCell'=true:=by
 obtain⟨_,h,_⟩:=h;obtain⟨a,c,rfl,_⟩:=h.shape;rfl
theorem TmsR.cellsV (h:TmsR F w tv ts):tv.cells= #[tv]:=by
 obtain⟨_,h,_⟩:=h;obtain⟨a,c,rfl,_⟩:=h.shape;rfl
theorem PairsR.one {xs:List (Int×Int)} (h:PairsR F w mv xs):mv.oneCell'=true:=by
 obtain⟨a,c,rfl,_⟩:=h.shape;rfl
theorem PairsR.cellsV {xs:List (Int×Int)} (h:PairsR F w mv xs):mv.cells= #[mv]:=by
 obtain⟨a,c,rfl,_⟩:=h.shape;rfl
end
end Go.Vc
namespace Go.M
open Go.Vc
section
abbrev Lay:=List Dcl×List Tm
def decL (c:List Lay):List Dcl:=(c.map (·.1)).flatten
def terL (c:List Lay):List Tm:=(c.map (·.2)).flatten
def UO0 (c:List Lay) (i:Nat):Bool:=(c.getD i ([],[])).2.all λt=>decide (tsort (decL (c.take (i+1))) t=0)
def ctxOk (c:List Lay):Bool:=decide (1<=c.length)&&decide (c.length<=6)&&declOk (decL c)&&decide ((terL c).length<=8)&&(List.range c.length).all λi=>UO0 c i
def addD (c:List Lay) (d:Dcl):List Lay:=c.set (c.length-1) ((c.getD (c.length-1) ([],[])).1++[d],(c.getD (c.length-1) ([],[])).2)
def addT (c:List Lay) (t:Tm):List Lay:=c.set (c.length-1) ((c.getD (c.length-1) ([],[])).1,(c.getD (c.length-1) ([],[])).2++[t])
section
variable {c:List Lay} {d:Dcl} {t:Tm} {l:Lay} {ds es:List Dcl} {i:Nat}
theorem ctx_iff:ctxOk c=true↔1<=c.length/\c.length<=6/\declOk (decL c)=true/\(terL c).length<=8/\∀i,i<c.length->∀t,t∈(c.getD i ([],[])).2->tsort (decL (c.take (i+1))) t=0:=by
 simp only[ctxOk,UO0,K3,gH,gr,decide_eq_true_eq,and_assoc]
theorem decL_app (c b:List Lay):decL (c++b)=decL c++decL b:=by unfold decL;rw[gu,pK]
theorem terL_app (c b:List Lay):terL (c++b)=terL c++terL b:=by unfold terL;rw[gu,pK]
theorem decL_one (l:Lay):decL [l]=l.1:=by simp[decL]
theorem terL_one (l:Lay):terL [l]=l.2:=by simp[terL]
theorem lay_take (h:i<c.length):c.take (i+1)=c.take i++[c.getD i ([],[])]:=take_add h _
theorem decL_take (h:i<c.length):decL (c.take (i+1))=decL (c.take i)++(c.getD i ([],[])).1:=by rw[lay_take h,decL_app,decL_one]
theorem terL_take (h:i<c.length):terL (c.take (i+1))=terL (c.take i)++(c.getD i ([],[])).2:=by rw[lay_take h,terL_app,terL_one]
theorem decL_split (c:List Lay) (i:Nat):decL c=decL (c.take i)++decL (c.drop i):=by rw[<-decL_app,GL]
theorem terL_split (c:List Lay) (i:Nat):terL c=terL (c.take i)++terL (c.drop i):=by rw[<-terL_app,GL]
theorem decL_pre (c:List Lay) (i:Nat):(decL c).take (decL (c.take i)).length=decL (c.take i):=by rw[decL_split c i,z0g];rfl
theorem lay_drop (h:i<c.length):c.drop i=c.getD i ([],[])::c.drop (i+1):=by
 rw[GZ h,q0,Q1 h];rfl
theorem decL_mid (h:i<c.length):((decL c).drop (decL (c.take i)).length).take ((decL (c.take (i+1))).length-(decL (c.take i)).length)=(c.getD i ([],[])).1:=by
 rw[decL_take h,k6,P7,decL_split c i,z0e,lay_drop h]
 ·show List.take _ (((c.getD i ([],[])).1::((c.drop (i+1)).map (·.1))).flatten)=_;rw[GD,z0g];rfl
 ·rfl
theorem terL_mid (h:i<c.length):((terL c).drop (terL (c.take i)).length).take ((terL (c.take (i+1))).length-(terL (c.take i)).length)=(c.getD i ([],[])).2:=by
 rw[terL_take h,k6,P7,terL_split c i,z0e,lay_drop h]
 ·show List.take _ (((c.getD i ([],[])).2::((c.drop (i+1)).map (·.2))).flatten)=_;rw[GD,z0g];rfl
 ·rfl
theorem decL_le (h:i<=c.length):(decL (c.take i)).length<=(decL c).length:=by rw[decL_split c i,k6];omega
theorem terL_le (h:i<=c.length):(terL (c.take i)).length<=(terL c).length:=by rw[terL_split c i,k6];omega
def markL (c:List Lay):List (Int×Int):=(List.range c.length).map λi=>(((decL (c.take (i+1))).length:Int),((terL (c.take (i+1))).length:Int))
theorem markL_len:(markL c).length=c.length:=by simp[markL]
theorem markL_get (h:i<c.length):(markL c).getD i (0,0)=(((decL (c.take (i+1))).length:Int),((terL (c.take (i+1))).length:Int)):=by
 unfold markL;rw[getD_map _ (by simpa using h) _ 0,q0,GW h];rfl
theorem markL_snoc (c:List Lay) (l:Lay):markL (c++[l])=markL c++[(((decL (c++[l])).length:Int),((terL (c++[l])).length:Int))]:=by
 unfold markL;rw[k6,gz,PB,gu];congr 1
 ·refine Gb λi a=>?_;have b:=gr.1 a;rw[gY oM]
 ·simp[gK]
theorem Js {c:List Lay} (h:c≠[]):∃b l,c=b++[l]:=⟨_,_,(List.dropLast_concat_getLast h).symm⟩
theorem Xg0 (c:List Lay) (l:Lay) (d:Dcl):addD (c++[l]) d=c++[(l.1++[d],l.2)]:=by
 unfold addD;simp[q0,PE]
theorem yb0 (c:List Lay) (l:Lay) (t:Tm):addT (c++[l]) t=c++[(l.1,l.2++[t])]:=by
 unfold addT;simp[q0,PE]
theorem addD_decL (h:c≠[]):decL (addD c d)=decL c++[d]:=by
 obtain⟨b,l,rfl⟩:=Js h;rw[Xg0];simp[decL]
theorem addD_terL (h:c≠[]):terL (addD c d)=terL c:=by
 obtain⟨b,l,rfl⟩:=Js h;rw[Xg0];simp[terL]
theorem addT_decL (h:c≠[]):decL (addT c t)=decL c:=by
 obtain⟨b,l,rfl⟩:=Js h;rw[yb0];simp[decL]
theorem addT_terL (h:c≠[]):terL (addT c t)=terL c++[t]:=by
 obtain⟨b,l,rfl⟩:=Js h;rw[yb0];simp[terL]
theorem addD_len:(addD c d).length=c.length:=by unfold addD;rw[gL]
theorem addT_len:(addT c t).length=c.length:=by unfold addT;rw[gL]
theorem markL_addT (h:c≠[]):markL (addT c t)=(markL c).set (c.length-1) (((decL c).length:Int),((terL c).length:Int)+1):=by
 obtain⟨b,l,rfl⟩:=Js h;rw[yb0,markL_snoc,markL_snoc];simp[PE,markL_len,decL,terL];omega
theorem markL_last (h:c≠[]):(markL c).getD (c.length-1) (0,0)=(((decL c).length:Int),((terL c).length:Int)):=by
 have:0<c.length:=gG.2 h;rw[markL_get oM,show c.length-1+1=c.length by omega,gA]
theorem less_app:∀{es ds:List Dcl},declOk (ds++es)=true->declOk ds=true
 |[],_,h=>by simpa using h
 |e::es,ds,h=>decl_less (less_app (ds:=ds++[e]) (es:=es) (by simpa using h))
theorem sort_app:∀{es ds:List Dcl} {t:Tm},declOk (ds++es)=true->sortM ds t≠ -1->sortM (ds++es) t=sortM ds t
 |[],_,_,_,_=>by simp
 |e::es,ds,t,h,hs=>by
  have a:declOk ((ds++[e])++es)=true:=(by simpa using h);have b:=more_sort (less_app a) t hs;have c:=sort_app a (t:=t) (by rw[b];exact hs);rw[<-b,<-c];simp
theorem tsort0:tsort ds t=0↔fits t=true/\declOk ds=true/\sortM ds t=0:=by
 unfold tsort;by_cases h:fits t=true/\declOk ds=true
 ·rw[if_pos h];exact⟨λe=>⟨h.1,h.2,e⟩,λe=>e.2.2⟩
 ·rw[if_neg h];exact⟨λe=>absurd e dC,λe=>absurd ⟨e.1,e.2.1⟩ h⟩
theorem Jz0 (h:declOk (ds++es)=true) (hs:tsort ds t=0):tsort (ds++es) t=0:=by
 obtain⟨a,b,e⟩:=tsort0.1 hs;exact tsort0.2 ⟨a,h,by rw[sort_app h (by rw[e];decide),e]⟩
theorem ctx_terms (h:ctxOk c=true):∀t,t∈terL c->tsort (decL c) t=0:=by
 obtain⟨k,m,e,n,f⟩:=ctx_iff.1 h;intro t j;obtain⟨ts,b,a⟩:=P4.1 j;obtain⟨l,g,rfl⟩:=gk.1 b;obtain⟨i,d,rfl⟩:=gl g;have hs:=f i d t (by rw[q0,Q1 d];exact a);rw[decL_split c (i+1)];exact Jz0 (by rw[<-decL_split];exact e) hs
theorem ctx_addT (h:ctxOk c=true):ctxOk (addT c t)=(decide (tsort (decL c) t=0)&&decide ((terL c).length<8)):=by
 obtain⟨k,m,n,p,g⟩:=ctx_iff.1 h;have a:c≠[]:=PT oM;rw[PC,ctx_iff,K3,decide_eq_true_eq,decide_eq_true_eq,addT_len,addT_decL a,addT_terL a,k6,gz];obtain⟨b,l,rfl⟩:=Js a;rw[yb0];have q:(b++[l]).length=b.length+1:=by simp
 constructor
 ·rintro⟨_,_,_,g4,g5⟩;refine⟨?_,oM⟩;have:=g5 b.length oM t (by simp[q0]);rw[gK (by simp)] at this;simpa[decL] using this
 ·rintro⟨g1,g2⟩;refine⟨k,m,n,oM,λi j u hu=>?_⟩;by_cases f:i<b.length
  ·rw[app_getD f] at hu;have:=g i j u (by rw[app_getD f];exact hu);rw[gY oM] at this⊢;exact this
  ·have e:i=b.length:=oM;subst e;rw[gK (by simp)];have o:decL (b++[(l.1,l.2++[t])])=decL (b++[l]):=(by simp[decL]);rw[o];have d:u∈l.2\/u=t:=(by simpa[q0] using hu);rcases d with d|rfl
   ·have:=g b.length j u (by simpa[q0] using d);rwa[gK (by simp)] at this
   ·exact g1
end
end
end Go.M
namespace Go.Proofs.YtokflbdfnbppjaaGreatDoor
open Go Go.Vc Go.Proofs
section
variable {w w':World} {K:Value->World->Prop} {F F' F2 H H2 S:Nat->Prop} {k:Nat} {v uv tv dv:Value} {t:TypeId} {ts us:List M.Tm} {ds es:List M.Dcl}
def LstH (H:Nat->Prop) (w:World) (tv:Value) (ts:List M.Tm):Prop:= ∃css,Own P 0 5 zb w tv css/\css.length=ts.length/\∀i,i<ts.length->TmR H w (css.getD i []) (ts.getD i default)
theorem LstH.nil:LstH H w (.slice none 0 0) []:=⟨[],Own.nil P 0 5 _ w,rfl,λi a=>absurd a (pB _)⟩
theorem LstH.lt (h:LstH H w tv ts) {b:Nat} (a:tv.ownBlock=some b):b<w.heap.size:=by obtain⟨_,c,_⟩:=h;exact(c.lt a).2
theorem LstH.same (h:LstH H w tv ts) (hw:Same S w w') (b:∀x,tv.ownBlock=some x->¬S x) (c:∀x,H x->x<w.heap.size->¬S x):LstH H w' tv ts:=by
 obtain⟨css,f,e,d⟩:=h;exact⟨css,f.same hw b,e,λi a=>(d i a).same hw c⟩
theorem LstH.ext (h:LstH H w tv ts) (hw:Ext w w'):LstH H w' tv ts:=h.same hw (λ_ _ h=>h) λ_ _ _ h=>h
theorem LstH.weaken (h:LstH H w tv ts) (c:∀b,H b->b<w.heap.size->F b):LstH F w tv ts:=by
 obtain⟨css,f,e,d⟩:=h;exact⟨css,f,e,λi a=>(d i a).weaken c⟩
theorem LstH.tms (h:LstH H w tv ts):TmsR (λx=>H x\/tv.ownBlock=some x) w tv ts:=by
 obtain⟨css,e,d,c⟩:=h;exact⟨css,e.sl.weaken λx b _=> .inr b,d,λi a=>(c i a).weaken λx b _=> .inl b⟩
theorem Q3 {α:Type} {l r:List α} {i:Nat} {e:α} (h:l.length<=i):(l++r).getD i e=r.getD (i-l.length) e:=by
 rw[q0,gO h,<-q0]
theorem LstH.app {ty:Nat} {c:List (List Value)} (h:LstH H w tv ts) (o:∀x,tv.ownBlock=some x->¬H x/\¬H2 x) (hu:Sl F2 w 5 uv c) (j:c.length=us.length) (g:∀i,i<us.length->TmR H2 w (c.getD i []) (us.getD i default))
  (s:ts.length+us.length<=1000000000)
  (p:∀w' b,Same (λx=>tv.ownBlock=some x) w w'->(∀x,b.ownBlock=some x->tv.ownBlock=some x\/w.heap.size<=x)->LstH (λx=>(H x\/H2 x)/\x<w.heap.size) w' b (ts++us)->K b w'):
  vbi P .append [zb,zb] ty [tv,uv] w K:=by
 obtain⟨css,r,f,q⟩:=h;refine vappend YD dC r hu (one_tms j g) (Gj _) oM oM λb w2 m d l=>p w2 b d l ⟨css++c,m,by simp[f,j],λi k=>?_⟩;rw[k6] at k;by_cases n:i<ts.length
 ·rw[M.app_getD oM,M.app_getD n];exact((q i n).weaken (F':=λx=>(H x\/H2 x)/\x<w.heap.size/\H x) λx a f=>⟨.inl a,f,a⟩).same d (λx a _ e=>(o x e).1 a.2.2)|>.weaken λx a _=>⟨a.1,a.2.1⟩
 ·rw[Q3 oM,Q3 oM,f];exact((g _ oM).weaken (F':=λx=>(H x\/H2 x)/\x<w.heap.size/\H2 x) λx a f=>⟨.inr a,f,a⟩).same d (λx a _ e=>(o x e).2 a.2.2)|>.weaken λx a _=>⟨a.1,a.2.1⟩
theorem LstH.push {ty:Nat} {t:M.Tm} (h:LstH H w tv ts) (m:∀x,tv.ownBlock=some x->¬H x/\¬H2 x) (r:TermR H2 w uv t) (q:ts.length<=1000000)
  (o:∀w' a,Same (λx=>tv.ownBlock=some x) w w'->(∀x,a.ownBlock=some x->tv.ownBlock=some x\/w.heap.size<=x)->LstH (λx=>(H x\/H2 x)/\x<w.heap.size) w' a (ts++[t])->K a w'):
  vbuildS P zb 1 [(0,uv)] w λs w1=>vbi P .append [zb,zb] ty [tv,s] w1 K:=by
 obtain⟨cs,rfl,f⟩:=r.cells;refine xD yS xe zG rfl (yl f) dC λb w1 v d u g=>?_;have y:=d.size;refine LstH.app (H2:=λx=>H2 x/\x<w.heap.size) (us:=[t]) ((h.weaken (F:=λx=>H x/\x<w.heap.size) λx c j=>⟨c,j⟩).ext d) (λx c=>⟨λe=>(m x c).1 e.1,λe=>(m x c).2 e.1⟩) (g.sl1k (yl f)) rfl (λi p=>?_) (by simp;omega) λw2 a l k n=>?_
 ·have:i=0:=(by simpa using p);subst this;exact(f.weaken λx c j=>⟨c,j⟩).ext d
 ·refine o w2 a ((Same.of_ext d).trans l) (λx c=>(k x c).imp id λh=>oM) (n.weaken λx c _=>?_);rcases c.1 with h|h
  ·exact⟨.inl h.1,h.2⟩
  ·exact⟨.inr h.1,h.2⟩
theorem OwnD.app {ty:Nat} (h:OwnD w dv ds) (hu:DclsR F w uv es) (j:ds.length+es.length<=1000000000)
  (i:∀w' a,Same (λx=>dv.ownBlock=some x) w w'->(∀x,a.ownBlock=some x->dv.ownBlock=some x\/w.heap.size<=x)->OwnD w' a (ds++es)->K a w'):
  vbi P .append [zi,zi] ty [dv,uv] w K:=by
 refine vappend YJ0 dC h hu (λy k c g=>?_) (Gj _) (by rw[X0,X0];omega) (by rw[X0,X0];omega) λa w2 e f b=>i w2 a f b (by unfold OwnD;rw[gu];exact e);obtain⟨d,_,rfl⟩:=gk.1 k;simp only[gd,gx,or_false] at g;rcases g with rfl|rfl<;>rfl
end
section
variable {w w':World} {K:Value->World->Prop} {F F' G S:Nat->Prop} {n b:Nat} {v tv dv mv:Value} {t:TypeId} {ts us:List M.Tm} {ds:List M.Dcl} {ms:List (Int×Int)} {c:List M.Lay}
def LaysR (F:Nat->Prop) (w:World) (v:Value) (c:List M.Lay):Prop:= ∃css:List (Value×Value),Sl F w 2 v (css.map λp=>[p.1,p.2])/\css.length=c.length/\∀i,i<c.length->DclsR F w (css.getD i (undef,undef)).1 (c.getD i ([],[])).1/\TmsR F w (css.getD i (undef,undef)).2 (c.getD i ([],[])).2
theorem LaysR.same (h:LaysR F w v c) (hw:Same S w w') (hs:∀b,F b->b<w.heap.size->¬S b):LaysR F w' v c:=by
 obtain⟨css,e,f,a⟩:=h;exact⟨css,e.same hw hs,f,λi d=>⟨(a i d).1.same hw hs,(a i d).2.same hw hs⟩⟩
theorem LaysR.ext (h:LaysR F w v c) (hw:Ext w w'):LaysR F w' v c:=h.same hw λ_ _ _ h=>h
theorem LaysR.weaken (h:LaysR F w v c) (a:∀b,F b->b<w.heap.size->F' b):LaysR F' w v c:=by
 obtain⟨css,f,g,d⟩:=h;exact⟨css,f.weaken a,g,λi e=>⟨(d i e).1.weaken a,(d i e).2.weaken a⟩⟩
theorem LaysR.nil:LaysR F w (.slice none 0 0) []:=⟨[],⟨⟨none,0,rfl,by simp,by simp,by simp⟩,by simp⟩,rfl,by simp⟩
theorem LaysR.len (h:LaysR F w v c) {t:TypeId} (d:isSl P t=true) (ty:TypeId):vbi P .len [t] ty [v] w' K=K (.int .i64 c.length) w':=by
 obtain⟨css,a,b,e⟩:=h;have:=Sl.len (K:=K) (w':=w') a d ty;rwa[X0,b] at this
theorem LaysR.iaddr (h:LaysR F w v c) {t:TypeId} (f:elB P t 2=true) {kd:IntKind} {i:Int} (b:0<=i) (d:i<c.length):
  zj P t v (.int kd i) w' K=K (.pointer (some (eaddr v 2 i.toNat))) w':=by
 obtain⟨css,a,e,g⟩:=h;exact Sl.iaddr a f b (by rw[X0,e];exact d)
theorem LaysR.load (h:LaysR F w v c) {t:TypeId} (f:aggB P t 2=true) {i:Nat} (b:i<c.length)
  (e:∀dv tv,DclsR F w dv (c.getD i ([],[])).1->TmsR F w tv (c.getD i ([],[])).2->K (.agg ⟨[dv,tv]⟩) w):zf P t (.pointer (some (eaddr v 2 i))) w K:=by
 obtain⟨css,d,g,a⟩:=h;rw[d.ldAgg f (by rw[X0];omega),M.getD_map _ oM _ (undef,undef)];exact e _ _ (a i b).1 (a i b).2
theorem two_one {a b:Value} (d:a.oneCell'=true) (e:b.oneCell'=true):∀x,x∈[a,b]->x.oneCell'=true:=λx c=>by
 simp only[gd,gx,or_false] at c;rcases c with rfl|rfl<;>assumption
theorem Vw0 {k:Nat} {xs:List (List Value)} (h:Own P 0 k t w v xs):∀a l c,v= .slice (some a) l c->∃b o,a=⟨b,o,none⟩:=by
 rintro a l c e;rcases h.row.2 with⟨rfl,s⟩|⟨g,cap,cur,rfl,i,r,n,j,m,f⟩
 ·cases e
 ·injection e with d p q
  injection d with d
  exact⟨g,0,d.symm⟩
theorem WQ0 {k:Nat} {xs:List (List Value)} {t':TypeId} (h:Own P 0 k t w v xs) (b:elB P t' k=true) {kd:IntKind} {n:Nat} (a:n<=xs.length):yY P t' v none (some (.int kd n)) none w' K=K (cutV v n) w':=Sl.cut h.sl (Vw0 h) b a
structure CtxB (c:List M.Lay):Prop where
 len:c.length<=100
 dec:(M.decL c).length<=1000
 ter:(M.terL c).length<=1000
theorem ctxB_take (h:CtxB c) (i:Nat):CtxB (c.take i):=by
 have a:=congrArg List.length (M.decL_split c i);have b:=congrArg List.length (M.terL_split c i);rw[k6] at a b;exact⟨by have:=h.len;rw[gi];omega,by have:=h.dec;omega,by have:=h.ter;omega⟩
theorem ctxB_of (h:M.ctxOk c=true):CtxB c:=by
 obtain⟨b,d,a,e,f⟩:=M.ctx_iff.1 h;exact⟨oM,by have:=(M.decl_iff.1 a).1;omega,oM⟩
structure StkR (n:Nat) (w:World) (b:Nat) (dv tv mv:Value) (ds:List M.Dcl) (ts:List M.Tm) (ms:List (Int×Int)):Prop where
 blk:Blk w b [dv,tv,mv] zN
 dec:OwnD w dv ds
 ter:LstH (λx=>x<n) w tv ts
 mar:OwnP P y9 w mv ms
 new:n<=b
 nd:∀x,dv.ownBlock=some x->n<=x/\x≠b
 nt:∀x,tv.ownBlock=some x->n<=x/\x≠b/\dv.ownBlock≠some x
 nm:∀x,mv.ownBlock=some x->n<=x/\x≠b/\dv.ownBlock≠some x/\tv.ownBlock≠some x
theorem StkR.ext (h:StkR n w b dv tv mv ds ts ms) (hw:Ext w w'):StkR n w' b dv tv mv ds ts ms:=
 ⟨h.blk.ext hw,h.dec.ext hw,h.ter.ext hw,h.mar.ext hw,h.new,h.nd,h.nt,h.nm⟩
theorem KD0:zD P zN [] w K=K (.agg ⟨[.slice none 0 0,.slice none 0 0,.slice none 0 0]⟩) w:=yp Xd0 (us:=[]) rfl rfl
@[push_cast] theorem bd_mark (x y:Int):zD P yf [(0,.int .i64 x),(1,.int .i64 y)] w K=K (.agg ⟨[.int .i64 x,.int .i64 y]⟩) w:=yp XL0 (us:=[[.int .i64 x],[.int .i64 y]]) rfl rfl
theorem stackPush_spec (h:StkR n w b dv tv mv ds ts ms) (hs:ms.length<=1000) (v:∀w' d,Same (λx=>n<=x) w w'->StkR n w' b dv tv d ds ts (ms++[((ds.length:Int),(ts.length:Int))])->K (.tuple #[]) w'):
  vcall P Yr #[.pointer (some ⟨b,0,none⟩)] w K:=by
 apply xc0;refine zu λw1 k _=>?_;have m:=h.ext k;simp only[push_cast,m.blk.ld0,m.blk.ld1,m.blk.ld2,m.dec.dcls.len,m.ter.tms.len,true_and];refine xD Yv0 Xj0 Qr rfl rfl dC λb2 w2 z l A q=>?_;have c:=m.ext l;simp only[push_cast,c.blk.ld2,true_and,and_self];refine Own.app1k c.mar YI0 dC q rfl (two_one rfl rfl) (by rw[X0];omega) (by rw[X0];omega) λd C s g t=>?_;have b3:=c.blk.same g λe=>(c.nm b e).2.1 rfl;have f:OwnP P y9 C d (ms++[((ds.length:Int),(ts.length:Int))]):=by unfold OwnP;rw[gu];exact s
 refine b3.st (i:=2) f.pairs.cellsV f.pairs.one Yo0 rfl λu j B r=>?_;have D:=k.size;have z2:=l.size;have hm:∀x,d.ownBlock=some x->mv.ownBlock=some x\/w2.heap.size<=x:=t;have ld:∀x,dv.ownBlock=some x->x<w2.heap.size:=λx a=>(c.dec.lt a).2;have lt:∀x,tv.ownBlock=some x->x<w2.heap.size:=λx a=>c.ter.lt a;have lb:=c.blk.lt;have o:∀x,d.ownBlock=some x->n<=x/\x≠b/\dv.ownBlock≠some x/\tv.ownBlock≠some x:=λx a=>by
  rcases hm x a with e|e
  ·exact c.nm x e
  ·exact⟨by have:=c.new;omega,oM,λp=>by have:=ld x p;omega,λp=>by have:=lt x p;omega⟩
 have y:Same (λx=>n<=x) w u:=(((Same.of_ext k).trans (Same.of_ext l)).trans (g.mono λx _ a=>(c.nm x a).1)).trans (j.mono λx _ a=>by subst a;exact h.new);refine v u d y ⟨r,(c.dec.same g λx a e=>(c.nm x e).2.2.1 a).same j λx a e=>(c.nd x a).2 e,(c.ter.same g (λx a e=>(c.nm x e).2.2.2 a) λx a _ e=>by have:=(c.nm x e).1;omega).same j (λx a e=>(c.nt x a).2.1 e) (λx a _ e=>by subst e;have:=c.new;omega),Own.same f j λx a e=>(o x a).2.1 e,h.new,h.nd,h.nt,o⟩
theorem flat_spec (hv:LaysR F w v c) (hb:CtxB c) (hK:∀w' b dv tv mv,Ext w w'->StkR w.heap.size w' b dv tv mv (M.decL c) (M.terL c) (M.markL c)->K (.pointer (some ⟨b,0,none⟩)) w'):vcall P Zk #[v] w K:=by
 apply XK0;rw[KD0];refine zx λb w1 ag G ai Y=>?_;have z1:=G.size;have hlen:=hb.len;simp only[push_cast,(hv.ext G).len];have h1:StkR w.heap.size w1 b (.slice none 0 0) (.slice none 0 0) (.slice none 0 0) [] [] []:=⟨Y,Own.nil P 0 2 _ w1,LstH.nil,OwnP.nil _,oM,λx d=>(by cases d),λx d=>(by cases d),λx d=>(by cases d)⟩;refine vloop_up c.length (λi u w'=> ∃dv tv mv,u=[.int .i64 i]/\Ext w w'/\StkR w.heap.size w' b dv tv mv (M.decL (c.take i)) (M.terL (c.take i)) (M.markL (c.take i))) ⟨_,_,_,rfl,G,h1⟩ ?_;rintro i _ _ w2 C hi ⟨dv,tv,mv,rfl,H,f⟩ hC;simp only[push_cast];refine zh (λa=>?_) (λa=>?_)
 ·have j:i<c.length:=oM;have R:=(hv.weaken (F':=λx=>x<w.heap.size) λx _ h=>h).ext H;simp(disch:=first|(simp only[push_cast])|omega) only[push_cast,R.iaddr];refine R.load qH j λld lt O Q=>?_;refine zB jr λb3 w3 ah N aj Z=>?_;refine Z.stAgg (cs':=[ld,lt]) rfl qH (two_one O.one Q.one) λw4 ab ak a0=>?_;refine zu λw5 I _=>?_;have z3:=N.size;have z5:=I.size;have r:Ext w2 w5:=(Ext.then N ab λy hy=>by subst hy;omega).trans I;have m:=f.ext r;have L:=a0.ext I;have bd:=ctxB_take hb (i+1);have b1:=bd.len;have b2:=bd.dec;have U:=bd.ter;rw[M.decL_take j,k6] at b2;rw[M.terL_take j,k6] at U;simp only[push_cast,m.blk.ld0,L.ld0,true_and];refine OwnD.app m.dec (O.ext r) oM λw6 k n a8 D=>?_;have lb:=f.blk.lt;have ltv:∀x,tv.ownBlock=some x->x<w2.heap.size:=λx d=>f.ter.lt d;have lmv:∀x,mv.ownBlock=some x->x<w2.heap.size:=λx d=>(Own.lt f.mar d).2;have ldv:∀x,dv.ownBlock=some x->x<w2.heap.size:=λx d=>(Own.lt f.dec d).2;have nw:=f.new;have z25:=r.size;have z6:=n.size;have a1:=m.blk.same n λe=>(m.nd b e).2 rfl
  try simp only[push_cast,true_and]
  refine a1.st (i:=0) D.dcls.cellsV D.dcls.one xz0 rfl λw7 q al a2=>?_;refine zu λT g _=>?_;have B:=a2.ext g;have q8:Blk T b3 [ld,lt] zo:=(((L.same n λe=>by have:=ldv _ e;omega).same q oM)).ext g;replace B:Blk T b [k,tv,mv] zN:=B;simp only[push_cast,B.ld1,q8.ld1,true_and];have o:∀x,k.ownBlock=some x->w.heap.size<=x/\x≠b/\tv.ownBlock≠some x/\mv.ownBlock≠some x:=λx d=>by
   rcases a8 x d with e|e
   ·exact⟨(f.nd x e).1,(f.nd x e).2,λl=>(f.nt x l).2.2 e,λl=>(f.nm x l).2.2.1 e⟩
   ·exact⟨oM,oM,λl=>by have:=ltv x l;omega,λl=>by have:=lmv x l;omega⟩
  have t8:LstH (λx=>x<w.heap.size) T tv (M.terL (c.take i)):=((m.ter.same n (λx d e=>(m.nt x d).2.2 e) λx d _ e=>by have:=(m.nd x e).1;omega).same q (λx d e=>(m.nt x d).2.1 e) λx d _ e=>oM).ext g;have ac:TmsR (λx=>x<w.heap.size) T lt (c.getD i ([],[])).2:=(((Q.ext r).same n λx d _ e=>by have:=(m.nd x e).1;omega).same q λx d _ e=>oM).ext g;obtain⟨af,aa,a7,a4⟩:=ac;refine LstH.app t8 (λx d=>⟨λe=>by have:=(f.nt x d).1;omega,λe=>by have:=(f.nt x d).1;omega⟩) aa a7 a4 oM λw9 E t a9 J=>?_;have z8:=g.size;have z9:=t.size;have a3:=B.same t λe=>(f.nt b e).2.1 rfl
  try simp only[push_cast,true_and]
  refine a3.st (i:=1) J.tms.cellsV J.tms.one qr rfl λA p ae s=>?_;replace s:Blk A b [k,E,mv] zN:=s;have d10:=(((D.same q λx d e=>(o x d).2.1 e).ext g).same t λx d e=>(o x d).2.2.1 e).same p λx d e=>(o x d).2.1 e;have m10:OwnP P y9 A mv (M.markL (c.take i)):=((((Own.same m.mar n λx d e=>(m.nm x d).2.2.1 e).same q λx d e=>(m.nm x d).2.1 e).ext g).same t λx d e=>(m.nm x d).2.2.2 e).same p λx d e=>(m.nm x d).2.1 e;have ld6:∀x,k.ownBlock=some x->x<T.heap.size:=λx d=>by have:=(D.lt d).2;omega
  have z:∀x,E.ownBlock=some x->w.heap.size<=x/\x≠b/\k.ownBlock≠some x/\mv.ownBlock≠some x:=λx d=>by
   rcases a9 x d with e|e
   ·exact⟨(f.nt x e).1,(f.nt x e).2.1,λl=>(o x l).2.2.1 e,λl=>(f.nm x l).2.2.2 e⟩
   ·exact⟨oM,oM,λl=>by have:=ld6 x l;omega,λl=>by have:=lmv x l;omega⟩
  have W:StkR w.heap.size A b k E mv (M.decL (c.take (i+1))) (M.terL (c.take (i+1))) (M.markL (c.take i)):=by
   rw[M.decL_take j,M.terL_take j];exact⟨s,d10,((J.weaken (F:=λx=>x<w.heap.size) λx d _=>d.1.elim id id).same p (λx d e=>(z x d).2.1 e) λx d _ e=>oM),m10,nw,λx d=>⟨(o x d).1,(o x d).2.1⟩,λx d=>⟨(z x d).1,(z x d).2.1,(z x d).2.2.1⟩,λx d=>⟨(f.nm x d).1,(f.nm x d).2.1,λe=>(o x e).2.2.2 d,λe=>(z x e).2.2.2 d⟩⟩
  have a6:=b1;rw[gi] at a6;refine stackPush_spec W (by rw[M.markL_len,gi];omega) λam ad S X=>?_
  try simp only[push_cast]
  rw[inc64' oM];have V:Ext w A:=by
   have s1:Same (λx=>w.heap.size<=x) w5 A:=(((n.mono λx _ d=>(m.nd x d).1).trans (q.mono λx _ d=>oM)).trans (Same.of_ext g)).trans ((t.mono λx _ d=>(f.nt x d).1).trans (p.mono λx _ d=>oM));exact Ext.then (H.trans r) s1 λx d=>d
  refine hC j _ _ ⟨k,E,ad,rfl,Ext.then V S λx d=>d,?_⟩;rw[M.lay_take j,M.markL_snoc,<-M.lay_take j];exact X
 ·have a5:i=c.length:=oM;subst a5;rw[gA] at f;exact hK _ _ _ _ _ H f
end
section
variable {w w':World} {K:Value->World->Prop} {F G H S:Nat->Prop} {n b:Nat} {v lv tv dv mv:Value} {t:TypeId} {ts:List M.Tm} {ds:List M.Dcl} {ms:List (Int×Int)} {c:List M.Lay}
theorem copyTerms_spec (D:TmsR F w tv ts) (L:∀t,t∈ts->Ke0 t=true) (hs:ts.length<=1000)
  (I:∀w' v',Ext w w'->TmsR (λx=>w.heap.size<=x) w' v' ts->K v' w'):vcall P Za #[tv] w K:=by
 apply qh0;simp only[push_cast,D.len];refine vloop_up ts.length (λi u w'=> ∃lv H,u=[lv,.int .i64 i]/\Ext w w'/\LstH H w' lv (ts.take i)/\(∀x,H x->w.heap.size<=x)/\∀x,lv.ownBlock=some x->w.heap.size<=x/\¬H x) ⟨_,λ_=>False,rfl,Same.refl _ _,LstH.nil,λx b=>b.elim,λx b=>(by cases b)⟩ ?_;rintro i _ _ w2 C S ⟨lv,H,rfl,c,f,hH,hO⟩ G
 try simp only[push_cast]
 refine zh (λa=>?_) (λa=>?_)
 ·have d:i<ts.length:=oM;have o:=D.ext c;simp(disch:=first|(simp only[push_cast])|omega) only[push_cast,o.iaddr];refine o.load zp d λx b=>?_;obtain⟨cs,rfl,j⟩:=b.cells;refine zB zG λb3 T J l O p=>?_;refine stTerm p rfl (j.ext l) λR z Q q=>?_;have g:Ext w2 R:=Ext.then l z λy N=>by subst N;omega
  rw[q.ldAgg (t:=za) (by rw[yl j];exact zp)];refine copyTerm_spec _ (j.ext g).term (L _ (M.getD_mem d _)) λU E m v=>?_;have k:=g.trans m;have z24:=g.size;have z5:=m.size;have z2:=c.size;have llt:∀x,lv.ownBlock=some x->x<w2.heap.size:=λx b=>f.lt b;refine LstH.push (f.ext k) (λx b=>⟨(hO x b).2,λe=>by have:=llt x b;omega⟩) (Z70 _ v).term (by rw[gi];omega) λV B A s n=>?_;rw[inc64' oM];refine G d _ _ ⟨B,_,rfl,Ext.then (c.trans k) A λx b=>(hO x b).1,by rw[V7 d] at n;exact n,λx b=>?_,λx b=>?_⟩
  ·rcases b.1 with h|h
   ·exact hH x h
   ·have:=h.1;omega
  ·rcases s x b with e|e
   ·refine⟨(hO x e).1,λh=>?_⟩;have:=llt x e;rcases h.1 with h|h
    ·exact(hO x e).2 h
    ·have:=h.1;omega
   ·exact⟨oM,λh=>by have:=h.2;omega⟩
 ·have r:i=ts.length:=oM;subst r;rw[gA] at f;exact I _ _ c (f.tms.weaken λx b _=>b.elim (hH x) λh=>(hO x h).1)
theorem Clone_Decl (d:DclsR F w v ds) (s:ds.length<=1000000) (k:∀w' v',Ext w w'->OwnD w' v' ds->(∀x,v'.ownBlock=some x->w.heap.size<=x)->K v' w'):
  vcall P xH #[v] w K:=by
 apply Zw;obtain⟨a,c,rfl,p,q,f⟩:=d.shape;rw[X0] at d p⊢;rw[yN0 Yy0];refine zI (λl=>?_) (λl=>?_)
 ·cases a with
  |some a=>cases l
  |none=>
   have j:ds=[]:=by
    refine Gr λh=>?_;obtain⟨b,o,m,_⟩:=f (by simpa using h);cases m
   subst j;exact k w _ (Same.refl _ _) (Own.nil P 0 2 _ w) λx d=>by cases d
 ·refine qC YA XK λb w1 u he y n=>?_;have g:OwnD w1 (.slice (some ⟨b,0,none⟩) 0 0) []:=Blk.ownk (css:=[]) (by rw[Kp];exact n) (λx d=>by cases d) rfl oM;refine OwnD.app g (d.ext he) (by simp;omega) λw2 v' hs i r=>?_;have t:=he.size;refine k w2 v' (Ext.then he hs λx d=>by have e:b=x:=gg d;omega) r λx d=>?_;rcases i x d with h|h
  ·have e:b=x:=gg h;omega
  ·omega
theorem last_spec (h:StkR n w b dv tv mv ds ts ms) (e:0<ms.length) (d:∀w',Ext w w'->K (.pointer (some (eaddr mv 2 (ms.length-1)))) w'):vcall P Ys #[.pointer (some ⟨b,0,none⟩)] w K:=by
 apply xd0;refine zu λw1 a _=>?_;have c:=h.ext a;have hm:=c.mar.pairs;have f:ms.length<=9223372036854775807:=by have:=Sl.small hm;simpa using this
 simp only[push_cast,c.blk.ld2,hm.len,true_and];rw[zJ oM oM,hm.iaddr YS0 oM oM];rw[show((ms.length:Int)-1).toNat=ms.length-1 by omega];exact⟨rfl,d _ a⟩
theorem ok_spec (h:StkR n w b dv tv mv (M.decL c) (M.terL c) (M.markL c)) (hb:CtxB c) (hK:∀w',Ext w w'->K (.bool (M.ctxOk c)) w'):vcall P qO #[.pointer (some ⟨b,0,none⟩)] w K:=by
 apply jk0;have hlen:=hb.len;have no:∀w',Ext w w'->M.ctxOk c≠true->K (.bool false) w':=λw' he hn=>by
  have:=hK w' he;rwa[Pu _|>.mp hn] at this
 have hm:=h.mar.pairs;refine zR (λu w'=>u=[]/\Ext w w'/\1<=c.length/\c.length<=6/\M.declOk (M.decL c)=true/\(M.terL c).length<=8) (λJ hJ=>?_) ?_
 ·simp only[push_cast,h.blk.ld2,hm.len,M.markL_len];refine zh (λQ=>no _ (Same.refl _ _) λe=>by have:=(M.ctx_iff.1 e).1;omega) (λQ=>?_);refine zh (λa2=>no _ (Same.refl _ _) λe=>by have:=(M.ctx_iff.1 e).2.1;omega) (λa2=>?_);simp only[push_cast,h.blk.ld0];refine DeclOk_spec h.dec.dcls λw1 d=>?_
  try simp only[push_cast]
  refine zI (λa3=>no _ d λe=>by rw[(M.ctx_iff.1 e).2.2.1] at a3;cases a3) (λa3=>?_);have O:=h.ext d;simp only[push_cast,O.blk.ld1,O.ter.tms.len];refine zh (λa4=>no _ d λe=>by have:=(M.ctx_iff.1 e).2.2.2.1;omega) (λa4=>?_);exact hJ _ _ ⟨rfl,d,oM,oM,by simpa using a3,oM⟩
 rintro _ _ w1 ⟨rfl,d,Q,a2,a3,a4⟩;have O:=h.ext d;simp only[push_cast,O.blk.ld2,hm.len,M.markL_len];refine vloop_up c.length (λi u w'=>u=[.int .i64 ((M.terL (c.take i)).length:Int),.int .i64 i]/\Ext w w'/\∀j,j<i->∀t,t∈(c.getD j ([],[])).2->M.tsort (M.decL (c.take (j+1))) t=0) ⟨rfl,d,λj hj=>absurd hj oM⟩ ?_;rintro i _ _ w2 C hi ⟨rfl,z,r⟩ hC
 try simp only[push_cast]
 refine zh (λa=>?_) (λa=>?_)
 ·have l:i<c.length:=oM;have h2:=h.ext z;have L:=h2.mar.pairs;simp(disch:=first|(simp only[push_cast])|(rw[M.markL_len];omega)|omega) only[push_cast,L.iaddr,gm,L.load,M.markL_get l];refine zB Qr λb3 w3 aa a0 ad T=>?_;refine T.stAgg (cs':=[.int .i64 ((M.decL (c.take (i+1))).length:Int),.int .i64 ((M.terL (c.take (i+1))).length:Int)]) rfl Km (two_one rfl rfl) λw4 a8 ae U=>?_;refine zu λw5 G _=>?_;have B:Ext w2 w5:=(Ext.then a0 a8 λy hy=>by subst hy;omega).trans G;have S:=h2.ext B;have s:=U.ext G;have e5:=z.trans B;have l1:=M.terL_le (c:=c) (i:=i+1) oM;have l2:=M.decL_le (c:=c) (i:=i+1) oM;have l3:(M.terL (c.take i)).length<=(M.terL (c.take (i+1))).length:=by rw[M.terL_take l,k6];omega
  obtain⟨pv,D,p⟩:=S.ter.tms.mid Vv l3 l1;rw[M.terL_mid l] at p;simp only[push_cast,S.blk.ld1,s.ld1,true_and,D,p.len];refine vloop_up (c.getD i ([],[])).2.length (λj u w'=>u=[.int .i64 j]/\Ext w5 w'/\∀k,k<j->M.tsort (M.decL (c.take (i+1))) ((c.getD i ([],[])).2.getD k default)=0) ⟨rfl,Same.refl _ _,λk hk=>absurd hk oM⟩ ?_;rintro j _ _ w6 C1 hj ⟨rfl,f,g⟩ Z
  try simp only[push_cast]
  have N:=p.ext f;have ac:=p.small;refine zh (λa5=>?_) (λa5=>?_)
  ·have o:j<(c.getD i ([],[])).2.length:=oM;simp(disch:=first|(simp only[push_cast])|omega) only[push_cast,N.iaddr];refine N.load zp o λx hx=>?_;obtain⟨cs,rfl,v⟩:=hx.cells;refine zB zG λb7 w7 ab H af W=>?_;refine stTerm W rfl (v.ext H) λw8 a9 ag X=>?_;refine zu λw9 I _=>?_;have m:Ext w6 w9:=(Ext.then H a9 λy hy=>by subst hy;omega).trans I;have h9:=S.ext (f.trans m);have Y:=s.ext (f.trans m);have q9:=X.ext I;have hg:aggB P za cs.length=true:=by rw[yl v];exact zp
   have E:=h9.dec;simp(disch:=first|(simp only[push_cast])|(rw[X0];exact l2)) only[push_cast,h9.blk.ld0,Y.ld0,true_and,WQ0 E xJ0];rw[q9.ldAgg (t:=za) hg];refine⟨rfl,?_⟩;refine TermSort_spec (ds:=M.decL (c.take (i+1))) (by have:=E.dcls.taken l2;rw[M.decL_pre] at this;exact this) (v.ext m).term λah F=>?_
   try simp only[push_cast,true_and]
   have A:=(f.trans m).trans F;refine zh (λR=>no _ (e5.trans A) λe=>R ((M.ctx_iff.1 e).2.2.2.2 i l _ (M.getD_mem o _))) (λR=>?_);rw[inc64' oM];refine Z o _ _ ⟨rfl,A,λk hk=>?_⟩;by_cases e:k<j
   ·exact g k e
   ·have:k=j:=oM;subst this;exact GG.1 R
  ·have o:j=(c.getD i ([],[])).2.length:=oM;have V:=s.ext f;simp only[push_cast,V.ld1];rw[inc64' oM];refine hC l _ _ ⟨rfl,e5.trans f,λk hk t ht=>?_⟩;by_cases e:k<i
   ·exact r k e t ht
   ·have:k=i:=oM;subst this;obtain⟨q,hq,rfl⟩:=gl ht;have:=g q oM;rwa[q0,Q1 hq] at this
 ·have a7:i=c.length:=oM;subst a7;have:=hK _ z;rwa[M.ctx_iff.2 ⟨Q,a2,a3,a4,r⟩] at this
end
section
variable {w w':World} {K:Value->World->Prop} {F F' G H H2 S:Nat->Prop} {n b:Nat} {v lv tv dv mv f:Value} {t:TypeId} {ts us:List M.Tm} {ds:List M.Dcl} {c c':List M.Lay}
theorem fit_ok {t':M.Tm} (a:M.tsort ds t'=0):Ke0 t'=true:=fit_size _ (by have:=(M.fits_iff.1 (Yz0 a).2.1).1;omega)
theorem Wh0 {c d:Option Addr} {a b c1 c2:Nat}:zD P zo [(0,.slice c a c1),(1,.slice d b c2)] w K=K (.agg ⟨[.slice c a c1,.slice d b c2]⟩) w:=yp VL (us:=[[.slice c a c1],[.slice d b c2]]) rfl rfl
theorem Ug0 (b:DclsR F w' dv ds) (d:TmsR F' w' tv ts):zD P zo [(0,dv),(1,tv)] w K=K (.agg ⟨[dv,tv]⟩) w:=by
 obtain⟨a,c,rfl,_⟩:=b.shape;obtain⟨_,h,_⟩:=d;obtain⟨e,c',rfl,_⟩:=h.shape;exact Wh0
def LysH (H:Nat->Prop) (w:World) (lv:Value) (c:List M.Lay):Prop:= ∃css:List (Value×Value),Own P 0 2 zk w lv (css.map λp=>[p.1,p.2])/\css.length=c.length/\∀i,i<c.length->DclsR H w (css.getD i (undef,undef)).1 (c.getD i ([],[])).1/\TmsR H w (css.getD i (undef,undef)).2 (c.getD i ([],[])).2
theorem LysH.nil:LysH H w (.slice none 0 0) []:=⟨[],Own.nil P 0 2 _ w,rfl,λi a=>absurd a (pB _)⟩
theorem LysH.lt (h:LysH H w lv c) {b:Nat} (a:lv.ownBlock=some b):b<w.heap.size:=by obtain⟨_,d,_⟩:=h;exact(d.lt a).2
theorem LysH.ext (h:LysH H w lv c) (hw:Ext w w'):LysH H w' lv c:=by
 obtain⟨css,e,d,b⟩:=h;exact⟨css,e.ext hw,d,λi a=>⟨(b i a).1.ext hw,(b i a).2.ext hw⟩⟩
theorem LysH.lays (h:LysH H w lv c):LaysR (λx=>H x\/lv.ownBlock=some x) w lv c:=by
 obtain⟨css,f,e,d⟩:=h;exact⟨css,f.sl.weaken λx b _=> .inr b,e,λi a=>⟨(d i a).1.weaken λx b _=> .inl b,(d i a).2.weaken λx b _=> .inl b⟩⟩
theorem LysH.push {ty:Nat} (h:LysH H w lv c) (n:∀x,lv.ownBlock=some x->¬H x/\¬H2 x) (k:DclsR H2 w dv ds) (m:TmsR H2 w tv ts) (B:c.length<=1000000)
  (z:∀w' f,Same (λx=>lv.ownBlock=some x) w w'->(∀x,f.ownBlock=some x->lv.ownBlock=some x\/w.heap.size<=x)->LysH (λx=>(H x\/H2 x)/\x<w.heap.size) w' f (c++[(ds,ts)])->K f w'):
  vbuildS P zk 1 [(0,.agg ⟨[dv,tv]⟩)] w λs w1=>vbi P .append [zk,zk] ty [lv,s] w1 K:=by
 obtain⟨css,A,j,y⟩:=h;refine xD qG qV jr rfl rfl dC λb w1 D d C p=>?_;have E:=d.size;refine Own.app1k (A.ext d) zC0 dC p rfl (two_one k.one m.one) (by rw[X0];omega) (by rw[X0];omega) λf w2 u g t=>?_;refine z w2 f ((Same.of_ext d).trans g) (λx a=>(t x a).imp id λh=>oM) ⟨css++[(dv,tv)],by rw[gu];exact u,by simp[j],λi l=>?_⟩;have mv:∀{ds:List M.Dcl} {dv:Value} {Q:Nat->Prop},DclsR Q w dv ds->(∀x,Q x->H x\/H2 x)->(∀x,lv.ownBlock=some x->¬Q x)->DclsR (λx=>(H x\/H2 x)/\x<w.heap.size) w2 dv ds:=λv q r=>
  (((v.weaken (F':=λx=>((H x\/H2 x)/\x<w.heap.size)/\lv.ownBlock≠some x) λx a j=>⟨⟨q x a,j⟩,λe=>r x e a⟩).ext d).same g λx a _ e=>a.2 e).weaken λx a _=>a.1
 have mt:∀{ts:List M.Tm} {tv:Value} {Q:Nat->Prop},TmsR Q w tv ts->(∀x,Q x->H x\/H2 x)->(∀x,lv.ownBlock=some x->¬Q x)->TmsR (λx=>(H x\/H2 x)/\x<w.heap.size) w2 tv ts:=λv q r=>
  (((v.weaken (F':=λx=>((H x\/H2 x)/\x<w.heap.size)/\lv.ownBlock≠some x) λx a j=>⟨⟨q x a,j⟩,λe=>r x e a⟩).ext d).same g λx a _ e=>a.2 e).weaken λx a _=>a.1
 rw[k6] at l;by_cases o:i<c.length
 ·rw[M.app_getD oM,M.app_getD o];exact⟨mv (y i o).1 (λx h=> .inl h) λx a=>(n x a).1,mt (y i o).2 (λx h=> .inl h) λx a=>(n x a).1⟩
 ·have e:i=c.length:=by simp at l;omega
  rw[Q3 oM,Q3 oM,j,e,GC];exact⟨mv k (λx h=> .inr h) λx a=>(n x a).2,mt m (λx h=> .inr h) λx a=>(n x a).2⟩
theorem stackLayers_spec (h:StkR n w b dv tv mv (M.decL c) (M.terL c) (M.markL c)) (Q:M.ctxOk c=true) (hK:∀w' v',Ext w w'->LaysR (λx=>w.heap.size<=x) w' v' c->K v' w'):vcall P js #[.pointer (some ⟨b,0,none⟩)] w K:=by
 apply UX;have hb:=ctxB_of Q;have hlen:=hb.len;have a7:=hb.dec;have a8:=hb.ter;refine zB Qr λb1 w1 a9 B ab X=>?_;have h1:=h.ext B;have hm:=h1.mar.pairs;have z1:=B.size;simp only[push_cast,h1.blk.ld2,hm.len,M.markL_len];refine vloop_up c.length (λi u w'=> ∃lv H,u=[lv,.int .i64 i]/\Same (· =b1) w1 w'/\Blk w' b1 [.int .i64 ((M.decL (c.take i)).length:Int),.int .i64 ((M.terL (c.take i)).length:Int)] yf/\LysH H w' lv (c.take i)/\(∀x,H x->w1.heap.size<=x)/\∀x,lv.ownBlock=some x->w1.heap.size<=x/\¬H x)
  ⟨_,λ_=>False,rfl,Same.refl _ _,X,LysH.nil,λx d=>d.elim,λx d=>(by cases d)⟩ ?_
 rintro i _ _ w2 C hi ⟨lv,H,rfl,k,G,q,hH,hO⟩ hC;have z2:=k.size;have W:Ext w w2:=Ext.then B k λy hy=>by subst hy;omega
 try simp only[push_cast]
 refine zh (λa=>?_) (λa=>?_)
 ·have f:i<c.length:=oM;have h2:=h.ext W;have N:=h2.mar.pairs;simp(disch:=first|(simp only[push_cast])|(rw[M.markL_len];omega)|omega) only[push_cast,N.iaddr,gm,N.load,M.markL_get f];refine zB Qr λb3 w3 aa J ac Y=>?_;refine Y.stAgg (cs':=[.int .i64 ((M.decL (c.take (i+1))).length:Int),.int .i64 ((M.terL (c.take (i+1))).length:Int)]) rfl Km (two_one rfl rfl) λw4 a6 ad Z=>?_;refine zu λw5 D _=>?_;have z3:=J.size;have z5:=D.size;have l:Ext w2 w5:=(Ext.then J a6 λy hy=>by subst hy;omega).trans D;have F:=h2.ext l;have z:=Z.ext D;have q5:=G.ext l;have e5:=W.trans l;have l1:=M.terL_le (c:=c) (i:=i+1) oM;have l2:=M.decL_le (c:=c) (i:=i+1) oM;have l3:(M.terL (c.take i)).length<=(M.terL (c.take (i+1))).length:=by rw[M.terL_take f,k6];omega
  have l4:(M.decL (c.take i)).length<=(M.decL (c.take (i+1))).length:=by rw[M.decL_take f,k6];omega
  obtain⟨pv,v,R⟩:=F.ter.tms.mid Vv l3 l1;obtain⟨qv,o,S⟩:=F.dec.dcls.mid xJ0 l4 l2;rw[M.terL_mid f] at R;rw[M.decL_mid f] at S;simp only[push_cast,F.blk.ld0,F.blk.ld1,z.ld0,z.ld1,q5.ld0,q5.ld1,true_and,v,o];have ml:(c.getD i ([],[])).1.length<=1000:=by rw[M.decL_take f,k6] at l2;omega
  have mt:(c.getD i ([],[])).2.length<=1000:=by rw[M.terL_take f,k6] at l1;omega
  refine Clone_Decl S oM λw6 cv m a4 a2=>?_;have h6:=F.ext m;have A:=z.ext m;have q6:=q5.ext m;simp only[push_cast,h6.blk.ld0,h6.blk.ld1,A.ld0,A.ld1,q6.ld0,q6.ld1,true_and,v,o,and_self];refine copyTerms_spec (R.ext m) (λt ht=>fit_ok ((M.ctx_iff.1 Q).2.2.2.2 i f t ht)) mt λw7 xv p T=>?_;have E:=m.trans p;have I:=OwnD.dcls (a4.ext p);rw[Ug0 I T];refine⟨rfl,?_⟩;have z6:=m.size;have z7:=p.size;have z25:=l.size;have llt:∀x,lv.ownBlock=some x->x<w2.heap.size:=λx d=>q.lt d;refine LysH.push (H2:=λx=>w5.heap.size<=x) (q.ext (l.trans E)) (λx d=>⟨(hO x d).2,λe=>by have:=llt x d;omega⟩) (I.weaken λx d _=>a2 x d) (T.weaken λx d _=>oM) (by rw[gi];omega) λw8 U r a3 L=>?_;have r7:=A.ext p;have q7:=q6.ext p;have af:=G.lt;have r8:=r7.same r λe=>by have:=llt _ e;omega
  have q8:=q7.same r λe=>by have:=(hO _ e).1;omega
  rw[r8.ldAgg (t:=yf) Km];have z8:=r.size;refine q8.stAgg (cs':=[.int .i64 ((M.decL (c.take (i+1))).length:Int),.int .i64 ((M.terL (c.take (i+1))).length:Int)]) rfl Km (two_one rfl rfl) λw9 s ae a0=>?_
  try simp only[push_cast]
  rw[inc64' oM];have g:Same (λx=>x=b1\/lv.ownBlock=some x) w2 w9:=((Same.of_ext (l.trans E)).trans (r.mono λx _ d=> .inr d)).trans (s.mono λx _ d=> .inl d);have a5:Same (· =b1) w1 w9:=⟨g.os.trans k.os,g.tape.trans k.tape,g.output.trans k.output,Gc k.size g.size,λx d O=>(g.block x oM (λe=>e.elim O λe=>by have:=(hO x e).1;omega)).trans (k.block x d O)⟩;rw[<-M.lay_take f] at L;have V:∀x,U.ownBlock=some x->w1.heap.size<=x/\¬((H x\/w5.heap.size<=x)/\x<w7.heap.size):=λx d=>by
   rcases a3 x d with e|e
   ·refine⟨(hO x e).1,λh=>?_⟩;have:=llt x e;rcases h.1 with h|h
    ·exact(hO x e).2 h
    ·omega
   ·exact⟨oM,λh=>by have:=h.2;omega⟩
  refine hC f _ _ ⟨U,_,rfl,a5,a0,?_,λx d=>d.1.elim (hH x) λh=>oM,V⟩;obtain⟨css,g1,g2,g3⟩:=L;refine⟨css,g1.same s λx d e=>by have:=(V x d).1;omega,g2,λj hj=>⟨(g3 j hj).1.same s λx d _ e=>?_,(g3 j hj).2.same s λx d _ e=>?_⟩⟩
  ·have:w1.heap.size<=x:=d.1.elim (hH x) λh=>oM;omega
  ·have:w1.heap.size<=x:=d.1.elim (hH x) λh=>oM;omega
 ·have a1:i=c.length:=oM;subst a1;rw[gA] at q;exact hK _ _ W (q.lays.weaken λx d _=>by
   have:w1.heap.size<=x:=d.elim (hH x) λh=>(hO x h).1;omega)
def chg (c c':List M.Lay):List M.Lay×Bool:=if M.ctxOk c=true then(if M.ctxOk c'=true then(c',true) else(c,false)) else([],false)
theorem changed_spec (A:LaysR F w v c) (t:CtxB c) (u:M.ctxOk c=true->CtxB c')
  (J:∀(w1:World) (b:Nat) (dv tv mv:Value) (K:Value->World->Prop),Ext w w1->M.ctxOk c=true->StkR w.heap.size w1 b dv tv mv (M.decL c) (M.terL c) (M.markL c)->
   (∀w2 k o n r,Same (λx=>w.heap.size<=x) w1 w2->StkR w.heap.size w2 b k o n (M.decL c') (M.terL c') (M.markL c')->K r w2)->vcallv P f #[.pointer (some ⟨b,0,none⟩)] w1 K)
  (s:∀w' v',Ext w w'->LaysR (λx=>w.heap.size<=x) w' v' (chg c c').1->K (.tuple #[v',.bool (chg c c').2]) w'):vcall P Jd #[v,f] w K:=by
 apply kq0;have L:=A.weaken (F':=λx=>x<w.heap.size) λx _ h=>h;refine flat_spec A t λw1 b dv tv mv i D=>?_;refine ok_spec D t λw2 e=>?_
 try simp only[push_cast]
 refine zI (λa=>?_) (λa=>?_)
 ·have:=s w2 (.slice none 0 0) (i.trans e);have y: ¬M.ctxOk c=true:=(by simpa using a);unfold chg at this;rw[if_neg y] at this;exact this LaysR.nil
 have d:M.ctxOk c=true:=by simpa using a
 refine J w2 b dv tv mv _ (i.trans e) d (D.ext e) λQ k o n r z E=>?_;have H:Ext w Q:=Ext.then (i.trans e) z λx B=>B;refine ok_spec E (u d) λS l=>?_;have p:=H.trans l;have z4:=p.size
 try simp only[push_cast]
 refine zI (λa2=>?_) (λa2=>?_)
 ·have y: ¬M.ctxOk c'=true:=(by simpa using a2);refine flat_spec (A.ext p) t λT R G O N m I=>?_;refine stackLayers_spec I d λC v6 j q=>?_;have z5:=m.size;have:=s C v6 (p.trans (m.trans j));unfold chg at this;rw[if_pos d,if_neg y] at this;exact this (q.weaken λx B _=>oM)
 ·have g:M.ctxOk c'=true:=(by simpa using a2);refine stackLayers_spec (E.ext l) g λC v6 j q=>?_;have:=s C v6 (p.trans j);unfold chg at this;rw[if_pos d,if_pos g] at this;exact this (q.weaken λx B _=>oM)
end
section
variable {w w' w1 w2:World} {K:Value->World->Prop} {F D G H S:Nat->Prop} {n b k p many:Nat} {v lv tv dv nv ev x3 x4 x5 f:Value} {t:M.Tm} {ts:List M.Tm} {ds:List M.Dcl} {c:M.Cnf} {ar ab at_ an am:Addr}
theorem Wm0 {P:Program} {o:Nat} {cs cs':List Value} {t0 t:TypeId} (h:Blk w b cs t0) (e:o+cs'.length<=cs.length) (g:aggB P t cs'.length=true) (a:∀v,v∈cs'->v.oneCell'=true)
  (c:∀w',Same (· =b) w w'->w'.heap.size=w.heap.size->Blk w' b (cs.take o++cs'++cs.drop (o+cs'.length)) t0->K undef w'):zm P t (.pointer (some ⟨b,o,none⟩)) (.agg ⟨cs'⟩) w K:=by
 have f:=run_storeCells_at (P:=P) b o t0 cs' 0 ⟨cs⟩ w h (by simpa using e) a;refine⟨(),_,?_,c (w.setRow b (cs.take o++cs'++cs.drop (o+cs'.length)).toArray) ⟨rfl,rfl,rfl,by simp,λk _ d=>setRow_other w b k _ d⟩ (by simp) (setRow_heap w b _ _ t0 _ h)⟩;simp only[Instr.storeAt,Instr.sureAddr,Sem.run_bind,Sem.run_pure,Result.andThen_ok,storeVar,Yx g,Value.cells];simp only[G9,ne_eq,not_true_eq_false,if_false];exact f
theorem jobFold_spec (r:Blk w b [dv,tv,nv,x3,x4,x5] zV) (hd:DclsR F w dv ds) (N:TmsR F w tv ts) (a6:∀x,F x->x≠b) (hs:ts.length<=1000) (Z:Sent w yw at_)
  (U:∀t,t∈ts->M.tsort ds t≠0->∀w',Ext w w'->K (erv at_) w')
  (V:(∀t,t∈ts->M.tsort ds t=0)->∀w' L,Same (· =b) w w'->Blk w' b [dv,L,nv,x3,x4,x5] zV->TmsR (λx=>w.heap.size<=x) w' L (ts.map (yY0 ds))->K .nilIface w'):
  vcall P kg #[.pointer (some ⟨b,0,none⟩)] w K:=by
 apply jm0;have lb:=r.lt;simp only[push_cast,r.ld1,N.len];refine vloop_up ts.length (λi u w'=> ∃lv H,u=[lv,.int .i64 i]/\Ext w w'/\LstH H w' lv ((ts.take i).map (yY0 ds))/\(∀x,H x->w.heap.size<=x)/\(∀x,lv.ownBlock=some x->w.heap.size<=x/\¬H x)/\∀j,j<i->M.tsort ds (ts.getD j default)=0)
  ⟨_,λ_=>False,rfl,Same.refl _ _,LstH.nil,λx d=>d.elim,λx d=>(by cases d),λj D=>absurd D oM⟩ ?_
 rintro i _ _ w2 C hi ⟨lv,H,rfl,c,f,hH,hO,n⟩ hC;simp only[push_cast];refine zh (λa=>?_) (λa=>?_)
 ·have m:i<ts.length:=oM;have G:=N.ext c;simp(disch:=first|(simp only[push_cast])|omega) only[push_cast,G.iaddr];refine G.load zp m λx d=>?_;obtain⟨cs,rfl,l⟩:=d.cells;have hg:aggB P za cs.length=true:=by rw[yl l];exact zp
  refine zB zG λb3 w3 a7 s a3 o=>?_;refine stTerm o rfl (l.ext s) λw4 a0 a8 R=>?_;refine zu λw5 v _=>?_;have k:Ext w2 w5:=(Ext.then s a0 λy hy=>by subst hy;omega).trans v;have S:=r.ext (c.trans k);have q5:=R.ext v;simp only[push_cast,S.ld0,true_and];rw[q5.ldAgg (t:=za) hg];refine⟨rfl,?_⟩;refine TermSort_spec (hd.ext (c.trans k)) (l.ext k).term λw6 z=>?_;have p:=k.trans z;have e6:=c.trans p;simp only[push_cast,true_and];refine zh (λO=>?_) (λO=>?_)
  ·have I:=Z.same e6 id;rw[yF qL I.cell];exact U _ (M.getD_mem m _) O _ e6
  ·refine zu λw7 A _=>?_;have g:=p.trans A;have T:=r.ext (c.trans g);have q7:=q5.ext (z.trans A);simp only[push_cast,T.ld0,true_and];rw[q7.ldAgg (t:=za) hg];refine⟨rfl,?_⟩;refine TermFold_spec (hd.ext (c.trans g)) (l.ext g).term λw8 a5 B Y=>?_;have q:=g.trans B;have a9:=g.size;have z2:=c.size;have z8:=B.size;have llt:∀x,lv.ownBlock=some x->x<w2.heap.size:=λx d=>f.lt d;refine LstH.push (f.ext q) (λx d=>⟨(hO x d).2,λe=>by have:=llt x d;omega⟩) (Z70 _ Y).term (by rw[X0,gi];omega) λw9 a4 a2 X E=>?_
   try simp only[push_cast]
   rw[inc64' oM];rw[show(ts.take i).map (yY0 ds)++[yY0 ds (ts.getD i default)]=(ts.take (i+1)).map (yY0 ds) by rw[<-V7 m,gu];rfl] at E;refine hC m _ _ ⟨a4,_,rfl,Ext.then (c.trans q) a2 λx d=>(hO x d).1,E,λx d=>?_,λx d=>?_,λj D=>?_⟩
   ·rcases d.1 with h|h
    ·exact hH x h
    ·have:=h.1;omega
   ·rcases X x d with e|e
    ·refine⟨(hO x e).1,λh=>?_⟩;have:=llt x e;rcases h.1 with h|h
     ·exact(hO x e).2 h
     ·have:=h.1;omega
    ·exact⟨oM,λh=>by have:=h.2;omega⟩
   ·by_cases e:j<i
    ·exact n j e
    ·have:j=i:=oM;subst this;exact GG.1 O
 ·have W:i=ts.length:=oM;subst W;rw[gA] at f;have Q:=r.ext c;refine Q.st (i:=1) f.tms.cellsV f.tms.one qr rfl λw3 J a3 o=>?_;refine V (λt N=>?_) w3 lv ((Same.of_ext c).trans J) o ?_
  ·obtain⟨j,D,rfl⟩:=gl N;have:=n j D;rwa[q0,Q1 D] at this
  ·exact(f.tms.same J λx d _ e=>by
    have:w.heap.size<=x:=d.elim (hH x) λh=>(hO x h).1;omega).weaken λx d _=>d.elim (hH x) λh=>(hO x h).1
theorem jobBlast_spec (z:Blk w b [dv,tv,nv,x3,x4,x5] zV) (I:DclsR F w dv ds) (M:TmsR G w tv ts) (he:Errs (λ_=>False) w ar ab) (D:Sent w yw at_)
  (O:∀w' lv ls,Same (· =b) w w'->Blk w' b [dv,tv,nv,.int .i64 (cnfE ds ts).1.many,lv,x5] zV->CnfO w.heap.size w' lv ls (cnfE ds ts).1->K (errV ar at_ (cnfE ds ts).2) w'):vcall P jD #[.pointer (some ⟨b,0,none⟩)] w K:=by
 apply qf0;have lb:=z.lt;refine zR (λu w'=> ∃b3 lv ls,u=[.pointer (some ⟨b3,0,none⟩),errV ar at_ (cnfE ds ts).2]/\Ext w w'/\w.heap.size<=b3/\Blk w' b3 [.int .i64 (cnfE ds ts).1.many,lv] zz/\CnfO w.heap.size w' lv ls (cnfE ds ts).1) (λJ H=>?_) ?_
 ·refine zu λw1 c _=>?_;have k:=z.ext c;have V:=c.size;have j:=D.same c id;have i:=he.ext0 c;simp only[push_cast,k.ld0,k.ld1,true_and,and_true];refine⟨?_,?_⟩
  ·refine blastCnf_spec (I.ext c) (M.ext c) i j λw2 lv ls g f=>?_;have z2:=g.size;simp only[push_cast,true_and,and_true];refine zB Yk λb3 E m a s d=>?_;have C:=f.ext a
   try simp only[push_cast,true_and,and_true,and_self]
   refine d.stAgg (cs':=[.int .i64 (cnfE ds ts).1.many,lv]) rfl xS (two_one rfl C.lst.vals.one) λT q R A=>?_
   try simp only[push_cast,true_and,and_true,and_self]
   refine H _ _ ⟨b3,lv,ls,rfl,Ext.then ((c.trans g).trans a) q λy Q=>oM,oM,A,(f.same ((Same.of_ext a).trans q) λx N L e=>oM).down oM⟩
  ·refine zB Yk λb3 E m a s d=>?_;have h:=k.ext a;have v:=c.trans a;have z3:=a.size;simp only[push_cast,h.ld0,h.ld1,true_and,and_self];refine blastCnf_spec (I.ext v) (M.ext v) (i.ext0 a) (j.same a id) λT lv ls n l=>?_;simp only[push_cast,true_and,and_true];refine(d.ext n).stAgg (cs':=[.int .i64 (cnfE ds ts).1.many,lv]) rfl xS (two_one rfl l.lst.vals.one) λU r S B=>?_
   try simp only[push_cast,true_and,and_true,and_self]
   exact H _ _ ⟨b3,lv,ls,rfl,Ext.then (v.trans n) r λy Q=>oM,oM,B,(l.same r λx N L e=>oM).down oM⟩
 ·rintro _ _ w2 ⟨b3,lv,ls,rfl,g,m,d,f⟩;simp only[push_cast];rw[d.ldAgg (t:=zz) xS]
  try simp only[push_cast]
  refine Wm0 (o:=3) (z.ext g) (by simp) xS (two_one rfl f.lst.vals.one) λE p s d=>?_;exact O E lv ls ((Same.of_ext g).trans p) d (f.same p λx N L e=>oM)
theorem jobExclude_spec (d:Blk w b [dv,tv,.slice none 0 0,x3,x4,x5] zV) (e:K .nilIface w):vcall P qZ #[.pointer (some ⟨b,0,none⟩)] w K:=by
 apply zS0;have c:Vals (λ_=>False) w (.slice none 0 0) []:=OwnV.nil (P:=P) (t:=ya)|>.vals.weaken λx f _=>(by cases f);simp only[push_cast,d.ld2,c.len,pA];refine vloop_up 0 (λi u w'=>u=[.int .i64 i]/\w'=w) ⟨rfl,rfl⟩ ?_;rintro i _ _ _ C h ⟨rfl,rfl⟩ g;simp only[push_cast];refine zh (λa=>absurd a oM) (λ_=>e)
theorem vals_ins {put:List Int} (h:1+n<=many):((KM many put).drop 1).take n=M.insV (M.wayM put) n:=by
 refine Ge (by simp[KM,M.insV];omega) λi a b=>?_;simp[KM,M.insV,M.wayM,Nat.add_comm 1 i,Px];rw[show(i:Int)+1+1=i+2 by omega]
theorem jobSearch_spec (g:Blk w b [dv,tv,nv,.int .i64 c.many,lv,x5] zV) (hd:DclsR F w dv ds) (a1:∀x,F x->x≠b) (l:M.declOk ds=true) (hc:CnfR G w (.agg #[.int .i64 c.many,lv]) c) (u:M.cnfOk c=true) (hn:1+M.nIn ds<=c.many.toNat) (W:Sent w ku an) (U:Sent w jf am)
  (m:(M.searchM 4000 ds c).2=1->∀w' ev,Same (· =b) w w'->Blk w' b [dv,tv,nv,.int .i64 c.many,lv,ev] zV->Ints (λx=>w.heap.size<=x) w' ev (M.searchM 4000 ds c).1->K .nilIface w')
  (o:M.searchM 4000 ds c=([],2)->∀w',Ext w w'->K (erv an) w') (p:M.searchM 4000 ds c=([],3)->∀w',Ext w w'->K (erv am) w'):vcall P jo #[.pointer (some ⟨b,0,none⟩)] w K:=by
 apply xh0;have lb:=g.lt;obtain⟨V,a5⟩:=M.nIn_eq l;have R:zf P zz (.pointer (some ⟨b,3,none⟩)) w=λK=>K (.agg #[.int .i64 c.many,lv]) w:=by
  funext K
  refine zp0 (cs:=[.int .i64 c.many,lv]) xS λi v C=>?_;rw[xU]
  match i,C with
  |0,C=>exact g.cell (by simpa using C)
  |1,C=>exact g.cell (by simpa using C)
 simp only[push_cast];rw[R];have a3:0<=c.many:=oM
 refine run_spec (many:=c.many.toNat) (n:=4000) hc u oM (gq _) λFr bs σ w2 f h _ _ _=>?_;have a0:=g.ext f;have z2:=f.size;simp only[push_cast,h.blk.ld5];have d:M.searchM 4000 ds c=if(M.runM c.many.toNat c 4000 M.emptyS).code=1 then(M.envB ds (M.insV (M.wayM (M.runM c.many.toNat c 4000 M.emptyS).put) (M.nIn ds)),1) else if(M.runM c.many.toNat c 4000 M.emptyS).code=2 then([],2) else([],3):=rfl
 generalize M.searchM 4000 ds c=sr at d m o p;generalize hs:M.runM c.many.toNat c 4000 M.emptyS=s at h d;refine zh (λa=>?_) (λa=>?_)
 ·rw[if_pos a] at d;refine zu λw3 z _=>?_;have e3:=f.trans z;have J:=g.ext e3;simp only[push_cast,J.ld0,true_and];refine vals_spec (h.ext z) λw4 vv S X a4=>?_;have I:=e3.trans S;have L:=g.ext I;simp only[push_cast,L.ld0,true_and,and_self];refine bitsOf_spec (hd.ext I) l λw5 A=>?_;have H:=I.trans A;have N:=g.ext H;simp only[push_cast,N.ld0,true_and,and_self];rw[zJ oM oM,<-V,show(1:Int)+(M.nIn ds:Int)=((1+M.nIn ds:Nat):Int) by omega];obtain⟨v6,y,Y⟩:=Sl.mid (X.ext A).bools (t:=jN) (k:=1) XH0 (a:=1) (b:=1+M.nIn ds) oM (by simp[KM];omega);rw[show(1:Int)=((1:Nat):Int) from rfl,y]
  try simp only[push_cast,true_and]
  have D:Bools (λx=>vv.ownBlock=some x) w5 v6 (M.insV (M.wayM s.put) (M.nIn ds)):=by
   have q:=Y;rw[show 1+M.nIn ds-1=M.nIn ds by omega,<-pR,<-GK,<-pR,<-GK,vals_ins hn] at q;exact q
  refine BlastEnv_spec (hd.ext H) D l (by rw[M.insV_len]) λw7 r T j B=>?_;have e7:=H.trans T;have O:=g.ext e7
  try simp only[push_cast,true_and]
  refine O.st (i:=5) j.ints.cells1 j.ints.one zn0 rfl λw8 E a6 Q=>?_;have z5:=H.size;subst d;refine m rfl w8 r ((Same.of_ext e7).trans E) Q ?_;exact((j.same E λx Z e=>by have:=B x Z;omega).ints).weaken λx Z _=>by have:=B x Z;omega
 ·rw[if_neg a] at d;refine zh (λa2=>?_) (λa2=>?_)
  ·rw[if_pos a2] at d;rw[yF qL (W.same f id).cell];exact o d w2 f
  ·rw[if_neg a2] at d;rw[yF qL (U.same f id).cell];exact p d w2 f
end
section
variable {w w' w1 w2:World} {K:Value->World->Prop} {F F' D G H S:Nat->Prop} {n b k p:Nat} {v lv tv dv ev f:Value} {xs:List Nat} {t:M.Tm} {ts us:List M.Tm} {ds:List M.Dcl} {c:M.Cnf} {ar ab at_ an am:Addr}
def RowA (w:World) (a:Addr):Prop:= ∃(c:Array Value) (t:TypeId),w.heap[a.block]?=some (.cells c t (0,0))
theorem RowA.ext {a:Addr} (h:RowA w a) (he:Ext w w'):RowA w' a:=by
 obtain⟨c,t,h⟩:=h;refine⟨c,t,?_⟩;rw[he.block _ (gB.1 h).1 id];exact h
structure Er (w:World) (at_ an am ar ab:Addr):Prop where
 terms:Sent w yw at_
 no:Sent w ku an
 much:Sent w jf am
 errs:Errs (λ_=>False) w ar ab
 rt:RowA w at_
 rn:RowA w an
 rm:RowA w am
 rr:RowA w ar
 d1:an≠at_
 d2:am≠at_
 d3:am≠an
 d4:ar≠at_
 d5:ar≠an
 d6:ar≠am
theorem Er.ext (h:Er w at_ an am ar ab) (he:Ext w w'):Er w' at_ an am ar ab:=
 ⟨h.terms.same he id,h.no.same he id,h.much.same he id,h.errs.ext0 he,h.rt.ext he,h.rn.ext he,h.rm.ext he,h.rr.ext he,h.d1,h.d2,h.d3,h.d4,h.d5,h.d6⟩
def errE (at_ an am ar:Addr):Nat->Value
 |0=> .nilIface
 |1=>erv ar
 |2=>erv at_
 |3=>erv an
 |_=>erv am
theorem kP0 {a c:Addr} (h:a≠c) (f:RowA w a) (g:RowA w c) (e:K (.bool false) w):vcall P ql #[erv a,erv c] w K:=by
 obtain⟨_,_,b⟩:=f;obtain⟨_,_,d⟩:=g;exact VH0 h b d e
theorem switch_spec {r q j X:World->Prop} (er:Er w at_ an am ar ab) (k:Nat) (l:k=0->X w) (m:k=1->j w) (n:k=2->r w) (o:k=3->q w) (p:4<=k->j w):
  zf P yg (.pointer (some ⟨yw,0,none⟩)) w λt28 e=>vcall P ql #[errE at_ an am ar k,t28] e λt29 b=>vif t29 (r b) (
   zf P yg (.pointer (some ⟨ku,0,none⟩)) b λt32 f=>vcall P ql #[errE at_ an am ar k,t32] f λt33 c=>vif t33 (q c) (
    zf P yg (.pointer (some ⟨jf,0,none⟩)) c λt36 g=>vcall P ql #[errE at_ an am ar k,t36] g λt37 a=>vif t37 (vif t37 (j a) (X a)) (
     zf P yg (.pointer (some ⟨xz,0,none⟩)) a λt39 i=>vcall P ql #[errE at_ an am ar k,t39] i λt40 d=>vif t40 (j d) (X d)))):=by
 rw[yF qL er.terms.cell]
 match k,l,m,n,o,p with
 |0,l,_,_,_,_=>
  refine K80 (zI (λh=>by cases h) λ_=>?_);rw[yF qL er.no.cell];refine K80 (zI (λh=>by cases h) λ_=>?_);rw[yF qL er.much.cell];refine K80 (zI (λh=>by cases h) λ_=>?_);rw[yF qL er.errs.room.cell];exact K80 (zI (λh=>by cases h) λ_=>l rfl)
 |1,_,m,_,_,_=>
  refine kP0 er.d4 er.rr er.rt (zI (λh=>by cases h) λ_=>?_);rw[yF qL er.no.cell];refine kP0 er.d5 er.rr er.rn (zI (λh=>by cases h) λ_=>?_);rw[yF qL er.much.cell];refine kP0 er.d6 er.rr er.rm (zI (λh=>by cases h) λ_=>?_);rw[yF qL er.errs.room.cell];exact YL0 (zI (λ_=>m rfl) λh=>by cases h)
 |2,_,_,n,_,_=>exact YL0 (zI (λ_=>n rfl) λh=>by cases h)
 |3,_,_,_,o,_=>
  refine kP0 er.d1 er.rn er.rt (zI (λh=>by cases h) λ_=>?_);rw[yF qL er.no.cell];exact YL0 (zI (λ_=>o rfl) λh=>by cases h)
 |k+4,_,_,_,_,p=>
  refine kP0 er.d2 er.rm er.rt (zI (λh=>by cases h) λ_=>?_);rw[yF qL er.no.cell];refine kP0 er.d3 er.rm er.rn (zI (λh=>by cases h) λ_=>?_);rw[yF qL er.much.cell];exact YL0 (zI (λ_=>zI (λ_=>p oM) λh=>by cases h) λh=>by cases h)
theorem z41 {d e f:Option Addr} {a c1 b c2 c c3:Nat}:zD P zV [(0,.slice d a c1),(1,.slice e b c2),(2,.slice f c c3)] w K=K (.agg ⟨[.slice d a c1,.slice e b c2,.slice f c c3,.int .i64 0,.slice none 0 0,.slice none 0 0]⟩) w:=
 yp J10 (us:=[[.slice d a c1],[.slice e b c2],[.slice f c c3]]) rfl rfl
theorem bdJob (b:DclsR F w' dv ds) (d:TmsR G w' tv ts):zD P zV [(0,dv),(1,tv),(2,.slice none 0 0)] w K=K (.agg ⟨[dv,tv,.slice none 0 0,.int .i64 0,.slice none 0 0,.slice none 0 0]⟩) w:=by
 obtain⟨a,c,rfl,_⟩:=b.shape;obtain⟨_,h,_⟩:=d;obtain⟨e,c',rfl,_⟩:=h.shape;exact z41
def JE0:List Value:=[.func (.func kg) #[] #[],.func (.func jD) #[] #[],.func (.func qZ) #[] #[],.func (.func jo) #[] #[]]
theorem stages_spec (d:∀w' b,b=w.heap.size->Ext w w'->Vals (· =b) w' (.slice (some ⟨b,0,none⟩) 4 4) JE0->K (.slice (some ⟨b,0,none⟩) 4 4) w'):vcall P Ke #[] w K:=by
 apply Y40;exact vbuildS_row1 (xs:=JE0) Ji QX Qp (λx a=>by
  simp only[JE0,gd,gx,or_false] at a;rcases a with rfl|rfl|rfl|rfl<;>rfl) dC λb w1 e he f c=>d w1 b e he (c.sl1 rfl dC)
theorem W50:XG0 c ds []=c:=by unfold XG0;simp
def JobS (w0:World) (b:Nat) (dv tv:Value) (ds:List M.Dcl) (ts:List M.Tm) (w:World):Nat->Prop
 |0=>Blk w b [dv,tv,.slice none 0 0,.int .i64 0,.slice none 0 0,.slice none 0 0] zV
 |1=>(∀t,t∈ts->M.tsort ds t=0)/\∃tv',Blk w b [dv,tv',.slice none 0 0,.int .i64 0,.slice none 0 0,.slice none 0 0] zV/\TmsR (λx=>w0.heap.size<=x/\x≠b) w tv' (ts.map (yY0 ds))
 |4=>(Jm ds ts []).2=1/\∃tv' y z ev,Blk w b [dv,tv',.slice none 0 0,y,z,ev] zV/\Ints (λ_=>True) w ev (Jm ds ts []).1
 |_=>Xi0 ds ts=true/\(cnfE ds (ts.map (M.foldT ds))).2=0/\∃tv' lv ls,Blk w b [dv,tv',.slice none 0 0,.int .i64 (cnfE ds (ts.map (M.foldT ds))).1.many,lv,.slice none 0 0] zV/\CnfO w0.heap.size w lv ls (cnfE ds (ts.map (M.foldT ds))).1
theorem solved_spec (hd:DclsR F w dv ds) (J:TmsR G w tv ts) (hs:ts.length<=1000) (er:Er w at_ an am ar ab)
  (hK:∀w' ev,Ext w w'->Ints (λ_=>True) w' ev (Jm ds ts []).1->K (.tuple #[ev,.int .i64 (Jm ds ts []).2]) w'):vcall P Kf #[dv,tv,.slice none 0 0] w K:=by
 apply Y70;rw[bdJob hd J];refine zx λb w1 hb Q a4 X=>?_;refine stages_spec λw2 b2 a3 D L=>?_;have z1:=Q.size;have z2:=D.size;have e2:=Q.trans D;have Y:=X.ext D;have nil_:∀{w':World},Ints (λ_=>True) w' (.slice none 0 0) []:=λ{w'}=>OwnI.nil (P:=P) (t:=zr)|>.ints.weaken λx _ _=>trivial;have out:∀{w':World} {k:Int},Ext w w'->Jm ds ts []=([],k)->K (.tuple #[.slice none 0 0,.int .i64 k]) w':=λ{w' k} he h=>by
  have:=hK w' (.slice none 0 0) he;rw[h] at this;exact this nil_
 simp only[push_cast,L.len];rw[show JE0.length=4 from rfl];refine vloop_up 4 (λi u w'=>u=[.int .i64 i]/\Same (· =b) w2 w'/\JobS w b dv tv ds ts w' i) ⟨rfl,Same.refl _ _,Y⟩ ?_;rintro i _ _ q C hi ⟨rfl,H,I⟩ hC;have p:Ext w q:=Ext.then e2 H λy hy=>oM
 have j:=er.ext p;have B:=(hd.weaken (F':=λx=>x<w.heap.size) λx _ h=>h).ext p;have a0:=(J.weaken (F':=λx=>x<w.heap.size) λx _ h=>h).ext p;have N:=L.same H λx hx _ e=>oM
 simp only[push_cast];refine zh (λa=>?_) (λa=>?_)
 ·have R:i<4:=oM;rw[N.iaddr Jv oM (by show(i:Int)<4;omega),gm,N.load J0 (by exact R)];have next:∀{d:World},Same (· =b) q d->JobS w b dv tv ds ts d (i+1)->C [.int .i64 (IntKind.i64.wrap ((i:Int)+1))] d:=λ{d} c h4=>by
   rw[inc64' oM];exact hC R _ _ ⟨rfl,H.trans c,h4⟩
  have v:∀{d:World},Same (· =b) q d->Ext w d:=λ{d} c=>Ext.then p c λy hy=>oM;have two:∀{d:World},Ext w d->¬Xi0 ds ts=true->K (.tuple #[.slice none 0 0,.int .i64 4]) d:=λhe h=>out he (Qw0 h);rcases(by omega:i=0\/i=1\/i=2\/i=3) with rfl|rfl|rfl|rfl
  ·show vcall P kg #[.pointer (some ⟨b,0,none⟩)] q _;refine jobFold_spec (show Blk q b [dv,tv,.slice none 0 0,.int .i64 0,.slice none 0 0,.slice none 0 0] zV from I) B a0 (λx hx=>oM) hs j.terms (λt J h d f=>?_) λg d a2 c n a1=>?_
   ·have r:=p.trans f;exact switch_spec (er.ext r) 2 (λh=>by cases h) (λh=>by cases h) (λ_=>two r λl=>h ((all8_iff.1 l).2.2 t J)) (λh=>by cases h) (λh=>oM)
   ·have z3:=p.size;exact switch_spec (er.ext (v c)) 0 (λ_=>next c ⟨g,a2,n,a1.weaken λx hx _=>⟨oM,by have:=I.lt;omega⟩⟩) (λh=>by cases h) (λh=>by cases h) (λh=>by cases h) (λh=>oM)
  ·obtain⟨g,o,m,T⟩:=I;show vcall P jD #[.pointer (some ⟨b,0,none⟩)] q _;refine jobBlast_spec m B T j.errs j.terms λd lv ls c n O=>?_;have r:=v c;by_cases l:Xi0 ds ts=true
   ·have S:ts.map (yY0 ds)=ts.map (M.foldT ds):=Gb λt J=>(kR0 (all8_iff.1 l).2.1 (g t J)).2;rw[S] at n O⊢;have z3:=p.size;rcases Ku0 (jJ0 l) with s|s
    ·rw[s];exact switch_spec (er.ext r) 0 (λ_=>next c ⟨l,s,o,lv,ls,n,O.down z3⟩) (λh=>by cases h) (λh=>by cases h) (λh=>by cases h) (λh=>oM)
    ·rw[s];exact switch_spec (er.ext r) 1 (λh=>by cases h) (λ_=>out r (Xr0 l (by rw[s];decide))) (λh=>by cases h) (λh=>by cases h) (λh=>oM)
   ·have s:(cnfE ds (ts.map (yY0 ds))).2=2:=by
     unfold cnfE;rw[if_neg λh=>l (all8_iff.2 ⟨by have:=(all8_iff.1 h).1;rwa[X0] at this,(all8_iff.1 h).2.1,g⟩)]
    rw[s];exact switch_spec (er.ext r) 2 (λh=>by cases h) (λh=>by cases h) (λ_=>two r l) (λh=>by cases h) (λh=>oM)
  ·obtain⟨l,V,o,lv,ls,m,A⟩:=I;show vcall P qZ #[.pointer (some ⟨b,0,none⟩)] q _;refine jobExclude_spec m ?_;exact switch_spec j 0 (λ_=>next (Same.refl _ _) ⟨l,V,o,lv,ls,m,A⟩) (λh=>by cases h) (λh=>by cases h) (λh=>by cases h) (λh=>oM)
  ·obtain⟨l,V,o,lv,ls,m,A⟩:=I;show vcall P jo #[.pointer (some ⟨b,0,none⟩)] q _;obtain⟨U,q2,q3⟩:=solveR_run (nots:=[]) l V (λe he=>by cases he) (by simp);rw[W50] at U q2;refine jobSearch_spec m B (λx hx=>oM) (all8_iff.1 l).2.1 A.cnf q2 q3 j.no j.much (λW d ev c n E=>?_) (λh2 d f=>?_) λh3 d f=>?_
   ·exact switch_spec (er.ext (v c)) 0 (λ_=>next c ⟨by rw[U];exact W,o,_,lv,ev,n,by rw[U];exact E.weaken λ_ _ _=>trivial⟩) (λh=>by cases h) (λh=>by cases h) (λh=>by cases h) (λh=>oM)
   ·exact switch_spec (er.ext (p.trans f)) 3 (λh=>by cases h) (λh=>by cases h) (λh=>by cases h) (λ_=>out (p.trans f) (by rw[U];exact h2)) (λh=>oM)
   ·exact switch_spec (er.ext (p.trans f)) 4 (λh=>by cases h) (λh=>by cases h) (λh=>by cases h) (λh=>by cases h) (λ_=>out (p.trans f) (by rw[U];exact h3))
 ·have Z:i=4:=oM;subst Z;obtain⟨W,o,y,z,ev,hB,E⟩:=I;have:=hK q ev p E;rw[W] at this;simp only[push_cast,hB.ld5];exact this
end
end Go.Proofs.YtokflbdfnbppjaaGreatDoor
