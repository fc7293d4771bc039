import Derived.Test.YtjkkiaacmedfdaaGreatDoorWycP4
/- A part of the proof. -/
set_option linter.all false
set_option maxRecDepth 9999
set_option maxHeartbeats 2000000
noncomputable section
section
namespace Go.M
def allI (n:Nat) (p:Nat->Bool):Bool:=(List.range n).all p
theorem allI_iff {n:Nat} {p:Nat->Bool}:allI n p=true↔ ∀k,k<n->p k=true:=by
 grind [allI]
def litOk (m l:Int):Bool:=decide (l≠0/\ -m<=l/\l<=m)
def yR (m:Int) (xs:List Int):Bool:=allI xs.length λk=>litOk m (xs.getD k 0)&&(k==0||decide ((xs.getD (k-1) 0).natAbs<(xs.getD k 0).natAbs))
structure Cnf where
 many:Int
 list:List (List Int)
structure Sat where
 put:List Int
 why:List Int
 learned:List (List Int)
 code:Int
def cnfOk (c:Cnf):Bool:=decide (0<=c.many)&&decide (c.many<=700)&&decide (c.list.length<=2500)&&allI c.list.length λk=>yR c.many (c.list.getD k [])
def placeOf (put:List Int) (v:Nat):Nat:=match(List.range put.length).find? (λi=>(put.getD i 0).natAbs==v) with|some i=>i+1 |none=>0
theorem Y3 {n i:Nat} {p:Nat->Bool} (hi:i<n) (b:p i=true) (a:∀j,j<i->p j=false):(List.range n).find? p=some i:=by
 simp_all
theorem placeOf_zero {put:List Int} {v:Nat} (h:∀l,l∈put->l.natAbs≠v):placeOf put v=0:=by
 grind [placeOf]
theorem placeOf_pos {put:List Int} {v:Nat} (h:placeOf put v≠0):placeOf put v<=put.length/\(put.getD (placeOf put v-1) 0).natAbs=v:=by
 grind [placeOf]
def Distinct (put:List Int):Prop:=(put.map Int.natAbs).Nodup
theorem getD_meS {put:List Int} {i:Nat} (hi:i<put.length):put.getD i 0∈put:=by
 grind
theorem placeOf_at {put:List Int} (a:Distinct put) {i:Nat} (hi:i<put.length):placeOf put (put.getD i 0).natAbs=i+1:=by
 unfold placeOf;rw[Y3 hi (by simp) ?_];intro j b;have c:(put.map Int.natAbs)[j]'(by simp;omega)≠(put.map Int.natAbs)[i]'(by simp;omega):=GH.1 a j i _ _ b
 grind
theorem placeOf_snoc {put:List Int} {l:Int} (h:∀x,x∈put->x.natAbs≠l.natAbs) (v:Nat):placeOf (put++[l]) v=if v=l.natAbs then put.length+1 else placeOf put v:=by
 by_cases b:v=l.natAbs
 ·rw[K3 b];unfold placeOf;rw[Y3 (i:=put.length) (by simp) (by simp[b]) ?_]
  grind
 ·rw[q0 b];by_cases c:placeOf put v=0
  ·rw[c];refine placeOf_zero λx a=>?_;rw[gr,gz] at a;rcases a with a|rfl
   ·intro e;obtain⟨i,hi,rfl⟩:=gx a;unfold placeOf at c;cases d:(List.range put.length).find? (λi=>(put.getD i 0).natAbs==v) with
    |none=>
     simp_all
    |some k=>grind
   omega
  ·unfold placeOf at c⊢;cases d:(List.range put.length).find? (λi=>(put.getD i 0).natAbs==v) with
   |none=>grind
   |some k=>
    grind [List.find?_eq_some_iff_getElem]
end Go.M
namespace Go.M
def lookM (put:List Int):List Int->Nat->Int->Bool×Nat×Int
 |[],n,x=>(false,n,x)
 |l::r,n,x=>if l∈put then(true,0,0) else if placeOf put l.natAbs=0 then lookM put r (n+1) l else lookM put r n x
theorem qU0 (put:List Int) (n:Nat) (x:Int):lookM put [] n x=(false,n,x):=rfl
theorem QB (put:List Int) (l:Int) (r:List Int) (n:Nat) (x:Int):lookM put (l::r) n x=if l∈put then(true,0,0) else if placeOf put l.natAbs=0 then lookM put r (n+1) l else lookM put r n x:=rfl
def findM (put:List Int):List (List Int)->Int->Int->Int->Int×Int×Int
 |[],_,u,x=>(-1,u,x)
 |c::r,k,u,x=>
  match lookM put c 0 0 with
  |(true,_,_)=>findM put r (k+1) u x
  |(false,0,_)=>(k,u,x)
  |(false,1,l)=>if u<0 then findM put r (k+1) k l else findM put r (k+1) u x
  |(false,_,_)=>findM put r (k+1) u x
theorem findM_cons (put:List Int) (c:List Int) (r:List (List Int)) (k u x:Int):findM put (c::r) k u x=
  if(lookM put c 0 0).1=true then findM put r (k+1) u x else if(lookM put c 0 0).2.1=0 then(k,u,x) else
  if(lookM put c 0 0).2.1=1 then(if u<0 then findM put r (k+1) k (lookM put c 0 0).2.2 else findM put r (k+1) u x) else findM put r (k+1) u x:=by
 grind [findM]
def places (many:Nat) (put:List Int):List Int:=(List.range (many+1)).map λv=>(placeOf put v:Int)
theorem kZ (many:Nat) (put:List Int):(places many put).length=many+1:=by simp[places]
theorem places_get {many:Nat} {put:List Int} {v:Nat} (h:v<=many):(places many put).getD v 0=placeOf put v:=by
 grind [places]
theorem placeOf_le (put:List Int) (v:Nat):placeOf put v<=put.length:=by
 grind [placeOf_pos]
theorem placeOf_ne_zero {put:List Int} {l:Int} (h:l∈put):placeOf put l.natAbs≠0:=by
 obtain⟨i,hi,rfl⟩:=gx h;intro e;unfold placeOf at e;cases a:(List.range put.length).find? (λj=>(put.getD j 0).natAbs==(put[i]).natAbs) with
 |none=>
  rw[pS] at a;have:=a i (gN.2 hi);simp[X0,hi] at this
 |some k=>grind
theorem mem_iff_place {put:List Int} (a:Distinct put) {l:Int}:l∈put↔placeOf put l.natAbs≠0/\put.getD (placeOf put l.natAbs-1) 0=l:=by
 constructor
 ·intro h;refine⟨placeOf_ne_zero h,?_⟩;obtain⟨i,hi,rfl⟩:=gx h;have:=placeOf_at a hi
  grind
 grind [placeOf_pos]
theorem Z3 {α:Type} {d:α} {xs:List α} {i:Nat} (h:i<xs.length):xs.drop i=xs.getD i d::xs.drop (i+1):=by
 simp_all
theorem getD_app_l {α:Type} {a b:List α} {d:α} {k:Nat} (h:k<a.length):(a++b).getD k d=a.getD k d:=by
 grind
theorem getD_app_r {α:Type} {a b:List α} {d:α} {j:Nat}:(a++b).getD (a.length+j) d=b.getD j d:=by
 grind
theorem JU (v:Nat):placeOf [] v=0:=rfl
theorem xA0 (many:Nat):places many []=List.replicate (many+1) 0:=by
 refine Gd (by simp[places]) λi a b=>?_;simp[places,JU]
theorem places_snoc {many:Nat} {put:List Int} {l:Int} (h:placeOf put l.natAbs=0):places many (put++[l])=(places many put).set l.natAbs (put.length+1:Nat):=by
 refine Gd (by simp[places]) λi a c=>?_;simp only[places,V0,G3] at a;rw[pB];simp only[places,Pz,pG];have b:∀x,x∈put->x.natAbs≠l.natAbs:=by grind [placeOf_ne_zero]
 grind [placeOf_snoc]
theorem distinct_snoc {put:List Int} {l:Int} (a:Distinct put) (h:placeOf put l.natAbs=0):Distinct (put++[l]):=by
 unfold Distinct;rw[gE,Gz];refine⟨a,by simp,?_⟩
 grind [placeOf_ne_zero]
theorem distinct_take {put:List Int} (a:Distinct put) (n:Nat):Distinct (put.take n):=by
 grind [Distinct]
theorem places_unsnoc {many:Nat} {put:List Int} {l:Int} (c:Distinct (put++[l])):(places many (put++[l])).set l.natAbs 0=places many put:=by
 have h:placeOf put l.natAbs=0:=by
  grind [placeOf_zero,Distinct]
 rw[places_snoc h,List.set_set];refine Gd (by grind) λi a b=>?_
 grind [places]
theorem clauseOk_lit {m:Int} {xs:List Int} (h:yR m xs=true) {x:Int} (b:x∈xs):x≠0/\ -m<=x/\x<=m:=by
 obtain⟨k,a,rfl⟩:=gx b;have:=allI_iff.1 h k a
 grind [litOk]
theorem clauseOk_up {m:Int} {xs:List Int} (h:yR m xs=true):∀k,k<xs.length->k+1<=(xs.getD k 0).natAbs
 |0,a=>by have:=(clauseOk_lit h (getD_meS a)).1;omega
 |k+1,a=>by
  have b:=clauseOk_up h k oM;have:=allI_iff.1 h (k+1) a
  grind
theorem clauseOk_len {m:Nat} {xs:List Int} (h:yR m xs=true):xs.length<=m:=by
 cases c:xs.length with
 |zero=>omega
 |succ n=>
  have a:=clauseOk_up h n oM;have b:=clauseOk_lit h (getD_meS (show n<xs.length by omega));omega
def lvl (ds:List Bool) (i:Nat):Nat:=(ds.take (i+1)).count true
def levels (ds:List Bool):List Int:=(List.range ds.length).map λi=>(lvl ds i:Int)
theorem Yg (ds:List Bool):(levels ds).length=ds.length:=by simp[levels]
theorem QD {ds:List Bool} {i:Nat} (h:i<ds.length):(levels ds).getD i 0=lvl ds i:=by simp[levels,X0,h]
theorem lvl_le (ds:List Bool) (i:Nat):lvl ds i<=ds.length:=gO (Pb) (by simp;omega)
theorem qR0 {ds:List Bool} {i:Nat} (h:ds.length<=i+1):lvl ds i=ds.count true:=by unfold lvl;rw[gI h]
theorem levels_snoc (ds:List Bool) (d:Bool):levels (ds++[d])=levels ds++[((ds.count true+d.toNat:Nat):Int)]:=by
 refine Gd (by simp[levels]) λi a b=>?_;simp only[levels,V0,G3,gg,gX] at a;by_cases hi:i<ds.length
 ·grind [levels,lvl]
 grind [levels,qR0]
theorem levels_take (ds:List Bool) (n:Nat):(levels ds).take n=levels (ds.take n):=by
 refine Gd (by simp[levels]) λi a b=>?_;simp only[levels,V0,G3,gi] at a b
 grind [levels,lvl]
def ym (why:List Int):List Bool:=why.map λy=>decide (y= -1)
theorem jI (why:List Int):(ym why).length=why.length:=by simp[ym]
theorem jk0 (why:List Int) (y:Int):ym (why++[y])=ym why++[decide (y= -1)]:=by simp[ym]
theorem y70 (why:List Int) (n:Nat):(ym why).take n=ym (why.take n):=by simp[ym]
def backN (ds:List Bool) (L:Int):Nat->Nat
 |0=>0
 |n+1=>if L<lvl ds n then backN ds L n else n+1
theorem backN_le (ds:List Bool) (L:Int) (n:Nat):backN ds L n<=n:=by
 induction n with
 |zero=>exact gB _
 |succ n a=>unfold backN;grind
theorem lvl_take {ds:List Bool} {i n:Nat} (h:i<n):lvl (ds.take n) i=lvl ds i:=by grind [lvl]
def lvM (put:List Int) (ds:List Bool) (k:Int):Nat:=lvl ds (placeOf put k.natAbs-1)
structure TopOf (put:List Int) (ds:List Bool) (ks:List Int) (top:Nat) (xs:List Int):Prop where
 le:∀k,k∈ks->lvM put ds k<=top
 mem:∀k,k∈xs↔k∈ks/\lvM put ds k=top
 ne:top=0\/xs≠[]
 nd:xs.Nodup
def atM (c:Cnf) (s:Sat) (k:Nat):List Int:=(c.list++s.learned).getD k []
def marksOk (many:Nat) (put:List Int):Prop:=Distinct put/\∀x,x∈put->x≠0/\x.natAbs<=many
def badM (put:List Int) (k:Nat) (l:Int):Bool:=decide (l≠put.getD k 0)&&(decide (placeOf put l.natAbs=0)||(decide (l∈put)||decide ((k:Int)<=(placeOf put l.natAbs:Int)-1)))
def xI0 (put:List Int) (k:Nat) (cl:List Int):Bool:=decide (put.getD k 0∈cl)&& !((List.range cl.length).any λi=>badM put k (cl.getD i 0))
def qg0 (c:Cnf) (s:Sat) (k:Nat):Prop:=s.why.getD k 0= -1\/(0<=s.why.getD k 0/\s.why.getD k 0<c.list.length+s.learned.length/\xI0 s.put k (atM c s (s.why.getD k 0).toNat)=true)
structure satOk (many:Nat) (c:Cnf) (s:Sat):Prop where
 cnf:cnfOk c=true
 few:s.learned.length<=300
 c0:0<=s.code
 c3:s.code<=3
 len:s.put.length=s.why.length
 lrn:∀x,x∈s.learned->yR c.many x=true
 mks:marksOk many s.put
 why:∀k,k<s.why.length->qg0 c s k
end Go.M
namespace Go.M
def Srt (xs:List Int):Prop:=xs.Pairwise λa b=>a.natAbs<b.natAbs
theorem srt_ext:∀{xs ys:List Int},Srt xs->Srt ys->(∀k,k∈xs↔k∈ys)->xs=ys
 |[],[],_,_,_=>rfl
 |[],y::ys,_,_,h=>by grind [List.mem_cons_self]
 |x::xs,[],_,_,h=>by grind [List.mem_cons_self]
 |x::xs,y::ys,a,b,h=>by
  unfold Srt at a b;rw[Pj] at a b;have e:x=y:=by
   grind
  subst e;rw[srt_ext (xs:=xs) (ys:=ys) a.2 b.2 λk=>?_]
  grind
theorem clauseOk_srt {m:Int} {xs:List Int} (h:yR m xs=true):Srt xs:=by
 have step:∀k,k+1<xs.length->(xs.getD k 0).natAbs<(xs.getD (k+1) 0).natAbs:=λk b=>by
  have:=allI_iff.1 h (k+1) b
  grind
 have far:∀d k,k+d+1<xs.length->(xs.getD k 0).natAbs<(xs.getD (k+d+1) 0).natAbs:=by
  intro d;induction d with
  |zero=>omega
  |succ d e=>
   grind
 unfold Srt;rw[GH];intro i j hi c a;have:=far (j-i-1) i oM;rw[show i+(j-i-1)+1=j from by omega] at this
 grind
def XU (many:Nat) (a b:List Int) (m:Nat):List Int:=(List.range many).filterMap λi=>
 if i+1=m then none else if((i+1:Nat):Int)∈a\/((i+1:Nat):Int)∈b then some ((i+1:Nat):Int) else if-((i+1:Nat):Int)∈a\/ -((i+1:Nat):Int)∈b then some (-((i+1:Nat):Int)) else none
theorem mem_joinM {many m:Nat} {a b:List Int} (f:∀k,k∈a++b->k.natAbs≠m-> -k∉a++b) (c:∀k,k∈a++b->k≠0/\k.natAbs<=many) (k:Int):k∈XU many a b m↔(k∈a\/k∈b)/\k.natAbs≠m:=by
 unfold XU;simp only[List.mem_filterMap,gN];constructor
 ·grind
 ·rintro⟨h,d⟩;have hm:k∈a++b:=(by grind);obtain⟨e,hle⟩:=c k hm;refine⟨k.natAbs-1,oM,?_⟩
  grind
theorem joinM_srt (many:Nat) (a b:List Int) (m:Nat):Srt (XU many a b m):=by
 unfold XU Srt;rw[List.pairwise_filterMap];refine List.Pairwise.imp ?_ List.pairwise_lt_range
 grind
theorem distinct_eq {put:List Int} (a:Distinct put) {x y:Int} (b:x∈put) (c:y∈put) (h:x.natAbs=y.natAbs):x=y:=by
 grind [mem_iff_place]
def Fls (put cl:List Int):Prop:=∀k,k∈cl-> -k∈put
def maxL (xs:List Nat):Nat:=xs.foldl max 0
theorem foldl_max_le {xs:List Nat} {a x:Nat} (h:x∈xs\/x<=a):x<=xs.foldl max a:=by
 induction xs generalizing a with
 |nil=>grind
 |cons y r b=>
  grind
theorem kQ {xs:List Nat} {x:Nat} (h:x∈xs):x<=maxL xs:=foldl_max_le (.inl h)
theorem foldl_max_mem (xs:List Nat) (a:Nat):xs.foldl max a=a\/xs.foldl max a∈xs:=by
 induction xs generalizing a with
 |nil=>grind
 |cons y r b=>
  grind
theorem j8 {xs:List Nat}:maxL xs=0\/maxL xs∈xs:=foldl_max_mem xs 0
theorem lvl_mono {ds:List Bool} {i j:Nat} (h:i<=j):lvl ds i<=lvl ds j:=by
 unfold lvl;refine List.Sublist.count_le true ?_;have:ds.take (i+1)=(ds.take (j+1)).take (i+1):=by grind
 grind
def lastPl (put cl:List Int):Nat:=maxL (cl.map λk=>placeOf put k.natAbs)
theorem lastPl_top {put cl xs:List Int} {ds:List Bool} {top:Nat} {m:Int} (h:TopOf put ds cl top xs) (hm:m∈xs) (a:∀x,x∈xs->placeOf put x.natAbs<=placeOf put m.natAbs):placeOf put m.natAbs=lastPl put cl:=by
 have b:=(h.mem m).1 hm;have d:placeOf put m.natAbs<=lastPl put cl:=kQ (gy.2 ⟨m,b.1,rfl⟩);rcases j8 (xs:=cl.map λk=>placeOf put k.natAbs) with e|e
 ·unfold lastPl at d⊢;omega
 ·obtain⟨q,c,e⟩:=gy.1 e;have i:placeOf put q.natAbs=lastPl put cl:=e;have j:lvM put ds m<=lvM put ds q:=lvl_mono oM;have f:=h.le q c;have g:=a q ((h.mem q).2 ⟨c,oM⟩);omega
theorem two_mem {xs:List Int} (d:xs.Nodup) (h:2<=xs.length) (p:Int):∃q,q∈xs/\q≠p:=by
 match xs,d,h with
 |a::b::r,d,_=>
  have c:a≠b:=(by grind);by_cases e:a=p
  ·exact⟨b,by simp,λf=>c (by rw[e,f])⟩
  simp_all
theorem impl_of {put cl:List Int} {k:Nat} (h:xI0 put k cl=true):put.getD k 0∈cl/\∀l,l∈cl->l≠put.getD k 0->placeOf put l.natAbs≠0/\l∉put/\placeOf put l.natAbs<=k:=by
 unfold xI0 at h;simp only[gp,gd,gV,pW] at h;refine⟨h.1,λl c a=>?_⟩;obtain⟨i,hi,rfl⟩:=gx c;have:=h.2 i (gN.2 hi);simp only[X0,gl hi,GA,badM] at this a⊢;simp only[gp,Gu,gd,not_and,not_or] at this;have b:=this a;exact⟨b.1,b.2.1,by have:=b.2.2;omega⟩
theorem false_of {put:List Int} {l:Int} (a:placeOf put l.natAbs≠0) (b:l∉put): -l∈put:=by
 grind [placeOf]
theorem lvl_decided {ds:List Bool} {i k:Nat} (c:k<ds.length) (b:ds.getD k false=true) (h:i<k):lvl ds i<lvl ds k:=by
 have a:lvl ds i<=(ds.take k).count true:=by
  unfold lvl;refine List.Sublist.count_le true ?_;have:ds.take (i+1)=(ds.take k).take (i+1):=by grind
  grind
 grind [lvl,List.take_add_one]
theorem JB {why:List Int} {k:Nat} (a:k<why.length):(ym why).getD k false=decide (why.getD k 0= -1):=by
 simp[ym,X0,a]
theorem last_reason {many:Nat} {c:Cnf} {s:Sat} (h:satOk many c s) {cl xs:List Int} {top k:Nat} (hF:Fls s.put cl) (g:TopOf s.put (ym s.why) cl top xs) (t:2<=xs.length) (C:lastPl s.put cl=k+1):
  k<s.put.length/\ -(s.put.getD k 0)∈cl/\0<=s.why.getD k 0/\s.why.getD k 0<c.list.length+s.learned.length/\xI0 s.put k (atM c s (s.why.getD k 0).toNat)=true/\
  ∃q,q∈cl/\q≠ -(s.put.getD k 0)/\lvM s.put (ym s.why) q=top:=by
 have u:=h.mks.1;obtain⟨b,f,A⟩:∃q,q∈cl/\placeOf s.put q.natAbs=k+1:=by
  grind [j8,lastPl]
 have l:=placeOf_pos (put:=s.put) (v:=b.natAbs) oM;rw[A,G0] at l;have i:k<s.put.length:=oM
 have E:s.put.getD k 0= -b:=distinct_eq u (getD_meS i) (hF b f) oM;have hle:∀q,q∈cl->placeOf s.put q.natAbs<=k+1:=λq F=>by rw[<-C];exact kQ (gy.2 ⟨q,F,rfl⟩)
 have w:lvM s.put (ym s.why) b=top:=by
  obtain⟨x,H,-⟩:=two_mem g.nd t 0;have p:=(g.mem x).1 H;have r:=hle x p.1;have B:lvM s.put (ym s.why) x<=lvM s.put (ym s.why) b:=lvl_mono oM;have:=g.le b f;omega
 obtain⟨d,o,D⟩:=two_mem g.nd t b;have a:=(g.mem d).1 o;have z:=hle d a.1;have y:placeOf s.put d.natAbs≠k+1:=λe=>by
  have m:=placeOf_pos (put:=s.put) (v:=d.natAbs) oM;rw[e,G0] at m;have:=distinct_eq u (hF d a.1) (hF b f) oM;omega
 have n:placeOf s.put d.natAbs≠0:=by have:=placeOf_ne_zero (hF d a.1);grind
 have G:s.why.length=s.put.length:=h.len.symm;have j:s.why.getD k 0≠ -1:=λe=>by
  have r:(ym s.why).getD k false=true:=by rw[JB oM];grind
  have B:lvM s.put (ym s.why) d<lvl (ym s.why) k:=lvl_decided (by grind) r oM
  grind [lvM]
 rcases h.why k oM with e|⟨I,a2,a3⟩
 ·omega
 grind
theorem satOk.lit {many:Nat} {c:Cnf} {s:Sat} (h:satOk many c s) (e:c.many=many) {k:Nat} (j:k<c.list.length+s.learned.length) {l:Int} (f:l∈atM c s k):l≠0/\l.natAbs<=many:=by
 have a:atM c s k∈c.list++s.learned:=by
  grind [atM]
 have b:∀x,x∈c.list->yR c.many x=true:=λx g=>by
  have d:=h.cnf;unfold cnfOk at d;rw[gp] at d;obtain⟨i,hi,rfl⟩:=gx g
  grind [allI_iff]
 have:=(gr.1 a).elim (b _) (h.lrn _);have:=clauseOk_lit this f;omega
theorem learn_join {many:Nat} {c:Cnf} {s:Sat} (h:satOk many c s) (x:c.many=many) {cl xs:List Int} {top k:Nat} (hF:Fls s.put cl) (D:TopOf s.put (ym s.why) cl top xs) (E:2<=xs.length) (B:lastPl s.put cl=k+1):
  let r:=atM c s (s.why.getD k 0).toNat
  let a:=XU many cl r (s.put.getD k 0).natAbs
  (∀l,l∈a↔(l∈cl/\l≠ -(s.put.getD k 0))\/(l∈r/\l≠s.put.getD k 0))/\Fls s.put a/\lastPl s.put a<=k/\(∀l,l∈a->lvM s.put (ym s.why) l<=top)/\∃q,q∈a/\lvM s.put (ym s.why) q=top:=by
 intro r a;obtain⟨m,z,L,M,himp,q,J,o,A⟩:=last_reason h hF D E B;have y:=h.mks.1;have N:(0:Int)∉s.put:=λe=>(h.mks.2 0 e).1 rfl;obtain⟨I,C⟩:=impl_of himp;have n:s.put.getD k 0∈s.put:=getD_meS m;have H:placeOf s.put (s.put.getD k 0).natAbs=k+1:=placeOf_at y m;generalize G:s.put.getD k 0=p at*;have t:(s.why.getD k 0).toNat<c.list.length+s.learned.length:=oM
 have F:∀l,l∈r->l≠p-> -l∈s.put:=by grind [false_of]
 have off:∀l,l∈cl++r->l.natAbs≠p.natAbs-> -l∈s.put:=λl b d=>by
  rcases gr.1 b with b|b
  ·exact hF l b
  grind
 have i:∀l,l∈cl++r->l.natAbs≠p.natAbs-> -l∉cl++r:=λl b d Q=>by
  grind [distinct_eq]
 have w:∀l,l∈cl++r->l≠0/\l.natAbs<=many:=λl b=>by
  rcases gr.1 b with b|b
  ·have:=h.mks.2 _ (hF l b);omega
  ·exact h.lit x t b
 have f:∀l,l∈a↔(l∈cl/\l≠ -p)\/(l∈r/\l≠p):=λl=>by
  have e:a=XU many cl r p.natAbs:=(by grind);rw[e,mem_joinM i w];constructor
  ·grind
  ·rintro(⟨g,d⟩|⟨g,d⟩)
   ·refine⟨.inl g,λe=>d ?_⟩;have:=distinct_eq y (hF l g) n oM;omega
   grind
 have u:∀l,l∈a->placeOf s.put l.natAbs<=k:=λl b=>by
  rcases(f l).1 b with⟨g,d⟩|⟨g,d⟩
  ·have O:placeOf s.put l.natAbs<=k+1:=by rw[<-B];exact kQ (gy.2 ⟨l,g,rfl⟩)
   have P:placeOf s.put l.natAbs≠k+1:=λe=>by
    have:=placeOf_pos (put:=s.put) (v:=l.natAbs) oM;rw[e,G0,G] at this;have:=distinct_eq y (hF l g) n oM;omega
   omega
  grind
 have j:lvl (ym s.why) k=top:=by
  have R:=D.le _ z;have K:lvM s.put (ym s.why) q<=lvl (ym s.why) k:=lvl_mono (by
   grind)
  grind [lvM]
 refine⟨f,λl b=>?_,?_,λl b=>?_,q,(f q).2 (.inl ⟨J,o⟩),A⟩
 ·grind
 ·grind [lastPl,j8]
 ·rw[<-j];exact lvl_mono (by grind)
def kL (put:List Int) (ds:List Bool) (cl:List Int):Nat:=maxL (cl.map (lvM put ds))
def QZ (put:List Int) (ds:List Bool) (cl:List Int):List Int:=cl.filter λk=>lvM put ds k==kL put ds cl
theorem srt_nodup {cl:List Int} (h:Srt cl):cl.Nodup:=List.Pairwise.imp (λh e=>oM) h
theorem topOf_tops {put:List Int} {ds:List Bool} {cl:List Int} (h:cl.Nodup):TopOf put ds cl (kL put ds cl) (QZ put ds cl):=by
 refine⟨λk a=>kQ (Gh a),λk=>by simp[QZ],?_,h.sublist List.filter_sublist⟩;rcases j8 (xs:=cl.map (lvM put ds)) with e|e
 ·exact .inl e
 ·obtain⟨q,b,e⟩:=gy.1 e;have:q∈QZ put ds cl:=by simp only[QZ,PE,beq_iff_eq];exact⟨b,e⟩
  grind
theorem topOf_top {put:List Int} {ds:List Bool} {cl xs a:List Int} {t t':Nat} (h:TopOf put ds cl t xs) (b:TopOf put ds cl t' a):t=t':=by
 have le:∀{t t':Nat} {xs a:List Int},TopOf put ds cl t xs->TopOf put ds cl t' a->t<=t':=by
  intro t t' xs a h b;rcases h.ne with e|e
  ·omega
  ·obtain⟨x,d⟩:=pJ _ e;have c:=(h.mem x).1 d;have:=b.le x c.1;omega
 grind
theorem qu0 {put:List Int} {ds:List Bool} {cl xs a:List Int} {t t':Nat} (h:TopOf put ds cl t xs) (b:TopOf put ds cl t' a):xs.length=a.length:=by
 have e:=topOf_top h b;subst e;exact z0f (h.nd.length_le_of_subset λx c=>(b.mem x).2 ((h.mem x).1 c)) (b.nd.length_le_of_subset λx c=>(h.mem x).2 ((b.mem x).1 c))
theorem JK {put:List Int} {ds:List Bool} {cl a xs:List Int} {t:Nat} (b:∀k,k∈cl↔k∈a) (h:TopOf put ds cl t xs):TopOf put ds a t xs:=
 ⟨λk c=>h.le k ((b k).2 c),λk=>by rw[h.mem,b],h.ne,h.nd⟩
def qH (many:Nat) (c:Cnf) (s:Sat) (cl:List Int):List Int:=
 XU many cl (atM c s (s.why.getD (lastPl s.put cl-1) 0).toNat) (s.put.getD (lastPl s.put cl-1) 0).natAbs
def learnM (many:Nat) (c:Cnf) (s:Sat):Nat->List Int->List Int
 |0,cl=>cl
 |f+1,cl=>if(QZ s.put (ym s.why) cl).length<=1 then cl else learnM many c s f (qH many c s cl)
theorem lastPl_pos {put cl:List Int} (hF:Fls put cl) (h:cl≠[]):lastPl put cl≠0:=by
 obtain⟨q,a⟩:=pJ _ h;have b:placeOf put q.natAbs<=lastPl put cl:=kQ (gy.2 ⟨q,a,rfl⟩);have:=placeOf_ne_zero (hF q a)
 grind
theorem learnS_ok {many:Nat} {c:Cnf} {s:Sat} (h:satOk many c s) (b:c.many=many) {cl:List Int} (hF:Fls s.put cl) (hs:Srt cl) (f:2<=(QZ s.put (ym s.why) cl).length):
  Fls s.put (qH many c s cl)/\Srt (qH many c s cl)/\lastPl s.put (qH many c s cl)<lastPl s.put cl/\kL s.put (ym s.why) (qH many c s cl)=kL s.put (ym s.why) cl:=by
 have m:=topOf_tops (put:=s.put) (ds:=ym s.why) (srt_nodup hs);have d:cl≠[]:=λe=>by subst e;simp[QZ] at f
 have u:=lastPl_pos hF d;obtain⟨k,i⟩:∃k,lastPl s.put cl=k+1:=⟨lastPl s.put cl-1,oM⟩;obtain⟨hm,g,r,t,q,j,l⟩:=learn_join h b hF m f i;have e:qH many c s cl=XU many cl (atM c s (s.why.getD k 0).toNat) (s.put.getD k 0).natAbs:=by unfold qH;grind
 rw[e];refine⟨g,joinM_srt _ _ _ _,oM,?_⟩;have a:=topOf_tops (put:=s.put) (ds:=ym s.why) (srt_nodup (joinM_srt many cl (atM c s (s.why.getD k 0).toNat) (s.put.getD k 0).natAbs));have p:=a.le q j;rcases a.ne with e|e
 ·omega
 ·obtain⟨x,n⟩:=pJ _ e;have o:=(a.mem x).1 n
  grind
theorem learnM_ok {many:Nat} {c:Cnf} {s:Sat} (h:satOk many c s) (a:c.many=many):∀{f:Nat} {cl:List Int},Fls s.put cl->Srt cl->lastPl s.put cl<=f->
  Fls s.put (learnM many c s f cl)/\Srt (learnM many c s f cl)/\kL s.put (ym s.why) (learnM many c s f cl)=kL s.put (ym s.why) cl/\(QZ s.put (ym s.why) (learnM many c s f cl)).length<=1
 |0,cl,hF,hs,g=>by
  refine⟨hF,hs,rfl,?_⟩;have:cl=[]:=GN λb=>lastPl_pos hF b oM;subst this;simp[learnM,QZ]
 |f+1,cl,hF,hs,g=>by
  unfold learnM;by_cases e:(QZ s.put (ym s.why) cl).length<=1
  ·grind
  ·rw[q0 e];obtain⟨d,a2,a3,a4⟩:=learnS_ok h a hF hs oM;obtain⟨b1,b2,b3,b4⟩:=learnM_ok h a (f:=f) d a2 oM
   grind
end Go.M
namespace Go.M
def Zr (put:List Int) (ds:List Bool) (cl:List Int):Nat:=maxL ((cl.filter λk=>decide (lvM put ds k<kL put ds cl)).map (lvM put ds))
def qx (many:Nat) (c:Cnf) (s:Sat) (cl:List Int):Sat:=
 if kL s.put (ym s.why) cl=0 then{s with code:=2}
 else if s.learned.length=300 then{s with code:=3}
 else
  {s with
   put:=s.put.take (backN (ym s.why) (Zr s.put (ym s.why) (learnM many c s s.put.length cl)) s.put.length)
   why:=s.why.take (backN (ym s.why) (Zr s.put (ym s.why) (learnM many c s s.put.length cl)) s.put.length)
   learned:=s.learned++[learnM many c s s.put.length cl]}
def Z0 (many:Nat) (put:List Int):Nat:=((List.range many).find? λi=>decide (placeOf put (i+1)=0)).getD 0+1
def goM (many:Nat) (c:Cnf) (s:Sat):Sat:=
 match findM s.put (c.list++s.learned) 0 (-1) 0 with
 |(k,u,x)=>if 0<=k then qx many c s (atM c s k.toNat) else if 0<=u then{s with put:=s.put++[x],why:=s.why++[u]}
  else if s.put.length=many then{s with code:=1} else{s with put:=s.put++[-(Z0 many s.put:Int)],why:=s.why++[-1]}
def stepM (many:Nat) (c:Cnf) (s:Sat):Sat:=if s.code=0 then goM many c s else s
def runM (many:Nat) (c:Cnf):Nat->Sat->Sat
 |0,s=>s
 |n+1,s=>runM many c n (stepM many c s)
def emptyS:Sat:=⟨[],[],[],0⟩
def qL (put cl:List Int):Prop:=∀l,l∈cl->l∉put/\placeOf put l.natAbs≠0
theorem lookM_spec (put:List Int):∀(cl:List Int) (n:Nat) (x:Int),((∃l,l∈cl/\l∈put)/\lookM put cl n x=(true,0,0))\/
  ((∀l,l∈cl->l∉put)/\∃y,lookM put cl n x=(false,n+(cl.filter λl=>decide (placeOf put l.natAbs=0)).length,y)/\(y=x/\(cl.filter λl=>decide (placeOf put l.natAbs=0))=[]\/y∈cl/\placeOf put y.natAbs=0))
 |[],n,x=> .inr ⟨by simp,x,by simp[qU0],.inl ⟨rfl,rfl⟩⟩
 |l::r,n,x=>by
  rw[QB];by_cases b:l∈put
  ·grind
  rw[q0 b];by_cases a:placeOf put l.natAbs=0
  ·rw[K3 a];rcases lookM_spec put r (n+1) l with⟨⟨q,f,d⟩,e⟩|⟨c,y,e,g⟩
   ·grind
   grind
  ·rw[q0 a];rcases lookM_spec put r n x with⟨⟨q,f,d⟩,e⟩|⟨c,y,e,g⟩
   ·grind
   grind
def unitC (put cl:List Int) (x:Int):Prop:=(∀l,l∈cl->l∉put)/\(cl.filter λl=>decide (placeOf put l.natAbs=0))=[x]
theorem look_clash {put cl:List Int}:qL put cl↔(lookM put cl 0 0).1=false/\(lookM put cl 0 0).2.1=0:=by
 rcases lookM_spec put cl 0 0 with⟨⟨l,a,c⟩,e⟩|⟨b,y,e,-⟩
 ·rw[e];exact⟨λh=>absurd c (h l a).1,λh=>by cases h.1⟩
 ·rw[e];simp only[Gb,Pn,Q1];rw[z0b];exact⟨λh l a=>by have:=(h l a).2;grind,λh l a=>⟨b l a,by grind⟩⟩
theorem look_unit {put cl:List Int} {x:Int}:unitC put cl x↔lookM put cl 0 0=(false,1,x):=by
 rcases lookM_spec put cl 0 0 with⟨⟨l,f,i⟩,e⟩|⟨g,y,e,a⟩
 ·rw[e];exact⟨λh=>absurd i (h.1 l f),λh=>by cases h⟩
 ·rw[e];constructor
  ·rintro⟨_,h⟩;rw[h] at a;rcases a with⟨_,b⟩|⟨a,c⟩
   ·cases b
   ·have:y∈cl.filter λl=>decide (placeOf put l.natAbs=0):=by grind
    grind
  ·intro h;simp only[Gx,Q1,Gb] at h;obtain⟨d,rfl⟩:=h;refine⟨g,?_⟩;obtain⟨z,c⟩:=z0c.1 d;rw[c] at a⊢;rcases a with⟨_,b⟩|⟨a,j⟩
   ·cases b
   ·have:y∈cl.filter λl=>decide (placeOf put l.natAbs=0):=by grind
    grind
def FindP (put:List Int) (L:List (List Int)) (k0 u0 x0:Int) (r:Int×Int×Int):Prop:=
 (∃i,i<L.length/\r.1=k0+(i:Nat)/\qL put (L.getD i []))\/
  (r.1= -1/\(∀cl,cl∈L->¬qL put cl)/\((0<=u0/\r.2=(u0,x0))\/
   (u0<0/\((∃i,i<L.length/\r.2.1=k0+(i:Nat)/\unitC put (L.getD i []) r.2.2/\∀j,j<i->∀x,¬unitC put (L.getD j []) x)\/
    (r.2=(u0,x0)/\∀cl,cl∈L->∀x,¬unitC put cl x)))))
theorem FindP.skip {put cl:List Int} {L:List (List Int)} {k0 d k:Int} {r:Int×Int×Int} (o: ¬qL put cl) (hu:0<=d\/ ∀x,¬unitC put cl x) (h:FindP put L (k0+1) d k r):FindP put (cl::L) k0 d k r:=by
 rcases h with⟨i,hi,f,g⟩|⟨f,g,a⟩
 ·exact .inl ⟨i+1,by grind,oM,by grind⟩
 ·refine .inr ⟨f,λc b=>(gj.1 b).elim (λe=>e▸o) (g c),?_⟩;rcases a with a|⟨l,a⟩
  ·grind
  have hu:∀x,¬unitC put cl x:=(by grind);rcases a with⟨i,hi,m,n,p⟩|⟨m,n⟩
  ·refine .inr ⟨l,.inl ⟨i+1,by grind,oM,by grind,λj q x=>?_⟩⟩;cases j with
   |zero=>grind
   |succ j=>simp_all
  grind
theorem findM_spec (put:List Int):∀(L:List (List Int)) (k0 a d:Int),0<=k0->FindP put L k0 a d (findM put L k0 a d)
 |[],k0,a,d,_=>by
  refine .inr ⟨rfl,by simp,?_⟩;by_cases h:0<=a
  ·exact .inl ⟨h,rfl⟩
  ·exact .inr ⟨oM,.inr ⟨rfl,by simp⟩⟩
 |cl::L,k0,a,d,p=>by
  rw[findM_cons];by_cases f:(lookM put cl 0 0).1=true
  ·rw[K3 f];refine FindP.skip (λh=>?_) (.inr λx h=>?_) (findM_spec put L (k0+1) a d oM)
   ·rw[(look_clash.1 h).1] at f;cases f
   ·rw[look_unit.1 h] at f;cases f
  rw[q0 f];have m:(lookM put cl 0 0).1=false:=(by grind);by_cases g:(lookM put cl 0 0).2.1=0
  ·rw[K3 g];exact .inl ⟨0,by simp,by simp,by simpa using look_clash.2 ⟨m,g⟩⟩
  rw[q0 g];have b: ¬qL put cl:=λh=>g (look_clash.1 h).2;by_cases k:(lookM put cl 0 0).2.1=1
  ·rw[K3 k];have q:unitC put cl (lookM put cl 0 0).2.2:=look_unit.2 (by grind);by_cases hu:a<0
   ·rw[K3 hu];rcases findM_spec put L (k0+1) k0 (lookM put cl 0 0).2.2 oM with⟨i,hi,n,o⟩|⟨n,o,r⟩
    ·exact .inl ⟨i+1,by grind,oM,by grind⟩
    ·refine .inr ⟨n,λc l=>(gj.1 l).elim (λe=>e▸b) (o c),.inr ⟨hu,.inl ⟨0,by simp,?_,?_,λj s=>oM⟩⟩⟩
     ·grind
     grind
   ·rw[q0 hu];exact FindP.skip b (.inl oM) (findM_spec put L (k0+1) a d oM)
  ·rw[q0 k];refine FindP.skip b (.inr λx h=>k ?_) (findM_spec put L (k0+1) a d oM);rw[look_unit.1 h]
theorem find_cases (put:List Int) (L:List (List Int)):(∃(i:Nat) (u x:Int),i<L.length/\findM put L 0 (-1) 0=((i:Int),u,x)/\qL put (L.getD i []))\/
  ((∀cl,cl∈L->¬qL put cl)/\((∃(i:Nat) (x:Int),i<L.length/\findM put L 0 (-1) 0=(-1,(i:Int),x)/\unitC put (L.getD i []) x/\∀j,j<i->∀x,¬unitC put (L.getD j []) x)\/
   (findM put L 0 (-1) 0=(-1,-1,0)/\∀cl,cl∈L->∀x,¬unitC put cl x))):=by
 have h:=findM_spec put L 0 (-1) 0 oM;generalize findM put L 0 (-1) 0=z at h;obtain⟨k,u,x⟩:=z;rcases h with⟨i,hi,a,b⟩|⟨a,b,c⟩
 ·grind
 grind
end Go.M
namespace Go.M
theorem mem_take {put:List Int} (a:Distinct put) {l:Int} {k:Nat}:l∈put.take k↔l∈put/\placeOf put l.natAbs<=k:=by
 constructor
 ·intro h;refine⟨gS h,?_⟩;obtain⟨i,hi,rfl⟩:=gx h;simp only[gi] at hi;have:=placeOf_at a (i:=i) oM
  grind
 grind [mem_iff_place,placeOf]
theorem marksOk.zero {many:Nat} {put:List Int} (h:marksOk many put):(0:Int)∉put:=λe=>(h.2 0 e).1 rfl
theorem marksOk.neg {many:Nat} {put:List Int} (h:marksOk many put) {l:Int} (a:l∈put): -l∉put:=λb=>by
 have:=distinct_eq h.1 a b oM;have e:l=0:=oM
 subst e;exact h.zero a
theorem marksOk.take {many:Nat} {put:List Int} (h:marksOk many put) (n:Nat):marksOk many (put.take n):=⟨distinct_take h.1 n,λx a=>h.2 x (gS a)⟩
theorem marksOk.snoc {many:Nat} {put:List Int} (h:marksOk many put) {l:Int} (c:l≠0) (d:l.natAbs<=many) (b:placeOf put l.natAbs=0):marksOk many (put++[l]):=
 ⟨distinct_snoc h.1 b,λx a=>by
  rcases gr.1 a with a|a
  ·exact h.2 x a
  grind⟩
theorem marksOk.len {many:Nat} {put:List Int} (h:marksOk many put):put.length<=many:=by
 have:=h.1.length_le_of_subset (l₂:=List.range' 1 many) λx a=>by
  obtain⟨y,b,rfl⟩:=gy.1 a;have:=h.2 y b
  grind
 grind
theorem impl_iff {many:Nat} {put cl:List Int} (h:marksOk many put) {k:Nat}:xI0 put k cl=true↔put.getD k 0∈cl/\∀l,l∈cl->l≠put.getD k 0-> -l∈put.take k:=by
 constructor
 ·intro hi;obtain⟨e,f⟩:=impl_of hi;refine⟨e,λl m d=>?_⟩;obtain⟨a,b,c⟩:=f l m d;exact(mem_take h.1).2 ⟨false_of a b,by grind⟩
 ·rintro⟨e,f⟩;unfold xI0;simp only[gp,gd,gV,pW];refine⟨e,λi hi=>?_⟩;rw[gN] at hi;have hm:cl.getD i 0∈cl:=getD_meS hi;generalize cl.getD i 0=l at hm;simp only[badM,gp,Gu,gd,not_and,not_or];intro d;have g:=(mem_take h.1).1 (f l hm d);have j:=placeOf_ne_zero g.1;rw[G4] at g j;refine⟨j,λn=>h.neg n g.1,oM⟩
theorem clauseOk_of {m:Int} {xs:List Int} (hs:Srt xs) (h:∀l,l∈xs->l≠0/\(l.natAbs:Int)<=m):yR m xs=true:=by
 unfold yR;refine allI_iff.2 λk a=>?_;have c:=h _ (getD_meS a);rw[gp];refine⟨by simp only[litOk,gd];omega,?_⟩;simp only[Gu,beq_iff_eq,gd];by_cases b:k=0
 ·omega
 ·refine .inr ?_;have:=GH.1 hs (k-1) k oM a oM
  grind
theorem cnfOk_clause {c:Cnf} (h:cnfOk c=true) {x:List Int} (a:x∈c.list):yR c.many x=true:=by
 unfold cnfOk at h;rw[gp] at h;obtain⟨i,hi,rfl⟩:=gx a
 grind [allI_iff]
theorem atM_mem {c:Cnf} {s:Sat} {k:Nat} (a:k<c.list.length+s.learned.length):atM c s k∈c.list++s.learned:=by
 grind [atM]
theorem satOk.cls {many:Nat} {c:Cnf} {s:Sat} (h:satOk many c s) {x:List Int} (a:x∈c.list++s.learned):yR c.many x=true:=
 (gr.1 a).elim (cnfOk_clause h.cnf) (h.lrn x)
theorem satOk.atOk {many:Nat} {c:Cnf} {s:Sat} (h:satOk many c s) {k:Nat} (a:k<c.list.length+s.learned.length):yR c.many (atM c s k)=true:=h.cls (atM_mem a)
theorem getD_take {put:List Int} {k n:Nat} (h:k<n):(put.take n).getD k 0=put.getD k 0:=by
 grind
theorem why_ext {many:Nat} {c:Cnf} {s a:Sat} {k:Nat} (hm:marksOk many s.put) (f:marksOk many a.put) (b:a.put.take (k+1)=s.put.take (k+1)) (hw:a.why.getD k 0=s.why.getD k 0) (e:∃t,a.learned=s.learned++t) (h:qg0 c s k):qg0 c a k:=by
 unfold qg0 at h⊢;rw[hw];rcases h with h|⟨i,j,m⟩
 ·omega
 obtain⟨t,o⟩:=e;have d:atM c a (s.why.getD k 0).toNat=atM c s (s.why.getD k 0).toNat:=by
  grind [atM]
 have n:a.put.getD k 0=s.put.getD k 0:=by rw[<-getD_take (show k<k+1 by omega),b,getD_take oM]
 have g:a.put.take k=s.put.take k:=by
  have:=congrArg (λl=>l.take k) b;simpa[pF] using this
 grind [impl_iff]
theorem free_spec {many:Nat} {put:List Int} (h:marksOk many put) (k:put.length≠many):1<=Z0 many put/\Z0 many put<=many/\placeOf put (Z0 many put)=0/\∀v,1<=v->v<Z0 many put->placeOf put v≠0:=by
 have hlen:=h.len;unfold Z0;cases c:(List.range many).find? λi=>decide (placeOf put (i+1)=0) with
 |none=>
  rw[pS] at c;have:(List.range' 1 many).length<=(put.map Int.natAbs).length:=by
   refine(List.nodup_range' (step:=1)).length_le_of_subset λv g=>?_;rw[P4] at g;have b:=c (v-1) (gN.2 oM);rw[show v-1+1=v by omega] at b;have d:=placeOf_pos (put:=put) (v:=v) (by simpa using b);exact gy.2 ⟨_,getD_meS (show placeOf put v-1<put.length by
    have:placeOf put v≠0:=(by simpa using b);omega),d.2⟩
  grind
 |some i=>
  rw[Py] at c;obtain⟨l,j,f,a,e⟩:=c;simp only[pG] at a;subst a;simp only[G3] at f;refine⟨by simp,by simp;omega,by grind,λv b d=>?_⟩;simp only[GA] at d;have:=e (v-1) oM;simp only[pG,show v-1+1=v by omega] at this;simpa using this
theorem Z5 {put cl:List Int} (h:qL put cl):Fls put cl:=λl a=>false_of (h l a).2 (h l a).1
theorem unit_mem {put cl:List Int} {x:Int} (h:unitC put cl x):x∈cl/\placeOf put x.natAbs=0:=by
 have:x∈cl.filter λl=>decide (placeOf put l.natAbs=0):=by rw[h.2];grind
 grind
theorem unit_rest {put cl:List Int} {x l:Int} (h:unitC put cl x) (b:l∈cl) (a:l≠x): -l∈put:=by
 refine false_of (λc=>a ?_) (h.1 l b);have:l∈cl.filter λl=>decide (placeOf put l.natAbs=0):=by grind
 rw[h.2,gz] at this;exact this
theorem maxL_le {xs ys:List Nat} (h:∀x,x∈xs->x∈ys):maxL xs<=maxL ys:=by
 rcases j8 (xs:=xs) with e|e
 ·omega
 ·exact kQ (h _ e)
theorem xG0 {xs ys:List Nat} (h:∀x,x∈xs↔x∈ys):maxL xs=maxL ys:=z0f (maxL_le λx=>(h x).1) (maxL_le λx=>(h x).2)
theorem maxL_snoc (xs:List Nat) (f:List Nat) (x:Nat) (a:f=[x]):maxL (xs++f)=max (maxL xs) x:=by grind [maxL]
theorem lastPl_le {put cl:List Int}:lastPl put cl<=put.length:=by
 grind [lastPl,j8,placeOf_le]
theorem Ud {many:Nat} {c:Cnf} {s:Sat} (h:satOk many c s) (a:c.many=many) {k:Nat} (d:k<c.list.length+s.learned.length) (b:qL s.put (atM c s k)):
  Fls s.put (learnM many c s s.put.length (atM c s k))/\Srt (learnM many c s s.put.length (atM c s k))/\kL s.put (ym s.why) (learnM many c s s.put.length (atM c s k))=kL s.put (ym s.why) (atM c s k)/\(QZ s.put (ym s.why) (learnM many c s s.put.length (atM c s k))).length<=1:=
 learnM_ok h a (Z5 b) (clauseOk_srt (h.atOk d)) lastPl_le
theorem push_ok {many:Nat} {c:Cnf} {s:Sat} (h:satOk many c s) {l y:Int} (n:l≠0) (o:l.natAbs<=many) (p:placeOf s.put l.natAbs=0)
  (m:y= -1\/(0<=y/\y<c.list.length+s.learned.length/\l∈atM c s y.toNat/\∀q,q∈atM c s y.toNat->q≠l-> -q∈s.put)):satOk many c {s with put:=s.put++[l],why:=s.why++[y]}:=by
 have hm:=h.mks.snoc n o p;have hlen:=h.len;refine⟨h.cnf,h.few,h.c0,h.c3,by grind,h.lrn,hm,λk t=>?_⟩;simp only[gg,gX] at t;by_cases i:k<s.why.length
 ·refine why_ext h.mks hm ?_ ?_ ⟨[],by simp⟩ (h.why k i)
  ·grind
  grind
 ·have e:k=s.why.length:=oM;have r:(s.why++[y]).getD k 0=y:=(by grind);unfold qg0;rw[r];rcases m with m|⟨a,b,d,f⟩
  ·omega
  ·refine .inr ⟨a,b,?_⟩;have g:(s.put++[l]).getD k 0=l:=(by grind);rw[impl_iff hm];simp only[g];refine⟨d,λq u j=>?_⟩;rw[e,<-hlen,pj oM,gF];exact f q u j
theorem clash_ok {many:Nat} {c:Cnf} {s:Sat} (h:satOk many c s) (b:c.many=many) {k:Nat} (g:k<c.list.length+s.learned.length) (e:qL s.put (atM c s k)):satOk many c (qx many c s (atM c s k)):=by
 unfold qx;split
 ·exact⟨h.cnf,h.few,by simp,by simp,h.len,h.lrn,h.mks,h.why⟩
 split
 ·exact⟨h.cnf,h.few,by simp,by simp,h.len,h.lrn,h.mks,h.why⟩
 ·rename_i p;obtain⟨m,o,q,r⟩:=Ud h b g e;generalize learnM many c s s.put.length (atM c s k)=cl at*;generalize backN (ym s.why) (Zr s.put (ym s.why) cl) s.put.length=n;have d:=h.few;refine⟨h.cnf,by simp;omega,h.c0,h.c3,by simp[h.len],λx a=>?_,h.mks.take n,λj f=>?_⟩
  ·rcases gr.1 a with a|a
   ·exact h.lrn x a
   ·rw[gz] at a;subst a;refine clauseOk_of o λl i=>?_;have:=h.mks.2 _ (m l i);omega
  ·simp only[gi] at f;refine why_ext h.mks (h.mks.take n) ?_ ?_ ⟨[cl],rfl⟩ (h.why j oM)
   ·grind
   grind
theorem go_ok {many:Nat} {c:Cnf} {s:Sat} (h:satOk many c s) (f:c.many=many):satOk many c (goM many c s):=by
 unfold goM;rcases find_cases s.put (c.list++s.learned) with⟨i,u,x,hi,e,m⟩|⟨p,⟨i,x,hi,e,hu,-⟩|⟨e,-⟩⟩
 ·rw[e];simp only[PS,if_true,gw];rw[gg] at hi;exact clash_ok h f hi m
 ·rw[e];rw[gg] at hi;simp only[PS,if_true,show¬(0:Int)<= -1 by omega,if_false];obtain⟨l,n⟩:=unit_mem hu;have j:=h.lit f hi l;refine push_ok h j.1 j.2 n (.inr ⟨oM,oM,?_,λq k g=>?_⟩)
  ·rw[gw];exact l
  ·rw[gw] at k;exact unit_rest hu k g
 ·rw[e];simp only[show¬(0:Int)<= -1 by omega,if_false];split
  ·exact⟨h.cnf,h.few,by simp,by simp,h.len,h.lrn,h.mks,h.why⟩
  ·rename_i o;obtain⟨a,b,d,-⟩:=free_spec h.mks o
   grind [push_ok]
theorem step_ok {many:Nat} {c:Cnf} {s:Sat} (h:satOk many c s) (a:c.many=many):satOk many c (stepM many c s):=by
 grind [stepM,go_ok]
theorem run_ok {many:Nat} {c:Cnf} (a:c.many=many):∀{n:Nat} {s:Sat},satOk many c s->satOk many c (runM many c n s)
 |0,_,h=>h
 |n+1,_,h=>run_ok a (n:=n) (step_ok h a)
theorem empty_ok {many:Nat} {c:Cnf} (h:cnfOk c=true):satOk many c emptyS:=⟨h,by simp[emptyS],by simp[emptyS],by simp[emptyS],rfl,by simp[emptyS],⟨pC,by simp[emptyS]⟩,by simp[emptyS]⟩
theorem run_succ (many:Nat) (c:Cnf):∀(n:Nat) (s:Sat),runM many c (n+1) s=stepM many c (runM many c n s)
 |0,_=>rfl
 |n+1,s=>run_succ many c n (stepM many c s)
theorem z90 {many:Nat} {c:Cnf} {s:Sat} (h:s.code≠0):stepM many c s=s:=q0 h
theorem run_stop {many:Nat} {c:Cnf}:∀{n:Nat} {s:Sat},s.code≠0->runM many c n s=s
 |0,_,_=>rfl
 |n+1,s,h=>by rw[runM,z90 h,run_stop (n:=n) h]
theorem run_add (many:Nat) (c:Cnf):∀(a b:Nat) (s:Sat),runM many c (a+b) s=runM many c b (runM many c a s)
 |0,b,s=>by rw[Gb];rfl
 |a+1,b,s=>by rw[show a+1+b=(a+b)+1 by omega,runM,run_add many c a b];rfl
end Go.M
namespace Go.M
theorem take_snoc' {α:Type} {xs:List α} {d:α} {i:Nat} (h:i<xs.length):xs.take (i+1)=xs.take i++[xs.getD i d]:=by
 simp_all
def sgnV (put:List Int) (v:Nat):Int:=if(v:Int)∈put then 1 else if-(v:Int)∈put then-1 else 0
def signs (many:Nat) (put:List Int):List Int:=(List.range (many+1)).map (sgnV put)
theorem signs_len (many:Nat) (put:List Int):(signs many put).length=many+1:=by simp[signs]
theorem signs_get {many:Nat} {put:List Int} {v:Nat} (h:v<=many):(signs many put).getD v 0=sgnV put v:=by
 grind [signs]
theorem qx0 (many:Nat):signs many []=List.replicate (many+1) 0:=by
 refine Gd (by simp[signs]) λi a b=>?_;simp[signs,sgnV]
theorem mem_place {put:List Int} {l:Int} (h:l∈put\/ -l∈put):placeOf put l.natAbs≠0:=by
 rcases h with h|h
 ·exact placeOf_ne_zero h
 ·have:=placeOf_ne_zero h;grind
theorem place_mem {put:List Int} {l:Int} (h:placeOf put l.natAbs≠0):l∈put\/ -l∈put:=by
 grind [false_of]
theorem signs_snoc {many:Nat} {put:List Int} {l:Int} (a:l≠0) (h:placeOf put l.natAbs=0):signs many (put++[l])=(signs many put).set l.natAbs (if 0<l then 1 else-1):=by
 refine Gd (by simp[signs]) λi b c=>?_;rw[pB];simp only[signs,Pz,pG,sgnV,gr,gz]
 grind [mem_place]
def Z50 (put:List Int) (m:Int):Int:=if m∈put then 1 else if placeOf put m.natAbs=0 then 0 else-1
theorem sgn_pos {many:Nat} {put:List Int} (hm:marksOk many put) {m:Int} (h:0<m):sgnV put m.natAbs=Z50 put m:=by
 unfold sgnV Z50;rw[show((m.natAbs:Nat):Int)=m from by omega];by_cases a:m∈put
 ·grind
 rw[q0 a,q0 a];by_cases b: -m∈put
 ·simp_all[mem_place]
 grind [place_mem]
theorem sgn_neg {many:Nat} {put:List Int} (hm:marksOk many put) {m:Int} (h:m<0): -(sgnV put m.natAbs)=Z50 put m:=by
 unfold sgnV Z50;rw[show((m.natAbs:Nat):Int)= -m from by omega,Int.neg_neg];by_cases a: -m∈put
 ·rw[K3 a,q0 (λb=>hm.neg b a),q0 (mem_place (.inr a))]
 grind [place_mem]
theorem sgnV_range (put:List Int) (m:Nat): -1<=sgnV put m/\sgnV put m<=1:=by
 grind [sgnV]
end Go.M
namespace Go.M
def Y10 (put:List Int) (ds:List Bool) (v:Nat):Nat:=if placeOf put v=0 then 0 else lvl ds (placeOf put v-1)
def levs (many:Nat) (put:List Int) (ds:List Bool):List Int:=(List.range (many+1)).map λv=>(Y10 put ds v:Int)
theorem Uc (many:Nat) (put:List Int) (ds:List Bool):(levs many put ds).length=many+1:=by simp[levs]
theorem levs_get {many:Nat} {put:List Int} {ds:List Bool} {v:Nat} (h:v<=many):(levs many put ds).getD v 0=Y10 put ds v:=by
 grind [levs]
theorem kq0 (many:Nat) (ds:List Bool):levs many [] ds=List.replicate (many+1) 0:=by
 refine Gd (by simp[levs]) λi a b=>?_;simp[levs,Y10,JU]
theorem levs_snoc {many:Nat} {put:List Int} {ds:List Bool} {l:Int} (h:placeOf put l.natAbs=0):levs many (put++[l]) ds=(levs many put ds).set l.natAbs (lvl ds put.length:Nat):=by
 refine Gd (by simp[levs]) λi a c=>?_;simp only[levs,V0,G3] at a;rw[pB];simp only[levs,Pz,pG,Y10];have b:∀x,x∈put->x.natAbs≠l.natAbs:=by grind [placeOf_ne_zero]
 grind [placeOf_snoc]
theorem levV_lit {put:List Int} {ds:List Bool} {l:Int} (h:placeOf put l.natAbs≠0):Y10 put ds l.natAbs=lvM put ds l:=by unfold Y10 lvM;grind
theorem top_step {put:List Int} {ds:List Bool} {cl:List Int} {i:Nat} (hi:i<cl.length) (k:Nat) (c:lvM put ds (cl.getD i 0)=k):
  kL put ds (cl.take (i+1))=(if kL put ds (cl.take i)<k then k else kL put ds (cl.take i))/\
  (QZ put ds (cl.take (i+1))).length=(if kL put ds (cl.take i)<k then 1 else if k=kL put ds (cl.take i) then(QZ put ds (cl.take i)).length+1 else(QZ put ds (cl.take i)).length):=by
 have e:=take_snoc' (d:=0) hi;have a:kL put ds (cl.take (i+1))=(if kL put ds (cl.take i)<k then k else kL put ds (cl.take i)):=by
  unfold kL;rw[e,gE,maxL_snoc _ _ k (by grind)]
  grind
 refine⟨a,?_⟩;have hle:∀q,q∈cl.take i->lvM put ds q<=kL put ds (cl.take i):=λq f=>kQ (Gh f);have g:lvM put ds (cl.getD i 0)=k:=c;generalize cl.getD i 0=y at*;generalize b:kL put ds (cl.take i)=T at*;unfold QZ;rw[a,b,e,PT,P9,List.filter_nil,g,gg]
 grind [List.filter_eq_nil_iff]
structure ArrP (many:Nat) (L arr:List Int):Prop where
 len:arr.length=many+1
 at_:∀v,v<=many->(arr.getD v 0=0/\∀k,k∈L->k.natAbs≠v)\/(arr.getD v 0∈L/\(arr.getD v 0).natAbs=v/\arr.getD v 0≠0)
theorem arr_nil (many:Nat):ArrP many [] (List.replicate (many+1) 0):=⟨by simp,λv a=> .inl ⟨by grind,by simp⟩⟩
theorem getD_set {xs:List Int} {i j:Nat} {x:Int}:(xs.set i x).getD j 0=if i=j/\j<xs.length then x else xs.getD j 0:=by
 grind
theorem arr_snoc {many:Nat} {L arr:List Int} {k:Int} (h:ArrP many L arr) (d:k≠0) (g:k.natAbs<=many):ArrP many (L++[k]) (arr.set k.natAbs k):=by
 refine⟨by simp[h.len],λv c=>?_⟩;rw[getD_set,h.len];by_cases he:k.natAbs=v
 ·grind
 ·rw[q0 (λe=>he e.1)];rcases h.at_ v c with⟨a,b⟩|⟨a,b,f⟩
  ·grind
  grind
def zX0 (arr:List Int) (m n:Nat):List Int:=(List.range n).filterMap λi=>if i+1=m then none else if arr.getD (i+1) 0=0 then none else some (arr.getD (i+1) 0)
theorem joinA_succ (arr:List Int) (m n:Nat):zX0 arr m (n+1)=zX0 arr m n++(if n+1=m then[] else if arr.getD (n+1) 0=0 then[] else[arr.getD (n+1) 0]):=by
 unfold zX0
 grind [List.range_succ]
theorem joinA_eq {many m:Nat} {a b arr:List Int} (h:ArrP many (a++b) arr) (o:∀k,k∈a++b->k.natAbs≠m-> -k∉a++b):zX0 arr m many=XU many a b m:=by
 unfold zX0 XU;refine filterMap_congr' λi hi=>?_;rw[gN] at hi;by_cases hm:i+1=m
 ·grind
 rw[q0 hm,q0 hm];rcases h.at_ (i+1) oM with⟨d,c⟩|⟨d,c,n⟩
 ·rw[K3 d,q0 ?_,q0 ?_]
  ·rintro(e|e)
   ·exact c _ (Gf _ e) oM
   ·exact c _ (GL _ e) oM
  ·rintro(e|e)
   ·exact c _ (Gf _ e) oM
   ·exact c _ (GL _ e) oM
 grind
where
 filterMap_congr' {α β:Type} {f g:α->Option β}:∀{l:List α},(∀x,x∈l->f x=g x)->l.filterMap f=l.filterMap g
  |[],_=>rfl
  |x::l,h=>by
   rw[List.filterMap_cons,List.filterMap_cons,h x gq,filterMap_congr' λy j=>h y (gu _ j)]
theorem backN_eq {ds:List Bool} {L:Int}:∀{len n:Nat},n<=len->(∀i,i<n->(lvl ds i:Int)<=L)->(n=len\/L<(lvl ds n:Int))->backN ds L len=n
 |0,n,b,a,c=>by simp[backN];omega
 |len+1,n,b,a,c=>by
  unfold backN;by_cases e:n=len+1
  ·grind
  ·have d:L<(lvl ds n:Int):=oM;have hm:lvl ds n<=lvl ds len:=lvl_mono oM;rw[K3 oM];exact backN_eq oM a (.inr d)
theorem lastPl_eq {many:Nat} {put cl:List Int} (hm:marksOk many put) {i:Nat} (hi:i<put.length) (a:∃q,q∈cl/\q.natAbs=(put.getD i 0).natAbs) (d:∀j,i<j->j<put.length->∀q,q∈cl->q.natAbs≠(put.getD j 0).natAbs):lastPl put cl=i+1:=by
 obtain⟨q,c,e⟩:=a;have b:placeOf put q.natAbs=i+1:=by rw[e];exact placeOf_at hm.1 hi
 refine z0f ?_ (by rw[<-b];exact kQ (gy.2 ⟨q,c,rfl⟩))
 grind [lastPl,j8,placeOf_pos]
theorem lastPl_none {put cl:List Int} (h:∀j,j<put.length->∀q,q∈cl->q.natAbs≠(put.getD j 0).natAbs):lastPl put cl=0:=by
 unfold lastPl;rcases j8 (xs:=cl.map λk=>placeOf put k.natAbs) with a|a
 ·exact a
 grind [placeOf_pos]
theorem lvl_succ {ds:List Bool} {i:Nat} (h:i<ds.length):lvl ds i=(ds.take i).count true+(ds.getD i false).toNat:=by
 grind [lvl,List.take_add_one]
theorem Y7 {ds:List Bool} {i:Nat} (h:i<ds.length):(ds.take (i+1)).count true=(ds.take i).count true+(ds.getD i false).toNat:=lvl_succ h
end Go.M
end
section
namespace Go.M
def litT (v:Nat->Bool) (l:Int):Bool:=if 0<l then v l.natAbs else !v l.natAbs
def clT (v:Nat->Bool) (cl:List Int):Prop:= ∃l,l∈cl/\litT v l=true
def jm0 (v:Nat->Bool) (c:Cnf):Prop:=∀cl,cl∈c.list->clT v cl
def Flw (c:Cnf) (cl:List Int):Prop:=∀v,jm0 v c->clT v cl
theorem litT_neg {v:Nat->Bool} {l:Int} (h:l≠0):litT v (-l)= !litT v l:=by
 grind [litT]
structure FairS (many:Nat) (c:Cnf) (s:Sat):Prop where
 ok:satOk many c s
 flw:∀cl,cl∈s.learned->Flw c cl
 dec:∀k,k<s.put.length->s.why.getD k 0= -1->s.put.getD k 0<0/\∀u,1<=u->u<(s.put.getD k 0).natAbs->∃l,l∈s.put.take k/\l.natAbs=u
 yes:s.code=1->s.put.length=many/\∀cl,cl∈c.list->¬qL s.put cl
 no:s.code=2->∀v,¬jm0 v c
variable {many:Nat} {c:Cnf} {s:Sat} {v:Nat->Bool}
theorem FairS.flwAt (h:FairS many c s) {k:Nat} (a:k<c.list.length+s.learned.length):Flw c (atM c s k):=
 (gr.1 (atM_mem a)).elim (λhm v b=>b _ hm) (h.flw _)
theorem FairS.trail (h:FairS many c s) (r:jm0 v c) (j:Nat):j<s.put.length->(∀i,i<=j->s.why.getD i 0= -1->litT v (s.put.getD i 0)=true)->litT v (s.put.getD j 0)=true:=by
 induction j using Nat.strongRecOn with
 |ind j t=>
  intro y o;have hlen:=h.ok.len;rcases h.ok.why j oM with e|⟨a,b,e⟩
  ·grind
  obtain⟨l,p,A⟩:=h.flwAt (k:=(s.why.getD j 0).toNat) oM v r;obtain⟨x,g⟩:=(impl_iff h.ok.mks).1 e;by_cases f:l=s.put.getD j 0
  ·grind
  ·have m:=g l p f;obtain⟨i,hi,d⟩:=gx m;simp only[gi] at hi;rw[P5] at d;have n:=t i oM oM λq z=>o q oM;rw[X0,gl oM,GA,d] at n;have w:l≠0:=λu=>h.ok.mks.zero (by grind)
   grind [litT_neg]
theorem joinM_flw {many:Nat} {c:Cnf} {s:Sat} (h:FairS many c s) (b:c.many=many) {cl:List Int} (hF:Fls s.put cl) (hs:Srt cl) (a:2<=(QZ s.put (ym s.why) cl).length) (p:Flw c cl):Flw c (qH many c s cl):=by
 intro v n;have m:=topOf_tops (put:=s.put) (ds:=ym s.why) (srt_nodup hs);have f:cl≠[]:=λe=>by subst e;simp[QZ] at a
 have w:=lastPl_pos hF f;obtain⟨k,j⟩:∃k,lastPl s.put cl=k+1:=⟨lastPl s.put cl-1,oM⟩;obtain⟨hm,-⟩:=learn_join h.ok b hF m a j;obtain⟨o,a2,a3,a4,-⟩:=last_reason h.ok hF m a j;have e:qH many c s cl=XU many cl (atM c s (s.why.getD k 0).toNat) (s.put.getD k 0).natAbs:=by unfold qH;grind
 rw[e];obtain⟨l,q,g⟩:=p v n;obtain⟨r,t,i⟩:=h.flwAt (k:=(s.why.getD k 0).toNat) oM v n;have u:s.put.getD k 0≠0:=(h.ok.mks.2 _ (getD_meS o)).1;by_cases d:l= -(s.put.getD k 0)
 ·refine⟨r,(hm r).2 (.inr ⟨t,λe=>?_⟩),i⟩
  grind [litT_neg]
 ·exact⟨l,(hm l).2 (.inl ⟨q,d⟩),g⟩
theorem learnM_flw (h:FairS many c s) (a:c.many=many):∀{f:Nat} {cl:List Int},Fls s.put cl->Srt cl->Flw c cl->Flw c (learnM many c s f cl)
 |0,cl,_,_,b=>b
 |f+1,cl,hF,hs,b=>by
  unfold learnM;by_cases e:(QZ s.put (ym s.why) cl).length<=1
  ·grind
  ·rw[q0 e];obtain⟨d,a2,a3,a4⟩:=learnS_ok h.ok a hF hs oM;exact learnM_flw h a d a2 (joinM_flw h a hF hs oM b)
theorem lvl_zero {ds:List Bool} {i j:Nat} (h:lvl ds i=0) (b:j<=i) (a:j<ds.length):ds.getD j false=false:=by
 unfold lvl at h;rw[List.count_eq_zero] at h;cases e:ds.getD j false with
 |false=>rfl
 |true=>
  refine absurd ?_ h;rw[X0,gl a,GA] at e;have:(ds.take (i+1))[j]'(by simp;omega)=true:=by grind
  grind
theorem clash_none (h:FairS many c s) {k:Nat} (p:k<c.list.length+s.learned.length) (o:qL s.put (atM c s k)) (t:kL s.put (ym s.why) (atM c s k)=0): ¬jm0 v c:=by
 intro m;obtain⟨l,g,d⟩:=h.flwAt p v m;have f:=Z5 o l g;have q:=placeOf_ne_zero f;have a:=(mem_iff_place h.ok.mks.1).1 f;have hle:=placeOf_le s.put (-l).natAbs;have e:lvM s.put (ym s.why) l<=kL s.put (ym s.why) (atM c s k):=kQ (Gh g);unfold lvM at e;have hlen:=h.ok.len;rw[G4] at q a hle;have b:=h.trail m (placeOf s.put l.natAbs-1) oM λi hi hw=>by
  have:=lvl_zero (ds:=ym s.why) (i:=placeOf s.put l.natAbs-1) (j:=i) oM hi (by rw[jI];omega);rw[JB oM,hw] at this;cases this
 rw[a.2] at b;have n:l≠0:=λr=>h.ok.mks.zero (by grind);rw[litT_neg n,d] at b;cases b
theorem Ky {α:Type} {a:List α} {x d:α} {k:Nat} (h:k<a.length):(a++[x]).getD k d=a.getD k d:=getD_app_l h
theorem push_fair (h:FairS many c s) (f:s.code=0) {l y:Int} (b:satOk many c {s with put:=s.put++[l],why:=s.why++[y]}) (g:y= -1->l<0/\∀u,1<=u->u<l.natAbs->∃q,q∈s.put/\q.natAbs=u):FairS many c {s with put:=s.put++[l],why:=s.why++[y]}:=by
 have hlen:=h.ok.len;refine⟨b,h.flw,λk d hw=>?_,λe=>?_,λe=>?_⟩
 ·simp only[gg,gX] at d;by_cases a:k<s.put.length
  ·simp only[Ky a,pj (Nat.le_of_lt a)] at hw⊢;rw[Ky oM] at hw;exact h.dec k a hw
  grind
 ·grind
 grind
theorem clash_fair (h:FairS many c s) (m:s.code=0) (b:c.many=many) {k:Nat} (d:k<c.list.length+s.learned.length) (i:qL s.put (atM c s k)):FairS many c (qx many c s (atM c s k)):=by
 have a:=clash_ok h.ok b d i;have hlen:=h.ok.len;unfold qx at a⊢;split
 ·rename_i f;rw[K3 f] at a;exact⟨a,h.flw,h.dec,λe=>by simp at e,λ_ v=>clash_none h d i f⟩
 rename_i f;rw[q0 f] at a;split
 ·rename_i hm;rw[K3 hm] at a;exact⟨a,h.flw,h.dec,λe=>by simp at e,λe=>by simp at e⟩
 ·rename_i hm;rw[q0 hm] at a;have o:Flw c (learnM many c s s.put.length (atM c s k)):=learnM_flw h b (Z5 i) (clauseOk_srt (h.ok.atOk d)) (h.flwAt d);generalize learnM many c s s.put.length (atM c s k)=cl at*;generalize backN (ym s.why) (Zr s.put (ym s.why) cl) s.put.length=n at*;refine⟨a,λx g=>?_,λj l hw=>?_,λe=>?_,λe=>?_⟩
  ·rcases gr.1 g with g|g
   ·exact h.flw x g
   grind
  ·simp only[gi] at l;simp only[getD_take (show j<n by omega),pF,GB (show j<=n by omega)] at hw⊢;exact h.dec j oM hw
  ·grind
  grind
theorem go_fair (h:FairS many c s) (m:s.code=0) (j:c.many=many):FairS many c (goM many c s):=by
 have g:=go_ok h.ok j;unfold goM at g⊢;rcases find_cases s.put (c.list++s.learned) with⟨i,u,x,hi,e,n⟩|⟨o,⟨i,x,hi,e,hu,-⟩|⟨e,-⟩⟩
 ·rw[e] at g⊢;simp only[PS,if_true,gw];rw[gg] at hi;exact clash_fair h m j hi n
 ·grind [push_fair]
 ·rw[e] at g⊢;simp only[show¬(0:Int)<= -1 by omega,if_false] at g⊢;split
  ·rename_i k;rw[K3 k] at g;exact⟨g,h.flw,h.dec,λ_=>⟨k,λcl l=>o cl (Gf _ l)⟩,λe=>by simp at e⟩
  ·rename_i k;rw[q0 k] at g;obtain⟨a,b,d,f⟩:=free_spec h.ok.mks k
   grind [push_fair,placeOf]
theorem step_fair (h:FairS many c s) (a:c.many=many):FairS many c (stepM many c s):=by
 grind [stepM,go_fair]
theorem run_fair (a:c.many=many):∀{n:Nat} {s:Sat},FairS many c s->FairS many c (runM many c n s)
 |0,_,h=>h
 |n+1,_,h=>run_fair a (n:=n) (step_fair h a)
theorem W5 (h:cnfOk c=true):FairS many c emptyS:=⟨empty_ok h,by simp[emptyS],by simp[emptyS],by simp[emptyS],by simp[emptyS]⟩
def LexLe (many:Nat) (a b:Nat->Bool):Prop:=(∀u,1<=u->u<=many->a u=b u)\/ ∃d,1<=d/\d<=many/\a d=false/\b d=true/\∀u,1<=u->u<d->a u=b u
def wayM (put:List Int) (u:Nat):Bool:=decide ((u:Int)∈put)
theorem wayM_true {put:List Int} (h:marksOk many put) {l:Int} (a:l∈put):litT (wayM put) l=true:=by
 unfold litT wayM;have c:=(h.2 l a).1;by_cases b:0<l
 ·grind
 ·rw[q0 b,show((l.natAbs:Nat):Int)= -l by omega];have:=h.neg a
  grind
theorem litT_eq {a b:Nat->Bool} {l:Int} (c:litT a l=true) (d:litT b l=true):a l.natAbs=b l.natAbs:=by
 grind [litT]
theorem full {put:List Int} (h:marksOk many put) (b:put.length=many) {u:Nat} (c:1<=u) (d:u<=many):placeOf put u≠0:=by
 intro e;have:(u::put.map Int.natAbs).length<=(List.range' 1 many).length:=by
  refine pd ?_ λx a=>?_
  ·rw[G6];refine⟨λhm=>?_,h.1⟩
   grind [placeOf_ne_zero]
  ·rw[P4];rcases gj.1 a with rfl|a
   ·omega
   ·obtain⟨l,b,rfl⟩:=gy.1 a;have:=h.2 l b;omega
 grind
theorem FairS.full (h:FairS many c s) (d:s.code=1) {u:Nat} (a:1<=u) (b:u<=many):∃l,l∈s.put/\l.natAbs=u:=by
 obtain⟨e,f⟩:=placeOf_pos (Go.M.full h.ok.mks (h.yes d).1 a b)
 grind
def Least (many:Nat) (c:Cnf) (a:Nat->Bool):Prop:=jm0 a c/\∀v,jm0 v c->LexLe many a v
theorem FairS.model (h:FairS many c s) (f:c.many=many) (d:s.code=1):jm0 (wayM s.put) c:=λcl a=>by
 have b:=(h.yes d).2 cl a;unfold qL at b;simp only[Classical.not_forall,Classical.not_imp] at b;obtain⟨l,e,g⟩:=b;have j:=clauseOk_lit (cnfOk_clause h.ok.cnf a) e;have i:=Go.M.full h.ok.mks (h.yes d).1 (u:=l.natAbs) oM oM;refine⟨l,e,wayM_true h.ok.mks ?_⟩
 grind
theorem FairS.least (h:FairS many c s) (e:c.many=many) (g:s.code=1):Least many c (wayM s.put):=by
 refine⟨h.model e g,λv q=>?_⟩;by_cases k:∀j,j<s.put.length->litT v (s.put.getD j 0)=true
 ·refine .inl λu a b=>?_;obtain⟨l,f,rfl⟩:=h.full g a b;refine litT_eq (wayM_true h.ok.mks f) ?_
  grind [List.getElem_of_mem]
 ·obtain⟨j,⟨d,t⟩,m⟩:∃j,(j<s.put.length/\litT v (s.put.getD j 0)=false)/\∀i,i<j->litT v (s.put.getD i 0)=true:=by
   have:∃j,j<s.put.length/\litT v (s.put.getD j 0)=false:=by
    grind
   obtain⟨j,d⟩:=this;induction j using Nat.strongRecOn with
   |ind j w=>
    grind
  have hw:s.why.getD j 0= -1:=by
   refine Gn λo=>?_;have:=h.trail q j d λi hi hw=>by
    grind
   grind
  obtain⟨d1,d2⟩:=h.dec j d hw;have hm:=getD_meS (put:=s.put) d;have n:=h.ok.mks.2 _ hm;have r:=wayM_true h.ok.mks hm;generalize s.put.getD j 0=p at*;refine .inr ⟨p.natAbs,oM,n.2,?_,?_,λu a b=>?_⟩
  ·grind [litT]
  ·grind [litT]
  ·obtain⟨l,f,rfl⟩:=d2 u a b;refine litT_eq (wayM_true h.ok.mks (gS f)) ?_
   grind [List.getElem_of_mem]
end Go.M
namespace Go.M
variable {many n:Nat} {c:Cnf} {s:Sat}
theorem step_pot (b:satOk many c s) (e:c.many=many) (a:(stepM many c s).code=0):s.learned.length*(many+1)+s.put.length<(stepM many c s).learned.length*(many+1)+(stepM many c s).put.length:=by
 have h:=b.mks.len;unfold stepM at*;split at a
 ·rename_i d;rw[K3 d];unfold goM at*;split;rename_i k u x f;simp only[f] at a;split
  ·rename_i g;rw[K3 g] at a;unfold qx at*
   grind [Nat.add_mul]
  grind
 omega
theorem run_pot (a:c.many=many) (d:cnfOk c=true):∀{n:Nat},(runM many c n emptyS).code=0->n<=(runM many c n emptyS).learned.length*(many+1)+(runM many c n emptyS).put.length
 |0,_=>oM
 |n+1,h=>by
  rw[run_succ] at h⊢;have e:(runM many c n emptyS).code=0:=Gn λb=>by rw[z90 b] at h;exact b h
  have f:=run_pot a d e;have:=step_pot (run_ok a (empty_ok d)) a h;omega
theorem run_ends (a:c.many=many) (d:cnfOk c=true) (e:many<=10) {n:Nat} (k:4000<=n):(runM many c n emptyS).code≠0:=λh=>by
 have g:=run_pot a d h;have b:satOk many c (runM many c n emptyS):=run_ok a (empty_ok d);have f:=b.few;have i:=b.mks.len;have j:(runM many c n emptyS).learned.length*(many+1)<=300*11:=PU f oM;omega
end Go.M
namespace Go.M
end Go.M
end
section
namespace Go.M
def gateC (k:Int) (g:Gt):List (List Int):=if g.x then[[g.a,g.b,-k],[-g.a,-g.b,-k],[-g.a,g.b,k],[g.a,-g.b,k]] else[[g.a,-k],[g.b,-k],[-g.a,-g.b,k]]
def gatesC (n:Nat):Gs->Nat->List (List Int)
 |[],_=>[]
 |g::gs,i=>gateC (2+n+i) g++gatesC n gs (i+1)
def netC (n:Nat) (gs:Gs) (xs:List (List Int)):Cnf:=⟨1+n+gs.length,[1]::(gatesC n gs 0++xs)⟩
theorem JD {v:Nat->Bool} {l:Int} {cl:List Int}:clT v (l::cl)↔litT v l=true\/clT v cl:=by
 simp_all[clT]
theorem yM0 {v:Nat->Bool}:clT v []↔False:=by unfold clT;simp
theorem gate_says {v:Nat->Bool} {g:Gt} {k:Int} (c:g.a≠0) (d:g.b≠0) (e:k≠0):(∀cl,cl∈gateC k g->clT v cl)↔litT v k=(if g.x then litT v g.a != litT v g.b else litT v g.a&&litT v g.b):=by
 unfold gateC;cases g.x
 ·simp only[Ge,if_false,List.forall_mem_cons,JD,yM0,litT_neg c,litT_neg d,litT_neg e]
  grind
 ·simp only[if_true,List.forall_mem_cons,JD,yM0,litT_neg c,litT_neg d,litT_neg e]
  grind
theorem mem_gates {n:Nat} {cl:List Int}:∀{gs:Gs} {i0:Nat},cl∈gatesC n gs i0↔ ∃i,∃h:i<gs.length,cl∈gateC (2+n+(i0+i:Nat)) gs[i]
 |[],i0=>by simp[gatesC]
 |g::gs,i0=>by
  simp only[gatesC,gr,mem_gates (gs:=gs)];constructor
  ·rintro(h|⟨i,hi,h⟩)
   ·grind
   ·refine⟨i+1,by grind,?_⟩
    grind
  grind
theorem absI_nat (a:Int):absI a=(a.natAbs:Int):=by unfold absI;omega
theorem gate_nz {n k:Nat} {g:Gt} (h:gateOk n k g):g.a≠0/\g.b≠0:=by
 obtain⟨c,d,e,f⟩:=h
 grind [absI_nat]
theorem lit_eq {v:Nat->Bool} {vals:List Bool} {m:Int} (b:m≠0) (h:v m.natAbs=vals.getD (m.natAbs-1) false):litT v m=litV vals m:=by
 unfold litT litV;rw[h];by_cases a:0<m
 ·rw[K3 a,K3 a,show m.natAbs-1=(m-1).toNat by omega]
 ·rw[q0 a,q0 a,show m.natAbs-1=(-m-1).toNat by omega]
def insV (v:Nat->Bool) (n:Nat):List Bool:=(List.range n).map λi=>v (i+2)
theorem insV_len (v:Nat->Bool) (n:Nat):(insV v n).length=n:=by unfold insV;grind
theorem insV_get {v:Nat->Bool} {n i:Nat} (h:i<n):(insV v n).getD i false=v (i+2):=by
 grind [insV]
theorem pre_getD {α:Type} {a b:List α} {i:Nat} {d:α} (h:a<+:b) (hi:i<a.length):b.getD i d=a.getD i d:=by
 obtain⟨t,rfl⟩:=h
 grind
theorem vals_low {ins:List Bool} {gs:Gs} {i:Nat} (hi:i<ins.length):(valsG (true::ins) gs).getD (i+1) false=ins.getD i false:=by
 rw[pre_getD (valsG_pre gs (true::ins)) (by grind),G5]
theorem Xw {ins:List Bool} {gs:Gs}:(valsG (true::ins) gs).getD 0 false=true:=by
 rw[pre_getD (valsG_pre gs (true::ins)) (by simp)];rfl
def Follows (v:Nat->Bool) (n:Nat) (gs:Gs):Prop:=∀k,k<1+n+gs.length->v (k+1)=(valsG (true::insV v n) gs).getD k false
theorem Follows.lit {v:Nat->Bool} {n:Nat} {gs:Gs} (h:Follows v n gs) {m:Int} (hm:has (1+n+gs.length) m):litT v m=litV (valsG (true::insV v n) gs) m:=by
 obtain⟨a,b,c⟩:=hm;refine lit_eq a ?_;have:=h (m.natAbs-1) oM
 grind
theorem net_follows {v:Nat->Bool} {n:Nat} {gs:Gs} (g:NetG n gs):(v 1=true/\∀cl,cl∈gatesC n gs 0->clT v cl)↔Follows v n gs:=by
 have f:∀i:Nat,(2+(n:Int)+((0+i:Nat):Int))≠0:=oM
 have d:∀i:Nat,litT v (2+(n:Int)+((0+i:Nat):Int))=v (2+n+i):=λi=>by
  unfold litT;grind
 constructor
 ·rintro⟨o,p⟩ k;induction k using Nat.strongRecOn with
  |ind k l=>
   intro s;rcases(by omega:k=0\/(1<=k/\k<=n)\/1+n<=k) with rfl|⟨q,r⟩|q
   ·rw[Xw];exact o
   ·obtain⟨i,rfl⟩:∃i,k=i+1:=⟨k-1,oM⟩
    grind [vals_low,insV_len,insV_get]
   ·obtain⟨i,rfl⟩:∃i,k=1+n+i:=⟨k-1-n,oM⟩;have hi:i<gs.length:=oM;have c:=g.gate i hi;obtain⟨na,nb⟩:=gate_nz c;have hs:=(gate_says (v:=v) na nb (f i)).1 λcl e=>p cl (mem_gates.2 ⟨i,hi,e⟩);rw[d] at hs;obtain⟨g1,g2,g3,_⟩:=c;rw[absI_nat] at g1 g2;rw[absI_nat] at g2 g3;have ea:=lit_eq (vals:=valsG (true::insV v n) gs) na (by have:=l (gs[i].a.natAbs-1) oM oM;rwa[show gs[i].a.natAbs-1+1=gs[i].a.natAbs by omega] at this);have eb:=lit_eq (vals:=valsG (true::insV v n) gs) nb (by have:=l (gs[i].b.natAbs-1) oM oM;rwa[show gs[i].b.natAbs-1+1=gs[i].b.natAbs by omega] at this);rw[valsG_at (insV_len v n) hi (g.gate i hi),show 1+n+i+1=2+n+i by omega,hs,ea,eb];rfl
 ·intro h;refine⟨by have:=h 0 oM;rwa[Xw] at this,λcl e=>?_⟩;obtain⟨i,hi,hm⟩:=mem_gates.1 e;have c:=g.gate i hi;obtain⟨na,nb⟩:=gate_nz c;refine(gate_says (v:=v) na nb (f i)).2 ?_ cl hm;obtain⟨g1,g2,g3,_⟩:=c;rw[absI_nat] at g1 g2;rw[absI_nat] at g2 g3;have j:=h (1+n+i) oM;rw[valsG_at (insV_len v n) hi (g.gate i hi),show 1+n+i+1=2+n+i by omega] at j;rw[d,j,h.lit (m:=gs[i].a) ⟨na,oM,oM⟩,h.lit (m:=gs[i].b) ⟨nb,oM,oM⟩];rfl
theorem net_sat {v:Nat->Bool} {n:Nat} {gs:Gs} {xs:List (List Int)} (b:NetG n gs):jm0 v (netC n gs xs)↔Follows v n gs/\∀cl,cl∈xs->clT v cl:=by
 rw[<-net_follows b];unfold jm0 netC;simp only[gj,gr];constructor
 ·simp_all[JD,yM0,litT]
 ·rintro⟨⟨c,d⟩,e⟩ cl (rfl|a|a)
  ·grind [JD,litT]
  ·grind
  grind
def wayG (ins:List Bool) (gs:Gs) (u:Nat):Bool:=(valsG (true::ins) gs).getD (u-1) false
theorem wayG_ins {ins:List Bool} {gs:Gs}:insV (wayG ins gs) ins.length=ins:=by
 grind [List.ext_getElem,insV_len,wayG,insV,vals_low]
theorem z30 {ins:List Bool} {gs:Gs} {n:Nat} (a:ins.length=n):Follows (wayG ins gs) n gs:=λk b=>by
 subst a;rw[wayG_ins];rfl
theorem gatesC_len {n:Nat}:∀(gs:Gs) (i:Nat),(gatesC n gs i).length<=4*gs.length
 |[],_=>by simp[gatesC]
 |g::gs,i=>by
  have:=gatesC_len (n:=n) gs (i+1)
  grind [gatesC,gateC]
theorem QO {m:Int} {xs:List Int}:yR m xs=true↔ ∀k,k<xs.length->litOk m (xs.getD k 0)=true/\(k=0\/(xs.getD (k-1) 0).natAbs<(xs.getD k 0).natAbs):=by
 simp_all[yR,allI]
theorem gate_clause {n k:Nat} {g:Gt} {m:Int} (h:gateOk n k g) (hm:2+n+k<=m) {cl:List Int} (c:cl∈gateC (2+n+k) g):yR m cl=true:=by
 obtain⟨g1,g2,g3,_⟩:=h;rw[absI_nat] at g1 g2;rw[absI_nat] at g2 g3;have three:∀{p q r:Int},p.natAbs=g.a.natAbs->q.natAbs=g.b.natAbs->r.natAbs=2+n+k->yR m [p,q,r]=true:=λ{p q r} d i e=>by
  rw[QO];intro j f;rcases(by omega:j<3)|>(λh=>(by omega:j=0\/j=1\/j=2)) with rfl|rfl|rfl
  ·exact⟨by simp[litOk];omega,.inl rfl⟩
  ·grind [litOk]
  grind [litOk]
 have two:∀{p r:Int},(p.natAbs=g.a.natAbs\/p.natAbs=g.b.natAbs)->r.natAbs=2+n+k->yR m [p,r]=true:=λ{p r} d e=>by
  rw[QO];intro j f;rcases(by omega:j<2)|>(λh=>(by omega:j=0\/j=1)) with rfl|rfl
  ·exact⟨by simp[litOk];omega,.inl rfl⟩
  grind [litOk]
 unfold gateC at c;split at c
 ·grind
 ·simp only[gj,gC,Gg] at c;rcases c with rfl|rfl|rfl
  ·grind
  ·grind
  grind
theorem net_ok {n:Nat} {gs:Gs} {xs:List (List Int)} (d:n<=8) (a:NetG n gs) (c:xs.length<=90) (e:∀cl,cl∈xs->yR (1+n+gs.length:Nat) cl=true):cnfOk (netC n gs xs)=true:=by
 have:=a.few;have hlen:=gatesC_len (n:=n) gs 0;have b:∀cl,cl∈(netC n gs xs).list->yR (netC n gs xs).many cl=true:=λcl h=>by
  unfold netC at h⊢;rcases gj.1 h with rfl|h
  ·rw[QO]
   grind [litOk]
  ·rcases gr.1 h with h|h
   ·obtain⟨i,hi,hm⟩:=mem_gates.1 h;rw[Gb] at hm;exact gate_clause (a.gate i hi) (by grind) hm
   grind
 unfold cnfOk allI;simp only[gp,gd,gY,gN]
 grind [netC]
theorem len_full {many:Nat} {put:List Int} (h:marksOk many put) (d:∀u,1<=u->u<=many->placeOf put u≠0):put.length=many:=by
 have b:(List.range' 1 many).length<=(put.map Int.natAbs).length:=by
  refine pd List.nodup_range' λu hu=>?_
  grind [placeOf]
 have c:(put.map Int.natAbs).length<=(List.range' 1 many).length:=by
  refine pd h.1 λu hu=>?_;obtain⟨l,a,rfl⟩:=gy.1 hu;have:=h.2 l a
  grind
 grind
end Go.M
end
section
namespace Go.M
theorem node_right {ds:List Dcl} {t:Tm} (l:declOk ds=true) (hs:sortM ds t≠ -1) {L:Nat->Nat} (n:∀i,i<t.ks.length->L i=lenS (sortM ds (kid t i))):
  (1<=t.op->t.op<=2->t.ks.length=1/\1<=L 0/\L 0<=4)/\(3<=t.op->t.op<=13->t.ks.length=2/\L 0=L 1/\1<=L 0/\L 0<=4)/\(t.op=14->t.ks.length=2/\1<=L 0/\1<=L 1/\L 0+L 1<=4)/\
  (15<=t.op->t.op<=17->t.ks.length=2/\L 0=L 1/\1<=L 0/\L 0<=4)/\(t.op=22->t.ks.length=1/\0<=t.b/\t.b<=t.a/\t.a<L 0/\L 0<=4)/\(t.op=23->t.ks.length=3/\L 0=1/\L 1=L 2/\1<=L 1/\L 1<=4)/\
  (25<=t.op->(t.ks.length=if t.op=25 then 1 else 2)/\∀i,i<t.ks.length->L i=1):=by
 obtain⟨j,m,g⟩:=sort_parts hs;simp only[formed,gp,gd] at j;obtain⟨f,q⟩:=j;have k:=arity_ops (o:=t.op) oM;have s:∀i,i<t.ks.length->(t.ks.map (sortM ds)).getD i 0=sortM ds (kid t i):=λi hi=>getD_map _ hi _ _;have d:∀i,-1<=sortM ds (kid t i)/\sortM ds (kid t i)<=4:=λi=>sort_range l _;rw[g] at hs;unfold sortK at hs;unfold arity at f;have u:=d 0;have v:=d 1;have w:=d 2;refine⟨λa b=>?_,λa b=>?_,λa=>?_,λa b=>?_,λa=>?_,λa=>?_,λa=>?_⟩
 ·grind [lenS]
 ·have e:t.ks.length=2:=oM
  grind [lenS]
 ·have e:t.ks.length=2:=oM
  grind [lenS]
 ·have e:t.ks.length=2:=oM
  grind [lenS]
 ·grind [lenS]
 ·have e:t.ks.length=3:=oM
  grind [lenS]
 ·have e:t.ks.length=if t.op=25 then 1 else 2:=by
   grind
  rw[q0 oM,q0 oM,K3 oM] at hs;by_cases c:(t.ks.map (sortM ds)).any (λx=>decide (x≠0))=true
  ·grind
  ·refine⟨e,λi hi=>?_⟩;have h:=n i hi;have r:sortM ds (kid t i)=0:=Gn λp=>c (pA.2 ⟨sortM ds (kid t i),gy.2 ⟨_,getD_mem hi default,rfl⟩,by grind⟩);rw[r] at h;exact h
end Go.M
end
section
namespace Go.M
section
variable {n:Nat} {gs:Gs} {a b:Int}
theorem put_net {g:Gt} (d:NetG n gs) (f:gateOk n gs.length g) (c:(putG n gs g).2≠0):NetG n (putG n gs g).1/\has (1+n+(putG n gs g).1.length) (putG n gs g).2:=by
 unfold putG at c⊢;split
 ·grind [has]
 ·next hm=>
  rw[q0 hm] at c;split
  ·grind
  ·refine⟨⟨by simp;omega,λk j=>?_,?_⟩,by simp[has];omega⟩
   ·by_cases e:k<gs.length
    ·rw[Pg e];exact d.gate k e
    grind
   ·rw[Gz];exact⟨d.once,by simp,λa h b i e=>hm (by grind)⟩
theorem and_net (i:NetG n gs) (g:has (1+n+gs.length) a) (h:has (1+n+gs.length) b) (c:(andG n gs a b).2≠0):NetG n (andG n gs a b).1/\has (1+n+(andG n gs a b).1.length) (andG n gs a b).2:=by
 have f:has (1+n+gs.length) (-1):=⟨dC,oM,oM⟩;unfold andG at c⊢
 repeat' split
 ·grind
 ·grind
 ·grind
 ·grind
 ·grind
 ·next c1 c2 c3 d e=>
  rw[q0 c1,q0 c2,q0 c3,q0 d,q0 e] at c
  grind [put_net,has,gateA,gateOk,absI]
theorem xor_net (d:NetG n gs) (f:has (1+n+gs.length) a) (g:has (1+n+gs.length) b) (c:(xorG n gs a b).2≠0):NetG n (xorG n gs a b).1/\has (1+n+(xorG n gs a b).1.length) (xorG n gs a b).2:=by
 unfold xorG at c⊢
 repeat' split
 ·exact⟨d,Yb g⟩
 ·exact⟨d,Yb f⟩
 ·grind [has]
 ·grind [has]
 ·next c1 c2 c3 e=>
  rw[q0 c1,q0 c2,q0 c3,q0 e] at c
  grind [put_net,gateX,has,absI,gateOk,turn_zero,Yb]
end
namespace Bd
variable {α β:Type}
def Hs:Nat->Bd α->(Nat->α->Prop)->Prop
 |k,.ret a,Q=>Q k a
 |k,.and x y c,Q=>has k x/\has k y/\∀l v,k<=l->has l v->Hs l (c v) Q
 |k,.xor x y c,Q=>has k x/\has k y/\∀l v,k<=l->has l v->Hs l (c v) Q
theorem Hs.bind {p:Bd α} {f:α->Bd β} {Q:Nat->α->Prop} {R:Nat->β->Prop}:∀{k:Nat},Hs k p Q->(∀l a,k<=l->p.Reach a->Q l a->Hs l (f a) R)->Hs k (p.bind f) R:=by
 induction p with
 |ret a=>exact λh g=>g _ a (gB _) rfl h
 |and x y c d|xor x y c d=>exact λ⟨e,i,h⟩ g=>⟨e,i,λl v b o=>d v (h l v b o) λm a hm n j=>g m a (gO b hm) ⟨v,n⟩ j⟩
theorem Hs.sound {n:Nat} {p:Bd α} {Q:Nat->α->Prop}:∀{gs gs':Gs} {a:α},NetG n gs->p.run n gs=some (gs',a)->Hs (1+n+gs.length) p Q->NetG n gs'/\Q (1+n+gs'.length) a:=by
 induction p with
 |ret c=>
  intro gs gs' a b h hs;simp only[run,Gy,Gx] at h;obtain⟨rfl,rfl⟩:=h;exact⟨b,hs⟩
 |and x y c f=>
  intro gs gs' a b h ⟨d,e,hs⟩
  grind [run,and_net,and_pre]
 |xor x y c f=>
  intro gs gs' a b h ⟨d,e,hs⟩
  grind [run,xor_net,xor_pre]
end Bd
abbrev HI (k:Nat) (p:Bd Int):Prop:=p.Hs k has
abbrev HL (k:Nat) (p:Bd (List Int)):Prop:=p.Hs k hasL
section
variable {k:Nat} {x y c s:Int} {xs ys:List Int}
theorem nilL:hasL k []:=λ_ h=>by cases h
theorem or_h (a:has k x) (b:has k y):HI k (orB x y):=⟨has_neg a,has_neg b,λ_ _ _ h=>has_neg h⟩
theorem kl0 (a:has k c) (f:has k x) (g:has k y):HI k (muxB c x y):=⟨a,f,λ_ _ b d=>⟨has_mono (has_neg a) b,has_mono g b,λ_ _ h e=>or_h (has_mono d h) e⟩⟩
theorem Yk0 {α:Type} {p:Bd α} {f:α->List Int} {Q:Nat->α->Prop} (c:p.Hs k Q) (b:∀l a,Q l a->hasL l (f a)):HL k (p.map f):=c.bind λl a _ _ h=>b l a h
theorem jl0 {p:Bd (List Int)} (hs:has k s) (b:HL k p):HL k (p.map (s:: ·)):=b.bind λ_ _ a _ c=>y20.2 ⟨has_mono hs a,c⟩
theorem qF0:HL k (.ret []):=nilL
theorem sum_h:∀{xs ys:List Int} {c:Int} {k:Nat},hasL k xs->hasL k ys->has k c->HL k (sumB xs ys c)
 |[],_,_,_,_,_,_=>qF0
 |_::_,[],_,_,_,_,_=>qF0
 |x::xs,y::ys,c,k,a,b,g=>by
  obtain⟨a,d⟩:=y20.1 a;obtain⟨b,e⟩:=y20.1 b;exact⟨a,b,λ_ _ m f=>⟨f,has_mono g m,λ_ _ o h=>⟨has_mono a oM,has_mono b oM,λ_ _ p i=>⟨has_mono f oM,has_mono g oM,λ_ _ n j=>
   (or_h (has_mono i n) j).bind λ_ _ q _ l=>jl0 (has_mono h oM) (sum_h (d.mono oM) (e.mono oM) l)⟩⟩⟩⟩
theorem less_h:∀{xs ys:List Int} {c:Int} {k:Nat},hasL k xs->hasL k ys->has k c->HI k (lessB xs ys c)
 |[],_,_,_,_,_,h=>h
 |_::_,[],_,_,_,_,h=>h
 |x::xs,y::ys,c,k,b,a,j=>by
  obtain⟨b,d⟩:=y20.1 b;obtain⟨a,e⟩:=y20.1 a;exact⟨b,a,λ_ _ f g=>(kl0 g (has_mono a f) (has_mono j f)).bind λ_ _ l _ i=>less_h (d.mono oM) (e.mono oM) i⟩
theorem same_h:∀{xs ys:List Int} {c:Int} {k:Nat},hasL k xs->hasL k ys->has k c->HI k (sameB xs ys c)
 |[],_,_,_,_,_,h=>h
 |_::_,[],_,_,_,_,h=>h
 |x::xs,y::ys,c,k,a,d,i=>by
  obtain⟨a,b⟩:=y20.1 a;obtain⟨d,e⟩:=y20.1 d;exact⟨a,d,λ_ _ j f=>⟨has_mono i j,has_neg f,λ_ _ l g=>same_h (b.mono oM) (e.mono oM) g⟩⟩
theorem each_h {f:Int->Int->Bd Int}:∀{xs ys:List Int} {k:Nat},(∀l x y,k<=l->has l x->has l y->HI l (f x y))->hasL k xs->hasL k ys->HL k (eachB f xs ys)
 |[],_,_,_,_,_=>qF0
 |_::_,[],_,_,_,_=>qF0
 |x::xs,y::ys,k,e,a,c=>by
  obtain⟨a,b⟩:=y20.1 a;obtain⟨c,d⟩:=y20.1 c;exact(e k x y (gB _) a c).bind λ_ _ g _ h=>jl0 h (each_h (λl x y i=>e l x y oM) (b.mono g) (d.mono g))
theorem row_h:∀{xs:List Int} {k:Nat},hasL k xs->has k s->HL k (rowB s xs)
 |[],_,_,_=>qF0
 |x::xs,k,a,hs=>by
  obtain⟨a,b⟩:=y20.1 a;exact⟨a,hs,λ_ _ c d=>jl0 d (row_h (b.mono c) (has_mono hs c))⟩
theorem mul_h:∀{ys:List Int} {i:Nat} {s:List Int} {k:Nat},1<=k->hasL k xs->hasL k ys->hasL k s->HL k (mulB xs ys i s)
 |[],_,_,_,_,_,_,h=>h
 |y::ys,i,s,k,g,c,a,hs=>by
  obtain⟨a,b⟩:=y20.1 a;exact(row_h (kj c) a).bind λ_ _ f _ d=>(sum_h (hs.mono f) (Zj (qo oM) d) (has_mone oM)).bind λ_ _ j _ e=>mul_h oM (c.mono oM) (b.mono oM) e
theorem div_h {w:List Int}:∀{n:Nat} {r q:List Int} {k:Nat},1<=k->n<=xs.length->hasL k xs->hasL k w->hasL k r->hasL k q->(divB xs w n r q).Hs k λk p=>hasL k p.1/\hasL k p.2
 |0,_,_,_,_,_,_,_,e,b=>⟨b,e⟩
 |n+1,r,q,k,i,o,c,hw,e,b=>by
  have a:hasL k (xs.getD n 0::r):=(by grind [y20,jG]);exact(less_h a hw (has_mone i)).bind λ_ _ f _ d=>(sum_h (a.mono f) (kE (hw.mono f)) (has_one oM)).bind λ_ _ s _ g=>
   (each_h (λl _ _ m c j=>kl0 (has_mono d oM) c j) (kj (a.mono oM)) (kj g)).bind λ_ _ t _ h=>
    div_h oM oM (c.mono oM) (hw.mono oM) h (hasL_set (b.mono oM) (has_neg (has_mono d oM)))
theorem shift_h {up:Bool}:∀{ys:List Int} {i:Nat} {s:List Int} {k:Nat},has k c->hasL k ys->hasL k s->HL k (shiftB up c ys i s)
 |[],_,_,_,_,_,h=>h
 |y::ys,i,s,k,j,a,hs=>by
  obtain⟨a,d⟩:=y20.1 a;refine(each_h (λl _ _ m e b=>kl0 (has_mono a m) e b) (λx e=>?_) hs).bind λ_ _ f _ g=>shift_h (has_mono j f) (d.mono f) g
  grind [from_has]
theorem un_h {op:Int} (b:1<=k) (a:hasL k xs):HL k (unB op xs):=by
 unfold unB;split
 ·exact kE a
 grind [sum_h,qo,kE,has_one]
theorem bin_h {op:Int} (c:1<=k) (a:hasL k xs) (b:hasL k ys) (e:op≠14->0<xs.length):HL k (binB op xs ys):=by
 have one:=λl (h:k<=l)=>has_mone (k:=l) (gO c h);have off:=qo (n:=xs.length) c;have d:=div_h (q:=offsL xs.length) c (gB _) a (Zj b (y20.2 ⟨one k (gB _),nilL⟩)) off off;unfold binB
 repeat' split
 ·exact Zj b a
 ·exact each_h (λ_ _ _ _ a b=>⟨a,b,λ_ _ _ h=>h⟩) a b
 ·grind [each_h,or_h]
 ·exact each_h (λ_ _ _ _ a b=>⟨a,b,λ_ _ _ h=>h⟩) a b
 ·exact sum_h a b (has_mone c)
 ·grind [sum_h,kE,has_one]
 ·exact mul_h c a b off
 ·exact Yk0 d λ_ _ h=>h.1
 ·exact Yk0 d λ_ _ h=>h.2
 ·exact shift_h (has_mone c) b a
 ·exact shift_h (has_mone c) b a
 grind [shift_h,jG]
theorem cmp_h {op:Int} (b:1<=k) (e:hasL k xs) (f:hasL k ys) (c:xs.length=ys.length) (a:0<xs.length):HI k (cmpB op xs ys):=by
 have d:xs≠[]:=by grind
 grind [cmpB,same_h,has_one,less_h,has_mone,swap_has]
theorem seq_h {k0:Nat} {f:Tm->Bd (List Int)}:∀{ks:List Tm} {k:Nat},k0<=k->(∀t,t∈ks->∀k,k0<=k->HL k (f t))->(seqB (ks.map f)).Hs k λk rs=>∀r,r∈rs->hasL k r
 |[],_,_,_=>λ_ h=>by cases h
 |t::ks,k,b,a=>(a t gq k b).bind λ_ _ i _ c=>(seq_h (gO b i) λu hu=>a u (gu _ hu)).bind λ_ _ j _ d r g=>(gj.1 g).elim (λe=>e▸c.mono j) (d r)
end
theorem node_h {ds:List Dcl} {t:Tm} (f:declOk ds=true) (hs:sortM ds t≠ -1) {k:Nat} (m:1+bits ds<=k) {rs:List (List Int)} (p:∀r,r∈rs->hasL k r) (w:rs.length=t.ks.length)
  (n:∀i,i<t.ks.length->(rs.getD i []).length=lenS (sortM ds (kid t i))):HL k (nodeB ds t rs):=by
 obtain⟨y,z,A,s,B,C,D⟩:=node_right f hs (L:=λi=>(rs.getD i []).length) n;have c:1<=k:=by have:=bits_pos' (dpos f);omega
 have j:=arity_ops (o:=t.op) (by have:=(sort_parts hs).1;grind [formed]);have g:∀i,i<t.ks.length->hasL k (rs.getD i []):=by grind
 have u:∀i,i<t.ks.length->1<=(rs.getD i []).length->has k ((rs.getD i []).getD 0 0):=by grind [jG]
 have one:∀{v:Int} {l:Nat},has l v->hasL l [v]:=λh=>y20.2 ⟨h,nilL⟩;have d:25<=t.op->∀i,i<(if t.op=25 then 1 else 2)->has k ((rs.getD i []).getD 0 0):=by grind
 unfold nodeB
 repeat' split
 ·exact fix_has c
 ·next h=>exact name_has f (by simp_all[name_found,findD_lt]) m
 ·exact one (has_one c)
 ·next h=>exact one (has_neg (d oM 0 (by grind)))
 ·next e h=>exact⟨d oM 0 (by grind),d oM 1 (by grind),λ_ _ _ h=>one h⟩
 ·next e _ h=>exact(or_h (d oM 0 (by grind)) (d oM 1 (by grind))).bind λ_ _ _ _ h=>one h
 ·grind [each_h,kl0,has_mono]
 ·next h=>exact λx q=>g 0 oM x (GR (gS q))
 ·grind [un_h]
 ·next h=>
  obtain⟨a,b,_⟩:=s h.1 h.2;exact(cmp_h c (g 0 oM) (g 1 oM) b oM).bind λ_ _ _ _ h=>one h
 grind [bin_h]
theorem term_h {ds:List Dcl} (a:declOk ds=true):∀t:Tm,sortM ds t≠ -1->∀k:Nat,1+bits ds<=k->HL k (termB ds t):=by
 refine Tm.ind λt g hs k j=>?_;have h:=bits_pos' (dpos a);rw[termB_eq];refine(seq_h (k0:=(1+bits ds).toNat) oM λu hu l f=>g u hu ((sort_parts hs).2.1 u hu) l oM).bind λl rs f b c=>?_;obtain⟨d,e⟩:=seq_reach b;exact node_h a hs oM c d λi hi=>term_len a _ (good_kid hs hi) (e i hi)
end Go.M
end
namespace Go.M
open Go.Vc
section
mutual
def sameT:Tm->Tm->Bool
 | .mk o a b s ks,.mk o' a' b' s' ks'=>decide (o=o')&&decide (a=a')&&decide (b=b')&&decide (s=s')&&sameL ks ks'
def sameL:List Tm->List Tm->Bool
 |[],[]=>true
 |x::xs,y::ys=>sameT x y&&sameL xs ys
 |[],_::_=>false
 |_::_,[]=>false
end
theorem sameL_of {xs:List Tm} (a:∀k,k∈xs->∀y,sameT k y=true↔k=y):∀ys,sameL xs ys=true↔xs=ys:=by
 induction xs with
 |nil=>intro ys;cases ys<;>simp[sameL]
 |cons x xs ihx=>
  intro ys;cases ys with
  |nil=>simp[sameL]
  |cons y ys=>
   grind [sameL]
theorem sameT_iff:∀t u:Tm,sameT t u=true↔t=u:=by
 refine Tm.ind λt c u=>?_;cases t with
 |mk o a b s ks=>
  cases u with
  |mk o' e f g d=>
   rw[sameT,gp,sameL_of (xs:=ks) c]
   grind
instance:DecidableEq Tm:=λt u=>decidable_of_iff _ (sameT_iff t u)
theorem tm_ext {t u:Tm} (c:t.op=u.op) (d:t.a=u.a) (e:t.b=u.b) (f:t.s=u.s) (g:t.ks=u.ks):t=u:=by
 cases t;cases u
 grind [Tm.op,Tm.a,Tm.b,Tm.s,Tm.ks]
def truT:Tm:= .mk 24 0 0 nada []
def flsT:Tm:= .mk 25 0 0 nada [truT]
def fixedM (t:Tm):Option Int:=if t=truT then some 1 else if t=flsT then some 0 else if t.op=20/\t.ks=[]/\t.s=nada/\vok t.a t.b=true then some t.b else none
def isM (t:Tm) (n:Int):Bool:=decide (fixedM t=some n)
def constM (w n:Int):Tm:=if 0<w then .mk 20 w n nada [] else if n=1 then truT else flsT
def zeroE (ds:List Dcl):List Int:=List.replicate ds.length 0
theorem zeroE_ok {ds:List Dcl} (h:declOk ds=true):envOk ds (zeroE ds)=true:=by
 unfold envOk zeroE;rw[h,gH];simp only[decide_true,pz,gY,gN];intro i hi;have hw:=dcl_wide h hi;simp_all[vok_iff,Int.pow_pos]
section
variable {ds:List Dcl} {env:List Int} {t u:Tm} {w n:Int}
theorem Wg:sortM ds truT=0:=by rw[sort_leaf (formed_iff.2 ⟨rfl,rfl⟩) rfl];rfl
theorem x10:evalM ds env truT=1:=by rw[eval_leaf (.inr (.inr rfl))];rfl
theorem Un (a:declOk ds=true):sortM ds flsT=0:=by
 rw[sort_one a (formed_iff.2 ⟨rfl,rfl⟩) rfl];show oneM _ (sortM ds truT)=0;rw[Wg];rfl
theorem kC0 (he:envOk ds env=true):evalM ds env flsT=0:=by
 rw[(eval_no he (by rw[Un (env_ok he).1];decide) rfl).2.2];show(1:Int)-evalM ds env truT=0;rw[x10];rfl
theorem vec_sort {t:Tm} (c:t.op=20) (d:t.ks=[]) (e:t.s=nada) (g:vok t.a t.b=true):sortM ds t=t.a:=by
 have f:plainM t=true:=by simp[plainM,c,e]
 rw[sort_leaf (formed_iff.2 ⟨by rw[c,d];rfl,f⟩) (by grind)];simp_all[sortK]
theorem fixed_cases (h:fixedM t=some n):(t=truT/\n=1)\/(t=flsT/\n=0)\/(t.op=20/\t.ks=[]/\t.s=nada/\vok t.a t.b=true/\n=t.b):=by
 grind [fixedM]
theorem fixed_good (he:envOk ds env=true) (h:fixedM t=some n):sortM ds t≠ -1/\evalM ds env t=n/\inS (sortM ds t) n:=by
 rcases fixed_cases h with⟨rfl,rfl⟩|⟨rfl,rfl⟩|⟨a,c,d,b,rfl⟩
 ·rw[Wg,x10];exact⟨dC,rfl,.inl ⟨rfl,.inr rfl⟩⟩
 ·rw[Un (env_ok he).1,kC0 he];exact⟨dC,rfl,.inl ⟨rfl,.inl rfl⟩⟩
 ·rw[vec_sort a c d b,eval_leaf (.inl a),K3 a];have:=vok_lt b;exact⟨oM,rfl,.inr b⟩
theorem isM_iff:isM t n=true↔fixedM t=some n:=by unfold isM;grind
theorem const_fixed (h:inS w n):fixedM (constM w n)=some n:=by
 unfold constM;rcases h with⟨c,b⟩|h
 ·rw[q0 oM];rcases b with e|e
  ·rw[e,q0 dC];rfl
  ·rw[e,K3 rfl];rfl
 ·have hw:=vok_lt h;rw[K3 oM];have a: ¬Tm.mk 20 w n nada []=truT:=λe=>by
   have e:(20:Int)=24:=congrArg Tm.op e;omega
  have a2: ¬Tm.mk 20 w n nada []=flsT:=λe=>by
   have e:(20:Int)=25:=congrArg Tm.op e;omega
  unfold fixedM;rw[q0 a,q0 a2];exact K3 ⟨rfl,rfl,rfl,h⟩
theorem const_sort (c:declOk ds=true) (h:inS w n):sortM ds (constM w n)=w:=by
 unfold constM;rcases h with⟨a,b⟩|h
 ·rw[q0 oM]
  grind [Wg,Un]
 ·have hw:=vok_lt h;rw[K3 oM];exact vec_sort rfl rfl rfl h
theorem Z4 (he:envOk ds env=true) (h:inS w n):evalM ds env (constM w n)=n:=(fixed_good he (const_fixed h)).2.1
def allFixed (t:Tm):Bool:=decide (t.ks≠[])&&t.ks.all λk=>(fixedM k).isSome
def ruleX (ds:List Dcl) (t:Tm):Option Tm:=if allFixed t=true then some (constM (sortM ds t) (evalM ds (zeroE ds) t)) else none
def ruleB (t:Tm):Option Tm:=
 if t.op=25/\(kid t 0).op=25 then some (kid (kid t 0) 0)
 else if t.op≠23 then none
 else if isM (kid t 0) 1=true then some (kid t 1)
 else if isM (kid t 0) 0=true then some (kid t 2)
 else if kid t 1=kid t 2 then some (kid t 1) else none
def neutral (o:Int):Int:=if o=26 then 1 else 0
def ruleT (t:Tm):Option Tm:=
 if t.op=26\/t.op=27 then
  if isM (kid t 0) (neutral t.op)=true\/kid t 0=kid t 1 then some (kid t 1)
  else if isM (kid t 1) (neutral t.op)=true then some (kid t 0)
  else if isM (kid t 0) (1-neutral t.op)=true\/isM (kid t 1) (1-neutral t.op)=true then some (constM 0 (1-neutral t.op)) else none
 else none
def ruleL (ds:List Dcl) (t:Tm):Option Tm:=
 if t.op=22 then(if t.b=0/\t.a=sortM ds (kid t 0)-1 then some (kid t 0) else none)
 else if(t.op=1\/t.op=2)/\(kid t 0).op=t.op then some (kid (kid t 0) 0) else none
def ruleW (ds:List Dcl) (t:Tm):Option Tm:=
 if t.ks.length=2/\kid t 0=kid t 1 then
  if t.op=3\/t.op=4 then some (kid t 0)
  else if t.op=5\/t.op=7 then some (constM (sortM ds t) 0)
  else if t.op=15 then some (constM 0 1)
  else if t.op=16\/t.op=17 then some (constM 0 0) else none
 else none
def ruleS (t:Tm):Option Tm:=
 if t.ks.length=2 then
  if isM (kid t 1) 0=true/\(t.op=4\/t.op=5\/t.op=6\/t.op=7\/t.op=11\/t.op=12\/t.op=13) then some (kid t 0)
  else if isM (kid t 1) 0=true/\(t.op=3\/t.op=8) then some (kid t 1)
  else if isM (kid t 1) 1=true/\t.op=8 then some (kid t 0) else none
 else none
def ruleF (t:Tm):Option Tm:=
 if t.ks.length=2 then
  if isM (kid t 0) 0=true/\(t.op=4\/t.op=5\/t.op=6) then some (kid t 1)
  else if isM (kid t 0) 0=true/\(t.op=3\/t.op=8) then some (kid t 0)
  else if isM (kid t 0) 1=true/\t.op=8 then some (kid t 1) else none
 else none
def ruleA (ds:List Dcl) (t:Tm):Option Tm:=ruleX ds t <|> ruleB t <|> ruleT t <|> ruleL ds t <|> ruleW ds t <|> ruleS t <|> ruleF t
def oneT (ds:List Dcl) (t:Tm):Tm:=(ruleA ds t).getD t
def foldT (ds:List Dcl):Tm->Tm:=Tm.fold λt us=>oneT ds (.mk t.op t.a t.b t.s us)
theorem kA0 (ds:List Dcl) (t:Tm):foldT ds t=oneT ds (.mk t.op t.a t.b t.s (t.ks.map (foldT ds))):=Tm.fold_eq _ t
inductive Src (t:Tm):Tm->Prop
 |kid (i:Nat) (h:i<t.ks.length):Src t (kid t i)
 |deep (i j:Nat) (h:i<t.ks.length) (h':j<(M.kid t i).ks.length):Src t (M.kid (M.kid t i) j)
 |const (w n:Int) (h:t.ks≠[]) (h':inS w n):Src t (constM w n)
structure Step (ds:List Dcl) (t u:Tm):Prop where
 src:Src t u
 sort:sortM ds u=sortM ds t
 eval:∀env,envOk ds env=true->evalM ds env u=evalM ds env t
theorem Qm {α:Type} {a b:Option α} {x:α} (h:(a <|> b)=some x):a=some x\/(a=none/\b=some x):=by
 simp_all
theorem ks_ne {i:Nat} (h:i<t.ks.length):t.ks≠[]:=by grind
theorem len_of (hs:sortM ds t≠ -1):arity t.op=t.ks.length:=(formed_iff.1 (sort_parts hs).1).1
theorem allFixed_eval (he:envOk ds env=true) (hs:sortM ds t≠ -1) (h:allFixed t=true):evalM ds (zeroE ds) t=evalM ds env t:=by
 have d:=zeroE_ok (env_ok he).1;unfold allFixed at h;simp only[gp,gd,gY] at h;have a:t.ks.map (vecM ds (zeroE ds))=t.ks.map (vecM ds env):=Gp λk a=>by
  obtain⟨n,c⟩:=pg.1 (h.2 k a);simp_all[vecM_pair,fixed_good]
 have b:t.op≠21:=by grind [len_of,arity,List.eq_nil_of_length_eq_zero]
 rw[evalM_eq,evalM_eq,a];unfold valK;omega
theorem ruleX_step (a:declOk ds=true) (hs:sortM ds t≠ -1) (h:ruleX ds t=some u):Step ds t u:=by
 unfold ruleX at h;split at h
 ·rename_i b;obtain rfl:=(gh h).symm;have hi:=eval_in (zeroE_ok a) t hs;refine⟨.const _ _ (by grind [allFixed]) hi,const_sort a hi,λenv he=>?_⟩
  grind [Z4,allFixed_eval]
 ·cases h
theorem ruleB_step (f:declOk ds=true) (hs:sortM ds t≠ -1) (h:ruleB t=some u):Step ds t u:=by
 have g:=(sort_parts hs).1;have k:=len_of hs;unfold ruleB at h;split at h
 ·rename_i l;obtain rfl:=(gh h).symm;have b:t.ks.length=1:=(by grind [arity]);have k0:=good_kid hs (i:=0) oM;have c:(kid t 0).ks.length=1:=(by grind [len_of]);have m:=good_kid k0 (i:=0) oM;refine⟨.deep 0 0 oM oM,?_,λenv he=>?_⟩
  ·have j:=sort_one f g b;have s1:=sort_one f (sort_parts k0).1 c
   grind [oneM]
  grind [eval_no]
 ·split at h
  ·cases h
  ·rename_i a;have a:t.op=23:=oM;have d:t.ks.length=3:=(by grind [arity]);have j:=sort_three (ds:=ds) g d;have e:=hs;rw[j] at e;have gs:sortM ds (kid t 1)=sortM ds (kid t 2):=by
    omega
   have st:sortM ds t=sortM ds (kid t 1):=by
    omega
   split at h
   ·rename_i hi;obtain rfl:=(gh h).symm;refine⟨.kid 1 oM,st.symm,λenv he=>?_⟩;simp_all[eval_if,fixed_good,isM_iff]
   ·split at h
    ·rename_i hi;obtain rfl:=(gh h).symm;refine⟨.kid 2 oM,by rw[st,gs],λenv he=>?_⟩;simp_all[eval_if,fixed_good,isM_iff]
    ·split at h
     ·rename_i hi;obtain rfl:=(gh h).symm;refine⟨.kid 1 oM,st.symm,λenv he=>?_⟩;simp_all[eval_if]
     ·cases h
theorem ruleT_step (f:declOk ds=true) (hs:sortM ds t≠ -1) (h:ruleT t=some u):Step ds t u:=by
 have g:=(sort_parts hs).1;have m:=len_of hs;unfold ruleT at h;split at h
 ·rename_i k;have c:t.ks.length=2:=(by grind [arity]);have l:=sort_two f g c;have b:=hs;rw[l] at b;obtain⟨g0,g1⟩:=(both_good b).1 k;have st:sortM ds t=0:=(by simp_all[bothM]);have j:neutral t.op=1/\t.op=26\/neutral t.op=0/\t.op=27:=by
   grind [neutral]
  have ev:∀env,envOk ds env=true->inS 0 (evalM ds env (kid t 0))/\inS 0 (evalM ds env (kid t 1))/\evalM ds env t=if t.op=26 then evalM ds env (kid t 0)*evalM ds env (kid t 1) else max (evalM ds env (kid t 0)) (evalM ds env (kid t 1)):=by grind [eval_two]
  split at h
  ·rename_i hi;obtain rfl:=(gh h).symm;refine⟨.kid 1 oM,by rw[st,g1],λenv he=>?_⟩;obtain⟨i0,i1,e⟩:=ev env he;rw[e];rcases hi with hi|hi
   ·have:=(fixed_good he (isM_iff.1 hi)).2.1
    grind [inS_zero]
   grind [inS_zero]
  ·split at h
   ·rename_i hi;obtain rfl:=(gh h).symm;refine⟨.kid 0 oM,by rw[st,g0],λenv he=>?_⟩;obtain⟨i0,i1,e⟩:=ev env he;rw[e,(fixed_good he (isM_iff.1 hi)).2.1]
    grind [inS_zero]
   ·split at h
    ·rename_i hi;obtain rfl:=(gh h).symm;have a:inS 0 (1-neutral t.op):=by
      rcases j with⟨d,_⟩|⟨d,_⟩<;>rw[d]
      ·exact .inl ⟨rfl,.inl rfl⟩
      ·exact .inl ⟨rfl,.inr rfl⟩
     refine⟨.const _ _ (ks_ne (i:=0) oM) a,by rw[st,const_sort f a],λenv he=>?_⟩;obtain⟨i0,i1,e⟩:=ev env he;rw[e,Z4 he a];rcases hi with hi|hi<;>rw[(fixed_good he (isM_iff.1 hi)).2.1]
     ·grind [inS_zero]
     grind [inS_zero]
    ·cases h
 ·cases h
theorem cut_all {w a:Int} (h:vok w a=true):cutM a (w-1) 0=a:=by
 obtain⟨b,c,d,e⟩:=vok_iff.1 h;unfold cutM
 grind [four]
theorem un_un {o w a:Int} (h:vok w a=true):unM o w (unM o w a)=a:=by
 obtain⟨b,c,d,e⟩:=vok_iff.1 h;unfold unM
 grind [four]
theorem ruleL_step (f:declOk ds=true) (hs:sortM ds t≠ -1) (h:ruleL ds t=some u):Step ds t u:=by
 have m:=(sort_parts hs).1;have r:=len_of hs;unfold ruleL at h;split at h
 ·rename_i b;split at h
  ·rename_i q;obtain rfl:=(gh h).symm;have a:t.ks.length=1:=(by grind [arity]);have k:=sort_one f m a;have c:=hs;rw[k] at c;have g:=one_good oM c;have g2:=oM;have g3:=g.2.2 b;refine⟨.kid 0 oM,?_,λenv he=>?_⟩
   ·grind [oneM]
   ·obtain⟨_,j,e⟩:=eval_cut he hs b;rw[e];unfold vecCut;simp_all[cut_all]
  ·cases h
 ·split at h
  ·rename_i b;obtain rfl:=(gh h).symm;have a:t.ks.length=1:=(by grind [arity]);have k0:=good_kid hs (i:=0) oM;have d:(kid t 0).op=1\/(kid t 0).op=2:=oM;have n:(kid t 0).ks.length=1:=(by grind [len_of]);have s:=good_kid k0 (i:=0) oM;have p:∀{t:Tm},sortM ds t≠ -1->(t.op=1\/t.op=2)->t.ks.length=1->sortM ds t=sortM ds (kid t 0):=λ{t} hs b a=>by
    have k:=sort_one f (sort_parts hs).1 a
    grind [oneM]
   refine⟨.deep 0 0 oM oM,?_,λenv he=>?_⟩
   ·grind
   ·obtain⟨_,j,e⟩:=eval_un he hs b.1;obtain⟨_,o,l⟩:=eval_un he k0 d;rw[e];unfold vecUn;rw[K3 ⟨j,b.1⟩];show _=unM t.op (sortM ds (kid t 0)) (evalM ds env (kid t 0));rw[l];unfold vecUn
    grind [un_un]
  ·cases h
def binT (w n:Nat):Prop:=
 (binN 3 w n n=n/\binN 4 w n n=n/\binN 5 w n n=0/\binN 7 w n n=0)/\
 (binN 4 w n 0=n/\binN 5 w n 0=n/\binN 6 w n 0=n/\binN 7 w n 0=n/\binN 11 w n 0=n/\binN 12 w n 0=n/\binN 13 w n 0=n)/\
 (binN 3 w n 0=0/\binN 8 w n 0=0/\binN 8 w n 1=n)/\
 (binN 4 w 0 n=n/\binN 5 w 0 n=n/\binN 6 w 0 n=n/\binN 3 w 0 n=0/\binN 8 w 0 n=0/\binN 8 w 1 n=n)
instance (w n:Nat):Decidable (binT w n):=by unfold binT;infer_instance
theorem bin_tab {w n:Int} (h:vok w n=true):binT w.toNat n.toNat:=small1 (p:=binT) (by decide+kernel) h
theorem bin_parts (i:declOk ds=true) (hs:sortM ds t≠ -1) (h:t.ks.length=2) (d:3<=t.op) (c:t.op<=13):sortM ds (kid t 0)=sortM ds t/\sortM ds (kid t 1)=sortM ds t/\
  ∀env,envOk ds env=true->vok (sortM ds t) (evalM ds env (kid t 0))=true/\vok (sortM ds t) (evalM ds env (kid t 1))=true/\evalM ds env t=binN t.op.toNat (sortM ds t).toNat (evalM ds env (kid t 0)).toNat (evalM ds env (kid t 1)).toNat:=by
 have f:=sort_two i (sort_parts hs).1 h;have b:=hs;rw[f] at b;have g:=(both_good b).2 oM;have a:=g.2.2.2 oM;have st:sortM ds t=sortM ds (kid t 0):=by
  rw[f];unfold bothM;rw[q0 oM,q0 oM,q0 oM,q0 oM,q0 oM]
 refine⟨st.symm,by rw[st,a],λenv he=>?_⟩;obtain⟨_,v0,v1,e⟩:=eval_bin he hs d oM;refine⟨by rw[st];exact v0,by rw[st,a];exact v1,?_⟩;rw[e];unfold vecBin;rw[K3 (show vok _ _=true/\vok _ _=true from⟨v0,v1⟩),q0 (show¬t.op=14 by omega),K3 (show 3<=t.op/\t.op<=13/\_=_ from⟨d,c,a⟩),st];rfl
theorem nat_of {w n:Int} (h:vok w n=true):((n.toNat:Nat):Int)=n:=by have:=vok_lt h;omega
theorem ruleW_step (d:declOk ds=true) (hs:sortM ds t≠ -1) (h:ruleW ds t=some u):Step ds t u:=by
 have p:=(sort_parts hs).1;unfold ruleW at h;split at h
 ·rename_i m;obtain⟨l,m⟩:=m;split at h
  ·rename_i j;obtain rfl:=(gh h).symm;obtain⟨k,s1,ev⟩:=bin_parts d hs l oM oM;refine⟨.kid 0 oM,k,λenv he=>?_⟩
   grind [binN,nat_of]
  ·split at h
   ·rename_i j;obtain rfl:=(gh h).symm;obtain⟨k,s1,ev⟩:=bin_parts d hs l oM oM;have c:inS (sortM ds t) 0:=by
     have:=(ev _ (zeroE_ok d)).1;obtain⟨a,b,_,_⟩:=vok_iff.1 this;exact .inr (vok_iff.2 ⟨a,b,pw _,Int.pow_pos dC⟩)
    refine⟨.const _ _ (ks_ne (i:=0) oM) c,const_sort d c,λenv he=>?_⟩;obtain⟨v0,v1,e⟩:=ev env he;have tb:=(bin_tab v0).1
    grind [Z4]
   ·have cmp:15<=t.op->t.op<=17->sortM ds t=0/\∀env,envOk ds env=true->evalM ds env t=b2i (decide (t.op=15)):=λn o=>by
     have k:=sort_two d p l;have f:=hs;rw[k] at f;have g:=(both_good f).2 oM;refine⟨?_,λenv he=>?_⟩
     ·grind [bothM]
     simp_all[eval_cmp,vecCmp,cmpM]
    split at h
    ·rename_i j;obtain rfl:=(gh h).symm;obtain⟨st,ev⟩:=cmp oM oM;have c:inS 0 1:= .inl ⟨rfl,.inr rfl⟩;exact⟨.const _ _ (ks_ne (i:=0) oM) c,by rw[const_sort d c,st],λenv he=>by rw[Z4 he c,ev env he,gn j];rfl⟩
    ·split at h
     ·rename_i n15 j;obtain rfl:=(gh h).symm;obtain⟨st,ev⟩:=cmp oM oM;have c:inS 0 0:= .inl ⟨rfl,.inl rfl⟩;exact⟨.const _ _ (ks_ne (i:=0) oM) c,by rw[const_sort d c,st],λenv he=>by rw[Z4 he c,ev env he,gk n15];rfl⟩
     ·cases h
 ·cases h
theorem ruleS_step (d:declOk ds=true) (hs:sortM ds t≠ -1) (h:ruleS t=some u):Step ds t u:=by
 unfold ruleS at h;split at h
 ·rename_i c;split at h
  ·rename_i a;obtain rfl:=(gh h).symm;obtain⟨b,s1,ev⟩:=bin_parts d hs c oM oM;refine⟨.kid 0 oM,b,λenv he=>?_⟩;obtain⟨v0,v1,e⟩:=ev env he;have tb:=(bin_tab v0).2.1;rw[e,(fixed_good he (isM_iff.1 a.1)).2.1];rcases a.2 with o|o|o|o|o|o|o<;>rw[o]
   ·grind [nat_of]
   ·grind [nat_of]
   ·grind [nat_of]
   ·grind [nat_of]
   ·grind [nat_of]
   ·grind [nat_of]
   grind [nat_of]
  ·split at h
   ·rename_i a;obtain rfl:=(gh h).symm;obtain⟨b,s1,ev⟩:=bin_parts d hs c oM oM;refine⟨.kid 1 oM,s1,λenv he=>?_⟩;obtain⟨v0,v1,e⟩:=ev env he;have tb:=(bin_tab v0).2.2.1;rw[e,(fixed_good he (isM_iff.1 a.1)).2.1]
    grind
   ·split at h
    ·rename_i a;obtain rfl:=(gh h).symm;obtain⟨b,s1,ev⟩:=bin_parts d hs c oM oM;refine⟨.kid 0 oM,b,λenv he=>?_⟩;obtain⟨v0,v1,e⟩:=ev env he;have tb:=(bin_tab v0).2.2.1;rw[e,(fixed_good he (isM_iff.1 a.1)).2.1,a.2]
     grind [nat_of]
    ·cases h
 ·cases h
theorem ruleF_step (c:declOk ds=true) (hs:sortM ds t≠ -1) (h:ruleF t=some u):Step ds t u:=by
 unfold ruleF at h;split at h
 ·rename_i b;split at h
  ·rename_i a;obtain rfl:=(gh h).symm;obtain⟨d,s1,ev⟩:=bin_parts c hs b oM oM;refine⟨.kid 1 oM,s1,λenv he=>?_⟩;obtain⟨v0,v1,e⟩:=ev env he;have tb:=(bin_tab v1).2.2.2;rw[e,(fixed_good he (isM_iff.1 a.1)).2.1]
   grind [nat_of]
  ·split at h
   ·rename_i a;obtain rfl:=(gh h).symm;obtain⟨d,s1,ev⟩:=bin_parts c hs b oM oM;refine⟨.kid 0 oM,d,λenv he=>?_⟩;obtain⟨v0,v1,e⟩:=ev env he;have tb:=(bin_tab v1).2.2.2;rw[e,(fixed_good he (isM_iff.1 a.1)).2.1]
    grind
   ·split at h
    ·rename_i a;obtain rfl:=(gh h).symm;obtain⟨d,s1,ev⟩:=bin_parts c hs b oM oM;refine⟨.kid 1 oM,s1,λenv he=>?_⟩;obtain⟨v0,v1,e⟩:=ev env he;have tb:=(bin_tab v1).2.2.2;rw[e,(fixed_good he (isM_iff.1 a.1)).2.1,a.2]
     grind [nat_of]
    ·cases h
 ·cases h
theorem qB0 (a:declOk ds=true) (hs:sortM ds t≠ -1) (h:ruleA ds t=some u):Step ds t u:=by
 unfold ruleA at h;rcases Qm h with h|⟨_,h⟩
 ·exact ruleX_step a hs h
 rcases Qm h with h|⟨_,h⟩
 ·exact ruleB_step a hs h
 rcases Qm h with h|⟨_,h⟩
 ·exact ruleT_step a hs h
 rcases Qm h with h|⟨_,h⟩
 ·exact ruleL_step a hs h
 rcases Qm h with h|⟨_,h⟩
 ·exact ruleW_step a hs h
 rcases Qm h with h|⟨_,h⟩
 ·exact ruleS_step a hs h
 ·exact ruleF_step a hs h
theorem one_cases (a:declOk ds=true) (hs:sortM ds t≠ -1):(ruleA ds t=none/\oneT ds t=t)\/Step ds t (oneT ds t):=by
 unfold oneT;cases h:ruleA ds t with
 |none=>grind
 |some u=>exact .inr (qB0 a hs h)
end
end
section
section
variable {ds:List Dcl} {env:List Int} {t u:Tm} {w n:Int}
theorem kid_size {i:Nat} (h:i<t.ks.length):sizeM (kid t i)+1<=sizeM t/\deepM (kid t i)+1<=deepM t:=by
 have a:=szT_all t;have b:=dpT_all t;have c:=szT_mono (ks:=t.ks) (i:=i+1) (j:=t.ks.length) oM oM;have d:=dpT_mono (ks:=t.ks) (i:=i+1) (j:=t.ks.length) oM oM
 grind [szT_succ,dpT_succ,kid]
theorem size_pos:1<=sizeM t/\1<=deepM t:=by rw[sizeM_eq,Yi];omega
theorem const_size:sizeM (constM w n)<=2/\deepM (constM w n)<=2:=by
 have leaf:∀o a b s,sizeM (.mk o a b s [])=1/\deepM (.mk o a b s [])=1:=λo a b s=>by rw[sizeM_eq,Yi];exact⟨rfl,rfl⟩
 have c:sizeM truT=1/\deepM truT=1:=leaf _ _ _ _;have d:sizeM flsT=2/\deepM flsT=2:=by
  rw[sizeM_eq,Yi];show 1+(sizeM truT+0)=2/\1+max 0 (deepM truT)=2;omega
 grind [constM]
theorem src_size (h:Src t u):sizeM u<=sizeM t/\deepM u<=deepM t:=by
 cases h with
 |kid i h=>have:=kid_size h;omega
 |deep i j h a=>have:=kid_size h;have:=kid_size a;omega
 |const w n h a=>
  have b:0<t.ks.length:=(by grind);have:=kid_size (t:=t) (i:=0) b
  grind [size_pos,const_size]
theorem one_good' (a:declOk ds=true) (hs:sortM ds t≠ -1):sortM ds (oneT ds t)=sortM ds t/\(∀env,envOk ds env=true->evalM ds env (oneT ds t)=evalM ds env t)/\sizeM (oneT ds t)<=sizeM t/\deepM (oneT ds t)<=deepM t:=by
 rcases one_cases a hs with⟨_,e⟩|h
 ·grind
 ·exact⟨h.sort,h.eval,src_size h.src⟩
def remake (t:Tm) (us:List Tm):Tm:= .mk t.op t.a t.b t.s us
theorem yv0 {us:List Tm} (b:us.length=t.ks.length) (h:us.map (sortM ds)=t.ks.map (sortM ds)):sortM ds (remake t us)=sortM ds t:=by
 rw[sortM_eq ds (remake t us),sortM_eq ds t];show sortF ds (remake t us) (us.map (sortM ds))=_;rw[h];have a:formed (remake t us)=formed t:=by
  show(decide (arity t.op=(us.length:Int))&&plainM t)=_;rw[b];rfl
 unfold sortF;rw[a];rfl
theorem yw0 {us:List Tm} (a:us.length=t.ks.length) (h:us.map (vecM ds env)=t.ks.map (vecM ds env)):evalM ds env (remake t us)=evalM ds env t:=by
 rw[evalM_eq,evalM_eq];show valK ds env (remake t us) (us.map (vecM ds env))=_;rw[h];rfl
theorem sum_le {f g:Tm->Nat}:∀{ks:List Tm},(∀k,k∈ks->f k<=g k)->(ks.map f).sum<=(ks.map g).sum
 |[],_=>gB _
 |k::r,h=>by
  have b:=h k gq;have c:=sum_le (ks:=r) λx a=>h x (gu _ a)
  grind
theorem max_le {f g:Tm->Nat}:∀{ks:List Tm} {a b:Nat},a<=b->(∀k,k∈ks->f k<=g k)->(ks.map f).foldl max a<=(ks.map g).foldl max b
 |[],a,b,c,_=>c
 |k::r,a,b,c,h=>by
  have e:=h k gq;simp only[GK,List.foldl_cons];exact max_le (ks:=r) oM λx d=>h x (gu _ d)
structure Good (ds:List Dcl) (t u:Tm):Prop where
 sort:sortM ds u=sortM ds t
 eval:∀env,envOk ds env=true->evalM ds env u=evalM ds env t
 size:sizeM u<=sizeM t
 deep:deepM u<=deepM t
theorem remake_good {f:Tm->Tm} (h:∀k,k∈t.ks->Good ds k (f k)):Good ds t (remake t (t.ks.map f)):=by
 have d:(t.ks.map f).length=t.ks.length:=by grind
 refine⟨yv0 d ?_,λenv he=>yw0 d ?_,?_,?_⟩
 ·rw[GY];exact Gp λk c=>(h k c).sort
 ·rw[GY];exact Gp λk c=>by show vecM ds env (f k)=_;rw[vecM_pair,vecM_pair,(h k c).sort,(h k c).eval env he]
 ·rw[sizeM_eq,sizeM_eq t];show 1+((t.ks.map f).map sizeM).sum<=_;rw[GY];have:=sum_le (f:=sizeM∘f) (g:=sizeM) (ks:=t.ks) λk c=>(h k c).size;omega
 ·rw[Yi,Yi t];show 1+((t.ks.map f).map deepM).foldl max 0<=_;rw[GY];have:=max_le (f:=deepM∘f) (g:=deepM) (ks:=t.ks) (a:=0) (b:=0) (gB _) λk c=>(h k c).deep;omega
theorem foldT_rem (ds:List Dcl) (t:Tm):foldT ds t=oneT ds (remake t (t.ks.map (foldT ds))):=kA0 ds t
theorem fold_good (c:declOk ds=true):∀t,sortM ds t≠ -1->Good ds t (foldT ds t):=by
 refine Tm.ind λt e hs=>?_;have d:=(sort_parts hs).2.1;have a:Good ds t (remake t (t.ks.map (foldT ds))):=by grind [remake_good]
 have b:=one_good' c (t:=remake t (t.ks.map (foldT ds))) (by rw[a.sort];exact hs);rw[foldT_rem];exact⟨b.1.trans a.sort,λenv he=>(b.2.1 env he).trans (a.eval env he),gO b.2.2.1 a.size,gO b.2.2.2 a.deep⟩
theorem kids_good (a:declOk ds=true) (hs:sortM ds t≠ -1):Good ds t (remake t (t.ks.map (foldT ds))):=remake_good λk b=>fold_good a k ((sort_parts hs).2.1 k b)
theorem leaf_none (h:t.ks=[]) (e:t.op=20\/t.op=21\/t.op=24):ruleA ds t=none:=by
 have a:t.ks.length=0:=by rw[h];rfl
 have x:ruleX ds t=none:=by
  unfold ruleX allFixed;rw[h];rfl
 have b:ruleB t=none:=by unfold ruleB;grind
 have c:ruleT t=none:=by unfold ruleT;grind
 have d:ruleL ds t=none:=by unfold ruleL;grind
 simp_all[ruleW,ruleS,ruleF,ruleA]
theorem kr0 (h:t.ks=[]) (a:t.op=20\/t.op=21\/t.op=24):oneT ds t=t:=by unfold oneT;rw[leaf_none h a];rfl
end
end
end Go.M
section
namespace Go.M
variable {ds:List Dcl} {env:List Int}
theorem Zz0 (ins:List Bool) (F:Gs):Rho (litV (valsG (true::ins) F)):=⟨λm h=>lit_neg _ h,by
 unfold litV;rw[K3 dC];exact Xw⟩
theorem ins_lit (F:Gs):Ins (litV (valsG (true::insM ds env) F)) ds env:=λi hi=>by
 unfold litV;rw[K3 oM,show((2:Int)+i-1).toNat=i+1 by omega];exact vals_low hi
def nIn (ds:List Dcl):Nat:=(bits ds).toNat
theorem nIn_eq (h:declOk ds=true):(nIn ds:Int)=bits ds/\nIn ds<=8:=by
 have:=bits_pos' (dpos h)
 grind [decl_iff,nIn]
theorem insM_n (he:envOk ds env=true):(insM ds env).length=nIn ds:=by
 have a:=(env_ok he).1;have:=insM_len (env_ok he).2.1 (dpos a);have:=(nIn_eq a).1;omega
def listB (ds:List Dcl) (ts:List Tm):Option (Gs×List (List Int)):=(seqB (ts.map (termB ds))).run (nIn ds) []
structure ListNet (ds:List Dcl) (ts:List Tm) (gs:Gs) (rs:List (List Int)):Prop where
 net:NetG (nIn ds) gs
 many:rs.length=ts.length
 has:∀r,r∈rs->hasL (1+nIn ds+gs.length) r
 len:∀i,i<ts.length->(rs.getD i []).length=lenS (sortM ds (ts.getD i default))
structure ListSays (ds:List Dcl) (ts:List Tm) (gs:Gs) (rs:List (List Int)):Prop extends ListNet ds ts gs rs where
 says:∀env,envOk ds env=true->rs.map (λr=>r.map (litV (valsG (true::insM ds env) gs)))=ts.map λu=>valB (sortM ds u) (evalM ds env u)
theorem nilG (n:Nat):NetG n []:=⟨by simp,λk h=>absurd h (by simp),pC⟩
theorem list_net {ts:List Tm} {gs:Gs} {rs:List (List Int)} (a:declOk ds=true) (hs:∀t,t∈ts->sortM ds t≠ -1) (h:listB ds ts=some (gs,rs)):ListNet ds ts gs rs:=by
 obtain⟨b,c⟩:=seq_reach (Bd.reach_of_run h);have f:=nIn_eq a;obtain⟨p1,p2⟩:=Bd.Hs.sound (nilG _) h (seq_h (k0:=1+nIn ds) (by simp) λt d k e=>term_h a t (hs t d) k oM);exact⟨p1,b,p2,λi hi=>term_len a _ (hs _ (getD_mem hi _)) (c i hi)⟩
theorem list_says {ts:List Tm} {gs:Gs} {rs:List (List Int)} (a:declOk ds=true) (hs:∀t,t∈ts->sortM ds t≠ -1) (h:listB ds ts=some (gs,rs)):ListSays ds ts gs rs:=by
 refine⟨list_net a hs h,λenv he=>?_⟩;have e:=nIn_eq a;refine(Says.sound (insM_n he) (nilG _) h (Px _) (Q:=λk rs=>rs.map (λr=>r.map (litV (valsG (true::insM ds env) gs)))=ts.map λu=>valB (sortM ds u) (evalM ds env u)) ?_).2;refine seq_sat (k0:=1+nIn ds) (by simp) (λt g {k Q} d f=>?_) (λi rs _ c b=>b)
 grind [term_sat,Zz0,ins_lit]
def rootsC (rs:List (List Int)):List (List Int):=rs.map λr=>[r.getD 0 0]
def blastC (ds:List Dcl) (gs:Gs) (rs:List (List Int)):Cnf:=netC (nIn ds) gs (rootsC rs)
def allT (ds:List Dcl) (env:List Int) (ts:List Tm):Prop:=∀t,t∈ts->evalM ds env t=1
section
variable {ts:List Tm} {gs:Gs} {rs:List (List Int)}
theorem head_mem {r:List Int} {w:Int} (h:r.length=lenS w):r.getD 0 0∈r:=getD_mem (by unfold lenS at h;omega) 0
theorem roots_ok (n:declOk ds=true) (h:ListNet ds ts gs rs):∀cl,cl∈rootsC rs->yR (1+nIn ds+gs.length:Nat) cl=true:=λcl a=>by
 obtain⟨r,f,rfl⟩:=gy.1 a;obtain⟨i,hi,e⟩:=gx f;have d:=h.len i (by have:=h.many;omega);rw[X0,gl hi,GA,e] at d;have b:=h.has r f _ (head_mem d);refine QO.2 λk g=>?_;simp only[gX] at g;have c:k=0:=oM
 subst c;refine⟨?_,.inl rfl⟩;show litOk _ (r.getD 0 0)=true;have j:=b.1;have l:=b.2.1;have m:=b.2.2
 grind [litOk]
theorem way_true (he:envOk ds env=true) (hs:∀t,t∈ts->sortM ds t=0) (h:ListSays ds ts gs rs) {v:Nat->Bool} (o:Follows v (nIn ds) gs) (hi:insV v (nIn ds)=insM ds env):
  (∀cl,cl∈rootsC rs->clT v cl)↔allT ds env ts:=by
 have b:=h.says env he;have q:∀i,i<ts.length->(litT v ((rs.getD i []).getD 0 0)=true↔evalM ds env (ts.getD i default)=1):=λi a=>by
  have hm:=h.many;have g:=h.len i a;have f:=hs _ (getD_mem a default);have p:=h.has _ (getD_mem (show i<rs.length by omega) []) _ (head_mem g);rw[o.lit p,hi];have j:(rs.map (λr=>r.map (litV (valsG (true::insM ds env) gs)))).getD i []=(rs.getD i []).map (litV (valsG (true::insM ds env) gs)):=(by grind);have k:(ts.map λu=>valB (sortM ds u) (evalM ds env u)).getD i []=valB (sortM ds (ts.getD i default)) (evalM ds env (ts.getD i default)):=(by grind);rw[b,k,f,ZC] at j
  grind [head_rho]
 constructor
 ·intro n t s;obtain⟨i,a,e⟩:=gx s;have hm:=h.many;obtain⟨l,g,w⟩:=n [(rs.getD i []).getD 0 0] (gy.2 ⟨_,getD_mem oM [],rfl⟩)
  grind
 ·intro m cl c;obtain⟨r,d,rfl⟩:=gy.1 c;obtain⟨i,a,e⟩:=gx d;have hm:=h.many;refine⟨r.getD 0 0,gz.2 rfl,?_⟩;have:=(q i oM).2 (m _ (getD_mem oM default))
  grind
end
end Go.M
end
namespace Go.M
open Go.Vc
section
section
variable {ds:List Dcl} {env:List Int} {d:Dcl} {x:Int}
theorem app_getD {α:Type} {l r:List α} {i:Nat} {e:α} (h:i<l.length):(l++r).getD i e=l.getD i e:=by
 grind
def rankE:List Dcl->List Int->Int
 |d::ds,n::env=>n*2^(bits ds).toNat+rankE ds env
 |[],_=>0
 |_::_,[]=>0
theorem bits_cons (d:Dcl) (ds:List Dcl):bits (d::ds)=d.2+bits ds:=by unfold bits;grind
theorem bits_nonneg:∀{ds:List Dcl},(∀d,d∈ds->0<=d.2)->0<=bits ds
 |[],_=>pw _
 |d::ds,h=>by
  have:=h d gq;have:=bits_nonneg (ds:=ds) λx a=>h x (gu _ a);rw[bits_cons];omega
theorem rank_zero:∀(ds:List Dcl) (n:Nat),rankE ds (List.replicate n 0)=0
 |[],n=>by cases n<;>rfl
 |d::ds,0=>rfl
 |d::ds,n+1=>by
  show(0:Int)*2^(bits ds).toNat+rankE ds (List.replicate n 0)=0;rw[rank_zero ds n];simp
def Tops (ds:List Dcl) (env:List Int) (i:Nat):Prop:=∀j,i<=j->j<ds.length->env.getD j 0=2^((ds.getD j (nada,0)).2).toNat-1
theorem rank_top:∀{ds:List Dcl} {env:List Int},env.length=ds.length->(∀d,d∈ds->0<=d.2)->Tops ds env 0->rankE ds env=2^(bits ds).toNat-1
 |[],[],_,_,_=>rfl
 |d::ds,n::env,b,c,h=>by
  have g:n=2^(d.2).toNat-1:=h 0 (gB _) (by simp);have a:∀x,x∈ds->0<=x.2:=(by grind);have l:=rank_top (ds:=ds) (env:=env) (by grind) a λj _ k=>by
   have:=h (j+1) (gQ _) (by grind)
   grind
  have i:=bits_nonneg a;have f:=c d gq;show n*2^(bits ds).toNat+rankE ds env=_;have e:(bits (d::ds)).toNat=d.2.toNat+(bits ds).toNat:=by rw[bits_cons];omega
  grind
 |[],_::_,b,_,_=>by simp at b
 |_::_,[],b,_,_=>by simp at b
def bump (env:List Int) (i:Nat):List Int:=env.take i++(env.getD i 0+1)::List.replicate (env.length-i-1) 0
theorem rank_bump:∀{ds:List Dcl} {env:List Int} {i:Nat},env.length=ds.length->(∀d,d∈ds->0<=d.2)->i<ds.length->Tops ds env (i+1)->rankE ds (bump env i)=rankE ds env+1
 |d::ds,n::env,0,b,c,_,h=>by
  have a:∀x,x∈ds->0<=x.2:=(by grind);have k:=rank_top (ds:=ds) (env:=env) (by grind) a λj _ e=>by
   have:=h (j+1) oM (by grind)
   grind
  show(n+1)*2^(bits ds).toNat+rankE ds (List.replicate _ 0)=n*2^(bits ds).toNat+rankE ds env+1
  grind [rank_zero]
 |d::ds,n::env,i+1,b,c,hi,h=>by
  have l:=rank_bump (ds:=ds) (env:=env) (i:=i) (by grind) (λx g=>c x (gu _ g)) (by grind) λj e f=>by
   have:=h (j+1) oM (by grind)
   grind
  grind [bump,rankE]
 |[],_,_,_,_,hi,_=>by simp at hi
 |_::_,[],_,b,_,_,_=>by simp at b
end
end
end Go.M
end
