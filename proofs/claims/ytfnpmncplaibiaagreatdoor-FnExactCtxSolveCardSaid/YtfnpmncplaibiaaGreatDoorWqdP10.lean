import Derived.Test.YtfnpmncplaibiaaGreatDoorWqdP9
/- A part of the proof. -/
set_option linter.all false
set_option maxRecDepth 9999
set_option maxHeartbeats 2000000
noncomputable section
section
namespace Go.M
def allI (n:Nat) (p:Nat->Bool):Bool:=(List.range n).all p
theorem allI_iff {n:Nat} {p:Nat->Bool}:allI n p=true↔ ∀k,k<n->p k=true:=by
 grind [allI]
def litOk (m l:Int):Bool:=decide (l≠0/\ -m<=l/\l<=m)
def yZ (m:Int) (xs:oI):Bool:=allI xs.length λk=>litOk m (xs.getD k 0)&&(k==0||decide ((xs.getD (k-1) 0).natAbs<(xs.getD k 0).natAbs))
structure Cnf where
 many:Int
 list:List (oI)
structure Sat where
 put:oI
 why:oI
 learned:List (oI)
 code:Int
def cnfOk (c:Cnf):Bool:=decide (0<=c.many)&&decide (c.many<=700)&&decide (c.list.length<=2500)&&allI c.list.length λk=>yZ c.many (c.list.getD k [])
def placeOf (put:oI) (v:Nat):Nat:=match(List.range put.length).find? (λi=>(put.getD i 0).natAbs==v) with|some i=>i+1 |none=>0
theorem Y2 {n i:Nat} {p:Nat->Bool} (hi:i<n) (b:p i=true) (a:∀j,j<i->p j=false):(List.range n).find? p=some i:=by
 simp_all
theorem placeOf_zero {put:oI} {v:Nat} (h:∀l,l∈put->l.natAbs≠v):placeOf put v=0:=by
 grind [placeOf]
theorem placeOf_pos {put:oI} {v:Nat} (h:placeOf put v≠0):placeOf put v<=put.length/\(put.getD (placeOf put v-1) 0).natAbs=v:=by
 grind [placeOf]
def Distinct (put:oI):Prop:=(put.map Int.natAbs).Nodup
theorem getD_meS {put:oI} {i:Nat} (hi:i<put.length):put.getD i 0∈put:=by
 grind
theorem placeOf_at {put:oI} (a:Distinct put) {i:Nat} (hi:i<put.length):placeOf put (put.getD i 0).natAbs=i+1:=by
 unfold placeOf;rw[Y2 hi (by simp) ?_];intro j b;have c:(put.map Int.natAbs)[j]'(by simp;omega)≠(put.map Int.natAbs)[i]'(by simp;omega):=Gu.1 a j i _ _ b
 grind
theorem placeOf_snoc {put:oI} {l:Int} (h:∀x,x∈put->x.natAbs≠l.natAbs) (v:Nat):placeOf (put++[l]) v=if v=l.natAbs then put.length+1 else placeOf put v:=by
 by_cases b:v=l.natAbs
 .rw[y3 b];unfold placeOf;rw[Y2 (i:=put.length) (by simp) (by simp[b]) ?_]
  grind
 .rw[y0 b];by_cases c:placeOf put v=0
  .rw[c];refine placeOf_zero λx a=>?_;rw[gk,gw] at a;rcases a with a|rfl
   .intro e;obtain⟨i,hi,rfl⟩:=gn a;unfold placeOf at c;cases d:(List.range put.length).find? (λi=>(put.getD i 0).natAbs==v) with
    |none=>
     simp_all
    |some k=>grind
   omega
  .unfold placeOf at c⊢;cases d:(List.range put.length).find? (λi=>(put.getD i 0).natAbs==v) with
   |none=>grind
   |some k=>
    grind [List.find?_eq_some_iff_getElem]
end Go.M
namespace Go.M
def lookM (put:oI):oI->Nat->Int->Bool×Nat×Int
 |[],n,x=>(false,n,x)
 |l::r,n,x=>if l∈put then(true,0,0) else if placeOf put l.natAbs=0 then lookM put r (n+1) l else lookM put r n x
theorem jq0 (put:oI) (n:Nat) (x:Int):lookM put [] n x=(false,n,x):=rfl
theorem Qs (put:oI) (l:Int) (r:oI) (n:Nat) (x:Int):lookM put (l::r) n x=if l∈put then(true,0,0) else if placeOf put l.natAbs=0 then lookM put r (n+1) l else lookM put r n x:=rfl
def findM (put:oI):List (oI)->Int->Int->Int->Int×Int×Int
 |[],_,u,x=>(-1,u,x)
 |c::r,k,u,x=>
  match lookM put c 0 0 with
  |(true,_,_)=>findM put r (k+1) u x
  |(false,0,_)=>(k,u,x)
  |(false,1,l)=>if u<0 then findM put r (k+1) k l else findM put r (k+1) u x
  |(false,_,_)=>findM put r (k+1) u x
theorem findM_cons (put:oI) (c:oI) (r:List (oI)) (k u x:Int):findM put (c::r) k u x=
  if(lookM put c 0 0).1=true then findM put r (k+1) u x else if(lookM put c 0 0).2.1=0 then(k,u,x) else
  if(lookM put c 0 0).2.1=1 then(if u<0 then findM put r (k+1) k (lookM put c 0 0).2.2 else findM put r (k+1) u x) else findM put r (k+1) u x:=by
 grind [findM]
def places (many:Nat) (put:oI):oI:=(List.range (many+1)).map λv=>(placeOf put v:Int)
theorem kX (many:Nat) (put:oI):(places many put).length=many+1:=by simp[places]
theorem places_get {many:Nat} {put:oI} {v:Nat} (h:v<=many):(places many put).getD v 0=placeOf put v:=by
 grind [places]
theorem placeOf_le (put:oI) (v:Nat):placeOf put v<=put.length:=by
 grind [placeOf_pos]
theorem placeOf_ne_zero {put:oI} {l:Int} (h:l∈put):placeOf put l.natAbs≠0:=by
 obtain⟨i,hi,rfl⟩:=gn h;intro e;unfold placeOf at e;cases a:(List.range put.length).find? (λj=>(put.getD j 0).natAbs==(put[i]).natAbs) with
 |none=>
  rw[pZ] at a;have:=a i (gJ.2 hi);simp[y2,hi] at this
 |some k=>grind
theorem mem_iff_place {put:oI} (a:Distinct put) {l:Int}:l∈put↔placeOf put l.natAbs≠0/\put.getD (placeOf put l.natAbs-1) 0=l:=by
 constructor
 .intro h;refine⟨placeOf_ne_zero h,?_⟩;obtain⟨i,hi,rfl⟩:=gn h;have:=placeOf_at a hi
  grind
 grind [placeOf_pos]
theorem Z0 {α:Type} {d:α} {xs:List α} {i:Nat} (h:i<xs.length):xs.drop i=xs.getD i d::xs.drop (i+1):=by
 simp_all
theorem getD_app_l {α:Type} {a b:List α} {d:α} {k:Nat} (h:k<a.length):(a++b).getD k d=a.getD k d:=by
 grind
theorem getD_app_r {α:Type} {a b:List α} {d:α} {j:Nat}:(a++b).getD (a.length+j) d=b.getD j d:=by
 grind
theorem JH (v:Nat):placeOf [] v=0:=rfl
theorem xW0 (many:Nat):places many []=List.replicate (many+1) 0:=by
 refine gL (by simp[places]) λi a b=>?_;simp[places,JH]
theorem places_snoc {many:Nat} {put:oI} {l:Int} (h:placeOf put l.natAbs=0):places many (put++[l])=(places many put).set l.natAbs (put.length+1:Nat):=by
 refine gL (by simp[places]) λi a c=>?_;simp only[places,y4,GP] at a;rw[pB];simp only[places,Pm,pd];have b:∀x,x∈put->x.natAbs≠l.natAbs:=by grind [placeOf_ne_zero]
 grind [placeOf_snoc]
theorem distinct_snoc {put:oI} {l:Int} (a:Distinct put) (h:placeOf put l.natAbs=0):Distinct (put++[l]):=by
 unfold Distinct;rw[gz,Gq];refine⟨a,by simp,?_⟩
 grind [placeOf_ne_zero]
theorem distinct_take {put:oI} (a:Distinct put) (n:Nat):Distinct (put.take n):=by
 grind [Distinct]
theorem places_unsnoc {many:Nat} {put:oI} {l:Int} (c:Distinct (put++[l])):(places many (put++[l])).set l.natAbs 0=places many put:=by
 have h:placeOf put l.natAbs=0:=by
  grind [placeOf_zero,Distinct]
 rw[places_snoc h,PQ];refine gL (by grind) λi a b=>?_
 grind [places]
theorem clauseOk_lit {m:Int} {xs:oI} (h:yZ m xs=true) {x:Int} (b:x∈xs):x≠0/\ -m<=x/\x<=m:=by
 obtain⟨k,a,rfl⟩:=gn b;have:=allI_iff.1 h k a
 grind [litOk]
theorem clauseOk_up {m:Int} {xs:oI} (h:yZ m xs=true):∀k,k<xs.length->k+1<=(xs.getD k 0).natAbs
 |0,a=>by have:=(clauseOk_lit h (getD_meS a)).1;omega
 |k+1,a=>by
  have b:=clauseOk_up h k oM;have:=allI_iff.1 h (k+1) a
  grind
theorem clauseOk_len {m:Nat} {xs:oI} (h:yZ m xs=true):xs.length<=m:=by
 cases c:xs.length with
 |zero=>omega
 |succ n=>
  have a:=clauseOk_up h n oM;have b:=clauseOk_lit h (getD_meS (show n<xs.length by omega));omega
def lvl (ds:List Bool) (i:Nat):Nat:=(ds.take (i+1)).count true
def levels (ds:List Bool):oI:=(List.range ds.length).map λi=>(lvl ds i:Int)
theorem Yd (ds:List Bool):(levels ds).length=ds.length:=by simp[levels]
theorem Qu {ds:List Bool} {i:Nat} (h:i<ds.length):(levels ds).getD i 0=lvl ds i:=by simp[levels,y2,h]
theorem lvl_le (ds:List Bool) (i:Nat):lvl ds i<=ds.length:=gH (pS) (by simp;omega)
theorem jn0 {ds:List Bool} {i:Nat} (h:ds.length<=i+1):lvl ds i=ds.count true:=by unfold lvl;rw[gC h]
theorem levels_snoc (ds:List Bool) (d:Bool):levels (ds++[d])=levels ds++[((ds.count true+d.toNat:Nat):Int)]:=by
 refine gL (by simp[levels]) λi a b=>?_;simp only[levels,y4,GP,q0,Gd] at a;by_cases hi:i<ds.length
 .grind [levels,lvl]
 grind [levels,jn0]
theorem levels_take (ds:List Bool) (n:Nat):(levels ds).take n=levels (ds.take n):=by
 refine gL (by simp[levels]) λi a b=>?_;simp only[levels,y4,GP,gh] at a b
 grind [levels,lvl]
def yC (why:oI):List Bool:=why.map λy=>decide (y= -1)
theorem kI (why:oI):(yC why).length=why.length:=by simp[yC]
theorem jY0 (why:oI) (y:Int):yC (why++[y])=yC why++[decide (y= -1)]:=by simp[yC]
theorem yp0 (why:oI) (n:Nat):(yC why).take n=yC (why.take n):=by simp[yC]
def backN (ds:List Bool) (L:Int):Nat->Nat
 |0=>0
 |n+1=>if L<lvl ds n then backN ds L n else n+1
theorem backN_le (ds:List Bool) (L:Int) (n:Nat):backN ds L n<=n:=by
 induction n with
 |zero=>exact gp _
 |succ n a=>unfold backN;grind
theorem lvl_take {ds:List Bool} {i n:Nat} (h:i<n):lvl (ds.take n) i=lvl ds i:=by grind [lvl]
def lvM (put:oI) (ds:List Bool) (k:Int):Nat:=lvl ds (placeOf put k.natAbs-1)
structure TopOf (put:oI) (ds:List Bool) (ks:oI) (top:Nat) (xs:oI):Prop where
 le:∀k,k∈ks->lvM put ds k<=top
 mem:∀k,k∈xs↔k∈ks/\lvM put ds k=top
 ne:top=0\/xs≠[]
 nd:xs.Nodup
def atM (c:Cnf) (s:Sat) (k:Nat):oI:=(c.list++s.learned).getD k []
def marksOk (many:Nat) (put:oI):Prop:=Distinct put/\∀x,x∈put->x≠0/\x.natAbs<=many
def badM (put:oI) (k:Nat) (l:Int):Bool:=decide (l≠put.getD k 0)&&(decide (placeOf put l.natAbs=0)||(decide (l∈put)||decide ((k:Int)<=(placeOf put l.natAbs:Int)-1)))
def q50 (put:oI) (k:Nat) (cl:oI):Bool:=decide (put.getD k 0∈cl)&& !((List.range cl.length).any λi=>badM put k (cl.getD i 0))
def qG0 (c:Cnf) (s:Sat) (k:Nat):Prop:=s.why.getD k 0= -1\/(0<=s.why.getD k 0/\s.why.getD k 0<c.list.length+s.learned.length/\q50 s.put k (atM c s (s.why.getD k 0).toNat)=true)
structure satOk (many:Nat) (c:Cnf) (s:Sat):Prop where
 cnf:cnfOk c=true
 few:s.learned.length<=300
 c0:0<=s.code
 c3:s.code<=3
 len:s.put.length=s.why.length
 lrn:∀x,x∈s.learned->yZ c.many x=true
 mks:marksOk many s.put
 why:∀k,k<s.why.length->qG0 c s k
end Go.M
namespace Go.M
def Srt (xs:oI):Prop:=xs.Pairwise λa b=>a.natAbs<b.natAbs
theorem srt_ext:∀{xs ys:oI},Srt xs->Srt ys->(∀k,k∈xs↔k∈ys)->xs=ys
 |[],[],_,_,_=>rfl
 |[],y::ys,_,_,h=>by grind [List.mem_cons_self]
 |x::xs,[],_,_,h=>by grind [List.mem_cons_self]
 |x::xs,y::ys,a,b,h=>by
  unfold Srt at a b;rw[pY] at a b;have e:x=y:=by
   grind
  subst e;rw[srt_ext (xs:=xs) (ys:=ys) a.2 b.2 λk=>?_]
  grind
theorem clauseOk_srt {m:Int} {xs:oI} (h:yZ m xs=true):Srt xs:=by
 have step:∀k,k+1<xs.length->(xs.getD k 0).natAbs<(xs.getD (k+1) 0).natAbs:=λk b=>by
  have:=allI_iff.1 h (k+1) b
  grind
 have far:∀d k,k+d+1<xs.length->(xs.getD k 0).natAbs<(xs.getD (k+d+1) 0).natAbs:=by
  intro d;induction d with
  |zero=>omega
  |succ d e=>
   grind
 unfold Srt;rw[Gu];intro i j hi c a;have:=far (j-i-1) i oM;rw[show i+(j-i-1)+1=j from by omega] at this
 grind
def Qv (many:Nat) (a b:oI) (m:Nat):oI:=(List.range many).filterMap λi=>
 if i+1=m then none else if((i+1:Nat):Int)∈a\/((i+1:Nat):Int)∈b then some ((i+1:Nat):Int) else if-((i+1:Nat):Int)∈a\/ -((i+1:Nat):Int)∈b then some (-((i+1:Nat):Int)) else none
theorem mem_joinM {many m:Nat} {a b:oI} (f:∀k,k∈a++b->k.natAbs≠m-> -k∉a++b) (c:∀k,k∈a++b->k≠0/\k.natAbs<=many) (k:Int):k∈Qv many a b m↔(k∈a\/k∈b)/\k.natAbs≠m:=by
 unfold Qv;simp only[List.mem_filterMap,gJ];constructor
 .grind
 .rintro⟨h,d⟩;have hm:k∈a++b:=(by grind);obtain⟨e,hle⟩:=c k hm;refine⟨k.natAbs-1,oM,?_⟩
  grind
theorem joinM_srt (many:Nat) (a b:oI) (m:Nat):Srt (Qv many a b m):=by
 unfold Qv Srt;rw[List.pairwise_filterMap];refine List.Pairwise.imp ?_ List.pairwise_lt_range
 grind
theorem distinct_eq {put:oI} (a:Distinct put) {x y:Int} (b:x∈put) (c:y∈put) (h:x.natAbs=y.natAbs):x=y:=by
 grind [mem_iff_place]
def Fls (put cl:oI):Prop:=∀k,k∈cl-> -k∈put
def maxL (xs:List Nat):Nat:=xs.foldl max 0
theorem foldl_max_le {xs:List Nat} {a x:Nat} (h:x∈xs\/x<=a):x<=xs.foldl max a:=by
 induction xs generalizing a with
 |nil=>grind
 |cons y r b=>
  grind
theorem Zi {xs:List Nat} {x:Nat} (h:x∈xs):x<=maxL xs:=foldl_max_le (.inl h)
theorem foldl_max_mem (xs:List Nat) (a:Nat):xs.foldl max a=a\/xs.foldl max a∈xs:=by
 induction xs generalizing a with
 |nil=>grind
 |cons y r b=>
  grind
theorem jd {xs:List Nat}:maxL xs=0\/maxL xs∈xs:=foldl_max_mem xs 0
theorem lvl_mono {ds:List Bool} {i j:Nat} (h:i<=j):lvl ds i<=lvl ds j:=by
 unfold lvl;refine List.Sublist.count_le true ?_;have:ds.take (i+1)=(ds.take (j+1)).take (i+1):=by grind
 grind
def lastPl (put cl:oI):Nat:=maxL (cl.map λk=>placeOf put k.natAbs)
theorem lastPl_top {put cl xs:oI} {ds:List Bool} {top:Nat} {m:Int} (h:TopOf put ds cl top xs) (hm:m∈xs) (a:∀x,x∈xs->placeOf put x.natAbs<=placeOf put m.natAbs):placeOf put m.natAbs=lastPl put cl:=by
 have b:=(h.mem m).1 hm;have d:placeOf put m.natAbs<=lastPl put cl:=Zi (gr.2 ⟨m,b.1,rfl⟩);rcases jd (xs:=cl.map λk=>placeOf put k.natAbs) with e|e
 .unfold lastPl at d⊢;omega
 .obtain⟨q,c,e⟩:=gr.1 e;have i:placeOf put q.natAbs=lastPl put cl:=e;have j:lvM put ds m<=lvM put ds q:=lvl_mono oM;have f:=h.le q c;have g:=a q ((h.mem q).2 ⟨c,oM⟩);omega
theorem two_mem {xs:oI} (d:xs.Nodup) (h:2<=xs.length) (p:Int):∃q,q∈xs/\q≠p:=by
 match xs,d,h with
 |a::b::r,d,_=>
  have c:a≠b:=(by grind);by_cases e:a=p
  .exact⟨b,by simp,λf=>c (by rw[e,f])⟩
  simp_all
theorem impl_of {put cl:oI} {k:Nat} (h:q50 put k cl=true):put.getD k 0∈cl/\∀l,l∈cl->l≠put.getD k 0->placeOf put l.natAbs≠0/\l∉put/\placeOf put l.natAbs<=k:=by
 unfold q50 at h;simp only[gd,X0,gV,pM] at h;refine⟨h.1,λl c a=>?_⟩;obtain⟨i,hi,rfl⟩:=gn c;have:=h.2 i (gJ.2 hi);simp only[y2,V0 hi,GO,badM] at this a⊢;simp only[gd,Gv,X0,not_and,not_or] at this;have b:=this a;exact⟨b.1,b.2.1,by have:=b.2.2;omega⟩
theorem false_of {put:oI} {l:Int} (a:placeOf put l.natAbs≠0) (b:l∉put): -l∈put:=by
 grind [placeOf]
theorem lvl_decided {ds:List Bool} {i k:Nat} (c:k<ds.length) (b:ds.getD k false=true) (h:i<k):lvl ds i<lvl ds k:=by
 have a:lvl ds i<=(ds.take k).count true:=by
  unfold lvl;refine List.Sublist.count_le true ?_;have:ds.take (i+1)=(ds.take k).take (i+1):=by grind
  grind
 grind [lvl,List.take_add_one]
theorem z00 {why:oI} {k:Nat} (a:k<why.length):(yC why).getD k false=decide (why.getD k 0= -1):=by
 simp[yC,y2,a]
theorem last_reason {many:Nat} {c:Cnf} {s:Sat} (h:satOk many c s) {cl xs:oI} {top k:Nat} (hF:Fls s.put cl) (g:TopOf s.put (yC s.why) cl top xs) (t:2<=xs.length) (C:lastPl s.put cl=k+1):
  k<s.put.length/\ -(s.put.getD k 0)∈cl/\0<=s.why.getD k 0/\s.why.getD k 0<c.list.length+s.learned.length/\q50 s.put k (atM c s (s.why.getD k 0).toNat)=true/\
  ∃q,q∈cl/\q≠ -(s.put.getD k 0)/\lvM s.put (yC s.why) q=top:=by
 have u:=h.mks.1;obtain⟨b,f,A⟩:∃q,q∈cl/\placeOf s.put q.natAbs=k+1:=by
  grind [jd,lastPl]
 have l:=placeOf_pos (put:=s.put) (v:=b.natAbs) oM;rw[A,GN] at l;have i:k<s.put.length:=oM
 have E:s.put.getD k 0= -b:=distinct_eq u (getD_meS i) (hF b f) oM;have hle:∀q,q∈cl->placeOf s.put q.natAbs<=k+1:=λq F=>by rw[<-C];exact Zi (gr.2 ⟨q,F,rfl⟩)
 have w:lvM s.put (yC s.why) b=top:=by
  obtain⟨x,H,-⟩:=two_mem g.nd t 0;have p:=(g.mem x).1 H;have r:=hle x p.1;have B:lvM s.put (yC s.why) x<=lvM s.put (yC s.why) b:=lvl_mono oM;have:=g.le b f;omega
 obtain⟨d,o,D⟩:=two_mem g.nd t b;have a:=(g.mem d).1 o;have z:=hle d a.1;have y:placeOf s.put d.natAbs≠k+1:=λe=>by
  have m:=placeOf_pos (put:=s.put) (v:=d.natAbs) oM;rw[e,GN] at m;have:=distinct_eq u (hF d a.1) (hF b f) oM;omega
 have n:placeOf s.put d.natAbs≠0:=by have:=placeOf_ne_zero (hF d a.1);grind
 have G:s.why.length=s.put.length:=h.len.symm;have j:s.why.getD k 0≠ -1:=λe=>by
  have r:(yC s.why).getD k false=true:=by rw[z00 oM];grind
  have B:lvM s.put (yC s.why) d<lvl (yC s.why) k:=lvl_decided (by grind) r oM
  grind [lvM]
 rcases h.why k oM with e|⟨I,a2,a3⟩
 .omega
 grind
theorem satOk.lit {many:Nat} {c:Cnf} {s:Sat} (h:satOk many c s) (e:c.many=many) {k:Nat} (j:k<c.list.length+s.learned.length) {l:Int} (f:l∈atM c s k):l≠0/\l.natAbs<=many:=by
 have a:atM c s k∈c.list++s.learned:=by
  grind [atM]
 have b:∀x,x∈c.list->yZ c.many x=true:=λx g=>by
  have d:=h.cnf;unfold cnfOk at d;rw[gd] at d;obtain⟨i,hi,rfl⟩:=gn g
  grind [allI_iff]
 have:=(gk.1 a).elim (b _) (h.lrn _);have:=clauseOk_lit this f;omega
theorem learn_join {many:Nat} {c:Cnf} {s:Sat} (h:satOk many c s) (x:c.many=many) {cl xs:oI} {top k:Nat} (hF:Fls s.put cl) (D:TopOf s.put (yC s.why) cl top xs) (E:2<=xs.length) (B:lastPl s.put cl=k+1):
  let r:=atM c s (s.why.getD k 0).toNat
  let a:=Qv many cl r (s.put.getD k 0).natAbs
  (∀l,l∈a↔(l∈cl/\l≠ -(s.put.getD k 0))\/(l∈r/\l≠s.put.getD k 0))/\Fls s.put a/\lastPl s.put a<=k/\(∀l,l∈a->lvM s.put (yC s.why) l<=top)/\∃q,q∈a/\lvM s.put (yC s.why) q=top:=by
 intro r a;obtain⟨m,z,L,M,himp,q,J,o,A⟩:=last_reason h hF D E B;have y:=h.mks.1;have N:(0:Int)∉s.put:=λe=>(h.mks.2 0 e).1 rfl;obtain⟨I,C⟩:=impl_of himp;have n:s.put.getD k 0∈s.put:=getD_meS m;have H:placeOf s.put (s.put.getD k 0).natAbs=k+1:=placeOf_at y m;generalize G:s.put.getD k 0=p at*;have t:(s.why.getD k 0).toNat<c.list.length+s.learned.length:=oM
 have F:∀l,l∈r->l≠p-> -l∈s.put:=by grind [false_of]
 have off:∀l,l∈cl++r->l.natAbs≠p.natAbs-> -l∈s.put:=λl b d=>by
  rcases gk.1 b with b|b
  .exact hF l b
  grind
 have i:∀l,l∈cl++r->l.natAbs≠p.natAbs-> -l∉cl++r:=λl b d Q=>by
  grind [distinct_eq]
 have w:∀l,l∈cl++r->l≠0/\l.natAbs<=many:=λl b=>by
  rcases gk.1 b with b|b
  .have:=h.mks.2 _ (hF l b);omega
  .exact h.lit x t b
 have f:∀l,l∈a↔(l∈cl/\l≠ -p)\/(l∈r/\l≠p):=λl=>by
  have e:a=Qv many cl r p.natAbs:=(by grind);rw[e,mem_joinM i w];constructor
  .grind
  .rintro(⟨g,d⟩|⟨g,d⟩)
   .refine⟨.inl g,λe=>d ?_⟩;have:=distinct_eq y (hF l g) n oM;omega
   grind
 have u:∀l,l∈a->placeOf s.put l.natAbs<=k:=λl b=>by
  rcases(f l).1 b with⟨g,d⟩|⟨g,d⟩
  .have O:placeOf s.put l.natAbs<=k+1:=by rw[<-B];exact Zi (gr.2 ⟨l,g,rfl⟩)
   have P:placeOf s.put l.natAbs≠k+1:=λe=>by
    have:=placeOf_pos (put:=s.put) (v:=l.natAbs) oM;rw[e,GN,G] at this;have:=distinct_eq y (hF l g) n oM;omega
   omega
  grind
 have j:lvl (yC s.why) k=top:=by
  have R:=D.le _ z;have K:lvM s.put (yC s.why) q<=lvl (yC s.why) k:=lvl_mono (by
   grind)
  grind [lvM]
 refine⟨f,λl b=>?_,?_,λl b=>?_,q,(f q).2 (.inl ⟨J,o⟩),A⟩
 .grind
 .grind [lastPl,jd]
 .rw[<-j];exact lvl_mono (by grind)
def Z4 (put:oI) (ds:List Bool) (cl:oI):Nat:=maxL (cl.map (lvM put ds))
def Jx (put:oI) (ds:List Bool) (cl:oI):oI:=cl.filter λk=>lvM put ds k==Z4 put ds cl
theorem srt_nodup {cl:oI} (h:Srt cl):cl.Nodup:=List.Pairwise.imp (λh e=>oM) h
theorem topOf_tops {put:oI} {ds:List Bool} {cl:oI} (h:cl.Nodup):TopOf put ds cl (Z4 put ds cl) (Jx put ds cl):=by
 refine⟨λk a=>Zi (Ga a),λk=>by simp[Jx],?_,h.sublist List.filter_sublist⟩;rcases jd (xs:=cl.map (lvM put ds)) with e|e
 .exact .inl e
 .obtain⟨q,b,e⟩:=gr.1 e;have:q∈Jx put ds cl:=by simp only[Jx,PT,beq_iff_eq];exact⟨b,e⟩
  grind
theorem topOf_top {put:oI} {ds:List Bool} {cl xs a:oI} {t b:Nat} (h:TopOf put ds cl t xs) (c:TopOf put ds cl b a):t=b:=by
 have le:∀{t b:Nat} {xs a:oI},TopOf put ds cl t xs->TopOf put ds cl b a->t<=b:=by
  intro t b xs a h c;rcases h.ne with e|e
  .omega
  .obtain⟨x,f⟩:=ph _ e;have d:=(h.mem x).1 f;have:=c.le x d.1;omega
 grind
theorem qU0 {put:oI} {ds:List Bool} {cl xs a:oI} {t d:Nat} (h:TopOf put ds cl t xs) (b:TopOf put ds cl d a):xs.length=a.length:=by
 have e:=topOf_top h b;subst e;exact PX (h.nd.length_le_of_subset λx c=>(b.mem x).2 ((h.mem x).1 c)) (b.nd.length_le_of_subset λx c=>(h.mem x).2 ((b.mem x).1 c))
theorem Jy {put:oI} {ds:List Bool} {cl a xs:oI} {t:Nat} (b:∀k,k∈cl↔k∈a) (h:TopOf put ds cl t xs):TopOf put ds a t xs:=
 ⟨λk c=>h.le k ((b k).2 c),λk=>by rw[h.mem,b],h.ne,h.nd⟩
def jH (many:Nat) (c:Cnf) (s:Sat) (cl:oI):oI:=
 Qv many cl (atM c s (s.why.getD (lastPl s.put cl-1) 0).toNat) (s.put.getD (lastPl s.put cl-1) 0).natAbs
def learnM (many:Nat) (c:Cnf) (s:Sat):Nat->oI->oI
 |0,cl=>cl
 |f+1,cl=>if(Jx s.put (yC s.why) cl).length<=1 then cl else learnM many c s f (jH many c s cl)
theorem lastPl_pos {put cl:oI} (hF:Fls put cl) (h:cl≠[]):lastPl put cl≠0:=by
 obtain⟨q,a⟩:=ph _ h;have b:placeOf put q.natAbs<=lastPl put cl:=Zi (gr.2 ⟨q,a,rfl⟩);have:=placeOf_ne_zero (hF q a)
 grind
theorem learnS_ok {many:Nat} {c:Cnf} {s:Sat} (h:satOk many c s) (b:c.many=many) {cl:oI} (hF:Fls s.put cl) (hs:Srt cl) (f:2<=(Jx s.put (yC s.why) cl).length):
  Fls s.put (jH many c s cl)/\Srt (jH many c s cl)/\lastPl s.put (jH many c s cl)<lastPl s.put cl/\Z4 s.put (yC s.why) (jH many c s cl)=Z4 s.put (yC s.why) cl:=by
 have m:=topOf_tops (put:=s.put) (ds:=yC s.why) (srt_nodup hs);have d:cl≠[]:=λe=>by subst e;simp[Jx] at f
 have u:=lastPl_pos hF d;obtain⟨k,i⟩:∃k,lastPl s.put cl=k+1:=⟨lastPl s.put cl-1,oM⟩;obtain⟨hm,g,r,t,q,j,l⟩:=learn_join h b hF m f i;have e:jH many c s cl=Qv many cl (atM c s (s.why.getD k 0).toNat) (s.put.getD k 0).natAbs:=by unfold jH;grind
 rw[e];refine⟨g,joinM_srt _ _ _ _,oM,?_⟩;have a:=topOf_tops (put:=s.put) (ds:=yC s.why) (srt_nodup (joinM_srt many cl (atM c s (s.why.getD k 0).toNat) (s.put.getD k 0).natAbs));have p:=a.le q j;rcases a.ne with e|e
 .omega
 .obtain⟨x,n⟩:=ph _ e;have o:=(a.mem x).1 n
  grind
theorem learnM_ok {many:Nat} {c:Cnf} {s:Sat} (h:satOk many c s) (a:c.many=many):∀{f:Nat} {cl:oI},Fls s.put cl->Srt cl->lastPl s.put cl<=f->
  Fls s.put (learnM many c s f cl)/\Srt (learnM many c s f cl)/\Z4 s.put (yC s.why) (learnM many c s f cl)=Z4 s.put (yC s.why) cl/\(Jx s.put (yC s.why) (learnM many c s f cl)).length<=1
 |0,cl,hF,hs,g=>by
  refine⟨hF,hs,rfl,?_⟩;have:cl=[]:=GK λb=>lastPl_pos hF b oM;subst this;simp[learnM,Jx]
 |f+1,cl,hF,hs,g=>by
  unfold learnM;by_cases e:(Jx s.put (yC s.why) cl).length<=1
  .grind
  .rw[y0 e];obtain⟨d,a2,a3,a4⟩:=learnS_ok h a hF hs oM;obtain⟨b1,b2,b3,b4⟩:=learnM_ok h a (f:=f) d a2 oM
   grind
end Go.M
namespace Go.M
def Y6 (put:oI) (ds:List Bool) (cl:oI):Nat:=maxL ((cl.filter λk=>decide (lvM put ds k<Z4 put ds cl)).map (lvM put ds))
def kk (many:Nat) (c:Cnf) (s:Sat) (cl:oI):Sat:=
 if Z4 s.put (yC s.why) cl=0 then{s with code:=2}
 else if s.learned.length=300 then{s with code:=3}
 else
  {s with
   put:=s.put.take (backN (yC s.why) (Y6 s.put (yC s.why) (learnM many c s s.put.length cl)) s.put.length)
   why:=s.why.take (backN (yC s.why) (Y6 s.put (yC s.why) (learnM many c s s.put.length cl)) s.put.length)
   learned:=s.learned++[learnM many c s s.put.length cl]}
def Zw (many:Nat) (put:oI):Nat:=((List.range many).find? λi=>decide (placeOf put (i+1)=0)).getD 0+1
def goM (many:Nat) (c:Cnf) (s:Sat):Sat:=
 match findM s.put (c.list++s.learned) 0 (-1) 0 with
 |(k,u,x)=>if 0<=k then kk many c s (atM c s k.toNat) else if 0<=u then{s with put:=s.put++[x],why:=s.why++[u]}
  else if s.put.length=many then{s with code:=1} else{s with put:=s.put++[-(Zw many s.put:Int)],why:=s.why++[-1]}
def stepM (many:Nat) (c:Cnf) (s:Sat):Sat:=if s.code=0 then goM many c s else s
def runM (many:Nat) (c:Cnf):Nat->Sat->Sat
 |0,s=>s
 |n+1,s=>runM many c n (stepM many c s)
def emptyS:Sat:=⟨[],[],[],0⟩
def kJ (put cl:oI):Prop:=∀l,l∈cl->l∉put/\placeOf put l.natAbs≠0
theorem lookM_spec (put:oI):∀(cl:oI) (n:Nat) (x:Int),((∃l,l∈cl/\l∈put)/\lookM put cl n x=(true,0,0))\/
  ((∀l,l∈cl->l∉put)/\∃y,lookM put cl n x=(false,n+(cl.filter λl=>decide (placeOf put l.natAbs=0)).length,y)/\(y=x/\(cl.filter λl=>decide (placeOf put l.natAbs=0))=[]\/y∈cl/\placeOf put y.natAbs=0))
 |[],n,x=> .inr ⟨by simp,x,by simp[jq0],.inl ⟨rfl,rfl⟩⟩
 |l::r,n,x=>by
  rw[Qs];by_cases b:l∈put
  .grind
  rw[y0 b];by_cases a:placeOf put l.natAbs=0
  .rw[y3 a];rcases lookM_spec put r (n+1) l with⟨⟨q,f,d⟩,e⟩|⟨c,y,e,g⟩
   .grind
   grind
  .rw[y0 a];rcases lookM_spec put r n x with⟨⟨q,f,d⟩,e⟩|⟨c,y,e,g⟩
   .grind
   grind
def unitC (put cl:oI) (x:Int):Prop:=(∀l,l∈cl->l∉put)/\(cl.filter λl=>decide (placeOf put l.natAbs=0))=[x]
theorem look_clash {put cl:oI}:kJ put cl↔(lookM put cl 0 0).1=false/\(lookM put cl 0 0).2.1=0:=by
 rcases lookM_spec put cl 0 0 with⟨⟨l,a,c⟩,e⟩|⟨b,y,e,-⟩
 .rw[e];exact⟨λh=>absurd c (h l a).1,λh=>by cases h.1⟩
 .rw[e];simp only[gX,Pa,y1];rw[PR];exact⟨λh l a=>by have:=(h l a).2;grind,λh l a=>⟨b l a,by grind⟩⟩
theorem look_unit {put cl:oI} {x:Int}:unitC put cl x↔lookM put cl 0 0=(false,1,x):=by
 rcases lookM_spec put cl 0 0 with⟨⟨l,f,i⟩,e⟩|⟨g,y,e,a⟩
 .rw[e];exact⟨λh=>absurd i (h.1 l f),λh=>by cases h⟩
 .rw[e];constructor
  .rintro⟨_,h⟩;rw[h] at a;rcases a with⟨_,b⟩|⟨a,c⟩
   .cases b
   .have:y∈cl.filter λl=>decide (placeOf put l.natAbs=0):=by grind
    grind
  .intro h;simp only[Gm,y1,gX] at h;obtain⟨d,rfl⟩:=h;refine⟨g,?_⟩;obtain⟨z,c⟩:=PS.1 d;rw[c] at a⊢;rcases a with⟨_,b⟩|⟨a,j⟩
   .cases b
   .have:y∈cl.filter λl=>decide (placeOf put l.natAbs=0):=by grind
    grind
def FindP (put:oI) (L:List (oI)) (k0 u0 x0:Int) (r:Int×Int×Int):Prop:=
 (∃i,i<L.length/\r.1=k0+(i:Nat)/\kJ put (L.getD i []))\/
  (r.1= -1/\(∀cl,cl∈L->¬kJ put cl)/\((0<=u0/\r.2=(u0,x0))\/
   (u0<0/\((∃i,i<L.length/\r.2.1=k0+(i:Nat)/\unitC put (L.getD i []) r.2.2/\∀j,j<i->∀x,¬unitC put (L.getD j []) x)\/
    (r.2=(u0,x0)/\∀cl,cl∈L->∀x,¬unitC put cl x)))))
theorem FindP.skip {put cl:oI} {L:List (oI)} {k0 d k:Int} {r:Int×Int×Int} (o: ¬kJ put cl) (hu:0<=d\/ ∀x,¬unitC put cl x) (h:FindP put L (k0+1) d k r):FindP put (cl::L) k0 d k r:=by
 rcases h with⟨i,hi,f,g⟩|⟨f,g,a⟩
 .exact .inl ⟨i+1,by grind,oM,by grind⟩
 .refine .inr ⟨f,λc b=>(gg.1 b).elim (λe=>e▸o) (g c),?_⟩;rcases a with a|⟨l,a⟩
  .grind
  have hu:∀x,¬unitC put cl x:=(by grind);rcases a with⟨i,hi,m,n,p⟩|⟨m,n⟩
  .refine .inr ⟨l,.inl ⟨i+1,by grind,oM,by grind,λj q x=>?_⟩⟩;cases j with
   |zero=>grind
   |succ j=>simp_all
  grind
theorem findM_spec (put:oI):∀(L:List (oI)) (k0 a d:Int),0<=k0->FindP put L k0 a d (findM put L k0 a d)
 |[],k0,a,d,_=>by
  refine .inr ⟨rfl,by simp,?_⟩;by_cases h:0<=a
  .exact .inl ⟨h,rfl⟩
  .exact .inr ⟨oM,.inr ⟨rfl,by simp⟩⟩
 |cl::L,k0,a,d,p=>by
  rw[findM_cons];by_cases f:(lookM put cl 0 0).1=true
  .rw[y3 f];refine FindP.skip (λh=>?_) (.inr λx h=>?_) (findM_spec put L (k0+1) a d oM)
   .rw[(look_clash.1 h).1] at f;cases f
   .rw[look_unit.1 h] at f;cases f
  rw[y0 f];have m:(lookM put cl 0 0).1=false:=(by grind);by_cases g:(lookM put cl 0 0).2.1=0
  .rw[y3 g];exact .inl ⟨0,by simp,by simp,by simpa using look_clash.2 ⟨m,g⟩⟩
  rw[y0 g];have b: ¬kJ put cl:=λh=>g (look_clash.1 h).2;by_cases k:(lookM put cl 0 0).2.1=1
  .rw[y3 k];have q:unitC put cl (lookM put cl 0 0).2.2:=look_unit.2 (by grind);by_cases hu:a<0
   .rw[y3 hu];rcases findM_spec put L (k0+1) k0 (lookM put cl 0 0).2.2 oM with⟨i,hi,n,o⟩|⟨n,o,r⟩
    .exact .inl ⟨i+1,by grind,oM,by grind⟩
    .refine .inr ⟨n,λc l=>(gg.1 l).elim (λe=>e▸b) (o c),.inr ⟨hu,.inl ⟨0,by simp,?_,?_,λj s=>oM⟩⟩⟩
     .grind
     grind
   .rw[y0 hu];exact FindP.skip b (.inl oM) (findM_spec put L (k0+1) a d oM)
  .rw[y0 k];refine FindP.skip b (.inr λx h=>k ?_) (findM_spec put L (k0+1) a d oM);rw[look_unit.1 h]
theorem find_cases (put:oI) (L:List (oI)):(∃(i:Nat) (u x:Int),i<L.length/\findM put L 0 (-1) 0=((i:Int),u,x)/\kJ put (L.getD i []))\/
  ((∀cl,cl∈L->¬kJ put cl)/\((∃(i:Nat) (x:Int),i<L.length/\findM put L 0 (-1) 0=(-1,(i:Int),x)/\unitC put (L.getD i []) x/\∀j,j<i->∀x,¬unitC put (L.getD j []) x)\/
   (findM put L 0 (-1) 0=(-1,-1,0)/\∀cl,cl∈L->∀x,¬unitC put cl x))):=by
 have h:=findM_spec put L 0 (-1) 0 oM;generalize findM put L 0 (-1) 0=z at h;obtain⟨k,u,x⟩:=z;rcases h with⟨i,hi,a,b⟩|⟨a,b,c⟩
 .grind
 grind
end Go.M
namespace Go.M
theorem mem_take {put:oI} (a:Distinct put) {l:Int} {k:Nat}:l∈put.take k↔l∈put/\placeOf put l.natAbs<=k:=by
 constructor
 .intro h;refine⟨Gc h,?_⟩;obtain⟨i,hi,rfl⟩:=gn h;simp only[gh] at hi;have:=placeOf_at a (i:=i) oM
  grind
 grind [mem_iff_place,placeOf]
theorem marksOk.zero {many:Nat} {put:oI} (h:marksOk many put):(0:Int)∉put:=λe=>(h.2 0 e).1 rfl
theorem marksOk.neg {many:Nat} {put:oI} (h:marksOk many put) {l:Int} (a:l∈put): -l∉put:=λb=>by
 have:=distinct_eq h.1 a b oM;have e:l=0:=oM
 subst e;exact h.zero a
theorem marksOk.take {many:Nat} {put:oI} (h:marksOk many put) (n:Nat):marksOk many (put.take n):=⟨distinct_take h.1 n,λx a=>h.2 x (Gc a)⟩
theorem marksOk.snoc {many:Nat} {put:oI} (h:marksOk many put) {l:Int} (c:l≠0) (d:l.natAbs<=many) (b:placeOf put l.natAbs=0):marksOk many (put++[l]):=
 ⟨distinct_snoc h.1 b,λx a=>by
  rcases gk.1 a with a|a
  .exact h.2 x a
  grind⟩
theorem marksOk.len {many:Nat} {put:oI} (h:marksOk many put):put.length<=many:=by
 have:=h.1.length_le_of_subset (l₂:=List.range' 1 many) λx a=>by
  obtain⟨y,b,rfl⟩:=gr.1 a;have:=h.2 y b
  grind
 grind
theorem impl_iff {many:Nat} {put cl:oI} (h:marksOk many put) {k:Nat}:q50 put k cl=true↔put.getD k 0∈cl/\∀l,l∈cl->l≠put.getD k 0-> -l∈put.take k:=by
 constructor
 .intro hi;obtain⟨e,f⟩:=impl_of hi;refine⟨e,λl m d=>?_⟩;obtain⟨a,b,c⟩:=f l m d;exact(mem_take h.1).2 ⟨false_of a b,by grind⟩
 .rintro⟨e,f⟩;unfold q50;simp only[gd,X0,gV,pM];refine⟨e,λi hi=>?_⟩;rw[gJ] at hi;have hm:cl.getD i 0∈cl:=getD_meS hi;generalize cl.getD i 0=l at hm;simp only[badM,gd,Gv,X0,not_and,not_or];intro d;have g:=(mem_take h.1).1 (f l hm d);have j:=placeOf_ne_zero g.1;rw[G1] at g j;refine⟨j,λn=>h.neg n g.1,oM⟩
theorem clauseOk_of {m:Int} {xs:oI} (hs:Srt xs) (h:∀l,l∈xs->l≠0/\(l.natAbs:Int)<=m):yZ m xs=true:=by
 unfold yZ;refine allI_iff.2 λk a=>?_;have c:=h _ (getD_meS a);rw[gd];refine⟨by simp only[litOk,X0];omega,?_⟩;simp only[Gv,beq_iff_eq,X0];by_cases b:k=0
 .omega
 .refine .inr ?_;have:=Gu.1 hs (k-1) k oM a oM
  grind
theorem cnfOk_clause {c:Cnf} (h:cnfOk c=true) {x:oI} (a:x∈c.list):yZ c.many x=true:=by
 unfold cnfOk at h;rw[gd] at h;obtain⟨i,hi,rfl⟩:=gn a
 grind [allI_iff]
theorem atM_mem {c:Cnf} {s:Sat} {k:Nat} (a:k<c.list.length+s.learned.length):atM c s k∈c.list++s.learned:=by
 grind [atM]
theorem satOk.cls {many:Nat} {c:Cnf} {s:Sat} (h:satOk many c s) {x:oI} (a:x∈c.list++s.learned):yZ c.many x=true:=
 (gk.1 a).elim (cnfOk_clause h.cnf) (h.lrn x)
theorem satOk.atOk {many:Nat} {c:Cnf} {s:Sat} (h:satOk many c s) {k:Nat} (a:k<c.list.length+s.learned.length):yZ c.many (atM c s k)=true:=h.cls (atM_mem a)
theorem getD_take {put:oI} {k n:Nat} (h:k<n):(put.take n).getD k 0=put.getD k 0:=by
 grind
theorem why_ext {many:Nat} {c:Cnf} {s a:Sat} {k:Nat} (hm:marksOk many s.put) (f:marksOk many a.put) (b:a.put.take (k+1)=s.put.take (k+1)) (hw:a.why.getD k 0=s.why.getD k 0) (e:∃t,a.learned=s.learned++t) (h:qG0 c s k):qG0 c a k:=by
 unfold qG0 at h⊢;rw[hw];rcases h with h|⟨i,j,m⟩
 .omega
 obtain⟨t,o⟩:=e;have d:atM c a (s.why.getD k 0).toNat=atM c s (s.why.getD k 0).toNat:=by
  grind [atM]
 have n:a.put.getD k 0=s.put.getD k 0:=by rw[<-getD_take (show k<k+1 by omega),b,getD_take oM]
 have g:a.put.take k=s.put.take k:=by
  have:=congrArg (λl=>l.take k) b;simpa[pw] using this
 grind [impl_iff]
theorem free_spec {many:Nat} {put:oI} (h:marksOk many put) (k:put.length≠many):1<=Zw many put/\Zw many put<=many/\placeOf put (Zw many put)=0/\∀v,1<=v->v<Zw many put->placeOf put v≠0:=by
 have hlen:=h.len;unfold Zw;cases c:(List.range many).find? λi=>decide (placeOf put (i+1)=0) with
 |none=>
  rw[pZ] at c;have:(List.range' 1 many).length<=(put.map Int.natAbs).length:=by
   refine(List.nodup_range' (step:=1)).length_le_of_subset λv g=>?_;rw[List.mem_range'_1] at g;have b:=c (v-1) (gJ.2 oM);rw[show v-1+1=v by omega] at b;have d:=placeOf_pos (put:=put) (v:=v) (by simpa using b);exact gr.2 ⟨_,getD_meS (show placeOf put v-1<put.length by
    have:placeOf put v≠0:=(by simpa using b);omega),d.2⟩
  grind
 |some i=>
  rw[Pl] at c;obtain⟨l,j,f,a,e⟩:=c;simp only[pd] at a;subst a;simp only[GP] at f;refine⟨by simp,by simp;omega,by grind,λv b d=>?_⟩;simp only[GO] at d;have:=e (v-1) oM;simp only[pd,show v-1+1=v by omega] at this;simpa using this
theorem XW {put cl:oI} (h:kJ put cl):Fls put cl:=λl a=>false_of (h l a).2 (h l a).1
theorem unit_mem {put cl:oI} {x:Int} (h:unitC put cl x):x∈cl/\placeOf put x.natAbs=0:=by
 have:x∈cl.filter λl=>decide (placeOf put l.natAbs=0):=by rw[h.2];grind
 grind
theorem unit_rest {put cl:oI} {x l:Int} (h:unitC put cl x) (b:l∈cl) (a:l≠x): -l∈put:=by
 refine false_of (λc=>a ?_) (h.1 l b);have:l∈cl.filter λl=>decide (placeOf put l.natAbs=0):=by grind
 rw[h.2,gw] at this;exact this
theorem maxL_le {xs ys:List Nat} (h:∀x,x∈xs->x∈ys):maxL xs<=maxL ys:=by
 rcases jd (xs:=xs) with e|e
 .omega
 .exact Zi (h _ e)
theorem q30 {xs ys:List Nat} (h:∀x,x∈xs↔x∈ys):maxL xs=maxL ys:=PX (maxL_le λx=>(h x).1) (maxL_le λx=>(h x).2)
theorem maxL_snoc (xs:List Nat) (f:List Nat) (x:Nat) (a:f=[x]):maxL (xs++f)=max (maxL xs) x:=by grind [maxL]
theorem lastPl_le {put cl:oI}:lastPl put cl<=put.length:=by
 grind [lastPl,jd,placeOf_le]
theorem Uq {many:Nat} {c:Cnf} {s:Sat} (h:satOk many c s) (a:c.many=many) {k:Nat} (d:k<c.list.length+s.learned.length) (b:kJ s.put (atM c s k)):
  Fls s.put (learnM many c s s.put.length (atM c s k))/\Srt (learnM many c s s.put.length (atM c s k))/\Z4 s.put (yC s.why) (learnM many c s s.put.length (atM c s k))=Z4 s.put (yC s.why) (atM c s k)/\(Jx s.put (yC s.why) (learnM many c s s.put.length (atM c s k))).length<=1:=
 learnM_ok h a (XW b) (clauseOk_srt (h.atOk d)) lastPl_le
theorem push_ok {many:Nat} {c:Cnf} {s:Sat} (h:satOk many c s) {l y:Int} (n:l≠0) (o:l.natAbs<=many) (p:placeOf s.put l.natAbs=0)
  (m:y= -1\/(0<=y/\y<c.list.length+s.learned.length/\l∈atM c s y.toNat/\∀q,q∈atM c s y.toNat->q≠l-> -q∈s.put)):satOk many c {s with put:=s.put++[l],why:=s.why++[y]}:=by
 have hm:=h.mks.snoc n o p;have hlen:=h.len;refine⟨h.cnf,h.few,h.c0,h.c3,by grind,h.lrn,hm,λk t=>?_⟩;simp only[q0,Gd] at t;by_cases i:k<s.why.length
 .refine why_ext h.mks hm ?_ ?_ ⟨[],by simp⟩ (h.why k i)
  .grind
  grind
 .have e:k=s.why.length:=oM;have r:(s.why++[y]).getD k 0=y:=(by grind);unfold qG0;rw[r];rcases m with m|⟨a,b,d,f⟩
  .omega
  .refine .inr ⟨a,b,?_⟩;have g:(s.put++[l]).getD k 0=l:=(by grind);rw[impl_iff hm];simp only[g];refine⟨d,λq u j=>?_⟩;rw[e,<-hlen,pC oM,gy];exact f q u j
theorem clash_ok {many:Nat} {c:Cnf} {s:Sat} (h:satOk many c s) (b:c.many=many) {k:Nat} (g:k<c.list.length+s.learned.length) (e:kJ s.put (atM c s k)):satOk many c (kk many c s (atM c s k)):=by
 unfold kk;split
 .exact⟨h.cnf,h.few,by simp,by simp,h.len,h.lrn,h.mks,h.why⟩
 split
 .exact⟨h.cnf,h.few,by simp,by simp,h.len,h.lrn,h.mks,h.why⟩
 .rename_i p;obtain⟨m,o,q,r⟩:=Uq h b g e;generalize learnM many c s s.put.length (atM c s k)=cl at*;generalize backN (yC s.why) (Y6 s.put (yC s.why) cl) s.put.length=n;have d:=h.few;refine⟨h.cnf,by simp;omega,h.c0,h.c3,by simp[h.len],λx a=>?_,h.mks.take n,λj f=>?_⟩
  .rcases gk.1 a with a|a
   .exact h.lrn x a
   .rw[gw] at a;subst a;refine clauseOk_of o λl i=>?_;have:=h.mks.2 _ (m l i);omega
  .simp only[gh] at f;refine why_ext h.mks (h.mks.take n) ?_ ?_ ⟨[cl],rfl⟩ (h.why j oM)
   .grind
   grind
theorem go_ok {many:Nat} {c:Cnf} {s:Sat} (h:satOk many c s) (f:c.many=many):satOk many c (goM many c s):=by
 unfold goM;rcases find_cases s.put (c.list++s.learned) with⟨i,u,x,hi,e,m⟩|⟨p,⟨i,x,hi,e,hu,-⟩|⟨e,-⟩⟩
 .rw[e];simp only[Int.natCast_nonneg,if_true,gl];rw[q0] at hi;exact clash_ok h f hi m
 .rw[e];rw[q0] at hi;simp only[Int.natCast_nonneg,if_true,show¬(0:Int)<= -1 by omega,if_false];obtain⟨l,n⟩:=unit_mem hu;have j:=h.lit f hi l;refine push_ok h j.1 j.2 n (.inr ⟨oM,oM,?_,λq k g=>?_⟩)
  .rw[gl];exact l
  .rw[gl] at k;exact unit_rest hu k g
 .rw[e];simp only[show¬(0:Int)<= -1 by omega,if_false];split
  .exact⟨h.cnf,h.few,by simp,by simp,h.len,h.lrn,h.mks,h.why⟩
  .rename_i o;obtain⟨a,b,d,-⟩:=free_spec h.mks o
   grind [push_ok]
theorem step_ok {many:Nat} {c:Cnf} {s:Sat} (h:satOk many c s) (a:c.many=many):satOk many c (stepM many c s):=by
 grind [stepM,go_ok]
theorem run_ok {many:Nat} {c:Cnf} (a:c.many=many):∀{n:Nat} {s:Sat},satOk many c s->satOk many c (runM many c n s)
 |0,_,h=>h
 |n+1,_,h=>run_ok a (n:=n) (step_ok h a)
theorem empty_ok {many:Nat} {c:Cnf} (h:cnfOk c=true):satOk many c emptyS:=⟨h,by simp[emptyS],by simp[emptyS],by simp[emptyS],rfl,by simp[emptyS],⟨pa,by simp[emptyS]⟩,by simp[emptyS]⟩
theorem run_succ (many:Nat) (c:Cnf):∀(n:Nat) (s:Sat),runM many c (n+1) s=stepM many c (runM many c n s)
 |0,_=>rfl
 |n+1,s=>run_succ many c n (stepM many c s)
theorem qZ0 {many:Nat} {c:Cnf} {s:Sat} (h:s.code≠0):stepM many c s=s:=y0 h
theorem run_stop {many:Nat} {c:Cnf}:∀{n:Nat} {s:Sat},s.code≠0->runM many c n s=s
 |0,_,_=>rfl
 |n+1,s,h=>by rw[runM,qZ0 h,run_stop (n:=n) h]
theorem run_add (many:Nat) (c:Cnf):∀(a b:Nat) (s:Sat),runM many c (a+b) s=runM many c b (runM many c a s)
 |0,b,s=>by rw[gX];rfl
 |a+1,b,s=>by rw[show a+1+b=(a+b)+1 by omega,runM,run_add many c a b];rfl
end Go.M
namespace Go.M
theorem take_snoc' {α:Type} {xs:List α} {d:α} {i:Nat} (h:i<xs.length):xs.take (i+1)=xs.take i++[xs.getD i d]:=by
 simp_all
def sgnV (put:oI) (v:Nat):Int:=if(v:Int)∈put then 1 else if-(v:Int)∈put then-1 else 0
def signs (many:Nat) (put:oI):oI:=(List.range (many+1)).map (sgnV put)
theorem signs_len (many:Nat) (put:oI):(signs many put).length=many+1:=by simp[signs]
theorem signs_get {many:Nat} {put:oI} {v:Nat} (h:v<=many):(signs many put).getD v 0=sgnV put v:=by
 grind [signs]
theorem j40 (many:Nat):signs many []=List.replicate (many+1) 0:=by
 refine gL (by simp[signs]) λi a b=>?_;simp[signs,sgnV]
theorem mem_place {put:oI} {l:Int} (h:l∈put\/ -l∈put):placeOf put l.natAbs≠0:=by
 rcases h with h|h
 .exact placeOf_ne_zero h
 .have:=placeOf_ne_zero h;grind
theorem place_mem {put:oI} {l:Int} (h:placeOf put l.natAbs≠0):l∈put\/ -l∈put:=by
 grind [false_of]
theorem signs_snoc {many:Nat} {put:oI} {l:Int} (a:l≠0) (h:placeOf put l.natAbs=0):signs many (put++[l])=(signs many put).set l.natAbs (if 0<l then 1 else-1):=by
 refine gL (by simp[signs]) λi b c=>?_;rw[pB];simp only[signs,Pm,pd,sgnV,gk,gw]
 grind [mem_place]
def Y30 (put:oI) (m:Int):Int:=if m∈put then 1 else if placeOf put m.natAbs=0 then 0 else-1
theorem sgn_pos {many:Nat} {put:oI} (hm:marksOk many put) {m:Int} (h:0<m):sgnV put m.natAbs=Y30 put m:=by
 unfold sgnV Y30;rw[show((m.natAbs:Nat):Int)=m from by omega];by_cases a:m∈put
 .grind
 rw[y0 a,y0 a];by_cases b: -m∈put
 .simp_all[mem_place]
 grind [place_mem]
theorem sgn_neg {many:Nat} {put:oI} (hm:marksOk many put) {m:Int} (h:m<0): -(sgnV put m.natAbs)=Y30 put m:=by
 unfold sgnV Y30;rw[show((m.natAbs:Nat):Int)= -m from by omega,Int.neg_neg];by_cases a: -m∈put
 .rw[y3 a,y0 (λb=>hm.neg b a),y0 (mem_place (.inr a))]
 grind [place_mem]
theorem sgnV_range (put:oI) (m:Nat): -1<=sgnV put m/\sgnV put m<=1:=by
 grind [sgnV]
end Go.M
namespace Go.M
def X80 (put:oI) (ds:List Bool) (v:Nat):Nat:=if placeOf put v=0 then 0 else lvl ds (placeOf put v-1)
def levs (many:Nat) (put:oI) (ds:List Bool):oI:=(List.range (many+1)).map λv=>(X80 put ds v:Int)
theorem Up (many:Nat) (put:oI) (ds:List Bool):(levs many put ds).length=many+1:=by simp[levs]
theorem levs_get {many:Nat} {put:oI} {ds:List Bool} {v:Nat} (h:v<=many):(levs many put ds).getD v 0=X80 put ds v:=by
 grind [levs]
theorem Zm0 (many:Nat) (ds:List Bool):levs many [] ds=List.replicate (many+1) 0:=by
 refine gL (by simp[levs]) λi a b=>?_;simp[levs,X80,JH]
theorem levs_snoc {many:Nat} {put:oI} {ds:List Bool} {l:Int} (h:placeOf put l.natAbs=0):levs many (put++[l]) ds=(levs many put ds).set l.natAbs (lvl ds put.length:Nat):=by
 refine gL (by simp[levs]) λi a c=>?_;simp only[levs,y4,GP] at a;rw[pB];simp only[levs,Pm,pd,X80];have b:∀x,x∈put->x.natAbs≠l.natAbs:=by grind [placeOf_ne_zero]
 grind [placeOf_snoc]
theorem levV_lit {put:oI} {ds:List Bool} {l:Int} (h:placeOf put l.natAbs≠0):X80 put ds l.natAbs=lvM put ds l:=by unfold X80 lvM;grind
theorem top_step {put:oI} {ds:List Bool} {cl:oI} {i:Nat} (hi:i<cl.length) (k:Nat) (c:lvM put ds (cl.getD i 0)=k):
  Z4 put ds (cl.take (i+1))=(if Z4 put ds (cl.take i)<k then k else Z4 put ds (cl.take i))/\
  (Jx put ds (cl.take (i+1))).length=(if Z4 put ds (cl.take i)<k then 1 else if k=Z4 put ds (cl.take i) then(Jx put ds (cl.take i)).length+1 else(Jx put ds (cl.take i)).length):=by
 have e:=take_snoc' (d:=0) hi;have a:Z4 put ds (cl.take (i+1))=(if Z4 put ds (cl.take i)<k then k else Z4 put ds (cl.take i)):=by
  unfold Z4;rw[e,gz,maxL_snoc _ _ k (by grind)]
  grind
 refine⟨a,?_⟩;have hle:∀q,q∈cl.take i->lvM put ds q<=Z4 put ds (cl.take i):=λq f=>Zi (Ga f);have g:lvM put ds (cl.getD i 0)=k:=c;generalize cl.getD i 0=y at*;generalize b:Z4 put ds (cl.take i)=T at*;unfold Jx;rw[a,b,e,PD,PM,List.filter_nil,g,q0]
 grind [List.filter_eq_nil_iff]
structure ArrP (many:Nat) (L arr:oI):Prop where
 len:arr.length=many+1
 at_:∀v,v<=many->(arr.getD v 0=0/\∀k,k∈L->k.natAbs≠v)\/(arr.getD v 0∈L/\(arr.getD v 0).natAbs=v/\arr.getD v 0≠0)
theorem arr_nil (many:Nat):ArrP many [] (List.replicate (many+1) 0):=⟨by simp,λv a=> .inl ⟨by grind,by simp⟩⟩
theorem getD_set {xs:oI} {i j:Nat} {x:Int}:(xs.set i x).getD j 0=if i=j/\j<xs.length then x else xs.getD j 0:=by
 grind
theorem arr_snoc {many:Nat} {L arr:oI} {k:Int} (h:ArrP many L arr) (d:k≠0) (g:k.natAbs<=many):ArrP many (L++[k]) (arr.set k.natAbs k):=by
 refine⟨by simp[h.len],λv c=>?_⟩;rw[getD_set,h.len];by_cases he:k.natAbs=v
 .grind
 .rw[y0 (λe=>he e.1)];rcases h.at_ v c with⟨a,b⟩|⟨a,b,f⟩
  .grind
  grind
def ye0 (arr:oI) (m n:Nat):oI:=(List.range n).filterMap λi=>if i+1=m then none else if arr.getD (i+1) 0=0 then none else some (arr.getD (i+1) 0)
theorem joinA_succ (arr:oI) (m n:Nat):ye0 arr m (n+1)=ye0 arr m n++(if n+1=m then[] else if arr.getD (n+1) 0=0 then[] else[arr.getD (n+1) 0]):=by
 unfold ye0
 grind [List.range_succ]
theorem joinA_eq {many m:Nat} {a b arr:oI} (h:ArrP many (a++b) arr) (o:∀k,k∈a++b->k.natAbs≠m-> -k∉a++b):ye0 arr m many=Qv many a b m:=by
 unfold ye0 Qv;refine filterMap_congr' λi hi=>?_;rw[gJ] at hi;by_cases hm:i+1=m
 .grind
 rw[y0 hm,y0 hm];rcases h.at_ (i+1) oM with⟨d,c⟩|⟨d,c,n⟩
 .rw[y3 d,y0 ?_,y0 ?_]
  .rintro(e|e)
   .exact c _ (gW _ e) oM
   .exact c _ (Gw _ e) oM
  .rintro(e|e)
   .exact c _ (gW _ e) oM
   .exact c _ (Gw _ e) oM
 grind
where
 filterMap_congr' {α β:Type} {f g:α->Option β}:∀{l:List α},(∀x,x∈l->f x=g x)->l.filterMap f=l.filterMap g
  |[],_=>rfl
  |x::l,h=>by
   rw[List.filterMap_cons,List.filterMap_cons,h x gi,filterMap_congr' λy j=>h y (gm _ j)]
theorem backN_eq {ds:List Bool} {L:Int}:∀{len n:Nat},n<=len->(∀i,i<n->(lvl ds i:Int)<=L)->(n=len\/L<(lvl ds n:Int))->backN ds L len=n
 |0,n,b,a,c=>by simp[backN];omega
 |len+1,n,b,a,c=>by
  unfold backN;by_cases e:n=len+1
  .grind
  .have d:L<(lvl ds n:Int):=oM;have hm:lvl ds n<=lvl ds len:=lvl_mono oM;rw[y3 oM];exact backN_eq oM a (.inr d)
theorem lastPl_eq {many:Nat} {put cl:oI} (hm:marksOk many put) {i:Nat} (hi:i<put.length) (a:∃q,q∈cl/\q.natAbs=(put.getD i 0).natAbs) (d:∀j,i<j->j<put.length->∀q,q∈cl->q.natAbs≠(put.getD j 0).natAbs):lastPl put cl=i+1:=by
 obtain⟨q,c,e⟩:=a;have b:placeOf put q.natAbs=i+1:=by rw[e];exact placeOf_at hm.1 hi
 refine PX ?_ (by rw[<-b];exact Zi (gr.2 ⟨q,c,rfl⟩))
 grind [lastPl,jd,placeOf_pos]
theorem lastPl_none {put cl:oI} (h:∀j,j<put.length->∀q,q∈cl->q.natAbs≠(put.getD j 0).natAbs):lastPl put cl=0:=by
 unfold lastPl;rcases jd (xs:=cl.map λk=>placeOf put k.natAbs) with a|a
 .exact a
 grind [placeOf_pos]
theorem lvl_succ {ds:List Bool} {i:Nat} (h:i<ds.length):lvl ds i=(ds.take i).count true+(ds.getD i false).toNat:=by
 grind [lvl,List.take_add_one]
theorem Y4 {ds:List Bool} {i:Nat} (h:i<ds.length):(ds.take (i+1)).count true=(ds.take i).count true+(ds.getD i false).toNat:=lvl_succ h
end Go.M
end
section
namespace Go.M
def wayM (put:oI) (u:Nat):Bool:=decide ((u:Int)∈put)
end Go.M
namespace Go.M
end Go.M
namespace Go.M
end Go.M
end
section
namespace Go.M
def gateC (k:Int) (g:Gt):List (oI):=if g.x then[[g.a,g.b,-k],[-g.a,-g.b,-k],[-g.a,g.b,k],[g.a,-g.b,k]] else[[g.a,-k],[g.b,-k],[-g.a,-g.b,k]]
def gatesC (n:Nat):Gs->Nat->List (oI)
 |[],_=>[]
 |g::gs,i=>gateC (2+n+i) g++gatesC n gs (i+1)
def netC (n:Nat) (gs:Gs) (xs:List (oI)):Cnf:=⟨1+n+gs.length,[1]::(gatesC n gs 0++xs)⟩
theorem mem_gates {n:Nat} {cl:oI}:∀{gs:Gs} {i0:Nat},cl∈gatesC n gs i0↔ ∃i,∃h:i<gs.length,cl∈gateC (2+n+(i0+i:Nat)) gs[i]
 |[],i0=>by simp[gatesC]
 |g::gs,i0=>by
  simp only[gatesC,gk,mem_gates (gs:=gs)];constructor
  .rintro(h|⟨i,hi,h⟩)
   .grind
   .refine⟨i+1,by grind,?_⟩
    grind
  grind
theorem absI_nat (a:Int):absI a=(a.natAbs:Int):=by unfold absI;omega
def insV (v:Nat->Bool) (n:Nat):List Bool:=(List.range n).map λi=>v (i+2)
theorem insV_len (v:Nat->Bool) (n:Nat):(insV v n).length=n:=by unfold insV;grind
theorem insV_get {v:Nat->Bool} {n i:Nat} (h:i<n):(insV v n).getD i false=v (i+2):=by
 grind [insV]
theorem gatesC_len {n:Nat}:∀(gs:Gs) (i:Nat),(gatesC n gs i).length<=4*gs.length
 |[],_=>by simp[gatesC]
 |g::gs,i=>by
  have:=gatesC_len (n:=n) gs (i+1)
  grind [gatesC,gateC]
theorem QF {m:Int} {xs:oI}:yZ m xs=true↔ ∀k,k<xs.length->litOk m (xs.getD k 0)=true/\(k=0\/(xs.getD (k-1) 0).natAbs<(xs.getD k 0).natAbs):=by
 simp_all[yZ,allI]
theorem gate_clause {n k:Nat} {g:Gt} {m:Int} (h:gateOk n k g) (hm:2+n+k<=m) {cl:oI} (c:cl∈gateC (2+n+k) g):yZ m cl=true:=by
 obtain⟨g1,g2,g3,_⟩:=h;rw[absI_nat] at g1 g2;rw[absI_nat] at g2 g3;have three:∀{p q r:Int},p.natAbs=g.a.natAbs->q.natAbs=g.b.natAbs->r.natAbs=2+n+k->yZ m [p,q,r]=true:=λ{p q r} d i e=>by
  rw[QF];intro j f;rcases(by omega:j<3)|>(λh=>(by omega:j=0\/j=1\/j=2)) with rfl|rfl|rfl
  .exact⟨by simp[litOk];omega,.inl rfl⟩
  .grind [litOk]
  grind [litOk]
 have two:∀{p r:Int},(p.natAbs=g.a.natAbs\/p.natAbs=g.b.natAbs)->r.natAbs=2+n+k->yZ m [p,r]=true:=λ{p r} d e=>by
  rw[QF];intro j f;rcases(by omega:j<2)|>(λh=>(by omega:j=0\/j=1)) with rfl|rfl
  .exact⟨by simp[litOk];omega,.inl rfl⟩
  grind [litOk]
 unfold gateC at c;split at c
 .grind
 .simp only[gg,gx,Ge] at c;rcases c with rfl|rfl|rfl
  .grind
  .grind
  grind
theorem net_ok {n:Nat} {gs:Gs} {xs:List (oI)} (d:n<=8) (a:NetG n gs) (c:xs.length<=90) (e:∀cl,cl∈xs->yZ (1+n+gs.length:Nat) cl=true):cnfOk (netC n gs xs)=true:=by
 have:=a.few;have hlen:=gatesC_len (n:=n) gs 0;have b:∀cl,cl∈(netC n gs xs).list->yZ (netC n gs xs).many cl=true:=λcl h=>by
  unfold netC at h⊢;rcases gg.1 h with rfl|h
  .rw[QF]
   grind [litOk]
  .rcases gk.1 h with h|h
   .obtain⟨i,hi,hm⟩:=mem_gates.1 h;rw[gX] at hm;exact gate_clause (a.gate i hi) (by grind) hm
   grind
 unfold cnfOk allI;simp only[gd,X0,Gb,gJ]
 grind [netC]
end Go.M
end
section
namespace Go.M
section
variable {n:Nat} {gs:Gs} {a b:Int}
theorem put_net {g:Gt} (d:NetG n gs) (f:gateOk n gs.length g) (c:(putG n gs g).2≠0):NetG n (putG n gs g).1/\has (1+n+(putG n gs g).1.length) (putG n gs g).2:=by
 unfold putG at c⊢;split
 .grind [has]
 .next hm=>
  rw[y0 hm] at c;split
  .grind
  .refine⟨⟨by simp;omega,λk j=>?_,?_⟩,by simp[has];omega⟩
   .by_cases e:k<gs.length
    .rw[List.getElem_append_left e];exact d.gate k e
    grind
   .rw[Gq];exact⟨d.once,by simp,λa h b i e=>hm (by grind)⟩
theorem and_net (i:NetG n gs) (g:has (1+n+gs.length) a) (h:has (1+n+gs.length) b) (c:(andG n gs a b).2≠0):NetG n (andG n gs a b).1/\has (1+n+(andG n gs a b).1.length) (andG n gs a b).2:=by
 have f:has (1+n+gs.length) (-1):=⟨dC,oM,oM⟩;unfold andG at c⊢
 repeat' split
 .grind
 .grind
 .grind
 .grind
 .grind
 .next c1 c2 c3 d e=>
  rw[y0 c1,y0 c2,y0 c3,y0 d,y0 e] at c
  grind [put_net,has,gateA,gateOk,absI]
theorem xor_net (d:NetG n gs) (f:has (1+n+gs.length) a) (g:has (1+n+gs.length) b) (c:(xorG n gs a b).2≠0):NetG n (xorG n gs a b).1/\has (1+n+(xorG n gs a b).1.length) (xorG n gs a b).2:=by
 unfold xorG at c⊢
 repeat' split
 .exact⟨d,Ws g⟩
 .exact⟨d,Ws f⟩
 .grind [has]
 .grind [has]
 .next c1 c2 c3 e=>
  rw[y0 c1,y0 c2,y0 c3,y0 e] at c
  grind [put_net,gateX,has,absI,gateOk,turn_zero,Ws]
end
namespace Bd
variable {α β:Type}
def Hs:Nat->Bd α->(Nat->α->Prop)->Prop
 |k,.ret a,Q=>Q k a
 |k,.and x y c,Q=>has k x/\has k y/\∀l v,k<=l->has l v->Hs l (c v) Q
 |k,.xor x y c,Q=>has k x/\has k y/\∀l v,k<=l->has l v->Hs l (c v) Q
theorem Hs.bind {p:Bd α} {f:α->Bd β} {Q:Nat->α->Prop} {R:Nat->β->Prop}:∀{k:Nat},Hs k p Q->(∀l a,k<=l->p.Reach a->Q l a->Hs l (f a) R)->Hs k (p.bind f) R:=by
 induction p with
 |ret a=>exact λh g=>g _ a (gp _) rfl h
 |and x y c d|xor x y c d=>exact λ⟨e,i,h⟩ g=>⟨e,i,λl v b o=>d v (h l v b o) λm a hm n j=>g m a (gH b hm) ⟨v,n⟩ j⟩
theorem Hs.sound {n:Nat} {p:Bd α} {Q:Nat->α->Prop}:∀{gs gs':Gs} {a:α},NetG n gs->p.run n gs=some (gs',a)->Hs (1+n+gs.length) p Q->NetG n gs'/\Q (1+n+gs'.length) a:=by
 induction p with
 |ret c=>
  intro gs gs' a b h hs;simp only[run,Gp,Gm] at h;obtain⟨rfl,rfl⟩:=h;exact⟨b,hs⟩
 |and x y c f=>
  intro gs gs' a b h ⟨d,e,hs⟩
  grind [run,and_net,and_pre]
 |xor x y c f=>
  intro gs gs' a b h ⟨d,e,hs⟩
  grind [run,xor_net,xor_pre]
end Bd
abbrev HI (k:Nat) (p:Bd Int):Prop:=p.Hs k has
abbrev HL (k:Nat) (p:Bd (oI)):Prop:=p.Hs k hasL
section
variable {k:Nat} {x y c s:Int} {xs ys:oI}
theorem nilL:hasL k []:=λ_ h=>by cases h
theorem or_h (a:has k x) (b:has k y):HI k (orB x y):=⟨has_neg a,has_neg b,λ_ _ _ h=>has_neg h⟩
theorem Zi0 (a:has k c) (f:has k x) (g:has k y):HI k (muxB c x y):=⟨a,f,λ_ _ b d=>⟨has_mono (has_neg a) b,has_mono g b,λ_ _ h e=>or_h (has_mono d h) e⟩⟩
theorem Xx0 {α:Type} {p:Bd α} {f:α->oI} {Q:Nat->α->Prop} (c:p.Hs k Q) (b:∀l a,Q l a->hasL l (f a)):HL k (p.map f):=c.bind λl a _ _ h=>b l a h
theorem k00 {p:Bd (oI)} (hs:has k s) (b:HL k p):HL k (p.map (s:: ·)):=b.bind λ_ _ a _ c=>jB0.2 ⟨has_mono hs a,c⟩
theorem jb0:HL k (.ret []):=nilL
theorem sum_h:∀{xs ys:oI} {c:Int} {k:Nat},hasL k xs->hasL k ys->has k c->HL k (sumB xs ys c)
 |[],_,_,_,_,_,_=>jb0
 |_::_,[],_,_,_,_,_=>jb0
 |x::xs,y::ys,c,k,a,b,g=>by
  obtain⟨a,d⟩:=jB0.1 a;obtain⟨b,e⟩:=jB0.1 b;exact⟨a,b,λ_ _ m f=>⟨f,has_mono g m,λ_ _ o h=>⟨has_mono a oM,has_mono b oM,λ_ _ p i=>⟨has_mono f oM,has_mono g oM,λ_ _ n j=>
   (or_h (has_mono i n) j).bind λ_ _ q _ l=>k00 (has_mono h oM) (sum_h (d.mono oM) (e.mono oM) l)⟩⟩⟩⟩
theorem less_h:∀{xs ys:oI} {c:Int} {k:Nat},hasL k xs->hasL k ys->has k c->HI k (lessB xs ys c)
 |[],_,_,_,_,_,h=>h
 |_::_,[],_,_,_,_,h=>h
 |x::xs,y::ys,c,k,b,a,j=>by
  obtain⟨b,d⟩:=jB0.1 b;obtain⟨a,e⟩:=jB0.1 a;exact⟨b,a,λ_ _ f g=>(Zi0 g (has_mono a f) (has_mono j f)).bind λ_ _ l _ i=>less_h (d.mono oM) (e.mono oM) i⟩
theorem same_h:∀{xs ys:oI} {c:Int} {k:Nat},hasL k xs->hasL k ys->has k c->HI k (sameB xs ys c)
 |[],_,_,_,_,_,h=>h
 |_::_,[],_,_,_,_,h=>h
 |x::xs,y::ys,c,k,a,d,i=>by
  obtain⟨a,b⟩:=jB0.1 a;obtain⟨d,e⟩:=jB0.1 d;exact⟨a,d,λ_ _ j f=>⟨has_mono i j,has_neg f,λ_ _ l g=>same_h (b.mono oM) (e.mono oM) g⟩⟩
theorem each_h {f:Int->Int->Bd Int}:∀{xs ys:oI} {k:Nat},(∀l x y,k<=l->has l x->has l y->HI l (f x y))->hasL k xs->hasL k ys->HL k (eachB f xs ys)
 |[],_,_,_,_,_=>jb0
 |_::_,[],_,_,_,_=>jb0
 |x::xs,y::ys,k,e,a,c=>by
  obtain⟨a,b⟩:=jB0.1 a;obtain⟨c,d⟩:=jB0.1 c;exact(e k x y (gp _) a c).bind λ_ _ g _ h=>k00 h (each_h (λl x y i=>e l x y oM) (b.mono g) (d.mono g))
theorem row_h:∀{xs:oI} {k:Nat},hasL k xs->has k s->HL k (rowB s xs)
 |[],_,_,_=>jb0
 |x::xs,k,a,hs=>by
  obtain⟨a,b⟩:=jB0.1 a;exact⟨a,hs,λ_ _ c d=>k00 d (row_h (b.mono c) (has_mono hs c))⟩
theorem mul_h:∀{ys:oI} {i:Nat} {s:oI} {k:Nat},1<=k->hasL k xs->hasL k ys->hasL k s->HL k (mulB xs ys i s)
 |[],_,_,_,_,_,_,h=>h
 |y::ys,i,s,k,g,c,a,hs=>by
  obtain⟨a,b⟩:=jB0.1 a;exact(row_h (Ks c) a).bind λ_ _ f _ d=>(sum_h (hs.mono f) (Uw (Kt oM) d) (has_mone oM)).bind λ_ _ j _ e=>mul_h oM (c.mono oM) (b.mono oM) e
theorem div_h {w:oI}:∀{n:Nat} {r q:oI} {k:Nat},1<=k->n<=xs.length->hasL k xs->hasL k w->hasL k r->hasL k q->(divB xs w n r q).Hs k λk p=>hasL k p.1/\hasL k p.2
 |0,_,_,_,_,_,_,_,e,b=>⟨b,e⟩
 |n+1,r,q,k,i,o,c,hw,e,b=>by
  have a:hasL k (xs.getD n 0::r):=(by grind [jB0,XP]);exact(less_h a hw (has_mone i)).bind λ_ _ f _ d=>(sum_h (a.mono f) (Jr (hw.mono f)) (has_one oM)).bind λ_ _ s _ g=>
   (each_h (λl _ _ m c j=>Zi0 (has_mono d oM) c j) (Ks (a.mono oM)) (Ks g)).bind λ_ _ t _ h=>
    div_h oM oM (c.mono oM) (hw.mono oM) h (hasL_set (b.mono oM) (has_neg (has_mono d oM)))
theorem shift_h {up:Bool}:∀{ys:oI} {i:Nat} {s:oI} {k:Nat},has k c->hasL k ys->hasL k s->HL k (shiftB up c ys i s)
 |[],_,_,_,_,_,h=>h
 |y::ys,i,s,k,j,a,hs=>by
  obtain⟨a,d⟩:=jB0.1 a;refine(each_h (λl _ _ m e b=>Zi0 (has_mono a m) e b) (λx e=>?_) hs).bind λ_ _ f _ g=>shift_h (has_mono j f) (d.mono f) g
  grind [from_has]
theorem un_h {op:Int} (b:1<=k) (a:hasL k xs):HL k (unB op xs):=by
 unfold unB;split
 .exact Jr a
 grind [sum_h,Kt,Jr,has_one]
theorem bin_h {op:Int} (c:1<=k) (a:hasL k xs) (b:hasL k ys) (e:op≠14->0<xs.length):HL k (binB op xs ys):=by
 have one:=λl (h:k<=l)=>has_mone (k:=l) (gH c h);have off:=Kt (n:=xs.length) c;have d:=div_h (q:=offsL xs.length) c (gp _) a (Uw b (jB0.2 ⟨one k (gp _),nilL⟩)) off off;unfold binB
 repeat' split
 .exact Uw b a
 .exact each_h (λ_ _ _ _ a b=>⟨a,b,λ_ _ _ h=>h⟩) a b
 .grind [each_h,or_h]
 .exact each_h (λ_ _ _ _ a b=>⟨a,b,λ_ _ _ h=>h⟩) a b
 .exact sum_h a b (has_mone c)
 .grind [sum_h,Jr,has_one]
 .exact mul_h c a b off
 .exact Xx0 d λ_ _ h=>h.1
 .exact Xx0 d λ_ _ h=>h.2
 .exact shift_h (has_mone c) b a
 .exact shift_h (has_mone c) b a
 grind [shift_h,XP]
theorem cmp_h {op:Int} (b:1<=k) (e:hasL k xs) (f:hasL k ys) (c:xs.length=ys.length) (a:0<xs.length):HI k (cmpB op xs ys):=by
 have d:xs≠[]:=by grind
 grind [cmpB,same_h,has_one,less_h,has_mone,swap_has]
theorem seq_h {k0:Nat} {f:Tm->Bd (oI)}:∀{ks:List Tm} {k:Nat},k0<=k->(∀t,t∈ks->∀k,k0<=k->HL k (f t))->(seqB (ks.map f)).Hs k λk rs=>∀r,r∈rs->hasL k r
 |[],_,_,_=>λ_ h=>by cases h
 |t::ks,k,b,a=>(a t gi k b).bind λ_ _ i _ c=>(seq_h (gH b i) λu hu=>a u (gm _ hu)).bind λ_ _ j _ d r g=>(gg.1 g).elim (λe=>e▸c.mono j) (d r)
end
theorem node_h {ds:List Dcl} {t:Tm} (f:declOk ds=true) (hs:sortM ds t≠ -1) {k:Nat} (m:1+bits ds<=k) {rs:List (oI)} (p:∀r,r∈rs->hasL k r) (w:rs.length=t.ks.length)
  (n:∀i,i<t.ks.length->(rs.getD i []).length=lenS (sortM ds (kid t i))):HL k (nodeB ds t rs):=by
 obtain⟨y,z,A,s,B,C,D⟩:=node_right f hs (L:=λi=>(rs.getD i []).length) n;have c:1<=k:=by have:=bits_pos' (dpos f);omega
 have j:=arity_ops (o:=t.op) (by have:=(sort_parts hs).1;grind [formed]);have g:∀i,i<t.ks.length->hasL k (rs.getD i []):=by grind
 have u:∀i,i<t.ks.length->1<=(rs.getD i []).length->has k ((rs.getD i []).getD 0 0):=by grind [XP]
 have one:∀{v:Int} {l:Nat},has l v->hasL l [v]:=λh=>jB0.2 ⟨h,nilL⟩;have d:25<=t.op->∀i,i<(if t.op=25 then 1 else 2)->has k ((rs.getD i []).getD 0 0):=by grind
 unfold nodeB
 repeat' split
 .exact fix_has c
 .next h=>exact name_has f (by simp_all[name_found,findD_lt]) m
 .exact one (has_one c)
 .next h=>exact one (has_neg (d oM 0 (by grind)))
 .next e h=>exact⟨d oM 0 (by grind),d oM 1 (by grind),λ_ _ _ h=>one h⟩
 .next e _ h=>exact(or_h (d oM 0 (by grind)) (d oM 1 (by grind))).bind λ_ _ _ _ h=>one h
 .grind [each_h,Zi0,has_mono]
 .next h=>exact λx q=>g 0 oM x (G0 (Gc q))
 .grind [un_h]
 .next h=>
  obtain⟨a,b,_⟩:=s h.1 h.2;exact(cmp_h c (g 0 oM) (g 1 oM) b oM).bind λ_ _ _ _ h=>one h
 grind [bin_h]
theorem term_h {ds:List Dcl} (a:declOk ds=true):∀t:Tm,sortM ds t≠ -1->∀k:Nat,1+bits ds<=k->HL k (termB ds t):=by
 refine Tm.ind λt g hs k j=>?_;have h:=bits_pos' (dpos a);rw[termB_eq];refine(seq_h (k0:=(1+bits ds).toNat) oM λu hu l f=>g u hu ((sort_parts hs).2.1 u hu) l oM).bind λl rs f b c=>?_;obtain⟨d,e⟩:=seq_reach b;exact node_h a hs oM c d λi hi=>term_len a _ (good_kid hs hi) (e i hi)
end Go.M
end
section
namespace Go.M
variable {ds:List Dcl} {env:oI}
def nIn (ds:List Dcl):Nat:=(bits ds).toNat
theorem nIn_eq (h:declOk ds=true):(nIn ds:Int)=bits ds/\nIn ds<=8:=by
 have:=bits_pos' (dpos h)
 grind [decl_iff,nIn]
theorem insM_n (he:envOk ds env=true):(insM ds env).length=nIn ds:=by
 have a:=(env_ok he).1;have:=insM_len (env_ok he).2.1 (dpos a);have:=(nIn_eq a).1;omega
def listB (ds:List Dcl) (ts:List Tm):Option (Gs×List (oI)):=(seqB (ts.map (termB ds))).run (nIn ds) []
structure ListNet (ds:List Dcl) (ts:List Tm) (gs:Gs) (rs:List (oI)):Prop where
 net:NetG (nIn ds) gs
 many:rs.length=ts.length
 has:∀r,r∈rs->hasL (1+nIn ds+gs.length) r
 len:∀i,i<ts.length->(rs.getD i []).length=lenS (sortM ds (ts.getD i default))
theorem nilG (n:Nat):NetG n []:=⟨by simp,λk h=>absurd h (by simp),pa⟩
theorem list_net {ts:List Tm} {gs:Gs} {rs:List (oI)} (a:declOk ds=true) (hs:∀t,t∈ts->sortM ds t≠ -1) (h:listB ds ts=some (gs,rs)):ListNet ds ts gs rs:=by
 obtain⟨b,c⟩:=seq_reach (Bd.reach_of_run h);have f:=nIn_eq a;obtain⟨p1,p2⟩:=Bd.Hs.sound (nilG _) h (seq_h (k0:=1+nIn ds) (by simp) λt d k e=>term_h a t (hs t d) k oM);exact⟨p1,b,p2,λi hi=>term_len a _ (hs _ (getD_mem hi _)) (c i hi)⟩
def rootsC (rs:List (oI)):List (oI):=rs.map λr=>[r.getD 0 0]
def blastC (ds:List Dcl) (gs:Gs) (rs:List (oI)):Cnf:=netC (nIn ds) gs (rootsC rs)
section
variable {ts:List Tm} {gs:Gs} {rs:List (oI)}
theorem head_mem {r:oI} {w:Int} (h:r.length=lenS w):r.getD 0 0∈r:=getD_mem (by unfold lenS at h;omega) 0
theorem roots_ok (n:declOk ds=true) (h:ListNet ds ts gs rs):∀cl,cl∈rootsC rs->yZ (1+nIn ds+gs.length:Nat) cl=true:=λcl a=>by
 obtain⟨r,f,rfl⟩:=gr.1 a;obtain⟨i,hi,e⟩:=gn f;have d:=h.len i (by have:=h.many;omega);rw[y2,V0 hi,GO,e] at d;have b:=h.has r f _ (head_mem d);refine QF.2 λk g=>?_;simp only[Gd] at g;have c:k=0:=oM
 subst c;refine⟨?_,.inl rfl⟩;show litOk _ (r.getD 0 0)=true;have j:=b.1;have l:=b.2.1;have m:=b.2.2
 grind [litOk]
end
end Go.M
end
namespace Go.Proofs.YtfnpmncplaibiaaGreatDoor
open Go Go.Vc Go.Proofs
section
variable {w:World} {ar ab:Addr}
theorem Errs.ext0 {w':World} (h:Errs (λ_=>False) w ar ab) (he:Ext w w'):Errs (λ_=>False) w' ar ab:=⟨h.room.same he id,h.bits.same he id,id,id⟩
end
section
variable {w:World} {K:oK} {gs:M.Gs} {gv:Value} {t:M.Tm}
theorem jF0 {w':World} (a:OwnG w gv gs):vbi .len [zA] zV [gv] w' K=K (nI gs.length) w':=by
 have h:=Own.sl a;simp only[push_cast,h.len,y4]
theorem one_bool {c:Bool} {K:oK} (d:∀w' b,b=w.heap.size->Ext w w'->OwnB qB w' (.slice (some ⟨b,0,none⟩) 1 1) [c]->K (.slice (some ⟨b,0,none⟩) 1 1) w'):vbuildS qB 1 [(0,.bool c)] w K:=
 qx (y:=[.bool c]) qT0 qD0 qC0 rfl rfl dC λb w' e he _ a=>d w' b e he (Blk.own1 (t:=qB) (cs:=[.bool c]) (by rw[UX];exact a) (gF _) rfl rfl oM)
end
section
variable {gs:M.Gs}
theorem yk0 {i:Nat} (hi:i<gs.length):(gs.map yl).getD i []=yl gs[i]:=by simp[y2,hi]
end
end Go.Proofs.YtfnpmncplaibiaaGreatDoor
namespace Go.Proofs.YtfnpmncplaibiaaGreatDoor
open Go Go.Vc Go.Proofs Go.M
section
variable {w:World} {K:oK} {F:oA}
theorem variable_spec {l:Int} (b: -9223372036854775807<=l) (c:l<=9223372036854775807) (d:K (nI l.natAbs) w):vcall Ze #[nI l] w K:=by
 refine ze {} Tryz.func265 ?_;simp(disch:=omega) only[push_cast];refine zb (λa=>?_) (λa=>?_)
 .simp(disch:=omega) only[push_cast,zk];rwa[show 0-l=(l.natAbs:Int) from by omega]
 .rwa[show l=(l.natAbs:Int) from by omega]
def CnfR (F:oA) (w:World) (v:Value) (c:Cnf):Prop:= ∃lv,v= .agg #[nI c.many,lv]/\Lists F w lv c.list
theorem CnfR.ext {v:Value} {c:Cnf} {w':World} (h:CnfR F w v c) (hw:Ext w w'):CnfR F w' v c:=by
 obtain⟨lv,b,a⟩:=h;exact⟨lv,b,a.ext hw⟩
end
section
variable {w:World} {Fr F':oA} {N:Nat} {c:Cnf}
structure RowsR (N:Nat) (Fr:oA) (w:World) (ls:List Value) (xss:List (oI)):Prop where
 nle:N<=w.heap.size
 own:∀i,i<xss.length->OwnI zh w (ls.getD i undef) (xss.getD i [])
 sub:∀i b,i<xss.length->(ls.getD i undef).ownBlock=some b->Fr b/\N<=b
 dj:∀i j b,i<j->j<xss.length->(ls.getD i undef).ownBlock=some b->(ls.getD j undef).ownBlock≠some b
section
variable {ls:List Value} {xss:List (oI)} {w':World} {S F':oA} {N:Nat}
theorem RowsR.same (h:RowsR N Fr w ls xss) (hw:Same S w w') (hF:∀x,Fr x->x<w.heap.size->¬S x):RowsR N Fr w' ls xss:=
 ⟨gH h.nle hw.size,λi hi=>(h.own i hi).same hw λb a=>hF b (h.sub i b hi a).1 ((h.own i hi).lt a),h.sub,h.dj⟩
theorem RowsR.ext (h:RowsR N Fr w ls xss) (hw:Ext w w'):RowsR N Fr w' ls xss:=h.same hw λ_ _ _ h=>h
theorem RowsR.weaken (h:RowsR N Fr w ls xss) (hF:∀b,Fr b->N<=b->b<w.heap.size->F' b):RowsR N F' w ls xss:=
 ⟨h.nle,h.own,λi b hi a=>⟨hF b (h.sub i b hi a).1 (h.sub i b hi a).2 ((h.own i hi).lt a),(h.sub i b hi a).2⟩,h.dj⟩
theorem RowsR.int (h:RowsR N Fr w ls xss) {i:Nat} (hi:i<xss.length):Ints Fr w (ls.getD i undef) (xss.getD i []):=(h.own i hi).ints.weaken λb a _=>(h.sub i b hi a).1
theorem RowsR.nil (a:N<=w.heap.size):RowsR N Fr w [] []:=⟨a,λi hi=>absurd hi (by simp),λi b hi=>absurd hi (by simp),λi j b _ c=>absurd c (by simp)⟩
theorem RowsR.snoc {v:Value} {xs:oI} (h:RowsR N Fr w ls xss) (p:ls.length=xss.length) (q:OwnI zh w v xs) (hF:∀b,v.ownBlock=some b->Fr b/\N<=b) (o:∀i b,i<xss.length->(ls.getD i undef).ownBlock=some b->v.ownBlock≠some b):RowsR N Fr w (ls++[v]) (xss++[xs]):=by
 have g:∀i,i<(xss++[xs]).length->(i<xss.length/\(ls++[v]).getD i undef=ls.getD i undef/\(xss++[xs]).getD i []=xss.getD i [])\/(i=xss.length/\(ls++[v]).getD i undef=v/\(xss++[xs]).getD i []=xs):=λi hi=>by
  simp only[q0,Gd] at hi;by_cases e:i<xss.length
  .exact .inl ⟨e,getD_app_l oM,getD_app_l e⟩
  .have c:i=xss.length:=oM;exact .inr ⟨c,by rw[c,<-p];simp,by rw[c];simp⟩
 refine⟨h.nle,λi hi=>?_,λi b hi d=>?_,λi j b l n d=>?_⟩
 .rcases g i hi with⟨a,c,k⟩|⟨a,c,k⟩
  .rw[c,k];exact h.own i a
  .rw[c,k];exact q
 .rcases g i hi with⟨a,c,k⟩|⟨a,c,k⟩
  .rw[c] at d;exact h.sub i b a d
  .rw[c] at d;exact hF b d
 .rcases g i oM with⟨a,c,k⟩|⟨a,c,k⟩
  .rw[c] at d;rcases g j n with⟨m,f,_⟩|⟨m,f,_⟩
   .rw[f];exact h.dj i j b l m d
   .rw[f];exact o i b a d
  .simp only[q0,Gd] at n;omega
end
structure CnfO (N:Nat) (w:World) (lv:Value) (ls:List Value) (c:Cnf):Prop where
 lst:OwnV zI w lv ls
 len:ls.length=c.list.length
 dl:∀b,lv.ownBlock=some b->N<=b
 rows:RowsR N (λb=>lv.ownBlock≠some b) w ls c.list
theorem CnfO.cnf {lv:Value} {ls:List Value} (h:CnfO N w lv ls c):CnfR (λb=>N<=b) w (.agg #[nI c.many,lv]) c:=
 ⟨lv,rfl,ls,h.len,h.lst.vals.weaken λb a _=>h.dl b a,λi hi=>(h.rows.own i hi).ints.weaken λb a _=>(h.rows.sub i b hi a).2⟩
theorem CnfO.same {lv:Value} {ls:List Value} {S:oA} {w':World} (h:CnfO N w lv ls c) (hw:Same S w w') (d:∀b,N<=b->b<w.heap.size->¬S b):CnfO N w' lv ls c:=
 ⟨h.lst.same hw λb a=>d b (h.dl b a) (h.lst.lt a),h.len,h.dl,⟨gH h.rows.nle hw.size,λi hi=>(h.rows.own i hi).same hw λb a=>d b (h.rows.sub i b hi a).2 ((h.rows.own i hi).lt a),h.rows.sub,h.rows.dj⟩⟩
theorem CnfO.ext {lv:Value} {ls:List Value} {w':World} (h:CnfO N w lv ls c) (hw:Ext w w'):CnfO N w' lv ls c:=h.same hw λ_ _ _ h=>h
theorem CnfO.down {lv:Value} {ls:List Value} {M:Nat} (h:CnfO N w lv ls c) (d:M<=N):CnfO M w lv ls c:=
 ⟨h.lst,h.len,λb a=>gH d (h.dl b a),⟨gH d h.rows.nle,h.rows.own,λi b hi a=>⟨(h.rows.sub i b hi a).1,gH d (h.rows.sub i b hi a).2⟩,h.rows.dj⟩⟩
end
end Go.Proofs.YtfnpmncplaibiaaGreatDoor
namespace Go.Proofs.YtfnpmncplaibiaaGreatDoor
open Go Go.Vc Go.Proofs
section
variable {w:World} {K:oK} {D F F' G Fr X:oA} {n m N bl bc mb bb:Nat} {gs hs:M.Gs} {v:Value} {ls ls':List Value} {xss yss:List (oI)} {xs:oI} {t:M.Tm} {ar ab:Addr} {k:Int}
theorem RowsR.app (h:RowsR N Fr w ls xss) (q:ls.length=xss.length) (m:RowsR N Fr w ls' yss) (r:ls'.length=yss.length) (p:∀i j b,i<xss.length->j<yss.length->(ls.getD i undef).ownBlock=some b->(ls'.getD j undef).ownBlock≠some b):
  RowsR N Fr w (ls++ls') (xss++yss):=by
 have g1:∀{α:Type} {a b:List α} {d:α} {i:Nat},i<a.length->(a++b).getD i d=a.getD i d:=λh=>by simp[y2,Gj h]
 have g2:∀{α:Type} {a b:List α} {d:α} {i:Nat},a.length<=i->(a++b).getD i d=b.getD (i-a.length) d:=λh=>by simp[y2,Gy h]
 have sp:∀i,i<(xss++yss).length->(i<xss.length/\(ls++ls').getD i undef=ls.getD i undef/\(xss++yss).getD i []=xss.getD i [])\/(xss.length<=i/\i-xss.length<yss.length/\(ls++ls').getD i undef=ls'.getD (i-xss.length) undef/\(xss++yss).getD i []=yss.getD (i-xss.length) []):=λi hi=>by
  rw[q0] at hi;by_cases c:i<xss.length
  .exact .inl ⟨c,g1 oM,g1 c⟩
  .exact .inr ⟨oM,oM,by rw[g2 oM,q],g2 oM⟩
 refine⟨h.nle,λi hi=>?_,λi b hi f=>?_,λi j b n o f=>?_⟩
 .rcases sp i hi with⟨a,e,g⟩|⟨a,a2,e,g⟩
  .rw[e,g];exact h.own i a
  .rw[e,g];exact m.own _ a2
 .rcases sp i hi with⟨a,e,g⟩|⟨a,a2,e,g⟩
  .rw[e] at f;exact h.sub i b a f
  .rw[e] at f;exact m.sub _ b a2 f
 .rcases sp i oM with⟨a,e,g⟩|⟨a,a2,e,g⟩
  .rw[e] at f;rcases sp j o with⟨c,k,l⟩|⟨c,c2,k,l⟩
   .rw[k];exact h.dj i j b n c f
   .rw[k];exact p i _ b a c2 f
  .rw[e] at f;rcases sp j o with⟨c,k,l⟩|⟨c,c2,k,l⟩
   .omega
   .rw[k];exact m.dj _ _ b oM c2 f
theorem RowsR.new {w0:World} {r:Value} (h:RowsR N Fr w0 ls xss) (d:ls.length=xss.length) (hw:Ext w0 w) (f:OwnI zh w r xs) (c:∀b,r.ownBlock=some b->w0.heap.size<=b) (hF:∀b,r.ownBlock=some b->Fr b):RowsR N Fr w (ls++[r]) (xss++[xs]):=
 RowsR.snoc (h.ext hw) d f (λb a=>⟨hF b a,gH h.nle (c b a)⟩) λi b hi a e=>by
  have:=(h.own i hi).lt a;have:=c b e;omega
theorem lit_ints {us:oI} {xs:List Value} (a:xs=us.map λx=>nI x) (f:us.length<=8) (d:∀w' b,b=w.heap.size->Ext w w'->w'.heap.size=w.heap.size+1->OwnI zh w' (.slice (some ⟨b,0,none⟩) us.length us.length) us->K (.slice (some ⟨b,0,none⟩) us.length us.length) w'):
  vbuildS zh xs.length (xs.zipIdx.map λp=>(p.2,p.1)) w K:=by
 have hlen:xs.length=us.length:=by rw[a,y4]
 refine vbuildS_row1 xu yW xK (λx h=>by subst a;obtain⟨y,_,rfl⟩:=gr.1 h;rfl) oM λb w' e he hs c=>?_;rw[hlen];refine d w' b e he hs ?_;unfold OwnI OwnV;rw[<-a];exact Blk.own1 (t:=zh) (cs:=xs) (by rw[qQ];exact c) (gF _) hlen.symm hlen.symm oM
theorem lit_lists {xs:List Value} (f:∀x,x∈xs->∃o l c,x= .slice o l c) (g:xs.length<=8) (d:∀w' b,b=w.heap.size->Ext w w'->w'.heap.size=w.heap.size+1->OwnV zI w' (.slice (some ⟨b,0,none⟩) xs.length xs.length) xs->K (.slice (some ⟨b,0,none⟩) xs.length xs.length) w'):
  vbuildS zI xs.length (xs.zipIdx.map λp=>(p.2,p.1)) w K:=by
 refine vbuildS_row1 Q9 jg Wp (λx h=>by obtain⟨o,l,c,rfl⟩:=f x h;rfl) oM λb w' e he hs a=>?_;exact d w' b e he hs (Blk.own1 (t:=zI) (cs:=xs) (by rw[UY];exact a) (gF _) rfl rfl oM)
structure Fresh (N:Nat) (w:World) (v:Value) (ls:List Value) (xss:List (oI)):Prop where
 own:OwnV zI w v ls
 len:ls.length=xss.length
 new:∀b,v.ownBlock=some b->N<=b
 rows:RowsR N (λb=>v.ownBlock≠some b) w ls xss
theorem neg_wrap {x:Int} (h:x.natAbs<=100000):IntKind.i64.wrap (0-x)= -x:=by rw[zk oM oM];omega
theorem Gate_clauses_spec {g:M.Gt} (s:g.a.natAbs<=100000) (h:g.b.natAbs<=100000) (t:k.natAbs<=100000) (J:∀w' v ls,Ext w w'->Fresh w.heap.size w' v ls (M.gateC k g)->K v w'):vcall ki #[gv g,nI k] w K:=by
 refine ze {} Tryz.func133 ?_;refine zj (cs:=yl g) λb1 w1 W D X f=>?_;simp(disch:=exact oS) only[push_cast,yl,f.ld0,f.ld1,f.ld2,neg_wrap s,neg_wrap h,neg_wrap t];have z1:=D.size;have lit:∀{n:Nat} {w2:World} {us:oI} {xs:List Value} {ls:List Value} {xss:List (oI)} {K:oK},xs=us.map (λx=>nI x)->us.length<=8->Ext w1 w2->RowsR w.heap.size (λb=>b<w2.heap.size) w2 ls xss->ls.length=xss.length->
   (∀q v,Ext w1 q->RowsR w.heap.size (λb=>b<q.heap.size) q (ls++[v]) (xss++[us])->(∃o l c,v= .slice o l c)->K v q)->vbuildS zh xs.length (xs.zipIdx.map λp=>(p.2,p.1)) w2 K:=λ{n w2 us xs ls xss K} i I he O N J=>by
  refine lit_ints i I λq b3 L d S r=>?_;refine J q _ (he.trans d) (RowsR.new (O.weaken λb V _ _=>oM) N d r (λb h=>?_) λb h=>r.lt h) ⟨_,_,_,rfl⟩;have:b=b3:=(K3 h).symm;omega
 have fin:∀{w2:World} {xs:List Value} {xss:List (oI)},xs.length<=8->xs.length=xss.length->(∀x,x∈xs->∃o l c,x= .slice o l c)->Ext w1 w2->RowsR w.heap.size (λb=>b<w2.heap.size) w2 xs xss->xss=M.gateC k g->vbuildS zI xs.length (xs.zipIdx.map λp=>(p.2,p.1)) w2 K:=λ{w2 xs xss} I N i he O T=>by
  refine lit_lists i I λq b3 L d S r=>?_;have z2:=he.size;refine J q _ xs (D.trans (he.trans d)) ⟨r,by rw[<-T];exact N,λb h=>?_,?_⟩
  .have:b=b3:=(K3 h).symm;omega
  .rw[<-T];exact(O.ext d).weaken λb V _ _ e=>by
    have:b3=b:=K3 e;omega
 refine zn (λi=>?_) (λi=>?_)
 .refine lit (n:=3) (xs:=[nI g.a,nI g.b,nI (-k)]) (us:=[g.a,g.b,-k]) rfl (by simp) (Same.refl _ _) (RowsR.nil oM) rfl λw2 v2 j u A=>?_;have F:=f.ext j
  try simp(disch:=exact oS) only[push_cast,F.ld1,F.ld2,neg_wrap s,neg_wrap h,neg_wrap t]
  refine lit (n:=3) (xs:=[nI (-g.a),nI (-g.b),nI (-k)]) (us:=[-g.a,-g.b,-k]) rfl (by simp) j u rfl λq v3 d y B=>?_;have G:=f.ext d
  try simp(disch:=exact oS) only[push_cast,G.ld1,G.ld2,neg_wrap s,neg_wrap h,neg_wrap t]
  refine lit (n:=3) (xs:=[nI (-g.a),nI g.b,nI k]) (us:=[-g.a,g.b,k]) rfl (by simp) d y rfl λY v4 m z C=>?_;have H:=f.ext m
  try simp(disch:=exact oS) only[push_cast,H.ld1,H.ld2,neg_wrap s,neg_wrap h,neg_wrap t]
  refine lit (n:=3) (xs:=[nI g.a,nI (-g.b),nI k]) (us:=[g.a,-g.b,k]) rfl (by simp) m z rfl λZ v5 E Q R=>?_;have U:=f.ext E
  try simp(disch:=exact oS) only[push_cast,U.ld1,U.ld2,neg_wrap s,neg_wrap h,neg_wrap t]
  refine fin (xs:=[v2,v3,v4,v5]) (by simp) rfl (λx i=>?_) E Q (by unfold M.gateC;rw[y3 i];rfl);simp only[gg,gx,Ge] at i;rcases i with rfl|rfl|rfl|rfl
  .exact A
  .exact B
  .exact C
  .exact R
 .refine lit (n:=2) (xs:=[nI g.a,nI (-k)]) (us:=[g.a,-k]) rfl (by simp) (Same.refl _ _) (RowsR.nil oM) rfl λw2 v2 j u A=>?_;have F:=f.ext j
  try simp(disch:=exact oS) only[push_cast,F.ld1,F.ld2,neg_wrap s,neg_wrap h,neg_wrap t]
  refine lit (n:=2) (xs:=[nI g.b,nI (-k)]) (us:=[g.b,-k]) rfl (by simp) j u rfl λq v3 d y B=>?_;have G:=f.ext d
  try simp(disch:=exact oS) only[push_cast,G.ld1,G.ld2,neg_wrap s,neg_wrap h,neg_wrap t]
  refine lit (n:=3) (xs:=[nI (-g.a),nI (-g.b),nI k]) (us:=[-g.a,-g.b,k]) rfl (by simp) d y rfl λY v4 m z C=>?_;have H:=f.ext m
  try simp(disch:=exact oS) only[push_cast,H.ld1,H.ld2,neg_wrap s,neg_wrap h,neg_wrap t]
  refine fin (xs:=[v2,v3,v4]) (by simp) rfl (λx i=>?_) m z (by unfold M.gateC;rw[y0 (by simp[i])];rfl);simp only[gg,gx,Ge] at i;rcases i with rfl|rfl|rfl
  .exact A
  .exact B
  .exact C
theorem gatesC_app (n:Nat):∀(a b:M.Gs) (j:Nat),M.gatesC n (a++b) j=M.gatesC n a j++M.gatesC n b (j+a.length)
 |[],b,j=>by simp[M.gatesC]
 |g::a,b,j=>by
  show M.gateC _ g++M.gatesC n (a++b) (j+1)=(M.gateC _ g++M.gatesC n a (j+1))++M.gatesC n b (j+(g::a).length);rw[gatesC_app n a b (j+1),Gf,gB,show j+1+a.length=j+(a.length+1) by omega]
theorem gatesC_take {i:Nat} (hi:i<gs.length):M.gatesC n (gs.take (i+1)) 0=M.gatesC n (gs.take i) 0++M.gateC (2+n+i) gs[i]:=by
 have a:gs.take (i+1)=gs.take i++[gs[i]]:=by rw[G5,V0 hi];rfl
 rw[a,gatesC_app];simp only[M.gatesC,gE,gh,gX];rw[GG oM]
def CnfI (w2:World) (m:Int) (d:oA) (u:List Value) (w':World):Prop:=
 Ext w2 w'/\(d 10->sl 1 u= nI m)/\(d 11->∃b,sl 2 u= .slice (some ⟨b,0,none⟩) 1 1/\OwnI zh w' (.slice (some ⟨b,0,none⟩) 1 1) [1]/\w2.heap.size<=b)/\
 (d 12->d 11/\∃b,sl 3 u= .slice (some ⟨b,0,none⟩) 1 1/\OwnV zI w' (.slice (some ⟨b,0,none⟩) 1 1) [sl 2 u]/\w2.heap.size<=b/\(sl 2 u).ownBlock≠some b)/\
 (d 13->d 10/\d 12/\sl 4 u= .agg ⟨[sl 1 u,sl 3 u]⟩)/\(d 14->∃b cs,sl 0 u= oP b 0/\w2.heap.size<=b/\Blk w' b cs zp/\cs.length=2/\(d 15->cs=[sl 1 u,sl 3 u])/\(d 11->(sl 2 u).ownBlock≠some b)/\(d 12->(sl 3 u).ownBlock≠some b))/\(d 15->d 14/\d 13)
theorem gpos {i:Nat} (c:M.NetG n gs) (j:n<=8) (hi:i<gs.length):gs[i].a.natAbs<=100000/\gs[i].b.natAbs<=100000:=by
 obtain⟨g,d,f,h⟩:=c.gate i hi;have:=c.few;have e:∀a:Int,M.absI a=(a.natAbs:Int):=λa=>by unfold M.absI;split<;>omega
 rw[e,e] at d;rw[e] at f;omega
theorem Zj (n:Nat):∀(gs:M.Gs) (j:Nat),(M.gatesC n gs j).length<=4*gs.length:=λgs j=>M.gatesC_len gs j
theorem cnf8_spec (hc:CktR n bc w gs v mb) (hg:M.NetG n gs) (hK:∀w' lv ls,Ext w w'->CnfO w.heap.size w' lv ls (M.netC n gs [])->K (.agg #[nI (1+n+gs.length:Nat),lv]) w'):vcall kC #[oP bc 0] w K:=by
 apply XX;have bw:=hc.few.2;have c9:=hg.few;refine zi xr λb1 w1 ce b6 ci bm=>?_;refine zd λw2 ah _=>?_;have e2:=b6.trans ah;have ag:=hc.blk.ext e2;have ay:=bm.ext ah;have O:∀{w':World},Ext w2 w'->∀K:oK,zu zx (oP bc 0) w' K=K (.agg ⟨[nI n,v]⟩) w':=λ{w'} h K=>Blk.ldTake (us:=[nI n,v]) (r:=[.map (some mb)]) (ag.ext h) zY;have hlen:∀(w':World) (K:oK),vbi .len [zA] zV [v] w' K=K (nI gs.length) w':=λw' K=>jF0 (Own.ext hc.own e2);simp(disch:=exact oS) only[push_cast,ag.ld1,O (Same.refl _ _),hlen,y1];obtain⟨m,hm⟩:∃m:Int,m=(1+n+gs.length:Nat):=⟨_,rfl⟩;refine⟨CnfI w2 m,⟨Same.refl _ _,by simp,by simp,by simp,by simp,by simp,by simp⟩,?_⟩;rintro d u _ V ⟨A,i10,i11,i12,i13,i14,i15⟩;have bp:=ag.ext A;have z3:=A.size;simp(disch:=exact oS) only[push_cast,bp.ld1,O A,hlen,y1,V1];generalize sl 0 u=a0 at*;generalize sl 1 u=a1 at*;generalize sl 2 u=a2 at*;generalize sl 3 u=a3 at*;generalize sl 4 u=a4 at*;have res:∀{i j:Nat} {p:Prop},i≠j->(i=j\/p)->p:=λh U=>U.resolve_left h;have t11:∀{G:World},Ext V G->d 11->∃b,a2= .slice (some ⟨b,0,none⟩) 1 1/\OwnI zh G (.slice (some ⟨b,0,none⟩) 1 1) [1]/\w2.heap.size<=b:=λhe h=>by
  obtain⟨b,x,y,z⟩:=i11 h;exact⟨b,x,y.ext he,z⟩
 have t12:∀{G:World},Ext V G->d 12->∃b,a3= .slice (some ⟨b,0,none⟩) 1 1/\OwnV zI G (.slice (some ⟨b,0,none⟩) 1 1) [a2]/\w2.heap.size<=b/\a2.ownBlock≠some b:=λhe h=>by
  obtain⟨_,b,x,y,z⟩:=i12 h;exact⟨b,x,y.ext he,z⟩
 have t14:∀{G:World},Ext V G->d 14->∃b cs,a0= oP b 0/\w2.heap.size<=b/\Blk G b cs zp/\cs.length=2/\(d 15->cs=[a1,a3])/\(d 11->a2.ownBlock≠some b)/\(d 12->a3.ownBlock≠some b)/\b<V.heap.size:=λhe h=>by
  obtain⟨b,cs,x,y,z,q1,q2,q3,q4⟩:=i14 h;exact⟨b,cs,x,y,z.ext he,q1,q2,q3,q4,z.lt⟩
 refine⟨⟨λn10=>?_,λn11=>?_,λn12 R=>?_,λn13 Z S=>?_,λn14=>?_,λn15 a5 an _ _ _ _ _ _=>?_,trivial⟩,λZ R S an a5 c8=>?_⟩
 .refine nodes_spec oM oM λG f=>?_;refine⟨A.trans f,λ_=>?_,λh=>t11 f (res dC h),λh=>⟨.inr (i12 (res dC h)).1,t12 f (res dC h)⟩,λh=>absurd (i13 (res dC h)).1 n10,λh=>?_,λh=>absurd (i13 (i15 (res dC h)).2).1 n10⟩
  .show nI _=_;congr 1;omega
  .obtain⟨b,cs,x,y,z,q1,q2,q3,q4,_⟩:=t14 f (res dC h);exact⟨b,cs,x,y,z,q1,λh=>absurd (i13 (i15 (res dC h)).2).1 n10,λh=>q3 (res dC h),λh=>q4 (res dC h)⟩
 .have F: ¬d 12:=λh=>n11 (i12 h).1;refine lit_ints (xs:=[nI 1]) (us:=[1]) rfl (by simp) λG b4 az f am E=>?_;refine⟨A.trans f,λh=>i10 (res dC h),λ_=>⟨b4,rfl,E,oM⟩,λh=>absurd (res dC h) F,λh=>absurd (i13 (res dC h)).2.1 F,λh=>?_,λh=>absurd (i13 (i15 (res dC h)).2).2.1 F⟩;obtain⟨b,cs,x,y,z,q1,q2,q3,q4,q5⟩:=t14 f (res dC h);exact⟨b,cs,x,y,z,q1,λh=>absurd (i13 (i15 (res dC h)).2).2.1 F,λ_ e=>by have e6:b4=b:=K3 e;omega,λh=>absurd (res dC h) F⟩
 .obtain⟨b2,ap,o2,l2⟩:=i11 R;have cn:b2<V.heap.size:=o2.lt rfl;refine lit_lists (xs:=[a2]) (λx hx=>by rw[gw.1 hx];exact⟨_,_,_,ap⟩) (by simp) λG b4 az f am E=>?_;refine⟨A.trans f,λh=>i10 (res dC h),λh=>t11 f (res dC h),λ_=>⟨.inr R,b4,rfl,E,oM,?_⟩,λh=>absurd (i13 (res dC h)).2.1 n12,λh=>?_,λh=>absurd (i13 (i15 (res dC h)).2).2.1 n12⟩
  .show a2.ownBlock≠some b4;rw[ap];intro e;have e6:b2=b4:=K3 e;omega
  .obtain⟨b,cs,x,y,z,q1,q2,q3,q4,q5⟩:=t14 f (res dC h);exact⟨b,cs,x,y,z,q1,λh=>absurd (i13 (i15 (res dC h)).2).2.1 n12,λh=>q3 (res dC h),λ_ e=>by have e6:b4=b:=K3 e;omega⟩
 .obtain⟨_,b3,ac,o3,l3,n3⟩:=i12 S;have ab:=i10 Z;have bs:∀K:oK,yr zp [(0,a1),(1,a3)] V K=K (.agg ⟨[a1,a3]⟩) V:=λK=>by
   rw[ab,ac];exact zS QI (us:=[[nI m],[.slice (some ⟨b3,0,none⟩) 1 1]]) rfl rfl
  rw[bs];refine⟨rfl,A,λh=>i10 (res dC h),λh=>t11 (Same.refl _ _) (res dC h),λh=>⟨.inr (i12 (res dC h)).1,t12 (Same.refl _ _) (res dC h)⟩,λ_=>⟨.inr Z,.inr S,rfl⟩,λh=>?_,λh=>⟨.inr (i15 (res dC h)).1,.inl rfl⟩⟩;obtain⟨b,cs,x,y,z,q1,q2,q3,q4,q5⟩:=t14 (Same.refl _ _) (res dC h);exact⟨b,cs,x,y,z,q1,λh=>q2 (res dC h),λh=>q3 (res dC h),λh=>q4 (res dC h)⟩
 .have aa: ¬d 15:=λh=>n14 (i15 h).1;refine zi xr λb4 G az f am B=>?_;refine⟨A.trans f,λh=>i10 (res dC h),λh=>t11 f (res dC h),λh=>⟨.inr (i12 (res dC h)).1,t12 f (res dC h)⟩,λh=>?_,λ_=>⟨b4,_,rfl,oM,B,rfl,λh=>absurd (res dC h) aa,λh e=>?_,λh e=>?_⟩,λh=>absurd (res dC h) aa⟩
  .obtain⟨x,y,z⟩:=i13 (res dC h);exact⟨.inr x,.inr y,z⟩
  .obtain⟨b,x,y,z⟩:=i11 (res dC h);have e':a2.ownBlock=some b4:=e;rw[x] at e';have e6:b=b4:=K3 e';have lt4:b<V.heap.size:=y.lt rfl;omega
  .obtain⟨_,b,x,y,z⟩:=i12 (res dC h);have e':a3.ownBlock=some b4:=e;rw[x] at e';have e6:b=b4:=K3 e';have lt4:b<V.heap.size:=y.lt rfl;omega
 .obtain⟨bh,a6,bk⟩:=i13 an;obtain⟨T,cs,bi,l0,B0,b8,_,n2,n3⟩:=i14 a5;have ab:=i10 bh;obtain⟨ao,b3,ac,o3,l3,_⟩:=i12 a6;subst bk bi ab ac;refine B0.stAgg (cs':=[nI m,.slice (some ⟨b3,0,none⟩) 1 1]) (by rw[b8];rfl) zD net_one λG ak am B=>?_;refine⟨Ext.then A ak λy hy=>by subst hy;exact l0,λ_=>rfl,λh=>?_,λh=>?_,λ_=>⟨.inr bh,.inr a6,rfl⟩,λ_=>⟨T,_,rfl,l0,B,rfl,λ_=>rfl,λh=>n2 (res dC h),λh=>n3 (res dC h)⟩,λ_=>⟨.inr a5,.inr an⟩⟩
  .obtain⟨b,x,y,z⟩:=i11 ao;refine⟨b,x,y.same ak λc hc e=>?_,z⟩;have U:=n2 ao;rw[x] at U;exact U (hc.trans (by rw[e]))
  .refine⟨.inr ao,b3,rfl,o3.same ak λc hc e=>?_,l3,?_⟩
   .exact n3 a6 (hc.trans (by rw[e]))
   .obtain⟨_,b,x,y,z,q⟩:=i12 a6;cases x;exact q
 obtain⟨b2,x2,o2,l2⟩:=i11 R;obtain⟨_,b3,x3,o3,l3,d23⟩:=i12 S;obtain⟨T,cs,x0,l0,B0,b8,bl,n2,n3⟩:=i14 a5;have bt:=bl c8;have c6:=n2 R;have c7:=n3 S;have c3:=i10 Z;subst bt x0 x3 x2 c3;have z1:=b6.size;have be:RowsR w2.heap.size (λb=>b≠b3/\b≠T) V [.slice (some ⟨b2,0,none⟩) 1 1] [[1]]:=by
  refine RowsR.snoc (RowsR.nil z3) rfl o2 (λb k=>⟨⟨λe=>d23 (k.trans (by rw[e])),λe=>c6 (k.trans (by rw[e]))⟩,?_⟩) (λi b hi=>absurd hi (by simp));have e6:b2=b:=K3 k;omega
 have bq:∀{w':World},Ext w2 w'->GatesR (λb=>v.ownBlock=some b) w' v gs:=λh=>Sl.ext (Own.sl hc.own) (e2.trans h);refine vloop_up gs.length (λi u w'=>u=[nI i]/\Ext w2 w'/\∃lv ls,Blk w' T [nI m,lv] zp/\OwnV zI w' lv ls/\ls.length=([1]::M.gatesC n (gs.take i) 0).length/\RowsR w2.heap.size (λb=>lv.ownBlock≠some b/\b≠T) w' ls ([1]::M.gatesC n (gs.take i) 0)/\∀b,lv.ownBlock=some b->w2.heap.size<=b/\b≠T)
  ⟨rfl,A,_,_,B0,o3,rfl,be.weaken λb s _ _=>⟨λe=>s.1 (by have e6:b3=b:=K3 e;exact e6.symm),s.2⟩,λb k=>⟨by have e6:b3=b:=K3 k;omega,λe=>c7 (k.trans (by rw[e]))⟩⟩ ?_
 rintro i _ _ G C hi ⟨rfl,f,lv,ls,B,E,L,X,N⟩ hC;refine oZ ?_;have e4:=e2.trans f;have bj:=f;have z4:=f.size;refine zb (λa=>?_) (λa=>?_)
 .have J:i<gs.length:=oM;have bf:=bq f;rw[Sl.iaddr bf Y3 oM (by rw[xx0];omega),gl,Sl.ldAgg bf xO (by rw[xx0];exact J),yk0 J];obtain⟨ha,k⟩:=gpos hg bw J;have b7:=gatesC_take (n:=n) J;generalize cg:gs[i]=g at*;refine zi ku λb5 w5 cf bu c5 af=>?_;refine af.stAgg (cs':=yl g) rfl xO (gone [g] _ (by simp)) λw6 c2 cj bn=>?_;have aq:Ext G w6:=Ext.then bu c2 λy hy=>by subst hy;omega
  refine zd λw7 ai _=>?_;have ad:=aq.trans ai;have bo:=bn.ext ai;have av:=B.ext ad;have b9:∀{w':World},Ext w7 w'->∀K:oK,zu zm (oP b5 0) w' K=K (gv g) w':=λh K=>Blk.ldAgg (bo.ext h) (by exact xO);simp(disch:=exact oS) only[push_cast,av.ld1,b9 (Same.refl _ _),O (bj.trans ad),y1];refine nodes_spec oM oM λw8 W=>?_;have aw:=av.ext W;simp(disch:=exact oS) only[push_cast,aw.ld1,b9 W,y1,V1,zk];rw[show(1+(n:Int)+(i:Int)+1)=2+n+i by omega];refine Gate_clauses_spec ha k oM λw9 v9 Y aj D=>?_;have ax:=aw.ext aj;have ae:=ad.trans (W.trans aj);simp(disch:=exact oS) only[push_cast,ax.ld1,y1,V1];have cl:=W.size;have ck:=ai.size;have cd:=aq.size;have cm:=aj.size;have ch:ls.length<=2401:=by
   have s:=Zj n (gs.take i) 0;have U:(gs.take i).length=i:=by rw[gh];omega
   rw[L,gB];omega
  have ca:Y.length<=4:=by rw[D.len];unfold M.gateC;split<;>simp
  refine OwnV.app (us:=Y) (E.ext ae) Y0 D.own.vals (λu hu=>?_) oM oM λv10 w10 Q H a7=>?_
  .obtain⟨j,hj,rfl⟩:=gn hu;have bx:=D.rows.own j (by rw[<-D.len];exact hj);obtain⟨o,c,e,_⟩:=bx.ints.shape;rw[y2,V0 hj,GO] at e;rw[e];rfl
  have cb:=H.size;have au:=ax.same H λe=>(N _ e).2 rfl
  try simp only[push_cast,y1]
  refine au.st (i:=1) (v:=v10) ?_ ?_ Q6 (by rfl) λco I cc ar=>?_
  .obtain⟨o,c,e,_⟩:=Q.vals.shape;rw[e];rfl
  .obtain⟨o,c,e,_⟩:=Q.vals.shape;rw[e];rfl
  try simp(disch:=omega) only[push_cast,zk]
  have c4:=I.size;have bg:∀b,lv.ownBlock=some b->b<G.heap.size:=λb k=>E.lt k;have bz:RowsR w2.heap.size (λb=>lv.ownBlock≠some b/\b≠T) w9 ls ([1]::M.gatesC n (gs.take i) 0):=X.ext ae;have c1:RowsR w2.heap.size (λb=>lv.ownBlock≠some b/\b≠T) w9 Y (M.gateC (2+n+i) g):=by
   have s:=D.rows;refine⟨oM,s.own,λj b hj k=>?_,s.dj⟩;have U:=(s.sub j b hj k).2;exact⟨⟨λe=>by have h6:=bg b e;omega,λe=>by have:=B.lt;omega⟩,oM⟩
  have c0:=bz.app L c1 D.len λj1 j2 b s U k e=>by
   have:=(X.own j1 s).lt k;have:=(D.rows.sub j2 b U e).2;omega
  have a9:∀b,v10.ownBlock=some b->w2.heap.size<=b/\b≠T:=λb k=>by
   rcases a7 b k with h|h
   .exact N b h
   .have:=B.lt;exact⟨oM,λe=>oM⟩
  refine hC J _ _ ⟨by simp,?_,v10,ls++Y,ar,Q.same I λb k e=>(a9 b k).2 e,?_,?_,a9⟩
  .exact Ext.then (Ext.then (f.trans ae) H λb k=>(N b k).1) I λb k=>by subst k;exact l0
  .rw[b7,q0,L,D.len,gB,gB,q0];omega
  .rw[b7,<-Gz];have bd:=c0.weaken (F':=λb=>(lv.ownBlock≠some b/\b≠T)/\b<w9.heap.size) λb s _ h3=>⟨s,h3⟩;refine((bd.same H λb s _ e=>s.1.1 e).same I λb s _ e=>s.1.2 e).weaken λb s _ _=>⟨λe=>?_,s.1.2⟩;rcases a7 b e with h|h
   .exact s.1.1 h
   .omega
 .have bv:i=gs.length:=oM;subst bv;rw[gy] at L X;have br:=ay.ext f;obtain⟨o,c,ba,_⟩:=E.vals.shape;generalize (ls.map λx=>[x]).length=l at ba;subst ba;rw[B.ldAgg (t:=zp) zD];have z2:=ah.size;refine br.stAgg (cs':=[nI m,.slice o l c]) rfl zD net_one λw5 al c5 af=>?_;rw[af.lv (t:=zp) zD,hm];have a8:Ext w w5:=Ext.then e4 al λy hy=>by subst hy;omega
  have bb:∀b,w2.heap.size<=b->b≠b1:=λb k e=>by have:=ay.lt;omega
  refine hK w5 _ ls a8 ⟨E.same al λb k e=>bb b (N b k).1 e,by rw[L];show _=([1]::(M.gatesC n gs 0++[])).length;rw[gE],λb k=>by have:=(N b k).1;omega,?_⟩;show RowsR _ _ _ _ ([1]::(M.gatesC n gs 0++[]));rw[gE];have s:=(X.weaken (F':=λb=>(Value.slice o l c).ownBlock≠some b/\w2.heap.size<=b) λb s U _=>⟨s.1,U⟩).same al λb s _ e=>bb b s.2 e;exact⟨by have:=a8.size;omega,s.own,λi b hi k=>⟨(s.sub i b hi k).1.1,by have:=(s.sub i b hi k).1.2;omega⟩,s.dj⟩
end
section
variable {w:World} {K:oK} {D F F' G Fx Fy X:oA} {n m N bl bc mb bb kb:Nat} {gs hs:M.Gs} {v dv tv f:Value} {ls:List Value} {xss:List (oI)} {xs:oI} {ds:List M.Dcl} {t:M.Tm} {ts ks:List M.Tm} {ar ab at_:Addr} {k:Int}
theorem ContainsT {p:M.Tm->Bool} (m:TmsR F w v ks) (s:∀(w':World) (x:Value) (t:M.Tm) (K:oK),Ext w w'->t∈ks->TermR F w' x t->(∀w'',Ext w' w''->K (.bool (p t)) w'')->vcallv f #[x] w' K) (o:∀w',Ext w w'->K (.bool (ks.any p)) w'):
  vcall xU #[v,f] w K:=by
 refine ze {} Tryz.func85 ?_;refine ze {loops:=[(2,[8])]} Tryz.func124 ?_;have y:=m.small;simp only[push_cast,m.len];refine vloop_up ks.length (λi u w'=>u=[nI i]/\Ext w w'/\∀j,j<i->p (ks.getD j default)=false) ⟨rfl,Same.refl _ _,λj l=>absurd l oM⟩ ?_;rintro i _ _ q C hi ⟨rfl,a,g⟩ r;have k:=m.ext a;refine oZ ?_;refine zb (λb=>?_) (λb=>?_)
 .have d:i<ks.length:=oM;simp(disch:=exact oS) only[push_cast,k.iaddr];refine k.load zc d λx n=>?_;refine s q x _ _ a (M.getD_mem d _) n λz h=>?_;refine zn (λc=>?_) (λc=>?_)
  .try simp only[push_cast]
   rw[gu oM];have:=o z (a.trans h);rwa[G8.2 ⟨_,M.getD_mem d _,c⟩] at this
  .rw[inc64' oM];refine r d _ _ ⟨rfl,a.trans h,λj l=>?_⟩;by_cases e:j<i
   .exact g j e
   .have:j=i:=oM;subst this;exact c
 .try simp only[push_cast]
  rw[gj oM];have:=o q a;rwa[show ks.any p=false from by
   rw[pM];intro x n;obtain⟨j,l,rfl⟩:=gn n;have:=g j oM;rw[y2,V0 l,GO] at this;rw[this];decide] at this
def zd0 (ds:List M.Dcl) (ts:List M.Tm):Bool:=decide (ts.length<=8)&&M.declOk ds&&ts.all λt=>decide (M.tsort ds t=0)
theorem all8_iff:zd0 ds ts=true↔ts.length<=8/\M.declOk ds=true/\∀t,t∈ts->M.tsort ds t=0:=by
 simp only[zd0,gd,X0,Gb,and_assoc]
def cnfE (ds:List M.Dcl) (ts:List M.Tm):M.Cnf×Nat:=if zd0 ds ts=true then(match M.listB ds ts with
 |some r=>(M.blastC ds r.1 r.2,0)
 |none=>(⟨0,[]⟩,1)) else(⟨0,[]⟩,2)
def errV (ar at_:Addr):Nat->Value
 |0=> .nilIface
 |1=>erv ar
 |_=>erv at_
theorem xD0 {N:Nat} (a:N<=w.heap.size):CnfO N w (oN) [] ⟨0,[]⟩:=⟨OwnV.nil,rfl,λb c=>(by cases c),RowsR.nil a⟩
theorem ka0:yr zp [] w K=K (.agg ⟨[nI 0,oN]⟩) w:=zS QI (us:=[]) rfl rfl
theorem JD (h:M.tsort ds t=0):M.sortM ds t=0/\M.fits t=true/\M.sizeM t<=20:=by
 obtain⟨a,b,d,c⟩:=Z00 (ds:=ds) (t:=t) (by rw[h];decide);unfold M.tsort at h;rw[y3 ⟨a,b⟩] at h;exact⟨h,a,c⟩
structure RootsB (n bl bb kb m:Nat) (ar ab:Addr) (ds:List M.Dcl) (dv:Value) (ts:List M.Tm) (F:oA) (w:World) (i:Nat) (v:Value) (w':World):Prop where
 ex:∃(F1:oA) (st1:Option M.Gs) (vs:List Value) (xss rs:List (oI)),BlR n bl bb kb m ar ab ds dv (λb=>b=m\/v.ownBlock=some b) F1 w' st1/\Mv (P1 m F) w (P1 m F1) w'/\OwnV zI w' v vs/\(∀b,v.ownBlock=some b->w.heap.size<=b/\¬F1 b)/\
  vs.length=xss.length/\vs.length<=i/\RowsR w.heap.size (λb=> ¬F1 b/\b≠m/\v.ownBlock≠some b) w' vs xss/\TOut n (M.seqB ((ts.take i).map (M.termB ds))) (some []) st1 rs/\(∀gs,st1=some gs->xss=M.rootsC rs/\rs.length=i)
theorem blastCnf_spec (hd:DclsR Fx w dv ds) (ht:TmsR Fy w tv ts) (he:Errs (λ_=>False) w ar ab) (cp:Sent w yN at_)
  (hK:∀w' lv ls,Ext w w'->CnfO w.heap.size w' lv ls (cnfE ds ts).1->K (.tuple #[.agg ⟨[nI (cnfE ds ts).1.many,lv]⟩,errV ar at_ (cnfE ds ts).2]) w'):vcall Ka #[dv,tv] w K:=by
 refine ze {loops:=[(8,[7,31])],cuts:=[(8195,[])]} Tryz.func48 ?_;obtain⟨o,c,c9,_⟩:=hd.shape;generalize (ds.map λd=>[Value.string d.1,nI d.2]).length=l at c9;subst c9;refine yp λb1 w1 dz cb dk bf=>?_;refine zi xr λb2 w2 e0 bj eb bh=>?_;have e2:=cb.trans bj;have z1:=cb.size;have z2:=bj.size;have e9:=ht.small;replace bf:Blk w1 b1 [.slice o l c] yo:=bf;have a7:=bf.ext bj;have none_:∀{w3:World} {g:Nat} {a:Addr} {k:Nat},Ext w2 w3->Sent w3 g a->b2≠g->errV ar at_ k=erv a->cnfE ds ts=(⟨0,[]⟩,k)->ZB w3 λB=>
   yr zp [] B λt20 bs=>bs=B/\
   zu xw (oP g 0) B λt21 bt=>bt=B/\
   zT zp (oP b2 0) t20 B λ_ S=>(zu xw (oP g 0) S λv x=>v=t21/\x=S)/\
   vlv zp (oP b2 0) S λr4 ak=>
   K (.tuple #[r4,t21]) ak:=λ{w3 g a k} z hs dc cc bi=>by
  refine zd λw4 a2 _=>?_;have cm:Sent w4 g a:=hs.same a2 id;have cz:=bh.ext (z.trans a2);rw[ka0];simp only[y5 xt cm.cell,y1];refine cz.stAgg (cs':=[nI 0,oN]) rfl zD net_one λR bp ec d1=>?_;have cn:Sent R g a:=cm.same bp λe=>dc e.symm;simp only[y5 xt cn.cell,y1,V1];rw[d1.lv (t:=zp) zD];have e5:Ext w R:=Ext.then (e2.trans (z.trans a2)) bp λy hy=>by subst hy;omega
  have:=hK R (oN) [] e5;rw[bi,cc] at this;exact this (xD0 e5.size)
 have gT:=cp.lt;have gR:=he.room.lt;have bad: ¬zd0 ds ts=true->∀{w3:World},Ext w2 w3->ZB w3 λB=>
   yr zp [] B λt20 bs=>bs=B/\
   zu xw (oP yN 0) B λt21 bt=>bt=B/\
   zT zp (oP b2 0) t20 B λ_ S=>(zu xw (oP yN 0) S λv x=>v=t21/\x=S)/\
   vlv zp (oP b2 0) S λr4 ak=>
   K (.tuple #[r4,t21]) ak:=λh {w3} z=>none_ (k:=2) z (cp.same (e2.trans z) id) oM rfl (by unfold cnfE;rw[y0 h])
 refine zo (λu w'=>u=[]/\Ext w2 w'/\ts.length<=8/\M.declOk ds=true) (λJ hJ=>?_) ?_
 .simp only[push_cast,(ht.ext e2).len];refine zb (λh=>bad (λh8=>by have:=(all8_iff.1 h8).1;omega) (Same.refl _ _)) (λh=>?_);simp(disch:=exact oS) only[push_cast,a7.ld0];refine DeclOk_spec (hd.ext e2) λw3 z=>?_;refine oZ ?_;refine zn (λh2=>bad (λh8=>by have:=(all8_iff.1 h8).2.1;rw[this] at h2;cases h2) z) (λh2=>hJ _ _ ⟨rfl,z,oM,by simpa using h2⟩)
 rintro _ _ w3 ⟨rfl,z,h8,aa⟩;have e3:=e2.trans z;refine oZ ?_;refine ContainsT (p:=λt=>decide (M.tsort ds t≠0)) (ht.ext e3) (λw' x t K ca _ hx d6=>?_) λw4 a2=>?_
 .simp only[push_cast,gE,Gg];refine ze {} Tryz.func86 ?_;obtain⟨cx,rfl,a1⟩:=hx.cells;refine zj λb5 R a0 I bp h5=>?_;have c4:=(a7.ext z).ext (ca.trans I);simp(disch:=exact oS) only[push_cast,c4.ld0];rw[h5.ldAgg (t:=za) (by rw[zU a1];exact zc)];refine TermSort_spec (hd.ext (e3.trans (ca.trans I))) (a1.ext I).term λw6 d9=>?_;refine oZ ?_;exact d6 _ (I.trans d9)
 have e4:=e3.trans a2;have a6:=z.trans a2;refine zn (λh=>bad (λh8=>?_) a6) (λh=>?_)
 .obtain⟨t,n,h2⟩:=G8.1 h;exact of_decide_eq_true h2 ((all8_iff.1 h8).2.2 t n)
 have a9:∀t,t∈ts->M.tsort ds t=0:=λt hm=>by
  have:=pM.1 h t hm;simpa using this
 have ch:zd0 ds ts=true:=all8_iff.2 ⟨h8,aa,a9⟩;have c1:=a7.ext a6;simp(disch:=exact oS) only[push_cast,c1.ld0];refine newBlaster_spec aa (hd.ext e4) (he.ext0 e4) λR bl bb kb m F5 a0 I cf=>?_;have e5:=e4.trans I;simp only[push_cast,(ht.ext e5).len];have z4:=e4.size;have z5:=I.size;have V:∀b,P1 m F5 b->w4.heap.size<=b:=λb f=>f.elim (λh=>cf b (.inl h)) λh=>cf b (.inr (.inl h));have ax:∀b,P1 m F5 b->b<R.heap.size:=λb f=>f.elim (λh=>a0.bd.lt b (.inl h)) λh=>a0.bd.lt b (.inr h);have d0:BlR (M.bits ds).toNat bl bb kb m ar ab ds (.slice o l c) (λb=>b=m\/(oN).ownBlock=some b) F5 R (some []):=
  a0.swap a0 (Same.refl (λ_=>False) R) (λb f=>f.elim) (λb f=>f.elim (λh=>⟨by subst h;exact ax b (.inr rfl),λ_=>h⟩) λh=>by cases h) (.inl rfl)
 refine vloop_up ts.length (λi u w'=> ∃v,u=[v,nI i]/\RootsB (M.bits ds).toNat bl bb kb m ar ab ds (.slice o l c) ts F5 R i v w') ⟨_,rfl,⟨F5,some [],[],[],[],d0,Mv.refl,OwnV.nil,(λb f=>by cases f),rfl,gp _,RowsR.nil (gp _),TOut.nil,λgs h=>⟨rfl,rfl⟩⟩⟩ ?_;rintro i _ g w6 C hi ⟨v,rfl,⟨F6,cs,vs,xss,rs,c8,ae,bm,Q,a4,ea,X,ap,aw⟩⟩ hC;refine oZ ?_;have z6:=ae.same.size;have e6:Ext w w6:=Ext.then e5 ae.same λy hy=>by have:=V y hy;omega
 have d5:∀b,F6 b->w4.heap.size<=b:=λb f=>(ae.new b (.inl f)).elim (V b) λh=>oM
 have e8:w4.heap.size<=m:=V m (.inr rfl);have cq:∀b,v.ownBlock=some b->¬P1 m F6 b:=λb f hp=>hp.elim (Q b f).2 λe=>by have:=(Q b f).1;have:=ax m (.inr rfl);omega
 refine zb (λa=>?_) (λa=>?_)
 .have O:i<ts.length:=oM;have co:=(ht.weaken (F':=λb=>b<w.heap.size) λb _ hl=>hl).ext e6;simp(disch:=exact oS) only[push_cast,co.iaddr];refine co.load zc O λx hx=>?_;obtain⟨cx,rfl,a1⟩:=hx.cells;refine zi zq λb7 w7 H N ed d2=>?_;refine stTerm d2 rfl (a1.ext N) λw8 di ee d3=>?_;have Z:Ext w6 w8:=Ext.then N di λy hy=>by subst hy;omega
  have eg:=Z.size;have v8:=a1.ext Z;simp only[push_cast,d3.ldAgg (t:=za) (by rw[zU a1];exact zc)];obtain⟨bo,_,dy⟩:=JD (a9 _ (M.getD_mem O default));have d7:=c8.grow Z;refine term_spec aa _ (by rw[bo];decide) oM d7 (v8.term.weaken λb f _=>⟨λh=>by have:=d5 b h;omega,λh=>h.elim (λe=>oM) λe=>by have:=(Q b e).1;omega⟩) λw9 F9 ct r zs G a3 cj dm bq=>?_;have z9:=a3.same.size;have b8:TOut (M.bits ds).toNat (M.seqB ((ts.take (i+1)).map (M.termB ds))) (some []) ct (rs++[zs]):=by
   rw[M.take_add O default,gz];exact ap.snoc bq
  have az:Mv (P1 m F5) R (P1 m F9) w9:=(ae.ext Z).trans a3;have a8:∀b,(v.ownBlock=some b)->¬F9 b:=λb f hf=>a3.off (cq b f) (by have:=bm.lt f;omega) (.inl hf);have af:RowsR R.heap.size (λb=> ¬F9 b/\b≠m/\v.ownBlock≠some b) w9 vs xss:=
   (((X.weaken (F':=λb=>(¬F6 b/\b≠m/\v.ownBlock≠some b)/\b<w6.heap.size) λb n _ h3=>⟨n,h3⟩).ext Z).same a3.same λb n _ hp=>hp.elim n.1.1 n.1.2.1).weaken λb n _ _=>
    ⟨λhf=>a3.off (λhp=>hp.elim n.1.1 n.1.2.1) oM (.inl hf),n.1.2.1,n.1.2.2⟩
  have bn:OwnV zI w9 v vs:=(bm.ext Z).same a3.same cq;obtain⟨bc,D,c6⟩:=G.bd.blk;have ay:∀b,F9 b->b<w9.heap.size:=λb f=>G.bd.lt b (.inl f);cases ct with
  |none=>
   simp only at D;simp(disch:=exact oS) only[push_cast,G.blk.ld0,D.ld1,YO0,zk];exact hC O _ _ ⟨v,by simp,⟨F9,none,vs,xss,_,G,az,bn,λb f=>⟨(Q b f).1,a8 b f⟩,a4,oM,af,b8,λgs h=>by cases h⟩⟩
  |some cy=>
   simp only at D;have dk:zs.length=1:=by
    rcases bq with⟨g0,g1,q1,q2,q3⟩|⟨q1,_⟩
    .rw[M.term_len aa _ (by rw[bo];decide) (M.Bd.reach_of_run q3),bo];rfl
    .cases q1
   have ah:∃q,cs=some q:=by
    rcases bq with⟨g0,g1,q1,q2,q3⟩|⟨q1,_⟩
    .exact⟨_,q1⟩
    .cases q1
   obtain⟨q,ah⟩:=ah;obtain⟨br,ci⟩:=aw _ ah;simp(disch:=exact oS) only[push_cast,G.blk.ld0,D.ld1,jc0,cj.iaddr,cj.load];refine lit_ints (xs:=[nI (zs.getD 0 0)]) (us:=[zs.getD 0 0]) rfl (by simp) λw10 Y dq av cr cg=>?_;refine lit_lists (xs:=[.slice (some ⟨Y,0,none⟩) 1 1]) (λx hx=>by rw[gw.1 hx];exact⟨_,_,_,rfl⟩) (by simp) λa5 dx dr ac dt W=>?_;have T:=av.trans ac;refine OwnV.app (us:=[.slice (some ⟨Y,0,none⟩) 1 1]) (bn.ext T) Y0 W.vals (by simp[Value.oneCell']) (by simp;omega) (by simp;omega) λv12 cu b3 s b0=>?_;have dn:=av.size;have dp:=ac.size;have z12:=s.size
   try simp(disch:=omega) only[push_cast,zk]
   have dh:∀b,v.ownBlock=some b->b<w9.heap.size:=λb f=>bn.lt f;have ao:RowsR R.heap.size (λb=>(¬F9 b/\b≠m/\v.ownBlock≠some b)/\b<a5.heap.size) a5 (vs++[.slice (some ⟨Y,0,none⟩) 1 1]) (xss++[[zs.getD 0 0]]):=by
    have n:=(af.weaken (F':=λb=>(¬F9 b/\b≠m/\v.ownBlock≠some b)/\b<a5.heap.size) λb n _ h3=>⟨n,oM⟩);refine RowsR.new n a4 T (cg.ext ac) (λb f=>?_) λb f=>?_
    .have e6:Y=b:=K3 f;omega
    .have e6:Y=b:=K3 f;exact⟨⟨λhf=>by have:=ay b hf;omega,λe=>by have:=G.met.lt;omega,λe=>by have:=dh b e;omega⟩,oM⟩
   have c7:∀b,(b=m\/v12.ownBlock=some b)->b<a5.heap.size->(b=m\/v.ownBlock=some b):=λb f hl=>f.elim .inl λh=>(b0 b h).elim .inr λh2=>oM;have ai:∀b,v12.ownBlock=some b->R.heap.size<=b/\¬F9 b/\(v.ownBlock=some b\/a5.heap.size<=b):=λb f=>by
    rcases b0 b f with h|h
    .exact⟨(Q b h).1,a8 b h,.inl h⟩
    .exact⟨oM,λhf=>by have:=ay b hf;omega,.inr h⟩
   refine hC O _ _ ⟨v12,by simp,⟨F9,some cy,vs++[.slice (some ⟨Y,0,none⟩) 1 1],xss++[[zs.getD 0 0]],rs++[zs],(G.grow T).swap a0 s (λb f=>⟨.inr f,(Q b f).1,a8 b f⟩) (λb f=>⟨?_,c7 b f⟩) (.inl rfl),((az.ext T).to s λb f=> .inr (Q b f).1),b3,λb f=>⟨(ai b f).1,(ai b f).2.1⟩,?_,?_,?_,b8,λgs h=>⟨?_,?_⟩⟩⟩
   .rcases f with h|h
    .have:=G.met.lt;omega
    .exact b3.lt h
   .rw[q0,q0,a4];rfl
   .rw[q0];simp;omega
   .refine(ao.same s λb n _ e=>n.1.2.2 e).weaken λb n _ _=>⟨n.1.1,n.1.2.1,λe=>?_⟩;rcases(ai b e).2.2 with h|h
    .exact n.1.2.2 h
    .omega
   .rw[br];unfold M.rootsC;rw[gz];rfl
   .rw[q0,ci];rfl
 .have O:i=ts.length:=oM;subst O;rw[gy] at ap;have bu:Ext w2 w6:=Ext.then (a6.trans I) ae.same λy hy=>by have:=V y hy;have:=a6.size;omega
  refine zd λw7 N _=>?_;have H:=c8.grow N;have bv:=bu.trans N;obtain⟨bc,D,c6⟩:=H.bd.blk;cases cs with
  |none=>
   have dd:M.listB ds ts=none:=by
    rcases ap with⟨g0,g1,q1,q2,q3⟩|⟨q1,q2⟩
    .cases q2
    .exact q2 [] rfl
   simp only at D;simp(disch:=exact oS) only[push_cast,H.blk.ld0,D.ld1,y5 xt H.bd.err.room.cell,y1];refine yf0 ?_;refine oZ ?_;refine none_ (g:=xX) (a:=ar) (k:=1) bv H.bd.err.room oM rfl ?_;unfold cnfE;rw[y3 ch,dd]
  |some q=>
   have ba:M.listB ds ts=some (q,rs):=by
    rcases ap with⟨g0,g1,q1,q2,q3⟩|⟨q1,q2⟩
    .cases q1;cases q2;exact q3
    .cases q1
   have b6:=M.list_net aa (λt ht=>by rw[(JD (a9 t ht)).1];decide) ba;obtain⟨br,ci⟩:=aw _ rfl;simp only at D;simp(disch:=exact oS) only[push_cast,H.blk.ld0,D.ld1,y5 xt H.bd.err.room.cell,y1];refine jx0 ?_;obtain⟨gvv,mb,d8,e7,e1⟩:=c6 q rfl;simp(disch:=exact oS) only[push_cast,H.blk.ld0,D.ld0];refine cnf8_spec d8 b6.net λw8 lv aj bk F=>?_;have cw:=N.trans bk;have bw:=bv.trans bk;have z7:=N.size;have z8:=bk.size;have z26:=bu.size;refine zi xr λb9 w9 G da dm d4=>?_;obtain⟨o2,c2,cd,_⟩:=F.lst.vals.shape;generalize (aj.map λx=>[x]).length=l2 at cd;subst cd;refine d4.stAgg (cs':=[nI (1+(M.bits ds).toNat+q.length:Nat),.slice o2 l2 c2]) rfl zD net_one λw10 cl cr au=>?_;have E:Ext w8 w10:=Ext.then da cl λy hy=>by subst hy;omega
   have aq:=cw.trans E;simp(disch:=exact oS) only[push_cast,au.ld1];have db:aj.length<=2401:=by
    rw[F.len];show([1]::(M.gatesC _ q 0++[])).length<=2401;have n:=Zj (M.bits ds).toNat q 0;have h2:=b6.net.few;rw[gE,gB];omega
   refine OwnV.app (us:=vs) (F.lst.ext E) Y0 (bm.vals.ext aq) (λu hu=>?_) oM oM λv11 a5 W L ce=>?_
   .obtain⟨j,hj,rfl⟩:=gn hu;have de:=X.own j (by rw[<-a4];exact hj);obtain⟨o,c,e,_⟩:=de.ints.shape;rw[y2,V0 hj,GO] at e;rw[e];rfl
   have am:=F.dl;have be:∀b,(Value.slice o2 l2 c2).ownBlock=some b->b<w8.heap.size:=λb f=>F.lst.lt f;have bz:=au.same L λe=>by have:=be _ e;omega
   have dp:=L.size;have dn:=E.size;obtain⟨o3,c3,A,_⟩:=W.vals.shape;generalize ((aj++vs).map λx=>[x]).length=l3 at A;subst A;refine bz.st (i:=1) (v:= .slice o3 l3 c3) rfl rfl Q6 (by rfl) λcu s du bg=>?_;have al:Blk cu b9 [nI (1+(M.bits ds).toNat+q.length:Nat),.slice o3 l3 c3] zp:=bg;rw[al.ldAgg (t:=zp) zD];have bx:=bh.ext (bw.trans E);have ef:=bh.lt;have A:∀b,(Value.slice o3 l3 c3).ownBlock=some b->w7.heap.size<=b/\b≠b9/\((Value.slice o2 l2 c2).ownBlock=some b\/w10.heap.size<=b):=λb f=>by
    rcases ce b f with h|h
    .exact⟨am b h,λe=>by have:=be b h;omega,.inl h⟩
    .exact⟨oM,λe=>oM,.inr h⟩
   have c5:=(bx.same L λe=>by have:=am _ e;omega).same s oM;refine c5.stAgg (cs':=[nI (1+(M.bits ds).toNat+q.length:Nat),.slice o3 l3 c3]) rfl zD net_one λcv ag dw c0=>?_;rw[c0.lv (t:=zp) zD];have bi:cnfE ds ts=(M.blastC ds q rs,0):=by unfold cnfE;rw[y3 ch,ba]
   have df:RowsR R.heap.size (λb=>(Value.slice o2 l2 c2).ownBlock≠some b/\b<w8.heap.size) w10 aj ([1]::(M.gatesC (M.bits ds).toNat q 0++[])):=by
    have n:=(F.rows.weaken (F':=λb=>(Value.slice o2 l2 c2).ownBlock≠some b/\b<w8.heap.size) λb n _ h3=>⟨n,h3⟩).ext E;exact⟨oM,n.own,λi b hi f=>⟨(n.sub i b hi f).1,by have:=(n.sub i b hi f).2;omega⟩,n.dj⟩
   have dg:RowsR R.heap.size (λb=>(Value.slice o2 l2 c2).ownBlock≠some b/\b<w8.heap.size) w10 vs xss:=
    (X.weaken (F':=λb=>(Value.slice o2 l2 c2).ownBlock≠some b/\b<w8.heap.size) λb n _ h3=>⟨λe=>by have:=am b e;omega,oM⟩).ext aq
   have ck:=df.app F.len dg a4 λi j b hi hj n h2=>by
    have:=(F.rows.sub i b hi n).2;have:=(X.own j hj).lt h2;omega
   have ad:([1]::(M.gatesC (M.bits ds).toNat q 0++[]))++xss=(M.blastC ds q rs).list:=by
    rw[br,gE];rfl
   rw[ad] at ck;have an:=(((ck.same L λb n _ e=>n.1 e).same s λb n _ e=>by subst e;omega).weaken (F':=λb=>((Value.slice o3 l3 c3).ownBlock≠some b)/\w2.heap.size<=b) λb n h2 _=>⟨λe=>by
    rcases(A b e).2.2 with h|h
    .exact n.1 h
    .omega,by have:=a6.size;omega⟩).same ag λb n _ e=>oM
   have b4:Ext w cv:=Ext.then (Ext.then (Ext.then (e2.trans (bw.trans E)) L λb f=>by have:=am b f;omega) s λb f=>by subst f;omega) ag λb f=>by subst f;omega
   have U:=hK cv (.slice o3 l3 c3) (aj++vs) b4;rw[bi] at U;refine U ⟨?_,?_,λb f=>?_,?_⟩
   .exact((W.same s λb f e=>(A b f).2.1 e).same ag λb f e=>by have:=(A b f).1;omega)
   .rw[<-ad,q0,q0,F.len,a4];rfl
   .have:=(A b f).1;omega
   .exact⟨b4.size,an.own,λi b hi f=>⟨(an.sub i b hi f).1.1,by have:=(an.sub i b hi f).2;omega⟩,an.dj⟩
end
end Go.Proofs.YtfnpmncplaibiaaGreatDoor
end
