import Derived.Deep.Slices
import Derived.Test.YtfnpmncplaibiaaGreatDoorWqbP14
import Derived.OpenVars
import Derived.MakeChecks
import Derived.Stop.LaidErr
import Derived.Stop.LaidTwo
/- A part of the proof. -/
set_option linter.all false
set_option maxRecDepth 9999
set_option maxHeartbeats 2000000
noncomputable section
section
namespace Go.Proofs.YtfnpmncplaibiaaGreatDoor
open Go Go.Vc Go.Proofs
open Go.ChangeShapes Go.WideShapes Go.ChangeAt Go.RowKit
variable {w:World} {K:oK} {F D G:oA}
theorem list2 {α:Type} {l:List α} (h:l.length=2):∃a b,l=[a,b]:=by
 match l,h with
 |[a,b],_=>exact⟨a,b,rfl⟩
theorem list5 {α:Type} {l:List α} (h:l.length=5):∃a b c d e,l=[a,b,c,d,e]:=by
 match l,h with
 |[a,b,c,d,e],_=>exact⟨a,b,c,d,e,rfl⟩
theorem i64_wf {n:Int} (h:(Lit.int .i64 n).wf=true): -9223372036854775808<=n/\n<=9223372036854775807:=by
 simp only[Lit.wf,gg,V0] at h;have a:IntKind.i64.min= -9223372036854775808:=dC
 have b:IntKind.i64.max=9223372036854775807:=dC
 omega
theorem sl_of {w:World} {x:Addr} {k len cap:Nat} {css:List (List Value)} (n:0<k) (o:len<=cap) (hm:cap<=maxLen) (p:css.length=len) (hw:∀c,c∈css->c.length=k)
  (a:∀i,i<len->∀j,j<k->w.cell? (x.add (i*k+j))=(css.getD i [])[j]?):Sl (λ_=>True) w k (.slice (some x) len cap) css:=by
 subst p;refine⟨⟨some x,cap,rfl,o,by unfold maxLen at hm;exact hm,λf=>?_⟩,hw⟩;have hlen:0<css.length:=GQ.2 f;obtain⟨b,off,spot⟩:=x;have q:(css.getD 0 []).length=k:=hw _ (M.getD_mem hlen _);have d:=a 0 hlen 0 n;rw[gd (by omega:0<(css.getD 0 []).length)] at d;have e:spot=none:=by simpa[Addr.add] using World.cell?_spot d
 subst e;rw[yw] at d;refine⟨b,off,rfl,trivial,World.block_lt_of_cell? w _ d,λi hi j v l=>?_⟩;have g:(css.getD i []).length=k:=hw _ (M.getD_mem hi _);have m:j<k:=by rw[<-g];exact(Gx.1 l).1
 have h:=a i hi j m;rw[yw] at h;rw[yw,<-l,<-h,Pw]
section
variable {H:Type} {enc:TypeId×Value->H} {W:World} {cs:List Value} {x:DataW H×List MemPlace} {held:Bool} {fuel:Nat}
theorem ZV:P.underlying yx=some .string:=rK
theorem X30:P.underlying xQ=some (.struct #[⟨"Name",yx,0,false,"","",0⟩,⟨"Wide",zE,1,false,"","",16⟩]):=rK
theorem X20:P.underlying yK=some (.struct #[⟨"Op",zE,0,false,"","",0⟩,⟨"A",zE,1,false,"","",8⟩,⟨"B",zE,2,false,"","",16⟩,⟨"Name",yx,3,false,"","",24⟩,⟨"Kids",xc,4,false,"","",40⟩]):=rK
theorem Y20:P.cellsOf zE=1:=rK
theorem yI0:P.cellsOf yx=1:=rK
theorem c1_Ls:P.cellsOf xc=1:=rK
theorem jY0:P.cellsOf xQ=2:=rK
theorem xk0:P.cellsOf yK=5:=rK
def QH:M.Tm->Bool:=M.Tm.fold λt xs=>decide (t.s.size<=9223372036854775807)&&xs.all id
theorem kQ0 (t:M.Tm):QH t=(decide (t.s.size<=9223372036854775807)&&(t.ks.map QH).all id):=M.Tm.fold_eq _ t
theorem X10 {t:M.Tm}:QH t=true↔t.s.size<=9223372036854775807/\∀k,k∈t.ks->QH k=true:=by
 rw[kQ0,gg,V0,gQ];refine z0a λ_=>⟨λh k a=>h _ (Gc a),λh y b=>?_⟩;obtain⟨k,a,rfl⟩:=gy.1 b;exact h k a
theorem Yy0 (h:DataW.trod enc P W 0 (λ_=>true) held fuel xQ cs=some x):∃d:M.Dcl,cs=[.string d.1,nI d.2]/\d.1.size<=9223372036854775807:=by
 obtain⟨xs,n,_,_,g,hlen,f⟩:=DataW.trod_struct X30 h;rw[jY0] at g;obtain⟨c0,c1,rfl⟩:=list2 g;obtain⟨i,j,rfl⟩:=list2 (α:=DataW H×List MemPlace) hlen
 .have c:=f 0 ⟨"Name",yx,0,false,"","",0⟩ rfl;have e:=f 1 ⟨"Wide",zE,1,false,"","",16⟩ rfl;simp only[Y20,yI0,z0f,PE,pV,List.drop_succ_cons,Pe,Pf] at c e;obtain⟨s,a,_,hs⟩:=DataW.trod_string ZV c;obtain⟨n,b,_,_⟩:=DataW.trod_int Qo e;simp only[Gg,Gh] at a b;subst a b;exact⟨(s,n),rfl,by simpa[maxLen] using hs⟩
theorem each_in {α:Type} [Inhabited α] {e k:Nat} {R:List Value->α->Prop} {a:Addr} {len cap n:Nat} {elems:List (DataW H×List MemPlace)} (ce:P.cellsOf e=k) (p:0<k) (r:len<=cap) (hm:cap<=maxLen) (t:elems.length=len)
  (f:∀i,i<len->(W.cells? 0 (a.add (i*P.cellsOf e)) (P.cellsOf e)).bind (DataW.trod enc P W 0 (λ_=>true) held n e)=elems[i]?)
  (b:∀cs x,DataW.trod enc P W 0 (λ_=>true) held n e cs=some x->∃y,R cs y):
  ∃(css:List (List Value)) (ys:List α),Sl (λ_=>True) W k (.slice (some a) len cap) css/\css.length=len/\ys.length=len/\∀i,i<len->R (css.getD i []) (ys.getD i default):=by
 have each:∀i,i<len->∃q:List Value×α,W.cells? 0 (a.add (i*k)) k=some q.1/\R q.1 q.2:=λi hi=>by
  have h:=f i hi;rw[gd oM,ce] at h;obtain⟨cs',l,m⟩:=Option.bind_eq_some_iff.1 h;obtain⟨y,s⟩:=b _ _ m;exact⟨(cs',y),l,s⟩
 obtain⟨q,g⟩:=Go.Deep.choose_lt each;refine⟨(List.range len).map λi=>(q i).1,(List.range len).map λi=>(q i).2,?_,by simp,by simp,λi hi=>?_⟩
 .refine sl_of p r hm (by simp) (λc d=>?_) λi hi j o=>?_
  .obtain⟨i,hi,rfl⟩:=gy.1 d;exact(World.cells?_some (g i (gJ.1 hi)).1).2.1
  .have d:=(World.cells?_some (g i hi).1).2.2 j o;rw[Go.Deep.add_add] at d;rw[d];simp[y4,hi]
 .have:=(g i hi).2;simpa[y4,hi] using this
theorem decls_in (h:DataW.trod enc P W 0 (λ_=>true) held fuel qn cs=some x):∃v ds,cs=[v]/\DclsR (λ_=>True) W v ds/\JX ds:=by
 rcases DataW.trod_slice Jm h with⟨rfl,_⟩|⟨a,len,cap,elems,rest,n,_,rfl,_,_,f,hm,g,b,_,_⟩
 .exact⟨_,[],rfl,⟨⟨none,0,rfl,by simp,by simp,λh=>absurd rfl h⟩,by simp⟩,λi hi=>absurd hi (by simp)⟩
 .obtain⟨css,ys,hs,k,l,c⟩:=each_in (α:=M.Dcl) (R:=λcs d=>cs=[.string d.1,nI d.2]/\d.1.size<=9223372036854775807) jY0 dC f hm g b λcs x j=>Yy0 j;refine⟨_,ys,rfl,?_,λi hi=>?_⟩
  .have e:css=ys.map λd=>[Value.string d.1,nI d.2]:=by
    refine gM (by simp;omega) λi g1 g2=>?_;have:=(c i oM).1;rw[y4,gd g1,y4,gd oM] at this;simpa using this
   rw[e] at hs;exact hs
  .have:=(c i oM).2;rw[y4,gd hi] at this⊢;simpa using this
theorem term_in:∀(fuel:Nat) {cs:List Value} {x:DataW H×List MemPlace},DataW.trod enc P W 0 (λ_=>true) held fuel yK cs=some x->∃t:M.Tm,TmR (λ_=>True) W cs t/\QH t=true:=by
 intro fuel;induction fuel using Nat.strongRecOn with
 |_ fuel I=>
 intro cs x h;obtain⟨xs,n,D,_,e,hlen,c⟩:=DataW.trod_struct X20 h;rw[xk0] at e;obtain⟨c0,c1,c2,c3,J,rfl⟩:=list5 e;clear e;obtain⟨K,L,N,O,Q,rfl⟩:=list5 (α:=DataW H×List MemPlace) hlen
 .have y:=c 0 ⟨"Op",zE,0,false,"","",0⟩ rfl;have z:=c 1 ⟨"A",zE,1,false,"","",8⟩ rfl;have A:=c 2 ⟨"B",zE,2,false,"","",16⟩ rfl;have B:=c 3 ⟨"Name",yx,3,false,"","",24⟩ rfl;have C:=c 4 ⟨"Kids",xc,4,false,"","",40⟩ rfl;simp only[Y20,yI0,c1_Ls,z0f,PE,pV,List.drop_succ_cons,Pe,Pf] at y z A B C;obtain⟨o,r,_,_⟩:=DataW.trod_int Qo y;obtain⟨p,u,_,_⟩:=DataW.trod_int Qo z;obtain⟨q,v,_,_⟩:=DataW.trod_int Qo A;obtain⟨s,w,_,hs⟩:=DataW.trod_string ZV B;simp only[Gg,Gh] at r u v w;subst r u v w;have f:s.size<=9223372036854775807:=(by simpa[maxLen] using hs);rcases DataW.trod_slice ZW C with⟨b,_⟩|⟨a,len,cap,elems,rest,m,E,b,_,_,e,hm,F,g,_,_⟩
  .simp only[Gg,Gh] at b;subst b;exact⟨.mk o p q s [],yr0 o p q s,X10.2 ⟨f,λk j=>by cases j⟩⟩
  .simp only[Gg,Gh] at b;subst b;obtain⟨css,ys,l,g1,g2,g3⟩:=each_in (α:=M.Tm) (R:=λcs t=>TmR (λ_=>True) W cs t/\QH t=true) xk0 dC e hm F g λcs x G=>I m oM G;refine⟨.mk o p q s ys,TmR.of (t:= .mk o p q s ys) ⟨css,l,by show css.length=ys.length;omega,λi hi=>?_⟩,X10.2 ⟨f,λk j=>?_⟩⟩
   .have d:i<ys.length:=hi;exact(g3 i oM).1
   .obtain⟨i,hi,rfl⟩:=gq j;have d:i<ys.length:=hi;have:=(g3 i oM).2;rwa[y4,gd d] at this
end
end Go.Proofs.YtfnpmncplaibiaaGreatDoor
end
namespace Go.Proofs.YtfnpmncplaibiaaGreatDoor
open Go Go.Vc Go.Proofs
section
variable {w:World} {K:oK} {F F' D G:oA}
theorem szDecl_spec {s:ByteArray} {n left:Int} (g:0<=left) (h:left<=1048576) (hs:s.size<=9223372036854775807) (c:∀w' r,Ext w w'->(r= -1\/0<=r/\r<=left/\(s.size:Int)<=left)->K (nI r) w'):vcall Uw #[.agg ⟨[.string s,nI n]⟩,nI left] w K:=by
 refine ze {} Tryz.func38 ?_;refine zj λb1 w1 d b e f=>?_;simp(disch:=first|(simp only[push_cast])|exact ZV) only[push_cast,f.ld0,XQ];rw[show IntKind.i64.wrap (left-(s.size:Int))=left-s.size from zk oM oM];refine zb (λa=>?_) (λa=>?_)
 .exact c _ _ b (.inl rfl)
 .exact c _ _ b (.inr oM)
theorem szDeclS_sum {v:Value} {ds:List M.Dcl} {left:Int} (o:0<=left) (p:left<=1048576) (l:JX ds) (g:DclsR F w v ds) (f:∀w' r,Ext w w'->(r= -1\/0<=r/\r+(ds.length:Int)<=left)->K (nI r) w'):vcall Xc #[v,nI left] w K:=by
 refine ze {loops:=[(5,[1,5])]} Tryz.func7 ?_;have k:=g.small;simp only[push_cast,g.len];rw[show IntKind.i64.wrap (left-(ds.length:Int))=left-ds.length from zk oM oM];refine zb (λa=>f _ _ (Same.refl _ _) (.inl rfl)) (λa=>?_);refine vloop_up ds.length (λi u w'=> ∃r:Int,u=[nI r,nI i]/\Ext w w'/\0<=r/\r+(ds.length:Int)<=left) ⟨_,rfl,Same.refl _ _,oM,oM⟩ ?_;rintro i _ _ w1 C hi ⟨r,rfl,he,m,q⟩ h;have b:=g.ext he;simp(disch:=exact oS) only[push_cast,b.len];refine zb (λc=>?_) (λc=>?_)
 .simp(disch:=exact oS) only[push_cast,b.iaddr,b.load];refine szDecl_spec m oM (l i oM) λw2 n e j=>?_;refine oZ ?_;refine zb (λd=>f _ _ (he.trans e) (.inl rfl)) (λd=>?_);rw[inc64' oM];exact h oM _ _ ⟨n,rfl,he.trans e,oM,oM⟩
 .exact f _ _ he (.inr oM)
theorem szDeclS_spec {v:Value} {ds:List M.Dcl} {left:Int} (a:0<=left) (b:left<=1048576) (e:JX ds) (d:DclsR F w v ds) (c:∀w' r,Ext w w'->(r= -1\/0<=r/\r<=left/\(ds.length:Int)<=left)->K (nI r) w'):vcall Xc #[v,nI left] w K:=
 szDeclS_sum a b e d λw' r he h=>c w' r he (h.imp id λh=>oM)
abbrev SzT (t:M.Tm):Prop:=∀{w:World} {K:oK} {F:oA} {v:Value} {left:Int},TermR F w v t->QH t=true->0<=left->left<=1048576->(∀w' r,Ext w w'->(r= -1\/0<=r/\r+M.sizeM t<=left+1/\qi0 t=true)->K (nI r) w')->vcall Uv #[v,nI left] w K
theorem szTermS_of {ks:List M.Tm} (B:∀k,k∈ks->SzT k) {v:Value} {left:Int} (l:TmsR F w v ks) (hs:∀k,k∈ks->QH k=true) (E:0<=left) (G:left<=1048576)
  (n:∀w' r,Ext w w'->(r= -1\/0<=r/\r+M.szT ks ks.length<=left/\(ks.length:Int)<=left/\∀k,k∈ks->qi0 k=true)->K (nI r) w'):vcall VK #[v,nI left] w K:=by
 refine ze {loops:=[(5,[1,5])]} Tryz.func8 ?_;have y:=l.small;simp only[push_cast,l.len];rw[show IntKind.i64.wrap (left-(ks.length:Int))=left-ks.length from zk oM oM];refine zb (λa=>n _ _ (Same.refl _ _) (.inl rfl)) (λa=>?_);refine vloop_up ks.length (λi u w'=> ∃r:Int,u=[nI r,nI i]/\Ext w w'/\0<=r/\r+M.szT ks i<=left-ks.length+i/\∀j,j<i->qi0 (ks.getD j default)=true) ⟨_,rfl,Same.refl _ _,oM,by show _+((0:Nat):Int)<=_;omega,λj m=>absurd m oM⟩ ?_;rintro i _ _ w1 C hi ⟨r,rfl,he,s,H,q⟩ t;have f:=l.ext he;simp(disch:=exact oS) only[push_cast,f.len];refine zb (λc=>?_) (λc=>?_)
 .have b:ks.getD i default∈ks:=M.getD_mem oM _;simp(disch:=exact oS) only[push_cast,f.iaddr];refine f.load XH oM λx A=>?_;refine B _ b A (hs _ b) s oM λw2 D g p=>?_;refine oZ ?_;refine zb (λd=>n _ _ (he.trans g) (.inl rfl)) (λd=>?_);rw[inc64' oM];rcases p with h|⟨g0,g1,g2⟩
  .omega
  have z:=M.szT_succ (ks:=ks) (i:=i) oM;refine t oM _ _ ⟨D,rfl,he.trans g,g0,oM,λj m=>?_⟩;by_cases e:j<i
  .exact q j e
  .have:j=i:=oM;subst this;exact g2
 .have o:i=ks.length:=oM;subst o;refine n _ _ he (.inr ⟨s,oM,oM,λk l=>?_⟩);obtain⟨j,m,rfl⟩:=gq l;have:=q j oM;rwa[y4,gd m] at this
theorem szTerm_spec:∀t:M.Tm,SzT t:=by
 refine M.Tm.ind λt n=>?_;intro w K F v left m hs o p e;refine ze {} Tryz.func39 ?_;obtain⟨kv,rfl,f⟩:=m;obtain⟨s1,s2⟩:=X10.1 hs;refine zj λb1 w1 i b k g=>?_;simp(disch:=first|(simp only[push_cast])|exact ZV) only[push_cast,g.ld3,g.ld4,XQ];rw[show IntKind.i64.wrap (left-(t.s.size:Int))=left-t.s.size from zk oM oM];refine zb (λa=>e _ _ b (.inl rfl)) (λa=>?_);refine szTermS_of n (f.ext b) s2 oM oM λw2 r c j=>?_;refine oZ ?_;refine zb (λd=>e _ _ (b.trans c) (.inl rfl)) (λd=>?_);rcases j with h|⟨g0,g1,g2,g3⟩
 .omega
 have l:=M.szT_all t;exact e _ _ (b.trans c) (.inr ⟨g0,oM,fitB_iff.2 ⟨oM,g3⟩⟩)
theorem toDecl_spec {s:ByteArray} {n:Int} (x:∀w',Ext w w'->K (.agg ⟨[.string s,nI n]⟩) w'):vcall Uu #[.agg ⟨[.string s,nI n]⟩] w K:=by
 refine ze {} Tryz.func46 ?_;refine zj λb1 w1 z h C p=>?_;refine zi xL λb2 w2 A d D q=>?_;refine zi xL λb3 J B a E r=>?_;have m:=(p.ext d).ext a;simp only[push_cast,m.ld0];refine r.st (i:=0) rfl rfl Yv rfl λL e F u=>?_;have I:=m.same e oM;simp only[push_cast,I.ld1];refine u.st (i:=1) rfl rfl yM rfl λo j G g=>?_;replace g:Blk o b3 [.string s,nI n] xu:=g;rw[g.ldAgg (t:=xu) XI];have c:Same (λb=>b=b3) J o:=e.trans j;have f:=(q.ext a).same c oM;refine stDecl f λM k H v=>?_;rw[v.lv (t:=xu) XI];refine x _ (Ext.then (Ext.then ((h.trans d).trans a) c λy l=>by subst l;omega) k λy l=>by subst l;omega)
theorem toDeclS_own {v:Value} {ds:List M.Dcl} (s:DclsR F w v ds) (B:ds.length<=1048576) (z:∀w' v',Ext w w'->Own 0 2 yC w' v' (ds.map λd=>[Value.string d.1,nI d.2])->(∀b,v'.ownBlock=some b->w.heap.size<=b)->K v' w'):vcall Xb #[v] w K:=by
 refine ze {loops:=[(3,[4])]} Tryz.func10 ?_;simp only[push_cast,s.len];refine vmkS_agg (cs:=[.string ⟨#[]⟩,nI 0]) yt0 dC (by rw[zm0];exact xL) oM oM λv1 w1 o n h=>?_;refine vloop_up ds.length (λi u w'=>u=[nI i]/\Ext w w'/\∃css,css.length=ds.length/\Own 0 2 yC w' v1 css/\∀j,j<i->css.getD j []=[.string (ds.getD j yG0).1,nI (ds.getD j yG0).2]) ⟨rfl,n,_,by simp,o,oM⟩ ?_;rintro i _ _ w2 C hi ⟨rfl,f,css,A,k,t⟩ y;have c:=s.ext f;simp only[push_cast,c.len];refine zb (λa=>?_) (λa=>?_)
 .simp(disch:=exact oS) only[push_cast,c.iaddr,c.load];refine toDecl_spec λG g=>?_;have l:=k.ext g;have q:=l.sl;simp(disch:=exact oS) only[push_cast,q.iaddr];refine own_stEl l dC rfl (by intro v x;simp only[gj,gC,Gn] at x;rcases x with rfl|rfl<;>rfl) XI oM λH p r D=>?_;rw[inc64' oM];refine y oM _ _ ⟨rfl,Ext.then (f.trans g) r λb m=>h b m,_,by rw[gP];exact A,p,λj E=>?_⟩;rw[getD_set oM];by_cases e:i=j
  .subst e;rw[X0 rfl]
  .rw[y3 e];exact t j oM
 .have e:css=ds.map λd=>[Value.string d.1,nI d.2]:=by
   refine gM (by simp;omega) λj g1 g2=>?_;have:=t j oM;rw[y4,gd g1,y4,gd oM] at this;simpa using this
  subst e;exact z w2 v1 f k λb m=>h b m
theorem ZY {v:Value} {ds:List M.Dcl} (e:DclsR F w v ds) (a:ds.length<=1048576) (c:∀w' v',Ext w w'->DclsR (λb=>w.heap.size<=b) w' v' ds->K v' w'):vcall Xb #[v] w K:=
 toDeclS_own e a λw' v' he f d=>c w' v' he (f.sl.weaken λb h _=>d b h)
abbrev CpT (t:M.Tm):Prop:=∀{w:World} {K:oK} {F:oA} {v:Value},TermR F w v t->qi0 t=true->(∀w' v',Ext w w'->TermR (λb=>w.heap.size<=b) w' v' t->K v' w')->vcall Q4 #[v] w K
theorem toTermS_of {ks:List M.Tm} (R:∀k,k∈ks->CpT k) {v:Value} (A:TmsR F w v ks) (J:ks.length<=1048576) (H:∀k,k∈ks->qi0 k=true)
  (G:∀w' v',Ext w w'->TmsR (λb=>w.heap.size<=b) w' v' ks->K v' w'):vcall Xa #[v] w K:=by
 refine ze {loops:=[(3,[4])]} Tryz.func11 ?_;simp only[push_cast,A.len];refine vmkS_agg (cs:=WM) qE dC (by rw[jX];exact zr) oM oM λv1 w1 t o p=>?_;have N:=o.size;refine vloop_up ks.length (λi u w'=>u=[nI i]/\Ext w w'/\∃css,css.length=ks.length/\Own 0 5 zl w' v1 css/\∀j,j<i->TmR (λb=>w.heap.size<=b/\v1.ownBlock≠some b) w' (css.getD j []) (ks.getD j default)) ⟨rfl,o,_,by simp,t,oM⟩ ?_;rintro i _ _ w2 C hi ⟨rfl,d,css,B,m,D⟩ E;have l:=A.ext d;have O:=d.size;simp only[push_cast,l.len];refine zb (λa=>?_) (λa=>?_)
 .have f:ks.getD i default∈ks:=M.getD_mem oM _;simp(disch:=exact oS) only[push_cast,l.iaddr];refine l.load XH oM λx L=>?_;refine R _ f L (H _ f) λS v3 h s=>?_;obtain⟨c3,rfl,g⟩:=s.cells;have q:=m.ext h;have z:=q.sl;simp(disch:=exact oS) only[push_cast,z.iaddr];have r:∀b,v1.ownBlock=some b->b<w2.heap.size:=λb c=>(m.lt c).2;refine own_stEl q dC (zV g) (tmR_one g) zc oM λT y n Q=>?_;rw[inc64' oM];refine E oM _ _ ⟨rfl,Ext.then (d.trans h) n λb c=>p b c,_,by rw[gP];exact B,y,λj I=>?_⟩;rw[getD_set oM];by_cases e:i=j
  .subst e;rw[X0 rfl];refine(g.weaken (F':=λb=>w.heap.size<=b/\v1.ownBlock≠some b) λb c _=>⟨oM,λe=>by have:=r b e;omega⟩).same n λb c _ e=>c.2 e
  .rw[y3 e];exact((D j oM).ext h).same n λb c _ e=>c.2 e
 .exact G w2 v1 d ⟨css,m.sl.weaken λb c _=>p b c,B,λj I=>(D j oM).weaken λb c _=>c.1⟩
theorem toTerm_spec:∀t:M.Tm,CpT t:=by
 refine M.Tm.ind λt ih=>?_;intro w K F v ht hf hK;refine ze {} Tryz.func47 ?_;obtain⟨kv,rfl,H⟩:=ht;obtain⟨f1,f2⟩:=fitB_iff.1 hf;refine zj λb1 w1 a0 E a3 S=>?_;refine zi zr λb2 w2 a1 m a4 T=>?_;refine zi zr λb3 w3 a2 h a5 U=>?_;have N:=(S.ext m).ext h;simp only[push_cast,N.ld0];refine U.st (i:=0) rfl rfl yM rfl λw4 r a6 V=>?_;have O:=N.same r oM;simp only[push_cast,O.ld1];refine V.st (i:=1) rfl rfl yM rfl λw5 u a7 W=>?_;have P:=O.same u oM;simp only[push_cast,P.ld2];refine W.st (i:=2) rfl rfl yM rfl λw6 z a8 X=>?_;have Q:=P.same z oM;simp only[push_cast,Q.ld3];refine X.st (i:=3) rfl rfl Yv rfl λI A a9 Y=>?_;have q7:=Q.same A oM;simp only[push_cast,q7.ld4];have g:Same (λb=>b=b3) w3 I:=r.trans (u.trans (z.trans A));have l:=(E.trans m).trans h;have j:Ext w I:=Ext.then l g λy B=>by subst B;omega
 refine toTermS_of ih (H.ext j) f1 f2 λw8 d f n=>?_;have Z:=Y.ext f;have o:d.cells= #[d]/\d.oneCell'=true:=by
  obtain⟨css,hs,_⟩:=n;obtain⟨a,c,rfl,_⟩:=hs.shape;exact⟨rfl,rfl⟩
 have aa:=f.size;have L:=g.size
 try simp only[push_cast]
 refine Z.st (i:=4) o.1 o.2 xM rfl λR k ab D=>?_;replace D:Blk R b3 [nI t.op,nI t.a,nI t.b,.string t.s,d] za:=D;rw[D.ldAgg (t:=za) zc];have G:TmsR (λb=>I.heap.size<=b) R d t.ks:=n.same k λb hb _ e=>oM
 have C:=(((T.ext h).same g oM).ext f).same k oM;refine qh C rfl (TmR.of (t:=t) G) (λx hx=>oM) λw10 q J p=>?_;exact hK _ _ (Ext.then (Ext.then (j.trans f) k λy B=>by subst B;omega) q λy B=>by subst B;omega) (p.weaken λb hb _=>by have:=j.size;omega)
theorem xh0 {s:ByteArray} {n:Int} (f:∀w',Ext w w'->K (.bool true) w'):vcall Uz #[.agg ⟨[.string s,nI n]⟩,.agg ⟨[.string s,nI n]⟩] w K:=by
 refine ze {} Tryz.func52 ?_;refine zj λb1 w1 g d j e=>?_;refine zj λb2 w2 i a k b=>?_;have c:=e.ext a;simp only[push_cast,c.ld0,b.ld0,c.ld1,b.ld1];refine zb (λh=>absurd rfl h) (λ_=>?_)
 try simp only[push_cast,c.ld0,b.ld0,c.ld1,b.ld1]
 refine zb (λh=>absurd rfl h) (λ_=>?_);exact f _ (d.trans a)
theorem eqDeclS_same {va vb:Value} {ds:List M.Dcl} (e:DclsR F w va ds) (j:DclsR F' w vb ds) (m:∀w',Ext w w'->K (.bool true) w'):vcall VN #[va,vb] w K:=by
 refine ze {loops:=[(4,[5])]} Tryz.func14 ?_;have n:=e.small;simp only[push_cast,e.len,j.len];refine zb (λh=>absurd rfl h) (λh=>?_);refine vloop_up ds.length (λi u w'=>u=[nI i]/\Ext w w') ⟨rfl,Same.refl _ _⟩ ?_;rintro i _ _ w1 C hi ⟨rfl,he⟩ l;have b:=e.ext he;have f:=j.ext he;simp only[push_cast,b.len];refine zb (λk=>?_) (λk=>?_)
 .refine zd λw2 a _=>?_;have c:=b.ext a;have d:=f.ext a;simp(disch:=exact oS) only[push_cast,c.iaddr,c.load,d.iaddr,d.load,k5];refine xh0 λo g=>?_;simp only[push_cast,Gp,k5];rw[inc64' oM];exact l oM _ _ ⟨rfl,he.trans (a.trans g)⟩
 .exact m w1 he
abbrev EqT (t:M.Tm):Prop:=∀{w:World} {K:oK} {F G:oA} {va vb:Value},TermR F w va t->TermR G w vb t->(∀w',Ext w w'->K (.bool true) w')->vcall Ux #[va,vb] w K
theorem eqTermS_of {ks:List M.Tm} (o:∀k,k∈ks->EqT k) {va vb:Value} (d:TmsR F w va ks) (g:TmsR F' w vb ks) (m:∀w',Ext w w'->K (.bool true) w'):vcall VL #[va,vb] w K:=by
 refine ze {loops:=[(4,[5])]} Tryz.func15 ?_;have n:=d.small;simp only[push_cast,d.len,g.len];refine zb (λh=>absurd rfl h) (λh=>?_);refine vloop_up ks.length (λi u w'=>u=[nI i]/\Ext w w') ⟨rfl,Same.refl _ _⟩ ?_;rintro i _ _ w1 C hi ⟨rfl,he⟩ l;have b:=d.ext he;have e:=g.ext he;simp only[push_cast,b.len];refine zb (λj=>?_) (λj=>?_)
 .refine zd λw2 a _=>?_;obtain⟨cssa,sa,la,ka⟩:=b.ext a;obtain⟨cssb,sb,lb,kb⟩:=e.ext a;have c:ks.getD i default∈ks:=M.getD_mem oM _;have ga:aggB za 5=true:=zc;simp(disch:=exact oS) only[push_cast,sa.iaddr,sa.ldAgg,sb.iaddr,sb.ldAgg,k5];refine o _ c (ka i oM).term (kb i oM).term λp f=>?_;simp only[push_cast,Gp,k5];rw[inc64' oM];exact l oM _ _ ⟨rfl,he.trans (a.trans f)⟩
 .exact m w1 he
theorem xg0:∀t:M.Tm,EqT t:=by
 refine M.Tm.ind λt r=>?_;intro w K F G va vb l m k;refine ze {} Tryz.func53 ?_;obtain⟨kva,rfl,g⟩:=l;obtain⟨kvb,rfl,i⟩:=m;refine zj λb1 w1 n e p j=>?_;refine zj λb2 w2 o b q a=>?_;have c:=j.ext b;simp only[push_cast,c.ld0,a.ld0,c.ld1,a.ld1,c.ld2,a.ld2,c.ld3,a.ld3,c.ld4,a.ld4];refine zb (λh=>absurd rfl h) (λ_=>?_);refine zb (λh=>absurd rfl h) (λ_=>?_);refine zb (λh=>absurd rfl h) (λ_=>?_);refine zb (λh=>absurd rfl h) (λ_=>?_);have d:=e.trans b;refine eqTermS_of r (g.ext d) (i.ext d) λs f=>?_;simp only[push_cast,Gp];exact k _ (d.trans f)
end
section
variable {w:World} {K:oK} {F D G:oA}
def ZC0 (w:World) (D:oA) (kv:Value) (us:List M.Tm) (css:List (List Value)) (Ds:Nat->Nat->Prop):Prop:=
 Own 0 5 zl w kv css/\css.length=us.length/\(∀b,kv.ownBlock=some b->D b/\∀i,i<us.length->¬Ds i b)/\(∀i j b,i<j->j<us.length->Ds i b->¬Ds j b)/\(∀i b,i<us.length->Ds i b->D b)/\
 ∀i,i<us.length->TmO w (Ds i) (css.getD i []) (us.getD i default)
theorem ZK0 {kv:Value} {t:M.Tm} {css:List (List Value)} {Ds:Nat->Nat->Prop} (h:ZC0 w D kv t.ks css Ds):TmO w D [nI t.op,nI t.a,nI t.b,.string t.s,kv] t:=by
 obtain⟨c,d,e,f,g,i⟩:=h;exact .mk css Ds c d e f g i
theorem j70 {cs:List Value} {t:M.Tm} (h:TmO w D cs t):∃kv css Ds,cs=[nI t.op,nI t.a,nI t.b,.string t.s,kv]/\ZC0 w D kv t.ks css Ds:=by
 obtain⟨kv,css,Ds,c,d,e,f,g,i,j⟩:=WR h;exact⟨kv,css,Ds,c,d,e,f,g,i,j⟩
theorem ZJ0 {kv:Value} {us:List M.Tm} {css:List (List Value)} {Ds:Nat->Nat->Prop} (h:ZC0 w D kv us css Ds):TmsR D w kv us:=by
 obtain⟨c,d,e,j,f,g⟩:=h;exact⟨css,c.sl.weaken λb a _=>(e b a).1,d,λi hi=>(xZ0 _ (g i hi)).weaken λb a _=>f i b hi a⟩
theorem XW {S:oA} {w':World} {kv:Value} {us:List M.Tm} {css:List (List Value)} {Ds:Nat->Nat->Prop} (h:ZC0 w D kv us css Ds) (hw:Same S w w') (hs:∀b,D b->¬S b):ZC0 w' D kv us css Ds:=by
 obtain⟨e,f,c,g,d,j⟩:=h;exact⟨e.same hw λb a=>hs b (c b a).1,f,c,g,d,λi hi=>jR hw _ (j i hi) λb a=>hs b (d i b hi a)⟩
abbrev CpO (t:M.Tm):Prop:=∀{w:World} {K:oK} {F:oA} {v:Value},TermR F w v t->qi0 t=true->(∀w' cs,Ext w w'->TmO w' (λb=>w.heap.size<=b/\b<w'.heap.size) cs t->K (.agg ⟨cs⟩) w')->vcall Q4 #[v] w K
theorem toTermS_own {ks:List M.Tm} (ih:∀k,k∈ks->CpO k) {v:Value} (I:TmsR F w v ks) (W:ks.length<=1048576) (V:∀k,k∈ks->qi0 k=true)
  (T:∀w' v' css Ds,Ext w w'->ZC0 w' (λb=>w.heap.size<=b/\b<w'.heap.size) v' ks css Ds->K v' w'):vcall Xa #[v] w K:=by
 refine ze {loops:=[(3,[4])]} Tryz.func11 ?_;simp only[push_cast,I.len];refine vmkS_agg (cs:=WM) qE dC (by rw[jX];exact zr) oM oM λv1 w1 z r t=>?_;have Y:=r.size;have f:∀b,v1.ownBlock=some b->b<w1.heap.size:=λb c=>(z.lt c).2;refine vloop_up ks.length (λi u w'=>u=[nI i]/\Ext w w'/\w1.heap.size<=w'.heap.size/\∃(css:List (List Value)) (Ds:Nat->Nat->Prop),css.length=ks.length/\Own 0 5 zl w' v1 css/\
   (∀j b,j<i->Ds j b->w1.heap.size<=b/\b<w'.heap.size)/\(∀j k b,j<k->k<i->Ds j b->¬Ds k b)/\∀j,j<i->TmO w' (Ds j) (css.getD j []) (ks.getD j default))
  ⟨rfl,r,gr _,_,λ_ _=>False,by simp,z,oM,oM,oM⟩ ?_
 rintro i _ _ w2 C hi ⟨rfl,n,Z,css,Ds,Q,A,d,h,R⟩ S;have o:=I.ext n;simp only[push_cast,o.len];refine zb (λa=>?_) (λa=>?_)
 .have l:ks.getD i default∈ks:=M.getD_mem oM _;simp(disch:=exact oS) only[push_cast,o.iaddr];refine o.load XH oM λx X=>?_;refine ih _ l X (V _ l) λw3 c3 g q=>?_;have y:=xZ0 _ q;have B:=A.ext g;have L:=B.sl;have a0:=g.size;simp(disch:=exact oS) only[push_cast,L.iaddr];refine own_stEl B dC (zV y) (tmR_one y) zc oM λw4 J p a1=>?_;rw[inc64' oM];refine S oM _ _ ⟨rfl,Ext.then (n.trans g) p λb c=>t b c,oM,css.set i c3,λj b=>(j<i/\Ds j b)\/(j=i/\w2.heap.size<=b/\b<w3.heap.size),by rw[gP];exact Q,J,λj b s c=>?_,λj k b H I m D=>?_,λj s=>?_⟩
  .rcases c with⟨m,D⟩|⟨m,D,E⟩
   .have:=d j b m D;omega
   .omega
  .rcases m with⟨m,E⟩|⟨m,E,h4⟩
   .rcases D with⟨N,O⟩|⟨N,O,h7⟩
    .exact h j k b H N E O
    .have:=d j b m E;omega
   .omega
  .rw[getD_set oM];by_cases e:i=j
   .subst e;rw[X0 rfl];exact qD (jR p _ q λb c e=>by have:=f b e;omega) λb c=> .inr ⟨rfl,c⟩
   .rw[y3 e];exact qD (jR p _ (j80 (R j oM) g) λb c e=>by have:=f b e;have:=d j b oM c;omega) λb c=> .inl ⟨oM,c⟩
 .have G:i=ks.length:=oM;subst G;refine T w2 v1 css Ds n ⟨A,Q,λb c=>⟨⟨t b c,by have:=f b c;omega⟩,λj s U=>by have:=f b c;have:=d j b s U;omega⟩,h,λj b s c=>by have:=d j b s c;omega,R⟩
theorem toTerm_own:∀t:M.Tm,CpO t:=by
 refine M.Tm.ind λt ih=>?_;intro w K F v ht hf Z;refine ze {} Tryz.func47 ?_;obtain⟨kv,rfl,H⟩:=ht;obtain⟨f1,f2⟩:=fitB_iff.1 hf;refine zj λb1 w1 a0 E a3 R=>?_;refine zi zr λb2 w2 a1 m a4 S=>?_;refine zi zr λb3 w3 a2 h a5 T=>?_;have L:=(R.ext m).ext h;simp only[push_cast,L.ld0];refine T.st (i:=0) rfl rfl yM rfl λw4 r a6 U=>?_;have N:=L.same r oM;simp only[push_cast,N.ld1];refine U.st (i:=1) rfl rfl yM rfl λw5 u a7 V=>?_;have O:=N.same u oM;simp only[push_cast,O.ld2];refine V.st (i:=2) rfl rfl yM rfl λw6 z a8 W=>?_;have P:=O.same z oM;simp only[push_cast,P.ld3];refine W.st (i:=3) rfl rfl Yv rfl λQ A a9 X=>?_;have q7:=P.same A oM;simp only[push_cast,q7.ld4];have g:Same (λb=>b=b3) w3 Q:=r.trans (u.trans (z.trans A));have l:=(E.trans m).trans h;have j:Ext w Q:=Ext.then l g λy B=>by subst B;omega
 refine toTermS_own ih (H.ext j) f1 f2 λw8 f css Ds d n=>?_;have Y:=X.ext d;have o:f.cells= #[f]/\f.oneCell'=true:=by
  obtain⟨a,c,rfl,_⟩:=n.1.sl.shape;exact⟨rfl,rfl⟩
 have aa:=d.size;have J:=g.size
 try simp only[push_cast]
 refine Y.st (i:=4) o.1 o.2 xM rfl λw9 k ab D=>?_;replace D:Blk w9 b3 [nI t.op,nI t.a,nI t.b,.string t.s,f] za:=D;rw[D.ldAgg (t:=za) zc];have G:=XW n k λb hb e=>oM
 have C:=(((S.ext h).same g oM).ext d).same k oM;refine retO C rfl (ZK0 (t:=t) G) (λx hx=>oM) λw10 q I p=>?_;exact Z _ _ (Ext.then (Ext.then (j.trans d) k λy B=>by subst B;omega) q λy B=>by subst B;omega) (qD p λb hb=>by have:=j.size;omega)
def digs:Nat->Nat->ByteArray->ByteArray
 |0,_,acc=>acc
 |f+1,k,acc=>if 0<k then digs f (k/10) (strOfNums [((48+k%10:Nat):Int)]++acc) else acc
def QY (k:Nat):ByteArray:=if k=0 then⟨#[109,48]⟩ else⟨#[109]⟩++digs (k+1) k ⟨#[]⟩
theorem markText_spec {k:Nat} (h:k<4611686018427387904) (b:∀w',Ext w w'->K (.string (QY k)) w'):vcall Y2 #[nI k] w K:=by
 refine ze {loops:=[(4,[0,3])]} Tryz.func54 ?_;refine oZ ?_;refine zb (λa=>?_) (λa=>?_)
 .have e:QY k=⟨#[109,48]⟩:=by unfold QY;rw[X0 oM]
  rw[e] at b;exact b _ (Same.refl _ _)
 have e:QY k=⟨#[109]⟩++digs (k+1) k ⟨#[]⟩:=by unfold QY;rw[y3 oM]
 rw[e] at b;refine ji (λn u w'=> ∃(j:Nat) (acc:ByteArray) (f:Nat),u=[nI j,.string acc]/\n=j/\j<=k/\j<f/\acc.size+j<=k/\Ext w w'/\digs f j acc=digs (k+1) k ⟨#[]⟩) k
  ⟨k,_,k+1,rfl,rfl,gr _,oM,by simp[ByteArray.size],Same.refl _ _,rfl⟩ ?_
 rintro n _ _ w1 C ⟨j,acc,f,rfl,rfl,v,t,z,he,m⟩ q;refine oZ ?_;refine zb (λc=>?_) (λc=>?_)
 .rw[Zk dC,show(n:Int).tmod 10=((n%10:Nat):Int) from by rw[pX oM];omega,XS];rw[show IntKind.i64.wrap (48+((n%10:Nat):Int))=((48+n%10:Nat):Int) from by rw[zk oM oM];omega];rw[qI Wz Za0,show IntKind.u8.wrap ((48+n%10:Nat):Int)=((48+n%10:Nat):Int) from by show((48+n%10:Nat):Int)%256=_;omega];refine qJ (k:=1) (y:=[.int .u8 ((48+n%10:Nat):Int)]) XU Y50 kz0 rfl rfl dC λb2 w2 r l x p=>?_;have s:∀d:oK,yS0 xF yx (.slice (some ⟨b2,0,none⟩) 1 1) w2 d=d (.string (strOfNums [((48+n%10:Nat):Int)])) w2:=λd=>
   y9 (run_convert_bytes_arg w2 xF ZC XU rK b2 0 1 1 [((48+n%10:Nat):Int)] rfl (λi hi=>by
    have:i=0:=oM;subst this;exact p.cell (i:=0) rfl) yx ZV)
  rw[s,Zj (by rw[strOfNums_size];show 1+_<=_;omega),kN dC,show(n:Int).tdiv 10=((n/10:Nat):Int) from by rw[Int.tdiv_eq_ediv_of_nonneg oM];omega,zk oM oM];obtain⟨f,rfl⟩:∃g,f=g+1:=⟨f-1,oM⟩;refine q (n/10) _ _ oM ⟨n/10,_,f,rfl,rfl,oM,oM,?_,he.trans l,?_⟩
  .rw[ByteArray.size_append,strOfNums_size];show 1+acc.size+n/10<=k;omega
  .rw[<-m];show _=if 0<n then _ else _
   rw[X0 oM]
 .have o:n=0:=oM;subst o;obtain⟨f,rfl⟩:∃g,f=g+1:=⟨f-1,oM⟩;have:acc=digs (k+1) k ⟨#[]⟩:=by
   rw[<-m];show _=if 0<0 then _ else acc
   rw[y3 oM]
  subst this;rw[Zj (by show 1+_<=_;omega)];exact b _ he
theorem markText_int {k:Int} (b:0<=k) (h:k<4611686018427387904) (a:∀w',Ext w w'->K (.string (QY k.toNat)) w'):vcall Y2 #[nI k] w K:=by
 obtain⟨n,rfl⟩:∃n:Nat,k=n:=⟨k.toNat,oM⟩;exact markText_spec oM a
theorem inc_wrap {k:Int} (a:0<=k) (h:k<4611686018427387904):IntKind.i64.wrap (k+1)=k+1:=zk oM oM
theorem markDeclS_spec {v:Value} {css:List (List Value)} {k:Int} (x:Own 0 2 yC w v css) (A:0<=k) (B:k+2*css.length<4611686018427387904)
  (t:∀w',Same (λb=>v.ownBlock=some b) w w'->K (nI (k+2*css.length)) w'):vcall JD #[v,nI k] w K:=by
 refine ze {loops:=[(2,[1,5])]} Tryz.func16 ?_;refine vloop_up css.length (λi u w'=>u=[nI (k+2*i),nI i]/\Same (λb=>v.ownBlock=some b) w w'/\∃c,c.length=css.length/\Own 0 2 yC w' v c) ⟨by simp,Same.refl _ _,css,rfl,x⟩ ?_;rintro i _ _ w1 C hi ⟨rfl,h,r,e,f⟩ s;have o:=f.sl;simp only[push_cast,o.len,e];refine zb (λa=>?_) (λa=>?_)
 .refine markText_int oM oM λw2 d=>?_;have g:=f.ext d;have n:=g.sl;simp(disch:=exact oS) only[push_cast,n.iaddr];refine Own.stCell g rfl rfl Yv (i:=i) (j:=0) oM dC λD l p y=>?_;rw[inc_wrap oM oM];refine Own.stCell l rfl rfl yM (i:=i) (j:=1) (by rw[gP];omega) dC λE m q z=>?_;rw[inc_wrap oM oM,inc64' oM];refine s oM _ _ ⟨by rw[show k+2*(i:Int)+1+1=k+2*((i+1:Nat):Int) by omega],h.trans ((Same.of_ext d).trans (p.trans q)),_,by rw[gP,gP];exact e,m⟩
 .have:i=css.length:=oM;subst this;exact t _ h
end
section
variable {w:World} {K:oK} {F D G:oA}
inductive Held:List M.Tm->Int->Int->Prop
 |nil (k:Int):Held [] k k
 |cons {t:M.Tm} {us:List M.Tm} {k m n:Int}:t.op=k->t.a=k+1->t.b=k+2->t.s=QY (k+3).toNat->Held t.ks (k+4) m->Held us m n->Held (t::us) k n
theorem jF0 {us:List M.Tm} {k m n:Int} {t:M.Tm} (h:Held us k m) (f:t.op=m) (g:t.a=m+1) (i:t.b=m+2) (j:t.s=QY (m+3).toNat) (l:Held t.ks (m+4) n):Held (us++[t]) k n:=by
 induction h with
 |nil k=>exact .cons f g i j l (.nil _)
 |cons a b c d e _ _ o=>exact .cons a b c d e (o f g i j l)
abbrev MarkT (t:M.Tm):Prop:=∀{w:World} {K:oK} {D:oA} {kv:Value} {css:List (List Value)} {Ds:Nat->Nat->Prop} {k:Int},ZC0 w D kv t.ks css Ds->0<=k->k+4*M.szT t.ks t.ks.length<4611686018427387904->
 (∀w' us css',Same D w w'->ZC0 w' D kv us css' Ds->us.length=t.ks.length->Held us k (k+4*M.szT t.ks t.ks.length)->K (nI (k+4*M.szT t.ks t.ks.length)) w')->vcall JB #[kv,nI k] w K
theorem kP0 {us:List M.Tm} {i:Nat} {u:M.Tm} (h:i<us.length):(us.set i u).take (i+1)=us.take i++[u]:=by
 rw[M.take_add (by rw[gP];exact h) default,List.take_set_of_le (gr _),getD_set h,X0 rfl]
theorem markTermS_spec:∀t:M.Tm,MarkT t:=by
 refine M.Tm.ind λt ih=>?_;intro w K D kv css Ds k h h0 hk hK;refine ze {loops:=[(2,[1,5])]} Tryz.func17 ?_;refine vloop_up t.ks.length (λi u w'=>u=[nI (k+4*M.szT t.ks i),nI i]/\Same D w w'/\∃us F,us.length=t.ks.length/\ZC0 w' D kv us F Ds/\Held (us.take i) k (k+4*M.szT t.ks i)/\∀j,i<=j->us.getD j default=t.ks.getD j default)
  ⟨by show _=[nI (k+4*((0:Nat):Int)),_];simp,Same.refl _ _,t.ks,css,rfl,h,by rw[pV];show Held [] k (k+4*((0:Nat):Int));simpa using Held.nil k,λj _=>rfl⟩ ?_
 rintro i _ _ w1 C hi ⟨rfl,O,us,d,l,hT,hH,n⟩ hC;have U:=hT;obtain⟨own1,L,f,A,p,g⟩:=U;have o:=own1.sl;have a4:=o.small;simp only[push_cast,o.len,L,l];refine zb (λa=>?_) (λa=>?_)
 .have q:i<t.ks.length:=oM;have a8:=M.szT_succ q;have W:=M.szT_mono (ks:=t.ks) (i:=i+1) (j:=t.ks.length) oM (gr _);have a7:=M.szT_all (t.ks.getD i default);obtain⟨m,hm⟩:∃m:Int,m=k+4*M.szT t.ks i:=⟨_,rfl⟩;have a5:0<=m:=oM;have a6:m+10+4*M.szT (t.ks.getD i default).ks (t.ks.getD i default).ks.length<4611686018427387914:=oM;have B:m+4+4*M.szT (t.ks.getD i default).ks (t.ks.getD i default).ks.length=k+4*M.szT t.ks (i+1):=oM;simp only[<-hm];simp(disch:=exact oS) only[push_cast,o.iaddr];have I:=g i oM;rw[n i (gr _)] at I;obtain⟨kvi,cssi,Dsi,ei,hp⟩:=j70 I;refine Own.stCell own1 rfl rfl yM (i:=i) (j:=0) oM dC λw2 r Z a9=>?_;rw[ei] at r;rw[inc_wrap oM oM];refine Own.stCell r rfl rfl yM (i:=i) (j:=1) (by rw[gP];omega) dC λw3 s a0 aa=>?_;rw[getD_set oM,X0 rfl,P4] at s;rw[inc_wrap oM oM];refine Own.stCell s rfl rfl yM (i:=i) (j:=2) (by rw[gP];omega) dC λw4 v a1 ab=>?_;rw[getD_set oM,X0 rfl,P4] at v;rw[inc_wrap oM oM,show m+1+1=m+2 by omega,show m+2+1=m+3 by omega];refine markText_int oM oM λw5 H=>?_;have Q:=v.ext H;refine Own.stCell Q rfl rfl Yv (i:=i) (j:=3) (by rw[gP];omega) dC λw6 c a2 ac=>?_;rw[getD_set oM,X0 rfl,P4] at c;rw[inc_wrap oM oM,show m+3+1=m+4 by omega];rw[show m+1+1=m+2 by omega] at c;replace c:Own 0 5 zl w6 kv (d.set i [nI m,nI (m+1),nI (m+2),.string (QY (m+3).toNat),kvi]):=c;have V:i<(d.set i [nI m,nI (m+1),nI (m+2),.string (QY (m+3).toNat),kvi]).length:=by rw[gP];omega
  rw[Sl.ldField c.sl ZZ V (x:=kvi) (j:=4) (by rw[getD_set oM,X0 rfl];rfl)];have y:Same (λb=>kv.ownBlock=some b) w1 w6:=Z.trans (a0.trans (a1.trans ((Same.of_ext H).trans a2)));have X:=XW hp y λb z e=>(f b e).2 i oM z;have N:t.ks.getD i default∈t.ks:=M.getD_mem q _;refine ih _ N X oM oM λw7 ui R E Y a3 G=>?_;rw[B] at G⊢;rw[inc64' oM];have T:Same D w1 w7:=(y.mono λb _ e=>(f b e).1).trans (E.mono λb _ e=>p i b oM e);have S:Same (λb=>kv.ownBlock=some b\/Ds i b) w1 w7:=(y.mono λb _ e=> .inl e).trans (E.mono λb _ e=> .inr e);refine hC oM _ _ ⟨rfl,O.trans T,us.set i (.mk m (m+1) (m+2) (QY (m+3).toNat) ui),d.set i [nI m,nI (m+1),nI (m+2),.string (QY (m+3).toNat),kvi],by rw[gP];exact l,⟨c.same E λb z e=>(f b z).2 i oM e,by rw[gP,gP];exact L,?_,?_,?_,λj J=>?_⟩,?_,λj J=>?_⟩
  .rw[gP];exact f
  .rw[gP];exact A
  .rw[gP];exact p
  .rw[gP] at J;rw[getD_set oM,getD_set oM];by_cases e:i=j
   .subst e;rw[X0 rfl,X0 rfl];exact ZK0 (t:= .mk m (m+1) (m+2) (QY (m+3).toNat) ui) Y
   .rw[y3 e,y3 e];refine jR S _ (g j J) λb z hs=>?_;rcases hs with hs|hs
    .exact(f b hs).2 j J z
    .rcases Nat.lt_or_gt_of_ne e with h|h
     .exact A i j b h J hs z
     .exact A j i b h oM z hs
  .rw[kP0 oM];rw[<-hm] at hH;exact jF0 hH rfl rfl rfl rfl G
  .rw[getD_set oM,y3 oM];exact n j oM
 .have q:i=t.ks.length:=oM;subst q;rw[<-l,gA,l] at hH;exact hK _ us d O hT l hH
end
end Go.Proofs.YtfnpmncplaibiaaGreatDoor
namespace Go.Proofs.YtfnpmncplaibiaaGreatDoor
open Go Go.Vc Go.Proofs Go.M
section
variable {w:World} {K:oK} {F Fr F':oA} {N:Nat} {c:Cnf}
theorem yC0 {xs ys:oI} (c:xs.length=ys.length) (h:∀j,j<xs.length->xs.getD j 0=ys.getD j 0):xs=ys:=
 gM c λj a b=>by have:=h j a;simpa[y4,a,b] using this
theorem yD0 {xs ys:List (oI)} (c:xs.length=ys.length) (h:∀j,j<xs.length->xs.getD j []=ys.getD j []):xs=ys:=
 gM c λj a b=>by have:=h j a;simpa[y4,a,b] using this
theorem Qp {α:Type} {xs:List α} {i j:Nat} {x d:α} (hi:i<xs.length):(xs.set i x).getD j d=if i=j then x else xs.getD j d:=by
 simp only[y4,List.getElem?_set];by_cases e:i=j
 .subst e;simp[hi]
 .simp[e]
theorem _root_.Go.Vc.Ints.small {v:Value} {xs:oI} (h:Ints F w v xs):xs.length<=9223372036854775807:=by
 obtain⟨_,_,_,a,b,_⟩:=h.shape;simp at a;omega
theorem _root_.Go.Vc.Vals.small {v:Value} {xs:List Value} (h:Vals F w v xs):xs.length<=9223372036854775807:=by
 obtain⟨_,_,_,a,b,_⟩:=h.shape;simp at a;omega
def tot:List (oI)->Nat
 |[]=>0
 |x::xs=>x.length+tot xs
theorem tot_app (a b:List (oI)):tot (a++b)=tot a+tot b:=by
 induction a with
 |nil=>simp[tot]
 |cons x a c=>simp[tot,c];omega
theorem xw0 {xss:List (oI)} {i:Nat} (h:i<xss.length):tot (xss.take (i+1))=tot (xss.take i)+(xss.getD i []).length:=by
 rw[take_snoc' (d:=[]) h,tot_app];simp[tot]
theorem tot_le (xss:List (oI)) (i:Nat):tot (xss.take i)<=tot xss:=by
 have:=tot_app (xss.take i) (xss.drop i);rw[G3] at this;omega
def jg0 (k n:Nat):oI:=(List.range n).map λj=>((k+j:Nat):Int)
theorem xC0 (k n:Nat):(jg0 k n).length=n:=by simp[jg0]
theorem xD0 {k n j:Nat} (h:j<n):(jg0 k n).getD j 0=((k+j:Nat):Int):=by
 simp[jg0,y4,h]
section
variable {ls:List Value} {xss:List (oI)} {w':World}
theorem RowsR.setRow {i:Nat} {ys:oI} (h:RowsR N Fr w ls xss) (hi:i<xss.length) (hw:Same (λb=>(ls.getD i undef).ownBlock=some b) w w') (m:OwnI zh w' (ls.getD i undef) ys):RowsR N Fr w' ls (xss.set i ys):=by
 refine⟨gY h.nle hw.size,λj d=>?_,λj b d f=>h.sub j b (by simpa using d) f,λj k b g l=>h.dj j k b g (by simpa using l)⟩;rw[gP] at d;rw[Qp hi];by_cases e:i=j
 .subst e;rw[X0 rfl];exact m
 .rw[y3 e];refine(h.own j d).same hw λb f c=>?_;rcases Nat.lt_or_gt_of_ne e with a|a
  .exact h.dj i j b a d c f
  .exact h.dj j i b a hi f c
theorem RowsR.lists {v:Value} (h:RowsR N Fr w ls xss) (a:ls.length=xss.length) (c:Vals F w v ls):Lists (λb=>F b\/Fr b) w v xss:=
 ⟨ls,a,c.weaken λ_ h _=> .inl h,λi hi=>(h.int hi).weaken λ_ h _=> .inr h⟩
end
theorem eqIntS_spec {va vb:Value} {a b:oI} (m:Ints F w va a) (o:Ints F' w vb b) (l:∀w',Ext w w'->K (.bool (decide (a=b))) w'):vcall Uy #[va,vb] w K:=by
 refine ze {loops:=[(4,[5])]} Tryz.func33 ?_;have s:=m.small;simp only[push_cast,m.len,o.len];refine zb (λh=>?_) (λh=>?_)
 .have:=l w (Same.refl _ _);rwa[gm (λe=>h (by rw[e]))] at this
 refine vloop_up a.length (λi u w'=>u=[nI i]/\Ext w w'/\∀j,j<i->a.getD j 0=b.getD j 0) ⟨rfl,Same.refl _ _,oM⟩ ?_;rintro i _ _ w1 C hi ⟨rfl,he,p⟩ r;have d:=m.ext he;have n:=o.ext he;simp only[push_cast,d.len];refine zb (λq=>?_) (λq=>?_)
 .refine zd λw2 c _=>?_;have f:=d.ext c;have g:=n.ext c;simp(disch:=exact oS) only[push_cast,f.iaddr,f.load,g.iaddr,g.load,k5];refine zb (λk=>?_) (λk=>?_)
  .have:=l w2 (he.trans c);rwa[gm (λe=>k (by rw[e]))] at this
  .rw[inc64' oM];refine r oM _ _ ⟨rfl,he.trans c,λj v=>?_⟩;by_cases e:j=i
   .subst e;simpa using k
   .exact p j oM
 .have:=l w1 he;rwa[gz (yC0 oM λj t=>p j oM)] at this
theorem eqIntSS_spec {va vb:Value} {a b:List (oI)} (z:Lists F w va a) (A:Lists F' w vb b) (n:∀w',Ext w w'->K (.bool (decide (a=b))) w'):vcall VM #[va,vb] w K:=by
 refine ze {loops:=[(4,[5])]} Tryz.func13 ?_;obtain⟨t,has,hav,o⟩:=z;obtain⟨v,r,k,q⟩:=A;have B:=hav.small;simp only[push_cast,hav.len,k.len];refine zb (λh=>?_) (λh=>?_)
 .have:=n w (Same.refl _ _);rwa[gm (λe=>h (by rw[has,r,e]))] at this
 refine vloop_up a.length (λi u w'=>u=[nI i]/\Ext w w'/\∀j,j<i->a.getD j []=b.getD j []) ⟨rfl,Same.refl _ _,oM⟩ ?_;rintro i _ _ w1 C hi ⟨rfl,he,s⟩ y;have d:=hav.ext he;have p:=k.ext he;simp only[push_cast,d.len];refine zb (λx=>?_) (λx=>?_)
 .refine zd λw2 c _=>?_;have f:=d.ext c;have g:=p.ext c;simp(disch:=exact oS) only[push_cast,f.iaddr,f.load,g.iaddr,g.load,k5];refine eqIntS_spec ((o i oM).ext (he.trans c)) ((q i oM).ext (he.trans c)) λD l=>?_;simp only[push_cast,k5];refine zm (λm=>?_) (λm=>?_)
  .have:=n D (he.trans (c.trans l));rwa[gm (λe=>by rw[e] at m;simp at m)] at this
  .rw[inc64' oM];refine y oM _ _ ⟨rfl,he.trans (c.trans l),λj G=>?_⟩;by_cases e:j=i
   .subst e;simpa using m
   .exact s j oM
 .have:=n w1 he;rwa[gz (yD0 oM λj E=>s j oM)] at this
theorem markIntS_specX {v:Value} {xs:oI} {k:Nat} (x:OwnI zh w v xs) (z:k<=4611686018427387904) (t:xs.length<=1048576)
  (n:∀w',Same (λb=>v.ownBlock=some b) w w'->w'.heap.size=w.heap.size->OwnI zh w' v (jg0 k xs.length)->K (nI (k+xs.length:Nat)) w'):vcall KF #[v,nI k] w K:=by
 refine ze {loops:=[(2,[1,5])]} Tryz.func36 ?_;refine vloop_up xs.length (λi u w'=>u=[nI (k+i:Nat),nI i]/\Same (λb=>v.ownBlock=some b) w w'/\w'.heap.size=w.heap.size/\∃ys:oI,ys.length=xs.length/\OwnI zh w' v ys/\∀j,j<i->ys.getD j 0=((k+j:Nat):Int)) ⟨by simp,Same.refl _ _,rfl,xs,rfl,x,oM⟩ ?_;rintro i _ _ w2 C hi ⟨rfl,d,m,ys,o,c,p⟩ r;have f:=c.ints;simp only[push_cast,f.len];refine zb (λa=>?_) (λa=>?_)
 .simp(disch:=exact oS) only[push_cast,f.iaddr];refine c.st yM oM λA l h y=>?_;have q:IntKind.i64.wrap (((k+i:Nat):Int)+1)=((k+(i+1):Nat):Int):=by rw[zk oM oM];omega
  rw[inc64' oM];refine r oM _ _ ⟨by rw[<-q];simp,d.trans h,oM,_,by rw[gP];exact o,l,λj s=>?_⟩;rw[Qp oM];by_cases e:i=j
  .subst e;rw[X0 rfl];simp
  .rw[y3 e];exact p j oM
 .have g:i=xs.length:=oM;subst g;have:ys=jg0 k xs.length:=yC0 (by rw[xC0];exact o) λj s=>by rw[xD0 oM];exact p j oM
  rw[<-this] at n;exact n w2 d m c
theorem heldIntS_specX {v:Value} {k n:Nat} (m:Ints F w v (jg0 k n)) (o:k<=4611686018427387904) (l:n<=1048576) (h:∀w',Ext w w'->K (nI (k+n:Nat)) w'):vcall KG #[v,nI k] w K:=by
 refine ze {loops:=[(2,[1,5])]} Tryz.func37 ?_;have j:=xC0 k n;refine vloop_up n (λi u w'=>u=[nI (k+i:Nat),nI i]/\Ext w w') ⟨by simp,Same.refl _ _⟩ ?_;rintro i _ _ w2 C hi ⟨rfl,c⟩ g;have d:=m.ext c;simp only[push_cast,d.len];refine zb (λa=>?_) (λa=>?_)
 .simp(disch:=exact oS) only[push_cast,d.iaddr,d.load];refine zb (λb=>absurd (by rw[xD0 oM];simp) b) (λb=>?_);have f:IntKind.i64.wrap (((k+i:Nat):Int)+1)=((k+(i+1):Nat):Int):=by rw[zk oM oM];omega
  rw[inc64' oM];exact g oM _ _ ⟨by rw[<-f];simp,c⟩
 .have e:i=n:=oM;subst e;exact h w2 c
def zJ0 (k:Nat) (xss:List (oI)):List (oI):=(List.range xss.length).map λj=>jg0 (k+tot (xss.take j)) (xss.getD j []).length
theorem XZ (k:Nat) (xss:List (oI)):(zJ0 k xss).length=xss.length:=by simp[zJ0]
theorem zI0 {k j:Nat} {xss:List (oI)} (h:j<xss.length):(zJ0 k xss).getD j []=jg0 (k+tot (xss.take j)) (xss.getD j []).length:=by
 simp[zJ0,y4,h]
theorem markIntSS_spec {v:Value} {vs:List Value} {xss:List (oI)} {k:Nat} (G:OwnV zn w v vs) (A:RowsR N Fr w vs xss) (J:vs.length=xss.length) (hF:∀b,Fr b->v.ownBlock≠some b) (I:k<=4611686018427387904-1048576) (D:tot xss<=1048576) (B:xss.length<=1048576)
  (z:∀w',Same (λb=>Fr b/\N<=b) w w'->w'.heap.size=w.heap.size->OwnV zn w' v vs->RowsR N Fr w' vs (zJ0 k xss)->K (nI (k+tot xss:Nat)) w'):vcall JC #[v,nI k] w K:=by
 refine ze {loops:=[(2,[1,5])]} Tryz.func18 ?_;refine vloop_up xss.length (λi u w'=>u=[nI (k+tot (xss.take i):Nat),nI i]/\Same (λb=>Fr b/\N<=b) w w'/\w'.heap.size=w.heap.size/\OwnV zn w' v vs/\∃yss:List (oI),yss.length=xss.length/\RowsR N Fr w' vs yss/\(∀j,j<i->yss.getD j []=jg0 (k+tot (xss.take j)) (xss.getD j []).length)/\∀j,i<=j->yss.getD j []=xss.getD j []) ⟨by simp[tot],Same.refl _ _,rfl,G,xss,rfl,A,oM,λ_ _=>rfl⟩ ?_;rintro i _ _ w2 C hi ⟨rfl,m,q,g,yss,n,c,t,x⟩ y;have h:=g.vals;simp only[push_cast,h.len];refine zb (λa=>?_) (λa=>?_)
 .simp(disch:=exact oS) only[push_cast,h.iaddr,h.load];have F:=xw0 (xss:=xss) (i:=i) oM;have E:=tot_le xss (i+1);have s:=c.own i oM;rw[x i (gr _)] at s;refine markIntS_specX s oM oM λL f H p=>?_;refine oZ ?_;rw[inc64' oM];have d:∀b,(vs.getD i undef).ownBlock=some b->Fr b/\N<=b:=λb l=>c.sub i b oM l;refine y oM _ _ ⟨?_,m.trans (f.mono λb _ l=>d b l),oM,g.same f λb l e=>hF b (d b e).1 l,yss.set i (jg0 (k+tot (xss.take i)) (xss.getD i []).length),by rw[gP];exact n,c.setRow oM f p,λj r=>?_,λj r=>?_⟩
  .rw[show(k:Int)+(tot (xss.take i):Int)+((xss.getD i []).length:Int)=((k+tot (xss.take (i+1)):Nat):Int) by omega]
  .rw[Qp oM];by_cases e:i=j
   .subst e;rw[X0 rfl]
   .rw[y3 e];exact t j oM
  .rw[Qp oM,y3 oM];exact x j oM
 .have o:i=xss.length:=oM;subst o;have e:yss=zJ0 k xss:=yD0 (by rw[XZ];exact n) λj r=>by rw[zI0 oM];exact t j oM
  rw[e] at c;rw[gA];exact z w2 m q g c
theorem heldIntSS_spec {v:Value} {xss:List (oI)} {k:Nat} (s:Lists F w v (zJ0 k xss)) (t:k<=4611686018427387904-1048576) (p:tot xss<=1048576) (o:xss.length<=1048576)
  (n:∀w',Ext w w'->K (nI (k+tot xss:Nat)) w'):vcall JE #[v,nI k] w K:=by
 refine ze {loops:=[(2,[1,5])]} Tryz.func19 ?_;obtain⟨es,g,h,f⟩:=s;rw[XZ] at g;refine vloop_up xss.length (λi u w'=>u=[nI (k+tot (xss.take i):Nat),nI i]/\Ext w w') ⟨by simp[tot],Same.refl _ _⟩ ?_;rintro i _ _ w2 C hi ⟨rfl,c⟩ m;have b:=h.ext c;simp only[push_cast,b.len];refine zb (λa=>?_) (λa=>?_)
 .simp(disch:=exact oS) only[push_cast,b.iaddr,b.load];have r:=xw0 (xss:=xss) (i:=i) oM;have q:=tot_le xss (i+1);have l:=(f i (by rw[XZ];omega)).ext c;rw[zI0 oM] at l;refine heldIntS_specX l oM oM λx d=>?_;refine oZ ?_;refine zb (λe=>absurd e oM) (λ_=>?_);rw[inc64' oM];refine m oM _ _ ⟨?_,c.trans d⟩;rw[show(k:Int)+(tot (xss.take i):Int)+((xss.getD i []).length:Int)=((k+tot (xss.take (i+1)):Nat):Int) by omega]
 .have j:i=xss.length:=oM;subst j;rw[gA];exact n w2 c
end
end Go.Proofs.YtfnpmncplaibiaaGreatDoor
section
namespace Go.Proofs.YtfnpmncplaibiaaGreatDoor
open Go Go.Vc Go.Proofs
open Go.ChangeShapes Go.WideShapes Go.ChangeAt Go.RowKit
section
variable {H:Type} {enc:TypeId×Value->H} {W:World} {cs:List Value} {x:DataW H×List MemPlace} {held:Bool} {fuel:Nat}
theorem terms_in (h:DataW.trod enc P W 0 (λ_=>true) held fuel xc cs=some x):∃v ks,cs=[v]/\TmsR (λ_=>True) W v ks/\∀k,k∈ks->QH k=true:=by
 rcases DataW.trod_slice ZW h with⟨rfl,_⟩|⟨a,len,cap,elems,rest,n,_,rfl,_,_,e,hm,f,b,_,_⟩
 .exact⟨_,[],rfl,TmsR.nil,λk c=>by cases c⟩
 .obtain⟨css,ys,hs,j,l,d⟩:=each_in (α:=M.Tm) (R:=λcs t=>TmR (λ_=>True) W cs t/\QH t=true) xk0 dC e hm f b λcs x g=>term_in _ g;refine⟨_,ys,rfl,⟨css,hs,oM,λi hi=>(d i oM).1⟩,λk c=>?_⟩;obtain⟨i,hi,rfl⟩:=gq c;have:=(d i oM).2;rwa[y4,gd hi] at this
end
abbrev kidsT (ts:List M.Tm):M.Tm:= .mk 0 0 0 ⟨#[]⟩ ts
end Go.Proofs.YtfnpmncplaibiaaGreatDoor
end
namespace Go.Proofs.YtfnpmncplaibiaaGreatDoor
open Go Go.Vc Go.Proofs
section
variable {w:World} {K:oK} {D F F' G:oA} {dv tv mv:Value} {ds:List M.Dcl} {ts:List M.Tm} {most:Int} {at_ an am ar ab:Addr}
theorem tot_few {xss:List (oI)} {m:Nat} (h:∀x,x∈xss->x.length<=m):tot xss<=xss.length*m:=by
 induction xss with
 |nil=>simp[tot]
 |cons x xs b=>
  have c:=h x gk;have d:=b λy a=>h y (gp _ a);simp only[tot,gF,Nat.succ_mul];omega
theorem ways_few (ds:List M.Dcl) (ts:List M.Tm) (most:Int):(qa ds ts most).1.length<=20/\tot (qa ds ts most).1<=80:=by
 by_cases h:all8 ds ts=true/\0<=most/\most<=20
 .obtain⟨d,e,b⟩:=h;obtain⟨g,j⟩:=waysR_says d e b;have f:(qa ds ts most).1.length<=20:=oM;refine⟨f,?_⟩;have a:=ways_env d g oM _ (gr _);rw[gA] at a;have:=tot_few (xss:=(qa ds ts most).1) (m:=4) λx i=>by
   have c:=a x i;have:=(M.env_ok c).2.1;have:=(M.decl_iff.1 (M.env_ok c).1).1;omega
  omega
 .rw[j9 h];exact⟨by simp,by simp[tot]⟩
theorem FnExactSolveWays_spec (hd:DclsR F w dv ds) (hz:JX ds) (ht:TmsR F' w tv ts) (hs:∀k,k∈ts->QH k=true) (hm:mv= nI most) (_hb: -9223372036854775808<=most/\most<=9223372036854775807) (er:Er w at_ an am ar ab) (hK:∀w',Ext w w'->K (.bool true) w'):vcall Zq #[dv,tv,mv] w K:=by
 subst hm;obtain⟨c0,c1⟩:=ways_few ds ts most;refine ze {cuts:=[(53262,[]),(90135,[])]} Tryz.func3 ?_;refine szDeclS_spec dC dC hz hd λw1 r a7 hr=>?_;refine oZ ?_;refine zb (λ_=>hK _ a7) (λc=>?_);rcases hr with h|⟨r0,r1,r2⟩
 .omega
 refine szTermS_of (λk _=>szTerm_spec k) (ht.ext a7) hs r0 r1 λw2 r' bb bd=>?_;have a2:=a7.trans bb;refine oZ ?_;refine zb (λ_=>hK _ a2) (λc'=>?_);rcases bd with h|⟨c6,c7,c8,p⟩
 .omega
 have H:ds.length<=1048576:=oM
 have I:ts.length<=1048576:=oM
 refine ZY (hd.ext a2) H λw3 bx bc ba=>?_;have aj:=a2.trans bc;refine toTermS_of (λk _=>toTerm_spec k) (ht.ext aj) I p λw4 c9 ay be=>?_;have b8:=aj.trans ay;refine spec_SolveWays_spec hz (ba.ext ay) be λw6 bz c5 az b9=>?_;have a3:=b8.trans az;have c2:=az.size;have al:=b9.lists.weaken (F':=λx=>x<w6.heap.size) λx _ hl=>hl;refine oZ ?_;refine toDeclS_own (hd.ext a3) H λw7 x0 a8 J a0=>?_;have ak:=a3.trans a8;have c3:=a8.size;have a1:∀b,x0.ownBlock=some b->b<w7.heap.size:=λb hb=>(J.lt hb).2;refine toTermS_own (λk _=>toTerm_own k) (ht.ext ak) I p λw8 x1 bk bw q a6=>?_;have a4:=ak.trans q;have c4:=q.size;refine SolveWays_spec (J.sl.ext q) (ZJ0 a6) oM (er.ext a4) λw10 ev ls i T=>?_;have ac:=a4.trans i;have bo:=i.size;have D:Ext w6 w10:=a8.trans (q.trans i);refine oZ ?_;refine zp (λu w'=>u=[]/\Ext w10 w') (λC hC=>?_) ?_
 .refine eqIntSS_spec T.lists (al.ext D) λbg d=>?_;simp only[push_cast,decide_true,Gp];exact zb (λh=>absurd rfl h) (λ_=>hC _ _ ⟨rfl,d⟩)
 rintro _ _ bg ⟨rfl,d⟩;have N:=ac.trans d;refine ZY (hd.ext N) H λbh bl o aq=>?_;have ad:=N.trans o;have a9:Ext w7 bh:=q.trans (i.trans (d.trans o));refine eqDeclS_same (ds:=ds) (J.sl.ext a9) aq λca t=>?_;simp only[push_cast,Gp];have O:=ad.trans t;refine toTermS_of (λk _=>toTerm_spec k) (ht.ext O) I p λbi bt v b1=>?_;have ae:=O.trans v;have E:Ext w8 bi:=i.trans (d.trans (o.trans (t.trans v)));refine eqTermS_of (λk _=>xg0 k) ((ZJ0 a6).ext E) b1 λb4 z=>?_;simp only[push_cast,Gp];have af:=ae.trans z;have j:=E.trans z;have f:Ext w10 b4:=d.trans (o.trans (t.trans (v.trans z)));have bf:=j.size;have b5:=f.size;refine markDeclS_spec ((J.ext q).ext j) dC (by rw[K3];omega) λcb G=>?_;rw[K3];have bp:=G.size;have ap:=XW (XW a6 j λ_ _ h=>h) G λb hb e=>by have:=a1 _ e;omega
 refine markTermS_spec (kidsT ts) ap oM (by show _+4*(M.szT ts ts.length:Int)<_;omega) λL bv b7 Z _ _ _=>?_;have bq:=Z.size;have n:Same (λb=>x0.ownBlock=some b\/(w7.heap.size<=b/\b<w8.heap.size)) b4 L:=(G.mono λ_ _ h=> .inl h).trans (Z.mono λ_ _ h=> .inr h);have ag:Ext w L:=Ext.then af n λy hy=>by
  have:=a3.size;rcases hy with hy|hy
  .have:=a0 y hy;omega
  .omega
 have s:=(al.ext (D.trans f)).same n λb hb _ e=>by
  rcases e with e|e
  .have:=a0 _ e;omega
  .omega
 have l:=(T.ext f).same n λb hb _ e=>by
  rcases e with e|e
  .have:=a1 _ e;omega
  .omega
 have b6:w10.heap.size<=L.heap.size:=by have:=n.size;omega
 refine zp (λu w'=>u=[]/\Ext L w') (λC hC=>?_) ?_
 .refine oZ ?_;refine zb (λa=>oM) (λ_=>?_);refine eqIntSS_spec l.lists s λcc av=>?_;simp only[push_cast,decide_true,Gp];exact zb (λh=>absurd rfl h) (λ_=>hC _ _ ⟨rfl,av⟩)
 rintro _ _ cd ⟨rfl,A⟩;have ah:=ag.trans A;have m:=l.ext A;refine markIntSS_spec (k:=1) (xss:=(qa ds ts most).1) m.lst m.rows m.len (λb h=>h) oM oM oM λaa Y br b3 b0=>?_;have Q:Ext w aa:=Ext.then ah Y λy hy=>by have:=a4.size;have:=hy.2;omega
 have a5:=(s.ext A).same Y λb hb _ e=>by have:=e.2;omega
 have X:Lists (λ_=>True) aa ev (zJ0 1 (qa ds ts most).1):=(RowsR.lists b0 (by rw[XZ];exact m.len) b3.vals).weaken λ_ _ _=>trivial;refine heldIntSS_spec (k:=1) X oM oM oM λce U=>?_;refine oZ ?_;refine zb (λa=>absurd a oM) (λ_=>?_);refine zb (λa=>absurd rfl a) (λ_=>?_);have R:=Q.trans U;refine ZY (hd.ext R) H λcf bm V au=>?_;have S:=R.trans V;refine toTermS_of (λk _=>toTerm_spec k) (ht.ext S) I p λcg bu B b2=>?_;have ai:=S.trans B;refine SolveWays_spec (au.ext B) b2 oM (er.ext ai) λbj bn bs aw ao=>?_;have g:Ext aa bj:=U.trans (V.trans (B.trans aw));refine oZ ?_;refine eqIntSS_spec ao.lists (a5.ext g) λch W=>?_;simp only[push_cast,decide_true,Gp];refine zb (λh=>absurd rfl h) (λ_=>?_);refine heldIntSS_spec (k:=1) (X.ext (g.trans W)) oM oM oM λci ax=>?_;refine oZ ?_;refine zb (λa=>absurd a oM) (λ_=>?_);refine zb (λa=>absurd rfl a) (λ_=>?_);exact hK _ (Q.trans (g.trans (W.trans ax)))
end
end Go.Proofs.YtfnpmncplaibiaaGreatDoor
section
namespace Go.Proofs.YtfnpmncplaibiaaGreatDoor
open Go Go.Vc Go.Proofs
open Go.RowKit
theorem laid_at {l:List (String×DataW Unit)} {W:World} (h:laidMet P l W):∀k,laidMet P (l.drop k) W
 |0=>h
 |k+1=>by
  have a:=laid_at h k;rw[<-List.tail_drop];cases b:l.drop k with
  |nil=>rw[b] at a;exact a
  |cons x r=>rw[b] at a;exact a.tail
theorem zG0: "*" ++ "errors.errorString" = "*errors.errorString" :=dC
theorem kS0 (u:TypeId) (h:P.typeName? 3 u=some "*errors.errorString"):u=yV:=
 typeName_ptr_named (nm:= "errors.errorString") (by rw[zG0];kernel_rfl) rK dC u (by rw[zG0];exact h)
def ifaceB (t:TypeId):Bool:=match P.underlying t with
 |some (.interface _)=>true
 |_=>false
theorem Zb0 {t:TypeId} (h:ifaceB t=true):∃ms,P.underlying t=some (.interface ms):=by
 unfold ifaceB at h;split at h
 .exact⟨_,by assumption⟩
 .cases h
theorem q20:∃ms,P.underlying xw=some (.interface ms):=Zb0 rK
def fieldB (t u:TypeId):Bool:=match P.underlying t with
 |some (.struct fs)=>match fs.toList with
  |[f]=>decide (f.type=u)&&decide (f.offset=0)
  |_=>false
 |_=>false
theorem Zh0 {t u:TypeId} (h:fieldB t u=true):∃f,P.underlying t=some (.struct #[f])/\f.type=u/\f.offset=0:=by
 unfold fieldB at h;split at h
 .rename_i fs a;split at h
  .rename_i f b;simp only[gg,V0] at h;refine⟨f,?_,h⟩;rw[a];congr 2;exact GP.1 (by simpa using b)
  .cases h
 .cases h
theorem kT0:P.underlying yV=some (.pointer 471):=rK
theorem yY0:∃f,P.underlying 471=some (.struct #[f])/\f.type=yx/\f.offset=0:=Zh0 rK
theorem yZ0:P.underlying yx=some .string:=rK
theorem YL0:P.cellsOf 471=1/\P.cellsOf yx=1:=⟨rK,rK⟩
theorem vars_len {H:Type} {enc:TypeId×Value->H} {w:World} {sp:Nat->Bool}:∀{ns:List String} {gs:List (DataW H)} {ps:List MemPlace},DataW.TrodVars enc P w sp ns gs ps->gs.length=ns.length
 |[],[],_,_=>rfl
 |[],_::_,_,h=>h.elim
 |_::_,[],_,h=>h.elim
 |_::_,_::_,_,⟨_,_,_,_,_,_,_,_,_,_,hs,_⟩=>by rw[gF,gF,vars_len hs]
theorem vlist5 {α:Type} {l:List α} (h:l.length=5):∃a b c d e,l=[a,b,c,d,e]:=by
 match l,h with
 |[a,b,c,d,e],_=>exact⟨a,b,c,d,e,rfl⟩
end Go.Proofs.YtfnpmncplaibiaaGreatDoor
end
section
namespace Go.Proofs.YtfnpmncplaibiaaGreatDoor
open Go Go.Vc Go.Proofs
open Go.RowKit
theorem Qj {x y:String×DataW Unit} {r:List (String×DataW Unit)} {w:World} (h:laidMet P (x::y::r) w):laidMet P (x::r) w:=by
 obtain⟨ps,u,j,c⟩:=h;obtain⟨n,d⟩:=x;obtain⟨m,e⟩:=y;obtain⟨g,t,cs,fuel,p,q,o,a2,a3,a4,s,rfl⟩:=u;obtain⟨g2,t2,f,i,p2,l,_,_,_,_,k,rfl⟩:=s;have a:=pC (pO (MemPlace.row ⟨g,0,none⟩ cs.size++p)) (List.sublist_append_right (MemPlace.row ⟨g2,0,none⟩ f.size++p2) l);exact⟨_,⟨g,t,cs,fuel,p,l,o,a2,a3,a4,k,rfl⟩,List.Nodup.sublist a j,λb off hm=>c b off (a.subset hm)⟩
theorem jT {W:World} {g:Nat} {a c:Addr} (h:Sent W g a) (b:Sent W g c):a=c:=by
 unfold Sent at h b;rw[h] at b
 injection b with b
 injection b with _ b
 injection b with b
 exact V1 b
theorem Zn {j k:String} {t0 t1:List UInt8} {r:List (String×DataW Unit)} {W:World} {g0 g1:Nat} (h:laidMet P ((j,.iface "*errors.errorString" (.ptr (.agg [.lit (.string t0)])))::(k,.iface "*errors.errorString" (.ptr (.agg [.lit (.string t1)])))::r) W)
  (c:P.globalNamed j=some g0) (g:(P.globals[g0]?).map (·.type)=some xw) (d:P.globalNamed k=some g1) (i:(P.globals[g1]?).map (·.type)=some xw):∃a b,Sent W g0 a/\Sent W g1 b/\a≠b/\RowA W a/\RowA W b:=by
 obtain⟨ms,hi⟩:=q20;obtain⟨f,m,n,o⟩:=yY0;obtain⟨a0,l,u,s1,c0,c1,s,t,v0,v1,_,_,_,_,_,_,e,p,q⟩:=laid_sentinels2 h c g d i hi kS0 kT0 m n o yZ0 YL0.1 YL0.2;exact⟨a0,l,by unfold Sent;simpa using World.var?_cell c v0 0,by unfold Sent;simpa using World.var?_cell d v1 0,e,⟨c0,s,p⟩,⟨c1,t,q⟩⟩
theorem er_of {nr nb nt nn nm:String} {tr tb tt tn tm:List UInt8} {r l:List (String×DataW Unit)} {W:World} (h:laidMet P l W) (k:Nat)
  (B:l.drop k=(nr,.iface "*errors.errorString" (.ptr (.agg [.lit (.string tr)])))::(nb,.iface "*errors.errorString" (.ptr (.agg [.lit (.string tb)])))::(nt,.iface "*errors.errorString" (.ptr (.agg [.lit (.string tt)])))::(nn,.iface "*errors.errorString" (.ptr (.agg [.lit (.string tn)])))::(nm,.iface "*errors.errorString" (.ptr (.agg [.lit (.string tm)])))::r)
  (er:P.globalNamed nr=some xX) (eb:P.globalNamed nb=some jm) (et:P.globalNamed nt=some yG) (en:P.globalNamed nn=some jv) (em:P.globalNamed nm=some qy)
  (fr:(P.globals[xX]?).map (·.type)=some xw) (fb:(P.globals[jm]?).map (·.type)=some xw) (ft:(P.globals[yG]?).map (·.type)=some xw) (fn:(P.globals[jv]?).map (·.type)=some xw) (fm:(P.globals[qy]?).map (·.type)=some xw):
  ∃at_ an am ar ab,Er W at_ an am ar ab:=by
 have a:=laid_at h k;rw[B] at a;obtain⟨ar,ab,sr,sb,_,rr,_⟩:=Zn a er fr eb fb;have b:=Qj a;obtain⟨w,at_,j,st,C,_,rt⟩:=Zn b er fr et ft;have q:=Qj b;obtain⟨x,an,m,sn,D,_,rn⟩:=Zn q er fr en fn;obtain⟨y,am,n,sm,E,_,rm⟩:=Zn (Qj q) er fr em fm;have c:=b.tail;obtain⟨z,u,o,g,F,_⟩:=Zn c et ft en fn;obtain⟨A,s,p,d,G,_⟩:=Zn (Qj c) et ft em fm;obtain⟨v,t,i,f,n6,_⟩:=Zn c.tail en fn em fm;obtain rfl:=jT j sr;obtain rfl:=jT m sr;obtain rfl:=jT n sr;obtain rfl:=jT o st;obtain rfl:=jT p st;obtain rfl:=jT g sn;obtain rfl:=jT i sn;obtain rfl:=jT d sm;obtain rfl:=jT f sm;exact⟨_,_,_,_,ab,st,sn,sm,⟨sr,sb,id,id⟩,rt,rn,rm,rr,λe=>F e.symm,λe=>G e.symm,λe=>n6 e.symm,C,D,E⟩
end Go.Proofs.YtfnpmncplaibiaaGreatDoor
end
end
