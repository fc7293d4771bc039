import Derived.Test.YtfnpmncplaibiaaGreatDoorWqdP6
import Derived.LaidEql
import Derived.Stop.Asserts
/- A part of the proof. -/
set_option linter.all false
set_option maxRecDepth 9999
set_option maxHeartbeats 2000000
noncomputable section
namespace Go.Proofs.YtfnpmncplaibiaaGreatDoor
open Go Go.Vc Go.Proofs
section
variable {w:World} {K:oK} {F G:oA}
theorem l2Arity_spec {o:Int} (f:K (nI (M.arity o)) w):vcall Vd #[nI o] w K:=by
 refine ze {cuts:=[(12293,[4])]} Tryz.func212 ?_;have d:∀c,M.arity o=c->K (nI c) w:=by grind
 refine zo (λu w'=>u=[.bool (decide (o=20\/o=21\/o=24))]/\w'=w) (λC e=>?_) ?_
 .refine oZ ?_;refine zb (λa=>?_) (λa=>?_)
  .grind
  refine zb (λb=>?_) (λb=>?_)
  .grind
  grind
 .rintro u g w1 ⟨rfl,rfl⟩;simp only[push_cast]
  repeat' first
   |exact d _ (by
    unfold M.arity;repeat' split
    all_goals omega)
   |refine zb (λ_=>?_) (λ_=>?_)
theorem l2Plain_spec {v:Value} {t:M.Tm} (x:TermR F w v t) (n:∀w',Ext w w'->K (.bool (M.formed t)) w'):vcall Vb #[v] w K:=by
 refine ze {cuts:=[(8195,[]),(16389,[])]} Tryz.func147 ?_;obtain⟨ksv,rfl,m⟩:=x;refine zj λb1 w1 p f r j=>?_;have y:=n _ f;have k:M.plainM t=false->K (.bool false) w1:=λh=>by
  simp_all[M.formed]
 unfold M.plainM at k;refine zo (λu w'=>u=[]/\w'=w1/\(decide (t.op=21)||decide (t.s=M.nada))=true) (λC o=>?_) ?_
 .simp only[push_cast,j.ld0,j.ld3];refine zb (λa=>?_) (λa=>?_)
  .refine zb (λb=>?_) (λb=>?_)
   .grind [M.nada]
   grind [M.nada]
  grind
 rintro u g w2 ⟨rfl,rfl,q⟩;rw[q,PK] at k;refine zo (λu w'=>u=[]/\w'=w2/\(decide (t.op=20)||decide (t.op=22)||(decide (t.a=0)&&decide (t.b=0)))=true) (λC o=>?_) ?_
 .simp only[push_cast,j.ld0,j.ld1,j.ld2];refine zb (λa=>?_) (λa=>?_)
  .refine zb (λb=>?_) (λb=>?_)
   .refine zb (λc=>?_) (λc=>?_)
    .grind
    grind [zb]
   grind
  grind
 rintro u g z ⟨rfl,rfl,hm⟩;refine zd λA i _=>?_;have l:=j.ext i;have d:=m.ext (f.trans i);simp only[push_cast,l.ld0,l.ld4,d.len,y1];refine l2Arity_spec ?_;simp only[push_cast,l.ld4,d.len,y1,V1];have:=n _ (f.trans i);have e:M.formed t=decide ((t.ks.length:Int)=M.arity t.op):=by
  unfold M.formed M.plainM
  grind
 grind
theorem l2One_spec {v:Value} {t:M.Tm} {a:Int} (n:TermR F w v t) (q: -1<=a/\a<=4) (p:∀w',Ext w w'->K (nI (M.oneM t a)) w'):vcall zU0 #[v,nI a] w K:=by
 refine ze {cuts:=[(8194,[5]),(16388,[13]),(28679,[40])]} Tryz.func148 ?_;obtain⟨ksv,rfl,l⟩:=n;refine zj λb1 w1 i j m f=>?_;have k:∀c,M.oneM t a=c->K (nI c) w1:=by grind
 unfold M.oneM at k;refine zo (λu w'=>u=[.bool (decide (t.op=25/\a=0))]/\w'=w1) (λC h=>?_) ?_
 .simp only[push_cast,f.ld0]
  grind [zb]
 rintro u g w2 ⟨rfl,rfl⟩;refine oZ ?_;refine zb (λb=>?_) (λb=>?_)
 .grind
 refine zo (λu w'=>u=[.bool (decide (t.op=25\/a<1))]/\w'=w2) (λC h=>?_) ?_
 .simp only[push_cast,f.ld0]
  grind [zb]
 rintro u g o ⟨rfl,rfl⟩;refine oZ ?_;refine zb (λc=>?_) (λc=>?_)
 .grind
 simp only[push_cast,f.ld0];refine zb (λd=>?_) (λd=>?_)
 .refine zo (λu w'=>u=[.bool (decide (0<=t.b/\t.b<=t.a/\t.a<a))]/\w'=o) (λC h=>?_) ?_
  .simp only[push_cast,f.ld1,f.ld2]
   grind [zb]
  rintro u g r ⟨rfl,rfl⟩;refine oZ ?_;refine zb (λe=>?_) (λe=>?_)
  .simp only[push_cast,f.ld1,f.ld2]
   grind [zk]
  grind
 grind
theorem l2Both_spec {o a b:Int} (j: -1<=a/\a<=4) (h: -1<=b/\b<=4) (i:K (nI (M.bothM o a b)) w):vcall WZ #[nI o,nI a,nI b] w K:=by
 refine ze {cuts:=[(12291,[8]),(24582,[21])]} Tryz.func149 ?_;have d:∀c,M.bothM o a b=c->K (nI c) w:=by grind
 unfold M.bothM at d;refine zo (λu w'=>u=[.bool (decide (o=26\/o=27))]/\w'=w) (λC f=>?_) ?_
 .simp only[push_cast]
  grind [zb]
 rintro u g w2 ⟨rfl,rfl⟩;refine oZ ?_;refine zb (λc=>?_) (λc=>?_)
 .grind [zb]
 refine zo (λu w'=>u=[.bool (decide (a<1\/b<1))]/\w'=w2) (λC f=>?_) ?_
 .grind [zb]
 rintro u g k ⟨rfl,rfl⟩;have e:IntKind.i64.wrap (a+b)=a+b:=zk oM oM;simp only[push_cast,e]
 repeat' first
  |exact d _ (by
   repeat' split
   all_goals omega)
  |refine zb (λ_=>?_) (λ_=>?_)
theorem l2Sort_spec:∀(t:M.Tm) {w:World} {K:oK} {F G:oA} {dv v:Value} {ds:List M.Dcl},DclsR F w dv ds->M.declOk ds=true->TermR G w v t->(∀w',Ext w w'->K (nI (M.sortM ds t)) w')->vcall WV #[dv,v] w K:=by
 refine M.Tm.ind λt Q w K F G dv v ds I f X hK=>?_;refine ze {} Tryz.func107 ?_;obtain⟨ksv,rfl,l⟩:=X;refine zj λb1 w1 T q V R=>?_;have y:∀c w',M.sortM ds t=c->Ext w w'->K (nI c) w':=by grind
 rw[R.ldAgg (t:=za) zc];refine l2Plain_spec (F:=G) (t:=t) ⟨ksv,rfl,l.ext q⟩ λw2 r=>?_;have p:=q.trans r;have n:=R.ext r;refine oZ ?_;refine zn (λa=>?_) (λa=>?_)
 .grind [M.sort_bad]
 have x:M.formed t=true:=by simpa using a
 have S:=(M.formed_iff.1 x).1;have j:=I.ext p;simp only[push_cast,n.ld0];refine zb (λC=>?_) (λC=>?_)
 .have B:t.ks.length=0:=(by grind [M.arity]);have hs:=M.sort_leaf (ds:=ds) x B;simp only[push_cast,n.ld1,n.ld2];refine spec_VecOk_spec λw3 e=>?_;have o:=n.ext e;refine zn (λb=>?_) (λb=>?_)
  .simp only[push_cast,o.ld1];exact y _ _ (by simp_all[M.sortK]) (p.trans e)
  .exact y _ _ (by simp_all[M.sortK]) (p.trans e)
 refine zb (λD=>?_) (λD=>?_)
 .have B:t.ks.length=0:=(by grind [M.arity]);have hs:=M.sort_leaf (ds:=ds) x B;have U:=M.findD_lt ds t.s;simp only[push_cast,n.ld3];refine l2Find_spec j ?_
  try simp only[push_cast]
  refine zb (λb=>?_) (λb=>?_)
  .grind [M.sortK]
  .try simp(disch:=exact oS) only[push_cast,j.iaddr]
   try simp(disch:=exact oS) only[push_cast,j.load1]
   grind [M.sortK]
 refine zb (λE=>?_) (λE=>?_)
 .have B:t.ks.length=0:=(by grind [M.arity]);simp_all[M.sort_leaf,M.sortK]
 have hlen:t.ks.length=1\/t.ks.length=2\/t.ks.length=3:=by
  grind [M.arity]
 have m:=l.ext p;simp(disch:=exact oS) only[push_cast,n.ld4,m.iaddr];refine m.load zc oM λx0 L=>?_;refine Q (M.kid t 0) (M.kid_mem oM) j f L λw3 e=>?_;have o:=n.ext e;have h:=p.trans e;have d:=l.ext h;have A:=M.sort_range f (M.kid t 0);simp(disch:=exact oS) only[push_cast,o.ld4,d.len];refine zb (λY=>?_) (λY=>?_)
 .rw[o.ldAgg (t:=za) zc];refine l2One_spec (F:=G) (t:=t) ⟨ksv,rfl,d⟩ A λw4 k=>?_;exact y _ _ (M.sort_one f x oM) (h.trans k)
 simp(disch:=exact oS) only[push_cast,o.ld4,d.iaddr];refine d.load zc oM λx1 N=>?_;refine Q (M.kid t 1) (M.kid_mem oM) (I.ext h) f N λw4 k=>?_;have H:=o.ext k;have i:=h.trans k;have g:=l.ext i;have J:=M.sort_range f (M.kid t 1);simp(disch:=exact oS) only[push_cast,H.ld4,H.ld0,g.len];refine zb (λZ=>?_) (λZ=>?_)
 .refine l2Both_spec A J ?_
  grind [M.sort_two]
 have W:=M.sort_three (ds:=ds) x oM;refine zb (λz=>?_) (λz=>?_)
 .grind
 simp(disch:=exact oS) only[push_cast,H.ld4,g.iaddr];refine g.load zc oM λx2 O=>?_;refine Q (M.kid t 2) (M.kid_mem oM) (I.ext i) f O λw5 u=>?_;refine oZ ?_;refine zb (λz2=>?_) (λz2=>?_)
 .exact y _ _ oM (i.trans u)
 .exact y _ _ oM (i.trans u)
def kq (ds:List M.Dcl):Prop:=∀i,i<ds.length->(ds.getD i xC0).1.size<=9223372036854775807
theorem spec_TermSort_spec {dv v:Value} {ds:List M.Dcl} {t:M.Tm} (n:kq ds) (p:DclsR F w dv ds) (x:TermR G w v t) (o:∀w',Ext w w'->K (nI (M.tsort ds t)) w'):vcall JS #[dv,v] w K:=by
 refine ze {} Tryz.func69 ?_;obtain⟨cs,rfl,e⟩:=x.cells;refine zj λb1 w1 s g u k=>?_;rw[k.ldAgg (t:=za) (by rw[zU e];exact zc)];refine spec_TermMany_spec t (e.ext g).term λw2 i=>?_;refine oZ ?_;have f:=g.trans i;refine spec_DeclOk_spec (p.ext f) n λy j=>?_;have d:=f.trans j;have m:=o y d;unfold M.tsort at m;refine oZ ?_;refine zn (λa=>?_) (λa=>?_)
 .grind
 rw[gU] at a;refine zb (λb=>?_) (λb=>?_)
 .rw[y0 (λh=>by
   have k:=M.fits_iff.1 h.1;unfold M.manyM at b
   grind)] at m
  exact m
 have q:M.fits t=true:=by
  grind [M.manyM]
 refine zb (λc=>?_) (λc=>?_)
 .unfold M.lvlM at c;rw[y3 q] at c;have:=M.fits_iff.1 q;omega
 have r:=(k.ext i).ext j;rw[r.ldAgg (t:=za) (by rw[zU e];exact zc)];refine l2Sort_spec t (p.ext d) a (e.ext d).term λz l=>?_;have:=o z (d.trans l);simp_all[M.tsort]
theorem Xe {b:Bool} (a:K (nI (M.b2i b)) w):vcall U0 #[.bool b] w K:=by
 refine ze {} Tryz.func118 ?_;refine zn (λh=>?_) (λh=>?_)<;>subst h<;>exact a
def Yn0 (H:oA) (w:World) (ev:Value) (env:oI) (t:M.Tm):Prop:=Ints H w ev env\/nnB t=true
theorem qy {H:oA} {ev:Value} {env:oI} {t:M.Tm} {w w':World} (h:Yn0 H w ev env t) (he:Ext w w'):Yn0 H w' ev env t:=h.imp (λh=>h.ext he) id
theorem jf {H:oA} {ev:Value} {env:oI} {t k:M.Tm} (h:Yn0 H w ev env t) (a:k∈t.ks):Yn0 H w ev env k:=h.imp id λh=>(nnB_iff.1 h).2 k a
theorem jW0 {H:oA} {ev:Value} {env:oI} {t:M.Tm} (h:Yn0 H w ev env t) (a:t.op=21):Ints H w ev env:=h.elim id λh=>absurd a (nnB_iff.1 h).1
def kh0 (t:M.Tm):Prop:=∀{w:World} {K:oK} {F G H:oA} {dv v ev:Value} {ds:List M.Dcl} {env:oI},DclsR F w dv ds->M.envOk ds env=true->TermR G w v t->Yn0 H w ev env t->M.sortM ds t≠ -1->(∀w',Ext w w'->K (nI (M.evalM ds env t)) w')->vcall WY #[dv,v,ev] w K
theorem l2Vec_spec {t:M.Tm} (A:kh0 t) {H:oA} {dv v ev:Value} {ds:List M.Dcl} {env:oI} (l:DclsR F w dv ds) (he:M.envOk ds env=true) (x:TermR G w v t) (z:Yn0 H w ev env t) (hs:M.sortM ds t≠ -1) (p:∀w',Ext w w'->K (qd (M.sortM ds t) (M.evalM ds env t)) w'):vcall zT0 #[dv,v,ev] w K:=by
 refine ze {} Tryz.func269 ?_;obtain⟨cs,rfl,c⟩:=x.cells;refine zj λb1 w1 q h s m=>?_;refine zi zX λb2 w2 r f u n=>?_;refine zd λC d _=>?_;have k:=(m.ext f).ext d;have b:=(h.trans f).trans d;have i:aggB za cs.length=true:=by rw[zU c];exact zc
 rw[k.ldAgg (t:=za) i];refine⟨rfl,?_⟩;rw[k.ldAgg (t:=za) i];refine⟨rfl,l2Sort_spec t (l.ext b) (M.env_ok he).1 (c.ext b).term λD e=>?_⟩;rw[(k.ext e).ldAgg (t:=za) i];have a:=b.trans e;refine⟨⟨rfl,rfl⟩,A (l.ext a) he (c.ext a).term (qy z a) hs λE g=>?_⟩;simp only[push_cast,y1];refine stVec (((n.ext d).ext e).ext g) λI j _ o=>?_;rw[o.lv rK];exact p _ (Ext.then (a.trans g) j λy B=>oM)
theorem l2Do_spec {t:M.Tm} (W:∀k,k∈t.ks->kh0 k) {H:oA} {dv v ev:Value} {ds:List M.Dcl} {env:oI} (T:DclsR F w dv ds) (he:M.envOk ds env=true) (ht:TermR G w v t) (V:Yn0 H w ev env t) (hs:M.sortM ds t≠ -1)
  (ho:(1<=t.op/\t.op<=17)\/t.op=22) (I:∀w',Ext w w'->K (nI (M.evalM ds env t)) w'):vcall x00 #[dv,v,ev] w K:=by
 refine ze {} Tryz.func223 ?_;obtain⟨ksv,rfl,z⟩:=ht;have a3:1<=t.ks.length:=by
  rcases(by omega:t.op=22\/(t.op=1\/t.op=2)\/(3<=t.op/\t.op<=14)\/(15<=t.op/\t.op<=17)) with h|h|h|h
  .have:=(M.eval_cut he hs h).1;omega
  .have:=(M.eval_un he hs h).1;omega
  .have:=(M.eval_bin he hs h.1 h.2).1;omega
  .have:=(M.eval_cmp he hs h.1 h.2).1;omega
 refine zj λb1 w1 a0 e a7 L=>?_;have j:=z.ext e;simp(disch:=exact oS) only[push_cast,L.ld4,j.iaddr];refine j.load zc oM λx0 Q=>?_;refine l2Vec_spec (W (M.kid t 0) (M.kid_mem oM)) (T.ext e) he Q (jf (qy V e) (M.kid_mem oM)) (M.good_kid hs oM) λw2 n=>?_;refine zi zX λb2 w3 a1 x a8 h3=>?_;refine stVec h3 λw4 C _ E=>?_;have aa:=e.size;have ab:=n.size;have b:Ext w w4:=Ext.then ((e.trans n).trans x) C λy p=>oM
 have a4:=L.lt;have l:=((L.ext n).ext x).same C oM;simp only[push_cast,l.ld0];refine zb (λr=>?_) (λr=>?_)
 .obtain⟨hl,hv,o⟩:=M.eval_cut he hs r;simp only[push_cast,E.ldAgg (t:=zg) zr,l.ld1,l.ld2];refine spec_VecCut_spec λY a=>?_;refine oZ ?_;refine zi zX λb3 Z u c A s=>?_;refine stVec s λD d _ q=>?_;simp only[push_cast,q.ld1];have:=I D (Ext.then ((b.trans a).trans c) d λy p=>by subst p;have:=(b.trans a).size;omega)
  grind
 have f:=z.ext b;simp only[push_cast,l.ld4,f.len];refine zb (λl1=>?_) (λl1=>?_)
 .have i:t.op=1\/t.op=2:=by
   grind [M.eval_bin,M.eval_cmp]
  obtain⟨hl,hv,o⟩:=M.eval_un he hs i;simp only[push_cast,E.ldAgg (t:=zg) zr,l.ld0];refine spec_VecUn_spec λY a=>?_;refine oZ ?_;refine zi zX λb3 Z u c A s=>?_;refine stVec s λD d _ q=>?_;simp only[push_cast,q.ld1];have:=I D (Ext.then ((b.trans a).trans c) d λy p=>by subst p;have:=(b.trans a).size;omega)
  grind
 have i:3<=t.op/\t.op<=17:=by
  grind [M.eval_un]
 have a5:t.ks.length=2:=by
  grind [M.eval_bin,M.eval_cmp]
 simp(disch:=exact oS) only[push_cast,l.ld4,f.iaddr];refine f.load zc oM λx1 R=>?_;refine l2Vec_spec (W (M.kid t 1) (M.kid_mem oM)) (T.ext b) he R (jf (qy V b) (M.kid_mem oM)) (M.good_kid hs oM) λY a=>?_;refine zi zX λb3 Z u c A s=>?_;refine stVec s λD d _ q=>?_;have ac:=b.size;have ad:=a.size;have m:Ext w D:=Ext.then ((b.trans a).trans c) d λy p=>oM
 have a6:=E.lt;have U:=l.lt;have S:=((l.ext a).ext c).same d oM;have X:=((E.ext a).ext c).same d oM;simp only[push_cast,S.ld0];refine zb (λJ=>?_) (λJ=>?_)
 .obtain⟨_,_,_,o⟩:=M.eval_cmp he hs oM i.2;simp only[push_cast,X.ldAgg (t:=zg) zr,q.ldAgg (t:=zg) zr,S.ld0];refine spec_VecCmp_spec λw8 g=>?_;refine oZ ?_;refine Xe ?_;have:=I _ (m.trans g)
  grind
 .obtain⟨_,_,_,o⟩:=M.eval_bin he hs i.1 oM;simp only[push_cast,X.ldAgg (t:=zg) zr,q.ldAgg (t:=zg) zr,S.ld0];refine spec_VecBin_spec λw8 g=>?_;refine oZ ?_;refine zi zX λb4 w9 a2 O a9 h9=>?_;refine stVec h9 λw10 B _ N=>?_;simp only[push_cast,N.ld1];have:=I w10 (Ext.then ((m.trans g).trans O) B λy p=>by subst p;have:=(m.trans g).size;omega)
  grind
theorem l2Eval_spec:∀(t:M.Tm),kh0 t:=by
 refine M.Tm.ind λt B=>?_;intro w K F G H dv v ev ds env x he ht y hs Z;refine ze {} Tryz.func169 ?_;obtain⟨ksv,rfl,n⟩:=ht;refine zj λb1 w1 a0 g a5 A=>?_;have l:=n.ext g;have I:∀c w',M.evalM ds env t=c->Ext w w'->K (nI c) w':=by grind
 have Y:=M.arity_ops (o:=t.op) (by have:=(M.formed_iff.1 (M.sort_parts hs).1).1;omega);simp only[push_cast,A.ld0];refine zb (λR=>?_) (λR=>?_)
 .simp only[push_cast,A.ld2]
  grind [M.eval_leaf]
 refine zb (λD=>?_) (λD=>?_)
 .have a4:=M.findD_lt ds t.s;have a3:=M.name_found hs D;have a2:=(M.env_ok he).2.1;have p:=(jW0 y D).ext g;simp only[push_cast,A.ld3];refine l2Find_spec (x.ext g) ?_;simp(disch:=exact oS) only[push_cast,p.iaddr,p.load]
  grind [M.eval_leaf]
 refine zb (λS=>?_) (λS=>?_)
 .grind [M.eval_leaf]
 refine zb (λN=>?_) (λN=>?_)
 .obtain⟨V,P,j⟩:=M.eval_no he hs N;simp(disch:=exact oS) only[push_cast,A.ld4,l.iaddr];refine l.load zc oM λx0 J=>?_;refine B (M.kid t 0) (M.kid_mem oM) (x.ext g) he J (jf (qy y g) (M.kid_mem oM)) (M.good_kid hs oM) λw2 h=>?_;refine oZ ?_;have a1:=M.inS_zero P;rw[zk oM oM];exact I _ _ j (g.trans h)
 refine zb (λz=>?_) (λz=>?_)
 .obtain⟨V,P,Q,j⟩:=M.eval_two he hs (.inl z);rw[y3 z] at j;refine zd λw2 h _=>?_;have C:=A.ext h;have a:=g.trans h;have f:=n.ext a;simp(disch:=exact oS) only[push_cast,C.ld4,f.iaddr,y1];obtain⟨css,m,U,q⟩:=f;rw[m.ldAgg zc (i:=0) oM];simp only[y1];rw[m.ldAgg zc (i:=1) oM];simp only[y1];refine B (M.kid t 0) (M.kid_mem oM) (x.ext a) he (q 0 oM).term (jf (qy y a) (M.kid_mem oM)) (M.good_kid hs oM) λW d=>?_;have T:=C.ext d;have r:=n.ext (a.trans d);have u:=m.ext d;simp(disch:=exact oS) only[push_cast,T.ld4,r.iaddr,y1];rw[u.ldAgg zc (i:=1) oM];refine⟨⟨rfl,rfl⟩,?_⟩
  try simp only[y1,V1]
  refine B (M.kid t 1) (M.kid_mem oM) (x.ext (a.trans d)) he ((q 1 oM).ext d).term (jf (qy y (a.trans d)) (M.kid_mem oM)) (M.good_kid hs oM) λw4 E=>?_;simp only[push_cast,y1];have e:IntKind.i64.wrap (M.evalM ds env (M.kid t 0)*M.evalM ds env (M.kid t 1))=M.evalM ds env (M.kid t 0)*M.evalM ds env (M.kid t 1):=by
   rcases M.inS_zero P with e|e<;>rcases M.inS_zero Q with X|X<;>rw[e,X]<;>rfl
  rw[e];exact I _ _ j ((a.trans d).trans E)
 refine zb (λO=>?_) (λO=>?_)
 .obtain⟨V,P,Q,j⟩:=M.eval_two he hs (.inr O);rw[y0 z] at j;refine zd λw2 h _=>?_;have C:=A.ext h;have a:=g.trans h;have f:=n.ext a;simp(disch:=exact oS) only[push_cast,C.ld4,f.iaddr,y1];obtain⟨css,m,U,q⟩:=f;rw[m.ldAgg zc (i:=0) oM];simp only[y1];rw[m.ldAgg zc (i:=1) oM];simp only[y1];refine B (M.kid t 0) (M.kid_mem oM) (x.ext a) he (q 0 oM).term (jf (qy y a) (M.kid_mem oM)) (M.good_kid hs oM) λW d=>?_;have T:=C.ext d;have r:=n.ext (a.trans d);have u:=m.ext d;simp(disch:=exact oS) only[push_cast,T.ld4,r.iaddr,y1];rw[u.ldAgg zc (i:=1) oM];refine⟨⟨rfl,rfl⟩,?_⟩
  try simp only[y1,V1]
  refine B (M.kid t 1) (M.kid_mem oM) (x.ext (a.trans d)) he ((q 1 oM).ext d).term (jf (qy y (a.trans d)) (M.kid_mem oM)) (M.good_kid hs oM) λw4 E=>?_;refine l1Max_spec ?_;exact I _ _ j ((a.trans d).trans E)
 refine zb (λL=>?_) (λL=>?_)
 .obtain⟨V,P,j⟩:=M.eval_if he hs L;simp(disch:=exact oS) only[push_cast,A.ld4,l.iaddr];refine l.load zc oM λx0 J=>?_;refine B (M.kid t 0) (M.kid_mem oM) (x.ext g) he J (jf (qy y g) (M.kid_mem oM)) (M.good_kid hs oM) λw2 h=>?_;have C:=A.ext h;have a:=g.trans h;have f:=n.ext a;refine oZ ?_;refine zb (λb=>?_) (λb=>?_)
  .rw[y3 b] at j;simp(disch:=exact oS) only[push_cast,C.ld4,f.iaddr];refine f.load zc oM λx1 p=>?_;refine B (M.kid t 1) (M.kid_mem oM) (x.ext a) he p (jf (qy y a) (M.kid_mem oM)) (M.good_kid hs oM) λW d=>?_;exact I _ _ j (a.trans d)
  .rw[y0 b] at j;simp(disch:=exact oS) only[push_cast,C.ld4,f.iaddr];refine f.load zc oM λx1 p=>?_;refine B (M.kid t 2) (M.kid_mem oM) (x.ext a) he p (jf (qy y a) (M.kid_mem oM)) (M.good_kid hs oM) λW d=>?_;exact I _ _ j (a.trans d)
 .rw[A.ldAgg (t:=za) zc];refine l2Do_spec (G:=G) (t:=t) (λk I=>B k I) (x.ext g) he ⟨ksv,rfl,l⟩ (qy y g) hs oM λw2 h=>?_;exact Z _ (g.trans h)
end
section
variable {w:World} {K:oK}
abbrev OwnD (w:World) (v:Value) (ds:List M.Dcl):Prop:=Own 0 2 yo w v (ds.map λd=>[.string d.1,nI d.2])
theorem OwnD.dcls {v:Value} {ds:List M.Dcl} (h:OwnD w v ds):DclsR (λb=>v.ownBlock=some b) w v ds:=Own.sl h
@[push_cast] theorem bd_T3 (o a b:Int):yr za [(0,nI o),(1,nI a),(2,nI b)] w K=K (.agg ⟨[nI o,nI a,nI b,.string ⟨#[]⟩,oN]⟩) w:=zS j8 (us:=[[nI o],[nI a],[nI b]]) rfl rfl
@[push_cast] theorem bd_T1 (o:Int):yr za [(0,nI o)] w K=K (.agg ⟨[nI o,nI 0,nI 0,.string ⟨#[]⟩,oN]⟩) w:=zS j8 (us:=[[nI o]]) rfl rfl
@[push_cast] theorem bd_Tk (o:Int) (a:Option Addr) (l c:Nat):yr za [(0,nI o),(4,.slice a l c)] w K=K (.agg ⟨[nI o,nI 0,nI 0,.string ⟨#[]⟩,.slice a l c]⟩) w:=zS j8 (us:=[[nI o],[.slice a l c]]) rfl rfl
theorem qr {b:Nat} {cs cs':List Value} {t:TypeId} {G:oA} {f:M.Tm} (h:Blk w b cs t) (k:cs.length=5) (c:TmR G w cs' f) (i:∀x,G x->x≠b) (j:∀w',Same (· =b) w w'->w'.heap.size=w.heap.size->TermR G w' (.agg ⟨cs'⟩) f->K (.agg ⟨cs'⟩) w'):
  zT za (oP b 0) (.agg ⟨cs'⟩) w λ_ w1=>vlv za (oP b 0) w1 λr w2=>K r w2:=by
 refine stTerm h k c λw' a d g=>?_;rw[g.lv (by rw[zU c];exact zc)];exact j w' a d (c.same a λx l _ e=>i x l e).term
theorem yb0 {G:oA} (o a b:Int) (s:ByteArray):TmR G w [nI o,nI a,nI b,.string s,oN] (.mk o a b s []):=TmR.of (t:= .mk o a b s []) TmsR.nil
end
section
variable {w:World} {K:oK} {G:oA}
theorem kidsL {css:List (List Value)} {ts:List M.Tm} (l:css.length=ts.length) (n:css.length<=100) (h:∀i,i<ts.length->TmR G w (css.getD i []) (ts.getD i default))
  (j:∀w' a,Ext w w'->w'.heap.size=w.heap.size+1->TmsR (λz=>G z\/z=w.heap.size) w' (.slice a css.length css.length) ts->K (.slice a css.length css.length) w'):
  vbuildS zl (css.map λc=>Value.agg ⟨c⟩).length ((css.map λc=>Value.agg ⟨c⟩).zipIdx.map λp=>(p.2,p.1)) w K:=by
 have d:∀u,u∈css->u.length=5:=λu hu=>by
  obtain⟨i,hi,rfl⟩:=gn hu;have:=zU (h i oM);rwa[y2,V0 hi] at this
 refine vbuildS_row (us:=css) (k:=5) qf qz zq (by rw[G7];rfl) d (by rw[y4];omega) λb w' o he hs g=>?_;rw[y4];refine j w' _ he hs ⟨css,?_,l,λi hi=>((h i hi).ext he).weaken λx f _=> .inl f⟩;have m:Own 0 5 zl w' (.slice (some ⟨b,0,none⟩) css.length css.length) css:=Blk.ownk (by rw[jP];exact g) d rfl oM;exact m.sl.weaken λx f _=> .inr (by have e:x=b:=(K3 f).symm;omega)
theorem XB0 {v0:Value} {t0:M.Tm} (b:TermR G w v0 t0) (c:∀w' a,Ext w w'->w'.heap.size=w.heap.size+1->TmsR (λz=>G z\/z=w.heap.size) w' (.slice a 1 1) [t0]->K (.slice a 1 1) w'):vbuildS zl 1 [(0,v0)] w K:=by
 obtain⟨c0,rfl,d⟩:=b.cells;refine kidsL (css:=[c0]) (ts:=[t0]) rfl (by simp) (λi hi=>?_) c;have:i=0:=by simpa using hi
 subst this;exact d
theorem kids2 {v0 v1:Value} {t0 t1:M.Tm} (b:TermR G w v0 t0) (c:TermR G w v1 t1) (d:∀w' a,Ext w w'->w'.heap.size=w.heap.size+1->TmsR (λz=>G z\/z=w.heap.size) w' (.slice a 2 2) [t0,t1]->K (.slice a 2 2) w'):vbuildS zl 2 [(0,v0),(1,v1)] w K:=by
 obtain⟨c0,rfl,e⟩:=b.cells;obtain⟨c1,rfl,f⟩:=c.cells;refine kidsL (css:=[c0,c1]) (ts:=[t0,t1]) rfl (by simp) (λi hi=>?_) d
 match i,hi with
 |0,_=>exact e
 |1,_=>exact f
abbrev zj0:List Value:=[nI 0,nI 0,nI 0,.string ⟨#[]⟩,.slice none 0 0]
end
theorem dtSize {ds:List M.Dcl} {t:M.Tm}:M.tsort ds t= -1\/(0<=M.tsort ds t/\M.tsort ds t<=4/\M.tsort ds t=M.sortM ds t/\M.fits t=true/\M.declOk ds=true):=by
 unfold M.tsort;split
 .rename_i h;have:=M.sort_range h.2 t;by_cases e:M.sortM ds t= -1
  .exact .inl e
  .exact .inr ⟨oM,oM,rfl,h.1,h.2⟩
 .exact .inl rfl
section
variable {w:World} {F:oA}
abbrev Zh0 (o:Int) (ks:List M.Tm):M.Tm:= .mk o 0 0 M.nada ks
theorem JL {o:Int} {a:Option Addr} {l c:Nat} {ks:List M.Tm} (h:TmsR F w (.slice a l c) ks):TermR F w (.agg ⟨[nI o,nI 0,nI 0,.string ⟨#[]⟩,.slice a l c]⟩) (Zh0 o ks):=⟨_,rfl,h⟩
theorem Xy {o:Int}:TermR F w (.agg ⟨[nI o,nI 0,nI 0,.string ⟨#[]⟩,oN]⟩) (Zh0 o []):=JL TmsR.nil
end
section
variable {w:World} {K:oK} {F D G:oA}
theorem flatten_setEl {k:Nat}:∀{xs:List (List Value)} (_:∀x,x∈xs->x.length=k) {i:Nat} {y:List Value},y.length=k->i<xs.length->(xs.set i y).flatten=xs.flatten.take (i*k)++y++xs.flatten.drop (i*k+k)
 |[],_,i,y,_,hi=>by simp at hi
 |x::r,h,i,y,c,hi=>by
  have e:=h x gi;cases i with
  |zero=>
   simp only[pb,GL,PN,pt,Gg,gX];rw[List.drop_append,PO oM,Gg,show k-x.length=0 by omega,PC]
  |succ i=>
   simp only[Pz,GL];have a:(i+1)*k=x.length+i*k:=by rw[GZ];omega
   have b:x.length+i*k+k=x.length+(i*k+k):=oM;rw[flatten_setEl (λz d=>h z (gm _ d)) c (by simpa using hi),a,b,List.take_length_add_append,List.drop_length_add_append];simp only[Gf]
set_option maxRecDepth 100000 in
theorem own_stEl {v:Value} {k:Nat} {t e:TypeId} {xs:List (List Value)} {y:List Value} (h:Own 0 k t w v xs) (J:0<k) (n:y.length=k) (B:∀c,c∈y->c.oneCell'=true) (u:aggB e k=true) {i:Nat} (hi:i<xs.length)
  (C:∀w',Own 0 k t w' v (xs.set i y)->Same (λb=>v.ownBlock=some b) w w'->w'.heap.size=w.heap.size->K undef w'):zT e (oE (eaddr v k i)) (.agg ⟨y⟩) w K:=by
 have E:=flatten_len h.wide;rcases h.row with⟨H,s⟩;rcases s with⟨rfl,L⟩|⟨g,cap,cur,rfl,o,x,j,p,r,f⟩
 .omega
 .have F:i*k+k<=xs.length*k:=by rw[<-Nat.succ_mul];exact pP _ hi
  have G:xs.length*k<=cap*k:=pP _ j;have d:=run_storeCells_at (P:=P) g (i*k) (Zx t) y 0 cur w x oM B;have he:eaddr (.slice (some ⟨g,0,none⟩) xs.length cap) k i=⟨g,i*k,none⟩:=by
   simp only[eaddr,gX]
  rw[he];have D:cur.toList.length=cap*k:=(by simpa using r);have m:(cur.toList.take (i*k+0)++y++cur.toList.drop (i*k+0+y.length)).toArray.size=cap*k:=by
   simp only[G2,q0,gh,GU];omega
  have a:(cur.toList.take (i*k+0)++y++cur.toList.drop (i*k+0+y.length)).toArray.toList.take (xs.length*k)=(xs.set i y).flatten:=by
   rw[flatten_setEl h.wide n hi,<-f,n];simp only[GW];have I:(cur.toList.take (i*k)).length=i*k:=by rw[gh];omega
   rw[List.take_append,List.take_append,gC (l:=List.take (i*k) cur.toList) oM,gC (l:=y) oM,pw,GG oM,List.drop_take];congr 2;rw[q0,gh];omega
  refine⟨(),_,?_,C (w.setRow g (cur.toList.take (i*k+0)++y++cur.toList.drop (i*k+0+y.length)).toArray) ⟨?_,?_⟩ ⟨rfl,rfl,rfl,by simp,λq _ A=>setRow_other w g q _ (λe=>A (by rw[e];rfl))⟩ (by simp)⟩
  .simp only[Instr.storeAt,Instr.sureAddr,Sem.run_bind,Sem.run_pure,Result.andThen_ok,storeVar,ja u,Value.cells];simp only[G2,n,PY,not_true_eq_false,if_false];rw[n] at d;exact d
  .rw[gK];refine⟨?_,.inr ⟨g,cap,_,rfl,o,setRow_heap w g _ _ _ _ x,j,p,m,a⟩⟩;rw[<-a,gh];have:=m;simp only[G2] at this;simp only[List.toList_toArray,this];omega
  .intro z u;obtain⟨q,A,rfl⟩:=gn u;rw[pB];split
   .exact n
   .exact h.wide _ (G9 _)
end
section
variable {w:World} {K:oK} {F D G:oA}
theorem getD_set {α:Type} {xs:List α} {i j:Nat} {x d:α} (hi:i<xs.length):(xs.set i x).getD j d=if i=j then x else xs.getD j d:=by
 simp only[y2,Pb];by_cases e:i=j
 .subst e;simp[hi]
 .simp[e]
theorem ints_small {v:Value} {xs:oI} (h:Ints F w v xs):xs.length<=9223372036854775807:=by
 obtain⟨_,_,_,a,b,_⟩:=h.shape;simp at a;omega
theorem vmkS_agg {bs n k:Nat} {t:TypeId} {cs:List Value} {z A:IntKind} (C:elZ t k bs=true) (G:0<k) (g:yg (Zx t) (.agg ⟨cs⟩)) (m:bs*n<=281474976710656) (o:n<=9223372036854775807)
  (B:∀v' w',Own 0 k t w' v' (List.replicate n cs)->Ext w w'->(∀b,v'.ownBlock=some b->w.heap.size<=b)->K v' w'):vmkS t (.int z n) (.int A n) w K:=by
 obtain⟨hu,i,J,hi,f,u,p,v⟩:=yn0 C;have:J= .agg ⟨cs⟩:=by
  unfold yg at g;rw[hi] at g;simp only[f,Gp] at g;exact g
 subst this;subst p;have c:cs.length=k:=v;obtain⟨w',H,a,r⟩:=run_make_full (P:=P) w 0 t (Zx t) i _ k hu hi f u z A n m (by simpa[maxLen] using o) oM;have hw:∀x,x∈List.replicate n cs->x.length=k:=λx I=>by rw[GX I];exact c
 refine⟨_,w',H,B _ w' ⟨?_,hw⟩ ((Same.of_grown r).mono λ_ _ h=>by cases h) λb D=>by cases D;exact gp _⟩;have e:(madeCells (Value.agg ⟨cs⟩).cells (n*k)).toList=(List.replicate n cs).flatten:=by
  refine gL (by rw[flatten_len hw];simp[madeCells]) λj L l=>?_;have F:j<n*k:=by rw[flatten_len hw,gD] at l;exact l
  have y:j/k<n:=Nat.div_lt_of_lt_mul (by rw[Nat.mul_comm];exact F);have d:=p0 j G;have q:=flatten_get hw (i:=j/k) (j:=j%k) (by simpa using y) d;have s:j/k*k+j%k=j:=by rw[Nat.mul_comm];exact Nat.div_add_mod j k
  rw[s,V0 l] at q;have E:(List.replicate n cs).getD (j/k) []=cs:=(by simp[y2,y]);rw[E,V0 oM] at q;rw[K3 q];simp[madeCells,Value.cells,c,d]
 rw[gD];rw[e] at a;exact a
theorem tmR_one {cs:List Value} {t:M.Tm} (h:TmR F w cs t):∀c,c∈cs->c.oneCell'=true:=λc e=>by
 obtain⟨f,rfl,d,b,_⟩:=h.inv;obtain⟨a,l,rfl,_⟩:=b.shape;simp only[gg,gx,Ge] at e;rcases e with rfl|rfl|rfl|rfl|rfl<;>rfl
def x60:M.Tm->Bool:=M.Tm.fold λt xs=>decide (t.ks.length<=1048576)&&xs.all id
theorem YN0 (t:M.Tm):x60 t=(decide (t.ks.length<=1048576)&&(t.ks.map x60).all id):=M.Tm.fold_eq _ t
theorem fitB_iff {t:M.Tm}:x60 t=true↔t.ks.length<=1048576/\∀k,k∈t.ks->x60 k=true:=by
 rw[YN0,gd,X0,Gb];refine PW λ_=>⟨λh k a=>h _ (Ga a),λh y b=>?_⟩;obtain⟨k,a,rfl⟩:=gr.1 b;exact h k a
end
end Go.Proofs.YtfnpmncplaibiaaGreatDoor
section
namespace Go.M
def vecL (w n:Nat):List UInt8:=35::(List.range w).reverse.map λi=>if n/2^i%2=1 then 49 else 48
def digL (n:Int):List UInt8:=[UInt8.ofNat (48+n.toNat)]
def textF (t:Tm) (xs:List (List UInt8)):List UInt8:=
 if t.op=20 then vecL t.a.toNat t.b.toNat else if t.op=21 then t.s.data.toList else if t.op=24 then[116,114,117,101]
 else 40::(wordL t.op++((if t.op=22 then 32::(digL t.a++32::digL t.b) else[])++(xs.flatMap (λx=>32::x)++[41])))
def textL:Tm->List UInt8:=Tm.fold textF
theorem textL_eq (t:Tm):textL t=textF t (t.ks.map textL):=Tm.fold_eq _ t
def Stop (r:List UInt8):Prop:=∀c,r.head?=some c->c=32\/c=41
def Free (a:List UInt8):Prop:=∀c,c∈a->c≠32/\c≠41
theorem atom_cancel:∀{a b r s:List UInt8},Free a->Free b->Stop r->Stop s->a++r=b++s->a=b/\r=s
 |[],[],r,s,_,_,_,_,h=>⟨rfl,h⟩
 |[],y::b,r,s,_,g,j,_,h=>by
  have d:r=y::(b++s):=h;have k:=g y gi;rcases j y (by grind) with e|e
  .grind
  grind
 |x::a,[],r,s,f,_,_,hs,h=>by
  have d:s=x::(a++r):=h.symm;have k:=f x gi;rcases hs x (by grind) with e|e
  .grind
  grind
 |x::a,y::b,r,s,f,g,j,hs,h=>by
  have d:x::(a++r)=y::(b++s):=h;simp only[gP] at d;obtain⟨rfl,d⟩:=d;obtain⟨rfl,e⟩:=atom_cancel (λc i=>f c (gm _ i)) (λc i=>g c (gm _ i)) j hs d
  grind
theorem stop_cons {c:UInt8} {r:List UInt8} (h:c=32\/c=41):Stop (c::r):=λd a=>by
 grind
theorem word_free:∀o:Fin 28,Free (wordL o):=by unfold Free;decide+kernel
theorem word_inj:∀o p:Fin 28,wordL o=wordL p->wordL o≠[]->o=p:=by decide+kernel
theorem word_ne:∀o:Fin 28,1<=o.1->(o.1<=17\/o.1=22\/o.1=23\/25<=o.1)->wordL o≠[]:=by decide+kernel
theorem vec_inj:∀w:Fin 5,∀a:Fin 16,∀v:Fin 5,∀b:Fin 16,a.1<2^w.1->b.1<2^v.1->vecL w a=vecL v b->w=v/\a=b:=by decide+kernel
theorem vec_free (w n:Nat):Free (vecL w n):=λc a=>by
 grind [vecL]
theorem dig_inj:∀a b:Fin 4,digL a=digL b->a=b:=by decide+kernel
theorem dig_free:∀a:Fin 4,Free (digL a):=by unfold Free;decide+kernel
section
variable {ds:List Dcl} {t u:Tm}
theorem name_ok (d:declOk ds=true) (hs:sortM ds t≠ -1) (i:t.op=21):t.s.data.toList≠[]/\t.s≠tru/\∀c,c∈t.s.data.toList->97<=c.toNat/\c.toNat<=122:=by
 have f:=name_found hs i;have h:(findD ds t.s).toNat<ds.length:=by have:=(findD_lt ds t.s).2;omega
 have g:=findD_get f;have a:=(decl_iff.1 d).2.1 _ h;unfold dclOk at a;rw[g] at a;simp only[gd,X0,nameOk] at a;obtain⟨⟨⟨⟨⟨⟨j,k⟩,b⟩,l⟩,_⟩,_⟩,_⟩:=a;refine⟨λe=>?_,b,λc m=>?_⟩
 .have:t.s.size=0:=by show t.s.data.size=0;simp_all
  omega
 grind [Array.all_eq_true']
theorem right_op (hs:sortM ds t≠ -1):arity t.op=t.ks.length/\plainM t=true/\((1<=t.op/\t.op<=17)\/(20<=t.op/\t.op<=27)):=by
 obtain⟨a,_,_⟩:=sort_parts hs;simp_all[formed_iff,arity_ops]
theorem leaf_arity {o:Int} (h:o=20\/o=21\/o=24):arity o=0:=by unfold arity;omega
theorem node_arity {o:Int} (h:(1<=o/\o<=17)\/(20<=o/\o<=27)) (a: ¬(o=20\/o=21\/o=24)):1<=arity o:=by
 grind [arity]
theorem vec_ok (hs:sortM ds t≠ -1) (c:t.op=20):vok t.a t.b=true:=by
 have h:=(sort_parts hs).2.2
 grind [sortK]
theorem cut_ab (c:declOk ds=true) (hs:sortM ds t≠ -1) (d:t.op=22):0<=t.b/\t.b<=t.a/\t.a<4:=by
 have h:=(sort_parts hs).2.2;have e:(t.ks.map (sortM ds)).getD 0 0<=4:=by
  by_cases hi:0<t.ks.length
  .simp_all[sort_range]
  grind
 grind [sortK]
theorem atom_text (f:declOk ds=true) (hs:sortM ds t≠ -1) (h:t.op=20\/t.op=21\/t.op=24):textL t=textF t []/\Free (textL t)/\textL t≠[]/\∀c,(textL t).head?=some c->c≠40:=by
 have g:t.ks=[]:=by grind [List.eq_nil_of_length_eq_zero,right_op,leaf_arity]
 have e:textL t=textF t []:=by rw[textL_eq,g];rfl
 refine⟨e,?_⟩;rw[e];unfold textF;rcases h with o|o|o
 .rw[y3 o]
  grind [vec_free,vecL]
 .rw[y0 oM,y3 o];obtain⟨d,i,b⟩:=name_ok f hs o;refine⟨λc a=>?_,d,λc a=>?_⟩
  .have:=b c a;exact⟨λe=>by simp_all,λe=>by simp_all⟩
  .have:=b c (List.mem_of_mem_head? a);intro e;simp_all
 grind [Free]
theorem tm_extT {t u:Tm} (c:t.op=u.op) (d:t.a=u.a) (e:t.b=u.b) (f:t.s=u.s) (g:t.ks=u.ks):t=u:=by
 cases t;cases u
 grind [Tm.op,Tm.a,Tm.b,Tm.s,Tm.ks]
theorem plain_ab (h:plainM t=true) (c:t.op≠20/\t.op≠22):t.a=0/\t.b=0:=by
 grind [plainM]
theorem plain_s (h:plainM t=true) (a:t.op≠21):t.s=nada:=by
 grind [plainM]
theorem atom_inj (g:declOk ds=true) (hs:sortM ds t≠ -1) (hu:sortM ds u≠ -1) (l:t.op=20\/t.op=21\/t.op=24) (m:u.op=20\/u.op=21\/u.op=24) (h:textL t=textL u):t=u:=by
 have x:t.ks=[]:=by grind [List.eq_nil_of_length_eq_zero,right_op,leaf_arity]
 have n:u.ks=[]:=by grind [List.eq_nil_of_length_eq_zero,right_op,leaf_arity]
 have j:=(right_op hs).2.1;have d:=(right_op hu).2.1;rw[(atom_text g hs l).1,(atom_text g hu m).1] at h;unfold textF at h;have letter:∀{v:Tm},sortM ds v≠ -1->v.op=21->∀c r,v.s.data.toList=c::r->97<=c.toNat:=by grind [name_ok,List.mem_cons_self]
 have notrue:∀{v:Tm},sortM ds v≠ -1->v.op=21->v.s.data.toList=[116,114,117,101]->False:=λ{v} q i e=>(name_ok g q i).2.1 (by
  have:v.s.data= #[116,114,117,101]:=(by grind);show v.s=tru;have f:v.s=⟨v.s.data⟩:=rfl;rw[f,this];rfl)
 rcases l with o|o|o<;>rcases m with p|p|p
 .rw[y3 o,y3 p] at h;have v1:=vok_lt (vec_ok hs o);have v2:=vok_lt (vec_ok hu p);have w1:=vok_iff.1 (vec_ok hs o);have w2:=vok_iff.1 (vec_ok hu p);have k:((2^t.a.toNat:Nat):Int)=2^t.a.toNat:=(by simp);have f:((2^u.a.toNat:Nat):Int)=2^u.a.toNat:=(by simp);have:=vec_inj ⟨t.a.toNat,oM⟩ ⟨t.b.toNat,oM⟩ ⟨u.a.toNat,oM⟩ ⟨u.b.toNat,oM⟩ (by grind) (by grind) h
  grind [tm_extT,plain_s]
 .rw[y3 o,y0 oM,y3 p] at h;exact absurd (letter hu p 35 _ h.symm) dC
 .grind [vecL]
 .rw[y0 oM,y3 o,y3 p] at h;exact absurd (letter hs o 35 _ h) dC
 .rw[y0 oM,y3 o,y0 oM,y3 p] at h;obtain⟨w,b1⟩:=plain_ab j oM;obtain⟨a2,b2⟩:=plain_ab d oM;refine tm_extT oM oM oM ?_ (by grind);have:=GI.1 h;have k:t.s=⟨t.s.data⟩:=rfl;have f:u.s=⟨u.s.data⟩:=rfl;rw[k,f,this]
 .grind
 .grind [vecL]
 .grind
 grind [plain_ab,tm_extT,plain_s]
theorem kids_inj:∀{ks us:List Tm} {r s:List UInt8},ks.length=us.length->(∀k,k∈ks->∀u,u∈us->∀r s,Stop r->Stop s->textL k++r=textL u++s->k=u/\r=s)->
  (ks.map textL).flatMap (λx=>32::x)++41::r=(us.map textL).flatMap (λx=>32::x)++41::s->ks=us/\r=s
 |[],[],r,s,_,_,h=>by
  grind
 |[],_::_,_,_,b,_,_=>by simp at b
 |_::_,[],_,_,b,_,_=>by simp at b
 |k::ks,u::us,r,s,b,c,h=>by
  simp only[GA,List.flatMap_cons,Gz,Gf,gP,y1] at h;have st:∀(l:List Tm) (r:List UInt8),Stop ((l.map textL).flatMap (λx=>32::x)++41::r):=λl r=>by
   cases l with
   |nil=>exact stop_cons (.inr rfl)
   |cons a l=>exact stop_cons (.inl rfl)
  obtain⟨he,h⟩:=c k gi u gi _ _ (st _ _) (st _ _) h;obtain⟨rfl,e⟩:=kids_inj (by grind) (λk d u hu=>c k (gm _ d) u (gm _ hu)) h
  grind
theorem text_inj' (i:declOk ds=true):∀t:Tm,sortM ds t≠ -1->∀u:Tm,sortM ds u≠ -1->∀r s,Stop r->Stop s->textL t++r=textL u++s->t=u/\r=s:=by
 refine Tm.ind λt J hs u hu r s U I h=>?_;obtain⟨ar,pl,op⟩:=right_op hs;obtain⟨B,P,p⟩:=right_op hu;have comp:∀{v:Tm},¬(v.op=20\/v.op=21\/v.op=24)->textL v=40::(wordL v.op++((if v.op=22 then 32::(digL v.a++32::digL v.b) else[])++((v.ks.map textL).flatMap (λx=>32::x)++[41]))):=λ{v} z=>by
  rw[textL_eq];grind [textF]
 by_cases lt:t.op=20\/t.op=21\/t.op=24
 .obtain⟨_,f1,f2,f3⟩:=atom_text i hs lt;by_cases lu:u.op=20\/u.op=21\/u.op=24
  .grind [atom_text,atom_cancel,atom_inj]
  .exfalso;rw[comp lu] at h
   match H:textL t,f2 with
   |c::q,_=>
    grind
 .by_cases lu:u.op=20\/u.op=21\/u.op=24
  .exfalso;obtain⟨_,g1,g2,g3⟩:=atom_text i hu lu;rw[comp lt] at h
   match H:textL u,g2 with
   |c::q,_=>
    grind
  .rw[comp lt,comp lu] at h;simp only[Gz,Gf,gP,y1,Gg] at h;have na:=node_arity op lt;have M:=node_arity p lu;have kst:∀{l:List Tm} {q:List UInt8},1<=l.length->∃A,(l.map textL).flatMap (λx=>32::x)++41::q=32::A:=λ{l q} n=>by
    cases l with
    |nil=>simp at n
    |cons a l=>grind
   have st:∀{v:Tm} {q:List UInt8},1<=v.ks.length->Stop ((if v.op=22 then 32::(digL v.a++32::digL v.b) else[])++((v.ks.map textL).flatMap (λx=>32::x)++41::q)):=λ{v q} n=>by
    split
    .exact stop_cons (.inl rfl)
    .obtain⟨A,e⟩:=kst (q:=q) n
     grind [stop_cons]
   have N:(((⟨t.op.toNat,oM⟩:Fin 28):Nat):Int)=t.op:=(by grind);have O:(((⟨u.op.toNat,oM⟩:Fin 28):Nat):Int)=u.op:=(by grind);have f:=word_free ⟨t.op.toNat,oM⟩;have g:=word_free ⟨u.op.toNat,oM⟩;rw[N] at f;rw[O] at g;obtain⟨hw,h⟩:=atom_cancel f g (st (v:=t) oM) (st (v:=u) oM) h;have o:=word_ne ⟨t.op.toNat,oM⟩ oM oM;have G:=word_inj ⟨t.op.toNat,oM⟩ ⟨u.op.toNat,oM⟩ (by grind) o;have w:t.op=u.op:=by
    omega
   have j:t.a=u.a/\t.b=u.b/\(t.ks.map textL).flatMap (λx=>32::x)++41::r=(u.ks.map textL).flatMap (λx=>32::x)++41::s:=by
    by_cases d:t.op=22
    .rw[y3 d,y3 oM] at h;simp only[Gz,Gf,gP,y1] at h;have c1:=cut_ab i hs d;have c2:=cut_ab i hu oM;have da:∀{x:Int},0<=x->x<4->Free (digL x):=λ{x} C E=>by
      have:=dig_free ⟨x.toNat,oM⟩
      grind
     have di:∀{x y:Int},0<=x->x<4->0<=y->y<4->digL x=digL y->x=y:=λ{x y} C E D F he=>by
      have:=dig_inj ⟨x.toNat,oM⟩ ⟨y.toNat,oM⟩ (by
       grind)
      grind
     obtain⟨Q,h⟩:=atom_cancel (da oM oM) (da oM oM) (stop_cons (.inl rfl)) (stop_cons (.inl rfl)) h;simp only[gP,y1] at h;obtain⟨V,K⟩:=kst (l:=t.ks) (q:=r) oM;obtain⟨W,L⟩:=kst (l:=u.ks) (q:=s) oM;obtain⟨R,h⟩:=atom_cancel (da oM oM) (da oM oM) (by rw[K];exact stop_cons (.inl rfl)) (by rw[L];exact stop_cons (.inl rfl)) h
     grind
    grind [plain_ab]
   obtain⟨S,T,h⟩:=j;obtain⟨m,e⟩:=kids_inj (by
    grind) (λk m v z=>J k m ((sort_parts hs).2.1 k m) v ((sort_parts hu).2.1 v z)) h
   grind [tm_extT,plain_s]
theorem text_inj (b:declOk ds=true) (hs:sortM ds t≠ -1) (hu:sortM ds u≠ -1) (h:textL t=textL u):t=u:=
 (text_inj' b t hs u hu [] [] (λc a=>by cases a) (λc a=>by cases a) (by grind)).1
end
end Go.M
end
namespace Go.Proofs.YtfnpmncplaibiaaGreatDoor
open Go Go.Vc Go.Proofs
section
variable {w:World} {K:oK} {F Fx X Q:oA} {n:Nat} {v:Value}
theorem dcl_small {ds:List M.Dcl} (a:M.declOk ds=true) {i:Nat} (hi:i<=ds.length):0<=M.bitT ds i/\M.bitT ds i<=16:=by
 have c:=(M.decl_iff.1 a).1;induction i with
 |zero=>exact⟨Pq _,show(0:Int)<=16 by decide⟩
 |succ i b=>
  have:=b oM;have hw:=M.dcl_wide a (i:=i) oM;rw[M.bitT_succ oM];have key:M.bitT ds i<=4*(i:Int):=by
   clear b this;induction i with
   |zero=>exact Pq _
   |succ j ihj=>
    have hw:=M.dcl_wide a (i:=j) oM;have:=ihj oM (M.dcl_wide a oM);rw[M.bitT_succ oM];omega
  omega
theorem bitsOf_spec {dv:Value} {ds:List M.Dcl} (l:DclsR Fx w dv ds) (d:M.declOk ds=true) (o:∀w',Ext w w'->K (nI (M.bits ds)) w'):vcall Uj #[dv] w K:=by
 refine ze {loops:=[(3,[3,8])]} Tryz.func129 ?_;simp only[push_cast,l.len];have k:=(M.decl_iff.1 d).1;refine vloop_up ds.length (λi u w'=>u=[nI (M.bitT ds i),nI i]/\Ext w w') ⟨rfl,Same.refl _ _⟩ ?_;rintro i _ _ w2 C hi ⟨rfl,c⟩ n;have e:=l.ext c;refine oZ ?_;refine zb (λa=>?_) (λa=>?_)
 .have b:i<ds.length:=oM;simp(disch:=exact oS) only[push_cast,e.iaddr,e.load];refine zi qe λb1 v p f r m=>?_;refine stDecl m λt j _ k=>?_;have g:Ext w2 t:=Ext.then f j λy s=>by subst s;omega
  have q:=dcl_small d hi;have h:=dcl_small d (i:=i+1) b;rw[M.bitT_succ b] at h;simp(disch:=exact oS) only[push_cast,k.ld1,zk];refine n b _ _ ⟨?_,c.trans g⟩;rw[M.bitT_succ b];simp
 .have:i=ds.length:=oM;subst this;rw[M.bitT_all];exact o w2 c
theorem nameB_take {ds:List M.Dcl} {k j:Nat} {wd top:Int} (c:(j:Int)<wd) (hw:wd=(ds.getD k (M.nada,0)).2) (b:top=2+M.bits (ds.take k)):(M.nameB ds k).take (j+1)=(M.nameB ds k).take j++[top+(wd-1-j)]:=by
 have a:j<(M.nameB ds k).length:=by rw[M.nameB_len];omega
 rw[M.take_add a 0];congr 1;unfold M.nameB;rw[y2,GD,Pu oM];show[2+M.bits (ds.take k)+(ds.getD k (M.nada,0)).2-1-(j:Int)]=[top+(wd-1-(j:Int))];rw[b,hw];congr 1;omega
theorem inputs_spec {bl:Nat} {r:List Value} {dv:Value} {ds:List M.Dcl} {s:ByteArray} {x0:Value} (T:Blk w bl (x0::dv::r) yn) (N:DclsR Fx w dv ds) (f:M.declOk ds=true) (hs:0<=M.findD ds s)
  (L:∀w' r,Ext w w'->OwnI zf w' r (M.nameB ds (M.findD ds s).toNat)->(∀b,r.ownBlock=some b->w.heap.size<=b)->K r w'):vcall ZP #[oP bl 0,.string s] w K:=by
 refine ze {loops:=[(3,[5,15]),(8,[8,9])]} Tryz.func198 ?_;simp only[push_cast,T.ld1,N.len];have h4:=(M.decl_iff.1 f).1;have a0:=M.findD_lt ds s;refine vloop_up ds.length (λi u w'=>u=[nI (2+M.bitT ds i),nI i]/\Ext w w'/\i<=(M.findD ds s).toNat) ⟨rfl,Same.refl _ _,gF _⟩ ?_;rintro i _ _ w2 C hi ⟨rfl,k,Z⟩ U;have q:=N.ext k;refine oZ ?_;have d:i<ds.length:=oM
 refine zb (λa=>?_) (λa=>oM);simp(disch:=exact oS) only[push_cast,q.iaddr,q.load];refine zi qe λb1 w3 W D a3 S=>?_;refine stDecl S λw4 J _ o=>?_;have t:Ext w2 w4:=Ext.then D J λy hy=>by subst hy;omega
 have a2:=dcl_small f hi;have H:=dcl_small f (i:=i+1) d;rw[M.bitT_succ d] at H;have Q:=M.dcl_wide f d;simp(disch:=exact oS) only[push_cast,o.ld0,o.ld1,zk];refine zb (λe=>?_) (λe=>?_)
 .have E:i=(M.findD ds s).toNat:=by
   by_cases c:i=(M.findD ds s).toNat
   .exact c
   .have R:=M.dcl_apart f (i:=(M.findD ds s).toNat) (j:=i) oM oM;exact absurd (e.trans (M.findD_get hs).symm) R
  rw[<-E] at L;have B:M.bitT ds i=M.bits (ds.take i):=rfl;generalize V:(ds.getD i (M.nada,0)).2=wd at*;refine jJ (λm u w'=> ∃j r,u=[r,nI ((m:Int)-1)]/\(m:Int)+(j:Nat)=wd/\Ext w w'/\OwnI zf w' r ((M.nameB ds i).take j)/\∀b,r.ownBlock=some b->w.heap.size<=b) wd.toNat
   ⟨0,_,by rw[show((wd.toNat:Nat):Int)=wd by omega],oM,k.trans t,OwnI.nil,λb p=>by cases p⟩ ?_
  rintro m _ _ w5 C5 ⟨j,r,rfl,a1,v,n,l⟩ A;refine oZ ?_;refine zb (λY=>?_) (λO=>?_)
  .simp(disch:=omega) only[push_cast,zk];refine zC yD y9 yi rfl rfl λb6 w6 X x a4 z=>?_;have g:=v.trans x;have hz:=g.size;have hle:((M.nameB ds i).take j).length<=16:=by rw[gh,M.nameB_len];omega
   refine(n.ext x).app1 yE z oM oM λr7 w7 G I F=>?_
   try simp(disch:=omega) only[push_cast,zk]
   refine A (m-1) _ _ oM ⟨j+1,r7,?_,oM,Ext.then g I λb p=>l b p,?_,λb p=>(F b p).elim (l b) λh=>oM⟩
   .rw[show((m-1:Nat):Int)=(m:Int)-1 by omega]
   .rw[nameB_take (wd:=wd) (top:=2+M.bits (ds.take i)) oM V.symm rfl,<-B];rw[show(2+M.bitT ds i+(wd-1-j))=2+M.bitT ds i+((m:Int)-1) by omega];exact G
  .rw[gC (by rw[M.nameB_len];omega)] at n;exact L w5 r v n l
 .refine U d _ _ ⟨?_,k.trans t,?_⟩
  .rw[M.bitT_succ d];simp;omega
  .have:i≠(M.findD ds s).toNat:=λh=>e (by rw[h];exact M.findD_get hs);omega
end
end Go.Proofs.YtfnpmncplaibiaaGreatDoor
namespace Go.Proofs.YtfnpmncplaibiaaGreatDoor
open Go Go.Vc Go.Proofs Go.Shelf
section
variable {w:World} {K:oK} {F X Q:oA}
def YR0:ByteArray:=⟨#[48,49,50,51,52,53,54,55,56,57,97,98,99,100,101,102,103,104,105,106,107,108,109,110,111,112,113,114,115,116,117,118,119,120,121,122]⟩
theorem digit_text:∀k:Fin 10,(YR0.extract k.1 (k.1+1)).data.toList=M.digL (k.1:Int):=by decide+kernel
theorem Itoa_spec {k:Nat} (c:k<10) (b:∀s:ByteArray,s.data.toList=M.digL (k:Int)->K (.string s) w):vcall jc #[nI k] w K:=by
 refine ze {} Tryz.func194 ?_;refine ze {} Tryz.func240 ?_;refine ze {cuts:=[(12292,[]),(28680,[6])]} Tryz.func282 ?_;refine oZ ?_;refine zb (λ_=>?_) (λh=>absurd trivial h);refine zo (λ_ _=>False) ?_ (λ_ _ _ h=>h.elim);intro J d;refine zb (λ_=>?_) (λh=>oM);refine zb (λ_=>?_) (λh=>oM);refine ze {} Tryz.func306 ?_;simp(disch:=omega) only[push_cast,zk];refine zb (λ_=>?_) (λh=>oM);have a:YR0.size=36:=by decide+kernel
 show xf yy (.string YR0) _ _ _ w _;rw[xL0 rK oM oM (by rw[a];omega)];rw[show((k:Int)).toNat=k by omega,show((k:Int)+1).toNat=k+1 by omega];exact b _ (digit_text ⟨k,c⟩)
def byV (c:UInt8):Value:= .int .u8 c.toNat
theorem qh0 {v:Value} {l:List UInt8} (h:OwnV xD w v (l.map byV)) (g:l≠[]):yE0 xD yy v w K=K (.string ⟨l.toArray⟩) w:=by
 obtain⟨a,c,k,p,n,d⟩:=(OwnV.vals h).shape;have f:(l.map byV).map (λx=>[x])≠[]:=by simpa using g
 obtain⟨b,o,m,_,_,e⟩:=d f;simp only[y4] at k e;subst m;subst k;refine ya (run_convert_bytes_back w xD yy Zm ⟨b,o,none⟩ c l Xs rK rK λj i=>?_);have:=e j i 0 (byV l[j]) (by
  rw[y2,GD,GD,V0 i];rfl)
 rw[yx] at this⊢;rw[p4,GW] at this;exact this
def k50 (n:Nat) (i:Nat):UInt8:=if n/2^i%2=1 then 49 else 48
theorem bitC_take {wd n j:Nat} (a:j<wd):((List.range wd).reverse.map (k50 n)).take (j+1)=((List.range wd).reverse.map (k50 n)).take j++[k50 n (wd-1-j)]:=by
 have b:j<((List.range wd).reverse.map (k50 n)).length:=by simpa using a
 rw[M.take_add b 0];congr 1;rw[y2,GD,List.getElem?_reverse (by simpa using a),GP,Pu oM];rfl
theorem VecText_spec {wd n:Int} (C:M.vok wd n=true) (hK:∀w' s,Ext w w'->s.data.toList=M.vecL wd.toNat n.toNat->K (.string s) w'):vcall YK #[qd wd n] w K:=by
 refine ze {loops:=[(5,[3,4])]} Tryz.func193 ?_;obtain⟨U,V,W,X⟩:=M.vok_iff.1 C;have hp:(2:Int)^wd.toNat<=16:=by
  have:=pow4 (k:=wd.toNat) oM oM;have e:=Wi wd.toNat;omega
 refine zj λb1 w1 a0 z aa g=>?_;have y:∀w':World,Blk w' b1 [nI wd,nI n] zg->∀K:oK,zu zg (oP b1 0) w' K=K (qd wd n) w':=λw' hB K=>Blk.ldAgg hB (by exact zr);rw[y w1 g];refine VecOk_spec λw2 o=>?_;rw[C];simp only[push_cast,Gh];refine zC Xs rK (show yg Zm (.int .u8 0) by unfold yg;kernel_rfl) rfl rfl λb3 w3 a5 A ab I=>?_;have D:=g.ext (o.trans A);have e3:=z.trans (o.trans A);have s1:=z.size;have s2:=o.size;have S:OwnV xD w3 (.slice (some ⟨b3,0,none⟩) 1 1) ([(35:UInt8)].map byV):=Blk.own1 (t:=xD) (cs:=[byV 35]) (by rw[jV0];exact I) (gF _) rfl rfl oM;simp(disch:=exact oS) only[push_cast,D.ld0,zk];refine jJ (λm u w'=> ∃j r,u=[r,nI ((m:Int)-1)]/\(m:Int)+(j:Nat)=wd/\Ext w w'/\Blk w' b1 [nI wd,nI n] zg/\OwnV xD w' r ((35::((List.range wd.toNat).reverse.map (k50 n.toNat)).take j).map byV)/\∀b,r.ownBlock=some b->w1.heap.size<=b) wd.toNat
  ⟨0,_,by rw[show((wd.toNat:Nat):Int)=wd by omega],oM,e3,D,S,λb l=>by have e:b3=b:=K3 l;omega⟩ ?_
 rintro m _ _ Y Z ⟨j,r,rfl,a9,p,i,v,q⟩ L;refine oZ ?_;refine zb (λa7=>?_) (λa8=>?_)
 .rw[y Y i];rw[show n=((n.toNat:Nat):Int) by omega];refine raw_spec oM λw6 O=>?_;rw[show(m:Int)-1=((m-1:Nat):Int) by omega];refine bit_spec oM oM ?_;have step:∀(x:UInt8) (G:oK),x=k50 n.toNat (wd.toNat-1-j)->(∀d a,Ext w a->Blk a b1 [nI wd,nI n] zg->OwnV xD a d ((35::((List.range wd.toNat).reverse.map (k50 n.toNat)).take (j+1)).map byV)->(∀b,d.ownBlock=some b->w1.heap.size<=b)->G d a)->
    vbuildS xD 1 [(0,.int .u8 x.toNat)] w6 λt21 F=>vbi .append [xD,xD] xD [r,t21] F G:=by
   intro x G hx N;refine zC Xs rK (show yg Zm (.int .u8 0) by unfold yg;kernel_rfl) rfl rfl λb7 a a6 Q ad J=>?_;have f:=O.trans Q;have hl:((35::((List.range wd.toNat).reverse.map (k50 n.toNat)).take j).map byV).length<=20:=by
    simp only[y4,gB,gh,List.length_reverse,GP];omega
   refine(v.ext f).app1 Zq0 J rfl oM oM λr8 w8 T E R=>?_;have ac:=p.size;have z67:=f.size;refine N r8 w8 (Ext.then (p.trans f) E λb l=>by have:=q b l;omega) ((i.ext f).same E λl=>by have:=q b1 l;have:=g.lt;omega) ?_ λb l=>(R b l).elim (q b) λh=>by have:=i.lt;omega
   rw[bitC_take oM,<-hx,<-Gz,gz];exact T
  have B:wd.toNat-1-j=m-1:=oM;have fin:∀d a,Ext w a->Blk a b1 [nI wd,nI n] zg->OwnV xD a d ((35::((List.range wd.toNat).reverse.map (k50 n.toNat)).take (j+1)).map byV)->(∀b,d.ownBlock=some b->w1.heap.size<=b)->Z [d,nI (((m-1:Nat):Int)-1)] a:=λd a U V W X=>
   L (m-1) _ _ oM ⟨j+1,d,rfl,oM,U,V,W,X⟩
  refine zb (λc=>?_) (λc=>?_)
  .refine step 49 _ (by rw[B];unfold k50;rw[y3 c]) λd a H a2 a3 a4=>?_;rw[zk oM oM];exact fin d a H a2 a3 a4
  .refine step 48 _ (by rw[B];unfold k50;rw[y0 c]) λd a H a2 a3 a4=>?_;rw[zk oM oM];exact fin d a H a2 a3 a4
 .rw[gC (by simp;omega)] at v;rw[qh0 v (by simp)];exact hK Y _ p rfl
theorem joinX:Builder.Extra P YtfnpmncplaibiaaGreatDoor.joinL_ren where
 sizeBuilder:=rK
 liesBuilder:=rK
 t5:=rK
 a5:=λw=>rK
 z5:=λw=>rK
 v5:=λw=>rK
 infoByte:=rK
 cellsByte:=rK
 sizeByte:=rK
 neB5:=by decide+kernel
def joinB:List (List UInt8)->List UInt8
 |[]=>[]
 |x::xs=>x++xs.flatMap λy=>32::y
theorem ju0 (xs:List (List UInt8)):Lib.join xs [32]=joinB xs:=by
 unfold Lib.join joinB;induction xs with
 |nil=>rfl
 |cons x xs a=>
  cases xs with
  |nil=>simp[List.intercalate,List.intersperse]
  |cons y ys=>
   simp only[List.intercalate,List.intersperse_cons_cons,GL] at a⊢;rw[a];simp
theorem Join_spec {v:Value} {xs:List ByteArray} (h:OwnV yU w v (xs.map .string)) (n:2<=xs.length) (y:xs.length<=1000) (g:(joinB (xs.map (·.data.toList))).length<=1000000)
  (q:∀w' s,Ext w w'->s.data.toList=joinB (xs.map (·.data.toList))->K (.string s) w'):vcall YI #[v,.string ⟨#[32]⟩] w K:=by
 obtain⟨a,c,m,l,u,d⟩:=(OwnV.vals h).shape;have k:(xs.map Value.string).map (λx=>[x])≠[]:=by intro e;have:=congrArg List.length e;simp only[y4,pH] at this;omega
 obtain⟨b,o,r,_,t,f⟩:=d k;simp only[y4] at m f l;subst r;subst m;refine⟨rK,?_⟩;refine(Any.strings_Join_many YtfnpmncplaibiaaGreatDoor.joinL joinX b o c xs ⟨#[32]⟩ w (λj x g=>?_) t n oM l (by rw[show(⟨#[32]⟩:ByteArray).data.toList=[32] from rfl,ju0];omega)).mono ?_
 .have i:j<xs.length:=(Gk.1 g).1;have:=f j i 0 (.string x) (by
   rw[y2,GD,GD,g];rfl)
  rw[yx,p4,GW] at this;exact this
 .rintro e w' ⟨rfl,p⟩;refine q w' _ (yu0 p) ?_;rw[show(⟨#[32]⟩:ByteArray).data.toList=[32] from rfl,ju0]
end
end Go.Proofs.YtfnpmncplaibiaaGreatDoor
namespace Go.Proofs.YtfnpmncplaibiaaGreatDoor
open Go Go.Vc Go.Proofs
section
variable {w:World} {K:oK} {F X Q:oA}
theorem JM {s:ByteArray} {m:Value} (c:∀w',Ext w w'->K (.string s) w'):vcall yw #[.agg ⟨[.string s,m]⟩] w K:=by
 refine ze {} Tryz.func412 ?_;refine zj λb w1 d he e a=>?_;simp(disch:=exact oS) only[push_cast,a.ld0];exact c w1 he
theorem word_spec {o:Int} {v:Value} (k:KindR o v) (l:(1<=o/\o<=17)\/(22<=o/\o<=27)) (a:o≠24) (j:∀w' s,Ext w w'->s.data.toList=M.wordL o->K (.string s) w'):vinvoke v Zg #[] w K:=by
 obtain⟨s,m,r,rfl,e,g,i⟩:=k.word;have hs:s.data.toList=M.wordL o:=by
  rcases i with h|h|h|h
  .omega
  .omega
  .exact absurd h a
  .exact h
 have fin:vcall yw #[.agg ⟨[.string s,nI m]⟩] w K:=JM λw' he=>j w' s he hs;unfold kTy;by_cases c:24<=o
 .obtain⟨f,rfl,_⟩:=g c
  repeat rw[y0 oM]
  exact zL (ZW _ _ _) fin
 .have:=e oM;subst this;by_cases c1:o<=2
  .rw[y3 c1];exact zL (X8 _ _) fin
  rw[y0 c1];by_cases c2:o<=13
  .rw[y3 c2];exact zL (YC _ _) fin
  rw[y0 c2];by_cases c3:o=14
  .rw[y3 c3];exact zL (Yz _ _) fin
  rw[y0 c3];by_cases b:o<=17
  .rw[y3 b];exact zL (Yw _ _) fin
  rw[y0 b,y0 oM,y0 oM];by_cases d:o=22
  .rw[y3 d];exact zL (Yt _ _) fin
  rw[y0 d,y3 oM];exact zL (Xb _ _) fin
theorem wordL_len (o:Int):(M.wordL o).length<=5:=by
 by_cases h:0<=o/\o<28
 .have a:∀k:Fin 28,(M.wordL (k.1:Int)).length<=5:=(by decide+kernel);have:=a ⟨o.toNat,oM⟩;rwa[show((o.toNat:Nat):Int)=o by omega] at this
 .unfold M.wordL
  repeat rw[y0 oM]
  decide
theorem kW0 (wd n:Nat):(M.vecL wd n).length=wd+1:=by unfold M.vecL;simp
theorem kids_sum {f:M.Tm->Nat} {ks:List M.Tm} {g:M.Tm->List UInt8} (h:∀k,k∈ks->(g k).length+1<=f k):((ks.map g).flatMap (λx=>32::x)).length<=(ks.map f).sum:=by
 induction ks with
 |nil=>simp
 |cons k ks b=>
  have:=h k gi;have:=b λy a=>h y (gm _ a);simp only[GA,List.flatMap_cons,q0,gB,List.sum_cons];omega
theorem text_len {ds:List M.Dcl} (i:M.declOk ds=true):∀t,M.sortM ds t≠ -1->(M.textL t).length+1<=20*M.sizeM t:=by
 refine M.Tm.ind λt n hs=>?_;obtain⟨h,v,u⟩:=M.right_op hs;rw[M.sizeM_eq,M.textL_eq];have e:((t.ks.map M.textL).flatMap (λx=>32::x)).length<=(t.ks.map λk=>20*M.sizeM k).sum:=kids_sum λk e=>n k e ((M.sort_parts hs).2.1 k e);have g:(t.ks.map λk=>20*M.sizeM k).sum=20*(t.ks.map M.sizeM).sum:=by
  generalize t.ks=l;induction l with
  |nil=>rfl
  |cons k l ihl=>simp only[GA,List.sum_cons,ihl];omega
 unfold M.textF;by_cases c:t.op=20
 .rw[y3 c,kW0];have:=M.vok_iff.1 (M.vec_ok hs c);omega
 rw[y0 c];by_cases c:t.op=21
 .rw[y3 c];have j:=M.name_found hs c;have m:(M.findD ds t.s).toNat<ds.length:=by have:=(M.findD_lt ds t.s).2;omega
  have d:=(M.decl_iff.1 i).2.1 _ m;unfold M.dclOk at d;rw[M.findD_get j] at d;simp only[gd,X0,M.nameOk] at d;obtain⟨⟨⟨⟨⟨⟨o,p⟩,q⟩,r⟩,_⟩,_⟩,_⟩:=d;have:t.s.data.toList.length=t.s.size:=by rw[po];rfl
  omega
 rw[y0 c];by_cases c:t.op=24
 .rw[y3 c];simp;omega
 rw[y0 c];have:=wordL_len t.op;have f:(if t.op=22 then(32:UInt8)::(M.digL t.a++32::M.digL t.b) else[]).length<=4:=by
  split
  .simp[M.digL]
  .simp
 simp only[gB,q0,pH];omega
theorem Itoa_int {k:Int} (b:0<=k) (c:k<10) (a:∀s:ByteArray,s.data.toList=M.digL k->K (.string s) w):vcall jc #[nI k] w K:=by
 obtain⟨j,rfl⟩:∃j:Nat,k=j:=⟨k.toNat,oM⟩;exact Itoa_spec oM a
theorem textOf_spec {ds:List M.Dcl} (hd:M.declOk ds=true) {kb:Nat}:∀(t:M.Tm),M.sortM ds t≠ -1->M.sizeM t<=1000->∀{w:World} {K:oK} {F:oA} {tv:Value},KindsR w kb->TermR F w tv t->
  (∀w' s,Ext w w'->s.data.toList=M.textL t->K (.string s) w')->vcall Zb #[.map (some kb),tv] w K:=by
 refine M.Tm.ind λt ih hs bf w K F tv hk ht n=>?_;obtain⟨ac,hp,ho⟩:=M.right_op hs;have hlen:=text_len hd t hs;obtain⟨kv,rfl,ae⟩:=ht;apply z60;refine zj λb1 w1 b4 f bh m=>?_;have Y:=hk.ext f;have H:=ae.ext f;rw[M.textL_eq] at n hlen;unfold M.textF at n hlen;simp(disch:=exact oS) only[push_cast,m.ld0,m.ld1,m.ld2,m.ld3];refine zb (λc=>?_) (λc=>?_)
 .rw[y3 c] at n;have hv:=M.vec_ok hs c;have e:yr zg [(0,nI t.a),(1,nI t.b)] w1=λK=>K (qd t.a t.b) w1:=by
   funext K;exact zS QG (us:=[[nI t.a],[nI t.b]]) rfl rfl
  try rw[e]
  exact VecText_spec hv λw2 s B ak=>n w2 s (f.trans B) ak
 rw[y0 c] at n hlen;refine zb (λc=>?_) (λc=>?_)
 .rw[y3 c] at n;exact n w1 _ f rfl
 rw[y0 c] at n hlen;refine zb (λc=>?_) (λc=>?_)
 .rw[y3 c] at n;exact n w1 _ f rfl
 rw[y0 c] at n hlen;have ai:(1<=t.op/\t.op<=17)\/(22<=t.op/\t.op<=27):=oM
 refine Kl (ok:=false) Y (by rw[ac];omega) λbm af=>?_;simp only[gZ,if_false];refine word_spec af ai oM λw2 ws B a6=>?_;refine zC Xt rK Xk rfl rfl λb3 w3 b6 W bi a9=>?_;have O:=B.trans W;have s1:=f.size;have s2:=B.size;have k:=m.ext O;have a2:OwnV yU w3 (.slice (some ⟨b3,0,none⟩) 1 1) ([ws].map .string):=Blk.own1 (t:=yU) (cs:=[Value.string ws]) (by rw[qf0];exact a9) (gF _) rfl rfl oM;have be:1<=t.ks.length:=by
  have:=M.node_arity ho oM;omega
 have bc:t.ks.length<=3:=by
  have h:M.arity t.op<=3:=by
   unfold M.arity;repeat' split
   all_goals omega
  omega
 refine zo (λu w'=> ∃(wv:Value) (wl:List ByteArray),u=[wv]/\Ext w1 w'/\OwnV yU w' wv (wl.map .string)/\(∀b,wv.ownBlock=some b->w1.heap.size<=b)/\wl.length<=3/\wl.map (·.data.toList)=M.wordL t.op::(if t.op=22 then[M.digL t.a,M.digL t.b] else[])) ?_ ?_
 .intro J hJ;simp(disch:=exact oS) only[push_cast,k.ld0,k.ld1,k.ld2];refine zb (λz=>?_) (λz=>?_)
  .obtain⟨b2,ba,b0⟩:=M.cut_ab hd hs z;refine zd λw4 X _=>?_;have p:=k.ext X;simp(disch:=exact oS) only[push_cast,p.ld1,p.ld2,y1];refine Itoa_int oM oM λsa am=>?_;simp(disch:=exact oS) only[push_cast,p.ld2,y1,V1];refine Itoa_int oM oM λsb an=>?_;refine vbuildS_row1 (xs:=[.string sa,.string sb]) Xt Xl Xk (λx a8=>by
    simp only[gg,gx,Ge] at a8;rcases a8 with rfl|rfl<;>rfl) (by simp) λb5 w5 b8 q bj S=>?_
   have ap:Vals (· =b5) w5 (.slice (some ⟨b5,0,none⟩) 2 2) [.string sa,.string sb]:=S.sl1 rfl (by simp);have Q:=X.trans q;refine(a2.ext Q).app yc0 ap (λu hu=>by
    simp only[gg,gx,Ge] at hu;rcases hu with rfl|rfl<;>rfl) (by simp) (by simp) λr6 w6 G al E=>?_
   have z35:=Q.size;have z3:=W.size;refine hJ _ _ ⟨r6,[ws,sa,sb],rfl,Ext.then (O.trans Q) al λb A=>by have e:b3=b:=K3 A;omega,by simpa using G,λb A=>(E b A).elim (λh=>by have e:b3=b:=K3 h;omega) λh=>oM,by simp,?_⟩;rw[y3 z];simp[a6,am,an]
  .exact hJ _ _ ⟨_,[ws],rfl,O,a2,λb A=>by have e:b3=b:=K3 A;omega,by simp,by rw[y0 z];simp[a6]⟩
 rintro _ _ w5 ⟨wv,wl,rfl,q,aj,ah,bg,a7⟩;have S:=m.ext q;have Z:=H.ext q;simp(disch:=exact oS) only[push_cast,S.ld4,Z.len];refine vloop_up t.ks.length (λi u w'=> ∃(r:Value) (kl:List ByteArray),u=[r,nI i]/\Ext w1 w'/\OwnV yU w' r ((wl++kl).map .string)/\(∀b,r.ownBlock=some b->w1.heap.size<=b)/\kl.map (·.data.toList)=(t.ks.take i).map M.textL) ⟨wv,[],rfl,q,by simpa using aj,ah,rfl⟩ ?_;rintro i _ g w6 C hi ⟨r,kl,rfl,v,G,E,l⟩ hC;have I:=H.ext v;have av:kl.length=i:=by
  have:=congrArg List.length l;simp only[y4,gh] at this;omega
 refine oZ ?_;refine zb (λa=>?_) (λa=>?_)
 .have d:i<t.ks.length:=oM;simp(disch:=exact oS) only[push_cast,I.iaddr];refine I.load zc d λx hx=>?_;obtain⟨cx,rfl,T⟩:=hx.cells;refine zi zq λb7 w7 b9 D bk aa=>?_;refine stTerm aa rfl (T.ext D) λw8 aq bl ab=>?_;have R:Ext w6 w8:=Ext.then D aq λy hy=>by subst hy;omega
  have v8:=T.ext R;simp only[push_cast,ab.ldAgg (t:=za) (by rw[zU T];exact zc)];have L:t.ks.getD i default∈t.ks:=M.getD_mem d _;have ao:M.sizeM (t.ks.getD i default)<=1000:=by
   have h1:=M.szT_succ d;have h2:=M.szT_mono (ks:=t.ks) (i:=i+1) (j:=t.ks.length) d (gp _);have h3:=M.szT_all t;omega
  refine ih _ L ((M.sort_parts hs).2.1 _ L) ao (Y.ext (v.trans R)) v8.term λw9 sk ad a5=>?_;refine zC Xt rK Xk rfl rfl λaz w10 au V ax U=>?_;have o:=R.trans (ad.trans V);have bd:((wl++kl).map Value.string).length<=6:=by rw[y4,q0];omega
  refine(G.ext o).app1 yc0 U rfl oM oM λar bn a1 a3 a0=>?_;have z6:=v.size;have ay:=o.size
  try simp(disch:=omega) only[push_cast,zk]
  refine hC d _ _ ⟨ar,kl++[sk],by simp<;>exact⟨rfl,rfl⟩,Ext.then (v.trans o) a3 λb A=>E b A,?_,λb A=>(a0 b A).elim (E b) λh=>oM,?_⟩
  .rw[<-Gf,gz];exact a1
  .rw[M.take_add d default,gz,gz,l];simp[a5]
 .have d:i=t.ks.length:=oM;subst d;rw[gy] at l;have N:joinB ((wl++kl).map (·.data.toList))=M.wordL t.op++((if t.op=22 then(32:UInt8)::(M.digL t.a++32::M.digL t.b) else[])++(t.ks.map M.textL).flatMap λx=>32::x):=by
   rw[gz,a7,l];show joinB (M.wordL t.op::((if t.op=22 then[M.digL t.a,M.digL t.b] else[])++t.ks.map M.textL))=_;rw[show ∀(x:List UInt8) xs,joinB (x::xs)=x++xs.flatMap (λy=>32::y) from λ_ _=>rfl,List.flatMap_append];split<;>simp
  have ag:2<=(wl++kl).length:=by
   have h1:1<=wl.length:=by
    have:=congrArg List.length a7;simp only[y4,gB] at this;omega
   rw[q0];omega
  simp only[gB,q0,pH] at hlen;have bb:(joinB ((wl++kl).map (·.data.toList))).length<=20000:=by
   rw[N];simp only[q0];omega
  refine Join_spec G ag (by rw[q0];omega) oM λw7 sj D a4=>?_;have aw:sj.size<=20000:=by
   have:sj.data.toList.length=sj.size:=by rw[po];rfl
   rw[a4] at this;omega
  have h1:(⟨#[40]⟩:ByteArray).size=1:=(by decide+kernel);have h3:(⟨#[41]⟩:ByteArray).size=1:=(by decide+kernel);have h2:((⟨#[40]⟩:ByteArray)++sj).size=1+sj.size:=(by rw[ByteArray.size_append,h1]);rw[Z2 oM,Z2 oM];refine n w7 _ (f.trans (v.trans D)) ?_;rw[ByteArray.data_append,ByteArray.data_append,Ps,Ps,a4,N];simp
end
end Go.Proofs.YtfnpmncplaibiaaGreatDoor
section
namespace Go.M
theorem node_right {ds:List Dcl} {t:Tm} (l:declOk ds=true) (hs:sortM ds t≠ -1) {L:Nat->Nat} (n:∀i,i<t.ks.length->L i=lenS (sortM ds (kid t i))):
  (1<=t.op->t.op<=2->t.ks.length=1/\1<=L 0/\L 0<=4)/\(3<=t.op->t.op<=13->t.ks.length=2/\L 0=L 1/\1<=L 0/\L 0<=4)/\(t.op=14->t.ks.length=2/\1<=L 0/\1<=L 1/\L 0+L 1<=4)/\
  (15<=t.op->t.op<=17->t.ks.length=2/\L 0=L 1/\1<=L 0/\L 0<=4)/\(t.op=22->t.ks.length=1/\0<=t.b/\t.b<=t.a/\t.a<L 0/\L 0<=4)/\(t.op=23->t.ks.length=3/\L 0=1/\L 1=L 2/\1<=L 1/\L 1<=4)/\
  (25<=t.op->(t.ks.length=if t.op=25 then 1 else 2)/\∀i,i<t.ks.length->L i=1):=by
 obtain⟨j,m,g⟩:=sort_parts hs;simp only[formed,gd,X0] at j;obtain⟨f,q⟩:=j;have k:=arity_ops (o:=t.op) oM;have s:∀i,i<t.ks.length->(t.ks.map (sortM ds)).getD i 0=sortM ds (kid t i):=λi hi=>getD_map _ hi _ _;have d:∀i,-1<=sortM ds (kid t i)/\sortM ds (kid t i)<=4:=λi=>sort_range l _;rw[g] at hs;unfold sortK at hs;unfold arity at f;have u:=d 0;have v:=d 1;have w:=d 2;refine⟨λa b=>?_,λa b=>?_,λa=>?_,λa b=>?_,λa=>?_,λa=>?_,λa=>?_⟩
 .grind [lenS]
 .have e:t.ks.length=2:=oM
  grind [lenS]
 .have e:t.ks.length=2:=oM
  grind [lenS]
 .have e:t.ks.length=2:=oM
  grind [lenS]
 .grind [lenS]
 .have e:t.ks.length=3:=oM
  grind [lenS]
 .have e:t.ks.length=if t.op=25 then 1 else 2:=by
   grind
  rw[y0 oM,y0 oM,y3 oM] at hs;by_cases c:(t.ks.map (sortM ds)).any (λx=>decide (x≠0))=true
  .grind
  .refine⟨e,λi hi=>?_⟩;have h:=n i hi;have r:sortM ds (kid t i)=0:=GJ λp=>c (G8.2 ⟨sortM ds (kid t i),gr.2 ⟨_,getD_mem hi default,rfl⟩,by grind⟩);rw[r] at h;exact h
end Go.M
end
namespace Go.Proofs.YtfnpmncplaibiaaGreatDoor
open Go Go.Vc Go.Proofs
section
variable {w:World} {K:oK} {F F' X Fk Q:oA} {n bc bb:Nat} {gs:M.Gs} {v:Value} {ar ab:Addr}
theorem as_yes {a:TypeId} {v:Value} (b:concB a=true) {xT:TypeId}:yH0 (.iface a v) xT a true w K=K (.tuple #[v,.bool true]) w:=by
 refine ya ?_;unfold concB at b;cases hu:P.underlying a with
 |none=>grind
 |some d=>
  rw[hu] at b;cases d<;>first|(cases b;done)|simp[Instr.typeAssert,run_underlying hu]
theorem as_no {a t:TypeId} {v z:Value} (b:concB a=true) (e:yg a z) (c:t≠a) {xT:TypeId}:yH0 (.iface t v) xT a true w K=K (.tuple #[z,.bool false]) w:=by
 refine ya ?_;unfold concB at b;cases hu:P.underlying a with
 |none=>grind
 |some d=>
  rw[hu] at b;cases d<;>first|(cases b;done)|simp[Instr.typeAssert,run_underlying hu,c,Yb e,Result.andThen]
structure KidsR (Fk X F:oA) (w:World) (kv:Value) (rs:List (oI)):Prop where
 at_:∃vs:List Value,Vals Fk w kv vs/\vs.length=rs.length/\∀i,i<rs.length->Ints (Off X F) w (vs.getD i undef) (rs.getD i [])
 sm:∀r,r∈rs->SmL r
theorem KidsR.ext {w':World} {kv:Value} {rs:List (oI)} (h:KidsR Fk X F w kv rs) (he:Ext w w'):KidsR Fk X F w' kv rs:=by
 obtain⟨vs,a,b,c⟩:=h.at_;exact⟨⟨vs,a.ext he,b,λi hi=>(c i hi).ext he⟩,h.sm⟩
theorem KidsR.sml {kv:Value} {rs:List (oI)} (h:KidsR Fk X F w kv rs) {i:Nat} (hi:i<rs.length):SmL (rs.getD i []):=h.sm _ (M.getD_mem hi [])
theorem KidsR.vals {kv:Value} {rs:List (oI)} (h:KidsR Fk X F w kv rs):∃vs:List Value,(∀(w':World),Ext w w'->∀i,i<rs.length->∀K:oK,y6 zH kv (nI i) w' K=K (oE (eaddr kv 1 i)) w'/\zu zf (oE (eaddr kv 1 i)) w' K=K (vs.getD i undef) w')/\
  ∀i,i<rs.length->Ints (Off X F) w (vs.getD i undef) (rs.getD i []):=by
 obtain⟨vs,b,d,c⟩:=h.at_;refine⟨vs,λw' he i hi K=>?_,c⟩;have a:=b.ext he;refine⟨?_,a.load KT oM⟩;rw[a.iaddr KK oM oM,gl]
theorem stKind {b:Nat} {x y:Value} {t0 tk:TypeId} {s:ByteArray} {m:Int} (h:Blk w b [x,y] t0) (e:aggB tk 2=true) (d:∀w',Same (· =b) w w'->K undef w'):zT tk (oP b 0) (.agg ⟨[.string s,nI m]⟩) w K:=
 h.stAgg rfl e (by intro v a;simp only[gg,gx,Ge] at a;rcases a with rfl|rfl<;>rfl) λw' c _ _=>d w' c
theorem fixB_at {wd nn:Int} {j:Nat} (a:(j:Int)<wd):(M.fixB wd nn).getD j 0=if nn.toNat/2^j%2=1 then 1 else-1:=by
 grind [M.fixB]
theorem fix_step {wd nn:Int} {j:Nat} (a:(j:Int)<wd):((M.fixB wd nn).take j++List.replicate (wd.toNat-j) (-1)).set j (if nn.toNat/2^j%2=1 then 1 else-1)=(M.fixB wd nn).take (j+1)++List.replicate (wd.toNat-(j+1)) (-1):=by
 have b:((M.fixB wd nn).take j).length=j:=by rw[gh,M.fixB_len];omega
 rw[pK _ _ oM,b,pj,show wd.toNat-j=(wd.toNat-(j+1))+1 by omega,Pt,pb,M.take_add (by rw[M.fixB_len];omega) 0,fixB_at a,Gf];rfl
theorem SmL.fix {wd nn:Int}:SmL (M.fixB wd nn):=λx a=>by
 grind [M.fixB]
theorem SmL.name {ds:List M.Dcl} {k:Nat} (a:M.declOk ds=true) (b:k<ds.length):SmL (M.nameB ds k):=λx c=>by
 have:=M.name_has (m:=9) a b (by have:=(M.decl_iff.1 a).2.2;omega) x c;obtain⟨d,e,f⟩:=this;omega
def YZ0 (n bb:Nat) (ar ab:Addr) (X F:oA) (w:World) (gs:M.Gs) (ds:List M.Dcl) (t:M.Tm) (rs:List (oI)) (K:oK):Prop:=
 ∀w' F' st' r zs,BdR n bb ar ab X F' w' st'->Mv F w F' w'->Ints (Off X F') w' r zs->SmL zs->M.Bd.Out n (M.nodeB ds t rs) (some gs) st' zs->K r w'
section
variable {bl kb m:Nat} {dv tv kv:Value} {ds:List M.Dcl} {t:M.Tm} {rs:List (oI)} {G Gt:oA}
theorem root_spec (hb:BdR n bb ar ab X F w (some gs)) (hd:M.declOk ds=true) (hs:M.sortM ds t≠ -1) (hB:Blk w bl [oP bb 0,dv,.map (some kb),.map (some m)] yn) (bn:DclsR G w dv ds) (br:KindsR w kb) (ht:TermR Gt w tv t)
  (l:KidsR Fk X F w kv rs) (cn:rs.length=t.ks.length) (hlen:∀i,i<t.ks.length->(rs.getD i []).length=M.lenS (M.sortM ds (M.kid t i)))
  (hK:YZ0 n bb ar ab X F w gs ds t rs K):vcall X7 #[oP bl 0,tv,kv] w K:=by
 obtain⟨tk,rfl,cl⟩:=ht;refine ze {loops:=[(6,[32])]} Tryz.func131 ?_;obtain⟨cd,hp,c8⟩:=M.right_op hs;obtain⟨q1,q2,q3,q4,q5,q6,q7⟩:=M.node_right hd hs (L:=λi=>(rs.getD i []).length) hlen;refine zj λb1 w1 ce bo cp bg=>?_;refine zd λw2 b0 _=>?_;have e2:=bo.trans b0;have S:=hB.ext e2;have Q:=bg.ext b0;have q:=hb.ext e2;have az:=bn.ext e2;simp(disch:=exact oS) only[push_cast,S.ld2,Q.ld0,y1];refine Kl (ok:=false) (br.ext e2) oM λcq bs=>⟨rfl,?_⟩;obtain⟨s,mm,r,b4,a2,c3,_⟩:=bs.word;simp only[gZ,if_false];rw[b4];have p:∀w3,Ext w2 w3->YZ0 n bb ar ab X F w3 gs ds t rs K:=λw3 U w' F' st' r' zs h1 h2 h3 h4 h5=>hK w' F' st' r' zs h1 ((Mv.refl.ext (e2.trans U)).trans h2) h3 h4 h5;obtain⟨vs,hA,N⟩:=(l.ext e2).vals;unfold YZ0 M.nodeB at p;by_cases a7:t.op=20
 .have B:kTy t.op=zM:=by rw[a7];rfl
  have:=a2 oM;subst this;rw[B,as_yes yF];refine oZ ?_;rw[y3 a7] at p;refine zi yM λb3 w3 a4 U a6 H=>?_;refine stKind H Vx λw4 a3=>?_;have o:Ext w2 w4:=(by grind [Ext.then]);have a9:=Q.ext o;have hv:=M.vec_ok hs a7;obtain⟨v1,v2,v3,v4⟩:=M.vok_iff.1 hv;have c9:(2:Int)^t.a.toNat<=16:=by
   have:=pow4 (k:=t.a.toNat) oM oM
   grind
  simp(disch:=exact oS) only[push_cast,a9.ld1];rw[show t.a=((t.a.toNat:Nat):Int) by omega];refine offs_spec oM λh ov E ai bw=>?_;have d:=o.trans E;have ao:∀(w':World) (K:oK),vbi .len [zf] zV [ov] w' K=K (nI t.a.toNat) w':=λw' K=>(by rw[ai.ints.len yX,M.offsL_len]);rw[ao];refine vloop_up t.a.toNat (λj u w'=>u=[nI j]/\Ext w2 w'/\OwnI zf w' ov ((M.fixB t.a t.b).take j++List.replicate (t.a.toNat-j) (-1))) ⟨rfl,d,ai⟩ ?_;rintro j _ g w6 C hj ⟨rfl,V,I⟩ hC;have z25:=d.size;have z24:=o.size;refine oZ ?_;refine zb (λbu=>?_) (λch=>?_)
  .have bj:=Q.ext V;simp(disch:=exact oS) only[push_cast,bj.ld2];rw[jh zs0 (show qt0 QK .u64 by unfold qt0;kernel_rfl),show t.b=((t.b.toNat:Nat):Int) by omega,wrapU oM];refine bit_spec oM oM ?_;have cm:((M.fixB t.a t.b).take j++List.replicate (t.a.toNat-j) (-1)).length=t.a.toNat:=by
    grind [M.fixB_len]
   refine zb (λc=>?_) (λc=>?_)
   .rw[I.ints.iaddr yK oM oM,gl];refine I.st y9 oM λw7 bz co c6=>?_;have a5:=fix_step (wd:=t.a) (nn:=t.b) (j:=j) oM;rw[y3 c] at a5;rw[a5] at bz
    try simp(disch:=omega) only[push_cast,zk]
    grind [Ext.then]
   .have a5:=fix_step (wd:=t.a) (nn:=t.b) (j:=j) oM;rw[y0 c] at a5;have au:((M.fixB t.a t.b).take j++List.replicate (t.a.toNat-j) (-1)).set j (-1)=(M.fixB t.a t.b).take j++List.replicate (t.a.toNat-j) (-1):=by
     have hl:((M.fixB t.a t.b).take j).length=j:=(by grind);rw[pK _ _ oM,hl,pj,show t.a.toNat-j=(t.a.toNat-(j+1))+1 by omega,Pt,pb]
    rw[au] at a5;rw[a5] at I
    try simp(disch:=omega) only[push_cast,zk]
    grind
  .have bq:j=t.a.toNat:=oM;rw[bq,pj,pV,gE,gC (by rw[M.fixB_len];omega)] at I;exact p w6 V w6 F (some gs) ov _ (q.ext V) Mv.refl (NewI.of (w:=w2) I (λb hb=>by grind) q.lt).ints SmL.fix (M.Bd.Out.ret _ _)
 rw[y0 a7] at p;by_cases a8:t.op=21
 .have B:kTy t.op=zE:=by rw[a8];rfl
  have:=a2 oM;subst this;rw[B];simp only[as_no yF yM (show zE≠zM by decide),as_yes yG,push_cast];rw[y3 a8] at p;refine zi yR λb3 w3 a4 U a6 H=>?_;refine stKind H Kv λw4 a3=>?_;have o:Ext w2 w4:=(by grind [Ext.then]);have a9:=Q.ext o;have hf:=M.name_found hs a8;have bu:=M.findD_lt ds t.s;simp(disch:=exact oS) only[push_cast,a9.ld3];refine inputs_spec (S.ext o) (az.ext o) hd hf λh r5 E ai bw=>?_;have z24:=o.size;exact p h (o.trans E) h F (some gs) r5 _ (q.ext (o.trans E)) Mv.refl (NewI.of (w:=w2) ai (λb hb=>by grind) q.lt).ints (SmL.name hd oM) (M.Bd.Out.ret _ _)
 rw[y0 a8] at p;by_cases bf:24<=t.op
 .have B:kTy t.op=zz:=by
   unfold kTy
   grind
  obtain⟨f,rfl,c1⟩:=c3 bf;rw[B];simp only[as_no yF yM (show zz≠zM by decide),as_no yG yR (show zz≠zE by decide),as_no x8 xq (show zz≠zJ by decide),as_no xF xW (show zz≠zR by decide),as_no xY qs (show zz≠zO by decide),as_no qn jS (show zz≠zG by decide),as_no qm jR (show zz≠zK by decide),as_no km Zy (show zz≠zF by decide),as_yes Zp,push_cast];refine zi J4 λb3 w3 a4 U a6 H=>?_;refine H.stAgg (cs':=[.string s,nI mm,f]) rfl Y1 (by intro v hv;simp only[gg,gx,Ge] at hv;rcases hv with rfl|rfl|rfl<;>first|rfl|exact c1) λw4 a3 _ bh=>?_;have o:Ext w2 w4:=(by grind [Ext.then]);have a9:=Q.ext o;rw[bh.ldAgg (t:=zz) Y1,a9.ldAgg (t:=za) zc];refine ze {} Tryz.func204 ?_;refine zj λb6 w6 cf V aj ca=>?_;refine zj λb7 w7 cg bp c6 bi=>?_;have a0:Ext w2 w7:=o.trans (V.trans bp);simp(disch:=exact oS) only[push_cast,bi.ld0];have fin:∀(J:World) (F8:oA) (ak:Option M.Gs) (x:Int),BdR n bb ar ab X F8 J ak->Mv F w2 F8 J->Sm x->M.Bd.Out n (M.nodeB ds t rs) (some gs) ak [x]->vbuildS zf 1 [(0,nI x)] J K:=λJ F8 ak x h8 bv c5 c0=>by
   refine zC yD y9 yi rfl rfl λb9 w9 bk aa c7 am=>?_;have a1:OwnI zf w9 (.slice (some ⟨b9,0,none⟩) 1 1) [x]:=Blk.own1 (t:=zf) (cs:=[nI x]) (by rw[yO];exact am) (gF _) rfl rfl oM;exact hK w9 F8 ak _ [x] (h8.ext aa) (((Mv.refl.ext e2).trans bv).ext aa) (NewI.of (w:=J) a1 (λb hb=>by have e:b9=b:=K3 hb;omega) h8.lt).ints (SmL.one c5) c0
  unfold M.nodeB at fin;rw[y0 a7,y0 a8] at fin;by_cases c:t.op=24
  .rw[y3 c] at fin;rw[gj oM,gj oM,gj oM];refine oZ ?_;exact fin w7 F (some gs) 1 (q.ext a0) (Mv.refl.ext a0) dC (M.Bd.Out.ret _ _)
  rw[y0 c] at fin;obtain⟨ck,ay⟩:=q7 oM;have ci:1<=t.ks.length:=(by grind);have cb:=ay 0 oM;by_cases ag:t.op=25
  .rw[y3 ag] at fin;rw[gu ag];refine oZ ?_;have W:∀K:oK,y6 zH kv (nI 0) w7 K=K (oE (eaddr kv 1 0)) w7:=(by grind);have Y:∀K:oK,zu zf (oE (eaddr kv 1 0)) w7 K=K (vs.getD 0 undef) w7:=(by grind);have O:Ints (Off X F) w7 (vs.getD 0 undef) (rs.getD 0 []):=(N 0 oM).ext a0;have S0:=(l.sml (i:=0) oM).get (i:=0) oM;unfold Sm at S0;simp(disch:=exact oS) only[W,Y,O.iaddr,O.load,push_cast,zk,gO];exact fin w7 F (some gs) _ (q.ext a0) (Mv.refl.ext a0) (by unfold Sm;rw[G1];exact S0) (M.Bd.Out.ret _ _)
  rw[y0 ag] at fin;rw[gj ag];have cj:t.ks.length=2:=(by grind);have cc:=ay 1 oM;refine oZ ?_;have two:∀(J:World),Ext w2 J->(∀K:oK,y6 zH kv (nI 0) J K=K (oE (eaddr kv 1 0)) J)/\(∀K:oK,zu zf (oE (eaddr kv 1 0)) J K=K (vs.getD 0 undef) J)/\(∀K:oK,y6 zH kv (nI 1) J K=K (oE (eaddr kv 1 1)) J)/\(∀K:oK,zu zf (oE (eaddr kv 1 1)) J K=K (vs.getD 1 undef) J)/\Ints (Off X F) J (vs.getD 0 undef) (rs.getD 0 [])/\Ints (Off X F) J (vs.getD 1 undef) (rs.getD 1 []):=λJ e8=>
   ⟨λK=>(hA J e8 0 oM K).1,λK=>(hA J e8 0 oM K).2,λK=>(hA J e8 1 oM K).1,λK=>(hA J e8 1 oM K).2,(N 0 oM).ext e8,(N 1 oM).ext e8⟩
  have S0:=(l.sml (i:=0) oM).get (i:=0) oM;have S1:=(l.sml (i:=1) oM).get (i:=0) oM;by_cases ah:t.op=26
  .rw[y3 ah] at fin;rw[gu ah];refine oZ ?_;refine zd λJ an _=>?_;have R:=a0.trans an;have al:=S.ext R;obtain⟨W,Y,A1,B1,O,Z⟩:=two J R;simp(disch:=exact oS) only[al.ld0,W,Y,A1,B1,O.iaddr,O.load,Z.iaddr,Z.load,push_cast,y1];refine qS (q.ext R) S0 S1 λw9 F9 aw x h9 ap av a1=>fin w9 F9 aw x h9 ((Mv.refl.ext R).trans ap) av ?_;exact xI a1 (M.Bd.Out.ret _ _)
  rw[y0 ah,y3 oM] at fin;rw[gj ah,gu (show t.op=27 by omega)];refine oZ ?_;refine zd λJ an _=>?_;have R:=a0.trans an;have al:=S.ext R;obtain⟨W,Y,A1,B1,O,Z⟩:=two J R;simp(disch:=exact oS) only[al.ld0,W,Y,A1,B1,O.iaddr,O.load,Z.iaddr,Z.load,push_cast,y1];exact bor_spec (q.ext R) S0 S1 λw9 F9 aw x h9 ap av a1=>fin w9 F9 aw x h9 ((Mv.refl.ext R).trans ap) av (M.Bd.Out.map _ a1)
 rw[y0 oM,y0 oM,y0 oM,y0 oM] at p;by_cases af:t.op=23
 .have B:kTy t.op=zR:=by rw[af];rfl
  have:=a2 oM;subst this;obtain⟨k1,l0,l1,l2,l3⟩:=q6 af;rw[B];simp only[as_no yF yM (show zR≠zM by decide),as_no yG yR (show zR≠zE by decide),as_no x8 xq (show zR≠zJ by decide),as_yes xF,push_cast];rw[y3 af] at p;refine zi xW λb3 w3 a4 U a6 H=>?_;refine stKind H Uz λw4 a3=>?_;have o:Ext w2 w4:=(by grind [Ext.then]);refine zd λh E _=>?_;have d:=o.trans E;have A:=Q.ext d;have T:=S.ext d;have D:=q.ext d;have W:∀K:oK,y6 zH kv (nI 0) h K=K (oE (eaddr kv 1 0)) h:=(by grind);have Y:∀K:oK,zu zf (oE (eaddr kv 1 0)) h K=K (vs.getD 0 undef) h:=(by grind);have O:Ints (Off X F) h (vs.getD 0 undef) (rs.getD 0 []):=(N 0 oM).ext d;have S0:=l.sml (i:=0) oM;have A1:∀K:oK,y6 zH kv (nI 1) h K=K (oE (eaddr kv 1 1)) h:=(by grind);have B1:∀K:oK,zu zf (oE (eaddr kv 1 1)) h K=K (vs.getD 1 undef) h:=(by grind);have Z:Ints (Off X F) h (vs.getD 1 undef) (rs.getD 1 []):=(N 1 oM).ext d;have S1:=l.sml (i:=1) oM;have A2:∀K:oK,y6 zH kv (nI 2) h K=K (oE (eaddr kv 1 2)) h:=(by grind);have B2:∀K:oK,zu zf (oE (eaddr kv 1 2)) h K=K (vs.getD 2 undef) h:=(by grind);have V2:Ints (Off X F) h (vs.getD 2 undef) (rs.getD 2 []):=(N 2 oM).ext d;have S2:=l.sml (i:=2) oM;simp(disch:=exact oS) only[T.ld0,A.ld0,A.ld1,A.ld2,W,Y,O.iaddr,O.load,A1,B1,Z.iaddr,Z.load,A2,B2,V2.iaddr,V2.load,push_cast,zk,y1];exact choose_spec D ⟨gs,rfl⟩ Z V2 l1 oM S1 S2 (S0.get oM) λw6 F6 ad r6 zs h6 ac aq aj I=>p h d w6 F6 ad r6 zs h6 ac aq aj I
 rw[y0 af] at p;by_cases ae:t.op=22
 .have B:kTy t.op=zJ:=by rw[ae];rfl
  have:=a2 oM;subst this;obtain⟨k1,l0,l1,l2,l3⟩:=q5 ae;rw[B];simp only[as_no yF yM (show zJ≠zM by decide),as_no yG yR (show zJ≠zE by decide),as_yes x8,push_cast];rw[y3 ae] at p;refine zi xq λb3 w3 a4 U a6 H=>?_;refine stKind H Vy λw4 a3=>?_;have o:Ext w2 w4:=(by grind [Ext.then]);refine zd λh E _=>?_;have d:=o.trans E;have A:=Q.ext d;have T:=S.ext d;have D:=q.ext d;have W:∀K:oK,y6 zH kv (nI 0) h K=K (oE (eaddr kv 1 0)) h:=(by grind);have Y:∀K:oK,zu zf (oE (eaddr kv 1 0)) h K=K (vs.getD 0 undef) h:=(by grind);have O:Ints (Off X F) h (vs.getD 0 undef) (rs.getD 0 []):=(N 0 oM).ext d;have S0:=l.sml (i:=0) oM;simp(disch:=exact oS) only[T.ld0,A.ld0,A.ld1,A.ld2,W,Y,O.iaddr,O.load,push_cast,zk,y1];rw[show t.b=((t.b.toNat:Nat):Int) by omega,show t.a+1=((t.a.toNat+1:Nat):Int) by omega];refine Ints.cutLH O yK oM oM λcv bm=>⟨rfl,?_⟩;refine Clone_signal bm (by grind) λw6 r6 V I bx=>?_;refine p h d w6 F (some gs) r6 _ (D.ext V) (Mv.refl.ext V) (NewI.of (w:=h) I bx D.lt).ints (λx hx=>S0 x (G0 (Gc hx))) ?_;rw[show t.a.toNat+1-t.b.toNat=(t.a-t.b+1).toNat by omega];exact M.Bd.Out.ret _ _
 rw[y0 ae] at p;by_cases c2:t.op<=2
 .have B:kTy t.op=zO:=by unfold kTy;grind
  have:=a2 oM;subst this;obtain⟨k1,l0,l1⟩:=q1 oM c2;rw[B];simp only[as_no yF yM (show zO≠zM by decide),as_no yG yR (show zO≠zE by decide),as_no x8 xq (show zO≠zJ by decide),as_no xF xW (show zO≠zR by decide),as_yes xY,push_cast];rw[y3 c2] at p;refine zi qs λb3 w3 a4 U a6 H=>?_;refine stKind H Uy λw4 a3=>?_;have o:Ext w2 w4:=Ext.then U a3 λy hy=>by subst hy;omega
  refine zd λh E _=>?_;have d:=o.trans E;have A:=Q.ext d;have T:=S.ext d;have D:=q.ext d;have W:∀K:oK,y6 zH kv (nI 0) h K=K (oE (eaddr kv 1 0)) h:=(by grind);have Y:∀K:oK,zu zf (oE (eaddr kv 1 0)) h K=K (vs.getD 0 undef) h:=(by grind);have O:Ints (Off X F) h (vs.getD 0 undef) (rs.getD 0 []):=(N 0 oM).ext d;have S0:=l.sml (i:=0) oM;simp(disch:=exact oS) only[T.ld0,A.ld0,A.ld1,A.ld2,W,Y,O.iaddr,O.load,push_cast,zk,y1]
  grind [un_spec]
 rw[y0 c2] at p;by_cases ax:15<=t.op
 .have B:kTy t.op=zF:=(by grind [kTy]);have:=a2 oM;subst this;obtain⟨k1,l0,l1,l2⟩:=q4 ax oM;rw[B];simp only[as_no yF yM (show zF≠zM by decide),as_no yG yR (show zF≠zE by decide),as_no x8 xq (show zF≠zJ by decide),as_no xF xW (show zF≠zR by decide),as_no xY qs (show zF≠zO by decide),as_no qn jS (show zF≠zG by decide),as_no qm jR (show zF≠zK by decide),as_yes km,push_cast];rw[y3 oM] at p;refine zi Zy λb3 w3 a4 U a6 H=>?_;refine stKind H Vz λw4 a3=>?_;have o:Ext w2 w4:=(by grind [Ext.then]);refine zd λh E _=>?_;have d:=o.trans E;have A:=Q.ext d;have T:=S.ext d;have D:=q.ext d;have W:∀K:oK,y6 zH kv (nI 0) h K=K (oE (eaddr kv 1 0)) h:=(by grind);have Y:∀K:oK,zu zf (oE (eaddr kv 1 0)) h K=K (vs.getD 0 undef) h:=(by grind);have O:Ints (Off X F) h (vs.getD 0 undef) (rs.getD 0 []):=(N 0 oM).ext d;have S0:=l.sml (i:=0) oM;have A1:∀K:oK,y6 zH kv (nI 1) h K=K (oE (eaddr kv 1 1)) h:=(by grind);have B1:∀K:oK,zu zf (oE (eaddr kv 1 1)) h K=K (vs.getD 1 undef) h:=(by grind);have Z:Ints (Off X F) h (vs.getD 1 undef) (rs.getD 1 []):=(N 1 oM).ext d;have S1:=l.sml (i:=1) oM;simp(disch:=exact oS) only[T.ld0,A.ld0,A.ld1,A.ld2,W,Y,O.iaddr,O.load,A1,B1,Z.iaddr,Z.load,push_cast,zk,y1];refine compare_spec D ⟨gs,rfl⟩ ax oM O Z l0 l1 oM S0 S1 λw6 F6 ad x h6 ac c4 I=>?_;refine zC yD y9 yi rfl rfl λb9 w9 bk aa c7 am=>?_;have a1:OwnI zf w9 (.slice (some ⟨b9,0,none⟩) 1 1) [x]:=Blk.own1 (t:=zf) (cs:=[nI x]) (by rw[yO];exact am) (gF _) rfl rfl oM;exact p h d w9 F6 ad _ [x] (h6.ext aa) (ac.ext aa) (NewI.of (w:=w6) a1 (λb hb=>by have e:b9=b:=K3 hb;omega) h6.lt).ints (SmL.one c4) (M.Bd.Out.map _ I)
 rw[y0 oM] at p;have b2:kTy t.op=zG\/kTy t.op=zK:=by
  grind [kTy]
 have:=a2 oM;subst this;have bt:t.ks.length=2/\(t.op≠14->(rs.getD 0 []).length=(rs.getD 1 []).length)/\(t.op=14->(rs.getD 0 []).length+(rs.getD 1 []).length<=4)/\1<=(rs.getD 0 []).length/\(rs.getD 0 []).length<=4:=by
  grind
 obtain⟨k1,l0,l1,l2,l3⟩:=bt;have go:ZB w2 λz=>zu yH (oP bl 0) z λt107 b5=>b5=z/\zu zV (oP b1 0) z λt109 b8=>b8=z/\
   y6 zH kv (nI 0) z λt111 ba=>ba=z/\zu zf t111 z λt112 bc=>bc=z/\y6 zH kv (nI 1) z λt114 bd=>bd=z/\
   zu zf t114 z λt115 be=>be=z/\vcall kF #[t107,t109,t112,t115] z K:=by
  refine zd λh E _=>?_;have d:=E;have A:=Q.ext d;have T:=S.ext d;have D:=q.ext d;have W:∀K:oK,y6 zH kv (nI 0) h K=K (oE (eaddr kv 1 0)) h:=(by grind);have Y:∀K:oK,zu zf (oE (eaddr kv 1 0)) h K=K (vs.getD 0 undef) h:=(by grind);have O:Ints (Off X F) h (vs.getD 0 undef) (rs.getD 0 []):=(N 0 oM).ext d;have S0:=l.sml (i:=0) oM;have A1:∀K:oK,y6 zH kv (nI 1) h K=K (oE (eaddr kv 1 1)) h:=(by grind);have B1:∀K:oK,zu zf (oE (eaddr kv 1 1)) h K=K (vs.getD 1 undef) h:=(by grind);have Z:Ints (Off X F) h (vs.getD 1 undef) (rs.getD 1 []):=(N 1 oM).ext d;have S1:=l.sml (i:=1) oM;simp(disch:=exact oS) only[T.ld0,A.ld0,W,Y,A1,B1,push_cast,y1];exact bin_spec D ⟨gs,rfl⟩ oM oM O Z l0 l1 l2 oM S0 S1 λw6 F6 ad r6 zs h6 ac aq aj I=>p h d w6 F6 ad r6 zs h6 ac aq aj I
 rcases b2 with B|B
 .rw[B];simp only[as_no yF yM (show zG≠zM by decide),as_no yG yR (show zG≠zE by decide),as_no x8 xq (show zG≠zJ by decide),as_no xF xW (show zG≠zR by decide),as_no xY qs (show zG≠zO by decide),as_no qm jR (show zG≠zK by decide),as_yes qn,push_cast];exact go
 .rw[B];simp only[as_no yF yM (show zK≠zM by decide),as_no yG yR (show zK≠zE by decide),as_no x8 xq (show zK≠zJ by decide),as_no xF xW (show zK≠zR by decide),as_no xY qs (show zK≠zO by decide),as_no qn jS (show zK≠zG by decide),as_yes qm,push_cast];exact go
end
end
section
variable {w:World} {K:oK} {F F' Q X:oA} {n bl bc mb bb kb m:Nat} {gs:M.Gs} {v dv:Value} {ar ab:Addr} {st:Option M.Gs} {ds:List M.Dcl}
def TOut {α:Type} (n:Nat) (p:M.Bd α) (st st':Option M.Gs) (a:α):Prop:=
 (∃gs gs',st=some gs/\st'=some gs'/\p.run n gs=some (gs',a))\/(st'=none/\∀gs,st=some gs->p.run n gs=none)
theorem Out.pre' {α:Type} {p:M.Bd α} {st st':Option M.Gs} {a:α} (h:M.Bd.Out n p st st' a):∀gs',st'=some gs'->∃gs,st=some gs/\gs<+:gs':=λgs' e=>by
 cases st with
 |none=>rw[h.1] at e;cases e
 |some gs=>
  rcases h with⟨g2,c,b⟩|⟨_,b,_⟩
  .rw[b] at e;cases e;exact⟨gs,rfl,M.Bd.run_pre c⟩
  .rw[b] at e;cases e
theorem Wx (ps:List (M.Bd (oI))) (p:M.Bd (oI)):∀(gs:M.Gs),(M.seqB (ps++[p])).run n gs=((M.seqB ps).run n gs).bind λr=>(p.run n r.1).map λq=>(q.1,r.2++[q.2]):=by
 induction ps with
 |nil=>
  intro gs;show((p.bind λr=>(M.Bd.ret []:M.Bd (List (oI))).map (r:: ·))).run n gs=_;rw[M.Bd.run_bind];show _=(p.run n gs).map _;cases p.run n gs<;>rfl
 |cons q ps c=>
  intro gs;show(q.bind λr=>(M.seqB (ps++[p])).map (r:: ·)).run n gs=((q.bind λr=>(M.seqB ps).map (r:: ·)).run n gs).bind _;rw[M.Bd.run_bind,M.Bd.run_bind];cases q.run n gs with
  |none=>rfl
  |some a=>
   show((M.seqB (ps++[p])).bind λx=>M.Bd.ret (a.2::x)).run n a.1=(((M.seqB ps).bind λx=>M.Bd.ret (a.2::x)).run n a.1).bind _;rw[M.Bd.run_bind,M.Bd.run_bind,c];cases (M.seqB ps).run n a.1 with
   |none=>rfl
   |some b=>
    show((p.run n b.1).map _).bind _=(p.run n b.1).map _;cases p.run n b.1<;>rfl
theorem TOut.snoc {ps:List (M.Bd (oI))} {p:M.Bd (oI)} {st a st2:Option M.Gs} {rs:List (oI)} {r:oI} (h:TOut n (M.seqB ps) st a rs) (d:TOut n p a st2 r):TOut n (M.seqB (ps++[p])) st st2 (rs++[r]):=by
 rcases h with⟨g0,g1,b,a2,a3⟩|⟨b,a2⟩
 .rcases d with⟨c,g2,b1,b2,b3⟩|⟨b1,b2⟩
  .rw[a2] at b1;cases b1;exact .inl ⟨g0,g2,b,b2,by rw[Wx,a3];show(p.run n g1).map _=_;rw[b3];rfl⟩
  .refine .inr ⟨b1,λgs e=>?_⟩;rw[b] at e;cases e;rw[Wx,a3];show(p.run n g1).map _=_;rw[b2 g1 a2];rfl
 .rcases d with⟨c,g2,b1,b2,b3⟩|⟨b1,b2⟩
  .rw[b] at b1;cases b1
  .exact .inr ⟨b1,λgs e=>by rw[Wx,a2 gs e];rfl⟩
theorem TOut.root {t:M.Tm} {st a st2:Option M.Gs} {rs:List (oI)} {zs:oI} (h:TOut n (M.seqB (t.ks.map (M.termB ds))) st a rs):(∀b,a=some b->M.Bd.Out n (M.nodeB ds t rs) (some b) st2 zs)->(a=none->st2=none)->TOut n (M.termB ds t) st st2 zs:=λd f=>by
 rcases h with⟨g0,g1,c,a2,a3⟩|⟨c,a2⟩
 .rcases d g1 a2 with⟨g2,b1,b2⟩|⟨b1,b2,_⟩
  .exact .inl ⟨g0,g2,c,b2,by rw[M.termB_eq,M.Bd.run_bind,a3];exact b1⟩
  .refine .inr ⟨b2,λgs e=>?_⟩;rw[c] at e;cases e;rw[M.termB_eq,M.Bd.run_bind,a3];exact b1
 .exact .inr ⟨f c,λgs e=>by rw[M.termB_eq,M.Bd.run_bind,a2 gs e];rfl⟩
def P1 (m:Nat) (F:oA) (b:Nat):Prop:=F b\/b=m
theorem Mv.p1 {w':World} (h:Mv F w F' w'):Mv (P1 m F) w (P1 m F') w':=
 ⟨h.same.mono λ_ _ h=> .inl h,λb a=>a.elim (λa=>(h.new b a).imp .inl id) λa=> .inl (.inr a)⟩
theorem Sl.mvX {k:Nat} {v:Value} {xs:List (List Value)} {w':World} (h:Sl (Off X F) w k v xs) (d:X m) (hm:Mv (P1 m F) w (P1 m F') w'):Sl (Off X F') w' k v xs:=by
 have f:Sl (λb=>Off X F b/\b<w.heap.size) w k v xs:=h.weaken λb a j=>⟨a,j⟩;have g:=f.same hm.same λb a _ c=>c.elim a.1.1 λe=>a.1.2 (e▸d);exact g.weaken λb a _=>⟨λi=>hm.off (λc=>c.elim a.1.1 λe=>a.1.2 (e▸d)) a.2 (.inl i),a.1.2⟩
def MetR (n:Nat) (ds:List M.Dcl) (m:Nat) (X F:oA) (w:World) (st:Option M.Gs):Prop:=
 ∃f,MapF .string w m f/\∀p,p∈f->∃(u:M.Tm) (s:ByteArray) (v:Value) (zs:oI),p=(.string s,v)/\s.data.toList=M.textL u/\M.sortM ds u≠ -1/\Ints (Off X F) w v zs/\SmL zs/\∀gs,st=some gs->(M.termB ds u).run n gs=some (gs,zs)
structure BlR (n bl bb kb m:Nat) (ar ab:Addr) (ds:List M.Dcl) (dv:Value) (X F:oA) (w:World) (st:Option M.Gs):Prop where
 bd:BdR n bb ar ab X F w st
 blk:Blk w bl [oP bb 0,dv,.map (some kb),.map (some m)] yn
 off: ¬F bl/\¬F m/\¬F kb/\bl≠m/\kb≠m
 ext:X m
 dcl:DclsR (Off X F) w dv ds
 kin:KindsR w kb
 met:MetR n ds m X F w st
theorem KindsR.same {w':World} {S:oA} (h:KindsR w kb) (hs:Same S w w') (c: ¬S kb):KindsR w' kb:=by
 obtain⟨f,a,b⟩:=h;exact⟨f,a.same hs c,b⟩
theorem KindsR.lt (h:KindsR w kb):kb<w.heap.size:=by obtain⟨f,a,b⟩:=h;exact a.lt
theorem MetR.lt (h:MetR n ds m X F w st):m<w.heap.size:=by obtain⟨f,a,b⟩:=h;exact a.lt
theorem BlR.step {w':World} {st':Option M.Gs} (h:BlR n bl bb kb m ar ab ds dv X F w st) (o:BdR n bb ar ab X F' w' st') (hm:Mv F w F' w') (r:∀gs',st'=some gs'->∃gs,st=some gs/\gs<+:gs'):BlR n bl bb kb m ar ab ds dv X F' w' st':=by
 obtain⟨c,d,g,t,x⟩:=h.off;refine⟨o,h.blk.same hm.same c,⟨hm.off c h.blk.lt,hm.off d h.met.lt,hm.off g h.kin.lt,t,x⟩,h.ext,Sl.mvX h.dcl h.ext hm.p1,h.kin.same hm.same g,?_⟩;obtain⟨f,q,a⟩:=h.met;refine⟨f,q.same hm.same d,λp b=>?_⟩;obtain⟨u,s,v,zs,i,a2,a3,a4,a5,j⟩:=a p b;refine⟨u,s,v,zs,i,a2,a3,Sl.mvX a4 h.ext hm.p1,a5,λgs' e=>?_⟩;obtain⟨gs,k,l⟩:=r gs' e;exact M.Bd.run_again (j gs k) l
theorem BlR.grow {w':World} (h:BlR n bl bb kb m ar ab ds dv X F w st) (he:Ext w w'):BlR n bl bb kb m ar ab ds dv X F w' st:=h.step (h.bd.ext he) (Mv.refl.ext he) λgs e=>⟨gs,e,List.prefix_refl _⟩
theorem BlR.swap {w0 w':World} {t r S Y:oA} {o:Option M.Gs} (h:BlR n bl bb kb m ar ab ds dv X F w st) (e:BlR n bl bb kb m ar ab ds dv t r w0 o) (hw:Same S w w') (i:∀b,S b->X b/\w0.heap.size<=b/\¬F b)
  (q:∀b,Y b->b<w'.heap.size/\(b<w.heap.size->X b)) (hm:Y m):BlR n bl bb kb m ar ab ds dv Y F w' st:=by
 have key:∀b,b<w0.heap.size->¬S b:=λb a hs=>by have:=(i b hs).2.1;omega
 have a:=h.bd.upd e.bd.err hw λb a=>(i b a).2;have d:∀b,Off X F b->b<w.heap.size->¬S b:=λb a _ hs=>a.2 (i b hs).1;have cut:∀b,(Off X F b/\b<w.heap.size)->Off Y F b:=λb a=>⟨a.1.1,λA=>a.1.2 ((q b A).2 a.2)⟩;refine⟨⟨a.err,a.blk,a.foot,λb j=>j.elim (λh=>a.lt b (.inl h)) λh=>(q b h).1⟩,h.blk.same hw (key _ e.blk.lt),h.off,hm,?_,h.kin.same hw (key _ e.kin.lt),?_⟩
 .have g:DclsR (λb=>Off X F b/\b<w.heap.size) w dv ds:=Sl.weaken h.dcl λb a c=>⟨a,c⟩;exact Sl.weaken (Sl.same g hw λb a c=>d b a.1 c) λb a _=>cut b a
 .obtain⟨f,z,k⟩:=h.met;refine⟨f,z.same hw (key _ e.met.lt),λp l=>?_⟩;obtain⟨u,s,v,zs,x,a2,a3,a4,a5,y⟩:=k p l;have g:Ints (λb=>Off X F b/\b<w.heap.size) w v zs:=Ints.weaken a4 λb a c=>⟨a,c⟩;exact⟨u,s,v,zs,x,a2,a3,Ints.weaken (Ints.same g hw λb a c=>d b a.1 c) λb a _=>cut b a,a5,y⟩
theorem Ints.swap {w':World} {S Y:oA} {r:Value} {zs:oI} (h:Ints (Off X F) w r zs) (hw:Same S w w') (d:∀b,S b->X b) (e:∀b,Y b->b<w.heap.size->X b):Ints (Off Y F) w' r zs:=by
 have c:Ints (λb=>Off X F b/\b<w.heap.size) w r zs:=Ints.weaken h λb a f=>⟨a,f⟩;exact Ints.weaken (Ints.same c hw λb a _ hs=>a.1.2 (d b hs)) λb a _=>⟨a.1.1,λg=>a.1.2 (e b g a.2)⟩
theorem XK:Zj0 yQ .string zf:=⟨_,ju,rK⟩
theorem BlR.put {s:ByteArray} {t:M.Tm} {r:Value} {zs:oI} (h:BlR n bl bb kb m ar ab ds dv X F w st) (hs:s.data.toList=M.textL t) (S:M.sortM ds t≠ -1) (hi:Ints (Off X F) w r zs) (z:SmL zs)
  (l:∀gs,st=some gs->(M.termB ds t).run n gs=some (gs,zs)) (N:∀w',BlR n bl bb kb m ar ab ds dv X F w' st->Same (· =m) w w'->K undef w'):zm0 yQ (.map (some m)) (.string s) r w K:=by
 obtain⟨o1,D,o3,U,V⟩:=h.off;obtain⟨f,C,R⟩:=h.met;refine qJ0 XK C (XO s) λw' H q o hw T=>N w' ?_ hw;obtain⟨es,cl,x,_⟩:=C;have i:∀(a:Addr),(∃v,w.cell? a=some v)->a.block≠m:=λa ⟨v,O⟩ e=>by
  simp[World.cell?,e,x] at O
 have d:∀{g:Nat} {a:Addr},Sent w g a->g≠m:=λy=>i _ ⟨_,y.cell⟩;have he:=h.bd.err;have W:=d he.room;have Y:=d he.bits;have c:∀b,Off X F b->b<w.heap.size->¬(b=m):=λb k _ e=>k.2 (e▸h.ext);obtain⟨bc,J,L⟩:=h.bd.blk;refine⟨⟨⟨he.room.same hw W,he.bits.same hw Y,he.off⟩,⟨bc,J.same hw λe=>D (e▸h.bd.foot),λgs e=>?_⟩,h.bd.foot,λb k=>by rw[T];exact h.bd.lt b k⟩,h.blk.same hw U,h.off,h.ext,Sl.same h.dcl hw c,h.kin.same hw V,H,q,λp j=>?_⟩
 .obtain⟨v,mb,Q,I,B⟩:=L gs e;exact⟨v,mb,Q.same hw λb k e=>D (e▸B b k),I,B⟩
 .rcases o p j with rfl|j
  .exact⟨t,s,r,zs,rfl,hs,S,Ints.same hi hw c,z,l⟩
  .obtain⟨u,Z,v,A,E,a2,a3,a4,a5,G⟩:=R p j;exact⟨u,Z,v,A,E,a2,a3,Ints.same a4 hw c,a5,G⟩
structure KidsB (n bl bb kb m:Nat) (ar ab:Addr) (ds:List M.Dcl) (dv:Value) (t:M.Tm) (X F:oA) (w:World) (st:Option M.Gs) (i:Nat) (v:Value) (w':World):Prop where
 ex:∃(F1:oA) (st1:Option M.Gs) (vs:List Value) (rs:List (oI)),BlR n bl bb kb m ar ab ds dv (λb=>X b\/v.ownBlock=some b) F1 w' st1/\Mv (P1 m F) w (P1 m F1) w'/\OwnV zH w' v vs/\(∀b,v.ownBlock=some b->w.heap.size<=b/\¬F1 b)/\
  vs.length=i/\rs.length=i/\(∀j,j<i->Ints (Off (λb=>X b\/v.ownBlock=some b) F1) w' (vs.getD j undef) (rs.getD j []))/\(∀r,r∈rs->SmL r)/\TOut n (M.seqB ((t.ks.take i).map (M.termB ds))) st st1 rs
theorem Js {α:Type} {l r:List α} {d:α} {i:Nat} (h:i<l.length):(l++r).getD i d=l.getD i d:=by
 rw[y2,Gj h,<-y2]
theorem Jt {α:Type} {l:List α} {x d:α} {i:Nat} (h:l.length=i):(l++[x]).getD i d=x:=by
 subst h;simp[y2]
theorem TOut.nil:TOut n (M.seqB []) st st []:=by
 cases st with
 |none=>exact .inr ⟨rfl,λgs e=>by cases e⟩
 |some gs=>exact .inl ⟨gs,gs,rfl,rfl,rfl⟩
theorem term_spec (hd:M.declOk ds=true):∀(t:M.Tm),M.sortM ds t≠ -1->M.sizeM t<=1000->∀{w:World} {K:oK} {X F:oA} {st:Option M.Gs} {tv:Value},BlR n bl bb kb m ar ab ds dv X F w st->TermR (Off X F) w tv t->
  (∀w' F' st' r zs,BlR n bl bb kb m ar ab ds dv X F' w' st'->Mv (P1 m F) w (P1 m F') w'->Ints (Off X F') w' r zs->SmL zs->TOut n (M.termB ds t) st st' zs->K r w')->
  vcall X6 #[oP bl 0,tv] w K:=by
 refine M.Tm.ind λt ih hs br w K X F st tv d ht hK=>?_;obtain⟨kv,rfl,bn⟩:=ht;refine ze {loops:=[(7,[8,32])]} Tryz.func89 ?_;refine zj λb1 w1 c5 bk c8 b8=>?_;refine zd λw2 an _=>?_;have e2:=bk.trans an;have ad:=d.grow e2;have ai:=b8.ext an;have Z:=bn.ext e2;simp(disch:=exact oS) only[push_cast,ad.blk.ld2,ai.ldAgg (t:=za) zc,y1];refine textOf_spec hd t hs br ad.kin ⟨kv,rfl,Z⟩ λQ s R b0=>?_;have e3:=e2.trans R;have k:=ad.grow R;have aj:=ai.ext R;have a0:=Z.ext R;simp(disch:=exact oS) only[push_cast,k.blk.ld3];obtain⟨f,O,bm⟩:=k.met;by_cases H:∃v,(Value.string s,v)∈f
 .obtain⟨v,H⟩:=H;rw[Xm XK O (XO s) H];simp only[push_cast,if_true];obtain⟨u,s',v',zs,e,a2,a3,a4,a5,a6⟩:=bm _ H;cases e;have:=M.text_inj hd hs a3 (b0.symm.trans a2);subst this;refine hK Q F st v zs k (Mv.refl.ext e3) a4 a5 ?_;cases st with
  |none=>exact .inr ⟨rfl,λgs e=>by cases e⟩
  |some gs=>exact .inl ⟨gs,gs,rfl,rfl,a6 gs rfl⟩
 rw[zn0 XK qH O (XO s) λv hv=>H ⟨v,hv⟩];simp(disch:=exact oS) only[push_cast,if_true,aj.ld4,a0.len];have c7:t.ks.length<=3:=by
  obtain⟨c4,hp,ho⟩:=M.right_op hs;have h:M.arity t.op<=3:=by
   unfold M.arity;repeat' split
   all_goals omega
  omega
 have S:∀b,(X b\/(oN).ownBlock=some b)->b<Q.heap.size/\(b<Q.heap.size->X b):=λb d=>d.elim (λh=>⟨k.bd.lt b (.inr h),λ_=>h⟩) λh=>by cases h
 have ak:=k.swap (Y:=λb=>X b\/(oN).ownBlock=some b) k (Same.refl (λ_=>False) Q) (λb d=>d.elim) S (.inl k.ext);have be:TmsR (λb=>Off X F b/\b<Q.heap.size) Q kv t.ks:=a0.weaken λb d hl=>⟨d,hl⟩;refine vloop_up t.ks.length (λi u w'=> ∃v,u=[v,nI i]/\KidsB n bl bb kb m ar ab ds dv t X F Q st i v w') ⟨_,rfl,⟨F,st,[],[],ak,Mv.refl,OwnV.nil,(λb d=>by cases d),rfl,rfl,λj W=>absurd W oM,(λr hr=>by cases hr),TOut.nil⟩⟩ ?_;rintro i _ g w4 C hi ⟨v,rfl,⟨F4,bv,vs,rs,l,A,af,E,b3,ax,hint,az,L⟩⟩ hC;refine oZ ?_;have l4:=A.same.size;have I:TmsR (λb=>Off X F b/\b<Q.heap.size) w4 kv t.ks:=be.same A.same λb d _ hp=>hp.elim d.1.1 λe=>d.1.2 (e▸k.ext);have bf:∀b,(Off X F b/\b<Q.heap.size)->Off (λb=>X b\/v.ownBlock=some b) F4 b:=λb d=>⟨λO=>A.off (λhp=>hp.elim d.1.1 λe=>d.1.2 (e▸k.ext)) d.2 (.inl O),λhx=>hx.elim d.1.2 λho=>by have:=(E b ho).1;omega⟩;refine zb (λa=>?_) (λa=>?_)
 .have p:i<t.ks.length:=oM;simp(disch:=exact oS) only[push_cast,I.iaddr];refine I.load zc p λx hx=>?_;obtain⟨cx,rfl,ae⟩:=hx.cells;refine zi zq λb7 w7 c6 ao c9 b9=>?_;refine stTerm b9 rfl (ae.ext ao) λw8 bt ca ba=>?_;have D:Ext w4 w8:=Ext.then ao bt λy hy=>by subst hy;omega
  have v8:=ae.ext D;simp only[push_cast,ba.ldAgg (t:=za) (by rw[zU ae];exact zc)];have B:t.ks.getD i default∈t.ks:=M.getD_mem p _;have bq:M.sizeM (t.ks.getD i default)<=1000:=by
   have h1:=M.szT_succ p;have h2:=M.szT_mono (ks:=t.ks) (i:=i+1) (j:=t.ks.length) p (gp _);have h3:=M.szT_all t;omega
  have bj:=l.grow D;refine ih _ B ((M.sort_parts hs).2.1 _ B) bq bj (v8.term.weaken λb d _=>bf b d) λw9 F9 bw r zs am J ag bu bs=>?_;refine zC ZE j9 qH rfl (Sl.cells1 ag) λc0 w10 bx o bz ah=>?_;have cb:=D.size;have l9:=J.same.size;have b2:∀b,v.ownBlock=some b->¬P1 m F4 b:=λb d hp=>hp.elim (E b d).2 λe=>by have:=(E b d).1;have:=k.met.lt;omega
  have av:OwnV zH w10 v vs:=((af.ext D).same J.same b2).ext o;refine av.app1 Km ah (Sl.one ag) oM oM λv11 cc a9 z a7=>?_
  try simp(disch:=omega) only[push_cast,zk]
  have a8:∀b,v.ownBlock=some b->¬F9 b:=λb d O=>J.off (b2 b d) (by have:=af.lt d;omega) (.inl O);have G:∀b,(X b\/v11.ownBlock=some b)->b<w10.heap.size->(X b\/v.ownBlock=some b):=λb d hl=>d.elim .inl λh=>(a7 b h).elim .inr λh2=>oM;have T:∀j,j<i->Ints (Off (λb=>X b\/v.ownBlock=some b) F9) w10 (vs.getD j undef) (rs.getD j []):=λj W=>Ints.ext (Sl.mvX (Ints.ext (hint j W) D) (.inl d.ext) J) o;refine hC p _ _ ⟨v11,by simp,⟨F9,bw,vs++[r],rs++[zs],(am.grow o).swap k z (λb d=>⟨.inr d,(E b d).1,a8 b d⟩) (λb d=>⟨?_,G b d⟩) (.inl d.ext),(((A.ext D).trans J).ext o).to z λb d=> .inr (E b d).1,a9,λb d=>?_,by simp[b3],by simp[ax],λj W=>?_,λq hq=>?_,?_⟩⟩
  .rcases d with h|h
   .have:=l.bd.lt b (.inr (.inl h));have:=o.size;have:=z.size;omega
   .exact a9.lt h
  .rcases a7 b d with h|h
   .exact⟨(E b h).1,a8 b h⟩
   .have:=o.size;exact⟨oM,λO=>by have:=am.bd.lt b (.inl O);omega⟩
  .by_cases c:j<i
   .rw[Js oM,Js oM];exact Ints.swap (T j c) z (λb d=> .inr d) G
   .have:j=i:=oM;subst this;rw[Jt b3,Jt ax];exact Ints.swap (Ints.ext ag o) z (λb d=> .inr d) G
  .rcases gk.1 hq with h|h
   .exact az q h
   .rw[gw.1 h];exact bu
  .rw[M.take_add p default,gz];exact L.snoc bs
 .have p:i=t.ks.length:=oM;subst p;rw[gy] at L;obtain⟨bc,hB,c3⟩:=l.bd.blk;have back:∀{F5:oA} {w5:World} {N:Option M.Gs},BlR n bl bb kb m ar ab ds dv (λb=>X b\/v.ownBlock=some b) F5 w5 N->BlR n bl bb kb m ar ab ds dv X F5 w5 N:=λh=>h.swap h (Same.refl (λ_=>False) _) (λb d=>d.elim) (λb d=>⟨h.bd.lt b (.inr (.inl d)),λ_=> .inl d⟩) k.ext;have m3:Mv (P1 m F) w (P1 m F) Q:=Mv.refl.ext e3;cases bv with
  |none=>
   simp only at hB;simp(disch:=exact oS) only[push_cast,l.blk.ld0,hB.ld1,UW];have au:Ints (Off X F4) w4 (oN) []:=Ints.weaken (OwnI.nil (t:=zf)).ints λb d _=>(by cases d);exact hK w4 F4 none _ [] (back l) (m3.trans A) au SmL.nil (TOut.root (st2:=none) L (λb6 e=>by cases e) λ_=>rfl)
  |some c2=>
   simp only at hB;simp(disch:=exact oS) only[push_cast,l.blk.ld0,hB.ld1,YV];have bg:=aj.same A.same λhp=>hp.elim (λO=>by have:=d.bd.lt _ (.inl O);omega) λe=>by have:=d.met.lt;omega
   simp(disch:=exact oS) only[push_cast,bg.ldAgg (t:=za) zc];have U:(M.seqB (t.ks.map (M.termB ds))).Reach rs:=by
    rcases L with⟨c1,g1,a1,a2,a3⟩|⟨a1,_⟩
    .exact M.Bd.reach_of_run a3
    .cases a1
   obtain⟨ay,bp⟩:=M.seq_reach U;refine root_spec l.bd hd hs l.blk l.dcl l.kin ⟨kv,rfl,I⟩ ⟨⟨vs,af.vals,oM,λj W=>hint j oM⟩,az⟩ ay (λj W=>?_) λw5 F5 N r zs bh ap bo b5 aw=>?_
   .have B:t.ks.getD j default∈t.ks:=M.getD_mem W _;have:=M.term_len hd _ ((M.sort_parts hs).2.1 _ B) (bp j W);rw[this];rfl
   have al:=l.step bh ap (Out.pre' aw);have ac:TOut n (M.termB ds t) st N zs:=L.root (λb6 e=>by cases e;exact aw) λe=>(by cases e);have aq:Mv (P1 m F) w (P1 m F5) w5:=(m3.trans A).trans ap.p1;have aa:Ints (Off X F5) w5 r zs:=Ints.weaken bo λb d _=>⟨d.1,λhx=>d.2 (.inl hx)⟩;have V:=back al;simp(disch:=exact oS) only[push_cast,V.blk.ld3];refine V.put b0 hs aa b5 (λgs e=>?_) λw6 bi b4=>?_
   .rcases ac with⟨g0,g1,a1,a2,a3⟩|⟨a1,_⟩
    .rw[a2] at e;cases e;exact M.Bd.run_again a3 (List.prefix_refl _)
    .rw[a1] at e;cases e
   .refine hK w6 F5 N r zs bi (aq.to b4 λb d=> .inl (.inr d)) ?_ b5 ac;exact Ints.same aa b4 λb d _ e=>d.2 (e▸k.ext)
end
end Go.Proofs.YtfnpmncplaibiaaGreatDoor
section
namespace Go.Proofs.YtfnpmncplaibiaaGreatDoor
open Go Go.Vc Go.Proofs
section
open Go.RowKit Go.Extern.Stop Go.Stop Go.Extern
theorem yg0 (v:Value) (w:World):(Extern.ReflectliteType.typeOf #[.iface 443 v]).run Tryz.prog w= .ok (.iface 216 (.agg #[oP 11 443])) w:=rK
theorem XN (w:World):(callFunc 402 #[.agg #[oP 11 443]]).run Tryz.prog w= .ok (Next.value (.bool true)) w:=by
 rw[@run_callFunc_extern Tryz.prog 402 _ (Extern.ReflectliteType.method λt=>do Extern.Rtype.noPackHeld "Comparable" t;pure (.bool (<-typeInfo t).comparable)) Tryz.func402 rK rK rK rK];kernel_rfl
theorem yh0 (v:Value) (w:World):(Go.method 582 216 v "Comparable").run Tryz.prog w= .ok (402,v) w:=rK
theorem jy0:(Tryz.prog.info? 443).map (·.comparable)=some true:=rK
theorem jw0:(Tryz.prog.info? 471).map (·.size)=some 1:=rK
theorem noIsE (v:Value) (xT:TypeId) (w:World):(Instr.typeAssert (.iface 443 v) xT 218 true).run Tryz.prog w= .ok (.tuple #[.nilIface,.bool false]) w:=run_typeAssert_lacksB Tryz.underlying218 rK rK v xT w
theorem ja0 (v:Value) (xT:TypeId) (w:World):(Instr.typeAssert (.iface 443 v) xT 221 true).run Tryz.prog w= .ok (.tuple #[.nilIface,.bool false]) w:=run_typeAssert_lacksB Tryz.underlying221 rK rK v xT w
theorem xY0 (v:Value) (xT:TypeId) (w:World):(Instr.typeAssert (.iface 443 v) xT 223 true).run Tryz.prog w= .ok (.tuple #[.nilIface,.bool false]) w:=run_typeAssert_lacksB Tryz.underlying223 rK rK v xT w
theorem YK0 (a : Addr) (w : World) :
    Calls Tryz.prog 49 #[.iface 443 (.pointer (some a)), .iface 443 (.pointer (some a))] w λe w' => e = .returned (.bool true) /\ w' = w := by
  obtain ⟨i, hi, hcmp⟩ := pF.1 jy0
  obtain ⟨j, hj, hjs⟩ := pF.1 jw0
  have h8 := @run_callFunc_extern Tryz.prog 91 _ Extern.ReflectliteType.typeOf Tryz.func91 (by kernel_rfl) (by kernel_rfl) (by kernel_rfl) (by kernel_rfl)
  have h32 : ∀ w : World, (callFunc 402 #[.agg #[.pointer (some ⟨11, 443, none⟩)]]).run Tryz.prog w = .ok (Next.value (.bool true)) w := XN
  have tT := yg0
  have mR := yh0
  have heq := run_eql_iface_ptr_same (P := Tryz.prog) w a Tryz.underlying86 Tryz.underlying443 hi hcmp hj
  go_enter Tryz.func49, Tryz.ntmps49
  go_wp2
  refine wp_loop_rounds 1 ?_
  rw [rounds_succ]
  go_wp2
  go_ret
  exact ⟨rfl, rfl⟩
theorem XC0 (b : Addr) (w : World) :
    Calls Tryz.prog 49 #[.nilIface, .iface 443 (.pointer (some b))] w λe w' => e = .returned (.bool false) /\ w' = w := by
  have hn := run_eql_iface_nil_left (P := Tryz.prog) w 443 (.pointer (some b)) Tryz.underlying86
  go_enter Tryz.func49, Tryz.ntmps49
  go_wp2
  go_ret
  exact ⟨rfl, rfl⟩
end
variable {w:World} {K:oK}
theorem yf0 {a:Addr} (b:K (.bool true) w):vcall qk #[erv a,erv a] w K:=
 ⟨rK,(YK0 a w).mono λe w' h=>by obtain⟨rfl,rfl⟩:=h;exact b⟩
theorem jx0 {a:Addr} (b:K (.bool false) w):vcall qk #[.nilIface,erv a] w K:=
 ⟨rK,(XC0 a w).mono λe w' h=>by obtain⟨rfl,rfl⟩:=h;exact b⟩
end Go.Proofs.YtfnpmncplaibiaaGreatDoor
end
end
