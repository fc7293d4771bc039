import Derived.Test.YtjkkiaacmedfdaaGreatDoorWycP7
import Derived.Ground.NamesProg
import Derived.Ground.SlsfProg
import Derived.Shelf.SlSortCmp.Whole1
import Derived.Shelf.Strings.OnBuilder
import Derived.Shelf.Strings.SlTrimAscii
import Derived.Shelf.SlGeneric
/- A part of the proof. -/
set_option linter.all false
set_option maxRecDepth 9999
set_option maxHeartbeats 2000000
noncomputable section
namespace Go.Proofs.YtjkkiaacmedfdaaGreatDoor
open Go Go.Vc Go.Proofs
section
variable {w:World} {K:oK} {F G:Nat->Prop}
theorem unKind_value_spec {s:ByteArray} {n:Int} {ev tv kv:Value} {t:M.Tm} {xs:List (Int×Int)} (R:TermR F w tv t) (S:PairsR G w kv xs) (Z:xs.length=1)
  (I:∀w',Ext w w'->K (nI (M.vecUn t.op (xs.getD 0 (0,0)).1 (xs.getD 0 (0,0)).2).1.2) w'):vcall jU #[KV s n,ev,tv,kv] w K:=by
 refine zf {cuts:=[(8194,[9])]} Tryz.func353 ?_;obtain⟨ksv,rfl,N⟩:=R;refine zk λb1 w1 J m O Y=>?_;refine zk λb2 w2 L o Q B=>?_;have z:=m.trans o;have hz:=z.size;refine zo (λu w'=> ∃b wd,u=[oP b 0]/\Ext w w'/\Blk w' b [nI wd,nI (M.vecUn t.op (xs.getD 0 (0,0)).1 (xs.getD 0 (0,0)).2).1.2] zh) (λC x=>?_) ?_
 ·refine zd λV d _=>?_;have c:=z.trans d;have e:=S.ext c;have j:=B.ext d;have T:=c.size;simp(disch:=exact oS) only[push_cast,j.ld0,e.iaddr,e.load,Q1,Gm];refine⟨?_,?_⟩
  ·refine VecUn_spec λw4 f=>?_;have U:=f.size;simp only[push_cast,Q1];refine zi zX λA W l a p k=>?_
   try simp only[push_cast,Q1,gm]
   refine stVec k λX q _ E=>?_
   try simp only[push_cast,Q1,gm]
   exact x _ _ ⟨_,_,rfl,Ext.then ((c.trans f).trans a) q λy v=>by subst v;omega,E⟩
  ·refine zi zX λA W l a p k=>?_;have D:=j.ext a;have i:=e.ext a;simp(disch:=exact oS) only[push_cast,D.ld0,i.iaddr,i.load,Q1,gm,Gm];refine VecUn_spec λX h=>?_;simp only[push_cast,Q1];refine stVec (k.ext h) λw7 r _ H=>?_
   try simp only[push_cast,Q1,gm]
   exact x _ _ ⟨_,_,rfl,Ext.then ((c.trans a).trans h) r λy v=>by subst v;omega,H⟩
 ·rintro u g V ⟨b,wd,rfl,d,j⟩;simp only[push_cast,j.ld1];exact I _ d
theorem binKind_value_spec {s:ByteArray} {n:Int} {ev tv kv:Value} {t:M.Tm} {xs:List (Int×Int)} (R:TermR F w tv t) (S:PairsR G w kv xs) (Z:xs.length=2)
  (I:∀w',Ext w w'->K (nI (M.vecBin t.op (xs.getD 0 (0,0)).1 (xs.getD 0 (0,0)).2 (xs.getD 1 (0,0)).1 (xs.getD 1 (0,0)).2).1.2) w'):vcall jA #[KV s n,ev,tv,kv] w K:=by
 refine zf {cuts:=[(8194,[9])]} Tryz.func393 ?_;obtain⟨ksv,rfl,N⟩:=R;refine zk λb1 w1 J m O Y=>?_;refine zk λb2 w2 L o Q B=>?_;have z:=m.trans o;have hz:=z.size;refine zo (λu w'=> ∃b wd,u=[oP b 0]/\Ext w w'/\Blk w' b [nI wd,nI (M.vecBin t.op (xs.getD 0 (0,0)).1 (xs.getD 0 (0,0)).2 (xs.getD 1 (0,0)).1 (xs.getD 1 (0,0)).2).1.2] zh) (λC x=>?_) ?_
 ·refine zd λV d _=>?_;have c:=z.trans d;have e:=S.ext c;have j:=B.ext d;have T:=c.size;simp(disch:=exact oS) only[push_cast,j.ld0,e.iaddr,e.load,Q1,Gm];refine⟨?_,?_⟩
  ·refine VecBin_spec λw4 f=>?_;have U:=f.size;simp only[push_cast,Q1];refine zi zX λA W l a p k=>?_
   try simp only[push_cast,Q1,gm]
   refine stVec k λX q _ E=>?_
   try simp only[push_cast,Q1,gm]
   exact x _ _ ⟨_,_,rfl,Ext.then ((c.trans f).trans a) q λy v=>by subst v;omega,E⟩
  ·refine zi zX λA W l a p k=>?_;have D:=j.ext a;have i:=e.ext a;simp(disch:=exact oS) only[push_cast,D.ld0,i.iaddr,i.load,Q1,gm,Gm];refine VecBin_spec λX h=>?_;simp only[push_cast,Q1];refine stVec (k.ext h) λw7 r _ H=>?_
   try simp only[push_cast,Q1,gm]
   exact x _ _ ⟨_,_,rfl,Ext.then ((c.trans a).trans h) r λy v=>by subst v;omega,H⟩
 ·rintro u g V ⟨b,wd,rfl,d,j⟩;simp only[push_cast,j.ld1];exact I _ d
theorem catKind_value_spec {s:ByteArray} {n:Int} {ev tv kv:Value} {t:M.Tm} {xs:List (Int×Int)} (R:TermR F w tv t) (S:PairsR G w kv xs) (Z:xs.length=2)
  (I:∀w',Ext w w'->K (nI (M.vecBin t.op (xs.getD 0 (0,0)).1 (xs.getD 0 (0,0)).2 (xs.getD 1 (0,0)).1 (xs.getD 1 (0,0)).2).1.2) w'):vcall jy #[KV s n,ev,tv,kv] w K:=by
 refine zf {cuts:=[(8194,[9])]} Tryz.func359 ?_;obtain⟨ksv,rfl,N⟩:=R;refine zk λb1 w1 J m O Y=>?_;refine zk λb2 w2 L o Q B=>?_;have z:=m.trans o;have hz:=z.size;refine zo (λu w'=> ∃b wd,u=[oP b 0]/\Ext w w'/\Blk w' b [nI wd,nI (M.vecBin t.op (xs.getD 0 (0,0)).1 (xs.getD 0 (0,0)).2 (xs.getD 1 (0,0)).1 (xs.getD 1 (0,0)).2).1.2] zh) (λC x=>?_) ?_
 ·refine zd λV d _=>?_;have c:=z.trans d;have e:=S.ext c;have j:=B.ext d;have T:=c.size;simp(disch:=exact oS) only[push_cast,j.ld0,e.iaddr,e.load,Q1,Gm];refine⟨?_,?_⟩
  ·refine VecBin_spec λw4 f=>?_;have U:=f.size;simp only[push_cast,Q1];refine zi zX λA W l a p k=>?_
   try simp only[push_cast,Q1,gm]
   refine stVec k λX q _ E=>?_
   try simp only[push_cast,Q1,gm]
   exact x _ _ ⟨_,_,rfl,Ext.then ((c.trans f).trans a) q λy v=>by subst v;omega,E⟩
  ·refine zi zX λA W l a p k=>?_;have D:=j.ext a;have i:=e.ext a;simp(disch:=exact oS) only[push_cast,D.ld0,i.iaddr,i.load,Q1,gm,Gm];refine VecBin_spec λX h=>?_;simp only[push_cast,Q1];refine stVec (k.ext h) λw7 r _ H=>?_
   try simp only[push_cast,Q1,gm]
   exact x _ _ ⟨_,_,rfl,Ext.then ((c.trans a).trans h) r λy v=>by subst v;omega,H⟩
 ·rintro u g V ⟨b,wd,rfl,d,j⟩;simp only[push_cast,j.ld1];exact I _ d
theorem cutKind_value_spec {s:ByteArray} {n:Int} {ev tv kv:Value} {t:M.Tm} {xs:List (Int×Int)} (S:TermR F w tv t) (T:PairsR G w kv xs) (hl:xs.length=1)
  (J:∀w',Ext w w'->K (nI (M.vecCut (xs.getD 0 (0,0)).1 (xs.getD 0 (0,0)).2 t.a t.b).1.2) w'):vcall jw #[KV s n,ev,tv,kv] w K:=by
 refine zf {cuts:=[(8194,[9])]} Tryz.func385 ?_;obtain⟨ksv,rfl,O⟩:=S;refine zk λb1 w1 L o Q Z=>?_;refine zk λb2 w2 N p R E=>?_;have B:=o.trans p;have hz:=B.size;refine zo (λu w'=> ∃b wd,u=[oP b 0]/\Ext w w'/\Blk w' b [nI wd,nI (M.vecCut (xs.getD 0 (0,0)).1 (xs.getD 0 (0,0)).2 t.a t.b).1.2] zh) (λC A=>?_) ?_
 ·refine zd λW e _=>?_;have d:=B.trans e;have f:=T.ext d;have h:=E.ext e;have U:=d.size;simp(disch:=exact oS) only[push_cast,h.ld1,h.ld2,f.iaddr,f.load,Q1,Gm];refine⟨?_,?_⟩
  ·refine VecCut_spec λw4 i=>?_;have V:=i.size;simp only[push_cast,Q1];refine zi zX λD X m c q l=>?_
   try simp only[push_cast,Q1,gm]
   refine stVec l λY r _ H=>?_
   try simp only[push_cast,Q1,gm]
   exact A _ _ ⟨_,_,rfl,Ext.then ((d.trans i).trans c) r λy x=>by subst x;omega,H⟩
  ·refine zi zX λD X m c q l=>?_;have z:=h.ext c;have k:=f.ext c;simp(disch:=exact oS) only[push_cast,z.ld1,z.ld2,k.iaddr,k.load,Q1,gm,Gm];refine VecCut_spec λY j=>?_;simp only[push_cast,Q1];refine stVec (l.ext j) λw7 v _ I=>?_
   try simp only[push_cast,Q1,gm]
   exact A _ _ ⟨_,_,rfl,Ext.then ((d.trans c).trans j) v λy x=>by subst x;omega,I⟩
 ·rintro u g W ⟨b,wd,rfl,e,h⟩;simp only[push_cast,h.ld1];exact J _ e
theorem cmpKind_value_spec {s:ByteArray} {n:Int} {ev tv kv:Value} {t:M.Tm} {xs:List (Int×Int)} (p:TermR F w tv t) (q:PairsR G w kv xs) (u:xs.length=2)
  (i:∀w',Ext w w'->K (nI (M.b2i (M.vecCmp t.op (xs.getD 0 (0,0)).1 (xs.getD 0 (0,0)).2 (xs.getD 1 (0,0)).1 (xs.getD 1 (0,0)).2).1)) w'):vcall jx #[KV s n,ev,tv,kv] w K:=by
 refine zf {} Tryz.func376 ?_;obtain⟨ksv,rfl,l⟩:=p;refine zk λb1 w1 j d m r=>?_;refine zk λb2 w2 k e o g=>?_;refine zd λv b _=>?_;have a:=(d.trans e).trans b;have c:=q.ext a;have h:=g.ext b;simp(disch:=exact oS) only[push_cast,h.ld0,c.iaddr,c.load,Q1,Gm];refine VecCmp_spec λx f=>?_;simp only[push_cast,Q1];exact YZ (i _ (a.trans f))
theorem Xu {s:ByteArray} {n:Int} {ev tv kv:Value} {t:M.Tm} (k:TermR F w tv t)
  (e:∀w',Ext w w'->K (nI t.b) w'):vcall jq #[KV s n,ev,tv,kv] w K:=by
 refine zf {} Tryz.func380 ?_;obtain⟨ksv,rfl,h⟩:=k;refine zk λb1 w1 f a i l=>?_;refine zk λb2 w2 g c j d=>?_;simp only[push_cast,d.ld2];exact e _ (a.trans c)
theorem qQ0:km0 kG .string zV:=⟨_,YI,rK⟩
theorem X3 {s:ByteArray} {n:Int} {tv kv:Value} {t:M.Tm} {mb:Nat} {f:List (Value×Value)} {x:Int} (l:TermR F w tv t) (hm:MapF .string w mb f) (c:(Value.string t.s,nI x)∈f)
  (e:∀w',Ext w w'->K (nI x) w'):vcall jf #[KV s n,.map (some mb),tv,kv] w K:=by
 refine zf {} Tryz.func382 ?_;obtain⟨ksv,rfl,i⟩:=l;refine zk λb1 w1 g a j m=>?_;refine zk λb2 w2 h b k d=>?_;simp only[push_cast,d.ld3];rw[Xr qQ0 (hm.ext (a.trans b)) (XW _) c];exact e _ (a.trans b)
theorem ifKind_value_spec {s:ByteArray} {n:Int} {ev tv kv:Value} {t:M.Tm} {xs:List (Int×Int)} (l:TermR F w tv t) (m:PairsR G w kv xs) (q:xs.length=3)
  (f:∀w',Ext w w'->K (nI (if(xs.getD 0 (0,0)).2=1 then(xs.getD 1 (0,0)).2 else(xs.getD 2 (0,0)).2)) w'):vcall jW #[KV s n,ev,tv,kv] w K:=by
 refine zf {} Tryz.func388 ?_;obtain⟨ksv,rfl,i⟩:=l;refine zk λb1 w1 g c j o=>?_;refine zk λb2 w2 h d k p=>?_;have b:=m.ext (c.trans d);have e:=f _ (c.trans d)
 try simp(disch:=exact oS) only[push_cast,b.iaddr]
 try simp(disch:=exact oS) only[push_cast,b.load1]
 refine zb (λa=>?_) (λa=>?_)
 ·rw[K3 a] at e
  try simp(disch:=exact oS) only[push_cast,b.iaddr]
  try simp(disch:=exact oS) only[push_cast,b.load1]
  exact e
 ·rw[q0 a] at e
  try simp(disch:=exact oS) only[push_cast,b.iaddr]
  try simp(disch:=exact oS) only[push_cast,b.load1]
  exact e
def W8 (f:Value) (g:List (Int×Int)->Bool) (n:Nat):Prop:=∀(w:World) (G:Nat->Prop) (kv:Value) (xs:List (Int×Int)) (K:oK),PairsR G w kv xs->xs.length=n->K (.bool (g xs)) w->vcallv f #[kv] w K
theorem Xp {s:ByteArray} {n:Int} {f ev tv kv:Value} {t:M.Tm} {g:List (Int×Int)->Bool} {m:Nat} {xs:List (Int×Int)} (j:W8 f g m) (q:TermR F w tv t) (r:PairsR G w kv xs) (l:xs.length=m)
  (e:∀w',Ext w w'->K (nI (M.b2i (g xs))) w'):vcall ji #[.agg ⟨[.string s,nI n,f]⟩,ev,tv,kv] w K:=by
 refine zf {} Tryz.func390 ?_;obtain⟨ksv,rfl,k⟩:=q;refine zk λb1 w1 h b o c=>?_;refine zk λb2 w2 i a p u=>?_;have d:=c.ext a;simp only[push_cast,d.ld2];refine j _ _ _ _ _ (r.ext (b.trans a)) l ?_;exact YZ (e _ (b.trans a))
theorem qW0:W8 (.func (.func Vo) #[] #[]) (λ_=>true) 0:=by
 intro w G kv xs K c b a;simp only[push_cast];refine zf {} Tryz.func65 ?_;exact a
theorem kinds2_fn:W8 (.func (.func Vn) #[] #[]) (λxs=>decide ((xs.getD 0 (0,0)).2=0)) 1:=by
 intro w G kv xs K a c b;simp only[push_cast];refine zf {} Tryz.func66 ?_
 try simp(disch:=exact oS) only[push_cast,a.iaddr]
 try simp(disch:=exact oS) only[push_cast,a.load1]
 exact b
theorem kinds3_fn:W8 (.func (.func Vm) #[] #[]) (λxs=>decide ((xs.getD 0 (0,0)).2=1)&&decide ((xs.getD 1 (0,0)).2=1)) 2:=by
 intro w G kv xs K b d c;simp only[push_cast];refine zf {} Tryz.func67 ?_
 try simp(disch:=exact oS) only[push_cast,b.iaddr]
 try simp(disch:=exact oS) only[push_cast,b.load1]
 refine zb (λa=>?_) (λa=>?_)
 ·try simp(disch:=exact oS) only[push_cast,b.iaddr]
  try simp(disch:=exact oS) only[push_cast,b.load1]
  simpa only[gn a,pz] using c
 ·simpa only[gk a,GW] using c
theorem kinds4_fn:W8 (.func (.func Vl) #[] #[]) (λxs=>decide ((xs.getD 0 (0,0)).2=1)||decide ((xs.getD 1 (0,0)).2=1)) 2:=by
 intro w G kv xs K b d c;simp only[push_cast];refine zf {} Tryz.func68 ?_
 try simp(disch:=exact oS) only[push_cast,b.iaddr]
 try simp(disch:=exact oS) only[push_cast,b.load1]
 refine zb (λa=>?_) (λa=>?_)
 ·simpa only[gn a,Bool.true_or] using c
 ·try simp(disch:=exact oS) only[push_cast,b.iaddr]
  try simp(disch:=exact oS) only[push_cast,b.load1]
  simpa only[gk a,z0j] using c
end
section
variable {w:World} {K:oK} {F G:Nat->Prop}
def EnvM (w:World) (mb:Nat) (ds:List M.Dcl) (env:List Int):Prop:= ∃f,MapF .string w mb f/\∀s,0<=M.findD ds s->(Value.string s,nI (env.getD (M.findD ds s).toNat 0))∈f
theorem EnvM.ext {mb:Nat} {ds:List M.Dcl} {env:List Int} {w':World} (h:EnvM w mb ds env) (he:Ext w w'):EnvM w' mb ds env:=by
 obtain⟨f,a,b⟩:=h;exact⟨f,a.ext he,b⟩
def kTy (o:Int):TypeId:=if o<=2 then zP else if o<=13 then zG else if o=14 then zL else if o<=17 then zF else if o=20 then zO else if o=21 then zE else if o=22 then zK else if o=23 then zT else zx
structure KindR (o:Int) (v:Value):Prop where
 word:∃(s:ByteArray) (m:Int) (r:List Value),v= .iface (kTy o) (.agg ⟨.string s:: nI m::r⟩)/\(o<24->r=[])/\(24<=o->∃f,r=[f]/\f.oneCell'=true)/\(o=20\/o=21\/o=24\/s.data.toList=M.wordL o)
 iface:∃ty x,v= .iface ty x
 kids:∀(w:World) (K:oK),(∀w',Ext w w'->K (nI (M.arity o)) w')->vinvoke v mn_kids #[] w K
 sort:∀(w:World) (K:oK) (F G H:Nat->Prop) (dv tv kv:Value) (ds:List M.Dcl) (t:M.Tm) (xs:List Int),t.op=o->DclsR F w dv ds->TermR G w tv t->Ints H w kv xs->(xs.length:Int)=M.arity o->(∀i,-1<=xs.getD i 0/\xs.getD i 0<=4)->
  (∀w',Ext w w'->K (nI (M.sortK ds t xs)) w')->vinvoke v ki #[dv,tv,kv] w K
 value:∀(w:World) (K:oK) (G H:Nat->Prop) (ev tv kv:Value) (ds:List M.Dcl) (env:List Int) (t:M.Tm) (xs:List (Int×Int)),t.op=o->(t.op=21->∃mb,ev= .map (some mb)/\EnvM w mb ds env)->TermR G w tv t->PairsR H w kv xs->(xs.length:Int)=M.arity o->(∀i,i<xs.length->M.inS (xs.getD i (0,0)).1 (xs.getD i (0,0)).2)->
  M.sortK ds t (xs.map (·.1))≠ -1->(∀w',Ext w w'->K (nI (M.valK ds env t xs)) w')->vinvoke v qF #[ev,tv,kv] w K
section
variable {ds:List M.Dcl} {env:List Int} {t:M.Tm} {xs:List Int} {ys:List (Int×Int)}
theorem kF {i:Nat} (h:i<ys.length):(ys.map (·.1)).getD i 0=(ys.getD i (0,0)).1:=M.getD_map _ h _ _
theorem kind_un {o:Int} {s:ByteArray} (d:o=1\/o=2) (hw:s.data.toList=M.wordL o):KindR o (.iface zP (KV s 1)) where
 word:=⟨_,_,_,by(rw[show kTy o=zP by unfold kTy;rw[K3 oM]];try rfl),λ_=>rfl,λh=>oM,.inr (.inr (.inr hw))⟩
 iface:=⟨_,_,rfl⟩
 kids:=λw K b=>zM (Xi _ _) (qI λw' he=>by have:=b w' he;rcases d with rfl|rfl<;>exact this)
 sort:=λw K F G H dv tv kv ds t xs f l e g c i b=>by
  have a:xs.length=1:=by rcases d with rfl|rfl<;>simp[M.arity] at c<;>omega
  refine zM (Xh _ _) (unKind_sort_spec e g a λw' he=>?_);have:=b w' he;unfold M.sortK at this;rwa[q0 oM,q0 oM,q0 oM,q0 oM,q0 oM,K3 oM] at this
 value:=λw K G H mb tv kv ds env t ys f he e g c i hs b=>by
  have a:ys.length=1:=by rcases d with rfl|rfl<;>simp[M.arity] at c<;>omega
  refine zM (Yu _ _) (unKind_value_spec e g a λw' he=>?_);have:=b w' he;unfold M.sortK at hs;rw[q0 oM,q0 oM,q0 oM,q0 oM,q0 oM,K3 oM,kF oM] at hs;have j:0<(ys.getD 0 (0,0)).1:=by
   by_cases h:0<(ys.getD 0 (0,0)).1
   ·exact h
   ·rw[q0 h] at hs;exact absurd rfl hs
  have k:=M.inS_pos (i 0 oM) j;unfold M.valK at this;rw[q0 oM,q0 oM,q0 oM,q0 oM,q0 oM,q0 oM,q0 oM,q0 oM,K3 oM] at this;unfold M.vecUn;rw[K3 ⟨k,oM⟩];exact this
theorem kind_bin {o:Int} {s:ByteArray} (m:3<=o) (k:o<=13) (hw:s.data.toList=M.wordL o):KindR o (.iface zG (KV s 2)) where
 word:=⟨_,_,_,by(rw[show kTy o=zG by unfold kTy;rw[q0 oM,K3 oM]];try rfl),λ_=>rfl,λh=>oM,.inr (.inr (.inr hw))⟩
 iface:=⟨_,_,rfl⟩
 kids:=λw K b=>zM (YH _ _) (qI λw' he=>by
  have:=b w' he;unfold M.arity at this;rwa[q0 oM,q0 oM,q0 oM,q0 oM,K3 oM] at this)
 sort:=λw K F G H dv tv kv ds t xs f n e i c d b=>by
  have a:xs.length=2:=by
   unfold M.arity at c;rw[q0 oM,q0 oM,q0 oM,q0 oM,K3 oM] at c;omega
  refine zM (YG _ _) (binKind_sort_spec e i a λw' he=>?_);have:=b w' he;unfold M.sortK at this;rwa[q0 oM,q0 oM,q0 oM,q0 oM,q0 oM,q0 oM,q0 oM,q0 oM] at this
 value:=λw K G H mb tv kv ds env t ys f he e i c d hs b=>by
  have a:ys.length=2:=by
   unfold M.arity at c;rw[q0 oM,q0 oM,q0 oM,q0 oM,K3 oM] at c;omega
  refine zM (ZX _ _) (binKind_value_spec e i a λw' he=>?_);have:=b w' he;unfold M.sortK at hs;rw[q0 oM,q0 oM,q0 oM,q0 oM,q0 oM,q0 oM,q0 oM,q0 oM,kF oM,kF oM] at hs;have j:0<(ys.getD 0 (0,0)).1/\(ys.getD 0 (0,0)).1=(ys.getD 1 (0,0)).1:=by
   by_cases h:0<(ys.getD 0 (0,0)).1/\(ys.getD 0 (0,0)).1=(ys.getD 1 (0,0)).1
   ·exact h
   ·rw[q0 h] at hs;exact absurd rfl hs
  have l:=M.inS_pos (d 0 oM) j.1;have g:=M.inS_pos (d 1 oM) oM;unfold M.valK at this;rw[q0 oM,q0 oM,q0 oM,q0 oM,q0 oM,q0 oM,q0 oM,q0 oM,q0 oM,q0 oM,q0 oM] at this;unfold M.vecBin;rw[K3 ⟨l,g⟩,q0 oM,K3 ⟨oM,oM,j.2⟩];exact this
theorem kind_cat {s:ByteArray} (hw:s.data.toList=M.wordL 14):KindR 14 (.iface zL (KV s 2)) where
 word:=⟨_,_,_,rfl,λ_=>rfl,λh=>oM,.inr (.inr (.inr hw))⟩
 iface:=⟨_,_,rfl⟩
 kids:=λw K b=>zM (YE _ _) (qI λw' he=>b w' he)
 sort:=λw K F G H dv tv kv ds t xs c l g j e d b=>by
  have a:xs.length=2:=by simp[M.arity] at e;omega
  refine zM (YD _ _) (catKind_sort_spec g j a d λw' he=>?_);have:=b w' he;unfold M.sortK at this;rwa[q0 oM,q0 oM,q0 oM,q0 oM,q0 oM,q0 oM,K3 oM] at this
 value:=λw K G H mb tv kv ds env t ys c he g j e d hs b=>by
  have a:ys.length=2:=by simp[M.arity] at e;omega
  refine zM (ZT _ _) (catKind_value_spec g j a λw' he=>?_);have:=b w' he;unfold M.sortK at hs;rw[q0 oM,q0 oM,q0 oM,q0 oM,q0 oM,q0 oM,K3 oM,kF oM,kF oM] at hs;have f:0<(ys.getD 0 (0,0)).1/\0<(ys.getD 1 (0,0)).1/\(ys.getD 0 (0,0)).1+(ys.getD 1 (0,0)).1<=4:=by
   by_cases h:0<(ys.getD 0 (0,0)).1/\0<(ys.getD 1 (0,0)).1/\(ys.getD 0 (0,0)).1+(ys.getD 1 (0,0)).1<=4
   ·exact h
   ·rw[q0 h] at hs;exact absurd rfl hs
  have k:=M.inS_pos (d 0 oM) f.1;have i:=M.inS_pos (d 1 oM) f.2.1;unfold M.valK at this;rw[q0 oM,q0 oM,q0 oM,q0 oM,q0 oM,q0 oM,q0 oM,q0 oM,q0 oM,K3 oM] at this;unfold M.vecBin;rw[K3 ⟨k,i⟩,K3 c,K3 f.2.2];exact this
theorem kind_cmp {o:Int} {s:ByteArray} (m:15<=o) (k:o<=17) (hw:s.data.toList=M.wordL o):KindR o (.iface zF (KV s 2)) where
 word:=⟨_,_,_,by(rw[show kTy o=zF by unfold kTy;rw[q0 oM,q0 oM,q0 oM,K3 oM]];try rfl),λ_=>rfl,λh=>oM,.inr (.inr (.inr hw))⟩
 iface:=⟨_,_,rfl⟩
 kids:=λw K b=>zM (YB _ _) (qI λw' he=>by
  have:=b w' he;unfold M.arity at this;rwa[q0 oM,q0 oM,q0 oM,q0 oM,K3 oM] at this)
 sort:=λw K F G H dv tv kv ds t xs f n e i c d b=>by
  have a:xs.length=2:=by
   unfold M.arity at c;rw[q0 oM,q0 oM,q0 oM,q0 oM,K3 oM] at c;omega
  refine zM (YA _ _) (cmpKind_sort_spec e i a λw' he=>?_);have:=b w' he;unfold M.sortK at this;rwa[q0 oM,q0 oM,q0 oM,q0 oM,q0 oM,q0 oM,q0 oM,K3 oM] at this
 value:=λw K G H mb tv kv ds env t ys f he e i c d hs b=>by
  have a:ys.length=2:=by
   unfold M.arity at c;rw[q0 oM,q0 oM,q0 oM,q0 oM,K3 oM] at c;omega
  refine zM (ZS _ _) (cmpKind_value_spec e i a λw' he=>?_);have:=b w' he;unfold M.sortK at hs;rw[q0 oM,q0 oM,q0 oM,q0 oM,q0 oM,q0 oM,q0 oM,K3 oM,kF oM,kF oM] at hs;have j:0<(ys.getD 0 (0,0)).1/\(ys.getD 0 (0,0)).1=(ys.getD 1 (0,0)).1:=by
   by_cases h:0<(ys.getD 0 (0,0)).1/\(ys.getD 0 (0,0)).1=(ys.getD 1 (0,0)).1
   ·exact h
   ·rw[q0 h] at hs;exact absurd rfl hs
  have l:=M.inS_pos (d 0 oM) j.1;have g:=M.inS_pos (d 1 oM) oM;unfold M.valK at this;rw[q0 oM,q0 oM,q0 oM,q0 oM,q0 oM,q0 oM,q0 oM,q0 oM,q0 oM,q0 oM,K3 oM] at this;unfold M.vecCmp;rw[K3 ⟨l,g,j.2,oM,oM⟩];exact this
theorem kind_vec {s:ByteArray}:KindR 20 (.iface zO (KV s 0)) where
 word:=⟨_,_,_,rfl,λ_=>rfl,λh=>oM,.inl rfl⟩
 iface:=⟨_,_,rfl⟩
 kids:=λw K b=>zM (Yt _ _) (qI λw' he=>b w' he)
 sort:=λw K F G H dv tv kv ds t xs a g c f d e b=>by
  refine zM (Ys _ _) (Qj c λw' he=>?_);have:=b w' he;unfold M.sortK at this;rwa[K3 a] at this
 value:=λw K G H mb tv kv ds env t ys a he c f d e hs b=>by
  refine zM (ZO _ _) (Xu c λw' he=>?_);have:=b w' he;unfold M.valK at this;rwa[K3 a] at this
theorem kind_name {s:ByteArray}:KindR 21 (.iface zE (KV s 0)) where
 word:=⟨_,_,_,rfl,λ_=>rfl,λh=>oM,.inr (.inl rfl)⟩
 iface:=⟨_,_,rfl⟩
 kids:=λw K b=>zM (ZQ _ _) (qI λw' he=>b w' he)
 sort:=λw K F G H dv tv kv ds t xs a g e k i j b=>by
  refine zM (ZP _ _) (nameKind_sort_spec e g λw' he=>?_);have:=b w' he;unfold M.sortK at this;rwa[q0 oM,K3 a] at this
 value:=λw K G H mb tv kv ds env t ys a he e k i j hs b=>by
  obtain⟨mb,rfl,f,hm,d⟩:=he a;unfold M.sortK at hs;rw[q0 oM,K3 a] at hs;have c:0<=M.findD ds t.s:=by
   by_cases h:M.findD ds t.s<0
   ·rw[K3 h] at hs;exact absurd rfl hs
   ·omega
  refine zM (Zw _ _) (X3 e hm (d _ c) λw' he=>?_);have:=b w' he;unfold M.valK at this;rwa[q0 oM,K3 a] at this
theorem kind_cut {s:ByteArray} (hw:s.data.toList=M.wordL 22):KindR 22 (.iface zK (KV s 1)) where
 word:=⟨_,_,_,rfl,λ_=>rfl,λh=>oM,.inr (.inr (.inr hw))⟩
 iface:=⟨_,_,rfl⟩
 kids:=λw K d=>zM (Yy _ _) (qI λw' he=>d w' he)
 sort:=λw K F G H dv tv kv ds t xs i m g j e f d=>by
  have c:xs.length=1:=by simp[M.arity] at e;omega
  refine zM (Yx _ _) (cutKind_sort_spec g j c f λw' he=>?_);have:=d w' he;unfold M.sortK at this;rwa[q0 oM,q0 oM,q0 oM,q0 oM,K3 oM] at this
 value:=λw K G H mb tv kv ds env t ys i he g j e f hs d=>by
  have c:ys.length=1:=by simp[M.arity] at e;omega
  refine zM (ZR _ _) (cutKind_value_spec g j c λw' he=>?_);have:=d w' he;unfold M.sortK at hs;rw[q0 oM,q0 oM,q0 oM,q0 oM,K3 oM,kF oM] at hs;have k:0<=t.b/\t.b<=t.a/\t.a<(ys.getD 0 (0,0)).1:=by
   by_cases h:0<=t.b/\t.b<=t.a/\t.a<(ys.getD 0 (0,0)).1
   ·exact h
   ·rw[q0 h] at hs;exact absurd rfl hs
  have l:=M.inS_pos (f 0 oM) oM;unfold M.valK at this;rw[q0 oM,q0 oM,q0 oM,q0 oM,q0 oM,q0 oM,q0 oM,K3 oM] at this;unfold M.vecCut;rw[K3 ⟨l,k⟩];exact this
theorem kind_if {s:ByteArray} (hw:s.data.toList=M.wordL 23):KindR 23 (.iface zT (KV s 3)) where
 word:=⟨_,_,_,rfl,λ_=>rfl,λh=>oM,.inr (.inr (.inr hw))⟩
 iface:=⟨_,_,rfl⟩
 kids:=λw K b=>zM (Xl _ _) (qI λw' he=>b w' he)
 sort:=λw K F G H dv tv kv ds t xs e i d f c g b=>by
  have a:xs.length=3:=by simp[M.arity] at c;omega
  refine zM (Xk _ _) (ifKind_sort_spec d f a λw' he=>?_);have:=b w' he;unfold M.sortK at this;rwa[q0 oM,q0 oM,q0 oM,K3 oM] at this
 value:=λw K G H mb tv kv ds env t ys e he d f c g hs b=>by
  have a:ys.length=3:=by simp[M.arity] at c;omega
  refine zM (Yv _ _) (ifKind_value_spec d f a λw' he=>?_);have:=b w' he;unfold M.valK at this;rwa[q0 oM,q0 oM,q0 oM,q0 oM,q0 oM,q0 oM,K3 oM] at this
theorem kind_bool {o:Int} {s:ByteArray} {f:Value} {g:List (Int×Int)->Bool} {m:Nat} (q:24<=o) (i:M.arity o=m) (j:W8 f g m) (c:f.oneCell'=true) (hw:o=24\/s.data.toList=M.wordL o) (k:∀ds env (t:M.Tm) ys,t.op=o->M.valK ds env t ys=M.b2i (g ys)):
  KindR o (.iface zx (.agg ⟨[.string s,nI m,f]⟩)) where
 word:=⟨_,_,_,by rw[show kTy o=zx by unfold kTy;rw[q0 oM,q0 oM,q0 oM,q0 oM,q0 oM,q0 oM,q0 oM,q0 oM]],λh=>oM,λ_=>⟨_,rfl,c⟩,.inr (.inr hw)⟩
 iface:=⟨_,_,rfl⟩
 kids:=λw K a=>zM (ZW _ _ _) (qI λw' he=>by have:=a w' he;rwa[i] at this)
 sort:=λw K F G H dv tv kv ds t xs b p d e l n a=>by
  refine zM (ZV _ _ _) (Q7 d e λw' he=>?_);have:=a w' he;unfold M.sortK at this;rwa[q0 oM,q0 oM,K3 oM] at this
 value:=λw K G H mb tv kv ds env t ys b he d e l n hs a=>by
  refine zM (Zx _ _ _) (Xp j d e oM λw' he=>?_);have:=a w' he;rwa[k ds env t ys b] at this
end
def KindsR (w:World) (mb:Nat):Prop:= ∃f,MapF (.int .i64) w mb f/\(∀o,0<=M.arity o->∃v,(nI o,v)∈f/\KindR o v)/\∀p,p∈f->∃o,p.1= nI o/\0<=M.arity o
theorem KindsR.ext {mb:Nat} {w':World} (h:KindsR w mb) (he:Ext w w'):KindsR w' mb:=by
 obtain⟨f,a,b⟩:=h;exact⟨f,a.ext he,b⟩
end
section
variable {w:World} {K:oK} {F G:Nat->Prop}
theorem jK:km0 zS (.int .i64) yP0:=⟨_,Zi,rK⟩
def KS (w0 w:World) (b:Nat) (S:Int->Prop):Prop:=Ext w0 w/\w0.heap.size<=b/\∃f,MapF (.int .i64) w b f/\(∀o,S o->∃v,(nI o,v)∈f/\KindR o v)/\∀p,p∈f->∃o,p.1= nI o/\S o
theorem KS.set {w0 w:World} {b:Nat} {S:Int->Prop} {o:Int} {v:Value} (h:KS w0 w b S) (q: ¬S o) (r:KindR o v) (m:∀w',KS w0 w' b (λx=>x=o\/S x)->Same (· =b) w w'->K undef w'):
  z60 zS (.map (some b)) (nI o) v w K:=by
 obtain⟨he,k,f,hm,l,j⟩:=h;refine qi0 jK hm (xw o) (λx i=>?_) λw' g hs _=>m w' ⟨Ext.then he hs λy s=>by subst s;exact k,k,_,g,λx i=>?_,λp c=>?_⟩ hs
 ·obtain⟨o',a,d⟩:=j _ i;cases a;exact q d
 ·by_cases e:x=o
  ·subst e;exact⟨v,gr.2 (.inr (gz.2 rfl)),r⟩
  ·obtain⟨u,hu,n⟩:=l x (i.resolve_left e);exact⟨u,gr.2 (.inl hu),n⟩
 ·rcases gr.1 c with c|c
  ·obtain⟨o',a,d⟩:=j _ c;exact⟨o',a,.inr d⟩
  ·rw[gz.1 c];exact⟨o,rfl,.inl rfl⟩
theorem KS.ext {w0 w w':World} {b:Nat} {S:Int->Prop} (h:KS w0 w b S) (he:Ext w w'):KS w0 w' b S:=by
 obtain⟨a,c,f,hm,r⟩:=h;exact⟨a.trans he,c,f,hm.ext he,r⟩
theorem KS.congr {w0 w:World} {b:Nat} {S S':Int->Prop} (h:KS w0 w b S) (a:∀x,S x↔S' x):KS w0 w b S':=by
 have:S=S':=funext λx=>propext (a x);subst this;exact h
theorem KS.kinds {w0 w:World} {b:Nat} {S:Int->Prop} (h:KS w0 w b S) (a:∀o,S o↔0<=M.arity o):KindsR w b:=by
 obtain⟨he,k,f,hm,c,d⟩:=h;refine⟨f,hm,λo i=>c o ((a o).2 i),λp j=>?_⟩;obtain⟨o,e,g⟩:=d p j;exact⟨o,e,(a o).1 g⟩
@[push_cast] theorem bd_named (s:ByteArray) (n:Int):yh qy [(0,.string s),(1,nI n)] w K=K (KV s n) w:=zR ye0 (us:=[[.string s],[nI n]]) rfl rfl
@[push_cast] theorem Yz0 (s:ByteArray) (n:Int):yh zP [(0,KV s n)] w K=K (KV s n) w:=zR UR (us:=[[.string s,nI n]]) rfl rfl
@[push_cast] theorem Y70 (s:ByteArray) (n:Int):yh zG [(0,KV s n)] w K=K (KV s n) w:=zR VQ (us:=[[.string s,nI n]]) rfl rfl
@[push_cast] theorem Y60 (s:ByteArray) (n:Int):yh zL [(0,KV s n)] w K=K (KV s n) w:=zR VM (us:=[[.string s,nI n]]) rfl rfl
@[push_cast] theorem Y50 (s:ByteArray) (n:Int):yh zF [(0,KV s n)] w K=K (KV s n) w:=zR VK (us:=[[.string s,nI n]]) rfl rfl
@[push_cast] theorem Y40 (s:ByteArray) (n:Int):yh zK [(0,KV s n)] w K=K (KV s n) w:=zR VJ (us:=[[.string s,nI n]]) rfl rfl
@[push_cast] theorem YB0 (s:ByteArray) (n:Int):yh zT [(0,KV s n)] w K=K (KV s n) w:=zR UT (us:=[[.string s,nI n]]) rfl rfl
@[push_cast] theorem Y30:yh zO [] w K=K (KV ⟨#[]⟩ 0) w:=zR VI (us:=[]) rfl rfl
@[push_cast] theorem ZO0:yh zE [] w K=K (KV ⟨#[]⟩ 0) w:=zR KO (us:=[]) rfl rfl
@[push_cast] theorem ZR0 (s:ByteArray) (n:Int) (f:Fn) (a c:Array Value):yh zx [(0,KV s n),(1,.func f a c)] w K=K (.agg ⟨[.string s,nI n,.func f a c]⟩) w:=zR KP (us:=[[.string s,nI n],[.func f a c]]) rfl rfl
theorem val24 (ds:List M.Dcl) (env:List Int) (t:M.Tm) (ys:List (Int×Int)) (h:t.op=24):M.valK ds env t ys=M.b2i true:=by simp[M.valK,h,M.b2i]
theorem val25 (ds:List M.Dcl) (env:List Int) (t:M.Tm) (ys:List (Int×Int)) (h:t.op=25):M.valK ds env t ys=M.b2i (decide ((ys.getD 0 (0,0)).2=0)):=by unfold M.valK;simp only[h];rfl
theorem val26 (ds:List M.Dcl) (env:List Int) (t:M.Tm) (ys:List (Int×Int)) (h:t.op=26):M.valK ds env t ys=M.b2i (decide ((ys.getD 0 (0,0)).2=1)&&decide ((ys.getD 1 (0,0)).2=1)):=by unfold M.valK;simp only[h];rfl
theorem val27 (ds:List M.Dcl) (env:List Int) (t:M.Tm) (ys:List (Int×Int)) (h:t.op=27):M.valK ds env t ys=M.b2i (decide ((ys.getD 0 (0,0)).2=1)||decide ((ys.getD 1 (0,0)).2=1)):=by unfold M.valK;simp only[h];rfl
def binWords:List ByteArray:=[⟨#[97,110,100]⟩,⟨#[111,114]⟩,⟨#[120,111,114]⟩,⟨#[97,100,100]⟩,⟨#[115,117,98]⟩,⟨#[109,117,108]⟩,⟨#[100,105,118]⟩,⟨#[114,101,109]⟩,⟨#[115,104,108]⟩,⟨#[115,104,114]⟩,⟨#[115,97,114]⟩]
theorem kU0:∀i:Fin 11,(binWords.getD i.1 ⟨#[]⟩).data.toList=M.wordL (3+(i.1:Int)):=dC
theorem kinds_new (X:∀w' b,Ext w w'->KindsR w' b->w.heap.size<=b->K (.map (some b)) w'):vcall J7 #[] w K:=by
 refine zf {loops:=[(3,[48])]} Tryz.func35 ?_;refine yT0 jK λb w1 hb hm he hs=>?_;have J:KS w w1 b (λ_=>False):=⟨he,oM,[],hm,λ_ h=>h.elim,λ_ h=>by cases h⟩;simp only[push_cast];refine J.set dC (kind_un (.inl rfl) dC) λw2 L _=>?_;refine L.set dC (kind_un (.inr rfl) dC) λw3 N _=>?_;refine N.set dC (kind_cat dC) λw4 O _=>?_;refine O.set dC (kind_cmp dC dC dC) λw5 Q _=>?_;refine Q.set dC (kind_cmp dC dC dC) λw6 R _=>?_;refine R.set dC (kind_cmp dC dC dC) λw7 S _=>?_;refine S.set dC kind_vec λw8 T _=>?_;refine T.set dC kind_name λw9 U _=>?_;refine U.set dC (kind_cut dC) λw10 V _=>?_;refine V.set dC (kind_if dC) λY l _=>?_;refine l.set dC (kind_bool (m:=0) dC rfl qW0 rfl (.inl rfl) val24) λZ n _=>?_;refine n.set dC (kind_bool (m:=1) dC rfl kinds2_fn rfl (.inr dC) val25) λa0 p _=>?_;refine p.set dC (kind_bool (m:=2) dC rfl kinds3_fn rfl (.inr dC) val26) λa1 q _=>?_;refine q.set dC (kind_bool (m:=2) dC rfl kinds4_fn rfl (.inr dC) val27) λa2 g _=>?_;refine vbuildS_row1 (xs:=binWords.map .string) kS rK kR (λx B=>by obtain⟨s,_,rfl⟩:=gy.1 B;rfl) dC λbs D F j G t=>?_;have d:Vals (· =bs) D (.slice (some ⟨bs,0,none⟩) (binWords.map Value.string).length (binWords.map Value.string).length) (binWords.map Value.string):=t.sl1 rfl dC;have r:=g.ext j;have v:bs≠b:=by
  obtain⟨_,_,f,hm,_⟩:=g;have:=hm.lt;omega
 have hlen:(binWords.map Value.string).length=11:=rfl;simp only[push_cast,d.len];rw[hlen];rw[hlen] at d;refine vloop_up 11 (λi u w'=>u=[nI i]/\Vals (· =bs) w' (.slice (some ⟨bs,0,none⟩) 11 11) (binWords.map Value.string)/\KS w w' b λx=>(3<=x/\x<3+(i:Int))\/x=27\/x=26\/x=25\/x=24\/x=23\/x=22\/x=21\/x=20\/x=17\/x=16\/x=15\/x=14\/x=2\/x=1) ⟨rfl,d,r.congr λx=>by simp only[Gg];constructor<;>intro h<;>omega⟩ ?_;rintro i _ _ E C hi ⟨rfl,A,k⟩ W;simp only[push_cast];refine zb (λa=>?_) (λa=>?_)
 ·have c:i<11:=oM;have H:(binWords.map Value.string).getD i undef= .string (binWords.getD i ⟨#[]⟩):=M.getD_map _ (show i<binWords.length from c) _ _;have I:IntKind.i64.wrap (3+(i:Int))=3+(i:Int):=zj oM oM;rw[A.iaddr rK oM (by rw[hlen];omega),gw,A.load rK (by rw[hlen];omega),H];simp only[push_cast,I];refine k.set oM (kind_bin oM oM (kU0 ⟨i,c⟩)) λa3 y z=>?_
  try simp only[push_cast]
  rw[inc64' oM];exact W c _ _ ⟨rfl,A.same z λx B _ e=>v (B.symm.trans e),y.congr λx=>by constructor<;>intro h<;>omega⟩
 ·have:i=11:=oM;subst this;refine X E b k.1 (k.kinds λo=>?_) k.2.1;constructor
  ·intro h;have:(1<=o/\o<=17)\/(20<=o/\o<=27):=oM;unfold M.arity
   repeat' split
   all_goals omega
  ·intro h;have:=M.arity_ops h;omega
theorem W1 (d:∀w' b,Ext w w'->KindsR w' b->K (.map (some b)) w'):vcall J7 #[] w K:=kinds_new λw' b a c _=>d w' b a c
end
section
variable {w:World} {K:oK} {F G:Nat->Prop}
theorem stTerm {b:Nat} {cs cs':List Value} {t:TypeId} {t':M.Tm} (h:Blk w b cs t) (f:cs.length=5) (d:TmR F w cs' t') (c:∀w',Same (· =b) w w'->w'.heap.size=w.heap.size->Blk w' b cs' t->K undef w'):zI za (oP b 0) (.agg ⟨cs'⟩) w K:=by
 obtain⟨kv,rfl,e⟩:=d.inv;obtain⟨css,hs,_⟩:=e;refine h.stAgg (by simp[f]) zc ?_ c;intro v a;simp only[gj,gC,Gg] at a;rcases a with rfl|rfl|rfl|rfl|rfl
 ·rfl
 ·rfl
 ·rfl
 ·rfl
 ·exact hs.one
theorem zU {cs:List Value} {t:M.Tm} (h:TmR F w cs t):cs.length=5:=by
 obtain⟨kv,rfl,_⟩:=h.inv;rfl
theorem xz0 {v:Value} {t:M.Tm} (m:TermR F w v t) (i:∀w',Ext w w'->K (.bool (M.plainM t)) w'):vcall J6 #[v] w K:=by
 refine zf {cuts:=[(8194,[3])]} Tryz.func80 ?_;obtain⟨ksv,rfl,k⟩:=m;refine zk λb1 w1 j h l e=>?_;have d:=i _ h;unfold M.plainM at d;refine zo (λu w'=>u=[.bool (decide (t.op=20)||decide (t.op=22)||(decide (t.a=0)&&decide (t.b=0)))]/\w'=w1) (λC f=>?_) ?_
 ·simp only[push_cast,e.ld0,e.ld1,e.ld2];refine zb (λa=>?_) (λa=>?_)
  ·exact f _ _ ⟨by rw[gn a];rfl,rfl⟩
  refine zb (λb=>?_) (λb=>?_)
  ·exact f _ _ ⟨by rw[gn b];simp,rfl⟩
  refine zb (λc=>?_) (λc=>?_)
  ·exact f _ _ ⟨by rw[gk a,gk b,gn c];rfl,rfl⟩
  ·exact f _ _ ⟨by rw[gk a,gk b,gk c];rfl,rfl⟩
 ·rintro u g w2 ⟨rfl,rfl⟩;simp only[push_cast,e.ld0,e.ld3];refine zn (λa=>?_) (λa=>?_)
  ·rw[a,pz] at d;refine zb (λb=>?_) (λb=>?_)
   ·rwa[gn b,Bool.true_or] at d
   ·rw[gk b,z0j] at d;exact d
  ·rwa[a,GW] at d
theorem Ks {mb:Nat} {o:Int} {ok:Bool} (h:KindsR w mb) (d:0<=M.arity o) (b:∀v,KindR o v->K (if ok then .tuple #[v,.bool true] else v) w):Xs zS (.map (some mb)) (nI o) ok w K:=by
 obtain⟨f,hm,a,g⟩:=h;obtain⟨v,e,c⟩:=a o d;rw[Xr jK hm (xw o) e];exact b v c
theorem qS0 {mb:Nat} {o:Int} (h:KindsR w mb) (d: ¬0<=M.arity o) (b:K (.tuple #[.nilIface,.bool false]) w):Xs zS (.map (some mb)) (nI o) true w K:=by
 obtain⟨f,hm,i,a⟩:=h;rw[z80 jK (z:= .nilIface) (by unfold yi;kernel_rfl) hm (xw o) λv g=>?_]
 ·exact b
 ·obtain⟨o',e,c⟩:=a _ g;cases e;exact d c
theorem xH0 {mb:Nat} {o:Int} {w w2:World} {N:oK} (h:KindsR w mb) (i:0<=M.arity o) (he:Ext w w2) (e:∀v,KindR o v->(∀a,Ext w a->Xs zS (.map (some mb)) (nI o) false a λx y=>x=v/\y=a)->N v w):Xs zS (.map (some mb)) (nI o) false w N:=by
 obtain⟨f,hm,d,j⟩:=h;obtain⟨v,c,g⟩:=d o i;rw[Xr jK hm (xw o) c];refine e v g λa b=>?_;rw[Xr jK (hm.ext b) (xw o) c];exact⟨rfl,rfl⟩
theorem Z7 {α β:Type} (f:α->β) {l:List α} {i:Nat} (h:i<l.length) (d:α):(l.take i).map f++[f (l.getD i d)]=(l.take (i+1)).map f:=by
 rw[po,gl h,gE,X0,gl h];rfl
theorem sortOf_spec:∀(t:M.Tm) {w:World} {K:oK} {F G:Nat->Prop} {mb:Nat} {dv v:Value} {ds:List M.Dcl},KindsR w mb->DclsR F w dv ds->M.declOk ds=true->TermR G w v t->
  (∀w',Ext w w'->K (nI (M.sortM ds t)) w')->vcall jF #[.map (some mb),dv,v] w K:=by
 refine M.Tm.ind λt ih w K F G mb dv v ds hm hd N ht U=>?_;apply UP;obtain⟨ksv,rfl,m⟩:=ht;refine zk λb1 w1 a3 l a6 D=>?_;have J:=hm.ext l;simp only[push_cast,D.ld0];have A: ¬(M.formed t=true)->∀w',Ext w w'->K (nI (-1)) w':=λhn w' he=>by
  have:=U w' he;rw[M.sortM_eq] at this;unfold M.sortF at this;rwa[q0 (λh=>hn h.1)] at this
 by_cases Y: ¬0<=M.arity t.op
 ·have T:=Y;refine qS0 J T ?_;simp only[push_cast];refine zo (λ_ _=>False) (λC S=>?_) (λ_ _ _ h=>h.elim);refine zd λw2 c _=>?_;simp only[push_cast,Q1];refine A (λh=>T ?_) _ (l.trans c);simp only[M.formed,gp,gd] at h;omega
 have T:0<=M.arity t.op:=oM
 refine Ks J T λkv I=>?_;simp only[push_cast,if_true];have a9:=m.small;refine zo (λu w'=>u=[]/\Ext w1 w'/\M.formed t=true) (λC S=>?_) ?_
 ·refine zd λw2 c _=>?_;have E:=D.ext c;simp only[push_cast,E.ld4,m.len,Q1];refine I.kids _ _ λw3 d=>?_;have R:=E.ext d;simp only[push_cast,R.ld4,m.len,Q1,gm];refine zb (λa=>?_) (λa=>?_)
  ·refine A (λh=>?_) _ ((l.trans c).trans d);simp only[M.formed,gp,gd] at h;omega
  ·simp only[push_cast,R.ldAgg (t:=za) zc,Q1];refine xz0 (F:=G) (t:=t) ⟨ksv,rfl,m.ext ((l.trans c).trans d)⟩ λw4 e=>?_;simp only[push_cast,Q1];refine zn (λb=>?_) (λb=>?_)
   ·refine A (λh=>?_) _ (((l.trans c).trans d).trans e);simp only[M.formed,gp] at h;rw[h.2] at b;cases b
   ·refine S _ _ ⟨rfl,(c.trans d).trans e,?_⟩;simp only[M.formed,gp,gd];exact⟨oM,by simpa using b⟩
 ·rintro u g w2 ⟨rfl,c,hf⟩;have E:=D.ext c;have hE:=l.trans c;have ab:=hE.size;simp only[push_cast,E.ld4,m.len];have H:=hf;simp only[M.formed,gp,gd] at H;have a2:t.ks.length<=3:=by
   have D:=H.1;unfold M.arity at D
   repeat' split at D
   all_goals omega
  refine vloop_up t.ks.length (λi u w'=> ∃sv,u=[sv,nI i]/\Ext w2 w'/\OwnI zg w' sv ((t.ks.take i).map (M.sortM ds))/\(∀b,sv.ownBlock=some b->w2.heap.size<=b)/\(∀x,x∈(t.ks.take i).map (M.sortM ds)->x≠ -1)) ⟨_,rfl,Same.refl _ _,OwnI.nil,(λb h=>by cases h),by simp⟩ ?_;rintro i _ _ w3 C hi ⟨sv,rfl,d,B,L,n⟩ S;have k:=hE.trans d;have o:=m.ext k;simp only[push_cast];refine zb (λa=>?_) (λa=>?_)
  ·simp(disch:=exact oS) only[push_cast,o.iaddr];refine o.load zc oM λx r=>?_;obtain⟨cs,rfl,s⟩:=r.cells;refine zi zp λb2 w4 a4 e a7 h4=>?_;refine stTerm h4 rfl (s.ext e) λw5 Z aa h5=>?_;have p:Ext w3 w5:=Ext.then e Z λy Q=>by subst Q;omega
   rw[h5.ldAgg (t:=za) (by rw[zU s];exact zc)];refine ih _ (M.getD_mem oM _) (hm.ext (k.trans p)) (hd.ext (k.trans p)) N (s.ext p).term λw6 V=>?_;simp only[push_cast];have f:=p.trans V;refine zb (λb=>?_) (λb=>?_)
   ·have:=U _ (k.trans f);rw[M.sortM_eq] at this;unfold M.sortF at this;rwa[q0 (λh=>h.2 (b▸Gh (M.getD_mem oM _)))] at this
   ·refine qq yW yL xo rfl rfl dC λb3 w7 a5 z a8 h7=>?_;have O:=(B.ext f).ext z;have hlen:((t.ks.take i).map (M.sortM ds)).length=i:=by rw[V0,gi];omega
    refine O.app1 xp h7 (by rw[hlen];omega) (by rw[hlen];omega) λa1 w8 q a0 X=>?_
    try simp only[push_cast]
    rw[inc64' oM];rw[Z7 _ oM] at q;refine S oM _ _ ⟨a1,rfl,Ext.then ((d.trans f).trans z) a0 λy Q=>L y Q,q,λy Q=>?_,λx r=>?_⟩
    ·rcases X y Q with h|h
     ·exact L y h
     ·have:=(d.trans f).size;have:=z.size;omega
    ·rw[<-Z7 _ oM default] at r;rcases gr.1 r with r|r
     ·exact n x r
     ·rw[gz.1 r];exact b
  ·have W:i=t.ks.length:=oM;subst W;rw[gF] at B n;have R:=E.ext d;simp only[push_cast,R.ldAgg (t:=za) zc];refine I.sort _ _ F G _ _ _ _ ds t _ rfl (hd.ext k) ⟨ksv,rfl,o⟩ B.ints (by rw[V0];omega) (λj=>?_) λw4 e=>?_
   ·by_cases hj:j<t.ks.length
    ·rw[M.getD_map _ hj 0 default];exact M.sort_range N _
    ·rw[X0,Pv (by simpa using hj)];simp
   ·have:=U _ (k.trans e);rw[M.sortM_eq] at this;unfold M.sortF at this;rwa[K3 ⟨hf,λh=>n _ h rfl⟩] at this
def nnB:M.Tm->Bool:=M.Tm.fold λt xs=>decide (t.op≠21)&&xs.all id
theorem Yh0 (t:M.Tm):nnB t=(decide (t.op≠21)&&(t.ks.map nnB).all id):=M.Tm.fold_eq _ t
theorem nnB_iff {t:M.Tm}:nnB t=true↔t.op≠21/\∀k,k∈t.ks->nnB k=true:=by
 rw[Yh0,gp,gd,gY];refine and_congr_right λ_=>⟨λh k a=>h _ (Gh a),λh y b=>?_⟩;obtain⟨k,a,rfl⟩:=gy.1 b;exact h k a
theorem valueOf_specG:∀(t:M.Tm) {w:World} {K:oK} {F G:Nat->Prop} {mb:Nat} {dv v ev:Value} {ds:List M.Dcl} {env:List Int},KindsR w mb->DclsR F w dv ds->M.envOk ds env=true->((∃eb,ev= .map (some eb)/\EnvM w eb ds env)\/nnB t=true)->TermR G w v t->M.sortM ds t≠ -1->
  (∀w',Ext w w'->K (xW (M.sortM ds t) (M.evalM ds env t)) w')->vcall kO #[.map (some mb),dv,v,ev] w K:=by
 refine M.Tm.ind λt ih w K F G mb dv v ev ds env hm hd B hE ht p hK=>?_;have a4:=(M.env_ok B).1;apply VH;obtain⟨ksv,rfl,o⟩:=ht;obtain⟨hf,n,a5⟩:=M.sort_parts p;have L:=hf;simp only[M.formed,gp,gd] at L;have a9:t.ks.length<=3:=by
  have Y:=L.1;unfold M.arity at Y
  repeat' split at Y
  all_goals omega
 have ho:0<=M.arity t.op:=oM
 refine zk λb1 w1 aa I ae Y=>?_;refine zi zX λb2 w2 ab J af h2=>?_;have q1:=Y.ext J;have H:=I.trans J;have aj:=H.size;have ai:=o.small;simp only[push_cast,q1.ld4,o.len];refine vloop_up t.ks.length (λi u w'=> ∃sv,u=[sv,nI i]/\Ext w2 w'/\OwnP xI w' sv ((t.ks.take i).map (M.vecM ds env))/\(∀b,sv.ownBlock=some b->w2.heap.size<=b)) ⟨_,rfl,Same.refl _ _,OwnP.nil _,λb h=>by cases h⟩ ?_;rintro i _ _ w3 C hi ⟨sv,rfl,l,D,T⟩ hC;have f:=H.trans l;have r:=o.ext f;have ak:=l.size;simp only[push_cast];refine zb (λa=>?_) (λa=>?_)
 ·simp(disch:=exact oS) only[push_cast,r.iaddr];refine r.load zc oM λx hx=>?_;obtain⟨cs,rfl,z⟩:=hx.cells;refine zi zp λb3 w4 ac d ag h4=>?_;refine stTerm h4 rfl (z.ext d) λw5 a6 al h5=>?_;have c:Ext w3 w5:=Ext.then d a6 λy E=>by subst E;omega
  rw[h5.ldAgg (t:=za) (by rw[zU z];exact zc)];refine ih _ (M.getD_mem oM _) (hm.ext (f.trans c)) (hd.ext (f.trans c)) B (hE.imp (λ⟨eb,e,h⟩=>⟨eb,e,h.ext (f.trans c)⟩) λh=>(nnB_iff.1 h).2 _ (M.getD_mem oM _)) (z.ext c).term (n _ (M.getD_mem oM _)) λw6 q=>?_;have m:=c.trans q;refine qq yo0 xp0 zX rfl rfl dC λb4 w7 ad A ah h7=>?_;have W:=(D.ext m).ext A;have hlen:((t.ks.take i).map (M.vecM ds env)).length=i:=by rw[V0,gi];omega
  refine Own.app1k W yI0 dC h7 rfl (by intro v hv;simp only[gj,gC,Gg] at hv;rcases hv with rfl|rfl<;>rfl) (by rw[V0,hlen];omega) (by rw[V0,hlen];omega) λX w8 U a8 a3=>?_;rw[inc64' oM];have V:OwnP xI w8 X ((t.ks.take (i+1)).map (M.vecM ds env)):=by
   unfold OwnP;rw[<-Z7 _ oM default,gE,M.vecM_pair ds env (t.ks.getD i default)];exact U
  refine hC oM _ _ ⟨X,rfl,Ext.then ((l.trans m).trans A) a8 λy E=>T y E,V,λy E=>?_⟩;rcases a3 y E with h|h
  ·exact T y h
  ·have:=m.size;have:=A.size;omega
 ·have a0:i=t.ks.length:=oM;subst a0;rw[gF] at D;refine zd λw4 d _=>?_;have q4:=(q1.ext l).ext d;have g:=f.trans d;have R:=o.ext g;simp only[push_cast,q4.ld0,q4.ldAgg (t:=za) zc,Q1];refine xH0 (hm.ext g) ho (Same.refl _ _) λkv a1 a2=>⟨rfl,?_⟩;refine sortOf_spec t (hm.ext g) (hd.ext g) a4 ⟨ksv,rfl,R⟩ λw5 c=>?_;have q5:=q4.ext c;simp only[push_cast,q5.ld0,q5.ldAgg (t:=za) zc,Q1,gm];refine⟨a2 _ c,?_⟩;have s:=g.trans c;have S:(t.ks.map (M.vecM ds env)).length=t.ks.length:=V0 _;have O:∀j,j<t.ks.length->(t.ks.map (M.vecM ds env)).getD j (0,0)=(M.sortM ds (t.ks.getD j default),M.evalM ds env (t.ks.getD j default)):=λj Q=>(by rw[M.getD_map _ Q _ default,M.vecM_pair]);have N:(t.ks.map (M.vecM ds env)).map (·.1)=t.ks.map (M.sortM ds):=by
   rw[GY];exact Gp λk _=>M.vecM_sort ds env k
  refine a1.value _ _ G _ _ _ _ ds env t _ rfl (λZ=>hE.elim (λ⟨eb,e,h⟩=>⟨eb,e,h.ext s⟩) λh=>absurd Z (nnB_iff.1 h).1) ⟨ksv,rfl,o.ext s⟩ ((D.ext (d.trans c)).pairs) (by rw[S];omega) (λj Q=>?_) (by rw[N,<-a5];exact p) λw6 q=>?_
  ·rw[S] at Q;rw[O j Q];exact M.eval_in B _ (n _ (M.getD_mem Q _))
  ·simp only[push_cast,Q1];have h6:=(((h2.ext l).ext d).ext c).ext q;refine stVec h6 λw7 a7 _ h7=>?_;rw[h7.lv rK];have hX:Ext w w7:=Ext.then (s.trans q) a7 λy E=>by subst E;have:=I.size;omega
   have:=hK w7 hX;rw[M.evalM_eq] at this;exact this
theorem count_spec:∀(t:M.Tm) {w:World} {K:oK} {F:Nat->Prop} {v:Value} {m deep mb:Nat} {ty:TypeId},TermR F w v t->Blk w mb [nI m] ty->(∀b,F b->b≠mb)->m<=20->1<=deep->deep<=8->
  (∀w' (r B:Nat),Same (· =mb) w w'->Blk w' mb [nI B] ty->m<B->B<=21->deep<=r->r<=8->(m+M.sizeM t<=20/\deep-1+M.deepM t<=7->B=m+M.sizeM t/\r=deep-1+M.deepM t)->(¬(m+M.sizeM t<=20/\deep-1+M.deepM t<=7)->20<B\/7<r)->K (nI r) w')->
  vcall zN0 #[v,nI deep,oP mb 0] w K:=by
 refine M.Tm.ind λt ih w K F v m deep mb ty ht E hF hm a2 a3 J=>?_;refine zf {loops:=[(6,[7,22])]} Tryz.func76 ?_;obtain⟨ksv,rfl,n⟩:=ht;refine zk λb1 w1 a0 p a9 X=>?_;have o:=E.ext p;have V:=E.lt;have ab:=n.small;have hS:=M.szT_all t;have hD:=M.dpT_all t;simp only[push_cast,o.ld0];rw[inc64' oM];refine o.st (i:=0) rfl rfl yL rfl λw2 A ac D=>?_;have s:Same (· =mb) w w2:=(Same.of_ext p).trans A;have q2:=X.same A oM;replace D:Blk w2 mb [nI (m+1:Nat)] ty:=D;refine zb (λa=>?_) (λa=>?_)
 ·exact J w2 deep (m+1) s D oM oM oM oM (λh=>oM) (λh=>oM)
 simp only[push_cast,q2.ld4,n.len];refine vloop_up t.ks.length (λi u w'=> ∃r mi:Nat,u=[nI r,nI i]/\Same (· =mb) w2 w'/\Blk w' mb [nI mi] ty/\m<mi/\mi<=21/\deep<=r/\r<=8/\(m+1+M.szT t.ks i<=20/\deep+M.dpT t.ks i<=7->mi=m+1+M.szT t.ks i/\r=deep+M.dpT t.ks i)/\(¬(m+1+M.szT t.ks i<=20/\deep+M.dpT t.ks i<=7)->20<mi\/7<r))
  ⟨deep,m+1,rfl,Same.refl _ _,D,oM,oM,oM,oM,λh=>by simp[M.szT,M.dpT],λh=>by
   have T:M.szT t.ks 0=0:=rfl;have e2:M.dpT t.ks 0=0:=rfl;omega⟩ ?_
 rintro i _ _ G C hi ⟨r,mi,rfl,z,I,c1,c2,c3,R,H,S⟩ hC;have d:Same (· =mb) w G:=s.trans z;have g:TmsR F G ksv t.ks:=n.same d λb E _ e=>hF b E e;have ad:=d.size;simp only[push_cast];refine zb (λb=>?_) (λb=>?_)
 ·have a5:=M.szT_mono (ks:=t.ks) (i:=i) (j:=t.ks.length) oM (gB _);have a6:=M.dpT_mono (ks:=t.ks) (i:=i) (j:=t.ks.length) oM (gB _);have a7:=M.szT_succ (ks:=t.ks) (i:=i) oM;have a8:=M.dpT_succ (ks:=t.ks) (i:=i) oM;simp(disch:=exact oS) only[push_cast,g.iaddr];refine g.load zc oM λx hx=>?_;obtain⟨cs,rfl,l⟩:=hx.cells;refine zi zp λb2 w4 a1 q aa Y=>?_;refine stTerm Y rfl (l.ext q) λW O ae Z=>?_;have f:Ext G W:=Ext.then q O λy hy=>by subst hy;omega
  have k:=I.ext f;have a4:=I.lt;simp only[push_cast,k.ld0];refine zb (λc=>?_) (λc=>?_)
  ·exact J W r mi (d.trans (Same.of_ext f)) k c1 c2 c3 R (λh=>oM) (λh=>oM)
  ·rw[Z.ldAgg (t:=za) (by rw[zU l];exact zc)];have T:IntKind.i64.wrap ((deep:Int)+1)=((deep+1:Nat):Int):=inc64' oM;rw[T];refine ih _ (M.getD_mem oM _) (l.ext f).term k hF oM oM oM λw6 Q m2 N h6 d1 d2 d3 d4 d5 d6=>?_;simp only[push_cast];rw[inc64' oM,show max (r:Int) (Q:Int)=((max r Q:Nat):Int) by omega];refine hC oM _ _ ⟨max r Q,m2,rfl,(z.trans (Same.of_ext f)).trans N,h6,oM,d2,oM,oM,λh=>?_,λh=>?_⟩
   ·have:=H oM;have:=d5 oM;omega
   ·by_cases U:m+1+M.szT t.ks i<=20/\deep+M.dpT t.ks i<=7
    ·have:=H U;have:=d6 oM;omega
    ·have:=S U;omega
 ·have L:i=t.ks.length:=oM;subst L;refine J G r mi d I c1 c2 c3 R (λh=>?_) (λh=>?_)
  ·have:=H oM;omega
  ·exact S oM
theorem TermMany_spec {v:Value} {t:M.Tm} (A:TermR F w v t) (H:∀w',Ext w w'->K (.tuple #[nI (M.manyM t),nI (M.lvlM t)]) w'):vcall Kl #[v] w K:=by
 refine zf {} Tryz.func42 ?_;have s:=A.weaken (F':=λb=>b<w.heap.size) λb _ h=>h;obtain⟨ksv,rfl,L⟩:=A;refine zk λb1 w1 I o N E=>?_;refine xA xo λb2 w2 J g O l=>?_;replace l:Blk w2 b2 [nI 0] zV:=l;refine l.st (i:=0) rfl rfl yL rfl λB k Q n=>?_;replace n:Blk B b2 [nI ((0:Nat):Int)] zV:=n;have S:=(E.ext g).same k oM;have j:Ext w B:=Ext.then (o.trans g) k λy x=>by subst x;omega
 rw[S.ldAgg (t:=za) zc];refine count_spec t (m:=0) (deep:=1) (s.ext j) n (λb V e=>oM) oM oM oM λC r R q G c1 c2 c3 T f D=>?_;have p:Ext w C:=Ext.then j q λy x=>by subst x;omega
 have d:=H C p;have c:M.fits t=true↔M.sizeM t<=20/\M.deepM t<=7:=M.fits_iff;unfold M.manyM M.lvlM at d;simp only[push_cast,G.ld0];refine zb (λa=>?_) (λa=>?_)
 ·rw[q0 (λh=>by have u:=c.1 h;have:=f oM;omega),q0 (λh=>by have u:=c.1 h;have:=f oM;omega)] at d;exact d
 ·refine zb (λb=>?_) (λb=>?_)
  ·rw[q0 (λh=>by have u:=c.1 h;have:=f oM;omega),q0 (λh=>by have u:=c.1 h;have:=f oM;omega)] at d;exact d
  ·have z:M.sizeM t<=20/\M.deepM t<=7:=by
    by_cases h:M.sizeM t<=20/\M.deepM t<=7
    ·exact h
    ·have:=D oM;omega
   have U:=f oM;rw[K3 (c.2 z),K3 (c.2 z)] at d;rw[show R=M.sizeM t by omega,show r=M.deepM t by omega];exact d
end
end Go.Proofs.YtjkkiaacmedfdaaGreatDoor
namespace Go.Proofs
open Go.Shelf
def YtjkkiaacmedfdaaGreatDoor.sortL_ren:Go.Shelf.Ren:=⟨λ|6=>284 |15=>300 |14=>299 |28=>320 |29=>321 |20=>312 |21=>313 |22=>314 |23=>315 |24=>316 |25=>317 |26=>318 |27=>319 |46=>326 |47=>327 |48=>328 |49=>329 |50=>330 |57=>333 |n=>n,λ|22=>29 |24=>3 |25=>121 |3=>3 |39=>286 |0=>0 |53=>361 |55=>227 |4=>4 |46=>371 |45=>370 |50=>75 |5=>5 |9=>9 |66=>379 |70=>127 |76=>384 |77=>63 |n=>n,λ|n=>n⟩
theorem YtjkkiaacmedfdaaGreatDoor.sortL:Go.Proofs.SlLaysF.n6 Tryz.prog YtjkkiaacmedfdaaGreatDoor.sortL_ren:={
 mixed:=rK
 f6:=⟨Tryz.f284.name,dC,Tryz.func284.trans (congrArg some rK)⟩
 f14:=⟨Tryz.f299.name,dC,Tryz.func299.trans (congrArg some rK)⟩
 f15:=Tryz.func300.trans (congrArg some rK)
 f20:=⟨Tryz.f312.name,dC,Tryz.func312.trans (congrArg some rK)⟩
 f21:=⟨Tryz.f313.name,dC,Tryz.func313.trans (congrArg some rK)⟩
 f22:=⟨Tryz.f314.name,dC,Tryz.func314.trans (congrArg some rK)⟩
 f23:=⟨Tryz.f315.name,dC,Tryz.func315.trans (congrArg some rK)⟩
 f24:=⟨Tryz.f316.name,dC,Tryz.func316.trans (congrArg some rK)⟩
 f25:=⟨Tryz.f317.name,dC,Tryz.func317.trans (congrArg some rK)⟩
 f26:=⟨Tryz.f318.name,dC,Tryz.func318.trans (congrArg some rK)⟩
 f27:=⟨Tryz.f319.name,dC,Tryz.func319.trans (congrArg some rK)⟩
 f28:=Tryz.func320.trans (congrArg some rK)
 f29:=Tryz.func321.trans (congrArg some rK)
 f46:=⟨Tryz.f326.name,dC,Tryz.func326.trans (congrArg some rK)⟩
 f47:=Tryz.func327.trans (congrArg some rK)
 f48:=Tryz.func328.trans (congrArg some rK)
 f49:=⟨Tryz.f329.name,dC,Tryz.func329.trans (congrArg some rK)⟩
 f50:=⟨Tryz.f330.name,dC,Tryz.func330.trans (congrArg some rK)⟩
 f57:=⟨Tryz.f333.name,dC,Tryz.func333.trans (congrArg some rK)⟩
 t0:=Tryz.underlying0
 a0:=Tryz.isAgg0
 z0:=Tryz.sizeOf0
 v0:=Tryz.zeroValue0
 t3:=Tryz.underlying3
 a3:=Tryz.isAgg3
 z3:=Tryz.sizeOf3
 v3:=Tryz.zeroValue3
 t4:=Tryz.underlying4
 a4:=Tryz.isAgg4
 z4:=Tryz.sizeOf4
 v4:=Tryz.zeroValue4
 t5:=Tryz.underlying5
 a5:=Tryz.isAgg5
 z5:=Tryz.sizeOf5
 v5:=Tryz.zeroValue5
 t9:=Tryz.underlying9
 a9:=Tryz.isAgg9
 z9:=Tryz.sizeOf9
 v9:=Tryz.zeroValue9
 t22:=Tryz.underlying29
 a22:=Tryz.isAgg29
 z22:=Tryz.sizeOf29
 v22:=Tryz.zeroValue29
 a24:=Tryz.isAgg3
 z24:=Tryz.sizeOf3
 t25:=Tryz.underlying121
 a25:=Tryz.isAgg121
 z25:=Tryz.sizeOf121
 v25:=Tryz.zeroValue121
 t39:=Tryz.underlying286
 a39:=Tryz.isAgg286
 z39:=Tryz.sizeOf286
 v39:=Tryz.zeroValue286
 t45:=Tryz.underlying370
 a45:=Tryz.isAgg370
 z45:=Tryz.sizeOf370
 v45:=Tryz.zeroValue370
 t46:=Tryz.underlying371
 a46:=Tryz.isAgg371
 z46:=Tryz.sizeOf371
 v46:=Tryz.zeroValue371
 t50:=Tryz.underlying75
 a50:=Tryz.isAgg75
 z50:=Tryz.sizeOf75
 v50:=Tryz.zeroValue75
 t53:=Tryz.underlying361
 a53:=Tryz.isAgg361
 z53:=Tryz.sizeOf361
 v53:=Tryz.zeroValue361
 t55:=Tryz.underlying227
 a55:=Tryz.isAgg227
 z55:=Tryz.sizeOf227
 v55:=Tryz.zeroValue227
 t66:=Tryz.underlying379
 a66:=Tryz.isAgg379
 z66:=Tryz.sizeOf379
 v66:=Tryz.zeroValue379
 t70:=Tryz.underlying127
 a70:=Tryz.isAgg127
 z70:=Tryz.sizeOf127
 v70:=Tryz.zeroValue127
 t76:=Tryz.underlying384
 a76:=Tryz.isAgg384
 z76:=Tryz.sizeOf384
 v76:=Tryz.zeroValue384
 t77:=Tryz.underlying63
 a77:=Tryz.isAgg63
 z77:=Tryz.sizeOf63
 v77:=Tryz.zeroValue63}
def YtjkkiaacmedfdaaGreatDoor.trimL_ren:Go.Shelf.Ren:=⟨λ|160=>77 |232=>111 |231=>110 |227=>112 |234=>114 |233=>113 |236=>116 |235=>115 |228=>146 |271=>149 |151=>148 |197=>147 |120=>191 |152=>190 |260=>189 |137=>219 |119=>220 |224=>221 |225=>222 |217=>254 |266=>287 |n=>n,λ|9=>9 |4=>4 |3=>3 |5=>5 |117=>171 |116=>170 |0=>0 |124=>174 |21=>21 |105=>210 |46=>286 |119=>285 |139=>289 |138=>288 |n=>n,λ|3=>4 |4=>5 |n=>n⟩
theorem YtjkkiaacmedfdaaGreatDoor.trimL:Go.Proofs.Lays.n160 Tryz.prog YtjkkiaacmedfdaaGreatDoor.trimL_ren:={
 mixed:=rK
 f119:=Tryz.func220.trans (congrArg some rK)
 f120:=Tryz.func191.trans (congrArg some rK)
 f137:=Tryz.func219.trans (congrArg some rK)
 f151:=Tryz.func148.trans (congrArg some rK)
 f152:=Tryz.func190.trans (congrArg some rK)
 f160:=Tryz.func77.trans (congrArg some rK)
 f197:=Tryz.func147.trans (congrArg some rK)
 f217:=Tryz.func254.trans (congrArg some rK)
 f224:=Tryz.func221.trans (congrArg some rK)
 f225:=Tryz.func222.trans (congrArg some rK)
 f227:=Tryz.func112.trans (congrArg some rK)
 f228:=Tryz.func146.trans (congrArg some rK)
 f231:=Tryz.func110.trans (congrArg some rK)
 f232:=Tryz.func111.trans (congrArg some rK)
 f233:=Tryz.func113.trans (congrArg some rK)
 f234:=Tryz.func114.trans (congrArg some rK)
 f235:=Tryz.func115.trans (congrArg some rK)
 f236:=Tryz.func116.trans (congrArg some rK)
 f260:=Tryz.func189.trans (congrArg some rK)
 f266:=Tryz.func287.trans (congrArg some rK)
 f271:=Tryz.func149.trans (congrArg some rK)
 t0:=Tryz.underlying0
 a0:=Tryz.isAgg0
 z0:=Tryz.sizeOf0
 v0:=Tryz.zeroValue0
 t3:=Tryz.underlying3
 a3:=Tryz.isAgg3
 z3:=Tryz.sizeOf3
 v3:=Tryz.zeroValue3
 t4:=Tryz.underlying4
 a4:=Tryz.isAgg4
 z4:=Tryz.sizeOf4
 v4:=Tryz.zeroValue4
 t5:=Tryz.underlying5
 a5:=Tryz.isAgg5
 z5:=Tryz.sizeOf5
 v5:=Tryz.zeroValue5
 t9:=Tryz.underlying9
 a9:=Tryz.isAgg9
 z9:=Tryz.sizeOf9
 v9:=Tryz.zeroValue9
 t21:=Tryz.underlying21
 a21:=Tryz.isAgg21
 z21:=Tryz.sizeOf21
 v21:=Tryz.zeroValue21
 t46:=Tryz.underlying286
 a46:=Tryz.isAgg286
 z46:=Tryz.sizeOf286
 v46:=Tryz.zeroValue286
 t105:=Tryz.underlying210
 a105:=Tryz.isAgg210
 z105:=Tryz.sizeOf210
 v105:=Tryz.zeroValue210
 t116:=Tryz.underlying170
 a116:=Tryz.isAgg170
 z116:=Tryz.sizeOf170
 t117:=Tryz.underlying171
 a117:=Tryz.isAgg171
 z117:=Tryz.sizeOf171
 v117:=Tryz.zeroValue171
 t119:=Tryz.underlying285
 a119:=Tryz.isAgg285
 z119:=Tryz.sizeOf285
 t124:=Tryz.underlying174
 a124:=Tryz.isAgg174
 z124:=Tryz.sizeOf174
 v124:=Tryz.zeroValue174
 t138:=Tryz.underlying288
 a138:=Tryz.isAgg288
 z138:=Tryz.sizeOf288
 v138:=Tryz.zeroValue288
 t139:=Tryz.underlying289
 a139:=Tryz.isAgg289
 z139:=Tryz.sizeOf289
 v139:=Tryz.zeroValue289
 g3:=rK
 g4:=rK}
def YtjkkiaacmedfdaaGreatDoor.joinL_ren:Go.Shelf.Ren:=⟨λ|156=>228 |165=>257 |166=>258 |169=>259 |240=>289 |241=>290 |276=>305 |277=>306 |n=>n,λ|31=>117 |9=>9 |3=>3 |4=>4 |0=>0 |20=>20 |72=>321 |76=>322 |70=>319 |37=>22 |75=>93 |127=>344 |164=>358 |5=>5 |80=>295 |n=>n,λ|n=>n⟩
theorem YtjkkiaacmedfdaaGreatDoor.joinL:Go.Proofs.Lays.n156 Tryz.prog YtjkkiaacmedfdaaGreatDoor.joinL_ren:={
 mixed:=rK
 f156:=Tryz.func228.trans (congrArg some rK)
 f165:=Tryz.func257.trans (congrArg some rK)
 f166:=Tryz.func258.trans (congrArg some rK)
 f169:=Tryz.func259.trans (congrArg some rK)
 f240:=Tryz.func289.trans (congrArg some rK)
 f241:=Tryz.func290.trans (congrArg some rK)
 f276:=Tryz.func305.trans (congrArg some rK)
 f277:=Tryz.func306.trans (congrArg some rK)
 t0:=Tryz.underlying0
 a0:=Tryz.isAgg0
 z0:=Tryz.sizeOf0
 v0:=Tryz.zeroValue0
 t3:=Tryz.underlying3
 a3:=Tryz.isAgg3
 z3:=Tryz.sizeOf3
 v3:=Tryz.zeroValue3
 t4:=Tryz.underlying4
 a4:=Tryz.isAgg4
 z4:=Tryz.sizeOf4
 v4:=Tryz.zeroValue4
 t9:=Tryz.underlying9
 a9:=Tryz.isAgg9
 z9:=Tryz.sizeOf9
 v9:=Tryz.zeroValue9
 t20:=Tryz.underlying20
 a20:=Tryz.isAgg20
 z20:=Tryz.sizeOf20
 v20:=Tryz.zeroValue20
 t31:=Tryz.underlying117
 a31:=Tryz.isAgg117
 z31:=Tryz.sizeOf117
 v31:=Tryz.zeroValue117
 t37:=Tryz.underlying22
 a37:=Tryz.isAgg22
 z37:=Tryz.sizeOf22
 v37:=Tryz.zeroValue22
 t70:=Tryz.underlying319
 a70:=Tryz.isAgg319
 z70:=Tryz.sizeOf319
 v70:=Tryz.zeroValue319
 t72:=Tryz.underlying321
 a72:=Tryz.isAgg321
 z72:=Tryz.sizeOf321
 v72:=Tryz.zeroValue321
 t75:=Tryz.underlying93
 a75:=Tryz.isAgg93
 z75:=Tryz.sizeOf93
 v75:=Tryz.zeroValue93
 t76:=Tryz.underlying322
 a76:=Tryz.isAgg322
 z76:=Tryz.sizeOf322
 v76:=Tryz.zeroValue322
 t127:=Tryz.underlying344
 a127:=Tryz.isAgg344
 z127:=Tryz.sizeOf344
 v127:=Tryz.zeroValue344
 t164:=Tryz.underlying358
 a164:=Tryz.isAgg358
 z164:=Tryz.sizeOf358
 v164:=Tryz.zeroValue358}
end Go.Proofs
namespace Go.Proofs.YtjkkiaacmedfdaaGreatDoor
open Go Go.Vc Go.Proofs
section
variable {w:World} {K:oK} {F G:Nat->Prop}
theorem dw_nil {α:Type} {p:α->Bool}:∀{l:List α},l.dropWhile p=[]↔ ∀x,x∈l->p x=true
 |[]=>by simp
 |a::l=>by
  rw[PK];split
  ·rename_i h;rw[dw_nil];constructor
   ·intro b x c;rcases gj.1 c with rfl|c
    ·exact h
    ·exact b x c
   ·intro b x c;exact b x (gu _ c)
  ·rename_i h;constructor
   ·intro b;cases b
   ·intro b;exact absurd (b a gq) h
theorem dw_head {α:Type} {p:α->Bool}:∀{l:List α},l.dropWhile p≠[]->∃x,x∈l.dropWhile p/\p x=false
 |[],h=>absurd rfl h
 |a::l,h=>by
  rw[PK] at h⊢;split
  ·rename_i b;rw[K3 b] at h;exact dw_head h
  ·rename_i b;exact⟨a,gq,by simpa using b⟩
theorem dw_sub {α:Type} {p:α->Bool}:∀{l:List α} {x:α},x∈l.dropWhile p->x∈l
 |[],_,h=>h
 |a::l,x,h=>by
  rw[PK] at h;split at h
  ·exact gu _ (dw_sub h)
  ·exact h
theorem k80 {l cs:List UInt8}:Lib.trimS l cs=[]↔ ∀x,x∈l->cs.contains x=true:=by
 unfold Lib.trimS Lib.trimLeftS Lib.trimRightS;rw[dw_nil];constructor
 ·intro h;by_cases a:∀x,x∈l->cs.contains x=true
  ·exact a
  ·exfalso;have b:List.dropWhile (λx=>cs.contains x) l.reverse≠[]:=λe=>a λx c=>dw_nil.1 e x (PB.2 c);obtain⟨y,g,f⟩:=dw_head b;have d:=h y (PB.2 g);rw[f] at d;cases d
 ·intro h x c;exact h x (PB.1 (dw_sub (PB.1 c)))
def abc:ByteArray:=⟨#[97,98,99,100,101,102,103,104,105,106,107,108,109,110,111,112,113,114,115,116,117,118,119,120,121,122]⟩
theorem abc_in (x:UInt8):abc.data.toList.contains x=(decide (97<=x.toNat)&&decide (x.toNat<=122)):=by
 have a:∀n:Fin 256,abc.data.toList.contains (UInt8.ofNat n.1)=(decide (97<=(UInt8.ofNat n.1).toNat)&&decide ((UInt8.ofNat n.1).toNat<=122)):=by decide+kernel
 have:=a ⟨x.toNat,x.toNat_lt⟩;simpa using this
theorem yb0 {w w':World} (h:Go.RowKit.Below w.heap.size w w'):Ext w w':=⟨h.os,h.tape,h.output,h.size,λb a _=>h.block b a⟩
def zS0 (s:ByteArray):Bool:=s.data.all λc=>decide (97<=c.toNat)&&decide (c.toNat<=122)
theorem jA0 {s:ByteArray} (hs:s.size<=9223372036854775807) (f:∀w' r,Ext w w'->(r=⟨#[]⟩↔zS0 s=true)->K (.string r) w'):vcall KW #[.string s,.string abc] w K:=by
 refine⟨rK,?_⟩;refine(Any.strings_Trim_laid YtjkkiaacmedfdaaGreatDoor.trimL rK s abc w hs dC (ascii_of_all dC)).mono ?_;rintro e w' ⟨rfl,g⟩;refine f w' _ (yb0 g) ?_;have c:((⟨(Lib.trimS s.data.toList abc.data.toList).toArray⟩:ByteArray)=⟨#[]⟩)↔Lib.trimS s.data.toList abc.data.toList=[]:=by
  constructor
  ·intro h;have d:=congrArg (λb:ByteArray=>b.data.toList) h;simpa using d
  ·intro h;rw[h]
 rw[c,k80];unfold zS0;rw[pL];constructor
 ·intro h x a;rw[<-abc_in];exact h x (pZ.2 a)
 ·intro h x a;rw[abc_in];exact h x (pZ.1 a)
theorem stDecl {b:Nat} {x y:Value} {t:TypeId} {s:ByteArray} {n:Int} (h:Blk w b [x,y] t) (c:∀w',Same (· =b) w w'->w'.heap.size=w.heap.size->Blk w' b [.string s,nI n] t->K undef w'):zI yO (oP b 0) (.agg ⟨[.string s,nI n]⟩) w K:=
 h.stAgg rfl rK (by intro v a;simp only[gj,gC,Gg] at a;rcases a with rfl|rfl<;>rfl) c
theorem ZE (s:ByteArray):M.nameOk s=(decide (1<=s.size)&&decide (s.size<=4)&&decide (s≠M.tru)&&zS0 s):=rfl
theorem DeclOk_spec {v:Value} {ds:List M.Dcl} (N:DclsR F w v ds) (D:∀w',Ext w w'->K (.bool (M.declOk ds)) w'):vcall Ua #[v] w K:=by
 refine zf {loops:=[(5,[3,11])],cuts:=[(32777,[])]} Tryz.func43 ?_;simp only[push_cast,N.len];refine zb (λa=>?_) (λa=>?_)
 ·have:=D w (Same.refl _ _);rwa[show M.declOk ds=false from by rw[G2];intro h;have:=(M.decl_iff.1 h).1;omega] at this
 refine vloop_up ds.length (λi u w'=>u=[nI (M.bitT ds i),nI i]/\Ext w w'/\(∀j,j<i->M.dclOk ds j=true)/\ -4*(i:Int)<=M.bitT ds i/\M.bitT ds i<=4*i) ⟨rfl,Same.refl _ _,oM,by simp[M.bitT],by simp[M.bitT]⟩ ?_;rintro i _ _ w1 C hi ⟨rfl,o,q,a0,a1⟩ hC;have E:=N.ext o;simp only[push_cast];refine zb (λb=>?_) (λb=>?_)
 ·have z:i<ds.length:=oM;have d:M.dclOk ds i=false->∀w',Ext w w'->K (.bool false) w':=λe w' he=>by
   have:=D w' he;rwa[show M.declOk ds=false from by rw[G2];intro h;have:=(M.decl_iff.1 h).2.1 i z;rw[e] at this;cases this] at this
  unfold M.dclOk at d;rw[ZE] at d;simp(disch:=exact oS) only[push_cast,E.iaddr,E.load];obtain⟨s,n,B⟩:∃s n,ds.getD i J9=(s,n):=⟨_,_,rfl⟩;simp only[B] at d⊢;refine zi x8 λb1 w2 U O a4 X=>?_;refine stDecl X λW R _ S=>?_;have a6:=o.size;have k:Ext w W:=Ext.then (o.trans O) R λy hy=>by subst hy;omega
  refine zo (λu w'=>u=[]/\Ext W w'/\M.nameOk s=true) (λC' L=>?_) ?_
  ·simp(disch:=exact oS) only[push_cast,S.ld0,Wd kW];refine zb (λc=>?_) (λc=>?_)
   ·exact d (by rw[gk (show¬1<=s.size by omega)];simp) _ k
   refine zb (λc2=>?_) (λc2=>?_)
   ·exact d (by rw[gk (show¬s.size<=4 by omega)];simp) _ k
   refine zb (λc3=>?_) (λc3=>?_)
   ·exact d (by rw[show decide (s≠M.tru)=false from gk (λh=>h c3)];simp) _ k
   refine jA0 oM λw4 r l V=>?_;simp only[push_cast];refine zb (λI=>?_) (λI=>?_)
   ·have:zS0 s=false:=by
     rw[G2];exact λh=>I (V.2 h)
    exact d (by rw[this];simp) _ (k.trans l)
   ·have J:r=⟨#[]⟩:=by
     by_cases h:r=⟨#[]⟩
     ·exact h
     ·exact absurd h I
    refine L _ _ ⟨rfl,l,?_⟩;rw[ZE,gn (show 1<=s.size by omega),gn (show s.size<=4 by omega),show decide (s≠M.tru)=true from gn c3,V.1 J];rfl
  ·rintro u g w4 ⟨rfl,l,A⟩;have T:=S.ext l;have f:=k.trans l;have G:=N.ext f;rw[ZE] at A;rw[A] at d;rw[G.cut (by intro e;subst e;simp at z) rK oM];simp only[push_cast];have a3:(ds.take i).length=i:=by rw[gi];omega
   refine QX (p:=λj=>decide (((ds.take i).getD j J9).1=s)) (G.taken oM) (λj hj=>?_) λw5 m=>?_
   ·intro w' K he D;simp only[push_cast];refine zf {} Tryz.func79 ?_;refine zk λb3 w6 a2 H a5 Z=>?_;have h7:=(T.ext he).ext H;simp(disch:=exact oS) only[push_cast,Z.ld0,h7.ld0];exact D _ H
   ·rw[<-Xn];have Y:=T.ext m;have efd:idxI (ds.take i).length (λj=>decide (((ds.take i).getD j J9).1=s))=M.findD (ds.take i) s:=rfl;rw[efd];refine zb (λc=>?_) (λc=>?_)
    ·exact d (by rw[gk (show¬M.findD (ds.take i) s<0 by omega)];simp) _ (f.trans m)
    simp(disch:=exact oS) only[push_cast,Y.ld1];refine zb (λc1=>?_) (λc1=>?_)
    ·exact d (by rw[gk (show¬1<=n by omega)];simp) _ (f.trans m)
    refine zb (λc2=>?_) (λc2=>?_)
    ·exact d (by rw[gk (show¬n<=4 by omega)];simp) _ (f.trans m)
    have t:=M.bitT_succ z;rw[show ds.getD i (M.nada,0)=(s,n) from B] at t;rw[zj (x:=M.bitT ds i+n) oM oM,inc64' oM,show M.bitT ds i+n=M.bitT ds (i+1) from t.symm];refine hC oM _ _ ⟨rfl,f.trans m,λj hj=>?_,oM,oM⟩;by_cases e:j=i
    ·subst e;unfold M.dclOk;rw[show ds.getD j (M.nada,0)=(s,n) from B,ZE,A];simp only[pz,gp,gd];exact⟨⟨oM,oM⟩,oM⟩
    ·exact q j oM
 ·have Q:i=ds.length:=oM;subst Q;have:=D w1 o;rw[M.bitT_all];have e:M.declOk ds=decide (M.bits ds<=8):=by
   rw[z0g,M.decl_iff,gd];exact⟨λh=>h.2.2,λh=>⟨oM,q,h⟩⟩
  rwa[e] at this
theorem TermSort_spec {dv v:Value} {ds:List M.Dcl} {t:M.Tm} (r:DclsR F w dv ds) (z:TermR G w v t) (q:∀w',Ext w w'->K (nI (M.tsort ds t)) w'):vcall Kj #[dv,v] w K:=by
 refine zf {} Tryz.func16 ?_;obtain⟨cs,rfl,c⟩:=z.cells;refine zk λb1 w1 u g y n=>?_;rw[n.ldAgg (t:=za) (by rw[zU c];exact zc)];refine TermMany_spec (c.ext g).term λw2 i=>?_;simp only[push_cast];have e:=g.trans i;refine DeclOk_spec (r.ext e) λA j=>?_;have f:=e.trans j;have m:=q A f;unfold M.tsort at m;simp only[push_cast];refine zn (λa=>?_) (λa=>?_)
 ·rwa[q0 (λh=>by rw[h.2] at a;cases a)] at m
 ·rw[Gi] at a;refine zb (λb=>?_) (λb=>?_)
  ·rw[q0 (λh=>by
    have n:=M.fits_iff.1 h.1;unfold M.manyM at b;rw[K3 h.1] at b;omega)] at m
   exact m
  ·have x:M.fits t=true:=by
    by_cases h:M.fits t=true
    ·exact h
    ·unfold M.manyM at b;rw[q0 h] at b;omega
   refine zd λC k _=>?_;have p:=((n.ext i).ext j).ext k;rw[p.ldAgg (t:=za) (by rw[zU c];exact zc)];refine⟨rfl,W1 λD mb l hm=>?_⟩;have s:=p.ext l;rw[s.ldAgg (t:=za) (by rw[zU c];exact zc)];have d:=(f.trans k).trans l;refine⟨⟨rfl,rfl⟩,sortOf_spec t hm (r.ext d) a (c.ext d).term λB o=>?_⟩;have:=q B (d.trans o);unfold M.tsort at this;rwa[K3 ⟨x,a⟩] at this
end
section
variable {w:World} {K:oK} {F G:Nat->Prop}
theorem l2Name_spec {s:ByteArray} (hs:s.size<=9223372036854775807) (d:K (.bool (M.nameOk s)) w):vcall WN #[.string s] w K:=by
 refine zf {loops:=[(2,[3])]} Tryz.func46 ?_;rw[ZE] at d;refine vloop_up s.size (λi u w'=>u=[nI i]/\w'=w/\∀j,j<i->(decide (97<=(s.data.getD j 0).toNat)&&decide ((s.data.getD j 0).toNat<=122))=true) ⟨rfl,rfl,oM⟩ ?_;rintro i _ _ w1 C hi ⟨rfl,rfl,g⟩ o;simp(disch:=exact oS) only[push_cast,Wd kW];have l:i<s.size->(decide (97<=(s.data.getD i 0).toNat)&&decide ((s.data.getD i 0).toNat<=122))=false->zS0 s=false:=λf h=>by
  rw[G2];intro k;unfold zS0 at k;rw[pL] at k;have m:i<s.data.size:=f;have:=k (s.data.getD i 0) (by rw[Ga,GF m];exact Array.getElem_mem m);rw[h] at this;cases this
 refine zb (λa=>?_) (λa=>?_)
 ·have f:i<s.size:=oM;rw[vindex_str kW oM oM,gw];simp only[push_cast];refine zb (λb=>?_) (λb=>?_)
  ·rw[l f (by rw[gk (show¬97<=(s.data.getD i 0).toNat by omega)];rfl),pP] at d;exact d
  rw[vindex_str kW oM oM,gw];simp only[push_cast];refine zb (λc=>?_) (λc=>?_)
  ·rw[l f (by rw[gk (show¬(s.data.getD i 0).toNat<=122 by omega)];simp),pP] at d;exact d
  rw[inc64' oM];refine o f _ _ ⟨rfl,rfl,λj n=>?_⟩;by_cases e:j=i
  ·subst e;simp only[gp,gd];omega
  ·exact g j oM
 ·have p:i=s.size:=oM;have k:zS0 s=true:=by
   unfold zS0;rw[pL];intro x q;obtain⟨j,n,rfl⟩:=Array.getElem_of_mem q;have:=g j (by have:s.data.size=s.size:=rfl;omega);rwa[Ga,GF n] at this
  rw[k,PC] at d
  try simp(disch:=exact oS) only[push_cast,Wd kW]
  refine zb (λb=>?_) (λb=>?_)
  ·refine zb (λc=>?_) (λc=>?_)
   ·rw[gn (show 1<=s.size by omega),gn (show s.size<=4 by omega)] at d;exact d
   ·rw[gk (show¬s.size<=4 by omega)] at d;simpa using d
  ·rw[gk (show¬1<=s.size by omega)] at d;simpa using d
theorem l2Find_spec {v:Value} {ds:List M.Dcl} {s:ByteArray} (f:DclsR F w v ds) (d:K (nI (M.findD ds s)) w):vcall WO #[v,.string s] w K:=by
 refine zf {loops:=[(2,[5])]} Tryz.func47 ?_;have k:=f.small;refine vloop_up ds.length (λi u w'=>u=[nI i]/\w'=w/\∀j,j<i->(ds.getD j J9).1≠s) ⟨rfl,rfl,oM⟩ ?_;rintro i _ _ w1 C hi ⟨rfl,rfl,c⟩ g;simp only[push_cast,f.len];refine zb (λa=>?_) (λa=>?_)
 ·try simp(disch:=exact oS) only[push_cast,f.iaddr]
  try simp(disch:=exact oS) only[push_cast,f.load0]
  refine zb (λb=>?_) (λb=>?_)
  ·rw[M.findD_of oM b c] at d;exact d
  ·rw[inc64' oM];refine g oM _ _ ⟨rfl,rfl,λj h=>?_⟩;by_cases e:j=i
   ·subst e;exact b
   ·exact c j oM
 ·rw[M.findD_none (λj h=>c j oM)] at d;exact d
theorem spec_DeclOk_spec {v:Value} {ds:List M.Dcl} (E:DclsR F w v ds) (D:∀i,i<ds.length->(ds.getD i J9).1.size<=9223372036854775807) (A:∀w',Ext w w'->K (.bool (M.declOk ds)) w'):vcall WY #[v] w K:=by
 refine zf {loops:=[(5,[3,4])]} Tryz.func20 ?_;simp only[push_cast,E.len];refine zb (λa=>?_) (λa=>?_)
 ·have:=A w (Same.refl _ _);rwa[show M.declOk ds=false from by rw[G2];intro h;have:=(M.decl_iff.1 h).1;omega] at this
 refine vloop_up ds.length (λi u w'=>u=[nI (M.bitT ds i),nI i]/\Ext w w'/\(∀j,j<i->M.dclOk ds j=true)/\ -4*(i:Int)<=M.bitT ds i/\M.bitT ds i<=4*i) ⟨rfl,Same.refl _ _,oM,by simp[M.bitT],by simp[M.bitT]⟩ ?_;rintro i _ _ w1 C hi ⟨rfl,p,m,H,I⟩ G;have r:=E.ext p;simp only[push_cast,r.len];refine zb (λb=>?_) (λb=>?_)
 ·have g:i<ds.length:=oM;have f:M.dclOk ds i=false->∀w',Ext w w'->K (.bool false) w':=λe w' he=>by
   have:=A w' he;rwa[show M.declOk ds=false from by rw[G2];intro h;have:=(M.decl_iff.1 h).2.1 i g;rw[e] at this;cases this] at this
  unfold M.dclOk at f;refine zd λw2 t _=>?_;have d:=r.ext t;have k:=p.trans t;simp(disch:=exact oS) only[push_cast,d.iaddr,Q1];simp(disch:=exact oS) only[push_cast,d.load0,d.load1,Q1];have y:=D i g;have o:=M.bitT_succ g;obtain⟨s,n,l⟩:∃s n,ds.getD i J9=(s,n):=⟨_,_,rfl⟩;rw[show ds.getD i (M.nada,0)=(s,n) from l] at o;simp only[l] at f y⊢;refine l2Name_spec y ?_;simp only[push_cast,Q1];refine zn (λc=>?_) (λc=>?_)
  ·exact f (by rw[show M.nameOk s=false by simpa using c];simp) _ k
  rw[Gi] at c;rw[c] at f;have ecut:∀(w:World) (K:oK),xm xa v none (some (nI (i:Int))) none w K=K (cutV v i) w:=λw K=>d.cut (by intro e;subst e;simp at g) rK oM;have z:∀(K:oK),zt x6 (.pointer (some ((eaddr v 2 i).add 0))) w2 K=K (.string s) w2:=λK=>(by rw[d.load0 ki0 g,l]);have q:∀(K:oK),zt zV (.pointer (some ((eaddr v 2 i).add 1))) w2 K=K (nI n) w2:=λK=>by rw[d.load1 Wo g,l]
  try simp(disch:=exact oS) only[push_cast,d.iaddr,Q1]
  try simp(disch:=exact oS) only[push_cast,d.iaddr,z,q,ecut,Q1]
  refine zb (λc1=>?_) (λc1=>?_)
  ·exact f (by rw[gk (show¬1<=n by omega)];simp) _ k
  refine zb (λc2=>?_) (λc2=>?_)
  ·exact f (by rw[gk (show¬n<=4 by omega)];simp) _ k
  refine l2Find_spec (d.taken oM) ?_;simp only[push_cast,Q1];refine zb (λc3=>?_) (λc3=>?_)
  ·exact f (by rw[gk (show¬M.findD (ds.take i) s<0 by omega)];simp) _ k
  try simp(disch:=exact oS) only[push_cast,d.iaddr]
  try simp(disch:=exact oS) only[push_cast,q]
  rw[zj (x:=M.bitT ds i+n) oM oM,inc64' oM,show M.bitT ds i+n=M.bitT ds (i+1) from o.symm];refine G oM _ _ ⟨rfl,k,λj J=>?_,oM,oM⟩;by_cases e:j=i
  ·subst e;unfold M.dclOk;rw[show ds.getD j (M.nada,0)=(s,n) from l,c];simp only[pz,gp,gd];exact⟨⟨oM,oM⟩,oM⟩
  ·exact m j oM
 ·have B:i=ds.length:=oM;subst B;have:=A w1 p;rw[M.bitT_all];have e:M.declOk ds=decide (M.bits ds<=8):=by
   rw[z0g,M.decl_iff,gd];exact⟨λh=>h.2.2,λh=>⟨oM,m,h⟩⟩
  rwa[e] at this
theorem spec_TermMany_spec:∀(t:M.Tm) {w:World} {K:oK} {F:Nat->Prop} {v:Value},TermR F w v t->(∀w',Ext w w'->K (.tuple #[nI (M.manyM t),nI (M.lvlM t)]) w')->vcall K9 #[v] w K:=by
 refine M.Tm.ind λt ih w K F v ht R=>?_;refine zf {loops:=[(4,[4,5,6])],cuts:=[(20486,[])]} Tryz.func40 ?_;obtain⟨ksv,rfl,y⟩:=ht;refine zk λb1 w1 S B a1 O=>?_;have a2:=y.small;have hS:=M.szT_all t;have hD:=M.dpT_all t;have k:M.fits t=true↔M.sizeM t<=20/\M.deepM t<=7:=M.fits_iff;refine vloop_up t.ks.length (λi u w'=> ∃n d:Nat,u=[nI n,nI d,nI i]/\Ext w1 w'/\n<=41/\d<=8/\(1+M.szT t.ks i<=20/\M.dpT t.ks i<=7->n=1+M.szT t.ks i/\d=M.dpT t.ks i)/\(¬(1+M.szT t.ks i<=20/\M.dpT t.ks i<=7)->20<n\/7<d))
  ⟨1,0,rfl,Same.refl _ _,oM,oM,λh=>⟨rfl,rfl⟩,λh=>by
   have I:M.szT t.ks 0=0:=rfl;have e2:M.dpT t.ks 0=0:=rfl;omega⟩ ?_
 rintro i _ _ w2 C hi ⟨n,d,rfl,o,c1,c2,c3,H⟩ Q;have J:=O.ext o;have L:=B.trans o;have l:=y.ext L;have V:=M.szT_mono (ks:=t.ks) (i:=i) (j:=t.ks.length) oM (gB _);have W:=M.dpT_mono (ks:=t.ks) (i:=i) (j:=t.ks.length) oM (gB _);have I:IntKind.i64.wrap ((d:Int)+1)=((d+1:Nat):Int):=inc64' oM;have m:(20<n\/i=t.ks.length)->∀q,(q=K)->vif (.bool (decide ((20:Int)<n))) (q (.tuple #[nI 21,nI 8]) w2) (vif (.bool (decide ((7:Int)<((d+1:Nat):Int)))) (q (.tuple #[nI 21,nI 8]) w2) (q (.tuple #[nI (n:Int),nI ((d+1:Nat):Int)]) w2)):=by
  rintro a0 q rfl;have p:=R w2 L;unfold M.manyM M.lvlM at p;have c:(20<n\/7<d+1)->¬(M.fits t=true):=λh T=>by
   have N:=k.1 T;have:=c3 oM;omega
  refine zb (λa=>?_) (λa=>?_)
  ·rw[q0 (c oM),q0 (c oM)] at p;exact p
  refine zb (λb=>?_) (λb=>?_)
  ·rw[q0 (c oM),q0 (c oM)] at p;exact p
  ·have E:i=t.ks.length:=oM;subst E;have r:M.sizeM t<=20/\M.deepM t<=7:=by
    by_cases h:1+M.szT t.ks t.ks.length<=20/\M.dpT t.ks t.ks.length<=7
    ·have:=c3 h;omega
    ·have:=H h;omega
   have h3:=c3 oM;rw[K3 (k.2 r),K3 (k.2 r)] at p;rw[show n=M.sizeM t by omega,show d+1=M.deepM t by omega];exact p
 refine zo (λu w'=>u=[]/\w'=w2/\i<t.ks.length/\n<=20) (λC' z=>?_) ?_
 ·simp only[push_cast,J.ld4,l.len,I];refine zb (λa=>?_) (λa=>?_)
  ·refine zb (λb=>?_) (λb=>?_)
   ·exact z _ _ ⟨rfl,rfl,oM,oM⟩
   ·exact m (.inl oM) K rfl
  ·exact m (.inr oM) K rfl
 ·rintro u g w3 ⟨rfl,rfl,U,hn⟩;have X:=M.szT_succ (ks:=t.ks) (i:=i) oM;have Y:=M.dpT_succ (ks:=t.ks) (i:=i) oM;have Z:=M.szT_mono (ks:=t.ks) (i:=i+1) (j:=t.ks.length) oM (gB _);simp(disch:=exact oS) only[push_cast,J.ld4,l.iaddr];refine l.load zc oM λx N=>?_;refine ih _ (M.getD_mem oM _) N λw4 D=>?_;have f:=M.fits_iff (t:=t.ks.getD i default);have G:M.manyM (t.ks.getD i default)<=21:=by
   unfold M.manyM;split
   ·have:=f.1 (by assumption);omega
   ·omega
  have A:M.lvlM (t.ks.getD i default)<=8:=by
   unfold M.lvlM;split
   ·have:=f.1 (by assumption);omega
   ·omega
  have e:M.sizeM (t.ks.getD i default)<=20/\M.deepM (t.ks.getD i default)<=7->M.manyM (t.ks.getD i default)=M.sizeM (t.ks.getD i default)/\M.lvlM (t.ks.getD i default)=M.deepM (t.ks.getD i default):=λh=>by
   unfold M.manyM M.lvlM;rw[K3 (f.2 h),K3 (f.2 h)];exact⟨rfl,rfl⟩
  have c: ¬(M.sizeM (t.ks.getD i default)<=20/\M.deepM (t.ks.getD i default)<=7)->M.manyM (t.ks.getD i default)=21/\M.lvlM (t.ks.getD i default)=8:=λh=>by
   unfold M.manyM M.lvlM;rw[q0 (λx=>h (f.1 x)),q0 (λx=>h (f.1 x))];exact⟨rfl,rfl⟩
  generalize M.manyM (t.ks.getD i default)=nk at G e c⊢;generalize M.lvlM (t.ks.getD i default)=dk at A e c⊢;simp only[push_cast];refine l1Max_spec ?_
  try simp only[push_cast]
  rw[inc64' oM,zj (x:=(n:Int)+nk) oM oM,show(n:Int)+(nk:Int)=((n+nk:Nat):Int) by omega,show max (d:Int) (dk:Int)=((max d dk:Nat):Int) by omega];refine Q oM _ _ ⟨n+nk,max d dk,rfl,o.trans D,oM,oM,λh=>?_,λh=>?_⟩
  ·have:=c3 oM;have:=e oM;omega
  ·by_cases r:M.sizeM (t.ks.getD i default)<=20/\M.deepM (t.ks.getD i default)<=7
   ·have h5:=e r;by_cases s:1+M.szT t.ks i<=20/\M.dpT t.ks i<=7
    ·have:=c3 s;omega
    ·have:=H s;omega
   ·have:=c r;omega
end
section
variable {w:World} {K:oK} {F G:Nat->Prop}
theorem l2Arity_spec {o:Int} (h:K (nI (M.arity o)) w):vcall Vf #[nI o] w K:=by
 refine zf {cuts:=[(12293,[4])]} Tryz.func109 ?_;have f:∀c,M.arity o=c->K (nI c) w:=λc e=>e▸h;refine zo (λu w'=>u=[.bool (decide (o=20\/o=21\/o=24))]/\w'=w) (λC d=>?_) ?_
 ·simp only[push_cast];refine zb (λa=>?_) (λa=>?_)
  ·exact d _ _ ⟨by rw[gn a,gn (.inl a)],rfl⟩
  refine zb (λb=>?_) (λb=>?_)
  ·exact d _ _ ⟨by rw[gn b,gn (.inr (.inl b))],rfl⟩
  ·refine d _ _ ⟨?_,rfl⟩;by_cases c:o=24
   ·rw[gn c,gn (.inr (.inr c))]
   ·rw[gk c,gk oM]
 ·rintro u g w1 ⟨rfl,rfl⟩;simp only[push_cast]
  repeat' first
   |exact f _ (by
    unfold M.arity;repeat' split
    all_goals omega)
   |refine zb (λ_=>?_) (λ_=>?_)
theorem zV0 {v:Value} {t:M.Tm} (A:TermR F w v t) (p:∀w',Ext w w'->K (.bool (M.formed t)) w'):vcall Vd #[v] w K:=by
 refine zf {cuts:=[(8195,[]),(16389,[])]} Tryz.func72 ?_;obtain⟨ksv,rfl,o⟩:=A;refine zk λb1 w1 y j z l=>?_;have q:=p _ j;have f:M.plainM t=false->K (.bool false) w1:=λh=>by
  unfold M.formed at q;rwa[h,pP] at q
 unfold M.plainM at f;refine zo (λu w'=>u=[]/\w'=w1/\(decide (t.op=21)||decide (t.s=M.nada))=true) (λC m=>?_) ?_
 ·simp only[push_cast,l.ld0,l.ld3];refine zb (λa=>?_) (λa=>?_)
  ·refine zb (λb=>?_) (λb=>?_)
   ·exact f (by rw[gk a,show decide (t.s=M.nada)=false from gk b];simp)
   ·exact m _ _ ⟨rfl,rfl,by rw[show decide (t.s=M.nada)=true from gn (pr.1 b)];simp⟩
  ·exact m _ _ ⟨rfl,rfl,by rw[gn (pr.1 a)];simp⟩
 rintro u g w2 ⟨rfl,rfl,r⟩;rw[r,PC] at f;refine zo (λu w'=>u=[]/\w'=w2/\(decide (t.op=20)||decide (t.op=22)||(decide (t.a=0)&&decide (t.b=0)))=true) (λC m=>?_) ?_
 ·simp only[push_cast,l.ld0,l.ld1,l.ld2];refine zb (λa=>?_) (λa=>?_)
  ·refine zb (λb=>?_) (λb=>?_)
   ·refine zb (λc=>?_) (λc=>?_)
    ·exact f (by rw[gk a,gk b,gk c];simp)
    refine zb (λd=>?_) (λd=>?_)
    ·exact f (by rw[gk a,gk b,gk d];simp)
    ·exact m _ _ ⟨rfl,rfl,by rw[gn (pr.1 c),gn (pr.1 d)];simp⟩
   ·exact m _ _ ⟨rfl,rfl,by rw[gn (pr.1 b)];simp⟩
  ·exact m _ _ ⟨rfl,rfl,by rw[gn (pr.1 a)];simp⟩
 rintro u g B ⟨rfl,rfl,hm⟩;refine zd λD k _=>?_;have n:=l.ext k;have i:=o.ext (j.trans k);simp only[push_cast,n.ld0,n.ld4,i.len,Q1];refine l2Arity_spec ?_;simp only[push_cast,n.ld4,i.len,Q1,gm];have:=p _ (j.trans k);have e:M.formed t=decide ((t.ks.length:Int)=M.arity t.op):=by
  unfold M.formed M.plainM;rw[hm,r];simp only[PC];by_cases h:M.arity t.op=t.ks.length
  ·rw[gn h,gn h.symm]
  ·rw[gk h,gk (λx=>h x.symm)]
 rwa[e] at this
theorem l2One_spec {v:Value} {t:M.Tm} {a:Int} (q:TermR F w v t) (s: -1<=a/\a<=4) (m:∀w',Ext w w'->K (nI (M.oneM t a)) w'):vcall zD0 #[v,nI a] w K:=by
 refine zf {cuts:=[(8194,[5]),(16388,[13]),(28679,[40])]} Tryz.func74 ?_;obtain⟨ksv,rfl,o⟩:=q;refine zk λb1 w1 n l p j=>?_;have k:∀c,M.oneM t a=c->K (nI c) w1:=λc e=>e▸m _ l;unfold M.oneM at k;refine zo (λu w'=>u=[.bool (decide (t.op=25/\a=0))]/\w'=w1) (λC i=>?_) ?_
 ·simp only[push_cast,j.ld0];refine zb (λb=>?_) (λb=>?_)
  ·refine i _ _ ⟨?_,rfl⟩;simp only[b,Q1]
  ·exact i _ _ ⟨by rw[gk (λh=>b h.1)],rfl⟩
 rintro u g w2 ⟨rfl,rfl⟩;simp only[push_cast];refine zb (λb=>?_) (λb=>?_)
 ·exact k _ (by rw[K3 b.1,K3 b.2])
 refine zo (λu w'=>u=[.bool (decide (t.op=25\/a<1))]/\w'=w2) (λC i=>?_) ?_
 ·simp only[push_cast,j.ld0];refine zb (λc=>?_) (λc=>?_)
  ·exact i _ _ ⟨by rw[gn (.inl c)],rfl⟩
  ·refine i _ _ ⟨?_,rfl⟩;simp only[c,false_or]
 rintro u g r ⟨rfl,rfl⟩;simp only[push_cast];refine zb (λc=>?_) (λc=>?_)
 ·exact k _ (by
   repeat' split
   all_goals omega)
 simp only[push_cast,j.ld0];refine zb (λd=>?_) (λd=>?_)
 ·refine zo (λu w'=>u=[.bool (decide (0<=t.b/\t.b<=t.a/\t.a<a))]/\w'=r) (λC i=>?_) ?_
  ·simp only[push_cast,j.ld1,j.ld2];refine zb (λe=>?_) (λe=>?_)
   ·refine zb (λf=>?_) (λf=>?_)
    ·refine i _ _ ⟨?_,rfl⟩;simp only[e,f,Q1]
    ·exact i _ _ ⟨by rw[gk (λh=>f h.2.1)],rfl⟩
   ·exact i _ _ ⟨by rw[gk (λh=>e h.1)],rfl⟩
  rintro u g y ⟨rfl,rfl⟩;simp only[push_cast];refine zb (λe=>?_) (λe=>?_)
  ·simp only[push_cast,j.ld1,j.ld2];rw[zj (x:=t.a-t.b) oM oM,zj oM oM];exact k _ (by rw[q0 oM,q0 oM,K3 d,K3 e])
  ·exact k _ (by rw[q0 oM,q0 oM,K3 d,q0 e])
 ·exact k _ (by rw[q0 oM,q0 oM,q0 d])
theorem l2Both_spec {o a b:Int} (l: -1<=a/\a<=4) (k: -1<=b/\b<=4) (j:K (nI (M.bothM o a b)) w):vcall WQ #[nI o,nI a,nI b] w K:=by
 refine zf {cuts:=[(12291,[8]),(24582,[21])]} Tryz.func75 ?_;have h:∀c,M.bothM o a b=c->K (nI c) w:=λc e=>e▸j;unfold M.bothM at h;refine zo (λu w'=>u=[.bool (decide (o=26\/o=27))]/\w'=w) (λC f=>?_) ?_
 ·simp only[push_cast];refine zb (λc=>?_) (λc=>?_)
  ·exact f _ _ ⟨by rw[gn (.inl c)],rfl⟩
  ·refine f _ _ ⟨?_,rfl⟩;simp only[c,false_or]
 rintro u g w2 ⟨rfl,rfl⟩;simp only[push_cast];refine zb (λc=>?_) (λc=>?_)
 ·repeat' first
   |exact h _ (by
    repeat' split
    all_goals omega)
   |refine zb (λ_=>?_) (λ_=>?_)
 refine zo (λu w'=>u=[.bool (decide (a<1\/b<1))]/\w'=w2) (λC f=>?_) ?_
 ·try simp only[push_cast]
  refine zb (λd=>?_) (λd=>?_)
  ·exact f _ _ ⟨by rw[gn (.inl d)],rfl⟩
  ·refine f _ _ ⟨?_,rfl⟩;simp only[d,false_or]
 rintro u g m ⟨rfl,rfl⟩;have i:IntKind.i64.wrap (a+b)=a+b:=zj oM oM;simp only[push_cast,i]
 repeat' first
  |exact h _ (by
   repeat' split
   all_goals omega)
  |refine zb (λ_=>?_) (λ_=>?_)
theorem l2Sort_spec:∀(t:M.Tm) {w:World} {K:oK} {F G:Nat->Prop} {dv v:Value} {ds:List M.Dcl},DclsR F w dv ds->M.declOk ds=true->TermR G w v t->(∀w',Ext w w'->K (nI (M.sortM ds t)) w')->vcall WL #[dv,v] w K:=by
 refine M.Tm.ind λt U w K F G dv v ds O f ht W=>?_;refine zf {} Tryz.func41 ?_;obtain⟨ksv,rfl,u⟩:=ht;refine zk λb1 w1 X E Z V=>?_;have m:∀c w',M.sortM ds t=c->Ext w w'->K (nI c) w':=λc w' e he=>e▸W _ he;rw[V.ldAgg (t:=za) zc];refine zV0 (F:=G) (t:=t) ⟨ksv,rfl,u.ext E⟩ λw2 H=>?_;have o:=E.trans H;have y:=V.ext H;simp only[push_cast];refine zn (λa=>?_) (λa=>?_)
 ·exact m _ _ (M.sort_bad (by rw[Bool.not_eq_true];simpa using a)) o
 have A:M.formed t=true:=by simpa using a
 have j:=(M.formed_iff.1 A).1;have q:=O.ext o;simp only[push_cast,y.ld0];refine zb (λd=>?_) (λd=>?_)
 ·have J:t.ks.length=0:=by rw[d] at j;simp[M.arity] at j;omega
  have hs:=M.sort_leaf (ds:=ds) A J;simp only[push_cast,y.ld1,y.ld2];refine spec_VecOk_spec λw3 k=>?_;have C:=y.ext k;refine zn (λb=>?_) (λb=>?_)
  ·simp only[push_cast,C.ld1];exact m _ _ (by rw[hs];unfold M.sortK;rw[K3 d,K3 b]) (o.trans k)
  ·exact m _ _ (by rw[hs];unfold M.sortK;rw[K3 d,b];rfl) (o.trans k)
 refine zb (λl=>?_) (λl=>?_)
 ·have J:t.ks.length=0:=by rw[l] at j;simp[M.arity] at j;omega
  have hs:=M.sort_leaf (ds:=ds) A J;have Y:=M.findD_lt ds t.s;simp only[push_cast,y.ld3];refine l2Find_spec q ?_
  try simp only[push_cast]
  refine zb (λb=>?_) (λb=>?_)
  ·exact m _ _ (by rw[hs];unfold M.sortK;rw[q0 d,K3 l,K3 b]) o
  ·try simp(disch:=exact oS) only[push_cast,q.iaddr]
   try simp(disch:=exact oS) only[push_cast,q.load1]
   exact m _ _ (by rw[hs];unfold M.sortK;rw[q0 d,K3 l,q0 b]) o
 refine zb (λD=>?_) (λD=>?_)
 ·have J:t.ks.length=0:=by rw[D] at j;simp[M.arity] at j;omega
  have hs:=M.sort_leaf (ds:=ds) A J;exact m _ _ (by rw[hs];unfold M.sortK;rw[q0 d,q0 l,K3 oM];rfl) o
 have hlen:t.ks.length=1\/t.ks.length=2\/t.ks.length=3:=by
  have h0:M.arity t.op≠0:=λh=>by have:=M.arity_zero h;omega
  have N:M.arity t.op<=3:=by
   unfold M.arity
   repeat' split
   all_goals omega
  omega
 have x:=u.ext o;simp(disch:=exact oS) only[push_cast,y.ld4,x.iaddr];refine x.load zc oM λx0 R=>?_;refine U (M.kid t 0) (M.kid_mem oM) q f R λw3 k=>?_;have C:=y.ext k;have p:=o.trans k;have g:=u.ext p;have L:=M.sort_range f (M.kid t 0);simp(disch:=exact oS) only[push_cast,C.ld4,g.len];refine zb (λl1=>?_) (λl1=>?_)
 ·rw[C.ldAgg (t:=za) zc];refine l2One_spec (F:=G) (t:=t) ⟨ksv,rfl,g⟩ L λw4 r=>?_;exact m _ _ (M.sort_one f A oM) (p.trans r)
 simp(disch:=exact oS) only[push_cast,C.ld4,g.iaddr];refine g.load zc oM λx1 S=>?_;refine U (M.kid t 1) (M.kid_mem oM) (O.ext p) f S λw4 r=>?_;have N:=C.ext r;have i:=p.trans r;have n:=u.ext i;have Q:=M.sort_range f (M.kid t 1);simp(disch:=exact oS) only[push_cast,N.ld4,N.ld0,n.len];refine zb (λl2=>?_) (λl2=>?_)
 ·refine l2Both_spec L Q ?_;exact m _ _ (M.sort_two f A oM) i
 have B:=M.sort_three (ds:=ds) A oM;refine zb (λz=>?_) (λz=>?_)
 ·exact m _ _ (by rw[B,K3 (.inl z)]) i
 simp(disch:=exact oS) only[push_cast,N.ld4,n.iaddr];refine n.load zc oM λx2 T=>?_;refine U (M.kid t 2) (M.kid_mem oM) (O.ext i) f T λw5 I=>?_;simp only[push_cast];refine zb (λz2=>?_) (λz2=>?_)
 ·exact m _ _ (by rw[B,K3 (.inr z2)]) (i.trans I)
 ·exact m _ _ (by rw[B,q0 (λh=>h.elim z z2)]) (i.trans I)
def yh0 (ds:List M.Dcl):Prop:=∀i,i<ds.length->(ds.getD i J9).1.size<=9223372036854775807
theorem spec_TermSort_spec {dv v:Value} {ds:List M.Dcl} {t:M.Tm} (o:yh0 ds) (q:DclsR F w dv ds) (x:TermR G w v t) (p:∀w',Ext w w'->K (nI (M.tsort ds t)) w'):vcall K7 #[dv,v] w K:=by
 refine zf {} Tryz.func15 ?_;obtain⟨cs,rfl,e⟩:=x.cells;refine zk λb1 w1 s g u l=>?_;rw[l.ldAgg (t:=za) (by rw[zU e];exact zc)];refine spec_TermMany_spec t (e.ext g).term λw2 i=>?_;simp only[push_cast];have f:=g.trans i;refine spec_DeclOk_spec (q.ext f) o λy j=>?_;have d:=f.trans j;have k:=p y d;unfold M.tsort at k;simp only[push_cast];refine zn (λa=>?_) (λa=>?_)
 ·rwa[q0 (λh=>by rw[h.2] at a;cases a)] at k
 rw[Gi] at a;refine zb (λb=>?_) (λb=>?_)
 ·rw[q0 (λh=>by
   have l:=M.fits_iff.1 h.1;unfold M.manyM at b;rw[K3 h.1] at b;omega)] at k
  exact k
 have n:M.fits t=true:=by
  by_cases h:M.fits t=true
  ·exact h
  ·unfold M.manyM at b;rw[q0 h] at b;omega
 refine zb (λc=>?_) (λc=>?_)
 ·unfold M.lvlM at c;rw[K3 n] at c;have:=M.fits_iff.1 n;omega
 have r:=(l.ext i).ext j;rw[r.ldAgg (t:=za) (by rw[zU e];exact zc)];refine l2Sort_spec t (q.ext d) a (e.ext d).term λz m=>?_;have:=p z (d.trans m);unfold M.tsort at this;rwa[K3 ⟨n,a⟩] at this
theorem Xm {b:Bool} (a:K (nI (M.b2i b)) w):vcall WR #[.bool b] w K:=by
 refine zf {} Tryz.func132 ?_;refine zn (λh=>?_) (λh=>?_)<;>subst h<;>exact a
def Zi0 (H:Nat->Prop) (w:World) (ev:Value) (env:List Int) (t:M.Tm):Prop:=Ints H w ev env\/nnB t=true
theorem qr {H:Nat->Prop} {ev:Value} {env:List Int} {t:M.Tm} {w w':World} (h:Zi0 H w ev env t) (he:Ext w w'):Zi0 H w' ev env t:=h.imp (λh=>h.ext he) id
theorem ja {H:Nat->Prop} {ev:Value} {env:List Int} {t k:M.Tm} (h:Zi0 H w ev env t) (a:k∈t.ks):Zi0 H w ev env k:=h.imp id λh=>(nnB_iff.1 h).2 k a
theorem jh0 {H:Nat->Prop} {ev:Value} {env:List Int} {t:M.Tm} (h:Zi0 H w ev env t) (a:t.op=21):Ints H w ev env:=h.elim id λh=>absurd a (nnB_iff.1 h).1
def jD0 (t:M.Tm):Prop:=∀{w:World} {K:oK} {F G H:Nat->Prop} {dv v ev:Value} {ds:List M.Dcl} {env:List Int},DclsR F w dv ds->M.envOk ds env=true->TermR G w v t->Zi0 H w ev env t->M.sortM ds t≠ -1->(∀w',Ext w w'->K (nI (M.evalM ds env t)) w')->vcall WP #[dv,v,ev] w K
theorem l2Vec_spec {t:M.Tm} (B:jD0 t) {H:Nat->Prop} {dv v ev:Value} {ds:List M.Dcl} {env:List Int} (l:DclsR F w dv ds) (he:M.envOk ds env=true) (x:TermR G w v t) (z:Zi0 H w ev env t) (hs:M.sortM ds t≠ -1) (p:∀w',Ext w w'->K (xW (M.sortM ds t) (M.evalM ds env t)) w'):vcall zC0 #[dv,v,ev] w K:=by
 refine zf {} Tryz.func184 ?_;obtain⟨cs,rfl,c⟩:=x.cells;refine zk λb1 w1 q f s m=>?_;refine zi zX λb2 w2 r g u n=>?_;refine zd λC d _=>?_;have k:=(m.ext g).ext d;have b:=(f.trans g).trans d;have i:aggB za cs.length=true:=by rw[zU c];exact zc
 rw[k.ldAgg (t:=za) i];refine⟨rfl,?_⟩;rw[k.ldAgg (t:=za) i];refine⟨rfl,l2Sort_spec t (l.ext b) (M.env_ok he).1 (c.ext b).term λD e=>?_⟩;rw[(k.ext e).ldAgg (t:=za) i];have a:=b.trans e;refine⟨⟨rfl,rfl⟩,B (l.ext a) he (c.ext a).term (qr z a) hs λE h=>?_⟩;simp only[push_cast,Q1];refine stVec (((n.ext d).ext e).ext h) λI j _ o=>?_;rw[o.lv rK];exact p _ (Ext.then (a.trans h) j λy A=>by subst A;have:=f.size;omega)
theorem l2Do_spec {t:M.Tm} (W:∀k,k∈t.ks->jD0 k) {H:Nat->Prop} {dv v ev:Value} {ds:List M.Dcl} {env:List Int} (T:DclsR F w dv ds) (he:M.envOk ds env=true) (ht:TermR G w v t) (V:Zi0 H w ev env t) (hs:M.sortM ds t≠ -1)
  (ho:(1<=t.op/\t.op<=17)\/t.op=22) (I:∀w',Ext w w'->K (nI (M.evalM ds env t)) w'):vcall yG0 #[dv,v,ev] w K:=by
 refine zf {} Tryz.func141 ?_;obtain⟨ksv,rfl,z⟩:=ht;have a3:1<=t.ks.length:=by
  rcases(by omega:t.op=22\/(t.op=1\/t.op=2)\/(3<=t.op/\t.op<=14)\/(15<=t.op/\t.op<=17)) with h|h|h|h
  ·have:=(M.eval_cut he hs h).1;omega
  ·have:=(M.eval_un he hs h).1;omega
  ·have:=(M.eval_bin he hs h.1 h.2).1;omega
  ·have:=(M.eval_cmp he hs h.1 h.2).1;omega
 refine zk λb1 w1 a0 f a7 L=>?_;have m:=z.ext f;simp(disch:=exact oS) only[push_cast,L.ld4,m.iaddr];refine m.load zc oM λx0 Q=>?_;refine l2Vec_spec (W (M.kid t 0) (M.kid_mem oM)) (T.ext f) he Q (ja (qr V f) (M.kid_mem oM)) (M.good_kid hs oM) λw2 p=>?_;refine zi zX λb2 w3 a1 x a8 h3=>?_;refine stVec h3 λw4 C _ E=>?_;have aa:=f.size;have ab:=p.size;have b:Ext w w4:=Ext.then ((f.trans p).trans x) C λy l=>by subst l;omega
 have a4:=L.lt;have n:=((L.ext p).ext x).same C oM;simp only[push_cast,n.ld0];refine zb (λr=>?_) (λr=>?_)
 ·obtain⟨hl,hv,d⟩:=M.eval_cut he hs r;simp only[push_cast,E.ldAgg (t:=zh) zr,n.ld1,n.ld2];refine spec_VecCut_spec λY a=>?_;simp only[push_cast];refine zi zX λb3 Z u c A s=>?_;refine stVec s λD e _ q=>?_;simp only[push_cast,q.ld1];have:=I D (Ext.then ((b.trans a).trans c) e λy l=>by subst l;have:=(b.trans a).size;omega);rwa[d] at this
 have g:=z.ext b;simp only[push_cast,n.ld4,g.len];refine zb (λl1=>?_) (λl1=>?_)
 ·have j:t.op=1\/t.op=2:=by
   rcases(by omega:(t.op=1\/t.op=2)\/(3<=t.op/\t.op<=14)\/(15<=t.op/\t.op<=17)) with h|h|h
   ·exact h
   ·have:=(M.eval_bin he hs h.1 h.2).1;omega
   ·have:=(M.eval_cmp he hs h.1 h.2).1;omega
  obtain⟨hl,hv,d⟩:=M.eval_un he hs j;simp only[push_cast,E.ldAgg (t:=zh) zr,n.ld0];refine spec_VecUn_spec λY a=>?_;simp only[push_cast];refine zi zX λb3 Z u c A s=>?_;refine stVec s λD e _ q=>?_;simp only[push_cast,q.ld1];have:=I D (Ext.then ((b.trans a).trans c) e λy l=>by subst l;have:=(b.trans a).size;omega);rwa[d] at this
 have j:3<=t.op/\t.op<=17:=by
  rcases(by omega:(t.op=1\/t.op=2)\/(3<=t.op/\t.op<=17)) with h|h
  ·have:=(M.eval_un he hs h).1;omega
  ·exact h
 have a5:t.ks.length=2:=by
  rcases(by omega:(3<=t.op/\t.op<=14)\/(15<=t.op/\t.op<=17)) with h|h
  ·exact(M.eval_bin he hs h.1 h.2).1
  ·exact(M.eval_cmp he hs h.1 h.2).1
 simp(disch:=exact oS) only[push_cast,n.ld4,g.iaddr];refine g.load zc oM λx1 R=>?_;refine l2Vec_spec (W (M.kid t 1) (M.kid_mem oM)) (T.ext b) he R (ja (qr V b) (M.kid_mem oM)) (M.good_kid hs oM) λY a=>?_;refine zi zX λb3 Z u c A s=>?_;refine stVec s λD e _ q=>?_;have ac:=b.size;have ad:=a.size;have o:Ext w D:=Ext.then ((b.trans a).trans c) e λy l=>by subst l;omega
 have a6:=E.lt;have U:=n.lt;have S:=((n.ext a).ext c).same e oM;have X:=((E.ext a).ext c).same e oM;simp only[push_cast,S.ld0];refine zb (λJ=>?_) (λJ=>?_)
 ·obtain⟨_,_,_,d⟩:=M.eval_cmp he hs oM j.2;simp only[push_cast,X.ldAgg (t:=zh) zr,q.ldAgg (t:=zh) zr,S.ld0];refine spec_VecCmp_spec λw8 i=>?_;simp only[push_cast];refine Xm ?_;have:=I _ (o.trans i);rwa[d] at this
 ·obtain⟨_,_,_,d⟩:=M.eval_bin he hs j.1 oM;simp only[push_cast,X.ldAgg (t:=zh) zr,q.ldAgg (t:=zh) zr,S.ld0];refine spec_VecBin_spec λw8 i=>?_;simp only[push_cast];refine zi zX λb4 w9 a2 O a9 h9=>?_;refine stVec h9 λw10 B _ N=>?_;simp only[push_cast,N.ld1];have:=I w10 (Ext.then ((o.trans i).trans O) B λy l=>by subst l;have:=(o.trans i).size;omega);rwa[d] at this
theorem l2Eval_spec:∀(t:M.Tm),jD0 t:=by
 refine M.Tm.ind λt E=>?_;intro w K F G H dv v ev ds env z he ht B hs Y;refine zf {} Tryz.func105 ?_;obtain⟨ksv,rfl,p⟩:=ht;refine zk λb1 w1 a0 f a5 D=>?_;have l:=p.ext f;have A:∀c w',M.evalM ds env t=c->Ext w w'->K (nI c) w':=λc w' e he=>e▸Y _ he;have Z:=M.arity_ops (o:=t.op) (by have:=(M.formed_iff.1 (M.sort_parts hs).1).1;omega);simp only[push_cast,D.ld0];refine zb (λr=>?_) (λr=>?_)
 ·simp only[push_cast,D.ld2];exact A _ _ (by rw[M.eval_leaf (.inl r),K3 r]) f
 refine zb (λn=>?_) (λn=>?_)
 ·have a4:=M.findD_lt ds t.s;have a3:=M.name_found hs n;have a2:=(M.env_ok he).2.1;have q:=(jh0 B n).ext f;simp only[push_cast,D.ld3];refine l2Find_spec (z.ext f) ?_;simp(disch:=exact oS) only[push_cast,q.iaddr,q.load];exact A _ _ (by rw[M.eval_leaf (.inr (.inl n)),q0 r,K3 n]) f
 refine zb (λO=>?_) (λO=>?_)
 ·exact A _ _ (by rw[M.eval_leaf (.inr (.inr O)),q0 r,q0 n]) f
 refine zb (λP=>?_) (λP=>?_)
 ·obtain⟨V,R,j⟩:=M.eval_no he hs P;simp(disch:=exact oS) only[push_cast,D.ld4,l.iaddr];refine l.load zc oM λx0 L=>?_;refine E (M.kid t 0) (M.kid_mem oM) (z.ext f) he L (ja (qr B f) (M.kid_mem oM)) (M.good_kid hs oM) λw2 h=>?_;simp only[push_cast];have a1:=M.inS_zero R;rw[zj oM oM];exact A _ _ j (f.trans h)
 refine zb (λC=>?_) (λC=>?_)
 ·obtain⟨V,R,S,j⟩:=M.eval_two he hs (.inl C);rw[K3 C] at j;refine zd λw2 h _=>?_;have I:=D.ext h;have a:=f.trans h;have g:=p.ext a;simp(disch:=exact oS) only[push_cast,I.ld4,g.iaddr,Q1];obtain⟨css,m,U,u⟩:=g;rw[m.ldAgg zc (i:=0) oM];simp only[Q1];rw[m.ldAgg zc (i:=1) oM];simp only[Q1];refine E (M.kid t 0) (M.kid_mem oM) (z.ext a) he (u 0 oM).term (ja (qr B a) (M.kid_mem oM)) (M.good_kid hs oM) λW d=>?_;have T:=I.ext d;have x:=p.ext (a.trans d);have y:=m.ext d;simp(disch:=exact oS) only[push_cast,T.ld4,x.iaddr,Q1];rw[y.ldAgg zc (i:=1) oM];refine⟨⟨rfl,rfl⟩,?_⟩
  try simp only[Q1,gm]
  refine E (M.kid t 1) (M.kid_mem oM) (z.ext (a.trans d)) he ((u 1 oM).ext d).term (ja (qr B (a.trans d)) (M.kid_mem oM)) (M.good_kid hs oM) λw4 J=>?_;simp only[push_cast,Q1];have e:IntKind.i64.wrap (M.evalM ds env (M.kid t 0)*M.evalM ds env (M.kid t 1))=M.evalM ds env (M.kid t 0)*M.evalM ds env (M.kid t 1):=by
   rcases M.inS_zero R with e|e<;>rcases M.inS_zero S with X|X<;>rw[e,X]<;>rfl
  rw[e];exact A _ _ j ((a.trans d).trans J)
 refine zb (λQ=>?_) (λQ=>?_)
 ·obtain⟨V,R,S,j⟩:=M.eval_two he hs (.inr Q);rw[q0 C] at j;refine zd λw2 h _=>?_;have I:=D.ext h;have a:=f.trans h;have g:=p.ext a;simp(disch:=exact oS) only[push_cast,I.ld4,g.iaddr,Q1];obtain⟨css,m,U,u⟩:=g;rw[m.ldAgg zc (i:=0) oM];simp only[Q1];rw[m.ldAgg zc (i:=1) oM];simp only[Q1];refine E (M.kid t 0) (M.kid_mem oM) (z.ext a) he (u 0 oM).term (ja (qr B a) (M.kid_mem oM)) (M.good_kid hs oM) λW d=>?_;have T:=I.ext d;have x:=p.ext (a.trans d);have y:=m.ext d;simp(disch:=exact oS) only[push_cast,T.ld4,x.iaddr,Q1];rw[y.ldAgg zc (i:=1) oM];refine⟨⟨rfl,rfl⟩,?_⟩
  try simp only[Q1,gm]
  refine E (M.kid t 1) (M.kid_mem oM) (z.ext (a.trans d)) he ((u 1 oM).ext d).term (ja (qr B (a.trans d)) (M.kid_mem oM)) (M.good_kid hs oM) λw4 J=>?_;refine l1Max_spec ?_;exact A _ _ j ((a.trans d).trans J)
 refine zb (λN=>?_) (λN=>?_)
 ·obtain⟨V,R,j⟩:=M.eval_if he hs N;simp(disch:=exact oS) only[push_cast,D.ld4,l.iaddr];refine l.load zc oM λx0 L=>?_;refine E (M.kid t 0) (M.kid_mem oM) (z.ext f) he L (ja (qr B f) (M.kid_mem oM)) (M.good_kid hs oM) λw2 h=>?_;have I:=D.ext h;have a:=f.trans h;have g:=p.ext a;simp only[push_cast];refine zb (λb=>?_) (λb=>?_)
  ·rw[K3 b] at j;simp(disch:=exact oS) only[push_cast,I.ld4,g.iaddr];refine g.load zc oM λx1 q=>?_;refine E (M.kid t 1) (M.kid_mem oM) (z.ext a) he q (ja (qr B a) (M.kid_mem oM)) (M.good_kid hs oM) λW d=>?_;exact A _ _ j (a.trans d)
  ·rw[q0 b] at j;simp(disch:=exact oS) only[push_cast,I.ld4,g.iaddr];refine g.load zc oM λx1 q=>?_;refine E (M.kid t 2) (M.kid_mem oM) (z.ext a) he q (ja (qr B a) (M.kid_mem oM)) (M.good_kid hs oM) λW d=>?_;exact A _ _ j (a.trans d)
 ·rw[D.ldAgg (t:=za) zc];refine l2Do_spec (G:=G) (t:=t) (λk A=>E k A) (z.ext f) he ⟨ksv,rfl,l⟩ (qr B f) hs oM λw2 h=>?_;exact Y _ (f.trans h)
end
section
variable {w:World} {K:oK} {F F':Nat->Prop}
def Bytes (F:Nat->Prop) (w:World) (v:Value) (xs:List Nat):Prop:=Vals F w v (xs.map λx=>Value.int .u8 (x:Nat))/\∀x,x∈xs->x<256
theorem Bytes.same {S:Nat->Prop} {w':World} {v:Value} {xs:List Nat} (h:Bytes F w v xs) (hw:Same S w w') (hs:∀b,F b->b<w.heap.size->¬S b):Bytes F w' v xs:=⟨h.1.same hw hs,h.2⟩
theorem Bytes.ext {w':World} {v:Value} {xs:List Nat} (h:Bytes F w v xs) (hw:Ext w w'):Bytes F w' v xs:=⟨h.1.ext hw,h.2⟩
theorem Bytes.load {v:Value} {xs:List Nat} (h:Bytes F w v xs) {e:TypeId} (he:oneB e=true) {i:Nat} (hi:i<xs.length):zt e (.pointer (some (eaddr v 1 i))) w K=K (.int .u8 (xs.getD i 0:Nat)) w:=by
 rw[Vals.load h.1 he (by simpa using hi)];simp[X0,hi]
theorem Bytes.len {w':World} {v:Value} {xs:List Nat} (h:Bytes F w v xs) {t:TypeId} (a:isSl t=true) (ty:TypeId):vbi .len [t] ty [v] w' K=K (nI xs.length) w':=by
 have:=Vals.len (K:=K) (w':=w') h.1 a ty;rwa[V0] at this
theorem Bytes.iaddr {w':World} {v:Value} {xs:List Nat} (h:Bytes F w v xs) {t:TypeId} (c:elB t 1=true) {kd:IntKind} {i:Int} (a:0<=i) (b:i<xs.length):
  y1 t v (.int kd i) w' K=K (.pointer (some (eaddr v 1 i.toNat))) w':=Vals.iaddr h.1 c a (by simpa using b)
structure RdR (F:Nat->Prop) (w:World) (b:Nat) (v:Value) (xs:List Nat) (p:Nat):Prop where
 blk:Blk w b [v,nI p] yV
 bytes:Bytes F w v xs
 apart: ¬F b
 few:xs.length<=2000
theorem RdR.same {S:Nat->Prop} {w':World} {b p:Nat} {v:Value} {xs:List Nat} (h:RdR F w b v xs p) (hw:Same S w w') (a: ¬S b) (hs:∀b,F b->b<w.heap.size->¬S b):RdR F w' b v xs p:=
 ⟨h.blk.same hw a,h.bytes.same hw hs,h.apart,h.few⟩
theorem RdR.ext {w':World} {b p:Nat} {v:Value} {xs:List Nat} (h:RdR F w b v xs p) (hw:Ext w w'):RdR F w' b v xs p:=h.same hw id λ_ _ _ h=>h
theorem l12Open_spec {v:Value} {xs:List Nat} (n:Bytes F w v xs) (hF:∀b,F b->b<w.heap.size)
  (C:∀w' b v' ys,Ext w w'->RdR F w' b v' ys 0->w.heap.size<=b->K (oP b 0) w'):vcall Vg #[v] w K:=by
 refine zf {} Tryz.func24 ?_;simp only[push_cast,n.len];have fin:∀(v':Value) (ys:List Nat),Bytes F w v' ys->ys.length<=2000->yh yV [(0,v')] w λt9 f=>UY yV t9 f λt10 g=>K t10 g:=λv' ys j E=>by
  refine Ya yc0 (us:=[[v']]) (by simp[j.1.cells1]) rfl ?_;refine yd λb w1 L m H B=>?_;exact C w1 b v' ys m ⟨B,j.ext m,λh=>by have:=hF b h;omega,E⟩ oM
 refine zb (λa=>?_) (λa=>fin v xs n oM);have k:xm x7 v none (some (nI (2000:Nat))) none w λt7 r=>yh yV [(0,t7)] r λt9 f=>UY yV t9 f λt10 g=>K t10 g:=by
  obtain⟨a0,c0,rfl,D,q,d⟩:=n.1.shape;rw[Sl.cut n.1 (λa l c e=>?_) kS0 (by simp;omega)]
  ·refine fin _ (xs.take 2000) ⟨⟨⟨a0,c0,?_,?_,q,λG=>?_⟩,λy j=>?_⟩,λy j=>n.2 y (gS j)⟩ (by simp;omega)
   ·simp only[cutV,V0,gi];rw[GB oM]
   ·simp at D⊢;omega
   ·obtain⟨b,o,p,t,z,A⟩:=d (λe=>by simp at e;subst e;simp at a);refine⟨b,o,p,t,z,λi hi=>?_⟩;simp only[V0,gi] at hi;have:=A i (by simp;omega);have e:(((xs.take 2000).map λx=>Value.int .u8 (x:Nat)).map λx=>[x]).getD i []=((xs.map λx=>Value.int .u8 (x:Nat)).map λx=>[x]).getD i []:=by
     simp only[X0,GJ,PV];rw[K3 oM]
    rw[e];exact this
   ·obtain⟨u,_,rfl⟩:=gy.1 j;rfl
  ·injection e with s I J
   obtain⟨b,o,p,_⟩:=d (λe=>by simp at e;subst e;simp at a);exact⟨b,o,by rw[p] at s;exact(gh s).symm⟩
 exact k
theorem pick_spec {b p:Nat} {v:Value} {xs:List Nat} {n:Int} (h:RdR F w b v xs p) (hn:n<=1099511627776) (hp:p<1099511627776)
  (B:∀w' (k:Nat),Same (· =b) w w'->w'.heap.size=w.heap.size->RdR F w' b v xs (p+1)->(1<=n->(k:Int)<n)->(n<1->k=0)->K (nI k) w'):vcall qY #[oP b 0,nI n] w K:=by
 refine zf {cuts:=[(12292,[])]} Tryz.func27 ?_;have R:=h.few;simp only[push_cast,h.blk.ld1];have y:IntKind.i64.wrap ((p:Int)+1)=((p+1:Nat):Int):=by rw[zj oM oM];omega
 rw[y];refine h.blk.st rfl rfl yL rfl λw1 g l L=>?_;have t:Blk w1 b [v,nI (p+1:Nat)] yV:=L;have u:RdR F w1 b v xs (p+1):=⟨t,h.bytes.same g λx q _ e=>h.apart (e▸q),h.apart,h.few⟩;have q:=u.bytes;refine zo (λ_ w'=>w'=w1/\1<=n/\xs.length≠0) ?_ ?_
 ·intro J hJ;refine zb (λa=>?_) (λa=>?_)
  ·exact B w1 0 g l u (λh=>oM) λ_=>rfl
  ·simp only[push_cast,t.ld0,q.len];refine zb (λa2=>?_) (λa2=>?_)
   ·exact B w1 0 g l u (λh=>oM) λ_=>rfl
   ·exact hJ _ _ ⟨rfl,oM,oM⟩
 rintro _ _ _ ⟨rfl,h1,a0⟩;simp(disch:=(simp only[push_cast])) only[t.ld0,t.ld1,yS0,Y4,KI,yn,Gb,Z6,q.len];rw[show((p+1:Nat):Int)-1=(p:Int) from by omega,zj oM oM];simp only[yY0];have f:∀i,i<xs.length->xs.getD i 0<256:=λi hi=>q.2 _ (by rw[X0,gl hi];exact GU hi);have o:∀x:Nat,((x:Int).tmod n)=((x%n.toNat:Nat):Int)/\((x%n.toNat:Nat):Int)<n:=λx=>by
  obtain⟨m,rfl⟩:∃m:Nat,n=m:=⟨n.toNat,oM⟩;rw[gw];exact⟨rfl,by have:=pE x (show 0<m by omega);omega⟩
 refine zb (λa=>?_) (λa=>?_)
 ·simp(disch:=exact oS) only[t.ld0,q.iaddr,gw,q.load,qB x20 W3];have hb:=f p oM;rw[zj oM oM,j5 oM];obtain⟨m1,m2⟩:=o (xs.getD p 0);rw[m1];exact B _ _ g l u (λ_=>m2) λh=>oM
 ·refine zd λw2 j r=>?_;have S:=t.ext j;have s:=q.ext j;have z:(xs.length:Int)≠0:=oM;have T:((p:Int).tmod xs.length)=((p%xs.length:Nat):Int):=by rw[pH oM];rfl
  have l1:p%xs.length<xs.length:=pE _ oM;have U:IntKind.i64.wrap ((p:Int)*7)=((p*7:Nat):Int):=by rw[zj oM oM];omega
  have V:IntKind.i64.wrap (((p*7:Nat):Int)+3)=((p*7+3:Nat):Int):=by rw[zj oM oM];omega
  have W:(((p*7+3:Nat):Int).tmod xs.length)=(((p*7+3)%xs.length:Nat):Int):=by rw[pH oM];rfl
  have l2:(p*7+3)%xs.length<xs.length:=pE _ oM;have b1:=f _ l1;have b2:=f _ l2;generalize M:xs.getD (p%xs.length) 0=c at b1;generalize A:xs.getD ((p*7+3)%xs.length) 0=d at b2;have Y:IntKind.i64.wrap ((c:Nat):Int)=((c:Nat):Int):=zj oM oM;have Z:IntKind.i64.wrap ((d:Nat):Int)=((d:Nat):Int):=zj oM oM;have e7:IntKind.i64.wrap (((c:Nat):Int)*131)=((c*131:Nat):Int):=by rw[zj oM oM];omega
  have e8:IntKind.i64.wrap (((d:Nat):Int)*1117)=((d*1117:Nat):Int):=by rw[zj oM oM];omega
  have e9:IntKind.i64.wrap (((c*131:Nat):Int)+((d*1117:Nat):Int))=((c*131+d*1117:Nat):Int):=by rw[zj oM oM];omega
  have C:IntKind.i64.wrap ((p:Int)*29)=((p*29:Nat):Int):=by rw[zj oM oM];omega
  have D:IntKind.i64.wrap (((c*131+d*1117:Nat):Int)+((p*29:Nat):Int))=((c*131+d*1117+p*29:Nat):Int):=by rw[zj oM oM];omega
  obtain⟨Q,N⟩:∃Q,Q=p/xs.length:=⟨_,rfl⟩;have hq:Q<=p:=by rw[N];exact GI _ _
  have E:IntKind.i64.wrap ((p:Int).tdiv xs.length)=((Q:Nat):Int):=by
   have:(p:Int).tdiv xs.length=(Q:Int):=by rw[N];rfl
   rw[this];exact zj oM oM
  have G:IntKind.i64.wrap (((Q:Nat):Int)*53)=((Q*53:Nat):Int):=by rw[zj oM oM];omega
  have H:IntKind.i64.wrap (((c*131+d*1117+p*29:Nat):Int)+((Q*53:Nat):Int))=((c*131+d*1117+p*29+Q*53:Nat):Int):=by rw[zj oM oM];omega
  simp(disch:=exact oS) only[S.ld0,yS0,Y4,yn,Gb,Q1,s.len,j5 z,jB z,yX0,Xv,T,U,V,W,E,s.iaddr,gw,s.load,M,A,qB x20 W3,Y,Z,e7,e8,e9,C,D,G,H];have O:c*131+d*1117+p*29+Q*53<9223372036854775808:=oM;generalize c*131+d*1117+p*29+Q*53=X at O⊢;have I:IntKind.i64.wrap ((X:Int).tdiv 64)=((X/64:Nat):Int):=by
   have:(X:Int).tdiv 64=((X/64:Nat):Int):=rfl;rw[this];exact zj oM oM
  rw[jB oM,I,xt0 O oM,j5 oM];obtain⟨m1,m2⟩:=o (X^^^X/64);rw[m1];exact B _ _ (g.trans (Same.of_ext j)) (by rw[r];exact l) (u.ext j) (λ_=>m2) λh=>oM
theorem num_spec {b p:Nat} {v vs:Value} {xs:List Nat} {ns:List Int} (h:RdR F w b v xs p) (g:Ints F' w vs ns) (d:ns≠[]) (o:ns.length<=1000) (n:p<1099511627776) (c:∀x,F' x->x≠b)
  (j:∀w' m,Same (· =b) w w'->w'.heap.size=w.heap.size->RdR F w' b v xs (p+1)->m∈ns->K (nI m) w'):vcall xJ #[oP b 0,vs] w K:=by
 refine zf {} Tryz.func53 ?_;have f:=GC.2 d;simp only[push_cast,g.len];refine pick_spec h oM n λw1 k hs r l i _=>?_;have s:=i oM;have a:=g.same hs λx q _ e=>c x q e;simp(disch:=exact oS) only[push_cast,a.iaddr,a.load];exact j w1 _ hs r l (M.getD_mem oM _)
end
end Go.Proofs.YtjkkiaacmedfdaaGreatDoor
end
