import Derived.Test.YtolbhkcajhlllaaGreatDoorWwcP13
import Derived.OpenVars
import Derived.MakeChecks
import Derived.Stop.LaidErr
import Derived.Stop.LaidTwo
/- A part of the proof. -/
set_option linter.all false
set_option maxRecDepth 9999
set_option maxHeartbeats 2000000
noncomputable section
namespace Go.Proofs.YtolbhkcajhlllaaGreatDoor
open Go Go.Vc Go.Proofs
section
variable {w w' w1 w2:World} {K:oK} {F F' D G H S:Nat->Prop} {n b k p:Nat} {v lv tv dv ev f:Value} {xs:List Nat} {t:M.Tm} {ts us:List M.Tm} {ds:List M.Dcl} {c:M.Cnf} {ar ab at_ an am:Addr}
def RowA (w:World) (a:Addr):Prop:= ∃(c:Array Value) (t:TypeId),w.heap[a.block]?=some (.cells c t (0,0))
theorem RowA.ext {a:Addr} (h:RowA w a) (he:Ext w w'):RowA w' a:=by
 obtain⟨c,t,h⟩:=h;refine⟨c,t,?_⟩;rw[he.block _ (gB.1 h).1 id];exact h
structure Er (w:World) (at_ an am ar ab:Addr):Prop where
 terms:Sent w yI at_
 no:Sent w jf an
 much:Sent w qo am
 errs:Errs (λ_=>False) w ar ab
 rt:RowA w at_
 rn:RowA w an
 rm:RowA w am
 rr:RowA w ar
 d1:an≠at_
 d2:am≠at_
 d3:am≠an
 d4:ar≠at_
 d5:ar≠an
 d6:ar≠am
theorem Er.ext (h:Er w at_ an am ar ab) (he:Ext w w'):Er w' at_ an am ar ab:=
 ⟨h.terms.same he id,h.no.same he id,h.much.same he id,h.errs.ext0 he,h.rt.ext he,h.rn.ext he,h.rm.ext he,h.rr.ext he,h.d1,h.d2,h.d3,h.d4,h.d5,h.d6⟩
def errE (at_ an am ar:Addr):Nat->Value
 |0=> .nilIface
 |1=>erv ar
 |2=>erv at_
 |3=>erv an
 |_=>erv am
theorem VH {a c:Addr} (h:a≠c) (f:RowA w a) (g:RowA w c) (e:K (.bool false) w):vcall qa #[erv a,erv c] w K:=by
 obtain⟨_,_,b⟩:=f;obtain⟨_,_,d⟩:=g;exact k00 h b d e
theorem switch_spec {r q j X:World->Prop} (er:Er w at_ an am ar ab) (k:Nat) (l:k=0->X w) (m:k=1->j w) (n:k=2->r w) (o:k=3->q w) (p:4<=k->j w):
  zt xm (oP yI 0) w λt28 e=>vcall qa #[errE at_ an am ar k,t28] e λt29 b=>vif t29 (r b) (
   zt xm (oP jf 0) b λt32 f=>vcall qa #[errE at_ an am ar k,t32] f λt33 c=>vif t33 (q c) (
    zt xm (oP qo 0) c λt36 g=>vcall qa #[errE at_ an am ar k,t36] g λt37 a=>vif t37 (vif t37 (j a) (X a)) (
     zt xm (oP xM 0) a λt39 i=>vcall qa #[errE at_ an am ar k,t39] i λt40 d=>vif t40 (j d) (X d)))):=by
 rw[y2 xl er.terms.cell]
 match k,l,m,n,o,p with
 |0,l,_,_,_,_=>
  refine qC0 (zn (λh=>by cases h) λ_=>?_);rw[y2 xl er.no.cell];refine qC0 (zn (λh=>by cases h) λ_=>?_);rw[y2 xl er.much.cell];refine qC0 (zn (λh=>by cases h) λ_=>?_);rw[y2 xl er.errs.room.cell];exact qC0 (zn (λh=>by cases h) λ_=>l rfl)
 |1,_,m,_,_,_=>
  refine VH er.d4 er.rr er.rt (zn (λh=>by cases h) λ_=>?_);rw[y2 xl er.no.cell];refine VH er.d5 er.rr er.rn (zn (λh=>by cases h) λ_=>?_);rw[y2 xl er.much.cell];refine VH er.d6 er.rr er.rm (zn (λh=>by cases h) λ_=>?_);rw[y2 xl er.errs.room.cell];exact zx0 (zn (λ_=>m rfl) λh=>by cases h)
 |2,_,_,n,_,_=>exact zx0 (zn (λ_=>n rfl) λh=>by cases h)
 |3,_,_,_,o,_=>
  refine VH er.d1 er.rn er.rt (zn (λh=>by cases h) λ_=>?_);rw[y2 xl er.no.cell];exact zx0 (zn (λ_=>o rfl) λh=>by cases h)
 |k+4,_,_,_,_,p=>
  refine VH er.d2 er.rm er.rt (zn (λh=>by cases h) λ_=>?_);rw[y2 xl er.no.cell];refine VH er.d3 er.rm er.rn (zn (λh=>by cases h) λ_=>?_);rw[y2 xl er.much.cell];exact zx0 (zn (λ_=>zn (λ_=>p oM) λh=>by cases h) λh=>by cases h)
theorem ZY0 {d e f:Option Addr} {a c1 b c2 c c3:Nat}:yj y3 [(0,.slice d a c1),(1,.slice e b c2),(2,.slice f c c3)] w K=K (.agg ⟨[.slice d a c1,.slice e b c2,.slice f c c3,nI 0,.slice none 0 0,.slice none 0 0]⟩) w:=
 zR xw0 (us:=[[.slice d a c1],[.slice e b c2],[.slice f c c3]]) rfl rfl
theorem bdJob (b:DclsR F w' dv ds) (d:TmsR G w' tv ts):yj y3 [(0,dv),(1,tv),(2,.slice none 0 0)] w K=K (.agg ⟨[dv,tv,.slice none 0 0,nI 0,.slice none 0 0,.slice none 0 0]⟩) w:=by
 obtain⟨a,c,rfl,_⟩:=b.shape;obtain⟨_,h,_⟩:=d;obtain⟨e,c',rfl,_⟩:=h.shape;exact ZY0
def q70:List Value:=[.func (.func jO) #[] #[],.func (.func jh) #[] #[],.func (.func qA) #[] #[],.func (.func qV) #[] #[]]
theorem stages_spec (d:∀w' b,b=w.heap.size->Ext w w'->Vals (· =b) w' (.slice (some ⟨b,0,none⟩) 4 4) q70->K (.slice (some ⟨b,0,none⟩) 4 4) w'):vcall WE #[] w K:=by
 refine zf {} Tryz.func48 ?_;exact vbuildS_row1 (xs:=q70) kJ kA k7 (λx a=>by
  simp only[q70,gd,gn,or_false] at a;rcases a with rfl|rfl|rfl|rfl<;>rfl) dC λb w1 e he f c=>d w1 b e he (c.sl1 rfl dC)
theorem yL0:yi0 c ds []=c:=by unfold yi0;simp
def JobS (w0:World) (b:Nat) (dv tv:Value) (ds:List M.Dcl) (ts:List M.Tm) (w:World):Nat->Prop
 |0=>Blk w b [dv,tv,.slice none 0 0,nI 0,.slice none 0 0,.slice none 0 0] y3
 |1=>(∀t,t∈ts->M.tsort ds t=0)/\∃tv',Blk w b [dv,tv',.slice none 0 0,nI 0,.slice none 0 0,.slice none 0 0] y3/\TmsR (λx=>w0.heap.size<=x/\x≠b) w tv' (ts.map (Qn ds))
 |4=>(qk ds ts []).2=1/\∃tv' y z ev,Blk w b [dv,tv',.slice none 0 0,y,z,ev] y3/\OwnI zh w ev (qk ds ts []).1/\∀x,ev.ownBlock=some x->w0.heap.size<=x
 |_=>Kx ds ts=true/\(cnfE ds (ts.map (M.foldT ds))).2=0/\∃tv' lv ls,Blk w b [dv,tv',.slice none 0 0,nI (cnfE ds (ts.map (M.foldT ds))).1.many,lv,.slice none 0 0] y3/\CnfO w0.heap.size w lv ls (cnfE ds (ts.map (M.foldT ds))).1
theorem solved_spec (hd:DclsR F w dv ds) (N:TmsR G w tv ts) (hs:ts.length<=2000000) (er:Er w at_ an am ar ab)
  (hK:∀w' ev,Ext w w'->OwnI zh w' ev (qk ds ts []).1->(∀x,ev.ownBlock=some x->w.heap.size<=x)->K (.tuple #[ev,nI (qk ds ts []).2]) w'):vcall WF #[dv,tv,.slice none 0 0] w K:=by
 refine zf {loops:=[(3,[19])]} Tryz.func32 ?_;rw[bdJob hd N];refine zk λb w1 hb S a6 Z=>?_;refine stages_spec λw2 b2 a5 D O=>?_;have z1:=S.size;have z2:=D.size;have e2:=S.trans D;have a0:=Z.ext D;have out:∀{w':World} {k:Int},Ext w w'->qk ds ts []=([],k)->K (.tuple #[.slice none 0 0,nI k]) w':=λ{w' k} he h=>by
  have:=hK w' (.slice none 0 0) he;rw[h] at this;exact this OwnI.nil λx J=>(by cases J)
 simp only[push_cast,O.len];rw[show q70.length=4 from rfl];refine vloop_up 4 (λi u w'=>u=[nI i]/\Same (· =b) w2 w'/\JobS w b dv tv ds ts w' i) ⟨rfl,Same.refl _ _,a0⟩ ?_;rintro i _ _ q C hi ⟨rfl,I,L⟩ hC;have j:Ext w q:=Ext.then e2 I λy hy=>oM
 have l:=er.ext j;have B:=(hd.weaken (F':=λx=>x<w.heap.size) λx _ h=>h).ext j;have a2:=(N.weaken (F':=λx=>x<w.heap.size) λx _ h=>h).ext j;have Q:=O.same I λx J _ e=>oM
 simp only[push_cast];refine zb (λa=>?_) (λa=>?_)
 ·have T:i<4:=oM;rw[Q.iaddr kR oM (by show(i:Int)<4;omega),gm,Q.load kD (by exact T)];have next:∀{d:World},Same (· =b) q d->JobS w b dv tv ds ts d (i+1)->C [nI (IntKind.i64.wrap ((i:Int)+1))] d:=λ{d} c h4=>by
   rw[inc64' oM];exact hC T _ _ ⟨rfl,I.trans c,h4⟩
  have v:∀{d:World},Same (· =b) q d->Ext w d:=λ{d} c=>Ext.then j c λy hy=>oM;have two:∀{d:World},Ext w d->¬Kx ds ts=true->K (.tuple #[.slice none 0 0,nI 4]) d:=λhe h=>out he (Q3 h);rcases(by omega:i=0\/i=1\/i=2\/i=3) with rfl|rfl|rfl|rfl
  ·show vcall jO #[oP b 0] q _;refine jobFold_spec (show Blk q b [dv,tv,.slice none 0 0,nI 0,.slice none 0 0,.slice none 0 0] y3 from L) B a2 (λx J=>oM) hs l.terms (λt N h d f=>?_) λg d a4 c o a3=>?_
   ·have r:=j.trans f;exact switch_spec (er.ext r) 2 (λh=>by cases h) (λh=>by cases h) (λ_=>two r λm=>h ((all8_iff.1 m).2.2 t N)) (λh=>by cases h) (λh=>oM)
   ·have z3:=j.size;exact switch_spec (er.ext (v c)) 0 (λ_=>next c ⟨g,a4,o,a3.weaken λx J _=>⟨oM,by have:=L.lt;omega⟩⟩) (λh=>by cases h) (λh=>by cases h) (λh=>by cases h) (λh=>oM)
  ·obtain⟨g,p,n,V⟩:=L;show vcall jh #[oP b 0] q _;refine jobBlast_spec n B V l.errs l.terms λd lv ls c o R=>?_;have r:=v c;by_cases m:Kx ds ts=true
   ·have U:ts.map (Qn ds)=ts.map (M.foldT ds):=GI λt N=>(Qm (all8_iff.1 m).2.1 (g t N)).2;rw[U] at o R⊢;have z3:=j.size;rcases qW0 (ZX m) with s|s
    ·rw[s];exact switch_spec (er.ext r) 0 (λ_=>next c ⟨m,s,p,lv,ls,o,R.down z3⟩) (λh=>by cases h) (λh=>by cases h) (λh=>by cases h) (λh=>oM)
    ·rw[s];exact switch_spec (er.ext r) 1 (λh=>by cases h) (λ_=>out r (Js m (by rw[s];decide))) (λh=>by cases h) (λh=>by cases h) (λh=>oM)
   ·have s:(cnfE ds (ts.map (Qn ds))).2=2:=by
     unfold cnfE;rw[if_neg λh=>m (all8_iff.2 ⟨by have:=(all8_iff.1 h).1;rwa[X0] at this,(all8_iff.1 h).2.1,g⟩)]
    rw[s];exact switch_spec (er.ext r) 2 (λh=>by cases h) (λh=>by cases h) (λ_=>two r m) (λh=>by cases h) (λh=>oM)
  ·obtain⟨m,X,p,lv,ls,n,A⟩:=L;show vcall qA #[oP b 0] q _;refine jobExclude_spec n ?_;exact switch_spec l 0 (λ_=>next (Same.refl _ _) ⟨m,X,p,lv,ls,n,A⟩) (λh=>by cases h) (λh=>by cases h) (λh=>by cases h) (λh=>oM)
  ·obtain⟨m,X,p,lv,ls,n,A⟩:=L;show vcall qV #[oP b 0] q _;obtain⟨W,q2,q3⟩:=solveR_run (nots:=[]) m X (λe he=>by cases he) (by simp);rw[yL0] at W q2;refine jobSearch_spec n B (λx J=>oM) (all8_iff.1 m).2.1 A.cnf q2 q3 l.no l.much (λY d ev c o E H=>?_) (λh2 d f=>?_) λh3 d f=>?_
   ·exact switch_spec (er.ext (v c)) 0 (λ_=>next c ⟨by rw[W];exact Y,p,_,lv,ev,o,by rw[W];exact E,λx J=>by have:=H x J;have:=j.size;omega⟩) (λh=>by cases h) (λh=>by cases h) (λh=>by cases h) (λh=>oM)
   ·exact switch_spec (er.ext (j.trans f)) 3 (λh=>by cases h) (λh=>by cases h) (λh=>by cases h) (λ_=>out (j.trans f) (by rw[W];exact h2)) (λh=>oM)
   ·exact switch_spec (er.ext (j.trans f)) 4 (λh=>by cases h) (λh=>by cases h) (λh=>by cases h) (λh=>by cases h) (λ_=>out (j.trans f) (by rw[W];exact h3))
 ·have a1:i=4:=oM;subst a1;obtain⟨Y,p,y,z,ev,hB,E,H⟩:=L;have:=hK q ev j E H;rw[Y] at this;simp only[push_cast,hB.ld5];exact this
end
end Go.Proofs.YtolbhkcajhlllaaGreatDoor
namespace Go.Proofs.YtolbhkcajhlllaaGreatDoor
open Go Go.Vc Go.Proofs Go.M
section
variable {w:World} {K:oK} {F Fr:Nat->Prop} {many:Nat} {c:Cnf} {s:Sat}
theorem l4Abs_spec {x:Int} (h:x.natAbs<=9223372036854775807) (b:K (nI x.natAbs) w):vcall QJ #[nI x] w K:=by
 refine zf {} Tryz.func213 ?_;simp only[push_cast];refine zb (λa=>?_) (λa=>?_)
 ·rw[zj oM oM,show 0-x=(x.natAbs:Int) from by omega];exact b
 ·rwa[show(x.natAbs:Int)=x from by omega] at b
theorem l5Vals_spec {vc v:Value} {put:List Int} (R:CnfR F w vc c) (A:c.many=many) (G:many<=700) (j:Ints Fr w v put) (hm:marksOk many put)
  (Q:∀w' v',Ext w w'->OwnI zh w' v' (signs many put)->(∀x,v'.ownBlock=some x->w.heap.size<=x)->K v' w'):vcall Wd #[vc,v] w K:=by
 refine zf {loops:=[(3,[6])]} Tryz.func75 ?_;obtain⟨lv,rfl,-⟩:=R;have hlen:=hm.len;refine yg λb w1 I p T O=>?_;have z:Blk w1 b [nI c.many,lv] zq:=O;simp only[push_cast,z.ld0];rw[A,zj oM oM,show((many:Int)+1)=((many+1:Nat):Int) from by omega];refine vmkS_own (bs:=8) xz qG xo rfl oM oM λv1 w2 N B l=>?_;have y:OwnI zh w2 v1 (signs many []):=by rw[q80];unfold OwnI;rw[GL];exact N
 have J:=p.size;refine vloop_up put.length (λi u w'=>u=[nI i]/\Ext w w'/\OwnI zh w' v1 (signs many (put.take i))) ⟨rfl,p.trans B,by simpa using y⟩ ?_;rintro i _ _ U C hi ⟨rfl,g,r⟩ H;have o:=j.ext g;have S:=signs_len many (put.take i);simp only[push_cast,o.len];refine zb (λa=>?_) (λa=>?_)
 ·have h:i<put.length:=oM;simp(disch:=first|(simp only[push_cast])|omega) only[push_cast,o.iaddr,o.load];have I:=hm.2 _ (getD_meS h);have q:=M.take_snoc' (d:=0) h;have t:=distinct_take hm.1 (i+1);have k:placeOf (put.take i) (put.getD i 0).natAbs=0:=by
   refine placeOf_zero λx j e=>?_;rw[q] at t;unfold Distinct at t;rw[gw,Gk] at t;exact t.2.2 _ (Gc j) _ (by simp) e
  have f:=signs_snoc (many:=many) I.1 k;rw[<-q] at f;have s:=r.ints;have E:IntKind.i64.wrap ((i:Int)+1)=((i+1:Nat):Int):=by rw[zj oM oM];omega
  generalize W:put.getD i 0=x at*;refine zb (λb3=>?_) (λb3=>?_)
  ·simp(disch:=first|(simp only[push_cast])|omega) only[push_cast,s.iaddr];rw[show x.toNat=x.natAbs from by omega];refine r.st yU oM λV n m D=>?_;rw[if_pos b3] at f;simp only[push_cast,E];exact H h _ _ ⟨rfl,Ext.then g m λx j=>by have:=l x j;omega,by rw[f];exact n⟩
  ·have L:IntKind.i64.wrap (0-x)=(x.natAbs:Int):=by rw[zj oM oM];omega
   rw[L];simp(disch:=first|(simp only[push_cast])|omega) only[push_cast,s.iaddr];refine r.st yU oM λV n m D=>?_;rw[if_neg b3] at f;simp only[push_cast,E];exact H h _ _ ⟨rfl,Ext.then g m λx j=>by have:=l x j;omega,by rw[f];exact n⟩
 ·rw[gC oM] at r;exact Q U v1 g r λx j=>by have:=l x j;omega
theorem l5Sign_spec {v:Value} {put:List Int} {m:Int} (b:Ints F w v (signs many put)) (hm:marksOk many put) (c:many<=700) (h:m≠0) (e:m.natAbs<=many) (d:K (nI (ky0 put m)) w):vcall We #[v,nI m] w K:=by
 refine zf {} Tryz.func222 ?_;have g:=signs_len many put;simp only[push_cast];refine zb (λa=>?_) (λa=>?_)
 ·simp(disch:=first|(simp only[push_cast])|omega) only[push_cast,b.iaddr,b.load];rw[show m.toNat=m.natAbs from by omega,signs_get e,sgn_pos hm a];exact d
 ·have f:IntKind.i64.wrap (0-m)=(m.natAbs:Int):=by rw[zj oM oM];omega
  rw[f];simp(disch:=first|(simp only[push_cast])|omega) only[push_cast,b.iaddr,b.load];have:=sgnV_range put m.natAbs;rw[signs_get e,zj oM oM,gN,sgn_neg hm oM];exact d
theorem l5Look_spec {v v':Value} {put cl:List Int} (t:Ints F w v (signs many put)) (hm:marksOk many put) (g:many<=700) (c:Ints Fr w v' cl) (r:∀l,l∈cl->l≠0/\l.natAbs<=many)
  (p:∀b n x,lookM put cl 0 0=(b,n,x)->K (.tuple #[nI (if b then-1 else(n:Int)),nI (if b then 0 else x)]) w):vcall Wf #[v,v'] w K:=by
 refine zf {loops:=[(4,[6,7,8])]} Tryz.func189 ?_;have hlen:cl.length<=9223372036854775807:=by obtain⟨_,_,_,j,k,_⟩:=c.shape;simp at j;omega
 refine vloop_up cl.length (λi u w'=>w'=w/\∃(n:Nat) (x:Int),u=[nI n,nI x,nI i]/\n<=i/\lookM put (cl.drop i) n x=lookM put cl 0 0) ⟨rfl,0,0,rfl,oM,rfl⟩ ?_;rintro i _ _ _ C hi ⟨rfl,n,x,rfl,y,e⟩ o;simp only[push_cast,c.len];refine zb (λa=>?_) (λa=>?_)
 ·have f:i<cl.length:=oM;simp(disch:=first|(simp only[push_cast])|omega) only[push_cast,c.iaddr,c.load];have h:=r _ (getD_meS f);rw[kS (d:=0) f,Qi] at e;refine l5Sign_spec t hm g h.1 h.2 ?_;have m:IntKind.i64.wrap ((i:Int)+1)=((i+1:Nat):Int):=by rw[zj oM oM];omega
  have q:IntKind.i64.wrap ((n:Int)+1)=((n+1:Nat):Int):=by rw[zj oM oM];omega
  generalize s:cl.getD i 0=l at*;simp only[yw0,yx0];unfold ky0;by_cases j:l∈put
  ·rw[if_pos j] at e⊢;have:=p true 0 0 e.symm;exact zb (λ_=>by simpa using this) (λb=>absurd (by decide:(0:Int)<1) b)
  rw[if_neg j] at e⊢;by_cases k:placeOf put l.natAbs=0
  ·rw[if_pos k] at e⊢;refine zb (λb=>absurd b oM) (λ_=>zb (λ_=>?_) (λb=>absurd rfl b));simp(disch:=first|(simp only[push_cast])|omega) only[push_cast,c.load];rw[m,q,s];exact o f _ _ ⟨rfl,n+1,l,rfl,oM,e⟩
  ·rw[if_neg k] at e⊢;refine zb (λb=>absurd b oM) (λ_=>zb (λb=>absurd b oM) (λ_=>?_));rw[m];exact o f _ _ ⟨rfl,n,x,rfl,oM,e⟩
 ·rw[gY oM] at e;have:=p false n x e.symm;simpa using this
end
section
variable {w:World} {K:oK} {F Fr F':Nat->Prop} {many:Nat} {c:Cnf} {s:Sat}
theorem inc64 {i:Nat} (h:i<9223372036854775807):IntKind.i64.wrap ((i:Int)+1)=((i+1:Nat):Int):=by rw[zj oM oM];omega
theorem l5Find_spec {vc vl v:Value} {put:List Int} {ls:List (List Int)} (hc:CnfR F w vc c) (hl:Lists F' w vl ls) (hx:Ints Fr w v (signs many put)) (hm:marksOk many put) (z:many<=700) (a4:c.list.length+ls.length<=1000000)
  (hb:∀cl,cl∈c.list++ls->∀l,l∈cl->l≠0/\l.natAbs<=many)
  (hK:∀w' k u x,Ext w w'->findM put (c.list++ls) 0 (-1) 0=(k,u,x)->K (.tuple #[nI k,nI (if 0<=k then-1 else u),nI (if 0<=k then 0 else x)]) w'):vcall Wi #[vc,vl,v] w K:=by
 refine zf {loops:=[(5,[9,10,12])],cuts:=[(36875,[13])]} Tryz.func150 ?_;obtain⟨lv,rfl,X⟩:=hc;obtain⟨cs,U,B,T⟩:=X;obtain⟨es,W,H,V⟩:=hl;refine yg λb w1 a1 E a5 hB=>?_;have A:Blk w1 b [nI c.many,lv] zq:=hB;have D:=B.ext E;simp only[push_cast,A.ld1,D.len];refine vloop_up (c.list.length+ls.length) (λi u w'=> ∃(y x:Int),u=[nI y,nI x,nI i]/\Ext w w'/\Blk w' b [nI c.many,lv] zq/\findM put ((c.list++ls).drop i) i y x=findM put (c.list++ls) 0 (-1) 0) ⟨-1,0,rfl,E,A,rfl⟩ ?_;rintro i _ _ w2 C hi ⟨y,x,rfl,s,S,g⟩ Q;have I:=H.ext s;simp only[push_cast,I.len];rw[U,W,zj oM oM];refine zb (λa=>?_) (λa=>?_)
 ·have o:i<c.list.length+ls.length:=oM;refine yo x7 yU λb3 w3 a2 G a6 a0=>?_;have p:=s.trans G;have f:=S.ext G;have q:=B.ext p;have r:=H.ext p;refine zo (λu w'=>w'=w3/\∃v4,u=[v4]/\Ints (λ_=>True) w3 v4 ((c.list++ls).getD i [])) ?_ ?_
  ·intro J Z;refine zb (λa3=>?_) (λa3=>?_)
   ·simp(disch:=first|(simp only[push_cast])|omega) only[push_cast,f.ld1,q.iaddr,q.load];refine Z _ _ ⟨rfl,_,rfl,?_⟩;rw[getD_app_l oM];exact((T i oM).ext p).weaken λ_ _ _=>trivial
   ·obtain⟨j,rfl⟩:∃j,i=c.list.length+j:=⟨i-c.list.length,oM⟩;rw[show((c.list.length+j:Nat):Int)-(c.list.length:Int)=(j:Int) from by omega,zj oM oM];simp(disch:=first|(simp only[push_cast])|omega) only[push_cast,r.iaddr,r.load];refine Z _ _ ⟨rfl,_,rfl,?_⟩;rw[getD_app_r];exact((V j oM).ext p).weaken λ_ _ _=>trivial
  rintro _ _ _ ⟨rfl,v4,rfl,h4⟩;have L:i<(c.list++ls).length:=by rw[V0];exact o
  have M:(c.list++ls).getD i []∈c.list++ls:=by rw[q0,gi L];exact GD _
  rw[kS (d:=[]) L,findM_cons] at g;simp only[push_cast];refine l5Look_spec (hx.ext p) hm z h4 (hb _ M) λO n Y t=>?_;rw[t] at g;dsimp only at g;simp only[push_cast];rw[inc64 oM];have N: ¬(O=true)->((if O then(-1:Int) else(n:Int))=n/\(if O then(0:Int) else Y)=Y):=λh=>⟨if_neg h,if_neg h⟩;by_cases m:O=true
  ·rw[if_pos m] at g;refine zb (λe=>absurd e (by rw[if_pos m];omega)) (λ_=>zb (λe=>absurd e (by rw[if_pos m];omega)) (λ_=>?_));exact Q o _ _ ⟨y,x,rfl,p,f,g⟩
  rw[if_neg m] at g;rw[(N m).1,(N m).2];refine zb (λe=>?_) (λe=>zb (λe1=>?_) (λe1=>?_))
  ·rw[if_pos oM] at g;have:=hK _ _ _ _ p g.symm;rwa[if_pos oM,if_pos oM] at this
  ·rw[if_neg oM,if_pos oM] at g;refine zb (λR=>?_) (λR=>?_)
   ·rw[if_pos R] at g;exact Q o _ _ ⟨i,Y,rfl,p,f,g⟩
   ·rw[if_neg R] at g;exact Q o _ _ ⟨y,x,rfl,p,f,g⟩
  ·rw[if_neg oM,if_neg oM] at g;exact Q o _ _ ⟨y,x,rfl,p,f,g⟩
 ·rw[gY (by rw[V0];omega)] at g;have:=hK w2 _ _ _ s g.symm;rwa[if_neg oM,if_neg oM] at this
theorem l5At_spec {vc v:Value} {k:Nat} (A:CnfR F w vc c) (hs:SatR F' w v s) (G:k<c.list.length+s.learned.length) (C:c.list.length+s.learned.length<=1000000)
  (u:∀w' v',Ext w w'->Ints (λb=>F b\/F' b) w' v' (atM c s k)->K v' w'):vcall yc0 #[vc,v,nI k] w K:=by
 refine zf {} Tryz.func152 ?_;obtain⟨lv,rfl,cs,n,o,m⟩:=A;obtain⟨vp,vw,vl,rfl,-,-,es,B,r,q⟩:=hs;refine yg λb1 w1 y p D i=>?_;refine yg λb2 w2 z g E l=>?_;have t:Blk w2 b1 [nI c.many,lv] zq:=i.ext g;have x:Blk w2 b2 [vp,vw,vl,nI s.code] zu:=l;have f:=p.trans g;have d:=o.ext f;have e:=r.ext f;simp only[push_cast,t.ld1,d.len];refine zb (λa=>?_) (λa=>?_)
 ·simp(disch:=first|(simp only[push_cast])|omega) only[push_cast,d.iaddr,d.load];refine u w2 _ f ?_;rw[atM,getD_app_l oM];exact((m k oM).ext f).weaken λ_ h _=> .inl h
 ·obtain⟨j,rfl⟩:∃j,k=c.list.length+j:=⟨k-c.list.length,oM⟩;simp(disch:=(simp only[push_cast])) only[x.ld2,t.ld1,d.len,Ug,Uj,yn,gO,kV];rw[n,show((c.list.length+j:Nat):Int)-(c.list.length:Int)=(j:Int) from by omega,zj oM oM];simp(disch:=first|(simp only[push_cast])|omega) only[push_cast,e.iaddr,e.load];refine u w2 _ f ?_;rw[atM,getD_app_r];exact((q j oM).ext f).weaken λ_ h _=> .inr h
theorem l5Levels_spec {vc v:Value} (hc:CnfR F w vc c) (hs:SatR F' w v s) (L:c.many=many) (T:many<=700) (hm:marksOk many s.put) (hlen:s.put.length=s.why.length) (A:∀k,k<s.why.length->s.why.getD k 0= -1\/0<=s.why.getD k 0)
  (hK:∀w' v',Ext w w'->OwnI zh w' v' (levs many s.put (yx s.why))->(∀x,v'.ownBlock=some x->w.heap.size<=x)->K v' w'):vcall JG #[vc,v] w K:=by
 refine zf {loops:=[(4,[6,7])],cuts:=[(28680,[6])]} Tryz.func190 ?_;obtain⟨lv,rfl,-⟩:=hc;obtain⟨vp,vw,vl,rfl,hp,hw,-⟩:=hs;have a4:=hm.len;refine yg λb1 w1 a0 N a7 H=>?_;refine yg λb2 w2 a1 p a8 I=>?_;have X:Blk w2 b1 [nI c.many,lv] zq:=H.ext p;have R:Blk w2 b2 [vp,vw,vl,nI s.code] zu:=I;have S:=N.trans p;simp only[push_cast,X.ld0];rw[L,zj oM oM,show((many:Int)+1)=((many+1:Nat):Int) from by omega];refine vmkS_own (bs:=8) xz qG xo rfl oM oM λv1 w3 Y q m=>?_;have G:OwnI zh w3 v1 (levs many [] (yx s.why)):=by rw[jY0];unfold OwnI;rw[GL];exact Y
 have V:=S.size;refine vloop_up s.put.length (λi u w'=>u=[nI ((yx s.why).take i|>.count true:Nat),nI i]/\Ext w w'/\Blk w' b2 [vp,vw,vl,nI s.code] zu/\OwnI zh w' v1 (levs many (s.put.take i) (yx s.why))) ⟨rfl,S.trans q,R.ext q,by simpa using G⟩ ?_;rintro i _ _ W C hi ⟨rfl,g,f,E⟩ Z;have n:=hp.ext g;have z:=hw.ext g;have a5:=WO many (s.put.take i) (yx s.why);have a3:=kq s.why;simp only[push_cast,f.ld0,n.len];refine zb (λa=>?_) (λa=>?_)
 ·have l:i<s.put.length:=oM;have h:=ZU (ds:=yx s.why) (i:=i) oM;have a2:((yx s.why).take i).count true<=700:=gG pM (by simp;omega);refine zo (λu w'=>w'=W/\u=[nI ((yx s.why).take (i+1)|>.count true:Nat)]) ?_ ?_
  ·intro J U;simp(disch:=first|(simp only[push_cast])|omega) only[push_cast,f.ld1,z.iaddr,z.load];have o:=Un (why:=s.why) (k:=i) oM;have a6:=A i oM;refine zb (λb=>?_) (λb=>?_)
   ·rw[inc64 oM];refine U _ _ ⟨rfl,?_⟩;rw[h,o,decide_eq_true oM];rfl
   ·refine U _ _ ⟨rfl,?_⟩;rw[h,o,decide_eq_false oM];rfl
  rintro _ _ _ ⟨rfl,rfl⟩;simp(disch:=first|(simp only[push_cast])|omega) only[push_cast,f.ld0,n.iaddr,n.load];have hb:=hm.2 _ (getD_meS l);have y:=M.take_snoc' (d:=0) l;have D:=distinct_take hm.1 (i+1);have j:placeOf (s.put.take i) (s.put.getD i 0).natAbs=0:=by
   refine placeOf_zero λx B e=>?_;rw[y] at D;unfold Distinct at D;rw[gw,Gk] at D;exact D.2.2 _ (Gc B) _ (by simp) e
  have t:=levs_snoc (many:=many) (ds:=yx s.why) j;rw[<-y,gg,Gy oM,lvl_succ oM,<-h] at t;have Q:=E.ints;refine l4Abs_spec oM ?_;simp(disch:=first|(simp only[push_cast])|omega) only[push_cast,Q.iaddr];refine E.st yU oM λw5 O r a9=>?_;rw[inc64 oM];refine Z l _ _ ⟨rfl,Ext.then g r λx B=>by have:=m x B;omega,f.same r λe=>by have:=m _ e;have:=R.lt;omega,by rw[t];exact O⟩
 ·rw[gC oM] at E;exact hK W v1 g E λx B=>by have:=m x B;omega
theorem l5Top_spec {v v':Value} {put cl:List Int} {ds:List Bool} (m:Ints F w v (levs many put ds)) (j:many<=700) (p:ds.length<=700) (d:Ints Fr w v' cl) (o:∀l,l∈cl->l.natAbs<=many/\placeOf put l.natAbs≠0)
  (s:K (.tuple #[nI (kW put ds cl:Nat),nI (Jp put ds cl).length]) w):vcall z00 #[v,v'] w K:=by
 refine zf {loops:=[(4,[6,7,8])]} Tryz.func191 ?_;have hlen:cl.length<=9223372036854775807:=by obtain⟨_,_,_,n,r,_⟩:=d.shape;simp at n;omega
 have q:=WO many put ds;refine vloop_up cl.length (λi u w'=>w'=w/\u=[nI (kW put ds (cl.take i):Nat),nI (Jp put ds (cl.take i)).length,nI i]) ⟨rfl,rfl⟩ ?_;rintro i _ _ _ C hi ⟨rfl,rfl⟩ f;simp only[push_cast,d.len];refine zb (λa=>?_) (λa=>?_)
 ·have c:i<cl.length:=oM;simp(disch:=first|(simp only[push_cast])|omega) only[push_cast,d.iaddr,d.load];obtain⟨g,h⟩:=o _ (getD_meS c);refine l4Abs_spec oM ?_;simp(disch:=first|(simp only[push_cast])|omega) only[push_cast,m.iaddr,m.load];rw[levs_get g,levV_lit h];obtain⟨t1,t2⟩:=top_step (put:=put) (ds:=ds) c _ rfl;generalize lvM put ds (cl.getD i 0)=k at*;have t:(Jp put ds (cl.take i)).length<=i:=gG (List.length_filter_le _ _) (by simp;omega);refine zb (λb=>?_) (λb=>?_)
  ·rw[if_pos oM] at t1 t2;refine zb (λ_=>?_) (λe=>absurd trivial e);rw[inc64 oM];exact f c _ _ ⟨rfl,by rw[t1,t2];rfl⟩
  ·rw[if_neg oM] at t1 t2;refine zb (λe=>?_) (λe=>?_)
   ·rw[if_pos oM] at t2;rw[inc64 oM,inc64 oM];exact f c _ _ ⟨rfl,by rw[t1,t2]⟩
   ·rw[if_neg oM] at t2;rw[inc64 oM];exact f c _ _ ⟨rfl,by rw[t1,t2]⟩
 ·rwa[gC oM]
theorem l5Has_spec {v:Value} {cl:List Int} {m:Nat} (c:Ints Fr w v cl) (p:∀l,l∈cl->l.natAbs<=700) (g:(∃q,q∈cl/\q.natAbs=m)->K (.bool true) w) (j:(∀q,q∈cl->q.natAbs≠m)->K (.bool false) w):vcall z40 #[v,nI m] w K:=by
 refine zf {loops:=[(2,[5])]} Tryz.func255 ?_;have hlen:cl.length<=9223372036854775807:=by obtain⟨_,_,_,n,s,_⟩:=c.shape;simp at n;omega
 refine vloop_up cl.length (λi u w'=>w'=w/\u=[nI i]/\∀q,q∈cl.take i->q.natAbs≠m) ⟨rfl,rfl,by simp⟩ ?_;rintro i _ _ _ C hi ⟨rfl,rfl,k⟩ o;simp only[push_cast,c.len];refine zb (λa=>?_) (λa=>?_)
 ·have f:i<cl.length:=oM;simp(disch:=first|(simp only[push_cast])|omega) only[push_cast,c.iaddr,c.load];have e:cl.getD i 0∈cl:=getD_meS f;have r:=p _ e;refine l4Abs_spec oM ?_;simp only[push_cast];refine zb (λb=>g ⟨_,e,oM⟩) (λb=>?_);rw[inc64 oM];refine o f _ _ ⟨rfl,rfl,λq h=>?_⟩;rw[M.take_snoc' (d:=0) f,gk,gq] at h;rcases h with h|rfl
  ·exact k q h
  ·omega
 ·rw[gC oM] at k;exact j k
theorem l5Last_spec {v v':Value} {cl:List Int} (hs:SatR F w v s) (hm:marksOk many s.put) (t:many<=700) (m:Ints Fr w v' cl) (z:∀l,l∈cl->l.natAbs<=700)
  (x:∀w',Ext w w'->K (nI ((lastPl s.put cl:Int)-1)) w'):vcall Wg #[v,v'] w K:=by
 refine zf {loops:=[(2,[5])]} Tryz.func223 ?_;obtain⟨vp,vw,vl,rfl,G,-,-⟩:=hs;have E:=hm.len;refine yg λb2 w2 A b H g=>?_;have p:Blk w2 b2 [vp,vw,vl,nI s.code] zu:=g;have c:=G.ext b;simp only[push_cast,p.ld0,c.len];rw[zj oM oM];refine vloop_up s.put.length (λi u w'=>w'=w2/\u=[nI ((s.put.length:Int)-1-i)]/\∀j,s.put.length-i<=j->j<s.put.length->∀q,q∈cl->q.natAbs≠(s.put.getD j 0).natAbs) ⟨rfl,by simp,λj r d=>oM⟩ ?_;rintro i _ _ _ C hi ⟨rfl,rfl,n⟩ y;simp only[push_cast];refine zb (λa=>?_) (λa=>?_)
 ·obtain⟨k,D⟩:∃k:Nat,(s.put.length:Int)-1-i=k:=⟨s.put.length-1-i,oM⟩;have f:k<s.put.length:=oM;rw[D];simp(disch:=first|(simp only[push_cast])|omega) only[push_cast,p.ld0,c.iaddr,c.load];have B:=hm.2 _ (getD_meS f);refine l4Abs_spec oM ?_;refine l5Has_spec (m.ext b) z (λh=>?_) (λh=>?_)
  ·simp only[push_cast];have o:=lastPl_eq hm f h λj r d=>n j oM d;have:=x _ b;rwa[o,show((k+1:Nat):Int)-1=(k:Int) from by omega] at this
  ·simp only[push_cast];rw[zj oM oM];refine y oM _ _ ⟨rfl,by rw[show(s.put.length:Int)-1-((i+1:Nat):Int)=(k:Int)-1 from by omega],λj r d=>?_⟩;by_cases e:j=k
   ·subst e;exact h
   ·exact n j oM d
 ·have o:=lastPl_none (put:=s.put) (cl:=cl) λj d=>n j oM d;have:=x _ b;rw[o] at this;exact this
end
section
variable {w:World} {K:oK} {F Fr F':Nat->Prop} {many:Nat} {c:Cnf} {s:Sat}
theorem qA0 (arr:List Int) (m n:Nat):(zw0 arr m n).length<=n:=by
 unfold zw0;refine gG (List.length_filterMap_le _ _) (by simp)
theorem l5Join_spec {va vb : Value} {a b : List Int} {m : Nat} (ha : Ints F w va a) (hb : Ints F' w vb b) (h700 : many <= 700) (hbd : ∀ k, k ∈ a ++ b -> k ≠ 0 /\ k.natAbs <= many) (hc : ∀ k, k ∈ a ++ b -> k.natAbs ≠ m -> -k ∉ a ++ b)
    (hK : ∀ w' v', Ext w w' -> OwnI zh w' v' (Ql many a b m) -> (∀ x, v'.ownBlock = some x -> w.heap.size <= x) -> K v' w') : vcall Wh #[.int .i64 many, va, vb, .int .i64 m] w K := by
  apply Y20; unfold Y00
  have hla : a.length <= 9223372036854775807 := by obtain ⟨_, _, _, h1, h2, _⟩ := ha.shape; simp at h1; omega
  have hlb : b.length <= 9223372036854775807 := by obtain ⟨_, _, _, h1, h2, _⟩ := hb.shape; simp at h1; omega
  refine yo x7 yU λb0 w0 hb0 he0 hz0 hB0 => ?_
  simp only [push_cast]
  rw [zj (by omega) (by omega), show ((many : Int) + 1) = ((many + 1 : Nat) : Int) from by omega]
  refine vmkS_own (bs := 8) xz qG xo rfl (by omega) (by omega) λv1 w1 h1 he1 hn1 => ?_
  have h1' : OwnI zh w1 v1 (List.replicate (many + 1) 0) := by unfold OwnI; rw [GL]; exact h1
  have E1 := he0.trans he1
  have hz0' := he0.size
  have hN : ∀ x, v1.ownBlock = some x -> w.heap.size <= x := λx hx => by have := hn1 x hx; omega
  have hB1 : Blk w1 b0 [] zE := hB0.ext he1
  have hbv : ∀ x, v1.ownBlock = some x -> x ≠ b0 := λx hx e => by have := hn1 x hx; have := hB0.lt; omega
  refine vloop_up a.length (λi u w' => u = [.int .i64 i] /\ Ext w w' /\ Blk w' b0 [] zE /\ ∃ arr, OwnI zh w' v1 arr /\ ArrP many (a.take i) arr) ⟨rfl, E1, hB1, _, h1', by simpa using arr_nil many⟩ ?_
  rintro i _ _ w2 C hi ⟨rfl, he2, hB2, arr, hv2, har⟩ hC
  have ha2 := ha.ext he2
  simp (disch := (simp only [push_cast]; done)) only [push_cast, ha2.len]
  refine zb (λc1 => ?_) (λc1 => ?_)
  · have hil : i < a.length := by omega
    refine zd λw3 he3 _ => ?_
    have ha3 := ha2.ext he3
    have hv3 := hv2.ext he3
    have hvi := hv3.ints
    have hal := har.len
    obtain ⟨g1, g2⟩ := hbd _ (gV _ (getD_meS hil))
    simp (disch := first | (simp only [push_cast]; done) | omega) only [push_cast, ha3.iaddr, ha3.load, true_and]
    refine l4Abs_spec (by omega) ?_
    simp (disch := first | (simp only [push_cast]; done) | omega) only [push_cast, ha3.iaddr, ha3.load, true_and, and_self, hvi.iaddr]
    refine hv3.st yU (by omega) λw4 hv4 hs4 hz4 => ?_
    rw [inc64 (by omega)]
    refine hC hil _ _ ⟨rfl, Ext.then (he2.trans he3) hs4 hN, (hB2.ext he3).same hs4 λe => hbv _ e rfl, _, hv4, ?_⟩
    rw [M.take_snoc' (d := 0) hil]
    exact arr_snoc har g1 g2
  clear hC
  rw [gC (by omega)] at har
  refine vloop_up b.length (λi u w' => u = [.int .i64 i] /\ Ext w w' /\ Blk w' b0 [] zE /\ ∃ arr, OwnI zh w' v1 arr /\ ArrP many (a ++ b.take i) arr) ⟨rfl, he2, hB2, arr, hv2, by simpa using har⟩ ?_
  clear har hv2 arr hB2 ha2 he2 w2
  rintro j _ _ w2 C hj ⟨rfl, he2, hB2, arr, hv2, har⟩ hC
  have hb2 := hb.ext he2
  simp (disch := (simp only [push_cast]; done)) only [push_cast, hb2.len]
  refine zb (λc2 => ?_) (λc2 => ?_)
  · have hil : j < b.length := by omega
    refine zd λw3 he3 _ => ?_
    have hb3 := hb2.ext he3
    have hv3 := hv2.ext he3
    have hvi := hv3.ints
    have hal := har.len
    obtain ⟨g1, g2⟩ := hbd _ (Gw _ (getD_meS hil))
    simp (disch := first | (simp only [push_cast]; done) | omega) only [push_cast, hb3.iaddr, hb3.load, true_and]
    refine l4Abs_spec (by omega) ?_
    simp (disch := first | (simp only [push_cast]; done) | omega) only [push_cast, hb3.iaddr, hb3.load, true_and, and_self, hvi.iaddr]
    refine hv3.st yU (by omega) λw4 hv4 hs4 hz4 => ?_
    rw [inc64 (by omega)]
    refine hC hil _ _ ⟨rfl, Ext.then (he2.trans he3) hs4 hN, (hB2.ext he3).same hs4 λe => hbv _ e rfl, _, hv4, ?_⟩
    rw [M.take_snoc' (d := 0) hil, <- Ga]
    exact arr_snoc har g1 g2
  clear hC
  rw [gC (by omega)] at har
  have hal := har.len
  have hv0 : OwnI zh w2 (.slice (some ⟨b0, 0, none⟩) 0 0) [] := Blk.own1 (t := zh) (cs := []) (by rw [qG]; exact hB2) (gJ _) rfl rfl (by omega)
  refine vloop_up many (λn u w' => ∃ v, u = [v, .int .i64 (n + 1 : Nat)] /\ Ext w w' /\ OwnI zh w' v1 arr /\ OwnI zh w' v (zw0 arr m n) /\ (∀ x, v.ownBlock = some x -> w.heap.size <= x /\ v1.ownBlock ≠ some x)) ⟨_, rfl, he2, hv2, hv0, λx hx => ?_⟩ ?_
  · have e : b0 = x := K3 hx
    subst e
    exact ⟨by omega, λe => hbv _ e rfl⟩
  rintro n _ _ w3 C3 hn ⟨v, rfl, he3, hv3, hr3, hf3⟩ hC3
  simp only [push_cast]
  have hjl := qA0 arr m n
  refine zb (λc3 => ?_) (λc3 => ?_)
  · have hs := joinA_succ arr m n
    have hinc : IntKind.i64.wrap ((n : Int) + 1 + 1) = ((n + 1 + 1 : Nat) : Int) := by rw [zj (by omega) (by omega)]; omega
    have hvi := hv3.ints
    rw [hinc]
    refine zb (λc4 => ?_) (λc4 => ?_)
    · rw [if_neg (by omega)] at hs
      have e1 : ((n : Int) + 1) = ((n + 1 : Nat) : Int) := rfl
      rw [e1]
      simp (disch := first | (simp only [push_cast]; done) | omega) only [hvi.iaddr, gm, hvi.load, yt0]
      refine zb (λc5 => ?_) (λc5 => ?_)
      · rw [if_neg c5] at hs
        refine zC x7 yU xo rfl rfl λb4 w4 hb4 he4 hz4 hB4 => ?_
        refine (hr3.ext he4).app1 xz hB4 (by omega) (by omega) λv5 w5 hv5 hs5 hn5 => ?_
        have hz3 := he3.size
        refine hC3 (by omega) _ _ ⟨v5, rfl, Ext.then (he3.trans he4) hs5 λx hx => (hf3 x hx).1, (hv3.ext he4).same hs5 λx hx e => (hf3 x e).2 hx, by rw [hs]; exact hv5, λx hx => ?_⟩
        rcases hn5 x hx with e | e
        · exact hf3 x e
        · exact ⟨by omega, λe' => by have := hv3.lt e'; omega⟩
      · rw [if_pos (by simpa using c5), gD] at hs
        exact hC3 (by omega) _ _ ⟨v, rfl, he3, hv3, by rw [hs]; exact hr3, hf3⟩
    · rw [if_pos (by omega), gD] at hs
      exact hC3 (by omega) _ _ ⟨v, rfl, he3, hv3, by rw [hs]; exact hr3, hf3⟩
  · have : n = many := by omega
    subst this
    rw [joinA_eq har hc] at hr3
    exact hK w3 v he3 hr3 λx hx => (hf3 x hx).1
theorem learnS_cons {cl:List Int} (d:satOk many c s) (h:c.many=many) (hF:Fls s.put cl) (hs:Srt cl) (n:2<=(Jp s.put (yx s.why) cl).length):
  lastPl s.put cl-1<s.put.length/\lastPl s.put cl≠0/\0<=s.why.getD (lastPl s.put cl-1) 0/\s.why.getD (lastPl s.put cl-1) 0<c.list.length+s.learned.length/\
  (∀l,l∈cl++atM c s (s.why.getD (lastPl s.put cl-1) 0).toNat->l≠0/\l.natAbs<=many)/\(∀l,l∈cl++atM c s (s.why.getD (lastPl s.put cl-1) 0).toNat->l.natAbs≠(s.put.getD (lastPl s.put cl-1) 0).natAbs-> -l∉cl++atM c s (s.why.getD (lastPl s.put cl-1) 0).toNat):=by
 have v:=topOf_tops (put:=s.put) (ds:=yx s.why) (srt_nodup hs);have b:cl≠[]:=λe=>by subst e;simp[Jp] at n
 have w:=lastPl_pos hF b;obtain⟨k,o⟩:∃k,lastPl s.put cl=k+1:=⟨lastPl s.put cl-1,oM⟩;rw[o,GM];obtain⟨i,t,j,m,himp,-⟩:=last_reason d hF v n o;obtain⟨u,f⟩:=(impl_iff d.mks).1 himp;have g:(s.why.getD k 0).toNat<c.list.length+s.learned.length:=oM
 have off:∀l,l∈cl++atM c s (s.why.getD k 0).toNat->l.natAbs≠(s.put.getD k 0).natAbs-> -l∈s.put:=λl a b=>by
  rcases gk.1 a with a|a
  ·exact hF l a
  ·exact gQ (f l a λe=>b (by rw[e]))
 refine⟨i,oM,j,m,λl a=>?_,λl a b r=>?_⟩
 ·rcases gk.1 a with a|a
  ·have:=d.mks.2 _ (hF l a);omega
  ·exact d.lit h g a
 ·have p:=off l a b;have q:=off (-l) r (by rwa[GZ]);exact d.mks.neg p q
theorem l5Learn_spec {vc v vl v3:Value} {k:Nat} (hc:CnfR F w vc c) (hs:SatR F' w v s) (S:Ints Fr w vl (levs many s.put (yx s.why))) (hv:OwnI zh w v3 (atM c s k)) (e:satOk many c s) (o:c.many=many) (hk:k<c.list.length+s.learned.length) (a1:ku s.put (atM c s k))
  (hK:∀w' v',Ext w w'->OwnI zh w' v' (learnM many c s s.put.length (atM c s k))->(∀x,v'.ownBlock=some x->v3.ownBlock=some x\/w.heap.size<=x)->K v' w'):vcall KG #[vc,v,vl,v3] w K:=by
 refine zf {ord:=[(4,[0,1,2,3,4,5,6,7,8,9,11,12,13,14,15,10,16,17,18],[(0,[1,17,18]),(1,[17,18]),(2,[17,18]),(3,[10,16,17,18]),(4,[10,16,17,18]),(5,[6,8,9,10,16,17,18]),(6,[8,9,10,16,17,18]),(7,[8,9,10,16,17,18]),(8,[9,10,16,17,18]),(9,[10,16,17,18]),(11,[12,14,15,16,17,18]),(12,[14,15,16,17,18]),(13,[14,15,16,17,18]),(14,[15,16,17,18]),(15,[16,17,18]),(10,[16,17,18]),(16,[17,18]),(17,[18])])],loops:=[(2,[3,10])]} Tryz.func192 ?_;have a0:=hc;have M:=hs;obtain⟨lv,rfl,aa⟩:=hc;obtain⟨vp,vw,vls,rfl,hp,hw,j⟩:=hs;have d:many<=700/\c.list.length<=2500:=by
  have:=e.cnf;unfold cnfOk at this;simp only[gh,decide_eq_true_eq] at this;omega
 have a6:=e.few;have m:=e.mks;have ac:=m.len;have hlen:=e.len;have E:=XO a1;have Z:=clauseOk_srt (e.atOk hk);have G:(yx s.why).length<=700:=by rw[kq];omega
 have bounds:∀{b:List Int},Fls s.put b->∀x,x∈b->x.natAbs<=many/\placeOf s.put x.natAbs≠0:=λhF x A=>by
  have h1:=m.2 _ (hF x A);have D:=placeOf_ne_zero (hF x A);rw[GZ] at D;exact⟨oM,D⟩
 generalize atM c s k=cl at*;refine yg λb1 w1 a7 a2 ad X=>?_;refine yg λb2 w2 a8 H ae Y=>?_;have A2:Blk w2 b1 [nI c.many,lv] zq:=X.ext H;have B2:Blk w2 b2 [vp,vw,vls,nI s.code] zu:=Y;have R:=a2.trans H;refine l5Top_spec (S.ext R) d.1 G (hv.ext R).ints (bounds E) ?_;simp only[push_cast];refine kf (λn u w'=> ∃b f v,n=lastPl s.put b/\u=[v,nI (Jp s.put (yx s.why) b).length]/\Ext w w'/\Blk w' b1 [nI c.many,lv] zq/\Blk w' b2 [vp,vw,vls,nI s.code] zu/\
   OwnI zh w' v b/\(∀x,v.ownBlock=some x->v3.ownBlock=some x\/w.heap.size<=x)/\Fls s.put b/\Srt b/\lastPl s.put b<=f/\learnM many c s f b=learnM many c s s.put.length cl) _
  ⟨cl,s.put.length,v3,rfl,rfl,R,A2,B2,hv.ext R,λx A=> .inl A,E,Z,lastPl_le,rfl⟩ ?_
 rintro _ _ _ w3 C ⟨b,f,v,rfl,rfl,V,A3,B3,t,a3,hF,hS,ab,r⟩ hC;simp only[push_cast];refine zb (λa=>?_) (λa=>?_)
 ·have D:2<=(Jp s.put (yx s.why) b).length:=oM;obtain⟨g1,g2,g3,g4,g5,g6⟩:=learnS_cons e o hF hS D;obtain⟨k1,k2,k3,k4⟩:=learnS_ok e o hF hS D;obtain⟨f,rfl⟩:∃f',f=f'+1:=⟨f-1,oM⟩;rw[learnM,if_neg oM] at r;rw[B3.ldAgg zQ];refine l5Last_spec (M.ext V) m d.1 t.ints (λl S=>by have:=(bounds hF l S).1;omega) λw4 g=>?_;have E4:=V.trans g;refine zd λw5 h _=>?_;have B:=E4.trans h;have T:=(A3.ext g).ext h;have Q:=(B3.ext g).ext h;obtain⟨q,hq⟩:∃q,lastPl s.put b=q+1:=⟨lastPl s.put b-1,oM⟩;have j:jx many c s b=Ql many b (atM c s (s.why.getD q 0).toNat) (s.put.getD q 0).natAbs:=by unfold jx;rw[hq,GM]
  rw[hq,GM] at g1 g3 g4 g5 g6;rw[hq,show((q+1:Nat):Int)-1=(q:Int) from by omega];have J:=hp.ext B;have O:=hw.ext B;simp(disch:=first|(simp only[push_cast])|omega) only[push_cast,T.ldAgg zD,Q.ldAgg zQ,T.ld0,Q.ld0,Q.ld1,true_and,J.iaddr,J.load,O.iaddr,O.load];obtain⟨y,hy⟩:∃y:Nat,s.why.getD q 0=y:=⟨(s.why.getD q 0).toNat,oM⟩;rw[hy] at g4 g5 g6 j⊢;rw[gm] at g5 g6 j;refine l5At_spec (a0.ext B) (M.ext B) oM oM λw6 v6 i a5=>?_;have W:=B.trans i;have U:=T.ext i;have B6:=Q.ext i;have L:=hp.ext W;simp(disch:=first|(simp only[push_cast])|omega) only[push_cast,U.ld0,B6.ld0,true_and,and_self,L.iaddr,L.load];have a9:=m.2 _ (getD_meS g1);refine l4Abs_spec oM ?_;simp(disch:=first|(simp only[push_cast])|omega) only[push_cast,U.ld0,true_and,and_self];rw[o];have N:=(((t.ext g).ext h).ext i);refine l5Join_spec N.ints a5 d.1 g5 g6 λw7 v7 p z a4=>?_;have E7:=W.trans p;rw[<-j] at z;refine l5Top_spec (S.ext E7) d.1 G z.ints (bounds k1) ?_;simp only[push_cast];refine hC (lastPl s.put (jx many c s b)) _ _ k3 ⟨_,f,v7,rfl,rfl,E7,U.ext p,B6.ext p,z,λx A=> .inr ?_,k1,k2,oM,r⟩;have:=a4 x A;have:=W.size;omega
 ·have I:learnM many c s s.put.length cl=b:=by
   rw[<-r];cases f with
   |zero=>rfl
   |succ f=>rw[learnM,if_pos oM]
  rw[I] at hK;exact hK w3 v V t a3
theorem l4Max_spec {a b:Nat} (c:K (nI (max a b:Nat)) w):vcall z60 #[nI a,nI b] w K:=by
 refine zf {} Tryz.func225 ?_;simp only[push_cast];refine zb (λh=>?_) (λh=>?_)
 ·rwa[show max a b=a from by omega] at c
 ·rwa[show max a b=b from by omega] at c
theorem l5Below_spec {v v':Value} {put cl:List Int} {ds:List Bool} (o:Ints F w v (levs many put ds)) (m:many<=700) (e:Ints Fr w v' cl) (s:∀l,l∈cl->l.natAbs<=many/\placeOf put l.natAbs≠0)
  (q:K (nI (ZW put ds cl:Nat)) w):vcall KI #[v,v',nI (kW put ds cl:Nat)] w K:=by
 refine zf {loops:=[(3,[7,8])]} Tryz.func194 ?_;have hlen:cl.length<=9223372036854775807:=by obtain⟨_,_,_,p,x,_⟩:=e.shape;simp at p;omega
 have t:=WO many put ds;generalize r:kW put ds cl=T;refine vloop_up cl.length (λi u w'=>w'=w/\u=[nI (maxL (((cl.take i).filter λk=>decide (lvM put ds k<T)).map (lvM put ds)):Nat),nI i]) ⟨rfl,rfl⟩ ?_;rintro i _ _ _ C hi ⟨rfl,rfl⟩ n;simp only[push_cast,e.len];refine zb (λa=>?_) (λa=>?_)
 ·have f:i<cl.length:=oM;simp(disch:=first|(simp only[push_cast])|omega) only[push_cast,e.iaddr,e.load];obtain⟨g,h⟩:=s _ (getD_meS f);refine l4Abs_spec oM ?_;simp(disch:=first|(simp only[push_cast])|omega) only[push_cast,o.iaddr,o.load];rw[levs_get g,levV_lit h];have c:(cl.take (i+1)).filter (λk=>decide (lvM put ds k<T))=(cl.take i).filter (λk=>decide (lvM put ds k<T))++(if lvM put ds (cl.getD i 0)<T then[cl.getD i 0] else[]):=by
   rw[M.take_snoc' (d:=0) f,Pz,PM,List.filter_nil];simp only[decide_eq_true_eq]
  have j:∀A:List Int,maxL ((A++[cl.getD i 0]).map (lvM put ds))=max (maxL (A.map (lvM put ds))) (lvM put ds (cl.getD i 0)):=λA=>by
   rw[gw];exact maxL_snoc _ _ _ rfl
  refine zb (λb=>?_) (λb=>?_)
  ·refine l4Max_spec ?_;rw[inc64 oM];rw[if_pos oM] at c;refine n f _ _ ⟨rfl,?_⟩;rw[c,j]
  ·rw[inc64 oM];rw[if_neg oM,gD] at c;exact n f _ _ ⟨rfl,by rw[c]⟩
 ·rw[gC oM,<-r];exact q
end
section
variable {w:World} {K:oK} {F F':Nat->Prop} {many:Nat} {c:Cnf} {s:Sat}
def SpR (Z:Nat->Prop) (w:World) (v:Value) (s:Sat):Prop:=
 ∃vp vw vl,v= .agg #[vp,vw,vl,nI s.code]/\OwnI zh w vp s.put/\OwnI zh w vw s.why/\(∀b,vp.ownBlock=some b->Z b/\vw.ownBlock≠some b)/\(∀b,vw.ownBlock=some b->Z b)/\
  Lists (λb=>Z b/\vp.ownBlock≠some b/\vw.ownBlock≠some b) w vl s.learned
section
variable {Z Z':Nat->Prop} {v:Value} {w':World}
theorem SpR.ext (h:SpR Z w v s) (he:Ext w w'):SpR Z w' v s:=by
 obtain⟨vp,vw,vl,e,a,b,c,d,f⟩:=h;exact⟨vp,vw,vl,e,a.ext he,b.ext he,c,d,f.ext he⟩
theorem SpR.same {S:Nat->Prop} (h:SpR Z w v s) (hw:Same S w w') (c:∀b,Z b->b<w.heap.size->¬S b):SpR Z w' v s:=by
 obtain⟨vp,vw,vl,e,d,f,g,i,j⟩:=h;exact⟨vp,vw,vl,e,d.same hw λb a=>c b (g b a).1 (d.lt a),f.same hw λb a=>c b (i b a) (f.lt a),g,i,j.same hw λb a=>c b a.1⟩
theorem SpR.weaken (h:SpR Z w v s) (c:∀b,Z b->b<w.heap.size->Z' b):SpR Z' w v s:=by
 obtain⟨vp,vw,vl,e,d,f,g,i,j⟩:=h;exact⟨vp,vw,vl,e,d,f,λb a=>⟨c b (g b a).1 (d.lt a),(g b a).2⟩,λb a=>c b (i b a) (f.lt a),j.weaken λb a k=>⟨c b a.1 k,a.2⟩⟩
theorem SpR.below (h:SpR Z w v s):SpR (λb=>Z b/\b<w.heap.size) w v s:=h.weaken λ_ a c=>⟨a,c⟩
theorem SpR.sat (h:SpR Z w v s):SatR Z w v s:=by
 obtain⟨vp,vw,vl,e,c,d,f,g,i⟩:=h;exact⟨vp,vw,vl,e,c.ints.weaken λb a _=>(f b a).1,d.ints.weaken λb a _=>g b a,i.weaken λb a _=>a.1⟩
theorem SpR.empty:SpR Z w (.agg #[.slice none 0 0,.slice none 0 0,.slice none 0 0,nI 0]) emptyS:=
 ⟨_,_,_,rfl,OwnI.nil,OwnI.nil,λb a=>(by cases a),λb a=>(by cases a),ja0⟩
end
theorem copy_ints {v:Value} {xs:List Int} {b:Nat} {t:TypeId} (f:Blk w b [] zE) (a:Ints F w v xs) (c:xs.length*8<=140737488355328)
  (g:∀v' w',OwnI zh w' v' xs->Same (· =b) w w'->(∀x,v'.ownBlock=some x->x=b\/w.heap.size<=x)->K v' w'):vbi .append [zh,zh] t [.slice (some ⟨b,0,none⟩) 0 0,v] w K:=by
 have d:OwnI zh w (.slice (some ⟨b,0,none⟩) 0 0) []:=Blk.own1 (t:=zh) (cs:=[]) (by rw[qG];exact f) (gJ _) rfl rfl oM;refine d.app (ys:=xs) xz a (by simp only[pR];omega) (by simpa using c) λv' w2 i hs h=>g v' w2 i (hs.mono λx _ a=>?_) λx a=>?_
 ·exact(K3 a).symm
 ·exact(h x a).imp (λe=>(K3 e).symm) id
theorem l5Back_spec {vp vw vl:Value} {L:Nat} (hp:OwnI zh w vp s.put) (hw:OwnI zh w vw s.why) (ac:vl.oneCell'=true) (hlen:s.put.length=s.why.length) (ag:s.put.length<=700) (hL:L<=700) (Y:∀k,k<s.why.length->s.why.getD k 0= -1\/0<=s.why.getD k 0)
  (hK:∀w' F y,Ext w w'->OwnI zh w' F (s.put.take (backN (yx s.why) L s.put.length))->OwnI zh w' y (s.why.take (backN (yx s.why) L s.put.length))->(∀b,F.ownBlock=some b->w.heap.size<=b/\y.ownBlock≠some b)->(∀b,y.ownBlock=some b->w.heap.size<=b)->K (.agg #[F,y,vl,nI s.code]) w'):
  vcall Wj #[.agg #[vp,vw,vl,nI s.code],nI L] w K:=by
 refine zf {loops:=[(3,[5,6])],cuts:=[(16392,[5])]} Tryz.func193 ?_;refine yg λb2 w2 ak a8 av a2=>?_;refine qg qQ λb4 A al O aw a3=>?_;have B4:Blk A b2 [vp,vw,vl,nI s.code] zu:=a2.ext O;have R4:Blk A b4 [.slice none 0 0,.slice none 0 0,.slice none 0 0,nI 0] zu:=a3;have E4:=a8.trans O;have R:=hp.ext E4;have ad:=hw.ext E4;have aa:=R.ints;have Z:=ad.ints;have aq:=kq s.why;refine zo (λu w'=>w'=A/\u=[nI (backN (yx s.why) L s.put.length:Nat)]) ?_ ?_
 ·intro J hJ;have done:∀n,n<=s.put.length->(∀i,i<n->(lvl (yx s.why) i:Int)<=L)->(n=s.put.length\/(L:Int)<(lvl (yx s.why) n:Int))->J [nI (n:Nat)] A:=λn h1 h2 h3=>hJ _ _ ⟨rfl,by rw[backN_eq h1 h2 h3]⟩;refine vloop_up s.put.length (λn u w'=>w'=A/\u=[nI n,nI (((yx s.why).take n).count true:Nat)]/\∀i,i<n->(lvl (yx s.why) i:Int)<=L) ⟨rfl,rfl,oM⟩ ?_;rintro n _ _ A C hn ⟨rfl,rfl,f⟩ hC;simp only[push_cast,B4.ld0,aa.len];refine zb (λa=>?_) (λa=>done n hn f (.inl oM));have a9:n<s.put.length:=oM;have a7:=ZU (ds:=yx s.why) (i:=n) oM;have B:=lvl_succ (ds:=yx s.why) (i:=n) oM;have ap:((yx s.why).take n).count true<=700:=gG pM (by simp;omega);have N:=Un (why:=s.why) (k:=n) oM;have au:=Y n oM;simp(disch:=first|(simp only[push_cast])|omega) only[push_cast,B4.ld1,Z.iaddr,Z.load];have j:∀k:Nat,k=lvl (yx s.why) n->¬(L:Int)<k->(n<s.put.length->∀(u':List Value) (w'':World),(w''=A/\u'=[nI (n+1:Nat),nI (((yx s.why).take (n+1)).count true:Nat)]/\∀i,i<n+1->(lvl (yx s.why) i:Int)<=L)->C u' w'')->C [nI (n+1:Nat),nI k] A:=λk Q ar h=>by
   refine h a9 _ _ ⟨rfl,by rw[a7,<-B,Q],λi hi=>?_⟩;by_cases e:i=n
   ·subst e;omega
   ·exact f i oM
  refine zb (λb=>?_) (λb=>?_)
  ·have Q:((yx s.why).take n).count true+1=lvl (yx s.why) n:=by rw[B,N,decide_eq_true oM];rfl
   rw[inc64 oM];refine zb (λb2=>done n hn f (.inr oM)) (λb2=>?_);rw[inc64 oM];exact j _ Q b2 hC
  ·have Q:((yx s.why).take n).count true=lvl (yx s.why) n:=by rw[B,N,decide_eq_false oM];rfl
   refine zb (λb2=>done n hn f (.inr oM)) (λb2=>?_);rw[inc64 oM];exact j _ Q b2 hC
 rintro _ _ _ ⟨rfl,rfl⟩;have ao:=backN_le (yx s.why) L s.put.length;generalize backN (yx s.why) L s.put.length=n at*;have aj:=E4.size;refine yo x7 yU λb5 w5 am o ax a4=>?_;have B5:=B4.ext o;have S:=R.ext o;simp(disch:=first|(simp only[push_cast])|omega) only[push_cast,B5.ld0,S.cut];have ab:=S.taken (n:=n) oM;refine copy_ints a4 ab.ints (by simp;omega) λv6 w6 t D p=>?_;have B6:=B5.same D oM;refine B6.st t.ints.cells1 t.ints.one j6 rfl λw7 T az a5=>?_;have B7:Blk w7 b2 [v6,vw,vl,nI s.code] zu:=a5;have ay:=D.size;have E:=t.same T λx c e=>by rcases p x c with d|d<;>omega
 have z:Same (λx=>x=b5\/x=b2) w5 w7:=(D.mono λx _ e=> .inl e).trans (T.mono λx _ e=> .inr e);have M:Ext w w7:=Ext.then (E4.trans o) z λx c=>oM
 refine yo x7 yU λb8 w8 an g b0 a6=>?_;have B8:=B7.ext g;have X:=hw.ext (M.trans g);simp(disch:=first|(simp only[push_cast])|omega) only[push_cast,B8.ld1,X.cut];have ae:=X.taken (n:=n) oM;refine copy_ints a6 ae.ints (by simp;omega) λv9 w9 v r q=>?_;have B9:=B8.same r oM;have V:=(E.ext g).same r λx c e=>by have:=E.lt c;omega
 refine B9.st v.ints.cells1 v.ints.one j6 rfl λw10 l ah G=>?_;have a0:Blk w10 b2 [v6,v9,vl,nI s.code] zu:=G;have b1:=r.size;have U:=V.same l λx c e=>by rcases p x c with d|d<;>omega
 have W:=v.same l λx c e=>by rcases q x c with d|d<;>omega
 have hS:Same (λx=>x=b8\/x=b2) w8 w10:=(r.mono λx _ e=> .inl e).trans (l.mono λx _ e=> .inr e);have I:Ext w w10:=Ext.then (M.trans g) hS λx c=>oM
 have a1:Blk w10 b4 [.slice none 0 0,.slice none 0 0,.slice none 0 0,nI 0] zu:=((((R4.ext o).same z oM).ext g).same hS oM);rw[a0.ldAgg zQ];refine a1.stAgg (cs':=[v6,v9,vl,nI s.code]) rfl zQ (λx c=>?_) λaf m ai H=>?_
 ·simp only[gd,gn,or_false] at c;rcases c with rfl|rfl|rfl|rfl
  ·exact t.ints.one
  ·exact v.ints.one
  ·exact ac
  ·rfl
 rw[H.lv zQ];refine hK af v6 v9 (Ext.then I m λx c=>oM) (U.same m λx c e=>?_) (W.same m λx c e=>?_) (λx c=>⟨?_,λe=>?_⟩) (λx c=>?_)
 ·rcases p x c with d|d<;>omega
 ·rcases q x c with d|d<;>omega
 ·rcases p x c with d|d<;>omega
 ·have:=E.lt c;rcases q x e with d|d<;>omega
 ·rcases q x c with d|d<;>omega
theorem Qj {vl:Value} {xss:List (List Int)} (h:Lists F w vl xss):vl.oneCell'=true:=by
 obtain⟨vs,_,a,_⟩:=h;exact a.one
theorem l5Clash_spec {vc v v2:Value} {Z:Nat->Prop} {k:Nat} (hc:CnfR F w vc c) (hs:SpR Z w v s) (d:Ints F' w v2 (atM c s k)) (A:satOk many c s) (Y:c.many=many) (hk:k<c.list.length+s.learned.length) (ac:ku s.put (atM c s k))
  (hK:∀w' v',Ext w w'->SpR (λb=>Z b\/w.heap.size<=b) w' v' (jZ many c s (atM c s k))->K v' w'):vcall KH #[vc,v,v2] w K:=by
 refine zf {ord:=[oz 9 [0,1,2,4,3,5,6,7] [(0,[1,2,4,3,5]),(1,[2,4,3,5]),(2,[4,3,5]),(4,[3])],oz 11 (oR 7) [(0,[1,2,3,4]),(1,[2,3]),(2,[3])]]} Tryz.func151 ?_;have ax:=hc;have bc:=hs.sat;obtain⟨lv,rfl,cx⟩:=hc;obtain⟨vp,vw,vl,rfl,hp,hw,ay,bz,af⟩:=hs;have D:many<=700/\c.list.length<=2500:=by
  have:=A.cnf;unfold cnfOk at this;simp only[gh,decide_eq_true_eq] at this;omega
 have ch:=A.few;have ag:=A.mks;have cz:=ag.len;have hlen:=A.len;have az:(yx s.why).length<=700:=by rw[kq];omega
 have a8:∀k,k<s.why.length->s.why.getD k 0= -1\/0<=s.why.getD k 0:=λk hk=>(A.why k hk).imp id λh=>h.1;have bounds:∀{an:List Int},Fls s.put an->∀x,x∈an->x.natAbs<=many/\placeOf s.put x.natAbs≠0:=λhF x d=>by
  have h1:=ag.2 _ (hF x d);have h2:=placeOf_ne_zero (hF x d);rw[GZ] at h2;exact⟨oM,h2⟩
 have cc:=clauseOk_len (m:=many) (by have:=A.atOk hk;rwa[Y] at this);obtain⟨z1,z2,z3,z4⟩:=WP A Y hk ac;refine yg λb3 w1 ct c0 d0 br=>?_;refine yg λb4 w2 cu b0 d1 bs=>?_;refine qg qQ λb6 w3 cv ad d2 bt=>?_;have A3:Blk w3 b3 [nI c.many,lv] zq:=(br.ext b0).ext ad;have B3:Blk w3 b4 [vp,vw,vl,nI s.code] zu:=bs.ext ad;have R3:Blk w3 b6 [.slice none 0 0,.slice none 0 0,.slice none 0 0,nI 0] zu:=bt;have E3:=c0.trans (b0.trans ad);rw[A3.ldAgg zD,B3.ldAgg zQ];refine l5Levels_spec (ax.ext E3) (bc.ext E3) Y D.1 ag hlen a8 λw4 vlev O z ah=>?_;have E4:=E3.trans O;refine l5Top_spec z.ints D.1 az (d.ext E4) (bounds (XO ac)) ?_;have A4:=A3.ext O;have B4:=B3.ext O;have R4:=R3.ext O;have d3:=O.size;have ones:∀{U V bf:Value} {cd:Int},U.oneCell'=true->V.oneCell'=true->bf.oneCell'=true->∀x,x∈[U,V,bf,nI cd]->x.oneCell'=true:=λh1 h2 h3 x d=>by
  simp only[gd,gn,or_false] at d;rcases d with rfl|rfl|rfl|rfl
  ·exact h1
  ·exact h2
  ·exact h3
  ·rfl
 have code:∀(cd:Int),jZ many c s (atM c s k)={s with code:=cd}->zT zE (oP b4 3) (nI cd) w4 λ_ bi=>zt zu (oP b4 0) bi λt22 bj=>zT zu (oP b6 0) t22 bj λ_ bk=>vlv zu (oP b6 0) bk λr6 bl=>K r6 bl:=λcd X=>by
  refine B4.st rfl rfl yU rfl λw5 bd c9 bu=>?_;have B5:Blk w5 b4 [vp,vw,vl,nI cd] zu:=bu;rw[B5.ldAgg zQ];refine(R4.same bd oM).stAgg (cs':=[vp,vw,vl,nI cd]) rfl zQ (ones hp.ints.one hw.ints.one (Qj af)) λw6 c4 d4 bv=>?_;rw[bv.lv zQ];have W:Ext w w6:=Ext.then E4 ((bd.mono λx _ e=>(.inl e:x=b4\/x=b6)).trans (c4.mono λx _ e=> .inr e)) λx d=>oM;refine hK w6 _ W ?_;rw[X];exact⟨vp,vw,vl,rfl,hp.ext W,hw.ext W,λb hb=>⟨.inl (ay b hb).1,(ay b hb).2⟩,λb hb=> .inl (bz b hb),(af.ext W).weaken λb hb _=>⟨.inl hb.1,hb.2⟩⟩
 simp only[push_cast];refine zb (λa=>?_) (λa=>?_)
 ·exact code 2 (by unfold jZ;rw[if_pos oM])
 obtain⟨es,c1,b5,b1⟩:=af;have b8:=b5.ext E4;simp only[push_cast,B4.ld2,b8.len];refine zb (λa2=>?_) (λa2=>?_)
 ·exact code 3 (by unfold jZ;rw[if_neg oM,if_pos oM])
 clear code;have X:jZ many c s (atM c s k)={s with put:=s.put.take (backN (yx s.why) (ZW s.put (yx s.why) (learnM many c s s.put.length (atM c s k))) s.put.length),why:=s.why.take (backN (yx s.why) (ZW s.put (yx s.why) (learnM many c s s.put.length (atM c s k))) s.put.length),learned:=s.learned++[learnM many c s s.put.length (atM c s k)]}:=by
  unfold jZ;rw[if_neg oM,if_neg oM]
 rw[X] at hK;clear X;refine zd λw5 J _=>?_;have A5:=A4.ext J;have B5:=B4.ext J;simp only[push_cast,A5.ldAgg zD,B5.ldAgg zQ,true_and];refine yo x7 yU λb7 w7 cw L d5 bw=>?_;have E7:=E4.trans (J.trans L);have A7:=A5.ext L;have B7:=B5.ext L;simp only[push_cast,A7.ldAgg zD,B7.ldAgg zQ,true_and,and_self];have c9:=J.size;have cq:=L.size;refine copy_ints bw (d.ext E7) oM λv8 w8 c5 M c2=>?_;have A8:=A7.same M oM;have B8:=B7.same M oM;have ab:Ext w w8:=Ext.then E7 M λx d=>by have:=E4.size;omega
 simp only[push_cast,A8.ldAgg zD,B8.ldAgg zQ,true_and,and_self];have d6:=M.size;have R:=((z.ext J).ext L).same M λx d e=>by have:=z.lt d;omega
 refine l5Learn_spec (ax.ext ab) (bc.ext ab) R.ints c5 A Y hk ac λw9 v9 Q ai c3=>?_;have E9:=ab.trans Q;have d7:=Q.size;have S:∀x,v9.ownBlock=some x->w4.heap.size<=x:=λx d=>by
  rcases c3 x d with e|e
  ·rcases c2 x e with e|e<;>omega
  ·omega
 generalize cy:learnM many c s s.put.length (atM c s k)=lc at*;refine yo Q1 j6 λa9 w10 ce n ci ao=>?_;have ak:=(B8.ext Q).ext n;have am:=E9.trans n;have ae:=b5.ext am;simp only[push_cast,ak.ld2];have bq:OwnV zJ w10 (.slice (some ⟨a9,0,none⟩) 0 0) []:=Blk.own1 (t:=zJ) (cs:=[]) (by rw[Um];exact ao) (gJ _) rfl rfl oM;have b2:∀u,u∈es->u.oneCell'=true:=λu hu=>by
  obtain⟨i,hi,rfl⟩:=gr hu;have:=(b1 i oM).one;simpa[q0,hi] using this
 refine bq.app (us:=es) ZO ae b2 (by simp;omega) (by simp;omega) λv11 bg a6 a5 ba=>?_;have f:∀x,v11.ownBlock=some x->w9.heap.size<=x:=λx d=>by
  rcases ba x d with e|e
  ·have e:a9=x:=K3 e;omega
  ·omega
 have r:Same (· =a9) w10 bg:=a5.mono λx _ e=>(K3 e).symm;have bm:=ak.same r oM;have c6:=n.size;have cj:=a5.size;have T:=(ai.ext n).same r λx d e=>by have:=ai.lt d;omega
 have au:Ext w bg:=Ext.then am r λx d=>by have:=E9.size;omega
 refine zC Q1 j6 VM rfl T.ints.cells1 λcr d8 cf g ck ap=>?_;rw[Gh] at a6;refine OwnV.app1 (a6.ext g) ZO ap T.ints.one oM oM λa1 ca C o bb=>?_;have E:∀x,a1.ownBlock=some x->w9.heap.size<=x:=λx d=>by
  rcases bb x d with e|e
  ·exact f x e
  ·have:=g.size;omega
 have c7:=g.size;have cl:=o.size;have bn:=(bm.ext g).same o λe=>by have:=f _ e;have:=B8.lt;omega
 have av:Ext w ca:=Ext.then (au.trans g) o λx d=>by have:=f x d;have:=E9.size;omega
 have be:=(T.ext g).same o λx d e=>by have:=f x e;have:=ai.lt d;omega
 refine bn.st C.vals.cells1 C.vals.one XZ rfl λaj p cm aq=>?_;have bo:Blk aj b4 [vp,vw,a1,nI s.code] zu:=aq;have aw:Ext w aj:=Ext.then av p λx d=>oM
 have G:=C.same p λx d e=>by have:=E x d;have:=B8.lt;omega
 have H:=be.same p λx d e=>by have:=S x d;have:=B4.lt;omega
 have a0:OwnI zh aj vlev (levs many s.put (yx s.why)):=((((R.ext Q).ext n).same r λx d e=>by have:=z.lt d;omega).ext g|>.same o λx d e=>by have:=f x e;have:=z.lt d;omega).same p λx d e=>by have:=ah x d;have:=B3.lt;omega
 refine zd λd9 j _=>?_;have al:=bo.ext j;simp only[push_cast,al.ldAgg zQ,true_and];have l:=aw.trans j;have c8:=p.size;have cn:=j.size;rw[<-z3];refine l5Below_spec (a0.ext j).ints D.1 (H.ext j).ints (bounds z1) ?_;simp only[push_cast,al.ldAgg zQ,true_and,and_self];have bx:ZW s.put (yx s.why) lc<=700:=by
  unfold ZW;rcases j3 (xs:=(lc.filter λk=>decide (lvM s.put (yx s.why) k<kW s.put (yx s.why) lc)).map (lvM s.put (yx s.why))) with e|e
  ·omega
  ·obtain⟨q,_,e⟩:=gp.1 e;rw[<-e];exact gG (lvl_le _ _) az
 refine l5Back_spec (s:={s with code:=s.code}) (hp.ext l) (hw.ext l) C.vals.one hlen oM bx a8 λcb U V y a4 a7 I N=>?_;have bp:Blk cb b6 [.slice none 0 0,.slice none 0 0,.slice none 0 0,nI 0] zu:=by
  have h6:=R3.lt;exact(((((((((R4.ext J).ext L).same M oM).ext Q).ext n).same r oM).ext g).same o λe=>by have:=f _ e;omega).same p oM|>.ext j).ext y
 refine bp.stAgg (cs':=[U,V,a1,nI s.code]) rfl zQ (ones a4.ints.one a7.ints.one C.vals.one) λbh B cp ar=>?_;rw[ar.lv zQ];have a3:Ext w bh:=Ext.then (l.trans y) B λx d=>oM
 have cg:=R3.lt;have co:=y.size;refine hK bh _ a3 ⟨U,V,a1,rfl,a4.same B λx d e=>by have:=(I x d).1;omega,a7.same B λx d e=>by have:=N x d;omega,λx d=>⟨.inr (by have:=(I x d).1;have:=l.size;omega),(I x d).2⟩,λx d=> .inr (by have:=N x d;have:=l.size;omega),es++[v9],by simp[c1],?_,λi hi=>?_⟩
 ·have aa:=((G.ext j).ext y).same B λx d e=>by have:=E x d;omega
  refine aa.vals.weaken λx d _=>⟨.inr (by have:=E x d;have:=E9.size;omega),λe=>?_,λe=>?_⟩
  ·have:=(I x e).1;have:=G.lt d;omega
  ·have:=N x e;have:=G.lt d;omega
 ·simp only[V0,gX] at hi;by_cases b9:i<s.learned.length
  ·rw[getD_app_l oM,getD_app_l b9];refine(((b1 i b9).weaken (F':=λx=>(Z x/\vp.ownBlock≠some x/\vw.ownBlock≠some x)/\x<w.heap.size) λx h1 h2=>⟨h1,h2⟩).ext a3).weaken λx d _=>⟨.inl d.1.1,λe=>?_,λe=>?_⟩
   ·have:=(I x e).1;have:=l.size;omega
   ·have:=N x e;have:=l.size;omega
  ·have e1:i=s.learned.length:=oM;have e2:i=es.length:=oM;have g1:(es++[v9]).getD i undef=v9:=by rw[e2];simp
   have g2:(s.learned++[lc]).getD i []=lc:=by rw[e1];simp
   rw[g1,g2];have aa:=((H.ext j).ext y).same B λx d e=>by have:=S x d;omega
   refine aa.ints.weaken λx d _=>⟨.inr (by have:=S x d;have:=E4.size;omega),λe=>?_,λe=>?_⟩
   ·have:=(I x e).1;have:=H.lt d;omega
   ·have:=N x e;have:=H.lt d;omega
end
section
variable {w:World} {K:oK} {F F':Nat->Prop} {many:Nat} {c:Cnf} {s:Sat}
theorem l5Do_spec {vc v : Value} {Z : Nat -> Prop} (hc : CnfR F w vc c) (hs : SpR Z w v s) (hok : satOk many c s) (hcm : c.many = many)
    (hK : ∀ w' v', Same Z w w' -> SpR (λb => Z b \/ w.heap.size <= b) w' v' (goM many c s) -> K v' w') : vcall yb0 #[vc, v] w K := by
  apply Y30; unfold Y10
  have hc' := hc
  have hs' := hs.sat
  have hs0 := hs
  obtain ⟨lv, rfl, hcl⟩ := hc
  obtain ⟨vp, vw, vl, rfl, hp, hw, hd1, hd2, hls⟩ := hs
  have hmany : many <= 700 /\ c.list.length <= 2500 := by
    have := hok.cnf
    unfold cnfOk at this
    simp only [gh, decide_eq_true_eq] at this
    omega
  have hfew := hok.few
  have hmk := hok.mks
  have hpl := hmk.len
  have hlen := hok.len
  have hbnd : ∀ cl, cl ∈ c.list ++ s.learned -> ∀ l, l ∈ cl -> l ≠ 0 /\ l.natAbs <= many := λcl hcl l hl => satOk.bnd hok hcm hcl hl
  refine yg λb2 w1 hb2 he1 hz1 hB1 => ?_
  refine yg λb3 w2 hb3 he2 hz2 hB2 => ?_
  refine qg qQ λb4 w3 hb4 he3 hz3 hB3 => ?_
  have A3 : Blk w3 b2 [.int .i64 c.many, lv] zq := (hB1.ext he2).ext he3
  have B3 : Blk w3 b3 [vp, vw, vl, .int .i64 s.code] zu := hB2.ext he3
  have R3 : Blk w3 b4 [.slice none 0 0, .slice none 0 0, .slice none 0 0, .int .i64 0] zu := hB3
  have E3 := he1.trans (he2.trans he3)
  rw [A3.ldAgg zD]
  simp (disch := (simp only [push_cast]; done)) only [push_cast, B3.ld0]
  refine l5Vals_spec (hc'.ext E3) hcm hmany.1 (hp.ext E3).ints hmk λw4 v4 he4 hv4 hn4 => ?_
  have E4 := E3.trans he4
  have A4 := A3.ext he4
  have B4 := B3.ext he4
  simp (disch := (simp only [push_cast]; done)) only [push_cast, A4.ldAgg zD, B4.ld2]
  refine l5Find_spec (hc'.ext E4) (hls.ext E4) hv4.ints hmk hmany.1 (by omega) hbnd λw5 k u x he5 hf => ?_
  have E5 := E4.trans he5
  have A5 := A4.ext he5
  have B5 := B4.ext he5
  have R5 := (R3.ext he4).ext he5
  have hv5 := hv4.ext he5
  have l3 := B5.lt
  have l4 := R5.lt
  have hz5 := E5.size
  have hz4 := he4.size
  simp only [push_cast]
  have ones : ∀ {vp' vw' vl' : Value} {cd : Int}, vp'.oneCell' = true -> vw'.oneCell' = true -> vl'.oneCell' = true -> ∀ x, x ∈ [vp', vw', vl', .int .i64 cd] -> x.oneCell' = true := λh1 h2 h3 x hx => by
    simp only [gd, gn, or_false] at hx
    rcases hx with rfl | rfl | rfl | rfl
    · exact h1
    · exact h2
    · exact h3
    · rfl
  have hgo : goM many c s = (if 0 <= k then jZ many c s (atM c s k.toNat) else if 0 <= u then { s with put := s.put ++ [x], why := s.why ++ [u] }
    else if s.put.length = many then { s with code := 1 } else { s with put := s.put ++ [-(Zn many s.put : Int)], why := s.why ++ [-1] }) := by
    unfold goM; rw [hf]
  have push : ∀ (w6 : World) (l y : Int), Ext w w6 -> Blk w6 b3 [vp, vw, vl, .int .i64 s.code] zu -> Blk w6 b4 [.slice none 0 0, .slice none 0 0, .slice none 0 0, .int .i64 0] zu -> w5.heap.size <= w6.heap.size -> goM many c s = { s with put := s.put ++ [l], why := s.why ++ [y] } ->
      vbuildS zh 1 [(0, .int .i64 l)] w6 λt39 w_28 => vbi .append [zh, zh] zh [vp, t39] w_28 λt40 w_29 => zT zh (.pointer (some ⟨b3, 0, none⟩)) t40 w_29 λ_ w_31 => zt zh (.pointer (some ⟨b3, 1, none⟩)) w_31 λt43 w_33 =>
      vbuildS zh 1 [(0, .int .i64 y)] w_33 λt45 w_34 => vbi .append [zh, zh] zh [t43, t45] w_34 λt46 w_35 => zT zh (.pointer (some ⟨b3, 1, none⟩)) t46 w_35 λ_ w_37 => zt zu (.pointer (some ⟨b3, 0, none⟩)) w_37 λt48 w_38 =>
      zT zu (.pointer (some ⟨b4, 0, none⟩)) t48 w_38 λ_ w_39 => vlv zu (.pointer (some ⟨b4, 0, none⟩)) w_39 λr4_1 w_40 => K r4_1 w_40 := by
    intro w6 l y E6 B6 R6 hz6 hgo'
    have hzE := E6.size
    refine zC x7 yU xo rfl rfl λb7 w7 hb7 he7 hz7 hB7 => ?_
    have E7 := E6.trans he7
    refine (hp.ext E7).app1 xz hB7 (by omega) (by omega) λvp' w8 hp8 hs8 hn8 => ?_
    have nb : ∀ x, vp.ownBlock = some x -> x < w.heap.size := λx hx => hp.lt hx
    have nw : ∀ x, vw.ownBlock = some x -> x < w.heap.size := λx hx => hw.lt hx
    have B8 := (B6.ext he7).same hs8 λe => by have := nb _ e; omega
    refine B8.st hp8.ints.cells1 hp8.ints.one j6 rfl λw9 hs9 hz9 hB9 => ?_
    have B9 : Blk w9 b3 [vp', vw, vl, .int .i64 s.code] zu := hB9
    have hp9 := hp8.same hs9 λx hx e => by rcases hn8 x hx with e' | e'; (have := nb _ e'; omega); omega
    have hw9 := ((hw.ext E7).same hs8 λx hx e => (hd1 x e).2 hx).same hs9 λx hx e => by have := nw _ hx; omega
    simp (disch := (simp only [push_cast]; done)) only [push_cast, B9.ld1]
    have hz8 := hs8.size
    refine zC x7 yU xo rfl rfl λb10 w10 hb10 he10 hz10 hB10 => ?_
    refine (hw9.ext he10).app1 xz hB10 (by omega) (by omega) λvw' w11 hw11 hs11 hn11 => ?_
    have B11 := (B9.ext he10).same hs11 λe => by have := nw _ e; omega
    have hp11 := (hp9.ext he10).same hs11 λx hx e => by
      rcases hn8 x hx with e' | e'
      · exact (hd1 x e').2 e
      · have := nw _ e; omega
    refine B11.st hw11.ints.cells1 hw11.ints.one j6 rfl λw12 hs12 hz12 hB12 => ?_
    have B12 : Blk w12 b3 [vp', vw', vl, .int .i64 s.code] zu := hB12
    have hS : Same (λx => vp.ownBlock = some x \/ vw.ownBlock = some x \/ x = b3) w7 w12 := (hs8.mono λx _ e => .inl e).trans ((hs9.mono λx _ e => .inr (.inr e)).trans ((Same.of_ext he10).trans ((hs11.mono λx _ e => .inr (.inl e)).trans (hs12.mono λx _ e => .inr (.inr e)))))
    have R12 := (R6.ext he7).same hS (by rintro (e | e | e); exact absurd (nb _ e) (by omega); exact absurd (nw _ e) (by omega); omega)
    have hp12 := hp11.same hs12 λx hx e => by rcases hn8 x hx with e' | e'; (have := nb _ e'; omega); omega
    have hz11 := hs11.size
    have hw12 := hw11.same hs12 λx hx e => by rcases hn11 x hx with e' | e'; (have := nw _ e'; omega); omega
    rw [B12.ldAgg zQ]
    refine R12.stAgg (cs' := [vp', vw', vl, .int .i64 s.code]) rfl zQ (ones hp12.ints.one hw12.ints.one (Qj hls)) λw13 hs13 hz13 hB13 => ?_
    rw [hB13.lv zQ]
    have hS13 : Same (λx => vp.ownBlock = some x \/ vw.ownBlock = some x \/ x = b3 \/ x = b4) w7 w13 := (hS.mono λx _ e => e.imp id λe => e.imp id .inl).trans (hs13.mono λx _ e => .inr (.inr (.inr e)))
    have hSw : Same (λb => vp.ownBlock = some b \/ vw.ownBlock = some b) w w13 := by
      refine ⟨hS13.os.trans E7.os, hS13.tape.trans E7.tape, hS13.output.trans E7.output, gG E7.size hS13.size, λb hb hn => ?_⟩
      rw [hS13.block b (by have := E7.size; omega) (by rintro (e | e | e | e); exact hn (.inl e); exact hn (.inr e); omega; omega), E7.block b hb id]
    have hz12' := hS.size
    refine hK w13 _ (hSw.mono λb _ e => e.elim (λe => (hd1 b e).1) (hd2 b)) ?_
    rw [hgo']
    refine ⟨vp', vw', vl, rfl, hp12.same hs13 λx hx e => by rcases hn8 x hx with e' | e'; (have := nb _ e'; omega); omega, hw12.same hs13 λx hx e => by rcases hn11 x hx with e' | e'; (have := nw _ e'; omega); omega, λx hx => ?_, λx hx => ?_, ?_⟩
    · rcases hn8 x hx with e | e
      · refine ⟨.inl (hd1 x e).1, λe2 => ?_⟩
        rcases hn11 x e2 with e3 | e3
        · exact (hd1 x e).2 e3
        · have := nb _ e; omega
      · refine ⟨.inr (by omega), λe2 => ?_⟩
        rcases hn11 x e2 with e3 | e3
        · have := nw _ e3; omega
        · have := hp8.lt hx; omega
    · rcases hn11 x hx with e | e
      · exact .inl (hd2 x e)
      · exact .inr (by omega)
    · refine (((hls.weaken (F' := λb => (Z b /\ vp.ownBlock ≠ some b /\ vw.ownBlock ≠ some b) /\ b < w.heap.size) λb h1 h2 => ⟨h1, h2⟩).same hSw λb hb _ e => e.elim hb.1.2.1 hb.1.2.2).weaken λx hx _ => ⟨.inl hx.1.1, λe => ?_, λe => ?_⟩)
      · rcases hn8 x e with e' | e'
        · exact hx.1.2.1 e'
        · have := hx.2; omega
      · rcases hn11 x e with e' | e'
        · exact hx.1.2.2 e'
        · have := hx.2; omega
  rcases find_cases s.put (c.list ++ s.learned) with ⟨i, u', x', hi, e, hcc⟩ | ⟨hn, ⟨i, x', hi, e, hu, -⟩ | ⟨e, -⟩⟩
  · rw [hf, Gi, Gi] at e
    obtain ⟨rfl, rfl, rfl⟩ := e
    rw [V0] at hi
    rw [if_pos (by omega), gm] at hgo
    refine zb (λ_ => ?_) (λb => absurd (by omega) b)
    refine zd λw6 he6 _ => ?_
    have E6 := E5.trans he6
    have A6 := A5.ext he6
    have B6 := B5.ext he6
    simp (disch := (simp only [push_cast]; done)) only [push_cast, A6.ldAgg zD, B6.ldAgg zQ, true_and]
    refine l5At_spec (hc'.ext E6) (hs'.ext E6) hi (by omega) λw7 v7 he7 hv7 => ?_
    have E7 := E6.trans he7
    have A7 := A6.ext he7
    have B7 := B6.ext he7
    simp (disch := (simp only [push_cast]; done)) only [push_cast, A7.ldAgg zD, B7.ldAgg zQ, true_and, and_self]
    refine l5Clash_spec (hc'.ext E7) (hs0.below.ext E7) hv7 hok hcm hi hcc λw8 v8 he8 hv8 => ?_
    have R8 := ((R5.ext he6).ext he7).ext he8
    have E8 := E7.trans he8
    rw [<- hgo] at hv8
    obtain ⟨p8, y8, l8, rfl, h8⟩ := hv8.sat.fields
    refine R8.stAgg (cs' := [p8, y8, l8, .int .i64 (goM many c s).code]) rfl zQ h8 λw9 hs9 hz9 hB9 => ?_
    rw [hB9.lv zQ]
    refine hK w9 _ (Same.of_ext (Ext.then E8 hs9 λx hx => by omega)) ((hv8.same hs9 λb hb _ e => ?_).weaken λb hb _ => ?_)
    · have := E7.size; have := R5.lt; have := he6.size; have := he7.size
      rcases hb with hb | hb
      · have := hb.2; omega
      · omega
    · rcases hb with hb | hb
      · exact .inl hb.1
      · exact .inr (by have := E7.size; omega)
  · rw [hf, Gi, Gi] at e
    obtain ⟨rfl, rfl, rfl⟩ := e
    rw [if_neg (by omega), if_pos (by omega)] at hgo
    refine zb (λb => absurd b (by omega)) (λ_ => zb (λ_ => ?_) (λb => absurd (by omega) b))
    simp (disch := (simp only [push_cast]; done)) only [push_cast, B5.ld0]
    exact push w5 _ _ E5 B5 R5 (gy _) hgo
  · rw [hf, Gi, Gi] at e
    obtain ⟨rfl, rfl, rfl⟩ := e
    rw [if_neg (by omega), if_neg (by omega)] at hgo
    refine zb (λb => absurd b (by omega)) (λ_ => zb (λb => absurd b (by omega)) (λ_ => ?_))
    have hpi := (hp.ext E5).ints
    simp (disch := (simp only [push_cast]; done)) only [push_cast, B5.ld0, A5.ld0, hpi.len]
    refine zb (λb => ?_) (λb => ?_)
    · rw [if_pos (by omega)] at hgo
      refine B5.st rfl rfl yU rfl λw6 hs6 hz6 hB6 => ?_
      have B6 : Blk w6 b3 [vp, vw, vl, .int .i64 1] zu := hB6
      rw [B6.ldAgg zQ]
      refine (R5.same hs6 (by omega)).stAgg (cs' := [vp, vw, vl, .int .i64 1]) rfl zQ (ones hp.ints.one hw.ints.one (Qj hls)) λw7 hs7 hz7 hB7 => ?_
      rw [hB7.lv zQ]
      have hE7 : Ext w w7 := Ext.then E5 ((hs6.mono λx _ e => (.inl e : x = b3 \/ x = b4)).trans (hs7.mono λx _ e => .inr e)) λx hx => by omega
      refine hK w7 _ (Same.of_ext hE7) ?_
      rw [hgo]
      exact ⟨vp, vw, vl, rfl, hp.ext hE7, hw.ext hE7, λb hb => ⟨.inl (hd1 b hb).1, (hd1 b hb).2⟩, λb hb => .inl (hd2 b hb), (hls.ext hE7).weaken λb hb _ => ⟨.inl hb.1, hb.2⟩⟩
    · rw [if_neg (by omega)] at hgo
      obtain ⟨f1, f2, f3, f4⟩ := free_spec hmk (by omega)
      have hvi := hv5.ints
      have hsl := signs_len many s.put
      refine vloop_up (Zn many s.put - 1) (λi u w' => u = [.int .i64 (i + 1 : Nat)] /\ w' = w5) ⟨rfl, rfl⟩ ?_
      rintro i _ _ w5 C hi ⟨rfl, rfl⟩ hC
      have hsg := sgn_pos hmk (m := ((i + 1 : Nat) : Int)) (by omega)
      rw [pB] at hsg
      simp (disch := first | (simp only [push_cast]; done) | omega) only [sl0, hvi.iaddr, gm, hvi.load]
      rw [signs_get (by omega), hsg]
      have hz0 : ky0 s.put ((i + 1 : Nat) : Int) = 0 ↔ placeOf s.put (i + 1) = 0 := by
        unfold ky0
        rw [pB]
        by_cases hm : ((i + 1 : Nat) : Int) ∈ s.put
        · rw [if_pos hm]
          have := placeOf_ne_zero hm
          rw [pB] at this
          exact ⟨λh => by omega, λh => absurd h this⟩
        · rw [if_neg hm]
          by_cases hp0 : placeOf s.put (i + 1) = 0
          · rw [if_pos hp0]; simp [hp0]
          · rw [if_neg hp0]; simp [hp0]
      simp only [yt0]
      refine zb (λb6 => ?_) (λb6 => ?_)
      · have hlt : i < Zn many s.put - 1 := by
          refine GH λhge => b6 (hz0.2 ?_)
          have : i + 1 = Zn many s.put := by omega
          rw [this]; exact f3
        simp only [Xh]
        rw [inc64 (by omega)]
        exact hC hlt _ _ ⟨rfl, rfl⟩
      · have hieq : i + 1 = Zn many s.put := by
          refine GH λhne => f4 (i + 1) (by omega) (by omega) (hz0.1 (by simpa using b6))
        have e1 : IntKind.i64.wrap (0 - ((i + 1 : Nat) : Int)) = -(Zn many s.put : Int) := by rw [zj (by omega) (by omega)]; omega
        simp (disch := (simp only [push_cast]; done)) only [Ui, Uh, yn, gO, B5.ld0, kM0, e1]
        exact push w5 _ _ E5 B5 R5 (gy _) hgo
theorem l5Run_spec {vc:Value} {n:Nat} (hc:CnfR F w vc c) (Z:cnfOk c=true) (D:c.many=many) (hn:n<=4000)
  (hK:∀w' v',Ext w w'->SpR (λb=>w.heap.size<=b) w' v' (runM many c n emptyS)->K v' w'):vcall z30 #[vc,nI n] w K:=by
 refine zf {loops:=[(3,[6])]} Tryz.func74 ?_;have Y:=hc.below;obtain⟨lv,rfl,a4⟩:=hc;refine yg λb2 w1 a1 h a5 T=>?_;refine qg qQ λb4 w2 a2 E a6 U=>?_;refine ZZ xx0 (us:=[]) rfl rfl ?_;refine qg qQ λM w3 a3 o a7 V=>?_;have B3:Blk w3 M [.slice none 0 0,.slice none 0 0,.slice none 0 0,nI 0] zu:=V;have A3:Blk w3 b2 [nI c.many,lv] zq:=(T.ext E).ext o;have R3:Blk w3 b4 [.slice none 0 0,.slice none 0 0,.slice none 0 0,nI 0] zu:=U.ext o;refine B3.stAgg (cs':=[.slice none 0 0,.slice none 0 0,.slice none 0 0,nI 0]) rfl zQ (λx z=>by simp only[gd,gn,or_false] at z;rcases z with rfl|rfl|rfl|rfl<;>rfl) λH q a8 B=>?_;have E4:Ext w H:=Ext.then (h.trans (E.trans o)) q λx z=>by have:=h.size;omega
 have A4:=A3.same q oM;have R:=R3.same q oM;have aa:=E4.size;have fin:∀(f:World) (p y l:Value),Ext w f->H.heap.size<=f.heap.size->Blk f b4 [.slice none 0 0,.slice none 0 0,.slice none 0 0,nI 0] zu->Blk f M [p,y,l,nI (runM many c n emptyS).code] zu->SpR (λb=>H.heap.size<=b) f (.agg #[p,y,l,nI (runM many c n emptyS).code]) (runM many c n emptyS)->
   zt zu (oP M 0) f λt21 I=>zT zu (oP b4 0) t21 I λ_ J=>vlv zu (oP b4 0) J λr4 L=>K r4 L:=by
  intro f p y l v t A k m;rw[k.ldAgg zQ];obtain⟨O,Q,N,e,S⟩:=m.sat.fields;obtain⟨rfl,rfl,rfl⟩:p=O/\y=Q/\l=N:=(by simpa using e);refine A.stAgg (cs':=[p,y,l,nI (runM many c n emptyS).code]) rfl zQ S λw6 d a0 W=>?_;rw[W.lv zQ];exact hK w6 _ (Ext.then v d λx z=>by have:=h.size;omega) ((m.same d λb g _ e=>by have:=R.lt;omega).weaken λb g _=>oM)
 refine vloop_up n (λi u w'=> ∃p y l,u=[nI i]/\Ext w w'/\H.heap.size<=w'.heap.size/\Blk w' b2 [nI c.many,lv] zq/\Blk w' b4 [.slice none 0 0,.slice none 0 0,.slice none 0 0,nI 0] zu/\Blk w' M [p,y,l,nI (runM many c i emptyS).code] zu/\SpR (λb=>H.heap.size<=b) w' (.agg #[p,y,l,nI (runM many c i emptyS).code]) (runM many c i emptyS))
  ⟨_,_,_,rfl,E4,gy _,A4,R,B,SpR.empty⟩ ?_
 rintro i _ _ f C hi ⟨p,y,l,rfl,v,t,A5,A,k,m⟩ hC;simp only[push_cast];refine zb (λa=>?_) (λa=>?_)
 ·simp only[push_cast,k.ld3];refine zb (λb=>?_) (λb=>?_)
  ·rw[A5.ldAgg zD,k.ldAgg zQ];have G:=run_ok (n:=i) D (empty_ok (many:=many) Z);refine l5Do_spec (Y.ext v) m G D λw6 v6 d s=>?_;have r:goM many c (runM many c i emptyS)=runM many c (i+1) emptyS:=by rw[run_succ];unfold stepM;rw[if_pos b]
   rw[r] at s;have l2:=A4.lt;have l4:=R.lt;have l5:=B.lt;have a0:=d.size;have A6:=A5.same d oM;have R6:=A.same d oM;have B6:=k.same d oM;obtain⟨O,Q,N,rfl,S⟩:=s.sat.fields;refine B6.stAgg (cs':=[O,Q,N,nI (runM many c (i+1) emptyS).code]) rfl zQ S λw7 j a9 X=>?_;rw[inc64 oM];have E6:Ext w w6:=Ext.then v d λx z=>oM;refine hC oM _ _ ⟨O,Q,N,rfl,Ext.then E6 j λx z=>by have:=h.size;omega,oM,A6.same j oM,R6.same j oM,X,(s.same j λb g _ e=>?_).weaken λb g _=>?_⟩
   ·rcases g with g|g<;>omega
   ·rcases g with g|g<;>omega
  ·have e:runM many c n emptyS=runM many c i emptyS:=by
    rw[show n=i+(n-i) from by omega,run_add,run_stop b]
   rw[<-e] at k m;exact fin f p y l v t A k m
 ·have:n=i:=oM;subst this;exact fin f p y l v t A k m
end
end Go.Proofs.YtolbhkcajhlllaaGreatDoor
namespace Go.Proofs.YtolbhkcajhlllaaGreatDoor
open Go Go.Vc Go.Proofs
section
variable {w:World} {K:oK} {F F' D G:Nat->Prop} {dv tv iv lv:Value} {ds:List M.Dcl} {ts:List M.Tm} {ins:List Bool} {c:M.Cnf}
theorem l9Folds_spec (E:DclsR F w dv ds) (J:TmsR G w tv ts) (s:M.declOk ds=true) (m:∀t,t∈ts->M.sortM ds t≠ -1) (hs:ts.length<=2000000)
  (B:∀w' lv,Ext w w'->TmsR (λ_=>True) w' lv (ts.map (M.foldT ds))->K lv w'):vcall KC #[dv,tv] w K:=by
 refine zf {loops:=[(3,[5,6])]} Tryz.func46 ?_;refine vbuildS_row (xs:=[]) (us:=[]) (k:=5) xq xC zp rfl (by simp) dC λb1 w1 D p L o=>?_;have z:LstH (λ_=>False) w1 (.slice (some ⟨b1,0,none⟩) 0 0) []:=⟨[],Blk.ownk (css:=[]) (by rw[qH];exact o) (by simp) rfl dC,rfl,λi hi=>absurd hi (PU _)⟩;refine vloop_up ts.length (λi u w'=> ∃lv H,u=[lv,nI i]/\Ext w w'/\LstH H w' lv ((ts.take i).map (M.foldT ds))/\∀x,lv.ownBlock=some x->w.heap.size<=x/\¬H x)
  ⟨_,_,rfl,p,z,λx c=>⟨by have e:b1=x:=K3 c;omega,id⟩⟩ ?_
 rintro i _ _ w2 C hi ⟨lv,H,rfl,d,g,hO⟩ A;have l:=(J.weaken (F':=λx=>G x/\x<w.heap.size) λx a b=>⟨a,b⟩).ext d;simp only[push_cast,l.len];refine zb (λa=>?_) (λa=>?_)
 ·have f:i<ts.length:=oM;simp(disch:=first|(simp only[push_cast])|omega) only[push_cast,l.iaddr];refine l.load zc f λx c=>?_;refine l3Fold_spec _ (E.ext d) s c (m _ (M.getD_mem f _)) λN rv j I=>?_;have z2:=d.size;have z3:=j.size;have llt:∀x,lv.ownBlock=some x->x<w2.heap.size:=λx c=>g.lt c;refine LstH.push (g.ext j) (λx c=>⟨(hO x c).2,λe=>?_⟩) I (by rw[X0,gg];omega) λO y v r n=>?_
  ·have:=llt x c;have:=(hO x c).1;rcases e with e|e<;>omega
  try simp only[push_cast]
  rw[inc64' oM];rw[show(ts.take i).map (M.foldT ds)++[M.foldT ds (ts.getD i default)]=(ts.take (i+1)).map (M.foldT ds) by rw[<-Xk f,gw];rfl] at n;refine A f _ _ ⟨y,_,rfl,Ext.then (d.trans j) v λx c=>(hO x c).1,n,λx c=>?_⟩;rcases r x c with e|e
  ·refine⟨(hO x e).1,λh=>?_⟩;have:=llt x e;have:=(hO x e).1;rcases h.1 with h|h
   ·exact(hO x e).2 h
   ·rcases h with h|h<;>omega
  ·exact⟨oM,λh=>by have:=h.2;omega⟩
 ·have q:i=ts.length:=oM;subst q;rw[gx] at g;exact B w2 lv d (g.tms.weaken λ_ _ _=>trivial)
theorem spec_BlastEnv_spec (T:zO0 ds) (H:DclsR F w dv ds) (hi:Bools F' w iv ins) (d:M.declOk ds=true) (hl:ins.length=M.nIn ds)
  (Y:∀w' r,Ext w w'->OwnI zh w' r (M.envB ds ins)->(∀b,r.ownBlock=some b->w.heap.size<=b)->K r w'):vcall JL #[dv,iv] w K:=by
 refine zf {loops:=[(6,[5,6,7]),(10,[6,8,9])],cuts:=[(12292,[])]} Tryz.func76 ?_;obtain⟨a2,a3⟩:=M.nIn_eq d;refine spec_nil λv1 w1 R g A=>?_;refine zo (λu w'=>u=[]/\Ext w1 w') (λC E=>?_) ?_
 ·refine spec_DeclOk_spec (H.ext g) T λw2 f=>?_;rw[d];simp only[push_cast,GN,((hi.ext g).ext f).len];refine sbits8_spec (k:=ds.length) d (gy _) (by rw[gx];exact(H.ext g).ext f) λW J=>?_;rw[M.bitT_all];simp only[push_cast];refine zb (λh=>absurd oM h) (λ_=>E _ _ ⟨rfl,f.trans J⟩)
 rintro _ _ w2 ⟨rfl,f⟩;have h4:=(M.decl_iff.1 d).1;have I:=M.dpos d;have L:=M.envB_len ds ins;refine vloop_up ds.length (λi u w'=> ∃r,u=[r,nI (QQ ds i),nI i]/\Ext w w'/\OwnI zh w' r ((M.envB ds ins).take i)/\∀b,r.ownBlock=some b->w.heap.size<=b) ⟨v1,rfl,g.trans f,R.ext f,A⟩ ?_;rintro i _ _ W C a0 ⟨r,rfl,s,p,o⟩ E;have n:=H.ext s;have y:=hi.ext s;simp only[push_cast,n.len];refine zb (λa=>?_) (λa=>?_)
 ·have l:i<ds.length:=oM;have U:=M.dcl_wide d l;have q:=off_succ d l;have X:=off_le d (i:=i+1) oM;have het:=envB_take (ins:=ins) I l;obtain⟨wd,m⟩:∃wd:Nat,(ds.getD i (M.nada,0)).2=wd:=⟨_,(Po oM).symm⟩;rw[m] at U q het;rw[gm] at q het;generalize v:(ins.drop (QQ ds i)).take wd=bs at het;have t:bs.length=wd:=by rw[<-v,gg,GU,hl];omega
  refine vloop_up wd (λj u w'=>u=[nI (QQ ds i+j:Nat),nI (M.msbN (bs.take j)),nI j]/\w'=W) ⟨rfl,rfl⟩ ?_;rintro j _ _ _ C1 hj ⟨rfl,rfl⟩ G;have a1:=M.msb_lt (bs.take j);have a4:2^(bs.take j).length<=2^4:=Ge oM (by rw[gg];omega);simp(disch:=first|(simp only[push_cast])|omega) only[push_cast,n.iaddr,gm,n.load1,m];refine zb (λc=>?_) (λc=>?_)
  ·have z:j<wd:=oM;have hg:ins.getD (QQ ds i+j) false=bs.getD j false:=by
    rw[<-v,M.take_getD z,q0,q0,pU]
   simp(disch:=first|(simp only[push_cast])|omega) only[push_cast,y.iaddr,gm,y.load,zj];refine X9 ?_;have Z:0<=M.b2i (bs.getD j false)/\M.b2i (bs.getD j false)<=1:=by unfold M.b2i;split<;>omega
   have D:=msb_snoc (bs.take j) (bs.getD j false);rw[<-M.take_add (by omega:j<bs.length) false] at D;rw[show((QQ ds i:Int)+(j:Int)).toNat=QQ ds i+j by omega,hg];simp(disch:=first|(simp only[push_cast])|omega) only[push_cast,zj];refine G z _ _ ⟨?_,rfl⟩;rw[D,Int.mul_comm 2];simp[Int.add_assoc]
  ·have O:j=wd:=oM;subst O;rw[<-t,gx,t];refine push_int p (by rw[gg];omega) λw6 r6 S B Q=>?_;rw[<-het,<-M.take_add oM 0] at B;have z3:=s.size;rw[inc64' oM];refine E l _ _ ⟨r6,by rw[q,Int.natCast_add (QQ ds i)],Ext.then s S λx V=>o x V,B,λx V=>?_⟩;rcases Q x V with e|e
   ·exact o x e
   ·omega
 ·have N:i=ds.length:=oM;subst N;rw[<-L,gx] at p;exact Y W r s p o
theorem kL0 {put:List Int} {i n:Nat} (h:i<n):decide (M.sgnV put (2+i)=1)=(M.insV (M.wayM put) n).getD i false:=by
 rw[M.insV_get h];unfold M.sgnV M.wayM;rw[Nat.add_comm 2 i];by_cases c:((i+2:Nat):Int)∈put
 ·rw[if_pos c,decide_eq_true c];rfl
 ·rw[if_neg c,decide_eq_false c];split<;>rfl
theorem l9Search_spec (aa:zO0 ds) (hd:DclsR F w dv ds) (I:M.declOk ds=true) (hc:CnfR G w (.agg #[nI c.many,lv]) c) (f:M.cnfOk c=true) (hn:1+M.nIn ds<=c.many.toNat)
  (hK:∀w' ev,Ext w w'->OwnI zh w' ev (M.searchM 4000 ds c).1->(∀x,ev.ownBlock=some x->w.heap.size<=x)->K (.tuple #[ev,nI (M.searchM 4000 ds c).2]) w'):
  vcall JF #[dv,.agg #[nI c.many,lv]] w K:=by
 refine zf {loops:=[(7,[8,9])]} Tryz.func47 ?_;obtain⟨ah,ai⟩:=M.nIn_eq I;obtain⟨many,hm⟩:∃many:Nat,c.many=many:=⟨c.many.toNat,oM⟩;have a4:c.many.toNat=many:=oM
 have B:many<=700:=by
  have:=f;unfold M.cnfOk at this;simp only[gh,decide_eq_true_eq] at this;omega
 refine yg λb1 w1 ac z al a0=>?_;have A1:Blk w1 b1 [nI c.many,lv] zq:=a0;rw[A1.ldAgg zD];refine l5Run_spec (many:=many) (n:=4000) (hc.ext z) f hm (gy _) λw2 v2 A v=>?_;have z1:=z.size;have z2:=A.size;have T:=(M.run_ok (n:=4000) hm (M.empty_ok (many:=many) f)).mks;refine qg qQ λb4 w3 ad a5 am a1=>?_;have d:M.searchM 4000 ds c=if(M.runM many c 4000 M.emptyS).code=1 then(M.envB ds (M.insV (M.wayM (M.runM many c 4000 M.emptyS).put) (M.nIn ds)),1) else if(M.runM many c 4000 M.emptyS).code=2 then([],2) else([],3):=by rw[<-a4];rfl
 generalize M.searchM 4000 ds c=sr at d hK;generalize M.runM many c 4000 M.emptyS=s at v d T;obtain⟨p,y,l,rfl,h8⟩:=v.sat.fields;obtain⟨p',y',l',e',hp,_,aj,_,_⟩:=v;obtain⟨rfl,rfl,rfl⟩:p=p'/\y=y'/\l=l':=by simpa using e'
 have R3:Blk w3 b4 [.slice none 0 0,.slice none 0 0,.slice none 0 0,nI 0] zu:=a1;refine R3.stAgg (cs':=[p,y,l,nI s.code]) rfl zQ h8 λw4 a9 an Q=>?_;have q:Ext w2 w4:=Ext.then a5 a9 λx J=>oM
 have N:=(z.trans A).trans q;have A4:=A1.ext (A.trans q);simp only[push_cast,Q.ld3];refine zb (λa=>?_) (λa=>?_)
 ·rw[if_pos a] at d;subst d;rw[A4.ldAgg zD];simp only[push_cast,Q.ld0];refine l5Vals_spec (hc.ext N) hm B (hp.ext q).ints T λL v5 g ab o=>?_;have Z:=N.trans g;have z5:=Z.size;refine yo q20 xM0 λb6 w6 ae a6 ao a3=>?_;have a8:OwnB qs w6 (.slice (some ⟨b6,0,none⟩) 0 0) []:=Blk.own1 (t:=qs) (cs:=[]) (by rw[Ul];exact a3) (gJ _) rfl rfl oM;refine vloop_up (M.nIn ds) (λi u w'=> ∃r,u=[r,nI i]/\Ext L w'/\OwnB qs w' r ((M.insV (M.wayM s.put) (M.nIn ds)).take i)/\∀b,r.ownBlock=some b->L.heap.size<=b) ⟨_,rfl,a6,a8,λb R=>by have e:b6=b:=K3 R;omega⟩ ?_;rintro i _ _ w7 C hi ⟨r,rfl,e7,E,V⟩ hC;refine sbits8_spec (k:=ds.length) I (gy _) (by rw[gx];exact hd.ext (Z.trans e7)) λw8 m=>?_;rw[M.bitT_all];simp only[push_cast];have O:=e7.trans m;have hlen:=M.insV_len (M.wayM s.put) (M.nIn ds);refine zb (λa=>?_) (λa=>?_)
  ·have S:i<M.nIn ds:=oM;have Y:=(ab.ext O).ints;have ak:=M.signs_len many s.put;simp(disch:=first|(simp only[push_cast])|omega) only[push_cast,zj,Y.iaddr,Y.load];rw[show((2:Int)+(i:Int)).toNat=2+i by omega,M.signs_get oM,kL0 S];refine one_bool λw9 b9 af j H=>?_;refine OwnV.app (us:=[.bool ((M.insV (M.wayM s.put) (M.nIn ds)).getD i false)]) ((E.ext m).ext j) qw0 H.bools (by simp[Value.oneCell']) (by simp only[X0,gX,gg];omega) (by simp only[X0,gX,gg];omega) λv10 w10 W X U=>?_;have z8:=m.size;have z9:=j.size;have z7:=e7.size;refine hC S _ _ ⟨v10,rfl,Ext.then (O.trans j) X λb R=>V b R,?_,λb R=>?_⟩
   ·rw[M.take_add oM false];unfold OwnB;rw[gw];exact W
   ·rcases U b R with h|h
    ·exact V b h
    ·omega
  ·have ag:i=M.nIn ds:=oM;rw[gC oM] at E;refine spec_BlastEnv_spec aa (hd.ext (Z.trans O)) (E.ext m).bools I hlen λw9 r9 j H a7=>?_;have z8:=O.size;exact hK w9 r9 (Z.trans (O.trans j)) H λx J=>by have:=a7 x J;omega
 ·rw[if_neg a] at d;have z4:=N.size;refine zb (λa2=>?_) (λa2=>?_)
  ·rw[if_pos a2] at d;subst d;exact spec_nil λv5 L D g o=>hK L v5 (N.trans g) D λx J=>by have:=o x J;omega
  ·rw[if_neg a2] at d;subst d;exact spec_nil λv5 L D g o=>hK L v5 (N.trans g) D λx J=>by have:=o x J;omega
theorem l9Solve_spec (u:zO0 ds) (c:Kx ds ts=true) (j:DclsR F w dv ds) (v:TmsR G w tv ts)
  (f:∀w' ev,Ext w w'->OwnI zh w' ev (qk ds ts []).1->(∀x,ev.ownBlock=some x->w.heap.size<=x)->K (.tuple #[ev,nI (qk ds ts []).2]) w'):vcall KB #[dv,tv] w K:=by
 refine zf {} Tryz.func30 ?_;obtain⟨L,a2,a3⟩:=all8_iff.1 c;refine l9Folds_spec j v a2 (λt v=>by rw[(QH (a3 t v)).1];decide) oM λw1 lv a o=>?_;refine l8Cnf_spec (ZX c) (j.ext a) o λw2 cv ls k g=>?_;have B:=a.trans k;simp only[push_cast];refine cnf_new g λN b4 D l d i=>?_;have b:=B.trans l;have z4:=b.size;refine zn (λh=>?_) (λh=>?_)
 ·have E:=Js (nots:=[]) c (by simpa using h);refine spec_nil λv5 I r m p=>?_;have:=f I v5 (b.trans m);rw[E] at this;exact this r λx y=>by have:=p x y;omega
 ·have C:(cnfE ds (ts.map (M.foldT ds))).2=0:=(by simpa using h);obtain⟨z,A,H⟩:=solveR_run (nots:=[]) c C (λe he=>by cases he) (by simp);rw[yL0] at z A;rw[d.ldAgg zD];refine l9Search_spec u (j.ext b) a2 i.cnf A H λJ ev n s q=>?_;simp only[push_cast];rw[z] at f;exact f J ev (b.trans n) s λx y=>by have:=q x y;omega
theorem spec_Solve_spec (b:zO0 ds) (l:DclsR F w dv ds) (m:TmsR G w tv ts)
  (k:∀w' ev,Ext w w'->OwnI zh w' ev (qk ds ts []).1->(∀x,ev.ownBlock=some x->w.heap.size<=x)->K (.tuple #[ev,nI (qk ds ts []).2]) w'):vcall zk0 #[dv,tv] w K:=by
 refine zf {} Tryz.func8 ?_;refine l8All_spec b l m λw1 a=>?_;simp only[push_cast];have q:=a.size;refine zn (λh=>?_) (λh=>?_)
 ·have n:=Q3 (ds:=ds) (ts:=ts) (nots:=[]) (by simpa using h);refine spec_nil λv5 o g c e=>?_;have:=k o v5 (a.trans c);rw[n] at this;exact this g λx j=>by have:=e x j;omega
 ·refine l9Solve_spec b (by simpa using h) (l.ext a) (m.ext a) λp ev d i f=>?_;simp only[push_cast];exact k p ev (a.trans d) i λx j=>by have:=f x j;omega
theorem VK {at_ an am ar ab:Addr} (e:DclsR F w dv ds) (f:TmsR G w tv ts) (hs:ts.length<=2000000) (er:Er w at_ an am ar ab)
  (d:∀w' ev,Ext w w'->OwnI zh w' ev (qk ds ts []).1->(∀x,ev.ownBlock=some x->w.heap.size<=x)->K (.tuple #[ev,nI (qk ds ts []).2]) w'):vcall zq0 #[dv,tv] w K:=by
 refine zf {} Tryz.func11 ?_;refine solved_spec e f hs er λg ev a c b=>?_;simp only[push_cast];exact d g ev a c b
end
section
variable {w:World} {K:oK} {D F F' G:Nat->Prop} {dv tv v:Value} {ds:List M.Dcl} {ts:List M.Tm} {t:M.Tm} {xs:List Nat} {at_ an am ar ab:Addr}
theorem DrawSolve_spec (c:Bytes F w v xs) (hF:∀b,F b->b<w.heap.size)
  (m:∀w' dv lv ds ts,Ext w w'->DclsR (λx=>w.heap.size<=x) w' dv ds->Dsn 9 ds->TmsR (λx=>w.heap.size<=x) w' lv ts->ts.length<=9->K (.tuple #[dv,lv]) w'):vcall QS #[v] w K:=by
 refine zf {} Tryz.func25 ?_;refine l12Open_spec c hF λw2 b v' ys d a p=>?_;have s:=d.size;have lb:=a.blk.lt;refine l8List_spec (F:=λx=>F x/\x<w2.heap.size) ⟨a.blk,⟨a.bytes.1.weaken λx c q=>⟨c,q⟩,a.bytes.2⟩,λh=>a.apart h.1,a.few⟩ (λx c=>c.2) oM λk u dv lv ds ts i n r e g j f=>?_;simp only[push_cast];have o:Ext w k:=by
  have l:Same (λx=>w.heap.size<=x) w k:=(Same.of_ext d).trans (i.mono λx _ c=>by subst c;omega);exact l.mono λx c t=>oM
 exact m k dv lv ds ts o (e.weaken λx c _=>oM) g (j.weaken λx c _=>oM) f
theorem x20 (h:Kx ds ts=true):qk ds (ts.map (M.foldT ds)) []=qk ds ts []:=by
 have b:(ts.map (M.foldT ds)).map (M.foldT ds)=ts.map (M.foldT ds):=by
  rw[G6];refine GI λt c=>?_;have a:=all8_iff.1 h;have:=(QH (a.2.2 t c)).1;exact(M.fold_twice a.2.1 (by rw[this];decide)).1
 unfold qk M.solveM;rw[if_pos h,if_pos (ZX h),b]
theorem bad_iff:(qk ds ts []).2=4↔ ¬Kx ds ts=true:=by
 constructor
 ·intro h a;unfold qk at h;rw[if_pos a] at h;unfold M.solveM at h;split at h
  ·cases h
  ·unfold M.searchM at h;dsimp only at h;split at h
   ·cases h
   ·split at h<;>cases h
 ·intro h;rw[Q3 h]
theorem FnSolveFold_spec (f:Bytes F w v xs) (er:Er w at_ an am ar ab) (O:∀w',Ext w w'->K (.bool true) w'):vcall Xp #[v] w K:=by
 refine zf {loops:=[(10,[9,10])],cuts:=[(28680,[])]} Tryz.func5 ?_;simp only[push_cast,f.len];refine zb (λ_=>O w (Same.refl _ _)) (λ_=>?_);refine DrawSolve_spec f.below (λb hb=>hb) λw1 dv tv ds ts D Q U V a3=>?_;simp only[push_cast];refine VK Q V oM (er.ext D) λw2 ev r t _=>?_;simp only[push_cast];refine spec_Solve_spec (dsn_sized U) (Q.ext r) (V.ext r) λw3 a0 l o _=>?_;simp only[push_cast];have z:=r.trans l;have J:=D.trans z;refine zo (λu w'=>u=[]/\Ext w3 w'/\Kx ds ts=true) (λC N=>?_) ?_
 ·refine zb (λc=>absurd rfl c) (λ_=>?_);refine wpInts_spec (t.ints.ext l) o.ints λI d=>?_;simp only[push_cast,decide_true,GN];refine zb (λc=>?_) (λc=>?_)
  ·refine wpInts_spec (t.ints.ext (l.trans d)) (o.ints.ext d) λZ s=>?_;simp only[decide_true];exact O Z (J.trans (d.trans s))
  ·exact N _ _ ⟨rfl,d,Gq λh=>c (bad_iff.2 h)⟩
 rintro _ _ I ⟨rfl,d,h8⟩;have A:=z.trans d;have B:=Q.ext A;have W:=V.ext A;have ha:=all8_iff.1 h8;refine vbuildS_row (xs:=[]) (us:=[]) (k:=5) xq xC zp rfl (by simp) dC λb1 Z a2 s a4 L=>?_;have h1:LstH (λ_=>False) Z (.slice (some ⟨b1,0,none⟩) 0 0) []:=⟨[],Blk.ownk (css:=[]) (by rw[qH];exact L) (by simp) rfl dC,rfl,λi hi=>absurd hi (PU _)⟩;refine vloop_up ts.length (λi u w'=> ∃lv H,u=[lv,nI i]/\Ext I w'/\LstH H w' lv ((ts.take i).map (M.foldT ds))/\∀x,lv.ownBlock=some x->I.heap.size<=x/\¬H x)
  ⟨_,_,rfl,s,h1,λx f=>⟨by have e:b1=x:=K3 f;omega,id⟩⟩ ?_
 rintro i _ _ w6 C hi ⟨lv,H,rfl,g,n,hO⟩ N;have y:=(W.weaken (F':=λx=>x<I.heap.size) λx a b=>b).ext g;simp only[push_cast,y.len];refine zb (λa=>?_) (λa=>?_)
 ·have m:i<ts.length:=oM;simp(disch:=first|(simp only[push_cast])|omega) only[push_cast,y.iaddr];refine y.load zc m λx f=>?_;have hf:=(Qm ha.2.1 (ha.2.2 _ (M.getD_mem m default))).2;refine TermFold_spec (B.ext g) f λw7 cs j G=>?_;rw[hf] at G;have G:=(q40 _ G).term;have z6:=g.size;have z7:=j.size;have llt:∀x,lv.ownBlock=some x->x<w6.heap.size:=λx f=>n.lt f;refine LstH.push (n.ext j) (λx f=>⟨(hO x f).2,λe=>?_⟩) G (by rw[X0,gg];omega) λw8 Y X T E=>?_
  ·have:=llt x f;omega
  try simp only[push_cast]
  rw[inc64' oM];rw[show(ts.take i).map (M.foldT ds)++[M.foldT ds (ts.getD i default)]=(ts.take (i+1)).map (M.foldT ds) by rw[<-Xk m,gw];rfl] at E;refine N m _ _ ⟨Y,_,rfl,Ext.then (g.trans j) X λx f=>(hO x f).1,E,λx f=>?_⟩;rcases T x f with e|e
  ·refine⟨(hO x e).1,λh=>?_⟩;have:=llt x e;rcases h.1 with h|h
   ·exact(hO x e).2 h
   ·omega
  ·exact⟨oM,λh=>by have:=h.2;omega⟩
 ·have S:i=ts.length:=oM;subst S;rw[gx] at n;have q:=d.trans g;refine VK (B.ext g) n.tms (by simp;omega) (er.ext (J.trans q)) λw7 a1 j p _=>?_;rw[x20 h8] at p⊢;simp only[push_cast];refine zb (λ_=>?_) (λc=>absurd trivial c);refine wpInts_spec p.ints (t.ints.ext (l.trans (q.trans j))) λw8 R=>?_;simp only[decide_true];exact O w8 (J.trans (q.trans (j.trans R)))
end
end Go.Proofs.YtolbhkcajhlllaaGreatDoor
section
namespace Go.Proofs.YtolbhkcajhlllaaGreatDoor
open Go Go.Vc Go.Proofs
open Go.RowKit
theorem laid_at {l:List (String×DataW Unit)} {W:World} (h:laidMet P l W):∀k,laidMet P (l.drop k) W
 |0=>h
 |k+1=>by
  have a:=laid_at h k;rw[<-List.tail_drop];cases b:l.drop k with
  |nil=>rw[b] at a;exact a
  |cons x r=>rw[b] at a;exact a.tail
theorem UG: "*" ++ "errors.errorString" = "*errors.errorString" :=dC
theorem jJ0 (u:TypeId) (h:P.typeName? 3 u=some "*errors.errorString"):u=yO:=
 typeName_ptr_named (nm:= "errors.errorString") (by rw[UG];kernel_rfl) rK dC u (by rw[UG];exact h)
def ifaceB (t:TypeId):Bool:=match P.underlying t with
 |some (.interface _)=>true
 |_=>false
theorem k30 {t:TypeId} (h:ifaceB t=true):∃ms,P.underlying t=some (.interface ms):=by
 unfold ifaceB at h;split at h
 ·exact⟨_,by assumption⟩
 ·cases h
theorem x30:∃ms,P.underlying xm=some (.interface ms):=k30 rK
def fieldB (t u:TypeId):Bool:=match P.underlying t with
 |some (.struct fs)=>match fs.toList with
  |[f]=>decide (f.type=u)&&decide (f.offset=0)
  |_=>false
 |_=>false
theorem k70 {t u:TypeId} (h:fieldB t u=true):∃f,P.underlying t=some (.struct #[f])/\f.type=u/\f.offset=0:=by
 unfold fieldB at h;split at h
 ·rename_i fs a;split at h
  ·rename_i f b;simp only[gh,decide_eq_true_eq] at h;refine⟨f,?_,h⟩;rw[a];congr 2;exact GC.1 (by simpa using b)
  ·cases h
 ·cases h
theorem jK0:P.underlying yO=some (.pointer 420):=rK
theorem zY0:∃f,P.underlying 420=some (.struct #[f])/\f.type=yZ/\f.offset=0:=k70 rK
theorem zZ0:P.underlying yZ=some .string:=rK
theorem Zo0:P.cellsOf 420=1/\P.cellsOf yZ=1:=⟨rK,rK⟩
theorem vars_len {H:Type} {enc:TypeId×Value->H} {w:World} {sp:Nat->Bool}:∀{ns:List String} {gs:List (DataW H)} {ps:List MemPlace},DataW.TrodVars enc P w sp ns gs ps->gs.length=ns.length
 |[],[],_,_=>rfl
 |[],_::_,_,h=>h.elim
 |_::_,[],_,h=>h.elim
 |_::_,_::_,_,⟨_,_,_,_,_,_,_,_,_,_,hs,_⟩=>by rw[gz,gz,vars_len hs]
theorem vlist5 {α:Type} {l:List α} (h:l.length=5):∃a b c d e,l=[a,b,c,d,e]:=by
 match l,h with
 |[a,b,c,d,e],_=>exact⟨a,b,c,d,e,rfl⟩
end Go.Proofs.YtolbhkcajhlllaaGreatDoor
end
section
namespace Go.Proofs.YtolbhkcajhlllaaGreatDoor
open Go Go.Vc Go.Proofs
open Go.RowKit
theorem XC {x y:String×DataW Unit} {r:List (String×DataW Unit)} {w:World} (h:laidMet P (x::y::r) w):laidMet P (x::r) w:=by
 obtain⟨ps,u,j,c⟩:=h;obtain⟨n,d⟩:=x;obtain⟨m,e⟩:=y;obtain⟨g,t,cs,fuel,p,q,o,a2,a3,a4,s,rfl⟩:=u;obtain⟨g2,t2,f,i,p2,l,_,_,_,_,k,rfl⟩:=s;have a:=pn (pF (MemPlace.row ⟨g,0,none⟩ cs.size++p)) (List.sublist_append_right (MemPlace.row ⟨g2,0,none⟩ f.size++p2) l);exact⟨_,⟨g,t,cs,fuel,p,l,o,a2,a3,a4,k,rfl⟩,List.Nodup.sublist a j,λb off hm=>c b off (a.subset hm)⟩
theorem jA {W:World} {g:Nat} {a c:Addr} (h:Sent W g a) (b:Sent W g c):a=c:=by
 unfold Sent at h b;rw[h] at b
 injection b with b
 injection b with _ b
 injection b with b
 exact K3 b
theorem kZ {j k:String} {t0 t1:List UInt8} {r:List (String×DataW Unit)} {W:World} {g0 g1:Nat} (h:laidMet P ((j,.iface "*errors.errorString" (.ptr (.agg [.lit (.string t0)])))::(k,.iface "*errors.errorString" (.ptr (.agg [.lit (.string t1)])))::r) W)
  (c:P.globalNamed j=some g0) (g:(P.globals[g0]?).map (·.type)=some xm) (d:P.globalNamed k=some g1) (i:(P.globals[g1]?).map (·.type)=some xm):∃a b,Sent W g0 a/\Sent W g1 b/\a≠b/\RowA W a/\RowA W b:=by
 obtain⟨ms,hi⟩:=x30;obtain⟨f,m,n,o⟩:=zY0;obtain⟨a0,l,u,s1,c0,c1,s,t,v0,v1,_,_,_,_,_,_,e,p,q⟩:=laid_sentinels2 h c g d i hi jJ0 jK0 m n o zZ0 Zo0.1 Zo0.2;exact⟨a0,l,by unfold Sent;simpa using World.var?_cell c v0 0,by unfold Sent;simpa using World.var?_cell d v1 0,e,⟨c0,s,p⟩,⟨c1,t,q⟩⟩
theorem er_of {nr nb nt nn nm:String} {tr tb tt tn tm:List UInt8} {r l:List (String×DataW Unit)} {W:World} (h:laidMet P l W) (k:Nat)
  (B:l.drop k=(nr,.iface "*errors.errorString" (.ptr (.agg [.lit (.string tr)])))::(nb,.iface "*errors.errorString" (.ptr (.agg [.lit (.string tb)])))::(nt,.iface "*errors.errorString" (.ptr (.agg [.lit (.string tt)])))::(nn,.iface "*errors.errorString" (.ptr (.agg [.lit (.string tn)])))::(nm,.iface "*errors.errorString" (.ptr (.agg [.lit (.string tm)])))::r)
  (er:P.globalNamed nr=some xM) (eb:P.globalNamed nb=some j4) (et:P.globalNamed nt=some yI) (en:P.globalNamed nn=some jf) (em:P.globalNamed nm=some qo)
  (fr:(P.globals[xM]?).map (·.type)=some xm) (fb:(P.globals[j4]?).map (·.type)=some xm) (ft:(P.globals[yI]?).map (·.type)=some xm) (fn:(P.globals[jf]?).map (·.type)=some xm) (fm:(P.globals[qo]?).map (·.type)=some xm):
  ∃at_ an am ar ab,Er W at_ an am ar ab:=by
 have a:=laid_at h k;rw[B] at a;obtain⟨ar,ab,sr,sb,_,rr,_⟩:=kZ a er fr eb fb;have b:=XC a;obtain⟨w,at_,j,st,C,_,rt⟩:=kZ b er fr et ft;have q:=XC b;obtain⟨x,an,m,sn,D,_,rn⟩:=kZ q er fr en fn;obtain⟨y,am,n,sm,E,_,rm⟩:=kZ (XC q) er fr em fm;have c:=b.tail;obtain⟨z,u,o,g,F,_⟩:=kZ c et ft en fn;obtain⟨A,s,p,d,G,_⟩:=kZ (XC c) et ft em fm;obtain⟨v,t,i,f,n6,_⟩:=kZ c.tail en fn em fm;obtain rfl:=jA j sr;obtain rfl:=jA m sr;obtain rfl:=jA n sr;obtain rfl:=jA o st;obtain rfl:=jA p st;obtain rfl:=jA g sn;obtain rfl:=jA i sn;obtain rfl:=jA d sm;obtain rfl:=jA f sm;exact⟨_,_,_,_,ab,st,sn,sm,⟨sr,sb,id,id⟩,rt,rn,rm,rr,λe=>F e.symm,λe=>G e.symm,λe=>n6 e.symm,C,D,E⟩
end Go.Proofs.YtolbhkcajhlllaaGreatDoor
end
end
