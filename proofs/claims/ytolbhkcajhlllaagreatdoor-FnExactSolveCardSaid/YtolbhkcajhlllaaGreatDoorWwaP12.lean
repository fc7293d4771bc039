import Derived.Test.YtolbhkcajhlllaaGreatDoorWwaP11
import Derived.WalkKit
import Derived.ProofKit
import Derived.OpenShut
import Derived.ShutString
import Derived.ChangeOld
import Derived.JoinedOf
import Derived.Deep.Slices
/- A part of the proof. -/
set_option linter.all false
set_option maxRecDepth 9999
set_option maxHeartbeats 2000000
noncomputable section
namespace Go.Proofs.YtolbhkcajhlllaaGreatDoor
open Go Go.Vc Go.Proofs
section
variable {w w' w1 w2:World} {K:oK} {F F' D G H S:Nat->Prop} {n b k p:Nat} {v lv tv dv ev f:Value} {xs:List Nat} {t:M.Tm} {ts us:List M.Tm} {ds:List M.Dcl} {c:M.Cnf} {ar ab at_ an am:Addr}
def RowA (w:World) (a:Addr):Prop:= ∃(c:Array Value) (t:TypeId),w.heap[a.block]?=some (.cells c t (0,0))
theorem RowA.ext {a:Addr} (h:RowA w a) (he:Ext w w'):RowA w' a:=by
 obtain⟨c,t,h⟩:=h;refine⟨c,t,?_⟩;rw[he.block _ (gx.1 h).1 id];exact h
structure Er (w:World) (at_ an am ar ab:Addr):Prop where
 terms:Sent w yM at_
 no:Sent w ji an
 much:Sent w qq am
 errs:Errs (λ_=>False) w ar ab
 rt:RowA w at_
 rn:RowA w an
 rm:RowA w am
 rr:RowA w ar
 d1:an≠at_
 d2:am≠at_
 d3:am≠an
 d4:ar≠at_
 d5:ar≠an
 d6:ar≠am
theorem Er.ext (h:Er w at_ an am ar ab) (he:Ext w w'):Er w' at_ an am ar ab:=
 ⟨h.terms.same he id,h.no.same he id,h.much.same he id,h.errs.ext0 he,h.rt.ext he,h.rn.ext he,h.rm.ext he,h.rr.ext he,h.d1,h.d2,h.d3,h.d4,h.d5,h.d6⟩
def errE (at_ an am ar:Addr):Nat->Value
 |0=> .nilIface
 |1=>erv ar
 |2=>erv at_
 |3=>erv an
 |_=>erv am
theorem VY {a c:Addr} (h:a≠c) (f:RowA w a) (g:RowA w c) (e:K (.bool false) w):vcall qe #[erv a,erv c] w K:=by
 obtain⟨_,_,b⟩:=f;obtain⟨_,_,d⟩:=g;exact kq0 h b d e
theorem switch_spec {r q j X:World->Prop} (er:Er w at_ an am ar ab) (k:Nat) (l:k=0->X w) (m:k=1->j w) (n:k=2->r w) (o:k=3->q w) (p:4<=k->j w):
  zu xt (oP yM 0) w λt28 e=>vcall qe #[errE at_ an am ar k,t28] e λt29 b=>vif t29 (r b) (
   zu xt (oP ji 0) b λt32 f=>vcall qe #[errE at_ an am ar k,t32] f λt33 c=>vif t33 (q c) (
    zu xt (oP qq 0) c λt36 g=>vcall qe #[errE at_ an am ar k,t36] g λt37 a=>vif t37 (vif t37 (j a) (X a)) (
     zu xt (oP xP 0) a λt39 i=>vcall qe #[errE at_ an am ar k,t39] i λt40 d=>vif t40 (j d) (X d)))):=by
 rw[y6 xo er.terms.cell]
 match k,l,m,n,o,p with
 |0,l,_,_,_,_=>
  refine qO0 (zo (λh=>by cases h) λ_=>?_);rw[y6 xo er.no.cell];refine qO0 (zo (λh=>by cases h) λ_=>?_);rw[y6 xo er.much.cell];refine qO0 (zo (λh=>by cases h) λ_=>?_);rw[y6 xo er.errs.room.cell];exact qO0 (zo (λh=>by cases h) λ_=>l rfl)
 |1,_,m,_,_,_=>
  refine VY er.d4 er.rr er.rt (zo (λh=>by cases h) λ_=>?_);rw[y6 xo er.no.cell];refine VY er.d5 er.rr er.rn (zo (λh=>by cases h) λ_=>?_);rw[y6 xo er.much.cell];refine VY er.d6 er.rr er.rm (zo (λh=>by cases h) λ_=>?_);rw[y6 xo er.errs.room.cell];exact zN0 (zo (λ_=>m rfl) λh=>by cases h)
 |2,_,_,n,_,_=>exact zN0 (zo (λ_=>n rfl) λh=>by cases h)
 |3,_,_,_,o,_=>
  refine VY er.d1 er.rn er.rt (zo (λh=>by cases h) λ_=>?_);rw[y6 xo er.no.cell];exact zN0 (zo (λ_=>o rfl) λh=>by cases h)
 |k+4,_,_,_,_,p=>
  refine VY er.d2 er.rm er.rt (zo (λh=>by cases h) λ_=>?_);rw[y6 xo er.no.cell];refine VY er.d3 er.rm er.rn (zo (λh=>by cases h) λ_=>?_);rw[y6 xo er.much.cell];exact zN0 (zo (λ_=>zo (λ_=>p oM) λh=>by cases h) λh=>by cases h)
theorem YD0 {d e f:Option Addr} {a c1 b c2 c c3:Nat}:yz y7 [(0,.slice d a c1),(1,.slice e b c2),(2,.slice f c c3)] w K=K (.agg ⟨[.slice d a c1,.slice e b c2,.slice f c c3,nI 0,.slice none 0 0,.slice none 0 0]⟩) w:=
 zV xH0 (us:=[[.slice d a c1],[.slice e b c2],[.slice f c c3]]) rfl rfl
theorem bdJob (b:DclsR F w' dv ds) (d:TmsR G w' tv ts):yz y7 [(0,dv),(1,tv),(2,.slice none 0 0)] w K=K (.agg ⟨[dv,tv,.slice none 0 0,nI 0,.slice none 0 0,.slice none 0 0]⟩) w:=by
 obtain⟨a,c,rfl,_⟩:=b.shape;obtain⟨_,h,_⟩:=d;obtain⟨e,c',rfl,_⟩:=h.shape;exact YD0
def qj0:List Value:=[.func (.func jR) #[] #[],.func (.func jk) #[] #[],.func (.func qE) #[] #[],.func (.func qY) #[] #[]]
theorem stages_spec (d:∀w' b,b=w.heap.size->Ext w w'->Vals (· =b) w' (.slice (some ⟨b,0,none⟩) 4 4) qj0->K (.slice (some ⟨b,0,none⟩) 4 4) w'):vcall WQ #[] w K:=by
 refine zg {} Tryz.func48 ?_;exact vbuildS_row1 (xs:=qj0) kM kD kc (λx a=>by
  simp only[qj0,X0,gm,or_false] at a;rcases a with rfl|rfl|rfl|rfl<;>rfl) dC λb w1 e he f c=>d w1 b e he (c.sl1 rfl dC)
theorem yV0:yu0 c ds []=c:=by unfold yu0;simp
def JobS (w0:World) (b:Nat) (dv tv:Value) (ds:List M.Dcl) (ts:List M.Tm) (w:World):Nat->Prop
 |0=>Blk w b [dv,tv,.slice none 0 0,nI 0,.slice none 0 0,.slice none 0 0] y7
 |1=>(∀t,t∈ts->M.tsort ds t=0)/\∃tv',Blk w b [dv,tv',.slice none 0 0,nI 0,.slice none 0 0,.slice none 0 0] y7/\TmsR (λx=>w0.heap.size<=x/\x≠b) w tv' (ts.map (Qz ds))
 |4=>(qD ds ts []).2=1/\∃tv' y z ev,Blk w b [dv,tv',.slice none 0 0,y,z,ev] y7/\OwnI ze w ev (qD ds ts []).1/\∀x,ev.ownBlock=some x->w0.heap.size<=x
 |_=>W1 ds ts=true/\(cnfE ds (ts.map (M.foldT ds))).2=0/\∃tv' lv ls,Blk w b [dv,tv',.slice none 0 0,nI (cnfE ds (ts.map (M.foldT ds))).1.many,lv,.slice none 0 0] y7/\CnfO w0.heap.size w lv ls (cnfE ds (ts.map (M.foldT ds))).1
theorem solved_spec (hd:DclsR F w dv ds) (N:TmsR G w tv ts) (hs:ts.length<=2000000) (er:Er w at_ an am ar ab)
  (hK:∀w' ev,Ext w w'->OwnI ze w' ev (qD ds ts []).1->(∀x,ev.ownBlock=some x->w.heap.size<=x)->K (.tuple #[ev,nI (qD ds ts []).2]) w'):vcall WR #[dv,tv,.slice none 0 0] w K:=by
 refine zg {loops:=[(3,[19])]} Tryz.func32 ?_;rw[bdJob hd N];refine zj λb w1 hb S a6 Z=>?_;refine stages_spec λw2 b2 a5 D O=>?_;have z1:=S.size;have z2:=D.size;have e2:=S.trans D;have a0:=Z.ext D;have out:∀{w':World} {k:Int},Ext w w'->qD ds ts []=([],k)->K (.tuple #[.slice none 0 0,nI k]) w':=λ{w' k} he h=>by
  have:=hK w' (.slice none 0 0) he;rw[h] at this;exact this OwnI.nil λx J=>(by cases J)
 simp only[push_cast,O.len];rw[show qj0.length=4 from rfl];refine vloop_up 4 (λi u w'=>u=[nI i]/\Same (· =b) w2 w'/\JobS w b dv tv ds ts w' i) ⟨rfl,Same.refl _ _,a0⟩ ?_;rintro i _ _ q C hi ⟨rfl,I,L⟩ hC;have j:Ext w q:=Ext.then e2 I λy hy=>oM
 have l:=er.ext j;have B:=(hd.weaken (F':=λx=>x<w.heap.size) λx _ h=>h).ext j;have a2:=(N.weaken (F':=λx=>x<w.heap.size) λx _ h=>h).ext j;have Q:=O.same I λx J _ e=>oM
 simp only[push_cast];refine zb (λa=>?_) (λa=>?_)
 ·have T:i<4:=oM;rw[Q.iaddr kT oM (by show(i:Int)<4;omega),gi,Q.load kG (by exact T)];have next:∀{d:World},Same (· =b) q d->JobS w b dv tv ds ts d (i+1)->C [nI (IntKind.i64.wrap ((i:Int)+1))] d:=λ{d} c h4=>by
   rw[inc64' oM];exact hC T _ _ ⟨rfl,I.trans c,h4⟩
  have v:∀{d:World},Same (· =b) q d->Ext w d:=λ{d} c=>Ext.then j c λy hy=>oM;have two:∀{d:World},Ext w d->¬W1 ds ts=true->K (.tuple #[.slice none 0 0,nI 4]) d:=λhe h=>out he (Qg h);rcases(by omega:i=0\/i=1\/i=2\/i=3) with rfl|rfl|rfl|rfl
  ·show vcall jR #[oP b 0] q _;refine jobFold_spec (show Blk q b [dv,tv,.slice none 0 0,nI 0,.slice none 0 0,.slice none 0 0] y7 from L) B a2 (λx J=>oM) hs l.terms (λt N h d f=>?_) λg d a4 c o a3=>?_
   ·have r:=j.trans f;exact switch_spec (er.ext r) 2 (λh=>by cases h) (λh=>by cases h) (λ_=>two r λm=>h ((all8_iff.1 m).2.2 t N)) (λh=>by cases h) (λh=>oM)
   ·have z3:=j.size;exact switch_spec (er.ext (v c)) 0 (λ_=>next c ⟨g,a4,o,a3.weaken λx J _=>⟨oM,by have:=L.lt;omega⟩⟩) (λh=>by cases h) (λh=>by cases h) (λh=>by cases h) (λh=>oM)
  ·obtain⟨g,p,n,V⟩:=L;show vcall jk #[oP b 0] q _;refine jobBlast_spec n B V l.errs l.terms λd lv ls c o R=>?_;have r:=v c;by_cases m:W1 ds ts=true
   ·have U:ts.map (Qz ds)=ts.map (M.foldT ds):=GH λt N=>(VZ (all8_iff.1 m).2.1 (g t N)).2;rw[U] at o R⊢;have z3:=j.size;rcases ja0 (Q3 m) with s|s
    ·rw[s];exact switch_spec (er.ext r) 0 (λ_=>next c ⟨m,s,p,lv,ls,o,R.down z3⟩) (λh=>by cases h) (λh=>by cases h) (λh=>by cases h) (λh=>oM)
    ·rw[s];exact switch_spec (er.ext r) 1 (λh=>by cases h) (λ_=>out r (Jz m (by rw[s];decide))) (λh=>by cases h) (λh=>by cases h) (λh=>oM)
   ·have s:(cnfE ds (ts.map (Qz ds))).2=2:=by
     unfold cnfE;rw[if_neg λh=>m (all8_iff.2 ⟨by have:=(all8_iff.1 h).1;rwa[y1] at this,(all8_iff.1 h).2.1,g⟩)]
    rw[s];exact switch_spec (er.ext r) 2 (λh=>by cases h) (λh=>by cases h) (λ_=>two r m) (λh=>by cases h) (λh=>oM)
  ·obtain⟨m,X,p,lv,ls,n,A⟩:=L;show vcall qE #[oP b 0] q _;refine jobExclude_spec n ?_;exact switch_spec l 0 (λ_=>next (Same.refl _ _) ⟨m,X,p,lv,ls,n,A⟩) (λh=>by cases h) (λh=>by cases h) (λh=>by cases h) (λh=>oM)
  ·obtain⟨m,X,p,lv,ls,n,A⟩:=L;show vcall qY #[oP b 0] q _;obtain⟨W,q2,q3⟩:=solveR_run (nots:=[]) m X (λe he=>by cases he) (by simp);rw[yV0] at W q2;refine jobSearch_spec n B (λx J=>oM) (all8_iff.1 m).2.1 A.cnf q2 q3 l.no l.much (λY d ev c o E H=>?_) (λh2 d f=>?_) λh3 d f=>?_
   ·exact switch_spec (er.ext (v c)) 0 (λ_=>next c ⟨by rw[W];exact Y,p,_,lv,ev,o,by rw[W];exact E,λx J=>by have:=H x J;have:=j.size;omega⟩) (λh=>by cases h) (λh=>by cases h) (λh=>by cases h) (λh=>oM)
   ·exact switch_spec (er.ext (j.trans f)) 3 (λh=>by cases h) (λh=>by cases h) (λh=>by cases h) (λ_=>out (j.trans f) (by rw[W];exact h2)) (λh=>oM)
   ·exact switch_spec (er.ext (j.trans f)) 4 (λh=>by cases h) (λh=>by cases h) (λh=>by cases h) (λh=>by cases h) (λ_=>out (j.trans f) (by rw[W];exact h3))
 ·have a1:i=4:=oM;subst a1;obtain⟨Y,p,y,z,ev,hB,E,H⟩:=L;have:=hK q ev j E H;rw[Y] at this;simp only[push_cast,hB.ld5];exact this
end
end Go.Proofs.YtolbhkcajhlllaaGreatDoor
namespace Go.Proofs.YtolbhkcajhlllaaGreatDoor
open Go Go.Vc Go.Proofs Go.M
section
variable {w:World} {K:oK} {F Fr:Nat->Prop} {many:Nat} {c:Cnf} {s:Sat}
theorem l4Abs_spec {x:Int} (h:x.natAbs<=9223372036854775807) (b:K (nI x.natAbs) w):vcall kj #[nI x] w K:=by
 refine zg {} Tryz.func213 ?_;simp only[push_cast];refine zb (λa=>?_) (λa=>?_)
 ·rw[zk oM oM,show 0-x=(x.natAbs:Int) from by omega];exact b
 ·rwa[show(x.natAbs:Int)=x from by omega] at b
theorem l5Vals_spec {vc v:Value} {put:List Int} (R:CnfR F w vc c) (A:c.many=many) (G:many<=700) (j:Ints Fr w v put) (hm:marksOk many put)
  (Q:∀w' v',Ext w w'->OwnI ze w' v' (signs many put)->(∀x,v'.ownBlock=some x->w.heap.size<=x)->K v' w'):vcall Xw #[vc,v] w K:=by
 refine zg {loops:=[(3,[6])]} Tryz.func75 ?_;obtain⟨lv,rfl,-⟩:=R;have hlen:=hm.len;refine yn λb w1 I p T O=>?_;have z:Blk w1 b [nI c.many,lv] zp:=O;simp only[push_cast,z.ld0];rw[A,zk oM oM,show((many:Int)+1)=((many+1:Nat):Int) from by omega];refine vmkS_own (bs:=8) xB qK xF rfl oM oM λv1 w2 N B l=>?_;have y:OwnI ze w2 v1 (signs many []):=by rw[ql0];unfold OwnI;rw[GB];exact N
 have J:=p.size;refine vloop_up put.length (λi u w'=>u=[nI i]/\Ext w w'/\OwnI ze w' v1 (signs many (put.take i))) ⟨rfl,p.trans B,by simpa using y⟩ ?_;rintro i _ _ U C hi ⟨rfl,g,r⟩ H;have o:=j.ext g;have S:=signs_len many (put.take i);simp only[push_cast,o.len];refine zb (λa=>?_) (λa=>?_)
 ·have h:i<put.length:=oM;simp(disch:=first|(simp only[push_cast])|omega) only[push_cast,o.iaddr,o.load];have I:=hm.2 _ (getD_meS h);have q:=M.take_snoc' (d:=0) h;have t:=distinct_take hm.1 (i+1);have k:placeOf (put.take i) (put.getD i 0).natAbs=0:=by
   refine placeOf_zero λx j e=>?_;rw[q] at t;unfold Distinct at t;rw[gr,Gf] at t;exact t.2.2 _ (gS j) _ (by simp) e
  have f:=signs_snoc (many:=many) I.1 k;rw[<-q] at f;have s:=r.ints;have E:IntKind.i64.wrap ((i:Int)+1)=((i+1:Nat):Int):=by rw[zk oM oM];omega
  generalize W:put.getD i 0=x at*;refine zb (λb3=>?_) (λb3=>?_)
  ·simp(disch:=first|(simp only[push_cast])|omega) only[push_cast,s.iaddr];rw[show x.toNat=x.natAbs from by omega];refine r.st yR oM λV n m D=>?_;rw[if_pos b3] at f;simp only[push_cast,E];exact H h _ _ ⟨rfl,Ext.then g m λx j=>by have:=l x j;omega,by rw[f];exact n⟩
  ·have L:IntKind.i64.wrap (0-x)=(x.natAbs:Int):=by rw[zk oM oM];omega
   rw[L];simp(disch:=first|(simp only[push_cast])|omega) only[push_cast,s.iaddr];refine r.st yR oM λV n m D=>?_;rw[if_neg b3] at f;simp only[push_cast,E];exact H h _ _ ⟨rfl,Ext.then g m λx j=>by have:=l x j;omega,by rw[f];exact n⟩
 ·rw[gy oM] at r;exact Q U v1 g r λx j=>by have:=l x j;omega
theorem l5Sign_spec {v:Value} {put:List Int} {m:Int} (b:Ints F w v (signs many put)) (hm:marksOk many put) (c:many<=700) (h:m≠0) (e:m.natAbs<=many) (d:K (nI (Z10 put m)) w):vcall Wq #[v,nI m] w K:=by
 refine zg {} Tryz.func222 ?_;have g:=signs_len many put;simp only[push_cast];refine zb (λa=>?_) (λa=>?_)
 ·simp(disch:=first|(simp only[push_cast])|omega) only[push_cast,b.iaddr,b.load];rw[show m.toNat=m.natAbs from by omega,signs_get e,sgn_pos hm a];exact d
 ·have f:IntKind.i64.wrap (0-m)=(m.natAbs:Int):=by rw[zk oM oM];omega
  rw[f];simp(disch:=first|(simp only[push_cast])|omega) only[push_cast,b.iaddr,b.load];have:=sgnV_range put m.natAbs;rw[signs_get e,zk oM oM,gG,sgn_neg hm oM];exact d
theorem l5Look_spec {v v':Value} {put cl:List Int} (t:Ints F w v (signs many put)) (hm:marksOk many put) (g:many<=700) (c:Ints Fr w v' cl) (r:∀l,l∈cl->l≠0/\l.natAbs<=many)
  (p:∀b n x,lookM put cl 0 0=(b,n,x)->K (.tuple #[nI (if b then-1 else(n:Int)),nI (if b then 0 else x)]) w):vcall Wr #[v,v'] w K:=by
 refine zg {loops:=[(4,[6,7,8])]} Tryz.func189 ?_;have hlen:cl.length<=9223372036854775807:=by obtain⟨_,_,_,j,k,_⟩:=c.shape;simp at j;omega
 refine vloop_up cl.length (λi u w'=>w'=w/\∃(n:Nat) (x:Int),u=[nI n,nI x,nI i]/\n<=i/\lookM put (cl.drop i) n x=lookM put cl 0 0) ⟨rfl,0,0,rfl,oM,rfl⟩ ?_;rintro i _ _ _ C hi ⟨rfl,n,x,rfl,y,e⟩ o;simp only[push_cast,c.len];refine zb (λa=>?_) (λa=>?_)
 ·have f:i<cl.length:=oM;simp(disch:=first|(simp only[push_cast])|omega) only[push_cast,c.iaddr,c.load];have h:=r _ (getD_meS f);rw[kU (d:=0) f,Qv] at e;refine l5Sign_spec t hm g h.1 h.2 ?_;have m:IntKind.i64.wrap ((i:Int)+1)=((i+1:Nat):Int):=by rw[zk oM oM];omega
  have q:IntKind.i64.wrap ((n:Int)+1)=((n+1:Nat):Int):=by rw[zk oM oM];omega
  generalize s:cl.getD i 0=l at*;simp only[yH0,yI0];unfold Z10;by_cases j:l∈put
  ·rw[if_pos j] at e⊢;have:=p true 0 0 e.symm;exact zb (λ_=>by simpa using this) (λb=>absurd (by decide:(0:Int)<1) b)
  rw[if_neg j] at e⊢;by_cases k:placeOf put l.natAbs=0
  ·rw[if_pos k] at e⊢;refine zb (λb=>absurd b oM) (λ_=>zb (λ_=>?_) (λb=>absurd rfl b));simp(disch:=first|(simp only[push_cast])|omega) only[push_cast,c.load];rw[m,q,s];exact o f _ _ ⟨rfl,n+1,l,rfl,oM,e⟩
  ·rw[if_neg k] at e⊢;refine zb (λb=>absurd b oM) (λ_=>zb (λb=>absurd b oM) (λ_=>?_));rw[m];exact o f _ _ ⟨rfl,n,x,rfl,oM,e⟩
 ·rw[gP oM] at e;have:=p false n x e.symm;simpa using this
end
section
variable {w:World} {K:oK} {F Fr F':Nat->Prop} {many:Nat} {c:Cnf} {s:Sat}
theorem inc64 {i:Nat} (h:i<9223372036854775807):IntKind.i64.wrap ((i:Int)+1)=((i+1:Nat):Int):=by rw[zk oM oM];omega
theorem l5Find_spec {vc vl v:Value} {put:List Int} {ls:List (List Int)} (hc:CnfR F w vc c) (hl:Lists F' w vl ls) (hx:Ints Fr w v (signs many put)) (hm:marksOk many put) (z:many<=700) (a4:c.list.length+ls.length<=1000000)
  (hb:∀cl,cl∈c.list++ls->∀l,l∈cl->l≠0/\l.natAbs<=many)
  (hK:∀w' k u x,Ext w w'->findM put (c.list++ls) 0 (-1) 0=(k,u,x)->K (.tuple #[nI k,nI (if 0<=k then-1 else u),nI (if 0<=k then 0 else x)]) w'):vcall Xy #[vc,vl,v] w K:=by
 refine zg {loops:=[(5,[9,10,12])],cuts:=[(36875,[13])]} Tryz.func150 ?_;obtain⟨lv,rfl,X⟩:=hc;obtain⟨cs,U,B,T⟩:=X;obtain⟨es,W,H,V⟩:=hl;refine yn λb w1 a1 E a5 hB=>?_;have A:Blk w1 b [nI c.many,lv] zp:=hB;have D:=B.ext E;simp only[push_cast,A.ld1,D.len];refine vloop_up (c.list.length+ls.length) (λi u w'=> ∃(y x:Int),u=[nI y,nI x,nI i]/\Ext w w'/\Blk w' b [nI c.many,lv] zp/\findM put ((c.list++ls).drop i) i y x=findM put (c.list++ls) 0 (-1) 0) ⟨-1,0,rfl,E,A,rfl⟩ ?_;rintro i _ _ w2 C hi ⟨y,x,rfl,s,S,g⟩ Q;have I:=H.ext s;simp only[push_cast,I.len];rw[U,W,zk oM oM];refine zb (λa=>?_) (λa=>?_)
 ·have o:i<c.list.length+ls.length:=oM;refine yq xr yR λb3 w3 a2 G a6 a0=>?_;have p:=s.trans G;have f:=S.ext G;have q:=B.ext p;have r:=H.ext p;refine zq (λu w'=>w'=w3/\∃v4,u=[v4]/\Ints (λ_=>True) w3 v4 ((c.list++ls).getD i [])) ?_ ?_
  ·intro J Z;refine zb (λa3=>?_) (λa3=>?_)
   ·simp(disch:=first|(simp only[push_cast])|omega) only[push_cast,f.ld1,q.iaddr,q.load];refine Z _ _ ⟨rfl,_,rfl,?_⟩;rw[getD_app_l oM];exact((T i oM).ext p).weaken λ_ _ _=>trivial
   ·obtain⟨j,rfl⟩:∃j,i=c.list.length+j:=⟨i-c.list.length,oM⟩;rw[show((c.list.length+j:Nat):Int)-(c.list.length:Int)=(j:Int) from by omega,zk oM oM];simp(disch:=first|(simp only[push_cast])|omega) only[push_cast,r.iaddr,r.load];refine Z _ _ ⟨rfl,_,rfl,?_⟩;rw[getD_app_r];exact((V j oM).ext p).weaken λ_ _ _=>trivial
  rintro _ _ _ ⟨rfl,v4,rfl,h4⟩;have L:i<(c.list++ls).length:=by rw[y3];exact o
  have M:(c.list++ls).getD i []∈c.list++ls:=by rw[y0,y4 L];exact GZ _
  rw[kU (d:=[]) L,findM_cons] at g;simp only[push_cast];refine l5Look_spec (hx.ext p) hm z h4 (hb _ M) λO n Y t=>?_;rw[t] at g;dsimp only at g;simp only[push_cast];rw[inc64 oM];have N: ¬(O=true)->((if O then(-1:Int) else(n:Int))=n/\(if O then(0:Int) else Y)=Y):=λh=>⟨if_neg h,if_neg h⟩;by_cases m:O=true
  ·rw[if_pos m] at g;refine zb (λe=>absurd e (by rw[if_pos m];omega)) (λ_=>zb (λe=>absurd e (by rw[if_pos m];omega)) (λ_=>?_));exact Q o _ _ ⟨y,x,rfl,p,f,g⟩
  rw[if_neg m] at g;rw[(N m).1,(N m).2];refine zb (λe=>?_) (λe=>zb (λe1=>?_) (λe1=>?_))
  ·rw[if_pos oM] at g;have:=hK _ _ _ _ p g.symm;rwa[if_pos oM,if_pos oM] at this
  ·rw[if_neg oM,if_pos oM] at g;refine zb (λR=>?_) (λR=>?_)
   ·rw[if_pos R] at g;exact Q o _ _ ⟨i,Y,rfl,p,f,g⟩
   ·rw[if_neg R] at g;exact Q o _ _ ⟨y,x,rfl,p,f,g⟩
  ·rw[if_neg oM,if_neg oM] at g;exact Q o _ _ ⟨y,x,rfl,p,f,g⟩
 ·rw[gP (by rw[y3];omega)] at g;have:=hK w2 _ _ _ s g.symm;rwa[if_neg oM,if_neg oM] at this
theorem l5At_spec {vc v:Value} {k:Nat} (A:CnfR F w vc c) (hs:SatR F' w v s) (G:k<c.list.length+s.learned.length) (C:c.list.length+s.learned.length<=1000000)
  (u:∀w' v',Ext w w'->Ints (λb=>F b\/F' b) w' v' (atM c s k)->K v' w'):vcall JP #[vc,v,nI k] w K:=by
 refine zg {} Tryz.func152 ?_;obtain⟨lv,rfl,cs,n,o,m⟩:=A;obtain⟨vp,vw,vl,rfl,-,-,es,B,r,q⟩:=hs;refine yn λb1 w1 y p D i=>?_;refine yn λb2 w2 z g E l=>?_;have t:Blk w2 b1 [nI c.many,lv] zp:=i.ext g;have x:Blk w2 b2 [vp,vw,vl,nI s.code] zm:=l;have f:=p.trans g;have d:=o.ext f;have e:=r.ext f;simp only[push_cast,t.ld1,d.len];refine zb (λa=>?_) (λa=>?_)
 ·simp(disch:=first|(simp only[push_cast])|omega) only[push_cast,d.iaddr,d.load];refine u w2 _ f ?_;rw[atM,getD_app_l oM];exact((m k oM).ext f).weaken λ_ h _=> .inl h
 ·obtain⟨j,rfl⟩:∃j,k=c.list.length+j:=⟨k-c.list.length,oM⟩;simp(disch:=(simp only[push_cast])) only[x.ld2,t.ld1,d.len,Us,Uv,yw,gN,Y2];rw[n,show((c.list.length+j:Nat):Int)-(c.list.length:Int)=(j:Int) from by omega,zk oM oM];simp(disch:=first|(simp only[push_cast])|omega) only[push_cast,e.iaddr,e.load];refine u w2 _ f ?_;rw[atM,getD_app_r];exact((q j oM).ext f).weaken λ_ h _=> .inr h
theorem l5Levels_spec {vc v:Value} (hc:CnfR F w vc c) (hs:SatR F' w v s) (L:c.many=many) (T:many<=700) (hm:marksOk many s.put) (hlen:s.put.length=s.why.length) (A:∀k,k<s.why.length->s.why.getD k 0= -1\/0<=s.why.getD k 0)
  (hK:∀w' v',Ext w w'->OwnI ze w' v' (levs many s.put (yB s.why))->(∀x,v'.ownBlock=some x->w.heap.size<=x)->K v' w'):vcall JN #[vc,v] w K:=by
 refine zg {loops:=[(4,[6,7])],cuts:=[(28680,[6])]} Tryz.func190 ?_;obtain⟨lv,rfl,-⟩:=hc;obtain⟨vp,vw,vl,rfl,hp,hw,-⟩:=hs;have a4:=hm.len;refine yn λb1 w1 a0 N a7 H=>?_;refine yn λb2 w2 a1 p a8 I=>?_;have X:Blk w2 b1 [nI c.many,lv] zp:=H.ext p;have R:Blk w2 b2 [vp,vw,vl,nI s.code] zm:=I;have S:=N.trans p;simp only[push_cast,X.ld0];rw[L,zk oM oM,show((many:Int)+1)=((many+1:Nat):Int) from by omega];refine vmkS_own (bs:=8) xB qK xF rfl oM oM λv1 w3 Y q m=>?_;have G:OwnI ze w3 v1 (levs many [] (yB s.why)):=by rw[kn0];unfold OwnI;rw[GB];exact Y
 have V:=S.size;refine vloop_up s.put.length (λi u w'=>u=[nI ((yB s.why).take i|>.count true:Nat),nI i]/\Ext w w'/\Blk w' b2 [vp,vw,vl,nI s.code] zm/\OwnI ze w' v1 (levs many (s.put.take i) (yB s.why))) ⟨rfl,S.trans q,R.ext q,by simpa using G⟩ ?_;rintro i _ _ W C hi ⟨rfl,g,f,E⟩ Z;have n:=hp.ext g;have z:=hw.ext g;have a5:=U0 many (s.put.take i) (yB s.why);have a3:=kz s.why;simp only[push_cast,f.ld0,n.len];refine zb (λa=>?_) (λa=>?_)
 ·have l:i<s.put.length:=oM;have h:=ZX (ds:=yB s.why) (i:=i) oM;have a2:((yB s.why).take i).count true<=700:=gH pE (by simp;omega);refine zq (λu w'=>w'=W/\u=[nI ((yB s.why).take (i+1)|>.count true:Nat)]) ?_ ?_
  ·intro J U;simp(disch:=first|(simp only[push_cast])|omega) only[push_cast,f.ld1,z.iaddr,z.load];have o:=UA (why:=s.why) (k:=i) oM;have a6:=A i oM;refine zb (λb=>?_) (λb=>?_)
   ·rw[inc64 oM];refine U _ _ ⟨rfl,?_⟩;rw[h,o,decide_eq_true oM];rfl
   ·refine U _ _ ⟨rfl,?_⟩;rw[h,o,decide_eq_false oM];rfl
  rintro _ _ _ ⟨rfl,rfl⟩;simp(disch:=first|(simp only[push_cast])|omega) only[push_cast,f.ld0,n.iaddr,n.load];have hb:=hm.2 _ (getD_meS l);have y:=M.take_snoc' (d:=0) l;have D:=distinct_take hm.1 (i+1);have j:placeOf (s.put.take i) (s.put.getD i 0).natAbs=0:=by
   refine placeOf_zero λx B e=>?_;rw[y] at D;unfold Distinct at D;rw[gr,Gf] at D;exact D.2.2 _ (gS B) _ (by simp) e
  have t:=levs_snoc (many:=many) (ds:=yB s.why) j;rw[<-y,V0,Gv oM,lvl_succ oM,<-h] at t;have Q:=E.ints;refine l4Abs_spec oM ?_;simp(disch:=first|(simp only[push_cast])|omega) only[push_cast,Q.iaddr];refine E.st yR oM λw5 O r a9=>?_;rw[inc64 oM];refine Z l _ _ ⟨rfl,Ext.then g r λx B=>by have:=m x B;omega,f.same r λe=>by have:=m _ e;have:=R.lt;omega,by rw[t];exact O⟩
 ·rw[gy oM] at E;exact hK W v1 g E λx B=>by have:=m x B;omega
theorem l5Top_spec {v v':Value} {put cl:List Int} {ds:List Bool} (m:Ints F w v (levs many put ds)) (j:many<=700) (p:ds.length<=700) (d:Ints Fr w v' cl) (o:∀l,l∈cl->l.natAbs<=many/\placeOf put l.natAbs≠0)
  (s:K (.tuple #[nI (kY put ds cl:Nat),nI (Jv put ds cl).length]) w):vcall zj0 #[v,v'] w K:=by
 refine zg {loops:=[(4,[6,7,8])]} Tryz.func191 ?_;have hlen:cl.length<=9223372036854775807:=by obtain⟨_,_,_,n,r,_⟩:=d.shape;simp at n;omega
 have q:=U0 many put ds;refine vloop_up cl.length (λi u w'=>w'=w/\u=[nI (kY put ds (cl.take i):Nat),nI (Jv put ds (cl.take i)).length,nI i]) ⟨rfl,rfl⟩ ?_;rintro i _ _ _ C hi ⟨rfl,rfl⟩ f;simp only[push_cast,d.len];refine zb (λa=>?_) (λa=>?_)
 ·have c:i<cl.length:=oM;simp(disch:=first|(simp only[push_cast])|omega) only[push_cast,d.iaddr,d.load];obtain⟨g,h⟩:=o _ (getD_meS c);refine l4Abs_spec oM ?_;simp(disch:=first|(simp only[push_cast])|omega) only[push_cast,m.iaddr,m.load];rw[levs_get g,levV_lit h];obtain⟨t1,t2⟩:=top_step (put:=put) (ds:=ds) c _ rfl;generalize lvM put ds (cl.getD i 0)=k at*;have t:(Jv put ds (cl.take i)).length<=i:=gH (List.length_filter_le _ _) (by simp;omega);refine zb (λb=>?_) (λb=>?_)
  ·rw[if_pos oM] at t1 t2;refine zb (λ_=>?_) (λe=>absurd trivial e);rw[inc64 oM];exact f c _ _ ⟨rfl,by rw[t1,t2];rfl⟩
  ·rw[if_neg oM] at t1 t2;refine zb (λe=>?_) (λe=>?_)
   ·rw[if_pos oM] at t2;rw[inc64 oM,inc64 oM];exact f c _ _ ⟨rfl,by rw[t1,t2]⟩
   ·rw[if_neg oM] at t2;rw[inc64 oM];exact f c _ _ ⟨rfl,by rw[t1,t2]⟩
 ·rwa[gy oM]
theorem l5Has_spec {v:Value} {cl:List Int} {m:Nat} (c:Ints Fr w v cl) (p:∀l,l∈cl->l.natAbs<=700) (g:(∃q,q∈cl/\q.natAbs=m)->K (.bool true) w) (j:(∀q,q∈cl->q.natAbs≠m)->K (.bool false) w):vcall zl0 #[v,nI m] w K:=by
 refine zg {loops:=[(2,[5])]} Tryz.func255 ?_;have hlen:cl.length<=9223372036854775807:=by obtain⟨_,_,_,n,s,_⟩:=c.shape;simp at n;omega
 refine vloop_up cl.length (λi u w'=>w'=w/\u=[nI i]/\∀q,q∈cl.take i->q.natAbs≠m) ⟨rfl,rfl,by simp⟩ ?_;rintro i _ _ _ C hi ⟨rfl,rfl,k⟩ o;simp only[push_cast,c.len];refine zb (λa=>?_) (λa=>?_)
 ·have f:i<cl.length:=oM;simp(disch:=first|(simp only[push_cast])|omega) only[push_cast,c.iaddr,c.load];have e:cl.getD i 0∈cl:=getD_meS f;have r:=p _ e;refine l4Abs_spec oM ?_;simp only[push_cast];refine zb (λb=>g ⟨_,e,oM⟩) (λb=>?_);rw[inc64 oM];refine o f _ _ ⟨rfl,rfl,λq h=>?_⟩;rw[M.take_snoc' (d:=0) f,gg,gk] at h;rcases h with h|rfl
  ·exact k q h
  ·omega
 ·rw[gy oM] at k;exact j k
theorem l5Last_spec {v v':Value} {cl:List Int} (hs:SatR F w v s) (hm:marksOk many s.put) (t:many<=700) (m:Ints Fr w v' cl) (z:∀l,l∈cl->l.natAbs<=700)
  (x:∀w',Ext w w'->K (nI ((lastPl s.put cl:Int)-1)) w'):vcall Ws #[v,v'] w K:=by
 refine zg {loops:=[(2,[5])]} Tryz.func223 ?_;obtain⟨vp,vw,vl,rfl,G,-,-⟩:=hs;have E:=hm.len;refine yn λb2 w2 A b H g=>?_;have p:Blk w2 b2 [vp,vw,vl,nI s.code] zm:=g;have c:=G.ext b;simp only[push_cast,p.ld0,c.len];rw[zk oM oM];refine vloop_up s.put.length (λi u w'=>w'=w2/\u=[nI ((s.put.length:Int)-1-i)]/\∀j,s.put.length-i<=j->j<s.put.length->∀q,q∈cl->q.natAbs≠(s.put.getD j 0).natAbs) ⟨rfl,by simp,λj r d=>oM⟩ ?_;rintro i _ _ _ C hi ⟨rfl,rfl,n⟩ y;simp only[push_cast];refine zb (λa=>?_) (λa=>?_)
 ·obtain⟨k,D⟩:∃k:Nat,(s.put.length:Int)-1-i=k:=⟨s.put.length-1-i,oM⟩;have f:k<s.put.length:=oM;rw[D];simp(disch:=first|(simp only[push_cast])|omega) only[push_cast,p.ld0,c.iaddr,c.load];have B:=hm.2 _ (getD_meS f);refine l4Abs_spec oM ?_;refine l5Has_spec (m.ext b) z (λh=>?_) (λh=>?_)
  ·simp only[push_cast];have o:=lastPl_eq hm f h λj r d=>n j oM d;have:=x _ b;rwa[o,show((k+1:Nat):Int)-1=(k:Int) from by omega] at this
  ·simp only[push_cast];rw[zk oM oM];refine y oM _ _ ⟨rfl,by rw[show(s.put.length:Int)-1-((i+1:Nat):Int)=(k:Int)-1 from by omega],λj r d=>?_⟩;by_cases e:j=k
   ·subst e;exact h
   ·exact n j oM d
 ·have o:=lastPl_none (put:=s.put) (cl:=cl) λj d=>n j oM d;have:=x _ b;rw[o] at this;exact this
end
section
variable {w:World} {K:oK} {F Fr F':Nat->Prop} {many:Nat} {c:Cnf} {s:Sat}
theorem qM0 (arr:List Int) (m n:Nat):(zM0 arr m n).length<=n:=by
 unfold zM0;refine gH (List.length_filterMap_le _ _) (by simp)
theorem l5Join_spec {va vb : Value} {a b : List Int} {m : Nat} (ha : Ints F w va a) (hb : Ints F' w vb b) (h700 : many <= 700) (hbd : ∀ k, k ∈ a ++ b -> k ≠ 0 /\ k.natAbs <= many) (hc : ∀ k, k ∈ a ++ b -> k.natAbs ≠ m -> -k ∉ a ++ b)
    (hK : ∀ w' v', Ext w w' -> OwnI ze w' v' (Qy many a b m) -> (∀ x, v'.ownBlock = some x -> w.heap.size <= x) -> K v' w') : vcall Xx #[.int .i64 many, va, vb, .int .i64 m] w K := by
  apply UD; unfold Q5
  have hla : a.length <= 9223372036854775807 := by obtain ⟨_, _, _, h1, h2, _⟩ := ha.shape; simp at h1; omega
  have hlb : b.length <= 9223372036854775807 := by obtain ⟨_, _, _, h1, h2, _⟩ := hb.shape; simp at h1; omega
  refine yq xr yR λb0 w0 hb0 he0 hz0 hB0 => ?_
  simp only [push_cast]
  rw [zk (by omega) (by omega), show ((many : Int) + 1) = ((many + 1 : Nat) : Int) from by omega]
  refine vmkS_own (bs := 8) xB qK xF rfl (by omega) (by omega) λv1 w1 h1 he1 hn1 => ?_
  have h1' : OwnI ze w1 v1 (List.replicate (many + 1) 0) := by unfold OwnI; rw [GB]; exact h1
  have E1 := he0.trans he1
  have hz0' := he0.size
  have hN : ∀ x, v1.ownBlock = some x -> w.heap.size <= x := λx hx => by have := hn1 x hx; omega
  have hB1 : Blk w1 b0 [] zC := hB0.ext he1
  have hbv : ∀ x, v1.ownBlock = some x -> x ≠ b0 := λx hx e => by have := hn1 x hx; have := hB0.lt; omega
  refine vloop_up a.length (λi u w' => u = [.int .i64 i] /\ Ext w w' /\ Blk w' b0 [] zC /\ ∃ arr, OwnI ze w' v1 arr /\ ArrP many (a.take i) arr) ⟨rfl, E1, hB1, _, h1', by simpa using arr_nil many⟩ ?_
  rintro i _ _ w2 C hi ⟨rfl, he2, hB2, arr, hv2, har⟩ hC
  have ha2 := ha.ext he2
  simp (disch := (simp only [push_cast]; done)) only [push_cast, ha2.len]
  refine zb (λc1 => ?_) (λc1 => ?_)
  · have hil : i < a.length := by omega
    refine zd λw3 he3 _ => ?_
    have ha3 := ha2.ext he3
    have hv3 := hv2.ext he3
    have hvi := hv3.ints
    have hal := har.len
    obtain ⟨g1, g2⟩ := hbd _ (gL _ (getD_meS hil))
    simp (disch := first | (simp only [push_cast]; done) | omega) only [push_cast, ha3.iaddr, ha3.load, true_and]
    refine l4Abs_spec (by omega) ?_
    simp (disch := first | (simp only [push_cast]; done) | omega) only [push_cast, ha3.iaddr, ha3.load, true_and, and_self, hvi.iaddr]
    refine hv3.st yR (by omega) λw4 hv4 hs4 hz4 => ?_
    rw [inc64 (by omega)]
    refine hC hil _ _ ⟨rfl, Ext.then (he2.trans he3) hs4 hN, (hB2.ext he3).same hs4 λe => hbv _ e rfl, _, hv4, ?_⟩
    rw [M.take_snoc' (d := 0) hil]
    exact arr_snoc har g1 g2
  clear hC
  rw [gy (by omega)] at har
  refine vloop_up b.length (λi u w' => u = [.int .i64 i] /\ Ext w w' /\ Blk w' b0 [] zC /\ ∃ arr, OwnI ze w' v1 arr /\ ArrP many (a ++ b.take i) arr) ⟨rfl, he2, hB2, arr, hv2, by simpa using har⟩ ?_
  clear har hv2 arr hB2 ha2 he2 w2
  rintro j _ _ w2 C hj ⟨rfl, he2, hB2, arr, hv2, har⟩ hC
  have hb2 := hb.ext he2
  simp (disch := (simp only [push_cast]; done)) only [push_cast, hb2.len]
  refine zb (λc2 => ?_) (λc2 => ?_)
  · have hil : j < b.length := by omega
    refine zd λw3 he3 _ => ?_
    have hb3 := hb2.ext he3
    have hv3 := hv2.ext he3
    have hvi := hv3.ints
    have hal := har.len
    obtain ⟨g1, g2⟩ := hbd _ (Gj _ (getD_meS hil))
    simp (disch := first | (simp only [push_cast]; done) | omega) only [push_cast, hb3.iaddr, hb3.load, true_and]
    refine l4Abs_spec (by omega) ?_
    simp (disch := first | (simp only [push_cast]; done) | omega) only [push_cast, hb3.iaddr, hb3.load, true_and, and_self, hvi.iaddr]
    refine hv3.st yR (by omega) λw4 hv4 hs4 hz4 => ?_
    rw [inc64 (by omega)]
    refine hC hil _ _ ⟨rfl, Ext.then (he2.trans he3) hs4 hN, (hB2.ext he3).same hs4 λe => hbv _ e rfl, _, hv4, ?_⟩
    rw [M.take_snoc' (d := 0) hil, <- gV]
    exact arr_snoc har g1 g2
  clear hC
  rw [gy (by omega)] at har
  have hal := har.len
  have hv0 : OwnI ze w2 (.slice (some ⟨b0, 0, none⟩) 0 0) [] := Blk.own1 (t := ze) (cs := []) (by rw [qK]; exact hB2) (gM _) rfl rfl (by omega)
  refine vloop_up many (λn u w' => ∃ v, u = [v, .int .i64 (n + 1 : Nat)] /\ Ext w w' /\ OwnI ze w' v1 arr /\ OwnI ze w' v (zM0 arr m n) /\ (∀ x, v.ownBlock = some x -> w.heap.size <= x /\ v1.ownBlock ≠ some x)) ⟨_, rfl, he2, hv2, hv0, λx hx => ?_⟩ ?_
  · have e : b0 = x := y2 hx
    subst e
    exact ⟨by omega, λe => hbv _ e rfl⟩
  rintro n _ _ w3 C3 hn ⟨v, rfl, he3, hv3, hr3, hf3⟩ hC3
  simp only [push_cast]
  have hjl := qM0 arr m n
  refine zb (λc3 => ?_) (λc3 => ?_)
  · have hs := joinA_succ arr m n
    have hinc : IntKind.i64.wrap ((n : Int) + 1 + 1) = ((n + 1 + 1 : Nat) : Int) := by rw [zk (by omega) (by omega)]; omega
    have hvi := hv3.ints
    rw [hinc]
    refine zb (λc4 => ?_) (λc4 => ?_)
    · rw [if_neg (by omega)] at hs
      have e1 : ((n : Int) + 1) = ((n + 1 : Nat) : Int) := rfl
      rw [e1]
      simp (disch := first | (simp only [push_cast]; done) | omega) only [hvi.iaddr, gi, hvi.load, yG0]
      refine zb (λc5 => ?_) (λc5 => ?_)
      · rw [if_neg c5] at hs
        refine zD xr yR xF rfl rfl λb4 w4 hb4 he4 hz4 hB4 => ?_
        refine (hr3.ext he4).app1 xB hB4 (by omega) (by omega) λv5 w5 hv5 hs5 hn5 => ?_
        have hz3 := he3.size
        refine hC3 (by omega) _ _ ⟨v5, rfl, Ext.then (he3.trans he4) hs5 λx hx => (hf3 x hx).1, (hv3.ext he4).same hs5 λx hx e => (hf3 x e).2 hx, by rw [hs]; exact hv5, λx hx => ?_⟩
        rcases hn5 x hx with e | e
        · exact hf3 x e
        · exact ⟨by omega, λe' => by have := hv3.lt e'; omega⟩
      · rw [if_pos (by simpa using c5), gz] at hs
        exact hC3 (by omega) _ _ ⟨v, rfl, he3, hv3, by rw [hs]; exact hr3, hf3⟩
    · rw [if_pos (by omega), gz] at hs
      exact hC3 (by omega) _ _ ⟨v, rfl, he3, hv3, by rw [hs]; exact hr3, hf3⟩
  · have : n = many := by omega
    subst this
    rw [joinA_eq har hc] at hr3
    exact hK w3 v he3 hr3 λx hx => (hf3 x hx).1
theorem learnS_cons {cl:List Int} (d:satOk many c s) (h:c.many=many) (hF:Fls s.put cl) (hs:Srt cl) (n:2<=(Jv s.put (yB s.why) cl).length):
  lastPl s.put cl-1<s.put.length/\lastPl s.put cl≠0/\0<=s.why.getD (lastPl s.put cl-1) 0/\s.why.getD (lastPl s.put cl-1) 0<c.list.length+s.learned.length/\
  (∀l,l∈cl++atM c s (s.why.getD (lastPl s.put cl-1) 0).toNat->l≠0/\l.natAbs<=many)/\(∀l,l∈cl++atM c s (s.why.getD (lastPl s.put cl-1) 0).toNat->l.natAbs≠(s.put.getD (lastPl s.put cl-1) 0).natAbs-> -l∉cl++atM c s (s.why.getD (lastPl s.put cl-1) 0).toNat):=by
 have v:=topOf_tops (put:=s.put) (ds:=yB s.why) (srt_nodup hs);have b:cl≠[]:=λe=>by subst e;simp[Jv] at n
 have w:=lastPl_pos hF b;obtain⟨k,o⟩:∃k,lastPl s.put cl=k+1:=⟨lastPl s.put cl-1,oM⟩;rw[o,GC];obtain⟨i,t,j,m,himp,-⟩:=last_reason d hF v n o;obtain⟨u,f⟩:=(impl_iff d.mks).1 himp;have g:(s.why.getD k 0).toNat<c.list.length+s.learned.length:=oM
 have off:∀l,l∈cl++atM c s (s.why.getD k 0).toNat->l.natAbs≠(s.put.getD k 0).natAbs-> -l∈s.put:=λl a b=>by
  rcases gg.1 a with a|a
  ·exact hF l a
  ·exact gU (f l a λe=>b (by rw[e]))
 refine⟨i,oM,j,m,λl a=>?_,λl a b r=>?_⟩
 ·rcases gg.1 a with a|a
  ·have:=d.mks.2 _ (hF l a);omega
  ·exact d.lit h g a
 ·have p:=off l a b;have q:=off (-l) r (by rwa[GR]);exact d.mks.neg p q
theorem l5Learn_spec {vc v vl v3:Value} {k:Nat} (hc:CnfR F w vc c) (hs:SatR F' w v s) (S:Ints Fr w vl (levs many s.put (yB s.why))) (hv:OwnI ze w v3 (atM c s k)) (e:satOk many c s) (o:c.many=many) (hk:k<c.list.length+s.learned.length) (a1:kA s.put (atM c s k))
  (hK:∀w' v',Ext w w'->OwnI ze w' v' (learnM many c s s.put.length (atM c s k))->(∀x,v'.ownBlock=some x->v3.ownBlock=some x\/w.heap.size<=x)->K v' w'):vcall KN #[vc,v,vl,v3] w K:=by
 refine zg {ord:=[(4,[0,1,2,3,4,5,6,7,8,9,11,12,13,14,15,10,16,17,18],[(0,[1,17,18]),(1,[17,18]),(2,[17,18]),(3,[10,16,17,18]),(4,[10,16,17,18]),(5,[6,8,9,10,16,17,18]),(6,[8,9,10,16,17,18]),(7,[8,9,10,16,17,18]),(8,[9,10,16,17,18]),(9,[10,16,17,18]),(11,[12,14,15,16,17,18]),(12,[14,15,16,17,18]),(13,[14,15,16,17,18]),(14,[15,16,17,18]),(15,[16,17,18]),(10,[16,17,18]),(16,[17,18]),(17,[18])])],loops:=[(2,[3,10])]} Tryz.func192 ?_;have a0:=hc;have M:=hs;obtain⟨lv,rfl,aa⟩:=hc;obtain⟨vp,vw,vls,rfl,hp,hw,j⟩:=hs;have d:many<=700/\c.list.length<=2500:=by
  have:=e.cnf;unfold cnfOk at this;simp only[K3,decide_eq_true_eq] at this;omega
 have a6:=e.few;have m:=e.mks;have ac:=m.len;have hlen:=e.len;have E:=XX a1;have Z:=clauseOk_srt (e.atOk hk);have G:(yB s.why).length<=700:=by rw[kz];omega
 have bounds:∀{b:List Int},Fls s.put b->∀x,x∈b->x.natAbs<=many/\placeOf s.put x.natAbs≠0:=λhF x A=>by
  have h1:=m.2 _ (hF x A);have D:=placeOf_ne_zero (hF x A);rw[GR] at D;exact⟨oM,D⟩
 generalize atM c s k=cl at*;refine yn λb1 w1 a7 a2 ad X=>?_;refine yn λb2 w2 a8 H ae Y=>?_;have A2:Blk w2 b1 [nI c.many,lv] zp:=X.ext H;have B2:Blk w2 b2 [vp,vw,vls,nI s.code] zm:=Y;have R:=a2.trans H;refine l5Top_spec (S.ext R) d.1 G (hv.ext R).ints (bounds E) ?_;simp only[push_cast];refine jB (λn u w'=> ∃b f v,n=lastPl s.put b/\u=[v,nI (Jv s.put (yB s.why) b).length]/\Ext w w'/\Blk w' b1 [nI c.many,lv] zp/\Blk w' b2 [vp,vw,vls,nI s.code] zm/\
   OwnI ze w' v b/\(∀x,v.ownBlock=some x->v3.ownBlock=some x\/w.heap.size<=x)/\Fls s.put b/\Srt b/\lastPl s.put b<=f/\learnM many c s f b=learnM many c s s.put.length cl) _
  ⟨cl,s.put.length,v3,rfl,rfl,R,A2,B2,hv.ext R,λx A=> .inl A,E,Z,lastPl_le,rfl⟩ ?_
 rintro _ _ _ w3 C ⟨b,f,v,rfl,rfl,V,A3,B3,t,a3,hF,hS,ab,r⟩ hC;simp only[push_cast];refine zb (λa=>?_) (λa=>?_)
 ·have D:2<=(Jv s.put (yB s.why) b).length:=oM;obtain⟨g1,g2,g3,g4,g5,g6⟩:=learnS_cons e o hF hS D;obtain⟨k1,k2,k3,k4⟩:=learnS_ok e o hF hS D;obtain⟨f,rfl⟩:∃f',f=f'+1:=⟨f-1,oM⟩;rw[learnM,if_neg oM] at r;rw[B3.ldAgg zQ];refine l5Last_spec (M.ext V) m d.1 t.ints (λl S=>by have:=(bounds hF l S).1;omega) λw4 g=>?_;have E4:=V.trans g;refine zd λw5 h _=>?_;have B:=E4.trans h;have T:=(A3.ext g).ext h;have Q:=(B3.ext g).ext h;obtain⟨q,hq⟩:∃q,lastPl s.put b=q+1:=⟨lastPl s.put b-1,oM⟩;have j:jA many c s b=Qy many b (atM c s (s.why.getD q 0).toNat) (s.put.getD q 0).natAbs:=by unfold jA;rw[hq,GC]
  rw[hq,GC] at g1 g3 g4 g5 g6;rw[hq,show((q+1:Nat):Int)-1=(q:Int) from by omega];have J:=hp.ext B;have O:=hw.ext B;simp(disch:=first|(simp only[push_cast])|omega) only[push_cast,T.ldAgg zE,Q.ldAgg zQ,T.ld0,Q.ld0,Q.ld1,true_and,J.iaddr,J.load,O.iaddr,O.load];obtain⟨y,hy⟩:∃y:Nat,s.why.getD q 0=y:=⟨(s.why.getD q 0).toNat,oM⟩;rw[hy] at g4 g5 g6 j⊢;rw[gi] at g5 g6 j;refine l5At_spec (a0.ext B) (M.ext B) oM oM λw6 v6 i a5=>?_;have W:=B.trans i;have U:=T.ext i;have B6:=Q.ext i;have L:=hp.ext W;simp(disch:=first|(simp only[push_cast])|omega) only[push_cast,U.ld0,B6.ld0,true_and,and_self,L.iaddr,L.load];have a9:=m.2 _ (getD_meS g1);refine l4Abs_spec oM ?_;simp(disch:=first|(simp only[push_cast])|omega) only[push_cast,U.ld0,true_and,and_self];rw[o];have N:=(((t.ext g).ext h).ext i);refine l5Join_spec N.ints a5 d.1 g5 g6 λw7 v7 p z a4=>?_;have E7:=W.trans p;rw[<-j] at z;refine l5Top_spec (S.ext E7) d.1 G z.ints (bounds k1) ?_;simp only[push_cast];refine hC (lastPl s.put (jA many c s b)) _ _ k3 ⟨_,f,v7,rfl,rfl,E7,U.ext p,B6.ext p,z,λx A=> .inr ?_,k1,k2,oM,r⟩;have:=a4 x A;have:=W.size;omega
 ·have I:learnM many c s s.put.length cl=b:=by
   rw[<-r];cases f with
   |zero=>rfl
   |succ f=>rw[learnM,if_pos oM]
  rw[I] at hK;exact hK w3 v V t a3
theorem l4Max_spec {a b:Nat} (c:K (nI (max a b:Nat)) w):vcall zm0 #[nI a,nI b] w K:=by
 refine zg {} Tryz.func225 ?_;simp only[push_cast];refine zb (λh=>?_) (λh=>?_)
 ·rwa[show max a b=a from by omega] at c
 ·rwa[show max a b=b from by omega] at c
theorem l5Below_spec {v v':Value} {put cl:List Int} {ds:List Bool} (o:Ints F w v (levs many put ds)) (m:many<=700) (e:Ints Fr w v' cl) (s:∀l,l∈cl->l.natAbs<=many/\placeOf put l.natAbs≠0)
  (q:K (nI (ZZ put ds cl:Nat)) w):vcall KO #[v,v',nI (kY put ds cl:Nat)] w K:=by
 refine zg {loops:=[(3,[7,8])]} Tryz.func194 ?_;have hlen:cl.length<=9223372036854775807:=by obtain⟨_,_,_,p,x,_⟩:=e.shape;simp at p;omega
 have t:=U0 many put ds;generalize r:kY put ds cl=T;refine vloop_up cl.length (λi u w'=>w'=w/\u=[nI (maxL (((cl.take i).filter λk=>decide (lvM put ds k<T)).map (lvM put ds)):Nat),nI i]) ⟨rfl,rfl⟩ ?_;rintro i _ _ _ C hi ⟨rfl,rfl⟩ n;simp only[push_cast,e.len];refine zb (λa=>?_) (λa=>?_)
 ·have f:i<cl.length:=oM;simp(disch:=first|(simp only[push_cast])|omega) only[push_cast,e.iaddr,e.load];obtain⟨g,h⟩:=s _ (getD_meS f);refine l4Abs_spec oM ?_;simp(disch:=first|(simp only[push_cast])|omega) only[push_cast,o.iaddr,o.load];rw[levs_get g,levV_lit h];have c:(cl.take (i+1)).filter (λk=>decide (lvM put ds k<T))=(cl.take i).filter (λk=>decide (lvM put ds k<T))++(if lvM put ds (cl.getD i 0)<T then[cl.getD i 0] else[]):=by
   rw[M.take_snoc' (d:=0) f,Ps,PA,List.filter_nil];simp only[decide_eq_true_eq]
  have j:∀A:List Int,maxL ((A++[cl.getD i 0]).map (lvM put ds))=max (maxL (A.map (lvM put ds))) (lvM put ds (cl.getD i 0)):=λA=>by
   rw[gr];exact maxL_snoc _ _ _ rfl
  refine zb (λb=>?_) (λb=>?_)
  ·refine l4Max_spec ?_;rw[inc64 oM];rw[if_pos oM] at c;refine n f _ _ ⟨rfl,?_⟩;rw[c,j]
  ·rw[inc64 oM];rw[if_neg oM,gz] at c;exact n f _ _ ⟨rfl,by rw[c]⟩
 ·rw[gy oM,<-r];exact q
end
section
variable {w:World} {K:oK} {F F':Nat->Prop} {many:Nat} {c:Cnf} {s:Sat}
def SpR (Z:Nat->Prop) (w:World) (v:Value) (s:Sat):Prop:=
 ∃vp vw vl,v= .agg #[vp,vw,vl,nI s.code]/\OwnI ze w vp s.put/\OwnI ze w vw s.why/\(∀b,vp.ownBlock=some b->Z b/\vw.ownBlock≠some b)/\(∀b,vw.ownBlock=some b->Z b)/\
  Lists (λb=>Z b/\vp.ownBlock≠some b/\vw.ownBlock≠some b) w vl s.learned
section
variable {Z Z':Nat->Prop} {v:Value} {w':World}
theorem SpR.ext (h:SpR Z w v s) (he:Ext w w'):SpR Z w' v s:=by
 obtain⟨vp,vw,vl,e,a,b,c,d,f⟩:=h;exact⟨vp,vw,vl,e,a.ext he,b.ext he,c,d,f.ext he⟩
theorem SpR.same {S:Nat->Prop} (h:SpR Z w v s) (hw:Same S w w') (c:∀b,Z b->b<w.heap.size->¬S b):SpR Z w' v s:=by
 obtain⟨vp,vw,vl,e,d,f,g,i,j⟩:=h;exact⟨vp,vw,vl,e,d.same hw λb a=>c b (g b a).1 (d.lt a),f.same hw λb a=>c b (i b a) (f.lt a),g,i,j.same hw λb a=>c b a.1⟩
theorem SpR.weaken (h:SpR Z w v s) (c:∀b,Z b->b<w.heap.size->Z' b):SpR Z' w v s:=by
 obtain⟨vp,vw,vl,e,d,f,g,i,j⟩:=h;exact⟨vp,vw,vl,e,d,f,λb a=>⟨c b (g b a).1 (d.lt a),(g b a).2⟩,λb a=>c b (i b a) (f.lt a),j.weaken λb a k=>⟨c b a.1 k,a.2⟩⟩
theorem SpR.below (h:SpR Z w v s):SpR (λb=>Z b/\b<w.heap.size) w v s:=h.weaken λ_ a c=>⟨a,c⟩
theorem SpR.sat (h:SpR Z w v s):SatR Z w v s:=by
 obtain⟨vp,vw,vl,e,c,d,f,g,i⟩:=h;exact⟨vp,vw,vl,e,c.ints.weaken λb a _=>(f b a).1,d.ints.weaken λb a _=>g b a,i.weaken λb a _=>a.1⟩
theorem SpR.empty:SpR Z w (.agg #[.slice none 0 0,.slice none 0 0,.slice none 0 0,nI 0]) emptyS:=
 ⟨_,_,_,rfl,OwnI.nil,OwnI.nil,λb a=>(by cases a),λb a=>(by cases a),jo0⟩
end
theorem copy_ints {v:Value} {xs:List Int} {b:Nat} {t:TypeId} (f:Blk w b [] zC) (a:Ints F w v xs) (c:xs.length*8<=140737488355328)
  (g:∀v' w',OwnI ze w' v' xs->Same (· =b) w w'->(∀x,v'.ownBlock=some x->x=b\/w.heap.size<=x)->K v' w'):vbi .append [ze,ze] t [.slice (some ⟨b,0,none⟩) 0 0,v] w K:=by
 have d:OwnI ze w (.slice (some ⟨b,0,none⟩) 0 0) []:=Blk.own1 (t:=ze) (cs:=[]) (by rw[qK];exact f) (gM _) rfl rfl oM;refine d.app (ys:=xs) xB a (by simp only[pJ];omega) (by simpa using c) λv' w2 i hs h=>g v' w2 i (hs.mono λx _ a=>?_) λx a=>?_
 ·exact(y2 a).symm
 ·exact(h x a).imp (λe=>(y2 e).symm) id
theorem l5Back_spec {vp vw vl:Value} {L:Nat} (hp:OwnI ze w vp s.put) (hw:OwnI ze w vw s.why) (ac:vl.oneCell'=true) (hlen:s.put.length=s.why.length) (ag:s.put.length<=700) (hL:L<=700) (Y:∀k,k<s.why.length->s.why.getD k 0= -1\/0<=s.why.getD k 0)
  (hK:∀w' F y,Ext w w'->OwnI ze w' F (s.put.take (backN (yB s.why) L s.put.length))->OwnI ze w' y (s.why.take (backN (yB s.why) L s.put.length))->(∀b,F.ownBlock=some b->w.heap.size<=b/\y.ownBlock≠some b)->(∀b,y.ownBlock=some b->w.heap.size<=b)->K (.agg #[F,y,vl,nI s.code]) w'):
  vcall Wt #[.agg #[vp,vw,vl,nI s.code],nI L] w K:=by
 refine zg {loops:=[(3,[5,6])],cuts:=[(16392,[5])]} Tryz.func193 ?_;refine yn λb2 w2 ak a8 av a2=>?_;refine qj qS λb4 A al O aw a3=>?_;have B4:Blk A b2 [vp,vw,vl,nI s.code] zm:=a2.ext O;have R4:Blk A b4 [.slice none 0 0,.slice none 0 0,.slice none 0 0,nI 0] zm:=a3;have E4:=a8.trans O;have R:=hp.ext E4;have ad:=hw.ext E4;have aa:=R.ints;have Z:=ad.ints;have aq:=kz s.why;refine zq (λu w'=>w'=A/\u=[nI (backN (yB s.why) L s.put.length:Nat)]) ?_ ?_
 ·intro J hJ;have done:∀n,n<=s.put.length->(∀i,i<n->(lvl (yB s.why) i:Int)<=L)->(n=s.put.length\/(L:Int)<(lvl (yB s.why) n:Int))->J [nI (n:Nat)] A:=λn h1 h2 h3=>hJ _ _ ⟨rfl,by rw[backN_eq h1 h2 h3]⟩;refine vloop_up s.put.length (λn u w'=>w'=A/\u=[nI n,nI (((yB s.why).take n).count true:Nat)]/\∀i,i<n->(lvl (yB s.why) i:Int)<=L) ⟨rfl,rfl,oM⟩ ?_;rintro n _ _ A C hn ⟨rfl,rfl,f⟩ hC;simp only[push_cast,B4.ld0,aa.len];refine zb (λa=>?_) (λa=>done n hn f (.inl oM));have a9:n<s.put.length:=oM;have a7:=ZX (ds:=yB s.why) (i:=n) oM;have B:=lvl_succ (ds:=yB s.why) (i:=n) oM;have ap:((yB s.why).take n).count true<=700:=gH pE (by simp;omega);have N:=UA (why:=s.why) (k:=n) oM;have au:=Y n oM;simp(disch:=first|(simp only[push_cast])|omega) only[push_cast,B4.ld1,Z.iaddr,Z.load];have j:∀k:Nat,k=lvl (yB s.why) n->¬(L:Int)<k->(n<s.put.length->∀(u':List Value) (w'':World),(w''=A/\u'=[nI (n+1:Nat),nI (((yB s.why).take (n+1)).count true:Nat)]/\∀i,i<n+1->(lvl (yB s.why) i:Int)<=L)->C u' w'')->C [nI (n+1:Nat),nI k] A:=λk Q ar h=>by
   refine h a9 _ _ ⟨rfl,by rw[a7,<-B,Q],λi hi=>?_⟩;by_cases e:i=n
   ·subst e;omega
   ·exact f i oM
  refine zb (λb=>?_) (λb=>?_)
  ·have Q:((yB s.why).take n).count true+1=lvl (yB s.why) n:=by rw[B,N,decide_eq_true oM];rfl
   rw[inc64 oM];refine zb (λb2=>done n hn f (.inr oM)) (λb2=>?_);rw[inc64 oM];exact j _ Q b2 hC
  ·have Q:((yB s.why).take n).count true=lvl (yB s.why) n:=by rw[B,N,decide_eq_false oM];rfl
   refine zb (λb2=>done n hn f (.inr oM)) (λb2=>?_);rw[inc64 oM];exact j _ Q b2 hC
 rintro _ _ _ ⟨rfl,rfl⟩;have ao:=backN_le (yB s.why) L s.put.length;generalize backN (yB s.why) L s.put.length=n at*;have aj:=E4.size;refine yq xr yR λb5 w5 am o ax a4=>?_;have B5:=B4.ext o;have S:=R.ext o;simp(disch:=first|(simp only[push_cast])|omega) only[push_cast,B5.ld0,S.cut];have ab:=S.taken (n:=n) oM;refine copy_ints a4 ab.ints (by simp;omega) λv6 w6 t D p=>?_;have B6:=B5.same D oM;refine B6.st t.ints.cells1 t.ints.one j9 rfl λw7 T az a5=>?_;have B7:Blk w7 b2 [v6,vw,vl,nI s.code] zm:=a5;have ay:=D.size;have E:=t.same T λx c e=>by rcases p x c with d|d<;>omega
 have z:Same (λx=>x=b5\/x=b2) w5 w7:=(D.mono λx _ e=> .inl e).trans (T.mono λx _ e=> .inr e);have M:Ext w w7:=Ext.then (E4.trans o) z λx c=>oM
 refine yq xr yR λb8 w8 an g b0 a6=>?_;have B8:=B7.ext g;have X:=hw.ext (M.trans g);simp(disch:=first|(simp only[push_cast])|omega) only[push_cast,B8.ld1,X.cut];have ae:=X.taken (n:=n) oM;refine copy_ints a6 ae.ints (by simp;omega) λv9 w9 v r q=>?_;have B9:=B8.same r oM;have V:=(E.ext g).same r λx c e=>by have:=E.lt c;omega
 refine B9.st v.ints.cells1 v.ints.one j9 rfl λw10 l ah G=>?_;have a0:Blk w10 b2 [v6,v9,vl,nI s.code] zm:=G;have b1:=r.size;have U:=V.same l λx c e=>by rcases p x c with d|d<;>omega
 have W:=v.same l λx c e=>by rcases q x c with d|d<;>omega
 have hS:Same (λx=>x=b8\/x=b2) w8 w10:=(r.mono λx _ e=> .inl e).trans (l.mono λx _ e=> .inr e);have I:Ext w w10:=Ext.then (M.trans g) hS λx c=>oM
 have a1:Blk w10 b4 [.slice none 0 0,.slice none 0 0,.slice none 0 0,nI 0] zm:=((((R4.ext o).same z oM).ext g).same hS oM);rw[a0.ldAgg zQ];refine a1.stAgg (cs':=[v6,v9,vl,nI s.code]) rfl zQ (λx c=>?_) λaf m ai H=>?_
 ·simp only[X0,gm,or_false] at c;rcases c with rfl|rfl|rfl|rfl
  ·exact t.ints.one
  ·exact v.ints.one
  ·exact ac
  ·rfl
 rw[H.lv zQ];refine hK af v6 v9 (Ext.then I m λx c=>oM) (U.same m λx c e=>?_) (W.same m λx c e=>?_) (λx c=>⟨?_,λe=>?_⟩) (λx c=>?_)
 ·rcases p x c with d|d<;>omega
 ·rcases q x c with d|d<;>omega
 ·rcases p x c with d|d<;>omega
 ·have:=E.lt c;rcases q x e with d|d<;>omega
 ·rcases q x c with d|d<;>omega
theorem Qw {vl:Value} {xss:List (List Int)} (h:Lists F w vl xss):vl.oneCell'=true:=by
 obtain⟨vs,_,a,_⟩:=h;exact a.one
theorem l5Clash_spec {vc v v2:Value} {Z:Nat->Prop} {k:Nat} (hc:CnfR F w vc c) (hs:SpR Z w v s) (d:Ints F' w v2 (atM c s k)) (A:satOk many c s) (Y:c.many=many) (hk:k<c.list.length+s.learned.length) (ac:kA s.put (atM c s k))
  (hK:∀w' v',Ext w w'->SpR (λb=>Z b\/w.heap.size<=b) w' v' (k7 many c s (atM c s k))->K v' w'):vcall YD #[vc,v,v2] w K:=by
 refine zg {ord:=[oz 9 [0,1,2,4,3,5,6,7] [(0,[1,2,4,3,5]),(1,[2,4,3,5]),(2,[4,3,5]),(4,[3])],oz 11 (oR 7) [(0,[1,2,3,4]),(1,[2,3]),(2,[3])]]} Tryz.func151 ?_;have ax:=hc;have bc:=hs.sat;obtain⟨lv,rfl,cx⟩:=hc;obtain⟨vp,vw,vl,rfl,hp,hw,ay,bz,af⟩:=hs;have D:many<=700/\c.list.length<=2500:=by
  have:=A.cnf;unfold cnfOk at this;simp only[K3,decide_eq_true_eq] at this;omega
 have ch:=A.few;have ag:=A.mks;have cz:=ag.len;have hlen:=A.len;have az:(yB s.why).length<=700:=by rw[kz];omega
 have a8:∀k,k<s.why.length->s.why.getD k 0= -1\/0<=s.why.getD k 0:=λk hk=>(A.why k hk).imp id λh=>h.1;have bounds:∀{an:List Int},Fls s.put an->∀x,x∈an->x.natAbs<=many/\placeOf s.put x.natAbs≠0:=λhF x d=>by
  have h1:=ag.2 _ (hF x d);have h2:=placeOf_ne_zero (hF x d);rw[GR] at h2;exact⟨oM,h2⟩
 have cc:=clauseOk_len (m:=many) (by have:=A.atOk hk;rwa[Y] at this);obtain⟨z1,z2,z3,z4⟩:=U1 A Y hk ac;refine yn λb3 w1 ct c0 d0 br=>?_;refine yn λb4 w2 cu b0 d1 bs=>?_;refine qj qS λb6 w3 cv ad d2 bt=>?_;have A3:Blk w3 b3 [nI c.many,lv] zp:=(br.ext b0).ext ad;have B3:Blk w3 b4 [vp,vw,vl,nI s.code] zm:=bs.ext ad;have R3:Blk w3 b6 [.slice none 0 0,.slice none 0 0,.slice none 0 0,nI 0] zm:=bt;have E3:=c0.trans (b0.trans ad);rw[A3.ldAgg zE,B3.ldAgg zQ];refine l5Levels_spec (ax.ext E3) (bc.ext E3) Y D.1 ag hlen a8 λw4 vlev O z ah=>?_;have E4:=E3.trans O;refine l5Top_spec z.ints D.1 az (d.ext E4) (bounds (XX ac)) ?_;have A4:=A3.ext O;have B4:=B3.ext O;have R4:=R3.ext O;have d3:=O.size;have ones:∀{U V bf:Value} {cd:Int},U.oneCell'=true->V.oneCell'=true->bf.oneCell'=true->∀x,x∈[U,V,bf,nI cd]->x.oneCell'=true:=λh1 h2 h3 x d=>by
  simp only[X0,gm,or_false] at d;rcases d with rfl|rfl|rfl|rfl
  ·exact h1
  ·exact h2
  ·exact h3
  ·rfl
 have code:∀(cd:Int),k7 many c s (atM c s k)={s with code:=cd}->zR zC (oP b4 3) (nI cd) w4 λ_ bi=>zu zm (oP b4 0) bi λt22 bj=>zR zm (oP b6 0) t22 bj λ_ bk=>vlv zm (oP b6 0) bk λr6 bl=>K r6 bl:=λcd X=>by
  refine B4.st rfl rfl yR rfl λw5 bd c9 bu=>?_;have B5:Blk w5 b4 [vp,vw,vl,nI cd] zm:=bu;rw[B5.ldAgg zQ];refine(R4.same bd oM).stAgg (cs':=[vp,vw,vl,nI cd]) rfl zQ (ones hp.ints.one hw.ints.one (Qw af)) λw6 c4 d4 bv=>?_;rw[bv.lv zQ];have W:Ext w w6:=Ext.then E4 ((bd.mono λx _ e=>(.inl e:x=b4\/x=b6)).trans (c4.mono λx _ e=> .inr e)) λx d=>oM;refine hK w6 _ W ?_;rw[X];exact⟨vp,vw,vl,rfl,hp.ext W,hw.ext W,λb hb=>⟨.inl (ay b hb).1,(ay b hb).2⟩,λb hb=> .inl (bz b hb),(af.ext W).weaken λb hb _=>⟨.inl hb.1,hb.2⟩⟩
 simp only[push_cast];refine zb (λa=>?_) (λa=>?_)
 ·exact code 2 (by unfold k7;rw[if_pos oM])
 obtain⟨es,c1,b5,b1⟩:=af;have b8:=b5.ext E4;simp only[push_cast,B4.ld2,b8.len];refine zb (λa2=>?_) (λa2=>?_)
 ·exact code 3 (by unfold k7;rw[if_neg oM,if_pos oM])
 clear code;have X:k7 many c s (atM c s k)={s with put:=s.put.take (backN (yB s.why) (ZZ s.put (yB s.why) (learnM many c s s.put.length (atM c s k))) s.put.length),why:=s.why.take (backN (yB s.why) (ZZ s.put (yB s.why) (learnM many c s s.put.length (atM c s k))) s.put.length),learned:=s.learned++[learnM many c s s.put.length (atM c s k)]}:=by
  unfold k7;rw[if_neg oM,if_neg oM]
 rw[X] at hK;clear X;refine zd λw5 J _=>?_;have A5:=A4.ext J;have B5:=B4.ext J;simp only[push_cast,A5.ldAgg zE,B5.ldAgg zQ,true_and];refine yq xr yR λb7 w7 cw L d5 bw=>?_;have E7:=E4.trans (J.trans L);have A7:=A5.ext L;have B7:=B5.ext L;simp only[push_cast,A7.ldAgg zE,B7.ldAgg zQ,true_and,and_self];have c9:=J.size;have cq:=L.size;refine copy_ints bw (d.ext E7) oM λv8 w8 c5 M c2=>?_;have A8:=A7.same M oM;have B8:=B7.same M oM;have ab:Ext w w8:=Ext.then E7 M λx d=>by have:=E4.size;omega
 simp only[push_cast,A8.ldAgg zE,B8.ldAgg zQ,true_and,and_self];have d6:=M.size;have R:=((z.ext J).ext L).same M λx d e=>by have:=z.lt d;omega
 refine l5Learn_spec (ax.ext ab) (bc.ext ab) R.ints c5 A Y hk ac λw9 v9 Q ai c3=>?_;have E9:=ab.trans Q;have d7:=Q.size;have S:∀x,v9.ownBlock=some x->w4.heap.size<=x:=λx d=>by
  rcases c3 x d with e|e
  ·rcases c2 x e with e|e<;>omega
  ·omega
 generalize cy:learnM many c s s.put.length (atM c s k)=lc at*;refine yq Qd j9 λa9 w10 ce n ci ao=>?_;have ak:=(B8.ext Q).ext n;have am:=E9.trans n;have ae:=b5.ext am;simp only[push_cast,ak.ld2];have bq:OwnV zI w10 (.slice (some ⟨a9,0,none⟩) 0 0) []:=Blk.own1 (t:=zI) (cs:=[]) (by rw[Uz];exact ao) (gM _) rfl rfl oM;have b2:∀u,u∈es->u.oneCell'=true:=λu hu=>by
  obtain⟨i,hi,rfl⟩:=gj hu;have:=(b1 i oM).one;simpa[y0,hi] using this
 refine bq.app (us:=es) ZR ae b2 (by simp;omega) (by simp;omega) λv11 bg a6 a5 ba=>?_;have f:∀x,v11.ownBlock=some x->w9.heap.size<=x:=λx d=>by
  rcases ba x d with e|e
  ·have e:a9=x:=y2 e;omega
  ·omega
 have r:Same (· =a9) w10 bg:=a5.mono λx _ e=>(y2 e).symm;have bm:=ak.same r oM;have c6:=n.size;have cj:=a5.size;have T:=(ai.ext n).same r λx d e=>by have:=ai.lt d;omega
 have au:Ext w bg:=Ext.then am r λx d=>by have:=E9.size;omega
 refine zD Qd j9 W4 rfl T.ints.cells1 λcr d8 cf g ck ap=>?_;rw[gX] at a6;refine OwnV.app1 (a6.ext g) ZR ap T.ints.one oM oM λa1 ca C o bb=>?_;have E:∀x,a1.ownBlock=some x->w9.heap.size<=x:=λx d=>by
  rcases bb x d with e|e
  ·exact f x e
  ·have:=g.size;omega
 have c7:=g.size;have cl:=o.size;have bn:=(bm.ext g).same o λe=>by have:=f _ e;have:=B8.lt;omega
 have av:Ext w ca:=Ext.then (au.trans g) o λx d=>by have:=f x d;have:=E9.size;omega
 have be:=(T.ext g).same o λx d e=>by have:=f x e;have:=ai.lt d;omega
 refine bn.st C.vals.cells1 C.vals.one Q9 rfl λaj p cm aq=>?_;have bo:Blk aj b4 [vp,vw,a1,nI s.code] zm:=aq;have aw:Ext w aj:=Ext.then av p λx d=>oM
 have G:=C.same p λx d e=>by have:=E x d;have:=B8.lt;omega
 have H:=be.same p λx d e=>by have:=S x d;have:=B4.lt;omega
 have a0:OwnI ze aj vlev (levs many s.put (yB s.why)):=((((R.ext Q).ext n).same r λx d e=>by have:=z.lt d;omega).ext g|>.same o λx d e=>by have:=f x e;have:=z.lt d;omega).same p λx d e=>by have:=ah x d;have:=B3.lt;omega
 refine zd λd9 j _=>?_;have al:=bo.ext j;simp only[push_cast,al.ldAgg zQ,true_and];have l:=aw.trans j;have c8:=p.size;have cn:=j.size;rw[<-z3];refine l5Below_spec (a0.ext j).ints D.1 (H.ext j).ints (bounds z1) ?_;simp only[push_cast,al.ldAgg zQ,true_and,and_self];have bx:ZZ s.put (yB s.why) lc<=700:=by
  unfold ZZ;rcases j6 (xs:=(lc.filter λk=>decide (lvM s.put (yB s.why) k<kY s.put (yB s.why) lc)).map (lvM s.put (yB s.why))) with e|e
  ·omega
  ·obtain⟨q,_,e⟩:=gn.1 e;rw[<-e];exact gH (lvl_le _ _) az
 refine l5Back_spec (s:={s with code:=s.code}) (hp.ext l) (hw.ext l) C.vals.one hlen oM bx a8 λcb U V y a4 a7 I N=>?_;have bp:Blk cb b6 [.slice none 0 0,.slice none 0 0,.slice none 0 0,nI 0] zm:=by
  have h6:=R3.lt;exact(((((((((R4.ext J).ext L).same M oM).ext Q).ext n).same r oM).ext g).same o λe=>by have:=f _ e;omega).same p oM|>.ext j).ext y
 refine bp.stAgg (cs':=[U,V,a1,nI s.code]) rfl zQ (ones a4.ints.one a7.ints.one C.vals.one) λbh B cp ar=>?_;rw[ar.lv zQ];have a3:Ext w bh:=Ext.then (l.trans y) B λx d=>oM
 have cg:=R3.lt;have co:=y.size;refine hK bh _ a3 ⟨U,V,a1,rfl,a4.same B λx d e=>by have:=(I x d).1;omega,a7.same B λx d e=>by have:=N x d;omega,λx d=>⟨.inr (by have:=(I x d).1;have:=l.size;omega),(I x d).2⟩,λx d=> .inr (by have:=N x d;have:=l.size;omega),es++[v9],by simp[c1],?_,λi hi=>?_⟩
 ·have aa:=((G.ext j).ext y).same B λx d e=>by have:=E x d;omega
  refine aa.vals.weaken λx d _=>⟨.inr (by have:=E x d;have:=E9.size;omega),λe=>?_,λe=>?_⟩
  ·have:=(I x e).1;have:=G.lt d;omega
  ·have:=N x e;have:=G.lt d;omega
 ·simp only[y3,gO] at hi;by_cases b9:i<s.learned.length
  ·rw[getD_app_l oM,getD_app_l b9];refine(((b1 i b9).weaken (F':=λx=>(Z x/\vp.ownBlock≠some x/\vw.ownBlock≠some x)/\x<w.heap.size) λx h1 h2=>⟨h1,h2⟩).ext a3).weaken λx d _=>⟨.inl d.1.1,λe=>?_,λe=>?_⟩
   ·have:=(I x e).1;have:=l.size;omega
   ·have:=N x e;have:=l.size;omega
  ·have e1:i=s.learned.length:=oM;have e2:i=es.length:=oM;have g1:(es++[v9]).getD i undef=v9:=by rw[e2];simp
   have g2:(s.learned++[lc]).getD i []=lc:=by rw[e1];simp
   rw[g1,g2];have aa:=((H.ext j).ext y).same B λx d e=>by have:=S x d;omega
   refine aa.ints.weaken λx d _=>⟨.inr (by have:=S x d;have:=E4.size;omega),λe=>?_,λe=>?_⟩
   ·have:=(I x e).1;have:=H.lt d;omega
   ·have:=N x e;have:=H.lt d;omega
end
section
variable {w:World} {K:oK} {F F':Nat->Prop} {many:Nat} {c:Cnf} {s:Sat}
theorem l5Do_spec {vc v : Value} {Z : Nat -> Prop} (hc : CnfR F w vc c) (hs : SpR Z w v s) (hok : satOk many c s) (hcm : c.many = many)
    (hK : ∀ w' v', Same Z w w' -> SpR (λb => Z b \/ w.heap.size <= b) w' v' (goM many c s) -> K v' w') : vcall JO #[vc, v] w K := by
  apply yy0; unfold KD
  have hc' := hc
  have hs' := hs.sat
  have hs0 := hs
  obtain ⟨lv, rfl, hcl⟩ := hc
  obtain ⟨vp, vw, vl, rfl, hp, hw, hd1, hd2, hls⟩ := hs
  have hmany : many <= 700 /\ c.list.length <= 2500 := by
    have := hok.cnf
    unfold cnfOk at this
    simp only [K3, decide_eq_true_eq] at this
    omega
  have hfew := hok.few
  have hmk := hok.mks
  have hpl := hmk.len
  have hlen := hok.len
  have hbnd : ∀ cl, cl ∈ c.list ++ s.learned -> ∀ l, l ∈ cl -> l ≠ 0 /\ l.natAbs <= many := λcl hcl l hl => satOk.bnd hok hcm hcl hl
  refine yn λb2 w1 hb2 he1 hz1 hB1 => ?_
  refine yn λb3 w2 hb3 he2 hz2 hB2 => ?_
  refine qj qS λb4 w3 hb4 he3 hz3 hB3 => ?_
  have A3 : Blk w3 b2 [.int .i64 c.many, lv] zp := (hB1.ext he2).ext he3
  have B3 : Blk w3 b3 [vp, vw, vl, .int .i64 s.code] zm := hB2.ext he3
  have R3 : Blk w3 b4 [.slice none 0 0, .slice none 0 0, .slice none 0 0, .int .i64 0] zm := hB3
  have E3 := he1.trans (he2.trans he3)
  rw [A3.ldAgg zE]
  simp (disch := (simp only [push_cast]; done)) only [push_cast, B3.ld0]
  refine l5Vals_spec (hc'.ext E3) hcm hmany.1 (hp.ext E3).ints hmk λw4 v4 he4 hv4 hn4 => ?_
  have E4 := E3.trans he4
  have A4 := A3.ext he4
  have B4 := B3.ext he4
  simp (disch := (simp only [push_cast]; done)) only [push_cast, A4.ldAgg zE, B4.ld2]
  refine l5Find_spec (hc'.ext E4) (hls.ext E4) hv4.ints hmk hmany.1 (by omega) hbnd λw5 k u x he5 hf => ?_
  have E5 := E4.trans he5
  have A5 := A4.ext he5
  have B5 := B4.ext he5
  have R5 := (R3.ext he4).ext he5
  have hv5 := hv4.ext he5
  have l3 := B5.lt
  have l4 := R5.lt
  have hz5 := E5.size
  have hz4 := he4.size
  simp only [push_cast]
  have ones : ∀ {vp' vw' vl' : Value} {cd : Int}, vp'.oneCell' = true -> vw'.oneCell' = true -> vl'.oneCell' = true -> ∀ x, x ∈ [vp', vw', vl', .int .i64 cd] -> x.oneCell' = true := λh1 h2 h3 x hx => by
    simp only [X0, gm, or_false] at hx
    rcases hx with rfl | rfl | rfl | rfl
    · exact h1
    · exact h2
    · exact h3
    · rfl
  have hgo : goM many c s = (if 0 <= k then k7 many c s (atM c s k.toNat) else if 0 <= u then { s with put := s.put ++ [x], why := s.why ++ [u] }
    else if s.put.length = many then { s with code := 1 } else { s with put := s.put ++ [-(Zo many s.put : Int)], why := s.why ++ [-1] }) := by
    unfold goM; rw [hf]
  have push : ∀ (w6 : World) (l y : Int), Ext w w6 -> Blk w6 b3 [vp, vw, vl, .int .i64 s.code] zm -> Blk w6 b4 [.slice none 0 0, .slice none 0 0, .slice none 0 0, .int .i64 0] zm -> w5.heap.size <= w6.heap.size -> goM many c s = { s with put := s.put ++ [l], why := s.why ++ [y] } ->
      vbuildS ze 1 [(0, .int .i64 l)] w6 λt39 w_28 => vbi .append [ze, ze] ze [vp, t39] w_28 λt40 w_29 => zR ze (.pointer (some ⟨b3, 0, none⟩)) t40 w_29 λ_ w_31 => zu ze (.pointer (some ⟨b3, 1, none⟩)) w_31 λt43 w_33 =>
      vbuildS ze 1 [(0, .int .i64 y)] w_33 λt45 w_34 => vbi .append [ze, ze] ze [t43, t45] w_34 λt46 w_35 => zR ze (.pointer (some ⟨b3, 1, none⟩)) t46 w_35 λ_ w_37 => zu zm (.pointer (some ⟨b3, 0, none⟩)) w_37 λt48 w_38 =>
      zR zm (.pointer (some ⟨b4, 0, none⟩)) t48 w_38 λ_ w_39 => vlv zm (.pointer (some ⟨b4, 0, none⟩)) w_39 λr4_1 w_40 => K r4_1 w_40 := by
    intro w6 l y E6 B6 R6 hz6 hgo'
    have hzE := E6.size
    refine zD xr yR xF rfl rfl λb7 w7 hb7 he7 hz7 hB7 => ?_
    have E7 := E6.trans he7
    refine (hp.ext E7).app1 xB hB7 (by omega) (by omega) λvp' w8 hp8 hs8 hn8 => ?_
    have nb : ∀ x, vp.ownBlock = some x -> x < w.heap.size := λx hx => hp.lt hx
    have nw : ∀ x, vw.ownBlock = some x -> x < w.heap.size := λx hx => hw.lt hx
    have B8 := (B6.ext he7).same hs8 λe => by have := nb _ e; omega
    refine B8.st hp8.ints.cells1 hp8.ints.one j9 rfl λw9 hs9 hz9 hB9 => ?_
    have B9 : Blk w9 b3 [vp', vw, vl, .int .i64 s.code] zm := hB9
    have hp9 := hp8.same hs9 λx hx e => by rcases hn8 x hx with e' | e'; (have := nb _ e'; omega); omega
    have hw9 := ((hw.ext E7).same hs8 λx hx e => (hd1 x e).2 hx).same hs9 λx hx e => by have := nw _ hx; omega
    simp (disch := (simp only [push_cast]; done)) only [push_cast, B9.ld1]
    have hz8 := hs8.size
    refine zD xr yR xF rfl rfl λb10 w10 hb10 he10 hz10 hB10 => ?_
    refine (hw9.ext he10).app1 xB hB10 (by omega) (by omega) λvw' w11 hw11 hs11 hn11 => ?_
    have B11 := (B9.ext he10).same hs11 λe => by have := nw _ e; omega
    have hp11 := (hp9.ext he10).same hs11 λx hx e => by
      rcases hn8 x hx with e' | e'
      · exact (hd1 x e').2 e
      · have := nw _ e; omega
    refine B11.st hw11.ints.cells1 hw11.ints.one j9 rfl λw12 hs12 hz12 hB12 => ?_
    have B12 : Blk w12 b3 [vp', vw', vl, .int .i64 s.code] zm := hB12
    have hS : Same (λx => vp.ownBlock = some x \/ vw.ownBlock = some x \/ x = b3) w7 w12 := (hs8.mono λx _ e => .inl e).trans ((hs9.mono λx _ e => .inr (.inr e)).trans ((Same.of_ext he10).trans ((hs11.mono λx _ e => .inr (.inl e)).trans (hs12.mono λx _ e => .inr (.inr e)))))
    have R12 := (R6.ext he7).same hS (by rintro (e | e | e); exact absurd (nb _ e) (by omega); exact absurd (nw _ e) (by omega); omega)
    have hp12 := hp11.same hs12 λx hx e => by rcases hn8 x hx with e' | e'; (have := nb _ e'; omega); omega
    have hz11 := hs11.size
    have hw12 := hw11.same hs12 λx hx e => by rcases hn11 x hx with e' | e'; (have := nw _ e'; omega); omega
    rw [B12.ldAgg zQ]
    refine R12.stAgg (cs' := [vp', vw', vl, .int .i64 s.code]) rfl zQ (ones hp12.ints.one hw12.ints.one (Qw hls)) λw13 hs13 hz13 hB13 => ?_
    rw [hB13.lv zQ]
    have hS13 : Same (λx => vp.ownBlock = some x \/ vw.ownBlock = some x \/ x = b3 \/ x = b4) w7 w13 := (hS.mono λx _ e => e.imp id λe => e.imp id .inl).trans (hs13.mono λx _ e => .inr (.inr (.inr e)))
    have hSw : Same (λb => vp.ownBlock = some b \/ vw.ownBlock = some b) w w13 := by
      refine ⟨hS13.os.trans E7.os, hS13.tape.trans E7.tape, hS13.output.trans E7.output, gH E7.size hS13.size, λb hb hn => ?_⟩
      rw [hS13.block b (by have := E7.size; omega) (by rintro (e | e | e | e); exact hn (.inl e); exact hn (.inr e); omega; omega), E7.block b hb id]
    have hz12' := hS.size
    refine hK w13 _ (hSw.mono λb _ e => e.elim (λe => (hd1 b e).1) (hd2 b)) ?_
    rw [hgo']
    refine ⟨vp', vw', vl, rfl, hp12.same hs13 λx hx e => by rcases hn8 x hx with e' | e'; (have := nb _ e'; omega); omega, hw12.same hs13 λx hx e => by rcases hn11 x hx with e' | e'; (have := nw _ e'; omega); omega, λx hx => ?_, λx hx => ?_, ?_⟩
    · rcases hn8 x hx with e | e
      · refine ⟨.inl (hd1 x e).1, λe2 => ?_⟩
        rcases hn11 x e2 with e3 | e3
        · exact (hd1 x e).2 e3
        · have := nb _ e; omega
      · refine ⟨.inr (by omega), λe2 => ?_⟩
        rcases hn11 x e2 with e3 | e3
        · have := nw _ e3; omega
        · have := hp8.lt hx; omega
    · rcases hn11 x hx with e | e
      · exact .inl (hd2 x e)
      · exact .inr (by omega)
    · refine (((hls.weaken (F' := λb => (Z b /\ vp.ownBlock ≠ some b /\ vw.ownBlock ≠ some b) /\ b < w.heap.size) λb h1 h2 => ⟨h1, h2⟩).same hSw λb hb _ e => e.elim hb.1.2.1 hb.1.2.2).weaken λx hx _ => ⟨.inl hx.1.1, λe => ?_, λe => ?_⟩)
      · rcases hn8 x e with e' | e'
        · exact hx.1.2.1 e'
        · have := hx.2; omega
      · rcases hn11 x e with e' | e'
        · exact hx.1.2.2 e'
        · have := hx.2; omega
  rcases find_cases s.put (c.list ++ s.learned) with ⟨i, u', x', hi, e, hcc⟩ | ⟨hn, ⟨i, x', hi, e, hu, -⟩ | ⟨e, -⟩⟩
  · rw [hf, Gb, Gb] at e
    obtain ⟨rfl, rfl, rfl⟩ := e
    rw [y3] at hi
    rw [if_pos (by omega), gi] at hgo
    refine zb (λ_ => ?_) (λb => absurd (by omega) b)
    refine zd λw6 he6 _ => ?_
    have E6 := E5.trans he6
    have A6 := A5.ext he6
    have B6 := B5.ext he6
    simp (disch := (simp only [push_cast]; done)) only [push_cast, A6.ldAgg zE, B6.ldAgg zQ, true_and]
    refine l5At_spec (hc'.ext E6) (hs'.ext E6) hi (by omega) λw7 v7 he7 hv7 => ?_
    have E7 := E6.trans he7
    have A7 := A6.ext he7
    have B7 := B6.ext he7
    simp (disch := (simp only [push_cast]; done)) only [push_cast, A7.ldAgg zE, B7.ldAgg zQ, true_and, and_self]
    refine l5Clash_spec (hc'.ext E7) (hs0.below.ext E7) hv7 hok hcm hi hcc λw8 v8 he8 hv8 => ?_
    have R8 := ((R5.ext he6).ext he7).ext he8
    have E8 := E7.trans he8
    rw [<- hgo] at hv8
    obtain ⟨p8, y8, l8, rfl, h8⟩ := hv8.sat.fields
    refine R8.stAgg (cs' := [p8, y8, l8, .int .i64 (goM many c s).code]) rfl zQ h8 λw9 hs9 hz9 hB9 => ?_
    rw [hB9.lv zQ]
    refine hK w9 _ (Same.of_ext (Ext.then E8 hs9 λx hx => by omega)) ((hv8.same hs9 λb hb _ e => ?_).weaken λb hb _ => ?_)
    · have := E7.size; have := R5.lt; have := he6.size; have := he7.size
      rcases hb with hb | hb
      · have := hb.2; omega
      · omega
    · rcases hb with hb | hb
      · exact .inl hb.1
      · exact .inr (by have := E7.size; omega)
  · rw [hf, Gb, Gb] at e
    obtain ⟨rfl, rfl, rfl⟩ := e
    rw [if_neg (by omega), if_pos (by omega)] at hgo
    refine zb (λb => absurd b (by omega)) (λ_ => zb (λ_ => ?_) (λb => absurd (by omega) b))
    simp (disch := (simp only [push_cast]; done)) only [push_cast, B5.ld0]
    exact push w5 _ _ E5 B5 R5 (gp _) hgo
  · rw [hf, Gb, Gb] at e
    obtain ⟨rfl, rfl, rfl⟩ := e
    rw [if_neg (by omega), if_neg (by omega)] at hgo
    refine zb (λb => absurd b (by omega)) (λ_ => zb (λb => absurd b (by omega)) (λ_ => ?_))
    have hpi := (hp.ext E5).ints
    simp (disch := (simp only [push_cast]; done)) only [push_cast, B5.ld0, A5.ld0, hpi.len]
    refine zb (λb => ?_) (λb => ?_)
    · rw [if_pos (by omega)] at hgo
      refine B5.st rfl rfl yR rfl λw6 hs6 hz6 hB6 => ?_
      have B6 : Blk w6 b3 [vp, vw, vl, .int .i64 1] zm := hB6
      rw [B6.ldAgg zQ]
      refine (R5.same hs6 (by omega)).stAgg (cs' := [vp, vw, vl, .int .i64 1]) rfl zQ (ones hp.ints.one hw.ints.one (Qw hls)) λw7 hs7 hz7 hB7 => ?_
      rw [hB7.lv zQ]
      have hE7 : Ext w w7 := Ext.then E5 ((hs6.mono λx _ e => (.inl e : x = b3 \/ x = b4)).trans (hs7.mono λx _ e => .inr e)) λx hx => by omega
      refine hK w7 _ (Same.of_ext hE7) ?_
      rw [hgo]
      exact ⟨vp, vw, vl, rfl, hp.ext hE7, hw.ext hE7, λb hb => ⟨.inl (hd1 b hb).1, (hd1 b hb).2⟩, λb hb => .inl (hd2 b hb), (hls.ext hE7).weaken λb hb _ => ⟨.inl hb.1, hb.2⟩⟩
    · rw [if_neg (by omega)] at hgo
      obtain ⟨f1, f2, f3, f4⟩ := free_spec hmk (by omega)
      have hvi := hv5.ints
      have hsl := signs_len many s.put
      refine vloop_up (Zo many s.put - 1) (λi u w' => u = [.int .i64 (i + 1 : Nat)] /\ w' = w5) ⟨rfl, rfl⟩ ?_
      rintro i _ _ w5 C hi ⟨rfl, rfl⟩ hC
      have hsg := sgn_pos hmk (m := ((i + 1 : Nat) : Int)) (by omega)
      rw [pk] at hsg
      simp (disch := first | (simp only [push_cast]; done) | omega) only [sl0, hvi.iaddr, gi, hvi.load]
      rw [signs_get (by omega), hsg]
      have hz0 : Z10 s.put ((i + 1 : Nat) : Int) = 0 ↔ placeOf s.put (i + 1) = 0 := by
        unfold Z10
        rw [pk]
        by_cases hm : ((i + 1 : Nat) : Int) ∈ s.put
        · rw [if_pos hm]
          have := placeOf_ne_zero hm
          rw [pk] at this
          exact ⟨λh => by omega, λh => absurd h this⟩
        · rw [if_neg hm]
          by_cases hp0 : placeOf s.put (i + 1) = 0
          · rw [if_pos hp0]; simp [hp0]
          · rw [if_neg hp0]; simp [hp0]
      simp only [yG0]
      refine zb (λb6 => ?_) (λb6 => ?_)
      · have hlt : i < Zo many s.put - 1 := by
          refine Gy λhge => b6 (hz0.2 ?_)
          have : i + 1 = Zo many s.put := by omega
          rw [this]; exact f3
        simp only [Xo]
        rw [inc64 (by omega)]
        exact hC hlt _ _ ⟨rfl, rfl⟩
      · have hieq : i + 1 = Zo many s.put := by
          refine Gy λhne => f4 (i + 1) (by omega) (by omega) (hz0.1 (by simpa using b6))
        have e1 : IntKind.i64.wrap (0 - ((i + 1 : Nat) : Int)) = -(Zo many s.put : Int) := by rw [zk (by omega) (by omega)]; omega
        simp (disch := (simp only [push_cast]; done)) only [Uu, Ut, yw, gN, B5.ld0, Zn0, e1]
        exact push w5 _ _ E5 B5 R5 (gp _) hgo
theorem l5Run_spec {vc:Value} {n:Nat} (hc:CnfR F w vc c) (Z:cnfOk c=true) (D:c.many=many) (hn:n<=4000)
  (hK:∀w' v',Ext w w'->SpR (λb=>w.heap.size<=b) w' v' (runM many c n emptyS)->K v' w'):vcall zk0 #[vc,nI n] w K:=by
 refine zg {loops:=[(3,[6])]} Tryz.func74 ?_;have Y:=hc.below;obtain⟨lv,rfl,a4⟩:=hc;refine yn λb2 w1 a1 h a5 T=>?_;refine qj qS λb4 w2 a2 E a6 U=>?_;refine Qc xI0 (us:=[]) rfl rfl ?_;refine qj qS λM w3 a3 o a7 V=>?_;have B3:Blk w3 M [.slice none 0 0,.slice none 0 0,.slice none 0 0,nI 0] zm:=V;have A3:Blk w3 b2 [nI c.many,lv] zp:=(T.ext E).ext o;have R3:Blk w3 b4 [.slice none 0 0,.slice none 0 0,.slice none 0 0,nI 0] zm:=U.ext o;refine B3.stAgg (cs':=[.slice none 0 0,.slice none 0 0,.slice none 0 0,nI 0]) rfl zQ (λx z=>by simp only[X0,gm,or_false] at z;rcases z with rfl|rfl|rfl|rfl<;>rfl) λH q a8 B=>?_;have E4:Ext w H:=Ext.then (h.trans (E.trans o)) q λx z=>by have:=h.size;omega
 have A4:=A3.same q oM;have R:=R3.same q oM;have aa:=E4.size;have fin:∀(f:World) (p y l:Value),Ext w f->H.heap.size<=f.heap.size->Blk f b4 [.slice none 0 0,.slice none 0 0,.slice none 0 0,nI 0] zm->Blk f M [p,y,l,nI (runM many c n emptyS).code] zm->SpR (λb=>H.heap.size<=b) f (.agg #[p,y,l,nI (runM many c n emptyS).code]) (runM many c n emptyS)->
   zu zm (oP M 0) f λt21 I=>zR zm (oP b4 0) t21 I λ_ J=>vlv zm (oP b4 0) J λr4 L=>K r4 L:=by
  intro f p y l v t A k m;rw[k.ldAgg zQ];obtain⟨O,Q,N,e,S⟩:=m.sat.fields;obtain⟨rfl,rfl,rfl⟩:p=O/\y=Q/\l=N:=(by simpa using e);refine A.stAgg (cs':=[p,y,l,nI (runM many c n emptyS).code]) rfl zQ S λw6 d a0 W=>?_;rw[W.lv zQ];exact hK w6 _ (Ext.then v d λx z=>by have:=h.size;omega) ((m.same d λb g _ e=>by have:=R.lt;omega).weaken λb g _=>oM)
 refine vloop_up n (λi u w'=> ∃p y l,u=[nI i]/\Ext w w'/\H.heap.size<=w'.heap.size/\Blk w' b2 [nI c.many,lv] zp/\Blk w' b4 [.slice none 0 0,.slice none 0 0,.slice none 0 0,nI 0] zm/\Blk w' M [p,y,l,nI (runM many c i emptyS).code] zm/\SpR (λb=>H.heap.size<=b) w' (.agg #[p,y,l,nI (runM many c i emptyS).code]) (runM many c i emptyS))
  ⟨_,_,_,rfl,E4,gp _,A4,R,B,SpR.empty⟩ ?_
 rintro i _ _ f C hi ⟨p,y,l,rfl,v,t,A5,A,k,m⟩ hC;simp only[push_cast];refine zb (λa=>?_) (λa=>?_)
 ·simp only[push_cast,k.ld3];refine zb (λb=>?_) (λb=>?_)
  ·rw[A5.ldAgg zE,k.ldAgg zQ];have G:=run_ok (n:=i) D (empty_ok (many:=many) Z);refine l5Do_spec (Y.ext v) m G D λw6 v6 d s=>?_;have r:goM many c (runM many c i emptyS)=runM many c (i+1) emptyS:=by rw[run_succ];unfold stepM;rw[if_pos b]
   rw[r] at s;have l2:=A4.lt;have l4:=R.lt;have l5:=B.lt;have a0:=d.size;have A6:=A5.same d oM;have R6:=A.same d oM;have B6:=k.same d oM;obtain⟨O,Q,N,rfl,S⟩:=s.sat.fields;refine B6.stAgg (cs':=[O,Q,N,nI (runM many c (i+1) emptyS).code]) rfl zQ S λw7 j a9 X=>?_;rw[inc64 oM];have E6:Ext w w6:=Ext.then v d λx z=>oM;refine hC oM _ _ ⟨O,Q,N,rfl,Ext.then E6 j λx z=>by have:=h.size;omega,oM,A6.same j oM,R6.same j oM,X,(s.same j λb g _ e=>?_).weaken λb g _=>?_⟩
   ·rcases g with g|g<;>omega
   ·rcases g with g|g<;>omega
  ·have e:runM many c n emptyS=runM many c i emptyS:=by
    rw[show n=i+(n-i) from by omega,run_add,run_stop b]
   rw[<-e] at k m;exact fin f p y l v t A k m
 ·have:n=i:=oM;subst this;exact fin f p y l v t A k m
end
end Go.Proofs.YtolbhkcajhlllaaGreatDoor
namespace Go.Proofs.YtolbhkcajhlllaaGreatDoor
open Go Go.Vc Go.Proofs
section
variable {w:World} {K:oK} {F F' D G:Nat->Prop} {dv tv iv lv:Value} {ds:List M.Dcl} {ts:List M.Tm} {ins:List Bool} {c:M.Cnf}
theorem l9Folds_spec (E:DclsR F w dv ds) (J:TmsR G w tv ts) (s:M.declOk ds=true) (m:∀t,t∈ts->M.sortM ds t≠ -1) (hs:ts.length<=2000000)
  (B:∀w' lv,Ext w w'->TmsR (λ_=>True) w' lv (ts.map (M.foldT ds))->K lv w'):vcall KJ #[dv,tv] w K:=by
 refine zg {loops:=[(3,[5,6])]} Tryz.func46 ?_;refine vbuildS_row (xs:=[]) (us:=[]) (k:=5) qw qU zr rfl (by simp) dC λb1 w1 D p L o=>?_;have z:LstH (λ_=>False) w1 (.slice (some ⟨b1,0,none⟩) 0 0) []:=⟨[],Blk.ownk (css:=[]) (by rw[jH];exact o) (by simp) rfl dC,rfl,λi hi=>absurd hi (Nat.not_lt_zero _)⟩;refine vloop_up ts.length (λi u w'=> ∃lv H,u=[lv,nI i]/\Ext w w'/\LstH H w' lv ((ts.take i).map (M.foldT ds))/\∀x,lv.ownBlock=some x->w.heap.size<=x/\¬H x)
  ⟨_,_,rfl,p,z,λx c=>⟨by have e:b1=x:=y2 c;omega,id⟩⟩ ?_
 rintro i _ _ w2 C hi ⟨lv,H,rfl,d,g,hO⟩ A;have l:=(J.weaken (F':=λx=>G x/\x<w.heap.size) λx a b=>⟨a,b⟩).ext d;simp only[push_cast,l.len];refine zb (λa=>?_) (λa=>?_)
 ·have f:i<ts.length:=oM;simp(disch:=first|(simp only[push_cast])|omega) only[push_cast,l.iaddr];refine l.load zc f λx c=>?_;refine l3Fold_spec _ (E.ext d) s c (m _ (M.getD_mem f _)) λN rv j I=>?_;have z2:=d.size;have z3:=j.size;have llt:∀x,lv.ownBlock=some x->x<w2.heap.size:=λx c=>g.lt c;refine LstH.push (g.ext j) (λx c=>⟨(hO x c).2,λe=>?_⟩) I (by rw[y1,V0];omega) λO y v r n=>?_
  ·have:=llt x c;have:=(hO x c).1;rcases e with e|e<;>omega
  try simp only[push_cast]
  rw[inc64' oM];rw[show(ts.take i).map (M.foldT ds)++[M.foldT ds (ts.getD i default)]=(ts.take (i+1)).map (M.foldT ds) by rw[<-Jx f,gr];rfl] at n;refine A f _ _ ⟨y,_,rfl,Ext.then (d.trans j) v λx c=>(hO x c).1,n,λx c=>?_⟩;rcases r x c with e|e
  ·refine⟨(hO x e).1,λh=>?_⟩;have:=llt x e;have:=(hO x e).1;rcases h.1 with h|h
   ·exact(hO x e).2 h
   ·rcases h with h|h<;>omega
  ·exact⟨oM,λh=>by have:=h.2;omega⟩
 ·have q:i=ts.length:=oM;subst q;rw[gq] at g;exact B w2 lv d (g.tms.weaken λ_ _ _=>trivial)
theorem spec_BlastEnv_spec (T:KB ds) (H:DclsR F w dv ds) (hi:Bools F' w iv ins) (d:M.declOk ds=true) (hl:ins.length=M.nIn ds)
  (Y:∀w' r,Ext w w'->OwnI ze w' r (M.envB ds ins)->(∀b,r.ownBlock=some b->w.heap.size<=b)->K r w'):vcall JU #[dv,iv] w K:=by
 refine zg {loops:=[(6,[5,6,7]),(10,[6,8,9])],cuts:=[(12292,[])]} Tryz.func76 ?_;obtain⟨a2,a3⟩:=M.nIn_eq d;refine spec_nil λv1 w1 R g A=>?_;refine zq (λu w'=>u=[]/\Ext w1 w') (λC E=>?_) ?_
 ·refine spec_DeclOk_spec (H.ext g) T λw2 f=>?_;rw[d];simp only[push_cast,Gc,((hi.ext g).ext f).len];refine sbits8_spec (k:=ds.length) d (gp _) (by rw[gq];exact(H.ext g).ext f) λW J=>?_;rw[M.bitT_all];simp only[push_cast];refine zb (λh=>absurd oM h) (λ_=>E _ _ ⟨rfl,f.trans J⟩)
 rintro _ _ w2 ⟨rfl,f⟩;have h4:=(M.decl_iff.1 d).1;have I:=M.dpos d;have L:=M.envB_len ds ins;refine vloop_up ds.length (λi u w'=> ∃r,u=[r,nI (J3 ds i),nI i]/\Ext w w'/\OwnI ze w' r ((M.envB ds ins).take i)/\∀b,r.ownBlock=some b->w.heap.size<=b) ⟨v1,rfl,g.trans f,R.ext f,A⟩ ?_;rintro i _ _ W C a0 ⟨r,rfl,s,p,o⟩ E;have n:=H.ext s;have y:=hi.ext s;simp only[push_cast,n.len];refine zb (λa=>?_) (λa=>?_)
 ·have l:i<ds.length:=oM;have U:=M.dcl_wide d l;have q:=off_succ d l;have X:=off_le d (i:=i+1) oM;have het:=envB_take (ins:=ins) I l;obtain⟨wd,m⟩:∃wd:Nat,(ds.getD i (M.nada,0)).2=wd:=⟨_,(Int.toNat_of_nonneg oM).symm⟩;rw[m] at U q het;rw[gi] at q het;generalize v:(ins.drop (J3 ds i)).take wd=bs at het;have t:bs.length=wd:=by rw[<-v,V0,GK,hl];omega
  refine vloop_up wd (λj u w'=>u=[nI (J3 ds i+j:Nat),nI (M.msbN (bs.take j)),nI j]/\w'=W) ⟨rfl,rfl⟩ ?_;rintro j _ _ _ C1 hj ⟨rfl,rfl⟩ G;have a1:=M.msb_lt (bs.take j);have a4:2^(bs.take j).length<=2^4:=gY oM (by rw[V0];omega);simp(disch:=first|(simp only[push_cast])|omega) only[push_cast,n.iaddr,gi,n.load1,m];refine zb (λc=>?_) (λc=>?_)
  ·have z:j<wd:=oM;have hg:ins.getD (J3 ds i+j) false=bs.getD j false:=by
    rw[<-v,M.take_getD z,y0,y0,pO]
   simp(disch:=first|(simp only[push_cast])|omega) only[push_cast,y.iaddr,gi,y.load,zk];refine Xb ?_;have Z:0<=M.b2i (bs.getD j false)/\M.b2i (bs.getD j false)<=1:=by unfold M.b2i;split<;>omega
   have D:=msb_snoc (bs.take j) (bs.getD j false);rw[<-M.take_add (by omega:j<bs.length) false] at D;rw[show((J3 ds i:Int)+(j:Int)).toNat=J3 ds i+j by omega,hg];simp(disch:=first|(simp only[push_cast])|omega) only[push_cast,zk];refine G z _ _ ⟨?_,rfl⟩;rw[D,Int.mul_comm 2];simp[Int.add_assoc]
  ·have O:j=wd:=oM;subst O;rw[<-t,gq,t];refine push_int p (by rw[V0];omega) λw6 r6 S B Q=>?_;rw[<-het,<-M.take_add oM 0] at B;have z3:=s.size;rw[inc64' oM];refine E l _ _ ⟨r6,by rw[q,Int.natCast_add (J3 ds i)],Ext.then s S λx V=>o x V,B,λx V=>?_⟩;rcases Q x V with e|e
   ·exact o x e
   ·omega
 ·have N:i=ds.length:=oM;subst N;rw[<-L,gq] at p;exact Y W r s p o
theorem Zm0 {put:List Int} {i n:Nat} (h:i<n):decide (M.sgnV put (2+i)=1)=(M.insV (M.wayM put) n).getD i false:=by
 rw[M.insV_get h];unfold M.sgnV M.wayM;rw[Nat.add_comm 2 i];by_cases c:((i+2:Nat):Int)∈put
 ·rw[if_pos c,decide_eq_true c];rfl
 ·rw[if_neg c,decide_eq_false c];split<;>rfl
theorem l9Search_spec (aa:KB ds) (hd:DclsR F w dv ds) (I:M.declOk ds=true) (hc:CnfR G w (.agg #[nI c.many,lv]) c) (f:M.cnfOk c=true) (hn:1+M.nIn ds<=c.many.toNat)
  (hK:∀w' ev,Ext w w'->OwnI ze w' ev (M.searchM 4000 ds c).1->(∀x,ev.ownBlock=some x->w.heap.size<=x)->K (.tuple #[ev,nI (M.searchM 4000 ds c).2]) w'):
  vcall JM #[dv,.agg #[nI c.many,lv]] w K:=by
 refine zg {loops:=[(7,[8,9])]} Tryz.func47 ?_;obtain⟨ah,ai⟩:=M.nIn_eq I;obtain⟨many,hm⟩:∃many:Nat,c.many=many:=⟨c.many.toNat,oM⟩;have a4:c.many.toNat=many:=oM
 have B:many<=700:=by
  have:=f;unfold M.cnfOk at this;simp only[K3,decide_eq_true_eq] at this;omega
 refine yn λb1 w1 ac z al a0=>?_;have A1:Blk w1 b1 [nI c.many,lv] zp:=a0;rw[A1.ldAgg zE];refine l5Run_spec (many:=many) (n:=4000) (hc.ext z) f hm (gp _) λw2 v2 A v=>?_;have z1:=z.size;have z2:=A.size;have T:=(M.run_ok (n:=4000) hm (M.empty_ok (many:=many) f)).mks;refine qj qS λb4 w3 ad a5 am a1=>?_;have d:M.searchM 4000 ds c=if(M.runM many c 4000 M.emptyS).code=1 then(M.envB ds (M.insV (M.wayM (M.runM many c 4000 M.emptyS).put) (M.nIn ds)),1) else if(M.runM many c 4000 M.emptyS).code=2 then([],2) else([],3):=by rw[<-a4];rfl
 generalize M.searchM 4000 ds c=sr at d hK;generalize M.runM many c 4000 M.emptyS=s at v d T;obtain⟨p,y,l,rfl,h8⟩:=v.sat.fields;obtain⟨p',y',l',e',hp,_,aj,_,_⟩:=v;obtain⟨rfl,rfl,rfl⟩:p=p'/\y=y'/\l=l':=by simpa using e'
 have R3:Blk w3 b4 [.slice none 0 0,.slice none 0 0,.slice none 0 0,nI 0] zm:=a1;refine R3.stAgg (cs':=[p,y,l,nI s.code]) rfl zQ h8 λw4 a9 an Q=>?_;have q:Ext w2 w4:=Ext.then a5 a9 λx J=>oM
 have N:=(z.trans A).trans q;have A4:=A1.ext (A.trans q);simp only[push_cast,Q.ld3];refine zb (λa=>?_) (λa=>?_)
 ·rw[if_pos a] at d;subst d;rw[A4.ldAgg zE];simp only[push_cast,Q.ld0];refine l5Vals_spec (hc.ext N) hm B (hp.ext q).ints T λL v5 g ab o=>?_;have Z:=N.trans g;have z5:=Z.size;refine yq qd0 xX0 λb6 w6 ae a6 ao a3=>?_;have a8:OwnB qu w6 (.slice (some ⟨b6,0,none⟩) 0 0) []:=Blk.own1 (t:=qu) (cs:=[]) (by rw[Uy];exact a3) (gM _) rfl rfl oM;refine vloop_up (M.nIn ds) (λi u w'=> ∃r,u=[r,nI i]/\Ext L w'/\OwnB qu w' r ((M.insV (M.wayM s.put) (M.nIn ds)).take i)/\∀b,r.ownBlock=some b->L.heap.size<=b) ⟨_,rfl,a6,a8,λb R=>by have e:b6=b:=y2 R;omega⟩ ?_;rintro i _ _ w7 C hi ⟨r,rfl,e7,E,V⟩ hC;refine sbits8_spec (k:=ds.length) I (gp _) (by rw[gq];exact hd.ext (Z.trans e7)) λw8 m=>?_;rw[M.bitT_all];simp only[push_cast];have O:=e7.trans m;have hlen:=M.insV_len (M.wayM s.put) (M.nIn ds);refine zb (λa=>?_) (λa=>?_)
  ·have S:i<M.nIn ds:=oM;have Y:=(ab.ext O).ints;have ak:=M.signs_len many s.put;simp(disch:=first|(simp only[push_cast])|omega) only[push_cast,zk,Y.iaddr,Y.load];rw[show((2:Int)+(i:Int)).toNat=2+i by omega,M.signs_get oM,Zm0 S];refine one_bool λw9 b9 af j H=>?_;refine OwnV.app (us:=[.bool ((M.insV (M.wayM s.put) (M.nIn ds)).getD i false)]) ((E.ext m).ext j) qI0 H.bools (by simp[Value.oneCell']) (by simp only[y1,gO,V0];omega) (by simp only[y1,gO,V0];omega) λv10 w10 W X U=>?_;have z8:=m.size;have z9:=j.size;have z7:=e7.size;refine hC S _ _ ⟨v10,rfl,Ext.then (O.trans j) X λb R=>V b R,?_,λb R=>?_⟩
   ·rw[M.take_add oM false];unfold OwnB;rw[gr];exact W
   ·rcases U b R with h|h
    ·exact V b h
    ·omega
  ·have ag:i=M.nIn ds:=oM;rw[gy oM] at E;refine spec_BlastEnv_spec aa (hd.ext (Z.trans O)) (E.ext m).bools I hlen λw9 r9 j H a7=>?_;have z8:=O.size;exact hK w9 r9 (Z.trans (O.trans j)) H λx J=>by have:=a7 x J;omega
 ·rw[if_neg a] at d;have z4:=N.size;refine zb (λa2=>?_) (λa2=>?_)
  ·rw[if_pos a2] at d;subst d;exact spec_nil λv5 L D g o=>hK L v5 (N.trans g) D λx J=>by have:=o x J;omega
  ·rw[if_neg a2] at d;subst d;exact spec_nil λv5 L D g o=>hK L v5 (N.trans g) D λx J=>by have:=o x J;omega
theorem l9Solve_spec (u:KB ds) (c:W1 ds ts=true) (j:DclsR F w dv ds) (v:TmsR G w tv ts)
  (f:∀w' ev,Ext w w'->OwnI ze w' ev (qD ds ts []).1->(∀x,ev.ownBlock=some x->w.heap.size<=x)->K (.tuple #[ev,nI (qD ds ts []).2]) w'):vcall KI #[dv,tv] w K:=by
 refine zg {} Tryz.func30 ?_;obtain⟨L,a2,a3⟩:=all8_iff.1 c;refine l9Folds_spec j v a2 (λt v=>by rw[(JB (a3 t v)).1];decide) oM λw1 lv a o=>?_;refine l8Cnf_spec (Q3 c) (j.ext a) o λw2 cv ls k g=>?_;have B:=a.trans k;simp only[push_cast];refine cnf_new g λN b4 D l d i=>?_;have b:=B.trans l;have z4:=b.size;refine zo (λh=>?_) (λh=>?_)
 ·have E:=Jz (nots:=[]) c (by simpa using h);refine spec_nil λv5 I r m p=>?_;have:=f I v5 (b.trans m);rw[E] at this;exact this r λx y=>by have:=p x y;omega
 ·have C:(cnfE ds (ts.map (M.foldT ds))).2=0:=(by simpa using h);obtain⟨z,A,H⟩:=solveR_run (nots:=[]) c C (λe he=>by cases he) (by simp);rw[yV0] at z A;rw[d.ldAgg zE];refine l9Search_spec u (j.ext b) a2 i.cnf A H λJ ev n s q=>?_;simp only[push_cast];rw[z] at f;exact f J ev (b.trans n) s λx y=>by have:=q x y;omega
theorem spec_Solve_spec (b:KB ds) (l:DclsR F w dv ds) (m:TmsR G w tv ts)
  (k:∀w' ev,Ext w w'->OwnI ze w' ev (qD ds ts []).1->(∀x,ev.ownBlock=some x->w.heap.size<=x)->K (.tuple #[ev,nI (qD ds ts []).2]) w'):vcall zz0 #[dv,tv] w K:=by
 refine zg {} Tryz.func8 ?_;refine l8All_spec b l m λw1 a=>?_;simp only[push_cast];have q:=a.size;refine zo (λh=>?_) (λh=>?_)
 ·have n:=Qg (ds:=ds) (ts:=ts) (nots:=[]) (by simpa using h);refine spec_nil λv5 o g c e=>?_;have:=k o v5 (a.trans c);rw[n] at this;exact this g λx j=>by have:=e x j;omega
 ·refine l9Solve_spec b (by simpa using h) (l.ext a) (m.ext a) λp ev d i f=>?_;simp only[push_cast];exact k p ev (a.trans d) i λx j=>by have:=f x j;omega
theorem W2 {at_ an am ar ab:Addr} (e:DclsR F w dv ds) (f:TmsR G w tv ts) (hs:ts.length<=2000000) (er:Er w at_ an am ar ab)
  (d:∀w' ev,Ext w w'->OwnI ze w' ev (qD ds ts []).1->(∀x,ev.ownBlock=some x->w.heap.size<=x)->K (.tuple #[ev,nI (qD ds ts []).2]) w'):vcall zF0 #[dv,tv] w K:=by
 refine zg {} Tryz.func11 ?_;refine solved_spec e f hs er λg ev a c b=>?_;simp only[push_cast];exact d g ev a c b
end
end Go.Proofs.YtolbhkcajhlllaaGreatDoor
section
namespace Go.Proofs.YtolbhkcajhlllaaGreatDoor
open Go Go.Vc Go.Proofs
open Go.ChangeShapes Go.WideShapes Go.ChangeAt Go.RowKit
theorem Zy0:ownKnob P.godebug=none:=rK
theorem Z3:laidOutB P=true:=rK
def restFacts (P:Program) (f:FuncId) (fn:Func) (s:ChangeSpec) (c:OpenClaim):Bool:=
 c.wf (OpenSpec.ofChange s)&&
 fn.params.all (P.readableRec ·)&&namedTie P c.named s.vars&&
 (c.stops==[])&&(P.stops==[])&&(c.knobs==[])&&(P.stopKnobs==[])&&
 (c.maps==(fn.params.toList++s.plain.varTypes P).any (P.mapsRec ·))&&(c.ifaces==(fn.params.toList++s.plain.varTypes P).any (P.ifacesRec ·))&&(c.mapsOut==P.mapsAmong fn.resultTypes.toList)&&
 (c.loops==(fn.params.toList++s.plain.varTypes P).any (P.loopsFrom ·))&&(c.wideKeys==(fn.params.toList++s.plain.varTypes P++fn.resultTypes.toList).any (P.wideKeysFrom ·))&&
 s.vars.all (P.varReadable ·)&&fn.resultTypes.all (λt=>P.readableRec t&&decide (t<P.types.size))&&(c.ifacesOut==fn.resultTypes.toList.any (P.ifacesRec ·))&&(c.loopsOut==fn.resultTypes.toList.any (P.loopsFrom ·))&&(c.plainKeys==P.plainKeys)&&c.shortTexts.isNone&&P.stopsHeard&&P.mayEnter&&(c.lifted==P.liftsFinal)&&(P.make==some c.make)&&(c.kinds==(if c.domain.isEmpty then[] else fn.params.toList.map λt=>match P.underlying t with|some (.int k)=>some k|_=>none))&&(c.pinned==c.pinnedBy)&&
 (c.veiled==(fn.params.toList++s.plain.varTypes P++fn.resultTypes.toList).any (P.veiledRec ·))&&c.veiledFits P fn.params.toList (fn.params.toList++s.plain.varTypes P++fn.resultTypes.toList)
theorem qK0 {P:Program} {f:FuncId} {fn:Func} {s:ChangeSpec} {c:OpenClaim} (b:laidOutB P=true) (d:mapsRowed P=true) (e:(c.inPlace==P.inPlace f)=true) (g:(c.unfollowed==P.unfollowed f)=true)
  (h:(c.recurses==P.recurses f)=true) (i:(c.named==P.varsNamed f)=true) (a:restFacts P f fn s c=true):joinedFacts P f fn s c=true:=by
 unfold restFacts at a;unfold joinedFacts;rw[b,d,e,g,h,i];simp only[Pc];exact a
theorem kc0:mapsRowed P=true:=rK
theorem j30 {w w':World} (h:Ext w w'):Below w.heap.size w w':=⟨h.os,h.tape,h.output,h.size,λk a=>h.block k a id⟩
end Go.Proofs.YtolbhkcajhlllaaGreatDoor
end
section
namespace Go.Proofs.YtolbhkcajhlllaaGreatDoor
open Go Go.Vc Go.Proofs
open Go.ChangeShapes Go.WideShapes Go.ChangeAt Go.RowKit
variable {w:World} {K:oK} {F D G:Nat->Prop}
theorem list2 {α:Type} {l:List α} (h:l.length=2):∃a b,l=[a,b]:=by
 match l,h with
 |[a,b],_=>exact⟨a,b,rfl⟩
theorem list5 {α:Type} {l:List α} (h:l.length=5):∃a b c d e,l=[a,b,c,d,e]:=by
 match l,h with
 |[a,b,c,d,e],_=>exact⟨a,b,c,d,e,rfl⟩
theorem sl_of {w:World} {x:Addr} {k len cap:Nat} {css:List (List Value)} (n:0<k) (o:len<=cap) (hm:cap<=maxLen) (p:css.length=len) (hw:∀c,c∈css->c.length=k)
  (a:∀i,i<len->∀j,j<k->w.cell? (x.add (i*k+j))=(css.getD i [])[j]?):Sl (λ_=>True) w k (.slice (some x) len cap) css:=by
 subst p;refine⟨⟨some x,cap,rfl,o,by unfold maxLen at hm;exact hm,λf=>?_⟩,hw⟩;have hlen:0<css.length:=Gu.2 f;obtain⟨b,off,spot⟩:=x;have q:(css.getD 0 []).length=k:=hw _ (M.getD_mem hlen _);have d:=a 0 hlen 0 n;rw[y4 (by omega:0<(css.getD 0 []).length)] at d;have e:spot=none:=by simpa[Addr.add] using World.cell?_spot d
 subst e;rw[yw] at d;refine⟨b,off,rfl,trivial,World.block_lt_of_cell? w _ d,λi hi j v l=>?_⟩;have g:(css.getD i []).length=k:=hw _ (M.getD_mem hi _);have m:j<k:=by rw[<-g];exact(Ga.1 l).1
 have h:=a i hi j m;rw[yw] at h;rw[yw,<-l,<-h,Pa]
section
variable {H:Type} {enc:TypeId×Value->H} {W:World} {cs:List Value} {x:DataW H×List MemPlace} {held:Bool} {fuel:Nat}
theorem Zt:P.underlying yp=some .string:=rK
theorem Yk0:P.underlying xK=some (.struct #[⟨"Name",yp,0,false,"","",0⟩,⟨"Wide",zC,1,false,"","",16⟩]):=rK
theorem Yj0:P.underlying yH=some (.struct #[⟨"Op",zC,0,false,"","",0⟩,⟨"A",zC,1,false,"","",8⟩,⟨"B",zC,2,false,"","",16⟩,⟨"Name",yp,3,false,"","",24⟩,⟨"Kids",x7,4,false,"","",40⟩]):=rK
theorem Zh0:P.cellsOf zC=1:=rK
theorem zY0:P.cellsOf yp=1:=rK
theorem c1_Ls:P.cellsOf x7=1:=rK
theorem jd0:P.cellsOf xK=2:=rK
theorem yz0:P.cellsOf yH=5:=rK
def Qe:M.Tm->Bool:=M.Tm.fold λt xs=>decide (t.s.size<=9223372036854775807)&&xs.all id
theorem k70 (t:M.Tm):Qe t=(decide (t.s.size<=9223372036854775807)&&(t.ks.map Qe).all id):=M.Tm.fold_eq _ t
theorem Yi0 {t:M.Tm}:Qe t=true↔t.s.size<=9223372036854775807/\∀k,k∈t.ks->Qe k=true:=by
 rw[k70,K3,decide_eq_true_eq,gW];refine and_congr_right λ_=>⟨λh k a=>h _ (gS a),λh y b=>?_⟩;obtain⟨k,a,rfl⟩:=gn.1 b;exact h k a
theorem ZM0 (h:DataW.trod enc P W 0 (λ_=>true) held fuel xK cs=some x):∃d:M.Dcl,cs=[.string d.1,nI d.2]/\d.1.size<=9223372036854775807:=by
 obtain⟨xs,n,_,_,g,hlen,f⟩:=DataW.trod_struct Yk0 h;rw[jd0] at g;obtain⟨c0,c1,rfl⟩:=list2 g;obtain⟨i,j,rfl⟩:=list2 (α:=DataW H×List MemPlace) hlen
 ·have c:=f 0 ⟨"Name",yp,0,false,"","",0⟩ rfl;have e:=f 1 ⟨"Wide",zC,1,false,"","",16⟩ rfl;simp only[Zh0,zY0,PL,Pm,pC,List.drop_succ_cons,pQ,pR] at c e;obtain⟨s,a,_,hs⟩:=DataW.trod_string Zt c;obtain⟨n,b,_,_⟩:=DataW.trod_int QZ e;simp only[gI,and_true] at a b;subst a b;exact⟨(s,n),rfl,by simpa[maxLen] using hs⟩
theorem each_in {α:Type} [Inhabited α] {e k:Nat} {R:List Value->α->Prop} {a:Addr} {len cap n:Nat} {elems:List (DataW H×List MemPlace)} (ce:P.cellsOf e=k) (p:0<k) (r:len<=cap) (hm:cap<=maxLen) (t:elems.length=len)
  (f:∀i,i<len->(W.cells? 0 (a.add (i*P.cellsOf e)) (P.cellsOf e)).bind (DataW.trod enc P W 0 (λ_=>true) held n e)=elems[i]?)
  (b:∀cs x,DataW.trod enc P W 0 (λ_=>true) held n e cs=some x->∃y,R cs y):
  ∃(css:List (List Value)) (ys:List α),Sl (λ_=>True) W k (.slice (some a) len cap) css/\css.length=len/\ys.length=len/\∀i,i<len->R (css.getD i []) (ys.getD i default):=by
 have each:∀i,i<len->∃q:List Value×α,W.cells? 0 (a.add (i*k)) k=some q.1/\R q.1 q.2:=λi hi=>by
  have h:=f i hi;rw[y4 oM,ce] at h;obtain⟨cs',l,m⟩:=Option.bind_eq_some_iff.1 h;obtain⟨y,s⟩:=b _ _ m;exact⟨(cs',y),l,s⟩
 obtain⟨q,g⟩:=Go.Deep.choose_lt each;refine⟨(List.range len).map λi=>(q i).1,(List.range len).map λi=>(q i).2,?_,by simp,by simp,λi hi=>?_⟩
 ·refine sl_of p r hm (by simp) (λc d=>?_) λi hi j o=>?_
  ·obtain⟨i,hi,rfl⟩:=gn.1 d;exact(World.cells?_some (g i (gF.1 hi)).1).2.1
  ·have d:=(World.cells?_some (g i hi).1).2.2 j o;rw[Go.Deep.add_add] at d;rw[d];simp[y0,hi]
 ·have:=(g i hi).2;simpa[y0,hi] using this
theorem decls_in (h:DataW.trod enc P W 0 (λ_=>true) held fuel qi cs=some x):∃v ds,cs=[v]/\DclsR (λ_=>True) W v ds/\KB ds:=by
 rcases DataW.trod_slice QS h with⟨rfl,_⟩|⟨a,len,cap,elems,rest,n,_,rfl,_,_,f,hm,g,b,_,_⟩
 ·exact⟨_,[],rfl,⟨⟨none,0,rfl,by simp,by simp,λh=>absurd rfl h⟩,by simp⟩,λi hi=>absurd hi (by simp)⟩
 ·obtain⟨css,ys,hs,k,l,c⟩:=each_in (α:=M.Dcl) (R:=λcs d=>cs=[.string d.1,nI d.2]/\d.1.size<=9223372036854775807) jd0 dC f hm g b λcs x j=>ZM0 j;refine⟨_,ys,rfl,?_,λi hi=>?_⟩
  ·have e:css=ys.map λd=>[Value.string d.1,nI d.2]:=by
    refine gC (by simp;omega) λi g1 g2=>?_;have:=(c i oM).1;rw[y0,y4 g1,y0,y4 oM] at this;simpa using this
   rw[e] at hs;exact hs
  ·have:=(c i oM).2;rw[y0,y4 hi] at this⊢;simpa using this
theorem term_in:∀(fuel:Nat) {cs:List Value} {x:DataW H×List MemPlace},DataW.trod enc P W 0 (λ_=>true) held fuel yH cs=some x->∃t:M.Tm,TmR (λ_=>True) W cs t/\Qe t=true:=by
 intro fuel;induction fuel using Nat.strongRecOn with
 |_ fuel I=>
 intro cs x h;obtain⟨xs,n,D,_,e,hlen,c⟩:=DataW.trod_struct Yj0 h;rw[yz0] at e;obtain⟨c0,c1,c2,c3,J,rfl⟩:=list5 e;clear e;obtain⟨K,L,N,O,Q,rfl⟩:=list5 (α:=DataW H×List MemPlace) hlen
 ·have y:=c 0 ⟨"Op",zC,0,false,"","",0⟩ rfl;have z:=c 1 ⟨"A",zC,1,false,"","",8⟩ rfl;have A:=c 2 ⟨"B",zC,2,false,"","",16⟩ rfl;have B:=c 3 ⟨"Name",yp,3,false,"","",24⟩ rfl;have C:=c 4 ⟨"Kids",x7,4,false,"","",40⟩ rfl;simp only[Zh0,zY0,c1_Ls,PL,Pm,pC,List.drop_succ_cons,pQ,pR] at y z A B C;obtain⟨o,r,_,_⟩:=DataW.trod_int QZ y;obtain⟨p,u,_,_⟩:=DataW.trod_int QZ z;obtain⟨q,v,_,_⟩:=DataW.trod_int QZ A;obtain⟨s,w,_,hs⟩:=DataW.trod_string Zt B;simp only[gI,and_true] at r u v w;subst r u v w;have f:s.size<=9223372036854775807:=(by simpa[maxLen] using hs);rcases DataW.trod_slice Zu C with⟨b,_⟩|⟨a,len,cap,elems,rest,m,E,b,_,_,e,hm,F,g,_,_⟩
  ·simp only[gI,and_true] at b;subst b;exact⟨.mk o p q s [],zI0 o p q s,Yi0.2 ⟨f,λk j=>by cases j⟩⟩
  ·simp only[gI,and_true] at b;subst b;obtain⟨css,ys,l,g1,g2,g3⟩:=each_in (α:=M.Tm) (R:=λcs t=>TmR (λ_=>True) W cs t/\Qe t=true) yz0 dC e hm F g λcs x G=>I m oM G;refine⟨.mk o p q s ys,TmR.of (t:= .mk o p q s ys) ⟨css,l,by show css.length=ys.length;omega,λi hi=>?_⟩,Yi0.2 ⟨f,λk j=>?_⟩⟩
   ·have d:i<ys.length:=hi;exact(g3 i oM).1
   ·obtain⟨i,hi,rfl⟩:=gj j;have d:i<ys.length:=hi;have:=(g3 i oM).2;rwa[y0,y4 d] at this
end
end Go.Proofs.YtolbhkcajhlllaaGreatDoor
end
end
