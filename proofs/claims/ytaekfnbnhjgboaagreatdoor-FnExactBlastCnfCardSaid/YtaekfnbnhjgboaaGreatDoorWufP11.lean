import Derived.Test.YtaekfnbnhjgboaaGreatDoorWufP10
import Derived.Test.YtaekfnbnhjgboaaGreatDoorWufP7
import Derived.Test.YtaekfnbnhjgboaaGreatDoorWufP5
import Derived.Test.YtaekfnbnhjgboaaGreatDoorWufP4
import Derived.Test.YtaekfnbnhjgboaaGreatDoorWufP6
import Derived.OpenVars
import Derived.MakeChecks
import Derived.Stop.LaidErr
import Derived.Stop.LaidTwo
/- A part of the proof. -/
set_option linter.unusedVariables false
set_option linter.unusedSimpArgs false
set_option linter.unnecessarySimpa false
set_option linter.unusedSectionVars false
section
namespace Go.Proofs.YtaekfnbnhjgboaaGreatDoor
open Go Go.Vc Go.Proofs
variable {w:World} {K:Value→World→Prop} {D F F' G Fr Fx Fy X:Nat→Prop} {n N b:Nat} {gs hs:M.Gs} {v xv yv dv tv lv:Value} {ls ls':List Value} {xss yss:List (List Int)} {xs ys env:List Int} {ds:List M.Dcl} {t:M.Tm} {ts ks:List M.Tm} {ar ab at_:Addr} {k m:Int} {st:Option M.Gs}
theorem lit_row {f:World} {us:List Int} {xs:List Value} {K:Value→World→Prop} (n:xs=us.map (fun x=>Value.int .i64 x)) (h:us.length≤8) (m:RowsR N (fun b=>b<f.heap.size) f ls xss) (k:ls.length=xss.length)
  (i:∀a v,Ext f a→RowsR N (fun b=>b<a.heap.size) a (ls++[v]) (xss++[us])→(∃o l c,v= .slice o l c)→K v a):vbuildS PP zg xs.length (xs.zipIdx.map fun p=>(p.2,p.1)) f K:=by
 refine lit_ints n h fun a b3 j d q e=>?_
 refine i a _ d (RowsR.new (m.weaken fun b r _ _=>by omega) k d e (fun b g=>?_) fun b g=>e.lt g) ⟨_,_,_,rfl⟩
 have:b=b3:=(Option.some.inj g).symm
 omega
theorem lits_fin {d:World} {xs:List Value} (h:xs.length≤8) (m:xs.length=xss.length) (n:∀x,x∈xs→∃o l c,x= .slice o l c) (g:RowsR N (fun b=>b<d.heap.size) d xs xss) (i:∀w' v,Ext d w'→Fresh N w' v xs xss→K v w'):
  vbuildS PP zB xs.length (xs.zipIdx.map fun p=>(p.2,p.1)) d K:=by
 refine lit_lists n h fun r b3 k a q f=>?_
 have t:=g.nle
 refine i r _ a ⟨f,m,fun b j=>?_,?_⟩
 ·have:b=b3:=(Option.some.inj j).symm
  omega
 ·exact(g.ext a).weaken fun b s _ _ e=>by
   have:b3=b:=Option.some.inj e
   omega
theorem gl_xor {a b k:Int} {K:Value→World→Prop} (u:∀w' v ls,Ext w w'→Fresh w.heap.size w' v ls [[a,b,-k],[-a,-b,-k],[-a,b,k],[a,-b,k]]→ls.length=4→K v w'):
  vbuildS PP zg 3 [(0,.int .i64 a),(1,.int .i64 b),(2,.int .i64 (-k))] w fun t1 y=>vbuildS PP zg 3 [(0,.int .i64 (-a)),(1,.int .i64 (-b)),(2,.int .i64 (-k))] y fun t2 B=>
   vbuildS PP zg 3 [(0,.int .i64 (-a)),(1,.int .i64 b),(2,.int .i64 k)] B fun t3 C=>vbuildS PP zg 3 [(0,.int .i64 a),(1,.int .i64 (-b)),(2,.int .i64 k)] C fun t4 D=>vbuildS PP zB 4 [(0,t1),(1,t2),(2,t3),(3,t4)] D K:=by
 refine lit_row (N:=w.heap.size) (ls:=[]) (xss:=[]) (xs:=[.int .i64 a,.int .i64 b,.int .i64 (-k)]) (us:=[a,b,-k]) rfl (by simp) (RowsR.nil (Nat.le_refl _)) rfl fun E v9 o p q=>?_
 refine lit_row (xs:=[.int .i64 (-a),.int .i64 (-b),.int .i64 (-k)]) (us:=[-a,-b,-k]) rfl (by simp) p rfl fun w10 v10 c h l=>?_
 refine lit_row (xs:=[.int .i64 (-a),.int .i64 b,.int .i64 k]) (us:=[-a,b,k]) rfl (by simp) h rfl fun z v11 d i m=>?_
 refine lit_row (xs:=[.int .i64 a,.int .i64 (-b),.int .i64 k]) (us:=[a,-b,k]) rfl (by simp) i rfl fun A v12 e j n=>?_
 refine lits_fin (xs:=[v9,v10,v11,v12]) (by simp) rfl (fun x t=>?_) j fun s r f g=>u s r _ (o.trans (c.trans (d.trans (e.trans f)))) g rfl
 simp only[List.mem_cons,List.not_mem_nil,or_false] at t
 rcases t with rfl|rfl|rfl|rfl
 ·exact q
 ·exact l
 ·exact m
 ·exact n
theorem gl_and {a b k:Int} {K:Value→World→Prop} (r:∀w' v ls,Ext w w'→Fresh w.heap.size w' v ls [[a,-k],[b,-k],[-a,-b,k]]→ls.length=3→K v w'):
  vbuildS PP zg 2 [(0,.int .i64 a),(1,.int .i64 (-k))] w fun t1 s=>vbuildS PP zg 2 [(0,.int .i64 b),(1,.int .i64 (-k))] s fun t2 u=>
   vbuildS PP zg 3 [(0,.int .i64 (-a)),(1,.int .i64 (-b)),(2,.int .i64 k)] u fun t3 y=>vbuildS PP zB 3 [(0,t1),(1,t2),(2,t3)] y K:=by
 refine lit_row (N:=w.heap.size) (ls:=[]) (xss:=[]) (xs:=[.int .i64 a,.int .i64 (-k)]) (us:=[a,-k]) rfl (by simp) (RowsR.nil (Nat.le_refl _)) rfl fun z v9 l m n=>?_
 refine lit_row (xs:=[.int .i64 b,.int .i64 (-k)]) (us:=[b,-k]) rfl (by simp) m rfl fun w10 v10 c g i=>?_
 refine lit_row (xs:=[.int .i64 (-a),.int .i64 (-b),.int .i64 k]) (us:=[-a,-b,k]) rfl (by simp) g rfl fun t v11 d h j=>?_
 refine lits_fin (xs:=[v9,v10,v11]) (by simp) rfl (fun x q=>?_) h fun p o e f=>r p o _ (l.trans (c.trans (d.trans e))) f rfl
 simp only[List.mem_cons,List.not_mem_nil,or_false] at q
 rcases q with rfl|rfl|rfl
 ·exact n
 ·exact i
 ·exact j
structure CnfS (N b:Nat) (w:World) (m:Int) (lv:Value) (ls:List Value) (xss:List (List Int)):Prop where
 blk:Blk w b [.int .i64 m,lv] zl
 own:OwnV PP zB w lv ls
 len:ls.length=xss.length
 rows:RowsR N (fun x=>lv.ownBlock≠some x∧x≠b) w ls xss
 new:∀x,lv.ownBlock=some x→N≤x∧x≠b
 lo:N≤b
theorem CnfS.ext {w':World} (h:CnfS N b w m lv ls xss) (he:Ext w w'):CnfS N b w' m lv ls xss:=⟨h.blk.ext he,h.own.ext he,h.len,h.rows.ext he,h.new,h.lo⟩
theorem ZH0 (h:RowsR N Fr w ls xss) (d:ls.length=xss.length):∀u,u∈ls→u.oneCell'=true:=fun u hu=>by
 obtain⟨j,b,rfl⟩:=List.getElem_of_mem hu
 have a:=h.own j (by rw[←d];exact b)
 obtain⟨o,c,e,_⟩:=a.ints.shape
 rw[List.getD_eq_getElem?_getD,List.getElem?_eq_getElem b,Option.getD_some] at e
 rw[e];rfl
theorem CnfS.add {q:World} {v9:Value} {M:Nat} {K:Value→World→Prop} (h:CnfS N b w m lv ls xss) (he:Ext w q) (n:Fresh M q v9 ls' yss) (V:w.heap.size≤M) (a:ls.length≤100000) (B:ls'.length≤1000)
  (J:∀w' F,Same (fun x=>x=b∨lv.ownBlock=some x) q w'→CnfS N b w' m F (ls++ls') (xss++yss)→K undef w'):
  vbi PP .append [zB,zB] zB [lv,v9] q fun t S=>zu PP zB (.pointer (some ⟨b,1,none⟩)) t S K:=by
 have z9:=he.size
 have P:=h.blk.lt
 have A:∀x,lv.ownBlock=some x→x<w.heap.size:=fun x p=>h.own.lt p
 refine OwnV.app (us:=ls') (h.own.ext he) UR n.own.vals (ZH0 n.rows n.len) (by omega) (by omega) fun v10 w10 g d k=>?_
 have T:=d.size
 have s:=(h.blk.ext he).same d fun e=>(h.new _ e).2 rfl
 refine s.st (i:=1) (v:=v10) ?_ ?_ qA0 (by rfl) fun G f H u=>?_
 ·obtain⟨o,c,e,_⟩:=g.vals.shape;rw[e];rfl
 ·obtain⟨o,c,e,_⟩:=g.vals.shape;rw[e];rfl
 have U:=f.size
 have y:=h.rows.ext he
 have C:=y.nle
 have E:RowsR N (fun x=>lv.ownBlock≠some x∧x≠b) q ls' yss:=by
  have a:=n.rows
  refine⟨C,a.own,fun j x O p=>?_,a.dj⟩
  have B:=(a.sub j x O p).2
  have:=h.rows.nle
  exact⟨⟨fun e=>by have:=A x e;omega,fun e=>by omega⟩,by omega⟩
 have D:=y.app h.len E n.len fun Q R x a B L e=>by
  have:=(h.rows.own Q a).lt L
  have:=(n.rows.sub R x B e).2
  omega
 have l:∀x,v10.ownBlock=some x→N≤x∧x≠b:=fun x p=>by
  rcases k x p with r|r
  ·exact h.new x r
  ·exact⟨by omega,fun e=>by omega⟩
 refine J G v10 ((d.mono fun x _ h=> .inr h).trans (f.mono fun x _ h=> .inl h)) ⟨u,g.same f fun x p e=>(l x p).2 e,by rw[List.length_append,List.length_append,h.len,n.len],?_,l,h.lo⟩
 have z:=D.weaken (F':=fun x=>(lv.ownBlock≠some x∧x≠b)∧x<q.heap.size) fun x a _ I=>⟨a,I⟩
 refine((z.same d fun x a _ e=>a.1.1 e).same f fun x a _ e=>a.1.2 e).weaken fun x a _ _=>⟨fun e=>?_,a.1.2⟩
 rcases k x e with r|r
 ·exact a.1.1 r
 ·omega
theorem CnfS.out {b2:Nat} {a0 c0:Value} {K:Value→World→Prop} (h:CnfS N b w m lv ls xss) (p:Blk w b2 [a0,c0] zl) (u:b2<N) (q:∀w',Same (· =b2) w w'→CnfO N w' lv ls ⟨m,xss⟩→K (.agg ⟨[.int .i64 m,lv]⟩) w'):
  zf PP zl (.pointer (some ⟨b,0,none⟩)) w fun t45 g=>zu PP zl (.pointer (some ⟨b2,0,none⟩)) t45 g fun _ i=>vlv PP zl (.pointer (some ⟨b2,0,none⟩)) i K:=by
 obtain⟨o,c,f,_⟩:=h.own.vals.shape
 generalize (ls.map fun x=>[x]).length=l at f
 subst f
 rw[h.blk.ldAgg (t:=zl) yh]
 refine p.stAgg (cs':=[.int .i64 m,.slice o l c]) rfl yh net_one fun s d r j=>?_
 rw[j.lv (t:=zl) yh]
 refine q s d ⟨h.own.same d fun x k e=>by have:=(h.new x k).1;omega,h.len,fun x k=>(h.new x k).1,?_⟩
 have a:=(h.rows.weaken (F':=fun x=>(Value.slice o l c).ownBlock≠some x∧N≤x) fun x a n _=>⟨a.1,n⟩).same d fun x a _ e=>by have:=a.2;omega
 exact a.weaken fun x a _ _=>a.1
theorem l6Many_spec {x:Value} (e:GatesR Fx w x gs) (k:n≤8) (j:gs.length≤600) (f:∀w',Ext w w'→K (.int .i64 (1+n+gs.length:Nat)) w'):vcall PP Xe #[.agg ⟨[.int .i64 n,x]⟩] w K:=by
 apply xf0
 obtain⟨o,c,d,_⟩:=e.shape
 have hlen:∀(w':World) (K:Value→World→Prop),vbi PP .len [zm] ze [x] w' K=K (.int .i64 gs.length) w':=fun w' K=>by rw[Sl.len e qB,ji0]
 generalize (gs.map yE).length=l at d
 subst d
 refine zx fun b1 i g b h a=>?_
 simp(disch:=first|(simp only[push_cast];done)|omega) only[push_cast,a.ld0,a.ld1,hlen,zH]
 have:=f i b
 simp only[push_cast] at this
 exact this
theorem l6Cnf_spec {x:Value} (L:GatesR Fx w x gs) (hg:M.NetG n gs) (hn:n≤8) (hK:∀w' lv ls,Ext w w'→CnfO w.heap.size w' lv ls (M.netC n gs [])→K (.agg ⟨[.int .i64 (1+n+gs.length:Nat),lv]⟩) w'):vcall PP Q5 #[.agg ⟨[.int .i64 n,x]⟩] w K:=by
 apply qh0
 have U:=hg.few
 have ae:=L.shape
 obtain⟨o,c,hv,_⟩:=ae
 have hlen:∀(w':World) (K:Value→World→Prop),vbi PP .len [zm] ze [x] w' K=K (.int .i64 gs.length) w':=fun w' K=>by rw[Sl.len L qB,ji0]
 generalize (gs.map yE).length=l at hv
 subst hv
 refine zx fun b1 w1 ai R am a2=>?_
 refine zF xN fun b2 w2 aj F an a3=>?_
 have e2:=R.trans F
 have z:=a2.ext F
 rw[z.ldAgg (t:=zj) yg]
 refine l6Many_spec (Sl.ext L e2) hn U fun w3 q=>?_
 have e3:=e2.trans q
 have z1:=R.size;have z2:=F.size;have z3:=q.size
 obtain⟨m,hm⟩:∃m:Int,m=(1+n+gs.length:Nat):=⟨_,rfl⟩
 rw[←hm]
 refine lit_row (N:=w3.heap.size) (ls:=[]) (xss:=[]) (xs:=[.int .i64 1]) (us:=[1]) rfl (by simp) (RowsR.nil (Nat.le_refl _)) rfl fun w4 v4 S aa ab=>?_
 refine lits_fin (xs:=[v4]) (xss:=[[1]]) (by simp) rfl (fun y s=>by rw[List.mem_singleton.1 s];exact ab) aa fun w5 v5 T j=>?_
 have z4:=S.size;have z5:=T.size
 obtain⟨P,D,Y,_⟩:=j.own.vals.shape
 generalize ([v4].map fun x=>[x]).length=O at Y
 subst Y
 rw[show ∀K:Value→World→Prop,zT PP zl [(0,.int .i64 m),(1,.slice P O D)] w5 K=K (.agg ⟨[.int .i64 m,.slice P O D]⟩) w5 from fun K=>yw WH (us:=[[.int .i64 m],[.slice P O D]]) rfl rfl]
 refine zF xN fun b6 w6 ak a6 ao a4=>?_
 refine a4.stAgg (cs':=[.int .i64 m,.slice P O D]) rfl yh net_one fun w7 ac ap a5=>?_
 have E:Ext w5 w7:=Ext.then a6 ac fun y s=>by subst s;omega
 have Z:∀b,(Value.slice P O D).ownBlock=some b→b<w5.heap.size:=fun b hb=>j.own.lt hb
 have h0:CnfS w3.heap.size b6 w7 m (.slice P O D) [v4] [[1]]:=
  ⟨a5,j.own.ext E,rfl,((j.rows.weaken (F':=fun x=>(Value.slice P O D).ownBlock≠some x∧x≠b6) fun x h1 _ h3=>⟨h1,by omega⟩).ext E),fun x L=>⟨j.new x L,by have:=Z x L;omega⟩,by omega⟩
 have a1:=S.trans (T.trans E)
 refine vloop_up gs.length (fun i u w'=>u=[.int .i64 i]∧Ext w3 w'∧∃lv ls,CnfS w3.heap.size b6 w' m lv ls ([1]::M.gatesC n (gs.take i) 0)) ⟨rfl,a1,_,_,h0⟩ ?_
 rintro i _ _ v C hi ⟨rfl,e,lv,ls,A⟩ hC
 have d:=(z.ext q).ext e
 have r:GatesR Fx v (.slice o l c) gs:=Sl.ext L (e3.trans e)
 simp(disch:=first|(simp only[push_cast];done)|omega) only[push_cast,d.ld0,d.ld1,hlen]
 refine zh (fun a=>?_) (fun a=>?_)
 ·have k:i<gs.length:=by omega
  obtain⟨ha,hb⟩:=gpos hg hn k
  have a7:=gatesC_take (n:=n) k
  have H:(gs.map yE).getD i []=yE gs[i]:=xV0 k
  have J:i<(gs.map yE).length:=by rw[List.length_map];exact k
  generalize gs[i]=g at*
  have l0:∀K:Value→World→Prop,zf PP kO (.pointer (some ((eaddr (.slice o l c) 3 i).add 0))) v K=K (.bool g.x) v:=fun K=>Sl.ldField r XE0 J (by rw[H];rfl)
  have l1:∀K:Value→World→Prop,zf PP ze (.pointer (some ((eaddr (.slice o l c) 3 i).add 1))) v K=K (.int .i64 g.a) v:=fun K=>Sl.ldField r xL0 J (by rw[H];rfl)
  have l2:∀K:Value→World→Prop,zf PP ze (.pointer (some ((eaddr (.slice o l c) 3 i).add 2))) v K=K (.int .i64 g.b) v:=fun K=>Sl.ldField r xL0 J (by rw[H];rfl)
  simp(disch:=first|(simp only[push_cast];done)|(simp only[List.length_map];omega)|omega) only[push_cast,d.ld0,d.ld1,r.iaddr,l0,l1,l2,zH]
  have hk:(2+(n:Int)+i).natAbs≤100000:=by omega
  have al:ls.length≤2401:=by
   have h1:=Xr n (gs.take i) 0
   have h2:(gs.take i).length=i:=by rw[List.length_take];omega
   rw[A.len,List.length_cons];omega
  have aq:=e.size
  have V:∀{ys:List (List Int)},M.gateC (2+n+i) g=ys→[1]::M.gatesC n (gs.take i) 0++ys=[1]::M.gatesC n (gs.take (i+1)) 0:=fun h=>by rw[a7,←h];rfl
  have fin:∀{p w10:World} {v9:Value} {ls':List Value} {ys:List (List Int)},Ext v p→Fresh v.heap.size p v9 ls' ys→ls'.length≤4→M.gateC (2+n+i) g=ys→vbi PP .append [zB,zB] zB [lv,v9] p fun t w1=>zu PP zB (.pointer (some ⟨b6,1,none⟩)) t w1 fun _ a0=>C [.int .i64 ((i:Int)+1)] a0:=fun{p w10 v9 ls' ys} f hf h4 af=>by
   refine A.add f hf (Nat.le_refl _) (by omega) (by omega) fun ar ah X B=>?_
   refine hC k _ _ ⟨by simp,Ext.then (e.trans f) X fun y s=>?_,ah,ls++ls',?_⟩
   ·rcases s with rfl|s
    ·exact A.lo
    ·exact(A.new y s).1
   ·rw[V af] at B;exact B
  refine yo (fun I=>?_) (fun I=>?_)
  ·simp(disch:=first|(simp only[push_cast];done)|omega) only[push_cast,A.blk.ld1,neg_wrap ha,neg_wrap hb,neg_wrap hk]
   simp only[Int.zero_sub]
   exact gl_xor fun p v9 ag f G h4=>fin (w10:=p) f G (by omega) (by unfold M.gateC;rw[if_pos I])
  ·simp(disch:=first|(simp only[push_cast];done)|omega) only[push_cast,A.blk.ld1,neg_wrap ha,neg_wrap hb,neg_wrap hk]
   simp only[Int.zero_sub]
   exact gl_and fun p v9 ag f G h4=>fin (w10:=p) f G (by omega) (by unfold M.gateC;rw[if_neg (by simp[I])])
 ·have a8:i=gs.length:=by omega
  subst a8
  rw[List.take_length] at A
  have Q:=(a3.ext q).ext e
  refine A.out Q (by omega) fun p ad hO=>?_
  have W:Ext w p:=Ext.then (e3.trans e) ad fun y s=>by subst s;omega
  rw[hm]
  refine hK p lv ls W ?_
  have h1:=hO.down (M:=w.heap.size) (by omega)
  unfold M.netC
  have a9:(1+n+gs.length:Int)=m:=by rw[hm];simp
  rw[List.append_nil,a9]
  exact h1
theorem CnfS.of {c:M.Cnf} {K:Value→World→Prop} (h:CnfO N w lv ls c) (q:∀w' b,b=w.heap.size→Ext w w'→CnfS N b w' c.many lv ls c.list→K (.pointer (some ⟨b,0,none⟩)) w'):
  zZ PP zl w fun t4 n=>zu PP zl t4 (.agg ⟨[.int .i64 c.many,lv]⟩) n fun _ f=>K t4 f:=by
 obtain⟨o,cc,d,_⟩:=h.lst.vals.shape
 generalize (ls.map fun x=>[x]).length=l at d
 subst d
 have v:=h.rows.nle
 refine zF xN fun b n i j s g=>?_
 refine g.stAgg (cs':=[.int .i64 c.many,.slice o l cc]) rfl yh net_one fun f m t p=>?_
 have a:Ext w f:=Ext.then j m fun y r=>by subst r;omega
 have k:∀x,(Value.slice o l cc).ownBlock=some x→x<w.heap.size:=fun x e=>h.lst.lt e
 exact q f b i a ⟨p,h.lst.ext a,h.len,(h.rows.weaken (F':=fun x=>(Value.slice o l cc).ownBlock≠some x∧x≠b) fun x g _ u=>⟨g,by omega⟩).ext a,fun x e=>⟨h.dl x e,by have:=k x e;omega⟩,by omega⟩
theorem l8All_spec (l:qz0 ds) (q:DclsR Fx w dv ds) (o:TmsR Fy w tv ts) (p:∀w',Ext w w'→K (.bool (Zk0 ds ts)) w'):vcall PP XZ #[dv,tv] w K:=by
 apply q50
 have z:=o.small
 have no: ¬(ts.length≤8∧M.declOk ds=true∧∀t,t∈ts→M.tsort ds t=0)→∀w',Ext w w'→K (.bool false) w':=fun h w' he=>by
  have:=p w' he
  rwa[show Zk0 ds ts=false by rw[Bool.eq_false_iff];exact fun e=>h (all8_iff.1 e)] at this
 refine y5 (fun u w'=>u=[]∧Ext w w'∧M.declOk ds=true∧ts.length≤8) (fun J y=>?_) ?_
 ·refine spec_DeclOk_spec q l fun B b=>?_
  simp only[push_cast]
  refine yo (fun h=>no (fun e=>by rw[e.2.1] at h;cases h) _ b) (fun h=>?_)
  simp(disch:=(simp only[push_cast];done)) only[push_cast,(o.ext b).len]
  refine zh (fun r=>no (fun e=>by have:=e.1;omega) _ b) (fun r=>y _ _ ⟨rfl,b,by simpa using h,by omega⟩)
 rintro _ _ B ⟨rfl,b,n,s⟩
 refine vloop_up ts.length (fun i u w'=>u=[.int .i64 i]∧Ext w w'∧∀j,j<i→M.tsort ds (ts.getD j default)=0) ⟨rfl,b,fun j m=>absurd m (by omega)⟩ ?_
 rintro i _ _ D C hi ⟨rfl,c,d⟩ v
 have g:=o.ext c
 simp(disch:=(simp only[push_cast];done)) only[push_cast,g.len]
 refine zh (fun a=>?_) (fun a=>?_)
 ·have f:i<ts.length:=by omega
  simp(disch:=first|(simp only[push_cast];done)|omega) only[push_cast,g.iaddr]
  refine g.load zN f fun x A=>?_
  refine spec_TermSort_spec l (q.ext c) A fun E k=>?_
  simp only[push_cast]
  refine zh (fun h=>no (fun e=>h (e.2.2 _ (M.getD_mem f _))) _ (c.trans k)) (fun h=>?_)
  rw[inc64' (by omega)]
  refine v f _ _ ⟨rfl,c.trans k,fun j m=>?_⟩
  by_cases e:j<i
  ·exact d j e
  ·have:j=i:=by omega
   subst this;exact Classical.byContradiction h
 ·have:=p D c
  rwa[all8_iff.2 ⟨s,n,fun t hm=>by
   obtain⟨j,m,rfl⟩:=List.getElem_of_mem hm
   have:=d j (by omega)
   rwa[List.getD_eq_getElem?_getD,List.getElem?_eq_getElem m] at this⟩] at this
def V8 (rs:List (List Int)):List Int:=rs.map fun r=>r.getD 0 0
theorem l8Cnf_spec (ad:Zk0 ds ts=true) (hd:DclsR Fx w dv ds) (ht:TmsR Fy w tv ts)
  (hK:∀w' lv ls,Ext w w'→CnfO w.heap.size w' lv ls (cnfE ds ts).1→K (.tuple #[.agg ⟨[.int .i64 (cnfE ds ts).1.many,lv]⟩,.bool (decide ((cnfE ds ts).2=0))]) w'):vcall PP XY #[dv,tv] w K:=by
 apply q40
 obtain⟨h8,E,Y⟩:=all8_iff.1 ad
 obtain⟨bn,an⟩:=bits_nat E
 have ch:=ht.small
 refine zF xN fun b4 w1 ca a6 bw aj=>?_
 refine sbits8_spec (k:=ds.length) E (Nat.le_refl _) (by rw[List.take_length];exact hd.ext a6) fun w2 a7=>?_
 rw[M.bitT_all,bn]
 simp only[push_cast,kP0,Xa0]
 have e2:=a6.trans a7
 refine zF xX fun L w3 cc ao ci bl=>?_
 have ay:MkR (M.bits ds).toNat (fun b=>b=L) w3 [.int .i64 ((M.bits ds).toNat:Nat),.slice none 0 0,.bool true] (some []):=⟨none,0,0,rfl,GatesR.nil,by simp⟩
 refine bl.stAgg (cs':=[.int .i64 ((M.bits ds).toNat:Nat),.slice none 0 0,.bool true]) rfl ku ay.one fun w4 bu cj V=>?_
 have bj:Ext w2 w4:=Ext.then ao bu fun y v=>by subst v;omega
 have z1:=a6.size;have z2:=a7.size;have z3:=ao.size
 refine qg YG jx fun b5 w5 cb ap ck bk=>?_
 have ah:=bj.trans ap
 have e5:=e2.trans ah
 have bt:OwnI PP zg w5 (.slice (some ⟨b5,0,none⟩) 0 0) []:=Blk.own1 (P:=PP) (t:=zg) (cs:=[]) (by rw[Wo];exact bk) (Nat.zero_le _) rfl rfl (by omega)
 have cm:=V.lt
 have bf:∀b,(Value.slice (some ⟨b5,0,none⟩) 0 0).ownBlock=some b→b=b5:=fun b q=>(Option.some.inj q).symm
 have az:MkR (M.bits ds).toNat (fun b=>b=L∨(Value.slice (some ⟨b5,0,none⟩) 0 0).ownBlock=some b) w5 [.int .i64 ((M.bits ds).toNat:Nat),.slice none 0 0,.bool true] (some []):=⟨none,0,0,rfl,GatesR.nil,by simp⟩
 refine vloop_up ts.length (fun i u w'=> ∃mv cs st rs,u=[mv,.int .i64 i]∧Ext w2 w'∧Blk w' L cs zc∧MkR (M.bits ds).toNat (fun b=>b=L∨mv.ownBlock=some b) w' cs st∧M.Bd.Out (M.bits ds).toNat (M.seqB ((ts.take i).map (M.termB ds))) (some []) st rs∧rs.length=i∧OwnI PP zg w' mv (V8 rs)∧∀b,mv.ownBlock=some b→w2.heap.size≤b∧b≠L)
  ⟨_,_,some [],[],rfl,ah,V.ext ap,az,.inl ⟨[],rfl,rfl⟩,rfl,bt,fun b q=>by have:=bf b q;omega⟩ ?_
 rintro i _ _ w6 C hi ⟨mv,cs,st,rs,rfl,O,d,H,m,T,S,R⟩ hC
 have e6:=e2.trans O
 have ba:=ht.ext e6
 simp(disch:=(simp only[push_cast];done)) only[push_cast,ba.len]
 have cq:=O.size
 refine zh (fun a=>?_) (fun a=>?_)
 ·have D:i<ts.length:=by omega
  refine qg YG jx fun b7 w7 cd a8 bx am=>?_
  refine zw fun w8 a9 _=>?_
  have s:=a8.trans a9
  have cr:=s.size
  have bb:=ba.ext s
  have ak:=d.ext s
  have br:∀{w':World} {cs:List Value},cs.length=3→Blk w' L cs zc→∀K:Value→World→Prop,zf PP zc (.pointer (some ⟨L,0,none⟩)) w' K=K (.agg ⟨cs⟩) w':=fun h3 h K=>h.ldAgg (t:=zc) (by rw[h3];exact ku)
  rw[br H.len ak]
  simp(disch:=first|(simp only[push_cast];done)|omega) only[push_cast,bb.iaddr,true_and]
  refine bb.load zN D fun x hx=>?_
  have hD:∀b,(b=L∨mv.ownBlock=some b)→b<w8.heap.size:=fun b q=>q.elim (fun e=>by have:=d.lt;omega) fun h=>by have:=S.lt h;omega
  obtain⟨af,_,c9⟩:=xH0 (Y _ (M.getD_mem D default))
  refine⟨rfl,sdo8_spec E an _ (by rw[af];decide) (H.ext s fun b h _=>h) hD (hd.ext (e6.trans s)) hx fun w9 a4 bg r zs aq Q bz c7 b1=>?_⟩
  have p:=s.trans aq
  have z9:=aq.size
  have bc:=(out_lens E (by rw[af];decide) b1).1
  have bw:zs.length=1:=by rw[bc,af];rfl
  simp only[push_cast,true_and,and_self]
  have al:=d.ext p
  have bd:=d.lt
  refine al.stAgg (cs':=a4) (by rw[Q.len,H.len]) (by rw[Q.len];exact ku) Q.one fun w10 n c8 ai=>?_
  have J:Ints (New w8) w10 r zs:=bz.same n fun b q _ e=>by have:w8.heap.size≤b:=q;omega
  have av:=Q.same n fun b q=> .inl q
  simp(disch:=first|(simp only[push_cast];done)|omega) only[push_cast,true_and,and_self,J.iaddr,J.load]
  refine spec_one fun bh cn f b0 c5=>?_
  have ae:OwnI PP zg bh mv (V8 rs):=((S.ext p).same n fun b q e=>(R b q).2 e).ext f
  have ax:(V8 rs).length=i:=by unfold V8;rw[List.length_map,T]
  refine ae.app (ys:=[zs.getD 0 0]) Y6 b0.ints (by simp only[List.length_singleton];omega) (by simp only[List.length_singleton];omega) fun v12 bi a0 A Z=>?_
  try simp(disch:=omega) only[push_cast,zH]
  have cp:=f.size;have z12:=A.size
  have c4:∀b,mv.ownBlock=some b→b<w6.heap.size:=fun b q=>S.lt q
  have aw:MkR (M.bits ds).toNat (fun b=>b=L∨v12.ownBlock=some b) bi a4 bg:=
   (av.ext f fun b h _=>h).swap A (fun b q=> .inr q) fun b q hl=>q.elim .inl fun h=>(Z b h).elim .inr fun h2=>by omega
  refine hC D _ _ ⟨v12,a4,bg,rs++[zs],by simp,?_,((ai.ext f).same A fun e=>(R _ e).2 rfl),aw,?_,by rw[List.length_append,T];rfl,?_,fun b q=>?_⟩
  ·exact Ext.then ((Ext.then (O.trans p) n fun y v=>by subst v;omega).trans f) A fun y v=>(R y v).1
  ·rw[M.take_add D default,List.map_append]
   exact jb0 m b1
  ·unfold V8 at a0⊢
   rw[List.map_append];exact a0
  ·rcases Z b q with h|h
   ·exact R b h
   ·exact⟨by omega,fun e=>by omega⟩
 ·have D:i=ts.length:=by omega
  subst D
  rw[List.take_length] at m
  have U:=aj.ext (a7.trans O)
  have cl:=aj.lt
  have bd:=d.lt
  cases st with
  |none=>
   have bo:cs=[.int .i64 0,.slice none 0 0,.bool false]:=H
   subst bo
   have bs:M.listB ds ts=none:=by
    rcases m with⟨g,q1,q2⟩|⟨q1,q2,_⟩
    ·cases q2
    ·exact q1
   have a5:cnfE ds ts=(⟨0,[]⟩,1):=by unfold cnfE;rw[if_pos ad,bs]
   simp(disch:=first|(simp only[push_cast];done)|omega) only[push_cast,d.ld1,d.ld2,Bool.not_false]
   rw[qW0]
   refine U.stAgg (cs':=[.int .i64 0,.slice none 0 0]) rfl yh net_one fun w7 bv bx am=>?_
   rw[am.lv (t:=zl) yh]
   have m:Ext w w7:=Ext.then e6 bv fun y v=>by subst v;omega
   have:=hK w7 (.slice none 0 0) [] m
   rw[a5] at this
   exact this (x50 m.size)
  |some gs=>
   obtain⟨o,l,c,rfl,bp,ce⟩:=H
   have a3:M.listB ds ts=some (gs,rs):=by
    rcases m with⟨g,q1,q2⟩|⟨q1,q2,_⟩
    ·cases q2;exact q1
    ·cases q2
   have a2:=M.list_says E (fun t ht=>by rw[(xH0 (Y t ht)).1];decide) a3
   have a5:cnfE ds ts=(M.blastC ds gs rs,0):=by unfold cnfE;rw[if_pos ad,a3]
   simp(disch:=first|(simp only[push_cast];done)|omega) only[push_cast,d.ld1,d.ld2,Bool.not_true]
   rw[Blk.ldTake (us:=[.int .i64 ((M.bits ds).toNat:Nat),.slice o l c]) (r:=[.bool true]) d yg]
   refine l6Cnf_spec bp a2.net an fun w7 lv ls a8 hO=>?_
   refine CnfS.of (c:=M.netC (M.bits ds).toNat gs []) hO fun w8 b8 c2 a9 hS=>?_
   have cg:=Xr (M.bits ds).toNat gs 0
   have c3:=a2.net.few
   have c6:(M.netC (M.bits ds).toNat gs []).list.length≤2401:=by
    show([1]::(M.gatesC _ gs 0++[])).length≤2401
    rw[List.append_nil,List.length_cons];omega
   have ac:(M.netC (M.bits ds).toNat gs []).many=(M.blastC ds gs rs).many:=rfl
   have ab:(M.netC (M.bits ds).toNat gs []).list++M.rootsC rs=(M.blastC ds gs rs).list:=by
    show([1]::(M.gatesC _ gs 0++[]))++M.rootsC rs=[1]::(M.gatesC _ gs 0++M.rootsC rs)
    rw[List.append_nil];rfl
   generalize M.netC (M.bits ds).toNat gs []=c0 at*
   have s:=a8.trans a9
   have ax:(V8 rs).length=ts.length:=by unfold V8;rw[List.length_map,T]
   refine vloop_up ts.length (fun j u w'=>u=[.int .i64 j]∧Ext w6 w'∧∃lv ls,CnfS w6.heap.size b8 w' c0.many lv ls (c0.list++M.rootsC (rs.take j))) ⟨rfl,s,lv,ls,by simpa[M.rootsC] using hS⟩ ?_
   rintro j _ _ w9 C2 hj ⟨rfl,p,c1,ag,B⟩ bm
   have a1:=(S.ext p).ints
   simp(disch:=(simp only[push_cast];done)) only[push_cast,a1.len,ax]
   refine zh (fun a=>?_) (fun a=>?_)
   ·have au:j<rs.length:=by omega
    have aa:(V8 rs).getD j 0=(rs.getD j []).getD 0 0:=by
     unfold V8
     rw[M.getD_map (fun r:List Int=>r.getD 0 0) au 0 []]
    refine zw fun w10 F _=>?_
    have z:=B.ext F
    have I:=a1.ext F
    simp(disch:=first|(simp only[push_cast];done)|omega) only[push_cast,z.blk.ld1,I.iaddr,I.load,true_and]
    rw[aa]
    refine lit_row (N:=w10.heap.size) (ls:=[]) (xss:=[]) (xs:=[.int .i64 ((rs.getD j []).getD 0 0)]) (us:=[(rs.getD j []).getD 0 0]) rfl (by simp) (RowsR.nil (Nat.le_refl _)) rfl fun bh v11 f b2 b3=>?_
    simp(disch:=first|(simp only[push_cast];done)|omega) only[push_cast,(z.ext f).blk.ld1,true_and,and_self]
    refine lits_fin (xs:=[v11]) (xss:=[[(rs.getD j []).getD 0 0]]) (by simp) rfl (fun y v=>by rw[List.mem_singleton.1 v];exact b3) b2 fun bi v12 G ar=>?_
    simp(disch:=first|(simp only[push_cast];done)|omega) only[push_cast,((z.ext f).ext G).blk.ld1,true_and,and_self]
    have cf:ag.length≤3000:=by
     rw[B.len,List.length_append]
     unfold M.rootsC
     rw[List.length_map,List.length_take]
     omega
    refine z.add (f.trans G) ar (Nat.le_refl _) (by omega) (by simp) fun co be b9 X=>?_
    try simp(disch:=omega) only[push_cast,zH]
    have z9:=p.size
    refine bm (by omega) _ _ ⟨by simp,Ext.then (p.trans (F.trans (f.trans G))) b9 fun y v=>?_,be,ag++[v11],?_⟩
    ·rcases v with rfl|v
     ·exact B.lo
     ·exact(B.new y v).1
    ·rw[M.take_add au []]
     unfold M.rootsC at X⊢
     rw[List.map_append,←List.append_assoc]
     exact X
   ·have bq:j=ts.length:=by omega
    subst bq
    rw[←T,List.take_length,ab] at B
    refine B.out (U.ext p) (by omega) fun w10 n W=>?_
    have m:Ext w w10:=Ext.then (e6.trans p) n fun y v=>by subst v;omega
    have:=hK w10 c1 ag m
    rw[a5] at this
    rw[ac] at W⊢
    exact this ((W.down (by have:=e6.size;omega)))
theorem spec_BlastCnf_spec (v:qz0 ds) (D:DclsR Fx w dv ds) (E:TmsR Fy w tv ts)
  (B:∀w' lv ls,Ext w w'→CnfO w.heap.size w' lv ls (cnfE ds ts).1→K (.tuple #[.agg ⟨[.int .i64 (cnfE ds ts).1.many,lv]⟩,.bool (decide ((cnfE ds ts).2=0))]) w'):vcall PP Zw #[dv,tv] w K:=by
 apply za0
 refine zF xN fun b4 J F d G k=>?_
 refine l8All_spec v (D.ext d) (E.ext d) fun L f=>?_
 have q:=d.trans f
 have N:=d.size;have z2:=f.size
 simp only[push_cast]
 refine yo (fun h=>?_) (fun h=>?_)
 ·have s: ¬Zk0 ds ts=true:=by simpa using h
  have r:cnfE ds ts=(⟨0,[]⟩,2):=by unfold cnfE;rw[if_neg s]
  rw[qW0]
  refine(k.ext f).stAgg (cs':=[.int .i64 0,.slice none 0 0]) rfl yh net_one fun p g A i=>?_
  rw[i.lv (t:=zl) yh]
  have a:Ext w p:=Ext.then q g fun y z=>by subst z;omega
  have:=B p (.slice none 0 0) [] a
  rw[r] at this
  exact this (x50 a.size)
 ·have u:Zk0 ds ts=true:=by simpa using h
  refine l8Cnf_spec u (D.ext q) (E.ext q) fun M lv ls j C=>?_
  simp only[push_cast]
  have m:=(k.ext f).ext j
  obtain⟨o,c,n,_⟩:=C.lst.vals.shape
  generalize (ls.map fun x=>[x]).length=l at n
  subst n
  refine m.stAgg (cs':=[.int .i64 (cnfE ds ts).1.many,.slice o l c]) rfl yh net_one fun p g A i=>?_
  rw[i.lv (t:=zl) yh]
  have a:Ext w p:=Ext.then (q.trans j) g fun y z=>by subst z;omega
  have z3:=j.size
  exact B p _ ls a ((C.same g fun b H I e=>by omega).down (by omega))
theorem errV_eql:zt PP .eql yd true (errV ar at_ N) .nilIface w K=K (.bool (decide (N=0))) w:=by
 match N with
 |0=>exact qM0
 |1=>exact qO0
 |n+2=>exact qO0
theorem BlastCnf_spec (G:DclsR Fx w dv ds) (H:TmsR Fy w tv ts) (he:Errs (fun _=>False) w ar ab) (z:Sent w yy at_)
  (D:∀w' lv ls,Ext w w'→CnfO w.heap.size w' lv ls (cnfE ds ts).1→K (.tuple #[.agg ⟨[.int .i64 (cnfE ds ts).1.many,lv]⟩,.bool (decide ((cnfE ds ts).2=0))]) w'):vcall PP jN #[dv,tv] w K:=by
 apply zm0
 refine zF xN fun b4 T E a I q=>?_
 refine blastCnf_spec (G.ext a) (H.ext a) (he.ext0 a) (z.same a id) fun N lv ls f B=>?_
 simp only[push_cast]
 have W:=a.size;have z2:=f.size
 obtain⟨o,c,k,_⟩:=B.lst.vals.shape
 generalize (ls.map fun x=>[x]).length=l at k
 subst k
 refine zF xN fun Q U F u J r=>?_
 refine r.stAgg (cs':=[.int .i64 (cnfE ds ts).1.many,.slice o l c]) rfl yh net_one fun O v L h=>?_
 have p:Ext N O:=Ext.then u v fun y A=>by subst A;omega
 refine zw fun V j _=>?_
 have d:=p.trans j
 have i:=h.ext j
 have g:=(q.ext f).ext d
 rw[i.ldAgg (t:=zl) yh]
 simp only[errV_eql,true_and]
 refine g.stAgg (cs':=[.int .i64 (cnfE ds ts).1.many,.slice o l c]) rfl yh net_one fun C n M s=>?_
 rw[s.lv (t:=zl) yh]
 try simp only[true_and,and_self]
 have P:=d.size
 have m:Ext w C:=Ext.then (a.trans (f.trans d)) n fun y A=>by subst A;omega
 exact D C _ ls m (((B.ext d).same n fun b R S e=>by omega).down (by omega))
end Go.Proofs.YtaekfnbnhjgboaaGreatDoor
end
section
namespace Go.Proofs.YtaekfnbnhjgboaaGreatDoor
open Go Go.Vc Go.Proofs
variable {w:World} {K:Value→World→Prop} {F F' D G:Nat→Prop}
def rl (ds:List M.Dcl) (t:M.Tm) (i:Nat):Option M.Tm:=[M.ruleX ds t,M.ruleB t,M.ruleT t,M.ruleL ds t,M.ruleW ds t,M.ruleS t,M.ruleF t].getD i none
end Go.Proofs.YtaekfnbnhjgboaaGreatDoor
end
section
namespace Go.Proofs.YtaekfnbnhjgboaaGreatDoor
open Go Go.Vc Go.Proofs
variable {w:World} {K:Value→World→Prop} {F F' D G:Nat→Prop}
inductive TmO (w:World):(Nat→Prop)→List Value→M.Tm→Prop
 |mk {D:Nat→Prop} {kv:Value} {t:M.Tm} (css:List (List Value)) (Ds:Nat→Nat→Prop) (own:Own PP 0 5 zr w kv css) (hl:css.length=t.ks.length)
   (hb:∀b,kv.ownBlock=some b→D b∧∀i,i<t.ks.length→¬Ds i b) (hd:∀i j b,i<j→j<t.ks.length→Ds i b→¬Ds j b) (hs:∀i b,i<t.ks.length→Ds i b→D b)
   (hk:∀i,i<t.ks.length→TmO w (Ds i) (css.getD i []) (t.ks.getD i default)):TmO w D [.int .i64 t.op,.int .i64 t.a,.int .i64 t.b,.string t.s,kv] t
theorem yD0 {cs:List Value} {t:M.Tm} (h:TmO w D cs t):∃(kv:Value) (css:List (List Value)) (Ds:Nat→Nat→Prop),cs=[.int .i64 t.op,.int .i64 t.a,.int .i64 t.b,.string t.s,kv]∧Own PP 0 5 zr w kv css∧css.length=t.ks.length∧
  (∀b,kv.ownBlock=some b→D b∧∀i,i<t.ks.length→¬Ds i b)∧(∀i j b,i<j→j<t.ks.length→Ds i b→¬Ds j b)∧(∀i b,i<t.ks.length→Ds i b→D b)∧∀i,i<t.ks.length→TmO w (Ds i) (css.getD i []) (t.ks.getD i default):=by
 cases h with
 |mk css Ds own f c d hs e=>exact⟨_,css,Ds,rfl,own,f,c,d,hs,e⟩
theorem YK0:∀(t:M.Tm) {D:Nat→Prop} {cs:List Value},TmO w D cs t→TmR D w cs t:=by
 refine M.Tm.ind fun t f D cs h=>?_
 obtain⟨kv,css,Ds,rfl,own,e,c,g,hs,d⟩:=yD0 h
 exact TmR.of ⟨css,own.sl.weaken fun b a _=>(c b a).1,e,fun i hi=>(f _ (M.getD_mem hi _) (d i hi)).weaken fun b a _=>hs i b hi a⟩
theorem QO {S:Nat→Prop} {w w':World} (hw:Same S w w'):∀(t:M.Tm) {D:Nat→Prop} {cs:List Value},TmO w D cs t→(∀b,D b→¬S b)→TmO w' D cs t:=by
 refine M.Tm.ind fun t k D cs h d=>?_
 obtain⟨kv,css,Ds,rfl,own,j,c,f,hs,g⟩:=yD0 h
 exact .mk css Ds (own.same hw fun b e=>d b (c b e).1) j c f hs fun i hi=>k _ (M.getD_mem hi _) (g i hi) fun b a=>d b (hs i b hi a)
theorem YJ0 {w':World} {cs:List Value} {t:M.Tm} (h:TmO w D cs t) (hw:Ext w w'):TmO w' D cs t:=QO hw t h fun _ _ h=>h
theorem W9 {cs:List Value} {t:M.Tm} (h:TmO w D cs t) (a:∀b,D b→F b):TmO w F cs t:=by
 obtain⟨kv,css,Ds,rfl,own,f,c,d,hs,e⟩:=yD0 h
 exact .mk css Ds own f (fun b h=>⟨a b (c b h).1,(c b h).2⟩) d (fun i b hi h=>a b (hs i b hi h)) e
theorem retO {b:Nat} {cs cs':List Value} {t:TypeId} {f:M.Tm} {K:Value→World→Prop} (h:Blk w b cs t) (j:cs.length=5) (d:TmO w G cs' f) (c:∀x,G x→x≠b) (i:∀w',Same (· =b) w w'→w'.heap.size=w.heap.size→TmO w' G cs' f→K (.agg ⟨cs'⟩) w'):
  zu PP zd (.pointer (some ⟨b,0,none⟩)) (.agg ⟨cs'⟩) w fun _ l=>vlv PP zd (.pointer (some ⟨b,0,none⟩)) l fun r m=>K r m:=
 kh0 h j (YK0 _ d) c fun w' hw k _=>i w' hw k (QO hw _ d fun g a e=>c g a e)
end Go.Proofs.YtaekfnbnhjgboaaGreatDoor
end
section
namespace Go.M
open Go.Vc
section
variable {ds:List Dcl} {t:Tm}
def Yn0 (t v:Tm):Prop:=v.ks.length≠2∨kid v 0≠kid t 1∨kid v 1≠kid t 0∨v.op≠t.op
instance (t v:Tm):Decidable (Yn0 t v):=by unfold Yn0;infer_instance
end
end Go.M
end
section
namespace Go.Proofs.YtaekfnbnhjgboaaGreatDoor
open Go Go.Vc Go.Proofs
variable {w:World} {K:Value→World→Prop} {D F F' G Fr Fx Fy:Nat→Prop} {v xv yv dv tv:Value} {env:List Int} {ins:List Bool} {ds:List M.Dcl} {t:M.Tm} {ts:List M.Tm} {ar ab at_:Addr}
theorem cnf_new {N:Nat} {lv:Value} {ls:List Value} {c:M.Cnf} {K:Value→World→Prop} (h:CnfO N w lv ls c) (m:∀w' b,w.heap.size≤b→Ext w w'→Blk w' b [.int .i64 c.many,lv] zl→CnfO N w' lv ls c→K (.pointer (some ⟨b,0,none⟩)) w'):
  zZ PP zl w fun t4 i=>zu PP zl t4 (.agg ⟨[.int .i64 c.many,lv]⟩) i fun _ e=>K t4 e:=by
 obtain⟨o,cc,d,_⟩:=h.lst.vals.shape
 generalize (ls.map fun x=>[x]).length=l at d
 subst d
 refine zF xN fun b i n f p j=>?_
 refine j.stAgg (cs':=[.int .i64 c.many,.slice o l cc]) rfl yh net_one fun e g r k=>?_
 have a:Ext w e:=Ext.then f g fun y q=>by subst q;omega
 exact m e b (by omega) a k (h.ext a)
end Go.Proofs.YtaekfnbnhjgboaaGreatDoor
end
section
namespace Go.Proofs.YtaekfnbnhjgboaaGreatDoor
open Go Go.Vc Go.Proofs
variable {w:World} {K:Value→World→Prop} {F F' D G:Nat→Prop}
def Yd0 (w:World) (D:Nat→Prop) (kv:Value) (us:List M.Tm) (css:List (List Value)) (Ds:Nat→Nat→Prop):Prop:=
 Own PP 0 5 zr w kv css∧css.length=us.length∧(∀b,kv.ownBlock=some b→D b∧∀i,i<us.length→¬Ds i b)∧(∀i j b,i<j→j<us.length→Ds i b→¬Ds j b)∧(∀i b,i<us.length→Ds i b→D b)∧
 ∀i,i<us.length→TmO w (Ds i) (css.getD i []) (us.getD i default)
theorem Yi0 {kv:Value} {t:M.Tm} {css:List (List Value)} {Ds:Nat→Nat→Prop} (h:Yd0 w D kv t.ks css Ds):TmO w D [.int .i64 t.op,.int .i64 t.a,.int .i64 t.b,.string t.s,kv] t:=by
 obtain⟨c,d,e,f,g,i⟩:=h
 exact .mk css Ds c d e f g i
theorem kb0 {cs:List Value} {t:M.Tm} (h:TmO w D cs t):∃kv css Ds,cs=[.int .i64 t.op,.int .i64 t.a,.int .i64 t.b,.string t.s,kv]∧Yd0 w D kv t.ks css Ds:=by
 obtain⟨kv,css,Ds,c,d,e,f,g,i,j⟩:=yD0 h
 exact⟨kv,css,Ds,c,d,e,f,g,i,j⟩
theorem Yh0 {kv:Value} {us:List M.Tm} {css:List (List Value)} {Ds:Nat→Nat→Prop} (h:Yd0 w D kv us css Ds):TmsR D w kv us:=by
 obtain⟨c,d,e,j,f,g⟩:=h
 exact⟨css,c.sl.weaken fun b a _=>(e b a).1,d,fun i hi=>(YK0 _ (g i hi)).weaken fun b a _=>f i b hi a⟩
theorem KU {S:Nat→Prop} {w':World} {kv:Value} {us:List M.Tm} {css:List (List Value)} {Ds:Nat→Nat→Prop} (h:Yd0 w D kv us css Ds) (hw:Same S w w') (hs:∀b,D b→¬S b):Yd0 w' D kv us css Ds:=by
 obtain⟨e,f,c,g,d,j⟩:=h
 exact⟨e.same hw fun b a=>hs b (c b a).1,f,c,g,d,fun i hi=>QO hw _ (j i hi) fun b a=>hs b (d i b hi a)⟩
abbrev CpO (t:M.Tm):Prop:=∀{w:World} {K:Value→World→Prop} {F:Nat→Prop} {v:Value},TermR F w v t→kD0 t=true→(∀w' cs,Ext w w'→TmO w' (fun b=>w.heap.size≤b∧b<w'.heap.size) cs t→K (.agg ⟨cs⟩) w')→vcall PP Zj #[v] w K
theorem toTermS_own {ks:List M.Tm} (ih:∀k,k∈ks→CpO k) {v:Value} (I:TmsR F w v ks) (X:ks.length≤1048576) (W:∀k,k∈ks→kD0 k=true)
  (U:∀w' v' css Ds,Ext w w'→Yd0 w' (fun b=>w.heap.size≤b∧b<w'.heap.size) v' ks css Ds→K v' w'):vcall PP xQ #[v] w K:=by
 apply JD
 simp(disch:=(simp only[push_cast];done)) only[push_cast,I.len]
 refine vmkS_agg (cs:=Xq0) WO (by decide) (by rw[Ve];exact xA) (by omega) (by omega) fun v1 N z r t=>?_
 have Z:=r.size
 have f:∀b,v1.ownBlock=some b→b<N.heap.size:=fun b c=>(z.lt c).2
 refine vloop_up ks.length (fun i u w'=>u=[.int .i64 i]∧Ext w w'∧N.heap.size≤w'.heap.size∧∃(css:List (List Value)) (Ds:Nat→Nat→Prop),css.length=ks.length∧Own PP 0 5 zr w' v1 css∧
   (∀j b,j<i→Ds j b→N.heap.size≤b∧b<w'.heap.size)∧(∀j k b,j<k→k<i→Ds j b→¬Ds k b)∧∀j,j<i→TmO w' (Ds j) (css.getD j []) (ks.getD j default))
  ⟨rfl,r,Nat.le_refl _,_,fun _ _=>False,by simp,z,by omega,by omega,by omega⟩ ?_
 rintro i _ _ S C hi ⟨rfl,n,a0,css,Ds,Q,A,d,h,R⟩ T
 have o:=I.ext n
 simp(disch:=(simp only[push_cast];done)) only[push_cast,o.len]
 refine zh (fun a=>?_) (fun a=>?_)
 ·have l:ks.getD i default∈ks:=M.getD_mem (by omega) _
  simp(disch:=first|(simp only[push_cast];done)|omega) only[push_cast,o.iaddr]
  refine o.load Ks (by omega) fun x Y=>?_
  refine ih _ l Y (W _ l) fun w3 c3 g q=>?_
  have y:=YK0 _ q
  have B:=A.ext g
  have L:=B.sl
  have a1:=g.size
  simp(disch:=first|(simp only[push_cast];done)|omega) only[push_cast,L.iaddr]
  refine own_stEl B (by decide) (jA y) (tmR_one y) zN (by omega) fun w4 J p a2=>?_
  rw[inc64' (by omega)]
  refine T (by omega) _ _ ⟨rfl,Ext.then (n.trans g) p fun b c=>t b c,by omega,css.set i c3,fun j b=>(j<i∧Ds j b)∨(j=i∧S.heap.size≤b∧b<w3.heap.size),by rw[List.length_set];exact Q,J,fun j b s c=>?_,fun j k b H I m D=>?_,fun j s=>?_⟩
  ·rcases c with⟨m,D⟩|⟨m,D,E⟩
   ·have:=d j b m D;omega
   ·omega
  ·rcases m with⟨m,E⟩|⟨m,E,h4⟩
   ·rcases D with⟨O,P⟩|⟨O,P,h7⟩
    ·exact h j k b H O E P
    ·have:=d j b m E;omega
   ·omega
  ·rw[jQ (by omega)]
   by_cases e:i=j
   ·subst e;rw[if_pos rfl]
    exact W9 (QO p _ q fun b c e=>by have:=f b e;omega) fun b c=> .inr ⟨rfl,c⟩
   ·rw[if_neg e]
    exact W9 (QO p _ (YJ0 (R j (by omega)) g) fun b c e=>by have:=f b e;have:=d j b (by omega) c;omega) fun b c=> .inl ⟨by omega,c⟩
 ·have G:i=ks.length:=by omega
  subst G
  refine U S v1 css Ds n ⟨A,Q,fun b c=>⟨⟨t b c,by have:=f b c;omega⟩,fun j s V=>by have:=f b c;have:=d j b s V;omega⟩,h,fun j b s c=>by have:=d j b s c;omega,R⟩
theorem toTerm_own:∀t:M.Tm,CpO t:=by
 refine M.Tm.ind fun t ih=>?_
 intro w K F v ht hf Z
 apply Vi
 obtain⟨kv,rfl,H⟩:=ht
 obtain⟨f1,f2⟩:=fitB_iff.1 hf
 refine zx fun b1 w1 a0 E a3 R=>?_
 refine zF xA fun b2 w2 a1 m a4 S=>?_
 refine zF xA fun b3 w3 a2 h a5 T=>?_
 have L:=(R.ext m).ext h
 simp(disch:=(simp only[push_cast];done)) only[push_cast,L.ld0]
 refine T.st (i:=0) rfl rfl jx rfl fun w4 r a6 U=>?_
 have N:=L.same r (by omega)
 simp(disch:=(simp only[push_cast];done)) only[push_cast,N.ld1]
 refine U.st (i:=1) rfl rfl jx rfl fun w5 u a7 V=>?_
 have O:=N.same u (by omega)
 simp(disch:=(simp only[push_cast];done)) only[push_cast,O.ld2]
 refine V.st (i:=2) rfl rfl jx rfl fun w6 z a8 W=>?_
 have P:=O.same z (by omega)
 simp(disch:=(simp only[push_cast];done)) only[push_cast,P.ld3]
 refine W.st (i:=3) rfl rfl QN rfl fun Q A a9 X=>?_
 have q7:=P.same A (by omega)
 simp(disch:=(simp only[push_cast];done)) only[push_cast,q7.ld4]
 have g:Same (fun b=>b=b3) w3 Q:=r.trans (u.trans (z.trans A))
 have l:=(E.trans m).trans h
 have j:Ext w Q:=Ext.then l g fun y B=>by subst B;omega
 refine toTermS_own ih (H.ext j) f1 f2 fun w8 f css Ds d n=>?_
 have Y:=X.ext d
 have o:f.cells= #[f]∧f.oneCell'=true:=by
  obtain⟨a,c,rfl,_⟩:=n.1.sl.shape
  exact⟨rfl,rfl⟩
 have aa:=d.size
 have J:=g.size
 try simp only[push_cast]
 refine Y.st (i:=4) o.1 o.2 WK rfl fun w9 k ab D=>?_
 replace D:Blk w9 b3 [.int .i64 t.op,.int .i64 t.a,.int .i64 t.b,.string t.s,f] zd:=D
 rw[D.ldAgg (t:=zd) zN]
 have G:=KU n k fun b hb e=>by omega
 have C:=(((S.ext h).same g (by omega)).ext d).same k (by omega)
 refine retO C rfl (Yi0 (t:=t) G) (fun x hx=>by omega) fun w10 q I p=>?_
 exact Z _ _ (Ext.then (Ext.then (j.trans d) k fun y B=>by subst B;omega) q fun y B=>by subst B;omega) (W9 p fun b hb=>by have:=j.size;omega)
def digs:Nat→Nat→ByteArray→ByteArray
 |0,_,acc=>acc
 |f+1,k,acc=>if 0<k then digs f (k/10) (strOfNums [((48+k%10:Nat):Int)]++acc) else acc
def We (k:Nat):ByteArray:=if k=0 then⟨#[109,48]⟩ else⟨#[109]⟩++digs (k+1) k ⟨#[]⟩
theorem markText_spec {k:Nat} (h:k<4611686018427387904) (b:∀w',Ext w w'→K (.string (We k)) w'):vcall PP qE #[.int .i64 k] w K:=by
 apply zc0
 simp only[push_cast]
 refine zh (fun a=>?_) (fun a=>?_)
 ·have e:We k=⟨#[109,48]⟩:=by unfold We;rw[if_pos (by omega)]
  rw[e] at b
  exact b _ (Same.refl _ _)
 have e:We k=⟨#[109]⟩++digs (k+1) k ⟨#[]⟩:=by unfold We;rw[if_neg (by omega)]
 rw[e] at b
 refine X5 (fun n u w'=> ∃(j:Nat) (acc:ByteArray) (f:Nat),u=[.int .i64 j,.string acc]∧n=j∧j≤k∧j<f∧acc.size+j≤k∧Ext w w'∧digs f j acc=digs (k+1) k ⟨#[]⟩) k
  ⟨k,_,k+1,rfl,rfl,Nat.le_refl _,by omega,by simp[ByteArray.size],Same.refl _ _,rfl⟩ ?_
 rintro n _ _ B C ⟨j,acc,f,rfl,rfl,x,v,A,he,o⟩ r
 simp only[push_cast]
 refine zh (fun c=>?_) (fun c=>?_)
 ·rw[yz0 (by decide),show(n:Int).tmod 10=((n%10:Nat):Int) from by rw[Int.tmod_eq_emod_of_nonneg (by omega)];omega,j20]
  rw[show IntKind.i64.wrap (48+((n%10:Nat):Int))=((48+n%10:Nat):Int) from by rw[zH (by omega) (by omega)];omega]
  rw[kG xE0 ZT0,show IntKind.u8.wrap ((48+n%10:Nat):Int)=((48+n%10:Nat):Int) from by show((48+n%10:Nat):Int)%256=_;omega]
  refine Us (k:=1) (y:=[.int .u8 ((48+n%10:Nat):Int)]) KR YD0 Zm0 rfl rfl (by decide) fun b2 m s l z q=>?_
  have t:∀d:Value→World→Prop,Yn PP yD zE (.slice (some ⟨b2,0,none⟩) 1 1) m d=d (.string (strOfNums [((48+n%10:Nat):Int)])) m:=fun d=>
   yB (run_convert_bytes_arg m yD kz KR (by kernel_rfl) b2 0 1 1 [((48+n%10:Nat):Int)] rfl (fun i hi=>by
    have:i=0:=by omega
    subst this
    exact q.cell (i:=0) rfl) zE XS)
  rw[t,X6 (by rw[strOfNums_size];show 1+_≤_;omega),yA0 (by decide),show(n:Int).tdiv 10=((n/10:Nat):Int) from by rw[Int.tdiv_eq_ediv_of_nonneg (by omega)];omega,zH (by omega) (by omega)]
  obtain⟨f,rfl⟩:∃g,f=g+1:=⟨f-1,by omega⟩
  refine r (n/10) _ _ (by omega) ⟨n/10,_,f,rfl,rfl,by omega,by omega,?_,he.trans l,?_⟩
  ·rw[ByteArray.size_append,strOfNums_size]
   show 1+acc.size+n/10≤k
   omega
  ·rw[←o]
   show _=if 0<n then _ else _
   rw[if_pos (by omega)]
 ·have p:n=0:=by omega
  subst p
  obtain⟨f,rfl⟩:∃g,f=g+1:=⟨f-1,by omega⟩
  have:acc=digs (k+1) k ⟨#[]⟩:=by
   rw[←o]
   show _=if 0<0 then _ else acc
   rw[if_neg (by omega)]
  subst this
  rw[X6 (by show 1+_≤_;omega)]
  exact b _ he
theorem markText_int {k:Int} (b:0≤k) (h:k<4611686018427387904) (a:∀w',Ext w w'→K (.string (We k.toNat)) w'):vcall PP qE #[.int .i64 k] w K:=by
 obtain⟨n,rfl⟩:∃n:Nat,k=n:=⟨k.toNat,by omega⟩
 exact markText_spec (by omega) a
theorem inc_wrap {k:Int} (a:0≤k) (h:k<4611686018427387904):IntKind.i64.wrap (k+1)=k+1:=zH (by omega) (by omega)
theorem markDeclS_spec {v:Value} {css:List (List Value)} {k:Int} (x:Own PP 0 2 zD w v css) (A:0≤k) (B:k+2*css.length<4611686018427387904)
  (t:∀w',Same (fun b=>v.ownBlock=some b) w w'→K (.int .i64 (k+2*css.length)) w'):vcall PP kZ #[v,.int .i64 k] w K:=by
 apply Um
 refine vloop_up css.length (fun i u w'=>u=[.int .i64 (k+2*i),.int .i64 i]∧Same (fun b=>v.ownBlock=some b) w w'∧∃c,c.length=css.length∧Own PP 0 2 zD w' v c) ⟨by simp,Same.refl _ _,css,rfl,x⟩ ?_
 rintro i _ _ D C hi ⟨rfl,h,r,e,f⟩ s
 have o:=f.sl
 simp(disch:=(simp only[push_cast];done)) only[push_cast,o.len,e]
 refine zh (fun a=>?_) (fun a=>?_)
 ·refine markText_int (by omega) (by omega) fun E d=>?_
  have g:=f.ext d
  have n:=g.sl
  simp(disch:=first|(simp only[push_cast];done)|omega) only[push_cast,n.iaddr]
  refine Own.stCell g rfl rfl QN (i:=i) (j:=0) (by omega) (by decide) fun F l p y=>?_
  rw[inc_wrap (by omega) (by omega)]
  refine Own.stCell l rfl rfl jx (i:=i) (j:=1) (by rw[List.length_set];omega) (by decide) fun G m q z=>?_
  rw[inc_wrap (by omega) (by omega),inc64' (by omega)]
  refine s (by omega) _ _ ⟨by rw[show k+2*(i:Int)+1+1=k+2*((i+1:Nat):Int) by omega],h.trans ((Same.of_ext d).trans (p.trans q)),_,by rw[List.length_set,List.length_set];exact e,m⟩
 ·have:i=css.length:=by omega
  subst this
  exact t _ h
end Go.Proofs.YtaekfnbnhjgboaaGreatDoor
end
section
namespace Go.Proofs.YtaekfnbnhjgboaaGreatDoor
open Go Go.Vc Go.Proofs
variable {w:World} {K:Value→World→Prop} {F F' D G:Nat→Prop}
inductive Held:List M.Tm→Int→Int→Prop
 |nil (k:Int):Held [] k k
 |cons {t:M.Tm} {us:List M.Tm} {k m n:Int}:t.op=k→t.a=k+1→t.b=k+2→t.s=We (k+3).toNat→Held t.ks (k+4) m→Held us m n→Held (t::us) k n
theorem kA0 {us:List M.Tm} {k m n:Int} {t:M.Tm} (h:Held us k m) (f:t.op=m) (g:t.a=m+1) (i:t.b=m+2) (j:t.s=We (m+3).toNat) (l:Held t.ks (m+4) n):Held (us++[t]) k n:=by
 induction h with
 |nil k=>exact .cons f g i j l (.nil _)
 |cons a b c d e _ _ o=>exact .cons a b c d e (o f g i j l)
abbrev MarkT (t:M.Tm):Prop:=∀{w:World} {K:Value→World→Prop} {D:Nat→Prop} {kv:Value} {css:List (List Value)} {Ds:Nat→Nat→Prop} {k:Int},Yd0 w D kv t.ks css Ds→0≤k→k+4*M.szT t.ks t.ks.length<4611686018427387904→
 (∀w' us css',Same D w w'→Yd0 w' D kv us css' Ds→us.length=t.ks.length→Held us k (k+4*M.szT t.ks t.ks.length)→K (.int .i64 (k+4*M.szT t.ks t.ks.length)) w')→vcall PP j8 #[kv,.int .i64 k] w K
theorem ZB0 {us:List M.Tm} {i:Nat} {u:M.Tm} (h:i<us.length):(us.set i u).take (i+1)=us.take i++[u]:=by
 rw[M.take_add (by rw[List.length_set];exact h) default,List.take_set_of_le (Nat.le_refl _),jQ h,if_pos rfl]
theorem markTermS_spec:∀t:M.Tm,MarkT t:=by
 refine M.Tm.ind fun t ih=>?_
 intro w K D kv css Ds k h h0 hk hK
 apply Uk
 refine vloop_up t.ks.length (fun i u w'=>u=[.int .i64 (k+4*M.szT t.ks i),.int .i64 i]∧Same D w w'∧∃us F,us.length=t.ks.length∧Yd0 w' D kv us F Ds∧Held (us.take i) k (k+4*M.szT t.ks i)∧∀j,i≤j→us.getD j default=t.ks.getD j default)
  ⟨by show _=[Value.int .i64 (k+4*((0:Nat):Int)),_];simp,Same.refl _ _,t.ks,css,rfl,h,by rw[List.take_zero];show Held [] k (k+4*((0:Nat):Int));simpa using Held.nil k,fun j _=>rfl⟩ ?_
 rintro i _ _ w1 C hi ⟨rfl,O,us,d,l,hT,Q,n⟩ hC
 have U:=hT
 obtain⟨own1,L,f,A,p,g⟩:=U
 have o:=own1.sl
 have a4:=o.small
 simp(disch:=(simp only[push_cast];done)) only[push_cast,o.len,L,l]
 refine zh (fun a=>?_) (fun a=>?_)
 ·have q:i<t.ks.length:=by omega
  have a8:=M.szT_succ q
  have W:=M.szT_mono (ks:=t.ks) (i:=i+1) (j:=t.ks.length) (by omega) (Nat.le_refl _)
  have a7:=M.szT_all (t.ks.getD i default)
  obtain⟨m,hm⟩:∃m:Int,m=k+4*M.szT t.ks i:=⟨_,rfl⟩
  have a5:0≤m:=by omega
  have a6:m+10+4*M.szT (t.ks.getD i default).ks (t.ks.getD i default).ks.length<4611686018427387914:=by omega
  have B:m+4+4*M.szT (t.ks.getD i default).ks (t.ks.getD i default).ks.length=k+4*M.szT t.ks (i+1):=by omega
  simp only[←hm]
  simp(disch:=first|(simp only[push_cast];done)|omega) only[push_cast,o.iaddr]
  have I:=g i (by omega)
  rw[n i (Nat.le_refl _)] at I
  obtain⟨kvi,cssi,Dsi,ei,hp⟩:=kb0 I
  refine Own.stCell own1 rfl rfl jx (i:=i) (j:=0) (by omega) (by decide) fun w2 r Z a9=>?_
  rw[ei] at r
  rw[inc_wrap (by omega) (by omega)]
  refine Own.stCell r rfl rfl jx (i:=i) (j:=1) (by rw[List.length_set];omega) (by decide) fun w3 s a0 aa=>?_
  rw[jQ (by omega),if_pos rfl,List.set_set] at s
  rw[inc_wrap (by omega) (by omega)]
  refine Own.stCell s rfl rfl jx (i:=i) (j:=2) (by rw[List.length_set];omega) (by decide) fun w4 v a1 ab=>?_
  rw[jQ (by omega),if_pos rfl,List.set_set] at v
  rw[inc_wrap (by omega) (by omega),show m+1+1=m+2 by omega,show m+2+1=m+3 by omega]
  refine markText_int (by omega) (by omega) fun w5 H=>?_
  have P:=v.ext H
  refine Own.stCell P rfl rfl QN (i:=i) (j:=3) (by rw[List.length_set];omega) (by decide) fun w6 c a2 ac=>?_
  rw[jQ (by omega),if_pos rfl,List.set_set] at c
  rw[inc_wrap (by omega) (by omega),show m+3+1=m+4 by omega]
  rw[show m+1+1=m+2 by omega] at c
  replace c:Own PP 0 5 zr w6 kv (d.set i [.int .i64 m,.int .i64 (m+1),.int .i64 (m+2),.string (We (m+3).toNat),kvi]):=c
  have V:i<(d.set i [Value.int .i64 m,.int .i64 (m+1),.int .i64 (m+2),.string (We (m+3).toNat),kvi]).length:=by rw[List.length_set];omega
  rw[Sl.ldField c.sl xO0 V (x:=kvi) (j:=4) (by rw[jQ (by omega),if_pos rfl];rfl)]
  have y:Same (fun b=>kv.ownBlock=some b) w1 w6:=Z.trans (a0.trans (a1.trans ((Same.of_ext H).trans a2)))
  have X:=KU hp y fun b z e=>(f b e).2 i (by omega) z
  have N:t.ks.getD i default∈t.ks:=M.getD_mem q _
  refine ih _ N X (by omega) (by omega) fun w7 ui R E Y a3 G=>?_
  rw[B] at G⊢
  rw[inc64' (by omega)]
  have T:Same D w1 w7:=(y.mono fun b _ e=>(f b e).1).trans (E.mono fun b _ e=>p i b (by omega) e)
  have S:Same (fun b=>kv.ownBlock=some b∨Ds i b) w1 w7:=(y.mono fun b _ e=> .inl e).trans (E.mono fun b _ e=> .inr e)
  refine hC (by omega) _ _ ⟨rfl,O.trans T,us.set i (.mk m (m+1) (m+2) (We (m+3).toNat) ui),d.set i [.int .i64 m,.int .i64 (m+1),.int .i64 (m+2),.string (We (m+3).toNat),kvi],by rw[List.length_set];exact l,⟨c.same E fun b z e=>(f b z).2 i (by omega) e,by rw[List.length_set,List.length_set];exact L,?_,?_,?_,fun j J=>?_⟩,?_,fun j J=>?_⟩
  ·rw[List.length_set];exact f
  ·rw[List.length_set];exact A
  ·rw[List.length_set];exact p
  ·rw[List.length_set] at J
   rw[jQ (by omega),jQ (by omega)]
   by_cases e:i=j
   ·subst e
    rw[if_pos rfl,if_pos rfl]
    exact Yi0 (t:= .mk m (m+1) (m+2) (We (m+3).toNat) ui) Y
   ·rw[if_neg e,if_neg e]
    refine QO S _ (g j J) fun b z hs=>?_
    rcases hs with hs|hs
    ·exact(f b hs).2 j J z
    ·rcases Nat.lt_or_gt_of_ne e with h|h
     ·exact A i j b h J hs z
     ·exact A j i b h (by omega) z hs
  ·rw[ZB0 (by omega)]
   rw[←hm] at Q
   exact kA0 Q rfl rfl rfl rfl G
  ·rw[jQ (by omega),if_neg (by omega)]
   exact n j (by omega)
 ·have q:i=t.ks.length:=by omega
  subst q
  rw[←l,List.take_length,l] at Q
  exact hK _ us d O hT l Q
end Go.Proofs.YtaekfnbnhjgboaaGreatDoor
end
section
namespace Go.Proofs.YtaekfnbnhjgboaaGreatDoor
open Go Go.Vc Go.Proofs Go.M
variable {w:World} {K:Value→World→Prop} {F Fr F':Nat→Prop} {N:Nat} {c:Cnf}
theorem xW0 {xs ys:List Int} (c:xs.length=ys.length) (h:∀j,j<xs.length→xs.getD j 0=ys.getD j 0):xs=ys:=
 List.ext_getElem c fun j a b=>by have:=h j a;simpa[List.getD_eq_getElem?_getD,a,b] using this
theorem xX0 {xs ys:List (List Int)} (c:xs.length=ys.length) (h:∀j,j<xs.length→xs.getD j []=ys.getD j []):xs=ys:=
 List.ext_getElem c fun j a b=>by have:=h j a;simpa[List.getD_eq_getElem?_getD,a,b] using this
theorem Va {α:Type} {xs:List α} {i j:Nat} {x d:α} (hi:i<xs.length):(xs.set i x).getD j d=if i=j then x else xs.getD j d:=by
 simp only[List.getD_eq_getElem?_getD,List.getElem?_set]
 by_cases e:i=j
 ·subst e;simp[hi]
 ·simp[e]
theorem _root_.Go.Vc.Ints.small {v:Value} {xs:List Int} (h:Ints F w v xs):xs.length≤9223372036854775807:=by
 obtain⟨_,_,_,a,b,_⟩:=h.shape;simp at a;omega
theorem _root_.Go.Vc.Vals.small {v:Value} {xs:List Value} (h:Vals F w v xs):xs.length≤9223372036854775807:=by
 obtain⟨_,_,_,a,b,_⟩:=h.shape;simp at a;omega
def tot:List (List Int)→Nat
 |[]=>0
 |x::xs=>x.length+tot xs
theorem tot_app (a b:List (List Int)):tot (a++b)=tot a+tot b:=by
 induction a with
 |nil=>simp[tot]
 |cons x a c=>simp[tot,c];omega
theorem j30 {xss:List (List Int)} {i:Nat} (h:i<xss.length):tot (xss.take (i+1))=tot (xss.take i)+(xss.getD i []).length:=by
 rw[ju0 (d:=[]) h,tot_app];simp[tot]
theorem tot_le (xss:List (List Int)) (i:Nat):tot (xss.take i)≤tot xss:=by
 have:=tot_app (xss.take i) (xss.drop i)
 rw[List.take_append_drop] at this
 omega
def ki0 (k n:Nat):List Int:=(List.range n).map fun j=>((k+j:Nat):Int)
theorem j70 (k n:Nat):(ki0 k n).length=n:=by simp[ki0]
theorem j80 {k n j:Nat} (h:j<n):(ki0 k n).getD j 0=((k+j:Nat):Int):=by
 simp[ki0,List.getD_eq_getElem?_getD,h]
section
variable {ls:List Value} {xss:List (List Int)} {w':World} {S:Nat→Prop}
theorem RowsR.setRow {i:Nat} {ys:List Int} (h:RowsR N Fr w ls xss) (hi:i<xss.length) (hw:Same (fun b=>(ls.getD i undef).ownBlock=some b) w w') (m:OwnI PP zg w' (ls.getD i undef) ys):RowsR N Fr w' ls (xss.set i ys):=by
 refine⟨Nat.le_trans h.nle hw.size,fun j d=>?_,fun j b d f=>h.sub j b (by simpa using d) f,fun j k b g l=>h.dj j k b g (by simpa using l)⟩
 rw[List.length_set] at d
 rw[Va hi]
 by_cases e:i=j
 ·subst e;rw[if_pos rfl];exact m
 ·rw[if_neg e]
  refine(h.own j d).same hw fun b f c=>?_
  rcases Nat.lt_or_gt_of_ne e with a|a
  ·exact h.dj i j b a d c f
  ·exact h.dj j i b a hi f c
end
theorem eqIntS_spec {va vb:Value} {a b:List Int} (m:Ints F w va a) (o:Ints F' w vb b) (l:∀w',Ext w w'→K (.bool (decide (a=b))) w'):vcall PP Xl #[va,vb] w K:=by
 apply xp0
 have s:=m.small
 simp(disch:=(simp only[push_cast];done)) only[push_cast,m.len,o.len]
 refine zh (fun h=>?_) (fun h=>?_)
 ·have:=l w (Same.refl _ _)
  rwa[decide_eq_false (fun e=>h (by rw[e]))] at this
 refine vloop_up a.length (fun i u w'=>u=[.int .i64 i]∧Ext w w'∧∀j,j<i→a.getD j 0=b.getD j 0) ⟨rfl,Same.refl _ _,by omega⟩ ?_
 rintro i _ _ t C hi ⟨rfl,he,p⟩ r
 have d:=m.ext he
 have n:=o.ext he
 simp(disch:=(simp only[push_cast];done)) only[push_cast,d.len]
 refine zh (fun q=>?_) (fun q=>?_)
 ·refine zw fun v c _=>?_
  have f:=d.ext c
  have g:=n.ext c
  simp(disch:=first|(simp only[push_cast];done)|omega) only[push_cast,f.iaddr,f.load,g.iaddr,g.load,true_and]
  refine zh (fun k=>?_) (fun k=>?_)
  ·have:=l v (he.trans c)
   rwa[decide_eq_false (fun e=>k (by rw[e]))] at this
  ·rw[inc64' (by omega)]
   refine r (by omega) _ _ ⟨rfl,he.trans c,fun j y=>?_⟩
   by_cases e:j=i
   ·subst e;simpa using k
   ·exact p j (by omega)
 ·have:=l t he
  rwa[decide_eq_true (xW0 (by omega) fun j x=>p j (by omega))] at this
theorem eqIntSS_spec {va vb:Value} {a b:List (List Int)} (z:Lists F w va a) (A:Lists F' w vb b) (n:∀w',Ext w w'→K (.bool (decide (a=b))) w'):vcall PP Yx #[va,vb] w K:=by
 apply y30
 obtain⟨t,has,hav,o⟩:=z
 obtain⟨v,r,k,q⟩:=A
 have B:=hav.small
 simp(disch:=(simp only[push_cast];done)) only[push_cast,hav.len,k.len]
 refine zh (fun h=>?_) (fun h=>?_)
 ·have:=n w (Same.refl _ _)
  rwa[decide_eq_false (fun e=>h (by rw[has,r,e]))] at this
 refine vloop_up a.length (fun i u w'=>u=[.int .i64 i]∧Ext w w'∧∀j,j<i→a.getD j []=b.getD j []) ⟨rfl,Same.refl _ _,by omega⟩ ?_
 rintro i _ _ D C hi ⟨rfl,he,s⟩ y
 have d:=hav.ext he
 have p:=k.ext he
 simp(disch:=(simp only[push_cast];done)) only[push_cast,d.len]
 refine zh (fun x=>?_) (fun x=>?_)
 ·refine zw fun I c _=>?_
  have f:=d.ext c
  have g:=p.ext c
  simp(disch:=first|(simp only[push_cast];done)|omega) only[push_cast,f.iaddr,f.load,g.iaddr,g.load,true_and]
  refine eqIntS_spec ((o i (by omega)).ext (he.trans c)) ((q i (by omega)).ext (he.trans c)) fun E l=>?_
  simp only[push_cast,true_and]
  refine yo (fun m=>?_) (fun m=>?_)
  ·have:=n E (he.trans (c.trans l))
   rwa[decide_eq_false (fun e=>by rw[e] at m;simp at m)] at this
  ·rw[inc64' (by omega)]
   refine y (by omega) _ _ ⟨rfl,he.trans (c.trans l),fun j H=>?_⟩
   by_cases e:j=i
   ·subst e;simpa using m
   ·exact s j (by omega)
 ·have:=n D he
  rwa[decide_eq_true (xX0 (by omega) fun j G=>s j (by omega))] at this
theorem markIntS_specX {v:Value} {xs:List Int} {k:Nat} (x:OwnI PP zg w v xs) (A:k≤4611686018427387904) (t:xs.length≤1048576)
  (n:∀w',Same (fun b=>v.ownBlock=some b) w w'→w'.heap.size=w.heap.size→OwnI PP zg w' v (ki0 k xs.length)→K (.int .i64 (k+xs.length:Nat)) w'):vcall PP Zy #[v,.int .i64 k] w K:=by
 apply zd0
 refine vloop_up xs.length (fun i u w'=>u=[.int .i64 (k+i:Nat),.int .i64 i]∧Same (fun b=>v.ownBlock=some b) w w'∧w'.heap.size=w.heap.size∧∃ys:List Int,ys.length=xs.length∧OwnI PP zg w' v ys∧∀j,j<i→ys.getD j 0=((k+j:Nat):Int)) ⟨by simp,Same.refl _ _,rfl,xs,rfl,x,by omega⟩ ?_
 rintro i _ _ z C hi ⟨rfl,d,m,ys,o,c,p⟩ r
 have f:=c.ints
 simp(disch:=(simp only[push_cast];done)) only[push_cast,f.len]
 refine zh (fun a=>?_) (fun a=>?_)
 ·simp(disch:=first|(simp only[push_cast];done)|omega) only[push_cast,f.iaddr]
  refine c.st jx (by omega) fun B l h y=>?_
  have q:IntKind.i64.wrap (((k+i:Nat):Int)+1)=((k+(i+1):Nat):Int):=by rw[zH (by omega) (by omega)];omega
  rw[inc64' (by omega)]
  refine r (by omega) _ _ ⟨by rw[←q];simp,d.trans h,by omega,_,by rw[List.length_set];exact o,l,fun j s=>?_⟩
  rw[Va (by omega)]
  by_cases e:i=j
  ·subst e;rw[if_pos rfl];simp
  ·rw[if_neg e];exact p j (by omega)
 ·have g:i=xs.length:=by omega
  subst g
  have:ys=ki0 k xs.length:=xW0 (by rw[j70];exact o) fun j s=>by rw[j80 (by omega)];exact p j (by omega)
  rw[←this] at n
  exact n z d m c
theorem heldIntS_specX {v:Value} {k n:Nat} (m:Ints F w v (ki0 k n)) (p:k≤4611686018427387904) (l:n≤1048576) (h:∀w',Ext w w'→K (.int .i64 (k+n:Nat)) w'):vcall PP Zz #[v,.int .i64 k] w K:=by
 apply ze0
 have j:=j70 k n
 refine vloop_up n (fun i u w'=>u=[.int .i64 (k+i:Nat),.int .i64 i]∧Ext w w') ⟨by simp,Same.refl _ _⟩ ?_
 rintro i _ _ o C hi ⟨rfl,c⟩ g
 have d:=m.ext c
 simp(disch:=(simp only[push_cast];done)) only[push_cast,d.len]
 refine zh (fun a=>?_) (fun a=>?_)
 ·simp(disch:=first|(simp only[push_cast];done)|omega) only[push_cast,d.iaddr,d.load]
  refine zh (fun b=>absurd (by rw[j80 (by omega)];simp) b) (fun b=>?_)
  have f:IntKind.i64.wrap (((k+i:Nat):Int)+1)=((k+(i+1):Nat):Int):=by rw[zH (by omega) (by omega)];omega
  rw[inc64' (by omega)]
  exact g (by omega) _ _ ⟨by rw[←f];simp,c⟩
 ·have e:i=n:=by omega
  subst e
  exact h o c
def yJ0 (k:Nat) (xss:List (List Int)):List (List Int):=(List.range xss.length).map fun j=>ki0 (k+tot (xss.take j)) (xss.getD j []).length
theorem KZ (k:Nat) (xss:List (List Int)):(yJ0 k xss).length=xss.length:=by simp[yJ0]
theorem xJ0 {k j:Nat} {xss:List (List Int)} (h:j<xss.length):(yJ0 k xss).getD j []=ki0 (k+tot (xss.take j)) (xss.getD j []).length:=by
 simp[yJ0,List.getD_eq_getElem?_getD,h]
theorem markIntSS_spec {v:Value} {vs:List Value} {xss:List (List Int)} {k:Nat} (G:OwnV PP zB w v vs) (A:RowsR N Fr w vs xss) (L:vs.length=xss.length) (hF:∀b,Fr b→v.ownBlock≠some b) (J:k≤4611686018427387904-1048576) (D:tot xss≤1048576) (B:xss.length≤1048576)
  (z:∀w',Same (fun b=>Fr b∧N≤b) w w'→w'.heap.size=w.heap.size→OwnV PP zB w' v vs→RowsR N Fr w' vs (yJ0 k xss)→K (.int .i64 (k+tot xss:Nat)) w'):vcall PP kY #[v,.int .i64 k] w K:=by
 apply Ul
 refine vloop_up xss.length (fun i u w'=>u=[.int .i64 (k+tot (xss.take i):Nat),.int .i64 i]∧Same (fun b=>Fr b∧N≤b) w w'∧w'.heap.size=w.heap.size∧OwnV PP zB w' v vs∧∃yss:List (List Int),yss.length=xss.length∧RowsR N Fr w' vs yss∧(∀j,j<i→yss.getD j []=ki0 (k+tot (xss.take j)) (xss.getD j []).length)∧∀j,i≤j→yss.getD j []=xss.getD j []) ⟨by simp[tot],Same.refl _ _,rfl,G,xss,rfl,A,by omega,fun _ _=>rfl⟩ ?_
 rintro i _ _ I C hi ⟨rfl,m,q,g,yss,n,c,t,x⟩ y
 have h:=g.vals
 simp(disch:=(simp only[push_cast];done)) only[push_cast,h.len]
 refine zh (fun a=>?_) (fun a=>?_)
 ·simp(disch:=first|(simp only[push_cast];done)|omega) only[push_cast,h.iaddr,h.load]
  have F:=j30 (xss:=xss) (i:=i) (by omega)
  have E:=tot_le xss (i+1)
  have s:=c.own i (by omega)
  rw[x i (Nat.le_refl _)] at s
  refine markIntS_specX s (by omega) (by omega) fun M f H p=>?_
  simp only[push_cast]
  rw[inc64' (by omega)]
  have d:∀b,(vs.getD i undef).ownBlock=some b→Fr b∧N≤b:=fun b l=>c.sub i b (by omega) l
  refine y (by omega) _ _ ⟨?_,m.trans (f.mono fun b _ l=>d b l),by omega,g.same f fun b l e=>hF b (d b e).1 l,yss.set i (ki0 (k+tot (xss.take i)) (xss.getD i []).length),by rw[List.length_set];exact n,c.setRow (by omega) f p,fun j r=>?_,fun j r=>?_⟩
  ·rw[show(k:Int)+(tot (xss.take i):Int)+((xss.getD i []).length:Int)=((k+tot (xss.take (i+1)):Nat):Int) by omega]
  ·rw[Va (by omega)]
   by_cases e:i=j
   ·subst e;rw[if_pos rfl]
   ·rw[if_neg e];exact t j (by omega)
  ·rw[Va (by omega),if_neg (by omega)];exact x j (by omega)
 ·have o:i=xss.length:=by omega
  subst o
  have e:yss=yJ0 k xss:=xX0 (by rw[KZ];exact n) fun j r=>by rw[xJ0 (by omega)];exact t j (by omega)
  rw[e] at c
  rw[List.take_length]
  exact z I m q g c
theorem heldIntSS_spec {v:Value} {xss:List (List Int)} {k:Nat} (s:Lists F w v (yJ0 k xss)) (x:k≤4611686018427387904-1048576) (p:tot xss≤1048576) (o:xss.length≤1048576)
  (n:∀w',Ext w w'→K (.int .i64 (k+tot xss:Nat)) w'):vcall PP Z0 #[v,.int .i64 k] w K:=by
 apply Un
 obtain⟨es,g,h,f⟩:=s
 rw[KZ] at g
 refine vloop_up xss.length (fun i u w'=>u=[.int .i64 (k+tot (xss.take i):Nat),.int .i64 i]∧Ext w w') ⟨by simp[tot],Same.refl _ _⟩ ?_
 rintro i _ _ t C hi ⟨rfl,c⟩ m
 have b:=h.ext c
 simp(disch:=(simp only[push_cast];done)) only[push_cast,b.len]
 refine zh (fun a=>?_) (fun a=>?_)
 ·simp(disch:=first|(simp only[push_cast];done)|omega) only[push_cast,b.iaddr,b.load]
  have r:=j30 (xss:=xss) (i:=i) (by omega)
  have q:=tot_le xss (i+1)
  have l:=(f i (by rw[KZ];omega)).ext c
  rw[xJ0 (by omega)] at l
  refine heldIntS_specX l (by omega) (by omega) fun y d=>?_
  simp only[push_cast]
  refine zh (fun e=>absurd e (by omega)) (fun _=>?_)
  rw[inc64' (by omega)]
  refine m (by omega) _ _ ⟨?_,c.trans d⟩
  rw[show(k:Int)+(tot (xss.take i):Int)+((xss.getD i []).length:Int)=((k+tot (xss.take (i+1)):Nat):Int) by omega]
 ·have j:i=xss.length:=by omega
  subst j
  rw[List.take_length]
  exact n t c
theorem QY {va vb:Value} (o:CnfR F w va c) (p:CnfR F' w vb c) (n:∀w',Ext w w'→K (.bool true) w'):vcall PP jt #[va,vb] w K:=by
 apply qp0
 obtain⟨v0,rfl,l⟩:=o
 obtain⟨v1,rfl,m⟩:=p
 refine j7 fun b1 v q g s d=>?_
 refine j7 fun b2 k r a t f=>?_
 have i:Blk k b1 [.int .i64 c.many,v0] zl:=d.ext a
 have j:Blk k b2 [.int .i64 c.many,v1] zl:=f
 have b:=g.trans a
 simp(disch:=(simp only[push_cast];done)) only[push_cast,i.ld0,i.ld1,j.ld0,j.ld1]
 refine yo (fun e=>by simp at e) (fun _=>?_)
 refine eqIntSS_spec (l.ext b) (m.ext b) fun u h=>?_
 rw[decide_eq_true rfl]
 simp only[push_cast]
 exact yo (fun e=>by cases e) (fun _=>n u (b.trans h))
end Go.Proofs.YtaekfnbnhjgboaaGreatDoor
end
section
namespace Go.Proofs.YtaekfnbnhjgboaaGreatDoor
open Go Go.Vc Go.Proofs
open Go.ChangeShapes Go.WideShapes Go.ChangeAt Go.RowKit
section
variable {H:Type} {enc:TypeId×Value→H} {W:World} {cs:List Value} {x:DataW H×List MemPlace} {held:Bool} {fuel:Nat}
theorem terms_in (h:DataW.trod enc PP W 0 (fun _=>true) held fuel yr cs=some x):∃v ks,cs=[v]∧TmsR (fun _=>True) W v ks∧∀k,k∈ks→Wa k=true:=by
 rcases DataW.trod_slice XT h with⟨rfl,_⟩|⟨a,len,cap,elems,rest,n,_,rfl,_,_,e,hm,f,b,_,_⟩
 ·exact⟨_,[],rfl,TmsR.nil,fun k c=>by cases c⟩
 ·obtain⟨css,ys,hs,j,l,d⟩:=each_in (α:=M.Tm) (R:=fun cs t=>TmR (fun _=>True) W cs t∧Wa t=true) qV0 (by decide) e hm f b fun cs x g=>term_in _ g
  refine⟨_,ys,rfl,⟨css,hs,by omega,fun i hi=>(d i (by omega)).1⟩,fun k c=>?_⟩
  obtain⟨i,hi,rfl⟩:=List.getElem_of_mem c
  have:=(d i (by omega)).2
  rwa[List.getD_eq_getElem?_getD,List.getElem?_eq_getElem hi] at this
end
end Go.Proofs.YtaekfnbnhjgboaaGreatDoor
end
section
namespace Go.Proofs.YtaekfnbnhjgboaaGreatDoor
open Go Go.Vc Go.Proofs
variable {w:World} {K:Value→World→Prop} {D F F' G:Nat→Prop} {N:Nat} {dv tv lv:Value} {ls:List Value} {c:M.Cnf} {ds:List M.Dcl} {ts:List M.Tm} {ar ab at_:Addr}
def yM0 (k:Nat) (c:M.Cnf):M.Cnf:=⟨c.many,yJ0 k c.list⟩
theorem markCnf_o {k:Nat} (g:CnfO N w lv ls c) (v:k≤1048577) (n:c.list.length≤1048576) (o:tot c.list≤1048576)
  (p:∀w',Same (fun b=>Owns ls c.list.length b) w w'→CnfO N w' lv ls (yM0 k c)→K (.int .i64 (k+tot c.list:Nat)) w'):vcall PP Yw #[.agg #[.int .i64 c.many,lv],.int .i64 k] w K:=by
 apply y00
 refine j7 fun b1 t q f r h=>?_
 have m:Blk t b1 [.int .i64 c.many,lv] zl:=h
 simp(disch:=(simp only[push_cast];done)) only[push_cast,m.ld1]
 have e:=g.ext f
 refine markIntSS_spec e.lst e.rows.owned g.len (fun b d=>d.1) (by omega) o n fun u l s j a=>?_
 refine p u ((Same.of_ext f).trans (l.mono fun b _ d=>d.1.2)) ⟨j,?_,g.dl,⟨a.nle,a.own,fun i b hi d=>⟨(a.sub i b hi d).1.1,(a.sub i b hi d).2⟩,a.dj⟩⟩
 show ls.length=(yJ0 k c.list).length
 rw[KZ];exact g.len
theorem heldCnf_o {k:Nat} (o:CnfR F w (.agg #[.int .i64 c.many,lv]) (yM0 k c)) (s:k≤1048577) (j:c.list.length≤1048576) (l:tot c.list≤1048576)
  (m:∀w',Ext w w'→K (.int .i64 (k+tot c.list:Nat)) w'):vcall PP kC #[.agg #[.int .i64 c.many,lv],.int .i64 k] w K:=by
 apply y10
 obtain⟨b,e,p⟩:=o
 have i:lv=b:=(by simpa using e:c.many=(yM0 k c).many∧lv=b).2
 subst i
 refine j7 fun b1 r n a q d=>?_
 have g:Blk r b1 [.int .i64 c.many,lv] zl:=d
 simp(disch:=(simp only[push_cast];done)) only[push_cast,g.ld1]
 refine heldIntSS_spec (p.ext a) (by omega) l j fun t f=>?_
 simp only[push_cast]
 exact zh (fun h=>absurd h (by omega)) (fun _=>m _ (a.trans f))
theorem Y70 (h:CnfO N w lv ls c) {b:Nat} (a:Owns ls c.list.length b):N≤b∧b<w.heap.size:=by
 obtain⟨i,hi,e⟩:=a
 exact⟨(h.rows.sub i b hi e).2,(h.rows.own i hi).lt e⟩
theorem tot_three {xss:List (List Int)} (h:∀x,x∈xss→x.length≤3):tot xss≤3*xss.length:=by
 induction xss with
 |nil=>simp[tot]
 |cons x r b=>
  have c:=h x List.mem_cons_self
  have d:=b fun y a=>h y (List.mem_cons_of_mem _ a)
  simp only[tot,List.length_cons]
  omega
theorem cnf_small (ds:List M.Dcl) (ts:List M.Tm):(cnfE ds ts).1.list.length≤2500∧tot (cnfE ds ts).1.list≤7500:=by
 have key:(cnfE ds ts).1.list.length≤2500∧∀x,x∈(cnfE ds ts).1.list→x.length≤3:=by
  unfold cnfE
  split
  ·rename_i h
   obtain⟨l,c,g⟩:=all8_iff.1 h
   cases j:M.listB ds ts with
   |none=>exact⟨by simp,fun x f=>by cases f⟩
   |some r=>
    have e:=M.list_says c (fun t k=>by rw[(xH0 (g t k)).1];decide) j
    have b:=M.blastC_ok c e (by omega)
    unfold M.cnfOk at b
    simp only[Bool.and_eq_true,decide_eq_true_eq] at b
    refine⟨by simpa using b.1.2,fun x f=>?_⟩
    have a:x∈[1]::(M.gatesC (M.nIn ds) r.1 0++M.rootsC r.2):=f
    rcases List.mem_cons.1 a with rfl|a
    ·simp
    rcases List.mem_append.1 a with a|a
    ·obtain⟨i,hi,d⟩:=M.mem_gates.1 a
     unfold M.gateC at d
     split at d<;>simp only[List.mem_cons,List.not_mem_nil,or_false] at d
     ·rcases d with rfl|rfl|rfl|rfl<;>simp
     ·rcases d with rfl|rfl|rfl<;>simp
    ·unfold M.rootsC at a
     obtain⟨m,_,rfl⟩:=List.mem_map.1 a
     simp
  ·exact⟨by simp,fun x f=>by cases f⟩
 have:=tot_three key.2
 omega
abbrev kidsT (ts:List M.Tm):M.Tm:= .mk 0 0 0 ⟨#[]⟩ ts
theorem FnExactBlastCnf_spec (hd:DclsR F w dv ds) (hz:qz0 ds) (ht:TmsR F' w tv ts) (hs:∀k,k∈ts→Wa k=true) (bb:Errs (fun _=>False) w ar ab) (bm:Sent w yy at_) (hK:∀w',Ext w w'→K (.bool true) w'):vcall PP jX #[dv,tv] w K:=by
 have cu:=cnf_small ds ts
 have gC:∀{w':World} {b:Nat} {lv:Value} {c:M.Cnf} {K:Value→World→Prop},Blk w' b [.int .i64 c.many,lv] zl→zf PP zl (.pointer (some ⟨b,0,none⟩)) w' K=K (.agg #[.int .i64 c.many,lv]) w':=fun h=>h.ldAgg (t:=zl) yh
 apply XJ
 refine szDeclS_spec (by decide) (by decide) hz hd fun w1 r G hr=>?_
 simp only[push_cast]
 refine zh (fun _=>hK _ G) (fun c=>?_)
 rcases hr with h|⟨r0,r1,r2⟩
 ·omega
 refine szTermS_of (fun k _=>szTerm_spec k) (ht.ext G) hs r0 r1 fun w2 r' bw bz=>?_
 have ag:=G.trans bw
 simp only[push_cast]
 refine zh (fun _=>hK _ ag) (fun c'=>?_)
 rcases bz with h|⟨d2,d3,d4,v⟩
 ·omega
 have W:ds.length≤1048576:=by omega
 have X:ts.length≤1048576:=by omega
 refine XV (hd.ext ag) W fun w3 cs bx bv=>?_
 have b1:=ag.trans bx
 refine toTermS_of (fun k _=>toTerm_spec k) (ht.ext b1) X v fun w4 d5 bg c0=>?_
 have br:=b1.trans bg
 refine spec_BlastCnf_spec hz (bv.ext bg) c0 fun w5 d1 d0 bh bu=>?_
 have bs:=br.trans bh
 simp only[push_cast]
 refine cnf_new bu fun w6 b6 ct bi U ai=>?_
 have ah:=bs.trans bi
 have au:=U.lt
 have cv:=bh.size;have cw:=bi.size
 refine toDeclS_own (hd.ext ah) W fun w7 x0 an Y R=>?_
 have b2:=ah.trans an
 have cx:=an.size
 have ad:∀b,x0.ownBlock=some b→b<w7.heap.size:=fun b hb=>(Y.lt hb).2
 refine toTermS_own (fun k _=>toTerm_own k) (ht.ext b2) X v fun w8 x1 ca cp z al=>?_
 have V:=b2.trans z
 have cy:=z.size
 refine BlastCnf_spec (Y.sl.ext z) (Yh0 al) (bb.ext0 V) (bm.same V id) fun w9 c4 c3 P b7=>?_
 have bt:=V.trans P
 have cz:=P.size
 simp only[push_cast]
 refine cnf_new b7 fun w10 cq cd n a0 a8=>?_
 have av:=bt.trans n
 have cf:=n.size
 have o:Ext w6 w10:=an.trans (z.trans (P.trans n))
 have heq:∀{w':World} {va vb:Value} {la lb:List Value} {Na Nb:Nat} {Kc A B:World→Prop},CnfO Na w' va la (cnfE ds ts).1→CnfO Nb w' vb lb (cnfE ds ts).1→(∀w'',Ext w' w''→Kc w'')→vcall PP jt #[.agg #[.int .i64 (cnfE ds ts).1.many,va],.agg #[.int .i64 (cnfE ds ts).1.many,vb]] w' fun t c9=>
   vun PP .not t c9 fun t bn=>vif t (A bn) (Kc bn):=fun{w'} {_} {_} {_} {_} {_} {_} {Kc} {A} {_} h1 h2 h3=>by
  refine QY h1.cnf h2.cnf fun w1 G=>?_
  simp only[push_cast,Bool.not_true]
  exact h3 _ G
 refine y5 (fun u w'=>u=[]∧Ext w10 w') (fun C hC=>?_) ?_
 ·rw[gC a0,gC (U.ext o)]
  refine QY a8.cnf (ai.ext o).cnf fun c5 f=>?_
  simp only[push_cast,Bool.not_true]
  refine yo (fun h=>by simp at h) (fun _=>?_)
  exact hC _ _ ⟨rfl,f⟩
 rintro _ _ c5 ⟨rfl,f⟩
 have a2:=av.trans f
 refine XV (hd.ext a2) W fun c6 cb s b9=>?_
 have aw:=a2.trans s
 have ao:Ext w7 c6:=z.trans (P.trans (n.trans (f.trans s)))
 refine eqDeclS_same (ds:=ds) (Y.sl.ext ao) b9 fun d6 H=>?_
 simp only[push_cast,Bool.not_true]
 have a3:=aw.trans H
 refine toTermS_of (fun k _=>toTerm_spec k) (ht.ext a3) X v fun c7 cm I bk=>?_
 have ax:=a3.trans I
 have O:Ext w8 c7:=P.trans (n.trans (f.trans (s.trans (H.trans I))))
 refine eqTermS_of (fun k _=>qP0 k) ((Yh0 al).ext O) bk fun ap J=>?_
 simp only[push_cast,Bool.not_true]
 have ay:=ax.trans J
 have p:=O.trans J
 have m:Ext w10 ap:=f.trans (s.trans (H.trans (I.trans J)))
 have c2:=p.size
 have bo:=m.size
 refine markDeclS_spec ((Y.ext z).ext p) (by decide) (by rw[List.length_map];omega) fun d7 Q=>?_
 rw[List.length_map]
 have cg:=Q.size
 have b8:=KU (KU al p fun _ _ h=>h) Q fun b hb e=>by have:=ad _ e;omega
 refine markTermS_spec (kidsT ts) b8 (by omega) (by show _+4*(M.szT ts ts.length:Int)<_;omega) fun T co bq ac _ _ _=>?_
 have ch:=ac.size
 have D:Same (fun b=>x0.ownBlock=some b∨(w7.heap.size≤b∧b<w8.heap.size)) ap T:=(Q.mono fun _ _ h=> .inl h).trans (ac.mono fun _ _ h=> .inr h)
 have az:Ext w T:=Ext.then ay D fun y hy=>by
  have:=ah.size
  rcases hy with hy|hy
  ·have:=R y hy;omega
  ·omega
 have old:∀{b:Nat},b<w6.heap.size→¬(x0.ownBlock=some b∨(w7.heap.size≤b∧b<w8.heap.size)):=fun hb e=>by
  rcases e with e|e
  ·have:=R _ e;omega
  ·omega
 have new:∀{b:Nat},w8.heap.size≤b→¬(x0.ownBlock=some b∨(w7.heap.size≤b∧b<w8.heap.size)):=fun hb e=>by
  rcases e with e|e
  ·have:=ad _ e;omega
  ·omega
 have am:Ext w6 ap:=o.trans m
 have l:Same (fun b=>x0.ownBlock=some b∨(w7.heap.size≤b∧b<w8.heap.size)) w6 T:=(Same.of_ext am).trans D
 have j:Same (fun b=>x0.ownBlock=some b∨(w7.heap.size≤b∧b<w8.heap.size)) w10 T:=(Same.of_ext m).trans D
 have aj:=ai.same l fun b _ h2=>old h2
 have ae:=U.same l (old au)
 have q:=a8.same j fun b h1 _=>new h1
 have i:=a0.same j (new (by omega))
 have c1:=l.size
 have bp:=j.size
 refine y5 (fun u w'=>u=[]∧Ext T w') (fun C hC=>?_) ?_
 ·simp only[push_cast]
  refine zh (fun a=>by omega) (fun _=>?_)
  rw[gC i,gC ae]
  refine QY q.cnf aj.cnf fun d8 bc=>?_
  simp only[push_cast,Bool.not_true]
  refine yo (fun h=>by simp at h) (fun _=>?_)
  exact hC _ _ ⟨rfl,bc⟩
 rintro _ _ d9 ⟨rfl,g⟩
 have b0:=az.trans g
 have ci:=g.size
 rw[gC (i.ext g)]
 refine markCnf_o (k:=1) (q.ext g) (by omega) (by omega) (by omega) fun Z x b3=>?_
 have cj:=x.size
 have S:∀{b:Nat},Owns c3 (cnfE ds ts).1.list.length b→w8.heap.size≤b∧b<w9.heap.size:=fun h=>Y70 b7 h
 have a4:Ext w Z:=Ext.then b0 x fun y hy=>by have:=V.size;have:=S hy;omega
 have a1:=(i.ext g).same x fun e=>by have:=S e;omega
 have E:Same (fun b=>w6.heap.size≤b) w6 Z:=((l.mono fun b _ h=>by
  rcases h with h|h
  ·exact R b h
  ·omega).trans (Same.of_ext g)).trans (x.mono fun b _ h=>by have:=S h;omega)
 have af:=U.same E (by omega)
 have ak:=ai.same E fun b _ h2 e=>by omega
 rw[gC a1]
 have bj:∀{w':World},Ext Z w'→CnfR (fun b=>w8.heap.size≤b) w' (.agg #[.int .i64 (cnfE ds ts).1.many,c4]) (yM0 1 (cnfE ds ts).1):=fun h=>(b3.ext h).cnf
 refine heldCnf_o (k:=1) (bj (Same.refl _ _)) (by omega) (by omega) (by omega) fun da a9=>?_
 simp only[push_cast]
 refine zh (fun a=>absurd a (by omega)) (fun _=>?_)
 refine zh (fun a=>absurd rfl a) (fun _=>?_)
 have a5:=a4.trans a9
 refine XV (hd.ext a5) W fun db cc aa ba=>?_
 have a6:=a5.trans aa
 refine toTermS_of (fun k _=>toTerm_spec k) (ht.ext a6) X v fun dc cn L bl=>?_
 have a7:=a6.trans L
 refine BlastCnf_spec (ba.ext L) bl (bb.ext0 a7) (bm.same a7 id) fun dd cl ck bd b4=>?_
 simp only[push_cast]
 refine cnf_new b4 fun c8 cr ce be aq b5=>?_
 have d:Ext Z c8:=a9.trans (aa.trans (L.trans (bd.trans be)))
 rw[gC aq,gC (af.ext d)]
 refine QY b5.cnf (ak.ext d).cnf fun de N=>?_
 simp only[push_cast,Bool.not_true]
 refine yo (fun h=>by simp at h) (fun _=>?_)
 rw[gC (a1.ext (d.trans N))]
 refine heldCnf_o (k:=1) (bj (d.trans N)) (by omega) (by omega) (by omega) fun df bf=>?_
 simp only[push_cast]
 refine zh (fun a=>absurd a (by omega)) (fun _=>?_)
 refine zh (fun a=>absurd rfl a) (fun _=>?_)
 exact hK _ (a4.trans (d.trans (N.trans bf)))
end Go.Proofs.YtaekfnbnhjgboaaGreatDoor
end
section
namespace Go.Proofs.YtaekfnbnhjgboaaGreatDoor
open Go Go.Vc Go.Proofs
open Go.RowKit
theorem laid_at {l:List (String×DataW Unit)} {W:World} (h:laidMet PP l W):∀k,laidMet PP (l.drop k) W
 |0=>h
 |k+1=>by
  have a:=laid_at h k
  rw[←List.tail_drop]
  cases b:l.drop k with
  |nil=>rw[b] at a;exact a
  |cons x r=>rw[b] at a;exact a.tail
theorem xG0: "*" ++ "errors.errorString" = "*errors.errorString" :=by decide
theorem ZE0 (u:TypeId) (h:PP.typeName? 3 u=some "*errors.errorString"):u=xr:=
 typeName_ptr_named (nm:= "errors.errorString") (by rw[xG0];kernel_rfl) (by kernel_rfl) (by decide) u (by rw[xG0];exact h)
def ifaceB (P:Program) (t:TypeId):Bool:=match P.underlying t with
 |some (.interface _)=>true
 |_=>false
theorem ZU0 {P:Program} {t:TypeId} (h:ifaceB P t=true):∃ms,P.underlying t=some (.interface ms):=by
 unfold ifaceB at h
 split at h
 ·exact⟨_,by assumption⟩
 ·cases h
theorem jv0:∃ms,PP.underlying yd=some (.interface ms):=ZU0 (by kernel_rfl)
def fieldB (P:Program) (t u:TypeId):Bool:=match P.underlying t with
 |some (.struct fs)=>match fs.toList with
  |[f]=>decide (f.type=u)&&decide (f.offset=0)
  |_=>false
 |_=>false
theorem ZW0 {P:Program} {t u:TypeId} (h:fieldB P t u=true):∃f,P.underlying t=some (.struct #[f])∧f.type=u∧f.offset=0:=by
 unfold fieldB at h
 split at h
 ·rename_i fs a
  split at h
  ·rename_i f b
   simp only[Bool.and_eq_true,decide_eq_true_eq] at h
   refine⟨f,?_,h⟩
   rw[a]
   congr 2
   exact Array.toList_inj.1 (by simpa using b)
  ·cases h
 ·cases h
theorem ZF0:PP.underlying xr=some (.pointer 396):=by kernel_rfl
theorem qE0:∃f,PP.underlying 396=some (.struct #[f])∧f.type=zE∧f.offset=0:=ZW0 (by kernel_rfl)
theorem qF0:PP.underlying zE=some .string:=by kernel_rfl
theorem Xi0:PP.cellsOf 396=1∧PP.cellsOf zE=1:=⟨by kernel_rfl,by kernel_rfl⟩
theorem qG0 {n:String} {text:List UInt8} {r l:List (String×DataW Unit)} {W:World} {g:Nat} (h:laidMet PP l W) (k:Nat) (j:l.drop k=(n,.iface "*errors.errorString" (.ptr (.agg [.lit (.string text)])))::r)
  (c:PP.globalNamed n=some g) (m:(PP.globals[g]?).map (·.type)=some yd):∃a,Sent W g a:=by
 have b:=laid_at h k
 rw[j] at b
 obtain⟨ms,hi⟩:=jv0
 obtain⟨f,d,e,i⟩:=qE0
 obtain⟨a,s,o,_⟩:=laid_sentinel b c m hi ZE0 ZF0 d e i qF0 Xi0.1 Xi0.2
 exact⟨a,by unfold Sent;simpa using World.var?_cell c o 0⟩
theorem vars_len {H:Type} {enc:TypeId×Value→H} {P:Program} {w:World} {sp:Nat→Bool}:∀{ns:List String} {gs:List (DataW H)} {ps:List MemPlace},DataW.TrodVars enc P w sp ns gs ps→gs.length=ns.length
 |[],[],_,_=>rfl
 |[],_::_,_,h=>h.elim
 |_::_,[],_,h=>h.elim
 |_::_,_::_,_,⟨_,_,_,_,_,_,_,_,_,_,hs,_⟩=>by rw[List.length_cons,List.length_cons,vars_len hs]
theorem vlist3 {α:Type} {l:List α} (h:l.length=3):∃a b c,l=[a,b,c]:=by
 match l,h with
 |[a,b,c],_=>exact⟨a,b,c,rfl⟩
end Go.Proofs.YtaekfnbnhjgboaaGreatDoor
end
