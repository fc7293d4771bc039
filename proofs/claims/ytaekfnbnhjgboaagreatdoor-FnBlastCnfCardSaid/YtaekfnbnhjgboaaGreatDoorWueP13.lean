import Derived.Test.YtaekfnbnhjgboaaGreatDoorWueP12
import Derived.Test.YtaekfnbnhjgboaaGreatDoorWueP9
import Derived.Test.YtaekfnbnhjgboaaGreatDoorWueP11
import Derived.Test.YtaekfnbnhjgboaaGreatDoorWueP7
import Derived.Test.YtaekfnbnhjgboaaGreatDoorWueP8
import Derived.OpenVars
import Derived.MakeChecks
import Derived.Stop.LaidErr
import Derived.Stop.LaidTwo
/- A part of the proof. -/
set_option linter.unusedVariables false
set_option linter.unusedSimpArgs false
set_option linter.unnecessarySimpa false
set_option linter.unusedSectionVars false
section
namespace Go.Proofs.YtaekfnbnhjgboaaGreatDoor
open Go Go.Vc Go.Proofs
variable {w:World} {K:Value→World→Prop} {D F F' G Fr Fx Fy X:Nat→Prop} {n N b:Nat} {gs hs:M.Gs} {v xv yv dv tv lv:Value} {ls ls':List Value} {xss yss:List (List Int)} {xs ys env:List Int} {ds:List M.Dcl} {t:M.Tm} {ts ks:List M.Tm} {ar ab at_:Addr} {k m:Int} {st:Option M.Gs}
theorem lit_row {f:World} {us:List Int} {xs:List Value} {K:Value→World→Prop} (n:xs=us.map (fun x=>Value.int .i64 x)) (h:us.length≤8) (m:RowsR N (fun b=>b<f.heap.size) f ls xss) (k:ls.length=xss.length)
  (i:∀a v,Ext f a→RowsR N (fun b=>b<a.heap.size) a (ls++[v]) (xss++[us])→(∃o l c,v= .slice o l c)→K v a):vbuildS PP zg xs.length (xs.zipIdx.map fun p=>(p.2,p.1)) f K:=by
 refine lit_ints n h fun a b3 j d q e=>?_
 refine i a _ d (RowsR.new (m.weaken fun b r _ _=>by omega) k d e (fun b g=>?_) fun b g=>e.lt g) ⟨_,_,_,rfl⟩
 have:b=b3:=(Option.some.inj g).symm
 omega
theorem lits_fin {d:World} {xs:List Value} (h:xs.length≤8) (m:xs.length=xss.length) (n:∀x,x∈xs→∃o l c,x= .slice o l c) (g:RowsR N (fun b=>b<d.heap.size) d xs xss) (i:∀w' v,Ext d w'→Fresh N w' v xs xss→K v w'):
  vbuildS PP zC xs.length (xs.zipIdx.map fun p=>(p.2,p.1)) d K:=by
 refine lit_lists n h fun r b3 k a q f=>?_
 have t:=g.nle
 refine i r _ a ⟨f,m,fun b j=>?_,?_⟩
 ·have:b=b3:=(Option.some.inj j).symm
  omega
 ·exact(g.ext a).weaken fun b s _ _ e=>by
   have:b3=b:=Option.some.inj e
   omega
theorem gl_xor {a b k:Int} {K:Value→World→Prop} (u:∀w' v ls,Ext w w'→Fresh w.heap.size w' v ls [[a,b,-k],[-a,-b,-k],[-a,b,k],[a,-b,k]]→ls.length=4→K v w'):
  vbuildS PP zg 3 [(0,.int .i64 a),(1,.int .i64 b),(2,.int .i64 (-k))] w fun t1 y=>vbuildS PP zg 3 [(0,.int .i64 (-a)),(1,.int .i64 (-b)),(2,.int .i64 (-k))] y fun t2 B=>
   vbuildS PP zg 3 [(0,.int .i64 (-a)),(1,.int .i64 b),(2,.int .i64 k)] B fun t3 C=>vbuildS PP zg 3 [(0,.int .i64 a),(1,.int .i64 (-b)),(2,.int .i64 k)] C fun t4 D=>vbuildS PP zC 4 [(0,t1),(1,t2),(2,t3),(3,t4)] D K:=by
 refine lit_row (N:=w.heap.size) (ls:=[]) (xss:=[]) (xs:=[.int .i64 a,.int .i64 b,.int .i64 (-k)]) (us:=[a,b,-k]) rfl (by simp) (RowsR.nil (Nat.le_refl _)) rfl fun E v9 o p q=>?_
 refine lit_row (xs:=[.int .i64 (-a),.int .i64 (-b),.int .i64 (-k)]) (us:=[-a,-b,-k]) rfl (by simp) p rfl fun w10 v10 c h l=>?_
 refine lit_row (xs:=[.int .i64 (-a),.int .i64 b,.int .i64 k]) (us:=[-a,b,k]) rfl (by simp) h rfl fun z v11 d i m=>?_
 refine lit_row (xs:=[.int .i64 a,.int .i64 (-b),.int .i64 k]) (us:=[a,-b,k]) rfl (by simp) i rfl fun A v12 e j n=>?_
 refine lits_fin (xs:=[v9,v10,v11,v12]) (by simp) rfl (fun x t=>?_) j fun s r f g=>u s r _ (o.trans (c.trans (d.trans (e.trans f)))) g rfl
 simp only[List.mem_cons,List.not_mem_nil,or_false] at t
 rcases t with rfl|rfl|rfl|rfl
 ·exact q
 ·exact l
 ·exact m
 ·exact n
theorem gl_and {a b k:Int} {K:Value→World→Prop} (r:∀w' v ls,Ext w w'→Fresh w.heap.size w' v ls [[a,-k],[b,-k],[-a,-b,k]]→ls.length=3→K v w'):
  vbuildS PP zg 2 [(0,.int .i64 a),(1,.int .i64 (-k))] w fun t1 s=>vbuildS PP zg 2 [(0,.int .i64 b),(1,.int .i64 (-k))] s fun t2 u=>
   vbuildS PP zg 3 [(0,.int .i64 (-a)),(1,.int .i64 (-b)),(2,.int .i64 k)] u fun t3 y=>vbuildS PP zC 3 [(0,t1),(1,t2),(2,t3)] y K:=by
 refine lit_row (N:=w.heap.size) (ls:=[]) (xss:=[]) (xs:=[.int .i64 a,.int .i64 (-k)]) (us:=[a,-k]) rfl (by simp) (RowsR.nil (Nat.le_refl _)) rfl fun z v9 l m n=>?_
 refine lit_row (xs:=[.int .i64 b,.int .i64 (-k)]) (us:=[b,-k]) rfl (by simp) m rfl fun w10 v10 c g i=>?_
 refine lit_row (xs:=[.int .i64 (-a),.int .i64 (-b),.int .i64 k]) (us:=[-a,-b,k]) rfl (by simp) g rfl fun t v11 d h j=>?_
 refine lits_fin (xs:=[v9,v10,v11]) (by simp) rfl (fun x q=>?_) h fun p o e f=>r p o _ (l.trans (c.trans (d.trans e))) f rfl
 simp only[List.mem_cons,List.not_mem_nil,or_false] at q
 rcases q with rfl|rfl|rfl
 ·exact n
 ·exact i
 ·exact j
structure CnfS (N b:Nat) (w:World) (m:Int) (lv:Value) (ls:List Value) (xss:List (List Int)):Prop where
 blk:Blk w b [.int .i64 m,lv] zm
 own:OwnV PP zC w lv ls
 len:ls.length=xss.length
 rows:RowsR N (fun x=>lv.ownBlock≠some x∧x≠b) w ls xss
 new:∀x,lv.ownBlock=some x→N≤x∧x≠b
 lo:N≤b
theorem CnfS.ext {w':World} (h:CnfS N b w m lv ls xss) (he:Ext w w'):CnfS N b w' m lv ls xss:=⟨h.blk.ext he,h.own.ext he,h.len,h.rows.ext he,h.new,h.lo⟩
theorem Xg0 (h:RowsR N Fr w ls xss) (d:ls.length=xss.length):∀u,u∈ls→u.oneCell'=true:=fun u hu=>by
 obtain⟨j,b,rfl⟩:=List.getElem_of_mem hu
 have a:=h.own j (by rw[←d];exact b)
 obtain⟨o,c,e,_⟩:=a.ints.shape
 rw[List.getD_eq_getElem?_getD,List.getElem?_eq_getElem b,Option.getD_some] at e
 rw[e];rfl
theorem CnfS.add {q:World} {v9:Value} {M:Nat} {K:Value→World→Prop} (h:CnfS N b w m lv ls xss) (he:Ext w q) (n:Fresh M q v9 ls' yss) (V:w.heap.size≤M) (a:ls.length≤100000) (B:ls'.length≤1000)
  (J:∀w' F,Same (fun x=>x=b∨lv.ownBlock=some x) q w'→CnfS N b w' m F (ls++ls') (xss++yss)→K undef w'):
  vbi PP .append [zC,zC] zC [lv,v9] q fun t S=>zt PP zC (.pointer (some ⟨b,1,none⟩)) t S K:=by
 have z9:=he.size
 have P:=h.blk.lt
 have A:∀x,lv.ownBlock=some x→x<w.heap.size:=fun x p=>h.own.lt p
 refine OwnV.app (us:=ls') (h.own.ext he) y00 n.own.vals (Xg0 n.rows n.len) (by omega) (by omega) fun v10 w10 g d k=>?_
 have T:=d.size
 have s:=(h.blk.ext he).same d fun e=>(h.new _ e).2 rfl
 refine s.st (i:=1) (v:=v10) ?_ ?_ xO0 (by rfl) fun G f H u=>?_
 ·obtain⟨o,c,e,_⟩:=g.vals.shape;rw[e];rfl
 ·obtain⟨o,c,e,_⟩:=g.vals.shape;rw[e];rfl
 have U:=f.size
 have y:=h.rows.ext he
 have C:=y.nle
 have E:RowsR N (fun x=>lv.ownBlock≠some x∧x≠b) q ls' yss:=by
  have a:=n.rows
  refine⟨C,a.own,fun j x O p=>?_,a.dj⟩
  have B:=(a.sub j x O p).2
  have:=h.rows.nle
  exact⟨⟨fun e=>by have:=A x e;omega,fun e=>by omega⟩,by omega⟩
 have D:=y.app h.len E n.len fun Q R x a B L e=>by
  have:=(h.rows.own Q a).lt L
  have:=(n.rows.sub R x B e).2
  omega
 have l:∀x,v10.ownBlock=some x→N≤x∧x≠b:=fun x p=>by
  rcases k x p with r|r
  ·exact h.new x r
  ·exact⟨by omega,fun e=>by omega⟩
 refine J G v10 ((d.mono fun x _ h=> .inr h).trans (f.mono fun x _ h=> .inl h)) ⟨u,g.same f fun x p e=>(l x p).2 e,by rw[List.length_append,List.length_append,h.len,n.len],?_,l,h.lo⟩
 have z:=D.weaken (F':=fun x=>(lv.ownBlock≠some x∧x≠b)∧x<q.heap.size) fun x a _ I=>⟨a,I⟩
 refine((z.same d fun x a _ e=>a.1.1 e).same f fun x a _ e=>a.1.2 e).weaken fun x a _ _=>⟨fun e=>?_,a.1.2⟩
 rcases k x e with r|r
 ·exact a.1.1 r
 ·omega
theorem CnfS.out {b2:Nat} {a0 c0:Value} {K:Value→World→Prop} (h:CnfS N b w m lv ls xss) (p:Blk w b2 [a0,c0] zm) (u:b2<N) (q:∀w',Same (· =b2) w w'→CnfO N w' lv ls ⟨m,xss⟩→K (.agg ⟨[.int .i64 m,lv]⟩) w'):
  zf PP zm (.pointer (some ⟨b,0,none⟩)) w fun t45 g=>zt PP zm (.pointer (some ⟨b2,0,none⟩)) t45 g fun _ i=>vlv PP zm (.pointer (some ⟨b2,0,none⟩)) i K:=by
 obtain⟨o,c,f,_⟩:=h.own.vals.shape
 generalize (ls.map fun x=>[x]).length=l at f
 subst f
 rw[h.blk.ldAgg (t:=zm) yi]
 refine p.stAgg (cs':=[.int .i64 m,.slice o l c]) rfl yi net_one fun s d r j=>?_
 rw[j.lv (t:=zm) yi]
 refine q s d ⟨h.own.same d fun x k e=>by have:=(h.new x k).1;omega,h.len,fun x k=>(h.new x k).1,?_⟩
 have a:=(h.rows.weaken (F':=fun x=>(Value.slice o l c).ownBlock≠some x∧N≤x) fun x a n _=>⟨a.1,n⟩).same d fun x a _ e=>by have:=a.2;omega
 exact a.weaken fun x a _ _=>a.1
theorem l6Many_spec {x:Value} (e:GatesR Fx w x gs) (k:n≤8) (j:gs.length≤600) (f:∀w',Ext w w'→K (.int .i64 (1+n+gs.length:Nat)) w'):vcall PP Q6 #[.agg ⟨[.int .i64 n,x]⟩] w K:=by
 apply qB0
 obtain⟨o,c,d,_⟩:=e.shape
 have hlen:∀(w':World) (K:Value→World→Prop),vbi PP .len [zn] zb [x] w' K=K (.int .i64 gs.length) w':=fun w' K=>by rw[Sl.len e qT,kP0]
 generalize (gs.map yF).length=l at d
 subst d
 refine zD fun b1 i g b h a=>?_
 simp(disch:=first|(simp only[push_cast];done)|omega) only[push_cast,a.ld0,a.ld1,hlen,zy]
 have:=f i b
 simp only[push_cast] at this
 exact this
theorem l6Cnf_spec {x:Value} (L:GatesR Fx w x gs) (hg:M.NetG n gs) (hn:n≤8) (hK:∀w' lv ls,Ext w w'→CnfO w.heap.size w' lv ls (M.netC n gs [])→K (.agg ⟨[.int .i64 (1+n+gs.length:Nat),lv]⟩) w'):vcall PP QY #[.agg ⟨[.int .i64 n,x]⟩] w K:=by
 apply jC0
 have U:=hg.few
 have ae:=L.shape
 obtain⟨o,c,hv,_⟩:=ae
 have hlen:∀(w':World) (K:Value→World→Prop),vbi PP .len [zn] zb [x] w' K=K (.int .i64 gs.length) w':=fun w' K=>by rw[Sl.len L qT,kP0]
 generalize (gs.map yF).length=l at hv
 subst hv
 refine zD fun b1 w1 ai R am a2=>?_
 refine zF xS fun b2 w2 aj F an a3=>?_
 have e2:=R.trans F
 have z:=a2.ext F
 rw[z.ldAgg (t:=zk) yl]
 refine l6Many_spec (Sl.ext L e2) hn U fun w3 q=>?_
 have e3:=e2.trans q
 have z1:=R.size;have z2:=F.size;have z3:=q.size
 obtain⟨m,hm⟩:∃m:Int,m=(1+n+gs.length:Nat):=⟨_,rfl⟩
 rw[←hm]
 refine lit_row (N:=w3.heap.size) (ls:=[]) (xss:=[]) (xs:=[.int .i64 1]) (us:=[1]) rfl (by simp) (RowsR.nil (Nat.le_refl _)) rfl fun w4 v4 S aa ab=>?_
 refine lits_fin (xs:=[v4]) (xss:=[[1]]) (by simp) rfl (fun y s=>by rw[List.mem_singleton.1 s];exact ab) aa fun w5 v5 T j=>?_
 have z4:=S.size;have z5:=T.size
 obtain⟨P,D,Y,_⟩:=j.own.vals.shape
 generalize ([v4].map fun x=>[x]).length=O at Y
 subst Y
 rw[show ∀K:Value→World→Prop,zH PP zm [(0,.int .i64 m),(1,.slice P O D)] w5 K=K (.agg ⟨[.int .i64 m,.slice P O D]⟩) w5 from fun K=>yh UH (us:=[[.int .i64 m],[.slice P O D]]) rfl rfl]
 refine zF xS fun b6 w6 ak a6 ao a4=>?_
 refine a4.stAgg (cs':=[.int .i64 m,.slice P O D]) rfl yi net_one fun w7 ac ap a5=>?_
 have E:Ext w5 w7:=Ext.then a6 ac fun y s=>by subst s;omega
 have Z:∀b,(Value.slice P O D).ownBlock=some b→b<w5.heap.size:=fun b hb=>j.own.lt hb
 have h0:CnfS w3.heap.size b6 w7 m (.slice P O D) [v4] [[1]]:=
  ⟨a5,j.own.ext E,rfl,((j.rows.weaken (F':=fun x=>(Value.slice P O D).ownBlock≠some x∧x≠b6) fun x h1 _ h3=>⟨h1,by omega⟩).ext E),fun x L=>⟨j.new x L,by have:=Z x L;omega⟩,by omega⟩
 have a1:=S.trans (T.trans E)
 refine vloop_up gs.length (fun i u w'=>u=[.int .i64 i]∧Ext w3 w'∧∃lv ls,CnfS w3.heap.size b6 w' m lv ls ([1]::M.gatesC n (gs.take i) 0)) ⟨rfl,a1,_,_,h0⟩ ?_
 rintro i _ _ v C hi ⟨rfl,e,lv,ls,A⟩ hC
 have d:=(z.ext q).ext e
 have r:GatesR Fx v (.slice o l c) gs:=Sl.ext L (e3.trans e)
 simp(disch:=first|(simp only[push_cast];done)|omega) only[push_cast,d.ld0,d.ld1,hlen]
 refine zh (fun a=>?_) (fun a=>?_)
 ·have k:i<gs.length:=by omega
  obtain⟨ha,hb⟩:=gpos hg hn k
  have a7:=gatesC_take (n:=n) k
  have H:(gs.map yF).getD i []=yF gs[i]:=jk0 k
  have J:i<(gs.map yF).length:=by rw[List.length_map];exact k
  generalize gs[i]=g at*
  have l0:∀K:Value→World→Prop,zf PP xr (.pointer (some ((eaddr (.slice o l c) 3 i).add 0))) v K=K (.bool g.x) v:=fun K=>Sl.ldField r XZ0 J (by rw[H];rfl)
  have l1:∀K:Value→World→Prop,zf PP zb (.pointer (some ((eaddr (.slice o l c) 3 i).add 1))) v K=K (.int .i64 g.a) v:=fun K=>Sl.ldField r jc0 J (by rw[H];rfl)
  have l2:∀K:Value→World→Prop,zf PP zb (.pointer (some ((eaddr (.slice o l c) 3 i).add 2))) v K=K (.int .i64 g.b) v:=fun K=>Sl.ldField r jc0 J (by rw[H];rfl)
  simp(disch:=first|(simp only[push_cast];done)|(simp only[List.length_map];omega)|omega) only[push_cast,d.ld0,d.ld1,r.iaddr,l0,l1,l2,zy]
  have hk:(2+(n:Int)+i).natAbs≤100000:=by omega
  have al:ls.length≤2401:=by
   have h1:=Qi n (gs.take i) 0
   have h2:(gs.take i).length=i:=by rw[List.length_take];omega
   rw[A.len,List.length_cons];omega
  have aq:=e.size
  have V:∀{ys:List (List Int)},M.gateC (2+n+i) g=ys→[1]::M.gatesC n (gs.take i) 0++ys=[1]::M.gatesC n (gs.take (i+1)) 0:=fun h=>by rw[a7,←h];rfl
  have fin:∀{p w10:World} {v9:Value} {ls':List Value} {ys:List (List Int)},Ext v p→Fresh v.heap.size p v9 ls' ys→ls'.length≤4→M.gateC (2+n+i) g=ys→vbi PP .append [zC,zC] zC [lv,v9] p fun t w1=>zt PP zC (.pointer (some ⟨b6,1,none⟩)) t w1 fun _ a0=>C [.int .i64 ((i:Int)+1)] a0:=fun{p w10 v9 ls' ys} f hf h4 af=>by
   refine A.add f hf (Nat.le_refl _) (by omega) (by omega) fun ar ah X B=>?_
   refine hC k _ _ ⟨by simp,Ext.then (e.trans f) X fun y s=>?_,ah,ls++ls',?_⟩
   ·rcases s with rfl|s
    ·exact A.lo
    ·exact(A.new y s).1
   ·rw[V af] at B;exact B
  refine y9 (fun I=>?_) (fun I=>?_)
  ·simp(disch:=first|(simp only[push_cast];done)|omega) only[push_cast,A.blk.ld1,neg_wrap ha,neg_wrap hb,neg_wrap hk]
   simp only[Int.zero_sub]
   exact gl_xor fun p v9 ag f G h4=>fin (w10:=p) f G (by omega) (by unfold M.gateC;rw[if_pos I])
  ·simp(disch:=first|(simp only[push_cast];done)|omega) only[push_cast,A.blk.ld1,neg_wrap ha,neg_wrap hb,neg_wrap hk]
   simp only[Int.zero_sub]
   exact gl_and fun p v9 ag f G h4=>fin (w10:=p) f G (by omega) (by unfold M.gateC;rw[if_neg (by simp[I])])
 ·have a8:i=gs.length:=by omega
  subst a8
  rw[List.take_length] at A
  have Q:=(a3.ext q).ext e
  refine A.out Q (by omega) fun p ad hO=>?_
  have W:Ext w p:=Ext.then (e3.trans e) ad fun y s=>by subst s;omega
  rw[hm]
  refine hK p lv ls W ?_
  have h1:=hO.down (M:=w.heap.size) (by omega)
  unfold M.netC
  have a9:(1+n+gs.length:Int)=m:=by rw[hm];simp
  rw[List.append_nil,a9]
  exact h1
theorem CnfS.of {c:M.Cnf} {K:Value→World→Prop} (h:CnfO N w lv ls c) (q:∀w' b,b=w.heap.size→Ext w w'→CnfS N b w' c.many lv ls c.list→K (.pointer (some ⟨b,0,none⟩)) w'):
  y1 PP zm w fun t4 n=>zt PP zm t4 (.agg ⟨[.int .i64 c.many,lv]⟩) n fun _ f=>K t4 f:=by
 obtain⟨o,cc,d,_⟩:=h.lst.vals.shape
 generalize (ls.map fun x=>[x]).length=l at d
 subst d
 have v:=h.rows.nle
 refine zF xS fun b n i j s g=>?_
 refine g.stAgg (cs':=[.int .i64 c.many,.slice o l cc]) rfl yi net_one fun f m t p=>?_
 have a:Ext w f:=Ext.then j m fun y r=>by subst r;omega
 have k:∀x,(Value.slice o l cc).ownBlock=some x→x<w.heap.size:=fun x e=>h.lst.lt e
 exact q f b i a ⟨p,h.lst.ext a,h.len,(h.rows.weaken (F':=fun x=>(Value.slice o l cc).ownBlock≠some x∧x≠b) fun x g _ u=>⟨g,by omega⟩).ext a,fun x e=>⟨h.dl x e,by have:=k x e;omega⟩,by omega⟩
theorem l8All_spec (l:YC0 ds) (q:DclsR Fx w dv ds) (o:TmsR Fy w tv ts) (p:∀w',Ext w w'→K (.bool (Yz0 ds ts)) w'):vcall PP QT #[dv,tv] w K:=by
 apply jq0
 have z:=o.small
 have no: ¬(ts.length≤8∧M.declOk ds=true∧∀t,t∈ts→M.tsort ds t=0)→∀w',Ext w w'→K (.bool false) w':=fun h w' he=>by
  have:=p w' he
  rwa[show Yz0 ds ts=false by rw[Bool.eq_false_iff];exact fun e=>h (all8_iff.1 e)] at this
 refine zV (fun u w'=>u=[]∧Ext w w'∧M.declOk ds=true∧ts.length≤8) (fun J y=>?_) ?_
 ·refine spec_DeclOk_spec q l fun B b=>?_
  simp only[push_cast]
  refine y9 (fun h=>no (fun e=>by rw[e.2.1] at h;cases h) _ b) (fun h=>?_)
  simp(disch:=(simp only[push_cast];done)) only[push_cast,(o.ext b).len]
  refine zh (fun r=>no (fun e=>by have:=e.1;omega) _ b) (fun r=>y _ _ ⟨rfl,b,by simpa using h,by omega⟩)
 rintro _ _ B ⟨rfl,b,n,s⟩
 refine vloop_up ts.length (fun i u w'=>u=[.int .i64 i]∧Ext w w'∧∀j,j<i→M.tsort ds (ts.getD j default)=0) ⟨rfl,b,fun j m=>absurd m (by omega)⟩ ?_
 rintro i _ _ D C hi ⟨rfl,c,d⟩ v
 have g:=o.ext c
 simp(disch:=(simp only[push_cast];done)) only[push_cast,g.len]
 refine zh (fun a=>?_) (fun a=>?_)
 ·have f:i<ts.length:=by omega
  simp(disch:=first|(simp only[push_cast];done)|omega) only[push_cast,g.iaddr]
  refine g.load zI f fun x A=>?_
  refine spec_TermSort_spec l (q.ext c) A fun E k=>?_
  simp only[push_cast]
  refine zh (fun h=>no (fun e=>h (e.2.2 _ (M.getD_mem f _))) _ (c.trans k)) (fun h=>?_)
  rw[inc64' (by omega)]
  refine v f _ _ ⟨rfl,c.trans k,fun j m=>?_⟩
  by_cases e:j<i
  ·exact d j e
  ·have:j=i:=by omega
   subst this;exact Classical.byContradiction h
 ·have:=p D c
  rwa[all8_iff.2 ⟨s,n,fun t hm=>by
   obtain⟨j,m,rfl⟩:=List.getElem_of_mem hm
   have:=d j (by omega)
   rwa[List.getD_eq_getElem?_getD,List.getElem?_eq_getElem m] at this⟩] at this
def W5 (rs:List (List Int)):List Int:=rs.map fun r=>r.getD 0 0
theorem l8Cnf_spec (ad:Yz0 ds ts=true) (hd:DclsR Fx w dv ds) (ht:TmsR Fy w tv ts)
  (hK:∀w' lv ls,Ext w w'→CnfO w.heap.size w' lv ls (cnfE ds ts).1→K (.tuple #[.agg ⟨[.int .i64 (cnfE ds ts).1.many,lv]⟩,.bool (decide ((cnfE ds ts).2=0))]) w'):vcall PP QS #[dv,tv] w K:=by
 apply jp0
 obtain⟨h8,E,Y⟩:=all8_iff.1 ad
 obtain⟨bn,an⟩:=bits_nat E
 have ch:=ht.small
 refine zF xS fun b4 w1 ca a6 bw aj=>?_
 refine sbits8_spec (k:=ds.length) E (Nat.le_refl _) (by rw[List.take_length];exact hd.ext a6) fun w2 a7=>?_
 rw[M.bitT_all,bn]
 simp only[push_cast,Ys0,QJ0]
 have e2:=a6.trans a7
 refine zF qe fun L w3 cc ao ci bl=>?_
 have ay:MkR (M.bits ds).toNat (fun b=>b=L) w3 [.int .i64 ((M.bits ds).toNat:Nat),.slice none 0 0,.bool true] (some []):=⟨none,0,0,rfl,GatesR.nil,by simp⟩
 refine bl.stAgg (cs':=[.int .i64 ((M.bits ds).toNat:Nat),.slice none 0 0,.bool true]) rfl Z1 ay.one fun w4 bu cj V=>?_
 have bj:Ext w2 w4:=Ext.then ao bu fun y v=>by subst v;omega
 have z1:=a6.size;have z2:=a7.size;have z3:=ao.size
 refine qk ju qR fun b5 w5 cb ap ck bk=>?_
 have ah:=bj.trans ap
 have e5:=e2.trans ah
 have bt:OwnI PP zg w5 (.slice (some ⟨b5,0,none⟩) 0 0) []:=Blk.own1 (P:=PP) (t:=zg) (cs:=[]) (by rw[Qj];exact bk) (Nat.zero_le _) rfl rfl (by omega)
 have cm:=V.lt
 have bf:∀b,(Value.slice (some ⟨b5,0,none⟩) 0 0).ownBlock=some b→b=b5:=fun b q=>(Option.some.inj q).symm
 have az:MkR (M.bits ds).toNat (fun b=>b=L∨(Value.slice (some ⟨b5,0,none⟩) 0 0).ownBlock=some b) w5 [.int .i64 ((M.bits ds).toNat:Nat),.slice none 0 0,.bool true] (some []):=⟨none,0,0,rfl,GatesR.nil,by simp⟩
 refine vloop_up ts.length (fun i u w'=> ∃mv cs st rs,u=[mv,.int .i64 i]∧Ext w2 w'∧Blk w' L cs ze∧MkR (M.bits ds).toNat (fun b=>b=L∨mv.ownBlock=some b) w' cs st∧M.Bd.Out (M.bits ds).toNat (M.seqB ((ts.take i).map (M.termB ds))) (some []) st rs∧rs.length=i∧OwnI PP zg w' mv (W5 rs)∧∀b,mv.ownBlock=some b→w2.heap.size≤b∧b≠L)
  ⟨_,_,some [],[],rfl,ah,V.ext ap,az,.inl ⟨[],rfl,rfl⟩,rfl,bt,fun b q=>by have:=bf b q;omega⟩ ?_
 rintro i _ _ w6 C hi ⟨mv,cs,st,rs,rfl,O,d,H,m,T,S,R⟩ hC
 have e6:=e2.trans O
 have ba:=ht.ext e6
 simp(disch:=(simp only[push_cast];done)) only[push_cast,ba.len]
 have cq:=O.size
 refine zh (fun a=>?_) (fun a=>?_)
 ·have D:i<ts.length:=by omega
  refine qk ju qR fun b7 w7 cd a8 bx am=>?_
  refine zx fun w8 a9 _=>?_
  have s:=a8.trans a9
  have cr:=s.size
  have bb:=ba.ext s
  have ak:=d.ext s
  have br:∀{w':World} {cs:List Value},cs.length=3→Blk w' L cs ze→∀K:Value→World→Prop,zf PP ze (.pointer (some ⟨L,0,none⟩)) w' K=K (.agg ⟨cs⟩) w':=fun h3 h K=>h.ldAgg (t:=ze) (by rw[h3];exact Z1)
  rw[br H.len ak]
  simp(disch:=first|(simp only[push_cast];done)|omega) only[push_cast,bb.iaddr,true_and]
  refine bb.load zI D fun x hx=>?_
  have hD:∀b,(b=L∨mv.ownBlock=some b)→b<w8.heap.size:=fun b q=>q.elim (fun e=>by have:=d.lt;omega) fun h=>by have:=S.lt h;omega
  obtain⟨af,_,c9⟩:=xB0 (Y _ (M.getD_mem D default))
  refine⟨rfl,sdo8_spec E an _ (by rw[af];decide) (H.ext s fun b h _=>h) hD (hd.ext (e6.trans s)) hx fun w9 a4 bg r zs aq Q bz c7 b1=>?_⟩
  have p:=s.trans aq
  have z9:=aq.size
  have bc:=(out_lens E (by rw[af];decide) b1).1
  have bw:zs.length=1:=by rw[bc,af];rfl
  simp only[push_cast,true_and,and_self]
  have al:=d.ext p
  have bd:=d.lt
  refine al.stAgg (cs':=a4) (by rw[Q.len,H.len]) (by rw[Q.len];exact Z1) Q.one fun w10 n c8 ai=>?_
  have J:Ints (New w8) w10 r zs:=bz.same n fun b q _ e=>by have:w8.heap.size≤b:=q;omega
  have av:=Q.same n fun b q=> .inl q
  simp(disch:=first|(simp only[push_cast];done)|omega) only[push_cast,true_and,and_self,J.iaddr,J.load]
  refine spec_one fun bh cn f b0 c5=>?_
  have ae:OwnI PP zg bh mv (W5 rs):=((S.ext p).same n fun b q e=>(R b q).2 e).ext f
  have ax:(W5 rs).length=i:=by unfold W5;rw[List.length_map,T]
  refine ae.app (ys:=[zs.getD 0 0]) jW b0.ints (by simp only[List.length_singleton];omega) (by simp only[List.length_singleton];omega) fun v12 bi a0 A Z=>?_
  try simp(disch:=omega) only[push_cast,zy]
  have cp:=f.size;have z12:=A.size
  have c4:∀b,mv.ownBlock=some b→b<w6.heap.size:=fun b q=>S.lt q
  have aw:MkR (M.bits ds).toNat (fun b=>b=L∨v12.ownBlock=some b) bi a4 bg:=
   (av.ext f fun b h _=>h).swap A (fun b q=> .inr q) fun b q hl=>q.elim .inl fun h=>(Z b h).elim .inr fun h2=>by omega
  refine hC D _ _ ⟨v12,a4,bg,rs++[zs],by simp,?_,((ai.ext f).same A fun e=>(R _ e).2 rfl),aw,?_,by rw[List.length_append,T];rfl,?_,fun b q=>?_⟩
  ·exact Ext.then ((Ext.then (O.trans p) n fun y v=>by subst v;omega).trans f) A fun y v=>(R y v).1
  ·rw[M.take_add D default,List.map_append]
   exact kH0 m b1
  ·unfold W5 at a0⊢
   rw[List.map_append];exact a0
  ·rcases Z b q with h|h
   ·exact R b h
   ·exact⟨by omega,fun e=>by omega⟩
 ·have D:i=ts.length:=by omega
  subst D
  rw[List.take_length] at m
  have U:=aj.ext (a7.trans O)
  have cl:=aj.lt
  have bd:=d.lt
  cases st with
  |none=>
   have bo:cs=[.int .i64 0,.slice none 0 0,.bool false]:=H
   subst bo
   have bs:M.listB ds ts=none:=by
    rcases m with⟨g,q1,q2⟩|⟨q1,q2,_⟩
    ·cases q2
    ·exact q1
   have a5:cnfE ds ts=(⟨0,[]⟩,1):=by unfold cnfE;rw[if_pos ad,bs]
   simp(disch:=first|(simp only[push_cast];done)|omega) only[push_cast,d.ld1,d.ld2,Bool.not_false]
   rw[qX0]
   refine U.stAgg (cs':=[.int .i64 0,.slice none 0 0]) rfl yi net_one fun w7 bv bx am=>?_
   rw[am.lv (t:=zm) yi]
   have m:Ext w w7:=Ext.then e6 bv fun y v=>by subst v;omega
   have:=hK w7 (.slice none 0 0) [] m
   rw[a5] at this
   exact this (zG0 m.size)
  |some gs=>
   obtain⟨o,l,c,rfl,bp,ce⟩:=H
   have a3:M.listB ds ts=some (gs,rs):=by
    rcases m with⟨g,q1,q2⟩|⟨q1,q2,_⟩
    ·cases q2;exact q1
    ·cases q2
   have a2:=M.list_says E (fun t ht=>by rw[(xB0 (Y t ht)).1];decide) a3
   have a5:cnfE ds ts=(M.blastC ds gs rs,0):=by unfold cnfE;rw[if_pos ad,a3]
   simp(disch:=first|(simp only[push_cast];done)|omega) only[push_cast,d.ld1,d.ld2,Bool.not_true]
   rw[Blk.ldTake (us:=[.int .i64 ((M.bits ds).toNat:Nat),.slice o l c]) (r:=[.bool true]) d yl]
   refine l6Cnf_spec bp a2.net an fun w7 lv ls a8 hO=>?_
   refine CnfS.of (c:=M.netC (M.bits ds).toNat gs []) hO fun w8 b8 c2 a9 hS=>?_
   have cg:=Qi (M.bits ds).toNat gs 0
   have c3:=a2.net.few
   have c6:(M.netC (M.bits ds).toNat gs []).list.length≤2401:=by
    show([1]::(M.gatesC _ gs 0++[])).length≤2401
    rw[List.append_nil,List.length_cons];omega
   have ac:(M.netC (M.bits ds).toNat gs []).many=(M.blastC ds gs rs).many:=rfl
   have ab:(M.netC (M.bits ds).toNat gs []).list++M.rootsC rs=(M.blastC ds gs rs).list:=by
    show([1]::(M.gatesC _ gs 0++[]))++M.rootsC rs=[1]::(M.gatesC _ gs 0++M.rootsC rs)
    rw[List.append_nil];rfl
   generalize M.netC (M.bits ds).toNat gs []=c0 at*
   have s:=a8.trans a9
   have ax:(W5 rs).length=ts.length:=by unfold W5;rw[List.length_map,T]
   refine vloop_up ts.length (fun j u w'=>u=[.int .i64 j]∧Ext w6 w'∧∃lv ls,CnfS w6.heap.size b8 w' c0.many lv ls (c0.list++M.rootsC (rs.take j))) ⟨rfl,s,lv,ls,by simpa[M.rootsC] using hS⟩ ?_
   rintro j _ _ w9 C2 hj ⟨rfl,p,c1,ag,B⟩ bm
   have a1:=(S.ext p).ints
   simp(disch:=(simp only[push_cast];done)) only[push_cast,a1.len,ax]
   refine zh (fun a=>?_) (fun a=>?_)
   ·have au:j<rs.length:=by omega
    have aa:(W5 rs).getD j 0=(rs.getD j []).getD 0 0:=by
     unfold W5
     rw[M.getD_map (fun r:List Int=>r.getD 0 0) au 0 []]
    refine zx fun w10 F _=>?_
    have z:=B.ext F
    have I:=a1.ext F
    simp(disch:=first|(simp only[push_cast];done)|omega) only[push_cast,z.blk.ld1,I.iaddr,I.load,true_and]
    rw[aa]
    refine lit_row (N:=w10.heap.size) (ls:=[]) (xss:=[]) (xs:=[.int .i64 ((rs.getD j []).getD 0 0)]) (us:=[(rs.getD j []).getD 0 0]) rfl (by simp) (RowsR.nil (Nat.le_refl _)) rfl fun bh v11 f b2 b3=>?_
    simp(disch:=first|(simp only[push_cast];done)|omega) only[push_cast,(z.ext f).blk.ld1,true_and,and_self]
    refine lits_fin (xs:=[v11]) (xss:=[[(rs.getD j []).getD 0 0]]) (by simp) rfl (fun y v=>by rw[List.mem_singleton.1 v];exact b3) b2 fun bi v12 G ar=>?_
    simp(disch:=first|(simp only[push_cast];done)|omega) only[push_cast,((z.ext f).ext G).blk.ld1,true_and,and_self]
    have cf:ag.length≤3000:=by
     rw[B.len,List.length_append]
     unfold M.rootsC
     rw[List.length_map,List.length_take]
     omega
    refine z.add (f.trans G) ar (Nat.le_refl _) (by omega) (by simp) fun co be b9 X=>?_
    try simp(disch:=omega) only[push_cast,zy]
    have z9:=p.size
    refine bm (by omega) _ _ ⟨by simp,Ext.then (p.trans (F.trans (f.trans G))) b9 fun y v=>?_,be,ag++[v11],?_⟩
    ·rcases v with rfl|v
     ·exact B.lo
     ·exact(B.new y v).1
    ·rw[M.take_add au []]
     unfold M.rootsC at X⊢
     rw[List.map_append,←List.append_assoc]
     exact X
   ·have bq:j=ts.length:=by omega
    subst bq
    rw[←T,List.take_length,ab] at B
    refine B.out (U.ext p) (by omega) fun w10 n W=>?_
    have m:Ext w w10:=Ext.then (e6.trans p) n fun y v=>by subst v;omega
    have:=hK w10 c1 ag m
    rw[a5] at this
    rw[ac] at W⊢
    exact this ((W.down (by have:=e6.size;omega)))
theorem spec_BlastCnf_spec (v:YC0 ds) (D:DclsR Fx w dv ds) (E:TmsR Fy w tv ts)
  (B:∀w' lv ls,Ext w w'→CnfO w.heap.size w' lv ls (cnfE ds ts).1→K (.tuple #[.agg ⟨[.int .i64 (cnfE ds ts).1.many,lv]⟩,.bool (decide ((cnfE ds ts).2=0))]) w'):vcall PP ZZ #[dv,tv] w K:=by
 apply yo0
 refine zF xS fun b4 J F d G k=>?_
 refine l8All_spec v (D.ext d) (E.ext d) fun L f=>?_
 have q:=d.trans f
 have N:=d.size;have z2:=f.size
 simp only[push_cast]
 refine y9 (fun h=>?_) (fun h=>?_)
 ·have s: ¬Yz0 ds ts=true:=by simpa using h
  have r:cnfE ds ts=(⟨0,[]⟩,2):=by unfold cnfE;rw[if_neg s]
  rw[qX0]
  refine(k.ext f).stAgg (cs':=[.int .i64 0,.slice none 0 0]) rfl yi net_one fun p g A i=>?_
  rw[i.lv (t:=zm) yi]
  have a:Ext w p:=Ext.then q g fun y z=>by subst z;omega
  have:=B p (.slice none 0 0) [] a
  rw[r] at this
  exact this (zG0 a.size)
 ·have u:Yz0 ds ts=true:=by simpa using h
  refine l8Cnf_spec u (D.ext q) (E.ext q) fun M lv ls j C=>?_
  simp only[push_cast]
  have m:=(k.ext f).ext j
  obtain⟨o,c,n,_⟩:=C.lst.vals.shape
  generalize (ls.map fun x=>[x]).length=l at n
  subst n
  refine m.stAgg (cs':=[.int .i64 (cnfE ds ts).1.many,.slice o l c]) rfl yi net_one fun p g A i=>?_
  rw[i.lv (t:=zm) yi]
  have a:Ext w p:=Ext.then (q.trans j) g fun y z=>by subst z;omega
  have z3:=j.size
  exact B p _ ls a ((C.same g fun b H I e=>by omega).down (by omega))
theorem errV_eql:zr PP .eql ye true (errV ar at_ N) .nilIface w K=K (.bool (decide (N=0))) w:=by
 match N with
 |0=>exact kk0
 |1=>exact km0
 |n+2=>exact km0
theorem BlastCnf_spec (G:DclsR Fx w dv ds) (H:TmsR Fy w tv ts) (he:Errs (fun _=>False) w ar ab) (z:Sent w yA at_)
  (D:∀w' lv ls,Ext w w'→CnfO w.heap.size w' lv ls (cnfE ds ts).1→K (.tuple #[.agg ⟨[.int .i64 (cnfE ds ts).1.many,lv]⟩,.bool (decide ((cnfE ds ts).2=0))]) w'):vcall PP Ya #[dv,tv] w K:=by
 apply yB0
 refine zF xS fun b4 T E a I q=>?_
 refine blastCnf_spec (G.ext a) (H.ext a) (he.ext0 a) (z.same a id) fun N lv ls f B=>?_
 simp only[push_cast]
 have W:=a.size;have z2:=f.size
 obtain⟨o,c,k,_⟩:=B.lst.vals.shape
 generalize (ls.map fun x=>[x]).length=l at k
 subst k
 refine zF xS fun Q U F u J r=>?_
 refine r.stAgg (cs':=[.int .i64 (cnfE ds ts).1.many,.slice o l c]) rfl yi net_one fun O v L h=>?_
 have p:Ext N O:=Ext.then u v fun y A=>by subst A;omega
 refine zx fun V j _=>?_
 have d:=p.trans j
 have i:=h.ext j
 have g:=(q.ext f).ext d
 rw[i.ldAgg (t:=zm) yi]
 simp only[errV_eql,true_and]
 refine g.stAgg (cs':=[.int .i64 (cnfE ds ts).1.many,.slice o l c]) rfl yi net_one fun C n M s=>?_
 rw[s.lv (t:=zm) yi]
 try simp only[true_and,and_self]
 have P:=d.size
 have m:Ext w C:=Ext.then (a.trans (f.trans d)) n fun y A=>by subst A;omega
 exact D C _ ls m (((B.ext d).same n fun b R S e=>by omega).down (by omega))
end Go.Proofs.YtaekfnbnhjgboaaGreatDoor
end
section
namespace Go.Proofs.YtaekfnbnhjgboaaGreatDoor
open Go Go.Vc Go.Proofs
variable {w:World} {K:Value→World→Prop} {F F' D G:Nat→Prop}
def rl (ds:List M.Dcl) (t:M.Tm) (i:Nat):Option M.Tm:=[M.ruleX ds t,M.ruleB t,M.ruleT t,M.ruleL ds t,M.ruleW ds t,M.ruleS t,M.ruleF t].getD i none
end Go.Proofs.YtaekfnbnhjgboaaGreatDoor
end
section
namespace Go.M
open Go.Vc
section
variable {ds:List Dcl} {t:Tm}
def XX0 (t v:Tm):Prop:=v.ks.length≠2∨kid v 0≠kid t 1∨kid v 1≠kid t 0∨v.op≠t.op
instance (t v:Tm):Decidable (XX0 t v):=by unfold XX0;infer_instance
end
end Go.M
end
section
namespace Go.Proofs.YtaekfnbnhjgboaaGreatDoor
open Go Go.Vc Go.Proofs
variable {w:World} {K:Value→World→Prop} {D F F' G Fx Fy:Nat→Prop} {n m:Nat} {gs hs:M.Gs} {v xv yv dv tv:Value} {xs ys env:List Int} {bs ins:List Bool} {ds:List M.Dcl} {t:M.Tm} {ar ab:Addr}
theorem wpHash_spec {v:Value} {xs:List Nat} (d:Bytes F w v xs) (n:xs.length≤1048576) (g:∀h:Int,0≤h→h≤1048576→K (.int .i64 h) w):vcall PP ZJ #[v] w K:=by
 apply qL0
 simp(disch:=(simp only[push_cast];done)) only[push_cast,d.len]
 refine vloop_up xs.length (fun i u w'=> ∃h:Int,u=[.int .i64 h,.int .i64 i]∧w'=w∧0≤h∧h≤1048576) ⟨_,rfl,rfl,by omega,by omega⟩ ?_
 rintro i _ _ _ C hi ⟨h,rfl,rfl,e,f⟩ k
 rename_i w
 refine zV (fun u w'=>u=[]∧w'=w∧i<xs.length∧i<40) (fun J l=>?_) ?_
 ·simp(disch:=(simp only[push_cast];done)) only[push_cast,d.len]
  refine zh (fun a=>?_) (fun _=>g h e f)
  exact zh (fun b=>l _ _ ⟨rfl,rfl,by omega,by omega⟩) (fun _=>g h e f)
 rintro _ _ _ ⟨rfl,rfl,c,j⟩
 have m:xs.getD i 0<256:=d.2 _ (M.getD_mem c 0)
 simp(disch:=first|(simp only[push_cast];done)|omega) only[push_cast,d.iaddr,Int.toNat_natCast,d.load,qS xZ0 y20]
 rw[zy (x:=h*7) (by omega) (by omega),zy (x:=((xs.getD i 0:Nat):Int)) (by omega) (by omega),zy (x:=h*7+((xs.getD i 0:Nat):Int)) (by omega) (by omega),YD (by decide)]
 rw[Int.tmod_eq_emod_of_nonneg (by omega),inc64' (by omega)]
 exact k c _ _ ⟨_,rfl,rfl,by omega,by omega⟩
theorem hash_env {dv yv:Value} {ys:List Nat} {i:Nat} (n:DclsR F w dv ds) (a:M.declOk ds=true) (q:Bytes F' w yv ys) (o:ys.length≤1048576) (hi:i≤1000)
  (m:∀w' ev env,Ext w w'→OwnI PP zg w' ev env→M.envOk ds env=true→K (.tuple #[ev,.bool true]) w'):
  vcall PP ZJ #[yv] w fun t80 d=>zr PP .add zb false t80 (.int .i64 (IntKind.i64.wrap (53*i))) d fun t83 e=>zr PP .rem zb false t83 (.int .i64 (q80 ds)) e fun t85 f=>vcall PP ZO #[dv,t85] f K:=by
 refine wpHash_spec q o fun h r s=>?_
 have g:=bits_all a 0
 have t:=pow8 (b:=M.bits ds) (by omega) g.2.2
 have k:q80 ds=2^(M.bits ds).toNat:=by unfold q80;rw[if_pos a]
 simp(disch:=omega) only[push_cast,zy]
 rw[YD (by omega),Int.tmod_eq_emod_of_nonneg (by omega)]
 have l:=Int.emod_nonneg (h+53*(i:Int)) (b:=q80 ds) (by omega)
 have p:=Int.emod_lt_of_pos (h+53*(i:Int)) (b:=q80 ds) (by omega)
 exact EnvAll_spec n a l (by omega) fun w' ev env he j _ c _=>m w' ev env he j c
end Go.Proofs.YtaekfnbnhjgboaaGreatDoor
end
section
namespace Go.Proofs.YtaekfnbnhjgboaaGreatDoor
open Go Go.Vc Go.Proofs Go.M
variable {w:World} {K:Value→World→Prop} {F Fr:Nat→Prop}
def Sep (Fr:Nat→Prop) (os:List (Option Nat)):Prop:=os.Pairwise (fun a b=>∀x,a=some x→b≠some x)∧∀o,o∈os→∀x,o=some x→¬Fr x
structure TrailR (Fr:Nat→Prop) (w:World) (bt many:Nat) (put:List Int) (ds:List Bool) (vp vpl vl:Value):Prop where
 blk:Blk w bt [vp,vpl,vl] zZ
 rp:OwnI PP zg w vp put
 rpl:OwnI PP zg w vpl (Zb many put)
 rl:OwnI PP zg w vl (Yc ds)
 sep:Sep Fr [some bt,vp.ownBlock,vpl.ownBlock,vl.ownBlock]
 len:ds.length=put.length
 dis:Distinct put
 bnd:∀x,x∈put→x≠0∧x.natAbs≤many
 few:many≤700
def ZW (bt:Nat) (vp vpl vl:Value) (b:Nat):Prop:=b=bt∨vp.ownBlock=some b∨vpl.ownBlock=some b∨vl.ownBlock=some b
section
variable {bt many:Nat} {put:List Int} {ds:List Bool} {vp vpl vl:Value}
theorem TrailR.same {S:Nat→Prop} {w':World} (h:TrailR Fr w bt many put ds vp vpl vl) (hw:Same S w w') (hs:∀b,ZW bt vp vpl vl b→¬S b):TrailR Fr w' bt many put ds vp vpl vl:=
 ⟨h.blk.same hw (hs _ (.inl rfl)),h.rp.same hw fun b a=>hs _ (.inr (.inl a)),h.rpl.same hw fun b a=>hs _ (.inr (.inr (.inl a))),h.rl.same hw fun b a=>hs _ (.inr (.inr (.inr a))),h.sep,h.len,h.dis,h.bnd,h.few⟩
theorem TrailR.ext {w':World} (h:TrailR Fr w bt many put ds vp vpl vl) (hw:Ext w w'):TrailR Fr w' bt many put ds vp vpl vl:=h.same hw fun _ _ h=>h
theorem nodup_le {m:Nat} {xs:List Nat} (b:xs.Nodup) (a:∀x,x∈xs→1≤x∧x≤m):xs.length≤m:=by
 have:=b.length_le_of_subset (l₂:=(List.range' 1 m)) fun x c=>by rw[List.mem_range'_1];have:=a x c;omega
 simpa using this
theorem TrailR.few' (h:TrailR Fr w bt many put ds vp vpl vl):put.length≤many:=by
 have:=nodup_le (m:=many) h.dis fun x a=>by
  obtain⟨y,b,rfl⟩:=List.mem_map.1 a
  have:=h.bnd y b
  omega
 simpa using this
theorem newTrail_spec (hm:many≤700) (i:∀b,Fr b→b<w.heap.size) (q:∀bt vp vpl vl w',Ext w w'→TrailR Fr w' bt many [] [] vp vpl vl→(∀b,ZW bt vp vpl vl b→w.heap.size≤b)→K (.pointer (some ⟨bt,0,none⟩)) w'):
  vcall PP Y1 #[.int .i64 many] w K:=by
 apply yq0
 simp(disch:=omega) only[push_cast,zy]
 rw[show((many:Int)+1)=((many+1:Nat):Int) from by omega]
 refine vmkS_own (bs:=8) jW Qj jS rfl (by omega) (by omega) fun v1 s g c f=>?_
 refine xA0 jZ0 (us:=[[v1]]) (by simp[g.vals.cells1]) rfl ?_
 refine qq fun b m r d _ p=>?_
 have n:OwnI PP zg m v1 (Zb many []):=by rw[Z50];unfold OwnI;rw[List.map_replicate];exact g.ext d
 refine q b (.slice none 0 0) v1 (.slice none 0 0) m (c.trans d) ⟨p,OwnI.nil,n,OwnI.nil,⟨?_,?_⟩,rfl,List.nodup_nil,(fun x a=>by cases a),hm⟩ ?_
 ·have j:∀x,v1.ownBlock=some x→x<b:=fun x a=>by have:=g.lt a;omega
  simp[Value.ownBlock]
  intro e;have:=j b e;omega
 ·have k:=c.size
  intro o l x a hF
  have:=i x hF
  simp only[List.mem_cons,List.not_mem_nil,or_false] at l
  rcases l with rfl|rfl|rfl|rfl
  ·cases a;omega
  ·cases a
  ·have:=f x a;omega
  ·cases a
 ·have k:=c.size
  rintro x (rfl|h|h|h)
  ·omega
  ·cases h
  ·exact f x h
  ·cases h
theorem assigned_spec {l:Int} (h:TrailR Fr w bt many put ds vp vpl vl) (e:l.natAbs≤many) (d:∀w',Ext w w'→K (.bool (decide (placeOf put l.natAbs≠0))) w'):
  vcall PP xL #[.pointer (some ⟨bt,0,none⟩),.int .i64 l] w K:=by
 apply Jr
 have i:=h.few
 refine zx fun g a _=>?_
 have c:=h.ext a
 have b:=c.rpl.ints
 have f:=U8 many put
 simp(disch:=(simp only[push_cast];done)) only[push_cast,c.blk.ld1,true_and]
 refine variable_spec (by omega) (by omega) ?_
 simp(disch:=first|(simp only[push_cast];done)|omega) only[push_cast,c.blk.ld1,true_and,b.iaddr,b.load,and_self,places_get e]
 have:=d g a
 simpa using this
theorem isTrue_spec {l:Int} (h:TrailR Fr w bt many put ds vp vpl vl) (j:l.natAbs≤many) (g:∀w',Ext w w'→K (.bool (decide (l∈put))) w'):
  vcall PP jG #[.pointer (some ⟨bt,0,none⟩),.int .i64 l] w K:=by
 apply Vy
 have p:=h.few
 refine zx fun r b _=>?_
 refine assigned_spec (h.ext b) j fun m c=>zh (fun a=>?_) (fun a=>?_)
 ·have d:=h.ext (b.trans c)
  have k:=d.rp.ints
  have f:=d.rpl.ints
  have n:=U8 many put
  have hle:=placeOf_le put l.natAbs
  have i:=h.few'
  simp(disch:=first|(simp only[push_cast];done)|omega) only[push_cast,d.blk.ld0,d.blk.ld1,true_and]
  refine variable_spec (by omega) (by omega) ?_
  simp(disch:=first|(simp only[push_cast];done)|omega) only[push_cast,d.blk.ld0,d.blk.ld1,true_and,and_self,f.iaddr,f.load,places_get j,zy]
  obtain⟨q,o⟩:∃q,placeOf put l.natAbs=q+1:=⟨placeOf put l.natAbs-1,by omega⟩
  rw[o,show(((q+1:Nat):Int)-1)=(q:Int) from by omega]
  simp(disch:=first|(simp only[push_cast];done)|omega) only[push_cast,true_and,k.iaddr,k.load]
  rw[show q=placeOf put l.natAbs-1 from by omega]
  have:=g m (b.trans c)
  have e:l∈put↔put.getD (placeOf put l.natAbs-1) 0=l:=(mem_iff_place h.dis).trans ⟨fun h=>h.2,fun h=>⟨a,h⟩⟩
  rwa[decide_eq_decide.2 e] at this
 ·have:=g m (b.trans c)
  rwa[decide_eq_false (fun hm=>a (xi hm))] at this
theorem look_spec {v:Value} {c:List Int} {F:Nat→Prop} (h:TrailR Fr w bt many put ds vp vpl vl) (o:Ints F w v c) (r:∀l,l∈c→l.natAbs≤many)
  (q:∀w' b n x,Ext w w'→lookM put c 0 0=(b,n,x)→K (.tuple #[.bool b,.int .i64 n,.int .i64 x]) w'):
  vcall PP kY #[.pointer (some ⟨bt,0,none⟩),v] w K:=by
 apply Uo
 simp(disch:=first|(simp only[push_cast];done)|omega) only[push_cast,o.len]
 have hlen:c.length≤9223372036854775807:=by obtain⟨_,_,_,s,D,_⟩:=o.shape;simp at s;omega
 refine vloop_up c.length (fun i u w'=> ∃n x,u=[.int .i64 (n:Nat),.int .i64 x,.int .i64 i]∧Ext w w'∧n≤i∧lookM put (c.drop i) n x=lookM put c 0 0) ⟨0,0,rfl,Same.refl _ _,by omega,rfl⟩ ?_
 rintro i _ g A C hi ⟨n,x,rfl,he,E,e⟩ p
 simp only[push_cast]
 refine zh (fun z=>?_) (fun y=>?_)
 ·have k:=o.ext he
  simp(disch:=first|(simp only[push_cast];done)|omega) only[push_cast,k.iaddr,k.load]
  have t:=yh0 (d:=0) (show i<c.length by omega)
  have hm:c.getD i 0∈c:=Qh (by omega)
  rw[t,xG0] at e
  refine isTrue_spec (h.ext he) (r _ hm) fun B f=>zh (fun a=>?_) (fun a=>?_)
  ·rw[if_pos a] at e
   exact q B true 0 0 (he.trans f) e.symm
  ·rw[if_neg a] at e
   refine assigned_spec (h.ext (he.trans f)) (r _ hm) fun G j=>?_
   simp only[push_cast]
   refine y9 (fun b=>?_) (fun b=>?_)
   ·have m:placeOf put (c.getD i 0).natAbs=0:=by simpa using b
    rw[if_pos m] at e
    simp(disch:=omega) only[push_cast,zy]
    exact p (by omega) _ _ ⟨n+1,_,by simp,he.trans (f.trans j),by omega,e⟩
   ·have m: ¬placeOf put (c.getD i 0).natAbs=0:=by simpa using b
    rw[if_neg m] at e
    simp(disch:=omega) only[push_cast,zy]
    exact p (by omega) _ _ ⟨n,_,by simp,he.trans (f.trans j),by omega,e⟩
 ·rw[List.drop_eq_nil_of_le (by omega)] at e
  exact q A false n x he e.symm
end
end Go.Proofs.YtaekfnbnhjgboaaGreatDoor
end
section
namespace Go.Proofs.YtaekfnbnhjgboaaGreatDoor
open Go Go.Vc Go.Proofs Go.M
variable {w:World} {K:Value→World→Prop} {F Fr:Nat→Prop} {bt many:Nat} {put:List Int} {ds:List Bool} {vp vpl vl:Value}
theorem next_spec {v:Value} {vs:List Value} {lls:List (List (List Int))} (h:TrailR Fr w bt many put ds vp vpl vl) (J:Vals F w v vs) (hn:vs.length=lls.length) (hi:∀i,i<lls.length→Lists F w (vs.getD i undef) (lls.getD i []))
  (Z:∀c,c∈lls.flatten→∀l,l∈c→l.natAbs≤many) (a1:lls.flatten.length≤1000000)
  (M:∀w' k u x,Ext w w'→findM put lls.flatten 0 (-1) 0=(k,u,x)→K (.tuple #[.int .i64 k,.int .i64 u,.int .i64 x]) w'):
  vcall PP kX #[.pointer (some ⟨bt,0,none⟩),v] w K:=by
 apply Un
 simp(disch:=first|(simp only[push_cast];done)|omega) only[push_cast,J.len]
 have hlen:vs.length≤9223372036854775807:=by obtain⟨_,_,_,A,Q,_⟩:=J.shape;simp at A;omega
 refine vloop_up vs.length (fun i u w'=> ∃(k:Nat) (b x:Int),u=[.int .i64 (-1),.int .i64 b,.int .i64 x,.int .i64 k,.int .i64 i]∧Ext w w'∧k+(lls.drop i).flatten.length=lls.flatten.length∧findM put (lls.drop i).flatten k b x=findM put lls.flatten 0 (-1) 0) ⟨0,-1,0,rfl,Same.refl _ _,by simp,rfl⟩ ?_
 rintro i _ g w1 C X ⟨k,b,x,rfl,he,O,a⟩ R
 simp only[push_cast]
 refine zh (fun a0=>?_) (fun W=>?_)
 ·have z:=J.ext he
  obtain⟨cs,U,q,D⟩:=hi i (by omega)
  have s:=q.ext he
  simp(disch:=first|(simp only[push_cast];done)|omega) only[push_cast,z.iaddr,z.load,s.len]
  have G:cs.length≤9223372036854775807:=by obtain⟨_,_,_,A,Q,_⟩:=q.shape;simp at A;omega
  have V:=yh0 (d:=[]) (show i<lls.length by omega)
  rw[V,List.flatten_cons] at a O
  have t:∀c,c∈lls.getD i []→c∈lls.flatten:=fun c S=>List.mem_flatten.2 ⟨_,by rw[List.getD_eq_getElem?_getD,List.getElem?_eq_getElem (by omega)];exact List.getElem_mem _,S⟩
  generalize lls.getD i []=L at*
  generalize (lls.drop (i+1)).flatten=T at*
  rw[List.length_append] at O
  refine vloop_up cs.length (fun j u w'=> ∃(o:Nat) (b x:Int),u=[.int .i64 (-1),.int .i64 b,.int .i64 x,.int .i64 o,.int .i64 j]∧Ext w w'∧o=k+j∧findM put (L.drop j++T) o b x=findM put lls.flatten 0 (-1) 0) ⟨k,b,x,rfl,he,by omega,a⟩ ?_
  rintro j _ g2 w2 C2 hj ⟨o,b,x,rfl,f,Y,a⟩ m
  simp only[push_cast]
  refine zh (fun P=>?_) (fun N=>?_)
  ·have p:=q.ext f
   simp(disch:=first|(simp only[push_cast];done)|omega) only[push_cast,p.iaddr,p.load]
   have hm:L.getD j []∈L:=by rw[List.getD_eq_getElem?_getD,List.getElem?_eq_getElem (by omega)];exact List.getElem_mem _
   rw[yh0 (d:=[]) (show j<L.length by omega),List.cons_append,findM_cons] at a
   refine look_spec (h.ext f) ((D j (by omega)).ext f) (Z _ (t _ hm)) fun w3 b' n y E r=>?_
   rw[r] at a;dsimp only at a
   simp(disch:=omega) only[push_cast,zy]
   have e:=f.trans E
   refine y9 (fun B=>?_) (fun B=>?_)
   ·rw[if_pos B] at a
    exact m (by omega) _ _ ⟨o+1,_,_,by simp<;>exact⟨rfl,rfl⟩,e,by omega,a⟩
   rw[if_neg (by simp[B])] at a
   refine zh (fun H=>?_) (fun H=>?_)
   ·rw[if_pos (by omega)] at a
    exact M w3 _ _ _ e a.symm
   rw[if_neg (by omega)] at a
   refine zh (fun I=>?_) (fun I=>?_)
   ·rw[if_pos (by omega)] at a
    refine zh (fun hu=>?_) (fun hu=>?_)
    ·rw[if_pos hu] at a
     exact m (by omega) _ _ ⟨o+1,_,_,by simp<;>exact⟨rfl,rfl⟩,e,by omega,a⟩
    ·rw[if_neg hu] at a
     exact m (by omega) _ _ ⟨o+1,_,_,by simp<;>exact⟨rfl,rfl⟩,e,by omega,a⟩
   ·rw[if_neg (by omega)] at a
    exact m (by omega) _ _ ⟨o+1,_,_,by simp<;>exact⟨rfl,rfl⟩,e,by omega,a⟩
  ·rw[List.drop_eq_nil_of_le (show L.length≤j by omega),List.nil_append] at a
   simp(disch:=omega) only[push_cast,zy]
   exact R (by omega) _ _ ⟨o,_,_,by simp<;>exact⟨rfl,rfl⟩,f,by omega,a⟩
 ·rw[List.drop_eq_nil_of_le (by omega)] at a
  exact M w1 _ _ _ he a.symm
theorem sep4 {a b c d:Option Nat}:Sep Fr [a,b,c,d]↔((∀x,a=some x→b≠some x)∧(∀x,a=some x→c≠some x)∧(∀x,a=some x→d≠some x)∧(∀x,b=some x→c≠some x)∧(∀x,b=some x→d≠some x)∧(∀x,c=some x→d≠some x))∧
  (∀x,a=some x→¬Fr x)∧(∀x,b=some x→¬Fr x)∧(∀x,c=some x→¬Fr x)∧(∀x,d=some x→¬Fr x):=by
 unfold Sep
 simp only[List.pairwise_cons,List.mem_cons,List.not_mem_nil,or_false,forall_eq_or_imp,forall_eq]
 constructor
 ·rintro⟨⟨⟨e,a2,a3⟩,⟨b1,b2⟩,f,-⟩,f1,f2,f3,f4⟩;exact⟨⟨e,a2,a3,b1,b2,f⟩,f1,f2,f3,f4⟩
 ·rintro⟨⟨e,a2,a3,b1,b2,f⟩,f1,f2,f3,f4⟩;exact⟨⟨⟨e,a2,a3⟩,⟨b1,b2⟩,f,fun _ h=>h.elim,List.Pairwise.nil⟩,f1,f2,f3,f4⟩
theorem push_spec {l:Int} {d:Bool} (h:TrailR Fr w bt many put ds vp vpl vl) (a8:l≠0) (hl:l.natAbs≤many) (s:placeOf put l.natAbs=0) (a7:∀b,Fr b→b<w.heap.size)
  (hK:∀i k w',TrailR Fr w' bt many (put++[l]) (ds++[d]) i vpl k→Same (ZW bt vp vpl vl) w w'→(∀b,ZW bt i vpl k b→ZW bt vp vpl vl b∨w.heap.size≤b)→K (.tuple #[]) w'):
  vcall PP jf #[.pointer (some ⟨bt,0,none⟩),.int .i64 l,.bool d] w K:=by
 apply Um
 have hf:=h.few
 have ah:=h.few'
 have hlen:=h.len
 have ag:=Z80 ds
 have hc:=List.count_le_length (l:=ds) (a:=true)
 refine zV (fun u w'=>u=[.int .i64 (ds.count true)]∧Ext w w') ?_ ?_
 ·intro C U
  have hv:=h.rl.ints
  simp(disch:=first|(simp only[push_cast];done)|omega) only[push_cast,h.blk.ld2,hv.len]
  refine zh (fun a=>zx fun w1 n _=>?_) (fun a=>U _ _ ⟨?_,Same.refl _ _⟩)
  ·have S:=h.ext n
   have O:=S.rl.ints
   obtain⟨q,hq⟩:∃q,ds.length=q+1:=⟨ds.length-1,by omega⟩
   simp(disch:=first|(simp only[push_cast];done)|omega) only[push_cast,S.blk.ld2,O.len,true_and]
   rw[ag,hq,show(((q+1:Nat):Int)-1)=(q:Int) from by omega]
   simp(disch:=first|(simp only[push_cast];done)|omega) only[push_cast,zy,O.iaddr,O.load,true_and]
   refine U _ _ ⟨?_,n⟩
   rw[Z90 (by omega),ZZ0 (by omega)]
  ·have:ds=[]:=List.eq_nil_of_length_eq_zero (by omega)
   subst this;rfl
 rintro _ g w1 ⟨rfl,n⟩
 refine zV (fun u w'=>u=[.int .i64 ((ds.count true+d.toNat:Nat):Int)]∧w'=w1) ?_ ?_
 ·intro C U
  cases d
  ·exact U _ _ ⟨rfl,rfl⟩
  ·simp(disch:=omega) only[push_cast,zy]
   exact U _ _ ⟨rfl,rfl⟩
 rintro _ g2 _ ⟨rfl,rfl⟩
 have S:=h.ext n
 have ai:=n.size
 simp(disch:=first|(simp only[push_cast];done)|omega) only[push_cast,S.blk.ld0]
 obtain⟨⟨s1,s2,s3,s4,s5,s6⟩,f1,f2,f3,f4⟩:=sep4.1 h.sep
 refine yg ju qR jS rfl rfl fun b1 w2 ap L au a1=>?_
 have h2:=S.ext L
 refine h2.rp.app1 jW a1 (by omega) (by omega) fun i w3 B y ac=>?_
 have a2:Blk w3 bt [vp,vpl,vl] zZ:=h2.blk.same y fun e=>s1 bt rfl e
 refine a2.st B.ints.cells1 B.ints.one xy0 rfl fun P D av a3=>?_
 have F:Blk P bt [i,vpl,vl] zZ:=a3
 simp(disch:=first|(simp only[push_cast];done)|omega) only[push_cast,F.ld2]
 have aj:=L.size
 have ak:=y.size
 have m:∀x,i.ownBlock=some x→vp.ownBlock=some x∨w.heap.size≤x:=fun x c=>(ac x c).imp id fun h=>by omega
 have l1:=h.blk.lt
 have j:∀x,ZW bt vp vpl vl x→x<w.heap.size:=by
  rintro x (rfl|e|e|e)
  ·exact l1
  ·exact h.rp.lt e
  ·exact h.rpl.lt e
  ·exact h.rl.lt e
 have a9:OwnI PP zg P vl (Yc ds):=(h2.rl.same y fun x c e=>s5 x e c).same D fun x c e=>s3 x (by rw[e]) c
 have X:OwnI PP zg P vpl (Zb many put):=(h2.rpl.same y fun x c e=>s4 x e c).same D fun x c e=>s2 x (by rw[e]) c
 have ae:OwnI PP zg P i (put++[l]):=B.same D fun x c e=>by
  rcases m x c with f|f
  ·exact s1 x (by rw[e]) f
  ·have:=j bt (.inl rfl);omega
 refine yg ju qR jS rfl rfl fun b2 w5 aq o aw a4=>?_
 refine(a9.ext o).app1 jW a4 (by omega) (by omega) fun k w6 M z ad=>?_
 have a5:Blk w6 bt [i,vpl,vl] zZ:=(F.ext o).same z fun e=>s3 bt rfl e
 refine a5.st M.ints.cells1 M.ints.one xy0 rfl fun Q A ax a6=>?_
 have T:Blk Q bt [i,vpl,k] zZ:=a6
 have al:=o.size
 have am:=z.size
 have t:∀x,k.ownBlock=some x→vl.ownBlock=some x∨w3.heap.size≤x:=fun x c=>(ad x c).imp id fun h=>by omega
 have H:∀x,k.ownBlock=some x→vl.ownBlock=some x∨w.heap.size≤x:=fun x c=>(t x c).imp id fun h=>by omega
 have af:OwnI PP zg Q i (put++[l]):=((ae.ext o).same z fun x c e=>by
  rcases m x c with f|f
  ·exact s5 x f e
  ·have:=j x (.inr (.inr (.inr e)));omega).same A fun x c e=>by
  rcases m x c with f|f
  ·exact s1 x (by rw[e]) f
  ·have:=j bt (.inl rfl);omega
 have Y:OwnI PP zg Q vpl (Zb many put):=((X.ext o).same z fun x c e=>s6 x c e).same A fun x c e=>s2 x (by rw[e]) c
 have aa:OwnI PP zg Q k (Yc (ds++[d])):=by
  rw[levels_snoc]
  refine M.same A fun x c e=>?_
  rcases t x c with f|f
  ·exact s3 x (by rw[e]) f
  ·have:=j bt (.inl rfl);omega
 refine zx fun w8 p _=>?_
 have r:=T.ext p
 have V:=af.ext p
 have J:=Y.ext p
 have ab:=aa.ext p
 have W:=V.ints
 have a0:=J.ints
 have ar:=U8 many put
 simp(disch:=first|(simp only[push_cast];done)|omega) only[push_cast,r.ld0,r.ld1,W.len,true_and]
 refine variable_spec (by omega) (by omega) ?_
 simp(disch:=first|(simp only[push_cast];done)|omega) only[push_cast,r.ld0,r.ld1,W.len,a0.iaddr,true_and,and_self]
 refine J.st qR (by omega) fun w9 Z E ay=>?_
 have N:OwnI PP zg w9 vpl (Zb many (put++[l])):=by
  rw[ki0 s]
  simpa using Z
 have I:∀x,i.ownBlock=some x→vpl.ownBlock≠some x:=fun x c e=>by
  rcases m x c with f|f
  ·exact s4 x f e
  ·have:=j x (.inr (.inr (.inl e)));omega
 have v:∀x,vpl.ownBlock=some x→k.ownBlock≠some x:=fun x c e=>by
  rcases t x e with f|f
  ·exact s6 x c f
  ·have:=j x (.inr (.inr (.inl c)));omega
 have an:=A.size
 have ao:=p.size
 have G:∀x,w.heap.size≤x→¬Fr x:=fun x c hF=>by have:=a7 x hF;omega
 refine hK i k w9 ⟨r.same E fun e=>s2 bt rfl e,V.same E I,N,ab.same E fun x c e=>v x e c,?_,by simp[hlen],distinct_snoc h.dis s,?_,h.few⟩ ?_ ?_
 ·rw[sep4]
  refine⟨⟨?_,s2,?_,I,?_,v⟩,f1,?_,f3,?_⟩
  ·rintro x e R
   cases e
   rcases m _ R with f|f
   ·exact s1 _ rfl f
   ·have:=j _ (.inl rfl);omega
  ·rintro x e R
   cases e
   rcases t _ R with f|f
   ·exact s3 _ rfl f
   ·have:=j _ (.inl rfl);omega
  ·intro x e R
   have c:=B.lt e
   rcases t x R with e3|e3
   ·rcases m x e with f|f
    ·exact s5 x f e3
    ·have:=j x (.inr (.inr (.inr e3)));omega
   ·omega
  ·intro x e
   rcases m x e with f|f
   ·exact f2 x f
   ·exact G x f
  ·intro x e
   rcases H x e with f|f
   ·exact f4 x f
   ·exact G x f
 ·intro x c
  rw[List.mem_append,List.mem_singleton] at c
  rcases c with c|rfl
  ·exact h.bnd x c
  ·exact⟨a8,hl⟩
 ·have S0:Same (ZW bt vp vpl vl) w w2:=Same.of_ext (n.trans L)
  have S3:Same (ZW bt vp vpl vl) w2 w3:=y.mono fun x _ e=> .inr (.inl e)
  have S4:Same (ZW bt vp vpl vl) w3 P:=D.mono fun x _ e=> .inl e
  have S5:Same (ZW bt vp vpl vl) P w5:=Same.of_ext o
  have S6:Same (ZW bt vp vpl vl) w5 w6:=z.mono fun x _ e=> .inr (.inr (.inr e))
  have S7:Same (ZW bt vp vpl vl) w6 Q:=A.mono fun x _ e=> .inl e
  have S8:Same (ZW bt vp vpl vl) Q w8:=Same.of_ext p
  have S9:Same (ZW bt vp vpl vl) w8 w9:=E.mono fun x _ e=> .inr (.inr (.inl e))
  exact S0.trans (S3.trans (S4.trans (S5.trans (S6.trans (S7.trans (S8.trans S9))))))
 ·rintro x (e|e|e|e)
  ·exact .inl (.inl e)
  ·exact(m x e).imp (fun e=> .inr (.inl e)) id
  ·exact .inl (.inr (.inr (.inl e)))
  ·exact(H x e).imp (fun e=> .inr (.inr (.inr e))) id
end Go.Proofs.YtaekfnbnhjgboaaGreatDoor
end
section
namespace Go.Proofs.YtaekfnbnhjgboaaGreatDoor
open Go Go.Vc Go.Proofs Go.M
variable {w:World} {K:Value→World→Prop} {F Fr:Nat→Prop} {many bs:Nat} {c:Cnf}
theorem zL0 {α:Type} {xs:List α} {d:α} {i:Nat} (h:i<xs.length):xs.take (i+1)=xs.take i++[xs.getD i d]:=by
 rw[List.take_add_one];simp[List.getD_eq_getElem?_getD,h]
theorem trailOk_spec {v f:Value} {put:List Int} {dd:List Bool} (I:Ints F w v put) (hm:many≤700) (X:dd.length=put.length) (V:∀k,k<put.length→FnB PP w f #[.int .i64 k] (dd.getD k false)) (m:∀b,Fr b→b<w.heap.size)
  (q: ¬marksOk many put→∀w',Ext w w'→K (.tuple #[.pointer none,.bool false]) w')
  (U:marksOk many put→∀bt vp vpl vl w',Ext w w'→TrailR Fr w' bt many put dd vp vpl vl→(∀b,ZW bt vp vpl vl b→w.heap.size≤b)→K (.tuple #[.pointer (some ⟨bt,0,none⟩),.bool true]) w'):
  vcall PP Xb #[.int .i64 many,v,f] w K:=by
 apply xa0
 refine newTrail_spec hm m fun bt vp vpl vl Y n G B=>?_
 have J:=I.ext n
 simp(disch:=first|(simp only[push_cast];done)|omega) only[push_cast,J.len]
 have hlen:put.length≤9223372036854775807:=by obtain⟨_,_,_,R,l,_⟩:=I.shape;simp at R;omega
 refine vloop_up put.length (fun i u w'=> ∃vp vl,u=[.int .i64 i]∧Ext w w'∧TrailR Fr w' bt many (put.take i) (dd.take i) vp vpl vl∧(∀b,ZW bt vp vpl vl b→w.heap.size≤b)) ⟨vp,vl,rfl,n,G,B⟩ ?_
 rintro i _ g P C hi ⟨vp,vl,rfl,he,j,A⟩ T
 simp only[push_cast]
 refine zh (fun a=>?_) (fun a=>?_)
 ·have s:=I.ext he
  simp(disch:=first|(simp only[push_cast];done)|omega) only[push_cast,s.iaddr,s.load]
  have p:put.getD i 0∈put:=Qh (by omega)
  refine of_spec (by omega) (by omega) ?_
  simp only[push_cast]
  refine y9 (fun b=>?_) (fun b=>?_)
  ·refine q (fun h=>?_) P he
   have:=h.2 _ p
   have y:litOk many (put.getD i 0)=false:=by simpa using b
   rw[litOk,decide_eq_false_iff_not] at y
   omega
  ·have y:litOk many (put.getD i 0)=true:=by simpa using b
   rw[litOk,decide_eq_true_eq] at y
   refine assigned_spec j (by omega) fun Q c=>zh (fun a2=>?_) (fun a2=>?_)
   ·refine q (fun h=>?_) Q (he.trans c)
    have l:=qp0 h.1 (i+1)
    rw[zL0 (d:=0) (by omega)] at l
    unfold Distinct at l
    rw[List.map_append,List.nodup_append] at l
    obtain⟨W,S⟩:=ZY a2
    exact l.2.2 _ (List.mem_map_of_mem (Qh (show placeOf (put.take i) (put.getD i 0).natAbs-1<(put.take i).length by omega))) _ (by simp) S
   ·refine V i (by omega) Q _ (he.trans c) fun Z o=>?_
    have N:=he.trans (c.trans o)
    have O:=N.size
    refine push_spec ((j.ext c).ext o) y.1 (by omega) (by omega) (fun x t=>by have:=m x t;omega) fun M L w5 r E D=>?_
    simp(disch:=omega) only[push_cast,zy]
    rw[←zL0 (by omega),←zL0 (by omega)] at r
    refine T (by omega) _ _ ⟨M,L,by simp,Ext.then N E fun x t=>A x t,r,fun x t=>?_⟩
    rcases D x t with e|e
    ·exact A x e
    ·omega
 ·have H:put.take i=put:=List.take_of_length_le (by omega)
  have z:dd.take i=dd:=List.take_of_length_le (by omega)
  rw[H,z] at j
  exact U ⟨j.dis,j.bnd⟩ bt vp vpl vl P he j A
theorem EqualFunc_LL {F':Nat→Prop} {v v':Value} {xs ys:List (List Int)} (B:Lists F w v xs) (D:Lists F' w v' ys) (m:∀w',Ext w w'→K (.bool (decide (xs=ys))) w'):
  vcall PP yN #[v,v',.func (.func xY) #[] #[]] w K:=by
 apply qP
 obtain⟨cx,o,b,q⟩:=B
 obtain⟨cy,p,d,r⟩:=D
 simp(disch:=first|(simp only[push_cast];done)|omega) only[push_cast,b.len,d.len]
 have hlen:cx.length≤9223372036854775807:=by obtain⟨_,_,_,l,t,_⟩:=b.shape;simp at l;omega
 refine zh (fun s=>?_) (fun heq=>?_)
 ·have:=m w (Same.refl _ _)
  rwa[decide_eq_false (fun e=>s (by rw[o,p,e]))] at this
 refine vloop_up cx.length (fun i u w'=>u=[.int .i64 i]∧Ext w w'∧∀j,j<i→xs.getD j []=ys.getD j []) ⟨rfl,Same.refl _ _,by omega⟩ ?_
 rintro i _ g E C hi ⟨rfl,he,x⟩ y
 simp only[push_cast]
 refine zh (fun A=>?_) (fun z=>?_)
 ·have f:=b.ext he
  have k:=d.ext he
  simp(disch:=first|(simp only[push_cast];done)|omega) only[push_cast,f.iaddr,f.load,k.iaddr,k.load]
  refine Equal_Lint ((q i (by omega)).ext he) ((r i (by omega)).ext he) fun G c=>?_
  simp only[push_cast]
  refine y9 (fun n=>?_) (fun n=>?_)
  ·have a: ¬xs.getD i []=ys.getD i []:=by simpa using n
   have:=m G (he.trans c)
   rwa[decide_eq_false (fun e=>a (by rw[e]))] at this
  ·have a:xs.getD i []=ys.getD i []:=by simpa using n
   simp(disch:=omega) only[push_cast,zy]
   exact y (by omega) _ _ ⟨by simp,he.trans c,fun j H=>by
    by_cases h:j=i
    ·subst h;exact a
    ·exact x j (by omega)⟩
 ·have:=m E he
  rwa[decide_eq_true (List.ext_getElem (by omega) fun j l t=>by have:=x j (by omega);simpa[List.getD_eq_getElem?_getD,l,t] using this)] at this
theorem yI0 {F':Nat→Prop} {v v':Value} {xs ys:List (List Int)} (b:Lists F w v xs) (c:Lists F' w v' ys) (a:∀w',Ext w w'→K (.bool (decide (xs=ys))) w'):vcall PP Zq #[v,v'] w K:=by
 apply zt0
 exact EqualFunc_LL b c a
end Go.Proofs.YtaekfnbnhjgboaaGreatDoor
end
section
namespace Go.Proofs.YtaekfnbnhjgboaaGreatDoor
open Go Go.Vc Go.Proofs
variable {w:World} {K:Value→World→Prop} {D F F' G Fr Fx Fy:Nat→Prop} {v xv yv dv tv:Value} {env:List Int} {ins:List Bool} {ds:List M.Dcl} {t:M.Tm} {ts:List M.Tm} {ar ab at_:Addr}
theorem zo0 {v v':Value} {c c':M.Cnf} (n:CnfR F w v c) (h:CnfR F' w v' c') (l:∀w',Ext w w'→K (.bool (decide (c.many=c'.many∧c.list=c'.list))) w'):vcall PP Z5 #[v,v'] w K:=by
 apply xo0
 obtain⟨lv,rfl,o⟩:=n
 obtain⟨q,rfl,j⟩:=h
 refine qq fun b u t he hs k=>?_
 refine qq fun b2 r m g p d=>?_
 simp only[push_cast] at k d
 have f:=k.ext g
 have E:=he.trans g
 simp(disch:=(simp only[push_cast];done)) only[push_cast,f.ld0,f.ld1,d.ld0,d.ld1]
 refine zh (fun a=>?_) (fun a=>?_)
 ·refine yI0 (o.ext E) (j.ext E) fun s i=>?_
  have:=l s (E.trans i)
  rwa[show decide (c.many=c'.many∧c.list=c'.list)=decide (c.list=c'.list) from by simp[a]] at this
 ·have:=l r E
  rwa[decide_eq_false (fun e=>a e.1)] at this
theorem Z60 {v:Value} (a:K (.bool false) w):vcall PP YG #[v] w K:=by
 apply jM0
 exact a
theorem Xq0 {k:Int}:FnB PP w (.func (.func YG) #[] #[]) #[.int .i64 k] false:=fun w' K he a=>by
 simp only[push_cast]
 exact Z60 (a _ (Same.refl _ _))
structure UnitEnd (c:M.Cnf) (many:Nat) (p0 p1:List Int) (clash:Bool):Prop where
 ok:M.marksOk many p1
 sub:∀l,l∈p0→l∈p1
 must:∀v,M.cnfT v c→(∀l,l∈p0→M.litT v l=true)→∀l,l∈p1→M.litT v l=true
 fin:(clash=true∧∃cl,cl∈c.list∧M.clashC p1 cl)∨(clash=false∧(∀cl,cl∈c.list→∀x,¬M.unitC p1 cl x)∧∀cl,cl∈c.list→¬M.clashC p1 cl)
theorem X80 {put cl:List Int} {x:Int} (h:M.unitC put cl x):x∈cl∧M.placeOf put x.natAbs=0:=by
 have:x∈cl.filter fun l=>decide (M.placeOf put l.natAbs=0):=by rw[h.2];exact List.mem_singleton.2 rfl
 rw[List.mem_filter,decide_eq_true_eq] at this
 exact this
theorem same_grow {S S':Nat→Prop} {f g:World} (h:Same S w f) (a:Same S' f g) (i:∀b,S' b→S b∨w.heap.size≤b):Same S w g:=
 ⟨a.os.trans h.os,a.tape.trans h.tape,a.output.trans h.output,Nat.le_trans h.size a.size,fun y d c=>by
  rw[a.block y (Nat.lt_of_lt_of_le d h.size) (fun e=>(i y e).elim c (by omega))];exact h.block y d c⟩
theorem trail_unit_spec {bt many:Nat} {p0:List Int} {dd:List Bool} {vp vpl vl v lv:Value} {c:M.Cnf} (h:TrailR Fr w bt many p0 dd vp vpl vl) (hm:c.many=many) (z:M.cnfOk c=true) (I:Vals F w v [lv]) (o:Lists F w lv c.list)
  (G:∀b,F b→b<w.heap.size∧¬ZW bt vp vpl vl b) (Q:∀b,Fr b→b<w.heap.size)
  (hK:∀w' n p1 f m clash,TrailR Fr w' bt many p1 f n vpl m→Same (ZW bt vp vpl vl) w w'→UnitEnd c many p0 p1 clash→K (.bool clash) w'):
  vcall PP kW #[.pointer (some ⟨bt,0,none⟩),v] w K:=by
 apply Ul
 have H:M.marksOk many p0:=⟨h.dis,h.bnd⟩
 have s:∀cl,cl∈c.list→∀l,l∈cl→l≠0∧l.natAbs≤many:=fun cl g l o=>by
  have:=M.clauseOk_lit (M.cnfOk_clause z g) o
  omega
 have a2:c.list.length≤2500:=by
  unfold M.cnfOk at z
  simp only[Bool.and_eq_true,decide_eq_true_eq] at z
  omega
 refine vloop_up (many+1) (fun i u w'=>u=[]∧∃n m put f,TrailR Fr w' bt many put f n vpl m∧Same (ZW bt vp vpl vl) w w'∧(∀b,ZW bt n vpl m b→ZW bt vp vpl vl b∨w.heap.size≤b)∧M.marksOk many put∧(∀l,l∈p0→l∈put)∧
  (∀v,M.cnfT v c→(∀l,l∈p0→M.litT v l=true)→∀l,l∈put→M.litT v l=true)∧put.length=p0.length+i)
  ⟨rfl,vp,vl,p0,dd,h,Same.refl _ _,fun b r=> .inl r,H,fun l o=>o,fun v _ O=>O,rfl⟩ ?_
 rintro i _ _ w1 C hi ⟨rfl,n,m,put,f,ht,hs,hn,p,q,d,hlen⟩ hC
 have Y:=I.same hs fun b r _ e=>(G b r).2 e
 have T:Lists F w1 lv c.list:=Lists.same o hs fun b r _ e=>(G b r).2 e
 have hz:=hs.size
 have a3:=p.len
 refine next_spec (vs:=[lv]) (lls:=[c.list]) ht Y rfl (fun i hi=>?_) (fun cl g l o=>?_) ?_ fun w2 k u x t y=>?_
 ·have:i=0:=by simpa using hi
  subst this;exact T
 ·rw[List.flatten_singleton] at g;exact(s cl g l o).2
 ·rw[List.flatten_singleton];omega
 rw[List.flatten_singleton] at y
 have B:=ht.ext t
 have A:=hs.trans (Same.of_ext (S:=ZW bt vp vpl vl) t)
 have a4:=t.size
 simp only[push_cast]
 rcases M.find_cases put c.list with⟨j,u',P,R,E,D⟩|⟨V,⟨j,P,R,E,D,_⟩|⟨E,D⟩⟩
 ·rw[E] at y
  obtain⟨rfl,rfl,rfl⟩:((j:Int)=k∧u'=u∧P=x):=by simpa using y
  refine zh (fun _=>?_) (fun a=>absurd (Int.natCast_nonneg j) (by omega))
  rw[decide_eq_true (by omega)]
  exact hK w2 n put f m true B A ⟨p,q,d,.inl ⟨rfl,_,M.getD_mem R _,D⟩⟩
 ·rw[E] at y
  obtain⟨rfl,rfl,rfl⟩:(-1=k∧(j:Int)=u∧P=x):=by simpa using y
  refine zh (fun a=>absurd a (by omega)) (fun _=>?_)
  refine zh (fun a=>absurd a (by omega)) (fun _=>?_)
  obtain⟨Z,J⟩:=X80 D
  have g:c.list.getD j []∈c.list:=M.getD_mem R _
  obtain⟨L,N⟩:=s _ g _ Z
  refine push_spec B L N J (fun b r=>by have:=Q b r;omega) fun a1 a0 w3 X W U=>?_
  refine hC (by omega) _ _ ⟨rfl,a1,a0,put++[P],f++[false],X,?_,fun b r=>?_,p.snoc L N J,fun l o=>List.mem_append_left _ (q l o),fun v I O l o=>?_,by simp;omega⟩
  ·exact same_grow A W hn
  ·rcases U b r with h|h
   ·exact hn b h
   ·exact .inr (by omega)
  ·rcases List.mem_append.1 o with h|h
   ·exact d v I O l h
   ·rw[List.mem_singleton.1 h]
    exact M.way_unit p (d v I O) (I _ g) D
 ·rw[E] at y
  obtain⟨rfl,rfl,rfl⟩:(-1=k∧ -1=u∧0=x):=by simpa using y
  refine zh (fun a=>absurd a (by omega)) (fun _=>?_)
  refine zh (fun _=>?_) (fun a=>absurd (by omega) a)
  rw[decide_eq_false (by omega)]
  exact hK w2 n put f m false B A ⟨p,q,d,.inr ⟨rfl,D,V⟩⟩
theorem UnitAll_spec {cv pv:Value} {put:List Int} {c:M.Cnf} (O:CnfR F w cv c) (Q:Ints F' w pv put) (d:M.cnfOk c=true) (v:M.marksOk c.many.toNat put)
  (I:∀w' ov p1 clash,Ext w w'→UnitEnd c c.many.toNat put p1 clash→OwnI PP zg w' ov p1→K (.tuple #[ov,.bool clash]) w'):vcall PP Xi #[cv,pv] w K:=by
 apply xm0
 have u:0≤c.many∧c.many≤700:=by
  unfold M.cnfOk at d
  simp only[Bool.and_eq_true,decide_eq_true_eq] at d
  omega
 obtain⟨lv,rfl,E⟩:=O
 refine qq fun b1 w1 L i R g=>?_
 simp only[push_cast] at g
 have n:=E.ext i
 rw[g.ldAgg (t:=zm) (by exact yi)]
 refine CnfOk_spec (c:=c) ⟨lv,rfl,n⟩ (by omega) (by omega) fun X a=>?_
 rw[d]
 have B:=i.trans a
 have m:=g.ext a
 simp(disch:=(simp only[push_cast];done)) only[push_cast,m.ld0,Bool.not_true]
 rw[show c.many=((c.many.toNat:Nat):Int) by omega]
 refine trailOk_spec (Fr:=fun b=>b<X.heap.size) (dd:=put.map fun _=>false) (Q.ext B) (by omega) (by simp) (fun k P=>?_) (fun b f=>f) (fun h=>absurd v h) fun _ bt vp vpl vl Y j o G=>?_
 ·rw[M.getD_map (fun _=>false) P false 0]
  exact Xq0
 have C:=B.trans j
 have q:=m.ext j
 simp(disch:=(simp only[push_cast];done)) only[push_cast,q.ld1,Bool.not_true]
 refine vbuildS_row1 (xs:=[lv]) X90 xO0 YT0 (fun x T=>?_) (by simp) fun b4 Z N l V r=>?_
 ·rw[List.mem_singleton.1 T]
  obtain⟨_,_,S,_⟩:=n
  exact S.cells1
 have D:=C.trans l
 have z1:=i.size
 have z3:=C.size
 have z4:=l.size
 have a0:=j.size
 have z12:=a.size
 have z:=o.ext l
 have s:∀b,(b<w.heap.size∨b=b4)→b<Z.heap.size∧¬ZW bt vp vpl vl b:=fun b f=>by
  have U:=a.size
  refine⟨by omega,fun e=>?_⟩
  have h1:=G b e
  have h2:b<Y.heap.size:=by
   rcases e with e|e|e|e
   ·subst e;exact o.blk.lt
   ·exact o.rp.lt e
   ·exact o.rpl.lt e
   ·exact o.rl.lt e
  omega
 refine trail_unit_spec (F:=fun b=>b<w.heap.size∨b=b4) (lv:=lv) (c:=c) z (by omega) d ((r.sl1 rfl (by simp)).weaken fun b f _=> .inr f) ((E.weaken fun b f h=> .inl h).ext D) s (fun b f=>by omega) fun w5 A p1 H W clash p y J=>?_
 simp(disch:=(simp only[push_cast];done)) only[push_cast,p.blk.ld0]
 exact I w5 A p1 clash (Ext.then D y fun b f=>by have:=G b f;omega) J p.rp
def q40 (ins:List Bool):List Int:=(List.range ins.length).map fun i=>if ins.getD i false then(2+i:Int) else-2-i
theorem putL_abs {ins:List Bool} {i:Nat}:(if ins.getD i false then(2+i:Int) else-2-i).natAbs=2+i:=by
 split<;>omega
theorem Xl0 {ins:List Bool} {i:Nat} (h:i<ins.length):(q40 ins).getD i 0=if ins.getD i false then(2+i:Int) else-2-i:=by
 unfold q40
 rw[M.getD_map _ (by simpa using h) 0 0,show(List.range ins.length).getD i 0=i by simp[List.getD_eq_getElem?_getD,h]]
theorem Xk0 (ins:List Bool):M.putIns ins (q40 ins):=fun i h=>by
 unfold q40
 exact List.mem_map.2 ⟨i,List.mem_range.2 h,rfl⟩
theorem putL_ok {ins:List Bool} {many:Nat} (h:1+ins.length≤many):M.marksOk many (q40 ins):=by
 refine⟨?_,fun x a=>?_⟩
 ·unfold M.Distinct q40
  refine List.pairwise_map.2 (List.pairwise_map.2 (List.nodup_range.imp fun{x y} h e=>h ?_))
  rw[putL_abs,putL_abs] at e
  omega
 ·unfold q40 at a
  obtain⟨i,hi,rfl⟩:=List.mem_map.1 a
  have:=List.mem_range.1 hi
  have:=putL_abs (ins:=ins) (i:=i)
  omega
theorem putL_way {ins:List Bool} {n:Nat} {v:Nat→Bool} (hi:M.insV v n=ins):∀l,l∈q40 ins→M.litT v l=true:=fun l c=>by
 unfold q40 at c
 obtain⟨i,b,rfl⟩:=List.mem_map.1 c
 have a:=List.mem_range.1 b
 subst hi
 rw[M.insV_len] at a
 have:=M.insV_get (v:=v) a
 rw[this]
 unfold M.litT
 split
 ·rename_i h
  rw[if_pos (by omega),show(2+(i:Int)).natAbs=i+2 by omega];exact h
 ·rename_i h
  rw[if_neg (by omega),show(-2-(i:Int)).natAbs=i+2 by omega];simpa using h
theorem Ym0 (ds:List M.Dcl) (ts:List M.Tm):((cnfE ds ts).2≠0∧(cnfE ds ts).1=⟨0,[]⟩)∨ ∃gs rs,Yz0 ds ts=true∧M.listB ds ts=some (gs,rs)∧cnfE ds ts=(M.blastC ds gs rs,0):=by
 unfold cnfE
 split
 ·rename_i h
  cases a:M.listB ds ts with
  |none=>exact .inl ⟨by simp,rfl⟩
  |some r=>exact .inr ⟨r.1,r.2,h,rfl,rfl⟩
 ·exact .inl ⟨by simp,rfl⟩
theorem cnf_new {N:Nat} {lv:Value} {ls:List Value} {c:M.Cnf} {K:Value→World→Prop} (h:CnfO N w lv ls c) (m:∀w' b,w.heap.size≤b→Ext w w'→Blk w' b [.int .i64 c.many,lv] zm→CnfO N w' lv ls c→K (.pointer (some ⟨b,0,none⟩)) w'):
  y1 PP zm w fun t4 i=>zt PP zm t4 (.agg ⟨[.int .i64 c.many,lv]⟩) i fun _ e=>K t4 e:=by
 obtain⟨o,cc,d,_⟩:=h.lst.vals.shape
 generalize (ls.map fun x=>[x]).length=l at d
 subst d
 refine zF xS fun b i n f p j=>?_
 refine j.stAgg (cs':=[.int .i64 c.many,.slice o l cc]) rfl yi net_one fun e g r k=>?_
 have a:Ext w e:=Ext.then f g fun y q=>by subst q;omega
 exact m e b (by omega) a k (h.ext a)
theorem push_int {pv:Value} {xs:List Int} {x:Int} (h:OwnI PP zg w pv xs) (o:xs.length≤100000) (i:∀w' c,Same (fun b=>pv.ownBlock=some b) w w'→OwnI PP zg w' c (xs++[x])→(∀b,c.ownBlock=some b→pv.ownBlock=some b∨w.heap.size≤b)→K c w'):
  vbuildS PP zg 1 [(0,.int .i64 x)] w fun s m=>vbi PP .append [zg,zg] zg [pv,s] m K:=by
 refine XT ju qR jS rfl rfl (by decide) fun b3 p k a l d=>?_
 refine OwnI.app1 (h.ext a) jW d (by omega) (by omega) fun v4 n f g e=>?_
 refine i n v4 ((Same.of_ext a).trans g) f fun b j=>?_
 rcases e b j with h|h
 ·exact .inl h
 ·exact .inr (by have:=a.size;omega)
theorem FnBlastCnf_spec {v v':Value} {xs ys:List Nat} (hx:Bytes F w v xs) (hy:Bytes F' w v' ys) (bb:Errs (fun _=>False) w ar ab) (a5:Sent w yA at_) (hK:∀w',Ext w w'→K (.bool true) w'):vcall PP Xs #[v,v'] w K:=by
 apply Uk
 refine zV (fun u w'=>u=[]∧w'=w∧ys.length≤1048576) (fun C hC=>?_) ?_
 ·simp(disch:=(simp only[push_cast];done)) only[push_cast,hx.len,hy.len]
  refine zh (fun _=>hK w (Same.refl _ _)) (fun _=>?_)
  exact zh (fun _=>hK w (Same.refl _ _)) (fun _=>hC _ _ ⟨rfl,rfl,by omega⟩)
 rintro _ _ _ ⟨rfl,rfl,az⟩
 rename_i w
 refine DrawBlastCnf_spec hx.below (fun b B=>B) fun w1 dv tv ds ts z hd bj H bz=>?_
 simp only[push_cast]
 refine BlastCnf_spec hd H (bb.ext0 z) (a5.same z id) fun w2 lv ls bc hO=>?_
 simp only[push_cast]
 refine cnf_new hO fun w3 b3 bu bd ad ah=>?_
 have J:=bc.trans bd
 refine spec_BlastCnf_spec (dsn_sized bj) (hd.ext J) (H.ext J) fun w4 c6 c0 be b9=>?_
 simp only[push_cast]
 refine cnf_new b9 fun w5 b5 bv bf b6 ba=>?_
 have L:=be.trans bf
 have bt:=J.trans L
 have ae:=ad.ext L
 have ai:=ah.ext L
 have gC:∀{w':World} {b:Nat} {lv:Value} {c:M.Cnf} {K:Value→World→Prop},Blk w' b [.int .i64 c.many,lv] zm→zf PP zm (.pointer (some ⟨b,0,none⟩)) w' K=K (.agg #[.int .i64 c.many,lv]) w':=fun h=>h.ldAgg (t:=zm) yi
 refine zV (fun u w'=>u=[]∧Ext w5 w') (fun C hC=>?_) ?_
 ·rw[gC ae,gC b6]
  refine zo0 ai.cnf ba.cnf fun w6 a3=>?_
  rw[decide_eq_true ⟨rfl,rfl⟩]
  simp only[push_cast,Bool.not_true]
  refine y9 (fun h=>by simp at h) (fun _=>?_)
  exact hC _ _ ⟨rfl,a3⟩
 rintro _ _ w6 ⟨rfl,a3⟩
 have a0:=L.trans a3
 have y:=J.trans a0
 have A:=ad.ext a0
 have N:=ah.ext a0
 have O:=hd.ext y
 have bl:=H.ext y
 rcases Ym0 ds ts with⟨c1,c2⟩|⟨gs,rs,c1,c2,c3⟩
 ·rw[decide_eq_false c1]
  simp only[push_cast,Bool.not_false]
  rw[gC A,qX0]
  refine zo0 (c':=⟨0,[]⟩) N.cnf (zG0 (Nat.le_refl _)).cnf fun w7 Q=>?_
  rw[c2,decide_eq_true ⟨rfl,rfl⟩]
  exact hK _ (z.trans (y.trans Q))
 have c4:decide ((cnfE ds ts).2=0)=true:=by rw[c3];rfl
 have c5:(cnfE ds ts).1=M.blastC ds gs rs:=by rw[c3]
 rw[c4]
 rw[c5] at A N
 obtain⟨h8,P,ax⟩:=all8_iff.1 c1
 have av:∀t,t∈ts→M.sortM ds t=0:=fun t H=>(xB0 (ax t H)).1
 have Z:=M.list_says P (fun t H=>by rw[av t H];decide) c2
 have p:=M.blastC_ok P Z (by omega)
 have o:(M.blastC ds gs rs).many=((1+M.nIn ds+gs.length:Nat):Int):=rfl
 have bh:0≤(M.blastC ds gs rs).many∧(M.blastC ds gs rs).many≤700:=by
  unfold M.cnfOk at p
  simp only[Bool.and_eq_true,decide_eq_true_eq] at p
  omega
 simp only[push_cast,Bool.not_true]
 refine EnvMany_spec O fun w7 Q=>?_
 have bs:=z.trans (y.trans Q)
 refine vloop_up 6 (fun i u w'=>u=[.int .i64 i]∧Ext w6 w') ⟨rfl,Q⟩ ?_
 rintro i _ _ w10 C hi ⟨rfl,g⟩ hC
 simp only[push_cast]
 refine zh (fun a=>?_) (fun a=>?_)
 ·have a7:=z.trans (y.trans g)
  refine hash_env (i:=i) (O.ext g) P (hy.ext a7) az (by omega) fun bn ev env D ak r=>?_
  have R:=g.trans D
  simp only[push_cast]
  refine BlastIns_spec (O.ext R) ak.ints r fun b0 iv V bg _=>?_
  have S:=R.trans V
  have bw:=M.insM_n r
  have bx:=(M.nIn_eq P).2
  refine vbuildS_row1 (xs:=[]) ju qR jS (fun x hx=>by cases hx) (by simp) fun a6 bo bq W br aa=>?_
  have a8:=S.trans W
  have ao:OwnI PP zg bo (.slice (some ⟨a6,0,none⟩) 0 0) []:=Blk.ownk (css:=[]) (by rw[Qj];exact aa) (by simp) rfl (by decide)
  have c7:=a8.size
  refine vloop_up (M.insM ds env).length (fun j u w'=> ∃pv,u=[pv,.int .i64 j]∧Ext b0 w'∧OwnI PP zg w' pv ((q40 (M.insM ds env)).take j)∧∀b,pv.ownBlock=some b→b0.heap.size≤b) ⟨_,rfl,W,by simpa using ao,fun b B=>by have e:b=a6:=(Option.some.inj B).symm;omega⟩ ?_
  rintro j _ _ b1 C1 hj ⟨pv,rfl,d,G,Y⟩ b8
  have n:=bg.bools.ext d
  simp(disch:=(simp only[push_cast];done)) only[push_cast,n.len]
  refine zh (fun b=>?_) (fun b=>?_)
  ·have k:j<(M.insM ds env).length:=by omega
   simp(disch:=first|(simp only[push_cast];done)|omega) only[push_cast,n.iaddr,Int.toNat_natCast,n.load]
   have au:((q40 (M.insM ds env)).take j).length≤100:=by rw[List.length_take];omega
   have l:(q40 (M.insM ds env)).take (j+1)=(q40 (M.insM ds env)).take j++[if(M.insM ds env).getD j false then(2+j:Int) else-2-j]:=by
    rw[M.take_add (by unfold q40;simpa using k) 0,Xl0 k]
   have E:∀{x:Int},(q40 (M.insM ds env)).take (j+1)=(q40 (M.insM ds env)).take j++[x]→vbuildS PP zg 1 [(0,.int .i64 x)] b1 fun s w1=>vbi PP .append [zg,zg] zg [pv,s] w1 fun t99 b4=>C1 [t99,.int .i64 (IntKind.i64.wrap (j+1))] b4:=fun{x} hx=>by
    refine push_int G (by omega) fun bp bm aw ap am=>?_
    rw[inc64' (by omega)]
    refine b8 k _ _ ⟨bm,rfl,Ext.then d aw fun b B=>Y b B,by rw[hx];exact ap,fun b B=>?_⟩
    rcases am b B with h|h
    ·exact Y b h
    ·have:=d.size;omega
   refine y9 (fun B=>?_) (fun B=>?_)
   ·rw[B,if_pos rfl] at l
    rw[zy (x:=2+(j:Int)) (by omega) (by omega)]
    exact E l
   ·rw[B,if_neg (by decide)] at l
    rw[zy (x:= -2-(j:Int)) (by omega) (by omega)]
    exact E l
  ·have a4:j=(M.insM ds env).length:=by omega
   subst a4
   have au:(q40 (M.insM ds env)).length=(M.insM ds env).length:=by unfold q40;simp
   rw[←au,List.take_length] at G
   have a9:=S.trans d
   refine vloop_up ts.length (fun j u w'=>u=[.bool ((ts.take j).all fun t=>decide (M.evalM ds env t=1)),.int .i64 j]∧Ext b1 w') ⟨rfl,Same.refl _ _⟩ ?_
   rintro j _ _ bp C2 hj ⟨rfl,f⟩ af
   have m:=a9.trans f
   have I:=bl.ext m
   simp(disch:=(simp only[push_cast];done)) only[push_cast,I.len]
   refine zh (fun c=>?_) (fun c=>?_)
   ·have k:j<ts.length:=by omega
    simp(disch:=first|(simp only[push_cast];done)|omega) only[push_cast,I.iaddr,Int.toNat_natCast]
    refine I.load zI k fun x hx=>?_
    refine j00 (O.ext m) hx (ak.ints.ext (V.trans (d.trans f))) fun b2 q=>?_
    have al:=M.getD_mem k default
    obtain⟨r1,r2,r3⟩:=xB0 (ax _ al)
    have ay:=J40 r (by rw[r1];decide) r2
    have a5:M.teval ds (ts.getD j default) env=M.evalM ds env (ts.getD j default):=by unfold M.teval;rw[if_pos ay]
    rw[a5]
    simp only[push_cast]
    have an:(ts.take (j+1)).all (fun t=>decide (M.evalM ds env t=1))=((ts.take j).all (fun t=>decide (M.evalM ds env t=1))&&decide (M.evalM ds env (ts.getD j default)=1)):=by
     rw[M.take_add k default,List.all_append];simp
    refine y9 (fun h=>?_) (fun h=>?_)
    ·rw[inc64' (by omega)]
     refine af k _ _ ⟨?_,f.trans q⟩
     rw[an,h,Bool.true_and]
    ·rw[inc64' (by omega)]
     refine af k _ _ ⟨?_,f.trans q⟩
     rw[an,h,Bool.false_and]
   ·have a4:j=ts.length:=by omega
    subst a4
    rw[List.take_length]
    have ac:=A.ext m
    have ag:=N.ext m
    rw[gC ac]
    have bk:M.marksOk (M.blastC ds gs rs).many.toNat (q40 (M.insM ds env)):=putL_ok (by rw[o];omega)
    refine UnitAll_spec ag.cnf (G.ext f).ints p bk fun b2 ov p1 clash q hU aq=>?_
    have bi:(M.blastC ds gs rs).many.toNat=1+M.nIn ds+gs.length:=by rw[o];omega
    rw[bi] at hU
    have X:=M.prop_ends r av Z (by omega) hU.ok (fun i hi=>hU.sub _ (Xk0 _ i hi)) (fun v hv hi _=>hU.must v hv (putL_way hi)) (hU.fin.imp (fun h=>h.2) fun h=>h.2)
    have aj:clash=true↔ ¬M.allT ds env ts:=by
     rw[←X.1]
     rcases hU.fin with⟨h1,h2⟩|⟨h1,h2,h3⟩
     ·exact⟨fun _=>h2,fun _=>h1⟩
     ·rw[h1]
      exact⟨fun h=>(by cases h),fun⟨cl,a1,a2⟩=>absurd a2 (h3 cl a1)⟩
    have U:(ts.all fun t=>decide (M.evalM ds env t=1))=true↔M.allT ds env ts:=by
     rw[List.all_eq_true]
     exact⟨fun h t H=>of_decide_eq_true (h t H),fun h t H=>decide_eq_true (h t H)⟩
    simp only[push_cast]
    have T:=m.trans q
    have E:C [.int .i64 (IntKind.i64.wrap (i+1))] b2:=by
     rw[inc64' (by omega)]
     exact hC (by omega) _ _ ⟨rfl,T⟩
    by_cases ha:M.allT ds env ts
    ·have h1:clash=false:=by
      cases hq:clash
      ·rfl
      ·exact absurd ha (aj.1 hq)
     have h2:(ts.all fun t=>decide (M.evalM ds env t=1))=true:=U.2 ha
     rw[h1,h2]
     refine y9 (fun h=>by cases h) (fun _=>?_)
     refine y9 (fun _=>?_) (fun h=>by cases h)
     have b7:=(A.ext T)
     simp(disch:=(simp only[push_cast];done)) only[push_cast,aq.ints.len,b7.ld0]
     refine zh (fun h=>absurd (by rw[X.2 ha,o]) h) (fun _=>E)
    ·have h1:clash=true:=aj.2 ha
     have h2:(ts.all fun t=>decide (M.evalM ds env t=1))=false:=by
      cases hq:(ts.all fun t=>decide (M.evalM ds env t=1))
      ·rfl
      ·exact absurd (U.1 hq) ha
     rw[h1,h2]
     refine y9 (fun h=>by cases h) (fun _=>?_)
     exact y9 (fun h=>by cases h) (fun _=>E)
 ·rw[gC (A.ext g)]
  refine CnfOk_spec (N.ext g).cnf (by omega) (by omega) fun bn D=>?_
  rw[p]
  exact hK _ (z.trans (y.trans (g.trans D)))
end Go.Proofs.YtaekfnbnhjgboaaGreatDoor
end
section
namespace Go.Proofs.YtaekfnbnhjgboaaGreatDoor
open Go Go.Vc Go.Proofs
open Go.RowKit
theorem laid_at {l:List (String×DataW Unit)} {W:World} (h:laidMet PP l W):∀k,laidMet PP (l.drop k) W
 |0=>h
 |k+1=>by
  have a:=laid_at h k
  rw[←List.tail_drop]
  cases b:l.drop k with
  |nil=>rw[b] at a;exact a
  |cons x r=>rw[b] at a;exact a.tail
theorem j80: "*" ++ "errors.errorString" = "*errors.errorString" :=by decide
theorem Xd0 (u:TypeId) (h:PP.typeName? 3 u=some "*errors.errorString"):u=xy:=
 typeName_ptr_named (nm:= "errors.errorString") (by rw[j80];kernel_rfl) (by kernel_rfl) (by decide) u (by rw[j80];exact h)
def ifaceB (P:Program) (t:TypeId):Bool:=match P.underlying t with
 |some (.interface _)=>true
 |_=>false
theorem Xw0 {P:Program} {t:TypeId} (h:ifaceB P t=true):∃ms,P.underlying t=some (.interface ms):=by
 unfold ifaceB at h
 split at h
 ·exact⟨_,by assumption⟩
 ·cases h
theorem Z10:∃ms,PP.underlying ye=some (.interface ms):=Xw0 (by kernel_rfl)
def fieldB (P:Program) (t u:TypeId):Bool:=match P.underlying t with
 |some (.struct fs)=>match fs.toList with
  |[f]=>decide (f.type=u)&&decide (f.offset=0)
  |_=>false
 |_=>false
theorem Xz0 {P:Program} {t u:TypeId} (h:fieldB P t u=true):∃f,P.underlying t=some (.struct #[f])∧f.type=u∧f.offset=0:=by
 unfold fieldB at h
 split at h
 ·rename_i fs a
  split at h
  ·rename_i f b
   simp only[Bool.and_eq_true,decide_eq_true_eq] at h
   refine⟨f,?_,h⟩
   rw[a]
   congr 2
   exact Array.toList_inj.1 (by simpa using b)
  ·cases h
 ·cases h
theorem Xe0:PP.underlying xy=some (.pointer 396):=by kernel_rfl
theorem k90:∃f,PP.underlying 396=some (.struct #[f])∧f.type=zN∧f.offset=0:=Xz0 (by kernel_rfl)
theorem ka0:PP.underlying zN=some .string:=by kernel_rfl
theorem QR0:PP.cellsOf 396=1∧PP.cellsOf zN=1:=⟨by kernel_rfl,by kernel_rfl⟩
theorem kb0 {n:String} {text:List UInt8} {r l:List (String×DataW Unit)} {W:World} {g:Nat} (h:laidMet PP l W) (k:Nat) (j:l.drop k=(n,.iface "*errors.errorString" (.ptr (.agg [.lit (.string text)])))::r)
  (c:PP.globalNamed n=some g) (m:(PP.globals[g]?).map (·.type)=some ye):∃a,Sent W g a:=by
 have b:=laid_at h k
 rw[j] at b
 obtain⟨ms,hi⟩:=Z10
 obtain⟨f,d,e,i⟩:=k90
 obtain⟨a,s,o,_⟩:=laid_sentinel b c m hi Xd0 Xe0 d e i ka0 QR0.1 QR0.2
 exact⟨a,by unfold Sent;simpa using World.var?_cell c o 0⟩
theorem vars_len {H:Type} {enc:TypeId×Value→H} {P:Program} {w:World} {sp:Nat→Bool}:∀{ns:List String} {gs:List (DataW H)} {ps:List MemPlace},DataW.TrodVars enc P w sp ns gs ps→gs.length=ns.length
 |[],[],_,_=>rfl
 |[],_::_,_,h=>h.elim
 |_::_,[],_,h=>h.elim
 |_::_,_::_,_,⟨_,_,_,_,_,_,_,_,_,_,hs,_⟩=>by rw[List.length_cons,List.length_cons,vars_len hs]
theorem vlist3 {α:Type} {l:List α} (h:l.length=3):∃a b c,l=[a,b,c]:=by
 match l,h with
 |[a,b,c],_=>exact⟨a,b,c,rfl⟩
end Go.Proofs.YtaekfnbnhjgboaaGreatDoor
end
