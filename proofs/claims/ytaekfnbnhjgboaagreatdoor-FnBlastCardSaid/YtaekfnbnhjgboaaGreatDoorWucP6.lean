import Derived.Test.YtaekfnbnhjgboaaGreatDoorWucP5
import Derived.Test.YtaekfnbnhjgboaaGreatDoorWucP2
import Derived.Test.YtaekfnbnhjgboaaGreatDoorWucP1
import Derived.Laws.CopyRow
import Derived.Laws.IdiomCopy
/- A part of the proof. -/
set_option linter.unusedVariables false
set_option linter.unusedSimpArgs false
set_option linter.unnecessarySimpa false
set_option linter.unusedSectionVars false
section
namespace Go.M
def bitsN (w a:Nat):List Bool:=(List.range w).map fun i=>decide (a/2^i%2=1)
theorem bitsN_len (w a:Nat):(bitsN w a).length=w:=by unfold bitsN;rw[List.length_map,List.length_range]
theorem bitsN_get {w a i:Nat} (h:i<w) (d:Bool):(bitsN w a).getD i d=decide (a/2^i%2=1):=by
 unfold bitsN
 rw[List.getD_eq_getElem?_getD,List.getElem?_map,List.getElem?_range h];rfl
def QB (w n:Int):List Bool:=if w=0 then[decide (n=1)] else bitsN w.toNat n.toNat
theorem valB_len {w n:Int} (h:0≤w):(QB w n).length=(max 1 w).toNat:=by
 unfold QB
 split
 ·next e=>rw[e];rfl
 ·rw[bitsN_len];omega
theorem un_bits {op w a:Int} (ho:op=1∨op=2) (h:vok w a=true):unV op (QB w a)=QB w (unM op w a):=by
 have hw:=vok_lt h
 unfold QB
 rw[if_neg (by omega),if_neg (by omega)]
 have h1:∀w:Fin 5,∀n:Fin 16,1≤w.1→n.1<2^w.1→unV 1 (bitsN w n)=bitsN w (unM 1 w n).toNat∧unV 2 (bitsN w n)=bitsN w (unM 2 w n).toNat:=by decide+kernel
 have:=small1 (p:=fun w n=>unV 1 (bitsN w n)=bitsN w (unM 1 w n).toNat∧unV 2 (bitsN w n)=bitsN w (unM 2 w n).toNat) h1 h
 rw[show((w.toNat:Nat):Int)=w by omega,show((a.toNat:Nat):Int)=a by omega] at this
 rcases ho with rfl|rfl
 ·exact this.1
 ·exact this.2
def Xv0 (op w:Nat):Bool:=(List.range 16).all fun a=>(List.range 16).all fun b=> !(decide (a<2^w)&&decide (b<2^w))||decide (Xt0 op (bitsN w a) (bitsN w b)=bitsN w (binN op w a b))
theorem bin_bits {op w a b:Int} (h3:3≤op) (h13:op≤13) (ha:vok w a=true) (hb:vok w b=true):Xt0 op (QB w a) (QB w b)=QB w (YM0 op w a b):=by
 obtain⟨h1,h2,h4,h5⟩:=vok_iff.1 ha
 obtain⟨_,_,h4',h5'⟩:=vok_iff.1 hb
 have e:((2^w.toNat:Nat):Int)=2^w.toNat:=by simp
 have h16:2^w.toNat≤2^4:=Nat.pow_le_pow_right (by omega) (by omega)
 have hall:∀o:Fin 14,∀v:Fin 5,3≤o.1→1≤v.1→Xv0 o v=true:=by decide+kernel
 have:=hall ⟨op.toNat,by omega⟩ ⟨w.toNat,by omega⟩ (by show 3≤op.toNat;omega) (by show 1≤w.toNat;omega)
 simp only[Xv0,List.all_eq_true,List.mem_range,Bool.or_eq_true,Bool.not_eq_true',Bool.and_eq_false_iff,decide_eq_false_iff_not,decide_eq_true_eq] at this
 unfold QB
 rw[if_neg (by omega),if_neg (by omega),if_neg (by omega)]
 rcases this a.toNat (by omega) b.toNat (by omega) with(h|h)|h
 ·exact absurd (by omega) h
 ·exact absurd (by omega) h
 ·rw[show((op.toNat:Nat):Int)=op by omega] at h
  rw[h];unfold YM0;rw[Int.toNat_natCast]
def Xr0 (op w:Nat):Bool:=(List.range 16).all fun a=>(List.range 16).all fun b=> !(decide (a<2^w)&&decide (b<2^w))||(cmpV op (bitsN w a) (bitsN w b)==cmpM op w a b)
theorem cmp_bits {op w a b:Int} (h3:15≤op) (h13:op≤17) (ha:vok w a=true) (hb:vok w b=true):cmpV op (QB w a) (QB w b)=cmpM op w a b:=by
 obtain⟨h1,h2,h4,h5⟩:=vok_iff.1 ha
 obtain⟨_,_,h4',h5'⟩:=vok_iff.1 hb
 have e:((2^w.toNat:Nat):Int)=2^w.toNat:=by simp
 have h16:2^w.toNat≤2^4:=Nat.pow_le_pow_right (by omega) (by omega)
 have hall:∀o:Fin 18,∀v:Fin 5,15≤o.1→1≤v.1→Xr0 o v=true:=by decide+kernel
 have:=hall ⟨op.toNat,by omega⟩ ⟨w.toNat,by omega⟩ (by show 15≤op.toNat;omega) (by show 1≤w.toNat;omega)
 simp only[Xr0,List.all_eq_true,List.mem_range,Bool.or_eq_true,Bool.not_eq_true',Bool.and_eq_false_iff,decide_eq_false_iff_not,beq_iff_eq] at this
 unfold QB
 rw[if_neg (by omega),if_neg (by omega)]
 rcases this a.toNat (by omega) b.toNat (by omega) with(h|h)|h
 ·exact absurd (by omega) h
 ·exact absurd (by omega) h
 ·rwa[show((op.toNat:Nat):Int)=op by omega,show((w.toNat:Nat):Int)=w by omega,show((a.toNat:Nat):Int)=a by omega,show((b.toNat:Nat):Int)=b by omega] at h
def Xs0 (w v:Nat):Bool:=(List.range 16).all fun a=>(List.range 16).all fun b=> !(decide (a<2^w)&&decide (b<2^v))||decide (bitsN v b++bitsN w a=bitsN (w+v) (a*2^v+b))
theorem cat_bits {w v a b:Int} (ha:vok w a=true) (hb:vok v b=true) (hs:w+v≤4):QB v b++QB w a=QB (w+v) (Yg0 v a b):=by
 obtain⟨h1,h2,h4,h5⟩:=vok_iff.1 ha
 obtain⟨k1,k2,h4',h5'⟩:=vok_iff.1 hb
 have e:((2^w.toNat:Nat):Int)=2^w.toNat:=by simp
 have e':((2^v.toNat:Nat):Int)=2^v.toNat:=by simp
 have h16:2^w.toNat≤2^4:=Nat.pow_le_pow_right (by omega) (by omega)
 have h16':2^v.toNat≤2^4:=Nat.pow_le_pow_right (by omega) (by omega)
 have hall:∀w:Fin 5,∀v:Fin 5,1≤w.1→1≤v.1→w.1+v.1≤4→Xs0 w v=true:=by decide+kernel
 have:=hall ⟨w.toNat,by omega⟩ ⟨v.toNat,by omega⟩ (by show 1≤w.toNat;omega) (by show 1≤v.toNat;omega) (by show w.toNat+v.toNat≤4;omega)
 simp only[Xs0,List.all_eq_true,List.mem_range,Bool.or_eq_true,Bool.not_eq_true',Bool.and_eq_false_iff,decide_eq_false_iff_not,decide_eq_true_eq] at this
 unfold QB
 rw[if_neg (by omega),if_neg (by omega),if_neg (by omega)]
 rcases this a.toNat (by omega) b.toNat (by omega) with(h|h)|h
 ·exact absurd (by omega) h
 ·exact absurd (by omega) h
 ·rw[h,show(w+v).toNat=w.toNat+v.toNat by omega]
  congr 1
  unfold Yg0
  have:((a.toNat*2^v.toNat+b.toNat:Nat):Int)=a*2^v.toNat+b:=by
   rw[Int.natCast_add,Int.natCast_mul,e',show((a.toNat:Nat):Int)=a by omega,show((b.toNat:Nat):Int)=b by omega]
  omega
def Xp0 (w:Nat):Bool:=(List.range 16).all fun a=>(List.range 4).all fun hi=>(List.range 4).all fun lo=> !(decide (a<2^w)&&decide (lo≤hi)&&decide (hi<w))||decide (((bitsN w a).drop lo).take (hi-lo+1)=bitsN (hi-lo+1) (a/2^lo%2^(hi-lo+1)))
theorem cut_bits {w a hi lo:Int} (ha:vok w a=true) (hlo:0≤lo) (hh:lo≤hi) (hw:hi<w):((QB w a).drop lo.toNat).take (hi-lo+1).toNat=QB (hi-lo+1) (cutM a hi lo):=by
 obtain⟨h1,h2,h4,h5⟩:=vok_iff.1 ha
 have e:((2^w.toNat:Nat):Int)=2^w.toNat:=by simp
 have h16:2^w.toNat≤2^4:=Nat.pow_le_pow_right (by omega) (by omega)
 have hall:∀w:Fin 5,1≤w.1→Xp0 w=true:=by decide+kernel
 have:=hall ⟨w.toNat,by omega⟩ (by show 1≤w.toNat;omega)
 simp only[Xp0,List.all_eq_true,List.mem_range,Bool.or_eq_true,Bool.not_eq_true',Bool.and_eq_false_iff,decide_eq_false_iff_not,decide_eq_true_eq] at this
 unfold QB
 rw[if_neg (by omega),if_neg (by omega)]
 rcases this a.toNat (by omega) hi.toNat (by omega) lo.toNat (by omega) with((h|h)|h)|h
 ·exact absurd (by omega) h
 ·exact absurd (by omega) h
 ·exact absurd (by omega) h
 ·rw[show(hi-lo+1).toNat=hi.toNat-lo.toNat+1 by omega,h]
  congr 1
  unfold cutM
  rw[show(hi-lo+1).toNat=hi.toNat-lo.toNat+1 by omega]
  have:((a.toNat/2^lo.toNat%2^(hi.toNat-lo.toNat+1):Nat):Int)=a/2^lo.toNat%2^(hi.toNat-lo.toNat+1):=by
   rw[Int.natCast_emod,Int.natCast_ediv,show((a.toNat:Nat):Int)=a by omega]
   simp
  omega
def insM:List Dcl→List Int→List Bool
 |d::ds,n::env=>(bitsN d.2.toNat n.toNat).reverse++insM ds env
 |_,_=>[]
def nameB (ds:List Dcl) (k:Nat):List Int:=(List.range ((ds.getD k (nada,0)).2).toNat).map fun(j:Nat)=>2+bits (ds.take k)+(ds.getD k (nada,0)).2-1-j
def fixB (w n:Int):List Int:=(List.range w.toNat).map fun(j:Nat)=>if n.toNat/2^j%2=1 then 1 else-1
def nodeB (ds:List Dcl) (t:Tm) (rs:List (List Int)):Bd (List Int):=
 if t.op=20 then .ret (fixB t.a t.b)
 else if t.op=21 then .ret (nameB ds (findD ds t.s).toNat)
 else if t.op=24 then .ret [1]
 else if t.op=25 then .ret [-((rs.getD 0 []).getD 0 0)]
 else if t.op=26 then .and ((rs.getD 0 []).getD 0 0) ((rs.getD 1 []).getD 0 0) fun v=> .ret [v]
 else if t.op=27 then(orB ((rs.getD 0 []).getD 0 0) ((rs.getD 1 []).getD 0 0)).map fun v=>[v]
 else if t.op=23 then eachB (muxB ((rs.getD 0 []).getD 0 0)) (rs.getD 1 []) (rs.getD 2 [])
 else if t.op=22 then .ret (((rs.getD 0 []).drop t.b.toNat).take (t.a-t.b+1).toNat)
 else if t.op≤2 then unB t.op (rs.getD 0 [])
 else if 15≤t.op∧t.op≤17 then(cmpB t.op (rs.getD 0 []) (rs.getD 1 [])).map fun v=>[v]
 else binB t.op (rs.getD 0 []) (rs.getD 1 [])
def seqB:List (Bd (List Int))→Bd (List (List Int))
 |p::ps=>p.bind fun r=>(seqB ps).map (r:: ·)
 |[]=> .ret []
def termB (ds:List Dcl):Tm→Bd (List Int):=Tm.fold fun t ps=>(seqB ps).bind (nodeB ds t)
theorem termB_eq (ds:List Dcl) (t:Tm):termB ds t=(seqB (t.ks.map (termB ds))).bind (nodeB ds t):=Tm.fold_eq _ t
theorem QM (d:Dcl) (ds:List Dcl):bits (d::ds)=d.2+bits ds:=by unfold bits;rw[List.map_cons,List.sum_cons]
theorem insM_len:∀{ds:List Dcl} {env:List Int},env.length=ds.length→(∀d,d∈ds→0≤d.2)→((insM ds env).length:Int)=bits ds
 |[],env,_,_=>by cases env<;>rfl
 |d::ds,[],hl,_=>by simp at hl
 |d::ds,n::env,hl,hd=>by
  have ih:=insM_len (ds:=ds) (env:=env) (by simpa using hl) fun x hx=>hd x (List.mem_cons_of_mem _ hx)
  have h0:=hd d List.mem_cons_self
  simp only[insM,List.length_append,List.length_reverse,bitsN_len,QM]
  omega
theorem bits_pos' {ds:List Dcl}:(∀d,d∈ds→0≤d.2)→0≤bits ds:=by
 induction ds with
 |nil=>intro _;exact Int.le_refl _
 |cons d ds ih=>
  intro h
  have:=h d List.mem_cons_self
  have:=ih fun x hx=>h x (List.mem_cons_of_mem _ hx)
  rw[QM];omega
theorem insM_get:∀{ds:List Dcl} {env:List Int} {k i:Nat},env.length=ds.length→(∀d,d∈ds→0≤d.2)→k<ds.length→(i:Int)<(ds.getD k (nada,0)).2→
  (insM ds env).getD ((bits (ds.take k)).toNat+i) false=decide ((env.getD k 0).toNat/2^((ds.getD k (nada,0)).2.toNat-1-i)%2=1)
 |d::ds,n::env,0,i,hl,hd,hk,hi=>by
  have hi':i<d.2.toNat:=by have:(i:Int)<d.2:=hi;omega
  show((bitsN d.2.toNat n.toNat).reverse++insM ds env).getD (0+i) false=decide (n.toNat/2^(d.2.toNat-1-i)%2=1)
  rw[Nat.zero_add,List.getD_eq_getElem?_getD,List.getElem?_append_left (by rw[List.length_reverse,bitsN_len];exact hi'),List.getElem?_reverse (by rw[bitsN_len];exact hi'),bitsN_len,←List.getD_eq_getElem?_getD,bitsN_get (by omega)]
 |d::ds,n::env,k+1,i,hl,hd,hk,hi=>by
  have hd':∀x,x∈ds→0≤x.2:=fun x hx=>hd x (List.mem_cons_of_mem _ hx)
  have ih:=insM_get (ds:=ds) (env:=env) (k:=k) (i:=i) (by simpa using hl) hd' (by simpa using hk) (by simpa using hi)
  have h0:=hd d List.mem_cons_self
  have hb:=bits_pos' (ds:=ds.take k) fun x hx=>hd' x (List.mem_of_mem_take hx)
  show((bitsN d.2.toNat n.toNat).reverse++insM ds env).getD ((bits (d::ds.take k)).toNat+i) false=_
  rw[QM,List.getD_eq_getElem?_getD,List.getElem?_append_right (by rw[List.length_reverse,bitsN_len];omega),←List.getD_eq_getElem?_getD,List.length_reverse,bitsN_len,show(d.2+bits (ds.take k)).toNat+i-d.2.toNat=(bits (ds.take k)).toNat+i by omega,ih]
  simp only[List.getD_cons_succ]
 |[],_,_,_,_,_,hk,_=>by simp at hk
 |_::_,[],_,_,hl,_,_,_=>by simp at hl
section
variable {ρ:Int→Bool} {ds:List Dcl} {env:List Int}
def Ins (ρ:Int→Bool) (ds:List Dcl) (env:List Int):Prop:=∀i:Nat,i<(insM ds env).length→ρ (2+i)=(insM ds env).getD i false
theorem dpos (h:declOk ds=true):∀d,d∈ds→0≤d.2:=fun d hd=>by
 obtain⟨j,hj,rfl⟩:=List.getElem_of_mem hd
 have:=dcl_wide h hj
 rw[List.getD_eq_getElem?_getD,List.getElem?_eq_getElem hj] at this
 simp at this;omega
theorem bits_le {k:Nat} (h:declOk ds=true) (hk:k<ds.length):bits (ds.take k)+(ds.getD k (nada,0)).2≤bits ds∧0≤bits (ds.take k):=by
 have hp:=dpos h
 have e:bits ds=bits (ds.take k)+bits (ds.drop k):=by
  unfold bits
  rw[←List.sum_append,←List.map_append,List.take_append_drop]
 have e2:ds.drop k=ds.getD k (nada,0)::ds.drop (k+1):=by
  rw[List.drop_eq_getElem_cons hk,List.getD_eq_getElem?_getD,List.getElem?_eq_getElem hk];rfl
 have h1:=bits_pos' (ds:=ds.drop (k+1)) fun x hx=>hp x (List.mem_of_mem_drop hx)
 rw[e2,QM] at e
 exact⟨by omega,bits_pos' fun x hx=>hp x (List.mem_of_mem_take hx)⟩
theorem name_has {k m:Nat} (h:declOk ds=true) (hk:k<ds.length) (hm:1+bits ds≤m):hasL m (nameB ds k):=fun x hx=>by
 obtain⟨j,hj,rfl⟩:=List.mem_map.1 hx
 have hj':=List.mem_range.1 hj
 have:=bits_le h hk
 exact⟨by omega,by omega,by omega⟩
theorem name_bits (he:envOk ds env=true) (hi:Ins ρ ds env) {k:Nat} (hk:k<ds.length):(nameB ds k).map ρ=bitsN ((ds.getD k (nada,0)).2).toNat (env.getD k 0).toNat:=by
 obtain⟨hd,hl,hv⟩:=env_ok he
 have hb:=bits_le hd hk
 have hlen:=insM_len hl (dpos hd)
 unfold nameB bitsN
 rw[List.map_map]
 refine List.map_congr_left fun j hj=>?_
 have hj':=List.mem_range.1 hj
 have e:(2+bits (ds.take k)+(ds.getD k (nada,0)).2-1-(j:Int))=2+(((bits (ds.take k)).toNat+((ds.getD k (nada,0)).2.toNat-1-j):Nat):Int):=by omega
 show ρ (2+bits (ds.take k)+(ds.getD k (nada,0)).2-1-(j:Int))=_
 rw[e,hi _ (by omega),insM_get hl (dpos hd) hk (by omega)]
 rw[show(ds.getD k (nada,0)).2.toNat-1-((ds.getD k (nada,0)).2.toNat-1-j)=j by omega]
theorem YG0 {k:Nat} {w n:Int} (hk:1≤k):hasL k (fixB w n):=fun x hx=>by
 obtain⟨j,_,rfl⟩:=List.mem_map.1 hx
 split
 ·exact has_one hk
 ·exact has_mone hk
theorem ZF0 (h:Rho ρ) {w n:Int}:(fixB w n).map ρ=bitsN w.toNat n.toNat:=by
 unfold fixB bitsN
 rw[List.map_map]
 refine List.map_congr_left fun j _=>?_
 show ρ (if _ then _ else _)=_
 split
 ·next e=>rw[h.one,decide_eq_true e]
 ·next e=>rw[h.mone,decide_eq_false e]
theorem seq_sat {k0:Nat} {f:Tm→Bd (List Int)} {g:Tm→List Bool}:∀{ks:List Tm} {k:Nat} {Q:Nat→List (List Int)→Prop},k0≤k→(∀t,t∈ks→∀{k:Nat} {Q:Nat→List Int→Prop},k0≤k→(∀k' r,k≤k'→hasL k' r→r.map ρ=g t→Q k' r)→Says ρ k (f t) Q)→
  (∀k' rs,k≤k'→(∀r,r∈rs→hasL k' r)→rs.map (fun r=>r.map ρ)=ks.map g→Q k' rs)→Says ρ k (seqB (ks.map f)) Q:=by
 intro ks
 induction ks with
 |nil=>intro k Q _ _ hQ;exact hQ k [] (Nat.le_refl _) (fun r hr=>by cases hr) rfl
 |cons t ks ih=>
  intro k Q hk hf hQ
  refine Says.bind (hf t List.mem_cons_self hk fun k1 r h1 hr rr=>?_)
  refine Says.bind (ih (by omega) (fun u hu=>hf u (List.mem_cons_of_mem _ hu)) fun k2 rs h2 hrs rrs=>?_)
  refine hQ k2 (r::rs) (by omega) (fun x hx=>?_) (by rw[List.map_cons,List.map_cons,rr,rrs])
  rcases List.mem_cons.1 hx with rfl|hx
  ·exact hr.mono h2
  ·exact hrs x hx
theorem KC (n:Int):QB 0 n=[decide (n=1)]:=rfl
theorem head_rho {r:List Int} {b:Bool} (h:r.map ρ=[b]):r.length=1∧ρ (r.getD 0 0)=b:=by
 match r,h with
 |[x],h=>exact⟨rfl,by simpa using h⟩
theorem node_sat (h:Rho ρ) (he:envOk ds env=true) (hi:Ins ρ ds env) {t:Tm} (hs:sortM ds t≠ -1) {k:Nat} (hk:1+bits ds≤k) {rs:List (List Int)} (hrs:∀r,r∈rs→hasL k r)
  (hmap:rs.map (fun r=>r.map ρ)=t.ks.map fun u=>QB (sortM ds u) (evalM ds env u)) {Q:Nat→List Int→Prop}
  (hQ:∀k' r,k≤k'→hasL k' r→r.map ρ=QB (sortM ds t) (evalM ds env t)→Q k' r):Says ρ k (nodeB ds t rs) Q:=by
 obtain⟨hd,hl,hv⟩:=env_ok he
 obtain⟨hf,hkd,hsk⟩:=sort_parts hs
 have hb0:0≤bits ds:=bits_pos' (dpos hd)
 have hk1:1≤k:=by omega
 simp only[formed,Bool.and_eq_true,decide_eq_true_eq] at hf
 obtain⟨har,hpl⟩:=hf
 have hops:=arity_ops (o:=t.op) (by omega)
 have hln:rs.length=t.ks.length:=by have:=congrArg List.length hmap;simpa using this
 have hx:∀i,i<t.ks.length→(t.ks.map (sortM ds)).getD i 0=sortM ds (kid t i):=fun i hi=>getD_map _ hi _ _
 have hy:∀i,i<t.ks.length→(t.ks.map (vecM ds env)).getD i (0,0)=(sortM ds (kid t i),evalM ds env (kid t i)):=fun i hi=>by
  rw[getD_map _ hi _ default,vecM_pair];rfl
 have hin:∀i,i<t.ks.length→inS (sortM ds (kid t i)) (evalM ds env (kid t i)):=fun i hi=>Xj0 he hs hi
 have hr:∀i,i<t.ks.length→hasL k (rs.getD i [])∧(rs.getD i []).map ρ=QB (sortM ds (kid t i)) (evalM ds env (kid t i)):=fun i hi'=>by
  refine⟨hrs _ (getD_mem (by omega) _),?_⟩
  have e:=congrArg (fun l=>l.getD i []) hmap
  rw[getD_map _ (by omega) [] [],getD_map _ hi' [] default] at e
  exact e
 have hev:=evalM_eq ds env t
 rw[hsk] at hs hQ
 unfold sortK at hs hQ
 unfold valK at hev
 unfold nodeB
 by_cases h20:t.op=20
 ·simp only[h20,if_true] at hs hQ hev⊢
  by_cases hv':vok t.a t.b=true
  ·rw[if_pos hv'] at hs hQ
   have:=vok_lt hv'
   refine hQ k _ (Nat.le_refl _) (YG0 hk1) ?_
   rw[ZF0 h,hev]
   unfold QB
   rw[if_neg (by omega)]
  ·rw[if_neg hv'] at hs;exact absurd rfl hs
 simp only[if_neg h20] at hs hQ hev⊢
 by_cases h21:t.op=21
 ·simp only[h21,if_true] at hs hQ hev⊢
  have hfd:=findD_lt ds t.s
  by_cases hn:findD ds t.s<0
  ·rw[if_pos hn] at hs;exact absurd rfl hs
  ·rw[if_neg hn] at hs hQ
   have hj:(findD ds t.s).toNat<ds.length:=by omega
   have hw:=dcl_wide hd hj
   refine hQ k _ (Nat.le_refl _) (name_has hd hj hk) ?_
   rw[name_bits he hi hj,hev]
   unfold QB
   rw[if_neg (by omega)]
 simp only[if_neg h21] at hs hQ hev⊢
 by_cases h24:24≤t.op
 ·simp only[if_pos h24] at hs hQ
  by_cases hn:(t.ks.map (sortM ds)).any (fun x=>decide (x≠0))=true
  ·rw[if_pos hn] at hs;exact absurd rfl hs
  ·rw[if_neg hn] at hs hQ
   have hz:∀i,i<t.ks.length→sortM ds (kid t i)=0:=fun i hi'=>by
    simp only[List.any_eq_true,decide_eq_true_eq,not_exists,not_and,Decidable.not_not] at hn
    exact hn _ (List.mem_map_of_mem (getD_mem hi' _))
   have hb:∀i,i<t.ks.length→has k ((rs.getD i []).getD 0 0)∧ρ ((rs.getD i []).getD 0 0)=decide (evalM ds env (kid t i)=1)∧(evalM ds env (kid t i)=0∨evalM ds env (kid t i)=1):=fun i hi'=>by
    obtain⟨r1,r2⟩:=hr i hi'
    rw[hz i hi',KC] at r2
    obtain⟨l1,l2⟩:=head_rho r2
    have h3:=hin i hi'
    rw[hz i hi'] at h3
    exact⟨QJ r1 (by omega) 0,l2,inS_zero h3⟩
   simp only[KC] at hQ
   rcases(by omega:t.op=24∨t.op=25∨t.op=26∨t.op=27) with e|e|e|e
   ·rw[if_pos e] at hev⊢
    exact hQ k _ (Nat.le_refl _) (hasL_cons.2 ⟨has_one hk1,fun x hx=>by cases hx⟩) (by rw[List.map_singleton,h.one,hev];rfl)
   ·rw[if_neg (by omega),if_pos e] at hev⊢
    have h1:t.ks.length=1:=by rw[e] at har;simp[arity] at har;omega
    obtain⟨b1,b2,b3⟩:=hb 0 (by omega)
    rw[hy 0 (by omega)] at hev
    refine hQ k _ (Nat.le_refl _) (hasL_cons.2 ⟨has_neg b1,fun x hx=>by cases hx⟩) ?_
    rw[List.map_singleton,h.neg _ b1.1,b2,hev]
    rcases b3 with b3|b3<;>simp only[b3]<;>rfl
   ·rw[if_neg (by omega),if_neg (by omega),if_pos e] at hev⊢
    have h1:t.ks.length=2:=by rw[e] at har;simp[arity] at har;omega
    obtain⟨b1,b2,b3⟩:=hb 0 (by omega)
    obtain⟨c1,c2,c3⟩:=hb 1 (by omega)
    rw[hy 0 (by omega),hy 1 (by omega)] at hev
    refine⟨b1,c1,fun k' v hk' hv hvr=>hQ k' _ hk' (hasL_cons.2 ⟨hv,fun x hx=>by cases hx⟩) ?_⟩
    rw[List.map_singleton,hvr,b2,c2,hev]
    rcases b3 with b3|b3<;>rcases c3 with c3|c3<;>simp only[b3,c3]<;>rfl
   ·rw[if_neg (by omega),if_neg (by omega),if_neg (by omega),if_pos e] at hev⊢
    have h1:t.ks.length=2:=by rw[e] at har;simp[arity] at har;omega
    obtain⟨b1,b2,b3⟩:=hb 0 (by omega)
    obtain⟨c1,c2,c3⟩:=hb 1 (by omega)
    rw[hy 0 (by omega),hy 1 (by omega)] at hev
    refine Says.bind (qU0 h b1 c1 fun k' v hk' hv hvr=>hQ k' _ hk' (hasL_cons.2 ⟨hv,fun x hx=>by cases hx⟩) ?_)
    rw[List.map_singleton,hvr,b2,c2,hev]
    rcases b3 with b3|b3<;>rcases c3 with c3|c3<;>simp only[b3,c3]<;>rfl
 simp only[if_neg h24,if_neg (show¬t.op=24 by omega),if_neg (show¬t.op=25 by omega),if_neg (show¬t.op=26 by omega),if_neg (show¬t.op=27 by omega)] at hs hQ hev⊢
 by_cases h23:t.op=23
 ·simp only[h23,if_true] at hs hQ hev⊢
  have h3:t.ks.length=3:=by rw[h23] at har;simp[arity] at har;omega
  rw[hx 0 (by omega),hx 1 (by omega),hx 2 (by omega)] at hs hQ
  rw[hy 0 (by omega),hy 1 (by omega),hy 2 (by omega)] at hev
  by_cases hc:sortM ds (kid t 0)=0∧sortM ds (kid t 1)=sortM ds (kid t 2)
  ·rw[if_pos hc] at hs hQ
   obtain⟨r1,r2⟩:=hr 0 (by omega)
   obtain⟨p1,p2⟩:=hr 1 (by omega)
   obtain⟨q1,q2⟩:=hr 2 (by omega)
   rw[hc.1,KC] at r2
   obtain⟨l1,l2⟩:=head_rho r2
   have hcd:has k ((rs.getD 0 []).getD 0 0):=QJ r1 (by omega) 0
   refine each_sat (C:=fun k=>has k ((rs.getD 0 []).getD 0 0)) (g:=fun a b=>if ρ ((rs.getD 0 []).getD 0 0) then a else b) (fun _ _ h hl=>has_mono h hl) (fun hc hx hy hq=>mux_sat h hc hx hy hq) hcd p1 q1 fun k' r hk' hr' rr=>hQ k' r hk' hr' ?_
   have hlen:∀{a b:List Bool},a.length=b.length→∀c:Bool,eachV (fun x y=>if c then x else y) a b=if c then a else b:=fun{a b}=>by
    induction a generalizing b with
    |nil=>
     intro hl c;cases b with
     |nil=>cases c<;>rfl
     |cons y b=>simp at hl
    |cons x a ih=>
     intro hl c;cases b with
     |nil=>simp at hl
     |cons y b=>simp only[eachV];rw[ih (by simpa using hl) c];cases c<;>rfl
   rw[rr,p2,q2,hlen (by rw[←hc.2];unfold QB;split<;>simp[bitsN_len]),l2,hev]
   simp only
   by_cases hone:evalM ds env (kid t 0)=1
   ·rw[if_pos hone,decide_eq_true hone,if_pos rfl]
   ·rw[if_neg hone,decide_eq_false hone,if_neg (by decide),hc.2]
  ·rw[if_neg hc] at hs;exact absurd rfl hs
 simp only[if_neg h23] at hs hQ hev⊢
 by_cases h22:t.op=22
 ·simp only[h22,if_true] at hs hQ hev⊢
  have h3:t.ks.length=1:=by rw[h22] at har;simp[arity] at har;omega
  rw[hx 0 (by omega)] at hs hQ
  rw[hy 0 (by omega)] at hev
  by_cases hc:0≤t.b∧t.b≤t.a∧t.a<sortM ds (kid t 0)
  ·rw[if_pos hc] at hs hQ
   obtain⟨r1,r2⟩:=hr 0 (by omega)
   have hvk:=inS_pos (hin 0 (by omega)) (by omega)
   refine hQ k _ (Nat.le_refl _) (KK fun x hx=>r1 x (List.mem_of_mem_drop hx)) ?_
   rw[List.map_take,List.map_drop,r2,cut_bits hvk hc.1 hc.2.1 hc.2.2,hev]
  ·rw[if_neg hc] at hs;exact absurd rfl hs
 simp only[if_neg h22] at hs hQ hev⊢
 by_cases h2:t.op≤2
 ·simp only[if_pos h2] at hs hQ hev⊢
  have ho:t.op=1∨t.op=2:=by omega
  have h3:t.ks.length=1:=by rcases ho with e|e<;>rw[e] at har<;>simp[arity] at har<;>omega
  rw[hx 0 (by omega)] at hs hQ
  rw[hy 0 (by omega)] at hev
  by_cases hc:0<sortM ds (kid t 0)
  ·rw[if_pos hc] at hs hQ
   obtain⟨r1,r2⟩:=hr 0 (by omega)
   have hvk:=inS_pos (hin 0 (by omega)) hc
   refine X70 h hk1 r1 fun k' r hk' hr' rr=>hQ k' r hk' hr' ?_
   rw[rr,r2,un_bits ho hvk,hev]
  ·rw[if_neg hc] at hs;exact absurd rfl hs
 simp only[if_neg h2] at hs hQ hev⊢
 have h3:t.ks.length=2:=by
  unfold arity at har
  rw[if_neg (by omega),if_neg (by omega),if_neg (by omega),if_neg (by omega),if_pos (by omega)] at har
  omega
 rw[hx 0 (by omega),hx 1 (by omega)] at hs hQ
 rw[hy 0 (by omega),hy 1 (by omega)] at hev
 obtain⟨r1,r2⟩:=hr 0 (by omega)
 obtain⟨p1,p2⟩:=hr 1 (by omega)
 have i0:=hin 0 (by omega)
 have i1:=hin 1 (by omega)
 have hlen0:=congrArg List.length r2
 have hlen1:=congrArg List.length p2
 rw[List.length_map] at hlen0 hlen1
 by_cases h14:t.op=14
 ·simp only[h14,if_true] at hs hQ hev
  by_cases hc:0<sortM ds (kid t 0)∧0<sortM ds (kid t 1)∧sortM ds (kid t 0)+sortM ds (kid t 1)≤4
  ·rw[if_pos hc] at hs hQ
   have v0:=inS_pos i0 hc.1
   have v1:=inS_pos i1 hc.2.1
   rw[valB_len (by omega)] at hlen0
   rw[if_neg (by omega)]
   refine bin_sat h hk1 r1 p1 (fun e=>by rw[e] at hlen0;simp at hlen0;omega) fun k' r hk' hr' rr=>hQ k' r hk' hr' ?_
   rw[rr,r2,p2,h14]
   unfold Xt0
   rw[if_pos rfl,cat_bits v0 v1 hc.2.2,hev]
  ·rw[if_neg hc] at hs;exact absurd rfl hs
 simp only[if_neg h14] at hs hQ hev
 by_cases h15:15≤t.op
 ·simp only[if_pos h15] at hs hQ hev
  by_cases hc:0<sortM ds (kid t 0)∧sortM ds (kid t 0)=sortM ds (kid t 1)
  ·rw[if_pos hc] at hs hQ
   have v0:=inS_pos i0 hc.1
   have v1:vok (sortM ds (kid t 0)) (evalM ds env (kid t 1))=true:=by rw[hc.2];exact inS_pos i1 (by omega)
   rw[valB_len (by omega)] at hlen0 hlen1
   rw[if_pos (by omega)]
   refine Says.bind (YL0 h hk1 r1 p1 (by rw[hlen0,hlen1,hc.2]) (fun e=>by rw[e] at hlen0;simp at hlen0;omega) fun k' v hk' hv' rv=>hQ k' _ hk' (hasL_cons.2 ⟨hv',fun x hx=>by cases hx⟩) ?_)
   rw[List.map_singleton,rv,r2,p2,←hc.2,cmp_bits h15 (by omega) v0 v1,hev,KC]
   cases cmpM t.op (sortM ds (kid t 0)) (evalM ds env (kid t 0)) (evalM ds env (kid t 1))<;>rfl
  ·rw[if_neg hc] at hs;exact absurd rfl hs
 simp only[if_neg h15] at hs hQ hev
 by_cases hc:0<sortM ds (kid t 0)∧sortM ds (kid t 0)=sortM ds (kid t 1)
 ·rw[if_pos hc] at hs hQ
  have v0:=inS_pos i0 hc.1
  have v1:vok (sortM ds (kid t 0)) (evalM ds env (kid t 1))=true:=by rw[hc.2];exact inS_pos i1 (by omega)
  rw[valB_len (by omega)] at hlen0
  rw[if_neg (by omega)]
  refine bin_sat h hk1 r1 p1 (fun e=>by rw[e] at hlen0;simp at hlen0;omega) fun k' r hk' hr' rr=>hQ k' r hk' hr' ?_
  rw[rr,r2,p2,←hc.2,bin_bits (by omega) (by omega) v0 v1,hev]
 ·rw[if_neg hc] at hs;exact absurd rfl hs
theorem term_sat (h:Rho ρ) (he:envOk ds env=true) (hi:Ins ρ ds env):∀t:Tm,sortM ds t≠ -1→∀{k:Nat} {Q:Nat→List Int→Prop},1+bits ds≤k→
  (∀k' r,k≤k'→hasL k' r→r.map ρ=QB (sortM ds t) (evalM ds env t)→Q k' r)→Says ρ k (termB ds t) Q:=by
 refine Tm.ind fun t ih hs k Q hk hQ=>?_
 rw[termB_eq]
 refine Says.bind (seq_sat (k0:=k) (g:=fun u=>QB (sortM ds u) (evalM ds env u)) (Nat.le_refl _) (fun u hu=>fun{k1 Q1} hk1 hq=>ih u hu ((sort_parts hs).2.1 u hu) (by omega) hq) fun k' rs hk' hrs hm=>?_)
 exact node_sat h he hi hs (by omega) hrs hm fun k2 r h2 hr rr=>hQ k2 r (by omega) hr rr
end
end Go.M
end
section
namespace Go.M
namespace Bd
theorem reach_inv {α β:Type} {p:Bd α} {f:α→Bd β} {b:β} (h:(p.bind f).Reach b):∃a,p.Reach a∧(f a).Reach b:=by
 induction p with
 |ret a=>exact⟨a,rfl,h⟩
 |and x y k ih=>obtain⟨v,hv⟩:=h;obtain⟨a,h1,h2⟩:=ih v hv;exact⟨a,⟨v,h1⟩,h2⟩
 |xor x y k ih=>obtain⟨v,hv⟩:=h;obtain⟨a,h1,h2⟩:=ih v hv;exact⟨a,⟨v,h1⟩,h2⟩
theorem reach_map {α β:Type} {p:Bd α} {f:α→β} {b:β} (h:(p.map f).Reach b):∃a,p.Reach a∧b=f a:=by
 obtain⟨a,h1,h2⟩:=reach_inv h
 exact⟨a,h1,h2⟩
end Bd
theorem sum_len:∀{xs ys:List Int} {c:Int} {r:List Int},(sumB xs ys c).Reach r→r.length=min xs.length ys.length
 |[],_,c,r,h=>by cases h;simp
 |_::_,[],c,r,h=>by cases h;simp
 |x::xs,y::ys,c,r,h=>by
  obtain⟨v1,v2,v3,v4,h⟩:=h
  obtain⟨c',_,h⟩:=Bd.reach_inv h
  obtain⟨r',hh,rfl⟩:=Bd.reach_map h
  rw[List.length_cons,sum_len hh,List.length_cons,List.length_cons];omega
theorem each_len {f:Int→Int→Bd Int}:∀{xs ys:List Int} {r:List Int},(eachB f xs ys).Reach r→r.length=min xs.length ys.length
 |[],_,r,h=>by cases h;simp
 |_::_,[],r,h=>by cases h;simp
 |x::xs,y::ys,r,h=>by
  obtain⟨s,_,h⟩:=Bd.reach_inv h
  obtain⟨r',hh,rfl⟩:=Bd.reach_map h
  rw[List.length_cons,each_len hh,List.length_cons,List.length_cons];omega
theorem row_len {s:Int}:∀{xs:List Int} {r:List Int},(rowB s xs).Reach r→r.length=xs.length
 |[],r,h=>by cases h;rfl
 |x::xs,r,h=>by
  obtain⟨v,h⟩:=h
  obtain⟨r',hh,rfl⟩:=Bd.reach_map h
  rw[List.length_cons,row_len hh,List.length_cons]
theorem mul_len {xs:List Int}:∀{ys:List Int} {i:Nat} {s r:List Int},i+ys.length≤xs.length→s.length=xs.length→(mulB xs ys i s).Reach r→r.length=xs.length
 |[],i,s,r,_,hs,h=>by cases h;exact hs
 |y::ys,i,s,r,hi,hs,h=>by
  rw[List.length_cons] at hi
  obtain⟨w,hw,h⟩:=Bd.reach_inv h
  obtain⟨s',hs',h⟩:=Bd.reach_inv h
  have h1:=row_len hw
  have h2:=sum_len hs'
  rw[List.length_append,h1,List.length_take] at h2
  unfold offsL at h2
  rw[List.length_replicate] at h2
  exact mul_len (by omega) (by omega) h
theorem negL_len (xs:List Int):(negL xs).length=xs.length:=List.length_map _
theorem div_len {xs wide:List Int} (hw:wide.length=xs.length+1):∀{n:Nat} {r q:List Int} {p:List Int×List Int},r.length=xs.length→q.length=xs.length→(divB xs wide n r q).Reach p→p.1.length=xs.length∧p.2.length=xs.length
 |0,r,q,p,hr,hq,h=>by cases h;exact⟨hq,hr⟩
 |n+1,r,q,p,hr,hq,h=>by
  obtain⟨l,_,h⟩:=Bd.reach_inv h
  obtain⟨u,hu,h⟩:=Bd.reach_inv h
  obtain⟨r',hr',h⟩:=Bd.reach_inv h
  have h1:=sum_len hu
  have h2:=each_len hr'
  rw[List.length_cons,negL_len] at h1
  rw[List.length_take,List.length_take,List.length_cons] at h2
  exact div_len hw (by omega) (by rw[List.length_set];exact hq) h
theorem shift_len {up:Bool} {fill:Int}:∀{ys:List Int} {i:Nat} {s r:List Int},(shiftB up fill ys i s).Reach r→r.length=s.length
 |[],i,s,r,h=>by cases h;rfl
 |c::ys,i,s,r,h=>by
  obtain⟨s',hs',h⟩:=Bd.reach_inv h
  have h1:=each_len hs'
  rw[List.length_map,List.length_range] at h1
  rw[shift_len h];omega
theorem offsL_len (n:Nat):(offsL n).length=n:=List.length_replicate ..
theorem un_len {op:Int} {x r:List Int} (h:(unB op x).Reach r):r.length=x.length:=by
 unfold unB at h
 split at h
 ·cases h;exact negL_len x
 ·have:=sum_len h;rw[offsL_len,negL_len] at this;omega
theorem bin_len {op:Int} {x y r:List Int} (h:(binB op x y).Reach r) (hne:op≠14→x.length=y.length):r.length=if op=14 then x.length+y.length else x.length:=by
 unfold binB at h
 by_cases c:op=14
 ·rw[if_pos c] at h⊢;cases h;rw[List.length_append];omega
 rw[if_neg c] at h⊢
 have hl:=hne c
 repeat' split at h
 ·have:=each_len h;omega
 ·have:=each_len h;omega
 ·have:=each_len h;omega
 ·have:=sum_len h;omega
 ·have:=sum_len h;rw[negL_len] at this;omega
 ·exact mul_len (by omega) (offsL_len _) h
 ·obtain⟨p,hh,rfl⟩:=Bd.reach_map h
  exact(div_len (by rw[List.length_append,List.length_singleton];omega) (offsL_len _) (offsL_len _) hh).1
 ·obtain⟨p,hh,rfl⟩:=Bd.reach_map h
  exact(div_len (by rw[List.length_append,List.length_singleton];omega) (offsL_len _) (offsL_len _) hh).2
 ·exact shift_len h
 ·exact shift_len h
 ·exact shift_len h
theorem nameB_len {ds:List Dcl} {k:Nat}:(nameB ds k).length=((ds.getD k (nada,0)).2).toNat:=by unfold nameB;rw[List.length_map,List.length_range]
theorem fixB_len {w n:Int}:(fixB w n).length=w.toNat:=by unfold fixB;rw[List.length_map,List.length_range]
def lenS (w:Int):Nat:=(max 1 w).toNat
theorem node_len {ds:List Dcl} {t:Tm} (hd:declOk ds=true) (hs:sortM ds t≠ -1) {rs:List (List Int)} (hl:∀i,i<t.ks.length→(rs.getD i []).length=lenS (sortM ds (kid t i))) {r:List Int} (h:(nodeB ds t rs).Reach r):r.length=lenS (sortM ds t):=by
 obtain⟨hf,hkd,hsk⟩:=sort_parts hs
 simp only[formed,Bool.and_eq_true,decide_eq_true_eq] at hf
 obtain⟨har,hpl⟩:=hf
 have hops:=arity_ops (o:=t.op) (by omega)
 have hx:∀i,i<t.ks.length→(t.ks.map (sortM ds)).getD i 0=sortM ds (kid t i):=fun i hi=>getD_map _ hi _ _
 have hrg:∀i,-1≤sortM ds (kid t i)∧sortM ds (kid t i)≤4:=fun i=>sort_range hd _
 rw[hsk] at hs⊢
 unfold sortK at hs⊢
 unfold nodeB at h
 by_cases h20:t.op=20
 ·simp only[h20,if_true] at hs h⊢
  by_cases hv':vok t.a t.b=true
  ·rw[if_pos hv']
   have:=vok_lt hv'
   cases h
   rw[fixB_len];unfold lenS;omega
  ·rw[if_neg hv'] at hs;exact absurd rfl hs
 simp only[if_neg h20] at hs h⊢
 by_cases h21:t.op=21
 ·simp only[h21,if_true] at hs h⊢
  have hfd:=findD_lt ds t.s
  by_cases hn:findD ds t.s<0
  ·rw[if_pos hn] at hs;exact absurd rfl hs
  ·rw[if_neg hn]
   have hw:=dcl_wide hd (i:=(findD ds t.s).toNat) (by omega)
   cases h
   rw[nameB_len];unfold lenS;omega
 simp only[if_neg h21] at hs h⊢
 by_cases h24:24≤t.op
 ·simp only[if_pos h24] at hs⊢
  by_cases hn:(t.ks.map (sortM ds)).any (fun x=>decide (x≠0))=true
  ·rw[if_pos hn] at hs;exact absurd rfl hs
  ·rw[if_neg hn]
   show r.length=1
   rcases(by omega:t.op=24∨t.op=25∨t.op=26∨t.op=27) with e|e|e|e
   ·rw[if_pos e] at h;cases h;rfl
   ·rw[if_neg (by omega),if_pos e] at h;cases h;rfl
   ·rw[if_neg (by omega),if_neg (by omega),if_pos e] at h;obtain⟨v,h⟩:=h;cases h;rfl
   ·rw[if_neg (by omega),if_neg (by omega),if_neg (by omega),if_pos e] at h;obtain⟨v,_,rfl⟩:=Bd.reach_map h;rfl
 simp only[if_neg h24,if_neg (show¬t.op=24 by omega),if_neg (show¬t.op=25 by omega),if_neg (show¬t.op=26 by omega),if_neg (show¬t.op=27 by omega)] at hs h⊢
 by_cases h23:t.op=23
 ·simp only[h23,if_true] at hs h⊢
  have h3:t.ks.length=3:=by rw[h23] at har;simp[arity] at har;omega
  rw[hx 0 (by omega),hx 1 (by omega),hx 2 (by omega)] at hs⊢
  by_cases hc:sortM ds (kid t 0)=0∧sortM ds (kid t 1)=sortM ds (kid t 2)
  ·rw[if_pos hc]
   have:=each_len h
   rw[hl 1 (by omega),hl 2 (by omega),←hc.2] at this
   omega
  ·rw[if_neg hc] at hs;exact absurd rfl hs
 simp only[if_neg h23] at hs h⊢
 by_cases h22:t.op=22
 ·simp only[h22,if_true] at hs h⊢
  have h3:t.ks.length=1:=by rw[h22] at har;simp[arity] at har;omega
  rw[hx 0 (by omega)] at hs⊢
  by_cases hc:0≤t.b∧t.b≤t.a∧t.a<sortM ds (kid t 0)
  ·rw[if_pos hc]
   cases h
   rw[List.length_take,List.length_drop,hl 0 (by omega)]
   unfold lenS;omega
  ·rw[if_neg hc] at hs;exact absurd rfl hs
 simp only[if_neg h22] at hs h⊢
 by_cases h2:t.op≤2
 ·simp only[if_pos h2] at hs h⊢
  have h3:t.ks.length=1:=by
   have ho:t.op=1∨t.op=2:=by omega
   rcases ho with e|e<;>rw[e] at har<;>simp[arity] at har<;>omega
  rw[hx 0 (by omega)] at hs⊢
  by_cases hc:0<sortM ds (kid t 0)
  ·rw[if_pos hc,un_len h,hl 0 (by omega)]
  ·rw[if_neg hc] at hs;exact absurd rfl hs
 simp only[if_neg h2] at hs h⊢
 have h3:t.ks.length=2:=by
  unfold arity at har
  rw[if_neg (by omega),if_neg (by omega),if_neg (by omega),if_neg (by omega),if_pos (by omega)] at har
  omega
 rw[hx 0 (by omega),hx 1 (by omega)] at hs⊢
 have l0:=hl 0 (by omega)
 have l1:=hl 1 (by omega)
 by_cases h14:t.op=14
 ·simp only[h14,if_true] at hs⊢
  by_cases hc:0<sortM ds (kid t 0)∧0<sortM ds (kid t 1)∧sortM ds (kid t 0)+sortM ds (kid t 1)≤4
  ·rw[if_pos hc]
   rw[if_neg (by omega)] at h
   have:=bin_len h fun e=>absurd h14 e
   rw[if_pos h14,l0,l1] at this
   rw[this];unfold lenS;omega
  ·rw[if_neg hc] at hs;exact absurd rfl hs
 simp only[if_neg h14] at hs⊢
 by_cases h15:15≤t.op
 ·simp only[if_pos h15] at hs⊢
  by_cases hc:0<sortM ds (kid t 0)∧sortM ds (kid t 0)=sortM ds (kid t 1)
  ·rw[if_pos hc]
   rw[if_pos (by omega)] at h
   obtain⟨v,_,rfl⟩:=Bd.reach_map h
   rfl
  ·rw[if_neg hc] at hs;exact absurd rfl hs
 simp only[if_neg h15] at hs⊢
 by_cases hc:0<sortM ds (kid t 0)∧sortM ds (kid t 0)=sortM ds (kid t 1)
 ·rw[if_pos hc]
  rw[if_neg (by omega)] at h
  have:=bin_len h fun _=>by rw[l0,l1,hc.2]
  rw[if_neg h14,l0] at this
  exact this
 ·rw[if_neg hc] at hs;exact absurd rfl hs
theorem seq_reach {f:Tm→Bd (List Int)}:∀{ks:List Tm} {rs:List (List Int)},(seqB (ks.map f)).Reach rs→rs.length=ks.length∧∀i,i<ks.length→(f (ks.getD i default)).Reach (rs.getD i [])
 |[],rs,h=>by cases h;exact⟨rfl,fun i hi=>absurd hi (by simp)⟩
 |t::ks,rs,h=>by
  obtain⟨r,h1,h⟩:=Bd.reach_inv h
  obtain⟨rs',hh,rfl⟩:=Bd.reach_map h
  obtain⟨a,b⟩:=seq_reach hh
  refine⟨by rw[List.length_cons,List.length_cons,a],fun i hi=>?_⟩
  cases i with
  |zero=>exact h1
  |succ i=>exact b i (by simpa using hi)
theorem term_len {ds:List Dcl} (hd:declOk ds=true):∀t:Tm,sortM ds t≠ -1→∀{r:List Int},(termB ds t).Reach r→r.length=lenS (sortM ds t):=by
 refine Tm.ind fun t ih hs r h=>?_
 rw[termB_eq] at h
 obtain⟨rs,h1,h2⟩:=Bd.reach_inv h
 obtain⟨_,hr⟩:=seq_reach h1
 exact node_len hd hs (fun i hi=>ih _ (getD_mem hi _) (j00 hs hi) (hr i hi)) h2
end Go.M
end
section
namespace Go.Proofs.YtaekfnbnhjgboaaGreatDoor
open Go Go.Vc Go.Proofs Go.MapKept
variable {w:World} {K:Value→World→Prop} {F F' D G:Nat→Prop}
def gv (g:M.Gt):Value:= .agg ⟨[.bool g.x,.int .i64 g.a,.int .i64 g.b]⟩
theorem Xk0 {g h:M.Gt} (e:gv g=gv h):g=h:=by
 cases g;cases h
 simp only[gv,Value.agg.injEq,Array.mk.injEq,List.cons.injEq,Value.bool.injEq,Value.int.injEq,and_true,true_and] at e
 obtain⟨rfl,rfl,rfl⟩:=e;rfl
theorem eqGate (g h:M.Gt) (w:World):(Op.equalIn 10000 zl (gv g) (gv h)).run PP w= .ok (decide (g=h)) w:=by
 obtain⟨x,a,b⟩:=g
 obtain⟨y,c,d⟩:=h
 have h0:(PP.fieldsOf zl).toList=[(PP.fieldsOf zl).getD 0 default,(PP.fieldsOf zl).getD 1 default,(PP.fieldsOf zl).getD 2 default]:=by kernel_rfl
 have n0:((PP.fieldsOf zl).getD 0 default).name≠ "_" :=by decide+kernel
 have n1:((PP.fieldsOf zl).getD 1 default).name≠ "_" :=by decide+kernel
 have n2:((PP.fieldsOf zl).getD 2 default).name≠ "_" :=by decide+kernel
 have i0:PP.underlying ((PP.fieldsOf zl).getD 0 default).type=some .bool:=by kernel_rfl
 have i1:PP.underlying ((PP.fieldsOf zl).getD 1 default).type=some (.int .i64):=by kernel_rfl
 have i2:PP.underlying ((PP.fieldsOf zl).getD 2 default).type=some (.int .i64):=by kernel_rfl
 have p0:∀x y z:Value,(part ((PP.fieldsOf zl).getD 0 default).type ⟨[x,y,z]⟩ ((PP.fieldsOf zl).getD 0 default).offset).run PP w= .ok x w:=fun x y z=>by kernel_rfl
 have p1:∀x y z:Value,(part ((PP.fieldsOf zl).getD 1 default).type ⟨[x,y,z]⟩ ((PP.fieldsOf zl).getD 1 default).offset).run PP w= .ok y w:=fun x y z=>by kernel_rfl
 have p2:∀x y z:Value,(part ((PP.fieldsOf zl).getD 2 default).type ⟨[x,y,z]⟩ ((PP.fieldsOf zl).getD 2 default).offset).run PP w= .ok z w:=fun x y z=>by kernel_rfl
 have b0:∀d,(Op.equalIn (d+1) ((PP.fieldsOf zl).getD 0 default).type (.bool x) (.bool y)).run PP w= .ok (x==y) w:=fun d=>by
  rw[Op.equalIn,Sem.run_bind,run_underlying i0];rfl
 unfold gv
 rw[run_equalIn_struct w 9999 zl _ _ (by kernel_rfl) (by kernel_rfl),h0]
 generalize (PP.fieldsOf zl).getD 0 default=f0 at n0 i0 p0 b0⊢
 generalize (PP.fieldsOf zl).getD 1 default=f1 at n1 i1 p1⊢
 generalize (PP.fieldsOf zl).getD 2 default=f2 at n2 i2 p2⊢
 simp only[Op.eqFields,if_pos n0,if_pos n1,if_pos n2,Sem.run_bind,p0,p1,p2,Result.andThen_ok,b0 9998,run_equalIn_int w 9998 _ _ _ _ _ i1,run_equalIn_int w 9998 _ _ _ _ _ i2]
 by_cases e0:x=y
 ·by_cases e1:a=c
  ·by_cases e2:b=d
   ·subst e0;subst e1;subst e2;simp[p1,p2,run_equalIn_int w 9998 _ _ _ _ _ i1,run_equalIn_int w 9998 _ _ _ _ _ i2]
   ·subst e0;subst e1;simp[p1,p2,run_equalIn_int w 9998 _ _ _ _ _ i1,run_equalIn_int w 9998 _ _ _ _ _ i2,e2]
  ·subst e0;simp[p1,p2,run_equalIn_int w 9998 _ _ _ _ _ i1,run_equalIn_int w 9998 _ _ _ _ _ i2,e1]
 ·simp[e0]
def GMap (w:World) (b:Nat) (f:List (M.Gt×Int)):Prop:= ∃es cl,w.heap[b]?=some (.map es cl)∧Stamped es cl∧es.toList.map (fun e=>(e.key,e.val))=f.map fun p=>(gv p.1,Value.int .i64 p.2)
theorem GMap.lt {b:Nat} {f:List (M.Gt×Int)} (h:GMap w b f):b<w.heap.size:=by
 obtain⟨es,cl,hb,_⟩:=h;exact(Array.getElem?_eq_some_iff.1 hb).1
theorem GMap.same {b:Nat} {f:List (M.Gt×Int)} {S:Nat→Prop} {w':World} (h:GMap w b f) (hw:Same S w w') (hs: ¬S b):GMap w' b f:=by
 have hlt:=h.lt
 obtain⟨es,cl,hb,r⟩:=h;exact⟨es,cl,(hw.block b hlt hs).trans hb,r⟩
theorem GMap.ext {b:Nat} {f:List (M.Gt×Int)} {w':World} (h:GMap w b f) (hw:Ext w w'):GMap w' b f:=h.same hw id
theorem yF0 (g:M.Gt) (e:Bool) (w:World):(Instr.checkKey e 10000 zl (gv g)).run PP w= .ok () w:=by
 obtain⟨x,a,b⟩:=g
 kernel_rfl
def findP (g:M.Gt):List (M.Gt×Int)→Nat→Option (Nat×Int)
 |[],_=>none
 |p::r,i=>if g=p.1 then some (i,p.2) else findP g r (i+1)
theorem ask_run (g:M.Gt) (w:World):∀(l:List MapEntry) (f:List (M.Gt×Int)) (i:Nat),l.map (fun e=>(e.key,e.val))=f.map (fun p=>(gv p.1,Value.int .i64 p.2))→
  (Instr.findAsking zl (gv g) l i).run PP w= .ok ((findP g f i).map fun q=>(q.1,.int .i64 q.2)) w
 |[],[],i,_=>rfl
 |[],_::_,_,h=>by simp at h
 |_::_,[],_,h=>by simp at h
 |e::l,p::f,i,h=>by
  simp only[List.map_cons,List.cons.injEq,Prod.mk.injEq] at h
  obtain⟨⟨h1,h2⟩,h3⟩:=h
  have hq:(Op.equal zl (gv g) e.key).run PP w= .ok (decide (g=p.1)) w:=by rw[h1];exact eqGate g p.1 w
  simp only[Instr.findAsking,Sem.run_bind,hq,Result.andThen_ok,findP]
  by_cases c:g=p.1
  ·rw[if_pos (by simpa using c),if_pos c];simp[h2]
  ·rw[if_neg (by simpa using c),if_neg c]
   exact ask_run g w l f (i+1) h3
theorem gate_struct:∃fs,PP.underlying zl=some (.struct fs):=by
 have h:(match PP.underlying zl with|some (.struct _)=>true|_=>false)=true:=by kernel_rfl
 split at h
 ·next fs e=>exact⟨fs,e⟩
 ·cases h
theorem yJ0 (g:M.Gt) (w:World) {l:List MapEntry} {f:List (M.Gt×Int)} (h:l.map (fun e=>(e.key,e.val))=f.map (fun p=>(gv p.1,Value.int .i64 p.2))):
  (Instr.findKey zl (gv g) l).run PP w= .ok ((findP g f 0).map fun q=>(q.1,.int .i64 q.2)) w:=by
 obtain⟨fs,hfs⟩:=gate_struct
 unfold Instr.findKey
 rw[Sem.run_bind,run_underlying hfs]
 simp only[Result.andThen_ok]
 cases l with
 |nil=>
  cases f with
  |nil=>rfl
  |cons p f=>simp at h
 |cons e l=>
  have:Instr.findNow (.struct fs) (gv g) (e::l) 0=none:=by simp[Instr.findNow,Instr.sameNow]
  rw[this]
  exact ask_run g w (e::l) f 0 h
theorem findP_none {g:M.Gt}:∀{f:List (M.Gt×Int)} {i:Nat},findP g f i=none↔ ∀p,p∈f→p.1≠g
 |[],i=>by simp[findP]
 |p::f,i=>by
  unfold findP
  split
  ·next e=>exact⟨fun h=>(by cases h),fun h=>absurd e.symm (h p List.mem_cons_self)⟩
  ·next e=>rw[findP_none (f:=f)];simp only[List.mem_cons,forall_eq_or_imp];exact⟨fun h=>⟨fun h2=>e h2.symm,h⟩,fun h=>h.2⟩
def J7 (g:M.Gt) (f:List (M.Gt×Int)):Option Int:=(findP g f 0).map (·.2)
theorem Xl0 {k:Option Value} (hk:k=none) (hK:∀b w',b=w.heap.size→GMap w' b []→Ext w w'→w'.heap.size=w.heap.size+1→K (.map (some b)) w'):Z80 PP zD k w K:=by
 subst hk
 refine⟨.map (some w.heap.size),w.alloc (.map #[] 0),?_,hK _ _ rfl ⟨#[],0,(heap_alloc w _).1,stamped_empty 0,rfl⟩ ⟨rfl,rfl,rfl,by simp,fun k hk _=>(heap_alloc w _).2 k hk⟩ (by simp)⟩
 simp[Instr.makeMap,newObj,Sem.run]
theorem glook {g:M.Gt} {ok:Bool} {b:Nat} {f:List (M.Gt×Int)} (h:GMap w b f):Yt PP zD (.map (some b)) (gv g) ok w K=K (match J7 g f with|some n=>(if ok then .tuple #[.int .i64 n,.bool true] else .int .i64 n)|none=>if ok then .tuple #[.int .i64 0,.bool false] else .int .i64 0) w:=by
 obtain⟨es,cl,hb,hst,he⟩:=h
 have hm:PP.underlying zD=some (.map zl zc)∧yM PP zc (.int .i64 0):=⟨jL,Ze⟩
 refine yw ?_
 unfold J7
 cases hf:findP g f 0 with
 |none=>cases ok<;>simp[Instr.lookup,run_underlying hm.1,MapKept.run_getObj_map hb,yF0,yJ0 g w he,hf,QF hm.2,Result.andThen]
 |some p=>cases ok<;>simp[Instr.lookup,run_underlying hm.1,MapKept.run_getObj_map hb,yF0,yJ0 g w he,hf,Result.andThen]
theorem Yb0 {g:M.Gt} {b:Nat} {f:List (M.Gt×Int)} (h:GMap w b f):Yt PP zD (.map (some b)) (gv g) true w K=K (match J7 g f with|some n=> .tuple #[.int .i64 n,.bool true]|none=> .tuple #[.int .i64 0,.bool false]) w:=by
 rw[glook h];cases J7 g f<;>rfl
theorem Xm0 {g:M.Gt} {b:Nat} {f:List (M.Gt×Int)} (h:GMap w b f):Yt PP zD (.map (some b)) (gv g) false w K=K (match J7 g f with|some n=> .int .i64 n|none=> .int .i64 0) w:=by
 rw[glook h];cases J7 g f<;>rfl
theorem look_app {g h:M.Gt} {n:Int}:∀{f:List (M.Gt×Int)} {i:Nat},(findP g (f++[(h,n)]) i).map (·.2)=match(findP g f i).map (·.2) with|some m=>some m|none=>if g=h then some n else none
 |[],i=>by simp only[List.nil_append,findP,Option.map_none];split<;>rfl
 |p::f,i=>by
  rw[List.cons_append]
  unfold findP
  split
  ·rfl
  ·exact look_app (f:=f)
theorem gset {g:M.Gt} {n:Int} {b:Nat} {f:List (M.Gt×Int)} (h:GMap w b f) (hn:J7 g f=none)
  (hK:∀w',GMap w' b (f++[(g,n)])→Same (· =b) w w'→w'.heap.size=w.heap.size→K undef w'):ku PP zD (.map (some b)) (gv g) (.int .i64 n) w K:=by
 obtain⟨es,cl,hb,hst,he⟩:=h
 have hm:PP.underlying zD=some (.map zl zc):=jL
 have hf:findP g f 0=none:=by
  unfold J7 at hn
  cases hf:findP g f 0 with
  |none=>rfl
  |some p=>rw[hf] at hn;cases hn
 have h2:∀x,x∈es.toList→x.key≠gv g:=fun x hx e=>by
  have hmem:(x.key,x.val)∈f.map fun p=>(gv p.1,Value.int .i64 p.2):=by rw[←he];exact List.mem_map.2 ⟨x,hx,rfl⟩
  obtain⟨p,hp,e2⟩:=List.mem_map.1 hmem
  have:gv p.1=gv g:=by rw[←e];exact congrArg Prod.fst e2
  exact findP_none.1 hf p hp (Xk0 this)
 refine⟨(),{w with heap:=w.heap.setIfInBounds b (.map (es.push {key:=gv g,val:= .int .i64 n,born:=cl}) (cl+1))},?_,hK _ ⟨_,_,(heap_set hb).1,stamped_push hst h2,by simp[he]⟩ (U7 hb) (by simp)⟩
 simp[Instr.mapUpdate,run_underlying hm,MapKept.run_getObj_map hb,yF0,yJ0 g w he,hf,run_setObj_map _ hb,Result.andThen]
end Go.Proofs.YtaekfnbnhjgboaaGreatDoor
end
section
namespace Go.Proofs.YtaekfnbnhjgboaaGreatDoor
open Go Go.Vc Go.Proofs
variable {w:World} {K:Value→World→Prop} {F F' Fx Fy X:Nat→Prop}
section
variable {w' w'':World} {F'' S:Nat→Prop}
theorem Same.thn {S T:Nat→Prop} {a b c:World} (h:Same S a b) (k:Same T b c) (hs:∀x,T x→S x∨a.heap.size≤x):Same S a c:=
 ⟨k.os.trans h.os,k.tape.trans h.tape,k.output.trans h.output,Nat.le_trans h.size k.size,fun i hi hn=>
  (k.block i (Nat.lt_of_lt_of_le hi h.size) (fun hx=>(hs i hx).elim hn fun h=>by omega)).trans (h.block i hi hn)⟩
structure Mv (F:Nat→Prop) (w:World) (F':Nat→Prop) (w':World):Prop where
 same:Same F w w'
 new:∀b,F' b→F b∨w.heap.size≤b
theorem Mv.refl:Mv F w F w:=⟨Same.refl _ _,fun _ h=> .inl h⟩
theorem Mv.trans (h:Mv F w F' w') (k:Mv F' w' F'' w''):Mv F w F'' w'':=by
 have hs:=h.same.size
 exact⟨Same.thn h.same k.same h.new,fun b hb=>(k.new b hb).elim (h.new b) fun h=> .inr (by omega)⟩
theorem Mv.to (h:Mv F w F' w') (k:Same S w' w'') (hS:∀b,S b→F' b∨w.heap.size≤b):Mv F w F' w'':=
 ⟨Same.thn h.same k fun b hb=>(hS b hb).elim (h.new b) .inr,h.new⟩
theorem Mv.ext (h:Mv F w F' w') (k:Ext w' w''):Mv F w F' w'':=h.to k fun _ h=>h.elim
theorem Mv.off (h:Mv F w F' w') {b:Nat} (hb: ¬F b) (hl:b<w.heap.size): ¬F' b:=fun h2=>(h.new b h2).elim hb fun h3=>by omega
abbrev Off (X F:Nat→Prop):Nat→Prop:=fun b=> ¬F b∧¬X b
theorem Ints.mv {v:Value} {xs:List Int} (h:Ints (Off X F) w v xs) (hm:Mv F w F' w'):Ints (Off X F') w' v xs:=by
 have h1:Ints (fun b=>(¬F b∧¬X b)∧b<w.heap.size) w v xs:=Ints.weaken h fun b hb hl=>⟨hb,hl⟩
 have h2:=Ints.same h1 hm.same fun b hb _=>hb.1.1
 exact Ints.weaken h2 fun b hb _=>⟨hm.off hb.1.1 hb.2,hb.1.2⟩
structure NewI (X:Nat→Prop) (w:World) (F':Nat→Prop) (w':World) (v:Value) (xs:List Int):Prop where
 own:OwnI PP za w' v xs
 off:∀b,v.ownBlock=some b→w.heap.size≤b∧¬F' b
 out:∀b,v.ownBlock=some b→¬X b
theorem NewI.mv {v:Value} {xs:List Int} (h:NewI X w F' w' v xs) (hm:Mv F' w' F'' w''):NewI X w F'' w'' v xs:=
 ⟨h.own.same hm.same fun b hb=>(h.off b hb).2,fun b hb=>⟨(h.off b hb).1,hm.off (h.off b hb).2 (h.own.lt hb)⟩,h.out⟩
theorem NewI.ints {v:Value} {xs:List Int} (h:NewI X w F' w' v xs):Ints (Off X F') w' v xs:=Ints.weaken h.own.ints fun b hb _=>⟨(h.off b hb).2,h.out b hb⟩
theorem NewI.nil:NewI X w F' w' (.slice none 0 0) []:=⟨OwnI.nil,fun b hb=>(by cases hb),fun b hb=>by cases hb⟩
theorem NewI.app1 {ty b:Nat} {v:Value} {xs:List Int} {x:Int} {e:TypeId} (h:NewI X w F' w' v xs) (hb:Blk w' b [.int .i64 x] e) (h0:w.heap.size≤w'.heap.size) (hF:∀b,F' b∨X b→b<w'.heap.size) (hl:xs.length≤1000000)
  (hK:∀v' w'',NewI X w F' w'' v' (xs++[x])→Same (fun b=>v.ownBlock=some b) w' w''→K v' w''):vbi PP .append [za,za] ty [v,.slice (some ⟨b,0,none⟩) 1 1] w' K:=by
 refine h.own.app1 yO hb (by omega) (by omega) fun v' w'' ho hs hn=>hK v' w'' ⟨ho,fun b hb=>?_,fun b hb=>?_⟩ hs
 ·rcases hn b hb with h1|h1
  ·exact h.off b h1
  ·exact⟨by omega,fun hf=>by have:=hF b (.inl hf);omega⟩
 ·rcases hn b hb with h1|h1
  ·exact h.out b h1
  ·exact fun hf=>by have:=hF b (.inr hf);omega
def Sent (w:World) (g:Nat) (a:Addr):Prop:=w.cell? ⟨g,0,none⟩=some (.iface xl (.pointer (some a)))
theorem Sent.lt {g:Nat} {a:Addr} (h:Sent w g a):g<w.heap.size:=World.block_lt_of_cell? w _ h
theorem Sent.same {g:Nat} {a:Addr} (h:Sent w g a) (hw:Same S w w') (hg: ¬S g):Sent w' g a:=hw.cell hg h
theorem Sent.cell {g:Nat} {a:Addr} (h:Sent w g a):w.cell? ⟨g,0,none⟩=some (.iface xl (.pointer (some a))):=h
def erv (a:Addr):Value:= .iface xl (.pointer (some a))
structure Errs (F:Nat→Prop) (w:World) (ar ab:Addr):Prop where
 room:Sent w qs ar
 bits:Sent w yP ab
 off: ¬F qs∧¬F yP
theorem Errs.mv {ar ab:Addr} (h:Errs F w ar ab) (hm:Mv F w F' w'):Errs F' w' ar ab:=by
 have l1:=h.room.lt;have l2:=h.bits.lt
 obtain⟨o1,o3⟩:=h.off
 exact⟨h.room.same hm.same o1,h.bits.same hm.same o3,hm.off o1 l1,hm.off o3 l2⟩
theorem Errs.to {ar ab:Addr} {w0:World} (h:Errs F w ar ab) (h0:Errs Fx w0 ar ab) (hs:Same S w w') (hS:∀b,S b→w0.heap.size≤b):Errs F w' ar ab:=by
 have l1:=h0.room.lt;have l2:=h0.bits.lt
 have key:∀b,b<w0.heap.size→¬S b:=fun b hb hs=>by have:=hS b hs;omega
 exact⟨h.room.same hs (key _ l1),h.bits.same hs (key _ l2),h.off⟩
def yu (g:M.Gt):List Value:=[.bool g.x,.int .i64 g.a,.int .i64 g.b]
def GatesR (F:Nat→Prop) (w:World) (v:Value) (gs:M.Gs):Prop:=Sl F w 3 v (gs.map yu)
def OwnG (w:World) (v:Value) (gs:M.Gs):Prop:=Own PP 0 3 zk w v (gs.map yu)
structure CktR (n:Nat) (bc:Nat) (w:World) (gs:M.Gs) (v:Value) (mb:Nat):Prop where
 blk:Blk w bc [.int .i64 n,v,.map (some mb)] zQ
 own:OwnG w v gs
 map:∃f,GMap w mb f∧∀g,J7 g f=if g∈gs then some (2+n+gs.idxOf g:Int) else none
 sep:bc≠mb∧v.ownBlock≠some bc∧v.ownBlock≠some mb
 few:gs.length≤600∧n≤8
def J8 (bc mb:Nat) (v:Value) (b:Nat):Prop:=b=bc∨b=mb∨v.ownBlock=some b
section
variable {n bc mb:Nat} {gs:M.Gs} {v:Value}
theorem CktR.same (h:CktR n bc w gs v mb) (hw:Same S w w') (hs:∀b,J8 bc mb v b→¬S b):CktR n bc w' gs v mb:=by
 obtain⟨f,hf,hl⟩:=h.map
 exact⟨h.blk.same hw (hs _ (.inl rfl)),Own.same h.own hw fun b hb=>hs b (.inr (.inr hb)),⟨f,hf.same hw (hs _ (.inr (.inl rfl))),hl⟩,h.sep,h.few⟩
theorem CktR.ext (h:CktR n bc w gs v mb) (hw:Ext w w'):CktR n bc w' gs v mb:=h.same hw fun _ _ h=>h
theorem CktR.lt (h:CktR n bc w gs v mb) {b:Nat} (hb:J8 bc mb v b):b<w.heap.size:=by
 obtain⟨f,hf,_⟩:=h.map
 rcases hb with rfl|rfl|hb
 ·exact h.blk.lt
 ·exact hf.lt
 ·exact(Own.lt h.own hb).2
end
structure BdR (n bb:Nat) (ar ab:Addr) (X F:Nat→Prop) (w:World) (st:Option M.Gs):Prop where
 err:Errs F w ar ab
 blk:∃bc,Blk w bb [.pointer (some ⟨bc,0,none⟩),match st with|some _=> .nilIface |none=>erv ar] zW∧∀gs,st=some gs→∃v mb,CktR n bc w gs v mb∧¬J8 bc mb v bb∧∀b,J8 bc mb v b→F b
 foot:F bb
 lt:∀b,F b∨X b→b<w.heap.size
section
variable {n bb:Nat} {ar ab:Addr} {st:Option M.Gs}
theorem BdR.upd {w0:World} {F0:Nat→Prop} (h:BdR n bb ar ab X F w st) (h0:Errs F0 w0 ar ab) (hS:Same S w w') (hs:∀b,S b→w0.heap.size≤b∧¬F b):BdR n bb ar ab X F w' st:=by
 obtain⟨bc,hB,hC⟩:=h.blk
 refine⟨h.err.to h0 hS fun b hb=>(hs b hb).1,⟨bc,hB.same hS fun hb=>(hs _ hb).2 h.foot,fun gs e=>?_⟩,h.foot,fun b hb=>by have:=h.lt b hb;have:=hS.size;omega⟩
 obtain⟨v,mb,hc,h1,h2⟩:=hC gs e
 exact⟨v,mb,hc.same hS fun b hb hx=>(hs b hx).2 (h2 b hb),h1,h2⟩
theorem BdR.ext (h:BdR n bb ar ab X F w st) (hw:Ext w w'):BdR n bb ar ab X F w' st:=h.upd h.err hw fun _ h=>h.elim
end
end
end Go.Proofs.YtaekfnbnhjgboaaGreatDoor
end
section
namespace Go.Proofs.YtaekfnbnhjgboaaGreatDoor
open Go Go.Vc Go.Proofs
variable {w:World} {K:Value→World→Prop} {F F' Fx Fy X:Nat→Prop} {n bc mb:Nat} {gs:M.Gs} {v:Value}
theorem Blk.ldTake {b:Nat} {us r:List Value} {t0 t:TypeId} (h:Blk w b (us++r) t0) (ht:aggB PP t us.length=true):ze PP t (.pointer (some ⟨b,0,none⟩)) w K=K (.agg ⟨us⟩) w:=by
 refine Ui ht fun i x hi=>?_
 rw[x8,Nat.zero_add]
 refine h.cell ?_
 rw[List.getElem?_append_left (by have:=(List.getElem?_eq_some_iff.1 hi).1;exact this)]
 exact hi
theorem node_spec {l:Int} (hl:l.natAbs≤1000000) (hK:K (.int .i64 (M.absI l)) w):vcall PP ya #[.int .i64 l] w K:=by
 apply KT;unfold ZZ
 unfold M.absI at hK
 simp only[push_cast]
 refine zh (fun h=>?_) (fun h=>?_)
 ·rw[if_pos h] at hK
  simp(disch:=omega) only[push_cast,zA,Int.zero_sub]
  exact hK
 ·rw[if_neg h] at hK
  exact hK
theorem turned_spec {l:Int} {c:Bool} (hl:l.natAbs≤1000000) (hK:K (.int .i64 (M.turnI c l)) w):vcall PP xD #[.int .i64 l,.bool c] w K:=by
 apply Ja;unfold kS
 refine yx (fun h=>?_) (fun h=>?_)
 ·subst h
  simp(disch:=omega) only[push_cast,zA,Int.zero_sub]
  exact hK
 ·subst h
  exact hK
theorem nodes_spec {k:Nat} (hk:k≤1000000) (hn:n≤1000000) (hK:∀w',Ext w w'→K (.int .i64 (1+n+k:Int)) w'):vcall PP xN #[.agg ⟨[.int .i64 n,v]⟩,.int .i64 k] w K:=by
 apply U4;unfold Xx
 refine zy fun b w1 hb he hz hB=>?_
 simp(disch:=first|(simp only[push_cast];done)|omega) only[push_cast,hB.ld0,zA]
 exact hK _ he
def Y50 (g:M.Gt):M.Gt:=if M.absI g.b<M.absI g.a then⟨g.x,g.b,g.a⟩ else g
theorem ye0 (gs:M.Gs):(gs.map yu).length=gs.length:=List.length_map _
theorem gate_spec {g:M.Gt} (h:CktR n bc w gs v mb) (ha:g.a.natAbs≤1000000) (hb:g.b.natAbs≤1000000)
  (hK:∀w' v',CktR n bc w' (M.putG n gs (Y50 g)).1 v' mb→Same (J8 bc mb v) w w'→(∀b,v'.ownBlock=some b→v.ownBlock=some b∨w.heap.size≤b)→K (.int .i64 (M.putG n gs (Y50 g)).2) w'):
  vcall PP qh #[.pointer (some ⟨bc,0,none⟩),gv g] w K:=by
 apply Kj;unfold ZE
 refine zy fun gb w1 hgb he1 hz1 hB1=>?_
 have hf:=h.few
 refine zU (fun u w'=>Ext w w'∧Blk w' gb (yu (Y50 g)) zl) ?_ ?_
 ·intro J hJ
  refine zu fun w2 he2 _=>?_
  have hB2:=hB1.ext he2
  simp(disch:=first|(simp only[push_cast];done)|omega) only[push_cast,hB2.ld1,hB2.ld2,true_and]
  refine node_spec ha ?_
  simp(disch:=first|(simp only[push_cast];done)|omega) only[push_cast,hB2.ld1,hB2.ld2,true_and,and_self]
  refine node_spec hb ?_
  simp only[push_cast,true_and]
  refine zh (fun c=>?_) (fun c=>?_)
  ·simp(disch:=first|(simp only[push_cast];done)|omega) only[push_cast,hB2.ld1,hB2.ld2]
   refine hB2.st rfl rfl jT rfl fun w3 hs3 _ hB3=>?_
   refine Blk.st (i:=2) hB3 rfl rfl jT rfl fun w4 hs4 _ hB4=>?_
   refine hJ _ _ ⟨Ext.then (he1.trans he2) (hs3.trans hs4) fun x hx=>by omega,?_⟩
   unfold Y50
   rw[if_pos c]
   exact hB4
  ·refine hJ _ _ ⟨he1.trans he2,?_⟩
   unfold Y50
   rw[if_neg c]
   exact hB2
 rintro u _ w5 ⟨he5,hB5⟩
 generalize Y50 g=o at hK hB5
 refine zu fun w6 he6 _=>?_
 have e6:=he5.trans he6
 have h6:=h.ext e6
 have hB6:=hB5.ext he6
 obtain⟨f,hf6,hlk⟩:=h6.map
 have hla:∀w':World,Blk w' gb (yu o) zl→∀K:Value→World→Prop,ze PP zl (.pointer (some ⟨gb,0,none⟩)) w' K=K (gv o) w':=fun w' hB K=>Blk.ldAgg hB (by exact xW)
 have hlo:=hlk o
 have hl6:=hla _ hB6
 simp(disch:=first|(simp only[push_cast];done)|omega) only[push_cast,h6.blk.ld2,true_and,hl6,Yb0 hf6]
 by_cases hm:o∈gs
 ·rw[if_pos hm] at hlo
  simp only[hlo,push_cast,true_and,and_self]
  have e1:M.putG n gs o=(gs,(2+n+gs.idxOf o:Int)):=by unfold M.putG;rw[if_pos hm]
  rw[e1] at hK
  exact hK _ _ h6 (Same.of_ext e6) fun b hb=> .inl hb
 rw[if_neg hm] at hlo
 simp only[hlo,push_cast,true_and,and_self]
 have hsl:=Own.sl h6.own
 simp(disch:=first|(simp only[push_cast];done)|omega) only[push_cast,h6.blk.ld1,hsl.len,ye0]
 refine zh (fun hl=>?_) (fun hl=>?_)
 ·have e1:M.putG n gs o=(gs,0):=by unfold M.putG;rw[if_neg hm,if_pos (by omega)]
  rw[e1] at hK
  exact hK _ _ h6 (Same.of_ext e6) fun b hb=> .inl hb
 have e1:M.putG n gs o=(gs++[o],(2+n+gs.length:Int)):=by unfold M.putG;rw[if_neg hm,if_neg (by omega)]
 rw[e1] at hK
 refine zu fun w7 he7 _=>?_
 have e7:=e6.trans he7
 have h7:=h6.ext he7
 have hB7:=hB6.ext he7
 have hl7:=hla _ hB7
 simp(disch:=first|(simp only[push_cast];done)|omega) only[push_cast,h7.blk.ld1,true_and,hl7]
 refine QA jp (by kernel_rfl) ZN (y:=yu o) rfl rfl (show 3≤16777216 by decide) fun b8 w8 hb8 he8 hz8 hB8=>?_
 have e8:=e7.trans he8
 have h8:=h7.ext he8
 have hBg8:=hB7.ext he8
 have s8:=e8.size
 simp(disch:=first|(simp only[push_cast];done)|omega) only[push_cast,h8.blk.ld1,true_and,and_self]
 refine Own.app1k (bs:=24) h8.own qN (by decide) hB8 rfl (fun c hc=>by simp only[yu,List.mem_cons,List.not_mem_nil,or_false] at hc;rcases hc with rfl|rfl|rfl<;>rfl) (by rw[ye0];omega) (by rw[ye0];omega) fun v' w9 ho9 hs9 hn9=>?_
 have lbc:bc<w.heap.size:=h.lt (.inl rfl)
 have lmb:mb<w.heap.size:=h.lt (.inr (.inl rfl))
 have hBc9:=h8.blk.same hs9 fun hx=>h.sep.2.1 hx
 have hgb9: ¬v.ownBlock=some gb:=fun hx=>by have:=(Own.lt h.own hx).2;omega
 have hBg9:=hBg8.same hs9 hgb9
 refine Blk.st (i:=1) hBc9 (Sl.cells1 (Own.sl ho9)) (Sl.one (Own.sl ho9)) Wo rfl fun w10 hs10 hz10 hB10=>?_
 have hB10:Blk w10 bc [.int .i64 n,v',.map (some mb)] zQ:=hB10
 have hbc':v'.ownBlock≠some bc:=fun hx=>(hn9 bc hx).elim h.sep.2.1 fun h=>by omega
 have hmb':v'.ownBlock≠some mb:=fun hx=>(hn9 mb hx).elim h.sep.2.2 fun h=>by omega
 have ho10:OwnG w10 v' (gs++[o]):=by
  have:=ho9.same hs10 fun b hb hx=>hbc' (by rw[←hx];exact hb)
  unfold OwnG;rw[List.map_append];exact this
 have hBg10:=hBg9.same hs10 (show¬gb=bc by omega)
 obtain⟨f,hf6',hlk⟩:=h8.map
 have hf10:=(hf6'.same hs9 h.sep.2.2).same hs10 (fun e=>h.sep.1 e.symm)
 refine zu fun w11 he11 _=>?_
 have hB11:=hB10.ext he11
 have ho11:=Own.ext ho10 he11
 have hBg11:=hBg10.ext he11
 have hl11:=hla _ hBg11
 have hsl11:=Own.sl ho11
 have hnet:∀K:Value→World→Prop,ze PP zf (.pointer (some ⟨bc,0,none⟩)) w11 K=K (.agg ⟨[.int .i64 n,v']⟩) w11:=fun K=>Blk.ldTake (us:=[.int .i64 n,v']) (r:=[.map (some mb)]) hB11 y4
 have hl1:(List.map yu (gs++[o])).length=gs.length+1:=by rw[ye0,List.length_append];rfl
 have hlen:∀K:Value→World→Prop,vbi PP .len [zk] zc [v'] w11 K=K (.int .i64 ((gs.length+1:Nat):Int)) w11:=fun K=>by rw[hsl11.len xO,hl1]
 simp(disch:=first|(simp only[push_cast];done)|omega) only[push_cast,hB11.ld1,hB11.ld2,true_and,hl11,hnet,hlen]
 rw[show((gs.length:Int)+1)=((gs.length+1:Nat):Int) from by omega]
 refine nodes_spec (by omega) (by omega) fun w12 he12=>?_
 rw[show(1+(n:Int)+((gs.length+1:Nat):Int))=2+n+gs.length from by omega]
 have hB12:=hB11.ext he12
 have hBg12:=hBg11.ext he12
 have hl12:=hla _ hBg12
 simp(disch:=first|(simp only[push_cast];done)|omega) only[push_cast,hB12.ld2,true_and,hl12,and_self]
 have hf12:=hf10.ext (he11.trans he12)
 have hlo:J7 o f=none:=by rw[hlk,if_neg hm]
 refine gset hf12 hlo fun w13 hf13 hs13 hz13=>?_
 refine zu fun w14 he14 _=>?_
 have hB14:=(hB12.same hs13 h.sep.1).ext he14
 have hBg14:=(hBg12.same hs13 (show¬gb=mb by omega)).ext he14
 have hl14:=hla _ hBg14
 have hf14:=hf13.ext he14
 have ho14:OwnG w14 v' (gs++[o]):=Own.ext (Own.same (Own.ext ho11 he12) hs13 fun b hb hx=>hmb' (by rw[←hx];exact hb)) he14
 have hkey:∀g,J7 g (f++[(o,(2+n+gs.length:Int))])=if g∈gs++[o] then some (2+n+(gs++[o]).idxOf g:Int) else none:=fun g=>by
  have e:=look_app (g:=g) (h:=o) (n:=(2+n+gs.length:Int)) (f:=f) (i:=0)
  have e2:=hlk g
  unfold J7 at e2⊢
  rw[e,e2]
  by_cases hg:g∈gs
  ·rw[if_pos hg,if_pos (List.mem_append.2 (.inl hg)),List.idxOf_append,if_pos hg]
  ·rw[if_neg hg]
   by_cases ho:g=o
   ·subst ho
    simp only
    rw[if_pos trivial,if_pos (by simp),List.idxOf_append,if_neg hg]
    simp
   ·simp only
    rw[if_neg ho,if_neg (by simp[hg,ho])]
 have hko:=hkey o
 rw[if_pos (by simp),List.idxOf_append,if_neg hm] at hko
 simp only[List.idxOf_cons_self,Nat.add_zero] at hko
 simp(disch:=first|(simp only[push_cast];done)|omega) only[push_cast,hB14.ld2,true_and,hl14,Xm0 hf14,hko,and_self]
 refine hK _ v' ⟨hB14,ho14,⟨_,hf14,hkey⟩,⟨h.sep.1,hbc',hmb'⟩,?_,hf.2⟩ ?_ fun b hb=>(hn9 b hb).imp id fun h=>by omega
 ·rw[List.length_append];simp;omega
 ·refine Same.thn (Same.of_ext e8) ((((hs9.mono (S':=J8 bc mb v) fun x _ h=> .inr (.inr h)).trans (hs10.mono fun x _ h=> .inl h)).trans (Same.of_ext (he11.trans he12))).trans ((hs13.mono fun x _ h=> .inr (.inl h)).trans (Same.of_ext he14))) fun x hx=> .inl hx
end Go.Proofs.YtaekfnbnhjgboaaGreatDoor
end
section
namespace Go.Proofs.YtaekfnbnhjgboaaGreatDoor
open Go Go.Vc Go.Proofs
variable {w:World} {K:Value→World→Prop} {F F' Fx Fy X:Nat→Prop} {n bc mb bb:Nat} {gs:M.Gs} {v:Value} {ar ab:Addr} {st:Option M.Gs}
theorem absI_le {a:Int} {m:Nat} (h:a.natAbs≤m):(M.absI a).natAbs≤m:=by unfold M.absI;split<;>omega
theorem Uk {c:Bool} {a:Int}:(M.turnI c a).natAbs=a.natAbs:=by cases c<;>simp[M.turnI]
theorem put_abs {g:M.Gt} (h:gs.length≤600) (hn:n≤8):(M.putG n gs g).2.natAbs≤1000:=by
 unfold M.putG
 split
 ·next hm=>have:=List.idxOf_lt_length_iff.2 hm;show(2+(n:Int)+(gs.idxOf g:Nat)).natAbs≤1000;omega
 ·split
  ·show(0:Int).natAbs≤1000;decide
  ·show(2+(n:Int)+(gs.length:Nat)).natAbs≤1000;omega
theorem kJ0 {a b:Int} (h:gs.length≤600) (hn:n≤8) (ha:a.natAbs≤1000) (hb:b.natAbs≤1000):(M.andG n gs a b).2.natAbs≤1000:=by
 unfold M.andG
 repeat' split
 all_goals first|exact put_abs h hn|(show(-1:Int).natAbs≤1000;decide)|assumption
theorem jN0 {a b:Int} (h:gs.length≤600) (hn:n≤8) (ha:a.natAbs≤1000) (hb:b.natAbs≤1000):(M.xorG n gs a b).2.natAbs≤1000:=by
 unfold M.xorG
 repeat' split
 all_goals first|(show(-1:Int).natAbs≤1000;decide)|(show(1:Int).natAbs≤1000;decide)|(simp only[Uk];first|exact put_abs h hn|assumption)
theorem YP0 (a b:Int):zE PP zl [(1,.int .i64 a),(2,.int .i64 b)] w K=K (gv ⟨false,a,b⟩) w:=yf Xm (us:=[[.int .i64 a],[.int .i64 b]]) rfl rfl
theorem cand_spec {a b:Int} (h:CktR n bc w gs v mb) (ha:a.natAbs≤1000) (hb:b.natAbs≤1000)
  (hK:∀w' v',CktR n bc w' (M.andG n gs a b).1 v' mb→Same (J8 bc mb v) w w'→(∀b,v'.ownBlock=some b→v.ownBlock=some b∨w.heap.size≤b)→K (.int .i64 (M.andG n gs a b).2) w'):
  vcall PP jE #[.pointer (some ⟨bc,0,none⟩),.int .i64 a,.int .i64 b] w K:=by
 apply KX;unfold Y2
 unfold M.andG at hK
 try simp only[push_cast]
 refine zh (fun c=>?_) (fun c1=>?_)
 ·rw[if_pos (.inl c)] at hK
  exact hK _ _ h (Same.refl _ _) fun b hb=> .inl hb
 try simp only[push_cast]
 refine zh (fun c=>?_) (fun c2=>?_)
 ·rw[if_pos (.inr c)] at hK
  exact hK _ _ h (Same.refl _ _) fun b hb=> .inl hb
 rw[if_neg (fun h=>h.elim c1 c2)] at hK
 try simp only[push_cast]
 refine zh (fun c=>?_) (fun c=>?_)
 ·rw[if_pos c] at hK
  exact hK _ _ h (Same.refl _ _) fun b hb=> .inl hb
 rw[if_neg c] at hK
 try simp only[push_cast]
 refine zh (fun c=>?_) (fun c=>?_)
 ·rw[if_pos c] at hK
  exact hK _ _ h (Same.refl _ _) fun b hb=> .inl hb
 rw[if_neg c] at hK
 try simp only[push_cast]
 refine zh (fun c=>?_) (fun c=>?_)
 ·rw[if_pos c] at hK
  exact hK _ _ h (Same.refl _ _) fun b hb=> .inl hb
 rw[if_neg c] at hK
 try simp(disch:=omega) only[push_cast,zA,Int.zero_sub]
 refine zh (fun c=>?_) (fun c=>?_)
 ·rw[if_pos c] at hK
  exact hK _ _ h (Same.refl _ _) fun b hb=> .inl hb
 rw[if_neg c] at hK
 rw[YP0]
 exact gate_spec h (by show a.natAbs≤_;omega) (by show b.natAbs≤_;omega) hK
theorem ZT0 (a b:Int):zE PP zl [(0,.bool true),(1,.int .i64 a),(2,.int .i64 b)] w K=K (gv ⟨true,a,b⟩) w:=yf Xm (us:=[[.bool true],[.int .i64 a],[.int .i64 b]]) rfl rfl
theorem absI_abs (a:Int):M.absI (M.absI a)=M.absI a:=by
 unfold M.absI
 by_cases h:a<0
 ·rw[if_pos h,if_neg (by omega)]
 ·rw[if_neg h,if_neg h]
theorem ordX (a b:Int):Y50 ⟨true,M.absI a,M.absI b⟩=M.gateX a b:=by unfold Y50 M.gateX;simp only[absI_abs]
theorem cxor_spec {a b:Int} (h:CktR n bc w gs v mb) (ha:a.natAbs≤1000) (hb:b.natAbs≤1000)
  (hK:∀w' v',CktR n bc w' (M.xorG n gs a b).1 v' mb→Same (J8 bc mb v) w w'→(∀b,v'.ownBlock=some b→v.ownBlock=some b∨w.heap.size≤b)→K (.int .i64 (M.xorG n gs a b).2) w'):
  vcall PP jD #[.pointer (some ⟨bc,0,none⟩),.int .i64 a,.int .i64 b] w K:=by
 apply KW;unfold Y1
 unfold M.xorG at hK
 refine node_spec (by omega) ?_
 try simp only[push_cast]
 refine zh (fun c=>?_) (fun c=>?_)
 ·rw[if_pos c] at hK
  try simp only[push_cast]
  exact turned_spec (by omega) (hK _ _ h (Same.refl _ _) fun b hb=> .inl hb)
 rw[if_neg c] at hK
 refine node_spec (by omega) ?_
 try simp only[push_cast]
 refine zh (fun c=>?_) (fun c=>?_)
 ·rw[if_pos c] at hK
  try simp only[push_cast]
  exact turned_spec (by omega) (hK _ _ h (Same.refl _ _) fun b hb=> .inl hb)
 rw[if_neg c] at hK
 try simp only[push_cast]
 refine zh (fun c=>?_) (fun c=>?_)
 ·rw[if_pos c] at hK
  exact hK _ _ h (Same.refl _ _) fun b hb=> .inl hb
 rw[if_neg c] at hK
 try simp(disch:=omega) only[push_cast,zA,Int.zero_sub]
 refine zh (fun c=>?_) (fun c=>?_)
 ·rw[if_pos c] at hK
  exact hK _ _ h (Same.refl _ _) fun b hb=> .inl hb
 rw[if_neg c] at hK
 refine node_spec (by omega) (node_spec (by omega) ?_)
 rw[ZT0]
 have hp:=put_abs (g:=M.gateX a b) h.few.1 h.few.2
 refine gate_spec h (absI_le (by omega)) (absI_le (by omega)) fun w' v' hc hs hn=>?_
 rw[ordX] at hc⊢
 try simp only[push_cast]
 refine turned_spec (l:=(M.putG n gs (M.gateX a b)).2) (by omega) ?_
 exact hK _ _ hc hs hn
theorem Yy0:zo PP .eql yJ true .nilIface .nilIface w K=K (.bool true) w:=yA (by kernel_rfl) (by kernel_rfl)
theorem JY:zo PP .neq yJ true .nilIface .nilIface w K=K (.bool false) w:=yA (by kernel_rfl) (by kernel_rfl)
theorem yO0 {a:Addr}:zo PP .neq yJ true (erv a) .nilIface w K=K (.bool true) w:=yA (by kernel_rfl) (by kernel_rfl)
theorem UL {p e:Value} (hK:K (.tuple #[]) w):vcall PP yd #[p,.bool false,e] w K:=by
 apply Zw;unfold jo
 simp only[push_cast]
 exact hK
theorem ZH0 {p:Value} {a:Addr} (hB:Blk w bb [p,.nilIface] zW) (hK:∀w',Same (· =bb) w w'→Blk w' bb [p,erv a] zW→K (.tuple #[]) w'):
  vcall PP yd #[.pointer (some ⟨bb,0,none⟩),.bool true,erv a] w K:=by
 apply Zw;unfold jo
 simp(disch:=first|(simp only[push_cast];done)|omega) only[push_cast,hB.ld1,Yy0]
 refine Blk.st (i:=1) hB rfl rfl Yi0 rfl fun w' hs _ hB'=>hK w' hs hB'
end Go.Proofs.YtaekfnbnhjgboaaGreatDoor
end
section
namespace Go.Proofs.YtaekfnbnhjgboaaGreatDoor
open Go Go.Vc Go.Proofs
variable {w:World} {K:Value→World→Prop} {F F' Fx Fy X:Nat→Prop} {n bc mb bb:Nat} {gs:M.Gs} {v:Value} {ar ab:Addr} {st:Option M.Gs}
theorem BdR.pre {w':World} {bc mb:Nat} {gs gs':M.Gs} {v v':Value} (h:BdR n bb ar ab X F w (some gs)) (hB:Blk w bb [.pointer (some ⟨bc,0,none⟩),.nilIface] zW) (hbb: ¬J8 bc mb v bb) (hF:∀b,J8 bc mb v b→F b)
  (hc:CktR n bc w' gs' v' mb) (hs:Same (J8 bc mb v) w w') (hn:∀b,v'.ownBlock=some b→v.ownBlock=some b∨w.heap.size≤b):
  BdR n bb ar ab X (fun b=>F b∨v'.ownBlock=some b) w' (some gs')∧Mv F w (fun b=>F b∨v'.ownBlock=some b) w':=by
 have hm:Mv F w (fun b=>F b∨v'.ownBlock=some b) w':=⟨hs.mono fun x _ hx=>hF x hx,fun b hb=>hb.elim .inl fun hb=>(hn b hb).imp (fun h=>hF b (.inr (.inr h))) id⟩
 refine⟨⟨h.err.mv hm,⟨bc,hB.same hs hbb,fun gs2 e=>?_⟩,.inl h.foot,fun b hb=>?_⟩,hm⟩
 ·cases e
  refine⟨v',mb,hc,?_,?_⟩
  ·rintro(hx|hx|hx)
   ·exact hbb (.inl hx)
   ·exact hbb (.inr (.inl hx))
   ·rcases hn _ hx with h1|h1
    ·exact hbb (.inr (.inr h1))
    ·have:=hB.lt;omega
  ·rintro b (hx|hx|hx)
   ·exact .inl (hF b (.inl hx))
   ·exact .inl (hF b (.inr (.inl hx)))
   ·exact .inr hx
 ·rcases hb with(hb|hb)|hb
  ·have:=h.lt b (.inl hb);have:=hs.size;omega
  ·exact hc.lt (.inr (.inr hb))
  ·have:=h.lt b (.inr hb);have:=hs.size;omega
theorem made_spec {s:Int} (h:BdR n bb ar ab X F w (some gs)) (hK:∀w',BdR n bb ar ab X F w' (if s=0 then none else some gs)→Mv F w F w'→K (.int .i64 (if s=0 then-1 else s)) w'):
  vcall PP qi #[.pointer (some ⟨bb,0,none⟩),.int .i64 s] w K:=by
 apply Ko;unfold ZI
 obtain⟨bc,hB,hC⟩:=h.blk
 simp only at hB
 simp only[push_cast,xI XI h.err.room.cell]
 by_cases hs:s=0
 ·rw[if_pos hs,if_pos hs] at hK
  rw[decide_eq_true hs]
  refine ZH0 hB fun w' hs' hB'=>?_
  have hm:Mv F w F w':=⟨hs'.mono fun x _ hx=>hx▸h.foot,fun b hb=> .inl hb⟩
  simp(disch:=first|(simp only[push_cast];done)|omega) only[push_cast,hB'.ld1,yO0]
  exact hK _ ⟨h.err.mv hm,⟨bc,hB',fun _ e=>by cases e⟩,h.foot,fun b hb=>by have:=h.lt b hb;have:=hs'.size;omega⟩ hm
 ·rw[if_neg hs,if_neg hs] at hK
  rw[decide_eq_false hs]
  refine UL ?_
  simp(disch:=first|(simp only[push_cast];done)|omega) only[push_cast,hB.ld1,JY]
  exact hK _ h Mv.refl
abbrev Sm (x:Int):Prop:=x.natAbs≤1000
theorem bout {x y s:Int} {p:M.Bd Int} {gs1:M.Gs} (hp:p.run n gs=if s=0 then none else some (gs1,s)) (hr:p.Reach (-1)):M.Bd.Out n p (some gs) (if s=0 then none else some gs1) (if s=0 then-1 else s):=by
 by_cases hs:s=0
 ·rw[if_pos hs] at hp;rw[if_pos hs,if_pos hs];exact .inr ⟨hp,rfl,hr⟩
 ·rw[if_neg hs] at hp;rw[if_neg hs,if_neg hs];exact .inl ⟨gs1,hp,rfl⟩
theorem jN {x y:Int} (h:BdR n bb ar ab X F w st) (hx:Sm x) (hy:Sm y)
  (hK:∀w' F' st' r,BdR n bb ar ab X F' w' st'→Mv F w F' w'→Sm r→M.Bd.Out n (.and x y .ret) st st' r→K (.int .i64 r) w'):
  vcall PP yj #[.pointer (some ⟨bb,0,none⟩),.int .i64 x,.int .i64 y] w K:=by
 apply V6;unfold Y7
 obtain⟨bc,hB,hC⟩:=h.blk
 cases st with
 |none=>
  simp only at hB
  simp(disch:=first|(simp only[push_cast];done)|omega) only[push_cast,hB.ld1,yO0]
  exact hK _ _ none (-1) h Mv.refl (by decide) ⟨rfl,-1,rfl⟩
 |some gs=>
  simp only at hB
  obtain⟨v,mb,hc,hbb,hF⟩:=hC gs rfl
  simp(disch:=first|(simp only[push_cast];done)|omega) only[push_cast,hB.ld0,hB.ld1,JY]
  refine cand_spec hc hx hy fun w1 v1 hc1 hs1 hn1=>?_
  obtain⟨h1,hm1⟩:=h.pre hB hbb hF hc1 hs1 hn1
  have ha:=kJ0 (n:=n) hc.few.1 hc.few.2 hx hy
  refine made_spec h1 fun w2 h2 hm2=>hK _ _ _ _ h2 (hm1.trans hm2) ?_ (bout (x:=x) (y:=y) rfl ⟨-1,rfl⟩)
  split
  ·decide
  ·exact ha
theorem Qn {x y:Int} (h:BdR n bb ar ab X F w st) (hx:Sm x) (hy:Sm y)
  (hK:∀w' F' st' r,BdR n bb ar ab X F' w' st'→Mv F w F' w'→Sm r→M.Bd.Out n (.xor x y .ret) st st' r→K (.int .i64 r) w'):
  vcall PP xd #[.pointer (some ⟨bb,0,none⟩),.int .i64 x,.int .i64 y] w K:=by
 apply KY;unfold Y3
 obtain⟨bc,hB,hC⟩:=h.blk
 cases st with
 |none=>
  simp only at hB
  simp(disch:=first|(simp only[push_cast];done)|omega) only[push_cast,hB.ld1,yO0]
  exact hK _ _ none (-1) h Mv.refl (by decide) ⟨rfl,-1,rfl⟩
 |some gs=>
  simp only at hB
  obtain⟨v,mb,hc,hbb,hF⟩:=hC gs rfl
  simp(disch:=first|(simp only[push_cast];done)|omega) only[push_cast,hB.ld0,hB.ld1,JY]
  refine cxor_spec hc hx hy fun w1 v1 hc1 hs1 hn1=>?_
  obtain⟨h1,hm1⟩:=h.pre hB hbb hF hc1 hs1 hn1
  have ha:=jN0 (n:=n) hc.few.1 hc.few.2 hx hy
  refine made_spec h1 fun w2 h2 hm2=>hK _ _ _ _ h2 (hm1.trans hm2) ?_ (bout (x:=x) (y:=y) rfl ⟨-1,rfl⟩)
  split
  ·decide
  ·exact ha
theorem xZ {α:Type} {x y r:Int} {k:Int→M.Bd α} {a:α} {st st' st'':Option M.Gs} (h:M.Bd.Out n (.and x y .ret) st st' r) (h2:M.Bd.Out n (k r) st' st'' a):M.Bd.Out n (.and x y k) st st'' a:=M.Bd.Out.bind (f:=k) h h2
theorem ZO {α:Type} {x y r:Int} {k:Int→M.Bd α} {a:α} {st st' st'':Option M.Gs} (h:M.Bd.Out n (.xor x y .ret) st st' r) (h2:M.Bd.Out n (k r) st' st'' a):M.Bd.Out n (.xor x y k) st st'' a:=M.Bd.Out.bind (f:=k) h h2
theorem bor_spec {x y:Int} (h:BdR n bb ar ab X F w st) (hx:Sm x) (hy:Sm y)
  (hK:∀w' F' st' r,BdR n bb ar ab X F' w' st'→Mv F w F' w'→Sm r→M.Bd.Out n (M.orB x y) st st' r→K (.int .i64 r) w'):
  vcall PP xF #[.pointer (some ⟨bb,0,none⟩),.int .i64 x,.int .i64 y] w K:=by
 apply Wa;unfold YI
 simp(disch:=omega) only[push_cast,zA,Int.zero_sub]
 refine jN h (by unfold Sm at*;omega) (by unfold Sm at*;omega) fun w1 F1 st1 r1 h1 hm1 hr1 ho1=>?_
 simp(disch:=omega) only[push_cast,zA,Int.zero_sub]
 exact hK _ _ _ _ h1 hm1 (by unfold Sm at*;omega) (xZ ho1 (M.Bd.Out.ret _ _))
theorem bmux_spec {c x y:Int} (h:BdR n bb ar ab X F w st) (hc:Sm c) (hx:Sm x) (hy:Sm y)
  (hK:∀w' F' st' r,BdR n bb ar ab X F' w' st'→Mv F w F' w'→Sm r→M.Bd.Out n (M.muxB c x y) st st' r→K (.int .i64 r) w'):
  vcall PP yD #[.pointer (some ⟨bb,0,none⟩),.int .i64 c,.int .i64 x,.int .i64 y] w K:=by
 apply V3;unfold Y5
 refine jN h hc hx fun w1 F1 st1 r1 h1 hm1 hr1 ho1=>?_
 simp(disch:=omega) only[push_cast,zA,Int.zero_sub]
 refine jN h1 (by unfold Sm at*;omega) hy fun w2 F2 st2 r2 h2 hm2 hr2 ho2=>?_
 refine bor_spec h2 hr1 hr2 fun w3 F3 st3 r3 h3 hm3 hr3 ho3=>?_
 exact hK _ _ _ _ h3 (hm1.trans (hm2.trans hm3)) hr3 (xZ ho1 (xZ ho2 ho3))
end Go.Proofs.YtaekfnbnhjgboaaGreatDoor
end
section
namespace Go.Vc
open Go
section
variable {P:Program} {w w':World} {K:Value→World→Prop} {F:Nat→Prop} {t:TypeId} {v:Value}
theorem Sl.cutLH {k lo hi:Nat} {xs:List (List Value)} {kl kh:IntKind} (h:Sl F w k v xs) (ht:elB P t k=true) (hl:lo≤hi) (hh:hi≤xs.length) (hK:∀v',Sl F w k v' ((xs.drop lo).take (hi-lo))→K v' w'):
  yp P t v (some (.int kl lo)) (some (.int kh hi)) none w' K:=by
 obtain⟨hu,hs⟩:=UP ht
 obtain⟨⟨a,c,rfl,hc,hcm,hcell⟩,hw⟩:=h
 have hlen:((xs.drop lo).take (hi-lo)).length=hi-lo:=by rw[List.length_take,List.length_drop];omega
 refine⟨_,w',?_,hK (sliced a lo hi c k) ⟨⟨_,c-lo,by unfold sliced;rw[hlen],by omega,by omega,fun hne=>?_⟩,fun x hx=>hw x (List.mem_of_mem_drop (List.mem_of_mem_take hx))⟩⟩
 ·rw[run_sliceAt_slice w' t _ _ _ _ hu,run_slice_lh w' t _ _ _ hu kl kh lo hi (by omega) (by omega) (by omega),run_sizeOf hs]
  simp[Result.andThen]
 ·have hlt:lo<hi:=by
   have:0<((xs.drop lo).take (hi-lo)).length:=List.length_pos_iff.2 hne
   omega
  obtain⟨b,o,rfl,hF,hb,hcc⟩:=hcell (fun e=>by rw[e] at hh;simp at hh;omega)
  refine⟨b,o+lo*k,?_,hF,hb,fun i hi'=>?_⟩
  ·rw[if_neg (by omega)];simp[x8]
  ·rw[hlen] at hi'
   have:=hcc (lo+i) (by omega)
   rw[show o+lo*k+i*k=o+(lo+i)*k by rw[Nat.add_mul];omega]
   rwa[List.getD_eq_getElem?_getD,List.getElem?_take_of_lt hi',List.getElem?_drop,←List.getD_eq_getElem?_getD]
theorem Vals.cutLH {lo hi:Nat} {vs:List Value} {kl kh:IntKind} (h:Vals F w v vs) (ht:elB P t 1=true) (hl:lo≤hi) (hh:hi≤vs.length) (hK:∀v',Vals F w v' ((vs.drop lo).take (hi-lo))→K v' w'):
  yp P t v (some (.int kl lo)) (some (.int kh hi)) none w' K:=by
 refine Sl.cutLH h ht hl (by simpa using hh) fun v' h'=>hK v' ?_
 unfold Vals
 rw[List.map_take,List.map_drop];exact h'
theorem Ints.cutLH {lo hi:Nat} {xs:List Int} {kl kh:IntKind} (h:Ints F w v xs) (ht:elB P t 1=true) (hl:lo≤hi) (hh:hi≤xs.length) (hK:∀v',Ints F w v' ((xs.drop lo).take (hi-lo))→K v' w'):
  yp P t v (some (.int kl lo)) (some (.int kh hi)) none w' K:=by
 refine Vals.cutLH h ht hl (by simpa using hh) fun v' h'=>hK v' ?_
 unfold Ints
 rw[List.map_take,List.map_drop];exact h'
theorem blk_from {b n lo:Nat} {kl:IntKind} (ht:elB P t 1=true) (hl:lo≤n):
  yp P t (.slice (some ⟨b,0,none⟩) n n) (some (.int kl lo)) none none w K=K (.slice (some ⟨b,if n=lo then 0 else lo,none⟩) (n-lo) (n-lo)) w:=by
 obtain⟨hu,hs⟩:=UP ht
 refine yw ?_
 rw[run_sliceAt_slice w t _ _ _ _ hu,run_slice_l w t _ _ _ hu kl lo (by omega) (by omega),run_sizeOf hs]
 simp only[Result.andThen,sliced,Int.toNat_natCast]
 by_cases c:n=lo
 ·simp[c]
 ·simp[c,x8]
theorem blk_to {b n hi:Nat} {kl:IntKind} (ht:elB P t 1=true) (hl:hi≤n):
  yp P t (.slice (some ⟨b,0,none⟩) n n) none (some (.int kl hi)) none w K=K (.slice (some ⟨b,0,none⟩) hi n) w:=by
 obtain⟨hu,hs⟩:=UP ht
 refine yw ?_
 rw[run_sliceAt_slice w t _ _ _ _ hu,run_slice_h w t _ _ _ hu kl hi (by omega) (by omega),run_sizeOf hs]
 simp[Result.andThen,sliced,x8]
theorem qP0 {e n:Nat} (h:j6 P e n=true):(P.info? e).map (·.size)=some n:=by
 unfold j6 at h
 cases hi:P.info? e with
 |none=>rw[hi] at h;cases h
 |some i=>rw[hi] at h;simp[Nat.eq_of_beq_eq_true h]
theorem vcopy {t2 ty te:TypeId} {g off dLen dCap sLen sCap:Nat} {ad:Addr} {cur cs:List Value} (ht:elB P t 1=true) (hB:Blk w g cur te) (hn:cs.length=min sLen dLen)
  (hsrc:∀j u,cs[j]?=some u→w.cell? (ad.add j)=some u) (hfit:off+cs.length≤cur.length) (h1:∀u∈cs,u.oneCell'=true)
  (hK:∀w',Same (· =g) w w'→w'.heap.size=w.heap.size→Blk w' g (cur.take off++(cs++cur.drop (off+cs.length))) te→K (.int .i64 cs.length) w'):
  vbi P .copy [t,t2] ty [.slice (some ⟨g,off,none⟩) dLen dCap,.slice (some ad) sLen sCap] w K:=by
 obtain⟨hu,hs⟩:=UP ht
 have hr:=run_copy_row (P:=P) w t t2 ty (P.elem t) g off dLen dCap ad sLen sCap ⟨cur⟩ te cs hu (qP0 hs) hB hn hsrc (by simpa using hfit) h1
 refine⟨_,_,hr,hK _ ⟨rfl,rfl,rfl,by simp[World.setRow],fun k hk hne=>setRow_other w g k _ hne⟩ (by simp[World.setRow]) ?_⟩
 have hlt:=hB.lt
 have hB':w.heap[g]?=some (.cells ⟨cur⟩ te (0,0)):=hB
 unfold Blk World.setRow
 simp only[Array.getElem?_modify]
 simp[hB',List.append_assoc]
theorem ja0 {t2 ty:TypeId} {d a:Option Addr} {dLen dCap sLen sCap:Nat} (ht:elB P t 1=true) (hn:min sLen dLen=0):vbi P .copy [t,t2] ty [.slice d dLen dCap,.slice a sLen sCap] w K=K (.int .i64 0) w:=by
 obtain⟨hu,hs⟩:=UP ht
 exact yw (run_copy_none (P:=P) w t t2 ty (P.elem t) d a dLen dCap sLen sCap hu (qP0 hs) hn)
theorem vmkS_blk {bs n:Nat} {z:Value} {k1 k2:IntKind} {e:TypeId} (hT:elZ P t 1 bs=true) (he:Ky P t=e) (hz:yM P e z) (hzc:z.cells= #[z]) (h48:bs*n≤281474976710656) (h63:n≤9223372036854775807)
  (hK:∀b w',b=w.heap.size→Blk w' b (List.replicate n z) e→Ext w w'→K (.slice (some ⟨b,0,none⟩) n n) w'):Yk0 P t (.int k1 n) (.int k2 n) w K:=by
 obtain⟨hu,i,z',hi,hz',hsz,hby,hzs⟩:=j30 hT
 subst he
 have:z'=z:=by
  unfold yM at hz;rw[hi] at hz;simp only[hz',Option.some.injEq] at hz;exact hz
 subst this
 subst hby
 obtain⟨w',hr,hown,hgr⟩:=run_make_full (P:=P) w 0 t (Ky P t) i z' 1 hu hi hz' hsz k1 k2 n h48 (by simpa[maxLen] using h63) (by omega)
 refine⟨_,w',hr,hK _ w' rfl ?_ ((Same.of_grown hgr).mono fun _ _ h=>by cases h)⟩
 have e:(madeCells z'.cells (n*1)).toList=List.replicate n z':=by
  refine List.ext_getElem (by simp[madeCells]) fun j h1 h2=>?_
  simp[madeCells,hzc,Nat.mod_one]
 rw[e] at hown
 rcases hown.2 with⟨h,_⟩|⟨g,cap,cur,hv,hb,hg,hnc,hcm,hcs,htake⟩
 ·cases h
 ·cases hv
  unfold Blk
  rw[hg]
  have:cur.toList=List.replicate n z':=by rw[←htake,List.take_of_length_le (by rw[Array.length_toList,hcs];exact Nat.le_refl _)]
  rw[←this]
theorem vappend_make {bs n:Nat} {ti ty:TypeId} {z:Value} {e:TypeId} (hT:elZ P t 1 bs=true) (he:Ky P t=e) (hz:yM P e z) (hzc:z.cells= #[z]) (hti:P.underlying ti=some (.int .i64)) (h0:0<n) (h63:n≤1000000) (h48:n*bs≤140737488355328)
  (hK:∀v' w',OwnV P t w' v' (List.replicate n z)→Ext w w'→(∀b,v'.ownBlock=some b→w.heap.size≤b)→K v' w'):vbi P .append [t,ti] ty [.slice none 0 0,.int .i64 n] w K:=by
 obtain⟨hu,i,z',hi,hz',hsz,hby,hzs⟩:=j30 hT
 subst he
 have:z'=z:=by
  unfold yM at hz;rw[hi] at hz;simp only[hz',Option.some.injEq] at hz;exact hz
 subst this
 subst hby
 have h48'':n*i.bytes≤281474976710656:=by omega
 have hnm:n≤maxLen:=by simp only[maxLen];omega
 have hn:n≠0:=by omega
 have hw:IntKind.i64.wrap (n:Int)=n:=zA (by omega) (by simp only[maxLen] at hnm;omega)
 have h63': ¬(9223372036854775807<(n:Int)):=by simp only[maxLen] at hnm;omega
 have h48': ¬(281474976710656<Builtin.nextslicecap n 0*i.bytes):=by rw[nextslicecap_zero h0];omega
 have h49: ¬((281474976710656:Int)<(n:Int)*i.bytes):=by
  have h:((n*i.bytes:Nat):Int)≤281474976710656:=by omega
  rw[Int.natCast_mul] at h
  omega
 have hr:(Builtin.append_ #[t,ti] ty #[.slice none 0 0,.int .i64 n]).run P w=
   .ok (.slice (some ⟨w.heap.size,0,none⟩) n (grownCap w n 0 (Ky P t))) (w.drew.alloc (.cells (Builtin.zeroCells z'.cells n++Builtin.zeroCells z'.cells (grownCap w n 0 (Ky P t)-n)) (Ky P t))):=by
  simp[Builtin.append_,run_underlying hu,run_underlying hti,sizeOf,typeInfo,zeroValue,hi,hz',hsz,hn,hw,h63',h48',h49,asInt,asIntOf,Question.forced,run_firstCells_none,newRow,grownCap]
  intro h
  omega
 have hge:=grownCap_ge w n 0 (Ky P t)
 have hcm:grownCap w n 0 (Ky P t)≤maxLen:=grownCap_le_maxLen w n 0 (Ky P t) hnm
 have hzc2:∀m,(Builtin.zeroCells z'.cells m).toList=List.replicate m z':=fun m=>by
  refine List.ext_getElem (by simp[Builtin.zeroCells,hzs]) fun j h1 h2=>?_
  simp[Builtin.zeroCells,hzc,Nat.mod_one]
 refine⟨_,_,hr,hK _ _ ⟨⟨by simp,.inr ⟨w.heap.size,_,_,by simp,Nat.zero_le _,heap_alloc_new w.drew _,by simpa using hge,hcm,?_,?_⟩⟩,by simp⟩ ⟨rfl,rfl,rfl,by simp,fun k hk _=>heap_alloc_old w.drew _ hk⟩ fun b hb=>by cases hb;exact Nat.le_refl _⟩
 ·simp only[Array.size_append,size_zeroCells,hzs];omega
 ·rw[Array.toList_append,hzc2,hzc2,flat1]
  simp
end
section
open Go.MapKept
theorem jP0 {P:Program} {w:World} {K:Value→World→Prop} {t e:TypeId} {d:TypeDesc} {b:Nat} {f:List (Value×Value)} {k x:Value} (hT:Zu0 P t d e) (h:MapF d w b f) (hk:IsKey d k)
  (hK:∀w' f',MapF d w' b f'→(∀p,p∈f'→p=(k,x)∨p∈f)→Same (· =b) w w'→w'.heap.size=w.heap.size→K undef w'):ku P t (.map (some b)) k x w K:=by
 obtain⟨kt,hm,hd⟩:=hT
 obtain⟨es,cl,hb,hst,hks,rfl⟩:=h
 rcases findNow_spec hk es.toList 0 hks with⟨h1,h2⟩|⟨j,e,h1,h2,h3⟩
 ·refine⟨(),{w with heap:=w.heap.setIfInBounds b (.map (es.push {key:=k,val:=x,born:=cl}) (cl+1))},?_,hK _ _ ⟨_,_,(heap_set hb).1,stamped_push hst h2,fun y hy=>?_,rfl⟩ (fun p hp=>?_) (U7 hb) (by simp)⟩
  ·simp[Instr.mapUpdate,run_underlying hm,MapKept.run_getObj_map hb,run_checkKey hd hk,run_findKey hd h1,run_setObj_map _ hb,Result.andThen]
  ·rw[Array.toList_push] at hy
   rcases List.mem_append.1 hy with hy|hy
   ·exact hks y hy
   ·rw[List.mem_singleton.1 hy];exact hk
  ·rw[Array.toList_push,List.map_append] at hp
   rcases List.mem_append.1 hp with hp|hp
   ·exact .inr hp
   ·exact .inl (by simpa using hp)
 ·have h2':es[j]?=some e:=by simpa using h2
  have hf:∀y∈es.toList,es[0+j]?=some y→({y with key:=k,val:=x}:MapEntry).key=y.key:=fun y _ hy=>by
   rw[Nat.zero_add,h2'] at hy;cases hy;exact h3.symm
  have hmem:∀y∈(es.modify (0+j) fun y=>{y with key:=k,val:=x}).toList,(y.key=k∧y.val=x)∨y∈es.toList:=fun y hy=>by
   obtain⟨i,hi,e1⟩:=List.getElem_of_mem hy
   have e2:(es.modify (0+j) fun y=>{y with key:=k,val:=x})[i]?=some y:=by
    rw[←Array.getElem?_toList,List.getElem?_eq_getElem hi,e1]
   rw[Array.getElem?_modify] at e2
   split at e2
   ·cases hq:es[i]? with
    |none=>rw[hq] at e2;cases e2
    |some z=>rw[hq] at e2;simp only[Option.map_some,Option.some.injEq] at e2;left;rw[←e2];exact⟨rfl,rfl⟩
   ·right
    rw[←Array.getElem?_toList] at e2
    exact List.mem_of_getElem? e2
  refine⟨(),{w with heap:=w.heap.setIfInBounds b (.map (es.modify (0+j) fun y=>{y with key:=k,val:=x}) cl)},?_,hK _ _ ⟨_,_,(heap_set hb).1,stamped_modify hst _ _ (fun _ _=>rfl) hf,fun y hy=>?_,rfl⟩ (fun p hp=>?_) (U7 hb) (by simp)⟩
  ·have hkk:((es[0+j]?).map (·.key)).getD k=k:=by rw[Nat.zero_add,h2'];exact h3
   simp only[Instr.mapUpdate,Sem.run_bind,run_underlying hm,MapKept.run_getObj_map hb,run_checkKey hd hk,run_findKey hd h1,Result.andThen,hkk,run_keyThatStays hk,run_setObj_map _ hb]
  ·rcases hmem y hy with⟨h4,_⟩|h4
   ·rw[h4];exact hk
   ·exact hks y h4
  ·obtain⟨y,hy,rfl⟩:=List.mem_map.1 hp
   rcases hmem y hy with⟨h4,h5⟩|h4
   ·exact .inl (by rw[h4,h5])
   ·exact .inr (List.mem_map.2 ⟨y,h4,rfl⟩)
end
end Go.Vc
end
section
namespace Go.Proofs.YtaekfnbnhjgboaaGreatDoor
open Go Go.Vc Go.Proofs
variable {w:World} {K:Value→World→Prop} {F F' Fx Fy X:Nat→Prop} {n bc mb bb:Nat} {gs:M.Gs} {v:Value} {ar ab:Addr} {st:Option M.Gs}
def SmL (xs:List Int):Prop:=∀x,x∈xs→Sm x
theorem SmL.get {xs:List Int} (h:SmL xs) {i:Nat} (hi:i<xs.length):Sm (xs.getD i 0):=h _ (M.getD_mem hi 0)
theorem SmL.app {xs ys:List Int} (h:SmL xs) (h2:SmL ys):SmL (xs++ys):=fun x hx=>(List.mem_append.1 hx).elim (h x) (h2 x)
theorem SmL.one {x:Int} (h:Sm x):SmL [x]:=fun y hy=>by rw[List.mem_singleton.1 hy];exact h
theorem SmL.nil:SmL []:=fun x hx=>by cases hx
theorem xq {xs:List Int} {i:Nat} (hi:i<xs.length):xs.drop i=xs.getD i 0::xs.drop (i+1):=by
 rw[List.drop_eq_getElem_cons hi,List.getD_eq_getElem?_getD,List.getElem?_eq_getElem hi];rfl
theorem k20 {i:Nat} {xs ys:List Int} {c:Int} (h:xs.length≤i):M.sumB (xs.drop i) ys c= .ret []:=by
 rw[List.drop_eq_nil_of_le h];cases ys<;>rfl
theorem bsum_spec {xv yv:Value} {xs ys:List Int} {c:Int} (h:BdR n bb ar ab X F w st) (hx:Ints (Off X F) w xv xs) (hy:Ints (Off X F) w yv ys) (hl:xs.length≤ys.length) (h8:xs.length≤1000) (hxs:SmL xs) (hys:SmL ys) (hc:Sm c)
  (hK:∀w' F' st' r zs,BdR n bb ar ab X F' w' st'→Mv F w F' w'→NewI X w F' w' r zs→SmL zs→M.Bd.Out n (M.sumB xs ys c) st st' zs→K r w'):
  vcall PP xe #[.pointer (some ⟨bb,0,none⟩),xv,yv,.int .i64 c] w K:=by
 apply KZ;unfold Y4
 simp(disch:=first|(simp only[push_cast];done)|omega) only[push_cast,hx.len]
 refine vloop_up xs.length (fun i u w'=> ∃F1 st1 r zs c1,u=[.int .i64 c1,r,.int .i64 i]∧BdR n bb ar ab X F1 w' st1∧Mv F w F1 w'∧NewI X w F1 w' r zs∧SmL zs∧zs.length=i∧Sm c1∧
  ∀st2 rs,M.Bd.Out n (M.sumB (xs.drop i) (ys.drop i) c1) st1 st2 rs→M.Bd.Out n (M.sumB xs ys c) st st2 (zs++rs)) ⟨F,st,_,[],c,rfl,h,Mv.refl,NewI.nil,SmL.nil,rfl,hc,fun _ _ h=>h⟩ ?_
 rintro i _ g w1 C hi ⟨F1,st1,r,zs,c1,rfl,h1,hm1,hr1,hz1,hzl,hc1,hout⟩ hC
 simp only[push_cast]
 refine zh (fun hlt=>?_) (fun hge=>?_)
 ·have hi':i<xs.length:=by omega
  refine zu fun w2 he2 _=>?_
  have h2:=h1.ext he2
  have hm2:=hm1.ext he2
  have hx2:=Ints.mv hx hm2
  have hy2:=Ints.mv hy hm2
  simp(disch:=first|(simp only[push_cast];done)|omega) only[push_cast,hx2.iaddr,hx2.load,hy2.iaddr,hy2.load,true_and]
  refine Qn h2 (hxs.get hi') (hys.get (by omega)) fun w3 F3 st3 d h3 hm3 hd ho3=>?_
  refine Qn h3 hd hc1 fun w4 F4 st4 s h4 hm4 hs ho4=>?_
  refine yb yN yg yr rfl rfl fun b5 w5 hb5 he5 hz5 hB5=>?_
  have hm5:=(hm2.trans (hm3.trans hm4)).ext he5
  have h5:=h4.ext he5
  have hr5:NewI X w F4 w5 r zs:=(hr1.mv ((Mv.refl.ext he2).trans (hm3.trans hm4))).mv (Mv.refl.ext he5)
  refine hr5.app1 hB5 hm5.same.size h5.lt (by omega) fun r6 w6 hr6 hs6=>?_
  have h6:BdR n bb ar ab X F4 w6 st4:=h5.upd h.err hs6 fun b hb=>hr5.off b hb
  have hm6:Mv F w F4 w6:=hm5.to hs6 fun b hb=> .inr (hr5.off b hb).1
  refine zu fun w7 he7 _=>?_
  have h7:=h6.ext he7
  have hm7:=hm6.ext he7
  have hx7:=Ints.mv hx hm7
  have hy7:=Ints.mv hy hm7
  simp(disch:=first|(simp only[push_cast];done)|omega) only[push_cast,hx7.iaddr,hx7.load,hy7.iaddr,hy7.load,true_and]
  refine jN h7 (hxs.get hi') (hys.get (by omega)) fun w8 F8 st8 p h8 hm8 hp ho8=>?_
  refine jN h8 hd hc1 fun w9 F9 st9 q h9 hm9 hq ho9=>?_
  refine bor_spec h9 hp hq fun w10 F10 st10 c2 h10 hm10 hc2 ho10=>?_
  simp(disch:=omega) only[push_cast,zA]
  have hm:=hm8.trans (hm9.trans hm10)
  refine hC hi' _ _ ⟨F10,st10,r6,zs++[s],c2,by simp<;>exact⟨rfl,rfl⟩,h10,hm7.trans hm,(hr6.mv (Mv.refl.ext he7)).mv hm,hz1.app (SmL.one hs),by simp[hzl],hc2,fun st2 rs ho=>?_⟩
  have:=hout st2 (s::rs) ?_
  ·simpa using this
  rw[xq hi',xq (show i<ys.length by omega)]
  exact ZO ho3 (ZO ho4 (xZ ho8 (xZ ho9 (M.Bd.Out.bind ho10 (M.Bd.Out.map _ ho)))))
 ·have:=hout st1 [] (by rw[k20 (by omega)];exact M.Bd.Out.ret _ _)
  rw[List.append_nil] at this
  exact hK w1 F1 st1 r zs h1 hm1 hr1 hz1 this
theorem qX0 {i:Nat} {xs ys:List Int} {r:Int} (h:xs.length≤i):M.lessB (xs.drop i) ys r= .ret r:=by
 rw[List.drop_eq_nil_of_le h];cases ys<;>rfl
theorem bless_spec {xv yv:Value} {xs ys:List Int} (h:BdR n bb ar ab X F w st) (hx:Ints (Off X F) w xv xs) (hy:Ints (Off X F) w yv ys) (hl:xs.length≤ys.length) (h8:xs.length≤1000) (hxs:SmL xs) (hys:SmL ys)
  (hK:∀w' F' st' r,BdR n bb ar ab X F' w' st'→Mv F w F' w'→Sm r→M.Bd.Out n (M.lessB xs ys (-1)) st st' r→K (.int .i64 r) w'):
  vcall PP xK #[.pointer (some ⟨bb,0,none⟩),xv,yv] w K:=by
 apply Kq;unfold ZJ
 simp(disch:=first|(simp only[push_cast];done)|omega) only[push_cast,hx.len]
 refine vloop_up xs.length (fun i u w'=> ∃F1 st1 r,u=[.int .i64 r,.int .i64 i]∧BdR n bb ar ab X F1 w' st1∧Mv F w F1 w'∧Sm r∧
  ∀st2 q,M.Bd.Out n (M.lessB (xs.drop i) (ys.drop i) r) st1 st2 q→M.Bd.Out n (M.lessB xs ys (-1)) st st2 q) ⟨F,st,-1,rfl,h,Mv.refl,by decide,fun _ _ h=>h⟩ ?_
 rintro i _ g w1 C hi ⟨F1,st1,r,rfl,h1,hm1,hr1,hout⟩ hC
 simp only[push_cast]
 refine zh (fun hlt=>?_) (fun hge=>?_)
 ·have hi':i<xs.length:=by omega
  refine zu fun w2 he2 _=>?_
  have h2:=h1.ext he2
  have hm2:=hm1.ext he2
  have hx2:=Ints.mv hx hm2
  have hy2:=Ints.mv hy hm2
  simp(disch:=first|(simp only[push_cast];done)|omega) only[push_cast,hx2.iaddr,hx2.load,hy2.iaddr,hy2.load,true_and]
  refine Qn h2 (hxs.get hi') (hys.get (by omega)) fun w3 F3 st3 d h3 hm3 hd ho3=>?_
  have hy3:=Ints.mv hy2 hm3
  simp(disch:=first|(simp only[push_cast];done)|omega) only[push_cast,hy3.iaddr,hy3.load,true_and]
  refine bmux_spec h3 hd (hys.get (by omega)) hr1 fun w4 F4 st4 s h4 hm4 hs ho4=>?_
  simp(disch:=omega) only[push_cast,zA]
  refine hC hi' _ _ ⟨F4,st4,s,by simp<;>exact⟨rfl,rfl⟩,h4,hm2.trans (hm3.trans hm4),hs,fun st2 q ho=>hout st2 q ?_⟩
  rw[xq hi',xq (show i<ys.length by omega)]
  exact ZO ho3 (M.Bd.Out.bind ho4 ho)
 ·exact hK w1 F1 st1 r h1 hm1 hr1 (hout st1 r (by rw[qX0 (by omega)];exact M.Bd.Out.ret _ _))
theorem qQ0 {i:Nat} {xs ys:List Int} {r:Int} (h:xs.length≤i):M.sameB (xs.drop i) ys r= .ret r:=by
 rw[List.drop_eq_nil_of_le h];cases ys<;>rfl
theorem bsame_spec {xv yv:Value} {xs ys:List Int} (h:BdR n bb ar ab X F w st) (hx:Ints (Off X F) w xv xs) (hy:Ints (Off X F) w yv ys) (hl:xs.length≤ys.length) (h8:xs.length≤1000) (hxs:SmL xs) (hys:SmL ys)
  (hK:∀w' F' st' r,BdR n bb ar ab X F' w' st'→Mv F w F' w'→Sm r→M.Bd.Out n (M.sameB xs ys 1) st st' r→K (.int .i64 r) w'):
  vcall PP jj #[.pointer (some ⟨bb,0,none⟩),xv,yv] w K:=by
 apply Kl;unfold ZG
 simp(disch:=first|(simp only[push_cast];done)|omega) only[push_cast,hx.len]
 refine vloop_up xs.length (fun i u w'=> ∃F1 st1 r,u=[.int .i64 r,.int .i64 i]∧BdR n bb ar ab X F1 w' st1∧Mv F w F1 w'∧Sm r∧
  ∀st2 q,M.Bd.Out n (M.sameB (xs.drop i) (ys.drop i) r) st1 st2 q→M.Bd.Out n (M.sameB xs ys 1) st st2 q) ⟨F,st,1,rfl,h,Mv.refl,by decide,fun _ _ h=>h⟩ ?_
 rintro i _ g w1 C hi ⟨F1,st1,r,rfl,h1,hm1,hr1,hout⟩ hC
 simp only[push_cast]
 refine zh (fun hlt=>?_) (fun hge=>?_)
 ·have hi':i<xs.length:=by omega
  refine zu fun w2 he2 _=>?_
  have h2:=h1.ext he2
  have hm2:=hm1.ext he2
  have hx2:=Ints.mv hx hm2
  have hy2:=Ints.mv hy hm2
  simp(disch:=first|(simp only[push_cast];done)|omega) only[push_cast,hx2.iaddr,hx2.load,hy2.iaddr,hy2.load,true_and]
  refine Qn h2 (hxs.get hi') (hys.get (by omega)) fun w3 F3 st3 d h3 hm3 hd ho3=>?_
  simp(disch:=omega) only[push_cast,zA,Int.zero_sub]
  refine jN h3 hr1 (by unfold Sm at*;omega) fun w4 F4 st4 s h4 hm4 hs ho4=>?_
  try simp(disch:=omega) only[push_cast,zA]
  refine hC hi' _ _ ⟨F4,st4,s,by simp<;>exact⟨rfl,rfl⟩,h4,hm2.trans (hm3.trans hm4),hs,fun st2 q ho=>hout st2 q ?_⟩
  rw[xq hi',xq (show i<ys.length by omega)]
  exact ZO ho3 (xZ ho4 ho)
 ·exact hK w1 F1 st1 r h1 hm1 hr1 (hout st1 r (by rw[qQ0 (by omega)];exact M.Bd.Out.ret _ _))
theorem Clone_signal {xv:Value} {xs:List Int} (hx:Ints Fx w xv xs) (hsm:xs.length≤1000000) (hK:∀w' v',Ext w w'→OwnI PP za w' v' xs→(∀x,v'.ownBlock=some x→w.heap.size≤x)→K v' w'):
  vcall PP y2 #[xv] w K:=by
 apply qR;unfold xB
 obtain⟨a,c,rfl,hc,hcm,hcell⟩:=hx.shape
 simp only[List.length_map] at hx hc⊢
 rw[VQ xp]
 refine yx (fun hn=>?_) (fun hn=>?_)
 ·cases a with
  |some a=>cases hn
  |none=>
   have hxs:xs=[]:=by
    have h0:(List.map (fun x=>[x]) (List.map (fun x=>Value.int IntKind.i64 x) xs))=[]:=Classical.byContradiction fun h=>by
     obtain⟨b,o,h1,_⟩:=hcell h;cases h1
    simpa using h0
   subst hxs
   exact hK w _ (Same.refl _ _) OwnI.nil fun x hx=>by cases hx
 ·refine qd yN yg fun b w1 hb he hz hB=>?_
  have hown:OwnI PP za w1 (.slice (some ⟨b,0,none⟩) 0 0) []:=Blk.own1 (P:=PP) (t:=za) (cs:=[]) (by rw[xf];exact hB) (Nat.zero_le _) rfl rfl (by omega)
  have hx1:Ints Fx w1 (.slice a xs.length c) xs:=hx.ext he
  refine hown.app yO hx1 (by simp;omega) (by simp;omega) fun v' w2 ho hs hn2=>?_
  have hsz:=he.size
  refine hK w2 v' (Ext.then he hs fun x hx=>by have e:b=x:=Option.some.inj hx;omega) ho fun x hx=>?_
  rcases hn2 x hx with h|h
  ·have e:b=x:=Option.some.inj h;omega
  ·omega
end Go.Proofs.YtaekfnbnhjgboaaGreatDoor
end
section
namespace Go.Proofs.YtaekfnbnhjgboaaGreatDoor
open Go Go.Vc Go.Proofs
variable {w:World} {K:Value→World→Prop} {F F' Fx Fy X:Nat→Prop} {n bc mb bb:Nat} {gs:M.Gs} {v:Value} {ar ab:Addr} {st:Option M.Gs}
def YS0 (n bb:Nat) (ar ab:Addr) (X F:Nat→Prop) (w:World) (f:Value) (p:Int→Int→M.Bd Int):Prop:=
 ∀(w1:World) (F1:Nat→Prop) (st1:Option M.Gs) (x y:Int) (K:Value→World→Prop),BdR n bb ar ab X F1 w1 st1→Mv F w F1 w1→Sm x→Sm y→
  (∀w' F' st' r,BdR n bb ar ab X F' w' st'→Mv F1 w1 F' w'→Sm r→M.Bd.Out n (p x y) st1 st' r→K (.int .i64 r) w')→vcallv PP f #[.int .i64 x,.int .i64 y] w1 K
theorem QK {p:Int→Int→M.Bd Int} {i:Nat} {xs ys:List Int} (h:xs.length≤i):M.eachB p (xs.drop i) ys= .ret []:=by
 rw[List.drop_eq_nil_of_le h];cases ys<;>rfl
theorem each_spec {p:Int→Int→M.Bd Int} {xv yv f:Value} {xs ys:List Int} (h:BdR n bb ar ab X F w st) (hx:Ints (Off X F) w xv xs) (hy:Ints (Off X F) w yv ys) (hl:xs.length≤ys.length) (h8:xs.length≤1000) (hxs:SmL xs) (hys:SmL ys)
  (hf:YS0 n bb ar ab X F w f p)
  (hK:∀w' F' st' r zs,BdR n bb ar ab X F' w' st'→Mv F w F' w'→NewI X w F' w' r zs→SmL zs→M.Bd.Out n (M.eachB p xs ys) st st' zs→K r w'):
  vcall PP jf #[xv,yv,f] w K:=by
 apply UZ;unfold Kw
 simp(disch:=first|(simp only[push_cast];done)|omega) only[push_cast,hx.len]
 refine vloop_up xs.length (fun i u w'=> ∃F1 st1 r zs,u=[r,.int .i64 i]∧BdR n bb ar ab X F1 w' st1∧Mv F w F1 w'∧NewI X w F1 w' r zs∧SmL zs∧zs.length=i∧
  ∀st2 rs,M.Bd.Out n (M.eachB p (xs.drop i) (ys.drop i)) st1 st2 rs→M.Bd.Out n (M.eachB p xs ys) st st2 (zs++rs)) ⟨F,st,_,[],rfl,h,Mv.refl,NewI.nil,SmL.nil,rfl,fun _ _ h=>h⟩ ?_
 rintro i _ g w1 C hi ⟨F1,st1,r,zs,rfl,h1,hm1,hr1,hz1,hzl,hout⟩ hC
 simp only[push_cast]
 refine zh (fun hlt=>?_) (fun hge=>?_)
 ·have hi':i<xs.length:=by omega
  refine zu fun w2 he2 _=>?_
  have h2:=h1.ext he2
  have hm2:=hm1.ext he2
  have hx2:=Ints.mv hx hm2
  have hy2:=Ints.mv hy hm2
  simp(disch:=first|(simp only[push_cast];done)|omega) only[push_cast,hx2.iaddr,hx2.load,hy2.iaddr,hy2.load,true_and]
  refine hf w2 F1 st1 _ _ _ h2 hm2 (hxs.get hi') (hys.get (by omega)) fun w4 F4 st4 s h4 hm4 hs ho4=>?_
  refine yb yN yg yr rfl rfl fun b5 w5 hb5 he5 hz5 hB5=>?_
  have hm5:=(hm2.trans hm4).ext he5
  have h5:=h4.ext he5
  have hr5:NewI X w F4 w5 r zs:=(hr1.mv ((Mv.refl.ext he2).trans hm4)).mv (Mv.refl.ext he5)
  refine hr5.app1 hB5 hm5.same.size h5.lt (by omega) fun r6 w6 hr6 hs6=>?_
  have h6:BdR n bb ar ab X F4 w6 st4:=h5.upd h.err hs6 fun b hb=>hr5.off b hb
  have hm6:Mv F w F4 w6:=hm5.to hs6 fun b hb=> .inr (hr5.off b hb).1
  simp(disch:=omega) only[push_cast,zA]
  refine hC hi' _ _ ⟨F4,st4,r6,zs++[s],by simp<;>exact⟨rfl,rfl⟩,h6,hm6,hr6,hz1.app (SmL.one hs),by simp[hzl],fun st2 rs ho=>?_⟩
  have:=hout st2 (s::rs) ?_
  ·simpa using this
  rw[xq hi',xq (show i<ys.length by omega)]
  exact M.Bd.Out.bind ho4 (M.Bd.Out.map _ ho)
 ·have:=hout st1 [] (by rw[QK (by omega)];exact M.Bd.Out.ret _ _)
  rw[List.append_nil] at this
  exact hK w1 F1 st1 r zs h1 hm1 hr1 hz1 this
theorem negated_spec {xv:Value} {xs:List Int} (hx:Ints Fx w xv xs) (h8:xs.length≤1000) (hxs:SmL xs)
  (hK:∀w' r,Ext w w'→OwnI PP za w' r (M.negL xs)→(∀b,r.ownBlock=some b→w.heap.size≤b)→K r w'):vcall PP qq #[xv] w K:=by
 apply zO0;unfold JI
 apply UZ;unfold Kw
 simp(disch:=first|(simp only[push_cast];done)|omega) only[push_cast,hx.len]
 refine vloop_up xs.length (fun i u w'=> ∃r,u=[r,.int .i64 i]∧Ext w w'∧OwnI PP za w' r (M.negL (xs.take i))∧∀b,r.ownBlock=some b→w.heap.size≤b) ⟨_,rfl,Same.refl _ _,OwnI.nil,fun b hb=>by cases hb⟩ ?_
 rintro i _ g w1 C hi ⟨r,rfl,he1,ho1,hn1⟩ hC
 simp only[push_cast]
 refine zh (fun hlt=>?_) (fun hge=>?_)
 ·have hi':i<xs.length:=by omega
  refine zu fun w2 he2 _=>?_
  have hx2:=hx.ext (he1.trans he2)
  simp(disch:=first|(simp only[push_cast];done)|omega) only[push_cast,hx2.iaddr,hx2.load,true_and]
  refine U2 ?_
  unfold Xv
  have hb:=hxs.get hi'
  simp(disch:=omega) only[push_cast,zA,Int.zero_sub]
  refine yb yN yg yr rfl rfl fun b5 w5 hb5 he5 hz5 hB5=>?_
  have he:=he1.trans (he2.trans he5)
  have hs5:=he.size
  refine(ho1.ext (he2.trans he5)).app1 yO hB5 (by simp[M.negL];omega) (by simp[M.negL];omega) fun r6 w6 ho6 hs6 hn6=>?_
  try simp(disch:=omega) only[push_cast,zA]
  refine hC hi' _ _ ⟨r6,by simp<;>exact⟨rfl,rfl⟩,Ext.then he hs6 fun x hx=>hn1 x hx,?_,fun b hb=>(hn6 b hb).elim (hn1 b) fun h=>by omega⟩
  rw[M.take_add hi' 0]
  unfold M.negL at ho6⊢
  rw[List.map_append];exact ho6
 ·rw[List.take_of_length_le (by omega)] at ho1
  exact hK w1 r he1 ho1 hn1
theorem NewI.of {w':World} {r:Value} {zs:List Int} (h:OwnI PP za w' r zs) (hn:∀b,r.ownBlock=some b→w.heap.size≤b) (hF:∀b,F b∨X b→b<w.heap.size):NewI X w F w' r zs:=
 ⟨h,fun b hb=>⟨hn b hb,fun hf=>by have:=hn b hb;have:=hF b (.inl hf);omega⟩,fun b hb hf=>by have:=hn b hb;have:=hF b (.inr hf);omega⟩
theorem SmL.neg {xs:List Int} (h:SmL xs):SmL (M.negL xs):=fun x hx=>by
 obtain⟨y,hy,rfl⟩:=List.mem_map.1 hx
 have:=h y hy;unfold Sm at*;omega
theorem SmL.offs (m:Nat):SmL (M.offsL m):=fun x hx=>by rw[List.eq_of_mem_replicate hx];decide
end Go.Proofs.YtaekfnbnhjgboaaGreatDoor
end
section
namespace Go.Proofs.YtaekfnbnhjgboaaGreatDoor
open Go Go.Vc Go.Proofs
variable {w:World} {K:Value→World→Prop} {F F' Fx Fy X:Nat→Prop} {n bc mb bb:Nat} {gs:M.Gs} {v:Value} {ar ab:Addr} {st:Option M.Gs}
theorem yo0 {t ty:TypeId} {a:Option Addr} {l c:Nat} (ht:isSl PP t=true):vbi PP .len [t] ty [.slice a l c] w K=K (.int .i64 l) w:=by
 obtain⟨e,he⟩:=yD0 ht
 exact yw (by simp[biSem,Builtin.len_,xP he,goInt])
theorem Ys0 {x:Value}:sl 0 [x]=x:=rfl
theorem u_and {m:Nat} (hm:m<4294967296) {c:Bool}:zo PP .and xg c (.int .u64 m) (.int .u64 4294967295) w K=K (.int .u64 m) w:=by
 have h:=XG (P:=PP) (w:=w) (K:=K) (c:=c) (t:=xg) (a:=m) (b:=4294967295) (by omega) (by decide)
 have e:m&&&4294967295=m:=by
  have:=Nat.and_two_pow_sub_one_eq_mod m 32
  rw[show 2^32-1=4294967295 from rfl] at this
  rw[this];exact Nat.mod_eq_of_lt hm
 rw[e] at h;exact h
theorem u_shr {m:Nat} (hm:m<4294967296) {c:Bool}:zo PP .shr xg c (.int .u64 m) (.int .u64 32) w K=K (.int .u64 0) w:=by
 have h:=qL0 (P:=PP) (w:=w) (K:=K) (c:=c) (t:=xg) (k:= .u64) (yk:= .u64) (x:=m) (y:=32) (by decide)
 have e:(m:Int)/2^min (32:Int).toNat IntKind.u64.bits=0:=by
  rw[show(2:Int)^min (32:Int).toNat IntKind.u64.bits=4294967296 from rfl];omega
 rw[e] at h;exact h
theorem wrapU' {x:Int} (h0:0≤x) (h:x<18446744073709551616):IntKind.u64.wrap x=x:=by
 have:=wrapU (n:=x.toNat) (by omega)
 rwa[show((x.toNat:Nat):Int)=x by omega] at this
theorem Mul_one {m:Nat} (hm:m≤1000) (hK:K (.tuple #[.int .u64 0,.int .u64 m]) w):vcall PP Zl #[.int .u64 1,.int .u64 m] w K:=by
 apply UY;unfold Qr
 apply W5;unfold YD
 have a1:=fun(K:Value→World→Prop)=>u_and (w:=w) (K:=K) (m:=1) (by decide) (c:=true)
 have a2:=fun(K:Value→World→Prop)=>u_shr (w:=w) (K:=K) (m:=1) (by decide) (c:=true)
 have a3:=fun(K:Value→World→Prop)=>u_and (w:=w) (K:=K) (m:=m) (by omega) (c:=true)
 have a4:=fun(K:Value→World→Prop)=>u_shr (w:=w) (K:=K) (m:=m) (by omega) (c:=true)
 have a5:=fun(K:Value→World→Prop)=>u_and (w:=w) (K:=K) (m:=0) (by omega) (c:=true)
 have a6:=fun(K:Value→World→Prop)=>u_shr (w:=w) (K:=K) (m:=0) (by omega) (c:=true)
 simp only[Int.cast_ofNat_Int] at a1 a2 a5 a6
 simp(disch:=omega) only[a1,a2,a3,a4,a5,a6,push_cast,wrapU',Int.one_mul,Int.zero_mul,Int.mul_zero,Int.zero_add,Int.add_zero]
 exact hK
theorem Zo0 {m k:Nat} {a:Value} {r:List Value} (h:k≤m):(List.replicate m a++r).take k=List.replicate k a:=by
 rw[List.take_append_of_le_length (by rw[List.length_replicate];exact h),List.take_replicate,Nat.min_eq_left h]
theorem Zp0 {m k j:Nat} {a:Value} {r:List Value} (h:j=m+k):(List.replicate m a++r).drop j=r.drop k:=by
 subst h
 rw[←List.drop_drop,List.drop_left' (by rw[List.length_replicate])]
theorem Repeat_signal {x:Value} {m:Nat} {b0:Nat} {e0:TypeId} (hB:Blk w b0 [.int .i64 (-1)] e0) (hm:m≤1000) (hK:∀w' r,Ext w w'→OwnI PP za w' r (M.offsL m)→(∀b,r.ownBlock=some b→w.heap.size≤b)→K r w'):
  vcall PP yE #[.slice (some ⟨b0,0,none⟩) 1 1,.int .i64 m] w K:=by
 apply qA;unfold xn
 refine zU (fun u w'=>w'=w) ?_ ?_
 ·intro J hJ
  simp only[push_cast]
  refine zh (fun h=>?_) (fun h=>hJ _ _ rfl)
  omega
 rintro _ _ w' hw
 rw[hw]
 have hl0:∀K:Value→World→Prop,vbi PP .len [za] zc [.slice (some ⟨b0,0,none⟩) 1 1] w K=K (.int .i64 (1:Nat)) w:=fun K=>yo0 xp
 have c1:∀K:Value→World→Prop,Zi PP zc Jq (.int .i64 (1:Nat)) w K=K (.int .u64 (1:Nat)) w:=fun K=>by
  rw[qC xv0 kq0,wrapU (by decide)]
 have c2:∀K:Value→World→Prop,Zi PP zc Jq (.int .i64 m) w K=K (.int .u64 m) w:=fun K=>by
  rw[qC xv0 kq0,wrapU (by omega)]
 have c3:∀K:Value→World→Prop,Zi PP Jq zc (.int .u64 m) w K=K (.int .i64 m) w:=fun K=>by
  rw[qC Yr0 UB,wrapN (by omega)]
 rw[hl0,c1,c2]
 refine Mul_one hm ?_
 simp only[push_cast]
 refine zU (fun u w'=>w'=w) ?_ ?_
 ·intro J hJ
  refine zh (fun h=>?_) (fun h=>?_)
  ·omega
  refine zh (fun h=>?_) (fun h=>hJ _ _ rfl)
  omega
 rintro _ _ w' hw
 rw[hw]
 rw[c3]
 refine vmkS_blk (bs:=8) yO xf yr rfl (by omega) (by omega) fun b w1 hb hB1 he1=>?_
 have hne:b0≠b:=by have:=hB.lt;omega
 have step:∀(k:Nat) (w2:World) (J:Value→World→Prop),0<m→k<m→Ext w w2→Blk w2 b (List.replicate k (.int .i64 (-1))++List.replicate (m-k) (.int .i64 0)) zq→∀(src:Addr) (sc sl:Nat) (ds:Nat),
   (∀j u,(List.replicate (min sl (m-k)) (Value.int .i64 (-1)))[j]?=some u→w2.cell? (src.add j)=some u)→
   (∀w3,Ext w w3→Blk w3 b (List.replicate (k+min sl (m-k)) (.int .i64 (-1))++List.replicate (m-(k+min sl (m-k))) (.int .i64 0)) zq→J (.int .i64 (min sl (m-k):Nat)) w3)→
   vbi PP .copy [za,za] zc [.slice (some ⟨b,k,none⟩) (m-k) ds,.slice (some src) sl sc] w2 J:=by
  intro k w2 J h0 hk he2 hB2 src sc sl ds hsrc hJ
  refine vcopy (cs:=List.replicate (min sl (m-k)) (.int .i64 (-1))) xb hB2 (by rw[List.length_replicate]) hsrc (by simp only[List.length_replicate,List.length_append];omega) (fun u hu=>by rw[List.eq_of_mem_replicate hu];rfl) fun w3 hs3 hz3 hB3=>?_
  rw[List.length_replicate]
  refine hJ w3 (Ext.then he2 hs3 fun x hx=>by omega) ?_
  rw[Zo0 (Nat.le_refl _),Zp0 (m:=k) (k:=min sl (m-k)) (by rw[List.length_replicate]),List.drop_replicate,←List.append_assoc,List.replicate_append_replicate] at hB3
  rw[show m-(k+min sl (m-k))=m-k-min sl (m-k) by omega]
  exact hB3
 have fin:∀(w2:World) (u:Value),Ext w w2→Blk w2 b (List.replicate m (.int .i64 (-1))) zq→K (.slice (some ⟨b,0,none⟩) m m) w2:=fun w2 _ he2 hB2=>by
  refine hK w2 _ he2 ?_ fun x hx=>by have e:b=x:=Option.some.inj hx;omega
  have:=Blk.own1 (P:=PP) (t:=za) (base:=0) (n:=m) (c:=m) (cs:=List.replicate m (.int .i64 (-1))) (by rw[xf];exact hB2) (Nat.zero_le _) (by rw[List.length_replicate]) (by rw[List.length_replicate]) (by omega)
  unfold OwnI OwnV M.offsL
  rw[List.map_replicate]
  exact this
 have loop:∀(k:Nat) (w2:World),Ext w w2→Blk w2 b (List.replicate k (.int .i64 (-1))++List.replicate (m-k) (.int .i64 0)) zq→k≤m→(1≤k∨m=0)→
   yG [.int .i64 k] w2 fun C u_2 _ w_18=>
    vbi PP .len [za] zc [.slice (some ⟨b,0,none⟩) m m] w_18 fun t36 w_19=>
    zo PP .lss zc false (sl 0 u_2) t36 w_19 fun t37 w_20=>
    vif t37 (
     y1 w_20 fun w_21=>
     yp PP za (.slice (some ⟨b,0,none⟩) m m) (some (sl 0 u_2)) none none w_21 fun t41 w_22=>w_22=w_21∧
     yp PP za (.slice (some ⟨b,0,none⟩) m m) none (some (sl 0 u_2)) none w_21 fun t44 w_23=>w_23=w_21∧
     vbi PP .copy [za,za] zc [t41,t44] w_21 fun t45 w_24=>
     zo PP .add zc false (sl 0 u_2) t45 w_24 fun t46 w_25=>w_25=w_24∧
     C [t46] w_24) (
     K (.slice (some ⟨b,0,none⟩) m m) w_20):=by
  intro k0 w2 he2 hB2 hk0 h1
  refine ZP (fun r u w'=> ∃k:Nat,u=[.int .i64 k]∧r=m-k∧k≤m∧(1≤k∨m=0)∧Ext w w'∧Blk w' b (List.replicate k (.int .i64 (-1))++List.replicate (m-k) (.int .i64 0)) zq) (m-k0) ⟨k0,rfl,rfl,hk0,h1,he2,hB2⟩ ?_
  rintro r _ g w3 C ⟨k,rfl,rfl,hk,h1,he3,hB3⟩ hC
  rw[yo0 xp]
  simp only[push_cast]
  refine zh (fun hlt=>?_) (fun hge=>?_)
  ·have hlt':k<m:=by omega
   refine zu fun w4 he4 _=>?_
   have hB4:=hB3.ext he4
   simp only[Ys0,blk_from xb (show k≤m by omega),blk_to xb (show k≤m by omega),true_and]
   rw[if_neg (by omega)]
   refine step k w4 _ (by omega) hlt' (he3.trans he4) hB4 ⟨b,0,none⟩ m k _ (fun j u hj=>?_) fun w5 he5 hB5=>?_
   ·have hjl:j<min k (m-k):=by have:=(List.getElem?_eq_some_iff.1 hj).1;rwa[List.length_replicate] at this
    rw[x8]
    refine hB4.cell ?_
    rw[Nat.zero_add,List.getElem?_append_left (by rw[List.length_replicate];omega)]
    rw[List.getElem?_replicate,if_pos (by omega)] at hj⊢
    exact hj
   ·simp(disch:=omega) only[push_cast,zA,true_and]
    exact hC (m-(k+min k (m-k))) _ _ (by omega) ⟨k+min k (m-k),by simp<;>rfl,rfl,by omega,by omega,he5,hB5⟩
  ·have:k=m:=by omega
   subst this
   rw[Nat.sub_self,List.replicate_zero,List.append_nil] at hB3
   exact fin w3 undef he3 hB3
 by_cases h0:m=0
 ·subst h0
  rw[ja0 xb rfl]
  exact loop 0 w1 he1 hB1 (Nat.le_refl _) (.inr rfl)
 ·refine step 0 w1 _ (by omega) (by omega) he1 (by simpa using hB1) ⟨b0,0,none⟩ 1 1 m (fun j u hj=>?_) fun w2 he2 hB2=>?_
  ·have hjl:j<min 1 (m-0):=by have:=(List.getElem?_eq_some_iff.1 hj).1;rwa[List.length_replicate] at this
   have hj0:j=0:=by omega
   subst hj0
   rw[List.getElem?_replicate,if_pos (by omega)] at hj
   rw[x8]
   exact(hB.ext he1).cell hj
  ·exact loop _ w2 he2 (by simpa using hB2) (by omega) (.inl (by omega))
theorem offs_spec {m:Nat} (hm:m≤1000) (hK:∀w' r,Ext w w'→OwnI PP za w' r (M.offsL m)→(∀b,r.ownBlock=some b→w.heap.size≤b)→K r w'):vcall PP qH #[.int .i64 m] w K:=by
 apply qH0;unfold zg0
 refine yb yN yg yr rfl rfl fun b w1 hb he1 hz1 hB1=>?_
 have:=he1.size
 exact Repeat_signal (x:=undef) hB1 hm fun w2 r he2 ho hn=>hK w2 r (he1.trans he2) ho fun x hx=>by have:=hn x hx;omega
end Go.Proofs.YtaekfnbnhjgboaaGreatDoor
end
