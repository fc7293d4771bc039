import Derived.Test.YtaekfnbnhjgboaaGreatDoorWudP5
import Derived.Test.YtaekfnbnhjgboaaGreatDoorWudP2
import Derived.Test.YtaekfnbnhjgboaaGreatDoorWudP1
import Derived.Laws.CopyRow
import Derived.Laws.IdiomCopy
/- A part of the proof. -/
set_option linter.unusedVariables false
set_option linter.unusedSimpArgs false
set_option linter.unnecessarySimpa false
set_option linter.unusedSectionVars false
section
namespace Go.M
def bitsN (w a:Nat):List Bool:=(List.range w).map fun i=>decide (a/2^i%2=1)
theorem bitsN_len (w a:Nat):(bitsN w a).length=w:=by unfold bitsN;rw[List.length_map,List.length_range]
theorem bitsN_get {w a i:Nat} (h:i<w) (d:Bool):(bitsN w a).getD i d=decide (a/2^i%2=1):=by
 unfold bitsN
 rw[List.getD_eq_getElem?_getD,List.getElem?_map,List.getElem?_range h];rfl
def K7 (w n:Int):List Bool:=if w=0 then[decide (n=1)] else bitsN w.toNat n.toNat
theorem valB_len {w n:Int} (h:0≤w):(K7 w n).length=(max 1 w).toNat:=by
 unfold K7
 split
 ·next e=>rw[e];rfl
 ·rw[bitsN_len];omega
theorem un_bits {op w a:Int} (c:op=1∨op=2) (h:vok w a=true):unV op (K7 w a)=K7 w (unM op w a):=by
 have hw:=vok_lt h
 unfold K7
 rw[if_neg (by omega),if_neg (by omega)]
 have b:∀w:Fin 5,∀n:Fin 16,1≤w.1→n.1<2^w.1→unV 1 (bitsN w n)=bitsN w (unM 1 w n).toNat∧unV 2 (bitsN w n)=bitsN w (unM 2 w n).toNat:=by decide+kernel
 have:=small1 (p:=fun w n=>unV 1 (bitsN w n)=bitsN w (unM 1 w n).toNat∧unV 2 (bitsN w n)=bitsN w (unM 2 w n).toNat) b h
 rw[show((w.toNat:Nat):Int)=w by omega,show((a.toNat:Nat):Int)=a by omega] at this
 rcases c with rfl|rfl
 ·exact this.1
 ·exact this.2
def Jw0 (op w:Nat):Bool:=(List.range 16).all fun a=>(List.range 16).all fun b=> !(decide (a<2^w)&&decide (b<2^w))||decide (Ju0 op (bitsN w a) (bitsN w b)=bitsN w (binN op w a b))
theorem bin_bits {op w a b:Int} (n:3≤op) (d:op≤13) (j:vok w a=true) (k:vok w b=true):Ju0 op (K7 w a) (K7 w b)=K7 w (QM0 op w a b):=by
 obtain⟨l,m,p,q⟩:=vok_iff.1 j
 obtain⟨_,_,g,i⟩:=vok_iff.1 k
 have e:((2^w.toNat:Nat):Int)=2^w.toNat:=by simp
 have f:2^w.toNat≤2^4:=Nat.pow_le_pow_right (by omega) (by omega)
 have c:∀o:Fin 14,∀v:Fin 5,3≤o.1→1≤v.1→Jw0 o v=true:=by decide+kernel
 have:=c ⟨op.toNat,by omega⟩ ⟨w.toNat,by omega⟩ (by show 3≤op.toNat;omega) (by show 1≤w.toNat;omega)
 simp only[Jw0,List.all_eq_true,List.mem_range,Bool.or_eq_true,Bool.not_eq_true',Bool.and_eq_false_iff,decide_eq_false_iff_not,decide_eq_true_eq] at this
 unfold K7
 rw[if_neg (by omega),if_neg (by omega),if_neg (by omega)]
 rcases this a.toNat (by omega) b.toNat (by omega) with(h|h)|h
 ·exact absurd (by omega) h
 ·exact absurd (by omega) h
 ·rw[show((op.toNat:Nat):Int)=op by omega] at h
  rw[h];unfold QM0;rw[Int.toNat_natCast]
def Js0 (op w:Nat):Bool:=(List.range 16).all fun a=>(List.range 16).all fun b=> !(decide (a<2^w)&&decide (b<2^w))||(cmpV op (bitsN w a) (bitsN w b)==cmpM op w a b)
theorem cmp_bits {op w a b:Int} (n:15≤op) (d:op≤17) (j:vok w a=true) (k:vok w b=true):cmpV op (K7 w a) (K7 w b)=cmpM op w a b:=by
 obtain⟨l,m,p,q⟩:=vok_iff.1 j
 obtain⟨_,_,g,i⟩:=vok_iff.1 k
 have e:((2^w.toNat:Nat):Int)=2^w.toNat:=by simp
 have f:2^w.toNat≤2^4:=Nat.pow_le_pow_right (by omega) (by omega)
 have c:∀o:Fin 18,∀v:Fin 5,15≤o.1→1≤v.1→Js0 o v=true:=by decide+kernel
 have:=c ⟨op.toNat,by omega⟩ ⟨w.toNat,by omega⟩ (by show 15≤op.toNat;omega) (by show 1≤w.toNat;omega)
 simp only[Js0,List.all_eq_true,List.mem_range,Bool.or_eq_true,Bool.not_eq_true',Bool.and_eq_false_iff,decide_eq_false_iff_not,beq_iff_eq] at this
 unfold K7
 rw[if_neg (by omega),if_neg (by omega)]
 rcases this a.toNat (by omega) b.toNat (by omega) with(h|h)|h
 ·exact absurd (by omega) h
 ·exact absurd (by omega) h
 ·rwa[show((op.toNat:Nat):Int)=op by omega,show((w.toNat:Nat):Int)=w by omega,show((a.toNat:Nat):Int)=a by omega,show((b.toNat:Nat):Int)=b by omega] at h
def Jt0 (w v:Nat):Bool:=(List.range 16).all fun a=>(List.range 16).all fun b=> !(decide (a<2^w)&&decide (b<2^v))||decide (bitsN v b++bitsN w a=bitsN (w+v) (a*2^v+b))
theorem cat_bits {w v a b:Int} (k:vok w a=true) (l:vok v b=true) (hs:w+v≤4):K7 v b++K7 w a=K7 (w+v) (Qf0 v a b):=by
 obtain⟨m,n,o,p⟩:=vok_iff.1 k
 obtain⟨q,r,i,j⟩:=vok_iff.1 l
 have e:((2^w.toNat:Nat):Int)=2^w.toNat:=by simp
 have f:((2^v.toNat:Nat):Int)=2^v.toNat:=by simp
 have g:2^w.toNat≤2^4:=Nat.pow_le_pow_right (by omega) (by omega)
 have d:2^v.toNat≤2^4:=Nat.pow_le_pow_right (by omega) (by omega)
 have c:∀w:Fin 5,∀v:Fin 5,1≤w.1→1≤v.1→w.1+v.1≤4→Jt0 w v=true:=by decide+kernel
 have:=c ⟨w.toNat,by omega⟩ ⟨v.toNat,by omega⟩ (by show 1≤w.toNat;omega) (by show 1≤v.toNat;omega) (by show w.toNat+v.toNat≤4;omega)
 simp only[Jt0,List.all_eq_true,List.mem_range,Bool.or_eq_true,Bool.not_eq_true',Bool.and_eq_false_iff,decide_eq_false_iff_not,decide_eq_true_eq] at this
 unfold K7
 rw[if_neg (by omega),if_neg (by omega),if_neg (by omega)]
 rcases this a.toNat (by omega) b.toNat (by omega) with(h|h)|h
 ·exact absurd (by omega) h
 ·exact absurd (by omega) h
 ·rw[h,show(w+v).toNat=w.toNat+v.toNat by omega]
  congr 1
  unfold Qf0
  have:((a.toNat*2^v.toNat+b.toNat:Nat):Int)=a*2^v.toNat+b:=by
   rw[Int.natCast_add,Int.natCast_mul,f,show((a.toNat:Nat):Int)=a by omega,show((b.toNat:Nat):Int)=b by omega]
  omega
def Jr0 (w:Nat):Bool:=(List.range 16).all fun a=>(List.range 4).all fun hi=>(List.range 4).all fun lo=> !(decide (a<2^w)&&decide (lo≤hi)&&decide (hi<w))||decide (((bitsN w a).drop lo).take (hi-lo+1)=bitsN (hi-lo+1) (a/2^lo%2^(hi-lo+1)))
theorem cut_bits {w a hi lo:Int} (d:vok w a=true) (f:0≤lo) (l:lo≤hi) (hw:hi<w):((K7 w a).drop lo.toNat).take (hi-lo+1).toNat=K7 (hi-lo+1) (cutM a hi lo):=by
 obtain⟨g,i,j,k⟩:=vok_iff.1 d
 have e:((2^w.toNat:Nat):Int)=2^w.toNat:=by simp
 have c:2^w.toNat≤2^4:=Nat.pow_le_pow_right (by omega) (by omega)
 have b:∀w:Fin 5,1≤w.1→Jr0 w=true:=by decide+kernel
 have:=b ⟨w.toNat,by omega⟩ (by show 1≤w.toNat;omega)
 simp only[Jr0,List.all_eq_true,List.mem_range,Bool.or_eq_true,Bool.not_eq_true',Bool.and_eq_false_iff,decide_eq_false_iff_not,decide_eq_true_eq] at this
 unfold K7
 rw[if_neg (by omega),if_neg (by omega)]
 rcases this a.toNat (by omega) hi.toNat (by omega) lo.toNat (by omega) with((h|h)|h)|h
 ·exact absurd (by omega) h
 ·exact absurd (by omega) h
 ·exact absurd (by omega) h
 ·rw[show(hi-lo+1).toNat=hi.toNat-lo.toNat+1 by omega,h]
  congr 1
  unfold cutM
  rw[show(hi-lo+1).toNat=hi.toNat-lo.toNat+1 by omega]
  have:((a.toNat/2^lo.toNat%2^(hi.toNat-lo.toNat+1):Nat):Int)=a/2^lo.toNat%2^(hi.toNat-lo.toNat+1):=by
   rw[Int.natCast_emod,Int.natCast_ediv,show((a.toNat:Nat):Int)=a by omega]
   simp
  omega
def insM:List Dcl→List Int→List Bool
 |d::ds,n::env=>(bitsN d.2.toNat n.toNat).reverse++insM ds env
 |_,_=>[]
def nameB (ds:List Dcl) (k:Nat):List Int:=(List.range ((ds.getD k (nada,0)).2).toNat).map fun(j:Nat)=>2+bits (ds.take k)+(ds.getD k (nada,0)).2-1-j
def fixB (w n:Int):List Int:=(List.range w.toNat).map fun(j:Nat)=>if n.toNat/2^j%2=1 then 1 else-1
def nodeB (ds:List Dcl) (t:Tm) (rs:List (List Int)):Bd (List Int):=
 if t.op=20 then .ret (fixB t.a t.b)
 else if t.op=21 then .ret (nameB ds (findD ds t.s).toNat)
 else if t.op=24 then .ret [1]
 else if t.op=25 then .ret [-((rs.getD 0 []).getD 0 0)]
 else if t.op=26 then .and ((rs.getD 0 []).getD 0 0) ((rs.getD 1 []).getD 0 0) fun v=> .ret [v]
 else if t.op=27 then(orB ((rs.getD 0 []).getD 0 0) ((rs.getD 1 []).getD 0 0)).map fun v=>[v]
 else if t.op=23 then eachB (muxB ((rs.getD 0 []).getD 0 0)) (rs.getD 1 []) (rs.getD 2 [])
 else if t.op=22 then .ret (((rs.getD 0 []).drop t.b.toNat).take (t.a-t.b+1).toNat)
 else if t.op≤2 then unB t.op (rs.getD 0 [])
 else if 15≤t.op∧t.op≤17 then(cmpB t.op (rs.getD 0 []) (rs.getD 1 [])).map fun v=>[v]
 else binB t.op (rs.getD 0 []) (rs.getD 1 [])
def seqB:List (Bd (List Int))→Bd (List (List Int))
 |p::ps=>p.bind fun r=>(seqB ps).map (r:: ·)
 |[]=> .ret []
def termB (ds:List Dcl):Tm→Bd (List Int):=Tm.fold fun t ps=>(seqB ps).bind (nodeB ds t)
theorem termB_eq (ds:List Dcl) (t:Tm):termB ds t=(seqB (t.ks.map (termB ds))).bind (nodeB ds t):=Tm.fold_eq _ t
theorem Kh (d:Dcl) (ds:List Dcl):bits (d::ds)=d.2+bits ds:=by unfold bits;rw[List.map_cons,List.sum_cons]
theorem insM_len:∀{ds:List Dcl} {env:List Int},env.length=ds.length→(∀d,d∈ds→0≤d.2)→((insM ds env).length:Int)=bits ds
 |[],env,_,_=>by cases env<;>rfl
 |d::ds,[],a,_=>by simp at a
 |d::ds,n::env,a,b=>by
  have f:=insM_len (ds:=ds) (env:=env) (by simpa using a) fun x c=>b x (List.mem_cons_of_mem _ c)
  have e:=b d List.mem_cons_self
  simp only[insM,List.length_append,List.length_reverse,bitsN_len,Kh]
  omega
theorem bits_pos' {ds:List Dcl}:(∀d,d∈ds→0≤d.2)→0≤bits ds:=by
 induction ds with
 |nil=>intro _;exact Int.le_refl _
 |cons d ds b=>
  intro h
  have:=h d List.mem_cons_self
  have:=b fun x a=>h x (List.mem_cons_of_mem _ a)
  rw[Kh];omega
theorem insM_get:∀{ds:List Dcl} {env:List Int} {k i:Nat},env.length=ds.length→(∀d,d∈ds→0≤d.2)→k<ds.length→(i:Int)<(ds.getD k (nada,0)).2→
  (insM ds env).getD ((bits (ds.take k)).toNat+i) false=decide ((env.getD k 0).toNat/2^((ds.getD k (nada,0)).2.toNat-1-i)%2=1)
 |d::ds,n::env,0,i,e,f,c,hi=>by
  have b:i<d.2.toNat:=by have:(i:Int)<d.2:=hi;omega
  show((bitsN d.2.toNat n.toNat).reverse++insM ds env).getD (0+i) false=decide (n.toNat/2^(d.2.toNat-1-i)%2=1)
  rw[Nat.zero_add,List.getD_eq_getElem?_getD,List.getElem?_append_left (by rw[List.length_reverse,bitsN_len];exact b),List.getElem?_reverse (by rw[bitsN_len];exact b),bitsN_len,←List.getD_eq_getElem?_getD,bitsN_get (by omega)]
 |d::ds,n::env,k+1,i,e,f,c,hi=>by
  have a:∀x,x∈ds→0≤x.2:=fun x g=>f x (List.mem_cons_of_mem _ g)
  have h:=insM_get (ds:=ds) (env:=env) (k:=k) (i:=i) (by simpa using e) a (by simpa using c) (by simpa using hi)
  have j:=f d List.mem_cons_self
  have l:=bits_pos' (ds:=ds.take k) fun x g=>a x (List.mem_of_mem_take g)
  show((bitsN d.2.toNat n.toNat).reverse++insM ds env).getD ((bits (d::ds.take k)).toNat+i) false=_
  rw[Kh,List.getD_eq_getElem?_getD,List.getElem?_append_right (by rw[List.length_reverse,bitsN_len];omega),←List.getD_eq_getElem?_getD,List.length_reverse,bitsN_len,show(d.2+bits (ds.take k)).toNat+i-d.2.toNat=(bits (ds.take k)).toNat+i by omega,h]
  simp only[List.getD_cons_succ]
 |[],_,_,_,_,_,c,_=>by simp at c
 |_::_,[],_,_,e,_,_,_=>by simp at e
section
variable {ρ:Int→Bool} {ds:List Dcl} {env:List Int}
def Ins (ρ:Int→Bool) (ds:List Dcl) (env:List Int):Prop:=∀i:Nat,i<(insM ds env).length→ρ (2+i)=(insM ds env).getD i false
theorem dpos (h:declOk ds=true):∀d,d∈ds→0≤d.2:=fun d b=>by
 obtain⟨j,a,rfl⟩:=List.getElem_of_mem b
 have:=dcl_wide h a
 rw[List.getD_eq_getElem?_getD,List.getElem?_eq_getElem a] at this
 simp at this;omega
theorem bits_le {k:Nat} (h:declOk ds=true) (b:k<ds.length):bits (ds.take k)+(ds.getD k (nada,0)).2≤bits ds∧0≤bits (ds.take k):=by
 have c:=dpos h
 have e:bits ds=bits (ds.take k)+bits (ds.drop k):=by
  unfold bits
  rw[←List.sum_append,←List.map_append,List.take_append_drop]
 have d:ds.drop k=ds.getD k (nada,0)::ds.drop (k+1):=by
  rw[List.drop_eq_getElem_cons b,List.getD_eq_getElem?_getD,List.getElem?_eq_getElem b];rfl
 have f:=bits_pos' (ds:=ds.drop (k+1)) fun x a=>c x (List.mem_of_mem_drop a)
 rw[d,Kh] at e
 exact⟨by omega,bits_pos' fun x a=>c x (List.mem_of_mem_take a)⟩
theorem name_has {k m:Nat} (h:declOk ds=true) (c:k<ds.length) (hm:1+bits ds≤m):hasL m (nameB ds k):=fun x d=>by
 obtain⟨j,a,rfl⟩:=List.mem_map.1 d
 have b:=List.mem_range.1 a
 have:=bits_le h c
 exact⟨by omega,by omega,by omega⟩
theorem name_bits (he:envOk ds env=true) (hi:Ins ρ ds env) {k:Nat} (b:k<ds.length):(nameB ds k).map ρ=bitsN ((ds.getD k (nada,0)).2).toNat (env.getD k 0).toNat:=by
 obtain⟨a,c,h⟩:=env_ok he
 have g:=bits_le a b
 have hlen:=insM_len c (dpos a)
 unfold nameB bitsN
 rw[List.map_map]
 refine List.map_congr_left fun j d=>?_
 have f:=List.mem_range.1 d
 have e:(2+bits (ds.take k)+(ds.getD k (nada,0)).2-1-(j:Int))=2+(((bits (ds.take k)).toNat+((ds.getD k (nada,0)).2.toNat-1-j):Nat):Int):=by omega
 show ρ (2+bits (ds.take k)+(ds.getD k (nada,0)).2-1-(j:Int))=_
 rw[e,hi _ (by omega),insM_get c (dpos a) b (by omega)]
 rw[show(ds.getD k (nada,0)).2.toNat-1-((ds.getD k (nada,0)).2.toNat-1-j)=j by omega]
theorem QF0 {k:Nat} {w n:Int} (a:1≤k):hasL k (fixB w n):=fun x b=>by
 obtain⟨j,_,rfl⟩:=List.mem_map.1 b
 split
 ·exact has_one a
 ·exact has_mone a
theorem XH0 (h:Rho ρ) {w n:Int}:(fixB w n).map ρ=bitsN w.toNat n.toNat:=by
 unfold fixB bitsN
 rw[List.map_map]
 refine List.map_congr_left fun j _=>?_
 show ρ (if _ then _ else _)=_
 split
 ·next e=>rw[h.one,decide_eq_true e]
 ·next e=>rw[h.mone,decide_eq_false e]
theorem seq_sat {k0:Nat} {f:Tm→Bd (List Int)} {g:Tm→List Bool}:∀{ks:List Tm} {k:Nat} {Q:Nat→List (List Int)→Prop},k0≤k→(∀t,t∈ks→∀{k:Nat} {Q:Nat→List Int→Prop},k0≤k→(∀a r,k≤a→hasL a r→r.map ρ=g t→Q a r)→Says ρ k (f t) Q)→
  (∀a rs,k≤a→(∀r,r∈rs→hasL a r)→rs.map (fun r=>r.map ρ)=ks.map g→Q a rs)→Says ρ k (seqB (ks.map f)) Q:=by
 intro ks
 induction ks with
 |nil=>intro k Q _ _ b;exact b k [] (Nat.le_refl _) (fun r c=>by cases c) rfl
 |cons t ks l=>
  intro k Q j h b
  refine Says.bind (h t List.mem_cons_self j fun o r n c rr=>?_)
  refine Says.bind (l (by omega) (fun u hu=>h u (List.mem_cons_of_mem _ hu)) fun m rs i d rrs=>?_)
  refine b m (r::rs) (by omega) (fun x e=>?_) (by rw[List.map_cons,List.map_cons,rr,rrs])
  rcases List.mem_cons.1 e with rfl|e
  ·exact c.mono i
  ·exact d x e
theorem Wj (n:Int):K7 0 n=[decide (n=1)]:=rfl
theorem head_rho {r:List Int} {b:Bool} (h:r.map ρ=[b]):r.length=1∧ρ (r.getD 0 0)=b:=by
 match r,h with
 |[x],h=>exact⟨rfl,by simpa using h⟩
theorem node_sat (h:Rho ρ) (he:envOk ds env=true) (hi:Ins ρ ds env) {t:Tm} (hs:sortM ds t≠ -1) {k:Nat} (hk:1+bits ds≤k) {rs:List (List Int)} (a1:∀r,r∈rs→hasL k r)
  (J:rs.map (fun r=>r.map ρ)=t.ks.map fun u=>K7 (sortM ds u) (evalM ds env u)) {Q:Nat→List Int→Prop}
  (j:∀z r,k≤z→hasL z r→r.map ρ=K7 (sortM ds t) (evalM ds env t)→Q z r):Says ρ k (nodeB ds t rs) Q:=by
 obtain⟨hd,P,Z⟩:=env_ok he
 obtain⟨hf,a6,a2⟩:=sort_parts hs
 have a4:0≤bits ds:=bits_pos' (dpos hd)
 have G:1≤k:=by omega
 simp only[formed,Bool.and_eq_true,decide_eq_true_eq] at hf
 obtain⟨n,a8⟩:=hf
 have a3:=arity_ops (o:=t.op) (by omega)
 have a7:rs.length=t.ks.length:=by have:=congrArg List.length J;simpa using this
 have q:∀i,i<t.ks.length→(t.ks.map (sortM ds)).getD i 0=sortM ds (kid t i):=fun i hi=>getD_map _ hi _ _
 have E:∀i,i<t.ks.length→(t.ks.map (vecM ds env)).getD i (0,0)=(sortM ds (kid t i),evalM ds env (kid t i)):=fun i hi=>by
  rw[getD_map _ hi _ default,vecM_pair];rfl
 have H:∀i,i<t.ks.length→inS (sortM ds (kid t i)) (evalM ds env (kid t i)):=fun i hi=>JB he hs hi
 have K:∀i,i<t.ks.length→hasL k (rs.getD i [])∧(rs.getD i []).map ρ=K7 (sortM ds (kid t i)) (evalM ds env (kid t i)):=fun i w=>by
  refine⟨a1 _ (getD_mem (by omega) _),?_⟩
  have e:=congrArg (fun l=>l.getD i []) J
  rw[getD_map _ (by omega) [] [],getD_map _ w [] default] at e
  exact e
 have d:=evalM_eq ds env t
 rw[a2] at hs j
 unfold sortK at hs j
 unfold valK at d
 unfold nodeB
 by_cases V:t.op=20
 ·simp only[V,if_true] at hs j d⊢
  by_cases hv':vok t.a t.b=true
  ·rw[if_pos hv'] at hs j
   have:=vok_lt hv'
   refine j k _ (Nat.le_refl _) (QF0 G) ?_
   rw[XH0 h,d]
   unfold K7
   rw[if_neg (by omega)]
  ·rw[if_neg hv'] at hs;exact absurd rfl hs
 simp only[if_neg V] at hs j d⊢
 by_cases W:t.op=21
 ·simp only[W,if_true] at hs j d⊢
  have a5:=findD_lt ds t.s
  by_cases R:findD ds t.s<0
  ·rw[if_pos R] at hs;exact absurd rfl hs
  ·rw[if_neg R] at hs j
   have hj:(findD ds t.s).toNat<ds.length:=by omega
   have hw:=dcl_wide hd hj
   refine j k _ (Nat.le_refl _) (name_has hd hj hk) ?_
   rw[name_bits he hi hj,d]
   unfold K7
   rw[if_neg (by omega)]
 simp only[if_neg W] at hs j d⊢
 by_cases X:24≤t.op
 ·simp only[if_pos X] at hs j
  by_cases R:(t.ks.map (sortM ds)).any (fun x=>decide (x≠0))=true
  ·rw[if_pos R] at hs;exact absurd rfl hs
  ·rw[if_neg R] at hs j
   have hz:∀i,i<t.ks.length→sortM ds (kid t i)=0:=fun i w=>by
    simp only[List.any_eq_true,decide_eq_true_eq,not_exists,not_and,Decidable.not_not] at R
    exact R _ (List.mem_map_of_mem (getD_mem w _))
   have Y:∀i,i<t.ks.length→has k ((rs.getD i []).getD 0 0)∧ρ ((rs.getD i []).getD 0 0)=decide (evalM ds env (kid t i)=1)∧(evalM ds env (kid t i)=0∨evalM ds env (kid t i)=1):=fun i w=>by
    obtain⟨I,F⟩:=K i w
    rw[hz i w,Wj] at F
    obtain⟨l1,l2⟩:=head_rho F
    have U:=H i w
    rw[hz i w] at U
    exact⟨Ke I (by omega) 0,l2,inS_zero U⟩
   simp only[Wj] at j
   rcases(by omega:t.op=24∨t.op=25∨t.op=26∨t.op=27) with e|e|e|e
   ·rw[if_pos e] at d⊢
    exact j k _ (Nat.le_refl _) (hasL_cons.2 ⟨has_one G,fun x q=>by cases q⟩) (by rw[List.map_singleton,h.one,d];rfl)
   ·rw[if_neg (by omega),if_pos e] at d⊢
    have h1:t.ks.length=1:=by rw[e] at n;simp[arity] at n;omega
    obtain⟨b1,b2,b3⟩:=Y 0 (by omega)
    rw[E 0 (by omega)] at d
    refine j k _ (Nat.le_refl _) (hasL_cons.2 ⟨has_neg b1,fun x q=>by cases q⟩) ?_
    rw[List.map_singleton,h.neg _ b1.1,b2,d]
    rcases b3 with b3|b3<;>simp only[b3]<;>rfl
   ·rw[if_neg (by omega),if_neg (by omega),if_pos e] at d⊢
    have h1:t.ks.length=2:=by rw[e] at n;simp[arity] at n;omega
    obtain⟨b1,b2,b3⟩:=Y 0 (by omega)
    obtain⟨c1,c2,c3⟩:=Y 1 (by omega)
    rw[E 0 (by omega),E 1 (by omega)] at d
    refine⟨b1,c1,fun z v p Z T=>j z _ p (hasL_cons.2 ⟨Z,fun x q=>by cases q⟩) ?_⟩
    rw[List.map_singleton,T,b2,c2,d]
    rcases b3 with b3|b3<;>rcases c3 with c3|c3<;>simp only[b3,c3]<;>rfl
   ·rw[if_neg (by omega),if_neg (by omega),if_neg (by omega),if_pos e] at d⊢
    have h1:t.ks.length=2:=by rw[e] at n;simp[arity] at n;omega
    obtain⟨b1,b2,b3⟩:=Y 0 (by omega)
    obtain⟨c1,c2,c3⟩:=Y 1 (by omega)
    rw[E 0 (by omega),E 1 (by omega)] at d
    refine Says.bind (kP0 h b1 c1 fun z v p Z T=>j z _ p (hasL_cons.2 ⟨Z,fun x q=>by cases q⟩) ?_)
    rw[List.map_singleton,T,b2,c2,d]
    rcases b3 with b3|b3<;>rcases c3 with c3|c3<;>simp only[b3,c3]<;>rfl
 simp only[if_neg X,if_neg (show¬t.op=24 by omega),if_neg (show¬t.op=25 by omega),if_neg (show¬t.op=26 by omega),if_neg (show¬t.op=27 by omega)] at hs j d⊢
 by_cases O:t.op=23
 ·simp only[O,if_true] at hs j d⊢
  have U:t.ks.length=3:=by rw[O] at n;simp[arity] at n;omega
  rw[q 0 (by omega),q 1 (by omega),q 2 (by omega)] at hs j
  rw[E 0 (by omega),E 1 (by omega),E 2 (by omega)] at d
  by_cases m:sortM ds (kid t 0)=0∧sortM ds (kid t 1)=sortM ds (kid t 2)
  ·rw[if_pos m] at hs j
   obtain⟨I,F⟩:=K 0 (by omega)
   obtain⟨p1,p2⟩:=K 1 (by omega)
   obtain⟨q1,q2⟩:=K 2 (by omega)
   rw[m.1,Wj] at F
   obtain⟨l1,l2⟩:=head_rho F
   have a0:has k ((rs.getD 0 []).getD 0 0):=Ke I (by omega) 0
   refine each_sat (C:=fun k=>has k ((rs.getD 0 []).getD 0 0)) (g:=fun a b=>if ρ ((rs.getD 0 []).getD 0 0) then a else b) (fun _ _ h P=>has_mono h P) (fun m q E hq=>mux_sat h m q E hq) a0 p1 q1 fun z r p B rr=>j z r p B ?_
   have hlen:∀{a b:List Bool},a.length=b.length→∀c:Bool,eachV (fun x y=>if c then x else y) a b=if c then a else b:=fun{a b}=>by
    induction a generalizing b with
    |nil=>
     intro P c;cases b with
     |nil=>cases c<;>rfl
     |cons y b=>simp at P
    |cons x a ih=>
     intro P c;cases b with
     |nil=>simp at P
     |cons y b=>simp only[eachV];rw[ih (by simpa using P) c];cases c<;>rfl
   rw[rr,p2,q2,hlen (by rw[←m.2];unfold K7;split<;>simp[bitsN_len]),l2,d]
   simp only
   by_cases D:evalM ds env (kid t 0)=1
   ·rw[if_pos D,decide_eq_true D,if_pos rfl]
   ·rw[if_neg D,decide_eq_false D,if_neg (by decide),m.2]
  ·rw[if_neg m] at hs;exact absurd rfl hs
 simp only[if_neg O] at hs j d⊢
 by_cases N:t.op=22
 ·simp only[N,if_true] at hs j d⊢
  have U:t.ks.length=1:=by rw[N] at n;simp[arity] at n;omega
  rw[q 0 (by omega)] at hs j
  rw[E 0 (by omega)] at d
  by_cases m:0≤t.b∧t.b≤t.a∧t.a<sortM ds (kid t 0)
  ·rw[if_pos m] at hs j
   obtain⟨I,F⟩:=K 0 (by omega)
   have S:=inS_pos (H 0 (by omega)) (by omega)
   refine j k _ (Nat.le_refl _) (Ws fun x q=>I x (List.mem_of_mem_drop q)) ?_
   rw[List.map_take,List.map_drop,F,cut_bits S m.1 m.2.1 m.2.2,d]
  ·rw[if_neg m] at hs;exact absurd rfl hs
 simp only[if_neg N] at hs j d⊢
 by_cases h2:t.op≤2
 ·simp only[if_pos h2] at hs j d⊢
  have ho:t.op=1∨t.op=2:=by omega
  have U:t.ks.length=1:=by rcases ho with e|e<;>rw[e] at n<;>simp[arity] at n<;>omega
  rw[q 0 (by omega)] at hs j
  rw[E 0 (by omega)] at d
  by_cases m:0<sortM ds (kid t 0)
  ·rw[if_pos m] at hs j
   obtain⟨I,F⟩:=K 0 (by omega)
   have S:=inS_pos (H 0 (by omega)) m
   refine J80 h G I fun z r p B rr=>j z r p B ?_
   rw[rr,F,un_bits ho S,d]
  ·rw[if_neg m] at hs;exact absurd rfl hs
 simp only[if_neg h2] at hs j d⊢
 have U:t.ks.length=2:=by
  unfold arity at n
  rw[if_neg (by omega),if_neg (by omega),if_neg (by omega),if_neg (by omega),if_pos (by omega)] at n
  omega
 rw[q 0 (by omega),q 1 (by omega)] at hs j
 rw[E 0 (by omega),E 1 (by omega)] at d
 obtain⟨I,F⟩:=K 0 (by omega)
 obtain⟨p1,p2⟩:=K 1 (by omega)
 have i0:=H 0 (by omega)
 have i1:=H 1 (by omega)
 have f:=congrArg List.length F
 have A:=congrArg List.length p2
 rw[List.length_map] at f A
 by_cases L:t.op=14
 ·simp only[L,if_true] at hs j d
  by_cases m:0<sortM ds (kid t 0)∧0<sortM ds (kid t 1)∧sortM ds (kid t 0)+sortM ds (kid t 1)≤4
  ·rw[if_pos m] at hs j
   have v0:=inS_pos i0 m.1
   have v1:=inS_pos i1 m.2.1
   rw[valB_len (by omega)] at f
   rw[if_neg (by omega)]
   refine bin_sat h G I p1 (fun e=>by rw[e] at f;simp at f;omega) fun z r p B rr=>j z r p B ?_
   rw[rr,F,p2,L]
   unfold Ju0
   rw[if_pos rfl,cat_bits v0 v1 m.2.2,d]
  ·rw[if_neg m] at hs;exact absurd rfl hs
 simp only[if_neg L] at hs j d
 by_cases M:15≤t.op
 ·simp only[if_pos M] at hs j d
  by_cases m:0<sortM ds (kid t 0)∧sortM ds (kid t 0)=sortM ds (kid t 1)
  ·rw[if_pos m] at hs j
   have v0:=inS_pos i0 m.1
   have v1:vok (sortM ds (kid t 0)) (evalM ds env (kid t 1))=true:=by rw[m.2];exact inS_pos i1 (by omega)
   rw[valB_len (by omega)] at f A
   rw[if_pos (by omega)]
   refine Says.bind (QL0 h G I p1 (by rw[f,A,m.2]) (fun e=>by rw[e] at f;simp at f;omega) fun z v p hv' rv=>j z _ p (hasL_cons.2 ⟨hv',fun x q=>by cases q⟩) ?_)
   rw[List.map_singleton,rv,F,p2,←m.2,cmp_bits M (by omega) v0 v1,d,Wj]
   cases cmpM t.op (sortM ds (kid t 0)) (evalM ds env (kid t 0)) (evalM ds env (kid t 1))<;>rfl
  ·rw[if_neg m] at hs;exact absurd rfl hs
 simp only[if_neg M] at hs j d
 by_cases m:0<sortM ds (kid t 0)∧sortM ds (kid t 0)=sortM ds (kid t 1)
 ·rw[if_pos m] at hs j
  have v0:=inS_pos i0 m.1
  have v1:vok (sortM ds (kid t 0)) (evalM ds env (kid t 1))=true:=by rw[m.2];exact inS_pos i1 (by omega)
  rw[valB_len (by omega)] at f
  rw[if_neg (by omega)]
  refine bin_sat h G I p1 (fun e=>by rw[e] at f;simp at f;omega) fun z r p B rr=>j z r p B ?_
  rw[rr,F,p2,←m.2,bin_bits (by omega) (by omega) v0 v1,d]
 ·rw[if_neg m] at hs;exact absurd rfl hs
theorem term_sat (h:Rho ρ) (he:envOk ds env=true) (hi:Ins ρ ds env):∀t:Tm,sortM ds t≠ -1→∀{k:Nat} {Q:Nat→List Int→Prop},1+bits ds≤k→
  (∀a r,k≤a→hasL a r→r.map ρ=K7 (sortM ds t) (evalM ds env t)→Q a r)→Says ρ k (termB ds t) Q:=by
 refine Tm.ind fun t j hs k Q o c=>?_
 rw[termB_eq]
 refine Says.bind (seq_sat (k0:=k) (g:=fun u=>K7 (sortM ds u) (evalM ds env u)) (Nat.le_refl _) (fun u hu=>fun{p m} e f=>j u hu ((sort_parts hs).2.1 u hu) (by omega) f) fun a rs d b hm=>?_)
 exact node_sat h he hi hs (by omega) b hm fun l r n i rr=>c l r (by omega) i rr
end
end Go.M
end
section
namespace Go.M
namespace Bd
theorem reach_inv {α β:Type} {p:Bd α} {f:α→Bd β} {b:β} (h:(p.bind f).Reach b):∃a,p.Reach a∧(f a).Reach b:=by
 induction p with
 |ret a=>exact⟨a,rfl,h⟩
 |and x y k g=>obtain⟨v,e⟩:=h;obtain⟨a,c,d⟩:=g v e;exact⟨a,⟨v,c⟩,d⟩
 |xor x y k g=>obtain⟨v,e⟩:=h;obtain⟨a,c,d⟩:=g v e;exact⟨a,⟨v,c⟩,d⟩
theorem reach_map {α β:Type} {p:Bd α} {f:α→β} {b:β} (h:(p.map f).Reach b):∃a,p.Reach a∧b=f a:=by
 obtain⟨a,c,d⟩:=reach_inv h
 exact⟨a,c,d⟩
end Bd
theorem sum_len:∀{xs ys:List Int} {c:Int} {r:List Int},(sumB xs ys c).Reach r→r.length=min xs.length ys.length
 |[],_,c,r,h=>by cases h;simp
 |_::_,[],c,r,h=>by cases h;simp
 |x::xs,y::ys,c,r,h=>by
  obtain⟨v1,v2,v3,v4,h⟩:=h
  obtain⟨b,_,h⟩:=Bd.reach_inv h
  obtain⟨d,a,rfl⟩:=Bd.reach_map h
  rw[List.length_cons,sum_len a,List.length_cons,List.length_cons];omega
theorem each_len {f:Int→Int→Bd Int}:∀{xs ys:List Int} {r:List Int},(eachB f xs ys).Reach r→r.length=min xs.length ys.length
 |[],_,r,h=>by cases h;simp
 |_::_,[],r,h=>by cases h;simp
 |x::xs,y::ys,r,h=>by
  obtain⟨s,_,h⟩:=Bd.reach_inv h
  obtain⟨b,a,rfl⟩:=Bd.reach_map h
  rw[List.length_cons,each_len a,List.length_cons,List.length_cons];omega
theorem row_len {s:Int}:∀{xs:List Int} {r:List Int},(rowB s xs).Reach r→r.length=xs.length
 |[],r,h=>by cases h;rfl
 |x::xs,r,h=>by
  obtain⟨v,h⟩:=h
  obtain⟨b,a,rfl⟩:=Bd.reach_map h
  rw[List.length_cons,row_len a,List.length_cons]
theorem mul_len {xs:List Int}:∀{ys:List Int} {i:Nat} {s r:List Int},i+ys.length≤xs.length→s.length=xs.length→(mulB xs ys i s).Reach r→r.length=xs.length
 |[],i,s,r,_,hs,h=>by cases h;exact hs
 |y::ys,i,s,r,hi,hs,h=>by
  rw[List.length_cons] at hi
  obtain⟨w,hw,h⟩:=Bd.reach_inv h
  obtain⟨d,b,h⟩:=Bd.reach_inv h
  have c:=row_len hw
  have a:=sum_len b
  rw[List.length_append,c,List.length_take] at a
  unfold offsL at a
  rw[List.length_replicate] at a
  exact mul_len (by omega) (by omega) h
theorem negL_len (xs:List Int):(negL xs).length=xs.length:=List.length_map _
theorem div_len {xs wide:List Int} (hw:wide.length=xs.length+1):∀{n:Nat} {r q:List Int} {p:List Int×List Int},r.length=xs.length→q.length=xs.length→(divB xs wide n r q).Reach p→p.1.length=xs.length∧p.2.length=xs.length
 |0,r,q,p,c,a,h=>by cases h;exact⟨a,c⟩
 |n+1,r,q,p,c,a,h=>by
  obtain⟨l,_,h⟩:=Bd.reach_inv h
  obtain⟨u,hu,h⟩:=Bd.reach_inv h
  obtain⟨f,b,h⟩:=Bd.reach_inv h
  have d:=sum_len hu
  have e:=each_len b
  rw[List.length_cons,negL_len] at d
  rw[List.length_take,List.length_take,List.length_cons] at e
  exact div_len hw (by omega) (by rw[List.length_set];exact a) h
theorem shift_len {up:Bool} {fill:Int}:∀{ys:List Int} {i:Nat} {s r:List Int},(shiftB up fill ys i s).Reach r→r.length=s.length
 |[],i,s,r,h=>by cases h;rfl
 |c::ys,i,s,r,h=>by
  obtain⟨d,a,h⟩:=Bd.reach_inv h
  have b:=each_len a
  rw[List.length_map,List.length_range] at b
  rw[shift_len h];omega
theorem offsL_len (n:Nat):(offsL n).length=n:=List.length_replicate ..
theorem un_len {op:Int} {x r:List Int} (h:(unB op x).Reach r):r.length=x.length:=by
 unfold unB at h
 split at h
 ·cases h;exact negL_len x
 ·have:=sum_len h;rw[offsL_len,negL_len] at this;omega
theorem bin_len {op:Int} {x y r:List Int} (h:(binB op x y).Reach r) (b:op≠14→x.length=y.length):r.length=if op=14 then x.length+y.length else x.length:=by
 unfold binB at h
 by_cases c:op=14
 ·rw[if_pos c] at h⊢;cases h;rw[List.length_append];omega
 rw[if_neg c] at h⊢
 have d:=b c
 repeat' split at h
 ·have:=each_len h;omega
 ·have:=each_len h;omega
 ·have:=each_len h;omega
 ·have:=sum_len h;omega
 ·have:=sum_len h;rw[negL_len] at this;omega
 ·exact mul_len (by omega) (offsL_len _) h
 ·obtain⟨p,a,rfl⟩:=Bd.reach_map h
  exact(div_len (by rw[List.length_append,List.length_singleton];omega) (offsL_len _) (offsL_len _) a).1
 ·obtain⟨p,a,rfl⟩:=Bd.reach_map h
  exact(div_len (by rw[List.length_append,List.length_singleton];omega) (offsL_len _) (offsL_len _) a).2
 ·exact shift_len h
 ·exact shift_len h
 ·exact shift_len h
theorem nameB_len {ds:List Dcl} {k:Nat}:(nameB ds k).length=((ds.getD k (nada,0)).2).toNat:=by unfold nameB;rw[List.length_map,List.length_range]
theorem fixB_len {w n:Int}:(fixB w n).length=w.toNat:=by unfold fixB;rw[List.length_map,List.length_range]
def lenS (w:Int):Nat:=(max 1 w).toNat
theorem node_len {ds:List Dcl} {t:Tm} (B:declOk ds=true) (hs:sortM ds t≠ -1) {rs:List (List Int)} (l:∀i,i<t.ks.length→(rs.getD i []).length=lenS (sortM ds (kid t i))) {r:List Int} (h:(nodeB ds t rs).Reach r):r.length=lenS (sortM ds t):=by
 obtain⟨C,G,y⟩:=sort_parts hs
 simp only[formed,Bool.and_eq_true,decide_eq_true_eq] at C
 obtain⟨d,I⟩:=C
 have D:=arity_ops (o:=t.op) (by omega)
 have k:∀i,i<t.ks.length→(t.ks.map (sortM ds)).getD i 0=sortM ds (kid t i):=fun i hi=>getD_map _ hi _ _
 have J:∀i,-1≤sortM ds (kid t i)∧sortM ds (kid t i)≤4:=fun i=>sort_range B _
 rw[y] at hs⊢
 unfold sortK at hs⊢
 unfold nodeB at h
 by_cases n:t.op=20
 ·simp only[n,if_true] at hs h⊢
  by_cases hv':vok t.a t.b=true
  ·rw[if_pos hv']
   have:=vok_lt hv'
   cases h
   rw[fixB_len];unfold lenS;omega
  ·rw[if_neg hv'] at hs;exact absurd rfl hs
 simp only[if_neg n] at hs h⊢
 by_cases p:t.op=21
 ·simp only[p,if_true] at hs h⊢
  have F:=findD_lt ds t.s
  by_cases u:findD ds t.s<0
  ·rw[if_pos u] at hs;exact absurd rfl hs
  ·rw[if_neg u]
   have hw:=dcl_wide B (i:=(findD ds t.s).toNat) (by omega)
   cases h
   rw[nameB_len];unfold lenS;omega
 simp only[if_neg p] at hs h⊢
 by_cases q:24≤t.op
 ·simp only[if_pos q] at hs⊢
  by_cases u:(t.ks.map (sortM ds)).any (fun x=>decide (x≠0))=true
  ·rw[if_pos u] at hs;exact absurd rfl hs
  ·rw[if_neg u]
   show r.length=1
   rcases(by omega:t.op=24∨t.op=25∨t.op=26∨t.op=27) with e|e|e|e
   ·rw[if_pos e] at h;cases h;rfl
   ·rw[if_neg (by omega),if_pos e] at h;cases h;rfl
   ·rw[if_neg (by omega),if_neg (by omega),if_pos e] at h;obtain⟨v,h⟩:=h;cases h;rfl
   ·rw[if_neg (by omega),if_neg (by omega),if_neg (by omega),if_pos e] at h;obtain⟨v,_,rfl⟩:=Bd.reach_map h;rfl
 simp only[if_neg q,if_neg (show¬t.op=24 by omega),if_neg (show¬t.op=25 by omega),if_neg (show¬t.op=26 by omega),if_neg (show¬t.op=27 by omega)] at hs h⊢
 by_cases j:t.op=23
 ·simp only[j,if_true] at hs h⊢
  have w:t.ks.length=3:=by rw[j] at d;simp[arity] at d;omega
  rw[k 0 (by omega),k 1 (by omega),k 2 (by omega)] at hs⊢
  by_cases c:sortM ds (kid t 0)=0∧sortM ds (kid t 1)=sortM ds (kid t 2)
  ·rw[if_pos c]
   have:=each_len h
   rw[l 1 (by omega),l 2 (by omega),←c.2] at this
   omega
  ·rw[if_neg c] at hs;exact absurd rfl hs
 simp only[if_neg j] at hs h⊢
 by_cases g:t.op=22
 ·simp only[g,if_true] at hs h⊢
  have w:t.ks.length=1:=by rw[g] at d;simp[arity] at d;omega
  rw[k 0 (by omega)] at hs⊢
  by_cases c:0≤t.b∧t.b≤t.a∧t.a<sortM ds (kid t 0)
  ·rw[if_pos c]
   cases h
   rw[List.length_take,List.length_drop,l 0 (by omega)]
   unfold lenS;omega
  ·rw[if_neg c] at hs;exact absurd rfl hs
 simp only[if_neg g] at hs h⊢
 by_cases A:t.op≤2
 ·simp only[if_pos A] at hs h⊢
  have w:t.ks.length=1:=by
   have H:t.op=1∨t.op=2:=by omega
   rcases H with e|e<;>rw[e] at d<;>simp[arity] at d<;>omega
  rw[k 0 (by omega)] at hs⊢
  by_cases c:0<sortM ds (kid t 0)
  ·rw[if_pos c,un_len h,l 0 (by omega)]
  ·rw[if_neg c] at hs;exact absurd rfl hs
 simp only[if_neg A] at hs h⊢
 have w:t.ks.length=2:=by
  unfold arity at d
  rw[if_neg (by omega),if_neg (by omega),if_neg (by omega),if_neg (by omega),if_pos (by omega)] at d
  omega
 rw[k 0 (by omega),k 1 (by omega)] at hs⊢
 have z:=l 0 (by omega)
 have E:=l 1 (by omega)
 by_cases f:t.op=14
 ·simp only[f,if_true] at hs⊢
  by_cases c:0<sortM ds (kid t 0)∧0<sortM ds (kid t 1)∧sortM ds (kid t 0)+sortM ds (kid t 1)≤4
  ·rw[if_pos c]
   rw[if_neg (by omega)] at h
   have:=bin_len h fun e=>absurd f e
   rw[if_pos f,z,E] at this
   rw[this];unfold lenS;omega
  ·rw[if_neg c] at hs;exact absurd rfl hs
 simp only[if_neg f] at hs⊢
 by_cases m:15≤t.op
 ·simp only[if_pos m] at hs⊢
  by_cases c:0<sortM ds (kid t 0)∧sortM ds (kid t 0)=sortM ds (kid t 1)
  ·rw[if_pos c]
   rw[if_pos (by omega)] at h
   obtain⟨v,_,rfl⟩:=Bd.reach_map h
   rfl
  ·rw[if_neg c] at hs;exact absurd rfl hs
 simp only[if_neg m] at hs⊢
 by_cases c:0<sortM ds (kid t 0)∧sortM ds (kid t 0)=sortM ds (kid t 1)
 ·rw[if_pos c]
  rw[if_neg (by omega)] at h
  have:=bin_len h fun _=>by rw[z,E,c.2]
  rw[if_neg f,z] at this
  exact this
 ·rw[if_neg c] at hs;exact absurd rfl hs
theorem seq_reach {f:Tm→Bd (List Int)}:∀{ks:List Tm} {rs:List (List Int)},(seqB (ks.map f)).Reach rs→rs.length=ks.length∧∀i,i<ks.length→(f (ks.getD i default)).Reach (rs.getD i [])
 |[],rs,h=>by cases h;exact⟨rfl,fun i hi=>absurd hi (by simp)⟩
 |t::ks,rs,h=>by
  obtain⟨r,c,h⟩:=Bd.reach_inv h
  obtain⟨e,d,rfl⟩:=Bd.reach_map h
  obtain⟨a,b⟩:=seq_reach d
  refine⟨by rw[List.length_cons,List.length_cons,a],fun i hi=>?_⟩
  cases i with
  |zero=>exact c
  |succ i=>exact b i (by simpa using hi)
theorem term_len {ds:List Dcl} (c:declOk ds=true):∀t:Tm,sortM ds t≠ -1→∀{r:List Int},(termB ds t).Reach r→r.length=lenS (sortM ds t):=by
 refine Tm.ind fun t e hs r h=>?_
 rw[termB_eq] at h
 obtain⟨rs,a,b⟩:=Bd.reach_inv h
 obtain⟨_,d⟩:=seq_reach a
 exact node_len c hs (fun i hi=>e _ (getD_mem hi _) (good_kid hs hi) (d i hi)) b
end Go.M
end
section
namespace Go.Proofs.YtaekfnbnhjgboaaGreatDoor
open Go Go.Vc Go.Proofs Go.MapKept
variable {w:World} {K:Value→World→Prop} {F F' D G:Nat→Prop}
def gv (g:M.Gt):Value:= .agg ⟨[.bool g.x,.int .i64 g.a,.int .i64 g.b]⟩
theorem Jm0 {g h:M.Gt} (e:gv g=gv h):g=h:=by
 cases g;cases h
 simp only[gv,Value.agg.injEq,Array.mk.injEq,List.cons.injEq,Value.bool.injEq,Value.int.injEq,and_true,true_and] at e
 obtain⟨rfl,rfl,rfl⟩:=e;rfl
theorem eqGate (g h:M.Gt) (w:World):(Op.equalIn 10000 zp (gv g) (gv h)).run PP w= .ok (decide (g=h)) w:=by
 obtain⟨x,a,b⟩:=g
 obtain⟨y,c,d⟩:=h
 have n:(PP.fieldsOf zp).toList=[(PP.fieldsOf zp).getD 0 default,(PP.fieldsOf zp).getD 1 default,(PP.fieldsOf zp).getD 2 default]:=by kernel_rfl
 have k:((PP.fieldsOf zp).getD 0 default).name≠ "_" :=by decide+kernel
 have l:((PP.fieldsOf zp).getD 1 default).name≠ "_" :=by decide+kernel
 have m:((PP.fieldsOf zp).getD 2 default).name≠ "_" :=by decide+kernel
 have i0:PP.underlying ((PP.fieldsOf zp).getD 0 default).type=some .bool:=by kernel_rfl
 have i1:PP.underlying ((PP.fieldsOf zp).getD 1 default).type=some (.int .i64):=by kernel_rfl
 have i2:PP.underlying ((PP.fieldsOf zp).getD 2 default).type=some (.int .i64):=by kernel_rfl
 have p0:∀x y z:Value,(part ((PP.fieldsOf zp).getD 0 default).type ⟨[x,y,z]⟩ ((PP.fieldsOf zp).getD 0 default).offset).run PP w= .ok x w:=fun x y z=>by kernel_rfl
 have p1:∀x y z:Value,(part ((PP.fieldsOf zp).getD 1 default).type ⟨[x,y,z]⟩ ((PP.fieldsOf zp).getD 1 default).offset).run PP w= .ok y w:=fun x y z=>by kernel_rfl
 have p2:∀x y z:Value,(part ((PP.fieldsOf zp).getD 2 default).type ⟨[x,y,z]⟩ ((PP.fieldsOf zp).getD 2 default).offset).run PP w= .ok z w:=fun x y z=>by kernel_rfl
 have i:∀d,(Op.equalIn (d+1) ((PP.fieldsOf zp).getD 0 default).type (.bool x) (.bool y)).run PP w= .ok (x==y) w:=fun d=>by
  rw[Op.equalIn,Sem.run_bind,run_underlying i0];rfl
 unfold gv
 rw[run_equalIn_struct w 9999 zp _ _ (by kernel_rfl) (by kernel_rfl),n]
 generalize (PP.fieldsOf zp).getD 0 default=f0 at k i0 p0 i⊢
 generalize (PP.fieldsOf zp).getD 1 default=f1 at l i1 p1⊢
 generalize (PP.fieldsOf zp).getD 2 default=f2 at m i2 p2⊢
 simp only[Op.eqFields,if_pos k,if_pos l,if_pos m,Sem.run_bind,p0,p1,p2,Result.andThen_ok,i 9998,run_equalIn_int w 9998 _ _ _ _ _ i1,run_equalIn_int w 9998 _ _ _ _ _ i2]
 by_cases e:x=y
 ·by_cases f:a=c
  ·by_cases j:b=d
   ·subst e;subst f;subst j;simp[p1,p2,run_equalIn_int w 9998 _ _ _ _ _ i1,run_equalIn_int w 9998 _ _ _ _ _ i2]
   ·subst e;subst f;simp[p1,p2,run_equalIn_int w 9998 _ _ _ _ _ i1,run_equalIn_int w 9998 _ _ _ _ _ i2,j]
  ·subst e;simp[p1,p2,run_equalIn_int w 9998 _ _ _ _ _ i1,run_equalIn_int w 9998 _ _ _ _ _ i2,f]
 ·simp[e]
def GMap (w:World) (b:Nat) (f:List (M.Gt×Int)):Prop:= ∃es cl,w.heap[b]?=some (.map es cl)∧Stamped es cl∧es.toList.map (fun e=>(e.key,e.val))=f.map fun p=>(gv p.1,Value.int .i64 p.2)
theorem GMap.lt {b:Nat} {f:List (M.Gt×Int)} (h:GMap w b f):b<w.heap.size:=by
 obtain⟨es,cl,a,_⟩:=h;exact(Array.getElem?_eq_some_iff.1 a).1
theorem GMap.same {b:Nat} {f:List (M.Gt×Int)} {S:Nat→Prop} {w':World} (h:GMap w b f) (hw:Same S w w') (hs: ¬S b):GMap w' b f:=by
 have a:=h.lt
 obtain⟨es,cl,c,r⟩:=h;exact⟨es,cl,(hw.block b a hs).trans c,r⟩
theorem GMap.ext {b:Nat} {f:List (M.Gt×Int)} {w':World} (h:GMap w b f) (hw:Ext w w'):GMap w' b f:=h.same hw id
theorem qp0 (g:M.Gt) (e:Bool) (w:World):(Instr.checkKey e 10000 zp (gv g)).run PP w= .ok () w:=by
 obtain⟨x,a,b⟩:=g
 kernel_rfl
def findP (g:M.Gt):List (M.Gt×Int)→Nat→Option (Nat×Int)
 |[],_=>none
 |p::r,i=>if g=p.1 then some (i,p.2) else findP g r (i+1)
theorem ask_run (g:M.Gt) (w:World):∀(l:List MapEntry) (f:List (M.Gt×Int)) (i:Nat),l.map (fun e=>(e.key,e.val))=f.map (fun p=>(gv p.1,Value.int .i64 p.2))→
  (Instr.findAsking zp (gv g) l i).run PP w= .ok ((findP g f i).map fun q=>(q.1,.int .i64 q.2)) w
 |[],[],i,_=>rfl
 |[],_::_,_,h=>by simp at h
 |_::_,[],_,h=>by simp at h
 |e::l,p::f,i,h=>by
  simp only[List.map_cons,List.cons.injEq,Prod.mk.injEq] at h
  obtain⟨⟨a,b⟩,d⟩:=h
  have j:(Op.equal zp (gv g) e.key).run PP w= .ok (decide (g=p.1)) w:=by rw[a];exact eqGate g p.1 w
  simp only[Instr.findAsking,Sem.run_bind,j,Result.andThen_ok,findP]
  by_cases c:g=p.1
  ·rw[if_pos (by simpa using c),if_pos c];simp[b]
  ·rw[if_neg (by simpa using c),if_neg c]
   exact ask_run g w l f (i+1) d
theorem gate_struct:∃fs,PP.underlying zp=some (.struct fs):=by
 have h:(match PP.underlying zp with|some (.struct _)=>true|_=>false)=true:=by kernel_rfl
 split at h
 ·next fs e=>exact⟨fs,e⟩
 ·cases h
theorem qu0 (g:M.Gt) (w:World) {l:List MapEntry} {f:List (M.Gt×Int)} (h:l.map (fun e=>(e.key,e.val))=f.map (fun p=>(gv p.1,Value.int .i64 p.2))):
  (Instr.findKey zp (gv g) l).run PP w= .ok ((findP g f 0).map fun q=>(q.1,.int .i64 q.2)) w:=by
 obtain⟨fs,a⟩:=gate_struct
 unfold Instr.findKey
 rw[Sem.run_bind,run_underlying a]
 simp only[Result.andThen_ok]
 cases l with
 |nil=>
  cases f with
  |nil=>rfl
  |cons p f=>simp at h
 |cons e l=>
  have:Instr.findNow (.struct fs) (gv g) (e::l) 0=none:=by simp[Instr.findNow,Instr.sameNow]
  rw[this]
  exact ask_run g w (e::l) f 0 h
theorem findP_none {g:M.Gt}:∀{f:List (M.Gt×Int)} {i:Nat},findP g f i=none↔ ∀p,p∈f→p.1≠g
 |[],i=>by simp[findP]
 |p::f,i=>by
  unfold findP
  split
  ·next e=>exact⟨fun h=>(by cases h),fun h=>absurd e.symm (h p List.mem_cons_self)⟩
  ·next e=>rw[findP_none (f:=f)];simp only[List.mem_cons,forall_eq_or_imp];exact⟨fun h=>⟨fun a=>e a.symm,h⟩,fun h=>h.2⟩
def KD (g:M.Gt) (f:List (M.Gt×Int)):Option Int:=(findP g f 0).map (·.2)
theorem Jn0 {k:Option Value} (a:k=none) (c:∀b w',b=w.heap.size→GMap w' b []→Ext w w'→w'.heap.size=w.heap.size+1→K (.map (some b)) w'):Q00 PP zH k w K:=by
 subst a
 refine⟨.map (some w.heap.size),w.alloc (.map #[] 0),?_,c _ _ rfl ⟨#[],0,(heap_alloc w _).1,stamped_empty 0,rfl⟩ ⟨rfl,rfl,rfl,by simp,fun k a _=>(heap_alloc w _).2 k a⟩ (by simp)⟩
 simp[Instr.makeMap,newObj,Sem.run]
theorem glook {g:M.Gt} {ok:Bool} {b:Nat} {f:List (M.Gt×Int)} (h:GMap w b f):XG PP zH (.map (some b)) (gv g) ok w K=K (match KD g f with|some n=>(if ok then .tuple #[.int .i64 n,.bool true] else .int .i64 n)|none=>if ok then .tuple #[.int .i64 0,.bool false] else .int .i64 0) w:=by
 obtain⟨es,cl,a,d,he⟩:=h
 have hm:PP.underlying zH=some (.map zp zd)∧yT PP zd (.int .i64 0):=⟨kM,ZO⟩
 refine yH ?_
 unfold KD
 cases c:findP g f 0 with
 |none=>cases ok<;>simp[Instr.lookup,run_underlying hm.1,MapKept.run_getObj_map a,qp0,qu0 g w he,c,Ka hm.2,Result.andThen]
 |some p=>cases ok<;>simp[Instr.lookup,run_underlying hm.1,MapKept.run_getObj_map a,qp0,qu0 g w he,c,Result.andThen]
theorem Qb0 {g:M.Gt} {b:Nat} {f:List (M.Gt×Int)} (h:GMap w b f):XG PP zH (.map (some b)) (gv g) true w K=K (match KD g f with|some n=> .tuple #[.int .i64 n,.bool true]|none=> .tuple #[.int .i64 0,.bool false]) w:=by
 rw[glook h];cases KD g f<;>rfl
theorem Jo0 {g:M.Gt} {b:Nat} {f:List (M.Gt×Int)} (h:GMap w b f):XG PP zH (.map (some b)) (gv g) false w K=K (match KD g f with|some n=> .int .i64 n|none=> .int .i64 0) w:=by
 rw[glook h];cases KD g f<;>rfl
theorem look_app {g h:M.Gt} {n:Int}:∀{f:List (M.Gt×Int)} {i:Nat},(findP g (f++[(h,n)]) i).map (·.2)=match(findP g f i).map (·.2) with|some m=>some m|none=>if g=h then some n else none
 |[],i=>by simp only[List.nil_append,findP,Option.map_none];split<;>rfl
 |p::f,i=>by
  rw[List.cons_append]
  unfold findP
  split
  ·rfl
  ·exact look_app (f:=f)
theorem gset {g:M.Gt} {n:Int} {b:Nat} {f:List (M.Gt×Int)} (h:GMap w b f) (i:KD g f=none)
  (m:∀w',GMap w' b (f++[(g,n)])→Same (· =b) w w'→w'.heap.size=w.heap.size→K undef w'):ZH PP zH (.map (some b)) (gv g) (.int .i64 n) w K:=by
 obtain⟨es,cl,c,j,he⟩:=h
 have hm:PP.underlying zH=some (.map zp zd):=kM
 have d:findP g f 0=none:=by
  unfold KD at i
  cases d:findP g f 0 with
  |none=>rfl
  |some p=>rw[d] at i;cases i
 have l:∀x,x∈es.toList→x.key≠gv g:=fun x q e=>by
  have a:(x.key,x.val)∈f.map fun p=>(gv p.1,Value.int .i64 p.2):=by rw[←he];exact List.mem_map.2 ⟨x,q,rfl⟩
  obtain⟨p,o,k⟩:=List.mem_map.1 a
  have:gv p.1=gv g:=by rw[←e];exact congrArg Prod.fst k
  exact findP_none.1 d p o (Jm0 this)
 refine⟨(),{w with heap:=w.heap.setIfInBounds b (.map (es.push {key:=gv g,val:= .int .i64 n,born:=cl}) (cl+1))},?_,m _ ⟨_,_,(heap_set c).1,stamped_push j l,by simp[he]⟩ (zX0 c) (by simp)⟩
 simp[Instr.mapUpdate,run_underlying hm,MapKept.run_getObj_map c,qp0,qu0 g w he,d,run_setObj_map _ c,Result.andThen]
end Go.Proofs.YtaekfnbnhjgboaaGreatDoor
end
section
namespace Go.Proofs.YtaekfnbnhjgboaaGreatDoor
open Go Go.Vc Go.Proofs
variable {w:World} {K:Value→World→Prop} {F F' Fx Fy X:Nat→Prop}
section
variable {w' w'':World} {F'' S:Nat→Prop}
theorem Same.thn {S T:Nat→Prop} {a b c:World} (h:Same S a b) (k:Same T b c) (hs:∀x,T x→S x∨a.heap.size≤x):Same S a c:=
 ⟨k.os.trans h.os,k.tape.trans h.tape,k.output.trans h.output,Nat.le_trans h.size k.size,fun i hi d=>
  (k.block i (Nat.lt_of_lt_of_le hi h.size) (fun e=>(hs i e).elim d fun h=>by omega)).trans (h.block i hi d)⟩
structure Mv (F:Nat→Prop) (w:World) (F':Nat→Prop) (w':World):Prop where
 same:Same F w w'
 new:∀b,F' b→F b∨w.heap.size≤b
theorem Mv.refl:Mv F w F w:=⟨Same.refl _ _,fun _ h=> .inl h⟩
theorem Mv.trans (h:Mv F w F' w') (k:Mv F' w' F'' w''):Mv F w F'' w'':=by
 have hs:=h.same.size
 exact⟨Same.thn h.same k.same h.new,fun b a=>(k.new b a).elim (h.new b) fun h=> .inr (by omega)⟩
theorem Mv.to (h:Mv F w F' w') (k:Same S w' w'') (a:∀b,S b→F' b∨w.heap.size≤b):Mv F w F' w'':=
 ⟨Same.thn h.same k fun b c=>(a b c).elim (h.new b) .inr,h.new⟩
theorem Mv.ext (h:Mv F w F' w') (k:Ext w' w''):Mv F w F' w'':=h.to k fun _ h=>h.elim
theorem Mv.off (h:Mv F w F' w') {b:Nat} (c: ¬F b) (e:b<w.heap.size): ¬F' b:=fun a=>(h.new b a).elim c fun d=>by omega
abbrev Off (X F:Nat→Prop):Nat→Prop:=fun b=> ¬F b∧¬X b
theorem Ints.mv {v:Value} {xs:List Int} (h:Ints (Off X F) w v xs) (hm:Mv F w F' w'):Ints (Off X F') w' v xs:=by
 have c:Ints (fun b=>(¬F b∧¬X b)∧b<w.heap.size) w v xs:=Ints.weaken h fun b a e=>⟨a,e⟩
 have d:=Ints.same c hm.same fun b a _=>a.1.1
 exact Ints.weaken d fun b a _=>⟨hm.off a.1.1 a.2,a.1.2⟩
structure NewI (X:Nat→Prop) (w:World) (F':Nat→Prop) (w':World) (v:Value) (xs:List Int):Prop where
 own:OwnI PP zb w' v xs
 off:∀b,v.ownBlock=some b→w.heap.size≤b∧¬F' b
 out:∀b,v.ownBlock=some b→¬X b
theorem NewI.mv {v:Value} {xs:List Int} (h:NewI X w F' w' v xs) (hm:Mv F' w' F'' w''):NewI X w F'' w'' v xs:=
 ⟨h.own.same hm.same fun b a=>(h.off b a).2,fun b a=>⟨(h.off b a).1,hm.off (h.off b a).2 (h.own.lt a)⟩,h.out⟩
theorem NewI.ints {v:Value} {xs:List Int} (h:NewI X w F' w' v xs):Ints (Off X F') w' v xs:=Ints.weaken h.own.ints fun b a _=>⟨(h.off b a).2,h.out b a⟩
theorem NewI.nil:NewI X w F' w' (.slice none 0 0) []:=⟨OwnI.nil,fun b a=>(by cases a),fun b a=>by cases a⟩
theorem NewI.app1 {ty b:Nat} {v:Value} {xs:List Int} {x:Int} {e:TypeId} (h:NewI X w F' w' v xs) (c:Blk w' b [.int .i64 x] e) (j:w.heap.size≤w'.heap.size) (hF:∀b,F' b∨X b→b<w'.heap.size) (k:xs.length≤1000000)
  (g:∀v' w'',NewI X w F' w'' v' (xs++[x])→Same (fun b=>v.ownBlock=some b) w' w''→K v' w''):vbi PP .append [zb,zb] ty [v,.slice (some ⟨b,0,none⟩) 1 1] w' K:=by
 refine h.own.app1 yX c (by omega) (by omega) fun v' w'' i hs f=>g v' w'' ⟨i,fun b c=>?_,fun b c=>?_⟩ hs
 ·rcases f b c with a|a
  ·exact h.off b a
  ·exact⟨by omega,fun d=>by have:=hF b (.inl d);omega⟩
 ·rcases f b c with a|a
  ·exact h.out b a
  ·exact fun d=>by have:=hF b (.inr d);omega
def Sent (w:World) (g:Nat) (a:Addr):Prop:=w.cell? ⟨g,0,none⟩=some (.iface xA (.pointer (some a)))
theorem Sent.lt {g:Nat} {a:Addr} (h:Sent w g a):g<w.heap.size:=World.block_lt_of_cell? w _ h
theorem Sent.same {g:Nat} {a:Addr} (h:Sent w g a) (hw:Same S w w') (b: ¬S g):Sent w' g a:=hw.cell b h
theorem Sent.cell {g:Nat} {a:Addr} (h:Sent w g a):w.cell? ⟨g,0,none⟩=some (.iface xA (.pointer (some a))):=h
def erv (a:Addr):Value:= .iface xA (.pointer (some a))
structure Errs (F:Nat→Prop) (w:World) (ar ab:Addr):Prop where
 room:Sent w qW ar
 bits:Sent w yY ab
 off: ¬F qW∧¬F yY
theorem Errs.mv {ar ab:Addr} (h:Errs F w ar ab) (hm:Mv F w F' w'):Errs F' w' ar ab:=by
 have c:=h.room.lt;have d:=h.bits.lt
 obtain⟨a,b⟩:=h.off
 exact⟨h.room.same hm.same a,h.bits.same hm.same b,hm.off a c,hm.off b d⟩
theorem Errs.to {ar ab:Addr} {w0:World} (h:Errs F w ar ab) (a:Errs Fx w0 ar ab) (hs:Same S w w') (c:∀b,S b→w0.heap.size≤b):Errs F w' ar ab:=by
 have d:=a.room.lt;have e:=a.bits.lt
 have key:∀b,b<w0.heap.size→¬S b:=fun b f hs=>by have:=c b hs;omega
 exact⟨h.room.same hs (key _ d),h.bits.same hs (key _ e),h.off⟩
def yG (g:M.Gt):List Value:=[.bool g.x,.int .i64 g.a,.int .i64 g.b]
def GatesR (F:Nat→Prop) (w:World) (v:Value) (gs:M.Gs):Prop:=Sl F w 3 v (gs.map yG)
def OwnG (w:World) (v:Value) (gs:M.Gs):Prop:=Own PP 0 3 zn w v (gs.map yG)
structure CktR (n:Nat) (bc:Nat) (w:World) (gs:M.Gs) (v:Value) (mb:Nat):Prop where
 blk:Blk w bc [.int .i64 n,v,.map (some mb)] zU
 own:OwnG w v gs
 map:∃f,GMap w mb f∧∀g,KD g f=if g∈gs then some (2+n+gs.idxOf g:Int) else none
 sep:bc≠mb∧v.ownBlock≠some bc∧v.ownBlock≠some mb
 few:gs.length≤600∧n≤8
def KE (bc mb:Nat) (v:Value) (b:Nat):Prop:=b=bc∨b=mb∨v.ownBlock=some b
section
variable {n bc mb:Nat} {gs:M.Gs} {v:Value}
theorem CktR.same (h:CktR n bc w gs v mb) (hw:Same S w w') (hs:∀b,KE bc mb v b→¬S b):CktR n bc w' gs v mb:=by
 obtain⟨f,c,d⟩:=h.map
 exact⟨h.blk.same hw (hs _ (.inl rfl)),Own.same h.own hw fun b a=>hs b (.inr (.inr a)),⟨f,c.same hw (hs _ (.inr (.inl rfl))),d⟩,h.sep,h.few⟩
theorem CktR.ext (h:CktR n bc w gs v mb) (hw:Ext w w'):CktR n bc w' gs v mb:=h.same hw fun _ _ h=>h
theorem CktR.lt (h:CktR n bc w gs v mb) {b:Nat} (a:KE bc mb v b):b<w.heap.size:=by
 obtain⟨f,c,_⟩:=h.map
 rcases a with rfl|rfl|a
 ·exact h.blk.lt
 ·exact c.lt
 ·exact(Own.lt h.own a).2
end
structure BdR (n bb:Nat) (ar ab:Addr) (X F:Nat→Prop) (w:World) (st:Option M.Gs):Prop where
 err:Errs F w ar ab
 blk:∃bc,Blk w bb [.pointer (some ⟨bc,0,none⟩),match st with|some _=> .nilIface |none=>erv ar] zZ∧∀gs,st=some gs→∃v mb,CktR n bc w gs v mb∧¬KE bc mb v bb∧∀b,KE bc mb v b→F b
 foot:F bb
 lt:∀b,F b∨X b→b<w.heap.size
section
variable {n bb:Nat} {ar ab:Addr} {st:Option M.Gs}
theorem BdR.upd {w0:World} {f:Nat→Prop} (h:BdR n bb ar ab X F w st) (g:Errs f w0 ar ab) (c:Same S w w') (hs:∀b,S b→w0.heap.size≤b∧¬F b):BdR n bb ar ab X F w' st:=by
 obtain⟨bc,j,k⟩:=h.blk
 refine⟨h.err.to g c fun b a=>(hs b a).1,⟨bc,j.same c fun a=>(hs _ a).2 h.foot,fun gs e=>?_⟩,h.foot,fun b a=>by have:=h.lt b a;have:=c.size;omega⟩
 obtain⟨v,mb,l,i,d⟩:=k gs e
 exact⟨v,mb,l.same c fun b a m=>(hs b m).2 (d b a),i,d⟩
theorem BdR.ext (h:BdR n bb ar ab X F w st) (hw:Ext w w'):BdR n bb ar ab X F w' st:=h.upd h.err hw fun _ h=>h.elim
end
end
end Go.Proofs.YtaekfnbnhjgboaaGreatDoor
end
section
namespace Go.Proofs.YtaekfnbnhjgboaaGreatDoor
open Go Go.Vc Go.Proofs
variable {w:World} {K:Value→World→Prop} {F F' Fx Fy X:Nat→Prop} {n bc mb:Nat} {gs:M.Gs} {v:Value}
theorem Blk.ldTake {b:Nat} {us r:List Value} {t0 t:TypeId} (h:Blk w b (us++r) t0) (a:aggB PP t us.length=true):ze PP t (.pointer (some ⟨b,0,none⟩)) w K=K (.agg ⟨us⟩) w:=by
 refine y60 a fun i x hi=>?_
 rw[xj,Nat.zero_add]
 refine h.cell ?_
 rw[List.getElem?_append_left (by have:=(List.getElem?_eq_some_iff.1 hi).1;exact this)]
 exact hi
theorem node_spec {l:Int} (b:l.natAbs≤1000000) (a:K (.int .i64 (M.absI l)) w):vcall PP yf #[.int .i64 l] w K:=by
 apply WB
 unfold M.absI at a
 simp only[push_cast]
 refine zh (fun h=>?_) (fun h=>?_)
 ·rw[if_pos h] at a
  simp(disch:=omega) only[push_cast,zE,Int.zero_sub]
  exact a
 ·rw[if_neg h] at a
  exact a
theorem turned_spec {l:Int} {c:Bool} (b:l.natAbs≤1000000) (a:K (.int .i64 (M.turnI c l)) w):vcall PP xR #[.int .i64 l,.bool c] w K:=by
 apply KG
 refine y3 (fun h=>?_) (fun h=>?_)
 ·subst h
  simp(disch:=omega) only[push_cast,zE,Int.zero_sub]
  exact a
 ·subst h
  exact a
theorem nodes_spec {k:Nat} (e:k≤1000000) (f:n≤1000000) (c:∀w',Ext w w'→K (.int .i64 (1+n+k:Int)) w'):vcall PP qf #[.agg ⟨[.int .i64 n,v]⟩,.int .i64 k] w K:=by
 apply zU0
 refine zy fun b h d he g a=>?_
 simp(disch:=first|(simp only[push_cast];done)|omega) only[push_cast,a.ld0,zE]
 exact c _ he
def Q60 (g:M.Gt):M.Gt:=if M.absI g.b<M.absI g.a then⟨g.x,g.b,g.a⟩ else g
theorem xX0 (gs:M.Gs):(gs.map yG).length=gs.length:=List.length_map _
theorem gate_spec {g:M.Gt} (h:CktR n bc w gs v mb) (ha:g.a.natAbs≤1000000) (C:g.b.natAbs≤1000000)
  (U:∀w' v',CktR n bc w' (M.putG n gs (Q60 g)).1 v' mb→Same (KE bc mb v) w w'→(∀b,v'.ownBlock=some b→v.ownBlock=some b∨w.heap.size≤b)→K (.int .i64 (M.putG n gs (Q60 g)).2) w'):
  vcall PP qK #[.pointer (some ⟨bc,0,none⟩),gv g] w K:=by
 apply W3
 refine zy fun gb w1 b4 a8 b5 am=>?_
 have hf:=h.few
 refine zI (fun u w'=>Ext w w'∧Blk w' gb (yG (Q60 g)) zp) ?_ ?_
 ·intro J hJ
  refine zr fun w2 V _=>?_
  have d:=am.ext V
  simp(disch:=first|(simp only[push_cast];done)|omega) only[push_cast,d.ld1,d.ld2,true_and]
  refine node_spec ha ?_
  simp(disch:=first|(simp only[push_cast];done)|omega) only[push_cast,d.ld1,d.ld2,true_and,and_self]
  refine node_spec C ?_
  simp only[push_cast,true_and]
  refine zh (fun c=>?_) (fun c=>?_)
  ·simp(disch:=first|(simp only[push_cast];done)|omega) only[push_cast,d.ld1,d.ld2]
   refine d.st rfl rfl km rfl fun w3 ax _ an=>?_
   refine Blk.st (i:=2) an rfl rfl km rfl fun w4 ay _ ao=>?_
   refine hJ _ _ ⟨Ext.then (a8.trans V) (ax.trans ay) fun x s=>by omega,?_⟩
   unfold Q60
   rw[if_pos c]
   exact ao
  ·refine hJ _ _ ⟨a8.trans V,?_⟩
   unfold Q60
   rw[if_neg c]
   exact d
 rintro u _ w5 ⟨aq,a2⟩
 generalize Q60 g=o at U a2
 refine zr fun w6 a9 _=>?_
 have e6:=aq.trans a9
 have R:=h.ext e6
 have a3:=a2.ext a9
 obtain⟨f,ar,E⟩:=R.map
 have D:∀w':World,Blk w' gb (yG o) zp→∀K:Value→World→Prop,ze PP zp (.pointer (some ⟨gb,0,none⟩)) w' K=K (gv o) w':=fun w' hB K=>Blk.ldAgg hB (by exact qq)
 have t:=E o
 have av:=D _ a3
 simp(disch:=first|(simp only[push_cast];done)|omega) only[push_cast,R.blk.ld2,true_and,av,Qb0 ar]
 by_cases hm:o∈gs
 ·rw[if_pos hm] at t
  simp only[t,push_cast,true_and,and_self]
  have e1:M.putG n gs o=(gs,(2+n+gs.idxOf o:Int)):=by unfold M.putG;rw[if_pos hm]
  rw[e1] at U
  exact U _ _ R (Same.of_ext e6) fun b C=> .inl C
 rw[if_neg hm] at t
 simp only[t,push_cast,true_and,and_self]
 have az:=Own.sl R.own
 simp(disch:=first|(simp only[push_cast];done)|omega) only[push_cast,R.blk.ld1,az.len,xX0]
 refine zh (fun hl=>?_) (fun hl=>?_)
 ·have e1:M.putG n gs o=(gs,0):=by unfold M.putG;rw[if_neg hm,if_pos (by omega)]
  rw[e1] at U
  exact U _ _ R (Same.of_ext e6) fun b C=> .inl C
 have e1:M.putG n gs o=(gs++[o],(2+n+gs.length:Int)):=by unfold M.putG;rw[if_neg hm,if_neg (by omega)]
 rw[e1] at U
 refine zr fun w7 W _=>?_
 have e7:=e6.trans W
 have h7:=R.ext W
 have a4:=a3.ext W
 have aw:=D _ a4
 simp(disch:=first|(simp only[push_cast];done)|omega) only[push_cast,h7.blk.ld1,true_and,aw]
 refine YY ke (by kernel_rfl) YV (y:=yG o) rfl rfl (show 3≤16777216 by decide) fun b8 w8 b3 X b6 ap=>?_
 have e8:=e7.trans X
 have h8:=h7.ext X
 have a6:=a4.ext X
 have s8:=e8.size
 simp(disch:=first|(simp only[push_cast];done)|omega) only[push_cast,h8.blk.ld1,true_and,and_self]
 refine Own.app1k (bs:=24) h8.own jj (by decide) ap rfl (fun c hc=>by simp only[yG,List.mem_cons,List.not_mem_nil,or_false] at hc;rcases hc with rfl|rfl|rfl<;>rfl) (by rw[xX0];omega) (by rw[xX0];omega) fun v' w9 a0 F Z=>?_
 have lbc:bc<w.heap.size:=h.lt (.inl rfl)
 have lmb:mb<w.heap.size:=h.lt (.inr (.inl rfl))
 have a5:=h8.blk.same F fun s=>h.sep.2.1 s
 have ae: ¬v.ownBlock=some gb:=fun s=>by have:=(Own.lt h.own s).2;omega
 have a7:=a6.same F ae
 refine Blk.st (i:=1) a5 (Sl.cells1 (Own.sl a0)) (Sl.one (Own.sl a0)) zb0 rfl fun al p b1 z=>?_
 have z:Blk al bc [.int .i64 n,v',.map (some mb)] zU:=z
 have L:v'.ownBlock≠some bc:=fun s=>(Z bc s).elim h.sep.2.1 fun h=>by omega
 have P:v'.ownBlock≠some mb:=fun s=>(Z mb s).elim h.sep.2.2 fun h=>by omega
 have aj:OwnG al v' (gs++[o]):=by
  have:=a0.same p fun b C s=>L (by rw[←s];exact C)
  unfold OwnG;rw[List.map_append];exact this
 have S:=a7.same p (show¬gb=bc by omega)
 obtain⟨f,ad,E⟩:=h8.map
 have aa:=(ad.same F h.sep.2.2).same p (fun e=>h.sep.1 e.symm)
 refine zr fun G j _=>?_
 have m:=z.ext j
 have Q:=Own.ext aj j
 have A:=S.ext j
 have af:=D _ A
 have a1:=Own.sl Q
 have ai:∀K:Value→World→Prop,ze PP zg (.pointer (some ⟨bc,0,none⟩)) G K=K (.agg ⟨[.int .i64 n,v']⟩) G:=fun K=>Blk.ldTake (us:=[.int .i64 n,v']) (r:=[.map (some mb)]) m y5
 have au:(List.map yG (gs++[o])).length=gs.length+1:=by rw[xX0,List.length_append];rfl
 have hlen:∀K:Value→World→Prop,vbi PP .len [zn] zd [v'] G K=K (.int .i64 ((gs.length+1:Nat):Int)) G:=fun K=>by rw[a1.len qg,au]
 simp(disch:=first|(simp only[push_cast];done)|omega) only[push_cast,m.ld1,m.ld2,true_and,af,ai,hlen]
 rw[show((gs.length:Int)+1)=((gs.length+1:Nat):Int) from by omega]
 refine nodes_spec (by omega) (by omega) fun b7 k=>?_
 rw[show(1+(n:Int)+((gs.length+1:Nat):Int))=2+n+gs.length from by omega]
 have H:=m.ext k
 have B:=A.ext k
 have ag:=D _ B
 simp(disch:=first|(simp only[push_cast];done)|omega) only[push_cast,H.ld2,true_and,ag,and_self]
 have ab:=aa.ext (j.trans k)
 have t:KD o f=none:=by rw[E,if_neg hm]
 refine gset ab t fun b9 ac q b2=>?_
 refine zr fun b0 l _=>?_
 have I:=(H.same q h.sep.1).ext l
 have T:=(B.same q (show¬gb=mb by omega)).ext l
 have ah:=D _ T
 have N:=ac.ext l
 have ak:OwnG b0 v' (gs++[o]):=Own.ext (Own.same (Own.ext Q k) q fun b C s=>P (by rw[←s];exact C)) l
 have O:∀g,KD g (f++[(o,(2+n+gs.length:Int))])=if g∈gs++[o] then some (2+n+(gs++[o]).idxOf g:Int) else none:=fun g=>by
  have e:=look_app (g:=g) (h:=o) (n:=(2+n+gs.length:Int)) (f:=f) (i:=0)
  have e2:=E g
  unfold KD at e2⊢
  rw[e,e2]
  by_cases hg:g∈gs
  ·rw[if_pos hg,if_pos (List.mem_append.2 (.inl hg)),List.idxOf_append,if_pos hg]
  ·rw[if_neg hg]
   by_cases ho:g=o
   ·subst ho
    simp only
    rw[if_pos trivial,if_pos (by simp),List.idxOf_append,if_neg hg]
    simp
   ·simp only
    rw[if_neg ho,if_neg (by simp[hg,ho])]
 have Y:=O o
 rw[if_pos (by simp),List.idxOf_append,if_neg hm] at Y
 simp only[List.idxOf_cons_self,Nat.add_zero] at Y
 simp(disch:=first|(simp only[push_cast];done)|omega) only[push_cast,I.ld2,true_and,ah,Jo0 N,Y,and_self]
 refine U _ v' ⟨I,ak,⟨_,N,O⟩,⟨h.sep.1,L,P⟩,?_,hf.2⟩ ?_ fun b C=>(Z b C).imp id fun h=>by omega
 ·rw[List.length_append];simp;omega
 ·refine Same.thn (Same.of_ext e8) ((((F.mono (S':=KE bc mb v) fun x _ h=> .inr (.inr h)).trans (p.mono fun x _ h=> .inl h)).trans (Same.of_ext (j.trans k))).trans ((q.mono fun x _ h=> .inr (.inl h)).trans (Same.of_ext l))) fun x s=> .inl s
end Go.Proofs.YtaekfnbnhjgboaaGreatDoor
end
section
namespace Go.Proofs.YtaekfnbnhjgboaaGreatDoor
open Go Go.Vc Go.Proofs
variable {w:World} {K:Value→World→Prop} {F F' Fx Fy X:Nat→Prop} {n bc mb bb:Nat} {gs:M.Gs} {v:Value} {ar ab:Addr} {st:Option M.Gs}
theorem absI_le {a:Int} {m:Nat} (h:a.natAbs≤m):(M.absI a).natAbs≤m:=by unfold M.absI;split<;>omega
theorem y80 {c:Bool} {a:Int}:(M.turnI c a).natAbs=a.natAbs:=by cases c<;>simp[M.turnI]
theorem put_abs {g:M.Gt} (h:gs.length≤600) (a:n≤8):(M.putG n gs g).2.natAbs≤1000:=by
 unfold M.putG
 split
 ·next hm=>have:=List.idxOf_lt_length_iff.2 hm;show(2+(n:Int)+(gs.idxOf g:Nat)).natAbs≤1000;omega
 ·split
  ·show(0:Int).natAbs≤1000;decide
  ·show(2+(n:Int)+(gs.length:Nat)).natAbs≤1000;omega
theorem YK0 {a b:Int} (h:gs.length≤600) (c:n≤8) (d:a.natAbs≤1000) (e:b.natAbs≤1000):(M.andG n gs a b).2.natAbs≤1000:=by
 unfold M.andG
 repeat' split
 all_goals first|exact put_abs h c|(show(-1:Int).natAbs≤1000;decide)|assumption
theorem ZK0 {a b:Int} (h:gs.length≤600) (c:n≤8) (d:a.natAbs≤1000) (e:b.natAbs≤1000):(M.xorG n gs a b).2.natAbs≤1000:=by
 unfold M.xorG
 repeat' split
 all_goals first|(show(-1:Int).natAbs≤1000;decide)|(show(1:Int).natAbs≤1000;decide)|(simp only[y80];first|exact put_abs h c|assumption)
theorem QP0 (a b:Int):zC PP zp [(1,.int .i64 a),(2,.int .i64 b)] w K=K (gv ⟨false,a,b⟩) w:=ye QF (us:=[[.int .i64 a],[.int .i64 b]]) rfl rfl
theorem cand_spec {a b:Int} (h:CktR n bc w gs v mb) (i:a.natAbs≤1000) (e:b.natAbs≤1000)
  (d:∀w' v',CktR n bc w' (M.andG n gs a b).1 v' mb→Same (KE bc mb v) w w'→(∀b,v'.ownBlock=some b→v.ownBlock=some b∨w.heap.size≤b)→K (.int .i64 (M.andG n gs a b).2) w'):
  vcall PP kE #[.pointer (some ⟨bc,0,none⟩),.int .i64 a,.int .i64 b] w K:=by
 apply WG
 unfold M.andG at d
 try simp only[push_cast]
 refine zh (fun c=>?_) (fun f=>?_)
 ·rw[if_pos (.inl c)] at d
  exact d _ _ h (Same.refl _ _) fun b e=> .inl e
 try simp only[push_cast]
 refine zh (fun c=>?_) (fun g=>?_)
 ·rw[if_pos (.inr c)] at d
  exact d _ _ h (Same.refl _ _) fun b e=> .inl e
 rw[if_neg (fun h=>h.elim f g)] at d
 try simp only[push_cast]
 refine zh (fun c=>?_) (fun c=>?_)
 ·rw[if_pos c] at d
  exact d _ _ h (Same.refl _ _) fun b e=> .inl e
 rw[if_neg c] at d
 try simp only[push_cast]
 refine zh (fun c=>?_) (fun c=>?_)
 ·rw[if_pos c] at d
  exact d _ _ h (Same.refl _ _) fun b e=> .inl e
 rw[if_neg c] at d
 try simp only[push_cast]
 refine zh (fun c=>?_) (fun c=>?_)
 ·rw[if_pos c] at d
  exact d _ _ h (Same.refl _ _) fun b e=> .inl e
 rw[if_neg c] at d
 try simp(disch:=omega) only[push_cast,zE,Int.zero_sub]
 refine zh (fun c=>?_) (fun c=>?_)
 ·rw[if_pos c] at d
  exact d _ _ h (Same.refl _ _) fun b e=> .inl e
 rw[if_neg c] at d
 rw[QP0]
 exact gate_spec h (by show a.natAbs≤_;omega) (by show b.natAbs≤_;omega) d
theorem XU0 (a b:Int):zC PP zp [(0,.bool true),(1,.int .i64 a),(2,.int .i64 b)] w K=K (gv ⟨true,a,b⟩) w:=ye QF (us:=[[.bool true],[.int .i64 a],[.int .i64 b]]) rfl rfl
theorem absI_abs (a:Int):M.absI (M.absI a)=M.absI a:=by
 unfold M.absI
 by_cases h:a<0
 ·rw[if_pos h,if_neg (by omega)]
 ·rw[if_neg h,if_neg h]
theorem ordX (a b:Int):Q60 ⟨true,M.absI a,M.absI b⟩=M.gateX a b:=by unfold Q60 M.gateX;simp only[absI_abs]
theorem cxor_spec {a b:Int} (h:CktR n bc w gs v mb) (j:a.natAbs≤1000) (e:b.natAbs≤1000)
  (d:∀w' v',CktR n bc w' (M.xorG n gs a b).1 v' mb→Same (KE bc mb v) w w'→(∀b,v'.ownBlock=some b→v.ownBlock=some b∨w.heap.size≤b)→K (.int .i64 (M.xorG n gs a b).2) w'):
  vcall PP kD #[.pointer (some ⟨bc,0,none⟩),.int .i64 a,.int .i64 b] w K:=by
 apply WF
 unfold M.xorG at d
 refine node_spec (by omega) ?_
 try simp only[push_cast]
 refine zh (fun c=>?_) (fun c=>?_)
 ·rw[if_pos c] at d
  try simp only[push_cast]
  exact turned_spec (by omega) (d _ _ h (Same.refl _ _) fun b e=> .inl e)
 rw[if_neg c] at d
 refine node_spec (by omega) ?_
 try simp only[push_cast]
 refine zh (fun c=>?_) (fun c=>?_)
 ·rw[if_pos c] at d
  try simp only[push_cast]
  exact turned_spec (by omega) (d _ _ h (Same.refl _ _) fun b e=> .inl e)
 rw[if_neg c] at d
 try simp only[push_cast]
 refine zh (fun c=>?_) (fun c=>?_)
 ·rw[if_pos c] at d
  exact d _ _ h (Same.refl _ _) fun b e=> .inl e
 rw[if_neg c] at d
 try simp(disch:=omega) only[push_cast,zE,Int.zero_sub]
 refine zh (fun c=>?_) (fun c=>?_)
 ·rw[if_pos c] at d
  exact d _ _ h (Same.refl _ _) fun b e=> .inl e
 rw[if_neg c] at d
 refine node_spec (by omega) (node_spec (by omega) ?_)
 rw[XU0]
 have k:=put_abs (g:=M.gateX a b) h.few.1 h.few.2
 refine gate_spec h (absI_le (by omega)) (absI_le (by omega)) fun w' v' f hs i=>?_
 rw[ordX] at f⊢
 try simp only[push_cast]
 refine turned_spec (l:=(M.putG n gs (M.gateX a b)).2) (by omega) ?_
 exact d _ _ f hs i
theorem Qx0:zq PP .eql yS true .nilIface .nilIface w K=K (.bool true) w:=yL (by kernel_rfl) (by kernel_rfl)
theorem VE:zq PP .neq yS true .nilIface .nilIface w K=K (.bool false) w:=yL (by kernel_rfl) (by kernel_rfl)
theorem qz0 {a:Addr}:zq PP .neq yS true (erv a) .nilIface w K=K (.bool true) w:=yL (by kernel_rfl) (by kernel_rfl)
theorem yv0 {p e:Value} (a:K (.tuple #[]) w):vcall PP ym #[p,.bool false,e] w K:=by
 apply Yz
 simp only[push_cast]
 exact a
theorem XJ0 {p:Value} {a:Addr} (c:Blk w bb [p,.nilIface] zZ) (d:∀w',Same (· =bb) w w'→Blk w' bb [p,erv a] zZ→K (.tuple #[]) w'):
  vcall PP ym #[.pointer (some ⟨bb,0,none⟩),.bool true,erv a] w K:=by
 apply Yz
 simp(disch:=first|(simp only[push_cast];done)|omega) only[push_cast,c.ld1,Qx0]
 refine Blk.st (i:=1) c rfl rfl Qg0 rfl fun w' hs _ b=>d w' hs b
end Go.Proofs.YtaekfnbnhjgboaaGreatDoor
end
section
namespace Go.Proofs.YtaekfnbnhjgboaaGreatDoor
open Go Go.Vc Go.Proofs
variable {w:World} {K:Value→World→Prop} {F F' Fx Fy X:Nat→Prop} {n bc mb bb:Nat} {gs:M.Gs} {v:Value} {ar ab:Addr} {st:Option M.Gs}
theorem BdR.pre {w':World} {bc mb:Nat} {gs gs':M.Gs} {v v':Value} (h:BdR n bb ar ab X F w (some gs)) (g:Blk w bb [.pointer (some ⟨bc,0,none⟩),.nilIface] zZ) (d: ¬KE bc mb v bb) (hF:∀b,KE bc mb v b→F b)
  (i:CktR n bc w' gs' v' mb) (hs:Same (KE bc mb v) w w') (j:∀b,v'.ownBlock=some b→v.ownBlock=some b∨w.heap.size≤b):
  BdR n bb ar ab X (fun b=>F b∨v'.ownBlock=some b) w' (some gs')∧Mv F w (fun b=>F b∨v'.ownBlock=some b) w':=by
 have hm:Mv F w (fun b=>F b∨v'.ownBlock=some b) w':=⟨hs.mono fun x _ a=>hF x a,fun b c=>c.elim .inl fun c=>(j b c).imp (fun h=>hF b (.inr (.inr h))) id⟩
 refine⟨⟨h.err.mv hm,⟨bc,g.same hs d,fun k e=>?_⟩,.inl h.foot,fun b c=>?_⟩,hm⟩
 ·cases e
  refine⟨v',mb,i,?_,?_⟩
  ·rintro(a|a|a)
   ·exact d (.inl a)
   ·exact d (.inr (.inl a))
   ·rcases j _ a with f|f
    ·exact d (.inr (.inr f))
    ·have:=g.lt;omega
  ·rintro b (a|a|a)
   ·exact .inl (hF b (.inl a))
   ·exact .inl (hF b (.inr (.inl a)))
   ·exact .inr a
 ·rcases c with(c|c)|c
  ·have:=h.lt b (.inl c);have:=hs.size;omega
  ·exact i.lt (.inr (.inr c))
  ·have:=h.lt b (.inr c);have:=hs.size;omega
theorem made_spec {s:Int} (h:BdR n bb ar ab X F w (some gs)) (d:∀w',BdR n bb ar ab X F w' (if s=0 then none else some gs)→Mv F w F w'→K (.int .i64 (if s=0 then-1 else s)) w'):
  vcall PP qL #[.pointer (some ⟨bb,0,none⟩),.int .i64 s] w K:=by
 apply W7
 obtain⟨bc,f,j⟩:=h.blk
 simp only at f
 simp only[push_cast,xY J6 h.err.room.cell]
 by_cases hs:s=0
 ·rw[if_pos hs,if_pos hs] at d
  rw[decide_eq_true hs]
  refine XJ0 f fun w' c a=>?_
  have hm:Mv F w F w':=⟨c.mono fun x _ i=>i▸h.foot,fun b g=> .inl g⟩
  simp(disch:=first|(simp only[push_cast];done)|omega) only[push_cast,a.ld1,qz0]
  exact d _ ⟨h.err.mv hm,⟨bc,a,fun _ e=>by cases e⟩,h.foot,fun b g=>by have:=h.lt b g;have:=c.size;omega⟩ hm
 ·rw[if_neg hs,if_neg hs] at d
  rw[decide_eq_false hs]
  refine yv0 ?_
  simp(disch:=first|(simp only[push_cast];done)|omega) only[push_cast,f.ld1,VE]
  exact d _ h Mv.refl
abbrev Sm (x:Int):Prop:=x.natAbs≤1000
theorem bout {x y s:Int} {p:M.Bd Int} {a:M.Gs} (b:p.run n gs=if s=0 then none else some (a,s)) (c:p.Reach (-1)):M.Bd.Out n p (some gs) (if s=0 then none else some a) (if s=0 then-1 else s):=by
 by_cases hs:s=0
 ·rw[if_pos hs] at b;rw[if_pos hs,if_pos hs];exact .inr ⟨b,rfl,c⟩
 ·rw[if_neg hs] at b;rw[if_neg hs,if_neg hs];exact .inl ⟨a,b,rfl⟩
theorem kQ {x y:Int} (h:BdR n bb ar ab X F w st) (k:Sm x) (l:Sm y)
  (j:∀w' F' st' r,BdR n bb ar ab X F' w' st'→Mv F w F' w'→Sm r→M.Bd.Out n (.and x y .ret) st st' r→K (.int .i64 r) w'):
  vcall PP yu #[.pointer (some ⟨bb,0,none⟩),.int .i64 x,.int .i64 y] w K:=by
 apply WM
 obtain⟨bc,a,p⟩:=h.blk
 cases st with
 |none=>
  simp only at a
  simp(disch:=first|(simp only[push_cast];done)|omega) only[push_cast,a.ld1,qz0]
  exact j _ _ none (-1) h Mv.refl (by decide) ⟨rfl,-1,rfl⟩
 |some gs=>
  simp only at a
  obtain⟨v,mb,c,b,hF⟩:=p gs rfl
  simp(disch:=first|(simp only[push_cast];done)|omega) only[push_cast,a.ld0,a.ld1,VE]
  refine cand_spec c k l fun s v1 d i g=>?_
  obtain⟨m,e⟩:=h.pre a b hF d i g
  have q:=YK0 (n:=n) c.few.1 c.few.2 k l
  refine made_spec m fun t o f=>j _ _ _ _ o (e.trans f) ?_ (bout (x:=x) (y:=y) rfl ⟨-1,rfl⟩)
  split
  ·decide
  ·exact q
theorem JO {x y:Int} (h:BdR n bb ar ab X F w st) (k:Sm x) (l:Sm y)
  (j:∀w' F' st' r,BdR n bb ar ab X F' w' st'→Mv F w F' w'→Sm r→M.Bd.Out n (.xor x y .ret) st st' r→K (.int .i64 r) w'):
  vcall PP xo #[.pointer (some ⟨bb,0,none⟩),.int .i64 x,.int .i64 y] w K:=by
 apply WH
 obtain⟨bc,a,p⟩:=h.blk
 cases st with
 |none=>
  simp only at a
  simp(disch:=first|(simp only[push_cast];done)|omega) only[push_cast,a.ld1,qz0]
  exact j _ _ none (-1) h Mv.refl (by decide) ⟨rfl,-1,rfl⟩
 |some gs=>
  simp only at a
  obtain⟨v,mb,c,b,hF⟩:=p gs rfl
  simp(disch:=first|(simp only[push_cast];done)|omega) only[push_cast,a.ld0,a.ld1,VE]
  refine cxor_spec c k l fun s v1 d i g=>?_
  obtain⟨m,e⟩:=h.pre a b hF d i g
  have q:=ZK0 (n:=n) c.few.1 c.few.2 k l
  refine made_spec m fun t o f=>j _ _ _ _ o (e.trans f) ?_ (bout (x:=x) (y:=y) rfl ⟨-1,rfl⟩)
  split
  ·decide
  ·exact q
theorem qx {α:Type} {x y r:Int} {k:Int→M.Bd α} {a:α} {st st' b:Option M.Gs} (h:M.Bd.Out n (.and x y .ret) st st' r) (c:M.Bd.Out n (k r) st' b a):M.Bd.Out n (.and x y k) st b a:=M.Bd.Out.bind (f:=k) h c
theorem YW {α:Type} {x y r:Int} {k:Int→M.Bd α} {a:α} {st st' b:Option M.Gs} (h:M.Bd.Out n (.xor x y .ret) st st' r) (c:M.Bd.Out n (k r) st' b a):M.Bd.Out n (.xor x y k) st b a:=M.Bd.Out.bind (f:=k) h c
theorem bor_spec {x y:Int} (h:BdR n bb ar ab X F w st) (i:Sm x) (j:Sm y)
  (d:∀w' F' st' r,BdR n bb ar ab X F' w' st'→Mv F w F' w'→Sm r→M.Bd.Out n (M.orB x y) st st' r→K (.int .i64 r) w'):
  vcall PP xV #[.pointer (some ⟨bb,0,none⟩),.int .i64 x,.int .i64 y] w K:=by
 apply UU
 simp(disch:=omega) only[push_cast,zE,Int.zero_sub]
 refine kQ h (by unfold Sm at*;omega) (by unfold Sm at*;omega) fun l g f k c a e b=>?_
 simp(disch:=omega) only[push_cast,zE,Int.zero_sub]
 exact d _ _ _ _ c a (by unfold Sm at*;omega) (qx b (M.Bd.Out.ret _ _))
theorem bmux_spec {c x y:Int} (h:BdR n bb ar ab X F w st) (q:Sm c) (s:Sm x) (t:Sm y)
  (p:∀w' F' st' r,BdR n bb ar ab X F' w' st'→Mv F w F' w'→Sm r→M.Bd.Out n (M.muxB c x y) st st' r→K (.int .i64 r) w'):
  vcall PP yN #[.pointer (some ⟨bb,0,none⟩),.int .i64 c,.int .i64 x,.int .i64 y] w K:=by
 apply WJ
 refine kQ h q s fun G z u C l a i e=>?_
 simp(disch:=omega) only[push_cast,zE,Int.zero_sub]
 refine kQ l (by unfold Sm at*;omega) t fun H A st2 D m b j f=>?_
 refine bor_spec m i j fun I B v E o d k g=>?_
 exact p _ _ _ _ o (a.trans (b.trans d)) k (qx e (qx f g))
end Go.Proofs.YtaekfnbnhjgboaaGreatDoor
end
section
namespace Go.Vc
open Go
section
variable {P:Program} {w w':World} {K:Value→World→Prop} {F:Nat→Prop} {t:TypeId} {v:Value}
theorem Sl.cutLH {k lo hi:Nat} {xs:List (List Value)} {kl kh:IntKind} (h:Sl F w k v xs) (r:elB P t k=true) (y:lo≤hi) (l:hi≤xs.length) (m:∀v',Sl F w k v' ((xs.drop lo).take (hi-lo))→K v' w'):
  yC P t v (some (.int kl lo)) (some (.int kh hi)) none w' K:=by
 obtain⟨hu,hs⟩:=yy0 r
 obtain⟨⟨a,c,rfl,u,p,d⟩,hw⟩:=h
 have hlen:((xs.drop lo).take (hi-lo)).length=hi-lo:=by rw[List.length_take,List.length_drop];omega
 refine⟨_,w',?_,m (sliced a lo hi c k) ⟨⟨_,c-lo,by unfold sliced;rw[hlen],by omega,by omega,fun j=>?_⟩,fun x s=>hw x (List.mem_of_mem_drop (List.mem_of_mem_take s))⟩⟩
 ·rw[run_sliceAt_slice w' t _ _ _ _ hu,run_slice_lh w' t _ _ _ hu kl kh lo hi (by omega) (by omega) (by omega),run_sizeOf hs]
  simp[Result.andThen]
 ·have q:lo<hi:=by
   have:0<((xs.drop lo).take (hi-lo)).length:=List.length_pos_iff.2 j
   omega
  obtain⟨b,o,rfl,hF,n,g⟩:=d (fun e=>by rw[e] at l;simp at l;omega)
  refine⟨b,o+lo*k,?_,hF,n,fun i f=>?_⟩
  ·rw[if_neg (by omega)];simp[xj]
  ·rw[hlen] at f
   have:=g (lo+i) (by omega)
   rw[show o+lo*k+i*k=o+(lo+i)*k by rw[Nat.add_mul];omega]
   rwa[List.getD_eq_getElem?_getD,List.getElem?_take_of_lt f,List.getElem?_drop,←List.getD_eq_getElem?_getD]
theorem Vals.cutLH {lo hi:Nat} {vs:List Value} {kl kh:IntKind} (h:Vals F w v vs) (e:elB P t 1=true) (d:lo≤hi) (c:hi≤vs.length) (b:∀v',Vals F w v' ((vs.drop lo).take (hi-lo))→K v' w'):
  yC P t v (some (.int kl lo)) (some (.int kh hi)) none w' K:=by
 refine Sl.cutLH h e d (by simpa using c) fun v' a=>b v' ?_
 unfold Vals
 rw[List.map_take,List.map_drop];exact a
theorem Ints.cutLH {lo hi:Nat} {xs:List Int} {kl kh:IntKind} (h:Ints F w v xs) (e:elB P t 1=true) (d:lo≤hi) (c:hi≤xs.length) (b:∀v',Ints F w v' ((xs.drop lo).take (hi-lo))→K v' w'):
  yC P t v (some (.int kl lo)) (some (.int kh hi)) none w' K:=by
 refine Vals.cutLH h e d (by simpa using c) fun v' a=>b v' ?_
 unfold Ints
 rw[List.map_take,List.map_drop];exact a
theorem blk_from {b n lo:Nat} {kl:IntKind} (a:elB P t 1=true) (d:lo≤n):
  yC P t (.slice (some ⟨b,0,none⟩) n n) (some (.int kl lo)) none none w K=K (.slice (some ⟨b,if n=lo then 0 else lo,none⟩) (n-lo) (n-lo)) w:=by
 obtain⟨hu,hs⟩:=yy0 a
 refine yH ?_
 rw[run_sliceAt_slice w t _ _ _ _ hu,run_slice_l w t _ _ _ hu kl lo (by omega) (by omega),run_sizeOf hs]
 simp only[Result.andThen,sliced,Int.toNat_natCast]
 by_cases c:n=lo
 ·simp[c]
 ·simp[c,xj]
theorem blk_to {b n hi:Nat} {kl:IntKind} (a:elB P t 1=true) (c:hi≤n):
  yC P t (.slice (some ⟨b,0,none⟩) n n) none (some (.int kl hi)) none w K=K (.slice (some ⟨b,0,none⟩) hi n) w:=by
 obtain⟨hu,hs⟩:=yy0 a
 refine yH ?_
 rw[run_sliceAt_slice w t _ _ _ _ hu,run_slice_h w t _ _ _ hu kl hi (by omega) (by omega),run_sizeOf hs]
 simp[Result.andThen,sliced,xj]
theorem kK0 {e n:Nat} (h:jH P e n=true):(P.info? e).map (·.size)=some n:=by
 unfold jH at h
 cases hi:P.info? e with
 |none=>rw[hi] at h;cases h
 |some i=>rw[hi] at h;simp[Nat.eq_of_beq_eq_true h]
theorem vcopy {t2 ty te:TypeId} {g off dLen dCap sLen sCap:Nat} {ad:Addr} {cur cs:List Value} (n:elB P t 1=true) (c:Blk w g cur te) (l:cs.length=min sLen dLen)
  (b:∀j u,cs[j]?=some u→w.cell? (ad.add j)=some u) (a:off+cs.length≤cur.length) (f:∀u∈cs,u.oneCell'=true)
  (h:∀w',Same (· =g) w w'→w'.heap.size=w.heap.size→Blk w' g (cur.take off++(cs++cur.drop (off+cs.length))) te→K (.int .i64 cs.length) w'):
  vbi P .copy [t,t2] ty [.slice (some ⟨g,off,none⟩) dLen dCap,.slice (some ad) sLen sCap] w K:=by
 obtain⟨hu,hs⟩:=yy0 n
 have m:=run_copy_row (P:=P) w t t2 ty (P.elem t) g off dLen dCap ad sLen sCap ⟨cur⟩ te cs hu (kK0 hs) c l b (by simpa using a) f
 refine⟨_,_,m,h _ ⟨rfl,rfl,rfl,by simp[World.setRow],fun k o e=>setRow_other w g k _ e⟩ (by simp[World.setRow]) ?_⟩
 have i:=c.lt
 have d:w.heap[g]?=some (.cells ⟨cur⟩ te (0,0)):=c
 unfold Blk World.setRow
 simp only[Array.getElem?_modify]
 simp[d,List.append_assoc]
theorem Z40 {t2 ty:TypeId} {d a:Option Addr} {dLen dCap sLen sCap:Nat} (c:elB P t 1=true) (b:min sLen dLen=0):vbi P .copy [t,t2] ty [.slice d dLen dCap,.slice a sLen sCap] w K=K (.int .i64 0) w:=by
 obtain⟨hu,hs⟩:=yy0 c
 exact yH (run_copy_none (P:=P) w t t2 ty (P.elem t) d a dLen dCap sLen sCap hu (kK0 hs) b)
theorem vmkS_blk {bs n:Nat} {z:Value} {u v:IntKind} {e:TypeId} (y:elZ P t 1 bs=true) (he:VR P t=e) (k:yT P e z) (s:z.cells= #[z]) (l:bs*n≤281474976710656) (m:n≤9223372036854775807)
  (x:∀b w',b=w.heap.size→Blk w' b (List.replicate n z) e→Ext w w'→K (.slice (some ⟨b,0,none⟩) n n) w'):Qi0 P t (.int u n) (.int v n) w K:=by
 obtain⟨hu,i,f,hi,d,r,o,F⟩:=kX0 y
 subst he
 have:f=z:=by
  unfold yT at k;rw[hi] at k;simp only[d,Option.some.injEq] at k;exact k
 subst this
 subst o
 obtain⟨w',D,a,q⟩:=run_make_full (P:=P) w 0 t (VR P t) i f 1 hu hi d r u v n l (by simpa[maxLen] using m) (by omega)
 refine⟨_,w',D,x _ w' rfl ?_ ((Same.of_grown q).mono fun _ _ h=>by cases h)⟩
 have e:(madeCells f.cells (n*1)).toList=List.replicate n f:=by
  refine List.ext_getElem (by simp[madeCells]) fun j G H=>?_
  simp[madeCells,s,Nat.mod_one]
 rw[e] at a
 rcases a.2 with⟨h,_⟩|⟨g,cap,cur,E,I,B,C,A,p,c⟩
 ·cases h
 ·cases E
  unfold Blk
  rw[B]
  have:cur.toList=List.replicate n f:=by rw[←c,List.take_of_length_le (by rw[Array.length_toList,p];exact Nat.le_refl _)]
  rw[←this]
theorem vappend_make {bs n:Nat} {ti ty:TypeId} {z:Value} {e:TypeId} (F:elZ P t 1 bs=true) (he:VR P t=e) (p:yT P e z) (A:z.cells= #[z]) (y:P.underlying ti=some (.int .i64)) (B:0<n) (D:n≤1000000) (C:n*bs≤140737488355328)
  (E:∀v' w',OwnV P t w' v' (List.replicate n z)→Ext w w'→(∀b,v'.ownBlock=some b→w.heap.size≤b)→K v' w'):vbi P .append [t,ti] ty [.slice none 0 0,.int .i64 n] w K:=by
 obtain⟨hu,i,o,hi,g,x,s,l⟩:=kX0 F
 subst he
 have:o=z:=by
  unfold yT at p;rw[hi] at p;simp only[g,Option.some.injEq] at p;exact p
 subst this
 subst s
 have q:n*i.bytes≤281474976710656:=by omega
 have c:n≤maxLen:=by simp only[maxLen];omega
 have I:n≠0:=by omega
 have hw:IntKind.i64.wrap (n:Int)=n:=zE (by omega) (by simp only[maxLen] at c;omega)
 have f: ¬(9223372036854775807<(n:Int)):=by simp only[maxLen] at c;omega
 have d: ¬(281474976710656<Builtin.nextslicecap n 0*i.bytes):=by rw[nextslicecap_zero B];omega
 have r: ¬((281474976710656:Int)<(n:Int)*i.bytes):=by
  have h:((n*i.bytes:Nat):Int)≤281474976710656:=by omega
  rw[Int.natCast_mul] at h
  omega
 have J:(Builtin.append_ #[t,ti] ty #[.slice none 0 0,.int .i64 n]).run P w=
   .ok (.slice (some ⟨w.heap.size,0,none⟩) n (grownCap w n 0 (VR P t))) (w.drew.alloc (.cells (Builtin.zeroCells o.cells n++Builtin.zeroCells o.cells (grownCap w n 0 (VR P t)-n)) (VR P t))):=by
  simp[Builtin.append_,run_underlying hu,run_underlying y,sizeOf,typeInfo,zeroValue,hi,g,x,I,hw,f,d,r,asInt,asIntOf,Question.forced,run_firstCells_none,newRow,grownCap]
  intro h
  omega
 have v:=grownCap_ge w n 0 (VR P t)
 have u:grownCap w n 0 (VR P t)≤maxLen:=grownCap_le_maxLen w n 0 (VR P t) c
 have a:∀m,(Builtin.zeroCells o.cells m).toList=List.replicate m o:=fun m=>by
  refine List.ext_getElem (by simp[Builtin.zeroCells,l]) fun j L M=>?_
  simp[Builtin.zeroCells,A,Nat.mod_one]
 refine⟨_,_,J,E _ _ ⟨⟨by simp,.inr ⟨w.heap.size,_,_,by simp,Nat.zero_le _,heap_alloc_new w.drew _,by simpa using v,u,?_,?_⟩⟩,by simp⟩ ⟨rfl,rfl,rfl,by simp,fun k H _=>heap_alloc_old w.drew _ H⟩ fun b G=>by cases G;exact Nat.le_refl _⟩
 ·simp only[Array.size_append,size_zeroCells,l];omega
 ·rw[Array.toList_append,a,a,flat1]
  simp
end
section
open Go.MapKept
theorem ZN0 {P:Program} {w:World} {K:Value→World→Prop} {t e:TypeId} {d:TypeDesc} {b:Nat} {f:List (Value×Value)} {k x:Value} (I:Xs0 P t d e) (h:MapF d w b f) (q:IsKey d k)
  (E:∀w' C,MapF d w' b C→(∀p,p∈C→p=(k,x)∨p∈f)→Same (· =b) w w'→w'.heap.size=w.heap.size→K undef w'):ZH P t (.map (some b)) k x w K:=by
 obtain⟨kt,hm,u⟩:=I
 obtain⟨es,cl,g,s,o,rfl⟩:=h
 rcases findNow_spec q es.toList 0 o with⟨v,A⟩|⟨j,e,v,A,D⟩
 ·refine⟨(),{w with heap:=w.heap.setIfInBounds b (.map (es.push {key:=k,val:=x,born:=cl}) (cl+1))},?_,E _ _ ⟨_,_,(heap_set g).1,stamped_push s A,fun y a=>?_,rfl⟩ (fun p m=>?_) (zX0 g) (by simp)⟩
  ·simp[Instr.mapUpdate,run_underlying hm,MapKept.run_getObj_map g,run_checkKey u q,run_findKey u v,run_setObj_map _ g,Result.andThen]
  ·rw[Array.toList_push] at a
   rcases List.mem_append.1 a with a|a
   ·exact o y a
   ·rw[List.mem_singleton.1 a];exact q
  ·rw[Array.toList_push,List.map_append] at m
   rcases List.mem_append.1 m with m|m
   ·exact .inr m
   ·exact .inl (by simpa using m)
 ·have r:es[j]?=some e:=by simpa using A
  have J:∀y∈es.toList,es[0+j]?=some y→({y with key:=k,val:=x}:MapEntry).key=y.key:=fun y _ a=>by
   rw[Nat.zero_add,r] at a;cases a;exact D.symm
  have l:∀y∈(es.modify (0+j) fun y=>{y with key:=k,val:=x}).toList,(y.key=k∧y.val=x)∨y∈es.toList:=fun y a=>by
   obtain⟨i,hi,G⟩:=List.getElem_of_mem a
   have c:(es.modify (0+j) fun y=>{y with key:=k,val:=x})[i]?=some y:=by
    rw[←Array.getElem?_toList,List.getElem?_eq_getElem hi,G]
   rw[Array.getElem?_modify] at c
   split at c
   ·cases F:es[i]? with
    |none=>rw[F] at c;cases c
    |some z=>rw[F] at c;simp only[Option.map_some,Option.some.injEq] at c;left;rw[←c];exact⟨rfl,rfl⟩
   ·right
    rw[←Array.getElem?_toList] at c
    exact List.mem_of_getElem? c
  refine⟨(),{w with heap:=w.heap.setIfInBounds b (.map (es.modify (0+j) fun y=>{y with key:=k,val:=x}) cl)},?_,E _ _ ⟨_,_,(heap_set g).1,stamped_modify s _ _ (fun _ _=>rfl) J,fun y a=>?_,rfl⟩ (fun p m=>?_) (zX0 g) (by simp)⟩
  ·have B:((es[0+j]?).map (·.key)).getD k=k:=by rw[Nat.zero_add,r];exact D
   simp only[Instr.mapUpdate,Sem.run_bind,run_underlying hm,MapKept.run_getObj_map g,run_checkKey u q,run_findKey u v,Result.andThen,B,run_keyThatStays q,run_setObj_map _ g]
  ·rcases l y a with⟨n,_⟩|n
   ·rw[n];exact q
   ·exact o y n
  ·obtain⟨y,a,rfl⟩:=List.mem_map.1 m
   rcases l y a with⟨n,H⟩|n
   ·exact .inl (by rw[n,H])
   ·exact .inr (List.mem_map.2 ⟨y,n,rfl⟩)
end
end Go.Vc
end
section
namespace Go.Proofs.YtaekfnbnhjgboaaGreatDoor
open Go Go.Vc Go.Proofs
variable {w:World} {K:Value→World→Prop} {F F' Fx Fy X:Nat→Prop} {n bc mb bb:Nat} {gs:M.Gs} {v:Value} {ar ab:Addr} {st:Option M.Gs}
def SmL (xs:List Int):Prop:=∀x,x∈xs→Sm x
theorem SmL.get {xs:List Int} (h:SmL xs) {i:Nat} (hi:i<xs.length):Sm (xs.getD i 0):=h _ (M.getD_mem hi 0)
theorem SmL.app {xs ys:List Int} (h:SmL xs) (a:SmL ys):SmL (xs++ys):=fun x b=>(List.mem_append.1 b).elim (h x) (a x)
theorem SmL.one {x:Int} (h:Sm x):SmL [x]:=fun y a=>by rw[List.mem_singleton.1 a];exact h
theorem SmL.nil:SmL []:=fun x a=>by cases a
theorem xF {xs:List Int} {i:Nat} (hi:i<xs.length):xs.drop i=xs.getD i 0::xs.drop (i+1):=by
 rw[List.drop_eq_getElem_cons hi,List.getD_eq_getElem?_getD,List.getElem?_eq_getElem hi];rfl
theorem Y00 {i:Nat} {xs ys:List Int} {c:Int} (h:xs.length≤i):M.sumB (xs.drop i) ys c= .ret []:=by
 rw[List.drop_eq_nil_of_le h];cases ys<;>rfl
theorem bsum_spec {xv yv:Value} {xs ys:List Int} {c:Int} (h:BdR n bb ar ab X F w st) (hx:Ints (Off X F) w xv xs) (hy:Ints (Off X F) w yv ys) (hl:xs.length≤ys.length) (h8:xs.length≤1000) (L:SmL xs) (P:SmL ys) (hc:Sm c)
  (hK:∀w' F' st' r zs,BdR n bb ar ab X F' w' st'→Mv F w F' w'→NewI X w F' w' r zs→SmL zs→M.Bd.Out n (M.sumB xs ys c) st st' zs→K r w'):
  vcall PP xp #[.pointer (some ⟨bb,0,none⟩),xv,yv,.int .i64 c] w K:=by
 apply WI
 simp(disch:=first|(simp only[push_cast];done)|omega) only[push_cast,hx.len]
 refine vloop_up xs.length (fun i u w'=> ∃v a r zs S,u=[.int .i64 S,r,.int .i64 i]∧BdR n bb ar ab X v w' a∧Mv F w v w'∧NewI X w v w' r zs∧SmL zs∧zs.length=i∧Sm S∧
  ∀st2 rs,M.Bd.Out n (M.sumB (xs.drop i) (ys.drop i) S) a st2 rs→M.Bd.Out n (M.sumB xs ys c) st st2 (zs++rs)) ⟨F,st,_,[],c,rfl,h,Mv.refl,NewI.nil,SmL.nil,rfl,hc,fun _ _ h=>h⟩ ?_
 rintro i _ g w1 C hi ⟨v,a,r,zs,S,rfl,h1,y,G,Q,a8,x,f⟩ hC
 simp only[push_cast]
 refine zh (fun ad=>?_) (fun ac=>?_)
 ·have e:i<xs.length:=by omega
  refine zr fun w2 j _=>?_
  have h2:=h1.ext j
  have m:=y.ext j
  have I:=Ints.mv hx m
  have N:=Ints.mv hy m
  simp(disch:=first|(simp only[push_cast];done)|omega) only[push_cast,I.iaddr,I.load,N.iaddr,N.load,true_and]
  refine JO h2 (L.get e) (P.get (by omega)) fun w3 F3 af d h3 A hd a3=>?_
  refine JO h3 hd x fun w4 U a9 s h4 B hs a4=>?_
  refine yh yW yq yE rfl rfl fun b5 w5 aa k ae W=>?_
  have D:=(m.trans (A.trans B)).ext k
  have h5:=h4.ext k
  have t:NewI X w U w5 r zs:=(G.mv ((Mv.refl.ext j).trans (A.trans B))).mv (Mv.refl.ext k)
  refine t.app1 W D.same.size h5.lt (by omega) fun r6 w6 a7 H=>?_
  have h6:BdR n bb ar ab X U w6 a9:=h5.upd h.err H fun b Y=>t.off b Y
  have a0:Mv F w U w6:=D.to H fun b Y=> .inr (t.off b Y).1
  refine zr fun w7 l _=>?_
  have h7:=h6.ext l
  have o:=a0.ext l
  have J:=Ints.mv hx o
  have O:=Ints.mv hy o
  simp(disch:=first|(simp only[push_cast];done)|omega) only[push_cast,J.iaddr,J.load,O.iaddr,O.load,true_and]
  refine kQ h7 (L.get e) (P.get (by omega)) fun w8 F8 ag p h8 a1 hp a5=>?_
  refine kQ h8 hd x fun w9 F9 ah q h9 a2 hq a6=>?_
  refine bor_spec h9 hp hq fun ai T R c2 V z Z E=>?_
  simp(disch:=omega) only[push_cast,zE]
  have hm:=a1.trans (a2.trans z)
  refine hC e _ _ ⟨T,R,r6,zs++[s],c2,by simp<;>exact⟨rfl,rfl⟩,V,o.trans hm,(a7.mv (Mv.refl.ext l)).mv hm,Q.app (SmL.one hs),by simp[a8],Z,fun st2 rs ho=>?_⟩
  have:=f st2 (s::rs) ?_
  ·simpa using this
  rw[xF e,xF (show i<ys.length by omega)]
  exact YW a3 (YW a4 (qx a5 (qx a6 (M.Bd.Out.bind E (M.Bd.Out.map _ ho)))))
 ·have:=f a [] (by rw[Y00 (by omega)];exact M.Bd.Out.ret _ _)
  rw[List.append_nil] at this
  exact hK w1 v a r zs h1 y G Q this
theorem kS0 {i:Nat} {xs ys:List Int} {r:Int} (h:xs.length≤i):M.lessB (xs.drop i) ys r= .ret r:=by
 rw[List.drop_eq_nil_of_le h];cases ys<;>rfl
theorem bless_spec {xv yv:Value} {xs ys:List Int} (h:BdR n bb ar ab X F w st) (E:Ints (Off X F) w xv xs) (S:Ints (Off X F) w yv ys) (Y:xs.length≤ys.length) (W:xs.length≤1000) (A:SmL xs) (t:SmL ys)
  (N:∀w' F' st' r,BdR n bb ar ab X F' w' st'→Mv F w F' w'→Sm r→M.Bd.Out n (M.lessB xs ys (-1)) st st' r→K (.int .i64 r) w'):
  vcall PP qb #[.pointer (some ⟨bb,0,none⟩),xv,yv] w K:=by
 apply W8
 simp(disch:=first|(simp only[push_cast];done)|omega) only[push_cast,E.len]
 refine vloop_up xs.length (fun i u w'=> ∃v a r,u=[.int .i64 r,.int .i64 i]∧BdR n bb ar ab X v w' a∧Mv F w v w'∧Sm r∧
  ∀st2 q,M.Bd.Out n (M.lessB (xs.drop i) (ys.drop i) r) a st2 q→M.Bd.Out n (M.lessB xs ys (-1)) st st2 q) ⟨F,st,-1,rfl,h,Mv.refl,by decide,fun _ _ h=>h⟩ ?_
 rintro i _ g U C hi ⟨v,a,r,rfl,D,k,m,b⟩ L
 simp only[push_cast]
 refine zh (fun Q=>?_) (fun P=>?_)
 ·have c:i<xs.length:=by omega
  refine zr fun Z j _=>?_
  have H:=D.ext j
  have e:=k.ext j
  have o:=Ints.mv E e
  have f:=Ints.mv S e
  simp(disch:=first|(simp only[push_cast];done)|omega) only[push_cast,o.iaddr,o.load,f.iaddr,f.load,true_and]
  refine JO H (A.get c) (t.get (by omega)) fun w3 V T d I l O y=>?_
  have p:=Ints.mv f l
  simp(disch:=first|(simp only[push_cast];done)|omega) only[push_cast,p.iaddr,p.load,true_and]
  refine bmux_spec I O (t.get (by omega)) m fun w4 G B s J x hs z=>?_
  simp(disch:=omega) only[push_cast,zE]
  refine L c _ _ ⟨G,B,s,by simp<;>exact⟨rfl,rfl⟩,J,e.trans (l.trans x),hs,fun st2 q R=>b st2 q ?_⟩
  rw[xF c,xF (show i<ys.length by omega)]
  exact YW y (M.Bd.Out.bind z R)
 ·exact N U v a r D k m (b a r (by rw[kS0 (by omega)];exact M.Bd.Out.ret _ _))
theorem kL0 {i:Nat} {xs ys:List Int} {r:Int} (h:xs.length≤i):M.sameB (xs.drop i) ys r= .ret r:=by
 rw[List.drop_eq_nil_of_le h];cases ys<;>rfl
theorem bsame_spec {xv yv:Value} {xs ys:List Int} (h:BdR n bb ar ab X F w st) (D:Ints (Off X F) w xv xs) (Q:Ints (Off X F) w yv ys) (W:xs.length≤ys.length) (U:xs.length≤1000) (y:SmL xs) (z:SmL ys)
  (L:∀w' F' st' r,BdR n bb ar ab X F' w' st'→Mv F w F' w'→Sm r→M.Bd.Out n (M.sameB xs ys 1) st st' r→K (.int .i64 r) w'):
  vcall PP jW #[.pointer (some ⟨bb,0,none⟩),xv,yv] w K:=by
 apply W5
 simp(disch:=first|(simp only[push_cast];done)|omega) only[push_cast,D.len]
 refine vloop_up xs.length (fun i u w'=> ∃o a r,u=[.int .i64 r,.int .i64 i]∧BdR n bb ar ab X o w' a∧Mv F w o w'∧Sm r∧
  ∀st2 q,M.Bd.Out n (M.sameB (xs.drop i) (ys.drop i) r) a st2 q→M.Bd.Out n (M.sameB xs ys 1) st st2 q) ⟨F,st,1,rfl,h,Mv.refl,by decide,fun _ _ h=>h⟩ ?_
 rintro i _ g S C hi ⟨o,a,r,rfl,B,j,k,b⟩ J
 simp only[push_cast]
 refine zh (fun O=>?_) (fun N=>?_)
 ·have c:i<xs.length:=by omega
  refine zr fun Y f _=>?_
  have G:=B.ext f
  have e:=j.ext f
  have l:=Ints.mv D e
  have m:=Ints.mv Q e
  simp(disch:=first|(simp only[push_cast];done)|omega) only[push_cast,l.iaddr,l.load,m.iaddr,m.load,true_and]
  refine JO G (y.get c) (z.get (by omega)) fun Z T R d H p V v=>?_
  simp(disch:=omega) only[push_cast,zE,Int.zero_sub]
  refine kQ H k (by unfold Sm at*;omega) fun w4 E A s I t hs x=>?_
  try simp(disch:=omega) only[push_cast,zE]
  refine J c _ _ ⟨E,A,s,by simp<;>exact⟨rfl,rfl⟩,I,e.trans (p.trans t),hs,fun st2 q P=>b st2 q ?_⟩
  rw[xF c,xF (show i<ys.length by omega)]
  exact YW v (qx x P)
 ·exact L S o a r B j k (b a r (by rw[kL0 (by omega)];exact M.Bd.Out.ret _ _))
theorem Clone_signal {xv:Value} {xs:List Int} (d:Ints Fx w xv xs) (y:xs.length≤1000000) (l:∀w' v',Ext w w'→OwnI PP zb w' v' xs→(∀x,v'.ownBlock=some x→w.heap.size≤x)→K v' w'):
  vcall PP y7 #[xv] w K:=by
 apply jo
 obtain⟨a,c,rfl,s,u,f⟩:=d.shape
 simp only[List.length_map] at d s⊢
 rw[Uw xE]
 refine y3 (fun m=>?_) (fun m=>?_)
 ·cases a with
  |some a=>cases m
  |none=>
   have k:xs=[]:=by
    have p:(List.map (fun x=>[x]) (List.map (fun x=>Value.int IntKind.i64 x) xs))=[]:=Classical.byContradiction fun h=>by
     obtain⟨b,o,q,_⟩:=f h;cases q
    simpa using p
   subst k
   exact l w _ (Same.refl _ _) OwnI.nil fun x d=>by cases d
 ·refine qC yW yq fun b n B he C r=>?_
  have g:OwnI PP zb n (.slice (some ⟨b,0,none⟩) 0 0) []:=Blk.own1 (P:=PP) (t:=zb) (cs:=[]) (by rw[xq];exact r) (Nat.zero_le _) rfl rfl (by omega)
  have j:Ints Fx n (.slice a xs.length c) xs:=d.ext he
  refine g.app yX j (by simp;omega) (by simp;omega) fun v' A v hs i=>?_
  have z:=he.size
  refine l A v' (Ext.then he hs fun x d=>by have e:b=x:=Option.some.inj d;omega) v fun x d=>?_
  rcases i x d with h|h
  ·have e:b=x:=Option.some.inj h;omega
  ·omega
end Go.Proofs.YtaekfnbnhjgboaaGreatDoor
end
section
namespace Go.Proofs.YtaekfnbnhjgboaaGreatDoor
open Go Go.Vc Go.Proofs
variable {w:World} {K:Value→World→Prop} {F F' Fx Fy X:Nat→Prop} {n bc mb bb:Nat} {gs:M.Gs} {v:Value} {ar ab:Addr} {st:Option M.Gs}
def QS0 (n bb:Nat) (ar ab:Addr) (X F:Nat→Prop) (w:World) (f:Value) (p:Int→Int→M.Bd Int):Prop:=
 ∀(w1:World) (F1:Nat→Prop) (st1:Option M.Gs) (x y:Int) (K:Value→World→Prop),BdR n bb ar ab X F1 w1 st1→Mv F w F1 w1→Sm x→Sm y→
  (∀w' F' st' r,BdR n bb ar ab X F' w' st'→Mv F1 w1 F' w'→Sm r→M.Bd.Out n (p x y) st1 st' r→K (.int .i64 r) w')→vcallv PP f #[.int .i64 x,.int .i64 y] w1 K
theorem Kf {p:Int→Int→M.Bd Int} {i:Nat} {xs ys:List Int} (h:xs.length≤i):M.eachB p (xs.drop i) ys= .ret []:=by
 rw[List.drop_eq_nil_of_le h];cases ys<;>rfl
theorem each_spec {p:Int→Int→M.Bd Int} {xv yv f:Value} {xs ys:List Int} (h:BdR n bb ar ab X F w st) (R:Ints (Off X F) w xv xs) (hy:Ints (Off X F) w yv ys) (hl:xs.length≤ys.length) (h8:xs.length≤1000) (L:SmL xs) (N:SmL ys)
  (hf:QS0 n bb ar ab X F w f p)
  (Y:∀w' F' st' r zs,BdR n bb ar ab X F' w' st'→Mv F w F' w'→NewI X w F' w' r zs→SmL zs→M.Bd.Out n (M.eachB p xs ys) st st' zs→K r w'):
  vcall PP jS #[xv,yv,f] w K:=by
 apply yI0
 simp(disch:=first|(simp only[push_cast];done)|omega) only[push_cast,R.len]
 refine vloop_up xs.length (fun i u w'=> ∃m a r zs,u=[r,.int .i64 i]∧BdR n bb ar ab X m w' a∧Mv F w m w'∧NewI X w m w' r zs∧SmL zs∧zs.length=i∧
  ∀st2 rs,M.Bd.Out n (M.eachB p (xs.drop i) (ys.drop i)) a st2 rs→M.Bd.Out n (M.eachB p xs ys) st st2 (zs++rs)) ⟨F,st,_,[],rfl,h,Mv.refl,NewI.nil,SmL.nil,rfl,fun _ _ h=>h⟩ ?_
 rintro i _ g w1 C hi ⟨m,a,r,zs,rfl,P,o,v,A,O,d⟩ W
 simp only[push_cast]
 refine zh (fun a1=>?_) (fun a0=>?_)
 ·have k:i<xs.length:=by omega
  refine zr fun w2 e _=>?_
  have T:=P.ext e
  have c:=o.ext e
  have y:=Ints.mv R c
  have z:=Ints.mv hy c
  simp(disch:=first|(simp only[push_cast];done)|omega) only[push_cast,y.iaddr,y.load,z.iaddr,z.load,true_and]
  refine hf w2 m a _ _ _ T c (L.get k) (N.get (by omega)) fun w4 D B s U q hs I=>?_
  refine yh yW yq yE rfl rfl fun b5 w5 Z j a2 E=>?_
  have t:=(c.trans q).ext j
  have Q:=U.ext j
  have l:NewI X w D w5 r zs:=(v.mv ((Mv.refl.ext e).trans q)).mv (Mv.refl.ext j)
  refine l.app1 E t.same.size Q.lt (by omega) fun r6 S J x=>?_
  have V:BdR n bb ar ab X D S B:=Q.upd h.err x fun b G=>l.off b G
  have H:Mv F w D S:=t.to x fun b G=> .inr (l.off b G).1
  simp(disch:=omega) only[push_cast,zE]
  refine W k _ _ ⟨D,B,r6,zs++[s],by simp<;>exact⟨rfl,rfl⟩,V,H,J,A.app (SmL.one hs),by simp[O],fun st2 rs ho=>?_⟩
  have:=d st2 (s::rs) ?_
  ·simpa using this
  rw[xF k,xF (show i<ys.length by omega)]
  exact M.Bd.Out.bind I (M.Bd.Out.map _ ho)
 ·have:=d a [] (by rw[Kf (by omega)];exact M.Bd.Out.ret _ _)
  rw[List.append_nil] at this
  exact Y w1 m a r zs P o v A this
theorem negated_spec {xv:Value} {xs:List Int} (n:Ints Fx w xv xs) (H:xs.length≤1000) (s:SmL xs)
  (v:∀w' r,Ext w w'→OwnI PP zb w' r (M.negL xs)→(∀b,r.ownBlock=some b→w.heap.size≤b)→K r w'):vcall PP qV #[xv] w K:=by
 apply xx0
 apply yI0
 simp(disch:=first|(simp only[push_cast];done)|omega) only[push_cast,n.len]
 refine vloop_up xs.length (fun i u w'=> ∃r,u=[r,.int .i64 i]∧Ext w w'∧OwnI PP zb w' r (M.negL (xs.take i))∧∀b,r.ownBlock=some b→w.heap.size≤b) ⟨_,rfl,Same.refl _ _,OwnI.nil,fun b m=>by cases m⟩ ?_
 rintro i _ g F C hi ⟨r,rfl,a,f,e⟩ t
 simp only[push_cast]
 refine zh (fun A=>?_) (fun z=>?_)
 ·have d:i<xs.length:=by omega
  refine zr fun I c _=>?_
  have l:=n.ext (a.trans c)
  simp(disch:=first|(simp only[push_cast];done)|omega) only[push_cast,l.iaddr,l.load,true_and]
  refine zQ0 ?_
  unfold QN
  have m:=s.get d
  simp(disch:=omega) only[push_cast,zE,Int.zero_sub]
  refine yh yW yq yE rfl rfl fun G J y j D o=>?_
  have he:=a.trans (c.trans j)
  have B:=he.size
  refine(f.ext (c.trans j)).app1 yX o (by simp[M.negL];omega) (by simp[M.negL];omega) fun E L k q p=>?_
  try simp(disch:=omega) only[push_cast,zE]
  refine t d _ _ ⟨E,by simp<;>exact⟨rfl,rfl⟩,Ext.then he q fun x n=>e x n,?_,fun b m=>(p b m).elim (e b) fun h=>by omega⟩
  rw[M.take_add d 0]
  unfold M.negL at k⊢
  rw[List.map_append];exact k
 ·rw[List.take_of_length_le (by omega)] at f
  exact v F r a f e
theorem NewI.of {w':World} {r:Value} {zs:List Int} (h:OwnI PP zb w' r zs) (d:∀b,r.ownBlock=some b→w.heap.size≤b) (hF:∀b,F b∨X b→b<w.heap.size):NewI X w F w' r zs:=
 ⟨h,fun b a=>⟨d b a,fun c=>by have:=d b a;have:=hF b (.inl c);omega⟩,fun b a c=>by have:=d b a;have:=hF b (.inr c);omega⟩
theorem SmL.neg {xs:List Int} (h:SmL xs):SmL (M.negL xs):=fun x a=>by
 obtain⟨y,b,rfl⟩:=List.mem_map.1 a
 have:=h y b;unfold Sm at*;omega
theorem SmL.offs (m:Nat):SmL (M.offsL m):=fun x a=>by rw[List.eq_of_mem_replicate a];decide
end Go.Proofs.YtaekfnbnhjgboaaGreatDoor
end
section
namespace Go.Proofs.YtaekfnbnhjgboaaGreatDoor
open Go Go.Vc Go.Proofs
variable {w:World} {K:Value→World→Prop} {F F' Fx Fy X:Nat→Prop} {n bc mb bb:Nat} {gs:M.Gs} {v:Value} {ar ab:Addr} {st:Option M.Gs}
theorem q60 {t ty:TypeId} {a:Option Addr} {l c:Nat} (b:isSl PP t=true):vbi PP .len [t] ty [.slice a l c] w K=K (.int .i64 l) w:=by
 obtain⟨e,he⟩:=qn0 b
 exact yH (by simp[biSem,Builtin.len_,qh he,goInt])
theorem Qr0 {x:Value}:sl 0 [x]=x:=rfl
theorem u_and {m:Nat} (hm:m<4294967296) {c:Bool}:zq PP .and xr c (.int .u64 m) (.int .u64 4294967295) w K=K (.int .u64 m) w:=by
 have h:=J4 (P:=PP) (w:=w) (K:=K) (c:=c) (t:=xr) (a:=m) (b:=4294967295) (by omega) (by decide)
 have e:m&&&4294967295=m:=by
  have:=Nat.and_two_pow_sub_one_eq_mod m 32
  rw[show 2^32-1=4294967295 from rfl] at this
  rw[this];exact Nat.mod_eq_of_lt hm
 rw[e] at h;exact h
theorem u_shr {m:Nat} (hm:m<4294967296) {c:Bool}:zq PP .shr xr c (.int .u64 m) (.int .u64 32) w K=K (.int .u64 0) w:=by
 have h:=kF0 (P:=PP) (w:=w) (K:=K) (c:=c) (t:=xr) (k:= .u64) (yk:= .u64) (x:=m) (y:=32) (by decide)
 have e:(m:Int)/2^min (32:Int).toNat IntKind.u64.bits=0:=by
  rw[show(2:Int)^min (32:Int).toNat IntKind.u64.bits=4294967296 from rfl];omega
 rw[e] at h;exact h
theorem wrapU' {x:Int} (a:0≤x) (h:x<18446744073709551616):IntKind.u64.wrap x=x:=by
 have:=wrapU (n:=x.toNat) (by omega)
 rwa[show((x.toNat:Nat):Int)=x by omega] at this
theorem Mul_one {m:Nat} (hm:m≤1000) (d:K (.tuple #[.int .u64 0,.int .u64 m]) w):vcall PP Yo #[.int .u64 1,.int .u64 m] w K:=by
 apply yH0
 apply UO
 have a:=fun(K:Value→World→Prop)=>u_and (w:=w) (K:=K) (m:=1) (by decide) (c:=true)
 have a2:=fun(K:Value→World→Prop)=>u_shr (w:=w) (K:=K) (m:=1) (by decide) (c:=true)
 have a3:=fun(K:Value→World→Prop)=>u_and (w:=w) (K:=K) (m:=m) (by omega) (c:=true)
 have a4:=fun(K:Value→World→Prop)=>u_shr (w:=w) (K:=K) (m:=m) (by omega) (c:=true)
 have a5:=fun(K:Value→World→Prop)=>u_and (w:=w) (K:=K) (m:=0) (by omega) (c:=true)
 have b:=fun(K:Value→World→Prop)=>u_shr (w:=w) (K:=K) (m:=0) (by omega) (c:=true)
 simp only[Int.cast_ofNat_Int] at a a2 a5 b
 simp(disch:=omega) only[a,a2,a3,a4,a5,b,push_cast,wrapU',Int.one_mul,Int.zero_mul,Int.mul_zero,Int.zero_add,Int.add_zero]
 exact d
theorem Xm0 {m k:Nat} {a:Value} {r:List Value} (h:k≤m):(List.replicate m a++r).take k=List.replicate k a:=by
 rw[List.take_append_of_le_length (by rw[List.length_replicate];exact h),List.take_replicate,Nat.min_eq_left h]
theorem Xn0 {m k j:Nat} {a:Value} {r:List Value} (h:j=m+k):(List.replicate m a++r).drop j=r.drop k:=by
 subst h
 rw[←List.drop_drop,List.drop_left' (by rw[List.length_replicate])]
theorem Repeat_signal {x:Value} {m:Nat} {z:Nat} {e0:TypeId} (hB:Blk w z [.int .i64 (-1)] e0) (hm:m≤1000) (hK:∀w' r,Ext w w'→OwnI PP zb w' r (M.offsL m)→(∀b,r.ownBlock=some b→w.heap.size≤b)→K r w'):
  vcall PP yO #[.slice (some ⟨z,0,none⟩) 1 1,.int .i64 m] w K:=by
 apply j4
 refine zI (fun u w'=>w'=w) ?_ ?_
 ·intro J D
  simp only[push_cast]
  refine zh (fun h=>?_) (fun h=>D _ _ rfl)
  omega
 rintro _ _ w' hw
 rw[hw]
 have W:∀K:Value→World→Prop,vbi PP .len [zb] zd [.slice (some ⟨z,0,none⟩) 1 1] w K=K (.int .i64 (1:Nat)) w:=fun K=>q60 xE
 have c1:∀K:Value→World→Prop,Yl PP zd V4 (.int .i64 (1:Nat)) w K=K (.int .u64 (1:Nat)) w:=fun K=>by
  rw[j6 jg0 Yq0,wrapU (by decide)]
 have c2:∀K:Value→World→Prop,Yl PP zd V4 (.int .i64 m) w K=K (.int .u64 m) w:=fun K=>by
  rw[j6 jg0 Yq0,wrapU (by omega)]
 have c3:∀K:Value→World→Prop,Yl PP V4 zd (.int .u64 m) w K=K (.int .i64 m) w:=fun K=>by
  rw[j6 Qq0 ym0,wrapN (by omega)]
 rw[W,c1,c2]
 refine Mul_one hm ?_
 simp only[push_cast]
 refine zI (fun u w'=>w'=w) ?_ ?_
 ·intro J D
  refine zh (fun h=>?_) (fun h=>?_)
  ·omega
  refine zh (fun h=>?_) (fun h=>D _ _ rfl)
  omega
 rintro _ _ w' hw
 rw[hw]
 rw[c3]
 refine vmkS_blk (bs:=8) yX xq yE rfl (by omega) (by omega) fun b w1 hb A s=>?_
 have a2:z≠b:=by have:=hB.lt;omega
 have step:∀(k:Nat) (a:World) (J:Value→World→Prop),0<m→k<m→Ext w a→Blk a b (List.replicate k (.int .i64 (-1))++List.replicate (m-k) (.int .i64 0)) zt→∀(src:Addr) (sc sl:Nat) (ds:Nat),
   (∀j u,(List.replicate (min sl (m-k)) (Value.int .i64 (-1)))[j]?=some u→a.cell? (src.add j)=some u)→
   (∀y,Ext w y→Blk y b (List.replicate (k+min sl (m-k)) (.int .i64 (-1))++List.replicate (m-(k+min sl (m-k))) (.int .i64 0)) zt→J (.int .i64 (min sl (m-k):Nat)) y)→
   vbi PP .copy [zb,zb] zd [.slice (some ⟨b,k,none⟩) (m-k) ds,.slice (some src) sl sc] a J:=by
  intro k a J Y hk i f src sc sl ds H D
  refine vcopy (cs:=List.replicate (min sl (m-k)) (.int .i64 (-1))) xk f (by rw[List.length_replicate]) H (by simp only[List.length_replicate,List.length_append];omega) (fun u hu=>by rw[List.eq_of_mem_replicate hu];rfl) fun y X a3 l=>?_
  rw[List.length_replicate]
  refine D y (Ext.then i X fun x hx=>by omega) ?_
  rw[Xm0 (Nat.le_refl _),Xn0 (m:=k) (k:=min sl (m-k)) (by rw[List.length_replicate]),List.drop_replicate,←List.append_assoc,List.replicate_append_replicate] at l
  rw[show m-(k+min sl (m-k))=m-k-min sl (m-k) by omega]
  exact l
 have fin:∀(a:World) (u:Value),Ext w a→Blk a b (List.replicate m (.int .i64 (-1))) zt→K (.slice (some ⟨b,0,none⟩) m m) a:=fun a _ i f=>by
  refine hK a _ i ?_ fun x hx=>by have e:b=x:=Option.some.inj hx;omega
  have:=Blk.own1 (P:=PP) (t:=zb) (base:=0) (n:=m) (c:=m) (cs:=List.replicate m (.int .i64 (-1))) (by rw[xq];exact f) (Nat.zero_le _) (by rw[List.length_replicate]) (by rw[List.length_replicate]) (by omega)
  unfold OwnI OwnV M.offsL
  rw[List.map_replicate]
  exact this
 have loop:∀(k:Nat) (a:World),Ext w a→Blk a b (List.replicate k (.int .i64 (-1))++List.replicate (m-k) (.int .i64 0)) zt→k≤m→(1≤k∨m=0)→
   yJ [.int .i64 k] a fun C p _ I=>
    vbi PP .len [zb] zd [.slice (some ⟨b,0,none⟩) m m] I fun t36 L=>
    zq PP .lss zd false (sl 0 p) t36 L fun t37 q=>
    vif t37 (
     y0 q fun d=>
     yC PP zb (.slice (some ⟨b,0,none⟩) m m) (some (sl 0 p)) none none d fun t41 N=>N=d∧
     yC PP zb (.slice (some ⟨b,0,none⟩) m m) none (some (sl 0 p)) none d fun t44 O=>O=d∧
     vbi PP .copy [zb,zb] zd [t41,t44] d fun t45 o=>
     zq PP .add zd false (sl 0 p) t45 o fun t46 Q=>Q=o∧
     C [t46] o) (
     K (.slice (some ⟨b,0,none⟩) m m) q):=by
  intro k0 a i f V Z
  refine YX (fun r u w'=> ∃k:Nat,u=[.int .i64 k]∧r=m-k∧k≤m∧(1≤k∨m=0)∧Ext w w'∧Blk w' b (List.replicate k (.int .i64 (-1))++List.replicate (m-k) (.int .i64 0)) zt) (m-k0) ⟨k0,rfl,rfl,V,Z,i,f⟩ ?_
  rintro r _ g y C ⟨k,rfl,rfl,hk,Z,E,l⟩ hC
  rw[q60 xE]
  simp only[push_cast]
  refine zh (fun a1=>?_) (fun a0=>?_)
  ·have G:k<m:=by omega
   refine zr fun w4 F _=>?_
   have B:=l.ext F
   simp only[Qr0,blk_from xk (show k≤m by omega),blk_to xk (show k≤m by omega),true_and]
   rw[if_neg (by omega)]
   refine step k w4 _ (by omega) G (E.trans F) B ⟨b,0,none⟩ m k _ (fun j u v=>?_) fun w5 S R=>?_
   ·have U:j<min k (m-k):=by have:=(List.getElem?_eq_some_iff.1 v).1;rwa[List.length_replicate] at this
    rw[xj]
    refine B.cell ?_
    rw[Nat.zero_add,List.getElem?_append_left (by rw[List.length_replicate];omega)]
    rw[List.getElem?_replicate,if_pos (by omega)] at v⊢
    exact v
   ·simp(disch:=omega) only[push_cast,zE,true_and]
    exact hC (m-(k+min k (m-k))) _ _ (by omega) ⟨k+min k (m-k),by simp<;>rfl,rfl,by omega,by omega,S,R⟩
  ·have:k=m:=by omega
   subst this
   rw[Nat.sub_self,List.replicate_zero,List.append_nil] at l
   exact fin y undef E l
 by_cases Y:m=0
 ·subst Y
  rw[Z40 xk rfl]
  exact loop 0 w1 s A (Nat.le_refl _) (.inr rfl)
 ·refine step 0 w1 _ (by omega) (by omega) s (by simpa using A) ⟨z,0,none⟩ 1 1 m (fun j u v=>?_) fun a i f=>?_
  ·have U:j<min 1 (m-0):=by have:=(List.getElem?_eq_some_iff.1 v).1;rwa[List.length_replicate] at this
   have T:j=0:=by omega
   subst T
   rw[List.getElem?_replicate,if_pos (by omega)] at v
   rw[xj]
   exact(hB.ext s).cell v
  ·exact loop _ a i (by simpa using f) (by omega) (.inl (by omega))
theorem offs_spec {m:Nat} (hm:m≤1000) (e:∀w' r,Ext w w'→OwnI PP zb w' r (M.offsL m)→(∀b,r.ownBlock=some b→w.heap.size≤b)→K r w'):vcall PP jd #[.int .i64 m] w K:=by
 apply kz0
 refine yh yW yq yE rfl rfl fun b l k a i c=>?_
 have:=a.size
 exact Repeat_signal (x:=undef) c hm fun j r d g f=>e j r (a.trans d) g fun x h=>by have:=f x h;omega
end Go.Proofs.YtaekfnbnhjgboaaGreatDoor
end
