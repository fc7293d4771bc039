import Derived.Test.YtaekfnbnhjgboaaGreatDoorWufP6
import Derived.Test.YtaekfnbnhjgboaaGreatDoorWufP7
import Derived.LaidEql
import Derived.Stop.Asserts
/- A part of the proof. -/
set_option linter.unusedVariables false
set_option linter.unusedSimpArgs false
set_option linter.unnecessarySimpa false
set_option linter.unusedSectionVars false
section
namespace Go.M
def vecL (w n:Nat):List UInt8:=35::(List.range w).reverse.map fun i=>if n/2^i%2=1 then 49 else 48
def digL (n:Int):List UInt8:=[UInt8.ofNat (48+n.toNat)]
def textF (t:Tm) (xs:List (List UInt8)):List UInt8:=
 if t.op=20 then vecL t.a.toNat t.b.toNat else if t.op=21 then t.s.data.toList else if t.op=24 then[116,114,117,101]
 else 40::(wordL t.op++((if t.op=22 then 32::(digL t.a++32::digL t.b) else[])++(xs.flatMap (fun x=>32::x)++[41])))
def textL:Tm→List UInt8:=Tm.fold textF
theorem textL_eq (t:Tm):textL t=textF t (t.ks.map textL):=Tm.fold_eq _ t
def Stop (r:List UInt8):Prop:=∀c,r.head?=some c→c=32∨c=41
def Zl0 (a:List UInt8):Prop:=∀c,c∈a→c≠32∧c≠41
theorem atom_cancel:∀{a b r s:List UInt8},Zl0 a→Zl0 b→Stop r→Stop s→a++r=b++s→a=b∧r=s
 |[],[],r,s,_,_,_,_,h=>⟨rfl,h⟩
 |[],y::b,r,s,_,i,k,_,h=>by
  have d:r=y::(b++s):=h
  have f:=i y List.mem_cons_self
  rcases k y (by rw[d];rfl) with e|e
  ·exact absurd e f.1
  ·exact absurd e f.2
 |x::a,[],r,s,g,_,_,hs,h=>by
  have d:s=x::(a++r):=h.symm
  have f:=g x List.mem_cons_self
  rcases hs x (by rw[d];rfl) with e|e
  ·exact absurd e f.1
  ·exact absurd e f.2
 |x::a,y::b,r,s,g,i,k,hs,h=>by
  have d:x::(a++r)=y::(b++s):=h
  simp only[List.cons.injEq] at d
  obtain⟨rfl,d⟩:=d
  obtain⟨rfl,e⟩:=atom_cancel (fun c j=>g c (List.mem_cons_of_mem _ j)) (fun c j=>i c (List.mem_cons_of_mem _ j)) k hs d
  exact⟨rfl,e⟩
theorem kI {c:UInt8} {r:List UInt8} (h:c=32∨c=41):Stop (c::r):=fun d a=>by
 have:d=c:=by simpa using a.symm
 subst this;exact h
theorem word_free:∀o:Fin 28,Zl0 (wordL o):=by unfold Zl0;decide+kernel
theorem word_inj:∀o p:Fin 28,wordL o=wordL p→wordL o≠[]→o=p:=by decide+kernel
theorem word_ne:∀o:Fin 28,1≤o.1→(o.1≤17∨o.1=22∨o.1=23∨25≤o.1)→wordL o≠[]:=by decide+kernel
theorem vec_inj:∀w:Fin 5,∀a:Fin 16,∀v:Fin 5,∀b:Fin 16,a.1<2^w.1→b.1<2^v.1→vecL w a=vecL v b→w=v∧a=b:=by decide+kernel
theorem Zu0 (w n:Nat):Zl0 (vecL w n):=fun c a=>by
 unfold vecL at a
 rcases List.mem_cons.1 a with rfl|a
 ·decide
 ·obtain⟨i,_,rfl⟩:=List.mem_map.1 a
  split<;>decide
theorem dig_inj:∀a b:Fin 4,digL a=digL b→a=b:=by decide+kernel
theorem dig_free:∀a:Fin 4,Zl0 (digL a):=by unfold Zl0;decide+kernel
section
variable {ds:List Dcl} {t u:Tm}
theorem name_ok (g:declOk ds=true) (hs:sortM ds t≠ -1) (k:t.op=21):t.s.data.toList≠[]∧t.s≠tru∧∀c,c∈t.s.data.toList→97≤c.toNat∧c.toNat≤122:=by
 have h:=name_found hs k
 have j:(findD ds t.s).toNat<ds.length:=by have:=(findD_lt ds t.s).2;omega
 have i:=findD_get h
 have a:=(decl_iff.1 g).2.1 _ j
 unfold dclOk at a
 rw[i] at a
 simp only[Bool.and_eq_true,decide_eq_true_eq,nameOk] at a
 obtain⟨⟨⟨⟨⟨⟨l,m⟩,b⟩,d⟩,_⟩,_⟩,_⟩:=a
 refine⟨fun e=>?_,b,fun c f=>?_⟩
 ·have:t.s.size=0:=by show t.s.data.size=0;rw[←Array.length_toList,e];rfl
  omega
 ·have:=Array.all_eq_true'.1 d c (Array.mem_toList_iff.1 f)
  simpa using this
theorem right_op (hs:sortM ds t≠ -1):arity t.op=t.ks.length∧plainM t=true∧((1≤t.op∧t.op≤17)∨(20≤t.op∧t.op≤27)):=by
 obtain⟨c,_,_⟩:=sort_parts hs
 obtain⟨a,b⟩:=formed_iff.1 c
 exact⟨a,b,arity_ops (by omega)⟩
theorem Wf {o:Int} (h:o=20∨o=21∨o=24):arity o=0:=by unfold arity;rw[if_pos h]
theorem node_arity {o:Int} (h:(1≤o∧o≤17)∨(20≤o∧o≤27)) (a: ¬(o=20∨o=21∨o=24)):1≤arity o:=by
 unfold arity;rw[if_neg a];repeat' split
 all_goals omega
theorem vec_ok (hs:sortM ds t≠ -1) (c:t.op=20):vok t.a t.b=true:=by
 have h:=(sort_parts hs).2.2
 rw[h] at hs
 unfold sortK at hs
 rw[if_pos c] at hs
 split at hs
 ·assumption
 ·exact absurd rfl hs
theorem cut_ab (c:declOk ds=true) (hs:sortM ds t≠ -1) (d:t.op=22):0≤t.b∧t.b≤t.a∧t.a<4:=by
 have h:=(sort_parts hs).2.2
 have e:(t.ks.map (sortM ds)).getD 0 0≤4:=by
  by_cases hi:0<t.ks.length
  ·rw[getD_map _ hi 0 default];exact(sort_range c _).2
  ·rw[List.getD_eq_getElem?_getD,List.getElem?_eq_none (by simpa using hi)];simp
 rw[h] at hs
 unfold sortK at hs
 rw[if_neg (by omega),if_neg (by omega),if_neg (by omega),if_neg (by omega),if_pos d] at hs
 split at hs
 ·next h=>omega
 ·exact absurd rfl hs
theorem atom_text (g:declOk ds=true) (hs:sortM ds t≠ -1) (d:t.op=20∨t.op=21∨t.op=24):textL t=textF t []∧Zl0 (textL t)∧textL t≠[]∧∀c,(textL t).head?=some c→c≠40:=by
 have h:t.ks=[]:=List.eq_nil_of_length_eq_zero (by have:=(right_op hs).1;rw[Wf d] at this;omega)
 have e:textL t=textF t []:=by rw[textL_eq,h];rfl
 refine⟨e,?_⟩
 rw[e]
 unfold textF
 rcases d with o|o|o
 ·rw[if_pos o]
  exact⟨Zu0 _ _,by simp[vecL],fun c a=>by
   have:c=35:=by simpa[vecL] using a.symm
   subst this;decide⟩
 ·rw[if_neg (by omega),if_pos o]
  obtain⟨f,i,b⟩:=name_ok g hs o
  refine⟨fun c a=>?_,f,fun c a=>?_⟩
  ·have:=b c a
   exact⟨fun e=>by subst e;exact absurd this.1 (by decide),fun e=>by subst e;exact absurd this.1 (by decide)⟩
  ·have:=b c (List.mem_of_mem_head? a)
   intro e;subst e;exact absurd this.1 (by decide)
 ·rw[if_neg (by omega),if_neg (by omega),if_pos o]
  exact⟨by unfold Zl0;decide,by decide,fun c a=>by
   have:c=116:=by simpa using a.symm
   subst this;decide⟩
theorem yC0 {t u:Tm} (c:t.op=u.op) (d:t.a=u.a) (e:t.b=u.b) (f:t.s=u.s) (g:t.ks=u.ks):t=u:=by
 cases t;cases u
 simp only[Tm.op,Tm.a,Tm.b,Tm.s,Tm.ks] at c d e f g
 subst c;subst d;subst e;subst f;subst g;rfl
theorem QT (h:plainM t=true) (c:t.op≠20∧t.op≠22):t.a=0∧t.b=0:=by
 simp only[plainM,Bool.and_eq_true,Bool.or_eq_true,decide_eq_true_eq] at h
 rcases h.1 with(h|h)|h
 ·exact absurd h c.1
 ·exact absurd h c.2
 ·exact h
theorem Wd (h:plainM t=true) (a:t.op≠21):t.s=nada:=by
 simp only[plainM,Bool.and_eq_true,Bool.or_eq_true,decide_eq_true_eq] at h
 exact h.2.resolve_left a
theorem atom_inj (k:declOk ds=true) (hs:sortM ds t≠ -1) (hu:sortM ds u≠ -1) (m:t.op=20∨t.op=21∨t.op=24) (n:u.op=20∨u.op=21∨u.op=24) (h:textL t=textL u):t=u:=by
 have l:t.ks=[]:=List.eq_nil_of_length_eq_zero (by have:=(right_op hs).1;rw[Wf m] at this;omega)
 have g:u.ks=[]:=List.eq_nil_of_length_eq_zero (by have:=(right_op hu).1;rw[Wf n] at this;omega)
 have f:=(right_op hs).2.1
 have d:=(right_op hu).2.1
 rw[(atom_text k hs m).1,(atom_text k hu n).1] at h
 unfold textF at h
 have letter:∀{v:Tm},sortM ds v≠ -1→v.op=21→∀c r,v.s.data.toList=c::r→97≤c.toNat:=fun{v} q i c r e=>((name_ok k q i).2.2 c (by rw[e];exact List.mem_cons_self)).1
 have notrue:∀{v:Tm},sortM ds v≠ -1→v.op=21→v.s.data.toList=[116,114,117,101]→False:=fun{v} q i e=>(name_ok k q i).2.1 (by
  have:v.s.data= #[116,114,117,101]:=Array.toList_inj.1 e
  show v.s=tru
  have j:v.s=⟨v.s.data⟩:=rfl
  rw[j,this];rfl)
 rcases m with o|o|o<;>rcases n with p|p|p
 ·rw[if_pos o,if_pos p] at h
  have v1:=vok_lt (vec_ok hs o)
  have v2:=vok_lt (vec_ok hu p)
  have y:=vok_iff.1 (vec_ok hs o)
  have z:=vok_iff.1 (vec_ok hu p)
  have w:((2^t.a.toNat:Nat):Int)=2^t.a.toNat:=by simp
  have j:((2^u.a.toNat:Nat):Int)=2^u.a.toNat:=by simp
  have:=vec_inj ⟨t.a.toNat,by omega⟩ ⟨t.b.toNat,by omega⟩ ⟨u.a.toNat,by omega⟩ ⟨u.b.toNat,by omega⟩ (by show t.b.toNat<2^t.a.toNat;omega) (by show u.b.toNat<2^u.a.toNat;omega) h
  simp only[Fin.mk.injEq] at this
  exact yC0 (by omega) (by omega) (by omega) (by rw[Wd f (by omega),Wd d (by omega)]) (by rw[l,g])
 ·rw[if_pos o,if_neg (by omega),if_pos p] at h
  exact absurd (letter hu p 35 _ h.symm) (by decide)
 ·rw[if_pos o,if_neg (by omega),if_neg (by omega),if_pos p] at h
  simp[vecL] at h
 ·rw[if_neg (by omega),if_pos o,if_pos p] at h
  exact absurd (letter hs o 35 _ h) (by decide)
 ·rw[if_neg (by omega),if_pos o,if_neg (by omega),if_pos p] at h
  obtain⟨x,b1⟩:=QT f (by omega)
  obtain⟨a2,b2⟩:=QT d (by omega)
  refine yC0 (by omega) (by omega) (by omega) ?_ (by rw[l,g])
  have:=Array.toList_inj.1 h
  have w:t.s=⟨t.s.data⟩:=rfl
  have j:u.s=⟨u.s.data⟩:=rfl
  rw[w,j,this]
 ·rw[if_neg (by omega),if_pos o,if_neg (by omega),if_neg (by omega),if_pos p] at h
  exact(notrue hs o h).elim
 ·rw[if_neg (by omega),if_neg (by omega),if_pos o,if_pos p] at h
  simp[vecL] at h
 ·rw[if_neg (by omega),if_neg (by omega),if_pos o,if_neg (by omega),if_pos p] at h
  exact(notrue hu p h.symm).elim
 ·obtain⟨x,b1⟩:=QT f (by omega)
  obtain⟨a2,b2⟩:=QT d (by omega)
  exact yC0 (by omega) (by omega) (by omega) (by rw[Wd f (by omega),Wd d (by omega)]) (by rw[l,g])
theorem kids_inj:∀{ks us:List Tm} {r s:List UInt8},ks.length=us.length→(∀k,k∈ks→∀u,u∈us→∀r s,Stop r→Stop s→textL k++r=textL u++s→k=u∧r=s)→
  (ks.map textL).flatMap (fun x=>32::x)++41::r=(us.map textL).flatMap (fun x=>32::x)++41::s→ks=us∧r=s
 |[],[],r,s,_,_,h=>by
  have:(41:UInt8)::r=41::s:=h
  simp only[List.cons.injEq,true_and] at this
  exact⟨rfl,this⟩
 |[],_::_,_,_,b,_,_=>by simp at b
 |_::_,[],_,_,b,_,_=>by simp at b
 |k::ks,u::us,r,s,b,c,h=>by
  simp only[List.map_cons,List.flatMap_cons,List.cons_append,List.append_assoc,List.cons.injEq,true_and] at h
  have st:∀(l:List Tm) (r:List UInt8),Stop ((l.map textL).flatMap (fun x=>32::x)++41::r):=fun l r=>by
   cases l with
   |nil=>exact kI (.inr rfl)
   |cons a l=>exact kI (.inl rfl)
  obtain⟨he,h⟩:=c k List.mem_cons_self u List.mem_cons_self _ _ (st _ _) (st _ _) h
  obtain⟨rfl,e⟩:=kids_inj (by simpa using b) (fun k d u hu=>c k (List.mem_cons_of_mem _ d) u (List.mem_cons_of_mem _ hu)) h
  subst he
  exact⟨rfl,e⟩
theorem text_inj' (g:declOk ds=true):∀t:Tm,sortM ds t≠ -1→∀u:Tm,sortM ds u≠ -1→∀r s,Stop r→Stop s→textL t++r=textL u++s→t=u∧r=s:=by
 refine Tm.ind fun t S hs u hu r s R C h=>?_
 obtain⟨ar,pl,op⟩:=right_op hs
 obtain⟨H,m,D⟩:=right_op hu
 have comp:∀{v:Tm},¬(v.op=20∨v.op=21∨v.op=24)→textL v=40::(wordL v.op++((if v.op=22 then 32::(digL v.a++32::digL v.b) else[])++((v.ks.map textL).flatMap (fun x=>32::x)++[41]))):=fun{v} j=>by
  rw[textL_eq];unfold textF;rw[if_neg (fun e=>j (.inl e)),if_neg (fun e=>j (.inr (.inl e))),if_neg (fun e=>j (.inr (.inr e)))]
 by_cases lt:t.op=20∨t.op=21∨t.op=24
 ·obtain⟨_,f1,f2,f3⟩:=atom_text g hs lt
  by_cases lu:u.op=20∨u.op=21∨u.op=24
  ·obtain⟨_,g1,g2,g3⟩:=atom_text g hu lu
   obtain⟨e,I⟩:=atom_cancel f1 g1 R C h
   exact⟨atom_inj g hs hu lt lu e,I⟩
  ·exfalso
   rw[comp lu] at h
   match i:textL t,f2 with
   |c::q,_=>
    rw[i] at h
    simp only[List.cons_append,List.cons.injEq] at h
    exact f3 c (by rw[i];rfl) h.1
 ·by_cases lu:u.op=20∨u.op=21∨u.op=24
  ·exfalso
   obtain⟨_,g1,g2,g3⟩:=atom_text g hu lu
   rw[comp lt] at h
   match i:textL u,g2 with
   |c::q,_=>
    rw[i] at h
    simp only[List.cons_append,List.cons.injEq] at h
    exact g3 c (by rw[i];rfl) h.1.symm
  ·rw[comp lt,comp lu] at h
   simp only[List.cons_append,List.append_assoc,List.cons.injEq,true_and,List.nil_append] at h
   have na:=node_arity op lt
   have V:=node_arity D lu
   have kst:∀{l:List Tm} {q:List UInt8},1≤l.length→∃G,(l.map textL).flatMap (fun x=>32::x)++41::q=32::G:=fun{l q} z=>by
    cases l with
    |nil=>simp at z
    |cons a l=>exact⟨_,rfl⟩
   have st:∀{v:Tm} {q:List UInt8},1≤v.ks.length→Stop ((if v.op=22 then 32::(digL v.a++32::digL v.b) else[])++((v.ks.map textL).flatMap (fun x=>32::x)++41::q)):=fun{v q} z=>by
    split
    ·exact kI (.inl rfl)
    ·obtain⟨G,e⟩:=kst (q:=q) z
     rw[List.nil_append,e]
     exact kI (.inl rfl)
   have E:(((⟨t.op.toNat,by omega⟩:Fin 28):Nat):Int)=t.op:=by show((t.op.toNat:Nat):Int)=_;omega
   have F:(((⟨u.op.toNat,by omega⟩:Fin 28):Nat):Int)=u.op:=by show((u.op.toNat:Nat):Int)=_;omega
   have n:=word_free ⟨t.op.toNat,by omega⟩
   have o:=word_free ⟨u.op.toNat,by omega⟩
   rw[E] at n
   rw[F] at o
   obtain⟨hw,h⟩:=atom_cancel n o (st (v:=t) (by omega)) (st (v:=u) (by omega)) h
   have A:=word_ne ⟨t.op.toNat,by omega⟩ (by show 1≤t.op.toNat;omega) (by show t.op.toNat≤17∨t.op.toNat=22∨t.op.toNat=23∨25≤t.op.toNat;omega)
   have B:=word_inj ⟨t.op.toNat,by omega⟩ ⟨u.op.toNat,by omega⟩ (by rw[E,F];exact hw) A
   have f:t.op=u.op:=by
    have:t.op.toNat=u.op.toNat:=congrArg Fin.val B
    omega
   have w:t.a=u.a∧t.b=u.b∧(t.ks.map textL).flatMap (fun x=>32::x)++41::r=(u.ks.map textL).flatMap (fun x=>32::x)++41::s:=by
    by_cases d:t.op=22
    ·rw[if_pos d,if_pos (by omega)] at h
     simp only[List.cons_append,List.append_assoc,List.cons.injEq,true_and] at h
     have X:=cut_ab g hs d
     have Y:=cut_ab g hu (by omega)
     have da:∀{x:Int},0≤x→x<4→Zl0 (digL x):=fun{x} L N=>by
      have:=dig_free ⟨x.toNat,by omega⟩
      rwa[show(((⟨x.toNat,by omega⟩:Fin 4):Nat):Int)=x by show((x.toNat:Nat):Int)=_;omega] at this
     have di:∀{x y:Int},0≤x→x<4→0≤y→y<4→digL x=digL y→x=y:=fun{x y} L N M O he=>by
      have:=dig_inj ⟨x.toNat,by omega⟩ ⟨y.toNat,by omega⟩ (by
       rw[show(((⟨x.toNat,by omega⟩:Fin 4):Nat):Int)=x by show((x.toNat:Nat):Int)=_;omega,show(((⟨y.toNat,by omega⟩:Fin 4):Nat):Int)=y by show((y.toNat:Nat):Int)=_;omega];exact he)
      have:x.toNat=y.toNat:=congrArg Fin.val this
      omega
     obtain⟨J,h⟩:=atom_cancel (da (by omega) (by omega)) (da (by omega) (by omega)) (kI (.inl rfl)) (kI (.inl rfl)) h
     simp only[List.cons.injEq,true_and] at h
     obtain⟨Z,T⟩:=kst (l:=t.ks) (q:=r) (by omega)
     obtain⟨q2,U⟩:=kst (l:=u.ks) (q:=s) (by omega)
     obtain⟨K,h⟩:=atom_cancel (da (by omega) (by omega)) (da (by omega) (by omega)) (by rw[T];exact kI (.inl rfl)) (by rw[U];exact kI (.inl rfl)) h
     exact⟨di (by omega) (by omega) (by omega) (by omega) J,di (by omega) (by omega) (by omega) (by omega) K,h⟩
    ·rw[if_neg d,if_neg (by omega)] at h
     obtain⟨W,b1⟩:=QT pl ⟨fun e=>lt (.inl e),d⟩
     obtain⟨a2,b2⟩:=QT m ⟨fun e=>lu (.inl e),by omega⟩
     exact⟨by omega,by omega,h⟩
   obtain⟨P,Q,h⟩:=w
   obtain⟨p,e⟩:=kids_inj (by
    have:arity t.op=arity u.op:=by rw[f]
    omega) (fun k p v j=>S k p ((sort_parts hs).2.1 k p) v ((sort_parts hu).2.1 v j)) h
   exact⟨yC0 f P Q (by rw[Wd pl (fun e=>lt (.inr (.inl e))),Wd m (fun e=>lu (.inr (.inl e)))]) p,e⟩
theorem text_inj (b:declOk ds=true) (hs:sortM ds t≠ -1) (hu:sortM ds u≠ -1) (h:textL t=textL u):t=u:=
 (text_inj' b t hs u hu [] [] (fun c a=>by cases a) (fun c a=>by cases a) (by rw[List.append_nil,List.append_nil];exact h)).1
end
end Go.M
end
section
namespace Go.Proofs.YtaekfnbnhjgboaaGreatDoor
open Go Go.Vc Go.Proofs
variable {w:World} {K:Value→World→Prop} {F F' Fx Fy X Q:Nat→Prop} {n bc mb bb:Nat} {gs:M.Gs} {v:Value} {ar ab:Addr} {st:Option M.Gs}
theorem dcl_small {ds:List M.Dcl} (a:M.declOk ds=true) {i:Nat} (hi:i≤ds.length):0≤M.bitT ds i∧M.bitT ds i≤16:=by
 have c:=(M.decl_iff.1 a).1
 induction i with
 |zero=>exact⟨Int.le_refl _,show(0:Int)≤16 by decide⟩
 |succ i b=>
  have:=b (by omega)
  have hw:=M.dcl_wide a (i:=i) (by omega)
  rw[M.bitT_succ (by omega)]
  have key:M.bitT ds i≤4*(i:Int):=by
   clear b this
   induction i with
   |zero=>exact Int.le_refl _
   |succ j ihj=>
    have hw:=M.dcl_wide a (i:=j) (by omega)
    have:=ihj (by omega) (M.dcl_wide a (by omega))
    rw[M.bitT_succ (by omega)];omega
  omega
theorem bitsOf_spec {dv:Value} {ds:List M.Dcl} (l:DclsR Fx w dv ds) (d:M.declOk ds=true) (p:∀w',Ext w w'→K (.int .i64 (M.bits ds)) w'):vcall PP Xn #[dv] w K:=by
 apply xv0
 simp(disch:=(simp only[push_cast];done)) only[push_cast,l.len]
 have k:=(M.decl_iff.1 d).1
 refine vloop_up ds.length (fun i u w'=>u=[.int .i64 (M.bitT ds i),.int .i64 i]∧Ext w w') ⟨rfl,Same.refl _ _⟩ ?_
 rintro i _ _ m C hi ⟨rfl,c⟩ o
 have e:=l.ext c
 simp only[push_cast]
 refine zh (fun a=>?_) (fun a=>?_)
 ·have b:i<ds.length:=by omega
  simp(disch:=first|(simp only[push_cast];done)|omega) only[push_cast,e.iaddr,e.load]
  refine zF jq fun b1 x q f s n=>?_
  refine stDecl n fun v j _ k=>?_
  have g:Ext m v:=Ext.then f j fun y t=>by subst t;omega
  have r:=dcl_small d hi
  have h:=dcl_small d (i:=i+1) b
  rw[M.bitT_succ b] at h
  simp(disch:=first|(simp only[push_cast];done)|omega) only[push_cast,k.ld1,zH]
  refine o b _ _ ⟨?_,c.trans g⟩
  rw[M.bitT_succ b]
  simp
 ·have:i=ds.length:=by omega
  subst this
  rw[M.bitT_all]
  exact p m c
theorem nameB_take {ds:List M.Dcl} {k j:Nat} {wd top:Int} (c:(j:Int)<wd) (hw:wd=(ds.getD k (M.nada,0)).2) (b:top=2+M.bits (ds.take k)):(M.nameB ds k).take (j+1)=(M.nameB ds k).take j++[top+(wd-1-j)]:=by
 have a:j<(M.nameB ds k).length:=by rw[M.nameB_len];omega
 rw[M.take_add a 0]
 congr 1
 unfold M.nameB
 rw[List.getD_eq_getElem?_getD,List.getElem?_map,List.getElem?_range (by omega)]
 show[2+M.bits (ds.take k)+(ds.getD k (M.nada,0)).2-1-(j:Int)]=[top+(wd-1-(j:Int))]
 rw[b,hw]
 congr 1
 omega
theorem inputs_spec {bl:Nat} {r:List Value} {dv:Value} {ds:List M.Dcl} {s:ByteArray} {x0:Value} (S:Blk w bl (x0::dv::r) zM) (N:DclsR Fx w dv ds) (f:M.declOk ds=true) (hs:0≤M.findD ds s)
  (L:∀w' r,Ext w w'→OwnI PP za w' r (M.nameB ds (M.findD ds s).toNat)→(∀b,r.ownBlock=some b→w.heap.size≤b)→K r w'):vcall PP qJ #[.pointer (some ⟨bl,0,none⟩),.string s] w K:=by
 apply Qv
 simp(disch:=(simp only[push_cast];done)) only[push_cast,S.ld1,N.len]
 have h4:=(M.decl_iff.1 f).1
 have Z:=M.findD_lt ds s
 refine vloop_up ds.length (fun i u w'=>u=[.int .i64 (2+M.bitT ds i),.int .i64 i]∧Ext w w'∧i≤(M.findD ds s).toNat) ⟨rfl,Same.refl _ _,Nat.zero_le _⟩ ?_
 rintro i _ _ w2 C hi ⟨rfl,k,Y⟩ T
 have q:=N.ext k
 simp only[push_cast]
 have d:i<ds.length:=by omega
 refine zh (fun a=>?_) (fun a=>by omega)
 simp(disch:=first|(simp only[push_cast];done)|omega) only[push_cast,q.iaddr,q.load]
 refine zF jq fun b1 w3 V D a2 R=>?_
 refine stDecl R fun w4 J _ o=>?_
 have t:Ext w2 w4:=Ext.then D J fun y hy=>by subst hy;omega
 have a1:=dcl_small f hi
 have H:=dcl_small f (i:=i+1) d
 rw[M.bitT_succ d] at H
 have P:=M.dcl_wide f d
 simp(disch:=first|(simp only[push_cast];done)|omega) only[push_cast,o.ld0,o.ld1,zH]
 refine zh (fun e=>?_) (fun e=>?_)
 ·have E:i=(M.findD ds s).toNat:=by
   by_cases c:i=(M.findD ds s).toNat
   ·exact c
   ·have Q:=M.dcl_apart f (i:=(M.findD ds s).toNat) (j:=i) (by omega) (by omega)
    exact absurd (e.trans (M.findD_get hs).symm) Q
  rw[←E] at L
  have B:M.bitT ds i=M.bits (ds.take i):=rfl
  generalize U:(ds.getD i (M.nada,0)).2=wd at*
  refine X5 (fun m u w'=> ∃j r,u=[r,.int .i64 ((m:Int)-1)]∧(m:Int)+(j:Nat)=wd∧Ext w w'∧OwnI PP za w' r ((M.nameB ds i).take j)∧∀b,r.ownBlock=some b→w.heap.size≤b) wd.toNat
   ⟨0,_,by rw[show((wd.toNat:Nat):Int)=wd by omega],by omega,k.trans t,OwnI.nil,fun b p=>by cases p⟩ ?_
  rintro m _ _ w5 C5 ⟨j,r,rfl,a0,v,n,l⟩ A
  simp only[push_cast]
  refine zh (fun X=>?_) (fun O=>?_)
  ·simp(disch:=omega) only[push_cast,zH]
   refine yj yT yn yz rfl rfl fun b6 w6 W x a3 z=>?_
   have g:=v.trans x
   have hz:=g.size
   have hle:((M.nameB ds i).take j).length≤16:=by rw[List.length_take,M.nameB_len];omega
   refine(n.ext x).app1 yU z (by omega) (by omega) fun r7 w7 G I F=>?_
   try simp(disch:=omega) only[push_cast,zH]
   refine A (m-1) _ _ (by omega) ⟨j+1,r7,?_,by omega,Ext.then g I fun b p=>l b p,?_,fun b p=>(F b p).elim (l b) fun h=>by omega⟩
   ·rw[show((m-1:Nat):Int)=(m:Int)-1 by omega]
   ·rw[nameB_take (wd:=wd) (top:=2+M.bits (ds.take i)) (by omega) U.symm rfl,←B]
    rw[show(2+M.bitT ds i+(wd-1-j))=2+M.bitT ds i+((m:Int)-1) by omega]
    exact G
  ·rw[List.take_of_length_le (by rw[M.nameB_len];omega)] at n
   exact L w5 r v n l
 ·refine T d _ _ ⟨?_,k.trans t,?_⟩
  ·rw[M.bitT_succ d];simp;omega
  ·have:i≠(M.findD ds s).toNat:=fun h=>e (by rw[h];exact M.findD_get hs)
   omega
end Go.Proofs.YtaekfnbnhjgboaaGreatDoor
end
section
namespace Go.Proofs.YtaekfnbnhjgboaaGreatDoor
open Go Go.Vc Go.Proofs Go.Shelf
variable {w:World} {K:Value→World→Prop} {F F' Fx Fy X Q:Nat→Prop}
def X40:ByteArray:=⟨#[48,49,50,51,52,53,54,55,56,57,97,98,99,100,101,102,103,104,105,106,107,108,109,110,111,112,113,114,115,116,117,118,119,120,121,122]⟩
theorem digit_text:∀k:Fin 10,(X40.extract k.1 (k.1+1)).data.toList=M.digL (k.1:Int):=by decide+kernel
theorem Itoa_spec {k:Nat} (c:k<10) (b:∀s:ByteArray,s.data.toList=M.digL (k:Int)→K (.string s) w):vcall PP j5 #[.int .i64 k] w K:=by
 apply zR0
 apply Xs
 apply Zr
 simp only[push_cast]
 refine zh (fun _=>?_) (fun h=>absurd trivial h)
 refine y5 (fun _ _=>False) ?_ (fun _ _ _ h=>h.elim)
 intro J d
 refine zh (fun _=>?_) (fun h=>by omega)
 refine zh (fun _=>?_) (fun h=>by omega)
 apply YN
 simp(disch:=omega) only[push_cast,zH]
 refine zh (fun _=>?_) (fun h=>by omega)
 have a:X40.size=36:=by decide+kernel
 show yA PP zE (.string X40) _ _ _ w _
 rw[jr0 (by kernel_rfl) (by omega) (by omega) (by rw[a];omega)]
 rw[show((k:Int)).toNat=k by omega,show((k:Int)+1).toNat=k+1 by omega]
 exact b _ (digit_text ⟨k,c⟩)
def byV (c:UInt8):Value:= .int .u8 c.toNat
theorem jL0 {v:Value} {l:List UInt8} (h:OwnV PP yD w v (l.map byV)) (g:l≠[]):Yn PP yD zE v w K=K (.string ⟨l.toArray⟩) w:=by
 obtain⟨a,c,k,p,n,d⟩:=(OwnV.vals h).shape
 have f:(l.map byV).map (fun x=>[x])≠[]:=by simpa using g
 obtain⟨b,o,m,_,_,e⟩:=d f
 simp only[List.length_map] at k e
 subst m;subst k
 refine yB (run_convert_bytes_back w yD zE kz ⟨b,o,none⟩ c l KR (by kernel_rfl) (by kernel_rfl) fun j i=>?_)
 have:=e j i 0 (byV l[j]) (by
  rw[List.getD_eq_getElem?_getD,List.getElem?_map,List.getElem?_map,List.getElem?_eq_getElem i];rfl)
 rw[xp] at this⊢
 rw[Nat.mul_one,Nat.add_zero] at this
 exact this
def kO0 (n:Nat) (i:Nat):UInt8:=if n/2^i%2=1 then 49 else 48
theorem bitC_take {wd n j:Nat} (a:j<wd):((List.range wd).reverse.map (kO0 n)).take (j+1)=((List.range wd).reverse.map (kO0 n)).take j++[kO0 n (wd-1-j)]:=by
 have b:j<((List.range wd).reverse.map (kO0 n)).length:=by simpa using a
 rw[M.take_add b 0]
 congr 1
 rw[List.getD_eq_getElem?_getD,List.getElem?_map,List.getElem?_reverse (by simpa using a),List.length_range,List.getElem?_range (by omega)]
 rfl
theorem VecText_spec {wd n:Int} (C:M.vok wd n=true) (hK:∀w' s,Ext w w'→s.data.toList=M.vecL wd.toNat n.toNat→K (.string s) w'):vcall PP YE #[ky wd n] w K:=by
 apply yf0
 obtain⟨V,W,X,Y⟩:=M.vok_iff.1 C
 have hp:(2:Int)^wd.toNat≤16:=by
  have:=pow4 (k:=wd.toNat) (by omega) (by omega)
  have e:=yt0 wd.toNat
  omega
 refine zx fun b1 G a0 z aa g=>?_
 have y:∀w':World,Blk w' b1 [.int .i64 wd,.int .i64 n] zb→∀K:Value→World→Prop,zf PP zb (.pointer (some ⟨b1,0,none⟩)) w' K=K (ky wd n) w':=fun w' hB K=>Blk.ldAgg hB (by exact zU)
 rw[y G g]
 refine VecOk_spec fun w2 o=>?_
 rw[C]
 simp only[push_cast,Bool.not_true]
 refine yj KR (by kernel_rfl) (show yO PP kz (.int .u8 0) by unfold yO;kernel_rfl) rfl rfl fun b3 w3 a5 A ab J=>?_
 have D:=g.ext (o.trans A)
 have e3:=z.trans (o.trans A)
 have s1:=z.size;have s2:=o.size
 have T:OwnV PP yD w3 (.slice (some ⟨b3,0,none⟩) 1 1) ([(35:UInt8)].map byV):=Blk.own1 (P:=PP) (t:=yD) (cs:=[byV 35]) (by rw[kH0];exact J) (Nat.zero_le _) rfl rfl (by omega)
 simp(disch:=first|(simp only[push_cast];done)|omega) only[push_cast,D.ld0,zH]
 refine X5 (fun m u w'=> ∃j r,u=[r,.int .i64 ((m:Int)-1)]∧(m:Int)+(j:Nat)=wd∧Ext w w'∧Blk w' b1 [.int .i64 wd,.int .i64 n] zb∧OwnV PP yD w' r ((35::((List.range wd.toNat).reverse.map (kO0 n.toNat)).take j).map byV)∧∀b,r.ownBlock=some b→G.heap.size≤b) wd.toNat
  ⟨0,_,by rw[show((wd.toNat:Nat):Int)=wd by omega],by omega,e3,D,T,fun b l=>by have e:b3=b:=Option.some.inj l;omega⟩ ?_
 rintro m _ _ Z C5 ⟨j,r,rfl,a9,p,i,v,q⟩ N
 simp only[push_cast]
 refine zh (fun a7=>?_) (fun a8=>?_)
 ·rw[y Z i]
  rw[show n=((n.toNat:Nat):Int) by omega]
  refine raw_spec (by omega) fun w6 Q=>?_
  rw[show(m:Int)-1=((m-1:Nat):Int) by omega]
  refine bit_spec (by omega) (by omega) ?_
  have step:∀(x:UInt8) (H:Value→World→Prop),x=kO0 n.toNat (wd.toNat-1-j)→(∀d a,Ext w a→Blk a b1 [.int .i64 wd,.int .i64 n] zb→OwnV PP yD a d ((35::((List.range wd.toNat).reverse.map (kO0 n.toNat)).take (j+1)).map byV)→(∀b,d.ownBlock=some b→G.heap.size≤b)→H d a)→
    vbuildS PP yD 1 [(0,.int .u8 x.toNat)] w6 fun t21 F=>vbi PP .append [yD,yD] yD [r,t21] F H:=by
   intro x H hx O
   refine yj KR (by kernel_rfl) (show yO PP kz (.int .u8 0) by unfold yO;kernel_rfl) rfl rfl fun b7 a a6 R ad L=>?_
   have f:=Q.trans R
   have hl:((35::((List.range wd.toNat).reverse.map (kO0 n.toNat)).take j).map byV).length≤20:=by
    simp only[List.length_map,List.length_cons,List.length_take,List.length_reverse,List.length_range];omega
   refine(v.ext f).app1 ZR0 L rfl (by omega) (by omega) fun r8 w8 U E S=>?_
   have ac:=p.size
   have ae:=f.size
   refine O r8 w8 (Ext.then (p.trans f) E fun b l=>by have:=q b l;omega) ((i.ext f).same E fun l=>by have:=q b1 l;have:=g.lt;omega) ?_ fun b l=>(S b l).elim (q b) fun h=>by have:=i.lt;omega
   rw[bitC_take (by omega),←hx,←List.cons_append,List.map_append]
   exact U
  have B:wd.toNat-1-j=m-1:=by omega
  have fin:∀d a,Ext w a→Blk a b1 [.int .i64 wd,.int .i64 n] zb→OwnV PP yD a d ((35::((List.range wd.toNat).reverse.map (kO0 n.toNat)).take (j+1)).map byV)→(∀b,d.ownBlock=some b→G.heap.size≤b)→C5 [d,.int .i64 (((m-1:Nat):Int)-1)] a:=fun d a V W X Y=>
   N (m-1) _ _ (by omega) ⟨j+1,d,rfl,by omega,V,W,X,Y⟩
  refine zh (fun c=>?_) (fun c=>?_)
  ·refine step 49 _ (by rw[B];unfold kO0;rw[if_pos c]) fun d a I a2 a3 a4=>?_
   rw[zH (by omega) (by omega)]
   exact fin d a I a2 a3 a4
  ·refine step 48 _ (by rw[B];unfold kO0;rw[if_neg c]) fun d a I a2 a3 a4=>?_
   rw[zH (by omega) (by omega)]
   exact fin d a I a2 a3 a4
 ·rw[List.take_of_length_le (by simp;omega)] at v
  rw[jL0 v (by simp)]
  exact hK Z _ p rfl
theorem joinX:Builder.Extra PP YtaekfnbnhjgboaaGreatDoor.joinL_ren where
 sizeBuilder:=by kernel_rfl
 liesBuilder:=by kernel_rfl
 t5:=by kernel_rfl
 a5:=fun w=>by kernel_rfl
 z5:=fun w=>by kernel_rfl
 v5:=fun w=>by kernel_rfl
 infoByte:=by kernel_rfl
 cellsByte:=by kernel_rfl
 sizeByte:=by kernel_rfl
 neB5:=by decide+kernel
def joinB:List (List UInt8)→List UInt8
 |[]=>[]
 |x::xs=>x++xs.flatMap fun y=>32::y
theorem kw0 (xs:List (List UInt8)):Lib.join xs [32]=joinB xs:=by
 unfold Lib.join joinB
 induction xs with
 |nil=>rfl
 |cons x xs a=>
  cases xs with
  |nil=>simp[List.intercalate,List.intersperse]
  |cons y ys=>
   simp only[List.intercalate,List.intersperse_cons_cons,List.flatten_cons] at a⊢
   rw[a]
   simp
theorem Join_spec {v:Value} {xs:List ByteArray} (h:OwnV PP yX w v (xs.map .string)) (n:2≤xs.length) (y:xs.length≤1000) (g:(joinB (xs.map (·.data.toList))).length≤1000000)
  (q:∀w' s,Ext w w'→s.data.toList=joinB (xs.map (·.data.toList))→K (.string s) w'):vcall PP JB #[v,.string ⟨#[32]⟩] w K:=by
 obtain⟨a,c,m,l,u,d⟩:=(OwnV.vals h).shape
 have k:(xs.map Value.string).map (fun x=>[x])≠[]:=by intro e;have:=congrArg List.length e;simp only[List.length_map,List.length_nil] at this;omega
 obtain⟨b,o,r,_,t,f⟩:=d k
 simp only[List.length_map] at m f l
 subst r;subst m
 refine⟨by kernel_rfl,?_⟩
 refine(Any.strings_Join_many YtaekfnbnhjgboaaGreatDoor.joinL joinX b o c xs ⟨#[32]⟩ w (fun j x g=>?_) t n (by omega) l (by rw[show(⟨#[32]⟩:ByteArray).data.toList=[32] from rfl,kw0];omega)).mono ?_
 ·have i:j<xs.length:=(List.getElem?_eq_some_iff.1 g).1
  have:=f j i 0 (.string x) (by
   rw[List.getD_eq_getElem?_getD,List.getElem?_map,List.getElem?_map,g];rfl)
  rw[xp,Nat.mul_one,Nat.add_zero] at this
  exact this
 ·rintro e w' ⟨rfl,p⟩
  refine q w' _ (qx0 p) ?_
  rw[show(⟨#[32]⟩:ByteArray).data.toList=[32] from rfl,kw0]
end Go.Proofs.YtaekfnbnhjgboaaGreatDoor
end
section
namespace Go.Proofs.YtaekfnbnhjgboaaGreatDoor
open Go Go.Vc Go.Proofs
variable {w:World} {K:Value→World→Prop} {F F' Fx Fy X Q:Nat→Prop}
theorem UN {s:ByteArray} {m:Value} (c:∀w',Ext w w'→K (.string s) w'):vcall PP yI #[.agg ⟨[.string s,m]⟩] w K:=by
 apply Wr
 refine zx fun b d e he f a=>?_
 simp(disch:=first|(simp only[push_cast];done)|omega) only[push_cast,a.ld0]
 exact c d he
theorem word_spec {o:Int} {v:Value} (n:KindR o v) (p:(1≤o∧o≤17)∨(22≤o∧o≤27)) (a:o≠24) (l:∀w' s,Ext w w'→s.data.toList=M.wordL o→K (.string s) w'):vinvoke PP v Xp #[] w K:=by
 obtain⟨s,m,r,rfl,i,j,k⟩:=n.word
 have hs:s.data.toList=M.wordL o:=by
  rcases k with h|h|h|h
  ·omega
  ·omega
  ·exact absurd h a
  ·exact h
 have fin:vcall PP yI #[.agg ⟨[.string s,.int .i64 m]⟩] w K:=UN fun w' he=>l w' s he hs
 unfold kTy
 by_cases c:24≤o
 ·obtain⟨f,rfl,_⟩:=j c
  repeat rw[if_neg (by omega)]
  exact y8 (Qj _ _ _) fin
 ·have:=i (by omega)
  subst this
  by_cases b:o≤2
  ·rw[if_pos b];exact y8 (Ki _ _) fin
  rw[if_neg b]
  by_cases d:o≤13
  ·rw[if_pos d];exact y8 (Jh _ _) fin
  rw[if_neg d]
  by_cases c3:o=14
  ·rw[if_pos c3];exact y8 (Je _ _) fin
  rw[if_neg c3]
  by_cases e:o≤17
  ·rw[if_pos e];exact y8 (Jb _ _) fin
  rw[if_neg e,if_neg (by omega),if_neg (by omega)]
  by_cases g:o=22
  ·rw[if_pos g];exact y8 (J8 _ _) fin
  rw[if_neg g,if_pos (by omega)]
  exact y8 (Kl _ _) fin
theorem wordL_len (o:Int):(M.wordL o).length≤5:=by
 by_cases h:0≤o∧o<28
 ·have a:∀k:Fin 28,(M.wordL (k.1:Int)).length≤5:=by decide+kernel
  have:=a ⟨o.toNat,by omega⟩
  rwa[show((o.toNat:Nat):Int)=o by omega] at this
 ·unfold M.wordL
  repeat rw[if_neg (by omega)]
  decide
theorem Zv0 (wd n:Nat):(M.vecL wd n).length=wd+1:=by unfold M.vecL;simp
theorem kids_sum {f:M.Tm→Nat} {ks:List M.Tm} {g:M.Tm→List UInt8} (h:∀k,k∈ks→(g k).length+1≤f k):((ks.map g).flatMap (fun x=>32::x)).length≤(ks.map f).sum:=by
 induction ks with
 |nil=>simp
 |cons k ks b=>
  have:=h k List.mem_cons_self
  have:=b fun y a=>h y (List.mem_cons_of_mem _ a)
  simp only[List.map_cons,List.flatMap_cons,List.length_append,List.length_cons,List.sum_cons]
  omega
theorem text_len {ds:List M.Dcl} (i:M.declOk ds=true):∀t,M.sortM ds t≠ -1→(M.textL t).length+1≤20*M.sizeM t:=by
 refine M.Tm.ind fun t n hs=>?_
 obtain⟨h,v,u⟩:=M.right_op hs
 rw[M.sizeM_eq,M.textL_eq]
 have e:((t.ks.map M.textL).flatMap (fun x=>32::x)).length≤(t.ks.map fun k=>20*M.sizeM k).sum:=kids_sum fun k e=>n k e ((M.sort_parts hs).2.1 k e)
 have g:(t.ks.map fun k=>20*M.sizeM k).sum=20*(t.ks.map M.sizeM).sum:=by
  generalize t.ks=l
  induction l with
  |nil=>rfl
  |cons k l ihl=>simp only[List.map_cons,List.sum_cons,ihl];omega
 unfold M.textF
 by_cases c:t.op=20
 ·rw[if_pos c,Zv0]
  have:=M.vok_iff.1 (M.vec_ok hs c);omega
 rw[if_neg c]
 by_cases c:t.op=21
 ·rw[if_pos c]
  have j:=M.name_found hs c
  have m:(M.findD ds t.s).toNat<ds.length:=by have:=(M.findD_lt ds t.s).2;omega
  have d:=(M.decl_iff.1 i).2.1 _ m
  unfold M.dclOk at d
  rw[M.findD_get j] at d
  simp only[Bool.and_eq_true,decide_eq_true_eq,M.nameOk] at d
  obtain⟨⟨⟨⟨⟨⟨o,p⟩,q⟩,r⟩,_⟩,_⟩,_⟩:=d
  have:t.s.data.toList.length=t.s.size:=by rw[Array.length_toList];rfl
  omega
 rw[if_neg c]
 by_cases c:t.op=24
 ·rw[if_pos c];simp;omega
 rw[if_neg c]
 have:=wordL_len t.op
 have f:(if t.op=22 then(32:UInt8)::(M.digL t.a++32::M.digL t.b) else[]).length≤4:=by
  split
  ·simp[M.digL]
  ·simp
 simp only[List.length_cons,List.length_append,List.length_nil]
 omega
theorem Itoa_int {k:Int} (b:0≤k) (c:k<10) (a:∀s:ByteArray,s.data.toList=M.digL k→K (.string s) w):vcall PP j5 #[.int .i64 k] w K:=by
 obtain⟨j,rfl⟩:∃j:Nat,k=j:=⟨k.toNat,by omega⟩
 exact Itoa_spec (by omega) a
theorem textOf_spec {ds:List M.Dcl} (hd:M.declOk ds=true) {kb:Nat}:∀(t:M.Tm),M.sortM ds t≠ -1→M.sizeM t≤1000→∀{w:World} {K:Value→World→Prop} {F:Nat→Prop} {tv:Value},KindsR w kb→TermR F w tv t→
  (∀w' s,Ext w w'→s.data.toList=M.textL t→K (.string s) w')→vcall PP Zl #[.map (some kb),tv] w K:=by
 refine M.Tm.ind fun t ih hs bg w K F tv hk ht n=>?_
 obtain⟨ad,hp,ho⟩:=M.right_op hs
 have hlen:=text_len hd t hs
 obtain⟨kv,rfl,af⟩:=ht
 apply xr0
 refine zx fun b1 O b6 f bi m=>?_
 have Z:=hk.ext f
 have H:=af.ext f
 rw[M.textL_eq] at n hlen
 unfold M.textF at n hlen
 simp(disch:=first|(simp only[push_cast];done)|omega) only[push_cast,m.ld0,m.ld1,m.ld2,m.ld3]
 refine zh (fun c=>?_) (fun c=>?_)
 ·rw[if_pos c] at n
  have hv:=M.vec_ok hs c
  have e:zT PP zb [(0,.int .i64 t.a),(1,.int .i64 t.b)] O=fun K=>K (ky t.a t.b) O:=by
   funext K;exact yw WF (us:=[[.int .i64 t.a],[.int .i64 t.b]]) rfl rfl
  try rw[e]
  exact VecText_spec hv fun w2 s B al=>n w2 s (f.trans B) al
 rw[if_neg c] at n hlen
 refine zh (fun c=>?_) (fun c=>?_)
 ·rw[if_pos c] at n
  exact n O _ f rfl
 rw[if_neg c] at n hlen
 refine zh (fun c=>?_) (fun c=>?_)
 ·rw[if_pos c] at n
  exact n O _ f rfl
 rw[if_neg c] at n hlen
 have aj:(1≤t.op∧t.op≤17)∨(22≤t.op∧t.op≤27):=by omega
 refine UP (ok:=false) Z (by rw[ad];omega) fun bn ag=>?_
 simp only[Bool.false_eq_true,if_false]
 refine word_spec ag aj (by omega) fun w2 ws B a7=>?_
 refine yj KT (by kernel_rfl) KN rfl rfl fun b3 w3 b8 X bj aa=>?_
 have Q:=B.trans X
 have s1:=f.size;have s2:=B.size
 have k:=m.ext Q
 have a3:OwnV PP yX w3 (.slice (some ⟨b3,0,none⟩) 1 1) ([ws].map .string):=Blk.own1 (P:=PP) (t:=yX) (cs:=[Value.string ws]) (by rw[jJ0];exact aa) (Nat.zero_le _) rfl rfl (by omega)
 have bf:1≤t.ks.length:=by
  have:=M.node_arity ho (by omega)
  omega
 have bd:t.ks.length≤3:=by
  have h:M.arity t.op≤3:=by
   unfold M.arity;repeat' split
   all_goals omega
  omega
 refine y5 (fun u w'=> ∃(wv:Value) (wl:List ByteArray),u=[wv]∧Ext O w'∧OwnV PP yX w' wv (wl.map .string)∧(∀b,wv.ownBlock=some b→O.heap.size≤b)∧wl.length≤3∧wl.map (·.data.toList)=M.wordL t.op::(if t.op=22 then[M.digL t.a,M.digL t.b] else[])) ?_ ?_
 ·intro J hJ
  simp(disch:=first|(simp only[push_cast];done)|omega) only[push_cast,k.ld0,k.ld1,k.ld2]
  refine zh (fun z=>?_) (fun z=>?_)
  ·obtain⟨b4,bb,b2⟩:=M.cut_ab hd hs z
   refine zw fun w4 Y _=>?_
   have p:=k.ext Y
   simp(disch:=first|(simp only[push_cast];done)|omega) only[push_cast,p.ld1,p.ld2,true_and]
   refine Itoa_int (by omega) (by omega) fun sa an=>?_
   simp(disch:=first|(simp only[push_cast];done)|omega) only[push_cast,p.ld2,true_and,and_self]
   refine Itoa_int (by omega) (by omega) fun sb ao=>?_
   refine vbuildS_row1 (xs:=[.string sa,.string sb]) KT QN KN (fun x a9=>by
    simp only[List.mem_cons,List.not_mem_nil,or_false] at a9
    rcases a9 with rfl|rfl<;>rfl) (by simp) fun b5 w5 b9 q bk T=>?_
   have aq:Vals (· =b5) w5 (.slice (some ⟨b5,0,none⟩) 2 2) [.string sa,.string sb]:=T.sl1 rfl (by simp)
   have R:=Y.trans q
   refine(a3.ext R).app xQ0 aq (fun u hu=>by
    simp only[List.mem_cons,List.not_mem_nil,or_false] at hu
    rcases hu with rfl|rfl<;>rfl) (by simp) (by simp) fun r6 w6 G am E=>?_
   have bp:=R.size;have z3:=X.size
   refine hJ _ _ ⟨r6,[ws,sa,sb],rfl,Ext.then (Q.trans R) am fun b A=>by have e:b3=b:=Option.some.inj A;omega,by simpa using G,fun b A=>(E b A).elim (fun h=>by have e:b3=b:=Option.some.inj h;omega) fun h=>by omega,by simp,?_⟩
   rw[if_pos z]
   simp[a7,an,ao]
  ·exact hJ _ _ ⟨_,[ws],rfl,Q,a3,fun b A=>by have e:b3=b:=Option.some.inj A;omega,by simp,by rw[if_neg z];simp[a7]⟩
 rintro _ _ w5 ⟨wv,wl,rfl,q,ak,ai,bh,a8⟩
 have T:=m.ext q
 have a0:=H.ext q
 simp(disch:=first|(simp only[push_cast];done)|omega) only[push_cast,T.ld4,a0.len]
 refine vloop_up t.ks.length (fun i u w'=> ∃(r:Value) (kl:List ByteArray),u=[r,.int .i64 i]∧Ext O w'∧OwnV PP yX w' r ((wl++kl).map .string)∧(∀b,r.ownBlock=some b→O.heap.size≤b)∧kl.map (·.data.toList)=(t.ks.take i).map M.textL) ⟨wv,[],rfl,q,by simpa using ak,ai,rfl⟩ ?_
 rintro i _ g w6 C hi ⟨r,kl,rfl,v,G,E,l⟩ hC
 have I:=H.ext v
 have aw:kl.length=i:=by
  have:=congrArg List.length l
  simp only[List.length_map,List.length_take] at this
  omega
 simp only[push_cast]
 refine zh (fun a=>?_) (fun a=>?_)
 ·have d:i<t.ks.length:=by omega
  simp(disch:=first|(simp only[push_cast];done)|omega) only[push_cast,I.iaddr]
  refine I.load zN d fun x hx=>?_
  obtain⟨cx,rfl,U⟩:=hx.cells
  refine zF xA fun b7 w7 ba D bl ab=>?_
  refine stTerm ab rfl (U.ext D) fun w8 ar bm ac=>?_
  have S:Ext w6 w8:=Ext.then D ar fun y hy=>by subst hy;omega
  have v8:=U.ext S
  simp(disch:=(simp only[push_cast];done)) only[push_cast,ac.ldAgg (t:=zd) (by rw[jA U];exact zN)]
  have L:t.ks.getD i default∈t.ks:=M.getD_mem d _
  have ap:M.sizeM (t.ks.getD i default)≤1000:=by
   have h1:=M.szT_succ d
   have h2:=M.szT_mono (ks:=t.ks) (i:=i+1) (j:=t.ks.length) d (Nat.le_refl _)
   have h3:=M.szT_all t
   omega
  refine ih _ L ((M.sort_parts hs).2.1 _ L) ap (Z.ext (v.trans S)) v8.term fun w9 sk ae a6=>?_
  refine yj KT (by kernel_rfl) KN rfl rfl fun b0 w10 av W ay V=>?_
  have o:=S.trans (ae.trans W)
  have be:((wl++kl).map Value.string).length≤6:=by rw[List.length_map,List.length_append];omega
  refine(G.ext o).app1 xQ0 V rfl (by omega) (by omega) fun au bo a2 a4 a1=>?_
  have z6:=v.size;have az:=o.size
  try simp(disch:=omega) only[push_cast,zH]
  refine hC d _ _ ⟨au,kl++[sk],by simp<;>exact⟨rfl,rfl⟩,Ext.then (v.trans o) a4 fun b A=>E b A,?_,fun b A=>(a1 b A).elim (E b) fun h=>by omega,?_⟩
  ·rw[←List.append_assoc,List.map_append];exact a2
  ·rw[M.take_add d default,List.map_append,List.map_append,l]
   simp[a6]
 ·have d:i=t.ks.length:=by omega
  subst d
  rw[List.take_length] at l
  have N:joinB ((wl++kl).map (·.data.toList))=M.wordL t.op++((if t.op=22 then(32:UInt8)::(M.digL t.a++32::M.digL t.b) else[])++(t.ks.map M.textL).flatMap fun x=>32::x):=by
   rw[List.map_append,a8,l]
   show joinB (M.wordL t.op::((if t.op=22 then[M.digL t.a,M.digL t.b] else[])++t.ks.map M.textL))=_
   rw[show ∀(x:List UInt8) xs,joinB (x::xs)=x++xs.flatMap (fun y=>32::y) from fun _ _=>rfl,List.flatMap_append]
   split<;>simp
  have ah:2≤(wl++kl).length:=by
   have h1:1≤wl.length:=by
    have:=congrArg List.length a8
    simp only[List.length_map,List.length_cons] at this
    omega
   rw[List.length_append];omega
  simp only[List.length_cons,List.length_append,List.length_nil] at hlen
  have bc:(joinB ((wl++kl).map (·.data.toList))).length≤20000:=by
   rw[N]
   simp only[List.length_append]
   omega
  refine Join_spec G ah (by rw[List.length_append];omega) (by omega) fun w7 sj D a5=>?_
  have ax:sj.size≤20000:=by
   have:sj.data.toList.length=sj.size:=by rw[Array.length_toList];rfl
   rw[a5] at this;omega
  have h1:(⟨#[40]⟩:ByteArray).size=1:=by decide+kernel
  have h3:(⟨#[41]⟩:ByteArray).size=1:=by decide+kernel
  have h2:((⟨#[40]⟩:ByteArray)++sj).size=1+sj.size:=by rw[ByteArray.size_append,h1]
  rw[X6 (by omega),X6 (by omega)]
  refine n w7 _ (f.trans (v.trans D)) ?_
  rw[ByteArray.data_append,ByteArray.data_append,Array.toList_append,Array.toList_append,a5,N]
  simp
end Go.Proofs.YtaekfnbnhjgboaaGreatDoor
end
section
namespace Go.M
theorem node_right {ds:List Dcl} {t:Tm} (r:declOk ds=true) (hs:sortM ds t≠ -1) {L:Nat→Nat} (f:∀i,i<t.ks.length→L i=lenS (sortM ds (kid t i))):
  (1≤t.op→t.op≤2→t.ks.length=1∧1≤L 0∧L 0≤4)∧(3≤t.op→t.op≤13→t.ks.length=2∧L 0=L 1∧1≤L 0∧L 0≤4)∧(t.op=14→t.ks.length=2∧1≤L 0∧1≤L 1∧L 0+L 1≤4)∧
  (15≤t.op→t.op≤17→t.ks.length=2∧L 0=L 1∧1≤L 0∧L 0≤4)∧(t.op=22→t.ks.length=1∧0≤t.b∧t.b≤t.a∧t.a<L 0∧L 0≤4)∧(t.op=23→t.ks.length=3∧L 0=1∧L 1=L 2∧1≤L 1∧L 1≤4)∧
  (25≤t.op→(t.ks.length=if t.op=25 then 1 else 2)∧∀i,i<t.ks.length→L i=1):=by
 obtain⟨n,s,m⟩:=sort_parts hs
 simp only[formed,Bool.and_eq_true,decide_eq_true_eq] at n
 obtain⟨d,u⟩:=n
 have p:=arity_ops (o:=t.op) (by omega)
 have g:∀i,i<t.ks.length→(t.ks.map (sortM ds)).getD i 0=sortM ds (kid t i):=fun i hi=>getD_map _ hi _ _
 have k:∀i,-1≤sortM ds (kid t i)∧sortM ds (kid t i)≤4:=fun i=>sort_range r _
 rw[m] at hs
 unfold sortK at hs
 unfold arity at d
 have w:=k 0;have y:=k 1;have z:=k 2
 refine⟨fun a b=>?_,fun a b=>?_,fun a=>?_,fun a b=>?_,fun a=>?_,fun a=>?_,fun a=>?_⟩
 ·have j:t.ks.length=1:=by rw[if_neg (by omega),if_pos (by omega)] at d;omega
  rw[if_neg (by omega),if_neg (by omega),if_neg (by omega),if_neg (by omega),if_neg (by omega),if_pos (by omega),g 0 (by omega)] at hs
  have e:=f 0 (by omega)
  by_cases c:0<sortM ds (kid t 0)
  ·unfold lenS at e;omega
  ·rw[if_neg c] at hs;exact absurd rfl hs
 ·have j:t.ks.length=2:=by rw[if_neg (by omega),if_neg (by omega),if_neg (by omega),if_neg (by omega),if_pos (by omega)] at d;omega
  rw[if_neg (by omega),if_neg (by omega),if_neg (by omega),if_neg (by omega),if_neg (by omega),if_neg (by omega),if_neg (by omega),if_neg (by omega),g 0 (by omega),g 1 (by omega)] at hs
  have e:=f 0 (by omega);have h:=f 1 (by omega)
  by_cases c:0<sortM ds (kid t 0)∧sortM ds (kid t 0)=sortM ds (kid t 1)
  ·unfold lenS at e h;omega
  ·rw[if_neg c] at hs;exact absurd rfl hs
 ·have j:t.ks.length=2:=by rw[if_neg (by omega),if_neg (by omega),if_neg (by omega),if_neg (by omega),if_pos (by omega)] at d;omega
  rw[if_neg (by omega),if_neg (by omega),if_neg (by omega),if_neg (by omega),if_neg (by omega),if_neg (by omega),if_pos (by omega),g 0 (by omega),g 1 (by omega)] at hs
  have e:=f 0 (by omega);have h:=f 1 (by omega)
  by_cases c:0<sortM ds (kid t 0)∧0<sortM ds (kid t 1)∧sortM ds (kid t 0)+sortM ds (kid t 1)≤4
  ·unfold lenS at e h;omega
  ·rw[if_neg c] at hs;exact absurd rfl hs
 ·have j:t.ks.length=2:=by rw[if_neg (by omega),if_neg (by omega),if_neg (by omega),if_neg (by omega),if_pos (by omega)] at d;omega
  rw[if_neg (by omega),if_neg (by omega),if_neg (by omega),if_neg (by omega),if_neg (by omega),if_neg (by omega),if_neg (by omega),if_pos (by omega),g 0 (by omega),g 1 (by omega)] at hs
  have e:=f 0 (by omega);have h:=f 1 (by omega)
  by_cases c:0<sortM ds (kid t 0)∧sortM ds (kid t 0)=sortM ds (kid t 1)
  ·unfold lenS at e h;omega
  ·rw[if_neg c] at hs;exact absurd rfl hs
 ·have j:t.ks.length=1:=by rw[if_neg (by omega),if_pos (by omega)] at d;omega
  rw[if_neg (by omega),if_neg (by omega),if_neg (by omega),if_neg (by omega),if_pos (by omega),g 0 (by omega)] at hs
  have e:=f 0 (by omega)
  by_cases c:0≤t.b∧t.b≤t.a∧t.a<sortM ds (kid t 0)
  ·unfold lenS at e;omega
  ·rw[if_neg c] at hs;exact absurd rfl hs
 ·have j:t.ks.length=3:=by rw[if_neg (by omega),if_neg (by omega),if_pos (by omega)] at d;omega
  rw[if_neg (by omega),if_neg (by omega),if_neg (by omega),if_pos (by omega),g 0 (by omega),g 1 (by omega),g 2 (by omega)] at hs
  have e:=f 0 (by omega);have h:=f 1 (by omega);have q:=f 2 (by omega)
  by_cases c:sortM ds (kid t 0)=0∧sortM ds (kid t 1)=sortM ds (kid t 2)
  ·unfold lenS at e h q;omega
  ·rw[if_neg c] at hs;exact absurd rfl hs
 ·have j:t.ks.length=if t.op=25 then 1 else 2:=by
   by_cases c:t.op=25
   ·rw[if_neg (by omega),if_pos (by omega)] at d;rw[if_pos c];omega
   ·rw[if_neg (by omega),if_neg (by omega),if_neg (by omega),if_pos (by omega)] at d;rw[if_neg c];omega
  rw[if_neg (by omega),if_neg (by omega),if_pos (by omega)] at hs
  by_cases c:(t.ks.map (sortM ds)).any (fun x=>decide (x≠0))=true
  ·rw[if_pos c] at hs;exact absurd rfl hs
  ·refine⟨j,fun i hi=>?_⟩
   have e:=f i hi
   have v:sortM ds (kid t i)=0:=Classical.byContradiction fun l=>c (List.any_eq_true.2 ⟨sortM ds (kid t i),List.mem_map.2 ⟨_,getD_mem hi default,rfl⟩,by simpa using l⟩)
   rw[v] at e
   exact e
end Go.M
end
section
namespace Go.Proofs.YtaekfnbnhjgboaaGreatDoor
open Go Go.Vc Go.Proofs
variable {w:World} {K:Value→World→Prop} {F F' Fx Fy X Fk Q:Nat→Prop} {n bc mb bb:Nat} {gs:M.Gs} {v:Value} {ar ab:Addr} {st:Option M.Gs}
theorem Vz {a:TypeId} {v:Value} (b:concB PP a=true) {xT:TypeId}:kX PP (.iface a v) xT a true w K=K (.tuple #[v,.bool true]) w:=by
 refine yB ?_
 unfold concB at b
 cases hu:PP.underlying a with
 |none=>rw[hu] at b;cases b
 |some d=>
  rw[hu] at b
  cases d<;>first|(cases b;done)|simp[Instr.typeAssert,run_underlying hu]
theorem qu {a t:TypeId} {v z:Value} (b:concB PP a=true) (e:yO PP a z) (c:t≠a) {xT:TypeId}:kX PP (.iface t v) xT a true w K=K (.tuple #[z,.bool false]) w:=by
 refine yB ?_
 unfold concB at b
 cases hu:PP.underlying a with
 |none=>rw[hu] at b;cases b
 |some d=>
  rw[hu] at b
  cases d<;>first|(cases b;done)|simp[Instr.typeAssert,run_underlying hu,c,QS e,Result.andThen]
structure KidsR (Fk X F:Nat→Prop) (w:World) (kv:Value) (rs:List (List Int)):Prop where
 at_:∃vs:List Value,Vals Fk w kv vs∧vs.length=rs.length∧∀i,i<rs.length→Ints (Off X F) w (vs.getD i undef) (rs.getD i [])
 sm:∀r,r∈rs→SmL r
theorem KidsR.ext {w':World} {kv:Value} {rs:List (List Int)} (h:KidsR Fk X F w kv rs) (he:Ext w w'):KidsR Fk X F w' kv rs:=by
 obtain⟨vs,a,b,c⟩:=h.at_
 exact⟨⟨vs,a.ext he,b,fun i hi=>(c i hi).ext he⟩,h.sm⟩
theorem KidsR.sml {kv:Value} {rs:List (List Int)} (h:KidsR Fk X F w kv rs) {i:Nat} (hi:i<rs.length):SmL (rs.getD i []):=h.sm _ (M.getD_mem hi [])
theorem KidsR.vals {kv:Value} {rs:List (List Int)} (h:KidsR Fk X F w kv rs):∃vs:List Value,(∀(w':World),Ext w w'→∀i,i<rs.length→∀K:Value→World→Prop,zo PP zy kv (.int .i64 i) w' K=K (.pointer (some (eaddr kv 1 i))) w'∧zf PP za (.pointer (some (eaddr kv 1 i))) w' K=K (vs.getD i undef) w')∧
  ∀i,i<rs.length→Ints (Off X F) w (vs.getD i undef) (rs.getD i []):=by
 obtain⟨vs,b,d,c⟩:=h.at_
 refine⟨vs,fun w' he i hi K=>?_,c⟩
 have a:=b.ext he
 refine⟨?_,a.load zt0 (by omega)⟩
 rw[a.iaddr z40 (by omega) (by omega),Int.toNat_natCast]
theorem stKind {b:Nat} {x y:Value} {t0 tk:TypeId} {s:ByteArray} {m:Int} (h:Blk w b [x,y] t0) (e:aggB PP tk 2=true) (d:∀w',Same (· =b) w w'→K undef w'):zu PP tk (.pointer (some ⟨b,0,none⟩)) (.agg ⟨[.string s,.int .i64 m]⟩) w K:=
 h.stAgg rfl e (by intro v a;simp only[List.mem_cons,List.not_mem_nil,or_false] at a;rcases a with rfl|rfl<;>rfl) fun w' c _ _=>d w' c
theorem fixB_at {wd nn:Int} {j:Nat} (a:(j:Int)<wd):(M.fixB wd nn).getD j 0=if nn.toNat/2^j%2=1 then 1 else-1:=by
 unfold M.fixB
 rw[List.getD_eq_getElem?_getD,List.getElem?_map,List.getElem?_range (by omega)];rfl
theorem fix_step {wd nn:Int} {j:Nat} (a:(j:Int)<wd):((M.fixB wd nn).take j++List.replicate (wd.toNat-j) (-1)).set j (if nn.toNat/2^j%2=1 then 1 else-1)=(M.fixB wd nn).take (j+1)++List.replicate (wd.toNat-(j+1)) (-1):=by
 have b:((M.fixB wd nn).take j).length=j:=by rw[List.length_take,M.fixB_len];omega
 rw[List.set_append_right _ _ (by omega),b,Nat.sub_self,show wd.toNat-j=(wd.toNat-(j+1))+1 by omega,List.replicate_succ,List.set_cons_zero,M.take_add (by rw[M.fixB_len];omega) 0,fixB_at a,List.append_assoc]
 rfl
theorem SmL.fix {wd nn:Int}:SmL (M.fixB wd nn):=fun x a=>by
 unfold M.fixB at a
 obtain⟨j,_,rfl⟩:=List.mem_map.1 a
 split<;>decide
theorem SmL.name {ds:List M.Dcl} {k:Nat} (a:M.declOk ds=true) (b:k<ds.length):SmL (M.nameB ds k):=fun x c=>by
 have:=M.name_has (m:=9) a b (by have:=(M.decl_iff.1 a).2.2;omega) x c
 obtain⟨d,e,f⟩:=this
 unfold Sm;omega
def Xd0 (n bb:Nat) (ar ab:Addr) (X F:Nat→Prop) (w:World) (gs:M.Gs) (ds:List M.Dcl) (t:M.Tm) (rs:List (List Int)) (K:Value→World→Prop):Prop:=
 ∀w' F' st' r zs,BdR n bb ar ab X F' w' st'→Mv F w F' w'→Ints (Off X F') w' r zs→SmL zs→M.Bd.Out n (M.nodeB ds t rs) (some gs) st' zs→K r w'
section
variable {bl kb m:Nat} {dv tv kv:Value} {ds:List M.Dcl} {t:M.Tm} {rs:List (List Int)} {G Gt:Nat→Prop}
theorem root_spec (hb:BdR n bb ar ab X F w (some gs)) (hd:M.declOk ds=true) (hs:M.sortM ds t≠ -1) (hB:Blk w bl [.pointer (some ⟨bb,0,none⟩),dv,.map (some kb),.map (some m)] zM) (bv:DclsR G w dv ds) (c0:KindsR w kb) (ht:TermR Gt w tv t)
  (o:KidsR Fk X F w kv rs) (cr:rs.length=t.ks.length) (hlen:∀i,i<t.ks.length→(rs.getD i []).length=M.lenS (M.sortM ds (M.kid t i)))
  (hK:Xd0 n bb ar ab X F w gs ds t rs K):vcall PP jl #[.pointer (some ⟨bl,0,none⟩),tv,kv] w K:=by
 obtain⟨tk,rfl,cq⟩:=ht
 apply KG
 obtain⟨bs,hp,cf⟩:=M.right_op hs
 obtain⟨q1,q2,q3,q4,q5,q6,q7⟩:=M.node_right hd hs (L:=fun i=>(rs.getD i []).length) hlen
 refine zx fun b1 w1 ck bw ct bo=>?_
 refine zw fun w2 ba _=>?_
 have e2:=bw.trans ba
 have Z:=hB.ext e2
 have U:=bo.ext ba
 have z:=hb.ext e2
 have b8:=bv.ext e2
 simp(disch:=first|(simp only[push_cast];done)|omega) only[push_cast,Z.ld2,U.ld0,true_and]
 refine UP (ok:=false) (c0.ext e2) (by rw[bs];omega) fun cu c1=>⟨rfl,?_⟩
 obtain⟨s,mm,r,bd,a7,c9,_⟩:=c1.word
 simp only[Bool.false_eq_true,if_false]
 rw[bd]
 have q:∀w3,Ext w2 w3→Xd0 n bb ar ab X F w3 gs ds t rs K:=fun w3 I w' F' st' r' zs h1 h2 h3 h4 h5=>hK w' F' st' r' zs h1 ((Mv.refl.ext (e2.trans I)).trans h2) h3 h4 h5
 obtain⟨vs,T,S⟩:=(o.ext e2).vals
 unfold Xd0 M.nodeB at q
 by_cases ae:t.op=20
 ·have D:kTy t.op=zR:=by rw[ae];rfl
  have:=a7 (by omega)
  subst this
  rw[D,Vz yW]
  simp only[push_cast]
  rw[if_pos ae] at q
  refine zF xg fun b3 w3 a9 I ac N=>?_
  refine stKind N zv0 fun w4 O=>?_
  have p:Ext w2 w4:=Ext.then I O fun y hy=>by subst hy;omega
  have ah:=U.ext p
  have hv:=M.vec_ok hs ae
  obtain⟨v1,v2,v3,v4⟩:=M.vok_iff.1 hv
  have cg:(2:Int)^t.a.toNat≤16:=by
   have:=pow4 (k:=t.a.toNat) (by omega) (by omega)
   have e:=yt0 t.a.toNat
   omega
  simp(disch:=first|(simp only[push_cast];done)|omega) only[push_cast,ah.ld1]
  rw[show t.a=((t.a.toNat:Nat):Int) by omega]
  refine offs_spec (by omega) fun l ov J ao an=>?_
  have d:=p.trans J
  have ax:∀(w':World) (K:Value→World→Prop),vbi PP .len [za] ze [ov] w' K=K (.int .i64 t.a.toNat) w':=fun w' K=>by rw[ao.ints.len xx,M.offsL_len]
  rw[ax]
  refine vloop_up t.a.toNat (fun j u w'=>u=[.int .i64 j]∧Ext w2 w'∧OwnI PP za w' ov ((M.fixB t.a t.b).take j++List.replicate (t.a.toNat-j) (-1))) ⟨rfl,d,ao⟩ ?_
  rintro j _ g w6 C hj ⟨rfl,V,E⟩ hC
  have cw:=d.size;have z24:=p.size
  simp only[push_cast]
  refine zh (fun c4=>?_) (fun cn=>?_)
  ·have br:=U.ext V
   simp(disch:=first|(simp only[push_cast];done)|omega) only[push_cast,br.ld2]
   rw[kG xE0 (show jT0 PP ye .u64 by unfold jT0;kernel_rfl),show t.b=((t.b.toNat:Nat):Int) by omega,wrapU (by omega)]
   refine bit_spec (by omega) (by omega) ?_
   have be:((M.fixB t.a t.b).take j++List.replicate (t.a.toNat-j) (-1)).length=t.a.toNat:=by
    rw[List.length_append,List.length_take,M.fixB_len,List.length_replicate];omega
   refine zh (fun c=>?_) (fun c=>?_)
   ·rw[E.ints.iaddr xf (by omega) (by rw[be];omega),Int.toNat_natCast]
    refine E.st yn (by rw[be];omega) fun w7 bf ca cd=>?_
    have aa:=fix_step (wd:=t.a) (nn:=t.b) (j:=j) (by omega)
    rw[if_pos c] at aa
    rw[aa] at bf
    try simp(disch:=omega) only[push_cast,zH]
    exact hC (by omega) _ _ ⟨by simp,Ext.then V ca fun b hb=>by have:=an b hb;omega,bf⟩
   ·have aa:=fix_step (wd:=t.a) (nn:=t.b) (j:=j) (by omega)
    rw[if_neg c] at aa
    have az:((M.fixB t.a t.b).take j++List.replicate (t.a.toNat-j) (-1)).set j (-1)=(M.fixB t.a t.b).take j++List.replicate (t.a.toNat-j) (-1):=by
     have hl:((M.fixB t.a t.b).take j).length=j:=by rw[List.length_take,M.fixB_len];omega
     rw[List.set_append_right _ _ (by omega),hl,Nat.sub_self,show t.a.toNat-j=(t.a.toNat-(j+1))+1 by omega,List.replicate_succ,List.set_cons_zero]
    rw[az] at aa
    rw[aa] at E
    try simp(disch:=omega) only[push_cast,zH]
    exact hC (by omega) _ _ ⟨by simp,V,E⟩
  ·have bz:j=t.a.toNat:=by omega
   rw[bz,Nat.sub_self,List.replicate_zero,List.append_nil,List.take_of_length_le (by rw[M.fixB_len];exact Nat.le_refl _)] at E
   exact q w6 V w6 F (some gs) ov _ (z.ext V) Mv.refl (NewI.of (w:=w2) E (fun b hb=>by have:=an b hb;omega) z.lt).ints SmL.fix (M.Bd.Out.ret _ _)
 rw[if_neg ae] at q
 by_cases af:t.op=21
 ·have D:kTy t.op=zL:=by rw[af];rfl
  have:=a7 (by omega)
  subst this
  rw[D]
  simp only[qu yW xg (show zL≠zR by decide),Vz yY,push_cast]
  rw[if_pos af] at q
  refine zF xl fun b3 w3 a9 I ac N=>?_
  refine stKind N UW fun w4 O=>?_
  have p:Ext w2 w4:=Ext.then I O fun y hy=>by subst hy;omega
  have ah:=U.ext p
  have hf:=M.name_found hs af
  have c4:=M.findD_lt ds t.s
  simp(disch:=first|(simp only[push_cast];done)|omega) only[push_cast,ah.ld3]
  refine inputs_spec (Z.ext p) (b8.ext p) hd hf fun l r5 J ao an=>?_
  have z24:=p.size
  exact q l (p.trans J) l F (some gs) r5 _ (z.ext (p.trans J)) Mv.refl (NewI.of (w:=w2) ao (fun b hb=>by have:=an b hb;omega) z.lt).ints (SmL.name hd (by omega)) (M.Bd.Out.ret _ _)
 rw[if_neg af] at q
 by_cases bn:24≤t.op
 ·have D:kTy t.op=zA:=by
   unfold kTy
   repeat rw[if_neg (by omega)]
  obtain⟨f,rfl,c8⟩:=c9 bn
  rw[D]
  simp only[qu yW xg (show zA≠zR by decide),qu yY xl (show zA≠zL by decide),qu xH xS (show zA≠zP by decide),qu qb qp (show zA≠zW by decide),qu qs j4 (show zA≠zO by decide),qu qL Zt (show zA≠zS by decide),qu qK Zs (show zA≠zV by decide),qu ZH XO (show zA≠zJ by decide),Vz Xy,push_cast]
  refine zF Ui fun b3 w3 a9 I ac N=>?_
  refine N.stAgg (cs':=[.string s,.int .i64 mm,f]) rfl Qn (by intro v hv;simp only[List.mem_cons,List.not_mem_nil,or_false] at hv;rcases hv with rfl|rfl|rfl<;>first|rfl|exact c8) fun w4 O _ bp=>?_
  have p:Ext w2 w4:=Ext.then I O fun y hy=>by subst hy;omega
  have ah:=U.ext p
  rw[bp.ldAgg (t:=zA) Qn,ah.ldAgg (t:=zd) zN]
  apply Jw
  refine zx fun b6 w6 cl V ad ch=>?_
  refine zx fun b7 w7 cm bx cd bq=>?_
  have W:Ext w2 w7:=p.trans (V.trans bx)
  simp(disch:=first|(simp only[push_cast];done)|omega) only[push_cast,bq.ld0]
  have fin:∀(Q:World) (F8:Nat→Prop) (ap:Option M.Gs) (x:Int),BdR n bb ar ab X F8 Q ap→Mv F w2 F8 Q→Sm x→M.Bd.Out n (M.nodeB ds t rs) (some gs) ap [x]→vbuildS PP za 1 [(0,.int .i64 x)] Q K:=fun Q F8 ap x h8 c5 cc c7=>by
   refine yj yT yn yz rfl rfl fun b9 w9 bt ai ce au=>?_
   have a6:OwnI PP za w9 (.slice (some ⟨b9,0,none⟩) 1 1) [x]:=Blk.own1 (P:=PP) (t:=za) (cs:=[Value.int .i64 x]) (by rw[xj];exact au) (Nat.zero_le _) rfl rfl (by omega)
   exact hK w9 F8 ap _ [x] (h8.ext ai) (((Mv.refl.ext e2).trans c5).ext ai) (NewI.of (w:=Q) a6 (fun b hb=>by have e:b9=b:=Option.some.inj hb;omega) h8.lt).ints (SmL.one cc) c7
  unfold M.nodeB at fin
  rw[if_neg ae,if_neg af] at fin
  by_cases c:t.op=24
  ·rw[if_pos c] at fin
   rw[decide_eq_false (by omega),decide_eq_false (by omega),decide_eq_false (by omega)]
   simp only[push_cast]
   exact fin w7 F (some gs) 1 (z.ext W) (Mv.refl.ext W) (by decide) (M.Bd.Out.ret _ _)
  rw[if_neg c] at fin
  obtain⟨aw,b5⟩:=q7 (by omega)
  have co:1≤t.ks.length:=by split at aw<;>omega
  have ci:=b5 0 (by omega)
  by_cases ag:t.op=25
  ·rw[if_pos ag] at fin
   rw[decide_eq_true ag]
   simp only[push_cast]
   have A0:∀K:Value→World→Prop,zo PP zy kv (.int .i64 0) w7 K=K (.pointer (some (eaddr kv 1 0))) w7:=fun K=>(T w7 W 0 (by omega) K).1
   have B0:∀K:Value→World→Prop,zf PP za (.pointer (some (eaddr kv 1 0))) w7 K=K (vs.getD 0 undef) w7:=fun K=>(T w7 W 0 (by omega) K).2
   have R:Ints (Off X F) w7 (vs.getD 0 undef) (rs.getD 0 []):=(S 0 (by omega)).ext W
   have S0:=(o.sml (i:=0) (by omega)).get (i:=0) (by omega)
   unfold Sm at S0
   simp(disch:=first|(simp only[push_cast];done)|omega) only[A0,B0,R.iaddr,R.load,push_cast,zH,Int.zero_sub]
   exact fin w7 F (some gs) _ (z.ext W) (Mv.refl.ext W) (by unfold Sm;rw[Int.natAbs_neg];exact S0) (M.Bd.Out.ret _ _)
  rw[if_neg ag] at fin
  rw[decide_eq_false ag]
  have cp:t.ks.length=2:=by rw[if_neg ag] at aw;exact aw
  have cj:=b5 1 (by omega)
  simp only[push_cast]
  have two:∀(Q:World),Ext w2 Q→(∀K:Value→World→Prop,zo PP zy kv (.int .i64 0) Q K=K (.pointer (some (eaddr kv 1 0))) Q)∧(∀K:Value→World→Prop,zf PP za (.pointer (some (eaddr kv 1 0))) Q K=K (vs.getD 0 undef) Q)∧(∀K:Value→World→Prop,zo PP zy kv (.int .i64 1) Q K=K (.pointer (some (eaddr kv 1 1))) Q)∧(∀K:Value→World→Prop,zf PP za (.pointer (some (eaddr kv 1 1))) Q K=K (vs.getD 1 undef) Q)∧Ints (Off X F) Q (vs.getD 0 undef) (rs.getD 0 [])∧Ints (Off X F) Q (vs.getD 1 undef) (rs.getD 1 []):=fun Q e8=>
   ⟨fun K=>(T Q e8 0 (by omega) K).1,fun K=>(T Q e8 0 (by omega) K).2,fun K=>(T Q e8 1 (by omega) K).1,fun K=>(T Q e8 1 (by omega) K).2,(S 0 (by omega)).ext e8,(S 1 (by omega)).ext e8⟩
  have S0:=(o.sml (i:=0) (by omega)).get (i:=0) (by omega)
  have S1:=(o.sml (i:=1) (by omega)).get (i:=0) (by omega)
  by_cases am:t.op=26
  ·rw[if_pos am] at fin
   rw[decide_eq_true am]
   simp only[push_cast]
   refine zw fun Q av _=>?_
   have Y:=W.trans av
   have aq:=Z.ext Y
   obtain⟨A0,B0,A1,B1,R,V1⟩:=two Q Y
   simp(disch:=first|(simp only[push_cast];done)|omega) only[aq.ld0,A0,B0,A1,B1,R.iaddr,R.load,V1.iaddr,V1.load,push_cast,true_and]
   refine jR (z.ext Y) S0 S1 fun w9 F9 b2 x h9 ay b0 a6=>fin w9 F9 b2 x h9 ((Mv.refl.ext Y).trans ay) b0 ?_
   exact qd a6 (M.Bd.Out.ret _ _)
  rw[if_neg am,if_pos (by omega)] at fin
  rw[decide_eq_false am,decide_eq_true (show t.op=27 by omega)]
  simp only[push_cast]
  refine zw fun Q av _=>?_
  have Y:=W.trans av
  have aq:=Z.ext Y
  obtain⟨A0,B0,A1,B1,R,V1⟩:=two Q Y
  simp(disch:=first|(simp only[push_cast];done)|omega) only[aq.ld0,A0,B0,A1,B1,R.iaddr,R.load,V1.iaddr,V1.load,push_cast,true_and]
  exact bor_spec (z.ext Y) S0 S1 fun w9 F9 b2 x h9 ay b0 a6=>fin w9 F9 b2 x h9 ((Mv.refl.ext Y).trans ay) b0 (M.Bd.Out.map _ a6)
 rw[if_neg (by omega),if_neg (by omega),if_neg (by omega),if_neg (by omega)] at q
 by_cases al:t.op=23
 ·have D:kTy t.op=zW:=by rw[al];rfl
  have:=a7 (by omega)
  subst this
  obtain⟨k1,l0,l1,l2,l3⟩:=q6 al
  rw[D]
  simp only[qu yW xg (show zW≠zR by decide),qu yY xl (show zW≠zL by decide),qu xH xS (show zW≠zP by decide),Vz qb,push_cast]
  rw[if_pos al] at q
  refine zF qp fun b3 w3 a9 I ac N=>?_
  refine stKind N yT0 fun w4 O=>?_
  have p:Ext w2 w4:=Ext.then I O fun y hy=>by subst hy;omega
  refine zw fun l J _=>?_
  have d:=p.trans J
  have B:=U.ext d
  have a0:=Z.ext d
  have H:=z.ext d
  have A0:∀K:Value→World→Prop,zo PP zy kv (.int .i64 0) l K=K (.pointer (some (eaddr kv 1 0))) l:=fun K=>(T l d 0 (by omega) K).1
  have B0:∀K:Value→World→Prop,zf PP za (.pointer (some (eaddr kv 1 0))) l K=K (vs.getD 0 undef) l:=fun K=>(T l d 0 (by omega) K).2
  have R:Ints (Off X F) l (vs.getD 0 undef) (rs.getD 0 []):=(S 0 (by omega)).ext d
  have S0:=o.sml (i:=0) (by omega)
  have A1:∀K:Value→World→Prop,zo PP zy kv (.int .i64 1) l K=K (.pointer (some (eaddr kv 1 1))) l:=fun K=>(T l d 1 (by omega) K).1
  have B1:∀K:Value→World→Prop,zf PP za (.pointer (some (eaddr kv 1 1))) l K=K (vs.getD 1 undef) l:=fun K=>(T l d 1 (by omega) K).2
  have V1:Ints (Off X F) l (vs.getD 1 undef) (rs.getD 1 []):=(S 1 (by omega)).ext d
  have S1:=o.sml (i:=1) (by omega)
  have A2:∀K:Value→World→Prop,zo PP zy kv (.int .i64 2) l K=K (.pointer (some (eaddr kv 1 2))) l:=fun K=>(T l d 2 (by omega) K).1
  have B2:∀K:Value→World→Prop,zf PP za (.pointer (some (eaddr kv 1 2))) l K=K (vs.getD 2 undef) l:=fun K=>(T l d 2 (by omega) K).2
  have V2:Ints (Off X F) l (vs.getD 2 undef) (rs.getD 2 []):=(S 2 (by omega)).ext d
  have S2:=o.sml (i:=2) (by omega)
  simp(disch:=first|(simp only[push_cast];done)|omega) only[a0.ld0,B.ld0,B.ld1,B.ld2,A0,B0,R.iaddr,R.load,A1,B1,V1.iaddr,V1.load,A2,B2,V2.iaddr,V2.load,push_cast,zH,true_and]
  exact choose_spec H ⟨gs,rfl⟩ V1 V2 l1 (by omega) S1 S2 (S0.get (by omega)) fun w6 F6 a8 r6 zs h6 a5 aj ad E=>q l d w6 F6 a8 r6 zs h6 a5 aj ad E
 rw[if_neg al] at q
 by_cases ak:t.op=22
 ·have D:kTy t.op=zP:=by rw[ak];rfl
  have:=a7 (by omega)
  subst this
  obtain⟨k1,l0,l1,l2,l3⟩:=q5 ak
  rw[D]
  simp only[qu yW xg (show zP≠zR by decide),qu yY xl (show zP≠zL by decide),Vz xH,push_cast]
  rw[if_pos ak] at q
  refine zF xS fun b3 w3 a9 I ac N=>?_
  refine stKind N zw0 fun w4 O=>?_
  have p:Ext w2 w4:=Ext.then I O fun y hy=>by subst hy;omega
  refine zw fun l J _=>?_
  have d:=p.trans J
  have B:=U.ext d
  have a0:=Z.ext d
  have H:=z.ext d
  have A0:∀K:Value→World→Prop,zo PP zy kv (.int .i64 0) l K=K (.pointer (some (eaddr kv 1 0))) l:=fun K=>(T l d 0 (by omega) K).1
  have B0:∀K:Value→World→Prop,zf PP za (.pointer (some (eaddr kv 1 0))) l K=K (vs.getD 0 undef) l:=fun K=>(T l d 0 (by omega) K).2
  have R:Ints (Off X F) l (vs.getD 0 undef) (rs.getD 0 []):=(S 0 (by omega)).ext d
  have S0:=o.sml (i:=0) (by omega)
  simp(disch:=first|(simp only[push_cast];done)|omega) only[a0.ld0,B.ld0,B.ld1,B.ld2,A0,B0,R.iaddr,R.load,push_cast,zH,true_and]
  rw[show t.b=((t.b.toNat:Nat):Int) by omega,show t.a+1=((t.a.toNat+1:Nat):Int) by omega]
  refine Ints.cutLH R xf (by omega) (by omega) fun cv bu=>⟨rfl,?_⟩
  refine Clone_signal bu (by rw[List.length_take,List.length_drop];omega) fun w6 r6 V E c6=>?_
  refine q l d w6 F (some gs) r6 _ (H.ext V) (Mv.refl.ext V) (NewI.of (w:=l) E c6 H.lt).ints (fun x hx=>S0 x (List.mem_of_mem_drop (List.mem_of_mem_take hx))) ?_
  rw[show t.a.toNat+1-t.b.toNat=(t.a-t.b+1).toNat by omega]
  exact M.Bd.Out.ret _ _
 rw[if_neg ak] at q
 by_cases c2:t.op≤2
 ·have D:kTy t.op=zO:=by unfold kTy;rw[if_pos c2]
  have:=a7 (by omega)
  subst this
  obtain⟨k1,l0,l1⟩:=q1 (by omega) c2
  rw[D]
  simp only[qu yW xg (show zO≠zR by decide),qu yY xl (show zO≠zL by decide),qu xH xS (show zO≠zP by decide),qu qb qp (show zO≠zW by decide),Vz qs,push_cast]
  rw[if_pos c2] at q
  refine zF j4 fun b3 w3 a9 I ac N=>?_
  refine stKind N yS0 fun w4 O=>?_
  have p:Ext w2 w4:=Ext.then I O fun y hy=>by subst hy;omega
  refine zw fun l J _=>?_
  have d:=p.trans J
  have B:=U.ext d
  have a0:=Z.ext d
  have H:=z.ext d
  have A0:∀K:Value→World→Prop,zo PP zy kv (.int .i64 0) l K=K (.pointer (some (eaddr kv 1 0))) l:=fun K=>(T l d 0 (by omega) K).1
  have B0:∀K:Value→World→Prop,zf PP za (.pointer (some (eaddr kv 1 0))) l K=K (vs.getD 0 undef) l:=fun K=>(T l d 0 (by omega) K).2
  have R:Ints (Off X F) l (vs.getD 0 undef) (rs.getD 0 []):=(S 0 (by omega)).ext d
  have S0:=o.sml (i:=0) (by omega)
  simp(disch:=first|(simp only[push_cast];done)|omega) only[a0.ld0,B.ld0,B.ld1,B.ld2,A0,B0,R.iaddr,R.load,push_cast,zH,true_and]
  exact un_spec H (by omega) R (by omega) S0 fun w6 F6 a8 r6 zs h6 a5 aj ad E=>q l d w6 F6 a8 r6 zs h6 a5 aj ad E
 rw[if_neg c2] at q
 by_cases b4:15≤t.op
 ·have D:kTy t.op=zJ:=by unfold kTy;rw[if_neg (by omega),if_neg (by omega),if_neg (by omega),if_pos (by omega)]
  have:=a7 (by omega)
  subst this
  obtain⟨k1,l0,l1,l2⟩:=q4 b4 (by omega)
  rw[D]
  simp only[qu yW xg (show zJ≠zR by decide),qu yY xl (show zJ≠zL by decide),qu xH xS (show zJ≠zP by decide),qu qb qp (show zJ≠zW by decide),qu qs j4 (show zJ≠zO by decide),qu qL Zt (show zJ≠zS by decide),qu qK Zs (show zJ≠zV by decide),Vz ZH,push_cast]
  rw[if_pos (by omega)] at q
  refine zF XO fun b3 w3 a9 I ac N=>?_
  refine stKind N zx0 fun w4 O=>?_
  have p:Ext w2 w4:=Ext.then I O fun y hy=>by subst hy;omega
  refine zw fun l J _=>?_
  have d:=p.trans J
  have B:=U.ext d
  have a0:=Z.ext d
  have H:=z.ext d
  have A0:∀K:Value→World→Prop,zo PP zy kv (.int .i64 0) l K=K (.pointer (some (eaddr kv 1 0))) l:=fun K=>(T l d 0 (by omega) K).1
  have B0:∀K:Value→World→Prop,zf PP za (.pointer (some (eaddr kv 1 0))) l K=K (vs.getD 0 undef) l:=fun K=>(T l d 0 (by omega) K).2
  have R:Ints (Off X F) l (vs.getD 0 undef) (rs.getD 0 []):=(S 0 (by omega)).ext d
  have S0:=o.sml (i:=0) (by omega)
  have A1:∀K:Value→World→Prop,zo PP zy kv (.int .i64 1) l K=K (.pointer (some (eaddr kv 1 1))) l:=fun K=>(T l d 1 (by omega) K).1
  have B1:∀K:Value→World→Prop,zf PP za (.pointer (some (eaddr kv 1 1))) l K=K (vs.getD 1 undef) l:=fun K=>(T l d 1 (by omega) K).2
  have V1:Ints (Off X F) l (vs.getD 1 undef) (rs.getD 1 []):=(S 1 (by omega)).ext d
  have S1:=o.sml (i:=1) (by omega)
  simp(disch:=first|(simp only[push_cast];done)|omega) only[a0.ld0,B.ld0,B.ld1,B.ld2,A0,B0,R.iaddr,R.load,A1,B1,V1.iaddr,V1.load,push_cast,zH,true_and]
  refine compare_spec H ⟨gs,rfl⟩ b4 (by omega) R V1 l0 l1 (by omega) S0 S1 fun w6 F6 a8 x h6 a5 cb E=>?_
  refine yj yT yn yz rfl rfl fun b9 w9 bt ai ce au=>?_
  have a6:OwnI PP za w9 (.slice (some ⟨b9,0,none⟩) 1 1) [x]:=Blk.own1 (P:=PP) (t:=za) (cs:=[Value.int .i64 x]) (by rw[xj];exact au) (Nat.zero_le _) rfl rfl (by omega)
  exact q l d w9 F6 a8 _ [x] (h6.ext ai) (a5.ext ai) (NewI.of (w:=w6) a6 (fun b hb=>by have e:b9=b:=Option.some.inj hb;omega) h6.lt).ints (SmL.one cb) (M.Bd.Out.map _ E)
 rw[if_neg (by omega)] at q
 have bc:kTy t.op=zS∨kTy t.op=zV:=by
  unfold kTy
  rw[if_neg c2]
  by_cases c:t.op≤13
  ·rw[if_pos c];exact .inl rfl
  ·rw[if_neg c,if_pos (by omega)];exact .inr rfl
 have:=a7 (by omega)
 subst this
 have c3:t.ks.length=2∧(t.op≠14→(rs.getD 0 []).length=(rs.getD 1 []).length)∧(t.op=14→(rs.getD 0 []).length+(rs.getD 1 []).length≤4)∧1≤(rs.getD 0 []).length∧(rs.getD 0 []).length≤4:=by
  by_cases c:t.op=14
  ·obtain⟨a1,a2,a3,a4⟩:=q3 c
   exact⟨a1,fun h=>absurd c h,fun _=>a4,a2,by omega⟩
  ·obtain⟨a1,a2,a3,a4⟩:=q2 (by omega) (by omega)
   exact⟨a1,fun _=>a2,fun h=>absurd h c,a3,a4⟩
 obtain⟨k1,l0,l1,l2,l3⟩:=c3
 have go:y7 w2 fun A=>zf PP zQ (.pointer (some ⟨bl,0,none⟩)) A fun t107 bg=>bg=A∧zf PP ze (.pointer (some ⟨b1,0,none⟩)) A fun t109 bh=>bh=A∧
   zo PP zy kv (.int .i64 0) A fun t111 bi=>bi=A∧zf PP za t111 A fun t112 bj=>bj=A∧zo PP zy kv (.int .i64 1) A fun t114 bk=>bk=A∧
   zf PP za t114 A fun t115 bm=>bm=A∧vcall PP qx #[t107,t109,t112,t115] A K:=by
  refine zw fun l J _=>?_
  have d:=J
  have B:=U.ext d
  have a0:=Z.ext d
  have H:=z.ext d
  have A0:∀K:Value→World→Prop,zo PP zy kv (.int .i64 0) l K=K (.pointer (some (eaddr kv 1 0))) l:=fun K=>(T l d 0 (by omega) K).1
  have B0:∀K:Value→World→Prop,zf PP za (.pointer (some (eaddr kv 1 0))) l K=K (vs.getD 0 undef) l:=fun K=>(T l d 0 (by omega) K).2
  have R:Ints (Off X F) l (vs.getD 0 undef) (rs.getD 0 []):=(S 0 (by omega)).ext d
  have S0:=o.sml (i:=0) (by omega)
  have A1:∀K:Value→World→Prop,zo PP zy kv (.int .i64 1) l K=K (.pointer (some (eaddr kv 1 1))) l:=fun K=>(T l d 1 (by omega) K).1
  have B1:∀K:Value→World→Prop,zf PP za (.pointer (some (eaddr kv 1 1))) l K=K (vs.getD 1 undef) l:=fun K=>(T l d 1 (by omega) K).2
  have V1:Ints (Off X F) l (vs.getD 1 undef) (rs.getD 1 []):=(S 1 (by omega)).ext d
  have S1:=o.sml (i:=1) (by omega)
  simp(disch:=first|(simp only[push_cast];done)|omega) only[a0.ld0,B.ld0,A0,B0,A1,B1,push_cast,true_and]
  exact bin_spec H ⟨gs,rfl⟩ (by omega) (by omega) R V1 l0 l1 l2 (by omega) S0 S1 fun w6 F6 a8 r6 zs h6 a5 aj ad E=>q l d w6 F6 a8 r6 zs h6 a5 aj ad E
 rcases bc with D|D
 ·rw[D]
  simp only[qu yW xg (show zS≠zR by decide),qu yY xl (show zS≠zL by decide),qu xH xS (show zS≠zP by decide),qu qb qp (show zS≠zW by decide),qu qs j4 (show zS≠zO by decide),qu qK Zs (show zS≠zV by decide),Vz qL,push_cast]
  exact go
 ·rw[D]
  simp only[qu yW xg (show zV≠zR by decide),qu yY xl (show zV≠zL by decide),qu xH xS (show zV≠zP by decide),qu qb qp (show zV≠zW by decide),qu qs j4 (show zV≠zO by decide),qu qL Zt (show zV≠zS by decide),Vz qK,push_cast]
  exact go
end
end Go.Proofs.YtaekfnbnhjgboaaGreatDoor
end
section
namespace Go.Proofs.YtaekfnbnhjgboaaGreatDoor
open Go Go.Vc Go.Proofs
variable {w:World} {K:Value→World→Prop} {F F' Fx Fy Fk Q X:Nat→Prop} {n bl bc mb bb kb m:Nat} {gs:M.Gs} {v dv:Value} {ar ab:Addr} {st:Option M.Gs} {ds:List M.Dcl}
def TOut {α:Type} (n:Nat) (p:M.Bd α) (st st':Option M.Gs) (a:α):Prop:=
 (∃gs gs',st=some gs∧st'=some gs'∧p.run n gs=some (gs',a))∨(st'=none∧∀gs,st=some gs→p.run n gs=none)
theorem Out.pre' {α:Type} {p:M.Bd α} {st st':Option M.Gs} {a:α} (h:M.Bd.Out n p st st' a):∀gs',st'=some gs'→∃gs,st=some gs∧gs<+:gs':=fun gs' e=>by
 cases st with
 |none=>rw[h.1] at e;cases e
 |some gs=>
  rcases h with⟨g2,c,b⟩|⟨_,b,_⟩
  ·rw[b] at e;cases e;exact⟨gs,rfl,M.Bd.run_pre c⟩
  ·rw[b] at e;cases e
theorem yG0 (ps:List (M.Bd (List Int))) (p:M.Bd (List Int)):∀(gs:M.Gs),(M.seqB (ps++[p])).run n gs=((M.seqB ps).run n gs).bind fun r=>(p.run n r.1).map fun q=>(q.1,r.2++[q.2]):=by
 induction ps with
 |nil=>
  intro gs
  show((p.bind fun r=>(M.Bd.ret []:M.Bd (List (List Int))).map (r:: ·))).run n gs=_
  rw[M.Bd.run_bind]
  show _=(p.run n gs).map _
  cases p.run n gs<;>rfl
 |cons q ps c=>
  intro gs
  show(q.bind fun r=>(M.seqB (ps++[p])).map (r:: ·)).run n gs=((q.bind fun r=>(M.seqB ps).map (r:: ·)).run n gs).bind _
  rw[M.Bd.run_bind,M.Bd.run_bind]
  cases q.run n gs with
  |none=>rfl
  |some a=>
   show((M.seqB (ps++[p])).bind fun x=>M.Bd.ret (a.2::x)).run n a.1=(((M.seqB ps).bind fun x=>M.Bd.ret (a.2::x)).run n a.1).bind _
   rw[M.Bd.run_bind,M.Bd.run_bind,c]
   cases (M.seqB ps).run n a.1 with
   |none=>rfl
   |some b=>
    show((p.run n b.1).map _).bind _=(p.run n b.1).map _
    cases p.run n b.1<;>rfl
theorem TOut.snoc {ps:List (M.Bd (List Int))} {p:M.Bd (List Int)} {st a st2:Option M.Gs} {rs:List (List Int)} {r:List Int} (h:TOut n (M.seqB ps) st a rs) (d:TOut n p a st2 r):TOut n (M.seqB (ps++[p])) st st2 (rs++[r]):=by
 rcases h with⟨g0,g1,b,a2,a3⟩|⟨b,a2⟩
 ·rcases d with⟨c,g2,b1,b2,b3⟩|⟨b1,b2⟩
  ·rw[a2] at b1;cases b1
   exact .inl ⟨g0,g2,b,b2,by rw[yG0,a3];show(p.run n g1).map _=_;rw[b3];rfl⟩
  ·refine .inr ⟨b1,fun gs e=>?_⟩
   rw[b] at e;cases e
   rw[yG0,a3];show(p.run n g1).map _=_;rw[b2 g1 a2];rfl
 ·rcases d with⟨c,g2,b1,b2,b3⟩|⟨b1,b2⟩
  ·rw[b] at b1;cases b1
  ·exact .inr ⟨b1,fun gs e=>by rw[yG0,a2 gs e];rfl⟩
theorem TOut.root {t:M.Tm} {st a st2:Option M.Gs} {rs:List (List Int)} {zs:List Int} (h:TOut n (M.seqB (t.ks.map (M.termB ds))) st a rs):(∀b,a=some b→M.Bd.Out n (M.nodeB ds t rs) (some b) st2 zs)→(a=none→st2=none)→TOut n (M.termB ds t) st st2 zs:=fun d f=>by
 rcases h with⟨g0,g1,c,a2,a3⟩|⟨c,a2⟩
 ·rcases d g1 a2 with⟨g2,b1,b2⟩|⟨b1,b2,_⟩
  ·exact .inl ⟨g0,g2,c,b2,by rw[M.termB_eq,M.Bd.run_bind,a3];exact b1⟩
  ·refine .inr ⟨b2,fun gs e=>?_⟩
   rw[c] at e;cases e
   rw[M.termB_eq,M.Bd.run_bind,a3];exact b1
 ·exact .inr ⟨f c,fun gs e=>by rw[M.termB_eq,M.Bd.run_bind,a2 gs e];rfl⟩
def P1 (m:Nat) (F:Nat→Prop) (b:Nat):Prop:=F b∨b=m
theorem Mv.p1 {w':World} (h:Mv F w F' w'):Mv (P1 m F) w (P1 m F') w':=
 ⟨h.same.mono fun _ _ h=> .inl h,fun b a=>a.elim (fun a=>(h.new b a).imp .inl id) fun a=> .inl (.inr a)⟩
theorem Sl.mvX {k:Nat} {v:Value} {xs:List (List Value)} {w':World} (h:Sl (Off X F) w k v xs) (d:X m) (hm:Mv (P1 m F) w (P1 m F') w'):Sl (Off X F') w' k v xs:=by
 have f:Sl (fun b=>Off X F b∧b<w.heap.size) w k v xs:=h.weaken fun b a j=>⟨a,j⟩
 have g:=f.same hm.same fun b a _ c=>c.elim a.1.1 fun e=>a.1.2 (e▸d)
 exact g.weaken fun b a _=>⟨fun i=>hm.off (fun c=>c.elim a.1.1 fun e=>a.1.2 (e▸d)) a.2 (.inl i),a.1.2⟩
def MetR (n:Nat) (ds:List M.Dcl) (m:Nat) (X F:Nat→Prop) (w:World) (st:Option M.Gs):Prop:=
 ∃f,MapF .string w m f∧∀p,p∈f→∃(u:M.Tm) (s:ByteArray) (v:Value) (zs:List Int),p=(.string s,v)∧s.data.toList=M.textL u∧M.sortM ds u≠ -1∧Ints (Off X F) w v zs∧SmL zs∧∀gs,st=some gs→(M.termB ds u).run n gs=some (gs,zs)
structure BlR (n bl bb kb m:Nat) (ar ab:Addr) (ds:List M.Dcl) (dv:Value) (X F:Nat→Prop) (w:World) (st:Option M.Gs):Prop where
 bd:BdR n bb ar ab X F w st
 blk:Blk w bl [.pointer (some ⟨bb,0,none⟩),dv,.map (some kb),.map (some m)] zM
 off: ¬F bl∧¬F m∧¬F kb∧bl≠m∧kb≠m
 ext:X m
 dcl:DclsR (Off X F) w dv ds
 kin:KindsR w kb
 met:MetR n ds m X F w st
theorem KindsR.same {w':World} {S:Nat→Prop} (h:KindsR w kb) (hs:Same S w w') (c: ¬S kb):KindsR w' kb:=by
 obtain⟨f,a,b⟩:=h;exact⟨f,a.same hs c,b⟩
theorem KindsR.lt (h:KindsR w kb):kb<w.heap.size:=by obtain⟨f,a,b⟩:=h;exact a.lt
theorem MetR.lt (h:MetR n ds m X F w st):m<w.heap.size:=by obtain⟨f,a,b⟩:=h;exact a.lt
theorem BlR.step {w':World} {st':Option M.Gs} (h:BlR n bl bb kb m ar ab ds dv X F w st) (o:BdR n bb ar ab X F' w' st') (hm:Mv F w F' w') (r:∀gs',st'=some gs'→∃gs,st=some gs∧gs<+:gs'):BlR n bl bb kb m ar ab ds dv X F' w' st':=by
 obtain⟨c,d,g,t,x⟩:=h.off
 refine⟨o,h.blk.same hm.same c,⟨hm.off c h.blk.lt,hm.off d h.met.lt,hm.off g h.kin.lt,t,x⟩,h.ext,Sl.mvX h.dcl h.ext hm.p1,h.kin.same hm.same g,?_⟩
 obtain⟨f,q,a⟩:=h.met
 refine⟨f,q.same hm.same d,fun p b=>?_⟩
 obtain⟨u,s,v,zs,i,a2,a3,a4,a5,j⟩:=a p b
 refine⟨u,s,v,zs,i,a2,a3,Sl.mvX a4 h.ext hm.p1,a5,fun gs' e=>?_⟩
 obtain⟨gs,k,l⟩:=r gs' e
 exact M.Bd.run_again (j gs k) l
theorem BlR.grow {w':World} (h:BlR n bl bb kb m ar ab ds dv X F w st) (he:Ext w w'):BlR n bl bb kb m ar ab ds dv X F w' st:=h.step (h.bd.ext he) (Mv.refl.ext he) fun gs e=>⟨gs,e,List.prefix_refl _⟩
theorem BlR.swap {w0 w':World} {t r S Y:Nat→Prop} {o:Option M.Gs} (h:BlR n bl bb kb m ar ab ds dv X F w st) (e:BlR n bl bb kb m ar ab ds dv t r w0 o) (hw:Same S w w') (i:∀b,S b→X b∧w0.heap.size≤b∧¬F b)
  (q:∀b,Y b→b<w'.heap.size∧(b<w.heap.size→X b)) (hm:Y m):BlR n bl bb kb m ar ab ds dv Y F w' st:=by
 have key:∀b,b<w0.heap.size→¬S b:=fun b a hs=>by have:=(i b hs).2.1;omega
 have a:=h.bd.upd e.bd.err hw fun b a=>(i b a).2
 have d:∀b,Off X F b→b<w.heap.size→¬S b:=fun b a _ hs=>a.2 (i b hs).1
 have cut:∀b,(Off X F b∧b<w.heap.size)→Off Y F b:=fun b a=>⟨a.1.1,fun A=>a.1.2 ((q b A).2 a.2)⟩
 refine⟨⟨a.err,a.blk,a.foot,fun b j=>j.elim (fun h=>a.lt b (.inl h)) fun h=>(q b h).1⟩,h.blk.same hw (key _ e.blk.lt),h.off,hm,?_,h.kin.same hw (key _ e.kin.lt),?_⟩
 ·have g:DclsR (fun b=>Off X F b∧b<w.heap.size) w dv ds:=Sl.weaken h.dcl fun b a c=>⟨a,c⟩
  exact Sl.weaken (Sl.same g hw fun b a c=>d b a.1 c) fun b a _=>cut b a
 ·obtain⟨f,z,k⟩:=h.met
  refine⟨f,z.same hw (key _ e.met.lt),fun p l=>?_⟩
  obtain⟨u,s,v,zs,x,a2,a3,a4,a5,y⟩:=k p l
  have g:Ints (fun b=>Off X F b∧b<w.heap.size) w v zs:=Ints.weaken a4 fun b a c=>⟨a,c⟩
  exact⟨u,s,v,zs,x,a2,a3,Ints.weaken (Ints.same g hw fun b a c=>d b a.1 c) fun b a _=>cut b a,a5,y⟩
theorem Ints.swap {w':World} {S Y:Nat→Prop} {r:Value} {zs:List Int} (h:Ints (Off X F) w r zs) (hw:Same S w w') (d:∀b,S b→X b) (e:∀b,Y b→b<w.heap.size→X b):Ints (Off Y F) w' r zs:=by
 have c:Ints (fun b=>Off X F b∧b<w.heap.size) w r zs:=Ints.weaken h fun b a f=>⟨a,f⟩
 exact Ints.weaken (Ints.same c hw fun b a _ hs=>a.1.2 (d b hs)) fun b a _=>⟨a.1.1,fun g=>a.1.2 (e b g a.2)⟩
theorem V5:ZO0 PP y9 .string za:=⟨_,Z2,by kernel_rfl⟩
theorem BlR.put {s:ByteArray} {t:M.Tm} {r:Value} {zs:List Int} (h:BlR n bl bb kb m ar ab ds dv X F w st) (hs:s.data.toList=M.textL t) (R:M.sortM ds t≠ -1) (hi:Ints (Off X F) w r zs) (z:SmL zs)
  (l:∀gs,st=some gs→(M.termB ds t).run n gs=some (gs,zs)) (N:∀w',BlR n bl bb kb m ar ab ds dv X F w' st→Same (· =m) w w'→K undef w'):kW PP y9 (.map (some m)) (.string s) r w K:=by
 obtain⟨Z,D,o3,T,U⟩:=h.off
 obtain⟨f,C,Q⟩:=h.met
 refine k10 V5 C (V7 s) fun w' H q o hw S=>N w' ?_ hw
 obtain⟨es,cl,x,_⟩:=C
 have i:∀(a:Addr),(∃v,w.cell? a=some v)→a.block≠m:=fun a ⟨v,O⟩ e=>by
  simp[World.cell?,e,x] at O
 have d:∀{g:Nat} {a:Addr},Sent w g a→g≠m:=fun y=>i _ ⟨_,y.cell⟩
 have he:=h.bd.err
 have V:=d he.room
 have W:=d he.bits
 have c:∀b,Off X F b→b<w.heap.size→¬(b=m):=fun b k _ e=>k.2 (e▸h.ext)
 obtain⟨bc,J,L⟩:=h.bd.blk
 refine⟨⟨⟨he.room.same hw V,he.bits.same hw W,he.off⟩,⟨bc,J.same hw fun e=>D (e▸h.bd.foot),fun gs e=>?_⟩,h.bd.foot,fun b k=>by rw[S];exact h.bd.lt b k⟩,h.blk.same hw T,h.off,h.ext,Sl.same h.dcl hw c,h.kin.same hw U,H,q,fun p j=>?_⟩
 ·obtain⟨v,mb,P,I,B⟩:=L gs e
  exact⟨v,mb,P.same hw fun b k e=>D (e▸B b k),I,B⟩
 ·rcases o p j with rfl|j
  ·exact⟨t,s,r,zs,rfl,hs,R,Ints.same hi hw c,z,l⟩
  ·obtain⟨u,Y,v,A,E,a2,a3,a4,a5,G⟩:=Q p j
   exact⟨u,Y,v,A,E,a2,a3,Ints.same a4 hw c,a5,G⟩
structure KidsB (n bl bb kb m:Nat) (ar ab:Addr) (ds:List M.Dcl) (dv:Value) (t:M.Tm) (X F:Nat→Prop) (w:World) (st:Option M.Gs) (i:Nat) (v:Value) (w':World):Prop where
 ex:∃(F1:Nat→Prop) (st1:Option M.Gs) (vs:List Value) (rs:List (List Int)),BlR n bl bb kb m ar ab ds dv (fun b=>X b∨v.ownBlock=some b) F1 w' st1∧Mv (P1 m F) w (P1 m F1) w'∧OwnV PP zy w' v vs∧(∀b,v.ownBlock=some b→w.heap.size≤b∧¬F1 b)∧
  vs.length=i∧rs.length=i∧(∀j,j<i→Ints (Off (fun b=>X b∨v.ownBlock=some b) F1) w' (vs.getD j undef) (rs.getD j []))∧(∀r,r∈rs→SmL r)∧TOut n (M.seqB ((t.ks.take i).map (M.termB ds))) st st1 rs
theorem Uz {α:Type} {l r:List α} {d:α} {i:Nat} (h:i<l.length):(l++r).getD i d=l.getD i d:=by
 rw[List.getD_eq_getElem?_getD,List.getElem?_append_left h,←List.getD_eq_getElem?_getD]
theorem UA {α:Type} {l:List α} {x d:α} {i:Nat} (h:l.length=i):(l++[x]).getD i d=x:=by
 subst h;simp[List.getD_eq_getElem?_getD]
theorem TOut.nil:TOut n (M.seqB []) st st []:=by
 cases st with
 |none=>exact .inr ⟨rfl,fun gs e=>by cases e⟩
 |some gs=>exact .inl ⟨gs,gs,rfl,rfl,rfl⟩
theorem term_spec (hd:M.declOk ds=true):∀(t:M.Tm),M.sortM ds t≠ -1→M.sizeM t≤1000→∀{w:World} {K:Value→World→Prop} {X F:Nat→Prop} {st:Option M.Gs} {tv:Value},BlR n bl bb kb m ar ab ds dv X F w st→TermR (Off X F) w tv t→
  (∀w' F' st' r zs,BlR n bl bb kb m ar ab ds dv X F' w' st'→Mv (P1 m F) w (P1 m F') w'→Ints (Off X F') w' r zs→SmL zs→TOut n (M.termB ds t) st st' zs→K r w')→
  vcall PP ql #[.pointer (some ⟨bl,0,none⟩),tv] w K:=by
 refine M.Tm.ind fun t ih hs br w K X F st tv d ht hK=>?_
 obtain⟨kv,rfl,bn⟩:=ht
 apply KF
 refine zx fun b1 w1 c5 bk c8 b8=>?_
 refine zw fun w2 an _=>?_
 have e2:=bk.trans an
 have ad:=d.grow e2
 have ai:=b8.ext an
 have Z:=bn.ext e2
 simp(disch:=first|(simp only[push_cast];done)|omega) only[push_cast,ad.blk.ld2,ai.ldAgg (t:=zd) zN,true_and]
 refine textOf_spec hd t hs br ad.kin ⟨kv,rfl,Z⟩ fun Q s R b0=>?_
 have e3:=e2.trans R
 have k:=ad.grow R
 have aj:=ai.ext R
 have a0:=Z.ext R
 simp(disch:=first|(simp only[push_cast];done)|omega) only[push_cast,k.blk.ld3]
 obtain⟨f,O,bm⟩:=k.met
 by_cases H:∃v,(Value.string s,v)∈f
 ·obtain⟨v,H⟩:=H
  rw[yx0 V5 O (V7 s) H]
  simp only[push_cast,if_true]
  obtain⟨u,s',v',zs,e,a2,a3,a4,a5,a6⟩:=bm _ H
  cases e
  have:=M.text_inj hd hs a3 (b0.symm.trans a2)
  subst this
  refine hK Q F st v zs k (Mv.refl.ext e3) a4 a5 ?_
  cases st with
  |none=>exact .inr ⟨rfl,fun gs e=>by cases e⟩
  |some gs=>exact .inl ⟨gs,gs,rfl,rfl,a6 gs rfl⟩
 rw[xC0 V5 jz O (V7 s) fun v hv=>H ⟨v,hv⟩]
 simp(disch:=first|(simp only[push_cast];done)|omega) only[push_cast,if_true,aj.ld4,a0.len]
 have c7:t.ks.length≤3:=by
  obtain⟨c4,hp,ho⟩:=M.right_op hs
  have h:M.arity t.op≤3:=by
   unfold M.arity;repeat' split
   all_goals omega
  omega
 have S:∀b,(X b∨(Value.slice none 0 0).ownBlock=some b)→b<Q.heap.size∧(b<Q.heap.size→X b):=fun b d=>d.elim (fun h=>⟨k.bd.lt b (.inr h),fun _=>h⟩) fun h=>by cases h
 have ak:=k.swap (Y:=fun b=>X b∨(Value.slice none 0 0).ownBlock=some b) k (Same.refl (fun _=>False) Q) (fun b d=>d.elim) S (.inl k.ext)
 have be:TmsR (fun b=>Off X F b∧b<Q.heap.size) Q kv t.ks:=a0.weaken fun b d hl=>⟨d,hl⟩
 refine vloop_up t.ks.length (fun i u w'=> ∃v,u=[v,.int .i64 i]∧KidsB n bl bb kb m ar ab ds dv t X F Q st i v w') ⟨_,rfl,⟨F,st,[],[],ak,Mv.refl,OwnV.nil,(fun b d=>by cases d),rfl,rfl,fun j W=>absurd W (by omega),(fun r hr=>by cases hr),TOut.nil⟩⟩ ?_
 rintro i _ g w4 C hi ⟨v,rfl,⟨F4,bv,vs,rs,l,A,af,E,b3,ax,hint,az,L⟩⟩ hC
 simp only[push_cast]
 have l4:=A.same.size
 have I:TmsR (fun b=>Off X F b∧b<Q.heap.size) w4 kv t.ks:=be.same A.same fun b d _ hp=>hp.elim d.1.1 fun e=>d.1.2 (e▸k.ext)
 have bf:∀b,(Off X F b∧b<Q.heap.size)→Off (fun b=>X b∨v.ownBlock=some b) F4 b:=fun b d=>⟨fun O=>A.off (fun hp=>hp.elim d.1.1 fun e=>d.1.2 (e▸k.ext)) d.2 (.inl O),fun hx=>hx.elim d.1.2 fun ho=>by have:=(E b ho).1;omega⟩
 refine zh (fun a=>?_) (fun a=>?_)
 ·have p:i<t.ks.length:=by omega
  simp(disch:=first|(simp only[push_cast];done)|omega) only[push_cast,I.iaddr]
  refine I.load zN p fun x hx=>?_
  obtain⟨cx,rfl,ae⟩:=hx.cells
  refine zF xA fun b7 w7 c6 ao c9 b9=>?_
  refine stTerm b9 rfl (ae.ext ao) fun w8 bt ca ba=>?_
  have D:Ext w4 w8:=Ext.then ao bt fun y hy=>by subst hy;omega
  have v8:=ae.ext D
  simp(disch:=(simp only[push_cast];done)) only[push_cast,ba.ldAgg (t:=zd) (by rw[jA ae];exact zN)]
  have B:t.ks.getD i default∈t.ks:=M.getD_mem p _
  have bq:M.sizeM (t.ks.getD i default)≤1000:=by
   have h1:=M.szT_succ p
   have h2:=M.szT_mono (ks:=t.ks) (i:=i+1) (j:=t.ks.length) p (Nat.le_refl _)
   have h3:=M.szT_all t
   omega
  have bj:=l.grow D
  refine ih _ B ((M.sort_parts hs).2.1 _ B) bq bj (v8.term.weaken fun b d _=>bf b d) fun w9 F9 bw r zs am J ag bu bs=>?_
  refine yj XU kA jz rfl (Sl.cells1 ag) fun c0 w10 bx o bz ah=>?_
  have cb:=D.size;have l9:=J.same.size
  have b2:∀b,v.ownBlock=some b→¬P1 m F4 b:=fun b d hp=>hp.elim (E b d).2 fun e=>by have:=(E b d).1;have:=k.met.lt;omega
  have av:OwnV PP zy w10 v vs:=((af.ext D).same J.same b2).ext o
  refine av.app1 US ah (Sl.one ag) (by omega) (by omega) fun v11 cc a9 z a7=>?_
  try simp(disch:=omega) only[push_cast,zH]
  have a8:∀b,v.ownBlock=some b→¬F9 b:=fun b d O=>J.off (b2 b d) (by have:=af.lt d;omega) (.inl O)
  have G:∀b,(X b∨v11.ownBlock=some b)→b<w10.heap.size→(X b∨v.ownBlock=some b):=fun b d hl=>d.elim .inl fun h=>(a7 b h).elim .inr fun h2=>by omega
  have T:∀j,j<i→Ints (Off (fun b=>X b∨v.ownBlock=some b) F9) w10 (vs.getD j undef) (rs.getD j []):=fun j W=>Ints.ext (Sl.mvX (Ints.ext (hint j W) D) (.inl d.ext) J) o
  refine hC p _ _ ⟨v11,by simp,⟨F9,bw,vs++[r],rs++[zs],(am.grow o).swap k z (fun b d=>⟨.inr d,(E b d).1,a8 b d⟩) (fun b d=>⟨?_,G b d⟩) (.inl d.ext),(((A.ext D).trans J).ext o).to z fun b d=> .inr (E b d).1,a9,fun b d=>?_,by simp[b3],by simp[ax],fun j W=>?_,fun q hq=>?_,?_⟩⟩
  ·rcases d with h|h
   ·have:=l.bd.lt b (.inr (.inl h));have:=o.size;have:=z.size;omega
   ·exact a9.lt h
  ·rcases a7 b d with h|h
   ·exact⟨(E b h).1,a8 b h⟩
   ·have:=o.size
    exact⟨by omega,fun O=>by have:=am.bd.lt b (.inl O);omega⟩
  ·by_cases c:j<i
   ·rw[Uz (by omega),Uz (by omega)]
    exact Ints.swap (T j c) z (fun b d=> .inr d) G
   ·have:j=i:=by omega
    subst this
    rw[UA b3,UA ax]
    exact Ints.swap (Ints.ext ag o) z (fun b d=> .inr d) G
  ·rcases List.mem_append.1 hq with h|h
   ·exact az q h
   ·rw[List.mem_singleton.1 h];exact bu
  ·rw[M.take_add p default,List.map_append]
   exact L.snoc bs
 ·have p:i=t.ks.length:=by omega
  subst p
  rw[List.take_length] at L
  obtain⟨bc,hB,c3⟩:=l.bd.blk
  have back:∀{F5:Nat→Prop} {w5:World} {N:Option M.Gs},BlR n bl bb kb m ar ab ds dv (fun b=>X b∨v.ownBlock=some b) F5 w5 N→BlR n bl bb kb m ar ab ds dv X F5 w5 N:=fun h=>h.swap h (Same.refl (fun _=>False) _) (fun b d=>d.elim) (fun b d=>⟨h.bd.lt b (.inr (.inl d)),fun _=> .inl d⟩) k.ext
  have m3:Mv (P1 m F) w (P1 m F) Q:=Mv.refl.ext e3
  cases bv with
  |none=>
   simp only at hB
   simp(disch:=first|(simp only[push_cast];done)|omega) only[push_cast,l.blk.ld0,hB.ld1,x20]
   have au:Ints (Off X F4) w4 (.slice none 0 0) []:=Ints.weaken (OwnI.nil (P:=PP) (t:=za)).ints fun b d _=>by cases d
   exact hK w4 F4 none _ [] (back l) (m3.trans A) au SmL.nil (TOut.root (st2:=none) L (fun b6 e=>by cases e) fun _=>rfl)
  |some c2=>
   simp only at hB
   simp(disch:=first|(simp only[push_cast];done)|omega) only[push_cast,l.blk.ld0,hB.ld1,Ke]
   have bg:=aj.same A.same fun hp=>hp.elim (fun O=>by have:=d.bd.lt _ (.inl O);omega) fun e=>by have:=d.met.lt;omega
   simp(disch:=first|(simp only[push_cast];done)|omega) only[push_cast,bg.ldAgg (t:=zd) zN]
   have U:(M.seqB (t.ks.map (M.termB ds))).Reach rs:=by
    rcases L with⟨c1,g1,a1,a2,a3⟩|⟨a1,_⟩
    ·exact M.Bd.reach_of_run a3
    ·cases a1
   obtain⟨ay,bp⟩:=M.seq_reach U
   refine root_spec l.bd hd hs l.blk l.dcl l.kin ⟨kv,rfl,I⟩ ⟨⟨vs,af.vals,by omega,fun j W=>hint j (by omega)⟩,az⟩ ay (fun j W=>?_) fun w5 F5 N r zs bh ap bo b5 aw=>?_
   ·have B:t.ks.getD j default∈t.ks:=M.getD_mem W _
    have:=M.term_len hd _ ((M.sort_parts hs).2.1 _ B) (bp j W)
    rw[this];rfl
   have al:=l.step bh ap (Out.pre' aw)
   have ac:TOut n (M.termB ds t) st N zs:=L.root (fun b6 e=>by cases e;exact aw) fun e=>by cases e
   have aq:Mv (P1 m F) w (P1 m F5) w5:=(m3.trans A).trans ap.p1
   have aa:Ints (Off X F5) w5 r zs:=Ints.weaken bo fun b d _=>⟨d.1,fun hx=>d.2 (.inl hx)⟩
   have V:=back al
   simp(disch:=first|(simp only[push_cast];done)|omega) only[push_cast,V.blk.ld3]
   refine V.put b0 hs aa b5 (fun gs e=>?_) fun w6 bi b4=>?_
   ·rcases ac with⟨g0,g1,a1,a2,a3⟩|⟨a1,_⟩
    ·rw[a2] at e;cases e
     exact M.Bd.run_again a3 (List.prefix_refl _)
    ·rw[a1] at e;cases e
   ·refine hK w6 F5 N r zs bi (aq.to b4 fun b d=> .inl (.inr d)) ?_ b5 ac
    exact Ints.same aa b4 fun b d _ e=>d.2 (e▸k.ext)
end Go.Proofs.YtaekfnbnhjgboaaGreatDoor
end
section
namespace Go.Proofs.YtaekfnbnhjgboaaGreatDoor
open Go Go.Vc Go.Proofs
section
open Go.RowKit Go.Extern.Stop Go.Stop Go.Extern
theorem kx0 (v:Value) (w:World):(Extern.ReflectliteType.typeOf #[.iface 358 v]).run Tryz.prog w= .ok (.iface 249 (.agg #[.pointer (some ⟨9,358,none⟩)])) w:=by kernel_rfl
theorem yO0 (w:World):(callFunc 362 #[.agg #[.pointer (some ⟨9,358,none⟩)]]).run Tryz.prog w= .ok (Next.value (.bool true)) w:=by
 rw[@run_callFunc_extern Tryz.prog 362 _ (Extern.ReflectliteType.method fun t=>do Extern.Rtype.noPackHeld "Comparable" t;pure (.bool (←typeInfo t).comparable)) Tryz.func362 (by kernel_rfl) (by kernel_rfl) (by kernel_rfl) (by kernel_rfl)]
 kernel_rfl
theorem ky0 (v:Value) (w:World):(Go.method 507 249 v "Comparable").run Tryz.prog w= .ok (362,v) w:=by kernel_rfl
theorem YX0:(Tryz.prog.info? 358).map (·.comparable)=some true:=by kernel_rfl
theorem YV0:(Tryz.prog.info? 396).map (·.size)=some 1:=by kernel_rfl
theorem YW0 (a : Addr) (w : World) :
    Calls Tryz.prog 59 #[.iface 358 (.pointer (some a)), .iface 358 (.pointer (some a))] w fun e w' => e = .returned (.bool true) ∧ w' = w := by
  obtain ⟨i, hi, hcmp⟩ := Option.map_eq_some_iff.1 YX0
  obtain ⟨j, hj, hjs⟩ := Option.map_eq_some_iff.1 YV0
  have h8 := @run_callFunc_extern Tryz.prog 116 _ Extern.ReflectliteType.typeOf Tryz.func116 (by kernel_rfl) (by kernel_rfl) (by kernel_rfl) (by kernel_rfl)
  have h32 : ∀ w : World, (callFunc 362 #[.agg #[.pointer (some ⟨9, 358, none⟩)]]).run Tryz.prog w = .ok (Next.value (.bool true)) w := yO0
  have tT := kx0
  have mR := ky0
  have heq := run_eql_iface_ptr_same (P := Tryz.prog) w a Tryz.underlying102 Tryz.underlying358 hi hcmp hj
  go_enter Tryz.func59, Tryz.ntmps59
  go_wp2
  refine wp_loop_rounds 1 ?_
  rw [rounds_succ]
  go_wp2
  go_ret
  exact ⟨rfl, rfl⟩
theorem XK0 (b : Addr) (w : World) :
    Calls Tryz.prog 59 #[.nilIface, .iface 358 (.pointer (some b))] w fun e w' => e = .returned (.bool false) ∧ w' = w := by
  have hn := run_eql_iface_nil_left (P := Tryz.prog) w 358 (.pointer (some b)) Tryz.underlying102
  go_enter Tryz.func59, Tryz.ntmps59
  go_wp2
  go_ret
  exact ⟨rfl, rfl⟩
end
variable {w:World} {K:Value→World→Prop}
theorem XJ0 {a:Addr} (b:K (.bool true) w):vcall PP Kh #[erv a,erv a] w K:=
 ⟨by kernel_rfl,(YW0 a w).mono fun e w' h=>by obtain⟨rfl,rfl⟩:=h;exact b⟩
theorem is_no {a:Addr} (b:K (.bool false) w):vcall PP Kh #[.nilIface,erv a] w K:=
 ⟨by kernel_rfl,(XK0 a w).mono fun e w' h=>by obtain⟨rfl,rfl⟩:=h;exact b⟩
end Go.Proofs.YtaekfnbnhjgboaaGreatDoor
end
section
namespace Go.Proofs.YtaekfnbnhjgboaaGreatDoor
open Go Go.Vc Go.Proofs
variable {w:World} {K:Value→World→Prop} {F F' Fx Fy Fk Q X:Nat→Prop} {n bl bc mb bb kb m:Nat} {gs:M.Gs} {v dv:Value} {ar ab:Addr} {st:Option M.Gs} {ds:List M.Dcl}
theorem gone (gs:M.Gs):∀y,y∈gs.map yE→∀c,c∈y→c.oneCell'=true:=fun y b c a=>by
 obtain⟨g,_,rfl⟩:=List.mem_map.1 b
 simp only[yE,List.mem_cons,List.not_mem_nil,or_false] at a
 rcases a with rfl|rfl|rfl<;>rfl
theorem OwnG.nil:OwnG w (.slice none 0 0) []:=Own.nil PP 0 3 zm w
theorem Clone_gate (d:GatesR Fx w v gs) (y:gs.length≤1000000) (l:∀w' v',Ext w w'→OwnG w' v' gs→(∀x,v'.ownBlock=some x→w.heap.size≤x)→K v' w'):
  vcall PP yC #[v] w K:=by
 apply jo
 obtain⟨a,c,rfl,s,t,f⟩:=d.shape
 rw[List.length_map] at d s⊢
 rw[yp0 qB]
 refine yo (fun m=>?_) (fun m=>?_)
 ·cases a with
  |some a=>cases m
  |none=>
   have k:gs=[]:=by
    have p:gs.map yE=[]:=Classical.byContradiction fun h=>by
     obtain⟨b,o,q,_⟩:=f h;cases q
    simpa using p
   subst k
   exact l w _ (Same.refl _ _) OwnG.nil fun x d=>by cases d
 ·refine qg kH K7 fun b n B he C r=>?_
  have g:Own PP 0 3 zm n (.slice (some ⟨b,0,none⟩) 0 0) []:=Blk.ownk (css:=[]) (by rw[Vf];exact r) (fun x d=>by cases d) rfl (by omega)
  have j:Sl Fx n 3 (.slice a gs.length c) (gs.map yE):=Sl.ext d he
  refine vappend (bs:=24) jv (by decide) g j (gone gs) (by omega) (by rw[List.length_map];simp;omega) (by rw[List.length_map];simp;omega) fun v' A u hs i=>?_
  have z:=he.size
  refine l A v' (Ext.then he hs fun x d=>by have e:b=x:=Option.some.inj d;omega) u fun x d=>?_
  rcases i x d with h|h
  ·have e:b=x:=Option.some.inj h;omega
  ·omega
theorem sigof_spec {a m:Int} (hm:m.natAbs≤1000000) (b:K (.bool (decide (a≠0∧ -m≤a∧a≤m))) w):vcall PP j9 #[.int .i64 a,.int .i64 m] w K:=by
 apply Uo
 simp only[push_cast]
 refine zh (fun c=>?_) (fun c=>?_)
 ·simp(disch:=omega) only[push_cast,zH,Int.zero_sub]
  refine zh (fun d=>?_) (fun d=>?_)
  ·try simp only[push_cast]
   rwa[show decide (a≠0∧ -m≤a∧a≤m)=decide (a≤m) from decide_eq_decide.2 ⟨fun h=>h.2.2,fun h=>⟨c,d,h⟩⟩] at b
  ·rwa[decide_eq_false (fun h=>d h.2.1)] at b
 ·rwa[decide_eq_false (fun h=>c h.1)] at b
theorem yv0 {a:Int} {o:Option Addr} {l c mb:Nat}:zT PP zK [(0,.agg ⟨[.int .i64 a,.slice o l c]⟩),(1,.map (some mb))] w K=K (.agg ⟨[.int .i64 a,.slice o l c,.map (some mb)]⟩) w:=yw yj0 (us:=[[.int .i64 a,.slice o l c],[.map (some mb)]]) rfl rfl
theorem kQ0 {a:Int} {o:Option Addr} {l c:Nat}:zT PP zj [(0,.int .i64 a),(1,.slice o l c)] w K=K (.agg ⟨[.int .i64 a,.slice o l c]⟩) w:=yw WG (us:=[[.int .i64 a],[.slice o l c]]) rfl rfl
structure Rd (n:Nat) (w:World) (bc:Nat) (v':Value) (mb:Nat) (gs:M.Gs) (i:Nat) (w':World):Prop where
 ext:Ext w w'
 blk:Blk w' bc [.int .i64 n,v',.map (some mb)] zK
 own:OwnG w' v' gs
 map:∃f,GMap w' mb f∧∀g,Jl g f=if g∈gs.take i then some (2+n+gs.idxOf g:Int) else none
 sep:bc≠mb∧v'.ownBlock≠some bc∧v'.ownBlock≠some mb
 new:∀b,Jm bc mb v' b→w.heap.size≤b
theorem readNet_spec (hv:GatesR Fx w v gs) (hg:M.NetG n gs) (hn:n≤8) (hK:∀w' bc v' mb,CktR n bc w' gs v' mb→Ext w w'→(∀b,Jm bc mb v' b→w.heap.size≤b)→K (.tuple #[.pointer (some ⟨bc,0,none⟩),.bool true]) w'):
  vcall PP Yz #[.agg ⟨[.int .i64 n,v]⟩] w K:=by
 apply y50
 refine zx fun b1 w1 ap F au x=>?_
 have ar:GatesR Fx w1 v gs:=Sl.ext hv F
 have ad:=hg.few
 have hlen:∀(w':World) (K:Value→World→Prop),vbi PP .len [zm] ze [v] w' K=K (.int .i64 gs.length) w':=fun w' K=>by rw[Sl.len hv qB,ji0]
 refine y5 (fun u w'=>u=[]∧w'=w1) ?_ ?_
 ·intro J O
  simp(disch:=first|(simp only[push_cast];done)|omega) only[push_cast,x.ld0]
  refine zh (fun c=>absurd c (by omega)) (fun _=>?_)
  try simp(disch:=first|(simp only[push_cast];done)|omega) only[push_cast,x.ld0]
  refine zh (fun c=>absurd c (by omega)) (fun _=>?_)
  try simp(disch:=first|(simp only[push_cast];done)|omega) only[push_cast,x.ld1,hlen]
  refine zh (fun c=>absurd c (by omega)) (fun _=>?_)
  exact O _ _ ⟨rfl,rfl⟩
 rintro _ _ w2 ⟨rfl,rfl⟩
 refine y5 (fun u w'=> ∃bc v' mb,u=[.pointer (some ⟨bc,0,none⟩)]∧Rd n w2 bc v' mb gs 0 w') ?_ ?_
 ·intro J O
  refine zw fun w3 B _=>?_
  have z:=x.ext B
  have e3:=F.trans B
  simp(disch:=first|(simp only[push_cast];done)|omega) only[push_cast,z.ld0,z.ld1,true_and,and_true]
  refine⟨?_,?_⟩
  ·refine Clone_gate (Sl.ext hv e3) (by omega) fun w4 v' p k S=>?_
   have A:=z.ext p
   obtain⟨o,c,rfl,_⟩:=(Own.sl k).shape
   simp(disch:=first|(simp only[push_cast];done)|omega) only[push_cast,A.ld0,true_and,and_true,and_self,kQ0]
   refine XN0 rfl fun mb w5 al a1 l af=>?_
   have q:=A.ext l
   simp(disch:=first|(simp only[push_cast];done)|omega) only[push_cast,q.ld0,true_and,and_true,and_self,kQ0,yv0]
   refine zx fun bc w6 aj r ag E=>?_
   have z3:=B.size;have z4:=p.size
   have R:=(fun b P=>(Own.lt k (b:=b) P).2)
   refine O _ _ ⟨bc,_,mb,rfl,B.trans (p.trans (l.trans r)),E,Own.ext k (l.trans r),⟨[],a1.ext r,fun g=>rfl⟩,⟨by omega,fun h=>by have:=R _ h;omega,fun h=>by have:=R _ h;omega⟩,?_⟩
   rintro b (rfl|rfl|h)
   ·omega
   ·omega
   ·have:=S b h;omega
  ·refine XN0 rfl fun mb w5 al a1 l af=>?_
   have q:=z.ext l
   simp(disch:=first|(simp only[push_cast];done)|omega) only[push_cast,q.ld0,q.ld1,true_and,and_true,and_self]
   refine Clone_gate (Sl.ext hv (e3.trans l)) (by omega) fun w4 v' p k S=>?_
   have A:=q.ext p
   obtain⟨o,c,rfl,_⟩:=(Own.sl k).shape
   simp(disch:=first|(simp only[push_cast];done)|omega) only[push_cast,A.ld0,true_and,and_true,and_self,kQ0,yv0]
   refine zx fun bc w6 aj r ag E=>?_
   have z3:=B.size;have z4:=p.size
   have R:=(fun b P=>(Own.lt k (b:=b) P).2)
   refine O _ _ ⟨bc,_,mb,rfl,B.trans (l.trans (p.trans r)),E,Own.ext k r,⟨[],a1.ext (p.trans r),fun g=>rfl⟩,⟨by omega,fun h=>by have:=R _ h;omega,fun h=>by have:=S _ h;omega⟩,?_⟩
   rintro b (rfl|rfl|h)
   ·omega
   ·omega
   ·have:=S b h;omega
 rintro _ _ w3 ⟨bc,v',mb,rfl,h3⟩
 have z:=x.ext h3.ext
 simp(disch:=first|(simp only[push_cast];done)|omega) only[push_cast,z.ld1,hlen]
 refine vloop_up gs.length (fun i u w'=>u=[.int .i64 i]∧Rd n w2 bc v' mb gs i w') ⟨rfl,h3⟩ ?_
 rintro i _ _ w4 C hi ⟨rfl,d⟩ hC
 have A:=x.ext d.ext
 simp only[push_cast]
 refine zh (fun a=>?_) (fun a=>?_)
 ·have m:i<gs.length:=by omega
  have k:Sl Fx w4 3 v (gs.map yE):=Sl.ext hv (F.trans d.ext)
  have ak:(gs.map yE).getD i []=yE gs[i]:=by simp[List.getD_eq_getElem?_getD,m]
  rw[Sl.iaddr k Qo (by omega) (by rw[ji0];omega),Int.toNat_natCast,Sl.ldAgg k qm (by rw[ji0];exact m),ak]
  obtain⟨g1,g2,g3,g4⟩:=hg.gate i m
  have X:gs[i]∉gs.take i:=fun h=>by
   obtain⟨j,hj,e⟩:=List.getElem_of_mem h
   rw[List.length_take] at hj
   rw[List.getElem_take] at e
   exact List.pairwise_iff_getElem.1 hg.once j i (by omega) m (by omega) e
  have an:gs.take (i+1)=gs.take i++[gs[i]]:=by rw[List.take_add_one,List.getElem?_eq_getElem m];rfl
  have ae:gs.idxOf gs[i]=i:=List.Nodup.idxOf_getElem hg.once i m
  generalize gs[i]=g at*
  have absN:∀a:Int,M.absI a=(a.natAbs:Int):=fun a=>by unfold M.absI;split<;>omega
  have ga:=absN g.a
  have gb:=absN g.b
  refine zF Y0 fun b5 w5 aq l af q=>?_
  refine q.stAgg (cs':=yE g) rfl qm (fun c hc=>by simp only[yE,List.mem_cons,List.not_mem_nil,or_false] at hc;rcases hc with rfl|rfl|rfl<;>rfl) fun w6 am ag E=>?_
  have ah:Ext w4 w6:=Ext.then l am fun y hy=>by subst hy;omega
  refine zw fun w7 a9 _=>?_
  have N:=E.ext a9
  have a3:=ah.trans a9
  have Y:=A.ext a3
  have a0:∀w':World,Blk w' b5 (yE g) zn→∀K:Value→World→Prop,zf PP zn (.pointer (some ⟨b5,0,none⟩)) w' K=K (gv g) w':=fun w' hB K=>Blk.ldAgg hB (by exact qm)
  simp(disch:=first|(simp only[push_cast];done)|omega) only[push_cast,N.ld1,N.ld2,true_and]
  refine y5 (fun u w'=>u=[]∧Ext w7 w') ?_ ?_
  ·intro J O
   rw[Y.ldAgg (t:=zj) yg]
   refine nodes_spec (by omega) (by omega) fun w8 aa=>?_
   refine sigof_spec (by omega) ?_
   rw[decide_eq_true ⟨by omega,by omega,by omega⟩]
   have ai:=Y.ext aa
   simp(disch:=first|(simp only[push_cast];done)|omega) only[push_cast,Bool.not_true,ai.ldAgg (t:=zj) yg]
   refine nodes_spec (by omega) (by omega) fun w9 D=>?_
   refine sigof_spec (by omega) ?_
   rw[decide_eq_true ⟨by omega,by omega,by omega⟩]
   simp only[push_cast,Bool.not_true]
   refine node_spec (by omega) ?_
   simp only[push_cast]
   refine zh (fun c=>absurd c (by omega)) (fun _=>?_)
   refine node_spec (by omega) ?_
   simp only[push_cast]
   refine zh (fun c=>absurd c (by omega)) (fun _=>?_)
   refine node_spec (by omega) (node_spec (by omega) ?_)
   simp only[push_cast]
   refine zh (fun c=>absurd c (by omega)) (fun _=>?_)
   exact O _ _ ⟨rfl,aa.trans D⟩
  rintro _ _ w9 ⟨rfl,D⟩
  have a4:=a3.trans D
  refine y5 (fun u w'=>u=[]∧Ext w9 w') ?_ ?_
  ·intro J O
   refine zw fun w10 s _=>?_
   have e:=a4.trans s
   have a5:=d.blk.ext e
   have U:=(N.ext D).ext s
   obtain⟨f,hf,hl⟩:=d.map
   have ab:=hf.ext e
   have a2:Jl g f=none:=by rw[hl,if_neg X]
   simp(disch:=first|(simp only[push_cast];done)|omega) only[push_cast,a5.ld2,a0 _ U,Yt0 ab,a2,true_and]
   simp(disch:=first|(simp only[push_cast];done)|omega) only[push_cast,U.ld0]
   refine yo (fun hx=>?_) (fun hx=>?_)
   ·obtain⟨p1,p2⟩:=g4 hx
    try simp only[push_cast]
    refine zh (fun c=>absurd c (by omega)) (fun _=>?_)
    try simp only[push_cast]
    refine zh (fun c=>absurd c (by omega)) (fun _=>?_)
    exact O _ _ ⟨rfl,s⟩
   ·exact O _ _ ⟨rfl,s⟩
  rintro _ _ av ⟨rfl,G⟩
  refine zw fun aw H _=>?_
  have e:=(a4.trans G).trans H
  have a6:=d.blk.ext e
  have V:=((N.ext D).ext G).ext H
  have a8:=((Y.ext D).ext G).ext H
  simp(disch:=first|(simp only[push_cast];done)|omega) only[push_cast,a6.ld2,a0 _ V,a8.ldAgg (t:=zj) yg,true_and]
  refine nodes_spec (by omega) (by omega) fun ax W=>?_
  have L:=e.trans W
  have T:=d.blk.ext L
  have a7:=V.ext W
  obtain⟨f,hf,hl⟩:=d.map
  have a2:Jl g f=none:=by rw[hl,if_neg X]
  simp(disch:=first|(simp only[push_cast];done)|omega) only[push_cast,T.ld2,a0 _ a7,true_and,and_self,and_true,zH]
  refine gset (hf.ext L) a2 fun ay ac I ao=>?_
  try simp(disch:=omega) only[push_cast,zH]
  have l4:=d.ext.size
  refine hC m _ _ ⟨by simp,Ext.then (d.ext.trans L) I (fun b P=>by have:=d.new b (.inr (.inl P));omega),T.same I d.sep.1,Own.same (Own.ext d.own L) I (fun b P e=>d.sep.2.2 (e▸P)),⟨_,ac,fun g'=>?_⟩,d.sep,d.new⟩
  have e1:=look_app (g:=g') (h:=g) (n:=1+(n:Int)+i+1) (f:=f) (i:=0)
  have e2:=hl g'
  unfold Jl at e2⊢
  rw[e1,e2,an]
  by_cases Q:g'∈gs.take i
  ·rw[if_pos Q,if_pos (List.mem_append.2 (.inl Q))]
  ·rw[if_neg Q]
   by_cases Z:g'=g
   ·subst Z
    simp only
    rw[if_pos trivial,if_pos (by simp),ae]
    congr 1;omega
   ·simp only
    rw[if_neg Z,if_neg (by simp[Q,Z])]
 ·have m:i=gs.length:=by omega
  subst m
  obtain⟨f,hf,hl⟩:=d.map
  rw[List.take_length] at hl
  have z1:=F.size
  exact hK w4 bc v' mb ⟨d.blk,d.own,⟨f,hf,hl⟩,d.sep,ad,hn⟩ (F.trans d.ext) fun b P=>by have:=d.new b P;omega
end Go.Proofs.YtaekfnbnhjgboaaGreatDoor
end
section
namespace Go.Proofs.YtaekfnbnhjgboaaGreatDoor
open Go Go.Vc Go.Proofs
variable {w:World} {K:Value→World→Prop} {F F' Fx Fy Fk Q X:Nat→Prop} {n bl bc mb bb kb m:Nat} {gs:M.Gs} {v dv:Value} {ar ab:Addr} {st:Option M.Gs} {ds:List M.Dcl}
theorem kP0 {a:Int}:zT PP zj [(0,.int .i64 a)] w K=K (.agg ⟨[.int .i64 a,.slice none 0 0]⟩) w:=yw WG (us:=[[.int .i64 a]]) rfl rfl
theorem X80:zT PP zj [] w K=K (.agg ⟨[.int .i64 0,.slice none 0 0]⟩) w:=yw WG (us:=[]) rfl rfl
theorem jM0 {a:Addr}:zT PP zX [(0,.pointer (some a))] w K=K (.agg ⟨[.pointer (some a),.nilIface]⟩) w:=yw yl0 (us:=[[.pointer (some a)]]) rfl rfl
theorem jN0 {a:Addr} {o:Option Addr} {l c k m:Nat}:zT PP zM [(0,.pointer (some a)),(1,.slice o l c),(2,.map (some k)),(3,.map (some m))] w K=K (.agg ⟨[.pointer (some a),.slice o l c,.map (some k),.map (some m)]⟩) w:=yw ym0 (us:=[[.pointer (some a)],[.slice o l c],[.map (some k)],[.map (some m)]]) rfl rfl
theorem GatesR.nil:GatesR Fx w (.slice none 0 0) []:=Sl.weaken (Own.sl (OwnG.nil (w:=w))) fun b a _=>by cases a
theorem NetG.nil (n:Nat):M.NetG n []:=⟨by simp,fun k h=>absurd h (by simp),List.nodup_nil⟩
theorem newBlaster_spec (A:M.declOk ds=true) (n:DclsR Fx w dv ds) (he:Errs (fun _=>False) w ar ab)
  (I:∀w' bl bb kb m F,BlR (M.bits ds).toNat bl bb kb m ar ab ds dv (· =m) F w' (some [])→Ext w w'→(∀b,F b∨b=m∨b=bl→w.heap.size≤b)→K (.pointer (some ⟨bl,0,none⟩)) w'):vcall PP kp #[dv] w K:=by
 apply Wq
 have Y:=(M.decl_iff.1 A).2.2
 have X:=M.bits_pos' (ds:=ds) fun d B=>by
  obtain⟨i,hi,e⟩:=List.getElem_of_mem B
  have:=(M.dcl_wide A hi).1
  rw[List.getD_eq_getElem?_getD,List.getElem?_eq_getElem hi] at this
  simp only[Option.getD_some,e] at this
  omega
 refine bitsOf_spec n A fun w1 s=>?_
 rw[kP0,show M.bits ds=(((M.bits ds).toNat:Nat):Int) by omega]
 refine readNet_spec (Fx:=Fx) (gs:=[]) GatesR.nil (NetG.nil _) (by omega) fun U bc v' mb G t E=>?_
 simp only[push_cast,jM0]
 refine zx fun bb w3 J u R y=>?_
 refine kinds_new fun V kb q v P=>?_
 refine qY0 V5 fun m w5 hm D l S=>?_
 obtain⟨o,c,rfl,_⟩:=n.shape
 rw[jN0]
 refine zx fun bl W L g T z=>?_
 have s1:=s.size;have s2:=t.size;have s3:=u.size;have s4:=q.size;have s5:=l.size;have s6:=g.size
 have r:=u.trans (q.trans (l.trans g))
 have x:=t.trans r
 have k:=s.trans x
 have j:∀b,Jm bc mb v' b→b<U.heap.size:=fun b f=>G.lt f
 have C:=v.ext (l.trans g)
 have N:=v.lt
 have a:∀b,(Jm bc mb v' b∨b=bb)→w.heap.size≤b∧b<V.heap.size:=fun b f=>f.elim (fun h=>by have:=E b h;have:=j b h;omega) fun h=>by omega
 refine I W bl bb kb m (fun b=>Jm bc mb v' b∨b=bb) ⟨⟨⟨?_,?_,?_⟩,⟨bc,y.ext (q.trans (l.trans g)),fun gs e=>?_⟩,.inr rfl,fun b f=>?_⟩,z,⟨fun h=>by have:=(a _ h).2;omega,fun h=>by have:=(a _ h).2;omega,?_,by omega,by omega⟩,rfl,?_,C,?_⟩ k fun b f=>?_
 ·exact he.room.same k id
 ·exact he.bits.same k id
 ·have Z:=he.room.lt;have l2:=he.bits.lt
  exact⟨fun h=>by have:=(a _ h).1;omega,fun h=>by have:=(a _ h).1;omega⟩
 ·cases e
  exact⟨v',mb,G.ext r,fun h=>by have:=j _ h;omega,fun b f=> .inl f⟩
 ·rcases f with h|h
  ·have:=(a _ h).2;omega
  ·omega
 ·rintro(h|h)
  ·have:=j _ h;omega
  ·omega
 ·have H:DclsR (fun b=>Fx b∧b<w.heap.size) w _ ds:=Sl.weaken n fun b f O=>⟨f,O⟩
  exact Sl.weaken (Sl.ext H k) fun b f _=>⟨fun h=>by have:=(a _ h).1;omega,fun h=>by omega⟩
 ·exact⟨[],D.ext g,fun p Q=>by cases Q⟩
 ·rcases f with h|h|h
  ·exact(a _ h).1
  ·omega
  ·omega
theorem Zz0 {t:M.Tm} (h:M.tsort ds t≠ -1):M.fits t=true∧M.declOk ds=true∧M.sortM ds t≠ -1∧M.sizeM t≤20:=by
 unfold M.tsort at h
 split at h
 ·next a=>exact⟨a.1,a.2,h,(M.fits_iff.1 a.1).1⟩
 ·exact absurd rfl h
end Go.Proofs.YtaekfnbnhjgboaaGreatDoor
end
