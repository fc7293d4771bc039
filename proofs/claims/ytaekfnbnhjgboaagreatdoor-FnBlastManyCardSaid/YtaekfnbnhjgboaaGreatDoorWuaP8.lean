import Derived.Test.YtaekfnbnhjgboaaGreatDoorWuaP7
import Derived.Test.YtaekfnbnhjgboaaGreatDoorWuaP5
/- A part of the proof. -/
set_option linter.unusedVariables false
set_option linter.unusedSimpArgs false
set_option linter.unnecessarySimpa false
set_option linter.unusedSectionVars false
section
namespace Go.Proofs.YtaekfnbnhjgboaaGreatDoor
open Go Go.Vc Go.Proofs
variable {w:World} {K:Value→World→Prop} {F G:Nat→Prop}
theorem dw_nil {α:Type} {p:α→Bool}:∀{l:List α},l.dropWhile p=[]↔ ∀x,x∈l→p x=true
 |[]=>by simp
 |a::l=>by
  rw[List.dropWhile_cons]
  split
  ·rename_i h
   rw[dw_nil]
   constructor
   ·intro hl x hx
    rcases List.mem_cons.1 hx with rfl|hx
    ·exact h
    ·exact hl x hx
   ·intro hl x hx;exact hl x (List.mem_cons_of_mem _ hx)
  ·rename_i h
   constructor
   ·intro hl;cases hl
   ·intro hl;exact absurd (hl a List.mem_cons_self) h
theorem dw_head {α:Type} {p:α→Bool}:∀{l:List α},l.dropWhile p≠[]→∃x,x∈l.dropWhile p∧p x=false
 |[],h=>absurd rfl h
 |a::l,h=>by
  rw[List.dropWhile_cons] at h⊢
  split
  ·rename_i hp
   rw[if_pos hp] at h
   exact dw_head h
  ·rename_i hp
   exact⟨a,List.mem_cons_self,by simpa using hp⟩
theorem dw_sub {α:Type} {p:α→Bool}:∀{l:List α} {x:α},x∈l.dropWhile p→x∈l
 |[],_,h=>h
 |a::l,x,h=>by
  rw[List.dropWhile_cons] at h
  split at h
  ·exact List.mem_cons_of_mem _ (dw_sub h)
  ·exact h
theorem jP0 {l cs:List UInt8}:Lib.trimS l cs=[]↔ ∀x,x∈l→cs.contains x=true:=by
 unfold Lib.trimS Lib.trimLeftS Lib.trimRightS
 rw[dw_nil]
 constructor
 ·intro h
  by_cases hall:∀x,x∈l→cs.contains x=true
  ·exact hall
  ·exfalso
   have hne:List.dropWhile (fun x=>cs.contains x) l.reverse≠[]:=fun e=>hall fun x hx=>dw_nil.1 e x (List.mem_reverse.2 hx)
   obtain⟨y,hy,hp⟩:=dw_head hne
   have h2:=h y (List.mem_reverse.2 hy)
   rw[hp] at h2;cases h2
 ·intro h x hx
  exact h x (List.mem_reverse.1 (dw_sub (List.mem_reverse.1 hx)))
def abc:ByteArray:=⟨#[97,98,99,100,101,102,103,104,105,106,107,108,109,110,111,112,113,114,115,116,117,118,119,120,121,122]⟩
theorem abc_in (x:UInt8):abc.data.toList.contains x=(decide (97≤x.toNat)&&decide (x.toNat≤122)):=by
 have hall:∀n:Fin 256,abc.data.toList.contains (UInt8.ofNat n.1)=(decide (97≤(UInt8.ofNat n.1).toNat)&&decide ((UInt8.ofNat n.1).toNat≤122)):=by decide+kernel
 have:=hall ⟨x.toNat,x.toNat_lt⟩
 simpa using this
theorem x70 {w w':World} (h:Go.RowKit.Below w.heap.size w w'):Ext w w':=⟨h.os,h.tape,h.output,h.size,fun b hb _=>h.block b hb⟩
def yu0 (s:ByteArray):Bool:=s.data.all fun c=>decide (97≤c.toNat)&&decide (c.toNat≤122)
theorem jk0 {s:ByteArray} (hs:s.size≤9223372036854775807) (hK:∀w' r,Ext w w'→(r=⟨#[]⟩↔yu0 s=true)→K (.string r) w'):vcall PP QN #[.string s,.string abc] w K:=by
 refine⟨by kernel_rfl,?_⟩
 refine(Any.strings_Trim_laid YtaekfnbnhjgboaaGreatDoor.trimL (by kernel_rfl) s abc w hs (by decide) (ascii_of_all (by decide))).mono ?_
 rintro e w' ⟨rfl,hb⟩
 refine hK w' _ (x70 hb) ?_
 have e1:((⟨(Lib.trimS s.data.toList abc.data.toList).toArray⟩:ByteArray)=⟨#[]⟩)↔Lib.trimS s.data.toList abc.data.toList=[]:=by
  constructor
  ·intro h
   have h2:=congrArg (fun b:ByteArray=>b.data.toList) h
   simpa using h2
  ·intro h;rw[h]
 rw[e1,jP0]
 unfold yu0
 rw[Array.all_eq_true_iff_forall_mem]
 constructor
 ·intro h x hx
  rw[←abc_in];exact h x (Array.mem_toList_iff.2 hx)
 ·intro h x hx
  rw[abc_in];exact h x (Array.mem_toList_iff.1 hx)
theorem stDecl {b:Nat} {x y:Value} {t:TypeId} {s:ByteArray} {n:Int} (h:Blk w b [x,y] t) (hK:∀w',Same (· =b) w w'→w'.heap.size=w.heap.size→Blk w' b [.string s,.int .i64 n] t→K undef w'):zr PP zz (.pointer (some ⟨b,0,none⟩)) (.agg ⟨[.string s,.int .i64 n]⟩) w K:=
 h.stAgg rfl (by kernel_rfl) (by intro v hv;simp only[List.mem_cons,List.not_mem_nil,or_false] at hv;rcases hv with rfl|rfl<;>rfl) hK
theorem Xk (s:ByteArray):M.nameOk s=(decide (1≤s.size)&&decide (s.size≤4)&&decide (s≠M.tru)&&yu0 s):=rfl
theorem DeclOk_spec {v:Value} {ds:List M.Dcl} (hd:DclsR F w v ds) (hK:∀w',Ext w w'→K (.bool (M.declOk ds)) w'):vcall PP YO #[v] w K:=by
 apply yg0;unfold V4
 simp(disch:=(simp only[push_cast];done)) only[push_cast,hd.len]
 refine zg (fun a=>?_) (fun a=>?_)
 ·have:=hK w (Same.refl _ _)
  rwa[show M.declOk ds=false from by rw[Bool.eq_false_iff];intro h;have:=(M.decl_iff.1 h).1;omega] at this
 refine vloop_up ds.length (fun i u w'=>u=[.int .i64 (M.bitT ds i),.int .i64 i]∧Ext w w'∧(∀j,j<i→M.dclOk ds j=true)∧ -4*(i:Int)≤M.bitT ds i∧M.bitT ds i≤4*i) ⟨rfl,Same.refl _ _,by omega,by simp[M.bitT],by simp[M.bitT]⟩ ?_
 rintro i _ _ w1 C hi ⟨rfl,he1,hall,hb1,hb2⟩ hC
 have hd1:=hd.ext he1
 simp only[push_cast]
 refine zg (fun b=>?_) (fun b=>?_)
 ·have hil:i<ds.length:=by omega
  have hno:M.dclOk ds i=false→∀w',Ext w w'→K (.bool false) w':=fun e w' he=>by
   have:=hK w' he
   rwa[show M.declOk ds=false from by rw[Bool.eq_false_iff];intro h;have:=(M.decl_iff.1 h).2.1 i hil;rw[e] at this;cases this] at this
  unfold M.dclOk at hno
  rw[Xk] at hno
  simp(disch:=first|(simp only[push_cast];done)|omega) only[push_cast,hd1.iaddr,hd1.load]
  obtain⟨s,n,hsn⟩:∃s n,ds.getD i We=(s,n):=⟨_,_,rfl⟩
  simp only[hsn] at hno⊢
  refine zD xU fun b1 w2 hb1' he2 hs2 h2=>?_
  refine stDecl h2 fun w3 hw3 _ h3=>?_
  have hz1:=he1.size
  have he3:Ext w w3:=Ext.then (he1.trans he2) hw3 fun y hy=>by subst hy;omega
  refine zW (fun u w'=>u=[]∧Ext w3 w'∧M.nameOk s=true) (fun C' hC'=>?_) ?_
  ·simp(disch:=first|(simp only[push_cast];done)|omega) only[push_cast,h3.ld0,zl0 Yb]
   refine zg (fun c=>?_) (fun c=>?_)
   ·exact hno (by rw[decide_eq_false (show¬1≤s.size by omega)];simp) _ he3
   refine zg (fun c2=>?_) (fun c2=>?_)
   ·exact hno (by rw[decide_eq_false (show¬s.size≤4 by omega)];simp) _ he3
   refine zg (fun c3=>?_) (fun c3=>?_)
   ·exact hno (by rw[show decide (s≠M.tru)=false from decide_eq_false (fun h=>h c3)];simp) _ he3
   refine jk0 (by omega) fun w4 r he4 hr=>?_
   simp only[push_cast]
   refine zg (fun c4=>?_) (fun c4=>?_)
   ·have:yu0 s=false:=by
     rw[Bool.eq_false_iff];exact fun h=>c4 (hr.2 h)
    exact hno (by rw[this];simp) _ (he3.trans he4)
   ·have c4':r=⟨#[]⟩:=by
     by_cases h:r=⟨#[]⟩
     ·exact h
     ·exact absurd h c4
    refine hC' _ _ ⟨rfl,he4,?_⟩
    rw[Xk,decide_eq_true (show 1≤s.size by omega),decide_eq_true (show s.size≤4 by omega),show decide (s≠M.tru)=true from decide_eq_true c3,hr.1 c4']
    rfl
  ·rintro u g w4 ⟨rfl,he4,hnm⟩
   have h4:=h3.ext he4
   have hE4:=he3.trans he4
   have hd4:=hd.ext hE4
   rw[Xk] at hnm
   rw[hnm] at hno
   rw[hd4.cut (by intro e;subst e;simp at hil) (by kernel_rfl) (by omega)]
   simp only[push_cast]
   have hlt:(ds.take i).length=i:=by rw[List.length_take];omega
   refine VE (p:=fun j=>decide (((ds.take i).getD j We).1=s)) (hd4.taken (by omega)) (fun j hj=>?_) fun w5 he5=>?_
   ·intro w' K he hK
    simp only[push_cast]
    apply Ud;unfold Q3
    refine zx fun b3 w6 hb3 he6 hs6 h6=>?_
    have h7:=(h4.ext he).ext he6
    simp(disch:=first|(simp only[push_cast];done)|omega) only[push_cast,h6.ld0,h7.ld0]
    exact hK _ he6
   ·rw[←Jv]
    have h5:=h4.ext he5
    have efd:idxI (ds.take i).length (fun j=>decide (((ds.take i).getD j We).1=s))=M.findD (ds.take i) s:=rfl
    rw[efd]
    refine zg (fun c=>?_) (fun c=>?_)
    ·exact hno (by rw[decide_eq_false (show¬M.findD (ds.take i) s<0 by omega)];simp) _ (hE4.trans he5)
    simp(disch:=first|(simp only[push_cast];done)|omega) only[push_cast,h5.ld1]
    refine zg (fun c1=>?_) (fun c1=>?_)
    ·exact hno (by rw[decide_eq_false (show¬1≤n by omega)];simp) _ (hE4.trans he5)
    refine zg (fun c2=>?_) (fun c2=>?_)
    ·exact hno (by rw[decide_eq_false (show¬n≤4 by omega)];simp) _ (hE4.trans he5)
    have hsuc:=M.bitT_succ hil
    rw[show ds.getD i (M.nada,0)=(s,n) from hsn] at hsuc
    rw[zA (x:=M.bitT ds i+n) (by omega) (by omega),inc64' (by omega),show M.bitT ds i+n=M.bitT ds (i+1) from hsuc.symm]
    refine hC (by omega) _ _ ⟨rfl,hE4.trans he5,fun j hj=>?_,by omega,by omega⟩
    by_cases e:j=i
    ·subst e
     unfold M.dclOk
     rw[show ds.getD j (M.nada,0)=(s,n) from hsn,Xk,hnm]
     simp only[Bool.true_and,Bool.and_eq_true,decide_eq_true_eq]
     exact⟨⟨by omega,by omega⟩,by omega⟩
    ·exact hall j (by omega)
 ·have hi':i=ds.length:=by omega
  subst hi'
  have:=hK w1 he1
  rw[M.bitT_all]
  have e:M.declOk ds=decide (M.bits ds≤8):=by
   rw[Bool.eq_iff_iff,M.decl_iff,decide_eq_true_eq]
   exact⟨fun h=>h.2.2,fun h=>⟨by omega,hall,h⟩⟩
  rwa[e] at this
theorem TermSort_spec {dv v:Value} {ds:List M.Dcl} {t:M.Tm} (hd:DclsR F w dv ds) (ht:TermR G w v t) (hK:∀w',Ext w w'→K (.int .i64 (M.tsort ds t)) w'):vcall PP Z5 #[dv,v] w K:=by
 apply Ua;unfold Q0
 obtain⟨cs,rfl,hcs⟩:=ht.cells
 refine zx fun b1 w1 hb1 he1 hs1 h1=>?_
 rw[h1.ldAgg (t:=z7) (by rw[xG hcs];exact zJ)]
 refine TermMany_spec (hcs.ext he1).term fun w2 he2=>?_
 simp only[push_cast]
 have hE2:=he1.trans he2
 refine DeclOk_spec (hd.ext hE2) fun w3 he3=>?_
 have hE3:=hE2.trans he3
 have hk:=hK w3 hE3
 unfold M.tsort at hk
 simp only[push_cast]
 refine yG (fun a=>?_) (fun a=>?_)
 ·rwa[if_neg (fun h=>by rw[h.2] at a;cases a)] at hk
 ·rw[Bool.not_eq_false'] at a
  refine zg (fun b=>?_) (fun b=>?_)
  ·rw[if_neg (fun h=>by
    have h1:=M.fits_iff.1 h.1
    unfold M.manyM at b
    rw[if_pos h.1] at b;omega)] at hk
   exact hk
  ·have hf:M.fits t=true:=by
    by_cases h:M.fits t=true
    ·exact h
    ·unfold M.manyM at b
     rw[if_neg h] at b;omega
   refine zt fun w4 he4 _=>?_
   have h4:=((h1.ext he2).ext he3).ext he4
   rw[h4.ldAgg (t:=z7) (by rw[xG hcs];exact zJ)]
   refine⟨rfl,q10 fun w5 mb he5 hm=>?_⟩
   have h5:=h4.ext he5
   rw[h5.ldAgg (t:=z7) (by rw[xG hcs];exact zJ)]
   have hE5:=(hE3.trans he4).trans he5
   refine⟨⟨rfl,rfl⟩,sortOf_spec t hm (hd.ext hE5) a (hcs.ext hE5).term fun w6 he6=>?_⟩
   have:=hK w6 (hE5.trans he6)
   unfold M.tsort at this
   rwa[if_pos ⟨hf,a⟩] at this
end Go.Proofs.YtaekfnbnhjgboaaGreatDoor
end
section
namespace Go.Proofs.YtaekfnbnhjgboaaGreatDoor
open Go Go.Vc Go.Proofs
variable {w:World} {K:Value→World→Prop} {F G:Nat→Prop}
theorem l2Name_spec {s:ByteArray} (hs:s.size≤9223372036854775807) (hK:K (.bool (M.nameOk s)) w):vcall PP YG #[.string s] w K:=by
 apply zZ0;unfold KI
 rw[Xk] at hK
 refine vloop_up s.size (fun i u w'=>u=[.int .i64 i]∧w'=w∧∀j,j<i→(decide (97≤(s.data.getD j 0).toNat)&&decide ((s.data.getD j 0).toNat≤122))=true) ⟨rfl,rfl,by omega⟩ ?_
 rintro i _ _ w1 C hi ⟨rfl,rfl,hall⟩ hC
 simp(disch:=first|(simp only[push_cast];done)|omega) only[push_cast,zl0 Yb]
 have hno:i<s.size→(decide (97≤(s.data.getD i 0).toNat)&&decide ((s.data.getD i 0).toNat≤122))=false→yu0 s=false:=fun hlt h=>by
  rw[Bool.eq_false_iff]
  intro hl
  unfold yu0 at hl
  rw[Array.all_eq_true_iff_forall_mem] at hl
  have hd:i<s.data.size:=hlt
  have:=hl (s.data.getD i 0) (by rw[Array.getD_eq_getD_getElem?,Array.getElem?_eq_getElem hd];exact Array.getElem_mem hd)
  rw[h] at this;cases this
 refine zg (fun a=>?_) (fun a=>?_)
 ·have hlt:i<s.size:=by omega
  rw[vindex_str Yb (by omega) (by omega),Int.toNat_natCast]
  simp only[push_cast]
  refine zg (fun b=>?_) (fun b=>?_)
  ·rw[hno hlt (by rw[decide_eq_false (show¬97≤(s.data.getD i 0).toNat by omega)];rfl),Bool.and_false] at hK
   exact hK
  rw[vindex_str Yb (by omega) (by omega),Int.toNat_natCast]
  simp only[push_cast]
  refine zg (fun c=>?_) (fun c=>?_)
  ·rw[hno hlt (by rw[decide_eq_false (show¬(s.data.getD i 0).toNat≤122 by omega)];simp),Bool.and_false] at hK
   exact hK
  rw[inc64' (by omega)]
  refine hC hlt _ _ ⟨rfl,rfl,fun j hj=>?_⟩
  by_cases e:j=i
  ·subst e
   simp only[Bool.and_eq_true,decide_eq_true_eq];omega
  ·exact hall j (by omega)
 ·have hi':i=s.size:=by omega
  have hl:yu0 s=true:=by
   unfold yu0
   rw[Array.all_eq_true_iff_forall_mem]
   intro x hx
   obtain⟨j,hj,rfl⟩:=Array.getElem_of_mem hx
   have:=hall j (by have:s.data.size=s.size:=rfl;omega)
   rwa[Array.getD_eq_getD_getElem?,Array.getElem?_eq_getElem hj] at this
  rw[hl,Bool.and_true] at hK
  try simp(disch:=first|(simp only[push_cast];done)|omega) only[push_cast,zl0 Yb]
  refine zg (fun b=>?_) (fun b=>?_)
  ·refine zg (fun c=>?_) (fun c=>?_)
   ·rw[decide_eq_true (show 1≤s.size by omega),decide_eq_true (show s.size≤4 by omega)] at hK
    exact hK
   ·rw[decide_eq_false (show¬s.size≤4 by omega)] at hK
    simpa using hK
  ·rw[decide_eq_false (show¬1≤s.size by omega)] at hK
   simpa using hK
theorem l2Find_spec {v:Value} {ds:List M.Dcl} {s:ByteArray} (hd:DclsR F w v ds) (hK:K (.int .i64 (M.findD ds s)) w):vcall PP jm #[v,.string s] w K:=by
 apply y00;unfold KJ
 have hsm:=hd.small
 refine vloop_up ds.length (fun i u w'=>u=[.int .i64 i]∧w'=w∧∀j,j<i→(ds.getD j We).1≠s) ⟨rfl,rfl,by omega⟩ ?_
 rintro i _ _ w1 C hi ⟨rfl,rfl,hall⟩ hC
 simp(disch:=(simp only[push_cast];done)) only[push_cast,hd.len]
 refine zg (fun a=>?_) (fun a=>?_)
 ·try simp(disch:=first|(simp only[push_cast];done)|omega) only[push_cast,hd.iaddr]
  try simp(disch:=first|(simp only[push_cast];done)|omega) only[push_cast,hd.load0]
  refine zg (fun b=>?_) (fun b=>?_)
  ·rw[M.findD_of (by omega) b hall] at hK
   exact hK
  ·rw[inc64' (by omega)]
   refine hC (by omega) _ _ ⟨rfl,rfl,fun j hj=>?_⟩
   by_cases e:j=i
   ·subst e;exact b
   ·exact hall j (by omega)
 ·rw[M.findD_none (fun j hj=>hall j (by omega))] at hK
  exact hK
theorem spec_DeclOk_spec {v:Value} {ds:List M.Dcl} (hd:DclsR F w v ds) (hsz:∀i,i<ds.length→(ds.getD i We).1.size≤9223372036854775807) (hK:∀w',Ext w w'→K (.bool (M.declOk ds)) w'):vcall PP kR #[v] w K:=by
 apply y50;unfold KO
 simp(disch:=(simp only[push_cast];done)) only[push_cast,hd.len]
 refine zg (fun a=>?_) (fun a=>?_)
 ·have:=hK w (Same.refl _ _)
  rwa[show M.declOk ds=false from by rw[Bool.eq_false_iff];intro h;have:=(M.decl_iff.1 h).1;omega] at this
 refine vloop_up ds.length (fun i u w'=>u=[.int .i64 (M.bitT ds i),.int .i64 i]∧Ext w w'∧(∀j,j<i→M.dclOk ds j=true)∧ -4*(i:Int)≤M.bitT ds i∧M.bitT ds i≤4*i) ⟨rfl,Same.refl _ _,by omega,by simp[M.bitT],by simp[M.bitT]⟩ ?_
 rintro i _ _ w1 C hi ⟨rfl,he1,hall,hb1,hb2⟩ hC
 have hd1:=hd.ext he1
 simp(disch:=(simp only[push_cast];done)) only[push_cast,hd1.len]
 refine zg (fun b=>?_) (fun b=>?_)
 ·have hil:i<ds.length:=by omega
  have hno:M.dclOk ds i=false→∀w',Ext w w'→K (.bool false) w':=fun e w' he=>by
   have:=hK w' he
   rwa[show M.declOk ds=false from by rw[Bool.eq_false_iff];intro h;have:=(M.decl_iff.1 h).2.1 i hil;rw[e] at this;cases this] at this
  unfold M.dclOk at hno
  refine zt fun w2 he2 _=>?_
  have hd2:=hd1.ext he2
  have hE2:=he1.trans he2
  simp(disch:=first|(simp only[push_cast];done)|omega) only[push_cast,hd2.iaddr,true_and]
  simp(disch:=first|(simp only[push_cast];done)|omega) only[push_cast,hd2.load0,hd2.load1,true_and]
  have hsi:=hsz i hil
  have hsuc:=M.bitT_succ hil
  obtain⟨s,n,hsn⟩:∃s n,ds.getD i We=(s,n):=⟨_,_,rfl⟩
  rw[show ds.getD i (M.nada,0)=(s,n) from hsn] at hsuc
  simp only[hsn] at hno hsi⊢
  refine l2Name_spec hsi ?_
  simp only[push_cast,true_and]
  refine yG (fun c=>?_) (fun c=>?_)
  ·exact hno (by rw[show M.nameOk s=false by simpa using c];simp) _ hE2
  rw[Bool.not_eq_false'] at c
  rw[c] at hno
  have ecut:∀(w:World) (K:Value→World→Prop),yq PP zu v none (some (.int .i64 (i:Int))) none w K=K (cutV v i) w:=fun w K=>hd2.cut (by intro e;subst e;simp at hil) (by kernel_rfl) (by omega)
  have el0:∀(K:Value→World→Prop),ze PP zG (.pointer (some ((eaddr v 2 i).add 0))) w2 K=K (.string s) w2:=fun K=>by rw[hd2.load0 jZ0 hil,hsn]
  have el1:∀(K:Value→World→Prop),ze PP zc (.pointer (some ((eaddr v 2 i).add 1))) w2 K=K (.int .i64 n) w2:=fun K=>by rw[hd2.load1 q00 hil,hsn]
  try simp(disch:=first|(simp only[push_cast];done)|omega) only[push_cast,hd2.iaddr,true_and]
  try simp(disch:=first|(simp only[push_cast];done)|omega) only[push_cast,hd2.iaddr,el0,el1,ecut,true_and]
  refine zg (fun c1=>?_) (fun c1=>?_)
  ·exact hno (by rw[decide_eq_false (show¬1≤n by omega)];simp) _ hE2
  refine zg (fun c2=>?_) (fun c2=>?_)
  ·exact hno (by rw[decide_eq_false (show¬n≤4 by omega)];simp) _ hE2
  refine l2Find_spec (hd2.taken (by omega)) ?_
  simp only[push_cast,true_and]
  refine zg (fun c3=>?_) (fun c3=>?_)
  ·exact hno (by rw[decide_eq_false (show¬M.findD (ds.take i) s<0 by omega)];simp) _ hE2
  try simp(disch:=first|(simp only[push_cast];done)|omega) only[push_cast,hd2.iaddr]
  try simp(disch:=first|(simp only[push_cast];done)|omega) only[push_cast,el1]
  rw[zA (x:=M.bitT ds i+n) (by omega) (by omega),inc64' (by omega),show M.bitT ds i+n=M.bitT ds (i+1) from hsuc.symm]
  refine hC (by omega) _ _ ⟨rfl,hE2,fun j hj=>?_,by omega,by omega⟩
  by_cases e:j=i
  ·subst e
   unfold M.dclOk
   rw[show ds.getD j (M.nada,0)=(s,n) from hsn,c]
   simp only[Bool.true_and,Bool.and_eq_true,decide_eq_true_eq]
   exact⟨⟨by omega,by omega⟩,by omega⟩
  ·exact hall j (by omega)
 ·have hi':i=ds.length:=by omega
  subst hi'
  have:=hK w1 he1
  rw[M.bitT_all]
  have e:M.declOk ds=decide (M.bits ds≤8):=by
   rw[Bool.eq_iff_iff,M.decl_iff,decide_eq_true_eq]
   exact⟨fun h=>h.2.2,fun h=>⟨by omega,hall,h⟩⟩
  rwa[e] at this
theorem spec_TermMany_spec:∀(t:M.Tm) {w:World} {K:Value→World→Prop} {F:Nat→Prop} {v:Value},TermR F w v t→(∀w',Ext w w'→K (.tuple #[.int .i64 (M.manyM t),.int .i64 (M.lvlM t)]) w')→vcall PP jo #[v] w K:=by
 refine M.Tm.ind fun t ih w K F v ht hK=>?_
 apply U5;unfold XW
 obtain⟨ksv,rfl,hks⟩:=ht
 refine zx fun b1 w1 hb1 he1 hs1 h1=>?_
 have hsm:=hks.small
 have hS:=M.szT_all t
 have hD:=M.dpT_all t
 have hfit:M.fits t=true↔M.sizeM t≤20∧M.deepM t≤7:=M.fits_iff
 refine vloop_up t.ks.length (fun i u w'=> ∃n d:Nat,u=[.int .i64 n,.int .i64 d,.int .i64 i]∧Ext w1 w'∧n≤41∧d≤8∧(1+M.szT t.ks i≤20∧M.dpT t.ks i≤7→n=1+M.szT t.ks i∧d=M.dpT t.ks i)∧(¬(1+M.szT t.ks i≤20∧M.dpT t.ks i≤7)→20<n∨7<d))
  ⟨1,0,rfl,Same.refl _ _,by omega,by omega,fun h=>⟨rfl,rfl⟩,fun h=>by
   have e1:M.szT t.ks 0=0:=rfl
   have e2:M.dpT t.ks 0=0:=rfl
   omega⟩ ?_
 rintro i _ _ w2 C hi ⟨n,d,rfl,he2,c1,c2,c3,c4⟩ hC
 have h2:=h1.ext he2
 have hE:=he1.trans he2
 have hks2:=hks.ext hE
 have hm1:=M.szT_mono (ks:=t.ks) (i:=i) (j:=t.ks.length) (by omega) (Nat.le_refl _)
 have hm2:=M.dpT_mono (ks:=t.ks) (i:=i) (j:=t.ks.length) (by omega) (Nat.le_refl _)
 have e1:IntKind.i64.wrap ((d:Int)+1)=((d+1:Nat):Int):=inc64' (by omega)
 have hfin:(20<n∨i=t.ks.length)→∀K',(K'=K)→vif (.bool (decide ((20:Int)<n))) (K' (.tuple #[.int .i64 21,.int .i64 8]) w2) (vif (.bool (decide ((7:Int)<((d+1:Nat):Int)))) (K' (.tuple #[.int .i64 21,.int .i64 8]) w2) (K' (.tuple #[.int .i64 (n:Int),.int .i64 ((d+1:Nat):Int)]) w2)):=by
  rintro hor K' rfl
  have hk:=hK w2 hE
  unfold M.manyM M.lvlM at hk
  have hbad:(20<n∨7<d+1)→¬(M.fits t=true):=fun h hf=>by
   have hx:=hfit.1 hf
   have:=c3 (by omega)
   omega
  refine zg (fun a=>?_) (fun a=>?_)
  ·rw[if_neg (hbad (by omega)),if_neg (hbad (by omega))] at hk
   exact hk
  refine zg (fun b=>?_) (fun b=>?_)
  ·rw[if_neg (hbad (by omega)),if_neg (hbad (by omega))] at hk
   exact hk
  ·have hi':i=t.ks.length:=by omega
   subst hi'
   have hg:M.sizeM t≤20∧M.deepM t≤7:=by
    by_cases h:1+M.szT t.ks t.ks.length≤20∧M.dpT t.ks t.ks.length≤7
    ·have:=c3 h;omega
    ·have:=c4 h;omega
   have h3:=c3 (by omega)
   rw[if_pos (hfit.2 hg),if_pos (hfit.2 hg)] at hk
   rw[show n=M.sizeM t by omega,show d+1=M.deepM t by omega]
   exact hk
 refine zW (fun u w'=>u=[]∧w'=w2∧i<t.ks.length∧n≤20) (fun C' hC'=>?_) ?_
 ·simp(disch:=(simp only[push_cast];done)) only[push_cast,h2.ld4,hks2.len,e1]
  refine zg (fun a=>?_) (fun a=>?_)
  ·refine zg (fun b=>?_) (fun b=>?_)
   ·exact hC' _ _ ⟨rfl,rfl,by omega,by omega⟩
   ·exact hfin (.inl (by omega)) K rfl
  ·exact hfin (.inr (by omega)) K rfl
 ·rintro u g w3 ⟨rfl,rfl,hlt,hn⟩
  have hm3:=M.szT_succ (ks:=t.ks) (i:=i) (by omega)
  have hm4:=M.dpT_succ (ks:=t.ks) (i:=i) (by omega)
  have hm5:=M.szT_mono (ks:=t.ks) (i:=i+1) (j:=t.ks.length) (by omega) (Nat.le_refl _)
  simp(disch:=first|(simp only[push_cast];done)|omega) only[push_cast,h2.ld4,hks2.iaddr]
  refine hks2.load zJ (by omega) fun x hx=>?_
  refine ih _ (M.getD_mem (by omega) _) hx fun w4 he4=>?_
  have hfk:=M.fits_iff (t:=t.ks.getD i default)
  have hn2:M.manyM (t.ks.getD i default)≤21:=by
   unfold M.manyM
   split
   ·have:=hfk.1 (by assumption);omega
   ·omega
  have hd2:M.lvlM (t.ks.getD i default)≤8:=by
   unfold M.lvlM
   split
   ·have:=hfk.1 (by assumption);omega
   ·omega
  have hgood:M.sizeM (t.ks.getD i default)≤20∧M.deepM (t.ks.getD i default)≤7→M.manyM (t.ks.getD i default)=M.sizeM (t.ks.getD i default)∧M.lvlM (t.ks.getD i default)=M.deepM (t.ks.getD i default):=fun h=>by
   unfold M.manyM M.lvlM
   rw[if_pos (hfk.2 h),if_pos (hfk.2 h)]
   exact⟨rfl,rfl⟩
  have hbad: ¬(M.sizeM (t.ks.getD i default)≤20∧M.deepM (t.ks.getD i default)≤7)→M.manyM (t.ks.getD i default)=21∧M.lvlM (t.ks.getD i default)=8:=fun h=>by
   unfold M.manyM M.lvlM
   rw[if_neg (fun x=>h (hfk.1 x)),if_neg (fun x=>h (hfk.1 x))]
   exact⟨rfl,rfl⟩
  generalize M.manyM (t.ks.getD i default)=nk at hn2 hgood hbad⊢
  generalize M.lvlM (t.ks.getD i default)=dk at hd2 hgood hbad⊢
  simp only[push_cast]
  refine l1Max_spec ?_
  try simp only[push_cast]
  rw[inc64' (by omega),zA (x:=(n:Int)+nk) (by omega) (by omega),show(n:Int)+(nk:Int)=((n+nk:Nat):Int) by omega,show max (d:Int) (dk:Int)=((max d dk:Nat):Int) by omega]
  refine hC (by omega) _ _ ⟨n+nk,max d dk,rfl,he2.trans he4,by omega,by omega,fun h=>?_,fun h=>?_⟩
  ·have:=c3 (by omega)
   have:=hgood (by omega)
   omega
  ·by_cases hg:M.sizeM (t.ks.getD i default)≤20∧M.deepM (t.ks.getD i default)≤7
   ·have h5:=hgood hg
    by_cases hg2:1+M.szT t.ks i≤20∧M.dpT t.ks i≤7
    ·have:=c3 hg2;omega
    ·have:=c4 hg2;omega
   ·have:=hbad hg;omega
end Go.Proofs.YtaekfnbnhjgboaaGreatDoor
end
section
namespace Go.Proofs.YtaekfnbnhjgboaaGreatDoor
open Go Go.Vc Go.Proofs
variable {w:World} {K:Value→World→Prop} {F G:Nat→Prop}
theorem l2Arity_spec {o:Int} (hK:K (.int .i64 (M.arity o)) w):vcall PP ZY #[.int .i64 o] w K:=by
 apply UJ;unfold QZ
 have hK':∀c,M.arity o=c→K (.int .i64 c) w:=fun c e=>e▸hK
 refine zW (fun u w'=>u=[.bool (decide (o=20∨o=21∨o=24))]∧w'=w) (fun C hC=>?_) ?_
 ·simp only[push_cast]
  refine zg (fun a=>?_) (fun a=>?_)
  ·exact hC _ _ ⟨by rw[decide_eq_true a,decide_eq_true (.inl a)],rfl⟩
  refine zg (fun b=>?_) (fun b=>?_)
  ·exact hC _ _ ⟨by rw[decide_eq_true b,decide_eq_true (.inr (.inl b))],rfl⟩
  ·refine hC _ _ ⟨?_,rfl⟩
   by_cases c:o=24
   ·rw[decide_eq_true c,decide_eq_true (.inr (.inr c))]
   ·rw[decide_eq_false c,decide_eq_false (by omega)]
 ·rintro u g w1 ⟨rfl,rfl⟩
  simp only[push_cast]
  repeat' first
   |exact hK' _ (by
    unfold M.arity;repeat' split
    all_goals omega)
   |refine zg (fun _=>?_) (fun _=>?_)
theorem yw0 {v:Value} {t:M.Tm} (ht:TermR F w v t) (hK:∀w',Ext w w'→K (.bool (M.formed t)) w'):vcall PP ZX #[v] w K:=by
 apply UG;unfold QW
 obtain⟨ksv,rfl,hks⟩:=ht
 refine zx fun b1 w1 hb1 he1 hs1 h1=>?_
 have hk:=hK _ he1
 have hno:M.plainM t=false→K (.bool false) w1:=fun h=>by
  unfold M.formed at hk
  rwa[h,Bool.and_false] at hk
 unfold M.plainM at hno
 refine zW (fun u w'=>u=[]∧w'=w1∧(decide (t.op=21)||decide (t.s=M.nada))=true) (fun C hC=>?_) ?_
 ·simp(disch:=(simp only[push_cast];done)) only[push_cast,h1.ld0,h1.ld3]
  refine zg (fun a=>?_) (fun a=>?_)
  ·refine zg (fun b=>?_) (fun b=>?_)
   ·exact hno (by rw[decide_eq_false a,show decide (t.s=M.nada)=false from decide_eq_false b];simp)
   ·exact hC _ _ ⟨rfl,rfl,by rw[show decide (t.s=M.nada)=true from decide_eq_true (Classical.not_not.1 b)];simp⟩
  ·exact hC _ _ ⟨rfl,rfl,by rw[decide_eq_true (Classical.not_not.1 a)];simp⟩
 rintro u g w2 ⟨rfl,rfl,hn⟩
 rw[hn,Bool.and_true] at hno
 refine zW (fun u w'=>u=[]∧w'=w2∧(decide (t.op=20)||decide (t.op=22)||(decide (t.a=0)&&decide (t.b=0)))=true) (fun C hC=>?_) ?_
 ·simp(disch:=(simp only[push_cast];done)) only[push_cast,h1.ld0,h1.ld1,h1.ld2]
  refine zg (fun a=>?_) (fun a=>?_)
  ·refine zg (fun b=>?_) (fun b=>?_)
   ·refine zg (fun c=>?_) (fun c=>?_)
    ·exact hno (by rw[decide_eq_false a,decide_eq_false b,decide_eq_false c];simp)
    refine zg (fun d=>?_) (fun d=>?_)
    ·exact hno (by rw[decide_eq_false a,decide_eq_false b,decide_eq_false d];simp)
    ·exact hC _ _ ⟨rfl,rfl,by rw[decide_eq_true (Classical.not_not.1 c),decide_eq_true (Classical.not_not.1 d)];simp⟩
   ·exact hC _ _ ⟨rfl,rfl,by rw[decide_eq_true (Classical.not_not.1 b)];simp⟩
  ·exact hC _ _ ⟨rfl,rfl,by rw[decide_eq_true (Classical.not_not.1 a)];simp⟩
 rintro u g w3 ⟨rfl,rfl,hm⟩
 refine zt fun w4 he4 _=>?_
 have h4:=h1.ext he4
 have hks4:=hks.ext (he1.trans he4)
 simp(disch:=(simp only[push_cast];done)) only[push_cast,h4.ld0,h4.ld4,hks4.len,true_and]
 refine l2Arity_spec ?_
 simp(disch:=(simp only[push_cast];done)) only[push_cast,h4.ld4,hks4.len,true_and,and_self]
 have:=hK _ (he1.trans he4)
 have e:M.formed t=decide ((t.ks.length:Int)=M.arity t.op):=by
  unfold M.formed M.plainM
  rw[hm,hn]
  simp only[Bool.and_true]
  by_cases h:M.arity t.op=t.ks.length
  ·rw[decide_eq_true h,decide_eq_true h.symm]
  ·rw[decide_eq_false h,decide_eq_false (fun x=>h x.symm)]
 rwa[e] at this
theorem l2One_spec {v:Value} {t:M.Tm} {a:Int} (ht:TermR F w v t) (hr: -1≤a∧a≤4) (hK:∀w',Ext w w'→K (.int .i64 (M.oneM t a)) w'):vcall PP Xr #[v,.int .i64 a] w K:=by
 apply yT0;unfold W0
 obtain⟨ksv,rfl,hks⟩:=ht
 refine zx fun b1 w1 hb1 he1 hs1 h1=>?_
 have hk:∀c,M.oneM t a=c→K (.int .i64 c) w1:=fun c e=>e▸hK _ he1
 unfold M.oneM at hk
 refine zW (fun u w'=>u=[.bool (decide (t.op=25∧a=0))]∧w'=w1) (fun C hC=>?_) ?_
 ·simp(disch:=(simp only[push_cast];done)) only[push_cast,h1.ld0]
  refine zg (fun b=>?_) (fun b=>?_)
  ·refine hC _ _ ⟨?_,rfl⟩
   simp only[b,true_and]
  ·exact hC _ _ ⟨by rw[decide_eq_false (fun h=>b h.1)],rfl⟩
 rintro u g w2 ⟨rfl,rfl⟩
 simp only[push_cast]
 refine zg (fun b=>?_) (fun b=>?_)
 ·exact hk _ (by rw[if_pos b.1,if_pos b.2])
 refine zW (fun u w'=>u=[.bool (decide (t.op=25∨a<1))]∧w'=w2) (fun C hC=>?_) ?_
 ·simp(disch:=(simp only[push_cast];done)) only[push_cast,h1.ld0]
  refine zg (fun c=>?_) (fun c=>?_)
  ·exact hC _ _ ⟨by rw[decide_eq_true (.inl c)],rfl⟩
  ·refine hC _ _ ⟨?_,rfl⟩
   simp only[c,false_or]
 rintro u g w3 ⟨rfl,rfl⟩
 simp only[push_cast]
 refine zg (fun c=>?_) (fun c=>?_)
 ·exact hk _ (by
   repeat' split
   all_goals omega)
 simp(disch:=(simp only[push_cast];done)) only[push_cast,h1.ld0]
 refine zg (fun d=>?_) (fun d=>?_)
 ·refine zW (fun u w'=>u=[.bool (decide (0≤t.b∧t.b≤t.a∧t.a<a))]∧w'=w3) (fun C hC=>?_) ?_
  ·simp(disch:=(simp only[push_cast];done)) only[push_cast,h1.ld1,h1.ld2]
   refine zg (fun e=>?_) (fun e=>?_)
   ·refine zg (fun f=>?_) (fun f=>?_)
    ·refine hC _ _ ⟨?_,rfl⟩
     simp only[e,f,true_and]
    ·exact hC _ _ ⟨by rw[decide_eq_false (fun h=>f h.2.1)],rfl⟩
   ·exact hC _ _ ⟨by rw[decide_eq_false (fun h=>e h.1)],rfl⟩
  rintro u g w4 ⟨rfl,rfl⟩
  simp only[push_cast]
  refine zg (fun e=>?_) (fun e=>?_)
  ·simp(disch:=(simp only[push_cast];done)) only[push_cast,h1.ld1,h1.ld2]
   rw[zA (x:=t.a-t.b) (by omega) (by omega),zA (by omega) (by omega)]
   exact hk _ (by rw[if_neg (by omega),if_neg (by omega),if_pos d,if_pos e])
  ·exact hk _ (by rw[if_neg (by omega),if_neg (by omega),if_pos d,if_neg e])
 ·exact hk _ (by rw[if_neg (by omega),if_neg (by omega),if_neg d])
theorem l2Both_spec {o a b:Int} (hr: -1≤a∧a≤4) (hr': -1≤b∧b≤4) (hK:K (.int .i64 (M.bothM o a b)) w):vcall PP YI #[.int .i64 o,.int .i64 a,.int .i64 b] w K:=by
 apply y20;unfold KL
 have hk:∀c,M.bothM o a b=c→K (.int .i64 c) w:=fun c e=>e▸hK
 unfold M.bothM at hk
 refine zW (fun u w'=>u=[.bool (decide (o=26∨o=27))]∧w'=w) (fun C hC=>?_) ?_
 ·simp only[push_cast]
  refine zg (fun c=>?_) (fun c=>?_)
  ·exact hC _ _ ⟨by rw[decide_eq_true (.inl c)],rfl⟩
  ·refine hC _ _ ⟨?_,rfl⟩
   simp only[c,false_or]
 rintro u g w2 ⟨rfl,rfl⟩
 simp only[push_cast]
 refine zg (fun c=>?_) (fun c=>?_)
 ·repeat' first
   |exact hk _ (by
    repeat' split
    all_goals omega)
   |refine zg (fun _=>?_) (fun _=>?_)
 refine zW (fun u w'=>u=[.bool (decide (a<1∨b<1))]∧w'=w2) (fun C hC=>?_) ?_
 ·try simp only[push_cast]
  refine zg (fun d=>?_) (fun d=>?_)
  ·exact hC _ _ ⟨by rw[decide_eq_true (.inl d)],rfl⟩
  ·refine hC _ _ ⟨?_,rfl⟩
   simp only[d,false_or]
 rintro u g w3 ⟨rfl,rfl⟩
 have e1:IntKind.i64.wrap (a+b)=a+b:=zA (by omega) (by omega)
 simp only[push_cast,e1]
 repeat' first
  |exact hk _ (by
   repeat' split
   all_goals omega)
  |refine zg (fun _=>?_) (fun _=>?_)
theorem l2Sort_spec:∀(t:M.Tm) {w:World} {K:Value→World→Prop} {F G:Nat→Prop} {dv v:Value} {ds:List M.Dcl},DclsR F w dv ds→M.declOk ds=true→TermR G w v t→(∀w',Ext w w'→K (.int .i64 (M.sortM ds t)) w')→vcall PP qK #[dv,v] w K:=by
 refine M.Tm.ind fun t ih w K F G dv v ds hd hok ht hK=>?_
 apply zX0;unfold KG
 obtain⟨ksv,rfl,hks⟩:=ht
 refine zx fun b1 w1 hb1 he1 hs1 h1=>?_
 have hk:∀c w',M.sortM ds t=c→Ext w w'→K (.int .i64 c) w':=fun c w' e he=>e▸hK _ he
 rw[h1.ldAgg (t:=z7) zJ]
 refine yw0 (F:=G) (t:=t) ⟨ksv,rfl,hks.ext he1⟩ fun w2 he2=>?_
 have hE:=he1.trans he2
 have h2:=h1.ext he2
 simp only[push_cast]
 refine yG (fun a=>?_) (fun a=>?_)
 ·exact hk _ _ (M.sort_bad (by rw[Bool.not_eq_true];simpa using a)) hE
 have hf:M.formed t=true:=by simpa using a
 have har:=(M.formed_iff.1 hf).1
 have hd2:=hd.ext hE
 simp(disch:=(simp only[push_cast];done)) only[push_cast,h2.ld0]
 refine zg (fun c20=>?_) (fun c20=>?_)
 ·have hl:t.ks.length=0:=by rw[c20] at har;simp[M.arity] at har;omega
  have hs:=M.sort_leaf (ds:=ds) hf hl
  simp(disch:=(simp only[push_cast];done)) only[push_cast,h2.ld1,h2.ld2]
  refine spec_VecOk_spec fun w3 he3=>?_
  have h3:=h2.ext he3
  refine yG (fun b=>?_) (fun b=>?_)
  ·simp(disch:=(simp only[push_cast];done)) only[push_cast,h3.ld1]
   exact hk _ _ (by rw[hs];unfold M.sortK;rw[if_pos c20,if_pos b]) (hE.trans he3)
  ·exact hk _ _ (by rw[hs];unfold M.sortK;rw[if_pos c20,b];rfl) (hE.trans he3)
 refine zg (fun c21=>?_) (fun c21=>?_)
 ·have hl:t.ks.length=0:=by rw[c21] at har;simp[M.arity] at har;omega
  have hs:=M.sort_leaf (ds:=ds) hf hl
  have hfd:=M.findD_lt ds t.s
  simp(disch:=(simp only[push_cast];done)) only[push_cast,h2.ld3]
  refine l2Find_spec hd2 ?_
  try simp only[push_cast]
  refine zg (fun b=>?_) (fun b=>?_)
  ·exact hk _ _ (by rw[hs];unfold M.sortK;rw[if_neg c20,if_pos c21,if_pos b]) hE
  ·try simp(disch:=first|(simp only[push_cast];done)|omega) only[push_cast,hd2.iaddr]
   try simp(disch:=first|(simp only[push_cast];done)|omega) only[push_cast,hd2.load1]
   exact hk _ _ (by rw[hs];unfold M.sortK;rw[if_neg c20,if_pos c21,if_neg b]) hE
 refine zg (fun c24=>?_) (fun c24=>?_)
 ·have hl:t.ks.length=0:=by rw[c24] at har;simp[M.arity] at har;omega
  have hs:=M.sort_leaf (ds:=ds) hf hl
  exact hk _ _ (by rw[hs];unfold M.sortK;rw[if_neg c20,if_neg c21,if_pos (by omega)];rfl) hE
 have hlen:t.ks.length=1∨t.ks.length=2∨t.ks.length=3:=by
  have h0:M.arity t.op≠0:=fun h=>by have:=M.arity_zero h;omega
  have h4:M.arity t.op≤3:=by
   unfold M.arity
   repeat' split
   all_goals omega
  omega
 have hks2:=hks.ext hE
 simp(disch:=first|(simp only[push_cast];done)|omega) only[push_cast,h2.ld4,hks2.iaddr]
 refine hks2.load zJ (by omega) fun x0 hx0=>?_
 refine ih (M.kid t 0) (M.kid_mem (by omega)) hd2 hok hx0 fun w3 he3=>?_
 have h3:=h2.ext he3
 have hE3:=hE.trans he3
 have hks3:=hks.ext hE3
 have hr0:=M.sort_range hok (M.kid t 0)
 simp(disch:=first|(simp only[push_cast];done)|omega) only[push_cast,h3.ld4,hks3.len]
 refine zg (fun l1=>?_) (fun l1=>?_)
 ·rw[h3.ldAgg (t:=z7) zJ]
  refine l2One_spec (F:=G) (t:=t) ⟨ksv,rfl,hks3⟩ hr0 fun w4 he4=>?_
  exact hk _ _ (M.sort_one hok hf (by omega)) (hE3.trans he4)
 simp(disch:=first|(simp only[push_cast];done)|omega) only[push_cast,h3.ld4,hks3.iaddr]
 refine hks3.load zJ (by omega) fun x1 hx1=>?_
 refine ih (M.kid t 1) (M.kid_mem (by omega)) (hd.ext hE3) hok hx1 fun w4 he4=>?_
 have h4:=h3.ext he4
 have hE4:=hE3.trans he4
 have hks4:=hks.ext hE4
 have hr1:=M.sort_range hok (M.kid t 1)
 simp(disch:=first|(simp only[push_cast];done)|omega) only[push_cast,h4.ld4,h4.ld0,hks4.len]
 refine zg (fun l2=>?_) (fun l2=>?_)
 ·refine l2Both_spec hr0 hr1 ?_
  exact hk _ _ (M.sort_two hok hf (by omega)) hE4
 have hs3:=M.sort_three (ds:=ds) hf (by omega)
 refine zg (fun z=>?_) (fun z=>?_)
 ·exact hk _ _ (by rw[hs3,if_pos (.inl z)]) hE4
 simp(disch:=first|(simp only[push_cast];done)|omega) only[push_cast,h4.ld4,hks4.iaddr]
 refine hks4.load zJ (by omega) fun x2 hx2=>?_
 refine ih (M.kid t 2) (M.kid_mem (by omega)) (hd.ext hE4) hok hx2 fun w5 he5=>?_
 simp only[push_cast]
 refine zg (fun z2=>?_) (fun z2=>?_)
 ·exact hk _ _ (by rw[hs3,if_pos (.inr z2)]) (hE4.trans he5)
 ·exact hk _ _ (by rw[hs3,if_neg (fun h=>h.elim z z2)]) (hE4.trans he5)
def kr0 (ds:List M.Dcl):Prop:=∀i,i<ds.length→(ds.getD i We).1.size≤9223372036854775807
theorem spec_TermSort_spec {dv v:Value} {ds:List M.Dcl} {t:M.Tm} (hsz:kr0 ds) (hd:DclsR F w dv ds) (ht:TermR G w v t) (hK:∀w',Ext w w'→K (.int .i64 (M.tsort ds t)) w'):vcall PP jn #[dv,v] w K:=by
 apply U4;unfold XV
 obtain⟨cs,rfl,hcs⟩:=ht.cells
 refine zx fun b1 w1 hb1 he1 hs1 h1=>?_
 rw[h1.ldAgg (t:=z7) (by rw[xG hcs];exact zJ)]
 refine spec_TermMany_spec t (hcs.ext he1).term fun w2 he2=>?_
 simp only[push_cast]
 have hE2:=he1.trans he2
 refine spec_DeclOk_spec (hd.ext hE2) hsz fun w3 he3=>?_
 have hE3:=hE2.trans he3
 have hk:=hK w3 hE3
 unfold M.tsort at hk
 simp only[push_cast]
 refine yG (fun a=>?_) (fun a=>?_)
 ·rwa[if_neg (fun h=>by rw[h.2] at a;cases a)] at hk
 rw[Bool.not_eq_false'] at a
 refine zg (fun b=>?_) (fun b=>?_)
 ·rw[if_neg (fun h=>by
   have h1:=M.fits_iff.1 h.1
   unfold M.manyM at b
   rw[if_pos h.1] at b;omega)] at hk
  exact hk
 have hf:M.fits t=true:=by
  by_cases h:M.fits t=true
  ·exact h
  ·unfold M.manyM at b
   rw[if_neg h] at b;omega
 refine zg (fun c=>?_) (fun c=>?_)
 ·unfold M.lvlM at c
  rw[if_pos hf] at c
  have:=M.fits_iff.1 hf
  omega
 have h3:=(h1.ext he2).ext he3
 rw[h3.ldAgg (t:=z7) (by rw[xG hcs];exact zJ)]
 refine l2Sort_spec t (hd.ext hE3) a (hcs.ext hE3).term fun w4 he4=>?_
 have:=hK w4 (hE3.trans he4)
 unfold M.tsort at this
 rwa[if_pos ⟨hf,a⟩] at this
end Go.Proofs.YtaekfnbnhjgboaaGreatDoor
end
section
namespace Go.Proofs.YtaekfnbnhjgboaaGreatDoor
open Go Go.Vc Go.Proofs
variable {w:World} {K:Value→World→Prop} {F Fr F':Nat→Prop}
def Bytes (F:Nat→Prop) (w:World) (v:Value) (xs:List Nat):Prop:=Vals F w v (xs.map fun x=>Value.int .u8 (x:Nat))∧∀x,x∈xs→x<256
theorem Bytes.same {S:Nat→Prop} {w':World} {v:Value} {xs:List Nat} (h:Bytes F w v xs) (hw:Same S w w') (hs:∀b,F b→b<w.heap.size→¬S b):Bytes F w' v xs:=⟨h.1.same hw hs,h.2⟩
theorem Bytes.ext {w':World} {v:Value} {xs:List Nat} (h:Bytes F w v xs) (hw:Ext w w'):Bytes F w' v xs:=⟨h.1.ext hw,h.2⟩
theorem Bytes.load {v:Value} {xs:List Nat} (h:Bytes F w v xs) {e:TypeId} (he:oneB PP e=true) {i:Nat} (hi:i<xs.length):ze PP e (.pointer (some (eaddr v 1 i))) w K=K (.int .u8 (xs.getD i 0:Nat)) w:=by
 rw[Vals.load h.1 he (by simpa using hi)]
 simp[List.getD_eq_getElem?_getD,hi]
theorem Bytes.len {w':World} {v:Value} {xs:List Nat} (h:Bytes F w v xs) {t:TypeId} (ht:isSl PP t=true) (ty:TypeId):vbi PP .len [t] ty [v] w' K=K (.int .i64 xs.length) w':=by
 have:=Vals.len (K:=K) (w':=w') h.1 ht ty;rwa[List.length_map] at this
theorem Bytes.iaddr {w':World} {v:Value} {xs:List Nat} (h:Bytes F w v xs) {t:TypeId} (ht:elB PP t 1=true) {kd:IntKind} {i:Int} (h0:0≤i) (h1:i<xs.length):
  zl PP t v (.int kd i) w' K=K (.pointer (some (eaddr v 1 i.toNat))) w':=Vals.iaddr h.1 ht h0 (by simpa using h1)
structure RdR (F:Nat→Prop) (w:World) (b:Nat) (v:Value) (xs:List Nat) (p:Nat):Prop where
 blk:Blk w b [v,.int .i64 p] y2
 bytes:Bytes F w v xs
 apart: ¬F b
 few:xs.length≤2000
theorem RdR.same {S:Nat→Prop} {w':World} {b p:Nat} {v:Value} {xs:List Nat} (h:RdR F w b v xs p) (hw:Same S w w') (hb: ¬S b) (hs:∀b,F b→b<w.heap.size→¬S b):RdR F w' b v xs p:=
 ⟨h.blk.same hw hb,h.bytes.same hw hs,h.apart,h.few⟩
theorem RdR.ext {w':World} {b p:Nat} {v:Value} {xs:List Nat} (h:RdR F w b v xs p) (hw:Ext w w'):RdR F w' b v xs p:=h.same hw id fun _ _ _ h=>h
theorem l12Open_spec {v:Value} {xs:List Nat} (hx:Bytes F w v xs) (hF:∀b,F b→b<w.heap.size)
  (hK:∀w' b v' ys,Ext w w'→RdR F w' b v' ys 0→w.heap.size≤b→K (.pointer (some ⟨b,0,none⟩)) w'):vcall PP ZZ #[v] w K:=by
 apply UK;unfold J0
 simp(disch:=(simp only[push_cast];done)) only[push_cast,hx.len]
 have fin:∀(v':Value) (ys:List Nat),Bytes F w v' ys→ys.length≤2000→zE PP y2 [(0,v')] w fun t9 w_4=>yD PP y2 t9 w_4 fun t10 w_5=>K t10 w_5:=fun v' ys hy hl=>by
  refine xS0 x80 (us:=[[v']]) (by simp[hy.1.cells1]) rfl ?_
  refine Zt fun b w1 hb he1 hz1 hB=>?_
  exact hK w1 b v' ys he1 ⟨hB,hy.ext he1,fun h=>by have:=hF b h;omega,hl⟩ (by omega)
 refine zg (fun a=>?_) (fun a=>fin v xs hx (by omega))
 have hcut:yq PP zZ v none (some (.int .i64 (2000:Nat))) none w fun t7 w_3=>zE PP y2 [(0,t7)] w_3 fun t9 w_4=>yD PP y2 t9 w_4 fun t10 w_5=>K t10 w_5:=by
  obtain⟨a0,c0,rfl,hc,hcm,hcell⟩:=hx.1.shape
  rw[Sl.cut hx.1 (fun a l c e=>?_) kk0 (by simp;omega)]
  ·refine fin _ (xs.take 2000) ⟨⟨⟨a0,c0,?_,?_,hcm,fun hne=>?_⟩,fun y hy=>?_⟩,fun y hy=>hx.2 y (List.mem_of_mem_take hy)⟩ (by simp;omega)
   ·simp only[cutV,List.length_map,List.length_take]
    rw[Nat.min_eq_left (by omega)]
   ·simp at hc⊢;omega
   ·obtain⟨b,o,h1,h2,h3,h4⟩:=hcell (fun e=>by simp at e;subst e;simp at a)
    refine⟨b,o,h1,h2,h3,fun i hi=>?_⟩
    simp only[List.length_map,List.length_take] at hi
    have:=h4 i (by simp;omega)
    have e:(((xs.take 2000).map fun x=>Value.int .u8 (x:Nat)).map fun x=>[x]).getD i []=((xs.map fun x=>Value.int .u8 (x:Nat)).map fun x=>[x]).getD i []:=by
     simp only[List.getD_eq_getElem?_getD,List.getElem?_map,List.getElem?_take]
     rw[if_pos (by omega)]
    rw[e];exact this
   ·obtain⟨u,_,rfl⟩:=List.mem_map.1 hy;rfl
  ·injection e with e1 e2 e3
   obtain⟨b,o,h1,_⟩:=hcell (fun e=>by simp at e;subst e;simp at a)
   exact⟨b,o,by rw[h1] at e1;exact(Option.some.inj e1).symm⟩
 exact hcut
theorem pick_spec {b p:Nat} {v:Value} {xs:List Nat} {n:Int} (h:RdR F w b v xs p) (hn:n≤1099511627776) (hp:p<1099511627776)
  (hK:∀w' (k:Nat),Same (· =b) w w'→w'.heap.size=w.heap.size→RdR F w' b v xs (p+1)→(1≤n→(k:Int)<n)→(n<1→k=0)→K (.int .i64 k) w'):vcall PP zI #[.pointer (some ⟨b,0,none⟩),.int .i64 n] w K:=by
 apply Vk;unfold Yh
 have hfew:=h.few
 simp(disch:=(simp only[push_cast];done)) only[push_cast,h.blk.ld1]
 have hinc:IntKind.i64.wrap ((p:Int)+1)=((p+1:Nat):Int):=by rw[zA (by omega) (by omega)];omega
 rw[hinc]
 refine h.blk.st rfl rfl kO rfl fun w1 hs1 hz1 hB1=>?_
 have B1:Blk w1 b [v,.int .i64 (p+1:Nat)] y2:=hB1
 have hR:RdR F w1 b v xs (p+1):=⟨B1,h.bytes.same hs1 fun x hx _ e=>h.apart (e▸hx),h.apart,h.few⟩
 have hx:=hR.bytes
 refine zW (fun _ w'=>w'=w1∧1≤n∧xs.length≠0) ?_ ?_
 ·intro J hJ
  refine zg (fun a=>?_) (fun a=>?_)
  ·exact hK w1 0 hs1 hz1 hR (fun h=>by omega) fun _=>rfl
  ·simp(disch:=(simp only[push_cast];done)) only[push_cast,B1.ld0,hx.len]
   refine zg (fun a2=>?_) (fun a2=>?_)
   ·exact hK w1 0 hs1 hz1 hR (fun h=>by omega) fun _=>rfl
   ·exact hJ _ _ ⟨rfl,by omega,by omega⟩
 rintro _ _ _ ⟨rfl,h1,hne⟩
 simp(disch:=(simp only[push_cast];done)) only[B1.ld0,B1.ld1,xt0,XL,WV,x7,Nat.zero_add,JS,hx.len]
 rw[show((p+1:Nat):Int)-1=(p:Int) from by omega,zA (by omega) (by omega)]
 simp only[jN0]
 have hget:∀i,i<xs.length→xs.getD i 0<256:=fun i hi=>hx.2 _ (by rw[List.getD_eq_getElem?_getD,List.getElem?_eq_getElem hi];exact List.getElem_mem hi)
 have hmod:∀x:Nat,((x:Int).tmod n)=((x%n.toNat:Nat):Int)∧((x%n.toNat:Nat):Int)<n:=fun x=>by
  obtain⟨m,rfl⟩:∃m:Nat,n=m:=⟨n.toNat,by omega⟩
  rw[Int.toNat_natCast]
  exact⟨rfl,by have:=Nat.mod_lt x (show 0<m by omega);omega⟩
 refine zg (fun a=>?_) (fun a=>?_)
 ·simp(disch:=first|(simp only[push_cast];done)|omega) only[B1.ld0,hx.iaddr,Int.toNat_natCast,hx.load,jj xz0 zf0]
  have hb:=hget p (by omega)
  rw[zA (by omega) (by omega),Q6 (by omega)]
  obtain⟨m1,m2⟩:=hmod (xs.getD p 0)
  rw[m1]
  exact hK _ _ hs1 hz1 hR (fun _=>m2) fun h=>by omega
 ·refine zt fun w2 he2 hheap=>?_
  have B2:=B1.ext he2
  have hx2:=hx.ext he2
  have hl0:(xs.length:Int)≠0:=by omega
  have e1:((p:Int).tmod xs.length)=((p%xs.length:Nat):Int):=by rw[Int.tmod_eq_emod_of_nonneg (by omega)];rfl
  have l1:p%xs.length<xs.length:=Nat.mod_lt _ (by omega)
  have e2:IntKind.i64.wrap ((p:Int)*7)=((p*7:Nat):Int):=by rw[zA (by omega) (by omega)];omega
  have e3:IntKind.i64.wrap (((p*7:Nat):Int)+3)=((p*7+3:Nat):Int):=by rw[zA (by omega) (by omega)];omega
  have e4:(((p*7+3:Nat):Int).tmod xs.length)=(((p*7+3)%xs.length:Nat):Int):=by rw[Int.tmod_eq_emod_of_nonneg (by omega)];rfl
  have l2:(p*7+3)%xs.length<xs.length:=Nat.mod_lt _ (by omega)
  have b1:=hget _ l1
  have b2:=hget _ l2
  generalize hx1:xs.getD (p%xs.length) 0=x1 at b1
  generalize hx2':xs.getD ((p*7+3)%xs.length) 0=x2 at b2
  have e5:IntKind.i64.wrap ((x1:Nat):Int)=((x1:Nat):Int):=zA (by omega) (by omega)
  have e6:IntKind.i64.wrap ((x2:Nat):Int)=((x2:Nat):Int):=zA (by omega) (by omega)
  have e7:IntKind.i64.wrap (((x1:Nat):Int)*131)=((x1*131:Nat):Int):=by rw[zA (by omega) (by omega)];omega
  have e8:IntKind.i64.wrap (((x2:Nat):Int)*1117)=((x2*1117:Nat):Int):=by rw[zA (by omega) (by omega)];omega
  have e9:IntKind.i64.wrap (((x1*131:Nat):Int)+((x2*1117:Nat):Int))=((x1*131+x2*1117:Nat):Int):=by rw[zA (by omega) (by omega)];omega
  have e10:IntKind.i64.wrap ((p:Int)*29)=((p*29:Nat):Int):=by rw[zA (by omega) (by omega)];omega
  have e11:IntKind.i64.wrap (((x1*131+x2*1117:Nat):Int)+((p*29:Nat):Int))=((x1*131+x2*1117+p*29:Nat):Int):=by rw[zA (by omega) (by omega)];omega
  obtain⟨Q,hQ⟩:∃Q,Q=p/xs.length:=⟨_,rfl⟩
  have hq:Q≤p:=by rw[hQ];exact Nat.div_le_self _ _
  have e12:IntKind.i64.wrap ((p:Int).tdiv xs.length)=((Q:Nat):Int):=by
   have:(p:Int).tdiv xs.length=(Q:Int):=by rw[hQ];rfl
   rw[this];exact zA (by omega) (by omega)
  have e13:IntKind.i64.wrap (((Q:Nat):Int)*53)=((Q*53:Nat):Int):=by rw[zA (by omega) (by omega)];omega
  have e14:IntKind.i64.wrap (((x1*131+x2*1117+p*29:Nat):Int)+((Q*53:Nat):Int))=((x1*131+x2*1117+p*29+Q*53:Nat):Int):=by rw[zA (by omega) (by omega)];omega
  simp(disch:=first|(simp only[push_cast];done)|omega) only[B2.ld0,xt0,XL,x7,Nat.zero_add,true_and,hx2.len,Q6 hl0,Wn hl0,xx0,xy0,e1,e2,e3,e4,e12,hx2.iaddr,Int.toNat_natCast,hx2.load,hx1,hx2',jj xz0 zf0,e5,e6,e7,e8,e9,e10,e11,e13,e14]
  have hX:x1*131+x2*1117+p*29+Q*53<9223372036854775808:=by omega
  generalize x1*131+x2*1117+p*29+Q*53=X at hX⊢
  have e15:IntKind.i64.wrap ((X:Int).tdiv 64)=((X/64:Nat):Int):=by
   have:(X:Int).tdiv 64=((X/64:Nat):Int):=rfl
   rw[this];exact zA (by omega) (by omega)
  rw[Wn (by omega),e15,xT0 hX (by omega),Q6 (by omega)]
  obtain⟨m1,m2⟩:=hmod (X^^^X/64)
  rw[m1]
  exact hK _ _ (hs1.trans (Same.of_ext he2)) (by rw[hheap];exact hz1) (hR.ext he2) (fun _=>m2) fun h=>by omega
theorem num_spec {b p:Nat} {v vs:Value} {xs:List Nat} {ns:List Int} (h:RdR F w b v xs p) (hv:Ints F' w vs ns) (hne:ns≠[]) (hsm:ns.length≤1000) (hp:p<1099511627776) (hF':∀x,F' x→x≠b)
  (hK:∀w' m,Same (· =b) w w'→w'.heap.size=w.heap.size→RdR F w' b v xs (p+1)→m∈ns→K (.int .i64 m) w'):vcall PP yp #[.pointer (some ⟨b,0,none⟩),vs] w K:=by
 apply Wf;unfold YZ
 have hpos:=List.length_pos_iff.2 hne
 simp(disch:=(simp only[push_cast];done)) only[push_cast,hv.len]
 refine pick_spec h (by omega) hp fun w1 k hs hz hR h1 _=>?_
 have hk:=h1 (by omega)
 have hv1:=hv.same hs fun x hx _ e=>hF' x hx e
 simp(disch:=first|(simp only[push_cast];done)|omega) only[push_cast,hv1.iaddr,hv1.load]
 exact hK w1 _ hs hz hR (M.getD_mem (by omega) _)
end Go.Proofs.YtaekfnbnhjgboaaGreatDoor
end
section
namespace Go.Proofs.YtaekfnbnhjgboaaGreatDoor
open Go Go.Vc Go.Proofs
variable {w:World} {K:Value→World→Prop} {F F' D:Nat→Prop}
@[push_cast] theorem bd_Decl (s:ByteArray) (n:Int):zE PP zz [(0,.string s),(1,.int .i64 n)] w K=K (.agg ⟨[.string s,.int .i64 n]⟩) w:=yf xs0 (us:=[[.string s],[.int .i64 n]]) rfl rfl
abbrev OwnD (w:World) (v:Value) (ds:List M.Dcl):Prop:=Own PP 0 2 zu w v (ds.map fun d=>[.string d.1,.int .i64 d.2])
def Dok (ds:List M.Dcl):Prop:=ds.length≤4∧∀i,i<ds.length→1≤(ds.getD i We).2∧(ds.getD i We).2≤4∧(ds.getD i We).1.size≤1
theorem OwnD.dcls {v:Value} {ds:List M.Dcl} (h:OwnD w v ds):DclsR (fun b=>v.ownBlock=some b) w v ds:=Own.sl h
def ZR0:List ByteArray:=[⟨#[120]⟩,⟨#[121]⟩,⟨#[122]⟩,⟨#[119]⟩]
set_option maxRecDepth 20000 in
theorem gd_ok {ds:List M.Dcl} (h:Dok ds) (hn:ds.map (·.1)=ZR0.take ds.length) (hb:M.bits ds≤8):M.declOk ds=true:=by
 have hl:=h.1
 have nm:∀i,i<ds.length→(ds.getD i (M.nada,0)).1=ZR0.getD i M.nada:=fun i hi=>by
  rw[←M.getD_map (·.1) hi M.nada (M.nada,0),hn,M.take_getD hi]
 refine M.decl_iff.2 ⟨hl,fun i hi=>?_,hb⟩
 have hw:=h.2 i hi
 have hap:∀j,j<i→(ds.getD j (M.nada,0)).1≠(ds.getD i (M.nada,0)).1:=fun j hj=>by
  rw[nm j (by omega),nm i hi]
  have:∀a b:Fin 4,b.1<a.1→ZR0.getD b.1 M.nada≠ZR0.getD a.1 M.nada:=by decide
  exact this ⟨i,by omega⟩ ⟨j,by omega⟩ hj
 have hf:M.findD (ds.take i) (ds.getD i (M.nada,0)).1= -1:=M.findD_none fun j hj=>by
  rw[List.length_take] at hj
  rw[M.take_getD (by omega)]
  exact hap j (by omega)
 have hk:M.nameOk (ds.getD i (M.nada,0)).1=true:=by
  rw[nm i hi]
  have:∀a:Fin 4,M.nameOk (ZR0.getD a.1 M.nada)=true:=by decide+kernel
  exact this ⟨i,by omega⟩
 unfold M.dclOk
 rw[hk,hf]
 have h1:1≤(ds.getD i (M.nada,0)).2∧(ds.getD i (M.nada,0)).2≤4:=⟨hw.1,hw.2.1⟩
 rw[decide_eq_true h1.1,decide_eq_true h1.2];rfl
set_option maxRecDepth 20000 in
theorem l2Decls_spec2 {b p:Nat} {v:Value} {xs:List Nat} (h:RdR F w b v xs p) (hF:∀x,F x→x<w.heap.size) (hp:p+100<1099511627776)
  (hK:∀w' p' dv ds,Same (· =b) w w'→RdR F w' b v xs p'→p'≤p+100→DclsR (fun x=>w.heap.size≤x) w' dv ds→Dok ds→M.declOk ds=true→K dv w'):vcall PP jW #[.pointer (some ⟨b,0,none⟩)] w K:=by
 apply UI;unfold QY
 have lb:=h.blk.lt
 refine vbuildS_row1 (xs:=ZR0.map .string) Ya (by kernel_rfl) Y9 (fun x hx=>by obtain⟨s,_,rfl⟩:=List.mem_map.1 hx;rfl) (by decide) fun b1 w1 hb1 he1 hs1 hbl=>?_
 have hnm:Vals (· =b1) w1 (.slice (some ⟨b1,0,none⟩) (ZR0.map Value.string).length (ZR0.map Value.string).length) (ZR0.map Value.string):=hbl.sl1 rfl (by decide)
 refine vbuildS_row (xs:=[]) (us:=[]) (k:=2) jZ Z0 xU rfl (by simp) (by decide) fun b2 w2 hb2 he2 hs2 h2=>?_
 have ho:OwnD w2 (.slice (some ⟨b2,0,none⟩) 0 0) []:=Blk.ownk (css:=[]) h2 (by simp) rfl (by decide)
 have hR2:=(h.ext he1).ext he2
 refine vloop_up 4 (fun i u w'=> ∃sv ds p',∃bits:Int,u=[sv,.int .i64 bits,.int .i64 i]∧Same (· =b) w w'∧RdR F w' b v xs p'∧p'≤p+2*i∧OwnD w' sv ds∧(∀x,sv.ownBlock=some x→w1.heap.size≤x)∧ds.length=i∧Dok ds∧0≤bits∧bits≤4*i∧Vals (· =b1) w' (.slice (some ⟨b1,0,none⟩) (ZR0.map Value.string).length (ZR0.map Value.string).length) (ZR0.map Value.string)∧ds.map (·.1)=ZR0.take i∧bits=M.bits ds∧bits≤8)
  ⟨_,[],p,0,rfl,Same.of_ext (he1.trans he2),hR2,by omega,ho,fun x hx=>by have e:x=b2:=(Option.some.inj hx).symm;omega,rfl,⟨by simp,fun i hi=>by simp at hi⟩,by omega,by omega,hnm.ext he2,rfl,rfl,by omega⟩ ?_
 rintro i _ _ w3 C hi ⟨sv,ds,p',bits,rfl,hs3,hR3,hp3,ho3,hn3,hl3,hd3,hb0,hb4,hv3,hnm3,hbt3,hb8⟩ hC
 have hz3:=hs3.size
 have hz1:=he1.size
 have hret:∀w4 p4,Same (· =b) w3 w4→RdR F w4 b v xs p4→p4≤p+2*i+2→K sv w4:=fun w4 p4 hs hR hp4=>by
  refine hK w4 p4 sv ds (hs3.trans hs) hR (by omega) ?_ hd3 (gd_ok hd3 (by rw[hl3];exact hnm3) (by omega))
  exact((ho3.same hs fun x hx e=>by have:=hn3 x hx;omega).sl).weaken fun x hx _=>by have:=hn3 x hx;omega
 refine zW (fun u w4=>u=[]∧Same (· =b) w3 w4∧RdR F w4 b v xs (p'+1)∧i<4) (fun C' hC'=>?_) ?_
 ·refine pick_spec hR3 (by omega) (by omega) fun w4 k hs4 hz4 hR4 hk _=>?_
  have:=hk (by omega)
  simp only[push_cast]
  rw[zA (x:=1+(k:Int)) (by omega) (by omega)]
  refine zg (fun a=>?_) (fun a=>?_)
  ·refine zg (fun c=>?_) (fun c=>?_)
   ·exact hC' _ _ ⟨rfl,hs4,hR4,by omega⟩
   ·exact hret _ _ hs4 hR4 (by omega)
  ·exact hret _ _ hs4 hR4 (by omega)
 ·rintro u g w4 ⟨rfl,hs4,hR4,hi4⟩
  refine pick_spec hR4 (by omega) (by omega) fun w5 k hs5 hz5 hR5 hk _=>?_
  have hk4:=hk (by omega)
  have hs35:=hs4.trans hs5
  simp only[push_cast]
  rw[zA (x:=1+(k:Int)) (by omega) (by omega),zA (x:=8-bits) (by omega) (by omega)]
  refine l1Min_spec ?_
  obtain⟨n,hn⟩:∃n:Int,n=min (1+(k:Int)) (8-bits):=⟨_,rfl⟩
  rw[←hn]
  simp only[push_cast]
  refine zg (fun a=>?_) (fun a=>?_)
  ·exact hret _ _ hs35 hR5 (by omega)
  ·have hv5:=hv3.same hs35 fun x hx _ e=>by have:=h.blk.lt;have:=he1.size;omega
   have hlen:(ZR0.map Value.string).length=4:=rfl
   have e1:(ZR0.map Value.string).getD i undef= .string (ZR0.getD i ⟨#[]⟩):=M.getD_map _ (show i<ZR0.length from hi4) _ _
   rw[hv5.iaddr (by kernel_rfl) (by omega) (by rw[hlen];omega),Int.toNat_natCast,hv5.load (by kernel_rfl) (by rw[hlen];omega),e1]
   have hsz:(ZR0.getD i ⟨#[]⟩).size≤1:=by
    rcases(by omega:i=0∨i=1∨i=2∨i=3) with rfl|rfl|rfl|rfl<;>decide
   generalize hnm':ZR0.getD i ⟨#[]⟩=nm at hsz⊢
   simp only[push_cast]
   refine JR jZ Z0 xU rfl rfl (by decide) fun b3 w6 hb3 he6 hs6 h6=>?_
   have ho6:=(ho3.same hs35 fun x hx e=>by have:=hn3 x hx;omega).ext he6
   refine Own.app1k ho6 XJ (by decide) h6 rfl (by intro v hv;simp only[List.mem_cons,List.not_mem_nil,or_false] at hv;rcases hv with rfl|rfl<;>rfl) (by rw[List.length_map,hl3];omega) (by rw[List.length_map,hl3];omega) fun sv' w7 ho7 hw7 hn7=>?_
   have hz5:=hs35.size
   have hz6:=he6.size
   have hs67:Same (· =b) w w7:=by
    refine⟨hw7.os.trans (he6.os.trans (hs35.os.trans hs3.os)),hw7.tape.trans (he6.tape.trans (hs35.tape.trans hs3.tape)),hw7.output.trans (he6.output.trans (hs35.output.trans hs3.output)),Nat.le_trans (((hs3.trans hs35).trans (Same.of_ext he6)).size) hw7.size,fun x hx hne=>?_⟩
    rw[hw7.block x (by have:=((hs3.trans hs35).trans (Same.of_ext he6)).size;omega) (fun e=>by have:=hn3 x e;omega)]
    exact((hs3.trans hs35).trans (Same.of_ext he6)).block x hx hne
   have hR7:RdR F w7 b v xs (p'+1+1):=(hR5.ext he6).same hw7 (fun e=>by have:=hn3 b e;omega) fun x hx _ e=>by have:=hn3 x e;have:=hF x hx;omega
   have hv7:=(hv5.ext he6).same hw7 (fun x hx _ e=>by have:=hn3 x e;omega)
   rw[inc64' (by omega),zA (x:=bits+n) (by omega) (by omega)]
   refine hC (by omega) _ _ ⟨sv',ds++[(nm,n)],p'+1+1,bits+n,rfl,hs67,hR7,by omega,by rw[OwnD,List.map_append];exact ho7,fun x hx=>?_,by rw[List.length_append];simp[hl3],⟨by rw[List.length_append];simp;omega,fun j hj=>?_⟩,by omega,by omega,hv7,?_,?_,by omega⟩
   ·rcases hn7 x hx with h|h
    ·exact hn3 x h
    ·omega
   ·rw[List.length_append] at hj
    by_cases hj2:j<ds.length
    ·rw[List.getD_eq_getElem?_getD,List.getElem?_append_left hj2,←List.getD_eq_getElem?_getD]
     exact hd3.2 j hj2
    ·have:j=ds.length:=by simp at hj;omega
     subst this
     rw[List.getD_eq_getElem?_getD,List.getElem?_append_right (by omega)]
     simp only[Nat.sub_self,List.getElem?_cons_zero,Option.getD_some]
     exact⟨by omega,by omega,hsz⟩
   ·rw[List.map_append,hnm3,M.take_add (show i<ZR0.length from hi4) ⟨#[]⟩,hnm'];rfl
   ·rw[hbt3];unfold M.bits;rw[List.map_append,List.sum_append];simp
theorem yx0 {b p:Nat} {v:Value} {xs:List Nat} (h:RdR F w b v xs p) (hF:∀x,F x→x<w.heap.size) (hp:p+100<1099511627776)
  (hK:∀w' p' dv ds,Same (· =b) w w'→RdR F w' b v xs p'→p'≤p+100→DclsR (fun x=>w.heap.size≤x) w' dv ds→Dok ds→K dv w'):vcall PP jW #[.pointer (some ⟨b,0,none⟩)] w K:=
 l2Decls_spec2 h hF hp fun w' p' dv ds h1 h2 h3 h4 h5 _=>hK w' p' dv ds h1 h2 h3 h4 h5
@[push_cast] theorem bd_T3 (o a b:Int):zE PP z7 [(0,.int .i64 o),(1,.int .i64 a),(2,.int .i64 b)] w K=K (.agg ⟨[.int .i64 o,.int .i64 a,.int .i64 b,.string ⟨#[]⟩,.slice none 0 0]⟩) w:=yf Zc (us:=[[.int .i64 o],[.int .i64 a],[.int .i64 b]]) rfl rfl
@[push_cast] theorem bd_T1 (o:Int):zE PP z7 [(0,.int .i64 o)] w K=K (.agg ⟨[.int .i64 o,.int .i64 0,.int .i64 0,.string ⟨#[]⟩,.slice none 0 0]⟩) w:=yf Zc (us:=[[.int .i64 o]]) rfl rfl
@[push_cast] theorem bd_Tn (o:Int) (s:ByteArray):zE PP z7 [(0,.int .i64 o),(3,.string s)] w K=K (.agg ⟨[.int .i64 o,.int .i64 0,.int .i64 0,.string s,.slice none 0 0]⟩) w:=yf Zc (us:=[[.int .i64 o],[.string s]]) rfl rfl
@[push_cast] theorem bd_Tk (o:Int) (a:Option Addr) (l c:Nat):zE PP z7 [(0,.int .i64 o),(4,.slice a l c)] w K=K (.agg ⟨[.int .i64 o,.int .i64 0,.int .i64 0,.string ⟨#[]⟩,.slice a l c]⟩) w:=yf Zc (us:=[[.int .i64 o],[.slice a l c]]) rfl rfl
@[push_cast] theorem bd_Tc (o x y:Int) (a:Option Addr) (l c:Nat):zE PP z7 [(0,.int .i64 o),(1,.int .i64 x),(2,.int .i64 y),(4,.slice a l c)] w K=K (.agg ⟨[.int .i64 o,.int .i64 x,.int .i64 y,.string ⟨#[]⟩,.slice a l c]⟩) w:=yf Zc (us:=[[.int .i64 o],[.int .i64 x],[.int .i64 y],[.slice a l c]]) rfl rfl
theorem zv0 {b:Nat} {cs cs':List Value} {t:TypeId} {G:Nat→Prop} {t':M.Tm} (h:Blk w b cs t) (hl:cs.length=5) (hc:TmR G w cs' t') (hG:∀x,G x→x≠b) (hK:∀w',Same (· =b) w w'→w'.heap.size=w.heap.size→TermR G w' (.agg ⟨cs'⟩) t'→K (.agg ⟨cs'⟩) w'):
  zr PP z7 (.pointer (some ⟨b,0,none⟩)) (.agg ⟨cs'⟩) w fun _ w1=>vlv PP z7 (.pointer (some ⟨b,0,none⟩)) w1 fun r w2=>K r w2:=by
 refine stTerm h hl hc fun w' hw' hz' h'=>?_
 rw[h'.lv (by rw[xG hc];exact zJ)]
 exact hK w' hw' hz' (hc.same hw' fun x hx _ e=>hG x hx e).term
theorem qU0 {G:Nat→Prop} (o a b:Int) (s:ByteArray):TmR G w [.int .i64 o,.int .i64 a,.int .i64 b,.string s,.slice none 0 0] (.mk o a b s []):=TmR.of (t:= .mk o a b s []) TmsR.nil
abbrev qh0 (K:Value→World→Prop) (F:Nat→Prop) (w:World) (b p c:Nat) (v:Value) (xs:List Nat):Prop:=∀w' p' tv t,Same (· =b) w w'→RdR F w' b v xs p'→p'≤p+c→TermR (fun x=>w.heap.size≤x) w' tv t→t.ks.length≤3→K tv w'
theorem same_new {b b2:Nat} {w w1 w2:World} (h:Same (· =b) w w1) (h2:Same (· =b2) w1 w2) (hb:w.heap.size≤b2):Same (· =b) w w2:=
 ⟨h2.os.trans h.os,h2.tape.trans h.tape,h2.output.trans h.output,Nat.le_trans h.size h2.size,fun x hx hne=>by
  rw[h2.block x (Nat.lt_of_lt_of_le hx h.size) (fun e=>by subst e;omega)];exact h.block x hx hne⟩
theorem RdR.new {b b2 p:Nat} {v:Value} {xs:List Nat} {w1:World} (h:RdR F w b v xs p) (hs:Same (· =b2) w w1) (hb:b≠b2) (hF:∀x,F x→x≠b2):RdR F w1 b v xs p:=h.same hs hb fun x hx _ e=>hF x hx e
theorem l2Leafy_spec {b p:Nat} {v dv:Value} {xs:List Nat} {ds:List M.Dcl} {sort:Int} (h:RdR F w b v xs p) (hF:∀x,F x→x<w.heap.size) (hd:DclsR D w dv ds) (hD:∀x,D x→x≠b) (hok:Dok ds) (hs0:0≤sort) (hs4:sort≤4) (hp:p+100<1099511627776)
  (hK:qh0 K F w b p 100 v xs):vcall PP qg #[.pointer (some ⟨b,0,none⟩),dv,.int .i64 sort] w K:=by
 apply UH;unfold QX
 have lb:=h.blk.lt
 refine zD yw fun b1 w1 hb1 he1 hs1 h1=>?_
 have hR1:=h.ext he1
 have hd1:=hd.ext he1
 have hfin:∀w2 p2 cs t,Same (· =b) w w2→RdR F w2 b v xs p2→p2≤p+100→Blk w2 b1 [.int .i64 0,.int .i64 0,.int .i64 0,.string ⟨#[]⟩,.slice none 0 0] z7→TmR (fun _=>False) w2 cs t→t.ks.length≤3→
   zr PP z7 (.pointer (some ⟨b1,0,none⟩)) (.agg ⟨cs⟩) w2 fun _ w1=>vlv PP z7 (.pointer (some ⟨b1,0,none⟩)) w1 fun r w2=>K r w2:=by
  intro w2 p2 cs t hs hR hp2 hB hc hk3
  refine zv0 hB rfl hc (fun x hx=>hx.elim) fun w3 hs3 hz3 ht=>?_
  exact hK w3 p2 _ t (same_new hs hs3 (by omega)) (hR.new hs3 (by omega) fun x hx e=>by have:=hF x hx;omega) hp2 (ht.weaken fun x hx _=>hx.elim) hk3
 simp only[push_cast]
 refine zg (fun a=>?_) (fun a=>?_)
 ·exact hfin _ _ _ _ (Same.of_ext he1) hR1 (by omega) h1 (qU0 24 0 0 _) (Nat.zero_le _)
 simp(disch:=(simp only[push_cast];done)) only[push_cast,hd1.len]
 have hlen:=hok.1
 refine pick_spec hR1 (by omega) (by omega) fun w2 at_ hs2 hz2 hR2 hk _=>?_
 have h2:=h1.same hs2 (by omega)
 have hvec:∀w3 p3,Same (· =b) w w3→RdR F w3 b v xs p3→p3≤p+50→Blk w3 b1 [.int .i64 0,.int .i64 0,.int .i64 0,.string ⟨#[]⟩,.slice none 0 0] z7→
   vcall PP xM #[.int .i64 sort] w3 fun t52 w_13=>vcall PP zI #[.pointer (some ⟨b,0,none⟩),t52] w_13 fun t53 w_14=>zE PP z7 [(0,(.int .i64 20)),(1,.int .i64 sort),(2,t53)] w_14 fun t54 w_15=>zr PP z7 (.pointer (some ⟨b1,0,none⟩)) t54 w_15 fun _ w_16=>vlv PP z7 (.pointer (some ⟨b1,0,none⟩)) w_16 fun r6_1 w_17=>K r6_1 w_17:=by
  intro w3 p3 hs hR hp3 hB
  refine l1Two_spec (by omega) ?_
  have hpw:2^sort.toNat≤2^4:=Nat.pow_le_pow_right (by omega) (by omega)
  refine pick_spec hR (by omega) (by omega) fun w4 k hs4 hz4 hR4 _ _=>?_
  simp only[push_cast]
  exact hfin _ _ _ _ (hs.trans hs4) hR4 (by omega) (hB.same hs4 (by have:=he1.size;omega)) (qU0 20 sort k _) (Nat.zero_le _)
 refine vloop_up ds.length (fun i u w'=> ∃p',u=[.int .i64 i]∧Same (· =b) w w'∧RdR F w' b v xs p'∧p'≤p+1+i∧Blk w' b1 [.int .i64 0,.int .i64 0,.int .i64 0,.string ⟨#[]⟩,.slice none 0 0] z7∧DclsR D w' dv ds)
  ⟨p+1,rfl,(Same.of_ext he1).trans hs2,hR2,by omega,h2,hd1.same hs2 fun x hx _ e=>hD x hx e⟩ ?_
 rintro i _ _ w3 C hi ⟨p',rfl,hs3,hR3,hp3,hB3,hd3⟩ hC
 refine zW (fun u w'=>u=[]∧i<ds.length∧Same (· =b) w w'∧RdR F w' b v xs (p'+1)∧Blk w' b1 [.int .i64 0,.int .i64 0,.int .i64 0,.string ⟨#[]⟩,.slice none 0 0] z7∧DclsR D w' dv ds) (fun C' hC'=>?_) ?_
 ·simp only[push_cast]
  refine zg (fun c=>?_) (fun c=>?_)
  ·refine pick_spec hR3 (by omega) (by omega) fun w4 k hs4' hz4 hR4 _ _=>?_
   have hB4:=hB3.same hs4' (by omega)
   simp only[push_cast]
   refine zg (fun e=>?_) (fun e=>?_)
   ·exact hC' _ _ ⟨rfl,by omega,hs3.trans hs4',hR4,hB4,hd3.same hs4' fun x hx _ e=>hD x hx e⟩
   ·exact hvec _ _ (hs3.trans hs4') hR4 (by omega) hB4
  ·exact hvec _ _ hs3 hR3 (by omega) hB3
 ·rintro u g w4 ⟨rfl,hil,hs4',hR4,hB4,hd4⟩
  have hat:at_<ds.length:=by have:=hk (by omega);omega
  have e1:IntKind.i64.wrap ((at_:Int)+(i:Int))=((at_+i:Nat):Int):=by rw[zA (by omega) (by omega)];omega
  have eR:∀(w:World) (K:Value→World→Prop),zq PP .rem zc false (.int .i64 ((at_+i:Nat):Int)) (.int .i64 (ds.length:Int)) w K=K (.int .i64 (((at_+i)%ds.length:Nat):Int)) w:=fun w K=>by rw[Q6 (by omega)];rfl
  have hm:(at_+i)%ds.length<ds.length:=Nat.mod_lt _ (by omega)
  obtain⟨q,hq⟩:∃q,q=at_+i:=⟨_,rfl⟩
  rw[←hq] at e1 eR hm
  obtain⟨j,hj⟩:∃j,j=q%ds.length:=⟨_,rfl⟩
  rw[←hj] at eR hm
  simp(disch:=first|(simp only[push_cast];done)|omega) only[push_cast,e1,eR,hd4.iaddr]
  try simp(disch:=first|(simp only[push_cast];done)|omega) only[push_cast,hd4.load0,hd4.load1]
  refine zg (fun c=>?_) (fun c=>?_)
  ·exact hfin _ _ _ _ hs4' hR4 (by omega) hB4 (qU0 21 0 0 _) (Nat.zero_le _)
  ·rw[inc64' (by omega)]
   exact hC (by omega) _ _ ⟨p'+1,rfl,hs4',hR4,by omega,hB4,hd4⟩
end Go.Proofs.YtaekfnbnhjgboaaGreatDoor
end
section
namespace Go.Proofs.YtaekfnbnhjgboaaGreatDoor
open Go Go.Vc Go.Proofs
variable {w:World} {K:Value→World→Prop} {F F' D G:Nat→Prop}
theorem kidsL {css:List (List Value)} {ts:List M.Tm} (hl:css.length=ts.length) (hsm:css.length≤100) (h:∀i,i<ts.length→TmR G w (css.getD i []) (ts.getD i default))
  (hK:∀w' a,Ext w w'→w'.heap.size=w.heap.size+1→TmsR (fun z=>G z∨z=w.heap.size) w' (.slice a css.length css.length) ts→K (.slice a css.length css.length) w'):
  vbuildS PP zn (css.map fun c=>Value.agg ⟨c⟩).length ((css.map fun c=>Value.agg ⟨c⟩).zipIdx.map fun p=>(p.2,p.1)) w K:=by
 have hwd:∀u,u∈css→u.length=5:=fun u hu=>by
  obtain⟨i,hi,rfl⟩:=List.getElem_of_mem hu
  have:=xG (h i (by omega))
  rwa[List.getD_eq_getElem?_getD,List.getElem?_eq_getElem hi] at this
 refine vbuildS_row (us:=css) (k:=5) VG Wu yw (by rw[List.map_map];rfl) hwd (by rw[List.length_map];omega) fun b w' hb he hs hB=>?_
 rw[List.length_map]
 refine hK w' _ he hs ⟨css,?_,hl,fun i hi=>((h i hi).ext he).weaken fun x hx _=> .inl hx⟩
 have ho:Own PP 0 5 zn w' (.slice (some ⟨b,0,none⟩) css.length css.length) css:=Blk.ownk (by rw[K7];exact hB) hwd rfl (by omega)
 exact ho.sl.weaken fun x hx _=> .inr (by have e:x=b:=(Option.some.inj hx).symm;omega)
theorem q20 {v0:Value} {t0:M.Tm} (h0:TermR G w v0 t0) (hK:∀w' a,Ext w w'→w'.heap.size=w.heap.size+1→TmsR (fun z=>G z∨z=w.heap.size) w' (.slice a 1 1) [t0]→K (.slice a 1 1) w'):vbuildS PP zn 1 [(0,v0)] w K:=by
 obtain⟨c0,rfl,q0⟩:=h0.cells
 refine kidsL (css:=[c0]) (ts:=[t0]) rfl (by simp) (fun i hi=>?_) hK
 have:i=0:=by simpa using hi
 subst this;exact q0
theorem kids2 {v0 v1:Value} {t0 t1:M.Tm} (h0:TermR G w v0 t0) (h1:TermR G w v1 t1) (hK:∀w' a,Ext w w'→w'.heap.size=w.heap.size+1→TmsR (fun z=>G z∨z=w.heap.size) w' (.slice a 2 2) [t0,t1]→K (.slice a 2 2) w'):vbuildS PP zn 2 [(0,v0),(1,v1)] w K:=by
 obtain⟨c0,rfl,q0⟩:=h0.cells
 obtain⟨c1,rfl,q1⟩:=h1.cells
 refine kidsL (css:=[c0,c1]) (ts:=[t0,t1]) rfl (by simp) (fun i hi=>?_) hK
 match i,hi with
 |0,_=>exact q0
 |1,_=>exact q1
theorem kids3 {v0 v1 v2:Value} {t0 t1 t2:M.Tm} (h0:TermR G w v0 t0) (h1:TermR G w v1 t1) (h2:TermR G w v2 t2) (hK:∀w' a,Ext w w'→w'.heap.size=w.heap.size+1→TmsR (fun z=>G z∨z=w.heap.size) w' (.slice a 3 3) [t0,t1,t2]→K (.slice a 3 3) w'):vbuildS PP zn 3 [(0,v0),(1,v1),(2,v2)] w K:=by
 obtain⟨c0,rfl,q0⟩:=h0.cells
 obtain⟨c1,rfl,q1⟩:=h1.cells
 obtain⟨c2,rfl,q2⟩:=h2.cells
 refine kidsL (css:=[c0,c1,c2]) (ts:=[t0,t1,t2]) rfl (by simp) (fun i hi=>?_) hK
 match i,hi with
 |0,_=>exact q0
 |1,_=>exact q1
 |2,_=>exact q2
abbrev jD0:List Value:=[.int .i64 0,.int .i64 0,.int .i64 0,.string ⟨#[]⟩,.slice none 0 0]
structure Dw (F D:Nat→Prop) (w0:World) (b b1:Nat) (v dv:Value) (xs:List Nat) (ds:List M.Dcl) (w:World) (p:Nat):Prop where
 same:Same (· =b) w0 w
 rd:RdR F w b v xs p
 var:Blk w b1 jD0 z7
 dcl:DclsR D w dv ds
 old:b<w0.heap.size
 new:b1=w0.heap.size
 size:b1<w.heap.size
 hF:∀x,F x→x<w0.heap.size
 hD:∀x,D x→x≠b
 hD1:∀x,D x→x<w0.heap.size
section
variable {w0:World} {b b1 p:Nat} {v dv:Value} {xs:List Nat} {ds:List M.Dcl}
theorem Dw.step {w1:World} {p1:Nat} (h:Dw F D w0 b b1 v dv xs ds w p) (hs:Same (· =b) w w1) (hR:RdR F w1 b v xs p1):Dw F D w0 b b1 v dv xs ds w1 p1:=
 ⟨h.same.trans hs,hR,h.var.same hs (by have:=h.old;have:=h.new;omega),h.dcl.same hs fun x hx _ e=>h.hD x hx e,h.old,h.new,Nat.lt_of_lt_of_le h.size hs.size,h.hF,h.hD,h.hD1⟩
theorem Dw.ext {w1:World} (h:Dw F D w0 b b1 v dv xs ds w p) (he:Ext w w1):Dw F D w0 b b1 v dv xs ds w1 p:=h.step (Same.of_ext he) (h.rd.ext he)
theorem Dw.begin (h:RdR F w b v xs p) (hF:∀x,F x→x<w.heap.size) (hd:DclsR D w dv ds) (hD:∀x,D x→x≠b) (hD1:∀x,D x→x<w.heap.size) {K:Value→World→Prop} (hK:∀w1,Dw F D w b w.heap.size v dv xs ds w1 p→K (.pointer (some ⟨w.heap.size,0,none⟩)) w1):zY PP z7 w K:=by
 refine zD yw fun b1 w1 hb1 he1 hs1 h1=>?_
 subst hb1
 exact hK w1 ⟨Same.of_ext he1,h.ext he1,h1,hd.ext he1,h.blk.lt,rfl,by omega,hF,hD,hD1⟩
abbrev Nw (b1:Nat) (x:Nat):Prop:=b1<x
theorem Dw.fin {c:Nat} {cs:List Value} {t:M.Tm} (h:Dw F D w0 b b1 v dv xs ds w p) {p0:Nat} (hp:p≤p0+c) (ht:TmR (Nw b1) w cs t) (hk3:t.ks.length≤3) (hK:qh0 K F w0 b p0 c v xs):
  zr PP z7 (.pointer (some ⟨b1,0,none⟩)) (.agg ⟨cs⟩) w fun _ w1=>vlv PP z7 (.pointer (some ⟨b1,0,none⟩)) w1 fun r w2=>K r w2:=by
 have:=h.old
 have:=h.new
 refine zv0 h.var rfl ht (fun x hx e=>by subst e;exact Nat.lt_irrefl _ hx) fun w3 hs3 hz3 ht3=>?_
 exact hK w3 p _ t (same_new h.same hs3 (by omega)) (h.rd.new hs3 (by omega) fun x hx e=>by have:=h.hF x hx;omega) hp (ht3.weaken fun x hx _=>by have hx':b1<x:=hx;omega) hk3
theorem Dw.pick {n:Int} (h:Dw F D w0 b b1 v dv xs ds w p) (hn:n≤1099511627776) (hp:p<1099511627776) (hK:∀w1 (k:Nat),Dw F D w0 b b1 v dv xs ds w1 (p+1)→Same (· =b) w w1→(1≤n→(k:Int)<n)→(n<1→k=0)→K (.int .i64 k) w1):vcall PP zI #[.pointer (some ⟨b,0,none⟩),.int .i64 n] w K:=
 pick_spec h.rd hn hp fun w1 k hs hz hR h1 h2=>hK w1 k (h.step hs hR) hs h1 h2
theorem Dw.sub {g:Nat} {args:Array Value} {c:Nat} (h:Dw F D w0 b b1 v dv xs ds w p) (hc:∀K',qh0 K' F w b p c v xs→vcall PP g args w K') (hK:∀w1 p1 tv t,Dw F D w0 b b1 v dv xs ds w1 p1→Same (· =b) w w1→p1≤p+c→TermR (Nw b1) w1 tv t→t.ks.length≤3→K tv w1):vcall PP g args w K:=
 hc K fun w1 p1 tv t hs hR hp ht hk3=>hK w1 p1 tv t (h.step hs hR) hs hp (ht.weaken fun x hx _=>by have:=h.size;show b1<x;omega) hk3
theorem Dw.keep {tv:Value} {t:M.Tm} {w1:World} (h:Dw F D w0 b b1 v dv xs ds w p) (ht:TermR (Nw b1) w tv t) (hs:Same (· =b) w w1):TermR (Nw b1) w1 tv t:=
 ht.same hs fun x hx _ e=>by subst e;have:=h.old;have:=h.new;have hx':b1<x:=hx;omega
theorem Dw.tms {kv:Value} {ks:List M.Tm} (h:Dw F D w0 b b1 v dv xs ds w p) {w1:World} (hk:TmsR (fun z=>Nw b1 z∨z=w.heap.size) w1 kv ks):TmsR (Nw b1) w1 kv ks:=
 hk.weaken fun x hx _=>by
  rcases hx with hx|hx
  ·exact hx
  ·have:=h.size;show b1<x;omega
end
def WZ (d:Nat):Nat:=100*4^d
theorem cost_succ (d:Nat):WZ (d+1)=4*WZ d:=by unfold WZ;rw[Nat.pow_succ];omega
theorem cost_ge (d:Nat):100≤WZ d:=by
 have:1≤4^d:=Nat.pow_pos (by omega)
 unfold WZ;omega
def Ku (d:Nat):Prop:=∀{w:World} {K:Value→World→Prop} {F D:Nat→Prop} {b p:Nat} {v dv:Value} {xs:List Nat} {ds:List M.Dcl} {sort deep:Int},RdR F w b v xs p→(∀x,F x→x<w.heap.size)→DclsR D w dv ds→(∀x,D x→x≠b)→(∀x,D x→x<w.heap.size)→Dok ds→0≤sort→sort≤4→ -100≤deep→deep≤d→
 p+WZ d<1099511627776→qh0 K F w b p (WZ d) v xs→vcall PP y6 #[.pointer (some ⟨b,0,none⟩),dv,.int .i64 sort,.int .i64 deep] w K
theorem num_draw {w0:World} {b b1 p:Nat} {v dv:Value} {xs:List Nat} {ds:List M.Dcl} {ns:List Int} (h:Dw F D w0 b b1 v dv xs ds w p) (hne:ns≠[]) (hsm:ns.length≤1000) (hp:p<1099511627776) (hK:∀w1 m,Dw F D w0 b b1 v dv xs ds w1 (p+1)→Same (· =b) w w1→m∈ns→K (.int .i64 m) w1):
  vbuildS PP zh ns.length ((ns.map fun x=>Value.int .i64 x).zipIdx.map fun p=>(p.2,p.1)) w fun s w1=>vcall PP yp #[.pointer (some ⟨b,0,none⟩),s] w1 K:=by
 have:=vbuildS_row1 (w:=w) (K:=fun s w1=>vcall PP yp #[.pointer (some ⟨b,0,none⟩),s] w1 K) (t:=zh) (xs:=ns.map fun x=>Value.int .i64 x) Zu kO Zr (fun x hx=>by obtain⟨y,_,rfl⟩:=List.mem_map.1 hx;rfl) (by simp;omega) fun b2 w' h1 h2 h3 h4=>by
  have hv:Ints (· =b2) w' (.slice (some ⟨b2,0,none⟩) (ns.map fun x=>Value.int .i64 x).length (ns.map fun x=>Value.int .i64 x).length) ns:=h4.sl1 rfl (by simp;omega)
  have hh:=h.ext h2
  have:=h.rd.blk.lt
  refine num_spec hh.rd hv hne hsm hp (fun x hx e=>by subst hx;omega) fun w2 m hs hz hR hm=>?_
  exact hK w2 m (hh.step hs hR) ((Same.of_ext h2).trans hs) hm
 rwa[List.length_map] at this
theorem l2Asks_spec {d:Nat} (hT:Ku d) {b p:Nat} {v dv:Value} {xs:List Nat} {ds:List M.Dcl} {deep:Int} (h:RdR F w b v xs p) (hF:∀x,F x→x<w.heap.size) (hd:DclsR D w dv ds) (hD:∀x,D x→x≠b) (hD1:∀x,D x→x<w.heap.size) (hok:Dok ds) (hd1:1≤deep) (hd2:deep≤d+1) (hd9:d≤9)
  (hp:p+2*WZ d+10<1099511627776) (hK:qh0 K F w b p (2*WZ d+10) v xs):vcall PP YK #[.pointer (some ⟨b,0,none⟩),dv,.int .i64 deep] w K:=by
 apply y40;unfold KN
 refine Dw.begin h hF hd hD hD1 fun w1 h1=>?_
 have hg:=h1.new
 have e1:IntKind.i64.wrap (deep-1)=deep-1:=zA (by omega) (by omega)
 have hsub:∀{w2:World} {p2:Nat} {s:Int} {K':Value→World→Prop},Dw F D w b w.heap.size v dv xs ds w2 p2→0≤s→s≤4→p2+WZ d<1099511627776→(∀w3 p3 tv t,Dw F D w b w.heap.size v dv xs ds w3 p3→Same (· =b) w2 w3→p3≤p2+WZ d→TermR (Nw w.heap.size) w3 tv t→t.ks.length≤3→K' tv w3)→
   vcall PP y6 #[.pointer (some ⟨b,0,none⟩),dv,.int .i64 s,.int .i64 (deep-1)] w2 K':=fun h2 hs0 hs4 hp2 hK'=>
  h2.sub (fun K' hk=>hT h2.rd (fun x hx=>Nat.lt_of_lt_of_le (hF x hx) h2.same.size) h2.dcl hD (fun x hx=>Nat.lt_of_lt_of_le (hD1 x hx) h2.same.size) hok hs0 hs4 (by omega) (by omega) hp2 hk) hK'
 refine h1.pick (by omega) (by omega) fun w2 k h2 hs2 hk _=>?_
 simp only[push_cast,e1]
 refine zg (fun a=>?_) (fun a=>?_)
 ·refine hsub h2 (by omega) (by omega) (by omega) fun w3 p3 t0v t0 h3 hs3 hp3 ht0 _=>?_
  refine q20 ht0 fun w4 sa he4 hz4 hks=>?_
  have h4:=h3.ext he4
  simp only[push_cast]
  exact h4.fin (p0:=p) (by omega) (TmR.of (t:= .mk 25 0 0 _ [t0]) (h3.tms hks)) (Nat.le_of_ble_eq_true rfl) hK
 refine zg (fun a1=>?_) (fun a1=>?_)
 ·refine hsub h2 (by omega) (by omega) (by omega) fun w3 p3 t0v t0 h3 hs3 hp3 ht0 _=>?_
  refine hsub h3 (by omega) (by omega) (by omega) fun w4 p4 t1v t1 h4 hs4 hp4 ht1 _=>?_
  refine kids2 (h3.keep ht0 hs4) ht1 fun w5 sa he5 hz5 hks=>?_
  have h5:=h4.ext he5
  simp only[push_cast]
  exact h5.fin (p0:=p) (by omega) (TmR.of (t:= .mk 26 0 0 _ [t0,t1]) (h4.tms hks)) (Nat.le_of_ble_eq_true rfl) hK
 refine zg (fun a2=>?_) (fun a2=>?_)
 ·refine hsub h2 (by omega) (by omega) (by omega) fun w3 p3 t0v t0 h3 hs3 hp3 ht0 _=>?_
  refine hsub h3 (by omega) (by omega) (by omega) fun w4 p4 t1v t1 h4 hs4 hp4 ht1 _=>?_
  refine kids2 (h3.keep ht0 hs4) ht1 fun w5 sa he5 hz5 hks=>?_
  have h5:=h4.ext he5
  simp only[push_cast]
  exact h5.fin (p0:=p) (by omega) (TmR.of (t:= .mk 27 0 0 _ [t0,t1]) (h4.tms hks)) (Nat.le_of_ble_eq_true rfl) hK
 refine h2.pick (by omega) (by omega) fun w3 k3 h3 hs3 hk3 _=>?_
 have hk3':=hk3 (by omega)
 simp only[push_cast]
 rw[zA (x:=1+(k3:Int)) (by omega) (by omega)]
 refine zW (fun u w4=> ∃s p4,u=[.int .i64 s]∧0≤s∧s≤4∧p4≤p+4∧Dw F D w b w.heap.size v dv xs ds w4 p4) (fun C hC=>?_) ?_
 ·have hlen:=hok.1
  have hdc3:=h3.dcl
  simp(disch:=(simp only[push_cast];done)) only[push_cast,hdc3.len]
  refine zg (fun c=>?_) (fun c=>?_)
  ·refine h3.pick (by omega) (by omega) fun w4 k4 h4 hs4 hk4 _=>?_
   have hdc4:=h4.dcl
   simp only[push_cast]
   refine zg (fun e=>?_) (fun e=>?_)
   ·try simp(disch:=(simp only[push_cast];done)) only[push_cast,hdc4.len]
    refine h4.pick (by omega) (by omega) fun w5 k5 h5 hs5 hk5 _=>?_
    have hk5':=hk5 (by omega)
    have hdc5:=h5.dcl
    simp(disch:=first|(simp only[push_cast];done)|omega) only[push_cast,hdc5.iaddr]
    try simp(disch:=first|(simp only[push_cast];done)|omega) only[push_cast,hdc5.load1]
    have hwd:1≤(ds.getD k5 (M.nada,0)).2∧(ds.getD k5 (M.nada,0)).2≤4∧_:=hok.2 k5 (by omega)
    exact hC _ _ ⟨_,_,rfl,by omega,by omega,by omega,h5⟩
   ·exact hC _ _ ⟨_,_,rfl,by omega,by omega,by omega,h4⟩
  ·exact hC _ _ ⟨_,_,rfl,by omega,by omega,by omega,h3⟩
 ·rintro u g w4 ⟨s,p4,rfl,hs0,hs4,hp4,h4⟩
  refine num_draw (ns:=[15,16,17,15]) h4 (by simp) (by decide) (by omega) fun w5 m h5 hs5 hm=>?_
  simp only[push_cast,e1]
  refine hsub h5 hs0 hs4 (by omega) fun w6 p6 t0v t0 h6 hs6 hp6 ht0 _=>?_
  refine hsub h6 hs0 hs4 (by omega) fun w7 p7 t1v t1 h7 hs7 hp7 ht1 _=>?_
  refine kids2 (h6.keep ht0 hs7) ht1 fun w8 sa he8 hz8 hks=>?_
  have h8:=h7.ext he8
  simp only[push_cast]
  exact h8.fin (p0:=p) (by omega) (TmR.of (t:= .mk m 0 0 _ [t0,t1]) (h7.tms hks)) (Nat.le_of_ble_eq_true rfl) hK
end Go.Proofs.YtaekfnbnhjgboaaGreatDoor
end
section
namespace Go.Proofs.YtaekfnbnhjgboaaGreatDoor
open Go Go.Vc Go.Proofs
variable {w:World} {K:Value→World→Prop} {F F' D G:Nat→Prop}
theorem l2Term_step {d:Nat} (hd9:d≤9) (hT:∀e,e<d→Ku e):Ku d:=by
 intro w K F D b p v dv xs ds sort deep h hF hd hD hD1 hok hs0 hs4 hdl hdh hp hK
 apply zW0;unfold KF
 refine Dw.begin h hF hd hD hD1 fun w1 h1=>?_
 have hc100:=cost_ge d
 have hleaf:∀{w2:World} {p2:Nat},Dw F D w b w.heap.size v dv xs ds w2 p2→p2≤p+1→WZ d=100∨0<d→p2+100≤p+WZ d∨d=0→(d=0→p2=p)→
   vcall PP qg #[.pointer (some ⟨b,0,none⟩),dv,.int .i64 sort] w2 fun t27 w_4=>zr PP z7 (.pointer (some ⟨w.heap.size,0,none⟩)) t27 w_4 fun _ w_5=>vlv PP z7 (.pointer (some ⟨w.heap.size,0,none⟩)) w_5 fun r8 w_6=>K r8 w_6:=by
  intro w2 p2 h2 hp2 _ hc hz
  refine h2.sub (c:=100) (fun K' hk=>l2Leafy_spec h2.rd (fun x hx=>Nat.lt_of_lt_of_le (hF x hx) h2.same.size) h2.dcl hD hok hs0 hs4 (by rcases hc with hc|hc<;>omega) hk) fun w3 p3 tv t h3 hs3 hp3 ht hk3=>?_
  obtain⟨cs,rfl,hcs⟩:=ht.cells
  refine h3.fin (p0:=p) (c:=WZ d) ?_ hcs hk3 hK
  rcases hc with hc|hc
  ·omega
  ·have:=hz hc;omega
 refine zW (fun u w'=> ∃p',u=[]∧Dw F D w b w.heap.size v dv xs ds w' p'∧p'≤p+1∧1≤deep) (fun C hC=>?_) ?_
 ·simp only[push_cast]
  refine zg (fun a=>?_) (fun a=>?_)
  ·refine hleaf h1 (by omega) (by
    by_cases h0:d=0
    ·subst h0;left;rfl
    ·right;omega) ?_ (fun _=>rfl)
   by_cases h0:d=0
   ·exact .inr h0
   ·left;omega
  ·have hdpos:1≤d:=by omega
   have hc4:WZ d=4*WZ (d-1):=by
    obtain⟨e,rfl⟩:∃e,d=e+1:=⟨d-1,by omega⟩
    exact cost_succ e
   have hc99:=cost_ge (d-1)
   refine zg (fun c=>?_) (fun c=>?_)
   ·refine h1.pick (by omega) (by omega) fun w2 k h2 hs2 hk _=>?_
    simp only[push_cast]
    refine zg (fun e=>?_) (fun e=>?_)
    ·exact hleaf h2 (by omega) (.inr (by omega)) (.inl (by omega)) (by omega)
    ·exact hC _ _ ⟨p+1,rfl,h2,by omega,by omega⟩
   ·exact hC _ _ ⟨p,rfl,h1,by omega,by omega⟩
 rintro u g w2 ⟨p2,rfl,h2,hp2,hd1⟩
 have hdpos:1≤d:=by omega
 obtain⟨d',hd'⟩:∃d',d=d'+1:=⟨d-1,by omega⟩
 have hc4:WZ d=4*WZ d':=by rw[hd',cost_succ]
 have hc99:=cost_ge d'
 have e1:IntKind.i64.wrap (deep-1)=deep-1:=zA (by omega) (by omega)
 have hsub:∀{w2:World} {p2:Nat} {s:Int} {K':Value→World→Prop},Dw F D w b w.heap.size v dv xs ds w2 p2→0≤s→s≤4→p2+WZ d'<1099511627776→(∀w3 p3 tv t,Dw F D w b w.heap.size v dv xs ds w3 p3→Same (· =b) w2 w3→p3≤p2+WZ d'→TermR (Nw w.heap.size) w3 tv t→t.ks.length≤3→K' tv w3)→
   vcall PP y6 #[.pointer (some ⟨b,0,none⟩),dv,.int .i64 s,.int .i64 (deep-1)] w2 K':=fun h2 hs0 hs4 hp2 hK'=>
  h2.sub (fun K' hk=>hT d' (by omega) h2.rd (fun x hx=>Nat.lt_of_lt_of_le (hF x hx) h2.same.size) h2.dcl hD (fun x hx=>Nat.lt_of_lt_of_le (hD1 x hx) h2.same.size) hok hs0 hs4 (by omega) (by omega) hp2 hk) hK'
 refine h2.pick (by omega) (by omega) fun w3 k h3 hs3 hk _=>?_
 have hk':=hk (by omega)
 simp only[push_cast,e1]
 refine zg (fun a=>?_) (fun a=>?_)
 ·refine hsub h3 (by omega) (by omega) (by omega) fun w4 p4 t0v t0 h4 hs4' hp4 ht0 _=>?_
  refine hsub h4 hs0 hs4 (by omega) fun w5 p5 t1v t1 h5 hs5 hp5 ht1 _=>?_
  refine hsub h5 hs0 hs4 (by omega) fun w6 p6 t2v t2 h6 hs6 hp6 ht2 _=>?_
  refine kids3 (h5.keep (h4.keep ht0 hs5) hs6) (h5.keep ht1 hs6) ht2 fun w7 sa he7 hz7 hks=>?_
  have h7:=h6.ext he7
  simp only[push_cast]
  exact h7.fin (p0:=p) (by omega) (TmR.of (t:= .mk 23 0 0 _ [t0,t1,t2]) (h6.tms hks)) (Nat.le_of_ble_eq_true rfl) hK
 refine zg (fun a0=>?_) (fun a0=>?_)
 ·refine h3.sub (c:=2*WZ d'+10) (fun K' hk=>l2Asks_spec (hT d' (by omega)) h3.rd (fun x hx=>Nat.lt_of_lt_of_le (hF x hx) h3.same.size) h3.dcl hD (fun x hx=>Nat.lt_of_lt_of_le (hD1 x hx) h3.same.size) hok hd1 (by omega) (by omega) (by omega) hk) fun w4 p4 tv t h4 hs4' hp4 ht hk3=>?_
  obtain⟨cs,rfl,hcs⟩:=ht.cells
  exact h4.fin (p0:=p) (by omega) hcs hk3 hK
 refine zg (fun a1=>?_) (fun a1=>?_)
 ·rw[zA (x:=5-sort) (by omega) (by omega)]
  refine h3.pick (by omega) (by omega) fun w4 k4 h4 hs4' hk4 hk4'=>?_
  have hw4:sort+(k4:Int)≤4:=by
   by_cases hn:1≤5-sort
   ·have:=hk4 hn;omega
   ·have:=hk4' (by omega);omega
  simp only[push_cast]
  rw[zA (x:=sort+(k4:Int)) (by omega) (by omega),zA (x:=sort+(k4:Int)-sort) (by omega) (by omega),zA (x:=sort+(k4:Int)-sort+1) (by omega) (by omega)]
  refine h4.pick (by omega) (by omega) fun w5 k5 h5 hs5 hk5 _=>?_
  have hk5':=hk5 (by omega)
  simp only[push_cast]
  refine hsub h5 (by omega) hw4 (by omega) fun w6 p6 t0v t0 h6 hs6 hp6 ht0 _=>?_
  refine q20 ht0 fun w7 sa he7 hz7 hks=>?_
  have h7:=h6.ext he7
  simp only[push_cast]
  exact h7.fin (p0:=p) (by omega) (TmR.of (t:= .mk 22 _ _ _ [t0]) (h6.tms hks)) (Nat.le_of_ble_eq_true rfl) hK
 refine zW (fun u w'=>u=[]∧w'=w3) (fun C hC=>?_) ?_
 ·refine zW (fun u w'=>u=[.bool (decide (k=2∧1<sort))]∧w'=w3) (fun C' hC'=>?_) ?_
  ·try simp only[push_cast]
   refine zg (fun c=>?_) (fun c=>?_)
   ·refine hC' _ _ ⟨?_,rfl⟩
    have c':k=2:=by omega
    simp only[c',true_and]
   ·exact hC' _ _ ⟨by rw[decide_eq_false (by omega)],rfl⟩
  rintro u g w4 ⟨rfl,rfl⟩
  simp only[push_cast]
  refine zg (fun c=>?_) (fun c=>?_)
  ·rw[zA (x:=sort-1) (by omega) (by omega)]
   refine h3.pick (by omega) (by omega) fun w5 k5 h5 hs5 hk5 _=>?_
   have hk5':=hk5 (by omega)
   try simp only[push_cast]
   rw[zA (x:=1+(k5:Int)) (by omega) (by omega)]
   refine hsub h5 (by omega) (by omega) (by omega) fun w6 p6 t0v t0 h6 hs6 hp6 ht0 _=>?_
   try simp only[push_cast]
   rw[zA (x:=sort-(1+(k5:Int))) (by omega) (by omega)]
   refine hsub h6 (by omega) (by omega) (by omega) fun w7 p7 t1v t1 h7 hs7 hp7 ht1 _=>?_
   refine kids2 (h6.keep ht0 hs7) ht1 fun w8 sa he8 hz8 hks=>?_
   have h8:=h7.ext he8
   simp only[push_cast]
   exact h8.fin (p0:=p) (by omega) (TmR.of (t:= .mk 14 0 0 _ [t0,t1]) (h7.tms hks)) (Nat.le_of_ble_eq_true rfl) hK
  ·exact hC _ _ ⟨rfl,rfl⟩
 rintro u g w4 ⟨rfl,rfl⟩
 try simp only[push_cast]
 refine zg (fun c=>?_) (fun c=>?_)
 ·refine h3.pick (by omega) (by omega) fun w5 k5 h5 hs5 hk5 _=>?_
  have hk5':=hk5 (by omega)
  try simp only[push_cast]
  rw[zA (x:=1+(k5:Int)) (by omega) (by omega)]
  refine hsub h5 hs0 hs4 (by omega) fun w6 p6 t0v t0 h6 hs6 hp6 ht0 _=>?_
  refine q20 ht0 fun w7 sa he7 hz7 hks=>?_
  have h7:=h6.ext he7
  simp only[push_cast]
  exact h7.fin (p0:=p) (by omega) (TmR.of (t:= .mk _ 0 0 _ [t0]) (h6.tms hks)) (Nat.le_of_ble_eq_true rfl) hK
 ·refine h3.pick (by omega) (by omega) fun w5 k5 h5 hs5 hk5 _=>?_
  have hk5':=hk5 (by omega)
  try simp only[push_cast]
  rw[zA (x:=3+(k5:Int)) (by omega) (by omega)]
  refine hsub h5 hs0 hs4 (by omega) fun w6 p6 t0v t0 h6 hs6 hp6 ht0 _=>?_
  refine hsub h6 hs0 hs4 (by omega) fun w7 p7 t1v t1 h7 hs7 hp7 ht1 _=>?_
  refine kids2 (h6.keep ht0 hs7) ht1 fun w8 sa he8 hz8 hks=>?_
  have h8:=h7.ext he8
  simp only[push_cast]
  exact h8.fin (p0:=p) (by omega) (TmR.of (t:= .mk _ 0 0 _ [t0,t1]) (h7.tms hks)) (Nat.le_of_ble_eq_true rfl) hK
theorem l2Term_spec:∀d,d≤9→Ku d:=by
 intro d
 induction d using Nat.strongRecOn with
 |_ d ih=>intro hd;exact l2Term_step hd fun e he=>ih e he (by omega)
theorem dok_sized {ds:List M.Dcl} (h:Dok ds):kr0 ds:=fun i hi=>by have:=(h.2 i hi).2.2;omega
theorem l2Some_spec {b p:Nat} {v dv:Value} {xs:List Nat} {ds:List M.Dcl} {sort:Int} (h:RdR F w b v xs p) (hF:∀x,F x→x<w.heap.size) (hd:DclsR D w dv ds) (hD:∀x,D x→x≠b) (hD1:∀x,D x→x<w.heap.size) (hok:Dok ds) (hs0:0≤sort) (hs4:sort≤4)
  (hp:p+200000<1099511627776) (hK:qh0 K F w b p 200000 v xs):vcall PP YF #[.pointer (some ⟨b,0,none⟩),dv,.int .i64 sort] w K:=by
 apply zY0;unfold KH
 refine Dw.begin h hF hd hD hD1 fun w1 h1=>?_
 have hcost:WZ 4=25600:=rfl
 refine vloop_up 4 (fun i u w'=> ∃p',u=[.int .i64 (4-(i:Int))]∧Dw F D w b w.heap.size v dv xs ds w' p'∧p'≤p+25600*i) ⟨p,rfl,h1,by omega⟩ ?_
 rintro i _ _ w2 C hi ⟨p2,rfl,h2,hp2⟩ hC
 have hold:=h2.old
 have hnew:=h2.new
 simp only[push_cast]
 refine zg (fun a=>?_) (fun a=>?_)
 ·refine h2.sub (c:=WZ 4) (fun K' hk=>l2Term_spec 4 (by omega) h2.rd (fun x hx=>Nat.lt_of_lt_of_le (hF x hx) h2.same.size) h2.dcl hD (fun x hx=>Nat.lt_of_lt_of_le (hD1 x hx) h2.same.size) hok hs0 hs4 (by omega) (by omega) (by omega) hk) fun w3 p3 tv t h3 hs3 hp3 ht hk3=>?_
  obtain⟨cs,rfl,hcs⟩:=ht.cells
  have hcs3:=hcs.weaken (F':=fun x=>Nw w.heap.size x∧x<w3.heap.size) fun x hx hl=>⟨hx,hl⟩
  refine zD yw fun b2 w4 hb2 he4 hs4' h4=>?_
  refine stTerm h4 rfl (hcs3.ext he4) fun w5 hw5 _ h5=>?_
  have he5:Ext w3 w5:=Ext.then he4 hw5 fun y hy=>by subst hy;omega
  have hg:aggB PP z7 cs.length=true:=by rw[xG hcs];exact zJ
  rw[h5.ldAgg (t:=z7) hg]
  have h5':=h3.ext he5
  refine spec_TermSort_spec (dok_sized hok) h5'.dcl (hcs.ext he5).term fun w6 he6=>?_
  have h6':=h5'.ext he6
  simp only[push_cast]
  refine zg (fun c=>?_) (fun c=>?_)
  ·rw[(h5.ext he6).ldAgg (t:=z7) hg]
   exact h6'.fin (p0:=p) (by omega) ((hcs.ext he5).ext he6) hk3 hK
  ·rw[zA (by omega) (by omega),show 4-(i:Int)-1=4-((i+1:Nat):Int) by omega]
   exact hC (by omega) _ _ ⟨p3,rfl,h6',by omega⟩
 ·refine h2.sub (c:=100) (fun K' hk=>l2Leafy_spec h2.rd (fun x hx=>Nat.lt_of_lt_of_le (hF x hx) h2.same.size) h2.dcl hD hok hs0 hs4 (by omega) hk) fun w3 p3 tv t h3 hs3 hp3 ht hk3=>?_
  obtain⟨cs,rfl,hcs⟩:=ht.cells
  exact h3.fin (p0:=p) (by omega) hcs hk3 hK
end Go.Proofs.YtaekfnbnhjgboaaGreatDoor
end
section
namespace Go.Proofs.YtaekfnbnhjgboaaGreatDoor
open Go Go.Vc Go.Proofs
variable {w:World} {K:Value→World→Prop} {F F' D G:Nat→Prop}
theorem of_spec {b p:Nat} {v vs:Value} {xs:List Nat} {ss:List ByteArray} (h:RdR F w b v xs p) (hv:Vals F' w vs (ss.map .string)) (hne:ss≠[]) (hsm:ss.length≤1000) (hp:p<1099511627776) (hF':∀x,F' x→x≠b)
  (hK:∀w' s,Same (· =b) w w'→w'.heap.size=w.heap.size→RdR F w' b v xs (p+1)→s∈ss→K (.string s) w'):vcall PP qw #[.pointer (some ⟨b,0,none⟩),vs] w K:=by
 apply U3;unfold XU
 have hpos:=List.length_pos_iff.2 hne
 have hl:(ss.map Value.string).length=ss.length:=List.length_map _
 simp(disch:=(simp only[push_cast];done)) only[push_cast,hv.len]
 refine pick_spec h (by omega) hp fun w1 k hs hz hR h1 _=>?_
 have hk:=h1 (by omega)
 have hv1:=hv.same hs fun x hx _ e=>hF' x hx e
 rw[hv1.iaddr (by kernel_rfl) (by omega) (by omega),Int.toNat_natCast,hv1.load (by kernel_rfl) (by omega),M.getD_map _ (by omega) _ M.nada]
 exact hK w1 _ hs hz hR (M.getD_mem (by omega) _)
theorem of_lit {b p:Nat} {v:Value} {xs:List Nat} {ss:List ByteArray} (h:RdR F w b v xs p) (hF:∀x,F x→x<w.heap.size) (hne:ss≠[]) (hsm:ss.length≤1000) (hp:p<1099511627776) (hK:∀w1 s,Same (· =b) w w1→RdR F w1 b v xs (p+1)→s∈ss→K (.string s) w1):
  vbuildS PP ym ss.length ((ss.map Value.string).zipIdx.map fun p=>(p.2,p.1)) w fun s w1=>vcall PP qw #[.pointer (some ⟨b,0,none⟩),s] w1 K:=by
 have:=vbuildS_row1 (w:=w) (K:=fun s w1=>vcall PP qw #[.pointer (some ⟨b,0,none⟩),s] w1 K) (t:=ym) (xs:=ss.map Value.string) Ya (by kernel_rfl) Y9 (fun x hx=>by obtain⟨y,_,rfl⟩:=List.mem_map.1 hx;rfl) (by rw[List.length_map];omega) fun b2 w' h1 h2 h3 h4=>by
  have hv:Vals (· =b2) w' (.slice (some ⟨b2,0,none⟩) (ss.map Value.string).length (ss.map Value.string).length) (ss.map Value.string):=h4.sl1 rfl (by rw[List.length_map];omega)
  have:=h.blk.lt
  refine of_spec (h.ext h2) hv hne hsm hp (fun x hx e=>by subst hx;omega) fun w2 m hs hz hR hm=>?_
  exact hK w2 m ((Same.of_ext h2).trans hs) hR hm
 rwa[List.length_map] at this
theorem num_lit {b p:Nat} {v:Value} {xs:List Nat} {ns:List Int} (h:RdR F w b v xs p) (hne:ns≠[]) (hsm:ns.length≤1000) (hp:p<1099511627776) (hK:∀w1 m,Same (· =b) w w1→RdR F w1 b v xs (p+1)→m∈ns→K (.int .i64 m) w1):
  vbuildS PP zh ns.length ((ns.map fun x=>Value.int .i64 x).zipIdx.map fun p=>(p.2,p.1)) w fun s w1=>vcall PP yp #[.pointer (some ⟨b,0,none⟩),s] w1 K:=by
 have:=vbuildS_row1 (w:=w) (K:=fun s w1=>vcall PP yp #[.pointer (some ⟨b,0,none⟩),s] w1 K) (t:=zh) (xs:=ns.map fun x=>Value.int .i64 x) Zu kO Zr (fun x hx=>by obtain⟨y,_,rfl⟩:=List.mem_map.1 hx;rfl) (by simp;omega) fun b2 w' h1 h2 h3 h4=>by
  have hv:Ints (· =b2) w' (.slice (some ⟨b2,0,none⟩) (ns.map fun x=>Value.int .i64 x).length (ns.map fun x=>Value.int .i64 x).length) ns:=h4.sl1 rfl (by simp;omega)
  have:=h.blk.lt
  refine num_spec (h.ext h2) hv hne hsm hp (fun x hx e=>by subst hx;omega) fun w2 m hs hz hR hm=>?_
  exact hK w2 m ((Same.of_ext h2).trans hs) hR hm
 rwa[List.length_map] at this
def Dsm (ds:List M.Dcl):Prop:=ds.length≤6∧∀i,i<ds.length→(ds.getD i We).1.size≤5
theorem dsm_sized {ds:List M.Dcl} (h:Dsm ds):kr0 ds:=fun i hi=>by have:=h.2 i hi;omega
theorem dok_dsm {ds:List M.Dcl} (h:Dok ds):Dsm ds:=⟨by have:=h.1;omega,fun i hi=>by have:=(h.2 i hi).2.2;omega⟩
theorem j20 {ds:List M.Dcl} {k j:Nat} {d:M.Dcl} (hk:k<ds.length):(ds.set k d).getD j We=if k=j then d else ds.getD j We:=by
 rw[List.getD_eq_getElem?_getD,List.getElem?_set]
 split
 ·rename_i e
  rfl
 ·rw[←List.getD_eq_getElem?_getD]
theorem qD0 {ds:List M.Dcl} {k:Nat} {d:M.Dcl} (c:List Value) (hc:c=[Value.string d.1,Value.int .i64 d.2]):(ds.map fun d=>[Value.string d.1,Value.int .i64 d.2]).set k c=(ds.set k d).map fun d=>[Value.string d.1,Value.int .i64 d.2]:=by
 rw[List.map_set,hc]
theorem yB0 {b:Nat} (h:Blk w b [] zz):OwnD w (.slice (some ⟨b,0,none⟩) 0 0) []:=Blk.ownk (css:=[]) (by rw[K8];exact h) (by simp) rfl (by decide)
abbrev U2 (ds:List M.Dcl):List (List Value):=ds.map fun d=>[Value.string d.1,Value.int .i64 d.2]
theorem one_cellsD {ds:List M.Dcl}:∀y,y∈U2 ds→∀c,c∈y→c.oneCell'=true:=fun y hy c hc=>by
 obtain⟨d,_,rfl⟩:=List.mem_map.1 hy
 simp only[List.mem_cons,List.not_mem_nil,or_false] at hc
 rcases hc with rfl|rfl<;>rfl
theorem l2Spoil_spec {b p:Nat} {v dv:Value} {xs:List Nat} {ds:List M.Dcl} (h:RdR F w b v xs p) (hF:∀x,F x→x<w.heap.size) (hd:DclsR D w dv ds) (hD:∀x,D x→x≠b) (hD1:∀x,D x→x<w.heap.size) (hok:Dok ds) (hp:p+10<1099511627776)
  (hK:∀w' p' dv' ds',Same (· =b) w w'→RdR F w' b v xs p'→p'≤p+10→DclsR (fun x=>w.heap.size≤x) w' dv' ds'→Dsm ds'→K dv' w'):vcall PP ZW #[.pointer (some ⟨b,0,none⟩),dv] w K:=by
 apply UF;unfold QV
 have lb:=h.blk.lt
 have hlen:=hok.1
 refine vbuildS_row (xs:=[]) (us:=[]) (k:=2) jZ Z0 xU rfl (by simp) (by decide) fun b1 w1 hb1 he1 hs1 h1=>?_
 have ho1:=yB0 h1
 refine vappend (F:=D) (ys:=U2 ds) XJ (by decide) ho1 (show Sl D w1 2 dv (U2 ds) from hd.ext he1) one_cellsD (Nat.zero_le _) (by simp;omega) (by simp;omega) fun ov w2 ho2 hw2 hn2=>?_
 replace ho2:OwnD w2 ov ds:=ho2
 have hz1:=he1.size
 have hz2:=hw2.size
 have hw2':Same (· =b1) w1 w2:=hw2.mono fun x _ hx=>(Option.some.inj hx).symm
 have hn:∀x,ov.ownBlock=some x→w.heap.size≤x:=fun x hx=>by
  rcases hn2 x hx with hx|hx
  ·have e:x=b1:=(Option.some.inj hx).symm;omega
  ·omega
 have hs2:Same (· =b) w w2:=same_new (Same.of_ext he1) hw2' (by omega)
 have hR2:RdR F w2 b v xs p:=(h.ext he1).new hw2' (by omega) fun x hx e=>by have:=hF x hx;omega
 have hd2:DclsR D w2 dv ds:=(hd.ext he1).same hw2' fun x hx _ e=>by have:=hD1 x hx;omega
 have hret:∀w3 p3 ds3,Same (· =b) w w3→RdR F w3 b v xs p3→p3≤p+10→OwnD w3 ov ds3→Dsm ds3→K ov w3:=fun w3 p3 ds3 hs hR hp3 ho hds=>hK w3 p3 ov ds3 hs hR hp3 (ho.dcls.weaken fun x hx _=>hn x hx) hds
 simp(disch:=(simp only[push_cast];done)) only[push_cast,hd2.len]
 refine zg (fun a=>?_) (fun a=>?_)
 ·exact hret _ _ _ hs2 hR2 (by omega) ho2 (dok_dsm hok)
 refine pick_spec hR2 (by omega) (by omega) fun w3 k hs3 hz3 hR3 hk _=>?_
 have hk':=hk (by omega)
 refine pick_spec hR3 (by omega) (by omega) fun w4 c hs4 hz4 hR4 hc _=>?_
 have ho4:OwnD w4 ov ds:=(ho2.same hs3 fun x hx e=>by have:=hn x hx;omega).same hs4 fun x hx e=>by have:=hn x hx;omega
 have hs4':=(hs2.trans hs3).trans hs4
 have hz4':=hs4'.size
 have hF4:∀x,F x→x<w4.heap.size:=fun x hx=>Nat.lt_of_lt_of_le (hF x hx) hz4'
 have hstore:∀{w5:World} {p5:Nat} {d:M.Dcl} {x:Value} {j:Nat} {e:TypeId},OwnD w5 ov ds→Same (· =b) w w5→RdR F w5 b v xs p5→p5≤p+10→x.cells= #[x]→x.oneCell'=true→j0 PP e 1=true→j<2→([Value.string (ds.getD k We).1,Value.int .i64 (ds.getD k We).2].set j x)=[Value.string d.1,Value.int .i64 d.2]→d.1.size≤5→
   zr PP e (.pointer (some ((eaddr ov 2 k).add j))) x w5 fun _ w6=>K ov w6:=by
  intro w5 p5 d x j e ho hs hR hp5 hx1 hx2 hz hj hset hsz
  refine Own.stCell ho hx1 hx2 hz (by rw[List.length_map];omega) hj fun w6 ho6 hs6 _=>?_
  have hg:(U2 ds).getD k []=[Value.string (ds.getD k We).1,Value.int .i64 (ds.getD k We).2]:=Ws (by omega)
  rw[show(ds.map fun d=>[Value.string d.1,Value.int .i64 d.2]).getD k []=_ from hg,hset,qD0 (d:=d) _ rfl] at ho6
  have hs56:Same (· =b) w w6:=⟨hs6.os.trans hs.os,hs6.tape.trans hs.tape,hs6.output.trans hs.output,Nat.le_trans hs.size hs6.size,fun y hy hne=>by
   rw[hs6.block y (Nat.lt_of_lt_of_le hy hs.size) (fun e=>by have:=hn y e;omega)];exact hs.block y hy hne⟩
  refine hret w6 p5 _ hs56 (hR.same hs6 (fun e=>by have:=hn b e;omega) fun y hy _ e=>by have:=hn y e;have:=hF y hy;omega) hp5 ho6 ⟨by rw[List.length_set];omega,fun i hi=>?_⟩
  rw[List.length_set] at hi
  rw[j20 (by omega)]
  split
  ·exact hsz
  ·have:=(hok.2 i hi).2.2;omega
 have hnk:=(hok.2 k (by omega)).2.2
 simp only[push_cast]
 refine zg (fun a0=>?_) (fun a0=>?_)
 ·refine num_lit (ns:=[0,5,-1,4]) hR4 (by simp) (by decide) (by omega) fun w5 m hs5 hR5 hm=>?_
  have ho5:OwnD w5 ov ds:=ho4.same hs5 fun x hx e=>by have:=hn x hx;omega
  have hi:=ho5.dcls
  simp(disch:=first|(simp only[push_cast];done)|omega) only[push_cast,hi.iaddr]
  exact hstore (d:=((ds.getD k We).1,m)) (j:=1) ho5 (hs4'.trans hs5) hR5 (by omega) rfl rfl kO (by omega) rfl (by show(ds.getD k We).1.size≤5;omega)
 refine zg (fun a1=>?_) (fun a1=>?_)
 ·refine of_lit (ss:=[⟨#[]⟩,⟨#[116,114,117,101]⟩,⟨#[97,98,99,100,101]⟩,⟨#[65]⟩,⟨#[110,111,116]⟩,⟨#[120]⟩]) hR4 hF4 (by simp) (by decide) (by omega) fun w5 s hs5 hR5 hm=>?_
  have ho5:OwnD w5 ov ds:=ho4.same hs5 fun x hx e=>by have:=hn x hx;omega
  have hi:=ho5.dcls
  have hsz:s.size≤5:=by
   simp only[List.mem_cons,List.not_mem_nil,or_false] at hm
   rcases hm with rfl|rfl|rfl|rfl|rfl|rfl<;>decide
  simp(disch:=first|(simp only[push_cast];done)|omega) only[push_cast,hi.iaddr]
  exact hstore (d:=(s,(ds.getD k We).2)) (j:=0) ho5 (hs4'.trans hs5) hR5 (by omega) rfl rfl zj0 (by omega) rfl hsz
 refine zg (fun a2=>?_) (fun a2=>?_)
 ·refine vbuildS_row (xs:=[.agg ⟨[.string ⟨#[113]⟩,.int .i64 4]⟩,.agg ⟨[.string ⟨#[112]⟩,.int .i64 1]⟩]) (us:=U2 [(⟨#[113]⟩,4),(⟨#[112]⟩,1)]) (k:=2) jZ Z0 xU rfl (by simp) (by decide) fun b5 w5 hb5 he5 hs5 h5=>?_
  have hlit:OwnD w5 (.slice (some ⟨b5,0,none⟩) 2 2) [(⟨#[113]⟩,4),(⟨#[112]⟩,1)]:=Blk.ownk (css:=U2 [(⟨#[113]⟩,4),(⟨#[112]⟩,1)]) (by rw[K8];exact h5) (by simp) rfl (by decide)
  refine vappend (ys:=U2 [(⟨#[113]⟩,4),(⟨#[112]⟩,1)]) XJ (by decide) (ho4.ext he5) hlit.sl one_cellsD (Nat.zero_le _) (by simp;omega) (by simp;omega) fun ov' w6 ho6 hw6 hn6=>?_
  have hz5:=he5.size
  have hs6:Same (· =b) w w6:=⟨hw6.os.trans ((hs4'.trans (Same.of_ext he5)).os),hw6.tape.trans ((hs4'.trans (Same.of_ext he5)).tape),hw6.output.trans ((hs4'.trans (Same.of_ext he5)).output),Nat.le_trans (hs4'.trans (Same.of_ext he5)).size hw6.size,fun y hy hne=>by
   rw[hw6.block y (Nat.lt_of_lt_of_le hy (hs4'.trans (Same.of_ext he5)).size) (fun e=>by have:=hn y e;omega)];exact(hs4'.trans (Same.of_ext he5)).block y hy hne⟩
  have hR6:RdR F w6 b v xs _:=(hR4.ext he5).same hw6 (fun e=>by have:=hn b e;omega) fun y hy _ e=>by have:=hn y e;have:=hF y hy;omega
  have ho6':OwnD w6 ov' (ds++[(⟨#[113]⟩,4),(⟨#[112]⟩,1)]):=by
   rw[OwnD,List.map_append];exact ho6
  refine hK w6 _ ov' _ hs6 hR6 (by omega) (ho6'.dcls.weaken fun x hx _=>?_) ⟨by rw[List.length_append];simp;omega,fun i hi=>?_⟩
  ·rcases hn6 x hx with h|h
   ·exact hn x h
   ·omega
  ·rw[List.length_append] at hi
   by_cases hi2:i<ds.length
   ·rw[List.getD_eq_getElem?_getD,List.getElem?_append_left hi2,←List.getD_eq_getElem?_getD]
    have:=(hok.2 i hi2).2.2;omega
   ·rw[List.getD_eq_getElem?_getD,List.getElem?_append_right (by omega)]
    have:i-ds.length=0∨i-ds.length=1:=by simp at hi;omega
    rcases this with e|e<;>rw[e]<;>decide
 refine zg (fun a3=>?_) (fun a3=>?_)
 ·refine vbuildS_row (xs:=[]) (us:=[]) (k:=2) jZ Z0 xU rfl (by simp) (by decide) fun b5 w5 hb5 he5 hs5 h5=>?_
  have ho5:=yB0 h5
  exact hK w5 _ _ [] (hs4'.trans (Same.of_ext he5)) (hR4.ext he5) (by omega) (ho5.dcls.weaken fun x hx _=>by have e:x=b5:=(Option.some.inj hx).symm;omega) ⟨by simp,fun i hi=>by simp at hi⟩
 ·exact hret _ _ _ hs4' hR4 (by omega) ho4 (dok_dsm hok)
end Go.Proofs.YtaekfnbnhjgboaaGreatDoor
end
section
namespace Go.Proofs.YtaekfnbnhjgboaaGreatDoor
open Go Go.Vc Go.Proofs
variable {w:World} {K:Value→World→Prop} {F F' D G:Nat→Prop}
theorem ints_lit {ns:List Int} (hsm:ns.length≤1000) (hK:∀b2 w',b2=w.heap.size→Ext w w'→Ints (· =b2) w' (.slice (some ⟨b2,0,none⟩) ns.length ns.length) ns→K (.slice (some ⟨b2,0,none⟩) ns.length ns.length) w'):vbuildS PP zh ns.length ((ns.map fun x=>Value.int .i64 x).zipIdx.map fun p=>(p.2,p.1)) w K:=by
 have:=vbuildS_row1 (w:=w) (K:=K) (t:=zh) (xs:=ns.map fun x=>Value.int .i64 x) Zu kO Zr (fun x hx=>by obtain⟨y,_,rfl⟩:=List.mem_map.1 hx;rfl) (by simp;omega) fun b2 w' h1 h2 h3 h4=>by
  rw[List.length_map]
  exact hK b2 w' h1 h2 (h4.sl1 (by simp) (by omega))
 rwa[List.length_map] at this
theorem l2Bent_spec {b p:Nat} {v tv:Value} {xs:List Nat} {t:M.Tm} (h:RdR F w b v xs p) (hF:∀x,F x→x<w.heap.size) (ht:TermR G w tv t) (hG:∀x,G x→x≠b) (hG1:∀x,G x→x<w.heap.size) (hp:p+10<1099511627776) (hsm:t.ks.length≤1000)
  (hK:∀w' p' tv' t',Same (· =b) w w'→RdR F w' b v xs p'→p'≤p+10→TermR (fun x=>G x∨w.heap.size≤x) w' tv' t'→t'.ks.length≤t.ks.length+1→K tv' w'):vcall PP YJ #[.pointer (some ⟨b,0,none⟩),tv] w K:=by
 apply y30;unfold KM
 have lb:=h.blk.lt
 obtain⟨kv,rfl,hks⟩:=ht
 refine zx fun b1 w1 hb1 he1 hs1 h1=>?_
 refine zD yw fun b2 w2 hb2 he2 hs2 h2=>?_
 have q2:=h1.ext he2
 refine vbuildS_row (xs:=[]) (us:=[]) (k:=5) VG Wu yw rfl (by simp) (by decide) fun b3 w3 hb3 he3 hs3 h3=>?_
 have ho3:Own PP 0 5 zn w3 (.slice (some ⟨b3,0,none⟩) 0 0) []:=Blk.ownk (css:=[]) (by rw[K7];exact h3) (by simp) rfl (by decide)
 have q3:=q2.ext he3
 have r3:=h2.ext he3
 have hE3:=(he1.trans he2).trans he3
 have hks3:=hks.ext hE3
 have hR3:=h.ext hE3
 have hz1:=he1.size
 have hz2:=he2.size
 have hz3:=he3.size
 simp(disch:=(simp only[push_cast];done)) only[push_cast,q3.ld4]
 obtain⟨css,hsl,hcl,hci⟩:=hks3
 have hone:∀y,y∈css→∀c,c∈y→c.oneCell'=true:=fun y hy c hc=>by
  obtain⟨i,hi,rfl⟩:=List.getElem_of_mem hy
  have hq:=hci i (by omega)
  rw[List.getD_eq_getElem?_getD,List.getElem?_eq_getElem hi] at hq
  obtain⟨kv',he,hk'⟩:=hq.inv
  obtain⟨css',hs',_⟩:=hk'
  rw[show css[i]=(some css[i]).getD [] from rfl,he] at hc
  simp only[List.mem_cons,List.not_mem_nil,or_false] at hc
  rcases hc with rfl|rfl|rfl|rfl|rfl
  ·rfl
  ·rfl
  ·rfl
  ·rfl
  ·exact hs'.one
 refine vappend (F:=G) VI (by decide) ho3 hsl hone (Nat.zero_le _) (by simp;omega) (by simp;omega) fun ov w4 ho4 hw4 hn4=>?_
 replace ho4:Own PP 0 5 zn w4 ov css:=ho4
 have hz4:=hw4.size
 have hw4':Same (· =b3) w3 w4:=hw4.mono fun x _ hx=>(Option.some.inj hx).symm
 have hn:∀x,ov.ownBlock=some x→w2.heap.size≤x:=fun x hx=>by
  rcases hn4 x hx with hx|hx
  ·have e:x=b3:=(Option.some.inj hx).symm;omega
  ·omega
 have hs04:Same (· =b) w w4:=same_new (Same.of_ext hE3) hw4' (by omega)
 have hR4:RdR F w4 b v xs p:=hR3.new hw4' (by omega) fun x hx e=>by have:=hF x hx;omega
 have q4:=q3.same hw4' (by omega)
 have r4:=r3.same hw4' (by omega)
 have hks4:TmsR G w4 kv t.ks:=(hks.ext hE3).same hw4' fun x hx _ e=>by have:=hG1 x hx;omega
 refine pick_spec hR4 (by omega) (by omega) fun w5 c hs5 hz5 hR5 _ _=>?_
 have q5:=q4.same hs5 (by omega)
 have r5:=r4.same hs5 (by omega)
 have hks5:TmsR G w5 kv t.ks:=hks4.same hs5 fun x hx _ e=>hG x hx e
 have hs05:=hs04.trans hs5
 have ho5:Own PP 0 5 zn w5 ov css:=ho4.same hs5 fun x hx e=>by have:=hn x hx;omega
 have hz05:=hs05.size
 have hfin:∀{w6:World} {p6:Nat} {cs:List Value} {t':M.Tm},t'.ks.length≤t.ks.length+1→Same (· =b) w w6→RdR F w6 b v xs p6→p6≤p+10→Blk w6 b1 cs z7→Blk w6 b2 jD0 z7→TmR (fun x=>G x∨w2.heap.size≤x) w6 cs t'→
   ze PP z7 (.pointer (some ⟨b1,0,none⟩)) w6 fun t56 w_13=>zr PP z7 (.pointer (some ⟨b2,0,none⟩)) t56 w_13 fun _ w_14=>vlv PP z7 (.pointer (some ⟨b2,0,none⟩)) w_14 fun r4 w_15=>K r4 w_15:=by
  intro w6 p6 cs t' hl hs hR hp6 hq hr hc
  rw[hq.ldAgg (t:=z7) (by rw[xG hc];exact zJ)]
  refine zv0 hr rfl hc (fun x hx e=>by rcases hx with hx|hx<;>first|(have:=hG1 x hx;omega)|omega) fun w7 hs7 hz7 ht7=>?_
  exact hK w7 p6 _ t' (same_new hs hs7 (by omega)) (hR.new hs7 (by omega) fun x hx e=>by have:=hF x hx;omega) hp6 (ht7.weaken fun x hx _=>hx.imp id fun h=>by omega) hl
 have hput:∀{w6:World} {p6:Nat} {i:Nat} {x:Value} {e:TypeId} {t':M.Tm} {cs':List Value},t'.ks.length≤t.ks.length+1→Same (· =b) w w6→RdR F w6 b v xs p6→p6≤p+10→Blk w6 b1 [.int .i64 t.op,.int .i64 t.a,.int .i64 t.b,.string t.s,kv] z7→Blk w6 b2 jD0 z7→x.cells= #[x]→x.oneCell'=true→j0 PP e 1=true→i<5→
   [.int .i64 t.op,.int .i64 t.a,.int .i64 t.b,.string t.s,kv].set i x=cs'→(∀w7,Same (· =b1) w6 w7→TmR (fun x=>G x∨w2.heap.size≤x) w7 cs' t')→
   zr PP e (.pointer (some ⟨b1,i,none⟩)) x w6 fun _ w_12=>ze PP z7 (.pointer (some ⟨b1,0,none⟩)) w_12 fun t56 w_13=>zr PP z7 (.pointer (some ⟨b2,0,none⟩)) t56 w_13 fun _ w_14=>vlv PP z7 (.pointer (some ⟨b2,0,none⟩)) w_14 fun r4 w_15=>K r4 w_15:=by
  intro w6 p6 i x e t' cs' hl hs hR hp6 hq hr hx1 hx2 hz hi hset hc
  refine hq.st hx1 hx2 hz (by simp[Nat.blt_eq];omega) fun w7 hs7 hz7 hq7=>?_
  rw[hset] at hq7
  exact hfin hl (same_new hs hs7 (by omega)) (hR.new hs7 (by omega) fun x hx e=>by have:=hF x hx;omega) hp6 hq7 (hr.same hs7 (by omega)) (hc w7 hs7)
 have hkeep:∀{w6 w7:World},TmsR G w6 kv t.ks→Same (· =b1) w6 w7→TmsR (fun x=>G x∨w2.heap.size≤x) w7 kv t.ks:=fun hk hs=>(hk.same hs fun x hx _ e=>by have:=hG1 x hx;omega).weaken fun x hx _=> .inl hx
 simp only[push_cast]
 refine zg (fun a0=>?_) (fun a0=>?_)
 ·refine num_lit (ns:=[0,18,28,3,16,25]) hR5 (by simp) (by decide) (by omega) fun w6 m hs6 hR6 hm=>?_
  try simp only[push_cast]
  exact hput (t':= .mk m t.a t.b t.s t.ks) (Nat.le_succ _) (hs05.trans hs6) hR6 (by omega) (q5.same hs6 (by omega)) (r5.same hs6 (by omega)) rfl rfl kO (by omega) rfl fun w7 hs7=>TmR.of (t:= .mk m t.a t.b t.s t.ks) (hkeep (hks5.same hs6 fun x hx _ e=>hG x hx e) hs7)
 refine zg (fun a1=>?_) (fun a1=>?_)
 ·refine zt fun w6 he6 _=>?_
  have q6:=q5.ext he6
  simp(disch:=(simp only[push_cast];done)) only[push_cast,q6.ld1,true_and]
  refine ints_lit (ns:=[1,-1]) (by decide) fun b7 w7 hb7 he7 hi7=>?_
  have q7:=q6.ext he7
  simp(disch:=(simp only[push_cast];done)) only[push_cast,q7.ld1,true_and,and_self]
  have hl6:=(hR5.ext he6).blk.lt
  refine num_spec ((hR5.ext he6).ext he7) hi7 (by simp) (by decide) (by omega) (fun x hx e=>by subst hx;omega) fun w8 m hs8 _ hR8 hm=>?_
  have q8:=q7.same hs8 (by omega)
  simp(disch:=(simp only[push_cast];done)) only[push_cast,q8.ld1,true_and,and_self]
  have hs08:=((hs05.trans (Same.of_ext he6)).trans (Same.of_ext he7)).trans hs8
  exact hput (t':= .mk t.op (IntKind.i64.wrap (t.a+m)) t.b t.s t.ks) (Nat.le_succ _) hs08 hR8 (by omega) q8 (((r5.ext he6).ext he7).same hs8 (by omega)) rfl rfl kO (by omega) rfl fun w9 hs9=>TmR.of (t:= .mk t.op (IntKind.i64.wrap (t.a+m)) t.b t.s t.ks) (hkeep (((hks5.ext he6).ext he7).same hs8 fun x hx _ e=>hG x hx e) hs9)
 refine zg (fun a2=>?_) (fun a2=>?_)
 ·refine zt fun w6 he6 _=>?_
  have q6:=q5.ext he6
  simp(disch:=(simp only[push_cast];done)) only[push_cast,q6.ld2,true_and]
  refine ints_lit (ns:=[1,-1,16]) (by decide) fun b7 w7 hb7 he7 hi7=>?_
  have q7:=q6.ext he7
  simp(disch:=(simp only[push_cast];done)) only[push_cast,q7.ld2,true_and,and_self]
  have hl6:=(hR5.ext he6).blk.lt
  refine num_spec ((hR5.ext he6).ext he7) hi7 (by simp) (by decide) (by omega) (fun x hx e=>by subst hx;omega) fun w8 m hs8 _ hR8 hm=>?_
  have q8:=q7.same hs8 (by omega)
  simp(disch:=(simp only[push_cast];done)) only[push_cast,q8.ld2,true_and,and_self]
  have hs08:=((hs05.trans (Same.of_ext he6)).trans (Same.of_ext he7)).trans hs8
  exact hput (t':= .mk t.op t.a (IntKind.i64.wrap (t.b+m)) t.s t.ks) (Nat.le_succ _) hs08 hR8 (by omega) q8 (((r5.ext he6).ext he7).same hs8 (by omega)) rfl rfl kO (by omega) rfl fun w9 hs9=>TmR.of (t:= .mk t.op t.a (IntKind.i64.wrap (t.b+m)) t.s t.ks) (hkeep (((hks5.ext he6).ext he7).same hs8 fun x hx _ e=>hG x hx e) hs9)
 refine zg (fun a3=>?_) (fun a3=>?_)
 ·exact hput (t':= .mk t.op t.a t.b ⟨#[113]⟩ t.ks) (Nat.le_succ _) hs05 hR5 (by omega) q5 r5 rfl rfl zj0 (by omega) rfl fun w9 hs9=>TmR.of (t:= .mk t.op t.a t.b ⟨#[113]⟩ t.ks) (hkeep hks5 hs9)
 refine zg (fun a4=>?_) (fun a4=>?_)
 ·refine q20 (G:=fun _=>False) (t0:= .mk 24 0 0 ⟨#[]⟩ []) (TmR.term (qU0 24 0 0 _)) fun w6 sa he6 hz6 hk6=>?_
  obtain⟨css1,hsl1,hcl1,hci1⟩:=hk6
  have hone1:∀y,y∈css1→∀c,c∈y→c.oneCell'=true:=fun y hy c hc=>by
   obtain⟨i,hi,rfl⟩:=List.getElem_of_mem hy
   have hq:=hci1 i (by omega)
   rw[List.getD_eq_getElem?_getD,List.getElem?_eq_getElem hi] at hq
   obtain⟨kv',he,hk'⟩:=hq.inv
   obtain⟨css',hs',_⟩:=hk'
   rw[show css1[i]=(some css1[i]).getD [] from rfl,he] at hc
   simp only[List.mem_cons,List.not_mem_nil,or_false] at hc
   rcases hc with rfl|rfl|rfl|rfl|rfl
   ·rfl
   ·rfl
   ·rfl
   ·rfl
   ·exact hs'.one
  have hl1:css1.length=1:=hcl1
  refine vappend VI (by decide) (ho5.ext he6) hsl1 hone1 (Nat.zero_le _) (by omega) (by omega) fun ov' w7 ho7 hw7 hn7=>?_
  have hs06:=hs05.trans (Same.of_ext he6)
  have hz06:=hs06.size
  have hs07:Same (· =b) w w7:=⟨hw7.os.trans hs06.os,hw7.tape.trans hs06.tape,hw7.output.trans hs06.output,Nat.le_trans hs06.size hw7.size,fun y hy hne=>by
   rw[hw7.block y (Nat.lt_of_lt_of_le hy hs06.size) (fun e=>by have:=hn y e;omega)];exact hs06.block y hy hne⟩
  have hR7:RdR F w7 b v xs _:=(hR5.ext he6).same hw7 (fun e=>by have:=hn b e;omega) fun y hy _ e=>by have:=hn y e;have:=hF y hy;omega
  have q7:=(q5.ext he6).same hw7 (fun e=>by have:=hn b1 e;omega)
  have r7:=(r5.ext he6).same hw7 (fun e=>by have:=hn b2 e;omega)
  have hn':∀x,ov'.ownBlock=some x→w2.heap.size≤x:=fun x hx=>by
   rcases hn7 x hx with hx|hx
   ·exact hn x hx
   ·omega
  have hk7:TmsR (fun x=>G x∨w2.heap.size≤x) w7 ov' (t.ks++[.mk 24 0 0 ⟨#[]⟩ []]):=by
   refine⟨css++css1,ho7.sl.weaken fun x hx _=> .inr (hn' x hx),by rw[List.length_append,List.length_append,hcl,hl1];rfl,fun i hi=>?_⟩
   rw[List.length_append] at hi
   by_cases hi2:i<t.ks.length
   ·rw[List.getD_eq_getElem?_getD,List.getElem?_append_left (by omega),←List.getD_eq_getElem?_getD,List.getD_eq_getElem?_getD (l:=t.ks++_),List.getElem?_append_left hi2,←List.getD_eq_getElem?_getD]
    exact(((((hci i hi2).same hw4' fun x hx _ e=>by have:=hG1 x hx;omega).same hs5 fun x hx _ e=>hG x hx e).ext he6).same hw7 fun x hx _ e=>by have:=hn x e;have:=hG1 x hx;omega).weaken fun x hx _=> .inl hx
   ·have hi3:i=t.ks.length:=by simp at hi;omega
    subst hi3
    rw[List.getD_eq_getElem?_getD,List.getElem?_append_right (by omega),←List.getD_eq_getElem?_getD,hcl,Nat.sub_self,List.getD_eq_getElem?_getD (l:=t.ks++_),List.getElem?_append_right (by omega),Nat.sub_self]
    have hx0:=hci1 0 (by simp)
    obtain⟨kv0,he0,hkk0⟩:=hx0.inv
    rw[he0]
    exact TmR.of (t:= .mk 24 0 0 ⟨#[]⟩ []) ((hkk0.same hw7 fun x hx hl e=>by
     rcases hx with hx|hx
     ·exact hx.elim
     ·have:=ho5.lt e
      omega).weaken fun x hx _=>by
     rcases hx with hx|hx
     ·exact hx.elim
     ·right;omega)
  have hone:ov'.cells= #[ov']∧ov'.oneCell'=true:=⟨ho7.sl.cells1,ho7.sl.one⟩
  try simp only[push_cast]
  exact hput (t':= .mk t.op t.a t.b t.s (t.ks++[.mk 24 0 0 ⟨#[]⟩ []])) (by show(t.ks++[_]).length≤_;rw[List.length_append];exact Nat.le_refl _) hs07 hR7 (by omega) q7 r7 hone.1 hone.2 yk0 (by omega) rfl fun w9 hs9=>TmR.of (t:= .mk t.op t.a t.b t.s (t.ks++[.mk 24 0 0 ⟨#[]⟩ []])) (hk7.same hs9 fun x hx _ e=>by
   rcases hx with hx|hx
   ·have:=hG1 x hx;omega
   ·omega)
 refine zg (fun a5=>?_) (fun a5=>?_)
 ·refine vloop_up 7 (fun i u w'=> ∃cs t',u=[.int .i64 i]∧Same (· =b) w w'∧RdR F w' b v xs (p+1)∧Blk w' b1 cs z7∧Blk w' b2 jD0 z7∧TmR (fun x=>G x∨w2.heap.size≤x) w' cs t'∧w2.heap.size≤w'.heap.size∧t'.ks.length≤t.ks.length+1) ⟨_,t,rfl,hs05,hR5,q5,r5,TmR.of (hks5.weaken fun x hx _=> .inl hx),by omega,by omega⟩ ?_
  rintro i _ _ w6 C hi ⟨cs,t',rfl,hs6,hR6,hq6,hr6,hc6,hz6,hl6⟩ hC
  simp only[push_cast]
  refine zg (fun c=>?_) (fun c=>?_)
  ·rw[hq6.ldAgg (t:=z7) (by rw[xG hc6];exact zJ)]
   refine q20 hc6.term fun w7 sa he7 hz7 hk7=>?_
   simp only[push_cast]
   have hk7':TmsR (fun x=>G x∨w2.heap.size≤x) w7 (.slice sa 1 1) [t']:=hk7.weaken fun x hx _=>by
    rcases hx with hx|hx
    ·exact hx
    ·right;omega
   have hc7:TmR (fun x=>G x∨w2.heap.size≤x) w7 [.int .i64 25,.int .i64 0,.int .i64 0,.string ⟨#[]⟩,.slice sa 1 1] (.mk 25 0 0 ⟨#[]⟩ [t']):=TmR.of (t:= .mk 25 0 0 ⟨#[]⟩ [t']) hk7'
   refine stTerm (hq6.ext he7) (xG hc6) hc7 fun w8 hs8 hz8 hq8=>?_
   try simp only[push_cast]
   rw[inc64' (by omega)]
   refine hC (by omega) _ _ ⟨_,_,rfl,same_new (hs6.trans (Same.of_ext he7)) hs8 (by omega),(hR6.ext he7).new hs8 (by omega) fun x hx e=>by have:=hF x hx;omega,hq8,(hr6.ext he7).same hs8 (by omega),hc7.same hs8 fun x hx _ e=>by
    rcases hx with hx|hx
    ·have:=hG1 x hx;omega
    ·omega,by omega,by show 1≤_;omega⟩
  ·exact hfin hl6 hs6 hR6 (by omega) hq6 hr6 hc6
 ·exact hfin (Nat.le_succ _) hs05 hR5 (by omega) q5 r5 (TmR.of (t:=t) (hks5.weaken fun x hx _=> .inl hx))
end Go.Proofs.YtaekfnbnhjgboaaGreatDoor
end
section
namespace Go.Proofs.YtaekfnbnhjgboaaGreatDoor
open Go Go.Vc Go.Proofs
variable {w:World} {K:Value→World→Prop} {F F' D G:Nat→Prop}
theorem l2Draw_spec {b p:Nat} {v:Value} {xs:List Nat} (h:RdR F w b v xs p) (hF:∀x,F x→x<w.heap.size) (hp:p+300000<1099511627776)
  (hK:∀w' p' dv tv ds t,Same (· =b) w w'→RdR F w' b v xs p'→p'≤p+300000→DclsR (fun x=>w.heap.size≤x) w' dv ds→Dsm ds→TermR (fun x=>w.heap.size≤x) w' tv t→K (.tuple #[dv,tv]) w'):vcall PP YH #[.pointer (some ⟨b,0,none⟩)] w K:=by
 apply y10;unfold KK
 have lb:=h.blk.lt
 refine zD yw fun b1 w1 hb1 he1 hs1 h1=>?_
 have hR1:=h.ext he1
 have hz1:=he1.size
 refine yx0 hR1 (fun x hx=>by have:=hF x hx;omega) (by omega) fun w2 p2 dv ds hs2 hR2 hp2 hd2 hok=>?_
 have h2:=h1.same hs2 (by omega)
 have hz2:=hs2.size
 have hd2':=hd2.weaken (F':=fun x=>w1.heap.size≤x∧x<w2.heap.size) fun x hx hl=>⟨hx,hl⟩
 refine ints_lit (ns:=[0,0,0,1,2,3,4]) (by decide) fun b3 w3 hb3 he3 hi3=>?_
 have hz3:=he3.size
 refine num_spec (hR2.ext he3) hi3 (by simp) (by decide) (by omega) (fun x hx e=>by subst hx;omega) fun w4 m hs4 hz4 hR4 hm=>?_
 have hm4:0≤m∧m≤4:=by
  simp only[List.mem_cons,List.not_mem_nil,or_false] at hm
  omega
 have hd4:=(hd2'.ext he3).same hs4 fun x hx _ e=>by omega
 have h4:=(h2.ext he3).same hs4 (by omega)
 refine l2Some_spec hR4 (fun x hx=>by have:=hF x hx;omega) hd4 (fun x hx e=>by omega) (fun x hx=>by omega) hok hm4.1 hm4.2 (by omega) fun w5 p5 tv t hs5 hR5 hp5 ht5 hk3=>?_
 have hd5:=hd4.same hs5 fun x hx _ e=>by omega
 have h5:=h4.same hs5 (by omega)
 have hz5:=hs5.size
 obtain⟨cs,rfl,hcs5⟩:=ht5.cells
 have hcs5':=hcs5.weaken (F':=fun x=>w4.heap.size≤x∧x<w5.heap.size) fun x hx hl=>⟨hx,hl⟩
 refine zD yw fun b6 w6 hb6 he6 hs6 h6=>?_
 refine stTerm h6 rfl (hcs5'.ext he6) fun w7 hw7 hz7 h7=>?_
 have he7:Ext w5 w7:=Ext.then he6 hw7 fun y hy=>by subst hy;omega
 refine zt fun w8 he8 _=>?_
 have hz8:=he8.size
 have hz7':=he7.size
 have h8:=h7.ext he8
 have hg:aggB PP z7 cs.length=true:=by rw[xG hcs5];exact zJ
 rw[h8.ldAgg (t:=z7) hg]
 refine⟨rfl,?_⟩
 have hR8:=(hR5.ext he7).ext he8
 have hd8:=(hd5.ext he7).ext he8
 have hc8:=(hcs5'.ext he7).ext he8
 have hsz8:w.heap.size≤w8.heap.size:=by omega
 refine l2Spoil_spec hR8 (fun x hx=>by have:=hF x hx;omega) hd8 (fun x hx e=>by omega) (fun x hx=>by omega) hok (by omega) fun w9 p9 dv' ds' hs9 hR9 hp9 hd9 hok9=>?_
 have h9:=h8.same hs9 (by omega)
 rw[h9.ldAgg (t:=z7) hg]
 refine⟨⟨rfl,rfl⟩,?_⟩
 have hz9:=hs9.size
 have hc9:=hc8.same hs9 fun x hx _ e=>by omega
 refine l2Bent_spec hR9 (fun x hx=>by have:=hF x hx;omega) hc9.term (fun x hx e=>by omega) (fun x hx=>by omega) (by omega) (by omega) fun w10 p10 tv' t' hs10 hR10 hp10 ht10 _=>?_
 have hd10:=hd9.same hs10 fun x hx _ e=>by omega
 have h10:=(((h5.ext he7).ext he8).same hs9 (by omega)).same hs10 (by omega)
 obtain⟨cs',rfl,hcs10⟩:=ht10.cells
 have hs010:Same (· =b) w w10:=((((((Same.of_ext he1).trans hs2).trans (Same.of_ext he3)).trans hs4).trans hs5).trans (Same.of_ext (he7.trans he8))).trans (hs9.trans hs10)
 have hz10:=hs10.size
 refine stTerm h10 rfl hcs10 fun w11 hw11 hz11 h11=>?_
 rw[h11.lv (by rw[xG hcs10];exact zJ)]
 refine hK w11 p10 dv' _ ds' t' (same_new hs010 hw11 (by omega)) (hR10.new hw11 (by omega) fun x hx e=>by have:=hF x hx;omega) (by omega) ((hd10.same hw11 fun x hx _ e=>by omega).weaken fun x hx _=>by omega) hok9 ((hcs10.same hw11 fun x hx _ e=>by omega).term.weaken fun x hx _=>by omega)
end Go.Proofs.YtaekfnbnhjgboaaGreatDoor
end
section
namespace Go.Proofs.YtaekfnbnhjgboaaGreatDoor
open Go Go.Vc Go.Proofs
variable {w:World} {K:Value→World→Prop} {F F' D G:Nat→Prop}
theorem Bytes.below {v:Value} {xs:List Nat} (h:Bytes F w v xs):Bytes (fun b=>b<w.heap.size) w v xs:=⟨h.1.weaken fun _ _ hl=>hl,h.2⟩
end Go.Proofs.YtaekfnbnhjgboaaGreatDoor
end
section
namespace Go.Proofs.YtaekfnbnhjgboaaGreatDoor
open Go Go.Vc Go.Proofs
variable {w:World} {K:Value→World→Prop} {F F' D G:Nat→Prop}
abbrev ZE0 (o:Int) (ks:List M.Tm):M.Tm:= .mk o 0 0 M.nada ks
theorem qK0 {o:Int} {a:Option Addr} {l c:Nat} {ks:List M.Tm} (h:TmsR F w (.slice a l c) ks):TermR F w (.agg ⟨[.int .i64 o,.int .i64 0,.int .i64 0,.string ⟨#[]⟩,.slice a l c]⟩) (ZE0 o ks):=⟨_,rfl,h⟩
theorem ys0 {o:Int}:TermR F w (.agg ⟨[.int .i64 o,.int .i64 0,.int .i64 0,.string ⟨#[]⟩,.slice none 0 0]⟩) (ZE0 o []):=qK0 TmsR.nil
end Go.Proofs.YtaekfnbnhjgboaaGreatDoor
end
