import Derived.Test.YtaekfnbnhjgboaaGreatDoorWubP7
import Derived.Test.YtaekfnbnhjgboaaGreatDoorWubP5
import Derived.Test.YtaekfnbnhjgboaaGreatDoorWubP2
import Derived.WalkKit
import Derived.ProofKit
import Derived.OpenShut
import Derived.ShutString
import Derived.ChangeOld
import Derived.Below
import Derived.JoinedOf
import Derived.Deep.Slices
import Derived.Test.YtaekfnbnhjgboaaGreatDoorWubP6
/- A part of the proof. -/
set_option linter.unusedVariables false
set_option linter.unusedSimpArgs false
set_option linter.unnecessarySimpa false
set_option linter.unusedSectionVars false
section
namespace Go.Proofs.YtaekfnbnhjgboaaGreatDoor
open Go Go.Vc Go.Proofs
variable {w:World} {K:Value→World→Prop} {F G:Nat→Prop}
theorem dw_nil {α:Type} {p:α→Bool}:∀{l:List α},l.dropWhile p=[]↔ ∀x,x∈l→p x=true
 |[]=>by simp
 |a::l=>by
  rw[List.dropWhile_cons]
  split
  ·rename_i h
   rw[dw_nil]
   constructor
   ·intro hl x hx
    rcases List.mem_cons.1 hx with rfl|hx
    ·exact h
    ·exact hl x hx
   ·intro hl x hx;exact hl x (List.mem_cons_of_mem _ hx)
  ·rename_i h
   constructor
   ·intro hl;cases hl
   ·intro hl;exact absurd (hl a List.mem_cons_self) h
theorem dw_head {α:Type} {p:α→Bool}:∀{l:List α},l.dropWhile p≠[]→∃x,x∈l.dropWhile p∧p x=false
 |[],h=>absurd rfl h
 |a::l,h=>by
  rw[List.dropWhile_cons] at h⊢
  split
  ·rename_i hp
   rw[if_pos hp] at h
   exact dw_head h
  ·rename_i hp
   exact⟨a,List.mem_cons_self,by simpa using hp⟩
theorem dw_sub {α:Type} {p:α→Bool}:∀{l:List α} {x:α},x∈l.dropWhile p→x∈l
 |[],_,h=>h
 |a::l,x,h=>by
  rw[List.dropWhile_cons] at h
  split at h
  ·exact List.mem_cons_of_mem _ (dw_sub h)
  ·exact h
theorem kY0 {l cs:List UInt8}:Lib.trimS l cs=[]↔ ∀x,x∈l→cs.contains x=true:=by
 unfold Lib.trimS Lib.trimLeftS Lib.trimRightS
 rw[dw_nil]
 constructor
 ·intro h
  by_cases hall:∀x,x∈l→cs.contains x=true
  ·exact hall
  ·exfalso
   have hne:List.dropWhile (fun x=>cs.contains x) l.reverse≠[]:=fun e=>hall fun x hx=>dw_nil.1 e x (List.mem_reverse.2 hx)
   obtain⟨y,hy,hp⟩:=dw_head hne
   have h2:=h y (List.mem_reverse.2 hy)
   rw[hp] at h2;cases h2
 ·intro h x hx
  exact h x (List.mem_reverse.1 (dw_sub (List.mem_reverse.1 hx)))
def abc:ByteArray:=⟨#[97,98,99,100,101,102,103,104,105,106,107,108,109,110,111,112,113,114,115,116,117,118,119,120,121,122]⟩
theorem abc_in (x:UInt8):abc.data.toList.contains x=(decide (97≤x.toNat)&&decide (x.toNat≤122)):=by
 have hall:∀n:Fin 256,abc.data.toList.contains (UInt8.ofNat n.1)=(decide (97≤(UInt8.ofNat n.1).toNat)&&decide ((UInt8.ofNat n.1).toNat≤122)):=by decide+kernel
 have:=hall ⟨x.toNat,x.toNat_lt⟩
 simpa using this
theorem q30 {w w':World} (h:Go.RowKit.Below w.heap.size w w'):Ext w w':=⟨h.os,h.tape,h.output,h.size,fun b hb _=>h.block b hb⟩
def xm0 (s:ByteArray):Bool:=s.data.all fun c=>decide (97≤c.toNat)&&decide (c.toNat≤122)
theorem kl0 {s:ByteArray} (hs:s.size≤9223372036854775807) (hK:∀w' r,Ext w w'→(r=⟨#[]⟩↔xm0 s=true)→K (.string r) w'):vcall PP Jf #[.string s,.string abc] w K:=by
 refine⟨by kernel_rfl,?_⟩
 refine(Any.strings_Trim_laid YtaekfnbnhjgboaaGreatDoor.trimL (by kernel_rfl) s abc w hs (by decide) (ascii_of_all (by decide))).mono ?_
 rintro e w' ⟨rfl,hb⟩
 refine hK w' _ (q30 hb) ?_
 have e1:((⟨(Lib.trimS s.data.toList abc.data.toList).toArray⟩:ByteArray)=⟨#[]⟩)↔Lib.trimS s.data.toList abc.data.toList=[]:=by
  constructor
  ·intro h
   have h2:=congrArg (fun b:ByteArray=>b.data.toList) h
   simpa using h2
  ·intro h;rw[h]
 rw[e1,kY0]
 unfold xm0
 rw[Array.all_eq_true_iff_forall_mem]
 constructor
 ·intro h x hx
  rw[←abc_in];exact h x (Array.mem_toList_iff.2 hx)
 ·intro h x hx
  rw[abc_in];exact h x (Array.mem_toList_iff.1 hx)
theorem stDecl {b:Nat} {x y:Value} {t:TypeId} {s:ByteArray} {n:Int} (h:Blk w b [x,y] t) (hK:∀w',Same (· =b) w w'→w'.heap.size=w.heap.size→Blk w' b [.string s,.int .i64 n] t→K undef w'):zq PP zx (.pointer (some ⟨b,0,none⟩)) (.agg ⟨[.string s,.int .i64 n]⟩) w K:=
 h.stAgg rfl (by kernel_rfl) (by intro v hv;simp only[List.mem_cons,List.not_mem_nil,or_false] at hv;rcases hv with rfl|rfl<;>rfl) hK
theorem XG (s:ByteArray):M.nameOk s=(decide (1≤s.size)&&decide (s.size≤4)&&decide (s≠M.tru)&&xm0 s):=rfl
theorem DeclOk_spec {v:Value} {ds:List M.Dcl} (hd:DclsR F w v ds) (hK:∀w',Ext w w'→K (.bool (M.declOk ds)) w'):vcall PP X7 #[v] w K:=by
 apply x40;unfold VH
 simp(disch:=(simp only[push_cast];done)) only[push_cast,hd.len]
 refine zh (fun a=>?_) (fun a=>?_)
 ·have:=hK w (Same.refl _ _)
  rwa[show M.declOk ds=false from by rw[Bool.eq_false_iff];intro h;have:=(M.decl_iff.1 h).1;omega] at this
 refine vloop_up ds.length (fun i u w'=>u=[.int .i64 (M.bitT ds i),.int .i64 i]∧Ext w w'∧(∀j,j<i→M.dclOk ds j=true)∧ -4*(i:Int)≤M.bitT ds i∧M.bitT ds i≤4*i) ⟨rfl,Same.refl _ _,by omega,by simp[M.bitT],by simp[M.bitT]⟩ ?_
 rintro i _ _ w1 C hi ⟨rfl,he1,hall,hb1,hb2⟩ hC
 have hd1:=hd.ext he1
 simp only[push_cast]
 refine zh (fun b=>?_) (fun b=>?_)
 ·have hil:i<ds.length:=by omega
  have hno:M.dclOk ds i=false→∀w',Ext w w'→K (.bool false) w':=fun e w' he=>by
   have:=hK w' he
   rwa[show M.declOk ds=false from by rw[Bool.eq_false_iff];intro h;have:=(M.decl_iff.1 h).2.1 i hil;rw[e] at this;cases this] at this
  unfold M.dclOk at hno
  rw[XG] at hno
  simp(disch:=first|(simp only[push_cast];done)|omega) only[push_cast,hd1.iaddr,hd1.load]
  obtain⟨s,n,hsn⟩:∃s n,ds.getD i qK0=(s,n):=⟨_,_,rfl⟩
  simp only[hsn] at hno⊢
  refine zE ji fun b1 w2 hb1' he2 hs2 h2=>?_
  refine stDecl h2 fun w3 hw3 _ h3=>?_
  have hz1:=he1.size
  have he3:Ext w w3:=Ext.then (he1.trans he2) hw3 fun y hy=>by subst hy;omega
  refine zX (fun u w'=>u=[]∧Ext w3 w'∧M.nameOk s=true) (fun C' hC'=>?_) ?_
  ·simp(disch:=first|(simp only[push_cast];done)|omega) only[push_cast,h3.ld0,Ku Yp]
   refine zh (fun c=>?_) (fun c=>?_)
   ·exact hno (by rw[decide_eq_false (show¬1≤s.size by omega)];simp) _ he3
   refine zh (fun c2=>?_) (fun c2=>?_)
   ·exact hno (by rw[decide_eq_false (show¬s.size≤4 by omega)];simp) _ he3
   refine zh (fun c3=>?_) (fun c3=>?_)
   ·exact hno (by rw[show decide (s≠M.tru)=false from decide_eq_false (fun h=>h c3)];simp) _ he3
   refine kl0 (by omega) fun w4 r he4 hr=>?_
   simp only[push_cast]
   refine zh (fun c4=>?_) (fun c4=>?_)
   ·have:xm0 s=false:=by
     rw[Bool.eq_false_iff];exact fun h=>c4 (hr.2 h)
    exact hno (by rw[this];simp) _ (he3.trans he4)
   ·have c4':r=⟨#[]⟩:=by
     by_cases h:r=⟨#[]⟩
     ·exact h
     ·exact absurd h c4
    refine hC' _ _ ⟨rfl,he4,?_⟩
    rw[XG,decide_eq_true (show 1≤s.size by omega),decide_eq_true (show s.size≤4 by omega),show decide (s≠M.tru)=true from decide_eq_true c3,hr.1 c4']
    rfl
  ·rintro u g w4 ⟨rfl,he4,hnm⟩
   have h4:=h3.ext he4
   have hE4:=he3.trans he4
   have hd4:=hd.ext hE4
   rw[XG] at hnm
   rw[hnm] at hno
   rw[hd4.cut (by intro e;subst e;simp at hil) (by kernel_rfl) (by omega)]
   simp only[push_cast]
   have hlt:(ds.take i).length=i:=by rw[List.length_take];omega
   refine Wj (p:=fun j=>decide (((ds.take i).getD j qK0).1=s)) (hd4.taken (by omega)) (fun j hj=>?_) fun w5 he5=>?_
   ·intro w' K he hK
    simp only[push_cast]
    apply UR;unfold Qp
    refine zu fun b3 w6 hb3 he6 hs6 h6=>?_
    have h7:=(h4.ext he).ext he6
    simp(disch:=first|(simp only[push_cast];done)|omega) only[push_cast,h6.ld0,h7.ld0]
    exact hK _ he6
   ·rw[←JZ]
    have h5:=h4.ext he5
    have efd:idxI (ds.take i).length (fun j=>decide (((ds.take i).getD j qK0).1=s))=M.findD (ds.take i) s:=rfl
    rw[efd]
    refine zh (fun c=>?_) (fun c=>?_)
    ·exact hno (by rw[decide_eq_false (show¬M.findD (ds.take i) s<0 by omega)];simp) _ (hE4.trans he5)
    simp(disch:=first|(simp only[push_cast];done)|omega) only[push_cast,h5.ld1]
    refine zh (fun c1=>?_) (fun c1=>?_)
    ·exact hno (by rw[decide_eq_false (show¬1≤n by omega)];simp) _ (hE4.trans he5)
    refine zh (fun c2=>?_) (fun c2=>?_)
    ·exact hno (by rw[decide_eq_false (show¬n≤4 by omega)];simp) _ (hE4.trans he5)
    have hsuc:=M.bitT_succ hil
    rw[show ds.getD i (M.nada,0)=(s,n) from hsn] at hsuc
    rw[zF (x:=M.bitT ds i+n) (by omega) (by omega),inc64' (by omega),show M.bitT ds i+n=M.bitT ds (i+1) from hsuc.symm]
    refine hC (by omega) _ _ ⟨rfl,hE4.trans he5,fun j hj=>?_,by omega,by omega⟩
    by_cases e:j=i
    ·subst e
     unfold M.dclOk
     rw[show ds.getD j (M.nada,0)=(s,n) from hsn,XG,hnm]
     simp only[Bool.true_and,Bool.and_eq_true,decide_eq_true_eq]
     exact⟨⟨by omega,by omega⟩,by omega⟩
    ·exact hall j (by omega)
 ·have hi':i=ds.length:=by omega
  subst hi'
  have:=hK w1 he1
  rw[M.bitT_all]
  have e:M.declOk ds=decide (M.bits ds≤8):=by
   rw[Bool.eq_iff_iff,M.decl_iff,decide_eq_true_eq]
   exact⟨fun h=>h.2.2,fun h=>⟨by omega,hall,h⟩⟩
  rwa[e] at this
theorem TermSort_spec {dv v:Value} {ds:List M.Dcl} {t:M.Tm} (hd:DclsR F w dv ds) (ht:TermR G w v t) (hK:∀w',Ext w w'→K (.int .i64 (M.tsort ds t)) w'):vcall PP Zj #[dv,v] w K:=by
 apply UP;unfold Qn
 obtain⟨cs,rfl,hcs⟩:=ht.cells
 refine zu fun b1 w1 hb1 he1 hs1 h1=>?_
 rw[h1.ldAgg (t:=zb) (by rw[qu hcs];exact zQ)]
 refine TermMany_spec (hcs.ext he1).term fun w2 he2=>?_
 simp only[push_cast]
 have hE2:=he1.trans he2
 refine DeclOk_spec (hd.ext hE2) fun w3 he3=>?_
 have hE3:=hE2.trans he3
 have hk:=hK w3 hE3
 unfold M.tsort at hk
 simp only[push_cast]
 refine xl (fun a=>?_) (fun a=>?_)
 ·rwa[if_neg (fun h=>by rw[h.2] at a;cases a)] at hk
 ·rw[Bool.not_eq_false'] at a
  refine zh (fun b=>?_) (fun b=>?_)
  ·rw[if_neg (fun h=>by
    have h1:=M.fits_iff.1 h.1
    unfold M.manyM at b
    rw[if_pos h.1] at b;omega)] at hk
   exact hk
  ·have hf:M.fits t=true:=by
    by_cases h:M.fits t=true
    ·exact h
    ·unfold M.manyM at b
     rw[if_neg h] at b;omega
   refine zr fun w4 he4 _=>?_
   have h4:=((h1.ext he2).ext he3).ext he4
   rw[h4.ldAgg (t:=zb) (by rw[qu hcs];exact zQ)]
   refine⟨rfl,qX0 fun w5 mb he5 hm=>?_⟩
   have h5:=h4.ext he5
   rw[h5.ldAgg (t:=zb) (by rw[qu hcs];exact zQ)]
   have hE5:=(hE3.trans he4).trans he5
   refine⟨⟨rfl,rfl⟩,sortOf_spec t hm (hd.ext hE5) a (hcs.ext hE5).term fun w6 he6=>?_⟩
   have:=hK w6 (hE5.trans he6)
   unfold M.tsort at this
   rwa[if_pos ⟨hf,a⟩] at this
end Go.Proofs.YtaekfnbnhjgboaaGreatDoor
end
section
namespace Go.Proofs.YtaekfnbnhjgboaaGreatDoor
open Go Go.Vc Go.Proofs
variable {w:World} {K:Value→World→Prop} {F G:Nat→Prop}
theorem l2Name_spec {s:ByteArray} (hs:s.size≤9223372036854775807) (hK:K (.bool (M.nameOk s)) w):vcall PP YX #[.string s] w K:=by
 apply yL0;unfold Vn
 rw[XG] at hK
 refine vloop_up s.size (fun i u w'=>u=[.int .i64 i]∧w'=w∧∀j,j<i→(decide (97≤(s.data.getD j 0).toNat)&&decide ((s.data.getD j 0).toNat≤122))=true) ⟨rfl,rfl,by omega⟩ ?_
 rintro i _ _ w1 C hi ⟨rfl,rfl,hall⟩ hC
 simp(disch:=first|(simp only[push_cast];done)|omega) only[push_cast,Ku Yp]
 have hno:i<s.size→(decide (97≤(s.data.getD i 0).toNat)&&decide ((s.data.getD i 0).toNat≤122))=false→xm0 s=false:=fun hlt h=>by
  rw[Bool.eq_false_iff]
  intro hl
  unfold xm0 at hl
  rw[Array.all_eq_true_iff_forall_mem] at hl
  have hd:i<s.data.size:=hlt
  have:=hl (s.data.getD i 0) (by rw[Array.getD_eq_getD_getElem?,Array.getElem?_eq_getElem hd];exact Array.getElem_mem hd)
  rw[h] at this;cases this
 refine zh (fun a=>?_) (fun a=>?_)
 ·have hlt:i<s.size:=by omega
  rw[vindex_str Yp (by omega) (by omega),Int.toNat_natCast]
  simp only[push_cast]
  refine zh (fun b=>?_) (fun b=>?_)
  ·rw[hno hlt (by rw[decide_eq_false (show¬97≤(s.data.getD i 0).toNat by omega)];rfl),Bool.and_false] at hK
   exact hK
  rw[vindex_str Yp (by omega) (by omega),Int.toNat_natCast]
  simp only[push_cast]
  refine zh (fun c=>?_) (fun c=>?_)
  ·rw[hno hlt (by rw[decide_eq_false (show¬(s.data.getD i 0).toNat≤122 by omega)];simp),Bool.and_false] at hK
   exact hK
  rw[inc64' (by omega)]
  refine hC hlt _ _ ⟨rfl,rfl,fun j hj=>?_⟩
  by_cases e:j=i
  ·subst e
   simp only[Bool.and_eq_true,decide_eq_true_eq];omega
  ·exact hall j (by omega)
 ·have hi':i=s.size:=by omega
  have hl:xm0 s=true:=by
   unfold xm0
   rw[Array.all_eq_true_iff_forall_mem]
   intro x hx
   obtain⟨j,hj,rfl⟩:=Array.getElem_of_mem hx
   have:=hall j (by have:s.data.size=s.size:=rfl;omega)
   rwa[Array.getD_eq_getD_getElem?,Array.getElem?_eq_getElem hj] at this
  rw[hl,Bool.and_true] at hK
  try simp(disch:=first|(simp only[push_cast];done)|omega) only[push_cast,Ku Yp]
  refine zh (fun b=>?_) (fun b=>?_)
  ·refine zh (fun c=>?_) (fun c=>?_)
   ·rw[decide_eq_true (show 1≤s.size by omega),decide_eq_true (show s.size≤4 by omega)] at hK
    exact hK
   ·rw[decide_eq_false (show¬s.size≤4 by omega)] at hK
    simpa using hK
  ·rw[decide_eq_false (show¬1≤s.size by omega)] at hK
   simpa using hK
theorem l2Find_spec {v:Value} {ds:List M.Dcl} {s:ByteArray} (hd:DclsR F w v ds) (hK:K (.int .i64 (M.findD ds s)) w):vcall PP jt #[v,.string s] w K:=by
 apply yM0;unfold Vo
 have hsm:=hd.small
 refine vloop_up ds.length (fun i u w'=>u=[.int .i64 i]∧w'=w∧∀j,j<i→(ds.getD j qK0).1≠s) ⟨rfl,rfl,by omega⟩ ?_
 rintro i _ _ w1 C hi ⟨rfl,rfl,hall⟩ hC
 simp(disch:=(simp only[push_cast];done)) only[push_cast,hd.len]
 refine zh (fun a=>?_) (fun a=>?_)
 ·try simp(disch:=first|(simp only[push_cast];done)|omega) only[push_cast,hd.iaddr]
  try simp(disch:=first|(simp only[push_cast];done)|omega) only[push_cast,hd.load0]
  refine zh (fun b=>?_) (fun b=>?_)
  ·rw[M.findD_of (by omega) b hall] at hK
   exact hK
  ·rw[inc64' (by omega)]
   refine hC (by omega) _ _ ⟨rfl,rfl,fun j hj=>?_⟩
   by_cases e:j=i
   ·subst e;exact b
   ·exact hall j (by omega)
 ·rw[M.findD_none (fun j hj=>hall j (by omega))] at hK
  exact hK
theorem spec_DeclOk_spec {v:Value} {ds:List M.Dcl} (hd:DclsR F w v ds) (hsz:∀i,i<ds.length→(ds.getD i qK0).1.size≤9223372036854775807) (hK:∀w',Ext w w'→K (.bool (M.declOk ds)) w'):vcall PP YZ #[v] w K:=by
 apply yO0;unfold Vq
 simp(disch:=(simp only[push_cast];done)) only[push_cast,hd.len]
 refine zh (fun a=>?_) (fun a=>?_)
 ·have:=hK w (Same.refl _ _)
  rwa[show M.declOk ds=false from by rw[Bool.eq_false_iff];intro h;have:=(M.decl_iff.1 h).1;omega] at this
 refine vloop_up ds.length (fun i u w'=>u=[.int .i64 (M.bitT ds i),.int .i64 i]∧Ext w w'∧(∀j,j<i→M.dclOk ds j=true)∧ -4*(i:Int)≤M.bitT ds i∧M.bitT ds i≤4*i) ⟨rfl,Same.refl _ _,by omega,by simp[M.bitT],by simp[M.bitT]⟩ ?_
 rintro i _ _ w1 C hi ⟨rfl,he1,hall,hb1,hb2⟩ hC
 have hd1:=hd.ext he1
 simp(disch:=(simp only[push_cast];done)) only[push_cast,hd1.len]
 refine zh (fun b=>?_) (fun b=>?_)
 ·have hil:i<ds.length:=by omega
  have hno:M.dclOk ds i=false→∀w',Ext w w'→K (.bool false) w':=fun e w' he=>by
   have:=hK w' he
   rwa[show M.declOk ds=false from by rw[Bool.eq_false_iff];intro h;have:=(M.decl_iff.1 h).2.1 i hil;rw[e] at this;cases this] at this
  unfold M.dclOk at hno
  refine zr fun w2 he2 _=>?_
  have hd2:=hd1.ext he2
  have hE2:=he1.trans he2
  simp(disch:=first|(simp only[push_cast];done)|omega) only[push_cast,hd2.iaddr,true_and]
  simp(disch:=first|(simp only[push_cast];done)|omega) only[push_cast,hd2.load0,hd2.load1,true_and]
  have hsi:=hsz i hil
  have hsuc:=M.bitT_succ hil
  obtain⟨s,n,hsn⟩:∃s n,ds.getD i qK0=(s,n):=⟨_,_,rfl⟩
  rw[show ds.getD i (M.nada,0)=(s,n) from hsn] at hsuc
  simp only[hsn] at hno hsi⊢
  refine l2Name_spec hsi ?_
  simp only[push_cast,true_and]
  refine xl (fun c=>?_) (fun c=>?_)
  ·exact hno (by rw[show M.nameOk s=false by simpa using c];simp) _ hE2
  rw[Bool.not_eq_false'] at c
  rw[c] at hno
  have ecut:∀(w:World) (K:Value→World→Prop),yq PP zC v none (some (.int .i64 (i:Int))) none w K=K (cutV v i) w:=fun w K=>hd2.cut (by intro e;subst e;simp at hil) (by kernel_rfl) (by omega)
  have el0:∀(K:Value→World→Prop),ze PP zB (.pointer (some ((eaddr v 2 i).add 0))) w2 K=K (.string s) w2:=fun K=>by rw[hd2.load0 Za0 hil,hsn]
  have el1:∀(K:Value→World→Prop),ze PP zd (.pointer (some ((eaddr v 2 i).add 1))) w2 K=K (.int .i64 n) w2:=fun K=>by rw[hd2.load1 xh0 hil,hsn]
  try simp(disch:=first|(simp only[push_cast];done)|omega) only[push_cast,hd2.iaddr,true_and]
  try simp(disch:=first|(simp only[push_cast];done)|omega) only[push_cast,hd2.iaddr,el0,el1,ecut,true_and]
  refine zh (fun c1=>?_) (fun c1=>?_)
  ·exact hno (by rw[decide_eq_false (show¬1≤n by omega)];simp) _ hE2
  refine zh (fun c2=>?_) (fun c2=>?_)
  ·exact hno (by rw[decide_eq_false (show¬n≤4 by omega)];simp) _ hE2
  refine l2Find_spec (hd2.taken (by omega)) ?_
  simp only[push_cast,true_and]
  refine zh (fun c3=>?_) (fun c3=>?_)
  ·exact hno (by rw[decide_eq_false (show¬M.findD (ds.take i) s<0 by omega)];simp) _ hE2
  try simp(disch:=first|(simp only[push_cast];done)|omega) only[push_cast,hd2.iaddr]
  try simp(disch:=first|(simp only[push_cast];done)|omega) only[push_cast,el1]
  rw[zF (x:=M.bitT ds i+n) (by omega) (by omega),inc64' (by omega),show M.bitT ds i+n=M.bitT ds (i+1) from hsuc.symm]
  refine hC (by omega) _ _ ⟨rfl,hE2,fun j hj=>?_,by omega,by omega⟩
  by_cases e:j=i
  ·subst e
   unfold M.dclOk
   rw[show ds.getD j (M.nada,0)=(s,n) from hsn,c]
   simp only[Bool.true_and,Bool.and_eq_true,decide_eq_true_eq]
   exact⟨⟨by omega,by omega⟩,by omega⟩
  ·exact hall j (by omega)
 ·have hi':i=ds.length:=by omega
  subst hi'
  have:=hK w1 he1
  rw[M.bitT_all]
  have e:M.declOk ds=decide (M.bits ds≤8):=by
   rw[Bool.eq_iff_iff,M.decl_iff,decide_eq_true_eq]
   exact⟨fun h=>h.2.2,fun h=>⟨by omega,hall,h⟩⟩
  rwa[e] at this
theorem spec_TermMany_spec:∀(t:M.Tm) {w:World} {K:Value→World→Prop} {F:Nat→Prop} {v:Value},TermR F w v t→(∀w',Ext w w'→K (.tuple #[.int .i64 (M.manyM t),.int .i64 (M.lvlM t)]) w')→vcall PP ju #[v] w K:=by
 refine M.Tm.ind fun t ih w K F v ht hK=>?_
 apply UG;unfold Qf
 obtain⟨ksv,rfl,hks⟩:=ht
 refine zu fun b1 w1 hb1 he1 hs1 h1=>?_
 have hsm:=hks.small
 have hS:=M.szT_all t
 have hD:=M.dpT_all t
 have hfit:M.fits t=true↔M.sizeM t≤20∧M.deepM t≤7:=M.fits_iff
 refine vloop_up t.ks.length (fun i u w'=> ∃n d:Nat,u=[.int .i64 n,.int .i64 d,.int .i64 i]∧Ext w1 w'∧n≤41∧d≤8∧(1+M.szT t.ks i≤20∧M.dpT t.ks i≤7→n=1+M.szT t.ks i∧d=M.dpT t.ks i)∧(¬(1+M.szT t.ks i≤20∧M.dpT t.ks i≤7)→20<n∨7<d))
  ⟨1,0,rfl,Same.refl _ _,by omega,by omega,fun h=>⟨rfl,rfl⟩,fun h=>by
   have e1:M.szT t.ks 0=0:=rfl
   have e2:M.dpT t.ks 0=0:=rfl
   omega⟩ ?_
 rintro i _ _ w2 C hi ⟨n,d,rfl,he2,c1,c2,c3,c4⟩ hC
 have h2:=h1.ext he2
 have hE:=he1.trans he2
 have hks2:=hks.ext hE
 have hm1:=M.szT_mono (ks:=t.ks) (i:=i) (j:=t.ks.length) (by omega) (Nat.le_refl _)
 have hm2:=M.dpT_mono (ks:=t.ks) (i:=i) (j:=t.ks.length) (by omega) (Nat.le_refl _)
 have e1:IntKind.i64.wrap ((d:Int)+1)=((d+1:Nat):Int):=inc64' (by omega)
 have hfin:(20<n∨i=t.ks.length)→∀K',(K'=K)→vif (.bool (decide ((20:Int)<n))) (K' (.tuple #[.int .i64 21,.int .i64 8]) w2) (vif (.bool (decide ((7:Int)<((d+1:Nat):Int)))) (K' (.tuple #[.int .i64 21,.int .i64 8]) w2) (K' (.tuple #[.int .i64 (n:Int),.int .i64 ((d+1:Nat):Int)]) w2)):=by
  rintro hor K' rfl
  have hk:=hK w2 hE
  unfold M.manyM M.lvlM at hk
  have hbad:(20<n∨7<d+1)→¬(M.fits t=true):=fun h hf=>by
   have hx:=hfit.1 hf
   have:=c3 (by omega)
   omega
  refine zh (fun a=>?_) (fun a=>?_)
  ·rw[if_neg (hbad (by omega)),if_neg (hbad (by omega))] at hk
   exact hk
  refine zh (fun b=>?_) (fun b=>?_)
  ·rw[if_neg (hbad (by omega)),if_neg (hbad (by omega))] at hk
   exact hk
  ·have hi':i=t.ks.length:=by omega
   subst hi'
   have hg:M.sizeM t≤20∧M.deepM t≤7:=by
    by_cases h:1+M.szT t.ks t.ks.length≤20∧M.dpT t.ks t.ks.length≤7
    ·have:=c3 h;omega
    ·have:=c4 h;omega
   have h3:=c3 (by omega)
   rw[if_pos (hfit.2 hg),if_pos (hfit.2 hg)] at hk
   rw[show n=M.sizeM t by omega,show d+1=M.deepM t by omega]
   exact hk
 refine zX (fun u w'=>u=[]∧w'=w2∧i<t.ks.length∧n≤20) (fun C' hC'=>?_) ?_
 ·simp(disch:=(simp only[push_cast];done)) only[push_cast,h2.ld4,hks2.len,e1]
  refine zh (fun a=>?_) (fun a=>?_)
  ·refine zh (fun b=>?_) (fun b=>?_)
   ·exact hC' _ _ ⟨rfl,rfl,by omega,by omega⟩
   ·exact hfin (.inl (by omega)) K rfl
  ·exact hfin (.inr (by omega)) K rfl
 ·rintro u g w3 ⟨rfl,rfl,hlt,hn⟩
  have hm3:=M.szT_succ (ks:=t.ks) (i:=i) (by omega)
  have hm4:=M.dpT_succ (ks:=t.ks) (i:=i) (by omega)
  have hm5:=M.szT_mono (ks:=t.ks) (i:=i+1) (j:=t.ks.length) (by omega) (Nat.le_refl _)
  simp(disch:=first|(simp only[push_cast];done)|omega) only[push_cast,h2.ld4,hks2.iaddr]
  refine hks2.load zQ (by omega) fun x hx=>?_
  refine ih _ (M.getD_mem (by omega) _) hx fun w4 he4=>?_
  have hfk:=M.fits_iff (t:=t.ks.getD i default)
  have hn2:M.manyM (t.ks.getD i default)≤21:=by
   unfold M.manyM
   split
   ·have:=hfk.1 (by assumption);omega
   ·omega
  have hd2:M.lvlM (t.ks.getD i default)≤8:=by
   unfold M.lvlM
   split
   ·have:=hfk.1 (by assumption);omega
   ·omega
  have hgood:M.sizeM (t.ks.getD i default)≤20∧M.deepM (t.ks.getD i default)≤7→M.manyM (t.ks.getD i default)=M.sizeM (t.ks.getD i default)∧M.lvlM (t.ks.getD i default)=M.deepM (t.ks.getD i default):=fun h=>by
   unfold M.manyM M.lvlM
   rw[if_pos (hfk.2 h),if_pos (hfk.2 h)]
   exact⟨rfl,rfl⟩
  have hbad: ¬(M.sizeM (t.ks.getD i default)≤20∧M.deepM (t.ks.getD i default)≤7)→M.manyM (t.ks.getD i default)=21∧M.lvlM (t.ks.getD i default)=8:=fun h=>by
   unfold M.manyM M.lvlM
   rw[if_neg (fun x=>h (hfk.1 x)),if_neg (fun x=>h (hfk.1 x))]
   exact⟨rfl,rfl⟩
  generalize M.manyM (t.ks.getD i default)=nk at hn2 hgood hbad⊢
  generalize M.lvlM (t.ks.getD i default)=dk at hd2 hgood hbad⊢
  simp only[push_cast]
  refine l1Max_spec ?_
  try simp only[push_cast]
  rw[inc64' (by omega),zF (x:=(n:Int)+nk) (by omega) (by omega),show(n:Int)+(nk:Int)=((n+nk:Nat):Int) by omega,show max (d:Int) (dk:Int)=((max d dk:Nat):Int) by omega]
  refine hC (by omega) _ _ ⟨n+nk,max d dk,rfl,he2.trans he4,by omega,by omega,fun h=>?_,fun h=>?_⟩
  ·have:=c3 (by omega)
   have:=hgood (by omega)
   omega
  ·by_cases hg:M.sizeM (t.ks.getD i default)≤20∧M.deepM (t.ks.getD i default)≤7
   ·have h5:=hgood hg
    by_cases hg2:1+M.szT t.ks i≤20∧M.dpT t.ks i≤7
    ·have:=c3 hg2;omega
    ·have:=c4 hg2;omega
   ·have:=hbad hg;omega
end Go.Proofs.YtaekfnbnhjgboaaGreatDoor
end
section
namespace Go.Proofs.YtaekfnbnhjgboaaGreatDoor
open Go Go.Vc Go.Proofs
variable {w:World} {K:Value→World→Prop} {F G:Nat→Prop}
theorem l2Arity_spec {o:Int} (hK:K (.int .i64 (M.arity o)) w):vcall PP Ya #[.int .i64 o] w K:=by
 apply zu0;unfold Jq
 have hK':∀c,M.arity o=c→K (.int .i64 c) w:=fun c e=>e▸hK
 refine zX (fun u w'=>u=[.bool (decide (o=20∨o=21∨o=24))]∧w'=w) (fun C hC=>?_) ?_
 ·simp only[push_cast]
  refine zh (fun a=>?_) (fun a=>?_)
  ·exact hC _ _ ⟨by rw[decide_eq_true a,decide_eq_true (.inl a)],rfl⟩
  refine zh (fun b=>?_) (fun b=>?_)
  ·exact hC _ _ ⟨by rw[decide_eq_true b,decide_eq_true (.inr (.inl b))],rfl⟩
  ·refine hC _ _ ⟨?_,rfl⟩
   by_cases c:o=24
   ·rw[decide_eq_true c,decide_eq_true (.inr (.inr c))]
   ·rw[decide_eq_false c,decide_eq_false (by omega)]
 ·rintro u g w1 ⟨rfl,rfl⟩
  simp only[push_cast]
  repeat' first
   |exact hK' _ (by
    unfold M.arity;repeat' split
    all_goals omega)
   |refine zh (fun _=>?_) (fun _=>?_)
theorem xp0 {v:Value} {t:M.Tm} (ht:TermR F w v t) (hK:∀w',Ext w w'→K (.bool (M.formed t)) w'):vcall PP Y9 #[v] w K:=by
 apply zt0;unfold Jp
 obtain⟨ksv,rfl,hks⟩:=ht
 refine zu fun b1 w1 hb1 he1 hs1 h1=>?_
 have hk:=hK _ he1
 have hno:M.plainM t=false→K (.bool false) w1:=fun h=>by
  unfold M.formed at hk
  rwa[h,Bool.and_false] at hk
 unfold M.plainM at hno
 refine zX (fun u w'=>u=[]∧w'=w1∧(decide (t.op=21)||decide (t.s=M.nada))=true) (fun C hC=>?_) ?_
 ·simp(disch:=(simp only[push_cast];done)) only[push_cast,h1.ld0,h1.ld3]
  refine zh (fun a=>?_) (fun a=>?_)
  ·refine zh (fun b=>?_) (fun b=>?_)
   ·exact hno (by rw[decide_eq_false a,show decide (t.s=M.nada)=false from decide_eq_false b];simp)
   ·exact hC _ _ ⟨rfl,rfl,by rw[show decide (t.s=M.nada)=true from decide_eq_true (Classical.not_not.1 b)];simp⟩
  ·exact hC _ _ ⟨rfl,rfl,by rw[decide_eq_true (Classical.not_not.1 a)];simp⟩
 rintro u g w2 ⟨rfl,rfl,hn⟩
 rw[hn,Bool.and_true] at hno
 refine zX (fun u w'=>u=[]∧w'=w2∧(decide (t.op=20)||decide (t.op=22)||(decide (t.a=0)&&decide (t.b=0)))=true) (fun C hC=>?_) ?_
 ·simp(disch:=(simp only[push_cast];done)) only[push_cast,h1.ld0,h1.ld1,h1.ld2]
  refine zh (fun a=>?_) (fun a=>?_)
  ·refine zh (fun b=>?_) (fun b=>?_)
   ·refine zh (fun c=>?_) (fun c=>?_)
    ·exact hno (by rw[decide_eq_false a,decide_eq_false b,decide_eq_false c];simp)
    refine zh (fun d=>?_) (fun d=>?_)
    ·exact hno (by rw[decide_eq_false a,decide_eq_false b,decide_eq_false d];simp)
    ·exact hC _ _ ⟨rfl,rfl,by rw[decide_eq_true (Classical.not_not.1 c),decide_eq_true (Classical.not_not.1 d)];simp⟩
   ·exact hC _ _ ⟨rfl,rfl,by rw[decide_eq_true (Classical.not_not.1 b)];simp⟩
  ·exact hC _ _ ⟨rfl,rfl,by rw[decide_eq_true (Classical.not_not.1 a)];simp⟩
 rintro u g w3 ⟨rfl,rfl,hm⟩
 refine zr fun w4 he4 _=>?_
 have h4:=h1.ext he4
 have hks4:=hks.ext (he1.trans he4)
 simp(disch:=(simp only[push_cast];done)) only[push_cast,h4.ld0,h4.ld4,hks4.len,true_and]
 refine l2Arity_spec ?_
 simp(disch:=(simp only[push_cast];done)) only[push_cast,h4.ld4,hks4.len,true_and,and_self]
 have:=hK _ (he1.trans he4)
 have e:M.formed t=decide ((t.ks.length:Int)=M.arity t.op):=by
  unfold M.formed M.plainM
  rw[hm,hn]
  simp only[Bool.and_true]
  by_cases h:M.arity t.op=t.ks.length
  ·rw[decide_eq_true h,decide_eq_true h.symm]
  ·rw[decide_eq_false h,decide_eq_false (fun x=>h x.symm)]
 rwa[e] at this
theorem l2One_spec {v:Value} {t:M.Tm} {a:Int} (ht:TermR F w v t) (hr: -1≤a∧a≤4) (hK:∀w',Ext w w'→K (.int .i64 (M.oneM t a)) w'):vcall PP XN #[v,.int .i64 a] w K:=by
 apply xO0;unfold WE
 obtain⟨ksv,rfl,hks⟩:=ht
 refine zu fun b1 w1 hb1 he1 hs1 h1=>?_
 have hk:∀c,M.oneM t a=c→K (.int .i64 c) w1:=fun c e=>e▸hK _ he1
 unfold M.oneM at hk
 refine zX (fun u w'=>u=[.bool (decide (t.op=25∧a=0))]∧w'=w1) (fun C hC=>?_) ?_
 ·simp(disch:=(simp only[push_cast];done)) only[push_cast,h1.ld0]
  refine zh (fun b=>?_) (fun b=>?_)
  ·refine hC _ _ ⟨?_,rfl⟩
   simp only[b,true_and]
  ·exact hC _ _ ⟨by rw[decide_eq_false (fun h=>b h.1)],rfl⟩
 rintro u g w2 ⟨rfl,rfl⟩
 simp only[push_cast]
 refine zh (fun b=>?_) (fun b=>?_)
 ·exact hk _ (by rw[if_pos b.1,if_pos b.2])
 refine zX (fun u w'=>u=[.bool (decide (t.op=25∨a<1))]∧w'=w2) (fun C hC=>?_) ?_
 ·simp(disch:=(simp only[push_cast];done)) only[push_cast,h1.ld0]
  refine zh (fun c=>?_) (fun c=>?_)
  ·exact hC _ _ ⟨by rw[decide_eq_true (.inl c)],rfl⟩
  ·refine hC _ _ ⟨?_,rfl⟩
   simp only[c,false_or]
 rintro u g w3 ⟨rfl,rfl⟩
 simp only[push_cast]
 refine zh (fun c=>?_) (fun c=>?_)
 ·exact hk _ (by
   repeat' split
   all_goals omega)
 simp(disch:=(simp only[push_cast];done)) only[push_cast,h1.ld0]
 refine zh (fun d=>?_) (fun d=>?_)
 ·refine zX (fun u w'=>u=[.bool (decide (0≤t.b∧t.b≤t.a∧t.a<a))]∧w'=w3) (fun C hC=>?_) ?_
  ·simp(disch:=(simp only[push_cast];done)) only[push_cast,h1.ld1,h1.ld2]
   refine zh (fun e=>?_) (fun e=>?_)
   ·refine zh (fun f=>?_) (fun f=>?_)
    ·refine hC _ _ ⟨?_,rfl⟩
     simp only[e,f,true_and]
    ·exact hC _ _ ⟨by rw[decide_eq_false (fun h=>f h.2.1)],rfl⟩
   ·exact hC _ _ ⟨by rw[decide_eq_false (fun h=>e h.1)],rfl⟩
  rintro u g w4 ⟨rfl,rfl⟩
  simp only[push_cast]
  refine zh (fun e=>?_) (fun e=>?_)
  ·simp(disch:=(simp only[push_cast];done)) only[push_cast,h1.ld1,h1.ld2]
   rw[zF (x:=t.a-t.b) (by omega) (by omega),zF (by omega) (by omega)]
   exact hk _ (by rw[if_neg (by omega),if_neg (by omega),if_pos d,if_pos e])
  ·exact hk _ (by rw[if_neg (by omega),if_neg (by omega),if_pos d,if_neg e])
 ·exact hk _ (by rw[if_neg (by omega),if_neg (by omega),if_neg d])
theorem l2Both_spec {o a b:Int} (hr: -1≤a∧a≤4) (hr': -1≤b∧b≤4) (hK:K (.int .i64 (M.bothM o a b)) w):vcall PP YY #[.int .i64 o,.int .i64 a,.int .i64 b] w K:=by
 apply yN0;unfold Vp
 have hk:∀c,M.bothM o a b=c→K (.int .i64 c) w:=fun c e=>e▸hK
 unfold M.bothM at hk
 refine zX (fun u w'=>u=[.bool (decide (o=26∨o=27))]∧w'=w) (fun C hC=>?_) ?_
 ·simp only[push_cast]
  refine zh (fun c=>?_) (fun c=>?_)
  ·exact hC _ _ ⟨by rw[decide_eq_true (.inl c)],rfl⟩
  ·refine hC _ _ ⟨?_,rfl⟩
   simp only[c,false_or]
 rintro u g w2 ⟨rfl,rfl⟩
 simp only[push_cast]
 refine zh (fun c=>?_) (fun c=>?_)
 ·repeat' first
   |exact hk _ (by
    repeat' split
    all_goals omega)
   |refine zh (fun _=>?_) (fun _=>?_)
 refine zX (fun u w'=>u=[.bool (decide (a<1∨b<1))]∧w'=w2) (fun C hC=>?_) ?_
 ·try simp only[push_cast]
  refine zh (fun d=>?_) (fun d=>?_)
  ·exact hC _ _ ⟨by rw[decide_eq_true (.inl d)],rfl⟩
  ·refine hC _ _ ⟨?_,rfl⟩
   simp only[d,false_or]
 rintro u g w3 ⟨rfl,rfl⟩
 have e1:IntKind.i64.wrap (a+b)=a+b:=zF (by omega) (by omega)
 simp only[push_cast,e1]
 repeat' first
  |exact hk _ (by
   repeat' split
   all_goals omega)
  |refine zh (fun _=>?_) (fun _=>?_)
theorem l2Sort_spec:∀(t:M.Tm) {w:World} {K:Value→World→Prop} {F G:Nat→Prop} {dv v:Value} {ds:List M.Dcl},DclsR F w dv ds→M.declOk ds=true→TermR G w v t→(∀w',Ext w w'→K (.int .i64 (M.sortM ds t)) w')→vcall PP qM #[dv,v] w K:=by
 refine M.Tm.ind fun t ih w K F G dv v ds hd hok ht hK=>?_
 apply yK0;unfold Vm
 obtain⟨ksv,rfl,hks⟩:=ht
 refine zu fun b1 w1 hb1 he1 hs1 h1=>?_
 have hk:∀c w',M.sortM ds t=c→Ext w w'→K (.int .i64 c) w':=fun c w' e he=>e▸hK _ he
 rw[h1.ldAgg (t:=zb) zQ]
 refine xp0 (F:=G) (t:=t) ⟨ksv,rfl,hks.ext he1⟩ fun w2 he2=>?_
 have hE:=he1.trans he2
 have h2:=h1.ext he2
 simp only[push_cast]
 refine xl (fun a=>?_) (fun a=>?_)
 ·exact hk _ _ (M.sort_bad (by rw[Bool.not_eq_true];simpa using a)) hE
 have hf:M.formed t=true:=by simpa using a
 have har:=(M.formed_iff.1 hf).1
 have hd2:=hd.ext hE
 simp(disch:=(simp only[push_cast];done)) only[push_cast,h2.ld0]
 refine zh (fun c20=>?_) (fun c20=>?_)
 ·have hl:t.ks.length=0:=by rw[c20] at har;simp[M.arity] at har;omega
  have hs:=M.sort_leaf (ds:=ds) hf hl
  simp(disch:=(simp only[push_cast];done)) only[push_cast,h2.ld1,h2.ld2]
  refine spec_VecOk_spec fun w3 he3=>?_
  have h3:=h2.ext he3
  refine xl (fun b=>?_) (fun b=>?_)
  ·simp(disch:=(simp only[push_cast];done)) only[push_cast,h3.ld1]
   exact hk _ _ (by rw[hs];unfold M.sortK;rw[if_pos c20,if_pos b]) (hE.trans he3)
  ·exact hk _ _ (by rw[hs];unfold M.sortK;rw[if_pos c20,b];rfl) (hE.trans he3)
 refine zh (fun c21=>?_) (fun c21=>?_)
 ·have hl:t.ks.length=0:=by rw[c21] at har;simp[M.arity] at har;omega
  have hs:=M.sort_leaf (ds:=ds) hf hl
  have hfd:=M.findD_lt ds t.s
  simp(disch:=(simp only[push_cast];done)) only[push_cast,h2.ld3]
  refine l2Find_spec hd2 ?_
  try simp only[push_cast]
  refine zh (fun b=>?_) (fun b=>?_)
  ·exact hk _ _ (by rw[hs];unfold M.sortK;rw[if_neg c20,if_pos c21,if_pos b]) hE
  ·try simp(disch:=first|(simp only[push_cast];done)|omega) only[push_cast,hd2.iaddr]
   try simp(disch:=first|(simp only[push_cast];done)|omega) only[push_cast,hd2.load1]
   exact hk _ _ (by rw[hs];unfold M.sortK;rw[if_neg c20,if_pos c21,if_neg b]) hE
 refine zh (fun c24=>?_) (fun c24=>?_)
 ·have hl:t.ks.length=0:=by rw[c24] at har;simp[M.arity] at har;omega
  have hs:=M.sort_leaf (ds:=ds) hf hl
  exact hk _ _ (by rw[hs];unfold M.sortK;rw[if_neg c20,if_neg c21,if_pos (by omega)];rfl) hE
 have hlen:t.ks.length=1∨t.ks.length=2∨t.ks.length=3:=by
  have h0:M.arity t.op≠0:=fun h=>by have:=M.arity_zero h;omega
  have h4:M.arity t.op≤3:=by
   unfold M.arity
   repeat' split
   all_goals omega
  omega
 have hks2:=hks.ext hE
 simp(disch:=first|(simp only[push_cast];done)|omega) only[push_cast,h2.ld4,hks2.iaddr]
 refine hks2.load zQ (by omega) fun x0 hx0=>?_
 refine ih (M.kid t 0) (M.kid_mem (by omega)) hd2 hok hx0 fun w3 he3=>?_
 have h3:=h2.ext he3
 have hE3:=hE.trans he3
 have hks3:=hks.ext hE3
 have hr0:=M.sort_range hok (M.kid t 0)
 simp(disch:=first|(simp only[push_cast];done)|omega) only[push_cast,h3.ld4,hks3.len]
 refine zh (fun l1=>?_) (fun l1=>?_)
 ·rw[h3.ldAgg (t:=zb) zQ]
  refine l2One_spec (F:=G) (t:=t) ⟨ksv,rfl,hks3⟩ hr0 fun w4 he4=>?_
  exact hk _ _ (M.sort_one hok hf (by omega)) (hE3.trans he4)
 simp(disch:=first|(simp only[push_cast];done)|omega) only[push_cast,h3.ld4,hks3.iaddr]
 refine hks3.load zQ (by omega) fun x1 hx1=>?_
 refine ih (M.kid t 1) (M.kid_mem (by omega)) (hd.ext hE3) hok hx1 fun w4 he4=>?_
 have h4:=h3.ext he4
 have hE4:=hE3.trans he4
 have hks4:=hks.ext hE4
 have hr1:=M.sort_range hok (M.kid t 1)
 simp(disch:=first|(simp only[push_cast];done)|omega) only[push_cast,h4.ld4,h4.ld0,hks4.len]
 refine zh (fun l2=>?_) (fun l2=>?_)
 ·refine l2Both_spec hr0 hr1 ?_
  exact hk _ _ (M.sort_two hok hf (by omega)) hE4
 have hs3:=M.sort_three (ds:=ds) hf (by omega)
 refine zh (fun z=>?_) (fun z=>?_)
 ·exact hk _ _ (by rw[hs3,if_pos (.inl z)]) hE4
 simp(disch:=first|(simp only[push_cast];done)|omega) only[push_cast,h4.ld4,hks4.iaddr]
 refine hks4.load zQ (by omega) fun x2 hx2=>?_
 refine ih (M.kid t 2) (M.kid_mem (by omega)) (hd.ext hE4) hok hx2 fun w5 he5=>?_
 simp only[push_cast]
 refine zh (fun z2=>?_) (fun z2=>?_)
 ·exact hk _ _ (by rw[hs3,if_pos (.inr z2)]) (hE4.trans he5)
 ·exact hk _ _ (by rw[hs3,if_neg (fun h=>h.elim z z2)]) (hE4.trans he5)
def qo0 (ds:List M.Dcl):Prop:=∀i,i<ds.length→(ds.getD i qK0).1.size≤9223372036854775807
theorem spec_TermSort_spec {dv v:Value} {ds:List M.Dcl} {t:M.Tm} (hsz:qo0 ds) (hd:DclsR F w dv ds) (ht:TermR G w v t) (hK:∀w',Ext w w'→K (.int .i64 (M.tsort ds t)) w'):vcall PP Zc #[dv,v] w K:=by
 apply UF;unfold Qe
 obtain⟨cs,rfl,hcs⟩:=ht.cells
 refine zu fun b1 w1 hb1 he1 hs1 h1=>?_
 rw[h1.ldAgg (t:=zb) (by rw[qu hcs];exact zQ)]
 refine spec_TermMany_spec t (hcs.ext he1).term fun w2 he2=>?_
 simp only[push_cast]
 have hE2:=he1.trans he2
 refine spec_DeclOk_spec (hd.ext hE2) hsz fun w3 he3=>?_
 have hE3:=hE2.trans he3
 have hk:=hK w3 hE3
 unfold M.tsort at hk
 simp only[push_cast]
 refine xl (fun a=>?_) (fun a=>?_)
 ·rwa[if_neg (fun h=>by rw[h.2] at a;cases a)] at hk
 rw[Bool.not_eq_false'] at a
 refine zh (fun b=>?_) (fun b=>?_)
 ·rw[if_neg (fun h=>by
   have h1:=M.fits_iff.1 h.1
   unfold M.manyM at b
   rw[if_pos h.1] at b;omega)] at hk
  exact hk
 have hf:M.fits t=true:=by
  by_cases h:M.fits t=true
  ·exact h
  ·unfold M.manyM at b
   rw[if_neg h] at b;omega
 refine zh (fun c=>?_) (fun c=>?_)
 ·unfold M.lvlM at c
  rw[if_pos hf] at c
  have:=M.fits_iff.1 hf
  omega
 have h3:=(h1.ext he2).ext he3
 rw[h3.ldAgg (t:=zb) (by rw[qu hcs];exact zQ)]
 refine l2Sort_spec t (hd.ext hE3) a (hcs.ext hE3).term fun w4 he4=>?_
 have:=hK w4 (hE3.trans he4)
 unfold M.tsort at this
 rwa[if_pos ⟨hf,a⟩] at this
end Go.Proofs.YtaekfnbnhjgboaaGreatDoor
end
section
namespace Go.Proofs.YtaekfnbnhjgboaaGreatDoor
open Go Go.Vc Go.Proofs
variable {w:World} {K:Value→World→Prop} {F F' D:Nat→Prop}
theorem jI0 {b:Nat} {cs cs':List Value} {t:TypeId} {G:Nat→Prop} {t':M.Tm} (h:Blk w b cs t) (hl:cs.length=5) (hc:TmR G w cs' t') (hG:∀x,G x→x≠b) (hK:∀w',Same (· =b) w w'→w'.heap.size=w.heap.size→TermR G w' (.agg ⟨cs'⟩) t'→K (.agg ⟨cs'⟩) w'):
  zq PP zb (.pointer (some ⟨b,0,none⟩)) (.agg ⟨cs'⟩) w fun _ w1=>vlv PP zb (.pointer (some ⟨b,0,none⟩)) w1 fun r w2=>K r w2:=by
 refine stTerm h hl hc fun w' hw' hz' h'=>?_
 rw[h'.lv (by rw[qu hc];exact zQ)]
 exact hK w' hw' hz' (hc.same hw' fun x hx _ e=>hG x hx e).term
theorem leafR {G:Nat→Prop} (o a b:Int) (s:ByteArray):TmR G w [.int .i64 o,.int .i64 a,.int .i64 b,.string s,.slice none 0 0] (.mk o a b s []):=TmR.of (t:= .mk o a b s []) TmsR.nil
end Go.Proofs.YtaekfnbnhjgboaaGreatDoor
end
section
namespace Go.Proofs.YtaekfnbnhjgboaaGreatDoor
open Go Go.Vc Go.Proofs
variable {w:World} {K:Value→World→Prop} {F F' D G:Nat→Prop}
abbrev YP0:List Value:=[.int .i64 0,.int .i64 0,.int .i64 0,.string ⟨#[]⟩,.slice none 0 0]
section
variable {w0:World} {b b1 p:Nat} {v dv:Value} {xs:List Nat} {ds:List M.Dcl}
end
end Go.Proofs.YtaekfnbnhjgboaaGreatDoor
end
section
namespace Go.Proofs.YtaekfnbnhjgboaaGreatDoor
open Go Go.Vc Go.Proofs
variable {w:World} {K:Value→World→Prop} {F F' D G:Nat→Prop}
theorem flatten_setEl {k:Nat}:∀{xs:List (List Value)} (_:∀x,x∈xs→x.length=k) {i:Nat} {y:List Value},y.length=k→i<xs.length→(xs.set i y).flatten=xs.flatten.take (i*k)++y++xs.flatten.drop (i*k+k)
 |[],_,i,y,_,hi=>by simp at hi
 |x::r,h,i,y,hy,hi=>by
  have hx:=h x List.mem_cons_self
  cases i with
  |zero=>
   simp only[List.set_cons_zero,List.flatten_cons,Nat.zero_mul,List.take_zero,List.nil_append,Nat.zero_add]
   rw[List.drop_append,List.drop_of_length_le (by omega),List.nil_append,show k-x.length=0 by omega,List.drop_zero]
  |succ i=>
   simp only[List.set_cons_succ,List.flatten_cons]
   have e0:(i+1)*k=x.length+i*k:=by rw[Nat.add_mul];omega
   have e1:x.length+i*k+k=x.length+(i*k+k):=by omega
   rw[flatten_setEl (fun z hz=>h z (List.mem_cons_of_mem _ hz)) hy (by simpa using hi),e0,e1,List.take_length_add_append,List.drop_length_add_append]
   simp only[List.append_assoc]
theorem own_stEl {P:Program} {v:Value} {k:Nat} {t e:TypeId} {xs:List (List Value)} {y:List Value} (h:Own P 0 k t w v xs) (hk:0<k) (hy:y.length=k) (h1:∀c,c∈y→c.oneCell'=true) (hz:aggB P e k=true) {i:Nat} (hi:i<xs.length)
  (hK:∀w',Own P 0 k t w' v (xs.set i y)→Same (fun b=>v.ownBlock=some b) w w'→w'.heap.size=w.heap.size→K undef w'):zq P e (.pointer (some (eaddr v k i))) (.agg ⟨y⟩) w K:=by
 have hfl:=flatten_len h.wide
 rcases h.row with⟨hr1,hr2⟩
 rcases hr2 with⟨rfl,hn⟩|⟨g,cap,cur,rfl,hbg,hg,hnc,hcm,hcs,htake⟩
 ·omega
 ·have hik:i*k+k≤xs.length*k:=by rw[←Nat.succ_mul];exact Nat.mul_le_mul_right _ hi
  have hlk:xs.length*k≤cap*k:=Nat.mul_le_mul_right _ hnc
  have hrun:=run_storeCells_at (P:=P) g (i*k) (Jh P t) y 0 cur w hg (by omega) h1
  have he:eaddr (.slice (some ⟨g,0,none⟩) xs.length cap) k i=⟨g,i*k,none⟩:=by
   simp only[eaddr,Nat.zero_add]
  rw[he]
  have hcl:cur.toList.length=cap*k:=by simpa using hcs
  have hsz:(cur.toList.take (i*k+0)++y++cur.toList.drop (i*k+0+y.length)).toArray.size=cap*k:=by
   simp only[List.size_toArray,List.length_append,List.length_take,List.length_drop]
   omega
  have hnew:(cur.toList.take (i*k+0)++y++cur.toList.drop (i*k+0+y.length)).toArray.toList.take (xs.length*k)=(xs.set i y).flatten:=by
   rw[flatten_setEl h.wide hy hi,←htake,hy]
   simp only[Nat.add_zero]
   have e1:(cur.toList.take (i*k)).length=i*k:=by rw[List.length_take];omega
   rw[List.take_append,List.take_append,List.take_of_length_le (l:=List.take (i*k) cur.toList) (by omega),List.take_of_length_le (l:=y) (by omega),List.take_take,Nat.min_eq_left (by omega),List.drop_take]
   congr 2
   rw[List.length_append,List.length_take]
   omega
  refine⟨(),_,?_,hK (w.setRow g (cur.toList.take (i*k+0)++y++cur.toList.drop (i*k+0+y.length)).toArray) ⟨?_,?_⟩ ⟨rfl,rfl,rfl,by simp,fun q _ hq=>setRow_other w g q _ (fun e=>hq (by rw[e];rfl))⟩ (by simp)⟩
  ·simp only[Instr.storeAt,Instr.sureAddr,Sem.run_bind,Sem.run_pure,Result.andThen_ok,storeVar,Y4 hz,Value.cells]
   simp only[List.size_toArray,hy,ne_eq,not_true_eq_false,if_false]
   rw[hy] at hrun
   exact hrun
  ·rw[List.length_set]
   refine⟨?_,.inr ⟨g,cap,_,rfl,hbg,setRow_heap w g _ _ _ _ hg,hnc,hcm,hsz,hnew⟩⟩
   rw[←hnew,List.length_take]
   have:=hsz
   simp only[List.size_toArray] at this
   simp only[List.toList_toArray,this]
   omega
  ·intro z hz
   obtain⟨q,hq,rfl⟩:=List.getElem_of_mem hz
   rw[List.getElem_set]
   split
   ·exact hy
   ·exact h.wide _ (List.getElem_mem _)
end Go.Proofs.YtaekfnbnhjgboaaGreatDoor
end
section
namespace Go.Proofs.YtaekfnbnhjgboaaGreatDoor
open Go Go.Vc Go.Proofs
open Go.ChangeShapes Go.WideShapes Go.ChangeAt Go.RowKit
theorem Yf0:ownKnob PP.godebug=none:=by kernel_rfl
theorem YQ:laidOutB PP=true:=by kernel_rfl
def restFacts (P:Program) (f:FuncId) (fn:Func) (s:ChangeSpec) (c:OpenClaim):Bool:=
 c.wf (OpenSpec.ofChange s)&&
 fn.params.all (P.readableRec ·)&&namedTie P c.named s.vars&&
 (c.stops==[])&&(P.stops==[])&&(c.knobs==[])&&(P.stopKnobs==[])&&
 (c.maps==(fn.params.toList++s.plain.varTypes P).any (P.mapsRec ·))&&(c.ifaces==(fn.params.toList++s.plain.varTypes P).any (P.ifacesRec ·))&&(c.mapsOut==P.mapsAmong fn.resultTypes.toList)&&
 (c.loops==(fn.params.toList++s.plain.varTypes P).any (P.loopsFrom ·))&&(c.wideKeys==(fn.params.toList++s.plain.varTypes P++fn.resultTypes.toList).any (P.wideKeysFrom ·))&&
 s.vars.all (P.varReadable ·)&&fn.resultTypes.all (fun t=>P.readableRec t&&decide (t<P.types.size))&&(c.ifacesOut==fn.resultTypes.toList.any (P.ifacesRec ·))&&(c.loopsOut==fn.resultTypes.toList.any (P.loopsFrom ·))&&(c.plainKeys==P.plainKeys)&&c.shortTexts.isNone&&P.stopsHeard&&P.mayEnter&&(c.lifted==P.liftsFinal)&&(P.make==some c.make)&&(c.kinds==(if c.domain.isEmpty then[] else fn.params.toList.map fun t=>match P.underlying t with|some (.int k)=>some k|_=>none))&&(c.pinned==c.pinnedBy)&&
 (c.veiled==(fn.params.toList++s.plain.varTypes P++fn.resultTypes.toList).any (P.veiledRec ·))&&c.veiledFits P fn.params.toList (fn.params.toList++s.plain.varTypes P++fn.resultTypes.toList)
theorem jV0 {P:Program} {f:FuncId} {fn:Func} {s:ChangeSpec} {c:OpenClaim} (h1:laidOutB P=true) (h2:mapsRowed P=true) (h3:(c.inPlace==P.inPlace f)=true) (h4:(c.unfollowed==P.unfollowed f)=true)
  (h5:(c.recurses==P.recurses f)=true) (h6:(c.named==P.varsNamed f)=true) (h7:restFacts P f fn s c=true):joinedFacts P f fn s c=true:=by
 unfold restFacts at h7
 unfold joinedFacts
 rw[h1,h2,h3,h4,h5,h6]
 simp only[Bool.and_true]
 exact h7
theorem Z50:mapsRowed PP=true:=by kernel_rfl
theorem k60 {w w':World} (h:Ext w w'):Below w.heap.size w w':=⟨h.os,h.tape,h.output,h.size,fun k hk=>h.block k hk id⟩
end Go.Proofs.YtaekfnbnhjgboaaGreatDoor
end
section
namespace Go.Proofs.YtaekfnbnhjgboaaGreatDoor
open Go Go.Vc Go.Proofs
open Go.ChangeShapes Go.WideShapes Go.ChangeAt Go.RowKit
variable {w:World} {K:Value→World→Prop} {F F' D G:Nat→Prop}
theorem list2 {α:Type} {l:List α} (h:l.length=2):∃a b,l=[a,b]:=by
 match l,h with
 |[a,b],_=>exact⟨a,b,rfl⟩
theorem list5 {α:Type} {l:List α} (h:l.length=5):∃a b c d e,l=[a,b,c,d,e]:=by
 match l,h with
 |[a,b,c,d,e],_=>exact⟨a,b,c,d,e,rfl⟩
theorem sl_of {w:World} {x:Addr} {k len cap:Nat} {css:List (List Value)} (hk:0<k) (hl:len≤cap) (hm:cap≤maxLen) (hn:css.length=len) (hw:∀c,c∈css→c.length=k)
  (hcell:∀i,i<len→∀j,j<k→w.cell? (x.add (i*k+j))=(css.getD i [])[j]?):Sl (fun _=>True) w k (.slice (some x) len cap) css:=by
 subst hn
 refine⟨⟨some x,cap,rfl,hl,by unfold maxLen at hm;exact hm,fun hne=>?_⟩,hw⟩
 have hlen:0<css.length:=List.length_pos_iff.2 hne
 obtain⟨b,off,spot⟩:=x
 have hw0:(css.getD 0 []).length=k:=hw _ (M.getD_mem hlen _)
 have hc0:=hcell 0 hlen 0 hk
 rw[List.getElem?_eq_getElem (by omega:0<(css.getD 0 []).length)] at hc0
 have hspot:spot=none:=by simpa[Addr.add] using World.cell?_spot hc0
 subst hspot
 rw[xh] at hc0
 refine⟨b,off,rfl,trivial,World.block_lt_of_cell? w _ hc0,fun i hi j v hv=>?_⟩
 have hwi:(css.getD i []).length=k:=hw _ (M.getD_mem hi _)
 have hj:j<k:=by rw[←hwi];exact(List.getElem?_eq_some_iff.1 hv).1
 have hc:=hcell i hi j hj
 rw[xh] at hc
 rw[xh,←hv,←hc,Nat.add_assoc]
section
variable {H:Type} {enc:TypeId×Value→H} {W:World} {cs:List Value} {x:DataW H×List MemPlace} {held:Bool} {fuel:Nat}
theorem XB:PP.underlying zB=some .string:=by kernel_rfl
theorem YZ0:PP.underlying yL=some (.struct #[⟨"Name",zB,0,false,"","",0⟩,⟨"Wide",zd,1,false,"","",16⟩]):=by kernel_rfl
theorem ZG0:PP.underlying zA=some (.struct #[⟨"Op",zd,0,false,"","",0⟩,⟨"A",zd,1,false,"","",8⟩,⟨"B",zd,2,false,"","",16⟩,⟨"Name",zB,3,false,"","",24⟩,⟨"Kids",yF,4,false,"","",40⟩]):=by kernel_rfl
theorem ZZ0:PP.cellsOf zd=1:=by kernel_rfl
theorem q10:PP.cellsOf zB=1:=by kernel_rfl
theorem c1_Ls:PP.cellsOf yF=1:=by kernel_rfl
theorem kc0:PP.cellsOf yL=2:=by kernel_rfl
theorem kb0:PP.cellsOf zA=5:=by kernel_rfl
def Ue:M.Tm→Bool:=M.Tm.fold fun t xs=>decide (t.s.size≤9223372036854775807)&&xs.all id
theorem Z10 (t:M.Tm):Ue t=(decide (t.s.size≤9223372036854775807)&&(t.ks.map Ue).all id):=M.Tm.fold_eq _ t
theorem YY0 {t:M.Tm}:Ue t=true↔t.s.size≤9223372036854775807∧∀k,k∈t.ks→Ue k=true:=by
 rw[Z10,Bool.and_eq_true,decide_eq_true_eq,List.all_eq_true]
 refine and_congr_right fun _=>⟨fun h k hk=>h _ (List.mem_map_of_mem hk),fun h y hy=>?_⟩
 obtain⟨k,hk,rfl⟩:=List.mem_map.1 hy
 exact h k hk
theorem Yv0 (h:DataW.trod enc PP W 0 (fun _=>true) held fuel yL cs=some x):∃d:M.Dcl,cs=[.string d.1,.int .i64 d.2]∧d.1.size≤9223372036854775807:=by
 obtain⟨xs,n,_,_,hl,hlen,hf⟩:=DataW.trod_struct YZ0 h
 rw[kc0] at hl
 obtain⟨c0,c1,rfl⟩:=list2 hl
 obtain⟨y0,y1,rfl⟩:=list2 (α:=DataW H×List MemPlace) hlen
 ·have h0:=hf 0 ⟨"Name",zB,0,false,"","",0⟩ rfl
  have h1:=hf 1 ⟨"Wide",zd,1,false,"","",16⟩ rfl
  simp only[ZZ0,q10,List.drop_zero,List.take_succ_cons,List.take_zero,List.drop_succ_cons,List.getElem?_cons_zero,List.getElem?_cons_succ] at h0 h1
  obtain⟨s,e0,_,hs⟩:=DataW.trod_string XB h0
  obtain⟨n,e1,_,_⟩:=DataW.trod_int Wp h1
  simp only[List.cons.injEq,and_true] at e0 e1
  subst e0 e1
  exact⟨(s,n),rfl,by simpa[maxLen] using hs⟩
theorem each_in {α:Type} [Inhabited α] {e k:Nat} {R:List Value→α→Prop} {a:Addr} {len cap n:Nat} {elems:List (DataW H×List MemPlace)} (ce:PP.cellsOf e=k) (hk:0<k) (hl:len≤cap) (hm:cap≤maxLen) (hn:elems.length=len)
  (hel:∀i,i<len→(W.cells? 0 (a.add (i*PP.cellsOf e)) (PP.cellsOf e)).bind (DataW.trod enc PP W 0 (fun _=>true) held n e)=elems[i]?)
  (hone:∀cs x,DataW.trod enc PP W 0 (fun _=>true) held n e cs=some x→∃y,R cs y):
  ∃(css:List (List Value)) (ys:List α),Sl (fun _=>True) W k (.slice (some a) len cap) css∧css.length=len∧ys.length=len∧∀i,i<len→R (css.getD i []) (ys.getD i default):=by
 have each:∀i,i<len→∃q:List Value×α,W.cells? 0 (a.add (i*k)) k=some q.1∧R q.1 q.2:=fun i hi=>by
  have h:=hel i hi
  rw[List.getElem?_eq_getElem (by omega),ce] at h
  obtain⟨cs',h1,h2⟩:=Option.bind_eq_some_iff.1 h
  obtain⟨y,hy⟩:=hone _ _ h2
  exact⟨(cs',y),h1,hy⟩
 obtain⟨q,hq⟩:=Go.Deep.choose_lt each
 refine⟨(List.range len).map fun i=>(q i).1,(List.range len).map fun i=>(q i).2,?_,by simp,by simp,fun i hi=>?_⟩
 ·refine sl_of hk hl hm (by simp) (fun c hc=>?_) fun i hi j hj=>?_
  ·obtain⟨i,hi,rfl⟩:=List.mem_map.1 hc
   exact(World.cells?_some (hq i (List.mem_range.1 hi)).1).2.1
  ·have hc:=(World.cells?_some (hq i hi).1).2.2 j hj
   rw[Go.Deep.add_add] at hc
   rw[hc]
   simp[List.getD_eq_getElem?_getD,hi]
 ·have:=(hq i hi).2
  simpa[List.getD_eq_getElem?_getD,hi] using this
theorem decls_in (h:DataW.trod enc PP W 0 (fun _=>true) held fuel xb cs=some x):∃v ds,cs=[v]∧DclsR (fun _=>True) W v ds∧qo0 ds:=by
 rcases DataW.trod_slice Wm h with⟨rfl,_⟩|⟨a,len,cap,elems,rest,n,_,rfl,_,_,hl,hm,hn,hel,_,_⟩
 ·exact⟨_,[],rfl,⟨⟨none,0,rfl,by simp,by simp,fun h=>absurd rfl h⟩,by simp⟩,fun i hi=>absurd hi (by simp)⟩
 ·obtain⟨css,ys,hs,h1,h2,h3⟩:=each_in (α:=M.Dcl) (R:=fun cs d=>cs=[.string d.1,.int .i64 d.2]∧d.1.size≤9223372036854775807) kc0 (by decide) hl hm hn hel fun cs x hx=>Yv0 hx
  refine⟨_,ys,rfl,?_,fun i hi=>?_⟩
  ·have e:css=ys.map fun d=>[Value.string d.1,Value.int .i64 d.2]:=by
    refine List.ext_getElem (by simp;omega) fun i g1 g2=>?_
    have:=(h3 i (by omega)).1
    rw[List.getD_eq_getElem?_getD,List.getElem?_eq_getElem g1,List.getD_eq_getElem?_getD,List.getElem?_eq_getElem (by omega)] at this
    simpa using this
   rw[e] at hs
   exact hs
  ·have:=(h3 i (by omega)).2
   rw[List.getD_eq_getElem?_getD,List.getElem?_eq_getElem hi] at this⊢
   simpa using this
theorem term_in:∀(fuel:Nat) {cs:List Value} {x:DataW H×List MemPlace},DataW.trod enc PP W 0 (fun _=>true) held fuel zA cs=some x→∃t:M.Tm,TmR (fun _=>True) W cs t∧Ue t=true:=by
 intro fuel
 induction fuel using Nat.strongRecOn with
 |_ fuel ih=>
 intro cs x h
 obtain⟨xs,n,hfu,_,hl,hlen,hf⟩:=DataW.trod_struct ZG0 h
 rw[kb0] at hl
 obtain⟨c0,c1,c2,c3,c4,rfl⟩:=list5 hl
 clear hl
 obtain⟨y0,y1,y2,y3,y4,rfl⟩:=list5 (α:=DataW H×List MemPlace) hlen
 ·have h0:=hf 0 ⟨"Op",zd,0,false,"","",0⟩ rfl
  have h1:=hf 1 ⟨"A",zd,1,false,"","",8⟩ rfl
  have h2:=hf 2 ⟨"B",zd,2,false,"","",16⟩ rfl
  have h3:=hf 3 ⟨"Name",zB,3,false,"","",24⟩ rfl
  have h4:=hf 4 ⟨"Kids",yF,4,false,"","",40⟩ rfl
  simp only[ZZ0,q10,c1_Ls,List.drop_zero,List.take_succ_cons,List.take_zero,List.drop_succ_cons,List.getElem?_cons_zero,List.getElem?_cons_succ] at h0 h1 h2 h3 h4
  obtain⟨o,e0,_,_⟩:=DataW.trod_int Wp h0
  obtain⟨p,e1,_,_⟩:=DataW.trod_int Wp h1
  obtain⟨q,e2,_,_⟩:=DataW.trod_int Wp h2
  obtain⟨s,e3,_,hs⟩:=DataW.trod_string XB h3
  simp only[List.cons.injEq,and_true] at e0 e1 e2 e3
  subst e0 e1 e2 e3
  have hs':s.size≤9223372036854775807:=by simpa[maxLen] using hs
  rcases DataW.trod_slice xa0 h4 with⟨e4,_⟩|⟨a,len,cap,elems,rest,m,hm',e4,_,_,hl,hm,hn,hel,_,_⟩
  ·simp only[List.cons.injEq,and_true] at e4
   subst e4
   exact⟨.mk o p q s [],leafR o p q s,YY0.2 ⟨hs',fun k hk=>by cases hk⟩⟩
  ·simp only[List.cons.injEq,and_true] at e4
   subst e4
   obtain⟨css,ys,hsl,g1,g2,g3⟩:=each_in (α:=M.Tm) (R:=fun cs t=>TmR (fun _=>True) W cs t∧Ue t=true) kb0 (by decide) hl hm hn hel fun cs x hx=>ih m (by omega) hx
   refine⟨.mk o p q s ys,TmR.of (t:= .mk o p q s ys) ⟨css,hsl,by show css.length=ys.length;omega,fun i hi=>?_⟩,YY0.2 ⟨hs',fun k hk=>?_⟩⟩
   ·have hi':i<ys.length:=hi
    exact(g3 i (by omega)).1
   ·obtain⟨i,hi,rfl⟩:=List.getElem_of_mem hk
    have hi':i<ys.length:=hi
    have:=(g3 i (by omega)).2
    rwa[List.getD_eq_getElem?_getD,List.getElem?_eq_getElem hi'] at this
end
end Go.Proofs.YtaekfnbnhjgboaaGreatDoor
end
section
namespace Go.Proofs.YtaekfnbnhjgboaaGreatDoor
open Go Go.Vc Go.Proofs
variable {w:World} {K:Value→World→Prop} {F F' D G:Nat→Prop}
theorem Zs0 {xs ys:List Int} (hl:xs.length=ys.length) (h:∀j,j<xs.length→xs.getD j 0=ys.getD j 0):xs=ys:=
 List.ext_getElem hl fun j h1 h2=>by have:=h j h1;simpa[List.getD_eq_getElem?_getD,h1,h2] using this
theorem qp {α:Type} {xs:List α} {i j:Nat} {x d:α} (hi:i<xs.length):(xs.set i x).getD j d=if i=j then x else xs.getD j d:=by
 simp only[List.getD_eq_getElem?_getD,List.getElem?_set]
 by_cases e:i=j
 ·subst e;simp[hi]
 ·simp[e]
theorem ints_small {v:Value} {xs:List Int} (h:Ints F w v xs):xs.length≤9223372036854775807:=by
 obtain⟨_,_,_,h1,h2,_⟩:=h.shape;simp at h1;omega
theorem vmkS_agg {P:Program} {bs n k:Nat} {t:TypeId} {cs:List Value} {k1 k2:IntKind} (hT:elZ P t k bs=true) (hk:0<k) (hz:yK P (Jh P t) (.agg ⟨cs⟩)) (h48:bs*n≤281474976710656) (h63:n≤9223372036854775807)
  (hK:∀v' w',Own P 0 k t w' v' (List.replicate n cs)→Ext w w'→(∀b,v'.ownBlock=some b→w.heap.size≤b)→K v' w'):kP0 P t (.int k1 n) (.int k2 n) w K:=by
 obtain⟨hu,i,z',hi,hz',hsz,hby,hzs⟩:=xw0 hT
 have:z'= .agg ⟨cs⟩:=by
  unfold yK at hz;rw[hi] at hz;simp only[hz',Option.some.injEq] at hz;exact hz
 subst this
 subst hby
 have hcl:cs.length=k:=hzs
 obtain⟨w',hr,hown,hgr⟩:=run_make_full (P:=P) w 0 t (Jh P t) i _ k hu hi hz' hsz k1 k2 n h48 (by simpa[maxLen] using h63) (by omega)
 have hw:∀x,x∈List.replicate n cs→x.length=k:=fun x hx=>by rw[List.eq_of_mem_replicate hx];exact hcl
 refine⟨_,w',hr,hK _ w' ⟨?_,hw⟩ ((Same.of_grown hgr).mono fun _ _ h=>by cases h) fun b hb=>by cases hb;exact Nat.le_refl _⟩
 have e:(madeCells (Value.agg ⟨cs⟩).cells (n*k)).toList=(List.replicate n cs).flatten:=by
  refine List.ext_getElem (by rw[flatten_len hw];simp[madeCells]) fun j h1 h2=>?_
  have hj:j<n*k:=by rw[flatten_len hw,List.length_replicate] at h2;exact h2
  have hq:j/k<n:=Nat.div_lt_of_lt_mul (by rw[Nat.mul_comm];exact hj)
  have hr':=Nat.mod_lt j hk
  have hf:=flatten_get hw (i:=j/k) (j:=j%k) (by simpa using hq) hr'
  have hjk:j/k*k+j%k=j:=by rw[Nat.mul_comm];exact Nat.div_add_mod j k
  rw[hjk,List.getElem?_eq_getElem h2] at hf
  have hg:(List.replicate n cs).getD (j/k) []=cs:=by simp[List.getD_eq_getElem?_getD,hq]
  rw[hg,List.getElem?_eq_getElem (by omega)] at hf
  rw[Option.some.inj hf]
  simp[madeCells,Value.cells,hcl,hr']
 rw[List.length_replicate]
 rw[e] at hown
 exact hown
theorem eqIntS_same {va vb:Value} {a:List Int} (ha:Ints F w va a) (hb:Ints F' w vb a) (hK:∀w',Ext w w'→K (.bool true) w'):vcall PP qN #[va,vb] w K:=by
 apply yT0;unfold Vv
 have hla:=ints_small ha
 simp(disch:=(simp only[push_cast];done)) only[push_cast,ha.len,hb.len]
 refine zh (fun h=>absurd rfl h) (fun h=>?_)
 refine vloop_up a.length (fun i u w'=>u=[.int .i64 i]∧Ext w w') ⟨rfl,Same.refl _ _⟩ ?_
 rintro i _ _ w1 C hi ⟨rfl,he⟩ hC
 have ha1:=ha.ext he
 have hb1:=hb.ext he
 simp(disch:=(simp only[push_cast];done)) only[push_cast,ha1.len]
 refine zh (fun h2=>?_) (fun h2=>?_)
 ·refine zr fun w2 he2 _=>?_
  have ha2:=ha1.ext he2
  have hb2:=hb1.ext he2
  simp(disch:=first|(simp only[push_cast];done)|omega) only[push_cast,ha2.iaddr,ha2.load,hb2.iaddr,hb2.load,true_and]
  refine zh (fun h3=>absurd rfl h3) (fun h3=>?_)
  rw[inc64' (by omega)]
  exact hC (by omega) _ _ ⟨rfl,he.trans he2⟩
 ·exact hK w1 he
theorem szDecl_spec {s:ByteArray} {n left:Int} (h0:0≤left) (h1:left≤1048576) (hs:s.size≤9223372036854775807) (hK:∀w' r,Ext w w'→(r= -1∨0≤r∧r≤left∧(s.size:Int)≤left)→K (.int .i64 r) w'):vcall PP X2 #[.agg ⟨[.string s,.int .i64 n]⟩,.int .i64 left] w K:=by
 apply yR0;unfold Vt
 refine zu fun b1 w1 hb1 he1 hs1 q1=>?_
 simp(disch:=first|(simp only[push_cast];done)|exact XB) only[push_cast,q1.ld0,Ku]
 rw[show IntKind.i64.wrap (left-(s.size:Int))=left-s.size from zF (by omega) (by omega)]
 refine zh (fun a=>?_) (fun a=>?_)
 ·exact hK _ _ he1 (.inl rfl)
 ·exact hK _ _ he1 (.inr (by omega))
theorem szDeclS_spec {v:Value} {ds:List M.Dcl} {left:Int} (h0:0≤left) (h1:left≤1048576) (hz:qo0 ds) (hd:DclsR F w v ds) (hK:∀w' r,Ext w w'→(r= -1∨0≤r∧r≤left∧(ds.length:Int)≤left)→K (.int .i64 r) w'):vcall PP Yc #[v,.int .i64 left] w K:=by
 apply zx0;unfold Jt
 have hsm:=hd.small
 simp(disch:=(simp only[push_cast];done)) only[push_cast,hd.len]
 rw[show IntKind.i64.wrap (left-(ds.length:Int))=left-ds.length from zF (by omega) (by omega)]
 refine zh (fun a=>hK _ _ (Same.refl _ _) (.inl rfl)) (fun a=>?_)
 refine vloop_up ds.length (fun i u w'=> ∃r:Int,u=[.int .i64 r,.int .i64 i]∧Ext w w'∧0≤r∧r≤left) ⟨_,rfl,Same.refl _ _,by omega,by omega⟩ ?_
 rintro i _ _ w1 C hi ⟨r,rfl,he,r0,r1⟩ hC
 have hd1:=hd.ext he
 simp(disch:=first|(simp only[push_cast];done)|omega) only[push_cast,hd1.len]
 refine zh (fun c=>?_) (fun c=>?_)
 ·simp(disch:=first|(simp only[push_cast];done)|omega) only[push_cast,hd1.iaddr,hd1.load]
  refine szDecl_spec r0 (by omega) (hz i (by omega)) fun w2 r2 he2 hr2=>?_
  simp only[push_cast]
  refine zh (fun d=>hK _ _ (he.trans he2) (.inl rfl)) (fun d=>?_)
  rw[inc64' (by omega)]
  exact hC (by omega) _ _ ⟨r2,rfl,he.trans he2,by omega,by omega⟩
 ·exact hK _ _ he (.inr (by omega))
def jk0:M.Tm→Bool:=M.Tm.fold fun t xs=>decide (t.ks.length≤1048576)&&xs.all id
theorem Yr0 (t:M.Tm):jk0 t=(decide (t.ks.length≤1048576)&&(t.ks.map jk0).all id):=M.Tm.fold_eq _ t
theorem fitB_iff {t:M.Tm}:jk0 t=true↔t.ks.length≤1048576∧∀k,k∈t.ks→jk0 k=true:=by
 rw[Yr0,Bool.and_eq_true,decide_eq_true_eq,List.all_eq_true]
 refine and_congr_right fun _=>⟨fun h k hk=>h _ (List.mem_map_of_mem hk),fun h y hy=>?_⟩
 obtain⟨k,hk,rfl⟩:=List.mem_map.1 hy
 exact h k hk
abbrev SzT (t:M.Tm):Prop:=∀{w:World} {K:Value→World→Prop} {F:Nat→Prop} {v:Value} {left:Int},TermR F w v t→Ue t=true→0≤left→left≤1048576→(∀w' r,Ext w w'→(r= -1∨0≤r∧r+M.sizeM t≤left+1∧jk0 t=true)→K (.int .i64 r) w')→vcall PP Z1 #[v,.int .i64 left] w K
theorem szTermS_of {ks:List M.Tm} (ih:∀k,k∈ks→SzT k) {v:Value} {left:Int} (hk:TmsR F w v ks) (hs:∀k,k∈ks→Ue k=true) (h0:0≤left) (h1:left≤1048576)
  (hK:∀w' r,Ext w w'→(r= -1∨0≤r∧r+M.szT ks ks.length≤left∧(ks.length:Int)≤left∧∀k,k∈ks→jk0 k=true)→K (.int .i64 r) w'):vcall PP Yb #[v,.int .i64 left] w K:=by
 apply zw0;unfold Js
 have hsm:=hk.small
 simp(disch:=(simp only[push_cast];done)) only[push_cast,hk.len]
 rw[show IntKind.i64.wrap (left-(ks.length:Int))=left-ks.length from zF (by omega) (by omega)]
 refine zh (fun a=>hK _ _ (Same.refl _ _) (.inl rfl)) (fun a=>?_)
 refine vloop_up ks.length (fun i u w'=> ∃r:Int,u=[.int .i64 r,.int .i64 i]∧Ext w w'∧0≤r∧r+M.szT ks i≤left-ks.length+i∧∀j,j<i→jk0 (ks.getD j default)=true) ⟨_,rfl,Same.refl _ _,by omega,by show _+((0:Nat):Int)≤_;omega,fun j hj=>absurd hj (by omega)⟩ ?_
 rintro i _ _ w1 C hi ⟨r,rfl,he,r0,r1,hp⟩ hC
 have hk1:=hk.ext he
 simp(disch:=first|(simp only[push_cast];done)|omega) only[push_cast,hk1.len]
 refine zh (fun c=>?_) (fun c=>?_)
 ·have hmem:ks.getD i default∈ks:=M.getD_mem (by omega) _
  simp(disch:=first|(simp only[push_cast];done)|omega) only[push_cast,hk1.iaddr]
  refine hk1.load Zp (by omega) fun x hx=>?_
  refine ih _ hmem hx (hs _ hmem) r0 (by omega) fun w2 r2 he2 hr2=>?_
  simp only[push_cast]
  refine zh (fun d=>hK _ _ (he.trans he2) (.inl rfl)) (fun d=>?_)
  rw[inc64' (by omega)]
  rcases hr2 with h|⟨g0,g1,g2⟩
  ·omega
  have hsz:=M.szT_succ (ks:=ks) (i:=i) (by omega)
  refine hC (by omega) _ _ ⟨r2,rfl,he.trans he2,g0,by omega,fun j hj=>?_⟩
  by_cases e:j<i
  ·exact hp j e
  ·have:j=i:=by omega
   subst this;exact g2
 ·have hi':i=ks.length:=by omega
  subst hi'
  refine hK _ _ he (.inr ⟨r0,by omega,by omega,fun k hk=>?_⟩)
  obtain⟨j,hj,rfl⟩:=List.getElem_of_mem hk
  have:=hp j (by omega)
  rwa[List.getD_eq_getElem?_getD,List.getElem?_eq_getElem hj] at this
theorem szTerm_spec:∀t:M.Tm,SzT t:=by
 refine M.Tm.ind fun t ih=>?_
 intro w K F v left ht hs h0 h1 hK
 apply yQ0;unfold Vs
 obtain⟨kv,rfl,hks⟩:=ht
 obtain⟨s1,s2⟩:=YY0.1 hs
 refine zu fun b1 w1 hb1 he1 hs1 q1=>?_
 simp(disch:=first|(simp only[push_cast];done)|exact XB) only[push_cast,q1.ld3,q1.ld4,Ku]
 rw[show IntKind.i64.wrap (left-(t.s.size:Int))=left-t.s.size from zF (by omega) (by omega)]
 refine zh (fun a=>hK _ _ he1 (.inl rfl)) (fun a=>?_)
 refine szTermS_of ih (hks.ext he1) s2 (by omega) (by omega) fun w2 r he2 hr=>?_
 simp only[push_cast]
 refine zh (fun d=>hK _ _ (he1.trans he2) (.inl rfl)) (fun d=>?_)
 rcases hr with h|⟨g0,g1,g2,g3⟩
 ·omega
 have hsz:=M.szT_all t
 exact hK _ _ (he1.trans he2) (.inr ⟨g0,by omega,fitB_iff.2 ⟨by omega,g3⟩⟩)
theorem toDecl_spec {s:ByteArray} {n:Int} (hK:∀w',Ext w w'→K (.agg ⟨[.string s,.int .i64 n]⟩) w'):vcall PP X1 #[.agg ⟨[.string s,.int .i64 n]⟩] w K:=by
 apply yP0;unfold Vr
 refine zu fun b1 w1 hb1 he1 hs1 h1=>?_
 refine zE ji fun b2 w2 hb2 he2 hs2 h2=>?_
 refine zE ji fun b3 w3 hb3 he3 hs3 h3=>?_
 have q1:=(h1.ext he2).ext he3
 simp(disch:=(simp only[push_cast];done)) only[push_cast,q1.ld0]
 refine h3.st (i:=0) rfl rfl Qr rfl fun w4 hw4 hz4 h4=>?_
 have q4:=q1.same hw4 (by omega)
 simp(disch:=(simp only[push_cast];done)) only[push_cast,q4.ld1]
 refine h4.st (i:=1) rfl rfl jp rfl fun w5 hw5 hz5 h5=>?_
 replace h5:Blk w5 b3 [.string s,.int .i64 n] zx:=h5
 rw[h5.ldAgg (t:=zx) K6]
 have h25:Same (fun b=>b=b3) w3 w5:=hw4.trans hw5
 have h2':=(h2.ext he3).same h25 (by omega)
 refine stDecl h2' fun w6 hw6 hz6 h6=>?_
 rw[h6.lv (t:=zx) K6]
 refine hK _ (Ext.then (Ext.then ((he1.trans he2).trans he3) h25 fun y hy=>by subst hy;omega) hw6 fun y hy=>by subst hy;omega)
theorem toDeclS_own {v:Value} {ds:List M.Dcl} (hd:DclsR F w v ds) (hsm:ds.length≤1048576) (hK:∀w' v',Ext w w'→Own PP 0 2 zC w' v' (ds.map fun d=>[Value.string d.1,Value.int .i64 d.2])→(∀b,v'.ownBlock=some b→w.heap.size≤b)→K v' w'):vcall PP yP #[v] w K:=by
 apply zv0;unfold Jr
 simp(disch:=(simp only[push_cast];done)) only[push_cast,hd.len]
 refine vmkS_agg (cs:=[.string ⟨#[]⟩,.int .i64 0]) xo0 (by decide) (by rw[yy0];exact ji) (by omega) (by omega) fun v1 w1 hv1 he1 hn1=>?_
 refine vloop_up ds.length (fun i u w'=>u=[.int .i64 i]∧Ext w w'∧∃css,css.length=ds.length∧Own PP 0 2 zC w' v1 css∧∀j,j<i→css.getD j []=[.string (ds.getD j qK0).1,.int .i64 (ds.getD j qK0).2]) ⟨rfl,he1,_,by simp,hv1,by omega⟩ ?_
 rintro i _ _ w2 C hi ⟨rfl,he2,css,hl,hv2,hp⟩ hC
 have hd2:=hd.ext he2
 simp(disch:=(simp only[push_cast];done)) only[push_cast,hd2.len]
 refine zh (fun a=>?_) (fun a=>?_)
 ·simp(disch:=first|(simp only[push_cast];done)|omega) only[push_cast,hd2.iaddr,hd2.load]
  refine toDecl_spec fun w3 he3=>?_
  have hv3:=hv2.ext he3
  have hvi:=hv3.sl
  simp(disch:=first|(simp only[push_cast];done)|omega) only[push_cast,hvi.iaddr]
  refine own_stEl hv3 (by decide) rfl (by intro v hv;simp only[List.mem_cons,List.not_mem_nil,or_false] at hv;rcases hv with rfl|rfl<;>rfl) K6 (by omega) fun w4 hv4 hw4 hz4=>?_
  rw[inc64' (by omega)]
  refine hC (by omega) _ _ ⟨rfl,Ext.then (he2.trans he3) hw4 fun b hb=>hn1 b hb,_,by rw[List.length_set];exact hl,hv4,fun j hj=>?_⟩
  rw[qp (by omega)]
  by_cases e:i=j
  ·subst e;rw[if_pos rfl]
  ·rw[if_neg e];exact hp j (by omega)
 ·have e:css=ds.map fun d=>[Value.string d.1,Value.int .i64 d.2]:=by
   refine List.ext_getElem (by simp;omega) fun j g1 g2=>?_
   have:=hp j (by omega)
   rw[List.getD_eq_getElem?_getD,List.getElem?_eq_getElem g1,List.getD_eq_getElem?_getD,List.getElem?_eq_getElem (by omega)] at this
   simpa using this
  subst e
  exact hK w2 v1 he2 hv2 fun b hb=>hn1 b hb
theorem XE {v:Value} {ds:List M.Dcl} (hd:DclsR F w v ds) (hsm:ds.length≤1048576) (hK:∀w' v',Ext w w'→DclsR (fun b=>w.heap.size≤b) w' v' ds→K v' w'):vcall PP yP #[v] w K:=
 toDeclS_own hd hsm fun w' v' he ho hb=>hK w' v' he (ho.sl.weaken fun b h _=>hb b h)
abbrev CpT (t:M.Tm):Prop:=∀{w:World} {K:Value→World→Prop} {F:Nat→Prop} {v:Value},TermR F w v t→jk0 t=true→(∀w' v',Ext w w'→TermR (fun b=>w.heap.size≤b) w' v' t→K v' w')→vcall PP yw #[v] w K
theorem tmR_one {cs:List Value} {t:M.Tm} (h:TmR F w cs t):∀c,c∈cs→c.oneCell'=true:=fun c hc=>by
 obtain⟨kv',rfl,css',hs',_⟩:=h.inv
 obtain⟨a,l,rfl,_⟩:=hs'.shape
 simp only[List.mem_cons,List.not_mem_nil,or_false] at hc
 rcases hc with rfl|rfl|rfl|rfl|rfl<;>rfl
theorem toTermS_of {ks:List M.Tm} (ih:∀k,k∈ks→CpT k) {v:Value} (hk:TmsR F w v ks) (hsm:ks.length≤1048576) (hf:∀k,k∈ks→jk0 k=true)
  (hK:∀w' v',Ext w w'→TmsR (fun b=>w.heap.size≤b) w' v' ks→K v' w'):vcall PP kf #[v] w K:=by
 apply Ji;unfold Yo
 simp(disch:=(simp only[push_cast];done)) only[push_cast,hk.len]
 refine vmkS_agg (cs:=YP0) Wo (by decide) (by rw[KM];exact xu) (by omega) (by omega) fun v1 w1 hv1 he1 hn1=>?_
 have hz1:=he1.size
 refine vloop_up ks.length (fun i u w'=>u=[.int .i64 i]∧Ext w w'∧∃css,css.length=ks.length∧Own PP 0 5 zt w' v1 css∧∀j,j<i→TmR (fun b=>w.heap.size≤b∧v1.ownBlock≠some b) w' (css.getD j []) (ks.getD j default)) ⟨rfl,he1,_,by simp,hv1,by omega⟩ ?_
 rintro i _ _ w2 C hi ⟨rfl,he2,css,hl,hv2,hp⟩ hC
 have hk2:=hk.ext he2
 have hz2:=he2.size
 simp(disch:=(simp only[push_cast];done)) only[push_cast,hk2.len]
 refine zh (fun a=>?_) (fun a=>?_)
 ·have hmem:ks.getD i default∈ks:=M.getD_mem (by omega) _
  simp(disch:=first|(simp only[push_cast];done)|omega) only[push_cast,hk2.iaddr]
  refine hk2.load Zp (by omega) fun x hx=>?_
  refine ih _ hmem hx (hf _ hmem) fun w3 v3 he3 ht3=>?_
  obtain⟨c3,rfl,hc3⟩:=ht3.cells
  have hv3:=hv2.ext he3
  have hvi:=hv3.sl
  simp(disch:=first|(simp only[push_cast];done)|omega) only[push_cast,hvi.iaddr]
  have hlt:∀b,v1.ownBlock=some b→b<w2.heap.size:=fun b hb=>(hv2.lt hb).2
  refine own_stEl hv3 (by decide) (qu hc3) (tmR_one hc3) zQ (by omega) fun w4 hv4 hw4 hz4=>?_
  rw[inc64' (by omega)]
  refine hC (by omega) _ _ ⟨rfl,Ext.then (he2.trans he3) hw4 fun b hb=>hn1 b hb,_,by rw[List.length_set];exact hl,hv4,fun j hj=>?_⟩
  rw[qp (by omega)]
  by_cases e:i=j
  ·subst e;rw[if_pos rfl]
   refine(hc3.weaken (F':=fun b=>w.heap.size≤b∧v1.ownBlock≠some b) fun b hb _=>⟨by omega,fun e=>by have:=hlt b e;omega⟩).same hw4 fun b hb _ e=>hb.2 e
  ·rw[if_neg e];exact((hp j (by omega)).ext he3).same hw4 fun b hb _ e=>hb.2 e
 ·exact hK w2 v1 he2 ⟨css,hv2.sl.weaken fun b hb _=>hn1 b hb,hl,fun j hj=>(hp j (by omega)).weaken fun b hb _=>hb.1⟩
theorem toTerm_spec:∀t:M.Tm,CpT t:=by
 refine M.Tm.ind fun t ih=>?_
 intro w K F v ht hf hK
 apply KP;unfold Xe
 obtain⟨kv,rfl,hks⟩:=ht
 obtain⟨f1,f2⟩:=fitB_iff.1 hf
 refine zu fun b1 w1 hb1 he1 hs1 h1=>?_
 refine zE xu fun b2 w2 hb2 he2 hs2 h2=>?_
 refine zE xu fun b3 w3 hb3 he3 hs3 h3=>?_
 have q3:=(h1.ext he2).ext he3
 simp(disch:=(simp only[push_cast];done)) only[push_cast,q3.ld0]
 refine h3.st (i:=0) rfl rfl jp rfl fun w4 hw4 hz4 h4=>?_
 have q4:=q3.same hw4 (by omega)
 simp(disch:=(simp only[push_cast];done)) only[push_cast,q4.ld1]
 refine h4.st (i:=1) rfl rfl jp rfl fun w5 hw5 hz5 h5=>?_
 have q5:=q4.same hw5 (by omega)
 simp(disch:=(simp only[push_cast];done)) only[push_cast,q5.ld2]
 refine h5.st (i:=2) rfl rfl jp rfl fun w6 hw6 hz6 h6=>?_
 have q6:=q5.same hw6 (by omega)
 simp(disch:=(simp only[push_cast];done)) only[push_cast,q6.ld3]
 refine h6.st (i:=3) rfl rfl Qr rfl fun w7 hw7 hz7 h7=>?_
 have q7:=q6.same hw7 (by omega)
 simp(disch:=(simp only[push_cast];done)) only[push_cast,q7.ld4]
 have h37:Same (fun b=>b=b3) w3 w7:=hw4.trans (hw5.trans (hw6.trans hw7))
 have he13:=(he1.trans he2).trans he3
 have he7:Ext w w7:=Ext.then he13 h37 fun y hy=>by subst hy;omega
 refine toTermS_of ih (hks.ext he7) f1 f2 fun w8 kv' he8 hk8=>?_
 have h8:=h7.ext he8
 have hkc:kv'.cells= #[kv']∧kv'.oneCell'=true:=by
  obtain⟨css,hs,_⟩:=hk8
  obtain⟨a,c,rfl,_⟩:=hs.shape
  exact⟨rfl,rfl⟩
 have hz8:=he8.size
 have hz37:=h37.size
 try simp only[push_cast]
 refine h8.st (i:=4) hkc.1 hkc.2 Wk rfl fun w9 hw9 hz9 h9=>?_
 replace h9:Blk w9 b3 [.int .i64 t.op,.int .i64 t.a,.int .i64 t.b,.string t.s,kv'] zb:=h9
 rw[h9.ldAgg (t:=zb) zQ]
 have hk9:TmsR (fun b=>w7.heap.size≤b) w9 kv' t.ks:=hk8.same hw9 fun b hb _ e=>by omega
 have h2':=(((h2.ext he3).same h37 (by omega)).ext he8).same hw9 (by omega)
 refine jI0 h2' rfl (TmR.of (t:=t) hk9) (fun x hx=>by omega) fun w10 hw10 hz10 ht10=>?_
 exact hK _ _ (Ext.then (Ext.then (he7.trans he8) hw9 fun y hy=>by subst hy;omega) hw10 fun y hy=>by subst hy;omega) (ht10.weaken fun b hb _=>by have:=he7.size;omega)
theorem qi0 {s:ByteArray} {n:Int} (hK:∀w',Ext w w'→K (.bool true) w'):vcall PP X4 #[.agg ⟨[.string s,.int .i64 n]⟩,.agg ⟨[.string s,.int .i64 n]⟩] w K:=by
 apply yV0;unfold Vx
 refine zu fun b1 w1 hb1 he1 hs1 h1=>?_
 refine zu fun b2 w2 hb2 he2 hs2 h2=>?_
 have q1:=h1.ext he2
 simp(disch:=(simp only[push_cast];done)) only[push_cast,q1.ld0,h2.ld0,q1.ld1,h2.ld1]
 refine zh (fun h=>absurd rfl h) (fun _=>?_)
 try simp(disch:=(simp only[push_cast];done)) only[push_cast,q1.ld0,h2.ld0,q1.ld1,h2.ld1]
 refine zh (fun h=>absurd rfl h) (fun _=>?_)
 exact hK _ (he1.trans he2)
theorem eqDeclS_same {va vb:Value} {ds:List M.Dcl} (ha:DclsR F w va ds) (hb:DclsR F' w vb ds) (hK:∀w',Ext w w'→K (.bool true) w'):vcall PP Yg #[va,vb] w K:=by
 apply zC0;unfold Jy
 have hla:=ha.small
 simp(disch:=(simp only[push_cast];done)) only[push_cast,ha.len,hb.len]
 refine zh (fun h=>absurd rfl h) (fun h=>?_)
 refine vloop_up ds.length (fun i u w'=>u=[.int .i64 i]∧Ext w w') ⟨rfl,Same.refl _ _⟩ ?_
 rintro i _ _ w1 C hi ⟨rfl,he⟩ hC
 have ha1:=ha.ext he
 have hb1:=hb.ext he
 simp(disch:=(simp only[push_cast];done)) only[push_cast,ha1.len]
 refine zh (fun h2=>?_) (fun h2=>?_)
 ·refine zr fun w2 he2 _=>?_
  have ha2:=ha1.ext he2
  have hb2:=hb1.ext he2
  simp(disch:=first|(simp only[push_cast];done)|omega) only[push_cast,ha2.iaddr,ha2.load,hb2.iaddr,hb2.load,true_and]
  refine qi0 fun w3 he3=>?_
  simp only[push_cast,Bool.not_true,true_and]
  rw[inc64' (by omega)]
  exact hC (by omega) _ _ ⟨rfl,he.trans (he2.trans he3)⟩
 ·exact hK w1 he
abbrev EqT (t:M.Tm):Prop:=∀{w:World} {K:Value→World→Prop} {F G:Nat→Prop} {va vb:Value},TermR F w va t→TermR G w vb t→(∀w',Ext w w'→K (.bool true) w')→vcall PP Z2 #[va,vb] w K
theorem eqTermS_of {ks:List M.Tm} (ih:∀k,k∈ks→EqT k) {va vb:Value} (ha:TmsR F w va ks) (hb:TmsR F' w vb ks) (hK:∀w',Ext w w'→K (.bool true) w'):vcall PP Ye #[va,vb] w K:=by
 apply zA0;unfold Jw
 have hla:=ha.small
 simp(disch:=(simp only[push_cast];done)) only[push_cast,ha.len,hb.len]
 refine zh (fun h=>absurd rfl h) (fun h=>?_)
 refine vloop_up ks.length (fun i u w'=>u=[.int .i64 i]∧Ext w w') ⟨rfl,Same.refl _ _⟩ ?_
 rintro i _ _ w1 C hi ⟨rfl,he⟩ hC
 have ha1:=ha.ext he
 have hb1:=hb.ext he
 simp(disch:=(simp only[push_cast];done)) only[push_cast,ha1.len]
 refine zh (fun h2=>?_) (fun h2=>?_)
 ·refine zr fun w2 he2 _=>?_
  obtain⟨cssa,sa,la,ka⟩:=ha1.ext he2
  obtain⟨cssb,sb,lb,kb⟩:=hb1.ext he2
  have hmem:ks.getD i default∈ks:=M.getD_mem (by omega) _
  have ga:aggB PP zb 5=true:=zQ
  simp(disch:=first|(simp only[push_cast];done)|omega) only[push_cast,sa.iaddr,sa.ldAgg,sb.iaddr,sb.ldAgg,true_and]
  refine ih _ hmem (ka i (by omega)).term (kb i (by omega)).term fun w3 he3=>?_
  simp only[push_cast,Bool.not_true,true_and]
  rw[inc64' (by omega)]
  exact hC (by omega) _ _ ⟨rfl,he.trans (he2.trans he3)⟩
 ·exact hK w1 he
theorem qg0:∀t:M.Tm,EqT t:=by
 refine M.Tm.ind fun t ih=>?_
 intro w K F G va vb ha hb hK
 apply yS0;unfold Vu
 obtain⟨kva,rfl,hka⟩:=ha
 obtain⟨kvb,rfl,hkb⟩:=hb
 refine zu fun b1 w1 hb1 he1 hs1 h1=>?_
 refine zu fun b2 w2 hb2 he2 hs2 h2=>?_
 have q1:=h1.ext he2
 simp(disch:=(simp only[push_cast];done)) only[push_cast,q1.ld0,h2.ld0,q1.ld1,h2.ld1,q1.ld2,h2.ld2,q1.ld3,h2.ld3,q1.ld4,h2.ld4]
 refine zh (fun h=>absurd rfl h) (fun _=>?_)
 refine zh (fun h=>absurd rfl h) (fun _=>?_)
 refine zh (fun h=>absurd rfl h) (fun _=>?_)
 refine zh (fun h=>absurd rfl h) (fun _=>?_)
 have hE:=he1.trans he2
 refine eqTermS_of ih (hka.ext hE) (hkb.ext hE) fun w3 he3=>?_
 simp only[push_cast,Bool.not_true]
 exact hK _ (hE.trans he3)
end Go.Proofs.YtaekfnbnhjgboaaGreatDoor
end
section
namespace Go.M
def vecL (w n:Nat):List UInt8:=35::(List.range w).reverse.map fun i=>if n/2^i%2=1 then 49 else 48
def digL (n:Int):List UInt8:=[UInt8.ofNat (48+n.toNat)]
def textF (t:Tm) (xs:List (List UInt8)):List UInt8:=
 if t.op=20 then vecL t.a.toNat t.b.toNat else if t.op=21 then t.s.data.toList else if t.op=24 then[116,114,117,101]
 else 40::(wordL t.op++((if t.op=22 then 32::(digL t.a++32::digL t.b) else[])++(xs.flatMap (fun x=>32::x)++[41])))
def textL:Tm→List UInt8:=Tm.fold textF
theorem textL_eq (t:Tm):textL t=textF t (t.ks.map textL):=Tm.fold_eq _ t
def Stop (r:List UInt8):Prop:=∀c,r.head?=some c→c=32∨c=41
def kJ0 (a:List UInt8):Prop:=∀c,c∈a→c≠32∧c≠41
theorem atom_cancel:∀{a b r s:List UInt8},kJ0 a→kJ0 b→Stop r→Stop s→a++r=b++s→a=b∧r=s
 |[],[],r,s,_,_,_,_,h=>⟨rfl,h⟩
 |[],y::b,r,s,_,hb,hr,_,h=>by
  have h1:r=y::(b++s):=h
  have h2:=hb y List.mem_cons_self
  rcases hr y (by rw[h1];rfl) with e|e
  ·exact absurd e h2.1
  ·exact absurd e h2.2
 |x::a,[],r,s,ha,_,_,hs,h=>by
  have h1:s=x::(a++r):=h.symm
  have h2:=ha x List.mem_cons_self
  rcases hs x (by rw[h1];rfl) with e|e
  ·exact absurd e h2.1
  ·exact absurd e h2.2
 |x::a,y::b,r,s,ha,hb,hr,hs,h=>by
  have h1:x::(a++r)=y::(b++s):=h
  simp only[List.cons.injEq] at h1
  obtain⟨rfl,h1⟩:=h1
  obtain⟨rfl,e⟩:=atom_cancel (fun c hc=>ha c (List.mem_cons_of_mem _ hc)) (fun c hc=>hb c (List.mem_cons_of_mem _ hc)) hr hs h1
  exact⟨rfl,e⟩
theorem km {c:UInt8} {r:List UInt8} (h:c=32∨c=41):Stop (c::r):=fun d hd=>by
 have:d=c:=by simpa using hd.symm
 subst this;exact h
theorem word_free:∀o:Fin 28,kJ0 (wordL o):=by unfold kJ0;decide+kernel
theorem word_inj:∀o p:Fin 28,wordL o=wordL p→wordL o≠[]→o=p:=by decide+kernel
theorem word_ne:∀o:Fin 28,1≤o.1→(o.1≤17∨o.1=22∨o.1=23∨25≤o.1)→wordL o≠[]:=by decide+kernel
theorem vec_inj:∀w:Fin 5,∀a:Fin 16,∀v:Fin 5,∀b:Fin 16,a.1<2^w.1→b.1<2^v.1→vecL w a=vecL v b→w=v∧a=b:=by decide+kernel
theorem kT0 (w n:Nat):kJ0 (vecL w n):=fun c hc=>by
 unfold vecL at hc
 rcases List.mem_cons.1 hc with rfl|hc
 ·decide
 ·obtain⟨i,_,rfl⟩:=List.mem_map.1 hc
  split<;>decide
theorem dig_inj:∀a b:Fin 4,digL a=digL b→a=b:=by decide+kernel
theorem dig_free:∀a:Fin 4,kJ0 (digL a):=by unfold kJ0;decide+kernel
section
variable {ds:List Dcl} {t u:Tm}
theorem name_ok (hd:declOk ds=true) (hs:sortM ds t≠ -1) (ho:t.op=21):t.s.data.toList≠[]∧t.s≠tru∧∀c,c∈t.s.data.toList→97≤c.toNat∧c.toNat≤122:=by
 have hf:=name_found hs ho
 have hj:(findD ds t.s).toNat<ds.length:=by have:=(findD_lt ds t.s).2;omega
 have hg:=findD_get hf
 have hok:=(decl_iff.1 hd).2.1 _ hj
 unfold dclOk at hok
 rw[hg] at hok
 simp only[Bool.and_eq_true,decide_eq_true_eq,nameOk] at hok
 obtain⟨⟨⟨⟨⟨⟨h1,h2⟩,h3⟩,h4⟩,_⟩,_⟩,_⟩:=hok
 refine⟨fun e=>?_,h3,fun c hc=>?_⟩
 ·have:t.s.size=0:=by show t.s.data.size=0;rw[←Array.length_toList,e];rfl
  omega
 ·have:=Array.all_eq_true'.1 h4 c (Array.mem_toList_iff.1 hc)
  simpa using this
theorem right_op (hs:sortM ds t≠ -1):arity t.op=t.ks.length∧plainM t=true∧((1≤t.op∧t.op≤17)∨(20≤t.op∧t.op≤27)):=by
 obtain⟨hf,_,_⟩:=sort_parts hs
 obtain⟨h1,h2⟩:=formed_iff.1 hf
 exact⟨h1,h2,arity_ops (by omega)⟩
theorem VQ {o:Int} (h:o=20∨o=21∨o=24):arity o=0:=by unfold arity;rw[if_pos h]
theorem node_arity {o:Int} (h:(1≤o∧o≤17)∨(20≤o∧o≤27)) (hn: ¬(o=20∨o=21∨o=24)):1≤arity o:=by
 unfold arity;rw[if_neg hn];repeat' split
 all_goals omega
theorem vec_ok (hs:sortM ds t≠ -1) (ho:t.op=20):vok t.a t.b=true:=by
 have h:=(sort_parts hs).2.2
 rw[h] at hs
 unfold sortK at hs
 rw[if_pos ho] at hs
 split at hs
 ·assumption
 ·exact absurd rfl hs
theorem cut_ab (hd:declOk ds=true) (hs:sortM ds t≠ -1) (ho:t.op=22):0≤t.b∧t.b≤t.a∧t.a<4:=by
 have h:=(sort_parts hs).2.2
 have hr:(t.ks.map (sortM ds)).getD 0 0≤4:=by
  by_cases hi:0<t.ks.length
  ·rw[getD_map _ hi 0 default];exact(sort_range hd _).2
  ·rw[List.getD_eq_getElem?_getD,List.getElem?_eq_none (by simpa using hi)];simp
 rw[h] at hs
 unfold sortK at hs
 rw[if_neg (by omega),if_neg (by omega),if_neg (by omega),if_neg (by omega),if_pos ho] at hs
 split at hs
 ·next h=>omega
 ·exact absurd rfl hs
theorem atom_text (hd:declOk ds=true) (hs:sortM ds t≠ -1) (ho:t.op=20∨t.op=21∨t.op=24):textL t=textF t []∧kJ0 (textL t)∧textL t≠[]∧∀c,(textL t).head?=some c→c≠40:=by
 have hk:t.ks=[]:=List.eq_nil_of_length_eq_zero (by have:=(right_op hs).1;rw[VQ ho] at this;omega)
 have e:textL t=textF t []:=by rw[textL_eq,hk];rfl
 refine⟨e,?_⟩
 rw[e]
 unfold textF
 rcases ho with o|o|o
 ·rw[if_pos o]
  exact⟨kT0 _ _,by simp[vecL],fun c hc=>by
   have:c=35:=by simpa[vecL] using hc.symm
   subst this;decide⟩
 ·rw[if_neg (by omega),if_pos o]
  obtain⟨h1,h2,h3⟩:=name_ok hd hs o
  refine⟨fun c hc=>?_,h1,fun c hc=>?_⟩
  ·have:=h3 c hc
   exact⟨fun e=>by subst e;exact absurd this.1 (by decide),fun e=>by subst e;exact absurd this.1 (by decide)⟩
  ·have:=h3 c (List.mem_of_mem_head? hc)
   intro e;subst e;exact absurd this.1 (by decide)
 ·rw[if_neg (by omega),if_neg (by omega),if_pos o]
  exact⟨by unfold kJ0;decide,by decide,fun c hc=>by
   have:c=116:=by simpa using hc.symm
   subst this;decide⟩
theorem ya0 {t u:Tm} (h1:t.op=u.op) (h2:t.a=u.a) (h3:t.b=u.b) (h4:t.s=u.s) (h5:t.ks=u.ks):t=u:=by
 cases t;cases u
 simp only[Tm.op,Tm.a,Tm.b,Tm.s,Tm.ks] at h1 h2 h3 h4 h5
 subst h1;subst h2;subst h3;subst h4;subst h5;rfl
theorem Qv (h:plainM t=true) (ho:t.op≠20∧t.op≠22):t.a=0∧t.b=0:=by
 simp only[plainM,Bool.and_eq_true,Bool.or_eq_true,decide_eq_true_eq] at h
 rcases h.1 with(h|h)|h
 ·exact absurd h ho.1
 ·exact absurd h ho.2
 ·exact h
theorem VN (h:plainM t=true) (ho:t.op≠21):t.s=nada:=by
 simp only[plainM,Bool.and_eq_true,Bool.or_eq_true,decide_eq_true_eq] at h
 exact h.2.resolve_left ho
theorem atom_inj (hd:declOk ds=true) (hs:sortM ds t≠ -1) (hu:sortM ds u≠ -1) (ho:t.op=20∨t.op=21∨t.op=24) (hp:u.op=20∨u.op=21∨u.op=24) (h:textL t=textL u):t=u:=by
 have hk:t.ks=[]:=List.eq_nil_of_length_eq_zero (by have:=(right_op hs).1;rw[VQ ho] at this;omega)
 have hk':u.ks=[]:=List.eq_nil_of_length_eq_zero (by have:=(right_op hu).1;rw[VQ hp] at this;omega)
 have hpl:=(right_op hs).2.1
 have hpl':=(right_op hu).2.1
 rw[(atom_text hd hs ho).1,(atom_text hd hu hp).1] at h
 unfold textF at h
 have letter:∀{v:Tm},sortM ds v≠ -1→v.op=21→∀c r,v.s.data.toList=c::r→97≤c.toNat:=fun{v} hv hov c r e=>((name_ok hd hv hov).2.2 c (by rw[e];exact List.mem_cons_self)).1
 have notrue:∀{v:Tm},sortM ds v≠ -1→v.op=21→v.s.data.toList=[116,114,117,101]→False:=fun{v} hv hov e=>(name_ok hd hv hov).2.1 (by
  have:v.s.data= #[116,114,117,101]:=Array.toList_inj.1 e
  show v.s=tru
  have e2:v.s=⟨v.s.data⟩:=rfl
  rw[e2,this];rfl)
 rcases ho with o|o|o<;>rcases hp with p|p|p
 ·rw[if_pos o,if_pos p] at h
  have v1:=vok_lt (vec_ok hs o)
  have v2:=vok_lt (vec_ok hu p)
  have w1:=vok_iff.1 (vec_ok hs o)
  have w2:=vok_iff.1 (vec_ok hu p)
  have e1:((2^t.a.toNat:Nat):Int)=2^t.a.toNat:=by simp
  have e2:((2^u.a.toNat:Nat):Int)=2^u.a.toNat:=by simp
  have:=vec_inj ⟨t.a.toNat,by omega⟩ ⟨t.b.toNat,by omega⟩ ⟨u.a.toNat,by omega⟩ ⟨u.b.toNat,by omega⟩ (by show t.b.toNat<2^t.a.toNat;omega) (by show u.b.toNat<2^u.a.toNat;omega) h
  simp only[Fin.mk.injEq] at this
  exact ya0 (by omega) (by omega) (by omega) (by rw[VN hpl (by omega),VN hpl' (by omega)]) (by rw[hk,hk'])
 ·rw[if_pos o,if_neg (by omega),if_pos p] at h
  exact absurd (letter hu p 35 _ h.symm) (by decide)
 ·rw[if_pos o,if_neg (by omega),if_neg (by omega),if_pos p] at h
  simp[vecL] at h
 ·rw[if_neg (by omega),if_pos o,if_pos p] at h
  exact absurd (letter hs o 35 _ h) (by decide)
 ·rw[if_neg (by omega),if_pos o,if_neg (by omega),if_pos p] at h
  obtain⟨a1,b1⟩:=Qv hpl (by omega)
  obtain⟨a2,b2⟩:=Qv hpl' (by omega)
  refine ya0 (by omega) (by omega) (by omega) ?_ (by rw[hk,hk'])
  have:=Array.toList_inj.1 h
  have e1:t.s=⟨t.s.data⟩:=rfl
  have e2:u.s=⟨u.s.data⟩:=rfl
  rw[e1,e2,this]
 ·rw[if_neg (by omega),if_pos o,if_neg (by omega),if_neg (by omega),if_pos p] at h
  exact(notrue hs o h).elim
 ·rw[if_neg (by omega),if_neg (by omega),if_pos o,if_pos p] at h
  simp[vecL] at h
 ·rw[if_neg (by omega),if_neg (by omega),if_pos o,if_neg (by omega),if_pos p] at h
  exact(notrue hu p h.symm).elim
 ·obtain⟨a1,b1⟩:=Qv hpl (by omega)
  obtain⟨a2,b2⟩:=Qv hpl' (by omega)
  exact ya0 (by omega) (by omega) (by omega) (by rw[VN hpl (by omega),VN hpl' (by omega)]) (by rw[hk,hk'])
theorem kids_inj:∀{ks us:List Tm} {r s:List UInt8},ks.length=us.length→(∀k,k∈ks→∀u,u∈us→∀r s,Stop r→Stop s→textL k++r=textL u++s→k=u∧r=s)→
  (ks.map textL).flatMap (fun x=>32::x)++41::r=(us.map textL).flatMap (fun x=>32::x)++41::s→ks=us∧r=s
 |[],[],r,s,_,_,h=>by
  have:(41:UInt8)::r=41::s:=h
  simp only[List.cons.injEq,true_and] at this
  exact⟨rfl,this⟩
 |[],_::_,_,_,hl,_,_=>by simp at hl
 |_::_,[],_,_,hl,_,_=>by simp at hl
 |k::ks,u::us,r,s,hl,ih,h=>by
  simp only[List.map_cons,List.flatMap_cons,List.cons_append,List.append_assoc,List.cons.injEq,true_and] at h
  have st:∀(l:List Tm) (r:List UInt8),Stop ((l.map textL).flatMap (fun x=>32::x)++41::r):=fun l r=>by
   cases l with
   |nil=>exact km (.inr rfl)
   |cons a l=>exact km (.inl rfl)
  obtain⟨he,h⟩:=ih k List.mem_cons_self u List.mem_cons_self _ _ (st _ _) (st _ _) h
  obtain⟨rfl,e⟩:=kids_inj (by simpa using hl) (fun k hk u hu=>ih k (List.mem_cons_of_mem _ hk) u (List.mem_cons_of_mem _ hu)) h
  subst he
  exact⟨rfl,e⟩
theorem text_inj' (hd:declOk ds=true):∀t:Tm,sortM ds t≠ -1→∀u:Tm,sortM ds u≠ -1→∀r s,Stop r→Stop s→textL t++r=textL u++s→t=u∧r=s:=by
 refine Tm.ind fun t ih hs u hu r s hr hst h=>?_
 obtain⟨ar,pl,op⟩:=right_op hs
 obtain⟨ar',pl',op'⟩:=right_op hu
 have comp:∀{v:Tm},¬(v.op=20∨v.op=21∨v.op=24)→textL v=40::(wordL v.op++((if v.op=22 then 32::(digL v.a++32::digL v.b) else[])++((v.ks.map textL).flatMap (fun x=>32::x)++[41]))):=fun{v} hv=>by
  rw[textL_eq];unfold textF;rw[if_neg (fun e=>hv (.inl e)),if_neg (fun e=>hv (.inr (.inl e))),if_neg (fun e=>hv (.inr (.inr e)))]
 by_cases lt:t.op=20∨t.op=21∨t.op=24
 ·obtain⟨_,f1,f2,f3⟩:=atom_text hd hs lt
  by_cases lu:u.op=20∨u.op=21∨u.op=24
  ·obtain⟨_,g1,g2,g3⟩:=atom_text hd hu lu
   obtain⟨e,e'⟩:=atom_cancel f1 g1 hr hst h
   exact⟨atom_inj hd hs hu lt lu e,e'⟩
  ·exfalso
   rw[comp lu] at h
   match hq:textL t,f2 with
   |c::q,_=>
    rw[hq] at h
    simp only[List.cons_append,List.cons.injEq] at h
    exact f3 c (by rw[hq];rfl) h.1
 ·by_cases lu:u.op=20∨u.op=21∨u.op=24
  ·exfalso
   obtain⟨_,g1,g2,g3⟩:=atom_text hd hu lu
   rw[comp lt] at h
   match hq:textL u,g2 with
   |c::q,_=>
    rw[hq] at h
    simp only[List.cons_append,List.cons.injEq] at h
    exact g3 c (by rw[hq];rfl) h.1.symm
  ·rw[comp lt,comp lu] at h
   simp only[List.cons_append,List.append_assoc,List.cons.injEq,true_and,List.nil_append] at h
   have na:=node_arity op lt
   have na':=node_arity op' lu
   have kst:∀{l:List Tm} {q:List UInt8},1≤l.length→∃q',(l.map textL).flatMap (fun x=>32::x)++41::q=32::q':=fun{l q} hl=>by
    cases l with
    |nil=>simp at hl
    |cons a l=>exact⟨_,rfl⟩
   have st:∀{v:Tm} {q:List UInt8},1≤v.ks.length→Stop ((if v.op=22 then 32::(digL v.a++32::digL v.b) else[])++((v.ks.map textL).flatMap (fun x=>32::x)++41::q)):=fun{v q} hl=>by
    split
    ·exact km (.inl rfl)
    ·obtain⟨q',e⟩:=kst (q:=q) hl
     rw[List.nil_append,e]
     exact km (.inl rfl)
   have o1:(((⟨t.op.toNat,by omega⟩:Fin 28):Nat):Int)=t.op:=by show((t.op.toNat:Nat):Int)=_;omega
   have o2:(((⟨u.op.toNat,by omega⟩:Fin 28):Nat):Int)=u.op:=by show((u.op.toNat:Nat):Int)=_;omega
   have wf1:=word_free ⟨t.op.toNat,by omega⟩
   have wf2:=word_free ⟨u.op.toNat,by omega⟩
   rw[o1] at wf1
   rw[o2] at wf2
   obtain⟨hw,h⟩:=atom_cancel wf1 wf2 (st (v:=t) (by omega)) (st (v:=u) (by omega)) h
   have hne:=word_ne ⟨t.op.toNat,by omega⟩ (by show 1≤t.op.toNat;omega) (by show t.op.toNat≤17∨t.op.toNat=22∨t.op.toNat=23∨25≤t.op.toNat;omega)
   have hop:=word_inj ⟨t.op.toNat,by omega⟩ ⟨u.op.toNat,by omega⟩ (by rw[o1,o2];exact hw) hne
   have hop':t.op=u.op:=by
    have:t.op.toNat=u.op.toNat:=congrArg Fin.val hop
    omega
   have hab:t.a=u.a∧t.b=u.b∧(t.ks.map textL).flatMap (fun x=>32::x)++41::r=(u.ks.map textL).flatMap (fun x=>32::x)++41::s:=by
    by_cases c22:t.op=22
    ·rw[if_pos c22,if_pos (by omega)] at h
     simp only[List.cons_append,List.append_assoc,List.cons.injEq,true_and] at h
     have c1:=cut_ab hd hs c22
     have c2:=cut_ab hd hu (by omega)
     have da:∀{x:Int},0≤x→x<4→kJ0 (digL x):=fun{x} h0 h4=>by
      have:=dig_free ⟨x.toNat,by omega⟩
      rwa[show(((⟨x.toNat,by omega⟩:Fin 4):Nat):Int)=x by show((x.toNat:Nat):Int)=_;omega] at this
     have di:∀{x y:Int},0≤x→x<4→0≤y→y<4→digL x=digL y→x=y:=fun{x y} h0 h4 h0' h4' he=>by
      have:=dig_inj ⟨x.toNat,by omega⟩ ⟨y.toNat,by omega⟩ (by
       rw[show(((⟨x.toNat,by omega⟩:Fin 4):Nat):Int)=x by show((x.toNat:Nat):Int)=_;omega,show(((⟨y.toNat,by omega⟩:Fin 4):Nat):Int)=y by show((y.toNat:Nat):Int)=_;omega];exact he)
      have:x.toNat=y.toNat:=congrArg Fin.val this
      omega
     obtain⟨e1,h⟩:=atom_cancel (da (by omega) (by omega)) (da (by omega) (by omega)) (km (.inl rfl)) (km (.inl rfl)) h
     simp only[List.cons.injEq,true_and] at h
     obtain⟨q1,k1⟩:=kst (l:=t.ks) (q:=r) (by omega)
     obtain⟨q2,k2⟩:=kst (l:=u.ks) (q:=s) (by omega)
     obtain⟨e2,h⟩:=atom_cancel (da (by omega) (by omega)) (da (by omega) (by omega)) (by rw[k1];exact km (.inl rfl)) (by rw[k2];exact km (.inl rfl)) h
     exact⟨di (by omega) (by omega) (by omega) (by omega) e1,di (by omega) (by omega) (by omega) (by omega) e2,h⟩
    ·rw[if_neg c22,if_neg (by omega)] at h
     obtain⟨a1,b1⟩:=Qv pl ⟨fun e=>lt (.inl e),c22⟩
     obtain⟨a2,b2⟩:=Qv pl' ⟨fun e=>lu (.inl e),by omega⟩
     exact⟨by omega,by omega,h⟩
   obtain⟨ha,hb,h⟩:=hab
   obtain⟨hk,e⟩:=kids_inj (by
    have:arity t.op=arity u.op:=by rw[hop']
    omega) (fun k hk v hv=>ih k hk ((sort_parts hs).2.1 k hk) v ((sort_parts hu).2.1 v hv)) h
   exact⟨ya0 hop' ha hb (by rw[VN pl (fun e=>lt (.inr (.inl e))),VN pl' (fun e=>lu (.inr (.inl e)))]) hk,e⟩
theorem text_inj (hd:declOk ds=true) (hs:sortM ds t≠ -1) (hu:sortM ds u≠ -1) (h:textL t=textL u):t=u:=
 (text_inj' hd t hs u hu [] [] (fun c hc=>by cases hc) (fun c hc=>by cases hc) (by rw[List.append_nil,List.append_nil];exact h)).1
end
end Go.M
end
section
namespace Go.Proofs.YtaekfnbnhjgboaaGreatDoor
open Go Go.Vc Go.Proofs
variable {w:World} {K:Value→World→Prop} {F F' Fx Fy X Q:Nat→Prop} {n bc mb bb:Nat} {gs:M.Gs} {v:Value} {ar ab:Addr} {st:Option M.Gs}
theorem dcl_small {ds:List M.Dcl} (hok:M.declOk ds=true) {i:Nat} (hi:i≤ds.length):0≤M.bitT ds i∧M.bitT ds i≤16:=by
 have h4:=(M.decl_iff.1 hok).1
 induction i with
 |zero=>exact⟨Int.le_refl _,show(0:Int)≤16 by decide⟩
 |succ i ih=>
  have:=ih (by omega)
  have hw:=M.dcl_wide hok (i:=i) (by omega)
  rw[M.bitT_succ (by omega)]
  have key:M.bitT ds i≤4*(i:Int):=by
   clear ih this
   induction i with
   |zero=>exact Int.le_refl _
   |succ j ihj=>
    have hw:=M.dcl_wide hok (i:=j) (by omega)
    have:=ihj (by omega) (M.dcl_wide hok (by omega))
    rw[M.bitT_succ (by omega)];omega
  omega
theorem bitsOf_spec {dv:Value} {ds:List M.Dcl} (hd:DclsR Fx w dv ds) (hok:M.declOk ds=true) (hK:∀w',Ext w w'→K (.int .i64 (M.bits ds)) w'):vcall PP X5 #[dv] w K:=by
 apply x00;unfold VC
 simp(disch:=(simp only[push_cast];done)) only[push_cast,hd.len]
 have h4:=(M.decl_iff.1 hok).1
 refine vloop_up ds.length (fun i u w'=>u=[.int .i64 (M.bitT ds i),.int .i64 i]∧Ext w w') ⟨rfl,Same.refl _ _⟩ ?_
 rintro i _ _ w2 C hi ⟨rfl,he2⟩ hC
 have hd2:=hd.ext he2
 simp only[push_cast]
 refine zh (fun a=>?_) (fun a=>?_)
 ·have hi':i<ds.length:=by omega
  simp(disch:=first|(simp only[push_cast];done)|omega) only[push_cast,hd2.iaddr,hd2.load]
  refine zE ji fun b1 w3 hb3 he3 hs3 h3=>?_
  refine stDecl h3 fun w4 hw4 _ h4=>?_
  have he4:Ext w2 w4:=Ext.then he3 hw4 fun y hy=>by subst hy;omega
  have hs1:=dcl_small hok hi
  have hs2:=dcl_small hok (i:=i+1) hi'
  rw[M.bitT_succ hi'] at hs2
  simp(disch:=first|(simp only[push_cast];done)|omega) only[push_cast,h4.ld1,zF]
  refine hC hi' _ _ ⟨?_,he2.trans he4⟩
  rw[M.bitT_succ hi']
  simp
 ·have:i=ds.length:=by omega
  subst this
  rw[M.bitT_all]
  exact hK w2 he2
theorem nameB_take {ds:List M.Dcl} {k j:Nat} {wd top:Int} (hj:(j:Int)<wd) (hw:wd=(ds.getD k (M.nada,0)).2) (ht:top=2+M.bits (ds.take k)):(M.nameB ds k).take (j+1)=(M.nameB ds k).take j++[top+(wd-1-j)]:=by
 have hl:j<(M.nameB ds k).length:=by rw[M.nameB_len];omega
 rw[M.take_add hl 0]
 congr 1
 unfold M.nameB
 rw[List.getD_eq_getElem?_getD,List.getElem?_map,List.getElem?_range (by omega)]
 show[2+M.bits (ds.take k)+(ds.getD k (M.nada,0)).2-1-(j:Int)]=[top+(wd-1-(j:Int))]
 rw[ht,hw]
 congr 1
 omega
theorem inputs_spec {bl:Nat} {r:List Value} {dv:Value} {ds:List M.Dcl} {s:ByteArray} {x0:Value} (hB:Blk w bl (x0::dv::r) zJ) (hd:DclsR Fx w dv ds) (hok:M.declOk ds=true) (hs:0≤M.findD ds s)
  (hK:∀w' r,Ext w w'→OwnI PP z7 w' r (M.nameB ds (M.findD ds s).toNat)→(∀b,r.ownBlock=some b→w.heap.size≤b)→K r w'):vcall PP qE #[.pointer (some ⟨bl,0,none⟩),.string s] w K:=by
 apply Qc;unfold kE
 simp(disch:=(simp only[push_cast];done)) only[push_cast,hB.ld1,hd.len]
 have h4:=(M.decl_iff.1 hok).1
 have hlt:=M.findD_lt ds s
 refine vloop_up ds.length (fun i u w'=>u=[.int .i64 (2+M.bitT ds i),.int .i64 i]∧Ext w w'∧i≤(M.findD ds s).toNat) ⟨rfl,Same.refl _ _,Nat.zero_le _⟩ ?_
 rintro i _ _ w2 C hi ⟨rfl,he2,hif⟩ hC
 have hd2:=hd.ext he2
 simp only[push_cast]
 have hi':i<ds.length:=by omega
 refine zh (fun a=>?_) (fun a=>by omega)
 simp(disch:=first|(simp only[push_cast];done)|omega) only[push_cast,hd2.iaddr,hd2.load]
 refine zE ji fun b1 w3 hb3 he3 hs3 h3=>?_
 refine stDecl h3 fun w4 hw4 _ h4'=>?_
 have he4:Ext w2 w4:=Ext.then he3 hw4 fun y hy=>by subst hy;omega
 have hs1:=dcl_small hok hi
 have hs2:=dcl_small hok (i:=i+1) hi'
 rw[M.bitT_succ hi'] at hs2
 have hw4':=M.dcl_wide hok hi'
 simp(disch:=first|(simp only[push_cast];done)|omega) only[push_cast,h4'.ld0,h4'.ld1,zF]
 refine zh (fun e=>?_) (fun e=>?_)
 ·have hik:i=(M.findD ds s).toNat:=by
   by_cases c:i=(M.findD ds s).toNat
   ·exact c
   ·have h1:=M.dcl_apart hok (i:=(M.findD ds s).toNat) (j:=i) (by omega) (by omega)
    exact absurd (e.trans (M.findD_get hs).symm) h1
  rw[←hik] at hK
  have hbt:M.bitT ds i=M.bits (ds.take i):=rfl
  generalize hW:(ds.getD i (M.nada,0)).2=wd at*
  refine YL (fun m u w'=> ∃j r,u=[r,.int .i64 ((m:Int)-1)]∧(m:Int)+(j:Nat)=wd∧Ext w w'∧OwnI PP z7 w' r ((M.nameB ds i).take j)∧∀b,r.ownBlock=some b→w.heap.size≤b) wd.toNat
   ⟨0,_,by rw[show((wd.toNat:Nat):Int)=wd by omega],by omega,he2.trans he4,OwnI.nil,fun b hb=>by cases hb⟩ ?_
  rintro m _ _ w5 C5 ⟨j,r,rfl,hmj,he5,ho5,hn5⟩ hC5
  simp only[push_cast]
  refine zh (fun hge=>?_) (fun hlt2=>?_)
  ·simp(disch:=omega) only[push_cast,zF]
   refine yc yO yj yp rfl rfl fun b6 w6 hb6 he6 hz6 hB6=>?_
   have he56:=he5.trans he6
   have hz:=he56.size
   have hle:((M.nameB ds i).take j).length≤16:=by rw[List.length_take,M.nameB_len];omega
   refine(ho5.ext he6).app1 yQ hB6 (by omega) (by omega) fun r7 w7 ho7 hs7 hn7=>?_
   try simp(disch:=omega) only[push_cast,zF]
   refine hC5 (m-1) _ _ (by omega) ⟨j+1,r7,?_,by omega,Ext.then he56 hs7 fun b hb=>hn5 b hb,?_,fun b hb=>(hn7 b hb).elim (hn5 b) fun h=>by omega⟩
   ·rw[show((m-1:Nat):Int)=(m:Int)-1 by omega]
   ·rw[nameB_take (wd:=wd) (top:=2+M.bits (ds.take i)) (by omega) hW.symm rfl,←hbt]
    rw[show(2+M.bitT ds i+(wd-1-j))=2+M.bitT ds i+((m:Int)-1) by omega]
    exact ho7
  ·rw[List.take_of_length_le (by rw[M.nameB_len];omega)] at ho5
   exact hK w5 r he5 ho5 hn5
 ·refine hC hi' _ _ ⟨?_,he2.trans he4,?_⟩
  ·rw[M.bitT_succ hi'];simp;omega
  ·have:i≠(M.findD ds s).toNat:=fun h=>e (by rw[h];exact M.findD_get hs)
   omega
end Go.Proofs.YtaekfnbnhjgboaaGreatDoor
end
section
namespace Go.Proofs.YtaekfnbnhjgboaaGreatDoor
open Go Go.Vc Go.Proofs Go.Shelf
variable {w:World} {K:Value→World→Prop} {F F' Fx Fy X Q:Nat→Prop}
def Yu0:ByteArray:=⟨#[48,49,50,51,52,53,54,55,56,57,97,98,99,100,101,102,103,104,105,106,107,108,109,110,111,112,113,114,115,116,117,118,119,120,121,122]⟩
theorem digit_text:∀k:Fin 10,(Yu0.extract k.1 (k.1+1)).data.toList=M.digL (k.1:Int):=by decide+kernel
theorem Itoa_spec {k:Nat} (hk:k<10) (hK:∀s:ByteArray,s.data.toList=M.digL (k:Int)→K (.string s) w):vcall PP j0 #[.int .i64 k] w K:=by
 apply zo0;unfold Jk
 apply Xb;unfold jK
 apply Z8;unfold qq
 simp only[push_cast]
 refine zh (fun _=>?_) (fun h=>absurd trivial h)
 refine zX (fun _ _=>False) ?_ (fun _ _ _ h=>h.elim)
 intro J hJ
 refine zh (fun _=>?_) (fun h=>by omega)
 refine zh (fun _=>?_) (fun h=>by omega)
 apply Yu;unfold jo
 simp(disch:=omega) only[push_cast,zF]
 refine zh (fun _=>?_) (fun h=>by omega)
 have hsz:Yu0.size=36:=by decide+kernel
 show yq PP zB (.string Yu0) _ _ _ w _
 rw[qO0 (by kernel_rfl) (by omega) (by omega) (by rw[hsz];omega)]
 rw[show((k:Int)).toNat=k by omega,show((k:Int)+1).toNat=k+1 by omega]
 exact hK _ (digit_text ⟨k,hk⟩)
def byV (c:UInt8):Value:= .int .u8 c.toNat
theorem ja0 {v:Value} {l:List UInt8} (h:OwnV PP yx w v (l.map byV)) (hne:l≠[]):Y3 PP yx zB v w K=K (.string ⟨l.toArray⟩) w:=by
 obtain⟨a,c,hv,hc,hcm,hcell⟩:=(OwnV.vals h).shape
 have hne':(l.map byV).map (fun x=>[x])≠[]:=by simpa using hne
 obtain⟨b,o,ha,_,_,hcc⟩:=hcell hne'
 simp only[List.length_map] at hv hcc
 subst ha;subst hv
 refine yr (run_convert_bytes_back w yx zB kc ⟨b,o,none⟩ c l Ky (by kernel_rfl) (by kernel_rfl) fun j hj=>?_)
 have:=hcc j hj 0 (byV l[j]) (by
  rw[List.getD_eq_getElem?_getD,List.getElem?_map,List.getElem?_map,List.getElem?_eq_getElem hj];rfl)
 rw[xh] at this⊢
 rw[Nat.mul_one,Nat.add_zero] at this
 exact this
def kf0 (n:Nat) (i:Nat):UInt8:=if n/2^i%2=1 then 49 else 48
theorem bitC_take {wd n j:Nat} (hj:j<wd):((List.range wd).reverse.map (kf0 n)).take (j+1)=((List.range wd).reverse.map (kf0 n)).take j++[kf0 n (wd-1-j)]:=by
 have hl:j<((List.range wd).reverse.map (kf0 n)).length:=by simpa using hj
 rw[M.take_add hl 0]
 congr 1
 rw[List.getD_eq_getElem?_getD,List.getElem?_map,List.getElem?_reverse (by simpa using hj),List.length_range,List.getElem?_range (by omega)]
 rfl
theorem VecText_spec {wd n:Int} (hok:M.vok wd n=true) (hK:∀w' s,Ext w w'→s.data.toList=M.vecL wd.toNat n.toNat→K (.string s) w'):vcall PP Yn #[k8 wd n] w K:=by
 apply zO0;unfold JK
 obtain⟨h1,h2,h3,h4⟩:=M.vok_iff.1 hok
 have hp:(2:Int)^wd.toNat≤16:=by
  have:=pow4 (k:=wd.toNat) (by omega) (by omega)
  have e:=y20 wd.toNat
  omega
 refine zu fun b1 w1 hb1 he1 hz1 hB1=>?_
 have hag:∀w':World,Blk w' b1 [.int .i64 wd,.int .i64 n] za→∀K:Value→World→Prop,ze PP za (.pointer (some ⟨b1,0,none⟩)) w' K=K (k8 wd n) w':=fun w' hB K=>Blk.ldAgg hB (by exact zR)
 rw[hag w1 hB1]
 refine VecOk_spec fun w2 he2=>?_
 rw[hok]
 simp only[push_cast,Bool.not_true]
 refine yc Ky (by kernel_rfl) (show yK PP kc (.int .u8 0) by unfold yK;kernel_rfl) rfl rfl fun b3 w3 hb3 he3 hz3 hB3=>?_
 have hq3:=hB1.ext (he2.trans he3)
 have e3:=he1.trans (he2.trans he3)
 have s1:=he1.size;have s2:=he2.size
 have ho3:OwnV PP yx w3 (.slice (some ⟨b3,0,none⟩) 1 1) ([(35:UInt8)].map byV):=Blk.own1 (P:=PP) (t:=yx) (cs:=[byV 35]) (by rw[k70];exact hB3) (Nat.zero_le _) rfl rfl (by omega)
 simp(disch:=first|(simp only[push_cast];done)|omega) only[push_cast,hq3.ld0,zF]
 refine YL (fun m u w'=> ∃j r,u=[r,.int .i64 ((m:Int)-1)]∧(m:Int)+(j:Nat)=wd∧Ext w w'∧Blk w' b1 [.int .i64 wd,.int .i64 n] za∧OwnV PP yx w' r ((35::((List.range wd.toNat).reverse.map (kf0 n.toNat)).take j).map byV)∧∀b,r.ownBlock=some b→w1.heap.size≤b) wd.toNat
  ⟨0,_,by rw[show((wd.toNat:Nat):Int)=wd by omega],by omega,e3,hq3,ho3,fun b hb=>by have e:b3=b:=Option.some.inj hb;omega⟩ ?_
 rintro m _ _ w5 C5 ⟨j,r,rfl,hmj,he5,hB5,ho5,hn5⟩ hC5
 simp only[push_cast]
 refine zh (fun hge=>?_) (fun hlt=>?_)
 ·rw[hag w5 hB5]
  rw[show n=((n.toNat:Nat):Int) by omega]
  refine raw_spec (by omega) fun w6 he6=>?_
  rw[show(m:Int)-1=((m-1:Nat):Int) by omega]
  refine bit_spec (by omega) (by omega) ?_
  have step:∀(x:UInt8) (C6:Value→World→Prop),x=kf0 n.toNat (wd.toNat-1-j)→(∀r' w7,Ext w w7→Blk w7 b1 [.int .i64 wd,.int .i64 n] za→OwnV PP yx w7 r' ((35::((List.range wd.toNat).reverse.map (kf0 n.toNat)).take (j+1)).map byV)→(∀b,r'.ownBlock=some b→w1.heap.size≤b)→C6 r' w7)→
    vbuildS PP yx 1 [(0,.int .u8 x.toNat)] w6 fun t21 w_14=>vbi PP .append [yx,yx] yx [r,t21] w_14 C6:=by
   intro x C6 hx hC6
   refine yc Ky (by kernel_rfl) (show yK PP kc (.int .u8 0) by unfold yK;kernel_rfl) rfl rfl fun b7 w7 hb7 he7 hz7 hB7=>?_
   have e67:=he6.trans he7
   have hl:((35::((List.range wd.toNat).reverse.map (kf0 n.toNat)).take j).map byV).length≤20:=by
    simp only[List.length_map,List.length_cons,List.length_take,List.length_reverse,List.length_range];omega
   refine(ho5.ext e67).app1 Zh0 hB7 rfl (by omega) (by omega) fun r8 w8 ho8 hs8 hn8=>?_
   have hz5:=he5.size
   have z67:=e67.size
   refine hC6 r8 w8 (Ext.then (he5.trans e67) hs8 fun b hb=>by have:=hn5 b hb;omega) ((hB5.ext e67).same hs8 fun hb=>by have:=hn5 b1 hb;have:=hB1.lt;omega) ?_ fun b hb=>(hn8 b hb).elim (hn5 b) fun h=>by have:=hB5.lt;omega
   rw[bitC_take (by omega),←hx,←List.cons_append,List.map_append]
   exact ho8
  have hmi:wd.toNat-1-j=m-1:=by omega
  have fin:∀r' w7,Ext w w7→Blk w7 b1 [.int .i64 wd,.int .i64 n] za→OwnV PP yx w7 r' ((35::((List.range wd.toNat).reverse.map (kf0 n.toNat)).take (j+1)).map byV)→(∀b,r'.ownBlock=some b→w1.heap.size≤b)→C5 [r',.int .i64 (((m-1:Nat):Int)-1)] w7:=fun r' w7 h1 h2 h3 h4=>
   hC5 (m-1) _ _ (by omega) ⟨j+1,r',rfl,by omega,h1,h2,h3,h4⟩
  refine zh (fun c=>?_) (fun c=>?_)
  ·refine step 49 _ (by rw[hmi];unfold kf0;rw[if_pos c]) fun r' w7 a1 a2 a3 a4=>?_
   rw[zF (by omega) (by omega)]
   exact fin r' w7 a1 a2 a3 a4
  ·refine step 48 _ (by rw[hmi];unfold kf0;rw[if_neg c]) fun r' w7 a1 a2 a3 a4=>?_
   rw[zF (by omega) (by omega)]
   exact fin r' w7 a1 a2 a3 a4
 ·rw[List.take_of_length_le (by simp;omega)] at ho5
  rw[ja0 ho5 (by simp)]
  exact hK w5 _ he5 rfl
theorem joinX:Builder.Extra PP YtaekfnbnhjgboaaGreatDoor.joinL_ren where
 sizeBuilder:=by kernel_rfl
 liesBuilder:=by kernel_rfl
 t5:=by kernel_rfl
 a5:=fun w=>by kernel_rfl
 z5:=fun w=>by kernel_rfl
 v5:=fun w=>by kernel_rfl
 infoByte:=by kernel_rfl
 cellsByte:=by kernel_rfl
 sizeByte:=by kernel_rfl
 neB5:=by decide+kernel
def joinB:List (List UInt8)→List UInt8
 |[]=>[]
 |x::xs=>x++xs.flatMap fun y=>32::y
theorem jW0 (xs:List (List UInt8)):Lib.join xs [32]=joinB xs:=by
 unfold Lib.join joinB
 induction xs with
 |nil=>rfl
 |cons x xs ih=>
  cases xs with
  |nil=>simp[List.intercalate,List.intersperse]
  |cons y ys=>
   simp only[List.intercalate,List.intersperse_cons_cons,List.flatten_cons] at ih⊢
   rw[ih]
   simp
theorem Join_spec {v:Value} {xs:List ByteArray} (h:OwnV PP yT w v (xs.map .string)) (h2:2≤xs.length) (hl:xs.length≤1000) (hj:(joinB (xs.map (·.data.toList))).length≤1000000)
  (hK:∀w' s,Ext w w'→s.data.toList=joinB (xs.map (·.data.toList))→K (.string s) w'):vcall PP Jg #[v,.string ⟨#[32]⟩] w K:=by
 obtain⟨a,c,hv,hc,hcm,hcell⟩:=(OwnV.vals h).shape
 have hne:(xs.map Value.string).map (fun x=>[x])≠[]:=by intro e;have:=congrArg List.length e;simp only[List.length_map,List.length_nil] at this;omega
 obtain⟨b,o,ha,_,hb,hcc⟩:=hcell hne
 simp only[List.length_map] at hv hcc hc
 subst ha;subst hv
 refine⟨by kernel_rfl,?_⟩
 refine(Any.strings_Join_many YtaekfnbnhjgboaaGreatDoor.joinL joinX b o c xs ⟨#[32]⟩ w (fun j x hj=>?_) hb h2 (by omega) hc (by rw[show(⟨#[32]⟩:ByteArray).data.toList=[32] from rfl,jW0];omega)).mono ?_
 ·have hjl:j<xs.length:=(List.getElem?_eq_some_iff.1 hj).1
  have:=hcc j hjl 0 (.string x) (by
   rw[List.getD_eq_getElem?_getD,List.getElem?_map,List.getElem?_map,hj];rfl)
  rw[xh,Nat.mul_one,Nat.add_zero] at this
  exact this
 ·rintro e w' ⟨rfl,hB⟩
  refine hK w' _ (q30 hB) ?_
  rw[show(⟨#[32]⟩:ByteArray).data.toList=[32] from rfl,jW0]
end Go.Proofs.YtaekfnbnhjgboaaGreatDoor
end
