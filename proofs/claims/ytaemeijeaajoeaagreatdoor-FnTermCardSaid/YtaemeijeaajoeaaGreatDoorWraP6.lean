import Derived.Test.YtaemeijeaajoeaaGreatDoorWraP5
import Derived.Recover
import Derived.Tactics
import Derived.Tactics2
import Derived.WalkSmall
import Derived.Laws.RangeString
import Derived.Lib.OthersKept
import Derived.OpenVars
import Derived.MakeChecks
import Derived.Stop.LaidErr
import Derived.Stop.LaidTwo
/- A part of the proof. -/
set_option linter.unusedVariables false
set_option linter.unusedSimpArgs false
set_option linter.unnecessarySimpa false
set_option linter.unusedSectionVars false
section
namespace Go.Proofs.YtaemeijeaajoeaaGreatDoor
open Go Go.Vc Go.Proofs
variable {w w':World} {K:Value→World→Prop} {F:Nat→Prop} {s:ByteArray} {dv:Value} {ds:List M.Dcl} {u t:M.Tm}
abbrev tm0:M.Tm:= .mk 0 0 0 M.nada []
def kS (ds:List M.Dcl) (s:ByteArray) (u:M.Tm):Prop:=M.tsort ds u≠ -1∧s.data.toList=M.textL u
def ReadP (ds:List M.Dcl) (s:ByteArray) (t:M.Tm) (b:Bool):Prop:=(∀u,kS ds s u→t=u∧b=true)∧((∀u,¬kS ds s u)→t=tm0∧b=false)
theorem KK {u t:M.Tm} (h:kS ds s u) (a:kS ds s t):t=u:=by
 have b:=xb h.1;have c:=xb a.1;exact M.text_inj b.2.1 c.1 b.1 (a.2.symm.trans h.2)
theorem Qi (ds:List M.Dcl) (s:ByteArray):∃(V:Prop) (u:M.Tm),(V->kS ds s u)/\(¬V->∀u,¬kS ds s u)/\∀t b,(V->t=u/\b=true)->(¬V->t=tm0/\b=false)->ReadP ds s t b:=by
 by_cases h:∃u,kS ds s u
 ·obtain⟨u,hu⟩:=h;exact⟨True,u,fun _=>hu,fun h=>absurd trivial h,fun t b a _=>⟨fun e c=>⟨by rw[(a trivial).1,KK hu c],(a trivial).2⟩,fun h=>absurd hu (h u)⟩⟩
 ·exact⟨False,tm0,fun h=>h.elim,fun _ u hu=>h ⟨u,hu⟩,fun t b _ d=>⟨fun u hu=>absurd ⟨u,hu⟩ h,fun _=>d id⟩⟩
theorem ReadP.eq {t t':M.Tm} {b e:Bool} (h:ReadP ds s t b) (f:ReadP ds s t' e):t'=t/\e=b:=by
 by_cases c:∃u,kS ds s u
 ·obtain⟨u,hu⟩:=c;have a:=h.1 u hu;have d:=f.1 u hu;exact⟨by rw[a.1,d.1],by rw[a.2,d.2]⟩
 ·have a:=h.2 fun u hu=>c ⟨u,hu⟩;have d:=f.2 fun u hu=>c ⟨u,hu⟩;exact⟨by rw[a.1,d.1],by rw[a.2,d.2]⟩
theorem reads_size (h:kS ds s u):s.size<=400:=by
 obtain⟨a,b,c,_⟩:=xb h.1;have:=text_len b u a;rw[<-h.2,yB] at this;omega
theorem jk (h:kS ds s u):M.declOk ds=true/\M.sortM ds u≠ -1/\M.deepM u<=7:=by
 obtain⟨a,b,_,c,_⟩:=xb h.1;exact⟨b,a,c⟩
theorem Qu (h:kS ds s u):s≠⟨#[]⟩:=fun e=>by
 obtain⟨c,l,a,_⟩:=X1 (jk h).1 (jk h).2.1;have:=h.2;rw[a,e] at this;cases this
theorem Zi {x:ByteArray} (h:J4 ds u x) (hu:kS ds s u):x=s:=str_ext (by rw[h.2 hu.1,hu.2])
theorem KG {x:ByteArray} (h:J4 ds t s) (a:s≠⟨#[]⟩):kS ds s t:=by
 by_cases c:M.tsort ds t= -1
 ·exact absurd (h.1 c) a
 ·exact⟨c,h.2 c⟩
theorem spec_TermRead_spec (G:Vg ds) (hd:DclsR F w dv ds) (hz:s.size<=1000000) (W:∀w' tv t b,Ext w w'->TermR (fun x=>w.heap.size<=x) w' tv t->ReadP ds s t b->K (.tuple #[tv,.bool b]) w'):vcall PP qE #[dv,.string s] w K:=by
 apply Xt;unfold ko;obtain⟨V,u,z,E,X⟩:=Qi ds s;refine zw zt fun b1 Q Y n a0 C=>?_;have z1:=n.size;have fin:∀{d:World} {cs:List Value} {t:M.Tm} {b:Bool},Ext Q d->TmR (fun x=>Q.heap.size<=x) d cs t->(V->t=u/\b=true)->(¬V->t=tm0/\b=false)->zk PP za (.pointer (some ⟨b1,0,none⟩)) (.agg ⟨cs⟩) d fun _ p=>vlv PP za (.pointer (some ⟨b1,0,none⟩)) p fun r B=>K (.tuple #[r,.bool b]) B:=fun{d cs t b} a H R S=>by
  refine qB (K:=fun v w'=>K (.tuple #[v,.bool b]) w') (C.ext a) rfl H (fun x i=>by omega) fun p J P I=>?_;exact W p _ _ b (Ext.then (n.trans a) J fun y O=>by subst O;omega) (I.weaken fun x i _=>by omega) (X t b R S)
 have bad:∀{d:World},Ext Q d->¬V->zr PP za [] d fun t d=>zk PP za (.pointer (some ⟨b1,0,none⟩)) t d fun _ p=>vlv PP za (.pointer (some ⟨b1,0,none⟩)) p fun r B=>K (.tuple #[r,.bool false]) B:=fun{d} a h=>by
  rw[Kq];exact fin a (Yo 0 0 0 ⟨#[]⟩) (fun hv=>absurd hv h) fun _=>⟨rfl,rfl⟩
 rw[yl yp];simp only[qR];refine zd (fun c=>bad (Same.refl _ _) fun h=>?_) (fun c=>?_)
 ·have:=reads_size (z h);omega
 refine l2Read_spec (V:=V) (ds:=ds) hz 7 (by omega) (k:=0) (u:=u) (r:=[]) (Nat.zero_le _) (fun h=>⟨jk (z h),fun c hc=>(by cases hc),by rw[List.drop_zero,List.append_nil];exact(z h).2⟩) fun d tv t e a H he f=>?_;obtain⟨cs,rfl,g⟩:=H.cells;simp only[yc,yb];refine zw zt fun b3 p Z A P D=>?_;refine stTerm D rfl (g.ext A) fun B L a1 q=>?_;have m:Ext d B:=Ext.then A L fun y O=>by subst O;omega
 have j:=a.trans m;have T:aggB PP za cs.length=true:=by rw[yd g];exact zm
 rw[yl yp];simp only[YR];refine zd (fun c2=>bad j fun h=>c2 ?_) (fun c2=>?_)
 ·obtain⟨_,R,S,U⟩:=f h;have:=congrArg List.length U;rw[List.length_drop,yB] at this;simp only[List.length_nil] at this;omega
 rw[q.ldAgg (t:=za) T];refine spec_TermText_spec G (hd.ext (n.trans j)) (g.ext m).term fun w5 x o i=>?_;have l:=j.trans o;simp only[Qg,xH];refine zd (fun c3=>bad l fun h=>c3 ?_) (fun c3=>?_)
 ·rw[(f h).1] at i;exact Zi i (z h)
 have N:x=s:=Classical.not_not.1 c3;refine zd (fun c4=>bad l fun h=>Qu (z h) c4) (fun c4=>?_);rw[(q.ext o).ldAgg (t:=za) T];rw[N] at i;have hr:=KG (x:=s) i c4;refine fin l ((g.ext (m.trans o)).weaken fun x i _=>i) (fun h=>⟨(f h).1,rfl⟩) fun h=>absurd hr (E h t)
end Go.Proofs.YtaemeijeaajoeaaGreatDoor
end
section
namespace Go.Proofs.YtaemeijeaajoeaaGreatDoor
open Go Go.Vc Go.Proofs
variable {w w' w0:World} {K:Value→World→Prop} {F:Nat→Prop} {s:ByteArray} {V:Prop} {dv:Value} {ds:List M.Dcl} {u t:M.Tm} {bp kb:Nat}
abbrev pE:PanicEntry:={v:= .iface zW (.agg #[]),recovered:=false}
abbrev zP (V:Prop) (w0:World) (bp:Nat):ZP:=⟨fun c w'=>c=[pE]∧¬V∧Same (· =bp) w0 w'⟩
theorem Yp {Z:ZP} {g:Nat} {args:Array Value} (h: @vcall zNone PP g args w K): @vcall Z PP g args w K:=
 ⟨h.1,Calls.mono h.2 fun e w' he=>by cases e with
  |returned v=>exact he
  |panicked c=>exact(show False from he).elim
  |outgrown=>exact he⟩
theorem X9 {Z:ZP} {r:Value} {name:String} {args:Array Value} (h: @vinvoke zNone PP r name args w K): @vinvoke Z PP r name args w K:=by
 cases r<;>try exact h.elim
 obtain⟨g,rcv,a,b⟩:=h;exact⟨g,rcv,a,Yp b⟩
theorem Ki {S:Nat->Prop} (h:KindsR w kb) (d:Same S w w') (c: ¬S kb):KindsR w' kb:=by
 obtain⟨f,a,b⟩:=h;exact⟨f,a.same d c,b⟩
theorem K4 (h:KindsR w kb):kb<w.heap.size:=by obtain⟨f,a,b⟩:=h;exact a.lt
theorem V2 (w : World) : Calls PP xf #[.bool true] w fun e w' => e = .panicked [pE] ∧ w' = w := by
  go_enter Tryz.func80, Tryz.ntmps80
  go_wp2
  exact ⟨rfl, rfl, rfl⟩
theorem ki {b:Bool} (d:Same (· =bp) w0 w) (c:b=true->¬V) (a:b=false->K (.tuple #[]) w): @vcall (zP V w0 bp) PP xf #[.bool b] w K:=by
 cases b with
 |false=>exact @JR (zP V w0 bp) _ _ _ (a rfl)
 |true=>exact⟨by kernel_rfl,Calls.mono (V2 w) fun e w' he=>by obtain⟨rfl,rfl⟩:=he;exact⟨rfl,c rfl,d⟩⟩
def Asc (l:List UInt8):Prop:=∀c,c∈l→c.toNat<128
theorem Asc.right {a b:List UInt8} (h:Asc (a++b)):Asc b:=fun c d=>h c (List.mem_append_right _ d)
theorem Asc.left {a b:List UInt8} (h:Asc (a++b)):Asc a:=fun c d=>h c (List.mem_append_left _ d)
abbrev WD:Nat:=(YtaemeijeaajoeaaGreatDoor.atoiL_ren).g 15
abbrev WE:Nat:=(YtaemeijeaajoeaaGreatDoor.atoiL_ren).g 16
def SynR (w:World):Prop:=(∃te pe,w.cell? ⟨WD,0,none⟩=some (.iface te pe))∧∃te pe,w.cell? ⟨WE,0,none⟩=some (.iface te pe)
structure PS (w0:World) (w:World) (bp kb:Nat) (s:ByteArray):Prop where
 same:Same (· =bp) w0 w
 par:Blk w bp [.string s,.map (some kb)] zx
 asc:Asc s.data.toList
 sz:s.size≤1000000
 kinds0:KindsR w0 kb
 syn0:SynR w0
 kne:kb≠bp
 g1:WD≠bp
 g2:WE≠bp
 lt0:bp<w0.heap.size
section
variable {S:Nat→Prop} {c:UInt8} {p:ByteArray}
theorem PS.kinds (h:PS w0 w bp kb s):KindsR w kb:=Ki h.kinds0 h.same h.kne
theorem PS.syn (h:PS w0 w bp kb s):SynR w:=⟨by obtain⟨te,pe,a⟩:=h.syn0.1;exact⟨te,pe,h.same.cell h.g1 a⟩,by obtain⟨te,pe,a⟩:=h.syn0.2;exact⟨te,pe,h.same.cell h.g2 a⟩⟩
theorem PS.new (h:PS w0 w bp kb s) (a:Same S w w') (c:∀x,S x->w0.heap.size<=x):PS w0 w' bp kb s:=
 {h with
  same:=⟨a.os.trans h.same.os,a.tape.trans h.same.tape,a.output.trans h.same.output,Nat.le_trans h.same.size a.size,fun x d b=>by
   rw[a.block x (Nat.lt_of_lt_of_le d h.same.size) fun e=>by have:=c x e;omega];exact h.same.block x d b⟩
  par:=h.par.same a fun e=>by have:=c bp e;have:=h.lt0;omega}
theorem PS.ext (h:PS w0 w bp kb s) (a:Ext w w'):PS w0 w' bp kb s:=h.new a fun _ h=>h.elim
theorem PS.step {x:ByteArray} {l:List UInt8} (h:PS w0 w bp kb s) (d:Same (· =bp) w w') (c:Blk w' bp [.string x,.map (some kb)] zx) (a:s.data.toList=l++x.data.toList):PS w0 w' bp kb x:=
 {h with
  same:=h.same.trans d
  par:=c
  asc:=by have:=h.asc;rw[a] at this;exact this.right
  sz:=by
   have b:=yB s;have e:=yB x;have:=h.sz;rw[a,List.length_append] at b;omega}
theorem Qe (g:p.data.toList=[c]) (i:∀x b,(b=true->s.data.toList=c::x.data.toList)->(b=false->∀l,s.data.toList≠c::l)->K (.tuple #[.string x,.bool b]) w):vcall PP qD #[.string s,.string p] w K:=by
 refine⟨by kernel_rfl,?_⟩;refine(Any.strings_CutPrefix YtaemeijeaajoeaaGreatDoor.cutL s p w).mono ?_;rintro e w' ⟨rfl,rfl⟩;have f:Lib.hasPrefix s.data.toList p.data.toList=true↔ ∃l,s.data.toList=c::l:=by
  unfold Lib.hasPrefix;rw[g];cases s.data.toList with
  |nil=>simp
  |cons d l=>
   constructor
   ·intro h;have:c=d:=(by simpa[List.isPrefixOf] using h);subst this;exact⟨l,rfl⟩
   ·rintro⟨j,h⟩;cases h;simp[List.isPrefixOf]
 refine i _ _ (fun h=>?_) (fun h l a=>?_)
 ·obtain⟨l,a⟩:=f.1 h;unfold Lib.trimPrefix;rw[if_pos h,g,a];rfl
 ·rw[f.2 ⟨l,a⟩] at h;cases h
theorem Qd (i:p.data.toList=[c]) (f:∀b,(b=true->∃l,s.data.toList=c::l)->(b=false->∀l,s.data.toList≠c::l)->K (.bool b) w):vcall PP qC #[.string s,.string p] w K:=by
 refine⟨by kernel_rfl,?_⟩;refine(Any.strings_HasPrefix YtaemeijeaajoeaaGreatDoor.hasL s p w).mono ?_;rintro e w' ⟨rfl,rfl⟩;have a:Lib.hasPrefix s.data.toList p.data.toList=true↔ ∃l,s.data.toList=c::l:=by
  unfold Lib.hasPrefix;rw[i];cases s.data.toList with
  |nil=>simp
  |cons d l=>
   constructor
   ·intro h;have:c=d:=(by simpa[List.isPrefixOf] using h);subst this;exact⟨l,rfl⟩
   ·rintro⟨j,h⟩;cases h;simp[List.isPrefixOf]
 exact f _ (fun h=>a.1 h) fun h l g=>by rw[a.2 ⟨l,g⟩] at h;cases h
theorem WQ {x:ByteArray} (h:Blk w bp [.string s,.map (some kb)] zx) (a:∀w',Same (· =bp) w w'->w'.heap.size=w.heap.size->Blk w' bp [.string x,.map (some kb)] zx->K undef w'):zk PP ze (.pointer (some ⟨bp,0,none⟩)) (.string x) w K:=
 h.st (i:=0) rfl rfl ZF rfl a
theorem ZI (h:PS w0 w bp kb s) (n:p.data.toList=[c]) (k:V->∃l,s.data.toList=c::l) (j:∀w' x,PS w0 w' bp kb x->Same (· =bp) w w'->s.data.toList=c::x.data.toList->K (.tuple #[]) w'): @vcall (zP V w0 bp) PP yw #[.pointer (some ⟨bp,0,none⟩),.string p] w K:=by
 refine @ZS (zP V w0 bp) _ _ _ _ ?_;unfold j2;simp(disch:=first|(simp only[push_cast];done)|omega) only[push_cast,h.par.ld0];refine Yp (Qe n fun x b g i=>?_);simp only[push_cast];refine ki h.same (fun e o=>?_) fun e=>?_
 ·obtain⟨l,m⟩:=k o;exact i (by simpa using e) l m
 have f:=g (by simpa using e);refine WQ h.par fun r a q d=>?_;exact j r x (h.step (l:=[c]) a d f) a f
theorem index_word:∀(L:List UInt8),(Lib.indexAny L [32,40,41]= -1/\M.wd L=L/\M.rs L=[])\/ ∃k:Nat,Lib.indexAny L [32,40,41]=k/\k<=L.length/\M.wd L=L.take k/\M.rs L=L.drop k
 |[]=> .inl ⟨rfl,rfl,rfl⟩
 |b::l=>by
  have g:([32,40,41]:List UInt8).contains b= !M.okc b:=by
   simp only[M.okc,List.contains_cons,List.contains_nil,Bool.or_false,bne];cases b==32<;>cases b==40<;>cases b==41<;>rfl
  cases a:M.okc b with
  |false=>
   right;refine⟨0,?_,Nat.zero_le _,?_,?_⟩
   ·rw[Lib.indexAny,g,a];rfl
   ·simp[M.wd,a]
   ·simp[M.rs,a]
  |true=>
   have h:M.wd (b::l)=b::M.wd l:=(by simp[M.wd,a]);have i:M.rs (b::l)=M.rs l:=(by simp[M.rs,a]);rw[Lib.indexAny,g,a,h,i];rcases index_word l with⟨c,f,d⟩|⟨k,c,f,d,j⟩
   ·left;rw[c,f,d];exact⟨rfl,rfl,rfl⟩
   ·right;refine⟨k+1,?_,by simp;omega,by rw[d];rfl,by rw[j];rfl⟩;rw[c];have:((k:Int)== -1)=false:=by
     rw[Bool.eq_false_iff];intro e;have:=beq_iff_eq.1 e;omega
    rw[this];simp
theorem IndexAny_spec (f:s.size<=1000000) (c:Asc s.data.toList) (d:∀w',Ext w w'->K (.int .i64 (Lib.indexAny s.data.toList [32,40,41])) w'):vcall PP qU #[.string s,.string ⟨#[32,40,41]⟩] w K:=by
 refine⟨by kernel_rfl,?_⟩;refine(Any.strings_IndexAny_laid YtaemeijeaajoeaaGreatDoor.anyL (by kernel_rfl) s ⟨#[32,40,41]⟩ w (by omega) (by decide) (fun j b a=>c b (List.mem_of_getElem? a)) (ascii_of_all (by decide))).mono ?_;rintro e w' ⟨rfl,a⟩;exact d w' (jn a)
theorem J6 {t:TypeId} {k:IntKind} {j:Int} (h:PP.underlying t=some .string) (a:0<=j) (b:j<=s.size):yx PP t (.string s) none (some (.int k j)) none w K=K (.string (s.extract 0 j.toNat)) w:=by
 refine yh ?_;rw[run_sliceAt_string w t _ _ _ _ h];exact run_slice_string_h (P:=PP) w t s h k j a b
theorem parser_word_spec (h:PS w0 w bp kb s) (p:∀w' x y,PS w0 w' bp kb y->Same (· =bp) w w'->x.data.toList=M.wd s.data.toList->y.data.toList=M.rs s.data.toList->x.size<=1000000->Asc x.data.toList->K (.string x) w'): @vcall (zP V w0 bp) PP yA #[.pointer (some ⟨bp,0,none⟩)] w K:=by
 refine @ZR (zP V w0 bp) _ _ _ ?_;unfold j1;simp(disch:=first|(simp only[push_cast];done)|omega) only[push_cast,h.par.ld0];refine Yp (IndexAny_spec h.sz h.asc fun n b=>?_);have a:=h.ext b;have A:=h.sz;have z:=yB s;refine zI (fun u w'=> ∃k:Nat,u=[.int .i64 k]/\w'=n/\k<=s.size/\M.wd s.data.toList=s.data.toList.take k/\M.rs s.data.toList=s.data.toList.drop k) (fun J m=>?_) ?_
 ·rcases index_word s.data.toList with⟨e,f,i⟩|⟨k,e,f,i,r⟩
  ·rw[e];simp only[qi];refine zd (fun _=>?_) (fun c=>absurd (by decide) c);simp(disch:=first|(simp only[push_cast];done)|omega) only[push_cast,a.par.ld0,yl yp];refine m _ _ ⟨s.size,rfl,rfl,Nat.le_refl _,?_,?_⟩
   ·rw[f,List.take_of_length_le (by omega)]
   ·rw[i,List.drop_eq_nil_of_le (by omega)]
  ·rw[e];simp only[qi];refine zd (fun c=>by omega) (fun _=>m _ _ ⟨k,rfl,rfl,by omega,i,r⟩)
 rintro _ _ n ⟨k,rfl,rfl,v,e,f⟩;simp(disch:=first|(simp only[push_cast];done)|omega) only[push_cast,a.par.ld0];rw[J6 yp (by omega) (by omega)];simp(disch:=first|(simp only[push_cast];done)|omega) only[push_cast,a.par.ld0];rw[Zg yp (by omega) (by omega),Int.toNat_natCast];refine WQ a.par fun t d q g=>?_;have j:(s.extract 0 k).data.toList=M.wd s.data.toList:=by rw[ZL,e,List.drop_zero,Nat.sub_zero]
 have l:(s.extract k s.size).data.toList=M.rs s.data.toList:=by rw[ZL,f,List.take_of_length_le (by rw[List.length_drop];omega)]
 have o:s.data.toList=M.wd s.data.toList++(s.extract k s.size).data.toList:=by rw[l,M.wd_rs]
 refine p t _ _ (a.step d g o) ((Same.of_ext b).trans d) j l ?_ ?_
 ·rw[ByteArray.size_extract];omega
 ·rw[j];have:=h.asc;rw[<-M.wd_rs s.data.toList] at this;exact this.left
end
end Go.Proofs.YtaemeijeaajoeaaGreatDoor
end
section
namespace Go.Proofs.YtaemeijeaajoeaaGreatDoor
open Go Go.Vc Go.Proofs
variable {w w' w0:World} {K:Value→World→Prop} {F:Nat→Prop} {s:ByteArray} {V:Prop} {dv:Value} {ds:List M.Dcl} {u t:M.Tm} {bp kb:Nat} {r:List UInt8}
theorem dig_atoi:∀a:Fin 10,Lib.atoiAll (M.digL a.1)= .ok (a.1:Int):=by decide+kernel
def WA (ev:Value) (b:Bool):Prop:=∀(w':World) (K:Value→World→Prop),zj PP .neq Yw true ev .nilIface w' K=K (.bool b) w'
theorem Wt:WA .nilIface false:=fun w' K=>ym (by kernel_rfl) (by kernel_rfl)
theorem V6 {N:Nat}:WA (.iface ((YtaemeijeaajoeaaGreatDoor.atoiL_ren).t 168) (.pointer (some ⟨N,0,none⟩))) true:=fun w' K=>ym (by kernel_rfl) (by kernel_rfl)
theorem Atoi_spec {d:Int} (l:SynR w) (r:s.size<=1000000) (m:V->s.data.toList=M.digL d/\0<=d/\d<10) (f:∀w' (n:Int) ev b,Ext w w'->WA ev b->(V->n=d/\b=false)->K (.tuple #[.int .i64 n,ev]) w'):vcall PP kW #[.string s] w K:=by
 refine⟨by kernel_rfl,?_⟩;obtain⟨⟨te,pe,i⟩,q,o,j⟩:=l;have a:V->Lib.atoiAll s.data.toList= .ok d:=fun h=>by
  obtain⟨p,u,x⟩:=m h;rw[p];obtain⟨k,rfl⟩:∃k:Nat,d=k:=⟨d.toNat,by omega⟩;exact dig_atoi ⟨k,by omega⟩
 cases h:Lib.atoiAll s.data.toList with
 |ok v=>
  refine(Any.strconv_Atoi_ok YtaemeijeaajoeaaGreatDoor.atoiL s (by omega) v h w).mono ?_;rintro e w' ⟨rfl,hw⟩;refine f w' v _ false ?_ Wt fun c=>⟨?_,rfl⟩
  ·rcases hw with rfl|⟨t,rfl⟩
   ·exact Same.refl _ _
   ·exact jn (Lib.bytesWorld_below w _ t)
  ·have:=a c;rw[h] at this
   injection this
 |«syntax»=>
  refine(Any.strconv_Atoi_syntax YtaemeijeaajoeaaGreatDoor.atoiL s (by omega) h _ w i (.inr ⟨_,_,rfl⟩)).mono ?_;rintro e w' ⟨N,rfl,_,_,g⟩;refine f w' _ _ true (jn g) V6 fun c=>?_;have:=a c;rw[h] at this;cases this
 |range=>
  refine(Any.strconv_Atoi_range YtaemeijeaajoeaaGreatDoor.atoiL s (by omega) h _ w j (.inr ⟨_,_,rfl⟩)).mono ?_;rintro e w' ⟨N,rfl,_,_,g⟩;refine f w' _ _ true (jn g) V6 fun c=>?_;have:=a c;rw[h] at this;cases this
theorem X6 {d:Int} (h:PS w0 w bp kb s) (e:V->s.data.toList=32::(M.digL d++r)/\0<=d/\d<10/\M.Stop r) (t:∀w' (n:Int) y,PS w0 w' bp kb y->Same (· =bp) w w'->(V->n=d/\y.data.toList=r)->K (.int .i64 n) w'): @vcall (zP V w0 bp) PP yC #[.pointer (some ⟨bp,0,none⟩)] w K:=by
 refine @kP (zP V w0 bp) _ _ _ ?_;unfold qf;refine ZI h (c:=32) rfl (fun a=>⟨_,(e a).1⟩) fun I x q i v=>?_;refine parser_word_spec q fun J y z m j A C l B=>?_;have k:V->x.data.toList=M.digL d++r:=fun a=>by
  have:=(e a).1;rw[v] at this;exact(List.cons.inj this).2
 have hw:V->y.data.toList=M.digL d/\z.data.toList=r:=fun a=>by
  obtain⟨H,D,E,F⟩:=e a;obtain⟨g1,g2⟩:=M.dig_word D E F;rw[A,C,k a,g1,g2];exact⟨rfl,rfl⟩
 refine Yp (Atoi_spec (V:=V) (d:=d) m.syn l (fun a=>⟨(hw a).1,(e a).2.1,(e a).2.2.1⟩) fun G n ev b f g p=>?_);simp only[push_cast];rw[g];have o:=m.ext f;refine ki o.same (fun u a=>?_) fun _=>?_
 ·have:=(p a).2;rw[u] at this;cases this
 exact t G n z o ((i.trans j).trans (Same.of_ext f)) fun a=>⟨(p a).1,(hw a).2⟩
theorem K9 {t:TypeId} (h:PP.underlying t=some .string) (a:∀k w',k=w.heap.size->Ext w w'->w'.heap.size=w.heap.size+1->w'.heap[k]?=some (.stringIter s 0)->K (.pointer (some ⟨k,0,none⟩)) w'):J7 PP t (.string s) w K:=
 ⟨_,_,run_range_string w t s h,a _ _ rfl (ext_push w _) (by show(w.heap.push (Obj.stringIter s 0)).size=_;simp) (World.iter_heap w s 0)⟩
theorem Ky {k pos:Nat} {ty:TypeId} (b:w.heap[k]?=some (.stringIter s pos)) (f:Asc s.data.toList) (a: ¬pos<s.size->K (.tuple #[.bool false]) w)
  (d:pos<s.size->∀w',Same (· =k) w w'->w'.heap.size=w.heap.size->w'.heap[k]?=some (.stringIter s (pos+1))->K (.tuple #[.bool true,.int .i64 pos,.int .i32 ((s.data.getD pos 0).toNat:Int)]) w'):Kz PP (.pointer (some ⟨k,0,none⟩)) true ty w K:=by
 by_cases h:pos<s.size
 ·have g:pos<s.data.size:=h;have e:s[pos]'h=s.data.getD pos 0:=by rw[Array.getD_eq_getD_getElem?,Array.getElem?_eq_getElem g];rfl
  have c:(s[pos]'h).toNat<128:=by
   rw[e];refine f _ ?_;have i:=qY h;have:s.data.getD pos 0∈s.data.toList.drop pos:=by rw[i];exact List.mem_cons_self
   exact List.mem_of_mem_drop this
  refine⟨_,_,Lib.run_next_ascii_at w k s pos ty b h c,?_⟩;rw[e];exact d h _ (Qr b) (by simp[World.iterAt]) (Lib.iterAt_heap w k s pos (pos+1) b)
 ·exact⟨_,_,Lib.run_next_end_at w k s pos ty b h,a h⟩
theorem VecRead_spec {wd n:Nat} (A:V->s.data.toList=M.vecL wd n/\1<=wd/\wd<=4/\n<2^wd) (hz:s.size<=1000000) (hA:Asc s.data.toList) (hK:∀w' (a b:Int) (ok:Bool),Ext w w'->(ok=true->s.data.getD 0 0=35/\0<s.size)->(V->ok=true/\a=wd/\b=n)->K (.tuple #[JB a b,.bool ok]) w'):vcall PP jg #[.string s] w K:=by
 apply Q5;unfold Zf;have hl:V->s.size=wd+1:=fun h=>by have:=yB s;rw[(A h).1,YP] at this;omega
 have hc:V->∀i,1<=i->i<=wd->s.data.getD i 0=Q6 n (wd-i):=fun h i Q B=>by rw[Jj (A h).1,vecL_get Q B]
 have a5:V->s.data.getD 0 0=35:=fun h=>by rw[Jj (A h).1 0];rfl
 refine zw xG fun b1 w1 ab T ag a1=>?_;refine zw xG fun b2 w2 ac E ah a2=>?_;refine K9 yp fun k v hk F a8 hit=>?_;have fin:∀{e:World} {p q:Int} {ok:Bool} {x y:Value},Ext w e->Blk e b1 [x,y] zf->(ok=true->s.data.getD 0 0=35/\0<s.size)->(V->ok=true/\p=wd/\q=n)->zk PP zf (.pointer (some ⟨b1,0,none⟩)) (JB p q) e fun _ v=>vlv PP zf (.pointer (some ⟨b1,0,none⟩)) v fun r e=>K (.tuple #[r,.bool ok]) e:=fun{w2 p q ok x y} he hB Q B=>by
  refine stVec hB fun v a7 a8 a3=>?_;rw[a3.lv xM];exact hK v p q ok (Ext.then he a7 fun y hy=>by subst hy;omega) Q B
 have z1:=T.size;have bad:∀{e:World} {x y:Value},Ext w e->Blk e b1 [x,y] zf->¬V->zr PP zf [] e fun t v=>zk PP zf (.pointer (some ⟨b1,0,none⟩)) t v fun _ v=>vlv PP zf (.pointer (some ⟨b1,0,none⟩)) v fun r e=>K (.tuple #[r,.bool false]) e:=fun{w2 x y} he hB h=>by
  rw[Va];exact fin he hB (fun h=>by cases h) fun hv=>absurd hv h
 refine vloop_up s.size (fun i u w'=> ∃(a m:Int),u=[]/\Ext w w'/\v.heap.size<=w'.heap.size/\Blk w' b1 [.int .i64 0,.int .i64 0] zf/\Blk w' b2 [.int .i64 a,.int .i64 m] zf/\w'.heap[k]?=some (.stringIter s i)/\(i=0->a=0/\m=0)/\(0<i->a=(i:Int)-1/\i<=5/\s.data.getD 0 0=35)/\(V->i<=wd+1/\(0<i->m=((n/2^(wd+1-i):Nat):Int))))
  ⟨0,0,rfl,(T.trans E).trans F,Nat.le_refl _,(a1.ext E).ext F,a2.ext F,hit,fun _=>⟨rfl,rfl⟩,fun h=>absurd h (Nat.lt_irrefl _),fun h=>⟨Nat.zero_le _,fun h=>absurd h (Nat.lt_irrefl _)⟩⟩ ?_
 rintro i _ _ e C hi ⟨a,m,rfl,e4,ai,p4,q4,W,U,l,hm⟩ hC;refine Ky W hA (fun a9=>?_) fun Y R H aj f=>?_
 ·simp only[ZG];refine zR (fun c=>by cases c) (fun _=>?_);rw[q4.ldAgg xM];refine VecOk_spec fun R j=>?_;simp only[Yj];have P:=e4.trans j;refine zR (fun c=>bad P (p4.ext j) fun h=>?_) (fun c=>?_)
  ·have Q:=hl h;have B:=A h;have h3:=l (by omega);have d:=(hm h).2 (by omega);have G:i=wd+1:=(by omega);rw[G,Nat.sub_self,Nat.pow_zero,Nat.div_one] at d;have I:M.vok a m=true:=by
    have h5:((2^wd:Nat):Int)=2^wd:=Ql _;have e1:a=(wd:Int):=(by omega);rw[e1,d];refine M.vok_iff.2 ⟨by omega,by omega,by omega,?_⟩;rw[Int.toNat_natCast];omega
   rw[I] at c;cases c
  ·rw[(q4.ext j).ldAgg xM];have I:M.vok a m=true:=(by simpa using c);have ae:=(M.vok_iff.1 I).1;have Z:0<i:=by
    rcases Nat.eq_zero_or_pos i with h|h
    ·have:=(U h).1;omega
    ·exact h
   refine fin P (p4.ext j) (fun _=>⟨(l Z).2.2,by omega⟩) fun h=>?_;have Q:=hl h;have B:=A h;have h3:=l (by omega);have d:=(hm h).2 (by omega);have G:i=wd+1:=(by omega);rw[G,Nat.sub_self,Nat.pow_zero,Nat.div_one] at d;exact⟨rfl,by omega,d⟩
 simp only[jU,X0,YZ];refine zR (fun _=>?_) (fun c=>by cases c);have ad:k≠b1/\k≠b2:=by omega
 have p5:=p4.same H (by omega);have q5:=q4.same H (by omega);have P:Ext w R:=Ext.then e4 H fun y hy=>by have:=E.size;subst hy;omega
 generalize hx:s.data.getD i 0=x;have af:x.toNat<256:=x.toNat_lt;refine zI (fun u w'=>w'=R/\∃b:Bool,u=[.bool b]/\(b=true↔i=0/\x=35)) (fun J D=>?_) ?_
 ·simp only[kA];refine zd (fun c=>D _ _ ⟨rfl,_,rfl,?_⟩) (fun c=>D _ _ ⟨rfl,_,rfl,?_⟩)
  ·rw[decide_eq_true_eq];constructor
   ·exact fun h=>⟨by omega,u8_eq (n:=35) h⟩
   ·rintro⟨_,h⟩;rw[h];rfl
  ·constructor
   ·intro h;cases h
   ·intro h;exact absurd h.1 (by omega)
 rintro _ _ R ⟨rfl,b,rfl,hb⟩;simp only[sl0];refine zR (fun c=>?_) (fun c=>?_)
 ·obtain⟨g1,g2⟩:=hb.1 c;obtain⟨g3,g4⟩:=U g1;subst g1;rw[g3,g4] at q5;refine hC Y _ _ ⟨0,0,rfl,P,by omega,p5,q5,f,fun h=>by omega,fun _=>⟨rfl,by omega,by rw[hx,g2]⟩,fun h=>⟨by omega,fun _=>?_⟩⟩;have d:=A h;rw[Nat.zero_add,Nat.add_sub_cancel,Nat.div_eq_of_lt d.2.2.2];rfl
 have a6: ¬(i=0/\x=35):=fun h=>by rw[hb.2 h] at c;cases c
 refine zI (fun u w'=>w'=R/\∃b:Bool,u=[.bool b]/\(b=true↔0<i/\i<=4/\(x=48\/x=49))) (fun J D=>?_) ?_
 ·simp only[qR];refine zd (fun O=>?_) (fun O=>D _ _ ⟨rfl,_,rfl,⟨fun h=>(by cases h),fun h=>(by omega)⟩⟩);simp only[Vy];refine zd (fun c2=>?_) (fun c2=>D _ _ ⟨rfl,_,rfl,⟨fun h=>(by cases h),fun h=>(by omega)⟩⟩);simp only[kA];refine zd (fun c3=>D _ _ ⟨rfl,_,rfl,⟨fun _=>⟨by omega,by omega,.inl (u8_eq (n:=48) c3)⟩,fun _=>rfl⟩⟩) (fun c3=>?_);refine D _ _ ⟨rfl,_,rfl,?_⟩;rw[decide_eq_true_eq];constructor
  ·exact fun h=>⟨by omega,by omega,.inr (u8_eq (n:=49) h)⟩
  ·rintro⟨_,_,h|h⟩
   ·rw[h] at c3;exact absurd rfl c3
   ·rw[h];rfl
 rintro _ _ R ⟨rfl,b',rfl,S⟩;simp only[sl0];refine zR (fun O=>?_) (fun O=>bad P p5 fun h=>?_)
 ·obtain⟨g1,g2,g3⟩:=S.1 O;obtain⟨g4,g5,g6⟩:=l g1;have N:(x.toNat:Int)=48\/(x.toNat:Int)=49:=by
   rcases g3 with h|h
   ·left;rw[h];rfl
   ·right;rw[h];rfl
  simp(disch:=first|(simp only[push_cast];done)|omega) only[push_cast,q5.ld0,q5.ld1];have a0:IntKind.i32.wrap ((x.toNat:Int)-48)=(x.toNat:Int)-48:=by rcases N with h|h<;>rw[h]<;>rfl
  rw[a0,qx VB Ji,zF (x:=(x.toNat:Int)-48) (by omega) (by omega),zF (x:=a+1) (by omega) (by omega)];simp only[push_cast];refine stVec q5 fun w6 L ak a4=>?_;have X:w6.heap[k]?=some (.stringIter s (i+1)):=by rw[L.block k (Array.getElem?_eq_some_iff.1 f).1 (by omega)];exact f
  refine hC Y _ _ ⟨_,_,rfl,Ext.then P L fun y hy=>by subst hy;omega,by omega,p5.same L (by omega),a4,X,fun h=>by omega,fun _=>⟨by omega,by omega,g6⟩,fun h=>?_⟩;obtain⟨Q,B⟩:=hm h;have h3:=hl h;have d:=B g1;refine⟨by omega,fun _=>?_⟩;have g:=bitC_nat n (wd-i);rw[<-hc h i (by omega) (by omega),hx] at g;have o:=half_step (n:=n) (k:=wd-i);rw[show wd-i+1=wd+1-i by omega] at o;have aa:n<16:=by
   have d:=A h;have:(2:Nat)^wd<=2^4:=Nat.pow_le_pow_right (by omega) d.2.2.1;omega
  have:n/2^(wd+1-i)<=n:=Nat.div_le_self _ _;rw[show wd+1-(i+1)=wd-i by omega,d,g];rw[show(48:Int)+((n/2^(wd-i)%2:Nat):Int)-48=((n/2^(wd-i)%2:Nat):Int) by omega];have hq:n/2^(wd-i)%2<2:=Nat.mod_lt _ (by decide);generalize n/2^(wd-i)%2=q at o hq⊢;generalize n/2^(wd-i)=z at o⊢;generalize n/2^(wd+1-i)=y at o this⊢;rw[zF (x:=2*(y:Int)) (by omega) (by omega),zF (by omega) (by omega)];omega
 ·have h3:=hl h;rcases Nat.eq_zero_or_pos i with h0|h0
  ·subst h0;exact a6 ⟨rfl,by rw[<-hx];exact a5 h⟩
  ·have d:=A h;have g:x=Q6 n (wd-i):=by rw[<-hx];exact hc h i (by omega) (by omega)
   have N:x=48\/x=49:=by
    rw[g];unfold Q6;split
    ·exact .inr rfl
    ·exact .inl rfl
   rw[S.2 ⟨h0,by omega,N⟩] at O;cases O
theorem atom_spec (z:V->M.declOk ds=true/\M.sortM ds u≠ -1/\M.leafT u/\s.data.toList=M.textL u) (hz:s.size<=1000000) (T:Asc s.data.toList) (W:∀w' tv t,Ext w w'->TermR (fun _=>False) w' tv t->(V->t=u)->K tv w'):vcall PP Zo #[.string s] w K:=by
 apply JS;unfold XE;refine zw zt fun b1 w1 X l a0 j=>?_;have A:V->_:=fun h=>leaf_name (z h).1 (z h).2.1 (z h).2.2.1 (z h).2.2.2;have fin:∀{g:World} {o a b:Int} {x:ByteArray},Ext w g->Blk g b1 ZE za->(V->u= .mk o a b x [])->zk PP za (.pointer (some ⟨b1,0,none⟩)) (.agg ⟨[.int .i64 o,.int .i64 a,.int .i64 b,.string x,.slice none 0 0]⟩) g fun _ B=>vlv PP za (.pointer (some ⟨b1,0,none⟩)) B fun r L=>K r L:=fun{g o a b x} he U h=>by
  refine qB U rfl (Yo (G:=fun _=>False) o a b x) (fun x hx=>hx.elim) fun B F J Z=>?_;exact W B _ _ (Ext.then he F fun y I=>by subst I;omega) Z fun hv=>(h hv).symm
 simp only[xH];refine zd (fun c=>?_) (fun c=>?_)
 ·rw[Wz];refine fin l j fun h=>?_;rcases A h with h|h|h
  ·exact h.2.2
  ·exact absurd c h.2.2.1
  ·exact absurd c h.2.2.1
 have d:(V/\u.op=20)->s.data.toList=M.vecL u.a.toNat u.b.toNat/\1<=u.a.toNat/\u.a.toNat<=4/\u.b.toNat<2^u.a.toNat/\u.a=u.a.toNat/\u.b=u.b.toNat/\u= .mk 20 u.a u.b M.nada []:=fun h=>by
  rcases A h.1 with q|q|q
  ·omega
  ·obtain⟨wd,n,N,O,C⟩:=vok_nat q.2.2.2.2.1;have Q:u.a.toNat=wd:=(by omega);have v:u.b.toNat=n:=(by omega);refine⟨q.2.2.2.1,by omega,by omega,?_,by omega,by omega,q.2.2.2.2.2⟩;rw[Q,v];exact C.2.2
  ·omega
 refine VecRead_spec (V:=V/\u.op=20) (wd:=u.a.toNat) (n:=u.b.toNat) (fun h=>⟨(d h).1,(d h).2.1,(d h).2.2.1,(d h).2.2.2.1⟩) hz T fun g a b ok m i e=>?_;have v:=l.trans m;simp only[yc,yb];refine zw xG fun b3 B Y E J D=>?_;refine stVec D fun L H a1 k=>?_;have f:Ext g L:=Ext.then E H fun y I=>by subst I;omega
 have P:=(j.ext m).ext f;refine zR (fun c5=>?_) (fun c5=>?_)
 ·simp(disch:=first|(simp only[push_cast];done)|omega) only[push_cast,k.ld0,k.ld1];refine fin (v.trans f) P fun h=>?_;have p:u.op=20:=by
   rcases A h with q|q|q
   ·exact absurd q.2.1 c
   ·exact q.1
   ·exact absurd (i c5).1 (q.2.1 (i c5).2)
  obtain⟨_,N,O⟩:=e ⟨h,p⟩;obtain⟨_,_,_,_,C,R,S⟩:=d ⟨h,p⟩;rw[N,O,<-C,<-R];exact S
 ·rw[U3];refine fin (v.trans f) P fun h=>?_;rcases A h with q|q|q
  ·exact absurd q.2.1 c
  ·have:=(e ⟨h,q.1⟩).1;rw[c5] at this;cases this
  ·exact q.2.2.2
end Go.Proofs.YtaemeijeaajoeaaGreatDoor
end
section
namespace Go.Proofs.YtaemeijeaajoeaaGreatDoor
open Go Go.Vc Go.Proofs
variable {w w' w0:World} {K:Value→World→Prop} {F:Nat→Prop} {s:ByteArray} {V:Prop} {dv:Value} {ds:List M.Dcl} {u t:M.Tm} {bp kb:Nat} {r:List UInt8}
theorem arity_range {o:Int} (h:0<=M.arity o):M.arity o<=3/\((1<=o/\o<=17)\/(20<=o/\o<=27))/\(0<M.arity o->((1<=o/\o<=17)\/(22<=o/\o<=27))/\o≠24):=by
 unfold M.arity at h⊢;split at h
 ·exact⟨by rw[if_pos (by assumption)];omega,by omega,fun h=>by rw[if_pos (by assumption)] at h;omega⟩
 ·next d=>
  rw[if_neg d];split at h
  ·next a=>rw[if_pos a];exact⟨by omega,by omega,fun _=>by omega⟩
  ·next a=>
   rw[if_neg a];split at h
   ·next b=>rw[if_pos b];exact⟨by omega,by omega,fun _=>by omega⟩
   ·next b=>
    rw[if_neg b];split at h
    ·next c=>rw[if_pos c];exact⟨by omega,by omega,fun _=>by omega⟩
    ·next c=>
     rw[if_neg c];split at h
     ·next e=>rw[if_pos e];exact⟨by omega,by omega,fun _=>by omega⟩
     ·omega
theorem word_all {o:Int} {v:Value} (p:KindR o v) (k:0<=M.arity o) (j:∀w' s,Ext w w'->(0<M.arity o->s.data.toList=M.wordL o)->K (.string s) w'):vinvoke PP v xL #[] w K:=by
 obtain⟨s,m,r,rfl,e,g,i⟩:=p.word;obtain⟨_,q,l⟩:=arity_range k;have n:0<M.arity o->s.data.toList=M.wordL o:=fun h=>by
  have:=l h;rcases i with h|h|h|h
  ·omega
  ·omega
  ·omega
  ·exact h
 have fin:∀{m:Value},vcall PP zK #[.agg ⟨[.string s,m]⟩] w K:=fun{m}=>jV fun w' he=>j w' s he n;unfold kTy;by_cases c:24<=o
 ·obtain⟨f,rfl,_⟩:=g c
  repeat rw[if_neg (by omega)]
  exact zz (xX _ _ _) fin
 ·have:=e (by omega);subst this;by_cases a:o<=2
  ·rw[if_pos a];exact zz (qH _ _) fin
  rw[if_neg a];by_cases c2:o<=13
  ·rw[if_pos c2];exact zz (qe _ _) fin
  rw[if_neg c2];by_cases c3:o=14
  ·rw[if_pos c3];exact zz (qd _ _) fin
  rw[if_neg c3];by_cases c4:o<=17
  ·rw[if_pos c4];exact zz (qc _ _) fin
  rw[if_neg c4];by_cases c5:o=20
  ·rw[if_pos c5];exact zz (kE _ _) fin
  rw[if_neg c5];by_cases b:o=21
  ·rw[if_pos b];exact zz (k9 _ _) fin
  rw[if_neg b];by_cases d:o=22
  ·rw[if_pos d];exact zz (qb _ _) fin
  rw[if_neg d,if_pos (by omega)];exact zz (qI _ _) fin
theorem Kj (h:KindsR w kb):∃ks:List Int,ISet w kb ks/\∀o,o∈ks↔0<=M.arity o:=by
 obtain⟨f,hm,j,l⟩:=h;obtain⟨es,cl,n,d,s,r⟩:=hm;have hex:∀f:List (Value×Value),(∀p,p∈f->∃o,p.1= .int .i64 o/\0<=M.arity o)->∃ks:List Int,f.map (·.1)=ks.map (fun k=>Value.int .i64 k)/\∀o,o∈ks->0<=M.arity o:=by
  intro f;induction f with
  |nil=>intro _;exact⟨[],rfl,fun o b=>by cases b⟩
  |cons p f u=>
   intro g;obtain⟨ks,e,c⟩:=u fun q a=>g q (List.mem_cons_of_mem _ a);obtain⟨o,b,m⟩:=g p List.mem_cons_self;refine⟨o::ks,by simp only[List.map_cons,b,e],fun q a=>?_⟩;rcases List.mem_cons.1 a with rfl|a
   ·exact m
   ·exact c q a
 obtain⟨ks,e,c⟩:=hex f l;refine⟨ks,⟨es,cl,n,d,?_⟩,fun o=>⟨c o,fun b=>?_⟩⟩
 ·rw[<-e,<-r,List.map_map];rfl
 ·obtain⟨v,t,_⟩:=j o b;have:Value.int .i64 o∈f.map (·.1):=List.mem_map.2 ⟨_,t,rfl⟩;rw[e] at this;obtain⟨q,a,i⟩:=List.mem_map.1 this;cases i;exact a
theorem KL {f:List (Value×Value)} (h:(f.map (·.1)).Nodup) {k a b:Value} (i:(k,a)∈f) (j:(k,b)∈f):a=b:=by
 induction f with
 |nil=>cases i
 |cons p f l=>
  rw[List.map_cons,List.nodup_cons] at h;rcases List.mem_cons.1 i with e|d
  ·rcases List.mem_cons.1 j with g|c
   ·rw[<-e] at g;exact(Prod.mk.inj g).2.symm
   ·subst e;have:k∈f.map (·.1):=List.mem_map.2 ⟨(k,b),c,rfl⟩;exact absurd this h.1
  ·rcases List.mem_cons.1 j with g|c
   ·subst g;have:k∈f.map (·.1):=List.mem_map.2 ⟨(k,a),d,rfl⟩;exact absurd this h.1
   ·exact l h.2 d c
theorem JE {k:Nat} {ks done:List Int} {o:Int} (y:IterR w k kb ks (done++[o])) (z:KindsR w kb) (t:∀x,KindR o x->K (.tuple #[.int .i64 o,x]) w):KE PP (.pointer (some ⟨k,0,none⟩)) w K:=by
 obtain⟨es,clock,seen,m,i,A,hit,C,D,E,s⟩:=y;obtain⟨e,he,b,F,rfl⟩:=s _ _ rfl;obtain⟨f,hm,g1,g2⟩:=z;have h:=hm.nodup;obtain⟨r,q,a,p,n,u⟩:=hm;rw[m] at a;cases a;have c:(Value.int .i64 o,e.val)∈f:=by rw[<-u,<-b];exact List.mem_map.2 ⟨e,he,rfl⟩
 have d:0<=M.arity o:=by
  obtain⟨o',j,l⟩:=g2 _ c;cases j;exact l
 obtain⟨v,j,l⟩:=g1 o d;have B:=KL h c j;refine⟨.tuple #[e.key,e.val],w,?_,b▸t e.val (B▸l)⟩;have g:es.find? (·.born==e.born)=some e:=by rw[<-Array.find?_toList];exact find_born e es.toList i.2.1 he
 simp only[Instr.entry,getObj,Sem.run_bind,Sem.run,hit,m,Result.andThen,Array.back?_push,bne_self_eq_false,Bool.false_eq_true,if_false,g];rfl
theorem word_kind {o p:Int} (c:0<M.arity o) (d:0<M.arity p) (h:M.wordL o=M.wordL p):o=p:=by
 obtain⟨_,_,a⟩:=arity_range (o:=o) (by omega);obtain⟨_,_,b⟩:=arity_range (o:=p) (by omega);obtain⟨e,a2⟩:=a c;obtain⟨b1,f⟩:=b d;obtain⟨k,rfl⟩:∃k:Nat,o=k:=⟨o.toNat,by omega⟩;obtain⟨j,rfl⟩:∃j:Nat,p=j:=⟨p.toNat,by omega⟩;have:=M.word_inj ⟨k,by omega⟩ ⟨j,by omega⟩ h (M.word_ne ⟨k,by omega⟩ (by show 1<=k;omega) (by show k<=17\/k=22\/k=23\/25<=k;omega));have:k=j:=congrArg Fin.val this;omega
theorem WO:(⟨#[40]⟩:ByteArray).data.toList=[40]:=rfl
theorem parser_term_spec:∀(n:Nat),n<=7->∀{w:World} {K:Value->World->Prop} {s:ByteArray} {u:M.Tm} {r:List UInt8},PS w0 w bp kb s->(V->Good ds n u/\M.Stop r/\s.data.toList=M.textL u++r)->
  (∀w' tv t y,PS w0 w' bp kb y->Same (· =bp) w w'->TermR (fun x=>w.heap.size<=x) w' tv t->(V->t=u/\y.data.toList=r)->K tv w')-> @vcall (zP V w0 bp) PP yN #[.pointer (some ⟨bp,0,none⟩),.int .i64 (8-(n:Int))] w K:=by
 intro n;induction n with
 |zero=>
  intro _ w K s u r h N hK;refine @qZ (zP V w0 bp) _ _ _ _ ?_;unfold xB;refine zw zt fun b1 I cd a7 ct b4=>?_;simp only[qR];have h1:=h.ext a7;refine ki h1.same (fun _ f=>?_) fun hb=>?_
  ·have:=M.deep_pos u;have:=(N f).1.2.2;omega
  ·exact absurd hb (by rw[decide_eq_true (by omega)];decide)
 |succ n ih=>
  intro hn w K s u r h N hK;have cu:=fun{w:World} {K:Value->World->Prop} {s:ByteArray} {u:M.Tm} {r:List UInt8}=>ih (by omega) (w:=w) (K:=K) (s:=s) (u:=u) (r:=r);refine @qZ (zP V w0 bp) _ _ _ _ ?_;unfold xB;refine zw zt fun b1 I cd a7 ct b4=>?_;simp only[qR];have h1:=h.ext a7;refine ki h1.same (fun hb f=>?_) fun _=>?_
  ·have:=of_decide_eq_true hb;omega
  have z0:=h.same.size;have lb:=h.lt0;have z1:=a7.size;simp(disch:=first|(simp only[push_cast];done)|omega) only[push_cast,h1.par.ld0];have bd:V->∃c l,M.textL u=c::l/\(c≠40->M.leafT u)/\(c=40->¬M.leafT u):=fun f=>X1 (N f).1.1 (N f).1.2.1;have fin:∀{w2:World} {cs:List Value} {t:M.Tm} {y:ByteArray},PS w0 w2 bp kb y->Same (fun x=>x=bp\/I.heap.size<=x) I w2->TmR (fun x=>I.heap.size<=x) w2 cs t->(V->t=u/\y.data.toList=r)->zk PP za (.pointer (some ⟨b1,0,none⟩)) (.agg ⟨cs⟩) w2 fun _ w3=>vlv PP za (.pointer (some ⟨b1,0,none⟩)) w3 fun r w4=>K r w4:=fun{w2 cs t y} h2 a0 ht f=>by
   have c9:=b4.same a0 (by omega);refine qB c9 rfl ht (fun x g=>by omega) fun w3 br de cm=>?_;have av:Same (· =bp) w w3:=by
    have:=((Same.of_ext (S:=fun x=>x=bp\/w.heap.size<=x) a7).trans (a0.mono fun x _ g=>g.imp id fun h=>by omega)).trans (br.mono fun x _ g=> .inr (by omega));exact this.mono fun x g h=>h.resolve_right (by omega)
   exact hK w3 _ _ y (h2.new br fun x g=>by omega) av (cm.weaken fun x g _=>by omega) f
  refine Yp (Qd WO fun b ba ce=>?_);simp only[Yj];refine zR (fun c=>?_) (fun c=>?_)
  ·
   have cc:b=false:=(by simpa using c);have bk:V->M.leafT u:=fun f=>by
    obtain⟨c',l,q1,q2,_⟩:=bd f;refine q2 fun e=>ce cc (l++r) ?_;rw[(N f).2.2,q1,e];rfl
   refine parser_word_spec h1 fun w2 x y h2 a0 g hy cr cq=>?_;have hw:V->x.data.toList=M.textL u/\y.data.toList=r:=fun f=>by
    obtain⟨⟨g1,g2,g3⟩,g4,g5⟩:=N f;obtain⟨g6,g7⟩:=M.leaf_word g1 g2 (bk f) g4;rw[g,hy,g5,g6,g7];exact⟨rfl,rfl⟩
   refine Yp (atom_spec (V:=V) (ds:=ds) (u:=u) (fun f=>⟨(N f).1.1,(N f).1.2.1,bk f,(hw f).1⟩) cr cq fun w3 tv t bc ht cn=>?_);obtain⟨cs,rfl,a6⟩:=ht.cells;exact fin (h2.ext bc) ((a0.mono fun x _ g=> .inl g).trans (Same.of_ext bc)) (a6.weaken fun x g _=>g.elim) fun f=>⟨cn f,(hw f).2⟩
  ·
   have ak:b=true:=(by simpa using c);have ab:V->¬M.leafT u:=fun f=>by
    obtain⟨c',l,q1,_,q2⟩:=bd f;obtain⟨l',q3⟩:=ba ak;refine q2 ?_;have:=(N f).2.2;rw[q3,q1] at this;exact(List.cons.inj this).1.symm
   have Z:V->_:=fun f=>M.node_arity' (N f).1.2.1 (ab f);refine ZI (V:=V) h1 (c:=40) WO (fun _=>ba ak) fun w2 x h2 a0 g=>?_;have cf:V->x.data.toList=M.wordL u.op++(M.cutL u++(M.kidsL u.ks++41::r)):=fun f=>by
    have g5:=(N f).2.2;rw[M.node_text (ab f),List.cons_append,g] at g5;rw[(List.cons.inj g5).2];simp
   refine parser_word_spec h2 fun w3 wd y h3 av cp hy dd dc=>?_;have hw:V->wd.data.toList=M.wordL u.op/\y.data.toList=M.cutL u++(M.kidsL u.ks++41::r):=fun f=>by
    obtain⟨⟨g1,g2,g3⟩,g4,g5⟩:=N f;obtain⟨g6,g7⟩:=M.node_word g1 g2 (ab f);rw[cp,hy,cf f,g6,g7];exact⟨rfl,rfl⟩
   have bz:Same (fun x=>x=bp\/I.heap.size<=x) I w3:=(a0.trans av).mono fun x _ g=> .inl g;refine zw zt fun b2 w4 d1 aq df ca=>?_;have h4:=h3.ext aq;have z3:=bz.size;have cv:=bz.trans (Same.of_ext (S:=fun x=>x=bp\/I.heap.size<=x) aq);simp(disch:=first|(simp only[push_cast];done)|omega) only[push_cast,h4.par.ld1];obtain⟨ks,bq,bg⟩:=Kj h4.kinds;refine Ka jN bq fun k w5 hk ci ae=>?_;have z4:=aq.size;have z5:=ae.size;have d5:=K4 h3.kinds;refine vloop_up ks.length (fun i u w'=> ∃(done:List Int) (o:Int),u=[]/\done.length=i/\PS w0 w' bp kb y/\Same (fun x=>x=bp\/I.heap.size<=x) I w'/\w5.heap.size<=w'.heap.size/\Blk w' b2 [.int .i64 o,.int .i64 0,.int .i64 0,.string ⟨#[]⟩,.slice none 0 0] za/\IterR w' k kb ks done/\((o=0/\∀q,q∈done->¬(0<M.arity q/\M.wordL q=wd.data.toList))\/(0<M.arity o/\M.wordL o=wd.data.toList)))
    ⟨[],0,rfl,rfl,h4.ext ae,cv.trans (Same.of_ext ae),Nat.le_refl _,ca.ext ae,ci,.inl ⟨rfl,fun q hq=>by cases hq⟩⟩ ?_
   rintro i _ _ w6 C hi ⟨done,o,rfl,cg,h6,ay,cy,a3,cj,T⟩ hC;refine vnext_set cj (fun a5=>?_) fun q x w7 hq d7 ar O dg=>?_
   ·
    simp only[ZG];refine zR (fun c=>by cases c) (fun _=>?_);simp(disch:=first|(simp only[push_cast];done)|omega) only[push_cast,a3.ld0];refine ki h6.same (fun hb f=>?_) fun hb=>?_
    ·have:=of_decide_eq_true hb;have db:=(Z f).2.2.1;have co:0<M.arity u.op:=by have:=(Z f).2.2.2.2.1;have:=(Z f).1;omega
     rcases T with⟨_,T⟩|⟨T,_⟩
     ·exact T u.op (a5 _ ((bg _).2 (by omega))) ⟨co,(hw f).1.symm⟩
     ·rw[this] at T;revert T;decide
    have bn:0<M.arity o/\M.wordL o=wd.data.toList:=by
     rcases T with⟨T,_⟩|T
     ·rw[T] at hb;cases hb
     ·exact T
    have a1:V->o=u.op:=fun f=>word_kind bn.1 (by have:=(Z f).2.2.2.2.1;have:=(Z f).1;omega) (by rw[bn.2,(hw f).1]);obtain⟨d8,d9,da⟩:=arity_range (o:=o) (by omega);refine zI (fun _ w'=> ∃(a b:Int) (y2:ByteArray),PS w0 w' bp kb y2/\Same (fun x=>x=bp\/I.heap.size<=x) I w'/\w5.heap.size<=w'.heap.size/\Blk w' b2 [.int .i64 o,.int .i64 a,.int .i64 b,.string ⟨#[]⟩,.slice none 0 0] za/\(V->a=u.a/\b=u.b/\y2.data.toList=M.kidsL u.ks++41::r)) (fun J hJ=>?_) ?_
    ·simp(disch:=first|(simp only[push_cast];done)|omega) only[push_cast,a3.ld0];refine zd (fun c4=>?_) (fun c4=>hJ _ _ ⟨0,0,y,h6,ay,cy,a3,fun f=>?_⟩)
     ·have bb:V->y.data.toList=32::(M.digL u.a++(32::(M.digL u.b++(M.kidsL u.ks++41::r)))):=fun f=>by
       rw[(hw f).2];unfold M.cutL;rw[if_pos (by have:=a1 f;omega)];simp
      have ad:V->0<=u.b/\u.b<=u.a/\u.a<4:=fun f=>M.cut_ab (N f).1.1 (N f).1.2.1 (by have:=a1 f;omega);refine X6 (V:=V) (d:=u.a) (r:=32::(M.digL u.b++(M.kidsL u.ks++41::r))) h6 (fun f=>⟨bb f,by have:=ad f;omega,by have:=ad f;omega,M.stop_cons (.inl rfl)⟩) fun w7 na y7 h7 O bl=>?_;have a4:=a3.same O (by omega);refine a4.st (i:=1) rfl rfl jQ rfl fun w8 bs dh P=>?_;have h8:=h7.new bs fun x g=>(by omega);refine X6 (V:=V) (d:=u.b) (r:=M.kidsL u.ks++41::r) h8 (fun f=>⟨(bl f).2,by have:=ad f;omega,by have:=ad f;omega,M.kids_stop⟩) fun R nb y9 h9 aw bm=>?_;have Y:=P.same aw (by omega)
      try simp(disch:=first|(simp only[push_cast];done)|omega) only[push_cast]
      refine Y.st (i:=2) rfl rfl jQ rfl fun b0 G bw D=>?_;have z7:=O.size;have z9:=aw.size;exact hJ _ _ ⟨na,nb,y9,h9.new G fun x g=>by omega,(((ay.trans (O.mono fun x _ g=> .inl g)).trans (bs.mono fun x _ g=> .inr (by omega))).trans (aw.mono fun x _ g=> .inl g)).trans (G.mono fun x _ g=> .inr (by omega)),by omega,D,fun f=>⟨(bl f).1,(bm f).1,(bm f).2⟩⟩
     ·obtain⟨g1,g2⟩:=M.plain_zero (N f).1.2.1 (fun e=>ab f (.inl e)) (by have:=a1 f;omega);refine⟨g1.symm,g2.symm,?_⟩;rw[(hw f).2];unfold M.cutL;rw[if_neg (by have:=a1 f;omega)];rfl
    rintro _ _ w7 ⟨a,b',y2,h7,az,dt,a4,ax⟩;refine zU fun w8 z _=>?_;have h8:=h7.ext z;have P:=a4.ext z;have ag:=az.trans (Same.of_ext (S:=fun x=>x=bp\/I.heap.size<=x) z);simp(disch:=first|(simp only[push_cast];done)|omega) only[push_cast,h8.par.ld1,P.ld0,true_and];refine X7 (ok:=false) h8.kinds (by omega) fun kv ck=>?_;simp only[Bool.false_eq_true,if_false,true_and];refine X9 (ck.kids _ _ fun R B=>?_);have h9:=h8.ext B;have Y:=P.ext B;have ah:=ag.trans (Same.of_ext (S:=fun x=>x=bp\/I.heap.size<=x) B);have z8:=z.size;have z9:=B.size;obtain⟨m,hm⟩:∃m:Nat,M.arity o=m:=⟨(M.arity o).toNat,by omega⟩;rw[hm];refine vloop_up m (fun i u' w'=> ∃(kv:Value) (kl rest:List M.Tm) (H:Nat->Prop) (y3:ByteArray),u'=[.int .i64 i]/\kl.length=i/\PS w0 w' bp kb y3/\Same (fun x=>x=bp\/I.heap.size<=x) I w'/\R.heap.size<=w'.heap.size/\Blk w' b2 [.int .i64 o,.int .i64 a,.int .i64 b',.string M.nada,kv] za/\LstH H w' kv kl/\(∀x,kv.ownBlock=some x->R.heap.size<=x/\¬H x)/\(∀x,H x->R.heap.size<=x)/\(V->u.ks=kl++rest/\y3.data.toList=M.kidsL rest++41::r))
     ⟨_,[],u.ks,fun _=>False,y2,rfl,rfl,h9,ah,Nat.le_refl _,Y,LstH.nil,fun x g=>(by cases g),fun x g=>g.elim,fun f=>⟨rfl,(ax f).2.2⟩⟩ ?_
    rintro i2 _ _ b0 C2 d3 ⟨di,kl,rest,H,y3,rfl,bf,b3,ao,dm,D,al,v,hH,A⟩ cb;have hlen:V->u.ks.length=m:=fun f=>by have:=(Z f).2.2.2.2.1;rw[<-a1 f,hm] at this;omega
    simp(disch:=first|(simp only[push_cast];done)|omega) only[push_cast];refine zd (fun c3=>?_) (fun c3=>?_)
    ·
     have Q:V->∃x l,rest=x::l/\y3.data.toList=32::(M.textL x++(M.kidsL l++41::r)):=fun f=>by
      obtain⟨q1,q2⟩:=A f;cases rest with
      |nil=>have:=congrArg List.length q1;rw[List.append_nil] at this;have:=hlen f;omega
      |cons x l=>exact⟨x,l,rfl,by rw[q2,M.kids_cons]⟩
     refine ZI (V:=V) b3 (c:=32) rfl (fun f=>by obtain⟨x,l,_,q⟩:=Q f;exact⟨_,q⟩) fun cw y4 ap F af=>?_;refine zU fun c0 a8 _=>?_;have c5:=ap.ext a8;have dn:=F.size;have z12:=a8.size;have L:Same (· =bp) b0 c0:=F.trans (Same.of_ext a8);have ai:=D.same L (by omega);have a9:=al.same L (fun x g e=>by have:=(v x g).1;omega) (fun x g _ e=>by have:=hH x g;omega);simp(disch:=first|(simp only[push_cast];done)|omega) only[push_cast,ai.ld4,true_and];rw[zF (x:=8-((n:Int)+1)+1) (by omega) (by omega),show 8-((n:Int)+1)+1=8-(n:Int) by omega];refine cu (u:=rest.headD default) (r:=M.kidsL rest.tail++41::r) c5 (fun f=>?_) fun cx tv t y5 c6 W ht bo=>?_
     ·obtain⟨x,l,q1,q2⟩:=Q f;subst q1;have am:x∈u.ks:=by rw[(A f).1];exact List.mem_append_right _ List.mem_cons_self
      obtain⟨⟨g1,g2,g3⟩,_⟩:=N f;have ch:M.deepM x<=n:=by have:=M.kid_deep am;omega
      refine⟨⟨g1,(M.sort_parts g2).2.1 x am,ch⟩,M.kids_stop,?_⟩;rw[q2] at af;exact(List.cons.inj af).2.symm
     have aj:=ai.same W (by omega);have bi:=a9.same W (fun x g e=>by have:=(v x g).1;omega) (fun x g _ e=>by have:=hH x g;omega);simp(disch:=first|(simp only[push_cast];done)|omega) only[push_cast,aj.ld4,and_self,true_and];obtain⟨cs,rfl,a6⟩:=ht.cells;refine YQ qT jt zt rfl (yd a6) (by decide) fun b5 dj d2 E cz b7=>?_;have a2:=aj.ext E;have dp:=W.size;simp(disch:=first|(simp only[push_cast];done)|omega) only[push_cast,a2.ld4,and_self,true_and];refine LstH.app (H2:=fun x=>c0.heap.size<=x/\x<cx.heap.size) (us:=[t]) (bi.ext E) (fun x g=>⟨(v x g).2,fun e=>by have:=a9.lt g;omega⟩) (b7.sl1k (yd a6)) rfl (fun j hj=>?_) (by simp;omega) fun dk bx X an aa=>?_
     ·have:j=0:=(by simpa using hj);subst this;exact(a6.weaken fun x g hl=>⟨g,hl⟩).ext E
     have c7:=c6.ext E;have c8:=c7.new X fun x g=>by have:=(v x g).1;omega
     have b8:=a2.same X fun e=>by have:=(v _ e).1;omega
     try simp(disch:=first|(simp only[push_cast];done)|omega) only[push_cast,true_and]
     refine b8.st (i:=4) aa.tms.cellsV aa.tms.one jR rfl fun dl ac d0 b9=>?_;have dr:=X.size;have dq:=E.size;have U:∀x,bx.ownBlock=some x->R.heap.size<=x:=fun x g=>by
      rcases an x g with e|e
      ·exact(v x e).1
      ·omega
     have bj:=aa.same ac (fun x g e=>by have:=U x g;omega) (fun x g _ e=>by
      rcases g.1 with h|h
      ·have:=hH x h;omega
      ·omega)
     rw[inc64' (by omega)];refine cb (by omega) _ _ ⟨bx,kl++[t],rest.tail,_,y5,rfl,by simp[bf],c8.new ac fun x g=>by omega,((((ao.trans (L.mono fun x _ g=> .inl g)).trans (W.mono fun x _ g=> .inl g)).trans (Same.of_ext E)).trans (X.mono fun x _ g=> .inr (by have:=(v x g).1;omega))).trans (ac.mono fun x _ g=> .inr (by omega)),by omega,b9,bj,fun x g=>⟨U x g,fun bv=>?_⟩,fun x g=>?_,fun f=>?_⟩
     ·have d6:=bv.2;rcases an x g with e|e
      ·rcases bv.1 with h2|h2
       ·exact(v x e).2 h2
       ·have:=a9.lt e;omega
      ·omega
     ·rcases g.1 with h|h
      ·exact hH x h
      ·omega
     ·obtain⟨x,l,q1,q2⟩:=Q f;obtain⟨g1,g2⟩:=bo f;subst q1;refine⟨?_,g2⟩;rw[(A f).1,g1];simp
    ·
     have au:V->rest=[]:=fun f=>by
      have q:=congrArg List.length (A f).1;rw[List.length_append] at q;have:=hlen f;exact List.eq_nil_of_length_eq_zero (by omega)
     refine ZI (V:=V) b3 (c:=41) rfl (fun f=>⟨r,by rw[(A f).2,au f];rfl⟩) fun cw y4 ap F af=>?_;have b6:=D.same F (by omega);have bh:=al.same F (fun x g e=>by have:=(v x g).1;omega) (fun x g _ e=>by have:=hH x g;omega);rw[b6.ldAgg zm];refine fin ap (ao.trans (F.mono fun x _ g=> .inl g)) (TmR.of (t:= .mk o a b' M.nada kl) (bh.tms.weaken fun x g _=>by
      rcases g with g|g
      ·have:=hH x g;omega
      ·have:=(v x g).1;omega)) fun f=>?_
     have q1:=(A f).1;rw[au f,List.append_nil] at q1;have q2:=(A f).2;rw[au f,af] at q2;refine⟨?_,(List.cons.inj q2).2⟩;have:=K3 (N f).1.2.1 (ab f);rw[a1 f,(ax f).1,(ax f).2.1,<-q1];exact this.symm
   ·
    simp only[jU];refine zR (fun _=>?_) (fun c=>by cases c);have d4: ¬kb=k:=(by omega);have h7:=h6.new O fun x g=>(by omega);refine JE ar h7.kinds fun x' bu=>?_;simp only[yc,yb];have cl:=(bg q).1 hq;have a4:=a3.same O (by omega);have az:=ay.trans (O.mono (S':=fun x=>x=bp\/I.heap.size<=x) fun x _ g=> .inr (by omega));refine X9 (word_all bu cl fun w8 wq z bt=>?_);have next:∀{R:World} {o':Int},Ext w8 R\/True->PS w0 R bp kb y->Same (fun x=>x=bp\/I.heap.size<=x) I R->w5.heap.size<=R.heap.size->Blk R b2 [.int .i64 o',.int .i64 0,.int .i64 0,.string ⟨#[]⟩,.slice none 0 0] za->IterR R k kb ks (done++[q])->((o'=o/\¬(0<M.arity q/\M.wordL q=wd.data.toList))\/(o'=q/\0<M.arity q/\M.wordL q=wd.data.toList))->C [] R:=fun{R o'} _ g1 g2 g3 g4 g5 g6=>by
     have hlen:done.length<ks.length:=by
      have:=g5.len;rw[List.length_append,List.length_singleton] at this;omega
     refine hC (by omega) _ _ ⟨done++[q],o',rfl,by simp[cg],g1,g2,g3,g4,g5,?_⟩;rcases g6 with⟨e,hn⟩|⟨e,h1,h2⟩
     ·rcases T with⟨e0,a5⟩|T
      ·refine .inl ⟨by omega,fun p hp=>?_⟩;rcases List.mem_append.1 hp with hp|hp
       ·exact a5 p hp
       ·rw[List.mem_singleton] at hp;subst hp;exact hn
      ·exact .inr (e▸T)
     ·exact .inr (e▸⟨h1,h2⟩)
    have z7:=O.size;have z8:=z.size;have h8:=h7.ext z;have P:=a4.ext z;have ag:=az.trans (Same.of_ext (S:=fun x=>x=bp\/I.heap.size<=x) z);simp only[xH];refine zd (fun c1=>?_) (fun c1=>next (.inr trivial) h8 ag (by omega) P (ar.ext z) (.inl ⟨rfl,fun h=>c1 (str_ext (by rw[bt h.1,h.2]))⟩));refine X9 (bu.kids _ _ fun R B=>?_);have h9:=h8.ext B;have Y:=P.ext B;have ah:=ag.trans (Same.of_ext (S:=fun x=>x=bp\/I.heap.size<=x) B);have z9:=B.size;have be:=(ar.ext z).ext B;simp only[qR];refine zd (fun c2=>?_) (fun c2=>next (.inr trivial) h9 ah (by omega) Y be (.inl ⟨rfl,fun h=>c2 h.1⟩))
    try simp(disch:=first|(simp only[push_cast];done)|omega) only[push_cast]
    refine Y.st (i:=0) rfl rfl jQ rfl fun b0 G bw D=>?_;exact next (.inr trivial) (h9.new G fun x g=>by omega) (ah.trans (G.mono fun x _ g=> .inr (by omega))) (by omega) D (be.same G (by omega) (by omega)) (.inr ⟨rfl,c2,by rw[<-bt c2,c1]⟩)
end Go.Proofs.YtaemeijeaajoeaaGreatDoor
end
section
namespace Go.Proofs.YtaemeijeaajoeaaGreatDoor
open Go Go.Vc Go.Proofs
variable {w w' w0:World} {K:Value→World→Prop} {F:Nat→Prop} {s:ByteArray} {V:Prop} {dv:Value} {ds:List M.Dcl} {u t:M.Tm} {bp kb:Nat} {r:List UInt8}
noncomputable def cHd:Code→Code| .seq x _=>x|c=>c
noncomputable def cTl:Code→Code| .seq _ y=>y|c=>c
noncomputable def cTh:Code→Code| .cond _ x _=>x|c=>c
noncomputable abbrev Wc:Code:=cTh (cTl (cTl (Tryz.f54.body.getD .skip)))
abbrev onlyW (Q:World→Prop) (e:Exit) (_:Fr) (w:World):Prop:=match e with| .normal=>Q w|_=>False
theorem VW (f:Fr) (w:World) (Q:World->Prop):vc PP {} Wc (onlyW Q) f w=
  JG PP (f 2) 20 zW true w fun t10 a=>zq PP t10 0 a fun t11 b=>zq PP t10 1 b fun t12 c=>yg PP zW c fun t3 d=>zk PP zW t3 t11 d fun _ e=>
   vun PP .not t12 e fun t14 g=>vif t14 False (zr PP za [] g fun t16 h=>zk PP za (f 0) t16 h fun _ i=>zk PP xa (f 1) (.bool false) i fun _ j=>Q j):=by kernel_rfl
theorem as_yes' {a:TypeId} {v:Value} (b:concB PP a=true) {xT:TypeId}:JG PP (.iface a v) xT a true w K=K (.tuple #[v,.bool true]) w:=by
 refine yh ?_;unfold concB at b;cases hu:PP.underlying a with
 |none=>grind
 |some d=>
  rw[hu] at b;cases d<;>first|(cases b;done)|simp[Instr.typeAssert,run_underlying hu]
theorem catch_panicking {a b:Nat} {cs:List Value} {x:Value} (A:Blk w a cs za) (F:cs.length=5) (B:Blk w b [x] xa) (H:a≠b):
  CallsD PP zL #[.pointer (some ⟨a,0,none⟩),.pointer (some ⟨b,0,none⟩)] (.panicking [pE]) w fun e z w'=>
   e= .returned (.tuple #[])/\z= .panicking [{v:= .iface zW (.agg #[]),recovered:=true}]/\Same (fun x=>x=a\/x=b) w w'/\Blk w' a ZE za/\Blk w' b [.bool false] xa:=by
 refine callsD_of_wpS Tryz.func54 rfl fun c₀ cs hu=>?_;have key:∀(tm:Array Value),tm.size=17->tm.getD 0 undef= .pointer (some ⟨a,0,none⟩)->tm.getD 1 undef= .pointer (some ⟨b,0,none⟩)->tm.getD 2 undef= .iface zW (.agg #[])->∀c₁:Frame,c₁={c₀ with mode:= .panicking [{v:= .iface zW (.agg #[]),recovered:=true}]}->
   Wc.wpS PP (bodyPostS PP Tryz.f54 c₀ cs fun e z w'=>e= .returned (.tuple #[])/\z= .panicking [{v:= .iface zW (.agg #[]),recovered:=true}]/\Same (fun x=>x=a\/x=b) w w'/\Blk w' a ZE za/\Blk w' b [.bool false] xa) {tmps:=tm,defers:=[]} (c₁::cs) w:=by
  rintro tm r t0 t1 t2 c₁ rfl;refine wpS_of_wp (wpIn_wide (n:=0).1 (wpIn_mono (vc_sound (ro:=none) (df:=[]) (n:=17) (T:={}) (by kernel_rfl) Wc (onlyW fun w'=>Same (fun x=>x=a\/x=b) w w'/\Blk w' a ZE za/\Blk w' b [.bool false] xa) (fun t=>tm.getD t undef) _ w (by kernel_rfl) ?_ ⟨r,rfl,fun t=>rfl⟩ (fun l f w h=>h)) ?_))
  ·rw[VW];simp only[t0,t1,t2];rw[as_yes' (by kernel_rfl)];simp only[yc,yb];refine kB ZD fun Q V E p K k=>?_;refine k.stAgg (cs':=[]) (by rfl) (by kernel_rfl) (by simp) fun O s L D=>?_;simp only[Yj];refine zR (fun c=>by cases c) (fun _=>?_);have S:=A.lt;have U:=B.lt;have d:Ext w O:=Ext.then p s fun y I=>by subst I;omega
   rw[Kq];refine stTerm (A.ext d) F (Yo (G:=fun _=>False) 0 0 0 ⟨#[]⟩) fun W g M m=>?_;refine((B.ext d).same g (by omega)).st (i:=0) rfl rfl VZ rfl fun X j N o=>?_;exact⟨((Same.of_ext d).trans (g.mono fun x _ u=> .inl u)).trans (j.mono fun x _ u=> .inr u),m.same j (by omega),o⟩
  ·rintro e P w' (⟨c,rfl,J,_⟩|⟨R,q,_,C⟩)
   ·exact J.elim
   ·cases e with
    |normal=>exact⟨q.defers,_,rfl,.tuple #[],by simp[results,Tryz.results54],rfl,rfl,C⟩
    |_=>exact C.elim
 apply wpS_seq;apply wpS_region;simp[wpOpsS,go_sem,recoverD,hu,Tryz.ntmps54,Exit.thenS];apply wpS_seq;apply wpS_region;simp[wpOpsS,go_sem,Exit.thenS];refine wpS_cond (t:=true) (by simp[Act.eval,Array.replicate]) ?_;simp only[if_true];refine key _ (by simp) (by simp[Array.replicate]) (by simp[Array.replicate]) (by simp[Array.replicate]) _ ?_;rfl
theorem Ko (p q:Value) (w:World):
  CallsD PP zL #[p,q] .returning w fun e a w'=>e= .returned (.tuple #[])/\a= .returning/\w'=w:=by
 refine callsD_of_wpS Tryz.func54 rfl fun c₀ cs hu=>?_;apply wpS_seq;apply wpS_region;simp[wpOpsS,go_sem,recoverD,hu,Tryz.ntmps54,Exit.thenS];apply wpS_seq;apply wpS_region;simp[wpOpsS,go_sem,Exit.thenS];refine wpS_cond (t:=false) (by simp[Act.eval,Array.replicate]) ?_;simp only[Bool.false_eq_true,if_false];refine wpS_of_wp (wp_skip ?_);cases c₀;simp_all[bodyPostS,results,Tryz.results54]
noncomputable abbrev Wn:Code:=cTl (cTl (Tryz.f25.body.getD .skip))
noncomputable abbrev Wm:Code:=cTl Wn
abbrev WS:Ann:={ord:=[(3,[0,1,2,3,4,5,6,7],[(0,[6,7]),(1,[2,3,4,5,7]),(2,[3,4,5,7]),(3,[4,5,7]),(4,[5,7]),(5,[7]),(6,[7])])],loops:=[],cuts:=[]}
abbrev onlyR (Q:World→Prop) (e:Exit) (_:Fr) (w:World):Prop:=match e with| .ret=>Q w|_=>False
theorem Wl [ZP] (f:Fr) (w:World) (Q:World->Prop):vc PP WS Wm (onlyR Q) f w=
  xp w fun a=>zg PP za (f 2) a fun t7 c=>c=a/\
   vnil PP (f 0) a fun t9 d=>d=a/\zh PP zx t9 0 a fun t10 e=>e=a/\zg PP ze t10 a fun t11 g=>g=a/\zj PP .eql ze true t11 (.string {data:= #[]}) a fun t12 h=>h=a/\
   zk PP za (f 2) t7 a fun _ b=>(zj PP .eql ze true t11 (.string {data:= #[]}) b fun v x=>v=t12/\x=b)/\(zg PP ze t10 b fun v x=>v=t11/\x=b)/\(zh PP zx t9 0 b fun v x=>v=t10/\x=b)/\(vnil PP (f 0) b fun v x=>v=t9/\x=b)/\
   zk PP xa (f 3) t12 b fun _ i=>Q i:=by kernel_rfl
theorem K1 (f:Fr) (w:World) (K:Value->World->Prop):vres PP Tryz.f25.results.toList f w K=(vlv PP za (f 2) w fun a c=>vlv PP xa (f 3) c fun b d=>K (.tuple #[a,b]) d):=by kernel_rfl
theorem qs [ZP] {df:List Deferred} {n:Nat} {ops:Array Oper} {Q:Exit->Act->World->Prop} {o:Oper} {rest:List Oper} {a:Act} {f:Fr} (d:o.guard=none) (h:vop PP o.op o.type f w K) (e:Sim df n f a) (g:∀c w,ZP.z c w->Q (.panic c) a w)
  (b:∀v w',K v w'->wpListIn Fence.wide 0 PP ops Q rest (a.put o.dst v) w'):wpListIn Fence.wide 0 PP ops Q (o::rest) a w:=by
 unfold wpListIn;rw[if_pos (by simp[Region.wanted,d])];exact vop_sound (ro:=none) h e g b
theorem VG:Wn=(.seq (cHd Wn) Wm):=rfl
set_option maxRecDepth 100000 in
theorem read_tail {k:World} {g o:Nat} {tm:Array Value} (h0:PS k k bp kb s) (hV:V->Good ds 7 u/\s.data.toList=M.textL u) (B:Blk k g ZE za) (C:Blk k o [.bool false] xa) (n2:g≠bp) (n3:o≠bp) (a3:g≠o)
  (Q:tm.size=13) (t0:tm.getD 0 undef= .pointer (some ⟨bp,0,none⟩)) (t2:tm.getD 2 undef= .pointer (some ⟨g,0,none⟩)) (t3:tm.getD 3 undef= .pointer (some ⟨o,0,none⟩))
  (hK:∀w' tv t b,Same (fun x=>x=bp\/x=g\/x=o) k w'->TermR (fun x=>k.heap.size<=x) w' tv t->(V->t=u/\b=true)->K (.tuple #[tv,.bool b]) w'):
  Wn.wp PP (bodyPostD PP Tryz.f25 (retK K)) {tmps:=tm,defers:=[{target:= .fn (.func zL) #[.pointer (some ⟨g,0,none⟩),.pointer (some ⟨o,0,none⟩)],args:= #[]}]} k:=by
 have l2:=B.lt;have l3:=C.lt;have lb:=h0.lt0;refine wpIn_wide (n:=0).1 ?_;rw[VG];refine wpIn_seq ?_;refine wpIn_region_list (ops:= #[_,_,_]) ?_;refine qs (K:=fun v w'=>v= .pointer (some ⟨bp,0,none⟩)/\w'=k) (df:=_) (n:=13) (f:=fun t=>tm.getD t undef) rfl ⟨t0,rfl⟩ ⟨Q,rfl,fun t=>rfl⟩ (fun c w h=>h.elim) ?_;rintro _ k ⟨rfl,rfl⟩;have s1:=Sim.put (n:=13) (df:=[{target:= .fn (.func zL) #[.pointer (some ⟨g,0,none⟩),.pointer (some ⟨o,0,none⟩)],args:= #[]}]) (f:=fun t=>tm.getD t undef) (a:={tmps:=tm,defers:=_}) ⟨Q,rfl,fun t=>rfl⟩ (d:=some 5) rfl (.pointer (some ⟨bp,0,none⟩));have S:put (fun t=>tm.getD t undef) (some 5) (.pointer (some ⟨bp,0,none⟩)) 2= .pointer (some ⟨g,0,none⟩):=t2;have U:put (fun t=>tm.getD t undef) (some 5) (.pointer (some ⟨bp,0,none⟩)) 3= .pointer (some ⟨o,0,none⟩):=t3;refine @qs k (fun v w'=> ∃t y,PS k w' bp kb y/\Same (· =bp) k w'/\TermR (fun x=>k.heap.size<=x) w' v t/\(V->t=u/\y.data.toList=[])) (zP V k bp) _ 13 _ _ _ _ _ _ rfl ?_ s1 ?_ ?_
 ·show @vcall (zP V k bp) PP yN #[put (fun t=>tm.getD t undef) (some 5) (.pointer (some ⟨bp,0,none⟩)) 5,.int .i64 1] k _;rw[show put (fun t=>tm.getD t undef) (some 5) (.pointer (some ⟨bp,0,none⟩)) 5= .pointer (some ⟨bp,0,none⟩) from rfl,show(1:Int)=8-((7:Nat):Int) from rfl];exact parser_term_spec 7 (by omega) h0 (u:=u) (r:=[]) (fun A=>⟨(hV A).1,fun c hc=>(by cases hc),by rw[List.append_nil];exact(hV A).2⟩) fun w' tv t y h hs ht A=>⟨t,y,h,hs,ht,A⟩
 ·rintro c w3 ⟨rfl,a0,j⟩;refine leaves_cons (f:=zL) (args:= #[.pointer (some ⟨g,0,none⟩),.pointer (some ⟨o,0,none⟩)]) (by simp) (by simp[go_sem]) ?_;refine(catch_panicking (B.same j n2) rfl (C.same j n3) a3).mono ?_;rintro e u' R ⟨rfl,rfl,p,D,E⟩;refine vres_sound (K:=K) ?_ s1;rw[K1,S,U,D.lv zm,KC (v:= .bool false) (by rw[E.ld0 (by kernel_rfl)];exact⟨rfl,rfl⟩)];exact hK R _ tm0 false ((j.mono fun x _ m=> .inl m).trans (p.mono fun x _ m=> .inr m)) (Yo (G:=fun x=>k.heap.size<=x) 0 0 0 ⟨#[]⟩).term fun A=>absurd A a0
 rintro v w3 ⟨t,y,h3,j,ht,A⟩;obtain⟨cs,rfl,q⟩:=ht.cells;have s2:=s1.put (d:=some 6) rfl (.agg ⟨cs⟩);have z3:=j.size;refine qs (K:=fun _ w'=>Same (· =g) w3 w'/\Blk w' g cs za) rfl ?_ s2 (fun c w h=>h.elim) ?_
 ·have W:put (put (fun t=>tm.getD t undef) (some 5) (.pointer (some ⟨bp,0,none⟩))) (some 6) (.agg ⟨cs⟩) 2= .pointer (some ⟨g,0,none⟩):=t2;simp only[vop,ev];rw[W,show put (put (fun t=>tm.getD t undef) (some 5) (.pointer (some ⟨bp,0,none⟩))) (some 6) (.agg ⟨cs⟩) 6= .agg ⟨cs⟩ from rfl];exact stTerm (B.same j n2) rfl q fun w' a _ c=>⟨a,c⟩
 rintro v R ⟨p,X⟩;have s3:=s2.put (d:=none) rfl v;have a1:=h3.par.same p (by omega);have J:=q.same p fun x m _ e=>by omega
 have I:=(C.same j n3).same p (by omega);refine wpIn_mono (vc_sound (ro:=none) (n:=13) (T:=WS) (by kernel_rfl) Wm (onlyR fun w'=> ∃b:Bool,Same (fun x=>x=g\/x=o) R w'/\Blk w' g cs za/\Blk w' o [.bool b] xa/\(V->b=true)) _ _ R (by kernel_rfl) ?_ s3 (fun l f w h=>h)) ?_
 ·rw[Wl];have f0:put (put (put (fun t=>tm.getD t undef) (some 5) (.pointer (some ⟨bp,0,none⟩))) (some 6) (.agg ⟨cs⟩)) none v 0= .pointer (some ⟨bp,0,none⟩):=t0;have f2:put (put (put (fun t=>tm.getD t undef) (some 5) (.pointer (some ⟨bp,0,none⟩))) (some 6) (.agg ⟨cs⟩)) none v 2= .pointer (some ⟨g,0,none⟩):=t2;have f3:put (put (put (fun t=>tm.getD t undef) (some 5) (.pointer (some ⟨bp,0,none⟩))) (some 6) (.agg ⟨cs⟩)) none v 3= .pointer (some ⟨o,0,none⟩):=t3;rw[f0,f2,f3];refine zU fun w5 z _=>?_;have H:=X.ext z;have L:=a1.ext z;have hg:aggB PP za cs.length=true:=by rw[yd q];exact zm
  rw[H.ldAgg (t:=za) hg];simp(disch:=first|(simp only[push_cast];done)|omega) only[push_cast,L.ld0,true_and];refine stTerm H (yd q) (J.ext z) fun w6 F a4 Y=>?_;have a2:=L.same F (by omega);simp(disch:=first|(simp only[push_cast];done)|omega) only[push_cast,a2.ld0,true_and,and_self];refine((I.ext z).same F (by omega)).st (i:=0) rfl rfl VZ rfl fun w7 P a5 Z=>?_;refine⟨_,((Same.of_ext z).trans (F.mono fun x _ m=> .inl m)).trans (P.mono fun x _ m=> .inr m),Y.same P (by omega),Z,fun h=>?_⟩;rw[decide_eq_true_eq];exact str_ext (by rw[(A h).2])
 ·rintro e a' w5 (⟨c,rfl,hz,_⟩|⟨f',N,hm,hk⟩)
  ·exact hz.elim
  cases e with
  |ret=>
   obtain⟨b,O,D,E,hb⟩:=hk;show Leaves PP Tryz.f25 a'.tmps (retK K) a'.defers .returning w5;rw[N.defers];refine leaves_cons (f:=zL) (args:= #[.pointer (some ⟨g,0,none⟩),.pointer (some ⟨o,0,none⟩)]) (by simp) (by simp[go_sem]) ?_;refine(Ko _ _ _).mono ?_;rintro e u' w6 ⟨rfl,rfl,rfl⟩;refine vres_sound (K:=K) ?_ N;have f2:f' 2= .pointer (some ⟨g,0,none⟩):=(hm 2 (by decide+kernel)).trans t2;have f3:f' 3= .pointer (some ⟨o,0,none⟩):=(hm 3 (by decide+kernel)).trans t3;have hg:aggB PP za cs.length=true:=by rw[yd q];exact zm
   rw[K1,f2,f3,D.lv hg,KC (v:= .bool b) (by rw[E.ld0 (by kernel_rfl)];exact⟨rfl,rfl⟩)];exact hK _ _ t b (((j.mono fun x _ m=> .inl m).trans (p.mono fun x _ m=> .inr (.inl m))).trans (O.mono fun x _ m=> .inr m)) (J.same O fun x m _ e=>by omega).term fun h=>⟨(A h).1,hb h⟩
  |_=>exact hk.elim
theorem Km {ops:Array Oper} {Q:Exit->Act->World->Prop} {rest:List Oper} {a:Act} {ps:String} {af:Array Edge} {p q:Value} (h:a.tmps.getD 4 undef= .func (.func zL) #[] #[p,q])
  (b:wpListIn Fence.wide 0 PP ops Q rest {a with defers:={target:= .fn (.func zL) #[p,q],args:= #[]}::a.defers} w):
  wpListIn Fence.wide 0 PP ops Q ({dst:=none,op:= .defer {callee:= .value (.tmp 4),args:= #[],argTypes:= #[]},type:=0,pos:=ps,after:=af,guard:=none}::rest) a w:=by
 unfold wpListIn;rw[if_pos (by simp[Region.wanted])];refine⟨fun _ _=>trivial,?_⟩;rw[Array.getD_eq_getD_getElem?] at h;simp[go_sem,h];exact b
theorem read_spec (g:Blk w bp [.string s,.map (some kb)] zx) (G:KindsR w kb) (y:kb≠bp) (a:SynR w) (g1:WD≠bp) (g2:WE≠bp) (l:s.size<=1000000) (D:Asc s.data.toList) (F:V->Good ds 7 u/\s.data.toList=M.textL u)
  (E:∀w' tv t b,Same (· =bp) w w'->TermR (fun x=>w.heap.size<=x) w' tv t->(V->t=u/\b=true)->K (.tuple #[tv,.bool b]) w'):vcall PP qW #[.pointer (some ⟨bp,0,none⟩)] w K:=by
 refine⟨by kernel_rfl,calls_of_wp_defers Tryz.func25 rfl (wpIn_wide (n:=0).1 ?_)⟩;have lb:=g.lt;have C:=sim_enter [.pointer (some ⟨bp,0,none⟩)] 13 (by simp);refine wpIn_seq ?_;refine wpIn_region_list (ops:= #[_,_]) ?_;refine qs (K:=fun v w'=>v= .pointer (some ⟨w.heap.size,0,none⟩)/\Ext w w'/\w'.heap.size=w.heap.size+1/\Blk w' w.heap.size ZE za) rfl (zw zt fun b w' j he l g=>⟨by rw[j],he,l,j▸g⟩) C (fun c w h=>h.elim) ?_;rintro _ f ⟨rfl,q,L,i⟩;have s1:=C.put (d:=some 2) rfl (.pointer (some ⟨w.heap.size,0,none⟩));refine qs (K:=fun v w'=>v= .pointer (some ⟨f.heap.size,0,none⟩)/\Ext f w'/\w'.heap.size=f.heap.size+1/\Blk w' f.heap.size [.bool false] xa) rfl (kB Wd fun b w' j he l g=>⟨by rw[j],he,l,j▸g⟩) s1 (fun c w h=>h.elim) ?_;rintro _ o ⟨rfl,k,N,p⟩;have s2:=s1.put (d:=some 3) rfl (.pointer (some ⟨f.heap.size,0,none⟩));refine wpIn_seq ?_;refine wpIn_region_list (ops:= #[_,_]) ?_;refine qs (K:=fun v w'=>v= .func (.func zL) #[] #[.pointer (some ⟨w.heap.size,0,none⟩),.pointer (some ⟨f.heap.size,0,none⟩)]/\w'=o) rfl ⟨_,_,rfl,rfl,rfl⟩ s2 (fun c w h=>h.elim) ?_;rintro _ o ⟨rfl,rfl⟩;have m:=s2.put (d:=some 4) rfl (.func (.func zL) #[] #[.pointer (some ⟨w.heap.size,0,none⟩),.pointer (some ⟨f.heap.size,0,none⟩)]);refine Km (m.at_ 4) ?_;have e:=q.trans k;have r:=G.ext e;have O:=i.lt;have z:PS o o bp kb s:={same:=Same.refl _ _,par:=g.ext e,asc:=D,sz:=l,kinds0:=r,syn0:=⟨by obtain⟨te,pe,h⟩:=a.1;exact⟨te,pe,e.cell (fun h=>h) h⟩,by obtain⟨te,pe,h⟩:=a.2;exact⟨te,pe,e.cell (fun h=>h) h⟩⟩,kne:=y,g1:=g1,g2:=g2,lt0:=by have:=e.size;omega};refine(wpIn_wide (n:=0)).2 (read_tail (V:=V) (u:=u) (ds:=ds) z F (i.ext k) p (by omega) (by omega) (by omega) m.size (m.at_ 0) (m.at_ 2) (m.at_ 3) fun w' tv t b H I J=>?_);have A:=(Same.of_ext (S:=fun x=>x=bp\/w.heap.size<=x) e).trans (H.mono fun x _ B=>by omega);exact E w' tv t b (A.mono fun x B h=>h.resolve_right (by omega)) (I.weaken fun x B _=>by have:=e.size;omega) J
end Go.Proofs.YtaemeijeaajoeaaGreatDoor
end
section
namespace Go.Proofs.YtaemeijeaajoeaaGreatDoor
open Go Go.Vc Go.Proofs
variable {w w' w0:World} {K:Value→World→Prop} {F G:Nat→Prop} {s:ByteArray} {V:Prop} {v dv tv:Value} {ds:List M.Dcl} {u t:M.Tm} {bp kb:Nat} {r:List UInt8}
theorem wordL_asc:∀o:Fin 28,Asc (M.wordL o.1):=by unfold Asc;decide+kernel
theorem ZV {c:UInt8} {l:List UInt8} (h:c.toNat<128) (b:Asc l):Asc (c::l):=fun x a=>by
 rcases List.mem_cons.1 a with rfl|a
 ·exact h
 ·exact b x a
theorem Yt {a b:List UInt8} (d:Asc a) (e:Asc b):Asc (a++b):=fun x c=>by
 rcases List.mem_append.1 c with c|c
 ·exact d x c
 ·exact e x c
theorem J3:Asc []:=fun _ h=>by cases h
theorem dig_asc {d:Int} (a:0<=d) (h:d<10):Asc (M.digL d):=ZV (by
 have:(UInt8.ofNat (48+d.toNat)).toNat=48+d.toNat:=by simp[UInt8.toNat_ofNat];omega
 rw[this];omega) J3
theorem text_asc (f:M.declOk ds=true):∀t,M.sortM ds t≠ -1->Asc (M.textL t):=by
 refine M.Tm.ind fun t l b=>?_;by_cases h:M.leafT t
 ·obtain⟨_,_,e,_⟩:=M.leaf_ok f b h;rw[e];unfold M.textF;rcases h with o|o|o
  ·rw[if_pos o];intro c a;unfold M.vecL at a;rcases List.mem_cons.1 a with rfl|a
   ·decide
   ·obtain⟨i,_,rfl⟩:=List.mem_map.1 a;split<;>decide
  ·rw[if_neg (by omega),if_pos o];exact fun c a=>by have:=(M.name_ok f b o).2.2 c a;omega
  ·rw[if_neg (by omega),if_neg (by omega),if_pos o];unfold Asc;decide
 ·rw[M.node_text h];obtain⟨m,n,p,q,r,s⟩:=M.node_arity' b h;have hw:Asc (M.wordL t.op):=by
   have:=wordL_asc ⟨t.op.toNat,by omega⟩;rwa[show((t.op.toNat:Nat):Int)=t.op by omega] at this
  have d:Asc (M.kidsL t.ks):=by
   unfold M.kidsL;intro c a;obtain⟨x,j,a⟩:=List.mem_flatMap.1 a;obtain⟨k,d,rfl⟩:=List.mem_map.1 j;rcases List.mem_cons.1 a with rfl|a
   ·decide
   ·exact l k d ((M.sort_parts b).2.1 k d) c a
  have a:Asc (M.cutL t):=by
   unfold M.cutL;split
   ·next g=>
    have:=M.cut_ab f b g;exact ZV (by decide) (Yt (dig_asc (by omega) (by omega)) (ZV (by decide) (dig_asc (by omega) (by omega))))
   ·exact J3
  exact ZV (by decide) (Yt hw (Yt a (Yt d (ZV (by decide) J3))))
theorem Qh (h:J4 ds t s):s.size<=400/\Asc s.data.toList:=by
 by_cases c:M.tsort ds t= -1
 ·rw[h.1 c];exact⟨by decide,J3⟩
 ·have a:=jk (u:=t) (s:=s) ⟨c,h.2 c⟩;refine⟨reads_size (u:=t) ⟨c,h.2 c⟩,?_⟩;rw[h.2 c];exact text_asc a.1 t a.2.1
theorem Qz {g:Nat} {v:Value} (h:w.cell? ⟨g,0,none⟩=some v):g<w.heap.size:=World.block_lt_of_cell? w ⟨g,0,none⟩ h
theorem SynR.same {S:Nat->Prop} (h:SynR w) (g:Same S w w') (f:∀x,S x->w.heap.size<=x):SynR w':=by
 obtain⟨⟨te,pe,c⟩,b,a,d⟩:=h;exact⟨⟨te,pe,g.cell (fun e=>by have:=f _ e;have:=Qz c;simp at*;omega) c⟩,b,a,g.cell (fun e=>by have:=f _ e;have:=Qz d;simp at*;omega) d⟩
theorem SynR.ext (h:SynR w) (a:Ext w w'):SynR w':=h.same a fun _ h=>h.elim
theorem SynR.lt (h:SynR w):WD<w.heap.size/\WE<w.heap.size:=by
 obtain⟨⟨te,pe,a⟩,d,c,b⟩:=h;exact⟨Qz a,Qz b⟩
theorem TermText_spec (p:DclsR F w dv ds) (u:TermR G w tv t) (n:∀w' s,Ext w w'->J4 ds t s->K (.string s) w'):vcall PP yS #[dv,tv] w K:=by
 apply Xv;unfold kq;obtain⟨cs,rfl,a⟩:=u.cells;have k:aggB PP za cs.length=true:=by rw[yd a];exact zm
 refine zB fun b1 A o b v d=>?_;rw[d.ldAgg k];refine TermSort_spec (p.ext b) (a.ext b).term fun x f=>?_;simp only[push_cast];have l:=b.trans f;have z:=tsort_low ds t;refine zd (fun c=>n x _ l ⟨fun _=>rfl,fun h=>absurd c h⟩) (fun c=>?_);have h:=xb (ds:=ds) (t:=t) c;refine zU fun B g _=>?_;have e:=(d.ext f).ext g;rw[e.ldAgg k];refine⟨rfl,Qm fun C kb i q=>?_⟩;rw[(e.ext i).ldAgg k];refine⟨⟨rfl,rfl⟩,?_⟩;have m:=(l.trans g).trans i;refine textOf_spec h.2.1 t h.1 (by omega) q (a.ext m).term fun y s j r=>?_;exact n y s (m.trans j) ⟨fun h=>absurd h c,fun _=>r⟩
theorem V9:zr PP zx [(0,.string s),(1,.map (some kb))] w K=K (.agg ⟨[.string s,.map (some kb)]⟩) w:=ye J1 (us:=[[.string s],[.map (some kb)]]) rfl rfl
theorem TermRead_spec (X:DclsR F w dv ds) (k:SynR w) (hz:s.size<=1000000) (hA:Asc s.data.toList) (hK:∀w' tv t b,Ext w w'->TermR (fun x=>w.heap.size<=x) w' tv t->ReadP ds s t b->K (.tuple #[tv,.bool b]) w'):vcall PP xy #[dv,.string s] w K:=by
 apply Xy;unfold kw;obtain⟨V,u,E,O,hP⟩:=Qi ds s;refine zw zt fun b1 G a0 e a6 I=>?_;have z1:=e.size;have fin:∀{g:World} {cs:List Value} {t:M.Tm} {b:Bool},Ext G g->TmR (fun x=>G.heap.size<=x) g cs t->(V->t=u/\b=true)->(¬V->t=tm0/\b=false)->zk PP za (.pointer (some ⟨b1,0,none⟩)) (.agg ⟨cs⟩) g fun _ z=>vlv PP za (.pointer (some ⟨b1,0,none⟩)) z fun r A=>K (.tuple #[r,.bool b]) A:=fun{g cs t b} a Q Z h2=>by
  refine qB (K:=fun v w'=>K (.tuple #[v,.bool b]) w') (I.ext a) rfl Q (fun x p=>by omega) fun z S W R=>?_;exact hK z _ _ b (Ext.then (e.trans a) S fun y D=>by subst D;omega) (R.weaken fun x p _=>by omega) (hP t b Z h2)
 have bad:∀{g:World},Ext G g->¬V->zr PP za [] g fun t g=>zk PP za (.pointer (some ⟨b1,0,none⟩)) t g fun _ z=>vlv PP za (.pointer (some ⟨b1,0,none⟩)) z fun r A=>K (.tuple #[r,.bool false]) A:=fun{g} a h=>by
  rw[Kq];exact fin a (Yo 0 0 0 ⟨#[]⟩) (fun q=>absurd q h) fun _=>⟨rfl,rfl⟩
 have a5:=k.lt;refine kinds_new fun g kb a Y a4=>?_;rw[V9];refine zB fun bp z a2 j W J=>?_;have z2:=a.size;have a3:=K4 Y;refine read_spec (V:=V) (u:=u) (ds:=ds) J (Y.ext j) (by omega) ((k.ext e).ext (a.trans j)) (by omega) (by omega) hz hA (fun h=>⟨jk (E h),(E h).2⟩) fun A tv t b P Q q=>?_;have H:Ext G A:=Ext.then (a.trans j) P fun y D=>by subst D;omega
 obtain⟨cs,rfl,d⟩:=Q.cells;simp only[yc,yb];refine zw zt fun b5 w5 a1 C a7 L=>?_;refine stTerm L rfl (d.ext C) fun w6 T a8 n=>?_;have i:Ext A w6:=Ext.then C T fun y D=>by subst D;omega
 have l:=H.trans i;have z3:=j.size;have N:aggB PP za cs.length=true:=by rw[yd d];exact zm
 simp only[Yj];refine zR (fun c=>bad l fun h=>?_) (fun c=>?_)
 ·rw[(q h).2] at c;cases c
 rw[n.ldAgg (t:=za) N];refine TermSort_spec (X.ext (e.trans l)) (d.ext i).term fun w7 f=>?_;have m:=l.trans f;simp only[kA];refine zd (fun c2=>bad m fun h=>?_) (fun c2=>?_)
 ·rw[(q h).1] at c2;exact(E h).1 c2
 rw[(n.ext f).ldAgg (t:=za) N];refine TermText_spec (X.ext (e.trans m)) (d.ext (i.trans f)).term fun w8 x o p=>?_;have B:=m.trans o;simp only[Qg];refine zd (fun c3=>bad B fun h=>c3 ?_) (fun c3=>?_)
 ·rw[(q h).1] at p;exact Zi p (E h)
 rw[((n.ext f).ext o).ldAgg (t:=za) N];have U:x=s:=Classical.not_not.1 c3;rw[U] at p;have hr:kS ds s t:=⟨c2,p.2 c2⟩;refine fin B ((d.ext ((i.trans f).trans o)).weaken fun x p _=>by omega) (fun h=>⟨(q h).1,rfl⟩) fun h=>absurd hr (O h t)
theorem DrawTermText_spec {xs:List Nat} (a:Bytes F w v xs) (hF:∀b,F b->b<w.heap.size)
  (r:∀w' dv tv ds t,Ext w w'->DclsR (fun x=>w.heap.size<=x) w' dv ds->Dsm ds->TermR (fun x=>w.heap.size<=x) w' tv t->K (.tuple #[dv,tv]) w'):vcall PP xc #[v] w K:=by
 apply Zu;unfold qK;refine zw zt fun b1 P z f D o=>?_;have E:=f.size;refine l12Open_spec (a.ext f) (fun b y=>by have:=hF b y;omega) fun L b O ys g c A=>?_;have G:=g.size;have lb:=c.blk.lt;refine l2Draw_spec (F:=fun x=>F x/\x<L.heap.size) ⟨c.blk,⟨c.bytes.1.weaken fun x a B=>⟨a,B⟩,c.bytes.2⟩,fun h=>c.apart h.1,c.few⟩ (fun x a=>a.2) (by omega) fun Q N dv tv ds t i s C k l m=>?_;have H:=i.size;have J:=(o.ext g).same i (by omega);obtain⟨cs,rfl,d⟩:=m.cells;simp only[push_cast];refine stTerm J rfl d fun n j I p=>?_;rw[p.lv (by rw[yd d];exact zm)];have u:Ext w n:=by
  have q:Same (fun x=>w.heap.size<=x) w n:=(((Same.of_ext f).trans (Same.of_ext g)).trans (i.mono fun x _ a=>by subst a;omega)).trans (j.mono fun x _ a=>by subst a;omega);exact q.mono fun x a M=>by omega
 exact r n dv _ ds t u ((k.same j fun x a _ e=>by omega).weaken fun x a _=>by omega) l ((d.same j fun x a _ e=>by omega).term.weaken fun x a _=>by omega)
def W3:List ByteArray:=[⟨#[]⟩,⟨#[48]⟩,⟨#[32]⟩,⟨#[40]⟩,⟨#[41]⟩,⟨#[120]⟩,⟨#[35,49]⟩,⟨#[116,114,117,101]⟩,⟨#[110,111,116]⟩,⟨#[49]⟩]
theorem pieces_ok:∀p,p∈W3->p.size<=4/\Asc p.data.toList:=by unfold Asc;decide+kernel
theorem DrawTermRead_spec {xs:List Nat} (d:Bytes F w v xs) (hF:∀b,F b->b<w.heap.size)
  (hK:∀w' dv ds s,Ext w w'->DclsR (fun x=>w.heap.size<=x) w' dv ds->Dsm ds->s.size<=1000->Asc s.data.toList->K (.tuple #[dv,.string s]) w'):vcall PP xd #[v] w K:=by
 apply Zv;unfold qL;refine l12Open_spec d hF fun w2 b v' ys E f ac=>?_;have al:=E.size;have lb:=f.blk.lt;refine l2Draw_spec (F:=fun x=>F x/\x<w2.heap.size) ⟨f.blk,⟨f.bytes.1.weaken fun x d hl=>⟨d,hl⟩,f.bytes.2⟩,fun h=>f.apart h.1,f.few⟩ (fun x d=>d.2) (by omega) fun w3 p3 dv tv ds t O T ag Y I a3=>?_;have am:=O.size;obtain⟨cs,rfl,g⟩:=a3.cells;have hg:aggB PP za cs.length=true:=by rw[yd g];exact zm
 simp only[push_cast];refine zw zt fun b4 w4 ad G an R=>?_;refine stTerm R rfl (g.ext G) fun w5 a4 ao S=>?_;have i:Ext w3 w5:=Ext.then G a4 fun y hy=>by subst hy;omega
 have U:=T.ext i;have D:=Y.ext i;rw[S.ldAgg (t:=za) hg];refine spec_TermText_spec (dsm_sized I) D (g.ext i).term fun w6 s q hs=>?_;have V:=U.ext q;have Z:=D.ext q;obtain⟨ah,m⟩:=Qh hs;have A:=i.trans q;have ax:=A.size;have Q:Same (fun x=>w.heap.size<=x) w w6:=((Same.of_ext E).trans (O.mono fun x _ d=>by subst d;omega)).trans (Same.of_ext A);have give:∀{r:World} {y:ByteArray},Same (· =b) w6 r->y.size<=1000->Asc y.data.toList->K (.tuple #[dv,.string y]) r:=fun{r y} h7 hy hA=>by
  have:=Q.trans (h7.mono fun x _ d=>by subst d;omega);exact hK r dv ds y (this.mono fun x d hh=>by omega) ((Z.same h7 fun x d _ e=>by omega).weaken fun x d _=>by omega) I hy hA
 refine zI (fun u w'=>Same (· =b) w6 w'/\s≠⟨#[]⟩/\∃p,RdR (fun x=>F x/\x<w2.heap.size) w' b v' ys p/\p<=400000) (fun J hJ=>?_) ?_
 ·simp only[xH];refine zd (fun c=>give (Same.refl _ _) (by omega) m) (fun c=>?_);refine pick_spec V (by omega) (by omega) fun r k l ap o _ _=>?_;simp only[kA];exact zd (fun c2=>give l (by omega) m) (fun c2=>hJ _ _ ⟨l,c,_,o,by omega⟩)
 rintro _ _ r ⟨l,a0,p,o,hp⟩;have a8:0<s.size:=by
  rcases Nat.eq_zero_or_pos s.size with h|h
  ·refine absurd (str_ext ?_) a0;exact List.eq_nil_of_length_eq_zero (by rw[yB];exact h)
  ·exact h
 rw[yl yp];refine pick_spec o (by omega) (by omega) fun w8 k a2 aq W hk _=>?_;have af:=hk (by omega);refine zU fun w9 H _=>?_;have C:=W.ext H;have a:∀(w':World) (K:Value->World->Prop),yx PP ze (.string s) none (some (.int .i64 k)) none w' K=K (.string (s.extract 0 k)) w':=fun w' K=>by rw[J6 yp (by omega) (by omega),Int.toNat_natCast]
 simp only[a,true_and];refine strs_lit (ss:=W3) (by decide) fun ab au a6 n P=>?_
 try simp only[a,and_self,true_and]
 have ar:=C.blk.lt;refine strof_spec (C.ext n) P (by decide) (by decide) (by omega) (fun x d e=>by subst d;omega) fun av pc M a9 B a1=>?_;obtain⟨a7,L⟩:=pieces_ok pc a1;have ai:(s.extract 0 k).size<=400:=by rw[ByteArray.size_extract];omega
 try simp only[a,and_self,true_and]
 have z:∀(w':World) (K:Value->World->Prop),zj PP .add ze false (.string (s.extract 0 k)) (.string pc) w' K=K (.string (s.extract 0 k++pc)) w':=fun w' K=>yi (by omega)
 try simp only[z,true_and]
 refine pick_spec B (by omega) (by omega) fun aw j N aa a5 hj _=>?_;have ae:=hj (by omega)
 try simp only[a,z,and_self,true_and,jw]
 rw[zF (by omega) (by omega)]
 try simp only[true_and]
 rw[Zg yp (by omega) (by omega)];refine⟨rfl,?_⟩;have aj:(s.extract ((k:Int)+(j:Int)).toNat s.size).size<=400:=by rw[ByteArray.size_extract];omega
 have ak:(s.extract 0 k++pc).size<=404:=by rw[ByteArray.size_append];omega
 rw[yi (by omega)];refine⟨rfl,?_⟩;refine give ((((l.trans a2).trans (Same.of_ext (H.trans n))).trans M).trans N) (by rw[ByteArray.size_append];omega) ?_;rw[q9,q9];refine Yt (Yt ?_ L) ?_
 ·rw[ZL];exact fun c X=>m c (List.mem_of_mem_drop (List.mem_of_mem_take X))
 ·rw[ZL];exact fun c X=>m c (List.mem_of_mem_drop (List.mem_of_mem_take X))
end Go.Proofs.YtaemeijeaajoeaaGreatDoor
end
section
namespace Go.Proofs.YtaemeijeaajoeaaGreatDoor
open Go Go.Vc Go.Proofs
variable {w w':World} {K:Value→World→Prop} {F G:Nat→Prop} {s:ByteArray} {v v2 dv tv:Value} {ds:List M.Dcl} {u t:M.Tm}
theorem VA {x:ByteArray} (h:J4 ds t s) (a:J4 ds t x):s=x:=by
 by_cases c:M.tsort ds t= -1
 ·rw[h.1 c,a.1 c]
 ·exact str_ext (by rw[h.2 c,a.2 c])
theorem textP_right (h:J4 ds t s):s≠⟨#[]⟩↔0<=M.tsort ds t:=by
 have a:=tsort_low ds t;by_cases c:M.tsort ds t= -1
 ·exact⟨fun b=>absurd (h.1 c) b,fun h=>by omega⟩
 ·exact⟨fun _=>a.resolve_left c,fun _=>Qu (u:=t) ⟨c,h.2 c⟩⟩
theorem textP_read {x:M.Tm} {b:Bool} (h:J4 ds t s) (e:ReadP ds s x b):b=decide (0<=M.tsort ds t)/\(b=true->x=t):=by
 have f:=tsort_low ds t;by_cases c:M.tsort ds t= -1
 ·have a:=e.2 fun u hu=>Qu hu (h.1 c);refine⟨?_,fun d=>by rw[a.2] at d;cases d⟩;rw[a.2,decide_eq_false (by omega)]
 ·have a:=e.1 t ⟨c,h.2 c⟩;refine⟨?_,fun _=>a.1⟩;rw[a.2,decide_eq_true (f.resolve_left c)]
theorem Kg {x:M.Tm} (a:ReadP ds s x true):kS ds s x:=by
 by_cases c:∃u,kS ds s u
 ·obtain⟨u,hu⟩:=c;rw[(a.1 u hu).1];exact hu
 ·have:=(a.2 fun u hu=>c ⟨u,hu⟩).2;cases this
theorem FnTerm_run {xs ys:List Nat} (hx:Bytes F w v xs) (hF:∀b,F b->b<w.heap.size) (m:Bytes G w v2 ys) (hG:∀b,G b->b<w.heap.size) (H:SynR w) (hK:∀w',Ext w w'->K (.bool true) w'):vcall PP jG #[v,v2] w K:=by
 apply QV;unfold Ye;refine zI (fun u w'=>w'=w) (fun J hJ=>?_) ?_
 ·rw[hx.len (by kernel_rfl)];simp only[qR];refine zd (fun _=>hK w (Same.refl _ _)) (fun _=>?_);rw[m.len (by kernel_rfl)];simp only[qR];exact zd (fun _=>hK w (Same.refl _ _)) (fun _=>hJ _ _ rfl)
 rintro _ _ w ⟨rfl⟩;refine DrawTermText_spec hx hF fun w1 dv tv ds t a1 o an au=>?_;have aa:=dsm_sized an;obtain⟨cs,rfl,a⟩:=au.cells;have hg:aggB PP za cs.length=true:=by rw[yd a];exact zm
 simp only[push_cast];refine zw zt fun b2 w2 bk a3 bo ai=>?_;refine stTerm ai rfl (a.ext a3) fun w3 aw bp a0=>?_;have I:Ext w1 w3:=Ext.then a3 aw fun y m=>by subst m;omega
 rw[a0.ldAgg (t:=za) hg];refine TermText_spec (o.ext I) (a.ext I).term fun w4 s a4 hs=>?_;have L:=I.trans a4;have q4:=a0.ext a4;have e4:=a1.trans L;obtain⟨bm,ar⟩:=Qh hs;refine TermRead_spec (o.ext L) (H.ext e4) (by omega) ar fun w5 xv x ok a5 az hr=>?_;obtain⟨a7,a8⟩:=textP_read hs hr;have af:=L.trans a5;have q5:=q4.ext a5;obtain⟨cx,rfl,O⟩:=az.cells;have al:aggB PP za cx.length=true:=by rw[yd O];exact zm
 simp only[push_cast];refine zw zt fun b6 w6 bl a6 bq aj=>?_;refine stTerm aj rfl (O.ext a6) fun w7 ax br ak=>?_;have N:Ext w5 w7:=Ext.then a6 ax fun y m=>by subst m;omega
 have M:=af.trans N;have q7:=q5.ext N;rw[q7.ldAgg (t:=za) hg];refine spec_TermSort_spec aa (o.ext M) (a.ext M).term fun w8 p=>?_;have n:=M.trans p;have q8:=q7.ext p;simp only[YS];refine zI (fun u w'=>Ext w8 w') (fun J hJ=>?_) ?_
 ·rw[q8.ldAgg (t:=za) hg];refine spec_TermText_spec aa (o.ext n) (a.ext n).term fun w9 s2 e aq=>?_;have ah:=VA hs aq;subst ah;have ao:=textP_right hs;simp only[push_cast];refine zd (fun c=>absurd rfl c) (fun _=>?_);refine zR (fun c=>?_) (fun _=>?_)
  ·exfalso;revert c;simp only[decide_eq_decide.2 ao];simp
  refine zR (fun c=>?_) (fun _=>?_)
  ·exfalso;revert c;rw[a7];simp
  refine zR (fun c=>?_) (fun c=>hJ _ _ e);rw[((ak.ext p).ext e).ldAgg (t:=za) al,(q8.ext e).ldAgg (t:=za) hg];refine TermSame_spec x ((O.ext ((N.trans p).trans e)).term) (a.ext (n.trans e)).term fun b4 k=>?_;rw[decide_eq_true (a8 c)];simp only[Yj];exact zR (fun c=>by cases c) (fun _=>hJ _ _ (e.trans k))
 rintro _ _ w9 e;have e9:Ext w w9:=(a1.trans n).trans e;refine DrawTermRead_spec (m.ext e9) (fun b hb=>by have:=hG b hb;have:=e9.size;omega) fun b4 ev es text k A R bn av=>?_;have T:=dsm_sized R;have V:=e9.trans k;simp only[push_cast];refine TermRead_spec A (H.ext V) (by omega) av fun b5 yv y fine B b0 S=>?_;have j:=A.ext B;obtain⟨cy,rfl,i⟩:=b0.cells;have Q:aggB PP za cy.length=true:=by rw[yd i];exact zm
 simp only[push_cast];refine zw zt fun bi bs bc C be W=>?_;refine stTerm W rfl (i.ext C) fun b7 ab bf X=>?_;have q:Ext b5 b7:=Ext.then C ab fun y m=>by subst m;omega
 refine spec_TermRead_spec T (j.ext q) (by omega) fun b8 zv z told D b1 ap=>?_;obtain⟨cz,rfl,P⟩:=b1.cells;have am:aggB PP za cz.length=true:=by rw[yd P];exact zm
 simp only[push_cast];refine zw zt fun bj bt bd E bg Y=>?_;refine stTerm Y rfl (P.ext E) fun b9 ac bh Z=>?_;have h:Ext b8 b9:=Ext.then E ac fun y m=>by subst m;omega
 have ad:=(X.ext D).ext h;have g:=(q.trans D).trans h;obtain⟨b3,U⟩:=S.eq ap;have ag:=(V.trans B).trans g;rw[U];refine zR (fun _=>?_) (fun c=>by simp at c);rw[ad.ldAgg (t:=za) Q,Z.ldAgg (t:=za) am];refine TermSame_spec y ((i.ext g).term) (P.ext h).term fun ba l=>?_;rw[decide_eq_true b3.symm];refine zR (fun _=>?_) (fun c=>by cases c)
 try simp only[Yj]
 have r:=ag.trans l;refine zR (fun _=>hK ba r) (fun c=>?_);have hf:fine=true:=by simpa using c
 rw[hf] at S;have a9:=Kg S;have ae:=ad.ext l;rw[ae.ldAgg (t:=za) Q];have d:=g.trans l;refine TermText_spec (j.ext d) (i.ext d).term fun bu x2 f ay=>?_;have:=Zi ay a9;subst this;rw[xH];refine zd (fun _=>?_) (fun c=>absurd rfl c);rw[(ae.ext f).ldAgg (t:=za) Q];refine TermSort_spec (j.ext (d.trans f)) (i.ext (d.trans f)).term fun bb a2=>?_;simp only[push_cast];rw[decide_eq_true ((tsort_low es y).resolve_left a9.1)];exact hK bb ((r.trans f).trans a2)
theorem JV {F':Nat->Prop} {xs ys:List Nat} (a:Bytes F w v xs) (f:Bytes F' w v2 ys) (c:SynR w) (g:∀w',Ext w w'->K (.bool true) w'):vcall PP jG #[v,v2] w K:=
 FnTerm_run (F:=fun x=>F x/\x<w.heap.size) (G:=fun x=>F' x/\x<w.heap.size) ⟨a.1.weaken fun x a e=>⟨a,e⟩,a.2⟩ (fun b d=>d.2) ⟨f.1.weaken fun x a e=>⟨a,e⟩,f.2⟩ (fun b d=>d.2) c g
end Go.Proofs.YtaemeijeaajoeaaGreatDoor
end
section
namespace Go.Proofs.YtaemeijeaajoeaaGreatDoor
open Go Go.Vc Go.Proofs
open Go.RowKit
theorem laid_at {l:List (String×DataW Unit)} {W:World} (h:laidMet PP l W):∀k,laidMet PP (l.drop k) W
 |0=>h
 |k+1=>by
  have a:=laid_at h k;rw[<-List.tail_drop];cases b:l.drop k with
  |nil=>rw[b] at a;exact a
  |cons x r=>rw[b] at a;exact a.tail
theorem Ja: "*" ++ "errors.errorString" = "*errors.errorString" :=by decide
theorem VC (u:TypeId) (h:PP.typeName? 3 u=some "*errors.errorString"):u=yL:=
 typeName_ptr_named (nm:= "errors.errorString") (by rw[Ja];kernel_rfl) (by kernel_rfl) (by decide) u (by rw[Ja];exact h)
def ifaceB (P:Program) (t:TypeId):Bool:=match P.underlying t with
 |some (.interface _)=>true
 |_=>false
theorem VM {P:Program} {t:TypeId} (h:ifaceB P t=true):∃ms,P.underlying t=some (.interface ms):=by
 unfold ifaceB at h;split at h
 ·exact⟨_,by assumption⟩
 ·cases h
theorem Kd:∃ms,PP.underlying Yw=some (.interface ms):=VM (by kernel_rfl)
def fieldB (P:Program) (t u:TypeId):Bool:=match P.underlying t with
 |some (.struct fs)=>match fs.toList with
  |[f]=>decide (f.type=u)&&decide (f.offset=0)
  |_=>false
 |_=>false
theorem VN {P:Program} {t u:TypeId} (h:fieldB P t u=true):∃f,P.underlying t=some (.struct #[f])/\f.type=u/\f.offset=0:=by
 unfold fieldB at h;split at h
 ·rename_i fs a;split at h
  ·rename_i f b;simp only[Bool.and_eq_true,decide_eq_true_eq] at h;refine⟨f,?_,h⟩;rw[a];congr 2;exact Array.toList_inj.1 (by simpa using b)
  ·cases h
 ·cases h
theorem VE:PP.underlying yL=some (.pointer 203):=by kernel_rfl
theorem JH:∃f,PP.underlying 203=some (.struct #[f])/\f.type=ze/\f.offset=0:=VN (by kernel_rfl)
theorem JI:PP.underlying ze=some .string:=by kernel_rfl
theorem WB:PP.cellsOf 203=1/\PP.cellsOf ze=1:=⟨by kernel_rfl,by kernel_rfl⟩
theorem KI {n:String} {text:List UInt8} {r l:List (String×DataW Unit)} {W:World} {g:Nat} (h:laidMet PP l W) (k:Nat) (m:l.drop k=(n,.iface "*errors.errorString" (.ptr (.agg [.lit (.string text)])))::r)
  (c:PP.globalNamed n=some g) (o:(PP.globals[g]?).map (·.type)=some Yw):∃a,W.cell? ⟨g,0,none⟩=some (.iface yL (.pointer (some a))):=by
 have b:=laid_at h k;rw[m] at b;obtain⟨ms,j⟩:=Kd;obtain⟨f,d,e,i⟩:=JH;obtain⟨a,s,p,_⟩:=laid_sentinel b c o j VC VE d e i JI WB.1 WB.2;exact⟨a,by simpa using World.var?_cell c p 0⟩
theorem WP {l:List (String×DataW Unit)} {W:World} (h:laidMet PP l W) (k j:Nat) {t1 t2:List UInt8} {o p:List (String×DataW Unit)} {c d:String} (g:l.drop k=(c,.iface "*errors.errorString" (.ptr (.agg [.lit (.string t1)])))::o) (i:l.drop j=(d,.iface "*errors.errorString" (.ptr (.agg [.lit (.string t2)])))::p)
  (g1:PP.globalNamed c=some WD) (g2:PP.globalNamed d=some WE) (e:(PP.globals[WD]?).map (·.type)=some Yw) (f:(PP.globals[WE]?).map (·.type)=some Yw):SynR W:=by
 obtain⟨a,m⟩:=KI h k g g1 e;obtain⟨b,n⟩:=KI h j i g2 f;exact⟨⟨_,_,m⟩,_,_,n⟩
end Go.Proofs.YtaemeijeaajoeaaGreatDoor
end
