import Derived.Test.YtaekfnbnhjgboaaGreatDoorWucP12
import Derived.Test.YtaekfnbnhjgboaaGreatDoorWucP6
import Derived.OpenVars
import Derived.MakeChecks
import Derived.Stop.LaidErr
import Derived.Stop.LaidTwo
/- A part of the proof. -/
set_option linter.unusedVariables false
set_option linter.unusedSimpArgs false
set_option linter.unnecessarySimpa false
set_option linter.unusedSectionVars false
section
namespace Go.Proofs.YtaekfnbnhjgboaaGreatDoor
open Go Go.Vc Go.Proofs
variable {w:World} {K:Value→World→Prop} {D F F' G Fx Fy:Nat→Prop} {n m:Nat} {gs hs:M.Gs} {v xv yv dv tv:Value} {xs ys env:List Int} {bs ins:List Bool} {ds:List M.Dcl} {t:M.Tm} {ar ab:Addr}
theorem wpHash_spec {v:Value} {xs:List Nat} (hx:Bytes F w v xs) (hl:xs.length≤1048576) (hK:∀h:Int,0≤h→h≤1048576→K (.int .i64 h) w):vcall PP Z5 #[v] w K:=by
 apply xb0;unfold Vz
 simp(disch:=(simp only[push_cast];done)) only[push_cast,hx.len]
 refine vloop_up xs.length (fun i u w'=> ∃h:Int,u=[.int .i64 h,.int .i64 i]∧w'=w∧0≤h∧h≤1048576) ⟨_,rfl,rfl,by omega,by omega⟩ ?_
 rintro i _ _ _ C hi ⟨h,rfl,rfl,h0,h1⟩ hC
 rename_i w
 refine zU (fun u w'=>u=[]∧w'=w∧i<xs.length∧i<40) (fun J hJ=>?_) ?_
 ·simp(disch:=(simp only[push_cast];done)) only[push_cast,hx.len]
  refine zh (fun a=>?_) (fun _=>hK h h0 h1)
  exact zh (fun b=>hJ _ _ ⟨rfl,rfl,by omega,by omega⟩) (fun _=>hK h h0 h1)
 rintro _ _ _ ⟨rfl,rfl,hil,h40⟩
 have hb:xs.getD i 0<256:=hx.2 _ (M.getD_mem hil 0)
 simp(disch:=first|(simp only[push_cast];done)|omega) only[push_cast,hx.iaddr,Int.toNat_natCast,hx.load,qC yt0 UB]
 rw[zA (x:=h*7) (by omega) (by omega),zA (x:=((xs.getD i 0:Nat):Int)) (by omega) (by omega),zA (x:=h*7+((xs.getD i 0:Nat):Int)) (by omega) (by omega),ZQ (by decide)]
 rw[Int.tmod_eq_emod_of_nonneg (by omega),inc64' (by omega)]
 exact hC hil _ _ ⟨_,rfl,rfl,by omega,by omega⟩
theorem hash_env {dv yv:Value} {ys:List Nat} {i:Nat} (hd:DclsR F w dv ds) (hok:M.declOk ds=true) (hy:Bytes F' w yv ys) (hl:ys.length≤1048576) (hi:i≤1000)
  (hK:∀w' ev env,Ext w w'→OwnI PP zg w' ev env→M.envOk ds env=true→K (.tuple #[ev,.bool true]) w'):
  vcall PP Z5 #[yv] w fun t80 w_49=>zo PP .add zc false t80 (.int .i64 (IntKind.i64.wrap (53*i))) w_49 fun t83 w_51=>zo PP .rem zc false t83 (.int .i64 (yA0 ds)) w_51 fun t85 w_52=>vcall PP Za #[dv,t85] w_52 K:=by
 refine wpHash_spec hy hl fun h h0 h1=>?_
 have hbk:=bits_all hok 0
 have hp:=pow8 (b:=M.bits ds) (by omega) hbk.2.2
 have hmany:yA0 ds=2^(M.bits ds).toNat:=by unfold yA0;rw[if_pos hok]
 simp(disch:=omega) only[push_cast,zA]
 rw[ZQ (by omega),Int.tmod_eq_emod_of_nonneg (by omega)]
 have hr0:=Int.emod_nonneg (h+53*(i:Int)) (b:=yA0 ds) (by omega)
 have hr1:=Int.emod_lt_of_pos (h+53*(i:Int)) (b:=yA0 ds) (by omega)
 exact EnvAll_spec hd hok hr0 (by omega) fun w' ev env he hev _ henv _=>hK w' ev env he hev henv
theorem FnBlast_spec {v v':Value} {xs ys:List Nat} (hx:Bytes F w v xs) (hy:Bytes F' w v' ys) (he0:Errs (fun _=>False) w ar ab) (hK:∀w',Ext w w'→K (.bool true) w'):vcall PP Jp #[v,v'] w K:=by
 apply zI0;unfold JC
 refine zU (fun u w'=>u=[]∧w'=w∧ys.length≤1048576) (fun C hC=>?_) ?_
 ·simp(disch:=(simp only[push_cast];done)) only[push_cast,hx.len,hy.len]
  refine zh (fun _=>hK w (Same.refl _ _)) (fun _=>?_)
  exact zh (fun _=>hK w (Same.refl _ _)) (fun _=>hC _ _ ⟨rfl,rfl,by omega⟩)
 rintro _ _ _ ⟨rfl,rfl,hysm⟩
 rename_i w
 refine DrawBlast_spec hx.below (fun b hb=>hb) fun w1 dv tv ds t he1 hd hok ht=>?_
 obtain⟨cs,rfl,hcs⟩:=ht.cells
 simp only[push_cast]
 refine term_new (hcs.weaken (F':=fun _=>True) fun _ _ _=>trivial) fun w2 b2 hb2 he2 h2 hc2=>?_
 have hg:aggB PP z7 cs.length=true:=by rw[xt hcs];exact zH
 have e2:=he1.trans he2
 rw[h2.ldAgg (t:=z7) hg]
 refine Blast_spec (hd.ext he2) hc2.term (he0.ext0 e2) fun w3 gv lv he3 hg3 hl3 _ _=>?_
 simp only[push_cast]
 refine net_new hg3 fun w4 b4 hb4 he4 h4 hg4=>?_
 have e24:=he3.trans he4
 rw[(h2.ext e24).ldAgg (t:=z7) hg]
 refine spec_Blast_spec (dsm_sized hok) (hd.ext (he2.trans e24)) (hc2.ext e24).term fun w5 gv5 lv5 he5 hg5 hl5 _ _=>?_
 simp only[push_cast]
 refine net_new hg5 fun w6 b6 hb6 he6 h6 hg6=>?_
 have e46:=he5.trans he6
 have e26:=e24.trans e46
 have e6:Ext w w6:=e2.trans e26
 have hd6:=hd.ext (he2.trans e26)
 have h26:=h2.ext e26
 have hc6:=hc2.ext e26
 have h46:=h4.ext e46
 have hlA:=hl3.ints.ext (he4.trans e46)
 have hlB:=hl5.ints.ext he6
 have hgA:OwnG w6 gv (blastR ds t).2.1:=Own.ext hg4 e46
 have hfew:=ks0 ds t
 have hnet:∀{w':World} {b:Nat} {gv:Value} {K:Value→World→Prop},Blk w' b [.int .i64 (blastR ds t).1,gv] zf→ze PP zf (.pointer (some ⟨b,0,none⟩)) w' K=K (.agg ⟨[.int .i64 (blastR ds t).1,gv]⟩) w':=fun h=>h.ldAgg (t:=zf) y4
 have hlen4:=sigs_few ds t
 refine zU (fun u w'=>u=[]∧Ext w6 w') (fun C hC=>?_) ?_
 ·simp only[hnet h46,hnet h6]
  refine Wu (Own.sl hgA) (Own.sl hg6) (by omega) fun w7 he7=>?_
  rw[decide_eq_true ⟨rfl,rfl⟩]
  simp only[push_cast,Bool.not_true]
  refine wpInts_spec (hlA.ext he7) (hlB.ext he7) fun w8 he8=>?_
  rw[decide_eq_true rfl]
  simp only[push_cast,Bool.not_true]
  exact hC _ _ ⟨rfl,he7.trans he8⟩
 rintro _ _ w7 ⟨rfl,he7⟩
 have zero:∀{w8:World},Ext w6 w8→(blastR ds t).1=0→(blastR ds t).2.1=[]→ze PP zf (.pointer (some ⟨b4,0,none⟩)) w8 fun t67 w_36=>zE PP zf [] w_36 fun t68 w_37=>vcall PP qr #[t67,t68] w_37 fun t69 w_38=>K t69 w_38:=fun{w8} he8 z1 z2=>by
  rw[hnet (h46.ext he8),za0]
  refine Wu (hs:=[]) (F':=fun _=>False) (Own.sl (Own.ext hgA he8)) GatesR.nil (by omega) fun w9 he9=>?_
  rw[decide_eq_true ⟨by omega,z2⟩]
  exact hK _ (e6.trans (he8.trans he9))
 refine zU (fun u w'=>u=[]∧Ext w6 w'∧M.tsort ds t≠ -1∧(blastR ds t).1=M.nIn ds∧M.blastB ds t=some ((blastR ds t).2.1,(blastR ds t).2.2)) (fun C hC=>?_) ?_
 ·rw[(h26.ext he7).ldAgg (t:=z7) hg]
  refine spec_TermSort_spec (dsm_sized hok) (hd6.ext he7) (hc6.ext he7).term fun w8 he8=>?_
  have e68:=he7.trans he8
  simp only[push_cast]
  refine zh (fun h=>?_) (fun h=>?_)
  ·have hts:M.tsort ds t= -1:=by have:=Zh0 ds t;omega
   have hz:=jx0 hts
   simp(disch:=(simp only[push_cast];done)) only[push_cast,(hlA.ext e68).len]
   refine zh (fun _=>?_) (fun h=>absurd ?_ h)
   ·exact zero e68 (by rw[hz]) (by rw[hz])
   ·rw[hz];rfl
  ·simp(disch:=(simp only[push_cast];done)) only[push_cast,(hlA.ext e68).len]
   refine zh (fun h0=>?_) (fun h0=>?_)
   ·refine zh (fun _=>?_) (fun h=>absurd h0 h)
    rcases Xl ds t with⟨c1,c2,c3⟩|⟨c1,c2,c3⟩
    ·exact zero e68 c2 c3
    ·exfalso
     obtain⟨_,hdk,hs,_⟩:=QC c1
     have h3:=(M.blast_says hdk hs c3).2.2.1
     unfold M.lenS at h3
     omega
   ·rcases Xl ds t with⟨c1,c2,c3⟩|c
    ·rw[c1] at h0;exact absurd rfl h0
    ·exact hC _ _ ⟨rfl,e68,c⟩
 rintro _ _ w8 ⟨rfl,e68,hts,hn,hrun⟩
 obtain⟨hfit,hdk,hs,h20⟩:=QC hts
 obtain⟨q1,q2,q3,q4⟩:=M.blast_says hdk hs hrun
 obtain⟨hn1,hn8⟩:=M.nIn_eq hdk
 have hGA:∀{w':World},Ext w6 w'→GatesR (fun b=>gv.ownBlock=some b) w' gv (blastR ds t).2.1:=fun h=>Own.sl (Own.ext hgA h)
 refine EnvMany_spec (hd6.ext e68) fun w9 he9=>?_
 have e69:=e68.trans he9
 refine vloop_up 16 (fun i u w'=>u=[.int .i64 i]∧Ext w6 w') ⟨rfl,e69⟩ ?_
 rintro i _ _ w10 C hi ⟨rfl,e610⟩ hC
 simp only[push_cast]
 refine zh (fun a=>?_) (fun a=>?_)
 ·refine hash_env (i:=i) (hd6.ext e610) hdk (hy.ext (e6.trans e610)) hysm (by omega) fun w11 ev env he11 hev henv=>?_
  have e611:=e610.trans he11
  simp only[push_cast]
  rw[(h26.ext e611).ldAgg (t:=z7) hg]
  refine xq0 (hd6.ext e611) (hc6.ext e611).term hev.ints fun w12 he12=>?_
  have e612:=e611.trans he12
  have htok:=X80 henv hs hfit
  have hte:M.teval ds t env=M.evalM ds env t:=by unfold M.teval;rw[if_pos htok]
  rw[htok,hte]
  simp only[push_cast]
  refine zu fun w13 he13 _=>?_
  have e613:=e612.trans he13
  simp only[hnet (h46.ext e613),true_and]
  refine BlastIns_spec (hd6.ext e613) (hev.ints.ext (he12.trans he13)) henv fun w14 iv he14 hiv _=>?_
  have e614:=e613.trans he14
  simp only[hnet (h46.ext e614),true_and,and_self]
  have hil:=M.insM_n henv
  rw[hn]
  refine NetVals_spec (hGA e614) q1 hn8 hiv.bools hil fun w15 rv he15 hrv _=>?_
  have e615:=e614.trans he15
  have hvl:(M.valsG (true::M.insM ds env) (blastR ds t).2.1).length=1+M.nIn ds+(blastR ds t).2.1.length:=by rw[M.valsG_len,List.length_cons,hil];omega
  simp(disch:=(simp only[push_cast];done)) only[push_cast,hrv.bools.len,Bool.not_true]
  refine zh (fun h=>absurd h (by omega)) (fun _=>?_)
  refine BitsVal_spec hrv.bools (hlA.ext e615) (by omega) hlen4 (fun x hx=>by rw[hvl];exact q2 x hx) ?_
  rw[M.blast_num hs hrun henv]
  simp only[push_cast]
  refine zh (fun h=>absurd rfl h) (fun _=>?_)
  rw[inc64' (by omega)]
  exact hC (by omega) _ _ ⟨rfl,e615⟩
 ·rw[(h26.ext e610).ldAgg (t:=z7) hg]
  refine TermSort_spec (hd6.ext e610) (hc6.ext e610).term fun w11 he11=>?_
  have e611:=e610.trans he11
  rw[hnet (h46.ext e611),hn]
  refine yh0 (hGA e611) q1 hn8 fun w12 he12=>?_
  have e612:=e611.trans he12
  have hso:=k10 hdk hfit
  have hr:=M.sort_range hdk t
  unfold M.lenS at q3
  simp(disch:=(simp only[push_cast];done)) only[push_cast,(hlA.ext e612).len]
  refine zh (fun _=>hK _ (e6.trans e612)) (fun h=>?_)
  try simp only[push_cast]
  refine zh (fun h0=>?_) (fun h0=>?_)
  ·try simp(disch:=(simp only[push_cast];done)) only[push_cast,(hlA.ext e612).len]
   rw[decide_eq_true (show(((blastR ds t).2.2.length:Nat):Int)=1 by omega)]
   exact hK _ (e6.trans e612)
  ·exfalso;omega
end Go.Proofs.YtaekfnbnhjgboaaGreatDoor
end
section
namespace Go.Proofs.YtaekfnbnhjgboaaGreatDoor
open Go Go.Vc Go.Proofs
open Go.RowKit
theorem laid_at {l:List (String×DataW Unit)} {W:World} (h:laidMet PP l W):∀k,laidMet PP (l.drop k) W
 |0=>h
 |k+1=>by
  have h':=laid_at h k
  rw[←List.tail_drop]
  cases hd:l.drop k with
  |nil=>rw[hd] at h';exact h'
  |cons x r=>rw[hd] at h';exact h'.tail
theorem xx0: "*" ++ "errors.errorString" = "*errors.errorString" :=by decide
theorem Zk0 (u:TypeId) (h:PP.typeName? 3 u=some "*errors.errorString"):u=xl:=
 typeName_ptr_named (nm:= "errors.errorString") (by rw[xx0];kernel_rfl) (by kernel_rfl) (by decide) u (by rw[xx0];exact h)
def ifaceB (P:Program) (t:TypeId):Bool:=match P.underlying t with
 |some (.interface _)=>true
 |_=>false
theorem ZC0 {P:Program} {t:TypeId} (h:ifaceB P t=true):∃ms,P.underlying t=some (.interface ms):=by
 unfold ifaceB at h
 split at h
 ·exact⟨_,by assumption⟩
 ·cases h
theorem je0:∃ms,PP.underlying yJ=some (.interface ms):=ZC0 (by kernel_rfl)
def fieldB (P:Program) (t u:TypeId):Bool:=match P.underlying t with
 |some (.struct fs)=>match fs.toList with
  |[f]=>decide (f.type=u)&&decide (f.offset=0)
  |_=>false
 |_=>false
theorem ZG0 {P:Program} {t u:TypeId} (h:fieldB P t u=true):∃f,P.underlying t=some (.struct #[f])∧f.type=u∧f.offset=0:=by
 unfold fieldB at h
 split at h
 ·rename_i fs hfs
  split at h
  ·rename_i f hf
   simp only[Bool.and_eq_true,decide_eq_true_eq] at h
   refine⟨f,?_,h⟩
   rw[hfs]
   congr 2
   exact Array.toList_inj.1 (by simpa using hf)
  ·cases h
 ·cases h
theorem Zl0:PP.underlying xl=some (.pointer 396):=by kernel_rfl
theorem qs0:∃f,PP.underlying 396=some (.struct #[f])∧f.type=zJ∧f.offset=0:=ZG0 (by kernel_rfl)
theorem qt0:PP.underlying zJ=some .string:=by kernel_rfl
theorem YW0:PP.cellsOf 396=1∧PP.cellsOf zJ=1:=⟨by kernel_rfl,by kernel_rfl⟩
theorem k50 {n:String} {text:List UInt8} {r l:List (String×DataW Unit)} {W:World} {g:Nat} (h:laidMet PP l W) (k:Nat) (hl:l.drop k=(n,.iface "*errors.errorString" (.ptr (.agg [.lit (.string text)])))::r)
  (hg:PP.globalNamed n=some g) (ht:(PP.globals[g]?).map (·.type)=some yJ):∃a,Sent W g a:=by
 have h':=laid_at h k
 rw[hl] at h'
 obtain⟨ms,hi⟩:=je0
 obtain⟨f,h1,h2,h3⟩:=qs0
 obtain⟨a,s,hv,_⟩:=laid_sentinel h' hg ht hi Zk0 Zl0 h1 h2 h3 qt0 YW0.1 YW0.2
 exact⟨a,by unfold Sent;simpa using World.var?_cell hg hv 0⟩
theorem vars_len {H:Type} {enc:TypeId×Value→H} {P:Program} {w:World} {sp:Nat→Bool}:∀{ns:List String} {gs:List (DataW H)} {ps:List MemPlace},DataW.TrodVars enc P w sp ns gs ps→gs.length=ns.length
 |[],[],_,_=>rfl
 |[],_::_,_,h=>h.elim
 |_::_,[],_,h=>h.elim
 |_::_,_::_,_,⟨_,_,_,_,_,_,_,_,_,_,hs,_⟩=>by rw[List.length_cons,List.length_cons,vars_len hs]
theorem vlist2 {α:Type} {l:List α} (h:l.length=2):∃a b,l=[a,b]:=by
 match l,h with
 |[a,b],_=>exact⟨a,b,rfl⟩
end Go.Proofs.YtaekfnbnhjgboaaGreatDoor
end
