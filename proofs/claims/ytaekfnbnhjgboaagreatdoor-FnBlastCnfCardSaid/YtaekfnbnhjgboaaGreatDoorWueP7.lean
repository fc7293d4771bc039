import Derived.Test.YtaekfnbnhjgboaaGreatDoorWueP6
import Derived.Test.YtaekfnbnhjgboaaGreatDoorWueP5
import Derived.Test.YtaekfnbnhjgboaaGreatDoorWueP2
/- A part of the proof. -/
set_option linter.unusedVariables false
set_option linter.unusedSimpArgs false
set_option linter.unnecessarySimpa false
set_option linter.unusedSectionVars false
section
namespace Go.Proofs.YtaekfnbnhjgboaaGreatDoor
open Go Go.Vc Go.Proofs
variable {w:World} {K:Value→World→Prop} {F F' D G:Nat→Prop}
theorem strof_spec {b p:Nat} {v vs:Value} {xs:List Nat} {ss:List ByteArray} (h:RdR F w b v xs p) (g:Vals F' w vs (ss.map .string)) (d:ss≠[]) (n:ss.length≤1000) (m:p<1099511627776) (c:∀x,F' x→x≠b)
  (j:∀w' s,Same (· =b) w w'→w'.heap.size=w.heap.size→RdR F w' b v xs (p+1)→s∈ss→K (.string s) w'):vcall PP qW #[.pointer (some ⟨b,0,none⟩),vs] w K:=by
 apply yl0
 have f:=List.length_pos_iff.2 d
 have u:(ss.map Value.string).length=ss.length:=List.length_map _
 simp(disch:=(simp only[push_cast];done)) only[push_cast,g.len]
 refine pick_spec h (by omega) m fun r k hs q l i _=>?_
 have t:=i (by omega)
 have a:=g.same hs fun x o _ e=>c x o e
 rw[a.iaddr (by kernel_rfl) (by omega) (by omega),Int.toNat_natCast,a.load (by kernel_rfl) (by omega),M.getD_map _ (by omega) _ M.nada]
 exact j r _ hs q l (M.getD_mem (by omega) _)
theorem of_lit {b p:Nat} {v:Value} {xs:List Nat} {ss:List ByteArray} (h:RdR F w b v xs p) (hF:∀x,F x→x<w.heap.size) (c:ss≠[]) (d:ss.length≤1000) (l:p<1099511627776) (j:∀a s,Same (· =b) w a→RdR F a b v xs (p+1)→s∈ss→K (.string s) a):
  vbuildS PP yw ss.length ((ss.map Value.string).zipIdx.map fun p=>(p.2,p.1)) w fun s a=>vcall PP qW #[.pointer (some ⟨b,0,none⟩),s] a K:=by
 have:=vbuildS_row1 (w:=w) (K:=fun s a=>vcall PP qW #[.pointer (some ⟨b,0,none⟩),s] a K) (t:=yw) (xs:=ss.map Value.string) Xn (by kernel_rfl) Xk (fun x f=>by obtain⟨y,_,rfl⟩:=List.mem_map.1 f;rfl) (by rw[List.length_map];omega) fun b2 w' q g r i=>by
  have n:Vals (· =b2) w' (.slice (some ⟨b2,0,none⟩) (ss.map Value.string).length (ss.map Value.string).length) (ss.map Value.string):=i.sl1 rfl (by rw[List.length_map];omega)
  have:=h.blk.lt
  refine strof_spec (h.ext g) n c d l (fun x f e=>by subst f;omega) fun o m hs u k hm=>?_
  exact j o m ((Same.of_ext g).trans hs) k hm
 rwa[List.length_map] at this
theorem num_lit {b p:Nat} {v:Value} {xs:List Nat} {ns:List Int} (h:RdR F w b v xs p) (c:ns≠[]) (d:ns.length≤1000) (l:p<1099511627776) (j:∀a m,Same (· =b) w a→RdR F a b v xs (p+1)→m∈ns→K (.int .i64 m) a):
  vbuildS PP zg ns.length ((ns.map fun x=>Value.int .i64 x).zipIdx.map fun p=>(p.2,p.1)) w fun s a=>vcall PP yx #[.pointer (some ⟨b,0,none⟩),s] a K:=by
 have:=vbuildS_row1 (w:=w) (K:=fun s a=>vcall PP yx #[.pointer (some ⟨b,0,none⟩),s] a K) (t:=zg) (xs:=ns.map fun x=>Value.int .i64 x) ju qR jS (fun x f=>by obtain⟨y,_,rfl⟩:=List.mem_map.1 f;rfl) (by simp;omega) fun b2 w' q g r i=>by
  have n:Ints (· =b2) w' (.slice (some ⟨b2,0,none⟩) (ns.map fun x=>Value.int .i64 x).length (ns.map fun x=>Value.int .i64 x).length) ns:=i.sl1 rfl (by simp;omega)
  have:=h.blk.lt
  refine num_spec (h.ext g) n c d l (fun x f e=>by subst f;omega) fun o m hs u k hm=>?_
  exact j o m ((Same.of_ext g).trans hs) k hm
 rwa[List.length_map] at this
def Dsm (ds:List M.Dcl):Prop:=ds.length≤6∧∀i,i<ds.length→(ds.getD i Wd).1.size≤5
theorem Yc0 {ds:List M.Dcl} {k j:Nat} {d:M.Dcl} (a:k<ds.length):(ds.set k d).getD j Wd=if k=j then d else ds.getD j Wd:=by
 rw[List.getD_eq_getElem?_getD,List.getElem?_set]
 split
 ·rename_i e
  rfl
 ·rw[←List.getD_eq_getElem?_getD]
theorem ZM0 {ds:List M.Dcl} {k:Nat} {d:M.Dcl} (c:List Value) (a:c=[Value.string d.1,Value.int .i64 d.2]):(ds.map fun d=>[Value.string d.1,Value.int .i64 d.2]).set k c=(ds.set k d).map fun d=>[Value.string d.1,Value.int .i64 d.2]:=by
 rw[List.map_set,a]
theorem jl0 {b:Nat} (h:Blk w b [] zz):OwnD w (.slice (some ⟨b,0,none⟩) 0 0) []:=Blk.ownk (css:=[]) (by rw[Wa];exact h) (by simp) rfl (by decide)
abbrev yk0 (ds:List M.Dcl):List (List Value):=ds.map fun d=>[Value.string d.1,Value.int .i64 d.2]
theorem one_cellsD {ds:List M.Dcl}:∀y,y∈yk0 ds→∀c,c∈y→c.oneCell'=true:=fun y b c a=>by
 obtain⟨d,_,rfl⟩:=List.mem_map.1 b
 simp only[List.mem_cons,List.not_mem_nil,or_false] at a
 rcases a with rfl|rfl<;>rfl
def Dsn (n:Nat) (ds:List M.Dcl):Prop:=ds.length≤n∧∀i,i<ds.length→(ds.getD i Wd).1.size≤5
theorem dsn_sized {n:Nat} {ds:List M.Dcl} (h:Dsn n ds):YC0 ds:=fun i hi=>by have:=h.2 i hi;omega
theorem dsn_up {n:Nat} {ds:List M.Dcl} (h:Dsn n ds):Dsn (n+2) ds:=⟨by have:=h.1;omega,h.2⟩
theorem dok_dsn {ds:List M.Dcl} (h:Dok ds):Dsn 4 ds:=⟨h.1,fun i hi=>by have:=(h.2 i hi).2.2;omega⟩
theorem l2Spoil_spec2 {n b p:Nat} {v dv:Value} {xs:List Nat} {ds:List M.Dcl} (h:RdR F w b v xs p) (hF:∀x,F x→x<w.heap.size) (hd:DclsR D w dv ds) (hD:∀x,D x→x≠b) (hD1:∀x,D x→x<w.heap.size) (u:Dsn n ds) (ai:n≤100) (hp:p+10<1099511627776)
  (hK:∀w' p' V U,Same (· =b) w w'→RdR F w' b v xs p'→p'≤p+10→DclsR (fun x=>w.heap.size≤x) w' V U→Dsn (n+2) U→K V w'):vcall PP jx #[.pointer (some ⟨b,0,none⟩),dv] w K:=by
 apply x30
 have lb:=h.blk.lt
 have hlen:=u.1
 refine vbuildS_row (xs:=[]) (us:=[]) (k:=2) Z9 ZU xF rfl (by simp) (by decide) fun b1 w1 aq E av h1=>?_
 have al:=jl0 h1
 refine vappend (F:=D) (ys:=yk0 ds) Jk (by decide) al (show Sl D w1 2 dv (yk0 ds) from hd.ext E) one_cellsD (Nat.zero_le _) (by simp;omega) (by simp;omega) fun ov w2 J a9 aj=>?_
 replace J:OwnD w2 ov ds:=J
 have aw:=E.size
 have ax:=a9.size
 have H:Same (· =b1) w1 w2:=a9.mono fun x _ g=>(Option.some.inj g).symm
 have B:∀x,ov.ownBlock=some x→w.heap.size≤x:=fun x g=>by
  rcases aj x g with g|g
  ·have e:x=b1:=(Option.some.inj g).symm;omega
  ·omega
 have a4:Same (· =b) w w2:=same_new (Same.of_ext E) H (by omega)
 have W:RdR F w2 b v xs p:=(h.ext E).new H (by omega) fun x g e=>by have:=hF x g;omega
 have ag:DclsR D w2 dv ds:=(hd.ext E).same H fun x g _ e=>by have:=hD1 x g;omega
 have G:∀T p3 I,Same (· =b) w T→RdR F T b v xs p3→p3≤p+10→OwnD T ov I→Dsn (n+2) I→K ov T:=fun T p3 I hs hR am ho ah=>hK T p3 ov I hs hR am (ho.dcls.weaken fun x g _=>B x g) ah
 simp(disch:=(simp only[push_cast];done)) only[push_cast,ag.len]
 refine zh (fun a=>?_) (fun a=>?_)
 ·exact G _ _ _ a4 W (by omega) J (dsn_up u)
 refine pick_spec W (by omega) (by omega) fun T k a5 ay ad hk _=>?_
 have ar:=hk (by omega)
 refine pick_spec ad (by omega) (by omega) fun w4 c a6 az C hc _=>?_
 have L:OwnD w4 ov ds:=(J.same a5 fun x g e=>by have:=B x g;omega).same a6 fun x g e=>by have:=B x g;omega
 have f:=(a4.trans a5).trans a6
 have aa:=f.size
 have ac:∀x,F x→x<w4.heap.size:=fun x g=>Nat.lt_of_lt_of_le (hF x g) aa
 have t:∀{A:World} {p5:Nat} {d:M.Dcl} {x:Value} {j:Nat} {e:TypeId},OwnD A ov ds→Same (· =b) w A→RdR F A b v xs p5→p5≤p+10→x.cells= #[x]→x.oneCell'=true→jv PP e 1=true→j<2→([Value.string (ds.getD k Wd).1,Value.int .i64 (ds.getD k Wd).2].set j x)=[Value.string d.1,Value.int .i64 d.2]→d.1.size≤5→
   zt PP e (.pointer (some ((eaddr ov 2 k).add j))) x A fun _ P=>K ov P:=by
  intro A p5 d x j e ho hs hR an ao ap hz hj a8 S
  refine Own.stCell ho ao ap hz (by rw[List.length_map];omega) hj fun P N o _=>?_
  have hg:(yk0 ds).getD k []=[Value.string (ds.getD k Wd).1,Value.int .i64 (ds.getD k Wd).2]:=zF0 (by omega)
  rw[show(ds.map fun d=>[Value.string d.1,Value.int .i64 d.2]).getD k []=_ from hg,a8,ZM0 (d:=d) _ rfl] at N
  have a7:Same (· =b) w P:=⟨o.os.trans hs.os,o.tape.trans hs.tape,o.output.trans hs.output,Nat.le_trans hs.size o.size,fun y O R=>by
   rw[o.block y (Nat.lt_of_lt_of_le O hs.size) (fun e=>by have:=B y e;omega)];exact hs.block y O R⟩
  refine G P p5 _ a7 (hR.same o (fun e=>by have:=B b e;omega) fun y O _ e=>by have:=B y e;have:=hF y O;omega) an N ⟨by rw[List.length_set];omega,fun i hi=>?_⟩
  rw[List.length_set] at hi
  rw[Yc0 (by omega)]
  split
  ·exact S
  ·have:=u.2 i hi;omega
 have au:=u.2 k (by omega)
 simp only[push_cast]
 refine zh (fun a0=>?_) (fun a0=>?_)
 ·refine num_lit (ns:=[0,5,-1,4]) C (by simp) (by decide) (by omega) fun A m r Q hm=>?_
  have q:OwnD A ov ds:=L.same r fun x g e=>by have:=B x g;omega
  have hi:=q.dcls
  simp(disch:=first|(simp only[push_cast];done)|omega) only[push_cast,hi.iaddr]
  exact t (d:=((ds.getD k Wd).1,m)) (j:=1) q (f.trans r) Q (by omega) rfl rfl qR (by omega) rfl (by show(ds.getD k Wd).1.size≤5;omega)
 refine zh (fun a1=>?_) (fun a1=>?_)
 ·refine of_lit (ss:=[⟨#[]⟩,⟨#[116,114,117,101]⟩,⟨#[97,98,99,100,101]⟩,⟨#[65]⟩,⟨#[110,111,116]⟩,⟨#[120]⟩]) C ac (by simp) (by decide) (by omega) fun A s r Q hm=>?_
  have q:OwnD A ov ds:=L.same r fun x g e=>by have:=B x g;omega
  have hi:=q.dcls
  have S:s.size≤5:=by
   simp only[List.mem_cons,List.not_mem_nil,or_false] at hm
   rcases hm with rfl|rfl|rfl|rfl|rfl|rfl<;>decide
  simp(disch:=first|(simp only[push_cast];done)|omega) only[push_cast,hi.iaddr]
  exact t (d:=(s,(ds.getD k Wd).2)) (j:=0) q (f.trans r) Q (by omega) rfl rfl xN0 (by omega) rfl S
 refine zh (fun a2=>?_) (fun a2=>?_)
 ·refine vbuildS_row (xs:=[.agg ⟨[.string ⟨#[113]⟩,.int .i64 4]⟩,.agg ⟨[.string ⟨#[112]⟩,.int .i64 1]⟩]) (us:=yk0 [(⟨#[113]⟩,4),(⟨#[112]⟩,1)]) (k:=2) Z9 ZU xF rfl (by simp) (by decide) fun b5 A af l r h5=>?_
  have Y:OwnD A (.slice (some ⟨b5,0,none⟩) 2 2) [(⟨#[113]⟩,4),(⟨#[112]⟩,1)]:=Blk.ownk (css:=yk0 [(⟨#[113]⟩,4),(⟨#[112]⟩,1)]) (by rw[Wa];exact h5) (by simp) rfl (by decide)
  refine vappend (ys:=yk0 [(⟨#[113]⟩,4),(⟨#[112]⟩,1)]) Jk (by decide) (L.ext l) Y.sl one_cellsD (Nat.zero_le _) (by simp;omega) (by simp;omega) fun ab P N z ak=>?_
  have b0:=l.size
  have o:Same (· =b) w P:=⟨z.os.trans ((f.trans (Same.of_ext l)).os),z.tape.trans ((f.trans (Same.of_ext l)).tape),z.output.trans ((f.trans (Same.of_ext l)).output),Nat.le_trans (f.trans (Same.of_ext l)).size z.size,fun y O R=>by
   rw[z.block y (Nat.lt_of_lt_of_le O (f.trans (Same.of_ext l)).size) (fun e=>by have:=B y e;omega)];exact(f.trans (Same.of_ext l)).block y O R⟩
  have ae:RdR F P b v xs _:=(C.ext l).same z (fun e=>by have:=B b e;omega) fun y O _ e=>by have:=B y e;have:=hF y O;omega
  have Z:OwnD P ab (ds++[(⟨#[113]⟩,4),(⟨#[112]⟩,1)]):=by
   rw[OwnD,List.map_append];exact N
  refine hK P _ ab _ o ae (by omega) (Z.dcls.weaken fun x g _=>?_) ⟨by rw[List.length_append];simp;omega,fun i hi=>?_⟩
  ·rcases ak x g with h|h
   ·exact B x h
   ·omega
  ·rw[List.length_append] at hi
   by_cases X:i<ds.length
   ·rw[List.getD_eq_getElem?_getD,List.getElem?_append_left X,←List.getD_eq_getElem?_getD]
    have:=u.2 i X;omega
   ·rw[List.getD_eq_getElem?_getD,List.getElem?_append_right (by omega)]
    have:i-ds.length=0∨i-ds.length=1:=by simp at hi;omega
    rcases this with e|e<;>rw[e]<;>decide
 refine zh (fun a3=>?_) (fun a3=>?_)
 ·refine vbuildS_row (xs:=[]) (us:=[]) (k:=2) Z9 ZU xF rfl (by simp) (by decide) fun b5 A af l r h5=>?_
  have q:=jl0 h5
  exact hK A _ _ [] (f.trans (Same.of_ext l)) (C.ext l) (by omega) (q.dcls.weaken fun x g _=>by have e:x=b5:=(Option.some.inj g).symm;omega) ⟨by simp,fun i hi=>by simp at hi⟩
 ·exact G _ _ _ f C (by omega) L (dsn_up u)
theorem l2Spoil_spec {b p:Nat} {v dv:Value} {xs:List Nat} {ds:List M.Dcl} (h:RdR F w b v xs p) (hF:∀x,F x→x<w.heap.size) (g:DclsR D w dv ds) (hD:∀x,D x→x≠b) (hD1:∀x,D x→x<w.heap.size) (d:Dok ds) (i:p+10<1099511627776)
  (f:∀w' e c a,Same (· =b) w w'→RdR F w' b v xs e→e≤p+10→DclsR (fun x=>w.heap.size≤x) w' c a→Dsm a→K c w'):vcall PP jx #[.pointer (some ⟨b,0,none⟩),dv] w K:=
 l2Spoil_spec2 h hF g hD hD1 (dok_dsn d) (by omega) i f
end Go.Proofs.YtaekfnbnhjgboaaGreatDoor
end
section
namespace Go.Proofs.YtaekfnbnhjgboaaGreatDoor
open Go Go.Vc Go.Proofs
variable {w:World} {K:Value→World→Prop} {F F' D G:Nat→Prop}
theorem ints_lit {ns:List Int} (e:ns.length≤1000) (d:∀b2 w',b2=w.heap.size→Ext w w'→Ints (· =b2) w' (.slice (some ⟨b2,0,none⟩) ns.length ns.length) ns→K (.slice (some ⟨b2,0,none⟩) ns.length ns.length) w'):vbuildS PP zg ns.length ((ns.map fun x=>Value.int .i64 x).zipIdx.map fun p=>(p.2,p.1)) w K:=by
 have:=vbuildS_row1 (w:=w) (K:=K) (t:=zg) (xs:=ns.map fun x=>Value.int .i64 x) ju qR jS (fun x f=>by obtain⟨y,_,rfl⟩:=List.mem_map.1 f;rfl) (by simp;omega) fun b2 w' a b g c=>by
  rw[List.length_map]
  exact d b2 w' a b (c.sl1 (by simp) (by omega))
 rwa[List.length_map] at this
theorem l2Bent_spec {b p:Nat} {v tv:Value} {xs:List Nat} {t:M.Tm} (h:RdR F w b v xs p) (hF:∀x,F x→x<w.heap.size) (ht:TermR G w tv t) (hG:∀x,G x→x≠b) (L:∀x,G x→x<w.heap.size) (hp:p+10<1099511627776) (c9:t.ks.length≤1000)
  (hK:∀w' p' bd t',Same (· =b) w w'→RdR F w' b v xs p'→p'≤p+10→TermR (fun x=>G x∨w.heap.size≤x) w' bd t'→t'.ks.length≤t.ks.length+1→K bd w'):vcall PP kc #[.pointer (some ⟨b,0,none⟩),tv] w K:=by
 apply qI0
 have lb:=h.blk.lt
 obtain⟨kv,rfl,ax⟩:=ht
 refine zD fun b1 w1 c3 ar c6 h1=>?_
 refine zF yR fun b2 Y c4 ab c7 h2=>?_
 have q2:=h1.ext ab
 refine vbuildS_row (xs:=[]) (us:=[]) (k:=5) QN Vd yR rfl (by simp) (by decide) fun b3 w3 c5 a8 c8 h3=>?_
 have br:Own PP 0 5 zl w3 (.slice (some ⟨b3,0,none⟩) 0 0) []:=Blk.ownk (css:=[]) (by rw[Qk];exact h3) (by simp) rfl (by decide)
 have q3:=q2.ext a8
 have r3:=h2.ext a8
 have Z:=(ar.trans ab).trans a8
 have ay:=ax.ext Z
 have bf:=h.ext Z
 have ca:=ar.size
 have cb:=ab.size
 have cc:=a8.size
 simp(disch:=(simp only[push_cast];done)) only[push_cast,q3.ld4]
 obtain⟨css,bt,ap,ao⟩:=ay
 have P:∀y,y∈css→∀c,c∈y→c.oneCell'=true:=fun y hy c R=>by
  obtain⟨i,hi,rfl⟩:=List.getElem_of_mem hy
  have hq:=ao i (by omega)
  rw[List.getD_eq_getElem?_getD,List.getElem?_eq_getElem hi] at hq
  obtain⟨c0,he,ad⟩:=hq.inv
  obtain⟨am,al,_⟩:=ad
  rw[show css[i]=(some css[i]).getD [] from rfl,he] at R
  simp only[List.mem_cons,List.not_mem_nil,or_false] at R
  rcases R with rfl|rfl|rfl|rfl|rfl
  ·rfl
  ·rfl
  ·rfl
  ·rfl
  ·exact al.one
 refine vappend (F:=G) Jj (by decide) br bt P (Nat.zero_le _) (by simp;omega) (by simp;omega) fun ov w4 ag bb bo=>?_
 replace ag:Own PP 0 5 zl w4 ov css:=ag
 have cd:=bb.size
 have A:Same (· =b3) w3 w4:=bb.mono fun x _ d=>(Option.some.inj d).symm
 have hn:∀x,ov.ownBlock=some x→Y.heap.size≤x:=fun x d=>by
  rcases bo x d with d|d
  ·have e:x=b3:=(Option.some.inj d).symm;omega
  ·omega
 have b6:Same (· =b) w w4:=same_new (Same.of_ext Z) A (by omega)
 have bg:RdR F w4 b v xs p:=bf.new A (by omega) fun x d e=>by have:=hF x d;omega
 have q4:=q3.same A (by omega)
 have r4:=r3.same A (by omega)
 have az:TmsR G w4 kv t.ks:=(ax.ext Z).same A fun x d _ e=>by have:=L x d;omega
 refine pick_spec bg (by omega) (by omega) fun w5 c Q ce B _ _=>?_
 have q5:=q4.same Q (by omega)
 have r5:=r4.same Q (by omega)
 have z:TmsR G w5 kv t.ks:=az.same Q fun x d _ e=>hG x d e
 have n:=b6.trans Q
 have b0:Own PP 0 5 zl w5 ov css:=ag.same Q fun x d e=>by have:=hn x d;omega
 have c1:=n.size
 have S:∀{q:World} {p6:Nat} {cs:List Value} {t':M.Tm},t'.ks.length≤t.ks.length+1→Same (· =b) w q→RdR F q b v xs p6→p6≤p+10→Blk q b1 cs za→Blk q b2 YU0 za→TmR (fun x=>G x∨Y.heap.size≤x) q cs t'→
   zf PP za (.pointer (some ⟨b1,0,none⟩)) q fun t56 V=>zt PP za (.pointer (some ⟨b2,0,none⟩)) t56 V fun _ W=>vlv PP za (.pointer (some ⟨b2,0,none⟩)) W fun r4 X=>K r4 X:=by
  intro q p6 cs t' hl hs hR aj hq hr R
  rw[hq.ldAgg (t:=za) (by rw[xX R];exact zI)]
  refine kc0 hr rfl R (fun x d e=>by rcases d with d|d<;>first|(have:=L x d;omega)|omega) fun H E bc bu=>?_
  exact hK H p6 _ t' (same_new hs E (by omega)) (hR.new E (by omega) fun x d e=>by have:=hF x d;omega) aj (bu.weaken fun x d _=>d.imp id fun h=>by omega) hl
 have J:∀{q:World} {p6:Nat} {i:Nat} {x:Value} {e:TypeId} {t':M.Tm} {cs':List Value},t'.ks.length≤t.ks.length+1→Same (· =b) w q→RdR F q b v xs p6→p6≤p+10→Blk q b1 [.int .i64 t.op,.int .i64 t.a,.int .i64 t.b,.string t.s,kv] za→Blk q b2 YU0 za→x.cells= #[x]→x.oneCell'=true→jv PP e 1=true→i<5→
   [.int .i64 t.op,.int .i64 t.a,.int .i64 t.b,.string t.s,kv].set i x=cs'→(∀H,Same (· =b1) q H→TmR (fun x=>G x∨Y.heap.size≤x) H cs' t')→
   zt PP e (.pointer (some ⟨b1,i,none⟩)) x q fun _ be=>zf PP za (.pointer (some ⟨b1,0,none⟩)) be fun t56 V=>zt PP za (.pointer (some ⟨b2,0,none⟩)) t56 V fun _ W=>vlv PP za (.pointer (some ⟨b2,0,none⟩)) W fun r4 X=>K r4 X:=by
  intro q p6 i x e t' cs' hl hs hR aj hq hr bw bx hz hi b9 R
  refine hq.st bw bx hz (by simp[Nat.blt_eq];omega) fun H E bc b4=>?_
  rw[b9] at b4
  exact S hl (same_new hs E (by omega)) (hR.new E (by omega) fun x d e=>by have:=hF x d;omega) aj b4 (hr.same E (by omega)) (R H E)
 have D:∀{q H:World},TmsR G q kv t.ks→Same (· =b1) q H→TmsR (fun x=>G x∨Y.heap.size≤x) H kv t.ks:=fun hk hs=>(hk.same hs fun x d _ e=>by have:=L x d;omega).weaken fun x d _=> .inl d
 simp only[push_cast]
 refine zh (fun a0=>?_) (fun a0=>?_)
 ·refine num_lit (ns:=[0,18,28,3,16,25]) B (by simp) (by decide) (by omega) fun q m N a6 hm=>?_
  try simp only[push_cast]
  exact J (t':= .mk m t.a t.b t.s t.ks) (Nat.le_succ _) (n.trans N) a6 (by omega) (q5.same N (by omega)) (r5.same N (by omega)) rfl rfl qR (by omega) rfl fun H E=>TmR.of (t:= .mk m t.a t.b t.s t.ks) (D (z.same N fun x d _ e=>hG x d e) E)
 refine zh (fun a1=>?_) (fun a1=>?_)
 ·refine zx fun q f _=>?_
  have q6:=q5.ext f
  simp(disch:=(simp only[push_cast];done)) only[push_cast,q6.ld1,true_and]
  refine ints_lit (ns:=[1,-1]) (by decide) fun b7 H bi g ac=>?_
  have q7:=q6.ext g
  simp(disch:=(simp only[push_cast];done)) only[push_cast,q7.ld1,true_and,and_self]
  have af:=(B.ext f).blk.lt
  refine num_spec ((B.ext f).ext g) ac (by simp) (by decide) (by omega) (fun x d e=>by subst d;omega) fun w8 m j _ aa hm=>?_
  have q8:=q7.same j (by omega)
  simp(disch:=(simp only[push_cast];done)) only[push_cast,q8.ld1,true_and,and_self]
  have T:=((n.trans (Same.of_ext f)).trans (Same.of_ext g)).trans j
  exact J (t':= .mk t.op (IntKind.i64.wrap (t.a+m)) t.b t.s t.ks) (Nat.le_succ _) T aa (by omega) q8 (((r5.ext f).ext g).same j (by omega)) rfl rfl qR (by omega) rfl fun w9 O=>TmR.of (t:= .mk t.op (IntKind.i64.wrap (t.a+m)) t.b t.s t.ks) (D (((z.ext f).ext g).same j fun x d _ e=>hG x d e) O)
 refine zh (fun a2=>?_) (fun a2=>?_)
 ·refine zx fun q f _=>?_
  have q6:=q5.ext f
  simp(disch:=(simp only[push_cast];done)) only[push_cast,q6.ld2,true_and]
  refine ints_lit (ns:=[1,-1,16]) (by decide) fun b7 H bi g ac=>?_
  have q7:=q6.ext g
  simp(disch:=(simp only[push_cast];done)) only[push_cast,q7.ld2,true_and,and_self]
  have af:=(B.ext f).blk.lt
  refine num_spec ((B.ext f).ext g) ac (by simp) (by decide) (by omega) (fun x d e=>by subst d;omega) fun w8 m j _ aa hm=>?_
  have q8:=q7.same j (by omega)
  simp(disch:=(simp only[push_cast];done)) only[push_cast,q8.ld2,true_and,and_self]
  have T:=((n.trans (Same.of_ext f)).trans (Same.of_ext g)).trans j
  exact J (t':= .mk t.op t.a (IntKind.i64.wrap (t.b+m)) t.s t.ks) (Nat.le_succ _) T aa (by omega) q8 (((r5.ext f).ext g).same j (by omega)) rfl rfl qR (by omega) rfl fun w9 O=>TmR.of (t:= .mk t.op t.a (IntKind.i64.wrap (t.b+m)) t.s t.ks) (D (((z.ext f).ext g).same j fun x d _ e=>hG x d e) O)
 refine zh (fun a3=>?_) (fun a3=>?_)
 ·exact J (t':= .mk t.op t.a t.b ⟨#[113]⟩ t.ks) (Nat.le_succ _) n B (by omega) q5 r5 rfl rfl xN0 (by omega) rfl fun w9 O=>TmR.of (t:= .mk t.op t.a t.b ⟨#[113]⟩ t.ks) (D z O)
 refine zh (fun a4=>?_) (fun a4=>?_)
 ·refine Za0 (G:=fun _=>False) (t0:= .mk 24 0 0 ⟨#[]⟩ []) (TmR.term (Y40 24 0 0 _)) fun q sa f bz bl=>?_
  obtain⟨I,ba,aq,a9⟩:=bl
  have ai:∀y,y∈I→∀c,c∈y→c.oneCell'=true:=fun y hy c R=>by
   obtain⟨i,hi,rfl⟩:=List.getElem_of_mem hy
   have hq:=a9 i (by omega)
   rw[List.getD_eq_getElem?_getD,List.getElem?_eq_getElem hi] at hq
   obtain⟨c0,he,ad⟩:=hq.inv
   obtain⟨am,al,_⟩:=ad
   rw[show I[i]=(some I[i]).getD [] from rfl,he] at R
   simp only[List.mem_cons,List.not_mem_nil,or_false] at R
   rcases R with rfl|rfl|rfl|rfl|rfl
   ·rfl
   ·rfl
   ·rfl
   ·rfl
   ·exact al.one
  have bm:I.length=1:=aq
  refine vappend Jj (by decide) (b0.ext f) ba ai (Nat.zero_le _) (by omega) (by omega) fun U H ah r bp=>?_
  have o:=n.trans (Same.of_ext f)
  have c2:=o.size
  have b8:Same (· =b) w H:=⟨r.os.trans o.os,r.tape.trans o.tape,r.output.trans o.output,Nat.le_trans o.size r.size,fun y hy bq=>by
   rw[r.block y (Nat.lt_of_lt_of_le hy o.size) (fun e=>by have:=hn y e;omega)];exact o.block y hy bq⟩
  have bh:RdR F H b v xs _:=(B.ext f).same r (fun e=>by have:=hn b e;omega) fun y hy _ e=>by have:=hn y e;have:=hF y hy;omega
  have q7:=(q5.ext f).same r (fun e=>by have:=hn b1 e;omega)
  have r7:=(r5.ext f).same r (fun e=>by have:=hn b2 e;omega)
  have bn:∀x,U.ownBlock=some x→Y.heap.size≤x:=fun x d=>by
   rcases bp x d with d|d
   ·exact hn x d
   ·omega
  have ae:TmsR (fun x=>G x∨Y.heap.size≤x) H U (t.ks++[.mk 24 0 0 ⟨#[]⟩ []]):=by
   refine⟨css++I,ah.sl.weaken fun x d _=> .inr (bn x d),by rw[List.length_append,List.length_append,ap,bm];rfl,fun i hi=>?_⟩
   rw[List.length_append] at hi
   by_cases au:i<t.ks.length
   ·rw[List.getD_eq_getElem?_getD,List.getElem?_append_left (by omega),←List.getD_eq_getElem?_getD,List.getD_eq_getElem?_getD (l:=t.ks++_),List.getElem?_append_left au,←List.getD_eq_getElem?_getD]
    exact(((((ao i au).same A fun x d _ e=>by have:=L x d;omega).same Q fun x d _ e=>hG x d e).ext f).same r fun x d _ e=>by have:=hn x e;have:=L x d;omega).weaken fun x d _=> .inl d
   ·have bk:i=t.ks.length:=by simp at hi;omega
    subst bk
    rw[List.getD_eq_getElem?_getD,List.getElem?_append_right (by omega),←List.getD_eq_getElem?_getD,ap,Nat.sub_self,List.getD_eq_getElem?_getD (l:=t.ks++_),List.getElem?_append_right (by omega),Nat.sub_self]
    have bv:=a9 0 (by simp)
    obtain⟨cg,bj,aw⟩:=bv.inv
    rw[bj]
    exact TmR.of (t:= .mk 24 0 0 ⟨#[]⟩ []) ((aw.same r fun x d hl e=>by
     rcases d with d|d
     ·exact d.elim
     ·have:=b0.lt e
      omega).weaken fun x d _=>by
     rcases d with d|d
     ·exact d.elim
     ·right;omega)
  have P:U.cells= #[U]∧U.oneCell'=true:=⟨ah.sl.cells1,ah.sl.one⟩
  try simp only[push_cast]
  exact J (t':= .mk t.op t.a t.b t.s (t.ks++[.mk 24 0 0 ⟨#[]⟩ []])) (by show(t.ks++[_]).length≤_;rw[List.length_append];exact Nat.le_refl _) b8 bh (by omega) q7 r7 P.1 P.2 j10 (by omega) rfl fun w9 O=>TmR.of (t:= .mk t.op t.a t.b t.s (t.ks++[.mk 24 0 0 ⟨#[]⟩ []])) (ae.same O fun x d _ e=>by
   rcases d with d|d
   ·have:=L x d;omega
   ·omega)
 refine zh (fun a5=>?_) (fun a5=>?_)
 ·refine vloop_up 7 (fun i u w'=> ∃cs t',u=[.int .i64 i]∧Same (· =b) w w'∧RdR F w' b v xs (p+1)∧Blk w' b1 cs za∧Blk w' b2 YU0 za∧TmR (fun x=>G x∨Y.heap.size≤x) w' cs t'∧Y.heap.size≤w'.heap.size∧t'.ks.length≤t.ks.length+1) ⟨_,t,rfl,n,B,q5,r5,TmR.of (z.weaken fun x d _=> .inl d),by omega,by omega⟩ ?_
  rintro i _ _ q C hi ⟨cs,t',rfl,N,a6,ak,b5,a7,bz,af⟩ hC
  simp only[push_cast]
  refine zh (fun c=>?_) (fun c=>?_)
  ·rw[ak.ldAgg (t:=za) (by rw[xX a7];exact zI)]
   refine Za0 a7.term fun H sa g bc ae=>?_
   simp only[push_cast]
   have av:TmsR (fun x=>G x∨Y.heap.size≤x) H (.slice sa 1 1) [t']:=ae.weaken fun x d _=>by
    rcases d with d|d
    ·exact d
    ·right;omega
   have an:TmR (fun x=>G x∨Y.heap.size≤x) H [.int .i64 25,.int .i64 0,.int .i64 0,.string ⟨#[]⟩,.slice sa 1 1] (.mk 25 0 0 ⟨#[]⟩ [t']):=TmR.of (t:= .mk 25 0 0 ⟨#[]⟩ [t']) av
   refine stTerm (ak.ext g) (xX a7) an fun w8 j cf bs=>?_
   try simp only[push_cast]
   rw[inc64' (by omega)]
   refine hC (by omega) _ _ ⟨_,_,rfl,same_new (N.trans (Same.of_ext g)) j (by omega),(a6.ext g).new j (by omega) fun x d e=>by have:=hF x d;omega,bs,(b5.ext g).same j (by omega),an.same j fun x d _ e=>by
    rcases d with d|d
    ·have:=L x d;omega
    ·omega,by omega,by show 1≤_;omega⟩
  ·exact S af N a6 (by omega) ak b5 a7
 ·exact S (Nat.le_succ _) n B (by omega) q5 r5 (TmR.of (t:=t) (z.weaken fun x d _=> .inl d))
end Go.Proofs.YtaekfnbnhjgboaaGreatDoor
end
section
namespace Go.Proofs.YtaekfnbnhjgboaaGreatDoor
open Go Go.Vc Go.Proofs
variable {w:World} {K:Value→World→Prop} {F F' D G:Nat→Prop}
theorem Bytes.below {v:Value} {xs:List Nat} (h:Bytes F w v xs):Bytes (fun b=>b<w.heap.size) w v xs:=⟨h.1.weaken fun _ _ a=>a,h.2⟩
theorem J40 {ds:List M.Dcl} {t:M.Tm} {env:List Int} (he:M.envOk ds env=true) (hs:M.sortM ds t≠ -1) (a:M.fits t=true):M.tok ds t env=true:=by
 unfold M.tok M.tsort
 rw[if_pos ⟨a,(M.env_ok he).1⟩,he,decide_eq_true hs];rfl
end Go.Proofs.YtaekfnbnhjgboaaGreatDoor
end
section
namespace Go.Proofs.YtaekfnbnhjgboaaGreatDoor
open Go Go.Vc Go.Proofs
variable {w:World} {K:Value→World→Prop} {F F' D G:Nat→Prop}
theorem flatten_setEl {k:Nat}:∀{xs:List (List Value)} (_:∀x,x∈xs→x.length=k) {i:Nat} {y:List Value},y.length=k→i<xs.length→(xs.set i y).flatten=xs.flatten.take (i*k)++y++xs.flatten.drop (i*k+k)
 |[],_,i,y,_,hi=>by simp at hi
 |x::r,h,i,y,c,hi=>by
  have e:=h x List.mem_cons_self
  cases i with
  |zero=>
   simp only[List.set_cons_zero,List.flatten_cons,Nat.zero_mul,List.take_zero,List.nil_append,Nat.zero_add]
   rw[List.drop_append,List.drop_of_length_le (by omega),List.nil_append,show k-x.length=0 by omega,List.drop_zero]
  |succ i=>
   simp only[List.set_cons_succ,List.flatten_cons]
   have a:(i+1)*k=x.length+i*k:=by rw[Nat.add_mul];omega
   have b:x.length+i*k+k=x.length+(i*k+k):=by omega
   rw[flatten_setEl (fun z d=>h z (List.mem_cons_of_mem _ d)) c (by simpa using hi),a,b,List.take_length_add_append,List.drop_length_add_append]
   simp only[List.append_assoc]
theorem own_stEl {P:Program} {v:Value} {k:Nat} {t e:TypeId} {xs:List (List Value)} {y:List Value} (h:Own P 0 k t w v xs) (J:0<k) (n:y.length=k) (B:∀c,c∈y→c.oneCell'=true) (u:aggB P e k=true) {i:Nat} (hi:i<xs.length)
  (C:∀w',Own P 0 k t w' v (xs.set i y)→Same (fun b=>v.ownBlock=some b) w w'→w'.heap.size=w.heap.size→K undef w'):zt P e (.pointer (some (eaddr v k i))) (.agg ⟨y⟩) w K:=by
 have E:=flatten_len h.wide
 rcases h.row with⟨H,s⟩
 rcases s with⟨rfl,L⟩|⟨g,cap,cur,rfl,o,x,j,p,r,f⟩
 ·omega
 ·have F:i*k+k≤xs.length*k:=by rw[←Nat.succ_mul];exact Nat.mul_le_mul_right _ hi
  have G:xs.length*k≤cap*k:=Nat.mul_le_mul_right _ j
  have d:=run_storeCells_at (P:=P) g (i*k) (Vu P t) y 0 cur w x (by omega) B
  have he:eaddr (.slice (some ⟨g,0,none⟩) xs.length cap) k i=⟨g,i*k,none⟩:=by
   simp only[eaddr,Nat.zero_add]
  rw[he]
  have D:cur.toList.length=cap*k:=by simpa using r
  have m:(cur.toList.take (i*k+0)++y++cur.toList.drop (i*k+0+y.length)).toArray.size=cap*k:=by
   simp only[List.size_toArray,List.length_append,List.length_take,List.length_drop]
   omega
  have a:(cur.toList.take (i*k+0)++y++cur.toList.drop (i*k+0+y.length)).toArray.toList.take (xs.length*k)=(xs.set i y).flatten:=by
   rw[flatten_setEl h.wide n hi,←f,n]
   simp only[Nat.add_zero]
   have I:(cur.toList.take (i*k)).length=i*k:=by rw[List.length_take];omega
   rw[List.take_append,List.take_append,List.take_of_length_le (l:=List.take (i*k) cur.toList) (by omega),List.take_of_length_le (l:=y) (by omega),List.take_take,Nat.min_eq_left (by omega),List.drop_take]
   congr 2
   rw[List.length_append,List.length_take]
   omega
  refine⟨(),_,?_,C (w.setRow g (cur.toList.take (i*k+0)++y++cur.toList.drop (i*k+0+y.length)).toArray) ⟨?_,?_⟩ ⟨rfl,rfl,rfl,by simp,fun q _ A=>setRow_other w g q _ (fun e=>A (by rw[e];rfl))⟩ (by simp)⟩
  ·simp only[Instr.storeAt,Instr.sureAddr,Sem.run_bind,Sem.run_pure,Result.andThen_ok,storeVar,X2 u,Value.cells]
   simp only[List.size_toArray,n,ne_eq,not_true_eq_false,if_false]
   rw[n] at d
   exact d
  ·rw[List.length_set]
   refine⟨?_,.inr ⟨g,cap,_,rfl,o,setRow_heap w g _ _ _ _ x,j,p,m,a⟩⟩
   rw[←a,List.length_take]
   have:=m
   simp only[List.size_toArray] at this
   simp only[List.toList_toArray,this]
   omega
  ·intro z u
   obtain⟨q,A,rfl⟩:=List.getElem_of_mem u
   rw[List.getElem_set]
   split
   ·exact n
   ·exact h.wide _ (List.getElem_mem _)
end Go.Proofs.YtaekfnbnhjgboaaGreatDoor
end
section
namespace Go.Proofs.YtaekfnbnhjgboaaGreatDoor
open Go Go.Vc Go.Proofs
variable {w:World} {K:Value→World→Prop} {F F' D G:Nat→Prop}
theorem l8Some_spec {b p:Nat} {v dv:Value} {xs:List Nat} {ds:List M.Dcl} {sort:Int} (h:RdR F w b v xs p) (hF:∀x,F x→x<w.heap.size) (hd:DclsR D w dv ds) (hD:∀x,D x→x≠b) (hD1:∀x,D x→x<w.heap.size) (m:Dok ds) (B:0≤sort) (E:sort≤4)
  (hp:p+200000<1099511627776) (T:kw0 K F w b p 200000 v xs):vcall PP XY #[.pointer (some ⟨b,0,none⟩),dv,.int .i64 sort] w K:=by
 apply qr0
 refine Dw.begin h hF hd hD hD1 fun w1 Z=>?_
 have H:zq0 4=25600:=rfl
 refine vloop_up 3 (fun i u w'=> ∃W,u=[.int .i64 (3-(i:Int))]∧Dw F D w b w.heap.size v dv xs ds w' W∧W≤p+25600*i) ⟨p,rfl,Z,by omega⟩ ?_
 rintro i _ _ w2 C hi ⟨p2,rfl,f,a1⟩ hC
 have hold:=f.old
 have U:=f.new
 simp only[push_cast]
 refine zh (fun a=>?_) (fun a=>?_)
 ·refine f.sub (c:=zq0 4) (fun Y J=>l2Term_spec 4 (by omega) f.rd (fun x n=>Nat.lt_of_lt_of_le (hF x n) f.same.size) f.dcl hD (fun x n=>Nat.lt_of_lt_of_le (hD1 x n) f.same.size) m B E (by omega) (by omega) (by omega) J) fun Q X tv t G N L O l=>?_
  obtain⟨cs,rfl,d⟩:=O.cells
  have r:=d.weaken (F':=fun x=>Nw w.heap.size x∧x<Q.heap.size) fun x n hl=>⟨n,hl⟩
  refine zF yR fun b2 w4 a0 s V h4=>?_
  refine stTerm h4 rfl (r.ext s) fun w5 P _ R=>?_
  have z:Ext Q w5:=Ext.then s P fun y hy=>by subst hy;omega
  have I:aggB PP za cs.length=true:=by rw[xX d];exact zI
  rw[R.ldAgg (t:=za) I]
  refine spec_TermMany_spec t (d.ext z).term fun w6 A=>?_
  have g:=z.trans A
  have o:=G.ext g
  have S:=R.ext A
  simp only[push_cast]
  rw[S.ldAgg (t:=za) I]
  refine spec_TermSort_spec (dok_sized m) o.dcl (d.ext g).term fun w7 k=>?_
  have q:=o.ext k
  have h7:=S.ext k
  have j:C [.int .i64 (IntKind.i64.wrap (3-(i:Int)-1))] w7:=by
   rw[zy (by omega) (by omega),show 3-(i:Int)-1=3-((i+1:Nat):Int) by omega]
   exact hC (by omega) _ _ ⟨X,rfl,q,by omega⟩
  simp only[push_cast]
  refine zh (fun c=>?_) (fun c=>?_)
  ·refine zh (fun e=>?_) (fun e=>?_)
   ·rw[h7.ldAgg (t:=za) I]
    exact q.fin (p0:=p) (by omega) ((d.ext g).ext k) l T
   ·exact j
  ·exact j
 ·refine f.sub (c:=100) (fun Y J=>l2Leafy_spec f.rd (fun x n=>Nat.lt_of_lt_of_le (hF x n) f.same.size) f.dcl hD m B E (by omega) J) fun Q X tv t G N L O l=>?_
  obtain⟨cs,rfl,d⟩:=O.cells
  exact G.fin (p0:=p) (by omega) d l T
theorem one_tms {ks:List M.Tm} {css:List (List Value)} (k:css.length=ks.length) (h:∀i,i<ks.length→TmR G w (css.getD i []) (ks.getD i default)):∀y,y∈css→∀c,c∈y→c.oneCell'=true:=fun y g c a=>by
 obtain⟨i,hi,rfl⟩:=List.getElem_of_mem g
 have f:=h i (by omega)
 rw[List.getD_eq_getElem?_getD,List.getElem?_eq_getElem hi] at f
 obtain⟨j,he,b⟩:=f.inv
 obtain⟨e,d,_⟩:=b
 rw[show css[i]=(some css[i]).getD [] from rfl,he] at a
 simp only[List.mem_cons,List.not_mem_nil,or_false] at a
 rcases a with rfl|rfl|rfl|rfl|rfl
 ·rfl
 ·rfl
 ·rfl
 ·rfl
 ·exact d.one
abbrev Gl (n:Nat) (w:World) (lv:Value) (x:Nat):Prop:=n≤x∧x<w.heap.size∧lv.ownBlock≠some x
def LstT (n:Nat) (w:World) (lv:Value) (ts:List M.Tm):Prop:= ∃css,Own PP 0 5 zl w lv css∧css.length=ts.length∧(∀x,lv.ownBlock=some x→n≤x)∧∀i,i<ts.length→TmR (Gl n w lv) w (css.getD i []) (ts.getD i default)
theorem LstT.nil {n b:Nat} (h:Blk w b [] za) (c:n≤b):LstT n w (.slice (some ⟨b,0,none⟩) 0 0) []:=
 ⟨[],Blk.ownk (css:=[]) (by rw[Qk];exact h) (by simp) rfl (by decide),rfl,fun x a=>by have e:x=b:=(Option.some.inj a).symm;omega,fun i hi=>by simp at hi⟩
theorem LstT.same {n:Nat} {lv:Value} {ts:List M.Tm} {S:Nat→Prop} {w':World} (h:LstT n w lv ts) (hs:Same S w w') (c:∀x,S x→x<n∨w.heap.size≤x):LstT n w' lv ts:=by
 obtain⟨css,f,g,d,hi⟩:=h
 have j:=hs.size
 refine⟨css,f.same hs fun x a e=>?_,g,d,fun i b=>((hi i b).same hs fun x a _ e=>?_).weaken fun x a _=>⟨a.1,by have:=a.2.1;omega,a.2.2⟩⟩
 ·have:=d x a;have:=f.lt a;rcases c x e with h|h<;>omega
 ·have:=a.1;have:=a.2.1;rcases c x e with h|h<;>omega
theorem LstT.tms {n:Nat} {lv:Value} {ts:List M.Tm} (h:LstT n w lv ts):TmsR (fun x=>n≤x) w lv ts:=by
 obtain⟨css,e,c,d,hi⟩:=h
 exact⟨css,e.sl.weaken fun x b _=>d x b,c,fun i a=>(hi i a).weaken fun x b _=>b.1⟩
theorem LstT.push {n:Nat} {lv tv:Value} {ts:List M.Tm} {t:M.Tm} (h:LstT n w lv ts) (O:n≤w.heap.size) (J:TermR (Gl n w lv) w tv t) (I:ts.length≤100)
  (H:∀w' c,Same (fun x=>n≤x) w w'→(∀x,x<w.heap.size→lv.ownBlock≠some x→w'.heap[x]?=w.heap[x]?)→LstT n w' c (ts++[t])→K c w'):
  vbuildS PP zl 1 [(0,tv)] w fun s C=>vbi PP .append [zl,zl] zl [lv,s] C K:=by
 obtain⟨css,F,E,k,hi⟩:=h
 refine Za0 J fun C sa d L v=>?_
 obtain⟨f,u,j,g⟩:=v
 have y:f.length=1:=j
 refine vappend Jj (by decide) (F.ext d) u (one_tms j g) (Nat.zero_le _) (by omega) (by omega) fun c G A b r=>?_
 have N:=b.size
 have m:∀x,lv.ownBlock=some x→x<w.heap.size:=fun x a=>(F.lt a).2
 have D:∀x,(Gl n w lv x∨x=w.heap.size)→lv.ownBlock≠some x:=fun x a e=>by
  rcases a with a|a
  ·exact a.2.2 e
  ·have:=m x e;omega
 have o:∀x,(Gl n w lv x∨x=w.heap.size)→Gl n G c x:=fun x a=>by
  have B:n≤x∧x<C.heap.size:=by
   rcases a with a|a
   ·exact⟨a.1,by have:=a.2.1;omega⟩
   ·omega
  refine⟨B.1,by omega,fun e=>?_⟩
  rcases r x e with h|h
  ·exact D x a h
  ·omega
 refine H G c (((Same.of_ext d).trans (b.mono fun x _ a=>k x a))) (fun x a z=>?_) ⟨css++f,A,by simp[E,y],fun x a=>?_,fun i p=>?_⟩
 ·rw[b.block x (by omega) z,d.block x a (fun h=>h)]
 ·rcases r x a with h|h
  ·exact k x h
  ·omega
 ·rw[List.length_append] at p
  by_cases q:i<ts.length
  ·rw[List.getD_eq_getElem?_getD,List.getElem?_append_left (by omega),←List.getD_eq_getElem?_getD,List.getD_eq_getElem?_getD (l:=ts++[t]),List.getElem?_append_left q,←List.getD_eq_getElem?_getD]
   exact(((hi i q).ext d).same b fun x a _ e=>a.2.2 e).weaken fun x a _=>o x (.inl a)
  ·have e:i=ts.length:=by simp at p;omega
   subst e
   rw[List.getD_eq_getElem?_getD,List.getElem?_append_right (by omega),E,Nat.sub_self,←List.getD_eq_getElem?_getD,List.getD_eq_getElem?_getD (l:=ts++[t]),List.getElem?_append_right (by omega),Nat.sub_self,←List.getD_eq_getElem?_getD]
   exact((g 0 (by simp)).same b fun x a _ e=>D x a e).weaken fun x a _=>o x a
theorem same_news {b:Nat} {f g:World} (h:Same (· =b) w f) (a:Same (fun x=>w.heap.size≤x) f g):Same (· =b) w g:=
 ⟨a.os.trans h.os,a.tape.trans h.tape,a.output.trans h.output,Nat.le_trans h.size a.size,fun y d c=>by
  rw[a.block y (Nat.lt_of_lt_of_le d h.size) (fun e=>by omega)];exact h.block y d c⟩
theorem cost_step {p a b i c:Nat} (d:a≤p+101+c*i) (e:b≤a+c):b≤p+101+c*(i+1):=by
 rw[Nat.mul_succ];omega
theorem l8List_spec {b p:Nat} {v:Value} {xs:List Nat} (h:RdR F w b v xs p) (hF:∀x,F x→x<w.heap.size) (hp:p+3000000<1099511627776)
  (hK:∀w' p' dv lv ds ts,Same (· =b) w w'→RdR F w' b v xs p'→p'≤p+3000000→DclsR (fun x=>w.heap.size≤x) w' dv ds→Dsn 8 ds→TmsR (fun x=>w.heap.size≤x) w' lv ts→ts.length≤9→K (.tuple #[dv,lv]) w'):vcall PP Q0 #[.pointer (some ⟨b,0,none⟩)] w K:=by
 apply qt0
 have lb:=h.blk.lt
 refine l2Decls_spec3 h hF (by omega) fun q p1 dv ds ai au bv az D bo ah=>?_
 have bz:=ai.size
 have b4:Dsn 8 ds:=⟨by have:=D.1;omega,(dok_dsn D).2⟩
 have a9:=az.weaken (F':=fun x=>w.heap.size≤x∧x<q.heap.size) fun x d B=>⟨d,B⟩
 have hlen:=D.1
 refine vbuildS_row (xs:=[]) (us:=[]) (k:=5) QN Vd yR rfl (by simp) (by decide) fun b2 w2 bm Q bw h2=>?_
 have c0:=Q.size
 have l2:LstT q.heap.size w2 (.slice (some ⟨b2,0,none⟩) 0 0) []:=LstT.nil h2 (by omega)
 refine ints_lit (ns:=[1,2,3,4,2,0,8]) (by decide) fun b3 w3 bn N b5=>?_
 have c1:=N.size
 refine num_spec ((au.ext Q).ext N) b5 (by simp) (by decide) (by omega) (fun x d e=>by subst d;omega) fun w4 m a4 c2 av hm=>?_
 obtain⟨m,rfl,bs⟩:∃m':Nat,m=m'∧m'≤8:=⟨m.toNat,by
  simp only[List.mem_cons,List.not_mem_nil,or_false] at hm
  omega,by
  simp only[List.mem_cons,List.not_mem_nil,or_false] at hm
  omega⟩
 clear hm
 have am:Same (· =b) q w4:=((Same.of_ext Q).trans (Same.of_ext N)).trans a4
 have l4:LstT q.heap.size w4 (.slice (some ⟨b2,0,none⟩) 0 0) []:=(l2.same (Same.of_ext N) fun x (d:False)=>d.elim).same a4 fun x d=> .inl (by omega)
 have d4:=((a9.ext Q).ext N).same a4 fun x d _ e=>by omega
 refine vloop_up m (fun i u w'=> ∃lv ts p',u=[lv,.int .i64 ((m-i:Nat):Int)]∧Same (· =b) w w'∧q.heap.size≤w'.heap.size∧RdR F w' b v xs p'∧p'≤p+101+200000*i∧DclsR (fun x=>w.heap.size≤x∧x<q.heap.size) w' dv ds∧LstT q.heap.size w' lv ts∧ts.length=i∧∀t,t∈ts→t.ks.length≤3)
  ⟨_,[],p1+1,rfl,ai.trans am,am.size,av,by omega,d4,l4,rfl,fun t ht=>by cases ht⟩ ?_
 rintro i _ _ w5 C hi ⟨lv,ts,p5,rfl,aj,c3,a7,ba,d5,l5,b8,ab⟩ hC
 have aq:∀x,F x→x<w5.heap.size:=fun x d=>by have:=hF x d;omega
 have hD:∀x,(w.heap.size≤x∧x<q.heap.size)→x≠b:=fun x d e=>by omega
 simp only[push_cast]
 refine zh (fun a=>?_) (fun a=>?_)
 ·have b6:i<m:=by omega
  refine l8Some_spec a7 aq d5 hD (fun x d=>by omega) D (by omega) (by omega) (by omega) fun H p6 tv t A r bb be b7=>?_
  have bf:=A.size
  have P:LstT q.heap.size H lv ts:=l5.same A fun x d=> .inl (by omega)
  have G:∀x,lv.ownBlock=some x→x<w5.heap.size:=fun x d=>by
   obtain⟨_,ho,_⟩:=l5;exact(ho.lt d).2
  refine LstT.push P (by omega) ((be.weaken (F':=fun x=>w5.heap.size≤x∧x<H.heap.size) fun x d B=>⟨d,B⟩).weaken fun x d _=>⟨by omega,d.2,fun e=>by have:=G x e;omega⟩) (by omega) fun W I f _ l7=>?_
  rw[show IntKind.i64.wrap (((m-i:Nat):Int)-1)=((m-(i+1):Nat):Int) by rw[zy (by omega) (by omega)];omega]
  have E:=f.size
  have S:p6≤p+101+200000*(i+1):=cost_step ba bb
  refine hC b6 _ _ ⟨I,ts++[t],p6,rfl,same_news (aj.trans A) (f.mono fun x _ d=>by omega),by omega,r.same f (by omega) (fun x d _ e=>by have:=hF x d;omega),S,(d5.same A fun x d _ e=>by omega).same f (fun x d _ e=>by omega),l7,by simp[b8],fun t' bd=>?_⟩
  rcases List.mem_append.1 bd with h|h
  ·exact ab t' h
  ·rw[List.mem_singleton.1 h];exact b7
 ·refine pick_spec a7 (by omega) (by omega) fun H k A bf r hk _=>?_
  have P:LstT q.heap.size H lv ts:=l5.same A fun x d=> .inl (by omega)
  have d6:=d5.same A fun x d _ e=>by omega
  have s6:=aj.trans A
  have Y:∀x,F x→x<H.heap.size:=fun x d=>by have:=hF x d;omega
  have y:∀{J:World} {p9:Nat} {al:Value} {ts9:List M.Tm},Same (· =b) w J→RdR F J b v xs p9→p9≤p+3000000→DclsR (fun x=>w.heap.size≤x∧x<q.heap.size) J dv ds→LstT q.heap.size J al ts9→ts9.length≤9→K (.tuple #[dv,al]) J:=fun hs hR ag hd B hn=>
   hK _ _ dv _ ds _ hs hR ag (hd.weaken fun x d _=>d.1) b4 (B.tms.weaken fun x d _=>by omega) hn
  have G:∀x,lv.ownBlock=some x→x<H.heap.size:=fun x d=>by
   obtain⟨_,ho,_⟩:=P;exact(ho.lt d).2
  simp only[push_cast]
  refine zh (fun a0=>?_) (fun a0=>?_)
  ·have bx:1≤(ds.getD 0 (M.nada,0)).2∧(ds.getD 0 (M.nada,0)).2≤4∧_:=D.2 0 ah
   simp(disch:=first|(simp only[push_cast];done)|omega) only[push_cast,d6.iaddr,Int.toNat_zero]
   try simp(disch:=first|(simp only[push_cast];done)|omega) only[push_cast,Int.toNat_zero,d6.load1]
   refine l2Some_spec r Y d6 hD (fun x d=>by omega) D (by omega) (by omega) (by omega) fun W p7 tv t f s S O _=>?_
   have E:=f.size
   refine LstT.push (P.same f fun x d=> .inl (by omega)) (by omega) ((O.weaken (F':=fun x=>H.heap.size≤x∧x<W.heap.size) fun x d B=>⟨d,B⟩).weaken fun x d _=>⟨by omega,d.2,fun e=>by have:=G x e;omega⟩) (by omega) fun w8 I o _ l8=>?_
   exact y (same_news (s6.trans f) (o.mono fun x _ d=>by omega)) (s.same o (by omega) (fun x d _ e=>by have:=hF x d;omega)) (by omega) ((d6.same f fun x d _ e=>by omega).same o (fun x d _ e=>by omega)) l8 (by simp;omega)
  refine zh (fun a1=>?_) (fun a1=>?_)
  ·refine l2Spoil_spec r Y d6 hD (fun x d=>by omega) D (by omega) fun W p7 bl bk f s S b0 ad=>?_
   have E:=f.size
   have aa:=b0.weaken (F':=fun x=>H.heap.size≤x∧x<W.heap.size) fun x d B=>⟨d,B⟩
   refine l2Spoil_spec2 (n:=6) s (fun x d=>by have:=hF x d;omega) aa (fun x d e=>by omega) (fun x d=>d.2) ad (by omega) (by omega) fun w8 p8 ao an o Z bc b1 ae=>?_
   have T:=o.size
   exact hK _ _ ao _ an _ ((s6.trans f).trans o) Z (by omega) (b1.weaken fun x d _=>by omega) ae (((P.same f fun x d=> .inl (by omega)).same o fun x d=> .inl (by omega)).tms.weaken fun x d _=>by omega) (by omega)
  refine zh (fun a2=>?_) (fun a2=>?_)
  ·refine vloop_up 9 (fun j u w'=> ∃I V,u=[I]∧Same (· =b) w w'∧q.heap.size≤w'.heap.size∧RdR F w' b v xs (p5+1)∧DclsR (fun x=>w.heap.size≤x∧x<q.heap.size) w' dv ds∧LstT q.heap.size w' I V∧V.length≤9∧j≤V.length) ⟨lv,ts,rfl,s6,by omega,r,d6,P,by omega,by omega⟩ ?_
   rintro j _ _ W C' hj ⟨I,V,rfl,f,E,s,d7,l7,b9,bp⟩ ap
   simp only[push_cast]
   rw[l7.tms.len UL]
   simp only[push_cast]
   refine zh (fun c=>?_) (fun c=>?_)
   ·refine LstT.push l7 (by omega) (t:= .mk 24 0 0 ⟨#[]⟩ []) (TmR.term (Y40 24 0 0 _)) (by omega) fun w8 bh o _ l8=>?_
    have T:=o.size
    exact ap (by omega) _ _ ⟨bh,_,rfl,same_news f (o.mono fun x _ d=>by omega),by omega,s.same o (by omega) (fun x d _ e=>by have:=hF x d;omega),d7.same o (fun x d _ e=>by omega),l8,by simp;omega,by simp;omega⟩
   ·exact y f s (by omega) d7 l7 (by omega)
  refine zh (fun a3=>?_) (fun a3=>?_)
  ·rw[P.tms.len UL]
   simp only[push_cast]
   refine zh (fun c=>?_) (fun c=>?_)
   ·obtain⟨css,ho,ay,af,a8⟩:=P
    have h0:0<ts.length:=by omega
    have ax:=a8 0 h0
    have bq:(ts.getD 0 default).ks.length≤3:=ab _ (by rw[List.getD_eq_getElem?_getD,List.getElem?_eq_getElem h0];exact List.getElem_mem h0)
    have eg:aggB PP za 5=true:=zI
    have gA:∀{J:World},Own PP 0 5 zl J lv css→∀{K':Value→World→Prop},K' (.pointer (some (eaddr lv 5 0))) J→zp PP zl lv (.int .i64 0) J K':=fun R K' ar=>by
     simp(disch:=first|(simp only[push_cast];done)|omega) only[push_cast,R.sl.iaddr,Int.toNat_zero]
     exact ar
    refine gA ho ?_
    rw[ho.sl.ldAgg eg (by omega)]
    have g:∀x,lv.ownBlock=some x→q.heap.size≤x∧x<H.heap.size:=fun x d=>⟨af x d,G x d⟩
    have bj:q.heap.size≤H.heap.size:=by omega
    have hA:∀{x:Nat} {m:Nat},(Gl q.heap.size H lv x∨H.heap.size≤x)→x<m→H.heap.size≤m→q.heap.size≤x∧x<m∧lv.ownBlock≠some x:=fun d hm br=>by
     rcases d with d|d
     ·exact⟨d.1,hm,d.2.2⟩
     ·exact⟨by omega,hm,fun e=>by have:=g _ e;omega⟩
    refine l2Bent_spec r Y ax.term (fun x d e=>by have:=d.1;omega) (fun x d=>d.2.1) (by omega) (by omega) fun W p7 v7 t7 f s S O b9=>?_
    have E:=f.size
    replace O:TermR (Gl q.heap.size W lv) W v7 t7:=O.weaken fun x d B=>hA d B E
    refine l2Bent_spec s (fun x d=>by have:=hF x d;omega) O (fun x d e=>by have:=d.1;omega) (fun x d=>d.2.1) (by omega) (by omega) fun w8 p8 v8 t8 o Z bc a5 bt=>?_
    have T:=o.size
    have hB:∀{x:Nat} {w w':World},H.heap.size≤w.heap.size→w.heap.size≤w'.heap.size→(Gl q.heap.size w lv x∨w.heap.size≤x)→x<w'.heap.size→Gl q.heap.size w' lv x:=fun h6 hw d hm=>by
     rcases d with d|d
     ·exact⟨d.1,hm,d.2.2⟩
     ·exact⟨by omega,hm,fun e=>by have:=g _ e;omega⟩
    replace a5:TermR (Gl q.heap.size w8 lv) w8 v8 t8:=a5.weaken fun x d B=>hB E T d B
    refine l2Bent_spec Z (fun x d=>by have:=hF x d;omega) a5 (fun x d e=>by have:=d.1;omega) (fun x d=>d.2.1) (by omega) (by omega) fun J p9 v9 t9 ak aw ag a6 bu=>?_
    have bg:=ak.size
    replace a6:TermR (Gl q.heap.size J lv) J v9 t9:=a6.weaken fun x d B=>hB (Nat.le_trans E T) bg d B
    obtain⟨X,rfl,L⟩:=a6.cells
    have U:=(f.trans o).trans ak
    have R:=ho.same U fun x d e=>by have:=g x d;omega
    refine gA R ?_
    refine own_stEl R (by omega) (xX L) (one_tms (css:=[X]) (ks:=[t9]) rfl (fun i hi=>by
     have:i=0:=by simpa using hi
     subst this;exact L) X (by simp)) eg (by omega) fun w10 ac z bi=>?_
    refine y (ts9:=ts.set 0 t9) (same_news (s6.trans U) (z.mono fun x _ d=>by have:=g x d;omega)) (aw.same z (fun e=>by have:=g _ e;omega) (fun x d _ e=>by have:=hF x d;have:=g x e;omega)) (by omega) ((d6.same U fun x d _ e=>by omega).same z (fun x d _ e=>by have:=g x e;omega)) ⟨css.set 0 X,ac,by simp[ay],af,fun i hi=>?_⟩ (by simp;omega)
    rw[List.length_set] at hi
    rw[List.getD_eq_getElem?_getD,List.getElem?_set,List.getD_eq_getElem?_getD (l:=ts.set 0 t9),List.getElem?_set]
    by_cases e0:0=i
    ·subst e0
     rw[if_pos rfl,if_pos rfl,if_pos (by omega),if_pos (by omega)]
     exact(L.same z fun x d _ e=>d.2.2 e).weaken fun x d _=>⟨d.1,by have:=d.2.1;omega,d.2.2⟩
    ·rw[if_neg e0,if_neg e0,←List.getD_eq_getElem?_getD,←List.getD_eq_getElem?_getD]
     exact(((a8 i hi).same U fun x d _ e=>by have:=d.1;omega).same z fun x d _ e=>d.2.2 e).weaken fun x d _=>⟨d.1,by have:=d.2.1;omega,d.2.2⟩
   ·exact y s6 r (by omega) d6 P (by omega)
  ·exact y s6 r (by omega) d6 P (by omega)
theorem DrawBlastCnf_spec {v:Value} {xs:List Nat} (c:Bytes F w v xs) (hF:∀b,F b→b<w.heap.size)
  (m:∀w' dv lv ds ts,Ext w w'→DclsR (fun x=>w.heap.size≤x) w' dv ds→Dsn 8 ds→TmsR (fun x=>w.heap.size≤x) w' lv ts→ts.length≤9→K (.tuple #[dv,lv]) w'):vcall PP jD #[v] w K:=by
 apply Vv
 refine l12Open_spec c hF fun t b v' ys d a p=>?_
 have s:=d.size
 have lb:=a.blk.lt
 refine l8List_spec (F:=fun x=>F x∧x<t.heap.size) ⟨a.blk,⟨a.bytes.1.weaken fun x c q=>⟨c,q⟩,a.bytes.2⟩,fun h=>a.apart h.1,a.few⟩ (fun x c=>c.2) (by omega) fun k y dv lv ds ts i n r e g j f=>?_
 simp only[push_cast]
 have o:Ext w k:=by
  have l:Same (fun x=>w.heap.size≤x) w k:=(Same.of_ext d).trans (i.mono fun x _ c=>by subst c;omega)
  exact l.mono fun x c u=>by omega
 exact m k dv lv ds ts o (e.weaken fun x c _=>by omega) g (j.weaken fun x c _=>by omega) f
end Go.Proofs.YtaekfnbnhjgboaaGreatDoor
end
section
namespace Go.Proofs.YtaekfnbnhjgboaaGreatDoor
open Go Go.Vc Go.Proofs
variable {w:World} {K:Value→World→Prop} {F F' D G:Nat→Prop}
theorem Clone_Lint {v:Value} {xs:List Int} (d:Ints F w v xs) (i:xs.length*8≤140737488355328) (j:∀w' v',Ext w w'→OwnI PP zg w' v' xs→(∀x,v'.ownBlock=some x→w.heap.size≤x)→K v' w'):
  vcall PP qx #[v] w K:=by
 apply Qm
 obtain⟨a,c,rfl,m,n,f⟩:=d.shape
 simp only[List.length_map] at d m⊢
 rw[U4 XV0]
 refine y9 (fun h=>?_) (fun h=>?_)
 ·have:xs=[]:=by
   refine Decidable.byContradiction fun g=>?_
   obtain⟨b,o,e,_⟩:=f (by simpa using g)
   subst e;cases h
  subst this
  exact j w _ (Same.refl _ _) OwnI.nil fun x d=>by cases d
 ·refine qk ju qR fun b s y he z l=>?_
  have q:=he.size
  have k:OwnI PP zg s (.slice (some ⟨b,0,none⟩) 0 0) []:=Blk.own1 (P:=PP) (t:=zg) (cs:=[]) (by rw[Qj];exact l) (Nat.zero_le _) rfl rfl (by omega)
  refine k.app (ys:=xs) jW (d.ext he) (by simp only[List.length_nil];omega) (by simpa using i) fun v' u r hs p=>?_
  refine j u v' (Ext.then he hs fun x d=>?_) r fun x d=>?_
  ·have e:b=x:=Option.some.inj d;omega
  ·rcases p x d with e|e
   ·have e:b=x:=Option.some.inj e;omega
   ·omega
end Go.Proofs.YtaekfnbnhjgboaaGreatDoor
end
section
namespace Go.M
structure Gt where
 x:Bool
 a:Int
 b:Int
deriving DecidableEq
abbrev Gs:=List Gt
def absI (a:Int):Int:=if a<0 then-a else a
def turnI (c:Bool) (a:Int):Int:=if c then-a else a
def putG (n:Nat) (gs:Gs) (g:Gt):Gs×Int:=
 if g∈gs then(gs,2+n+gs.idxOf g) else if 600≤gs.length then(gs,0) else(gs++[g],2+n+gs.length)
def gateA (a b:Int):Gt:=if absI b<absI a then⟨false,b,a⟩ else⟨false,a,b⟩
def gateX (a b:Int):Gt:=if absI b<absI a then⟨true,absI b,absI a⟩ else⟨true,absI a,absI b⟩
def andG (n:Nat) (gs:Gs) (a b:Int):Gs×Int:=
 if a= -1∨b= -1 then(gs,-1) else if a=1 then(gs,b) else if b=1 then(gs,a) else if a=b then(gs,a) else if a= -b then(gs,-1) else putG n gs (gateA a b)
def xorG (n:Nat) (gs:Gs) (a b:Int):Gs×Int:=
 if absI a=1 then(gs,turnI (decide (a=1)) b) else if absI b=1 then(gs,turnI (decide (b=1)) a) else if a=b then(gs,-1) else if a= -b then(gs,1)
 else((putG n gs (gateX a b)).1,turnI (decide (a<0) != decide (b<0)) (putG n gs (gateX a b)).2)
inductive Bd (α:Type) where
 |ret (a:α)
 |and (x y:Int) (k:Int→Bd α)
 |xor (x y:Int) (k:Int→Bd α)
namespace Bd
def bind {α β:Type}:Bd α→(α→Bd β)→Bd β
 |ret a,f=>f a
 |and x y k,f=>and x y fun v=>bind (k v) f
 |xor x y k,f=>xor x y fun v=>bind (k v) f
def map {α β:Type} (f:α→β) (p:Bd α):Bd β:=p.bind fun a=>ret (f a)
def Reach {α:Type}:Bd α→α→Prop
 |ret a,b=>b=a
 |and _ _ k,b=> ∃v,Reach (k v) b
 |xor _ _ k,b=> ∃v,Reach (k v) b
def run {α:Type} (n:Nat):Bd α→Gs→Option (Gs×α)
 |ret a,gs=>some (gs,a)
 |and x y k,gs=>if(andG n gs x y).2=0 then none else run n (k (andG n gs x y).2) (andG n gs x y).1
 |xor x y k,gs=>if(xorG n gs x y).2=0 then none else run n (k (xorG n gs x y).2) (xorG n gs x y).1
def Out {α:Type} (n:Nat) (p:Bd α) (st st':Option Gs) (a:α):Prop:=
 match st with
 |some gs=>(∃gs',p.run n gs=some (gs',a)∧st'=some gs')∨(p.run n gs=none∧st'=none∧p.Reach a)
 |none=>st'=none∧p.Reach a
theorem bind_assoc {α β γ:Type} (p:Bd α) (f:α→Bd β) (g:β→Bd γ):(p.bind f).bind g=p.bind fun a=>(f a).bind g:=by
 induction p with
 |ret a=>rfl
 |and x y k b=>simp only[bind];congr 1;funext v;exact b v
 |xor x y k b=>simp only[bind];congr 1;funext v;exact b v
theorem run_bind {α β:Type} {n:Nat} (p:Bd α) (f:α→Bd β) (gs:Gs):(p.bind f).run n gs=(p.run n gs).bind fun r=>(f r.2).run n r.1:=by
 induction p generalizing gs with
 |ret a=>rfl
 |and x y k b=>
  simp only[bind,run];split
  ·rfl
  ·exact b _ _
 |xor x y k b=>
  simp only[bind,run];split
  ·rfl
  ·exact b _ _
theorem reach_bind {α β:Type} {p:Bd α} {f:α→Bd β} {a:α} {b:β} (h:p.Reach a) (g:(f a).Reach b):(p.bind f).Reach b:=by
 induction p with
 |ret c=>cases h;exact g
 |and x y k e=>obtain⟨v,d⟩:=h;exact⟨v,e v d⟩
 |xor x y k e=>obtain⟨v,d⟩:=h;exact⟨v,e v d⟩
theorem reach_of_run {α:Type} {n:Nat} {p:Bd α} {gs gs':Gs} {a:α} (h:p.run n gs=some (gs',a)):p.Reach a:=by
 induction p generalizing gs with
 |ret c=>simp only[run,Option.some.injEq,Prod.mk.injEq] at h;exact h.2.symm
 |and x y k b=>
  simp only[run] at h;split at h
  ·cases h
  ·exact⟨_,b _ h⟩
 |xor x y k b=>
  simp only[run] at h;split at h
  ·cases h
  ·exact⟨_,b _ h⟩
theorem Out.reach {α:Type} {n:Nat} {p:Bd α} {st st':Option Gs} {a:α} (h:Out n p st st' a):p.Reach a:=by
 cases st with
 |none=>exact h.2
 |some gs=>
  rcases h with⟨gs',h,_⟩|⟨_,_,h⟩
  ·exact reach_of_run h
  ·exact h
theorem Out.ret {α:Type} {n:Nat} (a:α) (st:Option Gs):Out n (.ret a) st st a:=by
 cases st with
 |none=>exact⟨rfl,rfl⟩
 |some gs=>exact .inl ⟨gs,rfl,rfl⟩
theorem Out.bind {α β:Type} {n:Nat} {p:Bd α} {f:α→Bd β} {st st' d:Option Gs} {a:α} {b:β} (h:Out n p st st' a) (c:Out n (f a) st' d b):Out n (p.bind f) st d b:=by
 cases st with
 |none=>
  obtain⟨rfl,e⟩:=h
  exact⟨c.1,reach_bind e c.2⟩
 |some gs=>
  rcases h with⟨gs',e,rfl⟩|⟨e,rfl,i⟩
  ·rcases c with⟨g,c,rfl⟩|⟨c,rfl,i⟩
   ·exact .inl ⟨g,by rw[run_bind,e];exact c,rfl⟩
   ·exact .inr ⟨by rw[run_bind,e];exact c,rfl,reach_bind (reach_of_run e) i⟩
  ·exact .inr ⟨by rw[run_bind,e];rfl,c.1,reach_bind i c.2⟩
theorem Out.map {α β:Type} {n:Nat} {p:Bd α} (f:α→β) {st st':Option Gs} {a:α} (h:Out n p st st' a):Out n (p.map f) st st' (f a):=h.bind (Out.ret _ _)
end Bd
theorem jj0 {gs F:Gs} {g:Gt} (h:gs<+:F) (hm:g∈gs):F.idxOf g=gs.idxOf g:=by
 obtain⟨t,rfl⟩:=h
 rw[List.idxOf_append,if_pos hm]
theorem ZS0 {n:Nat} (gs:Gs) (g:Gt):gs<+:(putG n gs g).1:=by
 unfold putG
 split
 ·exact List.prefix_refl _
 ·split
  ·exact List.prefix_refl _
  ·exact List.prefix_append _ _
theorem ja0 {n:Nat} {gs F:Gs} {g:Gt} (b:(putG n gs g).2≠0) (h:(putG n gs g).1<+:F):putG n F g=(F,(putG n gs g).2):=by
 unfold putG at b h⊢
 by_cases hm:g∈gs
 ·rw[if_pos hm] at h⊢
  rw[if_pos (h.subset hm),jj0 h hm]
 ·rw[if_neg hm] at b h⊢
  by_cases c:600≤gs.length
  ·rw[if_pos c] at b;exact absurd rfl b
  ·rw[if_neg c] at h⊢
   have a:g∈gs++[g]:=by simp
   rw[if_pos (h.subset a),jj0 h a,List.idxOf_append,if_neg hm]
   simp
theorem Yv0 {n:Nat} (gs:Gs) (a b:Int):gs<+:(andG n gs a b).1:=by
 unfold andG
 repeat' split
 all_goals first|exact List.prefix_refl _|exact ZS0 _ _
theorem Zx0 {n:Nat} (gs:Gs) (a b:Int):gs<+:(xorG n gs a b).1:=by
 unfold xorG
 repeat' split
 all_goals first|exact List.prefix_refl _|exact ZS0 _ _
theorem Yw0 {n:Nat} {gs F:Gs} {a b:Int} (c:(andG n gs a b).2≠0) (h:(andG n gs a b).1<+:F):andG n F a b=(F,(andG n gs a b).2):=by
 unfold andG at c h⊢
 repeat' split at c
 all_goals simp_all
 exact ja0 c h
theorem turn_zero {c:Bool} {m:Int}:turnI c m=0↔m=0:=by cases c<;>simp[turnI]
theorem Zy0 {n:Nat} {gs F:Gs} {a b:Int} (c:(xorG n gs a b).2≠0) (h:(xorG n gs a b).1<+:F):xorG n F a b=(F,(xorG n gs a b).2):=by
 unfold xorG at c h⊢
 repeat' split at c
 all_goals simp_all
 have:=ja0 (n:=n) (g:=gateX a b) (fun e=>c (turn_zero.2 e)) h
 rw[this]
 exact⟨rfl,rfl⟩
namespace Bd
theorem run_pre {α:Type} {n:Nat} {p:Bd α} {gs gs':Gs} {a:α} (h:p.run n gs=some (gs',a)):gs<+:gs':=by
 induction p generalizing gs with
 |ret c=>simp only[run,Option.some.injEq,Prod.mk.injEq] at h;rw[h.1];exact List.prefix_refl _
 |and x y k b=>
  simp only[run] at h;split at h
  ·cases h
  ·exact(Yv0 gs x y).trans (b _ h)
 |xor x y k b=>
  simp only[run] at h;split at h
  ·cases h
  ·exact(Zx0 gs x y).trans (b _ h)
theorem run_again {α:Type} {n:Nat} {p:Bd α} {gs gs' F:Gs} {a:α} (h:p.run n gs=some (gs',a)) (hF:gs'<+:F):p.run n F=some (F,a):=by
 induction p generalizing gs with
 |ret c=>simp only[run,Option.some.injEq,Prod.mk.injEq] at h⊢;exact⟨trivial,h.2⟩
 |and x y k e=>
  simp only[run] at h⊢
  split at h
  ·cases h
  ·next b=>
   have d:=(run_pre h).trans hF
   rw[Yw0 b d]
   simp only
   rw[if_neg b]
   exact e _ h
 |xor x y k e=>
  simp only[run] at h⊢
  split at h
  ·cases h
  ·next b=>
   have d:=(run_pre h).trans hF
   rw[Zy0 b d]
   simp only
   rw[if_neg b]
   exact e _ h
end Bd
def Zn (vals:List Bool) (m:Int):Bool:=if 0<m then vals.getD (m-1).toNat false else !vals.getD (-m-1).toNat false
def has (k:Nat) (m:Int):Prop:=m≠0∧ -(k:Int)≤m∧m≤k
def Vt (vals:List Bool) (g:Gt):Bool:=if g.x then Zn vals g.a != Zn vals g.b else Zn vals g.a&&Zn vals g.b
def valsG:List Bool→Gs→List Bool
 |vals,[]=>vals
 |vals,g::gs=>valsG (vals++[Vt vals g]) gs
def UO (n k:Nat) (g:Gt):Prop:=2≤absI g.a∧absI g.a<absI g.b∧absI g.b≤1+n+k∧(g.x=true→0<g.a∧0<g.b)
structure NetG (n:Nat) (gs:Gs):Prop where
 few:gs.length≤600
 gate:∀k,(h:k<gs.length)→UO n k gs[k]
 once:gs.Nodup
theorem lit_neg (vals:List Bool) {m:Int} (h:m≠0):Zn vals (-m)= !Zn vals m:=by
 unfold Zn
 by_cases a:0<m
 ·rw[if_neg (by omega),if_pos a,Int.neg_neg]
 ·rw[if_pos (by omega),if_neg a,Bool.not_not]
theorem lit_pre {vals more:List Bool} {m:Int} (h:has vals.length m):Zn (vals++more) m=Zn vals m:=by
 unfold Zn
 obtain⟨a,b,c⟩:=h
 split
 ·rw[List.getD_eq_getElem?_getD,List.getElem?_append_left (by omega),←List.getD_eq_getElem?_getD]
 ·rw[List.getD_eq_getElem?_getD,List.getElem?_append_left (by omega),←List.getD_eq_getElem?_getD]
theorem valsG_len:∀(gs:Gs) (vals:List Bool),(valsG vals gs).length=vals.length+gs.length
 |[],vals=>rfl
 |g::gs,vals=>by simp only[valsG,valsG_len gs,List.length_append,List.length_cons,List.length_nil];omega
theorem valsG_pre:∀(gs:Gs) (vals:List Bool),vals<+:valsG vals gs
 |[],vals=>List.prefix_refl _
 |g::gs,vals=>(List.prefix_append _ _).trans (valsG_pre gs _)
theorem valsG_app:∀(gs hs:Gs) (vals:List Bool),valsG vals (gs++hs)=valsG (valsG vals gs) hs
 |[],hs,vals=>rfl
 |g::gs,hs,vals=>valsG_app gs hs _
theorem abs_pos {a:Int} (h:a≠0):0<absI a:=by unfold absI;split<;>omega
theorem has_abs {k:Nat} {m:Int}:has k m↔1≤absI m∧absI m≤k:=by
 unfold has absI
 split<;>omega
theorem has_neg {k:Nat} {m:Int} (h:has k m):has k (-m):=⟨by have:=h.1;omega,by have:=h.2.2;omega,by have:=h.2.1;omega⟩
theorem has_mono {k l:Nat} {m:Int} (h:has k m) (a:k≤l):has l m:=⟨h.1,by have:=h.2.1;omega,by have:=h.2.2;omega⟩
theorem xV0 {k:Nat} {m:Int} {c:Bool} (h:has k m):has k (turnI c m):=by cases c;exact h;exact has_neg h
theorem kK0 (vals:List Bool) {m:Int} (h:m≠0) (c:Bool):Zn vals (turnI c m)=(c != Zn vals m):=by
 cases c
 ·show Zn vals m=_;simp
 ·show Zn vals (-m)=_;rw[lit_neg vals h];simp
theorem valsG_at {n:Nat} {F:Gs} {ins:List Bool} (l:ins.length=n) {k:Nat} (j:k<F.length) (hF:UO n k F[k]):(valsG (true::ins) F).getD (1+n+k) false=Vt (valsG (true::ins) F) F[k]:=by
 have e:F=F.take k++F[k]::F.drop (k+1):=by rw[←List.drop_eq_getElem_cons j,List.take_append_drop]
 have c:=hF
 clear hF
 generalize s:F[k]=g at e c⊢
 have d:(valsG (true::ins) (F.take k)).length=1+n+k:=by rw[valsG_len,List.length_cons,List.length_take,l];omega
 rw[e,valsG_app]
 show(valsG (valsG (true::ins) (F.take k)++[Vt (valsG (true::ins) (F.take k)) g]) (F.drop (k+1))).getD (1+n+k) false=Vt (valsG (valsG (true::ins) (F.take k)++[Vt (valsG (true::ins) (F.take k)) g]) (F.drop (k+1))) g
 generalize valsG (true::ins) (F.take k)=vs at d⊢
 obtain⟨t,m⟩:=valsG_pre (F.drop (k+1)) (vs++[Vt vs g])
 rw[←m,List.append_assoc]
 obtain⟨o,p,q,r⟩:=c
 have h:has vs.length g.a:=has_abs.2 ⟨by omega,by omega⟩
 have i:has vs.length g.b:=has_abs.2 ⟨by omega,by omega⟩
 have f:Vt (vs++([Vt vs g]++t)) g=Vt vs g:=by
  unfold Vt
  rw[lit_pre h,lit_pre i]
 rw[f,List.getD_eq_getElem?_getD,List.getElem?_append_right (by omega),d,Nat.sub_self]
 rfl
theorem put_step {n:Nat} {gs:Gs} {g:Gt} (i:NetG n gs) (c:UO n gs.length g) (f:(putG n gs g).2≠0):
  NetG n (putG n gs g).1∧has (1+n+(putG n gs g).1.length) (putG n gs g).2∧∀{F:Gs} {ins:List Bool},ins.length=n→(putG n gs g).1<+:F→Zn (valsG (true::ins) F) (putG n gs g).2=Vt (valsG (true::ins) F) g:=by
 have key:∀{F:Gs} {ins:List Bool} {k:Nat},ins.length=n→(d:k<F.length)→F[k]=g→UO n k g→Zn (valsG (true::ins) F) (2+n+k)=Vt (valsG (true::ins) F) g:=fun{F ins k} h d he c=>by
  have:=valsG_at h d (he▸c)
  rw[he] at this
  rw[←this]
  unfold Zn
  rw[if_pos (by omega),show((2+n+k:Int)-1).toNat=1+n+k by omega]
 unfold putG at f⊢
 by_cases hm:g∈gs
 ·rw[if_pos hm] at f⊢
  have hi:gs.idxOf g<gs.length:=List.idxOf_lt_length_iff.2 hm
  refine⟨i,⟨by show(2+n+_:Int)≠0;omega,by show _≤(2+n+_:Int);omega,by show(2+n+_:Int)≤((1+n+gs.length:Nat):Int);omega⟩,fun{F ins} h hF=>?_⟩
  have d:gs.idxOf g<F.length:=Nat.lt_of_lt_of_le hi hF.length_le
  have he:F[gs.idxOf g]=g:=by
   obtain⟨t,rfl⟩:=hF
   rw[List.getElem_append_left hi]
   exact List.getElem_idxOf hi
  refine key h d he ?_
  have:=i.gate _ hi
  rwa[List.getElem_idxOf hi] at this
 ·rw[if_neg hm] at f⊢
  by_cases l:600≤gs.length
  ·rw[if_pos l] at f;exact absurd rfl f
  ·rw[if_neg l] at f⊢
   refine⟨⟨by rw[List.length_append];simp;omega,fun k d=>?_,?_⟩,?_,fun{F ins} h hF=>?_⟩
   ·rw[List.length_append,List.length_singleton] at d
    by_cases e:k<gs.length
    ·rw[List.getElem_append_left e];exact i.gate k e
    ·have:k=gs.length:=by omega
     subst this
     rw[List.getElem_append_right (Nat.le_refl _)]
     simpa using c
   ·rw[List.nodup_append]
    exact⟨i.once,by simp,fun a m b j e=>hm (by simp at j;rw[←j,←e];exact m)⟩
   ·rw[List.length_append,List.length_singleton];exact⟨by omega,by omega,by omega⟩
   ·obtain⟨t,rfl⟩:=hF
    have d:gs.length<(gs++[g]++t).length:=by rw[List.length_append,List.length_append,List.length_singleton];omega
    refine key h d ?_ c
    rw[List.getElem_append_left (by rw[List.length_append,List.length_singleton];omega),List.getElem_append_right (Nat.le_refl _)]
    simp
theorem Yq0 (a b:Bool):(a != b)=(b != a):=by cases a<;>cases b<;>rfl
theorem zZ0 (ins:List Bool) (F:Gs):Zn (valsG (true::ins) F) 1=true:=by
 obtain⟨t,a⟩:=valsG_pre F (true::ins)
 rw[←a];rfl
theorem JX (ins:List Bool) (F:Gs):Zn (valsG (true::ins) F) (-1)=false:=by
 rw[lit_neg _ (by decide),zZ0];rfl
theorem abs_eq {a b:Int} (h:absI a=absI b):a=b∨a= -b:=by unfold absI at h;split at h<;>split at h<;>omega
theorem Y30 (vals:List Bool) {a:Int} (h:a≠0):Zn vals a=(decide (a<0) != Zn vals (absI a)):=by
 unfold absI
 by_cases b:a<0
 ·rw[if_pos b,lit_neg _ h,decide_eq_true b];simp
 ·rw[if_neg b,decide_eq_false b];simp
theorem and_step {n:Nat} {gs:Gs} {a b:Int} (d:NetG n gs) (i:has (1+n+gs.length) a) (j:has (1+n+gs.length) b) (c:(andG n gs a b).2≠0):
  NetG n (andG n gs a b).1∧has (1+n+(andG n gs a b).1.length) (andG n gs a b).2∧
  ∀{F:Gs} {ins:List Bool},ins.length=n→(andG n gs a b).1<+:F→Zn (valsG (true::ins) F) (andG n gs a b).2=(Zn (valsG (true::ins) F) a&&Zn (valsG (true::ins) F) b):=by
 have o:has (1+n+gs.length) (-1):=⟨by decide,by omega,by omega⟩
 unfold andG at c⊢
 by_cases k:a= -1∨b= -1
 ·rw[if_pos k]
  refine⟨d,o,fun{F ins} _ _=>?_⟩
  rw[JX]
  rcases k with rfl|rfl
  ·rw[JX];rfl
  ·rw[JX,Bool.and_false]
 rw[if_neg k] at c⊢
 by_cases l:a=1
 ·rw[if_pos l]
  subst l
  exact⟨d,j,fun{F ins} _ _=>by rw[zZ0,Bool.true_and]⟩
 rw[if_neg l] at c⊢
 by_cases c3:b=1
 ·rw[if_pos c3]
  subst c3
  exact⟨d,i,fun{F ins} _ _=>by rw[zZ0,Bool.and_true]⟩
 rw[if_neg c3] at c⊢
 by_cases f:a=b
 ·rw[if_pos f]
  subst f
  exact⟨d,i,fun{F ins} _ _=>by rw[Bool.and_self]⟩
 rw[if_neg f] at c⊢
 by_cases g:a= -b
 ·rw[if_pos g]
  refine⟨d,o,fun{F ins} _ _=>?_⟩
  rw[g,lit_neg _ j.1,JX,Bool.not_and_self]
 rw[if_neg g] at c⊢
 have a2:2≤absI a:=by have:=abs_pos i.1;unfold absI at*;split at this<;>omega
 have b2:2≤absI b:=by have:=abs_pos j.1;unfold absI at*;split at this<;>omega
 have s:absI a≠absI b:=fun e=>by rcases abs_eq e with h|h;exact f h;exact g h
 have p:=(has_abs.1 i).2
 have q:=(has_abs.1 j).2
 have m:UO n gs.length (gateA a b):=by
  unfold gateA
  split
  ·exact⟨b2,by omega,by show absI a≤_;omega,fun h=>by cases h⟩
  ·exact⟨a2,by show absI a<absI b;omega,by show absI b≤_;omega,fun h=>by cases h⟩
 obtain⟨p1,p2,t⟩:=put_step d m c
 refine⟨p1,p2,fun{F ins} r hF=>?_⟩
 rw[t r hF]
 unfold gateA Vt
 split
 ·exact Bool.and_comm _ _
 ·rfl
theorem xor_step {n:Nat} {gs:Gs} {a b:Int} (i:NetG n gs) (g:has (1+n+gs.length) a) (d:has (1+n+gs.length) b) (c:(xorG n gs a b).2≠0):
  NetG n (xorG n gs a b).1∧has (1+n+(xorG n gs a b).1.length) (xorG n gs a b).2∧
  ∀{F:Gs} {ins:List Bool},ins.length=n→(xorG n gs a b).1<+:F→Zn (valsG (true::ins) F) (xorG n gs a b).2=(Zn (valsG (true::ins) F) a != Zn (valsG (true::ins) F) b):=by
 have one:∀{x y:Int} {F:Gs} {ins:List Bool},absI x=1→y≠0→Zn (valsG (true::ins) F) (turnI (decide (x=1)) y)=(Zn (valsG (true::ins) F) x != Zn (valsG (true::ins) F) y):=fun{x y F ins} w z=>by
  rw[kK0 _ z]
  rcases abs_eq (b:=1) w with rfl|rfl
  ·rw[zZ0];rfl
  ·rw[JX];rfl
 unfold xorG at c⊢
 by_cases k:absI a=1
 ·rw[if_pos k]
  exact⟨i,xV0 d,fun{F ins} _ _=>one k d.1⟩
 rw[if_neg k] at c⊢
 by_cases l:absI b=1
 ·rw[if_pos l]
  exact⟨i,xV0 g,fun{F ins} _ _=>by show Zn _ (turnI (decide (b=1)) a)=_;rw[one l g.1];exact Yq0 _ _⟩
 rw[if_neg l] at c⊢
 by_cases c3:a=b
 ·rw[if_pos c3]
  subst c3
  exact⟨i,⟨by show(-1:Int)≠0;decide,by show(-(_:Int))≤ -1;omega,by show(-1:Int)≤_;omega⟩,fun{F ins} _ _=>by show Zn _ (-1)=_;rw[JX];simp⟩
 rw[if_neg c3] at c⊢
 by_cases j:a= -b
 ·rw[if_pos j]
  exact⟨i,⟨by show(1:Int)≠0;decide,by show(-(_:Int))≤1;omega,by show(1:Int)≤_;omega⟩,fun{F ins} _ _=>by show Zn _ 1=_;rw[j,lit_neg _ d.1,zZ0];simp⟩
 rw[if_neg j] at c⊢
 have a2:2≤absI a:=by have:=abs_pos g.1;omega
 have b2:2≤absI b:=by have:=abs_pos d.1;omega
 have v:absI a≠absI b:=fun e=>by rcases abs_eq e with h|h;exact c3 h;exact j h
 have o:=(has_abs.1 g).2
 have t:=(has_abs.1 d).2
 have aa:∀x:Int,2≤absI x→absI (absI x)=absI x:=fun x h=>by
  generalize absI x=y at h
  unfold absI;rw[if_neg (by omega)]
 have m:UO n gs.length (gateX a b):=by
  unfold gateX
  split
  ·exact⟨by show 2≤absI (absI b);rw[aa b b2];exact b2,by show absI (absI b)<absI (absI a);rw[aa a a2,aa b b2];omega,by show absI (absI a)≤_;rw[aa a a2];omega,fun _=>⟨by show 0<absI b;omega,by show 0<absI a;omega⟩⟩
  ·exact⟨by show 2≤absI (absI a);rw[aa a a2];exact a2,by show absI (absI a)<absI (absI b);rw[aa a a2,aa b b2];omega,by show absI (absI b)≤_;rw[aa b b2];omega,fun _=>⟨by show 0<absI a;omega,by show 0<absI b;omega⟩⟩
 have f:(putG n gs (gateX a b)).2≠0:=fun e=>c (turn_zero.2 e)
 obtain⟨p1,p2,A⟩:=put_step i m f
 refine⟨p1,xV0 p2,fun{F ins} u hF=>?_⟩
 show Zn _ (turnI _ (putG n gs (gateX a b)).2)=_
 rw[kK0 _ f,A u hF,Y30 _ g.1,Y30 _ d.1]
 have e:Vt (valsG (true::ins) F) (gateX a b)=(Zn (valsG (true::ins) F) (absI a) != Zn (valsG (true::ins) F) (absI b)):=by
  unfold gateX Vt
  split
  ·exact Yq0 _ _
  ·rfl
 rw[e]
 generalize Zn (valsG (true::ins) F) (absI a)=p
 generalize Zn (valsG (true::ins) F) (absI b)=q
 generalize decide (a<0)=r
 generalize decide (b<0)=s
 cases p<;>cases q<;>cases r<;>cases s<;>rfl
def Says {α:Type} (ρ:Int→Bool):Nat→Bd α→(Nat→α→Prop)→Prop
 |k,.ret a,Q=>Q k a
 |k,.and x y c,Q=>has k x∧has k y∧∀k' v,k≤k'→has k' v→ρ v=(ρ x&&ρ y)→Says ρ k' (c v) Q
 |k,.xor x y c,Q=>has k x∧has k y∧∀k' v,k≤k'→has k' v→ρ v=(ρ x != ρ y)→Says ρ k' (c v) Q
theorem Says.bind {α β:Type} {ρ:Int→Bool} {p:Bd α} {f:α→Bd β} {Q:Nat→β→Prop}:∀{k:Nat},Says ρ k p (fun b a=>Says ρ b (f a) Q)→Says ρ k (p.bind f) Q:=by
 induction p with
 |ret a=>intro k h;exact h
 |and x y c l=>intro k ⟨d,e,h⟩;exact⟨d,e,fun b v g j i=>l v (h b v g j i)⟩
 |xor x y c l=>intro k ⟨d,e,h⟩;exact⟨d,e,fun b v g j i=>l v (h b v g j i)⟩
theorem Says.sound {α:Type} {n:Nat} {ins:List Bool} (k:ins.length=n) {F:Gs} {p:Bd α} {Q:Nat→α→Prop}:∀{gs gs':Gs} {a:α},NetG n gs→p.run n gs=some (gs',a)→gs'<+:F→Says (Zn (valsG (true::ins) F)) (1+n+gs.length) p Q→NetG n gs'∧Q (1+n+gs'.length) a:=by
 induction p with
 |ret c=>
  intro gs gs' a b h hF hs
  simp only[Bd.run,Option.some.injEq,Prod.mk.injEq] at h
  obtain⟨rfl,rfl⟩:=h
  exact⟨b,hs⟩
 |and x y c i=>
  intro gs gs' a b h hF ⟨e,f,hs⟩
  simp only[Bd.run] at h
  split at h
  ·cases h
  ·next d=>
   obtain⟨p1,p2,j⟩:=and_step b e f d
   have g:=Bd.run_pre h
   refine i _ p1 h hF (hs _ _ ?_ p2 (j k (g.trans hF)))
   have:=(Yv0 (n:=n) gs x y).length_le;omega
 |xor x y c i=>
  intro gs gs' a b h hF ⟨e,f,hs⟩
  simp only[Bd.run] at h
  split at h
  ·cases h
  ·next d=>
   obtain⟨p1,p2,j⟩:=xor_step b e f d
   have g:=Bd.run_pre h
   refine i _ p1 h hF (hs _ _ ?_ p2 (j k (g.trans hF)))
   have:=(Zx0 (n:=n) gs x y).length_le;omega
end Go.M
end
section
namespace Go.M
def orB (x y:Int):Bd Int:= .and (-x) (-y) fun v=> .ret (-v)
def muxB (c x y:Int):Bd Int:= .and c x fun p=> .and (-c) y fun q=>orB p q
def sumB:List Int→List Int→Int→Bd (List Int)
 |x::xs,y::ys,c=> .xor x y fun h=> .xor h c fun s=> .and x y fun p=> .and h c fun q=>(orB p q).bind fun c'=>(sumB xs ys c').map (s:: ·)
 |_,_,_=> .ret []
def lessB:List Int→List Int→Int→Bd Int
 |x::xs,y::ys,r=> .xor x y fun d=>(muxB d y r).bind fun r'=>lessB xs ys r'
 |_,_,r=> .ret r
def sameB:List Int→List Int→Int→Bd Int
 |x::xs,y::ys,r=> .xor x y fun d=> .and r (-d) fun r'=>sameB xs ys r'
 |_,_,r=> .ret r
def eachB (f:Int→Int→Bd Int):List Int→List Int→Bd (List Int)
 |x::xs,y::ys=>(f x y).bind fun s=>(eachB f xs ys).map (s:: ·)
 |_,_=> .ret []
def rowB (s:Int):List Int→Bd (List Int)
 |x::xs=> .and x s fun v=>(rowB s xs).map (v:: ·)
 |[]=> .ret []
def offsL (n:Nat):List Int:=List.replicate n (-1)
def mulB (xs:List Int):List Int→Nat→List Int→Bd (List Int)
 |y::ys,i,s=>(rowB y (xs.take (xs.length-i))).bind fun r=>(sumB s (offsL i++r) (-1)).bind fun s'=>mulB xs ys (i+1) s'
 |[],_,s=> .ret s
def negL (xs:List Int):List Int:=xs.map fun x=> -x
def divB (xs wide:List Int):Nat→List Int→List Int→Bd (List Int×List Int)
 |n+1,r,q=>(lessB (xs.getD n 0::r) wide (-1)).bind fun l=>(sumB (xs.getD n 0::r) (negL wide) 1).bind fun u=>
   (eachB (muxB l) ((xs.getD n 0::r).take xs.length) (u.take xs.length)).bind fun r'=>divB xs wide n r' (q.set n (-l))
 |0,r,q=> .ret (q,r)
def fromL (up:Bool) (fill:Int) (s:List Int) (by_ k:Nat):Int:=if up then(if k<by_ then fill else s.getD (k-by_) 0) else if k+by_<s.length then s.getD (k+by_) 0 else fill
def shiftB (up:Bool) (fill:Int):List Int→Nat→List Int→Bd (List Int)
 |c::ys,i,s=>(eachB (muxB c) ((List.range s.length).map (fromL up fill s (2^i))) s).bind fun s'=>shiftB up fill ys (i+1) s'
 |[],_,s=> .ret s
def unB (op:Int) (x:List Int):Bd (List Int):=if op=1 then .ret (negL x) else sumB (offsL x.length) (negL x) 1
def binB (op:Int) (x y:List Int):Bd (List Int):=
 if op=14 then .ret (y++x)
 else if op=3 then eachB (fun a b=> .and a b .ret) x y
 else if op=4 then eachB orB x y
 else if op=5 then eachB (fun a b=> .xor a b .ret) x y
 else if op=6 then sumB x y (-1)
 else if op=7 then sumB x (negL y) 1
 else if op=8 then mulB x y 0 (offsL x.length)
 else if op=9 then(divB x (y++[-1]) x.length (offsL x.length) (offsL x.length)).map (·.1)
 else if op=10 then(divB x (y++[-1]) x.length (offsL x.length) (offsL x.length)).map (·.2)
 else if op=11 then shiftB true (-1) y 0 x
 else if op=12 then shiftB false (-1) y 0 x
 else shiftB false (x.getD (x.length-1) 0) y 0 x
def swapT (x y:List Int):List Int:=x.set (x.length-1) (y.getD (x.length-1) 0)
def cmpB (op:Int) (x y:List Int):Bd Int:=
 if op=15 then sameB x y 1 else if op=16 then lessB x y (-1) else lessB (swapT x y) (swapT y x) (-1)
def sumV:List Bool→List Bool→Bool→List Bool
 |x::xs,y::ys,c=>((x != y) != c)::sumV xs ys ((x&&y)||((x != y)&&c))
 |_,_,_=>[]
def lessV:List Bool→List Bool→Bool→Bool
 |x::xs,y::ys,r=>lessV xs ys (if x != y then y else r)
 |_,_,r=>r
def sameV:List Bool→List Bool→Bool→Bool
 |x::xs,y::ys,r=>sameV xs ys (r&& !(x != y))
 |_,_,r=>r
def eachV (f:Bool→Bool→Bool):List Bool→List Bool→List Bool
 |x::xs,y::ys=>f x y::eachV f xs ys
 |_,_=>[]
def q50 (n:Nat):List Bool:=List.replicate n false
def mulV (xs:List Bool):List Bool→Nat→List Bool→List Bool
 |y::ys,i,s=>mulV xs ys (i+1) (sumV s (q50 i++(xs.take (xs.length-i)).map fun x=>x&&y) false)
 |[],_,s=>s
def divV (xs wide:List Bool):Nat→List Bool→List Bool→List Bool×List Bool
 |n+1,r,q=>
  let t:=xs.getD n false::r
  let l:=lessV t wide false
  divV xs wide n (eachV (fun a b=>if l then a else b) (t.take xs.length) ((sumV t (wide.map (!·)) true).take xs.length)) (q.set n (!l))
 |0,r,q=>(q,r)
def Qz0 (up:Bool) (fill:Bool) (s:List Bool) (by_ k:Nat):Bool:=if up then(if k<by_ then fill else s.getD (k-by_) false) else if k+by_<s.length then s.getD (k+by_) false else fill
def shiftV (up:Bool) (fill:Bool):List Bool→Nat→List Bool→List Bool
 |c::ys,i,s=>shiftV up fill ys (i+1) (eachV (fun a b=>if c then a else b) ((List.range s.length).map (Qz0 up fill s (2^i))) s)
 |[],_,s=>s
def unV (op:Int) (x:List Bool):List Bool:=if op=1 then x.map (!·) else sumV (q50 x.length) (x.map (!·)) true
def Jn0 (op:Int) (x y:List Bool):List Bool:=
 if op=14 then y++x
 else if op=3 then eachV (· && ·) x y
 else if op=4 then eachV (· || ·) x y
 else if op=5 then eachV (· != ·) x y
 else if op=6 then sumV x y false
 else if op=7 then sumV x (y.map (!·)) true
 else if op=8 then mulV x y 0 (q50 x.length)
 else if op=9 then(divV x (y++[false]) x.length (q50 x.length) (q50 x.length)).1
 else if op=10 then(divV x (y++[false]) x.length (q50 x.length) (q50 x.length)).2
 else if op=11 then shiftV true false y 0 x
 else if op=12 then shiftV false false y 0 x
 else shiftV false (x.getD (x.length-1) false) y 0 x
def Xc0 (x y:List Bool):List Bool:=x.set (x.length-1) (y.getD (x.length-1) false)
def cmpV (op:Int) (x y:List Bool):Bool:=
 if op=15 then sameV x y true else if op=16 then lessV x y false else lessV (Xc0 x y) (Xc0 y x) false
structure Rho (ρ:Int→Bool):Prop where
 neg:∀m,m≠0→ρ (-m)= !ρ m
 one:ρ 1=true
def hasL (k:Nat) (xs:List Int):Prop:=∀x,x∈xs→has k x
theorem hasL.mono {k l:Nat} {xs:List Int} (h:hasL k xs) (a:k≤l):hasL l xs:=fun x b=>has_mono (h x b) a
theorem hasL_cons {k:Nat} {x:Int} {xs:List Int}:hasL k (x::xs)↔has k x∧hasL k xs:=by
 unfold hasL;simp only[List.mem_cons,forall_eq_or_imp]
theorem zB0 {k:Nat} {xs ys:List Int} (h:hasL k xs) (a:hasL k ys):hasL k (xs++ys):=fun x b=>(List.mem_append.1 b).elim (h x) (a x)
theorem zA0 {k:Nat} {xs:List Int} (h:hasL k xs):hasL k (negL xs):=fun x a=>by
 obtain⟨y,b,rfl⟩:=List.mem_map.1 a;exact has_neg (h y b)
theorem W6 {k n:Nat} {xs:List Int} (h:hasL k xs):hasL k (xs.take n):=fun x a=>h x (List.mem_of_mem_take a)
theorem has_one {k:Nat} (h:1≤k):has k 1:=⟨by decide,by omega,by omega⟩
theorem has_mone {k:Nat} (h:1≤k):has k (-1):=⟨by decide,by omega,by omega⟩
theorem Yd {k n:Nat} (h:1≤k):hasL k (offsL n):=fun x a=>by rw[List.eq_of_mem_replicate a];exact has_mone h
theorem kN0 {k n:Nat} {xs:List Int} {y:Int} (h:hasL k xs) (c:has k y):hasL k (xs.set n y):=fun x b=>by
 rcases List.mem_or_eq_of_mem_set b with a|a
 ·exact h x a
 ·rw[a];exact c
theorem JY {k n:Nat} {xs:List Int} (h:hasL k xs) (a:n<xs.length) (d:Int):has k (xs.getD n d):=by
 rw[List.getD_eq_getElem?_getD,List.getElem?_eq_getElem a];exact h _ (List.getElem_mem a)
section
variable {ρ:Int→Bool} {k:Nat} {Q:Nat→Int→Prop} {QL:Nat→List Int→Prop}
theorem Rho.mone (h:Rho ρ):ρ (-1)=false:=by rw[h.neg 1 (by decide),h.one];rfl
theorem q70 (h:Rho ρ) {xs:List Int} (a:hasL k xs):(negL xs).map ρ=(xs.map ρ).map (!·):=by
 unfold negL
 rw[List.map_map,List.map_map]
 exact List.map_congr_left fun x hm=>h.neg x (a x hm).1
theorem W1 (h:Rho ρ) (n:Nat):(offsL n).map ρ=q50 n:=by unfold offsL q50;rw[List.map_replicate,h.mone]
theorem kI0 (h:Rho ρ) {x y:Int} (c:has k x) (d:has k y) (e:∀a v,k≤a→has a v→ρ v=(ρ x||ρ y)→Q a v):Says ρ k (orB x y) Q:=by
 refine⟨has_neg c,has_neg d,fun a v f b g=>e a _ f (has_neg b) ?_⟩
 rw[h.neg _ b.1,g,h.neg _ c.1,h.neg _ d.1]
 cases ρ x<;>cases ρ y<;>rfl
theorem mux_sat (h:Rho ρ) {c x y:Int} (a:has k c) (l:has k x) (m:has k y) (f:∀b v,k≤b→has b v→ρ v=(if ρ c then ρ x else ρ y)→Q b v):Says ρ k (muxB c x y) Q:=by
 refine⟨a,l,fun r p d g rp=>⟨has_mono (has_neg a) d,has_mono m d,fun s q e i rq=>?_⟩⟩
 refine kI0 h (has_mono g e) i fun n v o j rv=>f n v (by omega) j ?_
 rw[rv,rp,rq,h.neg _ a.1]
 cases ρ c<;>cases ρ x<;>cases ρ y<;>rfl
theorem sum_sat (h:Rho ρ):∀{xs ys:List Int} {c:Int} {k:Nat} {QL:Nat→List Int→Prop},hasL k xs→hasL k ys→has k c→(∀l r,k≤l→hasL l r→r.map ρ=sumV (xs.map ρ) (ys.map ρ) (ρ c)→QL l r)→Says ρ k (sumB xs ys c) QL:=by
 intro xs
 induction xs with
 |nil=>intro ys c k QL _ _ _ f;exact f k [] (Nat.le_refl _) (fun x a=>by cases a) rfl
 |cons x xs B=>
  intro ys c k QL a A n f
  cases ys with
  |nil=>exact f k [] (Nat.le_refl _) (fun x a=>by cases a) rfl
  |cons y ys=>
   obtain⟨b,i⟩:=hasL_cons.1 a
   obtain⟨e,j⟩:=hasL_cons.1 A
   refine⟨b,e,fun H d t o rd=>⟨o,has_mono n t,fun I s D hs rs=>⟨has_mono b (by omega),has_mono e (by omega),fun J p E v rp=>⟨has_mono o (by omega),has_mono n (by omega),fun K q u w rq=>?_⟩⟩⟩⟩
   refine Says.bind (kI0 h (has_mono v u) w fun L c' F g m=>?_)
   refine Says.bind (B (i.mono (by omega)) (j.mono (by omega)) g fun C r G z rr=>?_)
   refine f C (s::r) (by omega) (hasL_cons.2 ⟨has_mono hs (by omega),z⟩) ?_
   simp only[List.map_cons,sumV]
   rw[rs,rd,rr,m,rp,rq,rd]
theorem less_sat (h:Rho ρ):∀{xs ys:List Int} {r:Int} {k:Nat} {Q:Nat→Int→Prop},hasL k xs→hasL k ys→has k r→(∀i v,k≤i→has i v→ρ v=lessV (xs.map ρ) (ys.map ρ) (ρ r)→Q i v)→Says ρ k (lessB xs ys r) Q:=by
 intro xs
 induction xs with
 |nil=>intro ys r k Q _ _ c b;exact b k r (Nat.le_refl _) c rfl
 |cons x xs p=>
  intro ys r k Q n o c b
  cases ys with
  |nil=>exact b k r (Nat.le_refl _) c rfl
  |cons y ys=>
   obtain⟨e,f⟩:=hasL_cons.1 n
   obtain⟨a,g⟩:=hasL_cons.1 o
   refine⟨e,a,fun w d j l rd=>?_⟩
   refine Says.bind (mux_sat h l (has_mono a j) (has_mono c j) fun z v s m rv=>?_)
   refine p (f.mono (by omega)) (g.mono (by omega)) m fun q u t hu ru=>b q u (by omega) hu ?_
   rw[ru,rv,rd];rfl
theorem same_sat (h:Rho ρ):∀{xs ys:List Int} {r:Int} {k:Nat} {Q:Nat→Int→Prop},hasL k xs→hasL k ys→has k r→(∀i v,k≤i→has i v→ρ v=sameV (xs.map ρ) (ys.map ρ) (ρ r)→Q i v)→Says ρ k (sameB xs ys r) Q:=by
 intro xs
 induction xs with
 |nil=>intro ys r k Q _ _ b a;exact a k r (Nat.le_refl _) b rfl
 |cons x xs p=>
  intro ys r k Q n o b a
  cases ys with
  |nil=>exact a k r (Nat.le_refl _) b rfl
  |cons y ys=>
   obtain⟨c,e⟩:=hasL_cons.1 n
   obtain⟨f,g⟩:=hasL_cons.1 o
   refine⟨c,f,fun w d l j rd=>⟨has_mono b l,has_neg j,fun z v s m rv=>?_⟩⟩
   refine p (e.mono (by omega)) (g.mono (by omega)) m fun q u t hu ru=>a q u (by omega) hu ?_
   rw[ru,rv,h.neg _ j.1,rd];rfl
theorem each_sat {f:Int→Int→Bd Int} {g:Bool→Bool→Bool} {C:Nat→Prop} (o:∀k l,C k→k≤l→C l) (p:∀{k:Nat} {x y:Int} {Q:Nat→Int→Prop},C k→has k x→has k y→(∀a v,k≤a→has a v→ρ v=g (ρ x) (ρ y)→Q a v)→Says ρ k (f x y) Q):
  ∀{xs ys:List Int} {k:Nat} {QL:Nat→List Int→Prop},C k→hasL k xs→hasL k ys→(∀a r,k≤a→hasL a r→r.map ρ=eachV g (xs.map ρ) (ys.map ρ)→QL a r)→Says ρ k (eachB f xs ys) QL:=by
 intro xs
 induction xs with
 |nil=>intro ys k QL _ _ _ c;exact c k [] (Nat.le_refl _) (fun x b=>by cases b) rfl
 |cons x xs u=>
  intro ys k QL m b t c
  cases ys with
  |nil=>exact c k [] (Nat.le_refl _) (fun x b=>by cases b) rfl
  |cons y ys=>
   obtain⟨e,h⟩:=hasL_cons.1 b
   obtain⟨i,j⟩:=hasL_cons.1 t
   refine Says.bind (p m e i fun z s d hs rs=>?_)
   refine Says.bind (u (o _ _ m d) (h.mono d) (j.mono d) fun w r n q rr=>?_)
   refine c w (s::r) (by omega) (hasL_cons.2 ⟨has_mono hs n,q⟩) ?_
   simp only[List.map_cons,eachV]
   rw[rs,rr]
theorem row_sat {s:Int}:∀{xs:List Int} {k:Nat} {QL:Nat→List Int→Prop},hasL k xs→has k s→(∀e r,k≤e→hasL e r→r.map ρ=(xs.map ρ).map (fun x=>x&&ρ s)→QL e r)→Says ρ k (rowB s xs) QL:=by
 intro xs
 induction xs with
 |nil=>intro k QL _ _ a;exact a k [] (Nat.le_refl _) (fun x b=>by cases b) rfl
 |cons x xs j=>
  intro k QL b hs a
  obtain⟨c,d⟩:=hasL_cons.1 b
  refine⟨c,hs,fun m v f i rv=>?_⟩
  refine Says.bind (j (d.mono f) (has_mono hs f) fun l r g h rr=>?_)
  refine a l (v::r) (by omega) (hasL_cons.2 ⟨has_mono i g,h⟩) ?_
  simp only[List.map_cons]
  rw[rv,rr]
theorem mul_sat (h:Rho ρ) {xs:List Int}:∀{ys:List Int} {i:Nat} {s:List Int} {k:Nat} {QL:Nat→List Int→Prop},1≤k→hasL k xs→hasL k ys→hasL k s→(∀e r,k≤e→hasL e r→r.map ρ=mulV (xs.map ρ) (ys.map ρ) i (s.map ρ)→QL e r)→Says ρ k (mulB xs ys i s) QL:=by
 intro ys
 induction ys with
 |nil=>intro i s k QL _ _ _ hs a;exact a k s (Nat.le_refl _) hs rfl
 |cons y ys n=>
  intro i s k QL t g m hs a
  obtain⟨c,d⟩:=hasL_cons.1 m
  refine Says.bind (row_sat (W6 g) c fun v r j l rr=>?_)
  refine Says.bind (sum_sat h (hs.mono j) (zB0 (Yd (by omega)) l) (has_mone (by omega)) fun w x p b f=>?_)
  refine n (by omega) (g.mono (by omega)) (d.mono (by omega)) b fun o u q hu ru=>a o u (by omega) hu ?_
  rw[ru,f,h.mone,List.map_append,W1 h,rr,List.map_take]
  simp only[List.map_cons,mulV,List.length_map]
theorem zC0 {xs:List Int} {n:Nat} (a:n<xs.length):ρ (xs.getD n 0)=(xs.map ρ).getD n false:=by
 rw[List.getD_eq_getElem?_getD,List.getD_eq_getElem?_getD,List.getElem?_map,List.getElem?_eq_getElem a];rfl
theorem div_sat (h:Rho ρ) {xs wide:List Int}:∀{n:Nat} {r q:List Int} {k:Nat} {QP:Nat→List Int×List Int→Prop},1≤k→n≤xs.length→hasL k xs→hasL k wide→hasL k r→hasL k q→
  (∀f p,k≤f→hasL f p.1→hasL f p.2→(p.1.map ρ,p.2.map ρ)=divV (xs.map ρ) (wide.map ρ) n (r.map ρ) (q.map ρ)→QP f p)→Says ρ k (divB xs wide n r q) QP:=by
 intro n
 induction n with
 |zero=>intro r q k QP _ _ _ _ o d i;exact i k (q,r) (Nat.le_refl _) d o rfl
 |succ n B=>
  intro r q k QP z G e hw o d i
  have t:hasL k (xs.getD n 0::r):=hasL_cons.2 ⟨JY e (by omega) 0,o⟩
  refine Says.bind (less_sat h t hw (has_mone z) fun H l w c rl=>?_)
  refine Says.bind (sum_sat h (t.mono w) ((zA0 hw).mono w) (has_one (by omega)) fun I u x hu ru=>?_)
  refine Says.bind (each_sat (C:=fun k=>has k l) (g:=fun a b=>if ρ l then a else b) (fun _ _ h c=>has_mono h c) (fun y e A d=>mux_sat h y e A d) (has_mono c x) (W6 (t.mono (by omega))) (W6 hu) fun J K E s v=>?_)
  refine B (by omega) (by omega) (e.mono (by omega)) (hw.mono (by omega)) s (kN0 (d.mono (by omega)) (has_neg (has_mono c (by omega)))) fun D p F j m rp=>i D p (by omega) j m ?_
  rw[rp]
  simp only[divV,List.length_map]
  rw[v,List.map_take,List.map_take,ru,List.map_set,h.neg _ c.1,rl,q70 h hw,h.mone,h.one,List.map_cons,zC0 (ρ:=ρ) (xs:=xs) (n:=n) (by omega)]
theorem from_has {up:Bool} {fill:Int} {s:List Int} {b j:Nat} (a:has k fill) (hs:hasL k s) (c:j<s.length):has k (fromL up fill s b j):=by
 unfold fromL
 repeat' split
 all_goals first|exact a|exact JY hs (by omega) 0
theorem from_rho {up:Bool} {fill:Int} {s:List Int} {b j:Nat} (a:j<s.length):ρ (fromL up fill s b j)=Qz0 up (ρ fill) (s.map ρ) b j:=by
 unfold fromL Qz0
 rw[List.length_map]
 repeat' split
 all_goals first|rfl|exact zC0 (by omega)
theorem shift_sat (h:Rho ρ) {up:Bool} {fill:Int}:∀{ys:List Int} {i:Nat} {s:List Int} {k:Nat} {QL:Nat→List Int→Prop},has k fill→hasL k ys→hasL k s→(∀p r,k≤p→hasL p r→r.map ρ=shiftV up (ρ fill) (ys.map ρ) i (s.map ρ)→QL p r)→Says ρ k (shiftB up fill ys i s) QL:=by
 intro ys
 induction ys with
 |nil=>intro i s k QL _ _ hs d;exact d k s (Nat.le_refl _) hs rfl
 |cons c ys A=>
  intro i s k QL v m hs d
  obtain⟨n,o⟩:=hasL_cons.1 m
  refine Says.bind (each_sat (C:=fun k=>has k c) (g:=fun a b=>if ρ c then a else b) (fun _ _ h y=>has_mono h y) (fun w l m z=>mux_sat h w l m z) n (fun x l=>by
   obtain⟨j,e,rfl⟩:=List.mem_map.1 l
   exact from_has v hs (List.mem_range.1 e)) hs fun E F t f q=>?_)
  refine A (has_mono v t) (o.mono t) f fun B u D hu ru=>d B u (by omega) hu ?_
  rw[ru,q]
  simp only[List.map_cons,shiftV,List.length_map,List.map_map]
  congr 2
  exact List.map_congr_left fun j e=>from_rho (List.mem_range.1 e)
theorem J30 (h:Rho ρ) {op:Int} {x:List Int} (f:1≤k) (c:hasL k x) (a:∀b r,k≤b→hasL b r→r.map ρ=unV op (x.map ρ)→QL b r):Says ρ k (unB op x) QL:=by
 unfold unB
 unfold unV at a
 rw[List.length_map] at a
 split
 ·next e=>rw[if_pos e] at a;exact a k _ (Nat.le_refl _) (zA0 c) (q70 h c)
 ·next e=>
  rw[if_neg e] at a
  exact sum_sat h (Yd f) (zA0 c) (has_one f) fun b r d g rr=>a b r d g (by rw[rr,W1 h,q70 h c,h.one])
theorem bin_sat (h:Rho ρ) {op:Int} {x y:List Int} (i:1≤k) (b:hasL k x) (g:hasL k y) (s:x≠[]) (a:∀c r,k≤c→hasL c r→r.map ρ=Jn0 op (x.map ρ) (y.map ρ)→QL c r):Says ρ k (binB op x y) QL:=by
 have D:0<x.length:=List.length_pos_iff.2 s
 unfold binB
 unfold Jn0 at a
 rw[List.length_map] at a
 by_cases o:op=14
 ·rw[if_pos o] at a⊢;exact a k _ (Nat.le_refl _) (zB0 g b) (by rw[List.map_append])
 rw[if_neg o] at a⊢
 by_cases c3:op=3
 ·rw[if_pos c3] at a⊢
  exact each_sat (C:=fun _=>True) (fun _ _ _ _=>trivial) (fun{_ _ _ _} _ b g q=>by exact⟨b,g,fun c v e f d=>q c v e f d⟩) trivial b g a
 rw[if_neg c3] at a⊢
 by_cases t:op=4
 ·rw[if_pos t] at a⊢
  exact each_sat (C:=fun _=>True) (fun _ _ _ _=>trivial) (fun _ b g q=>kI0 h b g q) trivial b g a
 rw[if_neg t] at a⊢
 by_cases u:op=5
 ·rw[if_pos u] at a⊢
  exact each_sat (C:=fun _=>True) (fun _ _ _ _=>trivial) (fun{_ _ _ _} _ b g q=>by exact⟨b,g,fun c v e f d=>q c v e f d⟩) trivial b g a
 rw[if_neg u] at a⊢
 by_cases w:op=6
 ·rw[if_pos w] at a⊢
  exact sum_sat h b g (has_mone i) fun c r e f d=>a c r e f (by rw[d,h.mone])
 rw[if_neg w] at a⊢
 by_cases z:op=7
 ·rw[if_pos z] at a⊢
  exact sum_sat h b (zA0 g) (has_one i) fun c r e f d=>a c r e f (by rw[d,h.one,q70 h g])
 rw[if_neg z] at a⊢
 by_cases A:op=8
 ·rw[if_pos A] at a⊢
  exact mul_sat h i b g (Yd i) fun c r e f d=>a c r e f (by rw[d,W1 h])
 rw[if_neg A] at a⊢
 by_cases B:op=9
 ·rw[if_pos B] at a⊢
  refine Says.bind (div_sat h i (Nat.le_refl _) b (zB0 g fun x b=>by rw[List.mem_singleton.1 b];exact has_mone i) (Yd i) (Yd i) fun c p e f _ d=>a c _ e f ?_)
  rw[W1 h,List.map_append,List.map_singleton,h.mone] at d
  rw[←d]
 rw[if_neg B] at a⊢
 by_cases j:op=10
 ·rw[if_pos j] at a⊢
  refine Says.bind (div_sat h i (Nat.le_refl _) b (zB0 g fun x b=>by rw[List.mem_singleton.1 b];exact has_mone i) (Yd i) (Yd i) fun c p e _ f d=>a c _ e f ?_)
  rw[W1 h,List.map_append,List.map_singleton,h.mone] at d
  rw[←d]
 rw[if_neg j] at a⊢
 by_cases l:op=11
 ·rw[if_pos l] at a⊢
  exact shift_sat h (has_mone i) g b fun c r e f d=>a c r e f (by rw[d,h.mone])
 rw[if_neg l] at a⊢
 by_cases m:op=12
 ·rw[if_pos m] at a⊢
  exact shift_sat h (has_mone i) g b fun c r e f d=>a c r e f (by rw[d,h.mone])
 rw[if_neg m] at a⊢
 exact shift_sat h (JY b (by omega) 0) g b fun c r e f d=>a c r e f (by rw[d,zC0 (ρ:=ρ) (xs:=x) (n:=x.length-1) (by omega)])
theorem swap_has {x y:List Int} (b:hasL k x) (c:hasL k y) (e:x.length=y.length) (a:x≠[]):hasL k (swapT x y):=by
 have d:0<x.length:=List.length_pos_iff.2 a
 exact kN0 b (JY c (by omega) 0)
theorem swap_rho {x y:List Int} (c:x.length=y.length) (a:x≠[]):(swapT x y).map ρ=Xc0 (x.map ρ) (y.map ρ):=by
 have b:0<x.length:=List.length_pos_iff.2 a
 unfold swapT Xc0
 rw[List.map_set,List.length_map,zC0 (ρ:=ρ) (xs:=y) (n:=x.length-1) (by omega)]
theorem QF0 (h:Rho ρ) {op:Int} {x y:List Int} (p:1≤k) (n:hasL k x) (o:hasL k y) (m:x.length=y.length) (d:x≠[]) (b:∀a v,k≤a→has a v→ρ v=cmpV op (x.map ρ) (y.map ρ)→Q a v):Says ρ k (cmpB op x y) Q:=by
 have c:y≠[]:=fun e=>d (List.eq_nil_of_length_eq_zero (by rw[m,e];rfl))
 unfold cmpB
 unfold cmpV at b
 by_cases f:op=15
 ·rw[if_pos f] at b⊢;exact same_sat h n o (has_one p) fun a v i j l=>b a v i j (by rw[l,h.one])
 rw[if_neg f] at b⊢
 by_cases g:op=16
 ·rw[if_pos g] at b⊢;exact less_sat h n o (has_mone p) fun a v i j l=>b a v i j (by rw[l,h.mone])
 rw[if_neg g] at b⊢
 exact less_sat h (swap_has n o m d) (swap_has o n m.symm c) (has_mone p) fun a v i j l=>b a v i j (by rw[l,h.mone,swap_rho m d,swap_rho m.symm c])
end
end Go.M
end
section
namespace Go.M
def bitsN (w a:Nat):List Bool:=(List.range w).map fun i=>decide (a/2^i%2=1)
theorem bitsN_len (w a:Nat):(bitsN w a).length=w:=by unfold bitsN;rw[List.length_map,List.length_range]
theorem bitsN_get {w a i:Nat} (h:i<w) (d:Bool):(bitsN w a).getD i d=decide (a/2^i%2=1):=by
 unfold bitsN
 rw[List.getD_eq_getElem?_getD,List.getElem?_map,List.getElem?_range h];rfl
def JR (w n:Int):List Bool:=if w=0 then[decide (n=1)] else bitsN w.toNat n.toNat
theorem valB_len {w n:Int} (h:0≤w):(JR w n).length=(max 1 w).toNat:=by
 unfold JR
 split
 ·next e=>rw[e];rfl
 ·rw[bitsN_len];omega
theorem un_bits {op w a:Int} (c:op=1∨op=2) (h:vok w a=true):unV op (JR w a)=JR w (unM op w a):=by
 have hw:=vok_lt h
 unfold JR
 rw[if_neg (by omega),if_neg (by omega)]
 have b:∀w:Fin 5,∀n:Fin 16,1≤w.1→n.1<2^w.1→unV 1 (bitsN w n)=bitsN w (unM 1 w n).toNat∧unV 2 (bitsN w n)=bitsN w (unM 2 w n).toNat:=by decide+kernel
 have:=small1 (p:=fun w n=>unV 1 (bitsN w n)=bitsN w (unM 1 w n).toNat∧unV 2 (bitsN w n)=bitsN w (unM 2 w n).toNat) b h
 rw[show((w.toNat:Nat):Int)=w by omega,show((a.toNat:Nat):Int)=a by omega] at this
 rcases c with rfl|rfl
 ·exact this.1
 ·exact this.2
def Jp0 (op w:Nat):Bool:=(List.range 16).all fun a=>(List.range 16).all fun b=> !(decide (a<2^w)&&decide (b<2^w))||decide (Jn0 op (bitsN w a) (bitsN w b)=bitsN w (binN op w a b))
theorem bin_bits {op w a b:Int} (n:3≤op) (d:op≤13) (j:vok w a=true) (k:vok w b=true):Jn0 op (JR w a) (JR w b)=JR w (QG0 op w a b):=by
 obtain⟨l,m,p,q⟩:=vok_iff.1 j
 obtain⟨_,_,g,i⟩:=vok_iff.1 k
 have e:((2^w.toNat:Nat):Int)=2^w.toNat:=by simp
 have f:2^w.toNat≤2^4:=Nat.pow_le_pow_right (by omega) (by omega)
 have c:∀o:Fin 14,∀v:Fin 5,3≤o.1→1≤v.1→Jp0 o v=true:=by decide+kernel
 have:=c ⟨op.toNat,by omega⟩ ⟨w.toNat,by omega⟩ (by show 3≤op.toNat;omega) (by show 1≤w.toNat;omega)
 simp only[Jp0,List.all_eq_true,List.mem_range,Bool.or_eq_true,Bool.not_eq_true',Bool.and_eq_false_iff,decide_eq_false_iff_not,decide_eq_true_eq] at this
 unfold JR
 rw[if_neg (by omega),if_neg (by omega),if_neg (by omega)]
 rcases this a.toNat (by omega) b.toNat (by omega) with(h|h)|h
 ·exact absurd (by omega) h
 ·exact absurd (by omega) h
 ·rw[show((op.toNat:Nat):Int)=op by omega] at h
  rw[h];unfold QG0;rw[Int.toNat_natCast]
def Jl0 (op w:Nat):Bool:=(List.range 16).all fun a=>(List.range 16).all fun b=> !(decide (a<2^w)&&decide (b<2^w))||(cmpV op (bitsN w a) (bitsN w b)==cmpM op w a b)
theorem cmp_bits {op w a b:Int} (n:15≤op) (d:op≤17) (j:vok w a=true) (k:vok w b=true):cmpV op (JR w a) (JR w b)=cmpM op w a b:=by
 obtain⟨l,m,p,q⟩:=vok_iff.1 j
 obtain⟨_,_,g,i⟩:=vok_iff.1 k
 have e:((2^w.toNat:Nat):Int)=2^w.toNat:=by simp
 have f:2^w.toNat≤2^4:=Nat.pow_le_pow_right (by omega) (by omega)
 have c:∀o:Fin 18,∀v:Fin 5,15≤o.1→1≤v.1→Jl0 o v=true:=by decide+kernel
 have:=c ⟨op.toNat,by omega⟩ ⟨w.toNat,by omega⟩ (by show 15≤op.toNat;omega) (by show 1≤w.toNat;omega)
 simp only[Jl0,List.all_eq_true,List.mem_range,Bool.or_eq_true,Bool.not_eq_true',Bool.and_eq_false_iff,decide_eq_false_iff_not,beq_iff_eq] at this
 unfold JR
 rw[if_neg (by omega),if_neg (by omega)]
 rcases this a.toNat (by omega) b.toNat (by omega) with(h|h)|h
 ·exact absurd (by omega) h
 ·exact absurd (by omega) h
 ·rwa[show((op.toNat:Nat):Int)=op by omega,show((w.toNat:Nat):Int)=w by omega,show((a.toNat:Nat):Int)=a by omega,show((b.toNat:Nat):Int)=b by omega] at h
def Jm0 (w v:Nat):Bool:=(List.range 16).all fun a=>(List.range 16).all fun b=> !(decide (a<2^w)&&decide (b<2^v))||decide (bitsN v b++bitsN w a=bitsN (w+v) (a*2^v+b))
theorem cat_bits {w v a b:Int} (k:vok w a=true) (l:vok v b=true) (hs:w+v≤4):JR v b++JR w a=JR (w+v) (Q90 v a b):=by
 obtain⟨m,n,o,p⟩:=vok_iff.1 k
 obtain⟨q,r,i,j⟩:=vok_iff.1 l
 have e:((2^w.toNat:Nat):Int)=2^w.toNat:=by simp
 have f:((2^v.toNat:Nat):Int)=2^v.toNat:=by simp
 have g:2^w.toNat≤2^4:=Nat.pow_le_pow_right (by omega) (by omega)
 have d:2^v.toNat≤2^4:=Nat.pow_le_pow_right (by omega) (by omega)
 have c:∀w:Fin 5,∀v:Fin 5,1≤w.1→1≤v.1→w.1+v.1≤4→Jm0 w v=true:=by decide+kernel
 have:=c ⟨w.toNat,by omega⟩ ⟨v.toNat,by omega⟩ (by show 1≤w.toNat;omega) (by show 1≤v.toNat;omega) (by show w.toNat+v.toNat≤4;omega)
 simp only[Jm0,List.all_eq_true,List.mem_range,Bool.or_eq_true,Bool.not_eq_true',Bool.and_eq_false_iff,decide_eq_false_iff_not,decide_eq_true_eq] at this
 unfold JR
 rw[if_neg (by omega),if_neg (by omega),if_neg (by omega)]
 rcases this a.toNat (by omega) b.toNat (by omega) with(h|h)|h
 ·exact absurd (by omega) h
 ·exact absurd (by omega) h
 ·rw[h,show(w+v).toNat=w.toNat+v.toNat by omega]
  congr 1
  unfold Q90
  have:((a.toNat*2^v.toNat+b.toNat:Nat):Int)=a*2^v.toNat+b:=by
   rw[Int.natCast_add,Int.natCast_mul,f,show((a.toNat:Nat):Int)=a by omega,show((b.toNat:Nat):Int)=b by omega]
  omega
def Jk0 (w:Nat):Bool:=(List.range 16).all fun a=>(List.range 4).all fun hi=>(List.range 4).all fun lo=> !(decide (a<2^w)&&decide (lo≤hi)&&decide (hi<w))||decide (((bitsN w a).drop lo).take (hi-lo+1)=bitsN (hi-lo+1) (a/2^lo%2^(hi-lo+1)))
theorem cut_bits {w a hi lo:Int} (d:vok w a=true) (f:0≤lo) (l:lo≤hi) (hw:hi<w):((JR w a).drop lo.toNat).take (hi-lo+1).toNat=JR (hi-lo+1) (cutM a hi lo):=by
 obtain⟨g,i,j,k⟩:=vok_iff.1 d
 have e:((2^w.toNat:Nat):Int)=2^w.toNat:=by simp
 have c:2^w.toNat≤2^4:=Nat.pow_le_pow_right (by omega) (by omega)
 have b:∀w:Fin 5,1≤w.1→Jk0 w=true:=by decide+kernel
 have:=b ⟨w.toNat,by omega⟩ (by show 1≤w.toNat;omega)
 simp only[Jk0,List.all_eq_true,List.mem_range,Bool.or_eq_true,Bool.not_eq_true',Bool.and_eq_false_iff,decide_eq_false_iff_not,decide_eq_true_eq] at this
 unfold JR
 rw[if_neg (by omega),if_neg (by omega)]
 rcases this a.toNat (by omega) hi.toNat (by omega) lo.toNat (by omega) with((h|h)|h)|h
 ·exact absurd (by omega) h
 ·exact absurd (by omega) h
 ·exact absurd (by omega) h
 ·rw[show(hi-lo+1).toNat=hi.toNat-lo.toNat+1 by omega,h]
  congr 1
  unfold cutM
  rw[show(hi-lo+1).toNat=hi.toNat-lo.toNat+1 by omega]
  have:((a.toNat/2^lo.toNat%2^(hi.toNat-lo.toNat+1):Nat):Int)=a/2^lo.toNat%2^(hi.toNat-lo.toNat+1):=by
   rw[Int.natCast_emod,Int.natCast_ediv,show((a.toNat:Nat):Int)=a by omega]
   simp
  omega
def insM:List Dcl→List Int→List Bool
 |d::ds,n::env=>(bitsN d.2.toNat n.toNat).reverse++insM ds env
 |_,_=>[]
def nameB (ds:List Dcl) (k:Nat):List Int:=(List.range ((ds.getD k (nada,0)).2).toNat).map fun(j:Nat)=>2+bits (ds.take k)+(ds.getD k (nada,0)).2-1-j
def fixB (w n:Int):List Int:=(List.range w.toNat).map fun(j:Nat)=>if n.toNat/2^j%2=1 then 1 else-1
def nodeB (ds:List Dcl) (t:Tm) (rs:List (List Int)):Bd (List Int):=
 if t.op=20 then .ret (fixB t.a t.b)
 else if t.op=21 then .ret (nameB ds (findD ds t.s).toNat)
 else if t.op=24 then .ret [1]
 else if t.op=25 then .ret [-((rs.getD 0 []).getD 0 0)]
 else if t.op=26 then .and ((rs.getD 0 []).getD 0 0) ((rs.getD 1 []).getD 0 0) fun v=> .ret [v]
 else if t.op=27 then(orB ((rs.getD 0 []).getD 0 0) ((rs.getD 1 []).getD 0 0)).map fun v=>[v]
 else if t.op=23 then eachB (muxB ((rs.getD 0 []).getD 0 0)) (rs.getD 1 []) (rs.getD 2 [])
 else if t.op=22 then .ret (((rs.getD 0 []).drop t.b.toNat).take (t.a-t.b+1).toNat)
 else if t.op≤2 then unB t.op (rs.getD 0 [])
 else if 15≤t.op∧t.op≤17 then(cmpB t.op (rs.getD 0 []) (rs.getD 1 [])).map fun v=>[v]
 else binB t.op (rs.getD 0 []) (rs.getD 1 [])
def seqB:List (Bd (List Int))→Bd (List (List Int))
 |p::ps=>p.bind fun r=>(seqB ps).map (r:: ·)
 |[]=> .ret []
def termB (ds:List Dcl):Tm→Bd (List Int):=Tm.fold fun t ps=>(seqB ps).bind (nodeB ds t)
theorem termB_eq (ds:List Dcl) (t:Tm):termB ds t=(seqB (t.ks.map (termB ds))).bind (nodeB ds t):=Tm.fold_eq _ t
theorem K2 (d:Dcl) (ds:List Dcl):bits (d::ds)=d.2+bits ds:=by unfold bits;rw[List.map_cons,List.sum_cons]
theorem insM_len:∀{ds:List Dcl} {env:List Int},env.length=ds.length→(∀d,d∈ds→0≤d.2)→((insM ds env).length:Int)=bits ds
 |[],env,_,_=>by cases env<;>rfl
 |d::ds,[],a,_=>by simp at a
 |d::ds,n::env,a,b=>by
  have f:=insM_len (ds:=ds) (env:=env) (by simpa using a) fun x c=>b x (List.mem_cons_of_mem _ c)
  have e:=b d List.mem_cons_self
  simp only[insM,List.length_append,List.length_reverse,bitsN_len,K2]
  omega
theorem bits_pos' {ds:List Dcl}:(∀d,d∈ds→0≤d.2)→0≤bits ds:=by
 induction ds with
 |nil=>intro _;exact Int.le_refl _
 |cons d ds b=>
  intro h
  have:=h d List.mem_cons_self
  have:=b fun x a=>h x (List.mem_cons_of_mem _ a)
  rw[K2];omega
theorem insM_get:∀{ds:List Dcl} {env:List Int} {k i:Nat},env.length=ds.length→(∀d,d∈ds→0≤d.2)→k<ds.length→(i:Int)<(ds.getD k (nada,0)).2→
  (insM ds env).getD ((bits (ds.take k)).toNat+i) false=decide ((env.getD k 0).toNat/2^((ds.getD k (nada,0)).2.toNat-1-i)%2=1)
 |d::ds,n::env,0,i,e,f,c,hi=>by
  have b:i<d.2.toNat:=by have:(i:Int)<d.2:=hi;omega
  show((bitsN d.2.toNat n.toNat).reverse++insM ds env).getD (0+i) false=decide (n.toNat/2^(d.2.toNat-1-i)%2=1)
  rw[Nat.zero_add,List.getD_eq_getElem?_getD,List.getElem?_append_left (by rw[List.length_reverse,bitsN_len];exact b),List.getElem?_reverse (by rw[bitsN_len];exact b),bitsN_len,←List.getD_eq_getElem?_getD,bitsN_get (by omega)]
 |d::ds,n::env,k+1,i,e,f,c,hi=>by
  have a:∀x,x∈ds→0≤x.2:=fun x g=>f x (List.mem_cons_of_mem _ g)
  have h:=insM_get (ds:=ds) (env:=env) (k:=k) (i:=i) (by simpa using e) a (by simpa using c) (by simpa using hi)
  have j:=f d List.mem_cons_self
  have l:=bits_pos' (ds:=ds.take k) fun x g=>a x (List.mem_of_mem_take g)
  show((bitsN d.2.toNat n.toNat).reverse++insM ds env).getD ((bits (d::ds.take k)).toNat+i) false=_
  rw[K2,List.getD_eq_getElem?_getD,List.getElem?_append_right (by rw[List.length_reverse,bitsN_len];omega),←List.getD_eq_getElem?_getD,List.length_reverse,bitsN_len,show(d.2+bits (ds.take k)).toNat+i-d.2.toNat=(bits (ds.take k)).toNat+i by omega,h]
  simp only[List.getD_cons_succ]
 |[],_,_,_,_,_,c,_=>by simp at c
 |_::_,[],_,_,e,_,_,_=>by simp at e
section
variable {ρ:Int→Bool} {ds:List Dcl} {env:List Int}
def Ins (ρ:Int→Bool) (ds:List Dcl) (env:List Int):Prop:=∀i:Nat,i<(insM ds env).length→ρ (2+i)=(insM ds env).getD i false
theorem dpos (h:declOk ds=true):∀d,d∈ds→0≤d.2:=fun d b=>by
 obtain⟨j,a,rfl⟩:=List.getElem_of_mem b
 have:=dcl_wide h a
 rw[List.getD_eq_getElem?_getD,List.getElem?_eq_getElem a] at this
 simp at this;omega
theorem bits_le {k:Nat} (h:declOk ds=true) (b:k<ds.length):bits (ds.take k)+(ds.getD k (nada,0)).2≤bits ds∧0≤bits (ds.take k):=by
 have c:=dpos h
 have e:bits ds=bits (ds.take k)+bits (ds.drop k):=by
  unfold bits
  rw[←List.sum_append,←List.map_append,List.take_append_drop]
 have d:ds.drop k=ds.getD k (nada,0)::ds.drop (k+1):=by
  rw[List.drop_eq_getElem_cons b,List.getD_eq_getElem?_getD,List.getElem?_eq_getElem b];rfl
 have f:=bits_pos' (ds:=ds.drop (k+1)) fun x a=>c x (List.mem_of_mem_drop a)
 rw[d,K2] at e
 exact⟨by omega,bits_pos' fun x a=>c x (List.mem_of_mem_take a)⟩
theorem name_has {k m:Nat} (h:declOk ds=true) (c:k<ds.length) (hm:1+bits ds≤m):hasL m (nameB ds k):=fun x d=>by
 obtain⟨j,a,rfl⟩:=List.mem_map.1 d
 have b:=List.mem_range.1 a
 have:=bits_le h c
 exact⟨by omega,by omega,by omega⟩
theorem name_bits (he:envOk ds env=true) (hi:Ins ρ ds env) {k:Nat} (b:k<ds.length):(nameB ds k).map ρ=bitsN ((ds.getD k (nada,0)).2).toNat (env.getD k 0).toNat:=by
 obtain⟨a,c,h⟩:=env_ok he
 have g:=bits_le a b
 have hlen:=insM_len c (dpos a)
 unfold nameB bitsN
 rw[List.map_map]
 refine List.map_congr_left fun j d=>?_
 have f:=List.mem_range.1 d
 have e:(2+bits (ds.take k)+(ds.getD k (nada,0)).2-1-(j:Int))=2+(((bits (ds.take k)).toNat+((ds.getD k (nada,0)).2.toNat-1-j):Nat):Int):=by omega
 show ρ (2+bits (ds.take k)+(ds.getD k (nada,0)).2-1-(j:Int))=_
 rw[e,hi _ (by omega),insM_get c (dpos a) b (by omega)]
 rw[show(ds.getD k (nada,0)).2.toNat-1-((ds.getD k (nada,0)).2.toNat-1-j)=j by omega]
theorem QA0 {k:Nat} {w n:Int} (a:1≤k):hasL k (fixB w n):=fun x b=>by
 obtain⟨j,_,rfl⟩:=List.mem_map.1 b
 split
 ·exact has_one a
 ·exact has_mone a
theorem Xy0 (h:Rho ρ) {w n:Int}:(fixB w n).map ρ=bitsN w.toNat n.toNat:=by
 unfold fixB bitsN
 rw[List.map_map]
 refine List.map_congr_left fun j _=>?_
 show ρ (if _ then _ else _)=_
 split
 ·next e=>rw[h.one,decide_eq_true e]
 ·next e=>rw[h.mone,decide_eq_false e]
theorem seq_sat {k0:Nat} {f:Tm→Bd (List Int)} {g:Tm→List Bool}:∀{ks:List Tm} {k:Nat} {Q:Nat→List (List Int)→Prop},k0≤k→(∀t,t∈ks→∀{k:Nat} {Q:Nat→List Int→Prop},k0≤k→(∀a r,k≤a→hasL a r→r.map ρ=g t→Q a r)→Says ρ k (f t) Q)→
  (∀a rs,k≤a→(∀r,r∈rs→hasL a r)→rs.map (fun r=>r.map ρ)=ks.map g→Q a rs)→Says ρ k (seqB (ks.map f)) Q:=by
 intro ks
 induction ks with
 |nil=>intro k Q _ _ b;exact b k [] (Nat.le_refl _) (fun r c=>by cases c) rfl
 |cons t ks l=>
  intro k Q j h b
  refine Says.bind (h t List.mem_cons_self j fun o r n c rr=>?_)
  refine Says.bind (l (by omega) (fun u hu=>h u (List.mem_cons_of_mem _ hu)) fun m rs i d rrs=>?_)
  refine b m (r::rs) (by omega) (fun x e=>?_) (by rw[List.map_cons,List.map_cons,rr,rrs])
  rcases List.mem_cons.1 e with rfl|e
  ·exact c.mono i
  ·exact d x e
theorem QM (n:Int):JR 0 n=[decide (n=1)]:=rfl
theorem head_rho {r:List Int} {b:Bool} (h:r.map ρ=[b]):r.length=1∧ρ (r.getD 0 0)=b:=by
 match r,h with
 |[x],h=>exact⟨rfl,by simpa using h⟩
theorem node_sat (h:Rho ρ) (he:envOk ds env=true) (hi:Ins ρ ds env) {t:Tm} (hs:sortM ds t≠ -1) {k:Nat} (hk:1+bits ds≤k) {rs:List (List Int)} (a1:∀r,r∈rs→hasL k r)
  (J:rs.map (fun r=>r.map ρ)=t.ks.map fun u=>JR (sortM ds u) (evalM ds env u)) {Q:Nat→List Int→Prop}
  (j:∀z r,k≤z→hasL z r→r.map ρ=JR (sortM ds t) (evalM ds env t)→Q z r):Says ρ k (nodeB ds t rs) Q:=by
 obtain⟨hd,P,Z⟩:=env_ok he
 obtain⟨hf,a6,a2⟩:=sort_parts hs
 have a4:0≤bits ds:=bits_pos' (dpos hd)
 have G:1≤k:=by omega
 simp only[formed,Bool.and_eq_true,decide_eq_true_eq] at hf
 obtain⟨n,a8⟩:=hf
 have a3:=arity_ops (o:=t.op) (by omega)
 have a7:rs.length=t.ks.length:=by have:=congrArg List.length J;simpa using this
 have q:∀i,i<t.ks.length→(t.ks.map (sortM ds)).getD i 0=sortM ds (kid t i):=fun i hi=>getD_map _ hi _ _
 have E:∀i,i<t.ks.length→(t.ks.map (vecM ds env)).getD i (0,0)=(sortM ds (kid t i),evalM ds env (kid t i)):=fun i hi=>by
  rw[getD_map _ hi _ default,vecM_pair];rfl
 have H:∀i,i<t.ks.length→inS (sortM ds (kid t i)) (evalM ds env (kid t i)):=fun i hi=>Je0 he hs hi
 have K:∀i,i<t.ks.length→hasL k (rs.getD i [])∧(rs.getD i []).map ρ=JR (sortM ds (kid t i)) (evalM ds env (kid t i)):=fun i w=>by
  refine⟨a1 _ (getD_mem (by omega) _),?_⟩
  have e:=congrArg (fun l=>l.getD i []) J
  rw[getD_map _ (by omega) [] [],getD_map _ w [] default] at e
  exact e
 have d:=evalM_eq ds env t
 rw[a2] at hs j
 unfold sortK at hs j
 unfold valK at d
 unfold nodeB
 by_cases V:t.op=20
 ·simp only[V,if_true] at hs j d⊢
  by_cases hv':vok t.a t.b=true
  ·rw[if_pos hv'] at hs j
   have:=vok_lt hv'
   refine j k _ (Nat.le_refl _) (QA0 G) ?_
   rw[Xy0 h,d]
   unfold JR
   rw[if_neg (by omega)]
  ·rw[if_neg hv'] at hs;exact absurd rfl hs
 simp only[if_neg V] at hs j d⊢
 by_cases W:t.op=21
 ·simp only[W,if_true] at hs j d⊢
  have a5:=findD_lt ds t.s
  by_cases R:findD ds t.s<0
  ·rw[if_pos R] at hs;exact absurd rfl hs
  ·rw[if_neg R] at hs j
   have hj:(findD ds t.s).toNat<ds.length:=by omega
   have hw:=dcl_wide hd hj
   refine j k _ (Nat.le_refl _) (name_has hd hj hk) ?_
   rw[name_bits he hi hj,d]
   unfold JR
   rw[if_neg (by omega)]
 simp only[if_neg W] at hs j d⊢
 by_cases X:24≤t.op
 ·simp only[if_pos X] at hs j
  by_cases R:(t.ks.map (sortM ds)).any (fun x=>decide (x≠0))=true
  ·rw[if_pos R] at hs;exact absurd rfl hs
  ·rw[if_neg R] at hs j
   have hz:∀i,i<t.ks.length→sortM ds (kid t i)=0:=fun i w=>by
    simp only[List.any_eq_true,decide_eq_true_eq,not_exists,not_and,Decidable.not_not] at R
    exact R _ (List.mem_map_of_mem (getD_mem w _))
   have Y:∀i,i<t.ks.length→has k ((rs.getD i []).getD 0 0)∧ρ ((rs.getD i []).getD 0 0)=decide (evalM ds env (kid t i)=1)∧(evalM ds env (kid t i)=0∨evalM ds env (kid t i)=1):=fun i w=>by
    obtain⟨I,F⟩:=K i w
    rw[hz i w,QM] at F
    obtain⟨l1,l2⟩:=head_rho F
    have U:=H i w
    rw[hz i w] at U
    exact⟨JY I (by omega) 0,l2,inS_zero U⟩
   simp only[QM] at j
   rcases(by omega:t.op=24∨t.op=25∨t.op=26∨t.op=27) with e|e|e|e
   ·rw[if_pos e] at d⊢
    exact j k _ (Nat.le_refl _) (hasL_cons.2 ⟨has_one G,fun x q=>by cases q⟩) (by rw[List.map_singleton,h.one,d];rfl)
   ·rw[if_neg (by omega),if_pos e] at d⊢
    have h1:t.ks.length=1:=by rw[e] at n;simp[arity] at n;omega
    obtain⟨b1,b2,b3⟩:=Y 0 (by omega)
    rw[E 0 (by omega)] at d
    refine j k _ (Nat.le_refl _) (hasL_cons.2 ⟨has_neg b1,fun x q=>by cases q⟩) ?_
    rw[List.map_singleton,h.neg _ b1.1,b2,d]
    rcases b3 with b3|b3<;>simp only[b3]<;>rfl
   ·rw[if_neg (by omega),if_neg (by omega),if_pos e] at d⊢
    have h1:t.ks.length=2:=by rw[e] at n;simp[arity] at n;omega
    obtain⟨b1,b2,b3⟩:=Y 0 (by omega)
    obtain⟨c1,c2,c3⟩:=Y 1 (by omega)
    rw[E 0 (by omega),E 1 (by omega)] at d
    refine⟨b1,c1,fun z v p Z T=>j z _ p (hasL_cons.2 ⟨Z,fun x q=>by cases q⟩) ?_⟩
    rw[List.map_singleton,T,b2,c2,d]
    rcases b3 with b3|b3<;>rcases c3 with c3|c3<;>simp only[b3,c3]<;>rfl
   ·rw[if_neg (by omega),if_neg (by omega),if_neg (by omega),if_pos e] at d⊢
    have h1:t.ks.length=2:=by rw[e] at n;simp[arity] at n;omega
    obtain⟨b1,b2,b3⟩:=Y 0 (by omega)
    obtain⟨c1,c2,c3⟩:=Y 1 (by omega)
    rw[E 0 (by omega),E 1 (by omega)] at d
    refine Says.bind (kI0 h b1 c1 fun z v p Z T=>j z _ p (hasL_cons.2 ⟨Z,fun x q=>by cases q⟩) ?_)
    rw[List.map_singleton,T,b2,c2,d]
    rcases b3 with b3|b3<;>rcases c3 with c3|c3<;>simp only[b3,c3]<;>rfl
 simp only[if_neg X,if_neg (show¬t.op=24 by omega),if_neg (show¬t.op=25 by omega),if_neg (show¬t.op=26 by omega),if_neg (show¬t.op=27 by omega)] at hs j d⊢
 by_cases O:t.op=23
 ·simp only[O,if_true] at hs j d⊢
  have U:t.ks.length=3:=by rw[O] at n;simp[arity] at n;omega
  rw[q 0 (by omega),q 1 (by omega),q 2 (by omega)] at hs j
  rw[E 0 (by omega),E 1 (by omega),E 2 (by omega)] at d
  by_cases m:sortM ds (kid t 0)=0∧sortM ds (kid t 1)=sortM ds (kid t 2)
  ·rw[if_pos m] at hs j
   obtain⟨I,F⟩:=K 0 (by omega)
   obtain⟨p1,p2⟩:=K 1 (by omega)
   obtain⟨q1,q2⟩:=K 2 (by omega)
   rw[m.1,QM] at F
   obtain⟨l1,l2⟩:=head_rho F
   have a0:has k ((rs.getD 0 []).getD 0 0):=JY I (by omega) 0
   refine each_sat (C:=fun k=>has k ((rs.getD 0 []).getD 0 0)) (g:=fun a b=>if ρ ((rs.getD 0 []).getD 0 0) then a else b) (fun _ _ h P=>has_mono h P) (fun m q E hq=>mux_sat h m q E hq) a0 p1 q1 fun z r p B rr=>j z r p B ?_
   have hlen:∀{a b:List Bool},a.length=b.length→∀c:Bool,eachV (fun x y=>if c then x else y) a b=if c then a else b:=fun{a b}=>by
    induction a generalizing b with
    |nil=>
     intro P c;cases b with
     |nil=>cases c<;>rfl
     |cons y b=>simp at P
    |cons x a ih=>
     intro P c;cases b with
     |nil=>simp at P
     |cons y b=>simp only[eachV];rw[ih (by simpa using P) c];cases c<;>rfl
   rw[rr,p2,q2,hlen (by rw[←m.2];unfold JR;split<;>simp[bitsN_len]),l2,d]
   simp only
   by_cases D:evalM ds env (kid t 0)=1
   ·rw[if_pos D,decide_eq_true D,if_pos rfl]
   ·rw[if_neg D,decide_eq_false D,if_neg (by decide),m.2]
  ·rw[if_neg m] at hs;exact absurd rfl hs
 simp only[if_neg O] at hs j d⊢
 by_cases N:t.op=22
 ·simp only[N,if_true] at hs j d⊢
  have U:t.ks.length=1:=by rw[N] at n;simp[arity] at n;omega
  rw[q 0 (by omega)] at hs j
  rw[E 0 (by omega)] at d
  by_cases m:0≤t.b∧t.b≤t.a∧t.a<sortM ds (kid t 0)
  ·rw[if_pos m] at hs j
   obtain⟨I,F⟩:=K 0 (by omega)
   have S:=inS_pos (H 0 (by omega)) (by omega)
   refine j k _ (Nat.le_refl _) (W6 fun x q=>I x (List.mem_of_mem_drop q)) ?_
   rw[List.map_take,List.map_drop,F,cut_bits S m.1 m.2.1 m.2.2,d]
  ·rw[if_neg m] at hs;exact absurd rfl hs
 simp only[if_neg N] at hs j d⊢
 by_cases h2:t.op≤2
 ·simp only[if_pos h2] at hs j d⊢
  have ho:t.op=1∨t.op=2:=by omega
  have U:t.ks.length=1:=by rcases ho with e|e<;>rw[e] at n<;>simp[arity] at n<;>omega
  rw[q 0 (by omega)] at hs j
  rw[E 0 (by omega)] at d
  by_cases m:0<sortM ds (kid t 0)
  ·rw[if_pos m] at hs j
   obtain⟨I,F⟩:=K 0 (by omega)
   have S:=inS_pos (H 0 (by omega)) m
   refine J30 h G I fun z r p B rr=>j z r p B ?_
   rw[rr,F,un_bits ho S,d]
  ·rw[if_neg m] at hs;exact absurd rfl hs
 simp only[if_neg h2] at hs j d⊢
 have U:t.ks.length=2:=by
  unfold arity at n
  rw[if_neg (by omega),if_neg (by omega),if_neg (by omega),if_neg (by omega),if_pos (by omega)] at n
  omega
 rw[q 0 (by omega),q 1 (by omega)] at hs j
 rw[E 0 (by omega),E 1 (by omega)] at d
 obtain⟨I,F⟩:=K 0 (by omega)
 obtain⟨p1,p2⟩:=K 1 (by omega)
 have i0:=H 0 (by omega)
 have i1:=H 1 (by omega)
 have f:=congrArg List.length F
 have A:=congrArg List.length p2
 rw[List.length_map] at f A
 by_cases L:t.op=14
 ·simp only[L,if_true] at hs j d
  by_cases m:0<sortM ds (kid t 0)∧0<sortM ds (kid t 1)∧sortM ds (kid t 0)+sortM ds (kid t 1)≤4
  ·rw[if_pos m] at hs j
   have v0:=inS_pos i0 m.1
   have v1:=inS_pos i1 m.2.1
   rw[valB_len (by omega)] at f
   rw[if_neg (by omega)]
   refine bin_sat h G I p1 (fun e=>by rw[e] at f;simp at f;omega) fun z r p B rr=>j z r p B ?_
   rw[rr,F,p2,L]
   unfold Jn0
   rw[if_pos rfl,cat_bits v0 v1 m.2.2,d]
  ·rw[if_neg m] at hs;exact absurd rfl hs
 simp only[if_neg L] at hs j d
 by_cases M:15≤t.op
 ·simp only[if_pos M] at hs j d
  by_cases m:0<sortM ds (kid t 0)∧sortM ds (kid t 0)=sortM ds (kid t 1)
  ·rw[if_pos m] at hs j
   have v0:=inS_pos i0 m.1
   have v1:vok (sortM ds (kid t 0)) (evalM ds env (kid t 1))=true:=by rw[m.2];exact inS_pos i1 (by omega)
   rw[valB_len (by omega)] at f A
   rw[if_pos (by omega)]
   refine Says.bind (QF0 h G I p1 (by rw[f,A,m.2]) (fun e=>by rw[e] at f;simp at f;omega) fun z v p hv' rv=>j z _ p (hasL_cons.2 ⟨hv',fun x q=>by cases q⟩) ?_)
   rw[List.map_singleton,rv,F,p2,←m.2,cmp_bits M (by omega) v0 v1,d,QM]
   cases cmpM t.op (sortM ds (kid t 0)) (evalM ds env (kid t 0)) (evalM ds env (kid t 1))<;>rfl
  ·rw[if_neg m] at hs;exact absurd rfl hs
 simp only[if_neg M] at hs j d
 by_cases m:0<sortM ds (kid t 0)∧sortM ds (kid t 0)=sortM ds (kid t 1)
 ·rw[if_pos m] at hs j
  have v0:=inS_pos i0 m.1
  have v1:vok (sortM ds (kid t 0)) (evalM ds env (kid t 1))=true:=by rw[m.2];exact inS_pos i1 (by omega)
  rw[valB_len (by omega)] at f
  rw[if_neg (by omega)]
  refine bin_sat h G I p1 (fun e=>by rw[e] at f;simp at f;omega) fun z r p B rr=>j z r p B ?_
  rw[rr,F,p2,←m.2,bin_bits (by omega) (by omega) v0 v1,d]
 ·rw[if_neg m] at hs;exact absurd rfl hs
theorem term_sat (h:Rho ρ) (he:envOk ds env=true) (hi:Ins ρ ds env):∀t:Tm,sortM ds t≠ -1→∀{k:Nat} {Q:Nat→List Int→Prop},1+bits ds≤k→
  (∀a r,k≤a→hasL a r→r.map ρ=JR (sortM ds t) (evalM ds env t)→Q a r)→Says ρ k (termB ds t) Q:=by
 refine Tm.ind fun t j hs k Q o c=>?_
 rw[termB_eq]
 refine Says.bind (seq_sat (k0:=k) (g:=fun u=>JR (sortM ds u) (evalM ds env u)) (Nat.le_refl _) (fun u hu=>fun{p m} e f=>j u hu ((sort_parts hs).2.1 u hu) (by omega) f) fun a rs d b hm=>?_)
 exact node_sat h he hi hs (by omega) b hm fun l r n i rr=>c l r (by omega) i rr
end
end Go.M
end
