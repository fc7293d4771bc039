import Derived.Test.YtaemeijeaajoeaaGreatDoorWraP4
import Derived.Test.YtaemeijeaajoeaaGreatDoorWraP2
import Derived.Test.YtaemeijeaajoeaaGreatDoorWraP3
import Derived.Test.YtaemeijeaajoeaaGreatDoorWraP1
import Derived.Laws.CopyRow
import Derived.Laws.IdiomCopy
/- A part of the proof. -/
set_option linter.unusedVariables false
set_option linter.unusedSimpArgs false
set_option linter.unnecessarySimpa false
set_option linter.unusedSectionVars false
section
namespace Go.Proofs.YtaemeijeaajoeaaGreatDoor
open Go Go.Vc Go.Proofs
variable {w:World} {K:Value→World→Prop} {F F' D G:Nat→Prop}
theorem strof_spec {b p:Nat} {v vs:Value} {xs:List Nat} {ss:List ByteArray} (h:RdR F w b v xs p) (i:Vals F' w vs (ss.map .string)) (d:ss≠[]) (o:ss.length<=1000) (n:p<1099511627776) (c:∀x,F' x->x≠b)
  (l:∀w' s,Same (· =b) w w'->w'.heap.size=w.heap.size->RdR F w' b v xs (p+1)->s∈ss->K (.string s) w'):vcall PP yE #[.pointer (some ⟨b,0,none⟩),vs] w K:=by
 apply Xq;unfold kk;have f:=List.length_pos_iff.2 d;have y:(ss.map Value.string).length=ss.length:=List.length_map _;simp(disch:=(simp only[push_cast];done)) only[push_cast,i.len];refine pick_spec h (by omega) n fun t k g r m j _=>?_;have u:=j (by omega);have a:=i.same g fun x q _ e=>c x q e;rw[a.iaddr (by kernel_rfl) (by omega) (by omega),Int.toNat_natCast,a.load (by kernel_rfl) (by omega),M.getD_map _ (by omega) _ M.nada];exact l t _ g r m (M.getD_mem (by omega) _)
theorem of_lit {b p:Nat} {v:Value} {xs:List Nat} {ss:List ByteArray} (h:RdR F w b v xs p) (hF:∀x,F x->x<w.heap.size) (c:ss≠[]) (d:ss.length<=1000) (n:p<1099511627776) (k:∀a s,Same (· =b) w a->RdR F a b v xs (p+1)->s∈ss->K (.string s) a):
  vbuildS PP zD ss.length ((ss.map Value.string).zipIdx.map fun p=>(p.2,p.1)) w fun s a=>vcall PP yE #[.pointer (some ⟨b,0,none⟩),s] a K:=by
 have:=vbuildS_row1 (w:=w) (K:=fun s a=>vcall PP yE #[.pointer (some ⟨b,0,none⟩),s] a K) (t:=zD) (xs:=ss.map Value.string) qz (by kernel_rfl) qu (fun x f=>by obtain⟨y,_,rfl⟩:=List.mem_map.1 f;rfl) (by rw[List.length_map];omega) fun g w' u i z j=>by
  have q:Vals (· =g) w' (.slice (some ⟨g,0,none⟩) (ss.map Value.string).length (ss.map Value.string).length) (ss.map Value.string):=j.sl1 rfl (by rw[List.length_map];omega);have:=h.blk.lt;refine strof_spec (h.ext i) q c d n (fun x f e=>by subst f;omega) fun r m o A l hm=>?_;exact k r m ((Same.of_ext i).trans o) l hm
 rwa[List.length_map] at this
theorem num_lit {b p:Nat} {v:Value} {xs:List Nat} {ns:List Int} (h:RdR F w b v xs p) (c:ns≠[]) (d:ns.length<=1000) (n:p<1099511627776) (k:∀a m,Same (· =b) w a->RdR F a b v xs (p+1)->m∈ns->K (.int .i64 m) a):
  vbuildS PP y1 ns.length ((ns.map fun x=>Value.int .i64 x).zipIdx.map fun p=>(p.2,p.1)) w fun s a=>vcall PP zT #[.pointer (some ⟨b,0,none⟩),s] a K:=by
 have:=vbuildS_row1 (w:=w) (K:=fun s a=>vcall PP zT #[.pointer (some ⟨b,0,none⟩),s] a K) (t:=y1) (xs:=ns.map fun x=>Value.int .i64 x) K0 jQ J5 (fun x f=>by obtain⟨y,_,rfl⟩:=List.mem_map.1 f;rfl) (by simp;omega) fun g w' u i z j=>by
  have q:Ints (· =g) w' (.slice (some ⟨g,0,none⟩) (ns.map fun x=>Value.int .i64 x).length (ns.map fun x=>Value.int .i64 x).length) ns:=j.sl1 rfl (by simp;omega);have:=h.blk.lt;refine num_spec (h.ext i) q c d n (fun x f e=>by subst f;omega) fun r m o A l hm=>?_;exact k r m ((Same.of_ext i).trans o) l hm
 rwa[List.length_map] at this
def Dsm (ds:List M.Dcl):Prop:=ds.length≤7∧∀i,i<ds.length→(ds.getD i Yy).1.size≤5
theorem dsm_sized {ds:List M.Dcl} (h:Dsm ds):Vg ds:=fun i a=>by have:=h.2 i a;omega
theorem V1 {ds:List M.Dcl} {k j:Nat} {d:M.Dcl} (a:k<ds.length):(ds.set k d).getD j Yy=if k=j then d else ds.getD j Yy:=by
 rw[List.getD_eq_getElem?_getD,List.getElem?_set];split
 ·rename_i e;rfl
 ·rw[<-List.getD_eq_getElem?_getD]
theorem KH {ds:List M.Dcl} {k:Nat} {d:M.Dcl} (c:List Value) (a:c=[Value.string d.1,Value.int .i64 d.2]):(ds.map fun d=>[Value.string d.1,Value.int .i64 d.2]).set k c=(ds.set k d).map fun d=>[Value.string d.1,Value.int .i64 d.2]:=by
 rw[List.map_set,a]
theorem Jl {b:Nat} (h:Blk w b [] zp):OwnD w (.slice (some ⟨b,0,none⟩) 0 0) []:=Blk.ownk (css:=[]) (by rw[ZN];exact h) (by simp) rfl (by decide)
abbrev Xk (ds:List M.Dcl):List (List Value):=ds.map fun d=>[Value.string d.1,Value.int .i64 d.2]
theorem one_cellsD {ds:List M.Dcl}:∀y,y∈Xk ds->∀c,c∈y->c.oneCell'=true:=fun y b c a=>by
 obtain⟨d,_,rfl⟩:=List.mem_map.1 b;simp only[List.mem_cons,List.not_mem_nil,or_false] at a;rcases a with rfl|rfl<;>rfl
def Dsn (n:Nat) (ds:List M.Dcl):Prop:=ds.length≤n∧∀i,i<ds.length→(ds.getD i Yy).1.size≤5
theorem dsn_up {n:Nat} {ds:List M.Dcl} (h:Dsn n ds):Dsn (n+2) ds:=⟨by have:=h.1;omega,h.2⟩
theorem Wv {ds:List M.Dcl} (h:Dok ds):Dsn 5 ds:=⟨h.1,fun i a=>by have:=(h.2 i a).2.2;omega⟩
theorem l2Spoil_spec2 {n b p:Nat} {v dv:Value} {xs:List Nat} {ds:List M.Dcl} (h:RdR F w b v xs p) (hF:∀x,F x->x<w.heap.size) (hd:DclsR D w dv ds) (hD:∀x,D x->x≠b) (hD1:∀x,D x->x<w.heap.size) (u:Dsn n ds) (ak:n<=100) (hp:p+10<1099511627776)
  (hK:∀w' p' X W,Same (· =b) w w'->RdR F w' b v xs p'->p'<=p+10->DclsR (fun x=>w.heap.size<=x) w' X W->Dsn (n+2) W->K X w'):vcall PP xQ #[.pointer (some ⟨b,0,none⟩),dv] w K:=by
 apply XQ;unfold Z0;have lb:=h.blk.lt;have hlen:=u.1;refine vbuildS_row (xs:=[]) (us:=[]) (k:=2) xU qv xk rfl (by simp) (by decide) fun b1 w1 au E ax h1=>?_;have an:=Jl h1;refine vappend (F:=D) (ys:=Xk ds) kh (by decide) an (show Sl D w1 2 dv (Xk ds) from hd.ext E) one_cellsD (Nat.zero_le _) (by simp;omega) (by simp;omega) fun ov w2 L ab al=>?_;replace L:OwnD w2 ov ds:=L;have ay:=E.size;have az:=ab.size;have I:Same (· =b1) w1 w2:=ab.mono fun x _ g=>(Option.some.inj g).symm;have B:∀x,ov.ownBlock=some x->w.heap.size<=x:=fun x g=>by
  rcases al x g with g|g
  ·have e:x=b1:=(Option.some.inj g).symm;omega
  ·omega
 have a6:Same (· =b) w w2:=same_new (Same.of_ext E) I (by omega);have Y:RdR F w2 b v xs p:=(h.ext E).new I (by omega) fun x g e=>by have:=hF x g;omega
 have ai:DclsR D w2 dv ds:=(hd.ext E).same I fun x g _ e=>by have:=hD1 x g;omega
 have H:∀V p3 J,Same (· =b) w V->RdR F V b v xs p3->p3<=p+10->OwnD V ov J->Dsn (n+2) J->K ov V:=fun V p3 J R hR ao ho aj=>hK V p3 ov J R hR ao (ho.dcls.weaken fun x g _=>B x g) aj;simp(disch:=(simp only[push_cast];done)) only[push_cast,ai.len];refine zd (fun a=>?_) (fun a=>?_)
 ·exact H _ _ _ a6 Y (by omega) L (dsn_up u)
 refine pick_spec Y (by omega) (by omega) fun V k a7 b0 af hk _=>?_;have av:=hk (by omega);refine pick_spec af (by omega) (by omega) fun w4 c a8 b2 C hc _=>?_;have N:OwnD w4 ov ds:=(L.same a7 fun x g e=>by have:=B x g;omega).same a8 fun x g e=>by have:=B x g;omega
 have f:=(a6.trans a7).trans a8;have ac:=f.size;have ae:∀x,F x->x<w4.heap.size:=fun x g=>Nat.lt_of_lt_of_le (hF x g) ac;have t:∀{A:World} {p5:Nat} {d:M.Dcl} {x:Value} {j:Nat} {e:TypeId},OwnD A ov ds->Same (· =b) w A->RdR F A b v xs p5->p5<=p+10->x.cells= #[x]->x.oneCell'=true->jy PP e 1=true->j<2->([Value.string (ds.getD k Yy).1,Value.int .i64 (ds.getD k Yy).2].set j x)=[Value.string d.1,Value.int .i64 d.2]->d.1.size<=5->
   zk PP e (.pointer (some ((eaddr ov 2 k).add j))) x A fun _ Q=>K ov Q:=by
  intro A p5 d x j e ho R hR ap aq ar hz hj aa U;refine Own.stCell ho aq ar hz (by rw[List.length_map];omega) hj fun Q O o _=>?_;have hg:(Xk ds).getD k []=[Value.string (ds.getD k Yy).1,Value.int .i64 (ds.getD k Yy).2]:=YW (by omega);rw[show(ds.map fun d=>[Value.string d.1,Value.int .i64 d.2]).getD k []=_ from hg,aa,KH (d:=d) _ rfl] at O;have a9:Same (· =b) w Q:=⟨o.os.trans R.os,o.tape.trans R.tape,o.output.trans R.output,Nat.le_trans R.size o.size,fun y P T=>by
   rw[o.block y (Nat.lt_of_lt_of_le P R.size) (fun e=>by have:=B y e;omega)];exact R.block y P T⟩
  refine H Q p5 _ a9 (hR.same o (fun e=>by have:=B b e;omega) fun y P _ e=>by have:=B y e;have:=hF y P;omega) ap O ⟨by rw[List.length_set];omega,fun i G=>?_⟩;rw[List.length_set] at G;rw[V1 (by omega)];split
  ·exact U
  ·have:=u.2 i G;omega
 have aw:=u.2 k (by omega);simp only[push_cast];refine zd (fun a0=>?_) (fun a0=>?_)
 ·refine num_lit (ns:=[0,5,-1,4]) C (by simp) (by decide) (by omega) fun A m r S hm=>?_;have q:OwnD A ov ds:=N.same r fun x g e=>by have:=B x g;omega
  have G:=q.dcls;simp(disch:=first|(simp only[push_cast];done)|omega) only[push_cast,G.iaddr];exact t (d:=((ds.getD k Yy).1,m)) (j:=1) q (f.trans r) S (by omega) rfl rfl jQ (by omega) rfl (by show(ds.getD k Yy).1.size<=5;omega)
 refine zd (fun a1=>?_) (fun a1=>?_)
 ·refine of_lit (ss:=[⟨#[]⟩,⟨#[116,114,117,101]⟩,⟨#[97,98,99,100,101]⟩,⟨#[65]⟩,⟨#[110,111,116]⟩,⟨#[120]⟩]) C ae (by simp) (by decide) (by omega) fun A s r S hm=>?_;have q:OwnD A ov ds:=N.same r fun x g e=>by have:=B x g;omega
  have G:=q.dcls;have U:s.size<=5:=by
   simp only[List.mem_cons,List.not_mem_nil,or_false] at hm;rcases hm with rfl|rfl|rfl|rfl|rfl|rfl<;>decide
  simp(disch:=first|(simp only[push_cast];done)|omega) only[push_cast,G.iaddr];exact t (d:=(s,(ds.getD k Yy).2)) (j:=0) q (f.trans r) S (by omega) rfl rfl ZF (by omega) rfl U
 refine zd (fun a2=>?_) (fun a2=>?_)
 ·refine vbuildS_row (xs:=[.agg ⟨[.string ⟨#[113]⟩,.int .i64 4]⟩,.agg ⟨[.string ⟨#[112]⟩,.int .i64 1]⟩]) (us:=Xk [(⟨#[113]⟩,4),(⟨#[112]⟩,1)]) (k:=2) xU qv xk rfl (by simp) (by decide) fun b5 A ah l r h5=>?_;have a4:OwnD A (.slice (some ⟨b5,0,none⟩) 2 2) [(⟨#[113]⟩,4),(⟨#[112]⟩,1)]:=Blk.ownk (css:=Xk [(⟨#[113]⟩,4),(⟨#[112]⟩,1)]) (by rw[ZN];exact h5) (by simp) rfl (by decide);refine vappend (ys:=Xk [(⟨#[113]⟩,4),(⟨#[112]⟩,1)]) kh (by decide) (N.ext l) a4.sl one_cellsD (Nat.zero_le _) (by simp;omega) (by simp;omega) fun ad Q O z am=>?_;have b3:=l.size;have o:Same (· =b) w Q:=⟨z.os.trans ((f.trans (Same.of_ext l)).os),z.tape.trans ((f.trans (Same.of_ext l)).tape),z.output.trans ((f.trans (Same.of_ext l)).output),Nat.le_trans (f.trans (Same.of_ext l)).size z.size,fun y P T=>by
   rw[z.block y (Nat.lt_of_lt_of_le P (f.trans (Same.of_ext l)).size) (fun e=>by have:=B y e;omega)];exact(f.trans (Same.of_ext l)).block y P T⟩
  have ag:RdR F Q b v xs _:=(C.ext l).same z (fun e=>by have:=B b e;omega) fun y P _ e=>by have:=B y e;have:=hF y P;omega
  have a5:OwnD Q ad (ds++[(⟨#[113]⟩,4),(⟨#[112]⟩,1)]):=by
   rw[OwnD,List.map_append];exact O
  refine hK Q _ ad _ o ag (by omega) (a5.dcls.weaken fun x g _=>?_) ⟨by rw[List.length_append];simp;omega,fun i G=>?_⟩
  ·rcases am x g with h|h
   ·exact B x h
   ·omega
  ·rw[List.length_append] at G;by_cases Z:i<ds.length
   ·rw[List.getD_eq_getElem?_getD,List.getElem?_append_left Z,<-List.getD_eq_getElem?_getD];have:=u.2 i Z;omega
   ·rw[List.getD_eq_getElem?_getD,List.getElem?_append_right (by omega)];have:i-ds.length=0\/i-ds.length=1:=by simp at G;omega
    rcases this with e|e<;>rw[e]<;>decide
 refine zd (fun a3=>?_) (fun a3=>?_)
 ·refine vbuildS_row (xs:=[]) (us:=[]) (k:=2) xU qv xk rfl (by simp) (by decide) fun b5 A ah l r h5=>?_;have q:=Jl h5;exact hK A _ _ [] (f.trans (Same.of_ext l)) (C.ext l) (by omega) (q.dcls.weaken fun x g _=>by have e:x=b5:=(Option.some.inj g).symm;omega) ⟨by simp,fun i G=>by simp at G⟩
 ·exact H _ _ _ f C (by omega) N (dsn_up u)
theorem l2Spoil_spec {b p:Nat} {v dv:Value} {xs:List Nat} {ds:List M.Dcl} (h:RdR F w b v xs p) (hF:∀x,F x->x<w.heap.size) (g:DclsR D w dv ds) (hD:∀x,D x->x≠b) (hD1:∀x,D x->x<w.heap.size) (d:Dok ds) (i:p+10<1099511627776)
  (f:∀w' e c a,Same (· =b) w w'->RdR F w' b v xs e->e<=p+10->DclsR (fun x=>w.heap.size<=x) w' c a->Dsm a->K c w'):vcall PP xQ #[.pointer (some ⟨b,0,none⟩),dv] w K:=
 l2Spoil_spec2 h hF g hD hD1 (Wv d) (by omega) i f
end Go.Proofs.YtaemeijeaajoeaaGreatDoor
end
section
namespace Go.Proofs.YtaemeijeaajoeaaGreatDoor
open Go Go.Vc Go.Proofs
variable {w:World} {K:Value→World→Prop} {F F' D G:Nat→Prop}
theorem ints_lit {ns:List Int} (f:ns.length<=1000) (e:∀a w',a=w.heap.size->Ext w w'->Ints (· =a) w' (.slice (some ⟨a,0,none⟩) ns.length ns.length) ns->K (.slice (some ⟨a,0,none⟩) ns.length ns.length) w'):vbuildS PP y1 ns.length ((ns.map fun x=>Value.int .i64 x).zipIdx.map fun p=>(p.2,p.1)) w K:=by
 have:=vbuildS_row1 (w:=w) (K:=K) (t:=y1) (xs:=ns.map fun x=>Value.int .i64 x) K0 jQ J5 (fun x g=>by obtain⟨y,_,rfl⟩:=List.mem_map.1 g;rfl) (by simp;omega) fun a w' b c h d=>by
  rw[List.length_map];exact e a w' b c (d.sl1 (by simp) (by omega))
 rwa[List.length_map] at this
theorem l2Bent_spec {b p:Nat} {v tv:Value} {xs:List Nat} {t:M.Tm} (h:RdR F w b v xs p) (hF:∀x,F x->x<w.heap.size) (ht:TermR G w tv t) (hG:∀x,G x->x≠b) (L:∀x,G x->x<w.heap.size) (hp:p+10<1099511627776) (c9:t.ks.length<=1000)
  (hK:∀w' p' bd t',Same (· =b) w w'->RdR F w' b v xs p'->p'<=p+10->TermR (fun x=>G x\/w.heap.size<=x) w' bd t'->t'.ks.length<=t.ks.length+1->K bd w'):vcall PP jD #[.pointer (some ⟨b,0,none⟩),tv] w K:=by
 apply QQ;unfold Y9;have lb:=h.blk.lt;obtain⟨kv,rfl,ax⟩:=ht;refine zB fun b1 w1 c3 ar c6 h1=>?_;refine zw zt fun b2 Y c4 ab c7 h2=>?_;have q2:=h1.ext ab;refine vbuildS_row (xs:=[]) (us:=[]) (k:=5) qT jt zt rfl (by simp) (by decide) fun b3 w3 c5 a8 c8 h3=>?_;have br:Own PP 0 5 zc w3 (.slice (some ⟨b3,0,none⟩) 0 0) []:=Blk.ownk (css:=[]) (by rw[ZM];exact h3) (by simp) rfl (by decide);have q3:=q2.ext a8;have r3:=h2.ext a8;have Z:=(ar.trans ab).trans a8;have ay:=ax.ext Z;have bf:=h.ext Z;have ca:=ar.size;have cb:=ab.size;have cc:=a8.size;simp(disch:=(simp only[push_cast];done)) only[push_cast,q3.ld4];obtain⟨css,bt,ap,ao⟩:=ay;have P:∀y,y∈css->∀c,c∈y->c.oneCell'=true:=fun y hy c R=>by
  obtain⟨i,hi,rfl⟩:=List.getElem_of_mem hy;have hq:=ao i (by omega);rw[List.getD_eq_getElem?_getD,List.getElem?_eq_getElem hi] at hq;obtain⟨c0,he,ad⟩:=hq.inv;obtain⟨am,al,_⟩:=ad;rw[show css[i]=(some css[i]).getD [] from rfl,he] at R;simp only[List.mem_cons,List.not_mem_nil,or_false] at R;rcases R with rfl|rfl|rfl|rfl|rfl
  ·rfl
  ·rfl
  ·rfl
  ·rfl
  ·exact al.one
 refine vappend (F:=G) kg (by decide) br bt P (Nat.zero_le _) (by simp;omega) (by simp;omega) fun ov w4 ag bb bo=>?_;replace ag:Own PP 0 5 zc w4 ov css:=ag;have cd:=bb.size;have A:Same (· =b3) w3 w4:=bb.mono fun x _ d=>(Option.some.inj d).symm;have hn:∀x,ov.ownBlock=some x->Y.heap.size<=x:=fun x d=>by
  rcases bo x d with d|d
  ·have e:x=b3:=(Option.some.inj d).symm;omega
  ·omega
 have b6:Same (· =b) w w4:=same_new (Same.of_ext Z) A (by omega);have bg:RdR F w4 b v xs p:=bf.new A (by omega) fun x d e=>by have:=hF x d;omega
 have q4:=q3.same A (by omega);have r4:=r3.same A (by omega);have az:TmsR G w4 kv t.ks:=(ax.ext Z).same A fun x d _ e=>by have:=L x d;omega
 refine pick_spec bg (by omega) (by omega) fun w5 c Q ce B _ _=>?_;have q5:=q4.same Q (by omega);have r5:=r4.same Q (by omega);have z:TmsR G w5 kv t.ks:=az.same Q fun x d _ e=>hG x d e;have n:=b6.trans Q;have b0:Own PP 0 5 zc w5 ov css:=ag.same Q fun x d e=>by have:=hn x d;omega
 have c1:=n.size;have S:∀{q:World} {p6:Nat} {cs:List Value} {t':M.Tm},t'.ks.length<=t.ks.length+1->Same (· =b) w q->RdR F q b v xs p6->p6<=p+10->Blk q b1 cs za->Blk q b2 ZE za->TmR (fun x=>G x\/Y.heap.size<=x) q cs t'->
   zg PP za (.pointer (some ⟨b1,0,none⟩)) q fun t56 V=>zk PP za (.pointer (some ⟨b2,0,none⟩)) t56 V fun _ W=>vlv PP za (.pointer (some ⟨b2,0,none⟩)) W fun r4 X=>K r4 X:=by
  intro q p6 cs t' hl hs hR aj hq hr R;rw[hq.ldAgg (t:=za) (by rw[yd R];exact zm)];refine qB hr rfl R (fun x d e=>by rcases d with d|d<;>first|(have:=L x d;omega)|omega) fun H E bc bu=>?_;exact hK H p6 _ t' (same_new hs E (by omega)) (hR.new E (by omega) fun x d e=>by have:=hF x d;omega) aj (bu.weaken fun x d _=>d.imp id fun h=>by omega) hl
 have J:∀{q:World} {p6:Nat} {i:Nat} {x:Value} {e:TypeId} {t':M.Tm} {cs':List Value},t'.ks.length<=t.ks.length+1->Same (· =b) w q->RdR F q b v xs p6->p6<=p+10->Blk q b1 [.int .i64 t.op,.int .i64 t.a,.int .i64 t.b,.string t.s,kv] za->Blk q b2 ZE za->x.cells= #[x]->x.oneCell'=true->jy PP e 1=true->i<5->
   [.int .i64 t.op,.int .i64 t.a,.int .i64 t.b,.string t.s,kv].set i x=cs'->(∀H,Same (· =b1) q H->TmR (fun x=>G x\/Y.heap.size<=x) H cs' t')->
   zk PP e (.pointer (some ⟨b1,i,none⟩)) x q fun _ be=>zg PP za (.pointer (some ⟨b1,0,none⟩)) be fun t56 V=>zk PP za (.pointer (some ⟨b2,0,none⟩)) t56 V fun _ W=>vlv PP za (.pointer (some ⟨b2,0,none⟩)) W fun r4 X=>K r4 X:=by
  intro q p6 i x e t' cs' hl hs hR aj hq hr bw bx hz hi b9 R;refine hq.st bw bx hz (by simp[Nat.blt_eq];omega) fun H E bc b4=>?_;rw[b9] at b4;exact S hl (same_new hs E (by omega)) (hR.new E (by omega) fun x d e=>by have:=hF x d;omega) aj b4 (hr.same E (by omega)) (R H E)
 have D:∀{q H:World},TmsR G q kv t.ks->Same (· =b1) q H->TmsR (fun x=>G x\/Y.heap.size<=x) H kv t.ks:=fun hk hs=>(hk.same hs fun x d _ e=>by have:=L x d;omega).weaken fun x d _=> .inl d;simp only[push_cast];refine zd (fun a0=>?_) (fun a0=>?_)
 ·refine num_lit (ns:=[0,18,28,3,16,25]) B (by simp) (by decide) (by omega) fun q m N a6 hm=>?_
  try simp only[push_cast]
  exact J (t':= .mk m t.a t.b t.s t.ks) (Nat.le_succ _) (n.trans N) a6 (by omega) (q5.same N (by omega)) (r5.same N (by omega)) rfl rfl jQ (by omega) rfl fun H E=>TmR.of (t:= .mk m t.a t.b t.s t.ks) (D (z.same N fun x d _ e=>hG x d e) E)
 refine zd (fun a1=>?_) (fun a1=>?_)
 ·refine zU fun q f _=>?_;have q6:=q5.ext f;simp(disch:=(simp only[push_cast];done)) only[push_cast,q6.ld1,true_and];refine ints_lit (ns:=[1,-1]) (by decide) fun b7 H bi g ac=>?_;have q7:=q6.ext g;simp(disch:=(simp only[push_cast];done)) only[push_cast,q7.ld1,true_and,and_self];have af:=(B.ext f).blk.lt;refine num_spec ((B.ext f).ext g) ac (by simp) (by decide) (by omega) (fun x d e=>by subst d;omega) fun w8 m j _ aa hm=>?_;have q8:=q7.same j (by omega);simp(disch:=(simp only[push_cast];done)) only[push_cast,q8.ld1,true_and,and_self];have T:=((n.trans (Same.of_ext f)).trans (Same.of_ext g)).trans j;exact J (t':= .mk t.op (IntKind.i64.wrap (t.a+m)) t.b t.s t.ks) (Nat.le_succ _) T aa (by omega) q8 (((r5.ext f).ext g).same j (by omega)) rfl rfl jQ (by omega) rfl fun w9 O=>TmR.of (t:= .mk t.op (IntKind.i64.wrap (t.a+m)) t.b t.s t.ks) (D (((z.ext f).ext g).same j fun x d _ e=>hG x d e) O)
 refine zd (fun a2=>?_) (fun a2=>?_)
 ·refine zU fun q f _=>?_;have q6:=q5.ext f;simp(disch:=(simp only[push_cast];done)) only[push_cast,q6.ld2,true_and];refine ints_lit (ns:=[1,-1,16]) (by decide) fun b7 H bi g ac=>?_;have q7:=q6.ext g;simp(disch:=(simp only[push_cast];done)) only[push_cast,q7.ld2,true_and,and_self];have af:=(B.ext f).blk.lt;refine num_spec ((B.ext f).ext g) ac (by simp) (by decide) (by omega) (fun x d e=>by subst d;omega) fun w8 m j _ aa hm=>?_;have q8:=q7.same j (by omega);simp(disch:=(simp only[push_cast];done)) only[push_cast,q8.ld2,true_and,and_self];have T:=((n.trans (Same.of_ext f)).trans (Same.of_ext g)).trans j;exact J (t':= .mk t.op t.a (IntKind.i64.wrap (t.b+m)) t.s t.ks) (Nat.le_succ _) T aa (by omega) q8 (((r5.ext f).ext g).same j (by omega)) rfl rfl jQ (by omega) rfl fun w9 O=>TmR.of (t:= .mk t.op t.a (IntKind.i64.wrap (t.b+m)) t.s t.ks) (D (((z.ext f).ext g).same j fun x d _ e=>hG x d e) O)
 refine zd (fun a3=>?_) (fun a3=>?_)
 ·exact J (t':= .mk t.op t.a t.b ⟨#[113]⟩ t.ks) (Nat.le_succ _) n B (by omega) q5 r5 rfl rfl ZF (by omega) rfl fun w9 O=>TmR.of (t:= .mk t.op t.a t.b ⟨#[113]⟩ t.ks) (D z O)
 refine zd (fun a4=>?_) (fun a4=>?_)
 ·refine KX (G:=fun _=>False) (t0:= .mk 24 0 0 ⟨#[]⟩ []) (TmR.term (Yo 24 0 0 _)) fun q sa f bz bl=>?_;obtain⟨I,ba,aq,a9⟩:=bl;have ai:∀y,y∈I->∀c,c∈y->c.oneCell'=true:=fun y hy c R=>by
   obtain⟨i,hi,rfl⟩:=List.getElem_of_mem hy;have hq:=a9 i (by omega);rw[List.getD_eq_getElem?_getD,List.getElem?_eq_getElem hi] at hq;obtain⟨c0,he,ad⟩:=hq.inv;obtain⟨am,al,_⟩:=ad;rw[show I[i]=(some I[i]).getD [] from rfl,he] at R;simp only[List.mem_cons,List.not_mem_nil,or_false] at R;rcases R with rfl|rfl|rfl|rfl|rfl
   ·rfl
   ·rfl
   ·rfl
   ·rfl
   ·exact al.one
  have bm:I.length=1:=aq;refine vappend kg (by decide) (b0.ext f) ba ai (Nat.zero_le _) (by omega) (by omega) fun U H ah r bp=>?_;have o:=n.trans (Same.of_ext f);have c2:=o.size;have b8:Same (· =b) w H:=⟨r.os.trans o.os,r.tape.trans o.tape,r.output.trans o.output,Nat.le_trans o.size r.size,fun y hy bq=>by
   rw[r.block y (Nat.lt_of_lt_of_le hy o.size) (fun e=>by have:=hn y e;omega)];exact o.block y hy bq⟩
  have bh:RdR F H b v xs _:=(B.ext f).same r (fun e=>by have:=hn b e;omega) fun y hy _ e=>by have:=hn y e;have:=hF y hy;omega
  have q7:=(q5.ext f).same r (fun e=>by have:=hn b1 e;omega);have r7:=(r5.ext f).same r (fun e=>by have:=hn b2 e;omega);have bn:∀x,U.ownBlock=some x->Y.heap.size<=x:=fun x d=>by
   rcases bp x d with d|d
   ·exact hn x d
   ·omega
  have ae:TmsR (fun x=>G x\/Y.heap.size<=x) H U (t.ks++[.mk 24 0 0 ⟨#[]⟩ []]):=by
   refine⟨css++I,ah.sl.weaken fun x d _=> .inr (bn x d),by rw[List.length_append,List.length_append,ap,bm];rfl,fun i hi=>?_⟩;rw[List.length_append] at hi;by_cases au:i<t.ks.length
   ·rw[List.getD_eq_getElem?_getD,List.getElem?_append_left (by omega),<-List.getD_eq_getElem?_getD,List.getD_eq_getElem?_getD (l:=t.ks++_),List.getElem?_append_left au,<-List.getD_eq_getElem?_getD];exact(((((ao i au).same A fun x d _ e=>by have:=L x d;omega).same Q fun x d _ e=>hG x d e).ext f).same r fun x d _ e=>by have:=hn x e;have:=L x d;omega).weaken fun x d _=> .inl d
   ·have bk:i=t.ks.length:=by simp at hi;omega
    subst bk;rw[List.getD_eq_getElem?_getD,List.getElem?_append_right (by omega),<-List.getD_eq_getElem?_getD,ap,Nat.sub_self,List.getD_eq_getElem?_getD (l:=t.ks++_),List.getElem?_append_right (by omega),Nat.sub_self];have bv:=a9 0 (by simp);obtain⟨cg,bj,aw⟩:=bv.inv;rw[bj];exact TmR.of (t:= .mk 24 0 0 ⟨#[]⟩ []) ((aw.same r fun x d hl e=>by
     rcases d with d|d
     ·exact d.elim
     ·have:=b0.lt e;omega).weaken fun x d _=>by
     rcases d with d|d
     ·exact d.elim
     ·right;omega)
  have P:U.cells= #[U]/\U.oneCell'=true:=⟨ah.sl.cells1,ah.sl.one⟩
  try simp only[push_cast]
  exact J (t':= .mk t.op t.a t.b t.s (t.ks++[.mk 24 0 0 ⟨#[]⟩ []])) (by show(t.ks++[_]).length<=_;rw[List.length_append];exact Nat.le_refl _) b8 bh (by omega) q7 r7 P.1 P.2 jR (by omega) rfl fun w9 O=>TmR.of (t:= .mk t.op t.a t.b t.s (t.ks++[.mk 24 0 0 ⟨#[]⟩ []])) (ae.same O fun x d _ e=>by
   rcases d with d|d
   ·have:=L x d;omega
   ·omega)
 refine zd (fun a5=>?_) (fun a5=>?_)
 ·refine vloop_up 7 (fun i u w'=> ∃cs t',u=[.int .i64 i]/\Same (· =b) w w'/\RdR F w' b v xs (p+1)/\Blk w' b1 cs za/\Blk w' b2 ZE za/\TmR (fun x=>G x\/Y.heap.size<=x) w' cs t'/\Y.heap.size<=w'.heap.size/\t'.ks.length<=t.ks.length+1) ⟨_,t,rfl,n,B,q5,r5,TmR.of (z.weaken fun x d _=> .inl d),by omega,by omega⟩ ?_;rintro i _ _ q C hi ⟨cs,t',rfl,N,a6,ak,b5,a7,bz,af⟩ hC;simp only[push_cast];refine zd (fun c=>?_) (fun c=>?_)
  ·rw[ak.ldAgg (t:=za) (by rw[yd a7];exact zm)];refine KX a7.term fun H sa g bc ae=>?_;simp only[push_cast];have av:TmsR (fun x=>G x\/Y.heap.size<=x) H (.slice sa 1 1) [t']:=ae.weaken fun x d _=>by
    rcases d with d|d
    ·exact d
    ·right;omega
   have an:TmR (fun x=>G x\/Y.heap.size<=x) H [.int .i64 25,.int .i64 0,.int .i64 0,.string ⟨#[]⟩,.slice sa 1 1] (.mk 25 0 0 ⟨#[]⟩ [t']):=TmR.of (t:= .mk 25 0 0 ⟨#[]⟩ [t']) av;refine stTerm (ak.ext g) (yd a7) an fun w8 j cf bs=>?_
   try simp only[push_cast]
   rw[inc64' (by omega)];refine hC (by omega) _ _ ⟨_,_,rfl,same_new (N.trans (Same.of_ext g)) j (by omega),(a6.ext g).new j (by omega) fun x d e=>by have:=hF x d;omega,bs,(b5.ext g).same j (by omega),an.same j fun x d _ e=>by
    rcases d with d|d
    ·have:=L x d;omega
    ·omega,by omega,by show 1<=_;omega⟩
  ·exact S af N a6 (by omega) ak b5 a7
 ·exact S (Nat.le_succ _) n B (by omega) q5 r5 (TmR.of (t:=t) (z.weaken fun x d _=> .inl d))
end Go.Proofs.YtaemeijeaajoeaaGreatDoor
end
section
namespace Go.Proofs.YtaemeijeaajoeaaGreatDoor
open Go Go.Vc Go.Proofs
variable {w:World} {K:Value→World→Prop} {F F' D G:Nat→Prop}
theorem l2Draw_spec {b p:Nat} {v:Value} {xs:List Nat} (h:RdR F w b v xs p) (hF:∀x,F x->x<w.heap.size) (hp:p+300000<1099511627776)
  (hK:∀w' p' dv tv ds t,Same (· =b) w w'->RdR F w' b v xs p'->p'<=p+300000->DclsR (fun x=>w.heap.size<=x) w' dv ds->Dsm ds->TermR (fun x=>w.heap.size<=x) w' tv t->K (.tuple #[dv,tv]) w'):vcall PP qm #[.pointer (some ⟨b,0,none⟩)] w K:=by
 apply QO;unfold Y7;have lb:=h.blk.lt;refine zw zt fun b1 w1 ab q ai h1=>?_;have O:=h.ext q;have ak:=q.size;refine Jg O (fun x a=>by have:=hF x a;omega) (by omega) fun w2 p2 dv ds s P af W G=>?_;have h2:=h1.same s (by omega);have al:=s.size;have B:=W.weaken (F':=fun x=>w1.heap.size<=x/\x<w2.heap.size) fun x a hl=>⟨a,hl⟩;refine ints_lit (ns:=[0,0,0,1,2,3,4]) (by decide) fun b3 w3 ac k a0=>?_;have am:=k.size;refine num_spec (P.ext k) a0 (by simp) (by decide) (by omega) (fun x a e=>by subst a;omega) fun w4 m u an Q hm=>?_;have E:0<=m/\m<=4:=by
  simp only[List.mem_cons,List.not_mem_nil,or_false] at hm;omega
 have C:=(B.ext k).same u fun x a _ e=>by omega
 have h4:=(h2.ext k).same u (by omega);refine l2Some_spec Q (fun x a=>by have:=hF x a;omega) C (fun x a e=>by omega) (fun x a=>by omega) G E.1 E.2 (by omega) fun w5 p5 tv t n R ag a1 ae=>?_;have X:=C.same n fun x a _ e=>by omega
 have h5:=h4.same n (by omega);have ao:=n.size;obtain⟨cs,rfl,o⟩:=a1.cells;have j:=o.weaken (F':=fun x=>w4.heap.size<=x/\x<w5.heap.size) fun x a hl=>⟨a,hl⟩;refine zw zt fun b6 w6 ad D aj h6=>?_;refine stTerm h6 rfl (j.ext D) fun w7 a2 ap h7=>?_;have i:Ext w5 w7:=Ext.then D a2 fun y hy=>by subst hy;omega
 refine zU fun w8 d _=>?_;have aq:=d.size;have aa:=i.size;have h8:=h7.ext d;have hg:aggB PP za cs.length=true:=by rw[yd o];exact zm
 rw[h8.ldAgg (t:=za) hg];refine⟨rfl,?_⟩;have S:=(R.ext i).ext d;have Y:=(X.ext i).ext d;have U:=(j.ext i).ext d;have a7:w.heap.size<=w8.heap.size:=by omega
 refine l2Spoil_spec S (fun x a=>by have:=hF x a;omega) Y (fun x a e=>by omega) (fun x a=>by omega) G (by omega) fun w9 p9 L J l T ah Z H=>?_;have h9:=h8.same l (by omega);rw[h9.ldAgg (t:=za) hg];refine⟨⟨rfl,rfl⟩,?_⟩;have ar:=l.size;have V:=U.same l fun x a _ e=>by omega
 refine l2Bent_spec T (fun x a=>by have:=hF x a;omega) V.term (fun x a e=>by omega) (fun x a=>by omega) (by omega) (by omega) fun a4 a3 au t' f z a6 I _=>?_;have A:=Z.same f fun x a _ e=>by omega
 have M:=(((h5.ext i).ext d).same l (by omega)).same f (by omega);obtain⟨cs',rfl,c⟩:=I.cells;have r:Same (· =b) w a4:=((((((Same.of_ext q).trans s).trans (Same.of_ext k)).trans u).trans n).trans (Same.of_ext (i.trans d))).trans (l.trans f);have a8:=f.size;refine stTerm M rfl c fun a5 g a9 N=>?_;rw[N.lv (by rw[yd c];exact zm)];refine hK a5 a3 L _ J t' (same_new r g (by omega)) (z.new g (by omega) fun x a e=>by have:=hF x a;omega) (by omega) ((A.same g fun x a _ e=>by omega).weaken fun x a _=>by omega) H ((c.same g fun x a _ e=>by omega).term.weaken fun x a _=>by omega)
end Go.Proofs.YtaemeijeaajoeaaGreatDoor
end
section
namespace Go.Proofs.YtaemeijeaajoeaaGreatDoor
open Go Go.Vc Go.Proofs Go.Shelf
variable {w:World} {K:Value→World→Prop} {F F' Fx Fy X Q:Nat→Prop}
def Ww:ByteArray:=⟨#[48,49,50,51,52,53,54,55,56,57,97,98,99,100,101,102,103,104,105,106,107,108,109,110,111,112,113,114,115,116,117,118,119,120,121,122]⟩
theorem digit_text:∀k:Fin 10,(Ww.extract k.1 (k.1+1)).data.toList=M.digL (k.1:Int):=by decide+kernel
theorem Itoa_spec {k:Nat} (c:k<10) (b:∀s:ByteArray,s.data.toList=M.digL (k:Int)->K (.string s) w):vcall PP x8 #[.int .i64 k] w K:=by
 apply XO;unfold kY;apply jJ;unfold xA;apply qr;unfold yO;simp only[push_cast];refine zd (fun _=>?_) (fun h=>absurd trivial h);refine zI (fun _ _=>False) ?_ (fun _ _ _ h=>h.elim);intro J d;refine zd (fun _=>?_) (fun h=>by omega);refine zd (fun _=>?_) (fun h=>by omega);apply jm;unfold xn;simp(disch:=omega) only[push_cast,zF];refine zd (fun _=>?_) (fun h=>by omega);have a:Ww.size=36:=by decide+kernel
 show yx PP ze (.string Ww) _ _ _ w _;rw[Qf (by kernel_rfl) (by omega) (by omega) (by rw[a];omega)];rw[show((k:Int)).toNat=k by omega,show((k:Int)+1).toNat=k+1 by omega];exact b _ (digit_text ⟨k,c⟩)
def byV (c:UInt8):Value:= .int .u8 c.toNat
theorem Qn {v:Value} {l:List UInt8} (h:OwnV PP zu w v (l.map byV)) (g:l≠[]):jh PP zu ze v w K=K (.string ⟨l.toArray⟩) w:=by
 obtain⟨a,c,k,p,n,d⟩:=(OwnV.vals h).shape;have f:(l.map byV).map (fun x=>[x])≠[]:=by simpa using g
 obtain⟨b,o,m,_,_,e⟩:=d f;simp only[List.length_map] at k e;subst m;subst k;refine yh (run_convert_bytes_back w zu ze zZ ⟨b,o,none⟩ c l qS (by kernel_rfl) (by kernel_rfl) fun j i=>?_);have:=e j i 0 (byV l[j]) (by
  rw[List.getD_eq_getElem?_getD,List.getElem?_map,List.getElem?_map,List.getElem?_eq_getElem i];rfl)
 rw[yD] at this⊢;rw[Nat.mul_one,Nat.add_zero] at this;exact this
def Q6 (n:Nat) (i:Nat):UInt8:=if n/2^i%2=1 then 49 else 48
theorem bitC_take {wd n j:Nat} (a:j<wd):((List.range wd).reverse.map (Q6 n)).take (j+1)=((List.range wd).reverse.map (Q6 n)).take j++[Q6 n (wd-1-j)]:=by
 have b:j<((List.range wd).reverse.map (Q6 n)).length:=by simpa using a
 rw[M.take_add b 0];congr 1;rw[List.getD_eq_getElem?_getD,List.getElem?_map,List.getElem?_reverse (by simpa using a),List.length_range,List.getElem?_range (by omega)];rfl
theorem VecText_spec {wd n:Int} (C:M.vok wd n=true) (hK:∀w' s,Ext w w'->s.data.toList=M.vecL wd.toNat n.toNat->K (.string s) w'):vcall PP jf #[JB wd n] w K:=by
 apply Q4;unfold Ze;obtain⟨W,X,Y,Z⟩:=M.vok_iff.1 C;have hp:(2:Int)^wd.toNat<=16:=by
  have:=pow4 (k:=wd.toNat) (by omega) (by omega);have e:=Ql wd.toNat;omega
 refine zB fun b1 G a0 z aa g=>?_;have y:∀w':World,Blk w' b1 [.int .i64 wd,.int .i64 n] zf->∀K:Value->World->Prop,zg PP zf (.pointer (some ⟨b1,0,none⟩)) w' K=K (JB wd n) w':=fun w' hB K=>Blk.ldAgg hB (by exact xM);rw[y G g];refine VecOk_spec fun w2 o=>?_;rw[C];simp only[push_cast,Bool.not_true];refine qy qS (by kernel_rfl) (show xo PP zZ (.int .u8 0) by unfold xo;kernel_rfl) rfl rfl fun V w3 a5 A ab J=>?_;have D:=g.ext (o.trans A);have e3:=z.trans (o.trans A);have s1:=z.size;have s2:=o.size;have T:OwnV PP zu w3 (.slice (some ⟨V,0,none⟩) 1 1) ([(35:UInt8)].map byV):=Blk.own1 (P:=PP) (t:=zu) (cs:=[byV 35]) (by rw[Jk];exact J) (Nat.zero_le _) rfl rfl (by omega);simp(disch:=first|(simp only[push_cast];done)|omega) only[push_cast,D.ld0,zF];refine YO (fun m u w'=> ∃j r,u=[r,.int .i64 ((m:Int)-1)]/\(m:Int)+(j:Nat)=wd/\Ext w w'/\Blk w' b1 [.int .i64 wd,.int .i64 n] zf/\OwnV PP zu w' r ((35::((List.range wd.toNat).reverse.map (Q6 n.toNat)).take j).map byV)/\∀b,r.ownBlock=some b->G.heap.size<=b) wd.toNat
  ⟨0,_,by rw[show((wd.toNat:Nat):Int)=wd by omega],by omega,e3,D,T,fun b l=>by have e:V=b:=Option.some.inj l;omega⟩ ?_
 rintro m _ _ w5 C5 ⟨j,r,rfl,a9,p,i,v,q⟩ N;simp only[push_cast];refine zd (fun a7=>?_) (fun a8=>?_)
 ·rw[y w5 i];rw[show n=((n.toNat:Nat):Int) by omega];refine raw_spec (by omega) fun w6 Q=>?_;rw[show(m:Int)-1=((m-1:Nat):Int) by omega];refine bit_spec (by omega) (by omega) ?_;have step:∀(x:UInt8) (H:Value->World->Prop),x=Q6 n.toNat (wd.toNat-1-j)->(∀d a,Ext w a->Blk a b1 [.int .i64 wd,.int .i64 n] zf->OwnV PP zu a d ((35::((List.range wd.toNat).reverse.map (Q6 n.toNat)).take (j+1)).map byV)->(∀b,d.ownBlock=some b->G.heap.size<=b)->H d a)->
    vbuildS PP zu 1 [(0,.int .u8 x.toNat)] w6 fun t21 F=>vbi PP .append [zu,zu] zu [r,t21] F H:=by
   intro x H hx O;refine qy qS (by kernel_rfl) (show xo PP zZ (.int .u8 0) by unfold xo;kernel_rfl) rfl rfl fun b7 a a6 R ad L=>?_;have f:=Q.trans R;have hl:((35::((List.range wd.toNat).reverse.map (Q6 n.toNat)).take j).map byV).length<=20:=by
    simp only[List.length_map,List.length_cons,List.length_take,List.length_reverse,List.length_range];omega
   refine(v.ext f).app1 VK L rfl (by omega) (by omega) fun r8 w8 U E S=>?_;have ac:=p.size;have ae:=f.size;refine O r8 w8 (Ext.then (p.trans f) E fun b l=>by have:=q b l;omega) ((i.ext f).same E fun l=>by have:=q b1 l;have:=g.lt;omega) ?_ fun b l=>(S b l).elim (q b) fun h=>by have:=i.lt;omega
   rw[bitC_take (by omega),<-hx,<-List.cons_append,List.map_append];exact U
  have B:wd.toNat-1-j=m-1:=(by omega);have fin:∀d a,Ext w a->Blk a b1 [.int .i64 wd,.int .i64 n] zf->OwnV PP zu a d ((35::((List.range wd.toNat).reverse.map (Q6 n.toNat)).take (j+1)).map byV)->(∀b,d.ownBlock=some b->G.heap.size<=b)->C5 [d,.int .i64 (((m-1:Nat):Int)-1)] a:=fun d a W X Y Z=>
   N (m-1) _ _ (by omega) ⟨j+1,d,rfl,by omega,W,X,Y,Z⟩
  refine zd (fun c=>?_) (fun c=>?_)
  ·refine step 49 _ (by rw[B];unfold Q6;rw[if_pos c]) fun d a I a2 a3 a4=>?_;rw[zF (by omega) (by omega)];exact fin d a I a2 a3 a4
  ·refine step 48 _ (by rw[B];unfold Q6;rw[if_neg c]) fun d a I a2 a3 a4=>?_;rw[zF (by omega) (by omega)];exact fin d a I a2 a3 a4
 ·rw[List.take_of_length_le (by simp;omega)] at v;rw[Qn v (by simp)];exact hK w5 _ p rfl
theorem joinX:Builder.Extra PP YtaemeijeaajoeaaGreatDoor.joinL_ren where
 sizeBuilder:=by kernel_rfl
 liesBuilder:=by kernel_rfl
 t5:=by kernel_rfl
 a5:=fun w=>by kernel_rfl
 z5:=fun w=>by kernel_rfl
 v5:=fun w=>by kernel_rfl
 infoByte:=by kernel_rfl
 cellsByte:=by kernel_rfl
 sizeByte:=by kernel_rfl
 neB5:=by decide+kernel
def joinB:List (List UInt8)→List UInt8
 |[]=>[]
 |x::xs=>x++xs.flatMap fun y=>32::y
theorem KZ (xs:List (List UInt8)):Lib.join xs [32]=joinB xs:=by
 unfold Lib.join joinB;induction xs with
 |nil=>rfl
 |cons x xs a=>
  cases xs with
  |nil=>simp[List.intercalate,List.intersperse]
  |cons y ys=>
   simp only[List.intercalate,List.intersperse_cons_cons,List.flatten_cons] at a⊢;rw[a];simp
theorem Join_spec {v:Value} {xs:List ByteArray} (h:OwnV PP zD w v (xs.map .string)) (n:2<=xs.length) (y:xs.length<=1000) (g:(joinB (xs.map (·.data.toList))).length<=1000000)
  (q:∀w' s,Ext w w'->s.data.toList=joinB (xs.map (·.data.toList))->K (.string s) w'):vcall PP kV #[v,.string ⟨#[32]⟩] w K:=by
 obtain⟨a,c,m,l,u,d⟩:=(OwnV.vals h).shape;have k:(xs.map Value.string).map (fun x=>[x])≠[]:=by intro e;have:=congrArg List.length e;simp only[List.length_map,List.length_nil] at this;omega
 obtain⟨b,o,r,_,t,f⟩:=d k;simp only[List.length_map] at m f l;subst r;subst m;refine⟨by kernel_rfl,?_⟩;refine(Any.strings_Join_many YtaemeijeaajoeaaGreatDoor.joinL joinX b o c xs ⟨#[32]⟩ w (fun j x g=>?_) t n (by omega) l (by rw[show(⟨#[32]⟩:ByteArray).data.toList=[32] from rfl,KZ];omega)).mono ?_
 ·have i:j<xs.length:=(List.getElem?_eq_some_iff.1 g).1;have:=f j i 0 (.string x) (by
   rw[List.getD_eq_getElem?_getD,List.getElem?_map,List.getElem?_map,g];rfl)
  rw[yD,Nat.mul_one,Nat.add_zero] at this;exact this
 ·rintro e w' ⟨rfl,p⟩;refine q w' _ (jn p) ?_;rw[show(⟨#[32]⟩:ByteArray).data.toList=[32] from rfl,KZ]
end Go.Proofs.YtaemeijeaajoeaaGreatDoor
end
section
namespace Go.Proofs.YtaemeijeaajoeaaGreatDoor
open Go Go.Vc Go.Proofs
variable {w:World} {K:Value→World→Prop} {F F' Fx Fy X Q:Nat→Prop}
theorem jV {s:ByteArray} {m:Value} (c:∀w',Ext w w'->K (.string s) w'):vcall PP zK #[.agg ⟨[.string s,m]⟩] w K:=by
 apply Yr;unfold jr;refine zB fun b d e he f a=>?_;simp(disch:=first|(simp only[push_cast];done)|omega) only[push_cast,a.ld0];exact c d he
theorem word_spec {o:Int} {v:Value} (k:KindR o v) (l:(1<=o/\o<=17)\/(22<=o/\o<=27)) (a:o≠24) (i:∀w' s,Ext w w'->s.data.toList=M.wordL o->K (.string s) w'):vinvoke PP v xL #[] w K:=by
 obtain⟨s,m,r,rfl,d,e,g⟩:=k.word;have j:s.data.toList=M.wordL o:=by
  rcases g with h|h|h|h
  ·omega
  ·omega
  ·exact absurd h a
  ·exact h
 have fin:vcall PP zK #[.agg ⟨[.string s,.int .i64 m]⟩] w K:=jV fun w' he=>i w' s he j;unfold kTy;by_cases c:24<=o
 ·obtain⟨f,rfl,_⟩:=e c
  repeat rw[if_neg (by omega)]
  exact zz (xX _ _ _) fin
 ·have:=d (by omega);subst this;by_cases b:o<=2
  ·rw[if_pos b];exact zz (qH _ _) fin
  rw[if_neg b];by_cases c2:o<=13
  ·rw[if_pos c2];exact zz (qe _ _) fin
  rw[if_neg c2];by_cases c3:o=14
  ·rw[if_pos c3];exact zz (qd _ _) fin
  rw[if_neg c3];by_cases c4:o<=17
  ·rw[if_pos c4];exact zz (qc _ _) fin
  rw[if_neg c4,if_neg (by omega),if_neg (by omega)];by_cases c5:o=22
  ·rw[if_pos c5];exact zz (qb _ _) fin
  rw[if_neg c5,if_pos (by omega)];exact zz (qI _ _) fin
theorem wordL_len (o:Int):(M.wordL o).length<=5:=by
 by_cases h:0<=o/\o<28
 ·have a:∀k:Fin 28,(M.wordL (k.1:Int)).length<=5:=(by decide+kernel);have:=a ⟨o.toNat,by omega⟩;rwa[show((o.toNat:Nat):Int)=o by omega] at this
 ·unfold M.wordL
  repeat rw[if_neg (by omega)]
  decide
theorem YP (wd n:Nat):(M.vecL wd n).length=wd+1:=by unfold M.vecL;simp
theorem kids_sum {f:M.Tm->Nat} {ks:List M.Tm} {g:M.Tm->List UInt8} (h:∀k,k∈ks->(g k).length+1<=f k):((ks.map g).flatMap (fun x=>32::x)).length<=(ks.map f).sum:=by
 induction ks with
 |nil=>simp
 |cons k ks b=>
  have:=h k List.mem_cons_self;have:=b fun y a=>h y (List.mem_cons_of_mem _ a);simp only[List.map_cons,List.flatMap_cons,List.length_append,List.length_cons,List.sum_cons];omega
theorem text_len {ds:List M.Dcl} (j:M.declOk ds=true):∀t,M.sortM ds t≠ -1->(M.textL t).length+1<=20*M.sizeM t:=by
 refine M.Tm.ind fun t o e=>?_;obtain⟨i,w,v⟩:=M.right_op e;rw[M.sizeM_eq,M.textL_eq];have f:((t.ks.map M.textL).flatMap (fun x=>32::x)).length<=(t.ks.map fun k=>20*M.sizeM k).sum:=kids_sum fun k f=>o k f ((M.sort_parts e).2.1 k f);have h:(t.ks.map fun k=>20*M.sizeM k).sum=20*(t.ks.map M.sizeM).sum:=by
  generalize t.ks=l;induction l with
  |nil=>rfl
  |cons k l ihl=>simp only[List.map_cons,List.sum_cons,ihl];omega
 unfold M.textF;by_cases c:t.op=20
 ·rw[if_pos c,YP];have:=M.vok_iff.1 (M.vec_ok e c);omega
 rw[if_neg c];by_cases c:t.op=21
 ·rw[if_pos c];have m:=M.name_found e c;have n:(M.findD ds t.s).toNat<ds.length:=by have:=(M.findD_lt ds t.s).2;omega
  have d:=(M.decl_iff.1 j).2.1 _ n;unfold M.dclOk at d;rw[M.findD_get m] at d;simp only[Bool.and_eq_true,decide_eq_true_eq,M.nameOk] at d;obtain⟨⟨⟨⟨⟨⟨p,q⟩,r⟩,u⟩,_⟩,_⟩,_⟩:=d;have:t.s.data.toList.length=t.s.size:=by rw[Array.length_toList];rfl
  omega
 rw[if_neg c];by_cases c:t.op=24
 ·rw[if_pos c];simp;omega
 rw[if_neg c];have:=wordL_len t.op;have g:(if t.op=22 then(32:UInt8)::(M.digL t.a++32::M.digL t.b) else[]).length<=4:=by
  split
  ·simp[M.digL]
  ·simp
 simp only[List.length_cons,List.length_append,List.length_nil];omega
theorem Itoa_int {k:Int} (b:0<=k) (c:k<10) (a:∀s:ByteArray,s.data.toList=M.digL k->K (.string s) w):vcall PP x8 #[.int .i64 k] w K:=by
 obtain⟨j,rfl⟩:∃j:Nat,k=j:=⟨k.toNat,by omega⟩;exact Itoa_spec (by omega) a
theorem textOf_spec {ds:List M.Dcl} (hd:M.declOk ds=true) {kb:Nat}:∀(t:M.Tm),M.sortM ds t≠ -1->M.sizeM t<=1000->∀{w:World} {K:Value->World->Prop} {F:Nat->Prop} {tv:Value},KindsR w kb->TermR F w tv t->
  (∀w' s,Ext w w'->s.data.toList=M.textL t->K (.string s) w')->vcall PP qp #[.map (some kb),tv] w K:=by
 refine M.Tm.ind fun t ih hs bg w K F tv hk ht n=>?_;obtain⟨ad,hp,ho⟩:=M.right_op hs;have hlen:=text_len hd t hs;obtain⟨kv,rfl,af⟩:=ht;apply QW;unfold Yf;refine zB fun b1 O b6 f bi m=>?_;have Z:=hk.ext f;have H:=af.ext f;rw[M.textL_eq] at n hlen;unfold M.textF at n hlen;simp(disch:=first|(simp only[push_cast];done)|omega) only[push_cast,m.ld0,m.ld1,m.ld2,m.ld3];refine zd (fun c=>?_) (fun c=>?_)
 ·rw[if_pos c] at n;have hv:=M.vec_ok hs c;have e:zr PP zf [(0,.int .i64 t.a),(1,.int .i64 t.b)] O=fun K=>K (JB t.a t.b) O:=by
   funext K;exact ye jo (us:=[[.int .i64 t.a],[.int .i64 t.b]]) rfl rfl
  try rw[e]
  exact VecText_spec hv fun w2 s B al=>n w2 s (f.trans B) al
 rw[if_neg c] at n hlen;refine zd (fun c=>?_) (fun c=>?_)
 ·rw[if_pos c] at n;exact n O _ f rfl
 rw[if_neg c] at n hlen;refine zd (fun c=>?_) (fun c=>?_)
 ·rw[if_pos c] at n;exact n O _ f rfl
 rw[if_neg c] at n hlen;have aj:(1<=t.op/\t.op<=17)\/(22<=t.op/\t.op<=27):=by omega
 refine X7 (ok:=false) Z (by rw[ad];omega) fun bn ag=>?_;simp only[Bool.false_eq_true,if_false];refine word_spec ag aj (by omega) fun w2 ws B a7=>?_;refine qy qz (by kernel_rfl) qu rfl rfl fun b3 w3 b8 X bj aa=>?_;have Q:=B.trans X;have s1:=f.size;have s2:=B.size;have k:=m.ext Q;have a3:OwnV PP zD w3 (.slice (some ⟨b3,0,none⟩) 1 1) ([ws].map .string):=Blk.own1 (P:=PP) (t:=zD) (cs:=[Value.string ws]) (by rw[Kl];exact aa) (Nat.zero_le _) rfl rfl (by omega);have bf:1<=t.ks.length:=by
  have:=M.node_arity ho (by omega);omega
 have bd:t.ks.length<=3:=by
  have h:M.arity t.op<=3:=by
   unfold M.arity;repeat' split
   all_goals omega
  omega
 refine zI (fun u w'=> ∃(wv:Value) (wl:List ByteArray),u=[wv]/\Ext O w'/\OwnV PP zD w' wv (wl.map .string)/\(∀b,wv.ownBlock=some b->O.heap.size<=b)/\wl.length<=3/\wl.map (·.data.toList)=M.wordL t.op::(if t.op=22 then[M.digL t.a,M.digL t.b] else[])) ?_ ?_
 ·intro J hJ;simp(disch:=first|(simp only[push_cast];done)|omega) only[push_cast,k.ld0,k.ld1,k.ld2];refine zd (fun z=>?_) (fun z=>?_)
  ·obtain⟨b4,bb,b2⟩:=M.cut_ab hd hs z;refine zU fun w4 Y _=>?_;have p:=k.ext Y;simp(disch:=first|(simp only[push_cast];done)|omega) only[push_cast,p.ld1,p.ld2,true_and];refine Itoa_int (by omega) (by omega) fun sa an=>?_;simp(disch:=first|(simp only[push_cast];done)|omega) only[push_cast,p.ld2,true_and,and_self];refine Itoa_int (by omega) (by omega) fun sb ao=>?_;refine vbuildS_row1 (xs:=[.string sa,.string sb]) qz ZF qu (fun x a9=>by
    simp only[List.mem_cons,List.not_mem_nil,or_false] at a9;rcases a9 with rfl|rfl<;>rfl) (by simp) fun b5 w5 b9 q bk T=>?_
   have aq:Vals (· =b5) w5 (.slice (some ⟨b5,0,none⟩) 2 2) [.string sa,.string sb]:=T.sl1 rfl (by simp);have R:=Y.trans q;refine(a3.ext R).app Jf aq (fun u hu=>by
    simp only[List.mem_cons,List.not_mem_nil,or_false] at hu;rcases hu with rfl|rfl<;>rfl) (by simp) (by simp) fun r6 w6 G am E=>?_
   have bq:=R.size;have z3:=X.size;refine hJ _ _ ⟨r6,[ws,sa,sb],rfl,Ext.then (Q.trans R) am fun b A=>by have e:b3=b:=Option.some.inj A;omega,by simpa using G,fun b A=>(E b A).elim (fun h=>by have e:b3=b:=Option.some.inj h;omega) fun h=>by omega,by simp,?_⟩;rw[if_pos z];simp[a7,an,ao]
  ·exact hJ _ _ ⟨_,[ws],rfl,Q,a3,fun b A=>by have e:b3=b:=Option.some.inj A;omega,by simp,by rw[if_neg z];simp[a7]⟩
 rintro _ _ w5 ⟨wv,wl,rfl,q,ak,ai,bh,a8⟩;have T:=m.ext q;have a0:=H.ext q;simp(disch:=first|(simp only[push_cast];done)|omega) only[push_cast,T.ld4,a0.len];refine vloop_up t.ks.length (fun i u w'=> ∃(r:Value) (kl:List ByteArray),u=[r,.int .i64 i]/\Ext O w'/\OwnV PP zD w' r ((wl++kl).map .string)/\(∀b,r.ownBlock=some b->O.heap.size<=b)/\kl.map (·.data.toList)=(t.ks.take i).map M.textL) ⟨wv,[],rfl,q,by simpa using ak,ai,rfl⟩ ?_;rintro i _ g w6 C hi ⟨r,kl,rfl,v,G,E,l⟩ hC;have I:=H.ext v;have aw:kl.length=i:=by
  have:=congrArg List.length l;simp only[List.length_map,List.length_take] at this;omega
 simp only[push_cast];refine zd (fun a=>?_) (fun a=>?_)
 ·have d:i<t.ks.length:=(by omega);simp(disch:=first|(simp only[push_cast];done)|omega) only[push_cast,I.iaddr];refine I.load zm d fun x hx=>?_;obtain⟨cx,rfl,U⟩:=hx.cells;refine zw zt fun b7 w7 ba D bl ab=>?_;refine stTerm ab rfl (U.ext D) fun w8 ar bm ac=>?_;have S:Ext w6 w8:=Ext.then D ar fun y hy=>by subst hy;omega
  have v8:=U.ext S;simp(disch:=(simp only[push_cast];done)) only[push_cast,ac.ldAgg (t:=za) (by rw[yd U];exact zm)];have L:t.ks.getD i default∈t.ks:=M.getD_mem d _;have ap:M.sizeM (t.ks.getD i default)<=1000:=by
   have h1:=M.szT_succ d;have h2:=M.szT_mono (ks:=t.ks) (i:=i+1) (j:=t.ks.length) d (Nat.le_refl _);have h3:=M.szT_all t;omega
  refine ih _ L ((M.sort_parts hs).2.1 _ L) ap (Z.ext (v.trans S)) v8.term fun w9 sk ae a6=>?_;refine qy qz (by kernel_rfl) qu rfl rfl fun b0 bo av W ay V=>?_;have o:=S.trans (ae.trans W);have be:((wl++kl).map Value.string).length<=6:=by rw[List.length_map,List.length_append];omega
  refine(G.ext o).app1 Jf V rfl (by omega) (by omega) fun au bp a2 a4 a1=>?_;have z6:=v.size;have az:=o.size
  try simp(disch:=omega) only[push_cast,zF]
  refine hC d _ _ ⟨au,kl++[sk],by simp<;>exact⟨rfl,rfl⟩,Ext.then (v.trans o) a4 fun b A=>E b A,?_,fun b A=>(a1 b A).elim (E b) fun h=>by omega,?_⟩
  ·rw[<-List.append_assoc,List.map_append];exact a2
  ·rw[M.take_add d default,List.map_append,List.map_append,l];simp[a6]
 ·have d:i=t.ks.length:=(by omega);subst d;rw[List.take_length] at l;have N:joinB ((wl++kl).map (·.data.toList))=M.wordL t.op++((if t.op=22 then(32:UInt8)::(M.digL t.a++32::M.digL t.b) else[])++(t.ks.map M.textL).flatMap fun x=>32::x):=by
   rw[List.map_append,a8,l];show joinB (M.wordL t.op::((if t.op=22 then[M.digL t.a,M.digL t.b] else[])++t.ks.map M.textL))=_;rw[show ∀(x:List UInt8) xs,joinB (x::xs)=x++xs.flatMap (fun y=>32::y) from fun _ _=>rfl,List.flatMap_append];split<;>simp
  have ah:2<=(wl++kl).length:=by
   have h1:1<=wl.length:=by
    have:=congrArg List.length a8;simp only[List.length_map,List.length_cons] at this;omega
   rw[List.length_append];omega
  simp only[List.length_cons,List.length_append,List.length_nil] at hlen;have bc:(joinB ((wl++kl).map (·.data.toList))).length<=20000:=by
   rw[N];simp only[List.length_append];omega
  refine Join_spec G ah (by rw[List.length_append];omega) (by omega) fun w7 sj D a5=>?_;have ax:sj.size<=20000:=by
   have:sj.data.toList.length=sj.size:=by rw[Array.length_toList];rfl
   rw[a5] at this;omega
  have h1:(⟨#[40]⟩:ByteArray).size=1:=(by decide+kernel);have h3:(⟨#[41]⟩:ByteArray).size=1:=(by decide+kernel);have h2:((⟨#[40]⟩:ByteArray)++sj).size=1+sj.size:=(by rw[ByteArray.size_append,h1]);rw[yi (by omega),yi (by omega)];refine n w7 _ (f.trans (v.trans D)) ?_;rw[ByteArray.data_append,ByteArray.data_append,Array.toList_append,Array.toList_append,a5,N];simp
end Go.Proofs.YtaemeijeaajoeaaGreatDoor
end
section
namespace Go.Proofs.YtaemeijeaajoeaaGreatDoor
open Go Go.Vc Go.Proofs
variable {w w':World} {K:Value→World→Prop} {F F' G:Nat→Prop} {v tv dv:Value} {ds:List M.Dcl} {t:M.Tm} {n k:Nat}
theorem yp:PP.underlying ze=some .string:=by kernel_rfl
theorem str_ext {a b:ByteArray} (h:a.data.toList=b.data.toList):a=b:=by
 cases a;cases b;simp only[Array.toList_inj] at h;rw[h]
theorem q9 (a b:ByteArray):(a++b).data.toList=a.data.toList++b.data.toList:=by rw[ByteArray.data_append,Array.toList_append]
theorem yB (a:ByteArray):a.data.toList.length=a.size:=by rw[Array.length_toList];rfl
theorem wrapB {n:Int} (a:0<=n) (h:n<256):IntKind.u8.wrap n=n:=by
 simp only[IntKind.wrap,IntKind.bits,IntKind.signed,Bool.false_and,Bool.false_eq_true,if_false];omega
theorem strs_lit {ss:List ByteArray} (g:ss.length<=1000) (f:∀a w',a=w.heap.size->Ext w w'->Vals (· =a) w' (.slice (some ⟨a,0,none⟩) ss.length ss.length) (ss.map Value.string)->K (.slice (some ⟨a,0,none⟩) ss.length ss.length) w'):
  vbuildS PP zD ss.length ((ss.map Value.string).zipIdx.map fun p=>(p.2,p.1)) w K:=by
 have:=vbuildS_row1 (w:=w) (K:=K) (t:=zD) (xs:=ss.map Value.string) qz ZF qu (fun x h=>by obtain⟨y,_,rfl⟩:=List.mem_map.1 h;rfl) (by rw[List.length_map];omega) fun a w' c d i e=>by
  have b:Vals (· =a) w' (.slice (some ⟨a,0,none⟩) (ss.map Value.string).length (ss.map Value.string).length) (ss.map Value.string):=e.sl1 rfl (by rw[List.length_map];omega);rw[List.length_map] at b⊢;exact f a w' c d b
 rwa[List.length_map] at this
theorem sign_text {c:UInt8} {x:Int} (i:x=c.toNat) (g:∀w' s,Ext w w'->s.data.toList=[c]->K (.string s) w'):vbuildS PP zu 1 [(0,.int .u8 x)] w fun t k=>jh PP zu ze t k K:=by
 subst i;refine qy qS (by kernel_rfl) (show xo PP zZ (.int .u8 0) by unfold xo;kernel_rfl) rfl rfl fun f e h b j a=>?_;have d:OwnV PP zu e (.slice (some ⟨f,0,none⟩) 1 1) ([c].map byV):=Blk.own1 (P:=PP) (t:=zu) (cs:=[byV c]) (by rw[Jk];exact a) (Nat.zero_le _) rfl rfl (by omega);rw[Qn d (by simp)];exact g e _ b rfl
theorem l12Dec_spec {k:Nat} (m:k<10) (e:∀w' s,Ext w w'->s.data.toList=M.digL (k:Int)->K (.string s) w'):vcall PP yZ #[.int .i64 k] w K:=by
 apply QT;unfold Yc;simp only[push_cast];refine zd (fun h=>by omega) (fun _=>?_);refine zd (fun h=>by omega) (fun _=>?_);refine vloop_up 0 (fun i u w'=>u=[.int .i64 k,.string ⟨#[]⟩]/\w'=w) ⟨rfl,rfl⟩ ?_;rintro i _ _ n C l ⟨rfl,rfl⟩ j;simp only[push_cast];refine zd (fun h=>by omega) (fun _=>?_);rw[qx W0 Qx,zF (by omega) (by omega),wrapB (by omega) (by omega)];refine sign_text (c:=UInt8.ofNat (48+k)) (by
  have:(UInt8.ofNat (48+k)).toNat=48+k:=by simp[UInt8.toNat_ofNat];omega
  rw[this];omega) fun f s a d=>?_
 have g:(⟨#[]⟩:ByteArray).size=0:=rfl;have b:=yB s;rw[d] at b;simp only[List.length_cons,List.length_nil] at b;rw[yi (by omega)];refine e f _ a ?_;rw[q9,d];show[UInt8.ofNat (48+k)]++[]=[UInt8.ofNat (48+((k:Int)).toNat)];rw[Int.toNat_natCast];rfl
theorem JF {b:Nat} {wd n:Int} (h:Blk w b [.int .i64 wd,.int .i64 n] zf):zg PP zf (.pointer (some ⟨b,0,none⟩)) w K=K (JB wd n) w:=h.ldAgg xM
theorem spec_VecText_spec {wd n:Int} (f:M.vok wd n=true) (v:∀w' s,Ext w w'->s.data.toList=M.vecL wd.toNat n.toNat->K (.string s) w'):vcall PP j6 #[JB wd n] w K:=by
 apply XW;unfold Z6;obtain⟨H,I,J,L⟩:=M.vok_iff.1 f;have P:n<16:=by
  have N:(2:Nat)^wd.toNat<=2^4:=Nat.pow_le_pow_right (by omega) (by omega);have t:(((2:Nat)^wd.toNat:Nat):Int)<=16:=(by omega);have O:(2:Int)^wd.toNat<=16:=(by simpa using t);omega
 refine zB fun b1 Q y o D b=>?_;rw[JF b];refine spec_VecOk_spec fun E e=>?_;rw[f];simp only[push_cast,Bool.not_true];have c:=b.ext e;simp(disch:=first|(simp only[push_cast];done)|omega) only[push_cast,c.ld0,zF];have hle:(M.vecL wd.toNat n.toNat).length=wd.toNat+1:=YP _ _;refine YO (fun m u w'=> ∃(j:Nat) (s:ByteArray),u=[.string s,.int .i64 ((m:Int)-1)]/\(m:Int)+j=wd/\Ext E w'/\s.data.toList=35::((List.range wd.toNat).reverse.map (Q6 n.toNat)).take j) wd.toNat
  ⟨0,_,by rw[show((wd.toNat:Nat):Int)=wd by omega],by omega,Same.refl _ _,rfl⟩ ?_
 rintro m _ _ F G ⟨j,s,rfl,B,a,h⟩ k;have i:=c.ext a;have g:=yB s;rw[h] at g;simp only[List.length_cons,List.length_take,List.length_map,List.length_reverse,List.length_range] at g;simp only[push_cast];refine zd (fun z=>?_) (fun A=>?_)
 ·simp(disch:=first|(simp only[push_cast];done)|omega) only[push_cast,i.ld1];rw[show n=((n.toNat:Nat):Int) by omega,show(m:Int)-1=((m-1:Nat):Int) by omega];refine l1Bit_spec (by omega) (by omega) ?_;have x:n.toNat/2^(m-1)%2<2:=Nat.mod_lt _ (by decide);generalize C:n.toNat/2^(m-1)%2=q at x;refine l12Dec_spec (by omega) fun R d p r=>?_;have l:=yB d;rw[r] at l;have:(M.digL (q:Int)).length=1:=rfl;rw[yi (by omega)];simp(disch:=omega) only[push_cast,zF];refine k (m-1) _ _ (by omega) ⟨j+1,s++d,by rw[show(m:Int)-(0+1)-1=((m-1:Nat):Int)-1 by omega],by omega,a.trans p,?_⟩;rw[q9,h,r,bitC_take (by omega),List.cons_append];congr 2;unfold Q6;rw[show wd.toNat-1-j=m-1 by omega,C];have:q=0\/q=1:=(by omega);rcases this with rfl|rfl<;>rfl
 ·rw[List.take_of_length_le (by simp;omega)] at h;exact v F s ((o.trans e).trans a) h
def WL:List ByteArray:=[⟨#[]⟩,⟨#[110,111,116]⟩,⟨#[110,101,103]⟩,⟨#[97,110,100]⟩,⟨#[111,114]⟩,⟨#[120,111,114]⟩,⟨#[97,100,100]⟩,⟨#[115,117,98]⟩,⟨#[109,117,108]⟩,⟨#[100,105,118]⟩,⟨#[114,101,109]⟩,⟨#[115,104,108]⟩,⟨#[115,104,114]⟩,⟨#[115,97,114]⟩,⟨#[99,97,116]⟩,⟨#[115,97,109,101]⟩,⟨#[108,101,115,115]⟩,⟨#[117,110,100,101,114]⟩,⟨#[]⟩,⟨#[]⟩,⟨#[]⟩,⟨#[]⟩,⟨#[99,117,116]⟩,⟨#[105,102]⟩,⟨#[116,114,117,101]⟩,⟨#[110,111]⟩,⟨#[98,111,116,104]⟩,⟨#[97,110,121]⟩]
theorem wordsL_get:∀i:Fin 28,i.1≠24->(WL.getD i.1 ⟨#[]⟩).data.toList=M.wordL (i.1:Int):=by decide+kernel
theorem wordsL_len:∀i:Fin 28,(WL.getD i.1 ⟨#[]⟩).size<=5:=by decide+kernel
theorem l2Words_spec (a:∀w' v,Ext w w'->Vals (fun x=>w.heap.size<=x) w' v (WL.map Value.string)->K v w'):vcall PP xP #[] w K:=by
 apply XP;unfold kZ;refine strs_lit (ss:=WL) (by decide) fun d w' e he b=>?_;exact a w' _ he (b.weaken fun x c _=>by subst c;omega)
theorem spec_l2Text_spec (hd:M.declOk ds=true):∀(t:M.Tm),M.sortM ds t≠ -1->M.sizeM t<=1000->∀{w:World} {K:Value->World->Prop} {F:Nat->Prop} {tv:Value},TermR F w tv t->
  (∀w' s,Ext w w'->s.data.toList=M.textL t->K (.string s) w')->vcall PP qk #[tv] w K:=by
 refine M.Tm.ind fun t ih R bb w K F tv ht hK=>?_;have hlen:=text_len hd t R;obtain⟨cs,rfl,al⟩:=ht.cells;obtain⟨kv,rfl,an⟩:=al.inv;apply QF;unfold ZZ;refine zB fun b1 S b3 h be f=>?_;have a5:=an.ext h;simp(disch:=first|(simp only[push_cast];done)|omega) only[push_cast,f.ld0,f.ld1,f.ld2,f.ld3];by_cases n:M.leafT t
 ·obtain⟨_,_,d,_⟩:=M.leaf_ok hd R n;unfold M.textF at d;refine zd (fun c=>?_) (fun c=>?_)
  ·rw[if_pos c] at d;have hv:=M.vec_ok R c;have e:zr PP zf [(0,.int .i64 t.a),(1,.int .i64 t.b)] S=fun K=>K (JB t.a t.b) S:=by
    funext K;exact ye jo (us:=[[.int .i64 t.a],[.int .i64 t.b]]) rfl rfl
   try rw[e]
   exact spec_VecText_spec hv fun w2 s r v=>hK w2 s (h.trans r) (by rw[v,d])
  rw[if_neg c] at d;refine zd (fun c=>?_) (fun c=>?_)
  ·rw[if_pos c] at d;exact hK S _ h (by rw[d])
  rw[if_neg c] at d;refine zd (fun c=>?_) (fun c=>?_)
  ·rw[if_pos c] at d;exact hK S _ h (by rw[d])
  ·exact absurd n (by unfold M.leafT;omega)
 ·have d:=M.node_text n;obtain⟨b7,b8,ba,av,b0,b9⟩:=M.node_arity' R n;unfold M.leafT at n;refine zd (fun c=>by omega) (fun _=>?_);refine zd (fun c=>by omega) (fun _=>?_);refine zd (fun c=>by omega) (fun _=>?_);refine zU fun w2 r _=>?_;have V:=f.ext r;simp(disch:=first|(simp only[push_cast];done)|omega) only[push_cast,V.ld0,true_and];refine l2Words_spec fun w3 v3 a1 ah=>?_;have G:=V.ext a1;obtain⟨o,ho⟩:∃o:Nat,t.op=o:=⟨t.op.toNat,by omega⟩;have p:o<28:=(by omega);have ai:(WL.getD o ⟨#[]⟩).data.toList=M.wordL (o:Int):=wordsL_get ⟨o,p⟩ (by show o≠24;omega);have ap:(WL.getD o ⟨#[]⟩).size<=5:=wordsL_len ⟨o,p⟩;have a4:(WL.map Value.string).getD o undef= .string (WL.getD o ⟨#[]⟩):=M.getD_map _ (show o<WL.length from p) _ ⟨#[]⟩;have ak:(⟨#[40]⟩:ByteArray).size=1:=(by decide+kernel);have au:(WL.map Value.string).length=28:=rfl;simp(disch:=first|(simp only[push_cast];done)|omega) only[push_cast,G.ld0,ho,ah.iaddr,ah.load,Int.toNat_natCast,a4,true_and,and_self];rw[yi (by omega)];have E:(⟨#[32]⟩:ByteArray).size=1:=(by decide+kernel);have ay:(⟨#[41]⟩:ByteArray).size=1:=(by decide+kernel);generalize bd:WL.getD o ⟨#[]⟩=wd at ai ap;have ac:((⟨#[40]⟩:ByteArray)++wd).size=1+wd.size:=(by rw[ByteArray.size_append,ak]);have N:((⟨#[40]⟩:ByteArray)++wd).data.toList=40::M.wordL t.op:=by rw[q9,ai,ho];rfl
  generalize (⟨#[40]⟩:ByteArray)++wd=Q at ac N;have T:=r.trans a1;refine⟨rfl,?_⟩;refine zI (fun u w'=> ∃s:ByteArray,u=[.string s]/\Ext S w'/\s.data.toList=40::(M.wordL t.op++M.cutL t)) (fun J hJ=>?_) ?_
  ·try simp(disch:=first|(simp only[push_cast];done)|omega) only[push_cast,G.ld0]
   refine zd (fun aj=>?_) (fun aj=>hJ _ _ ⟨Q,rfl,T,by rw[N];unfold M.cutL;rw[if_neg (by omega),List.append_nil]⟩);obtain⟨b2,b4,az⟩:=M.cut_ab hd R (by omega);refine zU fun w4 a2 _=>?_;have H:=G.ext a2;rw[yi (by omega)];refine⟨rfl,?_⟩;have a6:(Q++(⟨#[32]⟩:ByteArray)).data.toList=40::(M.wordL t.op++[32]):=by rw[q9,N];rfl
   have ad:(Q++(⟨#[32]⟩:ByteArray)).size=Q.size+1:=(by rw[ByteArray.size_append,E]);have A:∀(w':World) (K:Value->World->Prop),zj PP .add ze true (.string Q) (.string ⟨#[32]⟩) w' K=K (.string (Q++⟨#[32]⟩)) w':=fun w' K=>yi (by omega);generalize Q++(⟨#[32]⟩:ByteArray)=s1 at a6 ad A;simp(disch:=first|(simp only[push_cast];done)|omega) only[push_cast,H.ld1,H.ld2,true_and];obtain⟨ta,ag⟩:∃ta:Nat,t.a=ta:=⟨t.a.toNat,by omega⟩;obtain⟨tb,P⟩:∃tb:Nat,t.b=tb:=⟨t.b.toNat,by omega⟩;rw[ag,P];refine l12Dec_spec (by omega) fun w5 da a3 X=>?_;have g:=H.ext a3;rw[P] at g;have Z:=yB da;rw[X] at Z;have W:∀x:Int,(M.digL x).length=1:=fun _=>rfl;rw[W] at Z;simp(disch:=first|(simp only[push_cast];done)|omega) only[push_cast,g.ld2,A,true_and,and_self];have B:∀(w':World) (K:Value->World->Prop),zj PP .add ze false (.string s1) (.string da) w' K=K (.string (s1++da)) w':=fun w' K=>yi (by omega);have v:(s1++da).data.toList=40::(M.wordL t.op++(32::M.digL t.a)):=by rw[q9,a6,X,ag];simp
   have ae:(s1++da).size=s1.size+1:=by rw[ByteArray.size_append];omega
   rw[B];refine⟨rfl,?_⟩;generalize s1++da=s2 at v ae B;have D:∀(w':World) (K:Value->World->Prop),zj PP .add ze true (.string s2) (.string ⟨#[32]⟩) w' K=K (.string (s2++⟨#[32]⟩)) w':=fun w' K=>yi (by omega);have a7:(s2++(⟨#[32]⟩:ByteArray)).data.toList=40::(M.wordL t.op++(32::(M.digL t.a++[32]))):=by rw[q9,v];simp
   have af:(s2++(⟨#[32]⟩:ByteArray)).size=s2.size+1:=(by rw[ByteArray.size_append,E]);rw[D];refine⟨rfl,?_⟩;generalize s2++(⟨#[32]⟩:ByteArray)=s3 at a7 af D;refine l12Dec_spec (by omega) fun w6 db I Y=>?_;have a0:=yB db;rw[Y,W] at a0;simp(disch:=first|(simp only[push_cast];done)|omega) only[push_cast,A,B,D,true_and,and_self];rw[yi (by omega)];refine⟨rfl,hJ _ _ ⟨_,rfl,T.trans (a2.trans (a3.trans I)),?_⟩⟩;rw[q9,a7,Y,<-P];unfold M.cutL;rw[if_pos (by omega)];simp
  rintro _ _ w4 ⟨s4,rfl,U,ao⟩;have aq:Blk w4 b1 [.int .i64 t.op,.int .i64 t.a,.int .i64 t.b,.string t.s,kv] za:=f.ext U;have b6:∀{i:Nat} {k:M.Tm},(M.kidsL (t.ks.take i)).length<=20000->True:=fun _=>trivial;have L:∀i,i<=t.ks.length->(M.kidsL (t.ks.take i)).length<=(M.textL t).length:=fun i hi=>by
   have e:M.kidsL t.ks=M.kidsL (t.ks.take i)++M.kidsL (t.ks.drop i):=by
    unfold M.kidsL;rw[<-List.flatMap_append,<-List.map_append,List.take_append_drop]
   rw[d,e];simp only[List.length_cons,List.length_append];omega
  have b5:(M.cutL t).length<=4:=by
   unfold M.cutL;split
   ·simp[M.digL]
   ·simp
  have ax:=wordL_len t.op;refine vloop_up t.ks.length (fun i u w'=> ∃s:ByteArray,u=[.string s,.int .i64 i]/\Ext S w'/\s.data.toList=40::(M.wordL t.op++(M.cutL t++M.kidsL (t.ks.take i)))) ⟨s4,rfl,U,by rw[ao];simp[M.kidsL]⟩ ?_;rintro i _ _ w5 C hi ⟨s5,rfl,q,O⟩ hC;have g:=f.ext q;have m:=a5.ext q;have aa:=yB s5;rw[O] at aa;simp only[List.length_cons,List.length_append] at aa;have ar:=L i (by omega);simp(disch:=first|(simp only[push_cast];done)|omega) only[push_cast,g.ld4,m.len];refine zd (fun a=>?_) (fun a=>?_)
  ·have l:i<t.ks.length:=(by omega);have z:t.ks.getD i default∈t.ks:=M.getD_mem l _;rw[yi (by omega)];have aw:(s5++(⟨#[32]⟩:ByteArray)).size=s5.size+1:=(by rw[ByteArray.size_append,E]);simp(disch:=first|(simp only[push_cast];done)|omega) only[push_cast,g.ld4,m.iaddr,Int.toNat_natCast];refine m.load zm l fun x hx=>?_;have y:=(M.sort_parts R).2.1 _ z;have ab:M.sizeM (t.ks.getD i default)<=1000:=by
    have h1:=M.szT_succ l;have h2:=M.szT_mono (ks:=t.ks) (i:=i+1) (j:=t.ks.length) (by omega) (Nat.le_refl _);have h3:=M.szT_all t;omega
   have bc:=text_len hd _ y;refine ih _ z y ab hx fun w6 sk I a8=>?_;have a9:=yB sk;rw[a8] at a9;rw[yi (by omega),inc64' (by omega)];refine hC l _ _ ⟨_,rfl,q.trans I,?_⟩;rw[q9,q9,O,a8,M.take_add l default];unfold M.kidsL;simp
  ·have am:i=t.ks.length:=(by omega);rw[yi (by omega)];refine hK w5 _ (h.trans q) ?_;rw[q9,O,d,am,List.take_length];simp
def J4 (ds:List M.Dcl) (t:M.Tm) (s:ByteArray):Prop:=(M.tsort ds t= -1→s=⟨#[]⟩)∧(M.tsort ds t≠ -1→s.data.toList=M.textL t)
theorem xb (h:M.tsort ds t≠ -1):M.sortM ds t≠ -1/\M.declOk ds=true/\M.sizeM t<=20/\M.deepM t<=7/\M.sortM ds t=M.tsort ds t:=by
 unfold M.tsort at h⊢;split at h
 ·next a=>exact⟨h,a.2,(M.fits_iff.1 a.1).1,(M.fits_iff.1 a.1).2,by rw[if_pos a]⟩
 ·exact absurd rfl h
theorem tsort_low (ds:List M.Dcl) (t:M.Tm):M.tsort ds t= -1\/0<=M.tsort ds t:=by
 by_cases h:M.tsort ds t= -1
 ·exact .inl h
 ·have a:=xb h;have:=(M.sort_range a.2.1 t).1;omega
theorem spec_TermText_spec (p:Vg ds) (l:DclsR F w dv ds) (o:TermR G w tv t) (i:∀w' s,Ext w w'->J4 ds t s->K (.string s) w'):vcall PP yQ #[dv,tv] w K:=by
 apply Xr;unfold km;obtain⟨cs,rfl,a⟩:=o.cells;have j:aggB PP za cs.length=true:=by rw[yd a];exact zm
 refine zB fun b1 v k b q d=>?_;rw[d.ldAgg j];refine spec_TermSort_spec p (l.ext b) (a.ext b).term fun r e=>?_;simp only[push_cast];have f:=b.trans e;have m:=tsort_low ds t;refine zd (fun c=>i r _ f ⟨fun _=>rfl,fun h=>absurd (m.resolve_right (by omega)) h⟩) (fun c=>?_);have h:=xb (ds:=ds) (t:=t) (by omega);rw[(d.ext e).ldAgg j];refine spec_l2Text_spec h.2.1 t h.1 (by omega) (a.ext f).term fun u s g n=>?_;exact i u s (f.trans g) ⟨fun h=>by omega,fun _=>n⟩
end Go.Proofs.YtaemeijeaajoeaaGreatDoor
end
section
namespace Go.Proofs.YtaemeijeaajoeaaGreatDoor
open Go Go.Vc Go.Proofs
variable {w:World} {K:Value→World→Prop} {F F' D G:Nat→Prop}
theorem one_tms {ks:List M.Tm} {css:List (List Value)} (l:css.length=ks.length) (h:∀i,i<ks.length->TmR G w (css.getD i []) (ks.getD i default)):∀y,y∈css->∀c,c∈y->c.oneCell'=true:=fun y j c a=>by
 obtain⟨i,g,rfl⟩:=List.getElem_of_mem j;have f:=h i (by omega);rw[List.getD_eq_getElem?_getD,List.getElem?_eq_getElem g] at f;obtain⟨k,he,b⟩:=f.inv;obtain⟨e,d,_⟩:=b;rw[show css[i]=(some css[i]).getD [] from rfl,he] at a;simp only[List.mem_cons,List.not_mem_nil,or_false] at a;rcases a with rfl|rfl|rfl|rfl|rfl
 ·rfl
 ·rfl
 ·rfl
 ·rfl
 ·exact d.one
end Go.Proofs.YtaemeijeaajoeaaGreatDoor
end
section
namespace Go.Vc
open Go Go.M
variable {P:Program} {w w':World} {K:Value→World→Prop} {F:Nat→Prop} {k:Nat} {v tv dv mv:Value} {xs:List (List Value)} {t:TypeId} {ts:List Tm} {ds:List Dcl}
theorem TmsR.one (h:TmsR F w tv ts):tv.oneCell'=true:=by
 obtain⟨_,h,_⟩:=h;obtain⟨a,c,rfl,_⟩:=h.shape;rfl
theorem TmsR.cellsV (h:TmsR F w tv ts):tv.cells= #[tv]:=by
 obtain⟨_,h,_⟩:=h;obtain⟨a,c,rfl,_⟩:=h.shape;rfl
end Go.Vc
end
section
namespace Go.M
open Go.Vc
mutual
def sameT:Tm→Tm→Bool
 | .mk o a b s ks,.mk o' a' b' s' ks'=>decide (o=o')&&decide (a=a')&&decide (b=b')&&decide (s=s')&&sameL ks ks'
def sameL:List Tm→List Tm→Bool
 |[],[]=>true
 |x::xs,y::ys=>sameT x y&&sameL xs ys
 |[],_::_=>false
 |_::_,[]=>false
end
theorem sameL_of {xs:List Tm} (a:∀k,k∈xs->∀y,sameT k y=true↔k=y):∀ys,sameL xs ys=true↔xs=ys:=by
 induction xs with
 |nil=>intro ys;cases ys<;>simp[sameL]
 |cons x xs ihx=>
  intro ys;cases ys with
  |nil=>simp[sameL]
  |cons y ys=>
   grind [sameL]
theorem sameT_iff:∀t u:Tm,sameT t u=true↔t=u:=by
 refine Tm.ind fun t c u=>?_;cases t with
 |mk o a b s ks=>
  cases u with
  |mk o' e f g d=>
   rw[sameT,Bool.and_eq_true,sameL_of (xs:=ks) c]
   grind
instance:DecidableEq Tm:=fun t u=>decidable_of_iff _ (sameT_iff t u)
theorem tm_ext {t u:Tm} (c:t.op=u.op) (d:t.a=u.a) (e:t.b=u.b) (f:t.s=u.s) (g:t.ks=u.ks):t=u:=by
 cases t;cases u
 grind [Tm.op,Tm.a,Tm.b,Tm.s,Tm.ks]
section
variable {ds:List Dcl} {env:List Int} {t u:Tm} {w n:Int}
def binT (w n:Nat):Prop:=
 (Q7 3 w n n=n∧Q7 4 w n n=n∧Q7 5 w n n=0∧Q7 7 w n n=0)∧
 (Q7 4 w n 0=n∧Q7 5 w n 0=n∧Q7 6 w n 0=n∧Q7 7 w n 0=n∧Q7 11 w n 0=n∧Q7 12 w n 0=n∧Q7 13 w n 0=n)∧
 (Q7 3 w n 0=0∧Q7 8 w n 0=0∧Q7 8 w n 1=n)∧
 (Q7 4 w 0 n=n∧Q7 5 w 0 n=n∧Q7 6 w 0 n=n∧Q7 3 w 0 n=0∧Q7 8 w 0 n=0∧Q7 8 w 1 n=n)
instance (w n:Nat):Decidable (binT w n):=by unfold binT;infer_instance
end
end Go.M
end
section
namespace Go.M
open Go.Vc
section
variable {ds:List Dcl} {env:List Int} {t u:Tm} {d:Dcl} {x:Int}
theorem app_getD {α:Type} {l r:List α} {i:Nat} {e:α} (h:i<l.length):(l++r).getD i e=l.getD i e:=by
 grind
end
end Go.M
end
section
namespace Go.M
open Go.Vc
abbrev Lay:=List Dcl×List Tm
section
variable {c:List Lay} {d:Dcl} {t:Tm} {l:Lay} {ds es:List Dcl} {i:Nat}
end
end Go.M
end
section
namespace Go.Proofs.YtaemeijeaajoeaaGreatDoor
open Go Go.Vc Go.Proofs
variable {w w':World} {K:Value→World→Prop} {F F' F2 H H2 S:Nat→Prop} {k:Nat} {v uv tv dv:Value} {xs:List (List Value)} {t:TypeId} {ts us:List M.Tm} {ds es:List M.Dcl}
def LstH (H:Nat→Prop) (w:World) (tv:Value) (ts:List M.Tm):Prop:= ∃css,Own PP 0 5 zc w tv css∧css.length=ts.length∧∀i,i<ts.length→TmR H w (css.getD i []) (ts.getD i default)
theorem LstH.nil:LstH H w (.slice none 0 0) []:=⟨[],Own.nil PP 0 5 _ w,rfl,fun i a=>absurd a (Nat.not_lt_zero _)⟩
theorem LstH.lt (h:LstH H w tv ts) {b:Nat} (a:tv.ownBlock=some b):b<w.heap.size:=by obtain⟨_,c,_⟩:=h;exact(c.lt a).2
theorem LstH.same (h:LstH H w tv ts) (hw:Same S w w') (b:∀x,tv.ownBlock=some x->¬S x) (c:∀x,H x->x<w.heap.size->¬S x):LstH H w' tv ts:=by
 obtain⟨css,f,e,d⟩:=h;exact⟨css,f.same hw b,e,fun i a=>(d i a).same hw c⟩
theorem LstH.ext (h:LstH H w tv ts) (hw:Ext w w'):LstH H w' tv ts:=h.same hw (fun _ _ h=>h) fun _ _ _ h=>h
theorem LstH.weaken (h:LstH H w tv ts) (c:∀b,H b->b<w.heap.size->F b):LstH F w tv ts:=by
 obtain⟨css,f,e,d⟩:=h;exact⟨css,f,e,fun i a=>(d i a).weaken c⟩
theorem LstH.tms (h:LstH H w tv ts):TmsR (fun x=>H x\/tv.ownBlock=some x) w tv ts:=by
 obtain⟨css,e,d,c⟩:=h;exact⟨css,e.sl.weaken fun x b _=> .inr b,d,fun i a=>(c i a).weaken fun x b _=> .inl b⟩
theorem Vb {α:Type} {l r:List α} {i:Nat} {e:α} (h:l.length<=i):(l++r).getD i e=r.getD (i-l.length) e:=by
 rw[List.getD_eq_getElem?_getD,List.getElem?_append_right h,<-List.getD_eq_getElem?_getD]
theorem LstH.app {ty:Nat} {c:List (List Value)} (h:LstH H w tv ts) (o:∀x,tv.ownBlock=some x->¬H x/\¬H2 x) (hu:Sl F2 w 5 uv c) (j:c.length=us.length) (g:∀i,i<us.length->TmR H2 w (c.getD i []) (us.getD i default))
  (s:ts.length+us.length<=1000000000)
  (p:∀w' b,Same (fun x=>tv.ownBlock=some x) w w'->(∀x,b.ownBlock=some x->tv.ownBlock=some x\/w.heap.size<=x)->LstH (fun x=>(H x\/H2 x)/\x<w.heap.size) w' b (ts++us)->K b w'):
  vbi PP .append [zc,zc] ty [tv,uv] w K:=by
 obtain⟨css,r,f,q⟩:=h;refine vappend kg (by decide) r hu (one_tms j g) (Nat.zero_le _) (by omega) (by omega) fun b t m d l=>p t b d l ⟨css++c,m,by simp[f,j],fun i k=>?_⟩;rw[List.length_append] at k;by_cases n:i<ts.length
 ·rw[M.app_getD (by omega),M.app_getD n];exact((q i n).weaken (F':=fun x=>(H x\/H2 x)/\x<w.heap.size/\H x) fun x a f=>⟨.inl a,f,a⟩).same d (fun x a _ e=>(o x e).1 a.2.2)|>.weaken fun x a _=>⟨a.1,a.2.1⟩
 ·rw[Vb (by omega),Vb (by omega),f];exact((g _ (by omega)).weaken (F':=fun x=>(H x\/H2 x)/\x<w.heap.size/\H2 x) fun x a f=>⟨.inr a,f,a⟩).same d (fun x a _ e=>(o x e).2 a.2.2)|>.weaken fun x a _=>⟨a.1,a.2.1⟩
theorem LstH.push {ty:Nat} {t:M.Tm} (h:LstH H w tv ts) (m:∀x,tv.ownBlock=some x->¬H x/\¬H2 x) (u:TermR H2 w uv t) (r:ts.length<=2000000)
  (p:∀w' a,Same (fun x=>tv.ownBlock=some x) w w'->(∀x,a.ownBlock=some x->tv.ownBlock=some x\/w.heap.size<=x)->LstH (fun x=>(H x\/H2 x)/\x<w.heap.size) w' a (ts++[t])->K a w'):
  vbuildS PP zc 1 [(0,uv)] w fun s n=>vbi PP .append [zc,zc] ty [tv,s] n K:=by
 obtain⟨cs,rfl,f⟩:=u.cells;refine YQ qT jt zt rfl (yd f) (by decide) fun b n z d v g=>?_;have A:=d.size;refine LstH.app (H2:=fun x=>H2 x/\x<w.heap.size) (us:=[t]) ((h.weaken (F:=fun x=>H x/\x<w.heap.size) fun x c j=>⟨c,j⟩).ext d) (fun x c=>⟨fun e=>(m x c).1 e.1,fun e=>(m x c).2 e.1⟩) (g.sl1k (yd f)) rfl (fun i q=>?_) (by simp;omega) fun y a l k o=>?_
 ·have:i=0:=(by simpa using q);subst this;exact(f.weaken fun x c j=>⟨c,j⟩).ext d
 ·refine p y a ((Same.of_ext d).trans l) (fun x c=>(k x c).imp id fun h=>by omega) (o.weaken fun x c _=>?_);rcases c.1 with h|h
  ·exact⟨.inl h.1,h.2⟩
  ·exact⟨.inr h.1,h.2⟩
end Go.Proofs.YtaemeijeaajoeaaGreatDoor
end
section
namespace Go.Proofs.YtaemeijeaajoeaaGreatDoor
open Go Go.Vc Go.Proofs
variable {w w':World} {K:Value→World→Prop} {s:ByteArray} {V:Prop} {ds:List M.Dcl} {u t:M.Tm} {r:List UInt8}
theorem ZL (s:ByteArray) (i j:Nat):(s.extract i j).data.toList=(s.data.toList.drop i).take (j-i):=by
 rw[ByteArray.data_extract,Array.toList_extract,List.extract_eq_take_drop]
theorem qY {i:Nat} (b:i<s.size):s.data.toList.drop i=s.data.getD i 0::s.data.toList.drop (i+1):=by
 have a:i<s.data.size:=b;have c:i<s.data.toList.length:=by rw[Array.length_toList];exact a
 rw[List.drop_eq_getElem_cons c,Array.getD_eq_getD_getElem?,Array.getElem?_eq_getElem a,Array.getElem_toList];rfl
theorem YV {i:Nat} (a:s.size<=i):s.data.toList.drop i=[]:=List.drop_eq_nil_of_le (by rw[yB];exact a)
theorem Wj {a r:List UInt8} (e:M.AllOk a) (g:∀c,r.head?=some c->M.okc c=false):M.wd (a++r)=a/\M.rs (a++r)=r:=by
 induction a with
 |nil=>
  cases r with
  |nil=>exact⟨rfl,rfl⟩
  |cons c r=>have h:=g c rfl;simp[M.wd,M.rs,h]
 |cons x a j=>
  have i:=e x List.mem_cons_self;obtain⟨b,d⟩:=j fun c f=>e c (List.mem_cons_of_mem _ f);simp only[M.wd,M.rs] at b d;simp[M.wd,M.rs,i,b,d]
theorem u8_ne {c:UInt8} {n:Nat} (h:(c.toNat:Int)≠n) (a:n<256):c≠UInt8.ofNat n:=fun e=>by
 subst e;apply h;simp[UInt8.toNat_ofNat];omega
theorem u8_eq {c:UInt8} {n:Nat} (h:(c.toNat:Int)=n):c=UInt8.ofNat n:=by
 have:c.toNat=n:=by omega
 rw[<-this];simp
theorem l2Word_spec {a:Nat} (E:a<=s.size) (G:s.size<=1000000) (q:∀x (e:Nat),a<=e->e<=s.size->x.data.toList=M.wd (s.data.toList.drop a)->s.data.toList.drop e=M.rs (s.data.toList.drop a)->K (.tuple #[.string x,.int .i64 e]) w):vcall PP yX #[.string s,.int .i64 a] w K:=by
 apply QE;unfold ZY;refine vloop_up (s.size-a) (fun i u w'=> ∃j:Nat,j=a+i/\u=[.int .i64 j]/\w'=w/\M.AllOk ((s.data.toList.drop a).take i)) ⟨a,rfl,rfl,rfl,by simp[M.AllOk]⟩ ?_;rintro i _ _ B C F ⟨j,o,rfl,rfl,d⟩ p;have fin:(∀c,(s.data.toList.drop j).head?=some c->M.okc c=false)->yx PP ze (.string s) (some (.int .i64 a)) (some (.int .i64 j)) none B fun t D=>K (.tuple #[t,.int .i64 j]) D:=fun h=>by
  rw[Qf yp (by omega) (by omega) (by omega),Int.toNat_natCast,Int.toNat_natCast];have e:s.data.toList.drop a=(s.data.toList.drop a).take i++s.data.toList.drop j:=(by rw[o,<-List.drop_drop,List.take_append_drop]);obtain⟨l,m⟩:=Wj d h;rw[<-e] at l m;refine q _ j (by omega) (by omega) ?_ m.symm;rw[ZL,l,show j-a=i by omega]
 simp only[push_cast,yl yp];refine zd (fun c=>?_) (fun c=>fin (by rw[YV (by omega)];intro c h;cases h));have g:j<s.size:=by omega
 have f:=qY g;generalize v:s.data.getD j 0=x at f;have b:∀(w':World) (K:Value->World->Prop),yG PP ze (.string s) (.int .i64 j) w' K=K (.int .u8 (x.toNat:Int)) w':=fun w' K=>by rw[vindex_str yp (by omega) (by omega),Int.toNat_natCast,v]
 rw[f] at fin;rw[b];simp only[push_cast];refine zd (fun k=>?_) (fun k=>fin (by rintro _ h;cases h;rw[u8_eq (c:=x) (n:=32) (by omega)];rfl));rw[b];simp only[push_cast];refine zd (fun c2=>?_) (fun c2=>fin (by rintro _ h;cases h;rw[u8_eq (c:=x) (n:=40) (by omega)];rfl));rw[b];simp only[push_cast];refine zd (fun c3=>?_) (fun c3=>fin (by rintro _ h;cases h;rw[u8_eq (c:=x) (n:=41) (by omega)];rfl));rw[inc64' (by omega)];refine p (by omega) _ _ ⟨j+1,by omega,rfl,rfl,?_⟩;have hit:(s.data.toList.drop a).take (i+1)=(s.data.toList.drop a).take i++[x]:=by
  rw[List.take_add_one,List.getElem?_drop,<-o];have:s.data.toList[j]?=some x:=by
   have:=congrArg List.head? f;rwa[List.head?_drop] at this
  rw[this];rfl
 rw[hit];intro c r;rcases List.mem_append.1 r with h|h
 ·exact d c h
 ·rw[List.mem_singleton] at h;subst h;have y:c≠32:=u8_ne (n:=32) k (by decide);have z:c≠40:=u8_ne (n:=40) c2 (by decide);have A:c≠41:=u8_ne (n:=41) c3 (by decide);simp[M.okc,y,z,A]
theorem wordsL_inj:∀i j:Fin 28,i.1≠24->WL.getD i.1 ⟨#[]⟩≠⟨#[]⟩->WL.getD j.1 ⟨#[]⟩=WL.getD i.1 ⟨#[]⟩->j=i:=by decide+kernel
theorem l2Op_spec {o:Int} (F:V->s.data.toList=M.wordL o/\((1<=o/\o<=17)\/(22<=o/\o<=27))/\o≠24) (E:∀w' (p:Int),Ext w w'->0<=p->p<28->(V->p=o)->K (.int .i64 p) w'):vcall PP Zn #[.string s] w K:=by
 apply JQ;unfold XD;refine l2Words_spec fun J v1 l z=>?_;have n:(WL.map Value.string).length=28:=rfl;have a:V->∃k:Nat,o=k/\k<28/\k≠24/\1<=k/\WL.getD k ⟨#[]⟩≠⟨#[]⟩/\s=WL.getD k ⟨#[]⟩:=fun h=>by
  obtain⟨g,q,x⟩:=F h;obtain⟨k,rfl⟩:∃k:Nat,o=k:=⟨o.toNat,by omega⟩;have y:=wordsL_get ⟨k,by omega⟩ (by show k≠24;omega);refine⟨k,rfl,by omega,by omega,by omega,fun e=>?_,str_ext (by rw[g];exact y.symm)⟩;have H:WL.getD (⟨k,by omega⟩:Fin 28).1 ⟨#[]⟩=⟨#[]⟩:=e;rw[H] at y;exact M.word_ne ⟨k,by omega⟩ (by show 1<=k;omega) (by show k<=17\/k=22\/k=23\/25<=k;omega) y.symm
 refine vloop_up 28 (fun i u w'=> ∃j:Nat,j=i+1/\u=[.int .i64 j]/\Ext J w'/\(V->∀k:Nat,o=k->j<=k)) ⟨1,rfl,rfl,Same.refl _ _,fun h k e=>by have:=F h;omega⟩ ?_;rintro i _ _ B C L ⟨j,N,rfl,b,hinv⟩ I;have f:=z.ext b;simp(disch:=first|(simp only[push_cast];done)|omega) only[push_cast,f.len,n];refine zd (fun c=>?_) (fun c=>E B 0 (l.trans b) (by omega) (by omega) fun h=>by
  obtain⟨k,rfl,g,_⟩:=a h;have:=hinv h k rfl;omega)
 have d:j<28:=by omega
 have m:(WL.map Value.string).getD j undef= .string (WL.getD j ⟨#[]⟩):=M.getD_map _ (show j<WL.length from d) _ ⟨#[]⟩;simp(disch:=first|(simp only[push_cast];done)|omega) only[push_cast,f.iaddr,f.load,Int.toNat_natCast,m];have next:(V->∀k:Nat,o=k->j≠k)->C [.int .i64 (IntKind.i64.wrap ((j:Int)+1))] B:=fun h=>by
  rw[inc64' (by omega)];exact I (by omega) _ _ ⟨j+1,by omega,rfl,b,fun G k v=>by have:=hinv G k v;have:=h G k v;omega⟩
 refine zd (fun D=>?_) (fun D=>next fun h k v e=>?_)
 ·refine zd (fun c2=>E B j (l.trans b) (by omega) (by omega) fun h=>?_) (fun c2=>next fun h k v e=>?_)
  ·obtain⟨k,rfl,g,q,x,r,t⟩:=a h;have:=wordsL_inj ⟨k,g⟩ ⟨j,d⟩ q r (by rw[<-t];exact c2);have:j=k:=congrArg Fin.val this;omega
  ·obtain⟨A,rfl,g,q,x,r,t⟩:=a h;have:A=k:=(by omega);subst this;subst e;exact c2 t.symm
 ·obtain⟨A,rfl,g,q,x,r,t⟩:=a h;have:A=k:=(by omega);subst this;subst e;exact D r
theorem Zg {t:TypeId} {k:IntKind} {i:Int} (h:PP.underlying t=some .string) (a:0<=i) (b:i<=s.size):yx PP t (.string s) (some (.int k i)) none none w K=K (.string (s.extract i.toNat s.size)) w:=by
 refine yh ?_;rw[run_sliceAt_string w t _ _ _ _ h];exact run_slice_string_l (P:=PP) w t s h k i a b
theorem dig_get {d:Int} (h:s.data.toList=M.digL d) (e:0<=d) (f:d<10):s.size=1/\((s.data.getD 0 0).toNat:Int)=48+d:=by
 have b:=yB s;rw[h] at b;have c:s.size=1:=b.symm;have a:=qY (s:=s) (i:=0) (by omega);rw[List.drop_zero,h] at a;have:s.data.getD 0 0=UInt8.ofNat (48+d.toNat):=(List.cons.inj a).1.symm;refine⟨c,?_⟩;rw[this];have:(UInt8.ofNat (48+d.toNat)).toNat=48+d.toNat:=by simp[UInt8.toNat_ofNat];omega
 rw[this];omega
theorem l12Num_spec {d:Int} (E:V->s.data.toList=M.digL d/\0<=d/\d<10) (N:s.size<=1000000) (t:∀(n:Int) (b:Bool),(V->n=d)->K (.tuple #[.int .i64 n,.bool b]) w):vcall PP qn #[.string s] w K:=by
 apply QS;unfold Yb;have v:V->s.size=1/\((s.data.getD 0 0).toNat:Int)=48+d/\0<=d/\d<10:=fun h=>by
  obtain⟨j,q,r⟩:=E h;obtain⟨A,B⟩:=dig_get j q r;exact⟨A,B,q,r⟩
 refine zI (fun u w'=> ∃b:Bool,u=[.bool b]/\w'=w/\(V->b=false)/\(b=true->0<s.size)) (fun J e=>?_) ?_
 ·simp only[push_cast,yl yp];refine zd (fun c=>?_) (fun c=>e _ _ ⟨false,rfl,rfl,fun _=>rfl,fun h=>by cases h⟩);rw[vindex_str yp (by omega) (by omega)];simp only[push_cast];refine e _ _ ⟨_,rfl,rfl,fun h=>?_,fun _=>by omega⟩;have:=v h;rw[decide_eq_false];show¬((s.data.getD 0 0).toNat:Int)=45;omega
 rintro _ _ w ⟨b,rfl,rfl,k,l⟩;refine zI (fun u w'=> ∃x:ByteArray,u=[.string x]/\w'=w/\(V->x=s)/\x.size<=s.size) (fun J e=>?_) ?_
 ·try simp only[push_cast]
  refine zR (fun c=>?_) (fun c=>e _ _ ⟨s,rfl,rfl,fun _=>rfl,Nat.le_refl _⟩);have:=l c;rw[Zg yp (by omega) (by omega)];refine e _ _ ⟨_,rfl,rfl,fun h=>?_,?_⟩
  ·have:=k h;rw[c] at this;cases this
  ·rw[ByteArray.size_extract];omega
 rintro _ _ w ⟨x,rfl,rfl,H,I⟩;have dead:∀{n:Int} {b:Bool},¬V->K (.tuple #[.int .i64 n,.bool b]) w:=fun h=>t _ _ fun G=>absurd G h;have a:V->x.size=1/\((x.data.getD 0 0).toNat:Int)=48+d/\0<=d/\d<10:=fun h=>by rw[H h];exact v h
 refine zI (fun u w'=>w'=w) (fun J e=>?_) ?_
 ·simp only[push_cast,yl yp];refine zd (fun c=>dead fun h=>by have:=a h;omega) (fun c=>?_);refine zd (fun c2=>dead fun h=>by have:=a h;omega) (fun c2=>?_);rw[vindex_str yp (by omega) (by omega)];simp only[push_cast];refine zd (fun c3=>?_) (fun c3=>e _ _ rfl)
  try simp only[push_cast,yl yp]
  refine zd (fun c4=>dead fun h=>by have:=a h;omega) (fun c4=>?_);refine zR (fun c5=>dead fun h=>by have:=k h;rw[c5] at this;cases this) (fun c5=>e _ _ rfl)
 rintro _ _ w rfl;refine vloop_up x.size (fun i u w'=> ∃n:Int,u=[.int .i64 n,.int .i64 i]/\w'=w/\(V->n=if i=0 then 0 else d)) ⟨0,rfl,rfl,fun _=>rfl⟩ ?_;rintro i _ _ w C L ⟨n,rfl,rfl,y⟩ D;simp only[push_cast,yl yp];refine zd (fun c=>?_) (fun c=>?_)
 ·have o:i<x.size:=(by omega);have f:∀(w':World) (K:Value->World->Prop),yG PP ze (.string x) (.int .i64 i) w' K=K (.int .u8 ((x.data.getD i 0).toNat:Int)) w':=fun w' K=>(by rw[vindex_str yp (by omega) (by omega),Int.toNat_natCast]);have p:V->i=0:=fun h=>by have:=a h;omega
  have m:V->((x.data.getD i 0).toNat:Int)=48+d:=fun h=>by rw[p h];exact(a h).2.1
  rw[f];simp only[push_cast];refine zd (fun z=>dead fun h=>by have:=a h;have:=m h;omega) (fun z=>?_);rw[f];simp only[push_cast];refine zd (fun c2=>dead fun h=>by have:=a h;have:=m h;omega) (fun c2=>?_);rw[f];have F:((x.data.getD i 0).toNat:Int)<256:=by have:=(x.data.getD i 0).toNat_lt;omega
  simp only[push_cast];rw[wrapB (by omega) (by omega),qx YT Ji,jw,inc64' (by omega)];refine D o _ _ ⟨_,rfl,rfl,fun h=>?_⟩;have j:=y h;rw[p h,if_pos rfl] at j;have:=m h;have:=a h;rw[if_neg (by omega),j,zF (x:=((x.data.getD i 0).toNat:Int)-48) (by omega) (by omega),show IntKind.i64.wrap (0*10)=0 from rfl,zF (by omega) (by omega)];omega
 ·have g:V->n=d:=fun h=>by rw[y h,if_neg];have:=a h;omega
  refine zR (fun c5=>?_) (fun c5=>t _ _ g);have: ¬V:=fun h=>by have:=k h;rw[c5] at this;cases this
  try simp only[push_cast]
  exact dead this
end Go.Proofs.YtaemeijeaajoeaaGreatDoor
end
section
namespace Go.Proofs.YtaemeijeaajoeaaGreatDoor
open Go Go.Vc Go.Proofs
variable {w w':World} {K:Value→World→Prop} {s:ByteArray} {V:Prop} {ds:List M.Dcl} {u t:M.Tm} {r:List UInt8}
theorem Jj {l:List UInt8} (h:s.data.toList=l) (i:Nat):s.data.getD i 0=l.getD i 0:=by
 subst h;rw[Array.getD_eq_getD_getElem?,List.getD_eq_getElem?_getD,Array.getElem?_toList]
theorem vecL_get {wd n i:Nat} (a:1<=i) (b:i<=wd):(M.vecL wd n).getD i 0=Q6 n (wd-i):=by
 unfold M.vecL Q6;obtain⟨j,rfl⟩:∃j,i=j+1:=⟨i-1,by omega⟩;rw[List.getD_cons_succ,List.getD_eq_getElem?_getD,List.getElem?_map,List.getElem?_reverse (by simp;omega),List.length_range,List.getElem?_range (by omega)];simp only[Option.map_some,Option.getD_some];rw[show wd-1-j=wd-(j+1) by omega]
theorem bitC_nat (n k:Nat):((Q6 n k).toNat:Int)=48+((n/2^k%2:Nat):Int):=by
 unfold Q6;rcases(by omega:n/2^k%2=0\/n/2^k%2=1) with h|h<;>rw[h]<;>rfl
theorem half_step {n k:Nat}:n/2^k=2*(n/2^(k+1))+n/2^k%2:=by
 rw[Nat.pow_succ,<-Nat.div_div_eq_div_mul];omega
theorem leaf_eta (e:M.sortM ds u≠ -1) (h:M.leafT u):u= .mk u.op u.a u.b u.s []:=by
 have d:u.ks=[]:=by
  obtain⟨c,f,g⟩:=M.right_op e;refine List.eq_nil_of_length_eq_zero ?_;unfold M.leafT at h;unfold M.arity at c;rw[if_pos h] at c;omega
 cases u;simp only[M.Tm.ks] at d;subst d;rfl
theorem spec_VecRead_spec {wd n:Nat} (D:V->s.data.toList=M.vecL wd n/\1<=wd/\wd<=4/\n<2^wd) (hz:s.size<=1000000) (hK:∀w' (a b:Int) (ok:Bool),Ext w w'->(ok=true->s.data.getD 0 0=35/\0<s.size)->(V->ok=true/\a=wd/\b=n)->K (.tuple #[JB a b,.bool ok]) w'):vcall PP j7 #[.string s] w K:=by
 apply XX;unfold Z7;refine zw xG fun b1 P a4 l a7 d=>?_;have O:V->s.size=wd+1:=fun h=>by have:=yB s;rw[(D h).1,YP] at this;omega
 have hc:V->∀i,1<=i->i<=wd->s.data.getD i 0=Q6 n (wd-i):=fun h i A g=>by rw[Jj (D h).1,vecL_get A g]
 have fin:∀{f:World} {p q:Int} {ok:Bool} {x y:Value},Ext w f->Blk f b1 [x,y] zf->(ok=true->s.data.getD 0 0=35/\0<s.size)->(V->ok=true/\p=wd/\q=n)->zk PP zf (.pointer (some ⟨b1,0,none⟩)) (JB p q) f fun _ z=>vlv PP zf (.pointer (some ⟨b1,0,none⟩)) z fun r w4=>K (.tuple #[r,.bool ok]) w4:=fun{f p q ok x y} he U A g=>by
  refine stVec U fun z E a1 B=>?_;rw[B.lv xM];exact hK z p q ok (Ext.then he E fun y L=>by subst L;omega) A g
 have bad:∀{f:World} {x y:Value},Ext w f->Blk f b1 [x,y] zf->¬V->zr PP zf [] f fun t z=>zk PP zf (.pointer (some ⟨b1,0,none⟩)) t z fun _ z=>vlv PP zf (.pointer (some ⟨b1,0,none⟩)) z fun r w4=>K (.tuple #[r,.bool false]) w4:=fun{f x y} he U h=>by
  rw[Va];exact fin he U (fun h=>by cases h) fun hv=>absurd hv h
 refine zI (fun u w'=>w'=P/\s.data.getD 0 0=35/\2<=s.size) (fun J N=>?_) ?_
 ·rw[yl yp];simp only[qi];refine zd (fun c=>bad l d fun h=>by have:=O h;have:=D h;omega) (fun c=>?_);rw[yl yp];simp only[qR];refine zd (fun c2=>bad l d fun h=>by have:=O h;have:=D h;omega) (fun c2=>?_);rw[vindex_str yp (by omega) (by omega)];simp only[YR];refine zd (fun c3=>bad l d fun h=>?_) (fun c3=>N _ _ ⟨rfl,?_,by omega⟩)
  ·apply c3;have:=Jj (D h).1 0;show((s.data.getD 0 0).toNat:Int)=35;rw[this];rfl
  ·have:((s.data.getD 0 0).toNat:Int)=35:=by
    by_cases e:((s.data.getD 0 0).toNat:Int)=35
    ·exact e
    ·exact absurd e c3
   exact u8_eq (n:=35) this
 rintro _ _ P ⟨rfl,S,g⟩;rw[yl yp,JZ,zF (by omega) (by omega)];have eb:∀(w':World) (K:Value->World->Prop),zr PP zf [(0,.int .i64 ((s.size:Int)-1))] w' K=K (JB ((s.size:Int)-1) 0) w':=fun w' K=>ye jo (us:=[[.int .i64 ((s.size:Int)-1)]]) rfl rfl;rw[eb];refine zw xG fun b2 f a5 Z a8 W=>?_;refine stVec W fun z E a1 B=>?_;have Q:Ext P z:=Ext.then Z E fun y L=>by subst L;omega
 have q3:=d.ext Q;refine vloop_up s.size (fun i u w'=> ∃(j:Nat) (m:Int),j=i+1/\u=[.int .i64 j]/\Ext w w'/\Blk w' b1 [.int .i64 0,.int .i64 0] zf/\Blk w' b2 [.int .i64 ((s.size:Int)-1),.int .i64 m] zf/\P.heap.size<=w'.heap.size/\(V->i<=wd/\m=((n/2^(wd-i):Nat):Int))) ⟨1,0,rfl,rfl,l.trans Q,q3,B,Q.size,fun h=>⟨by omega,?_⟩⟩ ?_
 ·have T:=D h;rw[Nat.sub_zero,Nat.div_eq_of_lt T.2.2.2];rfl
 rintro i _ _ w5 C hi ⟨j,m,hj,rfl,R,p5,q5,a9,hm⟩ hC;rw[yl yp];simp only[push_cast];refine zd (fun c=>?_) (fun c=>?_)
 ·have G:V->j<=wd:=fun h=>by have:=O h;omega
  refine zI (fun u w'=>w'=w5) (fun J N=>?_) ?_
  ·rw[vindex_str yp (by omega) (by omega)];simp only[push_cast];refine zd (fun c1=>?_) (fun c1=>N _ _ rfl);rw[vindex_str yp (by omega) (by omega)];simp only[push_cast];refine zd (fun c2=>fin R p5 (fun h=>by cases h) fun h=>absurd h fun h=>?_) (fun c2=>N _ _ rfl);have A:=bitC_nat n (wd-j);rw[<-hc h j (by omega) (G h)] at A;omega
  rintro _ _ w5 rfl;refine zU fun w6 o _=>?_;have p6:=p5.ext o;have q6:=q5.ext o;have a6:((s.data.getD j 0).toNat:Int)<256:=by have:=(s.data.getD j 0).toNat_lt;omega
  have a0:∀(w':World) (K:Value->World->Prop),yG PP ze (.string s) (.int .i64 j) w' K=K (.int .u8 ((s.data.getD j 0).toNat:Int)) w':=fun w' K=>(by rw[vindex_str yp (by omega) (by omega),Int.toNat_natCast]);simp(disch:=first|(simp only[push_cast];done)|omega) only[push_cast,q6.ld1,a0,qx YT Ji,true_and];refine q6.st (i:=1) rfl rfl jQ rfl fun w7 I aa X=>?_;have z6:=o.size;have a2:=d.lt;rw[inc64' (by omega)];refine hC (by omega) _ _ ⟨j+1,_,by omega,rfl,Ext.then (R.trans o) I fun y L=>by subst L;omega,p6.same I (by omega),X,by omega,fun h=>?_⟩;obtain⟨A,g⟩:=hm h;have H:=G h;have Y:=hc h j (by omega) H;have F:=bitC_nat n (wd-j);rw[<-Y] at F;have v:=half_step (n:=n) (k:=wd-j);rw[show wd-j+1=wd-i by omega] at v;have a3:n<16:=by
   have T:=D h;have:(2:Nat)^wd<=2^4:=Nat.pow_le_pow_right (by omega) T.2.2.1;omega
  have:n/2^(wd-i)<=n:=Nat.div_le_self _ _;refine⟨by omega,?_⟩;rw[show i+1=j by omega,F,g];rw[show(48:Int)+((n/2^(wd-j)%2:Nat):Int)-48=((n/2^(wd-j)%2:Nat):Int) by omega];have hq:n/2^(wd-j)%2<2:=Nat.mod_lt _ (by decide);generalize n/2^(wd-j)%2=q at v hq⊢;generalize n/2^(wd-j)=x at v⊢;generalize n/2^(wd-i)=y at v this⊢;rw[wrapB (by omega) (by omega),zF (x:=(y:Int)*2) (by omega) (by omega),zF (x:=(q:Int)) (by omega) (by omega),zF (by omega) (by omega)];omega
 ·rw[q5.ldAgg xM];refine fin R p5 (fun _=>⟨S,by omega⟩) fun h=>?_;obtain⟨A,g⟩:=hm h;have h3:=O h;have:i=wd:=(by omega);subst this;rw[Nat.sub_self,Nat.pow_zero,Nat.div_one] at g;exact⟨rfl,by omega,g⟩
end Go.Proofs.YtaemeijeaajoeaaGreatDoor
end
section
namespace Go.Proofs.YtaemeijeaajoeaaGreatDoor
open Go Go.Vc Go.Proofs
variable {w:World} {K:Value→World→Prop} {F F' D G:Nat→Prop}
@[push_cast] theorem Kq:zr PP za [] w K=K (.agg ⟨ZE⟩) w:=ye xN (us:=[]) rfl rfl
theorem TermSame_spec:∀(t:M.Tm) {w:World} {K:Value->World->Prop} {F G:Nat->Prop} {va vb:Value} {u:M.Tm},TermR F w va t->TermR G w vb u->(∀w',Ext w w'->K (.bool (decide (t=u))) w')->vcall PP yU #[va,vb] w K:=by
 refine M.Tm.ind fun t ih w K F G va vb u ha hb S=>?_;apply Xx;unfold ku;obtain⟨kva,rfl,p⟩:=ha;obtain⟨kvb,rfl,D⟩:=hb;refine zB fun b1 w1 a0 N a4 J=>?_;refine zB fun b2 w2 a1 s a5 k=>?_;have I:=J.ext s;have f:=N.trans s;have no:∀w',Ext w w'->t≠u->K (.bool false) w':=fun w' h hn=>by
  have:=S w' h;rwa[decide_eq_false hn] at this
 simp(disch:=(simp only[push_cast];done)) only[push_cast,I.ld0,k.ld0,I.ld1,k.ld1,I.ld2,k.ld2,I.ld3,k.ld3,I.ld4,k.ld4];refine zd (fun U=>?_) (fun e=>no _ f fun h=>e (by rw[h]));refine zd (fun V=>?_) (fun e=>no _ f fun h=>e (by rw[h]));refine zd (fun W=>?_) (fun e=>no _ f fun h=>e (by rw[h]));refine zd (fun X=>?_) (fun e=>no _ f fun h=>e (by rw[h]));apply yo;unfold zQ;have B:=p.ext f;have E:=D.ext f;have a8:=p.small;simp(disch:=(simp only[push_cast];done)) only[push_cast,B.len,E.len];refine zd (fun e=>no _ f fun h=>e (by rw[h])) (fun el=>?_);have el:t.ks.length=u.ks.length:=by omega
 refine vloop_up t.ks.length (fun i x w'=>x=[.int .i64 i]/\Ext w w'/\∀j,j<i->t.ks.getD j default=u.ks.getD j default) ⟨rfl,f,fun j T=>absurd T (by omega)⟩ ?_;rintro i _ _ Q C hi ⟨rfl,c,g⟩ hC;have l:=p.ext c;have L:=D.ext c;simp(disch:=first|(simp only[push_cast];done)|omega) only[push_cast,l.len];refine zd (fun a=>?_) (fun a=>?_)
 ·simp(disch:=first|(simp only[push_cast];done)|omega) only[push_cast,l.iaddr];refine l.load zm (by omega) fun x hx=>?_;obtain⟨cx,rfl,m⟩:=hx.cells;refine zw zt fun b4 w4 a2 v a6 Y=>?_;refine stTerm Y rfl ((m.weaken (F':=fun b=>b<Q.heap.size) fun b _ h=>h).ext v) fun R O a9 Z=>?_;have o:Ext Q R:=Ext.then v O fun y H=>by subst H;omega
  have r:=L.ext o;simp(disch:=first|(simp only[push_cast];done)|omega) only[push_cast,r.iaddr];refine r.load zm (by omega) fun y H=>?_;obtain⟨cy,rfl,n⟩:=H.cells;refine zw zt fun b6 w6 a3 z a7 h6=>?_;refine stTerm h6 rfl ((n.weaken (F':=fun b=>b<R.heap.size) fun b _ h=>h).ext z) fun w7 P aa h7=>?_;have d:Ext R w7:=Ext.then z P fun y H=>by subst H;omega
  rw[(Z.ext d).ldAgg (t:=za) (by rw[yd m];exact zm),h7.ldAgg (t:=za) (by rw[yd n];exact zm)];simp only[push_cast,List.append_nil,List.nil_append];have q:=c.trans (o.trans d);refine ih _ (M.getD_mem (by omega) _) (m.ext (o.trans d)).term (n.ext d).term fun w8 A=>?_;simp only[push_cast];refine zR (fun b=>?_) (fun b=>?_)
  ·rw[Bool.not_eq_true',decide_eq_false_iff_not] at b;exact no _ (q.trans A) fun h=>b (by rw[h])
  ·rw[Bool.not_eq_false',decide_eq_true_eq] at b;rw[inc64' (by omega)];refine hC (by omega) _ _ ⟨rfl,q.trans A,fun j T=>?_⟩;by_cases e:j<i
   ·exact g j e
   ·have:j=i:=(by omega);subst this;exact b
 ·have:t=u:=M.tm_ext U V W X (List.ext_getElem el fun j J k=>by
   have:=g j (by omega);rwa[List.getD_eq_getElem?_getD,List.getElem?_eq_getElem J,List.getD_eq_getElem?_getD,List.getElem?_eq_getElem k] at this)
  have:=S Q c;rwa[decide_eq_true ‹t=u›] at this
end Go.Proofs.YtaemeijeaajoeaaGreatDoor
end
section
namespace Go.Proofs.YtaemeijeaajoeaaGreatDoor
open Go Go.Vc Go.Proofs
variable {w w':World} {K:Value→World→Prop} {s:ByteArray} {V:Prop} {ds:List M.Dcl} {u t:M.Tm} {r:List UInt8} {n:Nat}
def Good (ds:List M.Dcl) (n:Nat) (u:M.Tm):Prop:=M.declOk ds=true∧M.sortM ds u≠ -1∧M.deepM u≤n
def RdT (K:Value→World→Prop) (V:Prop) (u:M.Tm) (r:List UInt8) (s:ByteArray) (w:World):Prop:=
 ∀w' tv t (e:Int),Ext w w'→TermR (fun x=>w.heap.size≤x) w' tv t→(e= -1∨(0≤e∧e≤s.size))→(V→t=u∧0≤e∧e≤s.size∧s.data.toList.drop e.toNat=r)→K (.tuple #[tv,.int .i64 e]) w'
theorem leaf_name (n:M.declOk ds=true) (d:M.sortM ds u≠ -1) (h:M.leafT u) (c:s.data.toList=M.textL u):(u.op=24/\s=⟨#[116,114,117,101]⟩/\u= .mk 24 0 0 M.nada [])\/(u.op=20/\s.data.getD 0 0=35/\s≠⟨#[116,114,117,101]⟩/\s.data.toList=M.vecL u.a.toNat u.b.toNat/\M.vok u.a u.b=true/\u= .mk 20 u.a u.b M.nada [])\/(u.op=21/\(0<s.size->s.data.getD 0 0≠35)/\s≠⟨#[116,114,117,101]⟩/\u= .mk 21 0 0 s []):=by
 obtain⟨_,m,q,_⟩:=M.leaf_ok n d h;have he:=leaf_eta d h;have g:=(M.right_op d).2.1;rw[q] at c m;unfold M.textF at c m;rcases h with o|o|o
 ·right;left;rw[if_pos o] at c;have l:s.data.getD 0 0=35:=by rw[Jj c];rfl
  refine⟨o,l,fun e=>?_,c,M.vec_ok d o,?_⟩
  ·rw[e] at l;revert l;decide
  ·rw[o,M.plain_s g (by omega)] at he;exact he
 ·right;right;rw[if_neg (by omega),if_pos o] at c;have f:s=u.s:=str_ext c;obtain⟨w,r,t⟩:=M.name_ok n d o;refine⟨o,fun v e=>?_,fun e=>r (by rw[<-f,e];rfl),?_⟩
  ·have p:=qY (s:=s) (i:=0) v;rw[List.drop_zero,e] at p;have:=t 35 (by rw[<-c,p];exact List.mem_cons_self);revert this;decide
  ·obtain⟨j,k⟩:=M.plain_ab g (by omega);rw[o,j,k,<-f] at he;exact he
 ·left;rw[if_neg (by omega),if_neg (by omega),if_pos o] at c;obtain⟨j,k⟩:=M.plain_ab g (by omega);rw[o,j,k,M.plain_s g (by omega)] at he;exact⟨o,str_ext c,he⟩
theorem vok_nat {a b:Int} (h:M.vok a b=true):∃wd n:Nat,a=wd/\b=n/\1<=wd/\wd<=4/\n<2^wd:=by
 obtain⟨c,d,e,f⟩:=M.vok_iff.1 h;refine⟨a.toNat,b.toNat,by omega,by omega,by omega,by omega,?_⟩;have g:((2^a.toNat:Nat):Int)=2^a.toNat:=Ql _;omega
theorem l2Leaf_spec (z:V->M.declOk ds=true/\M.sortM ds u≠ -1/\M.leafT u/\s.data.toList=M.textL u) (hz:s.size<=1000000) (U:∀w' tv t,Ext w w'->TermR (fun _=>False) w' tv t->(V->t=u)->K tv w'):vcall PP jB #[.string s] w K:=by
 apply QK;unfold Y4;refine zw zt fun b1 w1 W l a0 j=>?_;have A:V->_:=fun h=>leaf_name (z h).1 (z h).2.1 (z h).2.2.1 (z h).2.2.2;have fin:∀{g:World} {o a b:Int} {x:ByteArray},Ext w g->Blk g b1 ZE za->(V->u= .mk o a b x [])->zk PP za (.pointer (some ⟨b1,0,none⟩)) (.agg ⟨[.int .i64 o,.int .i64 a,.int .i64 b,.string x,.slice none 0 0]⟩) g fun _ B=>vlv PP za (.pointer (some ⟨b1,0,none⟩)) B fun r L=>K r L:=fun{g o a b x} he T h=>by
  refine qB T rfl (Yo (G:=fun _=>False) o a b x) (fun x hx=>hx.elim) fun B F J Y=>?_;exact U B _ _ (Ext.then he F fun y I=>by subst I;omega) Y fun Z=>(h Z).symm
 simp only[xH];refine zd (fun c=>?_) (fun c=>?_)
 ·rw[Wz];refine fin l j fun h=>?_;rcases A h with h|h|h
  ·exact h.2.2
  ·exact absurd c h.2.2.1
  ·exact absurd c h.2.2.1
 have d:(V/\u.op=20)->s.data.toList=M.vecL u.a.toNat u.b.toNat/\1<=u.a.toNat/\u.a.toNat<=4/\u.b.toNat<2^u.a.toNat/\u.a=u.a.toNat/\u.b=u.b.toNat/\u= .mk 20 u.a u.b M.nada []:=fun h=>by
  rcases A h.1 with q|q|q
  ·omega
  ·obtain⟨wd,n,N,O,C⟩:=vok_nat q.2.2.2.2.1;have Q:u.a.toNat=wd:=(by omega);have v:u.b.toNat=n:=(by omega);refine⟨q.2.2.2.1,by omega,by omega,?_,by omega,by omega,q.2.2.2.2.2⟩;rw[Q,v];exact C.2.2
  ·omega
 refine spec_VecRead_spec (V:=V/\u.op=20) (wd:=u.a.toNat) (n:=u.b.toNat) (fun h=>⟨(d h).1,(d h).2.1,(d h).2.2.1,(d h).2.2.2.1⟩) hz fun g a b ok m i e=>?_;have v:=l.trans m;simp only[yc,yb];refine zw xG fun b3 B X E J D=>?_;refine stVec D fun L H a1 k=>?_;have f:Ext g L:=Ext.then E H fun y I=>by subst I;omega
 have P:=(j.ext m).ext f;refine zR (fun c5=>?_) (fun c5=>?_)
 ·simp(disch:=first|(simp only[push_cast];done)|omega) only[push_cast,k.ld0,k.ld1];refine fin (v.trans f) P fun h=>?_;have p:u.op=20:=by
   rcases A h with q|q|q
   ·exact absurd q.2.1 c
   ·exact q.1
   ·exact absurd (i c5).1 (q.2.1 (i c5).2)
  obtain⟨_,N,O⟩:=e ⟨h,p⟩;obtain⟨_,_,_,_,C,R,S⟩:=d ⟨h,p⟩;rw[N,O,<-C,<-R];exact S
 ·rw[U3];refine fin (v.trans f) P fun h=>?_;rcases A h with q|q|q
  ·exact absurd q.2.1 c
  ·have:=(e ⟨h,q.1⟩).1;rw[c5] at this;cases this
  ·exact q.2.2.2
theorem K3 (c:M.sortM ds u≠ -1) (h: ¬M.leafT u):u= .mk u.op u.a u.b M.nada u.ks:=by
 have:=(M.node_arity' c h).2.2.2.2.2;cases u;simp only[M.Tm.s] at this;subst this;rfl
theorem l2Kids_spec {o a b:Int} {at_:Nat} {us:List M.Tm} (ih:∀{w:World} {K:Value->World->Prop} {k:Nat} {u:M.Tm} {r:List UInt8},k<=s.size->(V->Good ds n u/\M.Stop r/\s.data.toList.drop k=M.textL u++r)->RdT K V u r s w->vcall PP xq #[.string s,.int .i64 k,.int .i64 n] w K)
  (ha:at_<=s.size) (hz:s.size<=1000000) (hV:V->us.length<=3/\(∀u,u∈us->Good ds n u)/\s.data.toList.drop at_=M.kidsL us++41::r) (hK:RdT K V (.mk o a b M.nada us) r s w):
  vcall PP xr #[.string s,.int .i64 at_,.int .i64 n,.agg ⟨[.int .i64 o,.int .i64 a,.int .i64 b,.string M.nada,.slice none 0 0]⟩] w K:=by
 apply QM;unfold Y5;refine zB fun b1 w1 b6 A bb an=>?_;refine zw zt fun L G b7 N bc ao=>?_;have q1:=an.ext N;refine YO (fun m u w'=> ∃(k:Nat) (kv:Value) (ks rest:List M.Tm) (H:Nat->Prop),u=[.int .i64 k]/\m+ks.length=3/\k<=s.size/\Same (fun x=>x=b1\/G.heap.size<=x) G w'/\Blk w' b1 [.int .i64 o,.int .i64 a,.int .i64 b,.string M.nada,kv] za/\Blk w' L ZE za/\LstH H w' kv ks/\(∀x,kv.ownBlock=some x->G.heap.size<=x/\¬H x)/\(∀x,H x->G.heap.size<=x)/\(V->us=ks++rest/\s.data.toList.drop k=M.kidsL rest++41::r)) 3
  ⟨at_,_,[],us,fun _=>False,rfl,rfl,ha,Same.refl _ _,q1,ao,LstH.nil,fun x d=>(by cases d),fun x d=>d.elim,fun h=>⟨rfl,(hV h).2.2⟩⟩ ?_
 rintro m _ _ w3 C ⟨k,kv,ks,rest,H,rfl,hm,hk,a0,T,p2,j,f,hH,Q⟩ hC;have z3:=a0.size;have a4:∀{I:World},Same (fun x=>x=b1\/G.heap.size<=x) G I->Ext w I:=fun h=>Ext.then (A.trans N) h fun y hy=>by rcases hy with h|h<;>omega
 have fin:∀{I:World} {q:Value} {F:List M.Tm} {H4:Nat->Prop} {e:Int},Ext w3 I->Blk I b1 [.int .i64 o,.int .i64 a,.int .i64 b,.string M.nada,q] za->LstH H4 I q F->(∀x,q.ownBlock=some x->G.heap.size<=x)->(∀x,H4 x->G.heap.size<=x)->(e= -1\/(0<=e/\e<=s.size))->(V->F=us/\0<=e/\e<=s.size/\s.data.toList.drop e.toNat=r)->
   zk PP za (.pointer (some ⟨L,0,none⟩)) (.agg ⟨[.int .i64 o,.int .i64 a,.int .i64 b,.string M.nada,q]⟩) I fun _ w5=>vlv PP za (.pointer (some ⟨L,0,none⟩)) w5 fun r w6=>K (.tuple #[r,.int .i64 e]) w6:=fun{I q F H4 e} B z g h3 h4 h5 h6=>by
  have ht:TmR (fun x=>G.heap.size<=x) I [.int .i64 o,.int .i64 a,.int .i64 b,.string M.nada,q] (.mk o a b M.nada F):=TmR.of (t:= .mk o a b M.nada F) (g.tms.weaken fun x d _=>d.elim (h4 x) (h3 x));refine qB (K:=fun v w'=>K (.tuple #[v,.int .i64 e]) w') (p2.ext B) rfl ht (fun x d=>by omega) fun w5 ax az aw=>?_;have e5:Ext w w5:=Ext.then (a4 (a0.trans (Same.of_ext B))) ax fun y hy=>by subst hy;have:=A.size;omega
  refine hK w5 _ _ e e5 (aw.weaken fun x d _=>by have:=A.size;have:=N.size;omega) h5 fun Q=>?_;obtain⟨g1,g2⟩:=h6 Q;exact⟨by rw[g1],g2⟩
 have a5:k<s.size->∀(w':World) (K:Value->World->Prop),yG PP ze (.string s) (.int .i64 k) w' K=K (.int .u8 ((s.data.getD k 0).toNat:Int)) w':=fun h w' K=>by rw[vindex_str yp (by omega) (by omega),Int.toNat_natCast]
 have closes:(V->rest=[])->vbi PP .len [ze] zb [.string s] w3 fun t48 aa=>zj PP .geq zb false (.int .i64 k) t48 aa fun t49 U=>
   vif t49 (zg PP za (.pointer (some ⟨b1,0,none⟩)) U fun t56 ab=>zk PP za (.pointer (some ⟨L,0,none⟩)) t56 ab fun _ ac=>vlv PP za (.pointer (some ⟨L,0,none⟩)) ac fun r8 ad=>K (.tuple #[r8,(.int .i64 (-1))]) ad)
    (yG PP ze (.string s) (.int .i64 k) U fun t53 ae=>zj PP .neq zZ true t53 (.int .u8 41) ae fun t54 W=>
     vif t54 (zg PP za (.pointer (some ⟨b1,0,none⟩)) W fun t56 af=>zk PP za (.pointer (some ⟨L,0,none⟩)) t56 af fun _ ag=>vlv PP za (.pointer (some ⟨L,0,none⟩)) ag fun r8 ah=>K (.tuple #[r8,(.int .i64 (-1))]) ah)
      (zg PP za (.pointer (some ⟨b1,0,none⟩)) W fun t57 ai=>zj PP .add zb true (.int .i64 k) (.int .i64 1) ai fun t59 aj=>zk PP za (.pointer (some ⟨L,0,none⟩)) t57 aj fun _ ak=>vlv PP za (.pointer (some ⟨L,0,none⟩)) ak fun r8 al=>K (.tuple #[r8,t59]) al)):=fun hr=>by
  have a1:V->ks=us/\s.data.toList.drop k=41::r:=fun h=>by
   obtain⟨z,g⟩:=Q h;rw[hr h] at z g;exact⟨by rw[z,List.append_nil],by rw[g];rfl⟩
  rw[yl yp];simp only[YS];refine zd (fun c=>?_) (fun c=>?_)
  ·rw[T.ldAgg zm];refine fin (Same.refl _ _) T j (fun x d=>(f x d).1) hH (.inl rfl) fun h=>?_;have:=(a1 h).2;rw[YV (by omega)] at this;cases this
  have O:k<s.size:=(by omega);have hg:=qY O;rw[a5 O];simp only[YR];refine zd (fun c=>?_) (fun c=>?_)
  ·rw[T.ldAgg zm];refine fin (Same.refl _ _) T j (fun x d=>(f x d).1) hH (.inl rfl) fun h=>?_;have:=(a1 h).2;rw[hg] at this;rw[(List.cons.inj this).1] at c;exact absurd rfl c
  ·rw[T.ldAgg zm,jw,inc64' (by omega)];refine fin (Same.refl _ _) T j (fun x d=>(f x d).1) hH (.inr ⟨by omega,by omega⟩) fun h=>?_;obtain⟨z,g⟩:=a1 h;rw[hg] at g;exact⟨z,by omega,by omega,(List.cons.inj g).2⟩
 refine zI (fun u w'=>w'=w3/\k<s.size/\s.data.getD k 0=32/\ks.length<3) (fun J hJ=>?_) ?_
 ·rw[yl yp];simp only[sl0,qi];refine zd (fun c=>?_) (fun c=>?_)
  ·rw[a5 (by omega)];simp only[kA];refine zd (fun c2=>?_) (fun c2=>?_)
   ·simp(disch:=first|(simp only[push_cast];done)|omega) only[kX,yD,Nat.zero_add,T.ld4,j.tms.len,qi];refine zd (fun c3=>hJ _ _ ⟨rfl,by omega,u8_eq (n:=32) c2,by omega⟩) (fun c3=>closes fun h=>?_);have z:=(Q h).1;have g:=(hV h).1;rw[z,List.length_append] at g;exact List.eq_nil_of_length_eq_zero (by omega)
   ·refine closes fun h=>?_;have g:=(Q h).2;cases rest with
    |nil=>rfl
    |cons x l=>
     rw[qY (by omega),M.kids_cons] at g;rw[(List.cons.inj g).1] at c2;exact absurd rfl c2
  ·refine closes fun h=>?_;have g:=(Q h).2;rw[YV (by omega)] at g;have:=congrArg List.length g;simp at this
 rintro _ _ w3 ⟨rfl,O,am,ba⟩;have hg:=qY O;rw[am] at hg;have E:V->∃x l,rest=x::l/\s.data.toList.drop (k+1)=M.textL x++(M.kidsL l++41::r):=fun h=>by
  obtain⟨z,g⟩:=Q h;cases rest with
  |nil=>rw[hg] at g;exact absurd (List.cons.inj g).1 (by decide)
  |cons x l=>
   rw[hg,M.kids_cons] at g;exact⟨x,l,rfl,(List.cons.inj g).2⟩
 simp only[sl0,jw];rw[inc64' (by omega)];refine ih (u:=rest.headD default) (r:=M.kidsL rest.tail++41::r) (by omega) (fun h=>?_) fun I tv t e B ht b9 S=>?_
 ·obtain⟨x,l,z,g⟩:=E h;subst z;exact⟨(hV h).2.1 x (by rw[(Q h).1];exact List.mem_append_right _ List.mem_cons_self),M.kids_stop,g⟩
 simp only[yc,yb];obtain⟨cs,rfl,X⟩:=ht.cells;refine zw zt fun b5 w5 b8 Y az ap=>?_;refine stTerm ap rfl (X.ext Y) fun w6 ay bd aq=>?_;have z4:=B.size;have z5:=Y.size;have a3:Ext I w6:=Ext.then Y ay fun y hy=>by subst hy;omega
 have p:=B.trans a3;have R:=T.ext p;simp only[qi];refine zd (fun c=>?_) (fun c=>?_)
 ·rw[R.ldAgg zm];refine fin p R (j.ext p) (fun x d=>(f x d).1) hH (.inl rfl) fun h=>?_;have:=(S h).2.1;omega
 simp(disch:=first|(simp only[push_cast];done)|omega) only[kX,yD,Nat.zero_add,R.ld4];rw[aq.ldAgg (t:=za) (by rw[yd X];exact zm)];have au:=j.ext p;refine LstH.push (H2:=fun x=>w3.heap.size<=x) au (fun x d=>⟨(f x d).2,fun h=>by have:=j.lt d;omega⟩) ((X.ext a3).term) (by omega) fun w7 a8 P a6 Z=>?_;have z6:=p.size;have a9:∀x,kv.ownBlock=some x->x≠b1/\x≠L:=fun x d=>by have:=(f x d).1;have:=A.size;omega
 have b0:=R.same P fun h=>(a9 _ h).1 rfl;have b3:=(p2.ext p).same P fun h=>(a9 _ h).2 rfl;refine b0.st (i:=4) Z.tms.cellsV Z.tms.one jR rfl fun w8 a2 be ar=>?_;have z7:=P.size;have D:∀x,a8.ownBlock=some x->G.heap.size<=x:=fun x d=>by
  rcases a6 x d with h|h
  ·exact(f x h).1
  ·omega
 obtain⟨k8,rfl⟩:∃k8:Nat,e=k8:=⟨e.toNat,by omega⟩;have z1:=A.size;have z2:=N.size;have b4:Same (fun x=>x=b1\/G.heap.size<=x) w3 w8:=((Same.of_ext p).trans (P.mono fun x _ d=> .inr (f x d).1)).trans (a2.mono fun x _ d=> .inl d);have av:=Z.same a2 (fun x d e=>by have:=D x d;omega) (fun x d _ e=>by
  rcases d.1 with h|h
  ·have:=hH x h;omega
  ·omega)
 refine hC (m-1) _ _ (by omega) ⟨k8,a8,ks++[t],rest.tail,_,rfl,by rw[List.length_append];simp;omega,by omega,a0.trans b4,ar,b3.same a2 (by omega),av,fun x d=>⟨D x d,fun a7=>?_⟩,fun x d=>?_,fun h=>?_⟩
 ·have:=a7.2;rcases a6 x d with h|h
  ·rcases a7.1 with g|g
   ·exact(f x h).2 g
   ·have:=j.lt h;omega
  ·omega
 ·rcases d.1 with h|h
  ·exact hH x h
  ·omega
 ·obtain⟨x,l,z,g⟩:=E h;obtain⟨g1,g2,g3,g4⟩:=S h;subst z;refine⟨?_,g4⟩;rw[(Q h).1,g1];simp
theorem X1 (f:M.declOk ds=true) (g:M.sortM ds u≠ -1):∃c l,M.textL u=c::l/\(c≠40->M.leafT u)/\(c=40->¬M.leafT u):=by
 by_cases h:M.leafT u
 ·obtain⟨_,b,_,a⟩:=M.leaf_ok f g h;cases e:M.textL u with
  |nil=>exact absurd e b
  |cons c l=>exact⟨c,l,rfl,fun _=>h,fun d=>by rw[e,d] at a;exact absurd rfl a⟩
 ·exact⟨40,_,M.node_text h,fun h=>absurd rfl h,fun _=>h⟩
theorem min_word {k:Nat} (a:k<=s.size):∃m:Nat,min ((k:Int)+1) (s.size:Int)=m/\m<=s.size/\(k<s.size->m=k+1):=
 ⟨min (k+1) s.size,by omega,Nat.min_le_right _ _,fun h=>by omega⟩
theorem drop_cons {k:Nat} {c:UInt8} {l:List UInt8} (h:s.data.toList.drop k=c::l):k<s.size/\s.data.getD k 0=c/\s.data.toList.drop (k+1)=l:=by
 have a:k<s.size:=by
  by_cases e:k<s.size
  ·exact e
  ·rw[YV (by omega)] at h;cases h
 rw[qY a] at h;exact⟨a,(List.cons.inj h).1,(List.cons.inj h).2⟩
theorem l2Read_spec (hz:s.size<=1000000):∀(n:Nat),n<=100->∀{w:World} {K:Value->World->Prop} {k:Nat} {u:M.Tm} {r:List UInt8},k<=s.size->(V->Good ds n u/\M.Stop r/\s.data.toList.drop k=M.textL u++r)->RdT K V u r s w->vcall PP xq #[.string s,.int .i64 k,.int .i64 n] w K:=by
 intro n;induction n with
 |zero=>
  intro _ w K k u r hk q hK;apply ZO;unfold jK;refine zw zt fun b1 P an N b5 S=>?_;have dead: ¬V:=fun h=>by have:=M.deep_pos u;have:=(q h).1.2.2;omega
  have fin:zk PP za (.pointer (some ⟨b1,0,none⟩)) (.agg ⟨ZE⟩) P fun _ H=>vlv PP za (.pointer (some ⟨b1,0,none⟩)) H fun r Q=>K (.tuple #[r,.int .i64 (-1)]) Q:=by
   refine qB (K:=fun v w'=>K (.tuple #[v,.int .i64 (-1)]) w') S rfl (Yo (G:=fun _=>False) 0 0 0 ⟨#[]⟩) (fun x E=>E.elim) fun H Z ab X=>?_;exact hK H _ _ (-1) (Ext.then N Z fun y O=>by subst O;omega) (X.weaken fun x E _=>E.elim) (.inl rfl) fun hv=>absurd hv dead
  refine zI (fun _ _=>False) (fun J hJ=>?_) (fun _ _ _ h=>h.elim);rw[yl yp];simp only[YS,qi,Kq];exact zd (fun c=>fin) (fun c=>zd (fun c=>fin) (fun c=>absurd (show((0:Nat):Int)<1 by omega) c))
 |succ n ih=>
  intro hn w K k u r hk q hK;have b6:=fun{w:World} {K:Value->World->Prop} {k:Nat} {u:M.Tm} {r:List UInt8}=>ih (by omega) (w:=w) (K:=K) (k:=k) (u:=u) (r:=r);apply ZO;unfold jK;refine zw zt fun b1 P an N b5 S=>?_;have z1:=N.size;have fin:∀{F:World} {cs:List Value} {t:M.Tm} {e:Int},Ext P F->TmR (fun x=>P.heap.size<=x) F cs t->(e= -1\/(0<=e/\e<=s.size))->(V->t=u/\0<=e/\e<=s.size/\s.data.toList.drop e.toNat=r)->zk PP za (.pointer (some ⟨b1,0,none⟩)) (.agg ⟨cs⟩) F fun _ H=>vlv PP za (.pointer (some ⟨b1,0,none⟩)) H fun r Q=>K (.tuple #[r,.int .i64 e]) Q:=fun{F cs t e} j X I L=>by
   refine qB (K:=fun v w'=>K (.tuple #[v,.int .i64 e]) w') (S.ext j) rfl X (fun x E=>by omega) fun H Z ab ay=>?_;exact hK H _ _ e (Ext.then (N.trans j) Z fun y O=>by subst O;omega) (ay.weaken fun x E _=>by omega) I L
  have bad:∀{F:World} {o a b:Int} {x:ByteArray},Ext P F->¬V->zk PP za (.pointer (some ⟨b1,0,none⟩)) (.agg ⟨[.int .i64 o,.int .i64 a,.int .i64 b,.string x,.slice none 0 0]⟩) F fun _ H=>vlv PP za (.pointer (some ⟨b1,0,none⟩)) H fun r Q=>K (.tuple #[r,.int .i64 (-1)]) Q:=fun{F o a b x} j h=>fin j (Yo o a b x) (.inl rfl) fun hv=>absurd hv h;have a5:V->∃c l,M.textL u=c::l/\(c≠40->M.leafT u)/\(c=40->¬M.leafT u):=fun h=>X1 (q h).1.1 (q h).1.2.1;have a2:V->∃c l,s.data.toList.drop k=c::l/\(c≠40->M.leafT u)/\(c=40->¬M.leafT u):=fun h=>by
   obtain⟨c,l,I,L⟩:=a5 h;exact⟨c,l++r,by rw[(q h).2.2,I];rfl,L⟩
  refine zI (fun u w'=>w'=P/\k<s.size) (fun J hJ=>?_) ?_
  ·rw[yl yp];simp only[YS,qi,Kq];refine zd (fun c=>bad (Same.refl _ _) fun h=>?_) (fun c=>?_)
   ·obtain⟨c',l,I,_⟩:=a2 h;have:=(drop_cons I).1;omega
   ·exact zd (fun c2=>absurd c2 (by omega)) (fun c2=>hJ _ _ ⟨rfl,by omega⟩)
  rintro _ _ P ⟨rfl,bc⟩;have C:V->(s.data.getD k 0≠40->M.leafT u)/\(s.data.getD k 0=40->¬M.leafT u):=fun h=>by
   obtain⟨c',l,I,L⟩:=a2 h;rw[(drop_cons I).2.1];exact L
  rw[vindex_str yp (by omega) (by omega),Int.toNat_natCast];simp only[YR];refine zd (fun c=>?_) (fun c=>?_)
  ·have hc:s.data.getD k 0≠40:=u8_ne (n:=40) c (by decide);refine l2Word_spec hk hz fun x e I L h3 h4=>?_;simp only[yc,yb,xH,Kq];have hw:V->x.data.toList=M.textL u/\s.data.toList.drop e=r:=fun h=>by
    obtain⟨⟨g1,g2,g3⟩,g4,g5⟩:=q h;obtain⟨g6,g7⟩:=M.leaf_word g1 g2 ((C h).1 hc) g4;rw[h3,h4,g5,g6,g7];exact⟨rfl,rfl⟩
   have be:x.size<=s.size:=by
    have h5:=yB x;rw[h3] at h5;have R:=congrArg List.length (M.wd_rs (s.data.toList.drop k));rw[List.length_append,List.length_drop,yB] at R;omega
   refine zd (fun c2=>bad (Same.refl _ _) fun h=>?_) (fun c2=>?_)
   ·obtain⟨c',l,g,_⟩:=a5 h;have:=(hw h).1;rw[c2,g] at this;cases this
   refine l2Leaf_spec (V:=V) (ds:=ds) (u:=u) (fun h=>⟨(q h).1.1,(q h).1.2.1,(C h).1 hc,(hw h).1⟩) (by omega) fun F tv t j X az=>?_;obtain⟨cs,rfl,U⟩:=X.cells;exact fin j (U.weaken fun x E _=>E.elim) (.inr ⟨by omega,by omega⟩) fun h=>⟨az h,by omega,by omega,by rw[Int.toNat_natCast];exact(hw h).2⟩
  ·have hc:s.data.getD k 0=40:=by
    have:((s.data.getD k 0).toNat:Int)=40:=Classical.not_not.1 c;exact u8_eq (n:=40) this
   have D:V->¬M.leafT u:=fun h=>(C h).2 hc;simp only[jw];rw[inc64' (by omega)];have ao:V->s.data.toList.drop (k+1)=M.wordL u.op++(M.cutL u++(M.kidsL u.ks++41::r)):=fun h=>by
    have g5:=(q h).2.2;rw[M.node_text (D h),List.cons_append] at g5;rw[(drop_cons g5).2.2];simp
   refine l2Word_spec (a:=k+1) (by omega) hz fun x e I L h3 h4=>?_;simp only[yc,yb];have hw:V->x.data.toList=M.wordL u.op/\s.data.toList.drop e=M.cutL u++(M.kidsL u.ks++41::r):=fun h=>by
    obtain⟨⟨g1,g2,g3⟩,g4,g5⟩:=q h;obtain⟨g6,g7⟩:=M.node_word g1 g2 (D h);rw[h3,h4,ao h,g6,g7];exact⟨rfl,rfl⟩
   have B:V->_:=fun h=>M.node_arity' (q h).1.2.1 (D h);refine l2Op_spec (V:=V) (o:=u.op) (fun h=>⟨(hw h).1,(B h).2.2.1,(B h).2.2.2.1⟩) fun F p j bd b7 W=>?_;rw[Wz];refine zw zt fun b3 H bb a3 ab al=>?_;refine stTerm al rfl (Yo (G:=fun _=>False) p 0 0 ⟨#[]⟩) fun Q b0 bf A=>?_;have ai:Ext F Q:=Ext.then a3 b0 fun y O=>by subst O;omega
   have e4:=j.trans ai;refine zI (fun u w'=>w'=Q) (fun J hJ=>?_) ?_
   ·simp(disch:=first|(simp only[push_cast];done)|omega) only[push_cast,A.ld0];rw[A.ldAgg zm];refine zd (fun c2=>bad e4 fun h=>?_) (fun c2=>?_)
    ·have:=(B h).2.2.1;have:=W h;omega
    refine zd (fun c3=>bad e4 fun h=>?_) (fun c3=>hJ _ _ rfl);have:=(B h).2.2.2.1;have:=W h;omega
   rintro _ _ Q rfl;simp(disch:=first|(simp only[push_cast];done)|omega) only[push_cast,A.ld0];have kids:∀{w5:World} {a b:Int} {e5:Nat},Ext P w5->Blk w5 b3 [.int .i64 p,.int .i64 a,.int .i64 b,.string ⟨#[]⟩,.slice none 0 0] za->e5<=s.size->(V->a=u.a/\b=u.b/\s.data.toList.drop e5=M.kidsL u.ks++41::r)->
     zg PP za (.pointer (some ⟨b3,0,none⟩)) w5 fun t68 ac=>vcall PP xr #[.string s,.int .i64 e5,.int .i64 n,t68] ac fun t69 ad=>zq PP t69 0 ad fun t70 ae=>zq PP t69 1 ae fun t71 af=>
      zk PP za (.pointer (some ⟨b1,0,none⟩)) t70 af fun _ ag=>vlv PP za (.pointer (some ⟨b1,0,none⟩)) ag fun r6 ah=>K (.tuple #[r6,t71]) ah:=fun{w5 a b e5} a4 T hle Y=>by
    rw[T.ldAgg zm];refine l2Kids_spec (V:=V) (ds:=ds) (us:=u.ks) (r:=r) (n:=n) b6 hle hz (fun h=>?_) fun w6 tv t e6 aq X h5 R=>?_
    ·obtain⟨⟨g1,g2,g3⟩,g4,g5⟩:=q h;refine⟨(B h).2.1,fun x E=>⟨g1,(M.sort_parts g2).2.1 x E,by have:=M.kid_deep E;omega⟩,(Y h).2.2⟩
    obtain⟨cs,rfl,U⟩:=X.cells;simp only[yc,yb];have z5:=a4.size;refine fin (a4.trans aq) (U.weaken fun x E _=>by omega) h5 fun h=>?_;obtain⟨g1,g2⟩:=R h;refine⟨?_,g2⟩;have:=K3 (q h).1.2.1 (D h);rw[g1,W h,(Y h).1,(Y h).2.1];exact this.symm
   rw[zF (x:=(n:Int)+1-1) (by omega) (by omega),show(n:Int)+1-1=n by omega];refine zd (fun c2=>?_) (fun c2=>?_)
   ·refine kids e4 A L fun h=>?_;obtain⟨g1,g2⟩:=M.plain_zero (q h).1.2.1 (fun e=>D h (.inl e)) (by have:=W h;omega);refine⟨g1.symm,g2.symm,?_⟩;rw[(hw h).2];unfold M.cutL;rw[if_neg (by have:=W h;omega)];rfl
   ·have ba:p=22:=Classical.not_not.1 c2;have a1:V->s.data.toList.drop e=32::(M.digL u.a++(32::(M.digL u.b++(M.kidsL u.ks++41::r)))):=fun h=>by
     rw[(hw h).2];unfold M.cutL;rw[if_pos (by have:=W h;omega)];simp
    have z:V->0<=u.b/\u.b<=u.a/\u.a<4:=fun h=>M.cut_ab (q h).1.1 (q h).1.2.1 (by have:=W h;omega);rw[yl yp,zF (x:=(e:Int)+1) (by omega) (by omega)];refine l1Min_spec ?_;obtain⟨m,hm,av,ar⟩:=min_word L;rw[hm];have ap:V->s.data.toList.drop m=M.digL u.a++(32::(M.digL u.b++(M.kidsL u.ks++41::r))):=fun h=>by
     obtain⟨g1,g2,g3⟩:=drop_cons (a1 h);rw[ar g1,g3]
    refine l2Word_spec av hz fun x1 f h5 R h7 h8=>?_;simp only[yc,yb,jw];have a8:V->x1.data.toList=M.digL u.a/\s.data.toList.drop f=32::(M.digL u.b++(M.kidsL u.ks++41::r)):=fun h=>by
     obtain⟨g1,g2,g3⟩:=z h;obtain⟨g6,g7⟩:=M.dig_word (d:=u.a) (r:=32::(M.digL u.b++(M.kidsL u.ks++41::r))) (by omega) (by omega) (M.stop_cons (.inl rfl));rw[h7,h8,ap h,g6,g7];exact⟨rfl,rfl⟩
    rw[yl yp,zF (x:=(f:Int)+1) (by omega) (by omega)];refine l1Min_spec ?_;obtain⟨m2,au,a7,a6⟩:=min_word R;rw[au];refine l2Word_spec a7 hz fun x2 g h9 aj a0 ak=>?_;simp only[yc,yb];have a9:V->x2.data.toList=M.digL u.b/\s.data.toList.drop g=M.kidsL u.ks++41::r:=fun h=>by
     obtain⟨g1,g2,g3⟩:=z h;obtain⟨g6,g7⟩:=M.dig_word (d:=u.b) (r:=M.kidsL u.ks++41::r) (by omega) (by omega) M.kids_stop;obtain⟨i1,i2,i3⟩:=drop_cons (a8 h).2;rw[a0,ak,a6 i1,i3,g6,g7];exact⟨rfl,rfl⟩
    have aa:∀{y:ByteArray} {k:Nat},y.data.toList=M.wd (s.data.toList.drop k)->y.size<=1000000:=fun{y k} h=>by
     have h5:=yB y;rw[h] at h5;have R:=congrArg List.length (M.wd_rs (s.data.toList.drop k));rw[List.length_append,List.length_drop,yB] at R;omega
    refine l12Num_spec (V:=V) (d:=u.a) (fun h=>⟨(a8 h).1,by have:=z h;omega,by have:=z h;omega⟩) (aa h7) fun na b8 aw=>?_;simp only[yc,yb];refine A.st (i:=1) rfl rfl jQ rfl fun w5 b2 bg T=>?_;refine l12Num_spec (V:=V) (d:=u.b) (fun h=>⟨(a9 h).1,by have:=z h;omega,by have:=z h;omega⟩) (aa a0) fun nb b9 ax=>?_;simp only[yc,yb];refine T.st (i:=2) rfl rfl jQ rfl fun w6 b4 bh am=>?_;have z3:=a3.size;have z2:=j.size;have e6:Ext P w6:=Ext.then (Ext.then e4 b2 fun y O=>by subst O;omega) b4 fun y O=>by subst O;omega
    exact kids e6 am aj fun h=>⟨aw h,ax h,(a9 h).2⟩
end Go.Proofs.YtaemeijeaajoeaaGreatDoor
end
